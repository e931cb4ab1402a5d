/-
  Texts packed together by program: Str, BwP, BlkP, StmP, PrsP, PrsQ, PrsR, ParA, ParB, ParC, ParD, Lat, ParE, ParF. Conditions: as each theorem states.
-/
import Derived.Laws.AppendOwn
import Derived.Laws.BytesArg
import Derived.Laws.IdiomStrings
import Derived.Lib.BytesEntry
import Derived.Test.YtjnjjibmlalpiaaPd
set_option linter.unusedSimpArgs false
set_option linter.unusedVariables false
/- Str -/
namespace Go.Vc
open Go
/-- one row of bytes less than another -/
def lxb : List Nat → List Nat → Bool
  | _, [] => false
  | [], _ :: _ => true
  | a :: x, b :: y => decide (a < b) || (a == b && lxb x y)
/-- the string of some bytes -/
def strOf (b : List Nat) : ByteArray := strOfNums (b.map fun (x : Nat) => (x : Int))
theorem run_toStr {P : Program} {src e dst : TypeId} {s : Sl} {b : List Nat} {w : World} {K : ByteArray → World → Prop} (hs : P.underlying src = some (.slice e)) (he : P.underlying e = some (.int .u8)) (hd : P.underlying dst = some .string)
    (hh : SlT 1 s (b.map vB) w) (hK : K (strOf b) w) : Run P (convert src dst (.slice s.base s.len s.cap)) kStr w K := by
  have hl := hh.1
  simp only [List.length_map, Nat.mul_one] at hl
  have key : (convert src dst (.slice s.base s.len s.cap)).run P w = .ok (.string (strOf b)) w := by
    cases hb : s.base with
    | none =>
      have : b = [] := by
        cases b with
        | nil => rfl
        | cons x b =>
          obtain ⟨p, hp, _⟩ := hh.2 0 (by simp)
          rw [hb] at hp; cases hp
      subst this
      rw [run_convert_bytes_nil w src e hs he _ _ dst hd]; rfl
    | some p =>
      have hc : (loadCells p s.len).run P w = .ok ((b.map fun (x : Nat) => (x : Int)).map (Value.int .u8)).toArray w := by
        have := run_cells (P := P) (w := w) (vs := b.map vB) (p := p) (fun i hi => by
          obtain ⟨q, hq, hc⟩ := hh.2 i hi
          rw [hb] at hq
          cases hq
          exact hc)
        rw [List.length_map, hl] at this
        rw [this, List.map_map]; rfl
      rw [run_convert_bytes_string w src dst e _ _ _ hs he hd, run_bytesToString w _ _ _ _ hc, foldl_push_bytes]
      unfold strOf strOfNums
      simp [ByteArray.empty, ByteArray.emptyWithCapacity]
      rfl
  unfold Run
  rw [key]
  exact hK
/-! bytes and their strings -/
theorem strOf_list (b : List Nat) : (strOf b).toList = b.map UInt8.ofNat := by
  unfold strOf strOfNums
  rw [ByteArray.toList_mk, List.map_map]
  refine List.map_congr_left fun x _ => ?_
  simp
theorem strOf_data (b : List Nat) : (strOf b).data.toList = b.map UInt8.ofNat := by rw [← ByteArray.toList_eq, strOf_list]
theorem u8_inj {a b : Nat} (ha : a < 256) (hb : b < 256) (h : UInt8.ofNat a = UInt8.ofNat b) : a = b := by
  have := congrArg UInt8.toNat h
  simp only [UInt8.toNat_ofNat'] at this
  omega
theorem u8_lt {a b : Nat} (ha : a < 256) (hb : b < 256) : (UInt8.ofNat a < UInt8.ofNat b) ↔ a < b := by
  rw [UInt8.lt_iff_toNat_lt]
  simp only [UInt8.toNat_ofNat']
  omega
theorem map_u8_inj : ∀ {a b : List Nat}, (∀ x ∈ a, x < 256) → (∀ x ∈ b, x < 256) → a.map UInt8.ofNat = b.map UInt8.ofNat → a = b
  | [], [], _, _, _ => rfl
  | [], _ :: _, _, _, h => by cases h
  | _ :: _, [], _, _, h => by cases h
  | x :: a, y :: b, ha, hb, h => by
    simp only [List.map_cons, List.cons.injEq] at h
    rw [u8_inj (ha x (by simp)) (hb y (by simp)) h.1, map_u8_inj (fun z hz => ha z (by simp [hz])) (fun z hz => hb z (by simp [hz])) h.2]
theorem strOf_eq {a b : List Nat} (ha : ∀ x ∈ a, x < 256) (hb : ∀ x ∈ b, x < 256) : ((strOf a).toList == (strOf b).toList) = (a == b) := by
  rw [strOf_list, strOf_list, Bool.eq_iff_iff, beq_iff_eq, beq_iff_eq]
  exact ⟨map_u8_inj ha hb, fun e => by rw [e]⟩
theorem strOf_less : ∀ {a b : List Nat}, (∀ x ∈ a, x < 256) → (∀ x ∈ b, x < 256) → Op.bytesLess (a.map UInt8.ofNat) (b.map UInt8.ofNat) = lxb a b
  | [], [], _, _ => rfl
  | [], _ :: _, _, _ => rfl
  | _ :: _, [], _, _ => rfl
  | x :: a, y :: b, ha, hb => by
    have hx := ha x (by simp)
    have hy := hb y (by simp)
    have ih := strOf_less (a := a) (b := b) (fun z hz => ha z (by simp [hz])) (fun z hz => hb z (by simp [hz]))
    simp only [List.map_cons, Op.bytesLess, ih]
    show _ = (decide (x < y) || (x == y && lxb a b))
    have e1 : decide (UInt8.ofNat x < UInt8.ofNat y) = decide (x < y) := by rw [decide_eq_decide]; exact u8_lt hx hy
    have e2 : (UInt8.ofNat x == UInt8.ofNat y) = (x == y) := by rw [Bool.eq_iff_iff, beq_iff_eq, beq_iff_eq]; exact ⟨u8_inj hx hy, fun e => by rw [e]⟩
    rw [e1, e2]
theorem cmp_less : ∀ {a b : List Nat}, (∀ x ∈ a, x < 256) → (∀ x ∈ b, x < 256) → (Lib.compareBytes (a.map UInt8.ofNat) (b.map UInt8.ofNat) < 0 ↔ lxb a b = true)
  | [], [], _, _ => by simp [Lib.compareBytes, lxb]
  | [], _ :: _, _, _ => by simp [Lib.compareBytes, lxb]
  | _ :: _, [], _, _ => by simp [Lib.compareBytes, lxb]
  | x :: a, y :: b, ha, hb => by
    have hx := ha x (by simp)
    have hy := hb y (by simp)
    have ih := cmp_less (a := a) (b := b) (fun z hz => ha z (by simp [hz])) (fun z hz => hb z (by simp [hz]))
    simp only [List.map_cons, Lib.compareBytes, u8_lt hx hy, u8_lt hy hx]
    show _ ↔ (decide (x < y) || (x == y && lxb a b)) = true
    simp only [Bool.or_eq_true, Bool.and_eq_true, decide_eq_true_eq, beq_iff_eq]
    split
    · simp; omega
    · split
      · simp; omega
      · rw [ih]
        have : x = y := by omega
        simp [this]
/-- bytes that may be read, not written -/
def RdB (sl : Sl) (b : List Nat) : HP := fun f => ∃ blk arr t fr, sl.base = some ⟨blk, 0, none⟩ ∧ sl.len = b.length ∧ sl.len ≤ sl.cap ∧ (∀ i (hi : i < b.length), arr[i]? = some (vB b[i])) ∧ f = Frag.one blk (.cells arr t fr)
section
variable {E w : World} {F : List HP}
theorem Tells.rdB {sl : Sl} {b : List Nat} : Tells (RdB sl b :: F) (SlT 1 sl (b.map vB)) := by
  rintro w f a ⟨g, k, hd, rfl, ⟨blk, arr, t, fr, h1, h2, _, h4, h5⟩, _⟩
  subst h5
  refine ⟨by rw [List.length_map, h2]; omega, fun i hi => ⟨_, h1, ?_⟩⟩
  rw [List.length_map] at hi
  have hb : w.heap[blk]? = some (.cells arr t fr) := a blk _ (by simp [Frag.add, Frag.one])
  rw [add_mk, Nat.zero_add]
  have : w.cell? ⟨blk, i, none⟩ = arr[i]? := by simp [World.cell?, hb]
  rw [this, h4 i hi]; simp
theorem RdB.cap {sl : Sl} {b : List Nat} (h : Hp E w (RdB sl b :: F)) : sl.len ≤ sl.cap := by
  obtain ⟨f, a, g, k, hd, rfl, ⟨blk, arr, t, fr, _, _, h3, _, _⟩, _⟩ := h.frag
  exact h3
/-- a string to bytes -/
theorem run_toBytes {P : Program} {src dst e : TypeId} {b : List Nat} {K : Sl → World → Prop} (hs : P.underlying src = some .string) (hd : P.underlying dst = some (.slice e)) (he : P.underlying e = some (.int .u8)) (hb : ∀ x ∈ b, x < 256)
    (h : Hp E w F) (hK : ∀ s w', Hp E w' (RdB s b :: F) → K s w') : Run P (convert src dst (.string (strOf b))) kS w K := by
  have hsz : (strOf b).size = b.length := by unfold strOf; rw [strOfNums_size, List.length_map]
  unfold Run
  rw [run_bytes_of_string w src dst e _ hs hd he]
  have hge := grownCap_ge w (strOf b).size 0 e
  obtain ⟨c, hc⟩ : ∃ c, c = grownCap w (strOf b).size 0 e := ⟨_, rfl⟩
  rw [← hc] at hge ⊢
  refine hK ⟨some ⟨w.heap.size, 0, none⟩, (strOf b).size, c⟩ _ ?_
  have h1 : Hp E w.drew F := h.drew
  have h2 := h1.alloc (.cells (bytesRow (strOf b) c) e ((bytesRow (strOf b) c).size, (bytesRow (strOf b) c).size + 1))
  refine h2.weak fun f hf => ⟨w.heap.size, _, _, _, rfl, hsz, hge, fun i hi => ?_, hf⟩
  have hd2 := strOf_data b
  have hi2 : i < (strOf b).data.size := by show i < (strOf b).size; omega
  unfold bytesRow
  rw [Array.getElem?_append_left (by rw [Array.size_map]; exact hi2), Array.getElem?_map, Array.getElem?_eq_getElem hi2]
  have e1 : (strOf b).data[i] = UInt8.ofNat b[i] := by
    rw [← Array.getElem_toList]
    simp only [hd2, List.getElem_map]
  have h256 := hb b[i] (List.getElem_mem hi)
  rw [Option.map_some, e1]
  unfold vB
  congr 2
  rw [UInt8.toNat_ofNat']
  omega
end
end Go.Vc
/- BwP -/
namespace Go.Bw
open Go.Rk
abbrev lx : List Nat → List Nat → Bool := Go.Vc.lxb
theorem lx_nil (x : List Nat) : lx x [] = false := by cases x <;> rfl
theorem lx_cons (a b : Nat) (x y : List Nat) : lx (a :: x) (b :: y) = (decide (a < b) || (a == b && lx x y)) := rfl
theorem lx_irr : ∀ x, lx x x = false
  | [] => rfl
  | a :: x => by rw [lx_cons, lx_irr x]; simp
theorem lx_trans : ∀ x y z, lx x y = true → lx y z = true → lx x z = true
  | _, [], _, h, _ => by rw [lx_nil] at h; cases h
  | _, _ :: _, [], _, h => by rw [lx_nil] at h; cases h
  | [], _ :: _, _ :: _, _, _ => rfl
  | a :: x, b :: y, c :: z, h1, h2 => by
    rw [lx_cons] at *
    simp only [Bool.or_eq_true, Bool.and_eq_true, decide_eq_true_eq, beq_iff_eq] at *
    rcases h1 with h1 | ⟨h1, h3⟩ <;> rcases h2 with h2 | ⟨h2, h4⟩
    · left; omega
    · left; omega
    · left; omega
    · exact .inr ⟨by omega, lx_trans x y z h3 h4⟩
theorem lx_total : ∀ x y, lx x y = false → lx y x = false → x = y
  | [], [], _, _ => rfl
  | [], _ :: _, h, _ => by cases h
  | _ :: _, [], _, h => by cases h
  | a :: x, b :: y, h1, h2 => by
    rw [lx_cons] at *
    simp only [Bool.or_eq_false_iff, Bool.and_eq_false_iff, decide_eq_false_iff_not, beq_eq_false_iff_ne] at *
    have hab : a = b := by omega
    subst hab
    rw [lx_total x y (by rcases h1.2 with h | h; exact absurd rfl h; exact h) (by rcases h2.2 with h | h; exact absurd rfl h; exact h)]
theorem lx_ntrans (x y z : List Nat) (h1 : lx x y = false) (h2 : lx y z = false) : lx x z = false := by
  cases h : lx x z with
  | false => rfl
  | true =>
    by_cases e : x = y
    · subst e; rw [h] at h2; cases h2
    · have hyx : lx y x = true := by
        cases hh : lx y x with
        | true => rfl
        | false => exact absurd (lx_total x y h1 hh) e
      have := lx_trans _ _ _ hyx h
      rw [h2] at this; cases this
theorem lx_app : ∀ (k c d : List Nat), lx (k ++ c) (k ++ d) = lx c d
  | [], _, _ => rfl
  | a :: k, c, d => by rw [List.cons_append, List.cons_append, lx_cons, lx_app k]; simp
/-- beginnings that differ decide -/
theorem lx_pre : ∀ (a b c d : List Nat), a ≠ b → (a.length < b.length → c = []) → (b.length < a.length → d = []) → lx (a ++ c) (b ++ d) = lx a b
  | [], [], _, _, h, _, _ => absurd rfl h
  | [], y :: b, c, d, _, h1, _ => by rw [h1 (by simp)]; rfl
  | x :: a, [], c, d, _, _, h2 => by rw [h2 (by simp)]; rfl
  | x :: a, y :: b, c, d, h, h1, h2 => by
    rw [List.cons_append, List.cons_append, lx_cons, lx_cons]
    by_cases e : x = y
    · subst e
      rw [lx_pre a b c d (fun e => h (by rw [e])) (fun hl => h1 (by simpa using hl)) (fun hl => h2 (by simpa using hl))]
    · rw [beq_eq_false_iff_ne.2 e, Bool.false_and, Bool.false_and]
/-! suffixes -/
def sl (t : List Nat) (i k : Nat) : Bool := lx (t.drop i) (t.drop k)
theorem sl_so (t : List Nat) : SO (sl t) := ⟨fun _ => lx_irr _, fun _ _ _ => lx_trans _ _ _, fun _ _ _ => lx_ntrans _ _ _⟩
theorem drop_inj {t : List Nat} {i k : Nat} (hi : i ≤ t.length) (hk : k ≤ t.length) (h : t.drop i = t.drop k) : i = k := by
  have := congrArg List.length h
  simp only [List.length_drop] at this
  omega
def rows (t : List Nat) : List Nat := List.range (t.length + 1)
theorem rows_mem {t : List Nat} {i : Nat} : i ∈ rows t ↔ i ≤ t.length := by unfold rows; rw [List.mem_range]; omega
theorem rows_nodup (t : List Nat) : (rows t).Nodup := List.nodup_range
theorem rows_len (t : List Nat) : (rows t).length = t.length + 1 := List.length_range
theorem sl_tot (t : List Nat) : Tot (sl t) (rows t) := fun x hx y hy e => by
  rw [rows_mem] at hx hy
  cases h1 : sl t x y with
  | true => exact .inl rfl
  | false =>
    right
    cases h2 : sl t y x with
    | true => rfl
    | false => exact absurd (drop_inj hx hy (lx_total _ _ h1 h2)) e
def ordB (t : List Nat) : List Nat := srt (sl t) (rows t)
def rkB (t : List Nat) (i : Nat) : Nat := rk (sl t) (rows t) i
theorem ordB_len (t : List Nat) : (ordB t).length = t.length + 1 := by unfold ordB; rw [srt_len, rows_len]
theorem ordB_mem {t : List Nat} {i : Nat} : i ∈ ordB t ↔ i ≤ t.length := by unfold ordB; rw [(srt_perm _).mem_iff, rows_mem]
theorem rkB_lt {t : List Nat} {i : Nat} (hi : i ≤ t.length) : rkB t i < t.length + 1 := by
  have := rk_lt_len (sl_so t) (rows_nodup t) (sl_tot t) (rows_mem.2 hi)
  rwa [rows_len] at this
theorem ordB_rk {t : List Nat} {i : Nat} (hi : i ≤ t.length) : ∃ h : rkB t i < (ordB t).length, (ordB t)[rkB t i] = i := srt_at (sl_so t) (rows_nodup t) (sl_tot t) (rows_mem.2 hi)
theorem rk_ordB {t : List Nat} {r : Nat} (hr : r < (ordB t).length) : rkB t (ordB t)[r] = r := rk_at (sl_so t) (rows_nodup t) (sl_tot t) hr
theorem rkB_iff {t : List Nat} {i k : Nat} (hi : i ≤ t.length) (hk : k ≤ t.length) : rkB t i < rkB t k ↔ sl t i k = true := rk_iff (sl_so t) (sl_tot t) (rows_mem.2 hi) (rows_mem.2 hk)
theorem rkB_inj {t : List Nat} {i k : Nat} (hi : i ≤ t.length) (hk : k ≤ t.length) (h : rkB t i = rkB t k) : i = k := rk_inj (sl_so t) (sl_tot t) (rows_mem.2 hi) (rows_mem.2 hk) h
theorem ordB_sorted (t : List Nat) : (ordB t).Pairwise fun a b => sl t a b = true := srt_sorted (sl_so t) (rows_nodup t) (sl_tot t)
theorem drop_get {t : List Nat} {j : Nat} (hj : j < t.length) : t.drop j = t.getD j 0 :: t.drop (j + 1) := by
  rw [List.drop_eq_getElem_cons hj]; simp [List.getD, hj]
theorem sl_step {t : List Nat} {i k : Nat} (hi : i < t.length) (hk : k < t.length) : sl t i k = (decide (t.getD i 0 < t.getD k 0) || (t.getD i 0 == t.getD k 0 && sl t (i + 1) (k + 1))) := by
  unfold sl
  rw [drop_get hi, drop_get hk, lx_cons]
theorem rkB_end (t : List Nat) : rkB t t.length = 0 := by
  unfold rkB rk
  rw [List.countP_eq_zero]
  intro x _
  unfold sl
  rw [List.drop_length, lx_nil]; decide
/-! last column, index -/
def idxB (t : List Nat) : Nat := rkB t 0
def colE (t : List Nat) : List Nat := (ordB t).filter fun i => i != 0
def lastB (t : List Nat) : List Nat := (colE t).map fun i => t.getD (i - 1) 0
/-- the place of a row in the column -/
def atB (index row : Nat) : Nat := if row > index then row - 1 else row
theorem atB_lt {index a b : Nat} (ha : a ≠ index) (hb : b ≠ index) : atB index a < atB index b ↔ a < b := by
  unfold atB; split <;> split <;> omega
theorem atB_inj {index a b : Nat} (ha : a ≠ index) (hb : b ≠ index) (h : atB index a = atB index b) : a = b := by
  unfold atB at h; split at h <;> split at h <;> omega
theorem idxB_le (t : List Nat) : idxB t ≤ t.length := by have := rkB_lt (t := t) (i := 0) (by omega); unfold idxB; omega
theorem ordB_idx (t : List Nat) {r : Nat} (hr : r < (ordB t).length) : (ordB t)[r] = 0 ↔ r = idxB t := by
  constructor
  · intro h
    have := rk_ordB hr
    rw [h] at this; exact this.symm
  · rintro rfl
    exact (ordB_rk (t := t) (i := 0) (by omega)).2
theorem filter_at : ∀ (l : List Nat) (ix : Nat), (∀ r (hr : r < l.length), l[r] = 0 ↔ r = ix) → ∀ r (hr : r < l.length), r ≠ ix → (l.filter fun i => i != 0)[atB ix r]? = some l[r]
  | [], _, _, r, hr, _ => by simp at hr
  | a :: l, 0, h, r, hr, hne => by
    have ha : a = 0 := (h 0 (by simp)).2 rfl
    subst ha
    have hall : ∀ x ∈ l, x ≠ 0 := fun x hx e => by
      obtain ⟨i, hi, rfl⟩ := List.getElem_of_mem hx
      have := (h (i + 1) (by simpa using hi)).1 (by simpa using e)
      omega
    obtain ⟨r, rfl⟩ : ∃ r', r = r' + 1 := ⟨r - 1, by omega⟩
    have hr' : r < l.length := by simpa using hr
    rw [List.filter_cons, if_neg (by simp), List.filter_eq_self.2 fun x hx => by simpa using hall x hx]
    unfold atB
    rw [if_pos (by omega)]
    simp [hr']
  | a :: l, ix + 1, h, r, hr, hne => by
    have ha : a ≠ 0 := fun e => by have := (h 0 (by simp)).1 e; omega
    have ih := filter_at l ix fun r hr => by
      have := h (r + 1) (by simpa using hr)
      simp only [List.getElem_cons_succ] at this
      omega
    rw [List.filter_cons, if_pos (by simpa using ha)]
    cases r with
    | zero =>
      have : atB (ix + 1) 0 = 0 := by unfold atB; rw [if_neg (by omega)]
      rw [this]; rfl
    | succ r =>
      have hr' : r < l.length := by simpa using hr
      have h2 := ih r hr' (by omega)
      have : atB (ix + 1) (r + 1) = atB ix r + 1 := by unfold atB; split <;> split <;> omega
      rw [this, List.getElem?_cons_succ, h2]; simp
theorem colE_at {t : List Nat} {r : Nat} (hr : r < (ordB t).length) (hne : r ≠ idxB t) : (colE t)[atB (idxB t) r]? = some (ordB t)[r] := filter_at _ _ (fun _ hr => ordB_idx t hr) r hr hne
theorem colE_perm (t : List Nat) : (colE t).Perm ((List.range t.length).map (· + 1)) := by
  have h := (srt_perm (lt := sl t) (rows t)).filter fun i => i != 0
  have e : (rows t).filter (fun i => i != 0) = (List.range t.length).map (· + 1) := by
    unfold rows
    rw [List.range_succ_eq_map, List.filter_cons, if_neg (by simp), List.filter_eq_self.2 fun x hx => by obtain ⟨y, _, rfl⟩ := List.mem_map.1 hx; simp]
  rw [e] at h
  exact h
theorem colE_len (t : List Nat) : (colE t).length = t.length := by rw [(colE_perm t).length_eq]; simp
theorem lastB_len (t : List Nat) : (lastB t).length = t.length := by unfold lastB; rw [List.length_map, colE_len]
theorem lastB_perm (t : List Nat) : (lastB t).Perm t := by
  have h := (colE_perm t).map fun i => t.getD (i - 1) 0
  have e : ((List.range t.length).map (· + 1)).map (fun i => t.getD (i - 1) 0) = t := by
    apply List.ext_getElem
    · simp
    · intro i h1 h2
      simp [List.getD, h2]
  rw [e] at h
  exact h
theorem lastB_b {t : List Nat} (hb : ∀ x ∈ t, x < 256) : ∀ x ∈ lastB t, x < 256 := fun x hx => hb x ((lastB_perm t).mem_iff.1 hx)
theorem colE_sorted (t : List Nat) : (colE t).Pairwise fun a b => sl t a b = true := (ordB_sorted t).filter _
theorem lastB_rk {t : List Nat} {j : Nat} (h0 : 0 < j) (hj : j ≤ t.length) : (lastB t).getD (atB (idxB t) (rkB t j)) 0 = t.getD (j - 1) 0 := by
  obtain ⟨h1, h2⟩ := ordB_rk hj
  have hne : rkB t j ≠ idxB t := fun e => by have := rkB_inj hj (by omega) e; omega
  have := colE_at h1 hne
  rw [h2] at this
  unfold lastB
  simp [List.getD, this]
/-! the row after a row -/
/-- one place of a column stands ahead of another in the first column -/
def pl (last : List Nat) (a b : Nat) : Bool := decide (last.getD a 0 < last.getD b 0) || (last.getD a 0 == last.getD b 0 && decide (a < b))
theorem pl_iff {last : List Nat} {a b : Nat} : pl last a b = true ↔ last.getD a 0 < last.getD b 0 ∨ (last.getD a 0 = last.getD b 0 ∧ a < b) := by simp [pl]
theorem pl_f {last : List Nat} {a b : Nat} : pl last a b = false ↔ ¬ (last.getD a 0 < last.getD b 0 ∨ (last.getD a 0 = last.getD b 0 ∧ a < b)) := by rw [← pl_iff, Bool.not_eq_true]
theorem pl_so (last : List Nat) : SO (pl last) := ⟨fun a => by rw [pl_f]; omega, fun a b c h1 h2 => by rw [pl_iff] at *; omega, fun a b c h1 h2 => by rw [pl_f] at *; omega⟩
theorem pl_tot (last dom : List Nat) : Tot (pl last) dom := fun x _ y _ e => by rw [pl_iff, pl_iff]; omega
def nx (last : List Nat) (a : Nat) : Nat := 1 + rk (pl last) (List.range last.length) a
theorem nx_le {last : List Nat} {a : Nat} (ha : a < last.length) : nx last a ≤ last.length := by
  have := rk_lt_len (pl_so last) List.nodup_range (pl_tot last _) (List.mem_range.2 ha)
  rw [List.length_range] at this
  unfold nx; omega
theorem nx_pos (last : List Nat) (a : Nat) : 1 ≤ nx last a := by unfold nx; omega
theorem nx_iff {last : List Nat} {a b : Nat} (ha : a < last.length) (hb : b < last.length) : nx last a < nx last b ↔ pl last a b = true := by
  have := rk_iff (pl_so last) (pl_tot last _) (List.mem_range.2 ha) (List.mem_range.2 hb)
  unfold nx
  rw [← this]; omega
theorem nx_inj {last : List Nat} {a b : Nat} (ha : a < last.length) (hb : b < last.length) (h : nx last a = nx last b) : a = b :=
  rk_inj (pl_so last) (pl_tot last _) (List.mem_range.2 ha) (List.mem_range.2 hb) (by unfold nx at h; omega)
/-- the row after the row of a suffix is that of the suffix one longer -/
theorem nx_rk {t : List Nat} {j : Nat} (h0 : 0 < j) (hj : j ≤ t.length) : nx (lastB t) (atB (idxB t) (rkB t j)) = rkB t (j - 1) := by
  obtain ⟨h1, h2⟩ := ordB_rk hj
  have hne : rkB t j ≠ idxB t := fun e => by have := rkB_inj hj (by omega) e; omega
  have hat := colE_at h1 hne
  rw [h2] at hat
  obtain ⟨k, hk⟩ : ∃ k, atB (idxB t) (rkB t j) = k := ⟨_, rfl⟩
  rw [hk] at hat ⊢
  obtain ⟨hkl, hke⟩ := List.getElem?_eq_some_iff.1 hat
  have hcl := colE_len t
  have hlast : ∀ i (hi : i < (colE t).length), (lastB t).getD i 0 = t.getD ((colE t)[i] - 1) 0 := fun i hi => by
    unfold lastB
    simp [List.getD, hi]
  have hin : ∀ i (hi : i < (colE t).length), 0 < (colE t)[i] ∧ (colE t)[i] ≤ t.length := fun i hi => by
    have := (colE_perm t).mem_iff.1 (List.getElem_mem hi)
    obtain ⟨x, hx, e⟩ := List.mem_map.1 this
    rw [List.mem_range] at hx
    omega
  -- the places that stand ahead, as elements of the column
  have e1 : rk (pl (lastB t)) (List.range (lastB t).length) k = (colE t).countP fun x => sl t (x - 1) (j - 1) := by
    have : (colE t) = (List.range (lastB t).length).map fun i => (colE t).getD i 0 := by
      apply List.ext_getElem
      · rw [List.length_map, List.length_range, lastB_len, hcl]
      · intro i h1 h2
        simp [List.getD, h1]
    unfold rk
    conv => rhs; rw [this, List.countP_map]
    apply List.countP_congr
    intro i hi
    have hi : i < (colE t).length := by rw [List.mem_range, lastB_len] at hi; omega
    obtain ⟨a1, a2⟩ := hin i hi
    have b1 := hin k hkl
    have hci : (colE t).getD i 0 = (colE t)[i] := by simp [List.getD, hi]
    have hs := sl_step (t := t) (i := (colE t)[i] - 1) (k := j - 1) (by omega) (by omega)
    rw [show (colE t)[i] - 1 + 1 = (colE t)[i] by omega, show j - 1 + 1 = j by omega] at hs
    simp only [Function.comp]
    rw [hci, hs]
    unfold pl
    rw [hlast i hi, hlast k hkl, hke]
    have hord : decide (i < k) = true ↔ sl t (colE t)[i] j = true := by
      rw [decide_eq_true_iff, ← hke]
      constructor
      · intro hik
        exact List.pairwise_iff_getElem.1 (colE_sorted t) i k hi hkl hik
      · intro hsl
        rcases Nat.lt_trichotomy i k with h | h | h
        · exact h
        · subst h; rw [(sl_so t).irr] at hsl; cases hsl
        · have := List.pairwise_iff_getElem.1 (colE_sorted t) k i hkl hi h
          rw [(sl_so t).asym hsl] at this; cases this
    simp only [Bool.or_eq_true, Bool.and_eq_true, hord]
  have e2 : (colE t).countP (fun x => sl t (x - 1) (j - 1)) = (List.range t.length).countP fun x => sl t x (j - 1) := by
    rw [(colE_perm t).countP_eq, List.countP_map]
    rfl
  have e3 : rkB t (j - 1) = 1 + (List.range t.length).countP fun x => sl t x (j - 1) := by
    unfold rkB rk rows
    rw [List.range_succ, List.countP_append, List.countP_cons, List.countP_nil]
    have : sl t t.length (j - 1) = true := by
      unfold sl
      rw [List.drop_length, drop_get (by omega)]; rfl
    rw [this]; simp; omega
  unfold nx
  rw [e1, e2, e3]
/-! back -/
/-- the row after k steps -/
def wk (last : List Nat) (index : Nat) : Nat → Nat
  | 0 => 0
  | k + 1 => nx last (atB index (wk last index k))
def okB (last : List Nat) (index : Nat) : Prop := index ≤ last.length ∧ (∀ k, k < last.length → wk last index k ≠ index) ∧ wk last index last.length = index
instance (last : List Nat) (index : Nat) : Decidable (okB last index) := by unfold okB; infer_instance
def textB (last : List Nat) (index : Nat) : List Nat := ((List.range last.length).map fun k => last.getD (atB index (wk last index k)) 0).reverse
theorem textB_len (last : List Nat) (index : Nat) : (textB last index).length = last.length := by simp [textB]
theorem textB_get {last : List Nat} {index k : Nat} (hk : k < last.length) : (textB last index).getD (last.length - 1 - k) 0 = last.getD (atB index (wk last index k)) 0 := by
  unfold textB
  rw [List.getD, List.getElem?_reverse (by simp; omega)]
  simp only [List.length_map, List.length_range]
  rw [show last.length - 1 - (last.length - 1 - k) = k by omega]
  simp [hk]
/-- back after the transform -/
theorem back_turn (t : List Nat) : okB (lastB t) (idxB t) ∧ textB (lastB t) (idxB t) = t := by
  have hw : ∀ k, k ≤ t.length → wk (lastB t) (idxB t) k = rkB t (t.length - k) := by
    intro k
    induction k with
    | zero => intro _; rw [wk, Nat.sub_zero, rkB_end]
    | succ k ih =>
      intro hk
      rw [wk, ih (by omega), nx_rk (by omega) (by omega)]
      congr 1
  have hl := lastB_len t
  refine ⟨⟨by rw [hl]; exact idxB_le t, fun k hk e => ?_, ?_⟩, ?_⟩
  · rw [hl] at hk
    rw [hw k (by omega)] at e
    have := rkB_inj (by omega) (by omega) e
    omega
  · rw [hl, hw _ (Nat.le_refl _), Nat.sub_self]; rfl
  · apply List.ext_getElem (by rw [textB_len, hl])
    intro i h1 h2
    have e := textB_get (last := lastB t) (index := idxB t) (k := t.length - 1 - i) (by rw [hl]; omega)
    rw [hl, show t.length - 1 - (t.length - 1 - i) = i by omega, hw _ (by omega), show t.length - (t.length - 1 - i) = i + 1 by omega, lastB_rk (by omega) (by omega)] at e
    rw [show i + 1 - 1 = i by omega] at e
    simpa [List.getD, h1, h2] using e
theorem atB_in {last : List Nat} {index row : Nat} (hi : index ≤ last.length) (hr : row ≤ last.length) (hne : row ≠ index) : atB index row < last.length := by unfold atB; split <;> omega
theorem wk_le {last : List Nat} {index : Nat} (hi : index ≤ last.length) : ∀ k, (∀ j, j < k → wk last index j ≠ index) → wk last index k ≤ last.length
  | 0, _ => by rw [wk]; omega
  | k + 1, h => by
    rw [wk]
    exact nx_le (atB_in hi (wk_le hi k fun j hj => h j (by omega)) (h k (by omega)))
/-- the rows of a walk that has not met the index are different -/
theorem wk_inj {last : List Nat} {index : Nat} (hi : index ≤ last.length) : ∀ a b, (∀ j, j < b → wk last index j ≠ index) → a < b → wk last index a ≠ wk last index b
  | 0, 0, _, h => by omega
  | 0, b + 1, _, _ => by
    intro e
    rw [wk, wk] at e
    have := nx_pos last (atB index (wk last index b))
    omega
  | a + 1, 0, _, h => by omega
  | a + 1, b + 1, hn, hab => by
    intro e
    rw [wk, wk] at e
    have ha := hn a (by omega)
    have hb := hn b (by omega)
    have h1 := wk_le hi a fun j hj => hn j (by omega)
    have h2 := wk_le hi b fun j hj => hn j (by omega)
    have := nx_inj (atB_in hi h1 ha) (atB_in hi h2 hb) e
    exact wk_inj hi a b (fun j hj => hn j (by omega)) (by omega) (atB_inj ha hb this)
/-- a right pair is the transform of its text -/
theorem turn_back {last : List Nat} {index : Nat} (h : okB last index) : lastB (textB last index) = last ∧ idxB (textB last index) = index := by
  obtain ⟨hi, hne, hend⟩ := h
  obtain ⟨m, hm⟩ : ∃ m, m = last.length := ⟨_, rfl⟩
  have hT : (textB last index).length = m := by rw [textB_len, hm]
  obtain ⟨T, hTe⟩ : ∃ T, T = textB last index := ⟨_, rfl⟩
  rw [← hTe] at hT ⊢
  have hget : ∀ k, k < m → T.getD (m - 1 - k) 0 = last.getD (atB index (wk last index k)) 0 := fun k hk => by rw [hTe, hm]; exact textB_get (by omega)
  have hat : ∀ k, k < m → atB index (wk last index k) < last.length := fun k hk => atB_in hi (wk_le hi k fun j hj => hne j (by omega)) (hne k (by omega))
  have claim : ∀ k l, k ≤ m → l ≤ m → (wk last index k < wk last index l ↔ sl T (m - k) (m - l) = true) := by
    intro k
    induction k with
    | zero =>
      intro l _ hl
      rw [wk]
      cases l with
      | zero => rw [wk, Nat.sub_zero, (sl_so T).irr]; simp
      | succ l =>
        rw [wk]
        have := nx_pos last (atB index (wk last index l))
        have e : sl T (m - 0) (m - (l + 1)) = true := by
          unfold sl
          rw [Nat.sub_zero, ← hT, List.drop_length, drop_get (by omega)]; rfl
        rw [e]; simp; omega
    | succ k ih =>
      intro l hk hl
      cases l with
      | zero =>
        have e : sl T (m - (k + 1)) (m - 0) = false := by
          unfold sl
          rw [Nat.sub_zero, ← hT, List.drop_length, lx_nil]
        rw [e]; simp [wk]
      | succ l =>
        have h1 := ih l (by omega) (by omega)
        have hs := sl_step (t := T) (i := m - (k + 1)) (k := m - (l + 1)) (by omega) (by omega)
        rw [show m - (k + 1) + 1 = m - k by omega, show m - (l + 1) + 1 = m - l by omega, show m - (k + 1) = m - 1 - k by omega, show m - (l + 1) = m - 1 - l by omega, hget k (by omega), hget l (by omega)] at hs
        rw [wk, wk, nx_iff (hat k (by omega)) (hat l (by omega)), pl_iff, show m - (k + 1) = m - 1 - k by omega, show m - (l + 1) = m - 1 - l by omega, hs]
        simp only [Bool.or_eq_true, Bool.and_eq_true, decide_eq_true_eq, beq_iff_eq]
        rw [atB_lt (hne k (by omega)) (hne l (by omega)), h1]
  -- the rows of the walk are all rows
  have hperm : ((List.range (m + 1)).map (wk last index)).Perm (List.range (m + 1)) := by
    have hn : ((List.range (m + 1)).map (wk last index)).Nodup := by
      refine List.pairwise_map.2 (List.Pairwise.imp_of_mem (fun {a b} ha hb hab => ?_) List.nodup_range)
      rw [List.mem_range] at ha hb
      rcases Nat.lt_or_ge a b with h | h
      · exact wk_inj hi a b (fun j hj => hne j (by omega)) h
      · exact fun e => wk_inj hi b a (fun j hj => hne j (by omega)) (by omega) e.symm
    have := perm_range hn (fun x hx => by
      obtain ⟨k, hk, rfl⟩ := List.mem_map.1 hx
      rw [List.mem_range] at hk
      rw [List.length_map, List.length_range]
      have := wk_le hi k fun j hj => hne j (by omega)
      omega)
    rwa [List.length_map, List.length_range] at this
  have hrk : ∀ k, k ≤ m → rkB T (m - k) = wk last index k := by
    intro k hk
    have e1 : (List.range (m + 1)).countP (fun x => decide (x < wk last index k)) = wk last index k := by
      have hle := wk_le hi k fun j hj => hne j (by omega)
      have key : ∀ n c, c ≤ n → (List.range n).countP (fun x => decide (x < c)) = c := by
        intro n
        induction n with
        | zero => intro c hc; simp; omega
        | succ n ih =>
          intro c hc
          rw [List.range_succ, List.countP_append, List.countP_cons, List.countP_nil]
          by_cases h : c ≤ n
          · rw [ih c h]; simp; omega
          · have : c = n + 1 := by omega
            subst this
            have h2 : (List.range n).countP (fun x => decide (x < n + 1)) = n := by
              have : (List.range n).countP (fun x => decide (x < n + 1)) = (List.range n).length := List.countP_eq_length.2 fun x hx => by rw [List.mem_range] at hx; simp; omega
              rw [this, List.length_range]
            rw [h2]; simp
      exact key _ _ (by omega)
    rw [← hperm.countP_eq, List.countP_map] at e1
    have e2 : rkB T (m - k) = (List.range (m + 1)).countP fun l => sl T (m - l) (m - k) := by
      unfold rkB rk rows
      rw [hT]
      have hp : ((List.range (m + 1)).map fun l => m - l).Perm (List.range (m + 1)) := by
        have := perm_range (l := (List.range (m + 1)).map fun l => m - l) (List.pairwise_map.2 (List.Pairwise.imp_of_mem (fun {a b} ha hb hab => by
          rw [List.mem_range] at ha hb; omega) List.nodup_range)) (fun x hx => by
          obtain ⟨l, hl, rfl⟩ := List.mem_map.1 hx
          rw [List.length_map, List.length_range]; omega)
        rwa [List.length_map, List.length_range] at this
      rw [← hp.countP_eq, List.countP_map]
      rfl
    rw [e2, ← e1]
    refine List.countP_congr fun l hl => ?_
    rw [List.mem_range] at hl
    have := claim l k (by omega) hk
    simp only [Function.comp, decide_eq_true_eq]
    exact this.symm
  have hidx : idxB T = index := by
    have := hrk m (Nat.le_refl _)
    rw [Nat.sub_self] at this
    unfold idxB
    rw [this, hm]; exact hend
  refine ⟨?_, hidx⟩
  apply List.ext_getElem (by rw [lastB_len, hT, hm])
  intro i h1 h2
  -- the row at place i, and its step
  obtain ⟨r, hr1, hr2, hr3⟩ : ∃ r, r ≤ m ∧ r ≠ index ∧ atB index r = i := by
    by_cases h : i < index
    · exact ⟨i, by omega, by omega, by unfold atB; rw [if_neg (by omega)]⟩
    · exact ⟨i + 1, by omega, by omega, by unfold atB; rw [if_pos (by omega)]; omega⟩
  have hrm : r ∈ (List.range (m + 1)).map (wk last index) := hperm.mem_iff.2 (List.mem_range.2 (by omega))
  obtain ⟨k, hk, rfl⟩ := List.mem_map.1 hrm
  rw [List.mem_range] at hk
  have hkm : k < m := by
    rcases Nat.lt_or_ge k m with h | h
    · exact h
    · have : k = last.length := by omega
      subst this
      exact absurd hend hr2
  have e1 := lastB_rk (t := T) (j := m - k) (by omega) (by omega)
  rw [hrk k (by omega), hidx, hr3, show m - k - 1 = m - 1 - k by omega, hget k hkm, hr3] at e1
  simpa [List.getD, h1, h2] using e1
end Go.Bw
/- BlkP -/
namespace Go.Blk
open Go.Inc Go.Srt Go.Sym Go.Bits Go.Tab Go.Hd Go.Crc Go.Bw
/-! bits of bytes -/
def allBits (b : List Nat) : List Nat := bitsOf b (8 * b.length)
theorem allBits_len (b : List Nat) : (allBits b).length = 8 * b.length := bitsOf_len _ _
theorem allBits_app (a b : List Nat) : allBits (a ++ b) = allBits a ++ allBits b := by
  unfold allBits bitsOf
  rw [List.length_append, Nat.mul_add, List.range_add, List.map_append]
  congr 1
  · refine List.map_congr_left fun i hi => ?_
    rw [List.mem_range] at hi
    unfold bitAt
    rw [List.getD, List.getD, List.getElem?_append_left (by omega)]
  · rw [List.map_map]
    refine List.map_congr_left fun i hi => ?_
    simp only [Function.comp]
    unfold bitAt
    rw [List.getD, List.getD, List.getElem?_append_right (by omega), show (8 * a.length + i) / 8 - a.length = i / 8 by omega, show (8 * a.length + i) % 8 = i % 8 by omega]
theorem allBits_take (b : List Nat) (k : Nat) : allBits (b.take k) = (allBits b).take (8 * k) := by
  rcases Nat.le_total k b.length with h | h
  · have := allBits_app (b.take k) (b.drop k)
    rw [List.take_append_drop] at this
    have h1 : (allBits (b.take k)).length = 8 * k := by rw [allBits_len, List.length_take]; omega
    rw [this, List.take_append_of_le_length (Nat.le_of_eq h1.symm), List.take_of_length_le (l := allBits (b.take k)) (Nat.le_of_eq h1)]
  · rw [List.take_of_length_le h, List.take_of_length_le (by rw [allBits_len]; omega)]
/-- the bits behind the last one of a row -/
def padN (b : List Nat) : Nat := 8 * ((b.length + 7) / 8) - b.length
theorem padN_lt (b : List Nat) : padN b < 8 := by unfold padN; omega
theorem allBits_pack {b : List Nat} (h : Bits b) : allBits (pack b) = b ++ List.replicate (padN b) 0 := by
  unfold allBits bitsOf padN
  rw [pack_len]
  refine List.ext_getElem? fun i => ?_
  rw [List.getElem?_map]
  by_cases hi : i < 8 * ((b.length + 7) / 8)
  · rw [List.getElem?_range hi, Option.map_some]
    unfold pack
    rw [bitAt_packTo h hi]
    by_cases hb : i < b.length
    · rw [List.getElem?_append_left hb, List.getD, List.getElem?_eq_getElem hb]; rfl
    · rw [List.getElem?_append_right (by omega), List.getElem?_replicate, if_pos (by omega), getD_ge (by omega)]
  · rw [List.getElem?_eq_none (by simp; omega), List.getElem?_eq_none (by simp; omega)]; rfl
/-! blocks -/
/-- what follows the head of a block: the table and the codes -/
def body (l last : List Nat) : List Nat := tput l ++ enc l (syms last)
def blkL (l x : List Nat) : List Nat := mblk x.length (idxB x.reverse) (crc x) ++ pack (body l (lastB x.reverse))
def padOk (left : List Nat) : Bool := (left.take (left.length % 8)).all (· == 0)
/-- the column behind a head, and the bits left -/
def colB (M : Nat) (bits : List Nat) : Except Nat (List Nat × List Nat) := match run (tstep okT) t0 bits with
  | .short _ => .error 50
  | .bad e => .error e
  | .fin l more => match run (cstep l) ⟨0, 0, ⟨List.range 256, M, 0, 0⟩, []⟩ more with
    | .short _ => .error 50
    | .bad e => .error e
    | .fin last left => .ok (last, left)
/-- the text of a column -/
def textOf (P sum : Nat) (last : List Nat) : Except Nat (List Nat) :=
  if okB last P then (if crc (textB last P).reverse = sum then .ok (textB last P).reverse else .error 250) else .error 170
def unpackB (n : Nat) (b : List Nat) : Except Nat (List Nat × List Nat) := match run (mstep n) ms0 b with
  | .short _ => .error 50
  | .bad e => .error e
  | .fin (.tail _) _ => .error 242
  | .fin (.blk M P sum) rest => match colB M (allBits rest) with
    | .error e => .error e
    | .ok (last, left) => if padOk left then (match textOf P sum last with
        | .error e => .error e
        | .ok x => .ok (x, rest.drop (rest.length - left.length / 8)))
      else .error 160
theorem ups_bits : ∀ k, Bits (ups k)
  | 0 => fun x hx => by cases hx
  | k + 1 => fun x hx => by
    rcases List.mem_cons.1 hx with h | h
    · omega
    · rcases List.mem_cons.1 h with h | h
      · omega
      · exact ups_bits k x h
theorem downs_bits : ∀ k, Bits (downs k)
  | 0 => fun x hx => by cases hx
  | k + 1 => fun x hx => by
    rcases List.mem_cons.1 hx with h | h
    · omega
    · rcases List.mem_cons.1 h with h | h
      · omega
      · exact downs_bits k x h
theorem chg_bits (a b : Nat) : Bits (chg a b) := by
  unfold chg
  refine Bits.app ?_ (fun x hx => by rw [List.mem_singleton] at hx; omega)
  split
  · exact downs_bits _
  · exact ups_bits _
theorem tabs_bits : ∀ (m : List Nat) (was : Nat), Bits (tabs was m)
  | [], _ => fun x hx => by cases hx
  | n :: m, was => Bits.app (chg_bits was n) (tabs_bits m n)
theorem tput_bits (l : List Nat) : Bits (tput l) := Bits.app (fun x hx => by simp [four] at hx; omega) (tabs_bits _ _)
theorem body_bits (l last : List Nat) : Bits (body l last) := Bits.app (tput_bits l) (enc_bits _ _)
section
variable {l : List Nat}
/-- lengths with codes for the symbols of a column -/
structure Lens (l last : List Nat) : Prop where
  len : l.length = 258
  ok : okT l = true
  good : ∀ s ∈ syms last, goodS l s
theorem Lens.v {last : List Nat} (h : Lens l last) : ksum l ≤ 32768 := by rw [(okT_iff.1 h.ok).1]; decide
theorem okT_15 (h : okT l = true) : ∀ x ∈ l, x ≤ 15 := fun x hx => by
  obtain ⟨i, hi, rfl⟩ := List.mem_iff_getElem.1 hx
  have := len15 (l := l) (by rw [(okT_iff.1 h).1]; decide) i
  rwa [getD_get hi] at this
theorem col_run {last : List Nat} (hL : Lens l last) (hb : ∀ x ∈ last, x < 256) (r : List Nat) : run (cstep l) ⟨0, 0, ⟨List.range 256, last.length, 0, 0⟩, []⟩ (enc l (syms last) ++ r) = .fin last r := by
  rw [cs_enc hL.len hL.v _ _ _ _ hL.good]
  have := syms_back hb []
  rw [List.append_nil] at this
  rw [this]
  simp [enc]
theorem colB_back {last : List Nat} (hL : Lens l last) (hb : ∀ x ∈ last, x < 256) (r : List Nat) : colB last.length (body l last ++ r) = .ok (last, r) := by
  unfold colB body
  rw [List.append_assoc, tput_back _ hL.len (okT_15 hL.ok) hL.ok]
  simp only
  rw [col_run hL hb]
theorem colB_other {last : List Nat} (hL : Lens l last) (hb : ∀ x ∈ last, x < 256) {M : Nat} (hM : M ≠ last.length) (r : List Nat) : colB M (body l last ++ r) = .error 160 := by
  unfold colB body
  rw [List.append_assoc, tput_back _ hL.len (okT_15 hL.ok) hL.ok]
  simp only
  rw [cs_enc hL.len hL.v _ _ _ _ hL.good]
  have := syms_other hb hM []
  rw [List.append_nil] at this
  rw [this]
theorem colB_cut {last : List Nat} (hL : Lens l last) (hb : ∀ x ∈ last, x < 256) {k : Nat} (hk : k < (body l last).length) : colB last.length ((body l last).take k) = .error 50 := by
  unfold colB body
  unfold body at hk
  rw [List.length_append] at hk
  rcases Nat.lt_or_ge k (tput l).length with h | h
  · rw [List.take_append_of_le_length (by omega)]
    obtain ⟨s', e⟩ := run_cut (tput_back (ok := okT) [] hL.len (okT_15 hL.ok) hL.ok) h
    rw [e]
  · rw [List.take_append, List.take_of_length_le h, tput_back _ hL.len (okT_15 hL.ok) hL.ok]
    simp only
    obtain ⟨s', e⟩ := run_cut (col_run hL hb []) (k := k - (tput l).length) (by omega)
    rw [e]
/-- a block is read back -/
theorem unpack_head {n M P sum : Nat} (h0 : 0 < M) (h1 : M ≤ n) (h2 : 0 < P) (h3 : P ≤ M) (h4 : sum < 4294967296) (rest : List Nat) :
    unpackB n (mblk M P sum ++ rest) = match colB M (allBits rest) with
    | .error e => .error e
    | .ok (last, left) => if padOk left then (match textOf P sum last with
        | .error e => .error e
        | .ok x => .ok (x, rest.drop (rest.length - left.length / 8)))
      else .error 160 := by
  unfold unpackB
  rw [mblk_back h0 h1 h2 h3 h4]
theorem padOk_pad (b : List Nat) (z : List Nat) : padOk (List.replicate (padN b) 0 ++ allBits z) = true := by
  unfold padOk
  have := padN_lt b
  rw [List.length_append, List.length_replicate, allBits_len, show (padN b + 8 * z.length) % 8 = padN b by omega, List.take_append_of_le_length (by simp), List.take_of_length_le (by simp)]
  simp
theorem unpack_body {n P sum : Nat} {last : List Nat} (hL : Lens l last) (hb : ∀ x ∈ last, x < 256) (h0 : 0 < last.length) (h1 : last.length ≤ n) (h2 : 0 < P) (h3 : P ≤ last.length) (h4 : sum < 4294967296) (z : List Nat) :
    unpackB n (mblk last.length P sum ++ pack (body l last) ++ z) = match textOf P sum last with
        | .error e => .error e
        | .ok x => .ok (x, z) := by
  rw [List.append_assoc, unpack_head h0 h1 h2 h3 h4, allBits_app, allBits_pack (body_bits _ _), List.append_assoc, colB_back hL hb]
  simp only
  rw [if_pos (padOk_pad _ z)]
  have := padN_lt (body l last)
  have e : (pack (body l last) ++ z).drop ((pack (body l last) ++ z).length - (List.replicate (padN (body l last)) 0 ++ allBits z).length / 8) = z := by
    rw [List.length_append, List.length_append, List.length_replicate, allBits_len, show (padN (body l last) + 8 * z.length) / 8 = z.length by omega, Nat.add_sub_cancel, List.drop_left]
  rw [e]
theorem idx_in {t : List Nat} (h : 0 < t.length) : 0 < idxB t ∧ idxB t ≤ t.length := by
  refine ⟨?_, idxB_le t⟩
  rcases Nat.eq_zero_or_pos (idxB t) with e | e
  · have := rkB_inj (t := t) (i := 0) (k := t.length) (by omega) (by omega) (by rw [rkB_end]; exact e)
    omega
  · exact e
theorem textOf_self (x : List Nat) : textOf (idxB x.reverse) (crc x) (lastB x.reverse) = .ok x := by
  obtain ⟨h1, h2⟩ := back_turn x.reverse
  unfold textOf
  rw [if_pos h1, h2, List.reverse_reverse, if_pos rfl]
theorem unpack_blk {n : Nat} {x : List Nat} (hL : Lens l (lastB x.reverse)) (hb : ∀ y ∈ lastB x.reverse, y < 256) (hx : ∀ y ∈ x, y < 256) (h0 : 0 < x.length) (h1 : x.length ≤ n) (z : List Nat) : unpackB n (blkL l x ++ z) = .ok (x, z) := by
  have hl : (lastB x.reverse).length = x.length := by rw [lastB_len, List.length_reverse]
  have hi := idx_in (t := x.reverse) (by rw [List.length_reverse]; exact h0)
  rw [List.length_reverse] at hi
  have := unpack_body (n := n) (P := idxB x.reverse) (sum := crc x) hL hb (by omega) (by omega) hi.1 (by omega) (crc_lt hx) z
  rw [hl, textOf_self] at this
  exact this
/-- a block cut short -/
theorem unpack_cut {n : Nat} {x : List Nat} (hL : Lens l (lastB x.reverse)) (hb : ∀ y ∈ lastB x.reverse, y < 256) (hx : ∀ y ∈ x, y < 256) (h0 : 0 < x.length) (h1 : x.length ≤ n) {k : Nat} (hk : k < (blkL l x).length) : unpackB n ((blkL l x).take k) = .error 50 := by
  have hl : (lastB x.reverse).length = x.length := by rw [lastB_len, List.length_reverse]
  have hi := idx_in (t := x.reverse) (by rw [List.length_reverse]; exact h0)
  rw [List.length_reverse] at hi
  unfold blkL at hk ⊢
  rw [List.length_append] at hk
  rcases Nat.lt_or_ge k (mblk x.length (idxB x.reverse) (crc x)).length with h | h
  · rw [List.take_append_of_le_length (by omega)]
    obtain ⟨s', e⟩ := run_cut (mblk_back (n := n) h0 h1 hi.1 hi.2 (crc_lt hx) []) h
    unfold unpackB
    rw [e]
  · rw [List.take_append, List.take_of_length_le h, unpack_head h0 h1 hi.1 hi.2 (crc_lt hx)]
    generalize hj : k - (mblk x.length (idxB x.reverse) (crc x)).length = j
    have hpl := pack_len (body l (lastB x.reverse))
    rw [allBits_take, allBits_pack (body_bits _ _), List.take_append_of_le_length (by omega), ← hl, colB_cut hL hb (by omega)]
/-- another head before the same bits -/
theorem unpack_many {n M P sum : Nat} {last : List Nat} (hL : Lens l last) (hb : ∀ x ∈ last, x < 256) (h0 : 0 < M) (h1 : M ≤ n) (h2 : 0 < P) (h3 : P ≤ M) (h4 : sum < 4294967296) (hM : M ≠ last.length) (z : List Nat) :
    unpackB n (mblk M P sum ++ pack (body l last) ++ z) = .error 160 := by
  rw [List.append_assoc, unpack_head h0 h1 h2 h3 h4, allBits_app, allBits_pack (body_bits _ _), List.append_assoc, colB_other hL hb hM]
end
end Go.Blk
/- StmP -/
namespace Go.Stm
open Go.Inc Go.Srt Go.Sym Go.Bits Go.Tab Go.Hd Go.Crc Go.Bw Go.Blk
/-- the pieces of at most n bytes -/
def cut1 (n : Nat) (x : List Nat) : List (List Nat) := if _h : x = [] ∨ n = 0 then [] else x.take n :: cut1 n (x.drop n)
termination_by x.length
decreasing_by
  have h1 : x ≠ [] := fun e => _h (.inl e)
  have h2 : n ≠ 0 := fun e => _h (.inr e)
  have := List.length_pos_iff.2 h1
  rw [List.length_drop]; omega
def cuts (n : Nat) (parts : List (List Nat)) : List (List Nat) := parts.flatMap (cut1 n)
theorem cut1_nil (n : Nat) : cut1 n [] = [] := by rw [cut1]; simp
theorem cut1_pos {n : Nat} {x : List Nat} (h : x ≠ []) (hn : 0 < n) : cut1 n x = x.take n :: cut1 n (x.drop n) := by
  rw [cut1, dif_neg (by intro e; rcases e with e | e; exact h e; omega)]
theorem cut1_flat {n : Nat} (hn : 0 < n) (x : List Nat) : (cut1 n x).flatten = x := by
  induction hk : x.length using Nat.strongRecOn generalizing x with
  | ind k ih =>
    by_cases h : x = []
    · rw [h, cut1_nil]; rfl
    · have := List.length_pos_iff.2 h
      rw [cut1_pos h hn, List.flatten_cons, ih (x.drop n).length (by rw [List.length_drop]; omega) (x.drop n) rfl, List.take_append_drop]
theorem cut1_mem {n : Nat} (hn : 0 < n) (x : List Nat) : ∀ y ∈ cut1 n x, 0 < y.length ∧ y.length ≤ n ∧ ∀ c ∈ y, c ∈ x := by
  induction hk : x.length using Nat.strongRecOn generalizing x with
  | ind k ih =>
    by_cases h : x = []
    · rw [h, cut1_nil]; intro y hy; cases hy
    · have := List.length_pos_iff.2 h
      rw [cut1_pos h hn]
      intro y hy
      rcases List.mem_cons.1 hy with h | h
      · subst h
        exact ⟨by rw [List.length_take]; omega, by rw [List.length_take]; omega, fun c hc => List.mem_of_mem_take hc⟩
      · obtain ⟨h1, h2, h3⟩ := ih (x.drop n).length (by rw [List.length_drop]; omega) (x.drop n) rfl y h
        exact ⟨h1, h2, fun c hc => List.mem_of_mem_drop (h3 c hc)⟩
theorem cut1_len {n : Nat} (hn : 0 < n) (x : List Nat) : (cut1 n x).length = (x.length + n - 1) / n := by
  induction hk : x.length using Nat.strongRecOn generalizing x with
  | ind k ih =>
    by_cases h : x = []
    · subst h
      simp only [List.length_nil] at hk
      rw [cut1_nil, ← hk]
      rw [Nat.div_eq_of_lt (by omega)]; rfl
    · have := List.length_pos_iff.2 h
      rw [cut1_pos h hn, List.length_cons, ih (x.drop n).length (by rw [List.length_drop]; omega) (x.drop n) rfl, List.length_drop]
      rcases Nat.le_total x.length n with h | h
      · rw [show x.length - n + n - 1 = n - 1 by omega, Nat.div_eq_of_lt (by omega), show k + n - 1 = (k - 1) + n by omega, Nat.add_div_right _ hn, Nat.div_eq_of_lt (by omega)]
      · rw [show k + n - 1 = (x.length - n + n - 1) + n by omega, Nat.add_div_right _ hn]
theorem cuts_flat {n : Nat} (hn : 0 < n) (parts : List (List Nat)) : (cuts n parts).flatten = parts.flatten := by
  induction parts with
  | nil => rfl
  | cons x l ih => rw [cuts, List.flatMap_cons, List.flatten_append, cut1_flat hn, List.flatten_cons]; exact congrArg _ ih
theorem cuts_mem {n : Nat} (hn : 0 < n) {parts : List (List Nat)} : ∀ y ∈ cuts n parts, 0 < y.length ∧ y.length ≤ n ∧ ∀ c ∈ y, c ∈ parts.flatten := by
  intro y hy
  obtain ⟨x, hx, hy⟩ := List.mem_flatMap.1 hy
  obtain ⟨h1, h2, h3⟩ := cut1_mem hn x y hy
  exact ⟨h1, h2, fun c hc => List.mem_flatten.2 ⟨x, hx, h3 c hc⟩⟩
/-! a stream, written -/
section
variable (L : List Nat → List Nat)
/-- the block of a text, by the lengths L gives -/
def blkX (x : List Nat) : List Nat := blkL (L x) x
def blocks (l : List (List Nat)) : List Nat := l.flatMap (blkX L)
def strm (n : Nat) (parts : List (List Nat)) : List Nat := hput n ++ (blocks L (cuts n parts) ++ mend (crc parts.flatten))
/-- the lengths are such that every text is read back -/
def GoodL : Prop := ∀ x : List Nat, 0 < x.length → (∀ c ∈ x, c < 256) → Lens (L x) (lastB x.reverse)
end
/-! a stream, read -/
/-- the texts from a mark on, and the error (0: none); k: a bound on the marks -/
def readK (n : Nat) : Nat → List Nat → List (List Nat) → List (List Nat) × Nat
  | 0, _, acc => (acc, 50)
  | k + 1, b, acc => match run (mstep n) ms0 b with
    | .short _ => (acc, 50)
    | .bad e => (acc, e)
    | .fin (.tail s) rest => (acc, if s ≠ crc acc.flatten then 260 else if rest ≠ [] then 261 else 0)
    | .fin (.blk _ _ _) _ => match unpackB n b with
      | .error e => (acc, e)
      | .ok (x, behind) => readK n k behind (acc ++ [x])
def readB (c : List Nat) : List (List Nat) × Nat := match run hstep ⟨0, 0⟩ c with
  | .short _ => ([], 50)
  | .bad e => ([], e)
  | .fin n rest => readK n (rest.length + 1) rest []
theorem mark_less {n : Nat} {b rest : List Nat} {m : Mk} (h : run (mstep n) ms0 b = .fin m rest) : rest.length < b.length := by
  obtain ⟨a, c, s', e, _, _⟩ := run_split h
  rw [e]; simp; omega
theorem unpack_less {n : Nat} {b x rest : List Nat} (h : unpackB n b = .ok (x, rest)) : rest.length < b.length := by
  unfold unpackB at h
  cases hr : run (mstep n) ms0 b with
  | short s => rw [hr] at h; cases h
  | bad e => rw [hr] at h; cases h
  | fin m r =>
    have hm := mark_less hr
    rw [hr] at h
    cases m with
    | tail s => cases h
    | blk M P s =>
      simp only at h
      cases hc : colB M (allBits r) with
      | error e => rw [hc] at h; cases h
      | ok p =>
        rw [hc] at h
        simp only at h
        split at h
        · cases ht : textOf P s p.1 with
          | error e => rw [ht] at h; cases h
          | ok y =>
            rw [ht] at h
            simp only at h
            injection h with h
            injection h with h1 h2
            rw [← h2, List.length_drop]
            omega
        · cases h
/-- the bound is no matter if it is great enough -/
theorem readK_any (n : Nat) : ∀ (k m : Nat) (b : List Nat) (acc : List (List Nat)), b.length < k → b.length < m → readK n k b acc = readK n m b acc
  | 0, _, _, _, h, _ => by omega
  | _, 0, _, _, _, h => by omega
  | k + 1, m + 1, b, acc, h1, h2 => by
    unfold readK
    cases run (mstep n) ms0 b with
    | short s => rfl
    | bad e => rfl
    | fin mk r =>
      cases mk with
      | tail s => rfl
      | blk M P s =>
        simp only
        cases hu : unpackB n b with
        | error e => rfl
        | ok p =>
          have := unpack_less hu
          exact readK_any n k m p.2 _ (by omega) (by omega)
def readF (n : Nat) (b : List Nat) (acc : List (List Nat)) : List (List Nat) × Nat := readK n (b.length + 1) b acc
theorem readF_eq (n : Nat) (b : List Nat) (acc : List (List Nat)) : readF n b acc = match run (mstep n) ms0 b with
    | .short _ => (acc, 50)
    | .bad e => (acc, e)
    | .fin (.tail s) rest => (acc, if s ≠ crc acc.flatten then 260 else if rest ≠ [] then 261 else 0)
    | .fin (.blk _ _ _) _ => match unpackB n b with
      | .error e => (acc, e)
      | .ok (x, behind) => readF n behind (acc ++ [x]) := by
  unfold readF
  rw [readK]
  cases run (mstep n) ms0 b with
  | short s => rfl
  | bad e => rfl
  | fin mk r =>
    cases mk with
    | tail s => rfl
    | blk M P s =>
      simp only
      cases hu : unpackB n b with
      | error e => rfl
      | ok p =>
        have := unpack_less hu
        exact readK_any n _ _ p.2 _ (by omega) (by omega)
theorem readB_eq (c : List Nat) : readB c = match run hstep ⟨0, 0⟩ c with
  | .short _ => ([], 50)
  | .bad e => ([], e)
  | .fin n rest => readF n rest [] := rfl
section
variable {L : List Nat → List Nat} {n : Nat}
/-- one block more -/
theorem readF_blk (hL : GoodL L) {x : List Nat} (h0 : 0 < x.length) (h1 : x.length ≤ n) (hx : ∀ c ∈ x, c < 256) (hp : ∀ y ∈ lastB x.reverse, y < 256) (r : List Nat) (acc : List (List Nat)) : readF n (blkX L x ++ r) acc = readF n r (acc ++ [x]) := by
  have hi := idx_in (t := x.reverse) (by rw [List.length_reverse]; exact h0)
  rw [List.length_reverse] at hi
  rw [readF_eq]
  have hm : run (mstep n) ms0 (blkX L x ++ r) = .fin (.blk x.length (idxB x.reverse) (crc x)) (pack (body (L x) (lastB x.reverse)) ++ r) := by
    unfold blkX blkL
    rw [List.append_assoc, mblk_back h0 h1 hi.1 hi.2 (crc_lt hx)]
  rw [hm]
  simp only
  have := unpack_blk (n := n) (hL x h0 hx) hp hx h0 h1 r
  unfold blkX
  rw [this]
theorem readF_blocks (hL : GoodL L) (hP : ∀ x : List Nat, (∀ c ∈ x, c < 256) → ∀ y ∈ lastB x.reverse, y < 256) : ∀ (l : List (List Nat)) (r : List Nat) (acc : List (List Nat)), (∀ x ∈ l, 0 < x.length ∧ x.length ≤ n ∧ ∀ c ∈ x, c < 256) →
    readF n (blocks L l ++ r) acc = readF n r (acc ++ l)
  | [], r, acc, _ => by simp [blocks]
  | x :: l, r, acc, h => by
    obtain ⟨h0, h1, h2⟩ := h x List.mem_cons_self
    rw [blocks, List.flatMap_cons, List.append_assoc, readF_blk hL h0 h1 h2 (hP x h2)]
    have := readF_blocks hL hP l r (acc ++ [x]) fun y hy => h y (List.mem_cons_of_mem _ hy)
    unfold blocks at this
    rw [this, List.append_assoc]; rfl
theorem readF_end {s : Nat} (hs : s < 4294967296) (r : List Nat) (acc : List (List Nat)) : readF n (mend s ++ r) acc = (acc, if s ≠ crc acc.flatten then 260 else if r ≠ [] then 261 else 0) := by
  rw [readF_eq, mend_back hs]
/-- all of a stream -/
theorem lastP {x : List Nat} (hx : ∀ c ∈ x, c < 256) : ∀ y ∈ lastB x.reverse, y < 256 := lastB_b fun y hy => hx y (List.mem_reverse.1 hy)
theorem cuts_ok (hn : 0 < n) {parts : List (List Nat)} (hb : ∀ c ∈ parts.flatten, c < 256) : ∀ x ∈ cuts n parts, 0 < x.length ∧ x.length ≤ n ∧ ∀ c ∈ x, c < 256 := fun x hx => by
  obtain ⟨h1, h2, h3⟩ := cuts_mem hn x hx
  exact ⟨h1, h2, fun c hc => hb c (h3 c hc)⟩
theorem read_lead (hL : GoodL L) (hn : 0 < n) (hn2 : n ≤ 65536) {l : List (List Nat)} (hl : ∀ x ∈ l, 0 < x.length ∧ x.length ≤ n ∧ ∀ c ∈ x, c < 256) (r : List Nat) : readB (hput n ++ (blocks L l ++ r)) = readF n r l := by
  rw [readB_eq, h_back hn hn2]
  simp only
  rw [readF_blocks hL (fun x hx => lastP hx) l r [] hl]
  rfl
theorem strm_back (hL : GoodL L) (hn : 0 < n) (hn2 : n ≤ 65536) {parts : List (List Nat)} (hb : ∀ c ∈ parts.flatten, c < 256) (r : List Nat) : readB (strm L n parts ++ r) = (cuts n parts, if r ≠ [] then 261 else 0) := by
  unfold strm
  rw [List.append_assoc, List.append_assoc, read_lead hL hn hn2 (cuts_ok hn hb), readF_end (crc_lt hb), cuts_flat hn]
  simp
theorem readF_cut (hL : GoodL L) {s : Nat} (hs : s < 4294967296) : ∀ (l : List (List Nat)) (k : Nat) (acc : List (List Nat)), (∀ x ∈ l, 0 < x.length ∧ x.length ≤ n ∧ ∀ c ∈ x, c < 256) → k < (blocks L l ++ mend s).length →
    ∃ m, m ≤ l.length ∧ readF n ((blocks L l ++ mend s).take k) acc = (acc ++ l.take m, 50)
  | [], k, acc, _, hk => by
    refine ⟨0, by simp, ?_⟩
    have e : blocks L [] ++ mend s = mend s := rfl
    rw [e] at hk ⊢
    obtain ⟨s', e⟩ := run_cut (mend_back (n := n) hs []) hk
    rw [readF_eq, e]; simp
  | x :: l, k, acc, h, hk => by
    obtain ⟨h0, h1, h2⟩ := h x List.mem_cons_self
    have e : blocks L (x :: l) ++ mend s = blkX L x ++ (blocks L l ++ mend s) := by rw [blocks, List.flatMap_cons, List.append_assoc]; rfl
    rw [e] at hk ⊢
    rcases Nat.lt_or_ge k (blkX L x).length with hlt | hge
    · refine ⟨0, by simp, ?_⟩
      rw [List.take_append_of_le_length (by omega)]
      have hu := unpack_cut (n := n) (hL x h0 h2) (lastP h2) h2 h0 h1 hlt
      have hu : unpackB n ((blkX L x).take k) = .error 50 := hu
      rw [readF_eq, hu]
      unfold unpackB at hu
      cases hr : run (mstep n) ms0 ((blkX L x).take k) with
      | short s' => simp
      | bad e => rw [hr] at hu; simp only at hu; injection hu with hu; subst hu; simp
      | fin mk r =>
        rw [hr] at hu
        cases mk with
        | tail s' => simp only at hu; injection hu with hu; cases hu
        | blk M P s' => simp
    · obtain ⟨m, hm, he⟩ := readF_cut hL hs l (k - (blkX L x).length) (acc ++ [x]) (fun y hy => h y (List.mem_cons_of_mem _ hy)) (by rw [List.length_append] at hk; omega)
      refine ⟨m + 1, by rw [List.length_cons]; omega, ?_⟩
      rw [List.take_append, List.take_of_length_le hge, readF_blk hL h0 h1 h2 (lastP h2), he, List.append_assoc]; rfl
theorem strm_cut (hL : GoodL L) (hn : 0 < n) (hn2 : n ≤ 65536) {parts : List (List Nat)} (hb : ∀ c ∈ parts.flatten, c < 256) {k : Nat} (hk : k < (strm L n parts).length) : ∃ m, m ≤ (cuts n parts).length ∧ readB ((strm L n parts).take k) = ((cuts n parts).take m, 50) := by
  unfold strm at hk ⊢
  rcases Nat.lt_or_ge k (hput n).length with hlt | hge
  · refine ⟨0, by omega, ?_⟩
    rw [List.take_append_of_le_length (by omega)]
    obtain ⟨s', e⟩ := run_cut (h_back hn hn2 []) hlt
    rw [readB_eq, e]; simp
  · rw [List.take_append, List.take_of_length_le hge, readB_eq, h_back hn hn2]
    simp only
    obtain ⟨m, hm, he⟩ := readF_cut (n := n) hL (crc_lt hb) (cuts n parts) (k - (hput n).length) [] (cuts_ok hn hb) (by rw [List.length_append] at hk; omega)
    exact ⟨m, hm, by rw [he]; rfl⟩
end
end Go.Stm
/- PrsP -/
namespace Go.Prs
open Go.Inc Go.Srt Go.Sym Go.Bits Go.Tab Go.Hd Go.Crc Go.Bw Go.Blk
inductive Ev where
  | hdr (n : Nat) | blk (M P sum : Nat) | bytes (t : List Nat) | bend | tail (sum : Nat) | fin | bad (e : Nat)
deriving DecidableEq
inductive PS where
  | head (h : HS) | mark (n : Nat) (m : MS) | tab (n M : Nat) (t : TS) | sym (n : Nat) (l : List Nat) (k m : Nat) (d : DS) | pad (n : Nat) | behind (n : Nat) | over (n : Nat) | bad (n e : Nat)
inductive Mic where
  | go (s : PS) (u : Nat) | need | ev (e : Ev) (s : PS) (u : Nat)
/-- the bits up to the next byte -/
def gap (u : Nat) : Nat := if u % 8 = 0 then 0 else 8 - u % 8
def short (ended : Bool) (n u : Nat) : Mic := if ended then .ev (.bad 50) (.bad n 50) u else .need
/-- one turn of a parser that has used u bits of the bytes c -/
def mic (ended : Bool) (c : List Nat) : PS → Nat → Mic
  | .head h, u => if u + 8 ≤ 8 * c.length then (match hstep h (val c u 8) with
      | .more h' => .go (.head h') (u + 8)
      | .fin n => .ev (.hdr n) (.mark n ms0) (u + 8)
      | .bad e => .ev (.bad e) (.bad 0 e) (u + 8)) else short ended 0 u
  | .mark n m, u => if u + 8 ≤ 8 * c.length then (match mstep n m (val c u 8) with
      | .more m' => .go (.mark n m') (u + 8)
      | .fin (.tail s) => .ev (.tail s) (.behind n) (u + 8)
      | .fin (.blk M P s) => .ev (.blk M P s) (.tab n M t0) (u + 8)
      | .bad e => .ev (.bad e) (.bad n e) (u + 8)) else short ended n u
  | .tab n M t, u => if u + 1 ≤ 8 * c.length then (match tstep okT t (bitAt c u) with
      | .more t' => .go (.tab n M t') (u + 1)
      | .fin l => .go (.sym n l 0 0 ⟨List.range 256, M, 0, 0⟩) (u + 1)
      | .bad e => .ev (.bad e) (.bad n e) (u + 1)) else short ended n u
  | .sym n l k m d, u => if u + 1 ≤ 8 * c.length then (match findS l (2 * k + bitAt c u) (m + 1) with
      | none => .go (.sym n l (2 * k + bitAt c u) (m + 1) d) (u + 1)
      | some y => match dsym d y with
        | none => .ev (.bad 160) (.bad n 160) (u + 1)
        | some (d', t, en) => if t = [] then .go (if en then .pad n else .sym n l 0 0 d') (u + 1) else .ev (.bytes t) (if en then .pad n else .sym n l 0 0 d') (u + 1)) else short ended n u
  | .pad n, u => if val c u (gap u) = 0 then .ev .bend (.mark n ms0) (u + gap u) else .ev (.bad 160) (.bad n 160) (u + gap u)
  | .behind n, u => if u < 8 * c.length then .ev (.bad 261) (.bad n 261) u else if ended then .ev .fin (.over n) u else .need
  | .over n, u => .ev .fin (.over n) u
  | .bad n e, u => .ev (.bad e) (.bad n e) u
/-- the block size a parser knows -/
def PS.n : PS → Nat
  | .head _ => 0 | .mark n _ => n | .tab n _ _ => n | .sym n _ _ _ _ => n | .pad n => n | .behind n => n | .over n => n | .bad n _ => n
def meas (c : List Nat) (s : PS) (u : Nat) : Nat := 2 * (8 * c.length - u) + match s with
  | .pad _ => 1
  | _ => 0
def final : Ev → Bool
  | .fin => true | .bad _ => true | _ => false
theorem gap_le {c : List Nat} {u : Nat} (h : u ≤ 8 * c.length) : u + gap u ≤ 8 * c.length := by unfold gap; split <;> omega
theorem mic_go {ended : Bool} {c : List Nat} {s s' : PS} {u u' : Nat} (h : mic ended c s u = .go s' u') : meas c s' u' < meas c s u ∧ u < u' ∧ u' ≤ 8 * c.length := by
  unfold mic short at h
  unfold meas
  split at h
  all_goals try (split at h)
  all_goals try (split at h)
  all_goals try (split at h)
  all_goals try (split at h)
  all_goals first
    | (cases h; done)
    | (injection h with h1 h2; subst h1; subst h2; refine ⟨?_, by omega, by omega⟩; first | (dsimp only; omega) | ((try split) <;> (try split) <;> omega))
    | skip
theorem mic_ev {ended : Bool} {c : List Nat} {s s' : PS} {u u' : Nat} {e : Ev} (hu : u ≤ 8 * c.length) (h : mic ended c s u = .ev e s' u') : (final e = false → meas c s' u' < meas c s u) ∧ u ≤ u' ∧ u' ≤ 8 * c.length := by
  have hg := gap_le hu
  unfold mic short at h
  unfold meas
  split at h
  all_goals try (split at h)
  all_goals try (split at h)
  all_goals try (split at h)
  all_goals try (split at h)
  all_goals first
    | (cases h; done)
    | (injection h with h1 h2 h3; subst h1; subst h2; subst h3; refine ⟨fun hf => ?_, by omega, by omega⟩; first | (cases hf; done) | (dsimp only; omega) | ((try split) <;> (try split) <;> omega))
    | skip
/-- the next event, the state behind it and the bits used -/
def pst (ended : Bool) (c : List Nat) (s : PS) (u : Nat) : Option Ev × PS × Nat := match mic ended c s u with
  | .ev e s' u' => (some e, s', u')
  | .need => (none, s, u)
  | .go s' u' => if _h : meas c s' u' < meas c s u then pst ended c s' u' else (none, s, u)
termination_by meas c s u
/-- the events to come -/
def fut (ended : Bool) (c : List Nat) (s : PS) (u : Nat) : List Ev := match mic ended c s u with
  | .ev e s' u' => e :: if _h : final e = false ∧ meas c s' u' < meas c s u then fut ended c s' u' else []
  | .need => []
  | .go s' u' => if _h : meas c s' u' < meas c s u then fut ended c s' u' else []
termination_by meas c s u
section
variable {ended : Bool} {c : List Nat} {s s' : PS} {u u' : Nat} {e : Ev}
theorem pst_go (h : mic ended c s u = .go s' u') : pst ended c s u = pst ended c s' u' := by
  rw [pst, h]; simp only; rw [dif_pos (mic_go h).1]
theorem pst_ev (h : mic ended c s u = .ev e s' u') : pst ended c s u = (some e, s', u') := by rw [pst, h]
theorem pst_need (h : mic ended c s u = .need) : pst ended c s u = (none, s, u) := by rw [pst, h]
theorem fut_go (h : mic ended c s u = .go s' u') : fut ended c s u = fut ended c s' u' := by
  rw [fut, h]; simp only; rw [dif_pos (mic_go h).1]
theorem fut_ev (hu : u ≤ 8 * c.length) (h : mic ended c s u = .ev e s' u') (hf : final e = false) : fut ended c s u = e :: fut ended c s' u' := by
  rw [fut, h]; simp only; rw [dif_pos ⟨hf, (mic_ev hu h).1 hf⟩]
theorem fut_fin (h : mic ended c s u = .ev e s' u') (hf : final e = true) : fut ended c s u = [e] := by
  rw [fut, h]; simp only; rw [dif_neg (by rw [hf]; simp)]
theorem fut_need (h : mic ended c s u = .need) : fut ended c s u = [] := by rw [fut, h]
end
/-- what a call answers is the first of the events to come -/
theorem pst_fut {ended : Bool} {c : List Nat} : ∀ (k : Nat) (s : PS) (u : Nat), meas c s u = k → u ≤ 8 * c.length → match pst ended c s u with
    | (none, s', u') => fut ended c s u = [] ∧ u' ≤ 8 * c.length ∧ mic ended c s' u' = .need ∧ u ≤ u'
    | (some e, s', u') => fut ended c s u = e :: (if final e then [] else fut ended c s' u') ∧ u' ≤ 8 * c.length ∧ u ≤ u' := by
  intro k
  induction k using Nat.strongRecOn with
  | ind k ih =>
    intro s u hk hu
    cases hm : mic ended c s u with
    | need => rw [pst_need hm]; exact ⟨fut_need hm, hu, hm, Nat.le_refl _⟩
    | ev e s' u' =>
      rw [pst_ev hm]
      have := mic_ev hu hm
      refine ⟨?_, this.2.2, this.2.1⟩
      cases hf : final e with
      | true => rw [fut_fin hm hf]; rfl
      | false => rw [fut_ev hu hm hf]; rfl
    | go s' u' =>
      have hd := mic_go hm
      have := ih (meas c s' u') (by omega) s' u' rfl hd.2.2
      rw [pst_go hm, fut_go hm]
      revert this
      rcases pst ended c s' u' with ⟨o, s'', u''⟩
      cases o with
      | none => exact fun ⟨h1, h2, h3, h4⟩ => ⟨h1, h2, h3, by omega⟩
      | some e => exact fun ⟨h1, h2, h4⟩ => ⟨h1, h2, by omega⟩
end Go.Prs
/- PrsQ -/
namespace Go.Prs
open Go.Inc Go.Srt Go.Sym Go.Bits Go.Tab Go.Hd Go.Crc Go.Bw Go.Blk Go.Stm
/-! the definition -/
def sh (ended : Bool) : List Ev := if ended then [.bad 50] else []
/-- the events of symbols; then the bits behind them, or an error, or none -/
inductive SymR where
  | fin (rest : List Nat) | bad (e : Nat) | short
def symE (l : List Nat) : Nat → Nat → DS → List Nat → List Ev × SymR
  | _, _, _, [] => ([], .short)
  | k, m, d, x :: b => match findS l (2 * k + x) (m + 1) with
    | none => symE l (2 * k + x) (m + 1) d b
    | some y => match dsym d y with
      | none => ([], .bad 160)
      | some (_, t, true) => (if t = [] then [] else [.bytes t], .fin b)
      | some (d', t, false) => let r := symE l 0 0 d' b; (if t = [] then r.1 else .bytes t :: r.1, r.2)
/-- the events of a block behind its head, and the bytes behind it if parsing goes on -/
def evB (ended : Bool) (M : Nat) (rest : List Nat) : List Ev × Option (List Nat) := match run (tstep okT) t0 (allBits rest) with
  | .short _ => (sh ended, none)
  | .bad e => ([.bad e], none)
  | .fin l more => match symE l 0 0 ⟨List.range 256, M, 0, 0⟩ more with
    | (evs, .short) => (evs ++ sh ended, none)
    | (evs, .bad e) => (evs ++ [.bad e], none)
    | (evs, .fin left) => if padOk left then (evs ++ [.bend], some (rest.drop (rest.length - left.length / 8))) else (evs ++ [.bad 160], none)
/-- the events from a mark on; k: a bound on the marks -/
def evK (ended : Bool) (n : Nat) : Nat → List Nat → List Ev
  | 0, _ => []
  | k + 1, b => match run (mstep n) ms0 b with
    | .short _ => sh ended
    | .bad e => [.bad e]
    | .fin (.tail s) rest => .tail s :: (if rest ≠ [] then [.bad 261] else if ended then [.fin] else [])
    | .fin (.blk M P s) rest => .blk M P s :: ((evB ended M rest).1 ++ match (evB ended M rest).2 with
      | none => []
      | some behind => evK ended n k behind)
def evs (ended : Bool) (c : List Nat) : List Ev := match run hstep ⟨0, 0⟩ c with
  | .short _ => sh ended
  | .bad e => [.bad e]
  | .fin n rest => .hdr n :: evK ended n (rest.length + 1) rest
/-! bytes and bits at a place -/
theorem val_get {c : List Nat} (hc : ∀ x ∈ c, x < 256) {i : Nat} (hi : i < c.length) : val c (8 * i) 8 = c[i] := by
  have e : c.getD i 0 = c[i] := by simp [List.getD, hi]
  rw [val_byte c i (by rw [e]; exact hc _ (List.getElem_mem hi)), e]
theorem drop_at {c : List Nat} {i : Nat} (hi : i < c.length) : c.drop i = c[i] :: c.drop (i + 1) := List.drop_eq_getElem_cons hi
theorem bits_at {c : List Nat} {u : Nat} (hu : u < 8 * c.length) : (allBits c).drop u = bitAt c u :: (allBits c).drop (u + 1) := by
  have hl := allBits_len c
  rw [List.drop_eq_getElem_cons (by omega)]
  congr 1
  simp [allBits, bitsOf]
theorem bits_end {c : List Nat} {u : Nat} (hu : 8 * c.length ≤ u) : (allBits c).drop u = [] := List.drop_of_length_le (by rw [allBits_len]; exact hu)
theorem allBits_drop (c : List Nat) (i : Nat) : allBits (c.drop i) = (allBits c).drop (8 * i) := by
  rcases Nat.le_total i c.length with h | h
  · have := allBits_app (c.take i) (c.drop i)
    rw [List.take_append_drop] at this
    rw [this, List.drop_append_of_le_length (by rw [allBits_len, List.length_take]; omega), List.drop_of_length_le (l := allBits (c.take i)) (by rw [allBits_len, List.length_take]; omega), List.nil_append]
  · rw [List.drop_of_length_le h, List.drop_of_length_le (by rw [allBits_len]; omega)]; rfl
section
variable {ended : Bool} {c : List Nat}
theorem fut_short {s : PS} {n u : Nat} (h : mic ended c s u = short ended n u) : fut ended c s u = sh ended := by
  unfold short at h
  unfold sh
  cases ended with
  | true => exact fut_fin h rfl
  | false => exact fut_need h
/-! the phases -/
theorem fut_head (hc : ∀ x ∈ c, x < 256) : ∀ (k i : Nat) (h : HS), c.length - i = k → i ≤ c.length → fut ended c (.head h) (8 * i) = match run hstep h (c.drop i) with
    | .short _ => sh ended
    | .bad e => [.bad e]
    | .fin n rest => .hdr n :: fut ended c (.mark n ms0) (8 * (c.length - rest.length))
  | 0, i, h, hk, hi => by
    rw [List.drop_of_length_le (by omega), run_nil]
    exact fut_short (by simp only [mic]; rw [if_neg (by omega)])
  | k + 1, i, h, hk, hi => by
    have hlt : i < c.length := by omega
    rw [drop_at hlt, run_cons]
    have hm : mic ended c (.head h) (8 * i) = match hstep h c[i] with
      | .more h' => .go (.head h') (8 * i + 8)
      | .fin n => .ev (.hdr n) (.mark n ms0) (8 * i + 8)
      | .bad e => .ev (.bad e) (.bad 0 e) (8 * i + 8) := by
      simp only [mic]; rw [if_pos (by omega), val_get hc hlt] <;> rfl
    cases hh : hstep h c[i] with
    | more h' =>
      rw [hh] at hm
      rw [fut_go hm, show 8 * i + 8 = 8 * (i + 1) by omega]
      exact fut_head hc k (i + 1) h' (by omega) (by omega)
    | fin n =>
      rw [hh] at hm
      rw [fut_ev (by omega) hm rfl]; simp only [List.length_drop]; rw [show c.length - (c.length - (i + 1)) = i + 1 by omega, show 8 * i + 8 = 8 * (i + 1) by omega]
    | bad e =>
      rw [hh] at hm
      rw [fut_fin hm rfl]
theorem fut_mark (hc : ∀ x ∈ c, x < 256) (n : Nat) : ∀ (k i : Nat) (m : MS), c.length - i = k → i ≤ c.length → fut ended c (.mark n m) (8 * i) = match run (mstep n) m (c.drop i) with
    | .short _ => sh ended
    | .bad e => [.bad e]
    | .fin (.tail s) rest => .tail s :: fut ended c (.behind n) (8 * (c.length - rest.length))
    | .fin (.blk M P s) rest => .blk M P s :: fut ended c (.tab n M t0) (8 * (c.length - rest.length))
  | 0, i, h, hk, hi => by
    rw [List.drop_of_length_le (by omega), run_nil]
    exact fut_short (n := n) (by simp only [mic]; rw [if_neg (by omega)])
  | k + 1, i, m, hk, hi => by
    have hlt : i < c.length := by omega
    rw [drop_at hlt, run_cons]
    have hm : mic ended c (.mark n m) (8 * i) = match mstep n m c[i] with
      | .more m' => .go (.mark n m') (8 * i + 8)
      | .fin (.tail s) => .ev (.tail s) (.behind n) (8 * i + 8)
      | .fin (.blk M P s) => .ev (.blk M P s) (.tab n M t0) (8 * i + 8)
      | .bad e => .ev (.bad e) (.bad n e) (8 * i + 8) := by
      simp only [mic]; rw [if_pos (by omega), val_get hc hlt] <;> rfl
    cases hh : mstep n m c[i] with
    | more m' =>
      rw [hh] at hm
      rw [fut_go hm, show 8 * i + 8 = 8 * (i + 1) by omega]
      exact fut_mark hc n k (i + 1) m' (by omega) (by omega)
    | fin mk =>
      rw [hh] at hm
      cases mk with
      | tail s => rw [fut_ev (by omega) hm rfl]; simp only [List.length_drop]; rw [show c.length - (c.length - (i + 1)) = i + 1 by omega, show 8 * i + 8 = 8 * (i + 1) by omega]
      | blk M P s => rw [fut_ev (by omega) hm rfl]; simp only [List.length_drop]; rw [show c.length - (c.length - (i + 1)) = i + 1 by omega, show 8 * i + 8 = 8 * (i + 1) by omega]
    | bad e =>
      rw [hh] at hm
      rw [fut_fin hm rfl]
theorem fut_tab (n M : Nat) : ∀ (k u : Nat) (t : TS), 8 * c.length - u = k → u ≤ 8 * c.length → fut ended c (.tab n M t) u = match run (tstep okT) t ((allBits c).drop u) with
    | .short _ => sh ended
    | .bad e => [.bad e]
    | .fin l more => fut ended c (.sym n l 0 0 ⟨List.range 256, M, 0, 0⟩) (8 * c.length - more.length)
  | 0, u, t, hk, hu => by
    rw [bits_end (by omega), run_nil]
    exact fut_short (n := n) (by simp only [mic]; rw [if_neg (by omega)])
  | k + 1, u, t, hk, hu => by
    rw [bits_at (by omega), run_cons]
    have hm : mic ended c (.tab n M t) u = match tstep okT t (bitAt c u) with
      | .more t' => .go (.tab n M t') (u + 1)
      | .fin l => .go (.sym n l 0 0 ⟨List.range 256, M, 0, 0⟩) (u + 1)
      | .bad e => .ev (.bad e) (.bad n e) (u + 1) := by
      simp only [mic]; rw [if_pos (by omega)] <;> rfl
    cases hh : tstep okT t (bitAt c u) with
    | more t' =>
      rw [hh] at hm
      rw [fut_go hm]
      exact fut_tab n M k (u + 1) t' (by omega) (by omega)
    | fin l =>
      rw [hh] at hm
      rw [fut_go hm]; simp only [List.length_drop, allBits_len]; rw [show 8 * c.length - (8 * c.length - (u + 1)) = u + 1 by omega]
    | bad e =>
      rw [hh] at hm
      rw [fut_fin hm rfl]
theorem fut_sym (n : Nat) (l : List Nat) : ∀ (q u k m : Nat) (d : DS), 8 * c.length - u = q → u ≤ 8 * c.length → fut ended c (.sym n l k m d) u = match symE l k m d ((allBits c).drop u) with
    | (evs, .short) => evs ++ sh ended
    | (evs, .bad e) => evs ++ [.bad e]
    | (evs, .fin left) => evs ++ fut ended c (.pad n) (8 * c.length - left.length)
  | 0, u, k, m, d, hk, hu => by
    rw [bits_end (by omega)]
    exact fut_short (n := n) (by simp only [mic]; rw [if_neg (by omega)])
  | q + 1, u, k, m, d, hk, hu => by
    rw [bits_at (by omega), symE]
    have hm : mic ended c (.sym n l k m d) u = match findS l (2 * k + bitAt c u) (m + 1) with
      | none => .go (.sym n l (2 * k + bitAt c u) (m + 1) d) (u + 1)
      | some y => match dsym d y with
        | none => .ev (.bad 160) (.bad n 160) (u + 1)
        | some (d', t, en) => if t = [] then .go (if en then .pad n else .sym n l 0 0 d') (u + 1) else .ev (.bytes t) (if en then .pad n else .sym n l 0 0 d') (u + 1) := by
      simp only [mic]; rw [if_pos (by omega)] <;> rfl
    cases hf : findS l (2 * k + bitAt c u) (m + 1) with
    | none =>
      rw [hf] at hm
      rw [fut_go hm]
      exact fut_sym n l q (u + 1) _ _ d (by omega) (by omega)
    | some y =>
      rw [hf] at hm
      simp only at hm
      simp only
      cases hd : dsym d y with
      | none =>
        rw [hd] at hm
        rw [fut_fin hm rfl]; rfl
      | some p =>
        obtain ⟨d', t, en⟩ := p
        rw [hd] at hm
        simp only at hm
        cases en with
        | true =>
          simp only
          by_cases ht : t = []
          · rw [if_pos ht] at hm
            rw [if_pos ht, fut_go hm]; simp only [List.length_drop, allBits_len]; rw [show 8 * c.length - (8 * c.length - (u + 1)) = u + 1 by omega]; rfl
          · rw [if_neg ht] at hm
            rw [if_neg ht, fut_ev hu hm rfl]; simp only [List.length_drop, allBits_len]; rw [show 8 * c.length - (8 * c.length - (u + 1)) = u + 1 by omega]; rfl
        | false =>
          have ih := fut_sym n l q (u + 1) 0 0 d' (by omega) (by omega)
          simp only
          by_cases ht : t = []
          · rw [if_pos ht] at hm
            rw [if_pos ht, fut_go hm]
            exact ih
          · rw [if_neg ht] at hm
            rw [if_neg ht, fut_ev hu hm rfl]
            simp only [Bool.false_eq_true, if_false]
            rw [ih]
            rcases symE l 0 0 d' ((allBits c).drop (u + 1)) with ⟨evs, r⟩
            cases r <;> rfl
/-! what is left is an end of what was there -/
theorem drop_len {α : Type} {a b : List α} (h : ∃ x, b = x ++ a) : a = b.drop (b.length - a.length) := by
  obtain ⟨x, rfl⟩ := h
  rw [List.length_append, Nat.add_sub_cancel, List.drop_left]
theorem run_end {α σ β ε : Type} {f : σ → α → Stp σ β ε} {l : List α} {s : σ} {b : β} {r : List α} (h : run f s l = .fin b r) : (∃ x, l = x ++ r) ∧ r.length < l.length := by
  obtain ⟨a, c, s', e, _, _⟩ := run_split h
  refine ⟨⟨a ++ [c], by rw [e]; simp⟩, by rw [e]; simp; omega⟩
theorem symE_end (l : List Nat) : ∀ (b : List Nat) (k m : Nat) (d : DS) (evs : List Ev) (left : List Nat), symE l k m d b = (evs, .fin left) → (∃ x, b = x ++ left) ∧ left.length < b.length
  | [], _, _, _, _, _, h => by simp [symE] at h
  | x :: b, k, m, d, evs, left, h => by
    rw [symE] at h
    have up : ((∃ y, b = y ++ left) ∧ left.length < b.length) → (∃ y, x :: b = y ++ left) ∧ left.length < (x :: b).length := fun ⟨⟨y, e⟩, hl⟩ => ⟨⟨x :: y, by rw [e]; rfl⟩, by rw [List.length_cons]; omega⟩
    cases hf : findS l (2 * k + x) (m + 1) with
    | none => rw [hf] at h; exact up (symE_end l b _ _ d evs left h)
    | some y =>
      rw [hf] at h
      simp only at h
      cases hd : dsym d y with
      | none => rw [hd] at h; simp at h
      | some p =>
        obtain ⟨d', t, en⟩ := p
        rw [hd] at h
        cases en with
        | true =>
          simp only at h
          injection h with h1 h2
          injection h2 with h2
          exact ⟨⟨[x], by rw [h2]; rfl⟩, by rw [h2]; simp⟩
        | false =>
          simp only at h
          injection h with h1 h2
          refine up (symE_end l b 0 0 d' (symE l 0 0 d' b).1 left ?_)
          rw [← h2]
/-! the padding -/
theorem val_zero (b : List Nat) (a : Nat) : ∀ n, val b a n = 0 ↔ ∀ j, j < n → bitAt b (a + j) = 0
  | 0 => by simp [val]
  | n + 1 => by
    have ih := val_zero b a n
    rw [val]
    constructor
    · intro h j hj
      by_cases e : j = n
      · rw [e]; omega
      · exact ih.1 (by omega) j (by omega)
    · intro h
      have := ih.2 fun j hj => h j (by omega)
      have := h n (by omega)
      omega
theorem padOk_iff {u : Nat} (hu : u ≤ 8 * c.length) : padOk ((allBits c).drop u) = true ↔ val c u (gap u) = 0 := by
  rw [val_zero]
  unfold padOk
  rw [List.all_eq_true, List.length_drop, allBits_len]
  have hg : (8 * c.length - u) % 8 = gap u := by unfold gap; split <;> omega
  have hle := gap_le (c := c) hu
  rw [hg]
  have at_ : ∀ j, j < gap u → (((allBits c).drop u).take (gap u))[j]? = some (bitAt c (u + j)) := fun j hj => by
    rw [List.getElem?_take, if_pos hj, List.getElem?_drop]
    simp [allBits, bitsOf, show u + j < 8 * c.length by omega]
  constructor
  · intro h j hj
    have := h (bitAt c (u + j)) (List.mem_of_getElem? (at_ j hj))
    simpa using this
  · intro h x hx
    obtain ⟨j, hj, e⟩ := List.mem_iff_getElem.1 hx
    have hj2 : j < gap u := by rw [List.length_take] at hj; omega
    have := at_ j hj2
    rw [List.getElem?_eq_getElem hj, e] at this
    injection this with this
    rw [this, h j hj2]; rfl
/-! a block -/
theorem fut_block (n M : Nat) {i : Nat} (hi : i ≤ c.length) : fut ended c (.tab n M t0) (8 * i) = (evB ended M (c.drop i)).1 ++ match (evB ended M (c.drop i)).2 with
    | none => []
    | some behind => fut ended c (.mark n ms0) (8 * (c.length - behind.length)) := by
  rw [fut_tab n M _ (8 * i) t0 rfl (by omega), ← allBits_drop]
  unfold evB
  cases hr : run (tstep okT) t0 (allBits (c.drop i)) with
  | short s => simp
  | bad e => simp
  | fin l more =>
    simp only
    obtain ⟨h1, h2⟩ := run_end hr
    rw [allBits_drop] at h1 h2
    have hm : more = (allBits c).drop (8 * c.length - more.length) := by
      have := drop_len h1
      rw [List.drop_drop, List.length_drop, allBits_len] at this
      rw [List.length_drop, allBits_len] at h2
      rwa [show 8 * i + (8 * c.length - 8 * i - more.length) = 8 * c.length - more.length by omega] at this
    rw [List.length_drop, allBits_len] at h2
    rw [fut_sym n l _ _ 0 0 _ rfl (by omega), ← hm]
    cases hs : symE l 0 0 ⟨List.range 256, M, 0, 0⟩ more with
    | mk evs r =>
      cases r with
      | short => simp
      | bad e => simp
      | fin left =>
        simp only
        obtain ⟨h3, h4⟩ := symE_end l _ _ _ _ _ _ hs
        generalize hu : 8 * c.length - left.length = u
        have hul : u ≤ 8 * c.length := by omega
        have hleft : left = (allBits c).drop u := by
          have := drop_len h3
          rw [hm, List.drop_drop, List.length_drop, allBits_len] at this
          rwa [show 8 * c.length - more.length + (8 * c.length - (8 * c.length - more.length) - left.length) = u by omega] at this
        have hp := padOk_iff (c := c) hul
        rw [← hleft] at hp
        by_cases hpo : padOk left = true
        · have hmic : mic ended c (.pad n) u = .ev .bend (.mark n ms0) (u + gap u) := by simp only [mic]; rw [if_pos (hp.1 hpo)]
          rw [if_pos hpo, fut_ev hul hmic rfl]
          simp only
          rw [List.length_drop, List.length_drop, show u + gap u = 8 * (c.length - (c.length - i - (c.length - i - left.length / 8))) by unfold gap; split <;> omega]
          simp
        · have hmic : mic ended c (.pad n) u = .ev (.bad 160) (.bad n 160) (u + gap u) := by simp only [mic]; rw [if_neg (fun e => hpo (hp.2 e))]
          rw [if_neg hpo, fut_fin hmic rfl]
          simp
theorem evB_less {M : Nat} {rest behind : List Nat} (h : (evB ended M rest).2 = some behind) : ∃ k, behind = rest.drop k := by
  unfold evB at h
  cases hr : run (tstep okT) t0 (allBits rest) with
  | short s => rw [hr] at h; simp at h
  | bad e => rw [hr] at h; simp at h
  | fin l more =>
    rw [hr] at h
    simp only at h
    cases hs : symE l 0 0 ⟨List.range 256, M, 0, 0⟩ more with
    | mk evs r =>
      rw [hs] at h
      cases r with
      | short => simp at h
      | bad e => simp at h
      | fin left =>
        simp only at h
        split at h
        · simp only at h; injection h with h; exact ⟨_, h.symm⟩
        · simp at h
/-- the events from a mark on -/
theorem fut_evK (hc : ∀ x ∈ c, x < 256) (n : Nat) : ∀ (k i : Nat), i ≤ c.length → c.length - i < k → fut ended c (.mark n ms0) (8 * i) = evK ended n k (c.drop i)
  | 0, i, hi, hk => by omega
  | k + 1, i, hi, hk => by
    rw [fut_mark hc n _ i ms0 rfl hi, evK]
    cases hr : run (mstep n) ms0 (c.drop i) with
    | short s => rfl
    | bad e => rfl
    | fin mk rest =>
      obtain ⟨h1, h2⟩ := run_end hr
      rw [List.length_drop] at h2
      have hrest : rest = c.drop (c.length - rest.length) := by
        have := drop_len h1
        rw [List.drop_drop, List.length_drop] at this
        rwa [show i + (c.length - i - rest.length) = c.length - rest.length by omega] at this
      cases mk with
      | tail s =>
        simp only
        congr 1
        by_cases hz : rest = []
        · have hl : rest.length = 0 := by rw [hz]; rfl
          cases hE : ended with
          | true =>
            have hmic : mic true c (.behind n) (8 * (c.length - rest.length)) = .ev .fin (.over n) (8 * (c.length - rest.length)) := by simp only [mic]; rw [if_neg (by omega)] <;> rfl
            rw [fut_fin hmic rfl]; simp [hz]
          | false =>
            have hmic : mic false c (.behind n) (8 * (c.length - rest.length)) = .need := by simp only [mic]; rw [if_neg (by omega)] <;> rfl
            rw [fut_need hmic]; simp [hz]
        · have hl := List.length_pos_iff.2 hz
          have hmic : mic ended c (.behind n) (8 * (c.length - rest.length)) = .ev (.bad 261) (.bad n 261) (8 * (c.length - rest.length)) := by simp only [mic]; rw [if_pos (by omega)]
          rw [fut_fin hmic rfl]; simp [hz]
      | blk M P s =>
        simp only
        congr 1
        rw [fut_block n M (by omega), ← hrest]
        congr 1
        cases hb : (evB ended M rest).2 with
        | none => rfl
        | some behind =>
          simp only
          obtain ⟨q, e⟩ := evB_less hb
          have hbl : behind.length ≤ rest.length := by rw [e, List.length_drop]; omega
          rw [fut_evK hc n k _ (by omega) (by omega)]
          congr 1
          rw [e, hrest, List.drop_drop, List.length_drop]
          rcases Nat.le_total q rest.length with hq | hq
          · congr 1; omega
          · rw [List.drop_of_length_le (by omega), List.drop_of_length_le (by omega)]
/-- the events of a parser are those of the definition -/
theorem fut_evs (hc : ∀ x ∈ c, x < 256) : fut ended c (.head ⟨0, 0⟩) 0 = evs ended c := by
  have h := fut_head (ended := ended) hc _ 0 ⟨0, 0⟩ rfl (by omega)
  rw [Nat.mul_zero, List.drop_zero] at h
  rw [h]
  unfold evs
  cases hr : run hstep ⟨0, 0⟩ c with
  | short s => rfl
  | bad e => rfl
  | fin n rest =>
    obtain ⟨h1, h2⟩ := run_end hr
    have hrest := drop_len h1
    simp only
    congr 1
    rw [fut_evK hc n (rest.length + 1) _ (by omega) (by omega), ← hrest]
end
end Go.Prs
/- PrsR -/
namespace Go.Prs
open Go.Inc Go.Srt Go.Sym Go.Bits Go.Tab Go.Hd Go.Crc Go.Bw Go.Blk Go.Stm
/-- headers and marks begin at a byte -/
def Al : PS → Nat → Prop
  | .head _, u => u % 8 = 0
  | .mark _ _, u => u % 8 = 0
  | _, _ => True
def pot (c : List Nat) (s : PS) (u : Nat) : Nat := 8 * c.length - u + match s with
  | .sym _ _ _ _ _ => 1
  | .pad _ => 1
  | _ => 0
section
variable {ended : Bool} {c : List Nat} {s s' : PS} {u u' : Nat} {e : Ev}
theorem mic_goP (h : mic ended c s u = .go s' u') (hA : Al s u) : pot c s' u' ≤ pot c s u ∧ Al s' u' := by
  unfold mic short at h
  unfold pot
  split at h
  all_goals try (split at h)
  all_goals try (split at h)
  all_goals try (split at h)
  all_goals try (split at h)
  all_goals first
    | (cases h; done)
    | (injection h with h1 h2; subst h1; subst h2; refine ⟨?_, ?_⟩ <;> first | (simp only [Al] at hA ⊢; omega) | trivial | (dsimp only; omega) | ((try split) <;> (try split) <;> first | omega | trivial))
    | skip
theorem gap_al (u : Nat) : (u + gap u) % 8 = 0 := by unfold gap; split <;> omega
theorem mic_evP (hu : u ≤ 8 * c.length) (h : mic ended c s u = .ev e s' u') (hA : Al s u) : (final e = false → pot c s' u' < pot c s u) ∧ Al s' u' := by
  have hg := gap_le hu
  have ha := gap_al u
  unfold mic short at h
  unfold pot
  split at h
  all_goals try (split at h)
  all_goals try (split at h)
  all_goals try (split at h)
  all_goals try (split at h)
  all_goals first
    | (cases h; done)
    | (injection h with h1 h2 h3; subst h1; subst h2; subst h3; refine ⟨fun hf => ?_, ?_⟩ <;> first | (cases hf; done) | (simp only [Al] at hA ⊢; omega) | trivial | (dsimp only; omega) | ((try split) <;> (try split) <;> first | omega | trivial))
    | skip
theorem mic_need (hu : u ≤ 8 * c.length) (h : mic ended c s u = .need) (hA : Al s u) : u = 8 * c.length ∧ ended = false := by
  cases ended with
  | true =>
    unfold mic short at h
    split at h
    all_goals try (split at h)
    all_goals try (split at h)
    all_goals try (split at h)
    all_goals try (split at h)
    all_goals first
      | (cases h; done)
      | (exact absurd rfl ‹¬ (true = true)›)
      | skip
  | false =>
    refine ⟨?_, rfl⟩
    unfold mic short at h
    split at h
    all_goals try (split at h)
    all_goals try (split at h)
    all_goals try (split at h)
    all_goals try (split at h)
    all_goals first
      | (cases h; done)
      | (simp only [Al] at hA; omega)
      | omega
      | skip
theorem bit_app {z : List Nat} (h : u < 8 * c.length) : bitAt (c ++ z) u = bitAt c u := by
  unfold bitAt
  rw [List.getD, List.getD, List.getElem?_append_left (by omega)]
/-- more input changes no turn that was possible -/
theorem mic_app {en : Bool} {z : List Nat} (hu : u ≤ 8 * c.length) (h : mic false c s u ≠ .need) : mic en (c ++ z) s u = mic false c s u := by
  have hg := gap_le hu
  have hl : (c ++ z).length = c.length + z.length := List.length_append
  cases s with
  | head hs =>
    by_cases q : u + 8 ≤ 8 * c.length
    · simp only [mic]; rw [if_pos q, if_pos (by omega), val_append _ _ _ _ q]
    · exfalso; apply h; simp only [mic]; rw [if_neg q] <;> rfl
  | mark n m =>
    by_cases q : u + 8 ≤ 8 * c.length
    · simp only [mic]; rw [if_pos q, if_pos (by omega), val_append _ _ _ _ q]
    · exfalso; apply h; simp only [mic]; rw [if_neg q] <;> rfl
  | tab n M t =>
    by_cases q : u + 1 ≤ 8 * c.length
    · simp only [mic]; rw [if_pos q, if_pos (by omega), bit_app (by omega)]
    · exfalso; apply h; simp only [mic]; rw [if_neg q] <;> rfl
  | sym n l k m d =>
    by_cases q : u + 1 ≤ 8 * c.length
    · simp only [mic]; rw [if_pos q, if_pos (by omega), bit_app (by omega)]
    · exfalso; apply h; simp only [mic]; rw [if_neg q] <;> rfl
  | pad n => simp only [mic]; rw [val_append _ _ _ _ hg]
  | behind n =>
    by_cases q : u < 8 * c.length
    · simp only [mic]; rw [if_pos q, if_pos (by omega)]
    · exfalso; apply h; simp only [mic]; rw [if_neg q] <;> rfl
  | over n => rfl
  | bad n e => rfl
end
/-- what a call answers, with what it leaves -/
theorem pst_all {ended : Bool} {c : List Nat} : ∀ (k : Nat) (s : PS) (u : Nat), meas c s u = k → u ≤ 8 * c.length → Al s u → match pst ended c s u with
    | (none, s', u') => u' = 8 * c.length ∧ ended = false ∧ Al s' u' ∧ ∀ en z, pst en (c ++ z) s u = pst en (c ++ z) s' u'
    | (some e, s', u') => u' ≤ 8 * c.length ∧ Al s' u' ∧ (final e = false → meas c s' u' < meas c s u ∧ pot c s' u' < pot c s u) ∧ (ended = false → ∀ en z, pst en (c ++ z) s u = (some e, s', u')) := by
  intro k
  induction k using Nat.strongRecOn with
  | ind k ih =>
    intro s u hk hu hA
    cases hm : mic ended c s u with
    | need => rw [pst_need hm]; have := mic_need hu hm hA; exact ⟨this.1, this.2, hA, fun en z => rfl⟩
    | ev e s' u' =>
      rw [pst_ev hm]
      have h1 := mic_ev hu hm
      have h2 := mic_evP hu hm hA
      refine ⟨h1.2.2, h2.2, fun hf => ⟨h1.1 hf, h2.1 hf⟩, fun he en z => ?_⟩
      subst he
      exact pst_ev (by rw [mic_app hu (by rw [hm]; simp), hm])
    | go s' u' =>
      have hd := mic_go hm
      have hp := mic_goP hm hA
      have := ih (meas c s' u') (by omega) s' u' rfl hd.2.2 hp.2
      have hz : ended = false → ∀ en z, pst en (c ++ z) s u = pst en (c ++ z) s' u' := fun he en z => by
        subst he
        exact pst_go (by rw [mic_app hu (by rw [hm]; simp), hm])
      rw [pst_go hm]
      revert this
      rcases pst ended c s' u' with ⟨o, s'', u''⟩
      cases o with
      | none => exact fun ⟨h1, h2, h3, h4⟩ => ⟨h1, h2, h3, fun en z => by rw [hz h2, h4]⟩
      | some e => exact fun ⟨h1, h2, h3, h4⟩ => ⟨h1, h2, fun hf => ⟨by have := (h3 hf).1; omega, by have := (h3 hf).2; omega⟩, fun he en z => by rw [hz he, h4 he]⟩
/-- the events up to one that is needed or final -/
def til (ended : Bool) (c : List Nat) (s : PS) (u : Nat) : List Ev × Option Ev × PS × Nat := match pst ended c s u with
  | (none, s', u') => ([], none, s', u')
  | (some e, s', u') => if _h : final e = false ∧ meas c s' u' < meas c s u then (e :: (til ended c s' u').1, (til ended c s' u').2) else ([], some e, s', u')
termination_by meas c s u
section
variable {ended : Bool} {c : List Nat} {s s' : PS} {u u' : Nat} {e : Ev}
theorem til_need (h : pst ended c s u = (none, s', u')) : til ended c s u = ([], none, s', u') := by rw [til, h]
theorem til_fin (h : pst ended c s u = (some e, s', u')) (hf : final e = true) : til ended c s u = ([], some e, s', u') := by
  rw [til, h]; simp only; rw [dif_neg (by rw [hf]; simp)]
theorem til_ev (hu : u ≤ 8 * c.length) (hA : Al s u) (h : pst ended c s u = (some e, s', u')) (hf : final e = false) : til ended c s u = (e :: (til ended c s' u').1, (til ended c s' u').2) := by
  have := pst_all (ended := ended) (meas c s u) s u rfl hu hA
  rw [h] at this
  rw [til, h]; simp only; rw [dif_pos ⟨hf, (this.2.2.1 hf).1⟩]
theorem til_same (hu : u ≤ 8 * c.length) (hA : Al s u) (hu' : u' ≤ 8 * c.length) (hA' : Al s' u') (h : pst ended c s u = pst ended c s' u') : til ended c s u = til ended c s' u' := by
  cases hq : pst ended c s' u' with
  | mk o p =>
    obtain ⟨a, b⟩ := p
    cases o with
    | none => rw [til_need (h.trans hq), til_need hq]
    | some e =>
      cases hf : final e with
      | true => rw [til_fin (h.trans hq) hf, til_fin hq hf]
      | false => rw [til_ev hu hA (h.trans hq) hf, til_ev hu' hA' hq hf]
end
theorem til_all {ended : Bool} {c : List Nat} : ∀ (k : Nat) (s : PS) (u : Nat), meas c s u = k → u ≤ 8 * c.length → Al s u → (til ended c s u).1.length ≤ pot c s u ∧ (til ended c s u).2.2.2 ≤ 8 * c.length ∧ Al (til ended c s u).2.2.1 (til ended c s u).2.2.2 ∧ (∀ x ∈ (til ended c s u).1, final x = false) ∧
    (match (til ended c s u).2.1 with
      | none => (til ended c s u).2.2.2 = 8 * c.length ∧ ended = false ∧ fut ended c s u = (til ended c s u).1 ∧ ∀ en z, til en (c ++ z) s u = ((til ended c s u).1 ++ (til en (c ++ z) (til ended c s u).2.2.1 (til ended c s u).2.2.2).1, (til en (c ++ z) (til ended c s u).2.2.1 (til ended c s u).2.2.2).2)
      | some e => final e = true ∧ fut ended c s u = (til ended c s u).1 ++ [e] ∧ (ended = false → ∀ en z, til en (c ++ z) s u = til ended c s u)) := by
  intro k
  induction k using Nat.strongRecOn with
  | ind k ih =>
    intro s u hk hu hA
    have hp := pst_all (ended := ended) k s u hk hu hA
    have hf := pst_fut (ended := ended) k s u hk hu
    cases hq : pst ended c s u with
    | mk o p =>
      obtain ⟨s', u'⟩ := p
      rw [hq] at hp hf
      cases o with
      | none =>
        obtain ⟨h1, h2, h3, h4⟩ := hp
        rw [til_need hq]
        refine ⟨Nat.zero_le _, by dsimp only; omega, h3, by simp, h1, h2, hf.1, fun en z => ?_⟩
        have : til en (c ++ z) s u = til en (c ++ z) s' u' := by
          exact til_same (by rw [List.length_append]; omega) hA (by rw [List.length_append]; omega) h3 (h4 en z)
        rw [this]; rfl
      | some e =>
        obtain ⟨h1, h2, h3, h4⟩ := hp
        cases hfe : final e with
        | true =>
          rw [til_fin hq hfe]
          refine ⟨Nat.zero_le _, h1, h2, by simp, hfe, ?_, fun he en z => ?_⟩
          · rw [hf.1, hfe]; rfl
          · exact til_fin (h4 he en z) hfe
        | false =>
          have hm := h3 hfe
          have := ih (meas c s' u') (by omega) s' u' rfl h1 h2
          rw [til_ev hu hA hq hfe]
          have hzu : ∀ z : List Nat, u ≤ 8 * (c ++ z).length := fun z => by rw [List.length_append]; omega
          revert this
          cases ht : til ended c s' u' with
          | mk l r =>
            obtain ⟨o, s'', u''⟩ := r
            simp only
            rintro ⟨g1, g2, g3, g4, g5⟩
            refine ⟨by rw [List.length_cons]; omega, g2, g3, fun x hx => ?_, ?_⟩
            · rcases List.mem_cons.1 hx with h | h
              · rw [h, hfe]
              · exact g4 x h
            · cases o with
              | none =>
                simp only at g5 ⊢
                obtain ⟨k1, k2, k3, k4⟩ := g5
                refine ⟨k1, k2, ?_, fun en z => ?_⟩
                · rw [hf.1, hfe, k3]; rfl
                · rw [til_ev (hzu z) hA (h4 k2 en z) hfe, k4 en z]; rfl
              | some e2 =>
                simp only at g5 ⊢
                obtain ⟨k1, k2, k3⟩ := g5
                refine ⟨k1, ?_, fun he en z => ?_⟩
                · rw [hf.1, hfe, k2]; rfl
                · rw [til_ev (hzu z) hA (h4 he en z) hfe, k3 he en z]
end Go.Prs
/- ParA -/
namespace Go.Srt
theorem stp_find {l : List Nat} {c b x : Nat} (hl : l.length = 258) (h : VSt l c b) (hx : x ≤ 1) : (stp l c b x).2 = findS l (2 * c + x) (b + 1) := by
  cases hs : (stp l c b x).2 with
  | some s =>
    obtain ⟨h1, h2, h3, h4⟩ := stp_done hl h hx hs
    have := findS_self hl (s := s) ⟨h1, by omega⟩
    rw [h2, h3] at this
    exact this.symm
  | none =>
    cases hf : findS l (2 * c + x) (b + 1) with
    | none => rfl
    | some s =>
      obtain ⟨⟨h1, h2⟩, h3, h4⟩ := findS_some hf
      have hr := rank_lt (l := l) (s := s) (by omega) h2
      unfold code at h4
      unfold stp at hs
      split at hs
      · rename_i hle
        rw [h3] at h4 hr
        omega
      · cases hs
end Go.Srt
namespace Go.Proofs.Ytjnjjibmlalpiaa
open Go Go.Vc Go.Bits Go.Srt Go.Inc Go.Sym Go.Tab Go.Hd Go.Prs
abbrev EvT := Int × Int × Int × Int × Int × Sl × Int × Unit
abbrev kEv : Ki := .st [.int .u8, .int .i64, .int .i64, .int .i64, .int .u32, .sl, .int .i64]
def evTT (o : Option Ev) (s : Sl) : EvT := match o with
  | none => (1, 0, 0, 0, 0, s, 0, ())
  | some (.hdr n) => (2, (n : Int), 0, 0, 0, s, 0, ())
  | some (.blk M P u) => (3, 0, (M : Int), (P : Int), (u : Int), s, 0, ())
  | some (.bytes _) => (4, 0, 0, 0, 0, s, 0, ())
  | some .bend => (5, 0, 0, 0, 0, s, 0, ())
  | some (.tail u) => (6, 0, 0, 0, (u : Int), s, 0, ())
  | some .fin => (7, 0, 0, 0, 0, s, 0, ())
  | some (.bad e) => (8, 0, 0, 0, 0, s, (e : Int), ())
def evX (o : Option Ev) : List Nat := match o with
  | some (.bytes t) => t
  | _ => []
/-- the fields of a parser -/
structure PF where
  a : Int
  h0 : Int
  h1 : Int
  h2 : Int
  h3 : Int
  m0 : Int
  m1 : Int
  m2 : Int
  m3 : Int
  m4 : Int
  m5 : Int
  m6 : Int
  T : List Value
  C : List Value
  B : List Value
  e : Int
abbrev p12 (a h0 h1 h2 h3 m0 m1 m2 m3 m4 m5 m6 : Int) (T C B : List Value) (e : Int) : Array Value :=
  ⟨.int .i64 a :: .int .i64 h0 :: .int .i64 h1 :: .int .i64 h2 :: .int .i64 h3 :: .int .i64 m0 :: .int .i64 m1 :: .int .i64 m2 :: .int .i64 m3 :: .int .i64 m4 :: .int .u32 m5 :: .int .i64 m6 :: (T ++ (C ++ (B ++ [.int .i64 e])))⟩
def PsR (s : PS) (y : PF) : Prop := (y.T.length = 262 ∧ y.C.length = 260 ∧ y.B.length = 260) ∧ match s with
  | .head h => y.a = 1 ∧ y.h0 = (h.at_ : Int) ∧ y.h1 = (h.v : Int) ∧ y.h2 = (vm h.v : Int) ∧ y.h3 = 0 ∧ y.m0 = 0 ∧ y.m1 = 0 ∧ y.m2 = 0 ∧ y.m3 = 0 ∧ y.m4 = 0 ∧ y.m5 = 0 ∧ y.m6 = 0 ∧ HsOk h
  | .mark n m => y.a = 2 ∧ y.h3 = (n : Int) ∧ y.m0 = (m.at_ : Int) ∧ y.m1 = (m.v : Int) ∧ y.m2 = (vm m.v : Int) ∧ y.m3 = (m.M : Int) ∧ y.m4 = (m.P : Int) ∧ y.m5 = (m.sum : Int) ∧ y.m6 = (m.many : Int) ∧ 1 ≤ n ∧ n ≤ 65536 ∧ MsOk n m
  | .tab n M t => y.a = 3 ∧ y.h3 = (n : Int) ∧ y.m3 = (M : Int) ∧ 1 ≤ M ∧ M ≤ n ∧ n ≤ 65536 ∧ y.T = (tbA (pad t.l) (t.l.length : Int) (t.bits : Int) (t.now : Int) (t.way : Int)).toList ∧ TsOk t
  | .sym n l k m d => y.a = 4 ∧ y.h3 = (n : Int) ∧ 1 ≤ n ∧ n ≤ 65536 ∧ y.C = (stA l k m).toList ∧ l.length = 258 ∧ VSt l k m ∧ y.B = (dsA d.L (d.left : Int) (d.run : Int) (d.digits : Int) false).toList ∧ DsOk d
  | .pad n => y.a = 5 ∧ y.h3 = (n : Int) ∧ 1 ≤ n ∧ n ≤ 65536
  | .behind n => y.a = 6 ∧ y.h3 = (n : Int)
  | .over n => y.a = 7 ∧ y.h3 = (n : Int)
  | .bad n e => y.a = 8 ∧ y.h3 = (n : Int) ∧ y.e = (e : Int)
def PsB (b : Nat) (s : PS) : HP := fun f => ∃ y : PF, PsR s y ∧ Sat [Blk b (.cells (p12 y.a y.h0 y.h1 y.h2 y.h3 y.m0 y.m1 y.m2 y.m3 y.m4 y.m5 y.m6 y.T y.C y.B y.e) 68 (0, 0))] f
section
variable {E w : World} {F : List HP} {b : Nat} {s : PS}
theorem PsB.opn (h : Hp E w (PsB b s :: F)) : ∃ y : PF, PsR s y ∧ Hp E w (Blk b (.cells (p12 y.a y.h0 y.h1 y.h2 y.h3 y.m0 y.m1 y.m2 y.m3 y.m4 y.m5 y.m6 y.T y.C y.B y.e) 68 (0, 0)) :: F) := by
  obtain ⟨y, h1, h⟩ := h.open1 (X := fun y : PF => PsR s y) (L := fun y => [Blk b (.cells (p12 y.a y.h0 y.h1 y.h2 y.h3 y.m0 y.m1 y.m2 y.m3 y.m4 y.m5 y.m6 y.T y.C y.B y.e) 68 (0, 0))]) (fun f hf => hf)
  exact ⟨y, h1, h⟩
theorem PsB.shut (y : PF) (hr : PsR s y) (h : Hp E w (Blk b (.cells (p12 y.a y.h0 y.h1 y.h2 y.h3 y.m0 y.m1 y.m2 y.m3 y.m4 y.m5 y.m6 y.T y.C y.B y.e) 68 (0, 0)) :: F)) : Hp E w (PsB b s :: F) :=
  Hp.shut1 (l := [_]) (fun f hf => ⟨y, hr, hf⟩) h
theorem PsB.sh {a h0 h1 h2 h3 m0 m1 m2 m3 m4 m5 m6 e : Int} {T C B : List Value} (h : Hp E w (Blk b (.cells (p12 a h0 h1 h2 h3 m0 m1 m2 m3 m4 m5 m6 T C B e) 68 (0, 0)) :: F)) (hr : PsR s ⟨a, h0, h1, h2, h3, m0, m1, m2, m3, m4, m5, m6, T, C, B, e⟩) : Hp E w (PsB b s :: F) :=
  PsB.shut ⟨a, h0, h1, h2, h3, m0, m1, m2, m3, m4, m5, m6, T, C, B, e⟩ hr h
end
section
variable {E w : World} {l F : List HP} {b : Nat} {x0 x1 x2 x3 x4 x5 x6 x7 x8 x9 x10 x11 : Value} {T C B post : List Value} {z : Value} {t : TypeId} {fr : Nat × Nat} {put : Obj → List HP} {cs : Array Value} {K : World → Prop} {KA : Array Value → Prop}
abbrev q12 (x0 x1 x2 x3 x4 x5 x6 x7 x8 x9 x10 x11 : Value) (R : List Value) : Array Value := ⟨x0 :: x1 :: x2 :: x3 :: x4 :: x5 :: x6 :: x7 :: x8 :: x9 :: x10 :: x11 :: R⟩
theorem pStT [FindB b l (q12 x0 x1 x2 x3 x4 x5 x6 x7 x8 x9 x10 x11 (T ++ post)) t (0, 0) put] (h : Hp E w l) (hT : T.length = 262) (hcs : cs.size = 262) (hv : cs.toList.all scalarB = true)
    (hK : ∀ w', Hp E w' (put (.cells (q12 x0 x1 x2 x3 x4 x5 x6 x7 x8 x9 x10 x11 (cs.toList ++ post)) t (0, 0))) → K w') : StA 262 ⟨b, 12, none⟩ cs w K :=
  StA.xm (pre := [x0, x1, x2, x3, x4, x5, x6, x7, x8, x9, x10, x11]) (mid := T) (post := post) h rfl rfl hT hcs (List.all_eq_true.1 hv) hK
theorem pStC [FindB b l (q12 x0 x1 x2 x3 x4 x5 x6 x7 x8 x9 x10 x11 (T ++ (C ++ post))) t (0, 0) put] (h : Hp E w l) (hT : T.length = 262) (hC : C.length = 260) (hcs : cs.size = 260) (hv : cs.toList.all scalarB = true)
    (hK : ∀ w', Hp E w' (put (.cells (q12 x0 x1 x2 x3 x4 x5 x6 x7 x8 x9 x10 x11 (T ++ (cs.toList ++ post))) t (0, 0))) → K w') : StA 260 ⟨b, 274, none⟩ cs w K :=
  StA.xm (pre := x0 :: x1 :: x2 :: x3 :: x4 :: x5 :: x6 :: x7 :: x8 :: x9 :: x10 :: x11 :: T) (mid := C) (post := post) h rfl (by simp [hT]) hC hcs (List.all_eq_true.1 hv) hK
theorem pStB [FindB b l (q12 x0 x1 x2 x3 x4 x5 x6 x7 x8 x9 x10 x11 (T ++ (C ++ (B ++ post)))) t (0, 0) put] (h : Hp E w l) (hT : T.length = 262) (hC : C.length = 260) (hB : B.length = 260) (hcs : cs.size = 260) (hv : cs.toList.all scalarB = true)
    (hK : ∀ w', Hp E w' (put (.cells (q12 x0 x1 x2 x3 x4 x5 x6 x7 x8 x9 x10 x11 (T ++ (C ++ (cs.toList ++ post)))) t (0, 0))) → K w') : StA 260 ⟨b, 534, none⟩ cs w K :=
  StA.xm (pre := x0 :: x1 :: x2 :: x3 :: x4 :: x5 :: x6 :: x7 :: x8 :: x9 :: x10 :: x11 :: (T ++ C)) (mid := B) (post := post) h (by simp) (by simp [hT, hC]) hB hcs (List.all_eq_true.1 hv) (fun w' h' => hK w' (by simpa using h'))
theorem pStE {v : Value} [FindB b l (q12 x0 x1 x2 x3 x4 x5 x6 x7 x8 x9 x10 x11 (T ++ (C ++ (B ++ [z])))) t (0, 0) put] (h : Hp E w l) (hT : T.length = 262) (hC : C.length = 260) (hB : B.length = 260) (hv : scalarB v = true)
    (hK : ∀ w', Hp E w' (put (.cells (q12 x0 x1 x2 x3 x4 x5 x6 x7 x8 x9 x10 x11 (T ++ (C ++ (B ++ [v])))) t (0, 0))) → K w') : St ⟨b, 794, none⟩ v w K :=
  St.xm (pre := x0 :: x1 :: x2 :: x3 :: x4 :: x5 :: x6 :: x7 :: x8 :: x9 :: x10 :: x11 :: (T ++ (C ++ B))) (u := z) (post := []) h (by simp) (by simp [hT, hC, hB]) hv (fun w' h' => hK w' (by simpa using h'))
theorem pLdT [FindB b l (q12 x0 x1 x2 x3 x4 x5 x6 x7 x8 x9 x10 x11 (T ++ post)) t fr put] (h : Hp E w l) (hT : T.length = 262) (hK : KA ⟨T⟩) : Ld (.arr 262) ⟨b, 12, none⟩ w KA :=
  Ld.xa (mid := T) (post := post) h rfl hT hK
theorem pLdC [FindB b l (q12 x0 x1 x2 x3 x4 x5 x6 x7 x8 x9 x10 x11 (T ++ (C ++ post))) t fr put] (h : Hp E w l) (hT : T.length = 262) (hC : C.length = 260) (hK : KA ⟨C⟩) : Ld (.arr 260) ⟨b, 274, none⟩ w KA :=
  Ld.xa (mid := C) (post := post) h (by show (T ++ (C ++ post)).drop 262 = _; rw [List.drop_left' hT]) hC hK
theorem pLdB [FindB b l (q12 x0 x1 x2 x3 x4 x5 x6 x7 x8 x9 x10 x11 (T ++ (C ++ (B ++ post)))) t fr put] (h : Hp E w l) (hT : T.length = 262) (hC : C.length = 260) (hB : B.length = 260) (hK : KA ⟨B⟩) : Ld (.arr 260) ⟨b, 534, none⟩ w KA :=
  Ld.xa (mid := B) (post := post) h (by show (T ++ (C ++ (B ++ post))).drop 522 = _; rw [← List.append_assoc, List.drop_left' (by simp [hT, hC])]) hB hK
theorem pLdE {e : Int} {KI : Int → Prop} [FindB b l (q12 x0 x1 x2 x3 x4 x5 x6 x7 x8 x9 x10 x11 (T ++ (C ++ (B ++ [.int .i64 e])))) t fr put] (h : Hp E w l) (hT : T.length = 262) (hC : C.length = 260) (hB : B.length = 260) (hK : KI e) : Ld kI ⟨b, 794, none⟩ w KI := by
  refine Ld.xb (x := e) h ?_ hK
  show (T ++ (C ++ (B ++ [.int .i64 e])))[782]? = _
  rw [← List.append_assoc, ← List.append_assoc, List.getElem?_append_right (by simp [hT, hC, hB])]
  simp [hT, hC, hB]
end
section
variable {E w : World} {F : List HP} {b pr : Nat} {c : List Nat} {u : Nat} {ended : Bool}
theorem part_c {n : Nat} {K : Int × Unit → World → Prop} (h : Hp E w F) (hK : ∀ w', Hp E w' F → K ((n : Int), ()) w') (hn : n = 1 ∨ n = 2 ∨ n = 3 ∨ n = 4 ∨ n = 5 ∨ n = 6 ∨ n = 7 ∨ n = 8) :
    Cl Try.prog [.st [.int .i64]] (match n with | 1 => n_parser_inHead | 2 => n_parser_inMark | 3 => n_parser_inTable | 4 => n_parser_inSymbols | 5 => n_parser_inPadding | 6 => n_parser_behind | 7 => n_parser_over | _ => n_parser_bad) ⟨[]⟩ w K := by
  rcases hn with rfl | rfl | rfl | rfl | rfl | rfl | rfl | rfl
  · refine parser_inHead.ok _ _ ?_
    unfold parser_inHead.E
    (repeat (first | with_reducible refine Nw.mk h (fun b w h => ?_) | with_reducible refine Drw.mk h (fun w h => ?_) | with_reducible refine Ld.xb h rfl ?_ | with_reducible refine Ld.xt h rfl ?_ | with_reducible refine LdS.xb (fun _ h => h) rfl ?_ | with_reducible refine LdS.xt (fun _ h => h) rfl ?_ | with_reducible refine And.intro h.hb ?_ | with_reducible refine StC.xw h rfl rfl (fun w h => ?_) | (with_reducible refine StC.xs h rfl rfl (fun w h => ?_); dsimp only [spl, over] at h) | (with_reducible refine St.xs h rfl rfl (fun w h => ?_); dsimp only [spl, over] at h) | with_reducible refine IfB.ntt ?_ | with_reducible refine IfB.nff ?_ | with_reducible refine IfB.t rfl ?_ | with_reducible refine IfB.f rfl ?_ | with_reducible refine IfB.dt (by omega) ?_ | with_reducible refine IfB.df (by omega) ?_ | with_reducible refine IfB.ndt (by omega) ?_ | with_reducible refine IfB.ndf (by omega) ?_ | with_reducible refine IfB.et (by omega) ?_ | with_reducible refine IfB.ef (by omega) ?_ | with_reducible refine IfB.nt (by omega) ?_ | with_reducible refine IfB.nf (by omega) ?_ | with_reducible refine And.intro (by first | omega | decide) ?_))
    exact hK _ h.tl
  · refine parser_inMark.ok _ _ ?_
    unfold parser_inMark.E
    (repeat (first | with_reducible refine Nw.mk h (fun b w h => ?_) | with_reducible refine Drw.mk h (fun w h => ?_) | with_reducible refine Ld.xb h rfl ?_ | with_reducible refine Ld.xt h rfl ?_ | with_reducible refine LdS.xb (fun _ h => h) rfl ?_ | with_reducible refine LdS.xt (fun _ h => h) rfl ?_ | with_reducible refine And.intro h.hb ?_ | with_reducible refine StC.xw h rfl rfl (fun w h => ?_) | (with_reducible refine StC.xs h rfl rfl (fun w h => ?_); dsimp only [spl, over] at h) | (with_reducible refine St.xs h rfl rfl (fun w h => ?_); dsimp only [spl, over] at h) | with_reducible refine IfB.ntt ?_ | with_reducible refine IfB.nff ?_ | with_reducible refine IfB.t rfl ?_ | with_reducible refine IfB.f rfl ?_ | with_reducible refine IfB.dt (by omega) ?_ | with_reducible refine IfB.df (by omega) ?_ | with_reducible refine IfB.ndt (by omega) ?_ | with_reducible refine IfB.ndf (by omega) ?_ | with_reducible refine IfB.et (by omega) ?_ | with_reducible refine IfB.ef (by omega) ?_ | with_reducible refine IfB.nt (by omega) ?_ | with_reducible refine IfB.nf (by omega) ?_ | with_reducible refine And.intro (by first | omega | decide) ?_))
    exact hK _ h.tl
  · refine parser_inTable.ok _ _ ?_
    unfold parser_inTable.E
    (repeat (first | with_reducible refine Nw.mk h (fun b w h => ?_) | with_reducible refine Drw.mk h (fun w h => ?_) | with_reducible refine Ld.xb h rfl ?_ | with_reducible refine Ld.xt h rfl ?_ | with_reducible refine LdS.xb (fun _ h => h) rfl ?_ | with_reducible refine LdS.xt (fun _ h => h) rfl ?_ | with_reducible refine And.intro h.hb ?_ | with_reducible refine StC.xw h rfl rfl (fun w h => ?_) | (with_reducible refine StC.xs h rfl rfl (fun w h => ?_); dsimp only [spl, over] at h) | (with_reducible refine St.xs h rfl rfl (fun w h => ?_); dsimp only [spl, over] at h) | with_reducible refine IfB.ntt ?_ | with_reducible refine IfB.nff ?_ | with_reducible refine IfB.t rfl ?_ | with_reducible refine IfB.f rfl ?_ | with_reducible refine IfB.dt (by omega) ?_ | with_reducible refine IfB.df (by omega) ?_ | with_reducible refine IfB.ndt (by omega) ?_ | with_reducible refine IfB.ndf (by omega) ?_ | with_reducible refine IfB.et (by omega) ?_ | with_reducible refine IfB.ef (by omega) ?_ | with_reducible refine IfB.nt (by omega) ?_ | with_reducible refine IfB.nf (by omega) ?_ | with_reducible refine And.intro (by first | omega | decide) ?_))
    exact hK _ h.tl
  · refine parser_inSymbols.ok _ _ ?_
    unfold parser_inSymbols.E
    (repeat (first | with_reducible refine Nw.mk h (fun b w h => ?_) | with_reducible refine Drw.mk h (fun w h => ?_) | with_reducible refine Ld.xb h rfl ?_ | with_reducible refine Ld.xt h rfl ?_ | with_reducible refine LdS.xb (fun _ h => h) rfl ?_ | with_reducible refine LdS.xt (fun _ h => h) rfl ?_ | with_reducible refine And.intro h.hb ?_ | with_reducible refine StC.xw h rfl rfl (fun w h => ?_) | (with_reducible refine StC.xs h rfl rfl (fun w h => ?_); dsimp only [spl, over] at h) | (with_reducible refine St.xs h rfl rfl (fun w h => ?_); dsimp only [spl, over] at h) | with_reducible refine IfB.ntt ?_ | with_reducible refine IfB.nff ?_ | with_reducible refine IfB.t rfl ?_ | with_reducible refine IfB.f rfl ?_ | with_reducible refine IfB.dt (by omega) ?_ | with_reducible refine IfB.df (by omega) ?_ | with_reducible refine IfB.ndt (by omega) ?_ | with_reducible refine IfB.ndf (by omega) ?_ | with_reducible refine IfB.et (by omega) ?_ | with_reducible refine IfB.ef (by omega) ?_ | with_reducible refine IfB.nt (by omega) ?_ | with_reducible refine IfB.nf (by omega) ?_ | with_reducible refine And.intro (by first | omega | decide) ?_))
    exact hK _ h.tl
  · refine parser_inPadding.ok _ _ ?_
    unfold parser_inPadding.E
    (repeat (first | with_reducible refine Nw.mk h (fun b w h => ?_) | with_reducible refine Drw.mk h (fun w h => ?_) | with_reducible refine Ld.xb h rfl ?_ | with_reducible refine Ld.xt h rfl ?_ | with_reducible refine LdS.xb (fun _ h => h) rfl ?_ | with_reducible refine LdS.xt (fun _ h => h) rfl ?_ | with_reducible refine And.intro h.hb ?_ | with_reducible refine StC.xw h rfl rfl (fun w h => ?_) | (with_reducible refine StC.xs h rfl rfl (fun w h => ?_); dsimp only [spl, over] at h) | (with_reducible refine St.xs h rfl rfl (fun w h => ?_); dsimp only [spl, over] at h) | with_reducible refine IfB.ntt ?_ | with_reducible refine IfB.nff ?_ | with_reducible refine IfB.t rfl ?_ | with_reducible refine IfB.f rfl ?_ | with_reducible refine IfB.dt (by omega) ?_ | with_reducible refine IfB.df (by omega) ?_ | with_reducible refine IfB.ndt (by omega) ?_ | with_reducible refine IfB.ndf (by omega) ?_ | with_reducible refine IfB.et (by omega) ?_ | with_reducible refine IfB.ef (by omega) ?_ | with_reducible refine IfB.nt (by omega) ?_ | with_reducible refine IfB.nf (by omega) ?_ | with_reducible refine And.intro (by first | omega | decide) ?_))
    exact hK _ h.tl
  · refine parser_behind.ok _ _ ?_
    unfold parser_behind.E
    (repeat (first | with_reducible refine Nw.mk h (fun b w h => ?_) | with_reducible refine Drw.mk h (fun w h => ?_) | with_reducible refine Ld.xb h rfl ?_ | with_reducible refine Ld.xt h rfl ?_ | with_reducible refine LdS.xb (fun _ h => h) rfl ?_ | with_reducible refine LdS.xt (fun _ h => h) rfl ?_ | with_reducible refine And.intro h.hb ?_ | with_reducible refine StC.xw h rfl rfl (fun w h => ?_) | (with_reducible refine StC.xs h rfl rfl (fun w h => ?_); dsimp only [spl, over] at h) | (with_reducible refine St.xs h rfl rfl (fun w h => ?_); dsimp only [spl, over] at h) | with_reducible refine IfB.ntt ?_ | with_reducible refine IfB.nff ?_ | with_reducible refine IfB.t rfl ?_ | with_reducible refine IfB.f rfl ?_ | with_reducible refine IfB.dt (by omega) ?_ | with_reducible refine IfB.df (by omega) ?_ | with_reducible refine IfB.ndt (by omega) ?_ | with_reducible refine IfB.ndf (by omega) ?_ | with_reducible refine IfB.et (by omega) ?_ | with_reducible refine IfB.ef (by omega) ?_ | with_reducible refine IfB.nt (by omega) ?_ | with_reducible refine IfB.nf (by omega) ?_ | with_reducible refine And.intro (by first | omega | decide) ?_))
    exact hK _ h.tl
  · refine parser_over.ok _ _ ?_
    unfold parser_over.E
    (repeat (first | with_reducible refine Nw.mk h (fun b w h => ?_) | with_reducible refine Drw.mk h (fun w h => ?_) | with_reducible refine Ld.xb h rfl ?_ | with_reducible refine Ld.xt h rfl ?_ | with_reducible refine LdS.xb (fun _ h => h) rfl ?_ | with_reducible refine LdS.xt (fun _ h => h) rfl ?_ | with_reducible refine And.intro h.hb ?_ | with_reducible refine StC.xw h rfl rfl (fun w h => ?_) | (with_reducible refine StC.xs h rfl rfl (fun w h => ?_); dsimp only [spl, over] at h) | (with_reducible refine St.xs h rfl rfl (fun w h => ?_); dsimp only [spl, over] at h) | with_reducible refine IfB.ntt ?_ | with_reducible refine IfB.nff ?_ | with_reducible refine IfB.t rfl ?_ | with_reducible refine IfB.f rfl ?_ | with_reducible refine IfB.dt (by omega) ?_ | with_reducible refine IfB.df (by omega) ?_ | with_reducible refine IfB.ndt (by omega) ?_ | with_reducible refine IfB.ndf (by omega) ?_ | with_reducible refine IfB.et (by omega) ?_ | with_reducible refine IfB.ef (by omega) ?_ | with_reducible refine IfB.nt (by omega) ?_ | with_reducible refine IfB.nf (by omega) ?_ | with_reducible refine And.intro (by first | omega | decide) ?_))
    exact hK _ h.tl
  · refine parser_bad.ok _ _ ?_
    unfold parser_bad.E
    (repeat (first | with_reducible refine Nw.mk h (fun b w h => ?_) | with_reducible refine Drw.mk h (fun w h => ?_) | with_reducible refine Ld.xb h rfl ?_ | with_reducible refine Ld.xt h rfl ?_ | with_reducible refine LdS.xb (fun _ h => h) rfl ?_ | with_reducible refine LdS.xt (fun _ h => h) rfl ?_ | with_reducible refine And.intro h.hb ?_ | with_reducible refine StC.xw h rfl rfl (fun w h => ?_) | (with_reducible refine StC.xs h rfl rfl (fun w h => ?_); dsimp only [spl, over] at h) | (with_reducible refine St.xs h rfl rfl (fun w h => ?_); dsimp only [spl, over] at h) | with_reducible refine IfB.ntt ?_ | with_reducible refine IfB.nff ?_ | with_reducible refine IfB.t rfl ?_ | with_reducible refine IfB.f rfl ?_ | with_reducible refine IfB.dt (by omega) ?_ | with_reducible refine IfB.df (by omega) ?_ | with_reducible refine IfB.ndt (by omega) ?_ | with_reducible refine IfB.ndf (by omega) ?_ | with_reducible refine IfB.et (by omega) ?_ | with_reducible refine IfB.ef (by omega) ?_ | with_reducible refine IfB.nt (by omega) ?_ | with_reducible refine IfB.nf (by omega) ?_ | with_reducible refine And.intro (by first | omega | decide) ?_))
    exact hK _ h.tl
set_option maxRecDepth 20000
theorem wrong_c {a h0 h1 h2 h3 m0 m1 m2 m3 m4 m5 m6 e0 e : Int} {T C B : List Value} {K : EvT → Bool → World → Prop} (hT : T.length = 262) (hC : C.length = 260) (hB : B.length = 260)
    (h : Hp E w (Blk b (.cells (p12 a h0 h1 h2 h3 m0 m1 m2 m3 m4 m5 m6 T C B e0) 68 (0, 0)) :: F))
    (hK : ∀ w', Hp E w' (Blk b (.cells (p12 8 h0 h1 h2 h3 m0 m1 m2 m3 m4 m5 m6 T C B e) 68 (0, 0)) :: F) → K (8, 0, 0, 0, 0, ⟨none, 0, 0⟩, e, ()) true w') :
    Cl Try.prog [kEv, kB] n_parser_Parser_wrong ⟨[.pointer (some ⟨b, 0, none⟩), .int .i64 e]⟩ w K := by
  refine parser_Parser_wrong.ok _ _ _ _ ?_
  unfold parser_Parser_wrong.E
  (try simp only [Join_eq, NilCk_some, add_mk, Nat.zero_add, Nat.add_zero, Nat.reduceAdd, Bool.not_true, Bool.not_false, IfB_t, IfB_f, Option.isNone])
  (repeat (first | with_reducible refine Nw.mk h (fun b w h => ?_) | with_reducible refine Drw.mk h (fun w h => ?_) | with_reducible refine Ld.xb h rfl ?_ | with_reducible refine Ld.xt h rfl ?_ | with_reducible refine LdS.xb (fun _ h => h) rfl ?_ | with_reducible refine LdS.xt (fun _ h => h) rfl ?_ | with_reducible refine And.intro h.hb ?_ | with_reducible refine StC.xw h rfl rfl (fun w h => ?_) | (with_reducible refine StC.xs h rfl rfl (fun w h => ?_); dsimp only [spl, over] at h) | (with_reducible refine St.xs h rfl rfl (fun w h => ?_); dsimp only [spl, over] at h) | with_reducible refine IfB.ntt ?_ | with_reducible refine IfB.nff ?_ | with_reducible refine IfB.t rfl ?_ | with_reducible refine IfB.f rfl ?_ | with_reducible refine IfB.dt (by omega) ?_ | with_reducible refine IfB.df (by omega) ?_ | with_reducible refine IfB.ndt (by omega) ?_ | with_reducible refine IfB.ndf (by omega) ?_ | with_reducible refine IfB.et (by omega) ?_ | with_reducible refine IfB.ef (by omega) ?_ | with_reducible refine IfB.nt (by omega) ?_ | with_reducible refine IfB.nf (by omega) ?_ | with_reducible refine And.intro (by first | omega | decide) ?_))
  refine part_c (n := 8) h (fun w h => ?_) (by simp)
  (repeat (first | with_reducible refine Nw.mk h (fun b w h => ?_) | with_reducible refine Drw.mk h (fun w h => ?_) | with_reducible refine Ld.xb h rfl ?_ | with_reducible refine Ld.xt h rfl ?_ | with_reducible refine LdS.xb (fun _ h => h) rfl ?_ | with_reducible refine LdS.xt (fun _ h => h) rfl ?_ | with_reducible refine And.intro h.hb ?_ | with_reducible refine StC.xw h rfl rfl (fun w h => ?_) | (with_reducible refine StC.xs h rfl rfl (fun w h => ?_); dsimp only [spl, over] at h) | (with_reducible refine St.xs h rfl rfl (fun w h => ?_); dsimp only [spl, over] at h) | with_reducible refine IfB.ntt ?_ | with_reducible refine IfB.nff ?_ | with_reducible refine IfB.t rfl ?_ | with_reducible refine IfB.f rfl ?_ | with_reducible refine IfB.dt (by omega) ?_ | with_reducible refine IfB.df (by omega) ?_ | with_reducible refine IfB.ndt (by omega) ?_ | with_reducible refine IfB.ndf (by omega) ?_ | with_reducible refine IfB.et (by omega) ?_ | with_reducible refine IfB.ef (by omega) ?_ | with_reducible refine IfB.nt (by omega) ?_ | with_reducible refine IfB.nf (by omega) ?_ | with_reducible refine And.intro (by first | omega | decide) ?_))
  refine pStE h hT hC hB rfl fun w h => ?_
  (repeat (first | with_reducible refine Nw.mk h (fun b w h => ?_) | with_reducible refine Drw.mk h (fun w h => ?_) | with_reducible refine Ld.xb h rfl ?_ | with_reducible refine Ld.xt h rfl ?_ | with_reducible refine LdS.xb (fun _ h => h) rfl ?_ | with_reducible refine LdS.xt (fun _ h => h) rfl ?_ | with_reducible refine And.intro h.hb ?_ | with_reducible refine StC.xw h rfl rfl (fun w h => ?_) | (with_reducible refine StC.xs h rfl rfl (fun w h => ?_); dsimp only [spl, over] at h) | (with_reducible refine St.xs h rfl rfl (fun w h => ?_); dsimp only [spl, over] at h) | with_reducible refine IfB.ntt ?_ | with_reducible refine IfB.nff ?_ | with_reducible refine IfB.t rfl ?_ | with_reducible refine IfB.f rfl ?_ | with_reducible refine IfB.dt (by omega) ?_ | with_reducible refine IfB.df (by omega) ?_ | with_reducible refine IfB.ndt (by omega) ?_ | with_reducible refine IfB.ndf (by omega) ?_ | with_reducible refine IfB.et (by omega) ?_ | with_reducible refine IfB.ef (by omega) ?_ | with_reducible refine IfB.nt (by omega) ?_ | with_reducible refine IfB.nf (by omega) ?_ | with_reducible refine And.intro (by first | omega | decide) ?_))
  exact hK _ (h.no 0)
theorem ptake_c {a h0 h1 h2 h3 m0 m1 m2 m3 m4 m5 m6 e0 : Int} {width : Nat} {T C B : List Value} {K : Int → EvT → Bool → World → Prop} (hT : T.length = 262) (hC : C.length = 260) (hB : B.length = 260) (hw : width ≤ 32)
    (h : Hp E w (Blk b (.cells (p12 a h0 h1 h2 h3 m0 m1 m2 m3 m4 m5 m6 T C B e0) 68 (0, 0)) :: Rd ⟨pr, 0, none⟩ c u ended :: F))
    (hgot : u + width ≤ 8 * c.length → ∀ w', Hp E w' (Blk b (.cells (p12 a h0 h1 h2 h3 m0 m1 m2 m3 m4 m5 m6 T C B e0) 68 (0, 0)) :: Rd ⟨pr, 0, none⟩ c (u + width) ended :: F) → K (val c u width : Int) (0, 0, 0, 0, 0, ⟨none, 0, 0⟩, 0, ()) true w')
    (hend : ¬ u + width ≤ 8 * c.length → ended = true → ∀ w', Hp E w' (Blk b (.cells (p12 8 h0 h1 h2 h3 m0 m1 m2 m3 m4 m5 m6 T C B 50) 68 (0, 0)) :: Rd ⟨pr, 0, none⟩ c u ended :: F) → K 0 (8, 0, 0, 0, 0, ⟨none, 0, 0⟩, 50, ()) false w')
    (hneed : ¬ u + width ≤ 8 * c.length → ended = false → ∀ w', Hp E w' (Blk b (.cells (p12 a h0 h1 h2 h3 m0 m1 m2 m3 m4 m5 m6 T C B e0) 68 (0, 0)) :: Rd ⟨pr, 0, none⟩ c u ended :: F) → K 0 (1, 0, 0, 0, 0, ⟨none, 0, 0⟩, 0, ()) false w') :
    Cl Try.prog [kInt .u32, kEv, kB] n_parser_Parser_take ⟨[.pointer (some ⟨b, 0, none⟩), .pointer (some ⟨pr, 0, none⟩), .int .i64 (width : Int)]⟩ w K := by
  refine parser_Parser_take.ok _ _ _ _ _ ?_
  unfold parser_Parser_take.E
  have hpk : peekB c u (width : Int) = decide (u + width ≤ 8 * c.length) := by
    unfold peekB
    obtain ⟨_, _, _, _, hu, _⟩ := Rd.opn (h.at 1)
    exact decide_eq_decide.2 (by omega)
  (repeat (first | with_reducible refine Nw.mk h (fun b w h => ?_) | with_reducible refine Drw.mk h (fun w h => ?_) | with_reducible refine Ld.xb h rfl ?_ | with_reducible refine Ld.xt h rfl ?_ | with_reducible refine LdS.xb (fun _ h => h) rfl ?_ | with_reducible refine LdS.xt (fun _ h => h) rfl ?_ | with_reducible refine And.intro h.hb ?_ | with_reducible refine StC.xw h rfl rfl (fun w h => ?_) | (with_reducible refine StC.xs h rfl rfl (fun w h => ?_); dsimp only [spl, over] at h) | (with_reducible refine St.xs h rfl rfl (fun w h => ?_); dsimp only [spl, over] at h) | with_reducible refine IfB.ntt ?_ | with_reducible refine IfB.nff ?_ | with_reducible refine IfB.t rfl ?_ | with_reducible refine IfB.f rfl ?_ | with_reducible refine IfB.dt (by omega) ?_ | with_reducible refine IfB.df (by omega) ?_ | with_reducible refine IfB.ndt (by omega) ?_ | with_reducible refine IfB.ndf (by omega) ?_ | with_reducible refine IfB.et (by omega) ?_ | with_reducible refine IfB.ef (by omega) ?_ | with_reducible refine IfB.nt (by omega) ?_ | with_reducible refine IfB.nf (by omega) ?_ | with_reducible refine And.intro (by first | omega | decide) ?_))
  refine take_c (h.at 2) fun w h => ?_
  rw [hpk] at h ⊢
  by_cases hle : u + width ≤ 8 * c.length
  · rw [decide_eq_true hle] at h ⊢
    rw [if_pos rfl, Int.toNat_natCast] at h
    have hv : peekV c u (width : Int) = (val c u width : Int) := by
      unfold peekV
      rw [if_pos (by omega), Int.toNat_natCast]
    rw [hv]
    (repeat (first | with_reducible refine Nw.mk h (fun b w h => ?_) | with_reducible refine Drw.mk h (fun w h => ?_) | with_reducible refine Ld.xb h rfl ?_ | with_reducible refine Ld.xt h rfl ?_ | with_reducible refine LdS.xb (fun _ h => h) rfl ?_ | with_reducible refine LdS.xt (fun _ h => h) rfl ?_ | with_reducible refine And.intro h.hb ?_ | with_reducible refine StC.xw h rfl rfl (fun w h => ?_) | (with_reducible refine StC.xs h rfl rfl (fun w h => ?_); dsimp only [spl, over] at h) | (with_reducible refine St.xs h rfl rfl (fun w h => ?_); dsimp only [spl, over] at h) | with_reducible refine IfB.ntt ?_ | with_reducible refine IfB.nff ?_ | with_reducible refine IfB.t rfl ?_ | with_reducible refine IfB.f rfl ?_ | with_reducible refine IfB.dt (by omega) ?_ | with_reducible refine IfB.df (by omega) ?_ | with_reducible refine IfB.ndt (by omega) ?_ | with_reducible refine IfB.ndf (by omega) ?_ | with_reducible refine IfB.et (by omega) ?_ | with_reducible refine IfB.ef (by omega) ?_ | with_reducible refine IfB.nt (by omega) ?_ | with_reducible refine IfB.nf (by omega) ?_ | with_reducible refine And.intro (by first | omega | decide) ?_))
    exact hgot hle _ ((h.at 0).no 1 |>.at 1)
  · rw [decide_eq_false hle] at h ⊢
    rw [if_neg (by simp)] at h
    (repeat (first | with_reducible refine Nw.mk h (fun b w h => ?_) | with_reducible refine Drw.mk h (fun w h => ?_) | with_reducible refine Ld.xb h rfl ?_ | with_reducible refine Ld.xt h rfl ?_ | with_reducible refine LdS.xb (fun _ h => h) rfl ?_ | with_reducible refine LdS.xt (fun _ h => h) rfl ?_ | with_reducible refine And.intro h.hb ?_ | with_reducible refine StC.xw h rfl rfl (fun w h => ?_) | (with_reducible refine StC.xs h rfl rfl (fun w h => ?_); dsimp only [spl, over] at h) | (with_reducible refine St.xs h rfl rfl (fun w h => ?_); dsimp only [spl, over] at h) | with_reducible refine IfB.ntt ?_ | with_reducible refine IfB.nff ?_ | with_reducible refine IfB.t rfl ?_ | with_reducible refine IfB.f rfl ?_ | with_reducible refine IfB.dt (by omega) ?_ | with_reducible refine IfB.df (by omega) ?_ | with_reducible refine IfB.ndt (by omega) ?_ | with_reducible refine IfB.ndf (by omega) ?_ | with_reducible refine IfB.et (by omega) ?_ | with_reducible refine IfB.ef (by omega) ?_ | with_reducible refine IfB.nt (by omega) ?_ | with_reducible refine IfB.nf (by omega) ?_ | with_reducible refine And.intro (by first | omega | decide) ?_))
    refine ended_c h ?_
    cases ended
    · (repeat (first | with_reducible refine Nw.mk h (fun b w h => ?_) | with_reducible refine Drw.mk h (fun w h => ?_) | with_reducible refine Ld.xb h rfl ?_ | with_reducible refine Ld.xt h rfl ?_ | with_reducible refine LdS.xb (fun _ h => h) rfl ?_ | with_reducible refine LdS.xt (fun _ h => h) rfl ?_ | with_reducible refine And.intro h.hb ?_ | with_reducible refine StC.xw h rfl rfl (fun w h => ?_) | (with_reducible refine StC.xs h rfl rfl (fun w h => ?_); dsimp only [spl, over] at h) | (with_reducible refine St.xs h rfl rfl (fun w h => ?_); dsimp only [spl, over] at h) | with_reducible refine IfB.ntt ?_ | with_reducible refine IfB.nff ?_ | with_reducible refine IfB.t rfl ?_ | with_reducible refine IfB.f rfl ?_ | with_reducible refine IfB.dt (by omega) ?_ | with_reducible refine IfB.df (by omega) ?_ | with_reducible refine IfB.ndt (by omega) ?_ | with_reducible refine IfB.ndf (by omega) ?_ | with_reducible refine IfB.et (by omega) ?_ | with_reducible refine IfB.ef (by omega) ?_ | with_reducible refine IfB.nt (by omega) ?_ | with_reducible refine IfB.nf (by omega) ?_ | with_reducible refine And.intro (by first | omega | decide) ?_))
      exact hneed hle rfl _ ((h.no 1).at 1)
    · (repeat (first | with_reducible refine Nw.mk h (fun b w h => ?_) | with_reducible refine Drw.mk h (fun w h => ?_) | with_reducible refine Ld.xb h rfl ?_ | with_reducible refine Ld.xt h rfl ?_ | with_reducible refine LdS.xb (fun _ h => h) rfl ?_ | with_reducible refine LdS.xt (fun _ h => h) rfl ?_ | with_reducible refine And.intro h.hb ?_ | with_reducible refine StC.xw h rfl rfl (fun w h => ?_) | (with_reducible refine StC.xs h rfl rfl (fun w h => ?_); dsimp only [spl, over] at h) | (with_reducible refine St.xs h rfl rfl (fun w h => ?_); dsimp only [spl, over] at h) | with_reducible refine IfB.ntt ?_ | with_reducible refine IfB.nff ?_ | with_reducible refine IfB.t rfl ?_ | with_reducible refine IfB.f rfl ?_ | with_reducible refine IfB.dt (by omega) ?_ | with_reducible refine IfB.df (by omega) ?_ | with_reducible refine IfB.ndt (by omega) ?_ | with_reducible refine IfB.ndf (by omega) ?_ | with_reducible refine IfB.et (by omega) ?_ | with_reducible refine IfB.ef (by omega) ?_ | with_reducible refine IfB.nt (by omega) ?_ | with_reducible refine IfB.nf (by omega) ?_ | with_reducible refine And.intro (by first | omega | decide) ?_))
      refine wrong_c hT hC hB (h.at 2) fun w h => ?_
      (repeat (first | with_reducible refine Nw.mk h (fun b w h => ?_) | with_reducible refine Drw.mk h (fun w h => ?_) | with_reducible refine Ld.xb h rfl ?_ | with_reducible refine Ld.xt h rfl ?_ | with_reducible refine LdS.xb (fun _ h => h) rfl ?_ | with_reducible refine LdS.xt (fun _ h => h) rfl ?_ | with_reducible refine And.intro h.hb ?_ | with_reducible refine StC.xw h rfl rfl (fun w h => ?_) | (with_reducible refine StC.xs h rfl rfl (fun w h => ?_); dsimp only [spl, over] at h) | (with_reducible refine St.xs h rfl rfl (fun w h => ?_); dsimp only [spl, over] at h) | with_reducible refine IfB.ntt ?_ | with_reducible refine IfB.nff ?_ | with_reducible refine IfB.t rfl ?_ | with_reducible refine IfB.f rfl ?_ | with_reducible refine IfB.dt (by omega) ?_ | with_reducible refine IfB.df (by omega) ?_ | with_reducible refine IfB.ndt (by omega) ?_ | with_reducible refine IfB.ndf (by omega) ?_ | with_reducible refine IfB.et (by omega) ?_ | with_reducible refine IfB.ef (by omega) ?_ | with_reducible refine IfB.nt (by omega) ?_ | with_reducible refine IfB.nf (by omega) ?_ | with_reducible refine And.intro (by first | omega | decide) ?_))
      exact hend hle rfl _ (h.no 2)
end
end Go.Proofs.Ytjnjjibmlalpiaa
/- ParB -/
namespace Go.Proofs.Ytjnjjibmlalpiaa
open Go Go.Vc Go.Bits Go.Srt Go.Inc Go.Sym Go.Tab Go.Hd Go.Prs
section
variable {E w : World} {F : List HP} {b pr : Nat} {c : List Nat} {u : Nat} {ended : Bool}
def TurnR (b pr : Nat) (c : List Nat) (ended : Bool) (s : PS) (u : Nat) (E : World) (F : List HP) (K : EvT → Bool → World → Prop) : Prop :=
  (∀ s' u' x w', mic ended c s u = .go s' u' → Hp E w' (PsB b s' :: Rd ⟨pr, 0, none⟩ c u' ended :: F) → K x false w') ∧
  (∀ w', mic ended c s u = .need → Hp E w' (PsB b s :: Rd ⟨pr, 0, none⟩ c u ended :: F) → K (evTT none ⟨none, 0, 0⟩) true w') ∧
  (∀ e s' u' sl w', mic ended c s u = .ev e s' u' → (∀ x ∈ evX (some e), x < 256) → Hp E w' (OwnS 1 sl ((evX (some e)).map vB) :: PsB b s' :: Rd ⟨pr, 0, none⟩ c u' ended :: F) → K (evTT (some e) sl) true w')
theorem val8_lt {c : List Nat} {u : Nat} : val c u 8 < 256 := val_lt c u 8
theorem val1_bit {c : List Nat} {u : Nat} : val c u 1 = bitAt c u := by
  have h1 := val_bit c u 1 0 (by decide)
  have h2 := val_lt c u 1
  simp at h1
  omega
set_option maxRecDepth 20000
theorem heads_c {hs : HS} {K : EvT → Bool → World → Prop} (h : Hp E w (PsB b (.head hs) :: Rd ⟨pr, 0, none⟩ c u ended :: F)) (hK : TurnR b pr c ended (.head hs) u E F K) :
    Cl Try.prog [kEv, kB] n_parser_Parser_heads ⟨[.pointer (some ⟨b, 0, none⟩), .pointer (some ⟨pr, 0, none⟩)]⟩ w K := by
  obtain ⟨k1, k2, k3⟩ := hK
  obtain ⟨⟨a, h0, h1, h2, h3, m0, m1, m2, m3, m4, m5, m6, T, C, B, e⟩, ⟨⟨hT, hC, hB⟩, hr⟩, h⟩ := PsB.opn h
  dsimp only at hT hC hB hr h
  obtain ⟨rfl, rfl, rfl, rfl, rfl, rfl, rfl, rfl, rfl, rfl, rfl, rfl, hok⟩ := hr
  refine parser_Parser_heads.ok _ _ _ _ ?_
  unfold parser_Parser_heads.E
  (try simp only [Join_eq, NilCk_some, add_mk, Nat.zero_add, Nat.add_zero, Nat.reduceAdd, Bool.not_true, Bool.not_false, IfB_t, IfB_f, Option.isNone])
  (repeat (first | with_reducible refine Nw.mk h (fun b w h => ?_) | with_reducible refine Drw.mk h (fun w h => ?_) | with_reducible refine Ld.xb h rfl ?_ | with_reducible refine Ld.xt h rfl ?_ | with_reducible refine LdS.xb (fun _ h => h) rfl ?_ | with_reducible refine LdS.xt (fun _ h => h) rfl ?_ | with_reducible refine And.intro h.hb ?_ | with_reducible refine StC.xw h rfl rfl (fun w h => ?_) | (with_reducible refine StC.xs h rfl rfl (fun w h => ?_); dsimp only [spl, over] at h) | (with_reducible refine St.xs h rfl rfl (fun w h => ?_); dsimp only [spl, over] at h) | with_reducible refine IfB.ntt ?_ | with_reducible refine IfB.nff ?_ | with_reducible refine IfB.t rfl ?_ | with_reducible refine IfB.f rfl ?_ | with_reducible refine IfB.dt (by omega) ?_ | with_reducible refine IfB.df (by omega) ?_ | with_reducible refine IfB.ndt (by omega) ?_ | with_reducible refine IfB.ndf (by omega) ?_ | with_reducible refine IfB.et (by omega) ?_ | with_reducible refine IfB.ef (by omega) ?_ | with_reducible refine IfB.nt (by omega) ?_ | with_reducible refine IfB.nf (by omega) ?_ | with_reducible refine And.intro (by first | omega | decide) ?_))
  refine ptake_c (width := 8) hT hC hB (by decide) (h.at 1 |>.at 2 |>.at 1) (fun hle w h => ?_) (fun hle he w h => ?_) (fun hle he w h => ?_)
  · have hv := val8_lt (c := c) (u := u)
    (repeat (first | with_reducible refine Nw.mk h (fun b w h => ?_) | with_reducible refine Drw.mk h (fun w h => ?_) | with_reducible refine Ld.xb h rfl ?_ | with_reducible refine Ld.xt h rfl ?_ | with_reducible refine LdS.xb (fun _ h => h) rfl ?_ | with_reducible refine LdS.xt (fun _ h => h) rfl ?_ | with_reducible refine And.intro h.hb ?_ | with_reducible refine StC.xw h rfl rfl (fun w h => ?_) | (with_reducible refine StC.xs h rfl rfl (fun w h => ?_); dsimp only [spl, over] at h) | (with_reducible refine St.xs h rfl rfl (fun w h => ?_); dsimp only [spl, over] at h) | with_reducible refine IfB.ntt ?_ | with_reducible refine IfB.nff ?_ | with_reducible refine IfB.t rfl ?_ | with_reducible refine IfB.f rfl ?_ | with_reducible refine IfB.dt (by omega) ?_ | with_reducible refine IfB.df (by omega) ?_ | with_reducible refine IfB.ndt (by omega) ?_ | with_reducible refine IfB.ndf (by omega) ?_ | with_reducible refine IfB.et (by omega) ?_ | with_reducible refine IfB.ef (by omega) ?_ | with_reducible refine IfB.nt (by omega) ?_ | with_reducible refine IfB.nf (by omega) ?_ | with_reducible refine And.intro (by first | omega | decide) ?_))
    rw [u8_id (by omega)]
    refine hstep_c h hok hv (fun s' w hq h => ?_) (fun n w hq h => ?_) (fun er o w hq h => ?_)
    · (repeat (first | with_reducible refine Nw.mk h (fun b w h => ?_) | with_reducible refine Drw.mk h (fun w h => ?_) | with_reducible refine Ld.xb h rfl ?_ | with_reducible refine Ld.xt h rfl ?_ | with_reducible refine LdS.xb (fun _ h => h) rfl ?_ | with_reducible refine LdS.xt (fun _ h => h) rfl ?_ | with_reducible refine And.intro h.hb ?_ | with_reducible refine StC.xw h rfl rfl (fun w h => ?_) | (with_reducible refine StC.xs h rfl rfl (fun w h => ?_); dsimp only [spl, over] at h) | (with_reducible refine St.xs h rfl rfl (fun w h => ?_); dsimp only [spl, over] at h) | with_reducible refine IfB.ntt ?_ | with_reducible refine IfB.nff ?_ | with_reducible refine IfB.t rfl ?_ | with_reducible refine IfB.f rfl ?_ | with_reducible refine IfB.dt (by omega) ?_ | with_reducible refine IfB.df (by omega) ?_ | with_reducible refine IfB.ndt (by omega) ?_ | with_reducible refine IfB.ndf (by omega) ?_ | with_reducible refine IfB.et (by omega) ?_ | with_reducible refine IfB.ef (by omega) ?_ | with_reducible refine IfB.nt (by omega) ?_ | with_reducible refine IfB.nf (by omega) ?_ | with_reducible refine And.intro (by first | omega | decide) ?_))
      have hmic : mic ended c (.head hs) u = .go (.head s') (u + 8) := by unfold mic; dsimp only; rw [if_pos hle, hq]
      refine k1 _ _ _ _ hmic (PsB.sh ((((h.no 0).no 0).no 2)) ⟨⟨hT, hC, hB⟩, rfl, rfl, rfl, rfl, rfl, rfl, rfl, rfl, rfl, rfl, rfl, rfl, hstep_ok hok hv hq⟩)
    · (repeat (first | with_reducible refine Nw.mk h (fun b w h => ?_) | with_reducible refine Drw.mk h (fun w h => ?_) | with_reducible refine Ld.xb h rfl ?_ | with_reducible refine Ld.xt h rfl ?_ | with_reducible refine LdS.xb (fun _ h => h) rfl ?_ | with_reducible refine LdS.xt (fun _ h => h) rfl ?_ | with_reducible refine And.intro h.hb ?_ | with_reducible refine StC.xw h rfl rfl (fun w h => ?_) | (with_reducible refine StC.xs h rfl rfl (fun w h => ?_); dsimp only [spl, over] at h) | (with_reducible refine St.xs h rfl rfl (fun w h => ?_); dsimp only [spl, over] at h) | with_reducible refine IfB.ntt ?_ | with_reducible refine IfB.nff ?_ | with_reducible refine IfB.t rfl ?_ | with_reducible refine IfB.f rfl ?_ | with_reducible refine IfB.dt (by omega) ?_ | with_reducible refine IfB.df (by omega) ?_ | with_reducible refine IfB.ndt (by omega) ?_ | with_reducible refine IfB.ndf (by omega) ?_ | with_reducible refine IfB.et (by omega) ?_ | with_reducible refine IfB.ef (by omega) ?_ | with_reducible refine IfB.nt (by omega) ?_ | with_reducible refine IfB.nf (by omega) ?_ | with_reducible refine And.intro (by first | omega | decide) ?_))
      refine part_c (n := 2) h (fun w h => ?_) (by simp)
      (repeat (first | with_reducible refine Nw.mk h (fun b w h => ?_) | with_reducible refine Drw.mk h (fun w h => ?_) | with_reducible refine Ld.xb h rfl ?_ | with_reducible refine Ld.xt h rfl ?_ | with_reducible refine LdS.xb (fun _ h => h) rfl ?_ | with_reducible refine LdS.xt (fun _ h => h) rfl ?_ | with_reducible refine And.intro h.hb ?_ | with_reducible refine StC.xw h rfl rfl (fun w h => ?_) | (with_reducible refine StC.xs h rfl rfl (fun w h => ?_); dsimp only [spl, over] at h) | (with_reducible refine St.xs h rfl rfl (fun w h => ?_); dsimp only [spl, over] at h) | with_reducible refine IfB.ntt ?_ | with_reducible refine IfB.nff ?_ | with_reducible refine IfB.t rfl ?_ | with_reducible refine IfB.f rfl ?_ | with_reducible refine IfB.dt (by omega) ?_ | with_reducible refine IfB.df (by omega) ?_ | with_reducible refine IfB.ndt (by omega) ?_ | with_reducible refine IfB.ndf (by omega) ?_ | with_reducible refine IfB.et (by omega) ?_ | with_reducible refine IfB.ef (by omega) ?_ | with_reducible refine IfB.nt (by omega) ?_ | with_reducible refine IfB.nf (by omega) ?_ | with_reducible refine And.intro (by first | omega | decide) ?_))
      have hmic : mic ended c (.head hs) u = .ev (.hdr n) (.mark n ms0) (u + 8) := by unfold mic; dsimp only; rw [if_pos hle, hq]
      have hn := hstep_fin hv hq
      refine k3 _ _ _ _ _ hmic (fun _ hx => by cases hx) (Hp.ownNil (PsB.sh (s := .mark n ms0) ((((h.no 0).no 0).no 2)) ⟨⟨hT, hC, hB⟩, rfl, rfl, rfl, rfl, rfl, rfl, rfl, rfl, rfl, hn.1, hn.2, .inl ⟨rfl, rfl⟩⟩) 1)
    · (repeat (first | with_reducible refine Nw.mk h (fun b w h => ?_) | with_reducible refine Drw.mk h (fun w h => ?_) | with_reducible refine Ld.xb h rfl ?_ | with_reducible refine Ld.xt h rfl ?_ | with_reducible refine LdS.xb (fun _ h => h) rfl ?_ | with_reducible refine LdS.xt (fun _ h => h) rfl ?_ | with_reducible refine And.intro h.hb ?_ | with_reducible refine StC.xw h rfl rfl (fun w h => ?_) | (with_reducible refine StC.xs h rfl rfl (fun w h => ?_); dsimp only [spl, over] at h) | (with_reducible refine St.xs h rfl rfl (fun w h => ?_); dsimp only [spl, over] at h) | with_reducible refine IfB.ntt ?_ | with_reducible refine IfB.nff ?_ | with_reducible refine IfB.t rfl ?_ | with_reducible refine IfB.f rfl ?_ | with_reducible refine IfB.dt (by omega) ?_ | with_reducible refine IfB.df (by omega) ?_ | with_reducible refine IfB.ndt (by omega) ?_ | with_reducible refine IfB.ndf (by omega) ?_ | with_reducible refine IfB.et (by omega) ?_ | with_reducible refine IfB.ef (by omega) ?_ | with_reducible refine IfB.nt (by omega) ?_ | with_reducible refine IfB.nf (by omega) ?_ | with_reducible refine And.intro (by first | omega | decide) ?_))
      have : er ≠ 0 := by
        rintro rfl
        unfold hstep at hq
        split at hq
        · split at hq
          · cases hq
          · split at hq <;> cases hq
        · split at hq <;> cases hq
      refine IfB.nt (by omega) ?_
      refine wrong_c hT hC hB (h.at 2) fun w h => ?_
      (repeat (first | with_reducible refine Nw.mk h (fun b w h => ?_) | with_reducible refine Drw.mk h (fun w h => ?_) | with_reducible refine Ld.xb h rfl ?_ | with_reducible refine Ld.xt h rfl ?_ | with_reducible refine LdS.xb (fun _ h => h) rfl ?_ | with_reducible refine LdS.xt (fun _ h => h) rfl ?_ | with_reducible refine And.intro h.hb ?_ | with_reducible refine StC.xw h rfl rfl (fun w h => ?_) | (with_reducible refine StC.xs h rfl rfl (fun w h => ?_); dsimp only [spl, over] at h) | (with_reducible refine St.xs h rfl rfl (fun w h => ?_); dsimp only [spl, over] at h) | with_reducible refine IfB.ntt ?_ | with_reducible refine IfB.nff ?_ | with_reducible refine IfB.t rfl ?_ | with_reducible refine IfB.f rfl ?_ | with_reducible refine IfB.dt (by omega) ?_ | with_reducible refine IfB.df (by omega) ?_ | with_reducible refine IfB.ndt (by omega) ?_ | with_reducible refine IfB.ndf (by omega) ?_ | with_reducible refine IfB.et (by omega) ?_ | with_reducible refine IfB.ef (by omega) ?_ | with_reducible refine IfB.nt (by omega) ?_ | with_reducible refine IfB.nf (by omega) ?_ | with_reducible refine And.intro (by first | omega | decide) ?_))
      have hmic : mic ended c (.head hs) u = .ev (.bad er) (.bad 0 er) (u + 8) := by unfold mic; dsimp only; rw [if_pos hle, hq]
      refine k3 _ _ _ _ _ hmic (fun _ hx => by cases hx) (Hp.ownNil (PsB.sh (s := .bad 0 er) ((((h.no 1).no 1).no 2)) ⟨⟨hT, hC, hB⟩, rfl, rfl, rfl⟩) 1)
  · (repeat (first | with_reducible refine Nw.mk h (fun b w h => ?_) | with_reducible refine Drw.mk h (fun w h => ?_) | with_reducible refine Ld.xb h rfl ?_ | with_reducible refine Ld.xt h rfl ?_ | with_reducible refine LdS.xb (fun _ h => h) rfl ?_ | with_reducible refine LdS.xt (fun _ h => h) rfl ?_ | with_reducible refine And.intro h.hb ?_ | with_reducible refine StC.xw h rfl rfl (fun w h => ?_) | (with_reducible refine StC.xs h rfl rfl (fun w h => ?_); dsimp only [spl, over] at h) | (with_reducible refine St.xs h rfl rfl (fun w h => ?_); dsimp only [spl, over] at h) | with_reducible refine IfB.ntt ?_ | with_reducible refine IfB.nff ?_ | with_reducible refine IfB.t rfl ?_ | with_reducible refine IfB.f rfl ?_ | with_reducible refine IfB.dt (by omega) ?_ | with_reducible refine IfB.df (by omega) ?_ | with_reducible refine IfB.ndt (by omega) ?_ | with_reducible refine IfB.ndf (by omega) ?_ | with_reducible refine IfB.et (by omega) ?_ | with_reducible refine IfB.ef (by omega) ?_ | with_reducible refine IfB.nt (by omega) ?_ | with_reducible refine IfB.nf (by omega) ?_ | with_reducible refine And.intro (by first | omega | decide) ?_))
    have hmic : mic ended c (.head hs) u = .ev (.bad 50) (.bad 0 50) u := by
      unfold mic short; dsimp only; rw [if_neg hle, he]; rfl
    subst he
    refine k3 _ _ _ _ _ hmic (fun _ hx => by cases hx) (Hp.ownNil (PsB.sh (s := .bad 0 50) (((h.no 0).no 2)) ⟨⟨hT, hC, hB⟩, rfl, rfl, rfl⟩) 1)
  · (repeat (first | with_reducible refine Nw.mk h (fun b w h => ?_) | with_reducible refine Drw.mk h (fun w h => ?_) | with_reducible refine Ld.xb h rfl ?_ | with_reducible refine Ld.xt h rfl ?_ | with_reducible refine LdS.xb (fun _ h => h) rfl ?_ | with_reducible refine LdS.xt (fun _ h => h) rfl ?_ | with_reducible refine And.intro h.hb ?_ | with_reducible refine StC.xw h rfl rfl (fun w h => ?_) | (with_reducible refine StC.xs h rfl rfl (fun w h => ?_); dsimp only [spl, over] at h) | (with_reducible refine St.xs h rfl rfl (fun w h => ?_); dsimp only [spl, over] at h) | with_reducible refine IfB.ntt ?_ | with_reducible refine IfB.nff ?_ | with_reducible refine IfB.t rfl ?_ | with_reducible refine IfB.f rfl ?_ | with_reducible refine IfB.dt (by omega) ?_ | with_reducible refine IfB.df (by omega) ?_ | with_reducible refine IfB.ndt (by omega) ?_ | with_reducible refine IfB.ndf (by omega) ?_ | with_reducible refine IfB.et (by omega) ?_ | with_reducible refine IfB.ef (by omega) ?_ | with_reducible refine IfB.nt (by omega) ?_ | with_reducible refine IfB.nf (by omega) ?_ | with_reducible refine And.intro (by first | omega | decide) ?_))
    have hmic : mic ended c (.head hs) u = .need := by
      unfold mic short; dsimp only; rw [if_neg hle, he]; rfl
    subst he
    refine k2 _ hmic (PsB.sh (((h.no 0).no 2)) ⟨⟨hT, hC, hB⟩, rfl, rfl, rfl, rfl, rfl, rfl, rfl, rfl, rfl, rfl, rfl, rfl, hok⟩)
end
end Go.Proofs.Ytjnjjibmlalpiaa
/- ParC -/
namespace Go.Proofs.Ytjnjjibmlalpiaa
open Go Go.Vc Go.Bits Go.Srt Go.Inc Go.Sym Go.Tab Go.Hd Go.Prs
section
variable {E w : World} {F : List HP} {b pr : Nat} {c : List Nat} {u : Nat} {ended : Bool}
set_option maxRecDepth 20000
theorem Bld.tbZ {K : Array Value → Prop} (hK : K (tbA (List.replicate 258 0) 0 0 0 0)) : Bld Try.prog 60 [] K := by
  refine ⟨_, (by kernel_rfl : Try.prog.built 60 [] = some ⟨List.replicate 258 (.int .u8 0) ++ [.int .i64 0, .int .i64 0, .int .i64 0, .int .i64 0]⟩), ?_⟩
  rw [zeroTb]; exact hK
theorem mstep_bad {n : Nat} {m : MS} {x e : Nat} (h : mstep n m x = .bad e) : e = 242 := by
  unfold mstep at h
  split at h
  · split at h
    · cases h
    · split at h <;> cases h
      rfl
  · split at h
    · split at h <;> cases h
      rfl
    · split at h
      · split at h <;> cases h
        rfl
      · split at h
        · split at h <;> cases h
        · cases h
theorem marks_c {n : Nat} {m : MS} {K : EvT → Bool → World → Prop} (h : Hp E w (PsB b (.mark n m) :: Rd ⟨pr, 0, none⟩ c u ended :: F)) (hK : TurnR b pr c ended (.mark n m) u E F K) :
    Cl Try.prog [kEv, kB] n_parser_Parser_marks ⟨[.pointer (some ⟨b, 0, none⟩), .pointer (some ⟨pr, 0, none⟩)]⟩ w K := by
  obtain ⟨k1, k2, k3⟩ := hK
  obtain ⟨⟨a, h0, h1, h2, h3, m0, m1, m2, m3, m4, m5, m6, T, C, B, e⟩, ⟨⟨hT, hC, hB⟩, hr⟩, h⟩ := PsB.opn h
  dsimp only at hT hC hB hr h
  obtain ⟨rfl, rfl, rfl, rfl, rfl, rfl, rfl, rfl, rfl, hn1, hn2, hok⟩ := hr
  refine parser_Parser_marks.ok _ _ _ _ ?_
  unfold parser_Parser_marks.E
  (try simp only [Join_eq, NilCk_some, add_mk, Nat.zero_add, Nat.add_zero, Nat.reduceAdd, Bool.not_true, Bool.not_false, IfB_t, IfB_f, Option.isNone])
  refine Nw.mk h fun b4 w h => ?_
  refine ptake_c (width := 8) hT hC hB (by decide) (h.at 1 |>.at 2 |>.at 1) (fun hle w h => ?_) (fun hle he w h => ?_) (fun hle he w h => ?_)
  · have hv := val8_lt (c := c) (u := u)
    refine Nw.mk h fun b10 w h => ?_
    (repeat (first | with_reducible refine Nw.mk h (fun b w h => ?_) | with_reducible refine Drw.mk h (fun w h => ?_) | with_reducible refine Ld.xb h rfl ?_ | with_reducible refine Ld.xt h rfl ?_ | with_reducible refine LdS.xb (fun _ h => h) rfl ?_ | with_reducible refine LdS.xt (fun _ h => h) rfl ?_ | with_reducible refine And.intro h.hb ?_ | with_reducible refine StC.xw h rfl rfl (fun w h => ?_) | (with_reducible refine StC.xs h rfl rfl (fun w h => ?_); dsimp only [spl, over] at h) | (with_reducible refine St.xs h rfl rfl (fun w h => ?_); dsimp only [spl, over] at h) | with_reducible refine IfB.ntt ?_ | with_reducible refine IfB.nff ?_ | with_reducible refine IfB.t rfl ?_ | with_reducible refine IfB.f rfl ?_ | with_reducible refine IfB.dt (by omega) ?_ | with_reducible refine IfB.df (by omega) ?_ | with_reducible refine IfB.ndt (by omega) ?_ | with_reducible refine IfB.ndf (by omega) ?_ | with_reducible refine IfB.et (by omega) ?_ | with_reducible refine IfB.ef (by omega) ?_ | with_reducible refine IfB.nt (by omega) ?_ | with_reducible refine IfB.nf (by omega) ?_ | with_reducible refine And.intro (by first | omega | decide) ?_))
    rw [u8_id (by omega)]
    -- behind the transition
    have rest : ∀ (bs : Nat) (w : World) (r : MarkK) (d : Bool) (e' : Int) (G : List HP),
        G = [Blk b10 (.cells ⟨[.int .u8 0, .int .i64 0, .int .i64 0, .int .i64 0, .int .u32 0, .slice none 0 0, .int .i64 0]⟩ 38 (0, 0))] → True := fun _ _ _ _ _ _ _ => trivial
    have h := h.drew (n := w.drawn + 1)
    refine ⟨HoldB b _ _ _, h.hb, ?_⟩
    dsimp only
    (repeat (first | with_reducible refine Nw.mk h (fun b w h => ?_) | with_reducible refine Drw.mk h (fun w h => ?_) | with_reducible refine Ld.xb h rfl ?_ | with_reducible refine Ld.xt h rfl ?_ | with_reducible refine LdS.xb (fun _ h => h) rfl ?_ | with_reducible refine LdS.xt (fun _ h => h) rfl ?_ | with_reducible refine And.intro h.hb ?_ | with_reducible refine StC.xw h rfl rfl (fun w h => ?_) | (with_reducible refine StC.xs h rfl rfl (fun w h => ?_); dsimp only [spl, over] at h) | (with_reducible refine St.xs h rfl rfl (fun w h => ?_); dsimp only [spl, over] at h) | with_reducible refine IfB.ntt ?_ | with_reducible refine IfB.nff ?_ | with_reducible refine IfB.t rfl ?_ | with_reducible refine IfB.f rfl ?_ | with_reducible refine IfB.dt (by omega) ?_ | with_reducible refine IfB.df (by omega) ?_ | with_reducible refine IfB.ndt (by omega) ?_ | with_reducible refine IfB.ndf (by omega) ?_ | with_reducible refine IfB.et (by omega) ?_ | with_reducible refine IfB.ef (by omega) ?_ | with_reducible refine IfB.nt (by omega) ?_ | with_reducible refine IfB.nf (by omega) ?_ | with_reducible refine And.intro (by first | omega | decide) ?_))
    constructor
    · refine mstep_c h hn1 hn2 hok hv (fun m' w hq h => ⟨h.hb, ?_⟩) (fun M P s w hq h => ⟨h.hb, ?_⟩) (fun s w hq h => ⟨h.hb, ?_⟩) (fun er o w hq h => ⟨h.hb, ?_⟩)
      · have hmic : mic ended c (.mark n m) u = .go (.mark n m') (u + 8) := by unfold mic; dsimp only; rw [if_pos hle, hq]
        (repeat (first | with_reducible refine Nw.mk h (fun b w h => ?_) | with_reducible refine Drw.mk h (fun w h => ?_) | with_reducible refine Ld.xb h rfl ?_ | with_reducible refine Ld.xt h rfl ?_ | with_reducible refine LdS.xb (fun _ h => h) rfl ?_ | with_reducible refine LdS.xt (fun _ h => h) rfl ?_ | with_reducible refine And.intro h.hb ?_ | with_reducible refine StC.xw h rfl rfl (fun w h => ?_) | (with_reducible refine StC.xs h rfl rfl (fun w h => ?_); dsimp only [spl, over] at h) | (with_reducible refine St.xs h rfl rfl (fun w h => ?_); dsimp only [spl, over] at h) | with_reducible refine IfB.ntt ?_ | with_reducible refine IfB.nff ?_ | with_reducible refine IfB.t rfl ?_ | with_reducible refine IfB.f rfl ?_ | with_reducible refine IfB.dt (by omega) ?_ | with_reducible refine IfB.df (by omega) ?_ | with_reducible refine IfB.ndt (by omega) ?_ | with_reducible refine IfB.ndf (by omega) ?_ | with_reducible refine IfB.et (by omega) ?_ | with_reducible refine IfB.ef (by omega) ?_ | with_reducible refine IfB.nt (by omega) ?_ | with_reducible refine IfB.nf (by omega) ?_ | with_reducible refine And.intro (by first | omega | decide) ?_))
        refine k1 _ _ _ _ hmic (PsB.sh (((h.no 0).no 0).no 2) ⟨⟨hT, hC, hB⟩, rfl, rfl, rfl, rfl, rfl, rfl, rfl, rfl, rfl, hn1, hn2, mstep_ok hok hv hq⟩)
      · have hmic : mic ended c (.mark n m) u = .ev (.blk M P s) (.tab n M t0) (u + 8) := by unfold mic; dsimp only; rw [if_pos hle, hq]
        have hM := mstep_fin hok hq
        (repeat (first | with_reducible refine Nw.mk h (fun b w h => ?_) | with_reducible refine Drw.mk h (fun w h => ?_) | with_reducible refine Ld.xb h rfl ?_ | with_reducible refine Ld.xt h rfl ?_ | with_reducible refine LdS.xb (fun _ h => h) rfl ?_ | with_reducible refine LdS.xt (fun _ h => h) rfl ?_ | with_reducible refine And.intro h.hb ?_ | with_reducible refine StC.xw h rfl rfl (fun w h => ?_) | (with_reducible refine StC.xs h rfl rfl (fun w h => ?_); dsimp only [spl, over] at h) | (with_reducible refine St.xs h rfl rfl (fun w h => ?_); dsimp only [spl, over] at h) | with_reducible refine IfB.ntt ?_ | with_reducible refine IfB.nff ?_ | with_reducible refine IfB.t rfl ?_ | with_reducible refine IfB.f rfl ?_ | with_reducible refine IfB.dt (by omega) ?_ | with_reducible refine IfB.df (by omega) ?_ | with_reducible refine IfB.ndt (by omega) ?_ | with_reducible refine IfB.ndf (by omega) ?_ | with_reducible refine IfB.et (by omega) ?_ | with_reducible refine IfB.ef (by omega) ?_ | with_reducible refine IfB.nt (by omega) ?_ | with_reducible refine IfB.nf (by omega) ?_ | with_reducible refine And.intro (by first | omega | decide) ?_))
        refine part_c (n := 3) h (fun w h => ?_) (by simp)
        refine Bld.tbZ ?_
        (repeat (first | with_reducible refine Nw.mk h (fun b w h => ?_) | with_reducible refine Drw.mk h (fun w h => ?_) | with_reducible refine Ld.xb h rfl ?_ | with_reducible refine Ld.xt h rfl ?_ | with_reducible refine LdS.xb (fun _ h => h) rfl ?_ | with_reducible refine LdS.xt (fun _ h => h) rfl ?_ | with_reducible refine And.intro h.hb ?_ | with_reducible refine StC.xw h rfl rfl (fun w h => ?_) | (with_reducible refine StC.xs h rfl rfl (fun w h => ?_); dsimp only [spl, over] at h) | (with_reducible refine St.xs h rfl rfl (fun w h => ?_); dsimp only [spl, over] at h) | with_reducible refine IfB.ntt ?_ | with_reducible refine IfB.nff ?_ | with_reducible refine IfB.t rfl ?_ | with_reducible refine IfB.f rfl ?_ | with_reducible refine IfB.dt (by omega) ?_ | with_reducible refine IfB.df (by omega) ?_ | with_reducible refine IfB.ndt (by omega) ?_ | with_reducible refine IfB.ndf (by omega) ?_ | with_reducible refine IfB.et (by omega) ?_ | with_reducible refine IfB.ef (by omega) ?_ | with_reducible refine IfB.nt (by omega) ?_ | with_reducible refine IfB.nf (by omega) ?_ | with_reducible refine And.intro (by first | omega | decide) ?_))
        refine pStT h hT (tbA_size List.length_replicate) tbA_scalar fun w h => ?_
        (repeat (first | with_reducible refine Nw.mk h (fun b w h => ?_) | with_reducible refine Drw.mk h (fun w h => ?_) | with_reducible refine Ld.xb h rfl ?_ | with_reducible refine Ld.xt h rfl ?_ | with_reducible refine LdS.xb (fun _ h => h) rfl ?_ | with_reducible refine LdS.xt (fun _ h => h) rfl ?_ | with_reducible refine And.intro h.hb ?_ | with_reducible refine StC.xw h rfl rfl (fun w h => ?_) | (with_reducible refine StC.xs h rfl rfl (fun w h => ?_); dsimp only [spl, over] at h) | (with_reducible refine St.xs h rfl rfl (fun w h => ?_); dsimp only [spl, over] at h) | with_reducible refine IfB.ntt ?_ | with_reducible refine IfB.nff ?_ | with_reducible refine IfB.t rfl ?_ | with_reducible refine IfB.f rfl ?_ | with_reducible refine IfB.dt (by omega) ?_ | with_reducible refine IfB.df (by omega) ?_ | with_reducible refine IfB.ndt (by omega) ?_ | with_reducible refine IfB.ndf (by omega) ?_ | with_reducible refine IfB.et (by omega) ?_ | with_reducible refine IfB.ef (by omega) ?_ | with_reducible refine IfB.nt (by omega) ?_ | with_reducible refine IfB.nf (by omega) ?_ | with_reducible refine And.intro (by first | omega | decide) ?_))
        refine k3 _ _ _ _ _ hmic (fun _ hx => by cases hx) (Hp.ownNil (PsB.sh (s := .tab n M t0) (((h.no 0).no 0).no 2) ⟨⟨by simp, hC, hB⟩, rfl, rfl, rfl, hM.1, hM.2.1, hn2, rfl, TsOk.zero⟩) 1)
      · have hmic : mic ended c (.mark n m) u = .ev (.tail s) (.behind n) (u + 8) := by unfold mic; dsimp only; rw [if_pos hle, hq]
        (repeat (first | with_reducible refine Nw.mk h (fun b w h => ?_) | with_reducible refine Drw.mk h (fun w h => ?_) | with_reducible refine Ld.xb h rfl ?_ | with_reducible refine Ld.xt h rfl ?_ | with_reducible refine LdS.xb (fun _ h => h) rfl ?_ | with_reducible refine LdS.xt (fun _ h => h) rfl ?_ | with_reducible refine And.intro h.hb ?_ | with_reducible refine StC.xw h rfl rfl (fun w h => ?_) | (with_reducible refine StC.xs h rfl rfl (fun w h => ?_); dsimp only [spl, over] at h) | (with_reducible refine St.xs h rfl rfl (fun w h => ?_); dsimp only [spl, over] at h) | with_reducible refine IfB.ntt ?_ | with_reducible refine IfB.nff ?_ | with_reducible refine IfB.t rfl ?_ | with_reducible refine IfB.f rfl ?_ | with_reducible refine IfB.dt (by omega) ?_ | with_reducible refine IfB.df (by omega) ?_ | with_reducible refine IfB.ndt (by omega) ?_ | with_reducible refine IfB.ndf (by omega) ?_ | with_reducible refine IfB.et (by omega) ?_ | with_reducible refine IfB.ef (by omega) ?_ | with_reducible refine IfB.nt (by omega) ?_ | with_reducible refine IfB.nf (by omega) ?_ | with_reducible refine And.intro (by first | omega | decide) ?_))
        refine part_c (n := 6) h (fun w h => ?_) (by simp)
        (repeat (first | with_reducible refine Nw.mk h (fun b w h => ?_) | with_reducible refine Drw.mk h (fun w h => ?_) | with_reducible refine Ld.xb h rfl ?_ | with_reducible refine Ld.xt h rfl ?_ | with_reducible refine LdS.xb (fun _ h => h) rfl ?_ | with_reducible refine LdS.xt (fun _ h => h) rfl ?_ | with_reducible refine And.intro h.hb ?_ | with_reducible refine StC.xw h rfl rfl (fun w h => ?_) | (with_reducible refine StC.xs h rfl rfl (fun w h => ?_); dsimp only [spl, over] at h) | (with_reducible refine St.xs h rfl rfl (fun w h => ?_); dsimp only [spl, over] at h) | with_reducible refine IfB.ntt ?_ | with_reducible refine IfB.nff ?_ | with_reducible refine IfB.t rfl ?_ | with_reducible refine IfB.f rfl ?_ | with_reducible refine IfB.dt (by omega) ?_ | with_reducible refine IfB.df (by omega) ?_ | with_reducible refine IfB.ndt (by omega) ?_ | with_reducible refine IfB.ndf (by omega) ?_ | with_reducible refine IfB.et (by omega) ?_ | with_reducible refine IfB.ef (by omega) ?_ | with_reducible refine IfB.nt (by omega) ?_ | with_reducible refine IfB.nf (by omega) ?_ | with_reducible refine And.intro (by first | omega | decide) ?_))
        refine k3 _ _ _ _ _ hmic (fun _ hx => by cases hx) (Hp.ownNil (PsB.sh (s := .behind n) (((h.no 0).no 0).no 2) ⟨⟨hT, hC, hB⟩, rfl, rfl⟩) 1)
      · have hmic : mic ended c (.mark n m) u = .ev (.bad er) (.bad n er) (u + 8) := by unfold mic; dsimp only; rw [if_pos hle, hq]
        have := mstep_bad hq
        (repeat (first | with_reducible refine Nw.mk h (fun b w h => ?_) | with_reducible refine Drw.mk h (fun w h => ?_) | with_reducible refine Ld.xb h rfl ?_ | with_reducible refine Ld.xt h rfl ?_ | with_reducible refine LdS.xb (fun _ h => h) rfl ?_ | with_reducible refine LdS.xt (fun _ h => h) rfl ?_ | with_reducible refine And.intro h.hb ?_ | with_reducible refine StC.xw h rfl rfl (fun w h => ?_) | (with_reducible refine StC.xs h rfl rfl (fun w h => ?_); dsimp only [spl, over] at h) | (with_reducible refine St.xs h rfl rfl (fun w h => ?_); dsimp only [spl, over] at h) | with_reducible refine IfB.ntt ?_ | with_reducible refine IfB.nff ?_ | with_reducible refine IfB.t rfl ?_ | with_reducible refine IfB.f rfl ?_ | with_reducible refine IfB.dt (by omega) ?_ | with_reducible refine IfB.df (by omega) ?_ | with_reducible refine IfB.ndt (by omega) ?_ | with_reducible refine IfB.ndf (by omega) ?_ | with_reducible refine IfB.et (by omega) ?_ | with_reducible refine IfB.ef (by omega) ?_ | with_reducible refine IfB.nt (by omega) ?_ | with_reducible refine IfB.nf (by omega) ?_ | with_reducible refine And.intro (by first | omega | decide) ?_))
        refine wrong_c hT hC hB (h.at 2) fun w h => ?_
        (repeat (first | with_reducible refine Nw.mk h (fun b w h => ?_) | with_reducible refine Drw.mk h (fun w h => ?_) | with_reducible refine Ld.xb h rfl ?_ | with_reducible refine Ld.xt h rfl ?_ | with_reducible refine LdS.xb (fun _ h => h) rfl ?_ | with_reducible refine LdS.xt (fun _ h => h) rfl ?_ | with_reducible refine And.intro h.hb ?_ | with_reducible refine StC.xw h rfl rfl (fun w h => ?_) | (with_reducible refine StC.xs h rfl rfl (fun w h => ?_); dsimp only [spl, over] at h) | (with_reducible refine St.xs h rfl rfl (fun w h => ?_); dsimp only [spl, over] at h) | with_reducible refine IfB.ntt ?_ | with_reducible refine IfB.nff ?_ | with_reducible refine IfB.t rfl ?_ | with_reducible refine IfB.f rfl ?_ | with_reducible refine IfB.dt (by omega) ?_ | with_reducible refine IfB.df (by omega) ?_ | with_reducible refine IfB.ndt (by omega) ?_ | with_reducible refine IfB.ndf (by omega) ?_ | with_reducible refine IfB.et (by omega) ?_ | with_reducible refine IfB.ef (by omega) ?_ | with_reducible refine IfB.nt (by omega) ?_ | with_reducible refine IfB.nf (by omega) ?_ | with_reducible refine And.intro (by first | omega | decide) ?_))
        refine k3 _ _ _ _ _ hmic (fun _ hx => by cases hx) (Hp.ownNil (PsB.sh (s := .bad n er) (((h.no 1).no 1).no 2) ⟨⟨hT, hC, hB⟩, rfl, rfl, rfl⟩) 1)
    · refine Nw.mk h fun bn w h => ⟨h.hb, ?_⟩
      refine mstep_c h hn1 hn2 hok hv (fun m' w hq h => ⟨h.hb, ?_⟩) (fun M P s w hq h => ⟨h.hb, ?_⟩) (fun s w hq h => ⟨h.hb, ?_⟩) (fun er o w hq h => ⟨h.hb, ?_⟩)
      · have hmic : mic ended c (.mark n m) u = .go (.mark n m') (u + 8) := by unfold mic; dsimp only; rw [if_pos hle, hq]
        (repeat (first | with_reducible refine Nw.mk h (fun b w h => ?_) | with_reducible refine Drw.mk h (fun w h => ?_) | with_reducible refine Ld.xb h rfl ?_ | with_reducible refine Ld.xt h rfl ?_ | with_reducible refine LdS.xb (fun _ h => h) rfl ?_ | with_reducible refine LdS.xt (fun _ h => h) rfl ?_ | with_reducible refine And.intro h.hb ?_ | with_reducible refine StC.xw h rfl rfl (fun w h => ?_) | (with_reducible refine StC.xs h rfl rfl (fun w h => ?_); dsimp only [spl, over] at h) | (with_reducible refine St.xs h rfl rfl (fun w h => ?_); dsimp only [spl, over] at h) | with_reducible refine IfB.ntt ?_ | with_reducible refine IfB.nff ?_ | with_reducible refine IfB.t rfl ?_ | with_reducible refine IfB.f rfl ?_ | with_reducible refine IfB.dt (by omega) ?_ | with_reducible refine IfB.df (by omega) ?_ | with_reducible refine IfB.ndt (by omega) ?_ | with_reducible refine IfB.ndf (by omega) ?_ | with_reducible refine IfB.et (by omega) ?_ | with_reducible refine IfB.ef (by omega) ?_ | with_reducible refine IfB.nt (by omega) ?_ | with_reducible refine IfB.nf (by omega) ?_ | with_reducible refine And.intro (by first | omega | decide) ?_))
        refine k1 _ _ _ _ hmic (PsB.sh (((h.no 0).no 0).no 2) ⟨⟨hT, hC, hB⟩, rfl, rfl, rfl, rfl, rfl, rfl, rfl, rfl, rfl, hn1, hn2, mstep_ok hok hv hq⟩)
      · have hmic : mic ended c (.mark n m) u = .ev (.blk M P s) (.tab n M t0) (u + 8) := by unfold mic; dsimp only; rw [if_pos hle, hq]
        have hM := mstep_fin hok hq
        (repeat (first | with_reducible refine Nw.mk h (fun b w h => ?_) | with_reducible refine Drw.mk h (fun w h => ?_) | with_reducible refine Ld.xb h rfl ?_ | with_reducible refine Ld.xt h rfl ?_ | with_reducible refine LdS.xb (fun _ h => h) rfl ?_ | with_reducible refine LdS.xt (fun _ h => h) rfl ?_ | with_reducible refine And.intro h.hb ?_ | with_reducible refine StC.xw h rfl rfl (fun w h => ?_) | (with_reducible refine StC.xs h rfl rfl (fun w h => ?_); dsimp only [spl, over] at h) | (with_reducible refine St.xs h rfl rfl (fun w h => ?_); dsimp only [spl, over] at h) | with_reducible refine IfB.ntt ?_ | with_reducible refine IfB.nff ?_ | with_reducible refine IfB.t rfl ?_ | with_reducible refine IfB.f rfl ?_ | with_reducible refine IfB.dt (by omega) ?_ | with_reducible refine IfB.df (by omega) ?_ | with_reducible refine IfB.ndt (by omega) ?_ | with_reducible refine IfB.ndf (by omega) ?_ | with_reducible refine IfB.et (by omega) ?_ | with_reducible refine IfB.ef (by omega) ?_ | with_reducible refine IfB.nt (by omega) ?_ | with_reducible refine IfB.nf (by omega) ?_ | with_reducible refine And.intro (by first | omega | decide) ?_))
        refine part_c (n := 3) h (fun w h => ?_) (by simp)
        refine Bld.tbZ ?_
        (repeat (first | with_reducible refine Nw.mk h (fun b w h => ?_) | with_reducible refine Drw.mk h (fun w h => ?_) | with_reducible refine Ld.xb h rfl ?_ | with_reducible refine Ld.xt h rfl ?_ | with_reducible refine LdS.xb (fun _ h => h) rfl ?_ | with_reducible refine LdS.xt (fun _ h => h) rfl ?_ | with_reducible refine And.intro h.hb ?_ | with_reducible refine StC.xw h rfl rfl (fun w h => ?_) | (with_reducible refine StC.xs h rfl rfl (fun w h => ?_); dsimp only [spl, over] at h) | (with_reducible refine St.xs h rfl rfl (fun w h => ?_); dsimp only [spl, over] at h) | with_reducible refine IfB.ntt ?_ | with_reducible refine IfB.nff ?_ | with_reducible refine IfB.t rfl ?_ | with_reducible refine IfB.f rfl ?_ | with_reducible refine IfB.dt (by omega) ?_ | with_reducible refine IfB.df (by omega) ?_ | with_reducible refine IfB.ndt (by omega) ?_ | with_reducible refine IfB.ndf (by omega) ?_ | with_reducible refine IfB.et (by omega) ?_ | with_reducible refine IfB.ef (by omega) ?_ | with_reducible refine IfB.nt (by omega) ?_ | with_reducible refine IfB.nf (by omega) ?_ | with_reducible refine And.intro (by first | omega | decide) ?_))
        refine pStT h hT (tbA_size List.length_replicate) tbA_scalar fun w h => ?_
        (repeat (first | with_reducible refine Nw.mk h (fun b w h => ?_) | with_reducible refine Drw.mk h (fun w h => ?_) | with_reducible refine Ld.xb h rfl ?_ | with_reducible refine Ld.xt h rfl ?_ | with_reducible refine LdS.xb (fun _ h => h) rfl ?_ | with_reducible refine LdS.xt (fun _ h => h) rfl ?_ | with_reducible refine And.intro h.hb ?_ | with_reducible refine StC.xw h rfl rfl (fun w h => ?_) | (with_reducible refine StC.xs h rfl rfl (fun w h => ?_); dsimp only [spl, over] at h) | (with_reducible refine St.xs h rfl rfl (fun w h => ?_); dsimp only [spl, over] at h) | with_reducible refine IfB.ntt ?_ | with_reducible refine IfB.nff ?_ | with_reducible refine IfB.t rfl ?_ | with_reducible refine IfB.f rfl ?_ | with_reducible refine IfB.dt (by omega) ?_ | with_reducible refine IfB.df (by omega) ?_ | with_reducible refine IfB.ndt (by omega) ?_ | with_reducible refine IfB.ndf (by omega) ?_ | with_reducible refine IfB.et (by omega) ?_ | with_reducible refine IfB.ef (by omega) ?_ | with_reducible refine IfB.nt (by omega) ?_ | with_reducible refine IfB.nf (by omega) ?_ | with_reducible refine And.intro (by first | omega | decide) ?_))
        refine k3 _ _ _ _ _ hmic (fun _ hx => by cases hx) (Hp.ownNil (PsB.sh (s := .tab n M t0) (((h.no 0).no 0).no 2) ⟨⟨by simp, hC, hB⟩, rfl, rfl, rfl, hM.1, hM.2.1, hn2, rfl, TsOk.zero⟩) 1)
      · have hmic : mic ended c (.mark n m) u = .ev (.tail s) (.behind n) (u + 8) := by unfold mic; dsimp only; rw [if_pos hle, hq]
        (repeat (first | with_reducible refine Nw.mk h (fun b w h => ?_) | with_reducible refine Drw.mk h (fun w h => ?_) | with_reducible refine Ld.xb h rfl ?_ | with_reducible refine Ld.xt h rfl ?_ | with_reducible refine LdS.xb (fun _ h => h) rfl ?_ | with_reducible refine LdS.xt (fun _ h => h) rfl ?_ | with_reducible refine And.intro h.hb ?_ | with_reducible refine StC.xw h rfl rfl (fun w h => ?_) | (with_reducible refine StC.xs h rfl rfl (fun w h => ?_); dsimp only [spl, over] at h) | (with_reducible refine St.xs h rfl rfl (fun w h => ?_); dsimp only [spl, over] at h) | with_reducible refine IfB.ntt ?_ | with_reducible refine IfB.nff ?_ | with_reducible refine IfB.t rfl ?_ | with_reducible refine IfB.f rfl ?_ | with_reducible refine IfB.dt (by omega) ?_ | with_reducible refine IfB.df (by omega) ?_ | with_reducible refine IfB.ndt (by omega) ?_ | with_reducible refine IfB.ndf (by omega) ?_ | with_reducible refine IfB.et (by omega) ?_ | with_reducible refine IfB.ef (by omega) ?_ | with_reducible refine IfB.nt (by omega) ?_ | with_reducible refine IfB.nf (by omega) ?_ | with_reducible refine And.intro (by first | omega | decide) ?_))
        refine part_c (n := 6) h (fun w h => ?_) (by simp)
        (repeat (first | with_reducible refine Nw.mk h (fun b w h => ?_) | with_reducible refine Drw.mk h (fun w h => ?_) | with_reducible refine Ld.xb h rfl ?_ | with_reducible refine Ld.xt h rfl ?_ | with_reducible refine LdS.xb (fun _ h => h) rfl ?_ | with_reducible refine LdS.xt (fun _ h => h) rfl ?_ | with_reducible refine And.intro h.hb ?_ | with_reducible refine StC.xw h rfl rfl (fun w h => ?_) | (with_reducible refine StC.xs h rfl rfl (fun w h => ?_); dsimp only [spl, over] at h) | (with_reducible refine St.xs h rfl rfl (fun w h => ?_); dsimp only [spl, over] at h) | with_reducible refine IfB.ntt ?_ | with_reducible refine IfB.nff ?_ | with_reducible refine IfB.t rfl ?_ | with_reducible refine IfB.f rfl ?_ | with_reducible refine IfB.dt (by omega) ?_ | with_reducible refine IfB.df (by omega) ?_ | with_reducible refine IfB.ndt (by omega) ?_ | with_reducible refine IfB.ndf (by omega) ?_ | with_reducible refine IfB.et (by omega) ?_ | with_reducible refine IfB.ef (by omega) ?_ | with_reducible refine IfB.nt (by omega) ?_ | with_reducible refine IfB.nf (by omega) ?_ | with_reducible refine And.intro (by first | omega | decide) ?_))
        refine k3 _ _ _ _ _ hmic (fun _ hx => by cases hx) (Hp.ownNil (PsB.sh (s := .behind n) (((h.no 0).no 0).no 2) ⟨⟨hT, hC, hB⟩, rfl, rfl⟩) 1)
      · have hmic : mic ended c (.mark n m) u = .ev (.bad er) (.bad n er) (u + 8) := by unfold mic; dsimp only; rw [if_pos hle, hq]
        have := mstep_bad hq
        (repeat (first | with_reducible refine Nw.mk h (fun b w h => ?_) | with_reducible refine Drw.mk h (fun w h => ?_) | with_reducible refine Ld.xb h rfl ?_ | with_reducible refine Ld.xt h rfl ?_ | with_reducible refine LdS.xb (fun _ h => h) rfl ?_ | with_reducible refine LdS.xt (fun _ h => h) rfl ?_ | with_reducible refine And.intro h.hb ?_ | with_reducible refine StC.xw h rfl rfl (fun w h => ?_) | (with_reducible refine StC.xs h rfl rfl (fun w h => ?_); dsimp only [spl, over] at h) | (with_reducible refine St.xs h rfl rfl (fun w h => ?_); dsimp only [spl, over] at h) | with_reducible refine IfB.ntt ?_ | with_reducible refine IfB.nff ?_ | with_reducible refine IfB.t rfl ?_ | with_reducible refine IfB.f rfl ?_ | with_reducible refine IfB.dt (by omega) ?_ | with_reducible refine IfB.df (by omega) ?_ | with_reducible refine IfB.ndt (by omega) ?_ | with_reducible refine IfB.ndf (by omega) ?_ | with_reducible refine IfB.et (by omega) ?_ | with_reducible refine IfB.ef (by omega) ?_ | with_reducible refine IfB.nt (by omega) ?_ | with_reducible refine IfB.nf (by omega) ?_ | with_reducible refine And.intro (by first | omega | decide) ?_))
        refine wrong_c hT hC hB (h.at 2) fun w h => ?_
        (repeat (first | with_reducible refine Nw.mk h (fun b w h => ?_) | with_reducible refine Drw.mk h (fun w h => ?_) | with_reducible refine Ld.xb h rfl ?_ | with_reducible refine Ld.xt h rfl ?_ | with_reducible refine LdS.xb (fun _ h => h) rfl ?_ | with_reducible refine LdS.xt (fun _ h => h) rfl ?_ | with_reducible refine And.intro h.hb ?_ | with_reducible refine StC.xw h rfl rfl (fun w h => ?_) | (with_reducible refine StC.xs h rfl rfl (fun w h => ?_); dsimp only [spl, over] at h) | (with_reducible refine St.xs h rfl rfl (fun w h => ?_); dsimp only [spl, over] at h) | with_reducible refine IfB.ntt ?_ | with_reducible refine IfB.nff ?_ | with_reducible refine IfB.t rfl ?_ | with_reducible refine IfB.f rfl ?_ | with_reducible refine IfB.dt (by omega) ?_ | with_reducible refine IfB.df (by omega) ?_ | with_reducible refine IfB.ndt (by omega) ?_ | with_reducible refine IfB.ndf (by omega) ?_ | with_reducible refine IfB.et (by omega) ?_ | with_reducible refine IfB.ef (by omega) ?_ | with_reducible refine IfB.nt (by omega) ?_ | with_reducible refine IfB.nf (by omega) ?_ | with_reducible refine And.intro (by first | omega | decide) ?_))
        refine k3 _ _ _ _ _ hmic (fun _ hx => by cases hx) (Hp.ownNil (PsB.sh (s := .bad n er) (((h.no 1).no 1).no 2) ⟨⟨hT, hC, hB⟩, rfl, rfl, rfl⟩) 1)
  · (repeat (first | with_reducible refine Nw.mk h (fun b w h => ?_) | with_reducible refine Drw.mk h (fun w h => ?_) | with_reducible refine Ld.xb h rfl ?_ | with_reducible refine Ld.xt h rfl ?_ | with_reducible refine LdS.xb (fun _ h => h) rfl ?_ | with_reducible refine LdS.xt (fun _ h => h) rfl ?_ | with_reducible refine And.intro h.hb ?_ | with_reducible refine StC.xw h rfl rfl (fun w h => ?_) | (with_reducible refine StC.xs h rfl rfl (fun w h => ?_); dsimp only [spl, over] at h) | (with_reducible refine St.xs h rfl rfl (fun w h => ?_); dsimp only [spl, over] at h) | with_reducible refine IfB.ntt ?_ | with_reducible refine IfB.nff ?_ | with_reducible refine IfB.t rfl ?_ | with_reducible refine IfB.f rfl ?_ | with_reducible refine IfB.dt (by omega) ?_ | with_reducible refine IfB.df (by omega) ?_ | with_reducible refine IfB.ndt (by omega) ?_ | with_reducible refine IfB.ndf (by omega) ?_ | with_reducible refine IfB.et (by omega) ?_ | with_reducible refine IfB.ef (by omega) ?_ | with_reducible refine IfB.nt (by omega) ?_ | with_reducible refine IfB.nf (by omega) ?_ | with_reducible refine And.intro (by first | omega | decide) ?_))
    have hmic : mic ended c (.mark n m) u = .ev (.bad 50) (.bad n 50) u := by
      unfold mic short; dsimp only; rw [if_neg hle, he]; rfl
    subst he
    refine k3 _ _ _ _ _ hmic (fun _ hx => by cases hx) (Hp.ownNil (PsB.sh (s := .bad n 50) ((h.no 0).no 2) ⟨⟨hT, hC, hB⟩, rfl, rfl, rfl⟩) 1)
  · (repeat (first | with_reducible refine Nw.mk h (fun b w h => ?_) | with_reducible refine Drw.mk h (fun w h => ?_) | with_reducible refine Ld.xb h rfl ?_ | with_reducible refine Ld.xt h rfl ?_ | with_reducible refine LdS.xb (fun _ h => h) rfl ?_ | with_reducible refine LdS.xt (fun _ h => h) rfl ?_ | with_reducible refine And.intro h.hb ?_ | with_reducible refine StC.xw h rfl rfl (fun w h => ?_) | (with_reducible refine StC.xs h rfl rfl (fun w h => ?_); dsimp only [spl, over] at h) | (with_reducible refine St.xs h rfl rfl (fun w h => ?_); dsimp only [spl, over] at h) | with_reducible refine IfB.ntt ?_ | with_reducible refine IfB.nff ?_ | with_reducible refine IfB.t rfl ?_ | with_reducible refine IfB.f rfl ?_ | with_reducible refine IfB.dt (by omega) ?_ | with_reducible refine IfB.df (by omega) ?_ | with_reducible refine IfB.ndt (by omega) ?_ | with_reducible refine IfB.ndf (by omega) ?_ | with_reducible refine IfB.et (by omega) ?_ | with_reducible refine IfB.ef (by omega) ?_ | with_reducible refine IfB.nt (by omega) ?_ | with_reducible refine IfB.nf (by omega) ?_ | with_reducible refine And.intro (by first | omega | decide) ?_))
    have hmic : mic ended c (.mark n m) u = .need := by
      unfold mic short; dsimp only; rw [if_neg hle, he]; rfl
    subst he
    refine k2 _ hmic (PsB.sh ((h.no 0).no 2) ⟨⟨hT, hC, hB⟩, rfl, rfl, rfl, rfl, rfl, rfl, rfl, rfl, rfl, hn1, hn2, hok⟩)
theorem padding_c {n : Nat} {K : EvT → Bool → World → Prop} (h : Hp E w (PsB b (.pad n) :: Rd ⟨pr, 0, none⟩ c u ended :: F)) (hK : TurnR b pr c ended (.pad n) u E F K) :
    Cl Try.prog [kEv, kB] n_parser_Parser_padding ⟨[.pointer (some ⟨b, 0, none⟩), .pointer (some ⟨pr, 0, none⟩)]⟩ w K := by
  obtain ⟨k1, k2, k3⟩ := hK
  obtain ⟨⟨a, h0, h1, h2, h3, m0, m1, m2, m3, m4, m5, m6, T, C, B, e⟩, ⟨⟨hT, hC, hB⟩, hr⟩, h⟩ := PsB.opn h
  dsimp only at hT hC hB hr h
  obtain ⟨rfl, rfl, hn1, hn2⟩ := hr
  refine parser_Parser_padding.ok _ _ _ _ ?_
  unfold parser_Parser_padding.E
  (try simp only [Join_eq, NilCk_some, add_mk, Nat.zero_add, Nat.add_zero, Nat.reduceAdd, Bool.not_true, Bool.not_false, IfB_t, IfB_f, Option.isNone])
  refine Nw.mk h fun b4 w h => ?_
  refine align_c (h.at 2) fun w h => ?_
  rw [show padN u = gap u from rfl] at h ⊢
  by_cases hv : val c u (gap u) = 0
  · have hmic : mic ended c (.pad n) u = .ev .bend (.mark n ms0) (u + gap u) := by unfold mic; dsimp only; rw [if_pos hv]
    (repeat (first | with_reducible refine Nw.mk h (fun b w h => ?_) | with_reducible refine Drw.mk h (fun w h => ?_) | with_reducible refine Ld.xb h rfl ?_ | with_reducible refine Ld.xt h rfl ?_ | with_reducible refine LdS.xb (fun _ h => h) rfl ?_ | with_reducible refine LdS.xt (fun _ h => h) rfl ?_ | with_reducible refine And.intro h.hb ?_ | with_reducible refine StC.xw h rfl rfl (fun w h => ?_) | (with_reducible refine StC.xs h rfl rfl (fun w h => ?_); dsimp only [spl, over] at h) | (with_reducible refine St.xs h rfl rfl (fun w h => ?_); dsimp only [spl, over] at h) | with_reducible refine IfB.ntt ?_ | with_reducible refine IfB.nff ?_ | with_reducible refine IfB.t rfl ?_ | with_reducible refine IfB.f rfl ?_ | with_reducible refine IfB.dt (by omega) ?_ | with_reducible refine IfB.df (by omega) ?_ | with_reducible refine IfB.ndt (by omega) ?_ | with_reducible refine IfB.ndf (by omega) ?_ | with_reducible refine IfB.et (by omega) ?_ | with_reducible refine IfB.ef (by omega) ?_ | with_reducible refine IfB.nt (by omega) ?_ | with_reducible refine IfB.nf (by omega) ?_ | with_reducible refine And.intro (by first | omega | decide) ?_))
    refine part_c (n := 2) h (fun w h => ?_) (by simp)
    (repeat (first | with_reducible refine Nw.mk h (fun b w h => ?_) | with_reducible refine Drw.mk h (fun w h => ?_) | with_reducible refine Ld.xb h rfl ?_ | with_reducible refine Ld.xt h rfl ?_ | with_reducible refine LdS.xb (fun _ h => h) rfl ?_ | with_reducible refine LdS.xt (fun _ h => h) rfl ?_ | with_reducible refine And.intro h.hb ?_ | with_reducible refine StC.xw h rfl rfl (fun w h => ?_) | (with_reducible refine StC.xs h rfl rfl (fun w h => ?_); dsimp only [spl, over] at h) | (with_reducible refine St.xs h rfl rfl (fun w h => ?_); dsimp only [spl, over] at h) | with_reducible refine IfB.ntt ?_ | with_reducible refine IfB.nff ?_ | with_reducible refine IfB.t rfl ?_ | with_reducible refine IfB.f rfl ?_ | with_reducible refine IfB.dt (by omega) ?_ | with_reducible refine IfB.df (by omega) ?_ | with_reducible refine IfB.ndt (by omega) ?_ | with_reducible refine IfB.ndf (by omega) ?_ | with_reducible refine IfB.et (by omega) ?_ | with_reducible refine IfB.ef (by omega) ?_ | with_reducible refine IfB.nt (by omega) ?_ | with_reducible refine IfB.nf (by omega) ?_ | with_reducible refine And.intro (by first | omega | decide) ?_))
    refine k3 _ _ _ _ _ hmic (fun _ hx => by cases hx) (Hp.ownNil (PsB.sh (s := .mark n ms0) ((h.no 1).at 1) ⟨⟨hT, hC, hB⟩, rfl, rfl, rfl, rfl, rfl, rfl, rfl, rfl, rfl, hn1, hn2, .inl ⟨rfl, rfl⟩⟩) 1)
  · have hmic : mic ended c (.pad n) u = .ev (.bad 160) (.bad n 160) (u + gap u) := by unfold mic; dsimp only; rw [if_neg hv]
    (repeat (first | with_reducible refine Nw.mk h (fun b w h => ?_) | with_reducible refine Drw.mk h (fun w h => ?_) | with_reducible refine Ld.xb h rfl ?_ | with_reducible refine Ld.xt h rfl ?_ | with_reducible refine LdS.xb (fun _ h => h) rfl ?_ | with_reducible refine LdS.xt (fun _ h => h) rfl ?_ | with_reducible refine And.intro h.hb ?_ | with_reducible refine StC.xw h rfl rfl (fun w h => ?_) | (with_reducible refine StC.xs h rfl rfl (fun w h => ?_); dsimp only [spl, over] at h) | (with_reducible refine St.xs h rfl rfl (fun w h => ?_); dsimp only [spl, over] at h) | with_reducible refine IfB.ntt ?_ | with_reducible refine IfB.nff ?_ | with_reducible refine IfB.t rfl ?_ | with_reducible refine IfB.f rfl ?_ | with_reducible refine IfB.dt (by omega) ?_ | with_reducible refine IfB.df (by omega) ?_ | with_reducible refine IfB.ndt (by omega) ?_ | with_reducible refine IfB.ndf (by omega) ?_ | with_reducible refine IfB.et (by omega) ?_ | with_reducible refine IfB.ef (by omega) ?_ | with_reducible refine IfB.nt (by omega) ?_ | with_reducible refine IfB.nf (by omega) ?_ | with_reducible refine And.intro (by first | omega | decide) ?_))
    refine wrong_c hT hC hB (h.at 2) fun w h => ?_
    (repeat (first | with_reducible refine Nw.mk h (fun b w h => ?_) | with_reducible refine Drw.mk h (fun w h => ?_) | with_reducible refine Ld.xb h rfl ?_ | with_reducible refine Ld.xt h rfl ?_ | with_reducible refine LdS.xb (fun _ h => h) rfl ?_ | with_reducible refine LdS.xt (fun _ h => h) rfl ?_ | with_reducible refine And.intro h.hb ?_ | with_reducible refine StC.xw h rfl rfl (fun w h => ?_) | (with_reducible refine StC.xs h rfl rfl (fun w h => ?_); dsimp only [spl, over] at h) | (with_reducible refine St.xs h rfl rfl (fun w h => ?_); dsimp only [spl, over] at h) | with_reducible refine IfB.ntt ?_ | with_reducible refine IfB.nff ?_ | with_reducible refine IfB.t rfl ?_ | with_reducible refine IfB.f rfl ?_ | with_reducible refine IfB.dt (by omega) ?_ | with_reducible refine IfB.df (by omega) ?_ | with_reducible refine IfB.ndt (by omega) ?_ | with_reducible refine IfB.ndf (by omega) ?_ | with_reducible refine IfB.et (by omega) ?_ | with_reducible refine IfB.ef (by omega) ?_ | with_reducible refine IfB.nt (by omega) ?_ | with_reducible refine IfB.nf (by omega) ?_ | with_reducible refine And.intro (by first | omega | decide) ?_))
    refine k3 _ _ _ _ _ hmic (fun _ hx => by cases hx) (Hp.ownNil (PsB.sh (s := .bad n 160) (h.no 2) ⟨⟨hT, hC, hB⟩, rfl, rfl, rfl⟩) 1)
theorem rests_c {n : Nat} {K : EvT → Bool → World → Prop} (h : Hp E w (PsB b (.behind n) :: Rd ⟨pr, 0, none⟩ c u ended :: F)) (hK : TurnR b pr c ended (.behind n) u E F K) :
    Cl Try.prog [kEv, kB] n_parser_Parser_rests ⟨[.pointer (some ⟨b, 0, none⟩), .pointer (some ⟨pr, 0, none⟩)]⟩ w K := by
  obtain ⟨k1, k2, k3⟩ := hK
  obtain ⟨⟨a, h0, h1, h2, h3, m0, m1, m2, m3, m4, m5, m6, T, C, B, e⟩, ⟨⟨hT, hC, hB⟩, hr⟩, h⟩ := PsB.opn h
  dsimp only at hT hC hB hr h
  obtain ⟨rfl, rfl⟩ := hr
  refine parser_Parser_rests.ok _ _ _ _ ?_
  unfold parser_Parser_rests.E
  (try simp only [Join_eq, NilCk_some, add_mk, Nat.zero_add, Nat.add_zero, Nat.reduceAdd, Bool.not_true, Bool.not_false, IfB_t, IfB_f, Option.isNone])
  refine Nw.mk h fun b4 w h => ?_
  refine left_c (h.at 2) fun w h _ => ?_
  by_cases hv : u < 8 * c.length
  · have hmic : mic ended c (.behind n) u = .ev (.bad 261) (.bad n 261) u := by unfold mic; dsimp only; rw [if_pos hv]
    (repeat (first | with_reducible refine Nw.mk h (fun b w h => ?_) | with_reducible refine Drw.mk h (fun w h => ?_) | with_reducible refine Ld.xb h rfl ?_ | with_reducible refine Ld.xt h rfl ?_ | with_reducible refine LdS.xb (fun _ h => h) rfl ?_ | with_reducible refine LdS.xt (fun _ h => h) rfl ?_ | with_reducible refine And.intro h.hb ?_ | with_reducible refine StC.xw h rfl rfl (fun w h => ?_) | (with_reducible refine StC.xs h rfl rfl (fun w h => ?_); dsimp only [spl, over] at h) | (with_reducible refine St.xs h rfl rfl (fun w h => ?_); dsimp only [spl, over] at h) | with_reducible refine IfB.ntt ?_ | with_reducible refine IfB.nff ?_ | with_reducible refine IfB.t rfl ?_ | with_reducible refine IfB.f rfl ?_ | with_reducible refine IfB.dt (by omega) ?_ | with_reducible refine IfB.df (by omega) ?_ | with_reducible refine IfB.ndt (by omega) ?_ | with_reducible refine IfB.ndf (by omega) ?_ | with_reducible refine IfB.et (by omega) ?_ | with_reducible refine IfB.ef (by omega) ?_ | with_reducible refine IfB.nt (by omega) ?_ | with_reducible refine IfB.nf (by omega) ?_ | with_reducible refine And.intro (by first | omega | decide) ?_))
    refine wrong_c hT hC hB (h.at 2) fun w h => ?_
    (repeat (first | with_reducible refine Nw.mk h (fun b w h => ?_) | with_reducible refine Drw.mk h (fun w h => ?_) | with_reducible refine Ld.xb h rfl ?_ | with_reducible refine Ld.xt h rfl ?_ | with_reducible refine LdS.xb (fun _ h => h) rfl ?_ | with_reducible refine LdS.xt (fun _ h => h) rfl ?_ | with_reducible refine And.intro h.hb ?_ | with_reducible refine StC.xw h rfl rfl (fun w h => ?_) | (with_reducible refine StC.xs h rfl rfl (fun w h => ?_); dsimp only [spl, over] at h) | (with_reducible refine St.xs h rfl rfl (fun w h => ?_); dsimp only [spl, over] at h) | with_reducible refine IfB.ntt ?_ | with_reducible refine IfB.nff ?_ | with_reducible refine IfB.t rfl ?_ | with_reducible refine IfB.f rfl ?_ | with_reducible refine IfB.dt (by omega) ?_ | with_reducible refine IfB.df (by omega) ?_ | with_reducible refine IfB.ndt (by omega) ?_ | with_reducible refine IfB.ndf (by omega) ?_ | with_reducible refine IfB.et (by omega) ?_ | with_reducible refine IfB.ef (by omega) ?_ | with_reducible refine IfB.nt (by omega) ?_ | with_reducible refine IfB.nf (by omega) ?_ | with_reducible refine And.intro (by first | omega | decide) ?_))
    refine k3 _ _ _ _ _ hmic (fun _ hx => by cases hx) (Hp.ownNil (PsB.sh (s := .bad n 261) (h.no 2) ⟨⟨hT, hC, hB⟩, rfl, rfl, rfl⟩) 1)
  · (repeat (first | with_reducible refine Nw.mk h (fun b w h => ?_) | with_reducible refine Drw.mk h (fun w h => ?_) | with_reducible refine Ld.xb h rfl ?_ | with_reducible refine Ld.xt h rfl ?_ | with_reducible refine LdS.xb (fun _ h => h) rfl ?_ | with_reducible refine LdS.xt (fun _ h => h) rfl ?_ | with_reducible refine And.intro h.hb ?_ | with_reducible refine StC.xw h rfl rfl (fun w h => ?_) | (with_reducible refine StC.xs h rfl rfl (fun w h => ?_); dsimp only [spl, over] at h) | (with_reducible refine St.xs h rfl rfl (fun w h => ?_); dsimp only [spl, over] at h) | with_reducible refine IfB.ntt ?_ | with_reducible refine IfB.nff ?_ | with_reducible refine IfB.t rfl ?_ | with_reducible refine IfB.f rfl ?_ | with_reducible refine IfB.dt (by omega) ?_ | with_reducible refine IfB.df (by omega) ?_ | with_reducible refine IfB.ndt (by omega) ?_ | with_reducible refine IfB.ndf (by omega) ?_ | with_reducible refine IfB.et (by omega) ?_ | with_reducible refine IfB.ef (by omega) ?_ | with_reducible refine IfB.nt (by omega) ?_ | with_reducible refine IfB.nf (by omega) ?_ | with_reducible refine And.intro (by first | omega | decide) ?_))
    refine ended_c h ?_
    cases ended
    · have hmic : mic false c (.behind n) u = .need := by unfold mic; dsimp only; rw [if_neg hv]; rfl
      (repeat (first | with_reducible refine Nw.mk h (fun b w h => ?_) | with_reducible refine Drw.mk h (fun w h => ?_) | with_reducible refine Ld.xb h rfl ?_ | with_reducible refine Ld.xt h rfl ?_ | with_reducible refine LdS.xb (fun _ h => h) rfl ?_ | with_reducible refine LdS.xt (fun _ h => h) rfl ?_ | with_reducible refine And.intro h.hb ?_ | with_reducible refine StC.xw h rfl rfl (fun w h => ?_) | (with_reducible refine StC.xs h rfl rfl (fun w h => ?_); dsimp only [spl, over] at h) | (with_reducible refine St.xs h rfl rfl (fun w h => ?_); dsimp only [spl, over] at h) | with_reducible refine IfB.ntt ?_ | with_reducible refine IfB.nff ?_ | with_reducible refine IfB.t rfl ?_ | with_reducible refine IfB.f rfl ?_ | with_reducible refine IfB.dt (by omega) ?_ | with_reducible refine IfB.df (by omega) ?_ | with_reducible refine IfB.ndt (by omega) ?_ | with_reducible refine IfB.ndf (by omega) ?_ | with_reducible refine IfB.et (by omega) ?_ | with_reducible refine IfB.ef (by omega) ?_ | with_reducible refine IfB.nt (by omega) ?_ | with_reducible refine IfB.nf (by omega) ?_ | with_reducible refine And.intro (by first | omega | decide) ?_))
      refine k2 _ hmic (PsB.sh ((h.no 1).at 1) ⟨⟨hT, hC, hB⟩, rfl, rfl⟩)
    · have hmic : mic true c (.behind n) u = .ev .fin (.over n) u := by unfold mic; dsimp only; rw [if_neg hv]; rfl
      (repeat (first | with_reducible refine Nw.mk h (fun b w h => ?_) | with_reducible refine Drw.mk h (fun w h => ?_) | with_reducible refine Ld.xb h rfl ?_ | with_reducible refine Ld.xt h rfl ?_ | with_reducible refine LdS.xb (fun _ h => h) rfl ?_ | with_reducible refine LdS.xt (fun _ h => h) rfl ?_ | with_reducible refine And.intro h.hb ?_ | with_reducible refine StC.xw h rfl rfl (fun w h => ?_) | (with_reducible refine StC.xs h rfl rfl (fun w h => ?_); dsimp only [spl, over] at h) | (with_reducible refine St.xs h rfl rfl (fun w h => ?_); dsimp only [spl, over] at h) | with_reducible refine IfB.ntt ?_ | with_reducible refine IfB.nff ?_ | with_reducible refine IfB.t rfl ?_ | with_reducible refine IfB.f rfl ?_ | with_reducible refine IfB.dt (by omega) ?_ | with_reducible refine IfB.df (by omega) ?_ | with_reducible refine IfB.ndt (by omega) ?_ | with_reducible refine IfB.ndf (by omega) ?_ | with_reducible refine IfB.et (by omega) ?_ | with_reducible refine IfB.ef (by omega) ?_ | with_reducible refine IfB.nt (by omega) ?_ | with_reducible refine IfB.nf (by omega) ?_ | with_reducible refine And.intro (by first | omega | decide) ?_))
      refine part_c (n := 7) h (fun w h => ?_) (by simp)
      (repeat (first | with_reducible refine Nw.mk h (fun b w h => ?_) | with_reducible refine Drw.mk h (fun w h => ?_) | with_reducible refine Ld.xb h rfl ?_ | with_reducible refine Ld.xt h rfl ?_ | with_reducible refine LdS.xb (fun _ h => h) rfl ?_ | with_reducible refine LdS.xt (fun _ h => h) rfl ?_ | with_reducible refine And.intro h.hb ?_ | with_reducible refine StC.xw h rfl rfl (fun w h => ?_) | (with_reducible refine StC.xs h rfl rfl (fun w h => ?_); dsimp only [spl, over] at h) | (with_reducible refine St.xs h rfl rfl (fun w h => ?_); dsimp only [spl, over] at h) | with_reducible refine IfB.ntt ?_ | with_reducible refine IfB.nff ?_ | with_reducible refine IfB.t rfl ?_ | with_reducible refine IfB.f rfl ?_ | with_reducible refine IfB.dt (by omega) ?_ | with_reducible refine IfB.df (by omega) ?_ | with_reducible refine IfB.ndt (by omega) ?_ | with_reducible refine IfB.ndf (by omega) ?_ | with_reducible refine IfB.et (by omega) ?_ | with_reducible refine IfB.ef (by omega) ?_ | with_reducible refine IfB.nt (by omega) ?_ | with_reducible refine IfB.nf (by omega) ?_ | with_reducible refine And.intro (by first | omega | decide) ?_))
      refine k3 _ _ _ _ _ hmic (fun _ hx => by cases hx) (Hp.ownNil (PsB.sh (s := .over n) ((h.no 1).at 1) ⟨⟨hT, hC, hB⟩, rfl, rfl⟩) 1)
/-- a parser that is over or failed asks nothing of its reader -/
theorem ends_c {n : Nat} {r : Option Addr} {K : EvT → Bool → World → Prop} (h : Hp E w (PsB b (.over n) :: F)) (hK : ∀ w', Hp E w' (PsB b (.over n) :: F) → K (evTT (some .fin) ⟨none, 0, 0⟩) true w') :
    Cl Try.prog [kEv, kB] n_parser_Parser_ends ⟨[.pointer (some ⟨b, 0, none⟩), .pointer r]⟩ w K := by
  refine parser_Parser_ends.ok _ _ _ _ ?_
  unfold parser_Parser_ends.E
  (repeat (first | with_reducible refine Nw.mk h (fun b w h => ?_) | with_reducible refine Drw.mk h (fun w h => ?_) | with_reducible refine Ld.xb h rfl ?_ | with_reducible refine Ld.xt h rfl ?_ | with_reducible refine LdS.xb (fun _ h => h) rfl ?_ | with_reducible refine LdS.xt (fun _ h => h) rfl ?_ | with_reducible refine And.intro h.hb ?_ | with_reducible refine StC.xw h rfl rfl (fun w h => ?_) | (with_reducible refine StC.xs h rfl rfl (fun w h => ?_); dsimp only [spl, over] at h) | (with_reducible refine St.xs h rfl rfl (fun w h => ?_); dsimp only [spl, over] at h) | with_reducible refine IfB.ntt ?_ | with_reducible refine IfB.nff ?_ | with_reducible refine IfB.t rfl ?_ | with_reducible refine IfB.f rfl ?_ | with_reducible refine IfB.dt (by omega) ?_ | with_reducible refine IfB.df (by omega) ?_ | with_reducible refine IfB.ndt (by omega) ?_ | with_reducible refine IfB.ndf (by omega) ?_ | with_reducible refine IfB.et (by omega) ?_ | with_reducible refine IfB.ef (by omega) ?_ | with_reducible refine IfB.nt (by omega) ?_ | with_reducible refine IfB.nf (by omega) ?_ | with_reducible refine And.intro (by first | omega | decide) ?_))
  exact hK _ h.tl
theorem fails_c {n er : Nat} {r : Option Addr} {K : EvT → Bool → World → Prop} (h : Hp E w (PsB b (.bad n er) :: F)) (hK : ∀ w', Hp E w' (PsB b (.bad n er) :: F) → K (evTT (some (.bad er)) ⟨none, 0, 0⟩) true w') :
    Cl Try.prog [kEv, kB] n_parser_Parser_fails ⟨[.pointer (some ⟨b, 0, none⟩), .pointer r]⟩ w K := by
  obtain ⟨⟨a, h0, h1, h2, h3, m0, m1, m2, m3, m4, m5, m6, T, C, B, e⟩, ⟨⟨hT, hC, hB⟩, hr⟩, h⟩ := PsB.opn h
  dsimp only at hT hC hB hr h
  obtain ⟨rfl, rfl, rfl⟩ := hr
  refine parser_Parser_fails.ok _ _ _ _ ?_
  unfold parser_Parser_fails.E
  (try simp only [Join_eq, NilCk_some, add_mk, Nat.zero_add, Nat.add_zero, Nat.reduceAdd, Bool.not_true, Bool.not_false, IfB_t, IfB_f, Option.isNone])
  (repeat (first | with_reducible refine Nw.mk h (fun b w h => ?_) | with_reducible refine Drw.mk h (fun w h => ?_) | with_reducible refine Ld.xb h rfl ?_ | with_reducible refine Ld.xt h rfl ?_ | with_reducible refine LdS.xb (fun _ h => h) rfl ?_ | with_reducible refine LdS.xt (fun _ h => h) rfl ?_ | with_reducible refine And.intro h.hb ?_ | with_reducible refine StC.xw h rfl rfl (fun w h => ?_) | (with_reducible refine StC.xs h rfl rfl (fun w h => ?_); dsimp only [spl, over] at h) | (with_reducible refine St.xs h rfl rfl (fun w h => ?_); dsimp only [spl, over] at h) | with_reducible refine IfB.ntt ?_ | with_reducible refine IfB.nff ?_ | with_reducible refine IfB.t rfl ?_ | with_reducible refine IfB.f rfl ?_ | with_reducible refine IfB.dt (by omega) ?_ | with_reducible refine IfB.df (by omega) ?_ | with_reducible refine IfB.ndt (by omega) ?_ | with_reducible refine IfB.ndf (by omega) ?_ | with_reducible refine IfB.et (by omega) ?_ | with_reducible refine IfB.ef (by omega) ?_ | with_reducible refine IfB.nt (by omega) ?_ | with_reducible refine IfB.nf (by omega) ?_ | with_reducible refine And.intro (by first | omega | decide) ?_))
  refine pLdE h hT hC hB ?_
  (repeat (first | with_reducible refine Nw.mk h (fun b w h => ?_) | with_reducible refine Drw.mk h (fun w h => ?_) | with_reducible refine Ld.xb h rfl ?_ | with_reducible refine Ld.xt h rfl ?_ | with_reducible refine LdS.xb (fun _ h => h) rfl ?_ | with_reducible refine LdS.xt (fun _ h => h) rfl ?_ | with_reducible refine And.intro h.hb ?_ | with_reducible refine StC.xw h rfl rfl (fun w h => ?_) | (with_reducible refine StC.xs h rfl rfl (fun w h => ?_); dsimp only [spl, over] at h) | (with_reducible refine St.xs h rfl rfl (fun w h => ?_); dsimp only [spl, over] at h) | with_reducible refine IfB.ntt ?_ | with_reducible refine IfB.nff ?_ | with_reducible refine IfB.t rfl ?_ | with_reducible refine IfB.f rfl ?_ | with_reducible refine IfB.dt (by omega) ?_ | with_reducible refine IfB.df (by omega) ?_ | with_reducible refine IfB.ndt (by omega) ?_ | with_reducible refine IfB.ndf (by omega) ?_ | with_reducible refine IfB.et (by omega) ?_ | with_reducible refine IfB.ef (by omega) ?_ | with_reducible refine IfB.nt (by omega) ?_ | with_reducible refine IfB.nf (by omega) ?_ | with_reducible refine And.intro (by first | omega | decide) ?_))
  exact hK _ (PsB.sh (s := .bad n er) (h.no 0) ⟨⟨hT, hC, hB⟩, rfl, rfl, rfl⟩)
end
end Go.Proofs.Ytjnjjibmlalpiaa
/- ParD -/
namespace Go.Proofs.Ytjnjjibmlalpiaa
open Go Go.Vc Go.Bits Go.Srt Go.Inc Go.Sym Go.Tab Go.Hd Go.Prs
section
variable {E w : World} {F : List HP} {b pr : Nat} {c : List Nat} {u : Nat} {ended : Bool}
theorem bit_le {c : List Nat} {u : Nat} : bitAt c u ≤ 1 := by have := bitAt_lt c u; omega
set_option maxRecDepth 20000
theorem tstep_bad {t : TS} {x e : Nat} (h : tstep okT t x = .bad e) : e = 100 := by
  unfold tstep at h
  split at h
  · cases h
  · split at h
    · split at h
      · split at h
        · cases h
        · split at h <;> cases h
          rfl
      · cases h
    · split at h
      · split at h <;> cases h
        rfl
      · split at h <;> cases h
        rfl
theorem tsl {t : TS} (h : TsOk t) : t.l.length < 258 := by
  rcases h with ⟨_, h, _⟩ | ⟨_, h, _⟩
  · rw [h]; simp
  · omega
theorem tables_c {n M : Nat} {t : TS} {K : EvT → Bool → World → Prop} (h : Hp E w (PsB b (.tab n M t) :: Rd ⟨pr, 0, none⟩ c u ended :: F)) (hK : TurnR b pr c ended (.tab n M t) u E F K) :
    Cl Try.prog [kEv, kB] n_parser_Parser_tables ⟨[.pointer (some ⟨b, 0, none⟩), .pointer (some ⟨pr, 0, none⟩)]⟩ w K := by
  obtain ⟨k1, k2, k3⟩ := hK
  obtain ⟨⟨a, h0, h1, h2, h3, m0, m1, m2, m3, m4, m5, m6, T, C, B, e⟩, ⟨⟨hT, hC, hB⟩, hr⟩, h⟩ := PsB.opn h
  dsimp only at hT hC hB hr h
  obtain ⟨rfl, rfl, rfl, hM1, hM2, hn2, hTe, hok⟩ := hr
  refine parser_Parser_tables.ok _ _ _ _ ?_
  unfold parser_Parser_tables.E
  (try simp only [Join_eq, NilCk_some, add_mk, Nat.zero_add, Nat.add_zero, Nat.reduceAdd, Bool.not_true, Bool.not_false, IfB_t, IfB_f, Option.isNone])
  refine Nw.mk h fun b4 w h => ?_
  refine ptake_c (width := 1) hT hC hB (by decide) (h.at 1 |>.at 2 |>.at 1) (fun hle w h => ?_) (fun hle he w h => ?_) (fun hle he w h => ?_)
  · have hbit := bit_le (c := c) (u := u)
    rw [val1_bit]
    refine Nw.mk h fun b10 w h => ?_
    (repeat (first | with_reducible refine Nw.mk h (fun b w h => ?_) | with_reducible refine Drw.mk h (fun w h => ?_) | with_reducible refine Ld.xb h rfl ?_ | with_reducible refine Ld.xt h rfl ?_ | with_reducible refine LdS.xb (fun _ h => h) rfl ?_ | with_reducible refine LdS.xt (fun _ h => h) rfl ?_ | with_reducible refine And.intro h.hb ?_ | with_reducible refine StC.xw h rfl rfl (fun w h => ?_) | (with_reducible refine StC.xs h rfl rfl (fun w h => ?_); dsimp only [spl, over] at h) | (with_reducible refine St.xs h rfl rfl (fun w h => ?_); dsimp only [spl, over] at h) | with_reducible refine IfB.ntt ?_ | with_reducible refine IfB.nff ?_ | with_reducible refine IfB.t rfl ?_ | with_reducible refine IfB.f rfl ?_ | with_reducible refine IfB.dt (by omega) ?_ | with_reducible refine IfB.df (by omega) ?_ | with_reducible refine IfB.ndt (by omega) ?_ | with_reducible refine IfB.ndf (by omega) ?_ | with_reducible refine IfB.et (by omega) ?_ | with_reducible refine IfB.ef (by omega) ?_ | with_reducible refine IfB.nt (by omega) ?_ | with_reducible refine IfB.nf (by omega) ?_ | with_reducible refine And.intro (by first | omega | decide) ?_))
    refine pLdT h hT ?_
    rw [i64_id (by omega), hTe]
    refine tstep_c h hok hbit (fun t' w hq h => ?_) (fun l nn w hq h => ?_) (fun o w hq ho hos h => ?_)
    · have hmic : mic ended c (.tab n M t) u = .go (.tab n M t') (u + 1) := by unfold mic; dsimp only; rw [if_pos hle, hq]
      have hok' := tstep_ok hok hbit hq
      have hs := tbA_size (s := (t'.l.length : Int)) (b := (t'.bits : Int)) (n := (t'.now : Int)) (wy := (t'.way : Int)) (pad_len (Nat.le_of_lt (tsl hok')))
      refine Nw.mk h fun b22 w h => ?_
      refine StA.q h (by simp) hs tbA_scalar fun w h => ?_
      (repeat (first | with_reducible refine Nw.mk h (fun b w h => ?_) | with_reducible refine Drw.mk h (fun w h => ?_) | with_reducible refine Ld.xb h rfl ?_ | with_reducible refine Ld.xt h rfl ?_ | with_reducible refine LdS.xb (fun _ h => h) rfl ?_ | with_reducible refine LdS.xt (fun _ h => h) rfl ?_ | with_reducible refine And.intro h.hb ?_ | with_reducible refine StC.xw h rfl rfl (fun w h => ?_) | (with_reducible refine StC.xs h rfl rfl (fun w h => ?_); dsimp only [spl, over] at h) | (with_reducible refine St.xs h rfl rfl (fun w h => ?_); dsimp only [spl, over] at h) | with_reducible refine IfB.ntt ?_ | with_reducible refine IfB.nff ?_ | with_reducible refine IfB.t rfl ?_ | with_reducible refine IfB.f rfl ?_ | with_reducible refine IfB.dt (by omega) ?_ | with_reducible refine IfB.df (by omega) ?_ | with_reducible refine IfB.ndt (by omega) ?_ | with_reducible refine IfB.ndf (by omega) ?_ | with_reducible refine IfB.et (by omega) ?_ | with_reducible refine IfB.ef (by omega) ?_ | with_reducible refine IfB.nt (by omega) ?_ | with_reducible refine IfB.nf (by omega) ?_ | with_reducible refine And.intro (by first | omega | decide) ?_))
      refine Ld.xw h hs ?_
      refine pStT h hT hs tbA_scalar fun w h => ?_
      (repeat (first | with_reducible refine Nw.mk h (fun b w h => ?_) | with_reducible refine Drw.mk h (fun w h => ?_) | with_reducible refine Ld.xb h rfl ?_ | with_reducible refine Ld.xt h rfl ?_ | with_reducible refine LdS.xb (fun _ h => h) rfl ?_ | with_reducible refine LdS.xt (fun _ h => h) rfl ?_ | with_reducible refine And.intro h.hb ?_ | with_reducible refine StC.xw h rfl rfl (fun w h => ?_) | (with_reducible refine StC.xs h rfl rfl (fun w h => ?_); dsimp only [spl, over] at h) | (with_reducible refine St.xs h rfl rfl (fun w h => ?_); dsimp only [spl, over] at h) | with_reducible refine IfB.ntt ?_ | with_reducible refine IfB.nff ?_ | with_reducible refine IfB.t rfl ?_ | with_reducible refine IfB.f rfl ?_ | with_reducible refine IfB.dt (by omega) ?_ | with_reducible refine IfB.df (by omega) ?_ | with_reducible refine IfB.ndt (by omega) ?_ | with_reducible refine IfB.ndf (by omega) ?_ | with_reducible refine IfB.et (by omega) ?_ | with_reducible refine IfB.ef (by omega) ?_ | with_reducible refine IfB.nt (by omega) ?_ | with_reducible refine IfB.nf (by omega) ?_ | with_reducible refine And.intro (by first | omega | decide) ?_))
      refine k1 _ _ _ _ hmic (PsB.sh (((h.no 0).no 0).no 2) ⟨⟨?_, hC, hB⟩, rfl, rfl, rfl, hM1, hM2, hn2, rfl, hok'⟩)
      simp [pad_len (Nat.le_of_lt (tsl hok'))]
    · have hmic : mic ended c (.tab n M t) u = .go (.sym n l 0 0 ⟨List.range 256, M, 0, 0⟩) (u + 1) := by unfold mic; dsimp only; rw [if_pos hle, hq]
      obtain ⟨hl, hlok⟩ := tstep_fin hok hq
      have hs := tbA_size (s := 258) (b := 4) (n := nn) (wy := 0) hl
      refine Nw.mk h fun b22 w h => ?_
      refine StA.q h (by simp) hs tbA_scalar fun w h => ?_
      (repeat (first | with_reducible refine Nw.mk h (fun b w h => ?_) | with_reducible refine Drw.mk h (fun w h => ?_) | with_reducible refine Ld.xb h rfl ?_ | with_reducible refine Ld.xt h rfl ?_ | with_reducible refine LdS.xb (fun _ h => h) rfl ?_ | with_reducible refine LdS.xt (fun _ h => h) rfl ?_ | with_reducible refine And.intro h.hb ?_ | with_reducible refine StC.xw h rfl rfl (fun w h => ?_) | (with_reducible refine StC.xs h rfl rfl (fun w h => ?_); dsimp only [spl, over] at h) | (with_reducible refine St.xs h rfl rfl (fun w h => ?_); dsimp only [spl, over] at h) | with_reducible refine IfB.ntt ?_ | with_reducible refine IfB.nff ?_ | with_reducible refine IfB.t rfl ?_ | with_reducible refine IfB.f rfl ?_ | with_reducible refine IfB.dt (by omega) ?_ | with_reducible refine IfB.df (by omega) ?_ | with_reducible refine IfB.ndt (by omega) ?_ | with_reducible refine IfB.ndf (by omega) ?_ | with_reducible refine IfB.et (by omega) ?_ | with_reducible refine IfB.ef (by omega) ?_ | with_reducible refine IfB.nt (by omega) ?_ | with_reducible refine IfB.nf (by omega) ?_ | with_reducible refine And.intro (by first | omega | decide) ?_))
      refine Ld.xw h hs ?_
      refine pStT h hT hs tbA_scalar fun w h => ?_
      (repeat (first | with_reducible refine Nw.mk h (fun b w h => ?_) | with_reducible refine Drw.mk h (fun w h => ?_) | with_reducible refine Ld.xb h rfl ?_ | with_reducible refine Ld.xt h rfl ?_ | with_reducible refine LdS.xb (fun _ h => h) rfl ?_ | with_reducible refine LdS.xt (fun _ h => h) rfl ?_ | with_reducible refine And.intro h.hb ?_ | with_reducible refine StC.xw h rfl rfl (fun w h => ?_) | (with_reducible refine StC.xs h rfl rfl (fun w h => ?_); dsimp only [spl, over] at h) | (with_reducible refine St.xs h rfl rfl (fun w h => ?_); dsimp only [spl, over] at h) | with_reducible refine IfB.ntt ?_ | with_reducible refine IfB.nff ?_ | with_reducible refine IfB.t rfl ?_ | with_reducible refine IfB.f rfl ?_ | with_reducible refine IfB.dt (by omega) ?_ | with_reducible refine IfB.df (by omega) ?_ | with_reducible refine IfB.ndt (by omega) ?_ | with_reducible refine IfB.ndf (by omega) ?_ | with_reducible refine IfB.et (by omega) ?_ | with_reducible refine IfB.ef (by omega) ?_ | with_reducible refine IfB.nt (by omega) ?_ | with_reducible refine IfB.nf (by omega) ?_ | with_reducible refine And.intro (by first | omega | decide) ?_))
      refine Ld.p h (tbV_len hl) ?_
      refine new_c h hl (fun hno => by rw [hlok] at hno; cases hno) (fun _ w h => ?_)
      have hT' : (tbA l 258 4 nn 0).toList.length = 262 := by simp [hl]
      refine pStC h hT' hC (stA_size hl) (List.all_eq_true.2 stA_scalar) fun w h => ?_
      (repeat (first | with_reducible refine Nw.mk h (fun b w h => ?_) | with_reducible refine Drw.mk h (fun w h => ?_) | with_reducible refine Ld.xb h rfl ?_ | with_reducible refine Ld.xt h rfl ?_ | with_reducible refine LdS.xb (fun _ h => h) rfl ?_ | with_reducible refine LdS.xt (fun _ h => h) rfl ?_ | with_reducible refine And.intro h.hb ?_ | with_reducible refine StC.xw h rfl rfl (fun w h => ?_) | (with_reducible refine StC.xs h rfl rfl (fun w h => ?_); dsimp only [spl, over] at h) | (with_reducible refine St.xs h rfl rfl (fun w h => ?_); dsimp only [spl, over] at h) | with_reducible refine IfB.ntt ?_ | with_reducible refine IfB.nff ?_ | with_reducible refine IfB.t rfl ?_ | with_reducible refine IfB.f rfl ?_ | with_reducible refine IfB.dt (by omega) ?_ | with_reducible refine IfB.df (by omega) ?_ | with_reducible refine IfB.ndt (by omega) ?_ | with_reducible refine IfB.ndf (by omega) ?_ | with_reducible refine IfB.et (by omega) ?_ | with_reducible refine IfB.ef (by omega) ?_ | with_reducible refine IfB.nt (by omega) ?_ | with_reducible refine IfB.nf (by omega) ?_ | with_reducible refine And.intro (by first | omega | decide) ?_))
      refine sdnew_c h hM1 (by omega) fun w h => ?_
      refine pStB h hT' (by have := stA_size (c := 0) (b := 0) hl; simpa using this) hB (dsA_size (by simp)) dsA_scalar fun w h => ?_
      refine part_c (n := 4) h (fun w h => ?_) (by simp)
      (repeat (first | with_reducible refine Nw.mk h (fun b w h => ?_) | with_reducible refine Drw.mk h (fun w h => ?_) | with_reducible refine Ld.xb h rfl ?_ | with_reducible refine Ld.xt h rfl ?_ | with_reducible refine LdS.xb (fun _ h => h) rfl ?_ | with_reducible refine LdS.xt (fun _ h => h) rfl ?_ | with_reducible refine And.intro h.hb ?_ | with_reducible refine StC.xw h rfl rfl (fun w h => ?_) | (with_reducible refine StC.xs h rfl rfl (fun w h => ?_); dsimp only [spl, over] at h) | (with_reducible refine St.xs h rfl rfl (fun w h => ?_); dsimp only [spl, over] at h) | with_reducible refine IfB.ntt ?_ | with_reducible refine IfB.nff ?_ | with_reducible refine IfB.t rfl ?_ | with_reducible refine IfB.f rfl ?_ | with_reducible refine IfB.dt (by omega) ?_ | with_reducible refine IfB.df (by omega) ?_ | with_reducible refine IfB.ndt (by omega) ?_ | with_reducible refine IfB.ndf (by omega) ?_ | with_reducible refine IfB.et (by omega) ?_ | with_reducible refine IfB.ef (by omega) ?_ | with_reducible refine IfB.nt (by omega) ?_ | with_reducible refine IfB.nf (by omega) ?_ | with_reducible refine And.intro (by first | omega | decide) ?_))
      refine k1 _ _ _ _ hmic (PsB.sh (((h.no 0).no 0).no 2) ⟨⟨hT', ?_, ?_⟩, rfl, rfl, by omega, hn2, rfl, hl, VSt.zero hlok, rfl, DsOk.zero (by omega)⟩)
      · have := stA_size (c := 0) (b := 0) hl; simpa using this
      · simp
    · have hmic : mic ended c (.tab n M t) u = .ev (.bad 100) (.bad n 100) (u + 1) := by unfold mic; dsimp only; rw [if_pos hle, hq]
      refine Nw.mk h fun b22 w h => ?_
      refine StA.q h (by simp) ho hos fun w h => ?_
      (repeat (first | with_reducible refine Nw.mk h (fun b w h => ?_) | with_reducible refine Drw.mk h (fun w h => ?_) | with_reducible refine Ld.xb h rfl ?_ | with_reducible refine Ld.xt h rfl ?_ | with_reducible refine LdS.xb (fun _ h => h) rfl ?_ | with_reducible refine LdS.xt (fun _ h => h) rfl ?_ | with_reducible refine And.intro h.hb ?_ | with_reducible refine StC.xw h rfl rfl (fun w h => ?_) | (with_reducible refine StC.xs h rfl rfl (fun w h => ?_); dsimp only [spl, over] at h) | (with_reducible refine St.xs h rfl rfl (fun w h => ?_); dsimp only [spl, over] at h) | with_reducible refine IfB.ntt ?_ | with_reducible refine IfB.nff ?_ | with_reducible refine IfB.t rfl ?_ | with_reducible refine IfB.f rfl ?_ | with_reducible refine IfB.dt (by omega) ?_ | with_reducible refine IfB.df (by omega) ?_ | with_reducible refine IfB.ndt (by omega) ?_ | with_reducible refine IfB.ndf (by omega) ?_ | with_reducible refine IfB.et (by omega) ?_ | with_reducible refine IfB.ef (by omega) ?_ | with_reducible refine IfB.nt (by omega) ?_ | with_reducible refine IfB.nf (by omega) ?_ | with_reducible refine And.intro (by first | omega | decide) ?_))
      refine wrong_c hT hC hB (h.at 2) fun w h => ?_
      (repeat (first | with_reducible refine Nw.mk h (fun b w h => ?_) | with_reducible refine Drw.mk h (fun w h => ?_) | with_reducible refine Ld.xb h rfl ?_ | with_reducible refine Ld.xt h rfl ?_ | with_reducible refine LdS.xb (fun _ h => h) rfl ?_ | with_reducible refine LdS.xt (fun _ h => h) rfl ?_ | with_reducible refine And.intro h.hb ?_ | with_reducible refine StC.xw h rfl rfl (fun w h => ?_) | (with_reducible refine StC.xs h rfl rfl (fun w h => ?_); dsimp only [spl, over] at h) | (with_reducible refine St.xs h rfl rfl (fun w h => ?_); dsimp only [spl, over] at h) | with_reducible refine IfB.ntt ?_ | with_reducible refine IfB.nff ?_ | with_reducible refine IfB.t rfl ?_ | with_reducible refine IfB.f rfl ?_ | with_reducible refine IfB.dt (by omega) ?_ | with_reducible refine IfB.df (by omega) ?_ | with_reducible refine IfB.ndt (by omega) ?_ | with_reducible refine IfB.ndf (by omega) ?_ | with_reducible refine IfB.et (by omega) ?_ | with_reducible refine IfB.ef (by omega) ?_ | with_reducible refine IfB.nt (by omega) ?_ | with_reducible refine IfB.nf (by omega) ?_ | with_reducible refine And.intro (by first | omega | decide) ?_))
      refine k3 _ _ _ _ _ hmic (fun _ hx => by cases hx) (Hp.ownNil (PsB.sh (s := .bad n 100) (((h.no 1).no 1).no 2) ⟨⟨hT, hC, hB⟩, rfl, rfl, rfl⟩) 1)
  · (repeat (first | with_reducible refine Nw.mk h (fun b w h => ?_) | with_reducible refine Drw.mk h (fun w h => ?_) | with_reducible refine Ld.xb h rfl ?_ | with_reducible refine Ld.xt h rfl ?_ | with_reducible refine LdS.xb (fun _ h => h) rfl ?_ | with_reducible refine LdS.xt (fun _ h => h) rfl ?_ | with_reducible refine And.intro h.hb ?_ | with_reducible refine StC.xw h rfl rfl (fun w h => ?_) | (with_reducible refine StC.xs h rfl rfl (fun w h => ?_); dsimp only [spl, over] at h) | (with_reducible refine St.xs h rfl rfl (fun w h => ?_); dsimp only [spl, over] at h) | with_reducible refine IfB.ntt ?_ | with_reducible refine IfB.nff ?_ | with_reducible refine IfB.t rfl ?_ | with_reducible refine IfB.f rfl ?_ | with_reducible refine IfB.dt (by omega) ?_ | with_reducible refine IfB.df (by omega) ?_ | with_reducible refine IfB.ndt (by omega) ?_ | with_reducible refine IfB.ndf (by omega) ?_ | with_reducible refine IfB.et (by omega) ?_ | with_reducible refine IfB.ef (by omega) ?_ | with_reducible refine IfB.nt (by omega) ?_ | with_reducible refine IfB.nf (by omega) ?_ | with_reducible refine And.intro (by first | omega | decide) ?_))
    have hmic : mic ended c (.tab n M t) u = .ev (.bad 50) (.bad n 50) u := by
      unfold mic short; dsimp only; rw [if_neg hle, he]; rfl
    subst he
    refine k3 _ _ _ _ _ hmic (fun _ hx => by cases hx) (Hp.ownNil (PsB.sh (s := .bad n 50) ((h.no 0).no 2) ⟨⟨hT, hC, hB⟩, rfl, rfl, rfl⟩) 1)
  · (repeat (first | with_reducible refine Nw.mk h (fun b w h => ?_) | with_reducible refine Drw.mk h (fun w h => ?_) | with_reducible refine Ld.xb h rfl ?_ | with_reducible refine Ld.xt h rfl ?_ | with_reducible refine LdS.xb (fun _ h => h) rfl ?_ | with_reducible refine LdS.xt (fun _ h => h) rfl ?_ | with_reducible refine And.intro h.hb ?_ | with_reducible refine StC.xw h rfl rfl (fun w h => ?_) | (with_reducible refine StC.xs h rfl rfl (fun w h => ?_); dsimp only [spl, over] at h) | (with_reducible refine St.xs h rfl rfl (fun w h => ?_); dsimp only [spl, over] at h) | with_reducible refine IfB.ntt ?_ | with_reducible refine IfB.nff ?_ | with_reducible refine IfB.t rfl ?_ | with_reducible refine IfB.f rfl ?_ | with_reducible refine IfB.dt (by omega) ?_ | with_reducible refine IfB.df (by omega) ?_ | with_reducible refine IfB.ndt (by omega) ?_ | with_reducible refine IfB.ndf (by omega) ?_ | with_reducible refine IfB.et (by omega) ?_ | with_reducible refine IfB.ef (by omega) ?_ | with_reducible refine IfB.nt (by omega) ?_ | with_reducible refine IfB.nf (by omega) ?_ | with_reducible refine And.intro (by first | omega | decide) ?_))
    have hmic : mic ended c (.tab n M t) u = .need := by
      unfold mic short; dsimp only; rw [if_neg hle, he]; rfl
    subst he
    refine k2 _ hmic (PsB.sh ((h.no 0).no 2) ⟨⟨hT, hC, hB⟩, rfl, rfl, rfl, hM1, hM2, hn2, hTe, hok⟩)
theorem stp_fst {l : List Nat} {c b x : Nat} : (stp l c b x).1 = match (stp l c b x).2 with | none => (2 * c + x, b + 1) | some _ => (0, 0) := by
  cases hs : (stp l c b x).2 with
  | none => exact stp_none hs
  | some s => exact stp_some hs
theorem symbols_c {n k m : Nat} {l : List Nat} {d : DS} {K : EvT → Bool → World → Prop} (h : Hp E w (PsB b (.sym n l k m d) :: Rd ⟨pr, 0, none⟩ c u ended :: F)) (hK : TurnR b pr c ended (.sym n l k m d) u E F K) :
    Cl Try.prog [kEv, kB] n_parser_Parser_symbols ⟨[.pointer (some ⟨b, 0, none⟩), .pointer (some ⟨pr, 0, none⟩)]⟩ w K := by
  obtain ⟨k1, k2, k3⟩ := hK
  obtain ⟨⟨a, h0, h1, h2, h3, m0, m1, m2, m3, m4, m5, m6, T, C, B, e⟩, ⟨⟨hT, hC, hB⟩, hr⟩, h⟩ := PsB.opn h
  dsimp only at hT hC hB hr h
  obtain ⟨rfl, rfl, hn1, hn2, hCe, hl, hv, hBe, hd⟩ := hr
  refine parser_Parser_symbols.ok _ _ _ _ ?_
  unfold parser_Parser_symbols.E
  (try simp only [Join_eq, NilCk_some, add_mk, Nat.zero_add, Nat.add_zero, Nat.reduceAdd, Bool.not_true, Bool.not_false, IfB_t, IfB_f, Option.isNone])
  refine Nw.mk h fun b4 w h => ?_
  refine ptake_c (width := 1) hT hC hB (by decide) (h.at 1 |>.at 2 |>.at 1) (fun hle w h => ?_) (fun hle he w h => ?_) (fun hle he w h => ?_)
  · have hbit := bit_le (c := c) (u := u)
    rw [val1_bit]
    refine Nw.mk h fun b10 w h => ?_
    (repeat (first | with_reducible refine Nw.mk h (fun b w h => ?_) | with_reducible refine Drw.mk h (fun w h => ?_) | with_reducible refine Ld.xb h rfl ?_ | with_reducible refine Ld.xt h rfl ?_ | with_reducible refine LdS.xb (fun _ h => h) rfl ?_ | with_reducible refine LdS.xt (fun _ h => h) rfl ?_ | with_reducible refine And.intro h.hb ?_ | with_reducible refine StC.xw h rfl rfl (fun w h => ?_) | (with_reducible refine StC.xs h rfl rfl (fun w h => ?_); dsimp only [spl, over] at h) | (with_reducible refine St.xs h rfl rfl (fun w h => ?_); dsimp only [spl, over] at h) | with_reducible refine IfB.ntt ?_ | with_reducible refine IfB.nff ?_ | with_reducible refine IfB.t rfl ?_ | with_reducible refine IfB.f rfl ?_ | with_reducible refine IfB.dt (by omega) ?_ | with_reducible refine IfB.df (by omega) ?_ | with_reducible refine IfB.ndt (by omega) ?_ | with_reducible refine IfB.ndf (by omega) ?_ | with_reducible refine IfB.et (by omega) ?_ | with_reducible refine IfB.ef (by omega) ?_ | with_reducible refine IfB.nt (by omega) ?_ | with_reducible refine IfB.nf (by omega) ?_ | with_reducible refine And.intro (by first | omega | decide) ?_))
    refine pLdC h hT hC ?_
    rw [i64_id (by omega), hCe]
    have hfs := stp_find hl hv hbit
    have hfst := stp_fst (l := l) (c := k) (b := m) (x := bitAt c u)
    have hvn := hv.next hbit
    refine step_c h hl hv hbit fun w h => ?_
    have hsz := fun (x y : Nat) => stA_size (c := x) (b := y) hl
    refine Nw.mk h fun b22 w h => ?_
    refine StA.q h (by simp) (hsz _ _) (List.all_eq_true.2 stA_scalar) fun w h => ?_
    refine Ld.xw h (hsz _ _) ?_
    refine pStC h hT hC (hsz _ _) (List.all_eq_true.2 stA_scalar) fun w h => ?_
    have hC' : ∀ x y : Nat, (stA l x y).toList.length = 260 := fun x y => by rw [Array.length_toList]; exact hsz x y
    cases hs : (stp l k m (bitAt c u)).2 with
    | none =>
      rw [hs] at hfs hfst
      rw [hfst] at h hvn
      have hmic : mic ended c (.sym n l k m d) u = .go (.sym n l (2 * k + bitAt c u) (m + 1) d) (u + 1) := by unfold mic; dsimp only; rw [if_pos hle, ← hfs]
      refine IfB.t rfl ?_
      (repeat (first | with_reducible refine Nw.mk h (fun b w h => ?_) | with_reducible refine Drw.mk h (fun w h => ?_) | with_reducible refine Ld.xb h rfl ?_ | with_reducible refine Ld.xt h rfl ?_ | with_reducible refine LdS.xb (fun _ h => h) rfl ?_ | with_reducible refine LdS.xt (fun _ h => h) rfl ?_ | with_reducible refine And.intro h.hb ?_ | with_reducible refine StC.xw h rfl rfl (fun w h => ?_) | (with_reducible refine StC.xs h rfl rfl (fun w h => ?_); dsimp only [spl, over] at h) | (with_reducible refine St.xs h rfl rfl (fun w h => ?_); dsimp only [spl, over] at h) | with_reducible refine IfB.ntt ?_ | with_reducible refine IfB.nff ?_ | with_reducible refine IfB.t rfl ?_ | with_reducible refine IfB.f rfl ?_ | with_reducible refine IfB.dt (by omega) ?_ | with_reducible refine IfB.df (by omega) ?_ | with_reducible refine IfB.ndt (by omega) ?_ | with_reducible refine IfB.ndf (by omega) ?_ | with_reducible refine IfB.et (by omega) ?_ | with_reducible refine IfB.ef (by omega) ?_ | with_reducible refine IfB.nt (by omega) ?_ | with_reducible refine IfB.nf (by omega) ?_ | with_reducible refine And.intro (by first | omega | decide) ?_))
      exact k1 _ _ _ _ hmic (PsB.sh (((h.no 0).no 0).no 2) ⟨⟨hT, hC' _ _, hB⟩, rfl, rfl, hn1, hn2, rfl, hl, hvn, hBe, hd⟩)
    | some y =>
      rw [hs] at hfs hfst
      rw [hfst] at h hvn
      have hy : y < 258 := (stp_done hl hv hbit hs).1
      refine IfB.f rfl ?_
      refine pLdB h hT (hC' _ _) hB ?_
      rw [hBe]
      refine sdStep_c (s := y) h hd hy (fun o w hq ho hos h => ?_) (fun d' t sl w hq h => ?_) (fun d' t sl w hq h => ?_)
      · have hmic : mic ended c (.sym n l k m d) u = .ev (.bad 160) (.bad n 160) (u + 1) := by unfold mic; dsimp only; rw [if_pos hle, ← hfs]; dsimp only; rw [show dsym d y = _ from hq]
        refine Nw.mk h fun b38 w h => ?_
        refine StA.q h (by simp) ho hos fun w h => ?_
        (repeat (first | with_reducible refine Nw.mk h (fun b w h => ?_) | with_reducible refine Drw.mk h (fun w h => ?_) | with_reducible refine Ld.xb h rfl ?_ | with_reducible refine Ld.xt h rfl ?_ | with_reducible refine LdS.xb (fun _ h => h) rfl ?_ | with_reducible refine LdS.xt (fun _ h => h) rfl ?_ | with_reducible refine And.intro h.hb ?_ | with_reducible refine StC.xw h rfl rfl (fun w h => ?_) | (with_reducible refine StC.xs h rfl rfl (fun w h => ?_); dsimp only [spl, over] at h) | (with_reducible refine St.xs h rfl rfl (fun w h => ?_); dsimp only [spl, over] at h) | with_reducible refine IfB.ntt ?_ | with_reducible refine IfB.nff ?_ | with_reducible refine IfB.t rfl ?_ | with_reducible refine IfB.f rfl ?_ | with_reducible refine IfB.dt (by omega) ?_ | with_reducible refine IfB.df (by omega) ?_ | with_reducible refine IfB.ndt (by omega) ?_ | with_reducible refine IfB.ndf (by omega) ?_ | with_reducible refine IfB.et (by omega) ?_ | with_reducible refine IfB.ef (by omega) ?_ | with_reducible refine IfB.nt (by omega) ?_ | with_reducible refine IfB.nf (by omega) ?_ | with_reducible refine And.intro (by first | omega | decide) ?_))
        refine wrong_c hT (hC' _ _) hB (h.at 3) fun w h => ?_
        (repeat (first | with_reducible refine Nw.mk h (fun b w h => ?_) | with_reducible refine Drw.mk h (fun w h => ?_) | with_reducible refine Ld.xb h rfl ?_ | with_reducible refine Ld.xt h rfl ?_ | with_reducible refine LdS.xb (fun _ h => h) rfl ?_ | with_reducible refine LdS.xt (fun _ h => h) rfl ?_ | with_reducible refine And.intro h.hb ?_ | with_reducible refine StC.xw h rfl rfl (fun w h => ?_) | (with_reducible refine StC.xs h rfl rfl (fun w h => ?_); dsimp only [spl, over] at h) | (with_reducible refine St.xs h rfl rfl (fun w h => ?_); dsimp only [spl, over] at h) | with_reducible refine IfB.ntt ?_ | with_reducible refine IfB.nff ?_ | with_reducible refine IfB.t rfl ?_ | with_reducible refine IfB.f rfl ?_ | with_reducible refine IfB.dt (by omega) ?_ | with_reducible refine IfB.df (by omega) ?_ | with_reducible refine IfB.ndt (by omega) ?_ | with_reducible refine IfB.ndf (by omega) ?_ | with_reducible refine IfB.et (by omega) ?_ | with_reducible refine IfB.ef (by omega) ?_ | with_reducible refine IfB.nt (by omega) ?_ | with_reducible refine IfB.nf (by omega) ?_ | with_reducible refine And.intro (by first | omega | decide) ?_))
        exact k3 _ _ _ _ _ hmic (fun _ hx => by cases hx) (Hp.ownNil (PsB.sh (s := .bad n 160) ((((h.no 1).no 1).no 1).no 2) ⟨⟨hT, hC' _ _, hB⟩, rfl, rfl, rfl⟩) 1)
      · obtain ⟨hd', hb', _⟩ := dsym_ok hd hy hq
        have hdl := hd'.1.len
        have htl := h.ownLen
        simp only [List.length_map, Nat.mul_one] at htl
        refine Nw.mk h fun b38 w h => ?_
        refine StA.q h (by simp) (dsA_size hdl) dsA_scalar fun w h => ?_
        (repeat (first | with_reducible refine Nw.mk h (fun b w h => ?_) | with_reducible refine Drw.mk h (fun w h => ?_) | with_reducible refine Ld.xb h rfl ?_ | with_reducible refine Ld.xt h rfl ?_ | with_reducible refine LdS.xb (fun _ h => h) rfl ?_ | with_reducible refine LdS.xt (fun _ h => h) rfl ?_ | with_reducible refine And.intro h.hb ?_ | with_reducible refine StC.xw h rfl rfl (fun w h => ?_) | (with_reducible refine StC.xs h rfl rfl (fun w h => ?_); dsimp only [spl, over] at h) | (with_reducible refine St.xs h rfl rfl (fun w h => ?_); dsimp only [spl, over] at h) | with_reducible refine IfB.ntt ?_ | with_reducible refine IfB.nff ?_ | with_reducible refine IfB.t rfl ?_ | with_reducible refine IfB.f rfl ?_ | with_reducible refine IfB.dt (by omega) ?_ | with_reducible refine IfB.df (by omega) ?_ | with_reducible refine IfB.ndt (by omega) ?_ | with_reducible refine IfB.ndf (by omega) ?_ | with_reducible refine IfB.et (by omega) ?_ | with_reducible refine IfB.ef (by omega) ?_ | with_reducible refine IfB.nt (by omega) ?_ | with_reducible refine IfB.nf (by omega) ?_ | with_reducible refine And.intro (by first | omega | decide) ?_))
        refine Ld.xw h (dsA_size hdl) ?_
        refine pStB h hT (hC' _ _) hB (dsA_size hdl) dsA_scalar fun w h => ?_
        have hB' : (dsA d'.L (d'.left : Int) (d'.run : Int) (d'.digits : Int) false).toList.length = 260 := by rw [Array.length_toList]; exact dsA_size hdl
        refine IfB.f rfl ?_
        (repeat (first | with_reducible refine Nw.mk h (fun b w h => ?_) | with_reducible refine Drw.mk h (fun w h => ?_) | with_reducible refine Ld.xb h rfl ?_ | with_reducible refine Ld.xt h rfl ?_ | with_reducible refine LdS.xb (fun _ h => h) rfl ?_ | with_reducible refine LdS.xt (fun _ h => h) rfl ?_ | with_reducible refine And.intro h.hb ?_ | with_reducible refine StC.xw h rfl rfl (fun w h => ?_) | (with_reducible refine StC.xs h rfl rfl (fun w h => ?_); dsimp only [spl, over] at h) | (with_reducible refine St.xs h rfl rfl (fun w h => ?_); dsimp only [spl, over] at h) | with_reducible refine IfB.ntt ?_ | with_reducible refine IfB.nff ?_ | with_reducible refine IfB.t rfl ?_ | with_reducible refine IfB.f rfl ?_ | with_reducible refine IfB.dt (by omega) ?_ | with_reducible refine IfB.df (by omega) ?_ | with_reducible refine IfB.ndt (by omega) ?_ | with_reducible refine IfB.ndf (by omega) ?_ | with_reducible refine IfB.et (by omega) ?_ | with_reducible refine IfB.ef (by omega) ?_ | with_reducible refine IfB.nt (by omega) ?_ | with_reducible refine IfB.nf (by omega) ?_ | with_reducible refine And.intro (by first | omega | decide) ?_))
        have h := ((((h.no 0).no 1).no 1).no 3)
        by_cases ht : t = []
        · have hmic : mic ended c (.sym n l k m d) u = .go (.sym n l 0 0 d') (u + 1) := by unfold mic; dsimp only; rw [if_pos hle, ← hfs]; dsimp only; rw [show dsym d y = _ from hq]; dsimp only; rw [if_pos ht]; rfl
          refine as1 (K := fun b w => K _ b w) (decide_eq_false (by rw [ht] at htl; simp at htl; omega)) ?_
          exact k1 _ _ _ _ hmic (PsB.sh h.drop ⟨⟨hT, hC' _ _, hB'⟩, rfl, rfl, hn1, hn2, rfl, hl, hvn, rfl, hd'⟩)
        · have hmic : mic ended c (.sym n l k m d) u = .ev (.bytes t) (.sym n l 0 0 d') (u + 1) := by unfold mic; dsimp only; rw [if_pos hle, ← hfs]; dsimp only; rw [show dsym d y = _ from hq]; dsimp only; rw [if_neg ht]; rfl
          refine as1 (K := fun b w => K _ b w) (decide_eq_true (by have := List.length_pos_iff.2 ht; omega)) ?_
          exact k3 (.bytes t) _ _ _ _ hmic hb' (PsB.sh (s := .sym n l 0 0 d') (h.at 1) ⟨⟨hT, hC' _ _, hB'⟩, rfl, rfl, hn1, hn2, rfl, hl, hvn, rfl, hd'⟩).p1
      · have hdl := hd.1.len
        have htl := h.ownLen
        simp only [List.length_map, Nat.mul_one] at htl
        refine Nw.mk h fun b38 w h => ?_
        refine StA.q h (by simp) (dsA_size hdl) dsA_scalar fun w h => ?_
        (repeat (first | with_reducible refine Nw.mk h (fun b w h => ?_) | with_reducible refine Drw.mk h (fun w h => ?_) | with_reducible refine Ld.xb h rfl ?_ | with_reducible refine Ld.xt h rfl ?_ | with_reducible refine LdS.xb (fun _ h => h) rfl ?_ | with_reducible refine LdS.xt (fun _ h => h) rfl ?_ | with_reducible refine And.intro h.hb ?_ | with_reducible refine StC.xw h rfl rfl (fun w h => ?_) | (with_reducible refine StC.xs h rfl rfl (fun w h => ?_); dsimp only [spl, over] at h) | (with_reducible refine St.xs h rfl rfl (fun w h => ?_); dsimp only [spl, over] at h) | with_reducible refine IfB.ntt ?_ | with_reducible refine IfB.nff ?_ | with_reducible refine IfB.t rfl ?_ | with_reducible refine IfB.f rfl ?_ | with_reducible refine IfB.dt (by omega) ?_ | with_reducible refine IfB.df (by omega) ?_ | with_reducible refine IfB.ndt (by omega) ?_ | with_reducible refine IfB.ndf (by omega) ?_ | with_reducible refine IfB.et (by omega) ?_ | with_reducible refine IfB.ef (by omega) ?_ | with_reducible refine IfB.nt (by omega) ?_ | with_reducible refine IfB.nf (by omega) ?_ | with_reducible refine And.intro (by first | omega | decide) ?_))
        refine Ld.xw h (dsA_size hdl) ?_
        refine pStB h hT (hC' _ _) hB (dsA_size hdl) dsA_scalar fun w h => ?_
        have hB' : (dsA d.L 0 0 0 true).toList.length = 260 := by rw [Array.length_toList]; exact dsA_size hdl
        refine IfB.t rfl ?_
        refine part_c (n := 5) h (fun w h => ?_) (by simp)
        (repeat (first | with_reducible refine Nw.mk h (fun b w h => ?_) | with_reducible refine Drw.mk h (fun w h => ?_) | with_reducible refine Ld.xb h rfl ?_ | with_reducible refine Ld.xt h rfl ?_ | with_reducible refine LdS.xb (fun _ h => h) rfl ?_ | with_reducible refine LdS.xt (fun _ h => h) rfl ?_ | with_reducible refine And.intro h.hb ?_ | with_reducible refine StC.xw h rfl rfl (fun w h => ?_) | (with_reducible refine StC.xs h rfl rfl (fun w h => ?_); dsimp only [spl, over] at h) | (with_reducible refine St.xs h rfl rfl (fun w h => ?_); dsimp only [spl, over] at h) | with_reducible refine IfB.ntt ?_ | with_reducible refine IfB.nff ?_ | with_reducible refine IfB.t rfl ?_ | with_reducible refine IfB.f rfl ?_ | with_reducible refine IfB.dt (by omega) ?_ | with_reducible refine IfB.df (by omega) ?_ | with_reducible refine IfB.ndt (by omega) ?_ | with_reducible refine IfB.ndf (by omega) ?_ | with_reducible refine IfB.et (by omega) ?_ | with_reducible refine IfB.ef (by omega) ?_ | with_reducible refine IfB.nt (by omega) ?_ | with_reducible refine IfB.nf (by omega) ?_ | with_reducible refine And.intro (by first | omega | decide) ?_))
        have h := ((((h.no 0).no 1).no 1).no 3)
        by_cases ht : t = []
        · have hmic : mic ended c (.sym n l k m d) u = .go (.pad n) (u + 1) := by unfold mic; dsimp only; rw [if_pos hle, ← hfs]; dsimp only; rw [show dsym d y = _ from hq]; dsimp only; rw [if_pos ht]; rfl
          refine as1 (K := fun b w => K _ b w) (decide_eq_false (by rw [ht] at htl; simp at htl; omega)) ?_
          exact k1 _ _ _ _ hmic (PsB.sh h.drop ⟨⟨hT, hC' _ _, hB'⟩, rfl, rfl, hn1, hn2⟩)
        · have hmic : mic ended c (.sym n l k m d) u = .ev (.bytes t) (.pad n) (u + 1) := by unfold mic; dsimp only; rw [if_pos hle, ← hfs]; dsimp only; rw [show dsym d y = _ from hq]; dsimp only; rw [if_neg ht]; rfl
          refine as1 (K := fun b w => K _ b w) (decide_eq_true (by have := List.length_pos_iff.2 ht; omega)) ?_
          exact k3 (.bytes t) _ _ _ _ hmic (dsym_end hd hq).1 (PsB.sh (s := .pad n) (h.at 1) ⟨⟨hT, hC' _ _, hB'⟩, rfl, rfl, hn1, hn2⟩).p1
  · (repeat (first | with_reducible refine Nw.mk h (fun b w h => ?_) | with_reducible refine Drw.mk h (fun w h => ?_) | with_reducible refine Ld.xb h rfl ?_ | with_reducible refine Ld.xt h rfl ?_ | with_reducible refine LdS.xb (fun _ h => h) rfl ?_ | with_reducible refine LdS.xt (fun _ h => h) rfl ?_ | with_reducible refine And.intro h.hb ?_ | with_reducible refine StC.xw h rfl rfl (fun w h => ?_) | (with_reducible refine StC.xs h rfl rfl (fun w h => ?_); dsimp only [spl, over] at h) | (with_reducible refine St.xs h rfl rfl (fun w h => ?_); dsimp only [spl, over] at h) | with_reducible refine IfB.ntt ?_ | with_reducible refine IfB.nff ?_ | with_reducible refine IfB.t rfl ?_ | with_reducible refine IfB.f rfl ?_ | with_reducible refine IfB.dt (by omega) ?_ | with_reducible refine IfB.df (by omega) ?_ | with_reducible refine IfB.ndt (by omega) ?_ | with_reducible refine IfB.ndf (by omega) ?_ | with_reducible refine IfB.et (by omega) ?_ | with_reducible refine IfB.ef (by omega) ?_ | with_reducible refine IfB.nt (by omega) ?_ | with_reducible refine IfB.nf (by omega) ?_ | with_reducible refine And.intro (by first | omega | decide) ?_))
    have hmic : mic ended c (.sym n l k m d) u = .ev (.bad 50) (.bad n 50) u := by
      unfold mic short; dsimp only; rw [if_neg hle, he]; rfl
    subst he
    refine k3 _ _ _ _ _ hmic (fun _ hx => by cases hx) (Hp.ownNil (PsB.sh (s := .bad n 50) ((h.no 0).no 2) ⟨⟨hT, hC, hB⟩, rfl, rfl, rfl⟩) 1)
  · (repeat (first | with_reducible refine Nw.mk h (fun b w h => ?_) | with_reducible refine Drw.mk h (fun w h => ?_) | with_reducible refine Ld.xb h rfl ?_ | with_reducible refine Ld.xt h rfl ?_ | with_reducible refine LdS.xb (fun _ h => h) rfl ?_ | with_reducible refine LdS.xt (fun _ h => h) rfl ?_ | with_reducible refine And.intro h.hb ?_ | with_reducible refine StC.xw h rfl rfl (fun w h => ?_) | (with_reducible refine StC.xs h rfl rfl (fun w h => ?_); dsimp only [spl, over] at h) | (with_reducible refine St.xs h rfl rfl (fun w h => ?_); dsimp only [spl, over] at h) | with_reducible refine IfB.ntt ?_ | with_reducible refine IfB.nff ?_ | with_reducible refine IfB.t rfl ?_ | with_reducible refine IfB.f rfl ?_ | with_reducible refine IfB.dt (by omega) ?_ | with_reducible refine IfB.df (by omega) ?_ | with_reducible refine IfB.ndt (by omega) ?_ | with_reducible refine IfB.ndf (by omega) ?_ | with_reducible refine IfB.et (by omega) ?_ | with_reducible refine IfB.ef (by omega) ?_ | with_reducible refine IfB.nt (by omega) ?_ | with_reducible refine IfB.nf (by omega) ?_ | with_reducible refine And.intro (by first | omega | decide) ?_))
    have hmic : mic ended c (.sym n l k m d) u = .need := by
      unfold mic short; dsimp only; rw [if_neg hle, he]; rfl
    subst he
    refine k2 _ hmic (PsB.sh ((h.no 0).no 2) ⟨⟨hT, hC, hB⟩, rfl, rfl, hn1, hn2, hCe, hl, hv, hBe, hd⟩)
end
end Go.Proofs.Ytjnjjibmlalpiaa
/- Lat -/
namespace Go.Vc
open Go
/-- one step from a node; J: what is to be shown at the next ones -/
def lat1 (P : Program) (ops : Array Oper) (S : World → Prop) (K : AF → World → Prop) (J : Array Bool → AF → World → Prop) (listed : Array Bool) (f : AF) (w : World) : Prop :=
  match Region.ready .any ops listed with
  | [] => K f w
  | r :: rs => match (r :: rs).find? (fun i => (match ops[i]? with | some o => stillB P o.op | none => false) && Region.free .any ops listed i) with
    | some i => match ops[i]? with
      | some o => guarded ops o f
          (fun f => stVC P S f (fun v => J (listed.setIfInBounds i true) (putD f o.dst v) w) o.op)
          (fun f => J (listed.setIfInBounds i true) (putD f o.dst (some undef)) w)
      | none => False
    | none => AllR (r :: rs) fun i => match ops[i]? with
      | some o => guarded ops o f
          (fun f => opVC P f o w fun v w' => S w' ∧ J (listed.setIfInBounds i true) (putD f o.dst v) w')
          (fun f => J (listed.setIfInBounds i true) (putD f o.dst (some undef)) w)
      | none => False
theorem lat1_mono {P : Program} {ops : Array Oper} {S : World → Prop} {K : AF → World → Prop} {J J' : Array Bool → AF → World → Prop} {listed : Array Bool} {f : AF} {w : World} (hJ : ∀ listed f w, J listed f w → J' listed f w)
    (h : lat1 P ops S K J listed f w) : lat1 P ops S K J' listed f w := by
  unfold lat1 at h ⊢
  split at h
  · exact h
  · split at h
    · split at h
      · refine guarded_frame (fun g _ h => ?_) (fun g _ h => hJ _ _ _ h) h
        exact stVC_mono (fun v h => hJ _ _ _ h) h
      · exact h.elim
    · refine allR_mono (fun i h => ?_) h
      split at h
      · refine guarded_frame (fun g _ h => ?_) (fun g _ h => hJ _ _ _ h) h
        exact opVC_mono (fun v w h => ⟨h.1, hJ _ _ _ h.2⟩) h
      · exact h.elim
theorem vcHeld_succ {P : Program} {ops : Array Oper} {S : World → Prop} {K : AF → World → Prop} {n : Nat} {listed : Array Bool} {f : AF} {w : World} (h : lat1 P ops S K (vcHeld P ops S K n) listed f w) : vcHeld P ops S K (n + 1) listed f w := h
/-- nodes for all orders: J n is what holds where n operations are left -/
theorem vcHeld_lat {P : Program} {ops : Array Oper} {S : World → Prop} {K : AF → World → Prop} {J : Nat → Array Bool → AF → World → Prop}
    (h0 : ∀ listed f w, J 0 listed f w → onB (Region.ready .any ops listed).isEmpty (K f w)) (hs : ∀ n listed f w, J (n + 1) listed f w → lat1 P ops S K (J n) listed f w) :
    ∀ (n : Nat) (listed : Array Bool) (f : AF) (w : World), J n listed f w → vcHeld P ops S K n listed f w
  | 0, listed, f, w, h => h0 listed f w h
  | n + 1, listed, f, w, h => vcHeld_succ (lat1_mono (vcHeld_lat h0 hs n) (hs n listed f w h))
/-- parts of a code -/
noncomputable def codeAt : Code → List Bool → Code
  | c, [] => c
  | .seq x _, false :: l => codeAt x l
  | .seq _ y, true :: l => codeAt y l
  | c, _ => c
noncomputable def regOps : Code → Array Oper
  | .region _ ops _ => ops
  | _ => #[]
def stillO (P : Program) (ops : Array Oper) (i : Nat) : Bool := match ops[i]? with | some o => stillB P o.op | none => false
def stillFree (P : Program) (ops : Array Oper) (listed : Array Bool) (i : Nat) : Bool := stillO P ops i && Region.free .any ops listed i
/-- an operation that comes up at a node -/
def latE (P : Program) (ops : Array Oper) (S : World → Prop) (J : Array Bool → AF → World → Prop) (listed : Array Bool) (f : AF) (w : World) (i : Nat) : Prop := match ops[i]? with
  | some o => guarded ops o f
      (fun f => opVC P f o w fun v w' => S w' ∧ J (listed.setIfInBounds i true) (putD f o.dst v) w')
      (fun f => J (listed.setIfInBounds i true) (putD f o.dst (some undef)) w)
  | none => False
def latS (P : Program) (ops : Array Oper) (S : World → Prop) (J : Array Bool → AF → World → Prop) (listed : Array Bool) (f : AF) (w : World) (i : Nat) : Prop := match ops[i]? with
  | some o => guarded ops o f
      (fun f => stVC P S f (fun v => J (listed.setIfInBounds i true) (putD f o.dst v) w) o.op)
      (fun f => J (listed.setIfInBounds i true) (putD f o.dst (some undef)) w)
  | none => False
theorem allR_of {F : Nat → Prop} : ∀ {l : List Nat}, (∀ i ∈ l, F i) → AllR l F
  | [], _ => trivial
  | [i], h => h i (by simp)
  | i :: j :: l, h => ⟨h i (by simp), allR_of fun k hk => h k (List.mem_cons_of_mem _ hk)⟩
theorem lat1_all {P : Program} {ops : Array Oper} {S : World → Prop} {K : AF → World → Prop} {J : Array Bool → AF → World → Prop} {listed : Array Bool} {f : AF} {w : World} {rs : List Nat}
    (hr : Region.ready .any ops listed = rs) (hn : rs ≠ []) (hf : rs.find? (stillFree P ops listed) = none) (h : ∀ i ∈ rs, latE P ops S J listed f w i) : lat1 P ops S K J listed f w := by
  unfold lat1
  rw [hr]
  cases rs with
  | nil => exact absurd rfl hn
  | cons r rs =>
    have hf' : (r :: rs).find? (fun i => (match ops[i]? with | some o => stillB P o.op | none => false) && Region.free .any ops listed i) = none := hf
    dsimp only
    rw [hf']
    exact allR_of h
theorem lat1_still {P : Program} {ops : Array Oper} {S : World → Prop} {K : AF → World → Prop} {J : Array Bool → AF → World → Prop} {listed : Array Bool} {f : AF} {w : World} {rs : List Nat} {i : Nat}
    (hr : Region.ready .any ops listed = rs) (hf : rs.find? (stillFree P ops listed) = some i) (h : latS P ops S J listed f w i) : lat1 P ops S K J listed f w := by
  unfold lat1
  rw [hr]
  cases rs with
  | nil => cases hf
  | cons r rs =>
    have hf' : (r :: rs).find? (fun i => (match ops[i]? with | some o => stillB P o.op | none => false) && Region.free .any ops listed i) = some i := hf
    dsimp only
    rw [hf']
    exact h
end Go.Vc
/- ParE -/
namespace Go.Vc
/-- what is ready, by lists of what each operation waits for -/
def readyF (A : List (List Nat)) (g : Nat → Bool) : List Nat := (List.range A.length).filter fun i => !g i && (A.getD i []).all g
def arrOf (n : Nat) (g : Nat → Bool) : Array Bool := ⟨(List.range n).map g⟩
theorem arrOf_getD {n r : Nat} {g : Nat → Bool} {d : Bool} (h : r < n) : (arrOf n g).getD r d = g r := by
  simp [arrOf, Array.getD, h]
theorem arrOf_set {n r : Nat} {g g' : Nat → Bool} (h : ∀ q, q < n → g' q = ((q == r) || g q)) : (arrOf n g).setIfInBounds r true = arrOf n g' := by
  apply Array.ext_getElem?
  intro q
  rw [Array.getElem?_setIfInBounds]
  by_cases hq : q < n
  · have h1 : ∀ g : Nat → Bool, (arrOf n g)[q]? = some (g q) := fun g => by simp [arrOf, hq]
    have h2 : (arrOf n g).size = n := by simp [arrOf]
    rw [h1, h1, h2, h q hq]
    by_cases e : r = q
    · subst e
      rw [if_pos rfl, if_pos hq, beq_self_eq_true, Bool.true_or]
    · rw [if_neg e, beq_eq_false_iff_ne.2 (Ne.symm e), Bool.false_or]
  · have h1 : ∀ g : Nat → Bool, (arrOf n g)[q]? = none := fun g => by simp [arrOf]; omega
    have h2 : (arrOf n g).size = n := by simp [arrOf]
    rw [h1, h1, h2]
    split
    · rw [if_neg (by omega)]
    · rfl
theorem all_filter_map {α β : Type} {p : β → Bool} {f : α → β} {q : α → Bool} : ∀ (l : List α), ((l.filter q).map f).all p = l.all fun e => !q e || p (f e)
  | [] => rfl
  | a :: l => by
    have := all_filter_map (p := p) (f := f) (q := q) l
    cases hq : q a
    · rw [List.filter_cons_of_neg (by simp [hq]), List.all_cons, hq, this]; rfl
    · rw [List.filter_cons_of_pos hq, List.map_cons, List.all_cons, List.all_cons, hq, this]; rfl
theorem ready_eq {ops : Array Oper} {A : List (List Nat)} {g : Nat → Bool} (h : ops.toList.map (fun o => (o.after.toList.filter fun e => Region.binds .any e).map (·.on)) = A) (hA : ∀ l ∈ A, ∀ x ∈ l, x < A.length) :
    Region.ready .any ops (arrOf A.length g) = readyF A g := by
  have hl : ops.size = A.length := by rw [← h]; simp
  unfold Region.ready readyF
  rw [hl]
  refine List.filter_congr fun i hi => ?_
  have hi : i < A.length := by simpa using hi
  rw [arrOf_getD hi]
  congr 1
  have ho : ∃ o, ops[i]? = some o ∧ A.getD i [] = ((o.after.toList.filter fun e => Region.binds .any e).map (·.on)) := by
    refine ⟨ops[i]'(by omega), by simp [hl, hi], ?_⟩
    subst h
    simp at hi
    simp [List.getD_eq_getElem?_getD, hi]
  obtain ⟨o, ho, hAi⟩ := ho
  rw [ho, hAi]
  simp only [Option.map_some, Option.getD_some]
  rw [all_filter_map, ← Array.all_toList]
  have hm : ∀ e ∈ o.after.toList, Region.binds .any e = true → e.on < A.length := fun e he hb => by
    refine hA (A.getD i []) ?_ _ ?_
    · rw [List.getD_eq_getElem?_getD, List.getElem?_eq_getElem hi]; exact List.getElem_mem hi
    · rw [hAi]; exact List.mem_map.2 ⟨e, List.mem_filter.2 ⟨he, hb⟩, rfl⟩
  rw [Bool.eq_iff_iff, List.all_eq_true, List.all_eq_true]
  refine ⟨fun hh e he => ?_, fun hh e he => ?_⟩
  · have := hh e he
    cases hb : Region.binds .any e with
    | false => rfl
    | true => rw [hb] at this; simpa [arrOf_getD (hm e he hb)] using this
  · have := hh e he
    cases hb : Region.binds .any e with
    | false => rfl
    | true => rw [hb] at this; simpa [arrOf_getD (hm e he hb)] using this
end Go.Vc
namespace Go.Proofs.Ytjnjjibmlalpiaa
open Go Go.Vc Go.Bits Go.Srt Go.Inc Go.Sym Go.Tab Go.Hd Go.Prs
noncomputable section
def opsM : Array Oper := regOps (codeAt (Try.f17.body.getD .skip) [true, true, false])
end
/-- what each operation waits for -/
def afM : List (List Nat) := [] :: (List.range 33).tail.map (fun r => if r = 1 then [] else if r % 4 = 1 then [r - 4] else if r % 4 = 2 then [] else if r % 4 = 3 then [r - 1] else [0, r - 3, r - 1]) ++ [List.range 33, [33, 29] ++ List.range 34]
set_option maxRecDepth 100000 in
theorem opsM_after : opsM.toList.map (fun o => (o.after.toList.filter fun e => Region.binds .any e).map (·.on)) = afM := by kernel_rfl
theorem afM_len : afM.length = 35 := by decide
theorem afM_lt : ∀ l ∈ afM, ∀ x ∈ l, x < afM.length := by decide
set_option maxRecDepth 100000 in
theorem opsM_still : ((List.range 35).map fun r => stillO Try.prog opsM r) = (List.range 35).map fun r => decide (33 ≤ r) || r % 4 == 2 || r % 4 == 3 := by kernel_rfl
/-- which operations have come up: the map made or not, the first i calls, the inserts of T -/
def gM (made : Bool) (i T r : Nat) : Bool := Nat.blt r 33 && (Nat.beq (r % 4) 2 || Nat.beq (r % 4) 3 || (Nat.beq r 0 && made) || (Nat.beq (r % 4) 1 && Nat.blt (r / 4) i) || (Nat.beq (r % 4) 0 && Nat.blt 0 r && Nat.beq ((T / 2 ^ (r / 4 - 1)) % 2) 1))
def LM (made : Bool) (i T : Nat) : Array Bool := arrOf 35 (gM made i T)
def rsM (made : Bool) (i T : Nat) : List Nat := (if made then [] else [0]) ++ ((List.range i).filter fun j => made && Nat.beq ((T / 2 ^ j) % 2) 0).map (fun j => 4 + 4 * j) ++ (if Nat.blt i 8 then [1 + 4 * i] else [])
/-- the next node -/
def nxM (made : Bool) (i T r : Nat) : Nat → Bool := if r = 0 then gM true i T else if r % 4 = 1 then gM made (i + 1) T else gM made i (T + 2 ^ (r / 4 - 1))
def okM (made : Bool) (i T : Nat) : Bool :=
  (Nat.beq i 8 && Nat.beq T 255) || (readyF afM (gM made i T) == rsM made i T) && ((rsM made i T).all fun r => (List.range 35).all fun q => nxM made i T r q == (Nat.beq q r || gM made i T q))
theorem okM_f : ((List.range 9).all fun i => okM false i 0) = true := by kernel_rfl
theorem okM_t : ((List.range 9).all fun i => (List.range (2 ^ i)).all fun T => okM true i T) = true := by kernel_rfl
end Go.Proofs.Ytjnjjibmlalpiaa
/- ParF -/
namespace Go.Proofs.Ytjnjjibmlalpiaa
open Go Go.Vc Go.Bits Go.Srt Go.Inc Go.Sym Go.Tab Go.Hd Go.Prs
set_option maxRecDepth 100000
abbrev tyM : TypeId := 71
abbrev fnM : Nat → FuncId
  | 0 => n_parser_inHead | 1 => n_parser_inMark | 2 => n_parser_inTable | 3 => n_parser_inSymbols | 4 => n_parser_inPadding | 5 => n_parser_behind | 6 => n_parser_over | _ => n_parser_bad
abbrev fmM : Nat → FuncId
  | 0 => n_parser_Parser_heads | 1 => n_parser_Parser_marks | 2 => n_parser_Parser_tables | 3 => n_parser_Parser_symbols | 4 => n_parser_Parser_padding | 5 => n_parser_Parser_rests | 6 => n_parser_Parser_ends | _ => n_parser_Parser_fails
abbrev fvM (p : Option Addr) (k : Nat) : Value := .func (.func (fmM k)) ⟨[.pointer p]⟩ ⟨[]⟩
abbrev keM (n : Int) : Value := .agg ⟨[.int .i64 n]⟩
noncomputable def fc0 (b : Nat) (p r : Option Addr) : AF := upd (upd (upd (initF [.pointer p, .pointer r] 69) 4 (some (.pointer (some ⟨b, 0, none⟩)))) 8 (some (.pointer p))) 9 (some (.bool (Option.isNone p)))
noncomputable def fc (b : Nat) (p r : Option Addr) : Nat → AF
  | 0 => fc0 b p r
  | k + 1 => upd (upd (fc b p r k) (13 + 3 * k) (some (.pointer p))) (14 + 3 * k) (some (fvM p k))
noncomputable def fr (b : Nat) (p r : Option Addr) (mm : Option (Option Nat)) : Nat → AF
  | 0 => match mm with | none => fc b p r 8 | some m => upd (fc b p r 8) 11 (some (.map m))
  | k + 1 => upd (fr b p r mm k) (12 + 3 * k) (some (keM ((k + 1 : Nat) : Int)))
def LC : Nat → Array Bool
  | 0 => Array.replicate 35 false
  | k + 1 => ((LC k).setIfInBounds (2 + 4 * k) true).setIfInBounds (3 + 4 * k) true
noncomputable abbrev bodyS : Code := Try.f17.body.getD .skip
section
variable {S : World → Prop} {K : AF → World → Prop} {J : Array Bool → AF → World → Prop} {L : Array Bool} {b : Nat} {p r : Option Addr} {m : Option Nat} {w : World} {n : Nat}
theorem ch_0 (h : vcHeld Try.prog opsM S K n (LC 1) (fc b p r 1) w) : vcHeld Try.prog opsM S K (n + 2) (LC 0) (fc b p r 0) w :=
  vcHeld_succ (lat1_still (i := 2) rfl (by kernel_rfl) (Eq.mpr (by kernel_rfl : latS Try.prog opsM S (vcHeld Try.prog opsM S K (n + 1)) (LC 0) (fc b p r 0) w 2 = vcHeld Try.prog opsM S K (n + 1) ((LC 0).setIfInBounds 2 true) (upd (fc b p r 0) 13 (some (.pointer p))) w)
    (vcHeld_succ (lat1_still (i := 3) rfl (by kernel_rfl) (Eq.mpr (by kernel_rfl : latS Try.prog opsM S (vcHeld Try.prog opsM S K n) ((LC 0).setIfInBounds 2 true) (upd (fc b p r 0) 13 (some (.pointer p))) w 3 = vcHeld Try.prog opsM S K n (LC 1) (fc b p r 1) w) h)))))
theorem ch_1 (h : vcHeld Try.prog opsM S K n (LC 2) (fc b p r 2) w) : vcHeld Try.prog opsM S K (n + 2) (LC 1) (fc b p r 1) w :=
  vcHeld_succ (lat1_still (i := 6) rfl (by kernel_rfl) (Eq.mpr (by kernel_rfl : latS Try.prog opsM S (vcHeld Try.prog opsM S K (n + 1)) (LC 1) (fc b p r 1) w 6 = vcHeld Try.prog opsM S K (n + 1) ((LC 1).setIfInBounds 6 true) (upd (fc b p r 1) 16 (some (.pointer p))) w)
    (vcHeld_succ (lat1_still (i := 7) rfl (by kernel_rfl) (Eq.mpr (by kernel_rfl : latS Try.prog opsM S (vcHeld Try.prog opsM S K n) ((LC 1).setIfInBounds 6 true) (upd (fc b p r 1) 16 (some (.pointer p))) w 7 = vcHeld Try.prog opsM S K n (LC 2) (fc b p r 2) w) h)))))
theorem ch_2 (h : vcHeld Try.prog opsM S K n (LC 3) (fc b p r 3) w) : vcHeld Try.prog opsM S K (n + 2) (LC 2) (fc b p r 2) w :=
  vcHeld_succ (lat1_still (i := 10) rfl (by kernel_rfl) (Eq.mpr (by kernel_rfl : latS Try.prog opsM S (vcHeld Try.prog opsM S K (n + 1)) (LC 2) (fc b p r 2) w 10 = vcHeld Try.prog opsM S K (n + 1) ((LC 2).setIfInBounds 10 true) (upd (fc b p r 2) 19 (some (.pointer p))) w)
    (vcHeld_succ (lat1_still (i := 11) rfl (by kernel_rfl) (Eq.mpr (by kernel_rfl : latS Try.prog opsM S (vcHeld Try.prog opsM S K n) ((LC 2).setIfInBounds 10 true) (upd (fc b p r 2) 19 (some (.pointer p))) w 11 = vcHeld Try.prog opsM S K n (LC 3) (fc b p r 3) w) h)))))
theorem ch_3 (h : vcHeld Try.prog opsM S K n (LC 4) (fc b p r 4) w) : vcHeld Try.prog opsM S K (n + 2) (LC 3) (fc b p r 3) w :=
  vcHeld_succ (lat1_still (i := 14) rfl (by kernel_rfl) (Eq.mpr (by kernel_rfl : latS Try.prog opsM S (vcHeld Try.prog opsM S K (n + 1)) (LC 3) (fc b p r 3) w 14 = vcHeld Try.prog opsM S K (n + 1) ((LC 3).setIfInBounds 14 true) (upd (fc b p r 3) 22 (some (.pointer p))) w)
    (vcHeld_succ (lat1_still (i := 15) rfl (by kernel_rfl) (Eq.mpr (by kernel_rfl : latS Try.prog opsM S (vcHeld Try.prog opsM S K n) ((LC 3).setIfInBounds 14 true) (upd (fc b p r 3) 22 (some (.pointer p))) w 15 = vcHeld Try.prog opsM S K n (LC 4) (fc b p r 4) w) h)))))
theorem ch_4 (h : vcHeld Try.prog opsM S K n (LC 5) (fc b p r 5) w) : vcHeld Try.prog opsM S K (n + 2) (LC 4) (fc b p r 4) w :=
  vcHeld_succ (lat1_still (i := 18) rfl (by kernel_rfl) (Eq.mpr (by kernel_rfl : latS Try.prog opsM S (vcHeld Try.prog opsM S K (n + 1)) (LC 4) (fc b p r 4) w 18 = vcHeld Try.prog opsM S K (n + 1) ((LC 4).setIfInBounds 18 true) (upd (fc b p r 4) 25 (some (.pointer p))) w)
    (vcHeld_succ (lat1_still (i := 19) rfl (by kernel_rfl) (Eq.mpr (by kernel_rfl : latS Try.prog opsM S (vcHeld Try.prog opsM S K n) ((LC 4).setIfInBounds 18 true) (upd (fc b p r 4) 25 (some (.pointer p))) w 19 = vcHeld Try.prog opsM S K n (LC 5) (fc b p r 5) w) h)))))
theorem ch_5 (h : vcHeld Try.prog opsM S K n (LC 6) (fc b p r 6) w) : vcHeld Try.prog opsM S K (n + 2) (LC 5) (fc b p r 5) w :=
  vcHeld_succ (lat1_still (i := 22) rfl (by kernel_rfl) (Eq.mpr (by kernel_rfl : latS Try.prog opsM S (vcHeld Try.prog opsM S K (n + 1)) (LC 5) (fc b p r 5) w 22 = vcHeld Try.prog opsM S K (n + 1) ((LC 5).setIfInBounds 22 true) (upd (fc b p r 5) 28 (some (.pointer p))) w)
    (vcHeld_succ (lat1_still (i := 23) rfl (by kernel_rfl) (Eq.mpr (by kernel_rfl : latS Try.prog opsM S (vcHeld Try.prog opsM S K n) ((LC 5).setIfInBounds 22 true) (upd (fc b p r 5) 28 (some (.pointer p))) w 23 = vcHeld Try.prog opsM S K n (LC 6) (fc b p r 6) w) h)))))
theorem ch_6 (h : vcHeld Try.prog opsM S K n (LC 7) (fc b p r 7) w) : vcHeld Try.prog opsM S K (n + 2) (LC 6) (fc b p r 6) w :=
  vcHeld_succ (lat1_still (i := 26) rfl (by kernel_rfl) (Eq.mpr (by kernel_rfl : latS Try.prog opsM S (vcHeld Try.prog opsM S K (n + 1)) (LC 6) (fc b p r 6) w 26 = vcHeld Try.prog opsM S K (n + 1) ((LC 6).setIfInBounds 26 true) (upd (fc b p r 6) 31 (some (.pointer p))) w)
    (vcHeld_succ (lat1_still (i := 27) rfl (by kernel_rfl) (Eq.mpr (by kernel_rfl : latS Try.prog opsM S (vcHeld Try.prog opsM S K n) ((LC 6).setIfInBounds 26 true) (upd (fc b p r 6) 31 (some (.pointer p))) w 27 = vcHeld Try.prog opsM S K n (LC 7) (fc b p r 7) w) h)))))
theorem ch_7 (h : vcHeld Try.prog opsM S K n (LC 8) (fc b p r 8) w) : vcHeld Try.prog opsM S K (n + 2) (LC 7) (fc b p r 7) w :=
  vcHeld_succ (lat1_still (i := 30) rfl (by kernel_rfl) (Eq.mpr (by kernel_rfl : latS Try.prog opsM S (vcHeld Try.prog opsM S K (n + 1)) (LC 7) (fc b p r 7) w 30 = vcHeld Try.prog opsM S K (n + 1) ((LC 7).setIfInBounds 30 true) (upd (fc b p r 7) 34 (some (.pointer p))) w)
    (vcHeld_succ (lat1_still (i := 31) rfl (by kernel_rfl) (Eq.mpr (by kernel_rfl : latS Try.prog opsM S (vcHeld Try.prog opsM S K n) ((LC 7).setIfInBounds 30 true) (upd (fc b p r 7) 34 (some (.pointer p))) w 31 = vcHeld Try.prog opsM S K n (LC 8) (fc b p r 8) w) h)))))
theorem mk_0 : latE Try.prog opsM S J L (fr b p r none 0) w 0 = Run Try.prog (Instr.makeMap tyM none) kM w fun m w' => S w' ∧ J (L.setIfInBounds 0 true) (fr b p r (some m) 0) w' := by kernel_rfl
theorem mk_1 : latE Try.prog opsM S J L (fr b p r none 1) w 0 = Run Try.prog (Instr.makeMap tyM none) kM w fun m w' => S w' ∧ J (L.setIfInBounds 0 true) (fr b p r (some m) 1) w' := by kernel_rfl
theorem mk_2 : latE Try.prog opsM S J L (fr b p r none 2) w 0 = Run Try.prog (Instr.makeMap tyM none) kM w fun m w' => S w' ∧ J (L.setIfInBounds 0 true) (fr b p r (some m) 2) w' := by kernel_rfl
theorem mk_3 : latE Try.prog opsM S J L (fr b p r none 3) w 0 = Run Try.prog (Instr.makeMap tyM none) kM w fun m w' => S w' ∧ J (L.setIfInBounds 0 true) (fr b p r (some m) 3) w' := by kernel_rfl
theorem mk_4 : latE Try.prog opsM S J L (fr b p r none 4) w 0 = Run Try.prog (Instr.makeMap tyM none) kM w fun m w' => S w' ∧ J (L.setIfInBounds 0 true) (fr b p r (some m) 4) w' := by kernel_rfl
theorem mk_5 : latE Try.prog opsM S J L (fr b p r none 5) w 0 = Run Try.prog (Instr.makeMap tyM none) kM w fun m w' => S w' ∧ J (L.setIfInBounds 0 true) (fr b p r (some m) 5) w' := by kernel_rfl
theorem mk_6 : latE Try.prog opsM S J L (fr b p r none 6) w 0 = Run Try.prog (Instr.makeMap tyM none) kM w fun m w' => S w' ∧ J (L.setIfInBounds 0 true) (fr b p r (some m) 6) w' := by kernel_rfl
theorem mk_7 : latE Try.prog opsM S J L (fr b p r none 7) w 0 = Run Try.prog (Instr.makeMap tyM none) kM w fun m w' => S w' ∧ J (L.setIfInBounds 0 true) (fr b p r (some m) 7) w' := by kernel_rfl
theorem mk_8 : latE Try.prog opsM S J L (fr b p r none 8) w 0 = Run Try.prog (Instr.makeMap tyM none) kM w fun m w' => S w' ∧ J (L.setIfInBounds 0 true) (fr b p r (some m) 8) w' := by kernel_rfl
theorem cl_0n : latE Try.prog opsM S J L (fr b p r none 0) w 1 = Cl Try.prog [.st [.int .i64]] (fnM 0) ⟨[]⟩ w fun x w' => S w' ∧ J (L.setIfInBounds 1 true) (upd (fr b p r none 0) 12 (some (keM x.1))) w' := by kernel_rfl
theorem cl_0s : latE Try.prog opsM S J L (fr b p r (some m) 0) w 1 = Cl Try.prog [.st [.int .i64]] (fnM 0) ⟨[]⟩ w fun x w' => S w' ∧ J (L.setIfInBounds 1 true) (upd (fr b p r (some m) 0) 12 (some (keM x.1))) w' := by kernel_rfl
theorem cl_1n : latE Try.prog opsM S J L (fr b p r none 1) w 5 = Cl Try.prog [.st [.int .i64]] (fnM 1) ⟨[]⟩ w fun x w' => S w' ∧ J (L.setIfInBounds 5 true) (upd (fr b p r none 1) 15 (some (keM x.1))) w' := by kernel_rfl
theorem cl_1s : latE Try.prog opsM S J L (fr b p r (some m) 1) w 5 = Cl Try.prog [.st [.int .i64]] (fnM 1) ⟨[]⟩ w fun x w' => S w' ∧ J (L.setIfInBounds 5 true) (upd (fr b p r (some m) 1) 15 (some (keM x.1))) w' := by kernel_rfl
theorem cl_2n : latE Try.prog opsM S J L (fr b p r none 2) w 9 = Cl Try.prog [.st [.int .i64]] (fnM 2) ⟨[]⟩ w fun x w' => S w' ∧ J (L.setIfInBounds 9 true) (upd (fr b p r none 2) 18 (some (keM x.1))) w' := by kernel_rfl
theorem cl_2s : latE Try.prog opsM S J L (fr b p r (some m) 2) w 9 = Cl Try.prog [.st [.int .i64]] (fnM 2) ⟨[]⟩ w fun x w' => S w' ∧ J (L.setIfInBounds 9 true) (upd (fr b p r (some m) 2) 18 (some (keM x.1))) w' := by kernel_rfl
theorem cl_3n : latE Try.prog opsM S J L (fr b p r none 3) w 13 = Cl Try.prog [.st [.int .i64]] (fnM 3) ⟨[]⟩ w fun x w' => S w' ∧ J (L.setIfInBounds 13 true) (upd (fr b p r none 3) 21 (some (keM x.1))) w' := by kernel_rfl
theorem cl_3s : latE Try.prog opsM S J L (fr b p r (some m) 3) w 13 = Cl Try.prog [.st [.int .i64]] (fnM 3) ⟨[]⟩ w fun x w' => S w' ∧ J (L.setIfInBounds 13 true) (upd (fr b p r (some m) 3) 21 (some (keM x.1))) w' := by kernel_rfl
theorem cl_4n : latE Try.prog opsM S J L (fr b p r none 4) w 17 = Cl Try.prog [.st [.int .i64]] (fnM 4) ⟨[]⟩ w fun x w' => S w' ∧ J (L.setIfInBounds 17 true) (upd (fr b p r none 4) 24 (some (keM x.1))) w' := by kernel_rfl
theorem cl_4s : latE Try.prog opsM S J L (fr b p r (some m) 4) w 17 = Cl Try.prog [.st [.int .i64]] (fnM 4) ⟨[]⟩ w fun x w' => S w' ∧ J (L.setIfInBounds 17 true) (upd (fr b p r (some m) 4) 24 (some (keM x.1))) w' := by kernel_rfl
theorem cl_5n : latE Try.prog opsM S J L (fr b p r none 5) w 21 = Cl Try.prog [.st [.int .i64]] (fnM 5) ⟨[]⟩ w fun x w' => S w' ∧ J (L.setIfInBounds 21 true) (upd (fr b p r none 5) 27 (some (keM x.1))) w' := by kernel_rfl
theorem cl_5s : latE Try.prog opsM S J L (fr b p r (some m) 5) w 21 = Cl Try.prog [.st [.int .i64]] (fnM 5) ⟨[]⟩ w fun x w' => S w' ∧ J (L.setIfInBounds 21 true) (upd (fr b p r (some m) 5) 27 (some (keM x.1))) w' := by kernel_rfl
theorem cl_6n : latE Try.prog opsM S J L (fr b p r none 6) w 25 = Cl Try.prog [.st [.int .i64]] (fnM 6) ⟨[]⟩ w fun x w' => S w' ∧ J (L.setIfInBounds 25 true) (upd (fr b p r none 6) 30 (some (keM x.1))) w' := by kernel_rfl
theorem cl_6s : latE Try.prog opsM S J L (fr b p r (some m) 6) w 25 = Cl Try.prog [.st [.int .i64]] (fnM 6) ⟨[]⟩ w fun x w' => S w' ∧ J (L.setIfInBounds 25 true) (upd (fr b p r (some m) 6) 30 (some (keM x.1))) w' := by kernel_rfl
theorem cl_7n : latE Try.prog opsM S J L (fr b p r none 7) w 29 = Cl Try.prog [.st [.int .i64]] (fnM 7) ⟨[]⟩ w fun x w' => S w' ∧ J (L.setIfInBounds 29 true) (upd (fr b p r none 7) 33 (some (keM x.1))) w' := by kernel_rfl
theorem cl_7s : latE Try.prog opsM S J L (fr b p r (some m) 7) w 29 = Cl Try.prog [.st [.int .i64]] (fnM 7) ⟨[]⟩ w fun x w' => S w' ∧ J (L.setIfInBounds 29 true) (upd (fr b p r (some m) 7) 33 (some (keM x.1))) w' := by kernel_rfl
theorem in_1_0 : latE Try.prog opsM S J L (fr b p r (some m) 1) w 4 = Run Try.prog (do Instr.mapUpdate tyM (.map m) (keM (1 : Nat)) (fvM p 0); pure undef) kV w fun _ w' => S w' ∧ J (L.setIfInBounds 4 true) (fr b p r (some m) 1) w' := by kernel_rfl
theorem in_2_0 : latE Try.prog opsM S J L (fr b p r (some m) 2) w 4 = Run Try.prog (do Instr.mapUpdate tyM (.map m) (keM (1 : Nat)) (fvM p 0); pure undef) kV w fun _ w' => S w' ∧ J (L.setIfInBounds 4 true) (fr b p r (some m) 2) w' := by kernel_rfl
theorem in_2_1 : latE Try.prog opsM S J L (fr b p r (some m) 2) w 8 = Run Try.prog (do Instr.mapUpdate tyM (.map m) (keM (2 : Nat)) (fvM p 1); pure undef) kV w fun _ w' => S w' ∧ J (L.setIfInBounds 8 true) (fr b p r (some m) 2) w' := by kernel_rfl
theorem in_3_0 : latE Try.prog opsM S J L (fr b p r (some m) 3) w 4 = Run Try.prog (do Instr.mapUpdate tyM (.map m) (keM (1 : Nat)) (fvM p 0); pure undef) kV w fun _ w' => S w' ∧ J (L.setIfInBounds 4 true) (fr b p r (some m) 3) w' := by kernel_rfl
theorem in_3_1 : latE Try.prog opsM S J L (fr b p r (some m) 3) w 8 = Run Try.prog (do Instr.mapUpdate tyM (.map m) (keM (2 : Nat)) (fvM p 1); pure undef) kV w fun _ w' => S w' ∧ J (L.setIfInBounds 8 true) (fr b p r (some m) 3) w' := by kernel_rfl
theorem in_3_2 : latE Try.prog opsM S J L (fr b p r (some m) 3) w 12 = Run Try.prog (do Instr.mapUpdate tyM (.map m) (keM (3 : Nat)) (fvM p 2); pure undef) kV w fun _ w' => S w' ∧ J (L.setIfInBounds 12 true) (fr b p r (some m) 3) w' := by kernel_rfl
theorem in_4_0 : latE Try.prog opsM S J L (fr b p r (some m) 4) w 4 = Run Try.prog (do Instr.mapUpdate tyM (.map m) (keM (1 : Nat)) (fvM p 0); pure undef) kV w fun _ w' => S w' ∧ J (L.setIfInBounds 4 true) (fr b p r (some m) 4) w' := by kernel_rfl
theorem in_4_1 : latE Try.prog opsM S J L (fr b p r (some m) 4) w 8 = Run Try.prog (do Instr.mapUpdate tyM (.map m) (keM (2 : Nat)) (fvM p 1); pure undef) kV w fun _ w' => S w' ∧ J (L.setIfInBounds 8 true) (fr b p r (some m) 4) w' := by kernel_rfl
theorem in_4_2 : latE Try.prog opsM S J L (fr b p r (some m) 4) w 12 = Run Try.prog (do Instr.mapUpdate tyM (.map m) (keM (3 : Nat)) (fvM p 2); pure undef) kV w fun _ w' => S w' ∧ J (L.setIfInBounds 12 true) (fr b p r (some m) 4) w' := by kernel_rfl
theorem in_4_3 : latE Try.prog opsM S J L (fr b p r (some m) 4) w 16 = Run Try.prog (do Instr.mapUpdate tyM (.map m) (keM (4 : Nat)) (fvM p 3); pure undef) kV w fun _ w' => S w' ∧ J (L.setIfInBounds 16 true) (fr b p r (some m) 4) w' := by kernel_rfl
theorem in_5_0 : latE Try.prog opsM S J L (fr b p r (some m) 5) w 4 = Run Try.prog (do Instr.mapUpdate tyM (.map m) (keM (1 : Nat)) (fvM p 0); pure undef) kV w fun _ w' => S w' ∧ J (L.setIfInBounds 4 true) (fr b p r (some m) 5) w' := by kernel_rfl
theorem in_5_1 : latE Try.prog opsM S J L (fr b p r (some m) 5) w 8 = Run Try.prog (do Instr.mapUpdate tyM (.map m) (keM (2 : Nat)) (fvM p 1); pure undef) kV w fun _ w' => S w' ∧ J (L.setIfInBounds 8 true) (fr b p r (some m) 5) w' := by kernel_rfl
theorem in_5_2 : latE Try.prog opsM S J L (fr b p r (some m) 5) w 12 = Run Try.prog (do Instr.mapUpdate tyM (.map m) (keM (3 : Nat)) (fvM p 2); pure undef) kV w fun _ w' => S w' ∧ J (L.setIfInBounds 12 true) (fr b p r (some m) 5) w' := by kernel_rfl
theorem in_5_3 : latE Try.prog opsM S J L (fr b p r (some m) 5) w 16 = Run Try.prog (do Instr.mapUpdate tyM (.map m) (keM (4 : Nat)) (fvM p 3); pure undef) kV w fun _ w' => S w' ∧ J (L.setIfInBounds 16 true) (fr b p r (some m) 5) w' := by kernel_rfl
theorem in_5_4 : latE Try.prog opsM S J L (fr b p r (some m) 5) w 20 = Run Try.prog (do Instr.mapUpdate tyM (.map m) (keM (5 : Nat)) (fvM p 4); pure undef) kV w fun _ w' => S w' ∧ J (L.setIfInBounds 20 true) (fr b p r (some m) 5) w' := by kernel_rfl
theorem in_6_0 : latE Try.prog opsM S J L (fr b p r (some m) 6) w 4 = Run Try.prog (do Instr.mapUpdate tyM (.map m) (keM (1 : Nat)) (fvM p 0); pure undef) kV w fun _ w' => S w' ∧ J (L.setIfInBounds 4 true) (fr b p r (some m) 6) w' := by kernel_rfl
theorem in_6_1 : latE Try.prog opsM S J L (fr b p r (some m) 6) w 8 = Run Try.prog (do Instr.mapUpdate tyM (.map m) (keM (2 : Nat)) (fvM p 1); pure undef) kV w fun _ w' => S w' ∧ J (L.setIfInBounds 8 true) (fr b p r (some m) 6) w' := by kernel_rfl
theorem in_6_2 : latE Try.prog opsM S J L (fr b p r (some m) 6) w 12 = Run Try.prog (do Instr.mapUpdate tyM (.map m) (keM (3 : Nat)) (fvM p 2); pure undef) kV w fun _ w' => S w' ∧ J (L.setIfInBounds 12 true) (fr b p r (some m) 6) w' := by kernel_rfl
theorem in_6_3 : latE Try.prog opsM S J L (fr b p r (some m) 6) w 16 = Run Try.prog (do Instr.mapUpdate tyM (.map m) (keM (4 : Nat)) (fvM p 3); pure undef) kV w fun _ w' => S w' ∧ J (L.setIfInBounds 16 true) (fr b p r (some m) 6) w' := by kernel_rfl
theorem in_6_4 : latE Try.prog opsM S J L (fr b p r (some m) 6) w 20 = Run Try.prog (do Instr.mapUpdate tyM (.map m) (keM (5 : Nat)) (fvM p 4); pure undef) kV w fun _ w' => S w' ∧ J (L.setIfInBounds 20 true) (fr b p r (some m) 6) w' := by kernel_rfl
theorem in_6_5 : latE Try.prog opsM S J L (fr b p r (some m) 6) w 24 = Run Try.prog (do Instr.mapUpdate tyM (.map m) (keM (6 : Nat)) (fvM p 5); pure undef) kV w fun _ w' => S w' ∧ J (L.setIfInBounds 24 true) (fr b p r (some m) 6) w' := by kernel_rfl
theorem in_7_0 : latE Try.prog opsM S J L (fr b p r (some m) 7) w 4 = Run Try.prog (do Instr.mapUpdate tyM (.map m) (keM (1 : Nat)) (fvM p 0); pure undef) kV w fun _ w' => S w' ∧ J (L.setIfInBounds 4 true) (fr b p r (some m) 7) w' := by kernel_rfl
theorem in_7_1 : latE Try.prog opsM S J L (fr b p r (some m) 7) w 8 = Run Try.prog (do Instr.mapUpdate tyM (.map m) (keM (2 : Nat)) (fvM p 1); pure undef) kV w fun _ w' => S w' ∧ J (L.setIfInBounds 8 true) (fr b p r (some m) 7) w' := by kernel_rfl
theorem in_7_2 : latE Try.prog opsM S J L (fr b p r (some m) 7) w 12 = Run Try.prog (do Instr.mapUpdate tyM (.map m) (keM (3 : Nat)) (fvM p 2); pure undef) kV w fun _ w' => S w' ∧ J (L.setIfInBounds 12 true) (fr b p r (some m) 7) w' := by kernel_rfl
theorem in_7_3 : latE Try.prog opsM S J L (fr b p r (some m) 7) w 16 = Run Try.prog (do Instr.mapUpdate tyM (.map m) (keM (4 : Nat)) (fvM p 3); pure undef) kV w fun _ w' => S w' ∧ J (L.setIfInBounds 16 true) (fr b p r (some m) 7) w' := by kernel_rfl
theorem in_7_4 : latE Try.prog opsM S J L (fr b p r (some m) 7) w 20 = Run Try.prog (do Instr.mapUpdate tyM (.map m) (keM (5 : Nat)) (fvM p 4); pure undef) kV w fun _ w' => S w' ∧ J (L.setIfInBounds 20 true) (fr b p r (some m) 7) w' := by kernel_rfl
theorem in_7_5 : latE Try.prog opsM S J L (fr b p r (some m) 7) w 24 = Run Try.prog (do Instr.mapUpdate tyM (.map m) (keM (6 : Nat)) (fvM p 5); pure undef) kV w fun _ w' => S w' ∧ J (L.setIfInBounds 24 true) (fr b p r (some m) 7) w' := by kernel_rfl
theorem in_7_6 : latE Try.prog opsM S J L (fr b p r (some m) 7) w 28 = Run Try.prog (do Instr.mapUpdate tyM (.map m) (keM (7 : Nat)) (fvM p 6); pure undef) kV w fun _ w' => S w' ∧ J (L.setIfInBounds 28 true) (fr b p r (some m) 7) w' := by kernel_rfl
theorem in_8_0 : latE Try.prog opsM S J L (fr b p r (some m) 8) w 4 = Run Try.prog (do Instr.mapUpdate tyM (.map m) (keM (1 : Nat)) (fvM p 0); pure undef) kV w fun _ w' => S w' ∧ J (L.setIfInBounds 4 true) (fr b p r (some m) 8) w' := by kernel_rfl
theorem in_8_1 : latE Try.prog opsM S J L (fr b p r (some m) 8) w 8 = Run Try.prog (do Instr.mapUpdate tyM (.map m) (keM (2 : Nat)) (fvM p 1); pure undef) kV w fun _ w' => S w' ∧ J (L.setIfInBounds 8 true) (fr b p r (some m) 8) w' := by kernel_rfl
theorem in_8_2 : latE Try.prog opsM S J L (fr b p r (some m) 8) w 12 = Run Try.prog (do Instr.mapUpdate tyM (.map m) (keM (3 : Nat)) (fvM p 2); pure undef) kV w fun _ w' => S w' ∧ J (L.setIfInBounds 12 true) (fr b p r (some m) 8) w' := by kernel_rfl
theorem in_8_3 : latE Try.prog opsM S J L (fr b p r (some m) 8) w 16 = Run Try.prog (do Instr.mapUpdate tyM (.map m) (keM (4 : Nat)) (fvM p 3); pure undef) kV w fun _ w' => S w' ∧ J (L.setIfInBounds 16 true) (fr b p r (some m) 8) w' := by kernel_rfl
theorem in_8_4 : latE Try.prog opsM S J L (fr b p r (some m) 8) w 20 = Run Try.prog (do Instr.mapUpdate tyM (.map m) (keM (5 : Nat)) (fvM p 4); pure undef) kV w fun _ w' => S w' ∧ J (L.setIfInBounds 20 true) (fr b p r (some m) 8) w' := by kernel_rfl
theorem in_8_5 : latE Try.prog opsM S J L (fr b p r (some m) 8) w 24 = Run Try.prog (do Instr.mapUpdate tyM (.map m) (keM (6 : Nat)) (fvM p 5); pure undef) kV w fun _ w' => S w' ∧ J (L.setIfInBounds 24 true) (fr b p r (some m) 8) w' := by kernel_rfl
theorem in_8_6 : latE Try.prog opsM S J L (fr b p r (some m) 8) w 28 = Run Try.prog (do Instr.mapUpdate tyM (.map m) (keM (7 : Nat)) (fvM p 6); pure undef) kV w fun _ w' => S w' ∧ J (L.setIfInBounds 28 true) (fr b p r (some m) 8) w' := by kernel_rfl
theorem in_8_7 : latE Try.prog opsM S J L (fr b p r (some m) 8) w 32 = Run Try.prog (do Instr.mapUpdate tyM (.map m) (keM (8 : Nat)) (fvM p 7); pure undef) kV w fun _ w' => S w' ∧ J (L.setIfInBounds 32 true) (fr b p r (some m) 8) w' := by kernel_rfl
theorem mk_all {i : Nat} (hi : i ≤ 8) : latE Try.prog opsM S J L (fr b p r none i) w 0 = Run Try.prog (Instr.makeMap tyM none) kM w fun m w' => S w' ∧ J (L.setIfInBounds 0 true) (fr b p r (some m) i) w' :=
  match i, hi with
  | 0, _ => mk_0
  | 1, _ => mk_1
  | 2, _ => mk_2
  | 3, _ => mk_3
  | 4, _ => mk_4
  | 5, _ => mk_5
  | 6, _ => mk_6
  | 7, _ => mk_7
  | 8, _ => mk_8
  | i + 9, h => by omega
theorem cl_n {i : Nat} (hi : i < 8) : latE Try.prog opsM S J L (fr b p r none i) w (1 + 4 * i) = Cl Try.prog [.st [.int .i64]] (fnM i) ⟨[]⟩ w fun x w' => S w' ∧ J (L.setIfInBounds (1 + 4 * i) true) (upd (fr b p r none i) (12 + 3 * i) (some (keM x.1))) w' :=
  match i, hi with
  | 0, _ => cl_0n
  | 1, _ => cl_1n
  | 2, _ => cl_2n
  | 3, _ => cl_3n
  | 4, _ => cl_4n
  | 5, _ => cl_5n
  | 6, _ => cl_6n
  | 7, _ => cl_7n
  | i + 8, h => by omega
theorem cl_s {i : Nat} (hi : i < 8) : latE Try.prog opsM S J L (fr b p r (some m) i) w (1 + 4 * i) = Cl Try.prog [.st [.int .i64]] (fnM i) ⟨[]⟩ w fun x w' => S w' ∧ J (L.setIfInBounds (1 + 4 * i) true) (upd (fr b p r (some m) i) (12 + 3 * i) (some (keM x.1))) w' :=
  match i, hi with
  | 0, _ => cl_0s
  | 1, _ => cl_1s
  | 2, _ => cl_2s
  | 3, _ => cl_3s
  | 4, _ => cl_4s
  | 5, _ => cl_5s
  | 6, _ => cl_6s
  | 7, _ => cl_7s
  | i + 8, h => by omega
theorem in_all {i j : Nat} (hi : i ≤ 8) (hj : j < i) : latE Try.prog opsM S J L (fr b p r (some m) i) w (4 + 4 * j) = Run Try.prog (do Instr.mapUpdate tyM (.map m) (keM ((j + 1 : Nat) : Int)) (fvM p j); pure undef) kV w fun _ w' => S w' ∧ J (L.setIfInBounds (4 + 4 * j) true) (fr b p r (some m) i) w' :=
  match i, j, hi, hj with
  | 1, 0, _, _ => in_1_0
  | 2, 0, _, _ => in_2_0
  | 2, 1, _, _ => in_2_1
  | 3, 0, _, _ => in_3_0
  | 3, 1, _, _ => in_3_1
  | 3, 2, _, _ => in_3_2
  | 4, 0, _, _ => in_4_0
  | 4, 1, _, _ => in_4_1
  | 4, 2, _, _ => in_4_2
  | 4, 3, _, _ => in_4_3
  | 5, 0, _, _ => in_5_0
  | 5, 1, _, _ => in_5_1
  | 5, 2, _, _ => in_5_2
  | 5, 3, _, _ => in_5_3
  | 5, 4, _, _ => in_5_4
  | 6, 0, _, _ => in_6_0
  | 6, 1, _, _ => in_6_1
  | 6, 2, _, _ => in_6_2
  | 6, 3, _, _ => in_6_3
  | 6, 4, _, _ => in_6_4
  | 6, 5, _, _ => in_6_5
  | 7, 0, _, _ => in_7_0
  | 7, 1, _, _ => in_7_1
  | 7, 2, _, _ => in_7_2
  | 7, 3, _, _ => in_7_3
  | 7, 4, _, _ => in_7_4
  | 7, 5, _, _ => in_7_5
  | 7, 6, _, _ => in_7_6
  | 8, 0, _, _ => in_8_0
  | 8, 1, _, _ => in_8_1
  | 8, 2, _, _ => in_8_2
  | 8, 3, _, _ => in_8_3
  | 8, 4, _, _ => in_8_4
  | 8, 5, _, _ => in_8_5
  | 8, 6, _, _ => in_8_6
  | 8, 7, _, _ => in_8_7
  | 0, _, _, h => by omega
  | 1, j + 1, _, h => by omega
  | 2, j + 2, _, h => by omega
  | 3, j + 3, _, h => by omega
  | 4, j + 4, _, h => by omega
  | 5, j + 5, _, h => by omega
  | 6, j + 6, _, h => by omega
  | 7, j + 7, _, h => by omega
  | 8, j + 8, _, h => by omega
  | i + 9, _, h, _ => by omega
theorem fin_M (h : K (upd (upd (fr b p r (some m) 8) 36 (some (.map m))) 5 (some (.map m))) w) : vcHeld Try.prog opsM S K (n + 2) (LM true 8 255) (fr b p r (some m) 8) w :=
  vcHeld_succ (lat1_still (i := 33) rfl (by kernel_rfl) (Eq.mpr (by kernel_rfl : latS Try.prog opsM S (vcHeld Try.prog opsM S K (n + 1)) (LM true 8 255) (fr b p r (some m) 8) w 33 = vcHeld Try.prog opsM S K (n + 1) ((LM true 8 255).setIfInBounds 33 true) (upd (fr b p r (some m) 8) 36 (some (.map m))) w)
    (vcHeld_succ (lat1_still (i := 34) rfl (by kernel_rfl) (Eq.mpr (by kernel_rfl : latS Try.prog opsM S (vcHeld Try.prog opsM S K n) ((LM true 8 255).setIfInBounds 33 true) (upd (fr b p r (some m) 8) 36 (some (.map m))) w 34 = vcHeld Try.prog opsM S K n (((LM true 8 255).setIfInBounds 33 true).setIfInBounds 34 true) (upd (upd (fr b p r (some m) 8) 36 (some (.map m))) 5 (some (.map m))) w)
      (by
        cases n with
        | zero => exact Eq.mpr (by kernel_rfl : onB (Region.ready .any opsM (((LM true 8 255).setIfInBounds 33 true).setIfInBounds 34 true)).isEmpty (K (upd (upd (fr b p r (some m) 8) 36 (some (.map m))) 5 (some (.map m))) w) = K (upd (upd (fr b p r (some m) 8) 36 (some (.map m))) 5 (some (.map m))) w) h
        | succ n =>
          unfold vcHeld
          rw [(by kernel_rfl : Region.ready .any opsM (((LM true 8 255).setIfInBounds 33 true).setIfInBounds 34 true) = [])]
          exact h))))))
end

/-- behind the map -/
def StepE2 (b4 : Nat) (m_ : Option Nat) (p1 r2 : Option Addr) (R : (TT [.int .u8, .int .i64, .int .i64, .int .i64, .int .u32, .sl, .int .i64]) → World → Prop) (w_7 : World) : Prop :=
 ∃ (I_8 : World → Prop) (m_9 : World → Nat), I_8  w_7 ∧
 ∀ (w_10 : World), I_8  w_10 →
 Held w_10 fun (S11 : World → Prop) (w_12 : World) =>
 IfB (Option.isNone (r2 : Option Addr))
 (NilCk p1 fun (p13 : Addr) =>
 LdS (.st [.int .i64]) (p13.add 0) S11 fun (part14 : (TT [.int .i64])) =>
 Cl Try.prog [(.st [.int .i64])] n_parser_over ⟨[]⟩ w_12 fun (r16 : (TT [.int .i64])) (w_15 : World) =>
 S11 w_15 ∧
 IfB (!((part14.1 : Int) == (r16.1 : Int)))
 (NilCk p1 fun (p17 : Addr) =>
 LdS (.st [.int .i64]) (p17.add 0) S11 fun (part18 : (TT [.int .i64])) =>
 Cl Try.prog [(.st [.int .i64])] n_parser_bad ⟨[]⟩ w_15 fun (r20 : (TT [.int .i64])) (w_19 : World) =>
 S11 w_19 ∧
 IfB (!((part18.1 : Int) == (r20.1 : Int)))
 (StC (⟨b4, 0, none⟩ : Addr) [(.int .u8 1), (.int .i64 0), (.int .i64 0), (.int .i64 0), (.int .u32 0), (.slice none 0 0), (.int .i64 0)] 0 w_19 fun (w_21 : World) =>
 Ld (.st [.int .u8, .int .i64, .int .i64, .int .i64, .int .u32, .sl, .int .i64]) (⟨b4, 0, none⟩ : Addr) w_21 fun (res22 : (TT [.int .u8, .int .i64, .int .i64, .int .i64, .int .u32, .sl, .int .i64])) =>
 R (res22) w_21)
 (NilCk p1 fun (p23 : Addr) =>
 Ld (.st [.int .i64]) (p23.add 0) w_19 fun (part24 : (TT [.int .i64])) =>
 Run Try.prog (Instr.lookup 71 (.map m_) (.agg ⟨[(.int .i64 part24.1)]⟩) false) kV w_19 fun (e26 : Value) (w_25 : World) =>
 ClX Try.prog e26 [(.st [.int .u8, .int .i64, .int .i64, .int .i64, .int .u32, .sl, .int .i64]), kB] [(.pointer r2)] w_25 fun (r28 : (TT [.int .u8, .int .i64, .int .i64, .int .i64, .int .u32, .sl, .int .i64])) (r29 : Bool) (w_27 : World) =>
 Nw 38 ⟨[(.int .u8 0), (.int .i64 0), (.int .i64 0), (.int .i64 0), (.int .u32 0), (.slice none 0 0), (.int .i64 0)]⟩ w_27 fun (b31 : Nat) (w_30 : World) =>
 StC (⟨b31, 0, none⟩ : Addr) [(.int .u8 r28.1), (.int .i64 r28.2.1), (.int .i64 r28.2.2.1), (.int .i64 r28.2.2.2.1), (.int .u32 r28.2.2.2.2.1), (.slice r28.2.2.2.2.2.1.base r28.2.2.2.2.2.1.len r28.2.2.2.2.2.1.cap), (.int .i64 r28.2.2.2.2.2.2.1)] 0 w_30 fun (w_32 : World) =>
 IfB r29
 (Ld (.st [.int .u8, .int .i64, .int .i64, .int .i64, .int .u32, .sl, .int .i64]) (⟨b31, 0, none⟩ : Addr) w_32 fun (x33 : (TT [.int .u8, .int .i64, .int .i64, .int .i64, .int .u32, .sl, .int .i64])) =>
 StC (⟨b4, 0, none⟩ : Addr) [(.int .u8 x33.1), (.int .i64 x33.2.1), (.int .i64 x33.2.2.1), (.int .i64 x33.2.2.2.1), (.int .u32 x33.2.2.2.2.1), (.slice x33.2.2.2.2.2.1.base x33.2.2.2.2.2.1.len x33.2.2.2.2.2.1.cap), (.int .i64 x33.2.2.2.2.2.2.1)] 0 w_32 fun (w_34 : World) =>
 Ld (.st [.int .u8, .int .i64, .int .i64, .int .i64, .int .u32, .sl, .int .i64]) (⟨b4, 0, none⟩ : Addr) w_34 fun (res35 : (TT [.int .u8, .int .i64, .int .i64, .int .i64, .int .u32, .sl, .int .i64])) =>
 R (res35) w_34)
 (I_8  w_32 ∧ m_9  w_32 < m_9  w_10)))
 (NilCk p1 fun (p36 : Addr) =>
 Ld (.st [.int .i64]) (p36.add 0) w_15 fun (part37 : (TT [.int .i64])) =>
 Run Try.prog (Instr.lookup 71 (.map m_) (.agg ⟨[(.int .i64 part37.1)]⟩) false) kV w_15 fun (e39 : Value) (w_38 : World) =>
 ClX Try.prog e39 [(.st [.int .u8, .int .i64, .int .i64, .int .i64, .int .u32, .sl, .int .i64]), kB] [(.pointer r2)] w_38 fun (r41 : (TT [.int .u8, .int .i64, .int .i64, .int .i64, .int .u32, .sl, .int .i64])) (r42 : Bool) (w_40 : World) =>
 Nw 38 ⟨[(.int .u8 0), (.int .i64 0), (.int .i64 0), (.int .i64 0), (.int .u32 0), (.slice none 0 0), (.int .i64 0)]⟩ w_40 fun (b44 : Nat) (w_43 : World) =>
 StC (⟨b44, 0, none⟩ : Addr) [(.int .u8 r41.1), (.int .i64 r41.2.1), (.int .i64 r41.2.2.1), (.int .i64 r41.2.2.2.1), (.int .u32 r41.2.2.2.2.1), (.slice r41.2.2.2.2.2.1.base r41.2.2.2.2.2.1.len r41.2.2.2.2.2.1.cap), (.int .i64 r41.2.2.2.2.2.2.1)] 0 w_43 fun (w_45 : World) =>
 IfB r42
 (Ld (.st [.int .u8, .int .i64, .int .i64, .int .i64, .int .u32, .sl, .int .i64]) (⟨b44, 0, none⟩ : Addr) w_45 fun (x46 : (TT [.int .u8, .int .i64, .int .i64, .int .i64, .int .u32, .sl, .int .i64])) =>
 StC (⟨b4, 0, none⟩ : Addr) [(.int .u8 x46.1), (.int .i64 x46.2.1), (.int .i64 x46.2.2.1), (.int .i64 x46.2.2.2.1), (.int .u32 x46.2.2.2.2.1), (.slice x46.2.2.2.2.2.1.base x46.2.2.2.2.2.1.len x46.2.2.2.2.2.1.cap), (.int .i64 x46.2.2.2.2.2.2.1)] 0 w_45 fun (w_47 : World) =>
 Ld (.st [.int .u8, .int .i64, .int .i64, .int .i64, .int .u32, .sl, .int .i64]) (⟨b4, 0, none⟩ : Addr) w_47 fun (res48 : (TT [.int .u8, .int .i64, .int .i64, .int .i64, .int .u32, .sl, .int .i64])) =>
 R (res48) w_47)
 (I_8  w_45 ∧ m_9  w_45 < m_9  w_10)))
 (NilCk p1 fun (p49 : Addr) =>
 Ld (.st [.int .i64]) (p49.add 0) w_12 fun (part50 : (TT [.int .i64])) =>
 Run Try.prog (Instr.lookup 71 (.map m_) (.agg ⟨[(.int .i64 part50.1)]⟩) false) kV w_12 fun (e52 : Value) (w_51 : World) =>
 ClX Try.prog e52 [(.st [.int .u8, .int .i64, .int .i64, .int .i64, .int .u32, .sl, .int .i64]), kB] [(.pointer r2)] w_51 fun (r54 : (TT [.int .u8, .int .i64, .int .i64, .int .i64, .int .u32, .sl, .int .i64])) (r55 : Bool) (w_53 : World) =>
 Nw 38 ⟨[(.int .u8 0), (.int .i64 0), (.int .i64 0), (.int .i64 0), (.int .u32 0), (.slice none 0 0), (.int .i64 0)]⟩ w_53 fun (b57 : Nat) (w_56 : World) =>
 StC (⟨b57, 0, none⟩ : Addr) [(.int .u8 r54.1), (.int .i64 r54.2.1), (.int .i64 r54.2.2.1), (.int .i64 r54.2.2.2.1), (.int .u32 r54.2.2.2.2.1), (.slice r54.2.2.2.2.2.1.base r54.2.2.2.2.2.1.len r54.2.2.2.2.2.1.cap), (.int .i64 r54.2.2.2.2.2.2.1)] 0 w_56 fun (w_58 : World) =>
 IfB r55
 (Ld (.st [.int .u8, .int .i64, .int .i64, .int .i64, .int .u32, .sl, .int .i64]) (⟨b57, 0, none⟩ : Addr) w_58 fun (x59 : (TT [.int .u8, .int .i64, .int .i64, .int .i64, .int .u32, .sl, .int .i64])) =>
 StC (⟨b4, 0, none⟩ : Addr) [(.int .u8 x59.1), (.int .i64 x59.2.1), (.int .i64 x59.2.2.1), (.int .i64 x59.2.2.2.1), (.int .u32 x59.2.2.2.2.1), (.slice x59.2.2.2.2.2.1.base x59.2.2.2.2.2.1.len x59.2.2.2.2.2.1.cap), (.int .i64 x59.2.2.2.2.2.2.1)] 0 w_58 fun (w_60 : World) =>
 Ld (.st [.int .u8, .int .i64, .int .i64, .int .i64, .int .u32, .sl, .int .i64]) (⟨b4, 0, none⟩ : Addr) w_60 fun (res61 : (TT [.int .u8, .int .i64, .int .i64, .int .i64, .int .u32, .sl, .int .i64])) =>
 R (res61) w_60)
 (I_8  w_58 ∧ m_9  w_58 < m_9  w_10))
noncomputable def KKS (R : (TT [.int .u8, .int .i64, .int .i64, .int .i64, .int .u32, .sl, .int .i64]) → World → Prop) : AF → World → Prop := fun f w => vc Try.prog 69 (codeAt bodyS [true, true, true]) (.b (.l [] (.b (.s (.s .o (.c (.s .o .o) .o)) (.s .o (.s .o (.c (.s .o .o) .o))))))) (retQ Try.prog [.cell 4 38] [(.st [.int .u8, .int .i64, .int .i64, .int .i64, .int .u32, .sl, .int .i64])] R) f w
theorem KKS_eq {b : Nat} {m : Option Nat} {p r : Option Addr} {R : (TT [.int .u8, .int .i64, .int .i64, .int .i64, .int .u32, .sl, .int .i64]) → World → Prop} {w : World} : KKS R (upd (upd (fr b p r (some m) 8) 36 (some (.map m))) 5 (some (.map m))) w = StepE2 b m p r R w := by kernel_rfl
theorem step_ok (p1 r2 : Option Addr) (R : (TT [.int .u8, .int .i64, .int .i64, .int .i64, .int .u32, .sl, .int .i64]) → World → Prop) (w : World) (h :
 Nw 38 ⟨[(.int .u8 0), (.int .i64 0), (.int .i64 0), (.int .i64 0), (.int .u32 0), (.slice none 0 0), (.int .i64 0)]⟩ w fun (b4 : Nat) (w_3 : World) =>
 IfB (Option.isNone (p1 : Option Addr))
 (StC (⟨b4, 0, none⟩ : Addr) [(.int .u8 0), (.int .i64 0), (.int .i64 0), (.int .i64 0), (.int .u32 0), (.slice none 0 0), (.int .i64 0)] 0 w_3 fun (w_5 : World) =>
 Ld (.st [.int .u8, .int .i64, .int .i64, .int .i64, .int .u32, .sl, .int .i64]) (⟨b4, 0, none⟩ : Addr) w_5 fun (res6 : (TT [.int .u8, .int .i64, .int .i64, .int .i64, .int .u32, .sl, .int .i64])) =>
 R (res6) w_5)
 (Held w_3 fun S w_7 => vcHeld Try.prog opsM S (KKS R) 35 (LC 0) (fc b4 p1 r2 0) w_7)) : Cl Try.prog [(.st [.int .u8, .int .i64, .int .i64, .int .i64, .int .u32, .sl, .int .i64])] n_parser_Parser_Step ⟨[.pointer p1, .pointer r2]⟩ w R :=
  calls_of_eq Try.mix Try.f17 [.pointer p1, .pointer r2] [(.st [.int .u8, .int .i64, .int .i64, .int .i64, .int .u32, .sl, .int .i64])] R 69 [.cell 4 38] (by kernel_rfl) (by kernel_rfl) (by kernel_rfl) (by kernel_rfl) (by kernel_rfl)
    (.s .o (.s (.s .o (.c (.s .o .o) .o)) (.s .o (.b (.l [] (.b (.s (.s .o (.c (.s .o .o) .o)) (.s .o (.s .o (.c (.s .o .o) .o))))))))))
    (by kernel_rfl) h
end Go.Proofs.Ytjnjjibmlalpiaa
