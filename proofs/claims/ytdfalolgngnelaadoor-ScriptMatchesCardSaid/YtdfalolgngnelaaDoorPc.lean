/-
  Texts packed together by program: More, Str, Held, Auto, Ss, Rk, ScrP, ScrQ, ScA, ScB, ScD, ScE, ScF, ScG, Slib, ScH, AT, Fref07, Ints07, ScI, SmA, Iter, Iter2. Conditions: as each theorem states.
-/
import Derived.Laws.AppendOwn
import Derived.Laws.BytesArg
import Derived.Laws.IdiomStrings
import Derived.Lib.BytesEntry
import Derived.Test.YtdfalolgngnelaaDoorPb
set_option linter.unusedSimpArgs false
set_option linter.unusedVariables false
/- More -/
namespace Go.Vc
open Go
section
variable {E w w' : World} {F G : List HP} {sz : Nat} {s : Sl} {xs ys : List Value}
theorem Hp.dropL {l : List HP} (h : Hp E w (l ++ F)) : Hp E w F := by
  induction l with
  | nil => exact h
  | cons A l ih => exact ih h.drop
theorem Tells.app {φ : World → Prop} (l : List HP) (ht : Tells F φ) : Tells (l ++ F) φ := by
  induction l with
  | nil => exact ht
  | cons A l ih => exact ih.cons
theorem Tells.appL {φ : World → Prop} (ht : Tells G φ) : Tells (G ++ F) φ := (ht.app F).perm List.perm_append_comm
/-- a world that holds F, whatever else -/
def HasF (E : World) (F : List HP) (w : World) : Prop := ∃ l, Hp E w (l ++ F)
theorem HasF.mk (h : Hp E w F) : HasF E F w := ⟨[], h⟩
theorem HasF.mk1 {A : HP} (h : Hp E w (A :: F)) : HasF E F w := ⟨[A], h⟩
theorem HasF.mk2 {A B : HP} (h : Hp E w (A :: B :: F)) : HasF E F w := ⟨[A, B], h⟩
theorem HasF.mk3 {A B C : HP} (h : Hp E w (A :: B :: C :: F)) : HasF E F w := ⟨[A, B, C], h⟩
theorem HasF.tells {φ : World → Prop} (h : HasF E F w) (ht : Tells F φ) : φ w := by
  obtain ⟨l, h⟩ := h
  exact h.tells (ht.app l)
theorem Tells.blkCell {b i : Nat} {c : Array Value} {t : TypeId} {fr : Nat × Nat} {v : Value} (h : c[i]? = some v) : Tells (Blk b (.cells c t fr) :: F) (fun w => w.cell? ⟨b, i, none⟩ = some v) := by
  rintro w f a ⟨g, k, hd, rfl, rfl, h2⟩
  have : w.heap[b]? = some (.cells c t fr) := a b _ (by simp [Frag.add, Frag.one])
  simp only [World.cell?, this]
  exact h
/-- a part of a slice -/
theorem Slc.rdn {lo hi mx : Int} {K : Sl → Prop} (hl : xs.length = s.len * sz) (h0 : 0 ≤ lo) (h1 : lo ≤ hi) (h2 : hi ≤ (s.len : Int)) (h3 : hi ≤ mx) (h4 : mx ≤ (s.cap : Int))
    (h : ∀ s' : Sl, (∀ w', SlT sz s xs w' → SlT sz s' ((xs.drop (lo.toNat * sz)).take ((hi.toNat - lo.toNat) * sz)) w') → s'.len = hi.toNat - lo.toNat → s'.len ≤ s'.cap → K s') : Slc s lo hi mx sz K := by
  refine ⟨h0, h1, h3, h4, h _ (fun w' hs' => ?_) rfl (by simp only; omega)⟩
  have hm : hi.toNat * sz ≤ s.len * sz := Nat.mul_le_mul_right _ (by omega)
  have hsub : (hi.toNat - lo.toNat) * sz = hi.toNat * sz - lo.toNat * sz := Nat.sub_mul ..
  have hmono : lo.toNat * sz ≤ hi.toNat * sz := Nat.mul_le_mul_right _ (by omega)
  have hlen : ((xs.drop (lo.toNat * sz)).take ((hi.toNat - lo.toNat) * sz)).length = (hi.toNat - lo.toNat) * sz := by
    rw [List.length_take, List.length_drop]; omega
  refine ⟨hlen, fun i hi' => ?_⟩
  rw [hlen] at hi'
  obtain ⟨p, hp, hcell⟩ := hs'.2 (lo.toNat * sz + i) (by omega)
  have hne : mx.toNat ≠ lo.toNat := by
    intro e
    have : hi.toNat - lo.toNat = 0 := by omega
    rw [this] at hi'; omega
  refine ⟨p.add (lo.toNat * sz), by simp [hne, hp], ?_⟩
  have : (p.add (lo.toNat * sz)).add i = p.add (lo.toNat * sz + i) := by
    unfold Addr.add
    by_cases e1 : lo.toNat * sz = 0 <;> by_cases e2 : i = 0 <;> simp [e1, e2, Nat.add_assoc]
  rw [this, hcell]
  simp
theorem LdS.sc {S : World → Prop} {s : Sc} {p : Addr} {K : s.T → Prop} (x : s.T) (hc : ∀ w, S w → w.cell? p = some (s.enc x)) (h : K x) : LdS (.sc s) p S K := ⟨x, hc, h⟩
/-- a block as a slice -/
theorem Slc.whole {b n : Nat} {hi mx : Int} {K : Sl → Prop} (hn : 0 < n) (h1 : hi = (n : Int)) (h2 : mx = (n : Int)) (h : K ⟨some ⟨b, 0, none⟩, n, n⟩) : Slc ⟨some ⟨b, 0, none⟩, n, n⟩ 0 hi mx 1 K := by
  subst h1; subst h2
  refine ⟨by omega, by omega, by omega, by simp, ?_⟩
  have e : (if ((n : Int)).toNat = (0 : Int).toNat then (some ⟨b, 0, none⟩ : Option Addr) else (some ⟨b, 0, none⟩ : Option Addr).map (·.add ((0 : Int).toNat * 1))) = some ⟨b, 0, none⟩ := by
    rw [if_neg (by simp; omega)]; simp [Addr.add]
  rw [e]
  simpa using h
end
section
variable {α : Type} {g : α → List Value} {sz : Nat} {l : List α}
theorem fm_len (hg : ∀ x, (g x).length = sz) (l : List α) : (l.flatMap g).length = l.length * sz := by
  induction l with
  | nil => simp
  | cons x l ih => rw [List.flatMap_cons, List.length_append, ih, hg, List.length_cons, Nat.succ_mul]; omega
theorem fm_drop (hg : ∀ x, (g x).length = sz) : ∀ (l : List α) (n : Nat), (l.flatMap g).drop (n * sz) = (l.drop n).flatMap g
  | l, 0 => by simp
  | [], n + 1 => by simp
  | x :: l, n + 1 => by
    rw [List.drop_succ_cons, List.flatMap_cons, Nat.succ_mul, Nat.add_comm, ← List.drop_drop, ← hg x, List.drop_left, hg x]
    exact fm_drop hg l n
theorem fm_take (hg : ∀ x, (g x).length = sz) : ∀ (l : List α) (n : Nat), (l.flatMap g).take (n * sz) = (l.take n).flatMap g
  | l, 0 => by simp
  | [], n + 1 => by simp
  | x :: l, n + 1 => by
    rw [List.take_succ_cons, List.flatMap_cons, List.flatMap_cons, Nat.succ_mul, Nat.add_comm, List.take_append, hg x, List.take_of_length_le (by rw [hg x]; omega), show sz + n * sz - sz = n * sz by omega, fm_take hg l n]
theorem fm_get (hg : ∀ x, (g x).length = sz) : ∀ (l : List α) (i j : Nat) (hi : i < l.length), j < sz → (l.flatMap g)[i * sz + j]? = (g l[i])[j]?
  | x :: l, 0, j, _, hj => by rw [List.flatMap_cons, List.getElem?_append_left (by rw [hg]; omega), Nat.zero_mul, Nat.zero_add]; rfl
  | x :: l, i + 1, j, hi, hj => by
    rw [List.flatMap_cons, List.getElem?_append_right (by rw [hg, Nat.succ_mul]; omega), hg, show (i + 1) * sz + j - sz = i * sz + j by rw [Nat.succ_mul]; omega, fm_get hg l i j (by simpa using hi) hj]
    rfl
end
section
variable {E w w' : World} {F G : List HP} {sz : Nat} {s : Sl} {α : Type} {g : α → List Value} {l : List α}
/-- an element is read -/
theorem Idx.el {i : Int} {n : Nat} {K : Addr → Prop} (hg : ∀ x, (g x).length = sz) (hz : 0 < sz) (hs : SlT sz s (l.flatMap g) w) (hn : i = (n : Int)) (hi : n < l.length) (h : ∀ p, (∀ j, j < sz → w.cell? (p.add j) = (g l[n])[j]?) → K p) : Idx s i sz K := by
  subst hn
  have hl := hs.1
  rw [fm_len hg] at hl
  have hle : l.length = s.len := Nat.eq_of_mul_eq_mul_right hz hl
  refine Idx.rdn hs hz (by omega) (by omega) fun p hp => h p fun j hj => ?_
  have e := fm_get hg l n j hi hj
  have hlt : n * sz + j < (l.flatMap g).length := by
    rw [fm_len hg]
    have : (n + 1) * sz ≤ l.length * sz := Nat.mul_le_mul_right _ hi
    rw [Nat.succ_mul] at this; omega
  rw [hp j (by rw [Int.toNat_natCast]; exact hlt) hj]
  simp only [Int.toNat_natCast]
  rw [← e, List.getElem?_eq_getElem hlt]
theorem Idx.elT {i : Int} {n : Nat} {K : Addr → Prop} (hg : ∀ x, (g x).length = sz) (hz : 0 < sz) (hh : Hp E w F) (hs : Tells F (SlT sz s (l.flatMap g))) (hn : i = (n : Int)) (hi : n < l.length) (h : ∀ p, (∀ j, j < sz → Tells F (fun w => w.cell? (p.add j) = (g l[n])[j]?)) → K p) : Idx s i sz K := by
  subst hn
  have hl := (hh.tells hs).1
  rw [fm_len hg] at hl
  have hle : l.length = s.len := Nat.eq_of_mul_eq_mul_right hz hl
  refine Idx.rdT hh hs hz (by omega) (by omega) fun p hp => h p fun j hj => (hp j hj).imp fun w hw => ?_
  rw [hw, Int.toNat_natCast, fm_get hg l n j hi hj]
theorem SlT.len (hg : ∀ x, (g x).length = sz) (hz : 0 < sz) (hs : SlT sz s (l.flatMap g) w) : s.len = l.length := by
  have hl := hs.1
  rw [fm_len hg] at hl
  exact (Nat.eq_of_mul_eq_mul_right hz hl).symm
/-- a part of a slice of elements -/
theorem Slc.el {lo hi mx : Int} {a b : Nat} {K : Sl → Prop} (hg : ∀ x, (g x).length = sz) (hl : s.len = l.length) (ha : lo = (a : Int)) (hb : hi = (b : Int)) (h1 : a ≤ b) (h2 : b ≤ l.length) (h3 : hi ≤ mx) (h4 : mx ≤ (s.cap : Int))
    (h : ∀ s' : Sl, (∀ w', SlT sz s (l.flatMap g) w' → SlT sz s' (((l.drop a).take (b - a)).flatMap g) w') → s'.len = b - a → s'.len ≤ s'.cap → K s') : Slc s lo hi mx sz K := by
  subst ha; subst hb
  refine Slc.rdn (xs := l.flatMap g) (by rw [fm_len hg, hl]) (by omega) (by omega) (by omega) h3 h4 fun s' hs' hl' hc' => h s' (fun w' hw' => ?_) (by simpa using hl') hc'
  have := hs' w' hw'
  simp only [Int.toNat_natCast] at this
  rw [fm_drop hg, fm_take hg] at this
  exact this
/-- the cells of a struct are read -/
theorem LdC_mk {S : World → Prop} {p : Addr} : ∀ {ks : List Sc} {i : Nat} {K : TT ks → Prop} (x : TT ks) (_ : ∀ w, S w → ∀ j (hj : j < (encs ks x).length), w.cell? (p.add (i + j)) = some (encs ks x)[j]) (_ : K x), LdC S p ks i K
  | [], _, _, _, _, h => h
  | k :: ks, i, K, (x, y), hc, h => ⟨x, fun w hw => by have := hc w hw 0 (by simp); simpa using this, LdC_mk (ks := ks) (i := i + 1) y (fun w hw j hj => by
      have := hc w hw (j + 1) (by simp; omega)
      simpa [Nat.add_assoc, Nat.add_comm 1 j] using this) h⟩
theorem Ld.st {ks : List Sc} {p : Addr} {K : TT ks → Prop} (x : TT ks) (hc : ∀ j, j < (encs ks x).length → w.cell? (p.add j) = (encs ks x)[j]?) (h : K x) : Ld (.st ks) p w K :=
  LdC_mk x (fun w' hw' j hj => by
    have hw' : w' = w := hw'
    subst hw'
    rw [Nat.zero_add, hc j hj, List.getElem?_eq_getElem hj]) h
/-- a struct in a block of its own is read -/
theorem Ld.stBlk {ks : List Sc} {b : Nat} {cs : Array Value} {t : TypeId} {fr : Nat × Nat} {K : TT ks → Prop} (hh : Hp E w (Blk b (.cells cs t fr) :: F)) (x : TT ks) (hc : cs = ⟨encs ks x⟩) (h : K x) : Ld (.st ks) ⟨b, 0, none⟩ w K := by
  subst hc
  refine Ld.st x (fun j hj => ?_) h
  rw [add_mk, hh.cell]; simp
/-- a struct is stored in a block of its own -/
theorem StC.go {b : Nat} {t : TypeId} {K : World → Prop} : ∀ (vs : List Value) (i : Nat) (w : World) (c : Array Value), Hp E w (Blk b (.cells c t (0, 0)) :: F) → i + vs.length = c.size → (∀ v ∈ vs, scalarB v = true) →
    (∀ c' w', c'.toList = c.toList.take i ++ vs → Hp E w' (Blk b (.cells c' t (0, 0)) :: F) → K w') → StC ⟨b, 0, none⟩ vs i w K
  | [], i, w, c, hh, hi, _, hK => hK c w (by rw [List.append_nil, List.take_of_length_le (by simp; simp at hi; omega)]) hh
  | v :: vs, i, w, c, hh, hi, hv, hK => by
    have h1 := hv v (by simp)
    simp only [List.length_cons] at hi
    unfold StC
    rw [h1]
    have h2 := hh.setCell (i := i) v
    refine ⟨?_, ?_, ?_⟩
    · rw [add_mk, hh.cell]; simp; omega
    · rw [add_mk]; simp [World.frozen?, hh.blk]
    · rw [add_mk, Nat.zero_add]
      refine StC.go vs (i + 1) _ _ h2 (by simp; omega) (fun x hx => hv x (List.mem_cons_of_mem _ hx)) fun c' w' e h3 => hK c' w' ?_ h3
      rw [e, Array.toList_setIfInBounds, List.take_add_one, List.take_set_of_le (by omega)]
      rw [List.getElem?_set_self (by simp; omega)]
      simp
theorem StC.blk {b : Nat} {c : Array Value} {t : TypeId} {vs : List Value} {K : World → Prop} (hh : Hp E w (Blk b (.cells c t (0, 0)) :: F)) (hi : vs.length = c.size) (hv : ∀ v ∈ vs, scalarB v = true)
    (hK : ∀ w', Hp E w' (Blk b (.cells ⟨vs⟩ t (0, 0)) :: F) → K w') : StC ⟨b, 0, none⟩ vs 0 w K :=
  StC.go vs 0 w c hh (by omega) hv fun c' w' e h => by
    have : c' = ⟨vs⟩ := by apply Array.ext'; simpa using e
    subst this
    exact hK w' h
/-- one element is appended -/
theorem app1 {P : Program} {t ty e e2 : TypeId} {bytes : Nat} {x : α} {cs : Array Value} {K : Sl → World → Prop} (he : ElemT P t e sz bytes) (hg : ∀ x, (g x).length = sz) (hz : 0 < sz) (hcs : cs = ⟨g x⟩) (hsc : ∀ y ∈ g x, scalarB y = true)
    (hh : Hp E w (OwnS sz s (l.flatMap g) :: F)) (hb : (2 * (l.length + 1) + 1024) * bytes ≤ 2 ^ 48) (hb2 : l.length + 1 < 2 ^ 62)
    (h : ∀ s' w', Hp E w' (OwnS sz s' ((l ++ [x]).flatMap g) :: F) → s'.len = l.length + 1 → K s' w') :
    Nw e2 cs w fun b w1 => Run P (Builtin.append_ #[t, t] ty ⟨[.slice s.base s.len s.cap, .slice (some ⟨b, 0, none⟩) 1 1]⟩) kS w1 K := by
  have hlen := SlT.len hg hz (hh.tells Tells.own)
  refine Nw.mk hh fun b w1 h1 => ?_
  refine run_append (ys := g x) (n := 1) he hz (.inl ⟨e, he.und⟩) h1.p1 (.inl ⟨_, _, _, rfl, rfl, h1.tells (Tells.blk (xs := g x) (by rw [hcs]) (by rw [hg]; simp))⟩) (by rw [hg]; simp) hsc (by rw [hlen]; exact hb) (by rw [hlen]; exact hb2) fun s' w2 h2 hs' => h s' w2 ?_ (by rw [hs', hlen])
  rw [List.flatMap_append, show [x].flatMap g = g x by simp]
  exact h2.p1.drop
/-- the elements of a slice are appended -/
theorem appN {P : Program} {t ty e : TypeId} {bytes : Nat} {s2 : Sl} {ys : List α} {K : Sl → World → Prop} (he : ElemT P t e sz bytes) (hg : ∀ x, (g x).length = sz) (hz : 0 < sz) (hsc : ∀ x, ∀ y ∈ g x, scalarB y = true)
    (hh : Hp E w (OwnS sz s (l.flatMap g) :: F)) (hs : SlT sz s2 (ys.flatMap g) w) (hb : (2 * (l.length + ys.length) + 1024) * bytes ≤ 2 ^ 48) (hb2 : l.length + ys.length < 2 ^ 62)
    (h : ∀ s' w', Hp E w' (OwnS sz s' ((l ++ ys).flatMap g) :: F) → s'.len = l.length + ys.length → K s' w') :
    Run P (Builtin.append_ #[t, t] ty ⟨[.slice s.base s.len s.cap, .slice s2.base s2.len s2.cap]⟩) kS w K := by
  have hlen := SlT.len hg hz (hh.tells Tells.own)
  have hlen2 := SlT.len hg hz hs
  refine run_append (ys := ys.flatMap g) (n := ys.length) he hz (.inl ⟨e, he.und⟩) hh (.inl ⟨_, _, _, rfl, hlen2.symm, hs⟩) (fm_len hg ys) (fun y hy => ?_) (by rw [hlen]; exact hb) (by rw [hlen]; exact hb2) fun s' w2 h2 hs' => h s' w2 ?_ (by rw [hs', hlen])
  · obtain ⟨x, _, hx⟩ := List.mem_flatMap.1 hy
    exact hsc x y hx
  · rw [List.flatMap_append]; exact h2
end
end Go.Vc
/- Str -/
namespace Go.Vc
open Go
/-- one row of bytes less than another -/
def lxb : List Nat → List Nat → Bool
  | _, [] => false
  | [], _ :: _ => true
  | a :: x, b :: y => decide (a < b) || (a == b && lxb x y)
/-- the string of some bytes -/
def strOf (b : List Nat) : ByteArray := strOfNums (b.map fun (x : Nat) => (x : Int))
theorem run_toStr {P : Program} {src e dst : TypeId} {s : Sl} {b : List Nat} {w : World} {K : ByteArray → World → Prop} (hs : P.underlying src = some (.slice e)) (he : P.underlying e = some (.int .u8)) (hd : P.underlying dst = some .string)
    (hh : SlT 1 s (b.map vB) w) (hK : K (strOf b) w) : Run P (convert src dst (.slice s.base s.len s.cap)) kStr w K := by
  have hl := hh.1
  simp only [List.length_map, Nat.mul_one] at hl
  have key : (convert src dst (.slice s.base s.len s.cap)).run P w = .ok (.string (strOf b)) w := by
    cases hb : s.base with
    | none =>
      have : b = [] := by
        cases b with
        | nil => rfl
        | cons x b =>
          obtain ⟨p, hp, _⟩ := hh.2 0 (by simp)
          rw [hb] at hp; cases hp
      subst this
      rw [run_convert_bytes_nil w src e hs he _ _ dst hd]; rfl
    | some p =>
      have hc : (loadCells p s.len).run P w = .ok ((b.map fun (x : Nat) => (x : Int)).map (Value.int .u8)).toArray w := by
        have := run_cells (P := P) (w := w) (vs := b.map vB) (p := p) (fun i hi => by
          obtain ⟨q, hq, hc⟩ := hh.2 i hi
          rw [hb] at hq
          cases hq
          exact hc)
        rw [List.length_map, hl] at this
        rw [this, List.map_map]; rfl
      rw [run_convert_bytes_string w src dst e _ _ _ hs he hd, run_bytesToString w _ _ _ _ hc, foldl_push_bytes]
      unfold strOf strOfNums
      simp [ByteArray.empty, ByteArray.emptyWithCapacity]
      rfl
  unfold Run
  rw [key]
  exact hK
/-! bytes and their strings -/
theorem strOf_list (b : List Nat) : (strOf b).toList = b.map UInt8.ofNat := by
  unfold strOf strOfNums
  rw [ByteArray.toList_mk, List.map_map]
  refine List.map_congr_left fun x _ => ?_
  simp
theorem strOf_data (b : List Nat) : (strOf b).data.toList = b.map UInt8.ofNat := by rw [← ByteArray.toList_eq, strOf_list]
theorem u8_inj {a b : Nat} (ha : a < 256) (hb : b < 256) (h : UInt8.ofNat a = UInt8.ofNat b) : a = b := by
  have := congrArg UInt8.toNat h
  simp only [UInt8.toNat_ofNat'] at this
  omega
theorem u8_lt {a b : Nat} (ha : a < 256) (hb : b < 256) : (UInt8.ofNat a < UInt8.ofNat b) ↔ a < b := by
  rw [UInt8.lt_iff_toNat_lt]
  simp only [UInt8.toNat_ofNat']
  omega
theorem map_u8_inj : ∀ {a b : List Nat}, (∀ x ∈ a, x < 256) → (∀ x ∈ b, x < 256) → a.map UInt8.ofNat = b.map UInt8.ofNat → a = b
  | [], [], _, _, _ => rfl
  | [], _ :: _, _, _, h => by cases h
  | _ :: _, [], _, _, h => by cases h
  | x :: a, y :: b, ha, hb, h => by
    simp only [List.map_cons, List.cons.injEq] at h
    rw [u8_inj (ha x (by simp)) (hb y (by simp)) h.1, map_u8_inj (fun z hz => ha z (by simp [hz])) (fun z hz => hb z (by simp [hz])) h.2]
theorem strOf_eq {a b : List Nat} (ha : ∀ x ∈ a, x < 256) (hb : ∀ x ∈ b, x < 256) : ((strOf a).toList == (strOf b).toList) = (a == b) := by
  rw [strOf_list, strOf_list, Bool.eq_iff_iff, beq_iff_eq, beq_iff_eq]
  exact ⟨map_u8_inj ha hb, fun e => by rw [e]⟩
theorem strOf_less : ∀ {a b : List Nat}, (∀ x ∈ a, x < 256) → (∀ x ∈ b, x < 256) → Op.bytesLess (a.map UInt8.ofNat) (b.map UInt8.ofNat) = lxb a b
  | [], [], _, _ => rfl
  | [], _ :: _, _, _ => rfl
  | _ :: _, [], _, _ => rfl
  | x :: a, y :: b, ha, hb => by
    have hx := ha x (by simp)
    have hy := hb y (by simp)
    have ih := strOf_less (a := a) (b := b) (fun z hz => ha z (by simp [hz])) (fun z hz => hb z (by simp [hz]))
    simp only [List.map_cons, Op.bytesLess, ih]
    show _ = (decide (x < y) || (x == y && lxb a b))
    have e1 : decide (UInt8.ofNat x < UInt8.ofNat y) = decide (x < y) := by rw [decide_eq_decide]; exact u8_lt hx hy
    have e2 : (UInt8.ofNat x == UInt8.ofNat y) = (x == y) := by rw [Bool.eq_iff_iff, beq_iff_eq, beq_iff_eq]; exact ⟨u8_inj hx hy, fun e => by rw [e]⟩
    rw [e1, e2]
theorem cmp_less : ∀ {a b : List Nat}, (∀ x ∈ a, x < 256) → (∀ x ∈ b, x < 256) → (Lib.compareBytes (a.map UInt8.ofNat) (b.map UInt8.ofNat) < 0 ↔ lxb a b = true)
  | [], [], _, _ => by simp [Lib.compareBytes, lxb]
  | [], _ :: _, _, _ => by simp [Lib.compareBytes, lxb]
  | _ :: _, [], _, _ => by simp [Lib.compareBytes, lxb]
  | x :: a, y :: b, ha, hb => by
    have hx := ha x (by simp)
    have hy := hb y (by simp)
    have ih := cmp_less (a := a) (b := b) (fun z hz => ha z (by simp [hz])) (fun z hz => hb z (by simp [hz]))
    simp only [List.map_cons, Lib.compareBytes, u8_lt hx hy, u8_lt hy hx]
    show _ ↔ (decide (x < y) || (x == y && lxb a b)) = true
    simp only [Bool.or_eq_true, Bool.and_eq_true, decide_eq_true_eq, beq_iff_eq]
    split
    · simp; omega
    · split
      · simp; omega
      · rw [ih]
        have : x = y := by omega
        simp [this]
/-- bytes that may be read, not written -/
def RdB (sl : Sl) (b : List Nat) : HP := fun f => ∃ blk arr t fr, sl.base = some ⟨blk, 0, none⟩ ∧ sl.len = b.length ∧ sl.len ≤ sl.cap ∧ (∀ i (hi : i < b.length), arr[i]? = some (vB b[i])) ∧ f = Frag.one blk (.cells arr t fr)
section
variable {E w : World} {F : List HP}
theorem Tells.rdB {sl : Sl} {b : List Nat} : Tells (RdB sl b :: F) (SlT 1 sl (b.map vB)) := by
  rintro w f a ⟨g, k, hd, rfl, ⟨blk, arr, t, fr, h1, h2, _, h4, h5⟩, _⟩
  subst h5
  refine ⟨by rw [List.length_map, h2]; omega, fun i hi => ⟨_, h1, ?_⟩⟩
  rw [List.length_map] at hi
  have hb : w.heap[blk]? = some (.cells arr t fr) := a blk _ (by simp [Frag.add, Frag.one])
  rw [add_mk, Nat.zero_add]
  have : w.cell? ⟨blk, i, none⟩ = arr[i]? := by simp [World.cell?, hb]
  rw [this, h4 i hi]; simp
theorem RdB.cap {sl : Sl} {b : List Nat} (h : Hp E w (RdB sl b :: F)) : sl.len ≤ sl.cap := by
  obtain ⟨f, a, g, k, hd, rfl, ⟨blk, arr, t, fr, _, _, h3, _, _⟩, _⟩ := h.frag
  exact h3
/-- a string to bytes -/
theorem run_toBytes {P : Program} {src dst e : TypeId} {b : List Nat} {K : Sl → World → Prop} (hs : P.underlying src = some .string) (hd : P.underlying dst = some (.slice e)) (he : P.underlying e = some (.int .u8)) (hb : ∀ x ∈ b, x < 256)
    (h : Hp E w F) (hK : ∀ s w', Hp E w' (RdB s b :: F) → K s w') : Run P (convert src dst (.string (strOf b))) kS w K := by
  have hsz : (strOf b).size = b.length := by unfold strOf; rw [strOfNums_size, List.length_map]
  unfold Run
  rw [run_bytes_of_string w src dst e _ hs hd he]
  have hge := grownCap_ge w (strOf b).size 0 e
  obtain ⟨c, hc⟩ : ∃ c, c = grownCap w (strOf b).size 0 e := ⟨_, rfl⟩
  rw [← hc] at hge ⊢
  refine hK ⟨some ⟨w.heap.size, 0, none⟩, (strOf b).size, c⟩ _ ?_
  have h1 : Hp E w.drew F := h.drew
  have h2 := h1.alloc (.cells (bytesRow (strOf b) c) e ((bytesRow (strOf b) c).size, (bytesRow (strOf b) c).size + 1))
  refine h2.weak fun f hf => ⟨w.heap.size, _, _, _, rfl, hsz, hge, fun i hi => ?_, hf⟩
  have hd2 := strOf_data b
  have hi2 : i < (strOf b).data.size := by show i < (strOf b).size; omega
  unfold bytesRow
  rw [Array.getElem?_append_left (by rw [Array.size_map]; exact hi2), Array.getElem?_map, Array.getElem?_eq_getElem hi2]
  have e1 : (strOf b).data[i] = UInt8.ofNat b[i] := by
    rw [← Array.getElem_toList]
    simp only [hd2, List.getElem_map]
  have h256 := hb b[i] (List.getElem_mem hi)
  rw [Option.map_some, e1]
  unfold vB
  congr 2
  rw [UInt8.toNat_ofNat']
  omega
end
end Go.Vc
/- Held -/
namespace Go.Vc
open Go
section
variable {E w : World} {F : List HP} {A : HP}
theorem HasF.mem (h : HasF E F w) (hm : A ∈ F) : ∃ G, Hp E w (A :: G) := by
  obtain ⟨l, h⟩ := h
  obtain ⟨s, t, rfl⟩ := List.append_of_mem hm
  refine ⟨(l ++ s) ++ t, ?_⟩
  rw [← List.append_assoc] at h
  exact h.perm List.perm_middle
theorem HasF.front (h : HasF E (A :: F) w) : ∃ G, Hp E w (A :: G) := h.mem (by simp)
theorem HasF.front2 {B : HP} (h : HasF E (A :: B :: F) w) : ∃ G, Hp E w (B :: G) := h.mem (by simp)
theorem LdS.arrBlk {S : World → Prop} {b n : Nat} {cs : Array Value} {t : TypeId} {fr : Nat × Nat} {K : Array Value → Prop} (hS : ∀ w, S w → ∃ G, Hp E w (Blk b (.cells cs t fr) :: G)) (hn : cs.size = n) (hK : K cs) : LdS (.arr n) ⟨b, 0, none⟩ S K := by
  refine ⟨cs, hn, fun w' hw i hi => ?_, hK⟩
  obtain ⟨G, h⟩ := hS w' hw
  rw [add_mk, h.cell, Nat.zero_add]
  simp [hn, hi]
theorem LdS.blk {S : World → Prop} {s : Sc} {b i : Nat} {c : Array Value} {t : TypeId} {fr : Nat × Nat} {K : s.T → Prop} (hS : ∀ w, S w → ∃ G, Hp E w (Blk b (.cells c t fr) :: G)) (x : s.T) (hx : c[i]? = some (s.enc x)) (hk : K x) : LdS (.sc s) ⟨b, i, none⟩ S K := by
  refine LdS.sc x (fun w' hw => ?_) hk
  obtain ⟨G, h⟩ := hS w' hw
  rw [h.cell]; exact hx
/-- a part of a block is loaded -/
theorem LdS.sub {S : World → Prop} {b n off : Nat} {pre mid post : List Value} {t : TypeId} {fr : Nat × Nat} {K : Array Value → Prop} (hS : ∀ w, S w → ∃ G, Hp E w (Blk b (.cells ⟨pre ++ mid ++ post⟩ t fr) :: G)) (ho : pre.length = off) (hn : mid.length = n) (hK : K ⟨mid⟩) : LdS (.arr n) ⟨b, off, none⟩ S K := by
  refine ⟨⟨mid⟩, hn, fun w' hw i hi => ?_, hK⟩
  obtain ⟨G, h⟩ := hS w' hw
  rw [add_mk, h.cell]
  subst ho
  rw [List.getElem?_toArray, List.append_assoc, List.getElem?_append_right (by omega), List.getElem?_append_left (by omega), show pre.length + i - pre.length = i by omega]
  rw [List.getElem?_eq_getElem (by omega)]
  simp [show i < mid.length by omega]
theorem Ld.sub {b n off : Nat} {pre mid post : List Value} {t : TypeId} {fr : Nat × Nat} {K : Array Value → Prop} (h : Hp E w (Blk b (.cells ⟨pre ++ mid ++ post⟩ t fr) :: F)) (ho : pre.length = off) (hn : mid.length = n) (hK : K ⟨mid⟩) : Ld (.arr n) ⟨b, off, none⟩ w K :=
  LdS.sub (E := E) (fun w' hw => ⟨F, by rw [hw]; exact h⟩) ho hn hK
end
/-! a row of numbers in a block -/
def rowI (n : Nat) (f : Nat → Int) : Array Value := ⟨(List.range n).map fun j => .int .i64 (f j)⟩
theorem rowI_size {n : Nat} {f : Nat → Int} : (rowI n f).size = n := by simp [rowI]
theorem rowI_get {n : Nat} {f : Nat → Int} {i : Nat} (h : i < n) : (rowI n f)[i]? = some (Sc.enc (.int .i64) (f i)) := by
  unfold rowI
  rw [List.getElem?_toArray, List.getElem?_map, List.getElem?_range h]; rfl
theorem rowI_set {n : Nat} {f : Nat → Int} {i : Nat} {v : Int} : (rowI n f).setIfInBounds i (.int .i64 v) = rowI n fun j => if j = i then v else f j := by
  apply Array.ext_getElem?
  intro j
  rw [Array.getElem?_setIfInBounds]
  unfold rowI
  simp only [List.getElem?_toArray, List.getElem?_map, List.size_toArray, List.length_map, List.length_range]
  by_cases hj : j < n
  · rw [List.getElem?_range hj]
    by_cases e : i = j
    · subst e; simp [hj]
    · rw [if_neg e]; simp [Ne.symm e]
  · rw [List.getElem?_eq_none (by simpa using hj)]
    by_cases e : i = j
    · subst e; simp [hj]
    · simp [e]
theorem rowI_ext {n : Nat} {f g : Nat → Int} (h : ∀ i, i < n → f i = g i) : rowI n f = rowI n g := by
  unfold rowI
  congr 1
  exact List.map_congr_left fun j hj => by rw [h j (by simpa using hj)]
/-! built aggregates -/
theorem fold_put {off : Nat} : ∀ (vs : List Value) (k : Nat) (pre mid post : List Value), mid.length = vs.length → pre.length = off + k →
    (vs.zipIdx k).foldl (fun (cs : Array Value) (x : Value × Nat) => cs.setIfInBounds (off + x.2) x.1) ⟨pre ++ mid ++ post⟩ = ⟨pre ++ vs ++ post⟩
  | [], k, pre, mid, post, hm, _ => by
    have : mid = [] := List.length_eq_zero_iff.1 hm
    subst this; rfl
  | v :: vs, k, pre, mid, post, hm, hp => by
    obtain ⟨m, mid, rfl⟩ : ∃ m mid', mid = m :: mid' := by
      cases mid with
      | nil => simp at hm
      | cons m mid => exact ⟨m, mid, rfl⟩
    rw [List.zipIdx_cons, List.foldl_cons]
    have e : (⟨pre ++ m :: mid ++ post⟩ : Array Value).setIfInBounds (off + k) v = ⟨(pre ++ [v]) ++ mid ++ post⟩ := by
      rw [← hp]
      apply Array.ext'
      simp
    show ((vs.zipIdx (k + 1)).foldl _ ((⟨pre ++ m :: mid ++ post⟩ : Array Value).setIfInBounds (off + k) v)) = _
    rw [e, fold_put vs (k + 1) (pre ++ [v]) mid post (by simpa using hm) (by simp; omega)]
    simp
theorem fill_step {place : Nat → Option (Nat × Nat)} {i off size : Nat} {v : Value} {rest : List (Nat × Value)} {pre mid post : List Value} (hpl : place i = some (off, size)) (ho : pre.length = off) (hm : mid.length = size) (hv : v.cells.size = size) :
    Instr.fill place ⟨pre ++ mid ++ post⟩ ((i, v) :: rest) = Instr.fill place ⟨pre ++ v.cells.toList ++ post⟩ rest := by
  rw [Instr.fill, hpl]
  simp only
  rw [if_neg (by simp [hv]; omega)]
  congr 1
  rw [← Array.foldl_toList, Array.toList_zipIdx]
  exact fold_put (off := off) v.cells.toList 0 pre mid post (by simp [hm, hv]) (by omega)
end Go.Vc
/- Auto -/
namespace Go.Vc
open Go

/-- block b in a list of assertions: its cells, and the list with another object in its place -/
class FindB (b : Nat) (l : List HP) (c : outParam (Array Value)) (t : outParam TypeId) (fr : outParam (Nat × Nat)) (put : outParam (Obj → List HP)) : Prop where
  perm : ∃ r, l.Perm (Blk b (.cells c t fr) :: r) ∧ ∀ o, (Blk b o :: r).Perm (put o)
instance FindB.head {b : Nat} {l : List HP} {c : Array Value} {t : TypeId} {fr : Nat × Nat} : FindB b (Blk b (.cells c t fr) :: l) c t fr (fun o => Blk b o :: l) :=
  ⟨l, .refl _, fun _ => .refl _⟩
instance FindB.tail {b : Nat} {A : HP} {l : List HP} {c : Array Value} {t : TypeId} {fr : Nat × Nat} {put : Obj → List HP} [h : FindB b l c t fr put] : FindB b (A :: l) c t fr (fun o => A :: put o) :=
  ⟨by
    obtain ⟨r, h1, h2⟩ := h.perm
    exact ⟨A :: r, (h1.cons A).trans (.swap ..), fun o => (List.Perm.swap ..).trans ((h2 o).cons A)⟩⟩
/-- the assertion number n of a list -/
class Nth (n : Nat) (l : List HP) (A : outParam HP) (r : outParam (List HP)) : Prop where
  perm : l.Perm (A :: r)
instance Nth.zero {A : HP} {l : List HP} : Nth 0 (A :: l) A l := ⟨.refl _⟩
instance Nth.succ {n : Nat} {A B : HP} {l r : List HP} [h : Nth n l A r] : Nth (n + 1) (B :: l) A (B :: r) := ⟨(h.perm.cons B).trans (.swap ..)⟩
section
variable {E w : World} {l : List HP} {b i : Nat} {c : Array Value} {t : TypeId} {fr : Nat × Nat} {put : Obj → List HP}
theorem Hp.at {A : HP} {r : List HP} (h : Hp E w l) (n : Nat) [hn : Nth n l A r] : Hp E w (A :: r) := h.perm hn.perm
theorem Hp.no {A : HP} {r : List HP} (h : Hp E w l) (n : Nat) [hn : Nth n l A r] : Hp E w r := (h.perm hn.perm).drop
theorem Tells.at {A : HP} {r : List HP} {φ : World → Prop} (n : Nat) [hn : Nth n l A r] (ht : Tells (A :: r) φ) : Tells l φ := ht.perm hn.perm.symm
theorem Hp.fb [hf : FindB b l c t fr put] (h : Hp E w l) : w.heap[b]? = some (.cells c t fr) := by
  obtain ⟨r, h1, _⟩ := hf.perm
  exact (h.perm h1).blk
theorem Hp.fc [FindB b l c t fr put] (h : Hp E w l) : w.cell? ⟨b, i, none⟩ = c[i]? := by
  simp [World.cell?, h.fb]
/-- a class of worlds that hold an object in a block -/
def HoldB (b : Nat) (c : Array Value) (t : TypeId) (fr : Nat × Nat) (w : World) : Prop := w.heap[b]? = some (.cells c t fr)
theorem Hp.hb [FindB b l c t fr put] (h : Hp E w l) : HoldB b c t fr w := h.fb
theorem HoldB.cell (h : HoldB b c t fr w) : w.cell? ⟨b, i, none⟩ = c[i]? := by simp [World.cell?, show w.heap[b]? = _ from h]
def Sc.decO : (s : Sc) → Value → Option s.T
  | .int k, .int k' n => match k == k' with | true => some n | false => none
  | .bool, .bool b => some b
  | .ptr, .pointer p => some p
  | .sl, .slice b l c => some ⟨b, l, c⟩
  | .str, .string s => some s
  | .mp, .map m => some m
  | .any, v => some v
  | .addr, .pointer (some p) => some p
  | _, _ => none
def decsO : (l : List Sc) → List Value → Option (TT l)
  | [], _ => some ()
  | s :: l, v :: vs => match s.decO v, decsO l vs with
    | some x, some y => some (x, y)
    | _, _ => none
  | _ :: _, [] => none
theorem Sc.decO_enc {s : Sc} {v : Value} {x : s.T} (h : s.decO v = some x) : v = s.enc x := by
  cases s <;> cases v <;> simp only [Sc.decO] at h <;> first | cases h; rfl | cases h | skip
  · rename_i k k' n
    by_cases e : k = k'
    · subst e; simp at h; subst h; rfl
    · have : (k == k') = false := by simpa using e
      rw [this] at h; cases h
  · rename_i p
    cases p with
    | none => cases h
    | some p => simp only [Option.some.injEq] at h; subst h; rfl
theorem decsO_enc : ∀ {l : List Sc} {vs : List Value} {x : TT l}, decsO l vs = some x → ∃ r, vs = encs l x ++ r
  | [], vs, (), _ => ⟨vs, rfl⟩
  | s :: l, v :: vs, (x, y), h => by
    simp only [decsO] at h
    split at h
    · rename_i x' y' hx hy
      simp only [Option.some.injEq, Prod.mk.injEq] at h
      obtain ⟨rfl, rfl⟩ := h
      obtain ⟨r, e⟩ := decsO_enc hy
      exact ⟨r, by rw [e, Sc.decO_enc hx]; rfl⟩
    · cases h
  | _ :: _, [], _, h => by cases h
/-- the tail of a list -/
class TailOf (l F : List HP) : Prop where
  sub : ∃ p, l = p ++ F
instance TailOf.refl {F : List HP} : TailOf F F := ⟨[], rfl⟩
instance TailOf.cons {A : HP} {l F : List HP} [h : TailOf l F] : TailOf (A :: l) F := ⟨by obtain ⟨p, e⟩ := h.sub; exact ⟨A :: p, by rw [e]; rfl⟩⟩
theorem Hp.tl {F : List HP} [h2 : TailOf l F] (h : Hp E w l) : Hp E w F := by
  obtain ⟨p, e⟩ := h2.sub
  subst e; exact h.dropL
theorem as1 {α β : Type} {K : α → β → Prop} {a a' : α} {w : β} (e : a = a') (h : K a' w) : K a w := e ▸ h
/-- ifs whose condition is known -/
theorem IfB.dt {p : Prop} [Decidable p] {X Y : Prop} (hp : p) (h : X) : IfB (decide p) X Y := IfB.t (decide_eq_true hp) h
theorem IfB.df {p : Prop} [Decidable p] {X Y : Prop} (hp : ¬ p) (h : Y) : IfB (decide p) X Y := IfB.f (decide_eq_false hp) h
theorem IfB.ndt {p : Prop} [Decidable p] {X Y : Prop} (hp : p) (h : Y) : IfB (!decide p) X Y := IfB.f (by rw [decide_eq_true hp]; rfl) h
theorem IfB.ndf {p : Prop} [Decidable p] {X Y : Prop} (hp : ¬ p) (h : X) : IfB (!decide p) X Y := IfB.t (by rw [decide_eq_false hp]; rfl) h
theorem IfB.ntt {X Y : Prop} (h : Y) : IfB (!true) X Y := h
theorem IfB.nff {X Y : Prop} (h : X) : IfB (!false) X Y := h
theorem IfB.et {a b : Int} {X Y : Prop} (hp : a = b) (h : X) : IfB (a == b) X Y := IfB.t (beq_iff_eq.2 hp) h
theorem IfB.ef {a b : Int} {X Y : Prop} (hp : ¬ a = b) (h : Y) : IfB (a == b) X Y := IfB.f (beq_eq_false_iff_ne.2 hp) h
theorem IfB.nt {a b : Int} {X Y : Prop} (hp : ¬ a = b) (h : X) : IfB (a != b) X Y := IfB.t (bne_iff_ne.2 hp) h
theorem IfB.nf {a b : Int} {X Y : Prop} (hp : a = b) (h : Y) : IfB (a != b) X Y := IfB.f (bne_eq_false_iff_eq.2 hp) h
theorem IfB.dm {p : Prop} [Decidable p] {X Y : Prop} (h1 : p → X) (h2 : ¬ p → Y) : IfB (decide p) X Y := IfB.mk (fun h => h1 (of_decide_eq_true h)) (fun h => h2 (of_decide_eq_false h))
theorem IfB.em {a b : Int} {X Y : Prop} (h1 : a = b → X) (h2 : ¬ a = b → Y) : IfB (a == b) X Y := IfB.mk (fun h => h1 (beq_iff_eq.1 h)) (fun h => h2 (beq_eq_false_iff_ne.1 h))
theorem IfB.nm {a b : Int} {X Y : Prop} (h1 : ¬ a = b → X) (h2 : a = b → Y) : IfB (a != b) X Y := IfB.mk (fun h => h1 (bne_iff_ne.1 h)) (fun h => h2 (bne_eq_false_iff_eq.1 h))
/-- loads -/
theorem LdS.xb {S : World → Prop} {s : Sc} {K : s.T → Prop} {x : s.T} (hS : ∀ w, S w → HoldB b c t fr w) (hx : c.toList[i]? = some (s.enc x)) (hK : K x) : LdS (.sc s) ⟨b, i, none⟩ S K :=
  ⟨x, fun w hw => by rw [(hS w hw).cell]; rw [← hx]; simp, hK⟩
theorem LdS.xt {S : World → Prop} {ks : List Sc} {K : TT ks → Prop} {x : TT ks} (hS : ∀ w, S w → HoldB b c t fr w) (hx : decsO ks (c.toList.drop i) = some x) (hK : K x) : LdS (.st ks) ⟨b, i, none⟩ S K := by
  obtain ⟨r, e⟩ := decsO_enc hx
  refine LdC_mk x (fun w hw j hj => ?_) hK
  rw [Nat.zero_add, add_mk, (hS w hw).cell]
  have h1 : (c.toList.drop i)[j]? = (encs ks x)[j]? := by rw [e, List.getElem?_append_left hj]
  rw [List.getElem?_drop, List.getElem?_eq_getElem hj] at h1
  rw [← h1]; simp
theorem LdS.xa {S : World → Prop} {n : Nat} {mid post : List Value} {K : Array Value → Prop} (hS : ∀ w, S w → HoldB b c t fr w) (hx : c.toList.drop i = mid ++ post) (hn : mid.length = n) (hK : K ⟨mid⟩) : LdS (.arr n) ⟨b, i, none⟩ S K := by
  refine ⟨⟨mid⟩, hn, fun w hw j hj => ?_, hK⟩
  rw [add_mk, (hS w hw).cell]
  have h1 : (c.toList.drop i)[j]? = mid[j]? := by rw [hx, List.getElem?_append_left (by omega)]
  rw [List.getElem?_drop] at h1
  rw [show c[i + j]? = c.toList[i + j]? by simp, h1]
  simp [show j < mid.length by omega]
theorem Ld.xb {s : Sc} {K : s.T → Prop} {x : s.T} [FindB b l c t fr put] (h : Hp E w l) (hx : c.toList[i]? = some (s.enc x)) (hK : K x) : Ld (.sc s) ⟨b, i, none⟩ w K := LdS.xb (fun w' hw => by rw [hw]; exact h.fb) hx hK
theorem Ld.xt {ks : List Sc} {K : TT ks → Prop} {x : TT ks} [FindB b l c t fr put] (h : Hp E w l) (hx : decsO ks (c.toList.drop i) = some x) (hK : K x) : Ld (.st ks) ⟨b, i, none⟩ w K := LdS.xt (fun w' hw => by rw [hw]; exact h.fb) hx hK
theorem Ld.xa {n : Nat} {mid post : List Value} {K : Array Value → Prop} [FindB b l c t fr put] (h : Hp E w l) (hx : c.toList.drop i = mid ++ post) (hn : mid.length = n) (hK : K ⟨mid⟩) : Ld (.arr n) ⟨b, i, none⟩ w K := LdS.xa (fun w' hw => by rw [hw]; exact h.fb) hx hn hK
/-- all of a block -/
theorem Ld.xw {n : Nat} {K : Array Value → Prop} [FindB b l c t fr put] (h : Hp E w l) (hn : c.size = n) (hK : K c) : Ld (.arr n) ⟨b, 0, none⟩ w K :=
  Ld.xa (mid := c.toList) (post := []) h (by simp) (by simpa using hn) (by simpa using hK)
theorem LdS.xw {S : World → Prop} {n : Nat} {K : Array Value → Prop} (hS : ∀ w, S w → HoldB b c t fr w) (hn : c.size = n) (hK : K c) : LdS (.arr n) ⟨b, 0, none⟩ S K :=
  LdS.xa (mid := c.toList) (post := []) hS (by simp) (by simpa using hn) (by simpa using hK)
/-- stores -/
theorem StC.goM {b : Nat} {t : TypeId} {F : List HP} {K : World → Prop} : ∀ (vs : List Value) (i o : Nat) (w : World) (c : Array Value), Hp E w (Blk b (.cells c t (0, 0)) :: F) → o + i + vs.length ≤ c.size → (∀ v ∈ vs, scalarB v = true) →
    (∀ c' w', c'.toList = c.toList.take (o + i) ++ vs ++ c.toList.drop (o + i + vs.length) → Hp E w' (Blk b (.cells c' t (0, 0)) :: F) → K w') → StC ⟨b, o, none⟩ vs i w K
  | [], i, o, w, c, hh, hi, _, hK => hK c w (by simp) hh
  | v :: vs, i, o, w, c, hh, hi, hv, hK => by
    have h1 := hv v (by simp)
    simp only [List.length_cons] at hi
    unfold StC
    rw [h1]
    have h2 := hh.setCell (i := o + i) v
    refine ⟨?_, ?_, ?_⟩
    · rw [add_mk, hh.cell]; simp; omega
    · rw [add_mk]; simp [World.frozen?, hh.blk]
    · rw [add_mk]
      refine StC.goM vs (i + 1) o _ _ h2 (by simp; omega) (fun x hx => hv x (List.mem_cons_of_mem _ hx)) fun c' w' e h3 => hK c' w' ?_ h3
      rw [e, Array.toList_setIfInBounds, show o + (i + 1) = o + i + 1 by omega, List.take_add_one, List.take_set_of_le (by omega)]
      rw [List.getElem?_set_self (by simp; omega)]
      rw [List.drop_set_of_lt (by omega), List.length_cons]
      simp only [Option.toList_some, List.append_assoc, List.cons_append, List.nil_append]
      rw [show o + i + 1 + vs.length = o + i + (vs.length + 1) by omega]
theorem StC.xm {o : Nat} {vs pre mid post : List Value} {K : World → Prop} [hf : FindB b l c t (0, 0) put] (h : Hp E w l) (hc : c.toList = pre ++ (mid ++ post)) (ho : pre.length = o) (hn : mid.length = vs.length) (hv : vs.all scalarB = true)
    (hK : ∀ w', Hp E w' (put (.cells ⟨pre ++ (vs ++ post)⟩ t (0, 0))) → K w') : StC ⟨b, o, none⟩ vs 0 w K := by
  obtain ⟨r, h1, h2⟩ := hf.perm
  have hs : c.size = pre.length + (mid.length + post.length) := by rw [← Array.length_toList, hc]; simp
  refine StC.goM vs 0 o w c (h.perm h1) (by omega) (List.all_eq_true.1 hv) fun c' w' e h' => hK w' ?_
  have : c' = ⟨pre ++ (vs ++ post)⟩ := by
    apply Array.ext'
    rw [e, hc, Nat.add_zero, ← ho, List.take_left, ← hn, ← List.length_append, ← List.append_assoc, List.drop_left, List.append_assoc]
  rw [this] at h'
  exact h'.perm (h2 _)
/-- all of a block -/
theorem StC.xw {vs : List Value} {K : World → Prop} [hf : FindB b l c t (0, 0) put] (h : Hp E w l) (hn : vs.length = c.size) (hv : vs.all scalarB = true)
    (hK : ∀ w', Hp E w' (put (.cells ⟨vs⟩ t (0, 0))) → K w') : StC ⟨b, 0, none⟩ vs 0 w K :=
  StC.xm (pre := []) (mid := c.toList) (post := []) h (by simp) rfl (by simpa using hn.symm) hv (by simpa using hK)
theorem St.xb {o : Nat} {v : Value} {K : World → Prop} [hf : FindB b l c t (0, 0) put] (h : Hp E w l) (hi : o < c.size) (hv : scalarB v = true)
    (hK : ∀ w', Hp E w' (put (.cells (c.setIfInBounds o v) t (0, 0))) → K w') : St ⟨b, o, none⟩ v w K := by
  obtain ⟨r, h1, h2⟩ := hf.perm
  exact St.mk rfl (h.perm h1) hi hv fun w' h' => hK w' (h'.perm (h2 _))
theorem St.xm {o : Nat} {v u : Value} {pre post : List Value} {K : World → Prop} [hf : FindB b l c t (0, 0) put] (h : Hp E w l) (hc : c.toList = pre ++ (u :: post)) (ho : pre.length = o) (hv : scalarB v = true)
    (hK : ∀ w', Hp E w' (put (.cells ⟨pre ++ (v :: post)⟩ t (0, 0))) → K w') : St ⟨b, o, none⟩ v w K := by
  refine St.xb h ?_ hv fun w' h' => hK w' ?_
  · rw [← Array.length_toList, hc]; simp; omega
  · have : c.setIfInBounds o v = ⟨pre ++ (v :: post)⟩ := by
      apply Array.ext'
      rw [Array.toList_setIfInBounds, hc, ← ho]
      simp
    rwa [this] at h'
/-- a list with values written over it -/
def over : List Value → List Value → List Value
  | [], l => l
  | _ :: _, [] => []
  | v :: vs, _ :: l => v :: over vs l
def spl : List Value → Nat → List Value → List Value
  | l, 0, vs => over vs l
  | a :: l, o + 1, vs => a :: spl l o vs
  | [], _ + 1, _ => []
theorem over_eq : ∀ {l vs : List Value}, vs.length ≤ l.length → over vs l = vs ++ l.drop vs.length
  | _, [], _ => rfl
  | [], _ :: _, h => by simp at h
  | a :: l, v :: vs, h => by
    rw [over, over_eq (by simpa using h)]; rfl
theorem spl_eq : ∀ {l : List Value} {o : Nat} {vs : List Value}, o + vs.length ≤ l.length → spl l o vs = l.take o ++ (vs ++ l.drop (o + vs.length))
  | l, 0, vs, h => by
    have : spl l 0 vs = over vs l := by cases l <;> rfl
    rw [this, over_eq (by omega)]; simp
  | a :: l, o + 1, vs, h => by
    rw [spl, spl_eq (by simp at h; omega), show o + 1 + vs.length = o + vs.length + 1 by omega]; rfl
  | [], o + 1, vs, h => by simp at h
theorem StC.xs {o : Nat} {vs : List Value} {K : World → Prop} [hf : FindB b l c t (0, 0) put] (h : Hp E w l) (hb : Nat.ble (o + vs.length) c.toList.length = true) (hv : vs.all scalarB = true)
    (hK : ∀ w', Hp E w' (put (.cells ⟨spl c.toList o vs⟩ t (0, 0))) → K w') : StC ⟨b, o, none⟩ vs 0 w K := by
  have hb := Nat.le_of_ble_eq_true hb
  rw [spl_eq hb] at hK
  refine StC.xm (mid := (c.toList.drop o).take vs.length) h ?_ (by simp; simp at hb; omega) (by simp; simp at hb; omega) hv hK
  rw [← List.drop_drop, List.take_append_drop, List.take_append_drop]
theorem St.xs {o : Nat} {v : Value} {K : World → Prop} [hf : FindB b l c t (0, 0) put] (h : Hp E w l) (hb : Nat.ble (o + 1) c.toList.length = true) (hv : scalarB v = true)
    (hK : ∀ w', Hp E w' (put (.cells ⟨spl c.toList o [v]⟩ t (0, 0))) → K w') : St ⟨b, o, none⟩ v w K := by
  have hb := Nat.le_of_ble_eq_true hb
  have hb2 : o < c.toList.length := by omega
  rw [spl_eq (by simpa using hb)] at hK
  refine St.xm (u := c.toList[o]'hb2) (pre := c.toList.take o) (post := c.toList.drop (o + 1)) h ?_ (by simp; simp at hb; omega) hv (by simpa using hK)
  rw [List.getElem_cons_drop, List.take_append_drop]
theorem StA.xm {n o : Nat} {cs : Array Value} {pre mid post : List Value} {K : World → Prop} [hf : FindB b l c t (0, 0) put] (h : Hp E w l) (hc : c.toList = pre ++ (mid ++ post)) (ho : pre.length = o) (hn : mid.length = n) (hcs : cs.size = n) (hv : ∀ v ∈ cs.toList, scalarB v = true)
    (hK : ∀ w', Hp E w' (put (.cells ⟨pre ++ (cs.toList ++ post)⟩ t (0, 0))) → K w') : StA n ⟨b, o, none⟩ cs w K := by
  obtain ⟨r, h1, h2⟩ := hf.perm
  have hh := h.perm h1
  have hs : c.size = pre.length + (mid.length + post.length) := by rw [← Array.length_toList, hc]; simp
  refine ⟨hcs, fun i hi => ⟨?_, ?_, ?_⟩, ?_⟩
  · have : cs.getD i undef ∈ cs.toList := by simp [Array.getD, hcs, hi]
    exact hv _ this
  · rw [add_mk, hh.cell]; simp; omega
  · rw [add_mk]; simp [World.frozen?, hh.blk]
  · have key : ∀ (vs : List Value) (i : Nat) (w : World) (c : Array Value), Hp E w (Blk b (.cells c t (0, 0)) :: r) → o + i + vs.length ≤ c.size →
        Hp E (StA.setRow w ⟨b, o, none⟩ vs i) (Blk b (.cells ⟨c.toList.take (o + i) ++ vs ++ c.toList.drop (o + i + vs.length)⟩ t (0, 0)) :: r) := by
      intro vs
      induction vs with
      | nil => intro i w c hh hi; simpa [StA.setRow] using hh
      | cons v vs ih =>
        intro i w c hh hi
        simp only [List.length_cons] at hi
        have h2 := hh.setCell (i := o + i) v
        have := ih (i + 1) _ _ h2 (by simp; omega)
        unfold StA.setRow
        rw [add_mk]
        rw [Array.toList_setIfInBounds, show o + (i + 1) = o + i + 1 by omega, List.take_add_one, List.take_set_of_le (by omega), List.getElem?_set_self (by simp; omega), List.drop_set_of_lt (by omega)] at this
        rw [List.length_cons, show o + i + (vs.length + 1) = o + i + 1 + vs.length by omega]
        simpa using this
    have := key cs.toList 0 w c hh (by rw [Array.length_toList]; omega)
    refine hK _ ((this.perm (h2 _)).perm (by
      rw [hc, Nat.add_zero, ← ho, List.take_left, show cs.toList.length = mid.length by simp; omega, ← List.length_append, ← List.append_assoc, List.drop_left, List.append_assoc]))
theorem StA.xw {n : Nat} {cs : Array Value} {K : World → Prop} [hf : FindB b l c t (0, 0) put] (h : Hp E w l) (hn : c.size = n) (hcs : cs.size = n) (hv : ∀ v ∈ cs.toList, scalarB v = true)
    (hK : ∀ w', Hp E w' (put (.cells cs t (0, 0))) → K w') : StA n ⟨b, 0, none⟩ cs w K :=
  StA.xm (pre := []) (mid := c.toList) (post := []) h (by simp) rfl (by simpa using hn) hcs hv (by simpa using hK)
end
end Go.Vc
/- Ss -/
namespace Go.Vc
open Go
/-- bytes -/
@[reducible] def Bt (b : List Nat) : Prop := ∀ x ∈ b, x < 256
theorem Bt.nil : Bt [] := fun _ h => by cases h
theorem Bt.app {a b : List Nat} (ha : Bt a) (hb : Bt b) : Bt (a ++ b) := fun x h => (List.mem_append.1 h).elim (ha x) (hb x)
theorem Bt.take {b : List Nat} (h : Bt b) (n : Nat) : Bt (b.take n) := fun x hx => h x (List.mem_of_mem_take hx)
theorem Bt.drop {b : List Nat} (h : Bt b) (n : Nat) : Bt (b.drop n) := fun x hx => h x (List.mem_of_mem_drop hx)
theorem Bt.cons {x : Nat} {b : List Nat} (h : x < 256) (hb : Bt b) : Bt (x :: b) := fun y hy => (List.mem_cons.1 hy).elim (fun e => e ▸ h) (hb y)
theorem strOf_arr (b : List Nat) : (strOf b).data = (b.map UInt8.ofNat).toArray := by
  have := strOf_data b
  rw [← this]
theorem strOf_size (b : List Nat) : (strOf b).size = b.length := by
  show (strOf b).data.size = _
  rw [strOf_arr]; simp
theorem ba_ext {a b : ByteArray} (h : a.data.toList = b.data.toList) : a = b := by
  cases a; cases b
  congr 1
  exact Array.toList_inj.1 h
theorem strOf_app (a b : List Nat) : strOf a ++ strOf b = strOf (a ++ b) := by
  apply ba_ext
  rw [ByteArray.data_append, Array.toList_append, strOf_data, strOf_data, strOf_data, List.map_append]
theorem str_every (s : ByteArray) : ∃ b, s = strOf b ∧ Bt b := by
  refine ⟨s.data.toList.map UInt8.toNat, ba_ext ?_, fun x hx => ?_⟩
  · rw [strOf_data, List.map_map]
    have : ∀ x : UInt8, (UInt8.ofNat ∘ UInt8.toNat) x = x := fun x => by simp
    rw [List.map_congr_left fun x _ => this x, List.map_id']
  · obtain ⟨y, _, rfl⟩ := List.mem_map.1 hx
    exact y.toNat_lt
theorem strAt_of {b : List Nat} (hb : Bt b) {i : Nat} (h : i < b.length) : strAt (strOf b) i = (b[i] : Int) := by
  have e : (strOf b)[i]? = some (UInt8.ofNat b[i]) := by
    have hs : i < (strOf b).size := by rw [strOf_size]; exact h
    rw [getElem?_pos (strOf b) i hs]
    congr 1
    show (strOf b).data[i]'hs = _
    simp only [strOf_arr, List.getElem_toArray, List.getElem_map]
  have hx := hb b[i] (List.getElem_mem _)
  unfold strAt
  rw [e]
  simp only [Option.map_some, Option.getD_some, UInt8.toNat_ofNat']
  rw [Nat.mod_eq_of_lt hx]
theorem strOf_cut {b : List Nat} (i j : Nat) : (strOf b).extract i j = strOf ((b.take j).drop i) := by
  apply ba_ext
  rw [ByteArray.data_extract, Array.toList_extract, strOf_data, strOf_data]
  simp [List.extract, List.map_drop, List.map_take, List.drop_take]
theorem SlcS.of {b : List Nat} {i j : Int} {K : ByteArray → Prop} (a c : Nat) (hi : i = (a : Int)) (hj : j = (c : Int)) (h1 : a ≤ c) (h2 : c ≤ b.length) (hK : K (strOf ((b.take c).drop a))) : SlcS (strOf b) i j K := by
  subst hi; subst hj
  rw [← strOf_cut] at hK
  refine ⟨by omega, by omega, by rw [strOf_size]; omega, ?_⟩
  simpa using hK
end Go.Vc
/- Rk -/
namespace Go.Rk
section
variable {α : Type} {lt : α → α → Bool}
/-- a strict weak order -/
structure SO (lt : α → α → Bool) : Prop where
  irr : ∀ a, lt a a = false
  trans : ∀ a b c, lt a b = true → lt b c = true → lt a c = true
  ntrans : ∀ a b c, lt a b = false → lt b c = false → lt a c = false
theorem SO.asym (h : SO lt) {a b : α} (hab : lt a b = true) : lt b a = false := by
  cases hb : lt b a with
  | false => rfl
  | true => have := h.trans _ _ _ hab hb; rw [h.irr] at this; cases this
theorem countP_lt {p q : α → Bool} : ∀ {l : List α}, (∀ z ∈ l, p z = true → q z = true) → (∃ x, x ∈ l ∧ q x = true ∧ p x = false) → l.countP p < l.countP q
  | [], _, ⟨x, hx, _⟩ => by cases hx
  | a :: l, h, ⟨x, hx, hq, hp⟩ => by
    have hle : l.countP p ≤ l.countP q := List.countP_mono_left fun z hz => h z (List.mem_cons_of_mem _ hz)
    rw [List.countP_cons, List.countP_cons]
    rcases List.mem_cons.1 hx with rfl | hx
    · rw [hq, hp]; simp; omega
    · have ih := countP_lt (fun z hz => h z (List.mem_cons_of_mem _ hz)) ⟨x, hx, hq, hp⟩
      cases hpa : p a with
      | false => simp; split <;> omega
      | true => rw [h a (by simp) hpa]; simp; omega
/-- in a strictly sorted list as many elements are less than one as stand ahead of it -/
theorem rank_at (h : SO lt) : ∀ {S : List α}, S.Pairwise (fun a b => lt a b = true) → ∀ (j : Nat) (hj : j < S.length), S.countP (fun x => lt x S[j]) = j
  | [], _, j, hj => by simp at hj
  | a :: S, hp, 0, _ => by
    rw [List.pairwise_cons] at hp
    rw [List.countP_cons, List.getElem_cons_zero, h.irr, List.countP_eq_zero.2 fun x hx => by rw [h.asym (hp.1 x hx)]; decide]
    rfl
  | a :: S, hp, j + 1, hj => by
    rw [List.pairwise_cons] at hp
    have hj' : j < S.length := by simpa using hj
    rw [List.countP_cons, List.getElem_cons_succ, rank_at h hp.2 j hj', hp.1 _ (List.getElem_mem hj')]
    rfl
theorem rank_of (h : SO lt) {S : List α} (hp : S.Pairwise (fun a b => lt a b = true)) {x : α} (hx : x ∈ S) : ∃ hj : S.countP (fun y => lt y x) < S.length, S[S.countP (fun y => lt y x)] = x := by
  obtain ⟨j, hj, rfl⟩ := List.getElem_of_mem hx
  have := rank_at h hp j hj
  exact ⟨by omega, by simp only [this]⟩
theorem sorted_eq (h : SO lt) {S T : List α} (hpm : S.Perm T) (hS : S.Pairwise (fun a b => lt a b = true)) (hT : T.Pairwise (fun a b => lt a b = true)) : S = T := by
  apply List.ext_getElem hpm.length_eq
  intro r h1 h3
  have hr := rank_at h hS r h1
  rw [hpm.countP_eq] at hr
  obtain ⟨h4, h5⟩ := rank_of h hT (hpm.mem_iff.1 (List.getElem_mem h1))
  rw [← h5]
  simp only [hr]
/-- the number of elements that are less -/
def rk (lt : α → α → Bool) (dom : List α) (x : α) : Nat := dom.countP fun y => lt y x
theorem rk_lt (h : SO lt) {dom : List α} {x y : α} (hx : x ∈ dom) (hl : lt x y = true) : rk lt dom x < rk lt dom y :=
  countP_lt (fun _ _ hz => h.trans _ _ _ hz hl) ⟨x, hx, hl, h.irr x⟩
def Tot (lt : α → α → Bool) (dom : List α) : Prop := ∀ x ∈ dom, ∀ y ∈ dom, x ≠ y → lt x y = true ∨ lt y x = true
theorem rk_iff (h : SO lt) {dom : List α} (ht : Tot lt dom) {x y : α} (hx : x ∈ dom) (hy : y ∈ dom) : rk lt dom x < rk lt dom y ↔ lt x y = true := by
  constructor
  · intro hlt
    by_cases e : x = y
    · subst e; omega
    · rcases ht x hx y hy e with h1 | h1
      · exact h1
      · have := rk_lt h hy h1; omega
  · exact rk_lt h hx
theorem rk_inj (h : SO lt) {dom : List α} (ht : Tot lt dom) {x y : α} (hx : x ∈ dom) (hy : y ∈ dom) (he : rk lt dom x = rk lt dom y) : x = y := by
  by_cases e : x = y
  · exact e
  · rcases ht x hx y hy e with h1 | h1
    · have := rk_lt h hx h1; omega
    · have := rk_lt h hy h1; omega
theorem rk_le {dom : List α} (x : α) : rk lt dom x ≤ dom.length := List.countP_le_length
/-- the elements in order -/
def srt (lt : α → α → Bool) (dom : List α) : List α := dom.mergeSort fun a b => !lt b a
theorem srt_perm (dom : List α) : (srt lt dom).Perm dom := List.mergeSort_perm ..
theorem srt_len (dom : List α) : (srt lt dom).length = dom.length := (srt_perm dom).length_eq
theorem srt_sorted (h : SO lt) {dom : List α} (hn : dom.Nodup) (ht : Tot lt dom) : (srt lt dom).Pairwise fun a b => lt a b = true := by
  have h1 := List.pairwise_mergeSort (le := fun a b => !lt b a) (fun a b c h1 h2 => by
      simp only [Bool.not_eq_true'] at *; exact h.ntrans _ _ _ h2 h1) (fun a b => by
      cases hab : lt a b with
      | true => simp [h.asym hab]
      | false => simp) dom
  have h2 : (srt lt dom).Nodup := (srt_perm dom).nodup_iff.2 hn
  have h3 : (srt lt dom).Pairwise fun a b => a ∈ dom ∧ b ∈ dom := List.Pairwise.imp_of_mem (fun {a b} ha hb _ => ⟨(srt_perm dom).mem_iff.1 ha, (srt_perm dom).mem_iff.1 hb⟩) h2
  exact ((h1.and h2).and h3).imp fun {a b} hh => by
    rcases ht a hh.2.1 b hh.2.2 hh.1.2 with h4 | h4
    · exact h4
    · have := hh.1.1; simp [h4] at this
theorem srt_at (h : SO lt) {dom : List α} (hn : dom.Nodup) (ht : Tot lt dom) {x : α} (hx : x ∈ dom) : ∃ hj : rk lt dom x < (srt lt dom).length, (srt lt dom)[rk lt dom x] = x := by
  have := rank_of h (srt_sorted h hn ht) ((srt_perm dom).mem_iff.2 hx)
  rw [(srt_perm dom).countP_eq] at this
  exact this
theorem rk_at (h : SO lt) {dom : List α} (hn : dom.Nodup) (ht : Tot lt dom) {r : Nat} (hr : r < (srt lt dom).length) : rk lt dom (srt lt dom)[r] = r := by
  have := rank_at h (srt_sorted h hn ht) r hr
  rwa [(srt_perm dom).countP_eq] at this
theorem rk_lt_len (h : SO lt) {dom : List α} (hn : dom.Nodup) (ht : Tot lt dom) {x : α} (hx : x ∈ dom) : rk lt dom x < dom.length := by
  obtain ⟨hj, _⟩ := srt_at h hn ht hx
  rwa [srt_len] at hj
/-- a list that has each element at its rank is the sorted one -/
theorem placed_eq (h : SO lt) {dom out : List α} (hn : dom.Nodup) (ht : Tot lt dom) (hl : out.length = dom.length) (hp : ∀ x ∈ dom, out[rk lt dom x]? = some x) : out = srt lt dom := by
  apply List.ext_getElem (by rw [srt_len, hl])
  intro r h1 h2
  have hx := (srt_perm dom).mem_iff.1 (List.getElem_mem h2)
  have := hp _ hx
  rw [rk_at h hn ht h2, List.getElem?_eq_getElem h1] at this
  exact Option.some.inj this
end
/-- numbers below n, all of them different, n in number: all of them -/
theorem perm_range {l : List Nat} (hn : l.Nodup) (hb : ∀ x ∈ l, x < l.length) : l.Perm (List.range l.length) := by
  have hso : SO (fun a b : Nat => decide (a < b)) := ⟨fun a => by simp, fun a b c h1 h2 => by simp at *; omega, fun a b c h1 h2 => by simp at *; omega⟩
  have htot : Tot (fun a b : Nat => decide (a < b)) l := fun x _ y _ e => by simp; omega
  have hs := srt_sorted hso hn htot
  have hp := srt_perm (lt := fun a b : Nat => decide (a < b)) l
  generalize srt (fun a b : Nat => decide (a < b)) l = S at hs hp
  have hSl := hp.length_eq
  have low : ∀ i (hi : i < S.length), i ≤ S[i] := by
    intro i
    induction i with
    | zero => intro _; omega
    | succ i ih =>
      intro hi
      have h1 := ih (by omega)
      have h2 := List.pairwise_iff_getElem.1 hs i (i + 1) (by omega) hi (by omega)
      simp at h2; omega
  have high : ∀ d i (hi : i < S.length), S.length - 1 - i = d → S[i] ≤ i := by
    intro d
    induction d with
    | zero =>
      intro i hi hd
      have := hb S[i] (hp.mem_iff.1 (List.getElem_mem hi))
      omega
    | succ d ih =>
      intro i hi hd
      have h1 := ih (i + 1) (by omega) (by omega)
      have h2 := List.pairwise_iff_getElem.1 hs i (i + 1) hi (by omega) (by omega)
      simp at h2; omega
  have : S = List.range l.length := by
    apply List.ext_getElem (by simpa using hSl)
    intro i h1 h2
    have := low i h1
    have := high _ i h1 rfl
    simp; omega
  rw [← this]; exact hp.symm
end Go.Rk
/- ScrP -/
namespace Go.Scr
/-! lines and words -/
def line (t : List Nat) : List Nat := t.takeWhile fun c => c != 10
def lrest (t : List Nat) : List Nat := (t.dropWhile fun c => c != 10).drop 1
theorem lrest_lt {t : List Nat} (h : t ≠ []) : (lrest t).length < t.length := by
  unfold lrest
  have h1 := List.takeWhile_append_dropWhile (p := fun c : Nat => c != 10) (l := t)
  have h2 := congrArg List.length h1
  rw [List.length_append] at h2
  rw [List.length_drop]
  rcases Nat.eq_zero_or_pos (t.dropWhile fun c => c != 10).length with e | e
  · have := List.length_pos_iff.2 h
    omega
  · omega
def lns (t : List Nat) : List (List Nat) := if _h : t = [] then [] else line t :: lns (lrest t)
termination_by t.length
decreasing_by exact lrest_lt _h
theorem lns_nil : lns [] = [] := by rw [lns]; simp
theorem lns_pos {t : List Nat} (h : t ≠ []) : lns t = line t :: lns (lrest t) := by rw [lns, dif_neg h]
theorem line_app {l r : List Nat} (h : 10 ∉ l) : line (l ++ 10 :: r) = l ∧ lrest (l ++ 10 :: r) = r := by
  have hl : ∀ x ∈ l, (x != 10) = true := fun x hx => by rw [bne_iff_ne]; intro e; exact h (e ▸ hx)
  unfold line lrest
  rw [List.takeWhile_append_of_pos hl, List.dropWhile_append_of_pos hl]
  simp
theorem line_all {l : List Nat} (h : 10 ∉ l) : line l = l ∧ lrest l = [] := by
  have hl : ∀ x ∈ l, (x != 10) = true := fun x hx => by rw [bne_iff_ne]; intro e; exact h (e ▸ hx)
  unfold line lrest
  have h1 : l.takeWhile (fun c => c != 10) = l := by
    have := List.takeWhile_append_of_pos (p := fun c : Nat => c != 10) (l₂ := []) hl
    simpa using this
  have h2 : l.dropWhile (fun c => c != 10) = [] := by
    have := List.dropWhile_append_of_pos (p := fun c : Nat => c != 10) (l₂ := []) hl
    simpa using this
  rw [h1, h2]; simp
theorem lns_app {l r : List Nat} (h : 10 ∉ l) : lns (l ++ 10 :: r) = l :: lns r := by
  rw [lns_pos (by simp), (line_app h).1, (line_app h).2]
theorem lns_one {l : List Nat} (h : 10 ∉ l) (h0 : l ≠ []) : lns l = [l] := by
  rw [lns_pos h0, (line_all h).1, (line_all h).2, lns_nil]
def unl (l : List (List Nat)) : List Nat := l.flatMap fun x => x ++ [10]
theorem unl_cons (x : List Nat) (l : List (List Nat)) : unl (x :: l) = x ++ 10 :: unl l := by simp [unl]
theorem lns_unl : ∀ {l : List (List Nat)} (r : List Nat), (∀ x ∈ l, 10 ∉ x) → lns (unl l ++ r) = l ++ lns r
  | [], r, _ => rfl
  | x :: l, r, h => by
    rw [unl_cons, List.append_assoc, List.cons_append, lns_app (h x List.mem_cons_self), lns_unl r fun y hy => h y (List.mem_cons_of_mem _ hy)]
    rfl
theorem line_no : ∀ t : List Nat, 10 ∉ line t
  | [] => by simp [line]
  | x :: t => by
    have ih := line_no t
    unfold line at ih ⊢
    rw [List.takeWhile_cons]
    split
    · rename_i h
      intro hm
      rcases List.mem_cons.1 hm with e | e
      · rw [← e] at h; simp at h
      · exact ih e
    · simp
theorem lns_no (t : List Nat) : ∀ x ∈ lns t, 10 ∉ x := by
  induction hk : t.length using Nat.strongRecOn generalizing t with
  | ind k ih =>
    by_cases h : t = []
    · rw [h, lns_nil]; intro x hx; cases hx
    · rw [lns_pos h]
      intro x hx
      rcases List.mem_cons.1 hx with e | e
      · rw [e]; exact line_no t
      · exact ih (lrest t).length (by have := lrest_lt h; omega) (lrest t) rfl x e
def wds (t : List Nat) : List (List Nat) := if _h : t = [] then [] else
  if t.head? = some 32 then wds (t.drop 1) else (t.takeWhile fun c => c != 32) :: wds ((t.dropWhile fun c => c != 32).drop 1)
termination_by t.length
decreasing_by
  · have := List.length_pos_iff.2 _h
    rw [List.length_drop]; omega
  · have h1 := congrArg List.length (List.takeWhile_append_dropWhile (p := fun c : Nat => c != 32) (l := t))
    have := List.length_pos_iff.2 _h
    rw [List.length_append] at h1
    rw [List.length_drop]
    rcases Nat.eq_zero_or_pos (t.dropWhile fun c => c != 32).length with e | e <;> omega
theorem wds_nil : wds [] = [] := by rw [wds]; simp
theorem wds_sp (t : List Nat) : wds (32 :: t) = wds t := by rw [wds, dif_neg (by simp), if_pos (by simp)]; rfl
theorem wds_app {w r : List Nat} (h0 : w ≠ []) (h : 32 ∉ w) : wds (w ++ 32 :: r) = w :: wds r := by
  have hl : ∀ x ∈ w, (x != 32) = true := fun x hx => by rw [bne_iff_ne]; intro e; exact h (e ▸ hx)
  rw [wds, dif_neg (by simp), if_neg, List.takeWhile_append_of_pos hl, List.dropWhile_append_of_pos hl]
  · simp
  · cases w with
    | nil => exact absurd rfl h0
    | cons x w =>
      intro e
      simp at e
      exact h (by simp [e])
theorem wds_one {w : List Nat} (h0 : w ≠ []) (h : 32 ∉ w) : wds w = [w] := by
  have hl : ∀ x ∈ w, (x != 32) = true := fun x hx => by rw [bne_iff_ne]; intro e; exact h (e ▸ hx)
  have h1 : w.takeWhile (fun c => c != 32) = w := by
    have := List.takeWhile_append_of_pos (p := fun c : Nat => c != 32) (l₂ := []) hl
    simpa using this
  have h2 : w.dropWhile (fun c => c != 32) = [] := by
    have := List.dropWhile_append_of_pos (p := fun c : Nat => c != 32) (l₂ := []) hl
    simpa using this
  rw [wds, dif_neg h0, if_neg, h1, h2]
  · simp [wds_nil]
  · cases w with
    | nil => exact absurd rfl h0
    | cons x w =>
      intro e
      simp at e
      exact h (by simp [e])
/-- words with spaces ahead -/
def sps (l : List (List Nat)) : List Nat := l.flatMap fun w => 32 :: w
theorem wds_sps : ∀ (l : List (List Nat)) (w : List Nat), w ≠ [] → 32 ∉ w → (∀ x ∈ l, x ≠ [] ∧ 32 ∉ x) → wds (w ++ sps l) = w :: l
  | [], w, h0, h, _ => by simp [sps, wds_one h0 h]
  | x :: l, w, h0, h, hl => by
    have e : w ++ sps (x :: l) = w ++ 32 :: (x ++ sps l) := by simp [sps]
    rw [e, wds_app h0 h, wds_sps l x (hl x List.mem_cons_self).1 (hl x List.mem_cons_self).2 fun y hy => hl y (List.mem_cons_of_mem _ hy)]
/-! bytes as words -/
def hx (n : Nat) : Nat := if n < 10 then 48 + n else 87 + n
def unhx (c : Nat) : Option Nat := if 48 ≤ c ∧ c ≤ 57 then some (c - 48) else if 97 ≤ c ∧ c ≤ 102 then some (c - 87) else none
theorem unhx_hx {n : Nat} (h : n < 16) : unhx (hx n) = some n := by
  unfold unhx hx
  by_cases q : n < 10
  · rw [if_pos q, if_pos (by omega)]; congr 1; omega
  · rw [if_neg q, if_neg (by omega), if_pos (by omega)]; congr 1; omega
def hexB (b : List Nat) : List Nat := b.flatMap fun c => [hx (c / 16), hx (c % 16)]
def hexW (b : List Nat) : List Nat := if b = [] then [45] else hexB b
def pairsH : List Nat → Option (List Nat)
  | [] => some []
  | [_] => none
  | a :: b :: r => match unhx a, unhx b with
    | some x, some y => (pairsH r).map fun l => (16 * x + y) :: l
    | _, _ => none
def unhexW (w : List Nat) : Option (List Nat) := if w = [45] then some [] else if w = [] then none else pairsH w
theorem pairsH_hex : ∀ {b : List Nat}, (∀ c ∈ b, c < 256) → pairsH (hexB b) = some b
  | [], _ => rfl
  | c :: b, h => by
    have hc := h c List.mem_cons_self
    have ih := pairsH_hex (b := b) fun x hx => h x (List.mem_cons_of_mem _ hx)
    show pairsH (hx (c / 16) :: hx (c % 16) :: hexB b) = _
    rw [pairsH, unhx_hx (by omega), unhx_hx (by omega), ih]
    simp only [Option.map_some]
    congr 2; omega
theorem hexB_len (b : List Nat) : (hexB b).length = 2 * b.length := by
  unfold hexB
  induction b with
  | nil => rfl
  | cons c b ih => rw [List.flatMap_cons, List.length_append, ih, List.length_cons]; simp; omega
theorem unhexW_hex {b : List Nat} (h : ∀ c ∈ b, c < 256) : unhexW (hexW b) = some b := by
  unfold unhexW hexW
  by_cases e : b = []
  · subst e; rfl
  · have hl := hexB_len b
    have := List.length_pos_iff.2 e
    rw [if_neg e, if_neg (fun q => by rw [q] at hl; simp at hl; omega), if_neg (fun q => by rw [q] at hl; simp at hl; omega), pairsH_hex h]
theorem hx_in {n : Nat} (h : n < 16) : (48 ≤ hx n ∧ hx n ≤ 57) ∨ (97 ≤ hx n ∧ hx n ≤ 102) := by unfold hx; split <;> omega
theorem hexB_in {b : List Nat} (h : ∀ c ∈ b, c < 256) : ∀ x ∈ hexB b, (48 ≤ x ∧ x ≤ 57) ∨ (97 ≤ x ∧ x ≤ 102) := fun x hx => by
  obtain ⟨c, hc, hx⟩ := List.mem_flatMap.1 hx
  have := h c hc
  simp at hx
  rcases hx with e | e
  · rw [e]; exact hx_in (by omega)
  · rw [e]; exact hx_in (by omega)
theorem hexW_ok {b : List Nat} (h : ∀ c ∈ b, c < 256) : hexW b ≠ [] ∧ 32 ∉ hexW b ∧ 10 ∉ hexW b := by
  unfold hexW
  split
  · decide
  · rename_i e
    have hl := hexB_len b
    have := List.length_pos_iff.2 e
    refine ⟨fun q => by rw [q] at hl; simp at hl; omega, fun q => ?_, fun q => ?_⟩
    · have := hexB_in h _ q; omega
    · have := hexB_in h _ q; omega
/-! numbers -/
def dec (n : Nat) : List Nat := if _h : n < 10 then [48 + n] else dec (n / 10) ++ [48 + n % 10]
termination_by n
decreasing_by omega
def decI (z : Int) : List Nat := if z < 0 then 45 :: dec z.natAbs else dec z.natAbs
def val10 (d : List Nat) : Nat := d.foldl (fun n c => 10 * n + (c - 48)) 0
def digs (d : List Nat) : Bool := d.all fun c => decide (48 ≤ c) && decide (c ≤ 57)
def far : Nat := 4611686018427387904
def num (w : List Nat) : Option Int :=
  let d := if w.head? = some 45 then w.drop 1 else w
  if d = [] ∨ (d.head? = some 48 ∧ 1 < w.length) ∨ digs d = false ∨ far < val10 d then none
  else some (if w.head? = some 45 then -(val10 d : Int) else (val10 d : Int))
theorem dec_ne (n : Nat) : dec n ≠ [] := by
  rw [dec]; split <;> simp
theorem dec_digs (n : Nat) : ∀ c ∈ dec n, 48 ≤ c ∧ c ≤ 57 := by
  induction n using Nat.strongRecOn with
  | ind n ih =>
    rw [dec]
    split
    · intro c hc
      rw [List.mem_singleton] at hc; omega
    · intro c hc
      rcases List.mem_append.1 hc with h | h
      · exact ih (n / 10) (by omega) c h
      · rw [List.mem_singleton] at h; omega
theorem dec_val (n : Nat) : val10 (dec n) = n := by
  induction n using Nat.strongRecOn with
  | ind n ih =>
    rw [dec]
    split
    · show 10 * 0 + (48 + n - 48) = n
      omega
    · have := ih (n / 10) (by omega)
      unfold val10 at this ⊢
      rw [List.foldl_append, this]
      show 10 * (n / 10) + (48 + n % 10 - 48) = n
      omega
theorem dec_head (n : Nat) : (dec n).head? = some 48 → n = 0 := by
  induction n using Nat.strongRecOn with
  | ind n ih =>
    rw [dec]
    split
    · intro h
      simp at h; omega
    · rename_i hn
      intro h
      have hne := dec_ne (n / 10)
      have : (dec (n / 10)).head? = some 48 := by
        cases hd : dec (n / 10) with
        | nil => exact absurd hd hne
        | cons x r => rw [hd] at h; simpa using h
      have := ih (n / 10) (by omega) this
      omega
theorem dec_head_ne (n : Nat) : (dec n).head? ≠ some 45 := by
  intro h
  have : 45 ∈ dec n := List.mem_of_mem_head? (by rw [h]; rfl)
  have := dec_digs n _ this
  omega
theorem digs_dec (n : Nat) : digs (dec n) = true := by
  unfold digs
  rw [List.all_eq_true]
  intro c hc
  have := dec_digs n c hc
  simp [this]
theorem num_dec {z : Int} (h1 : -(far : Int) ≤ z) (h2 : z ≤ far) : num (decI z) = some z := by
  have hv := dec_val z.natAbs
  unfold num decI
  by_cases hz : z < 0
  · rw [if_pos hz]
    simp only [List.head?_cons, if_true, List.drop_one, List.tail_cons]
    rw [if_neg, hv]
    · congr 1; omega
    · rintro (e | e | e | e)
      · exact dec_ne _ e
      · have := dec_head _ e.1; omega
      · rw [digs_dec] at e; cases e
      · rw [hv] at e; omega
  · rw [if_neg hz]
    have hh := dec_head_ne z.natAbs
    simp only [if_neg hh]
    rw [if_neg, hv]
    · congr 1; omega
    · rintro (e | e | e | e)
      · exact dec_ne _ e
      · have h0 := dec_head _ e.1
        have : z = 0 := by omega
        subst this
        have := e.2
        rw [show dec (0 : Int).natAbs = [48] by decide +kernel] at this
        simp at this
      · rw [digs_dec] at e; cases e
      · rw [hv] at e; omega
theorem decI_ok (z : Int) : decI z ≠ [] ∧ 32 ∉ decI z ∧ 10 ∉ decI z := by
  unfold decI
  have hd := dec_digs z.natAbs
  split
  · refine ⟨by simp, fun h => ?_, fun h => ?_⟩
    · rcases List.mem_cons.1 h with e | e
      · omega
      · have := hd _ e; omega
    · rcases List.mem_cons.1 h with e | e
      · omega
      · have := hd _ e; omega
  · refine ⟨dec_ne _, fun h => ?_, fun h => ?_⟩
    · have := hd _ h; omega
    · have := hd _ h; omega
end Go.Scr
/- ScrQ -/
namespace Go.Scr
structure Scn where
  size : Int
  budget : Int
  deeds : List (Bool × List Nat)
  spoils : List (Int × Nat)
  drop : Int
  behind : List Nat
  room : Int
  cuts : List Int
deriving DecidableEq
def scn0 : Scn := ⟨0, 0, [], [], 0, [], 0, []⟩
def sSize : List Nat := [115, 105, 122, 101]
def sBudget : List Nat := [98, 117, 100, 103, 101, 116]
def sRoom : List Nat := [114, 111, 111, 109]
def sDrop : List Nat := [100, 114, 111, 112]
def sWrite : List Nat := [119, 114, 105, 116, 101]
def sBehind : List Nat := [98, 101, 104, 105, 110, 100]
def sFlush : List Nat := [102, 108, 117, 115, 104]
def sCuts : List Nat := [99, 117, 116, 115]
def sSpoil : List Nat := [115, 112, 111, 105, 108]
def nums : List (List Nat) → Option (List Int)
  | [] => some []
  | w :: l => match num w, nums l with
    | some z, some zs => some (z :: zs)
    | _, _ => none
/-- what a line does, by its words -/
def saysW (s : Scn) : List (List Nat) → Option Scn
  | [] => some s
  | name :: w =>
    if name.head? = some 35 then some s
    else if name = sSize then (match w with | [x] => (num x).map fun z => { s with size := z } | _ => none)
    else if name = sBudget then (match w with | [x] => (num x).map fun z => { s with budget := z } | _ => none)
    else if name = sRoom then (match w with | [x] => (num x).map fun z => { s with room := z } | _ => none)
    else if name = sDrop then (match w with | [x] => (num x).map fun z => { s with drop := z } | _ => none)
    else if name = sWrite then (match w with | [x] => (unhexW x).map fun b => { s with deeds := s.deeds ++ [(false, b)] } | _ => none)
    else if name = sBehind then (match w with | [x] => (unhexW x).map fun b => { s with behind := s.behind ++ b } | _ => none)
    else if name = sFlush then (match w with | [] => some { s with deeds := s.deeds ++ [(true, [])] } | _ => none)
    else if name = sCuts then (match w with | [] => none | _ => (nums w).map fun zs => { s with cuts := s.cuts ++ zs })
    else if name = sSpoil then (match w with
      | [x, y] => match num x, unhexW y with
        | some z, some [b] => some { s with spoils := s.spoils ++ [(z, b)] }
        | _, _ => none
      | _ => none)
    else none
def says (s : Scn) (l : List Nat) : Option Scn := saysW s (wds l)
/-- lines, from one with the number n on: the scenario, or the number of the line that is wrong -/
def plays (s : Scn) (n : Nat) : List (List Nat) → Except Nat Scn
  | [] => .ok s
  | l :: r => match says s l with
    | some s' => plays s' (n + 1) r
    | none => .error n
/-- the scenario of a text; or the number of a wrong line, or 0 if the text is too long -/
def parse (t : List Nat) : Except Nat Scn := if 65536 < t.length ∨ 1000 < (lns t).length then .error 0 else plays scn0 1 (lns t)
/-! printed -/
def rowL (name : List Nat) (l : List Int) : List Nat := name ++ sps (l.map decI)
def deedL (d : Bool × List Nat) : List Nat := if d.1 then sFlush else sWrite ++ sps [hexW d.2]
def spoilL (x : Int × Nat) : List Nat := sSpoil ++ sps [decI x.1, hexW [x.2]]
def linesOf (s : Scn) : List (List Nat) := [rowL sSize [s.size], rowL sBudget [s.budget]] ++ s.deeds.map deedL ++ s.spoils.map spoilL ++ [rowL sDrop [s.drop]] ++ (if s.behind = [] then [] else [sBehind ++ sps [hexW s.behind]]) ++ [rowL sRoom [s.room]] ++ (if s.cuts = [] then [] else [rowL sCuts s.cuts])
def inFar (z : Int) : Prop := -(far : Int) ≤ z ∧ z ≤ far
instance (z : Int) : Decidable (inFar z) := by unfold inFar; infer_instance
def told (s : Scn) : Prop := inFar s.size ∧ inFar s.budget ∧ inFar s.room ∧ inFar s.drop ∧ (∀ z ∈ s.cuts, inFar z) ∧ ∀ x ∈ s.spoils, inFar x.1
instance (s : Scn) : Decidable (told s) := by unfold told; infer_instance
def printS (s : Scn) : Option (List Nat) := if told s ∧ (unl (linesOf s)).length ≤ 65536 ∧ (lns (unl (linesOf s))).length ≤ 1000 then some (unl (linesOf s)) else none
structure Good (s : Scn) : Prop where
  deeds : ∀ d ∈ s.deeds, ∀ c ∈ d.2, c < 256
  spoils : ∀ x ∈ s.spoils, x.2 < 256
  behind : ∀ c ∈ s.behind, c < 256
/-- flushes hold no bytes -/
def norm (s : Scn) : Scn := { s with deeds := s.deeds.map fun d => if d.1 then (true, []) else d }
theorem nums_dec : ∀ {l : List Int}, (∀ z ∈ l, inFar z) → nums (l.map decI) = some l
  | [], _ => rfl
  | z :: l, h => by
    have hz := h z List.mem_cons_self
    rw [List.map_cons, nums, num_dec hz.1 hz.2, nums_dec fun y hy => h y (List.mem_cons_of_mem _ hy)]
theorem wds_row {name : List Nat} {l : List (List Nat)} (h0 : name ≠ []) (h : 32 ∉ name) (hl : ∀ x ∈ l, x ≠ [] ∧ 32 ∉ x) : wds (name ++ sps l) = name :: l := wds_sps l name h0 h hl
theorem decs_ok (l : List Int) : ∀ x ∈ l.map decI, x ≠ [] ∧ 32 ∉ x := fun x hx => by
  obtain ⟨z, _, rfl⟩ := List.mem_map.1 hx
  exact ⟨(decI_ok z).1, (decI_ok z).2.1⟩
theorem says_size {s : Scn} {z : Int} (h : inFar z) : says s (rowL sSize [z]) = some { s with size := z } := by
  unfold says rowL
  rw [wds_row (by decide) (by decide) (decs_ok _)]
  simp [saysW, num_dec h.1 h.2, sSize]
theorem says_budget {s : Scn} {z : Int} (h : inFar z) : says s (rowL sBudget [z]) = some { s with budget := z } := by
  unfold says rowL
  rw [wds_row (by decide) (by decide) (decs_ok _)]
  simp [saysW, num_dec h.1 h.2, sBudget, sSize]
theorem says_room {s : Scn} {z : Int} (h : inFar z) : says s (rowL sRoom [z]) = some { s with room := z } := by
  unfold says rowL
  rw [wds_row (by decide) (by decide) (decs_ok _)]
  simp [saysW, num_dec h.1 h.2, sBudget, sSize, sRoom]
theorem says_drop {s : Scn} {z : Int} (h : inFar z) : says s (rowL sDrop [z]) = some { s with drop := z } := by
  unfold says rowL
  rw [wds_row (by decide) (by decide) (decs_ok _)]
  simp [saysW, num_dec h.1 h.2, sBudget, sSize, sRoom, sDrop]
theorem says_deed {s : Scn} {d : Bool × List Nat} (h : ∀ c ∈ d.2, c < 256) : says s (deedL d) = some { s with deeds := s.deeds ++ [if d.1 then (true, []) else d] } := by
  unfold says deedL
  obtain ⟨b, x⟩ := d
  have hw := hexW_ok h
  cases b with
  | true =>
    simp only [if_true]
    rw [wds_one (by decide) (by decide)]
    simp [saysW, sBudget, sSize, sRoom, sDrop, sWrite, sBehind, sFlush]
  | false =>
    simp only [Bool.false_eq_true, if_false]
    rw [wds_row (by decide) (by decide) (by simpa using ⟨hw.1, hw.2.1⟩)]
    simp [saysW, unhexW_hex h, sBudget, sSize, sRoom, sDrop, sWrite]
theorem says_behind {s : Scn} {b : List Nat} (h : ∀ c ∈ b, c < 256) : says s (sBehind ++ sps [hexW b]) = some { s with behind := s.behind ++ b } := by
  unfold says
  have hw := hexW_ok h
  rw [wds_row (by decide) (by decide) (by simpa using ⟨hw.1, hw.2.1⟩)]
  simp [saysW, unhexW_hex h, sBudget, sSize, sRoom, sDrop, sWrite, sBehind]
theorem says_cuts {s : Scn} {l : List Int} (h0 : l ≠ []) (h : ∀ z ∈ l, inFar z) : says s (rowL sCuts l) = some { s with cuts := s.cuts ++ l } := by
  unfold says rowL
  rw [wds_row (by decide) (by decide) (decs_ok _)]
  have hn := nums_dec h
  cases l with
  | nil => exact absurd rfl h0
  | cons z l =>
    rw [List.map_cons] at hn ⊢
    simp [saysW, hn, sBudget, sSize, sRoom, sDrop, sWrite, sBehind, sFlush, sCuts]
theorem says_spoil {s : Scn} {x : Int × Nat} (h : inFar x.1) (hb : x.2 < 256) : says s (spoilL x) = some { s with spoils := s.spoils ++ [x] } := by
  unfold says spoilL
  have hw := hexW_ok (b := [x.2]) (by simpa using hb)
  have hd := decI_ok x.1
  rw [wds_row (by decide) (by decide) (by simpa using ⟨⟨hd.1, hd.2.1⟩, hw.1, hw.2.1⟩)]
  simp [saysW, num_dec h.1 h.2, unhexW_hex (b := [x.2]) (by simpa using hb), sBudget, sSize, sRoom, sDrop, sWrite, sBehind, sFlush, sCuts, sSpoil]
theorem plays_cons {s s' : Scn} {n : Nat} {l : List Nat} {r : List (List Nat)} (h : says s l = some s') : plays s n (l :: r) = plays s' (n + 1) r := by rw [plays, h]
theorem plays_app {a r : List (List Nat)} : ∀ {s : Scn} {n : Nat}, plays s n (a ++ r) = match plays s n a with
    | .ok s' => plays s' (n + a.length) r
    | .error k => .error k := by
  induction a with
  | nil => intro s n; rfl
  | cons l a ih =>
    intro s n
    rw [List.cons_append, plays, plays]
    cases says s l with
    | none => rfl
    | some s' =>
      simp only
      rw [ih, List.length_cons, show n + 1 + a.length = n + (a.length + 1) by omega]
theorem plays_deeds : ∀ (ds : List (Bool × List Nat)) (s : Scn) (n : Nat), (∀ d ∈ ds, ∀ c ∈ d.2, c < 256) → plays s n (ds.map deedL) = .ok { s with deeds := s.deeds ++ ds.map fun d => if d.1 then (true, []) else d }
  | [], s, n, _ => by simp [plays]
  | d :: ds, s, n, h => by
    rw [List.map_cons, plays_cons (says_deed (h d List.mem_cons_self)), plays_deeds ds _ _ fun x hx => h x (List.mem_cons_of_mem _ hx)]
    simp
theorem plays_spoils : ∀ (xs : List (Int × Nat)) (s : Scn) (n : Nat), (∀ x ∈ xs, inFar x.1 ∧ x.2 < 256) → plays s n (xs.map spoilL) = .ok { s with spoils := s.spoils ++ xs }
  | [], s, n, _ => by simp [plays]
  | x :: xs, s, n, h => by
    have hx := h x List.mem_cons_self
    rw [List.map_cons, plays_cons (says_spoil hx.1 hx.2), plays_spoils xs _ _ fun y hy => h y (List.mem_cons_of_mem _ hy)]
    simp
/-- a printed scenario is read back -/
theorem plays_lines {s : Scn} (ht : told s) (hg : Good s) : plays scn0 1 (linesOf s) = .ok (norm s) := by
  obtain ⟨h1, h2, h3, h4, h5, h6⟩ := ht
  unfold linesOf
  rw [plays_app, plays_app, plays_app, plays_app, plays_app, plays_app]
  rw [plays_cons (says_size h1), plays_cons (says_budget h2), plays]
  simp only
  rw [plays_deeds _ _ _ hg.deeds]
  simp only
  rw [plays_spoils _ _ _ fun x hx => ⟨h6 x hx, hg.spoils x hx⟩]
  simp only
  rw [plays_cons (says_drop h4), plays]
  simp only
  by_cases hb : s.behind = []
  · rw [if_pos hb, plays]
    simp only
    rw [plays_cons (says_room h3), plays]
    simp only
    by_cases hc : s.cuts = []
    · rw [if_pos hc, plays]
      simp [norm, scn0, hb, hc]
    · rw [if_neg hc, plays_cons (says_cuts hc h5), plays]
      simp [norm, scn0, hb]
  · rw [if_neg hb, plays_cons (says_behind hg.behind), plays]
    simp only
    rw [plays_cons (says_room h3), plays]
    simp only
    by_cases hc : s.cuts = []
    · rw [if_pos hc, plays]
      simp [norm, scn0, hc]
    · rw [if_neg hc, plays_cons (says_cuts hc h5), plays]
      simp [norm, scn0]
/-! texts -/
theorem sps_no {l : List (List Nat)} (h : ∀ x ∈ l, 10 ∉ x) : 10 ∉ sps l := fun hm => by
  obtain ⟨w, hw, hm⟩ := List.mem_flatMap.1 hm
  rcases List.mem_cons.1 hm with e | e
  · cases e
  · exact h w hw e
theorem app_no {a b : List Nat} (ha : 10 ∉ a) (hb : 10 ∉ b) : 10 ∉ a ++ b := fun h => (List.mem_append.1 h).elim ha hb
theorem rowL_no {name : List Nat} (h : 10 ∉ name) (l : List Int) : 10 ∉ rowL name l := app_no h (sps_no fun x hx => by
  obtain ⟨z, _, rfl⟩ := List.mem_map.1 hx
  exact (decI_ok z).2.2)
theorem linesOf_no {s : Scn} (hg : Good s) : ∀ x ∈ linesOf s, 10 ∉ x := by
  intro x hx
  unfold linesOf at hx
  simp only [List.mem_append, List.mem_cons, List.not_mem_nil, or_false, List.mem_map] at hx
  rcases hx with (((((h | h) | h) | h) | h) | h) | h
  · rcases h with h | h <;> rw [h] <;> exact rowL_no (by decide) _
  · obtain ⟨d, hd, rfl⟩ := h
    unfold deedL
    split
    · decide
    · exact app_no (by decide) (sps_no (by simpa using (hexW_ok (hg.deeds d hd)).2.2))
  · obtain ⟨y, hy, rfl⟩ := h
    exact app_no (by decide) (sps_no (by simpa using ⟨(decI_ok y.1).2.2, (hexW_ok (b := [y.2]) (by simpa using hg.spoils y hy)).2.2⟩))
  · rw [h]; exact rowL_no (by decide) _
  · split at h
    · simp at h
    · rw [List.mem_singleton] at h
      rw [h]; exact app_no (by decide) (sps_no (by simpa using (hexW_ok hg.behind).2.2))
  · rw [h]; exact rowL_no (by decide) _
  · split at h
    · simp at h
    · rw [List.mem_singleton] at h
      rw [h]; exact rowL_no (by decide) _
theorem lns_unl' {l : List (List Nat)} (h : ∀ x ∈ l, 10 ∉ x) : lns (unl l) = l := by
  have := lns_unl (l := l) [] h
  rwa [List.append_nil, lns_nil, List.append_nil] at this
/-- what was printed is read back -/
theorem parse_print {s : Scn} {t : List Nat} (hg : Good s) (h : printS s = some t) : parse t = .ok (norm s) := by
  unfold printS at h
  split at h
  · rename_i hc
    injection h with h
    subst h
    unfold parse
    rw [if_neg (by omega), lns_unl' (linesOf_no hg), plays_lines hc.1 hg]
  · cases h
theorem linesOf_norm (s : Scn) : linesOf (norm s) = linesOf s := by
  unfold linesOf norm
  simp only [List.map_map]
  congr 6
  refine List.map_congr_left fun d _ => ?_
  simp only [Function.comp]
  unfold deedL
  split <;> simp_all
theorem print_norm {s : Scn} : printS (norm s) = printS s := by
  unfold printS
  rw [linesOf_norm]
  rfl
/-! lines that say nothing -/
theorem says_empty (s : Scn) : says s [] = some s := by unfold says; rw [wds_nil]; rfl
theorem wds_head {c : Nat} (r : List Nat) (h : c ≠ 32) : ∃ w l, wds (c :: r) = (c :: w) :: l := by
  rw [wds, dif_neg (by simp), if_neg (by simpa using h), List.takeWhile_cons_of_pos (by simpa using h)]
  exact ⟨_, _, rfl⟩
theorem says_remark (s : Scn) (r : List Nat) : says s (32 :: 32 :: 35 :: r) = some s := by
  obtain ⟨w, l, e⟩ := wds_head (c := 35) r (by decide)
  unfold says
  rw [wds_sp, wds_sp, e]
  simp [saysW]
theorem says_flush1 (s : Scn) : says s (sFlush ++ [32, 49]) = none := by
  unfold says
  have : wds (sFlush ++ [32, 49]) = [sFlush, [49]] := by
    show wds (sFlush ++ sps [[49]]) = _
    rw [wds_sps _ _ (by decide) (by decide) (by simp)]
  rw [this]
  simp [saysW, sBudget, sSize, sRoom, sDrop, sWrite, sBehind, sFlush]
theorem plays_shift : ∀ (l : List (List Nat)) (s : Scn) (n k : Nat), plays s (n + k) l = match plays s n l with
    | .ok s' => .ok s'
    | .error m => .error (m + k)
  | [], s, n, k => rfl
  | l :: r, s, n, k => by
    rw [plays, plays]
    cases says s l with
    | none => rfl
    | some s' =>
      simp only
      rw [show n + k + 1 = n + 1 + k by omega]
      exact plays_shift r s' (n + 1) k
theorem plays_err : ∀ (l : List (List Nat)) (s : Scn) (n m : Nat), plays s n l = .error m → n ≤ m ∧ m < n + l.length
  | [], s, n, m, h => by cases h
  | l :: r, s, n, m, h => by
    rw [plays] at h
    cases hs : says s l with
    | none =>
      rw [hs] at h
      simp only at h
      injection h with h
      rw [List.length_cons]; omega
    | some s' =>
      rw [hs] at h
      have := plays_err r s' (n + 1) m h
      rw [List.length_cons]; omega
/-- two lines that say nothing, set in -/
theorem plays_ins (l : List (List Nat)) (r : List Nat) (k : Nat) (hk : k ≤ l.length) (s : Scn) : plays s 1 (l.take k ++ ([] :: (32 :: 32 :: 35 :: r) :: l.drop k)) = match plays s 1 l with
    | .ok s' => .ok s'
    | .error m => .error (if k < m then m + 2 else m) := by
  have e : plays s 1 l = plays s 1 (l.take k ++ l.drop k) := by rw [List.take_append_drop]
  rw [e, plays_app, plays_app]
  cases h1 : plays s 1 (l.take k) with
  | error m =>
    have := plays_err _ _ _ _ h1
    rw [List.length_take] at this
    simp only
    rw [if_neg (by omega)]
  | ok s' =>
    simp only
    rw [plays_cons (says_empty s'), plays_cons (says_remark s' r), List.length_take, Nat.min_eq_left hk, show 1 + k + 1 + 1 = 1 + k + 2 by omega, plays_shift]
    cases h2 : plays s' (1 + k) (l.drop k) with
    | ok s'' => rfl
    | error m =>
      have := plays_err _ _ _ _ h2
      simp only
      rw [if_pos (by omega)]
end Go.Scr
/- ScA -/
namespace Go.Proofs.YtdfalolgngnelaaDoor
open Go Go.Vc Go.Scr
set_option linter.unusedSectionVars false
theorem ty_bytes : ElemT Tryd.prog 24 5 1 1 := ElemT.of (by kernel_rfl) (by kernel_rfl)
section
variable {E w : World} {F : List HP}
set_option maxRecDepth 20000
/-- a digit's value, or -1 -/
def dgI (c : Nat) : Int := match unhx c with
  | some v => (v : Int)
  | none => -1
theorem unhx_lt {c v : Nat} (h : unhx c = some v) : v < 16 := by
  unfold unhx at h
  split at h
  · cases h; omega
  · split at h
    · cases h; omega
    · cases h
theorem dgI_neg {c : Nat} : dgI c < 0 ↔ unhx c = none := by
  unfold dgI
  cases h : unhx c with
  | none => simp
  | some v => simp
theorem dgI_some {c v : Nat} (h : unhx c = some v) : dgI c = (v : Int) := by unfold dgI; rw [h]
theorem digit_c {c : Nat} {K : Int → World → Prop} (hc : c < 256) (hK : K (dgI c) w) : Cl Tryd.prog [kI] n_ref30_digit ⟨[.int .u8 (c : Int)]⟩ w K := by
  refine ref30_digit.ok _ _ _ ?_
  unfold ref30_digit.E
  unfold dgI unhx at hK
  by_cases h1 : 48 ≤ c
  · by_cases h2 : c ≤ 57
    · rw [if_pos ⟨h1, h2⟩] at hK
      refine IfB.dt (by omega) (IfB.dt (by omega) ?_)
      rw [u8_id (by omega), i64_id (by omega)]
      have e : ((c - 48 : Nat) : Int) = (c : Int) - 48 := by omega
      dsimp only at hK
      rw [e] at hK
      exact hK
    · rw [if_neg (by omega)] at hK
      refine IfB.dt (by omega) (IfB.df (by omega) ?_)
      by_cases h3 : 97 ≤ c
      · refine IfB.dt (by omega) ?_
        by_cases h4 : c ≤ 102
        · rw [if_pos ⟨h3, h4⟩] at hK
          refine IfB.dt (by omega) ?_
          rw [u8_id (by omega), i64_id (x := (c : Int) - 97) (by omega), i64_id (by omega)]
          have e : ((c - 87 : Nat) : Int) = (c : Int) - 97 + 10 := by omega
          dsimp only at hK
          rw [e] at hK
          exact hK
        · rw [if_neg (by omega)] at hK
          exact IfB.df (by omega) hK
      · rw [if_neg (by omega)] at hK
        exact IfB.df (by omega) hK
  · rw [if_neg (by omega), if_neg (by omega)] at hK
    refine IfB.df (by omega) (IfB.df (by omega) hK)
/-- one byte more of two digits -/
def hx2 (c : Nat) : List Nat := [hx (c / 16), hx (c % 16)]
theorem hexB_snoc (b : List Nat) (c : Nat) : hexB (b ++ [c]) = hexB b ++ hx2 c := by simp [hexB, hx2]
def digs16 : List Nat := [48, 49, 50, 51, 52, 53, 54, 55, 56, 57, 97, 98, 99, 100, 101, 102]
theorem digs16_lit : (ByteArray.mk #[48, 49, 50, 51, 52, 53, 54, 55, 56, 57, 97, 98, 99, 100, 101, 102]) = strOf digs16 := by decide
theorem digs16_bt : Bt digs16 := by decide
theorem digs16_get : ∀ n, n < 16 → digs16[n]? = some (hx n) := by decide
theorem digs16_cut : ∀ n, n < 16 → (digs16.take (n + 1)).drop n = [hx n] := by decide
theorem rdU {s : Sl} {ys : List Nat} {i : Nat} {K : Int → Prop} (hs : SlT 1 s (ys.map vB) w) (hi : i < ys.length) (hK : K (ys[i] : Int)) : Idx s (i : Int) 1 fun q => Ld (kInt .u8) q w K := by
  have hl := hs.1
  simp only [List.length_map, Nat.mul_one] at hl
  refine Idx.rd hs (by omega) (by omega) fun q hq hc => Ld.sc (s := .int .u8) (ys[i] : Int) ?_ hK
  rw [hc]; simp [vB]
theorem rHex_c {s : Sl} {b : List Nat} {K : ByteArray → World → Prop} (h : Hp E w F) (hs : Tells F (SlT 1 s (b.map vB))) (hb : Bt b) (hl : b.length ≤ 1000000) (hK : ∀ w', Hp E w' F → K (strOf (hexW b)) w') :
    Cl Tryd.prog [kStr] n_ref30_Hex ⟨[.slice s.base s.len s.cap]⟩ w K := by
  refine ref30_Hex.ok _ _ _ ?_
  unfold ref30_Hex.E
  have hlen : s.len = b.length := by have := (h.tells hs).1; simpa using this.symm
  unfold hexW at hK
  by_cases h0 : b = []
  · rw [if_pos h0] at hK
    refine IfB.et (by rw [hlen, h0]; rfl) ?_
    exact hK _ h
  rw [if_neg h0] at hK
  refine IfB.ef (by have := List.length_pos_iff.2 h0; omega) ?_
  refine ⟨fun o i w' => ∃ k : Nat, i = (k : Int) ∧ k ≤ b.length ∧ o = strOf (hexB (b.take k)) ∧ Hp E w' F, fun _ i _ => b.length - i.toNat, ⟨0, rfl, by omega, rfl, h⟩, ?_⟩
  rintro o i w' ⟨k, rfl, hk, rfl, h⟩
  refine IfB.dm (fun hlt => ?_) (fun hge => ?_)
  · have hlt : k < b.length := by omega
    refine Drw.mk h fun w' h => ?_
    have hx := hb b[k] (List.getElem_mem _)
    have e1 : Int.tdiv (b[k] : Int) 16 = ((b[k] / 16 : Nat) : Int) := by rw [Int.tdiv_eq_ediv_of_nonneg (by omega)]; omega
    have e2 : Int.tmod (b[k] : Int) 16 = ((b[k] % 16 : Nat) : Int) := by rw [Int.tmod_eq_emod_of_nonneg (by omega)]; omega
    refine rdU (h.tells hs) hlt ⟨by decide, rdU (h.tells hs) hlt ⟨by decide, ?_⟩⟩
    rw [digs16_lit, e1]
    have hL := hexB_len (b.take k)
    rw [List.length_take] at hL
    refine SlcS.of (b[k] / 16) (b[k] / 16 + 1) (u8_id (by omega)) (by rw [u8_id (x := ((b[k] / 16 : Nat) : Int)) (by omega), u8_id (by omega)]; omega) (by omega) (by show _ ≤ 16; omega) ?_
    rw [digs16_cut _ (by omega), strOf_size, strOf_size]
    refine ⟨by simp only [List.length_singleton]; omega, rdU (h.tells hs) hlt ⟨by decide, rdU (h.tells hs) hlt ⟨by decide, ?_⟩⟩⟩
    rw [e2]
    refine SlcS.of (b[k] % 16) (b[k] % 16 + 1) rfl (by rw [u8_id (by omega)]; omega) (by omega) (by show _ ≤ 16; omega) ?_
    rw [digs16_cut _ (by omega), strOf_app, strOf_size, strOf_size, strOf_app]
    refine ⟨by simp only [List.length_singleton, List.length_append]; omega, ⟨k + 1, i64_id (by omega), by omega, ?_, h⟩, by rw [i64_id (by omega)]; dsimp only; omega⟩
    rw [List.take_add_one, List.getElem?_eq_getElem hlt, Option.toList_some, hexB_snoc]
    simp [hx2]
  · have : k = b.length := by omega
    subst this
    rw [List.take_length]
    exact hK _ h
/-- pairs of digits, read one by one -/
theorem pairsH_step {t : List Nat} {i : Nat} {o : List Nat} (h : pairsH t = (pairsH (t.drop i)).map (o ++ ·)) (hi : i + 1 < t.length) {x y : Nat} (hx : unhx t[i] = some x) (hy : unhx t[i + 1] = some y) :
    pairsH t = (pairsH (t.drop (i + 2))).map ((o ++ [16 * x + y]) ++ ·) := by
  rw [h, List.drop_eq_getElem_cons (by omega : i < t.length), List.drop_eq_getElem_cons hi, pairsH]
  simp only [hx, hy]
  cases pairsH (t.drop (i + 1 + 1)) <;> simp
theorem pairsH_none {t : List Nat} {i : Nat} {o : List Nat} (h : pairsH t = (pairsH (t.drop i)).map (o ++ ·)) (hi : i + 1 < t.length) (hx : unhx t[i] = none ∨ unhx t[i + 1] = none) : pairsH t = none := by
  rw [h, List.drop_eq_getElem_cons (by omega : i < t.length), List.drop_eq_getElem_cons hi, pairsH]
  rcases hx with hx | hx
  · rw [hx]; rfl
  · rw [hx]
    cases unhx t[i] <;> rfl
theorem pairsH_odd : ∀ {t : List Nat}, t.length % 2 = 1 → pairsH t = none
  | [], h => by simp at h
  | [_], _ => rfl
  | a :: b :: r, h => by
    have ih := pairsH_odd (t := r) (by simp only [List.length_cons] at h; omega)
    rw [pairsH, ih]
    cases unhx a <;> cases unhx b <;> rfl
theorem vB_app (o : List Nat) (x : Nat) : (o ++ [x]).map vB = o.map vB ++ [vB x] := by simp
theorem rUnhex_c {t : List Nat} {K : Sl → Bool → World → Prop} (h : Hp E w F) (ht : Bt t) (h0 : t ≠ []) (hl : t.length ≤ 1000000)
    (hK1 : ∀ s' b w', unhexW t = some b → Bt b → b.length ≤ t.length → Hp E w' (OwnS 1 s' (b.map vB) :: F) → K s' true w')
    (hK0 : ∀ s' b w', unhexW t = none → Bt b → b.length ≤ t.length → Hp E w' (OwnS 1 s' (b.map vB) :: F) → K s' false w') :
    Cl Tryd.prog [kS, kB] n_ref30_unhex ⟨[.string (strOf t)]⟩ w K := by
  refine ref30_unhex.ok _ _ _ ?_
  unfold ref30_unhex.E
  rw [show (ByteArray.mk #[45]) = strOf [45] from rfl, strOf_eq ht (by decide), strOf_size]
  unfold unhexW at hK1 hK0
  by_cases h1 : t = [45]
  · rw [if_pos h1] at hK1
    refine IfB.t (by rw [h1]; rfl) ?_
    exact hK1 _ [] _ rfl Bt.nil (Nat.zero_le _) (h.ownNil 1)
  rw [if_neg h1, if_neg h0] at hK1 hK0
  refine IfB.f (by simpa using h1) ⟨by decide, ?_⟩
  have e1 : Int.tmod (t.length : Int) 2 = ((t.length % 2 : Nat) : Int) := by rw [Int.tmod_eq_emod_of_nonneg (by omega)]; omega
  rw [e1]
  refine IfB.nm (fun ho => ?_) (fun he => ?_)
  · exact hK0 _ [] _ (pairsH_odd (by omega)) Bt.nil (Nat.zero_le _) (h.ownNil 1)
  refine ⟨fun s i w' => ∃ (k : Nat) (o : List Nat), i = (k : Int) ∧ k ≤ t.length ∧ k % 2 = 0 ∧ o.length ≤ k ∧ Bt o ∧ pairsH t = (pairsH (t.drop k)).map (o ++ ·) ∧ Hp E w' (OwnS 1 s (o.map vB) :: F), fun _ i _ => t.length - i.toNat,
    ⟨0, [], rfl, by omega, rfl, Nat.zero_le _, Bt.nil, by simp, h.ownNil 1⟩, ?_⟩
  rintro s i w' ⟨k, o, rfl, hk, hk2, hol, ho, hp, h⟩
  refine IfB.dm (fun hlt => ?_) (fun hge => ?_)
  · have hlt : k + 1 < t.length := by omega
    have e2 : i64 ((k : Int) + 1) = ((k + 1 : Nat) : Int) := by rw [i64_id (by omega)]; omega
    have e3 : i64 ((k : Int) + 2) = ((k + 2 : Nat) : Int) := by rw [i64_id (by omega)]; omega
    rw [e2, e3]
    have t1 := ht t[k] (List.getElem_mem _)
    have t2 := ht t[k + 1] (List.getElem_mem _)
    rw [Int.toNat_natCast, Int.toNat_natCast, strAt_of ht (by omega), strAt_of ht hlt]
    refine ⟨by omega, by omega, digit_c t1 ?_⟩
    refine IfB.dm (fun hn => ?_) (fun hn => ?_)
    · exact hK0 _ [] _ (pairsH_none hp hlt (.inl (dgI_neg.1 hn))) Bt.nil (Nat.zero_le _) (h.drop.ownNil 1)
    obtain ⟨x, hx⟩ : ∃ x, unhx t[k] = some x := by
      cases hq : unhx t[k] with
      | none => exact absurd (dgI_neg.2 hq) hn
      | some x => exact ⟨x, rfl⟩
    refine ⟨by omega, by omega, digit_c t2 ?_⟩
    refine IfB.dm (fun hn => ?_) (fun hn => ?_)
    · exact hK0 _ [] _ (pairsH_none hp hlt (.inr (dgI_neg.1 hn))) Bt.nil (Nat.zero_le _) (h.drop.ownNil 1)
    obtain ⟨y, hy⟩ : ∃ y, unhx t[k + 1] = some y := by
      cases hq : unhx t[k + 1] with
      | none => exact absurd (dgI_neg.2 hq) hn
      | some y => exact ⟨y, rfl⟩
    refine Drw.mk h fun w' h => ⟨by omega, by omega, by omega, by omega, digit_c t1 (digit_c t2 ?_)⟩
    rw [dgI_some hx, dgI_some hy]
    have hx2 := unhx_lt hx
    have hy2 := unhx_lt hy
    have e4 : u8 (i64 (i64 (16 * (x : Int)) + (y : Int))) = ((16 * x + y : Nat) : Int) := by rw [i64_id (x := 16 * (x : Int)) (by omega), i64_id (by omega), u8_id (by omega)]; omega
    rw [e4]
    refine Nw.mk h fun b17 w' h => ?_
    refine run_append (ys := [vB (16 * x + y)]) (n := 1) ty_bytes (by decide) (.inl ⟨5, by kernel_rfl⟩) h.p1 (.inl ⟨_, _, _, rfl, rfl, h.tells (Tells.blk (xs := [vB (16 * x + y)]) rfl (by simp))⟩) (by simp) (by simp [vB, scalarB]) (by have := h.p1.ownLen; simp only [List.length_map] at this; omega) (by have := h.p1.ownLen; simp only [List.length_map] at this; omega) fun s2 w2 h2 hs2 => ?_
    refine ⟨⟨k + 2, o ++ [16 * x + y], rfl, by omega, by omega, by simp; omega, ho.app (Bt.cons (by omega) Bt.nil), pairsH_step hp hlt hx hy, ?_⟩, by dsimp only; omega⟩
    rw [vB_app]
    exact h2.p1.drop
  · have hkl : k = t.length := by omega
    subst hkl
    rw [List.drop_length, pairsH] at hp
    exact hK1 _ o _ (by rw [hp]; simp) ho (by omega) h
theorem val10_take {d : List Nat} {k : Nat} (h : k < d.length) : val10 (d.take (k + 1)) = 10 * val10 (d.take k) + (d[k] - 48) := by
  unfold val10
  rw [List.take_add_one, List.getElem?_eq_getElem h, Option.toList_some, List.foldl_append]
  rfl
theorem digs_take {d : List Nat} {k : Nat} (h : k < d.length) (hd : digs (d.take k) = true) (h1 : 48 ≤ d[k]) (h2 : d[k] ≤ 57) : digs (d.take (k + 1)) = true := by
  unfold digs at *
  rw [List.take_add_one, List.getElem?_eq_getElem h, Option.toList_some, List.all_append, hd]
  simp [h1, h2]
theorem digs_bad {d : List Nat} {k : Nat} (h : k < d.length) (h1 : ¬ (48 ≤ d[k] ∧ d[k] ≤ 57)) : digs d = false := by
  unfold digs
  rw [Bool.eq_false_iff]
  intro hh
  have := List.all_eq_true.1 hh d[k] (List.getElem_mem _)
  simp at this
  omega
/-- a part of the code that comes again -/
theorem Join.of {α : Type} {rest : α} {k : α → Prop} (Q : α → Prop) (h : Q rest) (hk : ∀ r, Q r → k r) : Join rest k := hk rest h
/-- the digits of a word -/
def dgs (t : List Nat) : List Nat := if t.head? = some 45 then t.drop 1 else t
theorem num_eq (t : List Nat) : num t = if dgs t = [] ∨ ((dgs t).head? = some 48 ∧ 1 < t.length) ∨ digs (dgs t) = false ∨ far < val10 (dgs t) then none
  else some (if t.head? = some 45 then -(val10 (dgs t) : Int) else (val10 (dgs t) : Int)) := rfl
theorem val10_lt : ∀ {d : List Nat}, digs d = true → val10 d < 10 ^ d.length := by
  intro d
  have : ∀ (d : List Nat) (n m : Nat), digs d = true → n < m → d.foldl (fun n c => 10 * n + (c - 48)) n < m * 10 ^ d.length := by
    intro d
    induction d with
    | nil => intro n m _ h; simpa using h
    | cons c d ih =>
      intro n m hd h
      unfold digs at hd
      rw [List.all_cons, Bool.and_eq_true] at hd
      simp only [Bool.and_eq_true, decide_eq_true_eq] at hd
      have := ih (10 * n + (c - 48)) (10 * m) hd.2 (by omega)
      rw [List.foldl_cons, List.length_cons, Nat.pow_succ]
      calc _ < 10 * m * 10 ^ d.length := this
        _ = m * (10 ^ d.length * 10) := by rw [Nat.mul_comm 10 m, Nat.mul_assoc, Nat.mul_comm 10]
  intro h
  have := this d 0 1 h (by omega)
  simpa [val10] using this
/-- a number of more than 19 digits whose first is not 0 is too great -/
theorem val10_ge {d : List Nat} (hd : digs d = true) (h1 : d.head? ≠ some 48) (h2 : 19 < d.length) : far < val10 d := by
  have low : ∀ (d : List Nat) (n : Nat), n * 10 ^ d.length ≤ d.foldl (fun n c => 10 * n + (c - 48)) n := by
    intro d
    induction d with
    | nil => intro n; simp
    | cons c d ih =>
      intro n
      rw [List.foldl_cons, List.length_cons, Nat.pow_succ]
      refine Nat.le_trans ?_ (ih _)
      have : n * (10 ^ d.length * 10) = 10 * n * 10 ^ d.length := by rw [Nat.mul_comm 10 n, Nat.mul_assoc, Nat.mul_comm 10]
      rw [this]
      exact Nat.mul_le_mul_right _ (by omega)
  cases d with
  | nil => simp at h2
  | cons c d =>
    unfold digs at hd
    rw [List.all_cons, Bool.and_eq_true] at hd
    simp only [Bool.and_eq_true, decide_eq_true_eq] at hd
    have hc : c ≠ 48 := fun e => h1 (by rw [e]; rfl)
    have := low d (10 * 0 + (c - 48))
    have h3 : 10 ^ 19 ≤ 10 ^ d.length := Nat.pow_le_pow_right (by omega) (by simp only [List.length_cons] at h2; omega)
    have h4 : 1 * 10 ^ d.length ≤ (10 * 0 + (c - 48)) * 10 ^ d.length := Nat.mul_le_mul_right _ (by omega)
    unfold far val10
    rw [List.foldl_cons]
    omega
theorem rNum_c {t : List Nat} {K : Int → Bool → World → Prop} (ht : Bt t) (hl : t.length ≤ 1000000) (hK1 : ∀ z, num t = some z → K z true w) (hK0 : num t = none → K 0 false w) :
    Cl Tryd.prog [kI, kB] n_ref30_number ⟨[.string (strOf t)]⟩ w K := by
  refine ref30_number.ok _ _ _ ?_
  unfold ref30_number.E
  have hlt2 : (dgs t).length ≤ t.length := by unfold dgs; split <;> simp
  have hdb : Bt (dgs t) := by unfold dgs; split; exact ht.drop 1; exact ht
  have hlen : (dgs t).length < t.length ↔ t.head? = some 45 := by
    unfold dgs
    split
    · rename_i hh
      cases t with
      | nil => simp at hh
      | cons x t => simpa using hh
    · rename_i hh; simp [hh]
  rw [num_eq] at hK1 hK0
  refine Join.of (fun r => r (strOf (dgs t)) w) ?_ fun r hr => ?_
  · refine Join.of (fun r => dgs t ≠ [] → ¬ ((dgs t).head? = some 48 ∧ 1 < t.length) → (dgs t).length ≤ 19 → r w) (fun hne hz h19 => ?_) fun r hr => ?_
    · refine ⟨fun n i w' => ∃ k : Nat, i = (k : Int) ∧ k ≤ (dgs t).length ∧ n = ((val10 ((dgs t).take k) : Nat) : Int) ∧ digs ((dgs t).take k) = true ∧ w' = w, fun _ i _ => (dgs t).length - i.toNat, ⟨0, rfl, by omega, rfl, rfl, rfl⟩, ?_⟩
      rintro n i w' ⟨k, rfl, hk, rfl, hd, rfl⟩
      rw [strOf_size, strOf_size, Int.toNat_natCast]
      have hv := val10_lt hd
      rw [List.length_take, Nat.min_eq_left hk] at hv
      refine IfB.dm (fun hlt => ?_) (fun hge => ?_)
      · have hlt : k < (dgs t).length := by omega
        rw [strAt_of hdb hlt]
        have hb := hdb (dgs t)[k] (List.getElem_mem _)
        refine ⟨by omega, by omega, ?_⟩
        refine IfB.dm (fun h1 => ?_) (fun h1 => ?_)
        · exact hK0 (if_pos (.inr (.inr (.inl (digs_bad hlt (by omega))))))
        refine ⟨by omega, by omega, ?_⟩
        refine IfB.dm (fun h2 => ?_) (fun h2 => ?_)
        · exact hK0 (if_pos (.inr (.inr (.inl (digs_bad hlt (by omega))))))
        refine ⟨by omega, by omega, ?_⟩
        have hp : 10 ^ (k + 1) ≤ 10 ^ 19 := Nat.pow_le_pow_right (by omega) (by omega)
        rw [Nat.pow_succ] at hp
        have e0 : u8 (((dgs t)[k] : Int) - 48) = (((dgs t)[k] - 48 : Nat) : Int) := by rw [u8_id (by omega)]; omega
        rw [e0, u64_id (x := 10 * ((val10 ((dgs t).take k) : Nat) : Int)) (by omega), u64_id (x := (((dgs t)[k] - 48 : Nat) : Int)) (by omega), u64_id (by omega), i64_id (by omega)]
        refine ⟨⟨k + 1, by omega, by omega, ?_, digs_take hlt hd (by omega) (by omega), rfl⟩, by dsimp only; omega⟩
        rw [val10_take hlt]; omega
      · have hkl : k = (dgs t).length := by omega
        subst hkl
        rw [List.take_length] at hd hv ⊢
        have hp : 10 ^ (dgs t).length ≤ 10 ^ 19 := Nat.pow_le_pow_right (by omega) h19
        refine IfB.dm (fun hf => ?_) (fun hf => ?_)
        · exact hK0 (if_pos (.inr (.inr (.inr (by unfold far; omega)))))
        have hno : ¬ (dgs t = [] ∨ ((dgs t).head? = some 48 ∧ 1 < t.length) ∨ digs (dgs t) = false ∨ far < val10 (dgs t)) := by
          unfold far
          rintro (h | h | h | h)
          · exact hne h
          · exact hz h
          · rw [hd] at h; cases h
          · omega
        rw [if_neg hno] at hK1
        refine IfB.dm (fun hs => ?_) (fun hs => ?_)
        · have hh := hlen.1 (by omega)
          refine hK1 _ ?_ 
          rw [if_pos hh, i64_id (by omega)]
          congr 1
          rw [show IntKind.wrap .i64 (0 - ((val10 (dgs t) : Nat) : Int)) = i64 (0 - ((val10 (dgs t) : Nat) : Int)) from rfl, i64_id (by omega)]
          omega
        · have hh : ¬ t.head? = some 45 := fun e => hs (by have := hlen.2 e; omega)
          refine hK1 _ ?_
          rw [if_neg hh, i64_id (by omega)]
    · rw [strOf_size, strOf_size]
      refine IfB.em (fun h0 => ?_) (fun h0 => ?_)
      · exact hK0 (if_pos (.inl (List.length_eq_zero_iff.1 (by omega))))
      have hne : dgs t ≠ [] := fun e => h0 (by rw [e]; rfl)
      have hpos := List.length_pos_iff.2 hne
      have hh : (dgs t).head? = some (dgs t)[0] := by rw [List.head?_eq_getElem?, List.getElem?_eq_getElem hpos]
      rw [Int.toNat_zero, strAt_of hdb hpos]
      refine IfB.dm (fun h1 => ?_) (fun h1 => ?_)
      · refine hK0 (if_pos ?_)
        by_cases hz : (dgs t).head? = some 48
        · exact .inr (.inl ⟨hz, by omega⟩)
        · cases hd : digs (dgs t) with
          | false => exact .inr (.inr (.inl rfl))
          | true => exact .inr (.inr (.inr (val10_ge hd hz (by omega))))
      refine ⟨by omega, by omega, ?_⟩
      refine IfB.em (fun h2 => ?_) (fun h2 => ?_)
      · refine IfB.dm (fun h3 => ?_) (fun h3 => ?_)
        · exact hK0 (if_pos (.inr (.inl ⟨by rw [hh]; congr 1; omega, by omega⟩)))
        · exact hr hne (fun e => h3 (by omega)) (by omega)
      · refine hr hne (fun e => h2 ?_) (by omega)
        have := e.1
        rw [hh] at this
        injection this with this
        omega
  · rw [strOf_size]
    unfold dgs at hr
    refine IfB.dm (fun h1 => ?_) (fun h1 => ?_)
    · have hpos : 0 < t.length := by omega
      have hh : t.head? = some t[0] := by rw [List.head?_eq_getElem?, List.getElem?_eq_getElem hpos]
      rw [Int.toNat_zero, strAt_of ht hpos]
      refine ⟨by omega, by omega, ?_⟩
      refine IfB.em (fun h2 => ?_) (fun h2 => ?_)
      · rw [if_pos (by rw [hh]; congr 1; omega)] at hr
        refine SlcS.of 1 t.length rfl rfl (by omega) (Nat.le_refl _) ?_
        rw [List.take_length]
        exact hr
      · rw [if_neg (by rw [hh]; intro e; injection e with e; exact h2 (by omega))] at hr
        exact hr
    · have : t = [] := List.length_eq_zero_iff.1 (by omega)
      subst this
      exact hr
end
end Go.Proofs.YtdfalolgngnelaaDoor
/- ScB -/
namespace Go.Proofs.YtdfalolgngnelaaDoor
open Go Go.Vc Go.Scr
set_option linter.unusedSectionVars false
theorem ty_strs : ElemT Tryd.prog 42 9 1 16 := ElemT.of (by kernel_rfl) (by kernel_rfl)
/-- a string as a value -/
def vS (b : List Nat) : Value := .string (strOf b)
section
variable {E w : World} {F : List HP}
set_option maxRecDepth 20000
def digs10 : List Nat := [48, 49, 50, 51, 52, 53, 54, 55, 56, 57]
theorem digs10_lit : (ByteArray.mk #[48, 49, 50, 51, 52, 53, 54, 55, 56, 57]) = strOf digs10 := by decide
theorem digs10_cut : ∀ n, n < 10 → (digs10.take (n + 1)).drop n = [48 + n] := by decide
theorem dec_len : ∀ (k n : Nat), n < 10 ^ (k + 1) → (dec n).length ≤ k + 1 := by
  intro k
  induction k with
  | zero => intro n h; rw [dec, dif_pos (by omega)]; simp
  | succ k ih =>
    intro n h
    rw [dec]
    split
    · simp
    · have := ih (n / 10) (by rw [Nat.pow_succ] at h; omega)
      simp only [List.length_append, List.length_singleton]; omega
theorem rDigN_c {K : ByteArray → World → Prop} : ∀ (n : Nat), n < 9223372036854775808 → (K (strOf (dec n)) w) → Cl Tryd.prog [kStr] n_ref30_Digits ⟨[.int .i64 (n : Int)]⟩ w K := by
  intro n
  induction n using Nat.strongRecOn generalizing K with
  | ind n ih =>
    intro hn hK
    refine ref30_Digits.ok _ _ _ ?_
    unfold ref30_Digits.E
    refine IfB.df (by omega) ⟨by decide, by decide, ?_⟩
    have e1 : Int.tmod (n : Int) 10 = ((n % 10 : Nat) : Int) := by rw [Int.tmod_eq_emod_of_nonneg (by omega)]; omega
    have e2 : Int.tdiv (n : Int) 10 = ((n / 10 : Nat) : Int) := by rw [Int.tdiv_eq_ediv_of_nonneg (by omega)]; omega
    rw [digs10_lit, e1, e2]
    refine SlcS.of (n % 10) (n % 10 + 1) rfl (by rw [i64_id (by omega)]; omega) (by omega) (by show _ ≤ 10; omega) ?_
    rw [digs10_cut _ (by omega)]
    rw [dec] at hK
    refine IfB.dm (fun h1 => ?_) (fun h1 => ?_)
    · rw [dif_pos (by omega)] at hK
      rw [Nat.mod_eq_of_lt (by omega)]
      exact hK
    · rw [dif_neg (by omega)] at hK
      refine ⟨by decide, ?_⟩
      rw [i64_id (by omega)]
      refine ih (n / 10) (by omega) (by omega) ?_
      have := dec_len 19 (n / 10) (by omega)
      rw [strOf_size, strOf_size, strOf_app]
      exact ⟨by simp only [List.length_singleton]; omega, hK⟩
theorem rDig_c {K : ByteArray → World → Prop} {z : Int} (h1 : -9223372036854775808 < z) (h2 : z ≤ 9223372036854775807) (hK : K (strOf (decI z)) w) : Cl Tryd.prog [kStr] n_ref30_Digits ⟨[.int .i64 z]⟩ w K := by
  unfold decI at hK
  by_cases h0 : z < 0
  · rw [if_pos h0] at hK
    refine ref30_Digits.ok _ _ _ ?_
    unfold ref30_Digits.E
    refine IfB.dt h0 ?_
    rw [show IntKind.wrap .i64 (0 - z) = i64 (0 - z) from rfl, i64_id (by omega), show 0 - z = (z.natAbs : Int) by omega]
    refine rDigN_c _ (by omega) ?_
    have := dec_len 19 z.natAbs (by omega)
    rw [show (ByteArray.mk #[45]) = strOf [45] from rfl, strOf_size, strOf_size, strOf_app]
    exact ⟨by simp only [List.length_singleton]; omega, hK⟩
  · rw [if_neg h0] at hK
    have e : z = (z.natAbs : Int) := by omega
    rw [e]
    exact rDigN_c _ (by omega) hK
/-- one more of a list of scalars -/
theorem app1m {α : Type} {P : Program} {t ty e e2 : TypeId} {bytes : Nat} {f : α → Value} {x : α} {l : List α} {s : Sl} {K : Sl → World → Prop} (he : ElemT P t e 1 bytes) (hsc : ∀ x, scalarB (f x) = true) (hh : Hp E w (OwnS 1 s (l.map f) :: F))
    (hb : (2 * (l.length + 1) + 1024) * bytes ≤ 2 ^ 48) (hb2 : l.length + 1 < 2 ^ 62) (h : ∀ s' w', Hp E w' (OwnS 1 s' ((l ++ [x]).map f) :: F) → s'.len = l.length + 1 → K s' w') :
    Nw e2 ⟨[f x]⟩ w fun b w1 => Run P (Builtin.append_ #[t, t] ty ⟨[.slice s.base s.len s.cap, .slice (some ⟨b, 0, none⟩) 1 1]⟩) kS w1 K := by
  have e : ∀ l : List α, l.map f = l.flatMap fun x => [f x] := fun l => by induction l with
    | nil => rfl
    | cons x l ih => simp [ih]
  rw [e] at hh
  refine app1 (g := fun x => [f x]) (x := x) he (fun _ => rfl) (by decide) rfl (by simpa using hsc x) hh hb hb2 fun s' w' h' hl => ?_
  rw [← e] at h'
  exact h s' w' h' hl
theorem vS_scalar (b : List Nat) : scalarB (vS b) = true := rfl
theorem lns_len : ∀ (t : List Nat), (lns t).length ≤ t.length := by
  intro t
  induction hk : t.length using Nat.strongRecOn generalizing t with
  | ind k ih =>
    by_cases h : t = []
    · rw [h, lns_nil]; simp
    · rw [lns_pos h]
      have h1 := lrest_lt h
      have := ih (lrest t).length (by omega) (lrest t) rfl
      simp only [List.length_cons]; omega
theorem lns_bt {t : List Nat} (ht : Bt t) : ∀ x ∈ lns t, Bt x := by
  induction hk : t.length using Nat.strongRecOn generalizing t with
  | ind k ih =>
    by_cases h : t = []
    · rw [h, lns_nil]; intro x hx; cases hx
    · rw [lns_pos h]
      intro x hx
      rcases List.mem_cons.1 hx with e | e
      · subst e
        intro y hy
        exact ht y (by unfold line at hy; exact (List.takeWhile_prefix _).subset hy)
      · have h1 := lrest_lt h
        refine ih (lrest t).length (by omega) (t := lrest t) (fun y hy => ht y ?_) rfl x e
        unfold lrest at hy
        exact (List.dropWhile_suffix _).subset (List.mem_of_mem_drop hy)
theorem rLines_c {t : List Nat} {K : Sl → World → Prop} (h : Hp E w F) (ht : Bt t) (hl : t.length ≤ 100000000) (hK : ∀ s' w', Hp E w' (OwnS 1 s' ((lns t).map vS) :: F) → K s' w') :
    Cl Tryd.prog [kS] n_ref30_Lines ⟨[.string (strOf t)]⟩ w K := by
  refine ref30_Lines.ok _ _ _ ?_
  unfold ref30_Lines.E
  have hL := lns_len t
  refine ⟨fun s f i w' => ∃ (a k : Nat) (o : List (List Nat)), f = (a : Int) ∧ i = (k : Int) ∧ a ≤ k ∧ k ≤ t.length ∧ 10 ∉ (t.take k).drop a ∧ lns t = o ++ lns (t.drop a) ∧ Hp E w' (OwnS 1 s (o.map vS) :: F), fun _ _ i _ => t.length - i.toNat,
    ⟨0, 0, [], rfl, rfl, by omega, by omega, by simp, by simp, h.ownNil 1⟩, ?_⟩
  rintro s f i w' ⟨a, k, o, rfl, rfl, hak, hk, hno, ho, h⟩
  have hol : o.length ≤ t.length := by have := congrArg List.length ho; rw [List.length_append] at this; omega
  rw [strOf_size]
  refine IfB.dm (fun hlt => ?_) (fun hge => ?_)
  · have hlt : k < t.length := by omega
    rw [Int.toNat_natCast, strAt_of ht hlt]
    refine ⟨by omega, by omega, ?_⟩
    have hs : t.drop a = (t.take k).drop a ++ t[k] :: t.drop (k + 1) := by
      have e1 : t = t.take k ++ (t[k] :: t.drop (k + 1)) := by rw [← List.drop_eq_getElem_cons hlt, List.take_append_drop]
      have e2 := congrArg (List.drop a) e1
      rw [List.drop_append_of_le_length (by rw [List.length_take]; omega)] at e2
      exact e2
    have hi : i64 ((k : Int) + 1) = ((k + 1 : Nat) : Int) := by rw [i64_id (by omega)]; omega
    rw [hi]
    refine IfB.em (fun h10 => ?_) (fun h10 => ?_)
    · have h10 : t[k] = 10 := by omega
      refine SlcS.of a k rfl rfl hak hk ?_
      rw [h10] at hs
      have hln : lns t = (o ++ [(t.take k).drop a]) ++ lns (t.drop (k + 1)) := by rw [ho, hs, lns_app hno]; simp
      have := congrArg List.length hln
      simp only [List.length_append, List.length_singleton] at this
      exact app1m (f := vS) (x := (t.take k).drop a) ty_strs vS_scalar h (by omega) (by omega) fun s' w' h _ =>
        ⟨⟨k + 1, k + 1, o ++ [(t.take k).drop a], rfl, rfl, by omega, by omega, by simp, hln, h⟩, by dsimp only; omega⟩
    · refine ⟨⟨a, k + 1, o, rfl, rfl, by omega, by omega, ?_, ho, h⟩, by dsimp only; omega⟩
      rw [List.take_add_one, List.getElem?_eq_getElem hlt, Option.toList_some, List.drop_append_of_le_length (by rw [List.length_take]; omega)]
      intro hm
      rcases List.mem_append.1 hm with e | e
      · exact hno e
      · simp at e; omega
  · have hkl : k = t.length := by omega
    subst hkl
    rw [List.take_length] at hno
    refine IfB.dm (fun h1 => ?_) (fun h1 => ?_)
    · refine SlcS.of a t.length rfl rfl hak (Nat.le_refl _) ?_
      rw [List.take_length]
      have hne : t.drop a ≠ [] := by intro e; have := congrArg List.length e; simp at this; omega
      rw [lns_one hno hne] at ho
      have := congrArg List.length ho
      simp only [List.length_append, List.length_singleton] at this
      exact app1m (f := vS) (x := t.drop a) ty_strs vS_scalar h (by omega) (by omega) fun s' w' h _ => hK _ _ (by rw [ho]; exact h)
    · have e : t.drop a = [] := List.drop_eq_nil_of_le (by omega)
      rw [e, lns_nil, List.append_nil] at ho
      exact hK _ _ (by rw [ho]; exact h)
theorem wds_len : ∀ (t : List Nat), (wds t).length ≤ t.length := by
  intro t
  induction hk : t.length using Nat.strongRecOn generalizing t with
  | ind k ih =>
    rw [wds]
    split
    · simp
    · rename_i h
      have hp := List.length_pos_iff.2 h
      split
      · have := ih (t.drop 1).length (by rw [List.length_drop]; omega) _ rfl
        rw [List.length_drop] at this; omega
      · have h1 := congrArg List.length (List.takeWhile_append_dropWhile (p := fun c : Nat => c != 32) (l := t))
        rw [List.length_append] at h1
        rename_i h2
        have h3 : ((t.dropWhile fun c => c != 32).drop 1).length < t.length := by
          rw [List.length_drop]
          rcases Nat.eq_zero_or_pos (t.dropWhile fun c => c != 32).length with e | e <;> omega
        have := ih _ (by omega) ((t.dropWhile fun c => c != 32).drop 1) rfl
        simp only [List.length_cons]; omega
theorem wds_all {t : List Nat} (ht : Bt t) : ∀ x ∈ wds t, Bt x ∧ x ≠ [] ∧ 32 ∉ x ∧ x.length ≤ t.length := by
  induction hk : t.length using Nat.strongRecOn generalizing t with
  | ind k ih =>
    rw [wds]
    split
    · intro x hx; cases hx
    · rename_i h
      have hp := List.length_pos_iff.2 h
      split
      · intro x hx
        have := ih (t.drop 1).length (by rw [List.length_drop]; omega) (ht.drop 1) rfl x hx
        rw [List.length_drop] at this
        exact ⟨this.1, this.2.1, this.2.2.1, by omega⟩
      · rename_i h2
        have h1 := congrArg List.length (List.takeWhile_append_dropWhile (p := fun c : Nat => c != 32) (l := t))
        rw [List.length_append] at h1
        intro x hx
        rcases List.mem_cons.1 hx with e | e
        · subst e
          refine ⟨fun y hy => ht y ((List.takeWhile_prefix _).subset hy), ?_, ?_, by omega⟩
          · cases t with
            | nil => exact absurd rfl h
            | cons c t =>
              have : (c != 32) = true := by rw [bne_iff_ne]; intro e; exact h2 (by rw [e]; rfl)
              rw [List.takeWhile_cons, if_pos this]; simp
          · intro hm
            have := List.all_takeWhile (p := fun c : Nat => c != 32) (l := t)
            have := List.all_eq_true.1 this 32 hm
            simp at this
        · have h3 : ((t.dropWhile fun c => c != 32).drop 1).length < t.length := by
            rw [List.length_drop]
            rcases Nat.eq_zero_or_pos (t.dropWhile fun c => c != 32).length with e | e <;> omega
          have := ih _ (by omega) (t := (t.dropWhile fun c => c != 32).drop 1) (fun y hy => ht y ((List.dropWhile_suffix _).subset (List.mem_of_mem_drop hy))) rfl x e
          exact ⟨this.1, this.2.1, this.2.2.1, by omega⟩
theorem rWords_c {t : List Nat} {K : Sl → World → Prop} (h : Hp E w F) (ht : Bt t) (hl : t.length ≤ 100000000) (hK : ∀ s' w', Hp E w' (OwnS 1 s' ((wds t).map vS) :: F) → K s' w') :
    Cl Tryd.prog [kS] n_ref30_words ⟨[.string (strOf t)]⟩ w K := by
  refine ref30_words.ok _ _ _ ?_
  unfold ref30_words.E
  have hL := wds_len t
  refine ⟨fun s i w' => ∃ (a : Nat) (o : List (List Nat)), i = (a : Int) ∧ a ≤ t.length + 1 ∧ wds t = o ++ wds (t.drop a) ∧ Hp E w' (OwnS 1 s (o.map vS) :: F), fun _ i _ => t.length + 1 - i.toNat,
    ⟨0, [], rfl, by omega, by simp, h.ownNil 1⟩, ?_⟩
  rintro s i w' ⟨a, o, rfl, ha, ho, h⟩
  rw [strOf_size]
  refine IfB.dm (fun hlt => ?_) (fun hge => ?_)
  · have hlt : a < t.length := by omega
    refine ⟨fun i w2 => ∃ k : Nat, i = (k : Int) ∧ a ≤ k ∧ k ≤ t.length ∧ 32 ∉ (t.take k).drop a ∧ w2 = w', fun i _ => t.length - i.toNat, ⟨a, rfl, by omega, by omega, by simp, rfl⟩, ?_⟩
    rintro i w2 ⟨k, rfl, hak, hk, hno, rfl⟩
    refine IfB.dm (fun hlk => ?_) (fun hgk => ?_)
    · have hlk : k < t.length := by omega
      rw [Int.toNat_natCast, strAt_of ht hlk]
      refine ⟨by omega, by omega, ?_⟩
      have hi : i64 ((k : Int) + 1) = ((k + 1 : Nat) : Int) := by rw [i64_id (by omega)]; omega
      rw [hi]
      have hs : t.drop a = (t.take k).drop a ++ t[k] :: t.drop (k + 1) := by
        have e1 : t = t.take k ++ (t[k] :: t.drop (k + 1)) := by rw [← List.drop_eq_getElem_cons hlk, List.take_append_drop]
        have e2 := congrArg (List.drop a) e1
        rw [List.drop_append_of_le_length (by rw [List.length_take]; omega)] at e2
        exact e2
      refine IfB.nm (fun h32 => ?_) (fun h32 => ?_)
      · refine ⟨⟨k + 1, rfl, by omega, by omega, ?_, rfl⟩, by dsimp only; omega⟩
        rw [List.take_add_one, List.getElem?_eq_getElem hlk, Option.toList_some, List.drop_append_of_le_length (by rw [List.length_take]; omega)]
        intro hm
        rcases List.mem_append.1 hm with e | e
        · exact hno e
        · simp at e; omega
      · have h32 : t[k] = 32 := by omega
        rw [h32] at hs
        refine IfB.dm (fun h1 => ?_) (fun h1 => ?_)
        · refine SlcS.of a k rfl rfl hak hk ?_
          have hne : (t.take k).drop a ≠ [] := by intro e; have := congrArg List.length e; simp at this; omega
          have hw : wds t = (o ++ [(t.take k).drop a]) ++ wds (t.drop (k + 1)) := by rw [ho, hs, wds_app hne hno]; simp
          have := congrArg List.length hw
          simp only [List.length_append, List.length_singleton] at this
          exact app1m (f := vS) (x := (t.take k).drop a) ty_strs vS_scalar h (by omega) (by omega) fun s' w' h _ =>
            ⟨⟨k + 1, o ++ [(t.take k).drop a], rfl, by omega, hw, h⟩, by dsimp only; omega⟩
        · have e : a = k := by omega
          subst e
          have : (t.take a).drop a = [] := List.drop_eq_nil_of_le (by rw [List.length_take]; omega)
          rw [this, List.nil_append] at hs
          exact ⟨⟨a + 1, o, rfl, by omega, by rw [ho, hs, wds_sp], h⟩, by dsimp only; omega⟩
    · have hkl : k = t.length := by omega
      subst hkl
      rw [List.take_length] at hno
      refine IfB.dt (by omega) ?_
      refine SlcS.of a t.length rfl rfl hak (Nat.le_refl _) ?_
      rw [List.take_length]
      have hne : t.drop a ≠ [] := by intro e; have := congrArg List.length e; simp at this; omega
      have hi : i64 ((t.length : Int) + 1) = ((t.length + 1 : Nat) : Int) := by rw [i64_id (by omega)]; omega
      rw [hi]
      rw [wds_one hne hno] at ho
      have := congrArg List.length ho
      simp only [List.length_append, List.length_singleton] at this
      refine app1m (f := vS) (x := t.drop a) ty_strs vS_scalar h (by omega) (by omega) fun s' w' h _ =>
        ⟨⟨t.length + 1, o ++ [t.drop a], rfl, by omega, ?_, h⟩, by dsimp only; omega⟩
      rw [ho, List.drop_eq_nil_of_le (by omega : t.length ≤ t.length + 1), wds_nil, List.append_nil]
  · have e : t.drop a = [] := List.drop_eq_nil_of_le (by omega)
    rw [e, wds_nil, List.append_nil] at ho
    exact hK _ _ (by rw [ho]; exact h)
end
end Go.Proofs.YtdfalolgngnelaaDoor
/- ScD -/
namespace Go.Proofs.YtdfalolgngnelaaDoor
open Go Go.Vc Go.Scr
set_option linter.unusedSectionVars false
abbrev ksS : List Sc := [.int .i64, .int .i64, .sl, .sl, .int .i64, .sl, .int .i64, .sl]
/-- a scenario as a value: its slices are sd, ss, sb, sc -/
abbrev tS (s : Scn) (sd ss sb sc : Sl) : TT ksS := (s.size, s.budget, sd, ss, s.drop, sb, s.room, sc, ())
theorem ty_ops : ElemT Tryd.prog 22 40 2 32 := ElemT.of (by kernel_rfl) (by kernel_rfl)
theorem ty_pats : ElemT Tryd.prog 23 47 2 16 := ElemT.of (by kernel_rfl) (by kernel_rfl)
theorem ty_intl : ElemT Tryd.prog 25 3 1 8 := ElemT.of (by kernel_rfl) (by kernel_rfl)
/-- an operation and its bytes' place -/
abbrev Dd := (Bool × List Nat) × Sl
def gD (d : Dd) : List Value := [.bool d.1.1, .slice d.2.base d.2.len d.2.cap]
theorem gD_len (d : Dd) : (gD d).length = 2 := rfl
theorem gD_scalar (d : Dd) : ∀ y ∈ gD d, scalarB y = true := by
  intro y hy
  simp only [gD, List.mem_cons, List.not_mem_nil, or_false] at hy
  rcases hy with rfl | rfl <;> rfl
def gP (p : Int × Nat) : List Value := [.int .i64 p.1, .int .u8 (p.2 : Int)]
theorem gP_len (d : Int × Nat) : (gP d).length = 2 := rfl
theorem gP_scalar (d : Int × Nat) : ∀ y ∈ gP d, scalarB y = true := by
  intro y hy
  simp only [gP, List.mem_cons, List.not_mem_nil, or_false] at hy
  rcases hy with rfl | rfl <;> rfl
/-- the bytes of operations -/
def Dx (ds : List Dd) : HP := Sat (ds.map fun d => OwnS 1 d.2 (d.1.2.map vB))
/-- a scenario's lists, its own -/
@[reducible] def SnL (ds : List Dd) (s : Scn) (sd ss sb sc : Sl) (F : List HP) : List HP :=
  OwnS 2 sd (ds.flatMap gD) :: Dx ds :: OwnS 2 ss (s.spoils.flatMap gP) :: OwnS 1 sb (s.behind.map vB) :: OwnS 1 sc (s.cuts.map vI) :: F
section
variable {E w : World} {F : List HP}
set_option maxRecDepth 20000
theorem Dx.nil (h : Hp E w F) : Hp E w (Dx [] :: F) := h.emp rfl
theorem Dx.app {ds : List Dd} {d : Dd} (h : Hp E w (Dx ds :: OwnS 1 d.2 (d.1.2.map vB) :: F)) : Hp E w (Dx (ds ++ [d]) :: F) := by
  have h1 := h.flat
  have h2 : Hp E w ((ds.map fun d => OwnS 1 d.2 (d.1.2.map vB)) ++ ([OwnS 1 d.2 (d.1.2.map vB)] ++ F)) := h1
  rw [← List.append_assoc] at h2
  have h3 := h2.fold
  unfold Dx
  rw [List.map_append]
  exact h3
theorem Dx.at {ds : List Dd} {i : Nat} (hi : i < ds.length) : Tells (Dx ds :: F) (SlT 1 ds[i].2 (ds[i].1.2.map vB)) := by
  have hm : OwnS 1 ds[i].2 (ds[i].1.2.map vB) ∈ ds.map fun d => OwnS 1 d.2 (d.1.2.map vB) := List.mem_map.2 ⟨ds[i], List.getElem_mem hi, rfl⟩
  obtain ⟨l1, l2, hl⟩ := List.append_of_mem hm
  rintro w f a hs
  have h : Hp w w (Dx ds :: F) := ⟨rfl, rfl, rfl, f, a, hs⟩
  have h2 := h.flat
  rw [hl] at h2
  have h3 : Hp w w (OwnS 1 ds[i].2 (ds[i].1.2.map vB) :: (l1 ++ l2 ++ F)) := h2.perm (by
    simp only [List.append_assoc, List.cons_append]
    exact List.perm_middle)
  exact h3.tells Tells.own
/-- the size of a scenario's lists -/
def sz (s : Scn) : Nat := s.deeds.length + s.spoils.length + s.behind.length + s.cuts.length
/-- the result goes out through its own block -/
theorem outS {b4 b6 : Nat} {t4 t6 : TypeId} {f4 : Nat × Nat} {X : List Value} {v : TT ksS} {K : TT ksS → World → Prop} (h : Hp E w (Blk b6 (.cells ⟨X⟩ t6 (0, 0)) :: Blk b4 (.cells ⟨encs ksS v⟩ t4 f4) :: F)) (hX : X.length = 8)
    (hK : ∀ w', Hp E w' F → K v w') :
    Ld (.st ksS) (⟨b4, 0, none⟩ : Addr) w fun x => StC (⟨b6, 0, none⟩ : Addr) (encs ksS x) 0 w fun w' => Ld (.st ksS) (⟨b6, 0, none⟩ : Addr) w' fun r => K r w' := by
  refine Ld.xt h rfl ?_
  refine StC.xw h (by show _ = X.length; rw [hX]; rfl) (by rfl) (fun w h => ?_)
  refine Ld.xt h rfl ?_
  exact hK _ h.drop.drop
theorem rOne_c {s : Scn} {sd ss sb sc : Sl} {nm x : List Nat} {K : TT ksS → Bool → World → Prop} (h : Hp E w F) (hn : Bt nm) (hx : Bt x) (hl : x.length ≤ 1000000)
    (hK : ∀ z ok w', (num x = some z ∧ ok = true ∨ num x = none ∧ ok = false) → Hp E w' F →
      K (tS (if nm = sSize then { s with size := z } else if nm = sBudget then { s with budget := z } else if nm = sRoom then { s with room := z } else { s with drop := z }) sd ss sb sc) ok w') :
    Cl Tryd.prog [.st ksS, kB] n_ref30_one ⟨[.agg ⟨encs ksS (tS s sd ss sb sc)⟩, .string (strOf nm), .string (strOf x)]⟩ w K := by
  refine ref30_one.ok _ _ _ _ _ ?_
  unfold ref30_one.E
  refine Nw.mk h fun b4 w h => ?_
  refine Nw.mk h fun b6 w h => ?_
  have fin : ∀ (z : Int) (ok : Bool), (num x = some z ∧ ok = true ∨ num x = none ∧ ok = false) → 
    IfB ((strOf nm).toList == (ByteArray.mk #[115, 105, 122, 101]).toList) (St ((⟨b4, 0, none⟩ : Addr).add 0) (.int .i64 z) w fun w => Ld (.st ksS) (⟨b4, 0, none⟩ : Addr) w fun x => StC (⟨b6, 0, none⟩ : Addr) (encs ksS x) 0 w fun w' => Ld (.st ksS) (⟨b6, 0, none⟩ : Addr) w' fun r => K r ok w')
     (IfB ((strOf nm).toList == (ByteArray.mk #[98, 117, 100, 103, 101, 116]).toList) (St ((⟨b4, 0, none⟩ : Addr).add 1) (.int .i64 z) w fun w => Ld (.st ksS) (⟨b4, 0, none⟩ : Addr) w fun x => StC (⟨b6, 0, none⟩ : Addr) (encs ksS x) 0 w fun w' => Ld (.st ksS) (⟨b6, 0, none⟩ : Addr) w' fun r => K r ok w')
     (IfB ((strOf nm).toList == (ByteArray.mk #[114, 111, 111, 109]).toList) (St ((⟨b4, 0, none⟩ : Addr).add 6) (.int .i64 z) w fun w => Ld (.st ksS) (⟨b4, 0, none⟩ : Addr) w fun x => StC (⟨b6, 0, none⟩ : Addr) (encs ksS x) 0 w fun w' => Ld (.st ksS) (⟨b6, 0, none⟩ : Addr) w' fun r => K r ok w')
      (St ((⟨b4, 0, none⟩ : Addr).add 4) (.int .i64 z) w fun w => Ld (.st ksS) (⟨b4, 0, none⟩ : Addr) w fun x => StC (⟨b6, 0, none⟩ : Addr) (encs ksS x) 0 w fun w' => Ld (.st ksS) (⟨b6, 0, none⟩ : Addr) w' fun r => K r ok w'))) := by
    intro z ok ho
    have hK := hK z ok
    rw [show (ByteArray.mk #[115, 105, 122, 101]) = strOf sSize from rfl, show (ByteArray.mk #[98, 117, 100, 103, 101, 116]) = strOf sBudget from rfl, show (ByteArray.mk #[114, 111, 111, 109]) = strOf sRoom from rfl,
      strOf_eq hn (by decide), strOf_eq hn (by decide), strOf_eq hn (by decide)]
    by_cases h1 : nm = sSize
    · rw [if_pos h1] at hK
      refine IfB.t (by simpa using h1) ?_
      refine St.xb h (by simp) rfl (fun w h => ?_)
      exact outS (v := tS { s with size := z } sd ss sb sc) h rfl fun w h => hK _ ho h
    rw [if_neg h1] at hK
    refine IfB.f (by simpa using h1) ?_
    by_cases h1 : nm = sBudget
    · rw [if_pos h1] at hK
      refine IfB.t (by simpa using h1) ?_
      refine St.xb h (by simp) rfl (fun w h => ?_)
      exact outS (v := tS { s with budget := z } sd ss sb sc) h rfl fun w h => hK _ ho h
    rw [if_neg h1] at hK
    refine IfB.f (by simpa using h1) ?_
    by_cases h1 : nm = sRoom
    · rw [if_pos h1] at hK
      refine IfB.t (by simpa using h1) ?_
      refine St.xb h (by simp) rfl (fun w h => ?_)
      exact outS (v := tS { s with room := z } sd ss sb sc) h rfl fun w h => hK _ ho h
    rw [if_neg h1] at hK
    refine IfB.f (by simpa using h1) ?_
    refine St.xb h (by simp) rfl (fun w h => ?_)
    exact outS (v := tS { s with drop := z } sd ss sb sc) h rfl fun w h => hK _ ho h
  refine rNum_c hx hl (fun z hz => ?_) (fun hz => ?_)
  · exact fin z true (.inl ⟨hz, rfl⟩)
  · exact fin 0 false (.inr ⟨hz, rfl⟩)
theorem unhex_len {x b : List Nat} (h : unhexW x = some b) : b.length ≤ x.length := by
  have key : ∀ (x : List Nat) (b : List Nat), pairsH x = some b → b.length ≤ x.length := by
    intro x
    induction hk : x.length using Nat.strongRecOn generalizing x with
    | ind k ih =>
      intro b hb
      match x, hk, hb with
      | [], _, hb => rw [pairsH] at hb; cases hb; simp
      | [_], _, hb => rw [pairsH] at hb; cases hb
      | a :: c :: r, hk, hb =>
        rw [pairsH] at hb
        cases ha : unhx a with
        | none => rw [ha] at hb; cases hb
        | some y =>
          cases hc : unhx c with
          | none => rw [ha, hc] at hb; cases hb
          | some z =>
            rw [ha, hc] at hb
            cases hr : pairsH r with
            | none => rw [hr] at hb; cases hb
            | some l =>
              rw [hr] at hb
              simp only [Option.map_some, Option.some.injEq] at hb
              subst hb
              simp only [List.length_cons] at hk ⊢
              have := ih r.length (by omega) r rfl l hr
              omega
  unfold unhexW at h
  split at h
  · cases h; simp
  · split at h
    · cases h
    · exact key x b h
theorem rBytes_c {s : Scn} {ds : List Dd} {sd ss sb sc : Sl} {nm x : List Nat} {K : TT ksS → Bool → World → Prop} (h : Hp E w (SnL ds s sd ss sb sc F)) (hd : ds.map (·.1) = s.deeds) (hz : sz s ≤ 10000000) (hn : Bt nm) (hx : Bt x) (h0 : x ≠ []) (hl : x.length ≤ 1000000)
    (hK : ∀ b s' ds' sd ss sb sc ok w', (unhexW x = some b ∧ ok = true ∧ s' = (if nm = sWrite then { s with deeds := s.deeds ++ [(false, b)] } else { s with behind := s.behind ++ b }) ∨ unhexW x = none ∧ ok = false) → ds'.map (·.1) = s'.deeds → Hp E w' (SnL ds' s' sd ss sb sc F) → K (tS s' sd ss sb sc) ok w') :
    Cl Tryd.prog [.st ksS, kB] n_ref30_bytes ⟨[.agg ⟨encs ksS (tS s sd ss sb sc)⟩, .string (strOf nm), .string (strOf x)]⟩ w K := by
  refine ref30_bytes.ok _ _ _ _ _ ?_
  unfold ref30_bytes.E
  refine Nw.mk h fun b4 w h => ?_
  refine Nw.mk h fun b6 w h => ?_
  have hdl : ds.length = s.deeds.length := by rw [← hd, List.length_map]
  have hz' := hz
  unfold sz at hz'
  refine rUnhex_c h hx h0 hl ?_ ?_ <;>
  · intro sx b w hu hb hbl h
    have hsx := h.ownLen
    simp only [List.length_map, Nat.mul_one] at hsx
    rw [show (ByteArray.mk #[119, 114, 105, 116, 101]) = strOf sWrite from rfl, strOf_eq hn (by decide)]
    by_cases h1 : nm = sWrite
    · refine IfB.t (by simpa using h1) ?_
      refine Ld.xb h rfl ?_
      refine app1 (x := ((false, b), sx)) ty_ops gD_len (by decide) rfl (gD_scalar _) (h.at 3) (by omega) (by omega) fun s' w h _ => ?_
      refine St.xb h (by simp) rfl (fun w h => ?_)
      refine outS (v := tS { s with deeds := s.deeds ++ [(false, b)] } s' ss sb sc) ((h.at 3).at 3) rfl fun w h => ?_
      have h := (Dx.app (d := ((false, b), sx)) ((h.at 1).at 2)).at 1
      refine hK b _ (ds ++ [((false, b), sx)]) _ _ _ _ _ w ?_ (by simp [hd]) h
      first | exact .inl ⟨hu, rfl, (if_pos h1).symm⟩ | exact .inr ⟨hu, rfl⟩
    · refine IfB.f (by simpa using h1) ?_
      refine Ld.xb h rfl ?_
      refine run_append (ys := b.map vB) (n := sx.len) ty_bytes (by decide) (.inl ⟨5, by kernel_rfl⟩) (h.at 6) (.inl ⟨_, _, _, rfl, rfl, h.tells Tells.own⟩) (by simp [hsx]) vB_scalar (by have e := (h.at 6).ownLen; simp only [List.length_map] at e; show (2 * (sb.len + sx.len) + 1024) * 1 ≤ 2 ^ 48; omega) (by have e := (h.at 6).ownLen; simp only [List.length_map] at e; show sb.len + sx.len < 2 ^ 62; omega) fun s' w h _ => ?_
      refine St.xb h (by simp) rfl (fun w h => ?_)
      refine outS (v := tS { s with behind := s.behind ++ b } sd ss s' sc) ((h.at 3).at 3) rfl fun w h => ?_
      have h := (((h.no 1).at 3).at 3).at 3
      rw [← List.map_append] at h
      refine hK b { s with behind := s.behind ++ b } ds _ _ _ _ _ w ?_ hd h
      first | exact .inl ⟨hu, rfl, (if_neg h1).symm⟩ | exact .inr ⟨hu, rfl⟩
theorem rdS {s : Sl} {ys : List (List Nat)} {i : Nat} {K : ByteArray → Prop} (hs : SlT 1 s (ys.map vS) w) (hi : i < ys.length) (hK : K (strOf ys[i])) : Idx s (i : Int) 1 fun q => Ld kStr q w K := by
  have hl := hs.1
  simp only [List.length_map, Nat.mul_one] at hl
  refine Idx.rd hs (by omega) (by omega) fun q hq hc => Ld.sc (s := .str) (strOf ys[i]) ?_ hK
  rw [hc]; simp [vS]
theorem nums_snoc : ∀ {a : List (List Nat)} {x : List Nat} {zs : List Int} {z : Int}, nums a = some zs → num x = some z → nums (a ++ [x]) = some (zs ++ [z])
  | [], x, zs, z, h, hz => by
    rw [nums] at h
    cases h
    rw [List.nil_append, nums, hz, nums]; rfl
  | y :: a, x, zs, z, h, hz => by
    rw [nums] at h
    cases hy : num y with
    | none => rw [hy] at h; cases h
    | some u =>
      cases ha : nums a with
      | none => rw [hy, ha] at h; cases h
      | some us =>
        rw [hy, ha] at h
        cases h
        rw [List.cons_append, nums, hy, nums_snoc ha hz]; rfl
theorem nums_bad : ∀ {a r : List (List Nat)} {x : List Nat}, num x = none → nums (a ++ x :: r) = none
  | [], r, x, h => by rw [List.nil_append, nums, h]
  | y :: a, r, x, h => by
    rw [List.cons_append, nums, nums_bad h]
    cases num y <;> rfl
theorem nums_len : ∀ {a : List (List Nat)} {zs : List Int}, nums a = some zs → zs.length = a.length
  | [], zs, h => by rw [nums] at h; cases h; rfl
  | y :: a, zs, h => by
    rw [nums] at h
    cases hy : num y with
    | none => rw [hy] at h; cases h
    | some u =>
      cases ha : nums a with
      | none => rw [hy, ha] at h; cases h
      | some us =>
        rw [hy, ha] at h
        cases h
        simp [nums_len ha]
theorem rCuts_c {s : Scn} {ds : List Dd} {sd ss sb sc l : Sl} {ws : List (List Nat)} {K : TT ksS → Bool → World → Prop} (h : Hp E w (SnL ds s sd ss sb sc F)) (hz : sz s ≤ 10000000) (hs : Tells F (SlT 1 l (ws.map vS))) (hw : ∀ x ∈ ws, Bt x ∧ x.length ≤ 1000000) (hl : ws.length ≤ 1000000)
    (hK : ∀ zs sc ok w', (nums ws = some zs ∧ ok = decide (ws ≠ []) ∨ nums ws = none ∧ ok = false) → Hp E w' (SnL ds { s with cuts := s.cuts ++ zs } sd ss sb sc F) → K (tS { s with cuts := s.cuts ++ zs } sd ss sb sc) ok w') :
    Cl Tryd.prog [.st ksS, kB] n_ref30_cuts ⟨[.agg ⟨encs ksS (tS s sd ss sb sc)⟩, .slice l.base l.len l.cap]⟩ w K := by
  refine ref30_cuts.ok _ _ _ _ ?_
  unfold ref30_cuts.E
  have hlen : l.len = ws.length := by have := (h.tells (hs.cons.cons.cons.cons.cons)).1; simpa using this.symm
  refine Nw.mk h fun b4 w h => ?_
  refine Nw.mk h fun b6 w h => ?_
  have hz' := hz
  unfold sz at hz'
  refine ⟨fun i w => ∃ (k : Nat) (zs : List Int) (sc : Sl), i = (k : Int) ∧ k ≤ ws.length ∧ nums (ws.take k) = some zs ∧
      Hp E w (Blk b6 (.cells ⟨[.int .i64 0, .int .i64 0, .slice none 0 0, .slice none 0 0, .int .i64 0, .slice none 0 0, .int .i64 0, .slice none 0 0]⟩ 27 (0, 0)) :: Blk b4 (.cells ⟨encs ksS (tS { s with cuts := s.cuts ++ zs } sd ss sb sc)⟩ 27 (0, 0)) :: SnL ds { s with cuts := s.cuts ++ zs } sd ss sb sc F), fun i _ => ws.length - i.toNat,
    ⟨0, [], sc, rfl, by omega, rfl, by simpa using h⟩, ?_⟩
  rintro i w ⟨k, zs, sc, rfl, hk, hzs, h⟩
  have hzl := nums_len hzs
  rw [List.length_take, Nat.min_eq_left hk] at hzl
  refine IfB.dm (fun hlt => ?_) (fun hge => ?_)
  · have hlt : k < ws.length := by omega
    refine rdS (h.tells (hs.cons.cons.cons.cons.cons.cons.cons)) hlt ?_
    have hx := hw ws[k] (List.getElem_mem _)
    refine rNum_c hx.1 hx.2 (fun z hz => ?_) (fun hz => ?_)
    · refine IfB.f rfl ?_
      refine Ld.xb h rfl ?_
      have e : ws.take (k + 1) = ws.take k ++ [ws[k]] := by rw [List.take_add_one, List.getElem?_eq_getElem hlt, Option.toList_some]
      refine app1m (f := vI) (x := z) ty_intl (fun _ => rfl) (h.at 6) (by simp only [List.length_append]; omega) (by simp only [List.length_append]; omega) fun s' w h _ => ?_
      refine St.xb h (by simp) rfl (fun w h => ?_)
      rw [i64_id (by omega)]
      refine ⟨⟨k + 1, zs ++ [z], s', by omega, by omega, by rw [e]; exact nums_snoc hzs hz, ?_⟩, by dsimp only; omega⟩
      have h := (((((h.at 6).at 6).at 6).at 6).at 6).at 6
      rw [← List.append_assoc]
      exact h
    · refine IfB.t rfl ?_
      have hn : nums ws = none := by
        have := nums_bad (a := ws.take k) (r := ws.drop (k + 1)) hz
        rwa [← List.drop_eq_getElem_cons hlt, List.take_append_drop] at this
      exact outS (v := tS { s with cuts := s.cuts ++ zs } sd ss sb sc) h rfl fun w h => hK _ _ _ _ (.inr ⟨hn, rfl⟩) h
  · have hkl : k = ws.length := by omega
    subst hkl
    rw [List.take_length] at hzs
    refine outS (v := tS { s with cuts := s.cuts ++ zs } sd ss sb sc) h rfl fun w h => hK _ _ _ _ (.inl ⟨hzs, ?_⟩) h
    rw [decide_eq_decide, hlen]
    exact ⟨fun h => List.length_pos_iff.1 (by omega), fun h => by have := List.length_pos_iff.2 h; omega⟩
end
end Go.Proofs.YtdfalolgngnelaaDoor
/- ScE -/
namespace Go.Proofs.YtdfalolgngnelaaDoor
open Go Go.Vc Go.Scr
set_option linter.unusedSectionVars false
/-- a line with one number -/
def isNum (n : List Nat) : Prop := n = sSize ∨ n = sBudget ∨ n = sRoom ∨ n = sDrop
instance (n : List Nat) : Decidable (isNum n) := by unfold isNum; infer_instance
def setNum (s : Scn) (n : List Nat) (z : Int) : Scn := if n = sSize then { s with size := z } else if n = sBudget then { s with budget := z } else if n = sRoom then { s with room := z } else { s with drop := z }
theorem saysW_num {s : Scn} {n : List Nat} {l : List (List Nat)} (h : isNum n) : saysW s (n :: l) = match l with
    | [x] => (num x).map fun z => setNum s n z
    | _ => none := by
  rcases h with rfl | rfl | rfl | rfl <;> (match l with
    | [] => rfl
    | [x] => cases hx : num x <;> simp [saysW, setNum, hx, sSize, sBudget, sRoom, sDrop]
    | _ :: _ :: _ => rfl)
def isByt (n : List Nat) : Prop := n = sWrite ∨ n = sBehind
instance (n : List Nat) : Decidable (isByt n) := by unfold isByt; infer_instance
theorem saysW_byt {s : Scn} {n : List Nat} {l : List (List Nat)} (h : isByt n) : saysW s (n :: l) = match l with
    | [x] => (unhexW x).map fun b => (if n = sWrite then { s with deeds := s.deeds ++ [(false, b)] } else { s with behind := s.behind ++ b })
    | _ => none := by
  rcases h with rfl | rfl <;> (match l with
    | [] => rfl
    | [x] => cases hx : unhexW x <;> simp [saysW, hx, sSize, sBudget, sRoom, sDrop, sWrite, sBehind]
    | _ :: _ :: _ => rfl)
theorem saysW_flush {s : Scn} {l : List (List Nat)} : saysW s (sFlush :: l) = if l = [] then some { s with deeds := s.deeds ++ [(true, [])] } else none := by
  cases l with
  | nil => rfl
  | cons x l => rfl
theorem saysW_cuts {s : Scn} {l : List (List Nat)} : saysW s (sCuts :: l) = if l = [] then none else (nums l).map fun zs => { s with cuts := s.cuts ++ zs } := by
  cases l with
  | nil => rfl
  | cons x l => rfl
theorem saysW_spoil {s : Scn} {l : List (List Nat)} : saysW s (sSpoil :: l) = match l with
      | [x, y] => match num x, unhexW y with
        | some z, some [b] => some { s with spoils := s.spoils ++ [(z, b)] }
        | _, _ => none
      | _ => none := by
  match l with
  | [] => rfl
  | [_] => rfl
  | [x, y] => rfl
  | _ :: _ :: _ :: _ => rfl
theorem saysW_rem {s : Scn} {n : List Nat} {l : List (List Nat)} (h : n.head? = some 35) : saysW s (n :: l) = some s := by
  unfold saysW
  simp [h]
theorem saysW_none {s : Scn} {n : List Nat} {l : List (List Nat)} (h0 : n.head? ≠ some 35) (h1 : ¬ isNum n) (h2 : ¬ isByt n) (h3 : n ≠ sFlush) (h4 : n ≠ sCuts) (h5 : n ≠ sSpoil) : saysW s (n :: l) = none := by
  unfold isNum at h1
  unfold isByt at h2
  simp only [not_or] at h1 h2
  unfold saysW
  simp [h0, h1, h2, h3, h4, h5]
section
variable {E w : World} {F : List HP}
set_option maxRecDepth 20000
/-- a value through a block -/
theorem outT {b6 : Nat} {t6 : TypeId} {X : List Value} {v : TT ksS} {K : TT ksS → World → Prop} (h : Hp E w (Blk b6 (.cells ⟨X⟩ t6 (0, 0)) :: F)) (hX : X.length = 8) (hK : ∀ w', Hp E w' F → K v w') :
    StC (⟨b6, 0, none⟩ : Addr) (encs ksS v) 0 w fun w' => Ld (.st ksS) (⟨b6, 0, none⟩ : Addr) w' fun r => K r w' := by
  refine StC.xw h (by show _ = X.length; rw [hX]; rfl) (by rfl) (fun w h => ?_)
  refine Ld.xt h rfl ?_
  exact hK _ h.drop
theorem rSays_c {s : Scn} {ds : List Dd} {sd ss sb sc : Sl} {ln : List Nat} {K : TT ksS → Bool → World → Prop} (h : Hp E w (SnL ds s sd ss sb sc F)) (hd : ds.map (·.1) = s.deeds) (hz : sz s ≤ 9000000) (hb : Bt ln) (hl : ln.length ≤ 1000000)
    (hK1 : ∀ s' ds' sd ss sb sc w', says s ln = some s' → ds'.map (·.1) = s'.deeds → Hp E w' (SnL ds' s' sd ss sb sc F) → K (tS s' sd ss sb sc) true w')
    (hK0 : ∀ v w', says s ln = none → Hp E w' F → K v false w') :
    Cl Tryd.prog [.st ksS, kB] n_ref30_says ⟨[.agg ⟨encs ksS (tS s sd ss sb sc)⟩, .string (strOf ln)]⟩ w K := by
  refine ref30_says.ok _ _ _ _ ?_
  unfold ref30_says.E
  refine Nw.mk h fun b4 w h => ?_
  refine Nw.mk h fun b6 w h => ?_
  refine rWords_c h hb (by omega) fun s8 w h => ?_
  have hwl := wds_len ln
  have hwa := wds_all hb
  unfold says at hK1 hK0
  have h8 := h.ownLen
  simp only [List.length_map, Nat.mul_one] at h8
  have hz' := hz
  unfold sz at hz'
  have hdl : ds.length = s.deeds.length := by rw [← hd, List.length_map]
  generalize hws : wds ln = ws at hK1 hK0 h hwl hwa h8
  cases ws with
  | nil =>
    refine IfB.et (by rw [← h8]; rfl) ?_
    exact outS (v := tS s sd ss sb sc) h.drop rfl fun w h => hK1 s ds _ _ _ _ _ rfl hd h
  | cons nm l =>
    have hnm := hwa nm List.mem_cons_self
    have hcap := h.ownCap
    refine Join.of (fun r => nm.head? ≠ some 35 → r w) (fun h35 => ?_) fun r hr => ?_
    · simp only [List.length_cons] at h8 hwl
      refine Slc.rdn (xs := (nm :: l).map vS) (by simp; omega) (by omega) (by omega) (by omega) (by omega) (by omega) fun s19 hs19 hl19 _ => ?_
      have ht19 : Tells (OwnS 1 s8 ((nm :: l).map vS) :: Blk b6 (.cells ⟨[.int .i64 0, .int .i64 0, .slice none 0 0, .slice none 0 0, .int .i64 0, .slice none 0 0, .int .i64 0, .slice none 0 0]⟩ 27 (0, 0)) :: Blk b4 (.cells ⟨encs ksS (tS s sd ss sb sc)⟩ 27 (0, 0)) :: SnL ds s sd ss sb sc F) (SlT 1 s19 (l.map vS)) := Tells.own.imp fun w' hw' => by
        have := hs19 w' hw'
        have e : ((((nm :: l).map vS).drop ((1 : Int).toNat * 1)).take (((s8.len : Int).toNat - (1 : Int).toNat) * 1)) = l.map vS := by
          show (l.map vS).take _ = _
          rw [List.take_of_length_le]
          simp; omega
        rwa [e] at this
      have hl19 : s19.len = l.length := by rw [hl19]; simp; omega
      have hin : Idx s8 0 1 = Idx s8 ((0 : Nat) : Int) 1 := rfl
      rw [hin]
      refine rdS (h.tells Tells.own) (by simp) ?_
      rw [List.getElem_cons_zero]
      refine Join.of (fun r => r (decide (isNum nm)) w) ?_ fun r hr => ?_
      · have hrd : ∀ (j : Nat) (hj : j < l.length), Bt l[j] ∧ l[j] ≠ [] ∧ l[j].length ≤ 1000000 := fun j hj => by
          have := hwa l[j] (List.mem_cons_of_mem _ (List.getElem_mem _))
          exact ⟨this.1, this.2.1, by omega⟩
        have i0 : Idx s19 0 1 = Idx s19 ((0 : Nat) : Int) 1 := rfl
        have i1 : Idx s19 1 1 = Idx s19 ((1 : Nat) : Int) 1 := rfl
        by_cases hnu : isNum nm
        · rw [saysW_num hnu] at hK1 hK0
          rw [decide_eq_true hnu]
          refine IfB.t rfl ?_
          refine IfB.nm (fun h1 => ?_) (fun h1 => ?_)
          · refine outS (v := tS s sd ss sb sc) h.drop rfl fun w h => hK0 _ _ ?_ h.drop.drop.drop.drop.drop
            match l, hl19 with
            | [], _ => rfl
            | [_], e => exact absurd (by rw [e]; rfl) h1
            | _ :: _ :: _, _ => rfl
          · obtain ⟨x, rfl⟩ : ∃ x, l = [x] := List.length_eq_one_iff.1 (by omega)
            have hx := hrd 0 (by simp)
            rw [List.getElem_cons_zero] at hx
            refine Drw.mk h fun w h => ?_
            refine Ld.xt (x := tS s sd ss sb sc) h rfl ?_
            refine rdS (h.tells Tells.own) (by simp) ?_
            rw [i0]
            refine rdS (h.tells ht19) (by simp) ?_
            rw [List.getElem_cons_zero, List.getElem_cons_zero]
            refine rOne_c h hnm.1 hx.1 hx.2.2 fun z ok w' ho h => ?_
            refine outT h.drop rfl fun w h => ?_
            have h := h.drop
            rcases ho with ⟨e, rfl⟩ | ⟨e, rfl⟩
            · dsimp only at hK1
              rw [e] at hK1
              have e2 := hK1 (setNum s nm z) ds sd ss sb sc w rfl (by unfold setNum; split; exact hd; split; exact hd; split; exact hd; exact hd)
              unfold setNum at e2
              by_cases h1 : nm = sSize
              · rw [if_pos h1] at e2 ⊢; exact e2 h
              rw [if_neg h1] at e2 ⊢
              by_cases h1 : nm = sBudget
              · rw [if_pos h1] at e2 ⊢; exact e2 h
              rw [if_neg h1] at e2 ⊢
              by_cases h1 : nm = sRoom
              · rw [if_pos h1] at e2 ⊢; exact e2 h
              rw [if_neg h1] at e2 ⊢
              exact e2 h
            · dsimp only at hK0
              rw [e] at hK0
              exact hK0 _ _ rfl h.drop.drop.drop.drop.drop
        rw [decide_eq_false hnu]
        refine IfB.f rfl ?_
        refine Join.of (fun r => r (decide (isByt nm)) w) ?_ fun r hr => ?_
        · by_cases hby : isByt nm
          · rw [saysW_byt hby] at hK1 hK0
            rw [decide_eq_true hby]
            refine IfB.t rfl ?_
            refine IfB.nm (fun h1 => ?_) (fun h1 => ?_)
            · refine outS (v := tS s sd ss sb sc) h.drop rfl fun w h => hK0 _ _ ?_ h.drop.drop.drop.drop.drop
              match l, hl19 with
              | [], _ => rfl
              | [_], e => exact absurd (by rw [e]; rfl) h1
              | _ :: _ :: _, _ => rfl
            · obtain ⟨x, rfl⟩ : ∃ x, l = [x] := List.length_eq_one_iff.1 (by omega)
              have hx := hrd 0 (by simp)
              rw [List.getElem_cons_zero] at hx
              refine Drw.mk h fun w h => ?_
              refine Ld.xt (x := tS s sd ss sb sc) h rfl ?_
              refine rdS (h.tells Tells.own) (by simp) ?_
              rw [i0]
              refine rdS (h.tells ht19) (by simp) ?_
              rw [List.getElem_cons_zero, List.getElem_cons_zero]
              refine rBytes_c (((((h.at 7).at 7).at 7).at 7).at 7) hd (by omega) hnm.1 hx.1 hx.2.1 hx.2.2 fun b s' ds' sd ss sb sc ok w ho hd' h => ?_
              refine outT (h.at 6) rfl fun w h => ?_
              have h := (h.no 5).no 5
              rcases ho with ⟨e, rfl, rfl⟩ | ⟨e, rfl⟩
              · dsimp only at hK1
                rw [e] at hK1
                exact hK1 _ ds' _ _ _ _ _ rfl hd' h
              · dsimp only at hK0
                rw [e] at hK0
                exact hK0 _ _ rfl h.drop.drop.drop.drop.drop
          rw [decide_eq_false hby]
          refine IfB.f rfl ?_
          rw [show (ByteArray.mk #[102, 108, 117, 115, 104]) = strOf sFlush from rfl, show (ByteArray.mk #[99, 117, 116, 115]) = strOf sCuts from rfl, show (ByteArray.mk #[115, 112, 111, 105, 108]) = strOf sSpoil from rfl,
            strOf_eq hnm.1 (by decide), strOf_eq hnm.1 (by decide), strOf_eq hnm.1 (by decide)]
          by_cases h1 : nm = sFlush
          · subst h1
            rw [saysW_flush] at hK1 hK0
            refine IfB.t (by simp) ?_
            refine Ld.xb h rfl ?_
            refine app1 (x := ((true, []), (⟨none, 0, 0⟩ : Sl))) ty_ops gD_len (by decide) rfl (gD_scalar _) (h.at 3) (by omega) (by omega) fun s' w h _ => ?_
            refine St.xb h (by simp) rfl (fun w h => ?_)
            refine outS (v := tS { s with deeds := s.deeds ++ [(true, [])] } s' ss sb sc) ((h.at 3).at 3) rfl fun w h => ?_
            by_cases hl0 : l = []
            · subst hl0
              have h := h.no 1
              rw [show (s19.len : Int) = 0 by rw [hl19]; rfl]
              have h := (h.ownNil 1)
              have h := (Dx.app (d := ((true, []), (⟨none, 0, 0⟩ : Sl))) (h.at 2)).at 1
              exact hK1 _ (ds ++ [((true, []), (⟨none, 0, 0⟩ : Sl))]) _ _ _ _ _ rfl (by simp [hd]) h
            · have : ¬ (s19.len : Int) = 0 := fun e => hl0 (List.length_eq_zero_iff.1 (by omega))
              rw [beq_eq_false_iff_ne.2 this]
              exact hK0 _ _ (if_neg hl0) h.drop.drop.drop.drop.drop.drop
          refine IfB.f (by simpa using h1) ?_
          by_cases h2 : nm = sCuts
          · subst h2
            rw [saysW_cuts] at hK1 hK0
            refine IfB.t (by simp) ?_
            refine Ld.xt (x := tS s sd ss sb sc) h rfl ?_
            have ht : Tells (OwnS 1 s8 ((sCuts :: l).map vS) :: Blk b6 (.cells ⟨[.int .i64 0, .int .i64 0, .slice none 0 0, .slice none 0 0, .int .i64 0, .slice none 0 0, .int .i64 0, .slice none 0 0]⟩ 27 (0, 0)) :: Blk b4 (.cells ⟨encs ksS (tS s sd ss sb sc)⟩ 27 (0, 0)) :: F) (SlT 1 s19 (l.map vS)) := Tells.own.imp fun w' hw' => by
              have := hs19 w' hw'
              have e : ((((sCuts :: l).map vS).drop ((1 : Int).toNat * 1)).take (((s8.len : Int).toNat - (1 : Int).toNat) * 1)) = l.map vS := by
                show (l.map vS).take _ = _
                rw [List.take_of_length_le]
                simp; omega
              rwa [e] at this
            refine rCuts_c (ws := l) (((((h.at 7).at 7).at 7).at 7).at 7) (by omega) ht (fun x hx => ?_) (by omega) fun zs sc' ok w ho h => ?_
            · obtain ⟨j, hj, rfl⟩ := List.getElem_of_mem hx
              exact ⟨(hrd j hj).1, (hrd j hj).2.2⟩
            refine outT (h.at 6) rfl fun w h => ?_
            have h := (h.no 5).no 5
            rcases ho with ⟨e, rfl⟩ | ⟨e, rfl⟩
            · by_cases hl0 : l = []
              · rw [decide_eq_false (by simpa using hl0)]
                exact hK0 _ _ (if_pos hl0) h.drop.drop.drop.drop.drop
              · rw [decide_eq_true hl0]
                rw [if_neg hl0, e] at hK1
                exact hK1 _ ds _ _ _ _ _ rfl hd h
            · refine hK0 _ _ ?_ h.drop.drop.drop.drop.drop
              split
              · rfl
              · rw [e]; rfl
          refine IfB.f (by simpa using h2) ?_
          by_cases h3 : nm = sSpoil
          · subst h3
            rw [saysW_spoil] at hK1 hK0
            refine IfB.t (by simp) ?_
            refine IfB.nm (fun hne => ?_) (fun he2 => ?_)
            · refine outS (v := tS s sd ss sb sc) h.drop rfl fun w h => hK0 _ _ ?_ h.drop.drop.drop.drop.drop
              match l, hl19 with
              | [], _ => rfl
              | [_], _ => rfl
              | [_, _], e => exact absurd (by rw [e]; rfl) hne
              | _ :: _ :: _ :: _, _ => rfl
            obtain ⟨x, y, rfl⟩ : ∃ x y, l = [x, y] := by
              have hl2 : l.length = 2 := by omega
              match l, hl2 with
              | [x, y], _ => exact ⟨x, y, rfl⟩
            have hx := hrd 0 (by simp)
            have hy := hrd 1 (by simp)
            rw [List.getElem_cons_zero] at hx
            rw [List.getElem_cons_succ, List.getElem_cons_zero] at hy
            dsimp only at hK1 hK0
            rw [i0, i1]
            refine rdS (h.tells ht19) (by simp) ?_
            rw [List.getElem_cons_zero]
            refine rNum_c hx.1 hx.2.2 (fun z hz => ?_) (fun hz => ?_)
            · rw [hz] at hK1 hK0
              refine rdS (h.tells ht19) (by simp) ?_
              rw [List.getElem_cons_succ, List.getElem_cons_zero]
              refine rUnhex_c h hy.1 hy.2.1 hy.2.2 (fun sx b w hu hb hbl h => ?_) (fun sx b w hu hb hbl h => ?_)
              · rw [hu] at hK1 hK0
                refine IfB.f rfl (IfB.f rfl ?_)
                have hsx := h.ownLen
                simp only [List.length_map, Nat.mul_one] at hsx
                refine IfB.nm (fun hne => ?_) (fun he1 => ?_)
                · refine outS (v := tS s sd ss sb sc) h.drop.drop rfl fun w h => hK0 _ _ ?_ h.drop.drop.drop.drop.drop
                  match b, hsx with
                  | [], _ => rfl
                  | [_], e => exact absurd (by rw [← e]; rfl) hne
                  | _ :: _ :: _, _ => rfl
                obtain ⟨c, rfl⟩ : ∃ c, b = [c] := List.length_eq_one_iff.1 (by omega)
                refine Drw.mk h fun w h => ?_
                have ix : Idx sx 0 1 = Idx sx ((0 : Nat) : Int) 1 := rfl
                rw [ix]
                refine rdU (h.tells Tells.own) (by simp) ?_
                rw [List.getElem_cons_zero]
                constructor
                · refine Ld.xb h rfl ?_
                  refine app1 (x := (z, c)) ty_pats gP_len (by decide) rfl (gP_scalar _) (h.at 6) (by omega) (by omega) fun s' w h _ => ?_
                  refine St.xb h (by simp) rfl (fun w h => ?_)
                  refine outS (v := tS { s with spoils := s.spoils ++ [(z, c)] } sd s' sb sc) ((h.at 4).at 4) rfl fun w h => ?_
                  exact hK1 _ ds _ _ _ _ _ rfl hd ((((h.no 1).no 1).at 2).at 2)
                · refine Nw.mk h fun bn w h => ?_
                  refine Ld.xb h rfl ?_
                  have hs := (h.at 7).ownLen
                  rw [fm_len gP_len] at hs
                  refine run_append (ys := gP (z, c)) (n := 1) ty_pats (by decide) (.inl ⟨47, by kernel_rfl⟩) (h.at 7) (.inl ⟨_, _, _, rfl, rfl, h.tells (Tells.blk (xs := gP (z, c)) rfl (by simp [gP]))⟩) (by simp [gP]) (gP_scalar _) (by show (2 * (ss.len + 1) + 1024) * 16 ≤ 2 ^ 48; omega) (by show ss.len + 1 < 2 ^ 62; omega) fun s' w h _ => ?_
                  refine St.xb h (by simp) rfl (fun w h => ?_)
                  have h := h.no 1
                  refine outS (v := tS { s with spoils := s.spoils ++ [(z, c)] } sd s' sb sc) ((h.at 4).at 4) rfl fun w h => ?_
                  have h := (((h.no 1).no 1).at 2).at 2
                  rw [show s.spoils.flatMap gP ++ gP (z, c) = (s.spoils ++ [(z, c)]).flatMap gP by simp] at h
                  exact hK1 _ ds _ _ _ _ _ rfl hd h
              · rw [hu] at hK1 hK0
                refine IfB.f rfl (IfB.t rfl ?_)
                exact outS (v := tS s sd ss sb sc) h.drop.drop rfl fun w h => hK0 _ _ rfl h.drop.drop.drop.drop.drop
            · rw [hz] at hK0
              refine rdS (h.tells ht19) (by simp) ?_
              rw [List.getElem_cons_succ, List.getElem_cons_zero]
              refine rUnhex_c h hy.1 hy.2.1 hy.2.2 (fun sx b w hu hb hbl h => ?_) (fun sx b w hu hb hbl h => ?_)
              · refine IfB.t rfl ?_
                exact outS (v := tS s sd ss sb sc) h.drop.drop rfl fun w h => hK0 _ _ rfl h.drop.drop.drop.drop.drop
              · refine IfB.t rfl ?_
                exact outS (v := tS s sd ss sb sc) h.drop.drop rfl fun w h => hK0 _ _ rfl h.drop.drop.drop.drop.drop
          refine IfB.f (by simpa using h3) ?_
          exact outS (v := tS s sd ss sb sc) h.drop rfl fun w h => hK0 _ _ (saysW_none h35 hnu hby h1 h2 h3) h.drop.drop.drop.drop.drop
        · rw [show (ByteArray.mk #[119, 114, 105, 116, 101]) = strOf sWrite from rfl, show (ByteArray.mk #[98, 101, 104, 105, 110, 100]) = strOf sBehind from rfl, strOf_eq hnm.1 (by decide), strOf_eq hnm.1 (by decide)]
          by_cases h1 : nm = sWrite
          · rw [decide_eq_true (.inl h1)] at hr
            rw [beq_iff_eq.2 h1]; exact hr
          rw [beq_eq_false_iff_ne.2 h1]
          refine IfB.f rfl ?_
          have e : decide (isByt nm) = (nm == sBehind) := by
            rw [Bool.eq_iff_iff, decide_eq_true_iff, beq_iff_eq]
            unfold isByt
            simp [h1]
          rw [e] at hr
          exact hr
      · rw [show (ByteArray.mk #[115, 105, 122, 101]) = strOf sSize from rfl, show (ByteArray.mk #[98, 117, 100, 103, 101, 116]) = strOf sBudget from rfl, show (ByteArray.mk #[114, 111, 111, 109]) = strOf sRoom from rfl, show (ByteArray.mk #[100, 114, 111, 112]) = strOf sDrop from rfl,
          strOf_eq hnm.1 (by decide), strOf_eq hnm.1 (by decide), strOf_eq hnm.1 (by decide), strOf_eq hnm.1 (by decide)]
        by_cases h1 : nm = sSize
        · rw [decide_eq_true (.inl h1)] at hr
          rw [beq_iff_eq.2 h1]; exact hr
        rw [beq_eq_false_iff_ne.2 h1]
        refine IfB.f rfl ?_
        by_cases h2 : nm = sBudget
        · rw [decide_eq_true (.inr (.inl h2))] at hr
          rw [beq_iff_eq.2 h2]; exact hr
        rw [beq_eq_false_iff_ne.2 h2]
        refine IfB.f rfl ?_
        by_cases h3 : nm = sRoom
        · rw [decide_eq_true (.inr (.inr (.inl h3)))] at hr
          rw [beq_iff_eq.2 h3]; exact hr
        rw [beq_eq_false_iff_ne.2 h3]
        refine IfB.f rfl ?_
        have e : decide (isNum nm) = (nm == sDrop) := by
          rw [Bool.eq_iff_iff, decide_eq_true_iff, beq_iff_eq]
          unfold isNum
          simp [h1, h2, h3]
        rw [e] at hr
        exact hr
    · simp only [List.length_cons] at h8
      refine IfB.ef (by omega) ?_
      have hin : Idx s8 0 1 = Idx s8 ((0 : Nat) : Int) 1 := rfl
      rw [hin]
      refine rdS (h.tells Tells.own) (by simp) ?_
      rw [List.getElem_cons_zero, strOf_size]
      have hpos := List.length_pos_iff.2 hnm.2.1
      have hh : nm.head? = some nm[0] := by rw [List.head?_eq_getElem?, List.getElem?_eq_getElem hpos]
      rw [Int.toNat_zero, strAt_of hnm.1 hpos]
      refine ⟨by omega, by omega, ?_⟩
      refine IfB.em (fun h1 => ?_) (fun h1 => ?_)
      · refine outS (v := tS s sd ss sb sc) h.drop rfl fun w h => hK1 s ds _ _ _ _ _ ?_ hd h
        exact saysW_rem (by rw [hh]; congr 1; omega)
      · exact hr (by rw [hh]; intro e; injection e with e; omega)
end
end Go.Proofs.YtdfalolgngnelaaDoor
/- ScF -/
namespace Go.Proofs.YtdfalolgngnelaaDoor
open Go Go.Vc Go.Scr
set_option linter.unusedSectionVars false
theorem says_sz {s s' : Scn} {ln : List Nat} (hb : Bt ln) (h : says s ln = some s') : sz s' ≤ sz s + ln.length := by
  have hwl := wds_len ln
  have hwa := wds_all hb
  unfold says at h
  generalize hws : wds ln = ws at h hwl hwa
  cases ws with
  | nil => cases h; omega
  | cons nm l =>
    simp only [List.length_cons] at hwl
    by_cases h35 : nm.head? = some 35
    · rw [saysW_rem h35] at h; cases h; omega
    by_cases hnu : isNum nm
    · rw [saysW_num hnu] at h
      split at h
      · rename_i x
        cases hx : num x with
        | none => rw [hx] at h; cases h
        | some z =>
          rw [hx] at h
          cases h
          unfold setNum sz
          split
          · simp only; omega
          · split
            · simp only; omega
            · split
              · simp only; omega
              · simp only; omega
      · cases h
    by_cases hby : isByt nm
    · rw [saysW_byt hby] at h
      split at h
      · rename_i x
        have hx2 := (hwa x (by simp)).2.2.2
        cases hx : unhexW x with
        | none => rw [hx] at h; cases h
        | some b =>
          rw [hx] at h
          have := unhex_len hx
          cases h
          unfold sz
          split
          · simp only [List.length_append, List.length_singleton]; omega
          · simp only [List.length_append]; omega
      · cases h
    by_cases h1 : nm = sFlush
    · subst h1
      rw [saysW_flush] at h
      split at h
      · cases h; unfold sz; simp only [List.length_append, List.length_singleton]; omega
      · cases h
    by_cases h2 : nm = sCuts
    · subst h2
      rw [saysW_cuts] at h
      split at h
      · cases h
      · cases hn : nums l with
        | none => rw [hn] at h; cases h
        | some zs =>
          rw [hn] at h
          have := nums_len hn
          cases h
          unfold sz; simp only [List.length_append]; omega
    by_cases h3 : nm = sSpoil
    · subst h3
      rw [saysW_spoil] at h
      split at h
      · split at h
        · cases h; unfold sz; simp only [List.length_append, List.length_singleton]; omega
        · cases h
      · cases h
    rw [saysW_none h35 hnu hby h1 h2 h3] at h
    cases h
theorem lns_sum : ∀ (t : List Nat), ((lns t).map List.length).sum ≤ t.length := by
  intro t
  induction hk : t.length using Nat.strongRecOn generalizing t with
  | ind k ih =>
    by_cases h : t = []
    · rw [h, lns_nil]; simp
    · rw [lns_pos h]
      have h1 := lrest_lt h
      have := ih (lrest t).length (by omega) (lrest t) rfl
      have h2 := congrArg List.length (List.takeWhile_append_dropWhile (p := fun c : Nat => c != 10) (l := t))
      rw [List.length_append] at h2
      have h3 : (lrest t).length ≤ (t.dropWhile fun c => c != 10).length := by unfold lrest; rw [List.length_drop]; omega
      simp only [List.map_cons, List.sum_cons]
      unfold line
      omega
/-- what Parse returns -/
def pres (t : List Nat) : Scn × Int × Int := match parse t with
  | .ok s => (s, 0, 0)
  | .error 0 => (scn0, 0, 301)
  | .error (n + 1) => (scn0, (n : Int) + 1, 300)
section
variable {E w : World} {F : List HP}
set_option maxRecDepth 20000
theorem Idx.rdSS {S : World → Prop} {s : Sl} {ys : List (List Nat)} {i : Nat} {K : ByteArray → Prop} (hS : ∀ w, S w → SlT 1 s (ys.map vS) w) (hw : S w) (hi : i < ys.length) (hK : K (strOf ys[i])) : Idx s (i : Int) 1 fun q => LdS kStr q S K := by
  have hl := (hS w hw).1
  simp only [List.length_map, Nat.mul_one] at hl
  obtain ⟨p, hp, hc⟩ := (hS w hw).2 i (by simpa using hi)
  refine ⟨p, hp, by omega, by omega, LdS.sc (s := .str) (strOf ys[i]) (fun w' hw' => ?_) hK⟩
  obtain ⟨p', hp', hc'⟩ := (hS w' hw').2 i (by simpa using hi)
  rw [hp] at hp'
  cases hp'
  simpa [vS] using hc'
theorem rParse_c {t : List Nat} {K : TT ksS → Int → Int → World → Prop} (h : Hp E w F) (ht : Bt t) (hl : t.length ≤ 100000)
    (hK : ∀ ds sd ss sb sc w', ds.map (·.1) = (pres t).1.deeds → Hp E w' (SnL ds (pres t).1 sd ss sb sc F) → K (tS (pres t).1 sd ss sb sc) (pres t).2.1 (pres t).2.2 w') :
    Cl Tryd.prog [.st ksS, kI, kI] n_ref30_Parse ⟨[.string (strOf t)]⟩ w K := by
  refine ref30_Parse.ok _ _ _ ?_
  unfold ref30_Parse.E
  refine Nw.mk h fun b3 w h => ?_
  refine rLines_c h ht (by omega) fun s5 w h => ?_
  have h5 := h.ownLen
  simp only [List.length_map, Nat.mul_one] at h5
  have hls := lns_sum t
  have hbt := lns_bt ht
  have bad : ∀ (n e : Int) (w : World) (G : List HP), Hp E w (Blk b3 (.cells ⟨[.int .i64 0, .int .i64 0, .slice none 0 0, .slice none 0 0, .int .i64 0, .slice none 0 0, .int .i64 0, .slice none 0 0]⟩ 27 (0, 0)) :: F) → pres t = (scn0, n, e) →
      StC (⟨b3, 0, none⟩ : Addr) (encs ksS (tS scn0 ⟨none, 0, 0⟩ ⟨none, 0, 0⟩ ⟨none, 0, 0⟩ ⟨none, 0, 0⟩)) 0 w fun w' => Ld (.st ksS) (⟨b3, 0, none⟩ : Addr) w' fun r => K r n e w' := by
    intro n e w G h hp
    refine outT (v := tS scn0 ⟨none, 0, 0⟩ ⟨none, 0, 0⟩ ⟨none, 0, 0⟩ ⟨none, 0, 0⟩) h rfl fun w h => ?_
    rw [hp] at hK
    refine hK [] _ _ _ _ w rfl ?_
    exact (((((h.ownNil 1).ownNil 1).ownNil 2).emp rfl : Hp E w (Dx [] :: _)).ownNil 2)
  refine Join.of (fun r => t.length ≤ 65536 → (lns t).length ≤ 1000 → r w) (fun h1 h2 => ?_) fun r hr => ?_
  · refine Nw.mk h fun b13 w h => ?_
    have hpl : parse t = plays scn0 1 (lns t) := by unfold parse; rw [if_neg (by omega)]
    have h := (((((h.ownNil 1).ownNil 1).ownNil 2).emp rfl : Hp E w (Dx [] :: _)).ownNil 2)
    refine ⟨fun i w => ∃ (k : Nat) (s : Scn) (ds : List Dd) (sd ss sb sc : Sl), i = (k : Int) ∧ k ≤ (lns t).length ∧ plays scn0 1 (lns t) = plays s (k + 1) ((lns t).drop k) ∧ sz s ≤ (((lns t).take k).map List.length).sum ∧ ds.map (·.1) = s.deeds ∧
      Hp E w (SnL ds s sd ss sb sc (Blk b13 (.cells ⟨encs ksS (tS s sd ss sb sc)⟩ 27 (0, 0)) :: OwnS 1 s5 ((lns t).map vS) ::
        Blk b3 (.cells ⟨[.int .i64 0, .int .i64 0, .slice none 0 0, .slice none 0 0, .int .i64 0, .slice none 0 0, .int .i64 0, .slice none 0 0]⟩ 27 (0, 0)) :: F)), fun i _ => (lns t).length - i.toNat,
      ⟨0, scn0, [], ⟨none, 0, 0⟩, ⟨none, 0, 0⟩, ⟨none, 0, 0⟩, ⟨none, 0, 0⟩, rfl, by omega, rfl, Nat.zero_le _, rfl, h⟩, ?_⟩
    rintro i w ⟨k, s, ds, sd, ss, sb, sc, rfl, hk, hp, hsz, hd, h⟩
    refine IfB.dm (fun hlt => ?_) (fun hge => ?_)
    · have hlt : k < (lns t).length := by omega
      have hdr := List.drop_eq_getElem_cons hlt
      have hsum : (((lns t).take (k + 1)).map List.length).sum = (((lns t).take k).map List.length).sum + (lns t)[k].length := by
        rw [List.take_add_one, List.getElem?_eq_getElem hlt, Option.toList_some, List.map_append, List.sum_append]; simp
      have hle : (((lns t).take (k + 1)).map List.length).sum ≤ t.length := by
        have e := congrArg (fun l => (l.map List.length).sum) (List.take_append_drop (k + 1) (lns t))
        simp only [List.map_append, List.sum_append] at e
        omega
      have hb1 := hbt (lns t)[k] (List.getElem_mem _)
      rw [hdr] at hp
      have h := h.drew (n := w.drawn + 1)
      refine ⟨fun w => HoldB b13 ⟨encs ksS (tS s sd ss sb sc)⟩ 27 (0, 0) w ∧ SlT 1 s5 ((lns t).map vS) w, ⟨h.hb, h.tells (Tells.at 6 Tells.own)⟩, ?_⟩
      refine LdS.xt (x := tS s sd ss sb sc) (fun w hw => hw.1) rfl ?_
      refine Idx.rdSS (fun w hw => hw.2) ⟨h.hb, h.tells (Tells.at 6 Tells.own)⟩ hlt ?_
      have hi : i64 ((k : Int) + 1) = ((k + 1 : Nat) : Int) := by rw [i64_id (by omega)]; omega
      rw [hi]
      have hgo : ∀ s', says s (lns t)[k] = some s' → plays scn0 1 (lns t) = plays s' (k + 1 + 1) ((lns t).drop (k + 1)) ∧ sz s' ≤ (((lns t).take (k + 1)).map List.length).sum := fun s' e => by
        have := says_sz hb1 e
        exact ⟨by rw [hp, plays_cons e], by omega⟩
      have hno : says s (lns t)[k] = none → pres t = (scn0, ((k + 1 : Nat) : Int), 300) := fun e => by
        unfold pres
        rw [hpl, hp, plays, e]
        simp
      constructor
      · refine rSays_c h hd (by omega) hb1 (by omega) (fun s' ds' sd' ss' sb' sc' w e hd' h => ⟨⟨h.hb, h.tells (Tells.at 6 Tells.own)⟩, ?_⟩) (fun v w e h => ⟨⟨h.hb, h.tells (Tells.at 1 Tells.own)⟩, ?_⟩)
        · refine Nw.mk h fun b27 w h => ⟨⟨h.hb, h.tells (Tells.at 7 Tells.own)⟩, ?_⟩
          refine StC.xw h (by rfl) (by rfl) (fun w h => ?_)
          refine ⟨⟨h.hb, h.tells (Tells.at 7 Tells.own)⟩, ?_⟩
          refine IfB.f rfl ?_
          refine Ld.xt (x := tS s' sd' ss' sb' sc') h rfl ?_
          refine StC.xw h (by rfl) (by rfl) (fun w h => ?_)
          obtain ⟨g1, g2⟩ := hgo s' e
          exact ⟨⟨k + 1, s', ds', sd', ss', sb', sc', rfl, by omega, g1, g2, hd', h.drop⟩, by dsimp only; omega⟩
        · refine Nw.mk h fun b27 w h => ⟨⟨h.hb, h.tells (Tells.at 2 Tells.own)⟩, ?_⟩
          refine StC.xw h (by rfl) (by rfl) (fun w h => ?_)
          refine ⟨⟨h.hb, h.tells (Tells.at 2 Tells.own)⟩, ?_⟩
          refine IfB.t rfl ?_
          exact bad _ 300 w [] h.drop.drop.drop (hno e)
      · refine Nw.mk h fun b34 w h => ⟨⟨h.hb, h.tells (Tells.at 7 Tells.own)⟩, ?_⟩
        refine rSays_c (((((h.at 5).at 5).at 5).at 5).at 5) hd (by omega) hb1 (by omega) (fun s' ds' sd' ss' sb' sc' w e hd' h => ⟨⟨h.hb, h.tells (Tells.at 7 Tells.own)⟩, ?_⟩) (fun v w e h => ⟨⟨h.hb, h.tells (Tells.at 2 Tells.own)⟩, ?_⟩)
        · refine StC.xw h (by rfl) (by rfl) (fun w h => ?_)
          refine ⟨⟨h.hb, h.tells (Tells.at 7 Tells.own)⟩, ?_⟩
          refine IfB.f rfl ?_
          refine Ld.xt (x := tS s' sd' ss' sb' sc') h rfl ?_
          refine StC.xw h (by rfl) (by rfl) (fun w h => ?_)
          obtain ⟨g1, g2⟩ := hgo s' e
          exact ⟨⟨k + 1, s', ds', sd', ss', sb', sc', rfl, by omega, g1, g2, hd', h.no 5⟩, by dsimp only; omega⟩
        · refine StC.xw h (by rfl) (by rfl) (fun w h => ?_)
          refine ⟨⟨h.hb, h.tells (Tells.at 2 Tells.own)⟩, ?_⟩
          refine IfB.t rfl ?_
          exact bad _ 300 w [] h.drop.drop.drop (hno e)
    · have hkl : k = (lns t).length := by omega
      rw [hkl, List.drop_length, plays] at hp
      have hps : pres t = (s, 0, 0) := by unfold pres; rw [hpl, hp]
      rw [hps] at hK
      refine outS (v := tS s sd ss sb sc) ((h.at 5).at 7) rfl fun w h => hK ds _ _ _ _ w hd (h.no 5)
  · rw [strOf_size]
    refine IfB.dm (fun h1 => ?_) (fun h1 => ?_)
    · refine bad 0 301 w [] h.drop ?_
      unfold pres parse
      rw [if_pos (.inl (by omega))]
    · refine IfB.dm (fun h2 => ?_) (fun h2 => ?_)
      · refine bad 0 301 w [] h.drop ?_
        unfold pres parse
        rw [if_pos (.inr (by omega))]
      · exact hr (by omega) (by omega)
end
end Go.Proofs.YtdfalolgngnelaaDoor
/- ScG -/
namespace Go.Proofs.YtdfalolgngnelaaDoor
open Go Go.Vc Go.Scr
set_option linter.unusedSectionVars false
/-- a scenario that can be read in memory -/
structure RdS (F : List HP) (ds : List Dd) (s : Scn) (sd ss sb sc : Sl) : Prop where
  d : ds.map (·.1) = s.deeds
  td : Tells F (SlT 2 sd (ds.flatMap gD))
  tb : ∀ i (h : i < ds.length), Tells F (SlT 1 ds[i].2 (ds[i].1.2.map vB))
  ts : Tells F (SlT 2 ss (s.spoils.flatMap gP))
  th : Tells F (SlT 1 sb (s.behind.map vB))
  tc : Tells F (SlT 1 sc (s.cuts.map vI))
theorem RdS.cons {A : HP} {F : List HP} {ds : List Dd} {s : Scn} {sd ss sb sc : Sl} (h : RdS F ds s sd ss sb sc) : RdS (A :: F) ds s sd ss sb sc :=
  ⟨h.d, h.td.cons, fun i hi => (h.tb i hi).cons, h.ts.cons, h.th.cons, h.tc.cons⟩
theorem RdS.own {F : List HP} {ds : List Dd} {s : Scn} {sd ss sb sc : Sl} (hd : ds.map (·.1) = s.deeds) : RdS (SnL ds s sd ss sb sc F) ds s sd ss sb sc :=
  ⟨hd, Tells.own, fun i hi => (Dx.at hi).cons, Tells.own.cons.cons, Tells.own.cons.cons.cons, Tells.own.cons.cons.cons.cons⟩
section
variable {E w : World} {F : List HP}
set_option maxRecDepth 20000
theorem RdS.len {ds : List Dd} {s : Scn} {sd ss sb sc : Sl} (r : RdS F ds s sd ss sb sc) (h : Hp E w F) : sd.len = s.deeds.length ∧ ss.len = s.spoils.length ∧ sb.len = s.behind.length ∧ sc.len = s.cuts.length ∧ ds.length = s.deeds.length := by
  have h1 := (h.tells r.td).1
  have h2 := (h.tells r.ts).1
  have h3 := (h.tells r.th).1
  have h4 := (h.tells r.tc).1
  rw [fm_len gD_len] at h1
  rw [fm_len gP_len] at h2
  simp only [List.length_map, Nat.mul_one] at h3 h4
  have h5 := congrArg List.length r.d
  rw [List.length_map] at h5
  omega
def toldL (l : List Int) : Bool := l.all fun z => decide (-(far : Int) ≤ z) && decide (z ≤ far)
theorem rTold_c {s : Sl} {l : List Int} {K : Bool → World → Prop} (hs : SlT 1 s (l.map vI) w) (hl : l.length ≤ 1000000) (hK : K (toldL l) w) : Cl Tryd.prog [kB] n_ref30_told ⟨[.slice s.base s.len s.cap]⟩ w K := by
  refine ref30_told.ok _ _ _ ?_
  unfold ref30_told.E
  have hlen : s.len = l.length := by have := hs.1; simpa using this.symm
  refine ⟨fun i w' => ∃ k : Nat, i = (k : Int) ∧ k ≤ l.length ∧ toldL (l.take k) = true ∧ w' = w, fun i _ => l.length - i.toNat, ⟨0, rfl, by omega, rfl, rfl⟩, ?_⟩
  rintro i w' ⟨k, rfl, hk, ht, rfl⟩
  have rdZ : ∀ {K : Int → Prop} (hi : k < l.length), K l[k] → Idx s (k : Int) 1 fun q => Ld kI q w' K := fun hi hK => by
    refine Idx.rd hs (by omega) (by omega) fun q hq hc => Ld.sc (s := .int .i64) (l[k]) ?_ hK
    rw [hc]; simp [vI]
  refine IfB.dm (fun hlt => ?_) (fun hge => ?_)
  · have hlt : k < l.length := by omega
    have hbad : ¬ (-(far : Int) ≤ l[k] ∧ l[k] ≤ far) → toldL l = false := fun hn => by
      rw [Bool.eq_false_iff]
      intro hh
      have := List.all_eq_true.1 hh l[k] (List.getElem_mem _)
      simp only [Bool.and_eq_true, decide_eq_true_eq] at this
      exact hn this
    have hfar : (far : Int) = 4611686018427387904 := rfl
    refine rdZ hlt ?_
    refine IfB.dm (fun h1 => ?_) (fun h1 => ?_)
    · rw [hbad (by omega)] at hK; exact hK
    refine rdZ hlt ?_
    refine IfB.dm (fun h2 => ?_) (fun h2 => ?_)
    · rw [hbad (by omega)] at hK; exact hK
    rw [i64_id (by omega)]
    refine ⟨⟨k + 1, by omega, by omega, ?_, rfl⟩, by dsimp only; omega⟩
    unfold toldL at ht ⊢
    rw [List.take_add_one, List.getElem?_eq_getElem hlt, Option.toList_some, List.all_append, ht]
    simp only [List.all_cons, List.all_nil, Bool.and_true, Bool.true_and, Bool.and_eq_true, decide_eq_true_eq]
    omega
  · have hkl : k = l.length := by omega
    subst hkl
    rw [List.take_length] at ht
    rw [ht] at hK
    exact hK
/-- not too great -/
def small (s : Scn) : Prop := s.deeds.length ≤ 30 ∧ s.behind.length + (s.deeds.map fun d => d.2.length).sum ≤ 150 ∧ s.spoils.length ≤ 20 ∧ s.cuts.length ≤ 60
theorem rGreat_c {s : Scn} {ds : List Dd} {sd ss sb sc : Sl} {K : Bool → World → Prop} (h : Hp E w F) (r : RdS F ds s sd ss sb sc) (hK1 : ∀ w', Hp E w' F → K true w') (hK0 : ∀ w', Hp E w' F → small s → K false w') :
    Cl Tryd.prog [kB] n_ref30_Great ⟨[.agg ⟨encs ksS (tS s sd ss sb sc)⟩]⟩ w K := by
  refine ref30_Great.ok _ _ _ ?_
  unfold ref30_Great.E
  obtain ⟨l1, l2, l3, l4, l5⟩ := r.len h
  refine Nw.mk h fun b3 w h => ?_
  refine Ld.xb (x := sb) h rfl ?_
  have fin : ∀ (n : Int) (w : World), Hp E w (Blk b3 (.cells ⟨encs ksS (tS s sd ss sb sc)⟩ 27 (0, 0)) :: F) → (s.deeds.length ≤ 30 → n ≤ 150 → s.behind.length + (s.deeds.map fun d => d.2.length).sum ≤ 150) →
      Ld kS ((⟨b3, 0, none⟩ : Addr).add 2) w fun Deeds => IfB (decide ((Deeds.len : Int) > 30)) (K true w) (IfB (decide (n > 150)) (K true w) (Ld kS ((⟨b3, 0, none⟩ : Addr).add 3) w fun Spoils => IfB (decide ((Spoils.len : Int) > 20)) (K true w)
        (Ld kS ((⟨b3, 0, none⟩ : Addr).add 7) w fun Cuts => K (decide ((Cuts.len : Int) > 60)) w))) := by
    intro n w h hn
    refine Ld.xb (x := sd) h rfl ?_
    refine IfB.dm (fun h1 => hK1 _ h.drop) (fun h1 => ?_)
    refine IfB.dm (fun h2 => hK1 _ h.drop) (fun h2 => ?_)
    refine Ld.xb (x := ss) h rfl ?_
    refine IfB.dm (fun h3 => hK1 _ h.drop) (fun h3 => ?_)
    refine Ld.xb (x := sc) h rfl ?_
    by_cases h4 : (sc.len : Int) > 60
    · rw [decide_eq_true h4]; exact hK1 _ h.drop
    · rw [decide_eq_false h4]
      exact hK0 _ h.drop ⟨by omega, hn (by omega) (by omega), by omega, by omega⟩
  refine ⟨fun n i w => ∃ k : Nat, i = (k : Int) ∧ k ≤ s.deeds.length ∧ 0 ≤ n ∧ n ≤ 400 ∧ (n ≤ 150 → n = ((s.behind.length + ((s.deeds.take k).map fun d => d.2.length).sum : Nat) : Int)) ∧ Hp E w (Blk b3 (.cells ⟨encs ksS (tS s sd ss sb sc)⟩ 27 (0, 0)) :: F), fun _ i _ => s.deeds.length - i.toNat,
    ⟨0, rfl, by omega, by split <;> omega, by split <;> omega, fun h150 => by rw [List.take_zero, List.map_nil, List.sum_nil]; split at h150 <;> split <;> omega, h⟩, ?_⟩
  rintro n i w ⟨k, rfl, hk, hn0, hn4, hn, h⟩
  refine Ld.xb (x := sd) h rfl ?_
  refine IfB.dm (fun hlt => ?_) (fun hge => ?_)
  · refine IfB.dm (fun h30 => ?_) (fun h30 => ?_)
    · refine IfB.dm (fun h150 => ?_) (fun h150 => ?_)
      · refine Ld.xb (x := sd) h rfl ?_
        have hlt : k < ds.length := by omega
        refine Idx.el gD_len (by decide) (h.tells r.td.cons) rfl hlt fun q hq => ?_
        refine Ld.sc (s := .sl) ds[k].2 (by rw [hq 1 (by decide)]; rfl) ?_
        have hb := (h.tells (r.tb k hlt).cons).1
        simp only [List.length_map, Nat.mul_one] at hb
        have hd : ds[k].1 = s.deeds[k]'(by omega) := by
          have e := r.d
          have : (ds.map (·.1))[k]'(by simpa using hlt) = s.deeds[k]'(by omega) := by simp only [e]
          simpa using this
        rw [hd] at hb
        have hs : ((s.deeds.take (k + 1)).map fun d => d.2.length).sum = ((s.deeds.take k).map fun d => d.2.length).sum + (s.deeds[k]'(by omega)).2.length := by
          rw [List.take_add_one, List.getElem?_eq_getElem (by omega), Option.toList_some, List.map_append, List.sum_append]; simp
        have hn := hn h150
        have hm : 0 ≤ (if (200 : Int) < (ds[k].2.len : Int) then (200 : Int) else (ds[k].2.len : Int)) ∧ (if (200 : Int) < (ds[k].2.len : Int) then (200 : Int) else (ds[k].2.len : Int)) ≤ 200 := by split <;> omega
        rw [i64_id (x := n + _) (by omega), i64_id (by omega)]
        refine ⟨⟨k + 1, by omega, by omega, by omega, by omega, fun h1 => ?_, h⟩, by dsimp only; omega⟩
        rw [hs]
        split at h1 <;> split <;> omega
      · exact fin n w h (fun _ e => absurd e h150)
    · exact fin n w h (fun e _ => by omega)
  · have hkl : k = s.deeds.length := by omega
    exact fin n w h (fun _ e => by
      have := hn e
      rw [hkl, List.take_length] at this
      omega)
end
end Go.Proofs.YtdfalolgngnelaaDoor
/- Slib -/
namespace Go.Proofs.YtdfalolgngnelaaDoor
open Go Go.Vc Go.Scr Go.Sort
set_option linter.unusedSectionVars false
section
variable {E w : World} {F : List HP}
set_option maxRecDepth 20000
/-- what the library's variables hold -/
def Gl (w : World) : Prop := (∃ m, w.cell? ⟨0, 0, none⟩ = some (.int .i64 m)) ∧ Lib.TabIs Tryd.prog w "internal/strconv.uint64pow10" .u64 Lib.pow10Tab ∧
  (∃ ev, w.cell? ⟨2, 0, none⟩ = some ev ∧ (ev = .nilIface ∨ ∃ te pe, ev = .iface te pe)) ∧ ∃ ev, w.cell? ⟨3, 0, none⟩ = some ev ∧ (ev = .nilIface ∨ ∃ te pe, ev = .iface te pe)
theorem Hp.kept {w' : World} (h : Hp E w F) (hb : Go.RowKit.Below w.heap.size w w') : Hp E w' F := by
  obtain ⟨f, a, b⟩ := h.frag
  refine ⟨hb.os.trans h.os, hb.output.trans h.output, hb.tape.trans h.tape, f, fun r o hr => ?_, b⟩
  have e := a r o hr
  have hlt : r < w.heap.size := (Array.getElem?_eq_some_iff.1 e).1
  rw [hb.block r hlt, e]
theorem Hp.grown {l : List HP} (h : Hp E w l) (os : Array Obj) : Hp E (grow w os) l := by
  obtain ⟨f, a, b⟩ := h.frag
  refine ⟨h.os, h.output, h.tape, f, fun r o hr => ?_, b⟩
  have := a r o hr
  show (w.heap ++ os)[r]? = some o
  have hlt : r < w.heap.size := by obtain ⟨hh, _⟩ := Array.getElem?_eq_some_iff.1 this; exact hh
  rw [Array.getElem?_append_left hlt, this]
theorem decDigits_eq (n : Nat) : Lib.decDigits n = (dec n).map UInt8.ofNat := by
  induction n using Nat.strongRecOn with
  | ind n ih =>
    rw [Lib.decDigits, dec]
    split
    · rfl
    · rw [ih (n / 10) (by omega), List.map_append]; rfl
theorem itoa_eq (z : Int) : (⟨(Lib.itoa z).toArray⟩ : ByteArray) = strOf (decI z) := by
  apply ba_ext
  rw [strOf_data]
  unfold Lib.itoa decI
  split
  · rw [decDigits_eq]; rfl
  · rw [decDigits_eq, show z.toNat = z.natAbs by omega]
theorem itoa_c {z : Int} {K : ByteArray → World → Prop} (h : Hp E w F) (hg : Tells F Gl) (h1 : -9223372036854775808 ≤ z) (h2 : z ≤ 9223372036854775807) (hK : ∀ w', Hp E w' F → K (strOf (decI z)) w') :
    Cl Tryd.prog [kStr] n_strconv_Itoa ⟨[.int .i64 z]⟩ w K := by
  refine Calls.mono (Go.Proofs.Tryd.strconv_Itoa z h1 h2 w (h.tells hg).2.1) fun e w' he => ?_
  obtain ⟨rfl, k, os, rfl⟩ := he
  rw [itoa_eq]
  have h2 : Hp E (w.drewN k) F := h.same rfl rfl rfl rfl
  exact hK _ (Hp.grown h2 os)
theorem pu_app : ∀ (l r : List UInt8) (acc u : Nat), Lib.parseUint10 acc l = .ok u → Lib.parseUint10 acc (l ++ r) = Lib.parseUint10 u r
  | [], r, acc, u, h => by simp only [Lib.parseUint10] at h; injection h with h; rw [h]; rfl
  | c :: l, r, acc, u, h => by
    rw [List.cons_append]
    simp only [Lib.parseUint10] at h ⊢
    split at h
    · rename_i hc
      rw [if_pos hc]
      split at h
      · cases h
      · rename_i h1
        rw [if_neg h1]
        split at h
        · cases h
        · rename_i h2
          rw [if_neg h2]
          exact pu_app l r _ u h
    · cases h
theorem pu_dec (n : Nat) (hn : n < 18446744073709551616) : Lib.parseUint10 0 ((dec n).map UInt8.ofNat) = .ok n := by
  induction n using Nat.strongRecOn with
  | ind n ih =>
    have e : ∀ d, d < 10 → (UInt8.ofNat (48 + d)).toNat = 48 + d := by decide
    rw [dec]
    split
    · rename_i h
      simp only [List.map_cons, List.map_nil, Lib.parseUint10, e n h]
      rw [if_pos (by omega), if_neg (by omega), if_neg (by omega)]
      congr 1; omega
    · rw [List.map_append, pu_app _ _ _ _ (ih (n / 10) (by omega) (by omega))]
      simp only [List.map_cons, List.map_nil, Lib.parseUint10, e (n % 10) (by omega)]
      rw [if_pos (by omega), if_neg (by omega), if_neg (by omega)]
      congr 1; omega
theorem atoi_dec {z : Int} (h1 : -(far : Int) ≤ z) (h2 : z ≤ far) : Lib.atoiAll ((decI z).map UInt8.ofNat) = .ok z := by
  have hf : (far : Int) = 4611686018427387904 := rfl
  have hne : ((dec z.natAbs).map UInt8.ofNat) ≠ [] := by simpa using dec_ne z.natAbs
  have hp := pu_dec z.natAbs (by omega)
  unfold decI
  split
  · rename_i h0
    rw [List.map_cons]
    unfold Lib.atoiAll
    have e : (UInt8.ofNat 45).toNat = 45 := by decide
    simp only [e]
    rw [if_pos (by simp)]
    unfold Lib.parseMag
    rw [if_neg hne, hp]
    simp only []
    rw [if_neg (by simp), if_neg (by rintro ⟨_, h⟩; omega), if_pos (by first | trivial | rfl)]
    congr 1; omega
  · rename_i h0
    generalize hd : (dec z.natAbs).map UInt8.ofNat = l at hne hp
    cases l with
    | nil => exact absurd rfl hne
    | cons c r =>
      have hc : c.toNat ≠ 43 ∧ c.toNat ≠ 45 := by
        have hm : c ∈ (dec z.natAbs).map UInt8.ofNat := by rw [hd]; exact List.mem_cons_self
        obtain ⟨x, hx, rfl⟩ := List.mem_map.1 hm
        have := dec_digs z.natAbs x hx
        rw [UInt8.toNat_ofNat', Nat.mod_eq_of_lt (by omega)]
        omega
      unfold Lib.atoiAll
      simp only []
      rw [if_neg (by omega)]
      unfold Lib.parseMag
      rw [if_neg (by simp), hp]
      simp only []
      rw [if_neg (by omega), if_neg (by omega), if_neg (by omega)]
      congr 1; omega
theorem atoi_c {b : List Nat} {K : Int → Value → World → Prop} (h : Hp E w F) (hg : Tells F Gl) (hl : b.length ≤ 1000000)
    (hK1 : ∀ v w', Lib.atoiAll (b.map UInt8.ofNat) = .ok v → Hp E w' F → K v .nilIface w')
    (hK0 : ∀ v te p w', (∀ v, Lib.atoiAll (b.map UInt8.ofNat) ≠ .ok v) → Hp E w' F → K v (.iface te p) w') :
    Cl Tryd.prog [kI, kV] n_strconv_Atoi ⟨[.string (strOf b)]⟩ w K := by
  have hs : (strOf b).size ≤ 1000000 := by rw [strOf_size]; exact hl
  have hG := h.tells hg
  cases ha : Lib.atoiAll (b.map UInt8.ofNat) with
  | ok v =>
    refine Calls.mono (Go.Proofs.Tryd.strconv_Atoi_ok (strOf b) (by omega) v (by rw [strOf_data]; exact ha) w) fun e w' he => ?_
    obtain ⟨rfl, hw⟩ := he
    rcases hw with rfl | ⟨t, rfl⟩
    · exact hK1 v _ ha h
    · exact hK1 v _ ha (Hp.kept h ⟨rfl, rfl, rfl, by rw [Lib.bytesWorld_size]; omega, fun j hj => Lib.bytesWorld_at_old w 5 _ j hj⟩)
  | range =>
    obtain ⟨ev, hv, hev⟩ := hG.2.2.2
    refine Calls.mono (Go.Proofs.Tryd.strconv_Atoi_range (strOf b) (by omega) (by rw [strOf_data]; exact ha) ev w hv hev) fun e w' he => ?_
    obtain ⟨N, rfl, _, _, hb⟩ := he
    exact hK0 _ _ _ _ (by rw [ha]; intro v e; cases e) (Hp.kept h hb)
  | _ =>
    obtain ⟨ev, hv, hev⟩ := hG.2.2.1
    refine Calls.mono (Go.Proofs.Tryd.strconv_Atoi_syntax (strOf b) (by omega) (by rw [strOf_data]; exact ha) ev w hv hev) fun e w' he => ?_
    obtain ⟨N, rfl, _, _, hb⟩ := he
    exact hK0 _ _ _ _ (by rw [ha]; intro v e; cases e) (Hp.kept h hb)
/-- a new block -/
theorem Hp.fresh {w' : World} {A : Nat} {o : Obj} (h : Hp E w F) (hb : Go.RowKit.Below w.heap.size w w') (hA : w.heap.size ≤ A) (ho : w'.heap[A]? = some o) : Hp E w' (Blk A o :: F) := by
  have h2 := Hp.kept h hb
  obtain ⟨f, a, b⟩ := h.frag
  have hl : ∀ r x, f r = some x → r < w.heap.size := fun r x hr => (Array.getElem?_eq_some_iff.1 (a r x hr)).1
  refine ⟨h2.os, h2.output, h2.tape, (Frag.one A o).add f, fun r x hr => ?_, _, _, fun r => ?_, rfl, rfl, b⟩
  · by_cases e : r = A
    · subst e
      simp only [Frag.add, Frag.one, if_true, Option.some.injEq] at hr
      rw [← hr]; exact ho
    · simp only [Frag.add, Frag.one, if_neg e] at hr
      rw [hb.block r (hl r x hr)]
      exact a r x hr
  · by_cases e : r = A
    · subst e
      right
      cases hf : f r with
      | none => rfl
      | some x => have := hl r x hf; omega
    · left; simp [Frag.one, e]
/-! words -/
theorem dec32 (t : List Nat) (pos : Nat) (hb : Bt t) (h : pos < t.length) : ((Utf8.decode (strOf t) pos).1 = 32 ↔ t[pos] = 32) ∧ ((Utf8.decode (strOf t) pos).1 = 32 → (Utf8.decode (strOf t) pos).2 = 1) ∧ 1 ≤ (Utf8.decode (strOf t) pos).2 ∧ pos + (Utf8.decode (strOf t) pos).2 ≤ t.length ∧
    (t[pos] ≠ 32 → 32 ∉ (t.take (pos + (Utf8.decode (strOf t) pos).2)).drop pos) := by
  have hg : ∀ k, (hk : k < t.length) → ((strOf t).get! k).toNat = t[k] := by
    intro k hk
    have hs : k < (strOf t).data.size := by rw [strOf_arr]; simpa using hk
    have e : (strOf t).get! k = (strOf t).data[k]! := rfl
    rw [e, getElem!_pos _ k hs]
    simp only [strOf_arr, List.getElem_toArray, List.getElem_map]
    have := hb t[k] (List.getElem_mem _)
    rw [UInt8.toNat_ofNat', Nat.mod_eq_of_lt (by omega)]
  have no : ∀ n, pos + n ≤ t.length → (∀ k (hk : k < t.length), pos ≤ k → k < pos + n → t[k] ≠ 32) → 32 ∉ (t.take (pos + n)).drop pos := by
    intro n hn hall hm
    obtain ⟨i, hi, e⟩ := List.getElem_of_mem hm
    simp only [List.length_drop, List.length_take] at hi
    rw [List.getElem_drop, List.getElem_take] at e
    exact hall (pos + i) (by omega) (by omega) (by omega) e
  have one : t[pos] ≠ 32 → 32 ∉ (t.take (pos + 1)).drop pos := fun hne => no 1 (by omega) fun k hk h1 h2 => by
    have : k = pos := by omega
    subst this; exact hne
  have h0 := hg pos h
  have hz := strOf_size t
  unfold Utf8.decode
  simp only [Nat.add_zero, h0]
  split
  · exact ⟨Iff.rfl, fun _ => rfl, Nat.le_refl _, by dsimp only; omega, one⟩
  rename_i hhi
  have hne : t[pos] ≠ 32 := by omega
  have bad : ((Utf8.runeError, 1) : Nat × Nat).1 = 32 ↔ t[pos] = 32 := ⟨fun e => absurd e (by decide), fun e => absurd e hne⟩
  have bad2 : ((Utf8.runeError, 1) : Nat × Nat).1 = 32 → ((Utf8.runeError, 1) : Nat × Nat).2 = 1 := fun _ => rfl
  have cont : ∀ k, (decide (pos + k < (strOf t).size) && ((strOf t).get! (pos + k)).toNat / 64 == 2) = true → ∃ hk : pos + k < t.length, t[pos + k] ≠ 32 := fun k hk => by
    rw [Bool.and_eq_true, decide_eq_true_eq, beq_iff_eq, hz] at hk
    refine ⟨hk.1, ?_⟩
    rw [hg _ hk.1] at hk
    omega
  split
  · rename_i hc
    rw [Bool.and_eq_true] at hc
    obtain ⟨k1, n1⟩ := cont 1 hc.2
    split
    · rename_i hv
      refine ⟨⟨fun e => by dsimp only at e; omega, fun e => absurd e hne⟩, fun e => by dsimp only at e; omega, by dsimp only; omega, by dsimp only; omega, fun _ => no 2 (by omega) fun k hk h1 h2 => ?_⟩
      rcases (by omega : k = pos ∨ k = pos + 1) with rfl | rfl
      · exact hne
      · exact n1
    · exact ⟨bad, bad2, Nat.le_refl _, by dsimp only; omega, one⟩
  split
  · rename_i hc
    rw [Bool.and_eq_true, Bool.and_eq_true] at hc
    obtain ⟨k1, n1⟩ := cont 1 hc.1.2
    obtain ⟨k2, n2⟩ := cont 2 hc.2
    split
    · rename_i hv
      rw [Bool.and_eq_true, decide_eq_true_eq] at hv
      refine ⟨⟨fun e => by dsimp only at e; omega, fun e => absurd e hne⟩, fun e => by dsimp only at e; omega, by dsimp only; omega, by dsimp only; omega, fun _ => no 3 (by omega) fun k hk h1 h2 => ?_⟩
      rcases (by omega : k = pos ∨ k = pos + 1 ∨ k = pos + 2) with rfl | rfl | rfl
      · exact hne
      · exact n1
      · exact n2
    · exact ⟨bad, bad2, Nat.le_refl _, by dsimp only; omega, one⟩
  split
  · rename_i hc
    rw [Bool.and_eq_true, Bool.and_eq_true, Bool.and_eq_true] at hc
    obtain ⟨k1, n1⟩ := cont 1 hc.1.1.2
    obtain ⟨k2, n2⟩ := cont 2 hc.1.2
    obtain ⟨k3, n3⟩ := cont 3 hc.2
    split
    · rename_i hv
      rw [Bool.and_eq_true, decide_eq_true_eq] at hv
      refine ⟨⟨fun e => by dsimp only at e; omega, fun e => absurd e hne⟩, fun e => by dsimp only at e; omega, by dsimp only; omega, by dsimp only; omega, fun _ => no 4 (by omega) fun k hk h1 h2 => ?_⟩
      rcases (by omega : k = pos ∨ k = pos + 1 ∨ k = pos + 2 ∨ k = pos + 3) with rfl | rfl | rfl | rfl
      · exact hne
      · exact n1
      · exact n2
      · exact n3
    · exact ⟨bad, bad2, Nat.le_refl _, by dsimp only; omega, one⟩
  · exact ⟨bad, bad2, Nat.le_refl _, by dsimp only; omega, one⟩
def ext (t : List Nat) (x : Nat × Nat) : List Nat := (t.take x.2).drop x.1
theorem spans_eq (t : List Nat) (hb : Bt t) : ∀ (f pos : Nat) (st : Option Nat) (acc : List (Nat × Nat)), t.length - pos ≤ f → pos ≤ t.length → (∀ a, st = some a → a < pos ∧ 32 ∉ (t.take pos).drop a) →
    (Lib.closeSpans (strOf t) (Lib.spansFromP (fun r => r == 32) (strOf t) f pos st acc)).map (ext t) = acc.map (ext t) ++ wds (t.drop (st.getD pos)) := by
  intro f
  induction f with
  | zero =>
    intro pos st acc hf hp hst
    have e : pos = t.length := by omega
    subst e
    rw [Lib.spansFromP_end _ _ _ _ _ _ (by rw [strOf_size]; omega)]
    unfold Lib.closeSpans
    cases st with
    | none => simp [wds_nil]
    | some a =>
      obtain ⟨h1, h2⟩ := hst a rfl
      rw [List.take_length] at h2
      simp only [Option.getD_some, strOf_size, List.map_append, List.map_cons, List.map_nil, ext, List.take_length]
      rw [wds_one (by intro e; have := congrArg List.length e; simp at this; omega) h2]
  | succ f ih =>
    intro pos st acc hf hp hst
    by_cases hlt : pos < t.length
    · unfold Lib.spansFromP
      rw [if_pos (by rw [strOf_size]; exact hlt)]
      obtain ⟨d1, d2, d3, d4, d5⟩ := dec32 t pos hb hlt
      generalize Utf8.decode (strOf t) pos = d at d1 d2 d3 d4 d5
      have hdr := List.drop_eq_getElem_cons hlt
      by_cases h32 : d.1 = 32
      · rw [if_pos (by simpa using h32)]
        have hw := d2 h32
        rw [d1.1 h32] at hdr
        rw [hw] at d4
        cases st with
        | none =>
          simp only
          rw [hw, ih (pos + 1) none acc (by omega) (by omega) (by intro a e; cases e)]
          simp only [Option.getD_none]
          rw [hdr, wds_sp]
        | some a =>
          obtain ⟨h1, h2⟩ := hst a rfl
          simp only
          rw [hw, ih (pos + 1) none _ (by omega) (by omega) (by intro a e; cases e)]
          simp only [Option.getD_none, Option.getD_some, List.map_append, List.map_cons, List.map_nil, List.append_assoc, List.cons_append, List.nil_append]
          have e : t.drop a = (t.take pos).drop a ++ 32 :: t.drop (pos + 1) := by
            rw [← hdr]
            have e2 := congrArg (List.drop a) (List.take_append_drop pos t)
            rw [List.drop_append_of_le_length (by rw [List.length_take]; omega)] at e2
            exact e2.symm
          rw [e, wds_app (by intro e; have := congrArg List.length e; simp at this; omega) h2]
          rfl
      · rw [if_neg (by simpa using h32)]
        have hne : t[pos] ≠ 32 := fun e => h32 (d1.2 e)
        have h5 := d5 hne
        cases st with
        | none =>
          simp only
          rw [ih (pos + d.2) (some pos) acc (by omega) d4 (by intro a e; cases e; exact ⟨by omega, h5⟩)]
          simp
        | some a =>
          obtain ⟨h1, h2⟩ := hst a rfl
          simp only
          rw [ih (pos + d.2) (some a) acc (by omega) d4 (by
            intro a' e; cases e
            refine ⟨by omega, ?_⟩
            have e : (t.take (pos + d.2)).drop a = (t.take pos).drop a ++ (t.take (pos + d.2)).drop pos := by
              have e3 : t.take pos = (t.take (pos + d.2)).take pos := by rw [List.take_take]; congr 1; omega
              have e2 := congrArg (List.drop a) (List.take_append_drop pos (t.take (pos + d.2)))
              rw [List.drop_append_of_le_length (by simp; omega), ← e3] at e2
              exact e2.symm
            rw [e]
            intro hm
            rcases List.mem_append.1 hm with q | q
            · exact h2 q
            · exact h5 q)]
          simp
    · rw [Lib.spansFromP_end _ _ _ _ _ _ (by rw [strOf_size]; exact hlt)]
      have e : pos = t.length := by omega
      subst e
      unfold Lib.closeSpans
      cases st with
      | none => simp [wds_nil]
      | some a =>
        obtain ⟨h1, h2⟩ := hst a rfl
        rw [List.take_length] at h2
        simp only [Option.getD_some, strOf_size, List.map_append, List.map_cons, List.map_nil, ext, List.take_length]
        rw [wds_one (by intro e; have := congrArg List.length e; simp at this; omega) h2]
theorem fields_eq {t : List Nat} (hb : Bt t) : (Lib.goFieldsP (fun r => r == 32) (strOf t)).map Value.string = (wds t).map vS := by
  have h := spans_eq t hb (strOf t).size 0 none [] (by rw [strOf_size]; omega) (Nat.zero_le _) (by intro a e; cases e)
  simp only [List.map_nil, List.nil_append, Option.getD_none, List.drop_zero] at h
  rw [← h]
  unfold Lib.goFieldsP Lib.spansOfP
  rw [List.map_map, List.map_map]
  refine List.map_congr_left fun x _ => ?_
  simp only [Function.comp, vS, ext]
  rw [strOf_cut]
theorem words_c {t : List Nat} {K : Sl → World → Prop} (h : Hp E w F) (hb : Bt t) (hl : t.length ≤ 1000000) (hK : ∀ s A w', s.len = (wds t).length → s.len ≤ s.cap → (∀ G, Tells (A :: G) (SlT 1 s ((wds t).map vS))) → Hp E w' (A :: F) → K s w') :
    Cl Tryd.prog [kS] n_script_words ⟨[.string (strOf t)]⟩ w K := by
  refine script_words.ok _ _ _ ?_
  unfold script_words.E
  have eg : ∀ args w, (callFunc 56 args).run Tryd.prog w = .ok (.enter 56 args) w := enters_of Tryd.func56 (by kernel_rfl) rfl
  refine Calls.mono (Go.Proofs.Tryd.strings_FieldsFunc_runes 56 #[] eg (fun r => r == 32) (strOf t) w (by rw [strOf_size]; omega) ?_) fun e w' he => ?_
  · intro W x hx hbel
    refine Calls.mono (script_words_1.ok (x : Int) (fun b w' => b = (x == 32) ∧ w' = W) W ?_) fun e w' he => ?_
    · unfold script_words_1.E
      refine ⟨?_, rfl⟩
      rw [Bool.eq_iff_iff]; simp; omega
    · cases e with
      | returned v =>
        obtain ⟨b, rfl, rfl, rfl⟩ := Ki.dec_sound (k := kB) he
        exact ⟨rfl, 0, rfl⟩
      | _ => exact he.elim
  · obtain ⟨A, rfl, hA, hown, hbel⟩ := he
    obtain ⟨hlen, hr⟩ := hown
    have hfl := congrArg List.length (fields_eq hb)
    simp only [List.length_map] at hfl
    rcases hr with ⟨he, _⟩ | ⟨g, cap, cur, he, hg, hcell, hn, hm, hcs, htk⟩
    · cases he
    · simp only [Value.slice.injEq, Option.some.injEq, Addr.mk.injEq] at he
      obtain ⟨⟨rfl, _⟩, _, rfl⟩ := he
      rw [Nat.mul_one] at hcs htk
      rw [List.take_of_length_le (by rw [Array.length_toList]; omega), fields_eq hb] at htk
      have hcur : cur = ⟨(wds t).map vS⟩ := Array.ext' htk
      subst hcur
      have h1 := Hp.fresh h hbel hA hcell
      exact hK ⟨some ⟨A, 0, none⟩, _, _⟩ _ _ hfl (Nat.le_refl _) (fun G => Tells.blk rfl (by simp [hfl])) h1
end
end Go.Proofs.YtdfalolgngnelaaDoor
/- ScH -/
namespace Go.Proofs.YtdfalolgngnelaaDoor
open Go Go.Vc Go.Scr
set_option linter.unusedSectionVars false
theorem decI_len {z : Int} (h : inFar z) : (decI z).length ≤ 20 := by
  have := dec_len 18 z.natAbs (by have := h.1; have := h.2; unfold far at *; omega)
  unfold decI
  split
  · simp only [List.length_cons]; omega
  · omega
theorem sps_snoc (l : List (List Nat)) (x : List Nat) : sps (l ++ [x]) = sps l ++ 32 :: x := by simp [sps]
theorem unl_snoc (l : List (List Nat)) (x : List Nat) : unl (l ++ [x]) = unl l ++ (x ++ [10]) := by simp [unl]
theorem unl_len {B : Nat} : ∀ {l : List (List Nat)}, (∀ x ∈ l, x.length ≤ B) → (unl l).length ≤ l.length * (B + 1)
  | [], _ => by simp [unl]
  | x :: l, h => by
    have h1 := h x List.mem_cons_self
    have := unl_len (l := l) fun y hy => h y (List.mem_cons_of_mem _ hy)
    rw [unl_cons, List.length_append, List.length_cons, List.length_cons, Nat.succ_mul]; omega
theorem sps_len {B : Nat} : ∀ {l : List (List Nat)}, (∀ x ∈ l, x.length ≤ B) → (sps l).length ≤ l.length * (B + 1)
  | [], _ => by simp [sps]
  | x :: l, h => by
    have h1 := h x List.mem_cons_self
    have := sps_len (l := l) fun y hy => h y (List.mem_cons_of_mem _ hy)
    rw [show sps (x :: l) = 32 :: x ++ sps l by simp [sps], List.length_append, List.length_cons, List.length_cons, Nat.succ_mul]; omega
/-- what Print returns -/
def prT (s : Scn) : List Nat := (printS s).getD []
def prE (s : Scn) : Int := if (printS s).isSome then 0 else 2
/-- the lines, part by part -/
def pl0 (s : Scn) : List (List Nat) := [rowL sSize [s.size], rowL sBudget [s.budget]]
def pl1 (s : Scn) (k : Nat) : List (List Nat) := pl0 s ++ (s.deeds.take k).map deedL
def pl2 (s : Scn) (k : Nat) : List (List Nat) := pl1 s s.deeds.length ++ (s.spoils.take k).map spoilL
def pl3 (s : Scn) : List (List Nat) := pl2 s s.spoils.length ++ [rowL sDrop [s.drop]]
def pl4 (s : Scn) : List (List Nat) := pl3 s ++ if s.behind = [] then [] else [sBehind ++ sps [hexW s.behind]]
def pl5 (s : Scn) : List (List Nat) := pl4 s ++ [rowL sRoom [s.room]]
theorem pl_all (s : Scn) : linesOf s = pl5 s ++ (if s.cuts = [] then [] else [rowL sCuts s.cuts]) := by
  unfold linesOf pl5 pl4 pl3 pl2 pl1 pl0
  rw [List.take_length, List.take_length]
theorem hexW_len (b : List Nat) : (hexW b).length ≤ 2 * b.length + 1 := by
  unfold hexW
  split
  · simp
  · rw [hexB_len]; omega
theorem row1_len {n : List Nat} {z : Int} (hz : inFar z) (hn : n.length ≤ 6) : (rowL n [z]).length ≤ 310 := by
  unfold rowL
  have := sps_len (l := [z].map decI) (B := 20) fun x hx => by
    simp only [List.map_cons, List.map_nil, List.mem_singleton] at hx
    rw [hx]; exact decI_len hz
  simp only [List.length_map, List.length_singleton] at this
  rw [List.length_append]; omega
theorem sum_mem : ∀ {l : List (Bool × List Nat)} {d : Bool × List Nat}, d ∈ l → d.2.length ≤ (l.map fun d => d.2.length).sum
  | x :: l, d, h => by
    rw [List.map_cons, List.sum_cons]
    rcases List.mem_cons.1 h with e | e
    · rw [e]; omega
    · have := sum_mem e; omega
theorem pl5_len {s : Scn} (hs : small s) (ht : told s) : (∀ x ∈ pl5 s, x.length ≤ 310) ∧ (pl5 s).length ≤ 56 := by
  obtain ⟨h1, h2, h3, h4⟩ := hs
  obtain ⟨t1, t2, t3, t4, t5, t6⟩ := ht
  constructor
  · intro x hx
    unfold pl5 pl4 pl3 pl2 pl1 pl0 at hx
    rw [List.take_length, List.take_length] at hx
    simp only [List.mem_append, List.mem_cons, List.not_mem_nil, or_false, List.mem_map] at hx
    rcases hx with (((((h | h) | h) | h) | h) | h)
    · rcases h with h | h <;> rw [h]
      · exact row1_len t1 (by decide)
      · exact row1_len t2 (by decide)
    · obtain ⟨d, hd, rfl⟩ := h
      have := sum_mem hd
      unfold deedL
      split
      · decide
      · have := hexW_len d.2
        simp only [sps, List.flatMap_cons, List.flatMap_nil, List.append_nil, List.length_append, List.length_cons]
        have : sWrite.length = 5 := rfl
        omega
    · obtain ⟨y, hy, rfl⟩ := h
      have := decI_len (t6 y hy)
      have := hexW_len [y.2]
      unfold spoilL
      simp only [sps, List.flatMap_cons, List.flatMap_nil, List.append_nil, List.length_append, List.length_cons]
      have : sSpoil.length = 5 := rfl
      simp only [List.length_cons, List.length_nil] at *
      omega
    · rw [h]; exact row1_len t4 (by decide)
    · split at h
      · cases h
      · rw [List.mem_singleton] at h
        rw [h]
        have := hexW_len s.behind
        simp only [sps, List.flatMap_cons, List.flatMap_nil, List.append_nil, List.length_append, List.length_cons]
        have : sBehind.length = 6 := rfl
        omega
    · rw [h]; exact row1_len t3 (by decide)
  · unfold pl5 pl4 pl3 pl2 pl1 pl0
    rw [List.take_length, List.take_length]
    simp only [List.length_append, List.length_map, List.length_cons, List.length_nil]
    split
    · simp only [List.length_nil]; omega
    · simp only [List.length_cons, List.length_nil]; omega
theorem pl_pre {s : Scn} (hs : small s) (ht : told s) {l : List (List Nat)} (h : ∃ r, l ++ r = pl5 s) : (unl l).length ≤ 17500 := by
  obtain ⟨r, hr⟩ := h
  obtain ⟨h1, h2⟩ := pl5_len hs ht
  have h3 := congrArg List.length hr
  rw [List.length_append] at h3
  have := unl_len (l := l) (B := 310) fun x hx => h1 x (by rw [← hr]; exact List.mem_append_left _ hx)
  have : l.length * (310 + 1) ≤ 56 * 311 := Nat.mul_le_mul_right _ (by omega)
  omega
theorem pl1_pre (s : Scn) (k : Nat) : ∃ r, pl1 s k ++ r = pl5 s := by
  unfold pl5 pl4 pl3 pl2 pl1
  rw [List.take_length]
  have e := List.take_append_drop k s.deeds
  refine ⟨(s.deeds.drop k).map deedL ++ (s.spoils.take s.spoils.length).map spoilL ++ [rowL sDrop [s.drop]] ++ (if s.behind = [] then [] else [sBehind ++ sps [hexW s.behind]]) ++ [rowL sRoom [s.room]], ?_⟩
  conv => rhs; rw [← e, List.map_append]
  simp only [List.append_assoc]
theorem pl2_pre (s : Scn) (k : Nat) : ∃ r, pl2 s k ++ r = pl5 s := by
  unfold pl5 pl4 pl3 pl2
  have e := List.take_append_drop k s.spoils
  refine ⟨(s.spoils.drop k).map spoilL ++ [rowL sDrop [s.drop]] ++ (if s.behind = [] then [] else [sBehind ++ sps [hexW s.behind]]) ++ [rowL sRoom [s.room]], ?_⟩
  conv => rhs; rw [List.take_length, ← e, List.map_append]
  simp only [List.append_assoc]
theorem pl3_pre (s : Scn) : ∃ r, pl3 s ++ r = pl5 s := ⟨(if s.behind = [] then [] else [sBehind ++ sps [hexW s.behind]]) ++ [rowL sRoom [s.room]], by
  unfold pl5 pl4
  simp only [List.append_assoc]⟩
theorem pl4_pre (s : Scn) : ∃ r, pl4 s ++ r = pl5 s := ⟨[rowL sRoom [s.room]], rfl⟩
theorem toldL1 {z : Int} : toldL [z] = decide (inFar z) := by
  unfold toldL inFar
  simp only [List.all_cons, List.all_nil, Bool.and_true]
  rw [Bool.eq_iff_iff]
  simp only [Bool.and_eq_true, decide_eq_true_eq]
  exact (decide_eq_true_iff).symm
theorem toldL_iff {l : List Int} : toldL l = true ↔ ∀ z ∈ l, inFar z := by
  unfold toldL inFar
  rw [List.all_eq_true]
  constructor
  · intro h z hz
    have := h z hz
    simpa using this
  · intro h z hz
    have := h z hz
    simpa using this
theorem told_iff {s : Scn} : told s ↔ (toldL [s.size, s.budget, s.room, s.drop] = true ∧ toldL s.cuts = true) ∧ ∀ x ∈ s.spoils, toldL [x.1] = true := by
  rw [toldL_iff, toldL_iff]
  unfold told
  simp only [List.mem_cons, List.not_mem_nil, or_false, forall_eq_or_imp, forall_eq, toldL1, decide_eq_true_eq]
  constructor
  · rintro ⟨a, b, c, d, e, f⟩
    exact ⟨⟨⟨a, b, c, d⟩, e⟩, f⟩
  · rintro ⟨⟨⟨a, b, c, d⟩, e⟩, f⟩
    exact ⟨a, b, c, d, e, f⟩
theorem decI_bt (z : Int) : Bt (decI z) := by
  have := dec_digs z.natAbs
  intro x hx
  unfold decI at hx
  split at hx
  · rcases List.mem_cons.1 hx with e | e
    · omega
    · have := this x e; omega
  · have := this x hx; omega
theorem hexW_bt {b : List Nat} (h : Bt b) : Bt (hexW b) := by
  intro x hx
  unfold hexW at hx
  split at hx
  · simp at hx; omega
  · have := hexB_in h x hx; omega
theorem sps_bt {l : List (List Nat)} (h : ∀ x ∈ l, Bt x) : Bt (sps l) := by
  intro c hc
  unfold sps at hc
  obtain ⟨w, hw, hc⟩ := List.mem_flatMap.1 hc
  rcases List.mem_cons.1 hc with e | e
  · omega
  · exact h w hw c e
theorem rowL_bt {n : List Nat} {l : List Int} (h : Bt n) : Bt (rowL n l) := h.app (sps_bt fun x hx => by
  obtain ⟨z, _, rfl⟩ := List.mem_map.1 hx
  exact decI_bt z)
theorem linesOf_bt {s : Scn} (hg : Scr.Good s) : Bt (unl (linesOf s)) := by
  intro c hc
  unfold unl at hc
  obtain ⟨x, hx, hc⟩ := List.mem_flatMap.1 hc
  have hx : Bt x := by
    rw [pl_all] at hx
    unfold pl5 pl4 pl3 pl2 pl1 pl0 at hx
    rw [List.take_length, List.take_length] at hx
    simp only [List.mem_append, List.mem_cons, List.not_mem_nil, or_false, List.mem_map] at hx
    rcases hx with (((((h | h) | h) | h) | h) | h) | h
    · rcases h with h | h <;> rw [h] <;> exact rowL_bt (by decide)
    · obtain ⟨d, hd, rfl⟩ := h
      unfold deedL
      split
      · decide
      · exact Bt.app (by decide) (sps_bt (by simpa using hexW_bt (hg.deeds d hd)))
    · obtain ⟨y, hy, rfl⟩ := h
      exact Bt.app (by decide) (sps_bt (by simpa using ⟨decI_bt y.1, hexW_bt (b := [y.2]) (fun c hc => by rw [List.mem_singleton] at hc; rw [hc]; exact hg.spoils y hy)⟩))
    · rw [h]; exact rowL_bt (by decide)
    · split at h
      · cases h
      · rw [List.mem_singleton] at h
        rw [h]
        exact Bt.app (by decide) (sps_bt (by simpa using hexW_bt hg.behind))
    · rw [h]; exact rowL_bt (by decide)
    · split at h
      · cases h
      · rw [List.mem_singleton] at h
        rw [h]; exact rowL_bt (by decide)
  rcases List.mem_append.1 hc with e | e
  · exact hx c e
  · simp at e; omega
section
variable {E w : World} {F : List HP}
set_option maxRecDepth 20000
theorem Tells.hb {b : Nat} {c : Array Value} {t : TypeId} {fr : Nat × Nat} : Tells (Blk b (.cells c t fr) :: F) (HoldB b c t fr) := by
  rintro w f a ⟨g, k, hd, rfl, rfl, h2⟩
  exact a b _ (by simp [Frag.add, Frag.one])
set_option maxHeartbeats 2000000 in
theorem rPrint_c {s : Scn} {ds : List Dd} {sd ss sb sc : Sl} {K : ByteArray → Int → World → Prop} (h : Hp E w F) (r : RdS F ds s sd ss sb sc) (hg : Scr.Good s) (hs : small s) (hK : ∀ w', Hp E w' F → K (strOf (prT s)) (prE s) w') :
    Cl Tryd.prog [kStr, kI] n_ref30_Print ⟨[.agg ⟨encs ksS (tS s sd ss sb sc)⟩]⟩ w K := by
  refine ref30_Print.ok _ _ _ ?_
  unfold ref30_Print.E
  obtain ⟨l1, l2, l3, l4, l5⟩ := r.len h
  have hs' := hs
  obtain ⟨n1, n2, n3, n4⟩ := hs'
  refine Nw.mk h fun b3 w h => ?_
  refine Join.of (fun r => ∀ (ok : Bool) (w : World), ok = (toldL [s.size, s.budget, s.room, s.drop] && toldL s.cuts) → Hp E w (Blk b3 (.cells ⟨encs ksS (tS s sd ss sb sc)⟩ 27 (0, 0)) :: F) → r ok w) (fun ok w hok h => ?_) fun r' hr => ?_
  · refine ⟨fun ok' i w => ∃ k : Nat, i = (k : Int) ∧ k ≤ s.spoils.length ∧ ok' = (ok && (s.spoils.take k).all fun x => toldL [x.1]) ∧ Hp E w (Blk b3 (.cells ⟨encs ksS (tS s sd ss sb sc)⟩ 27 (0, 0)) :: F), fun _ i _ => s.spoils.length - i.toNat,
      ⟨0, rfl, by omega, by simp, h⟩, ?_⟩
    rintro ok' i w ⟨k, rfl, hk, hok', h⟩
    refine Ld.xb (x := ss) h rfl ?_
    refine IfB.dm (fun hlt => ?_) (fun hge => ?_)
    · have hlt : k < s.spoils.length := by omega
      have hi : i64 ((k : Int) + 1) = ((k + 1 : Nat) : Int) := by rw [i64_id (by omega)]; omega
      rw [hi]
      have hst : (s.spoils.take (k + 1)).all (fun x => toldL [x.1]) = ((s.spoils.take k).all (fun x => toldL [x.1]) && toldL [s.spoils[k].1]) := by
        rw [List.take_add_one, List.getElem?_eq_getElem hlt, Option.toList_some, List.all_append]; simp
      cases ok' with
      | true =>
        refine IfB.t rfl ?_
        refine Ld.xb (x := ss) h rfl ?_
        refine Idx.el gP_len (by decide) (h.tells r.ts.cons) rfl hlt fun q hq => ?_
        refine Ld.sc (s := .int .i64) s.spoils[k].1 (by rw [hq 0 (by decide)]; rfl) ?_
        refine Nw.mk h fun b28 w h => ?_
        refine rTold_c (l := [s.spoils[k].1]) (h.tells (Tells.blk (xs := [vI s.spoils[k].1]) rfl (by simp))) (by simp) ?_
        refine ⟨⟨k + 1, rfl, by omega, ?_, h.drop⟩, by (first | omega | (dsimp only; omega))⟩
        rw [hst, ← Bool.and_assoc, ← hok', Bool.true_and]
      | false =>
        refine IfB.f rfl ?_
        refine ⟨⟨k + 1, rfl, by omega, ?_, h⟩, by (first | omega | (dsimp only; omega))⟩
        rw [hst, ← Bool.and_assoc, ← hok', Bool.false_and]
    · have hkl : k = s.spoils.length := by omega
      rw [hkl, List.take_length, hok] at hok'
      clear hok hge
      by_cases ht : told s
      · have hok1 : ok' = true := by
          have := told_iff.1 ht
          rw [hok', this.1.1, this.1.2]
          simp only [Bool.and_self, Bool.true_and, List.all_eq_true]
          exact this.2
        rw [hok1]
        refine IfB.f rfl ?_
        have P1 := fun k => pl_pre hs ht (pl1_pre s k)
        have P2 := fun k => pl_pre hs ht (pl2_pre s k)
        have P3 := pl_pre hs ht (pl3_pre s)
        have P4 := pl_pre hs ht (pl4_pre s)
        have P5 := pl_pre hs ht (l := pl5 s) ⟨[], by simp⟩
        obtain ⟨t1, t2, t3, t4, t5, t6⟩ := id ht
        have hfar : (far : Int) = 4611686018427387904 := rfl
        have D : ∀ {z : Int}, inFar z → -9223372036854775808 < z ∧ z ≤ 9223372036854775807 := fun hz => by have := hz.1; have := hz.2; omega
        have fin : ∀ (w : World) (o : ByteArray), Hp E w (Blk b3 (.cells ⟨encs ksS (tS s sd ss sb sc)⟩ 27 (0, 0)) :: F) → o = strOf (unl (linesOf s)) → (unl (linesOf s)).length ≤ 1000000 →
            IfB (decide (((o.size : Nat) : Int) > 65536)) (K (ByteArray.mk #[]) 2 w) (Cl Tryd.prog [kS] n_ref30_Lines ⟨[.string o]⟩ w fun r w' => IfB (decide ((r.len : Int) > 1000)) (K (ByteArray.mk #[]) 2 w') (K o 0 w')) := by
          rintro w o h rfl hle
          rw [strOf_size]
          have hbt : Bt (unl (linesOf s)) := linesOf_bt hg
          by_cases c1 : (unl (linesOf s)).length ≤ 65536
          · refine IfB.df (by omega) ?_
            refine rLines_c h hbt (by omega) fun s' w h => ?_
            have hl := h.ownLen
            simp only [List.length_map, Nat.mul_one] at hl
            by_cases c2 : (lns (unl (linesOf s))).length ≤ 1000
            · refine IfB.df (by omega) ?_
              have e : printS s = some (unl (linesOf s)) := if_pos ⟨ht, c1, c2⟩
              have := hK w h.drop.drop
              unfold prT prE at this
              rw [e] at this
              exact this
            · refine IfB.dt (by omega) ?_
              have e : printS s = none := if_neg fun hh => c2 hh.2.2
              have := hK w h.drop.drop
              unfold prT prE at this
              rw [e] at this
              exact this
          · refine IfB.dt (by omega) ?_
            have e : printS s = none := if_neg fun hh => c1 hh.2.1
            have := hK w h.drop
            unfold prT prE at this
            rw [e] at this
            exact this
        refine ⟨fun w => HoldB b3 ⟨encs ksS (tS s sd ss sb sc)⟩ 27 (0, 0) w, h.drew.hb, ?_⟩
        have h := h.drew (n := w.drawn + 1)
        refine LdS.xb (x := s.size) (fun w hw => hw) rfl ?_
        refine LdS.xb (x := s.budget) (fun w hw => hw) rfl ?_
        refine rDig_c (D t1).1 (D t1).2 ?_
        refine ⟨h.hb, ?_⟩
        have d1 := decI_len t1
        have d2 := decI_len t2
        rw [show (ByteArray.mk #[115, 105, 122, 101, 32]) = strOf (sSize ++ [32]) from rfl, show (ByteArray.mk #[10, 98, 117, 100, 103, 101, 116, 32]) = strOf (10 :: sBudget ++ [32]) from rfl, show (ByteArray.mk #[10]) = strOf [10] from rfl]
        simp only [strOf_app, strOf_size]
        refine ⟨by simp only [List.length_append, List.length_cons, List.length_nil, sSize]; omega, by simp only [List.length_append, List.length_cons, List.length_nil, sSize, sBudget]; omega, ?_⟩
        refine rDig_c (D t2).1 (D t2).2 ?_
        simp only [strOf_app, strOf_size]
        refine ⟨h.hb, by simp only [List.length_append, List.length_cons, List.length_nil, sSize, sBudget]; omega, by simp only [List.length_append, List.length_cons, List.length_nil, sSize, sBudget]; omega, ?_⟩
        refine ⟨fun o i w => ∃ k : Nat, i = (k : Int) ∧ k ≤ s.deeds.length ∧ o = strOf (unl (pl1 s k)) ∧ Hp E w (Blk b3 (.cells ⟨encs ksS (tS s sd ss sb sc)⟩ 27 (0, 0)) :: F), fun _ i _ => s.deeds.length - i.toNat,
          ⟨0, rfl, by omega, by simp [pl1, pl0, unl, rowL, sps], h⟩, ?_⟩
        rintro o i w ⟨k, rfl, hk, rfl, h⟩
        refine Ld.xb (x := sd) h rfl ?_
        refine IfB.dm (fun hlt => ?_) (fun hge => ?_)
        · have hlt : k < ds.length := by omega
          have hlt' : k < s.deeds.length := by omega
          have hi : i64 ((k : Int) + 1) = ((k + 1 : Nat) : Int) := by rw [i64_id (by omega)]; omega
          rw [hi]
          have hd : ds[k].1 = s.deeds[k] := by
            have e := r.d
            have : (ds.map (·.1))[k]'(by simpa using hlt) = s.deeds[k] := by simp only [e]
            simpa using this
          have hp : pl1 s (k + 1) = pl1 s k ++ [deedL s.deeds[k]] := by
            unfold pl1
            rw [List.take_add_one, List.getElem?_eq_getElem hlt', Option.toList_some, List.map_append, ← List.append_assoc]; rfl
          refine Ld.xb (x := sd) h rfl ?_
          refine Idx.el gD_len (by decide) (h.tells r.td.cons) rfl hlt fun q hq => ?_
          refine Ld.sc (s := .bool) ds[k].1.1 (by rw [hq 0 (by decide)]; rfl) ?_
          have hpk := P1 k
          have hdb := hg.deeds s.deeds[k] (List.getElem_mem _)
          have hdl := sum_mem (List.getElem_mem hlt')
          have hxl := hexW_len s.deeds[k].2
          by_cases hf : s.deeds[k].1 = true
          · refine IfB.t (by rw [hd]; exact hf) ?_
            rw [show (ByteArray.mk #[102, 108, 117, 115, 104, 10]) = strOf (sFlush ++ [10]) from rfl, strOf_app, strOf_size, strOf_size]
            refine ⟨by simp only [List.length_append, List.length_cons, List.length_nil, sFlush]; omega, ⟨k + 1, rfl, by omega, ?_, h⟩, by (first | omega | (dsimp only; omega))⟩
            rw [hp, unl_snoc]
            unfold deedL
            rw [if_pos hf]
          · refine IfB.f (by rw [hd]; simpa using hf) ?_
            rw [show (ByteArray.mk #[119, 114, 105, 116, 101, 32]) = strOf (sWrite ++ [32]) from rfl]
            simp only [strOf_app, strOf_size]
            refine ⟨by simp only [List.length_append, List.length_cons, List.length_nil, sWrite]; omega, ?_⟩
            refine Ld.xb (x := sd) h rfl ?_
            refine Idx.el gD_len (by decide) (h.tells r.td.cons) rfl hlt fun q hq => ?_
            refine Ld.sc (s := .sl) ds[k].2 (by rw [hq 1 (by decide)]; rfl) ?_
            have tb := r.tb k hlt
            rw [hd] at tb
            refine rHex_c h tb.cons hdb (by omega) fun w h => ?_
            simp only [strOf_app, strOf_size]
            refine ⟨by simp only [List.length_append, List.length_cons, List.length_nil, sWrite]; omega, by simp only [List.length_append, List.length_cons, List.length_nil, sWrite]; omega, ⟨k + 1, rfl, by omega, ?_, h⟩, by (first | omega | (dsimp only; omega))⟩
            rw [hp, unl_snoc]
            unfold deedL
            rw [if_neg hf]
            simp [sps]
        · have hkl : k = s.deeds.length := by omega
          subst hkl
          refine ⟨fun o i w => ∃ k : Nat, i = (k : Int) ∧ k ≤ s.spoils.length ∧ o = strOf (unl (pl2 s k)) ∧ Hp E w (Blk b3 (.cells ⟨encs ksS (tS s sd ss sb sc)⟩ 27 (0, 0)) :: F), fun _ i _ => s.spoils.length - i.toNat,
            ⟨0, rfl, by omega, by simp [pl2], h⟩, ?_⟩
          rintro o i w ⟨k, rfl, hk, rfl, h⟩
          refine Ld.xb (x := ss) h rfl ?_
          refine IfB.dm (fun hlt => ?_) (fun hge => ?_)
          · have hlt : k < s.spoils.length := by omega
            have hi : i64 ((k : Int) + 1) = ((k + 1 : Nat) : Int) := by rw [i64_id (by omega)]; omega
            rw [hi]
            have hp : pl2 s (k + 1) = pl2 s k ++ [spoilL s.spoils[k]] := by
              unfold pl2
              rw [List.take_add_one, List.getElem?_eq_getElem hlt, Option.toList_some, List.map_append, ← List.append_assoc]; rfl
            have hpk := P2 k
            have hz := t6 s.spoils[k] (List.getElem_mem _)
            have hc := hg.spoils s.spoils[k] (List.getElem_mem _)
            have hzl := decI_len hz
            have hxl := hexW_len [s.spoils[k].2]
            simp only [List.length_cons, List.length_nil] at hxl
            have h := h.drew (n := w.drawn + 1)
            refine ⟨HasF E (Blk b3 (.cells ⟨encs ksS (tS s sd ss sb sc)⟩ 27 (0, 0)) :: F), HasF.mk h, ?_⟩
            rw [show (ByteArray.mk #[115, 112, 111, 105, 108, 32]) = strOf (sSpoil ++ [32]) from rfl, show (ByteArray.mk #[32]) = strOf [32] from rfl]
            simp only [strOf_app, strOf_size]
            refine ⟨by simp only [List.length_append, List.length_cons, List.length_nil, sSpoil]; omega, ?_⟩
            refine LdS.xb (x := ss) (fun w hw => hw.tells Tells.hb) rfl ?_
            refine Idx.elT gP_len (by decide) h r.ts.cons rfl hlt fun q hq => ?_
            refine LdS.sc (s := .int .i64) s.spoils[k].1 (fun w hw => by rw [hw.tells (hq 0 (by decide))]; rfl) ?_
            refine LdS.xb (x := ss) (fun w hw => hw.tells Tells.hb) rfl ?_
            refine Idx.elT gP_len (by decide) h r.ts.cons rfl hlt fun q hq => ?_
            refine LdS.sc (s := .int .u8) (s.spoils[k].2 : Int) (fun w hw => by rw [hw.tells (hq 1 (by decide))]; rfl) ?_
            have hend : strOf (unl (pl2 s k) ++ (sSpoil ++ [32]) ++ decI s.spoils[k].1 ++ [32] ++ hexW [s.spoils[k].2] ++ [10]) = strOf (unl (pl2 s (k + 1))) := by
              rw [hp, unl_snoc]
              unfold spoilL
              simp [sps]
            constructor
            · refine rDig_c (D hz).1 (D hz).2 ?_
              simp only [strOf_app, strOf_size]
              refine ⟨HasF.mk h, by simp only [List.length_append, List.length_cons, List.length_nil, sSpoil]; omega, by simp only [List.length_append, List.length_cons, List.length_nil, sSpoil]; omega, ?_⟩
              refine Nw.mk h fun b70 w h => ⟨HasF.mk1 h, ?_⟩
              have ht70 : Tells (Blk b70 (.cells ⟨[.int .u8 (s.spoils[k].2 : Int)]⟩ 5 (0, 0)) :: Blk b3 (.cells ⟨encs ksS (tS s sd ss sb sc)⟩ 27 (0, 0)) :: F) (SlT 1 ⟨some ⟨b70, 0, none⟩, 1, 1⟩ ([s.spoils[k].2].map vB)) := Tells.blk (xs := [vB s.spoils[k].2]) rfl (by simp)
              refine rHex_c (s := ⟨some ⟨b70, 0, none⟩, 1, 1⟩) (b := [s.spoils[k].2]) h ht70 (fun c hm => by rw [List.mem_singleton] at hm; rw [hm]; exact hc) (by simp) (fun w h => ?_)
              simp only [strOf_app, strOf_size]
              refine ⟨HasF.mk1 h, by simp only [List.length_append, List.length_cons, List.length_nil, sSpoil]; omega, by simp only [List.length_append, List.length_cons, List.length_nil, sSpoil]; omega, ⟨k + 1, rfl, by omega, hend, h.drop⟩, by (first | omega | (dsimp only; omega))⟩
            · refine Nw.mk h fun b70 w h => ⟨HasF.mk1 h, ?_⟩
              refine rDig_c (D hz).1 (D hz).2 ?_
              simp only [strOf_app, strOf_size]
              refine ⟨HasF.mk1 h, by simp only [List.length_append, List.length_cons, List.length_nil, sSpoil]; omega, by simp only [List.length_append, List.length_cons, List.length_nil, sSpoil]; omega, ?_⟩
              have ht70 : Tells (Blk b70 (.cells ⟨[.int .u8 (s.spoils[k].2 : Int)]⟩ 5 (0, 0)) :: Blk b3 (.cells ⟨encs ksS (tS s sd ss sb sc)⟩ 27 (0, 0)) :: F) (SlT 1 ⟨some ⟨b70, 0, none⟩, 1, 1⟩ ([s.spoils[k].2].map vB)) := Tells.blk (xs := [vB s.spoils[k].2]) rfl (by simp)
              refine rHex_c (s := ⟨some ⟨b70, 0, none⟩, 1, 1⟩) (b := [s.spoils[k].2]) h ht70 (fun c hm => by rw [List.mem_singleton] at hm; rw [hm]; exact hc) (by simp) (fun w h => ?_)
              simp only [strOf_app, strOf_size]
              refine ⟨HasF.mk1 h, by simp only [List.length_append, List.length_cons, List.length_nil, sSpoil]; omega, by simp only [List.length_append, List.length_cons, List.length_nil, sSpoil]; omega, ⟨k + 1, rfl, by omega, hend, h.drop⟩, by (first | omega | (dsimp only; omega))⟩
          · have hkl : k = s.spoils.length := by omega
            subst hkl
            have hpk := P2 s.spoils.length
            rw [show (ByteArray.mk #[100, 114, 111, 112, 32]) = strOf (sDrop ++ [32]) from rfl, show (ByteArray.mk #[98, 101, 104, 105, 110, 100, 32]) = strOf (sBehind ++ [32]) from rfl, show (ByteArray.mk #[114, 111, 111, 109, 32]) = strOf (sRoom ++ [32]) from rfl, show (ByteArray.mk #[99, 117, 116, 115]) = strOf sCuts from rfl, show (ByteArray.mk #[32]) = strOf [32] from rfl]
            simp only [strOf_app, strOf_size]
            refine ⟨by simp only [List.length_append, List.length_cons, List.length_nil, sDrop]; omega, ?_⟩
            refine Ld.xb (x := s.drop) h rfl ?_
            have d4 := decI_len t4
            have d3 := decI_len t3
            refine rDig_c (D t4).1 (D t4).2 ?_
            simp only [strOf_app, strOf_size]
            refine ⟨by simp only [List.length_append, List.length_cons, List.length_nil, sDrop]; omega, by simp only [List.length_append, List.length_cons, List.length_nil, sDrop]; omega, ?_⟩
            refine Join.of (fun r => ∀ (o : ByteArray) (w : World), o = strOf (unl (pl4 s)) → Hp E w (Blk b3 (.cells ⟨encs ksS (tS s sd ss sb sc)⟩ 27 (0, 0)) :: F) → r o w) (fun o w ho h => ?_) fun r' hr => ?_
            · subst ho
              rw [strOf_size, strOf_app]
              refine ⟨by simp only [List.length_append, List.length_cons, List.length_nil, sRoom]; omega, ?_⟩
              refine Ld.xb (x := s.room) h rfl ?_
              refine rDig_c (D t3).1 (D t3).2 ?_
              simp only [strOf_app, strOf_size]
              refine ⟨by simp only [List.length_append, List.length_cons, List.length_nil, sRoom]; omega, by simp only [List.length_append, List.length_cons, List.length_nil, sRoom]; omega, ?_⟩
              refine Ld.xb (x := sc) h rfl ?_
              have e5 : unl (pl4 s) ++ (sRoom ++ [32]) ++ decI s.room ++ [10] = unl (pl5 s) := by
                unfold pl5
                rw [unl_snoc]
                simp [rowL, sps]
              rw [e5]
              by_cases hc0 : s.cuts = []
              · have : sc.len = 0 := by rw [l4, hc0]; rfl
                refine IfB.df (by omega) ?_
                have ea : linesOf s = pl5 s := by rw [pl_all, if_pos hc0, List.append_nil]
                have := fin w _ h rfl (by rw [ea]; omega)
                rw [ea] at this
                simpa only [strOf_size] using this
              · have : sc.len ≠ 0 := by rw [l4]; intro e; exact hc0 (List.length_eq_zero_iff.1 e)
                refine IfB.dt (by omega) ?_
                refine ⟨by simp only [sCuts, List.length_cons, List.length_nil]; omega, ?_⟩
                have ea : unl (linesOf s) = unl (pl5 s) ++ (sCuts ++ sps (s.cuts.map decI) ++ [10]) := by
                  rw [pl_all, if_neg hc0, unl_snoc]; rfl
                have B := fun k => sps_len (l := (s.cuts.take k).map decI) (B := 20) fun x hx => by
                  obtain ⟨z, hz, rfl⟩ := List.mem_map.1 hx
                  exact decI_len (t5 z (List.mem_of_mem_take hz))
                refine ⟨fun o i w => ∃ k : Nat, i = (k : Int) ∧ k ≤ s.cuts.length ∧ o = strOf (unl (pl5 s) ++ sCuts ++ sps ((s.cuts.take k).map decI)) ∧ Hp E w (Blk b3 (.cells ⟨encs ksS (tS s sd ss sb sc)⟩ 27 (0, 0)) :: F), fun _ i _ => s.cuts.length - i.toNat,
                  ⟨0, rfl, by omega, by simp [sps], h⟩, ?_⟩
                rintro o i w ⟨k, rfl, hk, rfl, h⟩
                have hB := B k
                rw [List.length_map, List.length_take, Nat.min_eq_left hk] at hB
                refine Ld.xb (x := sc) h rfl ?_
                refine IfB.dm (fun hlt => ?_) (fun hge => ?_)
                · have hlt : k < s.cuts.length := by omega
                  have hi : i64 ((k : Int) + 1) = ((k + 1 : Nat) : Int) := by rw [i64_id (by omega)]; omega
                  rw [hi, strOf_app, strOf_size, strOf_size]
                  refine ⟨by simp only [sCuts, List.length_append, List.length_cons, List.length_nil]; omega, ?_⟩
                  refine Ld.xb (x := sc) h rfl ?_
                  refine Idx.rd (xs := s.cuts.map vI) (h.tells r.tc.cons) (by omega) (by omega) fun q hq hc => Ld.sc (s := .int .i64) s.cuts[k] (by rw [hc]; simp [vI]) ?_
                  have hz := t5 s.cuts[k] (List.getElem_mem _)
                  have hzl := decI_len hz
                  refine rDig_c (D hz).1 (D hz).2 ?_
                  simp only [strOf_app, strOf_size]
                  refine ⟨by simp only [sCuts, List.length_append, List.length_cons, List.length_nil]; omega, ⟨k + 1, rfl, by omega, ?_, h⟩, by (first | omega | (dsimp only; omega))⟩
                  rw [List.take_add_one, List.getElem?_eq_getElem hlt, Option.toList_some, List.map_append, List.map_cons, List.map_nil, sps_snoc]
                  simp
                · have hkl : k = s.cuts.length := by omega
                  subst hkl
                  rw [List.take_length, strOf_app, strOf_size]
                  rw [List.take_length] at hB
                  refine ⟨by simp only [sCuts, List.length_append, List.length_cons, List.length_nil]; omega, ?_⟩
                  have e6 : unl (pl5 s) ++ sCuts ++ sps (s.cuts.map decI) ++ [10] = unl (linesOf s) := by rw [ea]; simp
                  have hle : (unl (linesOf s)).length ≤ 1000000 := by
                    rw [← e6]
                    simp only [sCuts, List.length_append, List.length_cons, List.length_nil]
                    omega
                  have := fin w _ h rfl hle
                  rw [← e6] at this
                  simpa only [strOf_size, strOf_app] using this
            · refine Ld.xb (x := sb) h rfl ?_
              have e3 : unl (pl2 s s.spoils.length) ++ (sDrop ++ [32]) ++ decI s.drop ++ [10] = unl (pl3 s) := by
                unfold pl3
                rw [unl_snoc]
                simp [rowL, sps]
              rw [e3]
              by_cases hb0 : s.behind = []
              · have : sb.len = 0 := by rw [l3, hb0]; rfl
                refine IfB.df (by omega) ?_
                exact hr _ _ (by unfold pl4; rw [if_pos hb0, List.append_nil]) h
              · have : sb.len ≠ 0 := by rw [l3]; intro e; exact hb0 (List.length_eq_zero_iff.1 e)
                refine IfB.dt (by omega) ?_
                refine ⟨by simp only [sBehind, List.length_append, List.length_cons, List.length_nil]; omega, ?_⟩
                refine Ld.xb (x := sb) h rfl ?_
                have hxl := hexW_len s.behind
                refine rHex_c h r.th.cons hg.behind (by omega) fun w h => ?_
                simp only [strOf_app, strOf_size]
                refine ⟨by simp only [sBehind, List.length_append, List.length_cons, List.length_nil]; omega, by simp only [sBehind, List.length_append, List.length_cons, List.length_nil]; omega, ?_⟩
                refine hr _ _ ?_ h
                unfold pl4
                rw [if_neg hb0, unl_snoc]
                simp [sps]
      · have hok1 : ok' = false := by
          rw [hok', Bool.eq_false_iff]
          intro hh
          simp only [Bool.and_eq_true, List.all_eq_true] at hh
          exact ht (told_iff.2 ⟨⟨hh.1.1, hh.1.2⟩, hh.2⟩)
        rw [hok1]
        refine IfB.t rfl ?_
        have e : printS s = none := if_neg fun hh => ht hh.1
        have := hK w h.drop
        unfold prT prE at this
        rw [e] at this
        exact this
  · refine Ld.xb (x := s.size) h rfl (Ld.xb (x := s.budget) h rfl (Ld.xb (x := s.room) h rfl (Ld.xb (x := s.drop) h rfl ?_)))
    refine Nw.mk h fun b10 w h => ?_
    refine rTold_c (l := [s.size, s.budget, s.room, s.drop]) (h.tells (Tells.blk (xs := [vI s.size, vI s.budget, vI s.room, vI s.drop]) rfl (by simp))) (by simp) ?_
    refine IfB.mk (fun h1 => ?_) (fun h1 => ?_)
    · refine Ld.xb (x := sc) h rfl ?_
      refine rTold_c (h.tells r.tc.cons.cons) (by omega) ?_
      exact hr _ _ (by rw [h1, Bool.true_and]) h.drop
    · exact hr _ _ (by rw [h1, Bool.false_and]) h.drop
end
end Go.Proofs.YtdfalolgngnelaaDoor
/- AT -/
namespace Go.Vc
open Go
/-- an array of numbers -/
def aT (t : List Int) : Array Value := ⟨t.map vI⟩
/-- numbers as they are -/
def zl (l : List Nat) : List Int := l.map fun (x : Nat) => (x : Int)
theorem zl_len (l : List Nat) : (zl l).length = l.length := List.length_map ..
theorem zl_app (a b : List Nat) : zl (a ++ b) = zl a ++ zl b := List.map_append
theorem zl_inj {u v : List Nat} (h : zl u = zl v) : u = v := (List.map_inj_right (fun x y h => by have h : (x : Int) = (y : Int) := h; omega)).1 h
theorem aT_size {t : List Int} : (aT t).size = t.length := by simp [aT]
theorem aT_get {t : List Int} {i : Nat} (h : i < t.length) : (aT t)[i]? = some (Sc.enc (.int .i64) (t.getD i 0)) := by simp [aT, h, vI, List.getD]
theorem aT_scalar {t : List Int} : ∀ v ∈ (aT t).toList, scalarB v = true := by
  intro v hv
  simp only [aT, List.mem_map] at hv
  obtain ⟨x, _, rfl⟩ := hv
  rfl
theorem aT_set {t : List Int} {i : Nat} {x : Int} : (aT t).setIfInBounds i (.int .i64 x) = aT (t.set i x) := by
  unfold aT
  apply Array.ext'
  simp [List.map_set, vI]
theorem aT_zero {n : Nat} : (⟨List.replicate n (.int .i64 0)⟩ : Array Value) = aT (List.replicate n 0) := by unfold aT; simp [vI]
theorem EqA.aT {n : Nat} {a b : List Int} {K : Bool → Prop} (ha : a.length = n) (hb : b.length = n) (h : K (a == b)) : EqA .i64 n (aT a) (aT b) K := ⟨a, b, rfl, rfl, ha, hb, h⟩
theorem getD_set {l : List Int} {i j : Nat} {x : Int} (hi : i < l.length) : (l.set i x).getD j 0 = if j = i then x else l.getD j 0 := by
  simp only [List.getD, List.getElem?_set]
  by_cases h : i = j
  · subst h; simp [hi]
  · rw [if_neg h, if_neg (fun e => h e.symm)]
section
variable {E w : World} {F : List HP}
/-- an element of an array in a block is read -/
theorem IdxP.aT {b n : Nat} {t : List Int} {ty : TypeId} {fr : Nat × Nat} {i : Int} {j : Nat} {K : Int → Prop} (h : Hp E w (Blk b (.cells (Vc.aT t) ty fr) :: F)) (hi : i = (j : Int)) (hn : t.length = n) (hj : j < n) (hK : K (t.getD j 0)) : IdxP ⟨b, 0, none⟩ n i 1 fun q => Ld kI q w K := by
  subst hi
  exact IdxP.rd (s := .int .i64) h (by omega) (by omega) _ (by rw [Int.toNat_natCast]; exact aT_get (by omega)) hK
theorem IdxP.aTS {S : World → Prop} {b n : Nat} {t : List Int} {ty : TypeId} {fr : Nat × Nat} {i : Int} {j : Nat} {K : Int → Prop} (hS : ∀ w, S w → ∃ G, Hp E w (Blk b (.cells (Vc.aT t) ty fr) :: G)) (hi : i = (j : Int)) (hn : t.length = n) (hj : j < n) (hK : K (t.getD j 0)) : IdxP ⟨b, 0, none⟩ n i 1 fun q => LdS kI q S K := by
  subst hi
  refine ⟨by omega, by omega, ?_⟩
  rw [add_mk]
  exact LdS.blk (s := .int .i64) hS _ (by rw [Int.toNat_natCast, Nat.mul_one, Nat.zero_add]; exact aT_get (by omega)) hK
/-- an element of an array in a block is written -/
theorem IdxP.aTset {b n : Nat} {t : List Int} {ty : TypeId} {i : Int} {j : Nat} {v : Int} {K : World → Prop} (h : Hp E w (Blk b (.cells (Vc.aT t) ty (0, 0)) :: F)) (hi : i = (j : Int)) (hn : t.length = n) (hj : j < n)
    (hK : ∀ w', Hp E w' (Blk b (.cells (Vc.aT (t.set j v)) ty (0, 0)) :: F) → K w') : IdxP ⟨b, 0, none⟩ n i 1 fun q => St q (.int .i64 v) w K := by
  subst hi
  exact IdxP.wr h (by omega) (by omega) (by rw [aT_size, hn]) rfl (by rw [Int.toNat_natCast, aT_set]; exact hK)
theorem IdxV.aT {n : Nat} {t : List Int} {i : Int} {j : Nat} {K : Int → Prop} (hi : i = (j : Int)) (hn : t.length = n) (hj : j < n) (hK : K (t.getD j 0)) : IdxV (.int .i64) (Vc.aT t) n i K := by
  subst hi
  exact IdxV.rd (s := .int .i64) (by omega) (by omega) _ (by rw [Int.toNat_natCast]; exact aT_get (by omega)) hK
/-- an element of a slice of numbers is read -/
theorem Idx.nI {s : Sl} {zs : List Int} {i : Int} {j : Nat} {K : Int → Prop} (hs : SlT 1 s (zs.map vI) w) (hi : i = (j : Int)) (hj : j < zs.length) (hK : K (zs.getD j 0)) : Idx s i 1 fun q => Ld kI q w K := by
  subst hi
  have hl := hs.1
  simp only [List.length_map, Nat.mul_one] at hl
  refine Idx.rd hs (by omega) (by omega) fun p hp hc => Ld.sc (s := .int .i64) _ ?_ hK
  rw [hc]
  simp [vI, List.getD, hj]
/-- a byte of a slice is read -/
theorem Idx.nB {s : Sl} {bs : List Nat} {i : Int} {j : Nat} {K : Int → Prop} (hs : SlT 1 s (bs.map vB) w) (hi : i = (j : Int)) (hj : j < bs.length) (hK : K (bs.getD j 0 : Int)) : Idx s i 1 fun q => Ld (kInt .u8) q w K := by
  subst hi
  have hl := hs.1
  simp only [List.length_map, Nat.mul_one] at hl
  refine Idx.rd hs (by omega) (by omega) fun p hp hc => Ld.sc (s := .int .u8) (bs.getD j 0 : Int) ?_ hK
  rw [hc]
  simp [vB, List.getD, hj]
/-- a number of a slice of the code's own is written -/
theorem Idx.setI {s : Sl} {zs : List Int} {i : Int} {j : Nat} {x : Int} {K : World → Prop} (hh : Hp E w (OwnS 1 s (zs.map vI) :: F)) (hi : i = (j : Int)) (hj : j < zs.length) (h : ∀ w', Hp E w' (OwnS 1 s ((zs.set j x).map vI) :: F) → K w') : Idx s i 1 fun q => St q (.int .i64 x) w K := by
  subst hi
  have hl := hh.ownLen
  rw [List.length_map, Nat.mul_one] at hl
  refine St.own hh (by omega) (by omega) rfl fun w' h' => h w' ?_
  rw [Int.toNat_natCast] at h'
  rw [List.map_set]
  exact h'
/-- a byte of a slice of the code's own is written -/
theorem Idx.setB {s : Sl} {bs : List Nat} {i : Int} {j x : Nat} {K : World → Prop} (hh : Hp E w (OwnS 1 s (bs.map vB) :: F)) (hi : i = (j : Int)) (hj : j < bs.length) (h : ∀ w', Hp E w' (OwnS 1 s ((bs.set j x).map vB) :: F) → K w') : Idx s i 1 fun q => St q (.int .u8 (x : Int)) w K := by
  subst hi
  have hl := hh.ownLen
  rw [List.length_map, Nat.mul_one] at hl
  refine St.own hh (by omega) (by omega) rfl fun w' h' => h w' ?_
  rw [Int.toNat_natCast] at h'
  rw [List.map_set]
  exact h'
/-- a number is appended to a slice of the code's own -/
theorem app_n {P : Program} {t ty e e2 : TypeId} {s : Sl} {zs : List Int} {x : Int} {cs : Array Value} {K : Sl → World → Prop} (he : ElemT P t e 1 8) (hcs : cs = ⟨[vI x]⟩) (hh : Hp E w (OwnS 1 s (zs.map vI) :: F)) (hb : zs.length ≤ big)
    (h : ∀ s' w', Hp E w' (OwnS 1 s' ((zs ++ [x]).map vI) :: F) → s'.len = zs.length + 1 → K s' w') :
    Nw e2 cs w fun b w1 => Run P (Builtin.append_ #[t, t] ty ⟨[.slice s.base s.len s.cap, .slice (some ⟨b, 0, none⟩) 1 1]⟩) kS w1 K := by
  have hl := hh.ownLen
  rw [List.length_map, Nat.mul_one] at hl
  rw [big_eq] at hb
  refine Nw.mk hh fun b w1 h1 => run_append (ys := [vI x]) (n := 1) he (by decide) (.inl ⟨e, he.und⟩) h1.p1 (.inl ⟨some ⟨b, 0, none⟩, 1, 1, rfl, rfl, h1.tells (Tells.blk (by rw [hcs]) rfl)⟩) rfl (fun y hy => by
    rw [List.mem_singleton] at hy; subst hy; rfl) (by omega) (by omega) fun s' w2 h2 hs' => h s' w2 ?_ (by omega)
  rw [List.map_append]
  exact h2.p1.drop
end
end Go.Vc
/- Fref07 -/
namespace Go.Proofs.YtdfalolgngnelaaDoor
open Go Go.Vc
/-- winepressref07.Ints -/
def ref07_Ints.E (a1 : Sl) (b2 : Sl) (R : Bool → World → Prop) (w : World) : Prop :=
 IfB (((a1.len : Int) : Int) != ((b2.len : Int) : Int))
 (R (false) w)
 (∃ (I_3 : Int → World → Prop) (m_4 : Int → World → Nat), I_3 (0) w ∧
 ∀ (i5 : Int), ∀ (w_6 : World), I_3 i5 w_6 →
 IfB (decide ((i5 : Int) < ((a1.len : Int) : Int)))
 (Drw w_6 fun (w_7 : World) =>
 Idx a1 i5 1 fun (q8 : Addr) =>
 Ld kI q8 w_7 fun (x9 : Int) =>
 Idx b2 i5 1 fun (q10 : Addr) =>
 Ld kI q10 w_7 fun (x11 : Int) =>
 IfB ((x9 : Int) != (x11 : Int))
 (R (false) w_7)
 (I_3 ((i64 ((i5 : Int) + (1 : Int)))) w_7 ∧ m_4 ((i64 ((i5 : Int) + (1 : Int)))) w_7 < m_4 i5 w_6))
 (R (true) w_6))
theorem ref07_Ints.ok (a1 : Sl) (b2 : Sl) (R : Bool → World → Prop) (w : World) (h : ref07_Ints.E a1 b2 R w) : Cl Tryd.prog [kB] n_ref07_Ints ⟨[(.slice a1.base a1.len a1.cap), (.slice b2.base b2.len b2.cap)]⟩ w R :=
  calls_of_eq Tryd.mix Tryd.f23 [(.slice a1.base a1.len a1.cap), (.slice b2.base b2.len b2.cap)] [kB] R 26 [.tmp 4] (by kernel_rfl) (by kernel_rfl) (by kernel_rfl) (by kernel_rfl) (by kernel_rfl)
    (.s .o (.s (.s .o (.c (.s .o .o) .o)) (.s (.s .o (.b (.l [(5, kI)] (.s (.s .o (.c .o .o)) (.s (.b (.s .o (.c (.s .o .o) .o))) .o))))) (.s .o .o))))
    (by kernel_rfl) h
end Go.Proofs.YtdfalolgngnelaaDoor
/- Ints07 -/
namespace Go.Proofs.YtdfalolgngnelaaDoor
open Go Go.Vc
section
variable {E w : World} {F : List HP}
theorem ints07_c {s s2 : Sl} {a b : List Int} {K : Bool → World → Prop} (h : Hp E w F) (ha : Tells F (SlT 1 s (a.map vI))) (hb : Tells F (SlT 1 s2 (b.map vI))) (hbig : a.length ≤ big) (hK : ∀ w', Hp E w' F → K (a == b) w') :
    Cl Tryd.prog [kB] n_ref07_Ints ⟨[.slice s.base s.len s.cap, .slice s2.base s2.len s2.cap]⟩ w K := by
  refine ref07_Ints.ok _ _ _ _ ?_
  unfold ref07_Ints.E
  have la := (h.tells ha).1
  have lb := (h.tells hb).1
  simp only [List.length_map, Nat.mul_one] at la lb
  rw [big_eq] at hbig
  refine IfB.mk (fun hne => ?_) (fun heq => ?_)
  · have hne : ¬ (s.len : Int) = (s2.len : Int) := by simpa using hne
    have : (a == b) = false := by
      rw [beq_eq_false_iff_ne]; rintro rfl; omega
    have hk := hK w h
    rw [this] at hk; exact hk
  · have heq : (s.len : Int) = (s2.len : Int) := by simpa using heq
    refine ⟨fun i w' => ∃ k : Nat, i = (k : Int) ∧ k ≤ a.length ∧ a.take k = b.take k ∧ Hp E w' F, fun i _ => a.length - i.toNat, ⟨0, rfl, by omega, by simp, h⟩, ?_⟩
    rintro i w' ⟨k, rfl, hk, hab, hh⟩
    refine IfB.mk (fun hlt => ?_) (fun hge => ?_)
    · have hlt : k < a.length := by have := of_decide_eq_true hlt; omega
      have hltb : k < b.length := by omega
      refine Drw.mk hh fun w1 h1 => ?_
      refine Idx.rd (h1.tells ha) (by omega) (by omega) fun q hq hc => ?_
      refine Ld.sc (s := .int .i64) a[k] (by rw [hc]; simp [vI]) ?_
      refine Idx.rd (h1.tells hb) (by omega) (by omega) fun q2 hq2 hc2 => ?_
      refine Ld.sc (s := .int .i64) b[k] (by rw [hc2]; simp [vI]) ?_
      refine IfB.mk (fun hne => ?_) (fun hee => ?_)
      · have hne : ¬ a[k] = b[k] := by simpa using hne
        have : (a == b) = false := by
          rw [beq_eq_false_iff_ne]; rintro rfl; exact hne rfl
        have hk := hK w1 h1
        rw [this] at hk; exact hk
      · have hee : a[k] = b[k] := by simpa using hee
        rw [i64_id (by omega)]
        refine ⟨⟨k + 1, rfl, by omega, ?_, h1⟩, by dsimp only; omega⟩
        rw [List.take_add_one, List.take_add_one, hab, List.getElem?_eq_getElem hlt, List.getElem?_eq_getElem hltb, hee]
    · have hge : k = a.length := by have := of_decide_eq_false hge; omega
      subst hge
      rw [List.take_length, List.take_of_length_le (by omega)] at hab
      have hk := hK w' hh
      rw [hab] at hk
      simpa using hk
end
end Go.Proofs.YtdfalolgngnelaaDoor
/- ScI -/
namespace Go.Proofs.YtdfalolgngnelaaDoor
open Go Go.Vc Go.Scr
set_option linter.unusedSectionVars false
section
variable {E w : World} {F : List HP}
set_option maxRecDepth 20000
theorem str_c {s : Sl} {b : List Nat} {K : ByteArray → World → Prop} (hs : SlT 1 s (b.map vB) w) (hK : K (strOf b) w) : Run Tryd.prog (convert 24 9 (.slice s.base s.len s.cap)) kStr w K :=
  run_toStr (s := s) (b := b) (e := 5) (by kernel_rfl) (by kernel_rfl) (by kernel_rfl) hs hK
theorem scn_ext {a b : Scn} (h1 : a.size = b.size) (h2 : a.budget = b.budget) (h3 : a.deeds = b.deeds) (h4 : a.spoils = b.spoils) (h5 : a.drop = b.drop) (h6 : a.behind = b.behind) (h7 : a.room = b.room) (h8 : a.cuts = b.cuts) : a = b := by
  cases a; cases b; simp only at *; simp [*]
theorem RdS.dk {ds : List Dd} {s : Scn} {sd ss sb sc : Sl} (r : RdS F ds s sd ss sb sc) {k : Nat} (h : k < ds.length) (h2 : k < s.deeds.length) : ds[k].1 = s.deeds[k] := by
  have e := r.d
  have : (ds.map (·.1))[k]'(by simpa using h) = s.deeds[k] := by simp only [e]
  simpa using this
set_option maxHeartbeats 2000000 in
theorem rEqual_c {a b : Scn} {ds es : List Dd} {sd ss sb sc td ts tb tc : Sl} {K : Bool → World → Prop} (h : Hp E w F) (ra : RdS F ds a sd ss sb sc) (rb : RdS F es b td ts tb tc) (ga : Scr.Good a) (gb : Scr.Good b) (hz : sz a ≤ 10000000) (hK : ∀ w', Hp E w' F → K (decide (a = b)) w') :
    Cl Tryd.prog [kB] n_ref30_Equal ⟨[.agg ⟨encs ksS (tS a sd ss sb sc)⟩, .agg ⟨encs ksS (tS b td ts tb tc)⟩]⟩ w K := by
  refine ref30_Equal.ok _ _ _ _ ?_
  unfold ref30_Equal.E
  obtain ⟨l1, l2, l3, l4, l5⟩ := ra.len h
  obtain ⟨m1, m2, m3, m4, m5⟩ := rb.len h
  unfold sz at hz
  have no : ∀ (w : World), Hp E w F → ¬ a = b → K false w := fun w h hn => by have := hK w h; rwa [decide_eq_false hn] at this
  refine Nw.mk h fun b4 w h => ?_
  refine Nw.mk h fun b6 w h => ?_
  refine Join.of (fun r => ∀ (w : World), a.size = b.size → a.budget = b.budget → a.drop = b.drop → a.room = b.room → a.deeds.length = b.deeds.length → a.spoils.length = b.spoils.length → a.behind = b.behind →
    Hp E w (Blk b6 (.cells ⟨encs ksS (tS b td ts tb tc)⟩ 27 (0, 0)) :: Blk b4 (.cells ⟨encs ksS (tS a sd ss sb sc)⟩ 27 (0, 0)) :: F) → r w) (fun w e1 e2 e3 e4 e5 e6 e7 h => ?_) fun r' hr => ?_
  · refine ⟨fun i w => ∃ k : Nat, i = (k : Int) ∧ k ≤ a.deeds.length ∧ a.deeds.take k = b.deeds.take k ∧ Hp E w (Blk b6 (.cells ⟨encs ksS (tS b td ts tb tc)⟩ 27 (0, 0)) :: Blk b4 (.cells ⟨encs ksS (tS a sd ss sb sc)⟩ 27 (0, 0)) :: F), fun i _ => a.deeds.length - i.toNat,
      ⟨0, rfl, by omega, by simp, h⟩, ?_⟩
    rintro i w ⟨k, rfl, hk, hd, h⟩
    refine Ld.xb (x := sd) h rfl ?_
    refine IfB.dm (fun hlt => ?_) (fun hge => ?_)
    · have hlta : k < a.deeds.length := by omega
      have hltb : k < b.deeds.length := by omega
      have ha := ra.dk (k := k) (by omega) hlta
      have hb := rb.dk (k := k) (by omega) hltb
      have hi : i64 ((k : Int) + 1) = ((k + 1 : Nat) : Int) := by rw [i64_id (by omega)]; omega
      rw [hi]
      have h := h.drew (n := w.drawn + 1)
      refine ⟨HasF E (Blk b6 (.cells ⟨encs ksS (tS b td ts tb tc)⟩ 27 (0, 0)) :: Blk b4 (.cells ⟨encs ksS (tS a sd ss sb sc)⟩ 27 (0, 0)) :: F), HasF.mk h, ?_⟩
      have ne : a.deeds[k] ≠ b.deeds[k] → ¬ a = b := fun hn e => hn (by simp only [e])
      refine LdS.xb (x := sd) (fun w hw => hw.tells (Tells.cons Tells.hb)) rfl ?_
      refine Idx.elT gD_len (by decide) h ra.td.cons.cons rfl (by omega) fun q hq => ?_
      refine LdS.sc (s := .bool) a.deeds[k].1 (fun w hw => by rw [hw.tells (hq 0 (by decide)), ← ha]; rfl) ?_
      refine LdS.xb (x := td) (fun w hw => hw.tells Tells.hb) rfl ?_
      refine Idx.elT gD_len (by decide) h rb.td.cons.cons rfl (by omega) fun q hq => ?_
      refine LdS.sc (s := .bool) b.deeds[k].1 (fun w hw => by rw [hw.tells (hq 0 (by decide)), ← hb]; rfl) ?_
      by_cases hf : a.deeds[k].1 = b.deeds[k].1
      · refine IfB.f (by rw [hf]; simp) ?_
        refine LdS.xb (x := sd) (fun w hw => hw.tells (Tells.cons Tells.hb)) rfl ?_
        refine Idx.elT gD_len (by decide) h ra.td.cons.cons rfl (by omega : k < ds.length) fun q hq => ?_
        refine LdS.sc (s := .sl) (ds[k]'(by omega)).2 (fun w hw => by rw [hw.tells (hq 1 (by decide))]; rfl) ?_
        refine LdS.xb (x := td) (fun w hw => hw.tells Tells.hb) rfl ?_
        refine Idx.elT gD_len (by decide) h rb.td.cons.cons rfl (by omega : k < es.length) fun q hq => ?_
        refine LdS.sc (s := .sl) (es[k]'(by omega)).2 (fun w hw => by rw [hw.tells (hq 1 (by decide))]; rfl) ?_
        have ta := ra.tb k (by omega)
        have tb := rb.tb k (by omega)
        rw [ha] at ta
        rw [hb] at tb
        have ba := ga.deeds _ (List.getElem_mem hlta)
        have bb := gb.deeds _ (List.getElem_mem hltb)
        have go : a.deeds[k].2 = b.deeds[k].2 → a.deeds.take (k + 1) = b.deeds.take (k + 1) := fun e => by
          rw [List.take_add_one, List.take_add_one, List.getElem?_eq_getElem hlta, List.getElem?_eq_getElem hltb, hd, Prod.ext hf e]
        constructor
        · refine str_c (h.tells ta.cons.cons) ⟨HasF.mk h, str_c (h.tells tb.cons.cons) ⟨HasF.mk h, ?_⟩⟩
          rw [strOf_eq ba bb]
          refine IfB.mk (fun hne => ?_) (fun he => ?_)
          · refine no _ h.drop.drop (ne fun e => ?_)
            rw [e] at hne; simp at hne
          · exact ⟨⟨k + 1, rfl, by omega, go (by simpa using he), h⟩, by first | omega | (dsimp only; omega)⟩
        · refine str_c (h.tells tb.cons.cons) ⟨HasF.mk h, str_c (h.tells ta.cons.cons) ⟨HasF.mk h, ?_⟩⟩
          rw [strOf_eq ba bb]
          refine IfB.mk (fun hne => ?_) (fun he => ?_)
          · refine no _ h.drop.drop (ne fun e => ?_)
            rw [e] at hne; simp at hne
          · exact ⟨⟨k + 1, rfl, by omega, go (by simpa using he), h⟩, by first | omega | (dsimp only; omega)⟩
      · have hn := ne fun e => hf (by rw [e])
        refine IfB.t (by simpa using hf) ⟨no _ h.drop.drop hn, no _ h.drop.drop hn⟩
    · have hkl : k = a.deeds.length := by omega
      rw [List.take_of_length_le (by omega), List.take_of_length_le (by omega)] at hd
      refine ⟨fun i w => ∃ k : Nat, i = (k : Int) ∧ k ≤ a.spoils.length ∧ a.spoils.take k = b.spoils.take k ∧ Hp E w (Blk b6 (.cells ⟨encs ksS (tS b td ts tb tc)⟩ 27 (0, 0)) :: Blk b4 (.cells ⟨encs ksS (tS a sd ss sb sc)⟩ 27 (0, 0)) :: F), fun i _ => a.spoils.length - i.toNat,
        ⟨0, rfl, by omega, by simp, h⟩, ?_⟩
      rintro i w ⟨k, rfl, hk, hs, h⟩
      refine Ld.xb (x := ss) h rfl ?_
      refine IfB.dm (fun hlt => ?_) (fun hge => ?_)
      · have hlta : k < a.spoils.length := by omega
        have hltb : k < b.spoils.length := by omega
        have hi : i64 ((k : Int) + 1) = ((k + 1 : Nat) : Int) := by rw [i64_id (by omega)]; omega
        rw [hi]
        refine Drw.mk h fun w h => ?_
        refine Ld.xb (x := ss) h rfl ?_
        refine Idx.el gP_len (by decide) (h.tells ra.ts.cons.cons) rfl hlta fun q hq => ?_
        refine Ld.st (ks := [.int .i64, .int .u8]) (a.spoils[k].1, (a.spoils[k].2 : Int), ()) (fun j hj => by rw [hq j hj]; rfl) ?_
        refine Ld.xb (x := ts) h rfl ?_
        refine Idx.el gP_len (by decide) (h.tells rb.ts.cons.cons) rfl hltb fun q hq => ?_
        refine Ld.st (ks := [.int .i64, .int .u8]) (b.spoils[k].1, (b.spoils[k].2 : Int), ()) (fun j hj => by rw [hq j hj]; rfl) ?_
        refine IfB.mk (fun hne => ?_) (fun he => ?_)
        · refine no _ h.drop.drop fun e => ?_
          subst e
          simp at hne
        · refine ⟨⟨k + 1, rfl, by omega, ?_, h⟩, by first | omega | (dsimp only; omega)⟩
          have e : a.spoils[k] = b.spoils[k] := by
            simp only [Bool.not_eq_false', Bool.and_eq_true, beq_iff_eq] at he
            exact Prod.ext he.1 (Int.ofNat_inj.1 he.2)
          rw [List.take_add_one, List.take_add_one, List.getElem?_eq_getElem hlta, List.getElem?_eq_getElem hltb, hs, e]
      · have hkl : k = a.spoils.length := by omega
        rw [List.take_of_length_le (by omega), List.take_of_length_le (by omega)] at hs
        refine Ld.xb (x := sc) h rfl (Ld.xb (x := tc) h rfl ?_)
        refine ints07_c h ra.tc.cons.cons rb.tc.cons.cons (by rw [big_eq]; omega) fun w h => ?_
        have := hK w h.drop.drop
        have e : decide (a = b) = (a.cuts == b.cuts) := by
          rw [Bool.eq_iff_iff, decide_eq_true_iff, beq_iff_eq]
          exact ⟨fun e => by rw [e], fun e => scn_ext e1 e2 hd hs e3 e7 e4 e⟩
        rwa [e] at this
  · refine Ld.xb (x := a.size) h rfl (Ld.xb (x := b.size) h rfl ?_)
    refine IfB.nm (fun hne => no _ h.drop.drop fun e => hne (by rw [e])) (fun e1 => ?_)
    refine Ld.xb (x := a.budget) h rfl (Ld.xb (x := b.budget) h rfl ?_)
    refine IfB.nm (fun hne => no _ h.drop.drop fun e => hne (by rw [e])) (fun e2 => ?_)
    refine Ld.xb (x := a.drop) h rfl (Ld.xb (x := b.drop) h rfl ?_)
    refine IfB.nm (fun hne => no _ h.drop.drop fun e => hne (by rw [e])) (fun e3 => ?_)
    refine Ld.xb (x := a.room) h rfl (Ld.xb (x := b.room) h rfl ?_)
    refine IfB.nm (fun hne => no _ h.drop.drop fun e => hne (by rw [e])) (fun e4 => ?_)
    refine Ld.xb (x := sd) h rfl (Ld.xb (x := td) h rfl ?_)
    refine IfB.nm (fun hne => no _ h.drop.drop fun e => hne (by rw [l1, m1, e])) (fun e5 => ?_)
    refine Ld.xb (x := ss) h rfl (Ld.xb (x := ts) h rfl ?_)
    refine IfB.nm (fun hne => no _ h.drop.drop fun e => hne (by rw [l2, m2, e])) (fun e6 => ?_)
    refine Ld.xb (x := sb) h rfl ?_
    refine str_c (h.tells ra.th.cons.cons) ?_
    refine Ld.xb (x := tb) h rfl ?_
    refine str_c (h.tells rb.th.cons.cons) ?_
    rw [strOf_eq ga.behind gb.behind]
    refine IfB.mk (fun hne => no _ h.drop.drop fun e => ?_) (fun e7 => ?_)
    · rw [e] at hne; simp at hne
    · exact hr w e1 e2 e3 e4 (by omega) (by omega) (by simpa using e7) h
end
end Go.Proofs.YtdfalolgngnelaaDoor
/- SmA -/
namespace Go.Proofs.YtdfalolgngnelaaDoor
open Go Go.Vc Go.Scr Go.Sort
set_option linter.unusedSectionVars false
/-! numbers: canonical -/
theorem dec_val10 : ∀ (d : List Nat), d ≠ [] → (∀ c ∈ d, 48 ≤ c ∧ c ≤ 57) → (d.head? = some 48 → d = [48]) → dec (val10 d) = d := by
  intro d
  induction hk : d.length using Nat.strongRecOn generalizing d with
  | ind k ih =>
    intro h0 hd hh
    obtain ⟨r, c, rfl⟩ : ∃ r c, d = r ++ [c] := ⟨d.dropLast, d.getLast h0, (List.dropLast_concat_getLast h0).symm⟩
    have hc := hd c (by simp)
    have hv : val10 (r ++ [c]) = 10 * val10 r + (c - 48) := by unfold val10; rw [List.foldl_append]; rfl
    by_cases hr : r = []
    · subst hr
      rw [hv]
      have e : val10 [] = 0 := rfl
      rw [e, dec, dif_pos (by omega)]
      simp only [List.nil_append]
      congr 1; omega
    · have hr1 := ih r.length (by rw [← hk]; simp) r rfl hr (fun x hx => hd x (by simp [hx])) (fun e => by
        have : (r ++ [c]).head? = some 48 := by rw [List.head?_append, e]; rfl
        have h3 := congrArg List.length (hh this)
        have := List.length_pos_iff.2 hr
        rw [List.length_append] at h3
        simp only [List.length_cons, List.length_nil] at h3
        omega)
      have hpos : 0 < val10 r := by
        rcases Nat.eq_zero_or_pos (val10 r) with e | e
        · rw [e, dec, dif_pos (by decide)] at hr1
          have : (r ++ [c]).head? = some 48 := by rw [← hr1]; rfl
          have := hh this
          rw [← hr1] at this
          simp at this
        · exact e
      rw [hv, dec, dif_neg (by omega), show (10 * val10 r + (c - 48)) / 10 = val10 r by omega, hr1]
      congr 2; omega
theorem num_canon {t : List Nat} {z : Int} (h : num t = some z) : t = decI z ∧ inFar z := by
  rw [num_eq] at h
  split at h
  · cases h
  · rename_i hn
    simp only [not_or] at hn
    obtain ⟨h1, h2, h3, h4⟩ := hn
    injection h with h
    have hdg : ∀ c ∈ dgs t, 48 ≤ c ∧ c ≤ 57 := by
      intro c hc
      have : digs (dgs t) = true := by cases e : digs (dgs t) with | true => rfl | false => exact absurd e h3
      unfold digs at this
      have := List.all_eq_true.1 this c hc
      simpa using this
    have hone : (dgs t).head? = some 48 → dgs t = [48] ∧ t.head? ≠ some 45 := by
      intro e
      have hl : t.length ≤ 1 := by
        rcases Nat.lt_or_ge 1 t.length with q | q
        · exact absurd ⟨e, q⟩ h2
        · exact q
      have hneg : t.head? ≠ some 45 := by
        intro q
        have : dgs t = t.drop 1 := by unfold dgs; rw [if_pos q]
        rw [this] at h1
        exact h1 (List.drop_eq_nil_of_le hl)
      have : dgs t = t := by unfold dgs; rw [if_neg hneg]
      rw [this] at e h1 ⊢
      refine ⟨?_, hneg⟩
      match t, hl, e with
      | [x], _, e => simpa using e
    have hcan := dec_val10 (dgs t) h1 hdg fun e => (hone e).1
    have hfar : (far : Int) = 4611686018427387904 := rfl
    have h4' : val10 (dgs t) ≤ far := by omega
    by_cases hm : t.head? = some 45
    · rw [if_pos hm] at h
      have ht : t = 45 :: dgs t := by
        unfold dgs
        rw [if_pos hm]
        cases t with
        | nil => cases hm
        | cons x r => simp at hm; rw [hm]; rfl
      have hpos : 0 < val10 (dgs t) := by
        rcases Nat.eq_zero_or_pos (val10 (dgs t)) with e | e
        · rw [e, dec, dif_pos (by decide)] at hcan
          exact absurd hm (hone (by rw [← hcan]; rfl)).2
        · exact e
      subst h
      refine ⟨?_, by unfold inFar; omega⟩
      unfold decI
      rw [if_pos (by omega), show (-(val10 (dgs t) : Int)).natAbs = val10 (dgs t) by omega, hcan]
      exact ht
    · rw [if_neg hm] at h
      have ht : dgs t = t := by unfold dgs; rw [if_neg hm]
      subst h
      refine ⟨?_, by unfold inFar; omega⟩
      unfold decI
      rw [if_neg (by omega), show ((val10 (dgs t) : Int)).natAbs = val10 (dgs t) by omega, hcan, ht]
section
variable {E w : World} {F : List HP}
set_option maxRecDepth 20000
theorem IfNil.niv {K : Bool → Prop} (h : K true) : IfNil .nilIface K := h
theorem IfNil.ifc {te : TypeId} {p : Value} {K : Bool → Prop} (h : K false) : IfNil (.iface te p) K := h
theorem atoi_in {l : List UInt8} {v : Int} (h : Lib.atoiAll l = .ok v) : -9223372036854775808 ≤ v ∧ v ≤ 9223372036854775807 := by
  unfold Lib.atoiAll at h
  cases l with
  | nil => cases h
  | cons c r =>
    simp only at h
    generalize Lib.parseMag (if c.toNat = 43 ∨ c.toNat = 45 then r else c :: r) = m at h
    cases m with
    | range => cases h
    | ok u =>
      simp only at h
      by_cases h1 : ¬ c.toNat = 45 ∧ 9223372036854775808 ≤ u
      · rw [if_pos h1] at h; cases h
      · rw [if_neg h1] at h
        by_cases h2 : c.toNat = 45 ∧ 9223372036854775808 < u
        · rw [if_pos h2] at h; cases h
        · rw [if_neg h2] at h
          injection h with h
          by_cases h3 : c.toNat = 45
          · rw [if_pos h3] at h; omega
          · rw [if_neg h3] at h; omega
    | _ => cases h
/-- number: the value goes to a cell of a block that the caller holds -/
theorem number_c {t : List Nat} {b o : Nat} {C : Array Value} {ty : TypeId} {K : Bool → World → Prop} (h : Hp E w (Blk b (.cells C ty (0, 0)) :: F)) (hg : Tells F Gl) (ht : Bt t) (hl : t.length ≤ 1000000) (ho : o < C.size)
    (hK1 : ∀ z w', num t = some z → Hp E w' (Blk b (.cells (C.setIfInBounds o (.int .i64 z)) ty (0, 0)) :: F) → K true w') (hK0 : ∀ w', num t = none → Hp E w' (Blk b (.cells C ty (0, 0)) :: F) → K false w') :
    Cl Tryd.prog [kB] n_script_number ⟨[.string (strOf t), .pointer (some ⟨b, o, none⟩)]⟩ w K := by
  refine script_number.ok _ _ _ _ ?_
  unfold script_number.E
  have hnone : ∀ {z : Int}, (∀ v, Lib.atoiAll (t.map UInt8.ofNat) ≠ .ok v) → num t = some z → False := fun hn hz => by
    obtain ⟨e, h1, h2⟩ := num_canon hz
    have := atoi_dec h1 h2
    rw [← e] at this
    exact hn _ this
  refine atoi_c h hg.cons hl (fun v w ha h => ?_) (fun v te p w hn h => ?_)
  · refine IfNil.niv (IfB.f rfl ?_)
    by_cases hv : -9223372036854775808 ≤ v ∧ v ≤ 9223372036854775807
    · refine itoa_c h hg.cons hv.1 hv.2 fun w h => ?_
      have hdb : Bt (decI v) := decI_bt v
      rw [strOf_eq hdb ht]
      have hfar : (far : Int) = 4611686018427387904 := rfl
      by_cases e : decI v = t
      · refine IfB.f (by simpa using e) ?_
        by_cases hr : inFar v
        · have hr' := hr
          unfold inFar at hr'
          refine IfB.df (by omega) (IfB.df (by omega) ?_)
          have hz : num t = some v := by rw [← e]; exact num_dec hr.1 hr.2
          refine St.xb h ho rfl fun w h => ?_
          exact hK1 v w hz h
        · have hz : num t = none := by
            cases hq : num t with
            | none => rfl
            | some z =>
              obtain ⟨e1, h1⟩ := num_canon hq
              have : decI v = decI z := e.trans e1
              exfalso
              apply hr
              have e2 : ∀ a b : Int, decI a = decI b → a = b := by
                intro a b hab
                have ka := dec_val a.natAbs
                have kb := dec_val b.natAbs
                have na := dec_head_ne a.natAbs
                have nb := dec_head_ne b.natAbs
                unfold decI at hab
                split at hab <;> split at hab
                · injection hab with _ hab
                  rw [hab, kb] at ka; omega
                · rw [← hab] at nb; simp at nb
                · rw [hab] at na; simp at na
                · rw [hab, kb] at ka; omega
              rw [e2 _ _ this]; exact h1
          unfold inFar at hr
          by_cases h1 : v < -4611686018427387904
          · exact IfB.dt h1 (hK0 w hz h)
          · refine IfB.df h1 (IfB.dt (by omega) (hK0 w hz h))
      · have hz : num t = none := by
          cases hq : num t with
          | none => rfl
          | some z =>
            obtain ⟨e1, h1⟩ := num_canon hq
            have := atoi_dec h1.1 h1.2
            rw [← e1, ha] at this
            injection this with this
            rw [this] at e
            exact absurd e1.symm e
        exact IfB.t (by simpa using e) (hK0 w hz h)
    · exact absurd (atoi_in ha) hv
  · refine IfNil.ifc (IfB.t rfl ?_)
    refine hK0 w ?_ h
    cases hq : num t with
    | none => rfl
    | some z => exact (hnone hn hq).elim
end
end Go.Proofs.YtdfalolgngnelaaDoor
/- Iter -/
namespace Go.Vc
open Go
section
variable {E w : World} {F A : List HP}
theorem Hp.put {b : Nat} {o : Obj} (h : Hp E w (Blk b o :: F)) (o' : Obj) : Hp E (w.putObj b o') (Blk b o' :: F) := h.setObj rfl rfl rfl rfl
/-- what never holds: the state of a round that returned, where none does -/
def Nope : HP := fun _ => False
theorem Hp.nope {B : HP} (h : Hp E w (B :: Nope :: F)) : False := by
  obtain ⟨f, _, g, k, _, _, _, g2, k2, _, _, h2, _⟩ := h.frag
  exact h2
/-- the call of yield with the item number i: the state C i turns to C (i + 1), or to G i where the round returned -/
def YieldOk (P : Program) (E : World) (yv : Value) (n : Nat) (vs : Nat → List Value) (C G : Nat → List HP) : Prop :=
  ∀ i, i < n → ∀ (A : List HP) (w : World) (K : Bool → World → Prop), Hp E w (C i ++ A) → (∀ w', Hp E w' (C (i + 1) ++ A) → K true w') → (∀ w', Hp E w' (G i ++ A) → K false w') → ClY P yv [kB] (vs i) w K
/-- v yields the items of vs, n of them, over A -/
def Iter (P : Program) (E : World) (v : Value) (n : Nat) (vs : Nat → List Value) (A : List HP) : Prop :=
  ∀ (yv : Value) (C G : Nat → List HP) (w : World) (K : World → Prop), YieldOk P E yv n vs C G → Hp E w (C 0 ++ A) → (∀ w', Hp E w' (C n ++ A) → K w') → (∀ i w', i < n → Hp E w' (G i ++ A) → K w') → ClV P v [] [yv] w K
theorem Rng.gen {P : Program} {v : Value} {ks : List Ki} {B : Nat → (Nat → Obj) → FnK ks (World → (World → Prop) → (World → Prop) → Prop)} {K Kr : Nat → World → Prop} {n : Nat} {vs : Nat → List Value} (C G : Nat → List HP)
    (hh : Hp E w (C 0 ++ A)) (hit : Iter P E v n vs A)
    (hbody : ∀ l rec (T : List Value → (World → (World → Prop) → (World → Prop) → Prop) → Prop), AllB ks (B l rec) T → ∀ i, i < n → ∃ b, T (vs i) b ∧ ∀ (A : List HP) (w : World) (Kt Kf : World → Prop), Hp E w (Blk l (rec 0) :: (C i ++ A)) →
      (∀ w', Hp E w' (Blk l (rec 0) :: (C (i + 1) ++ A)) → Kt w') → (∀ w', Hp E w' (Blk l (rec 2) :: (G i ++ A)) → Kf w') → b w Kt Kf)
    (hK : ∀ D w', Hp E w' (Blk D (.deferred (some [])) :: (C n ++ A)) → K D w') (hKr : ∀ i D w', i < n → Hp E w' (Blk D (.deferred (some [])) :: (G i ++ A)) → Kr D w') : Rng P v ks w B K Kr := by
  intro rec yv hy
  have h1 := hh.alloc (.deferred (some []))
  have h2 := h1.alloc (rec 0)
  have hs : (w.alloc (.deferred (some []))).heap.size = w.heap.size + 1 := by show (w.heap.push _).size = _; simp
  rw [hs] at h2
  refine hit yv (fun i => Blk (w.heap.size + 1) (rec 0) :: Blk w.heap.size (.deferred (some [])) :: C i) (fun i => Blk (w.heap.size + 1) (rec 2) :: Blk w.heap.size (.deferred (some [])) :: G i) _ _ ?_ h2 ?_ ?_
  · intro i hi A w2 R h hKt hKf
    obtain ⟨b, hb, h3⟩ := hbody (w.heap.size + 1) rec _ (hy R w2) i hi
    refine hb h.blk (h3 (Blk w.heap.size (.deferred (some [])) :: A) w2 _ _ (h.perm (.cons _ List.perm_middle.symm)) (fun w' h' => hKt w' (h'.perm (.cons _ List.perm_middle))) (fun w' h' => hKf w' (h'.perm (.cons _ List.perm_middle))))
  · intro w' h
    have h : Hp E w' (Blk (w.heap.size + 1) (rec 0) :: Blk w.heap.size (.deferred (some [])) :: (C n ++ A)) := h
    exact .inl ⟨h.blk, hK _ _ (h.put (rec 3)).drop⟩
  · intro i w' hi h
    have h : Hp E w' (Blk (w.heap.size + 1) (rec 2) :: Blk w.heap.size (.deferred (some [])) :: (G i ++ A)) := h
    exact .inr ⟨h.blk, hKr i _ _ hi (h.put (rec 4)).drop⟩
/-- a range of one value, over a function whose rounds all go to their ends or return -/
theorem Rng.mk1 {P : Program} {v : Value} {k : Ki} {B : Nat → (Nat → Obj) → k.T → World → (World → Prop) → (World → Prop) → Prop} {K Kr : Nat → World → Prop} {n : Nat} {x : Nat → k.T} (C G : Nat → List HP)
    (hh : Hp E w (C 0 ++ A)) (hit : Iter P E v n (fun i => [k.enc (x i)]) A)
    (hbody : ∀ l rec i (A : List HP) (w : World) (Kt Kf : World → Prop), i < n → Hp E w (Blk l (rec 0) :: (C i ++ A)) →
      (∀ w', Hp E w' (Blk l (rec 0) :: (C (i + 1) ++ A)) → Kt w') → (∀ w', Hp E w' (Blk l (rec 2) :: (G i ++ A)) → Kf w') → B l rec (x i) w Kt Kf)
    (hK : ∀ D w', Hp E w' (Blk D (.deferred (some [])) :: (C n ++ A)) → K D w') (hKr : ∀ i D w', i < n → Hp E w' (Blk D (.deferred (some [])) :: (G i ++ A)) → Kr D w') : Rng P v [k] w B K Kr :=
  Rng.gen (ks := [k]) C G hh hit (fun l rec _ hT i hi => ⟨_, hT (x i), fun A w Kt Kf => hbody l rec i A w Kt Kf hi⟩) hK hKr
theorem Rng.mk2 {P : Program} {v : Value} {k k' : Ki} {B : Nat → (Nat → Obj) → k.T → k'.T → World → (World → Prop) → (World → Prop) → Prop} {K Kr : Nat → World → Prop} {n : Nat} {x : Nat → k.T} {y : Nat → k'.T} (C G : Nat → List HP)
    (hh : Hp E w (C 0 ++ A)) (hit : Iter P E v n (fun i => [k.enc (x i), k'.enc (y i)]) A)
    (hbody : ∀ l rec i (A : List HP) (w : World) (Kt Kf : World → Prop), i < n → Hp E w (Blk l (rec 0) :: (C i ++ A)) →
      (∀ w', Hp E w' (Blk l (rec 0) :: (C (i + 1) ++ A)) → Kt w') → (∀ w', Hp E w' (Blk l (rec 2) :: (G i ++ A)) → Kf w') → B l rec (x i) (y i) w Kt Kf)
    (hK : ∀ D w', Hp E w' (Blk D (.deferred (some [])) :: (C n ++ A)) → K D w') (hKr : ∀ i D w', i < n → Hp E w' (Blk D (.deferred (some [])) :: (G i ++ A)) → Kr D w') : Rng P v [k, k'] w B K Kr :=
  Rng.gen (ks := [k, k']) C G hh hit (fun l rec _ hT i hi => ⟨_, hT (x i) (y i), fun A w Kt Kf => hbody l rec i A w Kt Kf hi⟩) hK hKr
theorem Beg.mk {l : Nat} {rec : Nat → Obj} {K : World → Prop} (h : Hp E w (Blk l (rec 0) :: F)) (hK : ∀ w', Hp E w' (Blk l (rec 1) :: F) → K w') : Beg l rec w K := ⟨h.blk, hK _ (h.put _)⟩
theorem EndT.mk {l : Nat} {rec : Nat → Obj} {K : World → Prop} (h : Hp E w (Blk l (rec 1) :: F)) (hK : ∀ w', Hp E w' (Blk l (rec 0) :: F) → K w') : EndT l rec w K := ⟨h.blk, hK _ (h.put _)⟩
theorem EndF.mk {l : Nat} {rec : Nat → Obj} {K : World → Prop} (h : Hp E w (Blk l (rec 1) :: F)) (hK : ∀ w', Hp E w' (Blk l (rec 2) :: F) → K w') : EndF l rec w K := ⟨h.blk, hK _ (h.put _)⟩
theorem Dfr.mk1 {D : Nat} {K : World → Prop} (h : Hp E w (Blk D (.deferred (some [])) :: F)) (hK : ∀ w', Hp E w' F → K w') : Dfr [D] w K := ⟨h.blk, hK _ (h.put _).drop⟩
theorem Dfr.mk : ∀ {ms : List Nat} {w : World} {K : World → Prop}, Hp E w (ms.map (fun D => Blk D (.deferred (some []))) ++ F) → (∀ w', Hp E w' F → K w') → Dfr ms w K
  | [], _, _, h, hK => hK _ h
  | D :: ms, w, K, h, hK => by
    have h : Hp E w (Blk D (.deferred (some [])) :: (ms.map (fun D => Blk D (.deferred (some []))) ++ F)) := h
    exact ⟨h.blk, Dfr.mk (ms := ms) (h.put _).drop hK⟩
end
end Go.Vc
/- Iter2 -/
namespace Go.Vc
open Go
section
variable {E w : World} {F A : List HP}
/-- v yields the items of vs, n of them, over cells of its own, that are gone behind it; it reads what Φ says -/
def Iter2 (P : Program) (E : World) (v : Value) (n : Nat) (vs : Nat → List Value) (A : List HP) (Φ : World → Prop) : Prop :=
  ∀ (yv : Value) (C G : Nat → List HP) (w : World) (K : World → Prop), (∀ i, Tells (C i) Φ) → YieldOk P E yv n vs C G → Hp E w (A ++ C 0) → (∀ w', Hp E w' (C n) → K w') → (∀ i w', i < n → Hp E w' (G i) → K w') → ClV P v [] [yv] w K
theorem Rng.gen2 {P : Program} {v : Value} {ks : List Ki} {Y : Nat → (Nat → Obj) → FnK ks (World → (World → Prop) → (World → Prop) → Prop)} {K Kr : Nat → World → Prop} {n : Nat} {vs : Nat → List Value} {Φ : World → Prop} (C G : Nat → List HP)
    (hh : Hp E w (A ++ C 0)) (hΦ : ∀ i, Tells (C i) Φ) (hit : Iter2 P E v n vs A Φ)
    (hbody : ∀ l rec (T : List Value → (World → (World → Prop) → (World → Prop) → Prop) → Prop), AllB ks (Y l rec) T → ∀ i, i < n → ∃ b, T (vs i) b ∧ ∀ (A : List HP) (w : World) (Kt Kf : World → Prop), Hp E w (Blk l (rec 0) :: (C i ++ A)) →
      (∀ w', Hp E w' (Blk l (rec 0) :: (C (i + 1) ++ A)) → Kt w') → (∀ w', Hp E w' (Blk l (rec 2) :: (G i ++ A)) → Kf w') → b w Kt Kf)
    (hK : ∀ D w', Hp E w' (Blk D (.deferred (some [])) :: C n) → K D w') (hKr : ∀ i D w', i < n → Hp E w' (Blk D (.deferred (some [])) :: G i) → Kr D w') : Rng P v ks w Y K Kr := by
  intro rec yv hy
  have h1 := hh.alloc (.deferred (some []))
  have h2 := h1.alloc (rec 0)
  have hs : (w.alloc (.deferred (some []))).heap.size = w.heap.size + 1 := by show (w.heap.push _).size = _; simp
  rw [hs] at h2
  refine hit yv (fun i => Blk (w.heap.size + 1) (rec 0) :: Blk w.heap.size (.deferred (some [])) :: C i) (fun i => Blk (w.heap.size + 1) (rec 2) :: Blk w.heap.size (.deferred (some [])) :: G i) _ _ (fun i => (hΦ i).cons.cons) ?_ ?_ ?_ ?_
  · intro i hi A w2 R h hKt hKf
    obtain ⟨b, hb, h3⟩ := hbody (w.heap.size + 1) rec _ (hy R w2) i hi
    refine hb h.blk (h3 (Blk w.heap.size (.deferred (some [])) :: A) w2 _ _ (h.perm (.cons _ List.perm_middle.symm)) (fun w' h' => hKt w' (h'.perm (.cons _ List.perm_middle))) (fun w' h' => hKf w' (h'.perm (.cons _ List.perm_middle))))
  · refine h2.perm ?_
    refine (List.Perm.trans (.cons _ List.perm_middle.symm) List.perm_middle.symm)
  · intro w' h
    exact .inl ⟨h.blk, hK _ _ (h.put (rec 3)).drop⟩
  · intro i w' hi h
    exact .inr ⟨h.blk, hKr i _ _ hi (h.put (rec 4)).drop⟩
theorem Rng.two {P : Program} {v : Value} {k k' : Ki} {Y : Nat → (Nat → Obj) → k.T → k'.T → World → (World → Prop) → (World → Prop) → Prop} {K Kr : Nat → World → Prop} {n : Nat} {x : Nat → k.T} {y : Nat → k'.T} {Φ : World → Prop} (C G : Nat → List HP)
    (hh : Hp E w (A ++ C 0)) (hΦ : ∀ i, Tells (C i) Φ) (hit : Iter2 P E v n (fun i => [k.enc (x i), k'.enc (y i)]) A Φ)
    (hbody : ∀ l rec i (A : List HP) (w : World) (Kt Kf : World → Prop), i < n → Hp E w (Blk l (rec 0) :: (C i ++ A)) →
      (∀ w', Hp E w' (Blk l (rec 0) :: (C (i + 1) ++ A)) → Kt w') → (∀ w', Hp E w' (Blk l (rec 2) :: (G i ++ A)) → Kf w') → Y l rec (x i) (y i) w Kt Kf)
    (hK : ∀ D w', Hp E w' (Blk D (.deferred (some [])) :: C n) → K D w') (hKr : ∀ i D w', i < n → Hp E w' (Blk D (.deferred (some [])) :: G i) → Kr D w') : Rng P v [k, k'] w Y K Kr :=
  Rng.gen2 (ks := [k, k']) C G hh hΦ hit (fun l rec _ hT i hi => ⟨_, hT (x i) (y i), fun A w Kt Kf => hbody l rec i A w Kt Kf hi⟩) hK hKr
theorem Rng.one2 {P : Program} {v : Value} {k : Ki} {Y : Nat → (Nat → Obj) → k.T → World → (World → Prop) → (World → Prop) → Prop} {K Kr : Nat → World → Prop} {n : Nat} {x : Nat → k.T} {Φ : World → Prop} (C G : Nat → List HP)
    (hh : Hp E w (A ++ C 0)) (hΦ : ∀ i, Tells (C i) Φ) (hit : Iter2 P E v n (fun i => [k.enc (x i)]) A Φ)
    (hbody : ∀ l rec i (A : List HP) (w : World) (Kt Kf : World → Prop), i < n → Hp E w (Blk l (rec 0) :: (C i ++ A)) →
      (∀ w', Hp E w' (Blk l (rec 0) :: (C (i + 1) ++ A)) → Kt w') → (∀ w', Hp E w' (Blk l (rec 2) :: (G i ++ A)) → Kf w') → Y l rec (x i) w Kt Kf)
    (hK : ∀ D w', Hp E w' (Blk D (.deferred (some [])) :: C n) → K D w') (hKr : ∀ i D w', i < n → Hp E w' (Blk D (.deferred (some [])) :: G i) → Kr D w') : Rng P v [k] w Y K Kr :=
  Rng.gen2 (ks := [k]) C G hh hΦ hit (fun l rec _ hT i hi => ⟨_, hT (x i), fun A w Kt Kf => hbody l rec i A w Kt Kf hi⟩) hK hKr
/-- some x of X, with the assertions of L x -/
def Ex1 {α : Type} (X : α → Prop) (L : α → List HP) : HP := fun f => ∃ x, X x ∧ Sat (L x) f
theorem Hp.ex {α : Type} {X : α → Prop} {L : α → List HP} (h : Hp E w (Ex1 X L :: F)) : ∃ x, X x ∧ Hp E w (L x ++ F) := h.open1 fun _ hf => hf
theorem Hp.mkEx {α : Type} {X : α → Prop} {L : α → List HP} (x : α) (hx : X x) (h : Hp E w (L x ++ F)) : Hp E w (Ex1 X L :: F) := h.shut1 fun _ hf => ⟨x, hx, hf⟩
end
end Go.Vc
