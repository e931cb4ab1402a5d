/-
  More of the heap logic: slices of elements of several cells, what the tail of a list of assertions tells, an element appended. Conditions: none; every theorem here is about any program.
-/
import Derived.Test.YtbldlpljfppmgaaArr
namespace Go.Vc
open Go
section
variable {E w w' : World} {F G : List HP} {sz : Nat} {s : Sl} {xs ys : List Value}
theorem Hp.dropL {l : List HP} (h : Hp E w (l ++ F)) : Hp E w F := by
  induction l with
  | nil => exact h
  | cons A l ih => exact ih h.drop
theorem Tells.app {φ : World → Prop} (l : List HP) (ht : Tells F φ) : Tells (l ++ F) φ := by
  induction l with
  | nil => exact ht
  | cons A l ih => exact ih.cons
theorem Tells.appL {φ : World → Prop} (ht : Tells G φ) : Tells (G ++ F) φ := (ht.app F).perm List.perm_append_comm
/-- a world that holds F, whatever else -/
def HasF (E : World) (F : List HP) (w : World) : Prop := ∃ l, Hp E w (l ++ F)
theorem HasF.mk (h : Hp E w F) : HasF E F w := ⟨[], h⟩
theorem HasF.mk1 {A : HP} (h : Hp E w (A :: F)) : HasF E F w := ⟨[A], h⟩
theorem HasF.mk2 {A B : HP} (h : Hp E w (A :: B :: F)) : HasF E F w := ⟨[A, B], h⟩
theorem HasF.mk3 {A B C : HP} (h : Hp E w (A :: B :: C :: F)) : HasF E F w := ⟨[A, B, C], h⟩
theorem HasF.tells {φ : World → Prop} (h : HasF E F w) (ht : Tells F φ) : φ w := by
  obtain ⟨l, h⟩ := h
  exact h.tells (ht.app l)
theorem Tells.blkCell {b i : Nat} {c : Array Value} {t : TypeId} {fr : Nat × Nat} {v : Value} (h : c[i]? = some v) : Tells (Blk b (.cells c t fr) :: F) (fun w => w.cell? ⟨b, i, none⟩ = some v) := by
  rintro w f a ⟨g, k, hd, rfl, rfl, h2⟩
  have : w.heap[b]? = some (.cells c t fr) := a b _ (by simp [Frag.add, Frag.one])
  simp only [World.cell?, this]
  exact h
/-- a part of a slice -/
theorem Slc.rdn {lo hi mx : Int} {K : Sl → Prop} (hl : xs.length = s.len * sz) (h0 : 0 ≤ lo) (h1 : lo ≤ hi) (h2 : hi ≤ (s.len : Int)) (h3 : hi ≤ mx) (h4 : mx ≤ (s.cap : Int))
    (h : ∀ s' : Sl, (∀ w', SlT sz s xs w' → SlT sz s' ((xs.drop (lo.toNat * sz)).take ((hi.toNat - lo.toNat) * sz)) w') → s'.len = hi.toNat - lo.toNat → s'.len ≤ s'.cap → K s') : Slc s lo hi mx sz K := by
  refine ⟨h0, h1, h3, h4, h _ (fun w' hs' => ?_) rfl (by simp only; omega)⟩
  have hm : hi.toNat * sz ≤ s.len * sz := Nat.mul_le_mul_right _ (by omega)
  have hsub : (hi.toNat - lo.toNat) * sz = hi.toNat * sz - lo.toNat * sz := Nat.sub_mul ..
  have hmono : lo.toNat * sz ≤ hi.toNat * sz := Nat.mul_le_mul_right _ (by omega)
  have hlen : ((xs.drop (lo.toNat * sz)).take ((hi.toNat - lo.toNat) * sz)).length = (hi.toNat - lo.toNat) * sz := by
    rw [List.length_take, List.length_drop]; omega
  refine ⟨hlen, fun i hi' => ?_⟩
  rw [hlen] at hi'
  obtain ⟨p, hp, hcell⟩ := hs'.2 (lo.toNat * sz + i) (by omega)
  have hne : mx.toNat ≠ lo.toNat := by
    intro e
    have : hi.toNat - lo.toNat = 0 := by omega
    rw [this] at hi'; omega
  refine ⟨p.add (lo.toNat * sz), by simp [hne, hp], ?_⟩
  have : (p.add (lo.toNat * sz)).add i = p.add (lo.toNat * sz + i) := by
    unfold Addr.add
    by_cases e1 : lo.toNat * sz = 0 <;> by_cases e2 : i = 0 <;> simp [e1, e2, Nat.add_assoc]
  rw [this, hcell]
  simp
theorem LdS.sc {S : World → Prop} {s : Sc} {p : Addr} {K : s.T → Prop} (x : s.T) (hc : ∀ w, S w → w.cell? p = some (s.enc x)) (h : K x) : LdS (.sc s) p S K := ⟨x, hc, h⟩
/-- a block as a slice -/
theorem Slc.whole {b n : Nat} {hi mx : Int} {K : Sl → Prop} (hn : 0 < n) (h1 : hi = (n : Int)) (h2 : mx = (n : Int)) (h : K ⟨some ⟨b, 0, none⟩, n, n⟩) : Slc ⟨some ⟨b, 0, none⟩, n, n⟩ 0 hi mx 1 K := by
  subst h1; subst h2
  refine ⟨by omega, by omega, by omega, by simp, ?_⟩
  have e : (if ((n : Int)).toNat = (0 : Int).toNat then (some ⟨b, 0, none⟩ : Option Addr) else (some ⟨b, 0, none⟩ : Option Addr).map (·.add ((0 : Int).toNat * 1))) = some ⟨b, 0, none⟩ := by
    rw [if_neg (by simp; omega)]; simp [Addr.add]
  rw [e]
  simpa using h
end
section
variable {α : Type} {g : α → List Value} {sz : Nat} {l : List α}
theorem fm_len (hg : ∀ x, (g x).length = sz) (l : List α) : (l.flatMap g).length = l.length * sz := by
  induction l with
  | nil => simp
  | cons x l ih => rw [List.flatMap_cons, List.length_append, ih, hg, List.length_cons, Nat.succ_mul]; omega
theorem fm_drop (hg : ∀ x, (g x).length = sz) : ∀ (l : List α) (n : Nat), (l.flatMap g).drop (n * sz) = (l.drop n).flatMap g
  | l, 0 => by simp
  | [], n + 1 => by simp
  | x :: l, n + 1 => by
    rw [List.drop_succ_cons, List.flatMap_cons, Nat.succ_mul, Nat.add_comm, ← List.drop_drop, ← hg x, List.drop_left, hg x]
    exact fm_drop hg l n
theorem fm_take (hg : ∀ x, (g x).length = sz) : ∀ (l : List α) (n : Nat), (l.flatMap g).take (n * sz) = (l.take n).flatMap g
  | l, 0 => by simp
  | [], n + 1 => by simp
  | x :: l, n + 1 => by
    rw [List.take_succ_cons, List.flatMap_cons, List.flatMap_cons, Nat.succ_mul, Nat.add_comm, List.take_append, hg x, List.take_of_length_le (by rw [hg x]; omega), show sz + n * sz - sz = n * sz by omega, fm_take hg l n]
theorem fm_get (hg : ∀ x, (g x).length = sz) : ∀ (l : List α) (i j : Nat) (hi : i < l.length), j < sz → (l.flatMap g)[i * sz + j]? = (g l[i])[j]?
  | x :: l, 0, j, _, hj => by rw [List.flatMap_cons, List.getElem?_append_left (by rw [hg]; omega), Nat.zero_mul, Nat.zero_add]; rfl
  | x :: l, i + 1, j, hi, hj => by
    rw [List.flatMap_cons, List.getElem?_append_right (by rw [hg, Nat.succ_mul]; omega), hg, show (i + 1) * sz + j - sz = i * sz + j by rw [Nat.succ_mul]; omega, fm_get hg l i j (by simpa using hi) hj]
    rfl
end
section
variable {E w w' : World} {F G : List HP} {sz : Nat} {s : Sl} {α : Type} {g : α → List Value} {l : List α}
/-- an element is read -/
theorem Idx.el {i : Int} {n : Nat} {K : Addr → Prop} (hg : ∀ x, (g x).length = sz) (hz : 0 < sz) (hs : SlT sz s (l.flatMap g) w) (hn : i = (n : Int)) (hi : n < l.length) (h : ∀ p, (∀ j, j < sz → w.cell? (p.add j) = (g l[n])[j]?) → K p) : Idx s i sz K := by
  subst hn
  have hl := hs.1
  rw [fm_len hg] at hl
  have hle : l.length = s.len := Nat.eq_of_mul_eq_mul_right hz hl
  refine Idx.rdn hs hz (by omega) (by omega) fun p hp => h p fun j hj => ?_
  have e := fm_get hg l n j hi hj
  have hlt : n * sz + j < (l.flatMap g).length := by
    rw [fm_len hg]
    have : (n + 1) * sz ≤ l.length * sz := Nat.mul_le_mul_right _ hi
    rw [Nat.succ_mul] at this; omega
  rw [hp j (by rw [Int.toNat_natCast]; exact hlt) hj]
  simp only [Int.toNat_natCast]
  rw [← e, List.getElem?_eq_getElem hlt]
theorem Idx.elT {i : Int} {n : Nat} {K : Addr → Prop} (hg : ∀ x, (g x).length = sz) (hz : 0 < sz) (hh : Hp E w F) (hs : Tells F (SlT sz s (l.flatMap g))) (hn : i = (n : Int)) (hi : n < l.length) (h : ∀ p, (∀ j, j < sz → Tells F (fun w => w.cell? (p.add j) = (g l[n])[j]?)) → K p) : Idx s i sz K := by
  subst hn
  have hl := (hh.tells hs).1
  rw [fm_len hg] at hl
  have hle : l.length = s.len := Nat.eq_of_mul_eq_mul_right hz hl
  refine Idx.rdT hh hs hz (by omega) (by omega) fun p hp => h p fun j hj => (hp j hj).imp fun w hw => ?_
  rw [hw, Int.toNat_natCast, fm_get hg l n j hi hj]
theorem SlT.len (hg : ∀ x, (g x).length = sz) (hz : 0 < sz) (hs : SlT sz s (l.flatMap g) w) : s.len = l.length := by
  have hl := hs.1
  rw [fm_len hg] at hl
  exact (Nat.eq_of_mul_eq_mul_right hz hl).symm
/-- a part of a slice of elements -/
theorem Slc.el {lo hi mx : Int} {a b : Nat} {K : Sl → Prop} (hg : ∀ x, (g x).length = sz) (hl : s.len = l.length) (ha : lo = (a : Int)) (hb : hi = (b : Int)) (h1 : a ≤ b) (h2 : b ≤ l.length) (h3 : hi ≤ mx) (h4 : mx ≤ (s.cap : Int))
    (h : ∀ s' : Sl, (∀ w', SlT sz s (l.flatMap g) w' → SlT sz s' (((l.drop a).take (b - a)).flatMap g) w') → s'.len = b - a → s'.len ≤ s'.cap → K s') : Slc s lo hi mx sz K := by
  subst ha; subst hb
  refine Slc.rdn (xs := l.flatMap g) (by rw [fm_len hg, hl]) (by omega) (by omega) (by omega) h3 h4 fun s' hs' hl' hc' => h s' (fun w' hw' => ?_) (by simpa using hl') hc'
  have := hs' w' hw'
  simp only [Int.toNat_natCast] at this
  rw [fm_drop hg, fm_take hg] at this
  exact this
/-- the cells of a struct are read -/
theorem LdC_mk {S : World → Prop} {p : Addr} : ∀ {ks : List Sc} {i : Nat} {K : TT ks → Prop} (x : TT ks) (_ : ∀ w, S w → ∀ j (hj : j < (encs ks x).length), w.cell? (p.add (i + j)) = some (encs ks x)[j]) (_ : K x), LdC S p ks i K
  | [], _, _, _, _, h => h
  | k :: ks, i, K, (x, y), hc, h => ⟨x, fun w hw => by have := hc w hw 0 (by simp); simpa using this, LdC_mk (ks := ks) (i := i + 1) y (fun w hw j hj => by
      have := hc w hw (j + 1) (by simp; omega)
      simpa [Nat.add_assoc, Nat.add_comm 1 j] using this) h⟩
theorem Ld.st {ks : List Sc} {p : Addr} {K : TT ks → Prop} (x : TT ks) (hc : ∀ j, j < (encs ks x).length → w.cell? (p.add j) = (encs ks x)[j]?) (h : K x) : Ld (.st ks) p w K :=
  LdC_mk x (fun w' hw' j hj => by
    have hw' : w' = w := hw'
    subst hw'
    rw [Nat.zero_add, hc j hj, List.getElem?_eq_getElem hj]) h
/-- a struct in a block of its own is read -/
theorem Ld.stBlk {ks : List Sc} {b : Nat} {cs : Array Value} {t : TypeId} {fr : Nat × Nat} {K : TT ks → Prop} (hh : Hp E w (Blk b (.cells cs t fr) :: F)) (x : TT ks) (hc : cs = ⟨encs ks x⟩) (h : K x) : Ld (.st ks) ⟨b, 0, none⟩ w K := by
  subst hc
  refine Ld.st x (fun j hj => ?_) h
  rw [add_mk, hh.cell]; simp
/-- a struct is stored in a block of its own -/
theorem StC.go {b : Nat} {t : TypeId} {K : World → Prop} : ∀ (vs : List Value) (i : Nat) (w : World) (c : Array Value), Hp E w (Blk b (.cells c t (0, 0)) :: F) → i + vs.length = c.size → (∀ v ∈ vs, scalarB v = true) →
    (∀ c' w', c'.toList = c.toList.take i ++ vs → Hp E w' (Blk b (.cells c' t (0, 0)) :: F) → K w') → StC ⟨b, 0, none⟩ vs i w K
  | [], i, w, c, hh, hi, _, hK => hK c w (by rw [List.append_nil, List.take_of_length_le (by simp; simp at hi; omega)]) hh
  | v :: vs, i, w, c, hh, hi, hv, hK => by
    have h1 := hv v (by simp)
    simp only [List.length_cons] at hi
    unfold StC
    rw [h1]
    have h2 := hh.setCell (i := i) v
    refine ⟨?_, ?_, ?_⟩
    · rw [add_mk, hh.cell]; simp; omega
    · rw [add_mk]; simp [World.frozen?, hh.blk]
    · rw [add_mk, Nat.zero_add]
      refine StC.go vs (i + 1) _ _ h2 (by simp; omega) (fun x hx => hv x (List.mem_cons_of_mem _ hx)) fun c' w' e h3 => hK c' w' ?_ h3
      rw [e, Array.toList_setIfInBounds, List.take_add_one, List.take_set_of_le (by omega)]
      rw [List.getElem?_set_self (by simp; omega)]
      simp
theorem StC.blk {b : Nat} {c : Array Value} {t : TypeId} {vs : List Value} {K : World → Prop} (hh : Hp E w (Blk b (.cells c t (0, 0)) :: F)) (hi : vs.length = c.size) (hv : ∀ v ∈ vs, scalarB v = true)
    (hK : ∀ w', Hp E w' (Blk b (.cells ⟨vs⟩ t (0, 0)) :: F) → K w') : StC ⟨b, 0, none⟩ vs 0 w K :=
  StC.go vs 0 w c hh (by omega) hv fun c' w' e h => by
    have : c' = ⟨vs⟩ := by apply Array.ext'; simpa using e
    subst this
    exact hK w' h
/-- one element is appended -/
theorem app1 {P : Program} {t ty e e2 : TypeId} {bytes : Nat} {x : α} {cs : Array Value} {K : Sl → World → Prop} (he : ElemT P t e sz bytes) (hg : ∀ x, (g x).length = sz) (hz : 0 < sz) (hcs : cs = ⟨g x⟩) (hsc : ∀ y ∈ g x, scalarB y = true)
    (hh : Hp E w (OwnS sz s (l.flatMap g) :: F)) (hb : (2 * (l.length + 1) + 1024) * bytes ≤ 2 ^ 48) (hb2 : l.length + 1 < 2 ^ 62)
    (h : ∀ s' w', Hp E w' (OwnS sz s' ((l ++ [x]).flatMap g) :: F) → s'.len = l.length + 1 → K s' w') :
    Nw e2 cs w fun b w1 => Run P (Builtin.append_ #[t, t] ty ⟨[.slice s.base s.len s.cap, .slice (some ⟨b, 0, none⟩) 1 1]⟩) kS w1 K := by
  have hlen := SlT.len hg hz (hh.tells Tells.own)
  refine Nw.mk hh fun b w1 h1 => ?_
  refine run_append (ys := g x) (n := 1) he hz (.inl ⟨e, he.und⟩) h1.p1 (.inl ⟨_, _, _, rfl, rfl, h1.tells (Tells.blk (xs := g x) (by rw [hcs]) (by rw [hg]; simp))⟩) (by rw [hg]; simp) hsc (by rw [hlen]; exact hb) (by rw [hlen]; exact hb2) fun s' w2 h2 hs' => h s' w2 ?_ (by rw [hs', hlen])
  rw [List.flatMap_append, show [x].flatMap g = g x by simp]
  exact h2.p1.drop
/-- the elements of a slice are appended -/
theorem appN {P : Program} {t ty e : TypeId} {bytes : Nat} {s2 : Sl} {ys : List α} {K : Sl → World → Prop} (he : ElemT P t e sz bytes) (hg : ∀ x, (g x).length = sz) (hz : 0 < sz) (hsc : ∀ x, ∀ y ∈ g x, scalarB y = true)
    (hh : Hp E w (OwnS sz s (l.flatMap g) :: F)) (hs : SlT sz s2 (ys.flatMap g) w) (hb : (2 * (l.length + ys.length) + 1024) * bytes ≤ 2 ^ 48) (hb2 : l.length + ys.length < 2 ^ 62)
    (h : ∀ s' w', Hp E w' (OwnS sz s' ((l ++ ys).flatMap g) :: F) → s'.len = l.length + ys.length → K s' w') :
    Run P (Builtin.append_ #[t, t] ty ⟨[.slice s.base s.len s.cap, .slice s2.base s2.len s2.cap]⟩) kS w K := by
  have hlen := SlT.len hg hz (hh.tells Tells.own)
  have hlen2 := SlT.len hg hz hs
  refine run_append (ys := ys.flatMap g) (n := ys.length) he hz (.inl ⟨e, he.und⟩) hh (.inl ⟨_, _, _, rfl, hlen2.symm, hs⟩) (fm_len hg ys) (fun y hy => ?_) (by rw [hlen]; exact hb) (by rw [hlen]; exact hb2) fun s' w2 h2 hs' => h s' w2 ?_ (by rw [hs', hlen])
  · obtain ⟨x, _, hx⟩ := List.mem_flatMap.1 hy
    exact hsc x y hx
  · rw [List.flatMap_append]; exact h2
end
end Go.Vc
