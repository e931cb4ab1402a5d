/-
  Elements of several cells in slices of the code's own are written. Conditions: none; every theorem here is about any program.
-/
import Derived.Test.YtbldlpljfppmgaaMore
namespace Go.Vc
open Go
def setRun (xs : List Value) : Nat → List Value → List Value
  | _, [] => xs
  | a, v :: vs => setRun (xs.set a v) (a + 1) vs
theorem setRun_len : ∀ (vs xs : List Value) (a : Nat), (setRun xs a vs).length = xs.length
  | [], _, _ => rfl
  | v :: vs, xs, a => by rw [setRun, setRun_len vs, List.length_set]
theorem setRun_get : ∀ (vs xs : List Value) (a i : Nat), a + vs.length ≤ xs.length → (setRun xs a vs)[i]? = if a ≤ i ∧ i < a + vs.length then vs[i - a]? else xs[i]?
  | [], xs, a, i, _ => by rw [setRun, if_neg (by simp)]
  | v :: vs, xs, a, i, h => by
    simp only [List.length_cons] at h
    rw [setRun, setRun_get vs _ _ _ (by rw [List.length_set]; omega), List.length_cons, List.getElem?_set]
    by_cases h1 : a = i
    · subst h1
      rw [if_neg (by omega), if_pos rfl, if_pos (by omega), if_pos (by omega), Nat.sub_self]
      rfl
    · by_cases h2 : a + 1 ≤ i ∧ i < a + 1 + vs.length
      · rw [if_pos h2, if_pos (by omega)]
        obtain ⟨d, rfl⟩ : ∃ d, i = a + 1 + d := ⟨i - (a + 1), by omega⟩
        rw [show a + 1 + d - (a + 1) = d by omega, show a + 1 + d - a = d + 1 by omega, List.getElem?_cons_succ]
      · rw [if_neg h2, if_neg h1, if_neg (by omega)]
section
variable {α : Type} {g : α → List Value} {sz : Nat}
theorem fm_set (hg : ∀ x, (g x).length = sz) {l : List α} {j k : Nat} {v : Value} {x : α} (hj : j < l.length) (hk : k < sz) (hx : g x = (g l[j]).set k v) : (l.flatMap g).set (j * sz + k) v = (l.set j x).flatMap g := by
  have h0 : 0 < sz := by omega
  have hm : (j + 1) * sz ≤ l.length * sz := Nat.mul_le_mul_right _ hj
  rw [Nat.succ_mul] at hm
  apply List.ext_getElem?
  intro i
  have hfl := fm_len hg l
  have hfl2 := fm_len hg (l.set j x)
  rw [List.length_set] at hfl2
  by_cases hi : i < l.length * sz
  · obtain ⟨q, hq⟩ : ∃ q, i / sz = q := ⟨_, rfl⟩
    obtain ⟨r, hr⟩ : ∃ r, i % sz = r := ⟨_, rfl⟩
    have hdi : q < l.length := by rw [← hq, Nat.div_lt_iff_lt_mul h0]; exact hi
    have hmi : q * sz + r = i := by rw [← hq, ← hr]; exact Nat.div_add_mod' i sz
    have hlt : r < sz := by rw [← hr]; exact Nat.mod_lt _ h0
    clear hq hr
    subst hmi
    have e1 := fm_get hg l q r hdi hlt
    have e2 := fm_get hg (l.set j x) q r (by rw [List.length_set]; exact hdi) hlt
    have hd : ∀ a b : Nat, b < sz → (a * sz + b) / sz = a := fun a b hb => by rw [Nat.mul_comm, Nat.mul_add_div h0, Nat.div_eq_of_lt hb, Nat.add_zero]
    have hmd : ∀ a b : Nat, b < sz → (a * sz + b) % sz = b := fun a b hb => by rw [Nat.mul_comm, Nat.mul_add_mod, Nat.mod_eq_of_lt hb]
    rw [e2, List.getElem?_set, e1, List.getElem_set]
    by_cases hji : j = q
    · subst hji
      rw [if_pos rfl, hx, List.getElem?_set, hg]
      by_cases hki : k = r
      · subst hki
        rw [if_pos rfl, if_pos (by rw [hfl]; omega), if_pos rfl, if_pos hk]
      · rw [if_neg (by omega), if_neg hki]
    · rw [if_neg hji, if_neg (fun e => hji ((hd j k hk).symm.trans ((congrArg (fun y => y / sz) e).trans (hd q r hlt))))]
  · rw [List.getElem?_eq_none (by rw [List.length_set, hfl]; omega), List.getElem?_eq_none (by rw [hfl2]; omega)]
theorem fm_setAll (hg : ∀ x, (g x).length = sz) {l : List α} {j : Nat} {x : α} (h0 : 0 < sz) (hj : j < l.length) : setRun (l.flatMap g) (j * sz) (g x) = (l.set j x).flatMap g := by
  have hm : (j + 1) * sz ≤ l.length * sz := Nat.mul_le_mul_right _ hj
  rw [Nat.succ_mul] at hm
  have hfl := fm_len hg l
  have hfl2 := fm_len hg (l.set j x)
  rw [List.length_set] at hfl2
  apply List.ext_getElem?
  intro i
  rw [setRun_get _ _ _ _ (by rw [hg, hfl]; exact hm), hg]
  by_cases hi : i < l.length * sz
  · have hdi : i / sz < l.length := by rw [Nat.div_lt_iff_lt_mul h0]; exact hi
    have hmi : i / sz * sz + i % sz = i := Nat.div_add_mod' i sz
    have hlt := Nat.mod_lt i h0
    have e1 := fm_get hg l (i / sz) (i % sz) hdi hlt
    have e2 := fm_get hg (l.set j x) (i / sz) (i % sz) (by rw [List.length_set]; exact hdi) hlt
    rw [hmi] at e1 e2
    rw [e2, e1, List.getElem_set]
    by_cases hji : j = i / sz
    · rw [if_pos hji, if_pos (by rw [hji]; omega), show i - j * sz = i % sz by rw [hji]; omega]
    · rw [if_neg hji, if_neg]
      rintro ⟨h1, h2⟩
      apply hji
      obtain ⟨d, rfl⟩ : ∃ d, i = j * sz + d := ⟨i - j * sz, by omega⟩
      rw [Nat.mul_comm, Nat.mul_add_div h0, Nat.div_eq_of_lt (by omega), Nat.add_zero]
  · rw [if_neg (by omega), List.getElem?_eq_none (by rw [hfl]; omega), List.getElem?_eq_none (by rw [hfl2]; omega)]
end
section
variable {E w : World} {F : List HP} {α : Type} {g : α → List Value} {sz : Nat} {s : Sl}
theorem St.ownAt {xs : List Value} {i j : Nat} {v : Value} {p : Addr} {K : World → Prop} (hh : Hp E w (OwnS sz s xs :: F)) (hp : s.base = some p) (hi : i < s.len) (hj : j < sz) (hv : scalarB v = true) (h : ∀ w', Hp E w' (OwnS sz s (xs.set (i * sz + j) v) :: F) → K w') : St ((p.add (i * sz)).add j) v w K := by
  obtain ⟨p', h1, _, _, h4⟩ := St.ownN (i := (i : Int)) (K := K) hh hj (by omega) (by omega) hv (by rw [Int.toNat_natCast]; exact h)
  rw [hp] at h1
  obtain rfl := Option.some.inj h1
  rw [Int.toNat_natCast] at h4
  exact h4
theorem StC.ownAt {i : Nat} {p : Addr} (hp : s.base = some p) (hi : i < s.len) : ∀ (vs : List Value) (k : Nat) {w : World} {xs : List Value} {K : World → Prop}, Hp E w (OwnS sz s xs :: F) → k + vs.length ≤ sz → (∀ v ∈ vs, scalarB v = true) →
    (∀ w', Hp E w' (OwnS sz s (setRun xs (i * sz + k) vs) :: F) → K w') → StC (p.add (i * sz)) vs k w K
  | [], _, w, _, _, hh, _, _, h => h w hh
  | v :: vs, k, w, xs, K, hh, hk, hv, h => by
    simp only [List.length_cons] at hk
    refine St.ownAt (K := fun w' => StC (p.add (i * sz)) vs (k + 1) w' K) hh hp hi (by omega) (hv v (by simp)) fun w' h' => ?_
    exact StC.ownAt hp hi vs (k + 1) h' (by omega) (fun x hx => hv x (List.mem_cons_of_mem _ hx)) fun w'' h'' => h w'' (by rw [setRun]; exact h'')
/-- a whole element is written -/
theorem Idx.setEl {l : List α} {i : Int} {j : Nat} {x : α} {K : World → Prop} (hg : ∀ x, (g x).length = sz) (h0 : 0 < sz) (hh : Hp E w (OwnS sz s (l.flatMap g) :: F)) (hi : i = (j : Int)) (hj : j < l.length) (hv : ∀ v ∈ g x, scalarB v = true)
    (h : ∀ w', Hp E w' (OwnS sz s ((l.set j x).flatMap g) :: F) → K w') : Idx s i sz fun q => StC q (g x) 0 w K := by
  subst hi
  have hlen := SlT.len hg h0 (hh.tells Tells.own)
  rcases hh.ownOpen with ⟨rfl, h1, _⟩ | ⟨b, off, arr, t, e1, _, _, _, _⟩
  · have : l.length = 0 := by simpa using hlen.symm
    omega
  · refine ⟨_, e1, by omega, by omega, ?_⟩
    rw [Int.toNat_natCast]
    exact StC.ownAt e1 (by omega) (g x) 0 hh (by rw [hg]; omega) hv fun w' h' => h w' (by rw [Nat.add_zero, fm_setAll hg h0 hj] at h'; exact h')
/-- a cell of an element is written -/
theorem Idx.setCell {l : List α} {i : Int} {j k : Nat} {v : Value} {x : α} {K : World → Prop} (hg : ∀ x, (g x).length = sz) (h0 : k < sz) (hh : Hp E w (OwnS sz s (l.flatMap g) :: F)) (hi : i = (j : Int)) (hj : j < l.length) (hv : scalarB v = true) (hx : g x = (g l[j]).set k v)
    (h : ∀ w', Hp E w' (OwnS sz s ((l.set j x).flatMap g) :: F) → K w') : Idx s i sz fun q => St (q.add k) v w K := by
  subst hi
  have hlen := SlT.len hg (by omega) (hh.tells Tells.own)
  refine St.ownN hh h0 (by omega) (by omega) hv fun w' h' => h w' ?_
  rw [Int.toNat_natCast, fm_set hg hj h0 hx] at h'
  exact h'
end
end Go.Vc
