/-
  Arrays of signed numbers in blocks. Conditions: none; every theorem here is about any program.
-/
import Derived.Test.YtbldlpljfppmgaaHeld
namespace Go.Vc
open Go
/-- an array of numbers -/
def aT (t : List Int) : Array Value := ⟨t.map vI⟩
/-- numbers as they are -/
def zl (l : List Nat) : List Int := l.map fun (x : Nat) => (x : Int)
theorem zl_len (l : List Nat) : (zl l).length = l.length := List.length_map ..
theorem zl_app (a b : List Nat) : zl (a ++ b) = zl a ++ zl b := List.map_append
theorem zl_inj {u v : List Nat} (h : zl u = zl v) : u = v := (List.map_inj_right (fun x y h => by have h : (x : Int) = (y : Int) := h; omega)).1 h
theorem aT_size {t : List Int} : (aT t).size = t.length := by simp [aT]
theorem aT_get {t : List Int} {i : Nat} (h : i < t.length) : (aT t)[i]? = some (Sc.enc (.int .i64) (t.getD i 0)) := by simp [aT, h, vI, List.getD]
theorem aT_scalar {t : List Int} : ∀ v ∈ (aT t).toList, scalarB v = true := by
  intro v hv
  simp only [aT, List.mem_map] at hv
  obtain ⟨x, _, rfl⟩ := hv
  rfl
theorem aT_set {t : List Int} {i : Nat} {x : Int} : (aT t).setIfInBounds i (.int .i64 x) = aT (t.set i x) := by
  unfold aT
  apply Array.ext'
  simp [List.map_set, vI]
theorem aT_zero {n : Nat} : (⟨List.replicate n (.int .i64 0)⟩ : Array Value) = aT (List.replicate n 0) := by unfold aT; simp [vI]
theorem EqA.aT {n : Nat} {a b : List Int} {K : Bool → Prop} (ha : a.length = n) (hb : b.length = n) (h : K (a == b)) : EqA .i64 n (aT a) (aT b) K := ⟨a, b, rfl, rfl, ha, hb, h⟩
theorem getD_set {l : List Int} {i j : Nat} {x : Int} (hi : i < l.length) : (l.set i x).getD j 0 = if j = i then x else l.getD j 0 := by
  simp only [List.getD, List.getElem?_set]
  by_cases h : i = j
  · subst h; simp [hi]
  · rw [if_neg h, if_neg (fun e => h e.symm)]
section
variable {E w : World} {F : List HP}
/-- an element of an array in a block is read -/
theorem IdxP.aT {b n : Nat} {t : List Int} {ty : TypeId} {fr : Nat × Nat} {i : Int} {j : Nat} {K : Int → Prop} (h : Hp E w (Blk b (.cells (Vc.aT t) ty fr) :: F)) (hi : i = (j : Int)) (hn : t.length = n) (hj : j < n) (hK : K (t.getD j 0)) : IdxP ⟨b, 0, none⟩ n i 1 fun q => Ld kI q w K := by
  subst hi
  exact IdxP.rd (s := .int .i64) h (by omega) (by omega) _ (by rw [Int.toNat_natCast]; exact aT_get (by omega)) hK
theorem IdxP.aTS {S : World → Prop} {b n : Nat} {t : List Int} {ty : TypeId} {fr : Nat × Nat} {i : Int} {j : Nat} {K : Int → Prop} (hS : ∀ w, S w → ∃ G, Hp E w (Blk b (.cells (Vc.aT t) ty fr) :: G)) (hi : i = (j : Int)) (hn : t.length = n) (hj : j < n) (hK : K (t.getD j 0)) : IdxP ⟨b, 0, none⟩ n i 1 fun q => LdS kI q S K := by
  subst hi
  refine ⟨by omega, by omega, ?_⟩
  rw [add_mk]
  exact LdS.blk (s := .int .i64) hS _ (by rw [Int.toNat_natCast, Nat.mul_one, Nat.zero_add]; exact aT_get (by omega)) hK
/-- an element of an array in a block is written -/
theorem IdxP.aTset {b n : Nat} {t : List Int} {ty : TypeId} {i : Int} {j : Nat} {v : Int} {K : World → Prop} (h : Hp E w (Blk b (.cells (Vc.aT t) ty (0, 0)) :: F)) (hi : i = (j : Int)) (hn : t.length = n) (hj : j < n)
    (hK : ∀ w', Hp E w' (Blk b (.cells (Vc.aT (t.set j v)) ty (0, 0)) :: F) → K w') : IdxP ⟨b, 0, none⟩ n i 1 fun q => St q (.int .i64 v) w K := by
  subst hi
  exact IdxP.wr h (by omega) (by omega) (by rw [aT_size, hn]) rfl (by rw [Int.toNat_natCast, aT_set]; exact hK)
theorem IdxV.aT {n : Nat} {t : List Int} {i : Int} {j : Nat} {K : Int → Prop} (hi : i = (j : Int)) (hn : t.length = n) (hj : j < n) (hK : K (t.getD j 0)) : IdxV (.int .i64) (Vc.aT t) n i K := by
  subst hi
  exact IdxV.rd (s := .int .i64) (by omega) (by omega) _ (by rw [Int.toNat_natCast]; exact aT_get (by omega)) hK
/-- an element of a slice of numbers is read -/
theorem Idx.nI {s : Sl} {zs : List Int} {i : Int} {j : Nat} {K : Int → Prop} (hs : SlT 1 s (zs.map vI) w) (hi : i = (j : Int)) (hj : j < zs.length) (hK : K (zs.getD j 0)) : Idx s i 1 fun q => Ld kI q w K := by
  subst hi
  have hl := hs.1
  simp only [List.length_map, Nat.mul_one] at hl
  refine Idx.rd hs (by omega) (by omega) fun p hp hc => Ld.sc (s := .int .i64) _ ?_ hK
  rw [hc]
  simp [vI, List.getD, hj]
/-- a byte of a slice is read -/
theorem Idx.nB {s : Sl} {bs : List Nat} {i : Int} {j : Nat} {K : Int → Prop} (hs : SlT 1 s (bs.map vB) w) (hi : i = (j : Int)) (hj : j < bs.length) (hK : K (bs.getD j 0 : Int)) : Idx s i 1 fun q => Ld (kInt .u8) q w K := by
  subst hi
  have hl := hs.1
  simp only [List.length_map, Nat.mul_one] at hl
  refine Idx.rd hs (by omega) (by omega) fun p hp hc => Ld.sc (s := .int .u8) (bs.getD j 0 : Int) ?_ hK
  rw [hc]
  simp [vB, List.getD, hj]
/-- a number of a slice of the code's own is written -/
theorem Idx.setI {s : Sl} {zs : List Int} {i : Int} {j : Nat} {x : Int} {K : World → Prop} (hh : Hp E w (OwnS 1 s (zs.map vI) :: F)) (hi : i = (j : Int)) (hj : j < zs.length) (h : ∀ w', Hp E w' (OwnS 1 s ((zs.set j x).map vI) :: F) → K w') : Idx s i 1 fun q => St q (.int .i64 x) w K := by
  subst hi
  have hl := hh.ownLen
  rw [List.length_map, Nat.mul_one] at hl
  refine St.own hh (by omega) (by omega) rfl fun w' h' => h w' ?_
  rw [Int.toNat_natCast] at h'
  rw [List.map_set]
  exact h'
/-- a byte of a slice of the code's own is written -/
theorem Idx.setB {s : Sl} {bs : List Nat} {i : Int} {j x : Nat} {K : World → Prop} (hh : Hp E w (OwnS 1 s (bs.map vB) :: F)) (hi : i = (j : Int)) (hj : j < bs.length) (h : ∀ w', Hp E w' (OwnS 1 s ((bs.set j x).map vB) :: F) → K w') : Idx s i 1 fun q => St q (.int .u8 (x : Int)) w K := by
  subst hi
  have hl := hh.ownLen
  rw [List.length_map, Nat.mul_one] at hl
  refine St.own hh (by omega) (by omega) rfl fun w' h' => h w' ?_
  rw [Int.toNat_natCast] at h'
  rw [List.map_set]
  exact h'
/-- a number is appended to a slice of the code's own -/
theorem app_n {P : Program} {t ty e e2 : TypeId} {s : Sl} {zs : List Int} {x : Int} {cs : Array Value} {K : Sl → World → Prop} (he : ElemT P t e 1 8) (hcs : cs = ⟨[vI x]⟩) (hh : Hp E w (OwnS 1 s (zs.map vI) :: F)) (hb : zs.length ≤ big)
    (h : ∀ s' w', Hp E w' (OwnS 1 s' ((zs ++ [x]).map vI) :: F) → s'.len = zs.length + 1 → K s' w') :
    Nw e2 cs w fun b w1 => Run P (Builtin.append_ #[t, t] ty ⟨[.slice s.base s.len s.cap, .slice (some ⟨b, 0, none⟩) 1 1]⟩) kS w1 K := by
  have hl := hh.ownLen
  rw [List.length_map, Nat.mul_one] at hl
  rw [big_eq] at hb
  refine Nw.mk hh fun b w1 h1 => run_append (ys := [vI x]) (n := 1) he (by decide) (.inl ⟨e, he.und⟩) h1.p1 (.inl ⟨some ⟨b, 0, none⟩, 1, 1, rfl, rfl, h1.tells (Tells.blk (by rw [hcs]) rfl)⟩) rfl (fun y hy => by
    rw [List.mem_singleton] at hy; subst hy; rfl) (by omega) (by omega) fun s' w2 h2 hs' => h s' w2 ?_ (by omega)
  rw [List.map_append]
  exact h2.p1.drop
end
end Go.Vc
