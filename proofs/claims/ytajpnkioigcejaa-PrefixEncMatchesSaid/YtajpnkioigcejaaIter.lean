/-
  Ranges over functions in the heap logic: what an iterator promises of its rounds, and the rule for the statement. Conditions: none; every theorem here is about any program.
-/
import Derived.Test.YtajpnkioigcejaaRng
import Derived.Test.YtajpnkioigcejaaLib
namespace Go.Vc
open Go
section
variable {E w : World} {F A : List HP}
theorem Hp.put {b : Nat} {o : Obj} (h : Hp E w (Blk b o :: F)) (o' : Obj) : Hp E (w.putObj b o') (Blk b o' :: F) := h.setObj rfl rfl rfl rfl
/-- what never holds: the state of a round that returned, where none does -/
def Nope : HP := fun _ => False
theorem Hp.nope {B : HP} (h : Hp E w (B :: Nope :: F)) : False := by
  obtain ⟨f, _, g, k, _, _, _, g2, k2, _, _, h2, _⟩ := h.frag
  exact h2
/-- the call of yield with the item number i: the state C i turns to C (i + 1), or to G i where the round returned -/
def YieldOk (P : Program) (E : World) (yv : Value) (n : Nat) (vs : Nat → List Value) (C G : Nat → List HP) : Prop :=
  ∀ i, i < n → ∀ (A : List HP) (w : World) (K : Bool → World → Prop), Hp E w (C i ++ A) → (∀ w', Hp E w' (C (i + 1) ++ A) → K true w') → (∀ w', Hp E w' (G i ++ A) → K false w') → ClY P yv [kB] (vs i) w K
/-- v yields the items of vs, n of them, over A -/
def Iter (P : Program) (E : World) (v : Value) (n : Nat) (vs : Nat → List Value) (A : List HP) : Prop :=
  ∀ (yv : Value) (C G : Nat → List HP) (w : World) (K : World → Prop), YieldOk P E yv n vs C G → Hp E w (C 0 ++ A) → (∀ w', Hp E w' (C n ++ A) → K w') → (∀ i w', i < n → Hp E w' (G i ++ A) → K w') → ClV P v [] [yv] w K
theorem Rng.gen {P : Program} {v : Value} {ks : List Ki} {B : Nat → (Nat → Obj) → FnK ks (World → (World → Prop) → (World → Prop) → Prop)} {K Kr : Nat → World → Prop} {n : Nat} {vs : Nat → List Value} (C G : Nat → List HP)
    (hh : Hp E w (C 0 ++ A)) (hit : Iter P E v n vs A)
    (hbody : ∀ l rec (T : List Value → (World → (World → Prop) → (World → Prop) → Prop) → Prop), AllB ks (B l rec) T → ∀ i, i < n → ∃ b, T (vs i) b ∧ ∀ (A : List HP) (w : World) (Kt Kf : World → Prop), Hp E w (Blk l (rec 0) :: (C i ++ A)) →
      (∀ w', Hp E w' (Blk l (rec 0) :: (C (i + 1) ++ A)) → Kt w') → (∀ w', Hp E w' (Blk l (rec 2) :: (G i ++ A)) → Kf w') → b w Kt Kf)
    (hK : ∀ D w', Hp E w' (Blk D (.deferred (some [])) :: (C n ++ A)) → K D w') (hKr : ∀ i D w', i < n → Hp E w' (Blk D (.deferred (some [])) :: (G i ++ A)) → Kr D w') : Rng P v ks w B K Kr := by
  intro rec yv hy
  have h1 := hh.alloc (.deferred (some []))
  have h2 := h1.alloc (rec 0)
  have hs : (w.alloc (.deferred (some []))).heap.size = w.heap.size + 1 := by show (w.heap.push _).size = _; simp
  rw [hs] at h2
  refine hit yv (fun i => Blk (w.heap.size + 1) (rec 0) :: Blk w.heap.size (.deferred (some [])) :: C i) (fun i => Blk (w.heap.size + 1) (rec 2) :: Blk w.heap.size (.deferred (some [])) :: G i) _ _ ?_ h2 ?_ ?_
  · intro i hi A w2 R h hKt hKf
    obtain ⟨b, hb, h3⟩ := hbody (w.heap.size + 1) rec _ (hy R w2) i hi
    refine hb h.blk (h3 (Blk w.heap.size (.deferred (some [])) :: A) w2 _ _ (h.perm (.cons _ List.perm_middle.symm)) (fun w' h' => hKt w' (h'.perm (.cons _ List.perm_middle))) (fun w' h' => hKf w' (h'.perm (.cons _ List.perm_middle))))
  · intro w' h
    have h : Hp E w' (Blk (w.heap.size + 1) (rec 0) :: Blk w.heap.size (.deferred (some [])) :: (C n ++ A)) := h
    exact .inl ⟨h.blk, hK _ _ (h.put (rec 3)).drop⟩
  · intro i w' hi h
    have h : Hp E w' (Blk (w.heap.size + 1) (rec 2) :: Blk w.heap.size (.deferred (some [])) :: (G i ++ A)) := h
    exact .inr ⟨h.blk, hKr i _ _ hi (h.put (rec 4)).drop⟩
/-- a range of one value, over a function whose rounds all go to their ends or return -/
theorem Rng.mk1 {P : Program} {v : Value} {k : Ki} {B : Nat → (Nat → Obj) → k.T → World → (World → Prop) → (World → Prop) → Prop} {K Kr : Nat → World → Prop} {n : Nat} {x : Nat → k.T} (C G : Nat → List HP)
    (hh : Hp E w (C 0 ++ A)) (hit : Iter P E v n (fun i => [k.enc (x i)]) A)
    (hbody : ∀ l rec i (A : List HP) (w : World) (Kt Kf : World → Prop), i < n → Hp E w (Blk l (rec 0) :: (C i ++ A)) →
      (∀ w', Hp E w' (Blk l (rec 0) :: (C (i + 1) ++ A)) → Kt w') → (∀ w', Hp E w' (Blk l (rec 2) :: (G i ++ A)) → Kf w') → B l rec (x i) w Kt Kf)
    (hK : ∀ D w', Hp E w' (Blk D (.deferred (some [])) :: (C n ++ A)) → K D w') (hKr : ∀ i D w', i < n → Hp E w' (Blk D (.deferred (some [])) :: (G i ++ A)) → Kr D w') : Rng P v [k] w B K Kr :=
  Rng.gen (ks := [k]) C G hh hit (fun l rec _ hT i hi => ⟨_, hT (x i), fun A w Kt Kf => hbody l rec i A w Kt Kf hi⟩) hK hKr
theorem Rng.mk2 {P : Program} {v : Value} {k k' : Ki} {B : Nat → (Nat → Obj) → k.T → k'.T → World → (World → Prop) → (World → Prop) → Prop} {K Kr : Nat → World → Prop} {n : Nat} {x : Nat → k.T} {y : Nat → k'.T} (C G : Nat → List HP)
    (hh : Hp E w (C 0 ++ A)) (hit : Iter P E v n (fun i => [k.enc (x i), k'.enc (y i)]) A)
    (hbody : ∀ l rec i (A : List HP) (w : World) (Kt Kf : World → Prop), i < n → Hp E w (Blk l (rec 0) :: (C i ++ A)) →
      (∀ w', Hp E w' (Blk l (rec 0) :: (C (i + 1) ++ A)) → Kt w') → (∀ w', Hp E w' (Blk l (rec 2) :: (G i ++ A)) → Kf w') → B l rec (x i) (y i) w Kt Kf)
    (hK : ∀ D w', Hp E w' (Blk D (.deferred (some [])) :: (C n ++ A)) → K D w') (hKr : ∀ i D w', i < n → Hp E w' (Blk D (.deferred (some [])) :: (G i ++ A)) → Kr D w') : Rng P v [k, k'] w B K Kr :=
  Rng.gen (ks := [k, k']) C G hh hit (fun l rec _ hT i hi => ⟨_, hT (x i) (y i), fun A w Kt Kf => hbody l rec i A w Kt Kf hi⟩) hK hKr
theorem Beg.mk {l : Nat} {rec : Nat → Obj} {K : World → Prop} (h : Hp E w (Blk l (rec 0) :: F)) (hK : ∀ w', Hp E w' (Blk l (rec 1) :: F) → K w') : Beg l rec w K := ⟨h.blk, hK _ (h.put _)⟩
theorem EndT.mk {l : Nat} {rec : Nat → Obj} {K : World → Prop} (h : Hp E w (Blk l (rec 1) :: F)) (hK : ∀ w', Hp E w' (Blk l (rec 0) :: F) → K w') : EndT l rec w K := ⟨h.blk, hK _ (h.put _)⟩
theorem EndF.mk {l : Nat} {rec : Nat → Obj} {K : World → Prop} (h : Hp E w (Blk l (rec 1) :: F)) (hK : ∀ w', Hp E w' (Blk l (rec 2) :: F) → K w') : EndF l rec w K := ⟨h.blk, hK _ (h.put _)⟩
theorem Dfr.mk1 {D : Nat} {K : World → Prop} (h : Hp E w (Blk D (.deferred (some [])) :: F)) (hK : ∀ w', Hp E w' F → K w') : Dfr [D] w K := ⟨h.blk, hK _ (h.put _).drop⟩
theorem Dfr.mk : ∀ {ms : List Nat} {w : World} {K : World → Prop}, Hp E w (ms.map (fun D => Blk D (.deferred (some []))) ++ F) → (∀ w', Hp E w' F → K w') → Dfr ms w K
  | [], _, _, h, hK => hK _ h
  | D :: ms, w, K, h, hK => by
    have h : Hp E w (Blk D (.deferred (some [])) :: (ms.map (fun D => Blk D (.deferred (some []))) ++ F)) := h
    exact ⟨h.blk, Dfr.mk (ms := ms) (h.put _).drop hK⟩
end
end Go.Vc
