/-
  A small heap logic over worlds: lists of assertions that own disjoint blocks, and how operations act on them. Conditions: none; every theorem here is about any program.
-/
import Derived.Test.YtbldlpljfppmgaaVc
namespace Go.Vc
open Go

abbrev Frag := Nat → Option Obj
abbrev HP := Frag → Prop
def Frag.emp : Frag := fun _ => none
def Frag.one (b : Nat) (o : Obj) : Frag := fun r => if r = b then some o else none
def Frag.add (f g : Frag) : Frag := fun r => match f r with | some o => some o | none => g r
def Apart (f g : Frag) : Prop := ∀ r, f r = none ∨ g r = none
def Blk (b : Nat) (o : Obj) : HP := fun f => f = Frag.one b o
def Sat : List HP → HP
  | [], f => f = Frag.emp
  | A :: l, f => ∃ g h, Apart g h ∧ f = g.add h ∧ A g ∧ Sat l h
def SubW (f : Frag) (w : World) : Prop := ∀ r o, f r = some o → w.heap[r]? = some o
/-- the world holds these assertions, apart from each other; its streams are those of E -/
structure Hp (E : World) (w : World) (l : List HP) : Prop where
  os : w.os = E.os
  output : w.output = E.output
  tape : w.tape = E.tape
  frag : ∃ f, SubW f w ∧ Sat l f

theorem Apart.comm {f g : Frag} (h : Apart f g) : Apart g f := fun r => (h r).symm
theorem Frag.add_comm {f g : Frag} (h : Apart f g) : f.add g = g.add f := by
  funext r
  unfold Frag.add
  rcases h r with h | h
  · rw [h]; cases g r <;> rfl
  · rw [h]; cases f r <;> rfl
theorem Frag.add_assoc (f g h : Frag) : (f.add g).add h = f.add (g.add h) := by
  funext r
  unfold Frag.add
  cases f r <;> rfl
theorem Frag.add_emp (f : Frag) : f.add Frag.emp = f := by
  funext r; unfold Frag.add Frag.emp; cases f r <;> rfl
theorem Frag.emp_add (f : Frag) : Frag.emp.add f = f := by
  funext r; rfl
theorem apart_add {f g h : Frag} : Apart f (g.add h) ↔ Apart f g ∧ Apart f h := by
  constructor
  · intro H
    refine ⟨fun r => ?_, fun r => ?_⟩
    · rcases H r with h1 | h1
      · exact .inl h1
      · right; unfold Frag.add at h1; cases hg : g r <;> simp_all
    · rcases H r with h1 | h1
      · exact .inl h1
      · right; unfold Frag.add at h1; cases hg : g r <;> simp_all
  · rintro ⟨h1, h2⟩ r
    rcases h1 r with h | h
    · exact .inl h
    · rcases h2 r with h' | h'
      · exact .inl h'
      · right; simp [Frag.add, h, h']
theorem add_apart {f g h : Frag} : Apart (f.add g) h ↔ Apart f h ∧ Apart g h :=
  ⟨fun H => let ⟨a, b⟩ := apart_add.1 H.comm; ⟨a.comm, b.comm⟩, fun ⟨a, b⟩ => (apart_add.2 ⟨a.comm, b.comm⟩).comm⟩
theorem Sat.swap {A B : HP} {l : List HP} {f : Frag} (h : Sat (A :: B :: l) f) : Sat (B :: A :: l) f := by
  obtain ⟨g, h1, hd, rfl, hA, g2, h2, hd2, rfl, hB, hl⟩ := h
  obtain ⟨d1, d2⟩ := apart_add.1 hd
  refine ⟨g2, g.add h2, apart_add.2 ⟨d1.comm, hd2⟩, ?_, hB, g, h2, d2, rfl, hA, hl⟩
  rw [← Frag.add_assoc, ← Frag.add_assoc, Frag.add_comm d1]
theorem Sat.tail {A : HP} {l l' : List HP} (h : ∀ f, Sat l f → Sat l' f) {f : Frag} (hs : Sat (A :: l) f) : Sat (A :: l') f := by
  obtain ⟨g, k, hd, rfl, hA, hl⟩ := hs
  exact ⟨g, k, hd, rfl, hA, h _ hl⟩
theorem Sat.perm {l l' : List HP} (hp : l.Perm l') : ∀ f, Sat l f → Sat l' f := by
  induction hp with
  | nil => exact fun _ h => h
  | cons A _ ih => exact fun f h => h.tail ih
  | swap A B l => exact fun f h => h.swap
  | trans _ _ ih1 ih2 => exact fun f h => ih2 f (ih1 f h)
theorem Sat.append {l l' : List HP} {f : Frag} : Sat (l ++ l') f ↔ ∃ g h, Apart g h ∧ f = g.add h ∧ Sat l g ∧ Sat l' h := by
  induction l generalizing f with
  | nil => exact ⟨fun h => ⟨Frag.emp, f, fun _ => .inl rfl, (Frag.emp_add f).symm, rfl, h⟩, fun ⟨g, h, _, e, hg, hh⟩ => by
      have : g = Frag.emp := hg
      rw [e, this, Frag.emp_add]; exact hh⟩
  | cons A l ih =>
    constructor
    · rintro ⟨g, h, hd, rfl, hA, hs⟩
      obtain ⟨g2, h2, hd2, rfl, hs2, hs3⟩ := ih.1 hs
      obtain ⟨d1, d2⟩ := apart_add.1 hd
      exact ⟨g.add g2, h2, add_apart.2 ⟨d2, hd2⟩, (Frag.add_assoc _ _ _).symm, ⟨g, g2, d1, rfl, hA, hs2⟩, hs3⟩
    · rintro ⟨g, h, hd, rfl, ⟨g2, h2, hd2, rfl, hA, hs2⟩, hs3⟩
      obtain ⟨d1, d2⟩ := add_apart.1 hd
      exact ⟨g2, h2.add h, apart_add.2 ⟨hd2, d1⟩, Frag.add_assoc _ _ _, hA, ih.2 ⟨h2, h, d2, rfl, hs2, hs3⟩⟩
section
variable {E w w' : World} {A B C D G : HP} {l l' F : List HP}
theorem Hp.perm (h : Hp E w l) (hp : l.Perm l') : Hp E w l' :=
  ⟨h.os, h.output, h.tape, let ⟨f, a, b⟩ := h.frag; ⟨f, a, Sat.perm hp f b⟩⟩
/-- bring the assertion number k to the front -/
theorem Hp.p1 (h : Hp E w (A :: B :: F)) : Hp E w (B :: A :: F) := h.perm (.swap ..)
theorem Hp.p2 (h : Hp E w (A :: B :: C :: F)) : Hp E w (C :: A :: B :: F) := h.perm ((List.Perm.cons A (.swap ..)).trans (.swap ..))
theorem Hp.p3 (h : Hp E w (A :: B :: C :: D :: F)) : Hp E w (D :: A :: B :: C :: F) :=
  h.perm ((List.Perm.cons A ((List.Perm.cons B (.swap ..)).trans (.swap ..))).trans (.swap ..))
theorem Hp.p4 (h : Hp E w (A :: B :: C :: D :: G :: F)) : Hp E w (G :: A :: B :: C :: D :: F) :=
  h.perm ((List.Perm.cons A ((List.Perm.cons B ((List.Perm.cons C (.swap ..)).trans (.swap ..))).trans (.swap ..))).trans (.swap ..))
/-- put the first assertion behind the next k -/
theorem Hp.q2 (h : Hp E w (A :: B :: C :: F)) : Hp E w (B :: C :: A :: F) := h.p1.perm (.cons B (.swap ..))
theorem Hp.q3 (h : Hp E w (A :: B :: C :: D :: F)) : Hp E w (B :: C :: D :: A :: F) := h.q2.perm (.cons B (.cons C (.swap ..)))
theorem Hp.q4 (h : Hp E w (A :: B :: C :: D :: G :: F)) : Hp E w (B :: C :: D :: G :: A :: F) := h.q3.perm (.cons B (.cons C (.cons D (.swap ..))))
theorem Hp.flat (h : Hp E w (Sat l :: F)) : Hp E w (l ++ F) :=
  ⟨h.os, h.output, h.tape, let ⟨f, a, g, k, hd, e, h1, h2⟩ := h.frag; ⟨f, a, Sat.append.2 ⟨g, k, hd, e, h1, h2⟩⟩⟩
theorem Hp.fold (h : Hp E w (l ++ F)) : Hp E w (Sat l :: F) :=
  ⟨h.os, h.output, h.tape, let ⟨f, a, h1⟩ := h.frag; let ⟨g, k, hd, e, h1, h2⟩ := Sat.append.1 h1; ⟨f, a, g, k, hd, e, h1, h2⟩⟩
/-- what the first assertion comes to -/
theorem Hp.open1 {α : Sort _} {X : α → Prop} {L : α → List HP} (hA : ∀ f, A f → ∃ x, X x ∧ Sat (L x) f) (h : Hp E w (A :: F)) : ∃ x, X x ∧ Hp E w (L x ++ F) := by
  obtain ⟨f, a, g, k, hd, e, h1, h2⟩ := h.frag
  obtain ⟨x, hx, h3⟩ := hA g h1
  exact ⟨x, hx, h.os, h.output, h.tape, f, a, Sat.append.2 ⟨g, k, hd, e, h3, h2⟩⟩
theorem Hp.shut1 (hA : ∀ f, Sat l f → A f) (h : Hp E w (l ++ F)) : Hp E w (A :: F) := by
  obtain ⟨f, a, h1⟩ := h.frag
  obtain ⟨g, k, hd, e, h1, h2⟩ := Sat.append.1 h1
  exact ⟨h.os, h.output, h.tape, f, a, g, k, hd, e, hA _ h1, h2⟩
theorem Hp.weak (hA : ∀ f, A f → B f) (h : Hp E w (A :: F)) : Hp E w (B :: F) := by
  obtain ⟨f, a, g, k, hd, e, h1, h2⟩ := h.frag
  exact ⟨h.os, h.output, h.tape, f, a, g, k, hd, e, hA _ h1, h2⟩
theorem Hp.drop (h : Hp E w (A :: F)) : Hp E w F := by
  obtain ⟨f, a, g, k, hd, rfl, h1, h2⟩ := h.frag
  refine ⟨h.os, h.output, h.tape, k, fun r o hr => a r o ?_, h2⟩
  rcases hd r with hg | hk
  · simp [Frag.add, hg, hr]
  · rw [hk] at hr; cases hr
theorem Hp.emp (h : Hp E w F) (hA : A Frag.emp) : Hp E w (A :: F) := by
  obtain ⟨f, a, h1⟩ := h.frag
  exact ⟨h.os, h.output, h.tape, f, a, Frag.emp, f, fun _ => .inl rfl, (Frag.emp_add f).symm, hA, h1⟩
/-- a world that differs in its draws alone -/
theorem Hp.same (h : Hp E w l) (h1 : w'.heap = w.heap) (h2 : w'.os = w.os) (h3 : w'.output = w.output) (h4 : w'.tape = w.tape) : Hp E w' l :=
  ⟨h2.trans h.os, h3.trans h.output, h4.trans h.tape, let ⟨f, a, b⟩ := h.frag; ⟨f, fun r o hr => by rw [h1]; exact a r o hr, b⟩⟩
theorem Hp.drew {n : Nat} (h : Hp E w l) : Hp E { w with drawn := n } l := h.same rfl rfl rfl rfl
theorem Hp.blk {b : Nat} {o : Obj} (h : Hp E w (Blk b o :: F)) : w.heap[b]? = some o := by
  obtain ⟨f, a, g, k, hd, rfl, rfl, h2⟩ := h.frag
  exact a b o (by simp [Frag.add, Frag.one])
theorem Hp.cell {b i : Nat} {c : Array Value} {t : TypeId} {fr : Nat × Nat} (h : Hp E w (Blk b (.cells c t fr) :: F)) : w.cell? ⟨b, i, none⟩ = c[i]? := by
  simp [World.cell?, h.blk]
theorem Hp.alloc (h : Hp E w F) (o : Obj) : Hp E (w.alloc o) (Blk w.heap.size o :: F) := by
  obtain ⟨f, a, h1⟩ := h.frag
  have hn : f w.heap.size = none := by
    cases hf : f w.heap.size with
    | none => rfl
    | some o => have := a _ _ hf; simp at this
  refine ⟨h.os, h.output, h.tape, (Frag.one w.heap.size o).add f, fun r o' hr => ?_, _, _, fun r => ?_, rfl, rfl, h1⟩
  · show (w.heap.push o)[r]? = _
    rw [Array.getElem?_push]
    by_cases hr0 : r = w.heap.size
    · subst hr0; simp [Frag.add, Frag.one] at hr; simp [hr]
    · simp [Frag.add, Frag.one, hr0] at hr
      rw [if_neg hr0]; exact a r o' hr
  · by_cases hr0 : r = w.heap.size
    · subst hr0; exact .inr hn
    · exact .inl (by simp [Frag.one, hr0])
theorem Hp.setObj {b : Nat} {o o' : Obj} (h : Hp E w (Blk b o :: F)) (h1 : w'.heap = w.heap.set! b o') (h2 : w'.os = w.os) (h3 : w'.output = w.output) (h4 : w'.tape = w.tape) : Hp E w' (Blk b o' :: F) := by
  have hb := h.blk
  obtain ⟨f, a, g, k, hd, rfl, rfl, h5⟩ := h.frag
  have hk : k b = none := by
    rcases hd b with hh | hh
    · simp [Frag.one] at hh
    · exact hh
  refine ⟨h2.trans h.os, h3.trans h.output, h4.trans h.tape, (Frag.one b o').add k, fun r x hr => ?_, _, _, fun r => ?_, rfl, rfl, h5⟩
  · rw [h1]
    have hlt : b < w.heap.size := by
      rcases Nat.lt_or_ge b w.heap.size with hh | hh
      · exact hh
      · simp [Array.getElem?_eq_none hh] at hb
    by_cases hr0 : r = b
    · subst hr0
      simp [Frag.add, Frag.one] at hr
      simp [hr, hlt]
    · simp [Frag.add, Frag.one, hr0] at hr
      have := a r x (by simp [Frag.add, Frag.one, hr0, hr])
      rw [Array.set!_eq_setIfInBounds, Array.getElem?_setIfInBounds_ne (Ne.symm hr0)]
      exact this
  · by_cases hr0 : r = b
    · subst hr0; exact .inr hk
    · exact .inl (by simp [Frag.one, hr0])
theorem Hp.setCell {b i : Nat} {c : Array Value} {t : TypeId} {fr : Nat × Nat} (h : Hp E w (Blk b (.cells c t fr) :: F)) (v : Value) :
    Hp E (w.setCell ⟨b, i, none⟩ v) (Blk b (.cells (c.setIfInBounds i v) t fr) :: F) := by
  have hb := h.blk
  refine h.setObj (o' := .cells (c.setIfInBounds i v) t fr) ?_ rfl rfl rfl
  apply Array.ext_getElem?
  intro r
  have hlt : b < w.heap.size := by
    rcases Nat.lt_or_ge b w.heap.size with hh | hh
    · exact hh
    · simp [Array.getElem?_eq_none hh] at hb
  simp only [World.setCell, Array.getElem?_modify, Array.set!_eq_setIfInBounds, Array.getElem?_setIfInBounds]
  by_cases hr : b = r
  · subst hr
    have hv : w.heap[b] = .cells c t fr := by simpa [hlt] using hb
    simp [hlt, hv]
  · simp [hr]

/-! what the rest of the heap tells -/
/-- whatever world holds F meets φ -/
def Tells (F : List HP) (φ : World → Prop) : Prop := ∀ w f, SubW f w → Sat F f → φ w
theorem Hp.tells {φ : World → Prop} (h : Hp E w F) (ht : Tells F φ) : φ w := let ⟨f, a, b⟩ := h.frag; ht w f a b
theorem Tells.cons {φ : World → Prop} (ht : Tells F φ) : Tells (A :: F) φ := by
  rintro w f a ⟨g, k, hd, rfl, h1, h2⟩
  refine ht w k (fun r o hr => a r o ?_) h2
  rcases hd r with hg | hk
  · simp [Frag.add, hg, hr]
  · rw [hk] at hr; cases hr
theorem Tells.perm {φ : World → Prop} (ht : Tells l φ) (hp : l.Perm l') : Tells l' φ := fun w f a b => ht w f a (Sat.perm hp.symm f b)
theorem Tells.imp {φ ψ : World → Prop} (ht : Tells F φ) (h : ∀ w, φ w → ψ w) : Tells F ψ := fun w f a b => h w (ht w f a b)
theorem Tells.and {φ ψ : World → Prop} (h1 : Tells F φ) (h2 : Tells F ψ) : Tells F (fun w => φ w ∧ ψ w) := fun w f a b => ⟨h1 w f a b, h2 w f a b⟩
theorem Tells.all {α : Sort _} {φ : α → World → Prop} (h : ∀ x, Tells F (φ x)) : Tells F (fun w => ∀ x, φ x w) := fun w f a b x => h x w f a b
theorem Tells.const {p : Prop} (h : p) : Tells F (fun _ => p) := fun _ _ _ _ => h
/-- all blocks of an older world, as they were -/
def Old (W : World) : HP := fun f => ∀ r, f r = W.heap[r]?
theorem Hp.start (W : World) : Hp W W [Old W] :=
  ⟨rfl, rfl, rfl, fun r => W.heap[r]?, fun _ _ h => h, fun r => W.heap[r]?, Frag.emp, fun _ => .inr rfl, (Frag.add_emp _).symm, fun _ => rfl, rfl⟩
theorem Tells.old {W : World} {φ : World → Prop} (h : ∀ w, (∀ r, r < W.heap.size → w.heap[r]? = W.heap[r]?) → φ w) : Tells (Old W :: F) φ := by
  rintro w f a ⟨g, k, hd, rfl, h1, h2⟩
  refine h w fun r hr => ?_
  have : g r = some W.heap[r] := by rw [h1 r]; simp [hr]
  rw [a r W.heap[r] (by simp [Frag.add, this])]
  simp [hr]
/-- at the end: nothing that was there has turned -/
theorem Hp.below {W : World} (h : Hp W w (Old W :: F)) : Go.RowKit.Below W.heap.size W w := by
  have hk := h.tells (Tells.old (φ := fun w => ∀ r, r < W.heap.size → w.heap[r]? = W.heap[r]?) fun w h => h)
  refine ⟨h.os, h.tape, h.output, ?_, hk⟩
  rcases Nat.lt_or_ge w.heap.size W.heap.size with hlt | hge
  · have := hk w.heap.size hlt
    simp [hlt] at this
  · exact hge
end

/-! the heads of formulas over this logic -/
section
variable {E w : World} {F : List HP}
theorem IfB.mk {b : Bool} {X Y : Prop} (h1 : b = true → X) (h2 : b = false → Y) : IfB b X Y := by
  cases b
  · exact h2 rfl
  · exact h1 rfl
theorem IfB.t {b : Bool} {X Y : Prop} (hb : b = true) (h : X) : IfB b X Y := by subst hb; exact h
theorem IfB.f {b : Bool} {X Y : Prop} (hb : b = false) (h : Y) : IfB b X Y := by subst hb; exact h
theorem Ld.sc {s : Sc} {p : Addr} {K : s.T → Prop} (x : s.T) (hc : w.cell? p = some (s.enc x)) (h : K x) : Ld (.sc s) p w K :=
  ⟨x, fun w' hw => by subst hw; exact hc, h⟩
theorem St.mk {p : Addr} {v : Value} {K : World → Prop} {b i : Nat} {c : Array Value} {t : TypeId} (hp : p = ⟨b, i, none⟩) (hh : Hp E w (Blk b (.cells c t (0, 0)) :: F)) (hi : i < c.size) (hv : scalarB v = true)
    (h : ∀ w', Hp E w' (Blk b (.cells (c.setIfInBounds i v) t (0, 0)) :: F) → K w') : St p v w K := by
  subst hp
  unfold St
  rw [hv]
  refine ⟨?_, ?_, h _ (hh.setCell v)⟩
  · rw [hh.cell]; simp [hi]
  · simp [World.frozen?, hh.blk]
theorem Nw.mk {t : TypeId} {cs : Array Value} {K : Nat → World → Prop} (hh : Hp E w F) (h : ∀ b w', Hp E w' (Blk b (.cells cs t (0, 0)) :: F) → K b w') : Nw t cs w K := h _ _ (hh.alloc _)
theorem Drw.mk {K : World → Prop} (hh : Hp E w F) (h : ∀ w', Hp E w' F → K w') : Drw w K := h _ hh.drew
theorem Cl.imp {P : Program} {ks : List Ki} {i : FuncId} {args : Array Value} {K K' : FnK ks (World → Prop)} (h : Cl P ks i args w K) (hk : ∀ e w', resPost ks K e w' → resPost ks K' e w') : Cl P ks i args w K' :=
  Calls.mono h hk
end
end Go.Vc
