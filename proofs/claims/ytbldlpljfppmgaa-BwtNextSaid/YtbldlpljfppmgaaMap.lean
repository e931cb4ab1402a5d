/-
  Maps that the code makes for itself. Conditions: as each theorem states.
-/
import Derived.Test.YtbldlpljfppmgaaLib
import Derived.MapKept
namespace Go.Vc
open Go
set_option linter.unusedSectionVars false
/-- what a key type must meet -/
structure KeyOk (P : Program) {α : Type} [DecidableEq α] (kt : TypeId) (ke : α → Value) : Prop where
  und : ∃ d, P.underlying kt = some d ∧ ∀ a b, Instr.sameNow d (ke a) (ke b) = none ∨ Instr.sameNow d (ke a) (ke b) = some (decide (a = b))
  check : ∀ e a w, (Instr.checkKey e 10000 kt (ke a)).run P w = .ok () w
  eq : ∀ a b w, (Op.equal kt (ke a) (ke b)).run P w = .ok (decide (a = b)) w
  same : ∀ a, Instr.sameBits 10000 (ke a) (ke a) = true
section
variable {P : Program} {α β : Type} [DecidableEq α] {ke : α → Value} {ve : β → Value} {kt : TypeId}
/-- the entries es are the pairs of l -/
def Ents (ke : α → Value) (ve : β → Value) (es : List MapEntry) (l : List (α × β)) : Prop := es.map (fun e => (e.key, e.val)) = l.map fun p => (ke p.1, ve p.2)
/-- the place of a key -/
def findAt (a : α) : List (α × β) → Nat → Option (Nat × β)
  | [], _ => none
  | p :: l, i => if a = p.1 then some (i, p.2) else findAt a l (i + 1)
theorem ents_cons {e : MapEntry} {es : List MapEntry} {l : List (α × β)} (h : Ents ke ve (e :: es) l) : ∃ p l', l = p :: l' ∧ e.key = ke p.1 ∧ e.val = ve p.2 ∧ Ents ke ve es l' := by
  unfold Ents at h
  cases l with
  | nil => simp at h
  | cons p l' =>
    simp only [List.map_cons, List.cons.injEq, Prod.mk.injEq] at h
    exact ⟨p, l', rfl, h.1.1, h.1.2, h.2⟩
theorem asking_run (hk : KeyOk P kt ke) (a : α) (w : World) : ∀ (es : List MapEntry) (l : List (α × β)) (i : Nat), Ents ke ve es l → (Instr.findAsking kt (ke a) es i).run P w = .ok ((findAt a l i).map fun q => (q.1, ve q.2)) w
  | [], l, i, h => by
    have : l = [] := by unfold Ents at h; cases l <;> simp at h ⊢
    subst this
    simp [Instr.findAsking, findAt]
  | e :: es, l, i, h => by
    obtain ⟨p, l', rfl, h1, h2, h3⟩ := ents_cons h
    simp only [Instr.findAsking, Sem.run_bind, h1, hk.eq, Result.andThen_ok, findAt]
    by_cases hq : a = p.1
    · simp [hq, h2]
    · simp [hq, asking_run hk a w es l' (i + 1) h3]
theorem now_eq {d : TypeDesc} (hd : ∀ a b, Instr.sameNow d (ke a) (ke b) = none ∨ Instr.sameNow d (ke a) (ke b) = some (decide (a = b))) (a : α) : ∀ (es : List MapEntry) (l : List (α × β)) (i : Nat), Ents ke ve es l →
    Instr.findNow d (ke a) es i = none ∨ Instr.findNow d (ke a) es i = some ((findAt a l i).map fun q => (q.1, ve q.2))
  | [], l, i, h => by
    have : l = [] := by unfold Ents at h; cases l <;> simp at h ⊢
    subst this
    exact .inr rfl
  | e :: es, l, i, h => by
    obtain ⟨p, l', rfl, h1, h2, h3⟩ := ents_cons h
    unfold Instr.findNow
    rw [h1]
    rcases hd a p.1 with h0 | h0
    · rw [h0]; exact .inl rfl
    · rw [h0]
      by_cases hq : a = p.1
      · right; simp [findAt, hq, h2]
      · simp only [hq, decide_false, findAt, if_false]
        exact now_eq hd a es l' (i + 1) h3
theorem findKey_run (hk : KeyOk P kt ke) (a : α) (w : World) (es : List MapEntry) (l : List (α × β)) (h : Ents ke ve es l) : (Instr.findKey kt (ke a) es).run P w = .ok ((findAt a l 0).map fun q => (q.1, ve q.2)) w := by
  obtain ⟨d, hu, hd⟩ := hk.und
  simp only [Instr.findKey, Sem.run_bind, run_underlying hu, Result.andThen_ok]
  rcases now_eq (ve := ve) hd a es l 0 h with h0 | h0
  · rw [h0]; exact asking_run hk a w es l 0 h
  · rw [h0]; rfl
/-- a key is given a value -/
def updAt (a : α) (b : β) : List (α × β) → List (α × β)
  | [] => [(a, b)]
  | p :: l => if a = p.1 then (a, b) :: l else p :: updAt a b l
theorem findAt_ge {a : α} : ∀ {l : List (α × β)} {i j : Nat} {v : β}, findAt a l i = some (j, v) → i ≤ j
  | [], i, j, v, h => by simp [findAt] at h
  | p :: l, i, j, v, h => by
    unfold findAt at h
    split at h
    · simp at h; omega
    · have := findAt_ge h; omega
theorem ents_upd {a : α} {b : β} {f : MapEntry → MapEntry} (hf : ∀ e, e.key = ke a → (f e).key = ke a ∧ (f e).val = ve b) : ∀ {es : List MapEntry} {l : List (α × β)} {i j : Nat} {v : β}, Ents ke ve es l → findAt a l i = some (i + j, v) →
    Ents ke ve (es.modify j f) (updAt a b l)
  | [], l, i, j, v, h, hf2 => by
    have : l = [] := by unfold Ents at h; cases l <;> simp at h ⊢
    subst this
    simp [findAt] at hf2
  | e :: es, l, i, j, v, h, hf2 => by
    obtain ⟨p, l', rfl, h1, h2, h3⟩ := ents_cons h
    unfold findAt at hf2
    unfold updAt
    by_cases hq : a = p.1
    · rw [if_pos hq] at hf2 ⊢
      have : j = 0 := by simp at hf2; omega
      subst this
      obtain ⟨q1, q2⟩ := hf e (by rw [h1, hq])
      unfold Ents at h3 ⊢
      simp [List.modify, q1, q2, h3]
    · rw [if_neg hq] at hf2 ⊢
      have hge := findAt_ge hf2
      obtain ⟨j, rfl⟩ : ∃ j', j = j' + 1 := ⟨j - 1, by omega⟩
      have ih := ents_upd (f := f) hf (i := i + 1) (j := j) (v := v) h3 (by rw [hf2]; congr 2; omega)
      unfold Ents at ih ⊢
      simp only [List.modify_succ_cons, List.map_cons, ih, h1, h2]
theorem ents_key {a : α} : ∀ {es : List MapEntry} {l : List (α × β)} {i j : Nat} {v : β}, Ents ke ve es l → findAt a l i = some (i + j, v) → ∃ e, es[j]? = some e ∧ e.key = ke a
  | [], l, i, j, v, h, hf2 => by
    have : l = [] := by unfold Ents at h; cases l <;> simp at h ⊢
    subst this
    simp [findAt] at hf2
  | e :: es, l, i, j, v, h, hf2 => by
    obtain ⟨p, l', rfl, h1, h2, h3⟩ := ents_cons h
    unfold findAt at hf2
    by_cases hq : a = p.1
    · rw [if_pos hq] at hf2
      have : j = 0 := by simp at hf2; omega
      subst this
      exact ⟨e, rfl, by rw [h1, hq]⟩
    · rw [if_neg hq] at hf2
      have hge := findAt_ge hf2
      obtain ⟨j, rfl⟩ : ∃ j', j = j' + 1 := ⟨j - 1, by omega⟩
      obtain ⟨e', h4, h5⟩ := ents_key (i := i + 1) (j := j) (v := v) h3 (by rw [hf2]; congr 2; omega)
      exact ⟨e', by simpa using h4, h5⟩
theorem updAt_new {a : α} {b : β} : ∀ {l : List (α × β)} {i : Nat}, findAt a l i = none → updAt a b l = l ++ [(a, b)]
  | [], _, _ => rfl
  | p :: l, i, h => by
    unfold findAt at h
    unfold updAt
    by_cases hq : a = p.1
    · rw [if_pos hq] at h; cases h
    · rw [if_neg hq] at h ⊢
      rw [updAt_new h]; rfl
end
/-- a map of the code's own: its pairs, in the order in which the keys came -/
def OwnM {α β : Type} (ke : α → Value) (ve : β → Value) (m : Option Nat) (l : List (α × β)) : HP := fun f => ∃ b es clock, m = some b ∧ Ents ke ve es.toList l ∧ f = Frag.one b (.map es clock)
section
variable {P : Program} {α β : Type} [DecidableEq α] {ke : α → Value} {ve : β → Value} {kt vt t : TypeId} {E w : World} {F : List HP} {m : Option Nat} {l : List (α × β)}
theorem Hp.mapOpen (h : Hp E w (OwnM ke ve m l :: F)) : ∃ b es clock, m = some b ∧ Ents ke ve es.toList l ∧ Hp E w (Blk b (.map es clock) :: F) := by
  obtain ⟨f, a, g, k, hd, e, ⟨b, es, clock, h1, h2, h3⟩, h4⟩ := h.frag
  exact ⟨b, es, clock, h1, h2, h.os, h.output, h.tape, f, a, g, k, hd, e, h3, h4⟩
theorem Hp.mapShut {b clock : Nat} {es : Array MapEntry} (h : Hp E w (Blk b (.map es clock) :: F)) (he : Ents ke ve es.toList l) : Hp E w (OwnM ke ve (some b) l :: F) :=
  h.weak fun _ hf => ⟨b, es, clock, rfl, he, hf⟩
theorem run_makeMap {K : Option Nat → World → Prop} (h : Hp E w F) (hK : ∀ m w', Hp E w' (OwnM ke ve m [] :: F) → K m w') : Run P (Instr.makeMap t none) kM w K := by
  unfold Run
  have e : (Instr.makeMap t none).run P w = .ok (.map (some w.heap.size)) (w.alloc (.map #[] 0)) := rfl
  rw [e]
  exact hK _ _ (Hp.mapShut (h.alloc _) rfl)
theorem run_mapUpdate (hk : KeyOk P kt ke) (hu : P.underlying t = some (.map kt vt)) {a : α} {b : β} {K : Value → World → Prop} (h : Hp E w (OwnM ke ve m l :: F)) (hK : ∀ w', Hp E w' (OwnM ke ve m (updAt a b l) :: F) → K undef w') :
    Run P (do Instr.mapUpdate t (.map m) (ke a) (ve b); pure undef) kV w K := by
  obtain ⟨r, es, clock, rfl, he, hB⟩ := h.mapOpen
  have hb := hB.blk
  have hfk := findKey_run (ve := ve) hk a w es.toList l he
  have key : ∀ es' clock', (do Instr.mapUpdate t (.map (some r)) (ke a) (ve b); pure undef : Sem Value).run P w = .ok undef { w with heap := w.heap.setIfInBounds r (.map es' clock') } → Ents ke ve es'.toList (updAt a b l) →
      Run P (do Instr.mapUpdate t (.map (some r)) (ke a) (ve b); pure undef) kV w K := by
    intro es' clock' h1 h2
    unfold Run
    rw [h1]
    exact hK _ (Hp.mapShut (hB.setObj rfl rfl rfl rfl) h2)
  cases hf : findAt a l 0 with
  | none =>
    rw [hf] at hfk
    refine key (es.push ⟨ke a, ve b, clock⟩) (clock + 1) ?_ ?_
    · simp [Instr.mapUpdate, run_underlying hu, MapKept.run_getObj_map hb, hk.check, hfk, MapKept.run_setObj_map _ hb]
    · rw [updAt_new hf]
      unfold Ents at he ⊢
      simp [he]
  | some q =>
    obtain ⟨j, v⟩ := q
    rw [hf] at hfk
    have hfk' : (Instr.findKey kt (ke a) es.toList).run P w = .ok (some (j, ve v)) w := hfk
    have hkey : ((es[j]?).map (·.key)).getD (ke a) = ke a := by
      obtain ⟨e, he1, he2⟩ := ents_key (ke := ke) (ve := ve) he (i := 0) (j := j) (v := v) (by simpa using hf)
      have : es[j]? = some e := by simpa using he1
      rw [this]; exact he2
    refine key (es.modify j fun e => { e with key := ke a, val := ve b }) clock ?_ ?_
    · simp [Instr.mapUpdate, run_underlying hu, MapKept.run_getObj_map hb, hk.check, hfk', hkey, Instr.keyThatStays, hk.same, MapKept.run_setObj_map _ hb]
    · rw [Array.toList_modify]
      exact ents_upd (ke := ke) (ve := ve) (a := a) (b := b) (fun e _ => ⟨rfl, rfl⟩) he (i := 0) (j := j) (v := v) (by simpa using hf)
theorem run_lookup (hk : KeyOk P kt ke) (hu : P.underlying t = some (.map kt vt)) {a : α} {z : Value} (hz : ∀ w, (zeroValue vt).run P w = .ok z w) (h : Hp E w (OwnM ke ve m l :: F)) :
    (Instr.lookup t (.map m) (ke a) true).run P w = .ok (.tuple #[(match findAt a l 0 with | some q => ve q.2 | none => z), .bool (findAt a l 0).isSome]) w := by
  obtain ⟨r, es, clock, rfl, he, hB⟩ := h.mapOpen
  have hb := hB.blk
  have hfk := findKey_run (ve := ve) hk a w es.toList l he
  cases hf : findAt a l 0 with
  | none =>
    rw [hf] at hfk
    simp [Instr.lookup, run_underlying hu, MapKept.run_getObj_map hb, hk.check, hfk, hz]
  | some q =>
    rw [hf] at hfk
    simp [Instr.lookup, run_underlying hu, MapKept.run_getObj_map hb, hk.check, hfk]
end
end Go.Vc
