/-
  Maps that the code makes for itself: lengths, reading without ok, entries that are counted up. Conditions: as each theorem states.
-/
import Derived.Test.YtbldlpljfppmgaaMap
namespace Go.Vc
open Go
set_option linter.unusedSectionVars false
section
variable {P : Program} {α β : Type} [DecidableEq α] {ke : α → Value} {ve : β → Value} {kt vt t ty : TypeId} {E w : World} {F : List HP} {m : Option Nat} {l : List (α × β)}
theorem ents_len {es : List MapEntry} (h : Ents ke ve es l) : es.length = l.length := by
  have := congrArg List.length h
  simpa using this
theorem run_lookup1 (hk : KeyOk P kt ke) (hu : P.underlying t = some (.map kt vt)) {a : α} {z : Value} (hz : ∀ w, (zeroValue vt).run P w = .ok z w) (h : Hp E w (OwnM ke ve m l :: F)) :
    (Instr.lookup t (.map m) (ke a) false).run P w = .ok (match findAt a l 0 with | some q => ve q.2 | none => z) w := by
  obtain ⟨r, es, clock, rfl, he, hB⟩ := h.mapOpen
  have hb := hB.blk
  have hfk := findKey_run (ve := ve) hk a w es.toList l he
  cases hf : findAt a l 0 with
  | none =>
    rw [hf] at hfk
    simp [Instr.lookup, run_underlying hu, MapKept.run_getObj_map hb, hk.check, hfk, hz]
  | some q =>
    rw [hf] at hfk
    simp [Instr.lookup, run_underlying hu, MapKept.run_getObj_map hb, hk.check, hfk]
theorem run_lenM (hu : P.underlying t = some (.map kt vt)) {K : Int → World → Prop} (h : Hp E w (OwnM ke ve m l :: F)) (hK : K (l.length : Int) w) : Run P (Builtin.len_ #[t] ty ⟨[.map m]⟩) kI w K := by
  obtain ⟨r, es, clock, rfl, he, hB⟩ := h.mapOpen
  have hb := hB.blk
  have hl := ents_len he
  unfold Run
  have : (Builtin.len_ #[t] ty ⟨[.map (some r)]⟩).run P w = .ok (.int .i64 (l.length : Int)) w := by
    simp [Builtin.len_, run_underlying hu, MapKept.run_getObj_map hb, goInt, ← hl]
  rw [this]
  exact hK
/-- the entries' marks: ascending, below the clock -/
def Bn (es : List MapEntry) (clock : Nat) : Prop := es.Pairwise (fun a b => a.born < b.born) ∧ ∀ e ∈ es, e.born < clock
/-- a map of the code's own with its marks -/
def OwnC {α β : Type} (ke : α → Value) (ve : β → Value) (m : Option Nat) (l : List (α × β)) : HP := fun f => ∃ b es clock, m = some b ∧ Ents ke ve es.toList l ∧ Bn es.toList clock ∧ f = Frag.one b (.map es clock)
/-- .. where one entry is at hand: number j, with its mark -/
def OwnJ {α β : Type} (ke : α → Value) (ve : β → Value) (m : Option Nat) (l : List (α × β)) (j : Nat) (born : Int) : HP := fun f => ∃ b es clock, m = some b ∧ Ents ke ve es.toList l ∧ Bn es.toList clock ∧ (∃ e, es[j]? = some e ∧ (e.born : Int) = born) ∧ f = Frag.one b (.map es clock)
theorem Hp.cOpen (h : Hp E w (OwnC ke ve m l :: F)) : ∃ b es clock, m = some b ∧ Ents ke ve es.toList l ∧ Bn es.toList clock ∧ Hp E w (Blk b (.map es clock) :: F) := by
  obtain ⟨f, a, g, k, hd, e, ⟨b, es, clock, h1, h2, h2b, h3⟩, h4⟩ := h.frag
  exact ⟨b, es, clock, h1, h2, h2b, h.os, h.output, h.tape, f, a, g, k, hd, e, h3, h4⟩
theorem Hp.cShut {b clock : Nat} {es : Array MapEntry} (h : Hp E w (Blk b (.map es clock) :: F)) (he : Ents ke ve es.toList l) (hn : Bn es.toList clock) : Hp E w (OwnC ke ve (some b) l :: F) :=
  h.weak fun _ hf => ⟨b, es, clock, rfl, he, hn, hf⟩
theorem Hp.cToM (h : Hp E w (OwnC ke ve m l :: F)) : Hp E w (OwnM ke ve m l :: F) := h.weak fun _ ⟨b, es, clock, h1, h2, _, h3⟩ => ⟨b, es, clock, h1, h2, h3⟩
theorem Hp.jToM {j : Nat} {born : Int} (h : Hp E w (OwnJ ke ve m l j born :: F)) : Hp E w (OwnM ke ve m l :: F) := h.weak fun _ ⟨b, es, clock, h1, h2, _, _, h3⟩ => ⟨b, es, clock, h1, h2, h3⟩
theorem Hp.jOpen {j : Nat} {born : Int} (h : Hp E w (OwnJ ke ve m l j born :: F)) : ∃ b es clock, m = some b ∧ Ents ke ve es.toList l ∧ Bn es.toList clock ∧ (∃ e, es[j]? = some e ∧ (e.born : Int) = born) ∧ Hp E w (Blk b (.map es clock) :: F) := by
  obtain ⟨f, a, g, k, hd, e, ⟨b, es, clock, h1, h2, h2b, h2c, h3⟩, h4⟩ := h.frag
  exact ⟨b, es, clock, h1, h2, h2b, h2c, h.os, h.output, h.tape, f, a, g, k, hd, e, h3, h4⟩
theorem run_makeMapC {K : Option Nat → World → Prop} (h : Hp E w F) (hK : ∀ m w', Hp E w' (OwnC ke ve m [] :: F) → K m w') : Run P (Instr.makeMap t none) kM w K := by
  unfold Run
  have e : (Instr.makeMap t none).run P w = .ok (.map (some w.heap.size)) (w.alloc (.map #[] 0)) := rfl
  rw [e]
  exact hK _ _ (Hp.cShut (h.alloc _) rfl ⟨List.Pairwise.nil, by simp⟩)
/-- an entry is found, or laid -/
def entL (a : α) (z : β) (l : List (α × β)) : List (α × β) := match findAt a l 0 with | some _ => l | none => l ++ [(a, z)]
def entV (a : α) (z : β) (l : List (α × β)) : β := match findAt a l 0 with | some q => q.2 | none => z
def entJ (a : α) (l : List (α × β)) : Nat := match findAt a l 0 with | some q => q.1 | none => l.length
theorem findAt_app {a : α} {z : β} : ∀ (l : List (α × β)) (i : Nat), findAt a (l ++ [(a, z)]) i = match findAt a l i with | some q => some q | none => some (i + l.length, z)
  | [], i => by simp [findAt]
  | p :: l, i => by
    rw [List.cons_append]
    unfold findAt
    by_cases h : a = p.1
    · rw [if_pos h, if_pos h]
    · rw [if_neg h, if_neg h, findAt_app l (i + 1)]
      rw [List.length_cons, show i + 1 + l.length = i + (l.length + 1) by omega]
theorem entL_find (a : α) (z : β) (l : List (α × β)) : findAt a (entL a z l) 0 = some (entJ a l, entV a z l) := by
  unfold entL entJ entV
  cases h : findAt a l 0 with
  | some q => simp only [h]
  | none => simp only [findAt_app, h, Nat.zero_add]
theorem ents_get {es : List MapEntry} {a : α} {i j : Nat} {v : β} (h : Ents ke ve es l) (hf : findAt a l i = some (i + j, v)) : ∃ e, es[j]? = some e ∧ e.key = ke a := ents_key h hf
theorem Bn.modify {es : List MapEntry} {clock j : Nat} {f : MapEntry → MapEntry} (h : Bn es clock) (hf : ∀ e, (f e).born = e.born) : Bn (es.modify j f) clock := by
  have key : ∀ (es : List MapEntry) (j : Nat), (es.modify j f).map (·.born) = es.map (·.born) := by
    intro es
    induction es with
    | nil => intro j; simp
    | cons e es ih => intro j; cases j <;> simp [List.modify_succ_cons, hf, ih]
  refine ⟨?_, fun e he => ?_⟩
  · have := List.pairwise_map (f := fun e : MapEntry => e.born) (R := fun a b => a < b) (l := es.modify j f)
    rw [← this, key, List.pairwise_map]
    exact h.1
  · have : e.born ∈ (es.modify j f).map (·.born) := List.mem_map_of_mem he
    rw [key] at this
    obtain ⟨e', h1, h2⟩ := List.mem_map.1 this
    rw [← h2]; exact h.2 e' h1
theorem Bn.push {es : List MapEntry} {clock : Nat} {e : MapEntry} (h : Bn es clock) (he : e.born = clock) : Bn (es ++ [e]) (clock + 1) := by
  refine ⟨List.pairwise_append.2 ⟨h.1, by simp, fun a ha b hb => ?_⟩, fun x hx => ?_⟩
  · rw [List.mem_singleton] at hb; subst hb; rw [he]; exact h.2 a ha
  · rcases List.mem_append.1 hx with hx | hx
    · have := h.2 x hx; omega
    · rw [List.mem_singleton] at hx; subst hx; omega
theorem run_mapEntry (hk : KeyOk P kt ke) (hu : P.underlying t = some (.map kt vt)) {a : α} {z : β} (hz : ∀ w, (zeroValue vt).run P w = .ok (ve z) w) {k : Ki} {x : k.T} (hx : ve (entV a z l) = k.enc x) {K : k.T → Int → World → Prop} (h : Hp E w (OwnC ke ve m l :: F))
    (hK : ∀ born w', Hp E w' (OwnJ ke ve m (entL a z l) (entJ a l) born :: F) → K x born w') : RunR P (Instr.mapEntry t (.map m) (ke a)) [k, kI] w K := by
  obtain ⟨r, es, clock, rfl, he, hn, hB⟩ := h.cOpen
  have hb := hB.blk
  have hfk := findKey_run (ve := ve) hk a w es.toList l he
  have key : ∀ es' clock' (born : Nat) (e : MapEntry), (Instr.mapEntry t (.map (some r)) (ke a)).run P w = .ok (.tuple #[k.enc x, .int .i64 (born : Int)]) { w with heap := w.heap.setIfInBounds r (.map es' clock') } → Ents ke ve es'.toList (entL a z l) → Bn es'.toList clock' →
      es'[entJ a l]? = some e → e.born = born → RunR P (Instr.mapEntry t (.map (some r)) (ke a)) [k, kI] w K := by
    intro es' clock' born e h1 h2 h3 h4 h5
    unfold RunR
    rw [h1]
    show decL [k, kI] [k.enc x, .int .i64 (born : Int)] K _
    unfold decL
    rw [Ki.dec_enc]
    have hB' : Hp E { w with heap := w.heap.setIfInBounds r (.map es' clock') } (Blk r (.map es' clock') :: F) := hB.setObj rfl rfl rfl rfl
    exact hK (born : Int) _ (hB'.weak fun _ hf => ⟨r, es', clock', rfl, h2, h3, ⟨e, h4, by rw [h5]⟩, hf⟩)
  cases hf : findAt a l 0 with
  | none =>
    rw [hf] at hfk
    have hlen := ents_len he
    refine key (es.push { key := ke a, val := ve z, born := clock }) (clock + 1) clock { key := ke a, val := ve z, born := clock } ?_ ?_ ?_ ?_ rfl
    · rw [← hx]
      unfold entV
      rw [hf]
      simp [Instr.mapEntry, run_underlying hu, MapKept.run_getObj_map hb, hk.check, hfk, MapKept.run_setObj_map _ hb, hz, goInt]
    · unfold entL
      rw [hf]
      unfold Ents at he ⊢
      simp [he]
    · rw [Array.toList_push]
      exact hn.push rfl
    · unfold entJ
      rw [hf]
      simp [← hlen]
  | some q =>
    obtain ⟨j, v⟩ := q
    rw [hf] at hfk
    have hfk' : (Instr.findKey kt (ke a) es.toList).run P w = .ok (some (j, ve v)) w := hfk
    obtain ⟨e, he1, he2⟩ := ents_key (ke := ke) (ve := ve) he (i := 0) (j := j) (v := v) (by simpa using hf)
    have he1 : es[j]? = some e := by simpa using he1
    have hkey : ((es[j]?).map (·.key)).getD (ke a) = ke a := by rw [he1]; exact he2
    have hmod : (es.modify j fun e => { e with key := ke a }).toList = es.toList := by
      rw [Array.toList_modify]
      apply List.ext_getElem?
      intro i
      rw [List.getElem?_modify]
      by_cases hi : j = i
      · subst hi
        have : es.toList[j]? = some e := by simpa using he1
        simp [this, ← he2]
      · simp [hi]
    refine key (es.modify j fun e => { e with key := ke a }) clock e.born e ?_ ?_ ?_ ?_ rfl
    · rw [← hx]
      unfold entV
      rw [hf]
      simp [Instr.mapEntry, run_underlying hu, MapKept.run_getObj_map hb, hk.check, hfk', hkey, Instr.keyThatStays, hk.same, MapKept.run_setObj_map _ hb, he1, he2, goInt]
    · unfold entL
      rw [hf, hmod]; exact he
    · rw [hmod]; exact hn
    · unfold entJ
      rw [hf]
      have : (es.modify j fun e => { e with key := ke a })[j]? = (es.modify j fun e => { e with key := ke a }).toList[j]? := (Array.getElem?_toList ..).symm
      rw [this, hmod]
      simpa using he1
theorem find_born : ∀ (es : List MapEntry) (j : Nat) (e : MapEntry), es.Pairwise (fun a b => a.born < b.born) → es[j]? = some e → es.findIdx? (fun x => (x.born : Int) == (e.born : Int)) = some j
  | [], j, e, _, h => by simp at h
  | x :: es, 0, e, _, h => by
    have : x = e := by simpa using h
    subst this
    rw [List.findIdx?_cons]; simp
  | x :: es, j + 1, e, hp, h => by
    have he : es[j]? = some e := by simpa using h
    rw [List.pairwise_cons] at hp
    have hlt := hp.1 e (List.mem_of_getElem? he)
    rw [List.findIdx?_cons, show ((x.born : Int) == (e.born : Int)) = false by rw [beq_eq_false_iff_ne]; omega, find_born es j e hp.2 he]
    rfl
/-- the entry at hand is given its value -/
theorem run_entryStore {a : α} {b : β} {j : Nat} {v : β} {born : Int} {K : Value → World → Prop} (hf : findAt a l 0 = some (j, v)) (h : Hp E w (OwnJ ke ve m l j born :: F)) (hK : ∀ w', Hp E w' (OwnC ke ve m (updAt a b l) :: F) → K undef w') :
    Run P (do Instr.entryStore t (.map m) (.int .i64 born) (ve b); pure undef) kV w K := by
  obtain ⟨r, es, clock, rfl, he, hn, ⟨e, he1, rfl⟩, hB⟩ := h.jOpen
  have hb := hB.blk
  have hfi : es.findIdx? (fun x => (x.born : Int) == (e.born : Int)) = some j := by
    obtain ⟨es⟩ := es
    rw [List.findIdx?_toArray]
    exact find_born es j e hn.1 (by simpa using he1)
  obtain ⟨e', he1', he2⟩ := ents_key (ke := ke) (ve := ve) he (i := 0) (j := j) (v := v) (by simpa using hf)
  unfold Run
  have h1 : (do Instr.entryStore t (.map (some r)) (.int .i64 (e.born : Int)) (ve b); pure undef : Sem Value).run P w = .ok undef { w with heap := w.heap.setIfInBounds r (.map (es.modify j fun e => { e with val := ve b }) clock) } := by
    simp [Instr.entryStore, MapKept.run_getObj_map hb, asInt, asIntOf, hfi, MapKept.run_setObj_map _ hb]
  rw [h1]
  have hB' : Hp E { w with heap := w.heap.setIfInBounds r (.map (es.modify j fun e => { e with val := ve b }) clock) } (Blk r (.map (es.modify j fun e => { e with val := ve b }) clock) :: F) := hB.setObj rfl rfl rfl rfl
  refine hK _ (hB'.cShut ?_ ?_)
  · rw [Array.toList_modify]
    exact ents_upd (ke := ke) (ve := ve) (a := a) (b := b) (f := fun e => { e with val := ve b }) (fun e hk => ⟨hk, rfl⟩) he (i := 0) (j := j) (v := v) (by simpa using hf)
  · rw [Array.toList_modify]
    exact hn.modify fun _ => rfl
theorem entL_keys (a : α) (z b : β) (l : List (α × β)) : (updAt a b (entL a z l)).map (·.1) = if a ∈ l.map (·.1) then l.map (·.1) else l.map (·.1) ++ [a] := by
  have key : ∀ (l : List (α × β)) (i : Nat), (∀ q, findAt a l i = some q → a ∈ l.map (·.1) ∧ (updAt a b l).map (·.1) = l.map (·.1)) ∧ (findAt a l i = none → a ∉ l.map (·.1)) := by
    intro l
    induction l with
    | nil => intro i; simp [findAt]
    | cons p l ih =>
      intro i
      unfold findAt updAt
      by_cases h : a = p.1
      · rw [if_pos h, if_pos h]
        exact ⟨fun q _ => ⟨by simp [h], by simp [h]⟩, fun hh => by cases hh⟩
      · rw [if_neg h, if_neg h]
        obtain ⟨h1, h2⟩ := ih (i + 1)
        refine ⟨fun q hq => ?_, fun hn => ?_⟩
        · obtain ⟨h3, h4⟩ := h1 q hq
          exact ⟨by simp only [List.map_cons, List.mem_cons]; exact .inr h3, by simp only [List.map_cons, h4]⟩
        · simp only [List.map_cons, List.mem_cons, not_or]
          exact ⟨h, h2 hn⟩
  unfold entL
  cases hf : findAt a l 0 with
  | some q =>
    obtain ⟨h1, h2⟩ := (key l 0).1 q hf
    rw [if_pos h1]; exact h2
  | none =>
    rw [if_neg ((key l 0).2 hf)]
    have h3 : findAt a (l ++ [(a, z)]) 0 = some (0 + l.length, z) := by rw [findAt_app, hf]
    have := ((key (l ++ [(a, z)]) 0).1 _ h3).2
    rw [this]; simp
end
/-! arrays of numbers as keys -/
theorem check_arr {P : Program} {t e : TypeId} {n : Nat} {k : IntKind} {it : TypeInfo} (hu : P.underlying t = some (.array n e)) (hi : P.info? e = some it) (hsz : it.size = 1) (hue : P.underlying e = some (.int k)) {l : List Int} (hl : l.length = n) (em : Bool) (d : Nat) (w : World) :
    (Instr.checkKey em (d + 2) t (.agg ⟨l.map (.int k)⟩)).run P w = .ok () w := by
  rw [show d + 2 = (d + 1) + 1 from rfl, Instr.checkKey]
  simp only [Sem.run_bind, run_underlying hu, Result.andThen_ok]
  simp only [Std.Legacy.Range.forIn_eq_forIn_range', Std.Legacy.Range.size, Nat.sub_zero, Nat.add_one_sub_one, Nat.div_one]
  have each : ∀ j ∈ List.range' 0 n, j < l.length := fun j hj => by rw [List.mem_range'_1] at hj; omega
  generalize List.range' 0 n = is at each
  induction is with
  | nil => simp
  | cons j is ih =>
    have hj := each j (by simp)
    have p1 : (part e ⟨l.map (.int k)⟩ (j * 1)).run P w = .ok (.int k l[j]) w := by simp [part, isAgg, run_underlying hue, hj]
    have p2 : (Instr.checkKey em (d + 1) e (.int k l[j])).run P w = .ok () w := by simp [Instr.checkKey, run_underlying hue]
    simp only [List.forIn_cons, Sem.run_bind, run_size hi, hsz, Result.andThen_ok, p1, p2, Sem.run_pure]
    exact ih fun y hy => each y (by simp [hy])
theorem same_arr {k : IntKind} (l : List Int) (n : Nat) : Instr.sameBits (n + 1) (.agg ⟨l.map (.int k)⟩) (.agg ⟨l.map (.int k)⟩) = true := by
  have key : ∀ l : List Int, ((l.map (Value.int k)).zip (l.map (Value.int k))).all (fun x => Instr.sameBits n x.1 x.2) = true := by
    intro l
    induction l with
    | nil => rfl
    | cons x l ih => simp [Instr.sameBits, ih]
  unfold Instr.sameBits
  simp only [beq_self_eq_true, Bool.true_and]
  exact key l
end Go.Vc
