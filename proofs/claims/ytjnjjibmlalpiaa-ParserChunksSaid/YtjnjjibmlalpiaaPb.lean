/-
  Texts packed together by program: Rng, F, Flaw27, Fparser, Fbitreader, Sep, Lib, Bits, Br, Fheader. Conditions: as each theorem states.
-/
import Derived.OrdersIn
import Derived.RangeFuncRecord
import Derived.TacticsIn
import Derived.Test.YtjnjjibmlalpiaaChecked
import Derived.Test.YtjnjjibmlalpiaaPa
set_option linter.unusedSimpArgs false
set_option linter.unusedVariables false
/- Rng -/
namespace Go.Vc
open Go
noncomputable section
variable {nn : Nat} {dfs : List Deferred}

abbrev FW (ro : Option Nat) : Fence := { Fence.wide with round := ro }
/-- the call of yield: a round, which yields whether there is to be a next one -/
def Yld (P : Program) (l : Nat) (args : List Value) (w : World) (K : Bool → World → Prop) : Prop :=
  ∃ fn tmps assign body, (Instr.yield l ⟨args⟩).run P w = .ok (.round l fn tmps assign body) w ∧
    RoundIn Fence.wide 0 P l fn tmps assign body w fun e w' => ∃ b, e = .returned (.bool b) ∧ K b w'
/-- the call of a function value that may be yield -/
def ClY (P : Program) (v : Value) (ks : List Ki) (args : List Value) (w : World) (K : FnK ks (World → Prop)) : Prop :=
  match v with
  | .func (.func i) first captured => ClX P (.func (.func i) first captured) ks args w K
  | .func (.yield l) first _ => Yld P l (first.toList ++ args) w fun b w' => decRes ks (.bool b) K w'
  | _ => False
def opVY (P : Program) (f : AF) (o : Oper) (w : World) (K : Option Value → World → Prop) : Prop :=
  match o.op with
  | .call c => match c.callee with
    | .value x => match ev f x, evl f c.args.toList, ksOfTy P o.type with
      | some v, some vs, some ks => ClY P v ks vs w (CExt ks [] fun us w' => K (some (resVal us)) w')
      | _, _, _ => False
    | _ => opVC P f o w K
  | _ => opVC P f o w K

theorem Yld_mono {P : Program} {l : Nat} {args : List Value} {w : World} {K K' : Bool → World → Prop} (h1 : ∀ b w, K b w → K' b w) (h : Yld P l args w K) : Yld P l args w K' := by
  obtain ⟨fn, tmps, assign, body, h2, h3⟩ := h
  exact ⟨fn, tmps, assign, body, h2, h3.mono fun e w' ⟨b, e1, e2⟩ => ⟨b, e1, h1 _ _ e2⟩⟩
theorem ClY_mono {P : Program} {v : Value} {ks : List Ki} {args : List Value} {w : World} {g g' : List Value → World → Prop} (h1 : ∀ vs w, g vs w → g' vs w) (h : ClY P v ks args w (CExt ks [] g)) : ClY P v ks args w (CExt ks [] g') := by
  unfold ClY at h ⊢
  split at h
  · exact ClX_mono (v := .func (.func _) _ _) h1 h
  · exact Yld_mono (fun b w h => decRes_mono (fun vs h => h1 vs w h) h) h
  · exact h.elim
theorem opVY_mono {P : Program} {f : AF} {o : Oper} {w : World} {K K' : Option Value → World → Prop} (h1 : ∀ v w, K v w → K' v w) (h : opVY P f o w K) : opVY P f o w K' := by
  unfold opVY at h ⊢
  split at h
  · split at h
    · split at h
      · exact ClY_mono (fun vs w h => h1 _ _ h) h
      · exact h.elim
    · exact opVC_mono h1 h
  · exact opVC_mono h1 h
/-- an operation that is no defer statement, in whatever frame -/
theorem wpIn_of_wp {P : Program} {ro : Option Nat} {n : Nat} {o : Oper} {a : Act} {w : World} {next : Act → World → Prop} {Q : Exit → Act → World → Prop} (hd : ∀ c, o.op ≠ .defer c) (h : o.wp P a w next Q) : o.wpIn (FW ro) n P a w next Q := by
  refine ⟨fun _ _ => trivial, ?_⟩
  have e : o.semAt (FW ro).round a.eval = execOp a.eval o := by
    cases ro with
    | none => rfl
    | some l => exact Oper.semAt_some l _ _ hd
  rw [e]
  unfold Oper.wp at h
  generalize (execOp a.eval o).run P w = r at h
  cases r with
  | ok x w' =>
    cases x <;> simp only [Oper.upon] at h <;> first | exact h.elim | exact h | skip
    · exact ⟨fun hh => (by cases hh), (callsIn_wide (n := n - 1)).2 (h.mono fun e w'' he => by cases e <;> exact he)⟩
    · refine ⟨fun hh => (by cases hh), fun c cs _ => ?_⟩
      obtain ⟨v, w', hr, hs⟩ := h c cs
      exact ⟨v, w', hr, stepsIn_wide.2 hs⟩
  | halt x w' => cases x <;> simp only [Oper.upon] at h <;> first | exact h.elim | exact h
theorem opY_sound {P : Program} {ro : Option Nat} {n : Nat} {w : World} {a : Act} {f : AF} (hr : Rel nn dfs a f) {o : Oper} {K : Option Value → World → Prop} (h : opVY P f o w K)
    {next : Act → World → Prop} {Q : Exit → Act → World → Prop} (hn : ∀ v ov w', K ov w' → (∀ v', ov = some v' → v = v') → next (a.put o.dst v) w') : o.wpIn (FW ro) n P a w next Q := by
  obtain ⟨dst, op, ty, pos, after, guard⟩ := o
  unfold opVY at h
  simp only at h hn
  have plain : opVC P f ⟨dst, op, ty, pos, after, guard⟩ w K → (∀ c, op ≠ .defer c) → Oper.wpIn (FW ro) n P ⟨dst, op, ty, pos, after, guard⟩ a w next Q := fun h hd => wpIn_of_wp hd (op_sound hr h hn)
  split at h
  · rename_i c
    split at h
    · rename_i x hx0
      split at h
      · rename_i v vs ks hx hvs hks
        obtain ⟨callee, args, tys⟩ := c
        simp only at hx0 hvs
        subst hx0
        have cv : ClX P v ks vs w (CExt ks [] fun us w' => K (some (resVal us)) w') → Oper.wpIn (FW ro) n P ⟨dst, .call ⟨.value x, args, tys⟩, ty, pos, after, guard⟩ a w next Q := fun h => by
          refine plain ?_ (fun c => by simp)
          unfold opVC
          simp only [stillB, effVC, hx, hvs, hks]
          exact h
        unfold ClY at h
        split at h
        · exact cv h
        · rename_i l first captured
          obtain ⟨fn, tmps, assign, body, h1, h2⟩ := h
          refine ⟨fun _ _ => trivial, ?_⟩
          have e : Oper.semAt (FW ro).round a.eval ⟨dst, .call ⟨.value x, args, tys⟩, ty, pos, after, guard⟩ = execOp a.eval ⟨dst, .call ⟨.value x, args, tys⟩, ty, pos, after, guard⟩ := by
            cases ro with
            | none => rfl
            | some l => exact Oper.semAt_some l _ _ (fun c => by simp)
          have he : (execOp a.eval ⟨dst, .call ⟨.value x, args, tys⟩, ty, pos, after, guard⟩).run P w = .ok (.round l fn tmps assign body) w := by
            simp only [execOp, resolve, Sem.run_bind, hr.ev hx, Deferred.ofValue, Sem.run_pure, Result.andThen_ok, invoke, evl_arr hr hvs]
            rw [← h1]
            congr 2
            cases first; simp
          rw [e, he]
          refine ⟨fun hh => (by cases hh), ?_⟩
          refine RoundIn.mono (R := fun e w' => ∃ b, e = .returned (.bool b) ∧ decRes ks (.bool b) (CExt ks [] fun us w' => K (some (resVal us)) w') w') ⟨h2.1, fun c cs _ => h2.2 c cs (room_wide _)⟩ ?_
          rintro e w' ⟨b, rfl, hb⟩
          obtain ⟨us, e1, e2⟩ := decRes_sound hb
          have := hn (.bool b) (some (resVal us)) w' e2 (fun v' e => by rw [e1]; simpa using e)
          exact this
        · exact h.elim
      · exact h.elim
    · refine plain h (fun c => by simp)
  · rename_i op' hop
    refine plain h (fun c hc => ?_)
    subst hc
    unfold opVC at h
    simp only [stillB, effVC] at h

/-! lists of operations, all orders -/
def vcOpsY (P : Program) (ops : Array Oper) : List Oper → AF → World → (AF → World → Prop) → Prop
  | [], f, w, K => K f w
  | o :: rest, f, w, K => guarded ops o f (fun f => opVY P f o w fun v w' => vcOpsY P ops rest (putD f o.dst v) w' K) (fun f => vcOpsY P ops rest (putD f o.dst (some undef)) w K)
theorem opsY_sound {P : Program} {ro : Option Nat} {n : Nat} {ops : Array Oper} {Q : Exit → Act → World → Prop} {K : AF → World → Prop} (hQ : ∀ a f w, Rel nn dfs a f → K f w → Q .normal a w) :
    ∀ (l : List Oper) (f : AF) (w : World) (a : Act), Rel nn dfs a f → vcOpsY P ops l f w K → wpListIn (FW ro) n P ops Q l a w
  | [], f, w, a, hr, h => hQ a f w hr h
  | o :: rest, f, w, a, hr, h => by
    obtain ⟨f', hr', h1 | h1⟩ := guarded_sound hr h
    · simp only [wpListIn, h1.1, if_true]
      exact opY_sound hr' h1.2 fun v ov w' hK hv => opsY_sound hQ rest _ w' _ (hr'.put o.dst hv) hK
    · simp only [wpListIn, h1.1]
      exact ⟨fun _ _ => trivial, opsY_sound hQ rest _ w _ (hr'.put o.dst (fun v' e => by simpa using e)) h1.2⟩
theorem vcOpsY_frame {P : Program} {ops : Array Oper} {K K' : AF → World → Prop} {f0 : AF} (hk : ∀ f w, Same (dsts ops.toList) f0 f → K f w → K' f w) : ∀ (l : List Oper) (f : AF) (w : World), (∀ o ∈ l, o ∈ ops.toList) → Same (dsts ops.toList) f0 f → vcOpsY P ops l f w K → vcOpsY P ops l f w K'
  | [], f, w, _, hs, h => hk f w hs h
  | o :: rest, f, w, hl, hs, h => by
    have ho := hl o (by simp)
    have hr : ∀ o ∈ rest, o ∈ ops.toList := fun o' h' => hl o' (by simp [h'])
    refine guarded_frame (fun g hg h => opVY_mono (fun v w h => vcOpsY_frame hk rest _ w hr ((hs.trans hg).trans (Same.putD v fun d hd => mem_dsts ho hd)) h) h)
      (fun g hg h => vcOpsY_frame hk rest _ w hr ((hs.trans hg).trans (Same.putD _ fun d hd => mem_dsts ho hd)) h) h
def vcAll (P : Program) (ops : Array Oper) (K : AF → World → Prop) : Nat → Array Bool → AF → World → Prop
  | 0, listed, f, w => onB (Region.ready .any ops listed).isEmpty (K f w)
  | n + 1, listed, f, w => match Region.ready .any ops listed with
    | [] => K f w
    | r :: rs => AllR (r :: rs) fun i => match ops[i]? with
      | some o => guarded ops o f (fun f => opVY P f o w fun v w' => vcAll P ops K n (listed.setIfInBounds i true) (putD f o.dst v) w') (fun f => vcAll P ops K n (listed.setIfInBounds i true) (putD f o.dst (some undef)) w)
      | none => False
theorem all_sound {P : Program} {ro : Option Nat} {m : Nat} {ops : Array Oper} {Q : Exit → Act → World → Prop} {K : AF → World → Prop} (hQ : ∀ a f w, Rel nn dfs a f → K f w → Q .normal a w) :
    ∀ (n : Nat) (listed : Array Bool) (f : AF) (w : World) (a : Act), Rel nn dfs a f → vcAll P ops K n listed f w → wpAnyIn (FW ro) m P .any ops Q n listed a w
  | 0, listed, f, w, a, hr, h => by
    obtain ⟨h1, h2⟩ := onB_sound h
    exact ⟨by simpa using h1, hQ _ _ _ hr h2⟩
  | n + 1, listed, f, w, a, hr, h => by
    unfold vcAll at h
    split at h
    · rename_i he
      exact ⟨fun _ => hQ _ _ _ hr h, by rw [he]; simp⟩
    · rename_i r rs he
      refine ⟨fun h0 => absurd h0 (by rw [he]; simp), fun i hi => ?_⟩
      rw [he] at hi
      have h0 := allR_mem h i hi
      unfold wpOpIn
      split at h0
      · rename_i o ho
        simp only [ho]
        obtain ⟨f', hr', h1 | h1⟩ := guarded_sound hr h0
        · rw [if_pos h1.1]
          exact opY_sound hr' h1.2 fun v ov w' hK hv => all_sound hQ n _ _ w' _ (hr'.put o.dst hv) hK
        · rw [if_neg (by rw [h1.1]; simp)]
          exact ⟨fun _ _ => trivial, all_sound hQ n _ _ w _ (hr'.put o.dst (fun v' e => by simpa using e)) h1.2⟩
      · exact h0.elim
theorem vcAll_frame {P : Program} {ops : Array Oper} {K K' : AF → World → Prop} {f0 : AF} (hk : ∀ f w, Same (dsts ops.toList) f0 f → K f w → K' f w) : ∀ (n : Nat) (listed : Array Bool) (f : AF) (w : World), Same (dsts ops.toList) f0 f → vcAll P ops K n listed f w → vcAll P ops K' n listed f w
  | 0, listed, f, w, hs, h => by
    obtain ⟨h1, h2⟩ := onB_sound h
    unfold vcAll
    rw [h1]; exact hk _ _ hs h2
  | n + 1, listed, f, w, hs, h => by
    unfold vcAll at h ⊢
    split at h
    · exact hk _ _ hs h
    · refine allR_mono (fun i h => ?_) h
      split at h
      · rename_i o ho
        have hom : o ∈ ops.toList := by simpa using Array.mem_of_getElem? ho
        exact guarded_frame (fun g hg h => opVY_mono (fun v w h => vcAll_frame hk n _ _ w ((hs.trans hg).trans (Same.putD v fun d hd => mem_dsts hom hd)) h) h)
          (fun g hg h => vcAll_frame hk n _ _ w ((hs.trans hg).trans (Same.putD _ fun d hd => mem_dsts hom hd)) h) h
      · exact h.elim

/-! the statement -/
def AllB {β : Type} : (ks : List Ki) → FnK ks β → (List Value → β → Prop) → Prop
  | [], b, G => G [] b
  | k :: ks, b, G => ∀ x : k.T, AllB ks (b x) fun vs b => G (k.enc x :: vs) b
def lamB {β : Type} : (ks : List Ki) → (List Value → β) → FnK ks β
  | [], g => g []
  | k :: ks, g => fun x => lamB ks fun vs => g (k.enc x :: vs)
/-- a round begins: the record, which must be ready, is busy -/
def Beg (l : Nat) (rec : Nat → Obj) (w : World) (K : World → Prop) : Prop := w.heap[l]? = some (rec 0) ∧ K (w.putObj l (rec 1))
/-- a round ends off its body's end: the record is ready -/
def EndT (l : Nat) (rec : Nat → Obj) (w : World) (K : World → Prop) : Prop := w.heap[l]? = some (rec 1) ∧ K (w.putObj l (rec 0))
/-- a round ends by a return -/
def EndF (l : Nat) (rec : Nat → Obj) (w : World) (K : World → Prop) : Prop := w.heap[l]? = some (rec 1) ∧ K (w.putObj l (rec 2))
/-- a range over the function v: B is what a round comes to; K what follows where all rounds went to their ends, Kr where one returned -/
def Rng (P : Program) (v : Value) (ks : List Ki) (w : World) (B : Nat → (Nat → Obj) → FnK ks (World → (World → Prop) → (World → Prop) → Prop)) (K Kr : Nat → World → Prop) : Prop :=
  ∀ (rec : Nat → Obj) (yv : Value),
    (∀ (R : Bool → World → Prop) (w2 : World), AllB ks (B (w.heap.size + 1) rec) fun vs b => w2.heap[w.heap.size + 1]? = some (rec 0) → b w2 (R true) (R false) → ClY P yv [kB] vs w2 R) →
    ClV P v [] [yv] ((w.alloc (.deferred (some []))).alloc (rec 0)) fun w3 =>
      (w3.heap[w.heap.size + 1]? = some (rec 0) ∧ K w.heap.size (w3.putObj (w.heap.size + 1) (rec 3))) ∨ (w3.heap[w.heap.size + 1]? = some (rec 2) ∧ Kr w.heap.size (w3.putObj (w.heap.size + 1) (rec 4)))
theorem Rng_mono {P : Program} {v : Value} {ks : List Ki} {w : World} {B : Nat → (Nat → Obj) → FnK ks (World → (World → Prop) → (World → Prop) → Prop)} {K K' Kr Kr' : Nat → World → Prop} (h1 : ∀ D w, K D w → K' D w) (h2 : ∀ D w, Kr D w → Kr' D w)
    (h : Rng P v ks w B K Kr) : Rng P v ks w B K' Kr' := fun rec yv hy =>
  ClV_mono (ks := []) (g := fun _ w3 => (w3.heap[w.heap.size + 1]? = some (rec 0) ∧ K w.heap.size (w3.putObj (w.heap.size + 1) (rec 3))) ∨ (w3.heap[w.heap.size + 1]? = some (rec 2) ∧ Kr w.heap.size (w3.putObj (w.heap.size + 1) (rec 4))))
    (g' := fun _ w3 => (w3.heap[w.heap.size + 1]? = some (rec 0) ∧ K' w.heap.size (w3.putObj (w.heap.size + 1) (rec 3))) ∨ (w3.heap[w.heap.size + 1]? = some (rec 2) ∧ Kr' w.heap.size (w3.putObj (w.heap.size + 1) (rec 4))))
    (fun _ _ h => h.elim (fun h => .inl ⟨h.1, h1 _ _ h.2⟩) (fun h => .inr ⟨h.1, h2 _ _ h.2⟩)) (h rec yv hy)
def setPs : AF → List Nat → List Value → Option AF
  | f, [], [] => some f
  | f, p :: ps, v :: vs => setPs (upd f p (some v)) ps vs
  | _, _, _ => none
/-- plans for this part -/
inductive PlanR where
  | o | s (p q : PlanR) | c (p q : PlanR) | b (p : PlanR) | l (live : List (Nat × Ki)) (p : PlanR) | r (ks : List Ki) (p q : PlanR)
def hasRng : Code → Bool
  | .seq a b => hasRng a || hasRng b
  | .cond _ a b => hasRng a || hasRng b
  | .block _ a => hasRng a
  | .loop a => hasRng a
  | .scope a => hasRng a
  | .rangeFunc _ _ _ _ => true
  | _ => false
def thenM (next : AF → List Nat → World → Prop) (Q : Exit → AF → List Nat → World → Prop) : Exit → AF → List Nat → World → Prop
  | .normal, f, ms, w => next f ms w
  | e, f, ms, w => Q e f ms w
def blockM (id : Nat) (Q : Exit → AF → List Nat → World → Prop) : Exit → AF → List Nat → World → Prop
  | .exit i, f, ms, w => match i == id with | true => Q .normal f ms w | false => Q (.exit i) f ms w
  | e, f, ms, w => Q e f ms w
def roundQ (l : Nat) (rec : Nat → Obj) (Kt Kf : World → Prop) : Exit → AF → List Nat → World → Prop
  | .normal, _, _, w => EndT l rec w Kt
  | .ret, _, _, w => EndF l rec w Kf
  | _, _, _, _ => False
def vcR (P : Program) (n : Nat) (rd : Bool) : Code → PlanR → (Exit → AF → List Nat → World → Prop) → AF → List Nat → World → Prop
  | .skip, _, Q, f, ms, w => Q .normal f ms w
  | .region _ ops d, _, Q, f, ms, w => match d, rd with
    | false, _ => vcOpsY P ops ops.toList f w fun f w => Q .normal f ms w
    | true, false => vcReg P ops true f w fun f w => Q .normal f ms w
    | true, true => Drw w fun w' => vcAll P ops (fun f w => Q .normal f ms w) ops.size (Array.replicate ops.size false) f w'
  | .seq x y, .s p q, Q, f, ms, w => vcR P n rd x p (thenM (fun f ms w => vcR P n rd y q Q f ms w) Q) f ms w
  | .cond c x y, .c p q, Q, f, ms, w => match ev f c with
    | some (.bool b) => IfB b (vcR P n rd x p Q f ms w) (vcR P n rd y q Q f ms w)
    | _ => False
  | .block id c, .b p, Q, f, ms, w => vcR P n rd c p (blockM id Q) f ms w
  | .loop c, .l live p, Q, f, ms, w => onB (lives live (writes c)) (match hasRng c with
    | false => ∃ (I : FnL live (World → Prop)) (m : FnL live (World → Nat)), leaf live I f w ∧
        allL live I m (forget (writes c) f) fun I0 m0 f => ∀ w, I0 w → vcR P n rd c p (thenM (fun f ms2 w' => ms2 = ms ∧ leafM live I m (m0 w) f w') Q) f ms w
    | true => ∃ (I : List Nat → FnL live (World → Prop)) (m : FnL live (World → Nat)), leaf live (I ms) f w ∧
        ∀ ms, allL live (I ms) m (forget (writes c) f) fun I0 m0 f => ∀ w, I0 w → vcR P n rd c p (thenM (fun f ms2 w' => leafM live (I ms2) m (m0 w) f w') Q) f ms w)
  | .rangeFunc g ps assign body, .r ks p q, Q, f, ms, w => match rd with
    | true => False
    | false => match ev f g with
      | some v => Rng P v ks w (fun l rec => lamB ks fun vs w2 Kt Kf => match setPs f ps.toList vs with
          | some f' => vcR P n true assign p (thenM (fun f ms w => Beg l rec w fun w => vcR P n true body q (roundQ l rec Kt Kf) f ms w) (fun _ _ _ _ => False)) f' [] w2
          | none => False) (fun D w' => Q .normal f (D :: ms) w') (fun D w' => Q .ret f (D :: ms) w')
      | none => False
  | .exit id, _, Q, f, ms, w => Q (.exit id) f ms w
  | .ret, _, Q, f, ms, w => Q .ret f ms w
  | .label _, _, Q, f, ms, w => Q .normal f ms w
  | _, _, _, _, _, _ => False
/-! what is shown may be weakened -/
theorem allL_imp {body body' : (World → Prop) → (World → Nat) → AF → Prop} : ∀ {l : List (Nat × Ki)} {I : FnL l (World → Prop)} {m : FnL l (World → Nat)} {g : AF}, (∀ I m g, body I m g → body' I m g) → allL l I m g body → allL l I m g body'
  | [], _, _, _, hb, h => hb _ _ _ h
  | (_, _) :: _, _, _, _, hb, h => fun x => allL_imp hb (h x)
theorem vcR_mono {P : Program} {n : Nat} {rd : Bool} : ∀ (c : Code) (p : PlanR) {Q Q' : Exit → AF → List Nat → World → Prop} {f0 : AF} (_ : ∀ e f ms w, Same (writes c) f0 f → Q e f ms w → Q' e f ms w) (ms : List Nat) (w : World), vcR P n rd c p Q f0 ms w → vcR P n rd c p Q' f0 ms w
  | .skip, _, _, _, _, hq, ms, w, h => hq _ _ _ _ (Same.refl _ _) h
  | .region _ ops d, _, _, _, _, hq, ms, w, h => by
    unfold vcR at h ⊢
    cases d
    · exact vcOpsY_frame (fun f w hs h => hq _ f ms w hs h) _ _ _ (fun _ h => h) (Same.refl _ _) h
    · cases rd
      · exact vcReg_frame (fun f w hs h => hq _ f ms w hs h) h
      · exact vcAll_frame (fun f w hs h => hq _ f ms w hs h) _ _ _ _ (Same.refl _ _) h
  | .seq x y, .s p q, Q, Q', f0, hq, ms, w, h => by
    refine vcR_mono x p (fun e f ms w hs h => ?_) ms w h
    have hs' : Same (writes (.seq x y)) f0 f := hs.mono fun s h => List.mem_append.2 (.inl h)
    cases e with
    | normal => exact vcR_mono y q (fun e f' ms w hs2 h => hq e f' ms w (hs'.trans (hs2.mono fun s h => List.mem_append.2 (.inr h))) h) ms w h
    | _ => exact hq _ f ms w hs' h
  | .cond c x y, .c p q, Q, Q', f0, hq, ms, w, h => by
    unfold vcR at h ⊢
    split at h
    · exact IfB_mono (vcR_mono x p (fun e f ms w hs h => hq e f ms w (hs.mono fun s h => List.mem_append.2 (.inl h)) h) ms w) (vcR_mono y q (fun e f ms w hs h => hq e f ms w (hs.mono fun s h => List.mem_append.2 (.inr h)) h) ms w) h
    · exact h.elim
  | .block id c, .b p, Q, Q', f0, hq, ms, w, h => by
    refine vcR_mono c p (fun e f ms w hs h => ?_) ms w h
    cases e with
    | exit i =>
      simp only [blockM] at h ⊢
      split at h
      · exact hq _ f ms w hs h
      · exact hq _ f ms w hs h
    | _ => exact hq _ f ms w hs h
  | .loop c, .l live p, Q, Q', f0, hq, ms, w, h => by
    unfold vcR at h ⊢
    obtain ⟨hl, h⟩ := onB_sound h
    rw [hl]
    show (match hasRng c with | false => _ | true => _ : Prop)
    cases hc : hasRng c with
    | false =>
      rw [hc] at h
      obtain ⟨I, m, h0, h1⟩ := h
      refine ⟨I, m, h0, allL_imp (fun I0 m0 g hb w hI => ?_) (allL_same (fun s k hk => Same.lams hl hk) (fun s hs => get_forget hs) h1)⟩
      refine vcR_mono c p (fun e f' ms' w hs2 h => ?_) ms w (hb.2 w hI)
      cases e with
      | normal => exact h
      | _ => exact hq _ f' ms' w (hb.1.trans hs2) h
    | true =>
      rw [hc] at h
      obtain ⟨I, m, h0, h1⟩ := h
      refine ⟨I, m, h0, fun ms => allL_imp (fun I0 m0 g hb w hI => ?_) (allL_same (fun s k hk => Same.lams hl hk) (fun s hs => get_forget hs) (h1 ms))⟩
      refine vcR_mono c p (fun e f' ms' w hs2 h => ?_) ms w (hb.2 w hI)
      cases e with
      | normal => exact h
      | _ => exact hq _ f' ms' w (hb.1.trans hs2) h
  | .rangeFunc g ps assign body, .r ks p q, Q, Q', f0, hq, ms, w, h => by
    unfold vcR at h ⊢
    cases rd
    · simp only at h ⊢
      split at h
      · exact Rng_mono (fun D w h => hq _ _ _ _ (Same.refl _ _) h) (fun D w h => hq _ _ _ _ (Same.refl _ _) h) h
      · exact h.elim
    · exact h.elim
  | .exit id, _, _, _, _, hq, ms, w, h => hq _ _ _ _ (Same.refl _ _) h
  | .ret, _, _, _, _, hq, ms, w, h => hq _ _ _ _ (Same.refl _ _) h
  | .label _, _, _, _, _, hq, ms, w, h => hq _ _ _ _ (Same.refl _ _) h
  | .seq _ _, .o, _, _, _, _, _, _, h => h.elim
  | .seq _ _, .c _ _, _, _, _, _, _, _, h => h.elim
  | .seq _ _, .b _, _, _, _, _, _, _, h => h.elim
  | .seq _ _, .l _ _, _, _, _, _, _, _, h => h.elim
  | .seq _ _, .r _ _ _, _, _, _, _, _, _, h => h.elim
  | .cond _ _ _, .o, _, _, _, _, _, _, h => h.elim
  | .cond _ _ _, .s _ _, _, _, _, _, _, _, h => h.elim
  | .cond _ _ _, .b _, _, _, _, _, _, _, h => h.elim
  | .cond _ _ _, .l _ _, _, _, _, _, _, _, h => h.elim
  | .cond _ _ _, .r _ _ _, _, _, _, _, _, _, h => h.elim
  | .block _ _, .o, _, _, _, _, _, _, h => h.elim
  | .block _ _, .s _ _, _, _, _, _, _, _, h => h.elim
  | .block _ _, .c _ _, _, _, _, _, _, _, h => h.elim
  | .block _ _, .l _ _, _, _, _, _, _, _, h => h.elim
  | .block _ _, .r _ _ _, _, _, _, _, _, _, h => h.elim
  | .loop _, .o, _, _, _, _, _, _, h => h.elim
  | .loop _, .s _ _, _, _, _, _, _, _, h => h.elim
  | .loop _, .c _ _, _, _, _, _, _, _, h => h.elim
  | .loop _, .b _, _, _, _, _, _, _, h => h.elim
  | .loop _, .r _ _ _, _, _, _, _, _, _, h => h.elim
  | .rangeFunc _ _ _ _, .o, _, _, _, _, _, _, h => h.elim
  | .rangeFunc _ _ _ _, .s _ _, _, _, _, _, _, _, h => h.elim
  | .rangeFunc _ _ _ _, .c _ _, _, _, _, _, _, _, h => h.elim
  | .rangeFunc _ _ _ _, .b _, _, _, _, _, _, _, h => h.elim
  | .rangeFunc _ _ _ _, .l _ _, _, _, _, _, _, _, h => h.elim
  | .scope _, _, _, _, _, _, _, _, h => h.elim
  | .goto _, _, _, _, _, _, _, _, h => h.elim
  | .refuse _, _, _, _, _, _, _, _, h => h.elim

/-! soundness -/
theorem decRes_nil {v : Value} {w : World} {K : World → Prop} (h : decRes [] v K w) : K w := by
  cases v with
  | tuple us =>
    obtain ⟨us⟩ := us
    cases us with
    | nil => exact h
    | cons => exact h.elim
  | _ => exact h.elim
def mark (r : Nat) : Deferred := { target := .collected r, args := #[] }
def onM {nn : Nat} (Q : Exit → AF → List Nat → World → Prop) (e : Exit) (a : Act) (w : World) : Prop := ∃ f ms, Rel nn (ms.map mark) a f ∧ Q e f ms w
theorem allB_intro {β : Type} : ∀ {ks : List Ki} {g : List Value → β} {G : List Value → β → Prop}, (∀ vs, G vs (g vs)) → AllB ks (lamB ks g) G
  | [], _, _, h => h []
  | _ :: _, _, _, h => fun _ => allB_intro fun _ => h _
theorem setPs_rel : ∀ {ps : List Nat} {vs : List Value} {f f' : AF} {tmps : Array Value} {d : List Deferred}, Rel nn dfs { tmps := tmps, defers := d } f → setPs f ps vs = some f' →
    ps.length = vs.length ∧ Rel nn dfs { tmps := (ps.zip vs).foldl (fun tmps (t, a) => tmps.setIfInBounds t a) tmps, defers := d } f'
  | [], [], f, f', tmps, d, hr, h => by
    simp only [setPs, Option.some.injEq] at h
    subst h
    exact ⟨rfl, hr⟩
  | p :: ps, v :: vs, f, f', tmps, d, hr, h => by
    obtain ⟨h1, h2⟩ := setPs_rel (hr.upd p (some v) v (fun v' e => by simpa using e)) h
    exact ⟨by simp [h1], h2⟩
  | [], _ :: _, _, _, _, _, _, h => by cases h
  | _ :: _, [], _, _, _, _, _, h => by cases h
theorem vcR_sound {P : Program} (hm : P.follows .mixedOrders = true) : ∀ (c : Code) (p : PlanR) (rd : Bool) (ro : Option Nat) (_ : ro.isSome = rd) (k : Nat) (Q : Exit → AF → List Nat → World → Prop) (f : AF) (ms : List Nat) (w : World) (a : Act),
    Rel nn (ms.map mark) a f → vcR P nn rd c p Q f ms w → c.wpIn (FW ro) k P (onM (nn := nn) Q) a w
  | .skip, _, rd, ro, hro, k, Q, f, ms, w, a, hr, h => wpIn_skip ⟨f, ms, hr, h⟩
  | .region _ ops d, _, rd, ro, hro, k, Q, f, ms, w, a, hr, h => by
    unfold vcR at h
    cases d
    · exact wpIn_region_list (opsY_sound (K := fun f w => Q .normal f ms w) (fun a f w hr h => ⟨f, ms, hr, h⟩) _ _ _ _ hr h)
    · cases rd
      · cases ro with
        | some l => cases hro
        | none => exact wpIn_wide.2 (reg_sound hm (K := fun f w => Q .normal f ms w) (fun a f w hr h => ⟨f, ms, hr, h⟩) hr h)
      · exact wpIn_region_any hm (all_sound (K := fun f w => Q .normal f ms w) (fun a f w hr h => ⟨f, ms, hr, h⟩) _ _ _ _ _ hr h)
  | .seq x y, .s p q, rd, ro, hro, k, Q, f, ms, w, a, hr, h => by
    refine wpIn_seq (Go.wpIn_mono (vcR_sound hm x p rd ro hro k _ f ms w a hr h) fun e a w ⟨f', ms', hr', h'⟩ => ?_)
    cases e with
    | normal => exact vcR_sound hm y q rd ro hro k Q f' ms' w a hr' h'
    | _ => exact ⟨f', ms', hr', h'⟩
  | .cond c x y, .c p q, rd, ro, hro, k, Q, f, ms, w, a, hr, h => by
    unfold vcR at h
    split at h
    · rename_i b hb
      refine wpIn_cond (hr.ev hb) ?_
      cases b
      · exact vcR_sound hm y q rd ro hro k Q f ms w a hr h
      · exact vcR_sound hm x p rd ro hro k Q f ms w a hr h
    · exact h.elim
  | .block id c, .b p, rd, ro, hro, k, Q, f, ms, w, a, hr, h => by
    refine wpIn_block (Go.wpIn_mono (vcR_sound hm c p rd ro hro k _ f ms w a hr h) fun e a w ⟨f', ms', hr', h'⟩ => ?_)
    cases e with
    | exit i =>
      simp only [Exit.inBlock]
      simp only [blockM] at h'
      by_cases hi : i = id
      · subst hi; simp at h'; simp only [if_true]; exact ⟨f', ms', hr', h'⟩
      · have : (i == id) = false := by simpa using hi
        rw [this] at h'; rw [if_neg hi]; exact ⟨f', ms', hr', h'⟩
    | _ => exact ⟨f', ms', hr', h'⟩
  | .loop c, .l live p, rd, ro, hro, k, Q, f, ms, w, a, hr, h => by
    unfold vcR at h
    obtain ⟨hl, h⟩ := onB_sound h
    have hsh := hr.shape
    cases hc : hasRng c with
    | false =>
      rw [hc] at h
      obtain ⟨I, m, h0, hall⟩ := h
      refine Go.wpIn_loop (fun a w => ∃ f', Rel nn (ms.map mark) a f' ∧ leaf live I f' w ∧ Same (writes c) f f') (fun a w => measA a w live m) ⟨f, hr, h0, Same.refl _ _⟩ fun a w ⟨f1, hr, hI, hs⟩ => ?_
      obtain ⟨I0, m0, g, hg, h1, ⟨hgs, h2⟩, h3⟩ := leaf_all hr live I m _ (hr.keep hsh hs) hI (allL_same (fun s k hk => Same.lams hl hk) (fun s hs => get_forget hs) hall)
      have h4 := vcR_mono c p (Q' := fun e f' ms' w' => thenM (fun f ms2 w' => ms2 = ms ∧ leafM live I m (m0 w) f w') Q e f' ms' w' ∧ Same (writes c) g f') (fun e f' ms' w hs h => ⟨h, hs⟩) ms w (h2 w h1)
      refine Go.wpIn_mono (vcR_sound hm c p rd ro hro k _ g ms w a hg h4) fun e a' w' ⟨f', ms', hr', h', hs'⟩ => ?_
      cases e with
      | normal =>
        obtain ⟨e, h'⟩ := h'
        subst e
        refine ⟨⟨f', hr', leafM_leaf h', hgs.trans hs'⟩, ?_⟩
        have := leafM_meas hr' h'
        simp only [h3]
        exact this
      | _ => exact ⟨f', ms', hr', h'⟩
    | true =>
      rw [hc] at h
      obtain ⟨I, m, h0, hall⟩ := h
      refine Go.wpIn_loop (fun a w => ∃ f' ms', Rel nn (ms'.map mark) a f' ∧ leaf live (I ms') f' w ∧ Same (writes c) f f') (fun a w => measA a w live m) ⟨f, ms, hr, h0, Same.refl _ _⟩ fun a w ⟨f1, ms1, hr, hI, hs⟩ => ?_
      obtain ⟨I0, m0, g, hg, h1, ⟨hgs, h2⟩, h3⟩ := leaf_all hr live (I ms1) m _ (hr.keep hsh hs) hI (allL_same (fun s k hk => Same.lams hl hk) (fun s hs => get_forget hs) (hall ms1))
      have h4 := vcR_mono c p (Q' := fun e f' ms' w' => thenM (fun f ms2 w' => leafM live (I ms2) m (m0 w) f w') Q e f' ms' w' ∧ Same (writes c) g f') (fun e f' ms' w hs h => ⟨h, hs⟩) ms1 w (h2 w h1)
      refine Go.wpIn_mono (vcR_sound hm c p rd ro hro k _ g ms1 w a hg h4) fun e a' w' ⟨f', ms', hr', h', hs'⟩ => ?_
      cases e with
      | normal =>
        refine ⟨⟨f', ms', hr', leafM_leaf h', hgs.trans hs'⟩, ?_⟩
        have := leafM_meas hr' h'
        simp only [h3]
        exact this
      | _ => exact ⟨f', ms', hr', h'⟩
  | .rangeFunc g ps assign body, .r ks p q, rd, ro, hro, k, Q, f, ms, w, a, hr, h => by
    unfold vcR at h
    cases rd
    · cases ro with
      | some l => cases hro
      | none =>
        simp only at h
        split at h
        · rename_i v hv
          refine wpIn_rangeFunc fun fn _ => ?_
          have hcl := h (fun i => .loop (match i with
              | 0 => { state := .ready, pending := none, fn, tmps := a.tmps, params := ps, assign, body, defers := w.heap.size }
              | 1 => { state := .busy, pending := none, fn, tmps := a.tmps, params := ps, assign, body, defers := w.heap.size }
              | 2 => { state := .done, pending := some .ret, fn, tmps := a.tmps, params := ps, assign, body, defers := w.heap.size }
              | 3 => { state := .exhausted, pending := none, fn, tmps := a.tmps, params := ps, assign, body, defers := w.heap.size }
              | _ => { state := .exhausted, pending := some .ret, fn, tmps := a.tmps, params := ps, assign, body, defers := w.heap.size }))
            (.func (.yield (w.heap.size + 1)) #[] #[]) (fun R w2 => allB_intro fun vs hrec hB => ?_)
          · unfold ClV at hcl
            split at hcl
            · rename_i i first captured
              obtain ⟨hok, hc⟩ := onB_sound hcl
              have he := run_enterLoop_outer (P := P) (w := w) fn a.tmps ps assign body
              obtain ⟨w1, hw1⟩ : ∃ w1, w1 = (w.alloc (.deferred (some []))).alloc (.loop { state := .ready, pending := none, fn, tmps := a.tmps, params := ps, assign, body, defers := w.heap.size }) := ⟨_, rfl⟩
              rw [← hw1] at he
              refine ⟨w.heap.size + 1, [mark w.heap.size], w1, { target := .fn (.func i) captured, args := first ++ #[.func (.yield (w.heap.size + 1)) #[] #[]] }, w1, i, ⟨first.toList ++ [.func (.yield (w.heap.size + 1)) #[] #[]] ++ captured.toList⟩, w1,
                he, ?_, fun _ _ => trivial, ?_, fun hh => (by cases hh), ?_⟩
              · have hg := hr.ev hv
                simp only [resolve, hg, Deferred.ofValue, Sem.run_pure]
                simp [Act.eval]
              · have hcc := okCall_run (P := P) hok
                have e : (first ++ #[Value.func (.yield (w.heap.size + 1)) #[] #[]]) ++ captured = ⟨first.toList ++ [.func (.yield (w.heap.size + 1)) #[] #[]] ++ captured.toList⟩ := by
                  apply Array.ext'; simp
                simp only [invoke, e]
                exact hcc _ _
              · refine (callsIn_wide (n := k - 1)).2 ?_
                rw [hw1]
                refine Calls.mono hc fun e w3 hp => ?_
                have hrel : Rel nn ((w.heap.size :: ms).map mark) { a with defers := [mark w.heap.size] ++ a.defers } f := ⟨hr.size, hr.shape, by simp [hr.defs], hr.val⟩
                cases e with
                | returned v' =>
                  have hp := decRes_nil hp
                  rcases hp with ⟨h1, h2⟩ | ⟨h1, h2⟩
                  · exact ⟨none, _, run_endLoop h1 (by simp), ⟨f, _, hrel, h2⟩⟩
                  · exact ⟨some .ret, _, run_endLoop h1 (by simp), wpIn_ret ⟨f, _, hrel, h2⟩⟩
                | panicked => exact hp.elim
                | outgrown => exact hp.elim
            · exact hcl.elim
          · split at hB
            · rename_i f' hf'
              have hr0 : Rel nn [] { tmps := a.tmps, defers := [] } f := ⟨hr.size, hr.shape, rfl, hr.val⟩
              obtain ⟨hlen, hrel⟩ := setPs_rel hr0 hf'
              have hz : (ps.zip (⟨vs⟩ : Array Value)).foldl (fun tmps (t, a) => tmps.setIfInBounds t a) a.tmps = (ps.toList.zip vs).foldl (fun tmps (t, a) => tmps.setIfInBounds t a) a.tmps := by
                rw [← Array.foldl_toList]; simp
              refine ⟨fn, _, assign, body, run_yield hrec (by simpa using hlen.symm), ?_⟩
              refine RoundIn.mono (R := fun e w' => ∃ b, e = .returned (.bool b) ∧ R b w') ?_ fun e w' ⟨b, h1, h2⟩ => ⟨b, h1, h2⟩
              refine roundIn_of_wpIn trivial ?_
              simp only [List.nil_append, hz]
              refine Go.wpIn_mono (vcR_sound hm assign p true (some (w.heap.size + 1)) rfl 0 _ f' [] w2 _ hrel hB) fun e a1 w1 ⟨f1, ms1, hr1, h1⟩ => ?_
              cases e with
              | normal =>
                obtain ⟨h2, h3⟩ := h1
                refine ⟨_, run_beginRound h2 rfl, ?_⟩
                refine Go.wpIn_mono (vcR_sound hm body q true (some (w.heap.size + 1)) rfl 0 _ f1 ms1 _ _ hr1 h3) fun e a2 w4 ⟨f2, ms2, hr2, h4⟩ => ?_
                cases e with
                | normal =>
                  obtain ⟨h5, h6⟩ := h4
                  exact ⟨_, _, run_endRound none h5, true, rfl, h6⟩
                | ret =>
                  obtain ⟨h5, h6⟩ := h4
                  exact ⟨_, _, run_endRound (some .ret) h5, false, rfl, h6⟩
                | exit id => exact h4.elim
                | goto t => exact h4.elim
                | panic c => exact h4.elim
                | outgrown => exact h4.elim
              | exit id => exact h1.elim
              | goto t => exact h1.elim
              | ret => exact h1.elim
              | panic c => exact h1.elim
              | outgrown => exact h1.elim
            · exact hB.elim
        · exact h.elim
    · exact h.elim
  | .exit id, _, rd, ro, hro, k, Q, f, ms, w, a, hr, h => wpIn_exit ⟨f, ms, hr, h⟩
  | .ret, _, rd, ro, hro, k, Q, f, ms, w, a, hr, h => wpIn_ret ⟨f, ms, hr, h⟩
  | .label _, _, rd, ro, hro, k, Q, f, ms, w, a, hr, h => wpIn_label ⟨f, ms, hr, h⟩
  | .seq _ _, .o, _, _, _, _, _, _, _, _, _, _, h => h.elim
  | .seq _ _, .c _ _, _, _, _, _, _, _, _, _, _, _, h => h.elim
  | .seq _ _, .b _, _, _, _, _, _, _, _, _, _, _, h => h.elim
  | .seq _ _, .l _ _, _, _, _, _, _, _, _, _, _, _, h => h.elim
  | .seq _ _, .r _ _ _, _, _, _, _, _, _, _, _, _, _, h => h.elim
  | .cond _ _ _, .o, _, _, _, _, _, _, _, _, _, _, h => h.elim
  | .cond _ _ _, .s _ _, _, _, _, _, _, _, _, _, _, _, h => h.elim
  | .cond _ _ _, .b _, _, _, _, _, _, _, _, _, _, _, h => h.elim
  | .cond _ _ _, .l _ _, _, _, _, _, _, _, _, _, _, _, h => h.elim
  | .cond _ _ _, .r _ _ _, _, _, _, _, _, _, _, _, _, _, h => h.elim
  | .block _ _, .o, _, _, _, _, _, _, _, _, _, _, h => h.elim
  | .block _ _, .s _ _, _, _, _, _, _, _, _, _, _, _, h => h.elim
  | .block _ _, .c _ _, _, _, _, _, _, _, _, _, _, _, h => h.elim
  | .block _ _, .l _ _, _, _, _, _, _, _, _, _, _, _, h => h.elim
  | .block _ _, .r _ _ _, _, _, _, _, _, _, _, _, _, _, h => h.elim
  | .loop _, .o, _, _, _, _, _, _, _, _, _, _, h => h.elim
  | .loop _, .s _ _, _, _, _, _, _, _, _, _, _, _, h => h.elim
  | .loop _, .c _ _, _, _, _, _, _, _, _, _, _, _, h => h.elim
  | .loop _, .b _, _, _, _, _, _, _, _, _, _, _, h => h.elim
  | .loop _, .r _ _ _, _, _, _, _, _, _, _, _, _, _, h => h.elim
  | .rangeFunc _ _ _ _, .o, _, _, _, _, _, _, _, _, _, _, h => h.elim
  | .rangeFunc _ _ _ _, .s _ _, _, _, _, _, _, _, _, _, _, _, h => h.elim
  | .rangeFunc _ _ _ _, .c _ _, _, _, _, _, _, _, _, _, _, _, h => h.elim
  | .rangeFunc _ _ _ _, .b _, _, _, _, _, _, _, _, _, _, _, h => h.elim
  | .rangeFunc _ _ _ _, .l _ _, _, _, _, _, _, _, _, _, _, _, h => h.elim
  | .scope _, _, _, _, _, _, _, _, _, _, _, _, h => h.elim
  | .goto _, _, _, _, _, _, _, _, _, _, _, _, h => h.elim
  | .refuse _, _, _, _, _, _, _, _, _, _, _, _, h => h.elim

/-! functions -/
/-- the blocks for deferred calls are shut at the return -/
def Dfr : List Nat → World → (World → Prop) → Prop
  | [], w, K => K w
  | r :: rs, w, K => w.heap[r]? = some (.deferred (some [])) ∧ Dfr rs (w.putObj r (.deferred none)) K
def retM (P : Program) (rs : List ResultVar) (ks : List Ki) (K : FnK ks (World → Prop)) : Exit → AF → List Nat → World → Prop
  | .normal, f, ms, w | .ret, f, ms, w => Dfr ms w fun w => RetV P rs f w [] fun vs => decRes ks (resVal vs) K w
  | _, _, _, _ => False
theorem calls_of_vcR {P : Program} (hm : P.follows .mixedOrders = true) {i : FuncId} {fn : Func} {c : Code} {args : List Value} {w : World} {ks : List Ki} {K : FnK ks (World → Prop)} (n : Nat) (rs : List ResultVar)
    (hf : P.funcs[i]? = some fn) (hb : fn.body = some c) (hn : fn.ntmps = n) (hl : args.length ≤ n) (hrs : fn.results.toList = rs) (p : PlanR) (h : vcR P n false c p (retM P rs ks K) (initF args n) [] w) : Cl P ks i ⟨args⟩ w K := by
  refine (callsIn_wide (n := 0)).1 (callsIn_of_wp_marks (F := Fence.wide) hf hb trivial ?_)
  subst hn; subst hrs
  have hsz : ((⟨args⟩ : Array Value) ++ Array.replicate (fn.ntmps - (⟨args⟩ : Array Value).size) undef).size = fn.ntmps := by simp; omega
  have hr : Rel fn.ntmps (([] : List Nat).map mark) { tmps := (⟨args⟩ : Array Value) ++ Array.replicate (fn.ntmps - (⟨args⟩ : Array Value).size) undef, defers := [] } (initF args fn.ntmps) := by
    refine ⟨hsz, fun i hi => has_bld _ _ _ _ hi, rfl, fun i v hv => ?_⟩
    have h1 := get_bld _ _ _ _ _ hv
    simp only [Option.some.injEq] at h1
    have hi : i < fn.ntmps := has_bld _ _ _ _ (get_has hv)
    simp only [Array.getD_eq_getD_getElem?]
    have h2 : ((⟨args⟩ : Array Value) ++ Array.replicate (fn.ntmps - (⟨args⟩ : Array Value).size) undef)[i]? = (args ++ List.replicate (fn.ntmps - args.length) undef)[i]? := by
      rw [← Array.getElem?_toList]
      simp
    rw [h2, ← h1]
    by_cases ha : i < args.length
    · simp [List.getElem?_append_left ha, List.getD_eq_getElem?_getD]
    · rw [List.getElem?_append_right (by omega), List.getElem?_replicate]
      rw [if_pos (by omega)]
      simp [List.getD_eq_getElem?_getD, List.getElem?_eq_none (by omega : args.length ≤ i)]
  refine Go.wpIn_mono (vcR_sound hm c p false none rfl 0 _ _ [] w _ hr h) fun e a w' ⟨f, ms, hr, hq⟩ => ?_
  have fin : ∀ (ms : List Nat) (w' : World), (Dfr ms w' fun w => RetV P fn.results.toList f w [] fun vs => decRes ks (resVal vs) K w) → LeavesInM Fence.wide 0 P fn a.tmps (resPost ks K) (ms.map mark) .returning w' := by
    intro ms
    induction ms with
    | nil =>
      intro w' hq
      obtain ⟨vs, h1, h2⟩ := RetV_sound hr _ _ hq
      refine ⟨resVal vs, ?_, h2⟩
      rw [results_eq, Array.mapM_eq_mapM_toList]
      simp only [Sem.run_bind, Sem.run_map, h1, Result.andThen_ok, Sem.run_pure]
      congr 1
      match vs with
      | [] => rfl
      | [v] => rfl
      | a :: b :: l => simp [resVal]
    | cons r ms ih =>
      intro w' hq
      exact ⟨by simp, .inl ⟨r, _, rfl, run_takeDeferred hq.1, ih _ hq.2⟩⟩
  have hd := hr.defs
  cases e <;> first | exact hq.elim | (show LeavesInM _ _ _ _ _ _ a.defers _ _; rw [hd]; exact fin ms w' hq)
theorem calls_of_eqR {P : Program} (hm : P.follows .mixedOrders = true) {i : FuncId} {w : World} {F : Prop} (fn : Func) (args : List Value) (ks : List Ki) (K : FnK ks (World → Prop)) (n : Nat) (rs : List ResultVar)
    (hf : P.funcs[i]? = some fn) (hb : fn.body = some (fn.body.getD .skip)) (hn : fn.ntmps = n) (hl : Nat.ble args.length n = true) (hrs : fn.results.toList = rs) (p : PlanR)
    (he : vcR P n false (fn.body.getD .skip) p (retM P rs ks K) (initF args n) [] w = F) (h : F) : Cl P ks i ⟨args⟩ w K :=
  calls_of_vcR hm n rs hf hb hn (Nat.le_of_ble_eq_true hl) hrs p (he ▸ h)
end
end Go.Vc
/- F -/
namespace Go.Proofs.Ytjnjjibmlalpiaa
open Go Go.Vc
abbrev n_law27_ParserChunks : Nat := 3
abbrev n_law27_ParserEarly : Nat := 4
abbrev n_ref03_Great : Nat := 5
abbrev n_law27_wakes : Nat := 6
abbrev n_ref27_Join : Nat := 7
abbrev n_bitreader_New : Nat := 8
abbrev n_parser_New : Nat := 9
abbrev n_bitreader_Reader_Feed : Nat := 10
abbrev n_bitreader_Reader_End : Nat := 11
abbrev n_law27_steps : Nat := 12
abbrev n_bitreader_Reader_Left : Nat := 13
abbrev n_law27_alike : Nat := 14
abbrev n_ref27_Equal : Nat := 15
abbrev n_parser_Parser_Size : Nat := 16
abbrev n_parser_Parser_Step : Nat := 17
abbrev n_parser_Equal : Nat := 18
abbrev n_ref03_Join : Nat := 19
abbrev n_parser_inHead : Nat := 20
abbrev n_parser_Parser_heads : Nat := 21
abbrev n_parser_inMark : Nat := 22
abbrev n_parser_Parser_marks : Nat := 23
abbrev n_parser_inTable : Nat := 24
abbrev n_parser_Parser_tables : Nat := 25
abbrev n_parser_inSymbols : Nat := 26
abbrev n_parser_Parser_symbols : Nat := 27
abbrev n_parser_inPadding : Nat := 28
abbrev n_parser_Parser_padding : Nat := 29
abbrev n_parser_behind : Nat := 30
abbrev n_parser_Parser_rests : Nat := 31
abbrev n_parser_over : Nat := 32
abbrev n_parser_Parser_ends : Nat := 33
abbrev n_parser_bad : Nat := 34
abbrev n_parser_Parser_fails : Nat := 35
abbrev n_bytes_Equal : Nat := 36
abbrev n_parser_Parser_take : Nat := 37
abbrev n_header_Step : Nat := 38
abbrev n_parser_Parser_wrong : Nat := 39
abbrev n_header_StepMark : Nat := 40
abbrev n_lengthtable_Step : Nat := 41
abbrev n_prefixdec_New : Nat := 42
abbrev n_symdec_New : Nat := 43
abbrev n_prefixdec_Step : Nat := 44
abbrev n_symdec_Step : Nat := 45
abbrev n_bitreader_Reader_Align : Nat := 46
abbrev n_bitreader_Reader_Ended : Nat := 47
abbrev n_bitreader_Reader_Take : Nat := 48
abbrev n_header_Valid : Nat := 49
abbrev n_header_grow : Nat := 50
abbrev n_header_mark : Nat := 51
abbrev n_header_many : Nat := 52
abbrev n_header_index : Nat := 53
abbrev n_header_sum : Nat := 54
abbrev n_header_ValidMark : Nat := 55
abbrev n_lengthtable_Valid : Nat := 56
abbrev n_lengthtable_next : Nat := 57
abbrev n_kraft_Table : Nat := 58
abbrev n_mtf_New : Nat := 59
abbrev n_prefixdec_Valid : Nat := 60
abbrev n_prefixdec_first : Nat := 61
abbrev n_prefixdec_of : Nat := 62
abbrev n_symdec_Valid : Nat := 63
abbrev n_symdec_step : Nat := 64
abbrev n_bitreader_Reader_Peek : Nat := 65
abbrev n_header_comes : Nat := 66
abbrev n_header_within : Nat := 67
abbrev n_varint_Step : Nat := 68
abbrev n_header_sums : Nat := 69
abbrev n_lengthtable_beginning : Nat := 70
abbrev n_lengthtable_within : Nat := 71
abbrev n_lengthtable_known : Nat := 72
abbrev n_lengthtable_turned : Nat := 73
abbrev n_kraft_Complete : Nat := 74
abbrev n_kraft_Counts : Nat := 75
abbrev n_mtf_Valid : Nat := 76
abbrev n_zerorun_Add : Nat := 77
abbrev n_symdec_run : Nat := 78
abbrev n_mtf_Take : Nat := 79
abbrev n_varint_Valid : Nat := 80
abbrev n_kraft_Sum : Nat := 81
abbrev n_mtf_ones : Nat := 82
abbrev n_bytes_Repeat : Nat := 83
abbrev n_kraft_share : Nat := 84
abbrev n_math_bits_Mul : Nat := 85
abbrev n_internal_bytealg_MakeNoZero : Nat := 86
abbrev n_math_bits_Mul32 : Nat := 87
abbrev n_math_bits_Mul64 : Nat := 88
theorem Try.mix : Try.prog.follows .mixedOrders = true := by kernel_rfl
end Go.Proofs.Ytjnjjibmlalpiaa
/- Flaw27 -/
namespace Go.Proofs.Ytjnjjibmlalpiaa
open Go Go.Vc
set_option maxRecDepth 100000 in
/-- winepresslaw27.ParserChunks -/
def law27_ParserChunks.E (chunks1 : Sl) (R : Bool → World → Prop) (w : World) : Prop :=
 Cl Try.prog [kB] n_ref03_Great ⟨[(.slice chunks1.base chunks1.len chunks1.cap)]⟩ w fun (r3 : Bool) (w_2 : World) =>
 IfB r3
 (Cl Try.prog [kB] n_law27_wakes ⟨[]⟩ w_2 fun (r5 : Bool) (w_4 : World) =>
 R (r5) w_4)
 (Cl Try.prog [kS] n_ref27_Join ⟨[(.slice chunks1.base chunks1.len chunks1.cap)]⟩ w_2 fun (r7 : Sl) (w_6 : World) =>
 IfB (decide (((r7.len : Int) : Int) > (600 : Int)))
 (Cl Try.prog [kB] n_law27_wakes ⟨[]⟩ w_6 fun (r9 : Bool) (w_8 : World) =>
 R (r9) w_8)
 (Cl Try.prog [kP] n_bitreader_New ⟨[]⟩ w_6 fun (r11 : (Option Addr)) (w_10 : World) =>
 Cl Try.prog [kP] n_parser_New ⟨[]⟩ w_10 fun (r13 : (Option Addr)) (w_12 : World) =>
 Cl Try.prog [kP] n_bitreader_New ⟨[]⟩ w_12 fun (r15 : (Option Addr)) (w_14 : World) =>
 Cl Try.prog [kP] n_parser_New ⟨[]⟩ w_14 fun (r17 : (Option Addr)) (w_16 : World) =>
 Join (fun (w_19 : World) =>
 Nw 25 ⟨[(.slice r7.base r7.len r7.cap)]⟩ w_19 fun (b21 : Nat) (w_20 : World) =>
 Cl Try.prog [kB] n_bitreader_Reader_Feed ⟨[(.pointer r11), (.slice (⟨some ⟨b21, 0, none⟩, 1, 1⟩ : Sl).base (⟨some ⟨b21, 0, none⟩, 1, 1⟩ : Sl).len (⟨some ⟨b21, 0, none⟩, 1, 1⟩ : Sl).cap)]⟩ w_20 fun (r23 : Bool) (w_22 : World) =>
 Cl Try.prog [kB] n_bitreader_Reader_End ⟨[(.pointer r11)]⟩ w_22 fun (r25 : Bool) (w_24 : World) =>
 Cl Try.prog [kS, (.st [.int .u8, .int .i64, .int .i64, .int .i64, .int .u32, .sl, .int .i64])] n_law27_steps ⟨[(.pointer r13), (.pointer r11), (.int .i64 6000)]⟩ w_24 fun (r27 : Sl) (r28 : (TT [.int .u8, .int .i64, .int .i64, .int .i64, .int .u32, .sl, .int .i64])) (w_26 : World) =>
 Nw 38 ⟨[(.int .u8 0), (.int .i64 0), (.int .i64 0), (.int .i64 0), (.int .u32 0), (.slice none 0 0), (.int .i64 0)]⟩ w_26 fun (b30 : Nat) (w_29 : World) =>
 StC (⟨b30, 0, none⟩ : Addr) [(.int .u8 r28.1), (.int .i64 r28.2.1), (.int .i64 r28.2.2.1), (.int .i64 r28.2.2.2.1), (.int .u32 r28.2.2.2.2.1), (.slice r28.2.2.2.2.2.1.base r28.2.2.2.2.2.1.len r28.2.2.2.2.2.1.cap), (.int .i64 r28.2.2.2.2.2.2.1)] 0 w_29 fun (w_31 : World) =>
 Nw 38 ⟨[(.int .u8 0), (.int .i64 0), (.int .i64 0), (.int .i64 0), (.int .u32 0), (.slice none 0 0), (.int .i64 0)]⟩ w_31 fun (b33 : Nat) (w_32 : World) =>
 StC (⟨b33, 0, none⟩ : Addr) [(.int .u8 0), (.int .i64 0), (.int .i64 0), (.int .i64 0), (.int .u32 0), (.slice none 0 0), (.int .i64 0)] 0 w_32 fun (w_34 : World) =>
 ∃ (I_35 : Sl → Int → World → Prop) (m_36 : Sl → Int → World → Nat), I_35 ((⟨none, 0, 0⟩ : Sl)) (0) w_34 ∧
 ∀ (b37 : Sl) (i38 : Int), ∀ (w_39 : World), I_35 b37 i38 w_39 →
 IfB (decide ((i38 : Int) < ((chunks1.len : Int) : Int)))
 (Idx chunks1 i38 1 fun (q40 : Addr) =>
 Ld kS q40 w_39 fun (x41 : Sl) =>
 Nw 25 ⟨[(.slice x41.base x41.len x41.cap)]⟩ w_39 fun (b43 : Nat) (w_42 : World) =>
 Cl Try.prog [kB] n_bitreader_Reader_Feed ⟨[(.pointer r15), (.slice (⟨some ⟨b43, 0, none⟩, 1, 1⟩ : Sl).base (⟨some ⟨b43, 0, none⟩, 1, 1⟩ : Sl).len (⟨some ⟨b43, 0, none⟩, 1, 1⟩ : Sl).cap)]⟩ w_42 fun (r45 : Bool) (w_44 : World) =>
 Cl Try.prog [kS, (.st [.int .u8, .int .i64, .int .i64, .int .i64, .int .u32, .sl, .int .i64])] n_law27_steps ⟨[(.pointer r17), (.pointer r15), (.int .i64 6000)]⟩ w_44 fun (r47 : Sl) (r48 : (TT [.int .u8, .int .i64, .int .i64, .int .i64, .int .u32, .sl, .int .i64])) (w_46 : World) =>
 Nw 38 ⟨[(.int .u8 0), (.int .i64 0), (.int .i64 0), (.int .i64 0), (.int .u32 0), (.slice none 0 0), (.int .i64 0)]⟩ w_46 fun (b50 : Nat) (w_49 : World) =>
 StC (⟨b50, 0, none⟩ : Addr) [(.int .u8 r48.1), (.int .i64 r48.2.1), (.int .i64 r48.2.2.1), (.int .i64 r48.2.2.2.1), (.int .u32 r48.2.2.2.2.1), (.slice r48.2.2.2.2.2.1.base r48.2.2.2.2.2.1.len r48.2.2.2.2.2.1.cap), (.int .i64 r48.2.2.2.2.2.2.1)] 0 w_49 fun (w_51 : World) =>
 Run Try.prog (Builtin.append_ #[32, 32] 32 ⟨[(.slice b37.base b37.len b37.cap), (.slice r47.base r47.len r47.cap)]⟩) kS w_51 fun (s53 : Sl) (w_52 : World) =>
 Ld (.st [.int .u8, .int .i64, .int .i64, .int .i64, .int .u32, .sl, .int .i64]) (⟨b50, 0, none⟩ : Addr) w_52 fun (x54 : (TT [.int .u8, .int .i64, .int .i64, .int .i64, .int .u32, .sl, .int .i64])) =>
 StC (⟨b33, 0, none⟩ : Addr) [(.int .u8 x54.1), (.int .i64 x54.2.1), (.int .i64 x54.2.2.1), (.int .i64 x54.2.2.2.1), (.int .u32 x54.2.2.2.2.1), (.slice x54.2.2.2.2.2.1.base x54.2.2.2.2.2.1.len x54.2.2.2.2.2.1.cap), (.int .i64 x54.2.2.2.2.2.2.1)] 0 w_52 fun (w_55 : World) =>
 Ld (kInt .u8) ((⟨b50, 0, none⟩ : Addr).add 0) w_55 fun (Kind56 : Int) =>
 IfB ((Kind56 : Int) == (1 : Int))
 (Cl Try.prog [kI] n_bitreader_Reader_Left ⟨[(.pointer r15)]⟩ w_55 fun (r58 : Int) (w_57 : World) =>
 IfB ((r58 : Int) != (0 : Int))
 (R (false) w_57)
 (Ld (kInt .u8) ((⟨b50, 0, none⟩ : Addr).add 0) w_57 fun (Kind59 : Int) =>
 IfB ((Kind59 : Int) != (1 : Int))
 (Ld (kInt .u8) ((⟨b50, 0, none⟩ : Addr).add 0) w_57 fun (Kind60 : Int) =>
 IfB ((Kind60 : Int) != (8 : Int))
 (R (false) w_57)
 (I_35 (s53) ((i64 ((i38 : Int) + (1 : Int)))) w_57 ∧ m_36 (s53) ((i64 ((i38 : Int) + (1 : Int)))) w_57 < m_36 b37 i38 w_39))
 (I_35 (s53) ((i64 ((i38 : Int) + (1 : Int)))) w_57 ∧ m_36 (s53) ((i64 ((i38 : Int) + (1 : Int)))) w_57 < m_36 b37 i38 w_39)))
 (Ld (kInt .u8) ((⟨b50, 0, none⟩ : Addr).add 0) w_55 fun (Kind61 : Int) =>
 IfB ((Kind61 : Int) != (1 : Int))
 (Ld (kInt .u8) ((⟨b50, 0, none⟩ : Addr).add 0) w_55 fun (Kind62 : Int) =>
 IfB ((Kind62 : Int) != (8 : Int))
 (R (false) w_55)
 (I_35 (s53) ((i64 ((i38 : Int) + (1 : Int)))) w_55 ∧ m_36 (s53) ((i64 ((i38 : Int) + (1 : Int)))) w_55 < m_36 b37 i38 w_39))
 (I_35 (s53) ((i64 ((i38 : Int) + (1 : Int)))) w_55 ∧ m_36 (s53) ((i64 ((i38 : Int) + (1 : Int)))) w_55 < m_36 b37 i38 w_39)))
 (Cl Try.prog [kB] n_bitreader_Reader_End ⟨[(.pointer r15)]⟩ w_39 fun (r64 : Bool) (w_63 : World) =>
 Cl Try.prog [kS, (.st [.int .u8, .int .i64, .int .i64, .int .i64, .int .u32, .sl, .int .i64])] n_law27_steps ⟨[(.pointer r17), (.pointer r15), (.int .i64 6000)]⟩ w_63 fun (r66 : Sl) (r67 : (TT [.int .u8, .int .i64, .int .i64, .int .i64, .int .u32, .sl, .int .i64])) (w_65 : World) =>
 Nw 38 ⟨[(.int .u8 0), (.int .i64 0), (.int .i64 0), (.int .i64 0), (.int .u32 0), (.slice none 0 0), (.int .i64 0)]⟩ w_65 fun (b69 : Nat) (w_68 : World) =>
 StC (⟨b69, 0, none⟩ : Addr) [(.int .u8 r67.1), (.int .i64 r67.2.1), (.int .i64 r67.2.2.1), (.int .i64 r67.2.2.2.1), (.int .u32 r67.2.2.2.2.1), (.slice r67.2.2.2.2.2.1.base r67.2.2.2.2.2.1.len r67.2.2.2.2.2.1.cap), (.int .i64 r67.2.2.2.2.2.2.1)] 0 w_68 fun (w_70 : World) =>
 Run Try.prog (Builtin.append_ #[32, 32] 32 ⟨[(.slice b37.base b37.len b37.cap), (.slice r66.base r66.len r66.cap)]⟩) kS w_70 fun (s72 : Sl) (w_71 : World) =>
 Cl Try.prog [kB] n_law27_alike ⟨[(.slice r27.base r27.len r27.cap), (.slice s72.base s72.len s72.cap)]⟩ w_71 fun (r74 : Bool) (w_73 : World) =>
 IfB r74
 (Ld (.st [.int .u8, .int .i64, .int .i64, .int .i64, .int .u32, .sl, .int .i64]) (⟨b30, 0, none⟩ : Addr) w_73 fun (x75 : (TT [.int .u8, .int .i64, .int .i64, .int .i64, .int .u32, .sl, .int .i64])) =>
 Ld (.st [.int .u8, .int .i64, .int .i64, .int .i64, .int .u32, .sl, .int .i64]) (⟨b69, 0, none⟩ : Addr) w_73 fun (x76 : (TT [.int .u8, .int .i64, .int .i64, .int .i64, .int .u32, .sl, .int .i64])) =>
 Cl Try.prog [kB] n_ref27_Equal ⟨[(.agg ⟨[(.int .u8 x75.1), (.int .i64 x75.2.1), (.int .i64 x75.2.2.1), (.int .i64 x75.2.2.2.1), (.int .u32 x75.2.2.2.2.1), (.slice x75.2.2.2.2.2.1.base x75.2.2.2.2.2.1.len x75.2.2.2.2.2.1.cap), (.int .i64 x75.2.2.2.2.2.2.1)]⟩), (.agg ⟨[(.int .u8 x76.1), (.int .i64 x76.2.1), (.int .i64 x76.2.2.1), (.int .i64 x76.2.2.2.1), (.int .u32 x76.2.2.2.2.1), (.slice x76.2.2.2.2.2.1.base x76.2.2.2.2.2.1.len x76.2.2.2.2.2.1.cap), (.int .i64 x76.2.2.2.2.2.2.1)]⟩)]⟩ w_73 fun (r78 : Bool) (w_77 : World) =>
 IfB r78
 (Ld (kInt .u8) ((⟨b33, 0, none⟩ : Addr).add 0) w_77 fun (Kind79 : Int) =>
 IfB ((Kind79 : Int) != (8 : Int))
 (Ld (kInt .u8) ((⟨b30, 0, none⟩ : Addr).add 0) w_77 fun (Kind80 : Int) =>
 IfB ((Kind80 : Int) == (7 : Int))
 (Cl Try.prog [kB] n_law27_wakes ⟨[]⟩ w_77 fun (r82 : Bool) (w_81 : World) =>
 R (r82) w_81)
 (Ld (kInt .u8) ((⟨b30, 0, none⟩ : Addr).add 0) w_77 fun (Kind83 : Int) =>
 IfB ((Kind83 : Int) == (8 : Int))
 (Cl Try.prog [kB] n_law27_wakes ⟨[]⟩ w_77 fun (r85 : Bool) (w_84 : World) =>
 R (r85) w_84)
 (R (false) w_77)))
 (Ld (.st [.int .u8, .int .i64, .int .i64, .int .i64, .int .u32, .sl, .int .i64]) (⟨b33, 0, none⟩ : Addr) w_77 fun (x86 : (TT [.int .u8, .int .i64, .int .i64, .int .i64, .int .u32, .sl, .int .i64])) =>
 Ld (.st [.int .u8, .int .i64, .int .i64, .int .i64, .int .u32, .sl, .int .i64]) (⟨b30, 0, none⟩ : Addr) w_77 fun (x87 : (TT [.int .u8, .int .i64, .int .i64, .int .i64, .int .u32, .sl, .int .i64])) =>
 Cl Try.prog [kB] n_ref27_Equal ⟨[(.agg ⟨[(.int .u8 x86.1), (.int .i64 x86.2.1), (.int .i64 x86.2.2.1), (.int .i64 x86.2.2.2.1), (.int .u32 x86.2.2.2.2.1), (.slice x86.2.2.2.2.2.1.base x86.2.2.2.2.2.1.len x86.2.2.2.2.2.1.cap), (.int .i64 x86.2.2.2.2.2.2.1)]⟩), (.agg ⟨[(.int .u8 x87.1), (.int .i64 x87.2.1), (.int .i64 x87.2.2.1), (.int .i64 x87.2.2.2.1), (.int .u32 x87.2.2.2.2.1), (.slice x87.2.2.2.2.2.1.base x87.2.2.2.2.2.1.len x87.2.2.2.2.2.1.cap), (.int .i64 x87.2.2.2.2.2.2.1)]⟩)]⟩ w_77 fun (r89 : Bool) (w_88 : World) =>
 IfB r89
 (Ld (kInt .u8) ((⟨b30, 0, none⟩ : Addr).add 0) w_88 fun (Kind90 : Int) =>
 IfB ((Kind90 : Int) == (7 : Int))
 (Cl Try.prog [kB] n_law27_wakes ⟨[]⟩ w_88 fun (r92 : Bool) (w_91 : World) =>
 R (r92) w_91)
 (Ld (kInt .u8) ((⟨b30, 0, none⟩ : Addr).add 0) w_88 fun (Kind93 : Int) =>
 IfB ((Kind93 : Int) == (8 : Int))
 (Cl Try.prog [kB] n_law27_wakes ⟨[]⟩ w_88 fun (r95 : Bool) (w_94 : World) =>
 R (r95) w_94)
 (R (false) w_88)))
 (R (false) w_88)))
 (R (false) w_77))
 (R (false) w_73))) fun (K_18 : World → Prop) =>
 IfB (Option.isNone (r11 : Option Addr))
 (R (false) w_16)
 (IfB (Option.isNone (r13 : Option Addr))
 (R (false) w_16)
 (IfB (Option.isNone (r15 : Option Addr))
 (R (false) w_16)
 (IfB (Option.isNone (r17 : Option Addr))
 (R (false) w_16)
 (K_18  w_16))))))
set_option maxRecDepth 100000 in
theorem law27_ParserChunks.ok (chunks1 : Sl) (R : Bool → World → Prop) (w : World) (h : law27_ParserChunks.E chunks1 R w) : Cl Try.prog [kB] n_law27_ParserChunks ⟨[(.slice chunks1.base chunks1.len chunks1.cap)]⟩ w R :=
  calls_of_eq Try.mix Try.f3 [(.slice chunks1.base chunks1.len chunks1.cap)] [kB] R 140 [.tmp 2] (by kernel_rfl) (by kernel_rfl) (by kernel_rfl) (by kernel_rfl) (by kernel_rfl)
    (.s .o (.s (.s .o (.c (.s .o .o) .o)) (.s .o (.s (.s .o (.c (.s .o .o) .o)) (.s .o (.s .o (.j [] (.s .o (.c (.s .o .o) .o)) (.s .o (.s .o (.s .o (.s .o (.s .o (.s (.s .o (.b (.l [(10, kS), (12, kI)] (.s (.s .o (.c .o .o)) (.s (.b (.s .o (.s .o (.s .o (.s .o (.s .o (.c (.s .o .o) .o))))))) .o))))) (.s .o (.s .o (.s .o (.s .o .o)))))))))))))))))
    (by kernel_rfl) h
set_option maxRecDepth 100000 in
/-- winepresslaw27.ParserEarly -/
def law27_ParserEarly.E (c1 : Sl) (many2 : Int) (R : Bool → World → Prop) (w : World) : Prop :=
 IfB (decide (((c1.len : Int) : Int) > (400 : Int)))
 (Cl Try.prog [kB] n_law27_wakes ⟨[]⟩ w fun (r4 : Bool) (w_3 : World) =>
 R (r4) w_3)
 (Cl Try.prog [kP] n_bitreader_New ⟨[]⟩ w fun (r6 : (Option Addr)) (w_5 : World) =>
 Cl Try.prog [kP] n_parser_New ⟨[]⟩ w_5 fun (r8 : (Option Addr)) (w_7 : World) =>
 Cl Try.prog [kP] n_bitreader_New ⟨[]⟩ w_7 fun (r10 : (Option Addr)) (w_9 : World) =>
 Cl Try.prog [kP] n_parser_New ⟨[]⟩ w_9 fun (r12 : (Option Addr)) (w_11 : World) =>
 Join (fun (w_14 : World) =>
 Slc c1 0 (if ((c1.len : Int) : Int) < ((if (0 : Int) > (many2 : Int) then (0 : Int) else (many2 : Int)) : Int) then ((c1.len : Int) : Int) else ((if (0 : Int) > (many2 : Int) then (0 : Int) else (many2 : Int)) : Int)) (c1).cap 1 fun (s15 : Sl) =>
 Nw 25 ⟨[(.slice s15.base s15.len s15.cap)]⟩ w_14 fun (b17 : Nat) (w_16 : World) =>
 Cl Try.prog [kB] n_bitreader_Reader_Feed ⟨[(.pointer r6), (.slice (⟨some ⟨b17, 0, none⟩, 1, 1⟩ : Sl).base (⟨some ⟨b17, 0, none⟩, 1, 1⟩ : Sl).len (⟨some ⟨b17, 0, none⟩, 1, 1⟩ : Sl).cap)]⟩ w_16 fun (r19 : Bool) (w_18 : World) =>
 Cl Try.prog [kS, (.st [.int .u8, .int .i64, .int .i64, .int .i64, .int .u32, .sl, .int .i64])] n_law27_steps ⟨[(.pointer r8), (.pointer r6), (.int .i64 6000)]⟩ w_18 fun (r21 : Sl) (r22 : (TT [.int .u8, .int .i64, .int .i64, .int .i64, .int .u32, .sl, .int .i64])) (w_20 : World) =>
 Nw 38 ⟨[(.int .u8 0), (.int .i64 0), (.int .i64 0), (.int .i64 0), (.int .u32 0), (.slice none 0 0), (.int .i64 0)]⟩ w_20 fun (b24 : Nat) (w_23 : World) =>
 StC (⟨b24, 0, none⟩ : Addr) [(.int .u8 r22.1), (.int .i64 r22.2.1), (.int .i64 r22.2.2.1), (.int .i64 r22.2.2.2.1), (.int .u32 r22.2.2.2.2.1), (.slice r22.2.2.2.2.2.1.base r22.2.2.2.2.2.1.len r22.2.2.2.2.2.1.cap), (.int .i64 r22.2.2.2.2.2.2.1)] 0 w_23 fun (w_25 : World) =>
 Slc c1 (if ((c1.len : Int) : Int) < ((if (0 : Int) > (many2 : Int) then (0 : Int) else (many2 : Int)) : Int) then ((c1.len : Int) : Int) else ((if (0 : Int) > (many2 : Int) then (0 : Int) else (many2 : Int)) : Int)) (c1).len (c1).cap 1 fun (s26 : Sl) =>
 Nw 25 ⟨[(.slice s26.base s26.len s26.cap)]⟩ w_25 fun (b28 : Nat) (w_27 : World) =>
 Cl Try.prog [kB] n_bitreader_Reader_Feed ⟨[(.pointer r6), (.slice (⟨some ⟨b28, 0, none⟩, 1, 1⟩ : Sl).base (⟨some ⟨b28, 0, none⟩, 1, 1⟩ : Sl).len (⟨some ⟨b28, 0, none⟩, 1, 1⟩ : Sl).cap)]⟩ w_27 fun (r30 : Bool) (w_29 : World) =>
 Cl Try.prog [kS, (.st [.int .u8, .int .i64, .int .i64, .int .i64, .int .u32, .sl, .int .i64])] n_law27_steps ⟨[(.pointer r8), (.pointer r6), (.int .i64 6000)]⟩ w_29 fun (r32 : Sl) (r33 : (TT [.int .u8, .int .i64, .int .i64, .int .i64, .int .u32, .sl, .int .i64])) (w_31 : World) =>
 Nw 38 ⟨[(.int .u8 0), (.int .i64 0), (.int .i64 0), (.int .i64 0), (.int .u32 0), (.slice none 0 0), (.int .i64 0)]⟩ w_31 fun (b35 : Nat) (w_34 : World) =>
 StC (⟨b35, 0, none⟩ : Addr) [(.int .u8 r33.1), (.int .i64 r33.2.1), (.int .i64 r33.2.2.1), (.int .i64 r33.2.2.2.1), (.int .u32 r33.2.2.2.2.1), (.slice r33.2.2.2.2.2.1.base r33.2.2.2.2.2.1.len r33.2.2.2.2.2.1.cap), (.int .i64 r33.2.2.2.2.2.2.1)] 0 w_34 fun (w_36 : World) =>
 Nw 25 ⟨[(.slice c1.base c1.len c1.cap)]⟩ w_36 fun (b38 : Nat) (w_37 : World) =>
 Cl Try.prog [kB] n_bitreader_Reader_Feed ⟨[(.pointer r10), (.slice (⟨some ⟨b38, 0, none⟩, 1, 1⟩ : Sl).base (⟨some ⟨b38, 0, none⟩, 1, 1⟩ : Sl).len (⟨some ⟨b38, 0, none⟩, 1, 1⟩ : Sl).cap)]⟩ w_37 fun (r40 : Bool) (w_39 : World) =>
 Cl Try.prog [kS, (.st [.int .u8, .int .i64, .int .i64, .int .i64, .int .u32, .sl, .int .i64])] n_law27_steps ⟨[(.pointer r12), (.pointer r10), (.int .i64 6000)]⟩ w_39 fun (r42 : Sl) (r43 : (TT [.int .u8, .int .i64, .int .i64, .int .i64, .int .u32, .sl, .int .i64])) (w_41 : World) =>
 Nw 38 ⟨[(.int .u8 0), (.int .i64 0), (.int .i64 0), (.int .i64 0), (.int .u32 0), (.slice none 0 0), (.int .i64 0)]⟩ w_41 fun (b45 : Nat) (w_44 : World) =>
 StC (⟨b45, 0, none⟩ : Addr) [(.int .u8 r43.1), (.int .i64 r43.2.1), (.int .i64 r43.2.2.1), (.int .i64 r43.2.2.2.1), (.int .u32 r43.2.2.2.2.1), (.slice r43.2.2.2.2.2.1.base r43.2.2.2.2.2.1.len r43.2.2.2.2.2.1.cap), (.int .i64 r43.2.2.2.2.2.2.1)] 0 w_44 fun (w_46 : World) =>
 Ld (kInt .u8) ((⟨b24, 0, none⟩ : Addr).add 0) w_46 fun (Kind47 : Int) =>
 IfB ((Kind47 : Int) == (8 : Int))
 (IfB (decide (((r32.len : Int) : Int) > (0 : Int)))
 (R (false) w_46)
 (Ld (.st [.int .u8, .int .i64, .int .i64, .int .i64, .int .u32, .sl, .int .i64]) (⟨b24, 0, none⟩ : Addr) w_46 fun (x48 : (TT [.int .u8, .int .i64, .int .i64, .int .i64, .int .u32, .sl, .int .i64])) =>
 Ld (.st [.int .u8, .int .i64, .int .i64, .int .i64, .int .u32, .sl, .int .i64]) (⟨b35, 0, none⟩ : Addr) w_46 fun (x49 : (TT [.int .u8, .int .i64, .int .i64, .int .i64, .int .u32, .sl, .int .i64])) =>
 Cl Try.prog [kB] n_ref27_Equal ⟨[(.agg ⟨[(.int .u8 x48.1), (.int .i64 x48.2.1), (.int .i64 x48.2.2.1), (.int .i64 x48.2.2.2.1), (.int .u32 x48.2.2.2.2.1), (.slice x48.2.2.2.2.2.1.base x48.2.2.2.2.2.1.len x48.2.2.2.2.2.1.cap), (.int .i64 x48.2.2.2.2.2.2.1)]⟩), (.agg ⟨[(.int .u8 x49.1), (.int .i64 x49.2.1), (.int .i64 x49.2.2.1), (.int .i64 x49.2.2.2.1), (.int .u32 x49.2.2.2.2.1), (.slice x49.2.2.2.2.2.1.base x49.2.2.2.2.2.1.len x49.2.2.2.2.2.1.cap), (.int .i64 x49.2.2.2.2.2.2.1)]⟩)]⟩ w_46 fun (r51 : Bool) (w_50 : World) =>
 IfB (!r51)
 (R (false) w_50)
 (Nw 38 ⟨[]⟩ w_50 fun (b53 : Nat) (w_52 : World) =>
 Run Try.prog (Builtin.append_ #[32, 32] 32 ⟨[(.slice (⟨some ⟨b53, 0, none⟩, 0, 0⟩ : Sl).base (⟨some ⟨b53, 0, none⟩, 0, 0⟩ : Sl).len (⟨some ⟨b53, 0, none⟩, 0, 0⟩ : Sl).cap), (.slice r21.base r21.len r21.cap)]⟩) kS w_52 fun (s55 : Sl) (w_54 : World) =>
 Run Try.prog (Builtin.append_ #[32, 32] 32 ⟨[(.slice s55.base s55.len s55.cap), (.slice r32.base r32.len r32.cap)]⟩) kS w_54 fun (s57 : Sl) (w_56 : World) =>
 Cl Try.prog [kB] n_law27_alike ⟨[(.slice s57.base s57.len s57.cap), (.slice r42.base r42.len r42.cap)]⟩ w_56 fun (r59 : Bool) (w_58 : World) =>
 IfB r59
 (Ld (.st [.int .u8, .int .i64, .int .i64, .int .i64, .int .u32, .sl, .int .i64]) (⟨b35, 0, none⟩ : Addr) w_58 fun (x60 : (TT [.int .u8, .int .i64, .int .i64, .int .i64, .int .u32, .sl, .int .i64])) =>
 Ld (.st [.int .u8, .int .i64, .int .i64, .int .i64, .int .u32, .sl, .int .i64]) (⟨b45, 0, none⟩ : Addr) w_58 fun (x61 : (TT [.int .u8, .int .i64, .int .i64, .int .i64, .int .u32, .sl, .int .i64])) =>
 Cl Try.prog [kB] n_ref27_Equal ⟨[(.agg ⟨[(.int .u8 x60.1), (.int .i64 x60.2.1), (.int .i64 x60.2.2.1), (.int .i64 x60.2.2.2.1), (.int .u32 x60.2.2.2.2.1), (.slice x60.2.2.2.2.2.1.base x60.2.2.2.2.2.1.len x60.2.2.2.2.2.1.cap), (.int .i64 x60.2.2.2.2.2.2.1)]⟩), (.agg ⟨[(.int .u8 x61.1), (.int .i64 x61.2.1), (.int .i64 x61.2.2.1), (.int .i64 x61.2.2.2.1), (.int .u32 x61.2.2.2.2.1), (.slice x61.2.2.2.2.2.1.base x61.2.2.2.2.2.1.len x61.2.2.2.2.2.1.cap), (.int .i64 x61.2.2.2.2.2.2.1)]⟩)]⟩ w_58 fun (r63 : Bool) (w_62 : World) =>
 IfB r63
 (Cl Try.prog [kI] n_parser_Parser_Size ⟨[(.pointer r8)]⟩ w_62 fun (r65 : Int) (w_64 : World) =>
 Cl Try.prog [kI] n_parser_Parser_Size ⟨[(.pointer r12)]⟩ w_64 fun (r67 : Int) (w_66 : World) =>
 IfB ((r65 : Int) == (r67 : Int))
 (Cl Try.prog [kB] n_law27_wakes ⟨[]⟩ w_66 fun (r69 : Bool) (w_68 : World) =>
 R (r69) w_68)
 (R (false) w_66))
 (R (false) w_62))
 (R (false) w_58))))
 (Nw 38 ⟨[]⟩ w_46 fun (b71 : Nat) (w_70 : World) =>
 Run Try.prog (Builtin.append_ #[32, 32] 32 ⟨[(.slice (⟨some ⟨b71, 0, none⟩, 0, 0⟩ : Sl).base (⟨some ⟨b71, 0, none⟩, 0, 0⟩ : Sl).len (⟨some ⟨b71, 0, none⟩, 0, 0⟩ : Sl).cap), (.slice r21.base r21.len r21.cap)]⟩) kS w_70 fun (s73 : Sl) (w_72 : World) =>
 Run Try.prog (Builtin.append_ #[32, 32] 32 ⟨[(.slice s73.base s73.len s73.cap), (.slice r32.base r32.len r32.cap)]⟩) kS w_72 fun (s75 : Sl) (w_74 : World) =>
 Cl Try.prog [kB] n_law27_alike ⟨[(.slice s75.base s75.len s75.cap), (.slice r42.base r42.len r42.cap)]⟩ w_74 fun (r77 : Bool) (w_76 : World) =>
 IfB r77
 (Ld (.st [.int .u8, .int .i64, .int .i64, .int .i64, .int .u32, .sl, .int .i64]) (⟨b35, 0, none⟩ : Addr) w_76 fun (x78 : (TT [.int .u8, .int .i64, .int .i64, .int .i64, .int .u32, .sl, .int .i64])) =>
 Ld (.st [.int .u8, .int .i64, .int .i64, .int .i64, .int .u32, .sl, .int .i64]) (⟨b45, 0, none⟩ : Addr) w_76 fun (x79 : (TT [.int .u8, .int .i64, .int .i64, .int .i64, .int .u32, .sl, .int .i64])) =>
 Cl Try.prog [kB] n_ref27_Equal ⟨[(.agg ⟨[(.int .u8 x78.1), (.int .i64 x78.2.1), (.int .i64 x78.2.2.1), (.int .i64 x78.2.2.2.1), (.int .u32 x78.2.2.2.2.1), (.slice x78.2.2.2.2.2.1.base x78.2.2.2.2.2.1.len x78.2.2.2.2.2.1.cap), (.int .i64 x78.2.2.2.2.2.2.1)]⟩), (.agg ⟨[(.int .u8 x79.1), (.int .i64 x79.2.1), (.int .i64 x79.2.2.1), (.int .i64 x79.2.2.2.1), (.int .u32 x79.2.2.2.2.1), (.slice x79.2.2.2.2.2.1.base x79.2.2.2.2.2.1.len x79.2.2.2.2.2.1.cap), (.int .i64 x79.2.2.2.2.2.2.1)]⟩)]⟩ w_76 fun (r81 : Bool) (w_80 : World) =>
 IfB r81
 (Cl Try.prog [kI] n_parser_Parser_Size ⟨[(.pointer r8)]⟩ w_80 fun (r83 : Int) (w_82 : World) =>
 Cl Try.prog [kI] n_parser_Parser_Size ⟨[(.pointer r12)]⟩ w_82 fun (r85 : Int) (w_84 : World) =>
 IfB ((r83 : Int) == (r85 : Int))
 (Cl Try.prog [kB] n_law27_wakes ⟨[]⟩ w_84 fun (r87 : Bool) (w_86 : World) =>
 R (r87) w_86)
 (R (false) w_84))
 (R (false) w_80))
 (R (false) w_76))) fun (K_13 : World → Prop) =>
 IfB (Option.isNone (r6 : Option Addr))
 (R (false) w_11)
 (IfB (Option.isNone (r8 : Option Addr))
 (R (false) w_11)
 (IfB (Option.isNone (r10 : Option Addr))
 (R (false) w_11)
 (IfB (Option.isNone (r12 : Option Addr))
 (R (false) w_11)
 (K_13  w_11)))))
set_option maxRecDepth 100000 in
theorem law27_ParserEarly.ok (c1 : Sl) (many2 : Int) (R : Bool → World → Prop) (w : World) (h : law27_ParserEarly.E c1 many2 R w) : Cl Try.prog [kB] n_law27_ParserEarly ⟨[(.slice c1.base c1.len c1.cap), (.int .i64 many2)]⟩ w R :=
  calls_of_eq Try.mix Try.f4 [(.slice c1.base c1.len c1.cap), (.int .i64 many2)] [kB] R 112 [.tmp 4] (by kernel_rfl) (by kernel_rfl) (by kernel_rfl) (by kernel_rfl) (by kernel_rfl)
    (.s .o (.s (.s .o (.c (.s .o .o) .o)) (.s .o (.s .o (.s .o (.j [] (.s .o (.c (.s .o .o) .o)) (.s .o (.s .o (.s .o (.s .o (.s .o (.s .o (.s (.s .o (.c (.s .o .o) .o)) (.s .o .o))))))))))))))
    (by kernel_rfl) h
set_option maxRecDepth 100000 in
/-- winepresslaw27.wakes -/
def law27_wakes.E  (R : Bool → World → Prop) (w : World) : Prop :=
 Cl Try.prog [kP] n_bitreader_New ⟨[]⟩ w fun (r2 : (Option Addr)) (w_1 : World) =>
 Cl Try.prog [kP] n_parser_New ⟨[]⟩ w_1 fun (r4 : (Option Addr)) (w_3 : World) =>
 Cl Try.prog [kP] n_bitreader_New ⟨[]⟩ w_3 fun (r6 : (Option Addr)) (w_5 : World) =>
 Cl Try.prog [kP] n_parser_New ⟨[]⟩ w_5 fun (r8 : (Option Addr)) (w_7 : World) =>
 Join (fun (w_10 : World) =>
 Cl Try.prog [(.st [.int .u8, .int .i64, .int .i64, .int .i64, .int .u32, .sl, .int .i64])] n_parser_Parser_Step ⟨[(.pointer r4), (.pointer r2)]⟩ w_10 fun (r12 : (TT [.int .u8, .int .i64, .int .i64, .int .i64, .int .u32, .sl, .int .i64])) (w_11 : World) =>
 Nw 38 ⟨[(.int .u8 0), (.int .i64 0), (.int .i64 0), (.int .i64 0), (.int .u32 0), (.slice none 0 0), (.int .i64 0)]⟩ w_11 fun (b14 : Nat) (w_13 : World) =>
 StC (⟨b14, 0, none⟩ : Addr) [(.int .u8 r12.1), (.int .i64 r12.2.1), (.int .i64 r12.2.2.1), (.int .i64 r12.2.2.2.1), (.int .u32 r12.2.2.2.2.1), (.slice r12.2.2.2.2.2.1.base r12.2.2.2.2.2.1.len r12.2.2.2.2.2.1.cap), (.int .i64 r12.2.2.2.2.2.2.1)] 0 w_13 fun (w_15 : World) =>
 Nw 5 ⟨[(.int .u8 87), (.int .u8 80), (.int .u8 1), (.int .u8 2), (.int .u8 0), (.int .u8 0), (.int .u8 0), (.int .u8 0)]⟩ w_15 fun (b17 : Nat) (w_16 : World) =>
 Nw 25 ⟨[(.slice (⟨some ⟨b17, 0, none⟩, 8, 8⟩ : Sl).base (⟨some ⟨b17, 0, none⟩, 8, 8⟩ : Sl).len (⟨some ⟨b17, 0, none⟩, 8, 8⟩ : Sl).cap)]⟩ w_16 fun (b19 : Nat) (w_18 : World) =>
 Cl Try.prog [kB] n_bitreader_Reader_Feed ⟨[(.pointer r2), (.slice (⟨some ⟨b19, 0, none⟩, 1, 1⟩ : Sl).base (⟨some ⟨b19, 0, none⟩, 1, 1⟩ : Sl).len (⟨some ⟨b19, 0, none⟩, 1, 1⟩ : Sl).cap)]⟩ w_18 fun (r21 : Bool) (w_20 : World) =>
 Cl Try.prog [(.st [.int .u8, .int .i64, .int .i64, .int .i64, .int .u32, .sl, .int .i64])] n_parser_Parser_Step ⟨[(.pointer r4), (.pointer r2)]⟩ w_20 fun (r23 : (TT [.int .u8, .int .i64, .int .i64, .int .i64, .int .u32, .sl, .int .i64])) (w_22 : World) =>
 Cl Try.prog [(.st [.int .u8, .int .i64, .int .i64, .int .i64, .int .u32, .sl, .int .i64])] n_parser_Parser_Step ⟨[(.pointer r4), (.pointer r2)]⟩ w_22 fun (r25 : (TT [.int .u8, .int .i64, .int .i64, .int .i64, .int .u32, .sl, .int .i64])) (w_24 : World) =>
 Nw 38 ⟨[(.int .u8 0), (.int .i64 0), (.int .i64 0), (.int .i64 0), (.int .u32 0), (.slice none 0 0), (.int .i64 0)]⟩ w_24 fun (b27 : Nat) (w_26 : World) =>
 Nw 38 ⟨[(.int .u8 0), (.int .i64 0), (.int .i64 0), (.int .i64 0), (.int .u32 0), (.slice none 0 0), (.int .i64 0)]⟩ w_26 fun (b29 : Nat) (w_28 : World) =>
 StC (⟨b27, 0, none⟩ : Addr) [(.int .u8 r23.1), (.int .i64 r23.2.1), (.int .i64 r23.2.2.1), (.int .i64 r23.2.2.2.1), (.int .u32 r23.2.2.2.2.1), (.slice r23.2.2.2.2.2.1.base r23.2.2.2.2.2.1.len r23.2.2.2.2.2.1.cap), (.int .i64 r23.2.2.2.2.2.2.1)] 0 w_28 fun (w_30 : World) =>
 StC (⟨b29, 0, none⟩ : Addr) [(.int .u8 r25.1), (.int .i64 r25.2.1), (.int .i64 r25.2.2.1), (.int .i64 r25.2.2.2.1), (.int .u32 r25.2.2.2.2.1), (.slice r25.2.2.2.2.2.1.base r25.2.2.2.2.2.1.len r25.2.2.2.2.2.1.cap), (.int .i64 r25.2.2.2.2.2.2.1)] 0 w_30 fun (w_31 : World) =>
 Nw 5 ⟨[(.int .u8 0)]⟩ w_31 fun (b33 : Nat) (w_32 : World) =>
 Nw 25 ⟨[(.slice (⟨some ⟨b33, 0, none⟩, 1, 1⟩ : Sl).base (⟨some ⟨b33, 0, none⟩, 1, 1⟩ : Sl).len (⟨some ⟨b33, 0, none⟩, 1, 1⟩ : Sl).cap)]⟩ w_32 fun (b35 : Nat) (w_34 : World) =>
 Cl Try.prog [kB] n_bitreader_Reader_Feed ⟨[(.pointer r2), (.slice (⟨some ⟨b35, 0, none⟩, 1, 1⟩ : Sl).base (⟨some ⟨b35, 0, none⟩, 1, 1⟩ : Sl).len (⟨some ⟨b35, 0, none⟩, 1, 1⟩ : Sl).cap)]⟩ w_34 fun (r37 : Bool) (w_36 : World) =>
 Cl Try.prog [(.st [.int .u8, .int .i64, .int .i64, .int .i64, .int .u32, .sl, .int .i64])] n_parser_Parser_Step ⟨[(.pointer r4), (.pointer r2)]⟩ w_36 fun (r39 : (TT [.int .u8, .int .i64, .int .i64, .int .i64, .int .u32, .sl, .int .i64])) (w_38 : World) =>
 Cl Try.prog [(.st [.int .u8, .int .i64, .int .i64, .int .i64, .int .u32, .sl, .int .i64])] n_parser_Parser_Step ⟨[(.pointer r4), (.pointer r2)]⟩ w_38 fun (r41 : (TT [.int .u8, .int .i64, .int .i64, .int .i64, .int .u32, .sl, .int .i64])) (w_40 : World) =>
 Nw 38 ⟨[(.int .u8 0), (.int .i64 0), (.int .i64 0), (.int .i64 0), (.int .u32 0), (.slice none 0 0), (.int .i64 0)]⟩ w_40 fun (b43 : Nat) (w_42 : World) =>
 Nw 38 ⟨[(.int .u8 0), (.int .i64 0), (.int .i64 0), (.int .i64 0), (.int .u32 0), (.slice none 0 0), (.int .i64 0)]⟩ w_42 fun (b45 : Nat) (w_44 : World) =>
 StC (⟨b43, 0, none⟩ : Addr) [(.int .u8 r39.1), (.int .i64 r39.2.1), (.int .i64 r39.2.2.1), (.int .i64 r39.2.2.2.1), (.int .u32 r39.2.2.2.2.1), (.slice r39.2.2.2.2.2.1.base r39.2.2.2.2.2.1.len r39.2.2.2.2.2.1.cap), (.int .i64 r39.2.2.2.2.2.2.1)] 0 w_44 fun (w_46 : World) =>
 StC (⟨b45, 0, none⟩ : Addr) [(.int .u8 r41.1), (.int .i64 r41.2.1), (.int .i64 r41.2.2.1), (.int .i64 r41.2.2.2.1), (.int .u32 r41.2.2.2.2.1), (.slice r41.2.2.2.2.2.1.base r41.2.2.2.2.2.1.len r41.2.2.2.2.2.1.cap), (.int .i64 r41.2.2.2.2.2.2.1)] 0 w_46 fun (w_47 : World) =>
 Cl Try.prog [kB] n_bitreader_Reader_End ⟨[(.pointer r2)]⟩ w_47 fun (r49 : Bool) (w_48 : World) =>
 Cl Try.prog [(.st [.int .u8, .int .i64, .int .i64, .int .i64, .int .u32, .sl, .int .i64])] n_parser_Parser_Step ⟨[(.pointer r4), (.pointer r2)]⟩ w_48 fun (r51 : (TT [.int .u8, .int .i64, .int .i64, .int .i64, .int .u32, .sl, .int .i64])) (w_50 : World) =>
 Cl Try.prog [(.st [.int .u8, .int .i64, .int .i64, .int .i64, .int .u32, .sl, .int .i64])] n_parser_Parser_Step ⟨[(.pointer r4), (.pointer r2)]⟩ w_50 fun (r53 : (TT [.int .u8, .int .i64, .int .i64, .int .i64, .int .u32, .sl, .int .i64])) (w_52 : World) =>
 Nw 38 ⟨[(.int .u8 0), (.int .i64 0), (.int .i64 0), (.int .i64 0), (.int .u32 0), (.slice none 0 0), (.int .i64 0)]⟩ w_52 fun (b55 : Nat) (w_54 : World) =>
 Nw 38 ⟨[(.int .u8 0), (.int .i64 0), (.int .i64 0), (.int .i64 0), (.int .u32 0), (.slice none 0 0), (.int .i64 0)]⟩ w_54 fun (b57 : Nat) (w_56 : World) =>
 StC (⟨b55, 0, none⟩ : Addr) [(.int .u8 r51.1), (.int .i64 r51.2.1), (.int .i64 r51.2.2.1), (.int .i64 r51.2.2.2.1), (.int .u32 r51.2.2.2.2.1), (.slice r51.2.2.2.2.2.1.base r51.2.2.2.2.2.1.len r51.2.2.2.2.2.1.cap), (.int .i64 r51.2.2.2.2.2.2.1)] 0 w_56 fun (w_58 : World) =>
 StC (⟨b57, 0, none⟩ : Addr) [(.int .u8 r53.1), (.int .i64 r53.2.1), (.int .i64 r53.2.2.1), (.int .i64 r53.2.2.2.1), (.int .u32 r53.2.2.2.2.1), (.slice r53.2.2.2.2.2.1.base r53.2.2.2.2.2.1.len r53.2.2.2.2.2.1.cap), (.int .i64 r53.2.2.2.2.2.2.1)] 0 w_58 fun (w_59 : World) =>
 Nw 5 ⟨[(.int .u8 87), (.int .u8 81), (.int .u8 1)]⟩ w_59 fun (b61 : Nat) (w_60 : World) =>
 Nw 25 ⟨[(.slice (⟨some ⟨b61, 0, none⟩, 3, 3⟩ : Sl).base (⟨some ⟨b61, 0, none⟩, 3, 3⟩ : Sl).len (⟨some ⟨b61, 0, none⟩, 3, 3⟩ : Sl).cap)]⟩ w_60 fun (b63 : Nat) (w_62 : World) =>
 Cl Try.prog [kB] n_bitreader_Reader_Feed ⟨[(.pointer r6), (.slice (⟨some ⟨b63, 0, none⟩, 1, 1⟩ : Sl).base (⟨some ⟨b63, 0, none⟩, 1, 1⟩ : Sl).len (⟨some ⟨b63, 0, none⟩, 1, 1⟩ : Sl).cap)]⟩ w_62 fun (r65 : Bool) (w_64 : World) =>
 Cl Try.prog [(.st [.int .u8, .int .i64, .int .i64, .int .i64, .int .u32, .sl, .int .i64])] n_parser_Parser_Step ⟨[(.pointer r8), (.pointer r6)]⟩ w_64 fun (r67 : (TT [.int .u8, .int .i64, .int .i64, .int .i64, .int .u32, .sl, .int .i64])) (w_66 : World) =>
 Cl Try.prog [(.st [.int .u8, .int .i64, .int .i64, .int .i64, .int .u32, .sl, .int .i64])] n_parser_Parser_Step ⟨[(.pointer r8), (.pointer r6)]⟩ w_66 fun (r69 : (TT [.int .u8, .int .i64, .int .i64, .int .i64, .int .u32, .sl, .int .i64])) (w_68 : World) =>
 Nw 38 ⟨[(.int .u8 0), (.int .i64 0), (.int .i64 0), (.int .i64 0), (.int .u32 0), (.slice none 0 0), (.int .i64 0)]⟩ w_68 fun (b71 : Nat) (w_70 : World) =>
 Nw 38 ⟨[(.int .u8 0), (.int .i64 0), (.int .i64 0), (.int .i64 0), (.int .u32 0), (.slice none 0 0), (.int .i64 0)]⟩ w_70 fun (b73 : Nat) (w_72 : World) =>
 StC (⟨b71, 0, none⟩ : Addr) [(.int .u8 r67.1), (.int .i64 r67.2.1), (.int .i64 r67.2.2.1), (.int .i64 r67.2.2.2.1), (.int .u32 r67.2.2.2.2.1), (.slice r67.2.2.2.2.2.1.base r67.2.2.2.2.2.1.len r67.2.2.2.2.2.1.cap), (.int .i64 r67.2.2.2.2.2.2.1)] 0 w_72 fun (w_74 : World) =>
 StC (⟨b73, 0, none⟩ : Addr) [(.int .u8 r69.1), (.int .i64 r69.2.1), (.int .i64 r69.2.2.1), (.int .i64 r69.2.2.2.1), (.int .u32 r69.2.2.2.2.1), (.slice r69.2.2.2.2.2.1.base r69.2.2.2.2.2.1.len r69.2.2.2.2.2.1.cap), (.int .i64 r69.2.2.2.2.2.2.1)] 0 w_74 fun (w_75 : World) =>
 Ld (kInt .u8) ((⟨b14, 0, none⟩ : Addr).add 0) w_75 fun (Kind76 : Int) =>
 IfB ((Kind76 : Int) == (1 : Int))
 (Ld (.st [.int .u8, .int .i64, .int .i64, .int .i64, .int .u32, .sl, .int .i64]) (⟨b27, 0, none⟩ : Addr) w_75 fun (x77 : (TT [.int .u8, .int .i64, .int .i64, .int .i64, .int .u32, .sl, .int .i64])) =>
 Cl Try.prog [kB] n_parser_Equal ⟨[(.agg ⟨[(.int .u8 x77.1), (.int .i64 x77.2.1), (.int .i64 x77.2.2.1), (.int .i64 x77.2.2.2.1), (.int .u32 x77.2.2.2.2.1), (.slice x77.2.2.2.2.2.1.base x77.2.2.2.2.2.1.len x77.2.2.2.2.2.1.cap), (.int .i64 x77.2.2.2.2.2.2.1)]⟩), (.agg ⟨[(.int .u8 2), (.int .i64 2), (.int .i64 0), (.int .i64 0), (.int .u32 0), (.slice none 0 0), (.int .i64 0)]⟩)]⟩ w_75 fun (r79 : Bool) (w_78 : World) =>
 IfB r79
 (Ld (kInt .u8) ((⟨b29, 0, none⟩ : Addr).add 0) w_78 fun (Kind80 : Int) =>
 IfB ((Kind80 : Int) == (1 : Int))
 (Ld (.st [.int .u8, .int .i64, .int .i64, .int .i64, .int .u32, .sl, .int .i64]) (⟨b43, 0, none⟩ : Addr) w_78 fun (x81 : (TT [.int .u8, .int .i64, .int .i64, .int .i64, .int .u32, .sl, .int .i64])) =>
 Cl Try.prog [kB] n_parser_Equal ⟨[(.agg ⟨[(.int .u8 x81.1), (.int .i64 x81.2.1), (.int .i64 x81.2.2.1), (.int .i64 x81.2.2.2.1), (.int .u32 x81.2.2.2.2.1), (.slice x81.2.2.2.2.2.1.base x81.2.2.2.2.2.1.len x81.2.2.2.2.2.1.cap), (.int .i64 x81.2.2.2.2.2.2.1)]⟩), (.agg ⟨[(.int .u8 6), (.int .i64 0), (.int .i64 0), (.int .i64 0), (.int .u32 0), (.slice none 0 0), (.int .i64 0)]⟩)]⟩ w_78 fun (r83 : Bool) (w_82 : World) =>
 IfB r83
 (Ld (kInt .u8) ((⟨b45, 0, none⟩ : Addr).add 0) w_82 fun (Kind84 : Int) =>
 IfB ((Kind84 : Int) == (1 : Int))
 (Ld (kInt .u8) ((⟨b55, 0, none⟩ : Addr).add 0) w_82 fun (Kind85 : Int) =>
 IfB ((Kind85 : Int) == (7 : Int))
 (Ld (kInt .u8) ((⟨b57, 0, none⟩ : Addr).add 0) w_82 fun (Kind86 : Int) =>
 IfB ((Kind86 : Int) == (7 : Int))
 (Cl Try.prog [kI] n_parser_Parser_Size ⟨[(.pointer r4)]⟩ w_82 fun (r88 : Int) (w_87 : World) =>
 IfB ((r88 : Int) == (2 : Int))
 (Ld (.st [.int .u8, .int .i64, .int .i64, .int .i64, .int .u32, .sl, .int .i64]) (⟨b71, 0, none⟩ : Addr) w_87 fun (x89 : (TT [.int .u8, .int .i64, .int .i64, .int .i64, .int .u32, .sl, .int .i64])) =>
 Cl Try.prog [kB] n_parser_Equal ⟨[(.agg ⟨[(.int .u8 x89.1), (.int .i64 x89.2.1), (.int .i64 x89.2.2.1), (.int .i64 x89.2.2.2.1), (.int .u32 x89.2.2.2.2.1), (.slice x89.2.2.2.2.2.1.base x89.2.2.2.2.2.1.len x89.2.2.2.2.2.1.cap), (.int .i64 x89.2.2.2.2.2.2.1)]⟩), (.agg ⟨[(.int .u8 8), (.int .i64 0), (.int .i64 0), (.int .i64 0), (.int .u32 0), (.slice none 0 0), (.int .i64 240)]⟩)]⟩ w_87 fun (r91 : Bool) (w_90 : World) =>
 IfB r91
 (Ld (.st [.int .u8, .int .i64, .int .i64, .int .i64, .int .u32, .sl, .int .i64]) (⟨b73, 0, none⟩ : Addr) w_90 fun (x92 : (TT [.int .u8, .int .i64, .int .i64, .int .i64, .int .u32, .sl, .int .i64])) =>
 Ld (.st [.int .u8, .int .i64, .int .i64, .int .i64, .int .u32, .sl, .int .i64]) (⟨b71, 0, none⟩ : Addr) w_90 fun (x93 : (TT [.int .u8, .int .i64, .int .i64, .int .i64, .int .u32, .sl, .int .i64])) =>
 Cl Try.prog [kB] n_parser_Equal ⟨[(.agg ⟨[(.int .u8 x92.1), (.int .i64 x92.2.1), (.int .i64 x92.2.2.1), (.int .i64 x92.2.2.2.1), (.int .u32 x92.2.2.2.2.1), (.slice x92.2.2.2.2.2.1.base x92.2.2.2.2.2.1.len x92.2.2.2.2.2.1.cap), (.int .i64 x92.2.2.2.2.2.2.1)]⟩), (.agg ⟨[(.int .u8 x93.1), (.int .i64 x93.2.1), (.int .i64 x93.2.2.1), (.int .i64 x93.2.2.2.1), (.int .u32 x93.2.2.2.2.1), (.slice x93.2.2.2.2.2.1.base x93.2.2.2.2.2.1.len x93.2.2.2.2.2.1.cap), (.int .i64 x93.2.2.2.2.2.2.1)]⟩)]⟩ w_90 fun (r95 : Bool) (w_94 : World) =>
 IfB r95
 (Cl Try.prog [kI] n_bitreader_Reader_Left ⟨[(.pointer r6)]⟩ w_94 fun (r97 : Int) (w_96 : World) =>
 IfB ((r97 : Int) == (8 : Int))
 (Cl Try.prog [kI] n_parser_Parser_Size ⟨[(.pointer r8)]⟩ w_96 fun (r99 : Int) (w_98 : World) =>
 IfB ((r99 : Int) == (0 : Int))
 (Cl Try.prog [(.st [.int .u8, .int .i64, .int .i64, .int .i64, .int .u32, .sl, .int .i64])] n_parser_Parser_Step ⟨[(.pointer none), (.pointer r2)]⟩ w_98 fun (r101 : (TT [.int .u8, .int .i64, .int .i64, .int .i64, .int .u32, .sl, .int .i64])) (w_100 : World) =>
 IfB ((r101.1 : Int) == (0 : Int))
 (Cl Try.prog [kI] n_parser_Parser_Size ⟨[(.pointer none)]⟩ w_100 fun (r103 : Int) (w_102 : World) =>
 IfB ((r103 : Int) == (0 : Int))
 (Cl Try.prog [kP] n_parser_New ⟨[]⟩ w_102 fun (r105 : (Option Addr)) (w_104 : World) =>
 Cl Try.prog [(.st [.int .u8, .int .i64, .int .i64, .int .i64, .int .u32, .sl, .int .i64])] n_parser_Parser_Step ⟨[(.pointer r105), (.pointer none)]⟩ w_104 fun (r107 : (TT [.int .u8, .int .i64, .int .i64, .int .i64, .int .u32, .sl, .int .i64])) (w_106 : World) =>
 IfB ((r107.1 : Int) == (1 : Int))
 (Ld (.st [.int .u8, .int .i64, .int .i64, .int .i64, .int .u32, .sl, .int .i64]) (⟨b14, 0, none⟩ : Addr) w_106 fun (x108 : (TT [.int .u8, .int .i64, .int .i64, .int .i64, .int .u32, .sl, .int .i64])) =>
 Ld (.st [.int .u8, .int .i64, .int .i64, .int .i64, .int .u32, .sl, .int .i64]) (⟨b27, 0, none⟩ : Addr) w_106 fun (x109 : (TT [.int .u8, .int .i64, .int .i64, .int .i64, .int .u32, .sl, .int .i64])) =>
 Cl Try.prog [kB] n_parser_Equal ⟨[(.agg ⟨[(.int .u8 x108.1), (.int .i64 x108.2.1), (.int .i64 x108.2.2.1), (.int .i64 x108.2.2.2.1), (.int .u32 x108.2.2.2.2.1), (.slice x108.2.2.2.2.2.1.base x108.2.2.2.2.2.1.len x108.2.2.2.2.2.1.cap), (.int .i64 x108.2.2.2.2.2.2.1)]⟩), (.agg ⟨[(.int .u8 x109.1), (.int .i64 x109.2.1), (.int .i64 x109.2.2.1), (.int .i64 x109.2.2.2.1), (.int .u32 x109.2.2.2.2.1), (.slice x109.2.2.2.2.2.1.base x109.2.2.2.2.2.1.len x109.2.2.2.2.2.1.cap), (.int .i64 x109.2.2.2.2.2.2.1)]⟩)]⟩ w_106 fun (r111 : Bool) (w_110 : World) =>
 R ((!r111)) w_110)
 (R (false) w_106))
 (R (false) w_102))
 (R (false) w_100))
 (R (false) w_98))
 (R (false) w_96))
 (R (false) w_94))
 (R (false) w_90))
 (R (false) w_87))
 (R (false) w_82))
 (R (false) w_82))
 (R (false) w_82))
 (R (false) w_82))
 (R (false) w_78))
 (R (false) w_78))
 (R (false) w_75)) fun (K_9 : World → Prop) =>
 IfB (Option.isNone (r2 : Option Addr))
 (R (false) w_7)
 (IfB (Option.isNone (r4 : Option Addr))
 (R (false) w_7)
 (IfB (Option.isNone (r6 : Option Addr))
 (R (false) w_7)
 (IfB (Option.isNone (r8 : Option Addr))
 (R (false) w_7)
 (K_9  w_7))))
set_option maxRecDepth 100000 in
theorem law27_wakes.ok  (R : Bool → World → Prop) (w : World) (h : law27_wakes.E  R w) : Cl Try.prog [kB] n_law27_wakes ⟨[]⟩ w R :=
  calls_of_eq Try.mix Try.f6 [] [kB] R 156 [.tmp 0] (by kernel_rfl) (by kernel_rfl) (by kernel_rfl) (by kernel_rfl) (by kernel_rfl)
    (.s .o (.s .o (.s .o (.j [] (.s .o (.c (.s .o .o) .o)) (.s .o (.s .o (.s .o (.s .o (.s .o (.s .o (.s .o (.s .o (.s .o (.s .o (.s .o .o)))))))))))))))
    (by kernel_rfl) h
set_option maxRecDepth 100000 in
/-- winepresslaw27.steps -/
def law27_steps.E (p1 : (Option Addr)) (r2 : (Option Addr)) (most3 : Int) (R : Sl → (TT [.int .u8, .int .i64, .int .i64, .int .i64, .int .u32, .sl, .int .i64]) → World → Prop) (w : World) : Prop :=
 Nw 38 ⟨[(.int .u8 0), (.int .i64 0), (.int .i64 0), (.int .i64 0), (.int .u32 0), (.slice none 0 0), (.int .i64 0)]⟩ w fun (b5 : Nat) (w_4 : World) =>
 ∃ (I_6 : Sl → Int → World → Prop) (m_7 : Sl → Int → World → Nat), I_6 ((⟨none, 0, 0⟩ : Sl)) (0) w_4 ∧
 ∀ (l8 : Sl) (i9 : Int), ∀ (w_10 : World), I_6 l8 i9 w_10 →
 IfB (decide ((i9 : Int) < (most3 : Int)))
 (Cl Try.prog [(.st [.int .u8, .int .i64, .int .i64, .int .i64, .int .u32, .sl, .int .i64])] n_parser_Parser_Step ⟨[(.pointer p1), (.pointer r2)]⟩ w_10 fun (r12 : (TT [.int .u8, .int .i64, .int .i64, .int .i64, .int .u32, .sl, .int .i64])) (w_11 : World) =>
 Nw 38 ⟨[(.int .u8 0), (.int .i64 0), (.int .i64 0), (.int .i64 0), (.int .u32 0), (.slice none 0 0), (.int .i64 0)]⟩ w_11 fun (b14 : Nat) (w_13 : World) =>
 StC (⟨b14, 0, none⟩ : Addr) [(.int .u8 r12.1), (.int .i64 r12.2.1), (.int .i64 r12.2.2.1), (.int .i64 r12.2.2.2.1), (.int .u32 r12.2.2.2.2.1), (.slice r12.2.2.2.2.2.1.base r12.2.2.2.2.2.1.len r12.2.2.2.2.2.1.cap), (.int .i64 r12.2.2.2.2.2.2.1)] 0 w_13 fun (w_15 : World) =>
 Ld (kInt .u8) ((⟨b14, 0, none⟩ : Addr).add 0) w_15 fun (Kind16 : Int) =>
 IfB ((Kind16 : Int) == (1 : Int))
 (Drw w_15 fun (w_17 : World) =>
 Ld (.st [.int .u8, .int .i64, .int .i64, .int .i64, .int .u32, .sl, .int .i64]) (⟨b14, 0, none⟩ : Addr) w_17 fun (x18 : (TT [.int .u8, .int .i64, .int .i64, .int .i64, .int .u32, .sl, .int .i64])) =>
 StC (⟨b5, 0, none⟩ : Addr) [(.int .u8 x18.1), (.int .i64 x18.2.1), (.int .i64 x18.2.2.1), (.int .i64 x18.2.2.2.1), (.int .u32 x18.2.2.2.2.1), (.slice x18.2.2.2.2.2.1.base x18.2.2.2.2.2.1.len x18.2.2.2.2.2.1.cap), (.int .i64 x18.2.2.2.2.2.2.1)] 0 w_17 fun (w_19 : World) =>
 Ld (.st [.int .u8, .int .i64, .int .i64, .int .i64, .int .u32, .sl, .int .i64]) (⟨b5, 0, none⟩ : Addr) w_19 fun (res20 : (TT [.int .u8, .int .i64, .int .i64, .int .i64, .int .u32, .sl, .int .i64])) =>
 R (l8) (res20) w_19)
 (Ld (kInt .u8) ((⟨b14, 0, none⟩ : Addr).add 0) w_15 fun (Kind21 : Int) =>
 IfB (decide ((Kind21 : Int) ≥ (7 : Int)))
 (Drw w_15 fun (w_22 : World) =>
 Ld (.st [.int .u8, .int .i64, .int .i64, .int .i64, .int .u32, .sl, .int .i64]) (⟨b14, 0, none⟩ : Addr) w_22 fun (x23 : (TT [.int .u8, .int .i64, .int .i64, .int .i64, .int .u32, .sl, .int .i64])) =>
 StC (⟨b5, 0, none⟩ : Addr) [(.int .u8 x23.1), (.int .i64 x23.2.1), (.int .i64 x23.2.2.1), (.int .i64 x23.2.2.2.1), (.int .u32 x23.2.2.2.2.1), (.slice x23.2.2.2.2.2.1.base x23.2.2.2.2.2.1.len x23.2.2.2.2.2.1.cap), (.int .i64 x23.2.2.2.2.2.2.1)] 0 w_22 fun (w_24 : World) =>
 Ld (.st [.int .u8, .int .i64, .int .i64, .int .i64, .int .u32, .sl, .int .i64]) (⟨b5, 0, none⟩ : Addr) w_24 fun (res25 : (TT [.int .u8, .int .i64, .int .i64, .int .i64, .int .u32, .sl, .int .i64])) =>
 R (l8) (res25) w_24)
 (Ld (kInt .u8) ((⟨b14, 0, none⟩ : Addr).add 0) w_15 fun (Kind26 : Int) =>
 IfB ((Kind26 : Int) == (0 : Int))
 (Drw w_15 fun (w_27 : World) =>
 Ld (.st [.int .u8, .int .i64, .int .i64, .int .i64, .int .u32, .sl, .int .i64]) (⟨b14, 0, none⟩ : Addr) w_27 fun (x28 : (TT [.int .u8, .int .i64, .int .i64, .int .i64, .int .u32, .sl, .int .i64])) =>
 StC (⟨b5, 0, none⟩ : Addr) [(.int .u8 x28.1), (.int .i64 x28.2.1), (.int .i64 x28.2.2.1), (.int .i64 x28.2.2.2.1), (.int .u32 x28.2.2.2.2.1), (.slice x28.2.2.2.2.2.1.base x28.2.2.2.2.2.1.len x28.2.2.2.2.2.1.cap), (.int .i64 x28.2.2.2.2.2.2.1)] 0 w_27 fun (w_29 : World) =>
 Ld (.st [.int .u8, .int .i64, .int .i64, .int .i64, .int .u32, .sl, .int .i64]) (⟨b5, 0, none⟩ : Addr) w_29 fun (res30 : (TT [.int .u8, .int .i64, .int .i64, .int .i64, .int .u32, .sl, .int .i64])) =>
 R (l8) (res30) w_29)
 (Ld (.st [.int .u8, .int .i64, .int .i64, .int .i64, .int .u32, .sl, .int .i64]) (⟨b14, 0, none⟩ : Addr) w_15 fun (x31 : (TT [.int .u8, .int .i64, .int .i64, .int .i64, .int .u32, .sl, .int .i64])) =>
 Nw 38 ⟨[(.int .u8 x31.1), (.int .i64 x31.2.1), (.int .i64 x31.2.2.1), (.int .i64 x31.2.2.2.1), (.int .u32 x31.2.2.2.2.1), (.slice x31.2.2.2.2.2.1.base x31.2.2.2.2.2.1.len x31.2.2.2.2.2.1.cap), (.int .i64 x31.2.2.2.2.2.2.1)]⟩ w_15 fun (b33 : Nat) (w_32 : World) =>
 Run Try.prog (Builtin.append_ #[32, 32] 32 ⟨[(.slice l8.base l8.len l8.cap), (.slice (⟨some ⟨b33, 0, none⟩, 1, 1⟩ : Sl).base (⟨some ⟨b33, 0, none⟩, 1, 1⟩ : Sl).len (⟨some ⟨b33, 0, none⟩, 1, 1⟩ : Sl).cap)]⟩) kS w_32 fun (s35 : Sl) (w_34 : World) =>
 I_6 (s35) ((i64 ((i9 : Int) + (1 : Int)))) w_34 ∧ m_7 (s35) ((i64 ((i9 : Int) + (1 : Int)))) w_34 < m_7 l8 i9 w_10))))
 (StC (⟨b5, 0, none⟩ : Addr) [(.int .u8 0), (.int .i64 0), (.int .i64 0), (.int .i64 0), (.int .u32 0), (.slice none 0 0), (.int .i64 0)] 0 w_10 fun (w_36 : World) =>
 Ld (.st [.int .u8, .int .i64, .int .i64, .int .i64, .int .u32, .sl, .int .i64]) (⟨b5, 0, none⟩ : Addr) w_36 fun (res37 : (TT [.int .u8, .int .i64, .int .i64, .int .i64, .int .u32, .sl, .int .i64])) =>
 R (l8) (res37) w_36)
set_option maxRecDepth 100000 in
theorem law27_steps.ok (p1 : (Option Addr)) (r2 : (Option Addr)) (most3 : Int) (R : Sl → (TT [.int .u8, .int .i64, .int .i64, .int .i64, .int .u32, .sl, .int .i64]) → World → Prop) (w : World) (h : law27_steps.E p1 r2 most3 R w) : Cl Try.prog [kS, (.st [.int .u8, .int .i64, .int .i64, .int .i64, .int .u32, .sl, .int .i64])] n_law27_steps ⟨[(.pointer p1), (.pointer r2), (.int .i64 most3)]⟩ w R :=
  calls_of_eq Try.mix Try.f12 [(.pointer p1), (.pointer r2), (.int .i64 most3)] [kS, (.st [.int .u8, .int .i64, .int .i64, .int .i64, .int .u32, .sl, .int .i64])] R 40 [.tmp 6, .cell 7 38] (by kernel_rfl) (by kernel_rfl) (by kernel_rfl) (by kernel_rfl) (by kernel_rfl)
    (.s .o (.s .o (.s (.s .o (.b (.l [(8, kS), (9, kI)] (.s (.s .o (.c .o .o)) (.s (.b (.s .o (.s (.s .o (.c (.s .o .o) .o)) .o))) .o))))) (.s .o .o))))
    (by kernel_rfl) h
set_option maxRecDepth 100000 in
/-- winepresslaw27.alike -/
def law27_alike.E (a1 : Sl) (b2 : Sl) (R : Bool → World → Prop) (w : World) : Prop :=
 IfB (((a1.len : Int) : Int) != ((b2.len : Int) : Int))
 (R (false) w)
 (∃ (I_3 : Int → World → Prop) (m_4 : Int → World → Nat), I_3 (0) w ∧
 ∀ (i5 : Int), ∀ (w_6 : World), I_3 i5 w_6 →
 IfB (decide ((i5 : Int) < ((a1.len : Int) : Int)))
 (Drw w_6 fun (w_7 : World) =>
 Idx a1 i5 7 fun (q8 : Addr) =>
 Ld (.st [.int .u8, .int .i64, .int .i64, .int .i64, .int .u32, .sl, .int .i64]) q8 w_7 fun (x9 : (TT [.int .u8, .int .i64, .int .i64, .int .i64, .int .u32, .sl, .int .i64])) =>
 Idx b2 i5 7 fun (q10 : Addr) =>
 Ld (.st [.int .u8, .int .i64, .int .i64, .int .i64, .int .u32, .sl, .int .i64]) q10 w_7 fun (x11 : (TT [.int .u8, .int .i64, .int .i64, .int .i64, .int .u32, .sl, .int .i64])) =>
 Cl Try.prog [kB] n_ref27_Equal ⟨[(.agg ⟨[(.int .u8 x9.1), (.int .i64 x9.2.1), (.int .i64 x9.2.2.1), (.int .i64 x9.2.2.2.1), (.int .u32 x9.2.2.2.2.1), (.slice x9.2.2.2.2.2.1.base x9.2.2.2.2.2.1.len x9.2.2.2.2.2.1.cap), (.int .i64 x9.2.2.2.2.2.2.1)]⟩), (.agg ⟨[(.int .u8 x11.1), (.int .i64 x11.2.1), (.int .i64 x11.2.2.1), (.int .i64 x11.2.2.2.1), (.int .u32 x11.2.2.2.2.1), (.slice x11.2.2.2.2.2.1.base x11.2.2.2.2.2.1.len x11.2.2.2.2.2.1.cap), (.int .i64 x11.2.2.2.2.2.2.1)]⟩)]⟩ w_7 fun (r13 : Bool) (w_12 : World) =>
 IfB (!r13)
 (R (false) w_12)
 (I_3 ((i64 ((i5 : Int) + (1 : Int)))) w_12 ∧ m_4 ((i64 ((i5 : Int) + (1 : Int)))) w_12 < m_4 i5 w_6))
 (R (true) w_6))
set_option maxRecDepth 100000 in
theorem law27_alike.ok (a1 : Sl) (b2 : Sl) (R : Bool → World → Prop) (w : World) (h : law27_alike.E a1 b2 R w) : Cl Try.prog [kB] n_law27_alike ⟨[(.slice a1.base a1.len a1.cap), (.slice b2.base b2.len b2.cap)]⟩ w R :=
  calls_of_eq Try.mix Try.f14 [(.slice a1.base a1.len a1.cap), (.slice b2.base b2.len b2.cap)] [kB] R 27 [.tmp 4] (by kernel_rfl) (by kernel_rfl) (by kernel_rfl) (by kernel_rfl) (by kernel_rfl)
    (.s .o (.s (.s .o (.c (.s .o .o) .o)) (.s (.s .o (.b (.l [(5, kI)] (.s (.s .o (.c .o .o)) (.s (.b (.s .o (.c (.s .o .o) .o))) .o))))) (.s .o .o))))
    (by kernel_rfl) h
end Go.Proofs.Ytjnjjibmlalpiaa
/- Fparser -/
namespace Go.Proofs.Ytjnjjibmlalpiaa
open Go Go.Vc
/-- parser.New -/
def parser_New.E  (R : (Option Addr) → World → Prop) (w : World) : Prop :=
 Cl Try.prog [(.st [.int .i64])] n_parser_inHead ⟨[]⟩ w fun (r2 : (TT [.int .i64])) (w_1 : World) =>
 Bld Try.prog 68 [(0, (.agg ⟨[(.int .i64 r2.1)]⟩))] fun (cs3 : Array Value) =>
 Nw 68 cs3 w_1 fun (b5 : Nat) (w_4 : World) =>
 R ((some (⟨b5, 0, none⟩ : Addr))) w_4
theorem parser_New.ok  (R : (Option Addr) → World → Prop) (w : World) (h : parser_New.E  R w) : Cl Try.prog [kP] n_parser_New ⟨[]⟩ w R :=
  calls_of_eq Try.mix Try.f9 [] [kP] R 4 [.tmp 0] (by kernel_rfl) (by kernel_rfl) (by kernel_rfl) (by kernel_rfl) (by kernel_rfl)
    (.s .o (.s .o .o))
    (by kernel_rfl) h
/-- (*parser.Parser).Size -/
def parser_Parser_Size.E (p1 : (Option Addr)) (R : Int → World → Prop) (w : World) : Prop :=
 IfB (Option.isNone (p1 : Option Addr))
 (R (0) w)
 (NilCk p1 fun (p2 : Addr) =>
 Ld kI ((p2.add 1).add 3) w fun (N3 : Int) =>
 R (N3) w)
theorem parser_Parser_Size.ok (p1 : (Option Addr)) (R : Int → World → Prop) (w : World) (h : parser_Parser_Size.E p1 R w) : Cl Try.prog [kI] n_parser_Parser_Size ⟨[(.pointer p1)]⟩ w R :=
  calls_of_eq Try.mix Try.f16 [(.pointer p1)] [kI] R 10 [.tmp 2] (by kernel_rfl) (by kernel_rfl) (by kernel_rfl) (by kernel_rfl) (by kernel_rfl)
    (.s .o (.s (.s .o (.c (.s .o .o) .o)) (.s .o .o)))
    (by kernel_rfl) h
set_option maxRecDepth 100000 in
/-- parser.Equal -/
def parser_Equal.E (a1 : (TT [.int .u8, .int .i64, .int .i64, .int .i64, .int .u32, .sl, .int .i64])) (b2 : (TT [.int .u8, .int .i64, .int .i64, .int .i64, .int .u32, .sl, .int .i64])) (R : Bool → World → Prop) (w : World) : Prop :=
 Nw 38 ⟨[(.int .u8 a1.1), (.int .i64 a1.2.1), (.int .i64 a1.2.2.1), (.int .i64 a1.2.2.2.1), (.int .u32 a1.2.2.2.2.1), (.slice a1.2.2.2.2.2.1.base a1.2.2.2.2.2.1.len a1.2.2.2.2.2.1.cap), (.int .i64 a1.2.2.2.2.2.2.1)]⟩ w fun (b4 : Nat) (w_3 : World) =>
 Nw 38 ⟨[(.int .u8 b2.1), (.int .i64 b2.2.1), (.int .i64 b2.2.2.1), (.int .i64 b2.2.2.2.1), (.int .u32 b2.2.2.2.2.1), (.slice b2.2.2.2.2.2.1.base b2.2.2.2.2.2.1.len b2.2.2.2.2.2.1.cap), (.int .i64 b2.2.2.2.2.2.2.1)]⟩ w_3 fun (b6 : Nat) (w_5 : World) =>
 Ld (kInt .u8) ((⟨b4, 0, none⟩ : Addr).add 0) w_5 fun (Kind7 : Int) =>
 Ld (kInt .u8) ((⟨b6, 0, none⟩ : Addr).add 0) w_5 fun (Kind8 : Int) =>
 IfB ((Kind7 : Int) == (Kind8 : Int))
 (Ld kI ((⟨b4, 0, none⟩ : Addr).add 1) w_5 fun (N9 : Int) =>
 Ld kI ((⟨b6, 0, none⟩ : Addr).add 1) w_5 fun (N10 : Int) =>
 IfB ((N9 : Int) == (N10 : Int))
 (Ld (.st [.int .i64, .int .i64, .int .u32]) ((⟨b4, 0, none⟩ : Addr).add 2) w_5 fun (Head11 : (TT [.int .i64, .int .i64, .int .u32])) =>
 Ld (.st [.int .i64, .int .i64, .int .u32]) ((⟨b6, 0, none⟩ : Addr).add 2) w_5 fun (Head12 : (TT [.int .i64, .int .i64, .int .u32])) =>
 IfB (((Head11.1 : Int) == (Head12.1 : Int)) && (((Head11.2.1 : Int) == (Head12.2.1 : Int)) && ((Head11.2.2.1 : Int) == (Head12.2.2.1 : Int))))
 (Ld kI ((⟨b4, 0, none⟩ : Addr).add 6) w_5 fun (E13 : Int) =>
 Ld kI ((⟨b6, 0, none⟩ : Addr).add 6) w_5 fun (E14 : Int) =>
 IfB ((E13 : Int) == (E14 : Int))
 (Ld kS ((⟨b4, 0, none⟩ : Addr).add 5) w_5 fun (Text15 : Sl) =>
 Ld kS ((⟨b6, 0, none⟩ : Addr).add 5) w_5 fun (Text16 : Sl) =>
 Cl Try.prog [kB] n_bytes_Equal ⟨[(.slice Text15.base Text15.len Text15.cap), (.slice Text16.base Text16.len Text16.cap)]⟩ w_5 fun (r18 : Bool) (w_17 : World) =>
 R (r18) w_17)
 (R (false) w_5))
 (R (false) w_5))
 (R (false) w_5))
 (R (false) w_5)
set_option maxRecDepth 100000 in
theorem parser_Equal.ok (a1 : (TT [.int .u8, .int .i64, .int .i64, .int .i64, .int .u32, .sl, .int .i64])) (b2 : (TT [.int .u8, .int .i64, .int .i64, .int .i64, .int .u32, .sl, .int .i64])) (R : Bool → World → Prop) (w : World) (h : parser_Equal.E a1 b2 R w) : Cl Try.prog [kB] n_parser_Equal ⟨[(.agg ⟨[(.int .u8 a1.1), (.int .i64 a1.2.1), (.int .i64 a1.2.2.1), (.int .i64 a1.2.2.2.1), (.int .u32 a1.2.2.2.2.1), (.slice a1.2.2.2.2.2.1.base a1.2.2.2.2.2.1.len a1.2.2.2.2.2.1.cap), (.int .i64 a1.2.2.2.2.2.2.1)]⟩), (.agg ⟨[(.int .u8 b2.1), (.int .i64 b2.2.1), (.int .i64 b2.2.2.1), (.int .i64 b2.2.2.2.1), (.int .u32 b2.2.2.2.2.1), (.slice b2.2.2.2.2.2.1.base b2.2.2.2.2.2.1.len b2.2.2.2.2.2.1.cap), (.int .i64 b2.2.2.2.2.2.2.1)]⟩)]⟩ w R :=
  calls_of_eq Try.mix Try.f18 [(.agg ⟨[(.int .u8 a1.1), (.int .i64 a1.2.1), (.int .i64 a1.2.2.1), (.int .i64 a1.2.2.2.1), (.int .u32 a1.2.2.2.2.1), (.slice a1.2.2.2.2.2.1.base a1.2.2.2.2.2.1.len a1.2.2.2.2.2.1.cap), (.int .i64 a1.2.2.2.2.2.2.1)]⟩), (.agg ⟨[(.int .u8 b2.1), (.int .i64 b2.2.1), (.int .i64 b2.2.2.1), (.int .i64 b2.2.2.2.1), (.int .u32 b2.2.2.2.2.1), (.slice b2.2.2.2.2.2.1.base b2.2.2.2.2.2.1.len b2.2.2.2.2.2.1.cap), (.int .i64 b2.2.2.2.2.2.2.1)]⟩)] [kB] R 38 [.tmp 4] (by kernel_rfl) (by kernel_rfl) (by kernel_rfl) (by kernel_rfl) (by kernel_rfl)
    (.s .o (.s .o .o))
    (by kernel_rfl) h
/-- parser.inHead -/
def parser_inHead.E  (R : (TT [.int .i64]) → World → Prop) (w : World) : Prop :=
 Nw 49 ⟨[(.int .i64 0)]⟩ w fun (b2 : Nat) (w_1 : World) =>
 StC (⟨b2, 0, none⟩ : Addr) [(.int .i64 1)] 0 w_1 fun (w_3 : World) =>
 Ld (.st [.int .i64]) (⟨b2, 0, none⟩ : Addr) w_3 fun (res4 : (TT [.int .i64])) =>
 R (res4) w_3
theorem parser_inHead.ok  (R : (TT [.int .i64]) → World → Prop) (w : World) (h : parser_inHead.E  R w) : Cl Try.prog [(.st [.int .i64])] n_parser_inHead ⟨[]⟩ w R :=
  calls_of_eq Try.mix Try.f20 [] [(.st [.int .i64])] R 2 [.cell 0 49] (by kernel_rfl) (by kernel_rfl) (by kernel_rfl) (by kernel_rfl) (by kernel_rfl)
    (.s .o (.s .o .o))
    (by kernel_rfl) h
set_option maxRecDepth 100000 in
/-- (*parser.Parser).heads -/
def parser_Parser_heads.E (p1 : (Option Addr)) (r2 : (Option Addr)) (R : (TT [.int .u8, .int .i64, .int .i64, .int .i64, .int .u32, .sl, .int .i64]) → Bool → World → Prop) (w : World) : Prop :=
 Nw 38 ⟨[(.int .u8 0), (.int .i64 0), (.int .i64 0), (.int .i64 0), (.int .u32 0), (.slice none 0 0), (.int .i64 0)]⟩ w fun (b4 : Nat) (w_3 : World) =>
 Cl Try.prog [(kInt .u32), (.st [.int .u8, .int .i64, .int .i64, .int .i64, .int .u32, .sl, .int .i64]), kB] n_parser_Parser_take ⟨[(.pointer p1), (.pointer r2), (.int .i64 8)]⟩ w_3 fun (r6 : Int) (r7 : (TT [.int .u8, .int .i64, .int .i64, .int .i64, .int .u32, .sl, .int .i64])) (r8 : Bool) (w_5 : World) =>
 Nw 38 ⟨[(.int .u8 0), (.int .i64 0), (.int .i64 0), (.int .i64 0), (.int .u32 0), (.slice none 0 0), (.int .i64 0)]⟩ w_5 fun (b10 : Nat) (w_9 : World) =>
 StC (⟨b10, 0, none⟩ : Addr) [(.int .u8 r7.1), (.int .i64 r7.2.1), (.int .i64 r7.2.2.1), (.int .i64 r7.2.2.2.1), (.int .u32 r7.2.2.2.2.1), (.slice r7.2.2.2.2.2.1.base r7.2.2.2.2.2.1.len r7.2.2.2.2.2.1.cap), (.int .i64 r7.2.2.2.2.2.2.1)] 0 w_9 fun (w_11 : World) =>
 IfB (!r8)
 (Ld (.st [.int .u8, .int .i64, .int .i64, .int .i64, .int .u32, .sl, .int .i64]) (⟨b10, 0, none⟩ : Addr) w_11 fun (x12 : (TT [.int .u8, .int .i64, .int .i64, .int .i64, .int .u32, .sl, .int .i64])) =>
 StC (⟨b4, 0, none⟩ : Addr) [(.int .u8 x12.1), (.int .i64 x12.2.1), (.int .i64 x12.2.2.1), (.int .i64 x12.2.2.2.1), (.int .u32 x12.2.2.2.2.1), (.slice x12.2.2.2.2.2.1.base x12.2.2.2.2.2.1.len x12.2.2.2.2.2.1.cap), (.int .i64 x12.2.2.2.2.2.2.1)] 0 w_11 fun (w_13 : World) =>
 Ld (.st [.int .u8, .int .i64, .int .i64, .int .i64, .int .u32, .sl, .int .i64]) (⟨b4, 0, none⟩ : Addr) w_13 fun (res14 : (TT [.int .u8, .int .i64, .int .i64, .int .i64, .int .u32, .sl, .int .i64])) =>
 R (res14) (true) w_13)
 (NilCk p1 fun (p15 : Addr) =>
 Ld (.st [.int .i64, .int .i64, .int .i64, .int .i64]) (p15.add 1) w_11 fun (heading16 : (TT [.int .i64, .int .i64, .int .i64, .int .i64])) =>
 Cl Try.prog [(.st [.int .i64, .int .i64, .int .i64, .int .i64]), kB, kI] n_header_Step ⟨[(.agg ⟨[(.int .i64 heading16.1), (.int .i64 heading16.2.1), (.int .i64 heading16.2.2.1), (.int .i64 heading16.2.2.2.1)]⟩), (.int .u8 (u8 r6))]⟩ w_11 fun (r18 : (TT [.int .i64, .int .i64, .int .i64, .int .i64])) (r19 : Bool) (r20 : Int) (w_17 : World) =>
 Nw 54 ⟨[(.int .i64 0), (.int .i64 0), (.int .i64 0), (.int .i64 0)]⟩ w_17 fun (b22 : Nat) (w_21 : World) =>
 StC (⟨b22, 0, none⟩ : Addr) [(.int .i64 r18.1), (.int .i64 r18.2.1), (.int .i64 r18.2.2.1), (.int .i64 r18.2.2.2.1)] 0 w_21 fun (w_23 : World) =>
 IfB ((r20 : Int) != (0 : Int))
 (Cl Try.prog [(.st [.int .u8, .int .i64, .int .i64, .int .i64, .int .u32, .sl, .int .i64]), kB] n_parser_Parser_wrong ⟨[(.pointer p1), (.int .i64 r20)]⟩ w_23 fun (r25 : (TT [.int .u8, .int .i64, .int .i64, .int .i64, .int .u32, .sl, .int .i64])) (r26 : Bool) (w_24 : World) =>
 StC (⟨b4, 0, none⟩ : Addr) [(.int .u8 r25.1), (.int .i64 r25.2.1), (.int .i64 r25.2.2.1), (.int .i64 r25.2.2.2.1), (.int .u32 r25.2.2.2.2.1), (.slice r25.2.2.2.2.2.1.base r25.2.2.2.2.2.1.len r25.2.2.2.2.2.1.cap), (.int .i64 r25.2.2.2.2.2.2.1)] 0 w_24 fun (w_27 : World) =>
 Ld (.st [.int .u8, .int .i64, .int .i64, .int .i64, .int .u32, .sl, .int .i64]) (⟨b4, 0, none⟩ : Addr) w_27 fun (res28 : (TT [.int .u8, .int .i64, .int .i64, .int .i64, .int .u32, .sl, .int .i64])) =>
 R (res28) (r26) w_27)
 (Ld (.st [.int .i64, .int .i64, .int .i64, .int .i64]) (⟨b22, 0, none⟩ : Addr) w_23 fun (x29 : (TT [.int .i64, .int .i64, .int .i64, .int .i64])) =>
 NilCk p1 fun (p30 : Addr) =>
 StC (p30.add 1) [(.int .i64 x29.1), (.int .i64 x29.2.1), (.int .i64 x29.2.2.1), (.int .i64 x29.2.2.2.1)] 0 w_23 fun (w_31 : World) =>
 IfB r19
 (Cl Try.prog [(.st [.int .i64])] n_parser_inMark ⟨[]⟩ w_31 fun (r33 : (TT [.int .i64])) (w_32 : World) =>
 NilCk p1 fun (p34 : Addr) =>
 StC (p34.add 0) [(.int .i64 r33.1)] 0 w_32 fun (w_35 : World) =>
 Ld kI ((⟨b22, 0, none⟩ : Addr).add 3) w_35 fun (N36 : Int) =>
 StC (⟨b4, 0, none⟩ : Addr) [(.int .u8 2), (.int .i64 N36), (.int .i64 0), (.int .i64 0), (.int .u32 0), (.slice none 0 0), (.int .i64 0)] 0 w_35 fun (w_37 : World) =>
 Ld (.st [.int .u8, .int .i64, .int .i64, .int .i64, .int .u32, .sl, .int .i64]) (⟨b4, 0, none⟩ : Addr) w_37 fun (res38 : (TT [.int .u8, .int .i64, .int .i64, .int .i64, .int .u32, .sl, .int .i64])) =>
 R (res38) (r19) w_37)
 (Ld kI ((⟨b22, 0, none⟩ : Addr).add 3) w_31 fun (N39 : Int) =>
 StC (⟨b4, 0, none⟩ : Addr) [(.int .u8 2), (.int .i64 N39), (.int .i64 0), (.int .i64 0), (.int .u32 0), (.slice none 0 0), (.int .i64 0)] 0 w_31 fun (w_40 : World) =>
 Ld (.st [.int .u8, .int .i64, .int .i64, .int .i64, .int .u32, .sl, .int .i64]) (⟨b4, 0, none⟩ : Addr) w_40 fun (res41 : (TT [.int .u8, .int .i64, .int .i64, .int .i64, .int .u32, .sl, .int .i64])) =>
 R (res41) (r19) w_40)))
set_option maxRecDepth 100000 in
theorem parser_Parser_heads.ok (p1 : (Option Addr)) (r2 : (Option Addr)) (R : (TT [.int .u8, .int .i64, .int .i64, .int .i64, .int .u32, .sl, .int .i64]) → Bool → World → Prop) (w : World) (h : parser_Parser_heads.E p1 r2 R w) : Cl Try.prog [(.st [.int .u8, .int .i64, .int .i64, .int .i64, .int .u32, .sl, .int .i64]), kB] n_parser_Parser_heads ⟨[(.pointer p1), (.pointer r2)]⟩ w R :=
  calls_of_eq Try.mix Try.f21 [(.pointer p1), (.pointer r2)] [(.st [.int .u8, .int .i64, .int .i64, .int .i64, .int .u32, .sl, .int .i64]), kB] R 53 [.cell 4 38, .tmp 5] (by kernel_rfl) (by kernel_rfl) (by kernel_rfl) (by kernel_rfl) (by kernel_rfl)
    (.s .o (.s .o (.s (.s .o (.c (.s .o .o) .o)) (.s .o (.s (.s .o (.c (.s .o .o) .o)) (.s (.s .o (.s .o (.c .o .o))) (.s .o .o)))))))
    (by kernel_rfl) h
/-- parser.inMark -/
def parser_inMark.E  (R : (TT [.int .i64]) → World → Prop) (w : World) : Prop :=
 Nw 49 ⟨[(.int .i64 0)]⟩ w fun (b2 : Nat) (w_1 : World) =>
 StC (⟨b2, 0, none⟩ : Addr) [(.int .i64 2)] 0 w_1 fun (w_3 : World) =>
 Ld (.st [.int .i64]) (⟨b2, 0, none⟩ : Addr) w_3 fun (res4 : (TT [.int .i64])) =>
 R (res4) w_3
theorem parser_inMark.ok  (R : (TT [.int .i64]) → World → Prop) (w : World) (h : parser_inMark.E  R w) : Cl Try.prog [(.st [.int .i64])] n_parser_inMark ⟨[]⟩ w R :=
  calls_of_eq Try.mix Try.f22 [] [(.st [.int .i64])] R 2 [.cell 0 49] (by kernel_rfl) (by kernel_rfl) (by kernel_rfl) (by kernel_rfl) (by kernel_rfl)
    (.s .o (.s .o .o))
    (by kernel_rfl) h
set_option maxRecDepth 100000 in
/-- (*parser.Parser).marks -/
def parser_Parser_marks.E (p1 : (Option Addr)) (r2 : (Option Addr)) (R : (TT [.int .u8, .int .i64, .int .i64, .int .i64, .int .u32, .sl, .int .i64]) → Bool → World → Prop) (w : World) : Prop :=
 Nw 38 ⟨[(.int .u8 0), (.int .i64 0), (.int .i64 0), (.int .i64 0), (.int .u32 0), (.slice none 0 0), (.int .i64 0)]⟩ w fun (b4 : Nat) (w_3 : World) =>
 Cl Try.prog [(kInt .u32), (.st [.int .u8, .int .i64, .int .i64, .int .i64, .int .u32, .sl, .int .i64]), kB] n_parser_Parser_take ⟨[(.pointer p1), (.pointer r2), (.int .i64 8)]⟩ w_3 fun (r6 : Int) (r7 : (TT [.int .u8, .int .i64, .int .i64, .int .i64, .int .u32, .sl, .int .i64])) (r8 : Bool) (w_5 : World) =>
 Nw 38 ⟨[(.int .u8 0), (.int .i64 0), (.int .i64 0), (.int .i64 0), (.int .u32 0), (.slice none 0 0), (.int .i64 0)]⟩ w_5 fun (b10 : Nat) (w_9 : World) =>
 StC (⟨b10, 0, none⟩ : Addr) [(.int .u8 r7.1), (.int .i64 r7.2.1), (.int .i64 r7.2.2.1), (.int .i64 r7.2.2.2.1), (.int .u32 r7.2.2.2.2.1), (.slice r7.2.2.2.2.2.1.base r7.2.2.2.2.2.1.len r7.2.2.2.2.2.1.cap), (.int .i64 r7.2.2.2.2.2.2.1)] 0 w_9 fun (w_11 : World) =>
 IfB (!r8)
 (Ld (.st [.int .u8, .int .i64, .int .i64, .int .i64, .int .u32, .sl, .int .i64]) (⟨b10, 0, none⟩ : Addr) w_11 fun (x12 : (TT [.int .u8, .int .i64, .int .i64, .int .i64, .int .u32, .sl, .int .i64])) =>
 StC (⟨b4, 0, none⟩ : Addr) [(.int .u8 x12.1), (.int .i64 x12.2.1), (.int .i64 x12.2.2.1), (.int .i64 x12.2.2.2.1), (.int .u32 x12.2.2.2.2.1), (.slice x12.2.2.2.2.2.1.base x12.2.2.2.2.2.1.len x12.2.2.2.2.2.1.cap), (.int .i64 x12.2.2.2.2.2.2.1)] 0 w_11 fun (w_13 : World) =>
 Ld (.st [.int .u8, .int .i64, .int .i64, .int .i64, .int .u32, .sl, .int .i64]) (⟨b4, 0, none⟩ : Addr) w_13 fun (res14 : (TT [.int .u8, .int .i64, .int .i64, .int .i64, .int .u32, .sl, .int .i64])) =>
 R (res14) (true) w_13)
 (Held w_11 fun (S15 : World → Prop) (w_16 : World) =>
 NilCk p1 fun (p17 : Addr) =>
 LdS kI ((p17.add 1).add 3) S15 fun (N18 : Int) =>
 NilCk p1 fun (p19 : Addr) =>
 LdS (.st [.int .i64, .int .i64, .int .i64, .int .i64, .int .i64, .int .u32, .int .i64]) (p19.add 5) S15 fun (mark_20 : (TT [.int .i64, .int .i64, .int .i64, .int .i64, .int .i64, .int .u32, .int .i64])) =>
 (Cl Try.prog [(.st [.int .i64, .int .i64, .int .i64, .int .i64, .int .i64, .int .u32, .int .i64]), kB, kI] n_header_StepMark ⟨[(.int .i64 N18), (.agg ⟨[(.int .i64 mark_20.1), (.int .i64 mark_20.2.1), (.int .i64 mark_20.2.2.1), (.int .i64 mark_20.2.2.2.1), (.int .i64 mark_20.2.2.2.2.1), (.int .u32 mark_20.2.2.2.2.2.1), (.int .i64 mark_20.2.2.2.2.2.2.1)]⟩), (.int .u8 (u8 r6))]⟩ w_16 fun (r22 : (TT [.int .i64, .int .i64, .int .i64, .int .i64, .int .i64, .int .u32, .int .i64])) (r23 : Bool) (r24 : Int) (w_21 : World) =>
 S15 w_21 ∧
 Nw 56 ⟨[(.int .i64 0), (.int .i64 0), (.int .i64 0), (.int .i64 0), (.int .i64 0), (.int .u32 0), (.int .i64 0)]⟩ w_21 fun (b26 : Nat) (w_25 : World) =>
 S15 w_25 ∧
 StC (⟨b26, 0, none⟩ : Addr) [(.int .i64 r22.1), (.int .i64 r22.2.1), (.int .i64 r22.2.2.1), (.int .i64 r22.2.2.2.1), (.int .i64 r22.2.2.2.2.1), (.int .u32 r22.2.2.2.2.2.1), (.int .i64 r22.2.2.2.2.2.2.1)] 0 w_25 fun (w_27 : World) =>
 S15 w_27 ∧
 IfB ((r24 : Int) != (0 : Int))
 (Cl Try.prog [(.st [.int .u8, .int .i64, .int .i64, .int .i64, .int .u32, .sl, .int .i64]), kB] n_parser_Parser_wrong ⟨[(.pointer p1), (.int .i64 r24)]⟩ w_27 fun (r29 : (TT [.int .u8, .int .i64, .int .i64, .int .i64, .int .u32, .sl, .int .i64])) (r30 : Bool) (w_28 : World) =>
 StC (⟨b4, 0, none⟩ : Addr) [(.int .u8 r29.1), (.int .i64 r29.2.1), (.int .i64 r29.2.2.1), (.int .i64 r29.2.2.2.1), (.int .u32 r29.2.2.2.2.1), (.slice r29.2.2.2.2.2.1.base r29.2.2.2.2.2.1.len r29.2.2.2.2.2.1.cap), (.int .i64 r29.2.2.2.2.2.2.1)] 0 w_28 fun (w_31 : World) =>
 Ld (.st [.int .u8, .int .i64, .int .i64, .int .i64, .int .u32, .sl, .int .i64]) (⟨b4, 0, none⟩ : Addr) w_31 fun (res32 : (TT [.int .u8, .int .i64, .int .i64, .int .i64, .int .u32, .sl, .int .i64])) =>
 R (res32) (r30) w_31)
 (Ld (.st [.int .i64, .int .i64, .int .i64, .int .i64, .int .i64, .int .u32, .int .i64]) (⟨b26, 0, none⟩ : Addr) w_27 fun (x33 : (TT [.int .i64, .int .i64, .int .i64, .int .i64, .int .i64, .int .u32, .int .i64])) =>
 NilCk p1 fun (p34 : Addr) =>
 StC (p34.add 5) [(.int .i64 x33.1), (.int .i64 x33.2.1), (.int .i64 x33.2.2.1), (.int .i64 x33.2.2.2.1), (.int .i64 x33.2.2.2.2.1), (.int .u32 x33.2.2.2.2.2.1), (.int .i64 x33.2.2.2.2.2.2.1)] 0 w_27 fun (w_35 : World) =>
 IfB (!r23)
 (Ld (.st [.int .u8, .int .i64, .int .i64, .int .i64, .int .u32, .sl, .int .i64]) (⟨b10, 0, none⟩ : Addr) w_35 fun (x36 : (TT [.int .u8, .int .i64, .int .i64, .int .i64, .int .u32, .sl, .int .i64])) =>
 StC (⟨b4, 0, none⟩ : Addr) [(.int .u8 x36.1), (.int .i64 x36.2.1), (.int .i64 x36.2.2.1), (.int .i64 x36.2.2.2.1), (.int .u32 x36.2.2.2.2.1), (.slice x36.2.2.2.2.2.1.base x36.2.2.2.2.2.1.len x36.2.2.2.2.2.1.cap), (.int .i64 x36.2.2.2.2.2.2.1)] 0 w_35 fun (w_37 : World) =>
 Ld (.st [.int .u8, .int .i64, .int .i64, .int .i64, .int .u32, .sl, .int .i64]) (⟨b4, 0, none⟩ : Addr) w_37 fun (res38 : (TT [.int .u8, .int .i64, .int .i64, .int .i64, .int .u32, .sl, .int .i64])) =>
 R (res38) (false) w_37)
 (Ld kI ((⟨b26, 0, none⟩ : Addr).add 0) w_35 fun (At39 : Int) =>
 IfB ((At39 : Int) == (6 : Int))
 (Cl Try.prog [(.st [.int .i64])] n_parser_behind ⟨[]⟩ w_35 fun (r41 : (TT [.int .i64])) (w_40 : World) =>
 NilCk p1 fun (p42 : Addr) =>
 StC (p42.add 0) [(.int .i64 r41.1)] 0 w_40 fun (w_43 : World) =>
 Ld (.st [.int .i64, .int .i64, .int .u32]) ((⟨b26, 0, none⟩ : Addr).add 3) w_43 fun (Head44 : (TT [.int .i64, .int .i64, .int .u32])) =>
 StC (⟨b4, 0, none⟩ : Addr) [(.int .u8 6), (.int .i64 0), (.int .i64 Head44.1), (.int .i64 Head44.2.1), (.int .u32 Head44.2.2.1), (.slice none 0 0), (.int .i64 0)] 0 w_43 fun (w_45 : World) =>
 Ld (.st [.int .u8, .int .i64, .int .i64, .int .i64, .int .u32, .sl, .int .i64]) (⟨b4, 0, none⟩ : Addr) w_45 fun (res46 : (TT [.int .u8, .int .i64, .int .i64, .int .i64, .int .u32, .sl, .int .i64])) =>
 R (res46) (true) w_45)
 (Cl Try.prog [(.st [.int .i64])] n_parser_inTable ⟨[]⟩ w_35 fun (r48 : (TT [.int .i64])) (w_47 : World) =>
 Bld Try.prog 60 [] fun (cs49 : Array Value) =>
 NilCk p1 fun (p50 : Addr) =>
 StC (p50.add 0) [(.int .i64 r48.1)] 0 w_47 fun (w_51 : World) =>
 NilCk p1 fun (p52 : Addr) =>
 StA 262 (p52.add 12) cs49 w_51 fun (w_53 : World) =>
 Ld (.st [.int .i64, .int .i64, .int .u32]) ((⟨b26, 0, none⟩ : Addr).add 3) w_53 fun (Head54 : (TT [.int .i64, .int .i64, .int .u32])) =>
 StC (⟨b4, 0, none⟩ : Addr) [(.int .u8 3), (.int .i64 0), (.int .i64 Head54.1), (.int .i64 Head54.2.1), (.int .u32 Head54.2.2.1), (.slice none 0 0), (.int .i64 0)] 0 w_53 fun (w_55 : World) =>
 Ld (.st [.int .u8, .int .i64, .int .i64, .int .i64, .int .u32, .sl, .int .i64]) (⟨b4, 0, none⟩ : Addr) w_55 fun (res56 : (TT [.int .u8, .int .i64, .int .i64, .int .i64, .int .u32, .sl, .int .i64])) =>
 R (res56) (true) w_55)))) ∧
 (Nw 56 ⟨[(.int .i64 0), (.int .i64 0), (.int .i64 0), (.int .i64 0), (.int .i64 0), (.int .u32 0), (.int .i64 0)]⟩ w_16 fun (b58 : Nat) (w_57 : World) =>
 S15 w_57 ∧
 Cl Try.prog [(.st [.int .i64, .int .i64, .int .i64, .int .i64, .int .i64, .int .u32, .int .i64]), kB, kI] n_header_StepMark ⟨[(.int .i64 N18), (.agg ⟨[(.int .i64 mark_20.1), (.int .i64 mark_20.2.1), (.int .i64 mark_20.2.2.1), (.int .i64 mark_20.2.2.2.1), (.int .i64 mark_20.2.2.2.2.1), (.int .u32 mark_20.2.2.2.2.2.1), (.int .i64 mark_20.2.2.2.2.2.2.1)]⟩), (.int .u8 (u8 r6))]⟩ w_57 fun (r60 : (TT [.int .i64, .int .i64, .int .i64, .int .i64, .int .i64, .int .u32, .int .i64])) (r61 : Bool) (r62 : Int) (w_59 : World) =>
 S15 w_59 ∧
 StC (⟨b58, 0, none⟩ : Addr) [(.int .i64 r60.1), (.int .i64 r60.2.1), (.int .i64 r60.2.2.1), (.int .i64 r60.2.2.2.1), (.int .i64 r60.2.2.2.2.1), (.int .u32 r60.2.2.2.2.2.1), (.int .i64 r60.2.2.2.2.2.2.1)] 0 w_59 fun (w_63 : World) =>
 S15 w_63 ∧
 IfB ((r62 : Int) != (0 : Int))
 (Cl Try.prog [(.st [.int .u8, .int .i64, .int .i64, .int .i64, .int .u32, .sl, .int .i64]), kB] n_parser_Parser_wrong ⟨[(.pointer p1), (.int .i64 r62)]⟩ w_63 fun (r65 : (TT [.int .u8, .int .i64, .int .i64, .int .i64, .int .u32, .sl, .int .i64])) (r66 : Bool) (w_64 : World) =>
 StC (⟨b4, 0, none⟩ : Addr) [(.int .u8 r65.1), (.int .i64 r65.2.1), (.int .i64 r65.2.2.1), (.int .i64 r65.2.2.2.1), (.int .u32 r65.2.2.2.2.1), (.slice r65.2.2.2.2.2.1.base r65.2.2.2.2.2.1.len r65.2.2.2.2.2.1.cap), (.int .i64 r65.2.2.2.2.2.2.1)] 0 w_64 fun (w_67 : World) =>
 Ld (.st [.int .u8, .int .i64, .int .i64, .int .i64, .int .u32, .sl, .int .i64]) (⟨b4, 0, none⟩ : Addr) w_67 fun (res68 : (TT [.int .u8, .int .i64, .int .i64, .int .i64, .int .u32, .sl, .int .i64])) =>
 R (res68) (r66) w_67)
 (Ld (.st [.int .i64, .int .i64, .int .i64, .int .i64, .int .i64, .int .u32, .int .i64]) (⟨b58, 0, none⟩ : Addr) w_63 fun (x69 : (TT [.int .i64, .int .i64, .int .i64, .int .i64, .int .i64, .int .u32, .int .i64])) =>
 NilCk p1 fun (p70 : Addr) =>
 StC (p70.add 5) [(.int .i64 x69.1), (.int .i64 x69.2.1), (.int .i64 x69.2.2.1), (.int .i64 x69.2.2.2.1), (.int .i64 x69.2.2.2.2.1), (.int .u32 x69.2.2.2.2.2.1), (.int .i64 x69.2.2.2.2.2.2.1)] 0 w_63 fun (w_71 : World) =>
 IfB (!r61)
 (Ld (.st [.int .u8, .int .i64, .int .i64, .int .i64, .int .u32, .sl, .int .i64]) (⟨b10, 0, none⟩ : Addr) w_71 fun (x72 : (TT [.int .u8, .int .i64, .int .i64, .int .i64, .int .u32, .sl, .int .i64])) =>
 StC (⟨b4, 0, none⟩ : Addr) [(.int .u8 x72.1), (.int .i64 x72.2.1), (.int .i64 x72.2.2.1), (.int .i64 x72.2.2.2.1), (.int .u32 x72.2.2.2.2.1), (.slice x72.2.2.2.2.2.1.base x72.2.2.2.2.2.1.len x72.2.2.2.2.2.1.cap), (.int .i64 x72.2.2.2.2.2.2.1)] 0 w_71 fun (w_73 : World) =>
 Ld (.st [.int .u8, .int .i64, .int .i64, .int .i64, .int .u32, .sl, .int .i64]) (⟨b4, 0, none⟩ : Addr) w_73 fun (res74 : (TT [.int .u8, .int .i64, .int .i64, .int .i64, .int .u32, .sl, .int .i64])) =>
 R (res74) (false) w_73)
 (Ld kI ((⟨b58, 0, none⟩ : Addr).add 0) w_71 fun (At75 : Int) =>
 IfB ((At75 : Int) == (6 : Int))
 (Cl Try.prog [(.st [.int .i64])] n_parser_behind ⟨[]⟩ w_71 fun (r77 : (TT [.int .i64])) (w_76 : World) =>
 NilCk p1 fun (p78 : Addr) =>
 StC (p78.add 0) [(.int .i64 r77.1)] 0 w_76 fun (w_79 : World) =>
 Ld (.st [.int .i64, .int .i64, .int .u32]) ((⟨b58, 0, none⟩ : Addr).add 3) w_79 fun (Head80 : (TT [.int .i64, .int .i64, .int .u32])) =>
 StC (⟨b4, 0, none⟩ : Addr) [(.int .u8 6), (.int .i64 0), (.int .i64 Head80.1), (.int .i64 Head80.2.1), (.int .u32 Head80.2.2.1), (.slice none 0 0), (.int .i64 0)] 0 w_79 fun (w_81 : World) =>
 Ld (.st [.int .u8, .int .i64, .int .i64, .int .i64, .int .u32, .sl, .int .i64]) (⟨b4, 0, none⟩ : Addr) w_81 fun (res82 : (TT [.int .u8, .int .i64, .int .i64, .int .i64, .int .u32, .sl, .int .i64])) =>
 R (res82) (true) w_81)
 (Cl Try.prog [(.st [.int .i64])] n_parser_inTable ⟨[]⟩ w_71 fun (r84 : (TT [.int .i64])) (w_83 : World) =>
 Bld Try.prog 60 [] fun (cs85 : Array Value) =>
 NilCk p1 fun (p86 : Addr) =>
 StC (p86.add 0) [(.int .i64 r84.1)] 0 w_83 fun (w_87 : World) =>
 NilCk p1 fun (p88 : Addr) =>
 StA 262 (p88.add 12) cs85 w_87 fun (w_89 : World) =>
 Ld (.st [.int .i64, .int .i64, .int .u32]) ((⟨b58, 0, none⟩ : Addr).add 3) w_89 fun (Head90 : (TT [.int .i64, .int .i64, .int .u32])) =>
 StC (⟨b4, 0, none⟩ : Addr) [(.int .u8 3), (.int .i64 0), (.int .i64 Head90.1), (.int .i64 Head90.2.1), (.int .u32 Head90.2.2.1), (.slice none 0 0), (.int .i64 0)] 0 w_89 fun (w_91 : World) =>
 Ld (.st [.int .u8, .int .i64, .int .i64, .int .i64, .int .u32, .sl, .int .i64]) (⟨b4, 0, none⟩ : Addr) w_91 fun (res92 : (TT [.int .u8, .int .i64, .int .i64, .int .i64, .int .u32, .sl, .int .i64])) =>
 R (res92) (true) w_91)))))
set_option maxRecDepth 100000 in
theorem parser_Parser_marks.ok (p1 : (Option Addr)) (r2 : (Option Addr)) (R : (TT [.int .u8, .int .i64, .int .i64, .int .i64, .int .u32, .sl, .int .i64]) → Bool → World → Prop) (w : World) (h : parser_Parser_marks.E p1 r2 R w) : Cl Try.prog [(.st [.int .u8, .int .i64, .int .i64, .int .i64, .int .u32, .sl, .int .i64]), kB] n_parser_Parser_marks ⟨[(.pointer p1), (.pointer r2)]⟩ w R :=
  calls_of_eq Try.mix Try.f23 [(.pointer p1), (.pointer r2)] [(.st [.int .u8, .int .i64, .int .i64, .int .i64, .int .u32, .sl, .int .i64]), kB] R 75 [.cell 4 38, .tmp 5] (by kernel_rfl) (by kernel_rfl) (by kernel_rfl) (by kernel_rfl) (by kernel_rfl)
    (.s .o (.s .o (.s (.s .o (.c (.s .o .o) .o)) (.s .o (.s (.s .o (.c (.s .o .o) .o)) (.s .o (.s (.b (.s .o (.c (.s .o .o) (.s .o (.c (.s .o (.s .o .o)) .o))))) (.s .o (.s .o .o)))))))))
    (by kernel_rfl) h
/-- parser.inTable -/
def parser_inTable.E  (R : (TT [.int .i64]) → World → Prop) (w : World) : Prop :=
 Nw 49 ⟨[(.int .i64 0)]⟩ w fun (b2 : Nat) (w_1 : World) =>
 StC (⟨b2, 0, none⟩ : Addr) [(.int .i64 3)] 0 w_1 fun (w_3 : World) =>
 Ld (.st [.int .i64]) (⟨b2, 0, none⟩ : Addr) w_3 fun (res4 : (TT [.int .i64])) =>
 R (res4) w_3
theorem parser_inTable.ok  (R : (TT [.int .i64]) → World → Prop) (w : World) (h : parser_inTable.E  R w) : Cl Try.prog [(.st [.int .i64])] n_parser_inTable ⟨[]⟩ w R :=
  calls_of_eq Try.mix Try.f24 [] [(.st [.int .i64])] R 2 [.cell 0 49] (by kernel_rfl) (by kernel_rfl) (by kernel_rfl) (by kernel_rfl) (by kernel_rfl)
    (.s .o (.s .o .o))
    (by kernel_rfl) h
set_option maxRecDepth 100000 in
/-- (*parser.Parser).tables -/
def parser_Parser_tables.E (p1 : (Option Addr)) (r2 : (Option Addr)) (R : (TT [.int .u8, .int .i64, .int .i64, .int .i64, .int .u32, .sl, .int .i64]) → Bool → World → Prop) (w : World) : Prop :=
 Nw 38 ⟨[(.int .u8 0), (.int .i64 0), (.int .i64 0), (.int .i64 0), (.int .u32 0), (.slice none 0 0), (.int .i64 0)]⟩ w fun (b4 : Nat) (w_3 : World) =>
 Cl Try.prog [(kInt .u32), (.st [.int .u8, .int .i64, .int .i64, .int .i64, .int .u32, .sl, .int .i64]), kB] n_parser_Parser_take ⟨[(.pointer p1), (.pointer r2), (.int .i64 1)]⟩ w_3 fun (r6 : Int) (r7 : (TT [.int .u8, .int .i64, .int .i64, .int .i64, .int .u32, .sl, .int .i64])) (r8 : Bool) (w_5 : World) =>
 Nw 38 ⟨[(.int .u8 0), (.int .i64 0), (.int .i64 0), (.int .i64 0), (.int .u32 0), (.slice none 0 0), (.int .i64 0)]⟩ w_5 fun (b10 : Nat) (w_9 : World) =>
 StC (⟨b10, 0, none⟩ : Addr) [(.int .u8 r7.1), (.int .i64 r7.2.1), (.int .i64 r7.2.2.1), (.int .i64 r7.2.2.2.1), (.int .u32 r7.2.2.2.2.1), (.slice r7.2.2.2.2.2.1.base r7.2.2.2.2.2.1.len r7.2.2.2.2.2.1.cap), (.int .i64 r7.2.2.2.2.2.2.1)] 0 w_9 fun (w_11 : World) =>
 IfB (!r8)
 (Ld (.st [.int .u8, .int .i64, .int .i64, .int .i64, .int .u32, .sl, .int .i64]) (⟨b10, 0, none⟩ : Addr) w_11 fun (x12 : (TT [.int .u8, .int .i64, .int .i64, .int .i64, .int .u32, .sl, .int .i64])) =>
 StC (⟨b4, 0, none⟩ : Addr) [(.int .u8 x12.1), (.int .i64 x12.2.1), (.int .i64 x12.2.2.1), (.int .i64 x12.2.2.2.1), (.int .u32 x12.2.2.2.2.1), (.slice x12.2.2.2.2.2.1.base x12.2.2.2.2.2.1.len x12.2.2.2.2.2.1.cap), (.int .i64 x12.2.2.2.2.2.2.1)] 0 w_11 fun (w_13 : World) =>
 Ld (.st [.int .u8, .int .i64, .int .i64, .int .i64, .int .u32, .sl, .int .i64]) (⟨b4, 0, none⟩ : Addr) w_13 fun (res14 : (TT [.int .u8, .int .i64, .int .i64, .int .i64, .int .u32, .sl, .int .i64])) =>
 R (res14) (true) w_13)
 (NilCk p1 fun (p15 : Addr) =>
 Ld (.arr 262) (p15.add 12) w_11 fun (table16 : (Array Value)) =>
 Cl Try.prog [(.arr 262), kB, kI] n_lengthtable_Step ⟨[(.agg table16), (.int .i64 (i64 r6))]⟩ w_11 fun (r18 : (Array Value)) (r19 : Bool) (r20 : Int) (w_17 : World) =>
 Nw 60 ⟨List.replicate 258 (.int .u8 0) ++ [(.int .i64 0), (.int .i64 0), (.int .i64 0), (.int .i64 0)]⟩ w_17 fun (b22 : Nat) (w_21 : World) =>
 StA 262 (⟨b22, 0, none⟩ : Addr) r18 w_21 fun (w_23 : World) =>
 IfB ((r20 : Int) != (0 : Int))
 (Cl Try.prog [(.st [.int .u8, .int .i64, .int .i64, .int .i64, .int .u32, .sl, .int .i64]), kB] n_parser_Parser_wrong ⟨[(.pointer p1), (.int .i64 r20)]⟩ w_23 fun (r25 : (TT [.int .u8, .int .i64, .int .i64, .int .i64, .int .u32, .sl, .int .i64])) (r26 : Bool) (w_24 : World) =>
 StC (⟨b4, 0, none⟩ : Addr) [(.int .u8 r25.1), (.int .i64 r25.2.1), (.int .i64 r25.2.2.1), (.int .i64 r25.2.2.2.1), (.int .u32 r25.2.2.2.2.1), (.slice r25.2.2.2.2.2.1.base r25.2.2.2.2.2.1.len r25.2.2.2.2.2.1.cap), (.int .i64 r25.2.2.2.2.2.2.1)] 0 w_24 fun (w_27 : World) =>
 Ld (.st [.int .u8, .int .i64, .int .i64, .int .i64, .int .u32, .sl, .int .i64]) (⟨b4, 0, none⟩ : Addr) w_27 fun (res28 : (TT [.int .u8, .int .i64, .int .i64, .int .i64, .int .u32, .sl, .int .i64])) =>
 R (res28) (r26) w_27)
 (Ld (.arr 262) (⟨b22, 0, none⟩ : Addr) w_23 fun (x29 : (Array Value)) =>
 NilCk p1 fun (p30 : Addr) =>
 StA 262 (p30.add 12) x29 w_23 fun (w_31 : World) =>
 IfB r19
 (Ld (.arr 258) ((⟨b22, 0, none⟩ : Addr).add 0) w_31 fun (Lengths32 : (Array Value)) =>
 Cl Try.prog [(.arr 260), kI] n_prefixdec_New ⟨[(.agg Lengths32)]⟩ w_31 fun (r34 : (Array Value)) (r35 : Int) (w_33 : World) =>
 NilCk p1 fun (p36 : Addr) =>
 StA 260 (p36.add 274) r34 w_33 fun (w_37 : World) =>
 NilCk p1 fun (p38 : Addr) =>
 Ld kI (((p38.add 5).add 3).add 0) w_37 fun (M39 : Int) =>
 Cl Try.prog [(.arr 260)] n_symdec_New ⟨[(.int .i64 M39)]⟩ w_37 fun (r41 : (Array Value)) (w_40 : World) =>
 NilCk p1 fun (p42 : Addr) =>
 StA 260 (p42.add 534) r41 w_40 fun (w_43 : World) =>
 Cl Try.prog [(.st [.int .i64])] n_parser_inSymbols ⟨[]⟩ w_43 fun (r45 : (TT [.int .i64])) (w_44 : World) =>
 NilCk p1 fun (p46 : Addr) =>
 StC (p46.add 0) [(.int .i64 r45.1)] 0 w_44 fun (w_47 : World) =>
 Ld (.st [.int .u8, .int .i64, .int .i64, .int .i64, .int .u32, .sl, .int .i64]) (⟨b10, 0, none⟩ : Addr) w_47 fun (x48 : (TT [.int .u8, .int .i64, .int .i64, .int .i64, .int .u32, .sl, .int .i64])) =>
 StC (⟨b4, 0, none⟩ : Addr) [(.int .u8 x48.1), (.int .i64 x48.2.1), (.int .i64 x48.2.2.1), (.int .i64 x48.2.2.2.1), (.int .u32 x48.2.2.2.2.1), (.slice x48.2.2.2.2.2.1.base x48.2.2.2.2.2.1.len x48.2.2.2.2.2.1.cap), (.int .i64 x48.2.2.2.2.2.2.1)] 0 w_47 fun (w_49 : World) =>
 Ld (.st [.int .u8, .int .i64, .int .i64, .int .i64, .int .u32, .sl, .int .i64]) (⟨b4, 0, none⟩ : Addr) w_49 fun (res50 : (TT [.int .u8, .int .i64, .int .i64, .int .i64, .int .u32, .sl, .int .i64])) =>
 R (res50) (false) w_49)
 (Ld (.st [.int .u8, .int .i64, .int .i64, .int .i64, .int .u32, .sl, .int .i64]) (⟨b10, 0, none⟩ : Addr) w_31 fun (x51 : (TT [.int .u8, .int .i64, .int .i64, .int .i64, .int .u32, .sl, .int .i64])) =>
 StC (⟨b4, 0, none⟩ : Addr) [(.int .u8 x51.1), (.int .i64 x51.2.1), (.int .i64 x51.2.2.1), (.int .i64 x51.2.2.2.1), (.int .u32 x51.2.2.2.2.1), (.slice x51.2.2.2.2.2.1.base x51.2.2.2.2.2.1.len x51.2.2.2.2.2.1.cap), (.int .i64 x51.2.2.2.2.2.2.1)] 0 w_31 fun (w_52 : World) =>
 Ld (.st [.int .u8, .int .i64, .int .i64, .int .i64, .int .u32, .sl, .int .i64]) (⟨b4, 0, none⟩ : Addr) w_52 fun (res53 : (TT [.int .u8, .int .i64, .int .i64, .int .i64, .int .u32, .sl, .int .i64])) =>
 R (res53) (false) w_52)))
set_option maxRecDepth 100000 in
theorem parser_Parser_tables.ok (p1 : (Option Addr)) (r2 : (Option Addr)) (R : (TT [.int .u8, .int .i64, .int .i64, .int .i64, .int .u32, .sl, .int .i64]) → Bool → World → Prop) (w : World) (h : parser_Parser_tables.E p1 r2 R w) : Cl Try.prog [(.st [.int .u8, .int .i64, .int .i64, .int .i64, .int .u32, .sl, .int .i64]), kB] n_parser_Parser_tables ⟨[(.pointer p1), (.pointer r2)]⟩ w R :=
  calls_of_eq Try.mix Try.f25 [(.pointer p1), (.pointer r2)] [(.st [.int .u8, .int .i64, .int .i64, .int .i64, .int .u32, .sl, .int .i64]), kB] R 69 [.cell 4 38, .tmp 5] (by kernel_rfl) (by kernel_rfl) (by kernel_rfl) (by kernel_rfl) (by kernel_rfl)
    (.s .o (.s .o (.s (.s .o (.c (.s .o .o) .o)) (.s .o (.s (.s .o (.c (.s .o .o) .o)) (.s (.s .o (.s .o (.c (.s .o (.s .o .o)) .o))) (.s .o .o)))))))
    (by kernel_rfl) h
/-- parser.inSymbols -/
def parser_inSymbols.E  (R : (TT [.int .i64]) → World → Prop) (w : World) : Prop :=
 Nw 49 ⟨[(.int .i64 0)]⟩ w fun (b2 : Nat) (w_1 : World) =>
 StC (⟨b2, 0, none⟩ : Addr) [(.int .i64 4)] 0 w_1 fun (w_3 : World) =>
 Ld (.st [.int .i64]) (⟨b2, 0, none⟩ : Addr) w_3 fun (res4 : (TT [.int .i64])) =>
 R (res4) w_3
theorem parser_inSymbols.ok  (R : (TT [.int .i64]) → World → Prop) (w : World) (h : parser_inSymbols.E  R w) : Cl Try.prog [(.st [.int .i64])] n_parser_inSymbols ⟨[]⟩ w R :=
  calls_of_eq Try.mix Try.f26 [] [(.st [.int .i64])] R 2 [.cell 0 49] (by kernel_rfl) (by kernel_rfl) (by kernel_rfl) (by kernel_rfl) (by kernel_rfl)
    (.s .o (.s .o .o))
    (by kernel_rfl) h
set_option maxRecDepth 100000 in
/-- (*parser.Parser).symbols -/
def parser_Parser_symbols.E (p1 : (Option Addr)) (r2 : (Option Addr)) (R : (TT [.int .u8, .int .i64, .int .i64, .int .i64, .int .u32, .sl, .int .i64]) → Bool → World → Prop) (w : World) : Prop :=
 Nw 38 ⟨[(.int .u8 0), (.int .i64 0), (.int .i64 0), (.int .i64 0), (.int .u32 0), (.slice none 0 0), (.int .i64 0)]⟩ w fun (b4 : Nat) (w_3 : World) =>
 Cl Try.prog [(kInt .u32), (.st [.int .u8, .int .i64, .int .i64, .int .i64, .int .u32, .sl, .int .i64]), kB] n_parser_Parser_take ⟨[(.pointer p1), (.pointer r2), (.int .i64 1)]⟩ w_3 fun (r6 : Int) (r7 : (TT [.int .u8, .int .i64, .int .i64, .int .i64, .int .u32, .sl, .int .i64])) (r8 : Bool) (w_5 : World) =>
 Nw 38 ⟨[(.int .u8 0), (.int .i64 0), (.int .i64 0), (.int .i64 0), (.int .u32 0), (.slice none 0 0), (.int .i64 0)]⟩ w_5 fun (b10 : Nat) (w_9 : World) =>
 StC (⟨b10, 0, none⟩ : Addr) [(.int .u8 r7.1), (.int .i64 r7.2.1), (.int .i64 r7.2.2.1), (.int .i64 r7.2.2.2.1), (.int .u32 r7.2.2.2.2.1), (.slice r7.2.2.2.2.2.1.base r7.2.2.2.2.2.1.len r7.2.2.2.2.2.1.cap), (.int .i64 r7.2.2.2.2.2.2.1)] 0 w_9 fun (w_11 : World) =>
 IfB (!r8)
 (Ld (.st [.int .u8, .int .i64, .int .i64, .int .i64, .int .u32, .sl, .int .i64]) (⟨b10, 0, none⟩ : Addr) w_11 fun (x12 : (TT [.int .u8, .int .i64, .int .i64, .int .i64, .int .u32, .sl, .int .i64])) =>
 StC (⟨b4, 0, none⟩ : Addr) [(.int .u8 x12.1), (.int .i64 x12.2.1), (.int .i64 x12.2.2.1), (.int .i64 x12.2.2.2.1), (.int .u32 x12.2.2.2.2.1), (.slice x12.2.2.2.2.2.1.base x12.2.2.2.2.2.1.len x12.2.2.2.2.2.1.cap), (.int .i64 x12.2.2.2.2.2.2.1)] 0 w_11 fun (w_13 : World) =>
 Ld (.st [.int .u8, .int .i64, .int .i64, .int .i64, .int .u32, .sl, .int .i64]) (⟨b4, 0, none⟩ : Addr) w_13 fun (res14 : (TT [.int .u8, .int .i64, .int .i64, .int .i64, .int .u32, .sl, .int .i64])) =>
 R (res14) (true) w_13)
 (NilCk p1 fun (p15 : Addr) =>
 Ld (.arr 260) (p15.add 274) w_11 fun (code16 : (Array Value)) =>
 Cl Try.prog [(.arr 260), kI, kB] n_prefixdec_Step ⟨[(.agg code16), (.int .i64 (i64 r6))]⟩ w_11 fun (r18 : (Array Value)) (r19 : Int) (r20 : Bool) (w_17 : World) =>
 Nw 62 ⟨List.replicate 258 (.int .u8 0) ++ [(.int .i64 0), (.int .i64 0)]⟩ w_17 fun (b22 : Nat) (w_21 : World) =>
 StA 260 (⟨b22, 0, none⟩ : Addr) r18 w_21 fun (w_23 : World) =>
 Ld (.arr 260) (⟨b22, 0, none⟩ : Addr) w_23 fun (x24 : (Array Value)) =>
 NilCk p1 fun (p25 : Addr) =>
 StA 260 (p25.add 274) x24 w_23 fun (w_26 : World) =>
 IfB (!r20)
 (Ld (.st [.int .u8, .int .i64, .int .i64, .int .i64, .int .u32, .sl, .int .i64]) (⟨b10, 0, none⟩ : Addr) w_26 fun (x27 : (TT [.int .u8, .int .i64, .int .i64, .int .i64, .int .u32, .sl, .int .i64])) =>
 StC (⟨b4, 0, none⟩ : Addr) [(.int .u8 x27.1), (.int .i64 x27.2.1), (.int .i64 x27.2.2.1), (.int .i64 x27.2.2.2.1), (.int .u32 x27.2.2.2.2.1), (.slice x27.2.2.2.2.2.1.base x27.2.2.2.2.2.1.len x27.2.2.2.2.2.1.cap), (.int .i64 x27.2.2.2.2.2.2.1)] 0 w_26 fun (w_28 : World) =>
 Ld (.st [.int .u8, .int .i64, .int .i64, .int .i64, .int .u32, .sl, .int .i64]) (⟨b4, 0, none⟩ : Addr) w_28 fun (res29 : (TT [.int .u8, .int .i64, .int .i64, .int .i64, .int .u32, .sl, .int .i64])) =>
 R (res29) (false) w_28)
 (NilCk p1 fun (p30 : Addr) =>
 Ld (.arr 260) (p30.add 534) w_26 fun (back31 : (Array Value)) =>
 Cl Try.prog [(.arr 260), kS, kB, kI] n_symdec_Step ⟨[(.agg back31), (.int .i64 r19)]⟩ w_26 fun (r33 : (Array Value)) (r34 : Sl) (r35 : Bool) (r36 : Int) (w_32 : World) =>
 Nw 66 ⟨List.replicate 256 (.int .u8 0) ++ [(.int .i64 0), (.int .i64 0), (.int .i64 0), (.bool false)]⟩ w_32 fun (b38 : Nat) (w_37 : World) =>
 StA 260 (⟨b38, 0, none⟩ : Addr) r33 w_37 fun (w_39 : World) =>
 IfB ((r36 : Int) != (0 : Int))
 (Cl Try.prog [(.st [.int .u8, .int .i64, .int .i64, .int .i64, .int .u32, .sl, .int .i64]), kB] n_parser_Parser_wrong ⟨[(.pointer p1), (.int .i64 r36)]⟩ w_39 fun (r41 : (TT [.int .u8, .int .i64, .int .i64, .int .i64, .int .u32, .sl, .int .i64])) (r42 : Bool) (w_40 : World) =>
 StC (⟨b4, 0, none⟩ : Addr) [(.int .u8 r41.1), (.int .i64 r41.2.1), (.int .i64 r41.2.2.1), (.int .i64 r41.2.2.2.1), (.int .u32 r41.2.2.2.2.1), (.slice r41.2.2.2.2.2.1.base r41.2.2.2.2.2.1.len r41.2.2.2.2.2.1.cap), (.int .i64 r41.2.2.2.2.2.2.1)] 0 w_40 fun (w_43 : World) =>
 Ld (.st [.int .u8, .int .i64, .int .i64, .int .i64, .int .u32, .sl, .int .i64]) (⟨b4, 0, none⟩ : Addr) w_43 fun (res44 : (TT [.int .u8, .int .i64, .int .i64, .int .i64, .int .u32, .sl, .int .i64])) =>
 R (res44) (r42) w_43)
 (Ld (.arr 260) (⟨b38, 0, none⟩ : Addr) w_39 fun (x45 : (Array Value)) =>
 NilCk p1 fun (p46 : Addr) =>
 StA 260 (p46.add 534) x45 w_39 fun (w_47 : World) =>
 IfB r35
 (Cl Try.prog [(.st [.int .i64])] n_parser_inPadding ⟨[]⟩ w_47 fun (r49 : (TT [.int .i64])) (w_48 : World) =>
 NilCk p1 fun (p50 : Addr) =>
 StC (p50.add 0) [(.int .i64 r49.1)] 0 w_48 fun (w_51 : World) =>
 StC (⟨b4, 0, none⟩ : Addr) [(.int .u8 4), (.int .i64 0), (.int .i64 0), (.int .i64 0), (.int .u32 0), (.slice r34.base r34.len r34.cap), (.int .i64 0)] 0 w_51 fun (w_52 : World) =>
 Ld (.st [.int .u8, .int .i64, .int .i64, .int .i64, .int .u32, .sl, .int .i64]) (⟨b4, 0, none⟩ : Addr) w_52 fun (res53 : (TT [.int .u8, .int .i64, .int .i64, .int .i64, .int .u32, .sl, .int .i64])) =>
 R (res53) ((decide (((r34.len : Int) : Int) > (0 : Int)))) w_52)
 (StC (⟨b4, 0, none⟩ : Addr) [(.int .u8 4), (.int .i64 0), (.int .i64 0), (.int .i64 0), (.int .u32 0), (.slice r34.base r34.len r34.cap), (.int .i64 0)] 0 w_47 fun (w_54 : World) =>
 Ld (.st [.int .u8, .int .i64, .int .i64, .int .i64, .int .u32, .sl, .int .i64]) (⟨b4, 0, none⟩ : Addr) w_54 fun (res55 : (TT [.int .u8, .int .i64, .int .i64, .int .i64, .int .u32, .sl, .int .i64])) =>
 R (res55) ((decide (((r34.len : Int) : Int) > (0 : Int)))) w_54))))
set_option maxRecDepth 100000 in
theorem parser_Parser_symbols.ok (p1 : (Option Addr)) (r2 : (Option Addr)) (R : (TT [.int .u8, .int .i64, .int .i64, .int .i64, .int .u32, .sl, .int .i64]) → Bool → World → Prop) (w : World) (h : parser_Parser_symbols.E p1 r2 R w) : Cl Try.prog [(.st [.int .u8, .int .i64, .int .i64, .int .i64, .int .u32, .sl, .int .i64]), kB] n_parser_Parser_symbols ⟨[(.pointer p1), (.pointer r2)]⟩ w R :=
  calls_of_eq Try.mix Try.f27 [(.pointer p1), (.pointer r2)] [(.st [.int .u8, .int .i64, .int .i64, .int .i64, .int .u32, .sl, .int .i64]), kB] R 76 [.cell 4 38, .tmp 5] (by kernel_rfl) (by kernel_rfl) (by kernel_rfl) (by kernel_rfl) (by kernel_rfl)
    (.s .o (.s .o (.s (.s .o (.c (.s .o .o) .o)) (.s .o (.s (.s .o (.s .o (.c (.s .o .o) .o))) (.s .o (.s (.s .o (.c (.s .o .o) .o)) (.s (.s .o (.s .o (.c .o .o))) (.s .o .o)))))))))
    (by kernel_rfl) h
/-- parser.inPadding -/
def parser_inPadding.E  (R : (TT [.int .i64]) → World → Prop) (w : World) : Prop :=
 Nw 49 ⟨[(.int .i64 0)]⟩ w fun (b2 : Nat) (w_1 : World) =>
 StC (⟨b2, 0, none⟩ : Addr) [(.int .i64 5)] 0 w_1 fun (w_3 : World) =>
 Ld (.st [.int .i64]) (⟨b2, 0, none⟩ : Addr) w_3 fun (res4 : (TT [.int .i64])) =>
 R (res4) w_3
theorem parser_inPadding.ok  (R : (TT [.int .i64]) → World → Prop) (w : World) (h : parser_inPadding.E  R w) : Cl Try.prog [(.st [.int .i64])] n_parser_inPadding ⟨[]⟩ w R :=
  calls_of_eq Try.mix Try.f28 [] [(.st [.int .i64])] R 2 [.cell 0 49] (by kernel_rfl) (by kernel_rfl) (by kernel_rfl) (by kernel_rfl) (by kernel_rfl)
    (.s .o (.s .o .o))
    (by kernel_rfl) h
set_option maxRecDepth 100000 in
/-- (*parser.Parser).padding -/
def parser_Parser_padding.E (p1 : (Option Addr)) (r2 : (Option Addr)) (R : (TT [.int .u8, .int .i64, .int .i64, .int .i64, .int .u32, .sl, .int .i64]) → Bool → World → Prop) (w : World) : Prop :=
 Nw 38 ⟨[(.int .u8 0), (.int .i64 0), (.int .i64 0), (.int .i64 0), (.int .u32 0), (.slice none 0 0), (.int .i64 0)]⟩ w fun (b4 : Nat) (w_3 : World) =>
 Cl Try.prog [(kInt .u32), kI] n_bitreader_Reader_Align ⟨[(.pointer r2)]⟩ w_3 fun (r6 : Int) (r7 : Int) (w_5 : World) =>
 IfB ((r6 : Int) != (0 : Int))
 (Cl Try.prog [(.st [.int .u8, .int .i64, .int .i64, .int .i64, .int .u32, .sl, .int .i64]), kB] n_parser_Parser_wrong ⟨[(.pointer p1), (.int .i64 160)]⟩ w_5 fun (r9 : (TT [.int .u8, .int .i64, .int .i64, .int .i64, .int .u32, .sl, .int .i64])) (r10 : Bool) (w_8 : World) =>
 StC (⟨b4, 0, none⟩ : Addr) [(.int .u8 r9.1), (.int .i64 r9.2.1), (.int .i64 r9.2.2.1), (.int .i64 r9.2.2.2.1), (.int .u32 r9.2.2.2.2.1), (.slice r9.2.2.2.2.2.1.base r9.2.2.2.2.2.1.len r9.2.2.2.2.2.1.cap), (.int .i64 r9.2.2.2.2.2.2.1)] 0 w_8 fun (w_11 : World) =>
 Ld (.st [.int .u8, .int .i64, .int .i64, .int .i64, .int .u32, .sl, .int .i64]) (⟨b4, 0, none⟩ : Addr) w_11 fun (res12 : (TT [.int .u8, .int .i64, .int .i64, .int .i64, .int .u32, .sl, .int .i64])) =>
 R (res12) (r10) w_11)
 (Cl Try.prog [(.st [.int .i64])] n_parser_inMark ⟨[]⟩ w_5 fun (r14 : (TT [.int .i64])) (w_13 : World) =>
 NilCk p1 fun (p15 : Addr) =>
 StC (p15.add 0) [(.int .i64 r14.1)] 0 w_13 fun (w_16 : World) =>
 NilCk p1 fun (p17 : Addr) =>
 StC (p17.add 5) [(.int .i64 0), (.int .i64 0), (.int .i64 0), (.int .i64 0), (.int .i64 0), (.int .u32 0), (.int .i64 0)] 0 w_16 fun (w_18 : World) =>
 StC (⟨b4, 0, none⟩ : Addr) [(.int .u8 5), (.int .i64 0), (.int .i64 0), (.int .i64 0), (.int .u32 0), (.slice none 0 0), (.int .i64 0)] 0 w_18 fun (w_19 : World) =>
 Ld (.st [.int .u8, .int .i64, .int .i64, .int .i64, .int .u32, .sl, .int .i64]) (⟨b4, 0, none⟩ : Addr) w_19 fun (res20 : (TT [.int .u8, .int .i64, .int .i64, .int .i64, .int .u32, .sl, .int .i64])) =>
 R (res20) (true) w_19)
set_option maxRecDepth 100000 in
theorem parser_Parser_padding.ok (p1 : (Option Addr)) (r2 : (Option Addr)) (R : (TT [.int .u8, .int .i64, .int .i64, .int .i64, .int .u32, .sl, .int .i64]) → Bool → World → Prop) (w : World) (h : parser_Parser_padding.E p1 r2 R w) : Cl Try.prog [(.st [.int .u8, .int .i64, .int .i64, .int .i64, .int .u32, .sl, .int .i64]), kB] n_parser_Parser_padding ⟨[(.pointer p1), (.pointer r2)]⟩ w R :=
  calls_of_eq Try.mix Try.f29 [(.pointer p1), (.pointer r2)] [(.st [.int .u8, .int .i64, .int .i64, .int .i64, .int .u32, .sl, .int .i64]), kB] R 28 [.cell 4 38, .tmp 5] (by kernel_rfl) (by kernel_rfl) (by kernel_rfl) (by kernel_rfl) (by kernel_rfl)
    (.s .o (.s (.s .o (.s .o (.c (.s .o .o) .o))) (.s .o (.s .o .o))))
    (by kernel_rfl) h
/-- parser.behind -/
def parser_behind.E  (R : (TT [.int .i64]) → World → Prop) (w : World) : Prop :=
 Nw 49 ⟨[(.int .i64 0)]⟩ w fun (b2 : Nat) (w_1 : World) =>
 StC (⟨b2, 0, none⟩ : Addr) [(.int .i64 6)] 0 w_1 fun (w_3 : World) =>
 Ld (.st [.int .i64]) (⟨b2, 0, none⟩ : Addr) w_3 fun (res4 : (TT [.int .i64])) =>
 R (res4) w_3
theorem parser_behind.ok  (R : (TT [.int .i64]) → World → Prop) (w : World) (h : parser_behind.E  R w) : Cl Try.prog [(.st [.int .i64])] n_parser_behind ⟨[]⟩ w R :=
  calls_of_eq Try.mix Try.f30 [] [(.st [.int .i64])] R 2 [.cell 0 49] (by kernel_rfl) (by kernel_rfl) (by kernel_rfl) (by kernel_rfl) (by kernel_rfl)
    (.s .o (.s .o .o))
    (by kernel_rfl) h
set_option maxRecDepth 100000 in
/-- (*parser.Parser).rests -/
def parser_Parser_rests.E (p1 : (Option Addr)) (r2 : (Option Addr)) (R : (TT [.int .u8, .int .i64, .int .i64, .int .i64, .int .u32, .sl, .int .i64]) → Bool → World → Prop) (w : World) : Prop :=
 Nw 38 ⟨[(.int .u8 0), (.int .i64 0), (.int .i64 0), (.int .i64 0), (.int .u32 0), (.slice none 0 0), (.int .i64 0)]⟩ w fun (b4 : Nat) (w_3 : World) =>
 Cl Try.prog [kI] n_bitreader_Reader_Left ⟨[(.pointer r2)]⟩ w_3 fun (r6 : Int) (w_5 : World) =>
 IfB (decide ((r6 : Int) > (0 : Int)))
 (Cl Try.prog [(.st [.int .u8, .int .i64, .int .i64, .int .i64, .int .u32, .sl, .int .i64]), kB] n_parser_Parser_wrong ⟨[(.pointer p1), (.int .i64 261)]⟩ w_5 fun (r8 : (TT [.int .u8, .int .i64, .int .i64, .int .i64, .int .u32, .sl, .int .i64])) (r9 : Bool) (w_7 : World) =>
 StC (⟨b4, 0, none⟩ : Addr) [(.int .u8 r8.1), (.int .i64 r8.2.1), (.int .i64 r8.2.2.1), (.int .i64 r8.2.2.2.1), (.int .u32 r8.2.2.2.2.1), (.slice r8.2.2.2.2.2.1.base r8.2.2.2.2.2.1.len r8.2.2.2.2.2.1.cap), (.int .i64 r8.2.2.2.2.2.2.1)] 0 w_7 fun (w_10 : World) =>
 Ld (.st [.int .u8, .int .i64, .int .i64, .int .i64, .int .u32, .sl, .int .i64]) (⟨b4, 0, none⟩ : Addr) w_10 fun (res11 : (TT [.int .u8, .int .i64, .int .i64, .int .i64, .int .u32, .sl, .int .i64])) =>
 R (res11) (r9) w_10)
 (Cl Try.prog [kB] n_bitreader_Reader_Ended ⟨[(.pointer r2)]⟩ w_5 fun (r13 : Bool) (w_12 : World) =>
 IfB r13
 (Cl Try.prog [(.st [.int .i64])] n_parser_over ⟨[]⟩ w_12 fun (r15 : (TT [.int .i64])) (w_14 : World) =>
 NilCk p1 fun (p16 : Addr) =>
 StC (p16.add 0) [(.int .i64 r15.1)] 0 w_14 fun (w_17 : World) =>
 StC (⟨b4, 0, none⟩ : Addr) [(.int .u8 7), (.int .i64 0), (.int .i64 0), (.int .i64 0), (.int .u32 0), (.slice none 0 0), (.int .i64 0)] 0 w_17 fun (w_18 : World) =>
 Ld (.st [.int .u8, .int .i64, .int .i64, .int .i64, .int .u32, .sl, .int .i64]) (⟨b4, 0, none⟩ : Addr) w_18 fun (res19 : (TT [.int .u8, .int .i64, .int .i64, .int .i64, .int .u32, .sl, .int .i64])) =>
 R (res19) (true) w_18)
 (StC (⟨b4, 0, none⟩ : Addr) [(.int .u8 1), (.int .i64 0), (.int .i64 0), (.int .i64 0), (.int .u32 0), (.slice none 0 0), (.int .i64 0)] 0 w_12 fun (w_20 : World) =>
 Ld (.st [.int .u8, .int .i64, .int .i64, .int .i64, .int .u32, .sl, .int .i64]) (⟨b4, 0, none⟩ : Addr) w_20 fun (res21 : (TT [.int .u8, .int .i64, .int .i64, .int .i64, .int .u32, .sl, .int .i64])) =>
 R (res21) (true) w_20))
set_option maxRecDepth 100000 in
theorem parser_Parser_rests.ok (p1 : (Option Addr)) (r2 : (Option Addr)) (R : (TT [.int .u8, .int .i64, .int .i64, .int .i64, .int .u32, .sl, .int .i64]) → Bool → World → Prop) (w : World) (h : parser_Parser_rests.E p1 r2 R w) : Cl Try.prog [(.st [.int .u8, .int .i64, .int .i64, .int .i64, .int .u32, .sl, .int .i64]), kB] n_parser_Parser_rests ⟨[(.pointer p1), (.pointer r2)]⟩ w R :=
  calls_of_eq Try.mix Try.f31 [(.pointer p1), (.pointer r2)] [(.st [.int .u8, .int .i64, .int .i64, .int .i64, .int .u32, .sl, .int .i64]), kB] R 23 [.cell 4 38, .tmp 5] (by kernel_rfl) (by kernel_rfl) (by kernel_rfl) (by kernel_rfl) (by kernel_rfl)
    (.s .o (.s (.b (.s .o (.c (.s .o .o) (.s .o (.c (.s .o (.s .o .o)) .o))))) (.s .o .o)))
    (by kernel_rfl) h
/-- parser.over -/
def parser_over.E  (R : (TT [.int .i64]) → World → Prop) (w : World) : Prop :=
 Nw 49 ⟨[(.int .i64 0)]⟩ w fun (b2 : Nat) (w_1 : World) =>
 StC (⟨b2, 0, none⟩ : Addr) [(.int .i64 7)] 0 w_1 fun (w_3 : World) =>
 Ld (.st [.int .i64]) (⟨b2, 0, none⟩ : Addr) w_3 fun (res4 : (TT [.int .i64])) =>
 R (res4) w_3
theorem parser_over.ok  (R : (TT [.int .i64]) → World → Prop) (w : World) (h : parser_over.E  R w) : Cl Try.prog [(.st [.int .i64])] n_parser_over ⟨[]⟩ w R :=
  calls_of_eq Try.mix Try.f32 [] [(.st [.int .i64])] R 2 [.cell 0 49] (by kernel_rfl) (by kernel_rfl) (by kernel_rfl) (by kernel_rfl) (by kernel_rfl)
    (.s .o (.s .o .o))
    (by kernel_rfl) h
/-- (*parser.Parser).ends -/
def parser_Parser_ends.E (p1 : (Option Addr)) (a2 : (Option Addr)) (R : (TT [.int .u8, .int .i64, .int .i64, .int .i64, .int .u32, .sl, .int .i64]) → Bool → World → Prop) (w : World) : Prop :=
 Nw 38 ⟨[(.int .u8 0), (.int .i64 0), (.int .i64 0), (.int .i64 0), (.int .u32 0), (.slice none 0 0), (.int .i64 0)]⟩ w fun (b4 : Nat) (w_3 : World) =>
 StC (⟨b4, 0, none⟩ : Addr) [(.int .u8 7), (.int .i64 0), (.int .i64 0), (.int .i64 0), (.int .u32 0), (.slice none 0 0), (.int .i64 0)] 0 w_3 fun (w_5 : World) =>
 Ld (.st [.int .u8, .int .i64, .int .i64, .int .i64, .int .u32, .sl, .int .i64]) (⟨b4, 0, none⟩ : Addr) w_5 fun (res6 : (TT [.int .u8, .int .i64, .int .i64, .int .i64, .int .u32, .sl, .int .i64])) =>
 R (res6) (true) w_5
theorem parser_Parser_ends.ok (p1 : (Option Addr)) (a2 : (Option Addr)) (R : (TT [.int .u8, .int .i64, .int .i64, .int .i64, .int .u32, .sl, .int .i64]) → Bool → World → Prop) (w : World) (h : parser_Parser_ends.E p1 a2 R w) : Cl Try.prog [(.st [.int .u8, .int .i64, .int .i64, .int .i64, .int .u32, .sl, .int .i64]), kB] n_parser_Parser_ends ⟨[(.pointer p1), (.pointer a2)]⟩ w R :=
  calls_of_eq Try.mix Try.f33 [(.pointer p1), (.pointer a2)] [(.st [.int .u8, .int .i64, .int .i64, .int .i64, .int .u32, .sl, .int .i64]), kB] R 7 [.cell 4 38, .tmp 5] (by kernel_rfl) (by kernel_rfl) (by kernel_rfl) (by kernel_rfl) (by kernel_rfl)
    (.s .o (.s .o .o))
    (by kernel_rfl) h
/-- parser.bad -/
def parser_bad.E  (R : (TT [.int .i64]) → World → Prop) (w : World) : Prop :=
 Nw 49 ⟨[(.int .i64 0)]⟩ w fun (b2 : Nat) (w_1 : World) =>
 StC (⟨b2, 0, none⟩ : Addr) [(.int .i64 8)] 0 w_1 fun (w_3 : World) =>
 Ld (.st [.int .i64]) (⟨b2, 0, none⟩ : Addr) w_3 fun (res4 : (TT [.int .i64])) =>
 R (res4) w_3
theorem parser_bad.ok  (R : (TT [.int .i64]) → World → Prop) (w : World) (h : parser_bad.E  R w) : Cl Try.prog [(.st [.int .i64])] n_parser_bad ⟨[]⟩ w R :=
  calls_of_eq Try.mix Try.f34 [] [(.st [.int .i64])] R 2 [.cell 0 49] (by kernel_rfl) (by kernel_rfl) (by kernel_rfl) (by kernel_rfl) (by kernel_rfl)
    (.s .o (.s .o .o))
    (by kernel_rfl) h
/-- (*parser.Parser).fails -/
def parser_Parser_fails.E (p1 : (Option Addr)) (a2 : (Option Addr)) (R : (TT [.int .u8, .int .i64, .int .i64, .int .i64, .int .u32, .sl, .int .i64]) → Bool → World → Prop) (w : World) : Prop :=
 Nw 38 ⟨[(.int .u8 0), (.int .i64 0), (.int .i64 0), (.int .i64 0), (.int .u32 0), (.slice none 0 0), (.int .i64 0)]⟩ w fun (b4 : Nat) (w_3 : World) =>
 NilCk p1 fun (p5 : Addr) =>
 Ld kI (p5.add 794) w_3 fun (e6 : Int) =>
 StC (⟨b4, 0, none⟩ : Addr) [(.int .u8 8), (.int .i64 0), (.int .i64 0), (.int .i64 0), (.int .u32 0), (.slice none 0 0), (.int .i64 e6)] 0 w_3 fun (w_7 : World) =>
 Ld (.st [.int .u8, .int .i64, .int .i64, .int .i64, .int .u32, .sl, .int .i64]) (⟨b4, 0, none⟩ : Addr) w_7 fun (res8 : (TT [.int .u8, .int .i64, .int .i64, .int .i64, .int .u32, .sl, .int .i64])) =>
 R (res8) (true) w_7
theorem parser_Parser_fails.ok (p1 : (Option Addr)) (a2 : (Option Addr)) (R : (TT [.int .u8, .int .i64, .int .i64, .int .i64, .int .u32, .sl, .int .i64]) → Bool → World → Prop) (w : World) (h : parser_Parser_fails.E p1 a2 R w) : Cl Try.prog [(.st [.int .u8, .int .i64, .int .i64, .int .i64, .int .u32, .sl, .int .i64]), kB] n_parser_Parser_fails ⟨[(.pointer p1), (.pointer a2)]⟩ w R :=
  calls_of_eq Try.mix Try.f35 [(.pointer p1), (.pointer a2)] [(.st [.int .u8, .int .i64, .int .i64, .int .i64, .int .u32, .sl, .int .i64]), kB] R 11 [.cell 4 38, .tmp 5] (by kernel_rfl) (by kernel_rfl) (by kernel_rfl) (by kernel_rfl) (by kernel_rfl)
    (.s .o (.s .o .o))
    (by kernel_rfl) h
set_option maxRecDepth 100000 in
/-- (*parser.Parser).take -/
def parser_Parser_take.E (p1 : (Option Addr)) (r2 : (Option Addr)) (width3 : Int) (R : Int → (TT [.int .u8, .int .i64, .int .i64, .int .i64, .int .u32, .sl, .int .i64]) → Bool → World → Prop) (w : World) : Prop :=
 Nw 38 ⟨[(.int .u8 0), (.int .i64 0), (.int .i64 0), (.int .i64 0), (.int .u32 0), (.slice none 0 0), (.int .i64 0)]⟩ w fun (b5 : Nat) (w_4 : World) =>
 Cl Try.prog [(kInt .u32), kB] n_bitreader_Reader_Take ⟨[(.pointer r2), (.int .i64 width3)]⟩ w_4 fun (r7 : Int) (r8 : Bool) (w_6 : World) =>
 IfB r8
 (Drw w_6 fun (w_9 : World) =>
 Ld (.st [.int .u8, .int .i64, .int .i64, .int .i64, .int .u32, .sl, .int .i64]) (⟨b5, 0, none⟩ : Addr) w_9 fun (x10 : (TT [.int .u8, .int .i64, .int .i64, .int .i64, .int .u32, .sl, .int .i64])) =>
 StC (⟨b5, 0, none⟩ : Addr) [(.int .u8 x10.1), (.int .i64 x10.2.1), (.int .i64 x10.2.2.1), (.int .i64 x10.2.2.2.1), (.int .u32 x10.2.2.2.2.1), (.slice x10.2.2.2.2.2.1.base x10.2.2.2.2.2.1.len x10.2.2.2.2.2.1.cap), (.int .i64 x10.2.2.2.2.2.2.1)] 0 w_9 fun (w_11 : World) =>
 Ld (.st [.int .u8, .int .i64, .int .i64, .int .i64, .int .u32, .sl, .int .i64]) (⟨b5, 0, none⟩ : Addr) w_11 fun (res12 : (TT [.int .u8, .int .i64, .int .i64, .int .i64, .int .u32, .sl, .int .i64])) =>
 R (r7) (res12) (true) w_11)
 (Cl Try.prog [kB] n_bitreader_Reader_Ended ⟨[(.pointer r2)]⟩ w_6 fun (r14 : Bool) (w_13 : World) =>
 IfB r14
 (Cl Try.prog [(.st [.int .u8, .int .i64, .int .i64, .int .i64, .int .u32, .sl, .int .i64]), kB] n_parser_Parser_wrong ⟨[(.pointer p1), (.int .i64 50)]⟩ w_13 fun (r16 : (TT [.int .u8, .int .i64, .int .i64, .int .i64, .int .u32, .sl, .int .i64])) (r17 : Bool) (w_15 : World) =>
 StC (⟨b5, 0, none⟩ : Addr) [(.int .u8 r16.1), (.int .i64 r16.2.1), (.int .i64 r16.2.2.1), (.int .i64 r16.2.2.2.1), (.int .u32 r16.2.2.2.2.1), (.slice r16.2.2.2.2.2.1.base r16.2.2.2.2.2.1.len r16.2.2.2.2.2.1.cap), (.int .i64 r16.2.2.2.2.2.2.1)] 0 w_15 fun (w_18 : World) =>
 Drw w_18 fun (w_19 : World) =>
 Ld (.st [.int .u8, .int .i64, .int .i64, .int .i64, .int .u32, .sl, .int .i64]) (⟨b5, 0, none⟩ : Addr) w_19 fun (x20 : (TT [.int .u8, .int .i64, .int .i64, .int .i64, .int .u32, .sl, .int .i64])) =>
 StC (⟨b5, 0, none⟩ : Addr) [(.int .u8 x20.1), (.int .i64 x20.2.1), (.int .i64 x20.2.2.1), (.int .i64 x20.2.2.2.1), (.int .u32 x20.2.2.2.2.1), (.slice x20.2.2.2.2.2.1.base x20.2.2.2.2.2.1.len x20.2.2.2.2.2.1.cap), (.int .i64 x20.2.2.2.2.2.2.1)] 0 w_19 fun (w_21 : World) =>
 Ld (.st [.int .u8, .int .i64, .int .i64, .int .i64, .int .u32, .sl, .int .i64]) (⟨b5, 0, none⟩ : Addr) w_21 fun (res22 : (TT [.int .u8, .int .i64, .int .i64, .int .i64, .int .u32, .sl, .int .i64])) =>
 R (0) (res22) (false) w_21)
 (StC (⟨b5, 0, none⟩ : Addr) [(.int .u8 1), (.int .i64 0), (.int .i64 0), (.int .i64 0), (.int .u32 0), (.slice none 0 0), (.int .i64 0)] 0 w_13 fun (w_23 : World) =>
 Ld (.st [.int .u8, .int .i64, .int .i64, .int .i64, .int .u32, .sl, .int .i64]) (⟨b5, 0, none⟩ : Addr) w_23 fun (res24 : (TT [.int .u8, .int .i64, .int .i64, .int .i64, .int .u32, .sl, .int .i64])) =>
 R (0) (res24) (false) w_23))
set_option maxRecDepth 100000 in
theorem parser_Parser_take.ok (p1 : (Option Addr)) (r2 : (Option Addr)) (width3 : Int) (R : Int → (TT [.int .u8, .int .i64, .int .i64, .int .i64, .int .u32, .sl, .int .i64]) → Bool → World → Prop) (w : World) (h : parser_Parser_take.E p1 r2 width3 R w) : Cl Try.prog [(kInt .u32), (.st [.int .u8, .int .i64, .int .i64, .int .i64, .int .u32, .sl, .int .i64]), kB] n_parser_Parser_take ⟨[(.pointer p1), (.pointer r2), (.int .i64 width3)]⟩ w R :=
  calls_of_eq Try.mix Try.f37 [(.pointer p1), (.pointer r2), (.int .i64 width3)] [(kInt .u32), (.st [.int .u8, .int .i64, .int .i64, .int .i64, .int .u32, .sl, .int .i64]), kB] R 27 [.tmp 6, .cell 7 38, .tmp 8] (by kernel_rfl) (by kernel_rfl) (by kernel_rfl) (by kernel_rfl) (by kernel_rfl)
    (.s .o (.s (.s .o (.s .o (.c (.s .o .o) .o))) (.s (.s .o (.c (.s .o (.s .o .o)) .o)) (.s .o .o))))
    (by kernel_rfl) h
/-- (*parser.Parser).wrong -/
def parser_Parser_wrong.E (p1 : (Option Addr)) (e2 : Int) (R : (TT [.int .u8, .int .i64, .int .i64, .int .i64, .int .u32, .sl, .int .i64]) → Bool → World → Prop) (w : World) : Prop :=
 Nw 38 ⟨[(.int .u8 0), (.int .i64 0), (.int .i64 0), (.int .i64 0), (.int .u32 0), (.slice none 0 0), (.int .i64 0)]⟩ w fun (b4 : Nat) (w_3 : World) =>
 Cl Try.prog [(.st [.int .i64])] n_parser_bad ⟨[]⟩ w_3 fun (r6 : (TT [.int .i64])) (w_5 : World) =>
 NilCk p1 fun (p7 : Addr) =>
 StC (p7.add 0) [(.int .i64 r6.1)] 0 w_5 fun (w_8 : World) =>
 NilCk p1 fun (p9 : Addr) =>
 St (p9.add 794) (.int .i64 e2) w_8 fun (w_10 : World) =>
 StC (⟨b4, 0, none⟩ : Addr) [(.int .u8 8), (.int .i64 0), (.int .i64 0), (.int .i64 0), (.int .u32 0), (.slice none 0 0), (.int .i64 e2)] 0 w_10 fun (w_11 : World) =>
 Ld (.st [.int .u8, .int .i64, .int .i64, .int .i64, .int .u32, .sl, .int .i64]) (⟨b4, 0, none⟩ : Addr) w_11 fun (res12 : (TT [.int .u8, .int .i64, .int .i64, .int .i64, .int .u32, .sl, .int .i64])) =>
 R (res12) (true) w_11
theorem parser_Parser_wrong.ok (p1 : (Option Addr)) (e2 : Int) (R : (TT [.int .u8, .int .i64, .int .i64, .int .i64, .int .u32, .sl, .int .i64]) → Bool → World → Prop) (w : World) (h : parser_Parser_wrong.E p1 e2 R w) : Cl Try.prog [(.st [.int .u8, .int .i64, .int .i64, .int .i64, .int .u32, .sl, .int .i64]), kB] n_parser_Parser_wrong ⟨[(.pointer p1), (.int .i64 e2)]⟩ w R :=
  calls_of_eq Try.mix Try.f39 [(.pointer p1), (.int .i64 e2)] [(.st [.int .u8, .int .i64, .int .i64, .int .i64, .int .u32, .sl, .int .i64]), kB] R 16 [.cell 4 38, .tmp 5] (by kernel_rfl) (by kernel_rfl) (by kernel_rfl) (by kernel_rfl) (by kernel_rfl)
    (.s .o (.s .o (.s .o .o)))
    (by kernel_rfl) h
end Go.Proofs.Ytjnjjibmlalpiaa
/- Fbitreader -/
namespace Go.Proofs.Ytjnjjibmlalpiaa
open Go Go.Vc
/-- bitreader.New -/
def bitreader_New.E  (R : (Option Addr) → World → Prop) (w : World) : Prop :=
 Nw 47 ⟨[(.slice none 0 0), (.int .i64 0), (.int .i64 0), (.bool false)]⟩ w fun (b2 : Nat) (w_1 : World) =>
 R ((some (⟨b2, 0, none⟩ : Addr))) w_1
theorem bitreader_New.ok  (R : (Option Addr) → World → Prop) (w : World) (h : bitreader_New.E  R w) : Cl Try.prog [kP] n_bitreader_New ⟨[]⟩ w R :=
  calls_of_eq Try.mix Try.f8 [] [kP] R 3 [.tmp 0] (by kernel_rfl) (by kernel_rfl) (by kernel_rfl) (by kernel_rfl) (by kernel_rfl)
    (.s .o (.s .o .o))
    (by kernel_rfl) h
/-- (*bitreader.Reader).Feed -/
def bitreader_Reader_Feed.E (r1 : (Option Addr)) (chunks2 : Sl) (R : Bool → World → Prop) (w : World) : Prop :=
 IfB (Option.isNone (r1 : Option Addr))
 (R (false) w)
 (NilCk r1 fun (p3 : Addr) =>
 Ld kB (p3.add 3) w fun (ended4 : Bool) =>
 IfB ended4
 (R (false) w)
 (∃ (I_5 : Int → World → Prop) (m_6 : Int → World → Nat), I_5 (0) w ∧
 ∀ (t17_7 : Int), ∀ (w_8 : World), I_5 t17_7 w_8 →
 IfB (decide ((t17_7 : Int) < ((chunks2.len : Int) : Int)))
 (Idx chunks2 t17_7 1 fun (q9 : Addr) =>
 Ld kS q9 w_8 fun (x10 : Sl) =>
 NilCk r1 fun (p11 : Addr) =>
 Ld kS (p11.add 0) w_8 fun (bytes12 : Sl) =>
 Run Try.prog (Builtin.append_ #[25, 25] 25 ⟨[(.slice bytes12.base bytes12.len bytes12.cap), (.slice x10.base x10.len x10.cap)]⟩) kS w_8 fun (s14 : Sl) (w_13 : World) =>
 NilCk r1 fun (p15 : Addr) =>
 St (p15.add 0) (.slice s14.base s14.len s14.cap) w_13 fun (w_16 : World) =>
 I_5 ((i64 ((t17_7 : Int) + (1 : Int)))) w_16 ∧ m_6 ((i64 ((t17_7 : Int) + (1 : Int)))) w_16 < m_6 t17_7 w_8)
 (R (true) w_8)))
theorem bitreader_Reader_Feed.ok (r1 : (Option Addr)) (chunks2 : Sl) (R : Bool → World → Prop) (w : World) (h : bitreader_Reader_Feed.E r1 chunks2 R w) : Cl Try.prog [kB] n_bitreader_Reader_Feed ⟨[(.pointer r1), (.slice chunks2.base chunks2.len chunks2.cap)]⟩ w R :=
  calls_of_eq Try.mix Try.f10 [(.pointer r1), (.slice chunks2.base chunks2.len chunks2.cap)] [kB] R 31 [.tmp 4] (by kernel_rfl) (by kernel_rfl) (by kernel_rfl) (by kernel_rfl) (by kernel_rfl)
    (.s .o (.s (.s .o (.c (.s .o .o) .o)) (.s (.s .o (.b (.l [(17, kI)] (.s .o (.s (.c .o .o) (.s (.b (.s .o .o)) .o)))))) (.s .o .o))))
    (by kernel_rfl) h
/-- (*bitreader.Reader).End -/
def bitreader_Reader_End.E (r1 : (Option Addr)) (R : Bool → World → Prop) (w : World) : Prop :=
 IfB (Option.isNone (r1 : Option Addr))
 (R (false) w)
 (NilCk r1 fun (p2 : Addr) =>
 Ld kB (p2.add 3) w fun (ended3 : Bool) =>
 IfB ended3
 (R (false) w)
 (NilCk r1 fun (p4 : Addr) =>
 St (p4.add 3) (.bool true) w fun (w_5 : World) =>
 R (true) w_5))
theorem bitreader_Reader_End.ok (r1 : (Option Addr)) (R : Bool → World → Prop) (w : World) (h : bitreader_Reader_End.E r1 R w) : Cl Try.prog [kB] n_bitreader_Reader_End ⟨[(.pointer r1)]⟩ w R :=
  calls_of_eq Try.mix Try.f11 [(.pointer r1)] [kB] R 14 [.tmp 2] (by kernel_rfl) (by kernel_rfl) (by kernel_rfl) (by kernel_rfl) (by kernel_rfl)
    (.s .o (.s (.s .o (.c (.s .o .o) .o)) (.s .o (.s .o .o))))
    (by kernel_rfl) h
/-- (*bitreader.Reader).Left -/
def bitreader_Reader_Left.E (r1 : (Option Addr)) (R : Int → World → Prop) (w : World) : Prop :=
 IfB (Option.isNone (r1 : Option Addr))
 (R (0) w)
 (Drw w fun (w_2 : World) =>
 NilCk r1 fun (p3 : Addr) =>
 Ld kS (p3.add 0) w_2 fun (bytes4 : Sl) =>
 0 ≤ (3 : Int) ∧
 NilCk r1 fun (p5 : Addr) =>
 Ld kI (p5.add 1) w_2 fun (bit6 : Int) =>
 R ((i64 (((ishl .i64 ((bytes4.len : Int) : Int) (3 : Int)) : Int) - (bit6 : Int)))) w_2)
theorem bitreader_Reader_Left.ok (r1 : (Option Addr)) (R : Int → World → Prop) (w : World) (h : bitreader_Reader_Left.E r1 R w) : Cl Try.prog [kI] n_bitreader_Reader_Left ⟨[(.pointer r1)]⟩ w R :=
  calls_of_eq Try.mix Try.f13 [(.pointer r1)] [kI] R 16 [.tmp 2] (by kernel_rfl) (by kernel_rfl) (by kernel_rfl) (by kernel_rfl) (by kernel_rfl)
    (.s .o (.s (.s .o (.c (.s .o .o) .o)) (.s .o .o)))
    (by kernel_rfl) h
/-- (*bitreader.Reader).Align -/
def bitreader_Reader_Align.E (r1 : (Option Addr)) (R : Int → Int → World → Prop) (w : World) : Prop :=
 IfB (Option.isNone (r1 : Option Addr))
 (R (0) (0) w)
 (NilCk r1 fun (p2 : Addr) =>
 Ld kI (p2.add 1) w fun (bit3 : Int) =>
 IfB ((bit3 : Int) == (0 : Int))
 (R (0) (0) w)
 (NilCk r1 fun (p4 : Addr) =>
 Ld kI (p4.add 1) w fun (bit5 : Int) =>
 Cl Try.prog [(kInt .u32), kB] n_bitreader_Reader_Take ⟨[(.pointer r1), (.int .i64 (i64 ((8 : Int) - (bit5 : Int))))]⟩ w fun (r7 : Int) (r8 : Bool) (w_6 : World) =>
 R (r7) ((i64 ((8 : Int) - (bit5 : Int)))) w_6))
theorem bitreader_Reader_Align.ok (r1 : (Option Addr)) (R : Int → Int → World → Prop) (w : World) (h : bitreader_Reader_Align.E r1 R w) : Cl Try.prog [(kInt .u32), kI] n_bitreader_Reader_Align ⟨[(.pointer r1)]⟩ w R :=
  calls_of_eq Try.mix Try.f46 [(.pointer r1)] [(kInt .u32), kI] R 26 [.tmp 2, .tmp 3] (by kernel_rfl) (by kernel_rfl) (by kernel_rfl) (by kernel_rfl) (by kernel_rfl)
    (.s .o (.s (.s .o (.c (.s .o .o) .o)) (.s .o (.s .o (.s .o .o)))))
    (by kernel_rfl) h
/-- (*bitreader.Reader).Ended -/
def bitreader_Reader_Ended.E (r1 : (Option Addr)) (R : Bool → World → Prop) (w : World) : Prop :=
 IfB (!(Option.isNone (r1 : Option Addr)))
 (NilCk r1 fun (p2 : Addr) =>
 Ld kB (p2.add 3) w fun (ended3 : Bool) =>
 R (ended3) w)
 (R (false) w)
theorem bitreader_Reader_Ended.ok (r1 : (Option Addr)) (R : Bool → World → Prop) (w : World) (h : bitreader_Reader_Ended.E r1 R w) : Cl Try.prog [kB] n_bitreader_Reader_Ended ⟨[(.pointer r1)]⟩ w R :=
  calls_of_eq Try.mix Try.f47 [(.pointer r1)] [kB] R 11 [.tmp 2] (by kernel_rfl) (by kernel_rfl) (by kernel_rfl) (by kernel_rfl) (by kernel_rfl)
    (.s .o (.s .o .o))
    (by kernel_rfl) h
/-- (*bitreader.Reader).Take -/
def bitreader_Reader_Take.E (r1 : (Option Addr)) (width2 : Int) (R : Int → Bool → World → Prop) (w : World) : Prop :=
 Cl Try.prog [(kInt .u32), kB] n_bitreader_Reader_Peek ⟨[(.pointer r1), (.int .i64 width2)]⟩ w fun (r4 : Int) (r5 : Bool) (w_3 : World) =>
 IfB (!r5)
 (R (0) (false) w_3)
 (NilCk r1 fun (p6 : Addr) =>
 Ld kI (p6.add 2) w_3 fun (used7 : Int) =>
 NilCk r1 fun (p8 : Addr) =>
 St (p8.add 2) (.int .i64 (i64 ((used7 : Int) + (width2 : Int)))) w_3 fun (w_9 : World) =>
 NilCk r1 fun (p10 : Addr) =>
 Ld kI (p10.add 1) w_9 fun (bit11 : Int) =>
 NilCk r1 fun (p12 : Addr) =>
 St (p12.add 1) (.int .i64 (i64 ((bit11 : Int) + (width2 : Int)))) w_9 fun (w_13 : World) =>
 Drw w_13 fun (w_14 : World) =>
 NilCk r1 fun (p15 : Addr) =>
 Ld kS (p15.add 0) w_14 fun (bytes16 : Sl) =>
 NilCk r1 fun (p17 : Addr) =>
 Ld kI (p17.add 1) w_14 fun (bit18 : Int) =>
 0 ≤ (3 : Int) ∧
 Slc bytes16 (ishr .i64 (bit18 : Int) (3 : Int)) (bytes16).len (bytes16).cap 1 fun (s19 : Sl) =>
 NilCk r1 fun (p20 : Addr) =>
 St (p20.add 0) (.slice s19.base s19.len s19.cap) w_14 fun (w_21 : World) =>
 NilCk r1 fun (p22 : Addr) =>
 Ld kI (p22.add 1) w_21 fun (bit23 : Int) =>
 NilCk r1 fun (p24 : Addr) =>
 St (p24.add 1) (.int .i64 (iand .i64 (bit23 : Int) (7 : Int))) w_21 fun (w_25 : World) =>
 R (r4) (true) w_25)
theorem bitreader_Reader_Take.ok (r1 : (Option Addr)) (width2 : Int) (R : Int → Bool → World → Prop) (w : World) (h : bitreader_Reader_Take.E r1 width2 R w) : Cl Try.prog [(kInt .u32), kB] n_bitreader_Reader_Take ⟨[(.pointer r1), (.int .i64 width2)]⟩ w R :=
  calls_of_eq Try.mix Try.f48 [(.pointer r1), (.int .i64 width2)] [(kInt .u32), kB] R 53 [.tmp 4, .tmp 5] (by kernel_rfl) (by kernel_rfl) (by kernel_rfl) (by kernel_rfl) (by kernel_rfl)
    (.s .o (.s .o (.s (.s .o (.c (.s .o .o) .o)) (.s .o (.s .o (.s .o (.s .o (.s .o .o))))))))
    (by kernel_rfl) h
set_option maxRecDepth 100000 in
/-- (*bitreader.Reader).Peek -/
def bitreader_Reader_Peek.E (r1 : (Option Addr)) (width2 : Int) (R : Int → Bool → World → Prop) (w : World) : Prop :=
 Join (fun (w_6 : World) =>
 NilCk r1 fun (p7 : Addr) =>
 Ld kI (p7.add 1) w_6 fun (bit8 : Int) =>
 0 ≤ (3 : Int) ∧
 NilCk r1 fun (p9 : Addr) =>
 Ld kS (p9.add 0) w_6 fun (bytes10 : Sl) =>
 Slc bytes10 0 (ishr .i64 ((i64 (((i64 ((bit8 : Int) + (width2 : Int))) : Int) + (7 : Int))) : Int) (3 : Int)) (bytes10).cap 1 fun (s11 : Sl) =>
 ∃ (I_12 : Int → Int → World → Prop) (m_13 : Int → Int → World → Nat), I_12 (0) (0) w_6 ∧
 ∀ (v14 : Int) (t41_15 : Int), ∀ (w_16 : World), I_12 v14 t41_15 w_16 →
 IfB (decide ((t41_15 : Int) < ((s11.len : Int) : Int)))
 (Idx s11 t41_15 1 fun (q17 : Addr) =>
 Ld (kInt .u8) q17 w_16 fun (x18 : Int) =>
 0 ≤ (8 : Int) ∧
 I_12 ((ior .u64 ((ishl .u64 (v14 : Int) (8 : Int)) : Int) ((u64 x18) : Int))) ((i64 ((t41_15 : Int) + (1 : Int)))) w_16 ∧ m_13 ((ior .u64 ((ishl .u64 (v14 : Int) (8 : Int)) : Int) ((u64 x18) : Int))) ((i64 ((t41_15 : Int) + (1 : Int)))) w_16 < m_13 v14 t41_15 w_16)
 (0 ≤ (3 : Int) ∧
 NilCk r1 fun (p19 : Addr) =>
 Ld kI (p19.add 1) w_16 fun (bit20 : Int) =>
 0 ≤ ((u64 (i64 (((i64 (((ishl .i64 ((ishr .i64 ((i64 (((i64 ((bit8 : Int) + (width2 : Int))) : Int) + (7 : Int))) : Int) (3 : Int)) : Int) (3 : Int)) : Int) - (bit20 : Int))) : Int) - (width2 : Int)))) : Int) ∧
 0 ≤ ((u64 width2) : Int) ∧
 R ((u32 (iand .u64 ((ishr .u64 (v14 : Int) ((u64 (i64 (((i64 (((ishl .i64 ((ishr .i64 ((i64 (((i64 ((bit8 : Int) + (width2 : Int))) : Int) + (7 : Int))) : Int) (3 : Int)) : Int) (3 : Int)) : Int) - (bit20 : Int))) : Int) - (width2 : Int)))) : Int)) : Int) ((u64 (((ishl .u64 (1 : Int) ((u64 width2) : Int)) : Int) - (1 : Int))) : Int)))) (true) w_16)) fun (K_3 : World → Prop) =>
 IfB (Option.isNone (r1 : Option Addr))
 (R (0) (false) w)
 (IfB (decide ((width2 : Int) < (0 : Int)))
 (R (0) (false) w)
 (IfB (decide ((width2 : Int) > (32 : Int)))
 (R (0) (false) w)
 (Cl Try.prog [kI] n_bitreader_Reader_Left ⟨[(.pointer r1)]⟩ w fun (r5 : Int) (w_4 : World) =>
 IfB (decide ((width2 : Int) > (r5 : Int)))
 (R (0) (false) w_4)
 (K_3  w_4))))
set_option maxRecDepth 100000 in
theorem bitreader_Reader_Peek.ok (r1 : (Option Addr)) (width2 : Int) (R : Int → Bool → World → Prop) (w : World) (h : bitreader_Reader_Peek.E r1 width2 R w) : Cl Try.prog [(kInt .u32), kB] n_bitreader_Reader_Peek ⟨[(.pointer r1), (.int .i64 width2)]⟩ w R :=
  calls_of_eq Try.mix Try.f65 [(.pointer r1), (.int .i64 width2)] [(kInt .u32), kB] R 70 [.tmp 4, .tmp 5] (by kernel_rfl) (by kernel_rfl) (by kernel_rfl) (by kernel_rfl) (by kernel_rfl)
    (.s .o (.j [] (.s .o (.c (.s .o .o) .o)) (.s .o (.s .o (.s (.s .o (.b (.l [(6, (kInt .u64)), (41, kI)] (.s .o (.s (.c .o .o) (.s (.b (.s .o .o)) .o)))))) (.s .o (.s .o .o)))))))
    (by kernel_rfl) h
end Go.Proofs.Ytjnjjibmlalpiaa
/- Sep -/
namespace Go.Vc
open Go

abbrev Frag := Nat → Option Obj
abbrev HP := Frag → Prop
def Frag.emp : Frag := fun _ => none
def Frag.one (b : Nat) (o : Obj) : Frag := fun r => if r = b then some o else none
def Frag.add (f g : Frag) : Frag := fun r => match f r with | some o => some o | none => g r
def Apart (f g : Frag) : Prop := ∀ r, f r = none ∨ g r = none
def Blk (b : Nat) (o : Obj) : HP := fun f => f = Frag.one b o
def Sat : List HP → HP
  | [], f => f = Frag.emp
  | A :: l, f => ∃ g h, Apart g h ∧ f = g.add h ∧ A g ∧ Sat l h
def SubW (f : Frag) (w : World) : Prop := ∀ r o, f r = some o → w.heap[r]? = some o
/-- the world holds these assertions, apart from each other; its streams are those of E -/
structure Hp (E : World) (w : World) (l : List HP) : Prop where
  os : w.os = E.os
  output : w.output = E.output
  tape : w.tape = E.tape
  frag : ∃ f, SubW f w ∧ Sat l f

theorem Apart.comm {f g : Frag} (h : Apart f g) : Apart g f := fun r => (h r).symm
theorem Frag.add_comm {f g : Frag} (h : Apart f g) : f.add g = g.add f := by
  funext r
  unfold Frag.add
  rcases h r with h | h
  · rw [h]; cases g r <;> rfl
  · rw [h]; cases f r <;> rfl
theorem Frag.add_assoc (f g h : Frag) : (f.add g).add h = f.add (g.add h) := by
  funext r
  unfold Frag.add
  cases f r <;> rfl
theorem Frag.add_emp (f : Frag) : f.add Frag.emp = f := by
  funext r; unfold Frag.add Frag.emp; cases f r <;> rfl
theorem Frag.emp_add (f : Frag) : Frag.emp.add f = f := by
  funext r; rfl
theorem apart_add {f g h : Frag} : Apart f (g.add h) ↔ Apart f g ∧ Apart f h := by
  constructor
  · intro H
    refine ⟨fun r => ?_, fun r => ?_⟩
    · rcases H r with h1 | h1
      · exact .inl h1
      · right; unfold Frag.add at h1; cases hg : g r <;> simp_all
    · rcases H r with h1 | h1
      · exact .inl h1
      · right; unfold Frag.add at h1; cases hg : g r <;> simp_all
  · rintro ⟨h1, h2⟩ r
    rcases h1 r with h | h
    · exact .inl h
    · rcases h2 r with h' | h'
      · exact .inl h'
      · right; simp [Frag.add, h, h']
theorem add_apart {f g h : Frag} : Apart (f.add g) h ↔ Apart f h ∧ Apart g h :=
  ⟨fun H => let ⟨a, b⟩ := apart_add.1 H.comm; ⟨a.comm, b.comm⟩, fun ⟨a, b⟩ => (apart_add.2 ⟨a.comm, b.comm⟩).comm⟩
theorem Sat.swap {A B : HP} {l : List HP} {f : Frag} (h : Sat (A :: B :: l) f) : Sat (B :: A :: l) f := by
  obtain ⟨g, h1, hd, rfl, hA, g2, h2, hd2, rfl, hB, hl⟩ := h
  obtain ⟨d1, d2⟩ := apart_add.1 hd
  refine ⟨g2, g.add h2, apart_add.2 ⟨d1.comm, hd2⟩, ?_, hB, g, h2, d2, rfl, hA, hl⟩
  rw [← Frag.add_assoc, ← Frag.add_assoc, Frag.add_comm d1]
theorem Sat.tail {A : HP} {l l' : List HP} (h : ∀ f, Sat l f → Sat l' f) {f : Frag} (hs : Sat (A :: l) f) : Sat (A :: l') f := by
  obtain ⟨g, k, hd, rfl, hA, hl⟩ := hs
  exact ⟨g, k, hd, rfl, hA, h _ hl⟩
theorem Sat.perm {l l' : List HP} (hp : l.Perm l') : ∀ f, Sat l f → Sat l' f := by
  induction hp with
  | nil => exact fun _ h => h
  | cons A _ ih => exact fun f h => h.tail ih
  | swap A B l => exact fun f h => h.swap
  | trans _ _ ih1 ih2 => exact fun f h => ih2 f (ih1 f h)
theorem Sat.append {l l' : List HP} {f : Frag} : Sat (l ++ l') f ↔ ∃ g h, Apart g h ∧ f = g.add h ∧ Sat l g ∧ Sat l' h := by
  induction l generalizing f with
  | nil => exact ⟨fun h => ⟨Frag.emp, f, fun _ => .inl rfl, (Frag.emp_add f).symm, rfl, h⟩, fun ⟨g, h, _, e, hg, hh⟩ => by
      have : g = Frag.emp := hg
      rw [e, this, Frag.emp_add]; exact hh⟩
  | cons A l ih =>
    constructor
    · rintro ⟨g, h, hd, rfl, hA, hs⟩
      obtain ⟨g2, h2, hd2, rfl, hs2, hs3⟩ := ih.1 hs
      obtain ⟨d1, d2⟩ := apart_add.1 hd
      exact ⟨g.add g2, h2, add_apart.2 ⟨d2, hd2⟩, (Frag.add_assoc _ _ _).symm, ⟨g, g2, d1, rfl, hA, hs2⟩, hs3⟩
    · rintro ⟨g, h, hd, rfl, ⟨g2, h2, hd2, rfl, hA, hs2⟩, hs3⟩
      obtain ⟨d1, d2⟩ := add_apart.1 hd
      exact ⟨g2, h2.add h, apart_add.2 ⟨hd2, d1⟩, Frag.add_assoc _ _ _, hA, ih.2 ⟨h2, h, d2, rfl, hs2, hs3⟩⟩
section
variable {E w w' : World} {A B C D G : HP} {l l' F : List HP}
theorem Hp.perm (h : Hp E w l) (hp : l.Perm l') : Hp E w l' :=
  ⟨h.os, h.output, h.tape, let ⟨f, a, b⟩ := h.frag; ⟨f, a, Sat.perm hp f b⟩⟩
/-- bring the assertion number k to the front -/
theorem Hp.p1 (h : Hp E w (A :: B :: F)) : Hp E w (B :: A :: F) := h.perm (.swap ..)
theorem Hp.p2 (h : Hp E w (A :: B :: C :: F)) : Hp E w (C :: A :: B :: F) := h.perm ((List.Perm.cons A (.swap ..)).trans (.swap ..))
theorem Hp.p3 (h : Hp E w (A :: B :: C :: D :: F)) : Hp E w (D :: A :: B :: C :: F) :=
  h.perm ((List.Perm.cons A ((List.Perm.cons B (.swap ..)).trans (.swap ..))).trans (.swap ..))
theorem Hp.p4 (h : Hp E w (A :: B :: C :: D :: G :: F)) : Hp E w (G :: A :: B :: C :: D :: F) :=
  h.perm ((List.Perm.cons A ((List.Perm.cons B ((List.Perm.cons C (.swap ..)).trans (.swap ..))).trans (.swap ..))).trans (.swap ..))
/-- put the first assertion behind the next k -/
theorem Hp.q2 (h : Hp E w (A :: B :: C :: F)) : Hp E w (B :: C :: A :: F) := h.p1.perm (.cons B (.swap ..))
theorem Hp.q3 (h : Hp E w (A :: B :: C :: D :: F)) : Hp E w (B :: C :: D :: A :: F) := h.q2.perm (.cons B (.cons C (.swap ..)))
theorem Hp.q4 (h : Hp E w (A :: B :: C :: D :: G :: F)) : Hp E w (B :: C :: D :: G :: A :: F) := h.q3.perm (.cons B (.cons C (.cons D (.swap ..))))
theorem Hp.flat (h : Hp E w (Sat l :: F)) : Hp E w (l ++ F) :=
  ⟨h.os, h.output, h.tape, let ⟨f, a, g, k, hd, e, h1, h2⟩ := h.frag; ⟨f, a, Sat.append.2 ⟨g, k, hd, e, h1, h2⟩⟩⟩
theorem Hp.fold (h : Hp E w (l ++ F)) : Hp E w (Sat l :: F) :=
  ⟨h.os, h.output, h.tape, let ⟨f, a, h1⟩ := h.frag; let ⟨g, k, hd, e, h1, h2⟩ := Sat.append.1 h1; ⟨f, a, g, k, hd, e, h1, h2⟩⟩
/-- what the first assertion comes to -/
theorem Hp.open1 {α : Sort _} {X : α → Prop} {L : α → List HP} (hA : ∀ f, A f → ∃ x, X x ∧ Sat (L x) f) (h : Hp E w (A :: F)) : ∃ x, X x ∧ Hp E w (L x ++ F) := by
  obtain ⟨f, a, g, k, hd, e, h1, h2⟩ := h.frag
  obtain ⟨x, hx, h3⟩ := hA g h1
  exact ⟨x, hx, h.os, h.output, h.tape, f, a, Sat.append.2 ⟨g, k, hd, e, h3, h2⟩⟩
theorem Hp.shut1 (hA : ∀ f, Sat l f → A f) (h : Hp E w (l ++ F)) : Hp E w (A :: F) := by
  obtain ⟨f, a, h1⟩ := h.frag
  obtain ⟨g, k, hd, e, h1, h2⟩ := Sat.append.1 h1
  exact ⟨h.os, h.output, h.tape, f, a, g, k, hd, e, hA _ h1, h2⟩
theorem Hp.weak (hA : ∀ f, A f → B f) (h : Hp E w (A :: F)) : Hp E w (B :: F) := by
  obtain ⟨f, a, g, k, hd, e, h1, h2⟩ := h.frag
  exact ⟨h.os, h.output, h.tape, f, a, g, k, hd, e, hA _ h1, h2⟩
theorem Hp.drop (h : Hp E w (A :: F)) : Hp E w F := by
  obtain ⟨f, a, g, k, hd, rfl, h1, h2⟩ := h.frag
  refine ⟨h.os, h.output, h.tape, k, fun r o hr => a r o ?_, h2⟩
  rcases hd r with hg | hk
  · simp [Frag.add, hg, hr]
  · rw [hk] at hr; cases hr
theorem Hp.emp (h : Hp E w F) (hA : A Frag.emp) : Hp E w (A :: F) := by
  obtain ⟨f, a, h1⟩ := h.frag
  exact ⟨h.os, h.output, h.tape, f, a, Frag.emp, f, fun _ => .inl rfl, (Frag.emp_add f).symm, hA, h1⟩
/-- a world that differs in its draws alone -/
theorem Hp.same (h : Hp E w l) (h1 : w'.heap = w.heap) (h2 : w'.os = w.os) (h3 : w'.output = w.output) (h4 : w'.tape = w.tape) : Hp E w' l :=
  ⟨h2.trans h.os, h3.trans h.output, h4.trans h.tape, let ⟨f, a, b⟩ := h.frag; ⟨f, fun r o hr => by rw [h1]; exact a r o hr, b⟩⟩
theorem Hp.drew {n : Nat} (h : Hp E w l) : Hp E { w with drawn := n } l := h.same rfl rfl rfl rfl
theorem Hp.blk {b : Nat} {o : Obj} (h : Hp E w (Blk b o :: F)) : w.heap[b]? = some o := by
  obtain ⟨f, a, g, k, hd, rfl, rfl, h2⟩ := h.frag
  exact a b o (by simp [Frag.add, Frag.one])
theorem Hp.cell {b i : Nat} {c : Array Value} {t : TypeId} {fr : Nat × Nat} (h : Hp E w (Blk b (.cells c t fr) :: F)) : w.cell? ⟨b, i, none⟩ = c[i]? := by
  simp [World.cell?, h.blk]
theorem Hp.alloc (h : Hp E w F) (o : Obj) : Hp E (w.alloc o) (Blk w.heap.size o :: F) := by
  obtain ⟨f, a, h1⟩ := h.frag
  have hn : f w.heap.size = none := by
    cases hf : f w.heap.size with
    | none => rfl
    | some o => have := a _ _ hf; simp at this
  refine ⟨h.os, h.output, h.tape, (Frag.one w.heap.size o).add f, fun r o' hr => ?_, _, _, fun r => ?_, rfl, rfl, h1⟩
  · show (w.heap.push o)[r]? = _
    rw [Array.getElem?_push]
    by_cases hr0 : r = w.heap.size
    · subst hr0; simp [Frag.add, Frag.one] at hr; simp [hr]
    · simp [Frag.add, Frag.one, hr0] at hr
      rw [if_neg hr0]; exact a r o' hr
  · by_cases hr0 : r = w.heap.size
    · subst hr0; exact .inr hn
    · exact .inl (by simp [Frag.one, hr0])
theorem Hp.setObj {b : Nat} {o o' : Obj} (h : Hp E w (Blk b o :: F)) (h1 : w'.heap = w.heap.set! b o') (h2 : w'.os = w.os) (h3 : w'.output = w.output) (h4 : w'.tape = w.tape) : Hp E w' (Blk b o' :: F) := by
  have hb := h.blk
  obtain ⟨f, a, g, k, hd, rfl, rfl, h5⟩ := h.frag
  have hk : k b = none := by
    rcases hd b with hh | hh
    · simp [Frag.one] at hh
    · exact hh
  refine ⟨h2.trans h.os, h3.trans h.output, h4.trans h.tape, (Frag.one b o').add k, fun r x hr => ?_, _, _, fun r => ?_, rfl, rfl, h5⟩
  · rw [h1]
    have hlt : b < w.heap.size := by
      rcases Nat.lt_or_ge b w.heap.size with hh | hh
      · exact hh
      · simp [Array.getElem?_eq_none hh] at hb
    by_cases hr0 : r = b
    · subst hr0
      simp [Frag.add, Frag.one] at hr
      simp [hr, hlt]
    · simp [Frag.add, Frag.one, hr0] at hr
      have := a r x (by simp [Frag.add, Frag.one, hr0, hr])
      rw [Array.set!_eq_setIfInBounds, Array.getElem?_setIfInBounds_ne (Ne.symm hr0)]
      exact this
  · by_cases hr0 : r = b
    · subst hr0; exact .inr hk
    · exact .inl (by simp [Frag.one, hr0])
theorem Hp.setCell {b i : Nat} {c : Array Value} {t : TypeId} {fr : Nat × Nat} (h : Hp E w (Blk b (.cells c t fr) :: F)) (v : Value) :
    Hp E (w.setCell ⟨b, i, none⟩ v) (Blk b (.cells (c.setIfInBounds i v) t fr) :: F) := by
  have hb := h.blk
  refine h.setObj (o' := .cells (c.setIfInBounds i v) t fr) ?_ rfl rfl rfl
  apply Array.ext_getElem?
  intro r
  have hlt : b < w.heap.size := by
    rcases Nat.lt_or_ge b w.heap.size with hh | hh
    · exact hh
    · simp [Array.getElem?_eq_none hh] at hb
  simp only [World.setCell, Array.getElem?_modify, Array.set!_eq_setIfInBounds, Array.getElem?_setIfInBounds]
  by_cases hr : b = r
  · subst hr
    have hv : w.heap[b] = .cells c t fr := by simpa [hlt] using hb
    simp [hlt, hv]
  · simp [hr]

/-! what the rest of the heap tells -/
/-- whatever world holds F meets φ -/
def Tells (F : List HP) (φ : World → Prop) : Prop := ∀ w f, SubW f w → Sat F f → φ w
theorem Hp.tells {φ : World → Prop} (h : Hp E w F) (ht : Tells F φ) : φ w := let ⟨f, a, b⟩ := h.frag; ht w f a b
theorem Tells.cons {φ : World → Prop} (ht : Tells F φ) : Tells (A :: F) φ := by
  rintro w f a ⟨g, k, hd, rfl, h1, h2⟩
  refine ht w k (fun r o hr => a r o ?_) h2
  rcases hd r with hg | hk
  · simp [Frag.add, hg, hr]
  · rw [hk] at hr; cases hr
theorem Tells.perm {φ : World → Prop} (ht : Tells l φ) (hp : l.Perm l') : Tells l' φ := fun w f a b => ht w f a (Sat.perm hp.symm f b)
theorem Tells.imp {φ ψ : World → Prop} (ht : Tells F φ) (h : ∀ w, φ w → ψ w) : Tells F ψ := fun w f a b => h w (ht w f a b)
theorem Tells.and {φ ψ : World → Prop} (h1 : Tells F φ) (h2 : Tells F ψ) : Tells F (fun w => φ w ∧ ψ w) := fun w f a b => ⟨h1 w f a b, h2 w f a b⟩
theorem Tells.all {α : Sort _} {φ : α → World → Prop} (h : ∀ x, Tells F (φ x)) : Tells F (fun w => ∀ x, φ x w) := fun w f a b x => h x w f a b
theorem Tells.const {p : Prop} (h : p) : Tells F (fun _ => p) := fun _ _ _ _ => h
/-- all blocks of an older world, as they were -/
def Old (W : World) : HP := fun f => ∀ r, f r = W.heap[r]?
theorem Hp.start (W : World) : Hp W W [Old W] :=
  ⟨rfl, rfl, rfl, fun r => W.heap[r]?, fun _ _ h => h, fun r => W.heap[r]?, Frag.emp, fun _ => .inr rfl, (Frag.add_emp _).symm, fun _ => rfl, rfl⟩
theorem Tells.old {W : World} {φ : World → Prop} (h : ∀ w, (∀ r, r < W.heap.size → w.heap[r]? = W.heap[r]?) → φ w) : Tells (Old W :: F) φ := by
  rintro w f a ⟨g, k, hd, rfl, h1, h2⟩
  refine h w fun r hr => ?_
  have : g r = some W.heap[r] := by rw [h1 r]; simp [hr]
  rw [a r W.heap[r] (by simp [Frag.add, this])]
  simp [hr]
/-- at the end: nothing that was there has turned -/
theorem Hp.below {W : World} (h : Hp W w (Old W :: F)) : Go.RowKit.Below W.heap.size W w := by
  have hk := h.tells (Tells.old (φ := fun w => ∀ r, r < W.heap.size → w.heap[r]? = W.heap[r]?) fun w h => h)
  refine ⟨h.os, h.tape, h.output, ?_, hk⟩
  rcases Nat.lt_or_ge w.heap.size W.heap.size with hlt | hge
  · have := hk w.heap.size hlt
    simp [hlt] at this
  · exact hge
end

/-! the heads of formulas over this logic -/
section
variable {E w : World} {F : List HP}
theorem IfB.mk {b : Bool} {X Y : Prop} (h1 : b = true → X) (h2 : b = false → Y) : IfB b X Y := by
  cases b
  · exact h2 rfl
  · exact h1 rfl
theorem IfB.t {b : Bool} {X Y : Prop} (hb : b = true) (h : X) : IfB b X Y := by subst hb; exact h
theorem IfB.f {b : Bool} {X Y : Prop} (hb : b = false) (h : Y) : IfB b X Y := by subst hb; exact h
theorem Ld.sc {s : Sc} {p : Addr} {K : s.T → Prop} (x : s.T) (hc : w.cell? p = some (s.enc x)) (h : K x) : Ld (.sc s) p w K :=
  ⟨x, fun w' hw => by subst hw; exact hc, h⟩
theorem St.mk {p : Addr} {v : Value} {K : World → Prop} {b i : Nat} {c : Array Value} {t : TypeId} (hp : p = ⟨b, i, none⟩) (hh : Hp E w (Blk b (.cells c t (0, 0)) :: F)) (hi : i < c.size) (hv : scalarB v = true)
    (h : ∀ w', Hp E w' (Blk b (.cells (c.setIfInBounds i v) t (0, 0)) :: F) → K w') : St p v w K := by
  subst hp
  unfold St
  rw [hv]
  refine ⟨?_, ?_, h _ (hh.setCell v)⟩
  · rw [hh.cell]; simp [hi]
  · simp [World.frozen?, hh.blk]
theorem Nw.mk {t : TypeId} {cs : Array Value} {K : Nat → World → Prop} (hh : Hp E w F) (h : ∀ b w', Hp E w' (Blk b (.cells cs t (0, 0)) :: F) → K b w') : Nw t cs w K := h _ _ (hh.alloc _)
theorem Drw.mk {K : World → Prop} (hh : Hp E w F) (h : ∀ w', Hp E w' F → K w') : Drw w K := h _ hh.drew
theorem Cl.imp {P : Program} {ks : List Ki} {i : FuncId} {args : Array Value} {K K' : FnK ks (World → Prop)} (h : Cl P ks i args w K) (hk : ∀ e w', resPost ks K e w' → resPost ks K' e w') : Cl P ks i args w K' :=
  Calls.mono h hk
end
end Go.Vc
/- Lib -/
namespace Go.Vc
open Go

/-! numbers -/
theorem i64_id {x : Int} (h : -9223372036854775808 ≤ x ∧ x ≤ 9223372036854775807) : i64 x = x := IntWalk.i64_in x h
theorem u64_id {x : Int} (h : 0 ≤ x ∧ x ≤ 18446744073709551615) : u64 x = x := IntWalk.u64_in x h
theorem u32_id {x : Int} (h : 0 ≤ x ∧ x ≤ 4294967295) : u32 x = x := IntWalk.u32_in x h
theorem u16_id {x : Int} (h : 0 ≤ x ∧ x ≤ 65535) : u16 x = x := IntWalk.u16_in x h
theorem i32_id {x : Int} (h : -2147483648 ≤ x ∧ x ≤ 2147483647) : i32 x = x := IntWalk.i32_in x h
theorem u8_mod (x : Int) : u8 x = x % 256 := by
  show IntKind.wrap .u8 x = x % 256
  simp [IntKind.wrap, IntKind.bits, IntKind.signed]
theorem u8_id {x : Int} (h : 0 ≤ x ∧ x ≤ 255) : u8 x = x := by rw [u8_mod]; omega
theorem u32_mod (x : Int) : u32 x = x % 4294967296 := by
  show IntKind.wrap .u32 x = _
  simp [IntKind.wrap, IntKind.bits, IntKind.signed]
theorem u64_mod (x : Int) : u64 x = x % 18446744073709551616 := by
  show IntKind.wrap .u64 x = _
  simp [IntKind.wrap, IntKind.bits, IntKind.signed]
theorem ofInt_nat (n a : Nat) (h : a < 2 ^ n) : (BitVec.ofInt n (a : Int)).toNat = a := by
  rw [BitVec.toNat_ofInt]
  have : ((a : Int) % ((2 ^ n : Nat) : Int)) = ((a % 2 ^ n : Nat) : Int) := by omega
  rw [this, Int.toNat_natCast, Nat.mod_eq_of_lt h]
theorem wrap_nat {k : IntKind} {a : Nat} (h : (a : Int) ≤ k.max) : k.wrap (a : Int) = a := by
  cases k
  · have : IntKind.max .i8 = 127 := rfl
    exact IntWalk.i8_in _ (by omega)
  · have : IntKind.max .i16 = 32767 := rfl
    exact IntWalk.i16_in _ (by omega)
  · have : IntKind.max .i32 = 2147483647 := rfl
    exact IntWalk.i32_in _ (by omega)
  · have : IntKind.max .i64 = 9223372036854775807 := rfl
    exact IntWalk.i64_in _ (by omega)
  · have : IntKind.max .u8 = 255 := rfl
    exact IntWalk.u8_in _ (by omega)
  · have : IntKind.max .u16 = 65535 := rfl
    exact IntWalk.u16_in _ (by omega)
  · have : IntKind.max .u32 = 4294967295 := rfl
    exact IntWalk.u32_in _ (by omega)
  · have : IntKind.max .u64 = 18446744073709551615 := rfl
    exact IntWalk.u64_in _ (by omega)
theorem max_lt (k : IntKind) : (k.max : Int) < 2 ^ k.bits := by cases k <;> decide
theorem lt_bits {k : IntKind} {a : Nat} (ha : (a : Int) ≤ k.max) : a < 2 ^ k.bits := by
  have := max_lt k
  have h2 : (a : Int) < 2 ^ k.bits := Int.lt_of_le_of_lt ha this
  exact_mod_cast h2
theorem ior_nat {k : IntKind} {a b : Nat} (ha : (a : Int) ≤ k.max) (hb : (b : Int) ≤ k.max) (h : ((a ||| b : Nat) : Int) ≤ k.max) : ior k a b = ((a ||| b : Nat) : Int) := by
  unfold ior
  rw [BitVec.toNat_or, ofInt_nat _ _ (lt_bits ha), ofInt_nat _ _ (lt_bits hb), wrap_nat h]
theorem iand_nat {k : IntKind} {a b : Nat} (ha : (a : Int) ≤ k.max) (hb : (b : Int) ≤ k.max) : iand k a b = ((a &&& b : Nat) : Int) := by
  unfold iand
  rw [BitVec.toNat_and, ofInt_nat _ _ (lt_bits ha), ofInt_nat _ _ (lt_bits hb), wrap_nat]
  have := Nat.and_le_left (n := a) (m := b)
  omega
theorem ixor_nat {k : IntKind} {a b : Nat} (ha : (a : Int) ≤ k.max) (hb : (b : Int) ≤ k.max) (h : ((a ^^^ b : Nat) : Int) ≤ k.max) : ixor k a b = ((a ^^^ b : Nat) : Int) := by
  unfold ixor
  rw [BitVec.toNat_xor, ofInt_nat _ _ (lt_bits ha), ofInt_nat _ _ (lt_bits hb), wrap_nat h]
theorem ishr_nat {k : IntKind} {a b : Nat} (hb : b ≤ k.bits) : ishr k a b = ((a / 2 ^ b : Nat) : Int) := by
  unfold ishr
  rw [Int.toNat_natCast, Nat.min_eq_left hb, Int.fdiv_eq_ediv_of_nonneg _ (by exact_mod_cast Nat.zero_le _)]
  exact_mod_cast rfl
theorem ishl_nat {k : IntKind} {a b : Nat} (hb : b ≤ k.bits) (h : ((a * 2 ^ b : Nat) : Int) ≤ k.max) : ishl k a b = ((a * 2 ^ b : Nat) : Int) := by
  unfold ishl
  rw [Int.toNat_natCast, Nat.min_eq_left hb]
  have : (a : Int) * 2 ^ b = ((a * 2 ^ b : Nat) : Int) := by push_cast; rfl
  rw [this, wrap_nat h]

/-! addresses -/
theorem add_mk (b o n : Nat) : (⟨b, o, none⟩ : Addr).add n = ⟨b, o + n, none⟩ := by
  unfold Addr.add
  split
  · rename_i h; subst h; rfl
  · rfl
theorem add_zero (p : Addr) : p.add 0 = p := by simp [Addr.add]

/-! slices that are read -/
/-- slice s holds the cells xs, sz to an element -/
def SlT (sz : Nat) (s : Sl) (xs : List Value) (w : World) : Prop :=
  xs.length = s.len * sz ∧ ∀ i (h : i < xs.length), ∃ p, s.base = some p ∧ w.cell? (p.add i) = some xs[i]
/-- slice s is owned: its row of cells is this assertion's, from its place to its capacity -/
def OwnS (sz : Nat) (s : Sl) (xs : List Value) : HP := fun f =>
  xs.length = s.len * sz ∧ ((s.base = none ∧ s.len = 0 ∧ s.cap = 0 ∧ f = Frag.emp) ∨
  ∃ b off arr t, s.base = some ⟨b, off, none⟩ ∧ s.len ≤ s.cap ∧ off + s.cap * sz ≤ arr.size ∧ (∀ i (h : i < xs.length), arr[off + i]? = some xs[i]) ∧ f = Frag.one b (.cells arr t (0, 0)))
section
variable {E w w' : World} {F : List HP} {sz : Nat} {s : Sl} {xs ys : List Value}
theorem OwnS.nil (sz : Nat) : OwnS sz ⟨none, 0, 0⟩ [] Frag.emp := ⟨by simp, .inl ⟨rfl, rfl, rfl, rfl⟩⟩
theorem Hp.ownNil (h : Hp E w F) (sz : Nat) : Hp E w (OwnS sz ⟨none, 0, 0⟩ [] :: F) := h.emp (OwnS.nil sz)
theorem Hp.ownNew {b : Nat} {arr : Array Value} {t : TypeId} {n : Nat} (h : Hp E w (Blk b (.cells arr t (0, 0)) :: F)) (hn : arr.toList.length = n * sz) :
    Hp E w (OwnS sz ⟨some ⟨b, 0, none⟩, n, n⟩ arr.toList :: F) := by
  refine h.weak fun f hf => ⟨hn, .inr ⟨b, 0, arr, t, rfl, Nat.le_refl _, ?_, ?_, hf⟩⟩
  · have : arr.size = n * sz := by simpa using hn
    simp only [this]; omega
  · intro i hi
    have hi' : i < arr.size := by simpa using hi
    simp [hi']
theorem Hp.ownLen (h : Hp E w (OwnS sz s xs :: F)) : xs.length = s.len * sz := by
  obtain ⟨f, a, g, k, hd, e, h1, h2⟩ := h.frag
  exact h1.1
theorem Hp.ownCap (h : Hp E w (OwnS sz s xs :: F)) : s.len ≤ s.cap := by
  obtain ⟨f, a, g, k, hd, e, h1, h2⟩ := h.frag
  rcases h1.2 with ⟨h1, h2, h3, _⟩ | ⟨b, off, arr, t, h1, h2, _⟩
  · omega
  · exact h2
/-- an owned slice: nil, or a row -/
theorem Hp.ownOpen (h : Hp E w (OwnS sz s xs :: F)) : (s = ⟨none, 0, 0⟩ ∧ xs = [] ∧ Hp E w F) ∨
    ∃ b off arr t, s.base = some ⟨b, off, none⟩ ∧ s.len ≤ s.cap ∧ off + s.cap * sz ≤ arr.size ∧ (∀ i (h : i < xs.length), arr[off + i]? = some xs[i]) ∧ Hp E w (Blk b (.cells arr t (0, 0)) :: F) := by
  have hl := h.ownLen
  obtain ⟨f, a, g, k, hd, rfl, h1, h2⟩ := h.frag
  rcases h1.2 with ⟨h3, h4, h5, h6⟩ | ⟨b, off, arr, t, h3, h4, h5, h6, h7⟩
  · refine .inl ⟨by cases s; simp_all, ?_, h.drop⟩
    have : xs.length = 0 := by rw [hl, h4]; simp
    exact List.length_eq_zero_iff.1 this
  · exact .inr ⟨b, off, arr, t, h3, h4, h5, h6, h.os, h.output, h.tape, _, a, g, k, hd, rfl, h7, h2⟩
theorem Hp.ownShut {b off : Nat} {arr : Array Value} {t : TypeId} (h : Hp E w (Blk b (.cells arr t (0, 0)) :: F)) (hl : xs.length = s.len * sz) (h1 : s.base = some ⟨b, off, none⟩) (h2 : s.len ≤ s.cap) (h3 : off + s.cap * sz ≤ arr.size)
    (h4 : ∀ i (h : i < xs.length), arr[off + i]? = some xs[i]) : Hp E w (OwnS sz s xs :: F) :=
  h.weak fun _ hf => ⟨hl, .inr ⟨b, off, arr, t, h1, h2, h3, h4, hf⟩⟩
theorem Tells.own : Tells (OwnS sz s xs :: F) (SlT sz s xs) := by
  rintro w f a ⟨g, k, hd, rfl, ⟨hl, h1⟩, h2⟩
  refine ⟨hl, fun i hi => ?_⟩
  rcases h1 with ⟨h3, h4, h5, _⟩ | ⟨b, off, arr, t, h3, h4, h5, h6, rfl⟩
  · rw [hl, h4] at hi; simp at hi
  · refine ⟨_, h3, ?_⟩
    have : w.heap[b]? = some (.cells arr t (0, 0)) := a b _ (by simp [Frag.add, Frag.one])
    rw [add_mk]
    simp only [World.cell?, this]
    exact h6 i hi
theorem Tells.cell {W : World} {p : Addr} {v : Value} (h : W.cell? p = some v) : Tells (Old W :: F) (fun w => w.cell? p = some v) := by
  refine Tells.old fun w hw => ?_
  have hlt : p.block < W.heap.size := by
    unfold World.cell? at h
    rcases Nat.lt_or_ge p.block W.heap.size with hh | hh
    · exact hh
    · simp [Array.getElem?_eq_none hh] at h
  rw [← h]
  unfold World.cell?
  rw [hw _ hlt]
theorem Tells.slT {W : World} (h : SlT sz s xs W) : Tells (Old W :: F) (SlT sz s xs) := by
  intro w f a b
  refine ⟨h.1, fun i hi => ?_⟩
  obtain ⟨p, hp, hc⟩ := h.2 i hi
  exact ⟨p, hp, (Tells.cell hc) w f a b⟩
theorem Idx.mk {i : Int} {K : Addr → Prop} {p : Addr} (hp : s.base = some p) (h0 : 0 ≤ i) (h1 : i < (s.len : Int)) (h : K (p.add (i.toNat * sz))) : Idx s i sz K := ⟨p, hp, h0, h1, h⟩
/-- an element of one cell is read -/
theorem Idx.rd {i : Int} {K : Addr → Prop} (hs : SlT 1 s xs w) (h0 : 0 ≤ i) (h1 : i < (s.len : Int)) (h : ∀ p (hi : i.toNat < xs.length), w.cell? p = some xs[i.toNat] → K p) : Idx s i 1 K := by
  have hl : i.toNat < xs.length := by rw [hs.1]; omega
  obtain ⟨p, hp, hc⟩ := hs.2 _ hl
  exact ⟨p, hp, h0, h1, h _ hl (by simpa using hc)⟩
/-- a cell of an element of several cells is read -/
theorem Idx.rdn {i : Int} {K : Addr → Prop} (hs : SlT sz s xs w) (hz : 0 < sz) (h0 : 0 ≤ i) (h1 : i < (s.len : Int)) (h : ∀ p, (∀ j (hj : i.toNat * sz + j < xs.length), j < sz → w.cell? (p.add j) = some xs[i.toNat * sz + j]) → K p) : Idx s i sz K := by
  have hlt : i.toNat < s.len := by omega
  have hmul : i.toNat * sz + sz ≤ s.len * sz := by
    have : (i.toNat + 1) * sz ≤ s.len * sz := Nat.mul_le_mul_right _ hlt
    rw [Nat.succ_mul] at this; exact this
  obtain ⟨p, hp, _⟩ := hs.2 (i.toNat * sz) (by rw [hs.1]; omega)
  refine ⟨p, hp, h0, h1, h _ fun j hj hjs => ?_⟩
  obtain ⟨q, hq, hc⟩ := hs.2 (i.toNat * sz + j) hj
  have : q = p := Option.some.inj (hq.symm.trans hp)
  subst this
  rw [← hc]
  congr 1
  unfold Addr.add
  by_cases e1 : i.toNat * sz = 0 <;> by_cases e2 : j = 0 <;> simp [e1, e2, Nat.add_assoc]

/-! a row of cells written -/
theorem Hp.setRow {b off : Nat} {t : TypeId} : ∀ (vs : List Value) (i : Nat) (w : World) (arr : Array Value), Hp E w (Blk b (.cells arr t (0, 0)) :: F) → off + i + vs.length ≤ arr.size →
    ∃ arr' : Array Value, arr'.size = arr.size ∧ (∀ j (h : j < vs.length), arr'[off + i + j]? = some vs[j]) ∧ (∀ j, j < off + i → arr'[j]? = arr[j]?) ∧
      Hp E (StA.setRow w ⟨b, off, none⟩ vs i) (Blk b (.cells arr' t (0, 0)) :: F)
  | [], i, w, arr, h, _ => ⟨arr, rfl, fun j h => by simp at h, fun _ _ => rfl, h⟩
  | v :: vs, i, w, arr, h, hl => by
    simp only [List.length_cons] at hl
    have h1 := h.setCell (i := off + i) v
    have hsz : off + (i + 1) + vs.length ≤ (arr.setIfInBounds (off + i) v).size := by rw [Array.size_setIfInBounds]; omega
    obtain ⟨arr', e1, e2, e3, h2⟩ := Hp.setRow (b := b) (off := off) (t := t) vs (i + 1) _ (arr.setIfInBounds (off + i) v) h1 hsz
    refine ⟨arr', by simpa using e1, fun j hj => ?_, fun j hj => ?_, ?_⟩
    · cases j with
      | zero =>
        rw [Nat.add_zero, e3 _ (by omega)]
        simp [show off + i < arr.size by omega]
      | succ j =>
        have := e2 j (by simp at hj; omega)
        rw [show off + i + (j + 1) = off + (i + 1) + j by omega]
        simpa using this
    · rw [e3 _ (by omega), Array.getElem?_setIfInBounds_ne (by omega)]
    · rw [StA.setRow, add_mk]; exact h2
theorem run_row {P : Program} {b off : Nat} {arr : Array Value} {t : TypeId} (h : Hp E w (Blk b (.cells arr t (0, 0)) :: F)) (vs : List Value) (i : Nat) (hl : off + i + vs.length ≤ arr.size) (hv : ∀ v ∈ vs, scalarB v = true) :
    (storeCells ⟨b, off, none⟩ vs i).run P w = .ok () (StA.setRow w ⟨b, off, none⟩ vs i) := by
  refine run_setRow vs i w fun j hj => ⟨hv _ (List.getElem_mem hj), ?_, ?_⟩
  · rw [add_mk, h.cell]; simp; omega
  · rw [add_mk]; simp [World.frozen?, h.blk]
theorem grow_le : ∀ (r c n : Nat), c ≤ 2 * n + 1024 → Builtin.growBy n r c ≤ 2 * n + 1024
  | 0, c, n, h => h
  | r + 1, c, n, h => by
    unfold Builtin.growBy
    split
    · exact h
    · exact grow_le r _ n (by omega)
theorem next_le {n c : Nat} (h : c < n) : Builtin.nextslicecap n c ≤ 2 * n + 1024 := by
  unfold Builtin.nextslicecap
  split
  · omega
  · split
    · omega
    · exact grow_le 4 c n (by omega)
/-- what an append needs to know of its element type -/
structure ElemT (P : Program) (t e : TypeId) (sz bytes : Nat) : Prop where
  und : P.underlying t = some (.slice e)
  info : ∃ it z, P.info? e = some it ∧ it.size = sz ∧ it.bytes = bytes ∧ it.zero = some z ∧ z.cells.size = sz
def elemB (P : Program) (e : TypeId) (sz bytes : Nat) : Bool :=
  match P.info? e with
  | some it => it.size == sz && it.bytes == bytes && (match it.zero with | some z => z.cells.size == sz | none => false)
  | none => false
theorem ElemT.of {P : Program} {t e : TypeId} {sz bytes : Nat} (h1 : P.underlying t = some (.slice e)) (h2 : elemB P e sz bytes = true) : ElemT P t e sz bytes := by
  refine ⟨h1, ?_⟩
  unfold elemB at h2
  split at h2
  · rename_i it hi
    simp only [Bool.and_eq_true, beq_iff_eq] at h2
    obtain ⟨⟨h2, h3⟩, h4⟩ := h2
    split at h4
    · rename_i z hz
      exact ⟨it, z, hi, h2, h3, hz, by simpa using h4⟩
    · simp at h4
  · simp at h2
theorem run_cells {P : Program} {vs : List Value} {p : Addr} (h : ∀ i (hi : i < vs.length), w.cell? (p.add i) = some vs[i]) : (loadCells p vs.length).run P w = .ok vs.toArray w := by
  have := loadCellsFrom_run (P := P) (w := w) (a := p) vs 0 #[] (fun j hj => by simpa using h j hj)
  simpa [loadCells] using this
/-- the cells that an append takes from its second argument -/
def Src (sz n : Nat) (x : Value) (ys : List Value) (w : World) : Prop :=
  (∃ b l c, x = .slice b l c ∧ n = l ∧ SlT sz ⟨b, l, c⟩ ys w) ∨ (∃ s : ByteArray, x = .string s ∧ n = s.size ∧ ys = s.data.toList.map fun b => .int .u8 b.toNat)
theorem Src.run {P : Program} {n : Nat} {x : Value} (h : Src sz n x ys w) : (Builtin.firstCells sz n x).run P w = .ok ys.toArray w ∧ (Builtin.lenOf x).run P w = .ok n w := by
  rcases h with ⟨b, l, c, rfl, rfl, hl, hc⟩ | ⟨s, rfl, rfl, rfl⟩
  · refine ⟨?_, rfl⟩
    simp only at hl
    cases b with
    | none =>
      cases ys with
      | nil => rfl
      | cons y ys => obtain ⟨p, hp, _⟩ := hc 0 (by simp); cases hp
    | some p =>
      show (loadCells p (n * sz)).run P w = _
      rw [← hl]
      exact run_cells fun i hi => by obtain ⟨q, hq, hc⟩ := hc i hi; cases hq; exact hc
  · refine ⟨?_, rfl⟩
    show Result.ok ((s.extract 0 s.size).data.map fun b => Value.int .u8 b.toNat) w = _
    congr 1
    have : s.extract 0 s.size = s := by simp
    rw [this]
    apply Array.ext'
    simp
theorem Src.len {n : Nat} {x : Value} (h : Src 1 n x ys w) : ys.length = n := by
  rcases h with ⟨b, l, c, rfl, rfl, hl, hc⟩ | ⟨s, rfl, rfl, rfl⟩
  · simpa using hl
  · simp
theorem zeroCells_size (z : Array Value) (n : Nat) : (Builtin.zeroCells z n).size = n * z.size := by simp [Builtin.zeroCells]
/-- append to an owned slice: it stays owned, and holds what it held and what was appended -/
theorem run_appendK {P : Program} {t tx ty e : TypeId} {bytes n : Nat} {x : Value} {K : Sl → World → Prop} (he : ElemT P t e sz bytes) (_ : 0 < sz) (hx : (∃ e2, P.underlying tx = some (.slice e2)) ∨ P.underlying tx = some .string)
    (hh : Hp E w (OwnS sz s xs :: F)) (hs : Src sz n x ys w) (hyl : ys.length = n * sz) (hys : ∀ y ∈ ys, scalarB y = true) (hb : (2 * (s.len + n) + 1024) * bytes ≤ 2 ^ 48) (hb2 : s.len + n < 2 ^ 62)
    (h : ∀ s' w', Hp E w' (OwnS sz s' (xs ++ ys) :: F) → s'.len = s.len + n → SlT sz s xs w' → K s' w') : Run P (Builtin.append_ #[t, tx] ty ⟨[.slice s.base s.len s.cap, x]⟩) kS w K := by
  obtain ⟨it, z, hi, hsz, hby, hze, hzs⟩ := he.info
  obtain ⟨hs1, hs2⟩ := hs.run (P := P)
  have hlen := hh.ownLen
  have hcap := hh.ownCap
  have hso : (sizeOf e).run P w = .ok sz w := by rw [run_size hi, hsz]
  have step : ∀ v w', (Builtin.append_ #[t, tx] ty ⟨[.slice s.base s.len s.cap, x]⟩).run P w = .ok v w' → (∃ s' : Sl, v = .slice s'.base s'.len s'.cap ∧ Hp E w' (OwnS sz s' (xs ++ ys) :: F) ∧ s'.len = s.len + n ∧ SlT sz s xs w') →
      Run P (Builtin.append_ #[t, tx] ty ⟨[.slice s.base s.len s.cap, x]⟩) kS w K := by
    rintro v w' h1 ⟨s', rfl, h2, h3, h4⟩
    unfold Run
    rw [h1]
    exact h s' w' h2 h3 h4
  have hlen2 : (xs ++ ys).length = (s.len + n) * sz := by rw [List.length_append, hlen, hyl, Nat.add_mul]
  by_cases hfit : s.len + n ≤ s.cap
  · rcases hh.ownOpen with ⟨rfl, rfl, hF⟩ | ⟨b, off, arr, tt, h1, h2, h3, h4, hB⟩
    · have hn0 : n = 0 := by simp at hfit; exact hfit
      subst hn0
      have hy0 : ys = [] := by simpa using hyl
      subst hy0
      refine step (.slice none 0 0) w ?_ ⟨⟨none, 0, 0⟩, rfl, hh, rfl, hh.tells Tells.own⟩
      rcases hx with ⟨e2, hd⟩ | hd <;> simp [Builtin.append_, run_underlying he.und, hso, run_underlying hd, hs1, hs2]
    · have hmul : (s.len + n) * sz ≤ s.cap * sz := Nat.mul_le_mul_right _ hfit
      rw [Nat.add_mul] at hmul
      have hlr : off + s.len * sz + ys.length ≤ arr.size := by omega
      obtain ⟨arr', e1, e2, e3, hB'⟩ := Hp.setRow (off := off) ys (s.len * sz) w arr hB (by omega)
      have hrow := run_row (P := P) (off := off + s.len * sz) hB ys 0 (by omega) hys
      have hro2 : StA.setRow w ⟨b, off + s.len * sz, none⟩ ys 0 = StA.setRow w ⟨b, off, none⟩ ys (s.len * sz) := by
        have key : ∀ (vs : List Value) (w : World) (i : Nat), StA.setRow w ⟨b, off + s.len * sz, none⟩ vs i = StA.setRow w ⟨b, off, none⟩ vs (s.len * sz + i) := by
          intro vs
          induction vs with
          | nil => intro w i; rfl
          | cons v vs ih => intro w i; simp only [StA.setRow, ih, add_mk, Nat.add_assoc]
        simpa using key ys w 0
      refine step (.slice s.base (s.len + n) s.cap) (StA.setRow w ⟨b, off, none⟩ ys (s.len * sz)) ?_ ⟨⟨s.base, s.len + n, s.cap⟩, rfl, ?_, rfl, ⟨hlen, fun i hi => ⟨_, h1, by rw [add_mk, hB'.cell, e3 _ (by omega)]; exact h4 i hi⟩⟩⟩
      · rw [hro2] at hrow
        rcases hx with ⟨e2, hd⟩ | hd <;> simp [Builtin.append_, run_underlying he.und, hso, run_underlying hd, hs1, hs2, hfit, h1, add_mk, hrow]
      · refine Hp.ownShut hB' hlen2 h1 hfit (by simp only; omega) fun i hi => ?_
        by_cases hi2 : i < xs.length
        · rw [e3 _ (by omega), List.getElem_append_left hi2]; exact h4 i hi2
        · rw [List.getElem_append_right (by omega)]
          have := e2 (i - xs.length) (by simp at hi; omega)
          rw [← this]
          congr 1
          omega
  · have hnext : ¬ Builtin.nextslicecap (s.len + n) s.cap * it.bytes > 2 ^ 48 := by
      have := next_le (n := s.len + n) (c := s.cap) (by omega)
      have h2 : Builtin.nextslicecap (s.len + n) s.cap * it.bytes ≤ (2 * (s.len + n) + 1024) * bytes := by rw [hby]; exact Nat.mul_le_mul_right _ this
      omega
    have hmax : ¬ ((s.len + n : Nat) : Int) > IntKind.i64.max := by
      have : IntKind.i64.max = 9223372036854775807 := rfl
      rw [this]; omega
    have hold : (Builtin.firstCells sz s.len (.slice s.base s.len s.cap)).run P w = .ok xs.toArray w := by
      have : Src sz s.len (.slice s.base s.len s.cap) xs w := .inl ⟨s.base, s.len, s.cap, rfl, rfl, hh.tells Tells.own⟩
      exact (this.run (P := P)).1
    generalize hq : Question.cut (.appendCap (s.len + n) s.cap e) (w.tape w.drawn (.appendCap (s.len + n) s.cap e)) = newCap
    have hnc : s.len + n ≤ newCap := by rw [← hq]; exact Nat.le_add_right _ _
    have hF : Hp E w F := hh.drop
    have hD : Hp E w.drew F := hF.drew (n := w.drawn + 1)
    have hold' : (Builtin.firstCells sz s.len (.slice s.base s.len s.cap)).run P w.drew = .ok xs.toArray w.drew := by
      have : Src sz s.len (.slice s.base s.len s.cap) xs w.drew := .inl ⟨s.base, s.len, s.cap, rfl, rfl, (hh.drew (n := w.drawn + 1)).tells Tells.own⟩
      exact (this.run (P := P)).1
    have hs1' : (Builtin.firstCells sz n x).run P w.drew = .ok ys.toArray w.drew := (Src.run (P := P) (w := w.drew) hs).1
    have hA := hD.alloc (.cells (xs.toArray ++ ys.toArray ++ Builtin.zeroCells z.cells (newCap - (s.len + n))) e)
    refine step (.slice (some ⟨w.heap.size, 0, none⟩) (s.len + n) newCap) _ ?_ ⟨⟨some ⟨w.heap.size, 0, none⟩, s.len + n, newCap⟩, rfl, Hp.ownShut hA hlen2 rfl hnc ?_ ?_, rfl, ((hh.drew (n := w.drawn + 1)).alloc (.cells (xs.toArray ++ ys.toArray ++ Builtin.zeroCells z.cells (newCap - (s.len + n))) e)).tells (Tells.cons Tells.own)⟩
    · have hz' : ∀ w : World, (zeroValue e).run P w = .ok z w := by intro w; simp [zeroValue, typeInfo, hi, hze]
      have hti : ∀ w : World, (typeInfo e).run P w = .ok it w := by intro w; simp [typeInfo, hi]
      have hmax' : ¬ (9223372036854775807 < (s.len : Int) + (n : Int) ∧ it.bytes = 0) := by omega
      have hfo : Question.forced (.appendCap (s.len + n) s.cap e) = false := rfl
      rcases hx with ⟨e2, hd⟩ | hd <;> simp [Builtin.append_, run_underlying he.und, hso, run_underlying hd, hs2, hfit, hmax', hti, hnext, hfo, hq, hold', hs1', hz', newRow]
      all_goals rw [← Array.append_assoc, show xs.toArray ++ ys.toArray = (xs ++ ys).toArray by simp]
    · simp only [Array.size_append, List.size_toArray, zeroCells_size, hzs, hlen, hyl]
      have : newCap * sz = (s.len + n) * sz + (newCap - (s.len + n)) * sz := by rw [← Nat.add_mul]; congr 1; omega
      rw [this, Nat.add_mul]; omega
    · intro i hi
      have h1 : i < (xs.toArray ++ ys.toArray).size := by simpa using hi
      rw [Nat.zero_add, Array.getElem?_append_left h1]
      have : (xs.toArray ++ ys.toArray) = (xs ++ ys).toArray := by simp
      rw [this]
      simp only [List.getElem?_toArray]
      exact List.getElem?_eq_getElem hi
theorem run_append {P : Program} {t tx ty e : TypeId} {bytes n : Nat} {x : Value} {K : Sl → World → Prop} (he : ElemT P t e sz bytes) (hz : 0 < sz) (hx : (∃ e2, P.underlying tx = some (.slice e2)) ∨ P.underlying tx = some .string)
    (hh : Hp E w (OwnS sz s xs :: F)) (hs : Src sz n x ys w) (hyl : ys.length = n * sz) (hys : ∀ y ∈ ys, scalarB y = true) (hb : (2 * (s.len + n) + 1024) * bytes ≤ 2 ^ 48) (hb2 : s.len + n < 2 ^ 62)
    (h : ∀ s' w', Hp E w' (OwnS sz s' (xs ++ ys) :: F) → s'.len = s.len + n → K s' w') : Run P (Builtin.append_ #[t, tx] ty ⟨[.slice s.base s.len s.cap, x]⟩) kS w K :=
  run_appendK he hz hx hh hs hyl hys hb hb2 fun s' w' h1 h2 _ => h s' w' h1 h2
end

/-- a function value that is known is called -/
theorem ClV.mk {P : Program} {i : FuncId} {first captured : Array Value} {ks : List Ki} {args : List Value} {w : World} {K : FnK ks (World → Prop)} (ok : okCall P i = true) (h : Cl P ks i ⟨first.toList ++ args ++ captured.toList⟩ w K) :
    ClV P (.func (.func i) first captured) ks args w K := by
  show onB _ _
  rw [ok]; exact h
theorem ClX.mk {P : Program} {i : FuncId} {first captured : Array Value} {ks : List Ki} {args : List Value} {w : World} {K : FnK ks (World → Prop)} (ok : okCall P i = true) (h : Cl P ks i ⟨first.toList ++ args ++ captured.toList⟩ w K) :
    ClX P (.func (.func i) first captured) ks args w K := by
  unfold ClX
  simp only [ok]
  exact h
/-! small steps -/
theorem IfB_t {X Y : Prop} : IfB true X Y = X := rfl
theorem IfB_f {X Y : Prop} : IfB false X Y = Y := rfl
theorem NilCk_some {p : Addr} {K : Addr → Prop} : NilCk (some p) K = K p := rfl
theorem Join_eq {α : Type} (r : α) (k : α → Prop) : Join r k = k r := rfl
section
variable {E w : World} {F : List HP}
/-- a field of an owned block is read -/
theorem Ld.blk {s : Sc} {b i : Nat} {c : Array Value} {t : TypeId} {fr : Nat × Nat} {K : s.T → Prop} (h : Hp E w (Blk b (.cells c t fr) :: F)) (x : s.T) (hx : c[i]? = some (s.enc x)) (hk : K x) : Ld (.sc s) ⟨b, i, none⟩ w K :=
  Ld.sc x (by rw [h.cell]; exact hx) hk
theorem St.blk {v : Value} {K : World → Prop} {b i : Nat} {c : Array Value} {t : TypeId} (hh : Hp E w (Blk b (.cells c t (0, 0)) :: F)) (hi : i < c.size) (hv : scalarB v = true)
    (h : ∀ w', Hp E w' (Blk b (.cells (c.setIfInBounds i v) t (0, 0)) :: F) → K w') : St ⟨b, i, none⟩ v w K := St.mk rfl hh hi hv h
end
def big : Nat := 1099511627776
theorem big_eq : big = 1099511627776 := rfl
def vB (x : Nat) : Value := .int .u8 (x : Int)
def vI (x : Int) : Value := .int .i64 x
theorem vB_scalar {xs : List Nat} : ∀ y ∈ xs.map vB, scalarB y = true := by
  intro y hy
  obtain ⟨x, _, rfl⟩ := List.mem_map.1 hy
  rfl
theorem vI_scalar {xs : List Int} : ∀ y ∈ xs.map vI, scalarB y = true := by
  intro y hy
  obtain ⟨x, _, rfl⟩ := List.mem_map.1 hy
  rfl
/-- a cell of an element of an owned slice is written -/
theorem St.ownN {E w : World} {F : List HP} {sz j : Nat} {s : Sl} {xs : List Value} {i : Int} {v : Value} {K : World → Prop} (hh : Hp E w (OwnS sz s xs :: F)) (hj : j < sz) (h0 : 0 ≤ i) (h1 : i < (s.len : Int)) (hv : scalarB v = true)
    (h : ∀ w', Hp E w' (OwnS sz s (xs.set (i.toNat * sz + j) v) :: F) → K w') : Idx s i sz (fun q => St (q.add j) v w K) := by
  have hl := hh.ownLen
  have hlt : i.toNat < s.len := by omega
  have hmul : i.toNat * sz + sz ≤ s.len * sz := by
    have : (i.toNat + 1) * sz ≤ s.len * sz := Nat.mul_le_mul_right _ hlt
    rw [Nat.succ_mul] at this; exact this
  rcases hh.ownOpen with ⟨rfl, rfl, hF⟩ | ⟨b, off, arr, t, e1, e2, e3, e4, hB⟩
  · simp at hlt
  · have hcm : s.len * sz ≤ s.cap * sz := Nat.mul_le_mul_right _ e2
    refine ⟨_, e1, h0, h1, ?_⟩
    rw [add_mk]
    show St (Addr.add _ j) v w K
    rw [add_mk]
    refine St.mk rfl hB (by omega) hv fun w' h' => h _ ?_
    refine h'.ownShut (by simpa using hl) e1 e2 (by simpa using e3) fun r hr => ?_
    rw [List.length_set] at hr
    rw [Array.getElem?_setIfInBounds, List.getElem_set]
    by_cases hq : i.toNat * sz + j = r
    · rw [if_pos (by omega), if_pos (by omega), if_pos hq]
    · rw [if_neg (by omega), if_neg hq]; exact e4 r hr
/-- an element of one cell of an owned slice is written -/
theorem St.own {E w : World} {F : List HP} {s : Sl} {xs : List Value} {i : Int} {v : Value} {K : World → Prop} (hh : Hp E w (OwnS 1 s xs :: F)) (h0 : 0 ≤ i) (h1 : i < (s.len : Int)) (hv : scalarB v = true)
    (h : ∀ w', Hp E w' (OwnS 1 s (xs.set i.toNat v) :: F) → K w') : Idx s i 1 (fun q => St q v w K) := by
  have := St.ownN (sz := 1) (j := 0) (K := K) hh (by decide) h0 h1 hv (by simpa using h)
  simpa only [add_zero] using this
theorem Tells.blk {F : List HP} {b n m sz : Nat} {arr : Array Value} {xs : List Value} {t : TypeId} {fr : Nat × Nat} (hx : arr.toList = xs) (hl : xs.length = n * sz) : Tells (Blk b (.cells arr t fr) :: F) (SlT sz ⟨some ⟨b, 0, none⟩, n, m⟩ xs) := by
  subst hx
  rintro w f a ⟨g, k, hd, rfl, rfl, h2⟩
  refine ⟨hl, fun i hi => ⟨_, rfl, ?_⟩⟩
  have : w.heap[b]? = some (.cells arr t fr) := a b _ (by simp [Frag.add, Frag.one])
  rw [add_mk]
  simp only [World.cell?, this, Nat.zero_add]
  have hi' : i < arr.size := by simpa using hi
  simp [hi']
theorem Tells.nil {F : List HP} {sz : Nat} : Tells F (SlT sz ⟨none, 0, 0⟩ []) := fun _ _ _ _ => ⟨by simp, fun i hi => by simp at hi⟩
/-- an element of a slice is read, as any world of the frame has it -/
theorem Idx.rdT {E w : World} {F : List HP} {sz : Nat} {s : Sl} {xs : List Value} {i : Int} {K : Addr → Prop} (hh : Hp E w F) (hs : Tells F (SlT sz s xs)) (hz : 0 < sz) (h0 : 0 ≤ i) (h1 : i < (s.len : Int))
    (h : ∀ p, (∀ j, j < sz → Tells F (fun w => w.cell? (p.add j) = xs[i.toNat * sz + j]?)) → K p) : Idx s i sz K := by
  have hs1 := hh.tells hs
  have hlt : i.toNat < s.len := by omega
  have hmul : i.toNat * sz + sz ≤ s.len * sz := by
    have : (i.toNat + 1) * sz ≤ s.len * sz := Nat.mul_le_mul_right _ hlt
    rw [Nat.succ_mul] at this; exact this
  have hx : xs.length = s.len * sz := hs1.1
  obtain ⟨p, hp, _⟩ := hs1.2 (i.toNat * sz) (by omega)
  refine ⟨p, hp, h0, h1, h _ fun j hj => hs.imp fun w' hs' => ?_⟩
  obtain ⟨q, hq, hc⟩ := hs'.2 (i.toNat * sz + j) (by omega)
  have : q = p := Option.some.inj (hq.symm.trans hp)
  subst this
  rw [List.getElem?_eq_getElem (by omega), ← hc]
  congr 1
  unfold Addr.add
  by_cases e1 : i.toNat * sz = 0 <;> by_cases e2 : j = 0 <;> simp [e1, e2, Nat.add_assoc]
/-- a slice of an owned slice -/
theorem Slc.own {E w : World} {F : List HP} {s : Sl} {xs : List Value} {lo hi : Int} {K : Sl → Prop} (hh : Hp E w (OwnS 1 s xs :: F)) (h0 : 0 ≤ lo) (h1 : lo ≤ hi) (h2 : hi ≤ (s.len : Int))
    (h : ∀ s' : Sl, Hp E w (OwnS 1 s' ((xs.drop lo.toNat).take (hi.toNat - lo.toNat)) :: F) → s'.len = hi.toNat - lo.toNat → K s') : Slc s lo hi s.cap 1 K := by
  have hl := hh.ownLen
  have hc := hh.ownCap
  refine ⟨h0, h1, by omega, by omega, h _ ?_ rfl⟩
  rcases hh.ownOpen with ⟨rfl, rfl, hF⟩ | ⟨b, off, arr, t, e1, e2, e3, e4, hB⟩
  · simp only at h2
    have e1 : lo.toNat = 0 := by omega
    have e2 : hi.toNat = 0 := by omega
    simpa [e1, e2] using hh
  · have key : (if (s.cap : Int).toNat = lo.toNat then s.base else s.base.map (·.add (lo.toNat * 1))) = if s.cap = lo.toNat then s.base else some ⟨b, off + lo.toNat, none⟩ := by
      rw [Int.toNat_natCast, e1]
      simp only [Option.map_some, add_mk, Nat.mul_one]
    rw [key, Int.toNat_natCast]
    have hlen : ((xs.drop lo.toNat).take (hi.toNat - lo.toNat)).length = (hi.toNat - lo.toNat) * 1 := by simp [hl]; omega
    by_cases hcl : s.cap = lo.toNat
    · rw [if_pos hcl]
      refine hB.ownShut hlen e1 (by simp only; omega) (by simp only; omega) fun i hi' => ?_
      rw [hlen] at hi'; omega
    · rw [if_neg hcl]
      refine hB.ownShut hlen rfl (by simp only; omega) (by simp only; omega) fun i hi' => ?_
      have hi2 : lo.toNat + i < xs.length := by rw [hlen] at hi'; omega
      rw [Nat.add_assoc, e4 _ hi2]
      simp
/-- a slice of a slice that is read -/
theorem Slc.rd {w : World} {s : Sl} {xs : List Value} {lo hi mx : Int} {K : Sl → Prop} (hs : SlT 1 s xs w) (h0 : 0 ≤ lo) (h1 : lo ≤ hi) (h2 : hi ≤ (s.len : Int)) (h3 : hi ≤ mx) (h4 : mx ≤ (s.cap : Int))
    (h : ∀ s' : Sl, (∀ w', SlT 1 s xs w' → SlT 1 s' ((xs.drop lo.toNat).take (hi.toNat - lo.toNat)) w') → s'.len = hi.toNat - lo.toNat → K s') : Slc s lo hi mx 1 K := by
  have hl := hs.1
  refine ⟨h0, h1, h3, h4, h _ (fun w' hs' => ?_) rfl⟩
  have hlen : ((xs.drop lo.toNat).take (hi.toNat - lo.toNat)).length = (hi.toNat - lo.toNat) * 1 := by simp [hl]; omega
  refine ⟨hlen, fun i hi' => ?_⟩
  have hi2 : lo.toNat + i < xs.length := by rw [hlen] at hi'; omega
  obtain ⟨p, hp, hcell⟩ := hs'.2 _ hi2
  have hne : mx.toNat ≠ lo.toNat := by rw [hlen] at hi'; omega
  refine ⟨p.add lo.toNat, by simp [hne, hp], ?_⟩
  have : (p.add lo.toNat).add i = p.add (lo.toNat + i) := by
    unfold Addr.add
    by_cases e1 : lo.toNat = 0 <;> by_cases e2 : i = 0 <;> simp [e1, e2, Nat.add_assoc]
  rw [this, hcell]
  simp
end Go.Vc
/- Bits -/
namespace Go.Bits

def bitAt (b : List Nat) (i : Nat) : Nat := (b.getD (i / 8) 0 / 2 ^ (7 - i % 8)) % 2
/-- the n bits from bit a on, as a number, the first as the most significant one -/
def val (b : List Nat) (a : Nat) : Nat → Nat
  | 0 => 0
  | n + 1 => 2 * val b a n + bitAt b (a + n)
theorem bitAt_lt (b : List Nat) (i : Nat) : bitAt b i < 2 := Nat.mod_lt _ (by decide)
theorem val_lt (b : List Nat) (a : Nat) : ∀ n, val b a n < 2 ^ n
  | 0 => by simp [val]
  | n + 1 => by
    have := val_lt b a n
    have := bitAt_lt b (a + n)
    simp only [val, Nat.pow_succ]; omega
theorem val_add (b : List Nat) (a n : Nat) : ∀ m, val b a (n + m) = val b a n * 2 ^ m + val b (a + n) m
  | 0 => by simp [val]
  | m + 1 => by
    rw [← Nat.add_assoc]
    simp only [val, val_add b a n m, Nat.pow_succ, Nat.add_assoc]
    rw [Nat.mul_add, Nat.mul_comm (2 ^ m) 2, Nat.mul_left_comm]; omega
theorem val_bit (b : List Nat) (a n k : Nat) (h : k < n) : val b a n / 2 ^ (n - 1 - k) % 2 = bitAt b (a + k) := by
  have h1 := val_add b a (k + 1) (n - 1 - k)
  rw [show k + 1 + (n - 1 - k) = n by omega] at h1
  have h2 := val_lt b (a + (k + 1)) (n - 1 - k)
  rw [h1, Nat.mul_comm, Nat.mul_add_div (Nat.two_pow_pos _), Nat.div_eq_of_lt h2, Nat.add_zero]
  simp only [val]
  have := bitAt_lt b (a + k)
  omega
theorem bitAt_drop (b : List Nat) (j i : Nat) : bitAt (b.drop j) i = bitAt b (8 * j + i) := by
  unfold bitAt
  have h1 : (8 * j + i) / 8 = j + i / 8 := by omega
  have h2 : (8 * j + i) % 8 = i % 8 := by omega
  rw [h1, h2]
  simp only [List.getD_eq_getElem?_getD, List.getElem?_drop]
theorem val_drop (b : List Nat) (j a : Nat) : ∀ n, val (b.drop j) a n = val b (8 * j + a) n
  | 0 => rfl
  | n + 1 => by simp only [val, val_drop b j a n, bitAt_drop, Nat.add_assoc]
theorem bitAt_append (b c : List Nat) (i : Nat) (h : i < 8 * b.length) : bitAt (b ++ c) i = bitAt b i := by
  unfold bitAt
  congr 2
  simp only [List.getD_eq_getElem?_getD]
  rw [List.getElem?_append_left (by omega)]
theorem val_append (b c : List Nat) (a : Nat) : ∀ n, a + n ≤ 8 * b.length → val (b ++ c) a n = val b a n
  | 0, _ => rfl
  | n + 1, h => by simp only [val]; rw [val_append b c a n (by omega), bitAt_append b c _ (by omega)]
/-- one whole byte -/
theorem val_byte (b : List Nat) (j : Nat) (h : b.getD j 0 < 256) : val b (8 * j) 8 = b.getD j 0 := by
  have e : ∀ i, i < 8 → bitAt b (8 * j + i) = b.getD j 0 / 2 ^ (7 - i) % 2 := by
    intro i hi
    unfold bitAt
    rw [show (8 * j + i) / 8 = j by omega, show (8 * j + i) % 8 = i by omega]
  simp only [val]
  rw [e 0 (by decide), e 1 (by decide), e 2 (by decide), e 3 (by decide), e 4 (by decide), e 5 (by decide), e 6 (by decide), e 7 (by decide)]
  generalize b.getD j 0 = x at h
  simp only [Nat.reduceSub, Nat.reducePow]
  omega
/-- the value of the first m bytes, as one gathers it byte by byte -/
theorem val_bytes (b : List Nat) (m : Nat) (h : b.getD m 0 < 256) : val b 0 (8 * (m + 1)) = val b 0 (8 * m) * 256 + b.getD m 0 := by
  rw [show 8 * (m + 1) = 8 * m + 8 by omega, val_add, Nat.zero_add, val_byte b m h]
theorem getD_lt {b : List Nat} (h : ∀ x ∈ b, x < 256) (m : Nat) : b.getD m 0 < 256 := by
  rw [List.getD_eq_getElem?_getD]
  cases hh : b[m]? with
  | none => simp
  | some x => simpa using h x (List.mem_of_getElem? hh)
/-- bits out of the middle of some bytes -/
theorem val_mid (b : List Nat) (a w k : Nat) : val b 0 (a + w + k) / 2 ^ k % 2 ^ w = val b a w := by
  rw [val_add b 0 (a + w) k, val_add b 0 a w, Nat.zero_add, Nat.mul_comm _ (2 ^ k), Nat.mul_add_div (Nat.two_pow_pos _), Nat.zero_add,
    Nat.div_eq_of_lt (val_lt b _ k), Nat.add_zero, Nat.mul_comm, Nat.mul_add_mod, Nat.mod_eq_of_lt (val_lt b a w)]
theorem or_byte (a c : Nat) (h : c < 256) : a * 256 ||| c = a * 256 + c := by
  have := Nat.two_pow_add_eq_or_of_lt (i := 8) (b := c) h a
  rw [Nat.mul_comm] at this
  rw [← this]
theorem and_mask (a w : Nat) : a &&& (2 ^ w - 1) = a % 2 ^ w := Nat.and_two_pow_sub_one_eq_mod a w
end Go.Bits
/- Br -/
namespace Go.Proofs.Ytjnjjibmlalpiaa
open Go Go.Vc Go.Bits

theorem ty_bytes : ElemT Try.prog 25 5 1 1 := ElemT.of (by kernel_rfl) (by kernel_rfl)
/-- the reader at p: the bytes fed, the bits used, whether it is ended -/
def Rd (p : Addr) (c : List Nat) (u : Nat) (e : Bool) : HP := fun f => ∃ x : Nat × Sl × TypeId,
  (p = ⟨x.1, 0, none⟩ ∧ u ≤ 8 * c.length ∧ (∀ y ∈ c, y < 256) ∧ c.length ≤ big) ∧
  Sat [Blk x.1 (.cells #[.slice x.2.1.base x.2.1.len x.2.1.cap, .int .i64 ((u % 8 : Nat) : Int), .int .i64 (u : Int), .bool e] x.2.2 (0, 0)), OwnS 1 x.2.1 ((c.drop (u / 8)).map vB)] f
section
variable {E w : World} {F : List HP} {p : Addr} {c : List Nat} {u : Nat} {e : Bool}
theorem Rd.opn (h : Hp E w (Rd p c u e :: F)) : ∃ b s t, p = ⟨b, 0, none⟩ ∧ u ≤ 8 * c.length ∧ (∀ y ∈ c, y < 256) ∧ c.length ≤ big ∧
    Hp E w (Blk b (.cells #[.slice s.base s.len s.cap, .int .i64 ((u % 8 : Nat) : Int), .int .i64 (u : Int), .bool e] t (0, 0)) :: OwnS 1 s ((c.drop (u / 8)).map vB) :: F) := by
  obtain ⟨⟨b, s, t⟩, ⟨h1, h2, h3, h4⟩, h⟩ := h.open1 (X := fun x : Nat × Sl × TypeId => p = ⟨x.1, 0, none⟩ ∧ u ≤ 8 * c.length ∧ (∀ y ∈ c, y < 256) ∧ c.length ≤ big)
    (L := fun x => [Blk x.1 (.cells #[.slice x.2.1.base x.2.1.len x.2.1.cap, .int .i64 ((u % 8 : Nat) : Int), .int .i64 (u : Int), .bool e] x.2.2 (0, 0)), OwnS 1 x.2.1 ((c.drop (u / 8)).map vB)]) (fun f hf => hf)
  exact ⟨b, s, t, h1, h2, h3, h4, h⟩
theorem Rd.shut {b : Nat} {s : Sl} {t : TypeId} (h2 : u ≤ 8 * c.length) (h3 : ∀ y ∈ c, y < 256) (h4 : c.length ≤ big)
    (h : Hp E w (Blk b (.cells #[.slice s.base s.len s.cap, .int .i64 ((u % 8 : Nat) : Int), .int .i64 (u : Int), .bool e] t (0, 0)) :: OwnS 1 s ((c.drop (u / 8)).map vB) :: F)) : Hp E w (Rd ⟨b, 0, none⟩ c u e :: F) :=
  Hp.shut1 (l := [_, _]) (fun f hf => ⟨(b, s, t), ⟨rfl, h2, h3, h4⟩, hf⟩) h

set_option maxRecDepth 20000
theorem rdnew_c {K : Option Addr → World → Prop} (h : Hp E w F) (hK : ∀ p w', Hp E w' (Rd p [] 0 false :: F) → K (some p) w') : Cl Try.prog [kP] n_bitreader_New ⟨[]⟩ w K := by
  refine bitreader_New.ok _ _ ?_
  unfold bitreader_New.E
  refine Nw.mk h fun b w' h' => hK _ _ ?_
  exact Rd.shut (s := ⟨none, 0, 0⟩) (by simp) (by simp) (by simp) ((h'.ownNil 1).p1)
theorem left_c {K : Int → World → Prop} (h : Hp E w (Rd p c u e :: F)) (hK : ∀ w', Hp E w' (Rd p c u e :: F) → w'.heap = w.heap → K ((8 * c.length - u : Nat) : Int) w') : Cl Try.prog [kI] n_bitreader_Reader_Left ⟨[.pointer (some p)]⟩ w K := by
  obtain ⟨b, s, t, rfl, h1, h2, h3, h⟩ := Rd.opn h
  refine bitreader_Reader_Left.ok _ _ _ ?_
  simp only [bitreader_Reader_Left.E, Option.isNone, IfB_f, NilCk_some, add_mk, Nat.zero_add]
  have hd : Hp E { w with drawn := w.drawn + 1 } _ := h.drew
  have hl := hd.p1.ownLen
  rw [big_eq] at h3
  refine Ld.blk hd s rfl ⟨by decide, Ld.blk hd _ rfl ?_⟩
  have e1 : s.len = c.length - u / 8 := by simpa using hl.symm
  have e2 : i64 (ishl .i64 (s.len : Int) 3 - ((u % 8 : Nat) : Int)) = ((8 * c.length - u : Nat) : Int) := by
    have : ishl .i64 (s.len : Int) 3 = ((s.len * 2 ^ 3 : Nat) : Int) := ishl_nat (k := .i64) (b := 3) (by decide) (by have : IntKind.max .i64 = 9223372036854775807 := rfl; rw [this]; omega)
    rw [this, i64_id (by omega)]
    omega
  rw [e2]
  exact hK _ (Rd.shut h1 h2 (by rw [big_eq]; exact h3) hd) rfl
theorem ended_c {K : Bool → World → Prop} (h : Hp E w (Rd p c u e :: F)) (hK : K e w) : Cl Try.prog [kB] n_bitreader_Reader_Ended ⟨[.pointer (some p)]⟩ w K := by
  obtain ⟨b, s, t, rfl, h1, h2, h3, h⟩ := Rd.opn h
  refine bitreader_Reader_Ended.ok _ _ _ ?_
  simp only [bitreader_Reader_Ended.E, Option.isNone, Bool.not_false, IfB_t, NilCk_some, add_mk, Nat.zero_add]
  exact Ld.blk h _ rfl hK
theorem end_c {K : Bool → World → Prop} (h : Hp E w (Rd p c u e :: F)) (hK : ∀ w', Hp E w' (Rd p c u true :: F) → K (!e) w') : Cl Try.prog [kB] n_bitreader_Reader_End ⟨[.pointer (some p)]⟩ w K := by
  have h0 := h
  obtain ⟨b, s, t, rfl, h1, h2, h3, h⟩ := Rd.opn h
  refine bitreader_Reader_End.ok _ _ _ ?_
  simp only [bitreader_Reader_End.E, Option.isNone, IfB_f, NilCk_some, add_mk, Nat.zero_add]
  refine Ld.blk h _ rfl ?_
  cases e
  · exact St.blk h (by simp) rfl fun w' h' => hK _ (Rd.shut h1 h2 h3 h')
  · exact hK _ h0
theorem feed_c {K : Bool → World → Prop} {s : Sl} {cs : List Sl} {bs : List (List Nat)} (h : Hp E w (Rd p c u e :: F))
    (hs : Tells F (SlT 1 s (cs.map fun x => .slice x.base x.len x.cap))) (hl : cs.length = bs.length) (hcl : cs.length ≤ big) (hc : ∀ i (h : i < cs.length), Tells F (SlT 1 cs[i] ((bs.getD i []).map vB)))
    (hb : ∀ b ∈ bs, ∀ y ∈ b, y < 256) (hbig : c.length + bs.flatten.length ≤ big)
    (hK : ∀ w', Hp E w' (Rd p (if e then c else c ++ bs.flatten) u e :: F) → K (!e) w') : Cl Try.prog [kB] n_bitreader_Reader_Feed ⟨[.pointer (some p), .slice s.base s.len s.cap]⟩ w K := by
  refine bitreader_Reader_Feed.ok _ _ _ _ ?_
  simp only [bitreader_Reader_Feed.E, Option.isNone, IfB_f, NilCk_some]
  have h0 := h
  obtain ⟨b, s0, t0, rfl, h1, h2, h3, h⟩ := Rd.opn h
  have hlen : s.len = cs.length := by have := (h.drop.drop.tells hs).1; simpa using this.symm
  simp only [add_mk, Nat.zero_add]
  refine Ld.blk h _ rfl ?_
  cases e
  · refine ⟨fun i w' => ∃ k : Nat, i = (k : Int) ∧ k ≤ cs.length ∧ Hp E w' (Rd ⟨b, 0, none⟩ (c ++ (bs.take k).flatten) u false :: F), fun i _ => cs.length - i.toNat, ⟨0, rfl, by omega, by simpa using h0⟩, ?_⟩
    rintro i w' ⟨k, rfl, hk, hh⟩
    refine IfB.mk (fun hlt => ?_) (fun hge => ?_)
    · have hlt : k < cs.length := by simpa [hlen] using hlt
      obtain ⟨b', s', t', hp, g1, g2, g3, hh⟩ := Rd.opn hh
      cases hp
      refine Idx.rd (hh.drop.drop.tells hs) (by omega) (by omega) fun q hi hq => ?_
      have hq' : w'.cell? q = some (Sc.sl.enc cs[k]) := by simpa using hq
      refine Ld.sc _ hq' ?_
      simp only [NilCk_some, add_mk, Nat.zero_add]
      refine Ld.blk hh s' rfl ?_
      have hsrc := hh.drop.drop.tells (hc k hlt)
      have hlen2 := hsrc.1
      simp only [List.length_map, Nat.mul_one] at hlen2
      have hfl : (bs.take (k + 1)).flatten = (bs.take k).flatten ++ bs.getD k [] := by
        rw [List.take_add_one, List.flatten_append]
        congr 1
        have : k < bs.length := by omega
        simp [this]
      have hle : (bs.take (k + 1)).flatten.length ≤ bs.flatten.length := by
        have := congrArg (fun l => (List.flatten l).length) (List.take_append_drop (k + 1) bs)
        simp only [List.flatten_append, List.length_append] at this
        omega
      rw [hfl, List.length_append] at hle
      have ho := hh.p1.ownLen
      simp only [List.length_map, Nat.mul_one, List.length_drop, List.length_append] at ho
      rw [big_eq] at hbig hcl
      refine run_append ty_bytes (by decide) (.inl ⟨5, by kernel_rfl⟩) hh.p1 (.inl ⟨_, _, _, rfl, rfl, hsrc⟩) (by simpa using hlen2) vB_scalar (by omega) (by omega) fun s2 w2 h2' hs2 => ?_
      refine St.blk h2'.p1 (by simp) rfl fun w3 h3' => ?_
      refine ⟨⟨k + 1, ?_, by omega, ?_⟩, ?_⟩
      · rw [i64_id (by omega)]; rfl
      · refine Rd.shut (s := s2) (t := t') ?_ ?_ ?_ ?_
        · rw [hfl, ← List.append_assoc, List.length_append]; omega
        · intro y hy
          rw [hfl, ← List.append_assoc, List.mem_append] at hy
          rcases hy with hy | hy
          · exact g2 y hy
          · have : k < bs.length := by omega
            simp only [List.getD_eq_getElem?_getD, this, List.getElem?_eq_getElem, Option.getD_some] at hy
            exact hb _ (List.getElem_mem _) y hy
        · rw [hfl, ← List.append_assoc, List.length_append, big_eq]; rw [List.length_append]; omega
        · rw [hfl, ← List.append_assoc, List.drop_append_of_le_length (by omega), List.map_append]
          exact h3'
      · rw [i64_id (by omega)]; omega
    · have hge : ¬ (k : Int) < (s.len : Int) := by simpa using hge
      have : k = cs.length := by omega
      subst this
      refine hK _ ?_
      rw [hl, List.take_length] at hh
      exact hh
  · exact hK _ h0
/-- what Peek returns -/
def peekV (c : List Nat) (u : Nat) (width : Int) : Int := if 0 ≤ width ∧ width ≤ 32 ∧ width ≤ ((8 * c.length - u : Nat) : Int) then (val c u width.toNat : Int) else 0
def peekB (c : List Nat) (u : Nat) (width : Int) : Bool := decide (0 ≤ width ∧ width ≤ 32 ∧ width ≤ ((8 * c.length - u : Nat) : Int))
theorem peek_c {width : Int} {K : Int → Bool → World → Prop} (h : Hp E w (Rd p c u e :: F)) (hK : ∀ w', Hp E w' (Rd p c u e :: F) → w'.heap = w.heap → K (peekV c u width) (peekB c u width) w') :
    Cl Try.prog [kInt .u32, kB] n_bitreader_Reader_Peek ⟨[.pointer (some p), .int .i64 width]⟩ w K := by
  refine bitreader_Reader_Peek.ok _ _ _ _ ?_
  simp only [bitreader_Reader_Peek.E, Join_eq, Option.isNone, IfB_f]
  refine IfB.mk (fun hlt => ?_) (fun h1 => IfB.mk (fun hlt => ?_) (fun h2 => left_c h fun w1 hh heq => IfB.mk (fun hlt => ?_) (fun h3 => ?_)))
  · have hlt : width < 0 := by simpa using hlt
    have := hK w h rfl
    rwa [peekV, if_neg (by omega), peekB, decide_eq_false (by omega)] at this
  · have hlt : width > 32 := by simpa using hlt
    have := hK w h rfl
    rwa [peekV, if_neg (by omega), peekB, decide_eq_false (by omega)] at this
  · have hlt : width > ((8 * c.length - u : Nat) : Int) := by simpa using hlt
    have := hK w1 hh heq
    rwa [peekV, if_neg (by omega), peekB, decide_eq_false (by omega)] at this
  · have h1 : 0 ≤ width := by simpa using h1
    have h2 : width ≤ 32 := by simpa using h2
    have h3 : width ≤ ((8 * c.length - u : Nat) : Int) := by simpa using h3
    have hK := hK w1 hh heq
    rw [peekV, if_pos ⟨h1, h2, h3⟩, peekB, decide_eq_true ⟨h1, h2, h3⟩] at hK
    obtain ⟨n, rfl⟩ := Int.eq_ofNat_of_zero_le h1
    rw [Int.toNat_natCast] at hK
    obtain ⟨b, s, t, rfl, g1, g2, g3, hh⟩ := Rd.opn hh
    rw [big_eq] at g3
    simp only [NilCk_some, add_mk, Nat.zero_add]
    refine Ld.blk hh _ rfl ⟨by decide, Ld.blk hh s rfl ?_⟩
    have em : ishr .i64 (i64 (i64 (((u % 8 : Nat) : Int) + (n : Int)) + 7)) 3 = (((u % 8 + n + 7) / 8 : Nat) : Int) := by
      simp (disch := omega) only [i64_id]
      have := ishr_nat (k := .i64) (a := u % 8 + n + 7) (b := 3) (by decide)
      simpa using this
    rw [em]
    generalize hm : (u % 8 + n + 7) / 8 = m
    have hl := hh.p1.ownLen
    simp only [List.length_map, Nat.mul_one, List.length_drop] at hl
    have hsl : SlT 1 s ((c.drop (u / 8)).map vB) w1 := hh.drop.tells Tells.own
    have hcap := hh.drop.ownCap
    refine Slc.rd hsl (by omega) (by omega) (by omega) (by omega) (by omega) fun s2 hs2 hl2 => ?_
    have hs2 := hs2 w1 hsl
    simp only [Int.toNat_zero, List.drop_zero, Nat.sub_zero, Int.toNat_natCast] at hs2 hl2
    refine ⟨fun v i w' => w' = w1 ∧ ∃ k : Nat, i = (k : Int) ∧ k ≤ m ∧ v = (val (c.drop (u / 8)) 0 (8 * k) : Int),
      fun _ i _ => m - i.toNat, ⟨rfl, 0, rfl, by omega, rfl⟩, ?_⟩
    rintro v i w' ⟨rfl, k, rfl, hk, rfl⟩
    refine IfB.mk (fun hlt => ?_) (fun hge => ?_)
    · have hlt : k < m := by have : (k : Int) < (s2.len : Int) := by simpa using hlt
                             omega
      refine Idx.rd hs2 (by omega) (by omega) fun q hi hq => ?_
      have hkl : k < (c.drop (u / 8)).length := by rw [List.length_drop]; omega
      have hq' : w'.cell? q = some (Sc.enc (.int .u8) ((c.drop (u / 8)).getD k 0 : Int)) := by
        rw [hq]
        simp [vB, List.getD_eq_getElem?_getD, show u / 8 + k < c.length by rw [List.length_drop] at hkl; omega]
      refine Ld.sc _ hq' ⟨by decide, ?_⟩
      have hc8 : (c.drop (u / 8)).getD k 0 < 256 := getD_lt (fun y hy => g2 y (List.mem_of_mem_drop hy)) k
      have hv := val_lt (c.drop (u / 8)) 0 (8 * k)
      have hm5 : m ≤ 5 := by omega
      have hp : 2 ^ (8 * k) ≤ 2 ^ 32 := Nat.pow_le_pow_right (by decide) (by omega)
      have e2 : ior .u64 (ishl .u64 (val (c.drop (u / 8)) 0 (8 * k) : Int) 8) (u64 ((c.drop (u / 8)).getD k 0 : Int)) = (val (c.drop (u / 8)) 0 (8 * (k + 1)) : Int) := by
        have hmx : IntKind.max .u64 = 18446744073709551615 := rfl
        have e3 := ishl_nat (k := .u64) (a := val (c.drop (u / 8)) 0 (8 * k)) (b := 8) (by decide) (by rw [hmx]; omega)
        rw [u64_id (by omega)]
        have e3 : ishl .u64 (val (c.drop (u / 8)) 0 (8 * k) : Int) 8 = ((val (c.drop (u / 8)) 0 (8 * k) * 256 : Nat) : Int) := by simpa using e3
        rw [e3]
        have e4 := or_byte (val (c.drop (u / 8)) 0 (8 * k)) _ hc8
        rw [ior_nat (by rw [hmx]; omega) (by rw [hmx]; omega) (by rw [e4, hmx]; omega), e4, val_bytes _ _ hc8]
      rw [e2, i64_id (by omega)]
      exact ⟨⟨rfl, k + 1, rfl, by omega, rfl⟩, by dsimp only; omega⟩
    · have hge : k = m := by have : ¬ (k : Int) < (s2.len : Int) := by simpa using hge
                             omega
      subst hge
      refine ⟨by decide, Ld.blk hh _ rfl ?_⟩
      have e1 : u64 (i64 (i64 (ishl .i64 (k : Int) 3 - ((u % 8 : Nat) : Int)) - (n : Int))) = ((8 * k - u % 8 - n : Nat) : Int) := by
        have := ishl_nat (k := .i64) (a := k) (b := 3) (by decide) (by have : IntKind.max .i64 = 9223372036854775807 := rfl; rw [this]; omega)
        have e0 : ishl .i64 (k : Int) 3 = ((k * 8 : Nat) : Int) := by simpa using this
        rw [e0]
        simp (disch := omega) only [i64_id, u64_id]
        omega
      have e2 : u64 (n : Int) = (n : Int) := u64_id (by omega)
      have e3 : u64 (ishl .u64 1 (n : Int) - 1) = ((2 ^ n - 1 : Nat) : Int) := by
        have hp : 2 ^ n ≤ 2 ^ 32 := Nat.pow_le_pow_right (by decide) (by omega)
        have := ishl_nat (k := .u64) (a := 1) (b := n) (by have : IntKind.bits .u64 = 64 := rfl; omega) (by have : IntKind.max .u64 = 18446744073709551615 := rfl; rw [this]; omega)
        have e0 : ishl .u64 1 (n : Int) = ((2 ^ n : Nat) : Int) := by simpa using this
        have := Nat.two_pow_pos n
        rw [e0, u64_id (by omega)]
        omega
      rw [e1, e2, e3]
      refine ⟨by omega, by omega, ?_⟩
      have hv := val_lt (c.drop (u / 8)) 0 (8 * k)
      have hmx : IntKind.max .u64 = 18446744073709551615 := rfl
      have hp : 2 ^ (8 * k) ≤ 2 ^ 40 := Nat.pow_le_pow_right (by decide) (by omega)
      have hp2 : 2 ^ n ≤ 2 ^ 32 := Nat.pow_le_pow_right (by decide) (by omega)
      have hq := Nat.div_le_self (val (c.drop (u / 8)) 0 (8 * k)) (2 ^ (8 * k - u % 8 - n))
      rw [ishr_nat (k := .u64) (by have : IntKind.bits .u64 = 64 := rfl; omega), iand_nat (by rw [hmx]; omega) (by rw [hmx]; omega), and_mask]
      have hmid := val_mid (c.drop (u / 8)) (u % 8) n (8 * k - u % 8 - n)
      rw [show u % 8 + n + (8 * k - u % 8 - n) = 8 * k by omega, val_drop c (u / 8) (u % 8) n, show 8 * (u / 8) + u % 8 = u by omega] at hmid
      rw [hmid]
      have hlt := val_lt c u n
      rw [u32_id (by omega)]
      exact hK
theorem take_c {width : Int} {K : Int → Bool → World → Prop} (h : Hp E w (Rd p c u e :: F)) (hK : ∀ w', Hp E w' (Rd p c (if peekB c u width then u + width.toNat else u) e :: F) → K (peekV c u width) (peekB c u width) w') :
    Cl Try.prog [kInt .u32, kB] n_bitreader_Reader_Take ⟨[.pointer (some p), .int .i64 width]⟩ w K := by
  refine bitreader_Reader_Take.ok _ _ _ _ ?_
  unfold bitreader_Reader_Take.E
  refine peek_c h fun w1 h1 _ => ?_
  by_cases hb : peekB c u width = true
  · rw [hb, if_pos rfl] at hK
    rw [hb]
    simp only [Bool.not_true, IfB_f]
    unfold peekB at hb
    obtain ⟨b0, b1, b2⟩ := of_decide_eq_true hb
    obtain ⟨n, rfl⟩ := Int.eq_ofNat_of_zero_le b0
    rw [Int.toNat_natCast] at hK
    obtain ⟨b, s, t, rfl, g1, g2, g3, h1⟩ := Rd.opn h1
    rw [big_eq] at g3
    simp only [NilCk_some, add_mk, Nat.zero_add]
    refine Ld.blk h1 _ rfl ?_
    rw [i64_id (by omega)]
    refine St.blk h1 (by simp) rfl fun w2 h2 => ?_
    refine Ld.blk h2 _ rfl ?_
    rw [i64_id (by omega)]
    refine St.blk h2 (by simp) rfl fun w3 h3 => Drw.mk h3 fun w4 h4 => ?_
    refine Ld.blk h4 s rfl (Ld.blk h4 _ rfl ⟨by decide, ?_⟩)
    have e1 : ishr .i64 (((u % 8 : Nat) : Int) + (n : Int)) 3 = (((u % 8 + n) / 8 : Nat) : Int) := by
      have := ishr_nat (k := .i64) (a := u % 8 + n) (b := 3) (by decide)
      simpa using this
    rw [e1]
    have hl := h4.p1.ownLen
    simp only [List.length_map, Nat.mul_one, List.length_drop] at hl
    refine Slc.own h4.p1 (by omega) (by omega) (by omega) fun s2 h5 hl2 => ?_
    refine St.blk h5.p1 (by simp) rfl fun w6 h6 => ?_
    refine Ld.blk h6 _ rfl ?_
    refine St.blk h6 (by simp) rfl fun w7 h7 => hK _ ?_
    have e2 : iand .i64 (((u % 8 : Nat) : Int) + (n : Int)) 7 = (((u + n) % 8 : Nat) : Int) := by
      have hmx : IntKind.max .i64 = 9223372036854775807 := rfl
      have := iand_nat (k := .i64) (a := u % 8 + n) (b := 7) (by rw [hmx]; omega) (by rw [hmx]; omega)
      have e3 := and_mask (u % 8 + n) 3
      simp only [Nat.reducePow, Nat.reduceSub] at e3
      rw [e3] at this
      have : iand .i64 (((u % 8 : Nat) : Int) + (n : Int)) 7 = (((u % 8 + n) % 8 : Nat) : Int) := by simpa using this
      rw [this]
      congr 1; omega
    rw [e2] at h7
    refine Rd.shut (s := s2) (t := t) (by omega) g2 (by rw [big_eq]; exact g3) ?_
    have e4 : ((u : Int) + (n : Int)) = ((u + n : Nat) : Int) := by omega
    have e5 : (List.take (((s.len : Int)).toNat - ((((u % 8 + n) / 8 : Nat) : Int)).toNat) (((c.drop (u / 8)).map vB).drop ((((u % 8 + n) / 8 : Nat) : Int)).toNat)) = (c.drop ((u + n) / 8)).map vB := by
      rw [Int.toNat_natCast, Int.toNat_natCast, List.take_of_length_le (by simp; omega), ← List.map_drop, List.drop_drop]
      congr 2; omega
    rw [e5, e4] at h7
    exact h7
  · have hb : peekB c u width = false := by simpa using hb
    rw [hb, if_neg (by simp)] at hK
    rw [hb]
    simp only [Bool.not_false, IfB_t]
    have hv : peekV c u width = 0 := by unfold peekV; rw [if_neg]; unfold peekB at hb; exact of_decide_eq_false hb
    have := hK w1 h1
    rwa [hv] at this
/-- what Align returns, and where it leaves the reader -/
def padN (u : Nat) : Nat := if u % 8 = 0 then 0 else 8 - u % 8
theorem align_c {K : Int → Int → World → Prop} (h : Hp E w (Rd p c u e :: F)) (hK : ∀ w', Hp E w' (Rd p c (u + padN u) e :: F) → K (val c u (padN u) : Int) (padN u : Int) w') :
    Cl Try.prog [kInt .u32, kI] n_bitreader_Reader_Align ⟨[.pointer (some p)]⟩ w K := by
  refine bitreader_Reader_Align.ok _ _ _ ?_
  have h0 := h
  obtain ⟨b, s, t, rfl, g1, g2, g3, h⟩ := Rd.opn h
  rw [big_eq] at g3
  simp only [bitreader_Reader_Align.E, Option.isNone, IfB_f, NilCk_some, add_mk, Nat.zero_add]
  refine Ld.blk h _ rfl ?_
  by_cases hu : u % 8 = 0
  · have : padN u = 0 := by simp [padN, hu]
    rw [this] at hK
    refine IfB.t (by simp [hu]) (hK _ h0)
  · have hp : padN u = 8 - u % 8 := by simp [padN, hu]
    rw [hp] at hK
    refine IfB.f (by simp; omega) (Ld.blk h _ rfl ?_)
    rw [i64_id (by omega)]
    have hpk : peekB c u (8 - ((u % 8 : Nat) : Int)) = true := decide_eq_true (by omega)
    refine take_c h0 fun w1 h1 => ?_
    rw [hpk, if_pos rfl] at h1
    have e1 : (8 - ((u % 8 : Nat) : Int)).toNat = 8 - u % 8 := by omega
    have e2 : (8 - ((u % 8 : Nat) : Int)) = ((8 - u % 8 : Nat) : Int) := by omega
    have hv : peekV c u (8 - ((u % 8 : Nat) : Int)) = (val c u (8 - u % 8) : Int) := by
      unfold peekV; rw [if_pos (by omega), e1]
    rw [e1] at h1
    rw [hv, e2]
    exact hK _ h1
/-- nil readers -/
theorem take_nil {width : Int} {K : Int → Bool → World → Prop} (hK : K 0 false w) : Cl Try.prog [kInt .u32, kB] n_bitreader_Reader_Take ⟨[.pointer none, .int .i64 width]⟩ w K := by
  refine bitreader_Reader_Take.ok _ _ _ _ ?_
  unfold bitreader_Reader_Take.E
  refine bitreader_Reader_Peek.ok _ _ _ _ ?_
  simp only [bitreader_Reader_Peek.E, Join_eq, Option.isNone, IfB_t, Bool.not_false]
  exact hK
theorem feed_nil {s : Sl} {K : Bool → World → Prop} (hK : K false w) : Cl Try.prog [kB] n_bitreader_Reader_Feed ⟨[.pointer none, .slice s.base s.len s.cap]⟩ w K := by
  refine bitreader_Reader_Feed.ok _ _ _ _ ?_
  simp only [bitreader_Reader_Feed.E, Option.isNone, IfB_t]
  exact hK
theorem left_nil {K : Int → World → Prop} (hK : K 0 w) : Cl Try.prog [kI] n_bitreader_Reader_Left ⟨[.pointer none]⟩ w K := by
  refine bitreader_Reader_Left.ok _ _ _ ?_
  simp only [bitreader_Reader_Left.E, Option.isNone, IfB_t]
  exact hK
end
end Go.Proofs.Ytjnjjibmlalpiaa
/- Fheader -/
namespace Go.Proofs.Ytjnjjibmlalpiaa
open Go Go.Vc
set_option maxRecDepth 100000 in
/-- header.Step -/
def header_Step.E (s1 : (TT [.int .i64, .int .i64, .int .i64, .int .i64])) (c2 : Int) (R : (TT [.int .i64, .int .i64, .int .i64, .int .i64]) → Bool → Int → World → Prop) (w : World) : Prop :=
 Nw 54 ⟨[(.int .i64 s1.1), (.int .i64 s1.2.1), (.int .i64 s1.2.2.1), (.int .i64 s1.2.2.2.1)]⟩ w fun (b4 : Nat) (w_3 : World) =>
 Nw 54 ⟨[(.int .i64 0), (.int .i64 0), (.int .i64 0), (.int .i64 0)]⟩ w_3 fun (b6 : Nat) (w_5 : World) =>
 Join (fun (w_39 : World) =>
 Ld (.st [.int .i64, .int .i64]) ((⟨b4, 0, none⟩ : Addr).add 1) w_39 fun (Number40 : (TT [.int .i64, .int .i64])) =>
 Cl Try.prog [(.st [.int .i64, .int .i64]), kB, kB] n_header_grow ⟨[(.agg ⟨[(.int .i64 Number40.1), (.int .i64 Number40.2.1)]⟩), (.int .u8 c2), (.int .i64 65536)]⟩ w_39 fun (r42 : (TT [.int .i64, .int .i64])) (r43 : Bool) (r44 : Bool) (w_41 : World) =>
 Nw 52 ⟨[(.int .i64 0), (.int .i64 0)]⟩ w_41 fun (b46 : Nat) (w_45 : World) =>
 StC (⟨b46, 0, none⟩ : Addr) [(.int .i64 r42.1), (.int .i64 r42.2.1)] 0 w_45 fun (w_47 : World) =>
 IfB (!r44)
 (Ld (.st [.int .i64, .int .i64, .int .i64, .int .i64]) (⟨b6, 0, none⟩ : Addr) w_47 fun (x48 : (TT [.int .i64, .int .i64, .int .i64, .int .i64])) =>
 StC (⟨b6, 0, none⟩ : Addr) [(.int .i64 x48.1), (.int .i64 x48.2.1), (.int .i64 x48.2.2.1), (.int .i64 x48.2.2.2.1)] 0 w_47 fun (w_49 : World) =>
 Ld (.st [.int .i64, .int .i64, .int .i64, .int .i64]) (⟨b6, 0, none⟩ : Addr) w_49 fun (res50 : (TT [.int .i64, .int .i64, .int .i64, .int .i64])) =>
 R (res50) (false) (242) w_49)
 (IfB r43
 (Ld kI ((⟨b46, 0, none⟩ : Addr).add 0) w_47 fun (Value51 : Int) =>
 StC (⟨b6, 0, none⟩ : Addr) [(.int .i64 4), (.int .i64 0), (.int .i64 0), (.int .i64 Value51)] 0 w_47 fun (w_52 : World) =>
 Ld (.st [.int .i64, .int .i64, .int .i64, .int .i64]) (⟨b6, 0, none⟩ : Addr) w_52 fun (res53 : (TT [.int .i64, .int .i64, .int .i64, .int .i64])) =>
 R (res53) (true) (0) w_52)
 (Ld (.st [.int .i64, .int .i64]) (⟨b46, 0, none⟩ : Addr) w_47 fun (x54 : (TT [.int .i64, .int .i64])) =>
 StC (⟨b6, 0, none⟩ : Addr) [(.int .i64 3), (.int .i64 x54.1), (.int .i64 x54.2.1), (.int .i64 0)] 0 w_47 fun (w_55 : World) =>
 Ld (.st [.int .i64, .int .i64, .int .i64, .int .i64]) (⟨b6, 0, none⟩ : Addr) w_55 fun (res56 : (TT [.int .i64, .int .i64, .int .i64, .int .i64])) =>
 R (res56) (false) (0) w_55))) fun (K_7 : World → Prop) =>
 Join (fun (t9_13 : Bool) (w_14 : World) =>
 IfB t9_13
 (Ld (.st [.int .i64, .int .i64, .int .i64, .int .i64]) (⟨b6, 0, none⟩ : Addr) w_14 fun (x15 : (TT [.int .i64, .int .i64, .int .i64, .int .i64])) =>
 StC (⟨b6, 0, none⟩ : Addr) [(.int .i64 x15.1), (.int .i64 x15.2.1), (.int .i64 x15.2.2.1), (.int .i64 x15.2.2.2.1)] 0 w_14 fun (w_16 : World) =>
 Ld (.st [.int .i64, .int .i64, .int .i64, .int .i64]) (⟨b6, 0, none⟩ : Addr) w_16 fun (res17 : (TT [.int .i64, .int .i64, .int .i64, .int .i64])) =>
 R (res17) (false) (2) w_16)
 (Ld kI ((⟨b4, 0, none⟩ : Addr).add 0) w_14 fun (At18 : Int) =>
 IfB (decide ((At18 : Int) < (3 : Int)))
 (Ld kI ((⟨b4, 0, none⟩ : Addr).add 0) w_14 fun (At19 : Int) =>
 0 ≤ (At19 : Int) ∧ (At19 : Int) < (((ByteArray.mk #[87, 80, 1])).size : Int) ∧
 IfB ((c2 : Int) == ((strAt (ByteArray.mk #[87, 80, 1]) (At19 : Int).toNat) : Int))
 (Ld kI ((⟨b4, 0, none⟩ : Addr).add 0) w_14 fun (At20 : Int) =>
 StC (⟨b6, 0, none⟩ : Addr) [(.int .i64 (i64 ((At20 : Int) + (1 : Int)))), (.int .i64 0), (.int .i64 0), (.int .i64 0)] 0 w_14 fun (w_21 : World) =>
 Ld (.st [.int .i64, .int .i64, .int .i64, .int .i64]) (⟨b6, 0, none⟩ : Addr) w_21 fun (res22 : (TT [.int .i64, .int .i64, .int .i64, .int .i64])) =>
 R (res22) (false) (0) w_21)
 (Ld kI ((⟨b4, 0, none⟩ : Addr).add 0) w_14 fun (At23 : Int) =>
 IfB (decide ((At23 : Int) < (2 : Int)))
 (Ld (.st [.int .i64, .int .i64, .int .i64, .int .i64]) (⟨b6, 0, none⟩ : Addr) w_14 fun (x24 : (TT [.int .i64, .int .i64, .int .i64, .int .i64])) =>
 StC (⟨b6, 0, none⟩ : Addr) [(.int .i64 x24.1), (.int .i64 x24.2.1), (.int .i64 x24.2.2.1), (.int .i64 x24.2.2.2.1)] 0 w_14 fun (w_25 : World) =>
 Ld (.st [.int .i64, .int .i64, .int .i64, .int .i64]) (⟨b6, 0, none⟩ : Addr) w_25 fun (res26 : (TT [.int .i64, .int .i64, .int .i64, .int .i64])) =>
 R (res26) (false) (240) w_25)
 (Ld kI ((⟨b4, 0, none⟩ : Addr).add 0) w_14 fun (At27 : Int) =>
 IfB (decide ((At27 : Int) < (3 : Int)))
 (Ld (.st [.int .i64, .int .i64, .int .i64, .int .i64]) (⟨b6, 0, none⟩ : Addr) w_14 fun (x28 : (TT [.int .i64, .int .i64, .int .i64, .int .i64])) =>
 StC (⟨b6, 0, none⟩ : Addr) [(.int .i64 x28.1), (.int .i64 x28.2.1), (.int .i64 x28.2.2.1), (.int .i64 x28.2.2.2.1)] 0 w_14 fun (w_29 : World) =>
 Ld (.st [.int .i64, .int .i64, .int .i64, .int .i64]) (⟨b6, 0, none⟩ : Addr) w_29 fun (res30 : (TT [.int .i64, .int .i64, .int .i64, .int .i64])) =>
 R (res30) (false) (241) w_29)
 (K_7  w_14))))
 (Ld kI ((⟨b4, 0, none⟩ : Addr).add 0) w_14 fun (At31 : Int) =>
 IfB (decide ((At31 : Int) < (2 : Int)))
 (Ld (.st [.int .i64, .int .i64, .int .i64, .int .i64]) (⟨b6, 0, none⟩ : Addr) w_14 fun (x32 : (TT [.int .i64, .int .i64, .int .i64, .int .i64])) =>
 StC (⟨b6, 0, none⟩ : Addr) [(.int .i64 x32.1), (.int .i64 x32.2.1), (.int .i64 x32.2.2.1), (.int .i64 x32.2.2.2.1)] 0 w_14 fun (w_33 : World) =>
 Ld (.st [.int .i64, .int .i64, .int .i64, .int .i64]) (⟨b6, 0, none⟩ : Addr) w_33 fun (res34 : (TT [.int .i64, .int .i64, .int .i64, .int .i64])) =>
 R (res34) (false) (240) w_33)
 (Ld kI ((⟨b4, 0, none⟩ : Addr).add 0) w_14 fun (At35 : Int) =>
 IfB (decide ((At35 : Int) < (3 : Int)))
 (Ld (.st [.int .i64, .int .i64, .int .i64, .int .i64]) (⟨b6, 0, none⟩ : Addr) w_14 fun (x36 : (TT [.int .i64, .int .i64, .int .i64, .int .i64])) =>
 StC (⟨b6, 0, none⟩ : Addr) [(.int .i64 x36.1), (.int .i64 x36.2.1), (.int .i64 x36.2.2.1), (.int .i64 x36.2.2.2.1)] 0 w_14 fun (w_37 : World) =>
 Ld (.st [.int .i64, .int .i64, .int .i64, .int .i64]) (⟨b6, 0, none⟩ : Addr) w_37 fun (res38 : (TT [.int .i64, .int .i64, .int .i64, .int .i64])) =>
 R (res38) (false) (241) w_37)
 (K_7  w_14))))) fun (K_8 : Bool → World → Prop) =>
 Ld (.st [.int .i64, .int .i64, .int .i64, .int .i64]) (⟨b4, 0, none⟩ : Addr) w_5 fun (x9 : (TT [.int .i64, .int .i64, .int .i64, .int .i64])) =>
 Cl Try.prog [kB] n_header_Valid ⟨[(.agg ⟨[(.int .i64 x9.1), (.int .i64 x9.2.1), (.int .i64 x9.2.2.1), (.int .i64 x9.2.2.2.1)]⟩)]⟩ w_5 fun (r11 : Bool) (w_10 : World) =>
 IfB (!r11)
 (K_8 (true) w_10)
 (Ld kI ((⟨b4, 0, none⟩ : Addr).add 0) w_10 fun (At12 : Int) =>
 K_8 (((At12 : Int) == (4 : Int))) w_10)
set_option maxRecDepth 100000 in
theorem header_Step.ok (s1 : (TT [.int .i64, .int .i64, .int .i64, .int .i64])) (c2 : Int) (R : (TT [.int .i64, .int .i64, .int .i64, .int .i64]) → Bool → Int → World → Prop) (w : World) (h : header_Step.E s1 c2 R w) : Cl Try.prog [(.st [.int .i64, .int .i64, .int .i64, .int .i64]), kB, kI] n_header_Step ⟨[(.agg ⟨[(.int .i64 s1.1), (.int .i64 s1.2.1), (.int .i64 s1.2.2.1), (.int .i64 s1.2.2.2.1)]⟩), (.int .u8 c2)]⟩ w R :=
  calls_of_eq Try.mix Try.f38 [(.agg ⟨[(.int .i64 s1.1), (.int .i64 s1.2.1), (.int .i64 s1.2.2.1), (.int .i64 s1.2.2.2.1)]⟩), (.int .u8 c2)] [(.st [.int .i64, .int .i64, .int .i64, .int .i64]), kB, kI] R 61 [.cell 4 54, .tmp 5, .tmp 6] (by kernel_rfl) (by kernel_rfl) (by kernel_rfl) (by kernel_rfl) (by kernel_rfl)
    (.s .o (.j [] (.b (.j [(9, kB)] .o (.c (.s .o .o) (.s .o (.c (.s .o .o) (.s .o (.c (.s .o .o) (.s .o (.c (.s .o .o) .o))))))))) (.s .o (.s (.s .o (.c (.s .o .o) .o)) (.s (.s .o (.c (.s .o .o) .o)) (.s .o .o))))))
    (by kernel_rfl) h
set_option maxRecDepth 100000 in
/-- header.StepMark -/
def header_StepMark.E (n1 : Int) (s2 : (TT [.int .i64, .int .i64, .int .i64, .int .i64, .int .i64, .int .u32, .int .i64])) (c3 : Int) (R : (TT [.int .i64, .int .i64, .int .i64, .int .i64, .int .i64, .int .u32, .int .i64]) → Bool → Int → World → Prop) (w : World) : Prop :=
 Nw 56 ⟨[(.int .i64 s2.1), (.int .i64 s2.2.1), (.int .i64 s2.2.2.1), (.int .i64 s2.2.2.2.1), (.int .i64 s2.2.2.2.2.1), (.int .u32 s2.2.2.2.2.2.1), (.int .i64 s2.2.2.2.2.2.2.1)]⟩ w fun (b5 : Nat) (w_4 : World) =>
 Nw 56 ⟨[(.int .i64 0), (.int .i64 0), (.int .i64 0), (.int .i64 0), (.int .i64 0), (.int .u32 0), (.int .i64 0)]⟩ w_4 fun (b7 : Nat) (w_6 : World) =>
 Run Try.prog (Instr.makeMap 98 none) kM w_6 fun (m_9 : Option Nat) (w_8 : World) =>
 Run Try.prog (do Instr.mapUpdate 98 (.map m_9) (.int .i64 0) (.func (.func 51) ⟨[]⟩ ⟨[]⟩); pure undef) kV w_8 fun (_ : Value) (w_10 : World) =>
 Run Try.prog (do Instr.mapUpdate 98 (.map m_9) (.int .i64 1) (.func (.func 52) ⟨[]⟩ ⟨[]⟩); pure undef) kV w_10 fun (_ : Value) (w_11 : World) =>
 Run Try.prog (do Instr.mapUpdate 98 (.map m_9) (.int .i64 2) (.func (.func 53) ⟨[]⟩ ⟨[]⟩); pure undef) kV w_11 fun (_ : Value) (w_12 : World) =>
 Run Try.prog (do Instr.mapUpdate 98 (.map m_9) (.int .i64 3) (.func (.func 54) ⟨[]⟩ ⟨[]⟩); pure undef) kV w_12 fun (_ : Value) (w_13 : World) =>
 Run Try.prog (do Instr.mapUpdate 98 (.map m_9) (.int .i64 5) (.func (.func 54) ⟨[]⟩ ⟨[]⟩); pure undef) kV w_13 fun (_ : Value) (w_14 : World) =>
 Ld kI ((⟨b5, 0, none⟩ : Addr).add 0) w_14 fun (At15 : Int) =>
 Run Try.prog (Instr.lookup 98 (.map m_9) (.int .i64 At15) false) kV w_14 fun (e17 : Value) (w_16 : World) =>
 FnNil e17 fun (isnil18 : Bool) =>
 IfB isnil18
 (Ld (.st [.int .i64, .int .i64, .int .i64, .int .i64, .int .i64, .int .u32, .int .i64]) (⟨b7, 0, none⟩ : Addr) w_16 fun (x19 : (TT [.int .i64, .int .i64, .int .i64, .int .i64, .int .i64, .int .u32, .int .i64])) =>
 StC (⟨b7, 0, none⟩ : Addr) [(.int .i64 x19.1), (.int .i64 x19.2.1), (.int .i64 x19.2.2.1), (.int .i64 x19.2.2.2.1), (.int .i64 x19.2.2.2.2.1), (.int .u32 x19.2.2.2.2.2.1), (.int .i64 x19.2.2.2.2.2.2.1)] 0 w_16 fun (w_20 : World) =>
 Ld (.st [.int .i64, .int .i64, .int .i64, .int .i64, .int .i64, .int .u32, .int .i64]) (⟨b7, 0, none⟩ : Addr) w_20 fun (res21 : (TT [.int .i64, .int .i64, .int .i64, .int .i64, .int .i64, .int .u32, .int .i64])) =>
 R (res21) (false) (2) w_20)
 (Ld (.st [.int .i64, .int .i64, .int .i64, .int .i64, .int .i64, .int .u32, .int .i64]) (⟨b5, 0, none⟩ : Addr) w_16 fun (x22 : (TT [.int .i64, .int .i64, .int .i64, .int .i64, .int .i64, .int .u32, .int .i64])) =>
 Cl Try.prog [kB] n_header_ValidMark ⟨[(.int .i64 n1), (.agg ⟨[(.int .i64 x22.1), (.int .i64 x22.2.1), (.int .i64 x22.2.2.1), (.int .i64 x22.2.2.2.1), (.int .i64 x22.2.2.2.2.1), (.int .u32 x22.2.2.2.2.2.1), (.int .i64 x22.2.2.2.2.2.2.1)]⟩)]⟩ w_16 fun (r24 : Bool) (w_23 : World) =>
 IfB (!r24)
 (Ld (.st [.int .i64, .int .i64, .int .i64, .int .i64, .int .i64, .int .u32, .int .i64]) (⟨b7, 0, none⟩ : Addr) w_23 fun (x25 : (TT [.int .i64, .int .i64, .int .i64, .int .i64, .int .i64, .int .u32, .int .i64])) =>
 StC (⟨b7, 0, none⟩ : Addr) [(.int .i64 x25.1), (.int .i64 x25.2.1), (.int .i64 x25.2.2.1), (.int .i64 x25.2.2.2.1), (.int .i64 x25.2.2.2.2.1), (.int .u32 x25.2.2.2.2.2.1), (.int .i64 x25.2.2.2.2.2.2.1)] 0 w_23 fun (w_26 : World) =>
 Ld (.st [.int .i64, .int .i64, .int .i64, .int .i64, .int .i64, .int .u32, .int .i64]) (⟨b7, 0, none⟩ : Addr) w_26 fun (res27 : (TT [.int .i64, .int .i64, .int .i64, .int .i64, .int .i64, .int .u32, .int .i64])) =>
 R (res27) (false) (2) w_26)
 (Ld (.st [.int .i64, .int .i64, .int .i64, .int .i64, .int .i64, .int .u32, .int .i64]) (⟨b5, 0, none⟩ : Addr) w_23 fun (x28 : (TT [.int .i64, .int .i64, .int .i64, .int .i64, .int .i64, .int .u32, .int .i64])) =>
 ClX Try.prog e17 [(.st [.int .i64, .int .i64, .int .i64, .int .i64, .int .i64, .int .u32, .int .i64]), kB] [(.int .i64 n1), (.agg ⟨[(.int .i64 x28.1), (.int .i64 x28.2.1), (.int .i64 x28.2.2.1), (.int .i64 x28.2.2.2.1), (.int .i64 x28.2.2.2.2.1), (.int .u32 x28.2.2.2.2.2.1), (.int .i64 x28.2.2.2.2.2.2.1)]⟩), (.int .u8 c3)] w_23 fun (r30 : (TT [.int .i64, .int .i64, .int .i64, .int .i64, .int .i64, .int .u32, .int .i64])) (r31 : Bool) (w_29 : World) =>
 StC (⟨b5, 0, none⟩ : Addr) [(.int .i64 r30.1), (.int .i64 r30.2.1), (.int .i64 r30.2.2.1), (.int .i64 r30.2.2.2.1), (.int .i64 r30.2.2.2.2.1), (.int .u32 r30.2.2.2.2.2.1), (.int .i64 r30.2.2.2.2.2.2.1)] 0 w_29 fun (w_32 : World) =>
 IfB (!r31)
 (Ld (.st [.int .i64, .int .i64, .int .i64, .int .i64, .int .i64, .int .u32, .int .i64]) (⟨b7, 0, none⟩ : Addr) w_32 fun (x33 : (TT [.int .i64, .int .i64, .int .i64, .int .i64, .int .i64, .int .u32, .int .i64])) =>
 StC (⟨b7, 0, none⟩ : Addr) [(.int .i64 x33.1), (.int .i64 x33.2.1), (.int .i64 x33.2.2.1), (.int .i64 x33.2.2.2.1), (.int .i64 x33.2.2.2.2.1), (.int .u32 x33.2.2.2.2.2.1), (.int .i64 x33.2.2.2.2.2.2.1)] 0 w_32 fun (w_34 : World) =>
 Ld (.st [.int .i64, .int .i64, .int .i64, .int .i64, .int .i64, .int .u32, .int .i64]) (⟨b7, 0, none⟩ : Addr) w_34 fun (res35 : (TT [.int .i64, .int .i64, .int .i64, .int .i64, .int .i64, .int .u32, .int .i64])) =>
 R (res35) (false) (242) w_34)
 (Held w_32 fun (S36 : World → Prop) (w_37 : World) =>
 LdS (.st [.int .i64, .int .i64, .int .i64, .int .i64, .int .i64, .int .u32, .int .i64]) (⟨b5, 0, none⟩ : Addr) S36 fun (x38 : (TT [.int .i64, .int .i64, .int .i64, .int .i64, .int .i64, .int .u32, .int .i64])) =>
 LdS kI ((⟨b5, 0, none⟩ : Addr).add 0) S36 fun (At39 : Int) =>
 IfB ((At39 : Int) == (4 : Int))
 (StC (⟨b7, 0, none⟩ : Addr) [(.int .i64 x38.1), (.int .i64 x38.2.1), (.int .i64 x38.2.2.1), (.int .i64 x38.2.2.2.1), (.int .i64 x38.2.2.2.2.1), (.int .u32 x38.2.2.2.2.2.1), (.int .i64 x38.2.2.2.2.2.2.1)] 0 w_37 fun (w_40 : World) =>
 S36 w_40 ∧
 Ld (.st [.int .i64, .int .i64, .int .i64, .int .i64, .int .i64, .int .u32, .int .i64]) (⟨b7, 0, none⟩ : Addr) w_40 fun (res41 : (TT [.int .i64, .int .i64, .int .i64, .int .i64, .int .i64, .int .u32, .int .i64])) =>
 R (res41) (true) (0) w_40)
 (LdS kI ((⟨b5, 0, none⟩ : Addr).add 0) S36 fun (At42 : Int) =>
 StC (⟨b7, 0, none⟩ : Addr) [(.int .i64 x38.1), (.int .i64 x38.2.1), (.int .i64 x38.2.2.1), (.int .i64 x38.2.2.2.1), (.int .i64 x38.2.2.2.2.1), (.int .u32 x38.2.2.2.2.2.1), (.int .i64 x38.2.2.2.2.2.2.1)] 0 w_37 fun (w_43 : World) =>
 S36 w_43 ∧
 Ld (.st [.int .i64, .int .i64, .int .i64, .int .i64, .int .i64, .int .u32, .int .i64]) (⟨b7, 0, none⟩ : Addr) w_43 fun (res44 : (TT [.int .i64, .int .i64, .int .i64, .int .i64, .int .i64, .int .u32, .int .i64])) =>
 R (res44) (((At42 : Int) == (6 : Int))) (0) w_43))))
set_option maxRecDepth 100000 in
theorem header_StepMark.ok (n1 : Int) (s2 : (TT [.int .i64, .int .i64, .int .i64, .int .i64, .int .i64, .int .u32, .int .i64])) (c3 : Int) (R : (TT [.int .i64, .int .i64, .int .i64, .int .i64, .int .i64, .int .u32, .int .i64]) → Bool → Int → World → Prop) (w : World) (h : header_StepMark.E n1 s2 c3 R w) : Cl Try.prog [(.st [.int .i64, .int .i64, .int .i64, .int .i64, .int .i64, .int .u32, .int .i64]), kB, kI] n_header_StepMark ⟨[(.int .i64 n1), (.agg ⟨[(.int .i64 s2.1), (.int .i64 s2.2.1), (.int .i64 s2.2.2.1), (.int .i64 s2.2.2.2.1), (.int .i64 s2.2.2.2.2.1), (.int .u32 s2.2.2.2.2.2.1), (.int .i64 s2.2.2.2.2.2.2.1)]⟩), (.int .u8 c3)]⟩ w R :=
  calls_of_eq Try.mix Try.f40 [(.int .i64 n1), (.agg ⟨[(.int .i64 s2.1), (.int .i64 s2.2.1), (.int .i64 s2.2.2.1), (.int .i64 s2.2.2.2.1), (.int .i64 s2.2.2.2.2.1), (.int .u32 s2.2.2.2.2.2.1), (.int .i64 s2.2.2.2.2.2.2.1)]⟩), (.int .u8 c3)] [(.st [.int .i64, .int .i64, .int .i64, .int .i64, .int .i64, .int .u32, .int .i64]), kB, kI] R 47 [.cell 6 56, .tmp 7, .tmp 8] (by kernel_rfl) (by kernel_rfl) (by kernel_rfl) (by kernel_rfl) (by kernel_rfl)
    (.s .o (.s .o (.s .o (.s (.s .o (.c (.s .o .o) .o)) (.s .o (.s (.s .o (.c (.s .o .o) .o)) (.s .o .o)))))))
    (by kernel_rfl) h
set_option maxRecDepth 100000 in
/-- header.Valid -/
def header_Valid.E (s1 : (TT [.int .i64, .int .i64, .int .i64, .int .i64])) (R : Bool → World → Prop) (w : World) : Prop :=
 Nw 54 ⟨[(.int .i64 s1.1), (.int .i64 s1.2.1), (.int .i64 s1.2.2.1), (.int .i64 s1.2.2.2.1)]⟩ w fun (b3 : Nat) (w_2 : World) =>
 Ld kI ((⟨b3, 0, none⟩ : Addr).add 0) w_2 fun (At4 : Int) =>
 IfB ((At4 : Int) == (3 : Int))
 (Ld (.st [.int .i64, .int .i64]) ((⟨b3, 0, none⟩ : Addr).add 1) w_2 fun (Number5 : (TT [.int .i64, .int .i64])) =>
 Cl Try.prog [kB] n_header_comes ⟨[(.agg ⟨[(.int .i64 Number5.1), (.int .i64 Number5.2.1)]⟩), (.int .i64 65536)]⟩ w_2 fun (r7 : Bool) (w_6 : World) =>
 IfB r7
 (Ld kI ((⟨b3, 0, none⟩ : Addr).add 3) w_6 fun (N8 : Int) =>
 R (((N8 : Int) == (0 : Int))) w_6)
 (R (false) w_6))
 (Ld kI ((⟨b3, 0, none⟩ : Addr).add 0) w_2 fun (At9 : Int) =>
 IfB ((At9 : Int) == (4 : Int))
 (Ld (.st [.int .i64, .int .i64]) ((⟨b3, 0, none⟩ : Addr).add 1) w_2 fun (Number10 : (TT [.int .i64, .int .i64])) =>
 IfB (((Number10.1 : Int) == (0 : Int)) && ((Number10.2.1 : Int) == (0 : Int)))
 (Ld kI ((⟨b3, 0, none⟩ : Addr).add 3) w_2 fun (N11 : Int) =>
 Cl Try.prog [kB] n_header_within ⟨[(.int .i64 N11), (.int .i64 1), (.int .i64 65536)]⟩ w_2 fun (r13 : Bool) (w_12 : World) =>
 R (r13) w_12)
 (R (false) w_2))
 (Ld kI ((⟨b3, 0, none⟩ : Addr).add 0) w_2 fun (At14 : Int) =>
 Cl Try.prog [kB] n_header_within ⟨[(.int .i64 At14), (.int .i64 0), (.int .i64 3)]⟩ w_2 fun (r16 : Bool) (w_15 : World) =>
 IfB r16
 (Ld (.st [.int .i64, .int .i64, .int .i64, .int .i64]) (⟨b3, 0, none⟩ : Addr) w_15 fun (x17 : (TT [.int .i64, .int .i64, .int .i64, .int .i64])) =>
 Ld kI ((⟨b3, 0, none⟩ : Addr).add 0) w_15 fun (At18 : Int) =>
 R ((((x17.1 : Int) == (At18 : Int)) && ((((x17.2.1 : Int) == (0 : Int)) && ((x17.2.2.1 : Int) == (0 : Int))) && ((x17.2.2.2.1 : Int) == (0 : Int))))) w_15)
 (R (false) w_15)))
set_option maxRecDepth 100000 in
theorem header_Valid.ok (s1 : (TT [.int .i64, .int .i64, .int .i64, .int .i64])) (R : Bool → World → Prop) (w : World) (h : header_Valid.E s1 R w) : Cl Try.prog [kB] n_header_Valid ⟨[(.agg ⟨[(.int .i64 s1.1), (.int .i64 s1.2.1), (.int .i64 s1.2.2.1), (.int .i64 s1.2.2.2.1)]⟩)]⟩ w R :=
  calls_of_eq Try.mix Try.f49 [(.agg ⟨[(.int .i64 s1.1), (.int .i64 s1.2.1), (.int .i64 s1.2.2.1), (.int .i64 s1.2.2.2.1)]⟩)] [kB] R 38 [.tmp 2] (by kernel_rfl) (by kernel_rfl) (by kernel_rfl) (by kernel_rfl) (by kernel_rfl)
    (.s .o (.s (.b (.s .o (.c (.s .o .o) (.s .o (.c (.s .o .o) .o))))) (.s .o .o)))
    (by kernel_rfl) h
set_option maxRecDepth 100000 in
/-- header.grow -/
def header_grow.E (v1 : (TT [.int .i64, .int .i64])) (c2 : Int) (most3 : Int) (R : (TT [.int .i64, .int .i64]) → Bool → Bool → World → Prop) (w : World) : Prop :=
 Nw 52 ⟨[(.int .i64 v1.1), (.int .i64 v1.2.1)]⟩ w fun (b5 : Nat) (w_4 : World) =>
 Nw 52 ⟨[(.int .i64 0), (.int .i64 0)]⟩ w_4 fun (b7 : Nat) (w_6 : World) =>
 Ld (.st [.int .i64, .int .i64]) (⟨b5, 0, none⟩ : Addr) w_6 fun (x8 : (TT [.int .i64, .int .i64])) =>
 Cl Try.prog [(.st [.int .i64, .int .i64]), kB, kI] n_varint_Step ⟨[(.agg ⟨[(.int .i64 x8.1), (.int .i64 x8.2.1)]⟩), (.int .u8 c2)]⟩ w_6 fun (r10 : (TT [.int .i64, .int .i64])) (r11 : Bool) (r12 : Int) (w_9 : World) =>
 StC (⟨b7, 0, none⟩ : Addr) [(.int .i64 r10.1), (.int .i64 r10.2.1)] 0 w_9 fun (w_13 : World) =>
 Ld (.st [.int .i64, .int .i64]) (⟨b7, 0, none⟩ : Addr) w_13 fun (x14 : (TT [.int .i64, .int .i64])) =>
 IfB ((r12 : Int) == (0 : Int))
 (Ld kI ((⟨b7, 0, none⟩ : Addr).add 0) w_13 fun (Value15 : Int) =>
 IfB (decide ((Value15 : Int) ≤ (most3 : Int)))
 (IfB (!r11)
 (StC (⟨b7, 0, none⟩ : Addr) [(.int .i64 x14.1), (.int .i64 x14.2.1)] 0 w_13 fun (w_16 : World) =>
 Ld (.st [.int .i64, .int .i64]) (⟨b7, 0, none⟩ : Addr) w_16 fun (res17 : (TT [.int .i64, .int .i64])) =>
 R (res17) (r11) (true) w_16)
 (Ld kI ((⟨b7, 0, none⟩ : Addr).add 0) w_13 fun (Value18 : Int) =>
 StC (⟨b7, 0, none⟩ : Addr) [(.int .i64 x14.1), (.int .i64 x14.2.1)] 0 w_13 fun (w_19 : World) =>
 Ld (.st [.int .i64, .int .i64]) (⟨b7, 0, none⟩ : Addr) w_19 fun (res20 : (TT [.int .i64, .int .i64])) =>
 R (res20) (r11) ((decide ((Value18 : Int) > (0 : Int)))) w_19))
 (StC (⟨b7, 0, none⟩ : Addr) [(.int .i64 x14.1), (.int .i64 x14.2.1)] 0 w_13 fun (w_21 : World) =>
 Ld (.st [.int .i64, .int .i64]) (⟨b7, 0, none⟩ : Addr) w_21 fun (res22 : (TT [.int .i64, .int .i64])) =>
 R (res22) (r11) (false) w_21))
 (StC (⟨b7, 0, none⟩ : Addr) [(.int .i64 x14.1), (.int .i64 x14.2.1)] 0 w_13 fun (w_23 : World) =>
 Ld (.st [.int .i64, .int .i64]) (⟨b7, 0, none⟩ : Addr) w_23 fun (res24 : (TT [.int .i64, .int .i64])) =>
 R (res24) (r11) (false) w_23)
set_option maxRecDepth 100000 in
theorem header_grow.ok (v1 : (TT [.int .i64, .int .i64])) (c2 : Int) (most3 : Int) (R : (TT [.int .i64, .int .i64]) → Bool → Bool → World → Prop) (w : World) (h : header_grow.E v1 c2 most3 R w) : Cl Try.prog [(.st [.int .i64, .int .i64]), kB, kB] n_header_grow ⟨[(.agg ⟨[(.int .i64 v1.1), (.int .i64 v1.2.1)]⟩), (.int .u8 c2), (.int .i64 most3)]⟩ w R :=
  calls_of_eq Try.mix Try.f50 [(.agg ⟨[(.int .i64 v1.1), (.int .i64 v1.2.1)]⟩), (.int .u8 c2), (.int .i64 most3)] [(.st [.int .i64, .int .i64]), kB, kB] R 36 [.cell 6 52, .tmp 7, .tmp 8] (by kernel_rfl) (by kernel_rfl) (by kernel_rfl) (by kernel_rfl) (by kernel_rfl)
    (.s .o (.s .o (.s .o .o)))
    (by kernel_rfl) h
set_option maxRecDepth 100000 in
/-- header.mark -/
def header_mark.E (a1 : Int) (s2 : (TT [.int .i64, .int .i64, .int .i64, .int .i64, .int .i64, .int .u32, .int .i64])) (c3 : Int) (R : (TT [.int .i64, .int .i64, .int .i64, .int .i64, .int .i64, .int .u32, .int .i64]) → Bool → World → Prop) (w : World) : Prop :=
 Nw 56 ⟨[(.int .i64 s2.1), (.int .i64 s2.2.1), (.int .i64 s2.2.2.1), (.int .i64 s2.2.2.2.1), (.int .i64 s2.2.2.2.2.1), (.int .u32 s2.2.2.2.2.2.1), (.int .i64 s2.2.2.2.2.2.2.1)]⟩ w fun (b5 : Nat) (w_4 : World) =>
 Nw 56 ⟨[(.int .i64 0), (.int .i64 0), (.int .i64 0), (.int .i64 0), (.int .i64 0), (.int .u32 0), (.int .i64 0)]⟩ w_4 fun (b7 : Nat) (w_6 : World) =>
 St ((⟨b5, 0, none⟩ : Addr).add 0) (.int .i64 1) w_6 fun (w_8 : World) =>
 IfB ((c3 : Int) == (0 : Int))
 (St ((⟨b5, 0, none⟩ : Addr).add 0) (.int .i64 5) w_8 fun (w_9 : World) =>
 Ld (.st [.int .i64, .int .i64, .int .i64, .int .i64, .int .i64, .int .u32, .int .i64]) (⟨b5, 0, none⟩ : Addr) w_9 fun (x10 : (TT [.int .i64, .int .i64, .int .i64, .int .i64, .int .i64, .int .u32, .int .i64])) =>
 StC (⟨b7, 0, none⟩ : Addr) [(.int .i64 x10.1), (.int .i64 x10.2.1), (.int .i64 x10.2.2.1), (.int .i64 x10.2.2.2.1), (.int .i64 x10.2.2.2.2.1), (.int .u32 x10.2.2.2.2.2.1), (.int .i64 x10.2.2.2.2.2.2.1)] 0 w_9 fun (w_11 : World) =>
 Ld (.st [.int .i64, .int .i64, .int .i64, .int .i64, .int .i64, .int .u32, .int .i64]) (⟨b7, 0, none⟩ : Addr) w_11 fun (res12 : (TT [.int .i64, .int .i64, .int .i64, .int .i64, .int .i64, .int .u32, .int .i64])) =>
 R (res12) ((decide ((c3 : Int) ≤ (1 : Int)))) w_11)
 (Ld (.st [.int .i64, .int .i64, .int .i64, .int .i64, .int .i64, .int .u32, .int .i64]) (⟨b5, 0, none⟩ : Addr) w_8 fun (x13 : (TT [.int .i64, .int .i64, .int .i64, .int .i64, .int .i64, .int .u32, .int .i64])) =>
 StC (⟨b7, 0, none⟩ : Addr) [(.int .i64 x13.1), (.int .i64 x13.2.1), (.int .i64 x13.2.2.1), (.int .i64 x13.2.2.2.1), (.int .i64 x13.2.2.2.2.1), (.int .u32 x13.2.2.2.2.2.1), (.int .i64 x13.2.2.2.2.2.2.1)] 0 w_8 fun (w_14 : World) =>
 Ld (.st [.int .i64, .int .i64, .int .i64, .int .i64, .int .i64, .int .u32, .int .i64]) (⟨b7, 0, none⟩ : Addr) w_14 fun (res15 : (TT [.int .i64, .int .i64, .int .i64, .int .i64, .int .i64, .int .u32, .int .i64])) =>
 R (res15) ((decide ((c3 : Int) ≤ (1 : Int)))) w_14)
set_option maxRecDepth 100000 in
theorem header_mark.ok (a1 : Int) (s2 : (TT [.int .i64, .int .i64, .int .i64, .int .i64, .int .i64, .int .u32, .int .i64])) (c3 : Int) (R : (TT [.int .i64, .int .i64, .int .i64, .int .i64, .int .i64, .int .u32, .int .i64]) → Bool → World → Prop) (w : World) (h : header_mark.E a1 s2 c3 R w) : Cl Try.prog [(.st [.int .i64, .int .i64, .int .i64, .int .i64, .int .i64, .int .u32, .int .i64]), kB] n_header_mark ⟨[(.int .i64 a1), (.agg ⟨[(.int .i64 s2.1), (.int .i64 s2.2.1), (.int .i64 s2.2.2.1), (.int .i64 s2.2.2.2.1), (.int .i64 s2.2.2.2.2.1), (.int .u32 s2.2.2.2.2.2.1), (.int .i64 s2.2.2.2.2.2.2.1)]⟩), (.int .u8 c3)]⟩ w R :=
  calls_of_eq Try.mix Try.f51 [(.int .i64 a1), (.agg ⟨[(.int .i64 s2.1), (.int .i64 s2.2.1), (.int .i64 s2.2.2.1), (.int .i64 s2.2.2.2.1), (.int .i64 s2.2.2.2.2.1), (.int .u32 s2.2.2.2.2.2.1), (.int .i64 s2.2.2.2.2.2.2.1)]⟩), (.int .u8 c3)] [(.st [.int .i64, .int .i64, .int .i64, .int .i64, .int .i64, .int .u32, .int .i64]), kB] R 15 [.cell 6 56, .tmp 7] (by kernel_rfl) (by kernel_rfl) (by kernel_rfl) (by kernel_rfl) (by kernel_rfl)
    (.s .o (.s (.s .o (.s .o (.c .o .o))) (.s .o .o)))
    (by kernel_rfl) h
set_option maxRecDepth 100000 in
/-- header.many -/
def header_many.E (n1 : Int) (s2 : (TT [.int .i64, .int .i64, .int .i64, .int .i64, .int .i64, .int .u32, .int .i64])) (c3 : Int) (R : (TT [.int .i64, .int .i64, .int .i64, .int .i64, .int .i64, .int .u32, .int .i64]) → Bool → World → Prop) (w : World) : Prop :=
 Nw 56 ⟨[(.int .i64 s2.1), (.int .i64 s2.2.1), (.int .i64 s2.2.2.1), (.int .i64 s2.2.2.2.1), (.int .i64 s2.2.2.2.2.1), (.int .u32 s2.2.2.2.2.2.1), (.int .i64 s2.2.2.2.2.2.2.1)]⟩ w fun (b5 : Nat) (w_4 : World) =>
 Nw 56 ⟨[(.int .i64 0), (.int .i64 0), (.int .i64 0), (.int .i64 0), (.int .i64 0), (.int .u32 0), (.int .i64 0)]⟩ w_4 fun (b7 : Nat) (w_6 : World) =>
 Ld (.st [.int .i64, .int .i64]) ((⟨b5, 0, none⟩ : Addr).add 1) w_6 fun (Number8 : (TT [.int .i64, .int .i64])) =>
 Cl Try.prog [(.st [.int .i64, .int .i64]), kB, kB] n_header_grow ⟨[(.agg ⟨[(.int .i64 Number8.1), (.int .i64 Number8.2.1)]⟩), (.int .u8 c3), (.int .i64 n1)]⟩ w_6 fun (r10 : (TT [.int .i64, .int .i64])) (r11 : Bool) (r12 : Bool) (w_9 : World) =>
 Nw 52 ⟨[(.int .i64 0), (.int .i64 0)]⟩ w_9 fun (b14 : Nat) (w_13 : World) =>
 StC (⟨b14, 0, none⟩ : Addr) [(.int .i64 r10.1), (.int .i64 r10.2.1)] 0 w_13 fun (w_15 : World) =>
 Ld (.st [.int .i64, .int .i64]) (⟨b14, 0, none⟩ : Addr) w_15 fun (x16 : (TT [.int .i64, .int .i64])) =>
 StC ((⟨b5, 0, none⟩ : Addr).add 1) [(.int .i64 x16.1), (.int .i64 x16.2.1)] 0 w_15 fun (w_17 : World) =>
 IfB r11
 (Ld kI ((⟨b14, 0, none⟩ : Addr).add 0) w_17 fun (Value18 : Int) =>
 StC (⟨b5, 0, none⟩ : Addr) [(.int .i64 2), (.int .i64 0), (.int .i64 0), (.int .i64 Value18), (.int .i64 0), (.int .u32 0), (.int .i64 0)] 0 w_17 fun (w_19 : World) =>
 Ld (.st [.int .i64, .int .i64, .int .i64, .int .i64, .int .i64, .int .u32, .int .i64]) (⟨b5, 0, none⟩ : Addr) w_19 fun (x20 : (TT [.int .i64, .int .i64, .int .i64, .int .i64, .int .i64, .int .u32, .int .i64])) =>
 StC (⟨b7, 0, none⟩ : Addr) [(.int .i64 x20.1), (.int .i64 x20.2.1), (.int .i64 x20.2.2.1), (.int .i64 x20.2.2.2.1), (.int .i64 x20.2.2.2.2.1), (.int .u32 x20.2.2.2.2.2.1), (.int .i64 x20.2.2.2.2.2.2.1)] 0 w_19 fun (w_21 : World) =>
 Ld (.st [.int .i64, .int .i64, .int .i64, .int .i64, .int .i64, .int .u32, .int .i64]) (⟨b7, 0, none⟩ : Addr) w_21 fun (res22 : (TT [.int .i64, .int .i64, .int .i64, .int .i64, .int .i64, .int .u32, .int .i64])) =>
 R (res22) (r12) w_21)
 (Ld (.st [.int .i64, .int .i64, .int .i64, .int .i64, .int .i64, .int .u32, .int .i64]) (⟨b5, 0, none⟩ : Addr) w_17 fun (x23 : (TT [.int .i64, .int .i64, .int .i64, .int .i64, .int .i64, .int .u32, .int .i64])) =>
 StC (⟨b7, 0, none⟩ : Addr) [(.int .i64 x23.1), (.int .i64 x23.2.1), (.int .i64 x23.2.2.1), (.int .i64 x23.2.2.2.1), (.int .i64 x23.2.2.2.2.1), (.int .u32 x23.2.2.2.2.2.1), (.int .i64 x23.2.2.2.2.2.2.1)] 0 w_17 fun (w_24 : World) =>
 Ld (.st [.int .i64, .int .i64, .int .i64, .int .i64, .int .i64, .int .u32, .int .i64]) (⟨b7, 0, none⟩ : Addr) w_24 fun (res25 : (TT [.int .i64, .int .i64, .int .i64, .int .i64, .int .i64, .int .u32, .int .i64])) =>
 R (res25) (r12) w_24)
set_option maxRecDepth 100000 in
theorem header_many.ok (n1 : Int) (s2 : (TT [.int .i64, .int .i64, .int .i64, .int .i64, .int .i64, .int .u32, .int .i64])) (c3 : Int) (R : (TT [.int .i64, .int .i64, .int .i64, .int .i64, .int .i64, .int .u32, .int .i64]) → Bool → World → Prop) (w : World) (h : header_many.E n1 s2 c3 R w) : Cl Try.prog [(.st [.int .i64, .int .i64, .int .i64, .int .i64, .int .i64, .int .u32, .int .i64]), kB] n_header_many ⟨[(.int .i64 n1), (.agg ⟨[(.int .i64 s2.1), (.int .i64 s2.2.1), (.int .i64 s2.2.2.1), (.int .i64 s2.2.2.2.1), (.int .i64 s2.2.2.2.2.1), (.int .u32 s2.2.2.2.2.2.1), (.int .i64 s2.2.2.2.2.2.2.1)]⟩), (.int .u8 c3)]⟩ w R :=
  calls_of_eq Try.mix Try.f52 [(.int .i64 n1), (.agg ⟨[(.int .i64 s2.1), (.int .i64 s2.2.1), (.int .i64 s2.2.2.1), (.int .i64 s2.2.2.2.1), (.int .i64 s2.2.2.2.2.1), (.int .u32 s2.2.2.2.2.2.1), (.int .i64 s2.2.2.2.2.2.2.1)]⟩), (.int .u8 c3)] [(.st [.int .i64, .int .i64, .int .i64, .int .i64, .int .i64, .int .u32, .int .i64]), kB] R 29 [.cell 6 56, .tmp 7] (by kernel_rfl) (by kernel_rfl) (by kernel_rfl) (by kernel_rfl) (by kernel_rfl)
    (.s .o (.s .o (.s (.s .o (.s .o (.c .o .o))) (.s .o .o))))
    (by kernel_rfl) h
set_option maxRecDepth 100000 in
/-- header.index -/
def header_index.E (a1 : Int) (s2 : (TT [.int .i64, .int .i64, .int .i64, .int .i64, .int .i64, .int .u32, .int .i64])) (c3 : Int) (R : (TT [.int .i64, .int .i64, .int .i64, .int .i64, .int .i64, .int .u32, .int .i64]) → Bool → World → Prop) (w : World) : Prop :=
 Nw 56 ⟨[(.int .i64 s2.1), (.int .i64 s2.2.1), (.int .i64 s2.2.2.1), (.int .i64 s2.2.2.2.1), (.int .i64 s2.2.2.2.2.1), (.int .u32 s2.2.2.2.2.2.1), (.int .i64 s2.2.2.2.2.2.2.1)]⟩ w fun (b5 : Nat) (w_4 : World) =>
 Nw 56 ⟨[(.int .i64 0), (.int .i64 0), (.int .i64 0), (.int .i64 0), (.int .i64 0), (.int .u32 0), (.int .i64 0)]⟩ w_4 fun (b7 : Nat) (w_6 : World) =>
 Ld (.st [.int .i64, .int .i64]) ((⟨b5, 0, none⟩ : Addr).add 1) w_6 fun (Number8 : (TT [.int .i64, .int .i64])) =>
 Ld kI (((⟨b5, 0, none⟩ : Addr).add 3).add 0) w_6 fun (M9 : Int) =>
 Cl Try.prog [(.st [.int .i64, .int .i64]), kB, kB] n_header_grow ⟨[(.agg ⟨[(.int .i64 Number8.1), (.int .i64 Number8.2.1)]⟩), (.int .u8 c3), (.int .i64 M9)]⟩ w_6 fun (r11 : (TT [.int .i64, .int .i64])) (r12 : Bool) (r13 : Bool) (w_10 : World) =>
 Nw 52 ⟨[(.int .i64 0), (.int .i64 0)]⟩ w_10 fun (b15 : Nat) (w_14 : World) =>
 StC (⟨b15, 0, none⟩ : Addr) [(.int .i64 r11.1), (.int .i64 r11.2.1)] 0 w_14 fun (w_16 : World) =>
 Ld (.st [.int .i64, .int .i64]) (⟨b15, 0, none⟩ : Addr) w_16 fun (x17 : (TT [.int .i64, .int .i64])) =>
 StC ((⟨b5, 0, none⟩ : Addr).add 1) [(.int .i64 x17.1), (.int .i64 x17.2.1)] 0 w_16 fun (w_18 : World) =>
 IfB r12
 (Ld kI (((⟨b5, 0, none⟩ : Addr).add 3).add 0) w_18 fun (M19 : Int) =>
 Ld kI ((⟨b15, 0, none⟩ : Addr).add 0) w_18 fun (Value20 : Int) =>
 StC (⟨b5, 0, none⟩ : Addr) [(.int .i64 3), (.int .i64 0), (.int .i64 0), (.int .i64 M19), (.int .i64 Value20), (.int .u32 0), (.int .i64 0)] 0 w_18 fun (w_21 : World) =>
 Ld (.st [.int .i64, .int .i64, .int .i64, .int .i64, .int .i64, .int .u32, .int .i64]) (⟨b5, 0, none⟩ : Addr) w_21 fun (x22 : (TT [.int .i64, .int .i64, .int .i64, .int .i64, .int .i64, .int .u32, .int .i64])) =>
 StC (⟨b7, 0, none⟩ : Addr) [(.int .i64 x22.1), (.int .i64 x22.2.1), (.int .i64 x22.2.2.1), (.int .i64 x22.2.2.2.1), (.int .i64 x22.2.2.2.2.1), (.int .u32 x22.2.2.2.2.2.1), (.int .i64 x22.2.2.2.2.2.2.1)] 0 w_21 fun (w_23 : World) =>
 Ld (.st [.int .i64, .int .i64, .int .i64, .int .i64, .int .i64, .int .u32, .int .i64]) (⟨b7, 0, none⟩ : Addr) w_23 fun (res24 : (TT [.int .i64, .int .i64, .int .i64, .int .i64, .int .i64, .int .u32, .int .i64])) =>
 R (res24) (r13) w_23)
 (Ld (.st [.int .i64, .int .i64, .int .i64, .int .i64, .int .i64, .int .u32, .int .i64]) (⟨b5, 0, none⟩ : Addr) w_18 fun (x25 : (TT [.int .i64, .int .i64, .int .i64, .int .i64, .int .i64, .int .u32, .int .i64])) =>
 StC (⟨b7, 0, none⟩ : Addr) [(.int .i64 x25.1), (.int .i64 x25.2.1), (.int .i64 x25.2.2.1), (.int .i64 x25.2.2.2.1), (.int .i64 x25.2.2.2.2.1), (.int .u32 x25.2.2.2.2.2.1), (.int .i64 x25.2.2.2.2.2.2.1)] 0 w_18 fun (w_26 : World) =>
 Ld (.st [.int .i64, .int .i64, .int .i64, .int .i64, .int .i64, .int .u32, .int .i64]) (⟨b7, 0, none⟩ : Addr) w_26 fun (res27 : (TT [.int .i64, .int .i64, .int .i64, .int .i64, .int .i64, .int .u32, .int .i64])) =>
 R (res27) (r13) w_26)
set_option maxRecDepth 100000 in
theorem header_index.ok (a1 : Int) (s2 : (TT [.int .i64, .int .i64, .int .i64, .int .i64, .int .i64, .int .u32, .int .i64])) (c3 : Int) (R : (TT [.int .i64, .int .i64, .int .i64, .int .i64, .int .i64, .int .u32, .int .i64]) → Bool → World → Prop) (w : World) (h : header_index.E a1 s2 c3 R w) : Cl Try.prog [(.st [.int .i64, .int .i64, .int .i64, .int .i64, .int .i64, .int .u32, .int .i64]), kB] n_header_index ⟨[(.int .i64 a1), (.agg ⟨[(.int .i64 s2.1), (.int .i64 s2.2.1), (.int .i64 s2.2.2.1), (.int .i64 s2.2.2.2.1), (.int .i64 s2.2.2.2.2.1), (.int .u32 s2.2.2.2.2.2.1), (.int .i64 s2.2.2.2.2.2.2.1)]⟩), (.int .u8 c3)]⟩ w R :=
  calls_of_eq Try.mix Try.f53 [(.int .i64 a1), (.agg ⟨[(.int .i64 s2.1), (.int .i64 s2.2.1), (.int .i64 s2.2.2.1), (.int .i64 s2.2.2.2.1), (.int .i64 s2.2.2.2.2.1), (.int .u32 s2.2.2.2.2.2.1), (.int .i64 s2.2.2.2.2.2.2.1)]⟩), (.int .u8 c3)] [(.st [.int .i64, .int .i64, .int .i64, .int .i64, .int .i64, .int .u32, .int .i64]), kB] R 34 [.cell 6 56, .tmp 7] (by kernel_rfl) (by kernel_rfl) (by kernel_rfl) (by kernel_rfl) (by kernel_rfl)
    (.s .o (.s .o (.s (.s .o (.s .o (.c .o .o))) (.s .o .o))))
    (by kernel_rfl) h
set_option maxRecDepth 100000 in
/-- header.sum -/
def header_sum.E (a1 : Int) (s2 : (TT [.int .i64, .int .i64, .int .i64, .int .i64, .int .i64, .int .u32, .int .i64])) (c3 : Int) (R : (TT [.int .i64, .int .i64, .int .i64, .int .i64, .int .i64, .int .u32, .int .i64]) → Bool → World → Prop) (w : World) : Prop :=
 Nw 56 ⟨[(.int .i64 s2.1), (.int .i64 s2.2.1), (.int .i64 s2.2.2.1), (.int .i64 s2.2.2.2.1), (.int .i64 s2.2.2.2.2.1), (.int .u32 s2.2.2.2.2.2.1), (.int .i64 s2.2.2.2.2.2.2.1)]⟩ w fun (b5 : Nat) (w_4 : World) =>
 Nw 56 ⟨[(.int .i64 0), (.int .i64 0), (.int .i64 0), (.int .i64 0), (.int .i64 0), (.int .u32 0), (.int .i64 0)]⟩ w_4 fun (b7 : Nat) (w_6 : World) =>
 Ld (kInt .u32) (((⟨b5, 0, none⟩ : Addr).add 3).add 2) w_6 fun (Sum8 : Int) =>
 0 ≤ (8 : Int) ∧
 St (((⟨b5, 0, none⟩ : Addr).add 3).add 2) (.int .u32 (ior .u32 ((ishl .u32 (Sum8 : Int) (8 : Int)) : Int) ((u32 c3) : Int))) w_6 fun (w_9 : World) =>
 Ld kI ((⟨b5, 0, none⟩ : Addr).add 6) w_9 fun (Many10 : Int) =>
 St ((⟨b5, 0, none⟩ : Addr).add 6) (.int .i64 (i64 ((Many10 : Int) + (1 : Int)))) w_9 fun (w_11 : World) =>
 Ld kI ((⟨b5, 0, none⟩ : Addr).add 6) w_11 fun (Many12 : Int) =>
 IfB ((Many12 : Int) == (4 : Int))
 (Ld kI ((⟨b5, 0, none⟩ : Addr).add 0) w_11 fun (At13 : Int) =>
 St ((⟨b5, 0, none⟩ : Addr).add 0) (.int .i64 (i64 ((At13 : Int) + (1 : Int)))) w_11 fun (w_14 : World) =>
 Ld (.st [.int .i64, .int .i64, .int .i64, .int .i64, .int .i64, .int .u32, .int .i64]) (⟨b5, 0, none⟩ : Addr) w_14 fun (x15 : (TT [.int .i64, .int .i64, .int .i64, .int .i64, .int .i64, .int .u32, .int .i64])) =>
 StC (⟨b7, 0, none⟩ : Addr) [(.int .i64 x15.1), (.int .i64 x15.2.1), (.int .i64 x15.2.2.1), (.int .i64 x15.2.2.2.1), (.int .i64 x15.2.2.2.2.1), (.int .u32 x15.2.2.2.2.2.1), (.int .i64 x15.2.2.2.2.2.2.1)] 0 w_14 fun (w_16 : World) =>
 Ld (.st [.int .i64, .int .i64, .int .i64, .int .i64, .int .i64, .int .u32, .int .i64]) (⟨b7, 0, none⟩ : Addr) w_16 fun (res17 : (TT [.int .i64, .int .i64, .int .i64, .int .i64, .int .i64, .int .u32, .int .i64])) =>
 R (res17) (true) w_16)
 (Ld (.st [.int .i64, .int .i64, .int .i64, .int .i64, .int .i64, .int .u32, .int .i64]) (⟨b5, 0, none⟩ : Addr) w_11 fun (x18 : (TT [.int .i64, .int .i64, .int .i64, .int .i64, .int .i64, .int .u32, .int .i64])) =>
 StC (⟨b7, 0, none⟩ : Addr) [(.int .i64 x18.1), (.int .i64 x18.2.1), (.int .i64 x18.2.2.1), (.int .i64 x18.2.2.2.1), (.int .i64 x18.2.2.2.2.1), (.int .u32 x18.2.2.2.2.2.1), (.int .i64 x18.2.2.2.2.2.2.1)] 0 w_11 fun (w_19 : World) =>
 Ld (.st [.int .i64, .int .i64, .int .i64, .int .i64, .int .i64, .int .u32, .int .i64]) (⟨b7, 0, none⟩ : Addr) w_19 fun (res20 : (TT [.int .i64, .int .i64, .int .i64, .int .i64, .int .i64, .int .u32, .int .i64])) =>
 R (res20) (true) w_19)
set_option maxRecDepth 100000 in
theorem header_sum.ok (a1 : Int) (s2 : (TT [.int .i64, .int .i64, .int .i64, .int .i64, .int .i64, .int .u32, .int .i64])) (c3 : Int) (R : (TT [.int .i64, .int .i64, .int .i64, .int .i64, .int .i64, .int .u32, .int .i64]) → Bool → World → Prop) (w : World) (h : header_sum.E a1 s2 c3 R w) : Cl Try.prog [(.st [.int .i64, .int .i64, .int .i64, .int .i64, .int .i64, .int .u32, .int .i64]), kB] n_header_sum ⟨[(.int .i64 a1), (.agg ⟨[(.int .i64 s2.1), (.int .i64 s2.2.1), (.int .i64 s2.2.2.1), (.int .i64 s2.2.2.2.1), (.int .i64 s2.2.2.2.2.1), (.int .u32 s2.2.2.2.2.2.1), (.int .i64 s2.2.2.2.2.2.2.1)]⟩), (.int .u8 c3)]⟩ w R :=
  calls_of_eq Try.mix Try.f54 [(.int .i64 a1), (.agg ⟨[(.int .i64 s2.1), (.int .i64 s2.2.1), (.int .i64 s2.2.2.1), (.int .i64 s2.2.2.2.1), (.int .i64 s2.2.2.2.2.1), (.int .u32 s2.2.2.2.2.2.1), (.int .i64 s2.2.2.2.2.2.2.1)]⟩), (.int .u8 c3)] [(.st [.int .i64, .int .i64, .int .i64, .int .i64, .int .i64, .int .u32, .int .i64]), kB] R 29 [.cell 6 56, .tmp 7] (by kernel_rfl) (by kernel_rfl) (by kernel_rfl) (by kernel_rfl) (by kernel_rfl)
    (.s .o (.s .o (.s (.s .o (.s .o (.c .o .o))) (.s .o .o))))
    (by kernel_rfl) h
set_option maxRecDepth 100000 in
/-- header.ValidMark -/
def header_ValidMark.E (n1 : Int) (s2 : (TT [.int .i64, .int .i64, .int .i64, .int .i64, .int .i64, .int .u32, .int .i64])) (R : Bool → World → Prop) (w : World) : Prop :=
 Nw 56 ⟨[(.int .i64 s2.1), (.int .i64 s2.2.1), (.int .i64 s2.2.2.1), (.int .i64 s2.2.2.2.1), (.int .i64 s2.2.2.2.2.1), (.int .u32 s2.2.2.2.2.2.1), (.int .i64 s2.2.2.2.2.2.2.1)]⟩ w fun (b4 : Nat) (w_3 : World) =>
 Ld (.st [.int .i64, .int .i64, .int .u32]) ((⟨b4, 0, none⟩ : Addr).add 3) w_3 fun (Head5 : (TT [.int .i64, .int .i64, .int .u32])) =>
 Nw 35 ⟨[(.int .i64 0), (.int .i64 0), (.int .u32 0)]⟩ w_3 fun (b7 : Nat) (w_6 : World) =>
 StC (⟨b7, 0, none⟩ : Addr) [(.int .i64 Head5.1), (.int .i64 Head5.2.1), (.int .u32 Head5.2.2.1)] 0 w_6 fun (w_8 : World) =>
 Join (fun (block17 : Bool) (w_18 : World) =>
 Cl Try.prog [kB] n_header_within ⟨[(.int .i64 n1), (.int .i64 1), (.int .i64 65536)]⟩ w_18 fun (r20 : Bool) (w_19 : World) =>
 IfB (!r20)
 (R (false) w_19)
 (Ld kI ((⟨b4, 0, none⟩ : Addr).add 0) w_19 fun (At21 : Int) =>
 IfB ((At21 : Int) == (0 : Int))
 (Ld (.st [.int .i64, .int .i64, .int .i64, .int .i64, .int .i64, .int .u32, .int .i64]) (⟨b4, 0, none⟩ : Addr) w_19 fun (x22 : (TT [.int .i64, .int .i64, .int .i64, .int .i64, .int .i64, .int .u32, .int .i64])) =>
 R ((((x22.1 : Int) == (0 : Int)) && ((((x22.2.1 : Int) == (0 : Int)) && ((x22.2.2.1 : Int) == (0 : Int))) && ((((x22.2.2.2.1 : Int) == (0 : Int)) && (((x22.2.2.2.2.1 : Int) == (0 : Int)) && ((x22.2.2.2.2.2.1 : Int) == (0 : Int)))) && ((x22.2.2.2.2.2.2.1 : Int) == (0 : Int)))))) w_19)
 (IfB ((At21 : Int) == (1 : Int))
 (Ld (.st [.int .i64, .int .i64]) ((⟨b4, 0, none⟩ : Addr).add 1) w_19 fun (Number23 : (TT [.int .i64, .int .i64])) =>
 Cl Try.prog [kB] n_header_comes ⟨[(.agg ⟨[(.int .i64 Number23.1), (.int .i64 Number23.2.1)]⟩), (.int .i64 n1)]⟩ w_19 fun (r25 : Bool) (w_24 : World) =>
 IfB r25
 (Ld (.st [.int .i64, .int .i64, .int .i64, .int .i64, .int .i64, .int .u32, .int .i64]) (⟨b4, 0, none⟩ : Addr) w_24 fun (x26 : (TT [.int .i64, .int .i64, .int .i64, .int .i64, .int .i64, .int .u32, .int .i64])) =>
 Ld (.st [.int .i64, .int .i64]) ((⟨b4, 0, none⟩ : Addr).add 1) w_24 fun (Number27 : (TT [.int .i64, .int .i64])) =>
 R ((((x26.1 : Int) == (1 : Int)) && ((((x26.2.1 : Int) == (Number27.1 : Int)) && ((x26.2.2.1 : Int) == (Number27.2.1 : Int))) && ((((x26.2.2.2.1 : Int) == (0 : Int)) && (((x26.2.2.2.2.1 : Int) == (0 : Int)) && ((x26.2.2.2.2.2.1 : Int) == (0 : Int)))) && ((x26.2.2.2.2.2.2.1 : Int) == (0 : Int)))))) w_24)
 (R (false) w_24))
 (IfB ((At21 : Int) == (2 : Int))
 (Ld kI ((⟨b7, 0, none⟩ : Addr).add 0) w_19 fun (M28 : Int) =>
 Cl Try.prog [kB] n_header_within ⟨[(.int .i64 M28), (.int .i64 1), (.int .i64 n1)]⟩ w_19 fun (r30 : Bool) (w_29 : World) =>
 IfB r30
 (Ld (.st [.int .i64, .int .i64]) ((⟨b4, 0, none⟩ : Addr).add 1) w_29 fun (Number31 : (TT [.int .i64, .int .i64])) =>
 Ld kI ((⟨b7, 0, none⟩ : Addr).add 0) w_29 fun (M32 : Int) =>
 Cl Try.prog [kB] n_header_comes ⟨[(.agg ⟨[(.int .i64 Number31.1), (.int .i64 Number31.2.1)]⟩), (.int .i64 M32)]⟩ w_29 fun (r34 : Bool) (w_33 : World) =>
 IfB r34
 (Ld (.st [.int .i64, .int .i64, .int .i64, .int .i64, .int .i64, .int .u32, .int .i64]) (⟨b4, 0, none⟩ : Addr) w_33 fun (x35 : (TT [.int .i64, .int .i64, .int .i64, .int .i64, .int .i64, .int .u32, .int .i64])) =>
 Ld (.st [.int .i64, .int .i64]) ((⟨b4, 0, none⟩ : Addr).add 1) w_33 fun (Number36 : (TT [.int .i64, .int .i64])) =>
 Ld kI ((⟨b7, 0, none⟩ : Addr).add 0) w_33 fun (M37 : Int) =>
 R ((((x35.1 : Int) == (2 : Int)) && ((((x35.2.1 : Int) == (Number36.1 : Int)) && ((x35.2.2.1 : Int) == (Number36.2.1 : Int))) && ((((x35.2.2.2.1 : Int) == (M37 : Int)) && (((x35.2.2.2.2.1 : Int) == (0 : Int)) && ((x35.2.2.2.2.2.1 : Int) == (0 : Int)))) && ((x35.2.2.2.2.2.2.1 : Int) == (0 : Int)))))) w_33)
 (R (false) w_33))
 (R (false) w_29))
 (IfB ((At21 : Int) == (3 : Int))
 (IfB block17
 (Ld (kInt .u32) ((⟨b7, 0, none⟩ : Addr).add 2) w_19 fun (Sum38 : Int) =>
 Ld kI ((⟨b4, 0, none⟩ : Addr).add 6) w_19 fun (Many39 : Int) =>
 Cl Try.prog [kB] n_header_sums ⟨[(.int .u32 Sum38), (.int .i64 Many39)]⟩ w_19 fun (r41 : Bool) (w_40 : World) =>
 IfB r41
 (Ld (.st [.int .i64, .int .i64]) ((⟨b4, 0, none⟩ : Addr).add 1) w_40 fun (Number42 : (TT [.int .i64, .int .i64])) =>
 R ((((Number42.1 : Int) == (0 : Int)) && ((Number42.2.1 : Int) == (0 : Int)))) w_40)
 (R (false) w_40))
 (R (false) w_19))
 (IfB ((At21 : Int) == (4 : Int))
 (IfB block17
 (Ld (.st [.int .i64, .int .i64, .int .i64, .int .i64, .int .i64, .int .u32, .int .i64]) (⟨b4, 0, none⟩ : Addr) w_19 fun (x43 : (TT [.int .i64, .int .i64, .int .i64, .int .i64, .int .i64, .int .u32, .int .i64])) =>
 Ld (.st [.int .i64, .int .i64, .int .u32]) (⟨b7, 0, none⟩ : Addr) w_19 fun (x44 : (TT [.int .i64, .int .i64, .int .u32])) =>
 R ((((x43.1 : Int) == (4 : Int)) && ((((x43.2.1 : Int) == (0 : Int)) && ((x43.2.2.1 : Int) == (0 : Int))) && ((((x43.2.2.2.1 : Int) == (x44.1 : Int)) && (((x43.2.2.2.2.1 : Int) == (x44.2.1 : Int)) && ((x43.2.2.2.2.2.1 : Int) == (x44.2.2.1 : Int)))) && ((x43.2.2.2.2.2.2.1 : Int) == (4 : Int)))))) w_19)
 (R (false) w_19))
 (IfB ((At21 : Int) == (5 : Int))
 (Ld (kInt .u32) ((⟨b7, 0, none⟩ : Addr).add 2) w_19 fun (Sum45 : Int) =>
 Ld kI ((⟨b4, 0, none⟩ : Addr).add 6) w_19 fun (Many46 : Int) =>
 Cl Try.prog [kB] n_header_sums ⟨[(.int .u32 Sum45), (.int .i64 Many46)]⟩ w_19 fun (r48 : Bool) (w_47 : World) =>
 IfB r48
 (Ld (.st [.int .i64, .int .i64, .int .i64, .int .i64, .int .i64, .int .u32, .int .i64]) (⟨b4, 0, none⟩ : Addr) w_47 fun (x49 : (TT [.int .i64, .int .i64, .int .i64, .int .i64, .int .i64, .int .u32, .int .i64])) =>
 Ld (kInt .u32) ((⟨b7, 0, none⟩ : Addr).add 2) w_47 fun (Sum50 : Int) =>
 Ld kI ((⟨b4, 0, none⟩ : Addr).add 6) w_47 fun (Many51 : Int) =>
 R ((((x49.1 : Int) == (5 : Int)) && ((((x49.2.1 : Int) == (0 : Int)) && ((x49.2.2.1 : Int) == (0 : Int))) && ((((x49.2.2.2.1 : Int) == (0 : Int)) && (((x49.2.2.2.2.1 : Int) == (0 : Int)) && ((x49.2.2.2.2.2.1 : Int) == (Sum50 : Int)))) && ((x49.2.2.2.2.2.2.1 : Int) == (Many51 : Int)))))) w_47)
 (R (false) w_47))
 (IfB ((At21 : Int) == (6 : Int))
 (Ld (.st [.int .i64, .int .i64, .int .i64, .int .i64, .int .i64, .int .u32, .int .i64]) (⟨b4, 0, none⟩ : Addr) w_19 fun (x52 : (TT [.int .i64, .int .i64, .int .i64, .int .i64, .int .i64, .int .u32, .int .i64])) =>
 Ld (kInt .u32) ((⟨b7, 0, none⟩ : Addr).add 2) w_19 fun (Sum53 : Int) =>
 R ((((x52.1 : Int) == (6 : Int)) && ((((x52.2.1 : Int) == (0 : Int)) && ((x52.2.2.1 : Int) == (0 : Int))) && ((((x52.2.2.2.1 : Int) == (0 : Int)) && (((x52.2.2.2.2.1 : Int) == (0 : Int)) && ((x52.2.2.2.2.2.1 : Int) == (Sum53 : Int)))) && ((x52.2.2.2.2.2.2.1 : Int) == (4 : Int)))))) w_19)
 (R (false) w_19))))))))) fun (K_9 : Bool → World → Prop) =>
 Ld kI ((⟨b7, 0, none⟩ : Addr).add 0) w_8 fun (M10 : Int) =>
 Cl Try.prog [kB] n_header_within ⟨[(.int .i64 M10), (.int .i64 1), (.int .i64 n1)]⟩ w_8 fun (r12 : Bool) (w_11 : World) =>
 IfB r12
 (Ld kI ((⟨b7, 0, none⟩ : Addr).add 1) w_11 fun (P13 : Int) =>
 Ld kI ((⟨b7, 0, none⟩ : Addr).add 0) w_11 fun (M14 : Int) =>
 Cl Try.prog [kB] n_header_within ⟨[(.int .i64 P13), (.int .i64 1), (.int .i64 M14)]⟩ w_11 fun (r16 : Bool) (w_15 : World) =>
 K_9 (r16) w_15)
 (K_9 (false) w_11)
set_option maxRecDepth 100000 in
theorem header_ValidMark.ok (n1 : Int) (s2 : (TT [.int .i64, .int .i64, .int .i64, .int .i64, .int .i64, .int .u32, .int .i64])) (R : Bool → World → Prop) (w : World) (h : header_ValidMark.E n1 s2 R w) : Cl Try.prog [kB] n_header_ValidMark ⟨[(.int .i64 n1), (.agg ⟨[(.int .i64 s2.1), (.int .i64 s2.2.1), (.int .i64 s2.2.2.1), (.int .i64 s2.2.2.2.1), (.int .i64 s2.2.2.2.2.1), (.int .u32 s2.2.2.2.2.2.1), (.int .i64 s2.2.2.2.2.2.2.1)]⟩)]⟩ w R :=
  calls_of_eq Try.mix Try.f55 [(.int .i64 n1), (.agg ⟨[(.int .i64 s2.1), (.int .i64 s2.2.1), (.int .i64 s2.2.2.1), (.int .i64 s2.2.2.2.1), (.int .i64 s2.2.2.2.2.1), (.int .u32 s2.2.2.2.2.2.1), (.int .i64 s2.2.2.2.2.2.2.1)]⟩)] [kB] R 116 [.tmp 4] (by kernel_rfl) (by kernel_rfl) (by kernel_rfl) (by kernel_rfl) (by kernel_rfl)
    (.s .o (.s .o (.j [(6, kB)] .o (.s (.s .o (.c (.s .o .o) .o)) (.s (.s .o (.b (.s .o (.c (.s .o .o) (.s .o (.c (.s .o .o) (.s .o (.c (.s .o .o) (.s .o (.c (.s .o .o) (.s .o (.c (.s .o .o) (.s .o (.c (.s .o .o) (.s .o (.c (.s .o .o) .o)))))))))))))))) (.s .o .o))))))
    (by kernel_rfl) h
/-- header.comes -/
def header_comes.E (v1 : (TT [.int .i64, .int .i64])) (most2 : Int) (R : Bool → World → Prop) (w : World) : Prop :=
 Nw 52 ⟨[(.int .i64 v1.1), (.int .i64 v1.2.1)]⟩ w fun (b4 : Nat) (w_3 : World) =>
 Ld (.st [.int .i64, .int .i64]) (⟨b4, 0, none⟩ : Addr) w_3 fun (x5 : (TT [.int .i64, .int .i64])) =>
 Cl Try.prog [kB] n_varint_Valid ⟨[(.agg ⟨[(.int .i64 x5.1), (.int .i64 x5.2.1)]⟩)]⟩ w_3 fun (r7 : Bool) (w_6 : World) =>
 IfB r7
 (Ld kI ((⟨b4, 0, none⟩ : Addr).add 0) w_6 fun (Value8 : Int) =>
 R ((decide ((Value8 : Int) ≤ (most2 : Int)))) w_6)
 (R (false) w_6)
theorem header_comes.ok (v1 : (TT [.int .i64, .int .i64])) (most2 : Int) (R : Bool → World → Prop) (w : World) (h : header_comes.E v1 most2 R w) : Cl Try.prog [kB] n_header_comes ⟨[(.agg ⟨[(.int .i64 v1.1), (.int .i64 v1.2.1)]⟩), (.int .i64 most2)]⟩ w R :=
  calls_of_eq Try.mix Try.f66 [(.agg ⟨[(.int .i64 v1.1), (.int .i64 v1.2.1)]⟩), (.int .i64 most2)] [kB] R 13 [.tmp 4] (by kernel_rfl) (by kernel_rfl) (by kernel_rfl) (by kernel_rfl) (by kernel_rfl)
    (.s .o (.s .o .o))
    (by kernel_rfl) h
/-- header.within -/
def header_within.E (n1 : Int) (low2 : Int) (high3 : Int) (R : Bool → World → Prop) (w : World) : Prop :=
 IfB (decide ((n1 : Int) ≥ (low2 : Int)))
 (R ((decide ((n1 : Int) ≤ (high3 : Int)))) w)
 (R (false) w)
theorem header_within.ok (n1 : Int) (low2 : Int) (high3 : Int) (R : Bool → World → Prop) (w : World) (h : header_within.E n1 low2 high3 R w) : Cl Try.prog [kB] n_header_within ⟨[(.int .i64 n1), (.int .i64 low2), (.int .i64 high3)]⟩ w R :=
  calls_of_eq Try.mix Try.f67 [(.int .i64 n1), (.int .i64 low2), (.int .i64 high3)] [kB] R 15 [.tmp 6] (by kernel_rfl) (by kernel_rfl) (by kernel_rfl) (by kernel_rfl) (by kernel_rfl)
    (.s .o (.s .o .o))
    (by kernel_rfl) h
/-- header.sums -/
def header_sums.E (sum1 : Int) (many2 : Int) (R : Bool → World → Prop) (w : World) : Prop :=
 Cl Try.prog [kB] n_header_within ⟨[(.int .i64 many2), (.int .i64 0), (.int .i64 3)]⟩ w fun (r4 : Bool) (w_3 : World) =>
 IfB r4
 (0 ≤ ((i64 ((8 : Int) * (many2 : Int))) : Int) ∧
 R ((((ishr .u64 ((u64 sum1) : Int) ((i64 ((8 : Int) * (many2 : Int))) : Int)) : Int) == (0 : Int))) w_3)
 (R (false) w_3)
theorem header_sums.ok (sum1 : Int) (many2 : Int) (R : Bool → World → Prop) (w : World) (h : header_sums.E sum1 many2 R w) : Cl Try.prog [kB] n_header_sums ⟨[(.int .u32 sum1), (.int .i64 many2)]⟩ w R :=
  calls_of_eq Try.mix Try.f69 [(.int .u32 sum1), (.int .i64 many2)] [kB] R 15 [.tmp 4] (by kernel_rfl) (by kernel_rfl) (by kernel_rfl) (by kernel_rfl) (by kernel_rfl)
    (.s .o (.s .o .o))
    (by kernel_rfl) h
end Go.Proofs.Ytjnjjibmlalpiaa
