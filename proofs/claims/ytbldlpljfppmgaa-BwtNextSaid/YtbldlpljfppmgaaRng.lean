/-
  Ranges over functions: what the engine asks of such a statement and of a call of yield, and its soundness. Conditions: none; every theorem here is about any program.
-/
import Derived.Test.YtbldlpljfppmgaaVc
import Derived.RangeFuncRecord
import Derived.TacticsIn
import Derived.OrdersIn
namespace Go.Vc
open Go
noncomputable section
variable {nn : Nat} {dfs : List Deferred}

abbrev FW (ro : Option Nat) : Fence := { Fence.wide with round := ro }
/-- the call of yield: a round, which yields whether there is to be a next one -/
def Yld (P : Program) (l : Nat) (args : List Value) (w : World) (K : Bool → World → Prop) : Prop :=
  ∃ fn tmps assign body, (Instr.yield l ⟨args⟩).run P w = .ok (.round l fn tmps assign body) w ∧
    RoundIn Fence.wide 0 P l fn tmps assign body w fun e w' => ∃ b, e = .returned (.bool b) ∧ K b w'
/-- the call of a function value that may be yield -/
def ClY (P : Program) (v : Value) (ks : List Ki) (args : List Value) (w : World) (K : FnK ks (World → Prop)) : Prop :=
  match v with
  | .func (.func i) first captured => onB (okCall P i) (Cl P ks i ⟨first.toList ++ args ++ captured.toList⟩ w K)
  | .func (.yield l) first _ => Yld P l (first.toList ++ args) w fun b w' => decRes ks (.bool b) K w'
  | _ => False
def opVY (P : Program) (f : AF) (o : Oper) (w : World) (K : Option Value → World → Prop) : Prop :=
  match o.op with
  | .call c => match c.callee with
    | .value x => match ev f x, evl f c.args.toList, ksOfTy P o.type with
      | some v, some vs, some ks => ClY P v ks vs w (CExt ks [] fun us w' => K (some (resVal us)) w')
      | _, _, _ => False
    | _ => opVC P f o w K
  | _ => opVC P f o w K

theorem Yld_mono {P : Program} {l : Nat} {args : List Value} {w : World} {K K' : Bool → World → Prop} (h1 : ∀ b w, K b w → K' b w) (h : Yld P l args w K) : Yld P l args w K' := by
  obtain ⟨fn, tmps, assign, body, h2, h3⟩ := h
  exact ⟨fn, tmps, assign, body, h2, h3.mono fun e w' ⟨b, e1, e2⟩ => ⟨b, e1, h1 _ _ e2⟩⟩
theorem ClY_mono {P : Program} {v : Value} {ks : List Ki} {args : List Value} {w : World} {g g' : List Value → World → Prop} (h1 : ∀ vs w, g vs w → g' vs w) (h : ClY P v ks args w (CExt ks [] g)) : ClY P v ks args w (CExt ks [] g') := by
  unfold ClY at h ⊢
  split at h
  · exact ClV_mono (v := .func (.func _) _ _) h1 h
  · exact Yld_mono (fun b w h => decRes_mono (fun vs h => h1 vs w h) h) h
  · exact h.elim
theorem opVY_mono {P : Program} {f : AF} {o : Oper} {w : World} {K K' : Option Value → World → Prop} (h1 : ∀ v w, K v w → K' v w) (h : opVY P f o w K) : opVY P f o w K' := by
  unfold opVY at h ⊢
  split at h
  · split at h
    · split at h
      · exact ClY_mono (fun vs w h => h1 _ _ h) h
      · exact h.elim
    · exact opVC_mono h1 h
  · exact opVC_mono h1 h
/-- an operation that is no defer statement, in whatever frame -/
theorem wpIn_of_wp {P : Program} {ro : Option Nat} {n : Nat} {o : Oper} {a : Act} {w : World} {next : Act → World → Prop} {Q : Exit → Act → World → Prop} (hd : ∀ c, o.op ≠ .defer c) (h : o.wp P a w next Q) : o.wpIn (FW ro) n P a w next Q := by
  refine ⟨fun _ _ => trivial, ?_⟩
  have e : o.semAt (FW ro).round a.eval = execOp a.eval o := by
    cases ro with
    | none => rfl
    | some l => exact Oper.semAt_some l _ _ hd
  rw [e]
  unfold Oper.wp at h
  generalize (execOp a.eval o).run P w = r at h
  cases r with
  | ok x w' =>
    cases x <;> simp only [Oper.upon] at h <;> first | exact h.elim | exact h | skip
    · exact ⟨fun hh => (by cases hh), (callsIn_wide (n := n - 1)).2 (h.mono fun e w'' he => by cases e <;> exact he)⟩
    · refine ⟨fun hh => (by cases hh), fun c cs _ => ?_⟩
      obtain ⟨v, w', hr, hs⟩ := h c cs
      exact ⟨v, w', hr, stepsIn_wide.2 hs⟩
  | halt x w' => cases x <;> simp only [Oper.upon] at h <;> first | exact h.elim | exact h
theorem opY_sound {P : Program} {ro : Option Nat} {n : Nat} {w : World} {a : Act} {f : AF} (hr : Rel nn dfs a f) {o : Oper} {K : Option Value → World → Prop} (h : opVY P f o w K)
    {next : Act → World → Prop} {Q : Exit → Act → World → Prop} (hn : ∀ v ov w', K ov w' → (∀ v', ov = some v' → v = v') → next (a.put o.dst v) w') : o.wpIn (FW ro) n P a w next Q := by
  obtain ⟨dst, op, ty, pos, after, guard⟩ := o
  unfold opVY at h
  simp only at h hn
  have plain : opVC P f ⟨dst, op, ty, pos, after, guard⟩ w K → (∀ c, op ≠ .defer c) → Oper.wpIn (FW ro) n P ⟨dst, op, ty, pos, after, guard⟩ a w next Q := fun h hd => wpIn_of_wp hd (op_sound hr h hn)
  split at h
  · rename_i c
    split at h
    · rename_i x hx0
      split at h
      · rename_i v vs ks hx hvs hks
        obtain ⟨callee, args, tys⟩ := c
        simp only at hx0 hvs
        subst hx0
        have cv : ClV P v ks vs w (CExt ks [] fun us w' => K (some (resVal us)) w') → Oper.wpIn (FW ro) n P ⟨dst, .call ⟨.value x, args, tys⟩, ty, pos, after, guard⟩ a w next Q := fun h => by
          refine plain ?_ (fun c => by simp)
          unfold opVC
          simp only [stillB, effVC, hx, hvs, hks]
          exact h
        unfold ClY at h
        split at h
        · exact cv h
        · rename_i l first captured
          obtain ⟨fn, tmps, assign, body, h1, h2⟩ := h
          refine ⟨fun _ _ => trivial, ?_⟩
          have e : Oper.semAt (FW ro).round a.eval ⟨dst, .call ⟨.value x, args, tys⟩, ty, pos, after, guard⟩ = execOp a.eval ⟨dst, .call ⟨.value x, args, tys⟩, ty, pos, after, guard⟩ := by
            cases ro with
            | none => rfl
            | some l => exact Oper.semAt_some l _ _ (fun c => by simp)
          have he : (execOp a.eval ⟨dst, .call ⟨.value x, args, tys⟩, ty, pos, after, guard⟩).run P w = .ok (.round l fn tmps assign body) w := by
            simp only [execOp, resolve, Sem.run_bind, hr.ev hx, Deferred.ofValue, Sem.run_pure, Result.andThen_ok, invoke, evl_arr hr hvs]
            rw [← h1]
            congr 2
            cases first; simp
          rw [e, he]
          refine ⟨fun hh => (by cases hh), ?_⟩
          refine RoundIn.mono (R := fun e w' => ∃ b, e = .returned (.bool b) ∧ decRes ks (.bool b) (CExt ks [] fun us w' => K (some (resVal us)) w') w') ⟨h2.1, fun c cs _ => h2.2 c cs (room_wide _)⟩ ?_
          rintro e w' ⟨b, rfl, hb⟩
          obtain ⟨us, e1, e2⟩ := decRes_sound hb
          have := hn (.bool b) (some (resVal us)) w' e2 (fun v' e => by rw [e1]; simpa using e)
          exact this
        · exact h.elim
      · exact h.elim
    · refine plain h (fun c => by simp)
  · rename_i op' hop
    refine plain h (fun c hc => ?_)
    subst hc
    unfold opVC at h
    simp only [stillB, effVC] at h

/-! lists of operations, all orders -/
def vcOpsY (P : Program) (ops : Array Oper) : List Oper → AF → World → (AF → World → Prop) → Prop
  | [], f, w, K => K f w
  | o :: rest, f, w, K => guarded ops o f (fun f => opVY P f o w fun v w' => vcOpsY P ops rest (putD f o.dst v) w' K) (fun f => vcOpsY P ops rest (putD f o.dst (some undef)) w K)
theorem opsY_sound {P : Program} {ro : Option Nat} {n : Nat} {ops : Array Oper} {Q : Exit → Act → World → Prop} {K : AF → World → Prop} (hQ : ∀ a f w, Rel nn dfs a f → K f w → Q .normal a w) :
    ∀ (l : List Oper) (f : AF) (w : World) (a : Act), Rel nn dfs a f → vcOpsY P ops l f w K → wpListIn (FW ro) n P ops Q l a w
  | [], f, w, a, hr, h => hQ a f w hr h
  | o :: rest, f, w, a, hr, h => by
    obtain ⟨f', hr', h1 | h1⟩ := guarded_sound hr h
    · simp only [wpListIn, h1.1, if_true]
      exact opY_sound hr' h1.2 fun v ov w' hK hv => opsY_sound hQ rest _ w' _ (hr'.put o.dst hv) hK
    · simp only [wpListIn, h1.1]
      exact ⟨fun _ _ => trivial, opsY_sound hQ rest _ w _ (hr'.put o.dst (fun v' e => by simpa using e)) h1.2⟩
theorem vcOpsY_frame {P : Program} {ops : Array Oper} {K K' : AF → World → Prop} {f0 : AF} (hk : ∀ f w, Same (dsts ops.toList) f0 f → K f w → K' f w) : ∀ (l : List Oper) (f : AF) (w : World), (∀ o ∈ l, o ∈ ops.toList) → Same (dsts ops.toList) f0 f → vcOpsY P ops l f w K → vcOpsY P ops l f w K'
  | [], f, w, _, hs, h => hk f w hs h
  | o :: rest, f, w, hl, hs, h => by
    have ho := hl o (by simp)
    have hr : ∀ o ∈ rest, o ∈ ops.toList := fun o' h' => hl o' (by simp [h'])
    refine guarded_frame (fun g hg h => opVY_mono (fun v w h => vcOpsY_frame hk rest _ w hr ((hs.trans hg).trans (Same.putD v fun d hd => mem_dsts ho hd)) h) h)
      (fun g hg h => vcOpsY_frame hk rest _ w hr ((hs.trans hg).trans (Same.putD _ fun d hd => mem_dsts ho hd)) h) h
def vcAll (P : Program) (ops : Array Oper) (K : AF → World → Prop) : Nat → Array Bool → AF → World → Prop
  | 0, listed, f, w => onB (Region.ready .any ops listed).isEmpty (K f w)
  | n + 1, listed, f, w => match Region.ready .any ops listed with
    | [] => K f w
    | r :: rs => AllR (r :: rs) fun i => match ops[i]? with
      | some o => guarded ops o f (fun f => opVY P f o w fun v w' => vcAll P ops K n (listed.setIfInBounds i true) (putD f o.dst v) w') (fun f => vcAll P ops K n (listed.setIfInBounds i true) (putD f o.dst (some undef)) w)
      | none => False
theorem all_sound {P : Program} {ro : Option Nat} {m : Nat} {ops : Array Oper} {Q : Exit → Act → World → Prop} {K : AF → World → Prop} (hQ : ∀ a f w, Rel nn dfs a f → K f w → Q .normal a w) :
    ∀ (n : Nat) (listed : Array Bool) (f : AF) (w : World) (a : Act), Rel nn dfs a f → vcAll P ops K n listed f w → wpAnyIn (FW ro) m P .any ops Q n listed a w
  | 0, listed, f, w, a, hr, h => by
    obtain ⟨h1, h2⟩ := onB_sound h
    exact ⟨by simpa using h1, hQ _ _ _ hr h2⟩
  | n + 1, listed, f, w, a, hr, h => by
    unfold vcAll at h
    split at h
    · rename_i he
      exact ⟨fun _ => hQ _ _ _ hr h, by rw [he]; simp⟩
    · rename_i r rs he
      refine ⟨fun h0 => absurd h0 (by rw [he]; simp), fun i hi => ?_⟩
      rw [he] at hi
      have h0 := allR_mem h i hi
      unfold wpOpIn
      split at h0
      · rename_i o ho
        simp only [ho]
        obtain ⟨f', hr', h1 | h1⟩ := guarded_sound hr h0
        · rw [if_pos h1.1]
          exact opY_sound hr' h1.2 fun v ov w' hK hv => all_sound hQ n _ _ w' _ (hr'.put o.dst hv) hK
        · rw [if_neg (by rw [h1.1]; simp)]
          exact ⟨fun _ _ => trivial, all_sound hQ n _ _ w _ (hr'.put o.dst (fun v' e => by simpa using e)) h1.2⟩
      · exact h0.elim
theorem vcAll_frame {P : Program} {ops : Array Oper} {K K' : AF → World → Prop} {f0 : AF} (hk : ∀ f w, Same (dsts ops.toList) f0 f → K f w → K' f w) : ∀ (n : Nat) (listed : Array Bool) (f : AF) (w : World), Same (dsts ops.toList) f0 f → vcAll P ops K n listed f w → vcAll P ops K' n listed f w
  | 0, listed, f, w, hs, h => by
    obtain ⟨h1, h2⟩ := onB_sound h
    unfold vcAll
    rw [h1]; exact hk _ _ hs h2
  | n + 1, listed, f, w, hs, h => by
    unfold vcAll at h ⊢
    split at h
    · exact hk _ _ hs h
    · refine allR_mono (fun i h => ?_) h
      split at h
      · rename_i o ho
        have hom : o ∈ ops.toList := by simpa using Array.mem_of_getElem? ho
        exact guarded_frame (fun g hg h => opVY_mono (fun v w h => vcAll_frame hk n _ _ w ((hs.trans hg).trans (Same.putD v fun d hd => mem_dsts hom hd)) h) h)
          (fun g hg h => vcAll_frame hk n _ _ w ((hs.trans hg).trans (Same.putD _ fun d hd => mem_dsts hom hd)) h) h
      · exact h.elim

/-! the statement -/
def AllB {β : Type} : (ks : List Ki) → FnK ks β → (List Value → β → Prop) → Prop
  | [], b, G => G [] b
  | k :: ks, b, G => ∀ x : k.T, AllB ks (b x) fun vs b => G (k.enc x :: vs) b
def lamB {β : Type} : (ks : List Ki) → (List Value → β) → FnK ks β
  | [], g => g []
  | k :: ks, g => fun x => lamB ks fun vs => g (k.enc x :: vs)
/-- a round begins: the record, which must be ready, is busy -/
def Beg (l : Nat) (rec : Nat → Obj) (w : World) (K : World → Prop) : Prop := w.heap[l]? = some (rec 0) ∧ K (w.putObj l (rec 1))
/-- a round ends off its body's end: the record is ready -/
def EndT (l : Nat) (rec : Nat → Obj) (w : World) (K : World → Prop) : Prop := w.heap[l]? = some (rec 1) ∧ K (w.putObj l (rec 0))
/-- a round ends by a return -/
def EndF (l : Nat) (rec : Nat → Obj) (w : World) (K : World → Prop) : Prop := w.heap[l]? = some (rec 1) ∧ K (w.putObj l (rec 2))
/-- a range over the function v: B is what a round comes to; K what follows where all rounds went to their ends, Kr where one returned -/
def Rng (P : Program) (v : Value) (ks : List Ki) (w : World) (B : Nat → (Nat → Obj) → FnK ks (World → (World → Prop) → (World → Prop) → Prop)) (K Kr : Nat → World → Prop) : Prop :=
  ∀ (rec : Nat → Obj) (yv : Value),
    (∀ (R : Bool → World → Prop) (w2 : World), AllB ks (B (w.heap.size + 1) rec) fun vs b => w2.heap[w.heap.size + 1]? = some (rec 0) → b w2 (R true) (R false) → ClY P yv [kB] vs w2 R) →
    ClV P v [] [yv] ((w.alloc (.deferred (some []))).alloc (rec 0)) fun w3 =>
      (w3.heap[w.heap.size + 1]? = some (rec 0) ∧ K w.heap.size (w3.putObj (w.heap.size + 1) (rec 3))) ∨ (w3.heap[w.heap.size + 1]? = some (rec 2) ∧ Kr w.heap.size (w3.putObj (w.heap.size + 1) (rec 4)))
theorem Rng_mono {P : Program} {v : Value} {ks : List Ki} {w : World} {B : Nat → (Nat → Obj) → FnK ks (World → (World → Prop) → (World → Prop) → Prop)} {K K' Kr Kr' : Nat → World → Prop} (h1 : ∀ D w, K D w → K' D w) (h2 : ∀ D w, Kr D w → Kr' D w)
    (h : Rng P v ks w B K Kr) : Rng P v ks w B K' Kr' := fun rec yv hy =>
  ClV_mono (ks := []) (g := fun _ w3 => (w3.heap[w.heap.size + 1]? = some (rec 0) ∧ K w.heap.size (w3.putObj (w.heap.size + 1) (rec 3))) ∨ (w3.heap[w.heap.size + 1]? = some (rec 2) ∧ Kr w.heap.size (w3.putObj (w.heap.size + 1) (rec 4))))
    (g' := fun _ w3 => (w3.heap[w.heap.size + 1]? = some (rec 0) ∧ K' w.heap.size (w3.putObj (w.heap.size + 1) (rec 3))) ∨ (w3.heap[w.heap.size + 1]? = some (rec 2) ∧ Kr' w.heap.size (w3.putObj (w.heap.size + 1) (rec 4))))
    (fun _ w h => h.elim (fun h => .inl ⟨h.1, h1 _ _ h.2⟩) (fun h => .inr ⟨h.1, h2 _ _ h.2⟩)) (h rec yv hy)
def setPs : AF → List Nat → List Value → Option AF
  | f, [], [] => some f
  | f, p :: ps, v :: vs => setPs (upd f p (some v)) ps vs
  | _, _, _ => none
/-- plans for this part -/
inductive PlanR where
  | o | s (p q : PlanR) | c (p q : PlanR) | b (p : PlanR) | l (live : List (Nat × Ki)) (p : PlanR) | r (ks : List Ki) (p q : PlanR)
def hasRng : Code → Bool
  | .seq a b => hasRng a || hasRng b
  | .cond _ a b => hasRng a || hasRng b
  | .block _ a => hasRng a
  | .loop a => hasRng a
  | .scope a => hasRng a
  | .rangeFunc _ _ _ _ => true
  | _ => false
def thenM (next : AF → List Nat → World → Prop) (Q : Exit → AF → List Nat → World → Prop) : Exit → AF → List Nat → World → Prop
  | .normal, f, ms, w => next f ms w
  | e, f, ms, w => Q e f ms w
def blockM (id : Nat) (Q : Exit → AF → List Nat → World → Prop) : Exit → AF → List Nat → World → Prop
  | .exit i, f, ms, w => match i == id with | true => Q .normal f ms w | false => Q (.exit i) f ms w
  | e, f, ms, w => Q e f ms w
def roundQ (l : Nat) (rec : Nat → Obj) (Kt Kf : World → Prop) : Exit → AF → List Nat → World → Prop
  | .normal, _, _, w => EndT l rec w Kt
  | .ret, _, _, w => EndF l rec w Kf
  | _, _, _, _ => False
def vcR (P : Program) (n : Nat) (rd : Bool) : Code → PlanR → (Exit → AF → List Nat → World → Prop) → AF → List Nat → World → Prop
  | .skip, _, Q, f, ms, w => Q .normal f ms w
  | .region _ ops d, _, Q, f, ms, w => match d, rd with
    | false, _ => vcOpsY P ops ops.toList f w fun f w => Q .normal f ms w
    | true, false => vcReg P ops true f w fun f w => Q .normal f ms w
    | true, true => Drw w fun w' => vcAll P ops (fun f w => Q .normal f ms w) ops.size (Array.replicate ops.size false) f w'
  | .seq x y, .s p q, Q, f, ms, w => vcR P n rd x p (thenM (fun f ms w => vcR P n rd y q Q f ms w) Q) f ms w
  | .cond c x y, .c p q, Q, f, ms, w => match ev f c with
    | some (.bool b) => IfB b (vcR P n rd x p Q f ms w) (vcR P n rd y q Q f ms w)
    | _ => False
  | .block id c, .b p, Q, f, ms, w => vcR P n rd c p (blockM id Q) f ms w
  | .loop c, .l live p, Q, f, ms, w => onB (lives live (writes c)) (match hasRng c with
    | false => ∃ (I : FnL live (World → Prop)) (m : FnL live (World → Nat)), leaf live I f w ∧
        allL live I m (forget (writes c) f) fun I0 m0 f => ∀ w, I0 w → vcR P n rd c p (thenM (fun f ms2 w' => ms2 = ms ∧ leafM live I m (m0 w) f w') Q) f ms w
    | true => ∃ (I : List Nat → FnL live (World → Prop)) (m : FnL live (World → Nat)), leaf live (I ms) f w ∧
        ∀ ms, allL live (I ms) m (forget (writes c) f) fun I0 m0 f => ∀ w, I0 w → vcR P n rd c p (thenM (fun f ms2 w' => leafM live (I ms2) m (m0 w) f w') Q) f ms w)
  | .rangeFunc g ps assign body, .r ks p q, Q, f, ms, w => match rd with
    | true => False
    | false => match ev f g with
      | some v => Rng P v ks w (fun l rec => lamB ks fun vs w2 Kt Kf => match setPs f ps.toList vs with
          | some f' => vcR P n true assign p (thenM (fun f ms w => Beg l rec w fun w => vcR P n true body q (roundQ l rec Kt Kf) f ms w) (fun _ _ _ _ => False)) f' [] w2
          | none => False) (fun D w' => Q .normal f (D :: ms) w') (fun D w' => Q .ret f (D :: ms) w')
      | none => False
  | .exit id, _, Q, f, ms, w => Q (.exit id) f ms w
  | .ret, _, Q, f, ms, w => Q .ret f ms w
  | .label _, _, Q, f, ms, w => Q .normal f ms w
  | _, _, _, _, _, _ => False
/-! what is shown may be weakened -/
theorem allL_imp {body body' : (World → Prop) → (World → Nat) → AF → Prop} : ∀ {l : List (Nat × Ki)} {I : FnL l (World → Prop)} {m : FnL l (World → Nat)} {g : AF}, (∀ I m g, body I m g → body' I m g) → allL l I m g body → allL l I m g body'
  | [], _, _, _, hb, h => hb _ _ _ h
  | (_, _) :: _, _, _, _, hb, h => fun x => allL_imp hb (h x)
theorem vcR_mono {P : Program} {n : Nat} {rd : Bool} : ∀ (c : Code) (p : PlanR) {Q Q' : Exit → AF → List Nat → World → Prop} {f0 : AF} (_ : ∀ e f ms w, Same (writes c) f0 f → Q e f ms w → Q' e f ms w) (ms : List Nat) (w : World), vcR P n rd c p Q f0 ms w → vcR P n rd c p Q' f0 ms w
  | .skip, _, _, _, _, hq, ms, w, h => hq _ _ _ _ (Same.refl _ _) h
  | .region _ ops d, _, _, _, _, hq, ms, w, h => by
    unfold vcR at h ⊢
    cases d
    · exact vcOpsY_frame (fun f w hs h => hq _ f ms w hs h) _ _ _ (fun _ h => h) (Same.refl _ _) h
    · cases rd
      · exact vcReg_frame (fun f w hs h => hq _ f ms w hs h) h
      · exact vcAll_frame (fun f w hs h => hq _ f ms w hs h) _ _ _ _ (Same.refl _ _) h
  | .seq x y, .s p q, Q, Q', f0, hq, ms, w, h => by
    refine vcR_mono x p (fun e f ms w hs h => ?_) ms w h
    have hs' : Same (writes (.seq x y)) f0 f := hs.mono fun s h => List.mem_append.2 (.inl h)
    cases e with
    | normal => exact vcR_mono y q (fun e f' ms w hs2 h => hq e f' ms w (hs'.trans (hs2.mono fun s h => List.mem_append.2 (.inr h))) h) ms w h
    | _ => exact hq _ f ms w hs' h
  | .cond c x y, .c p q, Q, Q', f0, hq, ms, w, h => by
    unfold vcR at h ⊢
    split at h
    · exact IfB_mono (vcR_mono x p (fun e f ms w hs h => hq e f ms w (hs.mono fun s h => List.mem_append.2 (.inl h)) h) ms w) (vcR_mono y q (fun e f ms w hs h => hq e f ms w (hs.mono fun s h => List.mem_append.2 (.inr h)) h) ms w) h
    · exact h.elim
  | .block id c, .b p, Q, Q', f0, hq, ms, w, h => by
    refine vcR_mono c p (fun e f ms w hs h => ?_) ms w h
    cases e with
    | exit i =>
      simp only [blockM] at h ⊢
      split at h
      · exact hq _ f ms w hs h
      · exact hq _ f ms w hs h
    | _ => exact hq _ f ms w hs h
  | .loop c, .l live p, Q, Q', f0, hq, ms, w, h => by
    unfold vcR at h ⊢
    obtain ⟨hl, h⟩ := onB_sound h
    rw [hl]
    show (match hasRng c with | false => _ | true => _ : Prop)
    cases hc : hasRng c with
    | false =>
      rw [hc] at h
      obtain ⟨I, m, h0, h1⟩ := h
      refine ⟨I, m, h0, allL_imp (fun I0 m0 g hb w hI => ?_) (allL_same (fun s k hk => Same.lams hl hk) (fun s hs => get_forget hs) h1)⟩
      refine vcR_mono c p (fun e f' ms' w hs2 h => ?_) ms w (hb.2 w hI)
      cases e with
      | normal => exact h
      | _ => exact hq _ f' ms' w (hb.1.trans hs2) h
    | true =>
      rw [hc] at h
      obtain ⟨I, m, h0, h1⟩ := h
      refine ⟨I, m, h0, fun ms => allL_imp (fun I0 m0 g hb w hI => ?_) (allL_same (fun s k hk => Same.lams hl hk) (fun s hs => get_forget hs) (h1 ms))⟩
      refine vcR_mono c p (fun e f' ms' w hs2 h => ?_) ms w (hb.2 w hI)
      cases e with
      | normal => exact h
      | _ => exact hq _ f' ms' w (hb.1.trans hs2) h
  | .rangeFunc g ps assign body, .r ks p q, Q, Q', f0, hq, ms, w, h => by
    unfold vcR at h ⊢
    cases rd
    · simp only at h ⊢
      split at h
      · exact Rng_mono (fun D w h => hq _ _ _ _ (Same.refl _ _) h) (fun D w h => hq _ _ _ _ (Same.refl _ _) h) h
      · exact h.elim
    · exact h.elim
  | .exit id, _, _, _, _, hq, ms, w, h => hq _ _ _ _ (Same.refl _ _) h
  | .ret, _, _, _, _, hq, ms, w, h => hq _ _ _ _ (Same.refl _ _) h
  | .label _, _, _, _, _, hq, ms, w, h => hq _ _ _ _ (Same.refl _ _) h
  | .seq _ _, .o, _, _, _, _, _, _, h => h.elim
  | .seq _ _, .c _ _, _, _, _, _, _, _, h => h.elim
  | .seq _ _, .b _, _, _, _, _, _, _, h => h.elim
  | .seq _ _, .l _ _, _, _, _, _, _, _, h => h.elim
  | .seq _ _, .r _ _ _, _, _, _, _, _, _, h => h.elim
  | .cond _ _ _, .o, _, _, _, _, _, _, h => h.elim
  | .cond _ _ _, .s _ _, _, _, _, _, _, _, h => h.elim
  | .cond _ _ _, .b _, _, _, _, _, _, _, h => h.elim
  | .cond _ _ _, .l _ _, _, _, _, _, _, _, h => h.elim
  | .cond _ _ _, .r _ _ _, _, _, _, _, _, _, h => h.elim
  | .block _ _, .o, _, _, _, _, _, _, h => h.elim
  | .block _ _, .s _ _, _, _, _, _, _, _, h => h.elim
  | .block _ _, .c _ _, _, _, _, _, _, _, h => h.elim
  | .block _ _, .l _ _, _, _, _, _, _, _, h => h.elim
  | .block _ _, .r _ _ _, _, _, _, _, _, _, h => h.elim
  | .loop _, .o, _, _, _, _, _, _, h => h.elim
  | .loop _, .s _ _, _, _, _, _, _, _, h => h.elim
  | .loop _, .c _ _, _, _, _, _, _, _, h => h.elim
  | .loop _, .b _, _, _, _, _, _, _, h => h.elim
  | .loop _, .r _ _ _, _, _, _, _, _, _, h => h.elim
  | .rangeFunc _ _ _ _, .o, _, _, _, _, _, _, h => h.elim
  | .rangeFunc _ _ _ _, .s _ _, _, _, _, _, _, _, h => h.elim
  | .rangeFunc _ _ _ _, .c _ _, _, _, _, _, _, _, h => h.elim
  | .rangeFunc _ _ _ _, .b _, _, _, _, _, _, _, h => h.elim
  | .rangeFunc _ _ _ _, .l _ _, _, _, _, _, _, _, h => h.elim
  | .scope _, _, _, _, _, _, _, _, h => h.elim
  | .goto _, _, _, _, _, _, _, _, h => h.elim
  | .refuse _, _, _, _, _, _, _, _, h => h.elim

/-! soundness -/
theorem decRes_nil {v : Value} {w : World} {K : World → Prop} (h : decRes [] v K w) : K w := by
  cases v with
  | tuple us =>
    obtain ⟨us⟩ := us
    cases us with
    | nil => exact h
    | cons => exact h.elim
  | _ => exact h.elim
def mark (r : Nat) : Deferred := { target := .collected r, args := #[] }
def onM {nn : Nat} (Q : Exit → AF → List Nat → World → Prop) (e : Exit) (a : Act) (w : World) : Prop := ∃ f ms, Rel nn (ms.map mark) a f ∧ Q e f ms w
theorem allB_intro {β : Type} : ∀ {ks : List Ki} {g : List Value → β} {G : List Value → β → Prop}, (∀ vs, G vs (g vs)) → AllB ks (lamB ks g) G
  | [], _, _, h => h []
  | _ :: _, _, _, h => fun x => allB_intro fun vs => h _
theorem setPs_rel : ∀ {ps : List Nat} {vs : List Value} {f f' : AF} {tmps : Array Value} {d : List Deferred}, Rel nn dfs { tmps := tmps, defers := d } f → setPs f ps vs = some f' →
    ps.length = vs.length ∧ Rel nn dfs { tmps := (ps.zip vs).foldl (fun tmps (t, a) => tmps.setIfInBounds t a) tmps, defers := d } f'
  | [], [], f, f', tmps, d, hr, h => by
    simp only [setPs, Option.some.injEq] at h
    subst h
    exact ⟨rfl, hr⟩
  | p :: ps, v :: vs, f, f', tmps, d, hr, h => by
    obtain ⟨h1, h2⟩ := setPs_rel (hr.upd p (some v) v (fun v' e => by simpa using e)) h
    exact ⟨by simp [h1], h2⟩
  | [], _ :: _, _, _, _, _, _, h => by cases h
  | _ :: _, [], _, _, _, _, _, h => by cases h
theorem vcR_sound {P : Program} (hm : P.follows .mixedOrders = true) : ∀ (c : Code) (p : PlanR) (rd : Bool) (ro : Option Nat) (_ : ro.isSome = rd) (k : Nat) (Q : Exit → AF → List Nat → World → Prop) (f : AF) (ms : List Nat) (w : World) (a : Act),
    Rel nn (ms.map mark) a f → vcR P nn rd c p Q f ms w → c.wpIn (FW ro) k P (onM (nn := nn) Q) a w
  | .skip, _, rd, ro, hro, k, Q, f, ms, w, a, hr, h => wpIn_skip ⟨f, ms, hr, h⟩
  | .region _ ops d, _, rd, ro, hro, k, Q, f, ms, w, a, hr, h => by
    unfold vcR at h
    cases d
    · exact wpIn_region_list (opsY_sound (K := fun f w => Q .normal f ms w) (fun a f w hr h => ⟨f, ms, hr, h⟩) _ _ _ _ hr h)
    · cases rd
      · cases ro with
        | some l => cases hro
        | none => exact wpIn_wide.2 (reg_sound hm (K := fun f w => Q .normal f ms w) (fun a f w hr h => ⟨f, ms, hr, h⟩) hr h)
      · exact wpIn_region_any hm (all_sound (K := fun f w => Q .normal f ms w) (fun a f w hr h => ⟨f, ms, hr, h⟩) _ _ _ _ _ hr h)
  | .seq x y, .s p q, rd, ro, hro, k, Q, f, ms, w, a, hr, h => by
    refine wpIn_seq (Go.wpIn_mono (vcR_sound hm x p rd ro hro k _ f ms w a hr h) fun e a w ⟨f', ms', hr', h'⟩ => ?_)
    cases e with
    | normal => exact vcR_sound hm y q rd ro hro k Q f' ms' w a hr' h'
    | _ => exact ⟨f', ms', hr', h'⟩
  | .cond c x y, .c p q, rd, ro, hro, k, Q, f, ms, w, a, hr, h => by
    unfold vcR at h
    split at h
    · rename_i b hb
      refine wpIn_cond (hr.ev hb) ?_
      cases b
      · exact vcR_sound hm y q rd ro hro k Q f ms w a hr h
      · exact vcR_sound hm x p rd ro hro k Q f ms w a hr h
    · exact h.elim
  | .block id c, .b p, rd, ro, hro, k, Q, f, ms, w, a, hr, h => by
    refine wpIn_block (Go.wpIn_mono (vcR_sound hm c p rd ro hro k _ f ms w a hr h) fun e a w ⟨f', ms', hr', h'⟩ => ?_)
    cases e with
    | exit i =>
      simp only [Exit.inBlock]
      simp only [blockM] at h'
      by_cases hi : i = id
      · subst hi; simp at h'; simp only [if_true]; exact ⟨f', ms', hr', h'⟩
      · have : (i == id) = false := by simpa using hi
        rw [this] at h'; rw [if_neg hi]; exact ⟨f', ms', hr', h'⟩
    | _ => exact ⟨f', ms', hr', h'⟩
  | .loop c, .l live p, rd, ro, hro, k, Q, f, ms, w, a, hr, h => by
    unfold vcR at h
    obtain ⟨hl, h⟩ := onB_sound h
    have hsh := hr.shape
    cases hc : hasRng c with
    | false =>
      rw [hc] at h
      obtain ⟨I, m, h0, hall⟩ := h
      refine Go.wpIn_loop (fun a w => ∃ f', Rel nn (ms.map mark) a f' ∧ leaf live I f' w ∧ Same (writes c) f f') (fun a w => measA a w live m) ⟨f, hr, h0, Same.refl _ _⟩ fun a w ⟨f1, hr, hI, hs⟩ => ?_
      obtain ⟨I0, m0, g, hg, h1, ⟨hgs, h2⟩, h3⟩ := leaf_all hr live I m _ (hr.keep hsh hs) hI (allL_same (fun s k hk => Same.lams hl hk) (fun s hs => get_forget hs) hall)
      have h4 := vcR_mono c p (Q' := fun e f' ms' w' => thenM (fun f ms2 w' => ms2 = ms ∧ leafM live I m (m0 w) f w') Q e f' ms' w' ∧ Same (writes c) g f') (fun e f' ms' w hs h => ⟨h, hs⟩) ms w (h2 w h1)
      refine Go.wpIn_mono (vcR_sound hm c p rd ro hro k _ g ms w a hg h4) fun e a' w' ⟨f', ms', hr', h', hs'⟩ => ?_
      cases e with
      | normal =>
        obtain ⟨e, h'⟩ := h'
        subst e
        refine ⟨⟨f', hr', leafM_leaf h', hgs.trans hs'⟩, ?_⟩
        have := leafM_meas hr' h'
        simp only [h3]
        exact this
      | _ => exact ⟨f', ms', hr', h'⟩
    | true =>
      rw [hc] at h
      obtain ⟨I, m, h0, hall⟩ := h
      refine Go.wpIn_loop (fun a w => ∃ f' ms', Rel nn (ms'.map mark) a f' ∧ leaf live (I ms') f' w ∧ Same (writes c) f f') (fun a w => measA a w live m) ⟨f, ms, hr, h0, Same.refl _ _⟩ fun a w ⟨f1, ms1, hr, hI, hs⟩ => ?_
      obtain ⟨I0, m0, g, hg, h1, ⟨hgs, h2⟩, h3⟩ := leaf_all hr live (I ms1) m _ (hr.keep hsh hs) hI (allL_same (fun s k hk => Same.lams hl hk) (fun s hs => get_forget hs) (hall ms1))
      have h4 := vcR_mono c p (Q' := fun e f' ms' w' => thenM (fun f ms2 w' => leafM live (I ms2) m (m0 w) f w') Q e f' ms' w' ∧ Same (writes c) g f') (fun e f' ms' w hs h => ⟨h, hs⟩) ms1 w (h2 w h1)
      refine Go.wpIn_mono (vcR_sound hm c p rd ro hro k _ g ms1 w a hg h4) fun e a' w' ⟨f', ms', hr', h', hs'⟩ => ?_
      cases e with
      | normal =>
        refine ⟨⟨f', ms', hr', leafM_leaf h', hgs.trans hs'⟩, ?_⟩
        have := leafM_meas hr' h'
        simp only [h3]
        exact this
      | _ => exact ⟨f', ms', hr', h'⟩
  | .rangeFunc g ps assign body, .r ks p q, rd, ro, hro, k, Q, f, ms, w, a, hr, h => by
    unfold vcR at h
    cases rd
    · cases ro with
      | some l => cases hro
      | none =>
        simp only at h
        split at h
        · rename_i v hv
          refine wpIn_rangeFunc fun fn _ => ?_
          have hcl := h (fun i => .loop (match i with
              | 0 => { state := .ready, pending := none, fn, tmps := a.tmps, params := ps, assign, body, defers := w.heap.size }
              | 1 => { state := .busy, pending := none, fn, tmps := a.tmps, params := ps, assign, body, defers := w.heap.size }
              | 2 => { state := .done, pending := some .ret, fn, tmps := a.tmps, params := ps, assign, body, defers := w.heap.size }
              | 3 => { state := .exhausted, pending := none, fn, tmps := a.tmps, params := ps, assign, body, defers := w.heap.size }
              | _ => { state := .exhausted, pending := some .ret, fn, tmps := a.tmps, params := ps, assign, body, defers := w.heap.size }))
            (.func (.yield (w.heap.size + 1)) #[] #[]) (fun R w2 => allB_intro fun vs hrec hB => ?_)
          · unfold ClV at hcl
            split at hcl
            · rename_i i first captured
              obtain ⟨hok, hc⟩ := onB_sound hcl
              have he := run_enterLoop_outer (P := P) (w := w) fn a.tmps ps assign body
              obtain ⟨w1, hw1⟩ : ∃ w1, w1 = (w.alloc (.deferred (some []))).alloc (.loop { state := .ready, pending := none, fn, tmps := a.tmps, params := ps, assign, body, defers := w.heap.size }) := ⟨_, rfl⟩
              rw [← hw1] at he
              refine ⟨w.heap.size + 1, [mark w.heap.size], w1, { target := .fn (.func i) captured, args := first ++ #[.func (.yield (w.heap.size + 1)) #[] #[]] }, w1, i, ⟨first.toList ++ [.func (.yield (w.heap.size + 1)) #[] #[]] ++ captured.toList⟩, w1,
                he, ?_, fun _ _ => trivial, ?_, fun hh => (by cases hh), ?_⟩
              · have hg := hr.ev hv
                simp only [resolve, hg, Deferred.ofValue, Sem.run_pure]
                simp [Act.eval]
              · have hcc := okCall_run (P := P) hok
                have e : (first ++ #[Value.func (.yield (w.heap.size + 1)) #[] #[]]) ++ captured = ⟨first.toList ++ [.func (.yield (w.heap.size + 1)) #[] #[]] ++ captured.toList⟩ := by
                  apply Array.ext'; simp
                simp only [invoke, e]
                exact hcc _ _
              · refine (callsIn_wide (n := k - 1)).2 ?_
                rw [hw1]
                refine Calls.mono hc fun e w3 hp => ?_
                have hrel : Rel nn ((w.heap.size :: ms).map mark) { a with defers := [mark w.heap.size] ++ a.defers } f := ⟨hr.size, hr.shape, by simp [hr.defs], hr.val⟩
                cases e with
                | returned v' =>
                  have hp := decRes_nil hp
                  rcases hp with ⟨h1, h2⟩ | ⟨h1, h2⟩
                  · exact ⟨none, _, run_endLoop h1 (by simp), ⟨f, _, hrel, h2⟩⟩
                  · exact ⟨some .ret, _, run_endLoop h1 (by simp), wpIn_ret ⟨f, _, hrel, h2⟩⟩
                | panicked => exact hp.elim
                | outgrown => exact hp.elim
            · exact hcl.elim
          · split at hB
            · rename_i f' hf'
              have hr0 : Rel nn [] { tmps := a.tmps, defers := [] } f := ⟨hr.size, hr.shape, rfl, hr.val⟩
              obtain ⟨hlen, hrel⟩ := setPs_rel hr0 hf'
              have hz : (ps.zip (⟨vs⟩ : Array Value)).foldl (fun tmps (t, a) => tmps.setIfInBounds t a) a.tmps = (ps.toList.zip vs).foldl (fun tmps (t, a) => tmps.setIfInBounds t a) a.tmps := by
                rw [← Array.foldl_toList]; simp
              refine ⟨fn, _, assign, body, run_yield hrec (by simpa using hlen.symm), ?_⟩
              refine RoundIn.mono (R := fun e w' => ∃ b, e = .returned (.bool b) ∧ R b w') ?_ fun e w' ⟨b, h1, h2⟩ => ⟨b, h1, h2⟩
              refine roundIn_of_wpIn trivial ?_
              simp only [List.nil_append, hz]
              refine Go.wpIn_mono (vcR_sound hm assign p true (some (w.heap.size + 1)) rfl 0 _ f' [] w2 _ hrel hB) fun e a1 w1 ⟨f1, ms1, hr1, h1⟩ => ?_
              cases e with
              | normal =>
                obtain ⟨h2, h3⟩ := h1
                refine ⟨_, run_beginRound h2 rfl, ?_⟩
                refine Go.wpIn_mono (vcR_sound hm body q true (some (w.heap.size + 1)) rfl 0 _ f1 ms1 _ _ hr1 h3) fun e a2 w4 ⟨f2, ms2, hr2, h4⟩ => ?_
                cases e with
                | normal =>
                  obtain ⟨h5, h6⟩ := h4
                  exact ⟨_, _, run_endRound none h5, true, rfl, h6⟩
                | ret =>
                  obtain ⟨h5, h6⟩ := h4
                  exact ⟨_, _, run_endRound (some .ret) h5, false, rfl, h6⟩
                | exit id => exact h4.elim
                | goto t => exact h4.elim
                | panic c => exact h4.elim
                | outgrown => exact h4.elim
              | exit id => exact h1.elim
              | goto t => exact h1.elim
              | ret => exact h1.elim
              | panic c => exact h1.elim
              | outgrown => exact h1.elim
            · exact hB.elim
        · exact h.elim
    · exact h.elim
  | .exit id, _, rd, ro, hro, k, Q, f, ms, w, a, hr, h => wpIn_exit ⟨f, ms, hr, h⟩
  | .ret, _, rd, ro, hro, k, Q, f, ms, w, a, hr, h => wpIn_ret ⟨f, ms, hr, h⟩
  | .label _, _, rd, ro, hro, k, Q, f, ms, w, a, hr, h => wpIn_label ⟨f, ms, hr, h⟩
  | .seq _ _, .o, _, _, _, _, _, _, _, _, _, _, h => h.elim
  | .seq _ _, .c _ _, _, _, _, _, _, _, _, _, _, _, h => h.elim
  | .seq _ _, .b _, _, _, _, _, _, _, _, _, _, _, h => h.elim
  | .seq _ _, .l _ _, _, _, _, _, _, _, _, _, _, _, h => h.elim
  | .seq _ _, .r _ _ _, _, _, _, _, _, _, _, _, _, _, h => h.elim
  | .cond _ _ _, .o, _, _, _, _, _, _, _, _, _, _, h => h.elim
  | .cond _ _ _, .s _ _, _, _, _, _, _, _, _, _, _, _, h => h.elim
  | .cond _ _ _, .b _, _, _, _, _, _, _, _, _, _, _, h => h.elim
  | .cond _ _ _, .l _ _, _, _, _, _, _, _, _, _, _, _, h => h.elim
  | .cond _ _ _, .r _ _ _, _, _, _, _, _, _, _, _, _, _, h => h.elim
  | .block _ _, .o, _, _, _, _, _, _, _, _, _, _, h => h.elim
  | .block _ _, .s _ _, _, _, _, _, _, _, _, _, _, _, h => h.elim
  | .block _ _, .c _ _, _, _, _, _, _, _, _, _, _, _, h => h.elim
  | .block _ _, .l _ _, _, _, _, _, _, _, _, _, _, _, h => h.elim
  | .block _ _, .r _ _ _, _, _, _, _, _, _, _, _, _, _, h => h.elim
  | .loop _, .o, _, _, _, _, _, _, _, _, _, _, h => h.elim
  | .loop _, .s _ _, _, _, _, _, _, _, _, _, _, _, h => h.elim
  | .loop _, .c _ _, _, _, _, _, _, _, _, _, _, _, h => h.elim
  | .loop _, .b _, _, _, _, _, _, _, _, _, _, _, h => h.elim
  | .loop _, .r _ _ _, _, _, _, _, _, _, _, _, _, _, h => h.elim
  | .rangeFunc _ _ _ _, .o, _, _, _, _, _, _, _, _, _, _, h => h.elim
  | .rangeFunc _ _ _ _, .s _ _, _, _, _, _, _, _, _, _, _, _, h => h.elim
  | .rangeFunc _ _ _ _, .c _ _, _, _, _, _, _, _, _, _, _, _, h => h.elim
  | .rangeFunc _ _ _ _, .b _, _, _, _, _, _, _, _, _, _, _, h => h.elim
  | .rangeFunc _ _ _ _, .l _ _, _, _, _, _, _, _, _, _, _, _, h => h.elim
  | .scope _, _, _, _, _, _, _, _, _, _, _, _, h => h.elim
  | .goto _, _, _, _, _, _, _, _, _, _, _, _, h => h.elim
  | .refuse _, _, _, _, _, _, _, _, _, _, _, _, h => h.elim

/-! functions -/
/-- the blocks for deferred calls are shut at the return -/
def Dfr : List Nat → World → (World → Prop) → Prop
  | [], w, K => K w
  | r :: rs, w, K => w.heap[r]? = some (.deferred (some [])) ∧ Dfr rs (w.putObj r (.deferred none)) K
def retM (P : Program) (rs : List ResultVar) (ks : List Ki) (K : FnK ks (World → Prop)) : Exit → AF → List Nat → World → Prop
  | .normal, f, ms, w | .ret, f, ms, w => Dfr ms w fun w => RetV P rs f w [] fun vs => decRes ks (resVal vs) K w
  | _, _, _, _ => False
theorem calls_of_vcR {P : Program} (hm : P.follows .mixedOrders = true) {i : FuncId} {fn : Func} {c : Code} {args : List Value} {w : World} {ks : List Ki} {K : FnK ks (World → Prop)} (n : Nat) (rs : List ResultVar)
    (hf : P.funcs[i]? = some fn) (hb : fn.body = some c) (hn : fn.ntmps = n) (hl : args.length ≤ n) (hrs : fn.results.toList = rs) (p : PlanR) (h : vcR P n false c p (retM P rs ks K) (initF args n) [] w) : Cl P ks i ⟨args⟩ w K := by
  refine (callsIn_wide (n := 0)).1 (callsIn_of_wp_marks (F := Fence.wide) hf hb trivial ?_)
  subst hn; subst hrs
  have hsz : ((⟨args⟩ : Array Value) ++ Array.replicate (fn.ntmps - (⟨args⟩ : Array Value).size) undef).size = fn.ntmps := by simp; omega
  have hr : Rel fn.ntmps (([] : List Nat).map mark) { tmps := (⟨args⟩ : Array Value) ++ Array.replicate (fn.ntmps - (⟨args⟩ : Array Value).size) undef, defers := [] } (initF args fn.ntmps) := by
    refine ⟨hsz, fun i hi => has_bld _ _ _ _ hi, rfl, fun i v hv => ?_⟩
    have h1 := get_bld _ _ _ _ _ hv
    simp only [Option.some.injEq] at h1
    have hi : i < fn.ntmps := has_bld _ _ _ _ (get_has hv)
    simp only [Array.getD_eq_getD_getElem?]
    have h2 : ((⟨args⟩ : Array Value) ++ Array.replicate (fn.ntmps - (⟨args⟩ : Array Value).size) undef)[i]? = (args ++ List.replicate (fn.ntmps - args.length) undef)[i]? := by
      rw [← Array.getElem?_toList]
      simp
    rw [h2, ← h1]
    by_cases ha : i < args.length
    · simp [List.getElem?_append_left ha, List.getD_eq_getElem?_getD]
    · rw [List.getElem?_append_right (by omega), List.getElem?_replicate]
      rw [if_pos (by omega)]
      simp [List.getD_eq_getElem?_getD, List.getElem?_eq_none (by omega : args.length ≤ i)]
  refine Go.wpIn_mono (vcR_sound hm c p false none rfl 0 _ _ [] w _ hr h) fun e a w' ⟨f, ms, hr, hq⟩ => ?_
  have fin : ∀ (ms : List Nat) (w' : World), (Dfr ms w' fun w => RetV P fn.results.toList f w [] fun vs => decRes ks (resVal vs) K w) → LeavesInM Fence.wide 0 P fn a.tmps (resPost ks K) (ms.map mark) .returning w' := by
    intro ms
    induction ms with
    | nil =>
      intro w' hq
      obtain ⟨vs, h1, h2⟩ := RetV_sound hr _ _ hq
      refine ⟨resVal vs, ?_, h2⟩
      rw [results_eq, Array.mapM_eq_mapM_toList]
      simp only [Sem.run_bind, Sem.run_map, h1, Result.andThen_ok, Sem.run_pure]
      congr 1
      match vs with
      | [] => rfl
      | [v] => rfl
      | a :: b :: l => simp [resVal]
    | cons r ms ih =>
      intro w' hq
      exact ⟨by simp, .inl ⟨r, _, rfl, run_takeDeferred hq.1, ih _ hq.2⟩⟩
  have hd := hr.defs
  cases e <;> first | exact hq.elim | (show LeavesInM _ _ _ _ _ _ a.defers _ _; rw [hd]; exact fin ms w' hq)
theorem calls_of_eqR {P : Program} (hm : P.follows .mixedOrders = true) {i : FuncId} {w : World} {F : Prop} (fn : Func) (args : List Value) (ks : List Ki) (K : FnK ks (World → Prop)) (n : Nat) (rs : List ResultVar)
    (hf : P.funcs[i]? = some fn) (hb : fn.body = some (fn.body.getD .skip)) (hn : fn.ntmps = n) (hl : Nat.ble args.length n = true) (hrs : fn.results.toList = rs) (p : PlanR)
    (he : vcR P n false (fn.body.getD .skip) p (retM P rs ks K) (initF args n) [] w = F) (h : F) : Cl P ks i ⟨args⟩ w K :=
  calls_of_vcR hm n rs hf hb hn (Nat.le_of_ble_eq_true hl) hrs p (he ▸ h)
end
end Go.Vc
