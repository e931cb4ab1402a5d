/- Texts packed together by program; spaces struck by program. Conditions: as each theorem states. -/
import Derived.Carry
import Derived.Laws.AppendOwn
import Derived.Laws.BytesArg
import Derived.Laws.CopyRow
import Derived.Laws.IdiomCopy
import Derived.Laws.IdiomStrings
import Derived.Laws.MakeOwn
import Derived.Lib.BytesEntry
import Derived.Lib.MakeNoZero
import Derived.MapKept
import Derived.OpenShut
import Derived.OrdersIn
import Derived.ProofKit
import Derived.RangeFuncRecord
import Derived.ScopeJumps
import Derived.SizedLaws
import Derived.TacticsIn
import Derived.Test.YtgglghjnakclmaaGreatChecked
import Derived.Test.YtgglghjnakclmaaGreatQca
set_option linter.unusedSimpArgs false
set_option linter.unusedVariables false
namespace Go.Vc
open Go
noncomputable section
variable {nn:Nat} {dfs:List Deferred}
abbrev FW (ro:Option Nat):Fence:={Fence.wide with round:=ro}
def KG (P:Program) (l:Nat) (args:List Value) (w:World) (K:Bool→World→Prop):Prop:=
 ∃fn tmps assign body,(Instr.yield l ⟨args⟩).run P w= .ok (.round l fn tmps assign body) w∧
  RoundIn Fence.wide 0 P l fn tmps assign body w fun e w'=> ∃b,e= .returned (.bool b)∧K b w'
def ln (P:Program) (v:Value) (ks:List Ki) (args:List Value) (w:World) (K:eu ks (World→Prop)):Prop:=
 match v with
 | .func (.func i) first captured=>db P (.func (.func i) first captured) ks args w K
 | .func (.yield l) first _=>KG P l (first.toList++args) w fun b w'=>fm ks (.bool b) K w'
 |_=>False
def tS (P:Program) (f:AF) (o:Oper) (w:World) (K:Option Value→World→Prop):Prop:=
 match o.op with
 | .call c=>match c.callee with
  | .value x=>match ev f x,mS f c.args.toList,vy P o.type with
   |some v,some vs,some ks=>ln P v ks vs w (ey ks [] fun us w'=>K (some (dp us)) w')
   |_,_,_=>False
  |_=>fB P f o w K
 |_=>fB P f o w K
theorem GJ {P:Program} {l:Nat} {args:List Value} {w:World} {K K':Bool→World→Prop} (h1: ∀b w,K b w→K' b w) (h:KG P l args w K):KG P l args w K':=by
 obtain ⟨fn,tmps,assign,body,h2,h3⟩:=h
 exact ⟨fn,tmps,assign,body,h2,h3.mono fun e w' ⟨b,e1,e2⟩=>⟨b,e1,h1 _ _ e2⟩⟩
theorem GD {P:Program} {v:Value} {ks:List Ki} {args:List Value} {w:World} {g g':List Value→World→Prop} (h1: ∀vs w,g vs w→g' vs w) (h:ln P v ks args w (ey ks [] g)):ln P v ks args w (ey ks [] g'):=by
 unfold ln at h⊢
 split at h
 ·exact Ad (v:= .func (.func _) _ _) h1 h
 ·exact GJ (fun b w h=>eX (fun vs h=>h1 vs w h) h) h
 ·exact h.elim
theorem yn {P:Program} {f:AF} {o:Oper} {w:World} {K K':Option Value→World→Prop} (h1: ∀v w,K v w→K' v w) (h:tS P f o w K):tS P f o w K':=by
 unfold tS at h⊢
 split at h
 ·split at h
  ·split at h
   ·exact GD (fun vs w h=>h1 _ _ h) h
   ·exact h.elim
  ·exact cu h1 h
 ·exact cu h1 h
theorem Dm {P:Program} {ro:Option Nat} {n:Nat} {o:Oper} {a:Act} {w:World} {next:Act→World→Prop} {Q:Exit→Act→World→Prop} (hd: ∀c,o.op≠ .defer c) (h:o.wp P a w next Q):o.wpIn (FW ro) n P a w next Q:=by
 refine ⟨fun _ _=>trivial,?_⟩
 have e:o.semAt (FW ro).round a.eval=execOp a.eval o:=by
  cases ro with
  |none=>rfl
  |some l=>exact Oper.semAt_some l _ _ hd
 rw [e]
 unfold Oper.wp at h
 generalize (execOp a.eval o).run P w=r at h
 cases r with
 |ok x w'=>
  cases x<;>simp only [Oper.upon] at h<;>first|exact h.elim|exact h|skip
  ·exact ⟨fun hh=>(by cases hh),(callsIn_wide (n:=n - 1)).2 (h.mono fun e w'' he=>by cases e<;>exact he)⟩
  ·refine ⟨fun hh=>(by cases hh),fun c cs _=> ?_⟩
   obtain ⟨v,w',hr,hs⟩:=h c cs
   exact ⟨v,w',hr,stepsIn_wide.2 hs⟩
 |halt x w'=>cases x<;>simp only [Oper.upon] at h<;>first|exact h.elim|exact h
theorem xH {P:Program} {ro:Option Nat} {n:Nat} {w:World} {a:Act} {f:AF} (hr:Rel nn dfs a f) {o:Oper} {K:Option Value→World→Prop} (h:tS P f o w K)
  {next:Act→World→Prop} {Q:Exit→Act→World→Prop} (hn: ∀v ov w',K ov w'→(∀v',ov=some v'→v=v')→next (a.put o.dst v) w'):o.wpIn (FW ro) n P a w next Q:=by
 obtain ⟨dst,op,ty,pos,after,guard⟩:=o
 unfold tS at h
 simp only at h hn
 have plain:fB P f ⟨dst,op,ty,pos,after,guard⟩ w K→(∀c,op≠ .defer c)→Oper.wpIn (FW ro) n P ⟨dst,op,ty,pos,after,guard⟩ a w next Q:=fun h hd=>Dm hd (nF hr h hn)
 split at h
 ·rename_i c
  split at h
  ·rename_i x hx0
   split at h
   ·rename_i v vs ks hx hvs hks
    obtain ⟨callee,args,tys⟩:=c
    simp only at hx0 hvs
    subst hx0
    have cv:db P v ks vs w (ey ks [] fun us w'=>K (some (dp us)) w')→Oper.wpIn (FW ro) n P ⟨dst,.call ⟨.value x,args,tys⟩,ty,pos,after,guard⟩ a w next Q:=fun h=>by
     refine plain ?_ (fun c=>by simp)
     unfold fB
     simp only [dj,oh,hx,hvs,hks]
     exact h
    unfold ln at h
    split at h
    ·exact cv h
    ·rename_i l first captured
     obtain ⟨fn,tmps,assign,body,h1,h2⟩:=h
     refine ⟨fun _ _=>trivial,?_⟩
     have e:Oper.semAt (FW ro).round a.eval ⟨dst,.call ⟨.value x,args,tys⟩,ty,pos,after,guard⟩=execOp a.eval ⟨dst,.call ⟨.value x,args,tys⟩,ty,pos,after,guard⟩:=by
      cases ro with
      |none=>rfl
      |some l=>exact Oper.semAt_some l _ _ (fun c=>by simp)
     have he:(execOp a.eval ⟨dst,.call ⟨.value x,args,tys⟩,ty,pos,after,guard⟩).run P w= .ok (.round l fn tmps assign body) w:=by
      simp only [execOp,resolve,Sem.run_bind,hr.ev hx,Deferred.ofValue,Sem.run_pure,Result.andThen_ok,invoke,gj hr hvs]
      rw [←h1]
      congr 2
      cases first;simp
     rw [e,he]
     refine ⟨fun hh=>(by cases hh),?_⟩
     refine RoundIn.mono (R:=fun e w'=> ∃b,e= .returned (.bool b)∧fm ks (.bool b) (ey ks [] fun us w'=>K (some (dp us)) w') w') ⟨h2.1,fun c cs _=>h2.2 c cs (room_wide _)⟩ ?_
     rintro e w' ⟨b,rfl,hb⟩
     obtain ⟨us,e1,e2⟩:=fD hb
     have:=hn (.bool b) (some (dp us)) w' e2 (fun v' e=>by rw [e1];simpa using e)
     exact this
    ·exact h.elim
   ·exact h.elim
  ·refine plain h (fun c=>by simp)
 ·rename_i op' hop
  refine plain h (fun c hc=> ?_)
  subst hc
  unfold fB at h
  simp only [dj,oh] at h
def pe (P:Program) (ops:Array Oper):List Oper→AF→World→(AF→World→Prop)→Prop
 | [],f,w,K=>K f w
 |o::rest,f,w,K=>guarded ops o f (fun f=>tS P f o w fun v w'=>pe P ops rest (ba f o.dst v) w' K) (fun f=>pe P ops rest (ba f o.dst (some undef)) w K)
theorem qa {P:Program} {ro:Option Nat} {n:Nat} {ops:Array Oper} {Q:Exit→Act→World→Prop} {K:AF→World→Prop} (hQ: ∀a f w,Rel nn dfs a f→K f w→Q .normal a w):
  ∀(l:List Oper) (f:AF) (w:World) (a:Act),Rel nn dfs a f→pe P ops l f w K→wpListIn (FW ro) n P ops Q l a w
 | [],f,w,a,hr,h=>hQ a f w hr h
 |o::rest,f,w,a,hr,h=>by
  obtain ⟨f',hr',h1|h1⟩:=cV hr h
  ·simp only [wpListIn,h1.1,if_true]
   exact xH hr' h1.2 fun v ov w' hK hv=>qa hQ rest _ w' _ (hr'.put o.dst hv) hK
  ·simp only [wpListIn,h1.1]
   exact ⟨fun _ _=>trivial,qa hQ rest _ w _ (hr'.put o.dst (fun v' e=>by simpa using e)) h1.2⟩
theorem m9 {P:Program} {ops:Array Oper} {K K':AF→World→Prop} {f0:AF} (hk: ∀f w,ay (fO ops.toList) f0 f→K f w→K' f w): ∀(l:List Oper) (f:AF) (w:World),(∀o∈l,o∈ops.toList)→ay (fO ops.toList) f0 f→pe P ops l f w K→pe P ops l f w K'
 | [],f,w,_,hs,h=>hk f w hs h
 |o::rest,f,w,hl,hs,h=>by
  have ho:=hl o (by simp)
  have hr: ∀o∈rest,o∈ops.toList:=fun o' h'=>hl o' (by simp [h'])
  refine cW (fun g hg h=>yn (fun v w h=>m9 hk rest _ w hr ((hs.trans hg).trans (ay.ba v fun d hd=>bQ ho hd)) h) h)
   (fun g hg h=>m9 hk rest _ w hr ((hs.trans hg).trans (ay.ba _ fun d hd=>bQ ho hd)) h) h
def mA (P:Program) (ops:Array Oper) (K:AF→World→Prop):Nat→Array Bool→AF→World→Prop
 |0,listed,f,w=>dq (Region.ready .any ops listed).isEmpty (K f w)
 |n+1,listed,f,w=>match Region.ready .any ops listed with
  | []=>K f w
  |r::rs=>qd (r::rs) fun i=>match ops[i]? with
   |some o=>guarded ops o f (fun f=>tS P f o w fun v w'=>mA P ops K n (listed.setIfInBounds i true) (ba f o.dst v) w') (fun f=>mA P ops K n (listed.setIfInBounds i true) (ba f o.dst (some undef)) w)
   |none=>False
theorem rN {P:Program} {ro:Option Nat} {m:Nat} {ops:Array Oper} {Q:Exit→Act→World→Prop} {K:AF→World→Prop} (hQ: ∀a f w,Rel nn dfs a f→K f w→Q .normal a w):
  ∀(n:Nat) (listed:Array Bool) (f:AF) (w:World) (a:Act),Rel nn dfs a f→mA P ops K n listed f w→wpAnyIn (FW ro) m P .any ops Q n listed a w
 |0,listed,f,w,a,hr,h=>by
  obtain ⟨h1,h2⟩:=aY h
  exact ⟨by simpa using h1,hQ _ _ _ hr h2⟩
 |n+1,listed,f,w,a,hr,h=>by
  unfold mA at h
  split at h
  ·rename_i he
   exact ⟨fun _=>hQ _ _ _ hr h,by rw [he];simp⟩
  ·rename_i r rs he
   refine ⟨fun h0=>absurd h0 (by rw [he];simp),fun i hi=> ?_⟩
   rw [he] at hi
   have h0:=ql h i hi
   unfold wpOpIn
   split at h0
   ·rename_i o ho
    simp only [ho]
    obtain ⟨f',hr',h1|h1⟩:=cV hr h0
    ·rw [if_pos h1.1]
     exact xH hr' h1.2 fun v ov w' hK hv=>rN hQ n _ _ w' _ (hr'.put o.dst hv) hK
    ·rw [if_neg (by rw [h1.1];simp)]
     exact ⟨fun _ _=>trivial,rN hQ n _ _ w _ (hr'.put o.dst (fun v' e=>by simpa using e)) h1.2⟩
   ·exact h0.elim
theorem oV {P:Program} {ops:Array Oper} {K K':AF→World→Prop} {f0:AF} (hk: ∀f w,ay (fO ops.toList) f0 f→K f w→K' f w): ∀(n:Nat) (listed:Array Bool) (f:AF) (w:World),ay (fO ops.toList) f0 f→mA P ops K n listed f w→mA P ops K' n listed f w
 |0,listed,f,w,hs,h=>by
  obtain ⟨h1,h2⟩:=aY h
  unfold mA
  rw [h1];exact hk _ _ hs h2
 |n+1,listed,f,w,hs,h=>by
  unfold mA at h⊢
  split at h
  ·exact hk _ _ hs h
  ·refine oq (fun i h=> ?_) h
   split at h
   ·rename_i o ho
    have hom:o∈ops.toList:=by simpa using Array.mem_of_getElem? ho
    exact cW (fun g hg h=>yn (fun v w h=>oV hk n _ _ w ((hs.trans hg).trans (ay.ba v fun d hd=>bQ hom hd)) h) h)
     (fun g hg h=>oV hk n _ _ w ((hs.trans hg).trans (ay.ba _ fun d hd=>bQ hom hd)) h) h
   ·exact h.elim
def Av {β:Type}:(ks:List Ki)→eu ks β→(List Value→β→Prop)→Prop
 | [],b,G=>G [] b
 |k::ks,b,G=> ∀x:k.T,Av ks (b x) fun vs b=>G (k.enc x::vs) b
def Hz {β:Type}:(ks:List Ki)→(List Value→β)→eu ks β
 | [],g=>g []
 |k::ks,g=>fun x=>Hz ks fun vs=>g (k.enc x::vs)
def vM (l:Nat) (rec:Nat→Obj) (w:World) (K:World→Prop):Prop:=w.heap[l]? =some (rec 0)∧K (w.putObj l (rec 1))
def qF (l:Nat) (rec:Nat→Obj) (w:World) (K:World→Prop):Prop:=w.heap[l]? =some (rec 1)∧K (w.putObj l (rec 0))
def HM (l:Nat) (rec:Nat→Obj) (w:World) (K:World→Prop):Prop:=w.heap[l]? =some (rec 1)∧K (w.putObj l (rec 2))
def ga (P:Program) (v:Value) (ks:List Ki) (w:World) (B:Nat→(Nat→Obj)→eu ks (World→(World→Prop)→(World→Prop)→Prop)) (K Kr:Nat→World→Prop):Prop:=
 ∀(rec:Nat→Obj) (yv:Value),
  (∀(R:Bool→World→Prop) (w2:World),Av ks (B (w.heap.size+1) rec) fun vs b=>w2.heap[w.heap.size+1]? =some (rec 0)→b w2 (R true) (R false)→ln P yv [kB] vs w2 R)→
  qT P v [] [yv] ((w.alloc (.deferred (some []))).alloc (rec 0)) fun w3=>
   (w3.heap[w.heap.size+1]? =some (rec 0)∧K w.heap.size (w3.putObj (w.heap.size+1) (rec 3)))∨(w3.heap[w.heap.size+1]? =some (rec 2)∧Kr w.heap.size (w3.putObj (w.heap.size+1) (rec 4)))
theorem FT {P:Program} {v:Value} {ks:List Ki} {w:World} {B:Nat→(Nat→Obj)→eu ks (World→(World→Prop)→(World→Prop)→Prop)} {K K' Kr Kr':Nat→World→Prop} (h1: ∀D w,K D w→K' D w) (h2: ∀D w,Kr D w→Kr' D w)
  (h:ga P v ks w B K Kr):ga P v ks w B K' Kr':=fun rec yv hy=>
 HD (ks:= []) (g:=fun _ w3=>(w3.heap[w.heap.size+1]? =some (rec 0)∧K w.heap.size (w3.putObj (w.heap.size+1) (rec 3)))∨(w3.heap[w.heap.size+1]? =some (rec 2)∧Kr w.heap.size (w3.putObj (w.heap.size+1) (rec 4))))
  (g':=fun _ w3=>(w3.heap[w.heap.size+1]? =some (rec 0)∧K' w.heap.size (w3.putObj (w.heap.size+1) (rec 3)))∨(w3.heap[w.heap.size+1]? =some (rec 2)∧Kr' w.heap.size (w3.putObj (w.heap.size+1) (rec 4))))
  (fun _ _ h=>h.elim (fun h=> .inl ⟨h.1,h1 _ _ h.2⟩) (fun h=> .inr ⟨h.1,h2 _ _ h.2⟩)) (h rec yv hy)
def yT:AF→List Nat→List Value→Option AF
 |f,[],[]=>some f
 |f,p::ps,v::vs=>yT (bk f p (some v)) ps vs
 |_,_,_=>none
inductive jc where
 |o|s (p q:jc)|c (p q:jc)|b (p:jc)|l (live:List (Nat×Ki)) (p:jc)|r (ks:List Ki) (p q:jc)
def ia:Code→Bool
 | .seq a b=>ia a||ia b
 | .cond _ a b=>ia a||ia b
 | .block _ a=>ia a
 | .loop a=>ia a
 | .scope a=>ia a
 | .rangeFunc _ _ _ _=>true
 |_=>false
def sL (next:AF→List Nat→World→Prop) (Q:Exit→AF→List Nat→World→Prop):Exit→AF→List Nat→World→Prop
 | .normal,f,ms,w=>next f ms w
 |e,f,ms,w=>Q e f ms w
def zL (id:Nat) (Q:Exit→AF→List Nat→World→Prop):Exit→AF→List Nat→World→Prop
 | .exit i,f,ms,w=>match i==id with|true=>Q .normal f ms w|false=>Q (.exit i) f ms w
 |e,f,ms,w=>Q e f ms w
def KB (l:Nat) (rec:Nat→Obj) (Kt Kf:World→Prop):Exit→AF→List Nat→World→Prop
 | .normal,_,_,w=>qF l rec w Kt
 | .ret,_,_,w=>HM l rec w Kf
 |_,_,_,_=>False
def GU:jc→Bool
 | .b _=>true
 |_=>false
def hO (P:Program) (n:Nat) (rd:Bool):Code→jc→(Exit→AF→List Nat→World→Prop)→AF→List Nat→World→Prop
 | .skip,_,Q,f,ms,w=>Q .normal f ms w
 | .region _ ops d,p,Q,f,ms,w=>match d,rd with
  |false,_=>pe P ops ops.toList f w fun f w=>Q .normal f ms w
  |true,false=>match GU p with
   |true=>zO P ops f w fun f w=>Q .normal f ms w
   |false=>qo P ops true f w fun f w=>Q .normal f ms w
  |true,true=>aK w fun w'=>mA P ops (fun f w=>Q .normal f ms w) ops.size (Array.replicate ops.size false) f w'
 | .seq x y,.s p q,Q,f,ms,w=>hO P n rd x p (sL (fun f ms w=>hO P n rd y q Q f ms w) Q) f ms w
 | .cond c x y,.c p q,Q,f,ms,w=>match ev f c with
  |some (.bool b)=>aa b (hO P n rd x p Q f ms w) (hO P n rd y q Q f ms w)
  |_=>False
 | .block id c,.b p,Q,f,ms,w=>hO P n rd c p (zL id Q) f ms w
 | .loop c,.l live p,Q,f,ms,w=>dq (yZ live (writes c)) (match ia c with
  |false=> ∃(I:fF live (World→Prop)) (m:fF live (World→Nat)),leaf live I f w∧
    nV live I m (forget (writes c) f) fun I0 m0 f=> ∀w,I0 w→hO P n rd c p (sL (fun f ms2 w'=>ms2=ms∧iq live I m (m0 w) f w') Q) f ms w
  |true=> ∃(I:List Nat→fF live (World→Prop)) (m:fF live (World→Nat)),leaf live (I ms) f w∧
    ∀ms,nV live (I ms) m (forget (writes c) f) fun I0 m0 f=> ∀w,I0 w→hO P n rd c p (sL (fun f ms2 w'=>iq live (I ms2) m (m0 w) f w') Q) f ms w)
 | .rangeFunc g ps assign body,.r ks p q,Q,f,ms,w=>match rd with
  |true=>False
  |false=>match ev f g with
   |some v=>ga P v ks w (fun l rec=>Hz ks fun vs w2 Kt Kf=>match yT f ps.toList vs with
     |some f'=>hO P n true assign p (sL (fun f ms w=>vM l rec w fun w=>hO P n true body q (KB l rec Kt Kf) f ms w) (fun _ _ _ _=>False)) f' [] w2
     |none=>False) (fun D w'=>Q .normal f (D::ms) w') (fun D w'=>Q .ret f (D::ms) w')
   |none=>False
 | .exit id,_,Q,f,ms,w=>Q (.exit id) f ms w
 | .ret,_,Q,f,ms,w=>Q .ret f ms w
 | .label _,_,Q,f,ms,w=>Q .normal f ms w
 |_,_,_,_,_,_=>False
theorem uk {body body':(World→Prop)→(World→Nat)→AF→Prop}: ∀{l:List (Nat×Ki)} {I:fF l (World→Prop)} {m:fF l (World→Nat)} {g:AF},(∀I m g,body I m g→body' I m g)→nV l I m g body→nV l I m g body'
 | [],_,_,_,hb,h=>hb _ _ _ h
 |(_,_)::_,_,_,_,hb,h=>fun x=>uk hb (h x)
theorem fQ {P:Program} {n:Nat} {rd:Bool}: ∀(c:Code) (p:jc) {Q Q':Exit→AF→List Nat→World→Prop} {f0:AF} (_: ∀e f ms w,ay (writes c) f0 f→Q e f ms w→Q' e f ms w) (ms:List Nat) (w:World),hO P n rd c p Q f0 ms w→hO P n rd c p Q' f0 ms w
 | .skip,_,_,_,_,hq,ms,w,h=>hq _ _ _ _ (ay.refl _ _) h
 | .region _ ops d,p,_,_,_,hq,ms,w,h=>by
  unfold hO at h⊢
  cases d
  ·exact m9 (fun f w hs h=>hq _ f ms w hs h) _ _ _ (fun _ h=>h) (ay.refl _ _) h
  ·cases rd
   ·cases hd:GU p with
    |true=>
     rw [hd] at h
     exact bq (fun h=>e9 (fun f w hs h=>hq _ f ms w hs h) _ _ _ _ (ay.refl _ _) h) h
    |false=>
     rw [hd] at h
     exact tp (fun f w hs h=>hq _ f ms w hs h) h
   ·exact oV (fun f w hs h=>hq _ f ms w hs h) _ _ _ _ (ay.refl _ _) h
 | .seq x y,.s p q,Q,Q',f0,hq,ms,w,h=>by
  refine fQ x p (fun e f ms w hs h=> ?_) ms w h
  have hs':ay (writes (.seq x y)) f0 f:=hs.mono fun s h=>List.mem_append.2 (.inl h)
  cases e with
  |normal=>exact fQ y q (fun e f' ms w hs2 h=>hq e f' ms w (hs'.trans (hs2.mono fun s h=>List.mem_append.2 (.inr h))) h) ms w h
  |_=>exact hq _ f ms w hs' h
 | .cond c x y,.c p q,Q,Q',f0,hq,ms,w,h=>by
  unfold hO at h⊢
  split at h
  ·exact jA (fQ x p (fun e f ms w hs h=>hq e f ms w (hs.mono fun s h=>List.mem_append.2 (.inl h)) h) ms w) (fQ y q (fun e f ms w hs h=>hq e f ms w (hs.mono fun s h=>List.mem_append.2 (.inr h)) h) ms w) h
  ·exact h.elim
 | .block id c,.b p,Q,Q',f0,hq,ms,w,h=>by
  refine fQ c p (fun e f ms w hs h=> ?_) ms w h
  cases e with
  |exit i=>
   simp only [zL] at h⊢
   split at h
   ·exact hq _ f ms w hs h
   ·exact hq _ f ms w hs h
  |_=>exact hq _ f ms w hs h
 | .loop c,.l live p,Q,Q',f0,hq,ms,w,h=>by
  unfold hO at h⊢
  obtain ⟨hl,h⟩:=aY h
  rw [hl]
  show (match ia c with|false=>_|true=>_:Prop)
  cases hc:ia c with
  |false=>
   rw [hc] at h
   obtain ⟨I,m,h0,h1⟩:=h
   refine ⟨I,m,h0,uk (fun I0 m0 g hb w hI=> ?_) (jH (fun s k hk=>ay.tC hl hk) (fun s hs=>dO hs) h1)⟩
   refine fQ c p (fun e f' ms' w hs2 h=> ?_) ms w (hb.2 w hI)
   cases e with
   |normal=>exact h
   |_=>exact hq _ f' ms' w (hb.1.trans hs2) h
  |true=>
   rw [hc] at h
   obtain ⟨I,m,h0,h1⟩:=h
   refine ⟨I,m,h0,fun ms=>uk (fun I0 m0 g hb w hI=> ?_) (jH (fun s k hk=>ay.tC hl hk) (fun s hs=>dO hs) (h1 ms))⟩
   refine fQ c p (fun e f' ms' w hs2 h=> ?_) ms w (hb.2 w hI)
   cases e with
   |normal=>exact h
   |_=>exact hq _ f' ms' w (hb.1.trans hs2) h
 | .rangeFunc g ps assign body,.r ks p q,Q,Q',f0,hq,ms,w,h=>by
  unfold hO at h⊢
  cases rd
  ·simp only at h⊢
   split at h
   ·exact FT (fun D w h=>hq _ _ _ _ (ay.refl _ _) h) (fun D w h=>hq _ _ _ _ (ay.refl _ _) h) h
   ·exact h.elim
  ·exact h.elim
 | .exit id,_,_,_,_,hq,ms,w,h=>hq _ _ _ _ (ay.refl _ _) h
 | .ret,_,_,_,_,hq,ms,w,h=>hq _ _ _ _ (ay.refl _ _) h
 | .label _,_,_,_,_,hq,ms,w,h=>hq _ _ _ _ (ay.refl _ _) h
 | .seq _ _,.o,_,_,_,_,_,_,h=>h.elim
 | .seq _ _,.c _ _,_,_,_,_,_,_,h=>h.elim
 | .seq _ _,.b _,_,_,_,_,_,_,h=>h.elim
 | .seq _ _,.l _ _,_,_,_,_,_,_,h=>h.elim
 | .seq _ _,.r _ _ _,_,_,_,_,_,_,h=>h.elim
 | .cond _ _ _,.o,_,_,_,_,_,_,h=>h.elim
 | .cond _ _ _,.s _ _,_,_,_,_,_,_,h=>h.elim
 | .cond _ _ _,.b _,_,_,_,_,_,_,h=>h.elim
 | .cond _ _ _,.l _ _,_,_,_,_,_,_,h=>h.elim
 | .cond _ _ _,.r _ _ _,_,_,_,_,_,_,h=>h.elim
 | .block _ _,.o,_,_,_,_,_,_,h=>h.elim
 | .block _ _,.s _ _,_,_,_,_,_,_,h=>h.elim
 | .block _ _,.c _ _,_,_,_,_,_,_,h=>h.elim
 | .block _ _,.l _ _,_,_,_,_,_,_,h=>h.elim
 | .block _ _,.r _ _ _,_,_,_,_,_,_,h=>h.elim
 | .loop _,.o,_,_,_,_,_,_,h=>h.elim
 | .loop _,.s _ _,_,_,_,_,_,_,h=>h.elim
 | .loop _,.c _ _,_,_,_,_,_,_,h=>h.elim
 | .loop _,.b _,_,_,_,_,_,_,h=>h.elim
 | .loop _,.r _ _ _,_,_,_,_,_,_,h=>h.elim
 | .rangeFunc _ _ _ _,.o,_,_,_,_,_,_,h=>h.elim
 | .rangeFunc _ _ _ _,.s _ _,_,_,_,_,_,_,h=>h.elim
 | .rangeFunc _ _ _ _,.c _ _,_,_,_,_,_,_,h=>h.elim
 | .rangeFunc _ _ _ _,.b _,_,_,_,_,_,_,h=>h.elim
 | .rangeFunc _ _ _ _,.l _ _,_,_,_,_,_,_,h=>h.elim
 | .scope _,_,_,_,_,_,_,_,h=>h.elim
 | .goto _,_,_,_,_,_,_,_,h=>h.elim
 | .refuse _,_,_,_,_,_,_,_,h=>h.elim
theorem Di {v:Value} {w:World} {K:World→Prop} (h:fm [] v K w):K w:=by
 cases v with
 |tuple us=>
  obtain ⟨us⟩:=us
  cases us with
  |nil=>exact h
  |cons=>exact h.elim
 |_=>exact h.elim
def mark (r:Nat):Deferred:={target:= .collected r,args:= #[]}
def Mb {nn:Nat} (Q:Exit→AF→List Nat→World→Prop) (e:Exit) (a:Act) (w:World):Prop:= ∃f ms,Rel nn (ms.map mark) a f∧Q e f ms w
theorem vo {β:Type}: ∀{ks:List Ki} {g:List Value→β} {G:List Value→β→Prop},(∀vs,G vs (g vs))→Av ks (Hz ks g) G
 | [],_,_,h=>h []
 |_::_,_,_,h=>fun _=>vo fun _=>h _
theorem xE: ∀{ps:List Nat} {vs:List Value} {f f':AF} {tmps:Array Value} {d:List Deferred},Rel nn dfs {tmps:=tmps,defers:=d} f→yT f ps vs=some f'→
  ps.length=vs.length∧Rel nn dfs {tmps:=(ps.zip vs).foldl (fun tmps (t,a)=>tmps.setIfInBounds t a) tmps,defers:=d} f'
 | [],[],f,f',tmps,d,hr,h=>by
  simp only [yT,Option.some.injEq] at h
  subst h
  exact ⟨rfl,hr⟩
 |p::ps,v::vs,f,f',tmps,d,hr,h=>by
  obtain ⟨h1,h2⟩:=xE (hr.bk p (some v) v (fun v' e=>by simpa using e)) h
  exact ⟨by simp [h1],h2⟩
 | [],_::_,_,_,_,_,_,h=>by cases h
 |_::_,[],_,_,_,_,_,h=>by cases h
theorem dV {P:Program} (hm:P.follows .mixedOrders=true): ∀(c:Code) (p:jc) (rd:Bool) (ro:Option Nat) (_:ro.isSome=rd) (k:Nat) (Q:Exit→AF→List Nat→World→Prop) (f:AF) (ms:List Nat) (w:World) (a:Act),
  Rel nn (ms.map mark) a f→hO P nn rd c p Q f ms w→c.wpIn (FW ro) k P (Mb (nn:=nn) Q) a w
 | .skip,_,rd,ro,hro,k,Q,f,ms,w,a,hr,h=>wpIn_skip ⟨f,ms,hr,h⟩
 | .region _ ops d,p,rd,ro,hro,k,Q,f,ms,w,a,hr,h=>by
  unfold hO at h
  cases d
  ·exact wpIn_region_list (qa (K:=fun f w=>Q .normal f ms w) (fun a f w hr h=>⟨f,ms,hr,h⟩) _ _ _ _ hr h)
  ·cases rd
   ·cases ro with
    |some l=>cases hro
    |none=>
     cases hd:GU p with
     |true=>
      rw [hd] at h
      exact wpIn_wide.2 (r7 hm (K:=fun f w=>Q .normal f ms w) (fun a f w hr h=>⟨f,ms,hr,h⟩) hr h)
     |false=>
      rw [hd] at h
      exact wpIn_wide.2 (xO hm (K:=fun f w=>Q .normal f ms w) (fun a f w hr h=>⟨f,ms,hr,h⟩) hr h)
   ·exact wpIn_region_any hm (rN (K:=fun f w=>Q .normal f ms w) (fun a f w hr h=>⟨f,ms,hr,h⟩) _ _ _ _ _ hr h)
 | .seq x y,.s p q,rd,ro,hro,k,Q,f,ms,w,a,hr,h=>by
  refine wpIn_seq (Go.wpIn_mono (dV hm x p rd ro hro k _ f ms w a hr h) fun e a w ⟨f',ms',hr',h'⟩=> ?_)
  cases e with
  |normal=>exact dV hm y q rd ro hro k Q f' ms' w a hr' h'
  |_=>exact ⟨f',ms',hr',h'⟩
 | .cond c x y,.c p q,rd,ro,hro,k,Q,f,ms,w,a,hr,h=>by
  unfold hO at h
  split at h
  ·rename_i b hb
   refine wpIn_cond (hr.ev hb) ?_
   cases b
   ·exact dV hm y q rd ro hro k Q f ms w a hr h
   ·exact dV hm x p rd ro hro k Q f ms w a hr h
  ·exact h.elim
 | .block id c,.b p,rd,ro,hro,k,Q,f,ms,w,a,hr,h=>by
  refine wpIn_block (Go.wpIn_mono (dV hm c p rd ro hro k _ f ms w a hr h) fun e a w ⟨f',ms',hr',h'⟩=> ?_)
  cases e with
  |exit i=>
   simp only [Exit.inBlock]
   simp only [zL] at h'
   by_cases hi:i=id
   ·subst hi;simp at h';simp only [if_true];exact ⟨f',ms',hr',h'⟩
   ·have:(i==id)=false:=by simpa using hi
    rw [this] at h';rw [if_neg hi];exact ⟨f',ms',hr',h'⟩
  |_=>exact ⟨f',ms',hr',h'⟩
 | .loop c,.l live p,rd,ro,hro,k,Q,f,ms,w,a,hr,h=>by
  unfold hO at h
  obtain ⟨hl,h⟩:=aY h
  have hsh:=hr.shape
  cases hc:ia c with
  |false=>
   rw [hc] at h
   obtain ⟨I,m,h0,hall⟩:=h
   refine Go.wpIn_loop (fun a w=> ∃f',Rel nn (ms.map mark) a f'∧leaf live I f' w∧ay (writes c) f f') (fun a w=>oc a w live m) ⟨f,hr,h0,ay.refl _ _⟩ fun a w ⟨f1,hr,hI,hs⟩=> ?_
   obtain ⟨I0,m0,g,hg,h1,⟨hgs,h2⟩,h3⟩:=qD hr live I m _ (hr.iB hsh hs) hI (jH (fun s k hk=>ay.tC hl hk) (fun s hs=>dO hs) hall)
   have h4:=fQ c p (Q':=fun e f' ms' w'=>sL (fun f ms2 w'=>ms2=ms∧iq live I m (m0 w) f w') Q e f' ms' w'∧ay (writes c) g f') (fun e f' ms' w hs h=>⟨h,hs⟩) ms w (h2 w h1)
   refine Go.wpIn_mono (dV hm c p rd ro hro k _ g ms w a hg h4) fun e a' w' ⟨f',ms',hr',h',hs'⟩=> ?_
   cases e with
   |normal=>
    obtain ⟨e,h'⟩:=h'
    subst e
    refine ⟨⟨f',hr',mi h',hgs.trans hs'⟩,?_⟩
    have:=mv hr' h'
    simp only [h3]
    exact this
   |_=>exact ⟨f',ms',hr',h'⟩
  |true=>
   rw [hc] at h
   obtain ⟨I,m,h0,hall⟩:=h
   refine Go.wpIn_loop (fun a w=> ∃f' ms',Rel nn (ms'.map mark) a f'∧leaf live (I ms') f' w∧ay (writes c) f f') (fun a w=>oc a w live m) ⟨f,ms,hr,h0,ay.refl _ _⟩ fun a w ⟨f1,ms1,hr,hI,hs⟩=> ?_
   obtain ⟨I0,m0,g,hg,h1,⟨hgs,h2⟩,h3⟩:=qD hr live (I ms1) m _ (hr.iB hsh hs) hI (jH (fun s k hk=>ay.tC hl hk) (fun s hs=>dO hs) (hall ms1))
   have h4:=fQ c p (Q':=fun e f' ms' w'=>sL (fun f ms2 w'=>iq live (I ms2) m (m0 w) f w') Q e f' ms' w'∧ay (writes c) g f') (fun e f' ms' w hs h=>⟨h,hs⟩) ms1 w (h2 w h1)
   refine Go.wpIn_mono (dV hm c p rd ro hro k _ g ms1 w a hg h4) fun e a' w' ⟨f',ms',hr',h',hs'⟩=> ?_
   cases e with
   |normal=>
    refine ⟨⟨f',ms',hr',mi h',hgs.trans hs'⟩,?_⟩
    have:=mv hr' h'
    simp only [h3]
    exact this
   |_=>exact ⟨f',ms',hr',h'⟩
 | .rangeFunc g ps assign body,.r ks p q,rd,ro,hro,k,Q,f,ms,w,a,hr,h=>by
  unfold hO at h
  cases rd
  ·cases ro with
   |some l=>cases hro
   |none=>
    simp only at h
    split at h
    ·rename_i v hv
     refine wpIn_rangeFunc fun fn _=> ?_
     have hcl:=h (fun i=> .loop (match i with
       |0=>{state:= .ready,pending:=none,fn,tmps:=a.tmps,params:=ps,assign,body,defers:=w.heap.size}
       |1=>{state:= .busy,pending:=none,fn,tmps:=a.tmps,params:=ps,assign,body,defers:=w.heap.size}
       |2=>{state:= .done,pending:=some .ret,fn,tmps:=a.tmps,params:=ps,assign,body,defers:=w.heap.size}
       |3=>{state:= .exhausted,pending:=none,fn,tmps:=a.tmps,params:=ps,assign,body,defers:=w.heap.size}
       |_=>{state:= .exhausted,pending:=some .ret,fn,tmps:=a.tmps,params:=ps,assign,body,defers:=w.heap.size}))
      (.func (.yield (w.heap.size+1)) #[] #[]) (fun R w2=>vo fun vs hrec hB=> ?_)
     ·unfold qT at hcl
      split at hcl
      ·rename_i i first captured
       obtain ⟨hok,hc⟩:=aY hcl
       have he:=run_enterLoop_outer (P:=P) (w:=w) fn a.tmps ps assign body
       obtain ⟨w1,hw1⟩: ∃w1,w1=(w.alloc (.deferred (some []))).alloc (.loop {state:= .ready,pending:=none,fn,tmps:=a.tmps,params:=ps,assign,body,defers:=w.heap.size}):=⟨_,rfl⟩
       rw [←hw1] at he
       refine ⟨w.heap.size+1,[mark w.heap.size],w1,{target:= .fn (.func i) captured,args:=first++ #[.func (.yield (w.heap.size+1)) #[] #[]]},w1,i,⟨first.toList++ [.func (.yield (w.heap.size+1)) #[] #[]]++captured.toList⟩,w1,
        he,?_,fun _ _=>trivial,?_,fun hh=>(by cases hh),?_⟩
       ·have hg:=hr.ev hv
        simp only [resolve,hg,Deferred.ofValue,Sem.run_pure]
        simp [Act.eval]
       ·have hcc:=uZ (P:=P) hok
        have e:(first++ #[Value.func (.yield (w.heap.size+1)) #[] #[]])++captured=⟨first.toList++ [.func (.yield (w.heap.size+1)) #[] #[]]++captured.toList⟩:=by
         apply Array.ext';simp
        simp only [invoke,e]
        exact hcc _ _
       ·refine (callsIn_wide (n:=k - 1)).2 ?_
        rw [hw1]
        refine Calls.mono hc fun e w3 hp=> ?_
        have hrel:Rel nn ((w.heap.size::ms).map mark) {a with defers:= [mark w.heap.size]++a.defers} f:=⟨hr.size,hr.shape,by simp [hr.defs],hr.val⟩
        cases e with
        |returned v'=>
         have hp:=Di hp
         rcases hp with ⟨h1,h2⟩|⟨h1,h2⟩
         ·exact ⟨none,_,run_endLoop h1 (by simp),⟨f,_,hrel,h2⟩⟩
         ·exact ⟨some .ret,_,run_endLoop h1 (by simp),wpIn_ret ⟨f,_,hrel,h2⟩⟩
        |panicked=>exact hp.elim
        |outgrown=>exact hp.elim
      ·exact hcl.elim
     ·split at hB
      ·rename_i f' hf'
       have hr0:Rel nn [] {tmps:=a.tmps,defers:= []} f:=⟨hr.size,hr.shape,rfl,hr.val⟩
       obtain ⟨hlen,hrel⟩:=xE hr0 hf'
       have hz:(ps.zip (⟨vs⟩:Array Value)).foldl (fun tmps (t,a)=>tmps.setIfInBounds t a) a.tmps=(ps.toList.zip vs).foldl (fun tmps (t,a)=>tmps.setIfInBounds t a) a.tmps:=by
        rw [←Array.foldl_toList];simp
       refine ⟨fn,_,assign,body,run_yield hrec (by simpa using hlen.symm),?_⟩
       refine RoundIn.mono (R:=fun e w'=> ∃b,e= .returned (.bool b)∧R b w') ?_ fun e w' ⟨b,h1,h2⟩=>⟨b,h1,h2⟩
       refine roundIn_of_wpIn trivial ?_
       simp only [List.nil_append,hz]
       refine Go.wpIn_mono (dV hm assign p true (some (w.heap.size+1)) rfl 0 _ f' [] w2 _ hrel hB) fun e a1 w1 ⟨f1,ms1,hr1,h1⟩=> ?_
       cases e with
       |normal=>
        obtain ⟨h2,h3⟩:=h1
        refine ⟨_,run_beginRound h2 rfl,?_⟩
        refine Go.wpIn_mono (dV hm body q true (some (w.heap.size+1)) rfl 0 _ f1 ms1 _ _ hr1 h3) fun e a2 w4 ⟨f2,ms2,hr2,h4⟩=> ?_
        cases e with
        |normal=>
         obtain ⟨h5,h6⟩:=h4
         exact ⟨_,_,run_endRound none h5,true,rfl,h6⟩
        |ret=>
         obtain ⟨h5,h6⟩:=h4
         exact ⟨_,_,run_endRound (some .ret) h5,false,rfl,h6⟩
        |exit id=>exact h4.elim
        |goto t=>exact h4.elim
        |panic c=>exact h4.elim
        |outgrown=>exact h4.elim
       |exit id=>exact h1.elim
       |goto t=>exact h1.elim
       |ret=>exact h1.elim
       |panic c=>exact h1.elim
       |outgrown=>exact h1.elim
      ·exact hB.elim
    ·exact h.elim
  ·exact h.elim
 | .exit id,_,rd,ro,hro,k,Q,f,ms,w,a,hr,h=>wpIn_exit ⟨f,ms,hr,h⟩
 | .ret,_,rd,ro,hro,k,Q,f,ms,w,a,hr,h=>wpIn_ret ⟨f,ms,hr,h⟩
 | .label _,_,rd,ro,hro,k,Q,f,ms,w,a,hr,h=>wpIn_label ⟨f,ms,hr,h⟩
 | .seq _ _,.o,_,_,_,_,_,_,_,_,_,_,h=>h.elim
 | .seq _ _,.c _ _,_,_,_,_,_,_,_,_,_,_,h=>h.elim
 | .seq _ _,.b _,_,_,_,_,_,_,_,_,_,_,h=>h.elim
 | .seq _ _,.l _ _,_,_,_,_,_,_,_,_,_,_,h=>h.elim
 | .seq _ _,.r _ _ _,_,_,_,_,_,_,_,_,_,_,h=>h.elim
 | .cond _ _ _,.o,_,_,_,_,_,_,_,_,_,_,h=>h.elim
 | .cond _ _ _,.s _ _,_,_,_,_,_,_,_,_,_,_,h=>h.elim
 | .cond _ _ _,.b _,_,_,_,_,_,_,_,_,_,_,h=>h.elim
 | .cond _ _ _,.l _ _,_,_,_,_,_,_,_,_,_,_,h=>h.elim
 | .cond _ _ _,.r _ _ _,_,_,_,_,_,_,_,_,_,_,h=>h.elim
 | .block _ _,.o,_,_,_,_,_,_,_,_,_,_,h=>h.elim
 | .block _ _,.s _ _,_,_,_,_,_,_,_,_,_,_,h=>h.elim
 | .block _ _,.c _ _,_,_,_,_,_,_,_,_,_,_,h=>h.elim
 | .block _ _,.l _ _,_,_,_,_,_,_,_,_,_,_,h=>h.elim
 | .block _ _,.r _ _ _,_,_,_,_,_,_,_,_,_,_,h=>h.elim
 | .loop _,.o,_,_,_,_,_,_,_,_,_,_,h=>h.elim
 | .loop _,.s _ _,_,_,_,_,_,_,_,_,_,_,h=>h.elim
 | .loop _,.c _ _,_,_,_,_,_,_,_,_,_,_,h=>h.elim
 | .loop _,.b _,_,_,_,_,_,_,_,_,_,_,h=>h.elim
 | .loop _,.r _ _ _,_,_,_,_,_,_,_,_,_,_,h=>h.elim
 | .rangeFunc _ _ _ _,.o,_,_,_,_,_,_,_,_,_,_,h=>h.elim
 | .rangeFunc _ _ _ _,.s _ _,_,_,_,_,_,_,_,_,_,_,h=>h.elim
 | .rangeFunc _ _ _ _,.c _ _,_,_,_,_,_,_,_,_,_,_,h=>h.elim
 | .rangeFunc _ _ _ _,.b _,_,_,_,_,_,_,_,_,_,_,h=>h.elim
 | .rangeFunc _ _ _ _,.l _ _,_,_,_,_,_,_,_,_,_,_,h=>h.elim
 | .scope _,_,_,_,_,_,_,_,_,_,_,_,h=>h.elim
 | .goto _,_,_,_,_,_,_,_,_,_,_,_,h=>h.elim
 | .refuse _,_,_,_,_,_,_,_,_,_,_,_,h=>h.elim
def lE:List Nat→World→(World→Prop)→Prop
 | [],w,K=>K w
 |r::rs,w,K=>w.heap[r]? =some (.deferred (some []))∧lE rs (w.putObj r (.deferred none)) K
def GK (P:Program) (rs:List ResultVar) (ks:List Ki) (K:eu ks (World→Prop)):Exit→AF→List Nat→World→Prop
 | .normal,f,ms,w| .ret,f,ms,w=>lE ms w fun w=>qE P rs f w [] fun vs=>fm ks (dp vs) K w
 |_,_,_,_=>False
theorem Ab {P:Program} (hm:P.follows .mixedOrders=true) {i:FuncId} {fn:Func} {c:Code} {args:List Value} {w:World} {ks:List Ki} {K:eu ks (World→Prop)} (n:Nat) (rs:List ResultVar)
  (hf:P.funcs[i]? =some fn) (hb:fn.body=some c) (hn:fn.ntmps=n) (hl:args.length≤n) (hrs:fn.results.toList=rs) (p:jc) (h:hO P n false c p (GK P rs ks K) (kg args n) [] w):Cl P ks i ⟨args⟩ w K:=by
 refine (callsIn_wide (n:=0)).1 (callsIn_of_wp_marks (F:=Fence.wide) hf hb trivial ?_)
 subst hn;subst hrs
 have hsz:((⟨args⟩:Array Value)++Array.replicate (fn.ntmps - (⟨args⟩:Array Value).size) undef).size=fn.ntmps:=by simp;omega
 have hr:Rel fn.ntmps (([]:List Nat).map mark) {tmps:=(⟨args⟩:Array Value)++Array.replicate (fn.ntmps - (⟨args⟩:Array Value).size) undef,defers:= []} (kg args fn.ntmps):=by
  refine ⟨hsz,fun i hi=>mE _ _ _ _ hi,rfl,fun i v hv=> ?_⟩
  have h1:=sC _ _ _ _ _ hv
  simp only [Option.some.injEq] at h1
  have hi:i<fn.ntmps:=mE _ _ _ _ (ig hv)
  simp only [Array.getD_eq_getD_getElem?]
  have h2:((⟨args⟩:Array Value)++Array.replicate (fn.ntmps - (⟨args⟩:Array Value).size) undef)[i]? =(args++List.replicate (fn.ntmps - args.length) undef)[i]? :=by
   rw [←Array.getElem?_toList]
   simp
  rw [h2,←h1]
  by_cases ha:i<args.length
  ·simp [List.getElem?_append_left ha,List.getD_eq_getElem?_getD]
  ·rw [List.getElem?_append_right (by omega),List.getElem?_replicate]
   rw [if_pos (by omega)]
   simp [List.getD_eq_getElem?_getD,List.getElem?_eq_none (by omega:args.length≤i)]
 refine Go.wpIn_mono (dV hm c p false none rfl 0 _ _ [] w _ hr h) fun e a w' ⟨f,ms,hr,hq⟩=> ?_
 have fin: ∀(ms:List Nat) (w':World),(lE ms w' fun w=>qE P fn.results.toList f w [] fun vs=>fm ks (dp vs) K w)→LeavesInM Fence.wide 0 P fn a.tmps (pV ks K) (ms.map mark) .returning w':=by
  intro ms
  induction ms with
  |nil=>
   intro w' hq
   obtain ⟨vs,h1,h2⟩:=mj hr _ _ hq
   refine ⟨dp vs,?_,h2⟩
   rw [uU,Array.mapM_eq_mapM_toList]
   simp only [Sem.run_bind,Sem.run_map,h1,Result.andThen_ok,Sem.run_pure]
   congr 1
   match vs with
   | []=>rfl
   | [v]=>rfl
   |a::b::l=>simp [dp]
  |cons r ms ih=>
   intro w' hq
   exact ⟨by simp,.inl ⟨r,_,rfl,run_takeDeferred hq.1,ih _ hq.2⟩⟩
 have hd:=hr.defs
 cases e<;>first|exact hq.elim|(show LeavesInM _ _ _ _ _ _ a.defers _ _;rw [hd];exact fin ms w' hq)
theorem z0 {P:Program} (hm:P.follows .mixedOrders=true) {i:FuncId} {w:World} {F:Prop} (fn:Func) (args:List Value) (ks:List Ki) (K:eu ks (World→Prop)) (n:Nat) (rs:List ResultVar)
  (hf:P.funcs[i]? =some fn) (hb:fn.body=some (fn.body.getD .skip)) (hn:fn.ntmps=n) (hl:Nat.ble args.length n=true) (hrs:fn.results.toList=rs) (p:jc)
  (he:hO P n false (fn.body.getD .skip) p (GK P rs ks K) (kg args n) [] w=F) (h:F):Cl P ks i ⟨args⟩ w K:=
 Ab hm n rs hf hb hn (Nat.le_of_ble_eq_true hl) hrs p (he▸h)
end
end Go.Vc
set_option maxRecDepth 20000
namespace Go.Vc
open Go
noncomputable section
variable {nn:Nat} {dfs:List Deferred}
end
end Go.Vc
namespace Go.Proofs.YtgglghjnakclmaaGreat
open Go Go.Vc
abbrev gk:Nat:=6
abbrev l4:Nat:=24
abbrev jb:Nat:=25
abbrev nZ:Nat:=26
abbrev il:Nat:=27
abbrev fY:Nat:=30
abbrev cX:Nat:=31
abbrev bO:Nat:=33
abbrev bh:Nat:=35
abbrev cm:Nat:=37
abbrev cB:Nat:=39
abbrev bU:Nat:=40
abbrev cC:Nat:=41
abbrev k6:Nat:=42
abbrev oW:Nat:=77
abbrev nA:Nat:=78
abbrev kH:Nat:=79
abbrev mz:Nat:=80
abbrev mT:Nat:=81
abbrev kK:Nat:=82
abbrev l0:Nat:=83
abbrev oE:Nat:=84
abbrev gA:Nat:=85
abbrev gO:Nat:=86
abbrev cp:Nat:=88
abbrev fM:Nat:=89
abbrev gn:Nat:=90
abbrev dy:Nat:=91
abbrev jZ:Nat:=94
abbrev gX:Nat:=95
abbrev iX:Nat:=124
abbrev jv:Nat:=125
abbrev jT:Nat:=126
abbrev qj:Nat:=127
abbrev nK:Nat:=128
abbrev gw:Nat:=129
abbrev lO:Nat:=130
abbrev lb:Nat:=131
abbrev nS:Nat:=132
abbrev l9:Nat:=133
abbrev kZ:Nat:=134
abbrev iZ:Nat:=135
abbrev ns:Nat:=136
abbrev mU:Nat:=137
abbrev oL:Nat:=138
abbrev bC:Nat:=139
abbrev ew:Nat:=140
abbrev eY:Nat:=141
abbrev eW:Nat:=142
abbrev iE:Nat:=143
abbrev mV:Nat:=144
abbrev gH:Nat:=145
abbrev kE:Nat:=146
abbrev de:Nat:=147
abbrev km:Nat:=148
abbrev iK:Nat:=149
abbrev j5:Nat:=150
abbrev eh:Nat:=151
abbrev od:Nat:=152
abbrev lQ:Nat:=159
abbrev lV:Nat:=173
abbrev sd:Nat:=174
abbrev p7:Nat:=180
abbrev gG:Nat:=181
abbrev lW:Nat:=182
abbrev ng:Nat:=183
abbrev oT:Nat:=184
abbrev na:Nat:=185
abbrev n0:Nat:=186
abbrev eI:Nat:=187
abbrev ly:Nat:=188
abbrev lJ:Nat:=189
abbrev lh:Nat:=190
abbrev lg:Nat:=191
abbrev eK:Nat:=192
abbrev rU:Nat:=193
abbrev iD:Nat:=194
abbrev bz:Nat:=195
abbrev jq:Nat:=196
abbrev bu:Nat:=197
abbrev bF:Nat:=198
abbrev gv:Nat:=199
abbrev dU:Nat:=200
abbrev lY:Nat:=201
abbrev kd:Nat:=202
abbrev nq:Nat:=203
abbrev ja:Nat:=204
abbrev j4:Nat:=205
abbrev fK:Nat:=206
abbrev dQ:Nat:=207
abbrev fx:Nat:=208
abbrev gq:Nat:=209
abbrev jm:Nat:=210
abbrev dc:Nat:=211
abbrev jw:Nat:=212
abbrev iC:Nat:=213
abbrev ji:Nat:=220
abbrev lU:Nat:=221
abbrev o5:Nat:=222
abbrev nw:Nat:=226
abbrev jr:Nat:=235
abbrev oR:Nat:=237
abbrev qH:Nat:=240
abbrev oJ:Nat:=241
abbrev jl:Nat:=242
abbrev jh:Nat:=243
abbrev nO:Nat:=244
abbrev gb:Nat:=245
abbrev o4:Nat:=246
abbrev oZ:Nat:=247
abbrev nM:Nat:=248
abbrev oQ:Nat:=249
abbrev oM:Nat:=250
abbrev o8:Nat:=251
abbrev nr:Nat:=252
abbrev ie:Nat:=253
abbrev dN:Nat:=254
abbrev iA:Nat:=255
abbrev dP:Nat:=256
abbrev lu:Nat:=257
abbrev bp:Nat:=258
abbrev eB:Nat:=259
abbrev aM:Nat:=260
abbrev di:Nat:=261
abbrev ez:Nat:=262
abbrev im:Nat:=263
abbrev rA:Nat:=264
abbrev fP:Nat:=265
abbrev iH:Nat:=266
abbrev kr:Nat:=267
abbrev bT:Nat:=268
abbrev iS:Nat:=269
abbrev iJ:Nat:=270
abbrev fe:Nat:=271
abbrev iT:Nat:=272
abbrev jD:Nat:=273
abbrev jx:Nat:=274
abbrev nu:Nat:=275
abbrev e7:Nat:=276
abbrev dM:Nat:=277
abbrev iG:Nat:=278
abbrev fu:Nat:=283
abbrev oX:Nat:=287
abbrev l6:Nat:=288
abbrev ld:Nat:=290
abbrev qf:Nat:=291
abbrev je:Nat:=293
abbrev oF:Nat:=294
abbrev lR:Nat:=295
abbrev jd:Nat:=296
abbrev k7:Nat:=297
abbrev gh:Nat:=298
abbrev dC:Nat:=299
abbrev cn:Nat:=300
abbrev dK:Nat:=301
abbrev eE:Nat:=302
abbrev a7:Nat:=303
abbrev cZ:Nat:=304
abbrev hJ:Nat:=305
abbrev mb:Nat:=306
abbrev pz:Nat:=307
abbrev dF:Nat:=308
abbrev jV:Nat:=309
abbrev gd:Nat:=310
abbrev iz:Nat:=311
abbrev lL:Nat:=312
abbrev nX:Nat:=313
abbrev kq:Nat:=314
abbrev gp:Nat:=315
abbrev eV:Nat:=316
abbrev l7:Nat:=320
abbrev c7:Nat:=323
abbrev mZ:Nat:=324
abbrev bG:Nat:=325
abbrev aW:Nat:=326
abbrev iL:Nat:=327
abbrev dz:Nat:=332
abbrev bB:Nat:=333
noncomputable abbrev Pg:Program:=Tryz.prog
theorem Tryz.mix:Tryz.prog.follows .mixedOrders=true:=by kernel_rfl
theorem co {i:FuncId} {w:World} {F:Prop} {args:List Value} {ks:List Ki} {K:eu ks (World→Prop)} (fn:Func) (L:List (Nat×List (Nat×Ki))) (h:F) (hf:Pg.funcs[i]? =some fn:=by kernel_rfl) (hb:fn.body=some (fn.body.getD .skip):=by kernel_rfl) (hl:Nat.ble args.length fn.ntmps=true:=by kernel_rfl) (he:vc Pg fn.ntmps (fn.body.getD .skip) (uA (fn.body.getD .skip) 0 L).1 (xi Pg fn.results.toList ks K) (kg args fn.ntmps) w=F:=by kernel_rfl):Cl Pg ks i ⟨args⟩ w K:=
 td Tryz.mix fn args ks K fn.ntmps fn.results.toList hf hb rfl hl rfl (uA (fn.body.getD .skip) 0 L).1 he h
theorem CA {i:FuncId} {w:World} {F:Prop} {args:List Value} {ks:List Ki} {K:eu ks (World→Prop)} (fn:Func) (p:jc) (h:F) (hf:Pg.funcs[i]? =some fn:=by kernel_rfl) (hb:fn.body=some (fn.body.getD .skip):=by kernel_rfl) (hl:Nat.ble args.length fn.ntmps=true:=by kernel_rfl) (he:hO Pg fn.ntmps false (fn.body.getD .skip) p (GK Pg fn.results.toList ks K) (kg args fn.ntmps) [] w=F:=by kernel_rfl):Cl Pg ks i ⟨args⟩ w K:=
 z0 Tryz.mix fn args ks K fn.ntmps fn.results.toList hf hb rfl hl rfl p he h
abbrev Is:List Sc:= [.int .i64,.int .i64,.int .i64,.int .i64]
end Go.Proofs.YtgglghjnakclmaaGreat
namespace Go.Proofs.YtgglghjnakclmaaGreat
open Go Go.Vc
set_option maxRecDepth 100000
theorem sO.ok (a:Int) (b:Int) (c:Int) (d:Sl) (e:Int) (f:Int) (R:Bool→World→Prop) w (h:
 bD (fun (o:World)=>
 Cl Pg [kP,kI] cX ⟨[(ni a),(ni b)]⟩ o fun q (r:Int) p=>
 Cl Pg [kP,kI] cX ⟨[(ni a),(ni c)]⟩ p fun t (u:Int) s=>
 bD (fun (a1:World)=>
 Cl Pg [kS,kB] k6 ⟨[(.pointer q),(ah d),(ni e)]⟩ a1 fun (c1:Sl) (d1:Bool) b1=>
 Cl Pg [kS,kB] k6 ⟨[(.pointer t),(ah d),(ni f)]⟩ b1 fun (f1:Sl) (g1:Bool) e1=>
 Cl Pg [kS,kI] jb ⟨[(ni a),(ah d)]⟩ e1 fun (i1:Sl) (j1:Int) h1=>
 aa d1
 (aa g1
 (au Pg (convert 26 9 (ah c1)) m8 h1 fun (l1:ByteArray) k1=>
 au Pg (convert 26 9 (ah i1)) m8 k1 fun (n1:ByteArray) m1=>
 aa ((l1).toList==(n1).toList)
 (au Pg (convert 26 9 (ah f1)) m8 m1 fun (p1:ByteArray) o1=>
 au Pg (convert 26 9 (ah i1)) m8 o1 fun (r1:ByteArray) q1=>
 aa ((p1).toList==(r1).toList)
 (Cl Pg [kB] fY ⟨[]⟩ q1 fun (t1:Bool) s1=>
 R t1 s1)
 (R false q1))
 (R false m1))
 (R false h1))
 (R false h1)) fun v=>
 bD (fun (y:Bool) (z:World)=>
 aa y
 (R false z)
 (v z)) fun x=>
 aa (r !=0)
 (x true s)
 (aa (u !=0)
 (x true s)
 (aa (Option.isNone (q:Option Addr))
 (x true s)
 (x (Option.isNone (t:Option Addr)) s)))) fun g=>
 bD (fun (k:Bool) (l:World)=>
 aa k
 (Cl Pg [kB] fY ⟨[]⟩ l fun (n:Bool) m=>
 R n m)
 (g l)) fun h=>
 Cl Pg [kB] l4 ⟨[(ah d)]⟩ w fun (j:Bool) i=>
 aa j
 (h true i)
 (aa (decide (a<1))
 (h true i)
 (aa (decide (a>5000))
 (h true i)
 (aa (decide (b<a))
 (h true i)
 (aa (decide (b>30000))
 (h true i)
 (aa (decide (c<a))
 (h true i)
 (aa (decide (c>30000))
 (h true i)
 (aa (decide (e<1))
 (h true i)
 (aa (decide (f<1))
 (h true i)
 (aa (decide (e>1000))
 (h true i)
 (h (decide (f>1000)) i))))))))))):Cl Pg [kB] gk ⟨[(ni a),(ni b),(ni c),(ah d),(ni e),(ni f)]⟩ w R:=co Tryz.f6 [(2,[]),(3,[(66,kB)]),(11,[]),(12,[(93,kB)])] h
theorem Bk.ok (R:Bool→World→Prop) w (h:
 Cl Pg [kP,kI] cX ⟨[(ni 300),(ni 300)]⟩ w fun b (c:Int) a=>
 Cl Pg [kP,kI] cX ⟨[(ni 300),(ni 299)]⟩ a fun e (f:Int) d=>
 Cl Pg [kP,kI] cX ⟨[(ni 0),(ni 300)]⟩ d fun h (i:Int) g=>
 bD (fun (n:World)=>
 Cl Pg [kS,kI] cm ⟨[(.pointer b)]⟩ n fun (p:Sl) (q:Int) o=>
 Nw 5 ⟨[(.int .u8 1)]⟩ o fun s r=>
 Cl Pg [kS,kI] bO ⟨[(.pointer b),(ah (⟨some ⟨s,0,none⟩,1,1⟩:Sl))]⟩ r fun (u:Sl) (v:Int) t=>
 Cl Pg [kP,kI] cX ⟨[(ni 2),(ni 100)]⟩ t fun y (z:Int) x=>
 bD (fun (e1:World)=>
 Nw 5 ⟨[(.int .u8 97),(.int .u8 98),(.int .u8 99)]⟩ e1 fun g1 f1=>
 au Pg (convert 26 26 (ah (⟨some ⟨g1,0,none⟩,3,3⟩:Sl))) kS f1 fun (i1:Sl) h1=>
 Cl Pg [kS,kI] bO ⟨[(.pointer y),(ah i1)]⟩ h1 fun (k1:Sl) (l1:Int) j1=>
 Cl Pg [kI] cB ⟨[(.pointer y)]⟩ j1 fun (n1:Int) m1=>
 Cl Pg [kS,kI] bh ⟨[(.pointer y)]⟩ m1 fun (p1:Sl) (q1:Int) o1=>
 Cl Pg [kS,kI] bh ⟨[(.pointer y)]⟩ o1 fun (s1:Sl) (t1:Int) r1=>
 Cl Pg [kS,kI] cm ⟨[(.pointer y)]⟩ r1 fun (v1:Sl) (x1:Int) u1=>
 Nw 5 ⟨[(.int .u8 97),(.int .u8 98),(.int .u8 99)]⟩ u1 fun z1 y1=>
 au Pg (convert 26 26 (ah (⟨some ⟨z1,0,none⟩,3,3⟩:Sl))) kS y1 fun (b2:Sl) a2=>
 Nw 26 ⟨[(ah b2)]⟩ a2 fun d2 c2=>
 Cl Pg [kS,kI] jb ⟨[(ni 2),(ah (⟨some ⟨d2,0,none⟩,1,1⟩:Sl))]⟩ c2 fun (f2:Sl) (g2:Int) e2=>
 Cl Pg [kS,kI] bh ⟨[(.pointer none)]⟩ e2 fun (i2:Sl) (j2:Int) h2=>
 au Pg (convert 26 9 (ah p)) m8 h2 fun (l2:ByteArray) k2=>
 aa ((l2).toList==((ByteArray.mk #[87,80,1,130,44,0,0,0,0,0])).toList)
 (aa (q==0)
 (aa (v==280)
 (aa (n1==1)
 (aa ((s1.len:Int)==0)
 (aa (x1==0)
 (aa ((v1.len:Int)==5)
 (au Pg (convert 26 9 (ah k1)) m8 k2 fun (n2:ByteArray) m2=>
 au Pg (convert 26 9 (ah p1)) m8 m2 fun (p2:ByteArray) o2=>
 ((n2).size:Int)+((p2).size:Int)≤9223372036854775807∧
 au Pg (convert 26 9 (ah v1)) m8 o2 fun (r2:ByteArray) q2=>
 (((n2++p2)).size:Int)+((r2).size:Int)≤9223372036854775807∧
 au Pg (convert 26 9 (ah f2)) m8 q2 fun (t2:ByteArray) s2=>
 aa ((((n2++p2)++r2)).toList==(t2).toList)
 (Cl Pg [kI] cC ⟨[(.pointer b)]⟩ s2 fun (v2:Int) u2=>
 aa (v2==300)
 (Cl Pg [(aq .u8)] bU ⟨[(.pointer b)]⟩ u2 fun (y2:Int) x2=>
 aa (y2==2)
 (Cl Pg [(aq .u8)] bU ⟨[(.pointer y)]⟩ x2 fun (a3:Int) z2=>
 aa (a3==3)
 (aa (j2==280)
 (Cl Pg [(aq .u8)] bU ⟨[(.pointer none)]⟩ z2 fun (c3:Int) b3=>
 aa (c3==0)
 (Cl Pg [kI] cC ⟨[(.pointer none)]⟩ b3 fun (e3:Int) d3=>
 aa (e3==0)
 (Cl Pg [kI] cB ⟨[(.pointer none)]⟩ d3 fun (g3:Int) f3=>
 R (g3==0) f3)
 (R false d3))
 (R false b3))
 (R false z2))
 (R false z2))
 (R false x2))
 (R false u2))
 (R false s2))
 (R false k2))
 (R false k2))
 (R false k2))
 (R false k2))
 (R false k2))
 (R false k2))
 (R false k2)) fun a1=>
 bD (fun (c1:Bool) (d1:World)=>
 aa c1
 (R false d1)
 (a1 d1)) fun b1=>
 aa (z !=0)
 (b1 true x)
 (b1 (Option.isNone (y:Option Addr)) x)) fun j=>
 bD (fun (l:Bool) (m:World)=>
 aa l
 (R false m)
 (j m)) fun k=>
 aa (c !=0)
 (k true g)
 (aa (Option.isNone (b:Option Addr))
 (k true g)
 (aa (f !=230)
 (k true g)
 (k (i !=2) g)))):Cl Pg [kB] fY ⟨[]⟩ w R:=co Tryz.f30 [(8,[]),(9,[(52,kB)]),(19,[]),(20,[(73,kB)])] h
theorem Em.ok (a:(Option Addr)) (b:Sl) (c:Int) (R:Sl→Bool→World→Prop) w (h:
 zx (⟨none,0,0⟩:Sl) true 0 w fun d e (f:Sl) (g:Bool) (h:Int) i=>
 aa (decide (h<(b.len:Int)))
 (zx f g 0 i fun j k (l:Sl) (m:Bool) (n:Int) o=>
 an b h 1 fun p=>
 Ld kS p o fun (q:Sl)=>
 aa (decide (n<(q.len:Int)))
 (gm o fun r s=>
 an b h 1 fun t=>
 aH kS t r fun (u:Sl)=>
 an b h 1 fun v=>
 aH kS v r fun (x:Sl)=>
 bf u n (if (x.len:Int)<(i64 (n+c)) then (x.len:Int) else (i64 (n+c))) (u).cap 1 fun y=>
 Cl Pg [kS,kI] bO ⟨[(.pointer a),(ah y)]⟩ s fun (a1:Sl) (b1:Int) z=>
 r z∧
 au Pg (Builtin.append_ #[26,26] 26 ⟨[(ah l),(ah a1)]⟩) kS z fun (d1:Sl) c1=>
 aa m
 (j d1 (b1==0) (i64 (n+c)) c1∧k d1 (b1==0) (i64 (n+c)) c1<k l m n o)
 (j d1 false (i64 (n+c)) c1∧k d1 false (i64 (n+c)) c1<k l m n o))
 (Cl Pg [kS,kI] bh ⟨[(.pointer a)]⟩ o fun (f1:Sl) (g1:Int) e1=>
 au Pg (Builtin.append_ #[26,26] 26 ⟨[(ah l),(ah f1)]⟩) kS e1 fun (i1:Sl) h1=>
 aa m
 (d i1 (g1==0) (i64 (h+1)) h1∧e i1 (g1==0) (i64 (h+1)) h1<e f g h i)
 (d i1 false (i64 (h+1)) h1∧e i1 false (i64 (h+1)) h1<e f g h i)))
 (Cl Pg [kS,kI] cm ⟨[(.pointer a)]⟩ i fun (k1:Sl) (l1:Int) j1=>
 au Pg (Builtin.append_ #[26,26] 26 ⟨[(ah f),(ah k1)]⟩) kS j1 fun (n1:Sl) m1=>
 aa g
 (R n1 (l1==0) m1)
 (R n1 false m1))):Cl Pg [kS,kB] k6 ⟨[(.pointer a),(ah b),(ni c)]⟩ w R:=co Tryz.f42 [(9,[(8,kS),(9,kB),(10,kI)]),(17,[(8,kS),(9,kB),(11,kI)])] h
end Go.Proofs.YtgglghjnakclmaaGreat
namespace Go.Proofs.YtgglghjnakclmaaGreat
open Go Go.Vc
set_option maxRecDepth 100000
theorem Be.ok (a:Int) (b:Int) (R:(Option Addr)→Int→World→Prop) w (h:
 Cl Pg [(aq .u8),kI] l0 ⟨[(ni b),(ni a),(.int .u8 1)]⟩ w fun (d:Int) (e:Int) c=>
 aa (e !=0)
 (R none e c)
 (Nw 139 ⟨[(ni a),(ni 0),(.int .u8 d),(.pointer none),(.slice none 0 0),(.int .u32 0),(.int .u32 0),(.bool false),(.bool false)]⟩ c fun g f=>
 Cl Pg [kP,kI] oE ⟨[(ni b)]⟩ f fun i (j:Int) h=>
 St (Addr.add ⟨g,0,none⟩ 3) (.pointer i) h fun k=>
 Cl Pg [kS,kI] gA ⟨[(ni a),(.int .u8 1),(.int .u8 d)]⟩ k fun (m:Sl) (n:Int) l=>
 da 0 l fun o p (q:Int) r=>
 aa (decide (q<(m.len:Int)))
 (an m q 1 fun s=>
 Ld kI s r fun (t:Int)=>
 Ld kP (Addr.add ⟨g,0,none⟩ 3) r fun u=>
 Cl Pg [(.st [.int .i64,.int .i64]),kI] gO ⟨[(.pointer u),(ni t)]⟩ r fun x (y:Int) v=>
 Nw 146 ⟨[(ni 0),(ni 0)]⟩ v fun a1 z=>
 bj ⟨a1,0,none⟩ [(ni x.1),(ni x.2.1)] 0 z fun b1=>
 bD (fun (r1:World)=>
 o (i64 (q+1)) r1∧p (i64 (q+1)) r1<p q r) fun c1=>
 aK b1 fun d1=>
 Ld (.st [.int .i64,.int .i64]) ⟨a1,0,none⟩ d1 fun e1=>
 (Ld kS (Addr.add ⟨g,0,none⟩ 4) d1 fun (f1:Sl)=>
 Nw 146 ⟨[(ni e1.1),(ni e1.2.1)]⟩ d1 fun h1 g1=>
 au Pg (Builtin.append_ #[137,137] 137 ⟨[(ah f1),(ah (⟨some ⟨h1,0,none⟩,1,1⟩:Sl))]⟩) kS g1 fun (j1:Sl) i1=>
 St (Addr.add ⟨g,0,none⟩ 4) (ah j1) i1 fun k1=>
 c1 k1)∧
 (Nw 146 ⟨[(ni e1.1),(ni e1.2.1)]⟩ d1 fun m1 l1=>
 Ld kS (Addr.add ⟨g,0,none⟩ 4) l1 fun (n1:Sl)=>
 au Pg (Builtin.append_ #[137,137] 137 ⟨[(ah n1),(ah (⟨some ⟨m1,0,none⟩,1,1⟩:Sl))]⟩) kS l1 fun (p1:Sl) o1=>
 St (Addr.add ⟨g,0,none⟩ 4) (ah p1) o1 fun q1=>
 c1 q1))
 (R (some ⟨g,0,none⟩) 0 r))):Cl Pg [kP,kI] cX ⟨[(ni a),(ni b)]⟩ w R:=co Tryz.f31 [(18,[(44,kI)]),(27,[])] h
theorem jB.ok (a:(Option Addr)) (b:Sl) (R:Sl→Int→World→Prop) w (h:
 Cl Pg [kS,kB] cp ⟨[(.pointer a)]⟩ w fun (d:Sl) (e:Bool) c=>
 aa (!e)
 (R (⟨none,0,0⟩:Sl) 280 c)
 (ar a fun f=>
 Ld (aq .u32) (f.add 6) c fun (g:Int)=>
 Nw 26 ⟨[(ah b)]⟩ c fun i h=>
 Cl Pg [(aq .u32)] fM ⟨[(.int .u32 g),(ah (⟨some ⟨i,0,none⟩,1,1⟩:Sl))]⟩ h fun (k:Int) j=>
 ar a fun l=>
 St (l.add 6) (.int .u32 k) j fun m=>
 br b d m fun n o (p:Sl) (q:Sl) r=>
 aa (decide ((p.len:Int)>0))
 (aK r fun z=>
 ar a fun a1=>
 Ld kI (a1.add 0) z fun (b1:Int)=>
 ar a fun c1=>
 Ld kI (c1.add 1) z fun (d1:Int)=>
 aK z fun r1=>
 ar a fun s1=>
 Ld kP (s1.add 3) r1 fun t1=>
 ar a fun u1=>
 Ld kS (u1.add 4) r1 fun (v1:Sl)=>
 an v1 0 2 fun x1=>
 Ld (.st [.int .i64,.int .i64]) x1 r1 fun y1=>
 ar a fun z1=>
 Ld kI (z1.add 1) r1 fun (a2:Int)=>
 bf p 0 (if (i64 (b1 - d1))<(p.len:Int) then (i64 (b1 - d1)) else (p.len:Int)) (p).cap 1 fun b2=>
 Cl Pg [kB] gn ⟨[(.pointer t1),(.agg ⟨[(ni y1.1),(ni y1.2.1)]⟩),(ni a2),(ah b2)]⟩ r1 fun (d2:Bool) c2=>
 bD (fun (x2:World)=>
 ar a fun y2=>
 Ld kI (y2.add 1) x2 fun (z2:Int)=>
 ar a fun a3=>
 St (a3.add 1) (ni (i64 (z2+(if (i64 (b1 - d1))<(p.len:Int) then (i64 (b1 - d1)) else (p.len:Int))))) x2 fun b3=>
 aK b3 fun i3=>
 ar a fun j3=>
 Ld kI (j3.add 1) i3 fun (k3:Int)=>
 ar a fun l3=>
 Ld kI (l3.add 0) i3 fun (m3:Int)=>
 aa (k3==m3)
 (Cl Pg [kS] dy ⟨[(.pointer a)]⟩ i3 fun (o3:Sl) n3=>
 au Pg (Builtin.append_ #[26,26] 26 ⟨[(ah q),(ah o3)]⟩) kS n3 fun (q3:Sl) p3=>
 bf p (if (i64 (b1 - d1))<(p.len:Int) then (i64 (b1 - d1)) else (p.len:Int)) (p).len (p).cap 1 fun r3=>
 n r3 q3 p3∧o r3 q3 p3<o p q r)
 (bf p (if (i64 (b1 - d1))<(p.len:Int) then (i64 (b1 - d1)) else (p.len:Int)) (p).len (p).cap 1 fun s3=>
 n s3 q i3∧o s3 q i3<o p q r)) fun e2=>
 aK c2 fun f2=>
 ar a fun g2=>
 bf p 0 (if (i64 (b1 - d1))<(p.len:Int) then (i64 (b1 - d1)) else (p.len:Int)) (p).cap 1 fun h2=>
 (Ld (aq .u32) (g2.add 5) f2 fun (i2:Int)=>
 Nw 26 ⟨[(ah h2)]⟩ f2 fun k2 j2=>
 Cl Pg [(aq .u32)] fM ⟨[(.int .u32 i2),(ah (⟨some ⟨k2,0,none⟩,1,1⟩:Sl))]⟩ j2 fun (m2:Int) l2=>
 ar a fun n2=>
 St (n2.add 5) (.int .u32 m2) l2 fun o2=>
 e2 o2)∧
 (Nw 26 ⟨[(ah h2)]⟩ f2 fun q2 p2=>
 Ld (aq .u32) (g2.add 5) p2 fun (r2:Int)=>
 Cl Pg [(aq .u32)] fM ⟨[(.int .u32 r2),(ah (⟨some ⟨q2,0,none⟩,1,1⟩:Sl))]⟩ p2 fun (t2:Int) s2=>
 ar a fun u2=>
 St (u2.add 5) (.int .u32 t2) s2 fun v2=>
 e2 v2))
 (R q 0 r))):Cl Pg [kS,kI] bO ⟨[(.pointer a),(ah b)]⟩ w R:=co Tryz.f33 [(12,[(1,kS),(6,kS)]),(21,[])] h
theorem jF.ok (a:(Option Addr)) (R:Sl→Int→World→Prop) w (h:
 Cl Pg [kS,kB] cp ⟨[(.pointer a)]⟩ w fun (c:Sl) (d:Bool) b=>
 aa (!d)
 (R (⟨none,0,0⟩:Sl) 280 b)
 (ar a fun e=>
 Ld kI (e.add 1) b fun (f:Int)=>
 aa (decide (f>0))
 (Cl Pg [kS] dy ⟨[(.pointer a)]⟩ b fun (h:Sl) g=>
 au Pg (Builtin.append_ #[26,26] 26 ⟨[(ah c),(ah h)]⟩) kS g fun (j:Sl) i=>
 R j 0 i)
 (R c 0 b))):Cl Pg [kS,kI] bh ⟨[(.pointer a)]⟩ w R:=co Tryz.f35 [] h
theorem pU.ok (a:(Option Addr)) (R:Sl→Int→World→Prop) w (h:
 Cl Pg [kS,kI] bh ⟨[(.pointer a)]⟩ w fun (c:Sl) (d:Int) b=>
 aa (d !=0)
 (R (⟨none,0,0⟩:Sl) d b)
 (ar a fun e=>
 St (e.add 8) (.bool true) b fun f=>
 ar a fun g=>
 Ld (aq .u32) (g.add 6) f fun (h:Int)=>
 Cl Pg [kS] jZ ⟨[(.int .u32 h)]⟩ f fun (j:Sl) i=>
 au Pg (Builtin.append_ #[26,26] 26 ⟨[(ah c),(ah j)]⟩) kS i fun (l:Sl) k=>
 R l 0 k)):Cl Pg [kS,kI] cm ⟨[(.pointer a)]⟩ w R:=co Tryz.f37 [] h
theorem kj.ok (a:(Option Addr)) (R:Int→World→Prop) w (h:
 aa (Option.isNone (a:Option Addr))
 (R 0 w)
 (ar a fun b=>
 Ld kI (b.add 1) w fun (c:Int)=>
 R c w)):Cl Pg [kI] cB ⟨[(.pointer a)]⟩ w R:=co Tryz.f39 [] h
theorem kb.ok (a:(Option Addr)) (R:Int→World→Prop) w (h:
 aa (Option.isNone (a:Option Addr))
 (R 0 w)
 (ar a fun b=>
 Ld (aq .u8) (b.add 2) w fun (c:Int)=>
 R c w)):Cl Pg [(aq .u8)] bU ⟨[(.pointer a)]⟩ w R:=co Tryz.f40 [] h
theorem jS.ok (a:(Option Addr)) (R:Int→World→Prop) w (h:
 aa (Option.isNone (a:Option Addr))
 (R 0 w)
 (ar a fun b=>
 Ld kP (b.add 3) w fun c=>
 Cl Pg [kI] gX ⟨[(.pointer c)]⟩ w fun (e:Int) d=>
 R e d)):Cl Pg [kI] cC ⟨[(.pointer a)]⟩ w R:=co Tryz.f41 [] h
theorem fy.ok (a:(Option Addr)) (R:Sl→Bool→World→Prop) w (h:
 aa (Option.isNone (a:Option Addr))
 (R (⟨none,0,0⟩:Sl) false w)
 (ar a fun b=>
 Ld kB (b.add 8) w fun (c:Bool)=>
 aa c
 (R (⟨none,0,0⟩:Sl) false w)
 (ar a fun d=>
 Ld kB (d.add 7) w fun (e:Bool)=>
 aa (!e)
 (ar a fun f=>
 Ld kI (f.add 0) w fun (g:Int)=>
 Cl Pg [kS,kI] mU ⟨[(.agg ⟨[(ni g)]⟩)]⟩ w fun (i:Sl) (j:Int) h=>
 ar a fun k=>
 St (k.add 7) (.bool true) h fun l=>
 R i true l)
 (R (⟨none,0,0⟩:Sl) true w)))):Cl Pg [kS,kB] cp ⟨[(.pointer a)]⟩ w R:=co Tryz.f88 [] h
theorem re.ok (a:(Option Addr)) (R:Sl→World→Prop) w (h:
 au Pg (Instr.makeMap 210 none) kM w fun c b=>
 au Pg (do Instr.mapUpdate 210 (.map c) (.int .u8 1) (.func (.func 140) ⟨[(.pointer a)]⟩ ⟨[]⟩);pure undef) kV b fun _ d=>
 au Pg (do Instr.mapUpdate 210 (.map c) (.int .u8 2) (.func (.func 140) ⟨[(.pointer a)]⟩ ⟨[]⟩);pure undef) kV d fun _ e=>
 au Pg (do Instr.mapUpdate 210 (.map c) (.int .u8 3) (.func (.func 141) ⟨[(.pointer a)]⟩ ⟨[]⟩);pure undef) kV e fun _ f=>
 Cl Pg [] eW ⟨[(.pointer a)]⟩ f fun g=>
 ar a fun h=>
 Ld (aq .u8) (h.add 2) g fun (i:Int)=>
 au Pg (Instr.lookup 210 (.map c) (.int .u8 i) false) kV g fun k j=>
 db Pg k [(.st [.int .i64,.int .i64]),kI] [] j fun m (n:Int) l=>
 Nw 146 ⟨[(ni 0),(ni 0)]⟩ l fun p o=>
 bj ⟨p,0,none⟩ [(ni m.1),(ni m.2.1)] 0 o fun q=>
 gm q fun e1 f1=>
 ar a fun g1=>
 aH kI (g1.add 0) e1 fun (h1:Int)=>
 ar a fun i1=>
 aH kI (i1.add 1) e1 fun (j1:Int)=>
 ar a fun k1=>
 aH (aq .u32) (k1.add 5) e1 fun (l1:Int)=>
 Cl Pg [kS,kI] iE ⟨[(ni h1),(.agg ⟨[(ni j1),(ni n),(.int .u32 l1)]⟩)]⟩ f1 fun (n1:Sl) (o1:Int) m1=>
 e1 m1∧
 aK m1 fun z1=>
 ar a fun a2=>
 Ld kP (a2.add 3) z1 fun b2=>
 Ld (.st [.int .i64,.int .i64]) ⟨p,0,none⟩ z1 fun c2=>
 Cl Pg [kS] gH ⟨[(.pointer b2),(.agg ⟨[(ni c2.1),(ni c2.2.1)]⟩)]⟩ z1 fun (e2:Sl) d2=>
 Cl Pg [kS] mV ⟨[(ah e2)]⟩ d2 fun (g2:Sl) f2=>
 Cl Pg [(.arr 258),kI] kE ⟨[(ah g2)]⟩ f2 fun i2 (j2:Int) h2=>
 Nw 215 ⟨List.replicate 258 (ni 0)⟩ h2 fun l2 k2=>
 ax 258 ⟨l2,0,none⟩ i2 k2 fun m2=>
 Ld (.arr 258) ⟨l2,0,none⟩ m2 fun n2=>
 Cl Pg [(.arr 258),kI] de ⟨[(.agg n2),(ni 15)]⟩ m2 fun p2 (q2:Int) o2=>
 Nw 104 ⟨List.replicate 258 (.int .u8 0)⟩ o2 fun s2 r2=>
 ax 258 ⟨s2,0,none⟩ p2 r2 fun t2=>
 Cl Pg [kP] km ⟨[]⟩ t2 fun v2 u2=>
 Ld (.arr 258) ⟨s2,0,none⟩ u2 fun x2=>
 Cl Pg [kI] iK ⟨[(.pointer v2),(.agg x2)]⟩ u2 fun (z2:Int) y2=>
 Ld (.arr 258) ⟨s2,0,none⟩ y2 fun a3=>
 Cl Pg [kI] j5 ⟨[(.pointer v2),(.agg a3),(ah g2)]⟩ y2 fun (c3:Int) b3=>
 ar a fun d3=>
 St (d3.add 1) (ni 0) b3 fun e3=>
 ar a fun f3=>
 St (f3.add 5) (.int .u32 0) e3 fun g3=>
 Cl Pg [kS] eh ⟨[(.pointer v2)]⟩ g3 fun (i3:Sl) h3=>
 au Pg (Builtin.append_ #[26,26] 26 ⟨[(ah n1),(ah i3)]⟩) kS h3 fun (k3:Sl) j3=>
 R k3 j3):Cl Pg [kS] dy ⟨[(.pointer a)]⟩ w R:=co Tryz.f91 [] h
theorem pC.ok (a:(Option Addr)) (R:(TT [.int .i64,.int .i64])→Int→World→Prop) w (h:
 Nw 146 ⟨[(ni 0),(ni 0)]⟩ w fun c b=>
 gm b fun d e=>
 ar a fun f=>
 aH kP (f.add 3) d fun g=>
 Cl Pg [(.st [.int .i64,.int .i64])] bz ⟨[(.pointer a),(ni 0)]⟩ e fun i h=>
 d h∧
 Cl Pg [kI,kI,kI] iD ⟨[(.pointer g),(.agg ⟨[(ni i.1),(ni i.2.1)]⟩)]⟩ h fun (k:Int) (l:Int) (m:Int) j=>
 d j∧
 Cl Pg [(.st [.int .i64,.int .i64])] bz ⟨[(.pointer a),(ni 0)]⟩ j fun o n=>
 bj ⟨c,0,none⟩ [(ni o.1),(ni o.2.1)] 0 n fun p=>
 Ld (.st [.int .i64,.int .i64]) ⟨c,0,none⟩ p fun q=>
 R q k p):Cl Pg [(.st [.int .i64,.int .i64]),kI] ew ⟨[(.pointer a)]⟩ w R:=co Tryz.f140 [] h
theorem p5.ok (a:(Option Addr)) (R:(TT [.int .i64,.int .i64])→Int→World→Prop) w (h:
 Nw 146 ⟨[(ni 0),(ni 0)]⟩ w fun c b=>
 gm b fun d e=>
 ar a fun f=>
 aH kP (f.add 3) d fun g=>
 ar a fun h=>
 aH kS (h.add 4) d fun (i:Sl)=>
 an i 2 2 fun j=>
 aH (.st [.int .i64,.int .i64]) j d fun k=>
 Cl Pg [(.st [.int .i64,.int .i64])] bz ⟨[(.pointer a),(ni 0)]⟩ e fun m l=>
 d l∧
 Cl Pg [(.st [.int .i64,.int .i64])] bz ⟨[(.pointer a),(ni 1)]⟩ l fun o n=>
 d n∧
 Cl Pg [kI,kI,kI] jq ⟨[(.pointer g),(.agg ⟨[(ni m.1),(ni m.2.1)]⟩),(.agg ⟨[(ni o.1),(ni o.2.1)]⟩),(.agg ⟨[(ni k.1),(ni k.2.1)]⟩)]⟩ n fun (q:Int) (r:Int) (s:Int) p=>
 d p∧
 Cl Pg [(.st [.int .i64,.int .i64])] bz ⟨[(.pointer a),(ni 1)]⟩ p fun u t=>
 bj ⟨c,0,none⟩ [(ni u.1),(ni u.2.1)] 0 t fun v=>
 Ld (.st [.int .i64,.int .i64]) ⟨c,0,none⟩ v fun x=>
 R x q v):Cl Pg [(.st [.int .i64,.int .i64]),kI] eY ⟨[(.pointer a)]⟩ w R:=co Tryz.f141 [] h
theorem qi.ok (a:(Option Addr)) (R:World→Prop) w (h:
 ar a fun b=>
 Ld kS (b.add 4) w fun (c:Sl)=>
 an c 0 2 fun d=>
 Ld (.st [.int .i64,.int .i64]) d w fun e=>
 Nw 146 ⟨[(ni 0),(ni 0)]⟩ w fun g f=>
 bj ⟨g,0,none⟩ [(ni e.1),(ni e.2.1)] 0 f fun h=>
 aK h fun i=>
 ar a fun j=>
 Ld kI (j.add 1) i fun (k:Int)=>
 br 0 (i64 (k - 1)) i fun l m (n:Int) (o:Int) p=>
 aa (decide (n<o))
 (aK p fun q=>
 ar a fun r=>
 Ld kP (r.add 3) q fun s=>
 Ld (.st [.int .i64,.int .i64]) ⟨g,0,none⟩ q fun t=>
 Cl Pg [(aq .u8),kB] bu ⟨[(.pointer s),(.agg ⟨[(ni t.1),(ni t.2.1)]⟩),(ni n)]⟩ q fun (v:Int) (x:Bool) u=>
 aK u fun y=>
 ar a fun z=>
 Ld kP (z.add 3) y fun a1=>
 Ld (.st [.int .i64,.int .i64]) ⟨g,0,none⟩ y fun b1=>
 Cl Pg [(aq .u8),kB] bu ⟨[(.pointer a1),(.agg ⟨[(ni b1.1),(ni b1.2.1)]⟩),(ni o)]⟩ y fun (d1:Int) (e1:Bool) c1=>
 aK c1 fun f1=>
 ar a fun g1=>
 Ld kP (g1.add 3) f1 fun h1=>
 Ld (.st [.int .i64,.int .i64]) ⟨g,0,none⟩ f1 fun i1=>
 Cl Pg [kB] bF ⟨[(.pointer h1),(.agg ⟨[(ni i1.1),(ni i1.2.1)]⟩),(ni n),(.int .u8 d1)]⟩ f1 fun (k1:Bool) j1=>
 aK j1 fun l1=>
 ar a fun m1=>
 Ld kP (m1.add 3) l1 fun n1=>
 Ld (.st [.int .i64,.int .i64]) ⟨g,0,none⟩ l1 fun o1=>
 Cl Pg [kB] bF ⟨[(.pointer n1),(.agg ⟨[(ni o1.1),(ni o1.2.1)]⟩),(ni o),(.int .u8 v)]⟩ l1 fun (q1:Bool) p1=>
 l (i64 (n+1)) (i64 (o - 1)) p1∧m (i64 (n+1)) (i64 (o - 1)) p1<m n o p)
 (R p)):Cl Pg [] eW ⟨[(.pointer a)]⟩ w R:=co Tryz.f142 [(4,[(3,kI),(4,kI)])] h
theorem qn.ok (a:(Option Addr)) (b:Int) (R:(TT [.int .i64,.int .i64])→World→Prop) w (h:
 Nw 146 ⟨[(ni 0),(ni 0)]⟩ w fun d c=>
 aK c fun e=>
 ar a fun f=>
 Ld kS (f.add 4) e fun (g:Sl)=>
 an g b 2 fun h=>
 Ld kI (h.add 0) e fun (i:Int)=>
 ar a fun j=>
 Ld kI (j.add 1) e fun (k:Int)=>
 bj ⟨d,0,none⟩ [(ni i),(ni k)] 0 e fun l=>
 Ld (.st [.int .i64,.int .i64]) ⟨d,0,none⟩ l fun m=>
 R m l):Cl Pg [(.st [.int .i64,.int .i64])] bz ⟨[(.pointer a),(ni b)]⟩ w R:=co Tryz.f195 [] h
end Go.Proofs.YtgglghjnakclmaaGreat
namespace Go.Proofs.YtgglghjnakclmaaGreat
open Go Go.Vc
set_option maxRecDepth 100000
theorem uM.ok (a:(Option Addr)) (b:(TT [.int .i64,.int .i64])) (R:Int→Int→Int→World→Prop) w (h:
 Nw 146 ⟨[(ni b.1),(ni b.2.1)]⟩ w fun d c=>
 Ld (.st [.int .i64,.int .i64]) ⟨d,0,none⟩ c fun e=>
 Cl Pg [kB] ie ⟨[(.pointer a),(.agg ⟨[(ni e.1),(ni e.2.1)]⟩)]⟩ c fun (g:Bool) f=>
 aa (!g)
 (R 0 0 2 f)
 (Ld (.st [.int .i64,.int .i64]) ⟨d,0,none⟩ f fun h=>
 Nw 324 ⟨[(.pointer a),(ni h.1),(ni h.2.1)]⟩ f fun j i=>
 Ld kI (Addr.add ⟨d,0,none⟩ 1) i fun (k:Int)=>
 zx 0 0 (i64 (k - 1)) i fun l m (n:Int) (o:Int) (p:Int) q=>
 aa (decide (p≥0))
 (Ld kI (Addr.add ⟨d,0,none⟩ 1) q fun (r:Int)=>
 Cl Pg [kI] dN ⟨[(.pointer (some ⟨j,0,none⟩)),(ni p),(ni n)]⟩ q fun (t:Int) s=>
 l t (i64 (o+(i64 ((i64 ((i64 (r - 1)) - p))+n)))) (i64 (p - 1)) s∧m t (i64 (o+(i64 ((i64 ((i64 (r - 1)) - p))+n)))) (i64 (p - 1)) s<m n o p q)
 (R n o 0 q))):Cl Pg [kI,kI,kI] iD ⟨[(.pointer a),(.agg ⟨[(ni b.1),(ni b.2.1)]⟩)]⟩ w R:=co Tryz.f194 [(12,[(4,kI),(5,kI),(8,kI)])] h
theorem uq.ok (a:(Option Addr)) (b:(TT [.int .i64,.int .i64])) (R:Bool→World→Prop) w (h:
 Nw 146 ⟨[(ni b.1),(ni b.2.1)]⟩ w fun d c=>
 Ld (.st [.int .i64,.int .i64]) ⟨d,0,none⟩ c fun e=>
 Cl Pg [kB] bC ⟨[(.pointer a),(.agg ⟨[(ni e.1),(ni e.2.1)]⟩)]⟩ c fun (g:Bool) f=>
 aa g
 (Ld kI (Addr.add ⟨d,0,none⟩ 1) f fun (h:Int)=>
 aa (decide (h>0))
 (Ld kI (Addr.add ⟨d,0,none⟩ 1) f fun (i:Int)=>
 R (decide (i≤65536)) f)
 (R false f))
 (R false f)):Cl Pg [kB] ie ⟨[(.pointer a),(.agg ⟨[(ni b.1),(ni b.2.1)]⟩)]⟩ w R:=co Tryz.f253 [] h
theorem n5.ok (a:(Option Addr)) (b:Int) (c:Int) (R:Int→World→Prop) w (h:
 Cl Pg [(aq .u8)] cn ⟨[(.pointer a),(ni b)]⟩ w fun (e:Int) d=>
 ar a fun f=>
 Ld kI ((f.add 1).add 1) d fun (g:Int)=>
 br 1 0 d fun h i (j:Int) (k:Int) l=>
 aa (decide (k<(i64 ((i64 (g - b)) - 1))))
 (Cl Pg [(aq .u8)] cn ⟨[(.pointer a),(ni (i64 ((i64 (b+1))+k)))]⟩ l fun (n:Int) m=>
 aa (decide (n<e))
 (h (i64 (j+1)) (i64 (k+1)) m∧i (i64 (j+1)) (i64 (k+1)) m<i j k l)
 (aa (n==e)
 (aa (decide (k<c))
 (h (i64 (j+1)) (i64 (k+1)) m∧i (i64 (j+1)) (i64 (k+1)) m<i j k l)
 (h j (i64 (k+1)) m∧i j (i64 (k+1)) m<i j k l))
 (h j (i64 (k+1)) m∧i j (i64 (k+1)) m<i j k l)))
 (da 0 l fun o p (q:Int) r=>
 aa (decide (q<c))
 (gm r fun s t=>
 ar a fun u=>
 aH kP (u.add 0) s fun v=>
 ar a fun x=>
 aH (.st [.int .i64,.int .i64]) (x.add 1) s fun y=>
 Cl Pg [(aq .u8)] cn ⟨[(.pointer a),(ni (i64 ((i64 (b+q))+1)))]⟩ t fun (a1:Int) z=>
 s z∧
 Cl Pg [kB] bF ⟨[(.pointer v),(.agg ⟨[(ni y.1),(ni y.2.1)]⟩),(ni (i64 (b+q))),(.int .u8 a1)]⟩ z fun (c1:Bool) b1=>
 s b1∧
 o (i64 (q+1)) b1∧p (i64 (q+1)) b1<p q r)
 (aK r fun d1=>
 ar a fun e1=>
 Ld kP (e1.add 0) d1 fun f1=>
 ar a fun g1=>
 Ld (.st [.int .i64,.int .i64]) (g1.add 1) d1 fun h1=>
 Cl Pg [kB] bF ⟨[(.pointer f1),(.agg ⟨[(ni h1.1),(ni h1.2.1)]⟩),(ni (i64 (b+c))),(.int .u8 e)]⟩ d1 fun (j1:Bool) i1=>
 R j i1))):Cl Pg [kI] dN ⟨[(.pointer a),(ni b),(ni c)]⟩ w R:=co Tryz.f254 [(9,[(8,kI),(23,kI)]),(25,[(49,kI)])] h
theorem px.ok (a:(Option Addr)) (b:Int) (R:Int→World→Prop) w (h:
 aK w fun c=>
 ar a fun d=>
 Ld kP (d.add 0) c fun e=>
 ar a fun f=>
 Ld (.st [.int .i64,.int .i64]) (f.add 1) c fun g=>
 Cl Pg [(aq .u8),kB] bu ⟨[(.pointer e),(.agg ⟨[(ni g.1),(ni g.2.1)]⟩),(ni b)]⟩ c fun (i:Int) (j:Bool) h=>
 R i h):Cl Pg [(aq .u8)] cn ⟨[(.pointer a),(ni b)]⟩ w R:=co Tryz.f300 [] h
end Go.Proofs.YtgglghjnakclmaaGreat
namespace Go.Proofs.YtgglghjnakclmaaGreat
open Go Go.Vc
set_option maxRecDepth 100000
theorem FI.ok (a:Int) (R:(Option Addr)→Int→World→Prop) w (h:
 aa (decide (a<1))
 (R none 2 w)
 (aa (decide (a>1048576))
 (R none 2 w)
 (au Pg (Instr.makeSlice 26 (ni a) (ni a)) kS w fun (c:Sl) b=>
 Nw 199 ⟨[(ah c),(ni 0),(ni 0)]⟩ b fun e d=>
 R (some ⟨e,0,none⟩) 0 d))):Cl Pg [kP,kI] oE ⟨[(ni a)]⟩ w R:=co Tryz.f84 [] h
theorem uc.ok (a:(Option Addr)) (b:Int) (R:(TT [.int .i64,.int .i64])→Int→World→Prop) w (h:
 Nw 146 ⟨[(ni 0),(ni 0)]⟩ w fun d c=>
 aa (Option.isNone (a:Option Addr))
 (bj ⟨d,0,none⟩ [(ni 0),(ni 0)] 0 c fun e=>
 Ld (.st [.int .i64,.int .i64]) ⟨d,0,none⟩ e fun f=>
 R f 2 e)
 (aa (decide (b<0))
 (bj ⟨d,0,none⟩ [(ni 0),(ni 0)] 0 c fun g=>
 Ld (.st [.int .i64,.int .i64]) ⟨d,0,none⟩ g fun h=>
 R h 2 g)
 (aK c fun i=>
 ar a fun j=>
 Ld kS (j.add 0) i fun (k:Sl)=>
 ar a fun l=>
 Ld kI (l.add 1) i fun (m:Int)=>
 aa (decide (b>(i64 ((k.len:Int) - m))))
 (bj ⟨d,0,none⟩ [(ni 0),(ni 0)] 0 i fun n=>
 Ld (.st [.int .i64,.int .i64]) ⟨d,0,none⟩ n fun o=>
 R o 10 n)
 (ar a fun p=>
 Ld kI (p.add 1) i fun (q:Int)=>
 Nw 146 ⟨[(ni 0),(ni 0)]⟩ i fun s r=>
 bj ⟨s,0,none⟩ [(ni q),(ni b)] 0 r fun t=>
 aK t fun u=>
 ar a fun v=>
 Ld kS (v.add 0) u fun (x:Sl)=>
 Ld kI (Addr.add ⟨s,0,none⟩ 0) u fun (y:Int)=>
 Ld kI (Addr.add ⟨s,0,none⟩ 0) u fun (z:Int)=>
 bf x y (i64 (z+b)) (x).cap 1 fun a1=>
 au Pg (Builtin.clear_ #[26] 0 ⟨[(ah a1)]⟩) kV u fun c1 b1=>
 ar a fun d1=>
 Ld kI (d1.add 1) b1 fun (e1:Int)=>
 ar a fun f1=>
 St (f1.add 1) (ni (i64 (e1+b))) b1 fun g1=>
 aK g1 fun h1=>
 ar a fun i1=>
 Ld kI (i1.add 2) h1 fun (j1:Int)=>
 ar a fun k1=>
 Ld kI (k1.add 1) h1 fun (l1:Int)=>
 ar a fun m1=>
 St (m1.add 2) (ni (if l1>j1 then l1 else j1)) h1 fun n1=>
 Ld (.st [.int .i64,.int .i64]) ⟨s,0,none⟩ n1 fun o1=>
 bj ⟨d,0,none⟩ [(ni o1.1),(ni o1.2.1)] 0 n1 fun p1=>
 Ld (.st [.int .i64,.int .i64]) ⟨d,0,none⟩ p1 fun q1=>
 R q1 0 p1)))):Cl Pg [(.st [.int .i64,.int .i64]),kI] gO ⟨[(.pointer a),(ni b)]⟩ w R:=co Tryz.f86 [] h
theorem sN.ok (a:(Option Addr)) (b:(TT [.int .i64,.int .i64])) (c:Int) (d:Sl) (R:Bool→World→Prop) w (h:
 Nw 146 ⟨[(ni b.1),(ni b.2.1)]⟩ w fun f e=>
 Ld (.st [.int .i64,.int .i64]) ⟨f,0,none⟩ e fun g=>
 Cl Pg [kB] bC ⟨[(.pointer a),(.agg ⟨[(ni g.1),(ni g.2.1)]⟩)]⟩ e fun (i:Bool) h=>
 aa (!i)
 (R false h)
 (aa (decide (c<0))
 (R false h)
 (Ld kI (Addr.add ⟨f,0,none⟩ 1) h fun (j:Int)=>
 aa (decide (c>(i64 (j - (d.len:Int)))))
 (R false h)
 (aK h fun k=>
 ar a fun l=>
 Ld kS (l.add 0) k fun (m:Sl)=>
 Ld kI (Addr.add ⟨f,0,none⟩ 0) k fun (n:Int)=>
 bf m (i64 (n+c)) (m).len (m).cap 1 fun o=>
 au Pg (Builtin.copy_ #[26,26] 3 ⟨[(ah o),(ah d)]⟩) kI k fun (q:Int) p=>
 R true p)))):Cl Pg [kB] gn ⟨[(.pointer a),(.agg ⟨[(ni b.1),(ni b.2.1)]⟩),(ni c),(ah d)]⟩ w R:=co Tryz.f90 [] h
theorem uo.ok (a:(Option Addr)) (R:Int→World→Prop) w (h:
 aa (Option.isNone (a:Option Addr))
 (R 0 w)
 (ar a fun b=>
 Ld kI (b.add 2) w fun (c:Int)=>
 R c w)):Cl Pg [kI] gX ⟨[(.pointer a)]⟩ w R:=co Tryz.f95 [] h
theorem u6.ok (a:(Option Addr)) (b:(TT [.int .i64,.int .i64])) (R:Bool→World→Prop) w (h:
 Nw 146 ⟨[(ni b.1),(ni b.2.1)]⟩ w fun d c=>
 aK c fun e=>
 aa (!(Option.isNone (a:Option Addr)))
 (Ld kI (Addr.add ⟨d,0,none⟩ 0) e fun (f:Int)=>
 aa (decide (f≥0))
 (Ld kI (Addr.add ⟨d,0,none⟩ 1) e fun (g:Int)=>
 aa (decide (g≥0))
 (Ld kI (Addr.add ⟨d,0,none⟩ 0) e fun (h:Int)=>
 ar a fun i=>
 Ld kI (i.add 1) e fun (j:Int)=>
 aa (decide (h≤j))
 (Ld kI (Addr.add ⟨d,0,none⟩ 1) e fun (k:Int)=>
 ar a fun l=>
 Ld kI (l.add 1) e fun (m:Int)=>
 Ld kI (Addr.add ⟨d,0,none⟩ 0) e fun (n:Int)=>
 R (decide (k≤(i64 (m - n)))) e)
 (R false e))
 (R false e))
 (R false e))
 (R false e)):Cl Pg [kB] bC ⟨[(.pointer a),(.agg ⟨[(ni b.1),(ni b.2.1)]⟩)]⟩ w R:=co Tryz.f139 [] h
theorem ui.ok (a:(Option Addr)) (b:(TT [.int .i64,.int .i64])) (R:Sl→World→Prop) w (h:
 Nw 146 ⟨[(ni b.1),(ni b.2.1)]⟩ w fun d c=>
 Ld (.st [.int .i64,.int .i64]) ⟨d,0,none⟩ c fun e=>
 Cl Pg [kB] bC ⟨[(.pointer a),(.agg ⟨[(ni e.1),(ni e.2.1)]⟩)]⟩ c fun (g:Bool) f=>
 aa (!g)
 (R (⟨none,0,0⟩:Sl) f)
 (aK f fun h=>
 ar a fun i=>
 Ld kS (i.add 0) h fun (j:Sl)=>
 Ld kI (Addr.add ⟨d,0,none⟩ 0) h fun (k:Int)=>
 Ld kI (Addr.add ⟨d,0,none⟩ 0) h fun (l:Int)=>
 Ld kI (Addr.add ⟨d,0,none⟩ 1) h fun (m:Int)=>
 bf j k (i64 (l+m)) (j).cap 1 fun n=>
 Cl Pg [kS] ja ⟨[(ah n)]⟩ h fun (p:Sl) o=>
 R p o)):Cl Pg [kS] gH ⟨[(.pointer a),(.agg ⟨[(ni b.1),(ni b.2.1)]⟩)]⟩ w R:=co Tryz.f145 [] h
theorem tF.ok (a:(Option Addr)) (b:(TT [.int .i64,.int .i64])) (c:Int) (R:Int→Bool→World→Prop) w (h:
 Nw 146 ⟨[(ni b.1),(ni b.2.1)]⟩ w fun e d=>
 Ld (.st [.int .i64,.int .i64]) ⟨e,0,none⟩ d fun f=>
 Cl Pg [kS] di ⟨[(.pointer a),(.agg ⟨[(ni f.1),(ni f.2.1)]⟩),(ni c),(ni 1)]⟩ d fun (h:Sl) g=>
 aa (Option.isNone (h).base)
 (R 0 false g)
 (an h 0 1 fun i=>
 Ld (aq .u8) i g fun (j:Int)=>
 R j true g)):Cl Pg [(aq .u8),kB] bu ⟨[(.pointer a),(.agg ⟨[(ni b.1),(ni b.2.1)]⟩),(ni c)]⟩ w R:=co Tryz.f197 [] h
theorem rf.ok (a:(Option Addr)) (b:(TT [.int .i64,.int .i64])) (c:Int) (d:Int) (R:Bool→World→Prop) w (h:
 Nw 146 ⟨[(ni b.1),(ni b.2.1)]⟩ w fun f e=>
 Ld (.st [.int .i64,.int .i64]) ⟨f,0,none⟩ e fun g=>
 Cl Pg [kS] di ⟨[(.pointer a),(.agg ⟨[(ni g.1),(ni g.2.1)]⟩),(ni c),(ni 1)]⟩ e fun (i:Sl) h=>
 aa (Option.isNone (i).base)
 (R false h)
 (an i 0 1 fun j=>
 St j (.int .u8 d) h fun k=>
 R true k)):Cl Pg [kB] bF ⟨[(.pointer a),(.agg ⟨[(ni b.1),(ni b.2.1)]⟩),(ni c),(.int .u8 d)]⟩ w R:=co Tryz.f198 [] h
theorem ub.ok (a:(Option Addr)) (b:(TT [.int .i64,.int .i64])) (c:Int) (d:Int) (R:Sl→World→Prop) w (h:
 Nw 146 ⟨[(ni b.1),(ni b.2.1)]⟩ w fun f e=>
 Ld (.st [.int .i64,.int .i64]) ⟨f,0,none⟩ e fun g=>
 Cl Pg [kB] bC ⟨[(.pointer a),(.agg ⟨[(ni g.1),(ni g.2.1)]⟩)]⟩ e fun (i:Bool) h=>
 aa (!i)
 (R (⟨none,0,0⟩:Sl) h)
 (aa (decide (c<0))
 (R (⟨none,0,0⟩:Sl) h)
 (Ld kI (Addr.add ⟨f,0,none⟩ 1) h fun (j:Int)=>
 aa (decide (c>(i64 (j - d))))
 (R (⟨none,0,0⟩:Sl) h)
 (Ld kI (Addr.add ⟨f,0,none⟩ 0) h fun (k:Int)=>
 ar a fun l=>
 Ld kS (l.add 0) h fun (m:Sl)=>
 bf m (i64 (c+k)) (i64 ((i64 (c+k))+d)) (i64 ((i64 (c+k))+d)) 1 fun n=>
 R n h)))):Cl Pg [kS] di ⟨[(.pointer a),(.agg ⟨[(ni b.1),(ni b.2.1)]⟩),(ni c),(ni d)]⟩ w R:=co Tryz.f261 [] h
theorem ri.ok (a:(Option Addr)) (b:(TT [.int .i64,.int .i64])) (c:Int) (d:Int) (R:Bool→World→Prop) w (h:
 Nw 146 ⟨[(ni b.1),(ni b.2.1)]⟩ w fun f e=>
 Ld (.st [.int .i64,.int .i64]) ⟨f,0,none⟩ e fun g=>
 Cl Pg [kS] eV ⟨[(.pointer a),(.agg ⟨[(ni g.1),(ni g.2.1)]⟩),(ni c)]⟩ e fun (i:Sl) h=>
 da 0 h fun j k (l:Int) m=>
 aa (decide (l<(i.len:Int)))
 (0≤(i64 ((8:Int)*l))∧
 an i l 1 fun n=>
 St n (.int .u8 (u8 (aN .u32 d (i64 ((8:Int)*l))))) m fun o=>
 j (i64 (l+1)) o∧k (i64 (l+1)) o<k l m)
 (R (!(Option.isNone (i).base)) m)):Cl Pg [kB] fu ⟨[(.pointer a),(.agg ⟨[(ni b.1),(ni b.2.1)]⟩),(ni c),(.int .u32 d)]⟩ w R:=co Tryz.f283 [(7,[(17,kI)])] h
theorem tN.ok (a:(Option Addr)) (b:(TT [.int .i64,.int .i64])) (c:Int) (R:Int→Bool→World→Prop) w (h:
 Nw 146 ⟨[(ni b.1),(ni b.2.1)]⟩ w fun e d=>
 Ld (.st [.int .i64,.int .i64]) ⟨e,0,none⟩ d fun f=>
 Cl Pg [kS] eV ⟨[(.pointer a),(.agg ⟨[(ni f.1),(ni f.2.1)]⟩),(ni c)]⟩ d fun (h:Sl) g=>
 br 0 0 g fun i j (k:Int) (l:Int) m=>
 aa (decide (l<(h.len:Int)))
 (an h l 1 fun n=>
 Ld (aq .u8) n m fun (o:Int)=>
 0≤(i64 ((8:Int)*l))∧
 i (q8 .u32 k (eA .u32 (u32 o) (i64 ((8:Int)*l)))) (i64 (l+1)) m∧j (q8 .u32 k (eA .u32 (u32 o) (i64 ((8:Int)*l)))) (i64 (l+1)) m<j k l m)
 (R k (!(Option.isNone (h).base)) m)):Cl Pg [(aq .u32),kB] hJ ⟨[(.pointer a),(.agg ⟨[(ni b.1),(ni b.2.1)]⟩),(ni c)]⟩ w R:=co Tryz.f305 [(7,[(6,(aq .u32)),(17,kI)])] h
theorem uu.ok (a:(Option Addr)) (b:(TT [.int .i64,.int .i64])) (c:Int) (R:Sl→World→Prop) w (h:
 Nw 146 ⟨[(ni b.1),(ni b.2.1)]⟩ w fun e d=>
 aa (decide (c<0))
 (R (⟨none,0,0⟩:Sl) d)
 (aa (decide (c>1048576))
 (R (⟨none,0,0⟩:Sl) d)
 (Ld (.st [.int .i64,.int .i64]) ⟨e,0,none⟩ d fun f=>
 0≤(2:Int)∧
 Cl Pg [kS] di ⟨[(.pointer a),(.agg ⟨[(ni f.1),(ni f.2.1)]⟩),(ni (eA .i64 c (2:Int))),(ni 4)]⟩ d fun (h:Sl) g=>
 R h g))):Cl Pg [kS] eV ⟨[(.pointer a),(.agg ⟨[(ni b.1),(ni b.2.1)]⟩),(ni c)]⟩ w R:=co Tryz.f316 [] h
end Go.Proofs.YtgglghjnakclmaaGreat
set_option maxRecDepth 20000
namespace Go.Vc
open Go
abbrev aP:=Nat→Option Obj
abbrev HP:=aP→Prop
def aP.emp:aP:=fun _=>none
def aP.one (b:Nat) (o:Obj):aP:=fun r=>if r=b then some o else none
def aP.add (f g:aP):aP:=fun r=>match f r with|some o=>some o|none=>g r
def jk (f g:aP):Prop:= ∀r,f r=none∨g r=none
def af (b:Nat) (o:Obj):HP:=fun f=>f=aP.one b o
def Sat:List HP→HP
 | [],f=>f=aP.emp
 |A::l,f=> ∃g h,jk g h∧f=g.add h∧A g∧Sat l h
def J3 (f:aP) (w:World):Prop:= ∀r o,f r=some o→w.heap[r]? =some o
structure Hp (E:World) (w:World) (l:List HP):Prop where
 os:w.os=E.os
 output:w.output=E.output
 tape:w.tape=E.tape
 frag: ∃f,J3 f w∧Sat l f
theorem jk.comm {f g:aP} (h:jk f g):jk g f:=fun r=>(h r).symm
theorem aP.add_comm {f g:aP} (h:jk f g):f.add g=g.add f:=by
 funext r
 unfold aP.add
 rcases h r with h|h
 ·rw [h];cases g r<;>rfl
 ·rw [h];cases f r<;>rfl
theorem aP.add_assoc (f g h:aP):(f.add g).add h=f.add (g.add h):=by
 funext r
 unfold aP.add
 cases f r<;>rfl
theorem aP.JK (f:aP):f.add aP.emp=f:=by
 funext r;unfold aP.add aP.emp;cases f r<;>rfl
theorem aP.wm (f:aP):aP.emp.add f=f:=by
 funext r;rfl
theorem jL {f g h:aP}:jk f (g.add h)↔jk f g∧jk f h:=by
 constructor
 ·intro H
  refine ⟨fun r=> ?_,fun r=> ?_⟩
  ·rcases H r with h1|h1
   ·exact .inl h1
   ·right;unfold aP.add at h1;cases hg:g r<;>simp_all
  ·rcases H r with h1|h1
   ·exact .inl h1
   ·right;unfold aP.add at h1;cases hg:g r<;>simp_all
 ·rintro ⟨h1,h2⟩ r
  rcases h1 r with h|h
  ·exact .inl h
  ·rcases h2 r with h'|h'
   ·exact .inl h'
   ·right;simp [aP.add,h,h']
theorem yh {f g h:aP}:jk (f.add g) h↔jk f h∧jk g h:=
 ⟨fun H=>let ⟨a,b⟩:=jL.1 H.comm;⟨a.comm,b.comm⟩,fun ⟨a,b⟩=>(jL.2 ⟨a.comm,b.comm⟩).comm⟩
theorem Sat.swap {A B:HP} {l:List HP} {f:aP} (h:Sat (A::B::l) f):Sat (B::A::l) f:=by
 obtain ⟨g,h1,hd,rfl,hA,g2,h2,hd2,rfl,hB,hl⟩:=h
 obtain ⟨d1,d2⟩:=jL.1 hd
 refine ⟨g2,g.add h2,jL.2 ⟨d1.comm,hd2⟩,?_,hB,g,h2,d2,rfl,hA,hl⟩
 rw [←aP.add_assoc,←aP.add_assoc,aP.add_comm d1]
theorem Sat.tail {A:HP} {l l':List HP} (h: ∀f,Sat l f→Sat l' f) {f:aP} (hs:Sat (A::l) f):Sat (A::l') f:=by
 obtain ⟨g,k,hd,rfl,hA,hl⟩:=hs
 exact ⟨g,k,hd,rfl,hA,h _ hl⟩
theorem Sat.perm {l l':List HP} (hp:l.Perm l'): ∀f,Sat l f→Sat l' f:=by
 induction hp with
 |nil=>exact fun _ h=>h
 |cons A _ ih=>exact fun f h=>h.tail ih
 |swap A B l=>exact fun f h=>h.swap
 |trans _ _ ih1 ih2=>exact fun f h=>ih2 f (ih1 f h)
theorem Sat.append {l l':List HP} {f:aP}:Sat (l++l') f↔∃g h,jk g h∧f=g.add h∧Sat l g∧Sat l' h:=by
 induction l generalizing f with
 |nil=>exact ⟨fun h=>⟨aP.emp,f,fun _=> .inl rfl,(aP.wm f).symm,rfl,h⟩,fun ⟨g,h,_,e,hg,hh⟩=>by
   have:g=aP.emp:=hg
   rw [e,this,aP.wm];exact hh⟩
 |cons A l ih=>
  constructor
  ·rintro ⟨g,h,hd,rfl,hA,hs⟩
   obtain ⟨g2,h2,hd2,rfl,hs2,hs3⟩:=ih.1 hs
   obtain ⟨d1,d2⟩:=jL.1 hd
   exact ⟨g.add g2,h2,yh.2 ⟨d2,hd2⟩,(aP.add_assoc _ _ _).symm,⟨g,g2,d1,rfl,hA,hs2⟩,hs3⟩
  ·rintro ⟨g,h,hd,rfl,⟨g2,h2,hd2,rfl,hA,hs2⟩,hs3⟩
   obtain ⟨d1,d2⟩:=yh.1 hd
   exact ⟨g2,h2.add h,jL.2 ⟨hd2,d1⟩,aP.add_assoc _ _ _,hA,ih.2 ⟨h2,h,d2,rfl,hs2,hs3⟩⟩
section
variable {E w w':World} {A B C D G:HP} {l l' F:List HP}
theorem Hp.perm (h:Hp E w l) (hp:l.Perm l'):Hp E w l':=
 ⟨h.os,h.output,h.tape,let ⟨f,a,b⟩:=h.frag;⟨f,a,Sat.perm hp f b⟩⟩
theorem Hp.p1 (h:Hp E w (A::B::F)):Hp E w (B::A::F):=h.perm (.swap ..)
theorem Hp.p2 (h:Hp E w (A::B::C::F)):Hp E w (C::A::B::F):=h.perm ((List.Perm.cons A (.swap ..)).trans (.swap ..))
theorem Hp.p3 (h:Hp E w (A::B::C::D::F)):Hp E w (D::A::B::C::F):=
 h.perm ((List.Perm.cons A ((List.Perm.cons B (.swap ..)).trans (.swap ..))).trans (.swap ..))
theorem Hp.q2 (h:Hp E w (A::B::C::F)):Hp E w (B::C::A::F):=h.p1.perm (.cons B (.swap ..))
theorem Hp.q3 (h:Hp E w (A::B::C::D::F)):Hp E w (B::C::D::A::F):=h.q2.perm (.cons B (.cons C (.swap ..)))
theorem Hp.q4 (h:Hp E w (A::B::C::D::G::F)):Hp E w (B::C::D::G::A::F):=h.q3.perm (.cons B (.cons C (.cons D (.swap ..))))
theorem Hp.flat (h:Hp E w (Sat l::F)):Hp E w (l++F):=
 ⟨h.os,h.output,h.tape,let ⟨f,a,g,k,hd,e,h1,h2⟩:=h.frag;⟨f,a,Sat.append.2 ⟨g,k,hd,e,h1,h2⟩⟩⟩
theorem Hp.Iq {α:Sort _} {X:α→Prop} {L:α→List HP} (hA: ∀f,A f→∃x,X x∧Sat (L x) f) (h:Hp E w (A::F)): ∃x,X x∧Hp E w (L x++F):=by
 obtain ⟨f,a,g,k,hd,e,h1,h2⟩:=h.frag
 obtain ⟨x,hx,h3⟩:=hA g h1
 exact ⟨x,hx,h.os,h.output,h.tape,f,a,Sat.append.2 ⟨g,k,hd,e,h3,h2⟩⟩
theorem Hp.H3 (hA: ∀f,Sat l f→A f) (h:Hp E w (l++F)):Hp E w (A::F):=by
 obtain ⟨f,a,h1⟩:=h.frag
 obtain ⟨g,k,hd,e,h1,h2⟩:=Sat.append.1 h1
 exact ⟨h.os,h.output,h.tape,f,a,g,k,hd,e,hA _ h1,h2⟩
theorem Hp.GI (hA: ∀f,A f→B f) (h:Hp E w (A::F)):Hp E w (B::F):=by
 obtain ⟨f,a,g,k,hd,e,h1,h2⟩:=h.frag
 exact ⟨h.os,h.output,h.tape,f,a,g,k,hd,e,hA _ h1,h2⟩
theorem Hp.drop (h:Hp E w (A::F)):Hp E w F:=by
 obtain ⟨f,a,g,k,hd,rfl,h1,h2⟩:=h.frag
 refine ⟨h.os,h.output,h.tape,k,fun r o hr=>a r o ?_,h2⟩
 rcases hd r with hg|hk
 ·simp [aP.add,hg,hr]
 ·rw [hk] at hr;cases hr
theorem Hp.emp (h:Hp E w F) (hA:A aP.emp):Hp E w (A::F):=by
 obtain ⟨f,a,h1⟩:=h.frag
 exact ⟨h.os,h.output,h.tape,f,a,aP.emp,f,fun _=> .inl rfl,(aP.wm f).symm,hA,h1⟩
theorem Hp.same (h:Hp E w l) (h1:w'.heap=w.heap) (h2:w'.os=w.os) (h3:w'.output=w.output) (h4:w'.tape=w.tape):Hp E w' l:=
 ⟨h2.trans h.os,h3.trans h.output,h4.trans h.tape,let ⟨f,a,b⟩:=h.frag;⟨f,fun r o hr=>by rw [h1];exact a r o hr,b⟩⟩
theorem Hp.drew {n:Nat} (h:Hp E w l):Hp E {w with drawn:=n} l:=h.same rfl rfl rfl rfl
theorem Hp.aG {b:Nat} {o:Obj} (h:Hp E w (af b o::F)):w.heap[b]? =some o:=by
 obtain ⟨f,a,g,k,hd,rfl,rfl,h2⟩:=h.frag
 exact a b o (by simp [aP.add,aP.one])
theorem Hp.cell {b i:Nat} {c:Array Value} {t:TypeId} {fr:Nat×Nat} (h:Hp E w (af b (.cells c t fr)::F)):w.cell? ⟨b,i,none⟩=c[i]? :=by
 simp [World.cell?,h.aG]
theorem Hp.alloc (h:Hp E w F) (o:Obj):Hp E (w.alloc o) (af w.heap.size o::F):=by
 obtain ⟨f,a,h1⟩:=h.frag
 have hn:f w.heap.size=none:=by
  cases hf:f w.heap.size with
  |none=>rfl
  |some o=>have:=a _ _ hf;simp at this
 refine ⟨h.os,h.output,h.tape,(aP.one w.heap.size o).add f,fun r o' hr=> ?_,_,_,fun r=> ?_,rfl,rfl,h1⟩
 ·show (w.heap.push o)[r]? =_
  rw [Array.getElem?_push]
  by_cases hr0:r=w.heap.size
  ·subst hr0;simp [aP.add,aP.one] at hr;simp [hr]
  ·simp [aP.add,aP.one,hr0] at hr
   rw [if_neg hr0];exact a r o' hr
 ·by_cases hr0:r=w.heap.size
  ·subst hr0;exact .inr hn
  ·exact .inl (by simp [aP.one,hr0])
theorem Hp.setObj {b:Nat} {o o':Obj} (h:Hp E w (af b o::F)) (h1:w'.heap=w.heap.set! b o') (h2:w'.os=w.os) (h3:w'.output=w.output) (h4:w'.tape=w.tape):Hp E w' (af b o'::F):=by
 have hb:=h.aG
 obtain ⟨f,a,g,k,hd,rfl,rfl,h5⟩:=h.frag
 have hk:k b=none:=by
  rcases hd b with hh|hh
  ·simp [aP.one] at hh
  ·exact hh
 refine ⟨h2.trans h.os,h3.trans h.output,h4.trans h.tape,(aP.one b o').add k,fun r x hr=> ?_,_,_,fun r=> ?_,rfl,rfl,h5⟩
 ·rw [h1]
  have hlt:b<w.heap.size:=by
   rcases Nat.lt_or_ge b w.heap.size with hh|hh
   ·exact hh
   ·simp [Array.getElem?_eq_none hh] at hb
  by_cases hr0:r=b
  ·subst hr0
   simp [aP.add,aP.one] at hr
   simp [hr,hlt]
  ·simp [aP.add,aP.one,hr0] at hr
   have:=a r x (by simp [aP.add,aP.one,hr0,hr])
   rw [Array.set!_eq_setIfInBounds,Array.getElem?_setIfInBounds_ne (Ne.symm hr0)]
   exact this
 ·by_cases hr0:r=b
  ·subst hr0;exact .inr hk
  ·exact .inl (by simp [aP.one,hr0])
theorem Hp.setCell {b i:Nat} {c:Array Value} {t:TypeId} {fr:Nat×Nat} (h:Hp E w (af b (.cells c t fr)::F)) (v:Value):
  Hp E (w.setCell ⟨b,i,none⟩ v) (af b (.cells (c.setIfInBounds i v) t fr)::F):=by
 have hb:=h.aG
 refine h.setObj (o':= .cells (c.setIfInBounds i v) t fr) ?_ rfl rfl rfl
 apply Array.ext_getElem?
 intro r
 have hlt:b<w.heap.size:=by
  rcases Nat.lt_or_ge b w.heap.size with hh|hh
  ·exact hh
  ·simp [Array.getElem?_eq_none hh] at hb
 simp only [World.setCell,Array.getElem?_modify,Array.set!_eq_setIfInBounds,Array.getElem?_setIfInBounds]
 by_cases hr:b=r
 ·subst hr
  have hv:w.heap[b]= .cells c t fr:=by simpa [hlt] using hb
  simp [hlt,hv]
 ·simp [hr]
def ad (F:List HP) (φ:World→Prop):Prop:= ∀w f,J3 f w→Sat F f→φ w
theorem Hp.ag {φ:World→Prop} (h:Hp E w F) (ht:ad F φ):φ w:=let ⟨f,a,b⟩:=h.frag;ht w f a b
theorem ad.cons {φ:World→Prop} (ht:ad F φ):ad (A::F) φ:=by
 rintro w f a ⟨g,k,hd,rfl,h1,h2⟩
 refine ht w k (fun r o hr=>a r o ?_) h2
 rcases hd r with hg|hk
 ·simp [aP.add,hg,hr]
 ·rw [hk] at hr;cases hr
theorem ad.perm {φ:World→Prop} (ht:ad l φ) (hp:l.Perm l'):ad l' φ:=fun w f a b=>ht w f a (Sat.perm hp.symm f b)
theorem ad.imp {φ ψ:World→Prop} (ht:ad F φ) (h: ∀w,φ w→ψ w):ad F ψ:=fun w f a b=>h w (ht w f a b)
theorem ad.and {φ ψ:World→Prop} (h1:ad F φ) (h2:ad F ψ):ad F (fun w=>φ w∧ψ w):=fun w f a b=>⟨h1 w f a b,h2 w f a b⟩
theorem ad.all {α:Sort _} {φ:α→World→Prop} (h: ∀x,ad F (φ x)):ad F (fun w=> ∀x,φ x w):=fun w f a b x=>h x w f a b
theorem ad.const {p:Prop} (h:p):ad F (fun _=>p):=fun _ _ _ _=>h
def Old (W:World):HP:=fun f=> ∀r,f r=W.heap[r]?
theorem Hp.start (W:World):Hp W W [Old W]:=
 ⟨rfl,rfl,rfl,fun r=>W.heap[r]?,fun _ _ h=>h,fun r=>W.heap[r]?,aP.emp,fun _=> .inr rfl,(aP.JK _).symm,fun _=>rfl,rfl⟩
theorem ad.EN {W:World} {φ:World→Prop} (h: ∀w,(∀r,r<W.heap.size→w.heap[r]? =W.heap[r]?)→φ w):ad (Old W::F) φ:=by
 rintro w f a ⟨g,k,hd,rfl,h1,h2⟩
 refine h w fun r hr=> ?_
 have:g r=some W.heap[r]:=by rw [h1 r];simp [hr]
 rw [a r W.heap[r] (by simp [aP.add,this])]
 simp [hr]
theorem Hp.below {W:World} (h:Hp W w (Old W::F)):Go.RowKit.Below W.heap.size W w:=by
 have hk:=h.ag (ad.EN (φ:=fun w=> ∀r,r<W.heap.size→w.heap[r]? =W.heap[r]?) fun w h=>h)
 refine ⟨h.os,h.tape,h.output,?_,hk⟩
 rcases Nat.lt_or_ge w.heap.size W.heap.size with hlt|hge
 ·have:=hk w.heap.size hlt
  simp [hlt] at this
 ·exact hge
end
section
variable {E w:World} {F:List HP}
theorem aa.mk {b:Bool} {X Y:Prop} (h1:b=true→X) (h2:b=false→Y):aa b X Y:=by
 cases b
 ·exact h2 rfl
 ·exact h1 rfl
theorem aa.t {b:Bool} {X Y:Prop} (hb:b=true) (h:X):aa b X Y:=by subst hb;exact h
theorem aa.f {b:Bool} {X Y:Prop} (hb:b=false) (h:Y):aa b X Y:=by subst hb;exact h
theorem Ld.sc {s:Sc} {p:Addr} {K:s.T→Prop} (x:s.T) (hc:w.cell? p=some (s.enc x)) (h:K x):Ld (.sc s) p w K:=
 ⟨x,fun w' hw=>by subst hw;exact hc,h⟩
theorem St.mk {p:Addr} {v:Value} {K:World→Prop} {b i:Nat} {c:Array Value} {t:TypeId} (hp:p=⟨b,i,none⟩) (hh:Hp E w (af b (.cells c t (0,0))::F)) (hi:i<c.size) (hv:aD v=true)
  (h: ∀w',Hp E w' (af b (.cells (c.setIfInBounds i v) t (0,0))::F)→K w'):St p v w K:=by
 subst hp
 unfold St
 rw [hv]
 refine ⟨?_,?_,h _ (hh.setCell v)⟩
 ·rw [hh.cell];simp [hi]
 ·simp [World.frozen?,hh.aG]
theorem Nw.mk {t:TypeId} {cs:Array Value} {K:Nat→World→Prop} (hh:Hp E w F) (h: ∀b w',Hp E w' (af b (.cells cs t (0,0))::F)→K b w'):Nw t cs w K:=h _ _ (hh.alloc _)
theorem aK.mk {K:World→Prop} (hh:Hp E w F) (h: ∀w',Hp E w' F→K w'):aK w K:=h _ hh.drew
theorem Cl.imp {P:Program} {ks:List Ki} {i:FuncId} {args:Array Value} {K K':eu ks (World→Prop)} (h:Cl P ks i args w K) (hk: ∀e w',pV ks K e w'→pV ks K' e w'):Cl P ks i args w K':=
 Calls.mono h hk
end
end Go.Vc
set_option maxRecDepth 20000
namespace Go.Vc
open Go
theorem ae {x:Int} (h: -9223372036854775808≤x∧x≤9223372036854775807):i64 x=x:=IntWalk.i64_in x h
theorem rH {x:Int} (h:0≤x∧x≤18446744073709551615):u64 x=x:=IntWalk.u64_in x h
theorem eS {x:Int} (h:0≤x∧x≤4294967295):u32 x=x:=IntWalk.u32_in x h
theorem pv (x:Int):u8 x=x % 256:=by
 show IntKind.wrap .u8 x=x % 256
 simp [IntKind.wrap,IntKind.bits,IntKind.signed]
theorem dS {x:Int} (h:0≤x∧x≤255):u8 x=x:=by rw [pv];omega
theorem jM (n a:Nat) (h:a<2^n):(BitVec.ofInt n (a:Int)).toNat=a:=by
 rw [BitVec.toNat_ofInt]
 have:((a:Int) % ((2^n:Nat):Int))=((a % 2^n:Nat):Int):=by omega
 rw [this,Int.toNat_natCast,Nat.mod_eq_of_lt h]
theorem p8 {k:IntKind} {a:Nat} (h:(a:Int)≤k.max):k.wrap (a:Int)=a:=by
 cases k
 ·have:IntKind.max .i8=127:=rfl
  exact IntWalk.i8_in _ (by omega)
 ·have:IntKind.max .i16=32767:=rfl
  exact IntWalk.i16_in _ (by omega)
 ·have:IntKind.max .i32=2147483647:=rfl
  exact IntWalk.i32_in _ (by omega)
 ·have:IntKind.max .i64=9223372036854775807:=rfl
  exact IntWalk.i64_in _ (by omega)
 ·have:IntKind.max .u8=255:=rfl
  exact IntWalk.u8_in _ (by omega)
 ·have:IntKind.max .u16=65535:=rfl
  exact IntWalk.u16_in _ (by omega)
 ·have:IntKind.max .u32=4294967295:=rfl
  exact IntWalk.u32_in _ (by omega)
 ·have:IntKind.max .u64=18446744073709551615:=rfl
  exact IntWalk.u64_in _ (by omega)
theorem max_lt (k:IntKind):(k.max:Int)<2^k.bits:=by cases k<;>decide
theorem mF {k:IntKind} {a:Nat} (ha:(a:Int)≤k.max):a<2^k.bits:=by
 have:=max_lt k
 have h2:(a:Int)<2^k.bits:=Int.lt_of_le_of_lt ha this
 exact_mod_cast h2
theorem wJ {k:IntKind} {a b:Nat} (ha:(a:Int)≤k.max) (hb:(b:Int)≤k.max) (h:((a|||b:Nat):Int)≤k.max):q8 k a b=((a|||b:Nat):Int):=by
 unfold q8
 rw [BitVec.toNat_or,jM _ _ (mF ha),jM _ _ (mF hb),p8 h]
theorem jz {k:IntKind} {a b:Nat} (ha:(a:Int)≤k.max) (hb:(b:Int)≤k.max):c8 k a b=((a&&&b:Nat):Int):=by
 unfold c8
 rw [BitVec.toNat_and,jM _ _ (mF ha),jM _ _ (mF hb),p8]
 have:=Nat.and_le_left (n:=a) (m:=b)
 omega
theorem gW {k:IntKind} {a b:Nat} (ha:(a:Int)≤k.max) (hb:(b:Int)≤k.max) (h:((a^^^b:Nat):Int)≤k.max):dH k a b=((a^^^b:Nat):Int):=by
 unfold dH
 rw [BitVec.toNat_xor,jM _ _ (mF ha),jM _ _ (mF hb),p8 h]
theorem cG {k:IntKind} {a b:Nat} (hb:b≤k.bits):aN k a b=((a/2^b:Nat):Int):=by
 unfold aN
 rw [Int.toNat_natCast,Nat.min_eq_left hb,Int.fdiv_eq_ediv_of_nonneg _ (by exact_mod_cast Nat.zero_le _)]
 exact_mod_cast rfl
theorem kU {k:IntKind} {a b:Nat} (hb:b≤k.bits) (h:((a*2^b:Nat):Int)≤k.max):eA k a b=((a*2^b:Nat):Int):=by
 unfold eA
 rw [Int.toNat_natCast,Nat.min_eq_left hb]
 have:(a:Int)*2^b=((a*2^b:Nat):Int):=by push_cast;rfl
 rw [this,p8 h]
theorem al (b o n:Nat):(⟨b,o,none⟩:Addr).add n=⟨b,o+n,none⟩:=by
 unfold Addr.add
 split
 ·rename_i h;subst h;rfl
 ·rfl
theorem add_zero (p:Addr):p.add 0=p:=by simp [Addr.add]
def aC (sz:Nat) (s:Sl) (xs:List Value) (w:World):Prop:=
 xs.length=s.len*sz∧∀i (h:i<xs.length),∃p,s.base=some p∧w.cell? (p.add i)=some xs[i]
def aj (sz:Nat) (s:Sl) (xs:List Value):HP:=fun f=>
 xs.length=s.len*sz∧((s.base=none∧s.len=0∧s.cap=0∧f=aP.emp)∨
 ∃b off arr t,s.base=some ⟨b,off,none⟩∧s.len≤s.cap∧off+s.cap*sz≤arr.size∧(∀i (h:i<xs.length),arr[off+i]? =some xs[i])∧f=aP.one b (.cells arr t (0,0)))
section
variable {E w w':World} {F:List HP} {sz:Nat} {s:Sl} {xs ys:List Value}
theorem aj.nil (sz:Nat):aj sz ⟨none,0,0⟩ [] aP.emp:=⟨by simp,.inl ⟨rfl,rfl,rfl,rfl⟩⟩
theorem Hp.bl (h:Hp E w F) (sz:Nat):Hp E w (aj sz ⟨none,0,0⟩ []::F):=h.emp (aj.nil sz)
theorem Hp.fo {b:Nat} {arr:Array Value} {t:TypeId} {n:Nat} (h:Hp E w (af b (.cells arr t (0,0))::F)) (hn:arr.toList.length=n*sz):
  Hp E w (aj sz ⟨some ⟨b,0,none⟩,n,n⟩ arr.toList::F):=by
 refine h.GI fun f hf=>⟨hn,.inr ⟨b,0,arr,t,rfl,Nat.le_refl _,?_,?_,hf⟩⟩
 ·have:arr.size=n*sz:=by simpa using hn
  simp only [this];omega
 ·intro i hi
  have hi':i<arr.size:=by simpa using hi
  simp [hi']
theorem Hp.aV (h:Hp E w (aj sz s xs::F)):xs.length=s.len*sz:=by
 obtain ⟨f,a,g,k,hd,e,h1,h2⟩:=h.frag
 exact h1.1
theorem Hp.jR (h:Hp E w (aj sz s xs::F)):s.len≤s.cap:=by
 obtain ⟨f,a,g,k,hd,e,h1,h2⟩:=h.frag
 rcases h1.2 with ⟨h1,h2,h3,_⟩|⟨b,off,arr,t,h1,h2,_⟩
 ·omega
 ·exact h2
theorem Hp.sI (h:Hp E w (aj sz s xs::F)):(s=⟨none,0,0⟩∧xs= []∧Hp E w F)∨
  ∃b off arr t,s.base=some ⟨b,off,none⟩∧s.len≤s.cap∧off+s.cap*sz≤arr.size∧(∀i (h:i<xs.length),arr[off+i]? =some xs[i])∧Hp E w (af b (.cells arr t (0,0))::F):=by
 have hl:=h.aV
 obtain ⟨f,a,g,k,hd,rfl,h1,h2⟩:=h.frag
 rcases h1.2 with ⟨h3,h4,h5,h6⟩|⟨b,off,arr,t,h3,h4,h5,h6,h7⟩
 ·refine .inl ⟨by cases s;simp_all,?_,h.drop⟩
  have:xs.length=0:=by rw [hl,h4];simp
  exact List.length_eq_zero_iff.1 this
 ·exact .inr ⟨b,off,arr,t,h3,h4,h5,h6,h.os,h.output,h.tape,_,a,g,k,hd,rfl,h7,h2⟩
theorem Hp.kF {b off:Nat} {arr:Array Value} {t:TypeId} (h:Hp E w (af b (.cells arr t (0,0))::F)) (hl:xs.length=s.len*sz) (h1:s.base=some ⟨b,off,none⟩) (h2:s.len≤s.cap) (h3:off+s.cap*sz≤arr.size)
  (h4: ∀i (h:i<xs.length),arr[off+i]? =some xs[i]):Hp E w (aj sz s xs::F):=
 h.GI fun _ hf=>⟨hl,.inr ⟨b,off,arr,t,h1,h2,h3,h4,hf⟩⟩
theorem ad.own:ad (aj sz s xs::F) (aC sz s xs):=by
 rintro w f a ⟨g,k,hd,rfl,⟨hl,h1⟩,h2⟩
 refine ⟨hl,fun i hi=> ?_⟩
 rcases h1 with ⟨h3,h4,h5,_⟩|⟨b,off,arr,t,h3,h4,h5,h6,rfl⟩
 ·rw [hl,h4] at hi;simp at hi
 ·refine ⟨_,h3,?_⟩
  have:w.heap[b]? =some (.cells arr t (0,0)):=a b _ (by simp [aP.add,aP.one])
  rw [al]
  simp only [World.cell?,this]
  exact h6 i hi
theorem ad.cell {W:World} {p:Addr} {v:Value} (h:W.cell? p=some v):ad (Old W::F) (fun w=>w.cell? p=some v):=by
 refine ad.EN fun w hw=> ?_
 have hlt:p.block<W.heap.size:=by
  unfold World.cell? at h
  rcases Nat.lt_or_ge p.block W.heap.size with hh|hh
  ·exact hh
  ·simp [Array.getElem?_eq_none hh] at h
 rw [←h]
 unfold World.cell?
 rw [hw _ hlt]
theorem ad.LK {W:World} (h:aC sz s xs W):ad (Old W::F) (aC sz s xs):=by
 intro w f a b
 refine ⟨h.1,fun i hi=> ?_⟩
 obtain ⟨p,hp,hc⟩:=h.2 i hi
 exact ⟨p,hp,(ad.cell hc) w f a b⟩
theorem an.mk {i:Int} {K:Addr→Prop} {p:Addr} (hp:s.base=some p) (h0:0≤i) (h1:i<(s.len:Int)) (h:K (p.add (i.toNat*sz))):an s i sz K:=⟨p,hp,h0,h1,h⟩
theorem an.rd {i:Int} {K:Addr→Prop} (hs:aC 1 s xs w) (h0:0≤i) (h1:i<(s.len:Int)) (h: ∀p (hi:i.toNat<xs.length),w.cell? p=some xs[i.toNat]→K p):an s i 1 K:=by
 have hl:i.toNat<xs.length:=by rw [hs.1];omega
 obtain ⟨p,hp,hc⟩:=hs.2 _ hl
 exact ⟨p,hp,h0,h1,h _ hl (by simpa using hc)⟩
theorem an.KK {i:Int} {K:Addr→Prop} (hs:aC sz s xs w) (hz:0<sz) (h0:0≤i) (h1:i<(s.len:Int)) (h: ∀p,(∀j (hj:i.toNat*sz+j<xs.length),j<sz→w.cell? (p.add j)=some xs[i.toNat*sz+j])→K p):an s i sz K:=by
 have hlt:i.toNat<s.len:=by omega
 have hmul:i.toNat*sz+sz≤s.len*sz:=by
  have:(i.toNat+1)*sz≤s.len*sz:=Nat.mul_le_mul_right _ hlt
  rw [Nat.succ_mul] at this;exact this
 obtain ⟨p,hp,_⟩:=hs.2 (i.toNat*sz) (by rw [hs.1];omega)
 refine ⟨p,hp,h0,h1,h _ fun j hj hjs=> ?_⟩
 obtain ⟨q,hq,hc⟩:=hs.2 (i.toNat*sz+j) hj
 have:q=p:=Option.some.inj (hq.symm.trans hp)
 subst this
 rw [←hc]
 congr 1
 unfold Addr.add
 by_cases e1:i.toNat*sz=0<;>by_cases e2:j=0<;>simp [e1,e2,Nat.add_assoc]
theorem Hp.setRow {b off:Nat} {t:TypeId}: ∀(vs:List Value) (i:Nat) (w:World) (arr:Array Value),Hp E w (af b (.cells arr t (0,0))::F)→off+i+vs.length≤arr.size→
  ∃arr':Array Value,arr'.size=arr.size∧(∀j (h:j<vs.length),arr'[off+i+j]? =some vs[j])∧(∀j,j<off+i→arr'[j]? =arr[j]?)∧
   Hp E (ax.setRow w ⟨b,off,none⟩ vs i) (af b (.cells arr' t (0,0))::F)
 | [],i,w,arr,h,_=>⟨arr,rfl,fun j h=>by simp at h,fun _ _=>rfl,h⟩
 |v::vs,i,w,arr,h,hl=>by
  simp only [List.length_cons] at hl
  have h1:=h.setCell (i:=off+i) v
  have hsz:off+(i+1)+vs.length≤(arr.setIfInBounds (off+i) v).size:=by rw [Array.size_setIfInBounds];omega
  obtain ⟨arr',e1,e2,e3,h2⟩:=Hp.setRow (b:=b) (off:=off) (t:=t) vs (i+1) _ (arr.setIfInBounds (off+i) v) h1 hsz
  refine ⟨arr',by simpa using e1,fun j hj=> ?_,fun j hj=> ?_,?_⟩
  ·cases j with
   |zero=>
    rw [Nat.add_zero,e3 _ (by omega)]
    simp [show off+i<arr.size by omega]
   |succ j=>
    have:=e2 j (by simp at hj;omega)
    rw [show off+i+(j+1)=off+(i+1)+j by omega]
    simpa using this
  ·rw [e3 _ (by omega),Array.getElem?_setIfInBounds_ne (by omega)]
  ·rw [ax.setRow,al];exact h2
theorem JF {P:Program} {b off:Nat} {arr:Array Value} {t:TypeId} (h:Hp E w (af b (.cells arr t (0,0))::F)) (vs:List Value) (i:Nat) (hl:off+i+vs.length≤arr.size) (hv: ∀v∈vs,aD v=true):
  (storeCells ⟨b,off,none⟩ vs i).run P w= .ok () (ax.setRow w ⟨b,off,none⟩ vs i):=by
 refine mm vs i w fun j hj=>⟨hv _ (List.getElem_mem hj),?_,?_⟩
 ·rw [al,h.cell];simp;omega
 ·rw [al];simp [World.frozen?,h.aG]
theorem wZ: ∀(r c n:Nat),c≤2*n+1024→Builtin.growBy n r c≤2*n+1024
 |0,c,n,h=>h
 |r+1,c,n,h=>by
  unfold Builtin.growBy
  split
  ·exact h
  ·exact wZ r _ n (by omega)
theorem wP {n c:Nat} (h:c<n):Builtin.nextslicecap n c≤2*n+1024:=by
 unfold Builtin.nextslicecap
 split
 ·omega
 ·split
  ·omega
  ·exact wZ 4 c n (by omega)
structure bJ (P:Program) (t e:TypeId) (sz bytes:Nat):Prop where
 und:P.underlying t=some (.slice e)
 info: ∃it z,P.info? e=some it∧it.size=sz∧it.bytes=bytes∧it.zero=some z∧z.cells.size=sz
def Ic (P:Program) (e:TypeId) (sz bytes:Nat):Bool:=
 match P.info? e with
 |some it=>it.size==sz&&it.bytes==bytes&&(match it.zero with|some z=>z.cells.size==sz|none=>false)
 |none=>false
theorem bJ.of {P:Program} {t e:TypeId} {sz bytes:Nat} (h1:P.underlying t=some (.slice e)) (h2:Ic P e sz bytes=true):bJ P t e sz bytes:=by
 refine ⟨h1,?_⟩
 unfold Ic at h2
 split at h2
 ·rename_i it hi
  simp only [Bool.and_eq_true,beq_iff_eq] at h2
  obtain ⟨⟨h2,h3⟩,h4⟩:=h2
  split at h4
  ·rename_i z hz
   exact ⟨it,z,hi,h2,h3,hz,by simpa using h4⟩
  ·simp at h4
 ·simp at h2
theorem yg {P:Program} {vs:List Value} {p:Addr} (h: ∀i (hi:i<vs.length),w.cell? (p.add i)=some vs[i]):(loadCells p vs.length).run P w= .ok vs.toArray w:=by
 have:=iF (P:=P) (w:=w) (a:=p) vs 0 #[] (fun j hj=>by simpa using h j hj)
 simpa [loadCells] using this
def Src (sz n:Nat) (x:Value) (ys:List Value) (w:World):Prop:=
 (∃b l c,x= .slice b l c∧n=l∧aC sz ⟨b,l,c⟩ ys w)∨(∃s:ByteArray,x= .string s∧n=s.size∧ys=s.data.toList.map fun b=> .int .u8 b.toNat)
theorem Src.run {P:Program} {n:Nat} {x:Value} (h:Src sz n x ys w):(Builtin.firstCells sz n x).run P w= .ok ys.toArray w∧(Builtin.lenOf x).run P w= .ok n w:=by
 rcases h with ⟨b,l,c,rfl,rfl,hl,hc⟩|⟨s,rfl,rfl,rfl⟩
 ·refine ⟨?_,rfl⟩
  simp only at hl
  cases b with
  |none=>
   cases ys with
   |nil=>rfl
   |cons y ys=>obtain ⟨p,hp,_⟩:=hc 0 (by simp);cases hp
  |some p=>
   show (loadCells p (n*sz)).run P w=_
   rw [←hl]
   exact yg fun i hi=>by obtain ⟨q,hq,hc⟩:=hc i hi;cases hq;exact hc
 ·refine ⟨?_,rfl⟩
  show Result.ok ((s.extract 0 s.size).data.map fun b=>Value.int .u8 b.toNat) w=_
  congr 1
  have:s.extract 0 s.size=s:=by simp
  rw [this]
  apply Array.ext'
  simp
theorem Src.len {n:Nat} {x:Value} (h:Src 1 n x ys w):ys.length=n:=by
 rcases h with ⟨b,l,c,rfl,rfl,hl,hc⟩|⟨s,rfl,rfl,rfl⟩
 ·simpa using hl
 ·simp
theorem kA (z:Array Value) (n:Nat):(Builtin.zeroCells z n).size=n*z.size:=by simp [Builtin.zeroCells]
theorem sY {P:Program} {t tx ty e:TypeId} {bytes n:Nat} {x:Value} {K:Sl→World→Prop} (he:bJ P t e sz bytes) (_:0<sz) (hx:(∃e2,P.underlying tx=some (.slice e2))∨P.underlying tx=some .string)
  (hh:Hp E w (aj sz s xs::F)) (hs:Src sz n x ys w) (hyl:ys.length=n*sz) (hys: ∀y∈ys,aD y=true) (hb:(2*(s.len+n)+1024)*bytes≤2^48) (hb2:s.len+n<2^62)
  (h: ∀s' w',Hp E w' (aj sz s' (xs++ys)::F)→s'.len=s.len+n→aC sz s xs w'→K s' w'):au P (Builtin.append_ #[t,tx] ty ⟨[.slice s.base s.len s.cap,x]⟩) kS w K:=by
 obtain ⟨it,z,hi,hsz,hby,hze,hzs⟩:=he.info
 obtain ⟨hs1,hs2⟩:=hs.run (P:=P)
 have hlen:=hh.aV
 have hcap:=hh.jR
 have hso:(sizeOf e).run P w= .ok sz w:=by rw [bY hi,hsz]
 have step: ∀v w',(Builtin.append_ #[t,tx] ty ⟨[.slice s.base s.len s.cap,x]⟩).run P w= .ok v w'→(∃s':Sl,v= .slice s'.base s'.len s'.cap∧Hp E w' (aj sz s' (xs++ys)::F)∧s'.len=s.len+n∧aC sz s xs w')→
   au P (Builtin.append_ #[t,tx] ty ⟨[.slice s.base s.len s.cap,x]⟩) kS w K:=by
  rintro v w' h1 ⟨s',rfl,h2,h3,h4⟩
  unfold au
  rw [h1]
  exact h s' w' h2 h3 h4
 have hlen2:(xs++ys).length=(s.len+n)*sz:=by rw [List.length_append,hlen,hyl,Nat.add_mul]
 by_cases hfit:s.len+n≤s.cap
 ·rcases hh.sI with ⟨rfl,rfl,hF⟩|⟨b,off,arr,tt,h1,h2,h3,h4,hB⟩
  ·have hn0:n=0:=by simp at hfit;exact hfit
   subst hn0
   have hy0:ys= []:=by simpa using hyl
   subst hy0
   refine step (.slice none 0 0) w ?_ ⟨⟨none,0,0⟩,rfl,hh,rfl,hh.ag ad.own⟩
   rcases hx with ⟨e2,hd⟩|hd<;>simp [Builtin.append_,run_underlying he.und,hso,run_underlying hd,hs1,hs2]
  ·have hmul:(s.len+n)*sz≤s.cap*sz:=Nat.mul_le_mul_right _ hfit
   rw [Nat.add_mul] at hmul
   have hlr:off+s.len*sz+ys.length≤arr.size:=by omega
   obtain ⟨arr',e1,e2,e3,hB'⟩:=Hp.setRow (off:=off) ys (s.len*sz) w arr hB (by omega)
   have hrow:=JF (P:=P) (off:=off+s.len*sz) hB ys 0 (by omega) hys
   have hro2:ax.setRow w ⟨b,off+s.len*sz,none⟩ ys 0=ax.setRow w ⟨b,off,none⟩ ys (s.len*sz):=by
    have key: ∀(vs:List Value) (w:World) (i:Nat),ax.setRow w ⟨b,off+s.len*sz,none⟩ vs i=ax.setRow w ⟨b,off,none⟩ vs (s.len*sz+i):=by
     intro vs
     induction vs with
     |nil=>intro w i;rfl
     |cons v vs ih=>intro w i;simp only [ax.setRow,ih,al,Nat.add_assoc]
    simpa using key ys w 0
   refine step (.slice s.base (s.len+n) s.cap) (ax.setRow w ⟨b,off,none⟩ ys (s.len*sz)) ?_ ⟨⟨s.base,s.len+n,s.cap⟩,rfl,?_,rfl,⟨hlen,fun i hi=>⟨_,h1,by rw [al,hB'.cell,e3 _ (by omega)];exact h4 i hi⟩⟩⟩
   ·rw [hro2] at hrow
    rcases hx with ⟨e2,hd⟩|hd<;>simp [Builtin.append_,run_underlying he.und,hso,run_underlying hd,hs1,hs2,hfit,h1,al,hrow]
   ·refine Hp.kF hB' hlen2 h1 hfit (by simp only;omega) fun i hi=> ?_
    by_cases hi2:i<xs.length
    ·rw [e3 _ (by omega),List.getElem_append_left hi2];exact h4 i hi2
    ·rw [List.getElem_append_right (by omega)]
     have:=e2 (i - xs.length) (by simp at hi;omega)
     rw [←this]
     congr 1
     omega
 ·have hnext: ¬Builtin.nextslicecap (s.len+n) s.cap*it.bytes>2^48:=by
   have:=wP (n:=s.len+n) (c:=s.cap) (by omega)
   have h2:Builtin.nextslicecap (s.len+n) s.cap*it.bytes≤(2*(s.len+n)+1024)*bytes:=by rw [hby];exact Nat.mul_le_mul_right _ this
   omega
  have hmax: ¬((s.len+n:Nat):Int)>IntKind.i64.max:=by
   have:IntKind.i64.max=9223372036854775807:=rfl
   rw [this];omega
  have hold:(Builtin.firstCells sz s.len (.slice s.base s.len s.cap)).run P w= .ok xs.toArray w:=by
   have:Src sz s.len (.slice s.base s.len s.cap) xs w:= .inl ⟨s.base,s.len,s.cap,rfl,rfl,hh.ag ad.own⟩
   exact (this.run (P:=P)).1
  generalize hq:Question.cut (.appendCap (s.len+n) s.cap e) (w.tape w.drawn (.appendCap (s.len+n) s.cap e))=newCap
  have hnc:s.len+n≤newCap:=by rw [←hq];exact Nat.le_add_right _ _
  have hF:Hp E w F:=hh.drop
  have hD:Hp E w.drew F:=hF.drew (n:=w.drawn+1)
  have hold':(Builtin.firstCells sz s.len (.slice s.base s.len s.cap)).run P w.drew= .ok xs.toArray w.drew:=by
   have:Src sz s.len (.slice s.base s.len s.cap) xs w.drew:= .inl ⟨s.base,s.len,s.cap,rfl,rfl,(hh.drew (n:=w.drawn+1)).ag ad.own⟩
   exact (this.run (P:=P)).1
  have hs1':(Builtin.firstCells sz n x).run P w.drew= .ok ys.toArray w.drew:=(Src.run (P:=P) (w:=w.drew) hs).1
  have hA:=hD.alloc (.cells (xs.toArray++ys.toArray++Builtin.zeroCells z.cells (newCap - (s.len+n))) e)
  refine step (.slice (some ⟨w.heap.size,0,none⟩) (s.len+n) newCap) _ ?_ ⟨⟨some ⟨w.heap.size,0,none⟩,s.len+n,newCap⟩,rfl,Hp.kF hA hlen2 rfl hnc ?_ ?_,rfl,((hh.drew (n:=w.drawn+1)).alloc (.cells (xs.toArray++ys.toArray++Builtin.zeroCells z.cells (newCap - (s.len+n))) e)).ag (ad.cons ad.own)⟩
  ·have hz': ∀w:World,(zeroValue e).run P w= .ok z w:=by intro w;simp [zeroValue,typeInfo,hi,hze]
   have hti: ∀w:World,(typeInfo e).run P w= .ok it w:=by intro w;simp [typeInfo,hi]
   have hmax': ¬(9223372036854775807<(s.len:Int)+(n:Int)∧it.bytes=0):=by omega
   have hfo:Question.forced (.appendCap (s.len+n) s.cap e)=false:=rfl
   rcases hx with ⟨e2,hd⟩|hd<;>simp [Builtin.append_,run_underlying he.und,hso,run_underlying hd,hs2,hfit,hmax',hti,hnext,hfo,hq,hold',hs1',hz',newRow]
   all_goals rw [←Array.append_assoc,show xs.toArray++ys.toArray=(xs++ys).toArray by simp]
  ·simp only [Array.size_append,List.size_toArray,kA,hzs,hlen,hyl]
   have:newCap*sz=(s.len+n)*sz+(newCap - (s.len+n))*sz:=by rw [←Nat.add_mul];congr 1;omega
   rw [this,Nat.add_mul];omega
  ·intro i hi
   have h1:i<(xs.toArray++ys.toArray).size:=by simpa using hi
   rw [Nat.zero_add,Array.getElem?_append_left h1]
   have:(xs.toArray++ys.toArray)=(xs++ys).toArray:=by simp
   rw [this]
   simp only [List.getElem?_toArray]
   exact List.getElem?_eq_getElem hi
theorem aI {P:Program} {t tx ty e:TypeId} {bytes n:Nat} {x:Value} {K:Sl→World→Prop} (he:bJ P t e sz bytes) (hz:0<sz) (hx:(∃e2,P.underlying tx=some (.slice e2))∨P.underlying tx=some .string)
  (hh:Hp E w (aj sz s xs::F)) (hs:Src sz n x ys w) (hyl:ys.length=n*sz) (hys: ∀y∈ys,aD y=true) (hb:(2*(s.len+n)+1024)*bytes≤2^48) (hb2:s.len+n<2^62)
  (h: ∀s' w',Hp E w' (aj sz s' (xs++ys)::F)→s'.len=s.len+n→K s' w'):au P (Builtin.append_ #[t,tx] ty ⟨[.slice s.base s.len s.cap,x]⟩) kS w K:=
 sY he hz hx hh hs hyl hys hb hb2 fun s' w' h1 h2 _=>h s' w' h1 h2
end
theorem qT.mk {P:Program} {i:FuncId} {first captured:Array Value} {ks:List Ki} {args:List Value} {w:World} {K:eu ks (World→Prop)} (ok:pn P i=true) (h:Cl P ks i ⟨first.toList++args++captured.toList⟩ w K):
  qT P (.func (.func i) first captured) ks args w K:=by
 show dq _ _
 rw [ok];exact h
theorem db.mk {P:Program} {i:FuncId} {first captured:Array Value} {ks:List Ki} {args:List Value} {w:World} {K:eu ks (World→Prop)} (ok:pn P i=true) (h:Cl P ks i ⟨first.toList++args++captured.toList⟩ w K):
  db P (.func (.func i) first captured) ks args w K:=by
 unfold db
 simp only [ok]
 exact h
theorem aF {X Y:Prop}:aa true X Y=X:=rfl
theorem aE {X Y:Prop}:aa false X Y=Y:=rfl
theorem ak {p:Addr} {K:Addr→Prop}:ar (some p) K=K p:=rfl
theorem ao {α:Type} (r:α) (k:α→Prop):bD r k=k r:=rfl
section
variable {E w:World} {F:List HP}
theorem Ld.aG {s:Sc} {b i:Nat} {c:Array Value} {t:TypeId} {fr:Nat×Nat} {K:s.T→Prop} (h:Hp E w (af b (.cells c t fr)::F)) (x:s.T) (hx:c[i]? =some (s.enc x)) (hk:K x):Ld (.sc s) ⟨b,i,none⟩ w K:=
 Ld.sc x (by rw [h.cell];exact hx) hk
theorem St.aG {v:Value} {K:World→Prop} {b i:Nat} {c:Array Value} {t:TypeId} (hh:Hp E w (af b (.cells c t (0,0))::F)) (hi:i<c.size) (hv:aD v=true)
  (h: ∀w',Hp E w' (af b (.cells (c.setIfInBounds i v) t (0,0))::F)→K w'):St ⟨b,i,none⟩ v w K:=St.mk rfl hh hi hv h
end
def bZ:Nat:=1099511627776
theorem aA:bZ=1099511627776:=rfl
def vB (x:Nat):Value:= .int .u8 (x:Int)
def vI (x:Int):Value:= .int .i64 x
theorem dW {xs:List Nat}: ∀y∈xs.map vB,aD y=true:=by
 intro y hy
 obtain ⟨x,_,rfl⟩:=List.mem_map.1 hy
 rfl
theorem lH {xs:List Int}: ∀y∈xs.map vI,aD y=true:=by
 intro y hy
 obtain ⟨x,_,rfl⟩:=List.mem_map.1 hy
 rfl
theorem St.Ku {E w:World} {F:List HP} {sz j:Nat} {s:Sl} {xs:List Value} {i:Int} {v:Value} {K:World→Prop} (hh:Hp E w (aj sz s xs::F)) (hj:j<sz) (h0:0≤i) (h1:i<(s.len:Int)) (hv:aD v=true)
  (h: ∀w',Hp E w' (aj sz s (xs.set (i.toNat*sz+j) v)::F)→K w'):an s i sz (fun q=>St (q.add j) v w K):=by
 have hl:=hh.aV
 have hlt:i.toNat<s.len:=by omega
 have hmul:i.toNat*sz+sz≤s.len*sz:=by
  have:(i.toNat+1)*sz≤s.len*sz:=Nat.mul_le_mul_right _ hlt
  rw [Nat.succ_mul] at this;exact this
 rcases hh.sI with ⟨rfl,rfl,hF⟩|⟨b,off,arr,t,e1,e2,e3,e4,hB⟩
 ·simp at hlt
 ·have hcm:s.len*sz≤s.cap*sz:=Nat.mul_le_mul_right _ e2
  refine ⟨_,e1,h0,h1,?_⟩
  rw [al]
  show St (Addr.add _ j) v w K
  rw [al]
  refine St.mk rfl hB (by omega) hv fun w' h'=>h _ ?_
  refine h'.kF (by simpa using hl) e1 e2 (by simpa using e3) fun r hr=> ?_
  rw [List.length_set] at hr
  rw [Array.getElem?_setIfInBounds,List.getElem_set]
  by_cases hq:i.toNat*sz+j=r
  ·rw [if_pos (by omega),if_pos (by omega),if_pos hq]
  ·rw [if_neg (by omega),if_neg hq];exact e4 r hr
theorem St.own {E w:World} {F:List HP} {s:Sl} {xs:List Value} {i:Int} {v:Value} {K:World→Prop} (hh:Hp E w (aj 1 s xs::F)) (h0:0≤i) (h1:i<(s.len:Int)) (hv:aD v=true)
  (h: ∀w',Hp E w' (aj 1 s (xs.set i.toNat v)::F)→K w'):an s i 1 (fun q=>St q v w K):=by
 have:=St.Ku (sz:=1) (j:=0) (K:=K) hh (by decide) h0 h1 hv (by simpa using h)
 simpa only [add_zero] using this
theorem ad.aG {F:List HP} {b n m sz:Nat} {arr:Array Value} {xs:List Value} {t:TypeId} {fr:Nat×Nat} (hx:arr.toList=xs) (hl:xs.length=n*sz):ad (af b (.cells arr t fr)::F) (aC sz ⟨some ⟨b,0,none⟩,n,m⟩ xs):=by
 subst hx
 rintro w f a ⟨g,k,hd,rfl,rfl,h2⟩
 refine ⟨hl,fun i hi=>⟨_,rfl,?_⟩⟩
 have:w.heap[b]? =some (.cells arr t fr):=a b _ (by simp [aP.add,aP.one])
 rw [al]
 simp only [World.cell?,this,Nat.zero_add]
 have hi':i<arr.size:=by simpa using hi
 simp [hi']
theorem ad.nil {F:List HP} {sz:Nat}:ad F (aC sz ⟨none,0,0⟩ []):=fun _ _ _ _=>⟨by simp,fun i hi=>by simp at hi⟩
theorem an.zB {E w:World} {F:List HP} {sz:Nat} {s:Sl} {xs:List Value} {i:Int} {K:Addr→Prop} (hh:Hp E w F) (hs:ad F (aC sz s xs)) (hz:0<sz) (h0:0≤i) (h1:i<(s.len:Int))
  (h: ∀p,(∀j,j<sz→ad F (fun w=>w.cell? (p.add j)=xs[i.toNat*sz+j]?))→K p):an s i sz K:=by
 have hs1:=hh.ag hs
 have hlt:i.toNat<s.len:=by omega
 have hmul:i.toNat*sz+sz≤s.len*sz:=by
  have:(i.toNat+1)*sz≤s.len*sz:=Nat.mul_le_mul_right _ hlt
  rw [Nat.succ_mul] at this;exact this
 have hx:xs.length=s.len*sz:=hs1.1
 obtain ⟨p,hp,_⟩:=hs1.2 (i.toNat*sz) (by omega)
 refine ⟨p,hp,h0,h1,h _ fun j hj=>hs.imp fun w' hs'=> ?_⟩
 obtain ⟨q,hq,hc⟩:=hs'.2 (i.toNat*sz+j) (by omega)
 have:q=p:=Option.some.inj (hq.symm.trans hp)
 subst this
 rw [List.getElem?_eq_getElem (by omega),←hc]
 congr 1
 unfold Addr.add
 by_cases e1:i.toNat*sz=0<;>by_cases e2:j=0<;>simp [e1,e2,Nat.add_assoc]
theorem bf.own {E w:World} {F:List HP} {s:Sl} {xs:List Value} {lo hi:Int} {K:Sl→Prop} (hh:Hp E w (aj 1 s xs::F)) (h0:0≤lo) (h1:lo≤hi) (h2:hi≤(s.len:Int))
  (h: ∀s':Sl,Hp E w (aj 1 s' ((xs.drop lo.toNat).take (hi.toNat - lo.toNat))::F)→s'.len=hi.toNat - lo.toNat→K s'):bf s lo hi s.cap 1 K:=by
 have hl:=hh.aV
 have hc:=hh.jR
 refine ⟨h0,h1,by omega,by omega,h _ ?_ rfl⟩
 rcases hh.sI with ⟨rfl,rfl,hF⟩|⟨b,off,arr,t,e1,e2,e3,e4,hB⟩
 ·simp only at h2
  have e1:lo.toNat=0:=by omega
  have e2:hi.toNat=0:=by omega
  simpa [e1,e2] using hh
 ·have key:(if (s.cap:Int).toNat=lo.toNat then s.base else s.base.map (·.add (lo.toNat*1)))=if s.cap=lo.toNat then s.base else some ⟨b,off+lo.toNat,none⟩:=by
   rw [Int.toNat_natCast,e1]
   simp only [Option.map_some,al,Nat.mul_one]
  rw [key,Int.toNat_natCast]
  have hlen:((xs.drop lo.toNat).take (hi.toNat - lo.toNat)).length=(hi.toNat - lo.toNat)*1:=by simp [hl];omega
  by_cases hcl:s.cap=lo.toNat
  ·rw [if_pos hcl]
   refine hB.kF hlen e1 (by simp only;omega) (by simp only;omega) fun i hi'=> ?_
   rw [hlen] at hi';omega
  ·rw [if_neg hcl]
   refine hB.kF hlen rfl (by simp only;omega) (by simp only;omega) fun i hi'=> ?_
   have hi2:lo.toNat+i<xs.length:=by rw [hlen] at hi';omega
   rw [Nat.add_assoc,e4 _ hi2]
   simp
theorem bf.rd {w:World} {s:Sl} {xs:List Value} {lo hi mx:Int} {K:Sl→Prop} (hs:aC 1 s xs w) (h0:0≤lo) (h1:lo≤hi) (h2:hi≤(s.len:Int)) (h3:hi≤mx) (h4:mx≤(s.cap:Int))
  (h: ∀s':Sl,(∀w',aC 1 s xs w'→aC 1 s' ((xs.drop lo.toNat).take (hi.toNat - lo.toNat)) w')→s'.len=hi.toNat - lo.toNat→K s'):bf s lo hi mx 1 K:=by
 have hl:=hs.1
 refine ⟨h0,h1,h3,h4,h _ (fun w' hs'=> ?_) rfl⟩
 have hlen:((xs.drop lo.toNat).take (hi.toNat - lo.toNat)).length=(hi.toNat - lo.toNat)*1:=by simp [hl];omega
 refine ⟨hlen,fun i hi'=> ?_⟩
 have hi2:lo.toNat+i<xs.length:=by rw [hlen] at hi';omega
 obtain ⟨p,hp,hcell⟩:=hs'.2 _ hi2
 have hne:mx.toNat≠lo.toNat:=by rw [hlen] at hi';omega
 refine ⟨p.add lo.toNat,by simp [hne,hp],?_⟩
 have:(p.add lo.toNat).add i=p.add (lo.toNat+i):=by
  unfold Addr.add
  by_cases e1:lo.toNat=0<;>by_cases e2:i=0<;>simp [e1,e2,Nat.add_assoc]
 rw [this,hcell]
 simp
end Go.Vc
set_option maxRecDepth 20000
namespace Go.Vc
open Go
section
variable {E w:World} {F:List HP}
theorem Ld.arr {b n:Nat} {cs:Array Value} {t:TypeId} {fr:Nat×Nat} {K:Array Value→Prop} (h:Hp E w (af b (.cells cs t fr)::F)) (hn:cs.size=n) (hK:K cs):Ld (.arr n) ⟨b,0,none⟩ w K:=by
 refine ⟨cs,hn,fun w' hw i hi=> ?_,hK⟩
 subst hw
 rw [al,h.cell,Nat.zero_add]
 simp [hn,hi]
theorem ax.aG {b n:Nat} {c0 cs:Array Value} {t:TypeId} {K:World→Prop} (h:Hp E w (af b (.cells c0 t (0,0))::F)) (h0:c0.size=n) (hn:cs.size=n) (hs: ∀v∈cs.toList,aD v=true)
  (hK: ∀w',Hp E w' (af b (.cells cs t (0,0))::F)→K w'):ax n ⟨b,0,none⟩ cs w K:=by
 refine ⟨hn,fun i hi=>⟨?_,?_,?_⟩,?_⟩
 ·have:cs.getD i undef∈cs.toList:=by simp [hn,hi]
  exact hs _ this
 ·rw [al,h.cell];simp [h0,hi]
 ·rw [al];simp [World.frozen?,h.aG]
 ·obtain ⟨arr',e1,e2,e3,h'⟩:=Hp.setRow (b:=b) (off:=0) cs.toList 0 w c0 h (by simp;omega)
  have:arr'=cs:=by
   apply Array.ext
   ·omega
   ·intro i hi1 hi2
    have:=e2 i (by simpa using hi2)
    rw [show 0+0+i=i by omega,Array.getElem?_eq_getElem hi1] at this
    simpa using this
  subst this
  exact hK _ h'
theorem aw.rd {b n:Nat} {cs:Array Value} {t:TypeId} {fr:Nat×Nat} {i:Int} {s:Sc} {K:s.T→Prop} (h:Hp E w (af b (.cells cs t fr)::F)) (h0:0≤i) (h1:i<(n:Int)) (x:s.T) (hx:cs[i.toNat]? =some (s.enc x)) (hK:K x):
  aw ⟨b,0,none⟩ n i 1 fun q=>Ld (.sc s) q w K:=by
 refine ⟨h0,h1,?_⟩
 rw [al]
 exact Ld.aG h x (by simpa using hx) hK
theorem aw.wr {b n:Nat} {cs:Array Value} {t:TypeId} {i:Int} {v:Value} {K:World→Prop} (h:Hp E w (af b (.cells cs t (0,0))::F)) (h0:0≤i) (h1:i<(n:Int)) (hn:cs.size=n) (hv:aD v=true)
  (hK: ∀w',Hp E w' (af b (.cells (cs.setIfInBounds i.toNat v) t (0,0))::F)→K w'):aw ⟨b,0,none⟩ n i 1 fun q=>St q v w K:=by
 refine ⟨h0,h1,?_⟩
 rw [al]
 exact St.aG h (by omega) hv (by simpa using hK)
theorem gZ.rd {s:Sc} {cs:Array Value} {n:Nat} {i:Int} {K:s.T→Prop} (h0:0≤i) (h1:i<(n:Int)) (x:s.T) (hx:cs[i.toNat]? =some (s.enc x)) (hK:K x):gZ s cs n i K:=⟨h0,h1,x,hx,hK⟩
end
def ai (k:IntKind) (l:List Nat):Array Value:=⟨l.map fun (n:Nat)=> .int k (n:Int)⟩
theorem av {k:IntKind} {l:List Nat}:(ai k l).size=l.length:=by simp [ai]
theorem eo {k:IntKind} {l:List Nat} {i:Nat} (h:i<l.length):(ai k l)[i]? =some (Sc.enc (.int k) (l[i]:Int)):=by simp [ai,h]
theorem bW {k:IntKind} {l:List Nat}: ∀v∈(ai k l).toList,aD v=true:=by
 intro v hv
 simp only [ai,List.mem_map] at hv
 obtain ⟨x,_,rfl⟩:=hv
 rfl
theorem nU {k:IntKind} {l:List Nat} {i x:Nat}:(ai k l).setIfInBounds i (.int k (x:Int))=ai k (l.set i x):=by
 unfold ai
 apply Array.ext'
 simp [List.map_set]
theorem jJ {k:IntKind} {n:Nat}:(⟨List.replicate n (.int k 0)⟩:Array Value)=ai k (List.replicate n 0):=by
 unfold ai;simp
theorem vp.mk {k:IntKind} {n:Nat} {a b:List Nat} {K:Bool→Prop} (ha:a.length=n) (hb:b.length=n) (h:K (a==b)):vp k n (ai k a) (ai k b) K:=by
 refine ⟨a.map fun (x:Nat)=>(x:Int),b.map fun (x:Nat)=>(x:Int),by simp [ai],by simp [ai],by simpa using ha,by simpa using hb,?_⟩
 have:((a.map fun (x:Nat)=>(x:Int))==(b.map fun (x:Nat)=>(x:Int)))=(a==b):=by
  rw [Bool.eq_iff_iff,beq_iff_eq,beq_iff_eq]
  constructor
  ·intro h
   exact (List.map_inj_right (fun x y h=>by have h:(x:Int)=(y:Int):=h;omega)).1 h
  ·rintro rfl;rfl
 rw [this];exact h
end Go.Vc
set_option maxRecDepth 20000
namespace Go.Vc
open Go
section
variable {E w w':World} {F G:List HP} {sz:Nat} {s:Sl} {xs ys:List Value}
theorem Hp.sK {l:List HP} (h:Hp E w (l++F)):Hp E w F:=by
 induction l with
 |nil=>exact h
 |cons A l ih=>exact ih h.drop
theorem ad.app {φ:World→Prop} (l:List HP) (ht:ad F φ):ad (l++F) φ:=by
 induction l with
 |nil=>exact ht
 |cons A l ih=>exact ih.cons
theorem ad.tK {φ:World→Prop} (ht:ad G φ):ad (G++F) φ:=(ht.app F).perm List.perm_append_comm
def cY (E:World) (F:List HP) (w:World):Prop:= ∃l,Hp E w (l++F)
theorem cY.mk (h:Hp E w F):cY E F w:=⟨[],h⟩
theorem cY.r9 {A:HP} (h:Hp E w (A::F)):cY E F w:=⟨[A],h⟩
theorem cY.DW {A B:HP} (h:Hp E w (A::B::F)):cY E F w:=⟨[A,B],h⟩
theorem cY.ag {φ:World→Prop} (h:cY E F w) (ht:ad F φ):φ w:=by
 obtain ⟨l,h⟩:=h
 exact h.ag (ht.app l)
theorem bf.KK {lo hi mx:Int} {K:Sl→Prop} (hl:xs.length=s.len*sz) (h0:0≤lo) (h1:lo≤hi) (h2:hi≤(s.len:Int)) (h3:hi≤mx) (h4:mx≤(s.cap:Int))
  (h: ∀s':Sl,(∀w',aC sz s xs w'→aC sz s' ((xs.drop (lo.toNat*sz)).take ((hi.toNat - lo.toNat)*sz)) w')→s'.len=hi.toNat - lo.toNat→s'.len≤s'.cap→K s'):bf s lo hi mx sz K:=by
 refine ⟨h0,h1,h3,h4,h _ (fun w' hs'=> ?_) rfl (by simp only;omega)⟩
 have hm:hi.toNat*sz≤s.len*sz:=Nat.mul_le_mul_right _ (by omega)
 have hsub:(hi.toNat - lo.toNat)*sz=hi.toNat*sz - lo.toNat*sz:=Nat.sub_mul ..
 have hmono:lo.toNat*sz≤hi.toNat*sz:=Nat.mul_le_mul_right _ (by omega)
 have hlen:((xs.drop (lo.toNat*sz)).take ((hi.toNat - lo.toNat)*sz)).length=(hi.toNat - lo.toNat)*sz:=by
  rw [List.length_take,List.length_drop];omega
 refine ⟨hlen,fun i hi'=> ?_⟩
 rw [hlen] at hi'
 obtain ⟨p,hp,hcell⟩:=hs'.2 (lo.toNat*sz+i) (by omega)
 have hne:mx.toNat≠lo.toNat:=by
  intro e
  have:hi.toNat - lo.toNat=0:=by omega
  rw [this] at hi';omega
 refine ⟨p.add (lo.toNat*sz),by simp [hne,hp],?_⟩
 have:(p.add (lo.toNat*sz)).add i=p.add (lo.toNat*sz+i):=by
  unfold Addr.add
  by_cases e1:lo.toNat*sz=0<;>by_cases e2:i=0<;>simp [e1,e2,Nat.add_assoc]
 rw [this,hcell]
 simp
theorem aH.sc {S:World→Prop} {s:Sc} {p:Addr} {K:s.T→Prop} (x:s.T) (hc: ∀w,S w→w.cell? p=some (s.enc x)) (h:K x):aH (.sc s) p S K:=⟨x,hc,h⟩
theorem bf.whole {b n:Nat} {hi mx:Int} {K:Sl→Prop} (hn:0<n) (h1:hi=(n:Int)) (h2:mx=(n:Int)) (h:K ⟨some ⟨b,0,none⟩,n,n⟩):bf ⟨some ⟨b,0,none⟩,n,n⟩ 0 hi mx 1 K:=by
 subst h1;subst h2
 refine ⟨by omega,by omega,by omega,by simp,?_⟩
 have e:(if ((n:Int)).toNat=(0:Int).toNat then (some ⟨b,0,none⟩:Option Addr) else (some ⟨b,0,none⟩:Option Addr).map (·.add ((0:Int).toNat*1)))=some ⟨b,0,none⟩:=by
  rw [if_neg (by simp;omega)];simp [Addr.add]
 rw [e]
 simpa using h
end
section
variable {α:Type} {g:α→List Value} {sz:Nat} {l:List α}
theorem eH (hg: ∀x,(g x).length=sz) (l:List α):(l.flatMap g).length=l.length*sz:=by
 induction l with
 |nil=>simp
 |cons x l ih=>rw [List.flatMap_cons,List.length_append,ih,hg,List.length_cons,Nat.succ_mul];omega
theorem BN (hg: ∀x,(g x).length=sz): ∀(l:List α) (n:Nat),(l.flatMap g).drop (n*sz)=(l.drop n).flatMap g
 |l,0=>by simp
 | [],n+1=>by simp
 |x::l,n+1=>by
  rw [List.drop_succ_cons,List.flatMap_cons,Nat.succ_mul,Nat.add_comm,←List.drop_drop,←hg x,List.drop_left,hg x]
  exact BN hg l n
theorem Cx (hg: ∀x,(g x).length=sz): ∀(l:List α) (n:Nat),(l.flatMap g).take (n*sz)=(l.take n).flatMap g
 |l,0=>by simp
 | [],n+1=>by simp
 |x::l,n+1=>by
  rw [List.take_succ_cons,List.flatMap_cons,List.flatMap_cons,Nat.succ_mul,Nat.add_comm,List.take_append,hg x,List.take_of_length_le (by rw [hg x];omega),show sz+n*sz - sz=n*sz by omega,Cx hg l n]
theorem nk (hg: ∀x,(g x).length=sz): ∀(l:List α) (i j:Nat) (hi:i<l.length),j<sz→(l.flatMap g)[i*sz+j]? =(g l[i])[j]?
 |x::l,0,j,_,hj=>by rw [List.flatMap_cons,List.getElem?_append_left (by rw [hg];omega),Nat.zero_mul,Nat.zero_add];rfl
 |x::l,i+1,j,hi,hj=>by
  rw [List.flatMap_cons,List.getElem?_append_right (by rw [hg,Nat.succ_mul];omega),hg,show (i+1)*sz+j - sz=i*sz+j by rw [Nat.succ_mul];omega,nk hg l i j (by simpa using hi) hj]
  rfl
end
section
variable {E w w':World} {F G:List HP} {sz:Nat} {s:Sl} {α:Type} {g:α→List Value} {l:List α}
theorem an.el {i:Int} {n:Nat} {K:Addr→Prop} (hg: ∀x,(g x).length=sz) (hz:0<sz) (hs:aC sz s (l.flatMap g) w) (hn:i=(n:Int)) (hi:n<l.length) (h: ∀p,(∀j,j<sz→w.cell? (p.add j)=(g l[n])[j]?)→K p):an s i sz K:=by
 subst hn
 have hl:=hs.1
 rw [eH hg] at hl
 have hle:l.length=s.len:=Nat.eq_of_mul_eq_mul_right hz hl
 refine an.KK hs hz (by omega) (by omega) fun p hp=>h p fun j hj=> ?_
 have e:=nk hg l n j hi hj
 have hlt:n*sz+j<(l.flatMap g).length:=by
  rw [eH hg]
  have:(n+1)*sz≤l.length*sz:=Nat.mul_le_mul_right _ hi
  rw [Nat.succ_mul] at this;omega
 rw [hp j (by rw [Int.toNat_natCast];exact hlt) hj]
 simp only [Int.toNat_natCast]
 rw [←e,List.getElem?_eq_getElem hlt]
theorem an.KY {i:Int} {n:Nat} {K:Addr→Prop} (hg: ∀x,(g x).length=sz) (hz:0<sz) (hh:Hp E w F) (hs:ad F (aC sz s (l.flatMap g))) (hn:i=(n:Int)) (hi:n<l.length) (h: ∀p,(∀j,j<sz→ad F (fun w=>w.cell? (p.add j)=(g l[n])[j]?))→K p):an s i sz K:=by
 subst hn
 have hl:=(hh.ag hs).1
 rw [eH hg] at hl
 have hle:l.length=s.len:=Nat.eq_of_mul_eq_mul_right hz hl
 refine an.zB hh hs hz (by omega) (by omega) fun p hp=>h p fun j hj=>(hp j hj).imp fun w hw=> ?_
 rw [hw,Int.toNat_natCast,nk hg l n j hi hj]
theorem aC.len (hg: ∀x,(g x).length=sz) (hz:0<sz) (hs:aC sz s (l.flatMap g) w):s.len=l.length:=by
 have hl:=hs.1
 rw [eH hg] at hl
 exact (Nat.eq_of_mul_eq_mul_right hz hl).symm
theorem bf.el {lo hi mx:Int} {a b:Nat} {K:Sl→Prop} (hg: ∀x,(g x).length=sz) (hl:s.len=l.length) (ha:lo=(a:Int)) (hb:hi=(b:Int)) (h1:a≤b) (h2:b≤l.length) (h3:hi≤mx) (h4:mx≤(s.cap:Int))
  (h: ∀s':Sl,(∀w',aC sz s (l.flatMap g) w'→aC sz s' (((l.drop a).take (b - a)).flatMap g) w')→s'.len=b - a→s'.len≤s'.cap→K s'):bf s lo hi mx sz K:=by
 subst ha;subst hb
 refine bf.KK (xs:=l.flatMap g) (by rw [eH hg,hl]) (by omega) (by omega) (by omega) h3 h4 fun s' hs' hl' hc'=>h s' (fun w' hw'=> ?_) (by simpa using hl') hc'
 have:=hs' w' hw'
 simp only [Int.toNat_natCast] at this
 rw [BN hg,Cx hg] at this
 exact this
theorem uY {S:World→Prop} {p:Addr}: ∀{ks:List Sc} {i:Nat} {K:TT ks→Prop} (x:TT ks) (_: ∀w,S w→∀j (hj:j<(fR ks x).length),w.cell? (p.add (i+j))=some (fR ks x)[j]) (_:K x),BX S p ks i K
 | [],_,_,_,_,h=>h
 |k::ks,i,K,(x,y),hc,h=>⟨x,fun w hw=>by have:=hc w hw 0 (by simp);simpa using this,uY (ks:=ks) (i:=i+1) y (fun w hw j hj=>by
   have:=hc w hw (j+1) (by simp;omega)
   simpa [Nat.add_assoc,Nat.add_comm 1 j] using this) h⟩
theorem Ld.st {ks:List Sc} {p:Addr} {K:TT ks→Prop} (x:TT ks) (hc: ∀j,j<(fR ks x).length→w.cell? (p.add j)=(fR ks x)[j]?) (h:K x):Ld (.st ks) p w K:=
 uY x (fun w' hw' j hj=>by
  have hw':w'=w:=hw'
  subst hw'
  rw [Nat.zero_add,hc j hj,List.getElem?_eq_getElem hj]) h
theorem Ld.yL {ks:List Sc} {b:Nat} {cs:Array Value} {t:TypeId} {fr:Nat×Nat} {K:TT ks→Prop} (hh:Hp E w (af b (.cells cs t fr)::F)) (x:TT ks) (hc:cs=⟨fR ks x⟩) (h:K x):Ld (.st ks) ⟨b,0,none⟩ w K:=by
 subst hc
 refine Ld.st x (fun j hj=> ?_) h
 rw [al,hh.cell];simp
theorem bj.go {b:Nat} {t:TypeId} {K:World→Prop}: ∀(vs:List Value) (i:Nat) (w:World) (c:Array Value),Hp E w (af b (.cells c t (0,0))::F)→i+vs.length=c.size→(∀v∈vs,aD v=true)→
  (∀c' w',c'.toList=c.toList.take i++vs→Hp E w' (af b (.cells c' t (0,0))::F)→K w')→bj ⟨b,0,none⟩ vs i w K
 | [],i,w,c,hh,hi,_,hK=>hK c w (by rw [List.append_nil,List.take_of_length_le (by simp;simp at hi;omega)]) hh
 |v::vs,i,w,c,hh,hi,hv,hK=>by
  have h1:=hv v (by simp)
  simp only [List.length_cons] at hi
  unfold bj
  rw [h1]
  have h2:=hh.setCell (i:=i) v
  refine ⟨?_,?_,?_⟩
  ·rw [al,hh.cell];simp;omega
  ·rw [al];simp [World.frozen?,hh.aG]
  ·rw [al,Nat.zero_add]
   refine bj.go vs (i+1) _ _ h2 (by simp;omega) (fun x hx=>hv x (List.mem_cons_of_mem _ hx)) fun c' w' e h3=>hK c' w' ?_ h3
   rw [e,Array.toList_setIfInBounds,List.take_add_one,List.take_set_of_le (by omega)]
   rw [List.getElem?_set_self (by simp;omega)]
   simp
theorem bj.aG {b:Nat} {c:Array Value} {t:TypeId} {vs:List Value} {K:World→Prop} (hh:Hp E w (af b (.cells c t (0,0))::F)) (hi:vs.length=c.size) (hv: ∀v∈vs,aD v=true)
  (hK: ∀w',Hp E w' (af b (.cells ⟨vs⟩ t (0,0))::F)→K w'):bj ⟨b,0,none⟩ vs 0 w K:=
 bj.go vs 0 w c hh (by omega) hv fun c' w' e h=>by
  have:c'=⟨vs⟩:=by apply Array.ext';simpa using e
  subst this
  exact hK w' h
theorem rm {P:Program} {t ty e e2:TypeId} {bytes:Nat} {x:α} {cs:Array Value} {K:Sl→World→Prop} (he:bJ P t e sz bytes) (hg: ∀x,(g x).length=sz) (hz:0<sz) (hcs:cs=⟨g x⟩) (hsc: ∀y∈g x,aD y=true)
  (hh:Hp E w (aj sz s (l.flatMap g)::F)) (hb:(2*(l.length+1)+1024)*bytes≤2^48) (hb2:l.length+1<2^62)
  (h: ∀s' w',Hp E w' (aj sz s' ((l++ [x]).flatMap g)::F)→s'.len=l.length+1→K s' w'):
  Nw e2 cs w fun b w1=>au P (Builtin.append_ #[t,t] ty ⟨[.slice s.base s.len s.cap,.slice (some ⟨b,0,none⟩) 1 1]⟩) kS w1 K:=by
 have hlen:=aC.len hg hz (hh.ag ad.own)
 refine Nw.mk hh fun b w1 h1=> ?_
 refine aI (ys:=g x) (n:=1) he hz (.inl ⟨e,he.und⟩) h1.p1 (.inl ⟨_,_,_,rfl,rfl,h1.ag (ad.aG (xs:=g x) (by rw [hcs]) (by rw [hg];simp))⟩) (by rw [hg];simp) hsc (by rw [hlen];exact hb) (by rw [hlen];exact hb2) fun s' w2 h2 hs'=>h s' w2 ?_ (by rw [hs',hlen])
 rw [List.flatMap_append,show [x].flatMap g=g x by simp]
 exact h2.p1.drop
theorem rC {P:Program} {t ty e:TypeId} {bytes:Nat} {s2:Sl} {ys:List α} {K:Sl→World→Prop} (he:bJ P t e sz bytes) (hg: ∀x,(g x).length=sz) (hz:0<sz) (hsc: ∀x,∀y∈g x,aD y=true)
  (hh:Hp E w (aj sz s (l.flatMap g)::F)) (hs:aC sz s2 (ys.flatMap g) w) (hb:(2*(l.length+ys.length)+1024)*bytes≤2^48) (hb2:l.length+ys.length<2^62)
  (h: ∀s' w',Hp E w' (aj sz s' ((l++ys).flatMap g)::F)→s'.len=l.length+ys.length→K s' w'):
  au P (Builtin.append_ #[t,t] ty ⟨[.slice s.base s.len s.cap,.slice s2.base s2.len s2.cap]⟩) kS w K:=by
 have hlen:=aC.len hg hz (hh.ag ad.own)
 have hlen2:=aC.len hg hz hs
 refine aI (ys:=ys.flatMap g) (n:=ys.length) he hz (.inl ⟨e,he.und⟩) hh (.inl ⟨_,_,_,rfl,hlen2.symm,hs⟩) (eH hg ys) (fun y hy=> ?_) (by rw [hlen];exact hb) (by rw [hlen];exact hb2) fun s' w2 h2 hs'=>h s' w2 ?_ (by rw [hs',hlen])
 ·obtain ⟨x,_,hx⟩:=List.mem_flatMap.1 hy
  exact hsc x y hx
 ·rw [List.flatMap_append];exact h2
end
end Go.Vc
set_option maxRecDepth 20000
namespace Go.Vc
open Go
section
variable {E w:World} {F:List HP} {A:HP}
theorem cY.mem (h:cY E F w) (hm:A∈F): ∃G,Hp E w (A::G):=by
 obtain ⟨l,h⟩:=h
 obtain ⟨s,t,rfl⟩:=List.append_of_mem hm
 refine ⟨(l++s)++t,?_⟩
 rw [←List.append_assoc] at h
 exact h.perm List.perm_middle
theorem cY.front (h:cY E (A::F) w): ∃G,Hp E w (A::G):=h.mem (by simp)
theorem cY.E6 {B:HP} (h:cY E (A::B::F) w): ∃G,Hp E w (B::G):=h.mem (by simp)
theorem aH.Ks {S:World→Prop} {b n:Nat} {cs:Array Value} {t:TypeId} {fr:Nat×Nat} {K:Array Value→Prop} (hS: ∀w,S w→∃G,Hp E w (af b (.cells cs t fr)::G)) (hn:cs.size=n) (hK:K cs):aH (.arr n) ⟨b,0,none⟩ S K:=by
 refine ⟨cs,hn,fun w' hw i hi=> ?_,hK⟩
 obtain ⟨G,h⟩:=hS w' hw
 rw [al,h.cell,Nat.zero_add]
 simp [hn,hi]
theorem aH.aG {S:World→Prop} {s:Sc} {b i:Nat} {c:Array Value} {t:TypeId} {fr:Nat×Nat} {K:s.T→Prop} (hS: ∀w,S w→∃G,Hp E w (af b (.cells c t fr)::G)) (x:s.T) (hx:c[i]? =some (s.enc x)) (hk:K x):aH (.sc s) ⟨b,i,none⟩ S K:=by
 refine aH.sc x (fun w' hw=> ?_) hk
 obtain ⟨G,h⟩:=hS w' hw
 rw [h.cell];exact hx
theorem aH.sub {S:World→Prop} {b n off:Nat} {pre aL post:List Value} {t:TypeId} {fr:Nat×Nat} {K:Array Value→Prop} (hS: ∀w,S w→∃G,Hp E w (af b (.cells ⟨pre++aL++post⟩ t fr)::G)) (ho:pre.length=off) (hn:aL.length=n) (hK:K ⟨aL⟩):aH (.arr n) ⟨b,off,none⟩ S K:=by
 refine ⟨⟨aL⟩,hn,fun w' hw i hi=> ?_,hK⟩
 obtain ⟨G,h⟩:=hS w' hw
 rw [al,h.cell]
 subst ho
 rw [List.getElem?_toArray,List.append_assoc,List.getElem?_append_right (by omega),List.getElem?_append_left (by omega),show pre.length+i - pre.length=i by omega]
 rw [List.getElem?_eq_getElem (by omega)]
 simp [show i<aL.length by omega]
theorem Ld.sub {b n off:Nat} {pre aL post:List Value} {t:TypeId} {fr:Nat×Nat} {K:Array Value→Prop} (h:Hp E w (af b (.cells ⟨pre++aL++post⟩ t fr)::F)) (ho:pre.length=off) (hn:aL.length=n) (hK:K ⟨aL⟩):Ld (.arr n) ⟨b,off,none⟩ w K:=
 aH.sub (E:=E) (fun w' hw=>⟨F,by rw [hw];exact h⟩) ho hn hK
end
def fL (n:Nat) (f:Nat→Int):Array Value:=⟨(List.range n).map fun j=> .int .i64 (f j)⟩
theorem ic {n:Nat} {f:Nat→Int}:(fL n f).size=n:=by simp [fL]
theorem zV {n:Nat} {f:Nat→Int} {i:Nat} {v:Int}:(fL n f).setIfInBounds i (.int .i64 v)=fL n fun j=>if j=i then v else f j:=by
 apply Array.ext_getElem?
 intro j
 rw [Array.getElem?_setIfInBounds]
 unfold fL
 simp only [List.getElem?_toArray,List.getElem?_map,List.size_toArray,List.length_map,List.length_range]
 by_cases hj:j<n
 ·rw [List.getElem?_range hj]
  by_cases e:i=j
  ·subst e;simp [hj]
  ·rw [if_neg e];simp [Ne.symm e]
 ·rw [List.getElem?_eq_none (by simpa using hj)]
  by_cases e:i=j
  ·subst e;simp [hj]
  ·simp [e]
theorem kO {n:Nat} {f g:Nat→Int} (h: ∀i,i<n→f i=g i):fL n f=fL n g:=by
 unfold fL
 congr 1
 exact List.map_congr_left fun j hj=>by rw [h j (by simpa using hj)]
theorem Ao {off:Nat}: ∀(vs:List Value) (k:Nat) (pre aL post:List Value),aL.length=vs.length→pre.length=off+k→
  (vs.zipIdx k).foldl (fun (cs:Array Value) (x:Value×Nat)=>cs.setIfInBounds (off+x.2) x.1) ⟨pre++aL++post⟩=⟨pre++vs++post⟩
 | [],k,pre,aL,post,hm,_=>by
  have:aL= []:=List.length_eq_zero_iff.1 hm
  subst this;rfl
 |v::vs,k,pre,aL,post,hm,hp=>by
  obtain ⟨m,aL,rfl⟩: ∃m mid',aL=m::mid':=by
   cases aL with
   |nil=>simp at hm
   |cons m aL=>exact ⟨m,aL,rfl⟩
  rw [List.zipIdx_cons,List.foldl_cons]
  have e:(⟨pre++m::aL++post⟩:Array Value).setIfInBounds (off+k) v=⟨(pre++ [v])++aL++post⟩:=by
   rw [←hp]
   apply Array.ext'
   simp
  show ((vs.zipIdx (k+1)).foldl _ ((⟨pre++m::aL++post⟩:Array Value).setIfInBounds (off+k) v))=_
  rw [e,Ao vs (k+1) (pre++ [v]) aL post (by simpa using hm) (by simp;omega)]
  simp
theorem FL {place:Nat→Option (Nat×Nat)} {i off size:Nat} {v:Value} {rest:List (Nat×Value)} {pre aL post:List Value} (hpl:place i=some (off,size)) (ho:pre.length=off) (hm:aL.length=size) (hv:v.cells.size=size):
  Instr.fill place ⟨pre++aL++post⟩ ((i,v)::rest)=Instr.fill place ⟨pre++v.cells.toList++post⟩ rest:=by
 rw [Instr.fill,hpl]
 simp only
 rw [if_neg (by simp [hv];omega)]
 congr 1
 rw [←Array.foldl_toList,Array.toList_zipIdx]
 exact Ao (off:=off) v.cells.toList 0 pre aL post (by simp [hm,hv]) (by omega)
end Go.Vc
set_option maxRecDepth 20000
namespace Go.Vc
open Go
class bS (b:Nat) (l:List HP) (c:outParam (Array Value)) (t:outParam TypeId) (fr:outParam (Nat×Nat)) (put:outParam (Obj→List HP)):Prop where
 perm: ∃r,l.Perm (af b (.cells c t fr)::r)∧∀o,(af b o::r).Perm (put o)
instance bS.head {b:Nat} {l:List HP} {c:Array Value} {t:TypeId} {fr:Nat×Nat}:bS b (af b (.cells c t fr)::l) c t fr (fun o=>af b o::l):=
 ⟨l,.refl _,fun _=> .refl _⟩
instance bS.tail {b:Nat} {A:HP} {l:List HP} {c:Array Value} {t:TypeId} {fr:Nat×Nat} {put:Obj→List HP} [h:bS b l c t fr put]:bS b (A::l) c t fr (fun o=>A::put o):=
 ⟨by
  obtain ⟨r,h1,h2⟩:=h.perm
  exact ⟨A::r,(h1.cons A).trans (.swap ..),fun o=>(List.Perm.swap ..).trans ((h2 o).cons A)⟩⟩
class ye (n:Nat) (l:List HP) (A:outParam HP) (r:outParam (List HP)):Prop where
 perm:l.Perm (A::r)
instance ye.zero {A:HP} {l:List HP}:ye 0 (A::l) A l:=⟨.refl _⟩
instance ye.succ {n:Nat} {A B:HP} {l r:List HP} [h:ye n l A r]:ye (n+1) (B::l) A (B::r):=⟨(h.perm.cons B).trans (.swap ..)⟩
section
variable {E w:World} {l:List HP} {b i:Nat} {c:Array Value} {t:TypeId} {fr:Nat×Nat} {put:Obj→List HP}
theorem Hp.at {A:HP} {r:List HP} (h:Hp E w l) (n:Nat) [hn:ye n l A r]:Hp E w (A::r):=h.perm hn.perm
theorem Hp.no {A:HP} {r:List HP} (h:Hp E w l) (n:Nat) [hn:ye n l A r]:Hp E w r:=(h.perm hn.perm).drop
theorem ad.at {A:HP} {r:List HP} {φ:World→Prop} (n:Nat) [hn:ye n l A r] (ht:ad (A::r) φ):ad l φ:=ht.perm hn.perm.symm
theorem Hp.fb [hf:bS b l c t fr put] (h:Hp E w l):w.heap[b]? =some (.cells c t fr):=by
 obtain ⟨r,h1,_⟩:=hf.perm
 exact (h.perm h1).aG
theorem Hp.fc [bS b l c t fr put] (h:Hp E w l):w.cell? ⟨b,i,none⟩=c[i]? :=by
 simp [World.cell?,h.fb]
def dv (b:Nat) (c:Array Value) (t:TypeId) (fr:Nat×Nat) (w:World):Prop:=w.heap[b]? =some (.cells c t fr)
theorem Hp.hb [bS b l c t fr put] (h:Hp E w l):dv b c t fr w:=h.fb
theorem dv.cell (h:dv b c t fr w):w.cell? ⟨b,i,none⟩=c[i]? :=by simp [World.cell?,show w.heap[b]? =_ from h]
def Sc.Gh:(s:Sc)→Value→Option s.T
 | .int k,.int k' n=>match k==k' with|true=>some n|false=>none
 | .bool,.bool b=>some b
 | .ptr,.pointer p=>some p
 | .sl,.slice b l c=>some ⟨b,l,c⟩
 | .str,.string s=>some s
 | .mp,.map m=>some m
 | .any,v=>some v
 | .addr,.pointer (some p)=>some p
 |_,_=>none
def u9:(l:List Sc)→List Value→Option (TT l)
 | [],_=>some ()
 |s::l,v::vs=>match s.Gh v,u9 l vs with
  |some x,some y=>some (x,y)
  |_,_=>none
 |_::_,[]=>none
theorem Sc.Hh {s:Sc} {v:Value} {x:s.T} (h:s.Gh v=some x):v=s.enc x:=by
 cases s<;>cases v<;>simp only [Sc.Gh] at h<;>first|cases h;rfl|cases h|skip
 ·rename_i k k' n
  by_cases e:k=k'
  ·subst e;simp at h;subst h;rfl
  ·have:(k==k')=false:=by simpa using e
   rw [this] at h;cases h
 ·rename_i p
  cases p with
  |none=>cases h
  |some p=>simp only [Option.some.injEq] at h;subst h;rfl
theorem xq: ∀{l:List Sc} {vs:List Value} {x:TT l},u9 l vs=some x→∃r,vs=fR l x++r
 | [],vs,(),_=>⟨vs,rfl⟩
 |s::l,v::vs,(x,y),h=>by
  simp only [u9] at h
  split at h
  ·rename_i x' y' hx hy
   simp only [Option.some.injEq,Prod.mk.injEq] at h
   obtain ⟨rfl,rfl⟩:=h
   obtain ⟨r,e⟩:=xq hy
   exact ⟨r,by rw [e,Sc.Hh hx];rfl⟩
  ·cases h
 |_::_,[],_,h=>by cases h
class lI (l F:List HP):Prop where
 sub: ∃p,l=p++F
instance lI.refl {F:List HP}:lI F F:=⟨[],rfl⟩
instance lI.cons {A:HP} {l F:List HP} [h:lI l F]:lI (A::l) F:=⟨by obtain ⟨p,e⟩:=h.sub;exact ⟨A::p,by rw [e];rfl⟩⟩
theorem Hp.tl {F:List HP} [h2:lI l F] (h:Hp E w l):Hp E w F:=by
 obtain ⟨p,e⟩:=h2.sub
 subst e;exact h.sK
theorem Fk {α β:Type} {K:α→β→Prop} {a a':α} {w:β} (e:a=a') (h:K a' w):K a w:=e▸h
theorem aa.yes {b:Bool} {X Y:Prop} (k:X) (h:b=true:=by with_reducible first|rfl|exact decide_eq_true (by omega)|exact beq_iff_eq.2 (by omega)|exact bne_iff_ne.2 (by omega)|exact Bool.not_false|exact Bool.not_eq_true' _▸decide_eq_false (by omega)):aa b X Y:=aa.t h k
theorem aa.no {b:Bool} {X Y:Prop} (k:Y) (h:b=false:=by with_reducible first|rfl|exact decide_eq_false (by omega)|exact beq_eq_false_iff_ne.2 (by omega)|exact bne_eq_false_iff_eq.2 (by omega)|exact Bool.not_true|exact Bool.not_eq_false' _▸decide_eq_true (by omega)):aa b X Y:=aa.f h k
theorem aa.dt {p:Prop} [Decidable p] {X Y:Prop} (hp:p) (h:X):aa (decide p) X Y:=aa.t (decide_eq_true hp) h
theorem aa.df {p:Prop} [Decidable p] {X Y:Prop} (hp: ¬p) (h:Y):aa (decide p) X Y:=aa.f (decide_eq_false hp) h
theorem aa.K0 {p:Prop} [Decidable p] {X Y:Prop} (hp:p) (h:Y):aa (!decide p) X Y:=aa.f (by rw [decide_eq_true hp];rfl) h
theorem aa.J7 {p:Prop} [Decidable p] {X Y:Prop} (hp: ¬p) (h:X):aa (!decide p) X Y:=aa.t (by rw [decide_eq_false hp];rfl) h
theorem aa.HV {X Y:Prop} (h:Y):aa (!true) X Y:=h
theorem aa.L8 {X Y:Prop} (h:X):aa (!false) X Y:=h
theorem aa.et {a b:Int} {X Y:Prop} (hp:a=b) (h:X):aa (a==b) X Y:=aa.t (beq_iff_eq.2 hp) h
theorem aa.ef {a b:Int} {X Y:Prop} (hp: ¬a=b) (h:Y):aa (a==b) X Y:=aa.f (beq_eq_false_iff_ne.2 hp) h
theorem aa.nt {a b:Int} {X Y:Prop} (hp: ¬a=b) (h:X):aa (a !=b) X Y:=aa.t (bne_iff_ne.2 hp) h
theorem aa.nf {a b:Int} {X Y:Prop} (hp:a=b) (h:Y):aa (a !=b) X Y:=aa.f (bne_eq_false_iff_eq.2 hp) h
theorem aa.dm {p:Prop} [Decidable p] {X Y:Prop} (h1:p→X) (h2: ¬p→Y):aa (decide p) X Y:=aa.mk (fun h=>h1 (of_decide_eq_true h)) (fun h=>h2 (of_decide_eq_false h))
theorem aa.em {a b:Int} {X Y:Prop} (h1:a=b→X) (h2: ¬a=b→Y):aa (a==b) X Y:=aa.mk (fun h=>h1 (beq_iff_eq.1 h)) (fun h=>h2 (beq_eq_false_iff_ne.1 h))
theorem aa.nm {a b:Int} {X Y:Prop} (h1: ¬a=b→X) (h2:a=b→Y):aa (a !=b) X Y:=aa.mk (fun h=>h1 (bne_iff_ne.1 h)) (fun h=>h2 (bne_eq_false_iff_eq.1 h))
theorem aH.xb {S:World→Prop} {s:Sc} {K:s.T→Prop} {x:s.T} (hS: ∀w,S w→dv b c t fr w) (hx:c.toList[i]? =some (s.enc x)) (hK:K x):aH (.sc s) ⟨b,i,none⟩ S K:=
 ⟨x,fun w hw=>by rw [(hS w hw).cell];rw [←hx];simp,hK⟩
theorem aH.xt {S:World→Prop} {ks:List Sc} {K:TT ks→Prop} {x:TT ks} (hS: ∀w,S w→dv b c t fr w) (hx:u9 ks (c.toList.drop i)=some x) (hK:K x):aH (.st ks) ⟨b,i,none⟩ S K:=by
 obtain ⟨r,e⟩:=xq hx
 refine uY x (fun w hw j hj=> ?_) hK
 rw [Nat.zero_add,al,(hS w hw).cell]
 have h1:(c.toList.drop i)[j]? =(fR ks x)[j]? :=by rw [e,List.getElem?_append_left hj]
 rw [List.getElem?_drop,List.getElem?_eq_getElem hj] at h1
 rw [←h1];simp
theorem aH.xa {S:World→Prop} {n:Nat} {aL post:List Value} {K:Array Value→Prop} (hS: ∀w,S w→dv b c t fr w) (hx:c.toList.drop i=aL++post) (hn:aL.length=n) (hK:K ⟨aL⟩):aH (.arr n) ⟨b,i,none⟩ S K:=by
 refine ⟨⟨aL⟩,hn,fun w hw j hj=> ?_,hK⟩
 rw [al,(hS w hw).cell]
 have h1:(c.toList.drop i)[j]? =aL[j]? :=by rw [hx,List.getElem?_append_left (by omega)]
 rw [List.getElem?_drop] at h1
 rw [show c[i+j]? =c.toList[i+j]? by simp,h1]
 simp [show j<aL.length by omega]
theorem Ld.xb {s:Sc} {K:s.T→Prop} {x:s.T} [bS b l c t fr put] (h:Hp E w l) (hx:c.toList[i]? =some (s.enc x)) (hK:K x):Ld (.sc s) ⟨b,i,none⟩ w K:=aH.xb (fun w' hw=>by rw [hw];exact h.fb) hx hK
theorem Ld.xt {ks:List Sc} {K:TT ks→Prop} {x:TT ks} [bS b l c t fr put] (h:Hp E w l) (hx:u9 ks (c.toList.drop i)=some x) (hK:K x):Ld (.st ks) ⟨b,i,none⟩ w K:=aH.xt (fun w' hw=>by rw [hw];exact h.fb) hx hK
theorem Ld.xa {n:Nat} {aL post:List Value} {K:Array Value→Prop} [bS b l c t fr put] (h:Hp E w l) (hx:c.toList.drop i=aL++post) (hn:aL.length=n) (hK:K ⟨aL⟩):Ld (.arr n) ⟨b,i,none⟩ w K:=aH.xa (fun w' hw=>by rw [hw];exact h.fb) hx hn hK
theorem Ld.xw {n:Nat} {K:Array Value→Prop} [bS b l c t fr put] (h:Hp E w l) (hn:c.size=n) (hK:K c):Ld (.arr n) ⟨b,0,none⟩ w K:=
 Ld.xa (aL:=c.toList) (post:= []) h (by simp) (by simpa using hn) (by simpa using hK)
theorem aH.xw {S:World→Prop} {n:Nat} {K:Array Value→Prop} (hS: ∀w,S w→dv b c t fr w) (hn:c.size=n) (hK:K c):aH (.arr n) ⟨b,0,none⟩ S K:=
 aH.xa (aL:=c.toList) (post:= []) hS (by simp) (by simpa using hn) (by simpa using hK)
theorem bj.LS {b:Nat} {t:TypeId} {F:List HP} {K:World→Prop}: ∀(vs:List Value) (i o:Nat) (w:World) (c:Array Value),Hp E w (af b (.cells c t (0,0))::F)→o+i+vs.length≤c.size→(∀v∈vs,aD v=true)→
  (∀c' w',c'.toList=c.toList.take (o+i)++vs++c.toList.drop (o+i+vs.length)→Hp E w' (af b (.cells c' t (0,0))::F)→K w')→bj ⟨b,o,none⟩ vs i w K
 | [],i,o,w,c,hh,hi,_,hK=>hK c w (by simp) hh
 |v::vs,i,o,w,c,hh,hi,hv,hK=>by
  have h1:=hv v (by simp)
  simp only [List.length_cons] at hi
  unfold bj
  rw [h1]
  have h2:=hh.setCell (i:=o+i) v
  refine ⟨?_,?_,?_⟩
  ·rw [al,hh.cell];simp;omega
  ·rw [al];simp [World.frozen?,hh.aG]
  ·rw [al]
   refine bj.LS vs (i+1) o _ _ h2 (by simp;omega) (fun x hx=>hv x (List.mem_cons_of_mem _ hx)) fun c' w' e h3=>hK c' w' ?_ h3
   rw [e,Array.toList_setIfInBounds,show o+(i+1)=o+i+1 by omega,List.take_add_one,List.take_set_of_le (by omega)]
   rw [List.getElem?_set_self (by simp;omega)]
   rw [List.drop_set_of_lt (by omega),List.length_cons]
   simp only [Option.toList_some,List.append_assoc,List.cons_append,List.nil_append]
   rw [show o+i+1+vs.length=o+i+(vs.length+1) by omega]
theorem bj.xm {o:Nat} {vs pre aL post:List Value} {K:World→Prop} [hf:bS b l c t (0,0) put] (h:Hp E w l) (hc:c.toList=pre++(aL++post)) (ho:pre.length=o) (hn:aL.length=vs.length) (hv:vs.all aD=true)
  (hK: ∀w',Hp E w' (put (.cells ⟨pre++(vs++post)⟩ t (0,0)))→K w'):bj ⟨b,o,none⟩ vs 0 w K:=by
 obtain ⟨r,h1,h2⟩:=hf.perm
 have hs:c.size=pre.length+(aL.length+post.length):=by rw [←Array.length_toList,hc];simp
 refine bj.LS vs 0 o w c (h.perm h1) (by omega) (List.all_eq_true.1 hv) fun c' w' e h'=>hK w' ?_
 have:c'=⟨pre++(vs++post)⟩:=by
  apply Array.ext'
  rw [e,hc,Nat.add_zero,←ho,List.take_left,←hn,←List.length_append,←List.append_assoc,List.drop_left,List.append_assoc]
 rw [this] at h'
 exact h'.perm (h2 _)
theorem bj.xw {vs:List Value} {K:World→Prop} [hf:bS b l c t (0,0) put] (h:Hp E w l) (hn:vs.length=c.size) (hv:vs.all aD=true)
  (hK: ∀w',Hp E w' (put (.cells ⟨vs⟩ t (0,0)))→K w'):bj ⟨b,0,none⟩ vs 0 w K:=
 bj.xm (pre:= []) (aL:=c.toList) (post:= []) h (by simp) rfl (by simpa using hn.symm) hv (by simpa using hK)
theorem St.xb {o:Nat} {v:Value} {K:World→Prop} [hf:bS b l c t (0,0) put] (h:Hp E w l) (hi:o<c.size) (hv:aD v=true)
  (hK: ∀w',Hp E w' (put (.cells (c.setIfInBounds o v) t (0,0)))→K w'):St ⟨b,o,none⟩ v w K:=by
 obtain ⟨r,h1,h2⟩:=hf.perm
 exact St.mk rfl (h.perm h1) hi hv fun w' h'=>hK w' (h'.perm (h2 _))
theorem St.xm {o:Nat} {v u:Value} {pre post:List Value} {K:World→Prop} [hf:bS b l c t (0,0) put] (h:Hp E w l) (hc:c.toList=pre++(u::post)) (ho:pre.length=o) (hv:aD v=true)
  (hK: ∀w',Hp E w' (put (.cells ⟨pre++(v::post)⟩ t (0,0)))→K w'):St ⟨b,o,none⟩ v w K:=by
 refine St.xb h ?_ hv fun w' h'=>hK w' ?_
 ·rw [←Array.length_toList,hc];simp;omega
 ·have:c.setIfInBounds o v=⟨pre++(v::post)⟩:=by
   apply Array.ext'
   rw [Array.toList_setIfInBounds,hc,←ho]
   simp
  rwa [this] at h'
def aJ:List Value→List Value→List Value
 | [],l=>l
 |_::_,[]=> []
 |v::vs,_::l=>v::aJ vs l
def ca:List Value→Nat→List Value→List Value
 |l,0,vs=>aJ vs l
 |a::l,o+1,vs=>a::ca l o vs
 | [],_+1,_=> []
theorem Cf: ∀{l vs:List Value},vs.length≤l.length→aJ vs l=vs++l.drop vs.length
 |_,[],_=>rfl
 | [],_::_,h=>by simp at h
 |a::l,v::vs,h=>by
  rw [aJ,Cf (by simpa using h)];rfl
theorem zI: ∀{l:List Value} {o:Nat} {vs:List Value},o+vs.length≤l.length→ca l o vs=l.take o++(vs++l.drop (o+vs.length))
 |l,0,vs,h=>by
  have:ca l 0 vs=aJ vs l:=by cases l<;>rfl
  rw [this,Cf (by omega)];simp
 |a::l,o+1,vs,h=>by
  rw [ca,zI (by simp at h;omega),show o+1+vs.length=o+vs.length+1 by omega];rfl
 | [],o+1,vs,h=>by simp at h
theorem bj.xs {o:Nat} {vs:List Value} {K:World→Prop} [hf:bS b l c t (0,0) put] (h:Hp E w l) (hb:Nat.ble (o+vs.length) c.toList.length=true) (hv:vs.all aD=true)
  (hK: ∀w',Hp E w' (put (.cells ⟨ca c.toList o vs⟩ t (0,0)))→K w'):bj ⟨b,o,none⟩ vs 0 w K:=by
 have hb:=Nat.le_of_ble_eq_true hb
 rw [zI hb] at hK
 refine bj.xm (aL:=(c.toList.drop o).take vs.length) h ?_ (by simp;simp at hb;omega) (by simp;simp at hb;omega) hv hK
 rw [←List.drop_drop,List.take_append_drop,List.take_append_drop]
theorem St.xs {o:Nat} {v:Value} {K:World→Prop} [hf:bS b l c t (0,0) put] (h:Hp E w l) (hb:Nat.ble (o+1) c.toList.length=true) (hv:aD v=true)
  (hK: ∀w',Hp E w' (put (.cells ⟨ca c.toList o [v]⟩ t (0,0)))→K w'):St ⟨b,o,none⟩ v w K:=by
 have hb:=Nat.le_of_ble_eq_true hb
 have hb2:o<c.toList.length:=by omega
 rw [zI (by simpa using hb)] at hK
 refine St.xm (u:=c.toList[o]'hb2) (pre:=c.toList.take o) (post:=c.toList.drop (o+1)) h ?_ (by simp;simp at hb;omega) hv (by simpa using hK)
 rw [List.getElem_cons_drop,List.take_append_drop]
theorem ax.xm {n o:Nat} {cs:Array Value} {pre aL post:List Value} {K:World→Prop} [hf:bS b l c t (0,0) put] (h:Hp E w l) (hc:c.toList=pre++(aL++post)) (ho:pre.length=o) (hn:aL.length=n) (hcs:cs.size=n) (hv: ∀v∈cs.toList,aD v=true)
  (hK: ∀w',Hp E w' (put (.cells ⟨pre++(cs.toList++post)⟩ t (0,0)))→K w'):ax n ⟨b,o,none⟩ cs w K:=by
 obtain ⟨r,h1,h2⟩:=hf.perm
 have hh:=h.perm h1
 have hs:c.size=pre.length+(aL.length+post.length):=by rw [←Array.length_toList,hc];simp
 refine ⟨hcs,fun i hi=>⟨?_,?_,?_⟩,?_⟩
 ·have:cs.getD i undef∈cs.toList:=by simp [Array.getD,hcs,hi]
  exact hv _ this
 ·rw [al,hh.cell];simp;omega
 ·rw [al];simp [World.frozen?,hh.aG]
 ·have key: ∀(vs:List Value) (i:Nat) (w:World) (c:Array Value),Hp E w (af b (.cells c t (0,0))::r)→o+i+vs.length≤c.size→
    Hp E (ax.setRow w ⟨b,o,none⟩ vs i) (af b (.cells ⟨c.toList.take (o+i)++vs++c.toList.drop (o+i+vs.length)⟩ t (0,0))::r):=by
   intro vs
   induction vs with
   |nil=>intro i w c hh hi;simpa [ax.setRow] using hh
   |cons v vs ih=>
    intro i w c hh hi
    simp only [List.length_cons] at hi
    have h2:=hh.setCell (i:=o+i) v
    have:=ih (i+1) _ _ h2 (by simp;omega)
    unfold ax.setRow
    rw [al]
    rw [Array.toList_setIfInBounds,show o+(i+1)=o+i+1 by omega,List.take_add_one,List.take_set_of_le (by omega),List.getElem?_set_self (by simp;omega),List.drop_set_of_lt (by omega)] at this
    rw [List.length_cons,show o+i+(vs.length+1)=o+i+1+vs.length by omega]
    simpa using this
  have:=key cs.toList 0 w c hh (by rw [Array.length_toList];omega)
  refine hK _ ((this.perm (h2 _)).perm (by
   rw [hc,Nat.add_zero,←ho,List.take_left,show cs.toList.length=aL.length by simp;omega,←List.length_append,←List.append_assoc,List.drop_left,List.append_assoc]))
theorem ax.xw {n:Nat} {cs:Array Value} {K:World→Prop} [hf:bS b l c t (0,0) put] (h:Hp E w l) (hn:c.size=n) (hcs:cs.size=n) (hv: ∀v∈cs.toList,aD v=true)
  (hK: ∀w',Hp E w' (put (.cells cs t (0,0)))→K w'):ax n ⟨b,0,none⟩ cs w K:=
 ax.xm (pre:= []) (aL:=c.toList) (post:= []) h (by simp) rfl (by simpa using hn) hcs hv (by simpa using hK)
end
end Go.Vc
set_option maxRecDepth 20000
namespace Go.Vc
open Go
section
variable {E w:World} {l:List HP} {b n k o:Nat} {L r:List Value} {t:TypeId} {fr:Nat×Nat} {put:Obj→List HP}
theorem ki (hL:L.length=n):(L++r)[k+n]? =r[k]? :=by
 rw [List.getElem?_append_right (by omega)]
 congr 1;omega
theorem BW: ∀{L r:List Value} {n k:Nat} {vs:List Value},L.length=n→ca (L++r) (k+n) vs=L++ca r k vs
 | [],r,n,k,vs,h=>by
  have:n=0:=by simpa using h.symm
  subst this;rfl
 |a::L,r,n,k,vs,h=>by
  obtain ⟨m,rfl⟩: ∃m,n=m+1:=⟨L.length,by simpa using h.symm⟩
  rw [show k+(m+1)=(k+m)+1 by omega,List.cons_append,ca,BW (by simpa using h)]
  rfl
theorem aH.q {S:World→Prop} {s:Sc} {K:s.T→Prop} {x:s.T} (hS: ∀w,S w→dv b ⟨L++r⟩ t fr w) (hL:L.length=n) (ho:o=k+n) (hx:r[k]? =some (s.enc x)) (hK:K x):aH (.sc s) ⟨b,o,none⟩ S K:=by
 subst ho
 exact aH.xb hS ((ki hL).trans hx) hK
theorem Ld.q {s:Sc} {K:s.T→Prop} {x:s.T} [bS b l ⟨L++r⟩ t fr put] (h:Hp E w l) (hL:L.length=n) (ho:o=k+n) (hx:r[k]? =some (s.enc x)) (hK:K x):Ld (.sc s) ⟨b,o,none⟩ w K:=
 aH.q (fun w' hw=>by rw [hw];exact h.fb) hL ho hx hK
theorem aH.p {S:World→Prop} {K:Array Value→Prop} (hS: ∀w,S w→dv b ⟨L++r⟩ t fr w) (hL:L.length=n) (hK:K ⟨L⟩):aH (.arr n) ⟨b,0,none⟩ S K:=
 aH.xa (aL:=L) (post:=r) hS rfl hL hK
theorem Ld.p {K:Array Value→Prop} [bS b l ⟨L++r⟩ t fr put] (h:Hp E w l) (hL:L.length=n) (hK:K ⟨L⟩):Ld (.arr n) ⟨b,0,none⟩ w K:=
 aH.p (fun w' hw=>by rw [hw];exact h.fb) hL hK
theorem Ld.qw {m:Nat} {K:Array Value→Prop} [bS b l ⟨L++r⟩ t fr put] (h:Hp E w l) (hL:L.length=n) (hm:n+r.length=m) (hK:K ⟨L++r⟩):Ld (.arr m) ⟨b,0,none⟩ w K:=
 Ld.xw h (by simp [hL,hm]) hK
theorem aH.qw {S:World→Prop} {m:Nat} {K:Array Value→Prop} (hS: ∀w,S w→dv b ⟨L++r⟩ t fr w) (hL:L.length=n) (hm:n+r.length=m) (hK:K ⟨L++r⟩):aH (.arr m) ⟨b,0,none⟩ S K:=
 aH.xw hS (by simp [hL,hm]) hK
theorem St.q {v:Value} {K:World→Prop} [bS b l ⟨L++r⟩ t (0,0) put] (h:Hp E w l) (hL:L.length=n) (ho:o=k+n) (hb:Nat.ble (k+1) r.length=true) (hv:aD v=true)
  (hK: ∀w',Hp E w' (put (.cells ⟨L++ca r k [v]⟩ t (0,0)))→K w'):St ⟨b,o,none⟩ v w K:=by
 subst ho
 have hb':=Nat.le_of_ble_eq_true hb
 refine St.xs h (Nat.ble_eq_true_of_le (by simp;omega)) hv fun w' h'=>hK w' ?_
 rw [show (⟨L++r⟩:Array Value).toList=L++r from rfl,BW hL] at h'
 exact h'
theorem ax.q {m:Nat} {cs:Array Value} {c:Array Value} {K:World→Prop} [bS b l c t (0,0) put] (h:Hp E w l) (hc:c.size=m) (hcs:cs.size=m) (hv:cs.toList.all aD=true)
  (hK: ∀w',Hp E w' (put (.cells cs t (0,0)))→K w'):ax m ⟨b,0,none⟩ cs w K:=ax.xw h hc hcs (List.all_eq_true.1 hv) hK
theorem St.g {v:Value} {K:World→Prop} [bS b l ⟨L++r⟩ t (0,0) put] (h:Hp E w l) (ho:o<L.length) (hv:aD v=true)
  (hK: ∀w',Hp E w' (put (.cells ⟨L.set o v++r⟩ t (0,0)))→K w'):St ⟨b,o,none⟩ v w K:=by
 refine St.xb h (by simp;omega) hv fun w' h'=>hK w' ?_
 have:(⟨L++r⟩:Array Value).setIfInBounds o v=⟨L.set o v++r⟩:=by
  apply Array.ext'
  rw [Array.toList_setIfInBounds,List.set_append_left _ _ ho]
 rwa [this] at h'
theorem Ld.g {s:Sc} {K:s.T→Prop} {x:s.T} [bS b l ⟨L++r⟩ t fr put] (h:Hp E w l) (hx:L[o]? =some (s.enc x)) (hK:K x):Ld (.sc s) ⟨b,o,none⟩ w K:=by
 refine Ld.xb h ?_ hK
 have:o<L.length:=by
  rcases Nat.lt_or_ge o L.length with h|h
  ·exact h
  ·rw [List.getElem?_eq_none h] at hx;cases hx
 rw [show (⟨L++r⟩:Array Value).toList=L++r from rfl,List.getElem?_append_left this,hx]
end
end Go.Vc
set_option maxRecDepth 20000
namespace Go.Vc
open Go
section
variable {P:Program} {E w:World} {l:List HP} {b o:Nat} {c:Array Value} {t:TypeId} {fr:Nat×Nat} {put:Obj→List HP}
theorem Hp.JM {F:List HP} {cs:Array Value} {fr:Nat×Nat} (h:Hp E w (af b (.cells c t fr)::F)):Hp E (w.setRow b cs) (af b (.cells cs t fr)::F):=by
 have hb:=h.aG
 refine h.setObj (o':= .cells cs t fr) ?_ rfl rfl rfl
 apply Array.ext_getElem?
 intro r
 have hlt:b<w.heap.size:=by
  rcases Nat.lt_or_ge b w.heap.size with hh|hh
  ·exact hh
  ·simp [Array.getElem?_eq_none hh] at hb
 simp only [World.setRow,Array.getElem?_modify,Array.set!_eq_setIfInBounds,Array.getElem?_setIfInBounds]
 by_cases hr:b=r
 ·subst hr
  have hv:w.heap[b]= .cells c t fr:=by simpa [hlt] using hb
  simp [hlt,hv]
 ·simp [hr]
theorem rD {dT sT ty e:TypeId} {dLen dCap:Nat} {s:Sl} {ys:List Value} {K:Int→World→Prop} [hf:bS b l c t (0,0) put] (hu:P.underlying dT=some (.slice e)) (hs:(P.info? e).map (·.size)=some 1)
  (h:Hp E w l) (hsrc:aC 1 s ys w) (hsc: ∀v∈ys,aD v=true) (hfit:o+dLen≤c.size)
  (hK: ∀w',Hp E w' (put (.cells ⟨c.toList.take o++(ys.take dLen++c.toList.drop (o+min ys.length dLen))⟩ t (0,0)))→K ((min ys.length dLen:Nat):Int) w'):
  au P (Builtin.copy_ #[dT,sT] ty ⟨[.slice (some ⟨b,o,none⟩) dLen dCap,.slice s.base s.len s.cap]⟩) kI w K:=by
 have hl:=hsrc.1
 rw [Nat.mul_one] at hl
 obtain ⟨r,h1,h2⟩:=hf.perm
 have hh:=h.perm h1
 unfold au
 by_cases h0:min ys.length dLen=0
 ·rw [show (⟨[.slice (some ⟨b,o,none⟩) dLen dCap,.slice s.base s.len s.cap]⟩:Array Value)= #[.slice (some ⟨b,o,none⟩) dLen dCap,.slice s.base s.len s.cap] from rfl,run_copy_none (P:=P) w dT sT ty e _ _ _ _ _ _ hu hs (by rw [←hl];exact h0)]
  have hk:=hK w
  rw [h0] at hk
  have e1:ys.take dLen= []:=by
   rcases Nat.eq_zero_or_pos dLen with hd|hd
   ·rw [hd];rfl
   ·have:ys= []:=List.length_eq_zero_iff.1 (by omega)
    rw [this];simp
  rw [e1,List.nil_append,Nat.add_zero,List.take_append_drop] at hk
  exact hk (hh.perm (by have:=h2 (.cells c t (0,0));simpa using this))
 ·have hpos:0<ys.length:=by omega
  obtain ⟨p,hp,_⟩:=hsrc.2 0 hpos
  rw [hp]
  have hmin:(ys.take dLen).length=Nat.min s.len dLen:=by
   rw [List.length_take,←hl,Nat.min_comm]
  have:=run_copy_row (P:=P) w dT sT ty e b o dLen dCap p s.len s.cap c t (ys.take dLen) hu hs hh.aG hmin (fun j v hv=> ?_) (by
   rw [List.length_take];omega) (fun v hv=>mg (hsc v (List.mem_of_mem_take hv)))
  ·rw [show (⟨[.slice (some ⟨b,o,none⟩) dLen dCap,.slice (some p) s.len s.cap]⟩:Array Value)= #[.slice (some ⟨b,o,none⟩) dLen dCap,.slice (some p) s.len s.cap] from rfl,this]
   have hlen:(ys.take dLen).length=min ys.length dLen:=by rw [List.length_take,Nat.min_comm]
   rw [hlen,List.append_assoc]
   exact hK _ ((hh.JM).perm (h2 _))
  ·have hj:j<(ys.take dLen).length:=by
    rcases Nat.lt_or_ge j (ys.take dLen).length with h|h
    ·exact h
    ·rw [List.getElem?_eq_none h] at hv;cases hv
   rw [List.length_take] at hj
   obtain ⟨p',hp',hc⟩:=hsrc.2 j (by omega)
   rw [hp] at hp'
   cases hp'
   rw [hc]
   rw [List.getElem?_take_of_lt (by omega),List.getElem?_eq_getElem (by omega)] at hv
   exact hv
end
end Go.Vc
namespace Go.Proofs.YtgglghjnakclmaaGreat
open Go Go.Vc
set_option maxRecDepth 100000
theorem sV.ok (a:Sl) (R:Sl→World→Prop) w (h:
 aa (Option.isNone (a).base)
 (R (⟨none,0,0⟩:Sl) w)
 (Nw 5 ⟨[]⟩ w fun c b=>
 au Pg (Builtin.append_ #[26,26] 26 ⟨[(ah (⟨some ⟨c,0,none⟩,0,0⟩:Sl)),(ah a)]⟩) kS b fun (e:Sl) d=>
 R e d)):Cl Pg [kS] ja ⟨[(ah a)]⟩ w R:=co Tryz.f204 [] h
theorem vZ.ok (a:Sl) (b:Int) (R:Int→World→Prop) w (h:
 Ext Pg c7 ⟨[(ah a),(.int .u8 b)]⟩ [kI] w fun (d:Int) c=>
 R d c):Cl Pg [kI] mb ⟨[(ah a),(.int .u8 b)]⟩ w R:=co Tryz.f306 [] h
end Go.Proofs.YtgglghjnakclmaaGreat
namespace Go.Proofs.YtgglghjnakclmaaGreat
open Go Go.Vc
set_option maxRecDepth 100000
theorem n6.ok (a:Sl) (R:Sl→World→Prop) w (h:
 br 0 0 w fun b c (d:Int) (e:Int) f=>
 aa (decide (e<(a.len:Int)))
 (an a e 1 fun g=>
 Ld kS g f fun (h:Sl)=>
 aa (decide ((i64 (d+(h.len:Int)))<0))
 (False)
 (b (i64 (d+(h.len:Int))) (i64 (e+1)) f∧c (i64 (d+(h.len:Int))) (i64 (e+1)) f<c d e f))
 (Cl Pg [kS] ez ⟨[(.slice none 0 0),(ni d)]⟩ f fun (k:Sl) j=>
 br k 0 j fun l m (n:Sl) (o:Int) p=>
 aa (decide (o<(a.len:Int)))
 (an a o 1 fun q=>
 Ld kS q p fun (r:Sl)=>
 au Pg (Builtin.append_ #[26,26] 26 ⟨[(ah n),(ah r)]⟩) kS p fun (t:Sl) s=>
 l t (i64 (o+1)) s∧m t (i64 (o+1)) s<m n o p)
 (R n p))):Cl Pg [kS] dU ⟨[(ah a)]⟩ w R:=co Tryz.f200 [(7,[(3,kI),(11,kI)]),(25,[(6,kS),(27,kI)])] h
theorem pk.ok (a:Sl) (b:Int) (R:Sl→World→Prop) w (h:
 aa (decide (b<0))
 (False)
 (aa (decide ((i64 (b - (i64 ((a.cap:Int) - (a.len:Int)))))>0))
 (bf a 0 (a.cap:Int) (a).cap 1 fun d=>
 au Pg (Builtin.append_ #[26,3] 26 ⟨[(ah d),(ni (i64 (b - (i64 ((a.cap:Int) - (a.len:Int))))))]⟩) kS w fun (f:Sl) e=>
 bf f 0 (a.len:Int) (f).cap 1 fun g=>
 R g e)
 (R a w))):Cl Pg [kS] ez ⟨[(ah a),(ni b)]⟩ w R:=co Tryz.f262 [] h
theorem ko.ok (a:Sl) (b:Value) (R:World→Prop) w (h:
 Cl Pg [] dF ⟨[(ah a),(ni (a.len:Int)),b]⟩ w fun c=>
 R c):Cl Pg [] bT ⟨[(ah a),b]⟩ w R:=co Tryz.f268 [] h
theorem lq.ok (a:Sl) (b:Value) (R:Bool→World→Prop) w (h:
 Cl Pg [kI] gd ⟨[(ah a),b]⟩ w fun (d:Int) c=>
 R (decide (d≥0)) c):Cl Pg [kB] fe ⟨[(ah a),b]⟩ w R:=co Tryz.f271 [] h
theorem nd.ok (a:Sl) (R:World→Prop) w (h:
 br 0 (i64 ((a.len:Int) - 1)) w fun b c (d:Int) (e:Int) f=>
 aa (decide (d<e))
 (aK f fun g=>
 an a e 1 fun h=>
 Ld (aq .u8) h g fun (i:Int)=>
 an a d 1 fun j=>
 Ld (aq .u8) j g fun (k:Int)=>
 an a d 1 fun l=>
 St l (.int .u8 i) g fun m=>
 an a e 1 fun n=>
 St n (.int .u8 k) m fun o=>
 b (i64 (d+1)) (i64 (e - 1)) o∧c (i64 (d+1)) (i64 (e - 1)) o<c d e f)
 (R f)):Cl Pg [] dC ⟨[(ah a)]⟩ w R:=co Tryz.f299 [(2,[(2,kI),(3,kI)])] h
theorem nR.ok (a:Sl) (b:Int) (c:Value) (R:World→Prop) w (h:
 br 0 20 w fun d e (f:Int) (g:Int) h=>
 aa (decide (g≤b))
 (Cl Pg [] bG ⟨[(ah a),(ni f),(ni g),c]⟩ h fun i=>
 d g (i64 (g+20)) i∧e g (i64 (g+20)) i<e f g h)
 (Cl Pg [] bG ⟨[(ah a),(ni f),(ni b),c]⟩ h fun j=>
 da 20 j fun k l (m:Int) n=>
 aa (decide (m<b))
 (br 0 (i64 ((2:Int)*m)) n fun o p (q:Int) (r:Int) s=>
 aa (decide (r≤b))
 (Cl Pg [] aW ⟨[(ah a),(ni q),(ni (i64 (q+m))),(ni r),c]⟩ s fun t=>
 o r (i64 (r+(i64 ((2:Int)*m)))) t∧p r (i64 (r+(i64 ((2:Int)*m)))) t<p q r s)
 (aa (decide ((i64 (q+m))<b))
 (Cl Pg [] aW ⟨[(ah a),(ni q),(ni (i64 (q+m))),(ni b),c]⟩ s fun u=>
 k (i64 (m*2)) u∧l (i64 (m*2)) u<l m n)
 (k (i64 (m*2)) s∧l (i64 (m*2)) s<l m n)))
 (R n))):Cl Pg [] dF ⟨[(ah a),(ni b),c]⟩ w R:=co Tryz.f308 [(5,[(7,kI),(8,kI)]),(16,[(6,kI)]),(23,[(7,kI),(8,kI)])] h
theorem mY.ok (a:Sl) (b:Value) (R:Int→World→Prop) w (h:
 da 0 w fun c d (e:Int) f=>
 aa (decide (e<(a.len:Int)))
 (an a e 1 fun g=>
 Ld kI g f fun (h:Int)=>
 db Pg b [kB] [(ni h)] f fun (j:Bool) i=>
 aa j
 (R e i)
 (c (i64 (e+1)) i∧d (i64 (e+1)) i<d e f))
 (R (-1) f)):Cl Pg [kI] gd ⟨[(ah a),b]⟩ w R:=co Tryz.f310 [(5,[(8,kI)])] h
theorem jP.ok (a:Sl) (b:Int) (c:Int) (d:Value) (R:World→Prop) w (h:
 da (i64 (b+1)) w fun e f (g:Int) h=>
 aa (decide (g<c))
 (da g h fun i j (k:Int) l=>
 aK l fun m=>
 aa (decide (k>b))
 (an a k 1 fun n=>
 Ld kI n m fun (o:Int)=>
 an a (i64 (k - 1)) 1 fun p=>
 Ld kI p m fun (q:Int)=>
 db Pg d [kI] [(ni o),(ni q)] m fun (s:Int) r=>
 aa (decide (s<0))
 (aK r fun t=>
 an a (i64 (k - 1)) 1 fun u=>
 Ld kI u t fun (v:Int)=>
 an a k 1 fun x=>
 Ld kI x t fun (y:Int)=>
 an a k 1 fun z=>
 St z (ni v) t fun a1=>
 an a (i64 (k - 1)) 1 fun b1=>
 St b1 (ni y) a1 fun c1=>
 i (i64 (k - 1)) c1∧j (i64 (k - 1)) c1<j k l)
 (e (i64 (g+1)) r∧f (i64 (g+1)) r<f g h))
 (e (i64 (g+1)) m∧f (i64 (g+1)) m<f g h))
 (R h)):Cl Pg [] bG ⟨[(ah a),(ni b),(ni c),d]⟩ w R:=co Tryz.f325 [(2,[(8,kI)]),(9,[(9,kI)])] h
theorem lT.ok (a:Sl) (b:Int) (c:Int) (d:Int) (e:Value) (R:World→Prop) w (h:
 aa ((i64 (c - b))==1)
 (br c d w fun f g (h:Int) (i:Int) j=>
 aa (decide (h<i))
 (0≤(1:Int)∧
 aK j fun k=>
 an a (i64 (aN .u64 (u64 (i64 (h+i))) (1:Int))) 1 fun l=>
 Ld kI l k fun (m:Int)=>
 an a b 1 fun n=>
 Ld kI n k fun (o:Int)=>
 db Pg e [kI] [(ni m),(ni o)] k fun (q:Int) p=>
 aa (decide (q<0))
 (f (i64 ((i64 (aN .u64 (u64 (i64 (h+i))) (1:Int)))+1)) i p∧g (i64 ((i64 (aN .u64 (u64 (i64 (h+i))) (1:Int)))+1)) i p<g h i j)
 (f h (i64 (aN .u64 (u64 (i64 (h+i))) (1:Int))) p∧g h (i64 (aN .u64 (u64 (i64 (h+i))) (1:Int))) p<g h i j))
 (da b j fun r s (t:Int) u=>
 aa (decide (t<(i64 (h - 1))))
 (aK u fun v=>
 an a (i64 (t+1)) 1 fun x=>
 Ld kI x v fun (y:Int)=>
 an a t 1 fun z=>
 Ld kI z v fun (a1:Int)=>
 an a t 1 fun b1=>
 St b1 (ni y) v fun c1=>
 an a (i64 (t+1)) 1 fun d1=>
 St d1 (ni a1) c1 fun e1=>
 r (i64 (t+1)) e1∧s (i64 (t+1)) e1<s t u)
 (R u)))
 (aa ((i64 (d - c))==1)
 (br b c w fun f1 g1 (h1:Int) (i1:Int) j1=>
 aa (decide (h1<i1))
 (0≤(1:Int)∧
 aK j1 fun k1=>
 an a c 1 fun l1=>
 Ld kI l1 k1 fun (m1:Int)=>
 an a (i64 (aN .u64 (u64 (i64 (h1+i1))) (1:Int))) 1 fun n1=>
 Ld kI n1 k1 fun (o1:Int)=>
 db Pg e [kI] [(ni m1),(ni o1)] k1 fun (q1:Int) p1=>
 aa (!(decide (q1<0)))
 (f1 (i64 ((i64 (aN .u64 (u64 (i64 (h1+i1))) (1:Int)))+1)) i1 p1∧g1 (i64 ((i64 (aN .u64 (u64 (i64 (h1+i1))) (1:Int)))+1)) i1 p1<g1 h1 i1 j1)
 (f1 h1 (i64 (aN .u64 (u64 (i64 (h1+i1))) (1:Int))) p1∧g1 h1 (i64 (aN .u64 (u64 (i64 (h1+i1))) (1:Int))) p1<g1 h1 i1 j1))
 (da c j1 fun r1 s1 (t1:Int) u1=>
 aa (decide (t1>h1))
 (aK u1 fun v1=>
 an a (i64 (t1 - 1)) 1 fun x1=>
 Ld kI x1 v1 fun (y1:Int)=>
 an a t1 1 fun z1=>
 Ld kI z1 v1 fun (a2:Int)=>
 an a t1 1 fun b2=>
 St b2 (ni y1) v1 fun c2=>
 an a (i64 (t1 - 1)) 1 fun d2=>
 St d2 (ni a2) c2 fun e2=>
 r1 (i64 (t1 - 1)) e2∧s1 (i64 (t1 - 1)) e2<s1 t1 u1)
 (R u1)))
 (0≤(1:Int)∧
 bD (fun (g2:Int) (h2:Int) (i2:World)=>
 br g2 h2 i2 fun j2 k2 (l2:Int) (m2:Int) n2=>
 aa (decide (l2<m2))
 (0≤(1:Int)∧
 aK n2 fun o2=>
 an a (i64 ((i64 ((i64 ((i64 (aN .u64 (u64 (i64 (b+d))) (1:Int)))+c)) - 1)) - (i64 (aN .u64 (u64 (i64 (l2+m2))) (1:Int))))) 1 fun p2=>
 Ld kI p2 o2 fun (q2:Int)=>
 an a (i64 (aN .u64 (u64 (i64 (l2+m2))) (1:Int))) 1 fun r2=>
 Ld kI r2 o2 fun (s2:Int)=>
 db Pg e [kI] [(ni q2),(ni s2)] o2 fun (u2:Int) t2=>
 aa (!(decide (u2<0)))
 (j2 (i64 ((i64 (aN .u64 (u64 (i64 (l2+m2))) (1:Int)))+1)) m2 t2∧k2 (i64 ((i64 (aN .u64 (u64 (i64 (l2+m2))) (1:Int)))+1)) m2 t2<k2 l2 m2 n2)
 (j2 l2 (i64 (aN .u64 (u64 (i64 (l2+m2))) (1:Int))) t2∧k2 l2 (i64 (aN .u64 (u64 (i64 (l2+m2))) (1:Int))) t2<k2 l2 m2 n2))
 (bD (fun (y2:World)=>
 aa (decide (b<l2))
 (aa (decide (l2<(i64 (aN .u64 (u64 (i64 (b+d))) (1:Int)))))
 (Cl Pg [] aW ⟨[(ah a),(ni b),(ni l2),(ni (i64 (aN .u64 (u64 (i64 (b+d))) (1:Int)))),e]⟩ y2 fun z2=>
 aa (decide ((i64 (aN .u64 (u64 (i64 (b+d))) (1:Int)))<(i64 ((i64 ((i64 (aN .u64 (u64 (i64 (b+d))) (1:Int)))+c)) - l2))))
 (aa (decide ((i64 ((i64 ((i64 (aN .u64 (u64 (i64 (b+d))) (1:Int)))+c)) - l2))<d))
 (Cl Pg [] aW ⟨[(ah a),(ni (i64 (aN .u64 (u64 (i64 (b+d))) (1:Int)))),(ni (i64 ((i64 ((i64 (aN .u64 (u64 (i64 (b+d))) (1:Int)))+c)) - l2))),(ni d),e]⟩ z2 fun a3=>
 R a3)
 (R z2))
 (R z2))
 (aa (decide ((i64 (aN .u64 (u64 (i64 (b+d))) (1:Int)))<(i64 ((i64 ((i64 (aN .u64 (u64 (i64 (b+d))) (1:Int)))+c)) - l2))))
 (aa (decide ((i64 ((i64 ((i64 (aN .u64 (u64 (i64 (b+d))) (1:Int)))+c)) - l2))<d))
 (Cl Pg [] aW ⟨[(ah a),(ni (i64 (aN .u64 (u64 (i64 (b+d))) (1:Int)))),(ni (i64 ((i64 ((i64 (aN .u64 (u64 (i64 (b+d))) (1:Int)))+c)) - l2))),(ni d),e]⟩ y2 fun b3=>
 R b3)
 (R y2))
 (R y2)))
 (aa (decide ((i64 (aN .u64 (u64 (i64 (b+d))) (1:Int)))<(i64 ((i64 ((i64 (aN .u64 (u64 (i64 (b+d))) (1:Int)))+c)) - l2))))
 (aa (decide ((i64 ((i64 ((i64 (aN .u64 (u64 (i64 (b+d))) (1:Int)))+c)) - l2))<d))
 (Cl Pg [] aW ⟨[(ah a),(ni (i64 (aN .u64 (u64 (i64 (b+d))) (1:Int)))),(ni (i64 ((i64 ((i64 (aN .u64 (u64 (i64 (b+d))) (1:Int)))+c)) - l2))),(ni d),e]⟩ y2 fun c3=>
 R c3)
 (R y2))
 (R y2))) fun v2=>
 aa (decide (l2<c))
 (aa (decide (c<(i64 ((i64 ((i64 (aN .u64 (u64 (i64 (b+d))) (1:Int)))+c)) - l2))))
 (Cl Pg [] dz ⟨[(ah a),(ni l2),(ni c),(ni (i64 ((i64 ((i64 (aN .u64 (u64 (i64 (b+d))) (1:Int)))+c)) - l2))),e]⟩ n2 fun x2=>
 v2 x2)
 (v2 n2))
 (v2 n2))) fun f2=>
 aa (decide (c>(i64 (aN .u64 (u64 (i64 (b+d))) (1:Int)))))
 (f2 (i64 ((i64 ((i64 (aN .u64 (u64 (i64 (b+d))) (1:Int)))+c)) - d)) (i64 (aN .u64 (u64 (i64 (b+d))) (1:Int))) w)
 (f2 b c w)))):Cl Pg [] aW ⟨[(ah a),(ni b),(ni c),(ni d),e]⟩ w R:=co Tryz.f326 [(8,[(10,kI),(11,kI)]),(21,[(13,kI)]),(36,[(14,kI),(15,kI)]),(49,[(17,kI)]),(62,[(20,kI),(21,kI)]),(74,[(20,kI),(21,kI)]),(86,[])] h
theorem nD.ok (a:Sl) (b:Int) (c:Int) (d:Int) (e:Value) (R:World→Prop) w (h:
 br (i64 (c - b)) (i64 (d - c)) w fun f g (h:Int) (i:Int) j=>
 aa (h !=i)
 (aa (decide (h>i))
 (Cl Pg [] bB ⟨[(ah a),(ni (i64 (c - h))),(ni c),(ni i),e]⟩ j fun k=>
 f (i64 (h - i)) i k∧g (i64 (h - i)) i k<g h i j)
 (Cl Pg [] bB ⟨[(ah a),(ni (i64 (c - h))),(ni (i64 ((i64 (c+i)) - h))),(ni h),e]⟩ j fun l=>
 f h (i64 (i - h)) l∧g h (i64 (i - h)) l<g h i j))
 (Cl Pg [] bB ⟨[(ah a),(ni (i64 (c - h))),(ni c),(ni h),e]⟩ j fun m=>
 R m)):Cl Pg [] dz ⟨[(ah a),(ni b),(ni c),(ni d),e]⟩ w R:=co Tryz.f332 [(5,[(10,kI),(11,kI)])] h
theorem lj.ok (a:Sl) (b:Int) (c:Int) (d:Int) (e:Value) (R:World→Prop) w (h:
 da 0 w fun f g (h:Int) i=>
 aa (decide (h<d))
 (aK i fun j=>
 an a (i64 (c+h)) 1 fun k=>
 Ld kI k j fun (l:Int)=>
 an a (i64 (b+h)) 1 fun m=>
 Ld kI m j fun (n:Int)=>
 an a (i64 (b+h)) 1 fun o=>
 St o (ni l) j fun p=>
 an a (i64 (c+h)) 1 fun q=>
 St q (ni n) p fun r=>
 f (i64 (h+1)) r∧g (i64 (h+1)) r<g h i)
 (R i)):Cl Pg [] bB ⟨[(ah a),(ni b),(ni c),(ni d),e]⟩ w R:=co Tryz.f333 [(2,[(10,kI)])] h
end Go.Proofs.YtgglghjnakclmaaGreat
set_option maxRecDepth 20000
namespace Go.Vc
open Go
section
variable {E w:World} {F:List HP}
theorem Bt {P:Program} {t tx ty e:TypeId} {bytes n:Nat} {k:IntKind} {K:Sl→World→Prop} (he:bJ P t e 1 bytes) (hx:P.underlying tx=some (.int k)) (h:Hp E w F) (hn:0<n) (hb:(2*n+1024)*bytes≤2^48) (hb2:n<2^62)
  (hK: ∀b c w',n≤c→Hp E w' (aj 1 ⟨some ⟨b,0,none⟩,0,c⟩ []::F)→K ⟨some ⟨b,0,none⟩,n,c⟩ w'):au P (Builtin.append_ #[t,tx] ty ⟨[.slice none 0 0,.int .i64 (n:Int)]⟩) kS w K:=by
 obtain ⟨it,z,hi,hsz,hby,hze,hzs⟩:=he.info
 have hso: ∀w:World,(sizeOf e).run P w= .ok 1 w:=by intro w;rw [bY hi,hsz]
 have hwr:IntKind.i64.wrap (n:Int)=(n:Int):=ae (by omega)
 have hti: ∀w:World,(typeInfo e).run P w= .ok it w:=by intro w;simp [typeInfo,hi]
 have hz': ∀w:World,(zeroValue e).run P w= .ok z w:=by intro w;simp [zeroValue,typeInfo,hi,hze]
 have hnb:n*bytes≤2^48:=by
  have:n*bytes≤(2*n+1024)*bytes:=Nat.mul_le_mul_right _ (by omega)
  omega
 have h1: ¬((n:Int)*(it.bytes:Int)>2^48):=by rw [hby];exact_mod_cast Nat.not_lt.2 hnb
 have hnext: ¬Builtin.nextslicecap n 0*it.bytes>2^48:=by
  have:=wP (n:=n) (c:=0) (by omega)
  have h2:Builtin.nextslicecap n 0*it.bytes≤(2*n+1024)*bytes:=by rw [hby];exact Nat.mul_le_mul_right _ this
  omega
 have hmax: ¬((n:Nat):Int)>IntKind.i64.max:=by
  have:IntKind.i64.max=9223372036854775807:=rfl
  rw [this];omega
 have hfo:Question.forced (.appendCap n 0 e)=false:=rfl
 generalize hq:Question.cut (.appendCap n 0 e) (w.tape w.drawn (.appendCap n 0 e))=newCap
 have hnc:n≤newCap:=by rw [←hq];exact Nat.le_add_right _ _
 have hD:Hp E w.drew F:=h.drew (n:=w.drawn+1)
 have hA:=hD.alloc (.cells (#[]++Builtin.zeroCells z.cells n++Builtin.zeroCells z.cells (newCap - n)) e)
 have hrun:(Builtin.append_ #[t,tx] ty ⟨[.slice none 0 0,.int .i64 (n:Int)]⟩).run P w= .ok (.slice (some ⟨w.heap.size,0,none⟩) n newCap) (w.drew.alloc (.cells (#[]++Builtin.zeroCells z.cells n++Builtin.zeroCells z.cells (newCap - n)) e)):=by
  have hneg: ¬((n:Int)<0):=by omega
  have hn0: ¬(n=0):=by omega
  have hmax': ¬(9223372036854775807<(n:Int)):=by omega
  have h1': ¬(281474976710656<(n:Int)*(it.bytes:Int)):=by simpa using h1
  have hnext': ¬(281474976710656<Builtin.nextslicecap n 0*it.bytes):=by simpa using hnext
  have hai: ∀w:World,(asIntOf (Value.int .i64 (n:Int))).run P w= .ok (.i64,(n:Int)) w:=fun _=>rfl
  simp [Builtin.append_,run_underlying he.und,hso,run_underlying hx,asInt,hai,hwr,hneg,hti,h1',hn0,hmax',hnext',hfo,hq,hz',newRow,Builtin.firstCells]
 unfold au
 rw [hrun]
 refine hK _ _ _ hnc (Hp.kF hA (by simp) rfl (Nat.zero_le _) ?_ (fun i hi=>by simp at hi))
 simp [kA,hzs]
 omega
end
end Go.Vc
namespace Go.Proofs.YtgglghjnakclmaaGreat
open Go Go.Vc
section
variable {E w:World} {F:List HP}
theorem lS:bJ Tryz.prog 26 5 1 1:=bJ.of (by kernel_rfl) (by kernel_rfl)
theorem I6 {s:Sl} {bs:List Nat} {K:Sl→World→Prop} (h:Hp E w F) (hs:ad F (aC 1 s (bs.map vB))) (hb:bs.length≤2*bZ) (hK: ∀s' w',Hp E w' (aj 1 s' (bs.map vB)::F)→K s' w'):
  Cl Tryz.prog [kS] ja ⟨[.slice s.base s.len s.cap]⟩ w K:=by
 refine sV.ok _ _ _ ?_
 have hl:bs.length=s.len:=by have:=(h.ag hs).1;simpa using this
 rw [aA] at hb
 cases hsb:s.base with
 |none=>
  have:bs= []:=by
   cases bs with
   |nil=>rfl
   |cons x bs=>
    obtain ⟨p,hp,_⟩:=(h.ag hs).2 0 (by simp)
    rw [hsb] at hp;cases hp
  subst this
  exact aa.t rfl (hK _ _ (h.bl 1))
 |some p=>
  refine aa.f rfl (Nw.mk h fun b w h=> ?_)
  have h2:=Hp.fo (n:=0) (sz:=1) h (by simp)
  have hsrc:Src 1 s.len (.slice s.base s.len s.cap) (bs.map vB) w:= .inl ⟨s.base,s.len,s.cap,rfl,rfl,h2.drop.ag hs⟩
  refine aI (s:=⟨some ⟨b,0,none⟩,0,0⟩) lS (by decide) (.inl ⟨5,by kernel_rfl⟩) h2 hsrc (by simp [hl]) dW (by simp only;omega) (by simp only;omega) fun s' w' h3 _=>hK s' w' ?_
  simpa using h3
theorem Dj {n:Nat} {K:Sl→World→Prop} (h:Hp E w F) (hn:n≤4*bZ) (hK: ∀s' w',s'.len=0→Hp E w' (aj 1 s' []::F)→K s' w'):
  Cl Tryz.prog [kS] ez ⟨[.slice none 0 0,.int .i64 (n:Int)]⟩ w K:=by
 rw [aA] at hn
 refine pk.ok ⟨none,0,0⟩ _ _ _ ?_
 refine aa.df (by omega) ?_
 dsimp only
 rw [ae (x:=((0:Nat):Int) - ((0:Nat):Int)) (by omega),ae (by omega)]
 by_cases h0:n=0
 ·subst h0
  exact aa.df (by omega) (hK _ _ rfl (h.bl 1))
 ·refine aa.dt (by omega) ⟨by decide,by decide,by decide,by decide,?_⟩
  show au _ (Builtin.append_ #[26,3] 26 ⟨[.slice none 0 0,.int .i64 ((n:Int) - (((0:Nat):Int) - ((0:Nat):Int)))]⟩) kS w _
  have e:((n:Int) - (((0:Nat):Int) - ((0:Nat):Int)))=(n:Int):=by omega
  rw [e]
  refine Bt lS (k:= .i64) (by kernel_rfl) h (by omega) (by omega) (by omega) fun b c w' hc h=> ?_
  refine ⟨by decide,by decide,by omega,by simp,?_⟩
  have hne: ¬(((c:Int)).toNat=(0:Int).toNat):=by simp;omega
  rw [if_neg hne]
  have hk:=hK ⟨some ⟨b,0,none⟩,0,c⟩ w' rfl h
  simpa [al] using hk
theorem Gv {s:Sl} {cs:List Sl} {bs:List (List Nat)} {K:Sl→World→Prop} (h:Hp E w F)
  (hs:ad F (aC 1 s (cs.map fun x=> .slice x.base x.len x.cap))) (hl:cs.length=bs.length) (hcl:cs.length≤bZ) (hc: ∀i (h:i<cs.length),ad F (aC 1 cs[i] ((bs.getD i []).map vB)))
  (hbig:bs.flatten.length≤bZ) (hK: ∀s' w',Hp E w' (aj 1 s' (bs.flatten.map vB)::F)→K s' w'):Cl Tryz.prog [kS] dU ⟨[.slice s.base s.len s.cap]⟩ w K:=by
 refine n6.ok _ _ _ ?_
 have hlen:s.len=cs.length:=by have:=(h.ag hs).1;simpa using this.symm
 rw [aA] at hcl hbig
 have hpart: ∀k,k≤bs.length→(bs.take k).flatten.length≤bs.flatten.length:=fun k _=>by
  conv=>rhs;rw [←List.take_append_drop k bs,List.flatten_append,List.length_append]
  omega
 have hnext: ∀k,k<bs.length→(bs.take (k+1)).flatten=(bs.take k).flatten++bs.getD k []:=fun k hk=>by
  rw [List.take_add_one,List.flatten_append]
  congr 1
  simp [hk]
 refine ⟨fun x i w'=> ∃k:Nat,i=(k:Int)∧k≤cs.length∧x=((bs.take k).flatten.length:Int)∧Hp E w' F,fun _ i _=>cs.length - i.toNat,⟨0,rfl,by omega,rfl,h⟩,?_⟩
 rintro x i w ⟨k,rfl,hk,rfl,h⟩
 refine aa.dm (fun hlt=> ?_) (fun hge=> ?_)
 ·have hlt:k<cs.length:=by omega
  have hkb:k<bs.length:=by omega
  refine an.rd (h.ag hs) (by omega) (by omega) fun q hi hq=> ?_
  refine Ld.sc (s:= .sl) cs[k] (by rw [hq];simp [Sc.enc,hlt]) ?_
  have hx:(bs.getD k []).length=cs[k].len:=by have:=(h.ag (hc k hlt)).1;simpa using this
  have h1:=hpart (k+1) (by omega)
  rw [hnext k hkb,List.length_append,hx] at h1
  rw [ae (by omega)]
  refine aa.df (by omega) ?_
  rw [ae (by omega)]
  refine ⟨⟨k+1,rfl,by omega,?_,h⟩,by first|omega|(dsimp only;omega)⟩
  rw [hnext k hkb,List.length_append,hx];omega
 ·have hk2:k=cs.length:=by omega
  subst hk2
  have e:bs.take cs.length=bs:=List.take_of_length_le (by omega)
  rw [e]
  refine Dj h (by rw [aA];omega) fun s' w h0 h=> ?_
  refine ⟨fun x i w'=> ∃k:Nat,i=(k:Int)∧k≤cs.length∧Hp E w' (aj 1 x ((bs.take k).flatten.map vB)::F),fun _ i _=>cs.length - i.toNat,⟨0,rfl,by omega,h⟩,?_⟩
  rintro x i w ⟨k,rfl,hk,h⟩
  refine aa.dm (fun hlt=> ?_) (fun hge=> ?_)
  ·have hlt:k<cs.length:=by omega
   have hkb:k<bs.length:=by omega
   refine an.rd (h.drop.ag hs) (by omega) (by omega) fun q hi hq=> ?_
   refine Ld.sc (s:= .sl) cs[k] (by rw [hq];simp [Sc.enc,hlt]) ?_
   have hx:(bs.getD k []).length=cs[k].len:=by have:=(h.drop.ag (hc k hlt)).1;simpa using this
   have h1:=hpart (k+1) (by omega)
   rw [hnext k hkb,List.length_append,hx] at h1
   have hol:=h.aV
   rw [List.length_map,Nat.mul_one] at hol
   refine aI lS (by decide) (.inl ⟨5,by kernel_rfl⟩) h (.inl ⟨cs[k].base,cs[k].len,cs[k].cap,rfl,rfl,h.drop.ag (hc k hlt)⟩) (by rw [List.length_map,hx,Nat.mul_one]) dW (by omega) (by omega) fun s' w' h _=> ?_
   rw [ae (by omega)]
   refine ⟨⟨k+1,rfl,by omega,?_⟩,by first|omega|(dsimp only;omega)⟩
   rw [hnext k hkb,List.map_append];exact h
  ·have hk3:k=cs.length:=by omega
   subst hk3
   rw [e] at h
   exact hK _ _ h
end
end Go.Proofs.YtgglghjnakclmaaGreat
set_option maxRecDepth 20000
namespace Go.Vc
open Go
section
variable {E w:World} {F A:List HP}
theorem Hp.put {b:Nat} {o:Obj} (h:Hp E w (af b o::F)) (o':Obj):Hp E (w.putObj b o') (af b o'::F):=h.setObj rfl rfl rfl rfl
def Ds:HP:=fun _=>False
theorem Hp.F1 {B:HP} (h:Hp E w (B::Ds::F)):False:=by
 obtain ⟨f,_,g,k,_,_,_,g2,k2,_,_,h2,_⟩:=h.frag
 exact h2
def Ch (P:Program) (E:World) (yv:Value) (n:Nat) (vs:Nat→List Value) (C G:Nat→List HP):Prop:=
 ∀i,i<n→∀(A:List HP) (w:World) (K:Bool→World→Prop),Hp E w (C i++A)→(∀w',Hp E w' (C (i+1)++A)→K true w')→(∀w',Hp E w' (G i++A)→K false w')→ln P yv [kB] (vs i) w K
def Iter (P:Program) (E:World) (v:Value) (n:Nat) (vs:Nat→List Value) (A:List HP):Prop:=
 ∀(yv:Value) (C G:Nat→List HP) (w:World) (K:World→Prop),Ch P E yv n vs C G→Hp E w (C 0++A)→(∀w',Hp E w' (C n++A)→K w')→(∀i w',i<n→Hp E w' (G i++A)→K w')→qT P v [] [yv] w K
theorem ga.gen {P:Program} {v:Value} {ks:List Ki} {B:Nat→(Nat→Obj)→eu ks (World→(World→Prop)→(World→Prop)→Prop)} {K Kr:Nat→World→Prop} {n:Nat} {vs:Nat→List Value} (C G:Nat→List HP)
  (hh:Hp E w (C 0++A)) (hit:Iter P E v n vs A)
  (hbody: ∀l rec (T:List Value→(World→(World→Prop)→(World→Prop)→Prop)→Prop),Av ks (B l rec) T→∀i,i<n→∃b,T (vs i) b∧∀(A:List HP) (w:World) (Kt Kf:World→Prop),Hp E w (af l (rec 0)::(C i++A))→
   (∀w',Hp E w' (af l (rec 0)::(C (i+1)++A))→Kt w')→(∀w',Hp E w' (af l (rec 2)::(G i++A))→Kf w')→b w Kt Kf)
  (hK: ∀D w',Hp E w' (af D (.deferred (some []))::(C n++A))→K D w') (hKr: ∀i D w',i<n→Hp E w' (af D (.deferred (some []))::(G i++A))→Kr D w'):ga P v ks w B K Kr:=by
 intro rec yv hy
 have h1:=hh.alloc (.deferred (some []))
 have h2:=h1.alloc (rec 0)
 have hs:(w.alloc (.deferred (some []))).heap.size=w.heap.size+1:=by show (w.heap.push _).size=_;simp
 rw [hs] at h2
 refine hit yv (fun i=>af (w.heap.size+1) (rec 0)::af w.heap.size (.deferred (some []))::C i) (fun i=>af (w.heap.size+1) (rec 2)::af w.heap.size (.deferred (some []))::G i) _ _ ?_ h2 ?_ ?_
 ·intro i hi A w2 R h hKt hKf
  obtain ⟨b,hb,h3⟩:=hbody (w.heap.size+1) rec _ (hy R w2) i hi
  refine hb h.aG (h3 (af w.heap.size (.deferred (some []))::A) w2 _ _ (h.perm (.cons _ List.perm_middle.symm)) (fun w' h'=>hKt w' (h'.perm (.cons _ List.perm_middle))) (fun w' h'=>hKf w' (h'.perm (.cons _ List.perm_middle))))
 ·intro w' h
  have h:Hp E w' (af (w.heap.size+1) (rec 0)::af w.heap.size (.deferred (some []))::(C n++A)):=h
  exact .inl ⟨h.aG,hK _ _ (h.put (rec 3)).drop⟩
 ·intro i w' hi h
  have h:Hp E w' (af (w.heap.size+1) (rec 2)::af w.heap.size (.deferred (some []))::(G i++A)):=h
  exact .inr ⟨h.aG,hKr i _ _ hi (h.put (rec 4)).drop⟩
theorem ga.r9 {P:Program} {v:Value} {k:Ki} {B:Nat→(Nat→Obj)→k.T→World→(World→Prop)→(World→Prop)→Prop} {K Kr:Nat→World→Prop} {n:Nat} {x:Nat→k.T} (C G:Nat→List HP)
  (hh:Hp E w (C 0++A)) (hit:Iter P E v n (fun i=> [k.enc (x i)]) A)
  (hbody: ∀l rec i (A:List HP) (w:World) (Kt Kf:World→Prop),i<n→Hp E w (af l (rec 0)::(C i++A))→
   (∀w',Hp E w' (af l (rec 0)::(C (i+1)++A))→Kt w')→(∀w',Hp E w' (af l (rec 2)::(G i++A))→Kf w')→B l rec (x i) w Kt Kf)
  (hK: ∀D w',Hp E w' (af D (.deferred (some []))::(C n++A))→K D w') (hKr: ∀i D w',i<n→Hp E w' (af D (.deferred (some []))::(G i++A))→Kr D w'):ga P v [k] w B K Kr:=
 ga.gen (ks:= [k]) C G hh hit (fun l rec _ hT i hi=>⟨_,hT (x i),fun A w Kt Kf=>hbody l rec i A w Kt Kf hi⟩) hK hKr
theorem ga.DW {P:Program} {v:Value} {k k':Ki} {B:Nat→(Nat→Obj)→k.T→k'.T→World→(World→Prop)→(World→Prop)→Prop} {K Kr:Nat→World→Prop} {n:Nat} {x:Nat→k.T} {y:Nat→k'.T} (C G:Nat→List HP)
  (hh:Hp E w (C 0++A)) (hit:Iter P E v n (fun i=> [k.enc (x i),k'.enc (y i)]) A)
  (hbody: ∀l rec i (A:List HP) (w:World) (Kt Kf:World→Prop),i<n→Hp E w (af l (rec 0)::(C i++A))→
   (∀w',Hp E w' (af l (rec 0)::(C (i+1)++A))→Kt w')→(∀w',Hp E w' (af l (rec 2)::(G i++A))→Kf w')→B l rec (x i) (y i) w Kt Kf)
  (hK: ∀D w',Hp E w' (af D (.deferred (some []))::(C n++A))→K D w') (hKr: ∀i D w',i<n→Hp E w' (af D (.deferred (some []))::(G i++A))→Kr D w'):ga P v [k,k'] w B K Kr:=
 ga.gen (ks:= [k,k']) C G hh hit (fun l rec _ hT i hi=>⟨_,hT (x i) (y i),fun A w Kt Kf=>hbody l rec i A w Kt Kf hi⟩) hK hKr
theorem vM.mk {l:Nat} {rec:Nat→Obj} {K:World→Prop} (h:Hp E w (af l (rec 0)::F)) (hK: ∀w',Hp E w' (af l (rec 1)::F)→K w'):vM l rec w K:=⟨h.aG,hK _ (h.put _)⟩
theorem qF.mk {l:Nat} {rec:Nat→Obj} {K:World→Prop} (h:Hp E w (af l (rec 1)::F)) (hK: ∀w',Hp E w' (af l (rec 0)::F)→K w'):qF l rec w K:=⟨h.aG,hK _ (h.put _)⟩
theorem HM.mk {l:Nat} {rec:Nat→Obj} {K:World→Prop} (h:Hp E w (af l (rec 1)::F)) (hK: ∀w',Hp E w' (af l (rec 2)::F)→K w'):HM l rec w K:=⟨h.aG,hK _ (h.put _)⟩
theorem lE.r9 {D:Nat} {K:World→Prop} (h:Hp E w (af D (.deferred (some []))::F)) (hK: ∀w',Hp E w' F→K w'):lE [D] w K:=⟨h.aG,hK _ (h.put _).drop⟩
theorem lE.mk: ∀{ms:List Nat} {w:World} {K:World→Prop},Hp E w (ms.map (fun D=>af D (.deferred (some [])))++F)→(∀w',Hp E w' F→K w')→lE ms w K
 | [],_,_,h,hK=>hK _ h
 |D::ms,w,K,h,hK=>by
  have h:Hp E w (af D (.deferred (some []))::(ms.map (fun D=>af D (.deferred (some [])))++F)):=h
  exact ⟨h.aG,lE.mk (ms:=ms) (h.put _).drop hK⟩
end
end Go.Vc
set_option maxRecDepth 20000
namespace Go.Vc
open Go
section
variable {E w:World} {F A:List HP}
def uL (P:Program) (E:World) (v:Value) (n:Nat) (vs:Nat→List Value) (A:List HP) (Φ:World→Prop):Prop:=
 ∀(yv:Value) (C G:Nat→List HP) (w:World) (K:World→Prop),(∀i,ad (C i) Φ)→Ch P E yv n vs C G→Hp E w (A++C 0)→(∀w',Hp E w' (C n)→K w')→(∀i w',i<n→Hp E w' (G i)→K w')→qT P v [] [yv] w K
theorem ga.Kp {P:Program} {v:Value} {ks:List Ki} {Y:Nat→(Nat→Obj)→eu ks (World→(World→Prop)→(World→Prop)→Prop)} {K Kr:Nat→World→Prop} {n:Nat} {vs:Nat→List Value} {Φ:World→Prop} (C G:Nat→List HP)
  (hh:Hp E w (A++C 0)) (hΦ: ∀i,ad (C i) Φ) (hit:uL P E v n vs A Φ)
  (hbody: ∀l rec (T:List Value→(World→(World→Prop)→(World→Prop)→Prop)→Prop),Av ks (Y l rec) T→∀i,i<n→∃b,T (vs i) b∧∀(A:List HP) (w:World) (Kt Kf:World→Prop),Hp E w (af l (rec 0)::(C i++A))→
   (∀w',Hp E w' (af l (rec 0)::(C (i+1)++A))→Kt w')→(∀w',Hp E w' (af l (rec 2)::(G i++A))→Kf w')→b w Kt Kf)
  (hK: ∀D w',Hp E w' (af D (.deferred (some []))::C n)→K D w') (hKr: ∀i D w',i<n→Hp E w' (af D (.deferred (some []))::G i)→Kr D w'):ga P v ks w Y K Kr:=by
 intro rec yv hy
 have h1:=hh.alloc (.deferred (some []))
 have h2:=h1.alloc (rec 0)
 have hs:(w.alloc (.deferred (some []))).heap.size=w.heap.size+1:=by show (w.heap.push _).size=_;simp
 rw [hs] at h2
 refine hit yv (fun i=>af (w.heap.size+1) (rec 0)::af w.heap.size (.deferred (some []))::C i) (fun i=>af (w.heap.size+1) (rec 2)::af w.heap.size (.deferred (some []))::G i) _ _ (fun i=>(hΦ i).cons.cons) ?_ ?_ ?_ ?_
 ·intro i hi A w2 R h hKt hKf
  obtain ⟨b,hb,h3⟩:=hbody (w.heap.size+1) rec _ (hy R w2) i hi
  refine hb h.aG (h3 (af w.heap.size (.deferred (some []))::A) w2 _ _ (h.perm (.cons _ List.perm_middle.symm)) (fun w' h'=>hKt w' (h'.perm (.cons _ List.perm_middle))) (fun w' h'=>hKf w' (h'.perm (.cons _ List.perm_middle))))
 ·refine h2.perm ?_
  refine (List.Perm.trans (.cons _ List.perm_middle.symm) List.perm_middle.symm)
 ·intro w' h
  exact .inl ⟨h.aG,hK _ _ (h.put (rec 3)).drop⟩
 ·intro i w' hi h
  exact .inr ⟨h.aG,hKr i _ _ hi (h.put (rec 4)).drop⟩
theorem ga.two {P:Program} {v:Value} {k k':Ki} {Y:Nat→(Nat→Obj)→k.T→k'.T→World→(World→Prop)→(World→Prop)→Prop} {K Kr:Nat→World→Prop} {n:Nat} {x:Nat→k.T} {y:Nat→k'.T} {Φ:World→Prop} (C G:Nat→List HP)
  (hh:Hp E w (A++C 0)) (hΦ: ∀i,ad (C i) Φ) (hit:uL P E v n (fun i=> [k.enc (x i),k'.enc (y i)]) A Φ)
  (hbody: ∀l rec i (A:List HP) (w:World) (Kt Kf:World→Prop),i<n→Hp E w (af l (rec 0)::(C i++A))→
   (∀w',Hp E w' (af l (rec 0)::(C (i+1)++A))→Kt w')→(∀w',Hp E w' (af l (rec 2)::(G i++A))→Kf w')→Y l rec (x i) (y i) w Kt Kf)
  (hK: ∀D w',Hp E w' (af D (.deferred (some []))::C n)→K D w') (hKr: ∀i D w',i<n→Hp E w' (af D (.deferred (some []))::G i)→Kr D w'):ga P v [k,k'] w Y K Kr:=
 ga.Kp (ks:= [k,k']) C G hh hΦ hit (fun l rec _ hT i hi=>⟨_,hT (x i) (y i),fun A w Kt Kf=>hbody l rec i A w Kt Kf hi⟩) hK hKr
theorem ga.Km {P:Program} {v:Value} {k:Ki} {Y:Nat→(Nat→Obj)→k.T→World→(World→Prop)→(World→Prop)→Prop} {K Kr:Nat→World→Prop} {n:Nat} {x:Nat→k.T} {Φ:World→Prop} (C G:Nat→List HP)
  (hh:Hp E w (A++C 0)) (hΦ: ∀i,ad (C i) Φ) (hit:uL P E v n (fun i=> [k.enc (x i)]) A Φ)
  (hbody: ∀l rec i (A:List HP) (w:World) (Kt Kf:World→Prop),i<n→Hp E w (af l (rec 0)::(C i++A))→
   (∀w',Hp E w' (af l (rec 0)::(C (i+1)++A))→Kt w')→(∀w',Hp E w' (af l (rec 2)::(G i++A))→Kf w')→Y l rec (x i) w Kt Kf)
  (hK: ∀D w',Hp E w' (af D (.deferred (some []))::C n)→K D w') (hKr: ∀i D w',i<n→Hp E w' (af D (.deferred (some []))::G i)→Kr D w'):ga P v [k] w Y K Kr:=
 ga.Kp (ks:= [k]) C G hh hΦ hit (fun l rec _ hT i hi=>⟨_,hT (x i),fun A w Kt Kf=>hbody l rec i A w Kt Kf hi⟩) hK hKr
def Ct {α:Type} (X:α→Prop) (L:α→List HP):HP:=fun f=> ∃x,X x∧Sat (L x) f
theorem Hp.ex {α:Type} {X:α→Prop} {L:α→List HP} (h:Hp E w (Ct X L::F)): ∃x,X x∧Hp E w (L x++F):=h.Iq fun _ hf=>hf
theorem Hp.Dk {α:Type} {X:α→Prop} {L:α→List HP} (x:α) (hx:X x) (h:Hp E w (L x++F)):Hp E w (Ct X L::F):=h.H3 fun _ hf=>⟨x,hx,hf⟩
end
end Go.Vc
set_option maxRecDepth 20000
namespace Go.Vc
open Go
def fI (f:Nat→Nat) (N:Nat):Array Value:=⟨(List.range N).map fun i=>vB (f i)⟩
theorem nG (f:Nat→Nat) (N:Nat):(fI f N).size=N:=by simp [fI]
theorem wg {f:Nat→Nat} {N i:Nat} (h:i<N):(fI f N).toList[i]? =some (Sc.enc (.int .u8) (f i:Int)):=by simp [fI,h,vB,Sc.enc]
def cP (f:Nat→Nat) (p v:Nat):Nat→Nat:=fun j=>if j=p then v else f j
theorem Cs {f:Nat→Nat} {N p v:Nat}:(fI f N).setIfInBounds p (.int .u8 (v:Int))=fI (cP f p v) N:=by
 apply Array.ext'
 apply List.ext_getElem?
 intro i
 simp only [fI,Array.toList_setIfInBounds,List.getElem?_set,List.getElem?_map,List.getElem?_range,List.length_map,List.length_range]
 by_cases e:p=i
 ·subst e
  by_cases hp:p<N
  ·simp [hp,cP,vB]
  ·simp [hp,List.getElem?_eq_none]
 ·by_cases hi:i<N
  ·simp [e,hi,cP,Ne.symm e]
  ·simp [e,List.getElem?_eq_none,hi]
def eD (f:Nat→Nat) (p:Nat) (b:List Nat):Nat→Nat:=fun j=>if p≤j∧j<p+b.length then b.getD (j - p) 0 else f j
theorem IX {f:Nat→Nat} {N p:Nat} {b:List Nat} (h:p+b.length≤N):(⟨(fI f N).toList.take p++(b.map vB++(fI f N).toList.drop (p+b.length))⟩:Array Value)=fI (eD f p b) N:=by
 apply Array.ext'
 apply List.ext_getElem?
 intro i
 have hl:(fI f N).toList.length=N:=by simp [fI]
 have e1: ∀g:Nat→Nat,(fI g N).toList[i]? =if i<N then some (vB (g i)) else none:=fun g=>by
  by_cases hi:i<N
  ·simp [fI,hi]
  ·simp [fI,hi,List.getElem?_eq_none]
 rw [e1]
 show ((fI f N).toList.take p++(b.map vB++(fI f N).toList.drop (p+b.length)))[i]? =_
 by_cases h1:i<p
 ·rw [List.getElem?_append_left (by rw [List.length_take];omega),List.getElem?_take,if_pos h1,e1]
  simp only [eD]
  rw [if_pos (show i<N by omega),if_pos (show i<N by omega),if_neg (by omega)]
 ·rw [List.getElem?_append_right (by rw [List.length_take];omega)]
  rw [List.length_take,hl,Nat.min_eq_left (by omega)]
  by_cases h2:i - p<b.length
  ·rw [List.getElem?_append_left (by rw [List.length_map];exact h2),List.getElem?_map,List.getElem?_eq_getElem h2,if_pos (show i<N by omega)]
   simp only [eD,Option.map_some]
   rw [if_pos (by omega)]
   simp [List.getD,h2]
  ·rw [List.getElem?_append_right (by rw [List.length_map];omega),List.length_map,List.getElem?_drop,show p+b.length+(i - p - b.length)=i by omega,e1]
   simp only [eD]
   rw [if_neg (show¬(p≤i∧i<p+b.length) by omega)]
def a9 (f:Nat→Nat) (p q:Nat):List Nat:=(List.range q).map fun i=>f (p+i)
theorem bP (f:Nat→Nat) (p q:Nat):(a9 f p q).length=q:=by simp [a9]
theorem ed {f:Nat→Nat} {p q i:Nat} (h:i<q):(a9 f p q)[i]'(by rw [bP];exact h)=f (p+i):=by simp [a9]
theorem tY {f g:Nat→Nat} {p q:Nat} (h: ∀i,i<q→f (p+i)=g (p+i)):a9 f p q=a9 g p q:=List.map_congr_left fun i hi=>h i (List.mem_range.1 hi)
theorem Jg {f:Nat→Nat} {N p q cap m:Nat} {t:TypeId} {fr:Nat×Nat} {w:World} (h:p+q≤N) (hw:w.heap[m]? =some (.cells (fI f N) t fr)):aC 1 ⟨some ⟨m,p,none⟩,q,cap⟩ ((a9 f p q).map vB) w:=by
 refine ⟨by simp [bP],fun i hi=>⟨_,rfl,?_⟩⟩
 rw [List.length_map,bP] at hi
 rw [al,List.getElem_map,ed hi]
 have:=wg (f:=f) (N:=N) (i:=p+i) (by omega)
 simp only [World.cell?,hw]
 simpa [Sc.enc,vB] using this
def fg (f:Nat→Nat) (p:Nat):Nat:=f p+256*f (p+1)+65536*f (p+2)+16777216*f (p+3)
def c6 (v:Nat):List Nat:= [v % 256,v/256 % 256,v/65536 % 256,v/16777216 % 256]
theorem F0 {f:Nat→Nat} (h: ∀i,f i<256) (p:Nat):fg f p<4294967296:=by
 have h0:=h p;have h1:=h (p+1);have h2:=h (p+2);have h3:=h (p+3)
 unfold fg;omega
theorem jO {f:Nat→Nat} {p i:Nat} {b:List Nat} (h:i<b.length):eD f p b (p+i)=b.getD i 0:=by
 unfold eD;rw [if_pos (by omega),Nat.add_sub_cancel_left]
theorem fJ {f:Nat→Nat} {p j:Nat} {b:List Nat} (h: ¬(p≤j∧j<p+b.length)):eD f p b j=f j:=if_neg h
theorem p6 (v:Nat):(c6 v).length=4:=rfl
theorem EH {f:Nat→Nat} {p q v:Nat} (hv:v<4294967296) (hd:q=p∨q+4≤p∨p+4≤q):fg (eD f p (c6 v)) q=if q=p then v else fg f q:=by
 have hl:=p6 v
 rcases hd with rfl|hd
 ·have h0:=jO (f:=f) (p:=q) (i:=0) (b:=c6 v) (by omega)
  rw [Nat.add_zero] at h0
  rw [if_pos rfl,fg,h0,jO (by omega),jO (by omega),jO (by omega)]
  simp only [c6,List.getD_cons_zero,List.getD_cons_succ]
  omega
 ·rw [if_neg (by omega),fg,fJ (by omega),fJ (by omega),fJ (by omega),fJ (by omega)]
  rfl
theorem JC {P:Program} {t e:TypeId} {z:Value} {n bytes:Nat} {E w:World} {F:List HP} {K:Sl→World→Prop} (ht:P.underlying t=some (.slice e)) (hi: ∃i,P.info? e=some i∧i.zero=some z∧i.size=1∧i.bytes=bytes) (hz:z.cells= #[z])
  (hn:n≤1000000) (hb:bytes≤8) (h:Hp E w F) (hK: ∀b w',Hp E w' (af b (.cells ⟨List.replicate n z⟩ e (0,0))::F)→K ⟨some ⟨b,0,none⟩,n,n⟩ w'):au P (Instr.makeSlice t (.int .i64 (n:Int)) (.int .i64 (n:Int))) kS w K:=by
 obtain ⟨i,h1,h2,h3,h4⟩:=hi
 have hbn:bytes*n≤8*n:=Nat.mul_le_mul_right _ hb
 have hbb:((bytes:Int)*(n:Int))≤281474976710656:=by
  have:((bytes:Int)*(n:Int))=((bytes*n:Nat):Int):=by simp
  omega
 have hm:=run_makeSlice (w:=w) t e i z ht h1 h2 .i64 .i64 (n:Int) (n:Int) (by omega) (by omega) (by rw [h3,Int.toNat_natCast];omega) (by rw [h4];exact hbb) (by omega)
 unfold au
 rw [hm]
 have hc:madeCells z.cells (n*1)=⟨List.replicate n z⟩:=by
  unfold madeCells
  rw [hz,Nat.mul_one]
  apply Array.ext
  ·simp
  ·intro j h1 h2
   simp [Nat.mod_one]
 rw [h3,Int.toNat_natCast,hc]
 exact hK w.heap.size _ (h.alloc (.cells ⟨List.replicate n z⟩ e))
theorem Ak (N:Nat):(⟨List.replicate N (.int .u8 0)⟩:Array Value)=fI (fun _=>0) N:=by
 apply Array.ext'
 show List.replicate N (Value.int .u8 0)=(List.range N).map fun _=>vB 0
 rw [List.map_const']
 simp [vB]
end Go.Vc
namespace Go.Proofs.YtgglghjnakclmaaGreat
open Go Go.Vc
section
variable {E w:World} {F:List HP}
structure AS where
 a:Nat
 m:Nat
 N:Nat
 live:Nat
 peak:Nat
structure wv (A:AS) (f:Nat→Nat):Prop where
 le:A.live≤A.N
 bZ:A.N≤1000000
 byt: ∀i,f i<256
def Ar (A:AS) (f:Nat→Nat):HP:=Ct (fun _:Unit=>wv A f) fun _=> [af A.a (.cells ⟨[.slice (some ⟨A.m,0,none⟩) A.N A.N,.int .i64 (A.live:Int),.int .i64 (A.peak:Int)]⟩ 199 (0,0)),af A.m (.cells (fI f A.N) 5 (0,0))]
variable {A:AS} {f:Nat→Nat}
theorem Ar.cO (h:Hp E w (Ar A f::F)):wv A f∧Hp E w (af A.a (.cells ⟨[.slice (some ⟨A.m,0,none⟩) A.N A.N,.int .i64 (A.live:Int),.int .i64 (A.peak:Int)]⟩ 199 (0,0))::af A.m (.cells (fI f A.N) 5 (0,0))::F):=by
 obtain ⟨_,hx,h⟩:=h.ex
 exact ⟨hx,h⟩
theorem Ar.shut (ok:wv A f) (h:Hp E w (af A.a (.cells ⟨[.slice (some ⟨A.m,0,none⟩) A.N A.N,.int .i64 (A.live:Int),.int .i64 (A.peak:Int)]⟩ 199 (0,0))::af A.m (.cells (fI f A.N) 5 (0,0))::F)):Hp E w (Ar A f::F):=Hp.Dk () ok h
theorem wv.bk {g:Nat→Nat} (h:wv A f) (hg: ∀i,g i<256):wv A g:=⟨h.le,h.bZ,hg⟩
theorem zS {p v:Nat} (h: ∀i,f i<256) (hv:v<256): ∀i,cP f p v i<256:=fun i=>by unfold cP;split<;>first|exact hv|exact h i
theorem F5 {p:Nat} {b:List Nat} (h: ∀i,f i<256) (hb: ∀x∈b,x<256): ∀i,eD f p b i<256:=fun i=>by
 unfold eD
 split
 ·rename_i hi
  rw [List.getD_eq_getElem?_getD,List.getElem?_eq_getElem (by omega)]
  exact hb _ (List.getElem_mem _)
 ·exact h i
abbrev sA (A:AS):Sl:=⟨some ⟨A.m,0,none⟩,A.N,A.N⟩
abbrev pA (A:AS):Value:= .pointer (some ⟨A.a,0,none⟩)
abbrev j7 (p q:Nat):Value:= .agg ⟨[.int .i64 (p:Int),.int .i64 (q:Int)]⟩
theorem kG {p q:Nat} {K:Bool→World→Prop} (h:Hp E w (Ar A f::F)) (hin:p+q≤A.live) (hK: ∀w',Hp E w' (Ar A f::F)→K true w'):Cl Tryz.prog [kB] bC ⟨[pA A,j7 p q]⟩ w K:=by
 refine u6.ok _ ((p:Int),(q:Int),()) _ _ ?_
 dsimp only
 obtain ⟨ok,h⟩:=Ar.cO h
 have h1:=ok.le;have h2:=ok.bZ
 (try simp only [ao,ak,al,Nat.zero_add,Nat.add_zero,Nat.reduceAdd,Bool.not_true,Bool.not_false,aF,aE,Option.isNone])
 (with_reducible repeat first|refine Nw.mk h fun b w h=> ?_|refine aK.mk h fun w h=> ?_|refine Ld.xb h rfl ?_|refine Ld.xt h rfl ?_|refine aH.xb (fun _ h=>h) rfl ?_|refine aH.xt (fun _ h=>h) rfl ?_|refine ⟨h.hb,?_⟩|refine bj.xw h rfl rfl fun w h=> ?_|(refine bj.xs h rfl rfl fun w h=> ?_;dsimp only [ca,aJ] at h)|(refine St.xs h rfl rfl fun w h=> ?_;dsimp only [ca,aJ] at h)|refine aa.yes ?_|refine aa.no ?_|refine ⟨by first|omega|decide,?_⟩)
 exact Fk (decide_eq_true (by rw [ae (by omega)];omega)) (hK _ (Ar.shut ok (h.no 0)))
theorem tH {p q:Nat} {i:Int} {n:Nat} {K:Sl→World→Prop} (h:Hp E w (Ar A f::F)) (hin:p+q≤A.live) (hn:0<n) (hn2:n≤1000000)
  (hyes: ∀j:Nat,i=(j:Int)→j+n≤q→∀w',Hp E w' (Ar A f::F)→K ⟨some ⟨A.m,p+j,none⟩,n,n⟩ w') (hno: ¬(0≤i∧i+n≤q)→∀w',Hp E w' (Ar A f::F)→K ⟨none,0,0⟩ w'):
  Cl Tryz.prog [kS] di ⟨[pA A,j7 p q,.int .i64 i,.int .i64 (n:Int)]⟩ w K:=by
 refine ub.ok _ ((p:Int),(q:Int),()) _ _ _ _ ?_
 dsimp only
 refine Nw.mk h fun b w h=>Ld.xt h rfl ?_
 refine kG (h.at 1) hin fun w h=> ?_
 obtain ⟨ok,h⟩:=Ar.cO h
 have h1:=ok.le;have h2:=ok.bZ
 have hend: ∀w,Hp E w (af A.a (.cells ⟨[.slice (some ⟨A.m,0,none⟩) A.N A.N,.int .i64 (A.live:Int),.int .i64 (A.peak:Int)]⟩ 199 (0,0))::af A.m (.cells (fI f A.N) 5 (0,0))::af b (.cells ⟨[.int .i64 (p:Int),.int .i64 (q:Int)]⟩ 146 (0,0))::F)→Hp E w (Ar A f::F):=fun w h=>Ar.shut ok (h.no 2)
 refine aa.f rfl (aa.dm (fun hlt=>hno (by omega) _ (hend _ h)) fun hge=> ?_)
 (try simp only [ao,ak,al,Nat.zero_add,Nat.add_zero,Nat.reduceAdd,Bool.not_true,Bool.not_false,aF,aE,Option.isNone])
 refine Ld.xb h rfl (aa.dm (fun hgt=>hno (fun hh=>by rw [ae (by omega)] at hgt;omega) _ (hend _ h)) fun hle=> ?_)
 obtain ⟨j,rfl⟩: ∃j:Nat,i=(j:Int):=⟨i.toNat,by omega⟩
 rw [ae (by omega)] at hle
 refine Ld.xb h rfl (Ld.xb (x:=sA A) h rfl ?_)
 simp (disch:=omega) only [ae]
 refine ⟨by omega,by omega,by omega,by dsimp only;omega,?_⟩
 dsimp only
 rw [if_neg (by omega)]
 simp only [Option.map_some,Nat.mul_one,al,Nat.zero_add]
 rw [show ((j:Int)+(p:Int)).toNat=p+j by omega,show ((j:Int)+(p:Int)+(n:Int)).toNat - (p+j)=n by omega]
 exact hyes j rfl (by omega) _ (hend _ h)
theorem ku {p q:Nat} {i:Int} {K:Int→Bool→World→Prop} (h:Hp E w (Ar A f::F)) (hin:p+q≤A.live)
  (hyes: ∀j:Nat,i=(j:Int)→j<q→∀w',Hp E w' (Ar A f::F)→K (f (p+j):Int) true w') (hno: ¬(0≤i∧i<q)→∀w',Hp E w' (Ar A f::F)→K 0 false w'):
  Cl Tryz.prog [aq .u8,kB] bu ⟨[pA A,j7 p q,.int .i64 i]⟩ w K:=by
 refine tF.ok _ ((p:Int),(q:Int),()) _ _ _ ?_
 dsimp only
 refine Nw.mk h fun b w h=>Ld.xt h rfl ?_
 refine tH (n:=1) (h.at 1) hin (by omega) (by omega) (fun j hj hjq w h=> ?_) (fun hn w h=>aa.t rfl (hno (by omega) _ (h.no 1)))
 refine aa.f rfl (an.mk rfl (by omega) (by dsimp only;omega) ?_)
 obtain ⟨ok,h⟩:=Ar.cO h
 have h1:=ok.le
 rw [show (0:Int).toNat*1=0 by decide,al,Nat.add_zero]
 exact Ld.xb h (wg (by omega)) (hyes j hj (by omega) _ (Ar.shut ok (h.no 2)))
theorem iY {p q j v:Nat} {K:Bool→World→Prop} (h:Hp E w (Ar A f::F)) (hin:p+q≤A.live) (hj:j<q) (hv:v<256) (hK: ∀w',Hp E w' (Ar A (cP f (p+j) v)::F)→K true w'):
  Cl Tryz.prog [kB] bF ⟨[pA A,j7 p q,.int .i64 (j:Int),.int .u8 (v:Int)]⟩ w K:=by
 refine rf.ok _ ((p:Int),(q:Int),()) _ _ _ _ ?_
 dsimp only
 refine Nw.mk h fun b w h=>Ld.xt h rfl ?_
 refine tH (n:=1) (h.at 1) hin (by omega) (by omega) (fun j' hj' hjq w h=> ?_) (fun hn w h=>absurd ⟨by omega,by omega⟩ hn)
 obtain rfl:j=j':=by omega
 refine aa.f rfl (an.mk rfl (by omega) (by dsimp only;omega) ?_)
 obtain ⟨ok,h⟩:=Ar.cO h
 have h1:=ok.le
 rw [show (0:Int).toNat*1=0 by decide,al,Nat.add_zero]
 refine St.xb h (by rw [nG];omega) rfl fun w h=>hK _ ?_
 rw [Cs] at h
 exact Ar.shut (ok.bk (zS ok.byt hv)) (h.no 2)
end
end Go.Proofs.YtgglghjnakclmaaGreat
namespace Go.Vc
open Go
theorem E2 {P:Program} {t e ty:TypeId} {z:Value} {E w:World} {l:List HP} {b o n cap:Nat} {c:Array Value} {t':TypeId} {put:Obj→List HP} {K:Value→World→Prop} [hf:bS b l c t' (0,0) put]
  (hu:P.underlying t=some (.slice e)) (hz: ∀w,(zeroValue e).run P w= .ok z w) (hc:z.cells= #[z]) (hs:aD z=true) (h:Hp E w l) (hfit:o+n≤c.size)
  (hK: ∀w',Hp E w' (put (.cells ⟨c.toList.take o++(List.replicate n z++c.toList.drop (o+n))⟩ t' (0,0)))→K (.tuple #[]) w'):
  au P (Builtin.clear_ #[t] ty ⟨[.slice (some ⟨b,o,none⟩) n cap]⟩) kV w K:=by
 have hsz:c.toList.length=c.size:=by simp
 obtain ⟨_,hcond,hk⟩:=ax.xm (b:=b) (n:=n) (o:=o) (cs:=⟨List.replicate n z⟩) (pre:=c.toList.take o) (aL:=(c.toList.drop o).take n) (post:=c.toList.drop (o+n)) (K:=fun w'=>K (.tuple #[]) w') h
  (by rw [←List.drop_drop,List.take_append_drop,List.take_append_drop]) (by rw [List.length_take];omega) (by rw [List.length_take,List.length_drop];omega) (by simp) (fun v hv=>by rw [List.eq_of_mem_replicate hv];exact hs) hK
 unfold au
 cases n with
 |zero=>
  have e1:(Builtin.clear_ #[t] ty ⟨[.slice (some ⟨b,o,none⟩) 0 cap]⟩).run P w= .ok (.tuple #[]) w:=by
   simp [Builtin.clear_,run_underlying hu]
  rw [e1]
  exact hk
 |succ m=>
  have hzc:(Builtin.zeroCells z.cells (m+1)).toList=List.replicate (m+1) z:=by
   rw [hc]
   simp [Builtin.zeroCells]
   apply List.ext_getElem
   ·simp
   ·intro i h1 h2
    simp [Nat.mod_one]
  have hst:=mm (P:=P) (p:=⟨b,o,none⟩) (List.replicate (m+1) z) 0 w (fun j hj=>by
   rw [List.length_replicate] at hj
   have:=hcond j hj
   rw [Nat.zero_add]
   refine ⟨?_,this.2⟩
   rw [List.getElem_replicate];exact hs)
  have e1:(Builtin.clear_ #[t] ty ⟨[.slice (some ⟨b,o,none⟩) (m+1) cap]⟩).run P w= .ok (.tuple #[]) (ax.setRow w ⟨b,o,none⟩ (List.replicate (m+1) z) 0):=by
   simp [Builtin.clear_,run_underlying hu,hz,hzc,hst]
  rw [e1]
  exact hk
end Go.Vc
namespace Go.Proofs.YtgglghjnakclmaaGreat
open Go Go.Vc
section
variable {E w:World} {F:List HP} {A:AS} {f:Nat→Nat}
theorem yO:Tryz.prog.underlying 26=some (.slice 5):=by kernel_rfl
theorem IQ {n:Nat} {K:Option Addr→Int→World→Prop} (h:Hp E w F) (hn:1≤n) (hn2:n≤1000000) (hK: ∀a m w',Hp E w' (Ar ⟨a,m,n,0,0⟩ (fun _=>0)::F)→K (some ⟨a,0,none⟩) 0 w'):Cl Tryz.prog [kP,kI] oE ⟨[.int .i64 (n:Int)]⟩ w K:=by
 refine FI.ok _ _ _ (aa.df (by omega) (aa.df (by omega) ?_))
 refine JC (z:= .int .u8 0) (bytes:=1) yO ⟨_,rfl,by kernel_rfl,by kernel_rfl,by kernel_rfl⟩ rfl (by omega) (by omega) h fun m w h=>Nw.mk h fun a w h=>hK a m w ?_
 rw [Ak] at h
 exact Ar.shut ⟨by dsimp only;omega,by dsimp only;omega,fun _=>by decide⟩ h
theorem He {K:Int→World→Prop} (h:Hp E w (Ar A f::F)) (hK:Hp E w (Ar A f::F)→K (A.peak:Int) w):Cl Tryz.prog [kI] gX ⟨[pA A]⟩ w K:=by
 refine uo.ok _ _ _ ?_
 obtain ⟨ok,h⟩:=Ar.cO h
 (try simp only [ao,ak,al,Nat.zero_add,Nat.add_zero,Nat.reduceAdd,Bool.not_true,Bool.not_false,aF,aE,Option.isNone])
 exact Ld.xb h rfl (hK (Ar.shut ok h))
theorem ad.hb {b:Nat} {o:Obj} {φ:World→Prop} (hf: ∀w:World,w.heap[b]? =some o→φ w):ad (af b o::F) φ:=by
 rintro w f a ⟨g,k,hd,rfl,rfl,h2⟩
 exact hf w (a b _ (by simp [aP.add,aP.one]))
theorem Gu {p q:Nat} {K:Sl→World→Prop} (h:Hp E w (Ar A f::F)) (hin:p+q≤A.live) (hK: ∀s w',Hp E w' (aj 1 s ((a9 f p q).map vB)::Ar A f::F)→K s w'):Cl Tryz.prog [kS] gH ⟨[pA A,j7 p q]⟩ w K:=by
 refine ui.ok _ ((p:Int),(q:Int),()) _ _ ?_
 dsimp only
 refine Nw.mk h fun b w h=>Ld.xt h rfl ?_
 refine kG (h.at 1) hin fun w h=>aa.f rfl ?_
 obtain ⟨ok,h⟩:=Ar.cO h
 have h1:=ok.le;have h2:=ok.bZ
 refine aK.mk h fun w h=> ?_
 (try simp only [ao,ak,al,Nat.zero_add,Nat.add_zero,Nat.reduceAdd,Bool.not_true,Bool.not_false,aF,aE,Option.isNone])
 refine Ld.xb (x:=sA A) h rfl (Ld.xb h rfl (Ld.xb h rfl (Ld.xb h rfl ?_)))
 simp (disch:=omega) only [ae]
 refine ⟨by omega,by omega,by omega,by dsimp only;omega,?_⟩
 dsimp only
 have hsl:(⟨if (A.N:Int).toNat=(p:Int).toNat then some ⟨A.m,0,none⟩ else (some ⟨A.m,0,none⟩:Option Addr).map (·.add ((p:Int).toNat*1)),((p:Int)+(q:Int)).toNat - (p:Int).toNat,(A.N:Int).toNat - (p:Int).toNat⟩:Sl)=⟨if A.N=p then some ⟨A.m,0,none⟩ else some ⟨A.m,p,none⟩,q,A.N - p⟩:=by
  simp only [Option.map_some,Int.toNat_natCast,Nat.mul_one,al,Nat.zero_add]
  rw [show ((p:Int)+(q:Int)).toNat - p=q by omega]
 rw [hsl]
 refine I6 (bs:=a9 f p q) h (ad.at 1 (ad.hb fun w hw=> ?_)) (by rw [bP,aA];omega) fun s w h=>hK s w ?_
 ·split
  ·have:q=0:=by omega
   subst this
   exact ⟨rfl,fun i hi=>by simp [a9] at hi⟩
  ·exact Jg (by omega) hw
 ·have h:=((h.no 3).at 1).at 2
  exact (Ar.shut ok (h.at 1)).at 1
theorem Eg {p q j:Nat} {s:Sl} {b:List Nat} {K:Bool→World→Prop} (h:Hp E w (Ar A f::F)) (hin:p+q≤A.live) (hj:j+b.length≤q) (hs:ad F (aC 1 s (b.map vB))) (hb: ∀x∈b,x<256)
  (hK: ∀w',Hp E w' (Ar A (eD f (p+j) b)::F)→K true w'):Cl Tryz.prog [kB] gn ⟨[pA A,j7 p q,.int .i64 (j:Int),.slice s.base s.len s.cap]⟩ w K:=by
 refine sN.ok _ ((p:Int),(q:Int),()) _ _ _ _ ?_
 dsimp only
 have hlen:b.length=s.len:=by have:=(h.ag hs.cons).1;simpa using this
 refine Nw.mk h fun b4 w h=>Ld.xt h rfl ?_
 refine kG (h.at 1) hin fun w h=>aa.f rfl (aa.df (by omega) ?_)
 obtain ⟨ok,h⟩:=Ar.cO h
 have h1:=ok.le;have h2:=ok.bZ
 (try simp only [ao,ak,al,Nat.zero_add,Nat.add_zero,Nat.reduceAdd,Bool.not_true,Bool.not_false,aF,aE,Option.isNone])
 refine Ld.xb h rfl (aa.df (by rw [ae (by omega)];omega) (aK.mk h fun w h=> ?_))
 (try simp only [ao,ak,al,Nat.zero_add,Nat.add_zero,Nat.reduceAdd,Bool.not_true,Bool.not_false,aF,aE,Option.isNone])
 refine Ld.xb (x:=sA A) h rfl (Ld.xb h rfl ?_)
 simp (disch:=omega) only [ae]
 refine ⟨by omega,by omega,by omega,by dsimp only;omega,?_⟩
 dsimp only
 have hsl:(⟨if (A.N:Int).toNat=((p:Int)+(j:Int)).toNat then some ⟨A.m,0,none⟩ else (some ⟨A.m,0,none⟩:Option Addr).map (·.add (((p:Int)+(j:Int)).toNat*1)),(A.N:Int).toNat - ((p:Int)+(j:Int)).toNat,(A.N:Int).toNat - ((p:Int)+(j:Int)).toNat⟩:Sl)=⟨if A.N=p+j then some ⟨A.m,0,none⟩ else some ⟨A.m,p+j,none⟩,A.N - (p+j),A.N - (p+j)⟩:=by
  simp only [Option.map_some,Int.toNat_natCast,Nat.mul_one,al,Nat.zero_add]
  rw [show ((p:Int)+(j:Int)).toNat=p+j by omega]
 rw [hsl]
 have hs3:aC 1 s (b.map vB) w:=h.ag hs.cons.cons.cons
 by_cases hz:A.N=p+j
 ·have hb0:b= []:=List.length_eq_zero_iff.1 (by omega)
  subst hb0
  rw [if_pos hz]
  refine rD (o:=0) (dLen:=A.N - (p+j)) (ys:= []) yO (by kernel_rfl) h (by simpa using hs3) (by simp) (by rw [nG];omega) fun w h=>hK w ?_
  have e:eD f (p+j) []=f:=by funext i;unfold eD;rw [if_neg (by simp)]
  rw [e]
  simp only [List.take_nil,List.nil_append,List.length_nil,Nat.zero_min,Nat.add_zero,List.take_append_drop,Array.toArray_toList] at h
  exact Ar.shut ok (h.no 2)
 ·rw [if_neg hz]
  refine rD (o:=p+j) (dLen:=A.N - (p+j)) (ys:=b.map vB) yO (by kernel_rfl) h hs3 dW (by rw [nG];omega) fun w h=>hK w ?_
  have e1:(b.map vB).take (A.N - (p+j))=b.map vB:=List.take_of_length_le (by rw [List.length_map];omega)
  have e2:min (b.map vB).length (A.N - (p+j))=b.length:=by rw [List.length_map];omega
  rw [e1,e2,IX (by omega)] at h
  exact Ar.shut (ok.bk (F5 ok.byt hb)) (h.no 2)
theorem Hq {n:Nat} {K:(Int×Int×Unit)→Int→World→Prop} (h:Hp E w (Ar A (fun _=>0)::F)) (hn:n+A.live≤A.N)
  (hK: ∀w',Hp E w' (Ar ⟨A.a,A.m,A.N,A.live+n,max A.peak (A.live+n)⟩ (fun _=>0)::F)→K ((A.live:Int),(n:Int),()) 0 w'):Cl Tryz.prog [.st [.int .i64,.int .i64],kI] gO ⟨[pA A,.int .i64 (n:Int)]⟩ w K:=by
 refine uc.ok _ _ _ _ ?_
 obtain ⟨ok,h⟩:=Ar.cO h
 have h1:=ok.le;have h2:=ok.bZ
 refine Nw.mk h fun b4 w h=> ?_
 (try simp only [ao,ak,al,Nat.zero_add,Nat.add_zero,Nat.reduceAdd,Bool.not_true,Bool.not_false,aF,aE,Option.isNone])
 refine aa.df (by omega) (aK.mk h fun w h=>Ld.xb (x:=sA A) h rfl (Ld.xb h rfl (aa.df (by dsimp only;rw [ae (by omega)];omega) ?_)))
 refine Ld.xb (x:=(A.live:Int)) h rfl (Nw.mk h fun b19 w h=> ?_)
 (with_reducible refine bj.xw h rfl rfl (fun w h=> ?_))
 refine aK.mk h fun w h=> ?_
 (try simp only [ao,ak,al,Nat.zero_add,Nat.add_zero,Nat.reduceAdd,Bool.not_true,Bool.not_false,aF,aE,Option.isNone])
 refine Ld.xb (x:=sA A) h rfl (Ld.xb h rfl (Ld.xb h rfl ?_))
 simp (disch:=omega) only [ae]
 refine ⟨by omega,by omega,by omega,by dsimp only;omega,?_⟩
 dsimp only
 have hsl:(⟨if (A.N:Int).toNat=(A.live:Int).toNat then some ⟨A.m,0,none⟩ else (some ⟨A.m,0,none⟩:Option Addr).map (·.add ((A.live:Int).toNat*1)),((A.live:Int)+(n:Int)).toNat - (A.live:Int).toNat,(A.N:Int).toNat - (A.live:Int).toNat⟩:Sl)=⟨if A.N=A.live then some ⟨A.m,0,none⟩ else some ⟨A.m,A.live,none⟩,n,A.N - A.live⟩:=by
  simp only [Option.map_some,Int.toNat_natCast,Nat.mul_one,al,Nat.zero_add]
  rw [show ((A.live:Int)+(n:Int)).toNat - A.live=n by omega]
 rw [hsl]
 obtain ⟨o,ho,hon⟩: ∃o,(if A.N=A.live then (some ⟨A.m,0,none⟩:Option Addr) else some ⟨A.m,A.live,none⟩)=some ⟨A.m,o,none⟩∧o+n≤A.N:=by
  by_cases hz:A.N=A.live
  ·exact ⟨0,by rw [if_pos hz],by omega⟩
  ·exact ⟨A.live,by rw [if_neg hz],by omega⟩
 rw [ho]
 refine E2 (z:= .int .u8 0) yO (fun w=>by kernel_rfl) rfl rfl h (by rw [nG];omega) fun w h=> ?_
 have hz:(⟨(fI (fun _=>0) A.N).toList.take o++(List.replicate n (.int .u8 0)++(fI (fun _=>0) A.N).toList.drop (o+n))⟩:Array Value)=fI (fun _=>0) A.N:=by
  rw [←Ak]
  apply Array.ext'
  show (List.replicate A.N _).take o++(List.replicate n _++(List.replicate A.N _).drop (o+n))=List.replicate A.N _
  rw [List.take_replicate,List.drop_replicate,List.replicate_append_replicate,List.replicate_append_replicate]
  congr 1
  omega
 rw [hz] at h
 refine Ld.xb h rfl (St.xs h rfl rfl fun w h=> ?_)
 dsimp only [ca,aJ] at h
 refine aK.mk h fun w h=>Ld.xb h rfl (Ld.xb h rfl (St.xs h rfl rfl fun w h=> ?_))
 dsimp only [ca,aJ] at h
 refine Ld.xt h rfl ?_
 (with_reducible refine bj.xw h rfl rfl (fun w h=> ?_))
 refine Ld.xt h rfl (hK w ?_)
 simp (disch:=omega) only [ae] at h
 have e:(if ((A.live:Int)+(n:Int))>(A.peak:Int) then ((A.live:Int)+(n:Int)) else (A.peak:Int))=((max A.peak (A.live+n):Nat):Int):=by split<;>omega
 rw [e,show (A.live:Int)+(n:Int)=((A.live+n:Nat):Int) by omega] at h
 exact Ar.shut (A:=⟨A.a,A.m,A.N,A.live+n,max A.peak (A.live+n)⟩) ⟨by dsimp only;omega,ok.bZ,ok.byt⟩ ((h.no 0).no 0)
end
end Go.Proofs.YtgglghjnakclmaaGreat
set_option maxRecDepth 20000
namespace Go.Rk
section
variable {α:Type} {lt:α→α→Bool}
structure SO (lt:α→α→Bool):Prop where
 irr: ∀a,lt a a=false
 trans: ∀a b c,lt a b=true→lt b c=true→lt a c=true
 ntrans: ∀a b c,lt a b=false→lt b c=false→lt a c=false
theorem SO.sb (h:SO lt) {a b:α} (hab:lt a b=true):lt b a=false:=by
 cases hb:lt b a with
 |false=>rfl
 |true=>have:=h.trans _ _ _ hab hb;rw [h.irr] at this;cases this
theorem xC {p q:α→Bool}: ∀{l:List α},(∀z∈l,p z=true→q z=true)→(∃x,x∈l∧q x=true∧p x=false)→l.countP p<l.countP q
 | [],_,⟨x,hx,_⟩=>by cases hx
 |a::l,h,⟨x,hx,hq,hp⟩=>by
  have hle:l.countP p≤l.countP q:=List.countP_mono_left fun z hz=>h z (List.mem_cons_of_mem _ hz)
  rw [List.countP_cons,List.countP_cons]
  rcases List.mem_cons.1 hx with rfl|hx
  ·rw [hq,hp];simp;omega
  ·have ih:=xC (fun z hz=>h z (List.mem_cons_of_mem _ hz)) ⟨x,hx,hq,hp⟩
   cases hpa:p a with
   |false=>simp;split<;>omega
   |true=>rw [h a (by simp) hpa];simp;omega
theorem kv (h:SO lt): ∀{S:List α},S.Pairwise (fun a b=>lt a b=true)→∀(j:Nat) (hj:j<S.length),S.countP (fun x=>lt x S[j])=j
 | [],_,j,hj=>by simp at hj
 |a::S,hp,0,_=>by
  rw [List.pairwise_cons] at hp
  rw [List.countP_cons,List.getElem_cons_zero,h.irr,List.countP_eq_zero.2 fun x hx=>by rw [h.sb (hp.1 x hx)];decide]
  rfl
 |a::S,hp,j+1,hj=>by
  rw [List.pairwise_cons] at hp
  have hj':j<S.length:=by simpa using hj
  rw [List.countP_cons,List.getElem_cons_succ,kv h hp.2 j hj',hp.1 _ (List.getElem_mem hj')]
  rfl
theorem wW (h:SO lt) {S:List α} (hp:S.Pairwise (fun a b=>lt a b=true)) {x:α} (hx:x∈S): ∃hj:S.countP (fun y=>lt y x)<S.length,S[S.countP (fun y=>lt y x)]=x:=by
 obtain ⟨j,hj,rfl⟩:=List.getElem_of_mem hx
 have:=kv h hp j hj
 exact ⟨by omega,by simp only [this]⟩
theorem oe (h:SO lt) {S T:List α} (hpm:S.Perm T) (hS:S.Pairwise (fun a b=>lt a b=true)) (hT:T.Pairwise (fun a b=>lt a b=true)):S=T:=by
 apply List.ext_getElem hpm.length_eq
 intro r h1 h3
 have hr:=kv h hS r h1
 rw [hpm.countP_eq] at hr
 obtain ⟨h4,h5⟩:=wW h hT (hpm.mem_iff.1 (List.getElem_mem h1))
 rw [←h5]
 simp only [hr]
def rk (lt:α→α→Bool) (dom:List α) (x:α):Nat:=dom.countP fun y=>lt y x
theorem Ik (h:SO lt) {dom:List α} {x y:α} (hx:x∈dom) (hl:lt x y=true):rk lt dom x<rk lt dom y:=
 xC (fun _ _ hz=>h.trans _ _ _ hz hl) ⟨x,hx,hl,h.irr x⟩
def zh (lt:α→α→Bool) (dom:List α):Prop:= ∀x∈dom,∀y∈dom,x≠y→lt x y=true∨lt y x=true
theorem JT (h:SO lt) {dom:List α} (ht:zh lt dom) {x y:α} (hx:x∈dom) (hy:y∈dom) (he:rk lt dom x=rk lt dom y):x=y:=by
 by_cases e:x=y
 ·exact e
 ·rcases ht x hx y hy e with h1|h1
  ·have:=Ik h hx h1;omega
  ·have:=Ik h hy h1;omega
def qU (lt:α→α→Bool) (dom:List α):List α:=dom.mergeSort fun a b=> !lt b a
theorem cI (dom:List α):(qU lt dom).Perm dom:=List.mergeSort_perm ..
theorem wN (dom:List α):(qU lt dom).length=dom.length:=(cI dom).length_eq
theorem mu (h:SO lt) {dom:List α} (hn:dom.Nodup) (ht:zh lt dom):(qU lt dom).Pairwise fun a b=>lt a b=true:=by
 have h1:=List.pairwise_mergeSort (le:=fun a b=> !lt b a) (fun a b c h1 h2=>by
   simp only [Bool.not_eq_true'] at*;exact h.ntrans _ _ _ h2 h1) (fun a b=>by
   cases hab:lt a b with
   |true=>simp [h.sb hab]
   |false=>simp) dom
 have h2:(qU lt dom).Nodup:=(cI dom).nodup_iff.2 hn
 have h3:(qU lt dom).Pairwise fun a b=>a∈dom∧b∈dom:=List.Pairwise.imp_of_mem (fun {a b} ha hb _=>⟨(cI dom).mem_iff.1 ha,(cI dom).mem_iff.1 hb⟩) h2
 exact ((h1.and h2).and h3).imp fun {a b} hh=>by
  rcases ht a hh.2.1 b hh.2.2 hh.1.2 with h4|h4
  ·exact h4
  ·have:=hh.1.1;simp [h4] at this
theorem Ew (h:SO lt) {dom:List α} (hn:dom.Nodup) (ht:zh lt dom) {x:α} (hx:x∈dom): ∃hj:rk lt dom x<(qU lt dom).length,(qU lt dom)[rk lt dom x]=x:=by
 have:=wW h (mu h hn ht) ((cI dom).mem_iff.2 hx)
 rw [(cI dom).countP_eq] at this
 exact this
theorem Ly (h:SO lt) {dom:List α} (hn:dom.Nodup) (ht:zh lt dom) {r:Nat} (hr:r<(qU lt dom).length):rk lt dom (qU lt dom)[r]=r:=by
 have:=kv h (mu h hn ht) r hr
 rwa [(cI dom).countP_eq] at this
theorem FJ (h:SO lt) {dom:List α} (hn:dom.Nodup) (ht:zh lt dom) {x:α} (hx:x∈dom):rk lt dom x<dom.length:=by
 obtain ⟨hj,_⟩:=Ew h hn ht hx
 rwa [wN] at hj
end
end Go.Rk
set_option maxRecDepth 20000
namespace Go.Vc
open Go
def LN:List Nat→List Nat→Bool
 |_,[]=>false
 | [],_::_=>true
 |a::x,b::y=>decide (a<b)||(a==b&&LN x y)
def strOf (b:List Nat):ByteArray:=strOfNums (b.map fun (x:Nat)=>(x:Int))
theorem FE {P:Program} {src e dst:TypeId} {s:Sl} {b:List Nat} {w:World} {K:ByteArray→World→Prop} (hs:P.underlying src=some (.slice e)) (he:P.underlying e=some (.int .u8)) (hd:P.underlying dst=some .string)
  (hh:aC 1 s (b.map vB) w) (hK:K (strOf b) w):au P (convert src dst (.slice s.base s.len s.cap)) m8 w K:=by
 have hl:=hh.1
 simp only [List.length_map,Nat.mul_one] at hl
 have key:(convert src dst (.slice s.base s.len s.cap)).run P w= .ok (.string (strOf b)) w:=by
  cases hb:s.base with
  |none=>
   have:b= []:=by
    cases b with
    |nil=>rfl
    |cons x b=>
     obtain ⟨p,hp,_⟩:=hh.2 0 (by simp)
     rw [hb] at hp;cases hp
   subst this
   rw [run_convert_bytes_nil w src e hs he _ _ dst hd];rfl
  |some p=>
   have hc:(loadCells p s.len).run P w= .ok ((b.map fun (x:Nat)=>(x:Int)).map (Value.int .u8)).toArray w:=by
    have:=yg (P:=P) (w:=w) (vs:=b.map vB) (p:=p) (fun i hi=>by
     obtain ⟨q,hq,hc⟩:=hh.2 i hi
     rw [hb] at hq
     cases hq
     exact hc)
    rw [List.length_map,hl] at this
    rw [this,List.map_map];rfl
   rw [run_convert_bytes_string w src dst e _ _ _ hs he hd,run_bytesToString w _ _ _ _ hc,foldl_push_bytes]
   unfold strOf strOfNums
   simp [ByteArray.empty,ByteArray.emptyWithCapacity]
   rfl
 unfold au
 rw [key]
 exact hK
theorem CH (b:List Nat):(strOf b).toList=b.map UInt8.ofNat:=by
 unfold strOf strOfNums
 rw [ByteArray.toList_mk,List.map_map]
 refine List.map_congr_left fun x _=> ?_
 simp
theorem eO (b:List Nat):(strOf b).data.toList=b.map UInt8.ofNat:=by rw [←ByteArray.toList_eq,CH]
section
variable {E w:World} {F:List HP}
end
end Go.Vc
set_option maxRecDepth 20000
namespace Go.Bw
open Go.Rk
abbrev lx:List Nat→List Nat→Bool:=Go.Vc.LN
theorem pW (x:List Nat):lx x []=false:=by cases x<;>rfl
theorem mR (a b:Nat) (x y:List Nat):lx (a::x) (b::y)=(decide (a<b)||(a==b&&lx x y)):=rfl
theorem uE: ∀x,lx x x=false
 | []=>rfl
 |a::x=>by rw [mR,uE x];simp
theorem tT: ∀x y z,lx x y=true→lx y z=true→lx x z=true
 |_,[],_,h,_=>by rw [pW] at h;cases h
 |_,_::_,[],_,h=>by rw [pW] at h;cases h
 | [],_::_,_::_,_,_=>rfl
 |a::x,b::y,c::z,h1,h2=>by
  rw [mR] at*
  simp only [Bool.or_eq_true,Bool.and_eq_true,decide_eq_true_eq,beq_iff_eq] at*
  rcases h1 with h1|⟨h1,h3⟩<;>rcases h2 with h2|⟨h2,h4⟩
  ·left;omega
  ·left;omega
  ·left;omega
  ·exact .inr ⟨by omega,tT x y z h3 h4⟩
theorem uy: ∀x y,lx x y=false→lx y x=false→x=y
 | [],[],_,_=>rfl
 | [],_::_,h,_=>by cases h
 |_::_,[],_,h=>by cases h
 |a::x,b::y,h1,h2=>by
  rw [mR] at*
  simp only [Bool.or_eq_false_iff,Bool.and_eq_false_iff,decide_eq_false_iff_not,beq_eq_false_iff_ne] at*
  have hab:a=b:=by omega
  subst hab
  rw [uy x y (by rcases h1.2 with h|h;exact absurd rfl h;exact h) (by rcases h2.2 with h|h;exact absurd rfl h;exact h)]
theorem FR (x y z:List Nat) (h1:lx x y=false) (h2:lx y z=false):lx x z=false:=by
 cases h:lx x z with
 |false=>rfl
 |true=>
  by_cases e:x=y
  ·subst e;rw [h] at h2;cases h2
  ·have hyx:lx y x=true:=by
    cases hh:lx y x with
    |true=>rfl
    |false=>exact absurd (uy x y h1 hh) e
   have:=tT _ _ _ hyx h
   rw [h2] at this;cases this
theorem FK: ∀(a b c d:List Nat),a≠b→(a.length<b.length→c= [])→(b.length<a.length→d= [])→lx (a++c) (b++d)=lx a b
 | [],[],_,_,h,_,_=>absurd rfl h
 | [],y::b,c,d,_,h1,_=>by rw [h1 (by simp)];rfl
 |x::a,[],c,d,_,_,h2=>by rw [h2 (by simp)];rfl
 |x::a,y::b,c,d,h,h1,h2=>by
  rw [List.cons_append,List.cons_append,mR,mR]
  by_cases e:x=y
  ·subst e
   rw [FK a b c d (fun e=>h (by rw [e])) (fun hl=>h1 (by simpa using hl)) (fun hl=>h2 (by simpa using hl))]
  ·rw [beq_eq_false_iff_ne.2 e,Bool.false_and,Bool.false_and]
def sl (t:List Nat) (i k:Nat):Bool:=lx (t.drop i) (t.drop k)
theorem dr (t:List Nat):SO (sl t):=⟨fun _=>uE _,fun _ _ _=>tT _ _ _,fun _ _ _=>FR _ _ _⟩
theorem GP {t:List Nat} {i k:Nat} (hi:i≤t.length) (hk:k≤t.length) (h:t.drop i=t.drop k):i=k:=by
 have:=congrArg List.length h
 simp only [List.length_drop] at this
 omega
def rows (t:List Nat):List Nat:=List.range (t.length+1)
theorem e6 {t:List Nat} {i:Nat}:i∈rows t↔i≤t.length:=by unfold rows;rw [List.mem_range];omega
theorem mh (t:List Nat):(rows t).Nodup:=List.nodup_range
theorem zf (t:List Nat):(rows t).length=t.length+1:=List.length_range
theorem np (t:List Nat):zh (sl t) (rows t):=fun x hx y hy e=>by
 rw [e6] at hx hy
 cases h1:sl t x y with
 |true=>exact .inl rfl
 |false=>
  right
  cases h2:sl t y x with
  |true=>rfl
  |false=>exact absurd (GP hx hy (uy _ _ h1 h2)) e
def aZ (t:List Nat):List Nat:=qU (sl t) (rows t)
def iW (t:List Nat) (i:Nat):Nat:=rk (sl t) (rows t) i
theorem gV (t:List Nat):(aZ t).length=t.length+1:=by unfold aZ;rw [wN,zf]
theorem ny {t:List Nat} {i:Nat}:i∈aZ t↔i≤t.length:=by unfold aZ;rw [(cI _).mem_iff,e6]
theorem KA {t:List Nat} {i:Nat} (hi:i≤t.length):iW t i<t.length+1:=by
 have:=FJ (dr t) (mh t) (np t) (e6.2 hi)
 rwa [zf] at this
theorem wI {t:List Nat} {i:Nat} (hi:i≤t.length): ∃h:iW t i<(aZ t).length,(aZ t)[iW t i]=i:=Ew (dr t) (mh t) (np t) (e6.2 hi)
theorem JD {t:List Nat} {r:Nat} (hr:r<(aZ t).length):iW t (aZ t)[r]=r:=Ly (dr t) (mh t) (np t) hr
theorem wM {t:List Nat} {i k:Nat} (hi:i≤t.length) (hk:k≤t.length) (h:iW t i=iW t k):i=k:=JT (dr t) (np t) (e6.2 hi) (e6.2 hk) h
theorem iP (t:List Nat):(aZ t).Pairwise fun a b=>sl t a b=true:=mu (dr t) (mh t) (np t)
theorem qO {t:List Nat} {j:Nat} (hj:j<t.length):t.drop j=t.getD j 0::t.drop (j+1):=by
 rw [List.drop_eq_getElem_cons hj];simp [List.getD,hj]
theorem sG {t:List Nat} {i k:Nat} (hi:i<t.length) (hk:k<t.length):sl t i k=(decide (t.getD i 0<t.getD k 0)||(t.getD i 0==t.getD k 0&&sl t (i+1) (k+1))):=by
 unfold sl
 rw [qO hi,qO hk,mR]
theorem Jl (t:List Nat):iW t t.length=0:=by
 unfold iW rk
 rw [List.countP_eq_zero]
 intro x _
 unfold sl
 rw [List.drop_length,pW];decide
def a8 (t:List Nat):Nat:=iW t 0
def dD (t:List Nat):List Nat:=(aZ t).filter fun i=>i !=0
def aQ (t:List Nat):List Nat:=(dD t).map fun i=>t.getD (i - 1) 0
def pR (index row:Nat):Nat:=if row>index then row - 1 else row
theorem k4 (t:List Nat):a8 t≤t.length:=by have:=KA (t:=t) (i:=0) (by omega);unfold a8;omega
theorem gY (t:List Nat) {r:Nat} (hr:r<(aZ t).length):(aZ t)[r]=0↔r=a8 t:=by
 constructor
 ·intro h
  have:=JD hr
  rw [h] at this;exact this.symm
 ·rintro rfl
  exact (wI (t:=t) (i:=0) (by omega)).2
theorem xF: ∀(l:List Nat) (ix:Nat),(∀r (hr:r<l.length),l[r]=0↔r=ix)→∀r (hr:r<l.length),r≠ix→(l.filter fun i=>i !=0)[pR ix r]? =some l[r]
 | [],_,_,r,hr,_=>by simp at hr
 |a::l,0,h,r,hr,hne=>by
  have ha:a=0:=(h 0 (by simp)).2 rfl
  subst ha
  have hall: ∀x∈l,x≠0:=fun x hx e=>by
   obtain ⟨i,hi,rfl⟩:=List.getElem_of_mem hx
   have:=(h (i+1) (by simpa using hi)).1 (by simpa using e)
   omega
  obtain ⟨r,rfl⟩: ∃r',r=r'+1:=⟨r - 1,by omega⟩
  have hr':r<l.length:=by simpa using hr
  rw [List.filter_cons,if_neg (by simp),List.filter_eq_self.2 fun x hx=>by simpa using hall x hx]
  unfold pR
  rw [if_pos (by omega)]
  simp [hr']
 |a::l,ix+1,h,r,hr,hne=>by
  have ha:a≠0:=fun e=>by have:=(h 0 (by simp)).1 e;omega
  have ih:=xF l ix fun r hr=>by
   have:=h (r+1) (by simpa using hr)
   simp only [List.getElem_cons_succ] at this
   omega
  rw [List.filter_cons,if_pos (by simpa using ha)]
  cases r with
  |zero=>
   have:pR (ix+1) 0=0:=by unfold pR;rw [if_neg (by omega)]
   rw [this];rfl
  |succ r=>
   have hr':r<l.length:=by simpa using hr
   have h2:=ih r hr' (by omega)
   have:pR (ix+1) (r+1)=pR ix r+1:=by unfold pR;split<;>split<;>omega
   rw [this,List.getElem?_cons_succ,h2];simp
theorem Ca {t:List Nat} {r:Nat} (hr:r<(aZ t).length) (hne:r≠a8 t):(dD t)[pR (a8 t) r]? =some (aZ t)[r]:=xF _ _ (fun _ hr=>gY t hr) r hr hne
theorem lp (t:List Nat):(dD t).Perm ((List.range t.length).map (·+1)):=by
 have h:=(cI (lt:=sl t) (rows t)).filter fun i=>i !=0
 have e:(rows t).filter (fun i=>i !=0)=(List.range t.length).map (·+1):=by
  unfold rows
  rw [List.range_succ_eq_map,List.filter_cons,if_neg (by simp),List.filter_eq_self.2 fun x hx=>by obtain ⟨y,_,rfl⟩:=List.mem_map.1 hx;simp]
 rw [e] at h
 exact h
theorem Ag (t:List Nat):(dD t).length=t.length:=by rw [(lp t).length_eq];simp
theorem cy (t:List Nat):(aQ t).length=t.length:=by unfold aQ;rw [List.length_map,Ag]
theorem CW (t:List Nat):(aQ t).Perm t:=by
 have h:=(lp t).map fun i=>t.getD (i - 1) 0
 have e:((List.range t.length).map (·+1)).map (fun i=>t.getD (i - 1) 0)=t:=by
  apply List.ext_getElem
  ·simp
  ·intro i h1 h2
   simp [List.getD,h2]
 rw [e] at h
 exact h
theorem sJ {t:List Nat} (hb: ∀x∈t,x<256): ∀x∈aQ t,x<256:=fun x hx=>hb x ((CW t).mem_iff.1 hx)
theorem oO (t:List Nat):(dD t).Pairwise fun a b=>sl t a b=true:=(iP t).filter _
def pl (last:List Nat) (a b:Nat):Bool:=decide (last.getD a 0<last.getD b 0)||(last.getD a 0==last.getD b 0&&decide (a<b))
theorem D8 {last:List Nat} {a b:Nat}:pl last a b=true↔last.getD a 0<last.getD b 0∨(last.getD a 0=last.getD b 0∧a<b):=by simp [pl]
theorem La {last:List Nat} {a b:Nat}:pl last a b=false↔¬(last.getD a 0<last.getD b 0∨(last.getD a 0=last.getD b 0∧a<b)):=by rw [←D8,Bool.not_eq_true]
theorem Li (last:List Nat):SO (pl last):=⟨fun a=>by rw [La];omega,fun a b c h1 h2=>by rw [D8] at*;omega,fun a b c h1 h2=>by rw [La] at*;omega⟩
def nx (last:List Nat) (a:Nat):Nat:=1+rk (pl last) (List.range last.length) a
theorem Lh {t:List Nat} {j:Nat} (h0:0<j) (hj:j≤t.length):nx (aQ t) (pR (a8 t) (iW t j))=iW t (j - 1):=by
 obtain ⟨h1,h2⟩:=wI hj
 have hne:iW t j≠a8 t:=fun e=>by have:=wM hj (by omega) e;omega
 have hat:=Ca h1 hne
 rw [h2] at hat
 obtain ⟨k,hk⟩: ∃k,pR (a8 t) (iW t j)=k:=⟨_,rfl⟩
 rw [hk] at hat⊢
 obtain ⟨hkl,hke⟩:=List.getElem?_eq_some_iff.1 hat
 have hcl:=Ag t
 have hlast: ∀i (hi:i<(dD t).length),(aQ t).getD i 0=t.getD ((dD t)[i] - 1) 0:=fun i hi=>by
  unfold aQ
  simp [List.getD,hi]
 have hin: ∀i (hi:i<(dD t).length),0<(dD t)[i]∧(dD t)[i]≤t.length:=fun i hi=>by
  have:=(lp t).mem_iff.1 (List.getElem_mem hi)
  obtain ⟨x,hx,e⟩:=List.mem_map.1 this
  rw [List.mem_range] at hx
  omega
 have e1:rk (pl (aQ t)) (List.range (aQ t).length) k=(dD t).countP fun x=>sl t (x - 1) (j - 1):=by
  have:(dD t)=(List.range (aQ t).length).map fun i=>(dD t).getD i 0:=by
   apply List.ext_getElem
   ·rw [List.length_map,List.length_range,cy,hcl]
   ·intro i h1 h2
    simp [List.getD,h1]
  unfold rk
  conv=>rhs;rw [this,List.countP_map]
  apply List.countP_congr
  intro i hi
  have hi:i<(dD t).length:=by rw [List.mem_range,cy] at hi;omega
  obtain ⟨a1,a2⟩:=hin i hi
  have b1:=hin k hkl
  have hci:(dD t).getD i 0=(dD t)[i]:=by simp [List.getD,hi]
  have hs:=sG (t:=t) (i:=(dD t)[i] - 1) (k:=j - 1) (by omega) (by omega)
  rw [show (dD t)[i] - 1+1=(dD t)[i] by omega,show j - 1+1=j by omega] at hs
  simp only [Function.comp]
  rw [hci,hs]
  unfold pl
  rw [hlast i hi,hlast k hkl,hke]
  have hord:decide (i<k)=true↔sl t (dD t)[i] j=true:=by
   rw [decide_eq_true_iff,←hke]
   constructor
   ·intro hik
    exact List.pairwise_iff_getElem.1 (oO t) i k hi hkl hik
   ·intro hsl
    rcases Nat.lt_trichotomy i k with h|h|h
    ·exact h
    ·subst h;rw [(dr t).irr] at hsl;cases hsl
    ·have:=List.pairwise_iff_getElem.1 (oO t) k i hkl hi h
     rw [(dr t).sb hsl] at this;cases this
  simp only [Bool.or_eq_true,Bool.and_eq_true,hord]
 have e2:(dD t).countP (fun x=>sl t (x - 1) (j - 1))=(List.range t.length).countP fun x=>sl t x (j - 1):=by
  rw [(lp t).countP_eq,List.countP_map]
  rfl
 have e3:iW t (j - 1)=1+(List.range t.length).countP fun x=>sl t x (j - 1):=by
  unfold iW rk rows
  rw [List.range_succ,List.countP_append,List.countP_cons,List.countP_nil]
  have:sl t t.length (j - 1)=true:=by
   unfold sl
   rw [List.drop_length,qO (by omega)];rfl
  rw [this];simp;omega
 unfold nx
 rw [e1,e2,e3]
def wk (last:List Nat) (index:Nat):Nat→Nat
 |0=>0
 |k+1=>nx last (pR index (wk last index k))
def okB (last:List Nat) (index:Nat):Prop:=index≤last.length∧(∀k,k<last.length→wk last index k≠index)∧wk last index last.length=index
instance (last:List Nat) (index:Nat):Decidable (okB last index):=by unfold okB;infer_instance
end Go.Bw
set_option maxRecDepth 20000
namespace Go.Bw
open Go Go.Vc Go.Rk
theorem xN (c:Nat) (t:List Nat):dD (c::t)=(aZ t).map (·+1):=by
 refine oe (dr (c::t)) ((lp (c::t)).trans ?_) (oO _) ?_
 ·have:=(cI (lt:=sl t) (rows t)).symm.map (·+1)
  exact this
 ·refine List.Pairwise.map _ (fun a b h=> ?_) (iP t)
  exact h
theorem Df (t:List Nat): ∃A B,aZ t=A++0::B∧A.length=a8 t∧(∀x∈A,x≠0)∧∀x∈B,x≠0:=by
 have hl:=gV t
 have hi:=k4 t
 have hr:a8 t<(aZ t).length:=by omega
 have h0:(aZ t)[a8 t]=0:=(gY t hr).2 rfl
 refine ⟨(aZ t).take (a8 t),(aZ t).drop (a8 t+1),?_,by rw [List.length_take];omega,fun x hx e=> ?_,fun x hx e=> ?_⟩
 ·have:=(List.take_append_drop (a8 t) (aZ t)).symm
  rwa [List.drop_eq_getElem_cons hr,h0] at this
 ·obtain ⟨i,hi2,e2⟩:=List.mem_iff_getElem.1 hx
  rw [List.length_take] at hi2
  rw [List.getElem_take] at e2
  have:=(gY t (by omega)).1 (e2.trans e)
  omega
 ·obtain ⟨i,hi2,e2⟩:=List.mem_iff_getElem.1 hx
  rw [List.length_drop] at hi2
  rw [List.getElem_drop] at e2
  have:=(gY t (by omega)).1 (e2.trans e)
  omega
theorem vl (c:Nat) (t:List Nat):aQ (c::t)=(aQ t).take (a8 t)++c::(aQ t).drop (a8 t):=by
 obtain ⟨A,B,e,hA,hA0,hB0⟩:=Df t
 have h1:aQ (c::t)=(aZ t).map fun i=>(c::t).getD i 0:=by
  unfold aQ
  rw [xN,List.map_map]
  rfl
 have h2:dD t=A++B:=by
  unfold dD
  rw [e,List.filter_append,List.filter_cons,if_neg (by simp),List.filter_eq_self.2 fun x hx=>by simpa using hA0 x hx,List.filter_eq_self.2 fun x hx=>by simpa using hB0 x hx]
 have g: ∀x,x≠0→(c::t).getD x 0=t.getD (x - 1) 0:=fun x hx=>by
  obtain ⟨y,rfl⟩: ∃y,x=y+1:=⟨x - 1,by omega⟩
  simp [List.getD]
 have h3:aQ t=A.map (fun i=>t.getD (i - 1) 0)++B.map fun i=>t.getD (i - 1) 0:=by unfold aQ;rw [h2,List.map_append]
 have hAl:(A.map fun i=>t.getD (i - 1) 0).length=a8 t:=by rw [List.length_map,hA]
 rw [h1,e,h3,List.map_append,List.map_cons,←hAl,List.take_left,List.drop_left]
 congr 1
 ·exact List.map_congr_left fun x hx=>g x (hA0 x hx)
 ·congr 1
  exact List.map_congr_left fun x hx=>g x (hB0 x hx)
def wA (last:List Nat) (idx c:Nat):Nat:=(List.range last.length).countP fun k=>decide (last.getD k 0<c)||(last.getD k 0==c&&decide (k<idx))
theorem Lf (X Y:List Nat) (c:Nat):rk (pl (X++c::Y)) (List.range (X++c::Y).length) X.length=wA (X++Y) X.length c:=by
 unfold rk wA
 have e1:List.range (X.length+(Y.length+1))=List.range X.length++(List.range (Y.length+1)).map (X.length+ ·):=List.range_add ..
 have e2:List.range (X.length+Y.length)=List.range X.length++(List.range Y.length).map (X.length+ ·):=List.range_add ..
 rw [List.length_append,List.length_append,List.length_cons,e1,e2,List.countP_append,List.countP_append,List.range_succ_eq_map,List.map_cons,List.countP_cons,List.map_map,List.countP_map,List.countP_map]
 have at0:(X++c::Y).getD X.length 0=c:=by simp [List.getD]
 congr 1
 ·refine List.countP_congr fun k hk=> ?_
  rw [List.mem_range] at hk
  have e1:(X++c::Y).getD k 0=X.getD k 0:=by simp [List.getD,List.getElem?_append_left hk]
  have e2:(X++Y).getD k 0=X.getD k 0:=by simp [List.getD,List.getElem?_append_left hk]
  unfold pl
  rw [at0,e1,e2]
 ·rw [if_neg (by simp [(Li (X++c::Y)).irr]),Nat.add_zero]
  refine List.countP_congr fun k hk=> ?_
  have e1:(X++c::Y).getD (X.length+(k+1)) 0=Y.getD k 0:=by simp [List.getD,List.getElem?_append_right]
  have e2:(X++Y).getD (X.length+k) 0=Y.getD k 0:=by simp [List.getD,List.getElem?_append_right]
  simp only [Function.comp]
  unfold pl
  have d1:decide (X.length+(k+1)<X.length)=false:=decide_eq_false (by omega)
  have d2:decide (X.length+k<X.length)=false:=decide_eq_false (by omega)
  rw [at0,show X.length+k.succ=X.length+(k+1) from rfl,e1,e2,d1,d2]
theorem FM (c:Nat) (t:List Nat):a8 (c::t)=1+wA (aQ t) (a8 t) c:=by
 have hlen:1≤(c::t).length:=by simp
 have hn:=Lh (t:=c::t) (j:=1) (by decide) hlen
 have hi:=k4 t
 have hll:=cy t
 obtain ⟨h1,h2⟩:=wI (t:=c::t) (i:=1) hlen
 have hne:iW (c::t) 1≠a8 (c::t):=fun e=>by have:=wM hlen (by omega) e;omega
 have hc:=Ca h1 hne
 rw [h2,xN] at hc
 have ha:pR (a8 (c::t)) (iW (c::t) 1)=a8 t:=by
  generalize pR (a8 (c::t)) (iW (c::t) 1)=a at hc
  rw [List.getElem?_map] at hc
  obtain ⟨x,hx,e⟩:=Option.map_eq_some_iff.1 hc
  obtain ⟨hal,hax⟩:=List.getElem?_eq_some_iff.1 hx
  exact (gY t hal).1 (by omega)
 rw [ha] at hn
 have:a8 (c::t)=iW (c::t) (1 - 1):=rfl
 rw [this,←hn,nx,vl]
 have hX:((aQ t).take (a8 t)).length=a8 t:=by rw [List.length_take];omega
 have:=Lf ((aQ t).take (a8 t)) ((aQ t).drop (a8 t)) c
 rw [hX,List.take_append_drop] at this
 rw [this]
end Go.Bw
set_option maxRecDepth 20000
namespace Go.Vc
open Go Go.Bw
def oa (f:Nat→Nat) (a k:Nat):Nat→Nat:=fun j=>if a≤j∧j<a+k then f (j+1) else f j
theorem GS (f:Nat→Nat) (a:Nat):oa f a 0=f:=by funext j;unfold oa;rw [if_neg (by omega)]
theorem Hg (f:Nat→Nat) (a k:Nat):cP (oa f a k) (a+k) (oa f a k (a+k+1))=oa f a (k+1):=by
 funext j
 simp only [cP,oa]
 by_cases h1:j=a+k
 ·rw [if_pos h1,if_neg (by omega),if_pos (by omega),h1]
 ·rw [if_neg h1]
  by_cases h2:a≤j∧j<a+k
  ·rw [if_pos h2,if_pos (by omega)]
  ·rw [if_neg h2,if_neg (by omega)]
theorem FZ {f:Nat→Nat} {a m k c:Nat} (hk:k≤m):a9 (cP (oa f a k) (a+k) c) a (m+1)=(a9 f (a+1) m).take k++c::(a9 f (a+1) m).drop k:=by
 apply List.ext_getElem
 ·simp [bP];omega
 ·intro i h1 h2
  rw [bP] at h1
  rw [ed h1]
  simp only [cP,oa]
  by_cases e1:i<k
  ·rw [List.getElem_append_left (by rw [List.length_take,bP];omega),List.getElem_take,ed (by omega),if_neg (by omega),if_pos (by omega)]
   congr 1;omega
  ·have hl:((a9 f (a+1) m).take k).length=k:=by rw [List.length_take,bP];omega
   rw [List.getElem_append_right (by rw [hl];omega)]
   by_cases e2:i=k
   ·subst e2
    rw [if_pos rfl]
    simp [hl]
   ·rw [if_neg (by omega),if_neg (by omega)]
    simp only [hl]
    obtain ⟨d,hd⟩: ∃d,i - k=d+1:=⟨i - k - 1,by omega⟩
    simp only [hd,List.getElem_cons_succ,List.getElem_drop]
    rw [ed (by omega)]
    congr 1;omega
theorem El {last:List Nat} {idx c k:Nat}:((List.range (k+1)).countP fun j=>decide (last.getD j 0<c)||(last.getD j 0==c&&decide (j<idx)))=((List.range k).countP fun j=>decide (last.getD j 0<c)||(last.getD j 0==c&&decide (j<idx)))+if decide (last.getD k 0<c)||(last.getD k 0==c&&decide (k<idx)) then 1 else 0:=by
 rw [List.range_succ,List.countP_append,List.countP_singleton]
end Go.Vc
namespace Go.Proofs.YtgglghjnakclmaaGreat
open Go Go.Vc Go.Bw
section
variable {E w:World} {F:List HP} {A:AS} {f:Nat→Nat} {p q bt:Nat}
abbrev qu (bt:Nat) (A:AS) (p q:Nat):HP:=af bt (.cells ⟨[pA A,.int .i64 (p:Int),.int .i64 (q:Int)]⟩ 324 (0,0))
theorem wS {i:Nat} {K:Int→World→Prop} (h:Hp E w (qu bt A p q::Ar A f::F)) (hin:p+q≤A.live) (hi:i<q) (hK: ∀w',Hp E w' (qu bt A p q::Ar A f::F)→K (f (p+i):Int) w'):
  Cl Tryz.prog [aq .u8] cn ⟨[.pointer (some ⟨bt,0,none⟩),.int .i64 (i:Int)]⟩ w K:=by
 refine px.ok _ _ _ _ (aK.mk h fun w h=> ?_)
 (try simp only [ao,ak,al,Nat.zero_add,Nat.add_zero,Nat.reduceAdd,Bool.not_true,Bool.not_false,aF,aE,Option.isNone])
 refine Ld.xb h rfl (Ld.xt h rfl ?_)
 refine ku (h.at 1) hin (fun j hj hjq w h=> ?_) (fun hn=>absurd ⟨by omega,by omega⟩ hn)
 obtain rfl:i=j:=by omega
 exact hK w (h.at 1)
theorem Ep {i m k:Nat} {K:Int→World→Prop} (h:Hp E w (qu bt A p q::Ar A f::F)) (hin:p+q≤A.live) (hN:A.N≤1000000) (hi:i+1+m=q) (hk:k≤m) (hb: ∀i,f i<256)
  (hK: ∀w',Hp E w' (qu bt A p q::Ar A (cP (oa f (p+i) k) (p+i+k) (f (p+i)))::F)→K ((1+wA (a9 f (p+i+1) m) k (f (p+i)):Nat):Int) w'):
  Cl Tryz.prog [kI] dN ⟨[.pointer (some ⟨bt,0,none⟩),.int .i64 (i:Int),.int .i64 (k:Int)]⟩ w K:=by
 refine n5.ok _ _ _ _ _ ?_
 have hlive:A.live≤A.N:=(Ar.cO (h.at 1)).1.le
 refine wS h hin (by omega) fun w h=> ?_
 (try simp only [ao,ak,al,Nat.zero_add,Nat.add_zero,Nat.reduceAdd,Bool.not_true,Bool.not_false,aF,aE,Option.isNone])
 refine Ld.xb h rfl ?_
 simp (disch:=omega) only [ae]
 generalize hc:f (p+i)=c at hK
 have hcb:c<256:=hc▸hb _
 refine ⟨fun n t w=> ∃d:Nat,t=(d:Int)∧d≤m∧n=((1+((List.range d).countP fun j=>decide ((a9 f (p+i+1) m).getD j 0<c)||((a9 f (p+i+1) m).getD j 0==c&&decide (j<k))):Nat):Int)∧Hp E w (qu bt A p q::Ar A f::F),
  fun _ t _=>m - t.toNat,⟨0,rfl,by omega,by simp,h⟩,?_⟩
 rintro n t w ⟨d,rfl,hd,rfl,h⟩
 generalize hcnt:((List.range d).countP fun j=>decide ((a9 f (p+i+1) m).getD j 0<c)||((a9 f (p+i+1) m).getD j 0==c&&decide (j<k)))=dJ
 have hcl:dJ≤d:=by rw [←hcnt];exact Nat.le_trans List.countP_le_length (by simp)
 refine aa.dm (fun hlt=> ?_) (fun hge=> ?_)
 ·have hlt:d<m:=by omega
  simp (disch:=omega) only [ae]
  rw [show (i:Int)+1+(d:Int)=((i+1+d:Nat):Int) by omega]
  refine wS h hin (by omega) fun w h=> ?_
  have hg:(a9 f (p+i+1) m).getD d 0=f (p+(i+1+d)):=by
   rw [List.getD_eq_getElem?_getD,List.getElem?_eq_getElem (by rw [bP];exact hlt),Option.getD_some,ed hlt]
   congr 1;omega
  have hst:=El (last:=a9 f (p+i+1) m) (idx:=k) (c:=c) (k:=d)
  rw [hcnt,hg] at hst
  generalize f (p+(i+1+d))=x at hst⊢
  refine aa.dm (fun h1=> ?_) (fun h1=>aa.em (fun h2=>aa.dm (fun h3=> ?_) (fun h3=> ?_)) (fun h2=> ?_))
  ·rw [show decide (x<c)=true from decide_eq_true (by omega),Bool.true_or,if_pos rfl] at hst
   exact ⟨⟨d+1,by omega,by omega,by rw [hst];omega,h⟩,by first|omega|(dsimp only;omega)⟩
  ·rw [show (x==c)=true from beq_iff_eq.2 (by omega),show decide (d<k)=true from decide_eq_true (by omega),Bool.true_and,Bool.or_true,if_pos rfl] at hst
   exact ⟨⟨d+1,by omega,by omega,by rw [hst];omega,h⟩,by first|omega|(dsimp only;omega)⟩
  ·rw [show decide (x<c)=false from decide_eq_false (by omega),show decide (d<k)=false from decide_eq_false (by omega),Bool.and_false,Bool.or_false,if_neg (by simp)] at hst
   exact ⟨⟨d+1,by omega,by omega,by rw [hst];omega,h⟩,by first|omega|(dsimp only;omega)⟩
  ·rw [show decide (x<c)=false from decide_eq_false (by omega),show (x==c)=false from beq_eq_false_iff_ne.2 (by omega),Bool.false_and,Bool.or_false,if_neg (by simp)] at hst
   exact ⟨⟨d+1,by omega,by omega,by rw [hst];omega,h⟩,by first|omega|(dsimp only;omega)⟩
 ·obtain rfl:d=m:=by omega
  have hbef:wA (a9 f (p+i+1) d) k c=dJ:=by unfold wA;rw [bP];exact hcnt
  rw [hbef] at hK
  clear hcnt hbef
  refine ⟨fun t w=> ∃r:Nat,t=(r:Int)∧r≤k∧Hp E w (qu bt A p q::Ar A (oa f (p+i) r)::F),fun t _=>k - t.toNat,⟨0,rfl,by omega,by rw [GS];exact h⟩,?_⟩
  rintro t w ⟨r,rfl,hr,h⟩
  refine aa.dm (fun hlt=> ?_) (fun hge=> ?_)
  ·have hlt:r<k:=by omega
   have h:=h.drew (n:=w.drawn+1)
   (try simp only [ao,ak,al,Nat.zero_add,Nat.add_zero,Nat.reduceAdd,Bool.not_true,Bool.not_false,aF,aE,Option.isNone])
   refine ⟨dv bt _ _ _,h.hb,aH.xb (fun _ h=>h) rfl (aH.xt (fun _ h=>h) rfl ?_)⟩
   simp (disch:=omega) only [ae]
   rw [show (i:Int)+(r:Int)+1=((i+r+1:Nat):Int) by omega]
   refine wS h hin (by omega) fun w h=>⟨h.hb,?_⟩
   rw [show (i:Int)+(r:Int)=((i+r:Nat):Int) by omega]
   have hby:oa f (p+i) r (p+(i+r+1))<256:=by unfold oa;split<;>exact hb _
   refine iY (h.at 1) hin (by omega) hby fun w h=>⟨(h.at 1).hb,⟨r+1,by omega,by omega,?_⟩,by first|omega|(dsimp only;omega)⟩
   have h:=h.at 1
   rw [show p+(i+r+1)=p+i+r+1 by omega,show p+(i+r)=p+i+r by omega,Hg] at h
   exact h
  ·obtain rfl:r=k:=by omega
   refine aK.mk h fun w h=> ?_
   (try simp only [ao,ak,al,Nat.zero_add,Nat.add_zero,Nat.reduceAdd,Bool.not_true,Bool.not_false,aF,aE,Option.isNone])
   refine Ld.xb h rfl (Ld.xt h rfl ?_)
   simp (disch:=omega) only [ae]
   rw [show (i:Int)+(r:Int)=((i+r:Nat):Int) by omega]
   refine iY (h.at 1) hin (by omega) hcb fun w h=> ?_
   have h:=h.at 1
   rw [show p+(i+r)=p+i+r by omega] at h
   exact hK w h
theorem II {K:Bool→World→Prop} (h:Hp E w (Ar A f::F)) (hin:p+q≤A.live) (hq:0<q) (hq2:q≤65536) (hK: ∀w',Hp E w' (Ar A f::F)→K true w'):Cl Tryz.prog [kB] ie ⟨[pA A,j7 p q]⟩ w K:=by
 refine uq.ok _ ((p:Int),(q:Int),()) _ _ ?_
 dsimp only
 refine Nw.mk h fun b w h=>Ld.xt h rfl ?_
 refine kG (h.at 1) hin fun w h=> ?_
 refine aa.t rfl ?_
 (try simp only [ao,ak,al,Nat.zero_add,Nat.add_zero,Nat.reduceAdd,Bool.not_true,Bool.not_false,aF,aE,Option.isNone])
 refine Ld.xb h rfl (aa.dt (by omega) (Ld.xb h rfl ?_))
 exact Fk (decide_eq_true (by omega)) (hK _ (h.no 1))
theorem Hr {K:Int→Int→Int→World→Prop} (h:Hp E w (Ar A f::F)) (hin:p+q≤A.live) (hq:0<q) (hq2:q≤65536)
  (hK: ∀(g:Nat→Nat) (s:Int) w',a9 g p q=aQ (a9 f p q)→(∀j,¬(p≤j∧j<p+q)→g j=f j)→Hp E w' (Ar A g::F)→K (a8 (a9 f p q):Int) s 0 w'):
  Cl Tryz.prog [kI,kI,kI] iD ⟨[pA A,j7 p q]⟩ w K:=by
 refine uM.ok _ ((p:Int),(q:Int),()) _ _ ?_
 obtain ⟨ok,_⟩:=Ar.cO h
 have hN:=ok.bZ
 have hle:=ok.le
 dsimp only
 refine Nw.mk h fun b4 w h=>Ld.xt h rfl ?_
 refine II (h.at 1) hin hq hq2 fun w h=>aa.f rfl ?_
 refine Ld.xt h rfl (Nw.mk h fun bt w h=> ?_)
 (try simp only [ao,ak,al,Nat.zero_add,Nat.add_zero,Nat.reduceAdd,Bool.not_true,Bool.not_false,aF,aE,Option.isNone])
 refine Ld.xb h rfl ?_
 simp (disch:=omega) only [ae]
 have hxl:(a9 f p q).length=q:=bP ..
 generalize hx:a9 f p q=x at hK hxl
 refine ⟨fun index _ i w=> ∃(k:Nat) (g:Nat→Nat),k≤q∧i=(k:Int) - 1∧index=(a8 (x.drop k):Int)∧a9 g (p+k) (q - k)=aQ (x.drop k)∧(∀j,j<k→g (p+j)=f (p+j))∧(∀j,¬(p≤j∧j<p+q)→g j=f j)∧
  Hp E w (qu bt A p q::Ar A g::af b4 (.cells ⟨[.int .i64 (p:Int),.int .i64 (q:Int)]⟩ 146 (0,0))::F),fun _ _ i _=>(i+1).toNat,
  ⟨q,f,Nat.le_refl _,rfl,?_,?_,fun _ _=>rfl,fun _ _=>rfl,h⟩,?_⟩
 ·rw [List.drop_of_length_le (by omega),show a8 []=0 from Nat.le_zero.1 (k4 [])];rfl
 ·rw [List.drop_of_length_le (by omega),Nat.sub_self,show aQ []= [] from List.length_eq_zero_iff.1 (by rw [cy];rfl)];rfl
 rintro index s i w ⟨k,g,hk,rfl,rfl,hrow,hlo,hout,h⟩
 refine aa.dm (fun hge=> ?_) (fun hlt=> ?_)
 ·obtain ⟨i,rfl⟩: ∃i,k=i+1:=⟨k - 1,by omega⟩
  obtain ⟨okg,_⟩:=Ar.cO (h.at 1)
  have hidx:a8 (x.drop (i+1))≤q - (i+1):=by
   have:=k4 (x.drop (i+1))
   rw [List.length_drop,hxl] at this;exact this
  refine Ld.xb h rfl ?_
  rw [show ((i+1:Nat):Int) - 1=(i:Int) by omega]
  refine Ep (m:=q - (i+1)) h hin hN (by omega) hidx okg.byt fun w h=> ?_
  have hdrop:x.drop i=g (p+i)::x.drop (i+1):=by
   rw [List.drop_eq_getElem_cons (by omega),hlo i (by omega)]
   congr 1
   subst hx
   exact ed (by omega)
  simp (disch:=omega) only [ae]
  refine ⟨⟨i,_,by omega,by omega,?_,?_,?_,?_,h⟩,by first|omega|(dsimp only;omega)⟩
  ·rw [hdrop,FM,←hrow]
   rfl
  ·rw [hdrop,vl,←hrow,show q - i=q - (i+1)+1 by omega]
   exact FZ hidx
  ·intro j hj
   rw [←hlo j (by omega)]
   simp only [cP,oa]
   rw [if_neg (by omega),if_neg (by omega)]
  ·intro j hj
   rw [←hout j hj]
   simp only [cP,oa]
   rw [if_neg (by omega),if_neg (by omega)]
 ·obtain rfl:k=0:=by omega
  rw [List.drop_zero,Nat.add_zero,Nat.sub_zero] at hrow
  rw [List.drop_zero]
  exact hK g s w hrow hout ((h.no 0).no 1)
end
end Go.Proofs.YtgglghjnakclmaaGreat
namespace Go.Proofs.YtgglghjnakclmaaGreat
open Go Go.Vc
set_option maxRecDepth 100000
theorem wH.ok (a:(Option Addr)) (b:(TT [.int .i64,.int .i64])) (c:(TT [.int .i64,.int .i64])) (d:(TT [.int .i64,.int .i64])) (R:Int→Int→Int→World→Prop) w (h:
 Nw 146 ⟨[(ni b.1),(ni b.2.1)]⟩ w fun f e=>
 Nw 146 ⟨[(ni c.1),(ni c.2.1)]⟩ e fun h g=>
 Nw 146 ⟨[(ni d.1),(ni d.2.1)]⟩ g fun j i=>
 Ld (.st [.int .i64,.int .i64]) ⟨f,0,none⟩ i fun k=>
 Ld (.st [.int .i64,.int .i64]) ⟨h,0,none⟩ i fun l=>
 Ld (.st [.int .i64,.int .i64]) ⟨j,0,none⟩ i fun m=>
 Cl Pg [kB] iA ⟨[(.pointer a),(.agg ⟨[(ni k.1),(ni k.2.1)]⟩),(.agg ⟨[(ni l.1),(ni l.2.1)]⟩),(.agg ⟨[(ni m.1),(ni m.2.1)]⟩)]⟩ i fun (o:Bool) n=>
 aa (!o)
 (R 0 0 2 n)
 (Ld (.st [.int .i64,.int .i64]) ⟨f,0,none⟩ n fun p=>
 Ld (.st [.int .i64,.int .i64]) ⟨j,0,none⟩ n fun q=>
 Nw 329 ⟨[(.pointer a),(ni p.1),(ni p.2.1),(ni q.1),(ni q.2.1),(ni 0)]⟩ n fun s r=>
 Nw 327 ⟨[(.pointer none)]⟩ r fun u t=>
 St ⟨u,0,none⟩ (.pointer (some ⟨s,0,none⟩)) t fun v=>
 Ld kI (Addr.add ⟨j,0,none⟩ 1) v fun (x:Int)=>
 (4:Int)≠0∧
 Ld kI (Addr.add ⟨f,0,none⟩ 1) v fun (y:Int)=>
 Nw 3 ⟨[(ni 0)]⟩ v fun a1 z=>
 St ⟨a1,0,none⟩ (ni (-1)) z fun b1=>
 LR 0 0 0 0 b1 fun c1 d1 (e1:Int) (f1:Int) (g1:Int) (h1:Int) i1=>
 Ld kI (Addr.add ⟨f,0,none⟩ 1) i1 fun (j1:Int)=>
 aa (decide (h1≤j1))
 (Ld kP ⟨u,0,none⟩ i1 fun k1=>
 Cl Pg [] dP ⟨[(.pointer k1),(ni (if (i64 (y+1))<(i64 (Int.tdiv x (4:Int))) then (i64 (y+1)) else (i64 (Int.tdiv x (4:Int))))),(.func (.func 257) ⟨[]⟩ ⟨[(.pointer (some ⟨a1,0,none⟩)),(.pointer (some ⟨u,0,none⟩))]⟩)]⟩ i1 fun l1=>
 Ld kP ⟨u,0,none⟩ l1 fun m1=>
 Cl Pg [kI] eB ⟨[(.pointer m1)]⟩ l1 fun (o1:Int) n1=>
 LR e1 g1 h1 0 n1 fun p1 q1 (r1:Int) (s1:Int) (t1:Int) (u1:Int) v1=>
 aa (decide (u1<o1))
 (Ld kP ⟨u,0,none⟩ v1 fun x1=>
 Cl Pg [kI] aM ⟨[(.pointer x1),(ni u1)]⟩ v1 fun (z1:Int) y1=>
 St ⟨a1,0,none⟩ (ni z1) y1 fun a2=>
 Ld kI ⟨a1,0,none⟩ a2 fun (b2:Int)=>
 aa (b2==0)
 (p1 t1 s1 (i64 (t1+1)) (i64 (u1+1)) a2∧q1 t1 s1 (i64 (t1+1)) (i64 (u1+1)) a2<q1 r1 s1 t1 u1 v1)
 (Ld (.st [.int .i64,.int .i64]) ⟨f,0,none⟩ a2 fun c2=>
 Ld kI ⟨a1,0,none⟩ a2 fun (d2:Int)=>
 Cl Pg [(aq .u8),kB] bu ⟨[(.pointer a),(.agg ⟨[(ni c2.1),(ni c2.2.1)]⟩),(ni (i64 (d2 - 1)))]⟩ a2 fun (f2:Int) (g2:Bool) e2=>
 Ld (.st [.int .i64,.int .i64]) ⟨h,0,none⟩ e2 fun h2=>
 Cl Pg [kB] bF ⟨[(.pointer a),(.agg ⟨[(ni h2.1),(ni h2.2.1)]⟩),(ni s1),(.int .u8 f2)]⟩ e2 fun (j2:Bool) i2=>
 p1 r1 (i64 (s1+1)) (i64 (t1+1)) (i64 (u1+1)) i2∧q1 r1 (i64 (s1+1)) (i64 (t1+1)) (i64 (u1+1)) i2<q1 r1 s1 t1 u1 v1))
 (c1 r1 (i64 (f1+1)) s1 t1 v1∧d1 r1 (i64 (f1+1)) s1 t1 v1<d1 e1 f1 g1 h1 i1))
 (R e1 f1 0 i1))):Cl Pg [kI,kI,kI] jq ⟨[(.pointer a),(.agg ⟨[(ni b.1),(ni b.2.1)]⟩),(.agg ⟨[(ni c.1),(ni c.2.1)]⟩),(.agg ⟨[(ni d.1),(ni d.2.1)]⟩)]⟩ w R:=co Tryz.f196 [(14,[(8,kI),(9,kI),(14,kI),(15,kI)]),(23,[(8,kI),(14,kI),(15,kI),(49,kI)])] h
theorem vX.ok (a:(Option Addr)) (b:(TT [.int .i64,.int .i64])) (c:(TT [.int .i64,.int .i64])) (d:(TT [.int .i64,.int .i64])) (R:Bool→World→Prop) w (h:
 Nw 146 ⟨[(ni b.1),(ni b.2.1)]⟩ w fun f e=>
 Nw 146 ⟨[(ni c.1),(ni c.2.1)]⟩ e fun h g=>
 Nw 146 ⟨[(ni d.1),(ni d.2.1)]⟩ g fun j i=>
 bD (fun (u:World)=>
 bD (fun (c1:World)=>
 Ld (.st [.int .i64,.int .i64]) ⟨f,0,none⟩ c1 fun d1=>
 Ld (.st [.int .i64,.int .i64]) ⟨h,0,none⟩ c1 fun e1=>
 Cl Pg [kB] dK ⟨[(.agg ⟨[(ni d1.1),(ni d1.2.1)]⟩),(.agg ⟨[(ni e1.1),(ni e1.2.1)]⟩)]⟩ c1 fun (g1:Bool) f1=>
 aa g1
 (Ld (.st [.int .i64,.int .i64]) ⟨f,0,none⟩ f1 fun h1=>
 Ld (.st [.int .i64,.int .i64]) ⟨j,0,none⟩ f1 fun i1=>
 Cl Pg [kB] dK ⟨[(.agg ⟨[(ni h1.1),(ni h1.2.1)]⟩),(.agg ⟨[(ni i1.1),(ni i1.2.1)]⟩)]⟩ f1 fun (k1:Bool) j1=>
 aa k1
 (Ld (.st [.int .i64,.int .i64]) ⟨h,0,none⟩ j1 fun l1=>
 Ld (.st [.int .i64,.int .i64]) ⟨j,0,none⟩ j1 fun m1=>
 Cl Pg [kB] dK ⟨[(.agg ⟨[(ni l1.1),(ni l1.2.1)]⟩),(.agg ⟨[(ni m1.1),(ni m1.2.1)]⟩)]⟩ j1 fun (o1:Bool) n1=>
 R o1 n1)
 (R false j1))
 (R false f1)) fun v=>
 Ld kI (Addr.add ⟨f,0,none⟩ 1) u fun (x:Int)=>
 aa (decide (x<1))
 (R false u)
 (Ld kI (Addr.add ⟨f,0,none⟩ 1) u fun (y:Int)=>
 aa (decide (y>65536))
 (R false u)
 (Ld kI (Addr.add ⟨h,0,none⟩ 1) u fun (z:Int)=>
 Ld kI (Addr.add ⟨f,0,none⟩ 1) u fun (a1:Int)=>
 aa (z !=a1)
 (R false u)
 (Ld kI (Addr.add ⟨j,0,none⟩ 1) u fun (b1:Int)=>
 aa (decide (b1<4))
 (R false u)
 (v u))))) fun k=>
 Ld (.st [.int .i64,.int .i64]) ⟨f,0,none⟩ i fun l=>
 Cl Pg [kB] bC ⟨[(.pointer a),(.agg ⟨[(ni l.1),(ni l.2.1)]⟩)]⟩ i fun (n:Bool) m=>
 aa (!n)
 (R false m)
 (Ld (.st [.int .i64,.int .i64]) ⟨h,0,none⟩ m fun o=>
 Cl Pg [kB] bC ⟨[(.pointer a),(.agg ⟨[(ni o.1),(ni o.2.1)]⟩)]⟩ m fun (q:Bool) p=>
 aa (!q)
 (R false p)
 (Ld (.st [.int .i64,.int .i64]) ⟨j,0,none⟩ p fun r=>
 Cl Pg [kB] bC ⟨[(.pointer a),(.agg ⟨[(ni r.1),(ni r.2.1)]⟩)]⟩ p fun (t:Bool) s=>
 aa (!t)
 (R false s)
 (k s)))):Cl Pg [kB] iA ⟨[(.pointer a),(.agg ⟨[(ni b.1),(ni b.2.1)]⟩),(.agg ⟨[(ni c.1),(ni c.2.1)]⟩),(.agg ⟨[(ni d.1),(ni d.2.1)]⟩)]⟩ w R:=co Tryz.f255 [(2,[]),(7,[])] h
theorem n4.ok (a:(Option Addr)) (b:Int) (c:Value) (R:World→Prop) w (h:
 ar a fun d=>
 St (d.add 5) (ni 0) w fun e=>
 ar a fun f=>
 Ld kI ((f.add 1).add 1) e fun (g:Int)=>
 da 0 e fun h i (j:Int) k=>
 aa (decide (j<(i64 (g+1))))
 (db Pg c [kB] [(ni j)] k fun (m:Bool) l=>
 aa (!m)
 (h (i64 (j+1)) l∧i (i64 (j+1)) l<i j k)
 (ar a fun n=>
 Ld kI (n.add 5) l fun (o:Int)=>
 aa (decide (o<b))
 (Cl Pg [] eE ⟨[(.pointer a),(ni j)]⟩ l fun p=>
 h (i64 (j+1)) p∧i (i64 (j+1)) p<i j k)
 (Cl Pg [kI] aM ⟨[(.pointer a),(ni 0)]⟩ l fun (r:Int) q=>
 Cl Pg [kB] bp ⟨[(.pointer a),(ni j),(ni r)]⟩ q fun (t:Bool) s=>
 aa t
 (Cl Pg [] a7 ⟨[(.pointer a),(ni 0),(ni j)]⟩ s fun u=>
 Cl Pg [] cZ ⟨[(.pointer a),(ni 0)]⟩ u fun v=>
 h (i64 (j+1)) v∧i (i64 (j+1)) v<i j k)
 (h (i64 (j+1)) s∧i (i64 (j+1)) s<i j k))))
 (R k)):Cl Pg [] dP ⟨[(.pointer a),(ni b),c]⟩ w R:=co Tryz.f256 [(4,[(16,kI)])] h
theorem uw.ok (a:Int) (b:Addr) (c:Addr) (R:Bool→World→Prop) w (h:
 Ld kI b w fun (d:Int)=>
 aa (decide (d<0))
 (R true w)
 (Ld kP c w fun e=>
 Ld kI b w fun (f:Int)=>
 Cl Pg [kB] bp ⟨[(.pointer e),(ni f),(ni a)]⟩ w fun (h:Bool) g=>
 R h g)):Cl Pg [kB] lu ⟨[(ni a),(.pointer (some b)),(.pointer (some c))]⟩ w R:=co Tryz.f257 [] h
theorem pQ.ok (a:(Option Addr)) (b:Int) (c:Int) (R:Bool→World→Prop) w (h:
 br b c w fun d e (f:Int) (g:Int) h=>
 aK h fun i=>
 ar a fun j=>
 Ld kP (j.add 0) i fun k=>
 ar a fun l=>
 Ld (.st [.int .i64,.int .i64]) (l.add 1) i fun m=>
 Cl Pg [(aq .u8),kB] bu ⟨[(.pointer k),(.agg ⟨[(ni m.1),(ni m.2.1)]⟩),(ni f)]⟩ i fun (o:Int) (p:Bool) n=>
 aK n fun q=>
 ar a fun r=>
 Ld kP (r.add 0) q fun s=>
 ar a fun t=>
 Ld (.st [.int .i64,.int .i64]) (t.add 1) q fun u=>
 Cl Pg [(aq .u8),kB] bu ⟨[(.pointer s),(.agg ⟨[(ni u.1),(ni u.2.1)]⟩),(ni g)]⟩ q fun (x:Int) (y:Bool) v=>
 aa (!p)
 (aa (!p)
 (R y v)
 (R false v))
 (aa (!y)
 (aa (!p)
 (R y v)
 (R false v))
 (aa (o !=x)
 (R (decide (o<x)) v)
 (aa (f==g)
 (R false v)
 (d (i64 (f+1)) (i64 (g+1)) v∧e (i64 (f+1)) (i64 (g+1)) v<e f g h))))):Cl Pg [kB] bp ⟨[(.pointer a),(ni b),(ni c)]⟩ w R:=co Tryz.f258 [(2,[(1,kI),(2,kI)])] h
theorem pq.ok (a:(Option Addr)) (R:Int→World→Prop) w (h:
 ar a fun b=>
 Ld kI (b.add 5) w fun (c:Int)=>
 Ma w fun d e f=>
 ar a fun g=>
 Ld kI (g.add 5) f fun (h:Int)=>
 aa (decide (h>1))
 (ar a fun i=>
 Ld kI (i.add 5) f fun (j:Int)=>
 ar a fun k=>
 St (k.add 5) (ni (i64 (j - 1))) f fun l=>
 gm l fun m n=>
 ar a fun o=>
 aH kI (o.add 5) m fun (p:Int)=>
 Cl Pg [kI] aM ⟨[(.pointer a),(ni 0)]⟩ n fun (r:Int) q=>
 m q∧
 Cl Pg [kI] aM ⟨[(.pointer a),(ni p)]⟩ q fun (t:Int) s=>
 m s∧
 Cl Pg [] a7 ⟨[(.pointer a),(ni 0),(ni t)]⟩ s fun u=>
 ar a fun v=>
 Ld kI (v.add 5) u fun (x:Int)=>
 Cl Pg [] a7 ⟨[(.pointer a),(ni x),(ni r)]⟩ u fun y=>
 Cl Pg [] cZ ⟨[(.pointer a),(ni 0)]⟩ y fun z=>
 d z∧e z<e f)
 (R c f)):Cl Pg [kI] eB ⟨[(.pointer a)]⟩ w R:=co Tryz.f259 [(5,[])] h
theorem qt.ok (a:(Option Addr)) (b:Int) (R:Int→World→Prop) w (h:
 aK w fun c=>
 ar a fun d=>
 Ld kP (d.add 0) c fun e=>
 ar a fun f=>
 Ld (.st [.int .i64,.int .i64]) (f.add 3) c fun g=>
 Cl Pg [(aq .u32),kB] hJ ⟨[(.pointer e),(.agg ⟨[(ni g.1),(ni g.2.1)]⟩),(ni b)]⟩ c fun (i:Int) (j:Bool) h=>
 R (i64 i) h):Cl Pg [kI] aM ⟨[(.pointer a),(ni b)]⟩ w R:=co Tryz.f260 [] h
theorem vq.ok (a:(TT [.int .i64,.int .i64])) (b:(TT [.int .i64,.int .i64])) (R:Bool→World→Prop) w (h:
 Nw 146 ⟨[(ni a.1),(ni a.2.1)]⟩ w fun d c=>
 Nw 146 ⟨[(ni b.1),(ni b.2.1)]⟩ c fun f e=>
 Ld kI (Addr.add ⟨d,0,none⟩ 1) e fun (g:Int)=>
 aa (g==0)
 (R true e)
 (Ld kI (Addr.add ⟨f,0,none⟩ 1) e fun (h:Int)=>
 aa (h==0)
 (R true e)
 (Ld kI (Addr.add ⟨d,0,none⟩ 0) e fun (i:Int)=>
 Ld kI (Addr.add ⟨d,0,none⟩ 1) e fun (j:Int)=>
 Ld kI (Addr.add ⟨f,0,none⟩ 0) e fun (k:Int)=>
 aa (decide ((i64 (i+j))≤k))
 (R true e)
 (Ld kI (Addr.add ⟨f,0,none⟩ 0) e fun (l:Int)=>
 Ld kI (Addr.add ⟨f,0,none⟩ 1) e fun (m:Int)=>
 Ld kI (Addr.add ⟨d,0,none⟩ 0) e fun (n:Int)=>
 R (decide ((i64 (l+m))≤n)) e)))):Cl Pg [kB] dK ⟨[(.agg ⟨[(ni a.1),(ni a.2.1)]⟩),(.agg ⟨[(ni b.1),(ni b.2.1)]⟩)]⟩ w R:=co Tryz.f301 [] h
theorem po.ok (a:(Option Addr)) (b:Int) (R:World→Prop) w (h:
 ar a fun c=>
 Ld kI (c.add 5) w fun (d:Int)=>
 Cl Pg [] a7 ⟨[(.pointer a),(ni d),(ni b)]⟩ w fun e=>
 ar a fun f=>
 Ld kI (f.add 5) e fun (g:Int)=>
 ar a fun h=>
 St (h.add 5) (ni (i64 (g+1))) e fun i=>
 da d i fun j k (l:Int) m=>
 aa (decide (l>0))
 ((2:Int)≠0∧
 Cl Pg [kI] aM ⟨[(.pointer a),(ni (i64 (Int.tdiv (i64 (l - 1)) (2:Int))))]⟩ m fun (o:Int) n=>
 Cl Pg [kI] aM ⟨[(.pointer a),(ni l)]⟩ n fun (q:Int) p=>
 Cl Pg [kB] bp ⟨[(.pointer a),(ni o),(ni q)]⟩ p fun (s:Bool) r=>
 aa (!s)
 (R r)
 (Cl Pg [] a7 ⟨[(.pointer a),(ni (i64 (Int.tdiv (i64 (l - 1)) (2:Int)))),(ni q)]⟩ r fun t=>
 Cl Pg [] a7 ⟨[(.pointer a),(ni l),(ni o)]⟩ t fun u=>
 j (i64 (Int.tdiv (i64 (l - 1)) (2:Int))) u∧k (i64 (Int.tdiv (i64 (l - 1)) (2:Int))) u<k l m))
 (R m)):Cl Pg [] eE ⟨[(.pointer a),(ni b)]⟩ w R:=co Tryz.f302 [(6,[(4,kI)])] h
theorem qq.ok (a:(Option Addr)) (b:Int) (c:Int) (R:World→Prop) w (h:
 aK w fun d=>
 ar a fun e=>
 Ld kP (e.add 0) d fun f=>
 ar a fun g=>
 Ld (.st [.int .i64,.int .i64]) (g.add 3) d fun h=>
 Cl Pg [kB] fu ⟨[(.pointer f),(.agg ⟨[(ni h.1),(ni h.2.1)]⟩),(ni b),(.int .u32 (u32 c))]⟩ d fun (j:Bool) i=>
 R i):Cl Pg [] a7 ⟨[(.pointer a),(ni b),(ni c)]⟩ w R:=co Tryz.f303 [] h
theorem pd.ok (a:(Option Addr)) (b:Int) (R:World→Prop) w (h:
 da b w fun c d (e:Int) f=>
 bD (fun (p:Int) (q:World)=>
 ar a fun r=>
 Ld kI (r.add 5) q fun (s:Int)=>
 aa (decide (p≥s))
 (R q)
 (Cl Pg [kI] aM ⟨[(.pointer a),(ni e)]⟩ q fun (u:Int) t=>
 Cl Pg [kI] aM ⟨[(.pointer a),(ni p)]⟩ t fun (x:Int) v=>
 Cl Pg [kB] bp ⟨[(.pointer a),(ni u),(ni x)]⟩ v fun (z:Bool) y=>
 aa (!z)
 (R y)
 (Cl Pg [kI] aM ⟨[(.pointer a),(ni e)]⟩ y fun (b1:Int) a1=>
 Cl Pg [kI] aM ⟨[(.pointer a),(ni p)]⟩ a1 fun (d1:Int) c1=>
 Cl Pg [] a7 ⟨[(.pointer a),(ni e),(ni d1)]⟩ c1 fun e1=>
 Cl Pg [] a7 ⟨[(.pointer a),(ni p),(ni b1)]⟩ e1 fun f1=>
 c p f1∧d p f1<d e f))) fun g=>
 ar a fun h=>
 Ld kI (h.add 5) f fun (i:Int)=>
 aa (decide ((i64 ((i64 ((i64 ((2:Int)*e))+1))+1))<i))
 (Cl Pg [kI] aM ⟨[(.pointer a),(ni (i64 ((i64 ((2:Int)*e))+1)))]⟩ f fun (k:Int) j=>
 Cl Pg [kI] aM ⟨[(.pointer a),(ni (i64 ((i64 ((i64 ((2:Int)*e))+1))+1)))]⟩ j fun (m:Int) l=>
 Cl Pg [kB] bp ⟨[(.pointer a),(ni k),(ni m)]⟩ l fun (o:Bool) n=>
 aa o
 (g (i64 ((i64 ((i64 ((2:Int)*e))+1))+1)) n)
 (g (i64 ((i64 ((2:Int)*e))+1)) n))
 (g (i64 ((i64 ((2:Int)*e))+1)) f)):Cl Pg [] cZ ⟨[(.pointer a),(ni b)]⟩ w R:=co Tryz.f304 [(0,[(1,kI)]),(3,[(4,kI)])] h
end Go.Proofs.YtgglghjnakclmaaGreat
set_option maxRecDepth 20000
namespace Go.Vc
open Go
def wp (f:Nat→Nat) (P:Nat):Nat→Nat
 |0=>0
 |k+1=>wp f P k+f (P+k)*256^k
theorem Ig {f:Nat→Nat} (h: ∀i,f i<256) (P:Nat): ∀k,wp f P k<256^k
 |0=>by simp [wp]
 |k+1=>by
  have h1:=Ig h P k
  have h2:f (P+k)*256^k≤255*256^k:=Nat.mul_le_mul_right _ (by have:=h (P+k);omega)
  rw [wp,Nat.pow_succ];omega
theorem Jq (f:Nat→Nat) (P:Nat):wp f P 4=fg f P:=by
 simp only [wp,fg,Nat.add_zero,Nat.pow_zero,Nat.mul_one,Nat.zero_add,Nat.pow_one]
 rw [show (256^2:Nat)=65536 from rfl,show (256^3:Nat)=16777216 from rfl]
 omega
theorem JA {v x k:Nat} (hv:v<256^k) (hx:x<256) (hk:k<4):q8 .u32 (v:Int) (eA .u32 (u32 (x:Int)) (i64 ((8:Int)*(k:Int))))=((v+x*256^k:Nat):Int):=by
 have hm:IntKind.max .u32=4294967295:=rfl
 have hp:(256:Nat)^k=2^(8*k):=by rw [Nat.pow_mul]
 have hb:x*256^k≤255*16777216:=Nat.mul_le_mul (by omega) (by
  have:256^k≤256^3:=Nat.pow_le_pow_right (by decide) (by omega)
  exact this)
 have hvb:v<16777216:=Nat.lt_of_lt_of_le hv (by
  have:256^k≤256^3:=Nat.pow_le_pow_right (by decide) (by omega)
  exact this)
 rw [eS (by omega),ae (by omega),show (8:Int)*(k:Int)=((8*k:Nat):Int) by omega,kU (by show 8*k≤32;omega) (by rw [hm,←hp];omega),←hp]
 have e:v|||x*256^k=v+x*256^k:=by
  rw [hp] at hv⊢
  rw [Nat.or_comm,Nat.mul_comm x,←Nat.two_pow_add_eq_or_of_lt hv,Nat.add_comm]
 rw [wJ (by rw [hm];omega) (by rw [hm];omega) (by rw [hm,e];omega),e]
theorem Gq {v k:Nat} (_hv:v<4294967296) (hk:k<4):u8 (aN .u32 (v:Int) (i64 ((8:Int)*(k:Int))))=(((c6 v).getD k 0:Nat):Int):=by
 rw [ae (by omega),show (8:Int)*(k:Int)=((8*k:Nat):Int) by omega,cG (by show 8*k≤32;omega),pv]
 match k,hk with
 |0,_=>simp [c6]
 |1,_=>simp [c6]
 |2,_=>simp [c6]
 |3,_=>simp [c6]
theorem DZ {f:Nat→Nat} {p x:Nat} {b:List Nat}:cP (eD f p b) (p+b.length) x=eD f p (b++ [x]):=by
 funext j
 by_cases h1:j=p+b.length
 ·subst h1
  rw [jO (b:=b++ [x]) (by simp)]
  simp [cP,List.getD]
 ·unfold cP
  rw [if_neg h1]
  by_cases h2:p≤j∧j<p+b.length
  ·obtain ⟨i,rfl⟩: ∃i,j=p+i:=⟨j - p,by omega⟩
   rw [jO (by omega),jO (by simp;omega)]
   simp [List.getD,List.getElem?_append_left (show i<b.length by omega)]
  ·rw [fJ h2,fJ (by simp;omega)]
theorem Hu (f:Nat→Nat) (p:Nat):eD f p []=f:=by funext j;rw [fJ (by simp)]
theorem CF (v:Nat): ∀x∈c6 v,x<256:=by
 intro x hx
 simp only [c6,List.mem_cons,List.not_mem_nil,or_false] at hx
 omega
end Go.Vc
namespace Go.Proofs.YtgglghjnakclmaaGreat
open Go Go.Vc
section
variable {E w:World} {F:List HP} {A:AS} {f:Nat→Nat}
theorem yp {p q i:Nat} {K:Sl→World→Prop} (h:Hp E w (Ar A f::F)) (hin:p+q≤A.live) (hi:4*i+4≤q) (hK: ∀w',Hp E w' (Ar A f::F)→K ⟨some ⟨A.m,p+4*i,none⟩,4,4⟩ w'):
  Cl Tryz.prog [kS] eV ⟨[pA A,j7 p q,.int .i64 (i:Int)]⟩ w K:=by
 refine uu.ok _ ((p:Int),(q:Int),()) _ _ _ ?_
 dsimp only
 obtain ⟨ok,_⟩:=Ar.cO h
 have h1:=ok.le;have h2:=ok.bZ
 refine Nw.mk h fun b w h=>aa.df (by omega) (aa.df (by omega) (Ld.xt h rfl ⟨by decide,?_⟩))
 have hm:IntKind.max .i64=9223372036854775807:=rfl
 have e:eA .i64 (i:Int) (2:Int)=((4*i:Nat):Int):=by
  have:=kU (k:= .i64) (a:=i) (b:=2) (by decide) (by rw [hm];omega)
  rw [show (2:Int)=((2:Nat):Int) from rfl,this]
  omega
 rw [e]
 refine tH (n:=4) (h.at 1) hin (by omega) (by omega) (fun j hj hjq w h=> ?_) (fun hn w h=>absurd ⟨by omega,by omega⟩ hn)
 obtain rfl:4*i=j:=by omega
 exact hK w (h.no 1)
theorem Gg {p q i:Nat} {K:Int→Bool→World→Prop} (h:Hp E w (Ar A f::F)) (hin:p+q≤A.live) (hi:4*i+4≤q) (hK: ∀w',Hp E w' (Ar A f::F)→K (fg f (p+4*i):Int) true w'):
  Cl Tryz.prog [aq .u32,kB] hJ ⟨[pA A,j7 p q,.int .i64 (i:Int)]⟩ w K:=by
 refine tN.ok _ ((p:Int),(q:Int),()) _ _ _ ?_
 dsimp only
 refine Nw.mk h fun b w h=>Ld.xt h rfl ?_
 refine yp (h.at 1) hin hi fun w h=> ?_
 have h:=h.no 1
 refine ⟨fun v t w=> ∃k:Nat,t=(k:Int)∧k≤4∧v=(wp f (p+4*i) k:Int)∧Hp E w (Ar A f::F),fun _ t _=>4 - t.toNat,⟨0,rfl,by omega,rfl,h⟩,?_⟩
 rintro v t w ⟨k,rfl,hk,rfl,h⟩
 refine aa.dm (fun hlt=> ?_) (fun hge=> ?_)
 ·dsimp only at hlt
  have hlt:k<4:=by omega
  refine an.mk rfl (by omega) (by dsimp only;omega) ?_
  obtain ⟨ok,h⟩:=Ar.cO h
  have h1:=ok.le
  rw [Int.toNat_natCast,Nat.mul_one,al]
  refine Ld.xb h (wg (by omega)) ⟨by rw [ae (by omega)];omega,?_⟩
  rw [JA (Ig ok.byt _ _) (ok.byt _) hlt]
  refine ⟨⟨k+1,by rw [ae (by omega)];omega,by omega,rfl,Ar.shut ok h⟩,by rw [ae (by omega)];first|omega|(dsimp only;omega)⟩
 ·dsimp only at hge
  obtain rfl:k=4:=by omega
  rw [Jq]
  exact hK w h
theorem A5 {p q i v:Nat} {K:Bool→World→Prop} (h:Hp E w (Ar A f::F)) (hin:p+q≤A.live) (hi:4*i+4≤q) (hv:v<4294967296) (hK: ∀w',Hp E w' (Ar A (eD f (p+4*i) (c6 v))::F)→K true w'):
  Cl Tryz.prog [kB] fu ⟨[pA A,j7 p q,.int .i64 (i:Int),.int .u32 (v:Int)]⟩ w K:=by
 refine ri.ok _ ((p:Int),(q:Int),()) _ _ _ _ ?_
 dsimp only
 refine Nw.mk h fun b w h=>Ld.xt h rfl ?_
 refine yp (h.at 1) hin hi fun w h=> ?_
 have h:=h.no 1
 have hl4:=p6 v
 refine ⟨fun t w=> ∃k:Nat,t=(k:Int)∧k≤4∧Hp E w (Ar A (eD f (p+4*i) ((c6 v).take k))::F),fun t _=>4 - t.toNat,⟨0,rfl,by omega,by rw [List.take_zero,Hu];exact h⟩,?_⟩
 rintro t w ⟨k,rfl,hk,h⟩
 refine aa.dm (fun hlt=> ?_) (fun hge=> ?_)
 ·dsimp only at hlt
  have hlt:k<4:=by omega
  refine ⟨by rw [ae (by omega)];omega,an.mk rfl (by omega) (by dsimp only;omega) ?_⟩
  obtain ⟨ok,h⟩:=Ar.cO h
  have h1:=ok.le
  rw [Int.toNat_natCast,Nat.mul_one,al,Gq hv hlt]
  refine St.xb h (by rw [nG];omega) rfl fun w h=> ?_
  rw [Cs] at h
  have e:cP (eD f (p+4*i) ((c6 v).take k)) (p+4*i+k) ((c6 v).getD k 0)=eD f (p+4*i) ((c6 v).take (k+1)):=by
   have:=DZ (f:=f) (p:=p+4*i) (x:=(c6 v).getD k 0) (b:=(c6 v).take k)
   rw [List.length_take,Nat.min_eq_left (by omega)] at this
   rw [this,List.take_add_one,List.getElem?_eq_getElem (by omega),List.getD_eq_getElem?_getD,List.getElem?_eq_getElem (by omega)]
   rfl
  rw [e] at h
  refine ⟨⟨k+1,by rw [ae (by omega)];omega,by omega,Ar.shut (ok.bk ?_) h⟩,by rw [ae (by omega)];first|omega|(dsimp only;omega)⟩
  rw [←e]
  exact zS ok.byt (by rw [List.getD_eq_getElem?_getD,List.getElem?_eq_getElem (by omega)];exact CF v _ (List.getElem_mem _))
 ·dsimp only at hge
  obtain rfl:k=4:=by omega
  rw [List.take_of_length_le (by omega)] at h
  exact hK w h
end
end Go.Proofs.YtgglghjnakclmaaGreat
set_option maxRecDepth 20000
namespace Go.Rk
variable {α:Type}
structure ep (lt:α→α→Bool) (k:Nat) (L M:List α):Prop where
 sub: ∃R,L.Perm (M++R)∧∀x∈M,∀y∈R,lt y x=false
 len:M.length=min k L.length
theorem ep.nil (lt:α→α→Bool) (k:Nat):ep lt k ([]:List α) []:=⟨⟨[],List.Perm.refl _,fun x hx=>by cases hx⟩,by simp⟩
theorem ep.perm {lt:α→α→Bool} {k:Nat} {L M M':List α} (h:ep lt k L M) (hp:M'.Perm M):ep lt k L M':=by
 obtain ⟨R,h1,h2⟩:=h.sub
 exact ⟨⟨R,h1.trans (hp.symm.append_right R),fun x hx y hy=>h2 x (hp.mem_iff.1 hx) y hy⟩,by rw [hp.length_eq,h.len]⟩
theorem ep.room {lt:α→α→Bool} {k:Nat} {L M:List α} (h:ep lt k L M) (hk:M.length<k) (x:α):ep lt k (L++ [x]) (M++ [x]):=by
 obtain ⟨R,h1,h2⟩:=h.sub
 have hl:=h.len
 have hlen:L.length=M.length:=by omega
 have hR:R= []:=by
  have:=h1.length_eq
  rw [List.length_append] at this
  exact List.length_eq_zero_iff.1 (by omega)
 subst hR
 refine ⟨⟨[],by simpa using (List.Perm.append_right [x] (by simpa using h1)),fun a _ b hb=>by cases hb⟩,by simp;omega⟩
theorem ep.swap {lt:α→α→Bool} (ho:SO lt) {k:Nat} {L M:List α} {m x:α} (h:ep lt k L (m::M)) (hmax: ∀y∈M,lt m y=false) (hk:(m::M).length=k) (hx:lt x m=true):ep lt k (L++ [x]) (x::M):=by
 obtain ⟨R,h1,h2⟩:=h.sub
 have hl:=h1.length_eq
 refine ⟨⟨m::R,?_,fun a ha b hb=> ?_⟩,?_⟩
 ·refine (h1.append_right [x]).trans ?_
  refine List.perm_append_comm.trans ?_
  show (x::(m::M++R)).Perm (x::(M++m::R))
  exact List.Perm.cons x List.perm_middle.symm
 ·rcases List.mem_cons.1 ha with ea|ea
  ·subst ea
   rcases List.mem_cons.1 hb with eb|eb
   ·subst eb;exact ho.sb hx
   ·cases hq:lt b a with
    |false=>rfl
    |true=>
     have:=ho.trans _ _ _ hq hx
     rw [h2 m List.mem_cons_self b eb] at this;cases this
  ·rcases List.mem_cons.1 hb with eb|eb
   ·subst eb;exact hmax a ea
   ·exact h2 a (List.mem_cons_of_mem _ ea) b eb
 ·rw [List.length_append] at hl
  rw [List.length_cons] at hk hl⊢
  rw [List.length_append,List.length_singleton]
  omega
theorem ep.iB {lt:α→α→Bool} (ho:SO lt) {k:Nat} {L M:List α} {m x:α} (h:ep lt k L M) (hm:m∈M) (hmax: ∀y∈M,lt m y=false) (hk:M.length=k) (hx:lt x m=false):ep lt k (L++ [x]) M:=by
 obtain ⟨R,h1,h2⟩:=h.sub
 have hl:=h1.length_eq
 refine ⟨⟨R++ [x],by rw [←List.append_assoc];exact h1.append_right [x],fun a ha b hb=> ?_⟩,?_⟩
 ·rcases List.mem_append.1 hb with eb|eb
  ·exact h2 a ha b eb
  ·rw [List.mem_singleton] at eb
   subst eb
   exact ho.ntrans _ _ _ hx (hmax a ha)
 ·rw [List.length_append] at hl
  rw [List.length_append,List.length_singleton]
  omega
end Go.Rk
namespace Go.Rk
section
variable {α:Type} {lt:α→α→Bool}
end
end Go.Rk
set_option maxRecDepth 20000
namespace Go.Rk
section
variable {α:Type} {lt:α→α→Bool}
def sw (f:Nat→α) (i k:Nat):Nat→α:=fun j=>if j=i then f k else if j=k then f i else f j
def gu (lt:α→α→Bool) (f:Nat→α) (n:Nat):Prop:= ∀j,j<n→0<j→lt (f ((j - 1)/2)) (f j)=false
structure ru (lt:α→α→Bool) (f:Nat→α) (n i:Nat):Prop where
 rest: ∀j,j<n→0<j→j≠i→lt (f ((j - 1)/2)) (f j)=false
 kids:0<i→∀j,j<n→0<j→(j - 1)/2=i→lt (f ((i - 1)/2)) (f j)=false
theorem ru.zero {f:Nat→α} {n:Nat} (h:ru lt f n 0):gu lt f n:=fun j hj h0=>h.rest j hj h0 (by omega)
theorem ru.done {f:Nat→α} {n i:Nat} (h:ru lt f n i) (hi:lt (f ((i - 1)/2)) (f i)=false):gu lt f n:=fun j hj h0=>by
 by_cases e:j=i
 ·subst e;exact hi
 ·exact h.rest j hj h0 e
theorem ru.new {f:Nat→α} {n:Nat} (h:gu lt f n):ru lt f (n+1) n:=⟨fun j hj h0 hne=>h j (by omega) h0,fun h0 j hj hj0 e=>by omega⟩
theorem ru.step (ho:SO lt) {f:Nat→α} {n i:Nat} (h:ru lt f n i) (hn:i<n) (hi:0<i) (hl:lt (f ((i - 1)/2)) (f i)=true):ru lt (sw f ((i - 1)/2) i) n ((i - 1)/2):=by
 generalize hu:(i - 1)/2=u at*
 have hui:u≠i:=by omega
 have hui':i≠u:=by omega
 have yx:=ho.sb hl
 have su:sw f u i u=f i:=by simp [sw]
 have si:sw f u i i=f u:=by simp [sw,hui']
 have so: ∀j,j≠u→j≠i→sw f u i j=f j:=fun j h1 h2=>by simp [sw,h1,h2]
 refine ⟨fun j hj h0 hne=> ?_,fun hu0 j hj h0 e=> ?_⟩
 ·by_cases e:j=i
  ·subst e
   rw [hu,su,si];exact yx
  ·rw [so j hne e]
   by_cases e2:(j - 1)/2=i
   ·rw [e2,si]
    have:=h.kids hi j hj h0 e2
    rwa [hu] at this
   ·by_cases e3:(j - 1)/2=u
    ·rw [e3,su]
     have:=h.rest j hj h0 e
     rw [e3] at this
     exact ho.ntrans _ _ _ yx this
    ·rw [so _ e3 e2];exact h.rest j hj h0 e
 ·have hg:lt (f ((u - 1)/2)) (f u)=false:=h.rest u (by omega) hu0 hui
  rw [so ((u - 1)/2) (by omega) (by omega)]
  by_cases ei:j=i
  ·subst ei;rw [si];exact hg
  ·rw [so j (by omega) ei]
   have:=h.rest j hj h0 ei
   rw [e] at this
   exact ho.ntrans _ _ _ hg this
structure rv (lt:α→α→Bool) (f:Nat→α) (n i:Nat):Prop where
 rest: ∀j,j<n→0<j→(j - 1)/2≠i→lt (f ((j - 1)/2)) (f j)=false
 kids:0<i→∀j,j<n→0<j→(j - 1)/2=i→lt (f ((i - 1)/2)) (f j)=false
theorem rv.done {f:Nat→α} {n i:Nat} (h:rv lt f n i) (hi: ∀j,j<n→0<j→(j - 1)/2=i→lt (f i) (f j)=false):gu lt f n:=fun j hj h0=>by
 by_cases e:(j - 1)/2=i
 ·rw [e];exact hi j hj h0 e
 ·exact h.rest j hj h0 e
theorem rv.top {f g:Nat→α} {n:Nat} (h:gu lt f n) (hg: ∀j,0<j→j<n→g j=f j):rv lt g n 0:=⟨fun j hj h0 hne=>by rw [hg j h0 hj,hg ((j - 1)/2) (by omega) (by omega)];exact h j hj h0,fun h0=>by omega⟩
theorem rv.step (ho:SO lt) {f:Nat→α} {n i k:Nat} (h:rv lt f n i) (hk:k<n) (hk0:0<k) (hki:(k - 1)/2=i) (hmax: ∀j,j<n→0<j→(j - 1)/2=i→lt (f k) (f j)=false) (hl:lt (f i) (f k)=true):rv lt (sw f i k) n k:=by
 have hik:i≠k:=by omega
 have hki':k≠i:=by omega
 have yx:=ho.sb hl
 have si:sw f i k i=f k:=by simp [sw]
 have sk:sw f i k k=f i:=by simp [sw,hki']
 have so: ∀j,j≠i→j≠k→sw f i k j=f j:=fun j h1 h2=>by simp [sw,h1,h2]
 refine ⟨fun j hj h0 hne=> ?_,fun _ j hj h0 e=> ?_⟩
 ·by_cases e:(j - 1)/2=i
  ·rw [e,si]
   by_cases ej:j=k
   ·subst ej;rw [sk];exact yx
   ·rw [so j (by omega) ej];exact hmax j hj h0 e
  ·rw [so ((j - 1)/2) e hne]
   by_cases ei:j=i
   ·subst ei
    rw [si]
    exact h.kids h0 k hk hk0 hki
   ·by_cases ek:j=k
    ·subst ek;exact absurd hki e
    ·rw [so j ei ek];exact h.rest j hj h0 e
 ·rw [hki,si,so j (by omega) (by omega)]
  have:=h.rest j hj h0 (by omega)
  rwa [e] at this
end
end Go.Rk
set_option maxRecDepth 20000
namespace Go.Rk
section
variable {α:Type} {lt:α→α→Bool}
def mp (f:Nat→α) (n:Nat):List α:=(List.range n).map f
theorem nv (f:Nat→α) (n:Nat):(mp f n).length=n:=by simp [mp]
theorem zt {f:Nat→α} {n i:Nat} (h:i<n):(mp f n)[i]'(by rw [nv];exact h)=f i:=by simp [mp]
theorem Jj (f:Nat→α) (n:Nat):mp f (n+1)=mp f n++ [f n]:=by simp [mp,List.range_succ]
theorem ec {f:Nat→α} {n:Nat} {x:α}:x∈mp f n↔∃i,i<n∧f i=x:=by simp [mp]
theorem Eb {f g:Nat→α} {n:Nat} (h: ∀i,i<n→f i=g i):mp f n=mp g n:=List.map_congr_left fun i hi=>h i (List.mem_range.1 hi)
theorem CB (f:Nat→α) (n:Nat):mp f (n+1)=f 0::mp (fun i=>f (i+1)) n:=by
 unfold mp
 rw [List.range_succ_eq_map,List.map_cons,List.map_map]
 rfl
theorem wx {f:Nat→α} {n i k:Nat} (hi:i<n) (hk:k<n):(mp (sw f i k) n).Perm (mp f n):=by
 have h1:mp (sw f i k) n=((List.range n).map fun j=>if j=i then k else if j=k then i else j).map f:=by
  unfold mp
  rw [List.map_map]
  refine List.map_congr_left fun j _=> ?_
  simp only [sw,Function.comp]
  split
  ·rfl
  ·split<;>rfl
 rw [h1]
 refine List.Perm.map f ((List.perm_ext_iff_of_nodup ?_ List.nodup_range).2 fun x=> ?_)
 ·refine List.Pairwise.map _ (fun a b hab h=>hab ?_) List.nodup_range
  split at h<;>split at h<;>(try split at h)<;>(try split at h)<;>omega
 ·rw [List.mem_map]
  constructor
  ·rintro ⟨a,ha,rfl⟩
   rw [List.mem_range] at ha⊢
   split
   ·exact hk
   ·split
    ·exact hi
    ·exact ha
  ·intro hx
   rw [List.mem_range] at hx
   by_cases e1:x=i
   ·exact ⟨k,List.mem_range.2 hk,by subst e1;by_cases e:k=x<;>simp [e]⟩
   ·by_cases e2:x=k
    ·exact ⟨i,List.mem_range.2 hi,by simp [e2]⟩
    ·exact ⟨x,List.mem_range.2 hx,by simp [e1,e2]⟩
theorem DF (ho:SO lt) {f:Nat→α} {n:Nat} (h:gu lt f n): ∀k j,j≤k→j<n→lt (f 0) (f j)=false
 |0,j,hk,_=>by rw [show j=0 by omega];exact ho.irr _
 |k+1,j,hk,hj=>by
  by_cases e:j=0
  ·subst e;exact ho.irr _
  ·exact ho.ntrans _ _ _ (DF ho h k ((j - 1)/2) (by omega) (by omega)) (h j hj (by omega))
theorem Aq (ho:SO lt) {k:Nat} {L M T:List α} (hl:ep lt k L M) (hLT:L.Perm T) (hT:T.Pairwise fun a b=>lt a b=true) (hM:M.Pairwise fun a b=>lt b a=false) (htot: ∀x∈T,∀y∈T,x≠y→lt x y=true∨lt y x=true):M=T.take k:=by
 obtain ⟨R,h1,h2⟩:=hl.sub
 have hlen:=hl.len
 have hTM:T.Perm (M++R):=hLT.symm.trans h1
 have hnd:T.Nodup:=hT.imp fun {a b} h e=>by subst e;rw [ho.irr] at h;cases h
 have hndM:(M++R).Nodup:=hTM.nodup_iff.1 hnd
 have hmem: ∀x∈M++R,x∈T:=fun x hx=>hTM.mem_iff.2 hx
 have hMs:M.Pairwise fun a b=>lt a b=true:=by
  have hn:=(List.nodup_append.1 hndM).1
  refine (hM.and hn).imp_of_mem fun {a b} ha hb h=> ?_
  rcases htot a (hmem a (List.mem_append_left _ ha)) b (hmem b (List.mem_append_left _ hb)) h.2 with q|q
  ·exact q
  ·rw [h.1] at q;cases q
 have hR: ∀x∈M,∀y∈R,lt x y=true:=fun x hx y hy=>by
  have hne:x≠y:=fun e=>(List.nodup_append.1 hndM).2.2 x hx y hy e
  rcases htot x (hmem x (List.mem_append_left _ hx)) y (hmem y (List.mem_append_right _ hy)) hne with q|q
  ·exact q
  ·rw [h2 x hx y hy] at q;cases q
 have hndR:R.Nodup:=(List.nodup_append.1 hndM).2.1
 have hRt:zh lt R:=fun x hx y hy e=>htot x (hmem x (List.mem_append_right _ hx)) y (hmem y (List.mem_append_right _ hy)) e
 have hall:T=M++qU lt R:=by
  refine oe ho (hTM.trans (List.Perm.append_left M (cI R).symm)) hT (List.pairwise_append.2 ⟨hMs,mu ho hndR hRt,fun x hx y hy=>hR x hx y ((cI R).mem_iff.1 hy)⟩)
 rw [hall]
 have hk:M.length=min k T.length:=by rw [hlen,hLT.length_eq]
 have hTl:T.length=M.length+R.length:=by rw [hTM.length_eq,List.length_append]
 by_cases hkl:k≤T.length
 ·rw [List.take_append_of_le_length (by omega),List.take_of_length_le (by omega)]
 ·have:R= []:=List.length_eq_zero_iff.1 (by omega)
  subst this
  rw [show qU lt ([]:List α)= [] from List.length_eq_zero_iff.1 (wN _),List.append_nil,List.take_of_length_le (by omega)]
end
end Go.Rk
namespace Go.Bw
open Go.Rk
theorem Bl {x:List Nat} {r:Nat} (h0:0<r) (hr:r≤x.length+1) (last:Nat) (hl:(aZ x)[r - 1]? =some last):((rows x).filter fun e=>sl x last e).Perm ((aZ x).drop r):=by
 have hp:((rows x).filter fun e=>sl x last e).Perm ((aZ x).filter fun e=>sl x last e):=((cI (lt:=sl x) (rows x)).symm.filter _)
 refine hp.trans ?_
 have hs:=iP x
 have hlen:=gV x
 have hlt:r - 1<(aZ x).length:=by omega
 have hgl:(aZ x)[r - 1]=last:=by rw [List.getElem?_eq_getElem hlt] at hl;exact Option.some.inj hl
 rw [←List.take_append_drop r (aZ x),List.filter_append]
 have e1:((aZ x).take r).filter (fun e=>sl x last e)= []:=by
  rw [List.filter_eq_nil_iff]
  intro a ha
  obtain ⟨i,hi,rfl⟩:=List.mem_iff_getElem.1 ha
  rw [List.length_take] at hi
  rw [List.getElem_take,←hgl]
  by_cases e:i=r - 1
  ·subst e;rw [(dr x).irr];decide
  ·have:=List.pairwise_iff_getElem.1 hs i (r - 1) (by omega) hlt (by omega)
   rw [(dr x).sb this];decide
 have e2:((aZ x).drop r).filter (fun e=>sl x last e)=(aZ x).drop r:=by
  rw [List.filter_eq_self]
  intro a ha
  obtain ⟨i,hi,rfl⟩:=List.mem_iff_getElem.1 ha
  rw [List.length_drop] at hi
  rw [List.getElem_drop,←hgl]
  exact List.pairwise_iff_getElem.1 hs (r - 1) (r+i) hlt (by omega) (by omega)
 rw [e1,e2,List.nil_append,List.take_append_drop]
end Go.Bw
set_option maxRecDepth 20000
namespace Go.Srt
def Ky (key:Int→Int) (x y:Int):Prop:=key x<key y∨(key x=key y∧x<y)
theorem Ky.trans {key:Int→Int} {x y z:Int} (h:Ky key x y) (h2:Ky key y z):Ky key x z:=by
 unfold Ky at*;omega
abbrev Sd (key:Int→Int) (l:List Int):Prop:=l.Pairwise (Ky key)
theorem pG {α:Type} (P Q:List α) (x y:α):(P++x::Q).set P.length y=P++y::Q:=by
 rw [List.set_append_right _ _ (Nat.le_refl _)];simp
theorem H6 {α:Type} (P Q:List α) (x:α) (h:P.length<(P++x::Q).length):(P++x::Q)[P.length]=x:=by
 rw [List.getElem_append_right (Nat.le_refl _)];simp
end Go.Srt
namespace Go.Proofs.YtgglghjnakclmaaGreat
open Go Go.Vc Go.Srt
section
variable {E w:World} {F:List HP}
theorem G9 {s:Sl} {xs:List Int} {i j:Int} {K:World→Prop} (h:Hp E w (aj 1 s (xs.map vI)::F)) (hi0:0≤i) (hi:i.toNat<xs.length) (hj0:0≤j) (hj:j.toNat<xs.length)
  (hK: ∀w',Hp E w' (aj 1 s (((xs.set i.toNat xs[j.toNat]).set j.toNat xs[i.toNat]).map vI)::F)→K w'):
  an s j 1 fun q=>Ld kI q w fun x=>an s i 1 fun q'=>Ld kI q' w fun y=>an s i 1 fun q2=>St q2 (.int .i64 x) w fun w1=>an s j 1 fun q3=>St q3 (.int .i64 y) w1 K:=by
 have hl:=h.aV
 simp only [List.length_map,Nat.mul_one] at hl
 refine an.rd (h.ag ad.own) hj0 (by omega) fun q hq hc=> ?_
 refine Ld.sc (s:= .int .i64) xs[j.toNat] (by rw [hc];simp [vI]) ?_
 refine an.rd (h.ag ad.own) hi0 (by omega) fun q' hq' hc'=> ?_
 refine Ld.sc (s:= .int .i64) xs[i.toNat] (by rw [hc'];simp [vI]) ?_
 refine St.own h hi0 (by omega) rfl fun w1 h1=> ?_
 refine St.own h1 hj0 (by omega) rfl fun w2 h2=>hK _ ?_
 rw [List.map_set,List.map_set]
 exact h2
theorem Iv {s:Sl} {P Q:List Int} {x y:Int} {i j:Int} {K:World→Prop} (h:Hp E w (aj 1 s ((P++x::y::Q).map vI)::F)) (hi:i=(P.length:Int)) (hj:j=(P.length:Int)+1)
  (hK: ∀w',Hp E w' (aj 1 s ((P++y::x::Q).map vI)::F)→K w'):
  an s j 1 fun q=>Ld kI q w fun x=>an s i 1 fun q'=>Ld kI q' w fun y=>an s i 1 fun q2=>St q2 (.int .i64 x) w fun w1=>an s j 1 fun q3=>St q3 (.int .i64 y) w1 K:=by
 refine G9 h (by omega) (by simp;omega) (by omega) (by simp;omega) fun w' h'=>hK _ ?_
 have e1:i.toNat=P.length:=by omega
 have e2:j.toNat=(P++ [x]).length:=by simp;omega
 have g1:(P++x::y::Q)[i.toNat]'(by simp;omega)=x:=by simp only [e1];exact H6 _ _ _ _
 have g2:(P++x::y::Q)[j.toNat]'(by simp;omega)=y:=by
  have:=H6 (P++ [x]) Q y (by simp)
  simp only [e2];simp
 rw [g1,g2,e1,pG,e2,show (P++y::y::Q)=(P++ [y])++y::Q by simp,show (P++ [x]).length=(P++ [y]).length by simp,pG] at h'
 simpa using h'
theorem BP {s:Sl} {P Q:List Int} {x y:Int} {i j:Int} {K:World→Prop} (h:Hp E w (aj 1 s ((P++x::y::Q).map vI)::F)) (hi:i=(P.length:Int)) (hj:j=(P.length:Int)+1)
  (hK: ∀w',Hp E w' (aj 1 s ((P++y::x::Q).map vI)::F)→K w'):
  an s i 1 fun q=>Ld kI q w fun x=>an s j 1 fun q'=>Ld kI q' w fun y=>an s j 1 fun q2=>St q2 (.int .i64 x) w fun w1=>an s i 1 fun q3=>St q3 (.int .i64 y) w1 K:=by
 refine G9 h (by omega) (by simp;omega) (by omega) (by simp;omega) fun w' h'=>hK _ ?_
 have e1:i.toNat=P.length:=by omega
 have e2:j.toNat=(P++ [x]).length:=by simp;omega
 have g1:(P++x::y::Q)[i.toNat]'(by simp;omega)=x:=by simp only [e1];exact H6 _ _ _ _
 have g2:(P++x::y::Q)[j.toNat]'(by simp;omega)=y:=by
  have:=H6 (P++ [x]) Q y (by simp)
  simp only [e2];simp
 rw [g1,g2,e2,show (P++x::y::Q)=(P++ [x])++y::Q by simp,pG,e1,show (P++ [x])++x::Q=P++x::x::Q by simp,pG] at h'
 simpa using h'
theorem zW {s:Sl} {P A C B Q:List Int} {fv:Value} {a b n:Int} {K:World→Prop} (h:Hp E w (aj 1 s ((P++A++C++B++Q).map vI)::F)) (hab:A.length=B.length) (hbig:(P++A++C++B++Q).length≤bZ)
  (ha:a=(P.length:Int)) (hb:b=((P++A++C).length:Int)) (hn:n=(A.length:Int)) (hK: ∀w',Hp E w' (aj 1 s ((P++B++C++A++Q).map vI)::F)→K w'):
  Cl Tryz.prog [] bB ⟨[.slice s.base s.len s.cap,.int .i64 a,.int .i64 b,.int .i64 n,fv]⟩ w K:=by
 subst ha;subst hb;subst hn
 refine lj.ok _ _ _ _ _ _ _ ?_
 rw [aA] at hbig
 simp only [List.length_append] at hbig
 refine ⟨fun i w'=> ∃k:Nat,i=(k:Int)∧k≤A.length∧Hp E w' (aj 1 s ((P++(B.take k++A.drop k)++C++(A.take k++B.drop k)++Q).map vI)::F),fun i _=>A.length - i.toNat,⟨0,rfl,by omega,by simpa using h⟩,?_⟩
 rintro i w' ⟨k,rfl,hk,hh⟩
 refine aa.mk (fun hlt=> ?_) (fun hge=> ?_)
 ·have hlt:k<A.length:=by have:=of_decide_eq_true hlt;omega
  refine aK.mk hh fun w1 h1=> ?_
  simp only [List.length_append]
  rw [ae (x:=((P.length+A.length+C.length:Nat):Int)+(k:Int)) (by omega),ae (x:=(P.length:Int)+(k:Int)) (by omega)]
  have hkB:k<B.length:=by omega
  refine G9 h1 (by omega) (by simp;omega) (by omega) (by simp;omega) fun w2 h2=> ?_
  rw [ae (by omega)]
  refine ⟨⟨k+1,rfl,by omega,?_⟩,by omega⟩
  have e1:((P.length:Int)+(k:Int)).toNat=P.length+k:=by omega
  have e2:(((P.length+A.length+C.length:Nat):Int)+(k:Int)).toNat=P.length+A.length+C.length+k:=by omega
  have dA:A.drop k=A[k]::A.drop (k+1):=(List.drop_eq_getElem_cons hlt)
  have dB:B.drop k=B[k]::B.drop (k+1):=(List.drop_eq_getElem_cons hkB)
  have tA:A.take (k+1)=A.take k++ [A[k]]:=by rw [List.take_add_one,List.getElem?_eq_getElem hlt];rfl
  have tB:B.take (k+1)=B.take k++ [B[k]]:=by rw [List.take_add_one,List.getElem?_eq_getElem hkB];rfl
  have X:P++(B.take k++A.drop k)++C++(A.take k++B.drop k)++Q=(P++B.take k)++A[k]::(A.drop (k+1)++C++A.take k++B[k]::(B.drop (k+1)++Q)):=by rw [dA,dB];simp only [List.append_assoc,List.cons_append,List.nil_append]
  have l1:(P++B.take k).length=P.length+k:=by simp;omega
  have X2: ∀z,(P++B.take k)++z::(A.drop (k+1)++C++A.take k++B[k]::(B.drop (k+1)++Q))=(P++B.take k++z::(A.drop (k+1)++C++A.take k))++B[k]::(B.drop (k+1)++Q):=by intro z;simp only [List.append_assoc,List.cons_append,List.nil_append]
  have l2: ∀z:Int,(P++B.take k++z::(A.drop (k+1)++C++A.take k)).length=P.length+A.length+C.length+k:=by intro z;simp;omega
  have g1:(P++(B.take k++A.drop k)++C++(A.take k++B.drop k)++Q)[((P.length:Int)+(k:Int)).toNat]? =some A[k]:=by
   rw [X,e1,←l1,List.getElem?_append_right (Nat.le_refl _)];simp
  have g2:(P++(B.take k++A.drop k)++C++(A.take k++B.drop k)++Q)[(((P.length+A.length+C.length:Nat):Int)+(k:Int)).toNat]? =some B[k]:=by
   rw [X,X2,e2,←l2 A[k],List.getElem?_append_right (Nat.le_refl _)];simp
  have g1':=(List.getElem?_eq_some_iff.1 g1).2
  have g2':=(List.getElem?_eq_some_iff.1 g2).2
  rw [g1',g2',e1,e2,X] at h2
  rw [←l1,pG,X2,←l2 B[k],pG] at h2
  have Y:P++B.take k++B[k]::(A.drop (k+1)++C++A.take k)++A[k]::(B.drop (k+1)++Q)=P++(B.take (k+1)++A.drop (k+1))++C++(A.take (k+1)++B.drop (k+1))++Q:=by rw [tA,tB];simp only [List.append_assoc,List.cons_append,List.nil_append]
  rw [Y] at h2
  exact h2
 ·have hge:k=A.length:=by have:=of_decide_eq_false hge;omega
  subst hge
  refine hK _ ?_
  rw [List.drop_eq_nil_of_le (Nat.le_refl _),List.take_length,List.take_of_length_le (by omega),List.drop_eq_nil_of_le (by omega)] at hh
  simpa using hh
theorem HJ {s:Sl} {P A B Q:List Int} {fv:Value} {a m b:Int} {K:World→Prop} (h:Hp E w (aj 1 s ((P++A++B++Q).map vI)::F)) (hA:A≠ []) (hB:B≠ []) (hbig:(P++A++B++Q).length≤bZ)
  (ha:a=(P.length:Int)) (hm:m=((P++A).length:Int)) (hb:b=((P++A++B).length:Int)) (hK: ∀w',Hp E w' (aj 1 s ((P++B++A++Q).map vI)::F)→K w'):
  Cl Tryz.prog [] dz ⟨[.slice s.base s.len s.cap,.int .i64 a,.int .i64 m,.int .i64 b,fv]⟩ w K:=by
 subst ha;subst hm;subst hb
 refine nD.ok _ _ _ _ _ _ _ ?_
 have hbg:=hbig
 rw [aA] at hbig
 simp only [List.length_append] at hbig
 have hA1:=List.length_pos_iff.2 hA
 have hB1:=List.length_pos_iff.2 hB
 refine ⟨fun i j w'=> ∃P' A' B' Q':List Int,i=(A'.length:Int)∧j=(B'.length:Int)∧A'≠ []∧B'≠ []∧(P'++A').length=(P++A).length∧P'++B'++A'++Q'=P++B++A++Q∧Hp E w' (aj 1 s ((P'++A'++B'++Q').map vI)::F),
  fun i j _=>i.toNat+j.toNat,⟨P,A,B,Q,?_,?_,hA,hB,rfl,rfl,h⟩,?_⟩
 ·simp only [List.length_append];rw [ae (by omega)];omega
 ·simp only [List.length_append];rw [ae (by omega)];omega
 ·rintro i j w' ⟨P',A',B',Q',rfl,rfl,hA',hB',hm',htot,hh⟩
  have hA2:=List.length_pos_iff.2 hA'
  have hB2:=List.length_pos_iff.2 hB'
  have hlen:=congrArg List.length htot
  simp only [List.length_append] at hlen hm'⊢
  refine aa.mk (fun hne=>aa.mk (fun hgt=> ?_) (fun hle=> ?_)) (fun heq=> ?_)
  ·have hgt:=of_decide_eq_true hgt
   have hsp:A'.take B'.length++A'.drop B'.length=A':=List.take_append_drop _ _
   have ht:(A'.take B'.length).length=B'.length:=by simp;omega
   generalize A'.take B'.length=A1 at hsp ht
   generalize A'.drop B'.length=A2 at hsp
   subst hsp
   simp only [List.length_append] at hgt hlen hm' hA2⊢
   rw [ae (by omega),ae (by omega)]
   refine zW (P:=P') (A:=A1) (C:=A2) (B:=B') (Q:=Q') (by simpa using hh) ht (by rw [aA];simp only [List.length_append];omega) (by omega) (by simp only [List.length_append];omega) (by omega) fun w2 h2=> ?_
   refine ⟨⟨P'++B',A2,A1,Q',by omega,by omega,?_,?_,by simp only [List.length_append];omega,by rw [←htot];simp only [List.append_assoc],by simpa using h2⟩,by omega⟩
   ·intro h0;rw [h0] at hgt;simp at hgt;omega
   ·intro h0;rw [h0] at ht;simp at ht;omega
  ·have hle:=of_decide_eq_false hle
   have hne: ¬(A'.length:Int)=(B'.length:Int):=by simpa using hne
   have hsp:B'.take (B'.length - A'.length)++B'.drop (B'.length - A'.length)=B':=List.take_append_drop _ _
   have ht:(B'.drop (B'.length - A'.length)).length=A'.length:=by simp;omega
   generalize B'.take (B'.length - A'.length)=B1 at hsp
   generalize B'.drop (B'.length - A'.length)=B2 at hsp ht
   subst hsp
   simp only [List.length_append] at hle hlen hne hB2⊢
   simp (disch:=omega) only [ae]
   refine zW (P:=P') (A:=A') (C:=B1) (B:=B2) (Q:=Q') (by simpa using hh) ht.symm (by rw [aA];simp only [List.length_append];omega) (by omega) (by simp only [List.length_append];omega) rfl fun w2 h2=> ?_
   refine ⟨⟨P',B2,B1,A'++Q',by omega,by omega,?_,?_,by omega,by rw [←htot];simp only [List.append_assoc],by simpa using h2⟩,by omega⟩
   ·intro h0;rw [h0] at ht;simp at ht;omega
   ·intro h0;rw [h0] at hne;simp at hne;omega
  ·have heq:(A'.length:Int)=(B'.length:Int):=by simpa using heq
   rw [ae (by omega)]
   refine zW (P:=P') (A:=A') (C:= []) (B:=B') (Q:=Q') (by simpa using hh) (by omega) (by rw [aA];simp;omega) (by omega) (by simp;omega) rfl fun w2 h2=>hK _ ?_
   rw [←htot]
   simpa using h2
def sH (E:World) (F:List HP) (fv:Value) (key:Int→Int) (D:Int→Prop):Prop:=
 ∀(A:List HP) (w:World) (y x:Int) (K:Int→World→Prop),Hp E w (A++F)→D x→D y→(∀z w',(z<0↔key y<key x)→Hp E w' (A++F)→K z w')→db Tryz.prog fv [kI] [.int .i64 y,.int .i64 x] w K
theorem vA {key:Int→Int} {x y:Int} (h:x<y):(key y<key x↔Ky key y x)∧(¬key y<key x↔Ky key x y):=by
 unfold Ky;constructor<;>constructor<;>intro h2<;>omega
theorem IZ {key:Int→Int} {S:List Int} {y x:Int} (h:Sd key (S++ [y])) (hy:Ky key y x): ∀z∈S++ [y],Ky key z x:=by
 intro z hz
 rcases List.mem_append.1 hz with hz|hz
 ·have:=(List.pairwise_append.1 h).2.2 z hz y (by simp)
  exact this.trans hy
 ·have:z=y:=by simpa using hz
  subst this;exact hy
theorem s8 {s:Sl} {P L Q:List Int} {fv:Value} {key:Int→Int} {D:Int→Prop} {a b:Int} {K:World→Prop} (h:Hp E w (aj 1 s ((P++L++Q).map vI)::F)) (hbig:(P++L++Q).length≤bZ)
  (hc:sH E F fv key D) (hD: ∀x∈L,D x) (hL:L.Pairwise (·< ·)) (ha:a=(P.length:Int)) (hb:b=((P++L).length:Int))
  (hK: ∀M w',M.Perm L→Sd key M→Hp E w' (aj 1 s ((P++M++Q).map vI)::F)→K w'):
  Cl Tryz.prog [] bG ⟨[.slice s.base s.len s.cap,.int .i64 a,.int .i64 b,fv]⟩ w K:=by
 subst ha;subst hb
 refine jP.ok _ _ _ _ _ _ ?_
 rw [aA] at hbig
 simp only [List.length_append] at hbig⊢
 refine ⟨fun i w'=> ∃(k:Nat) (S:List Int),i=((P.length+k:Nat):Int)∧1≤k∧S.Perm (L.take k)∧Sd key S∧Hp E w' (aj 1 s ((P++S++L.drop k++Q).map vI)::F),fun i _=>P.length+L.length - i.toNat,⟨1,L.take 1,?_,by omega,List.Perm.refl _,?_,by rw [List.append_assoc P,List.take_append_drop];exact h⟩,?_⟩
 ·rw [ae (by omega)];omega
 ·cases L<;>simp
 rintro i w' ⟨k,S,rfl,hk1,hS,hsd,hh⟩
 refine aa.mk (fun hlt=> ?_) (fun hge=> ?_)
 ·have hlt:k<L.length:=by have:=of_decide_eq_true hlt;omega
  have hSl:S.length=k:=by have:=hS.length_eq;rw [List.length_take] at this;omega
  have dL:L.drop k=L[k]::L.drop (k+1):=List.drop_eq_getElem_cons hlt
  have tL:L.take (k+1)=L.take k++ [L[k]]:=by rw [List.take_add_one,List.getElem?_eq_getElem hlt];rfl
  have hxin:L[k]∈L:=List.getElem_mem hlt
  have hless: ∀y∈S,y<L[k]:=by
   intro y hy
   have hy':y∈L.take k:=hS.mem_iff.1 hy
   rw [←List.take_append_drop k L,List.pairwise_append] at hL
   exact hL.2.2 y hy' L[k] (by rw [dL];exact List.mem_cons_self ..)
  have hSin: ∀y∈S,y∈L:=fun y hy=>List.mem_of_mem_take (hS.mem_iff.1 hy)
  generalize L[k]=x at*
  refine ⟨fun j w'=> ∃S1 S2:List Int,j=((P.length+S1.length:Nat):Int)∧S=S1++S2∧(∀y∈S2,Ky key x y)∧Hp E w' (aj 1 s ((P++S1++x::S2++L.drop (k+1)++Q).map vI)::F),fun j _=>j.toNat - P.length,⟨S,[],by omega,by simp,by simp,?_⟩,?_⟩
  ·rw [dL] at hh;simpa using hh
  rintro j w' ⟨S1,S2,rfl,rfl,hS2,hh⟩
  have fin: ∀w',(∀y∈S1,Ky key y x)→Hp E w' (aj 1 s ((P++S1++x::S2++L.drop (k+1)++Q).map vI)::F)→
    (∃(k_1:Nat) (S:List Int),i64 (((P.length+k:Nat):Int)+1)=((P.length+k_1:Nat):Int)∧1≤k_1∧S.Perm (L.take k_1)∧Sd key S∧Hp E w' (aj 1 s ((P++S++L.drop k_1++Q).map vI)::F))∧P.length+L.length - (i64 (((P.length+k:Nat):Int)+1)).toNat<P.length+L.length - (((P.length+k:Nat):Int)).toNat:=by
   intro w' hS1 hh
   rw [ae (by omega)]
   refine ⟨⟨k+1,S1++x::S2,by omega,by omega,?_,?_,by simpa using hh⟩,by omega⟩
   ·rw [tL]
    refine List.perm_middle.trans ?_
    exact (List.Perm.cons x hS).trans (List.perm_append_comm (l₁:= [x]))
   ·obtain ⟨p1,p2,p3⟩:=List.pairwise_append.1 hsd
    refine List.pairwise_append.2 ⟨p1,List.pairwise_cons.2 ⟨hS2,p2⟩,fun y hy z hz=> ?_⟩
    rcases List.mem_cons.1 hz with rfl|hz
    ·exact hS1 y hy
    ·exact p3 y hy z hz
  refine aK.mk hh fun w1 h1=>aa.mk (fun hgt=> ?_) (fun hle=> ?_)
  ·have hgt:=of_decide_eq_true hgt
   rcases List.eq_nil_or_concat S1 with rfl|⟨S1',y,rfl⟩
   ·simp at hgt
   ·rw [List.concat_eq_append] at*
    simp only [List.length_append,List.length_cons,List.length_nil] at*
    have hln:=h1.aV
    simp only [List.length_map,List.length_append,List.length_cons,List.length_nil,Nat.mul_one] at hln
    rw [ae (by omega)]
    have hform:P++(S1'++ [y])++x::S2++L.drop (k+1)++Q=(P++S1')++y::x::(S2++L.drop (k+1)++Q):=by simp
    have gx:(P++(S1'++ [y])++x::S2++L.drop (k+1)++Q)[P.length+S1'.length+1]? =some x:=by
     rw [hform,show P.length+S1'.length+1=(P++S1').length+1 by simp,List.getElem?_append_right (by omega)];simp
    have gy:(P++(S1'++ [y])++x::S2++L.drop (k+1)++Q)[P.length+S1'.length]? =some y:=by
     rw [hform,show P.length+S1'.length=(P++S1').length by simp,List.getElem?_append_right (by omega)];simp
    refine an.rd (h1.ag ad.own) (by omega) (by omega) fun q hq hc1=> ?_
    refine Ld.sc (s:= .int .i64) x (by
     rw [hc1,←List.getElem?_eq_getElem,List.getElem?_map,show (((P.length+(S1'.length+(0+1)):Nat):Int)).toNat=P.length+S1'.length+1 by omega,gx];rfl) ?_
    refine an.rd (h1.ag ad.own) (by omega) (by omega) fun q2 hq2 hc2=> ?_
    refine Ld.sc (s:= .int .i64) y (by
     rw [hc2,←List.getElem?_eq_getElem,List.getElem?_map,show (((P.length+(S1'.length+(0+1)):Nat):Int) - 1).toNat=P.length+S1'.length by omega,gy];rfl) ?_
    refine hc [_] w1 x y _ h1 (hD y (hSin y (by simp))) (hD x hxin) fun z w2 hz h2=> ?_
    have hyx:=vA (key:=key) (hless y (by simp))
    refine aa.mk (fun hneg=> ?_) (fun hpos=> ?_)
    ·have hneg:=hyx.1.1 (hz.1 (of_decide_eq_true hneg))
     refine aK.mk h2 fun w3 h3=> ?_
     refine BP (P:=P++S1') (Q:=S2++L.drop (k+1)++Q) (x:=y) (y:=x) (by rw [←hform];exact h3) (by simp;omega) (by simp;omega) fun w4 h4=> ?_
     refine ⟨⟨S1',y::S2,by omega,by simp,?_,by simpa using h4⟩,by omega⟩
     intro z hz
     rcases List.mem_cons.1 hz with rfl|hz
     ·exact hneg
     ·exact hS2 z hz
    ·have hpos:=hyx.2.1 (fun hk=>(of_decide_eq_false hpos) (hz.2 hk))
     exact fin w2 (IZ (List.pairwise_append.1 hsd).1 hpos) h2
  ·have hle:=of_decide_eq_false hle
   have:S1= []:=List.length_eq_zero_iff.1 (by omega)
   subst this
   exact fin w1 (by simp) h1
 ·have hge:L.length≤k:=by have:=of_decide_eq_false hge;omega
  rw [List.take_of_length_le hge] at hS
  rw [List.drop_eq_nil_of_le hge] at hh
  exact hK S _ hS hsd (by simpa using hh)
end
end Go.Proofs.YtgglghjnakclmaaGreat
