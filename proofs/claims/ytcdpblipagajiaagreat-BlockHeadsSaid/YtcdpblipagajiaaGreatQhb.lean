/- Texts packed together by program; spaces struck by program. Conditions: as each theorem states. -/
import Derived.Carry
import Derived.Ground.SlsfProg
import Derived.Laws.AppendOwn
import Derived.Laws.BytesArg
import Derived.Laws.CopyRow
import Derived.Laws.IdiomCopy
import Derived.Laws.IdiomStrings
import Derived.Laws.MakeOwn
import Derived.Lib.BytesEntry
import Derived.Lib.MakeNoZero
import Derived.MapKept
import Derived.OpenShut
import Derived.OrdersIn
import Derived.ProofKit
import Derived.RangeFuncRecord
import Derived.ScopeJumps
import Derived.Shelf.SlGeneric
import Derived.Shelf.SlSortCmp.NoneTotal
import Derived.SizedLaws
import Derived.TacticsIn
import Derived.Test.YtcdpblipagajiaaGreatChecked
import Derived.Test.YtcdpblipagajiaaGreatProg
import Derived.Test.YtcdpblipagajiaaGreatQha
set_option linter.unusedSimpArgs false
set_option linter.unusedVariables false
namespace Go.Vc
open Go
noncomputable section
variable {nn:Nat} {dfs:List Deferred}
abbrev FW (ro:Option Nat):Fence:={Fence.wide with round:=ro}
def Ie (P:Program) (l:Nat) (args:List Value) (w:World) (K:Bool→World→Prop):Prop:=
 ∃fn tmps assign body,(Instr.yield l ⟨args⟩).run P w= .ok (.round l fn tmps assign body) w∧
  RoundIn Fence.wide 0 P l fn tmps assign body w fun e w'=> ∃b,e= .returned (.bool b)∧K b w'
def kp (P:Program) (v:Value) (ks:List Ki) (args:List Value) (w:World) (K:ea ks (World→Prop)):Prop:=
 match v with
 | .func (.func i) first captured=>gO P (.func (.func i) first captured) ks args w K
 | .func (.yield l) first _=>Ie P l (first.toList++args) w fun b w'=>eQ ks (.bool b) K w'
 |_=>False
def sC (P:Program) (f:AF) (o:Oper) (w:World) (K:Option Value→World→Prop):Prop:=
 match o.op with
 | .call c=>match c.callee with
  | .value x=>match ev f x,mX f c.args.toList,zq P o.type with
   |some v,some vs,some ks=>kp P v ks vs w (fo ks [] fun us w'=>K (some (dq us)) w')
   |_,_,_=>False
  |_=>fO P f o w K
 |_=>fO P f o w K
theorem E2 {P:Program} {l:Nat} {args:List Value} {w:World} {K K':Bool→World→Prop} (h1: ∀b w,K b w→K' b w) (h:Ie P l args w K):Ie P l args w K':=by
 obtain ⟨fn,tmps,assign,body,h2,h3⟩:=h
 exact ⟨fn,tmps,assign,body,h2,h3.mono fun e w' ⟨b,e1,e2⟩=>⟨b,e1,h1 _ _ e2⟩⟩
theorem EG {P:Program} {v:Value} {ks:List Ki} {args:List Value} {w:World} {g g':List Value→World→Prop} (h1: ∀vs w,g vs w→g' vs w) (h:kp P v ks args w (fo ks [] g)):kp P v ks args w (fo ks [] g'):=by
 unfold kp at h⊢
 split at h
 ·exact xv (v:= .func (.func _) _ _) h1 h
 ·exact E2 (fun b w h=>fH (fun vs h=>h1 vs w h) h) h
 ·exact h.elim
theorem vh {P:Program} {f:AF} {o:Oper} {w:World} {K K':Option Value→World→Prop} (h1: ∀v w,K v w→K' v w) (h:sC P f o w K):sC P f o w K':=by
 unfold sC at h⊢
 split at h
 ·split at h
  ·split at h
   ·exact EG (fun vs w h=>h1 _ _ h) h
   ·exact h.elim
  ·exact bY h1 h
 ·exact bY h1 h
theorem Cj {P:Program} {ro:Option Nat} {n:Nat} {o:Oper} {a:Act} {w:World} {next:Act→World→Prop} {Q:Exit→Act→World→Prop} (hd: ∀c,o.op≠ .defer c) (h:o.wp P a w next Q):o.wpIn (FW ro) n P a w next Q:=by
 refine ⟨fun _ _=>trivial,?_⟩
 have e:o.semAt (FW ro).round a.eval=execOp a.eval o:=by
  cases ro with
  |none=>rfl
  |some l=>exact Oper.semAt_some l _ _ hd
 rw [e]
 unfold Oper.wp at h
 generalize (execOp a.eval o).run P w=r at h
 cases r with
 |ok x w'=>
  cases x<;>simp only [Oper.upon] at h<;>first|exact h.elim|exact h|skip
  ·exact ⟨fun hh=>(by cases hh),(callsIn_wide (n:=n - 1)).2 (h.mono fun e w'' he=>by cases e<;>exact he)⟩
  ·refine ⟨fun hh=>(by cases hh),fun c cs _=> ?_⟩
   obtain ⟨v,w',hr,hs⟩:=h c cs
   exact ⟨v,w',hr,stepsIn_wide.2 hs⟩
 |halt x w'=>cases x<;>simp only [Oper.upon] at h<;>first|exact h.elim|exact h
theorem vD {P:Program} {ro:Option Nat} {n:Nat} {w:World} {a:Act} {f:AF} (hr:Rel nn dfs a f) {o:Oper} {K:Option Value→World→Prop} (h:sC P f o w K)
  {next:Act→World→Prop} {Q:Exit→Act→World→Prop} (hn: ∀v ov w',K ov w'→(∀v',ov=some v'→v=v')→next (a.put o.dst v) w'):o.wpIn (FW ro) n P a w next Q:=by
 obtain ⟨dst,op,ty,pos,after,guard⟩:=o
 unfold sC at h
 simp only at h hn
 have plain:fO P f ⟨dst,op,ty,pos,after,guard⟩ w K→(∀c,op≠ .defer c)→Oper.wpIn (FW ro) n P ⟨dst,op,ty,pos,after,guard⟩ a w next Q:=fun h hd=>Cj hd (mC hr h hn)
 split at h
 ·rename_i c
  split at h
  ·rename_i x hx0
   split at h
   ·rename_i v vs ks hx hvs hks
    obtain ⟨callee,args,tys⟩:=c
    simp only at hx0 hvs
    subst hx0
    have cv:gO P v ks vs w (fo ks [] fun us w'=>K (some (dq us)) w')→Oper.wpIn (FW ro) n P ⟨dst,.call ⟨.value x,args,tys⟩,ty,pos,after,guard⟩ a w next Q:=fun h=>by
     refine plain ?_ (fun c=>by simp)
     unfold fO
     simp only [dY,mU,hx,hvs,hks]
     exact h
    unfold kp at h
    split at h
    ·exact cv h
    ·rename_i l first captured
     obtain ⟨fn,tmps,assign,body,h1,h2⟩:=h
     refine ⟨fun _ _=>trivial,?_⟩
     have e:Oper.semAt (FW ro).round a.eval ⟨dst,.call ⟨.value x,args,tys⟩,ty,pos,after,guard⟩=execOp a.eval ⟨dst,.call ⟨.value x,args,tys⟩,ty,pos,after,guard⟩:=by
      cases ro with
      |none=>rfl
      |some l=>exact Oper.semAt_some l _ _ (fun c=>by simp)
     have he:(execOp a.eval ⟨dst,.call ⟨.value x,args,tys⟩,ty,pos,after,guard⟩).run P w= .ok (.round l fn tmps assign body) w:=by
      simp only [execOp,resolve,Sem.run_bind,hr.ev hx,Deferred.ofValue,Sem.run_pure,Result.andThen_ok,invoke,gH hr hvs]
      rw [←h1]
      congr 2
      cases first;simp
     rw [e,he]
     refine ⟨fun hh=>(by cases hh),?_⟩
     refine RoundIn.mono (R:=fun e w'=> ∃b,e= .returned (.bool b)∧eQ ks (.bool b) (fo ks [] fun us w'=>K (some (dq us)) w') w') ⟨h2.1,fun c cs _=>h2.2 c cs (room_wide _)⟩ ?_
     rintro e w' ⟨b,rfl,hb⟩
     obtain ⟨us,e1,e2⟩:=gb hb
     have:=hn (.bool b) (some (dq us)) w' e2 (fun v' e=>by rw [e1];simpa using e)
     exact this
    ·exact h.elim
   ·exact h.elim
  ·refine plain h (fun c=>by simp)
 ·rename_i op' hop
  refine plain h (fun c hc=> ?_)
  subst hc
  unfold fO at h
  simp only [dY,mU] at h
def oB (P:Program) (ops:Array Oper):List Oper→AF→World→(AF→World→Prop)→Prop
 | [],f,w,K=>K f w
 |o::rest,f,w,K=>guarded ops o f (fun f=>sC P f o w fun v w'=>oB P ops rest (bc f o.dst v) w' K) (fun f=>oB P ops rest (bc f o.dst (some undef)) w K)
theorem pe {P:Program} {ro:Option Nat} {n:Nat} {ops:Array Oper} {Q:Exit→Act→World→Prop} {K:AF→World→Prop} (hQ: ∀a f w,Rel nn dfs a f→K f w→Q .normal a w):
  ∀(l:List Oper) (f:AF) (w:World) (a:Act),Rel nn dfs a f→oB P ops l f w K→wpListIn (FW ro) n P ops Q l a w
 | [],f,w,a,hr,h=>hQ a f w hr h
 |o::rest,f,w,a,hr,h=>by
  obtain ⟨f',hr',h1|h1⟩:=cw hr h
  ·simp only [wpListIn,h1.1,if_true]
   exact vD hr' h1.2 fun v ov w' hK hv=>pe hQ rest _ w' _ (hr'.put o.dst hv) hK
  ·simp only [wpListIn,h1.1]
   exact ⟨fun _ _=>trivial,pe hQ rest _ w _ (hr'.put o.dst (fun v' e=>by simpa using e)) h1.2⟩
theorem mz {P:Program} {ops:Array Oper} {K K':AF→World→Prop} {f0:AF} (hk: ∀f w,ax (fp ops.toList) f0 f→K f w→K' f w): ∀(l:List Oper) (f:AF) (w:World),(∀o∈l,o∈ops.toList)→ax (fp ops.toList) f0 f→oB P ops l f w K→oB P ops l f w K'
 | [],f,w,_,hs,h=>hk f w hs h
 |o::rest,f,w,hl,hs,h=>by
  have ho:=hl o (by simp)
  have hr: ∀o∈rest,o∈ops.toList:=fun o' h'=>hl o' (by simp [h'])
  refine cy (fun g hg h=>vh (fun v w h=>mz hk rest _ w hr ((hs.trans hg).trans (ax.bc v fun d hd=>bC ho hd)) h) h)
   (fun g hg h=>mz hk rest _ w hr ((hs.trans hg).trans (ax.bc _ fun d hd=>bC ho hd)) h) h
def k8 (P:Program) (ops:Array Oper) (K:AF→World→Prop):Nat→Array Bool→AF→World→Prop
 |0,listed,f,w=>cY (Region.ready .any ops listed).isEmpty (K f w)
 |n+1,listed,f,w=>match Region.ready .any ops listed with
  | []=>K f w
  |r::rs=>r0 (r::rs) fun i=>match ops[i]? with
   |some o=>guarded ops o f (fun f=>sC P f o w fun v w'=>k8 P ops K n (listed.setIfInBounds i true) (bc f o.dst v) w') (fun f=>k8 P ops K n (listed.setIfInBounds i true) (bc f o.dst (some undef)) w)
   |none=>False
theorem p0 {P:Program} {ro:Option Nat} {m:Nat} {ops:Array Oper} {Q:Exit→Act→World→Prop} {K:AF→World→Prop} (hQ: ∀a f w,Rel nn dfs a f→K f w→Q .normal a w):
  ∀(n:Nat) (listed:Array Bool) (f:AF) (w:World) (a:Act),Rel nn dfs a f→k8 P ops K n listed f w→wpAnyIn (FW ro) m P .any ops Q n listed a w
 |0,listed,f,w,a,hr,h=>by
  obtain ⟨h1,h2⟩:=aP h
  exact ⟨by simpa using h1,hQ _ _ _ hr h2⟩
 |n+1,listed,f,w,a,hr,h=>by
  unfold k8 at h
  split at h
  ·rename_i he
   exact ⟨fun _=>hQ _ _ _ hr h,by rw [he];simp⟩
  ·rename_i r rs he
   refine ⟨fun h0=>absurd h0 (by rw [he];simp),fun i hi=> ?_⟩
   rw [he] at hi
   have h0:=pd h i hi
   unfold wpOpIn
   split at h0
   ·rename_i o ho
    simp only [ho]
    obtain ⟨f',hr',h1|h1⟩:=cw hr h0
    ·rw [if_pos h1.1]
     exact vD hr' h1.2 fun v ov w' hK hv=>p0 hQ n _ _ w' _ (hr'.put o.dst hv) hK
    ·rw [if_neg (by rw [h1.1];simp)]
     exact ⟨fun _ _=>trivial,p0 hQ n _ _ w _ (hr'.put o.dst (fun v' e=>by simpa using e)) h1.2⟩
   ·exact h0.elim
theorem nA {P:Program} {ops:Array Oper} {K K':AF→World→Prop} {f0:AF} (hk: ∀f w,ax (fp ops.toList) f0 f→K f w→K' f w): ∀(n:Nat) (listed:Array Bool) (f:AF) (w:World),ax (fp ops.toList) f0 f→k8 P ops K n listed f w→k8 P ops K' n listed f w
 |0,listed,f,w,hs,h=>by
  obtain ⟨h1,h2⟩:=aP h
  unfold k8
  rw [h1];exact hk _ _ hs h2
 |n+1,listed,f,w,hs,h=>by
  unfold k8 at h⊢
  split at h
  ·exact hk _ _ hs h
  ·refine nr (fun i h=> ?_) h
   split at h
   ·rename_i o ho
    have hom:o∈ops.toList:=by simpa using Array.mem_of_getElem? ho
    exact cy (fun g hg h=>vh (fun v w h=>nA hk n _ _ w ((hs.trans hg).trans (ax.bc v fun d hd=>bC hom hd)) h) h)
     (fun g hg h=>nA hk n _ _ w ((hs.trans hg).trans (ax.bc _ fun d hd=>bC hom hd)) h) h
   ·exact h.elim
def zh {β:Type}:(ks:List Ki)→ea ks β→(List Value→β→Prop)→Prop
 | [],b,G=>G [] b
 |k::ks,b,G=> ∀x:k.T,zh ks (b x) fun vs b=>G (k.enc x::vs) b
def Fb {β:Type}:(ks:List Ki)→(List Value→β)→ea ks β
 | [],g=>g []
 |k::ks,g=>fun x=>Fb ks fun vs=>g (k.enc x::vs)
def sK (l:Nat) (rec:Nat→Obj) (w:World) (K:World→Prop):Prop:=w.heap[l]? =some (rec 0)∧K (w.putObj l (rec 1))
def oX (l:Nat) (rec:Nat→Obj) (w:World) (K:World→Prop):Prop:=w.heap[l]? =some (rec 1)∧K (w.putObj l (rec 0))
def F5 (l:Nat) (rec:Nat→Obj) (w:World) (K:World→Prop):Prop:=w.heap[l]? =some (rec 1)∧K (w.putObj l (rec 2))
def fB (P:Program) (v:Value) (ks:List Ki) (w:World) (B:Nat→(Nat→Obj)→ea ks (World→(World→Prop)→(World→Prop)→Prop)) (K Kr:Nat→World→Prop):Prop:=
 ∀(rec:Nat→Obj) (yv:Value),
  (∀(R:Bool→World→Prop) (w2:World),zh ks (B (w.heap.size+1) rec) fun vs b=>w2.heap[w.heap.size+1]? =some (rec 0)→b w2 (R true) (R false)→kp P yv [kB] vs w2 R)→
  pL P v [] [yv] ((w.alloc (.deferred (some []))).alloc (rec 0)) fun w3=>
   (w3.heap[w.heap.size+1]? =some (rec 0)∧K w.heap.size (w3.putObj (w.heap.size+1) (rec 3)))∨(w3.heap[w.heap.size+1]? =some (rec 2)∧Kr w.heap.size (w3.putObj (w.heap.size+1) (rec 4)))
theorem FX {P:Program} {v:Value} {ks:List Ki} {w:World} {B:Nat→(Nat→Obj)→ea ks (World→(World→Prop)→(World→Prop)→Prop)} {K K' Kr Kr':Nat→World→Prop} (h1: ∀D w,K D w→K' D w) (h2: ∀D w,Kr D w→Kr' D w)
  (h:fB P v ks w B K Kr):fB P v ks w B K' Kr':=fun rec yv hy=>
 EI (ks:= []) (g:=fun _ w3=>(w3.heap[w.heap.size+1]? =some (rec 0)∧K w.heap.size (w3.putObj (w.heap.size+1) (rec 3)))∨(w3.heap[w.heap.size+1]? =some (rec 2)∧Kr w.heap.size (w3.putObj (w.heap.size+1) (rec 4))))
  (g':=fun _ w3=>(w3.heap[w.heap.size+1]? =some (rec 0)∧K' w.heap.size (w3.putObj (w.heap.size+1) (rec 3)))∨(w3.heap[w.heap.size+1]? =some (rec 2)∧Kr' w.heap.size (w3.putObj (w.heap.size+1) (rec 4))))
  (fun _ _ h=>h.elim (fun h=> .inl ⟨h.1,h1 _ _ h.2⟩) (fun h=> .inr ⟨h.1,h2 _ _ h.2⟩)) (h rec yv hy)
def wS:AF→List Nat→List Value→Option AF
 |f,[],[]=>some f
 |f,p::ps,v::vs=>wS (ck f p (some v)) ps vs
 |_,_,_=>none
inductive iz where
 |o|s (p q:iz)|c (p q:iz)|b (p:iz)|l (live:List (Nat×Ki)) (p:iz)|r (ks:List Ki) (p q:iz)
def gq:Code→Bool
 | .seq a b=>gq a||gq b
 | .cond _ a b=>gq a||gq b
 | .block _ a=>gq a
 | .loop a=>gq a
 | .scope a=>gq a
 | .rangeFunc _ _ _ _=>true
 |_=>false
def qY (next:AF→List Nat→World→Prop) (Q:Exit→AF→List Nat→World→Prop):Exit→AF→List Nat→World→Prop
 | .normal,f,ms,w=>next f ms w
 |e,f,ms,w=>Q e f ms w
def yg (id:Nat) (Q:Exit→AF→List Nat→World→Prop):Exit→AF→List Nat→World→Prop
 | .exit i,f,ms,w=>match i==id with|true=>Q .normal f ms w|false=>Q (.exit i) f ms w
 |e,f,ms,w=>Q e f ms w
def Ib (l:Nat) (rec:Nat→Obj) (Kt Kf:World→Prop):Exit→AF→List Nat→World→Prop
 | .normal,_,_,w=>oX l rec w Kt
 | .ret,_,_,w=>F5 l rec w Kf
 |_,_,_,_=>False
def EP:iz→Bool
 | .b _=>true
 |_=>false
def gh (P:Program) (n:Nat) (rd:Bool):Code→iz→(Exit→AF→List Nat→World→Prop)→AF→List Nat→World→Prop
 | .skip,_,Q,f,ms,w=>Q .normal f ms w
 | .region _ ops d,p,Q,f,ms,w=>match d,rd with
  |false,_=>oB P ops ops.toList f w fun f w=>Q .normal f ms w
  |true,false=>match EP p with
   |true=>yR P ops f w fun f w=>Q .normal f ms w
   |false=>oK P ops true f w fun f w=>Q .normal f ms w
  |true,true=>aq w fun w'=>k8 P ops (fun f w=>Q .normal f ms w) ops.size (Array.replicate ops.size false) f w'
 | .seq x y,.s p q,Q,f,ms,w=>gh P n rd x p (qY (fun f ms w=>gh P n rd y q Q f ms w) Q) f ms w
 | .cond c x y,.c p q,Q,f,ms,w=>match ev f c with
  |some (.bool b)=>aa b (gh P n rd x p Q f ms w) (gh P n rd y q Q f ms w)
  |_=>False
 | .block id c,.b p,Q,f,ms,w=>gh P n rd c p (yg id Q) f ms w
 | .loop c,.l live p,Q,f,ms,w=>cY (wL live (writes c)) (match gq c with
  |false=> ∃(I:eY live (World→Prop)) (m:eY live (World→Nat)),leaf live I f w∧
    mA live I m (forget (writes c) f) fun I0 m0 f=> ∀w,I0 w→gh P n rd c p (qY (fun f ms2 w'=>ms2=ms∧gN live I m (m0 w) f w') Q) f ms w
  |true=> ∃(I:List Nat→eY live (World→Prop)) (m:eY live (World→Nat)),leaf live (I ms) f w∧
    ∀ms,mA live (I ms) m (forget (writes c) f) fun I0 m0 f=> ∀w,I0 w→gh P n rd c p (qY (fun f ms2 w'=>gN live (I ms2) m (m0 w) f w') Q) f ms w)
 | .rangeFunc g ps assign body,.r ks p q,Q,f,ms,w=>match rd with
  |true=>False
  |false=>match ev f g with
   |some v=>fB P v ks w (fun l rec=>Fb ks fun vs w2 Kt Kf=>match wS f ps.toList vs with
     |some f'=>gh P n true assign p (qY (fun f ms w=>sK l rec w fun w=>gh P n true body q (Ib l rec Kt Kf) f ms w) (fun _ _ _ _=>False)) f' [] w2
     |none=>False) (fun D w'=>Q .normal f (D::ms) w') (fun D w'=>Q .ret f (D::ms) w')
   |none=>False
 | .exit id,_,Q,f,ms,w=>Q (.exit id) f ms w
 | .ret,_,Q,f,ms,w=>Q .ret f ms w
 | .label _,_,Q,f,ms,w=>Q .normal f ms w
 |_,_,_,_,_,_=>False
theorem rT {body body':(World→Prop)→(World→Nat)→AF→Prop}: ∀{l:List (Nat×Ki)} {I:eY l (World→Prop)} {m:eY l (World→Nat)} {g:AF},(∀I m g,body I m g→body' I m g)→mA l I m g body→mA l I m g body'
 | [],_,_,_,hb,h=>hb _ _ _ h
 |(_,_)::_,_,_,_,hb,h=>fun x=>rT hb (h x)
theorem ff {P:Program} {n:Nat} {rd:Bool}: ∀(c:Code) (p:iz) {Q Q':Exit→AF→List Nat→World→Prop} {f0:AF} (_: ∀e f ms w,ax (writes c) f0 f→Q e f ms w→Q' e f ms w) (ms:List Nat) (w:World),gh P n rd c p Q f0 ms w→gh P n rd c p Q' f0 ms w
 | .skip,_,_,_,_,hq,ms,w,h=>hq _ _ _ _ (ax.refl _ _) h
 | .region _ ops d,p,_,_,_,hq,ms,w,h=>by
  unfold gh at h⊢
  cases d
  ·exact mz (fun f w hs h=>hq _ f ms w hs h) _ _ _ (fun _ h=>h) (ax.refl _ _) h
  ·cases rd
   ·cases hd:EP p with
    |true=>
     rw [hd] at h
     exact bm (fun h=>eA (fun f w hs h=>hq _ f ms w hs h) _ _ _ _ (ax.refl _ _) h) h
    |false=>
     rw [hd] at h
     exact rL (fun f w hs h=>hq _ f ms w hs h) h
   ·exact nA (fun f w hs h=>hq _ f ms w hs h) _ _ _ _ (ax.refl _ _) h
 | .seq x y,.s p q,Q,Q',f0,hq,ms,w,h=>by
  refine ff x p (fun e f ms w hs h=> ?_) ms w h
  have hs':ax (writes (.seq x y)) f0 f:=hs.mono fun s h=>List.mem_append.2 (.inl h)
  cases e with
  |normal=>exact ff y q (fun e f' ms w hs2 h=>hq e f' ms w (hs'.trans (hs2.mono fun s h=>List.mem_append.2 (.inr h))) h) ms w h
  |_=>exact hq _ f ms w hs' h
 | .cond c x y,.c p q,Q,Q',f0,hq,ms,w,h=>by
  unfold gh at h⊢
  split at h
  ·exact iG (ff x p (fun e f ms w hs h=>hq e f ms w (hs.mono fun s h=>List.mem_append.2 (.inl h)) h) ms w) (ff y q (fun e f ms w hs h=>hq e f ms w (hs.mono fun s h=>List.mem_append.2 (.inr h)) h) ms w) h
  ·exact h.elim
 | .block id c,.b p,Q,Q',f0,hq,ms,w,h=>by
  refine ff c p (fun e f ms w hs h=> ?_) ms w h
  cases e with
  |exit i=>
   simp only [yg] at h⊢
   split at h
   ·exact hq _ f ms w hs h
   ·exact hq _ f ms w hs h
  |_=>exact hq _ f ms w hs h
 | .loop c,.l live p,Q,Q',f0,hq,ms,w,h=>by
  unfold gh at h⊢
  obtain ⟨hl,h⟩:=aP h
  rw [hl]
  show (match gq c with|false=>_|true=>_:Prop)
  cases hc:gq c with
  |false=>
   rw [hc] at h
   obtain ⟨I,m,h0,h1⟩:=h
   refine ⟨I,m,h0,rT (fun I0 m0 g hb w hI=> ?_) (iS (fun s k hk=>ax.sa hl hk) (fun s hs=>dv hs) h1)⟩
   refine ff c p (fun e f' ms' w hs2 h=> ?_) ms w (hb.2 w hI)
   cases e with
   |normal=>exact h
   |_=>exact hq _ f' ms' w (hb.1.trans hs2) h
  |true=>
   rw [hc] at h
   obtain ⟨I,m,h0,h1⟩:=h
   refine ⟨I,m,h0,fun ms=>rT (fun I0 m0 g hb w hI=> ?_) (iS (fun s k hk=>ax.sa hl hk) (fun s hs=>dv hs) (h1 ms))⟩
   refine ff c p (fun e f' ms' w hs2 h=> ?_) ms w (hb.2 w hI)
   cases e with
   |normal=>exact h
   |_=>exact hq _ f' ms' w (hb.1.trans hs2) h
 | .rangeFunc g ps assign body,.r ks p q,Q,Q',f0,hq,ms,w,h=>by
  unfold gh at h⊢
  cases rd
  ·simp only at h⊢
   split at h
   ·exact FX (fun D w h=>hq _ _ _ _ (ax.refl _ _) h) (fun D w h=>hq _ _ _ _ (ax.refl _ _) h) h
   ·exact h.elim
  ·exact h.elim
 | .exit id,_,_,_,_,hq,ms,w,h=>hq _ _ _ _ (ax.refl _ _) h
 | .ret,_,_,_,_,hq,ms,w,h=>hq _ _ _ _ (ax.refl _ _) h
 | .label _,_,_,_,_,hq,ms,w,h=>hq _ _ _ _ (ax.refl _ _) h
 | .seq _ _,.o,_,_,_,_,_,_,h=>h.elim
 | .seq _ _,.c _ _,_,_,_,_,_,_,h=>h.elim
 | .seq _ _,.b _,_,_,_,_,_,_,h=>h.elim
 | .seq _ _,.l _ _,_,_,_,_,_,_,h=>h.elim
 | .seq _ _,.r _ _ _,_,_,_,_,_,_,h=>h.elim
 | .cond _ _ _,.o,_,_,_,_,_,_,h=>h.elim
 | .cond _ _ _,.s _ _,_,_,_,_,_,_,h=>h.elim
 | .cond _ _ _,.b _,_,_,_,_,_,_,h=>h.elim
 | .cond _ _ _,.l _ _,_,_,_,_,_,_,h=>h.elim
 | .cond _ _ _,.r _ _ _,_,_,_,_,_,_,h=>h.elim
 | .block _ _,.o,_,_,_,_,_,_,h=>h.elim
 | .block _ _,.s _ _,_,_,_,_,_,_,h=>h.elim
 | .block _ _,.c _ _,_,_,_,_,_,_,h=>h.elim
 | .block _ _,.l _ _,_,_,_,_,_,_,h=>h.elim
 | .block _ _,.r _ _ _,_,_,_,_,_,_,h=>h.elim
 | .loop _,.o,_,_,_,_,_,_,h=>h.elim
 | .loop _,.s _ _,_,_,_,_,_,_,h=>h.elim
 | .loop _,.c _ _,_,_,_,_,_,_,h=>h.elim
 | .loop _,.b _,_,_,_,_,_,_,h=>h.elim
 | .loop _,.r _ _ _,_,_,_,_,_,_,h=>h.elim
 | .rangeFunc _ _ _ _,.o,_,_,_,_,_,_,h=>h.elim
 | .rangeFunc _ _ _ _,.s _ _,_,_,_,_,_,_,h=>h.elim
 | .rangeFunc _ _ _ _,.c _ _,_,_,_,_,_,_,h=>h.elim
 | .rangeFunc _ _ _ _,.b _,_,_,_,_,_,_,h=>h.elim
 | .rangeFunc _ _ _ _,.l _ _,_,_,_,_,_,_,h=>h.elim
 | .scope _,_,_,_,_,_,_,_,h=>h.elim
 | .goto _,_,_,_,_,_,_,_,h=>h.elim
 | .refuse _,_,_,_,_,_,_,_,h=>h.elim
theorem BV {v:Value} {w:World} {K:World→Prop} (h:eQ [] v K w):K w:=by
 cases v with
 |tuple us=>
  obtain ⟨us⟩:=us
  cases us with
  |nil=>exact h
  |cons=>exact h.elim
 |_=>exact h.elim
def mark (r:Nat):Deferred:={target:= .collected r,args:= #[]}
def Kc {nn:Nat} (Q:Exit→AF→List Nat→World→Prop) (e:Exit) (a:Act) (w:World):Prop:= ∃f ms,Rel nn (ms.map mark) a f∧Q e f ms w
theorem sG {β:Type}: ∀{ks:List Ki} {g:List Value→β} {G:List Value→β→Prop},(∀vs,G vs (g vs))→zh ks (Fb ks g) G
 | [],_,_,h=>h []
 |_::_,_,_,h=>fun _=>sG fun _=>h _
theorem u9: ∀{ps:List Nat} {vs:List Value} {f f':AF} {tmps:Array Value} {d:List Deferred},Rel nn dfs {tmps:=tmps,defers:=d} f→wS f ps vs=some f'→
  ps.length=vs.length∧Rel nn dfs {tmps:=(ps.zip vs).foldl (fun tmps (t,a)=>tmps.setIfInBounds t a) tmps,defers:=d} f'
 | [],[],f,f',tmps,d,hr,h=>by
  simp only [wS,Option.some.injEq] at h
  subst h
  exact ⟨rfl,hr⟩
 |p::ps,v::vs,f,f',tmps,d,hr,h=>by
  obtain ⟨h1,h2⟩:=u9 (hr.ck p (some v) v (fun v' e=>by simpa using e)) h
  exact ⟨by simp [h1],h2⟩
 | [],_::_,_,_,_,_,_,h=>by cases h
 |_::_,[],_,_,_,_,_,h=>by cases h
theorem dC {P:Program} (hm:P.follows .mixedOrders=true): ∀(c:Code) (p:iz) (rd:Bool) (ro:Option Nat) (_:ro.isSome=rd) (k:Nat) (Q:Exit→AF→List Nat→World→Prop) (f:AF) (ms:List Nat) (w:World) (a:Act),
  Rel nn (ms.map mark) a f→gh P nn rd c p Q f ms w→c.wpIn (FW ro) k P (Kc (nn:=nn) Q) a w
 | .skip,_,rd,ro,hro,k,Q,f,ms,w,a,hr,h=>wpIn_skip ⟨f,ms,hr,h⟩
 | .region _ ops d,p,rd,ro,hro,k,Q,f,ms,w,a,hr,h=>by
  unfold gh at h
  cases d
  ·exact wpIn_region_list (pe (K:=fun f w=>Q .normal f ms w) (fun a f w hr h=>⟨f,ms,hr,h⟩) _ _ _ _ hr h)
  ·cases rd
   ·cases ro with
    |some l=>cases hro
    |none=>
     cases hd:EP p with
     |true=>
      rw [hd] at h
      exact wpIn_wide.2 (qF hm (K:=fun f w=>Q .normal f ms w) (fun a f w hr h=>⟨f,ms,hr,h⟩) hr h)
     |false=>
      rw [hd] at h
      exact wpIn_wide.2 (vz hm (K:=fun f w=>Q .normal f ms w) (fun a f w hr h=>⟨f,ms,hr,h⟩) hr h)
   ·exact wpIn_region_any hm (p0 (K:=fun f w=>Q .normal f ms w) (fun a f w hr h=>⟨f,ms,hr,h⟩) _ _ _ _ _ hr h)
 | .seq x y,.s p q,rd,ro,hro,k,Q,f,ms,w,a,hr,h=>by
  refine wpIn_seq (Go.wpIn_mono (dC hm x p rd ro hro k _ f ms w a hr h) fun e a w ⟨f',ms',hr',h'⟩=> ?_)
  cases e with
  |normal=>exact dC hm y q rd ro hro k Q f' ms' w a hr' h'
  |_=>exact ⟨f',ms',hr',h'⟩
 | .cond c x y,.c p q,rd,ro,hro,k,Q,f,ms,w,a,hr,h=>by
  unfold gh at h
  split at h
  ·rename_i b hb
   refine wpIn_cond (hr.ev hb) ?_
   cases b
   ·exact dC hm y q rd ro hro k Q f ms w a hr h
   ·exact dC hm x p rd ro hro k Q f ms w a hr h
  ·exact h.elim
 | .block id c,.b p,rd,ro,hro,k,Q,f,ms,w,a,hr,h=>by
  refine wpIn_block (Go.wpIn_mono (dC hm c p rd ro hro k _ f ms w a hr h) fun e a w ⟨f',ms',hr',h'⟩=> ?_)
  cases e with
  |exit i=>
   simp only [Exit.inBlock]
   simp only [yg] at h'
   by_cases hi:i=id
   ·subst hi;simp at h';simp only [if_true];exact ⟨f',ms',hr',h'⟩
   ·have:(i==id)=false:=by simpa using hi
    rw [this] at h';rw [if_neg hi];exact ⟨f',ms',hr',h'⟩
  |_=>exact ⟨f',ms',hr',h'⟩
 | .loop c,.l live p,rd,ro,hro,k,Q,f,ms,w,a,hr,h=>by
  unfold gh at h
  obtain ⟨hl,h⟩:=aP h
  have hsh:=hr.shape
  cases hc:gq c with
  |false=>
   rw [hc] at h
   obtain ⟨I,m,h0,hall⟩:=h
   refine Go.wpIn_loop (fun a w=> ∃f',Rel nn (ms.map mark) a f'∧leaf live I f' w∧ax (writes c) f f') (fun a w=>mS a w live m) ⟨f,hr,h0,ax.refl _ _⟩ fun a w ⟨f1,hr,hI,hs⟩=> ?_
   obtain ⟨I0,m0,g,hg,h1,⟨hgs,h2⟩,h3⟩:=pB hr live I m _ (hr.BM hsh hs) hI (iS (fun s k hk=>ax.sa hl hk) (fun s hs=>dv hs) hall)
   have h4:=ff c p (Q':=fun e f' ms' w'=>qY (fun f ms2 w'=>ms2=ms∧gN live I m (m0 w) f w') Q e f' ms' w'∧ax (writes c) g f') (fun e f' ms' w hs h=>⟨h,hs⟩) ms w (h2 w h1)
   refine Go.wpIn_mono (dC hm c p rd ro hro k _ g ms w a hg h4) fun e a' w' ⟨f',ms',hr',h',hs'⟩=> ?_
   cases e with
   |normal=>
    obtain ⟨e,h'⟩:=h'
    subst e
    refine ⟨⟨f',hr',kZ h',hgs.trans hs'⟩,?_⟩
    have:=ll hr' h'
    simp only [h3]
    exact this
   |_=>exact ⟨f',ms',hr',h'⟩
  |true=>
   rw [hc] at h
   obtain ⟨I,m,h0,hall⟩:=h
   refine Go.wpIn_loop (fun a w=> ∃f' ms',Rel nn (ms'.map mark) a f'∧leaf live (I ms') f' w∧ax (writes c) f f') (fun a w=>mS a w live m) ⟨f,ms,hr,h0,ax.refl _ _⟩ fun a w ⟨f1,ms1,hr,hI,hs⟩=> ?_
   obtain ⟨I0,m0,g,hg,h1,⟨hgs,h2⟩,h3⟩:=pB hr live (I ms1) m _ (hr.BM hsh hs) hI (iS (fun s k hk=>ax.sa hl hk) (fun s hs=>dv hs) (hall ms1))
   have h4:=ff c p (Q':=fun e f' ms' w'=>qY (fun f ms2 w'=>gN live (I ms2) m (m0 w) f w') Q e f' ms' w'∧ax (writes c) g f') (fun e f' ms' w hs h=>⟨h,hs⟩) ms1 w (h2 w h1)
   refine Go.wpIn_mono (dC hm c p rd ro hro k _ g ms1 w a hg h4) fun e a' w' ⟨f',ms',hr',h',hs'⟩=> ?_
   cases e with
   |normal=>
    refine ⟨⟨f',ms',hr',kZ h',hgs.trans hs'⟩,?_⟩
    have:=ll hr' h'
    simp only [h3]
    exact this
   |_=>exact ⟨f',ms',hr',h'⟩
 | .rangeFunc g ps assign body,.r ks p q,rd,ro,hro,k,Q,f,ms,w,a,hr,h=>by
  unfold gh at h
  cases rd
  ·cases ro with
   |some l=>cases hro
   |none=>
    simp only at h
    split at h
    ·rename_i v hv
     refine wpIn_rangeFunc fun fn _=> ?_
     have hcl:=h (fun i=> .loop (match i with
       |0=>{state:= .ready,pending:=none,fn,tmps:=a.tmps,params:=ps,assign,body,defers:=w.heap.size}
       |1=>{state:= .busy,pending:=none,fn,tmps:=a.tmps,params:=ps,assign,body,defers:=w.heap.size}
       |2=>{state:= .done,pending:=some .ret,fn,tmps:=a.tmps,params:=ps,assign,body,defers:=w.heap.size}
       |3=>{state:= .exhausted,pending:=none,fn,tmps:=a.tmps,params:=ps,assign,body,defers:=w.heap.size}
       |_=>{state:= .exhausted,pending:=some .ret,fn,tmps:=a.tmps,params:=ps,assign,body,defers:=w.heap.size}))
      (.func (.yield (w.heap.size+1)) #[] #[]) (fun R w2=>sG fun vs hrec hB=> ?_)
     ·unfold pL at hcl
      split at hcl
      ·rename_i i first captured
       obtain ⟨hok,hc⟩:=aP hcl
       have he:=run_enterLoop_outer (P:=P) (w:=w) fn a.tmps ps assign body
       obtain ⟨w1,hw1⟩: ∃w1,w1=(w.alloc (.deferred (some []))).alloc (.loop {state:= .ready,pending:=none,fn,tmps:=a.tmps,params:=ps,assign,body,defers:=w.heap.size}):=⟨_,rfl⟩
       rw [←hw1] at he
       refine ⟨w.heap.size+1,[mark w.heap.size],w1,{target:= .fn (.func i) captured,args:=first++ #[.func (.yield (w.heap.size+1)) #[] #[]]},w1,i,⟨first.toList++ [.func (.yield (w.heap.size+1)) #[] #[]]++captured.toList⟩,w1,
        he,?_,fun _ _=>trivial,?_,fun hh=>(by cases hh),?_⟩
       ·have hg:=hr.ev hv
        simp only [resolve,hg,Deferred.ofValue,Sem.run_pure]
        simp [Act.eval]
       ·have hcc:=o7 (P:=P) hok
        have e:(first++ #[Value.func (.yield (w.heap.size+1)) #[] #[]])++captured=⟨first.toList++ [.func (.yield (w.heap.size+1)) #[] #[]]++captured.toList⟩:=by
         apply Array.ext';simp
        simp only [invoke,e]
        exact hcc _ _
       ·refine (callsIn_wide (n:=k - 1)).2 ?_
        rw [hw1]
        refine Calls.mono hc fun e w3 hp=> ?_
        have hrel:Rel nn ((w.heap.size::ms).map mark) {a with defers:= [mark w.heap.size]++a.defers} f:=⟨hr.size,hr.shape,by simp [hr.defs],hr.val⟩
        cases e with
        |returned v'=>
         have hp:=BV hp
         rcases hp with ⟨h1,h2⟩|⟨h1,h2⟩
         ·exact ⟨none,_,run_endLoop h1 (by simp),⟨f,_,hrel,h2⟩⟩
         ·exact ⟨some .ret,_,run_endLoop h1 (by simp),wpIn_ret ⟨f,_,hrel,h2⟩⟩
        |panicked=>exact hp.elim
        |outgrown=>exact hp.elim
      ·exact hcl.elim
     ·split at hB
      ·rename_i f' hf'
       have hr0:Rel nn [] {tmps:=a.tmps,defers:= []} f:=⟨hr.size,hr.shape,rfl,hr.val⟩
       obtain ⟨hlen,hrel⟩:=u9 hr0 hf'
       have hz:(ps.zip (⟨vs⟩:Array Value)).foldl (fun tmps (t,a)=>tmps.setIfInBounds t a) a.tmps=(ps.toList.zip vs).foldl (fun tmps (t,a)=>tmps.setIfInBounds t a) a.tmps:=by
        rw [←Array.foldl_toList];simp
       refine ⟨fn,_,assign,body,run_yield hrec (by simpa using hlen.symm),?_⟩
       refine RoundIn.mono (R:=fun e w'=> ∃b,e= .returned (.bool b)∧R b w') ?_ fun e w' ⟨b,h1,h2⟩=>⟨b,h1,h2⟩
       refine roundIn_of_wpIn trivial ?_
       simp only [List.nil_append,hz]
       refine Go.wpIn_mono (dC hm assign p true (some (w.heap.size+1)) rfl 0 _ f' [] w2 _ hrel hB) fun e a1 w1 ⟨f1,ms1,hr1,h1⟩=> ?_
       cases e with
       |normal=>
        obtain ⟨h2,h3⟩:=h1
        refine ⟨_,run_beginRound h2 rfl,?_⟩
        refine Go.wpIn_mono (dC hm body q true (some (w.heap.size+1)) rfl 0 _ f1 ms1 _ _ hr1 h3) fun e a2 w4 ⟨f2,ms2,hr2,h4⟩=> ?_
        cases e with
        |normal=>
         obtain ⟨h5,h6⟩:=h4
         exact ⟨_,_,run_endRound none h5,true,rfl,h6⟩
        |ret=>
         obtain ⟨h5,h6⟩:=h4
         exact ⟨_,_,run_endRound (some .ret) h5,false,rfl,h6⟩
        |exit id=>exact h4.elim
        |goto t=>exact h4.elim
        |panic c=>exact h4.elim
        |outgrown=>exact h4.elim
       |exit id=>exact h1.elim
       |goto t=>exact h1.elim
       |ret=>exact h1.elim
       |panic c=>exact h1.elim
       |outgrown=>exact h1.elim
      ·exact hB.elim
    ·exact h.elim
  ·exact h.elim
 | .exit id,_,rd,ro,hro,k,Q,f,ms,w,a,hr,h=>wpIn_exit ⟨f,ms,hr,h⟩
 | .ret,_,rd,ro,hro,k,Q,f,ms,w,a,hr,h=>wpIn_ret ⟨f,ms,hr,h⟩
 | .label _,_,rd,ro,hro,k,Q,f,ms,w,a,hr,h=>wpIn_label ⟨f,ms,hr,h⟩
 | .seq _ _,.o,_,_,_,_,_,_,_,_,_,_,h=>h.elim
 | .seq _ _,.c _ _,_,_,_,_,_,_,_,_,_,_,h=>h.elim
 | .seq _ _,.b _,_,_,_,_,_,_,_,_,_,_,h=>h.elim
 | .seq _ _,.l _ _,_,_,_,_,_,_,_,_,_,_,h=>h.elim
 | .seq _ _,.r _ _ _,_,_,_,_,_,_,_,_,_,_,h=>h.elim
 | .cond _ _ _,.o,_,_,_,_,_,_,_,_,_,_,h=>h.elim
 | .cond _ _ _,.s _ _,_,_,_,_,_,_,_,_,_,_,h=>h.elim
 | .cond _ _ _,.b _,_,_,_,_,_,_,_,_,_,_,h=>h.elim
 | .cond _ _ _,.l _ _,_,_,_,_,_,_,_,_,_,_,h=>h.elim
 | .cond _ _ _,.r _ _ _,_,_,_,_,_,_,_,_,_,_,h=>h.elim
 | .block _ _,.o,_,_,_,_,_,_,_,_,_,_,h=>h.elim
 | .block _ _,.s _ _,_,_,_,_,_,_,_,_,_,_,h=>h.elim
 | .block _ _,.c _ _,_,_,_,_,_,_,_,_,_,_,h=>h.elim
 | .block _ _,.l _ _,_,_,_,_,_,_,_,_,_,_,h=>h.elim
 | .block _ _,.r _ _ _,_,_,_,_,_,_,_,_,_,_,h=>h.elim
 | .loop _,.o,_,_,_,_,_,_,_,_,_,_,h=>h.elim
 | .loop _,.s _ _,_,_,_,_,_,_,_,_,_,_,h=>h.elim
 | .loop _,.c _ _,_,_,_,_,_,_,_,_,_,_,h=>h.elim
 | .loop _,.b _,_,_,_,_,_,_,_,_,_,_,h=>h.elim
 | .loop _,.r _ _ _,_,_,_,_,_,_,_,_,_,_,h=>h.elim
 | .rangeFunc _ _ _ _,.o,_,_,_,_,_,_,_,_,_,_,h=>h.elim
 | .rangeFunc _ _ _ _,.s _ _,_,_,_,_,_,_,_,_,_,_,h=>h.elim
 | .rangeFunc _ _ _ _,.c _ _,_,_,_,_,_,_,_,_,_,_,h=>h.elim
 | .rangeFunc _ _ _ _,.b _,_,_,_,_,_,_,_,_,_,_,h=>h.elim
 | .rangeFunc _ _ _ _,.l _ _,_,_,_,_,_,_,_,_,_,_,h=>h.elim
 | .scope _,_,_,_,_,_,_,_,_,_,_,_,h=>h.elim
 | .goto _,_,_,_,_,_,_,_,_,_,_,_,h=>h.elim
 | .refuse _,_,_,_,_,_,_,_,_,_,_,_,h=>h.elim
def kx:List Nat→World→(World→Prop)→Prop
 | [],w,K=>K w
 |r::rs,w,K=>w.heap[r]? =some (.deferred (some []))∧kx rs (w.putObj r (.deferred none)) K
def Ev (P:Program) (rs:List ResultVar) (ks:List Ki) (K:ea ks (World→Prop)):Exit→AF→List Nat→World→Prop
 | .normal,f,ms,w| .ret,f,ms,w=>kx ms w fun w=>oL P rs f w [] fun vs=>eQ ks (dq vs) K w
 |_,_,_,_=>False
theorem zL {P:Program} (hm:P.follows .mixedOrders=true) {i:FuncId} {fn:Func} {c:Code} {args:List Value} {w:World} {ks:List Ki} {K:ea ks (World→Prop)} (n:Nat) (rs:List ResultVar)
  (hf:P.funcs[i]? =some fn) (hb:fn.body=some c) (hn:fn.ntmps=n) (hl:args.length≤n) (hrs:fn.results.toList=rs) (p:iz) (h:gh P n false c p (Ev P rs ks K) (cB args n) [] w):Cl P ks i ⟨args⟩ w K:=by
 refine (callsIn_wide (n:=0)).1 (callsIn_of_wp_marks (F:=Fence.wide) hf hb trivial ?_)
 subst hn;subst hrs
 have hsz:((⟨args⟩:Array Value)++Array.replicate (fn.ntmps - (⟨args⟩:Array Value).size) undef).size=fn.ntmps:=by simp;omega
 have hr:Rel fn.ntmps (([]:List Nat).map mark) {tmps:=(⟨args⟩:Array Value)++Array.replicate (fn.ntmps - (⟨args⟩:Array Value).size) undef,defers:= []} (cB args fn.ntmps):=by
  refine ⟨hsz,fun i hi=>lN _ _ _ _ hi,rfl,fun i v hv=> ?_⟩
  have h1:=qP _ _ _ _ _ hv
  simp only [Option.some.injEq] at h1
  have hi:i<fn.ntmps:=lN _ _ _ _ (gK hv)
  simp only [Array.getD_eq_getD_getElem?]
  have h2:((⟨args⟩:Array Value)++Array.replicate (fn.ntmps - (⟨args⟩:Array Value).size) undef)[i]? =(args++List.replicate (fn.ntmps - args.length) undef)[i]? :=by
   rw [←Array.getElem?_toList]
   simp
  rw [h2,←h1]
  by_cases ha:i<args.length
  ·simp [List.getElem?_append_left ha,List.getD_eq_getElem?_getD]
  ·rw [List.getElem?_append_right (by omega),List.getElem?_replicate]
   rw [if_pos (by omega)]
   simp [List.getD_eq_getElem?_getD,List.getElem?_eq_none (by omega:args.length≤i)]
 refine Go.wpIn_mono (dC hm c p false none rfl 0 _ _ [] w _ hr h) fun e a w' ⟨f,ms,hr,hq⟩=> ?_
 have fin: ∀(ms:List Nat) (w':World),(kx ms w' fun w=>oL P fn.results.toList f w [] fun vs=>eQ ks (dq vs) K w)→LeavesInM Fence.wide 0 P fn a.tmps (nS ks K) (ms.map mark) .returning w':=by
  intro ms
  induction ms with
  |nil=>
   intro w' hq
   obtain ⟨vs,h1,h2⟩:=kW hr _ _ hq
   refine ⟨dq vs,?_,h2⟩
   rw [sF,Array.mapM_eq_mapM_toList]
   simp only [Sem.run_bind,Sem.run_map,h1,Result.andThen_ok,Sem.run_pure]
   congr 1
   match vs with
   | []=>rfl
   | [v]=>rfl
   |a::b::l=>simp [dq]
  |cons r ms ih=>
   intro w' hq
   exact ⟨by simp,.inl ⟨r,_,rfl,run_takeDeferred hq.1,ih _ hq.2⟩⟩
 have hd:=hr.defs
 cases e<;>first|exact hq.elim|(show LeavesInM _ _ _ _ _ _ a.defers _ _;rw [hd];exact fin ms w' hq)
theorem xg {P:Program} (hm:P.follows .mixedOrders=true) {i:FuncId} {w:World} {F:Prop} (fn:Func) (args:List Value) (ks:List Ki) (K:ea ks (World→Prop)) (n:Nat) (rs:List ResultVar)
  (hf:P.funcs[i]? =some fn) (hb:fn.body=some (fn.body.getD .skip)) (hn:fn.ntmps=n) (hl:Nat.ble args.length n=true) (hrs:fn.results.toList=rs) (p:iz)
  (he:gh P n false (fn.body.getD .skip) p (Ev P rs ks K) (cB args n) [] w=F) (h:F):Cl P ks i ⟨args⟩ w K:=
 zL hm n rs hf hb hn (Nat.le_of_ble_eq_true hl) hrs p (he▸h)
end
end Go.Vc
set_option maxRecDepth 20000
namespace Go.Vc
open Go
noncomputable section
variable {nn:Nat} {dfs:List Deferred}
end
end Go.Vc
namespace Go.Proofs.YtcdpblipagajiaaGreat
open Go Go.Vc
abbrev fW:Nat:=6
abbrev bH:Nat:=11
abbrev cQ:Nat:=12
abbrev bq:Nat:=14
abbrev eV:Nat:=16
abbrev jI:Nat:=17
abbrev jC:Nat:=18
abbrev en:Nat:=19
abbrev jc:Nat:=21
abbrev cI:Nat:=26
abbrev ln:Nat:=27
abbrev jB:Nat:=29
abbrev eW:Nat:=30
abbrev gW:Nat:=42
abbrev oJ:Nat:=43
abbrev jv:Nat:=44
abbrev fU:Nat:=45
abbrev jo:Nat:=46
abbrev ia:Nat:=47
abbrev jd:Nat:=48
abbrev dH:Nat:=49
abbrev eI:Nat:=50
abbrev jX:Nat:=51
abbrev fZ:Nat:=52
abbrev jT:Nat:=53
abbrev dy:Nat:=54
abbrev oT:Nat:=55
abbrev gB:Nat:=56
abbrev da:Nat:=57
abbrev pC:Nat:=61
abbrev mr:Nat:=62
abbrev j8:Nat:=71
abbrev nF:Nat:=72
abbrev l7:Nat:=73
abbrev kJ:Nat:=74
abbrev fV:Nat:=84
abbrev bx:Nat:=85
abbrev dw:Nat:=86
abbrev qt:Nat:=87
abbrev oR:Nat:=88
abbrev kF:Nat:=89
abbrev ji:Nat:=90
abbrev mn:Nat:=91
abbrev jV:Nat:=92
abbrev cP:Nat:=93
abbrev iN:Nat:=94
abbrev cN:Nat:=95
abbrev iI:Nat:=96
abbrev gY:Nat:=97
abbrev eJ:Nat:=98
abbrev ju:Nat:=99
abbrev gi:Nat:=100
abbrev jA:Nat:=101
abbrev mc:Nat:=102
abbrev fy:Nat:=103
abbrev kK:Nat:=104
abbrev im:Nat:=105
abbrev my:Nat:=106
abbrev j7:Nat:=107
abbrev cg:Nat:=108
abbrev nO:Nat:=114
abbrev kE:Nat:=115
abbrev mf:Nat:=122
abbrev mi:Nat:=130
abbrev dS:Nat:=131
abbrev nE:Nat:=132
abbrev gF:Nat:=133
abbrev qk:Nat:=134
abbrev fe:Nat:=135
abbrev mW:Nat:=136
abbrev jr:Nat:=137
abbrev fj:Nat:=138
abbrev dx:Nat:=139
abbrev eS:Nat:=140
abbrev fN:Nat:=141
abbrev dW:Nat:=142
abbrev iR:Nat:=143
abbrev iH:Nat:=144
abbrev lT:Nat:=145
abbrev eD:Nat:=146
abbrev dr:Nat:=147
abbrev gU:Nat:=148
abbrev dc:Nat:=149
abbrev dh:Nat:=150
abbrev cH:Nat:=151
abbrev bG:Nat:=152
abbrev gn:Nat:=153
abbrev hC:Nat:=154
abbrev eK:Nat:=155
abbrev gJ:Nat:=156
abbrev jU:Nat:=157
abbrev kL:Nat:=158
abbrev nu:Nat:=163
abbrev mE:Nat:=164
abbrev nv:Nat:=167
abbrev iC:Nat:=170
abbrev qf:Nat:=172
abbrev j0:Nat:=173
abbrev kT:Nat:=174
abbrev lh:Nat:=175
abbrev oa:Nat:=176
abbrev gX:Nat:=177
abbrev jL:Nat:=178
abbrev bK:Nat:=179
abbrev ij:Nat:=180
abbrev cu:Nat:=181
abbrev eG:Nat:=182
abbrev il:Nat:=183
abbrev iK:Nat:=184
abbrev gP:Nat:=185
abbrev kn:Nat:=186
abbrev me:Nat:=187
abbrev jE:Nat:=188
abbrev fM:Nat:=189
abbrev gD:Nat:=190
abbrev iy:Nat:=191
abbrev jY:Nat:=192
abbrev iA:Nat:=193
abbrev ja:Nat:=194
abbrev gz:Nat:=195
abbrev kO:Nat:=196
abbrev oY:Nat:=198
abbrev cJ:Nat:=199
abbrev lW:Nat:=200
abbrev db:Nat:=201
abbrev fQ:Nat:=202
abbrev fA:Nat:=203
abbrev kf:Nat:=204
abbrev gZ:Nat:=205
abbrev gI:Nat:=206
abbrev jJ:Nat:=207
abbrev cm:Nat:=208
abbrev cZ:Nat:=209
abbrev jR:Nat:=210
abbrev lY:Nat:=211
abbrev bz:Nat:=213
abbrev aN:Nat:=214
abbrev kD:Nat:=215
abbrev jb:Nat:=216
abbrev bR:Nat:=217
abbrev di:Nat:=220
abbrev kR:Nat:=222
abbrev bu:Nat:=233
noncomputable abbrev Pg:Program:=Tryz.prog
theorem Tryz.mix:Tryz.prog.follows .mixedOrders=true:=by kernel_rfl
theorem co {i:FuncId} {w:World} {F:Prop} {args:List Value} {ks:List Ki} {K:ea ks (World→Prop)} (fn:Func) (L:List (Nat×List (Nat×Ki))) (h:F) (hf:Pg.funcs[i]? =some fn:=by kernel_rfl) (hb:fn.body=some (fn.body.getD .skip):=by kernel_rfl) (hl:Nat.ble args.length fn.ntmps=true:=by kernel_rfl) (he:vc Pg fn.ntmps (fn.body.getD .skip) (sZ (fn.body.getD .skip) 0 L).1 (B0 Pg fn.results.toList ks K) (cB args fn.ntmps) w=F:=by kernel_rfl):Cl Pg ks i ⟨args⟩ w K:=
 zM Tryz.mix fn args ks K fn.ntmps fn.results.toList hf hb rfl hl rfl (sZ (fn.body.getD .skip) 0 L).1 he h
theorem By {i:FuncId} {w:World} {F:Prop} {args:List Value} {ks:List Ki} {K:ea ks (World→Prop)} (fn:Func) (p:iz) (h:F) (hf:Pg.funcs[i]? =some fn:=by kernel_rfl) (hb:fn.body=some (fn.body.getD .skip):=by kernel_rfl) (hl:Nat.ble args.length fn.ntmps=true:=by kernel_rfl) (he:gh Pg fn.ntmps false (fn.body.getD .skip) p (Ev Pg fn.results.toList ks K) (cB args fn.ntmps) [] w=F:=by kernel_rfl):Cl Pg ks i ⟨args⟩ w K:=
 xg Tryz.mix fn args ks K fn.ntmps fn.results.toList hf hb rfl hl rfl p he h
abbrev bj:List Sc:= [.int .i64,.int .i64,.int .i64,.int .i64,.int .i64,.int .u32,.int .i64]
abbrev Dh:List Sc:= [.int .i64,.int .i64,.int .i64,.int .i64,.int .i64,.int .i64,.int .i64,.int .i64,.int .i64,.int .i64,.int .i64,.int .i64,.int .i64,.int .i64,.int .i64,.int .i64]
end Go.Proofs.YtcdpblipagajiaaGreat
namespace Go.Proofs.YtcdpblipagajiaaGreat
open Go Go.Vc
set_option maxRecDepth 100000
theorem rX.ok (a:Sl) (b:Int) (c:Int) (d:Int) (R:Bool→World→Prop) w (h:
 bf (fun (k:World)=>
 Cl Pg [kS,kI] cQ ⟨[(ni 65536),(al a)]⟩ k fun (m:Sl) (n:Int) l=>
 Cl Pg [kS,kI] jI ⟨[(al a)]⟩ l fun (p:Sl) (q:Int) o=>
 Nw 22 ⟨[(al a)]⟩ o fun s r=>
 Cl Pg [(az .u32)] ln ⟨[(al (⟨some ⟨s,0,none⟩,1,1⟩:Sl))]⟩ r fun (u:Int) t=>
 Nw 53 ⟨[(ni 0),(ni 0),(.int .u32 0)]⟩ t fun x v=>
 ak ⟨x,0,none⟩ [(ni (a.len:Int)),(ni q),(.int .u32 u)] 0 v fun y=>
 Ld (.st [.int .i64,.int .i64,.int .u32]) ⟨x,0,none⟩ y fun z=>
 Cl Pg [kS,kI] cI ⟨[(ni 65536),(.agg ⟨[(ni z.1),(ni z.2.1),(.int .u32 z.2.2.1)]⟩)]⟩ y fun (b1:Sl) (c1:Int) a1=>
 bf (fun (v1:World)=>
 bg m (b1.len:Int) (m).len (m).cap 1 fun x1=>
 bf (fun (c4:Addr) (d4:Addr) (e4:Addr) (f4:World)=>
 St (c4.add 1) (ni b) f4 fun g4=>
 St (d4.add 2) (.int .u32 c) g4 fun h4=>
 St (e4.add 0) (ni d) h4 fun i4=>
 St (e4.add 1) (ni 1) i4 fun j4=>
 Ld (.st [.int .i64,.int .i64,.int .u32]) c4 j4 fun k4=>
 Cl Pg [kS,kI] cI ⟨[(ni 65536),(.agg ⟨[(ni k4.1),(ni k4.2.1),(.int .u32 k4.2.2.1)]⟩)]⟩ j4 fun (m4:Sl) (n4:Int) l4=>
 Ld (.st [.int .i64,.int .i64,.int .u32]) d4 l4 fun o4=>
 Cl Pg [kS,kI] cI ⟨[(ni 65536),(.agg ⟨[(ni o4.1),(ni o4.2.1),(.int .u32 o4.2.2.1)]⟩)]⟩ l4 fun (q4:Sl) (r4:Int) p4=>
 Ld (.st [.int .i64,.int .i64,.int .u32]) e4 p4 fun s4=>
 Cl Pg [kS,kI] cI ⟨[(ni 65536),(.agg ⟨[(ni s4.1),(ni s4.2.1),(.int .u32 s4.2.2.1)]⟩)]⟩ p4 fun (u4:Sl) (v4:Int) t4=>
 aA Pg (Builtin.append_ #[22,22] 22 ⟨[(al m4),(al x1)]⟩) kS t4 fun (y4:Sl) x4=>
 Cl Pg [kS,kS,kI] bq ⟨[(ni 65536),(al y4)]⟩ x4 fun (a5:Sl) (b5:Sl) (c5:Int) z4=>
 aA Pg (Builtin.append_ #[22,22] 22 ⟨[(al q4),(al x1)]⟩) kS z4 fun (e5:Sl) d5=>
 Cl Pg [kS,kS,kI] bq ⟨[(ni 65536),(al e5)]⟩ d5 fun (g5:Sl) (h5:Sl) (i5:Int) f5=>
 aA Pg (Builtin.append_ #[22,22] 22 ⟨[(al u4),(al x1)]⟩) kS f5 fun (k5:Sl) j5=>
 Cl Pg [kS,kS,kI] bq ⟨[(ni 65536),(al k5)]⟩ j5 fun (m5:Sl) (n5:Sl) (o5:Int) l5=>
 Cl Pg [kS,kI] jB ⟨[(al p),(ni b)]⟩ l5 fun (q5:Sl) (r5:Int) p5=>
 bf (fun (n6:Int) (o6:World)=>
 aa (c5==n6)
 (aa (b !=q)
 (Ld (az .u32) (Addr.add ⟨x,0,none⟩ 2) o6 fun (p6:Int)=>
 aa ((i5==0)==(c==p6))
 (aa (i5==0)
 (aa (d==(a.len:Int))
 (Cl Pg [kB] bH ⟨[]⟩ o6 fun (r6:Bool) q6=>
 R r6 q6)
 (aa (o5==160)
 (Cl Pg [kB] bH ⟨[]⟩ o6 fun (t6:Bool) s6=>
 R t6 s6)
 (R false o6)))
 (aa (i5==250)
 (aa (d==(a.len:Int))
 (Cl Pg [kB] bH ⟨[]⟩ o6 fun (v6:Bool) u6=>
 R v6 u6)
 (aa (o5==160)
 (Cl Pg [kB] bH ⟨[]⟩ o6 fun (y6:Bool) x6=>
 R y6 x6)
 (R false o6)))
 (R false o6)))
 (R false o6))
 (aa (c5==0)
 (Ld (az .u32) (Addr.add ⟨x,0,none⟩ 2) o6 fun (z6:Int)=>
 aa ((i5==0)==(c==z6))
 (aa (i5==0)
 (aa (d==(a.len:Int))
 (Cl Pg [kB] bH ⟨[]⟩ o6 fun (b7:Bool) a7=>
 R b7 a7)
 (aa (o5==160)
 (Cl Pg [kB] bH ⟨[]⟩ o6 fun (d7:Bool) c7=>
 R d7 c7)
 (R false o6)))
 (aa (i5==250)
 (aa (d==(a.len:Int))
 (Cl Pg [kB] bH ⟨[]⟩ o6 fun (f7:Bool) e7=>
 R f7 e7)
 (aa (o5==160)
 (Cl Pg [kB] bH ⟨[]⟩ o6 fun (h7:Bool) g7=>
 R h7 g7)
 (R false o6)))
 (R false o6)))
 (R false o6))
 (R false o6)))
 (R false o6)) fun s5=>
 aa (r5==0)
 (eB p5 fun e6 f6=>
 ae (az .u32) (Addr.add ⟨x,0,none⟩ 2) e6 fun (g6:Int)=>
 Cl Pg [kS] eW ⟨[(al q5)]⟩ f6 fun (i6:Sl) h6=>
 e6 h6∧
 Nw 22 ⟨[(al i6)]⟩ h6 fun k6 j6=>
 e6 j6∧
 Cl Pg [(az .u32)] ln ⟨[(al (⟨some ⟨k6,0,none⟩,1,1⟩:Sl))]⟩ j6 fun (m6:Int) l6=>
 e6 l6∧
 aa (m6==g6)
 (s5 0 l6)
 (s5 250 l6))
 (s5 170 p5)) fun y1=>
 eB v1 fun z1 a2=>
 ae (.st [.int .i64,.int .i64,.int .u32]) ⟨x,0,none⟩ z1 fun b2=>
 ae (.st [.int .i64,.int .i64,.int .u32]) ⟨x,0,none⟩ z1 fun c2=>
 ae (.st [.int .i64,.int .i64,.int .u32]) ⟨x,0,none⟩ z1 fun d2=>
 (Nw 53 ⟨[(ni 0),(ni 0),(.int .u32 0)]⟩ a2 fun f2 e2=>
 z1 e2∧
 (Nw 53 ⟨[(ni 0),(ni 0),(.int .u32 0)]⟩ e2 fun h2 g2=>
 z1 g2∧
 Nw 53 ⟨[(ni 0),(ni 0),(.int .u32 0)]⟩ g2 fun j2 i2=>
 z1 i2∧
 ak ⟨f2,0,none⟩ [(ni b2.1),(ni b2.2.1),(.int .u32 b2.2.2.1)] 0 i2 fun k2=>
 z1 k2∧
 ak ⟨h2,0,none⟩ [(ni c2.1),(ni c2.2.1),(.int .u32 c2.2.2.1)] 0 k2 fun l2=>
 z1 l2∧
 ak ⟨j2,0,none⟩ [(ni d2.1),(ni d2.2.1),(.int .u32 d2.2.2.1)] 0 l2 fun m2=>
 z1 m2∧
 y1 (⟨f2,0,none⟩) (⟨h2,0,none⟩) (⟨j2,0,none⟩) m2)∧
 (Nw 53 ⟨[(ni 0),(ni 0),(.int .u32 0)]⟩ e2 fun o2 n2=>
 z1 n2∧
 Nw 53 ⟨[(ni 0),(ni 0),(.int .u32 0)]⟩ n2 fun q2 p2=>
 z1 p2∧
 ak ⟨f2,0,none⟩ [(ni b2.1),(ni b2.2.1),(.int .u32 b2.2.2.1)] 0 p2 fun r2=>
 z1 r2∧
 ak ⟨q2,0,none⟩ [(ni c2.1),(ni c2.2.1),(.int .u32 c2.2.2.1)] 0 r2 fun s2=>
 z1 s2∧
 ak ⟨o2,0,none⟩ [(ni d2.1),(ni d2.2.1),(.int .u32 d2.2.2.1)] 0 s2 fun t2=>
 z1 t2∧
 y1 (⟨f2,0,none⟩) (⟨q2,0,none⟩) (⟨o2,0,none⟩) t2))∧
 (Nw 53 ⟨[(ni 0),(ni 0),(.int .u32 0)]⟩ a2 fun v2 u2=>
 z1 u2∧
 (Nw 53 ⟨[(ni 0),(ni 0),(.int .u32 0)]⟩ u2 fun y2 x2=>
 z1 x2∧
 Nw 53 ⟨[(ni 0),(ni 0),(.int .u32 0)]⟩ x2 fun a3 z2=>
 z1 z2∧
 ak ⟨y2,0,none⟩ [(ni b2.1),(ni b2.2.1),(.int .u32 b2.2.2.1)] 0 z2 fun b3=>
 z1 b3∧
 ak ⟨v2,0,none⟩ [(ni c2.1),(ni c2.2.1),(.int .u32 c2.2.2.1)] 0 b3 fun c3=>
 z1 c3∧
 ak ⟨a3,0,none⟩ [(ni d2.1),(ni d2.2.1),(.int .u32 d2.2.2.1)] 0 c3 fun d3=>
 z1 d3∧
 y1 (⟨y2,0,none⟩) (⟨v2,0,none⟩) (⟨a3,0,none⟩) d3)∧
 (Nw 53 ⟨[(ni 0),(ni 0),(.int .u32 0)]⟩ u2 fun f3 e3=>
 z1 e3∧
 Nw 53 ⟨[(ni 0),(ni 0),(.int .u32 0)]⟩ e3 fun h3 g3=>
 z1 g3∧
 ak ⟨h3,0,none⟩ [(ni b2.1),(ni b2.2.1),(.int .u32 b2.2.2.1)] 0 g3 fun i3=>
 z1 i3∧
 ak ⟨v2,0,none⟩ [(ni c2.1),(ni c2.2.1),(.int .u32 c2.2.2.1)] 0 i3 fun j3=>
 z1 j3∧
 ak ⟨f3,0,none⟩ [(ni d2.1),(ni d2.2.1),(.int .u32 d2.2.2.1)] 0 j3 fun k3=>
 z1 k3∧
 y1 (⟨h3,0,none⟩) (⟨v2,0,none⟩) (⟨f3,0,none⟩) k3))∧
 (Nw 53 ⟨[(ni 0),(ni 0),(.int .u32 0)]⟩ a2 fun m3 l3=>
 z1 l3∧
 (Nw 53 ⟨[(ni 0),(ni 0),(.int .u32 0)]⟩ l3 fun o3 n3=>
 z1 n3∧
 Nw 53 ⟨[(ni 0),(ni 0),(.int .u32 0)]⟩ n3 fun q3 p3=>
 z1 p3∧
 ak ⟨o3,0,none⟩ [(ni b2.1),(ni b2.2.1),(.int .u32 b2.2.2.1)] 0 p3 fun r3=>
 z1 r3∧
 ak ⟨q3,0,none⟩ [(ni c2.1),(ni c2.2.1),(.int .u32 c2.2.2.1)] 0 r3 fun s3=>
 z1 s3∧
 ak ⟨m3,0,none⟩ [(ni d2.1),(ni d2.2.1),(.int .u32 d2.2.2.1)] 0 s3 fun t3=>
 z1 t3∧
 y1 (⟨o3,0,none⟩) (⟨q3,0,none⟩) (⟨m3,0,none⟩) t3)∧
 (Nw 53 ⟨[(ni 0),(ni 0),(.int .u32 0)]⟩ l3 fun v3 u3=>
 z1 u3∧
 Nw 53 ⟨[(ni 0),(ni 0),(.int .u32 0)]⟩ u3 fun y3 x3=>
 z1 x3∧
 ak ⟨y3,0,none⟩ [(ni b2.1),(ni b2.2.1),(.int .u32 b2.2.2.1)] 0 x3 fun z3=>
 z1 z3∧
 ak ⟨v3,0,none⟩ [(ni c2.1),(ni c2.2.1),(.int .u32 c2.2.2.1)] 0 z3 fun a4=>
 z1 a4∧
 ak ⟨m3,0,none⟩ [(ni d2.1),(ni d2.2.1),(.int .u32 d2.2.2.1)] 0 a4 fun b4=>
 z1 b4∧
 y1 (⟨y3,0,none⟩) (⟨v3,0,none⟩) (⟨m3,0,none⟩) b4))) fun d1=>
 bf (fun (t1:Bool) (u1:World)=>
 aa t1
 (R false u1)
 (d1 u1)) fun e1=>
 bf (fun (r1:Bool) (s1:World)=>
 e1 r1 s1) fun f1=>
 eB a1 fun g1 h1=>
 aa (n !=0)
 ((f1 true h1)∧
 (f1 true h1))
 (aa (decide ((m.len:Int)<(b1.len:Int)))
 ((f1 true h1)∧
 (f1 true h1))
 (bg m 0 (b1.len:Int) (m).cap 1 fun i1=>
 (aA Pg (convert 22 9 (al i1)) nR h1 fun (k1:ByteArray) j1=>
 g1 j1∧
 aA Pg (convert 22 9 (al b1)) nR j1 fun (m1:ByteArray) l1=>
 g1 l1∧
 f1 (!((k1).toList==(m1).toList)) l1)∧
 (aA Pg (convert 22 9 (al b1)) nR h1 fun (o1:ByteArray) n1=>
 g1 n1∧
 aA Pg (convert 22 9 (al i1)) nR n1 fun (q1:ByteArray) p1=>
 g1 p1∧
 f1 (!((q1).toList==(o1).toList)) p1)))) fun e=>
 bf (fun (g:Bool) (h:World)=>
 aa g
 (Cl Pg [kB] bH ⟨[]⟩ h fun (j:Bool) i=>
 R j i)
 (e h)) fun f=>
 aa ((a.len:Int)==0)
 (f true w)
 (aa (decide ((a.len:Int)>100))
 (f true w)
 (aa (decide (b<1))
 (f true w)
 (aa (decide (b>(a.len:Int)))
 (f true w)
 (aa (decide (d<1))
 (f true w)
 (f (decide (d>65536)) w)))))):Cl Pg [kB] fW ⟨[(al a),(ni b),(.int .u32 c),(ni d)]⟩ w R:=co Tryz.f6 [(2,[]),(3,[(63,kB)]),(15,[]),(16,[(105,kB)]),(48,[(35,kI)])] h
theorem zO.ok (R:Bool→World→Prop) w (h:
 Nw 5 ⟨[(.int .u8 97)]⟩ w fun b a=>
 Cl Pg [kS,kI] cQ ⟨[(ni 10),(al (⟨some ⟨b,0,none⟩,1,1⟩:Sl))]⟩ a fun (d:Sl) (e:Int) c=>
 Cl Pg [kS,kI] cQ ⟨[(ni 10),(.slice none 0 0)]⟩ c fun (g:Sl) (h:Int) f=>
 Nw 5 ⟨[(.int .u8 97)]⟩ f fun j i=>
 Cl Pg [kS,kI] cQ ⟨[(ni 0),(al (⟨some ⟨j,0,none⟩,1,1⟩:Sl))]⟩ i fun (l:Sl) (m:Int) k=>
 bf (fun (r:World)=>
 Nw 5 ⟨[]⟩ r fun t s=>
 aA Pg (Builtin.append_ #[22,22] 22 ⟨[(al (⟨some ⟨t,0,none⟩,0,0⟩:Sl)),(al d)]⟩) kS s fun (v:Sl) u=>
 Nw 5 ⟨[(.int .u8 7)]⟩ u fun y x=>
 aA Pg (Builtin.append_ #[22,22] 22 ⟨[(al v),(al (⟨some ⟨y,0,none⟩,1,1⟩:Sl))]⟩) kS x fun (a1:Sl) z=>
 Cl Pg [kS,kS,kI] bq ⟨[(ni 10),(al a1)]⟩ z fun (c1:Sl) (d1:Sl) (e1:Int) b1=>
 Nw 5 ⟨[(.int .u8 0),(.int .u8 0),(.int .u8 0),(.int .u8 0),(.int .u8 0)]⟩ b1 fun g1 f1=>
 Cl Pg [kS,kS,kI] bq ⟨[(ni 10),(al (⟨some ⟨g1,0,none⟩,5,5⟩:Sl))]⟩ f1 fun (i1:Sl) (j1:Sl) (k1:Int) h1=>
 bg d 0 7 (d).cap 1 fun l1=>
 Cl Pg [kS,kS,kI] bq ⟨[(ni 10),(al l1)]⟩ h1 fun (n1:Sl) (o1:Sl) (p1:Int) m1=>
 Nw 5 ⟨[]⟩ m1 fun r1 q1=>
 aA Pg (Builtin.append_ #[22,22] 22 ⟨[(al (⟨some ⟨r1,0,none⟩,0,0⟩:Sl)),(al d)]⟩) kS q1 fun (t1:Sl) s1=>
 ao t1 3 1 fun u1=>
 St u1 (.int .u8 0) s1 fun v1=>
 Cl Pg [kS,kS,kI] bq ⟨[(ni 10),(al t1)]⟩ v1 fun (y1:Sl) (z1:Sl) (a2:Int) x1=>
 Nw 5 ⟨[(.int .u8 97)]⟩ x1 fun c2 b2=>
 Cl Pg [(.arr 258)] jc ⟨[(al (⟨some ⟨c2,0,none⟩,1,1⟩:Sl))]⟩ b2 fun e2 d2=>
 Nw 36 ⟨List.replicate 258 (.int .u8 0)⟩ d2 fun g2 f2=>
 ar 258 ⟨g2,0,none⟩ e2 f2 fun h2=>
 Nw 5 ⟨[(.int .u8 97),(.int .u8 98)]⟩ h2 fun j2 i2=>
 aA Pg (convert 22 22 (al (⟨some ⟨j2,0,none⟩,2,2⟩:Sl))) kS i2 fun (l2:Sl) k2=>
 Cl Pg [kS,kI] eV ⟨[(al l2)]⟩ k2 fun (n2:Sl) (o2:Int) m2=>
 bg d 0 7 (d).cap 1 fun p2=>
 aA Pg (convert 22 9 (al p2)) nR m2 fun (r2:ByteArray) q2=>
 aa ((r2).toList==((ByteArray.mk #[1,1,1,232,183,190,67])).toList)
 (aA Pg (convert 22 9 (al c1)) nR q2 fun (t2:ByteArray) s2=>
 aa ((t2).toList==((ByteArray.mk #[97])).toList)
 (aA Pg (convert 22 9 (al d1)) nR s2 fun (v2:ByteArray) u2=>
 aa ((v2).toList==((ByteArray.mk #[7])).toList)
 (aa (e1==0)
 (aa (k1==242)
 (aa (p1==50)
 (aa (a2==250)
 (aB ⟨g2,0,none⟩ 258 98 1 fun x2=>
 Ld (az .u8) x2 u2 fun (y2:Int)=>
 aa (y2==1)
 (aB ⟨g2,0,none⟩ 258 257 1 fun z2=>
 Ld (az .u8) z2 u2 fun (a3:Int)=>
 aa (a3==1)
 (Nw 5 ⟨[(.int .u8 97)]⟩ u2 fun c3 b3=>
 Cl Pg [kS] en ⟨[(al (⟨some ⟨c3,0,none⟩,1,1⟩:Sl))]⟩ b3 fun (e3:Sl) d3=>
 Nw 3 ⟨[(ni 98),(ni 257)]⟩ d3 fun g3 f3=>
 Cl Pg [kB] jC ⟨[(al e3),(al (⟨some ⟨g3,0,none⟩,2,2⟩:Sl))]⟩ f3 fun (i3:Bool) h3=>
 aa i3
 (aA Pg (convert 22 9 (al n2)) nR h3 fun (k3:ByteArray) j3=>
 aa ((k3).toList==((ByteArray.mk #[97,98])).toList)
 (aa (o2==2)
 (Cl Pg [kS] en ⟨[(.slice none 0 0)]⟩ j3 fun (m3:Sl) l3=>
 Nw 3 ⟨[(ni 257)]⟩ l3 fun o3 n3=>
 Cl Pg [kB] jC ⟨[(al m3),(al (⟨some ⟨o3,0,none⟩,1,1⟩:Sl))]⟩ n3 fun (q3:Bool) p3=>
 R q3 p3)
 (R false j3))
 (R false j3))
 (R false h3))
 (R false u2))
 (R false u2))
 (R false u2))
 (R false u2))
 (R false u2))
 (R false u2))
 (R false u2))
 (R false s2))
 (R false q2)) fun n=>
 bf (fun (p:Bool) (q:World)=>
 aa p
 (R false q)
 (n q)) fun o=>
 aa (e !=0)
 (o true k)
 (aa (h !=2)
 (o true k)
 (aa (m !=2)
 (o true k)
 (o (decide ((d.len:Int)<8)) k)))):Cl Pg [kB] bH ⟨[]⟩ w R:=co Tryz.f11 [(8,[]),(9,[(51,kB)])] h
end Go.Proofs.YtcdpblipagajiaaGreat
namespace Go.Proofs.YtcdpblipagajiaaGreat
open Go Go.Vc
set_option maxRecDepth 100000
theorem Cr.ok (a:Int) (b:Sl) (R:Sl→Int→World→Prop) w (h:
 Cl Pg [kS,kI] eV ⟨[(al b)]⟩ w fun (d:Sl) (e:Int) c=>
 Nw 22 ⟨[(al b)]⟩ c fun g f=>
 Cl Pg [(az .u32)] oJ ⟨[(al (⟨some ⟨g,0,none⟩,1,1⟩:Sl))]⟩ f fun (i:Int) h=>
 Cl Pg [kS,kI] gW ⟨[(ni a),(.agg ⟨[(ni (b.len:Int)),(ni e),(.int .u32 i)]⟩)]⟩ h fun (k:Sl) (l:Int) j=>
 aa (l !=0)
 (R (⟨none,0,0⟩:Sl) 2 j)
 (Cl Pg [kS] jv ⟨[(al d)]⟩ j fun (n:Sl) m=>
 Cl Pg [(.arr 258)] fU ⟨[(al n)]⟩ m fun p o=>
 Nw 36 ⟨List.replicate 258 (.int .u8 0)⟩ o fun r q=>
 ar 258 ⟨r,0,none⟩ p q fun s=>
 Cl Pg [kP] jo ⟨[]⟩ s fun u t=>
 Ld (.arr 258) ⟨r,0,none⟩ t fun v=>
 Cl Pg [kI] ia ⟨[(.pointer u),(.agg v)]⟩ t fun (y:Int) x=>
 Ld (.arr 258) ⟨r,0,none⟩ x fun z=>
 Cl Pg [kI] jd ⟨[(.pointer u),(.agg z),(al n)]⟩ x fun (b1:Int) a1=>
 Cl Pg [kS] dH ⟨[(.pointer u)]⟩ a1 fun (d1:Sl) c1=>
 aA Pg (Builtin.append_ #[22,22] 22 ⟨[(al k),(al d1)]⟩) kS c1 fun (f1:Sl) e1=>
 R f1 0 e1)):Cl Pg [kS,kI] cQ ⟨[(ni a),(al b)]⟩ w R:=co Tryz.f12 [] h
theorem ze.ok (a:Int) (b:Sl) (R:Sl→Sl→Int→World→Prop) w (h:
 Cl Pg [(.st bj),kS,kI] eI ⟨[(ni a),(al b)]⟩ w fun d (e:Sl) (f:Int) c=>
 Nw 74 ⟨[(ni 0),(ni 0),(ni 0),(ni 0),(ni 0),(.int .u32 0),(ni 0)]⟩ c fun h g=>
 ak ⟨h,0,none⟩ [(ni d.1),(ni d.2.1),(ni d.2.2.1),(ni d.2.2.2.1),(ni d.2.2.2.2.1),(.int .u32 d.2.2.2.2.2.1),(ni d.2.2.2.2.2.2.1)] 0 g fun i=>
 aa (f !=0)
 (R (⟨none,0,0⟩:Sl) (⟨none,0,0⟩:Sl) f i)
 (Ld kI (Addr.add ⟨h,0,none⟩ 0) i fun (j:Int)=>
 aa (j !=4)
 (R (⟨none,0,0⟩:Sl) (⟨none,0,0⟩:Sl) 242 i)
 (Cl Pg [kS] jX ⟨[(al e)]⟩ i fun (l:Sl) k=>
 Cl Pg [(.arr 258),kI,kI] fZ ⟨[(al l)]⟩ k fun n (o:Int) (p:Int) m=>
 Nw 36 ⟨List.replicate 258 (.int .u8 0)⟩ m fun r q=>
 ar 258 ⟨r,0,none⟩ n q fun s=>
 aa (p !=0)
 (R (⟨none,0,0⟩:Sl) (⟨none,0,0⟩:Sl) p s)
 (aq s fun d1=>
 Ld kI ((Addr.add ⟨h,0,none⟩ 3).add 0) d1 fun (e1:Int)=>
 Ld (.arr 258) ⟨r,0,none⟩ d1 fun f1=>
 bg l o (l).len (l).cap 1 fun g1=>
 Cl Pg [kS,kI,kI] jT ⟨[(ni e1),(.agg f1),(al g1)]⟩ d1 fun (i1:Sl) (j1:Int) (k1:Int) h1=>
 aa (k1 !=0)
 (R (⟨none,0,0⟩:Sl) (⟨none,0,0⟩:Sl) k1 h1)
 (0≤(3:Int)∧
 0≤(3:Int)∧
 bg l (i64 (o+j1)) (a8 .i64 (aF .i64 (i64 ((i64 (o+j1))+7)) (3:Int)) (3:Int)) (l).cap 1 fun l1=>
 Cl Pg [kB] dy ⟨[(al l1),(ni 1)]⟩ h1 fun (n1:Bool) m1=>
 aa n1
 (R (⟨none,0,0⟩:Sl) (⟨none,0,0⟩:Sl) 160 m1)
 (Ld kI ((Addr.add ⟨h,0,none⟩ 3).add 1) m1 fun (o1:Int)=>
 Cl Pg [kS,kI] oT ⟨[(al i1),(ni o1)]⟩ m1 fun (q1:Sl) (r1:Int) p1=>
 aa (r1 !=0)
 (R (⟨none,0,0⟩:Sl) (⟨none,0,0⟩:Sl) r1 p1)
 (Cl Pg [kS] gB ⟨[(al q1)]⟩ p1 fun (t1:Sl) s1=>
 eB s1 fun d2 e2=>
 ae (az .u32) ((Addr.add ⟨h,0,none⟩ 3).add 2) d2 fun (f2:Int)=>
 Nw 22 ⟨[(al t1)]⟩ e2 fun h2 g2=>
 d2 g2∧
 Cl Pg [(az .u32)] oJ ⟨[(al (⟨some ⟨h2,0,none⟩,1,1⟩:Sl))]⟩ g2 fun (j2:Int) i2=>
 d2 i2∧
 aa (j2 !=f2)
 (R (⟨none,0,0⟩:Sl) (⟨none,0,0⟩:Sl) 250 i2)
 (bg e (aF .i64 (i64 ((i64 (o+j1))+7)) (3:Int)) (e).len (e).cap 1 fun k2=>
 Cl Pg [kS] da ⟨[(al k2)]⟩ i2 fun (m2:Sl) l2=>
 R t1 m2 0 l2)))))))):Cl Pg [kS,kS,kI] bq ⟨[(ni a),(al b)]⟩ w R:=co Tryz.f14 [] h
theorem yG.ok (a:Sl) (R:Sl→Int→World→Prop) w (h:
 Cl Pg [kS] gB ⟨[(al a)]⟩ w fun (c:Sl) b=>
 Cl Pg [kS,kI] pC ⟨[(al c)]⟩ b fun (e:Sl) (f:Int) d=>
 R e f d):Cl Pg [kS,kI] eV ⟨[(al a)]⟩ w R:=co Tryz.f16 [] h
theorem wE.ok (a:Sl) (R:Sl→World→Prop) w (h:
 Cl Pg [kS,kI] eV ⟨[(al a)]⟩ w fun (c:Sl) (d:Int) b=>
 Cl Pg [kS] jv ⟨[(al c)]⟩ b fun (f:Sl) e=>
 R f e):Cl Pg [kS] en ⟨[(al a)]⟩ w R:=co Tryz.f19 [] h
theorem wj.ok (a:Sl) (R:(Array Value)→World→Prop) w (h:
 Nw 36 ⟨List.replicate 258 (.int .u8 0)⟩ w fun c b=>
 Cl Pg [kS] en ⟨[(al a)]⟩ b fun (e:Sl) d=>
 Cl Pg [(.arr 258)] fU ⟨[(al e)]⟩ d fun g f=>
 ar 258 ⟨c,0,none⟩ g f fun h=>
 Ld (.arr 258) ⟨c,0,none⟩ h fun i=>
 R i h):Cl Pg [(.arr 258)] jc ⟨[(al a)]⟩ w R:=co Tryz.f21 [] h
theorem wC.ok (a:Sl) (R:(Array Value)→World→Prop) w (h:
 Nw 36 ⟨List.replicate 258 (.int .u8 0)⟩ w fun c b=>
 Cl Pg [(.arr 258),kI] jV ⟨[(al a)]⟩ b fun e (f:Int) d=>
 Nw 41 ⟨List.replicate 258 (ni 0)⟩ d fun h g=>
 ar 258 ⟨h,0,none⟩ e g fun i=>
 Ld (.arr 258) ⟨h,0,none⟩ i fun j=>
 Cl Pg [(.arr 258),kI] cP ⟨[(.agg j),(ni 15)]⟩ i fun l (m:Int) k=>
 Nw 36 ⟨List.replicate 258 (.int .u8 0)⟩ k fun o n=>
 ar 258 ⟨o,0,none⟩ l n fun p=>
 Ld (.arr 258) ⟨o,0,none⟩ p fun q=>
 ar 258 ⟨c,0,none⟩ q p fun r=>
 Ld (.arr 258) ⟨c,0,none⟩ r fun s=>
 R s r):Cl Pg [(.arr 258)] fU ⟨[(al a)]⟩ w R:=co Tryz.f45 [] h
theorem xh.ok (a:Int) (b:(Array Value)) (c:Sl) (R:Sl→Int→Int→World→Prop) w (h:
 Nw 36 b w fun e d=>
 Ld (.arr 258) ⟨e,0,none⟩ d fun f=>
 Cl Pg [(.arr 260),kI] jA ⟨[(.agg f)]⟩ d fun h (i:Int) g=>
 Nw 145 ⟨List.replicate 258 (.int .u8 0)++ [(ni 0),(ni 0)]⟩ g fun k j=>
 ar 260 ⟨k,0,none⟩ h j fun l=>
 Cl Pg [(.arr 260)] mc ⟨[(ni a)]⟩ l fun n m=>
 Nw 149 ⟨List.replicate 256 (.int .u8 0)++ [(ni 0),(ni 0),(ni 0),(.bool false)]⟩ m fun p o=>
 ar 260 ⟨p,0,none⟩ n o fun q=>
 cD (⟨none,0,0⟩:Sl) 0 q fun r s (t:Sl) (u:Int) v=>
 aa (decide (u<(c.len:Int)))
 (bf (fun (r1:Addr) (s1:Int) (t1:Bool) (u1:World)=>
 Ld (.arr 260) r1 u1 fun v1=>
 ar 260 ⟨k,0,none⟩ v1 u1 fun x1=>
 aa (!t1)
 (r t (i64 (u+1)) x1∧s t (i64 (u+1)) x1<s t u v)
 (Ld (.arr 260) ⟨p,0,none⟩ x1 fun y1=>
 Cl Pg [(.arr 260),kS,kB,kI] kK ⟨[(.agg y1),(ni s1)]⟩ x1 fun a2 (b2:Sl) (c2:Bool) (d2:Int) z1=>
 Nw 149 ⟨List.replicate 256 (.int .u8 0)++ [(ni 0),(ni 0),(ni 0),(.bool false)]⟩ z1 fun f2 e2=>
 ar 260 ⟨f2,0,none⟩ a2 e2 fun g2=>
 aa (d2 !=0)
 (R (⟨none,0,0⟩:Sl) 0 d2 g2)
 (eB g2 fun o2 p2=>
 ae (.arr 260) ⟨f2,0,none⟩ o2 fun q2=>
 aA Pg (Builtin.append_ #[22,22] 22 ⟨[(al t),(al b2)]⟩) kS p2 fun (s2:Sl) r2=>
 o2 r2∧
 ar 260 ⟨p,0,none⟩ q2 r2 fun t2=>
 o2 t2∧
 aa c2
 (R s2 (i64 (u+1)) 0 t2)
 (r s2 (i64 (u+1)) t2∧s s2 (i64 (u+1)) t2<s t u v)))) fun x=>
 eB v fun y z=>
 ae (.arr 260) ⟨k,0,none⟩ y fun a1=>
 ao c u 1 fun b1=>
 ae kI b1 y fun (c1:Int)=>
 (Cl Pg [(.arr 260),kI,kB] fy ⟨[(.agg a1),(ni c1)]⟩ z fun e1 (f1:Int) (g1:Bool) d1=>
 y d1∧
 Nw 145 ⟨List.replicate 258 (.int .u8 0)++ [(ni 0),(ni 0)]⟩ d1 fun i1 h1=>
 y h1∧
 ar 260 ⟨i1,0,none⟩ e1 h1 fun j1=>
 y j1∧
 x (⟨i1,0,none⟩) f1 g1 j1)∧
 (Nw 145 ⟨List.replicate 258 (.int .u8 0)++ [(ni 0),(ni 0)]⟩ z fun l1 k1=>
 y k1∧
 Cl Pg [(.arr 260),kI,kB] fy ⟨[(.agg a1),(ni c1)]⟩ k1 fun n1 (o1:Int) (p1:Bool) m1=>
 y m1∧
 ar 260 ⟨l1,0,none⟩ n1 m1 fun q1=>
 y q1∧
 x (⟨l1,0,none⟩) o1 p1 q1))
 (R (⟨none,0,0⟩:Sl) 0 50 v)):Cl Pg [kS,kI,kI] jT ⟨[(ni a),(.agg b),(al c)]⟩ w R:=co Tryz.f53 [(8,[(6,kS),(7,kI)])] h
theorem xS.ok (a:Sl) (R:Sl→World→Prop) w (h:
 Cl Pg [kS] da ⟨[(al a)]⟩ w fun (c:Sl) b=>
 Cl Pg [] cg ⟨[(al c)]⟩ b fun d=>
 R c d):Cl Pg [kS] gB ⟨[(al a)]⟩ w R:=co Tryz.f56 [] h
end Go.Proofs.YtcdpblipagajiaaGreat
namespace Go.Proofs.YtcdpblipagajiaaGreat
open Go Go.Vc
set_option maxRecDepth 100000
theorem mF.ok (a:Sl) (b:Int) (R:Bool→World→Prop) w (h:
 Cl Pg [kI] im ⟨[(al a),(ni b)]⟩ w fun (d:Int) c=>
 R (decide (d≥0)) c):Cl Pg [kB] dy ⟨[(al a),(ni b)]⟩ w R:=co Tryz.f54 [] h
theorem mG.ok (a:Sl) (R:Sl→World→Prop) w (h:
 cD 0 0 w fun b c (d:Int) (e:Int) f=>
 aa (decide (e<(a.len:Int)))
 (ao a e 1 fun g=>
 Ld kS g f fun (h:Sl)=>
 aa (decide ((i64 (d+(h.len:Int)))<0))
 (False)
 (b (i64 (d+(h.len:Int))) (i64 (e+1)) f∧c (i64 (d+(h.len:Int))) (i64 (e+1)) f<c d e f))
 (Cl Pg [kS] dS ⟨[(.slice none 0 0),(ni d)]⟩ f fun (k:Sl) j=>
 cD k 0 j fun l m (n:Sl) (o:Int) p=>
 aa (decide (o<(a.len:Int)))
 (ao a o 1 fun q=>
 Ld kS q p fun (r:Sl)=>
 aA Pg (Builtin.append_ #[22,22] 22 ⟨[(al n),(al r)]⟩) kS p fun (t:Sl) s=>
 l t (i64 (o+1)) s∧m t (i64 (o+1)) s<m n o p)
 (R n p))):Cl Pg [kS] dw ⟨[(al a)]⟩ w R:=co Tryz.f86 [(7,[(3,kI),(11,kI)]),(25,[(6,kS),(27,kI)])] h
theorem ph.ok (a:Sl) (b:Int) (R:Int→World→Prop) w (h:
 dn 0 w fun c d (e:Int) f=>
 aa (decide (e<(a.len:Int)))
 (ao a e 1 fun g=>
 Ld kI g f fun (h:Int)=>
 aa (b==h)
 (R e f)
 (c (i64 (e+1)) f∧d (i64 (e+1)) f<d e f))
 (R (-1) f)):Cl Pg [kI] im ⟨[(al a),(ni b)]⟩ w R:=co Tryz.f105 [(5,[(8,kI)])] h
theorem l8.ok (a:Sl) (R:World→Prop) w (h:
 cD 0 (i64 ((a.len:Int) - 1)) w fun b c (d:Int) (e:Int) f=>
 aa (decide (d<e))
 (aq f fun g=>
 ao a e 1 fun h=>
 Ld (az .u8) h g fun (i:Int)=>
 ao a d 1 fun j=>
 Ld (az .u8) j g fun (k:Int)=>
 ao a d 1 fun l=>
 St l (.int .u8 i) g fun m=>
 ao a e 1 fun n=>
 St n (.int .u8 k) m fun o=>
 b (i64 (d+1)) (i64 (e - 1)) o∧c (i64 (d+1)) (i64 (e - 1)) o<c d e f)
 (R f)):Cl Pg [] cg ⟨[(al a)]⟩ w R:=co Tryz.f108 [(2,[(2,kI),(3,kI)])] h
theorem nW.ok (a:Sl) (b:Int) (R:Sl→World→Prop) w (h:
 aa (decide (b<0))
 (False)
 (aa (decide ((i64 (b - (i64 ((a.cap:Int) - (a.len:Int)))))>0))
 (bg a 0 (a.cap:Int) (a).cap 1 fun d=>
 aA Pg (Builtin.append_ #[22,3] 22 ⟨[(al d),(ni (i64 (b - (i64 ((a.cap:Int) - (a.len:Int))))))]⟩) kS w fun (f:Sl) e=>
 bg f 0 (a.len:Int) (f).cap 1 fun g=>
 R g e)
 (R a w))):Cl Pg [kS] dS ⟨[(al a),(ni b)]⟩ w R:=co Tryz.f131 [] h
theorem jD.ok (a:Sl) (b:Value) (R:World→Prop) w (h:
 Cl Pg [] db ⟨[(al a),(ni (a.len:Int)),b]⟩ w fun c=>
 R c):Cl Pg [] bK ⟨[(al a),b]⟩ w R:=co Tryz.f179 [] h
theorem ki.ok (a:Sl) (b:Value) (R:Bool→World→Prop) w (h:
 Cl Pg [kI] fA ⟨[(al a),b]⟩ w fun (d:Int) c=>
 R (decide (d≥0)) c):Cl Pg [kB] eG ⟨[(al a),b]⟩ w R:=co Tryz.f182 [] h
theorem mB.ok (a:Sl) (b:Int) (c:Value) (R:World→Prop) w (h:
 cD 0 20 w fun d e (f:Int) (g:Int) h=>
 aa (decide (g≤b))
 (Cl Pg [] bz ⟨[(al a),(ni f),(ni g),c]⟩ h fun i=>
 d g (i64 (g+20)) i∧e g (i64 (g+20)) i<e f g h)
 (Cl Pg [] bz ⟨[(al a),(ni f),(ni b),c]⟩ h fun j=>
 dn 20 j fun k l (m:Int) n=>
 aa (decide (m<b))
 (cD 0 (i64 ((2:Int)*m)) n fun o p (q:Int) (r:Int) s=>
 aa (decide (r≤b))
 (Cl Pg [] aN ⟨[(al a),(ni q),(ni (i64 (q+m))),(ni r),c]⟩ s fun t=>
 o r (i64 (r+(i64 ((2:Int)*m)))) t∧p r (i64 (r+(i64 ((2:Int)*m)))) t<p q r s)
 (aa (decide ((i64 (q+m))<b))
 (Cl Pg [] aN ⟨[(al a),(ni q),(ni (i64 (q+m))),(ni b),c]⟩ s fun u=>
 k (i64 (m*2)) u∧l (i64 (m*2)) u<l m n)
 (k (i64 (m*2)) s∧l (i64 (m*2)) s<l m n)))
 (R n))):Cl Pg [] db ⟨[(al a),(ni b),c]⟩ w R:=co Tryz.f201 [(5,[(7,kI),(8,kI)]),(16,[(6,kI)]),(23,[(7,kI),(8,kI)])] h
theorem ml.ok (a:Sl) (b:Value) (R:Int→World→Prop) w (h:
 dn 0 w fun c d (e:Int) f=>
 aa (decide (e<(a.len:Int)))
 (ao a e 1 fun g=>
 Ld kI g f fun (h:Int)=>
 gO Pg b [kB] [(ni h)] f fun (j:Bool) i=>
 aa j
 (R e i)
 (c (i64 (e+1)) i∧d (i64 (e+1)) i<d e f))
 (R (-1) f)):Cl Pg [kI] fA ⟨[(al a),b]⟩ w R:=co Tryz.f203 [(5,[(8,kI)])] h
theorem jx.ok (a:Sl) (R:Sl→World→Prop) w (h:
 aa (Option.isNone (a).base)
 (R (⟨none,0,0⟩:Sl) w)
 (Nw 239 ⟨[]⟩ w fun c b=>
 aA Pg (Builtin.append_ #[237,237] 237 ⟨[(al (⟨some ⟨c,0,none⟩,0,0⟩:Sl)),(al a)]⟩) kS b fun (e:Sl) d=>
 R e d)):Cl Pg [kS] cm ⟨[(al a)]⟩ w R:=co Tryz.f208 [] h
theorem iZ.ok (a:Sl) (b:Int) (c:Int) (d:Value) (R:World→Prop) w (h:
 dn (i64 (b+1)) w fun e f (g:Int) h=>
 aa (decide (g<c))
 (dn g h fun i j (k:Int) l=>
 aq l fun m=>
 aa (decide (k>b))
 (ao a k 1 fun n=>
 Ld kI n m fun (o:Int)=>
 ao a (i64 (k - 1)) 1 fun p=>
 Ld kI p m fun (q:Int)=>
 gO Pg d [kI] [(ni o),(ni q)] m fun (s:Int) r=>
 aa (decide (s<0))
 (aq r fun t=>
 ao a (i64 (k - 1)) 1 fun u=>
 Ld kI u t fun (v:Int)=>
 ao a k 1 fun x=>
 Ld kI x t fun (y:Int)=>
 ao a k 1 fun z=>
 St z (ni v) t fun a1=>
 ao a (i64 (k - 1)) 1 fun b1=>
 St b1 (ni y) a1 fun c1=>
 i (i64 (k - 1)) c1∧j (i64 (k - 1)) c1<j k l)
 (e (i64 (g+1)) r∧f (i64 (g+1)) r<f g h))
 (e (i64 (g+1)) m∧f (i64 (g+1)) m<f g h))
 (R h)):Cl Pg [] bz ⟨[(al a),(ni b),(ni c),d]⟩ w R:=co Tryz.f213 [(2,[(8,kI)]),(9,[(9,kI)])] h
theorem kN.ok (a:Sl) (b:Int) (c:Int) (d:Int) (e:Value) (R:World→Prop) w (h:
 aa ((i64 (c - b))==1)
 (cD c d w fun f g (h:Int) (i:Int) j=>
 aa (decide (h<i))
 (0≤(1:Int)∧
 aq j fun k=>
 ao a (i64 (aF .u64 (u64 (i64 (h+i))) (1:Int))) 1 fun l=>
 Ld kI l k fun (m:Int)=>
 ao a b 1 fun n=>
 Ld kI n k fun (o:Int)=>
 gO Pg e [kI] [(ni m),(ni o)] k fun (q:Int) p=>
 aa (decide (q<0))
 (f (i64 ((i64 (aF .u64 (u64 (i64 (h+i))) (1:Int)))+1)) i p∧g (i64 ((i64 (aF .u64 (u64 (i64 (h+i))) (1:Int)))+1)) i p<g h i j)
 (f h (i64 (aF .u64 (u64 (i64 (h+i))) (1:Int))) p∧g h (i64 (aF .u64 (u64 (i64 (h+i))) (1:Int))) p<g h i j))
 (dn b j fun r s (t:Int) u=>
 aa (decide (t<(i64 (h - 1))))
 (aq u fun v=>
 ao a (i64 (t+1)) 1 fun x=>
 Ld kI x v fun (y:Int)=>
 ao a t 1 fun z=>
 Ld kI z v fun (a1:Int)=>
 ao a t 1 fun b1=>
 St b1 (ni y) v fun c1=>
 ao a (i64 (t+1)) 1 fun d1=>
 St d1 (ni a1) c1 fun e1=>
 r (i64 (t+1)) e1∧s (i64 (t+1)) e1<s t u)
 (R u)))
 (aa ((i64 (d - c))==1)
 (cD b c w fun f1 g1 (h1:Int) (i1:Int) j1=>
 aa (decide (h1<i1))
 (0≤(1:Int)∧
 aq j1 fun k1=>
 ao a c 1 fun l1=>
 Ld kI l1 k1 fun (m1:Int)=>
 ao a (i64 (aF .u64 (u64 (i64 (h1+i1))) (1:Int))) 1 fun n1=>
 Ld kI n1 k1 fun (o1:Int)=>
 gO Pg e [kI] [(ni m1),(ni o1)] k1 fun (q1:Int) p1=>
 aa (!(decide (q1<0)))
 (f1 (i64 ((i64 (aF .u64 (u64 (i64 (h1+i1))) (1:Int)))+1)) i1 p1∧g1 (i64 ((i64 (aF .u64 (u64 (i64 (h1+i1))) (1:Int)))+1)) i1 p1<g1 h1 i1 j1)
 (f1 h1 (i64 (aF .u64 (u64 (i64 (h1+i1))) (1:Int))) p1∧g1 h1 (i64 (aF .u64 (u64 (i64 (h1+i1))) (1:Int))) p1<g1 h1 i1 j1))
 (dn c j1 fun r1 s1 (t1:Int) u1=>
 aa (decide (t1>h1))
 (aq u1 fun v1=>
 ao a (i64 (t1 - 1)) 1 fun x1=>
 Ld kI x1 v1 fun (y1:Int)=>
 ao a t1 1 fun z1=>
 Ld kI z1 v1 fun (a2:Int)=>
 ao a t1 1 fun b2=>
 St b2 (ni y1) v1 fun c2=>
 ao a (i64 (t1 - 1)) 1 fun d2=>
 St d2 (ni a2) c2 fun e2=>
 r1 (i64 (t1 - 1)) e2∧s1 (i64 (t1 - 1)) e2<s1 t1 u1)
 (R u1)))
 (0≤(1:Int)∧
 bf (fun (g2:Int) (h2:Int) (i2:World)=>
 cD g2 h2 i2 fun j2 k2 (l2:Int) (m2:Int) n2=>
 aa (decide (l2<m2))
 (0≤(1:Int)∧
 aq n2 fun o2=>
 ao a (i64 ((i64 ((i64 ((i64 (aF .u64 (u64 (i64 (b+d))) (1:Int)))+c)) - 1)) - (i64 (aF .u64 (u64 (i64 (l2+m2))) (1:Int))))) 1 fun p2=>
 Ld kI p2 o2 fun (q2:Int)=>
 ao a (i64 (aF .u64 (u64 (i64 (l2+m2))) (1:Int))) 1 fun r2=>
 Ld kI r2 o2 fun (s2:Int)=>
 gO Pg e [kI] [(ni q2),(ni s2)] o2 fun (u2:Int) t2=>
 aa (!(decide (u2<0)))
 (j2 (i64 ((i64 (aF .u64 (u64 (i64 (l2+m2))) (1:Int)))+1)) m2 t2∧k2 (i64 ((i64 (aF .u64 (u64 (i64 (l2+m2))) (1:Int)))+1)) m2 t2<k2 l2 m2 n2)
 (j2 l2 (i64 (aF .u64 (u64 (i64 (l2+m2))) (1:Int))) t2∧k2 l2 (i64 (aF .u64 (u64 (i64 (l2+m2))) (1:Int))) t2<k2 l2 m2 n2))
 (bf (fun (y2:World)=>
 aa (decide (b<l2))
 (aa (decide (l2<(i64 (aF .u64 (u64 (i64 (b+d))) (1:Int)))))
 (Cl Pg [] aN ⟨[(al a),(ni b),(ni l2),(ni (i64 (aF .u64 (u64 (i64 (b+d))) (1:Int)))),e]⟩ y2 fun z2=>
 aa (decide ((i64 (aF .u64 (u64 (i64 (b+d))) (1:Int)))<(i64 ((i64 ((i64 (aF .u64 (u64 (i64 (b+d))) (1:Int)))+c)) - l2))))
 (aa (decide ((i64 ((i64 ((i64 (aF .u64 (u64 (i64 (b+d))) (1:Int)))+c)) - l2))<d))
 (Cl Pg [] aN ⟨[(al a),(ni (i64 (aF .u64 (u64 (i64 (b+d))) (1:Int)))),(ni (i64 ((i64 ((i64 (aF .u64 (u64 (i64 (b+d))) (1:Int)))+c)) - l2))),(ni d),e]⟩ z2 fun a3=>
 R a3)
 (R z2))
 (R z2))
 (aa (decide ((i64 (aF .u64 (u64 (i64 (b+d))) (1:Int)))<(i64 ((i64 ((i64 (aF .u64 (u64 (i64 (b+d))) (1:Int)))+c)) - l2))))
 (aa (decide ((i64 ((i64 ((i64 (aF .u64 (u64 (i64 (b+d))) (1:Int)))+c)) - l2))<d))
 (Cl Pg [] aN ⟨[(al a),(ni (i64 (aF .u64 (u64 (i64 (b+d))) (1:Int)))),(ni (i64 ((i64 ((i64 (aF .u64 (u64 (i64 (b+d))) (1:Int)))+c)) - l2))),(ni d),e]⟩ y2 fun b3=>
 R b3)
 (R y2))
 (R y2)))
 (aa (decide ((i64 (aF .u64 (u64 (i64 (b+d))) (1:Int)))<(i64 ((i64 ((i64 (aF .u64 (u64 (i64 (b+d))) (1:Int)))+c)) - l2))))
 (aa (decide ((i64 ((i64 ((i64 (aF .u64 (u64 (i64 (b+d))) (1:Int)))+c)) - l2))<d))
 (Cl Pg [] aN ⟨[(al a),(ni (i64 (aF .u64 (u64 (i64 (b+d))) (1:Int)))),(ni (i64 ((i64 ((i64 (aF .u64 (u64 (i64 (b+d))) (1:Int)))+c)) - l2))),(ni d),e]⟩ y2 fun c3=>
 R c3)
 (R y2))
 (R y2))) fun v2=>
 aa (decide (l2<c))
 (aa (decide (c<(i64 ((i64 ((i64 (aF .u64 (u64 (i64 (b+d))) (1:Int)))+c)) - l2))))
 (Cl Pg [] di ⟨[(al a),(ni l2),(ni c),(ni (i64 ((i64 ((i64 (aF .u64 (u64 (i64 (b+d))) (1:Int)))+c)) - l2))),e]⟩ n2 fun x2=>
 v2 x2)
 (v2 n2))
 (v2 n2))) fun f2=>
 aa (decide (c>(i64 (aF .u64 (u64 (i64 (b+d))) (1:Int)))))
 (f2 (i64 ((i64 ((i64 (aF .u64 (u64 (i64 (b+d))) (1:Int)))+c)) - d)) (i64 (aF .u64 (u64 (i64 (b+d))) (1:Int))) w)
 (f2 b c w)))):Cl Pg [] aN ⟨[(al a),(ni b),(ni c),(ni d),e]⟩ w R:=co Tryz.f214 [(8,[(10,kI),(11,kI)]),(21,[(13,kI)]),(36,[(14,kI),(15,kI)]),(49,[(17,kI)]),(62,[(20,kI),(21,kI)]),(74,[(20,kI),(21,kI)]),(86,[])] h
theorem mm.ok (a:Sl) (b:Int) (c:Int) (d:Int) (e:Value) (R:World→Prop) w (h:
 cD (i64 (c - b)) (i64 (d - c)) w fun f g (h:Int) (i:Int) j=>
 aa (h !=i)
 (aa (decide (h>i))
 (Cl Pg [] bu ⟨[(al a),(ni (i64 (c - h))),(ni c),(ni i),e]⟩ j fun k=>
 f (i64 (h - i)) i k∧g (i64 (h - i)) i k<g h i j)
 (Cl Pg [] bu ⟨[(al a),(ni (i64 (c - h))),(ni (i64 ((i64 (c+i)) - h))),(ni h),e]⟩ j fun l=>
 f h (i64 (i - h)) l∧g h (i64 (i - h)) l<g h i j))
 (Cl Pg [] bu ⟨[(al a),(ni (i64 (c - h))),(ni c),(ni h),e]⟩ j fun m=>
 R m)):Cl Pg [] di ⟨[(al a),(ni b),(ni c),(ni d),e]⟩ w R:=co Tryz.f220 [(5,[(10,kI),(11,kI)])] h
theorem ko.ok (a:Sl) (b:Int) (c:Int) (d:Int) (e:Value) (R:World→Prop) w (h:
 dn 0 w fun f g (h:Int) i=>
 aa (decide (h<d))
 (aq i fun j=>
 ao a (i64 (c+h)) 1 fun k=>
 Ld kI k j fun (l:Int)=>
 ao a (i64 (b+h)) 1 fun m=>
 Ld kI m j fun (n:Int)=>
 ao a (i64 (b+h)) 1 fun o=>
 St o (ni l) j fun p=>
 ao a (i64 (c+h)) 1 fun q=>
 St q (ni n) p fun r=>
 f (i64 (h+1)) r∧g (i64 (h+1)) r<g h i)
 (R i)):Cl Pg [] bu ⟨[(al a),(ni b),(ni c),(ni d),e]⟩ w R:=co Tryz.f233 [(2,[(10,kI)])] h
end Go.Proofs.YtcdpblipagajiaaGreat
namespace Go.Proofs.YtcdpblipagajiaaGreat
open Go Go.Vc
set_option maxRecDepth 100000
theorem wH.ok (R:(Option Addr)→World→Prop) w (h:
 Nw 133 ⟨[(.slice none 0 0),(ni 0)]⟩ w fun b a=>
 R (some ⟨b,0,none⟩) a):Cl Pg [kP] jo ⟨[]⟩ w R:=co Tryz.f46 [] h
theorem nJ.ok (a:(Option Addr)) (R:Sl→World→Prop) w (h:
 aa (Option.isNone (a:Option Addr))
 (R (⟨none,0,0⟩:Sl) w)
 (dN a fun b=>
 Ld kS (b.add 0) w fun (c:Sl)=>
 Cl Pg [kS] da ⟨[(al c)]⟩ w fun (e:Sl) d=>
 R e d)):Cl Pg [kS] dH ⟨[(.pointer a)]⟩ w R:=co Tryz.f49 [] h
theorem yk.ok (a:Sl) (R:Sl→World→Prop) w (h:
 cD (⟨none,0,0⟩:Sl) 0 w fun b c (d:Sl) (e:Int) f=>
 aa (decide (e<(i64 ((8:Int)*(a.len:Int)))))
 (Cl Pg [(az .u8)] ju ⟨[(al a),(ni e)]⟩ f fun (h:Int) g=>
 Nw 3 ⟨[(ni (i64 h))]⟩ g fun j i=>
 aA Pg (Builtin.append_ #[33,33] 33 ⟨[(al d),(al (⟨some ⟨j,0,none⟩,1,1⟩:Sl))]⟩) kS i fun (l:Sl) k=>
 b l (i64 (e+1)) k∧c l (i64 (e+1)) k<c d e f)
 (R d f)):Cl Pg [kS] jX ⟨[(al a)]⟩ w R:=co Tryz.f51 [(5,[(2,kS),(7,kI)])] h
theorem oQ.ok (a:(Option Addr)) (b:Int) (c:Int) (R:Bool→World→Prop) w (h:
 Nw 80 ⟨[(.pointer a)]⟩ w fun e d=>
 Ld kP ⟨e,0,none⟩ d fun f=>
 aa (Option.isNone (f:Option Addr))
 (R false d)
 (Cl Pg [kB] iH ⟨[(.int .u32 b),(ni c)]⟩ d fun (h:Bool) g=>
 aa (!h)
 (R false g)
 (Cl Pg [kV] lT ⟨[(.int .u32 b),(ni c)]⟩ g fun j i=>
 fB Pg j [(az .u8)] i (fun (k:Nat) (l:Nat→Obj) (p:Int) (m:World) (n o:World→Prop)=>
 sK k l m fun q=>
 Ld kP ⟨e,0,none⟩ q fun r=>
 Cl Pg [] eD ⟨[(.pointer r),(.int .u8 p)]⟩ q fun s=>
 oX k l s n)
 (fun t u=>
 kx (t:: []:List Nat) u fun v=>
 R true v)
 (fun x y=>
 kx (x:: []:List Nat) y fun z=>
 R false z)))):Cl Pg [kB] cN ⟨[(.pointer a),(.int .u32 b),(ni c)]⟩ w R:=By Tryz.f95 (.s .o (.s (.s .o (.c (.s .o .o) .o)) (.s (.s .o (.b (.r [(az .u8)] .o (.b .o)))) (.s .o .o)))) h
theorem wv.ok (a:Sl) (b:Int) (R:Int→World→Prop) w (h:
 0≤(3:Int)∧
 ao a (aF .i64 b (3:Int)) 1 fun c=>
 Ld (az .u8) c w fun (d:Int)=>
 0≤(i64 ((7:Int) - (bo .i64 b 7)))∧
 R (bo .u8 (aF .u8 d (i64 ((7:Int) - (bo .i64 b 7)))) 1) w):Cl Pg [(az .u8)] ju ⟨[(al a),(ni b)]⟩ w R:=co Tryz.f99 [] h
theorem uE.ok (a:Int) (b:Int) (R:Bool→World→Prop) w (h:
 aa (decide (b≥0))
 (aa (decide (b≤32))
 (0≤b∧
 R ((aF .u64 (u64 a) b)==0) w)
 (R false w))
 (R false w)):Cl Pg [kB] iH ⟨[(.int .u32 a),(ni b)]⟩ w R:=co Tryz.f144 [] h
theorem um.ok (a:Int) (b:Int) (R:Value→World→Prop) w (h:
 Nw 49 ⟨[(.int .u32 a)]⟩ w fun d c=>
 Nw 3 ⟨[(ni b)]⟩ c fun f e=>
 R (.func (.func 186) ⟨[]⟩ ⟨[(.pointer (some ⟨f,0,none⟩)),(.pointer (some ⟨d,0,none⟩))]⟩) e):Cl Pg [kV] lT ⟨[(.int .u32 a),(ni b)]⟩ w R:=co Tryz.f145 [] h
theorem pt.ok (a:(Option Addr)) (b:Int) (R:World→Prop) w (h:
 dN a fun c=>
 Ld kI (c.add 1) w fun (d:Int)=>
 aa ((bo .i64 d 7)==0)
 (dN a fun e=>
 Ld kS (e.add 0) w fun (f:Sl)=>
 Nw 5 ⟨[(.int .u8 0)]⟩ w fun h g=>
 aA Pg (Builtin.append_ #[22,22] 22 ⟨[(al f),(al (⟨some ⟨h,0,none⟩,1,1⟩:Sl))]⟩) kS g fun (j:Sl) i=>
 dN a fun k=>
 St (k.add 0) (al j) i fun l=>
 aq l fun m=>
 dN a fun n=>
 Ld kS (n.add 0) m fun (o:Sl)=>
 dN a fun p=>
 Ld kI (p.add 1) m fun (q:Int)=>
 0≤(3:Int)∧
 ao o (aF .i64 q (3:Int)) 1 fun r=>
 Ld (az .u8) r m fun (s:Int)=>
 dN a fun t=>
 Ld kI (t.add 1) m fun (u:Int)=>
 0≤(i64 ((7:Int) - (bo .i64 u 7)))∧
 ao o (aF .i64 q (3:Int)) 1 fun v=>
 St v (.int .u8 (jk .u8 s (a8 .u8 b (i64 ((7:Int) - (bo .i64 u 7)))))) m fun x=>
 dN a fun y=>
 Ld kI (y.add 1) x fun (z:Int)=>
 dN a fun a1=>
 St (a1.add 1) (ni (i64 (z+1))) x fun b1=>
 R b1)
 (aq w fun c1=>
 dN a fun d1=>
 Ld kS (d1.add 0) c1 fun (e1:Sl)=>
 dN a fun f1=>
 Ld kI (f1.add 1) c1 fun (g1:Int)=>
 0≤(3:Int)∧
 ao e1 (aF .i64 g1 (3:Int)) 1 fun h1=>
 Ld (az .u8) h1 c1 fun (i1:Int)=>
 dN a fun j1=>
 Ld kI (j1.add 1) c1 fun (k1:Int)=>
 0≤(i64 ((7:Int) - (bo .i64 k1 7)))∧
 ao e1 (aF .i64 g1 (3:Int)) 1 fun l1=>
 St l1 (.int .u8 (jk .u8 i1 (a8 .u8 b (i64 ((7:Int) - (bo .i64 k1 7)))))) c1 fun m1=>
 dN a fun n1=>
 Ld kI (n1.add 1) m1 fun (o1:Int)=>
 dN a fun p1=>
 St (p1.add 1) (ni (i64 (o1+1))) m1 fun q1=>
 R q1)):Cl Pg [] eD ⟨[(.pointer a),(.int .u8 b)]⟩ w R:=co Tryz.f146 [] h
theorem sx.ok (a:Value) (b:Addr) (c:Addr) (R:World→Prop) w (h:
 Ld kI b w fun (d:Int)=>
 ∃(e:Int→World→Prop) (f:Int→World→Nat),e ((i64 (d - 1))) w∧
 ∀(g:Int),∀(h:World),e g h→
 aa (decide (g≥0))
 (Ld (az .u32) c h fun (i:Int)=>
 0≤g∧
 kp Pg a [kB] [(.int .u8 (bo .u8 (u8 (aF .u32 i g)) 1))] h fun (k:Bool) j=>
 aa (!k)
 (R j)
 (([]:List Nat)=([]:List Nat)∧e (i64 (g - 1)) j∧f (i64 (g - 1)) j<f g h))
 (R h)):Cl Pg [] kn ⟨[a,(.pointer (some b)),(.pointer (some c))]⟩ w R:=By Tryz.f186 (.s .o (.b (.l [(4,kI)] (.s (.s .o (.c .o .o)) (.s (.b (.s .o (.c .o .o))) .o))))) h
end Go.Proofs.YtcdpblipagajiaaGreat
namespace Go.Proofs.YtcdpblipagajiaaGreat
open Go Go.Vc
set_option maxRecDepth 100000
theorem AA.ok (a:(Array Value)) (R:Bool→World→Prop) w (h:
 Nw 36 a w fun c b=>
 Ld (.arr 258) ⟨c,0,none⟩ b fun d=>
 Cl Pg [kB] iK ⟨[(.agg d)]⟩ b fun (f:Bool) e=>
 aa f
 (aB ⟨c,0,none⟩ 258 257 1 fun g=>
 Ld (az .u8) g e fun (h:Int)=>
 R (decide (h>0)) e)
 (R false e)):Cl Pg [kB] dW ⟨[(.agg a)]⟩ w R:=co Tryz.f142 [] h
theorem uy.ok (a:(Array Value)) (R:Bool→World→Prop) w (h:
 Nw 36 a w fun c b=>
 Ld (.arr 258) ⟨c,0,none⟩ b fun d=>
 Cl Pg [kI] kf ⟨[(.agg d)]⟩ b fun (f:Int) e=>
 R (f==32768) e):Cl Pg [kB] iK ⟨[(.agg a)]⟩ w R:=co Tryz.f184 [] h
theorem BP.ok (a:(Array Value)) (R:Bool→World→Prop) w (h:
 Nw 36 a w fun c b=>
 Ld (.arr 258) ⟨c,0,none⟩ b fun d=>
 Cl Pg [kI] kf ⟨[(.agg d)]⟩ b fun (f:Int) e=>
 R (decide (f≤32768)) e):Cl Pg [kB] me ⟨[(.agg a)]⟩ w R:=co Tryz.f187 [] h
theorem yM.ok (a:(Array Value)) (R:(TT Dh)→World→Prop) w (h:
 Nw 36 a w fun c b=>
 Nw 233 ⟨List.replicate 16 (ni 0)⟩ b fun e d=>
 Ld (.arr 258) ⟨c,0,none⟩ d fun f=>
 dn 0 d fun g h (i:Int) j=>
 aa (decide (i<258))
 (ez (.int .u8) f 258 i fun (k:Int)=>
 aa (decide ((i64 k)<16))
 (aB ⟨e,0,none⟩ 16 k 1 fun l=>
 Ld kI l j fun (m:Int)=>
 aB ⟨e,0,none⟩ 16 k 1 fun n=>
 St n (ni (i64 (m+1))) j fun o=>
 g (i64 (i+1)) o∧h (i64 (i+1)) o<h i j)
 (g (i64 (i+1)) j∧h (i64 (i+1)) j<h i j))
 (Ld (.st Dh) ⟨e,0,none⟩ j fun p=>
 ak ⟨e,0,none⟩ [(ni p.1),(ni p.2.1),(ni p.2.2.1),(ni p.2.2.2.1),(ni p.2.2.2.2.1),(ni p.2.2.2.2.2.1),(ni p.2.2.2.2.2.2.1),(ni p.2.2.2.2.2.2.2.1),(ni p.2.2.2.2.2.2.2.2.1),(ni p.2.2.2.2.2.2.2.2.2.1),(ni p.2.2.2.2.2.2.2.2.2.2.1),(ni p.2.2.2.2.2.2.2.2.2.2.2.1),(ni p.2.2.2.2.2.2.2.2.2.2.2.2.1),(ni p.2.2.2.2.2.2.2.2.2.2.2.2.2.1),(ni p.2.2.2.2.2.2.2.2.2.2.2.2.2.2.1),(ni p.2.2.2.2.2.2.2.2.2.2.2.2.2.2.2.1)] 0 j fun q=>
 Ld (.st Dh) ⟨e,0,none⟩ q fun r=>
 R r q)):Cl Pg [(.st Dh)] jY ⟨[(.agg a)]⟩ w R:=co Tryz.f192 [(5,[(6,kI)])] h
theorem Dn.ok (a:(Array Value)) (R:Int→World→Prop) w (h:
 Nw 36 a w fun c b=>
 Ld (.arr 258) ⟨c,0,none⟩ b fun d=>
 cD 0 0 b fun e f (g:Int) (h:Int) i=>
 aa (decide (h<258))
 (ez (.int .u8) d 258 h fun (j:Int)=>
 Cl Pg [kI] kD ⟨[(.int .u8 j)]⟩ i fun (l:Int) k=>
 e (i64 (g+l)) (i64 (h+1)) k∧f (i64 (g+l)) (i64 (h+1)) k<f g h i)
 (R g i)):Cl Pg [kI] kf ⟨[(.agg a)]⟩ w R:=co Tryz.f204 [(5,[(2,kI),(6,kI)])] h
theorem Ad.ok (a:Int) (R:Int→World→Prop) w (h:
 aa (a==0)
 (R 0 w)
 (aa (decide (a>15))
 (R 32769 w)
 (0≤a∧
 R (aF .i64 (32768:Int) a) w))):Cl Pg [kI] kD ⟨[(.int .u8 a)]⟩ w R:=co Tryz.f215 [] h
end Go.Proofs.YtcdpblipagajiaaGreat
namespace Go.Proofs.YtcdpblipagajiaaGreat
open Go Go.Vc
set_option maxRecDepth 100000
theorem wi.ok (a:(Array Value)) (R:(Array Value)→Int→World→Prop) w (h:
 Nw 36 a w fun c b=>
 Nw 145 ⟨List.replicate 258 (.int .u8 0)++ [(ni 0),(ni 0)]⟩ b fun e d=>
 Ld (.arr 258) ⟨c,0,none⟩ d fun f=>
 Cl Pg [kB] dW ⟨[(.agg f)]⟩ d fun (h:Bool) g=>
 aa (!h)
 (cK Pg 145 [] fun i=>
 ar 260 ⟨e,0,none⟩ i g fun j=>
 Ld (.arr 260) ⟨e,0,none⟩ j fun k=>
 R k 2 j)
 (Ld (.arr 258) ⟨c,0,none⟩ g fun l=>
 cK Pg 145 [(0,(.agg l))] fun m=>
 ar 260 ⟨e,0,none⟩ m g fun n=>
 Ld (.arr 260) ⟨e,0,none⟩ n fun o=>
 R o 0 n)):Cl Pg [(.arr 260),kI] jA ⟨[(.agg a)]⟩ w R:=co Tryz.f101 [] h
theorem uq.ok (a:(Array Value)) (b:Int) (R:(Array Value)→Int→Bool→World→Prop) w (h:
 Nw 145 a w fun d c=>
 Nw 145 ⟨List.replicate 258 (.int .u8 0)++ [(ni 0),(ni 0)]⟩ c fun f e=>
 bf (fun (q:World)=>
 Ld (.arr 258) (Addr.add ⟨d,0,none⟩ 0) q fun r=>
 Ld kI (Addr.add ⟨d,0,none⟩ 258) q fun (s:Int)=>
 0≤(1:Int)∧
 Ld kI (Addr.add ⟨d,0,none⟩ 259) q fun (t:Int)=>
 cK Pg 145 [(0,(.agg r)),(1,(ni (jk .i64 (a8 .i64 s (1:Int)) b))),(2,(ni (i64 (t+1))))] fun u=>
 ar 260 ⟨f,0,none⟩ u q fun v=>
 Ld (.arr 258) (Addr.add ⟨f,0,none⟩ 0) v fun x=>
 Ld kI (Addr.add ⟨f,0,none⟩ 259) v fun (y:Int)=>
 Cl Pg [kI,kI] eK ⟨[(.agg x),(ni y)]⟩ v fun (a1:Int) (b1:Int) z=>
 Ld kI (Addr.add ⟨f,0,none⟩ 258) z fun (c1:Int)=>
 aa (decide (c1≥(i64 (a1+b1))))
 (Ld (.arr 260) ⟨f,0,none⟩ z fun d1=>
 ar 260 ⟨f,0,none⟩ d1 z fun e1=>
 Ld (.arr 260) ⟨f,0,none⟩ e1 fun f1=>
 R f1 0 false e1)
 (aq z fun g1=>
 Ld (.arr 258) (Addr.add ⟨f,0,none⟩ 0) g1 fun h1=>
 Ld kI (Addr.add ⟨f,0,none⟩ 259) g1 fun (i1:Int)=>
 Ld kI (Addr.add ⟨f,0,none⟩ 258) g1 fun (j1:Int)=>
 (Ld (.arr 258) (Addr.add ⟨d,0,none⟩ 0) g1 fun k1=>
 cK Pg 145 [(0,(.agg k1))] fun l1=>
 Cl Pg [kI] gJ ⟨[(.agg h1),(ni i1),(ni (i64 (j1 - a1)))]⟩ g1 fun (n1:Int) m1=>
 ar 260 ⟨f,0,none⟩ l1 m1 fun o1=>
 Ld (.arr 260) ⟨f,0,none⟩ o1 fun p1=>
 R p1 n1 true o1)∧
 (Cl Pg [kI] gJ ⟨[(.agg h1),(ni i1),(ni (i64 (j1 - a1)))]⟩ g1 fun (r1:Int) q1=>
 Ld (.arr 258) (Addr.add ⟨d,0,none⟩ 0) q1 fun s1=>
 cK Pg 145 [(0,(.agg s1))] fun t1=>
 ar 260 ⟨f,0,none⟩ t1 q1 fun u1=>
 Ld (.arr 260) ⟨f,0,none⟩ u1 fun v1=>
 R v1 r1 true u1))) fun g=>
 0≤(1:Int)∧
 aa ((aF .i64 b (1:Int)) !=0)
 (Ld (.arr 260) ⟨d,0,none⟩ e fun h=>
 ar 260 ⟨f,0,none⟩ h e fun i=>
 Ld (.arr 260) ⟨f,0,none⟩ i fun j=>
 R j 0 false i)
 (Ld (.arr 260) ⟨d,0,none⟩ e fun k=>
 Cl Pg [kB] hC ⟨[(.agg k)]⟩ e fun (m:Bool) l=>
 aa (!m)
 (Ld (.arr 260) ⟨d,0,none⟩ l fun n=>
 ar 260 ⟨f,0,none⟩ n l fun o=>
 Ld (.arr 260) ⟨f,0,none⟩ o fun p=>
 R p 0 false o)
 (g l))):Cl Pg [(.arr 260),kI,kB] fy ⟨[(.agg a),(ni b)]⟩ w R:=co Tryz.f103 [(2,[]),(17,[])] h
theorem tf.ok (a:(Array Value)) (R:Bool→World→Prop) w (h:
 Nw 145 a w fun c b=>
 bf (fun (m:World)=>
 Ld (.arr 258) (Addr.add ⟨c,0,none⟩ 0) m fun n=>
 Ld kI (Addr.add ⟨c,0,none⟩ 259) m fun (o:Int)=>
 Cl Pg [kI,kI] eK ⟨[(.agg n),(ni o)]⟩ m fun (q:Int) (r:Int) p=>
 Ld kI (Addr.add ⟨c,0,none⟩ 258) p fun (s:Int)=>
 R (decide (s≥(i64 (q+r)))) p) fun d=>
 Ld (.arr 258) (Addr.add ⟨c,0,none⟩ 0) b fun e=>
 Cl Pg [kB] dW ⟨[(.agg e)]⟩ b fun (g:Bool) f=>
 aa (!g)
 (R false f)
 (Ld kI (Addr.add ⟨c,0,none⟩ 259) f fun (h:Int)=>
 aa (decide (h<0))
 (R false f)
 (Ld kI (Addr.add ⟨c,0,none⟩ 259) f fun (i:Int)=>
 aa (decide (i≥15))
 (R false f)
 (Ld kI (Addr.add ⟨c,0,none⟩ 258) f fun (j:Int)=>
 aa (decide (j<0))
 (R false f)
 (Ld kI (Addr.add ⟨c,0,none⟩ 258) f fun (k:Int)=>
 Ld kI (Addr.add ⟨c,0,none⟩ 259) f fun (l:Int)=>
 0≤l∧
 aa ((aF .i64 k l) !=0)
 (R false f)
 (d f)))))):Cl Pg [kB] hC ⟨[(.agg a)]⟩ w R:=co Tryz.f154 [(2,[])] h
theorem ta.ok (a:(Array Value)) (b:Int) (R:Int→Int→World→Prop) w (h:
 Nw 36 a w fun d c=>
 Ld (.arr 258) ⟨d,0,none⟩ c fun e=>
 Cl Pg [(.st Dh)] jY ⟨[(.agg e)]⟩ c fun g f=>
 Nw 233 ⟨List.replicate 16 (ni 0)⟩ f fun i h=>
 ak ⟨i,0,none⟩ [(ni g.1),(ni g.2.1),(ni g.2.2.1),(ni g.2.2.2.1),(ni g.2.2.2.2.1),(ni g.2.2.2.2.2.1),(ni g.2.2.2.2.2.2.1),(ni g.2.2.2.2.2.2.2.1),(ni g.2.2.2.2.2.2.2.2.1),(ni g.2.2.2.2.2.2.2.2.2.1),(ni g.2.2.2.2.2.2.2.2.2.2.1),(ni g.2.2.2.2.2.2.2.2.2.2.2.1),(ni g.2.2.2.2.2.2.2.2.2.2.2.2.1),(ni g.2.2.2.2.2.2.2.2.2.2.2.2.2.1),(ni g.2.2.2.2.2.2.2.2.2.2.2.2.2.2.1),(ni g.2.2.2.2.2.2.2.2.2.2.2.2.2.2.2.1)] 0 h fun j=>
 aB ⟨i,0,none⟩ 16 0 1 fun k=>
 St k (ni 0) j fun l=>
 cD 0 1 l fun m n (o:Int) (p:Int) q=>
 aa (decide (p≤b))
 (aB ⟨i,0,none⟩ 16 (i64 (p - 1)) 1 fun r=>
 Ld kI r q fun (s:Int)=>
 0≤(1:Int)∧
 m (a8 .i64 (i64 (o+s)) (1:Int)) (i64 (p+1)) q∧n (a8 .i64 (i64 (o+s)) (1:Int)) (i64 (p+1)) q<n o p q)
 (aq q fun t=>
 aB ⟨i,0,none⟩ 16 b 1 fun u=>
 Ld kI u t fun (v:Int)=>
 R o v t)):Cl Pg [kI,kI] eK ⟨[(.agg a),(ni b)]⟩ w R:=co Tryz.f155 [(9,[(4,kI),(7,kI)])] h
theorem yo.ok (a:(Array Value)) (b:Int) (c:Int) (R:Int→World→Prop) w (h:
 Nw 36 a w fun e d=>
 Ld (.arr 258) ⟨e,0,none⟩ d fun f=>
 cD c 0 d fun g h (i:Int) (j:Int) k=>
 aa (decide (j<258))
 (ez (.int .u8) f 258 j fun (l:Int)=>
 aa ((i64 l) !=b)
 (g i (i64 (j+1)) k∧h i (i64 (j+1)) k<h i j k)
 (aa (i==0)
 (R j k)
 (g (i64 (i - 1)) (i64 (j+1)) k∧h (i64 (i - 1)) (i64 (j+1)) k<h i j k)))
 (R 0 k)):Cl Pg [kI] gJ ⟨[(.agg a),(ni b),(ni c)]⟩ w R:=co Tryz.f156 [(5,[(2,kI),(10,kI)])] h
end Go.Proofs.YtcdpblipagajiaaGreat
set_option maxRecDepth 20000
namespace Go.Vc
open Go
abbrev aK:=Nat→Option Obj
abbrev HP:=aK→Prop
def aK.emp:aK:=fun _=>none
def aK.one (b:Nat) (o:Obj):aK:=fun r=>if r=b then some o else none
def aK.add (f g:aK):aK:=fun r=>match f r with|some o=>some o|none=>g r
def iE (f g:aK):Prop:= ∀r,f r=none∨g r=none
def aj (b:Nat) (o:Obj):HP:=fun f=>f=aK.one b o
def Sat:List HP→HP
 | [],f=>f=aK.emp
 |A::l,f=> ∃g h,iE g h∧f=g.add h∧A g∧Sat l h
def I9 (f:aK) (w:World):Prop:= ∀r o,f r=some o→w.heap[r]? =some o
structure Hp (E:World) (w:World) (l:List HP):Prop where
 os:w.os=E.os
 output:w.output=E.output
 tape:w.tape=E.tape
 frag: ∃f,I9 f w∧Sat l f
theorem iE.comm {f g:aK} (h:iE f g):iE g f:=fun r=>(h r).symm
theorem aK.add_comm {f g:aK} (h:iE f g):f.add g=g.add f:=by
 funext r
 unfold aK.add
 rcases h r with h|h
 ·rw [h];cases g r<;>rfl
 ·rw [h];cases f r<;>rfl
theorem aK.add_assoc (f g h:aK):(f.add g).add h=f.add (g.add h):=by
 funext r
 unfold aK.add
 cases f r<;>rfl
theorem aK.GL (f:aK):f.add aK.emp=f:=by
 funext r;unfold aK.add aK.emp;cases f r<;>rfl
theorem aK.uT (f:aK):aK.emp.add f=f:=by
 funext r;rfl
theorem iX {f g h:aK}:iE f (g.add h)↔iE f g∧iE f h:=by
 constructor
 ·intro H
  refine ⟨fun r=> ?_,fun r=> ?_⟩
  ·rcases H r with h1|h1
   ·exact .inl h1
   ·right;unfold aK.add at h1;cases hg:g r<;>simp_all
  ·rcases H r with h1|h1
   ·exact .inl h1
   ·right;unfold aK.add at h1;cases hg:g r<;>simp_all
 ·rintro ⟨h1,h2⟩ r
  rcases h1 r with h|h
  ·exact .inl h
  ·rcases h2 r with h'|h'
   ·exact .inl h'
   ·right;simp [aK.add,h,h']
theorem vM {f g h:aK}:iE (f.add g) h↔iE f h∧iE g h:=
 ⟨fun H=>let ⟨a,b⟩:=iX.1 H.comm;⟨a.comm,b.comm⟩,fun ⟨a,b⟩=>(iX.2 ⟨a.comm,b.comm⟩).comm⟩
theorem Sat.swap {A B:HP} {l:List HP} {f:aK} (h:Sat (A::B::l) f):Sat (B::A::l) f:=by
 obtain ⟨g,h1,hd,rfl,hA,g2,h2,hd2,rfl,hB,hl⟩:=h
 obtain ⟨d1,d2⟩:=iX.1 hd
 refine ⟨g2,g.add h2,iX.2 ⟨d1.comm,hd2⟩,?_,hB,g,h2,d2,rfl,hA,hl⟩
 rw [←aK.add_assoc,←aK.add_assoc,aK.add_comm d1]
theorem Sat.tail {A:HP} {l l':List HP} (h: ∀f,Sat l f→Sat l' f) {f:aK} (hs:Sat (A::l) f):Sat (A::l') f:=by
 obtain ⟨g,k,hd,rfl,hA,hl⟩:=hs
 exact ⟨g,k,hd,rfl,hA,h _ hl⟩
theorem Sat.perm {l l':List HP} (hp:l.Perm l'): ∀f,Sat l f→Sat l' f:=by
 induction hp with
 |nil=>exact fun _ h=>h
 |cons A _ ih=>exact fun f h=>h.tail ih
 |swap A B l=>exact fun f h=>h.swap
 |trans _ _ ih1 ih2=>exact fun f h=>ih2 f (ih1 f h)
theorem Sat.append {l l':List HP} {f:aK}:Sat (l++l') f↔∃g h,iE g h∧f=g.add h∧Sat l g∧Sat l' h:=by
 induction l generalizing f with
 |nil=>exact ⟨fun h=>⟨aK.emp,f,fun _=> .inl rfl,(aK.uT f).symm,rfl,h⟩,fun ⟨g,h,_,e,hg,hh⟩=>by
   have:g=aK.emp:=hg
   rw [e,this,aK.uT];exact hh⟩
 |cons A l ih=>
  constructor
  ·rintro ⟨g,h,hd,rfl,hA,hs⟩
   obtain ⟨g2,h2,hd2,rfl,hs2,hs3⟩:=ih.1 hs
   obtain ⟨d1,d2⟩:=iX.1 hd
   exact ⟨g.add g2,h2,vM.2 ⟨d2,hd2⟩,(aK.add_assoc _ _ _).symm,⟨g,g2,d1,rfl,hA,hs2⟩,hs3⟩
  ·rintro ⟨g,h,hd,rfl,⟨g2,h2,hd2,rfl,hA,hs2⟩,hs3⟩
   obtain ⟨d1,d2⟩:=vM.1 hd
   exact ⟨g2,h2.add h,iX.2 ⟨hd2,d1⟩,aK.add_assoc _ _ _,hA,ih.2 ⟨h2,h,d2,rfl,hs2,hs3⟩⟩
section
variable {E w w':World} {A B C D G:HP} {l l' F:List HP}
theorem Hp.perm (h:Hp E w l) (hp:l.Perm l'):Hp E w l':=
 ⟨h.os,h.output,h.tape,let ⟨f,a,b⟩:=h.frag;⟨f,a,Sat.perm hp f b⟩⟩
theorem Hp.p1 (h:Hp E w (A::B::F)):Hp E w (B::A::F):=h.perm (.swap ..)
theorem Hp.p2 (h:Hp E w (A::B::C::F)):Hp E w (C::A::B::F):=h.perm ((List.Perm.cons A (.swap ..)).trans (.swap ..))
theorem Hp.p3 (h:Hp E w (A::B::C::D::F)):Hp E w (D::A::B::C::F):=
 h.perm ((List.Perm.cons A ((List.Perm.cons B (.swap ..)).trans (.swap ..))).trans (.swap ..))
theorem Hp.p4 (h:Hp E w (A::B::C::D::G::F)):Hp E w (G::A::B::C::D::F):=
 h.perm ((List.Perm.cons A ((List.Perm.cons B ((List.Perm.cons C (.swap ..)).trans (.swap ..))).trans (.swap ..))).trans (.swap ..))
theorem Hp.q2 (h:Hp E w (A::B::C::F)):Hp E w (B::C::A::F):=h.p1.perm (.cons B (.swap ..))
theorem Hp.q3 (h:Hp E w (A::B::C::D::F)):Hp E w (B::C::D::A::F):=h.q2.perm (.cons B (.cons C (.swap ..)))
theorem Hp.q4 (h:Hp E w (A::B::C::D::G::F)):Hp E w (B::C::D::G::A::F):=h.q3.perm (.cons B (.cons C (.cons D (.swap ..))))
theorem Hp.flat (h:Hp E w (Sat l::F)):Hp E w (l++F):=
 ⟨h.os,h.output,h.tape,let ⟨f,a,g,k,hd,e,h1,h2⟩:=h.frag;⟨f,a,Sat.append.2 ⟨g,k,hd,e,h1,h2⟩⟩⟩
theorem Hp.GD {α:Sort _} {X:α→Prop} {L:α→List HP} (hA: ∀f,A f→∃x,X x∧Sat (L x) f) (h:Hp E w (A::F)): ∃x,X x∧Hp E w (L x++F):=by
 obtain ⟨f,a,g,k,hd,e,h1,h2⟩:=h.frag
 obtain ⟨x,hx,h3⟩:=hA g h1
 exact ⟨x,hx,h.os,h.output,h.tape,f,a,Sat.append.2 ⟨g,k,hd,e,h3,h2⟩⟩
theorem Hp.GB (hA: ∀f,Sat l f→A f) (h:Hp E w (l++F)):Hp E w (A::F):=by
 obtain ⟨f,a,h1⟩:=h.frag
 obtain ⟨g,k,hd,e,h1,h2⟩:=Sat.append.1 h1
 exact ⟨h.os,h.output,h.tape,f,a,g,k,hd,e,hA _ h1,h2⟩
theorem Hp.F3 (hA: ∀f,A f→B f) (h:Hp E w (A::F)):Hp E w (B::F):=by
 obtain ⟨f,a,g,k,hd,e,h1,h2⟩:=h.frag
 exact ⟨h.os,h.output,h.tape,f,a,g,k,hd,e,hA _ h1,h2⟩
theorem Hp.drop (h:Hp E w (A::F)):Hp E w F:=by
 obtain ⟨f,a,g,k,hd,rfl,h1,h2⟩:=h.frag
 refine ⟨h.os,h.output,h.tape,k,fun r o hr=>a r o ?_,h2⟩
 rcases hd r with hg|hk
 ·simp [aK.add,hg,hr]
 ·rw [hk] at hr;cases hr
theorem Hp.emp (h:Hp E w F) (hA:A aK.emp):Hp E w (A::F):=by
 obtain ⟨f,a,h1⟩:=h.frag
 exact ⟨h.os,h.output,h.tape,f,a,aK.emp,f,fun _=> .inl rfl,(aK.uT f).symm,hA,h1⟩
theorem Hp.same (h:Hp E w l) (h1:w'.heap=w.heap) (h2:w'.os=w.os) (h3:w'.output=w.output) (h4:w'.tape=w.tape):Hp E w' l:=
 ⟨h2.trans h.os,h3.trans h.output,h4.trans h.tape,let ⟨f,a,b⟩:=h.frag;⟨f,fun r o hr=>by rw [h1];exact a r o hr,b⟩⟩
theorem Hp.drew {n:Nat} (h:Hp E w l):Hp E {w with drawn:=n} l:=h.same rfl rfl rfl rfl
theorem Hp.aD {b:Nat} {o:Obj} (h:Hp E w (aj b o::F)):w.heap[b]? =some o:=by
 obtain ⟨f,a,g,k,hd,rfl,rfl,h2⟩:=h.frag
 exact a b o (by simp [aK.add,aK.one])
theorem Hp.cell {b i:Nat} {c:Array Value} {t:TypeId} {fr:Nat×Nat} (h:Hp E w (aj b (.cells c t fr)::F)):w.cell? ⟨b,i,none⟩=c[i]? :=by
 simp [World.cell?,h.aD]
theorem Hp.alloc (h:Hp E w F) (o:Obj):Hp E (w.alloc o) (aj w.heap.size o::F):=by
 obtain ⟨f,a,h1⟩:=h.frag
 have hn:f w.heap.size=none:=by
  cases hf:f w.heap.size with
  |none=>rfl
  |some o=>have:=a _ _ hf;simp at this
 refine ⟨h.os,h.output,h.tape,(aK.one w.heap.size o).add f,fun r o' hr=> ?_,_,_,fun r=> ?_,rfl,rfl,h1⟩
 ·show (w.heap.push o)[r]? =_
  rw [Array.getElem?_push]
  by_cases hr0:r=w.heap.size
  ·subst hr0;simp [aK.add,aK.one] at hr;simp [hr]
  ·simp [aK.add,aK.one,hr0] at hr
   rw [if_neg hr0];exact a r o' hr
 ·by_cases hr0:r=w.heap.size
  ·subst hr0;exact .inr hn
  ·exact .inl (by simp [aK.one,hr0])
theorem Hp.setObj {b:Nat} {o o':Obj} (h:Hp E w (aj b o::F)) (h1:w'.heap=w.heap.set! b o') (h2:w'.os=w.os) (h3:w'.output=w.output) (h4:w'.tape=w.tape):Hp E w' (aj b o'::F):=by
 have hb:=h.aD
 obtain ⟨f,a,g,k,hd,rfl,rfl,h5⟩:=h.frag
 have hk:k b=none:=by
  rcases hd b with hh|hh
  ·simp [aK.one] at hh
  ·exact hh
 refine ⟨h2.trans h.os,h3.trans h.output,h4.trans h.tape,(aK.one b o').add k,fun r x hr=> ?_,_,_,fun r=> ?_,rfl,rfl,h5⟩
 ·rw [h1]
  have hlt:b<w.heap.size:=by
   rcases Nat.lt_or_ge b w.heap.size with hh|hh
   ·exact hh
   ·simp [Array.getElem?_eq_none hh] at hb
  by_cases hr0:r=b
  ·subst hr0
   simp [aK.add,aK.one] at hr
   simp [hr,hlt]
  ·simp [aK.add,aK.one,hr0] at hr
   have:=a r x (by simp [aK.add,aK.one,hr0,hr])
   rw [Array.set!_eq_setIfInBounds,Array.getElem?_setIfInBounds_ne (Ne.symm hr0)]
   exact this
 ·by_cases hr0:r=b
  ·subst hr0;exact .inr hk
  ·exact .inl (by simp [aK.one,hr0])
theorem Hp.setCell {b i:Nat} {c:Array Value} {t:TypeId} {fr:Nat×Nat} (h:Hp E w (aj b (.cells c t fr)::F)) (v:Value):
  Hp E (w.setCell ⟨b,i,none⟩ v) (aj b (.cells (c.setIfInBounds i v) t fr)::F):=by
 have hb:=h.aD
 refine h.setObj (o':= .cells (c.setIfInBounds i v) t fr) ?_ rfl rfl rfl
 apply Array.ext_getElem?
 intro r
 have hlt:b<w.heap.size:=by
  rcases Nat.lt_or_ge b w.heap.size with hh|hh
  ·exact hh
  ·simp [Array.getElem?_eq_none hh] at hb
 simp only [World.setCell,Array.getElem?_modify,Array.set!_eq_setIfInBounds,Array.getElem?_setIfInBounds]
 by_cases hr:b=r
 ·subst hr
  have hv:w.heap[b]= .cells c t fr:=by simpa [hlt] using hb
  simp [hlt,hv]
 ·simp [hr]
def ab (F:List HP) (φ:World→Prop):Prop:= ∀w f,I9 f w→Sat F f→φ w
theorem Hp.ag {φ:World→Prop} (h:Hp E w F) (ht:ab F φ):φ w:=let ⟨f,a,b⟩:=h.frag;ht w f a b
theorem ab.cons {φ:World→Prop} (ht:ab F φ):ab (A::F) φ:=by
 rintro w f a ⟨g,k,hd,rfl,h1,h2⟩
 refine ht w k (fun r o hr=>a r o ?_) h2
 rcases hd r with hg|hk
 ·simp [aK.add,hg,hr]
 ·rw [hk] at hr;cases hr
theorem ab.perm {φ:World→Prop} (ht:ab l φ) (hp:l.Perm l'):ab l' φ:=fun w f a b=>ht w f a (Sat.perm hp.symm f b)
theorem ab.imp {φ ψ:World→Prop} (ht:ab F φ) (h: ∀w,φ w→ψ w):ab F ψ:=fun w f a b=>h w (ht w f a b)
theorem ab.and {φ ψ:World→Prop} (h1:ab F φ) (h2:ab F ψ):ab F (fun w=>φ w∧ψ w):=fun w f a b=>⟨h1 w f a b,h2 w f a b⟩
theorem ab.all {α:Sort _} {φ:α→World→Prop} (h: ∀x,ab F (φ x)):ab F (fun w=> ∀x,φ x w):=fun w f a b x=>h x w f a b
theorem ab.const {p:Prop} (h:p):ab F (fun _=>p):=fun _ _ _ _=>h
def Old (W:World):HP:=fun f=> ∀r,f r=W.heap[r]?
theorem Hp.start (W:World):Hp W W [Old W]:=
 ⟨rfl,rfl,rfl,fun r=>W.heap[r]?,fun _ _ h=>h,fun r=>W.heap[r]?,aK.emp,fun _=> .inr rfl,(aK.GL _).symm,fun _=>rfl,rfl⟩
theorem ab.JN {W:World} {φ:World→Prop} (h: ∀w,(∀r,r<W.heap.size→w.heap[r]? =W.heap[r]?)→φ w):ab (Old W::F) φ:=by
 rintro w f a ⟨g,k,hd,rfl,h1,h2⟩
 refine h w fun r hr=> ?_
 have:g r=some W.heap[r]:=by rw [h1 r];simp [hr]
 rw [a r W.heap[r] (by simp [aK.add,this])]
 simp [hr]
theorem Hp.below {W:World} (h:Hp W w (Old W::F)):Go.RowKit.Below W.heap.size W w:=by
 have hk:=h.ag (ab.JN (φ:=fun w=> ∀r,r<W.heap.size→w.heap[r]? =W.heap[r]?) fun w h=>h)
 refine ⟨h.os,h.tape,h.output,?_,hk⟩
 rcases Nat.lt_or_ge w.heap.size W.heap.size with hlt|hge
 ·have:=hk w.heap.size hlt
  simp [hlt] at this
 ·exact hge
end
section
variable {E w:World} {F:List HP}
theorem aa.mk {b:Bool} {X Y:Prop} (h1:b=true→X) (h2:b=false→Y):aa b X Y:=by
 cases b
 ·exact h2 rfl
 ·exact h1 rfl
theorem aa.t {b:Bool} {X Y:Prop} (hb:b=true) (h:X):aa b X Y:=by subst hb;exact h
theorem aa.f {b:Bool} {X Y:Prop} (hb:b=false) (h:Y):aa b X Y:=by subst hb;exact h
theorem Ld.sc {s:Sc} {p:Addr} {K:s.T→Prop} (x:s.T) (hc:w.cell? p=some (s.enc x)) (h:K x):Ld (.sc s) p w K:=
 ⟨x,fun w' hw=>by subst hw;exact hc,h⟩
theorem St.mk {p:Addr} {v:Value} {K:World→Prop} {b i:Nat} {c:Array Value} {t:TypeId} (hp:p=⟨b,i,none⟩) (hh:Hp E w (aj b (.cells c t (0,0))::F)) (hi:i<c.size) (hv:aw v=true)
  (h: ∀w',Hp E w' (aj b (.cells (c.setIfInBounds i v) t (0,0))::F)→K w'):St p v w K:=by
 subst hp
 unfold St
 rw [hv]
 refine ⟨?_,?_,h _ (hh.setCell v)⟩
 ·rw [hh.cell];simp [hi]
 ·simp [World.frozen?,hh.aD]
theorem Nw.mk {t:TypeId} {cs:Array Value} {K:Nat→World→Prop} (hh:Hp E w F) (h: ∀b w',Hp E w' (aj b (.cells cs t (0,0))::F)→K b w'):Nw t cs w K:=h _ _ (hh.alloc _)
theorem aq.mk {K:World→Prop} (hh:Hp E w F) (h: ∀w',Hp E w' F→K w'):aq w K:=h _ hh.drew
theorem Cl.imp {P:Program} {ks:List Ki} {i:FuncId} {args:Array Value} {K K':ea ks (World→Prop)} (h:Cl P ks i args w K) (hk: ∀e w',nS ks K e w'→nS ks K' e w'):Cl P ks i args w K':=
 Calls.mono h hk
end
end Go.Vc
set_option maxRecDepth 20000
namespace Go.Vc
open Go
theorem ad {x:Int} (h: -9223372036854775808≤x∧x≤9223372036854775807):i64 x=x:=IntWalk.i64_in x h
theorem lQ {x:Int} (h:0≤x∧x≤18446744073709551615):u64 x=x:=IntWalk.u64_in x h
theorem gd {x:Int} (h:0≤x∧x≤4294967295):u32 x=x:=IntWalk.u32_in x h
theorem qa (x:Int):u8 x=x % 256:=by
 show IntKind.wrap .u8 x=x % 256
 simp [IntKind.wrap,IntKind.bits,IntKind.signed]
theorem gC {x:Int} (h:0≤x∧x≤255):u8 x=x:=by rw [qa];omega
theorem iP (n a:Nat) (h:a<2^n):(BitVec.ofInt n (a:Int)).toNat=a:=by
 rw [BitVec.toNat_ofInt]
 have:((a:Int) % ((2^n:Nat):Int))=((a % 2^n:Nat):Int):=by omega
 rw [this,Int.toNat_natCast,Nat.mod_eq_of_lt h]
theorem oH {k:IntKind} {a:Nat} (h:(a:Int)≤k.max):k.wrap (a:Int)=a:=by
 cases k
 ·have:IntKind.max .i8=127:=rfl
  exact IntWalk.i8_in _ (by omega)
 ·have:IntKind.max .i16=32767:=rfl
  exact IntWalk.i16_in _ (by omega)
 ·have:IntKind.max .i32=2147483647:=rfl
  exact IntWalk.i32_in _ (by omega)
 ·have:IntKind.max .i64=9223372036854775807:=rfl
  exact IntWalk.i64_in _ (by omega)
 ·have:IntKind.max .u8=255:=rfl
  exact IntWalk.u8_in _ (by omega)
 ·have:IntKind.max .u16=65535:=rfl
  exact IntWalk.u16_in _ (by omega)
 ·have:IntKind.max .u32=4294967295:=rfl
  exact IntWalk.u32_in _ (by omega)
 ·have:IntKind.max .u64=18446744073709551615:=rfl
  exact IntWalk.u64_in _ (by omega)
theorem max_lt (k:IntKind):(k.max:Int)<2^k.bits:=by cases k<;>decide
theorem lI {k:IntKind} {a:Nat} (ha:(a:Int)≤k.max):a<2^k.bits:=by
 have:=max_lt k
 have h2:(a:Int)<2^k.bits:=Int.lt_of_le_of_lt ha this
 exact_mod_cast h2
theorem oz {k:IntKind} {a b:Nat} (ha:(a:Int)≤k.max) (hb:(b:Int)≤k.max) (h:((a|||b:Nat):Int)≤k.max):jk k a b=((a|||b:Nat):Int):=by
 unfold jk
 rw [BitVec.toNat_or,iP _ _ (lI ha),iP _ _ (lI hb),oH h]
theorem ew {k:IntKind} {a b:Nat} (ha:(a:Int)≤k.max) (hb:(b:Int)≤k.max):bo k a b=((a&&&b:Nat):Int):=by
 unfold bo
 rw [BitVec.toNat_and,iP _ _ (lI ha),iP _ _ (lI hb),oH]
 have:=Nat.and_le_left (n:=a) (m:=b)
 omega
theorem gf {k:IntKind} {a b:Nat} (ha:(a:Int)≤k.max) (hb:(b:Int)≤k.max) (h:((a^^^b:Nat):Int)≤k.max):dg k a b=((a^^^b:Nat):Int):=by
 unfold dg
 rw [BitVec.toNat_xor,iP _ _ (lI ha),iP _ _ (lI hb),oH h]
theorem bO {k:IntKind} {a b:Nat} (hb:b≤k.bits):aF k a b=((a/2^b:Nat):Int):=by
 unfold aF
 rw [Int.toNat_natCast,Nat.min_eq_left hb,Int.fdiv_eq_ediv_of_nonneg _ (by exact_mod_cast Nat.zero_le _)]
 exact_mod_cast rfl
theorem dM {k:IntKind} {a b:Nat} (hb:b≤k.bits) (h:((a*2^b:Nat):Int)≤k.max):a8 k a b=((a*2^b:Nat):Int):=by
 unfold a8
 rw [Int.toNat_natCast,Nat.min_eq_left hb]
 have:(a:Int)*2^b=((a*2^b:Nat):Int):=by push_cast;rfl
 rw [this,oH h]
theorem au (b o n:Nat):(⟨b,o,none⟩:Addr).add n=⟨b,o+n,none⟩:=by
 unfold Addr.add
 split
 ·rename_i h;subst h;rfl
 ·rfl
theorem add_zero (p:Addr):p.add 0=p:=by simp [Addr.add]
def aC (sz:Nat) (s:Sl) (xs:List Value) (w:World):Prop:=
 xs.length=s.len*sz∧∀i (h:i<xs.length),∃p,s.base=some p∧w.cell? (p.add i)=some xs[i]
def ah (sz:Nat) (s:Sl) (xs:List Value):HP:=fun f=>
 xs.length=s.len*sz∧((s.base=none∧s.len=0∧s.cap=0∧f=aK.emp)∨
 ∃b off arr t,s.base=some ⟨b,off,none⟩∧s.len≤s.cap∧off+s.cap*sz≤arr.size∧(∀i (h:i<xs.length),arr[off+i]? =some xs[i])∧f=aK.one b (.cells arr t (0,0)))
section
variable {E w w':World} {F:List HP} {sz:Nat} {s:Sl} {xs ys:List Value}
theorem ah.nil (sz:Nat):ah sz ⟨none,0,0⟩ [] aK.emp:=⟨by simp,.inl ⟨rfl,rfl,rfl,rfl⟩⟩
theorem Hp.bl (h:Hp E w F) (sz:Nat):Hp E w (ah sz ⟨none,0,0⟩ []::F):=h.emp (ah.nil sz)
theorem Hp.fC {b:Nat} {arr:Array Value} {t:TypeId} {n:Nat} (h:Hp E w (aj b (.cells arr t (0,0))::F)) (hn:arr.toList.length=n*sz):
  Hp E w (ah sz ⟨some ⟨b,0,none⟩,n,n⟩ arr.toList::F):=by
 refine h.F3 fun f hf=>⟨hn,.inr ⟨b,0,arr,t,rfl,Nat.le_refl _,?_,?_,hf⟩⟩
 ·have:arr.size=n*sz:=by simpa using hn
  simp only [this];omega
 ·intro i hi
  have hi':i<arr.size:=by simpa using hi
  simp [hi']
theorem Hp.aO (h:Hp E w (ah sz s xs::F)):xs.length=s.len*sz:=by
 obtain ⟨f,a,g,k,hd,e,h1,h2⟩:=h.frag
 exact h1.1
theorem Hp.ej (h:Hp E w (ah sz s xs::F)):s.len≤s.cap:=by
 obtain ⟨f,a,g,k,hd,e,h1,h2⟩:=h.frag
 rcases h1.2 with ⟨h1,h2,h3,_⟩|⟨b,off,arr,t,h1,h2,_⟩
 ·omega
 ·exact h2
theorem Hp.lF (h:Hp E w (ah sz s xs::F)):(s=⟨none,0,0⟩∧xs= []∧Hp E w F)∨
  ∃b off arr t,s.base=some ⟨b,off,none⟩∧s.len≤s.cap∧off+s.cap*sz≤arr.size∧(∀i (h:i<xs.length),arr[off+i]? =some xs[i])∧Hp E w (aj b (.cells arr t (0,0))::F):=by
 have hl:=h.aO
 obtain ⟨f,a,g,k,hd,rfl,h1,h2⟩:=h.frag
 rcases h1.2 with ⟨h3,h4,h5,h6⟩|⟨b,off,arr,t,h3,h4,h5,h6,h7⟩
 ·refine .inl ⟨by cases s;simp_all,?_,h.drop⟩
  have:xs.length=0:=by rw [hl,h4];simp
  exact List.length_eq_zero_iff.1 this
 ·exact .inr ⟨b,off,arr,t,h3,h4,h5,h6,h.os,h.output,h.tape,_,a,g,k,hd,rfl,h7,h2⟩
theorem Hp.iT {b off:Nat} {arr:Array Value} {t:TypeId} (h:Hp E w (aj b (.cells arr t (0,0))::F)) (hl:xs.length=s.len*sz) (h1:s.base=some ⟨b,off,none⟩) (h2:s.len≤s.cap) (h3:off+s.cap*sz≤arr.size)
  (h4: ∀i (h:i<xs.length),arr[off+i]? =some xs[i]):Hp E w (ah sz s xs::F):=
 h.F3 fun _ hf=>⟨hl,.inr ⟨b,off,arr,t,h1,h2,h3,h4,hf⟩⟩
theorem ab.own:ab (ah sz s xs::F) (aC sz s xs):=by
 rintro w f a ⟨g,k,hd,rfl,⟨hl,h1⟩,h2⟩
 refine ⟨hl,fun i hi=> ?_⟩
 rcases h1 with ⟨h3,h4,h5,_⟩|⟨b,off,arr,t,h3,h4,h5,h6,rfl⟩
 ·rw [hl,h4] at hi;simp at hi
 ·refine ⟨_,h3,?_⟩
  have:w.heap[b]? =some (.cells arr t (0,0)):=a b _ (by simp [aK.add,aK.one])
  rw [au]
  simp only [World.cell?,this]
  exact h6 i hi
theorem ab.cell {W:World} {p:Addr} {v:Value} (h:W.cell? p=some v):ab (Old W::F) (fun w=>w.cell? p=some v):=by
 refine ab.JN fun w hw=> ?_
 have hlt:p.block<W.heap.size:=by
  unfold World.cell? at h
  rcases Nat.lt_or_ge p.block W.heap.size with hh|hh
  ·exact hh
  ·simp [Array.getElem?_eq_none hh] at h
 rw [←h]
 unfold World.cell?
 rw [hw _ hlt]
theorem ab.Ke {W:World} (h:aC sz s xs W):ab (Old W::F) (aC sz s xs):=by
 intro w f a b
 refine ⟨h.1,fun i hi=> ?_⟩
 obtain ⟨p,hp,hc⟩:=h.2 i hi
 exact ⟨p,hp,(ab.cell hc) w f a b⟩
theorem ao.mk {i:Int} {K:Addr→Prop} {p:Addr} (hp:s.base=some p) (h0:0≤i) (h1:i<(s.len:Int)) (h:K (p.add (i.toNat*sz))):ao s i sz K:=⟨p,hp,h0,h1,h⟩
theorem ao.rd {i:Int} {K:Addr→Prop} (hs:aC 1 s xs w) (h0:0≤i) (h1:i<(s.len:Int)) (h: ∀p (hi:i.toNat<xs.length),w.cell? p=some xs[i.toNat]→K p):ao s i 1 K:=by
 have hl:i.toNat<xs.length:=by rw [hs.1];omega
 obtain ⟨p,hp,hc⟩:=hs.2 _ hl
 exact ⟨p,hp,h0,h1,h _ hl (by simpa using hc)⟩
theorem ao.I8 {i:Int} {K:Addr→Prop} (hs:aC sz s xs w) (hz:0<sz) (h0:0≤i) (h1:i<(s.len:Int)) (h: ∀p,(∀j (hj:i.toNat*sz+j<xs.length),j<sz→w.cell? (p.add j)=some xs[i.toNat*sz+j])→K p):ao s i sz K:=by
 have hlt:i.toNat<s.len:=by omega
 have hmul:i.toNat*sz+sz≤s.len*sz:=by
  have:(i.toNat+1)*sz≤s.len*sz:=Nat.mul_le_mul_right _ hlt
  rw [Nat.succ_mul] at this;exact this
 obtain ⟨p,hp,_⟩:=hs.2 (i.toNat*sz) (by rw [hs.1];omega)
 refine ⟨p,hp,h0,h1,h _ fun j hj hjs=> ?_⟩
 obtain ⟨q,hq,hc⟩:=hs.2 (i.toNat*sz+j) hj
 have:q=p:=Option.some.inj (hq.symm.trans hp)
 subst this
 rw [←hc]
 congr 1
 unfold Addr.add
 by_cases e1:i.toNat*sz=0<;>by_cases e2:j=0<;>simp [e1,e2,Nat.add_assoc]
theorem Hp.setRow {b off:Nat} {t:TypeId}: ∀(vs:List Value) (i:Nat) (w:World) (arr:Array Value),Hp E w (aj b (.cells arr t (0,0))::F)→off+i+vs.length≤arr.size→
  ∃arr':Array Value,arr'.size=arr.size∧(∀j (h:j<vs.length),arr'[off+i+j]? =some vs[j])∧(∀j,j<off+i→arr'[j]? =arr[j]?)∧
   Hp E (ar.setRow w ⟨b,off,none⟩ vs i) (aj b (.cells arr' t (0,0))::F)
 | [],i,w,arr,h,_=>⟨arr,rfl,fun j h=>by simp at h,fun _ _=>rfl,h⟩
 |v::vs,i,w,arr,h,hl=>by
  simp only [List.length_cons] at hl
  have h1:=h.setCell (i:=off+i) v
  have hsz:off+(i+1)+vs.length≤(arr.setIfInBounds (off+i) v).size:=by rw [Array.size_setIfInBounds];omega
  obtain ⟨arr',e1,e2,e3,h2⟩:=Hp.setRow (b:=b) (off:=off) (t:=t) vs (i+1) _ (arr.setIfInBounds (off+i) v) h1 hsz
  refine ⟨arr',by simpa using e1,fun j hj=> ?_,fun j hj=> ?_,?_⟩
  ·cases j with
   |zero=>
    rw [Nat.add_zero,e3 _ (by omega)]
    simp [show off+i<arr.size by omega]
   |succ j=>
    have:=e2 j (by simp at hj;omega)
    rw [show off+i+(j+1)=off+(i+1)+j by omega]
    simpa using this
  ·rw [e3 _ (by omega),Array.getElem?_setIfInBounds_ne (by omega)]
  ·rw [ar.setRow,au];exact h2
theorem GW {P:Program} {b off:Nat} {arr:Array Value} {t:TypeId} (h:Hp E w (aj b (.cells arr t (0,0))::F)) (vs:List Value) (i:Nat) (hl:off+i+vs.length≤arr.size) (hv: ∀v∈vs,aw v=true):
  (storeCells ⟨b,off,none⟩ vs i).run P w= .ok () (ar.setRow w ⟨b,off,none⟩ vs i):=by
 refine pw vs i w fun j hj=>⟨hv _ (List.getElem_mem hj),?_,?_⟩
 ·rw [au,h.cell];simp;omega
 ·rw [au];simp [World.frozen?,h.aD]
theorem jK: ∀(r c n:Nat),c≤2*n+1024→Builtin.growBy n r c≤2*n+1024
 |0,c,n,h=>h
 |r+1,c,n,h=>by
  unfold Builtin.growBy
  split
  ·exact h
  ·exact jK r _ n (by omega)
theorem AH {n c:Nat} (h:c<n):Builtin.nextslicecap n c≤2*n+1024:=by
 unfold Builtin.nextslicecap
 split
 ·omega
 ·split
  ·omega
  ·exact jK 4 c n (by omega)
structure cp (P:Program) (t e:TypeId) (sz bytes:Nat):Prop where
 und:P.underlying t=some (.slice e)
 info: ∃it z,P.info? e=some it∧it.size=sz∧it.bytes=bytes∧it.zero=some z∧z.cells.size=sz
def Gt (P:Program) (e:TypeId) (sz bytes:Nat):Bool:=
 match P.info? e with
 |some it=>it.size==sz&&it.bytes==bytes&&(match it.zero with|some z=>z.cells.size==sz|none=>false)
 |none=>false
theorem cp.of {P:Program} {t e:TypeId} {sz bytes:Nat} (h1:P.underlying t=some (.slice e)) (h2:Gt P e sz bytes=true):cp P t e sz bytes:=by
 refine ⟨h1,?_⟩
 unfold Gt at h2
 split at h2
 ·rename_i it hi
  simp only [Bool.and_eq_true,beq_iff_eq] at h2
  obtain ⟨⟨h2,h3⟩,h4⟩:=h2
  split at h4
  ·rename_i z hz
   exact ⟨it,z,hi,h2,h3,hz,by simpa using h4⟩
  ·simp at h4
 ·simp at h2
theorem v7 {P:Program} {vs:List Value} {p:Addr} (h: ∀i (hi:i<vs.length),w.cell? (p.add i)=some vs[i]):(loadCells p vs.length).run P w= .ok vs.toArray w:=by
 have:=hJ (P:=P) (w:=w) (a:=p) vs 0 #[] (fun j hj=>by simpa using h j hj)
 simpa [loadCells] using this
def Src (sz n:Nat) (x:Value) (ys:List Value) (w:World):Prop:=
 (∃b l c,x= .slice b l c∧n=l∧aC sz ⟨b,l,c⟩ ys w)∨(∃s:ByteArray,x= .string s∧n=s.size∧ys=s.data.toList.map fun b=> .int .u8 b.toNat)
theorem Src.run {P:Program} {n:Nat} {x:Value} (h:Src sz n x ys w):(Builtin.firstCells sz n x).run P w= .ok ys.toArray w∧(Builtin.lenOf x).run P w= .ok n w:=by
 rcases h with ⟨b,l,c,rfl,rfl,hl,hc⟩|⟨s,rfl,rfl,rfl⟩
 ·refine ⟨?_,rfl⟩
  simp only at hl
  cases b with
  |none=>
   cases ys with
   |nil=>rfl
   |cons y ys=>obtain ⟨p,hp,_⟩:=hc 0 (by simp);cases hp
  |some p=>
   show (loadCells p (n*sz)).run P w=_
   rw [←hl]
   exact v7 fun i hi=>by obtain ⟨q,hq,hc⟩:=hc i hi;cases hq;exact hc
 ·refine ⟨?_,rfl⟩
  show Result.ok ((s.extract 0 s.size).data.map fun b=>Value.int .u8 b.toNat) w=_
  congr 1
  have:s.extract 0 s.size=s:=by simp
  rw [this]
  apply Array.ext'
  simp
theorem Src.len {n:Nat} {x:Value} (h:Src 1 n x ys w):ys.length=n:=by
 rcases h with ⟨b,l,c,rfl,rfl,hl,hc⟩|⟨s,rfl,rfl,rfl⟩
 ·simpa using hl
 ·simp
theorem ob (z:Array Value) (n:Nat):(Builtin.zeroCells z n).size=n*z.size:=by simp [Builtin.zeroCells]
theorem rP {P:Program} {t tx ty e:TypeId} {bytes n:Nat} {x:Value} {K:Sl→World→Prop} (he:cp P t e sz bytes) (_:0<sz) (hx:(∃e2,P.underlying tx=some (.slice e2))∨P.underlying tx=some .string)
  (hh:Hp E w (ah sz s xs::F)) (hs:Src sz n x ys w) (hyl:ys.length=n*sz) (hys: ∀y∈ys,aw y=true) (hb:(2*(s.len+n)+1024)*bytes≤2^48) (hb2:s.len+n<2^62)
  (h: ∀s' w',Hp E w' (ah sz s' (xs++ys)::F)→s'.len=s.len+n→aC sz s xs w'→K s' w'):aA P (Builtin.append_ #[t,tx] ty ⟨[.slice s.base s.len s.cap,x]⟩) kS w K:=by
 obtain ⟨it,z,hi,hsz,hby,hze,hzs⟩:=he.info
 obtain ⟨hs1,hs2⟩:=hs.run (P:=P)
 have hlen:=hh.aO
 have hcap:=hh.ej
 have hso:(sizeOf e).run P w= .ok sz w:=by rw [bT hi,hsz]
 have step: ∀v w',(Builtin.append_ #[t,tx] ty ⟨[.slice s.base s.len s.cap,x]⟩).run P w= .ok v w'→(∃s':Sl,v= .slice s'.base s'.len s'.cap∧Hp E w' (ah sz s' (xs++ys)::F)∧s'.len=s.len+n∧aC sz s xs w')→
   aA P (Builtin.append_ #[t,tx] ty ⟨[.slice s.base s.len s.cap,x]⟩) kS w K:=by
  rintro v w' h1 ⟨s',rfl,h2,h3,h4⟩
  unfold aA
  rw [h1]
  exact h s' w' h2 h3 h4
 have hlen2:(xs++ys).length=(s.len+n)*sz:=by rw [List.length_append,hlen,hyl,Nat.add_mul]
 by_cases hfit:s.len+n≤s.cap
 ·rcases hh.lF with ⟨rfl,rfl,hF⟩|⟨b,off,arr,tt,h1,h2,h3,h4,hB⟩
  ·have hn0:n=0:=by simp at hfit;exact hfit
   subst hn0
   have hy0:ys= []:=by simpa using hyl
   subst hy0
   refine step (.slice none 0 0) w ?_ ⟨⟨none,0,0⟩,rfl,hh,rfl,hh.ag ab.own⟩
   rcases hx with ⟨e2,hd⟩|hd<;>simp [Builtin.append_,run_underlying he.und,hso,run_underlying hd,hs1,hs2]
  ·have hmul:(s.len+n)*sz≤s.cap*sz:=Nat.mul_le_mul_right _ hfit
   rw [Nat.add_mul] at hmul
   have hlr:off+s.len*sz+ys.length≤arr.size:=by omega
   obtain ⟨arr',e1,e2,e3,hB'⟩:=Hp.setRow (off:=off) ys (s.len*sz) w arr hB (by omega)
   have hrow:=GW (P:=P) (off:=off+s.len*sz) hB ys 0 (by omega) hys
   have hro2:ar.setRow w ⟨b,off+s.len*sz,none⟩ ys 0=ar.setRow w ⟨b,off,none⟩ ys (s.len*sz):=by
    have key: ∀(vs:List Value) (w:World) (i:Nat),ar.setRow w ⟨b,off+s.len*sz,none⟩ vs i=ar.setRow w ⟨b,off,none⟩ vs (s.len*sz+i):=by
     intro vs
     induction vs with
     |nil=>intro w i;rfl
     |cons v vs ih=>intro w i;simp only [ar.setRow,ih,au,Nat.add_assoc]
    simpa using key ys w 0
   refine step (.slice s.base (s.len+n) s.cap) (ar.setRow w ⟨b,off,none⟩ ys (s.len*sz)) ?_ ⟨⟨s.base,s.len+n,s.cap⟩,rfl,?_,rfl,⟨hlen,fun i hi=>⟨_,h1,by rw [au,hB'.cell,e3 _ (by omega)];exact h4 i hi⟩⟩⟩
   ·rw [hro2] at hrow
    rcases hx with ⟨e2,hd⟩|hd<;>simp [Builtin.append_,run_underlying he.und,hso,run_underlying hd,hs1,hs2,hfit,h1,au,hrow]
   ·refine Hp.iT hB' hlen2 h1 hfit (by simp only;omega) fun i hi=> ?_
    by_cases hi2:i<xs.length
    ·rw [e3 _ (by omega),List.getElem_append_left hi2];exact h4 i hi2
    ·rw [List.getElem_append_right (by omega)]
     have:=e2 (i - xs.length) (by simp at hi;omega)
     rw [←this]
     congr 1
     omega
 ·have hnext: ¬Builtin.nextslicecap (s.len+n) s.cap*it.bytes>2^48:=by
   have:=AH (n:=s.len+n) (c:=s.cap) (by omega)
   have h2:Builtin.nextslicecap (s.len+n) s.cap*it.bytes≤(2*(s.len+n)+1024)*bytes:=by rw [hby];exact Nat.mul_le_mul_right _ this
   omega
  have hmax: ¬((s.len+n:Nat):Int)>IntKind.i64.max:=by
   have:IntKind.i64.max=9223372036854775807:=rfl
   rw [this];omega
  have hold:(Builtin.firstCells sz s.len (.slice s.base s.len s.cap)).run P w= .ok xs.toArray w:=by
   have:Src sz s.len (.slice s.base s.len s.cap) xs w:= .inl ⟨s.base,s.len,s.cap,rfl,rfl,hh.ag ab.own⟩
   exact (this.run (P:=P)).1
  generalize hq:Question.cut (.appendCap (s.len+n) s.cap e) (w.tape w.drawn (.appendCap (s.len+n) s.cap e))=newCap
  have hnc:s.len+n≤newCap:=by rw [←hq];exact Nat.le_add_right _ _
  have hF:Hp E w F:=hh.drop
  have hD:Hp E w.drew F:=hF.drew (n:=w.drawn+1)
  have hold':(Builtin.firstCells sz s.len (.slice s.base s.len s.cap)).run P w.drew= .ok xs.toArray w.drew:=by
   have:Src sz s.len (.slice s.base s.len s.cap) xs w.drew:= .inl ⟨s.base,s.len,s.cap,rfl,rfl,(hh.drew (n:=w.drawn+1)).ag ab.own⟩
   exact (this.run (P:=P)).1
  have hs1':(Builtin.firstCells sz n x).run P w.drew= .ok ys.toArray w.drew:=(Src.run (P:=P) (w:=w.drew) hs).1
  have hA:=hD.alloc (.cells (xs.toArray++ys.toArray++Builtin.zeroCells z.cells (newCap - (s.len+n))) e)
  refine step (.slice (some ⟨w.heap.size,0,none⟩) (s.len+n) newCap) _ ?_ ⟨⟨some ⟨w.heap.size,0,none⟩,s.len+n,newCap⟩,rfl,Hp.iT hA hlen2 rfl hnc ?_ ?_,rfl,((hh.drew (n:=w.drawn+1)).alloc (.cells (xs.toArray++ys.toArray++Builtin.zeroCells z.cells (newCap - (s.len+n))) e)).ag (ab.cons ab.own)⟩
  ·have hz': ∀w:World,(zeroValue e).run P w= .ok z w:=by intro w;simp [zeroValue,typeInfo,hi,hze]
   have hti: ∀w:World,(typeInfo e).run P w= .ok it w:=by intro w;simp [typeInfo,hi]
   have hmax': ¬(9223372036854775807<(s.len:Int)+(n:Int)∧it.bytes=0):=by omega
   have hfo:Question.forced (.appendCap (s.len+n) s.cap e)=false:=rfl
   rcases hx with ⟨e2,hd⟩|hd<;>simp [Builtin.append_,run_underlying he.und,hso,run_underlying hd,hs2,hfit,hmax',hti,hnext,hfo,hq,hold',hs1',hz',newRow]
   all_goals rw [←Array.append_assoc,show xs.toArray++ys.toArray=(xs++ys).toArray by simp]
  ·simp only [Array.size_append,List.size_toArray,ob,hzs,hlen,hyl]
   have:newCap*sz=(s.len+n)*sz+(newCap - (s.len+n))*sz:=by rw [←Nat.add_mul];congr 1;omega
   rw [this,Nat.add_mul];omega
  ·intro i hi
   have h1:i<(xs.toArray++ys.toArray).size:=by simpa using hi
   rw [Nat.zero_add,Array.getElem?_append_left h1]
   have:(xs.toArray++ys.toArray)=(xs++ys).toArray:=by simp
   rw [this]
   simp only [List.getElem?_toArray]
   exact List.getElem?_eq_getElem hi
theorem aM {P:Program} {t tx ty e:TypeId} {bytes n:Nat} {x:Value} {K:Sl→World→Prop} (he:cp P t e sz bytes) (hz:0<sz) (hx:(∃e2,P.underlying tx=some (.slice e2))∨P.underlying tx=some .string)
  (hh:Hp E w (ah sz s xs::F)) (hs:Src sz n x ys w) (hyl:ys.length=n*sz) (hys: ∀y∈ys,aw y=true) (hb:(2*(s.len+n)+1024)*bytes≤2^48) (hb2:s.len+n<2^62)
  (h: ∀s' w',Hp E w' (ah sz s' (xs++ys)::F)→s'.len=s.len+n→K s' w'):aA P (Builtin.append_ #[t,tx] ty ⟨[.slice s.base s.len s.cap,x]⟩) kS w K:=
 rP he hz hx hh hs hyl hys hb hb2 fun s' w' h1 h2 _=>h s' w' h1 h2
end
theorem pL.mk {P:Program} {i:FuncId} {first captured:Array Value} {ks:List Ki} {args:List Value} {w:World} {K:ea ks (World→Prop)} (ok:kj P i=true) (h:Cl P ks i ⟨first.toList++args++captured.toList⟩ w K):
  pL P (.func (.func i) first captured) ks args w K:=by
 show cY _ _
 rw [ok];exact h
theorem gO.mk {P:Program} {i:FuncId} {first captured:Array Value} {ks:List Ki} {args:List Value} {w:World} {K:ea ks (World→Prop)} (ok:kj P i=true) (h:Cl P ks i ⟨first.toList++args++captured.toList⟩ w K):
  gO P (.func (.func i) first captured) ks args w K:=by
 unfold gO
 simp only [ok]
 exact h
theorem aZ {X Y:Prop}:aa true X Y=X:=rfl
theorem aY {X Y:Prop}:aa false X Y=Y:=rfl
theorem ay {p:Addr} {K:Addr→Prop}:dN (some p) K=K p:=rfl
theorem aH {α:Type} (r:α) (k:α→Prop):bf r k=k r:=rfl
section
variable {E w:World} {F:List HP}
theorem Ld.aD {s:Sc} {b i:Nat} {c:Array Value} {t:TypeId} {fr:Nat×Nat} {K:s.T→Prop} (h:Hp E w (aj b (.cells c t fr)::F)) (x:s.T) (hx:c[i]? =some (s.enc x)) (hk:K x):Ld (.sc s) ⟨b,i,none⟩ w K:=
 Ld.sc x (by rw [h.cell];exact hx) hk
theorem St.aD {v:Value} {K:World→Prop} {b i:Nat} {c:Array Value} {t:TypeId} (hh:Hp E w (aj b (.cells c t (0,0))::F)) (hi:i<c.size) (hv:aw v=true)
  (h: ∀w',Hp E w' (aj b (.cells (c.setIfInBounds i v) t (0,0))::F)→K w'):St ⟨b,i,none⟩ v w K:=St.mk rfl hh hi hv h
end
def cf:Nat:=1099511627776
theorem av:cf=1099511627776:=rfl
def vB (x:Nat):Value:= .int .u8 (x:Int)
def vI (x:Int):Value:= .int .i64 x
theorem ek {xs:List Nat}: ∀y∈xs.map vB,aw y=true:=by
 intro y hy
 obtain ⟨x,_,rfl⟩:=List.mem_map.1 hy
 rfl
theorem mZ {xs:List Int}: ∀y∈xs.map vI,aw y=true:=by
 intro y hy
 obtain ⟨x,_,rfl⟩:=List.mem_map.1 hy
 rfl
theorem St.Ff {E w:World} {F:List HP} {sz j:Nat} {s:Sl} {xs:List Value} {i:Int} {v:Value} {K:World→Prop} (hh:Hp E w (ah sz s xs::F)) (hj:j<sz) (h0:0≤i) (h1:i<(s.len:Int)) (hv:aw v=true)
  (h: ∀w',Hp E w' (ah sz s (xs.set (i.toNat*sz+j) v)::F)→K w'):ao s i sz (fun q=>St (q.add j) v w K):=by
 have hl:=hh.aO
 have hlt:i.toNat<s.len:=by omega
 have hmul:i.toNat*sz+sz≤s.len*sz:=by
  have:(i.toNat+1)*sz≤s.len*sz:=Nat.mul_le_mul_right _ hlt
  rw [Nat.succ_mul] at this;exact this
 rcases hh.lF with ⟨rfl,rfl,hF⟩|⟨b,off,arr,t,e1,e2,e3,e4,hB⟩
 ·simp at hlt
 ·have hcm:s.len*sz≤s.cap*sz:=Nat.mul_le_mul_right _ e2
  refine ⟨_,e1,h0,h1,?_⟩
  rw [au]
  show St (Addr.add _ j) v w K
  rw [au]
  refine St.mk rfl hB (by omega) hv fun w' h'=>h _ ?_
  refine h'.iT (by simpa using hl) e1 e2 (by simpa using e3) fun r hr=> ?_
  rw [List.length_set] at hr
  rw [Array.getElem?_setIfInBounds,List.getElem_set]
  by_cases hq:i.toNat*sz+j=r
  ·rw [if_pos (by omega),if_pos (by omega),if_pos hq]
  ·rw [if_neg (by omega),if_neg hq];exact e4 r hr
theorem St.own {E w:World} {F:List HP} {s:Sl} {xs:List Value} {i:Int} {v:Value} {K:World→Prop} (hh:Hp E w (ah 1 s xs::F)) (h0:0≤i) (h1:i<(s.len:Int)) (hv:aw v=true)
  (h: ∀w',Hp E w' (ah 1 s (xs.set i.toNat v)::F)→K w'):ao s i 1 (fun q=>St q v w K):=by
 have:=St.Ff (sz:=1) (j:=0) (K:=K) hh (by decide) h0 h1 hv (by simpa using h)
 simpa only [add_zero] using this
theorem ab.aD {F:List HP} {b n m sz:Nat} {arr:Array Value} {xs:List Value} {t:TypeId} {fr:Nat×Nat} (hx:arr.toList=xs) (hl:xs.length=n*sz):ab (aj b (.cells arr t fr)::F) (aC sz ⟨some ⟨b,0,none⟩,n,m⟩ xs):=by
 subst hx
 rintro w f a ⟨g,k,hd,rfl,rfl,h2⟩
 refine ⟨hl,fun i hi=>⟨_,rfl,?_⟩⟩
 have:w.heap[b]? =some (.cells arr t fr):=a b _ (by simp [aK.add,aK.one])
 rw [au]
 simp only [World.cell?,this,Nat.zero_add]
 have hi':i<arr.size:=by simpa using hi
 simp [hi']
theorem ab.nil {F:List HP} {sz:Nat}:ab F (aC sz ⟨none,0,0⟩ []):=fun _ _ _ _=>⟨by simp,fun i hi=>by simp at hi⟩
theorem ao.El {E w:World} {F:List HP} {sz:Nat} {s:Sl} {xs:List Value} {i:Int} {K:Addr→Prop} (hh:Hp E w F) (hs:ab F (aC sz s xs)) (hz:0<sz) (h0:0≤i) (h1:i<(s.len:Int))
  (h: ∀p,(∀j,j<sz→ab F (fun w=>w.cell? (p.add j)=xs[i.toNat*sz+j]?))→K p):ao s i sz K:=by
 have hs1:=hh.ag hs
 have hlt:i.toNat<s.len:=by omega
 have hmul:i.toNat*sz+sz≤s.len*sz:=by
  have:(i.toNat+1)*sz≤s.len*sz:=Nat.mul_le_mul_right _ hlt
  rw [Nat.succ_mul] at this;exact this
 have hx:xs.length=s.len*sz:=hs1.1
 obtain ⟨p,hp,_⟩:=hs1.2 (i.toNat*sz) (by omega)
 refine ⟨p,hp,h0,h1,h _ fun j hj=>hs.imp fun w' hs'=> ?_⟩
 obtain ⟨q,hq,hc⟩:=hs'.2 (i.toNat*sz+j) (by omega)
 have:q=p:=Option.some.inj (hq.symm.trans hp)
 subst this
 rw [List.getElem?_eq_getElem (by omega),←hc]
 congr 1
 unfold Addr.add
 by_cases e1:i.toNat*sz=0<;>by_cases e2:j=0<;>simp [e1,e2,Nat.add_assoc]
theorem bg.own {E w:World} {F:List HP} {s:Sl} {xs:List Value} {lo hi:Int} {K:Sl→Prop} (hh:Hp E w (ah 1 s xs::F)) (h0:0≤lo) (h1:lo≤hi) (h2:hi≤(s.len:Int))
  (h: ∀s':Sl,Hp E w (ah 1 s' ((xs.drop lo.toNat).take (hi.toNat - lo.toNat))::F)→s'.len=hi.toNat - lo.toNat→K s'):bg s lo hi s.cap 1 K:=by
 have hl:=hh.aO
 have hc:=hh.ej
 refine ⟨h0,h1,by omega,by omega,h _ ?_ rfl⟩
 rcases hh.lF with ⟨rfl,rfl,hF⟩|⟨b,off,arr,t,e1,e2,e3,e4,hB⟩
 ·simp only at h2
  have e1:lo.toNat=0:=by omega
  have e2:hi.toNat=0:=by omega
  simpa [e1,e2] using hh
 ·have key:(if (s.cap:Int).toNat=lo.toNat then s.base else s.base.map (·.add (lo.toNat*1)))=if s.cap=lo.toNat then s.base else some ⟨b,off+lo.toNat,none⟩:=by
   rw [Int.toNat_natCast,e1]
   simp only [Option.map_some,au,Nat.mul_one]
  rw [key,Int.toNat_natCast]
  have hlen:((xs.drop lo.toNat).take (hi.toNat - lo.toNat)).length=(hi.toNat - lo.toNat)*1:=by simp [hl];omega
  by_cases hcl:s.cap=lo.toNat
  ·rw [if_pos hcl]
   refine hB.iT hlen e1 (by simp only;omega) (by simp only;omega) fun i hi'=> ?_
   rw [hlen] at hi';omega
  ·rw [if_neg hcl]
   refine hB.iT hlen rfl (by simp only;omega) (by simp only;omega) fun i hi'=> ?_
   have hi2:lo.toNat+i<xs.length:=by rw [hlen] at hi';omega
   rw [Nat.add_assoc,e4 _ hi2]
   simp
theorem bg.rd {w:World} {s:Sl} {xs:List Value} {lo hi mx:Int} {K:Sl→Prop} (hs:aC 1 s xs w) (h0:0≤lo) (h1:lo≤hi) (h2:hi≤(s.len:Int)) (h3:hi≤mx) (h4:mx≤(s.cap:Int))
  (h: ∀s':Sl,(∀w',aC 1 s xs w'→aC 1 s' ((xs.drop lo.toNat).take (hi.toNat - lo.toNat)) w')→s'.len=hi.toNat - lo.toNat→K s'):bg s lo hi mx 1 K:=by
 have hl:=hs.1
 refine ⟨h0,h1,h3,h4,h _ (fun w' hs'=> ?_) rfl⟩
 have hlen:((xs.drop lo.toNat).take (hi.toNat - lo.toNat)).length=(hi.toNat - lo.toNat)*1:=by simp [hl];omega
 refine ⟨hlen,fun i hi'=> ?_⟩
 have hi2:lo.toNat+i<xs.length:=by rw [hlen] at hi';omega
 obtain ⟨p,hp,hcell⟩:=hs'.2 _ hi2
 have hne:mx.toNat≠lo.toNat:=by rw [hlen] at hi';omega
 refine ⟨p.add lo.toNat,by simp [hne,hp],?_⟩
 have:(p.add lo.toNat).add i=p.add (lo.toNat+i):=by
  unfold Addr.add
  by_cases e1:lo.toNat=0<;>by_cases e2:i=0<;>simp [e1,e2,Nat.add_assoc]
 rw [this,hcell]
 simp
end Go.Vc
set_option maxRecDepth 20000
namespace Go.Vc
open Go
section
variable {E w:World} {F:List HP}
theorem Ld.arr {b n:Nat} {cs:Array Value} {t:TypeId} {fr:Nat×Nat} {K:Array Value→Prop} (h:Hp E w (aj b (.cells cs t fr)::F)) (hn:cs.size=n) (hK:K cs):Ld (.arr n) ⟨b,0,none⟩ w K:=by
 refine ⟨cs,hn,fun w' hw i hi=> ?_,hK⟩
 subst hw
 rw [au,h.cell,Nat.zero_add]
 simp [hn,hi]
theorem ar.aD {b n:Nat} {c0 cs:Array Value} {t:TypeId} {K:World→Prop} (h:Hp E w (aj b (.cells c0 t (0,0))::F)) (h0:c0.size=n) (hn:cs.size=n) (hs: ∀v∈cs.toList,aw v=true)
  (hK: ∀w',Hp E w' (aj b (.cells cs t (0,0))::F)→K w'):ar n ⟨b,0,none⟩ cs w K:=by
 refine ⟨hn,fun i hi=>⟨?_,?_,?_⟩,?_⟩
 ·have:cs.getD i undef∈cs.toList:=by simp [hn,hi]
  exact hs _ this
 ·rw [au,h.cell];simp [h0,hi]
 ·rw [au];simp [World.frozen?,h.aD]
 ·obtain ⟨arr',e1,e2,e3,h'⟩:=Hp.setRow (b:=b) (off:=0) cs.toList 0 w c0 h (by simp;omega)
  have:arr'=cs:=by
   apply Array.ext
   ·omega
   ·intro i hi1 hi2
    have:=e2 i (by simpa using hi2)
    rw [show 0+0+i=i by omega,Array.getElem?_eq_getElem hi1] at this
    simpa using this
  subst this
  exact hK _ h'
theorem aB.rd {b n:Nat} {cs:Array Value} {t:TypeId} {fr:Nat×Nat} {i:Int} {s:Sc} {K:s.T→Prop} (h:Hp E w (aj b (.cells cs t fr)::F)) (h0:0≤i) (h1:i<(n:Int)) (x:s.T) (hx:cs[i.toNat]? =some (s.enc x)) (hK:K x):
  aB ⟨b,0,none⟩ n i 1 fun q=>Ld (.sc s) q w K:=by
 refine ⟨h0,h1,?_⟩
 rw [au]
 exact Ld.aD h x (by simpa using hx) hK
theorem aB.wr {b n:Nat} {cs:Array Value} {t:TypeId} {i:Int} {v:Value} {K:World→Prop} (h:Hp E w (aj b (.cells cs t (0,0))::F)) (h0:0≤i) (h1:i<(n:Int)) (hn:cs.size=n) (hv:aw v=true)
  (hK: ∀w',Hp E w' (aj b (.cells (cs.setIfInBounds i.toNat v) t (0,0))::F)→K w'):aB ⟨b,0,none⟩ n i 1 fun q=>St q v w K:=by
 refine ⟨h0,h1,?_⟩
 rw [au]
 exact St.aD h (by omega) hv (by simpa using hK)
theorem ez.rd {s:Sc} {cs:Array Value} {n:Nat} {i:Int} {K:s.T→Prop} (h0:0≤i) (h1:i<(n:Int)) (x:s.T) (hx:cs[i.toNat]? =some (s.enc x)) (hK:K x):ez s cs n i K:=⟨h0,h1,x,hx,hK⟩
end
def ai (k:IntKind) (l:List Nat):Array Value:=⟨l.map fun (n:Nat)=> .int k (n:Int)⟩
theorem aJ {k:IntKind} {l:List Nat}:(ai k l).size=l.length:=by simp [ai]
theorem fD {k:IntKind} {l:List Nat} {i:Nat} (h:i<l.length):(ai k l)[i]? =some (Sc.enc (.int k) (l[i]:Int)):=by simp [ai,h]
theorem dz {k:IntKind} {l:List Nat}: ∀v∈(ai k l).toList,aw v=true:=by
 intro v hv
 simp only [ai,List.mem_map] at hv
 obtain ⟨x,_,rfl⟩:=hv
 rfl
theorem xO {k:IntKind} {l:List Nat} {i x:Nat}:(ai k l).setIfInBounds i (.int k (x:Int))=ai k (l.set i x):=by
 unfold ai
 apply Array.ext'
 simp [List.map_set]
theorem uL {k:IntKind} {n:Nat}:(⟨List.replicate n (.int k 0)⟩:Array Value)=ai k (List.replicate n 0):=by
 unfold ai;simp
theorem tE.mk {k:IntKind} {n:Nat} {a b:List Nat} {K:Bool→Prop} (ha:a.length=n) (hb:b.length=n) (h:K (a==b)):tE k n (ai k a) (ai k b) K:=by
 refine ⟨a.map fun (x:Nat)=>(x:Int),b.map fun (x:Nat)=>(x:Int),by simp [ai],by simp [ai],by simpa using ha,by simpa using hb,?_⟩
 have:((a.map fun (x:Nat)=>(x:Int))==(b.map fun (x:Nat)=>(x:Int)))=(a==b):=by
  rw [Bool.eq_iff_iff,beq_iff_eq,beq_iff_eq]
  constructor
  ·intro h
   exact (List.map_inj_right (fun x y h=>by have h:(x:Int)=(y:Int):=h;omega)).1 h
  ·rintro rfl;rfl
 rw [this];exact h
end Go.Vc
set_option maxRecDepth 20000
namespace Go.Vc
open Go
section
variable {E w w':World} {F G:List HP} {sz:Nat} {s:Sl} {xs ys:List Value}
theorem Hp.oZ {l:List HP} (h:Hp E w (l++F)):Hp E w F:=by
 induction l with
 |nil=>exact h
 |cons A l ih=>exact ih h.drop
theorem ab.app {φ:World→Prop} (l:List HP) (ht:ab F φ):ab (l++F) φ:=by
 induction l with
 |nil=>exact ht
 |cons A l ih=>exact ih.cons
theorem ab.EU {φ:World→Prop} (ht:ab G φ):ab (G++F) φ:=(ht.app F).perm List.perm_append_comm
def cA (E:World) (F:List HP) (w:World):Prop:= ∃l,Hp E w (l++F)
theorem cA.mk (h:Hp E w F):cA E F w:=⟨[],h⟩
theorem cA.vy {A:HP} (h:Hp E w (A::F)):cA E F w:=⟨[A],h⟩
theorem cA.IH {A B:HP} (h:Hp E w (A::B::F)):cA E F w:=⟨[A,B],h⟩
theorem cA.ag {φ:World→Prop} (h:cA E F w) (ht:ab F φ):φ w:=by
 obtain ⟨l,h⟩:=h
 exact h.ag (ht.app l)
theorem bg.I8 {lo hi mx:Int} {K:Sl→Prop} (hl:xs.length=s.len*sz) (h0:0≤lo) (h1:lo≤hi) (h2:hi≤(s.len:Int)) (h3:hi≤mx) (h4:mx≤(s.cap:Int))
  (h: ∀s':Sl,(∀w',aC sz s xs w'→aC sz s' ((xs.drop (lo.toNat*sz)).take ((hi.toNat - lo.toNat)*sz)) w')→s'.len=hi.toNat - lo.toNat→s'.len≤s'.cap→K s'):bg s lo hi mx sz K:=by
 refine ⟨h0,h1,h3,h4,h _ (fun w' hs'=> ?_) rfl (by simp only;omega)⟩
 have hm:hi.toNat*sz≤s.len*sz:=Nat.mul_le_mul_right _ (by omega)
 have hsub:(hi.toNat - lo.toNat)*sz=hi.toNat*sz - lo.toNat*sz:=Nat.sub_mul ..
 have hmono:lo.toNat*sz≤hi.toNat*sz:=Nat.mul_le_mul_right _ (by omega)
 have hlen:((xs.drop (lo.toNat*sz)).take ((hi.toNat - lo.toNat)*sz)).length=(hi.toNat - lo.toNat)*sz:=by
  rw [List.length_take,List.length_drop];omega
 refine ⟨hlen,fun i hi'=> ?_⟩
 rw [hlen] at hi'
 obtain ⟨p,hp,hcell⟩:=hs'.2 (lo.toNat*sz+i) (by omega)
 have hne:mx.toNat≠lo.toNat:=by
  intro e
  have:hi.toNat - lo.toNat=0:=by omega
  rw [this] at hi';omega
 refine ⟨p.add (lo.toNat*sz),by simp [hne,hp],?_⟩
 have:(p.add (lo.toNat*sz)).add i=p.add (lo.toNat*sz+i):=by
  unfold Addr.add
  by_cases e1:lo.toNat*sz=0<;>by_cases e2:i=0<;>simp [e1,e2,Nat.add_assoc]
 rw [this,hcell]
 simp
theorem ae.sc {S:World→Prop} {s:Sc} {p:Addr} {K:s.T→Prop} (x:s.T) (hc: ∀w,S w→w.cell? p=some (s.enc x)) (h:K x):ae (.sc s) p S K:=⟨x,hc,h⟩
theorem bg.whole {b n:Nat} {hi mx:Int} {K:Sl→Prop} (hn:0<n) (h1:hi=(n:Int)) (h2:mx=(n:Int)) (h:K ⟨some ⟨b,0,none⟩,n,n⟩):bg ⟨some ⟨b,0,none⟩,n,n⟩ 0 hi mx 1 K:=by
 subst h1;subst h2
 refine ⟨by omega,by omega,by omega,by simp,?_⟩
 have e:(if ((n:Int)).toNat=(0:Int).toNat then (some ⟨b,0,none⟩:Option Addr) else (some ⟨b,0,none⟩:Option Addr).map (·.add ((0:Int).toNat*1)))=some ⟨b,0,none⟩:=by
  rw [if_neg (by simp;omega)];simp [Addr.add]
 rw [e]
 simpa using h
end
section
variable {α:Type} {g:α→List Value} {sz:Nat} {l:List α}
theorem cE (hg: ∀x,(g x).length=sz) (l:List α):(l.flatMap g).length=l.length*sz:=by
 induction l with
 |nil=>simp
 |cons x l ih=>rw [List.flatMap_cons,List.length_append,ih,hg,List.length_cons,Nat.succ_mul];omega
theorem AL (hg: ∀x,(g x).length=sz): ∀(l:List α) (n:Nat),(l.flatMap g).drop (n*sz)=(l.drop n).flatMap g
 |l,0=>by simp
 | [],n+1=>by simp
 |x::l,n+1=>by
  rw [List.drop_succ_cons,List.flatMap_cons,Nat.succ_mul,Nat.add_comm,←List.drop_drop,←hg x,List.drop_left,hg x]
  exact AL hg l n
theorem Ba (hg: ∀x,(g x).length=sz): ∀(l:List α) (n:Nat),(l.flatMap g).take (n*sz)=(l.take n).flatMap g
 |l,0=>by simp
 | [],n+1=>by simp
 |x::l,n+1=>by
  rw [List.take_succ_cons,List.flatMap_cons,List.flatMap_cons,Nat.succ_mul,Nat.add_comm,List.take_append,hg x,List.take_of_length_le (by rw [hg x];omega),show sz+n*sz - sz=n*sz by omega,Ba hg l n]
theorem ic (hg: ∀x,(g x).length=sz): ∀(l:List α) (i j:Nat) (hi:i<l.length),j<sz→(l.flatMap g)[i*sz+j]? =(g l[i])[j]?
 |x::l,0,j,_,hj=>by rw [List.flatMap_cons,List.getElem?_append_left (by rw [hg];omega),Nat.zero_mul,Nat.zero_add];rfl
 |x::l,i+1,j,hi,hj=>by
  rw [List.flatMap_cons,List.getElem?_append_right (by rw [hg,Nat.succ_mul];omega),hg,show (i+1)*sz+j - sz=i*sz+j by rw [Nat.succ_mul];omega,ic hg l i j (by simpa using hi) hj]
  rfl
end
section
variable {E w w':World} {F G:List HP} {sz:Nat} {s:Sl} {α:Type} {g:α→List Value} {l:List α}
theorem ao.el {i:Int} {n:Nat} {K:Addr→Prop} (hg: ∀x,(g x).length=sz) (hz:0<sz) (hs:aC sz s (l.flatMap g) w) (hn:i=(n:Int)) (hi:n<l.length) (h: ∀p,(∀j,j<sz→w.cell? (p.add j)=(g l[n])[j]?)→K p):ao s i sz K:=by
 subst hn
 have hl:=hs.1
 rw [cE hg] at hl
 have hle:l.length=s.len:=Nat.eq_of_mul_eq_mul_right hz hl
 refine ao.I8 hs hz (by omega) (by omega) fun p hp=>h p fun j hj=> ?_
 have e:=ic hg l n j hi hj
 have hlt:n*sz+j<(l.flatMap g).length:=by
  rw [cE hg]
  have:(n+1)*sz≤l.length*sz:=Nat.mul_le_mul_right _ hi
  rw [Nat.succ_mul] at this;omega
 rw [hp j (by rw [Int.toNat_natCast];exact hlt) hj]
 simp only [Int.toNat_natCast]
 rw [←e,List.getElem?_eq_getElem hlt]
theorem ao.Gu {i:Int} {n:Nat} {K:Addr→Prop} (hg: ∀x,(g x).length=sz) (hz:0<sz) (hh:Hp E w F) (hs:ab F (aC sz s (l.flatMap g))) (hn:i=(n:Int)) (hi:n<l.length) (h: ∀p,(∀j,j<sz→ab F (fun w=>w.cell? (p.add j)=(g l[n])[j]?))→K p):ao s i sz K:=by
 subst hn
 have hl:=(hh.ag hs).1
 rw [cE hg] at hl
 have hle:l.length=s.len:=Nat.eq_of_mul_eq_mul_right hz hl
 refine ao.El hh hs hz (by omega) (by omega) fun p hp=>h p fun j hj=>(hp j hj).imp fun w hw=> ?_
 rw [hw,Int.toNat_natCast,ic hg l n j hi hj]
theorem aC.len (hg: ∀x,(g x).length=sz) (hz:0<sz) (hs:aC sz s (l.flatMap g) w):s.len=l.length:=by
 have hl:=hs.1
 rw [cE hg] at hl
 exact (Nat.eq_of_mul_eq_mul_right hz hl).symm
theorem bg.el {lo hi mx:Int} {a b:Nat} {K:Sl→Prop} (hg: ∀x,(g x).length=sz) (hl:s.len=l.length) (ha:lo=(a:Int)) (hb:hi=(b:Int)) (h1:a≤b) (h2:b≤l.length) (h3:hi≤mx) (h4:mx≤(s.cap:Int))
  (h: ∀s':Sl,(∀w',aC sz s (l.flatMap g) w'→aC sz s' (((l.drop a).take (b - a)).flatMap g) w')→s'.len=b - a→s'.len≤s'.cap→K s'):bg s lo hi mx sz K:=by
 subst ha;subst hb
 refine bg.I8 (xs:=l.flatMap g) (by rw [cE hg,hl]) (by omega) (by omega) (by omega) h3 h4 fun s' hs' hl' hc'=>h s' (fun w' hw'=> ?_) (by simpa using hl') hc'
 have:=hs' w' hw'
 simp only [Int.toNat_natCast] at this
 rw [AL hg,Ba hg] at this
 exact this
theorem yq {S:World→Prop} {p:Addr}: ∀{ks:List Sc} {i:Nat} {K:TT ks→Prop} (x:TT ks) (_: ∀w,S w→∀j (hj:j<(fw ks x).length),w.cell? (p.add (i+j))=some (fw ks x)[j]) (_:K x),AK S p ks i K
 | [],_,_,_,_,h=>h
 |k::ks,i,K,(x,y),hc,h=>⟨x,fun w hw=>by have:=hc w hw 0 (by simp);simpa using this,yq (ks:=ks) (i:=i+1) y (fun w hw j hj=>by
   have:=hc w hw (j+1) (by simp;omega)
   simpa [Nat.add_assoc,Nat.add_comm 1 j] using this) h⟩
theorem Ld.st {ks:List Sc} {p:Addr} {K:TT ks→Prop} (x:TT ks) (hc: ∀j,j<(fw ks x).length→w.cell? (p.add j)=(fw ks x)[j]?) (h:K x):Ld (.st ks) p w K:=
 yq x (fun w' hw' j hj=>by
  have hw':w'=w:=hw'
  subst hw'
  rw [Nat.zero_add,hc j hj,List.getElem?_eq_getElem hj]) h
theorem Ld.pr {ks:List Sc} {b:Nat} {cs:Array Value} {t:TypeId} {fr:Nat×Nat} {K:TT ks→Prop} (hh:Hp E w (aj b (.cells cs t fr)::F)) (x:TT ks) (hc:cs=⟨fw ks x⟩) (h:K x):Ld (.st ks) ⟨b,0,none⟩ w K:=by
 subst hc
 refine Ld.st x (fun j hj=> ?_) h
 rw [au,hh.cell];simp
theorem ak.go {b:Nat} {t:TypeId} {K:World→Prop}: ∀(vs:List Value) (i:Nat) (w:World) (c:Array Value),Hp E w (aj b (.cells c t (0,0))::F)→i+vs.length=c.size→(∀v∈vs,aw v=true)→
  (∀c' w',c'.toList=c.toList.take i++vs→Hp E w' (aj b (.cells c' t (0,0))::F)→K w')→ak ⟨b,0,none⟩ vs i w K
 | [],i,w,c,hh,hi,_,hK=>hK c w (by rw [List.append_nil,List.take_of_length_le (by simp;simp at hi;omega)]) hh
 |v::vs,i,w,c,hh,hi,hv,hK=>by
  have h1:=hv v (by simp)
  simp only [List.length_cons] at hi
  unfold ak
  rw [h1]
  have h2:=hh.setCell (i:=i) v
  refine ⟨?_,?_,?_⟩
  ·rw [au,hh.cell];simp;omega
  ·rw [au];simp [World.frozen?,hh.aD]
  ·rw [au,Nat.zero_add]
   refine ak.go vs (i+1) _ _ h2 (by simp;omega) (fun x hx=>hv x (List.mem_cons_of_mem _ hx)) fun c' w' e h3=>hK c' w' ?_ h3
   rw [e,Array.toList_setIfInBounds,List.take_add_one,List.take_set_of_le (by omega)]
   rw [List.getElem?_set_self (by simp;omega)]
   simp
theorem ak.aD {b:Nat} {c:Array Value} {t:TypeId} {vs:List Value} {K:World→Prop} (hh:Hp E w (aj b (.cells c t (0,0))::F)) (hi:vs.length=c.size) (hv: ∀v∈vs,aw v=true)
  (hK: ∀w',Hp E w' (aj b (.cells ⟨vs⟩ t (0,0))::F)→K w'):ak ⟨b,0,none⟩ vs 0 w K:=
 ak.go vs 0 w c hh (by omega) hv fun c' w' e h=>by
  have:c'=⟨vs⟩:=by apply Array.ext';simpa using e
  subst this
  exact hK w' h
theorem BJ {P:Program} {t ty e e2:TypeId} {bytes:Nat} {x:α} {cs:Array Value} {K:Sl→World→Prop} (he:cp P t e sz bytes) (hg: ∀x,(g x).length=sz) (hz:0<sz) (hcs:cs=⟨g x⟩) (hsc: ∀y∈g x,aw y=true)
  (hh:Hp E w (ah sz s (l.flatMap g)::F)) (hb:(2*(l.length+1)+1024)*bytes≤2^48) (hb2:l.length+1<2^62)
  (h: ∀s' w',Hp E w' (ah sz s' ((l++ [x]).flatMap g)::F)→s'.len=l.length+1→K s' w'):
  Nw e2 cs w fun b w1=>aA P (Builtin.append_ #[t,t] ty ⟨[.slice s.base s.len s.cap,.slice (some ⟨b,0,none⟩) 1 1]⟩) kS w1 K:=by
 have hlen:=aC.len hg hz (hh.ag ab.own)
 refine Nw.mk hh fun b w1 h1=> ?_
 refine aM (ys:=g x) (n:=1) he hz (.inl ⟨e,he.und⟩) h1.p1 (.inl ⟨_,_,_,rfl,rfl,h1.ag (ab.aD (xs:=g x) (by rw [hcs]) (by rw [hg];simp))⟩) (by rw [hg];simp) hsc (by rw [hlen];exact hb) (by rw [hlen];exact hb2) fun s' w2 h2 hs'=>h s' w2 ?_ (by rw [hs',hlen])
 rw [List.flatMap_append,show [x].flatMap g=g x by simp]
 exact h2.p1.drop
theorem HZ {P:Program} {t ty e:TypeId} {bytes:Nat} {s2:Sl} {ys:List α} {K:Sl→World→Prop} (he:cp P t e sz bytes) (hg: ∀x,(g x).length=sz) (hz:0<sz) (hsc: ∀x,∀y∈g x,aw y=true)
  (hh:Hp E w (ah sz s (l.flatMap g)::F)) (hs:aC sz s2 (ys.flatMap g) w) (hb:(2*(l.length+ys.length)+1024)*bytes≤2^48) (hb2:l.length+ys.length<2^62)
  (h: ∀s' w',Hp E w' (ah sz s' ((l++ys).flatMap g)::F)→s'.len=l.length+ys.length→K s' w'):
  aA P (Builtin.append_ #[t,t] ty ⟨[.slice s.base s.len s.cap,.slice s2.base s2.len s2.cap]⟩) kS w K:=by
 have hlen:=aC.len hg hz (hh.ag ab.own)
 have hlen2:=aC.len hg hz hs
 refine aM (ys:=ys.flatMap g) (n:=ys.length) he hz (.inl ⟨e,he.und⟩) hh (.inl ⟨_,_,_,rfl,hlen2.symm,hs⟩) (cE hg ys) (fun y hy=> ?_) (by rw [hlen];exact hb) (by rw [hlen];exact hb2) fun s' w2 h2 hs'=>h s' w2 ?_ (by rw [hs',hlen])
 ·obtain ⟨x,_,hx⟩:=List.mem_flatMap.1 hy
  exact hsc x y hx
 ·rw [List.flatMap_append];exact h2
end
end Go.Vc
set_option maxRecDepth 20000
namespace Go.Vc
open Go
section
variable {E w:World} {F:List HP} {A:HP}
theorem cA.mem (h:cA E F w) (hm:A∈F): ∃G,Hp E w (A::G):=by
 obtain ⟨l,h⟩:=h
 obtain ⟨s,t,rfl⟩:=List.append_of_mem hm
 refine ⟨(l++s)++t,?_⟩
 rw [←List.append_assoc] at h
 exact h.perm List.perm_middle
theorem cA.front (h:cA E (A::F) w): ∃G,Hp E w (A::G):=h.mem (by simp)
theorem cA.zn {B:HP} (h:cA E (A::B::F) w): ∃G,Hp E w (B::G):=h.mem (by simp)
theorem ae.aD {S:World→Prop} {s:Sc} {b i:Nat} {c:Array Value} {t:TypeId} {fr:Nat×Nat} {K:s.T→Prop} (hS: ∀w,S w→∃G,Hp E w (aj b (.cells c t fr)::G)) (x:s.T) (hx:c[i]? =some (s.enc x)) (hk:K x):ae (.sc s) ⟨b,i,none⟩ S K:=by
 refine ae.sc x (fun w' hw=> ?_) hk
 obtain ⟨G,h⟩:=hS w' hw
 rw [h.cell];exact hx
theorem ae.sub {S:World→Prop} {b n off:Nat} {pre mid post:List Value} {t:TypeId} {fr:Nat×Nat} {K:Array Value→Prop} (hS: ∀w,S w→∃G,Hp E w (aj b (.cells ⟨pre++mid++post⟩ t fr)::G)) (ho:pre.length=off) (hn:mid.length=n) (hK:K ⟨mid⟩):ae (.arr n) ⟨b,off,none⟩ S K:=by
 refine ⟨⟨mid⟩,hn,fun w' hw i hi=> ?_,hK⟩
 obtain ⟨G,h⟩:=hS w' hw
 rw [au,h.cell]
 subst ho
 rw [List.getElem?_toArray,List.append_assoc,List.getElem?_append_right (by omega),List.getElem?_append_left (by omega),show pre.length+i - pre.length=i by omega]
 rw [List.getElem?_eq_getElem (by omega)]
 simp [show i<mid.length by omega]
theorem Ld.sub {b n off:Nat} {pre mid post:List Value} {t:TypeId} {fr:Nat×Nat} {K:Array Value→Prop} (h:Hp E w (aj b (.cells ⟨pre++mid++post⟩ t fr)::F)) (ho:pre.length=off) (hn:mid.length=n) (hK:K ⟨mid⟩):Ld (.arr n) ⟨b,off,none⟩ w K:=
 ae.sub (E:=E) (fun w' hw=>⟨F,by rw [hw];exact h⟩) ho hn hK
end
def cV (n:Nat) (f:Nat→Int):Array Value:=⟨(List.range n).map fun j=> .int .i64 (f j)⟩
theorem cS {n:Nat} {f:Nat→Int}:(cV n f).size=n:=by simp [cV]
theorem sn {n:Nat} {f:Nat→Int} {i:Nat} (h:i<n):(cV n f)[i]? =some (Sc.enc (.int .i64) (f i)):=by
 unfold cV
 rw [List.getElem?_toArray,List.getElem?_map,List.getElem?_range h];rfl
theorem oO {n:Nat} {f:Nat→Int} {i:Nat} {v:Int}:(cV n f).setIfInBounds i (.int .i64 v)=cV n fun j=>if j=i then v else f j:=by
 apply Array.ext_getElem?
 intro j
 rw [Array.getElem?_setIfInBounds]
 unfold cV
 simp only [List.getElem?_toArray,List.getElem?_map,List.size_toArray,List.length_map,List.length_range]
 by_cases hj:j<n
 ·rw [List.getElem?_range hj]
  by_cases e:i=j
  ·subst e;simp [hj]
  ·rw [if_neg e];simp [Ne.symm e]
 ·rw [List.getElem?_eq_none (by simpa using hj)]
  by_cases e:i=j
  ·subst e;simp [hj]
  ·simp [e]
theorem fg {n:Nat} {f g:Nat→Int} (h: ∀i,i<n→f i=g i):cV n f=cV n g:=by
 unfold cV
 congr 1
 exact List.map_congr_left fun j hj=>by rw [h j (by simpa using hj)]
theorem yb {off:Nat}: ∀(vs:List Value) (k:Nat) (pre mid post:List Value),mid.length=vs.length→pre.length=off+k→
  (vs.zipIdx k).foldl (fun (cs:Array Value) (x:Value×Nat)=>cs.setIfInBounds (off+x.2) x.1) ⟨pre++mid++post⟩=⟨pre++vs++post⟩
 | [],k,pre,mid,post,hm,_=>by
  have:mid= []:=List.length_eq_zero_iff.1 hm
  subst this;rfl
 |v::vs,k,pre,mid,post,hm,hp=>by
  obtain ⟨m,mid,rfl⟩: ∃m mid',mid=m::mid':=by
   cases mid with
   |nil=>simp at hm
   |cons m mid=>exact ⟨m,mid,rfl⟩
  rw [List.zipIdx_cons,List.foldl_cons]
  have e:(⟨pre++m::mid++post⟩:Array Value).setIfInBounds (off+k) v=⟨(pre++ [v])++mid++post⟩:=by
   rw [←hp]
   apply Array.ext'
   simp
  show ((vs.zipIdx (k+1)).foldl _ ((⟨pre++m::mid++post⟩:Array Value).setIfInBounds (off+k) v))=_
  rw [e,yb vs (k+1) (pre++ [v]) mid post (by simpa using hm) (by simp;omega)]
  simp
theorem gj {place:Nat→Option (Nat×Nat)} {i off size:Nat} {v:Value} {rest:List (Nat×Value)} {pre mid post:List Value} (hpl:place i=some (off,size)) (ho:pre.length=off) (hm:mid.length=size) (hv:v.cells.size=size):
  Instr.fill place ⟨pre++mid++post⟩ ((i,v)::rest)=Instr.fill place ⟨pre++v.cells.toList++post⟩ rest:=by
 rw [Instr.fill,hpl]
 simp only
 rw [if_neg (by simp [hv];omega)]
 congr 1
 rw [←Array.foldl_toList,Array.toList_zipIdx]
 exact yb (off:=off) v.cells.toList 0 pre mid post (by simp [hm,hv]) (by omega)
end Go.Vc
set_option maxRecDepth 20000
namespace Go.Srt
def wt (n:Nat):Nat:=if n=0 then 0 else if n>15 then 32769 else 2^(15 - n)
def aS (l:List Nat):Nat:=(l.map wt).sum
theorem Jo (n:Nat):wt n≤32769:=by
 unfold wt
 split
 ·omega
 ·split
  ·omega
  ·have:2^(15 - n)≤2^15:=Nat.pow_le_pow_right (by decide) (by omega)
   omega
theorem Bv: ∀l:List Nat,aS l≤32769*l.length
 | []=>by simp [aS]
 |x::l=>by
  have:=Bv l
  have:=Jo x
  simp only [aS,List.map_cons,List.sum_cons,List.length_cons] at*
  omega
theorem qb {l:List Nat} {k:Nat} (h:k<l.length):aS (l.take (k+1))=aS (l.take k)+wt l[k]:=by
 unfold aS
 rw [List.take_add_one,List.map_append,List.sum_append,List.getElem?_eq_getElem h]
 simp only [Option.toList,List.map_cons,List.map_nil,List.sum_cons,List.sum_nil,Nat.add_zero]
theorem vf {l:List Nat} {k:Nat}:aS (l.take k)≤aS l:=by
 have:=congrArg aS (List.take_append_drop k l)
 unfold aS at this⊢
 rw [List.map_append,List.sum_append] at this
 omega
theorem Il {l:List Nat} {x:Nat} (h:x∈l):wt x≤aS l:=by
 obtain ⟨i,hi,rfl⟩:=List.getElem_of_mem h
 have:=qb hi
 have:=vf (l:=l) (k:=i+1)
 omega
def used (l:List Nat):List Nat:=(List.range l.length).filter fun s=>decide (0<l.getD s 0)
def sA (l:List Nat) (i:Int):Int:=(l.getD i.toNat 0:Int)
def bF (l ys:List Nat):Prop:=ys.Perm (used l)∧ys.Pairwise fun a b=>l.getD a 0<l.getD b 0∨(l.getD a 0=l.getD b 0∧a<b)
end Go.Srt
set_option maxRecDepth 20000
namespace Go.Proofs.YtcdpblipagajiaaGreat
open Go Go.Vc Go.Srt
section
variable {E w:World} {F:List HP}
theorem HL {n:Nat} {K:Int→World→Prop} (hK:K (wt n:Int) w):Cl Tryz.prog [kI] kD ⟨[.int .u8 (n:Int)]⟩ w K:=by
 refine Ad.ok _ _ _ ?_
 unfold wt at hK
 refine aa.mk (fun h=> ?_) (fun h=>aa.mk (fun h2=> ?_) (fun h2=>⟨by omega,?_⟩))
 ·have h:n=0:=by have:=of_decide_eq_true h;omega
  rw [if_pos h] at hK;exact hK
 ·have h:n≠0:=by have:=of_decide_eq_false h;omega
  have h2:n>15:=by have:=of_decide_eq_true h2;omega
  rw [if_neg h,if_pos h2] at hK;exact hK
 ·have h:n≠0:=by have:=of_decide_eq_false h;omega
  have h2: ¬n>15:=by have:=of_decide_eq_false h2;omega
  rw [if_neg h,if_neg h2] at hK
  have e:=bO (k:= .i64) (a:=32768) (b:=n) (by have:IntKind.bits .i64=64:=rfl;omega)
  rw [show (32768:Int)=((32768:Nat):Int) from rfl,e]
  have:32768/2^n=2^(15 - n):=by
   have e15:(2:Nat)^15=32768:=by decide
   have e2:=Nat.pow_sub_mul_pow 2 (show n≤15 by omega)
   rw [e15] at e2
   exact Nat.div_eq_of_eq_mul_left (Nat.two_pow_pos n) e2.symm
  rw [this];exact hK
set_option maxRecDepth 20000 in
theorem sU {l:List Nat} {K:Int→World→Prop} (h:Hp E w F) (hl:l.length=258) (hK: ∀w',Hp E w' F→K (aS l:Int) w'):Cl Tryz.prog [kI] kf ⟨[.agg (ai .u8 l)]⟩ w K:=by
 refine Dn.ok _ _ _ ?_
 refine Nw.mk h fun b w1 h1=>Ld.arr h1 (by rw [aJ,hl]) ?_
 have hb:=Bv l
 refine ⟨fun sm i w'=> ∃k:Nat,i=(k:Int)∧k≤258∧sm=(aS (l.take k):Int)∧Hp E w' F,fun _ i _=>258 - i.toNat,⟨0,rfl,by omega,by simp [aS],h1.drop⟩,?_⟩
 intro sm i w' hI
 obtain ⟨k,hi,hk,hs,hh⟩:=hI
 subst hi
 subst hs
 refine aa.mk (fun hlt=> ?_) (fun hge=> ?_)
 ·have hlt:k<258:=by have:=of_decide_eq_true hlt;omega
  have hkl:k<l.length:=by omega
  refine ez.rd (s:= .int .u8) (by omega) (by omega) (l[k]:Int) (by rw [Int.toNat_natCast];exact fD hkl) (HL ?_)
  have e:=qb hkl
  have:=vf (l:=l) (k:=k+1)
  rw [ad (x:=(aS (l.take k):Int)+(wt l[k]:Int)) (by omega),ad (by omega)]
  exact ⟨⟨k+1,rfl,by omega,by rw [e];rfl,hh⟩,by dsimp only;omega⟩
 ·have hge:k=258:=by have:=of_decide_eq_false hge;omega
  subst hge
  rw [←hl,List.take_length]
  exact hK _ hh
end
end Go.Proofs.YtcdpblipagajiaaGreat
set_option maxRecDepth 20000
namespace Go.Srt
def sh (l:List Nat) (s:Nat):Nat:=2^(15 - l.getD s 0)
def start (l ys:List Nat) (i:Nat):Nat:=((ys.take i).map (sh l)).sum
theorem pH {l ys:List Nat} {i:Nat} (h:i<ys.length):start l ys (i+1)=start l ys i+sh l ys[i]:=by
 unfold start
 rw [List.take_add_one,List.map_append,List.sum_append,List.getElem?_eq_getElem h]
 simp only [Option.toList,List.map_cons,List.map_nil,List.sum_cons,List.sum_nil,Nat.add_zero]
theorem zk (l:List Nat) (s:Nat):0<sh l s:=Nat.two_pow_pos _
theorem CG {l ys:List Nat} {i j:Nat} (h:i≤j):start l ys i≤start l ys j:=by
 unfold start
 have:=List.take_append_drop i (ys.take j)
 rw [List.take_take,Nat.min_eq_left h] at this
 have h2:=congrArg (fun l'=>(l'.map (sh l)).sum) this
 simp only [List.map_append,List.sum_append] at h2
 omega
theorem dI {l:List Nat} {s:Nat}:s∈used l↔s<l.length∧0<l.getD s 0:=by
 unfold used
 rw [List.mem_filter,List.mem_range];simp
theorem vl (l:List Nat):aS l=((used l).map fun s=>wt (l.getD s 0)).sum:=by
 have key: ∀k,k≤l.length→aS (l.take k)=(((List.range k).filter fun s=>decide (0<l.getD s 0)).map fun s=>wt (l.getD s 0)).sum:=by
  intro k
  induction k with
  |zero=>intro _;simp [aS]
  |succ k ih=>
   intro hk
   rw [qb (by omega),ih (by omega),List.range_succ,List.filter_append,List.map_append,List.sum_append]
   have hg:l.getD k 0=l[k]:=by rw [List.getD_eq_getElem?_getD,List.getElem?_eq_getElem (by omega)];rfl
   by_cases h:0<l.getD k 0
   ·rw [List.filter_cons_of_pos (by simpa using h)];simp only [List.filter_nil,List.map_cons,List.map_nil,List.sum_cons,List.sum_nil,hg];rfl
   ·rw [List.filter_cons_of_neg (by simpa using h)]
    have:l[k]=0:=by omega
    rw [this];rfl
 have:=key l.length (Nat.le_refl _)
 rw [List.take_length] at this
 exact this
theorem fT {l:List Nat} (hv:aS l≤32768) (s:Nat):l.getD s 0≤15:=by
 rw [List.getD_eq_getElem?_getD]
 cases h:l[s]? with
 |none=>simp
 |some x=>
  have:=Il (List.mem_of_getElem? h)
  unfold wt at this
  simp only [Option.getD_some]
  rcases Nat.lt_or_ge 15 x with hx|hx
  ·rw [if_neg (by omega),if_pos (by omega)] at this;omega
  ·exact hx
theorem Ef {l ys:List Nat} (hv:aS l≤32768) (h:bF l ys):start l ys ys.length=aS l:=by
 unfold start
 rw [List.take_length,vl,(h.1.map (sh l)).sum_nat]
 congr 1
 refine List.map_congr_left fun s hs=> ?_
 have h1:=(dI.1 hs).2
 have h2:=fT hv s
 unfold sh wt
 rw [if_neg (by omega),if_neg (by omega)]
theorem EA {l ys:List Nat} (hv:aS l≤32768) (h:bF l ys) {i:Nat} (hi:i≤ys.length):start l ys i≤32768:=by
 have:=CG (l:=l) (ys:=ys) hi
 rw [Ef hv h] at this
 omega
theorem AT {l ys:List Nat} (h:bF l ys) {i j:Nat} (hj:j<ys.length) (hij:i≤j):l.getD (ys[i]'(by omega)) 0≤l.getD ys[j] 0:=by
 by_cases e:i=j
 ·subst e;exact Nat.le_refl _
 ·have:=(List.pairwise_iff_getElem.1 h.2) i j (by omega) hj (by omega)
  omega
theorem vo {l ys:List Nat} (h:bF l ys) {i:Nat} (hi:i<ys.length): ∀k,k≤i→sh l ys[i]∣start l ys k
 |0,_=>by simp [start]
 |k+1,hk=>by
  rw [pH (by omega)]
  refine Nat.dvd_add (vo h hi k (by omega)) ?_
  have:=AT h hi (show k≤i by omega)
  unfold sh
  exact Nat.pow_dvd_pow 2 (by omega)
def fG (l ys:List Nat) (i:Nat):Nat:=start l ys i/sh l (ys.getD i 0)
theorem qV {ys:List Nat} {i:Nat} (hi:i<ys.length):ys.getD i 0=ys[i]:=by
 rw [List.getD_eq_getElem?_getD,List.getElem?_eq_getElem hi];rfl
theorem py {l ys:List Nat} (h:bF l ys) {i:Nat} (hi:i<ys.length):fG l ys i*sh l ys[i]=start l ys i:=by
 unfold fG
 rw [qV hi]
 exact Nat.div_mul_cancel (vo h hi i (Nat.le_refl _))
theorem DL {l:List Nat} (hv:aS l≤32768) (s:Nat):2^l.getD s 0*sh l s=32768:=by
 unfold sh
 rw [←Nat.pow_add,show l.getD s 0+(15 - l.getD s 0)=15 by have:=fT hv s;omega]
theorem C0 {l ys:List Nat} (hv:aS l≤32768) (h:bF l ys) {i:Nat} (hi:i<ys.length):fG l ys i<2^l.getD ys[i] 0:=by
 have h1:=py h hi
 have h2:=EA hv h (show i+1≤ys.length by omega)
 rw [pH hi] at h2
 have h3:=DL hv ys[i]
 have h4:=zk l ys[i]
 have h5:(fG l ys i+1)*sh l ys[i]≤2^l.getD ys[i] 0*sh l ys[i]:=by rw [Nat.succ_mul];omega
 exact Nat.le_of_mul_le_mul_right h5 h4
end Go.Srt
set_option maxRecDepth 20000
namespace Go.Srt
def c8 (l ys:List Nat):Nat→List Nat
 |0=>List.replicate 258 0
 |i+1=>(c8 l ys i).set (ys.getD i 0) (fG l ys i)
theorem cO (l ys:List Nat): ∀i,(c8 l ys i).length=258
 |0=>List.length_replicate
 |i+1=>by rw [c8,List.length_set,cO l ys i]
theorem Ir {l ys:List Nat} (h:bF l ys) {i j:Nat} (hj:j<ys.length) (hij:i<j):ys[i]'(by omega)≠ys[j]:=by
 have:=(List.pairwise_iff_getElem.1 h.2) i j (by omega) hj hij
 intro e
 rw [e] at this
 omega
theorem sW {l ys:List Nat} (h:bF l ys) (hin: ∀s∈ys,s<258): ∀(i:Nat),i≤ys.length→∀j (hj:j<ys.length),j<i→(c8 l ys i).getD ys[j] 0=fG l ys j
 |0,_,_,_,hji=>by omega
 |i+1,hi,j,hj,hji=>by
  have hi':i<ys.length:=by omega
  rw [c8,qV hi']
  by_cases e:j=i
  ·subst e
   have:ys[j]<(c8 l ys j).length:=by rw [cO];exact hin _ (List.getElem_mem hj)
   rw [List.getD_eq_getElem?_getD,List.getElem?_set_self this];rfl
  ·have hne:=Ir h hi' (show j<i by omega)
   rw [List.getD_eq_getElem?_getD,List.getElem?_set_ne (fun hh=>hne hh.symm),←List.getD_eq_getElem?_getD]
   exact sW h hin i (by omega) j hj (by omega)
end Go.Srt
set_option maxRecDepth 20000
namespace Go.Srt
def many (l:List Nat) (n:Nat):Nat:=if n=0 then 0 else l.count n
def fst (l:List Nat):Nat→Nat
 |0=>0
 |n+1=>2*(fst l n+many l n)
def low (l:List Nat):Nat→Nat
 |0=>0
 |n+1=>low l n+many l n*2^(15 - n)
theorem uP (l:List Nat): ∀n,n≤15→fst l n*2^(15 - n)=low l n
 |0,_=>by simp [fst,low]
 |n+1,h=>by
  have ih:=uP l n (by omega)
  have e:2^(15 - n)=2*2^(15 - (n+1)):=by rw [show 15 - n=(15 - (n+1))+1 by omega,Nat.pow_succ,Nat.mul_comm]
  rw [fst,low,←ih,←Nat.add_mul,e,Nat.mul_comm 2 (fst l n+many l n),Nat.mul_assoc]
theorem BF (n:Nat):low [] n=0:=by
 induction n with
 |zero=>rfl
 |succ n ih=>rw [low,ih];simp [many]
theorem uv (l:List Nat) (x:Nat): ∀n,low (l++ [x]) n=low l n+if 0<x∧x<n then 2^(15 - x) else 0
 |0=>by simp [low]
 |n+1=>by
  rw [low,low,uv l x n]
  unfold many
  rw [List.count_append,List.count_singleton]
  by_cases h0:n=0
  ·subst h0;rw [if_pos rfl,if_pos rfl,if_neg (by omega),if_neg (by omega)]
  ·rw [if_neg h0,if_neg h0]
   by_cases hx:x=n
   ·subst hx
    rw [if_neg (by omega),if_pos (by simp),if_pos (by omega),Nat.add_mul];omega
   ·rw [if_neg (show¬(x==n)=true by simpa using hx)]
    by_cases h:0<x∧x<n
    ·rw [if_pos h,if_pos (by omega),Nat.add_zero];omega
    ·rw [if_neg h,if_neg (by omega),Nat.add_zero,Nat.add_zero,Nat.add_zero]
theorem xe (l:List Nat) {n m:Nat} (h:n≤m):low l n≤low l m:=by
 induction m with
 |zero=>have:n=0:=by omega
        subst this;exact Nat.le_refl _
 |succ m ih=>
  by_cases e:n=m+1
  ·subst e;exact Nat.le_refl _
  ·have:=ih (by omega)
   rw [low];omega
theorem HF: ∀(k:Nat) (l:List Nat),l.length=k→(∀x∈l,x≤15)→low l 16=aS l:=by
 intro k
 induction k with
 |zero=>intro l h _;have:l= []:=List.length_eq_zero_iff.1 h
        subst this;simp [BF,aS]
 |succ k ih=>
  intro l hl h
  have hne:l≠ []:=by intro e;subst e;simp at hl
  obtain ⟨l',x,rfl⟩: ∃l' x,l=l'++ [x]:=⟨l.dropLast,l.getLast hne,(List.dropLast_concat_getLast hne).symm⟩
  rw [uv,ih l' (by simpa using hl) (fun y hy=>h y (by simp [hy]))]
  have hx:=h x (by simp)
  unfold aS
  rw [List.map_append,List.sum_append]
  congr 1
  simp only [List.map_cons,List.map_nil,List.sum_cons,List.sum_nil,Nat.add_zero]
  unfold wt
  by_cases h0:x=0
  ·rw [if_neg (by omega),if_pos h0]
  ·rw [if_pos (by omega),if_neg h0,if_neg (by omega)]
theorem GH {l:List Nat} (hv:aS l≤32768):low l 16=aS l:=HF _ l rfl fun x hx=>by
 obtain ⟨i,hi,rfl⟩:=List.getElem_of_mem hx
 have:=fT hv i
 rwa [List.getD_eq_getElem?_getD,List.getElem?_eq_getElem hi] at this
def gm (l:List Nat) (s:Nat):Nat:=(l.take s).count (l.getD s 0)
def code (l:List Nat) (s:Nat):Nat:=fst l (l.getD s 0)+gm l s
def pos (l:List Nat) (s:Nat):Nat:=low l (l.getD s 0)+gm l s*2^(15 - l.getD s 0)
theorem pn {l:List Nat} (hv:aS l≤32768) (s:Nat):code l s*2^(15 - l.getD s 0)=pos l s:=by
 unfold code pos
 rw [Nat.add_mul,uP l _ (fT hv s)]
theorem bX {l:List Nat} {i:Nat} (h:i<l.length):l.getD i 0=l[i]:=by rw [List.getD_eq_getElem?_getD,List.getElem?_eq_getElem h];rfl
theorem iB (l:List Nat) (k x:Nat):(l.take k).count x≤l.count x:=(List.take_sublist k l).count_le x
theorem cX {l:List Nat} {k:Nat} (h:k<l.length) (x:Nat):(l.take (k+1)).count x=(l.take k).count x+if l[k]=x then 1 else 0:=by
 rw [List.take_add_one,List.getElem?_eq_getElem h,List.count_append]
 simp only [Option.toList,List.count_singleton,beq_iff_eq]
theorem mM {l:List Nat} {i j:Nat} (h:i≤j) (x:Nat):(l.take i).count x≤(l.take j).count x:=by
 have:(l.take i)=(l.take j).take i:=by rw [List.take_take,Nat.min_eq_left h]
 rw [this];exact iB _ _ _
theorem A5 {l:List Nat} {s:Nat} (hs:s<l.length) (h0:0<l.getD s 0):gm l s<many l (l.getD s 0):=by
 unfold gm many
 rw [if_neg (by omega)]
 have h1:=cX hs (l.getD s 0)
 rw [bX hs,if_pos rfl] at h1
 have h2:=iB l (s+1) (l[s])
 rw [bX hs]
 omega
theorem xM {l:List Nat} {s:Nat} (hs:s<l.length) (h0:0<l.getD s 0):pos l s+2^(15 - l.getD s 0)≤low l (l.getD s 0+1):=by
 have:=A5 hs h0
 unfold pos
 rw [low,Nat.add_assoc,←Nat.succ_mul]
 exact Nat.add_le_add_left (Nat.mul_le_mul_right _ this) _
theorem mQ {l:List Nat} {s t:Nat} (hs:s<l.length) (ht:t<l.length) (h0:0<l.getD s 0) (hne:s≠t) (h:l.getD s 0<l.getD t 0∨(l.getD s 0=l.getD t 0∧s<t)):pos l s+2^(15 - l.getD s 0)≤pos l t:=by
 rcases h with h|⟨h,hst⟩
 ·have h1:=xM hs h0
  have h2:=xe l (show l.getD s 0+1≤l.getD t 0 by omega)
  unfold pos at h1⊢
  omega
 ·have h1:=cX hs (l.getD t 0)
  rw [if_pos (by rw [←h,bX hs])] at h1
  have h2:=mM (l:=l) (show s+1≤t by omega) (l.getD t 0)
  unfold pos gm
  rw [h,Nat.add_assoc,←Nat.succ_mul]
  exact Nat.add_le_add_left (Nat.mul_le_mul_right _ (by omega)) _
theorem FC {l:List Nat} {s t x:Nat} (hs:s<l.length) (ht:t<l.length) (h0:0<l.getD s 0) (h1:0<l.getD t 0) (hxs:pos l s≤x) (hxs':x<pos l s+2^(15 - l.getD s 0)) (hxt:pos l t≤x) (hxt':x<pos l t+2^(15 - l.getD t 0)):s=t:=by
 by_cases e:s=t
 ·exact e
 ·rcases Nat.lt_trichotomy (l.getD s 0) (l.getD t 0) with h|h|h
  ·have:=mQ hs ht h0 e (.inl h);omega
  ·rcases Nat.lt_or_ge s t with h'|h'
   ·have:=mQ hs ht h0 e (.inr ⟨h,h'⟩);omega
   ·have:=mQ ht hs h1 (Ne.symm e) (.inr ⟨h.symm,by omega⟩);omega
  ·have:=mQ ht hs h1 (Ne.symm e) (.inl h);omega
theorem G8 (l:List Nat) (n:Nat): ∀p,p<l.count n→∃s,s<l.length∧l.getD s 0=n∧gm l s=p:=by
 intro p hp
 have key: ∀k,k≤l.length→p<(l.take k).count n→∃s,s<k∧l.getD s 0=n∧gm l s=p:=by
  intro k
  induction k with
  |zero=>intro _ h;simp at h
  |succ k ih=>
   intro hk h
   by_cases h2:p<(l.take k).count n
   ·obtain ⟨s,h1,h3⟩:=ih (by omega) h2;exact ⟨s,by omega,h3⟩
   ·have h3:=cX (l:=l) (k:=k) (by omega) n
    by_cases h4:l[k]=n
    ·rw [if_pos h4] at h3
     refine ⟨k,by omega,by rw [bX (by omega),h4],?_⟩
     unfold gm
     rw [bX (by omega),h4];omega
    ·rw [if_neg h4] at h3;omega
 obtain ⟨s,h1,h2⟩:=key l.length (Nat.le_refl _) (by rwa [List.take_length])
 exact ⟨s,by omega,h2⟩
theorem xL {l:List Nat} {s t:Nat} (hs:s<l.length) (ht:t<l.length) (h:l.getD s 0=l.getD t 0) (hr:gm l s=gm l t):s=t:=by
 have aux: ∀{s t:Nat},s<l.length→t<l.length→l.getD s 0=l.getD t 0→gm l s=gm l t→¬s<t:=by
  intro s t hs ht h hr hlt
  have h1:=cX hs (l.getD t 0)
  rw [if_pos (by rw [←h,bX hs])] at h1
  have h2:=mM (l:=l) (show s+1≤t by omega) (l.getD t 0)
  unfold gm at hr
  rw [h] at hr
  omega
 have h1:=aux hs ht h hr
 have h2:=aux ht hs h.symm hr.symm
 omega
def BC (l:List Nat) (n s t:Nat):Bool:=decide (0<l.getD t 0)&&decide (l.getD t 0<n∨(l.getD t 0=n∧t<s))
theorem ud (l:List Nat) (n s:Nat) (hn:0<n): ∀k,k≤l.length→(((List.range k).filter (BC l n s)).map (sh l)).sum=low (l.take k) n+((l.take k).take s).count n*2^(15 - n)
 |0,_=>by simp [BF]
 |k+1,hk=>by
  have hk':k<l.length:=by omega
  rw [List.range_succ,List.filter_append,List.map_append,List.sum_append,ud l n s hn k (by omega)]
  have e1:l.take (k+1)=l.take k++ [l[k]]:=by rw [List.take_add_one,List.getElem?_eq_getElem hk'];rfl
  rw [e1,uv]
  have hg:=bX hk'
  have hlen:(l.take k).length=k:=by simp;omega
  have hc:0<l[k]→(l[k]<n∨(l[k]=n∧k<s))→BC l n s k=true:=fun h0 h1=>by
   unfold BC;rw [hg,Bool.and_eq_true,decide_eq_true_eq,decide_eq_true_eq];exact ⟨h0,h1⟩
  have hc': ¬(0<l[k]∧(l[k]<n∨(l[k]=n∧k<s)))→¬BC l n s k=true:=fun h=>by
   unfold BC;rw [hg,Bool.and_eq_true,decide_eq_true_eq,decide_eq_true_eq];exact h
  by_cases hks:k<s
  ·have e2:(l.take k++ [l[k]]).take s=l.take k++ [l[k]]:=List.take_of_length_le (by rw [List.length_append,hlen];simp;omega)
   have e3:(l.take k).take s=l.take k:=List.take_of_length_le (by omega)
   rw [e2,e3,List.count_append,List.count_singleton]
   by_cases h0:0<l[k]∧l[k]<n
   ·rw [List.filter_cons_of_pos (hc h0.1 (.inl h0.2)),if_pos h0,if_neg (by rw [beq_iff_eq];omega)]
    simp only [List.filter_nil,List.map_cons,List.map_nil,List.sum_cons,List.sum_nil,sh,hg,Nat.add_zero];omega
   ·rw [if_neg h0]
    by_cases h1:l[k]=n
    ·rw [List.filter_cons_of_pos (hc (by omega) (.inr ⟨h1,hks⟩)),if_pos (by simpa using h1),Nat.add_mul]
     simp only [List.filter_nil,List.map_cons,List.map_nil,List.sum_cons,List.sum_nil,sh,hg,h1];omega
    ·rw [List.filter_cons_of_neg (hc' (by omega)),if_neg (by simpa using h1)]
     simp
  ·have e2:(l.take k++ [l[k]]).take s=(l.take k).take s:=by rw [List.take_append_of_le_length (by omega)]
   rw [e2]
   by_cases h0:0<l[k]∧l[k]<n
   ·rw [List.filter_cons_of_pos (hc h0.1 (.inl h0.2)),if_pos h0]
    simp only [List.filter_nil,List.map_cons,List.map_nil,List.sum_cons,List.sum_nil,sh,hg,Nat.add_zero];omega
   ·rw [if_neg h0,List.filter_cons_of_neg (hc' (by omega))]
    simp
theorem Dm {l ys:List Nat} (h:bF l ys) {i:Nat} (hi:i<ys.length):start l ys i=pos l ys[i]:=by
 have hm:=dI.1 (h.1.mem_iff.1 (List.getElem_mem hi))
 let p:Nat→Bool:=fun t=>decide (l.getD t 0<l.getD ys[i] 0∨(l.getD t 0=l.getD ys[i] 0∧t<ys[i]))
 have hpw:=List.pairwise_iff_getElem.1 h.2
 have e1:ys.filter p=ys.take i:=by
  conv=>lhs;rw [←List.take_append_drop i ys]
  rw [List.filter_append,List.filter_eq_self.2,List.filter_eq_nil_iff.2,List.append_nil]
  ·intro a ha
   obtain ⟨j,hj,rfl⟩:=List.getElem_of_mem ha
   rw [List.length_drop] at hj
   rw [List.getElem_drop]
   show¬p _=true
   by_cases e:j=0
   ·subst e;simp only [p,Nat.add_zero,decide_eq_true_eq];omega
   ·have:=hpw i (i+j) hi (by omega) (by omega)
    simp only [p,decide_eq_true_eq];omega
  ·intro a ha
   obtain ⟨j,hj,rfl⟩:=List.getElem_of_mem ha
   rw [List.length_take] at hj
   rw [List.getElem_take]
   have:=hpw j i (by omega) hi (by omega)
   simp only [p,decide_eq_true_eq];omega
 have e2:((ys.take i).map (sh l)).sum=(((used l).filter p).map (sh l)).sum:=by
  rw [←e1];exact ((h.1.filter p).map (sh l)).sum_nat
 unfold start
 rw [e2]
 have e3:(used l).filter p=(List.range l.length).filter (BC l (l.getD ys[i] 0) ys[i]):=by
  unfold used;rw [List.filter_filter];congr 1;funext t;rw [Bool.and_comm];rfl
 rw [e3]
 have:=ud l (l.getD ys[i] 0) ys[i] hm.2 l.length (Nat.le_refl _)
 rw [List.take_length] at this
 exact this
theorem AB {l ys:List Nat} (hv:aS l≤32768) (h:bF l ys) {i:Nat} (hi:i<ys.length):fG l ys i=code l ys[i]:=by
 have h1:=py h hi
 rw [Dm h hi,←pn hv] at h1
 exact Nat.eq_of_mul_eq_mul_right (zk l ys[i]) h1
theorem CD {l ys:List Nat} (hl:l.length=258) (hv:aS l≤32768) (h:bF l ys) {s:Nat} (hs:s<258) (h0:0<l.getD s 0):(c8 l ys ys.length).getD s 0=code l s:=by
 have hin: ∀s∈ys,s<258:=fun s hs=>by have:=(dI.1 (h.1.mem_iff.1 hs)).1;omega
 have hm:s∈ys:=h.1.mem_iff.2 (dI.2 ⟨by omega,h0⟩)
 obtain ⟨i,hi,rfl⟩:=List.getElem_of_mem hm
 rw [sW h hin _ (Nat.le_refl _) i hi hi,AB hv h hi]
theorem AE {l:List Nat} (hl:l.length=258) (hv:aS l≤32768) {s:Nat} (hs:s<258) (h0:0<l.getD s 0):code l s<2^l.getD s 0:=by
 have h1:=pn hv s
 have h2:=xM (by omega) h0
 have h3:=xe l (show l.getD s 0+1≤16 by have:=fT hv s;omega)
 rw [GH hv] at h3
 have h4:=DL hv s
 unfold sh at h4
 have h5:(code l s+1)*2^(15 - l.getD s 0)≤2^l.getD s 0*2^(15 - l.getD s 0):=by rw [Nat.succ_mul];omega
 exact Nat.le_of_mul_le_mul_right h5 (Nat.two_pow_pos _)
end Go.Srt
set_option maxRecDepth 20000
namespace Go.Srt
def cq (l:List Nat):Bool:=decide (aS l=32768)&&decide (0<l.getD 257 0)
theorem lH {l:List Nat}:cq l=true↔aS l=32768∧0<l.getD 257 0:=by simp [cq]
def uc (l:List Nat) (n p:Nat):Nat:=((List.range l.length).find? fun s=>(l.getD s 0==n)&&(gm l s==p)).getD 0
theorem yI {l:List Nat} {n p:Nat} (h:p<l.count n):uc l n p<l.length∧l.getD (uc l n p) 0=n∧gm l (uc l n p)=p:=by
 obtain ⟨s,hs,h1,h2⟩:=G8 l n p h
 unfold uc
 cases hf:(List.range l.length).find? fun s=>(l.getD s 0==n)&&(gm l s==p) with
 |none=>
  have:=List.find?_eq_none.1 hf s (by simpa using hs)
  simp only [Bool.and_eq_true,beq_iff_eq] at this
  exact absurd ⟨h1,h2⟩ this
 |some t=>
  have h3:=List.find?_some hf
  have h4:=List.mem_of_find?_eq_some hf
  simp only [Bool.and_eq_true,beq_iff_eq] at h3
  exact ⟨by simpa using h4,h3⟩
def nZ (l:List Nat) (c b:Nat):Prop:=cq l=true∧b<15∧c<2^b∧fst l b+many l b≤c
def dQ (l:List Nat) (c b x:Nat):(Nat×Nat)×Option Nat:=
 if fst l (b+1)+many l (b+1)≤2*c+x then ((2*c+x,b+1),none) else ((0,0),some (uc l (b+1) (2*c+x - fst l (b+1))))
theorem nZ.zero {l:List Nat} (h:cq l=true):nZ l 0 0:=⟨h,by decide,by decide,by simp [fst,many]⟩
theorem nZ.ge {l:List Nat} {c b:Nat} (h:nZ l c b):fst l (b+1)≤2*c:=by rw [fst];have:=h.2.2.2;omega
theorem Jh {l:List Nat} (h:cq l=true):fst l 15+many l 15=32768:=by
 have h1:=uP l 15 (by decide)
 have h2:=GH (l:=l) (by rw [(lH.1 h).1];decide)
 rw [(lH.1 h).1] at h2
 rw [low] at h2
 omega
theorem nZ.next {l:List Nat} {c b x:Nat} (h:nZ l c b) (hx:x≤1):nZ l (dQ l c b x).1.1 (dQ l c b x).1.2:=by
 unfold dQ
 split
 ·rename_i hc
  have hp:(2:Nat)^(b+1)=2*2^b:=by rw [Nat.pow_succ,Nat.mul_comm]
  have h2:=h.2.2.1
  refine ⟨h.1,?_,by show 2*c+x<2^(b+1);omega,hc⟩
  rcases Nat.lt_or_ge (b+1) 15 with h1|h1
  ·exact h1
  ·have:b=14:=by have:=h.2.1;omega
   subst this
   have:=Jh h.1
   have:(2:Nat)^14=16384:=by decide
   simp only [Nat.reduceAdd] at hc
   omega
 ·exact nZ.zero h.1
theorem xT {l:List Nat} {c b x s:Nat} (hl:l.length=258) (h:nZ l c b) (hx:x≤1) (hs:(dQ l c b x).2=some s):s<258∧l.getD s 0=b+1∧code l s=2*c+x∧b<15:=by
 unfold dQ at hs
 split at hs
 ·cases hs
 ·rename_i hc
  have h1:s=uc l (b+1) (2*c+x - fst l (b+1)):=by injection hs with hs;exact hs.symm
  have hge:=h.ge
  have hm:many l (b+1)=l.count (b+1):=by unfold many;rw [if_neg (by omega)]
  obtain ⟨h2,h3,h4⟩:=yI (l:=l) (n:=b+1) (p:=2*c+x - fst l (b+1)) (by omega)
  rw [←h1] at h2 h3 h4
  refine ⟨by omega,h3,?_,h.2.1⟩
  unfold code
  rw [h3,h4];omega
theorem FB {l:List Nat} {c b x:Nat} (hs:(dQ l c b x).2=none):(dQ l c b x).1=(2*c+x,b+1):=by
 unfold dQ at hs⊢
 split
 ·rfl
 ·rename_i h;rw [if_neg h] at hs;cases hs
theorem FH {l:List Nat} {c b x s:Nat} (hs:(dQ l c b x).2=some s):(dQ l c b x).1=(0,0):=by
 unfold dQ at hs⊢
 split
 ·rename_i h;rw [if_pos h] at hs;cases hs
 ·rfl
theorem tJ {l:List Nat} (hl:l.length≤258): ∀n,fst l n+516≤516*2^n
 |0=>by simp [fst]
 |n+1=>by
  have:=tJ hl n
  have h2:many l n≤258:=by
   unfold many
   split
   ·omega
   ·exact Nat.le_trans List.count_le_length hl
  rw [fst,Nat.pow_succ];omega
theorem uI {l:List Nat} (hl:l.length≤258) (n:Nat):many l n≤258:=by
 unfold many
 split
 ·omega
 ·exact Nat.le_trans List.count_le_length hl
end Go.Srt
namespace Go.Proofs.YtcdpblipagajiaaGreat
open Go Go.Vc Go.Srt
section
variable {E w:World} {F:List HP}
theorem sf {l:List Nat} {i:Nat} {k:IntKind} (h:i<l.length):(ai k l)[((i:Nat):Int).toNat]? =some (Sc.enc (.int k) (l.getD i 0:Int)):=by
 rw [Int.toNat_natCast,fD h,bX h]
theorem CR {l:List Nat} {K:Bool→World→Prop} (h:Hp E w F) (hl:l.length=258) (hK: ∀w',Hp E w' F→K (decide (aS l=32768)) w'):Cl Tryz.prog [kB] iK ⟨[.agg (ai .u8 l)]⟩ w K:=by
 refine uy.ok _ _ _ ?_
 refine Nw.mk h fun b w1 h1=>Ld.arr h1 (by rw [aJ,hl]) (sU h1 hl fun w2 h2=> ?_)
 have:((aS l:Int)==32768)=decide (aS l=32768):=by rw [Bool.eq_iff_iff];simp;omega
 rw [this]
 exact hK _ h2.drop
theorem rj {l:List Nat} {K:Bool→World→Prop} (h:Hp E w F) (hl:l.length=258) (hK: ∀w',Hp E w' F→K (cq l) w'):Cl Tryz.prog [kB] dW ⟨[.agg (ai .u8 l)]⟩ w K:=by
 refine AA.ok _ _ _ ?_
 refine Nw.mk h fun b w1 h1=>Ld.arr h1 (by rw [aJ,hl]) (CR h1 hl fun w2 h2=>aa.mk (fun hv=> ?_) (fun hv=> ?_))
 ·refine aB.rd (s:= .int .u8) h2 (by decide) (by decide) (l.getD 257 0:Int) (sf (i:=257) (by omega)) ?_
  have:decide ((l.getD 257 0:Int)>0)=cq l:=by
   unfold cq;rw [hv,Bool.true_and,Bool.eq_iff_iff,decide_eq_true_eq,decide_eq_true_eq];omega
  rw [this]
  exact hK _ h2.drop
 ·have:false=cq l:=by unfold cq;rw [hv,Bool.false_and]
  rw [this]
  exact hK _ h2.drop
abbrev Gc:List Sc:= [.int .i64,.int .i64,.int .i64,.int .i64,.int .i64,.int .i64,.int .i64,.int .i64,.int .i64,.int .i64,.int .i64,.int .i64,.int .i64,.int .i64,.int .i64,.int .i64]
def t16 (f:Nat→Int):TT Gc:=(f 0,f 1,f 2,f 3,f 4,f 5,f 6,f 7,f 8,f 9,f 10,f 11,f 12,f 13,f 14,f 15,())
theorem Jm (f:Nat→Int):cV 16 f=⟨fw Gc (t16 f)⟩:=rfl
theorem Ix (f:Nat→Int): ∀v∈ [(.int .i64 (f 0):Value),.int .i64 (f 1),.int .i64 (f 2),.int .i64 (f 3),.int .i64 (f 4),.int .i64 (f 5),.int .i64 (f 6),.int .i64 (f 7),.int .i64 (f 8),.int .i64 (f 9),.int .i64 (f 10),.int .i64 (f 11),.int .i64 (f 12),.int .i64 (f 13),.int .i64 (f 14),.int .i64 (f 15)],aw v=true:=by
 intro v hv
 simp only [List.mem_cons,List.not_mem_nil,or_false] at hv
 rcases hv with rfl|rfl|rfl|rfl|rfl|rfl|rfl|rfl|rfl|rfl|rfl|rfl|rfl|rfl|rfl|rfl<;>rfl
theorem sQ:(⟨List.replicate 16 (.int .i64 0)⟩:Array Value)=cV 16 fun _=>0:=rfl
set_option maxRecDepth 20000 in
theorem FL {l:List Nat} {K:TT Gc→World→Prop} (h:Hp E w F) (hl:l.length=258) (h15: ∀x∈l,x≤15) (hK: ∀w',Hp E w' F→K (t16 fun j=>(l.count j:Int)) w'):Cl Tryz.prog [.st Gc] jY ⟨[.agg (ai .u8 l)]⟩ w K:=by
 refine yM.ok _ _ _ ?_
 rw [sQ]
 refine Nw.mk h fun b w1 h1=>Nw.mk h1 fun b2 w2 h2=>Ld.arr h2.p1 (by rw [aJ,hl]) ?_
 refine ⟨fun i w'=> ∃k:Nat,i=(k:Int)∧k≤258∧Hp E w' (aj b2 (.cells (cV 16 fun j=>((l.take k).count j:Int)) 233 (0,0))::F),fun i _=>258 - i.toNat,⟨0,rfl,by omega,?_⟩,?_⟩
 ·have:=h2.p1.drop
  rwa [fg (g:=fun j=>((l.take 0).count j:Int)) (fun i _=>by simp)] at this
 rintro i w' ⟨k,rfl,hk,hh⟩
 refine aa.mk (fun hlt=> ?_) (fun hge=> ?_)
 ·have hlt:k<258:=by have:=of_decide_eq_true hlt;omega
  have hkl:k<l.length:=by omega
  have hcl: ∀x,(l.take k).count x≤258:=fun x=>Nat.le_trans List.count_le_length (by rw [List.length_take];omega)
  refine ez.rd (s:= .int .u8) (by omega) (by omega) (l[k]:Int) (by rw [Int.toNat_natCast];exact fD hkl) ?_
  have h16:=h15 _ (List.getElem_mem hkl)
  rw [ad (x:=(l[k]:Int)) (by omega)]
  refine aa.t (decide_eq_true (by omega)) ?_
  refine aB.rd (s:= .int .i64) hh (by omega) (by omega) ((l.take k).count l[k]:Int) (by rw [Int.toNat_natCast];exact sn (by omega)) ?_
  have:=hcl l[k]
  refine aB.wr hh (by omega) (by omega) cS rfl fun w3 h3=> ?_
  rw [ad (by omega),Int.toNat_natCast,oO] at h3
  rw [ad (by omega)]
  refine ⟨⟨k+1,rfl,by omega,?_⟩,by dsimp only;omega⟩
  rw [fg (g:=fun j=>((l.take (k+1)).count j:Int))] at h3
  ·exact h3
  ·intro j hj
   rw [cX hkl]
   by_cases e:j=l[k]
   ·subst e;rw [if_pos rfl,if_pos rfl];omega
   ·rw [if_neg e,if_neg (Ne.symm e)];omega
 ·have hge:k=258:=by have:=of_decide_eq_false hge;omega
  subst hge
  rw [←hl,List.take_length] at hh
  refine Ld.pr hh (t16 fun j=>(l.count j:Int)) (Jm _) (ak.aD hh (by rw [cS];rfl) (Ix fun j=>(l.count j:Int)) fun w3 h3=> ?_)
  exact Ld.pr h3 (t16 fun j=>(l.count j:Int)) rfl (hK _ h3.drop)
set_option maxRecDepth 20000 in
theorem vY {l:List Nat} {n:Nat} {K:Int→Int→World→Prop} (h:Hp E w F) (hl:l.length=258) (h15: ∀x∈l,x≤15) (hn:n≤15) (hK: ∀w',Hp E w' F→K (Srt.fst l n:Int) (many l n:Int) w'):
  Cl Tryz.prog [kI,kI] eK ⟨[.agg (ai .u8 l),.int .i64 (n:Int)]⟩ w K:=by
 refine ta.ok _ _ _ _ ?_
 refine Nw.mk h fun b w1 h1=>Ld.arr h1 (by rw [aJ,hl]) (FL h1.drop hl h15 fun w2 h2=> ?_)
 rw [sQ]
 refine Nw.mk h2 fun b2 w3 h3=>ak.aD h3 (by rw [cS];rfl) (Ix fun j=>(l.count j:Int)) fun w4 h4=> ?_
 have h4:Hp E w4 (aj b2 (.cells (cV 16 fun j=>(l.count j:Int)) 233 (0,0))::F):=h4
 refine aB.wr h4 (by decide) (by decide) cS rfl fun w5 h5=> ?_
 rw [show (0:Int).toNat=0 from rfl,oO,fg (g:=fun j=>(many l j:Int)) (fun i _=>by unfold many;by_cases e:i=0<;>simp [e])] at h5
 refine ⟨fun c m w'=> ∃k:Nat,m=(k:Int)+1∧k≤n∧c=(Srt.fst l k:Int)∧Hp E w' (aj b2 (.cells (cV 16 fun j=>(many l j:Int)) 233 (0,0))::F),fun _ m _=>18 - m.toNat,⟨0,rfl,by omega,rfl,h5⟩,?_⟩
 rintro c m w' ⟨k,rfl,hk,rfl,hh⟩
 refine aa.mk (fun hlt=> ?_) (fun hge=> ?_)
 ·have hlt:k<n:=by have:=of_decide_eq_true hlt;omega
  rw [ad (x:=(k:Int)+1 - 1) (by omega),show (k:Int)+1 - 1=(k:Int) by omega]
  refine aB.rd (s:= .int .i64) hh (by omega) (by omega) (many l k:Int) (by rw [Int.toNat_natCast];exact sn (by omega)) ?_
  have h1:=tJ (l:=l) (by omega) k
  have h2:=uI (l:=l) (by omega) k
  have h3:(2:Nat)^k≤2^15:=Nat.pow_le_pow_right (by decide) (by omega)
  have h4:(2:Nat)^15=32768:=by decide
  rw [ad (x:=(Srt.fst l k:Int)+(many l k:Int)) (by omega),ad (x:=(k:Int)+1+1) (by omega)]
  have e:=dM (k:= .i64) (a:=Srt.fst l k+many l k) (b:=1) (by decide) (by have:IntKind.max .i64=9223372036854775807:=rfl;omega)
  have e2:a8 .i64 ((Srt.fst l k:Int)+(many l k:Int)) 1=(Srt.fst l (k+1):Int):=by
   rw [show (Srt.fst l k:Int)+(many l k:Int)=((Srt.fst l k+many l k:Nat):Int) by omega,show (1:Int)=((1:Nat):Int) from rfl,e,Srt.fst]
   omega
  rw [e2]
  exact ⟨by decide,⟨k+1,by omega,by omega,rfl,hh⟩,by dsimp only;omega⟩
 ·have hge:k=n:=by have:=of_decide_eq_false hge;omega
  subst hge
  refine aq.mk hh fun w6 h6=>aB.rd (s:= .int .i64) h6 (by omega) (by omega) (many l k:Int) (by rw [Int.toNat_natCast];exact sn (by omega)) (hK _ h6.drop)
set_option maxRecDepth 20000 in
theorem I1 {l:List Nat} {n p:Nat} {K:Int→World→Prop} (h:Hp E w F) (hl:l.length=258) (h15: ∀x∈l,x≤15) (hp:p<l.count n) (hK: ∀w',Hp E w' F→K (uc l n p:Int) w'):
  Cl Tryz.prog [kI] gJ ⟨[.agg (ai .u8 l),.int .i64 (n:Int),.int .i64 (p:Int)]⟩ w K:=by
 refine yo.ok _ _ _ _ _ ?_
 have hs:=yI hp
 refine Nw.mk h fun b w1 h1=>Ld.arr h1 (by rw [aJ,hl]) ?_
 have hcl:l.count n≤258:=Nat.le_trans List.count_le_length (by omega)
 refine ⟨fun q i w'=> ∃k:Nat,i=(k:Int)∧k≤258∧(l.take k).count n≤p∧q=(p:Int) - ((l.take k).count n:Int)∧Hp E w' F,fun _ i _=>258 - i.toNat,⟨0,rfl,by omega,by simp,by simp,h1.drop⟩,?_⟩
 rintro q i w' ⟨k,rfl,hk,hc,rfl,hh⟩
 refine aa.mk (fun hlt=> ?_) (fun hge=> ?_)
 ·have hlt:k<258:=by have:=of_decide_eq_true hlt;omega
  have hkl:k<l.length:=by omega
  have h16:=h15 _ (List.getElem_mem hkl)
  have hsu:=cX hkl n
  refine ez.rd (s:= .int .u8) (by omega) (by omega) (l[k]:Int) (by rw [Int.toNat_natCast];exact fD hkl) ?_
  rw [ad (x:=(l[k]:Int)) (by omega),ad (x:=(k:Int)+1) (by omega)]
  refine aa.mk (fun hne=> ?_) (fun he=>aa.mk (fun hz=> ?_) (fun hz=> ?_))
  ·have hne:l[k]≠n:=by rw [bne_iff_ne] at hne;omega
   rw [if_neg hne] at hsu
   exact ⟨⟨k+1,rfl,by omega,by omega,by omega,hh⟩,by dsimp only;omega⟩
  ·have he:l[k]=n:=by have:=bne_eq_false_iff_eq.1 he;omega
   have hz:(l.take k).count n=p:=by rw [beq_iff_eq] at hz;omega
   have:k=uc l n p:=by
    refine xL hkl hs.1 (by rw [hs.2.1,bX hkl,he]) ?_
    rw [hs.2.2];unfold gm;rw [bX hkl,he,hz]
   rw [this];exact hK _ hh
  ·have he:l[k]=n:=by have:=bne_eq_false_iff_eq.1 he;omega
   have hz:(l.take k).count n≠p:=by have:=beq_eq_false_iff_ne.1 hz;omega
   rw [if_pos he] at hsu
   rw [ad (by omega)]
   exact ⟨⟨k+1,rfl,by omega,by omega,by omega,hh⟩,by dsimp only;omega⟩
 ·have hge:k=258:=by have:=of_decide_eq_false hge;omega
  subst hge
  rw [←hl,List.take_length] at hc
  omega
def cU (l:List Nat) (c b:Nat):Array Value:=⟨(l.map fun (n:Nat)=>Value.int .u8 (n:Int))++ [.int .i64 (c:Int),.int .i64 (b:Int)]⟩
theorem bU {l:List Nat} {c b:Nat} (hl:l.length=258):(cU l c b).size=260:=by simp [cU,hl]
theorem cL {l:List Nat} {c b:Nat}: ∀v∈(cU l c b).toList,aw v=true:=by
 intro v hv
 unfold cU at hv
 simp only [List.mem_append,List.mem_map,List.mem_cons,List.not_mem_nil,or_false] at hv
 rcases hv with ⟨n,_,rfl⟩|rfl|rfl<;>rfl
theorem ep (l:List Nat) (c b:Nat):cU l c b=⟨[]++(l.map fun (n:Nat)=>Value.int .u8 (n:Int))++ [.int .i64 (c:Int),.int .i64 (b:Int)]⟩:=rfl
theorem rb {l:List Nat} {c b:Nat} (hl:l.length=258):(cU l c b)[258]? =some (Sc.enc (.int .i64) (c:Int)):=by
 unfold cU;rw [List.getElem?_toArray,List.getElem?_append_right (by simp [hl])];simp [hl]
theorem oG {l:List Nat} {c b:Nat} (hl:l.length=258):(cU l c b)[259]? =some (Sc.enc (.int .i64) (b:Int)):=by
 unfold cU;rw [List.getElem?_toArray,List.getElem?_append_right (by simp [hl])];simp [hl]
theorem zw:(⟨List.replicate 258 (.int .u8 0)++ [.int .i64 0,.int .i64 0]⟩:Array Value)=cU (List.replicate 258 0) 0 0:=by unfold cU;rw [List.map_replicate];rfl
theorem rR (ps:List (Nat×Value)):Tryz.prog.built 145 ps=Instr.fill (#[(0,258),(258,1),(259,1)][·]?) ⟨List.replicate 258 (.int .u8 0)++ [.int .i64 0,.int .i64 0]⟩ ps:=by kernel_rfl
theorem zI {l:List Nat} (hl:l.length=258) (rest:List (Nat×Value)):Instr.fill (#[(0,258),(258,1),(259,1)][·]?) ⟨List.replicate 258 (.int .u8 0)++ [.int .i64 0,.int .i64 0]⟩ ((0,.agg (ai .u8 l))::rest)
  =Instr.fill (#[(0,258),(258,1),(259,1)][·]?) (cU l 0 0) rest:=by
 have:=gj (place:=(#[(0,258),(258,1),(259,1)][·]?)) (i:=0) (v:= .agg (ai .u8 l)) (rest:=rest) (pre:= []) (mid:=List.replicate 258 (.int .u8 0)) (post:= [.int .i64 0,.int .i64 0]) rfl rfl List.length_replicate (by show (ai .u8 l).size=_;rw [aJ,hl])
 exact this
theorem H9 {l:List Nat} {c c0 b:Nat} (hl:l.length=258) (rest:List (Nat×Value)):Instr.fill (#[(0,258),(258,1),(259,1)][·]?) (cU l c0 b) ((1,.int .i64 (c:Int))::rest)=Instr.fill (#[(0,258),(258,1),(259,1)][·]?) (cU l c b) rest:=by
 have:=gj (place:=(#[(0,258),(258,1),(259,1)][·]?)) (i:=1) (v:= .int .i64 (c:Int)) (rest:=rest) (pre:=l.map fun (n:Nat)=>Value.int .u8 (n:Int)) (mid:= [.int .i64 (c0:Int)]) (post:= [.int .i64 (b:Int)]) rfl (by simp [hl]) rfl rfl
 unfold cU
 rw [show (l.map fun (n:Nat)=>Value.int .u8 (n:Int))++ [.int .i64 (c0:Int),.int .i64 (b:Int)]=(l.map fun (n:Nat)=>Value.int .u8 (n:Int))++ [.int .i64 (c0:Int)]++ [.int .i64 (b:Int)] by simp,this]
 congr 2
 simp [Value.cells]
theorem Iv {l:List Nat} {c b0 b:Nat} (hl:l.length=258) (rest:List (Nat×Value)):Instr.fill (#[(0,258),(258,1),(259,1)][·]?) (cU l c b0) ((2,.int .i64 (b:Int))::rest)=Instr.fill (#[(0,258),(258,1),(259,1)][·]?) (cU l c b) rest:=by
 have:=gj (place:=(#[(0,258),(258,1),(259,1)][·]?)) (i:=2) (v:= .int .i64 (b:Int)) (rest:=rest) (pre:=(l.map fun (n:Nat)=>Value.int .u8 (n:Int))++ [.int .i64 (c:Int)]) (mid:= [.int .i64 (b0:Int)]) (post:= []) rfl (by simp [hl]) rfl rfl
 unfold cU
 rw [show (l.map fun (n:Nat)=>Value.int .u8 (n:Int))++ [.int .i64 (c:Int),.int .i64 (b0:Int)]=(l.map fun (n:Nat)=>Value.int .u8 (n:Int))++ [.int .i64 (c:Int)]++ [.int .i64 (b0:Int)]++ [] by simp,this]
 congr 2
 simp [Value.cells]
theorem cK.IE {l:List Nat} {K:Array Value→Prop} (hl:l.length=258) (hK:K (cU l 0 0)):cK Tryz.prog 145 [(0,.agg (ai .u8 l))] K:=⟨cU l 0 0,by rw [rR,zI hl];rfl,hK⟩
theorem cK.Kg {l:List Nat} {c b:Nat} {K:Array Value→Prop} (hl:l.length=258) (hK:K (cU l c b)):cK Tryz.prog 145 [(0,.agg (ai .u8 l)),(1,.int .i64 (c:Int)),(2,.int .i64 (b:Int))] K:=
 ⟨cU l c b,by rw [rR,zI hl,H9 hl,Iv hl];rfl,hK⟩
theorem cK.J9 {K:Array Value→Prop} (hK:K (cU (List.replicate 258 0) 0 0)):cK Tryz.prog 145 [] K:=⟨_,rR [],by rw [zw];exact hK⟩
theorem Je {l:List Nat} {K:Array Value→Int→World→Prop} (h:Hp E w F) (hl:l.length=258) (hK1:cq l=false→∀w',Hp E w' F→K (cU (List.replicate 258 0) 0 0) 2 w') (hK2:cq l=true→∀w',Hp E w' F→K (cU l 0 0) 0 w'):
  Cl Tryz.prog [.arr 260,kI] jA ⟨[.agg (ai .u8 l)]⟩ w K:=by
 refine wi.ok _ _ _ ?_
 rw [zw]
 have hz:(cU (List.replicate 258 0) 0 0).size=260:=bU List.length_replicate
 refine Nw.mk h fun b w1 h1=>Nw.mk h1 fun b2 w2 h2=>Ld.arr h2.p1 (by rw [aJ,hl]) (rj h2 hl fun w3 h3=>aa.mk (fun hv=> ?_) (fun hv=> ?_))
 ·exact cK.J9 (ar.aD h3 hz hz cL fun w4 h4=>Ld.arr h4 hz (hK1 (by simpa using hv) _ h4.drop.drop))
 ·exact Ld.arr h3.p1 (by rw [aJ,hl]) (cK.IE hl (ar.aD h3 hz (bU hl) cL fun w4 h4=>Ld.arr h4 (bU hl) (hK2 (by simpa using hv) _ h4.drop.drop)))
theorem Jc {l:List Nat} (h:cq l=true): ∀x∈l,x≤15:=fun x hx=>by
 obtain ⟨i,hi,rfl⟩:=List.getElem_of_mem hx
 have:=fT (l:=l) (by rw [(lH.1 h).1];decide) i
 rwa [bX hi] at this
theorem Db {l:List Nat} {c b:Nat} {K:Bool→World→Prop} (h:Hp E w F) (hl:l.length=258) (hb:b<15) (hc:c<2^b) (hK: ∀w',Hp E w' F→K (cq l&&decide (Srt.fst l b+many l b≤c)) w'):
  Cl Tryz.prog [kB] hC ⟨[.agg (cU l c b)]⟩ w K:=by
 refine tf.ok _ _ _ ?_
 simp only [aH,au,Nat.zero_add]
 refine Nw.mk h fun b3 w1 h1=> ?_
 rw [ep] at h1
 have hml:(l.map fun (n:Nat)=>Value.int .u8 (n:Int)).length=258:=by simp [hl]
 refine Ld.sub h1 rfl hml (rj h1 hl fun w2 h2=>aa.mk (fun hv=> ?_) (fun hv=> ?_))
 ·have hv:cq l=false:=by simpa using hv
  rw [hv,Bool.false_and] at hK
  exact hK _ h2.drop
 have hv:cq l=true:=by simpa using hv
 rw [hv,Bool.true_and] at hK
 rw [←ep] at h2
 have hp:(2:Nat)^b≤2^15:=Nat.pow_le_pow_right (by decide) (by omega)
 have hp2:(2:Nat)^15=32768:=by decide
 refine Ld.aD (s:= .int .i64) h2 (b:Int) (oG hl) (aa.f (decide_eq_false (by omega)) ?_)
 refine Ld.aD (s:= .int .i64) h2 (b:Int) (oG hl) (aa.f (decide_eq_false (by omega)) ?_)
 refine Ld.aD (s:= .int .i64) h2 (c:Int) (rb hl) (aa.f (decide_eq_false (by omega)) ?_)
 refine Ld.aD (s:= .int .i64) h2 (c:Int) (rb hl) (Ld.aD (s:= .int .i64) h2 (b:Int) (oG hl) ⟨by omega,?_⟩)
 rw [bO (by have:IntKind.bits .i64=64:=rfl;omega),Nat.div_eq_of_lt hc]
 refine aa.f (by decide) ?_
 rw [ep] at h2
 refine Ld.sub h2 rfl hml ?_
 rw [←ep] at h2
 refine Ld.aD (s:= .int .i64) h2 (b:Int) (oG hl) (vY h2 hl (Jc hv) (by omega) fun w3 h3=>Ld.aD (s:= .int .i64) h3 (c:Int) (rb hl) ?_)
 have h1:=tJ (l:=l) (by omega) b
 have h2:=uI (l:=l) (by omega) b
 rw [ad (by omega)]
 have e:decide ((c:Int)≥(Srt.fst l b:Int)+(many l b:Int))=decide (Srt.fst l b+many l b≤c):=by rw [Bool.eq_iff_iff,decide_eq_true_eq,decide_eq_true_eq];omega
 rw [e]
 exact hK _ h3.drop
theorem Dx {c x:Nat} (hx:x≤1) (hc:c<16384):jk .i64 (a8 .i64 (c:Int) 1) (x:Int)=((2*c+x:Nat):Int):=by
 have hm:IntKind.max .i64=9223372036854775807:=rfl
 have e:=dM (k:= .i64) (a:=c) (b:=1) (by decide) (by omega)
 have h2:c*2^1|||x=2*c+x:=by
  have:=Nat.two_pow_add_eq_or_of_lt (i:=1) (b:=x) (by omega) c
  rw [Nat.mul_comm c,←this,Nat.mul_comm]
 rw [show (1:Int)=((1:Nat):Int) from rfl,e,oz (by omega) (by omega) (by rw [h2];omega),h2]
theorem C5 {l:List Nat} {c b x:Nat} {K:Array Value→Int→Bool→World→Prop} (h:Hp E w F) (hl:l.length=258) (hs:nZ l c b) (hx:x≤1)
  (hK: ∀w',Hp E w' F→K (cU l (dQ l c b x).1.1 (dQ l c b x).1.2) (((dQ l c b x).2.getD 0:Nat):Int) (dQ l c b x).2.isSome w'):
  Cl Tryz.prog [.arr 260,kI,kB] fy ⟨[.agg (cU l c b),.int .i64 (x:Int)]⟩ w K:=by
 refine uq.ok _ _ _ _ ?_
 simp only [aH,au,Nat.zero_add]
 rw [zw]
 have hz:(cU (List.replicate 258 0) 0 0).size=260:=bU List.length_replicate
 have hml:(l.map fun (n:Nat)=>Value.int .u8 (n:Int)).length=258:=by simp [hl]
 have hp:(2:Nat)^b≤2^14:=Nat.pow_le_pow_right (by decide) (by have:=hs.2.1;omega)
 have hp2:(2:Nat)^14=16384:=by decide
 have hc:=hs.2.2.1
 have hb:=hs.2.1
 have h15:=Jc hs.1
 refine Nw.mk h fun b4 w1 h1=>Nw.mk h1 fun b6 w2 h2=> ?_
 have e1:aF .i64 (x:Int) 1=0:=by
  rw [show (1:Int)=((1:Nat):Int) from rfl,bO (by decide)]
  omega
 rw [e1]
 refine ⟨by decide,aa.f (by decide) ?_⟩
 refine Ld.arr h2.p1 (bU hl) (Db h2 hl hb hc fun w3 h3=> ?_)
 refine aa.f (by rw [hs.1,decide_eq_true hs.2.2.2];rfl) ?_
 have h3':=h3.p1
 rw [ep l c b] at h3'
 refine Ld.sub h3' rfl hml (Ld.aD (s:= .int .i64) h3.p1 (c:Int) (rb hl) ⟨by decide,Ld.aD (s:= .int .i64) h3.p1 (b:Int) (oG hl) ?_⟩)
 rw [Dx hx (by omega),ad (x:=(b:Int)+1) (by omega)]
 refine cK.Kg (b:=b+1) hl (ar.aD h3 hz (bU hl) cL fun w4 h4=> ?_)
 have h4':=h4
 rw [ep l (2*c+x) (b+1)] at h4'
 refine Ld.sub h4' rfl hml (Ld.aD (s:= .int .i64) h4 ((b+1:Nat):Int) (oG hl) (vY h4 hl h15 (by omega) fun w5 h5=>Ld.aD (s:= .int .i64) h5 ((2*c+x:Nat):Int) (rb hl) ?_))
 have hf:=tJ (l:=l) (by omega) (b+1)
 have hm:=uI (l:=l) (by omega) (b+1)
 have hp3:(2:Nat)^(b+1)=2*2^b:=by rw [Nat.pow_succ,Nat.mul_comm]
 rw [ad (by omega)]
 by_cases hcase:Srt.fst l (b+1)+many l (b+1)≤2*c+x
 ·refine aa.t (decide_eq_true (by omega)) (Ld.arr h5 (bU hl) (ar.aD h5 (bU hl) (bU hl) cL fun w6 h6=>Ld.arr h6 (bU hl) ?_))
  have e:dQ l c b x=((2*c+x,b+1),none):=by unfold dQ;rw [if_pos hcase]
  rw [e] at hK
  exact hK _ h6.drop.drop
 ·refine aa.f (decide_eq_false (by omega)) ?_
  have e:dQ l c b x=((0,0),some (uc l (b+1) (2*c+x - Srt.fst l (b+1)))):=by unfold dQ;rw [if_neg hcase]
  rw [e] at hK
  have hge:=hs.ge
  have hmn:many l (b+1)=l.count (b+1):=by unfold many;rw [if_neg (by omega)]
  refine aq.mk h5 fun w6 h6=> ?_
  have h6':=h6
  rw [ep l (2*c+x) (b+1)] at h6'
  refine Ld.sub h6' rfl hml (Ld.aD (s:= .int .i64) h6 ((b+1:Nat):Int) (oG hl) (Ld.aD (s:= .int .i64) h6 ((2*c+x:Nat):Int) (rb hl) ?_))
  rw [ad (x:=((2*c+x:Nat):Int) - (Srt.fst l (b+1):Int)) (by omega),show ((2*c+x:Nat):Int) - (Srt.fst l (b+1):Int)=((2*c+x - Srt.fst l (b+1):Nat):Int) by omega]
  constructor
  ·have h7':=h6.p1
   rw [ep l c b] at h7'
   refine Ld.sub h7' rfl hml (cK.IE hl (I1 h6 hl h15 (by omega) fun w7 h7=> ?_))
   exact ar.aD h7 (bU hl) (bU hl) cL fun w8 h8=>Ld.arr h8 (bU hl) (hK _ h8.drop.drop)
  ·refine I1 h6 hl h15 (by omega) fun w7 h7=> ?_
   have h7':=h7.p1
   rw [ep l c b] at h7'
   refine Ld.sub h7' rfl hml (cK.IE hl ?_)
   exact ar.aD h7 (bU hl) (bU hl) cL fun w8 h8=>Ld.arr h8 (bU hl) (hK _ h8.drop.drop)
end
end Go.Proofs.YtcdpblipagajiaaGreat
namespace Go.Bits
def fa (b:List Nat) (i:Nat):Nat:=(b.getD (i/8) 0/2^(7 - i % 8)) % 2
def val (b:List Nat) (a:Nat):Nat→Nat
 |0=>0
 |n+1=>2*val b a n+fa b (a+n)
theorem xA (b:List Nat) (i:Nat):fa b i<2:=Nat.mod_lt _ (by decide)
end Go.Bits
set_option maxRecDepth 20000
namespace Go.Srt
open Go.Bits
def ky (b:List Nat) (j:Nat):Nat:=
 b.getD (8*j) 0*128+b.getD (8*j+1) 0*64+b.getD (8*j+2) 0*32+b.getD (8*j+3) 0*16+b.getD (8*j+4) 0*8+b.getD (8*j+5) 0*4+b.getD (8*j+6) 0*2+b.getD (8*j+7) 0
def ik (b:List Nat) (m:Nat):List Nat:=(List.range m).map (ky b)
def pack (b:List Nat):List Nat:=ik b ((b.length+7)/8)
def Bits (b:List Nat):Prop:= ∀x∈b,x≤1
theorem Bits.getD {b:List Nat} (h:Bits b) (i:Nat):b.getD i 0≤1:=by
 rw [List.getD_eq_getElem?_getD]
 cases hx:b[i]? with
 |none=>simp
 |some x=>exact h x (List.mem_of_getElem? hx)
theorem Bits.app {a b:List Nat} (ha:Bits a) (hb:Bits b):Bits (a++b):=fun x hx=>by
 rcases List.mem_append.1 hx with h|h
 ·exact ha x h
 ·exact hb x h
theorem oN (b:List Nat) (m:Nat):(ik b m).length=m:=by simp [ik]
theorem tF {b:List Nat} {m j:Nat} (h:j<m):(ik b m).getD j 0=ky b j:=by
 unfold ik
 rw [List.getD_eq_getElem?_getD,List.getElem?_map,List.getElem?_range h];rfl
theorem D7 {b:List Nat} (h:Bits b) (j:Nat):ky b j<256:=by
 unfold ky
 have h0:=h.getD (8*j);have h1:=h.getD (8*j+1);have h2:=h.getD (8*j+2);have h3:=h.getD (8*j+3)
 have h4:=h.getD (8*j+4);have h5:=h.getD (8*j+5);have h6:=h.getD (8*j+6);have h7:=h.getD (8*j+7)
 omega
theorem vU {b:List Nat} (h:Bits b) (m:Nat): ∀y∈ik b m,y<256:=fun y hy=>by
 obtain ⟨j,_,rfl⟩:=List.mem_map.1 hy
 exact D7 h j
theorem c9 {b:List Nat} {i:Nat} (h:b.length≤i):b.getD i 0=0:=by rw [List.getD_eq_getElem?_getD,List.getElem?_eq_none h];rfl
theorem u5 (b:List Nat) (x i:Nat):(b++ [x]).getD i 0=b.getD i 0+if i=b.length then x else 0:=by
 rcases Nat.lt_trichotomy i b.length with h|h|h
 ·rw [if_neg (by omega),List.getD_eq_getElem?_getD,List.getElem?_append_left h,←List.getD_eq_getElem?_getD];rfl
 ·subst h
  rw [if_pos rfl,c9 (Nat.le_refl _),List.getD_eq_getElem?_getD,List.getElem?_append_right (Nat.le_refl _),Nat.sub_self]
  simp
 ·rw [if_neg (by omega),c9 (b:=b++ [x]) (by simp;omega),c9 (b:=b) (by omega)]
theorem yp (b:List Nat) (x j:Nat):ky (b++ [x]) j=ky b j+if j=b.length/8 then x*2^(7 - b.length % 8) else 0:=by
 unfold ky
 simp only [u5]
 by_cases hj:j=b.length/8
 ·rw [if_pos hj]
  have hr:b.length=8*j+b.length % 8:=by omega
  have h8:b.length % 8<8:=Nat.mod_lt _ (by decide)
  generalize b.length % 8=r at hr h8
  rw [hr]
  have:r=0∨r=1∨r=2∨r=3∨r=4∨r=5∨r=6∨r=7:=by omega
  rcases this with rfl|rfl|rfl|rfl|rfl|rfl|rfl|rfl<;>simp<;>omega
 ·rw [if_neg hj,if_neg (by omega),if_neg (by omega),if_neg (by omega),if_neg (by omega),if_neg (by omega),if_neg (by omega),if_neg (by omega),if_neg (by omega)]
  omega
theorem Hq {b:List Nat} {j:Nat} (h:b.length≤8*j):ky b j=0:=by
 unfold ky
 rw [c9 h,c9 (by omega),c9 (by omega),c9 (by omega),c9 (by omega),c9 (by omega),c9 (by omega),c9 (by omega)]
theorem GN (b:List Nat):2^(8 - b.length % 8)∣ky b (b.length/8):=by
 have hr:b.length=8*(b.length/8)+b.length % 8:=by omega
 have h8:b.length % 8<8:=Nat.mod_lt _ (by decide)
 generalize hj:b.length/8=j at hr
 generalize b.length % 8=r at hr h8
 unfold ky
 have g: ∀i,r≤i→b.getD (8*j+i) 0=0:=fun i hi=>c9 (by omega)
 have:r=0∨r=1∨r=2∨r=3∨r=4∨r=5∨r=6∨r=7:=by omega
 have g0:=g 0;have g1:=g 1;have g2:=g 2;have g3:=g 3;have g4:=g 4;have g5:=g 5;have g6:=g 6;have g7:=g 7
 simp only [Nat.add_zero] at g0
 rcases this with rfl|rfl|rfl|rfl|rfl|rfl|rfl|rfl<;>simp only [Nat.reduceSub,Nat.reducePow]<;>omega
theorem Hx {a r x:Nat} (hr:r<8) (hd:2^(8 - r)∣a) (hx:x≤1):a|||x*2^(7 - r)=a+x*2^(7 - r):=by
 obtain ⟨q,rfl⟩:=hd
 have hp:2^(8 - r)=2*2^(7 - r):=by rw [show 8 - r=(7 - r)+1 by omega,Nat.pow_succ,Nat.mul_comm]
 have hpos:=Nat.two_pow_pos (7 - r)
 refine (Nat.two_pow_add_eq_or_of_lt (i:=8 - r) ?_ q).symm
 have:x=0∨x=1:=by omega
 rcases this with rfl|rfl<;>omega
def room (b:List Nat):List Nat:=ik b (b.length/8+1)
theorem BD (b:List Nat):room b=if b.length % 8=0 then pack b++ [0] else pack b:=by
 unfold room pack
 split
 ·rename_i h
  rw [show (b.length+7)/8=b.length/8 by omega]
  unfold ik
  rw [List.range_succ,List.map_append]
  congr 1
  simp only [List.map_cons,List.map_nil]
  rw [Hq (by omega)]
 ·rename_i h
  rw [show (b.length+7)/8=b.length/8+1 by omega]
theorem DV (b:List Nat) (x:Nat):pack (b++ [x])=(room b).set (b.length/8) (ky b (b.length/8)+x*2^(7 - b.length % 8)):=by
 unfold pack room
 rw [List.length_append,List.length_singleton,show (b.length+1+7)/8=b.length/8+1 by omega]
 refine List.ext_getElem? fun i=> ?_
 unfold ik
 rw [List.getElem?_set]
 simp only [List.getElem?_map,List.length_map,List.length_range]
 by_cases hi:i<b.length/8+1
 ·rw [List.getElem?_range hi]
  simp only [Option.map_some]
  rw [yp]
  by_cases e:b.length/8=i
  ·subst e;rw [if_pos rfl,if_pos rfl,if_pos hi]
  ·rw [if_neg (Ne.symm e),if_neg e,Nat.add_zero]
 ·rw [List.getElem?_eq_none (by simpa using hi)]
  simp only [Option.map_none]
  rw [if_neg (by omega)]
theorem yS {b:List Nat} (h:Bits b) {m i:Nat} (hi:i<8*m):fa (ik b m) i=b.getD i 0:=by
 unfold fa
 rw [tF (by omega)]
 have hr:i=8*(i/8)+i % 8:=by omega
 have h8:i % 8<8:=Nat.mod_lt _ (by decide)
 generalize i/8=j at hr
 generalize i % 8=r at hr h8
 subst hr
 unfold ky
 have h0:=h.getD (8*j);have h1:=h.getD (8*j+1);have h2:=h.getD (8*j+2);have h3:=h.getD (8*j+3)
 have h4:=h.getD (8*j+4);have h5:=h.getD (8*j+5);have h6:=h.getD (8*j+6);have h7:=h.getD (8*j+7)
 have:r=0∨r=1∨r=2∨r=3∨r=4∨r=5∨r=6∨r=7:=by omega
 rcases this with rfl|rfl|rfl|rfl|rfl|rfl|rfl|rfl<;>simp only [Nat.reduceSub,Nat.reducePow,Nat.add_zero]<;>omega
theorem iM (b:List Nat):(pack b).length=(b.length+7)/8:=oN _ _
end Go.Srt
set_option maxRecDepth 20000
namespace Go.Srt
open Go.Bits
def bn:Nat→Nat→List Nat
 |0,_=> []
 |n+1,v=>bn n (v/2)++ [v % 2]
theorem oC: ∀n v,(bn n v).length=n
 |0,_=>rfl
 |n+1,v=>by rw [bn,List.length_append,oC n];rfl
theorem BB: ∀n v,Bits (bn n v)
 |0,_=>fun x hx=>by cases hx
 |n+1,v=>(BB n _).app fun x hx=>by have:x=v % 2:=by simpa using hx
                                   omega
theorem xB: ∀n v i,i<n→(bn n v).getD i 0=v/2^(n - 1 - i) % 2
 |0,_,_,h=>by omega
 |n+1,v,i,h=>by
  rw [bn,u5,oC]
  by_cases e:i=n
  ·subst e
   rw [if_pos rfl,c9 (by rw [oC];exact Nat.le_refl _),show i+1 - 1 - i=0 by omega];simp
  ·rw [if_neg e,xB n _ i (by omega),Nat.add_zero,Nat.div_div_eq_div_mul]
   congr 2
   rw [show n+1 - 1 - i=(n - 1 - i)+1 by omega,Nat.pow_succ,Nat.mul_comm]
def jy (l:List Nat) (s:Nat):Prop:=s<258∧0<l.getD s 0
def ya (l:List Nat) (s:Nat):List Nat:=bn (l.getD s 0) (code l s)
def enc (l:List Nat) (ss:List Nat):List Nat:=ss.flatMap (ya l)
theorem FZ (l:List Nat) (ss:List Nat):Bits (enc l ss):=fun x hx=>by
 obtain ⟨s,_,h⟩:=List.mem_flatMap.1 hx
 exact BB _ _ x h
theorem HJ (l a b:List Nat):enc l (a++b)=enc l a++enc l b:=List.flatMap_append
theorem zy (l:List Nat) (s:Nat) (b:List Nat):enc l (s::b)=ya l s++enc l b:=List.flatMap_cons
def fz (l:List Nat) (c n:Nat):Option Nat:=(List.range 258).find? fun s=>decide (0<l.getD s 0)&&(l.getD s 0==n)&&(code l s==c)
theorem po {l:List Nat} {c n s:Nat} (h:fz l c n=some s):jy l s∧l.getD s 0=n∧code l s=c:=by
 unfold fz at h
 have h1:=List.find?_some h
 have h2:=List.mem_of_find?_eq_some h
 simp only [Bool.and_eq_true,decide_eq_true_eq,beq_iff_eq] at h1
 exact ⟨⟨by simpa using h2,h1.1.1⟩,h1.1.2,h1.2⟩
theorem CT {l:List Nat} {c n:Nat} (h:fz l c n=none) {s:Nat} (hs:jy l s): ¬(l.getD s 0=n∧code l s=c):=by
 unfold fz at h
 have:=List.find?_eq_none.1 h s (by simpa using hs.1)
 simp only [Bool.and_eq_true,decide_eq_true_eq,beq_iff_eq] at this
 exact fun hh=>this ⟨⟨hs.2,hh.1⟩,hh.2⟩
theorem Eu {l:List Nat} (hl:l.length=258) {s t:Nat} (hs:jy l s) (ht:jy l t) (h1:l.getD s 0=l.getD t 0) (h2:code l s=code l t):s=t:=by
 have h3:=hs.1;have h4:=ht.1
 refine xL (by omega) (by omega) h1 ?_
 unfold code at h2
 rw [h1] at h2
 omega
theorem sE {l:List Nat} (hl:l.length=258) {s:Nat} (hs:jy l s):fz l (code l s) (l.getD s 0)=some s:=by
 cases h:fz l (code l s) (l.getD s 0) with
 |none=>exact absurd ⟨rfl,rfl⟩ (CT h hs)
 |some t=>
  obtain ⟨h1,h2,h3⟩:=po h
  rw [Eu hl h1 hs h2 h3]
theorem C9 {l:List Nat} (hl:l.length=258) (hv:aS l≤32768) {s m:Nat} (hs:jy l s) (hm:m<l.getD s 0):fz l (code l s/2^(l.getD s 0 - m)) m=none:=by
 cases h:fz l (code l s/2^(l.getD s 0 - m)) m with
 |none=>rfl
 |some t=>
  exfalso
  obtain ⟨h1,h2,h3⟩:=po h
  have h15:=fT hv s
  have p1:=pn hv s
  have p2:=pn hv t
  rw [h2,h3] at p2
  have e:2^(15 - m)=2^(l.getD s 0 - m)*2^(15 - l.getD s 0):=by rw [←Nat.pow_add];congr 1;omega
  have hq:=Nat.div_mul_le_self (code l s) (2^(l.getD s 0 - m))
  have hr:=Nat.lt_div_mul_add (a:=code l s) (b:=2^(l.getD s 0 - m)) (Nat.two_pow_pos _)
  have ha:pos l t≤pos l s:=by
   rw [←p1,←p2,e,←Nat.mul_assoc];exact Nat.mul_le_mul_right _ hq
  have hb:pos l s<pos l t+2^(15 - l.getD t 0):=by
   rw [h2,←p1,←p2,e,←Nat.mul_assoc,←Nat.add_mul]
   exact Nat.mul_lt_mul_of_pos_right hr (Nat.two_pow_pos _)
  have h4:=hs.1;have h5:=h1.1
  have:s=t:=FC (x:=pos l s) (by omega) (by omega) hs.2 h1.2 (Nat.le_refl _) (by have:=Nat.two_pow_pos (15 - l.getD s 0);omega) ha hb
  subst this
  omega
def bitsOf (b:List Nat) (n:Nat):List Nat:=(List.range n).map (fa b)
theorem BS (b:List Nat) (n:Nat):(bitsOf b n).length=n:=by simp [bitsOf]
theorem Ay (b:List Nat) (n:Nat):Bits (bitsOf b n):=fun x hx=>by
 obtain ⟨i,_,rfl⟩:=List.mem_map.1 hx
 have:=xA b i
 omega
end Go.Srt
set_option maxRecDepth 20000
namespace Go.Srt
theorem FQ {l:List Nat} {c b x:Nat} (hl:l.length=258) (h:nZ l c b) (hx:x≤1):(dQ l c b x).2=fz l (2*c+x) (b+1):=by
 cases hs:(dQ l c b x).2 with
 |some s=>
  obtain ⟨h1,h2,h3,h4⟩:=xT hl h hx hs
  have:=sE hl (s:=s) ⟨h1,by omega⟩
  rw [h2,h3] at this
  exact this.symm
 |none=>
  cases hf:fz l (2*c+x) (b+1) with
  |none=>rfl
  |some s=>
   obtain ⟨⟨h1,h2⟩,h3,h4⟩:=po hf
   have hr:=A5 (l:=l) (s:=s) (by omega) h2
   unfold code at h4
   unfold dQ at hs
   split at hs
   ·rename_i hle
    rw [h3] at h4 hr
    omega
   ·cases hs
theorem HB {l:List Nat} {c b x:Nat}:(dQ l c b x).1=match (dQ l c b x).2 with|none=>(2*c+x,b+1)|some _=>(0,0):=by
 cases hs:(dQ l c b x).2 with
 |none=>exact FB hs
 |some s=>exact FH hs
end Go.Srt
namespace Go.Proofs.YtcdpblipagajiaaGreat
open Go Go.Vc
set_option maxRecDepth 100000
theorem Cq.ok (a:Int) (R:(Array Value)→World→Prop) w (h:
 Nw 149 ⟨List.replicate 256 (.int .u8 0)++ [(ni 0),(ni 0),(ni 0),(.bool false)]⟩ w fun c b=>
 aa (decide (a<1))
 (Ld (.arr 260) ⟨c,0,none⟩ b fun d=>
 ar 260 ⟨c,0,none⟩ d b fun e=>
 Ld (.arr 260) ⟨c,0,none⟩ e fun f=>
 R f e)
 (aa (decide (a>65536))
 (Ld (.arr 260) ⟨c,0,none⟩ b fun g=>
 ar 260 ⟨c,0,none⟩ g b fun h=>
 Ld (.arr 260) ⟨c,0,none⟩ h fun i=>
 R i h)
 (Cl Pg [(.arr 256)] mW ⟨[]⟩ b fun k j=>
 cK Pg 149 [(0,(.agg k)),(1,(ni a))] fun l=>
 ar 260 ⟨c,0,none⟩ l j fun m=>
 Ld (.arr 260) ⟨c,0,none⟩ m fun n=>
 R n m))):Cl Pg [(.arr 260)] mc ⟨[(ni a)]⟩ w R:=co Tryz.f102 [] h
theorem zV.ok (a:(Array Value)) (b:Int) (R:(Array Value)→Sl→Bool→Int→World→Prop) w (h:
 Nw 149 a w fun d c=>
 Nw 149 ⟨List.replicate 256 (.int .u8 0)++ [(ni 0),(ni 0),(ni 0),(.bool false)]⟩ c fun f e=>
 bf (fun (y:World)=>
 Ld (.arr 260) ⟨d,0,none⟩ y fun z=>
 Cl Pg [(.arr 260),kS,kB] kL ⟨[(.agg z),(ni b)]⟩ y fun b1 (c1:Sl) (d1:Bool) a1=>
 ar 260 ⟨f,0,none⟩ b1 a1 fun e1=>
 aa (!d1)
 (Ld (.arr 260) ⟨d,0,none⟩ e1 fun f1=>
 ar 260 ⟨f,0,none⟩ f1 e1 fun g1=>
 Ld (.arr 260) ⟨f,0,none⟩ g1 fun h1=>
 R h1 (⟨none,0,0⟩:Sl) false 160 g1)
 (Ld (.arr 260) ⟨f,0,none⟩ e1 fun i1=>
 Ld kB (Addr.add ⟨f,0,none⟩ 259) e1 fun (j1:Bool)=>
 ar 260 ⟨f,0,none⟩ i1 e1 fun k1=>
 Ld (.arr 260) ⟨f,0,none⟩ k1 fun l1=>
 R l1 c1 j1 0 k1)) fun g=>
 Ld (.arr 260) ⟨d,0,none⟩ e fun h=>
 Cl Pg [kB] jU ⟨[(.agg h)]⟩ e fun (j:Bool) i=>
 aa (!j)
 (Ld (.arr 260) ⟨d,0,none⟩ i fun k=>
 ar 260 ⟨f,0,none⟩ k i fun l=>
 Ld (.arr 260) ⟨f,0,none⟩ l fun m=>
 R m (⟨none,0,0⟩:Sl) false 2 l)
 (Ld kB (Addr.add ⟨d,0,none⟩ 259) i fun (n:Bool)=>
 aa n
 (Ld (.arr 260) ⟨d,0,none⟩ i fun o=>
 ar 260 ⟨f,0,none⟩ o i fun p=>
 Ld (.arr 260) ⟨f,0,none⟩ p fun q=>
 R q (⟨none,0,0⟩:Sl) false 2 p)
 (aa (decide (b<0))
 (Ld (.arr 260) ⟨d,0,none⟩ i fun r=>
 ar 260 ⟨f,0,none⟩ r i fun s=>
 Ld (.arr 260) ⟨f,0,none⟩ s fun t=>
 R t (⟨none,0,0⟩:Sl) false 2 s)
 (aa (decide (b>257))
 (Ld (.arr 260) ⟨d,0,none⟩ i fun u=>
 ar 260 ⟨f,0,none⟩ u i fun v=>
 Ld (.arr 260) ⟨f,0,none⟩ v fun x=>
 R x (⟨none,0,0⟩:Sl) false 2 v)
 (g i))))):Cl Pg [(.arr 260),kS,kB,kI] kK ⟨[(.agg a),(ni b)]⟩ w R:=co Tryz.f104 [(2,[])] h
theorem zd.ok (a:(Array Value)) (R:Bool→World→Prop) w (h:
 Nw 149 a w fun c b=>
 bf (fun (o:World)=>
 Ld kI (Addr.add ⟨c,0,none⟩ 258) o fun (p:Int)=>
 0≤p∧
 Ld kI (Addr.add ⟨c,0,none⟩ 257) o fun (q:Int)=>
 aa (decide (q<(i64 ((a8 .i64 (1:Int) p) - 1))))
 (R false o)
 (Ld kI (Addr.add ⟨c,0,none⟩ 257) o fun (r:Int)=>
 aa (decide (r>(i64 ((2:Int)*(i64 ((a8 .i64 (1:Int) p) - 1))))))
 (R false o)
 (Ld kB (Addr.add ⟨c,0,none⟩ 259) o fun (s:Bool)=>
 aa (!s)
 (R true o)
 (Ld (.arr 260) ⟨c,0,none⟩ o fun t=>
 Ld (.arr 256) (Addr.add ⟨c,0,none⟩ 0) o fun u=>
 cK Pg 149 [(0,(.agg u)),(4,(.bool true))] fun v=>
 tX Pg 149 t v fun x=>
 R x o)))) fun d=>
 Ld (.arr 256) (Addr.add ⟨c,0,none⟩ 0) b fun e=>
 Cl Pg [kB] j0 ⟨[(.agg e)]⟩ b fun (g:Bool) f=>
 aa (!g)
 (R false f)
 (Ld kI (Addr.add ⟨c,0,none⟩ 256) f fun (h:Int)=>
 aa (decide (h<0))
 (R false f)
 (Ld kI (Addr.add ⟨c,0,none⟩ 256) f fun (i:Int)=>
 aa (decide (i>65536))
 (R false f)
 (Ld kI (Addr.add ⟨c,0,none⟩ 257) f fun (j:Int)=>
 aa (decide (j<0))
 (R false f)
 (Ld kI (Addr.add ⟨c,0,none⟩ 257) f fun (k:Int)=>
 Ld kI (Addr.add ⟨c,0,none⟩ 256) f fun (l:Int)=>
 aa (decide (k>l))
 (R false f)
 (Ld kI (Addr.add ⟨c,0,none⟩ 258) f fun (m:Int)=>
 aa (decide (m<0))
 (R false f)
 (Ld kI (Addr.add ⟨c,0,none⟩ 258) f fun (n:Int)=>
 aa (decide (n>16))
 (R false f)
 (d f)))))))):Cl Pg [kB] jU ⟨[(.agg a)]⟩ w R:=co Tryz.f157 [(2,[])] h
theorem Aj.ok (a:(Array Value)) (b:Int) (R:(Array Value)→Sl→Bool→World→Prop) w (h:
 Nw 149 a w fun d c=>
 Nw 149 ⟨List.replicate 256 (.int .u8 0)++ [(ni 0),(ni 0),(ni 0),(.bool false)]⟩ c fun f e=>
 bf (fun (h:Bool) (i:World)=>
 aa h
 (Ld kI (Addr.add ⟨d,0,none⟩ 257) i fun (j:Int)=>
 Ld kI (Addr.add ⟨d,0,none⟩ 258) i fun (k:Int)=>
 Cl Pg [kI,kI] iA ⟨[(ni j),(ni k),(ni b)]⟩ i fun (m:Int) (n:Int) l=>
 St (Addr.add ⟨d,0,none⟩ 257) (ni m) l fun o=>
 Ld kI (Addr.add ⟨d,0,none⟩ 258) o fun (p:Int)=>
 St (Addr.add ⟨d,0,none⟩ 258) (ni (i64 (p+1))) o fun q=>
 eB q fun r s=>
 ae (.arr 260) ⟨d,0,none⟩ r fun t=>
 ae kI (Addr.add ⟨d,0,none⟩ 257) r fun (u:Int)=>
 ae kI (Addr.add ⟨d,0,none⟩ 256) r fun (v:Int)=>
 ar 260 ⟨f,0,none⟩ t s fun x=>
 r x∧
 Ld (.arr 260) ⟨f,0,none⟩ x fun y=>
 R y (⟨none,0,0⟩:Sl) (decide (u≤v)) x)
 (aa (b==257)
 (eB i fun z a1=>
 ae (.arr 256) (Addr.add ⟨d,0,none⟩ 0) z fun b1=>
 cK Pg 149 [(0,(.agg b1)),(4,(.bool true))] fun c1=>
 ae (.arr 260) ⟨d,0,none⟩ z fun d1=>
 ae kI (Addr.add ⟨d,0,none⟩ 257) z fun (e1:Int)=>
 ae kI (Addr.add ⟨d,0,none⟩ 256) z fun (f1:Int)=>
 Cl Pg [kS] ja ⟨[(.agg d1)]⟩ a1 fun (h1:Sl) g1=>
 z g1∧
 ar 260 ⟨f,0,none⟩ c1 g1 fun i1=>
 z i1∧
 Ld (.arr 260) ⟨f,0,none⟩ i1 fun j1=>
 R j1 h1 (e1==f1) i1)
 (Ld kI (Addr.add ⟨d,0,none⟩ 257) i fun (k1:Int)=>
 Ld kI (Addr.add ⟨d,0,none⟩ 256) i fun (l1:Int)=>
 aa (k1==l1)
 (Ld (.arr 260) ⟨d,0,none⟩ i fun m1=>
 ar 260 ⟨f,0,none⟩ m1 i fun n1=>
 Ld (.arr 260) ⟨f,0,none⟩ n1 fun o1=>
 R o1 (⟨none,0,0⟩:Sl) false n1)
 (Ld (.arr 256) (Addr.add ⟨d,0,none⟩ 0) i fun p1=>
 Cl Pg [(.arr 256),(az .u8),kB] lh ⟨[(.agg p1),(ni (i64 (b - 1)))]⟩ i fun r1 (s1:Int) (t1:Bool) q1=>
 Nw 108 ⟨List.replicate 256 (.int .u8 0)⟩ q1 fun v1 u1=>
 ar 256 ⟨v1,0,none⟩ r1 u1 fun x1=>
 Ld (.arr 260) ⟨d,0,none⟩ x1 fun y1=>
 Cl Pg [kS] ja ⟨[(.agg y1)]⟩ x1 fun (a2:Sl) z1=>
 Nw 5 ⟨[(.int .u8 s1)]⟩ z1 fun c2 b2=>
 aA Pg (Builtin.append_ #[22,22] 22 ⟨[(al a2),(al (⟨some ⟨c2,0,none⟩,1,1⟩:Sl))]⟩) kS b2 fun (e2:Sl) d2=>
 Ld (.arr 256) ⟨v1,0,none⟩ d2 fun f2=>
 Ld kI (Addr.add ⟨d,0,none⟩ 256) d2 fun (g2:Int)=>
 cK Pg 149 [(0,(.agg f2)),(1,(ni (i64 (g2 - (e2.len:Int)))))] fun h2=>
 ar 260 ⟨f,0,none⟩ h2 d2 fun i2=>
 Ld (.arr 260) ⟨f,0,none⟩ i2 fun j2=>
 R j2 e2 true i2)))) fun g=>
 aa (b==0)
 (g true e)
 (g (b==1) e)):Cl Pg [(.arr 260),kS,kB] kL ⟨[(.agg a),(ni b)]⟩ w R:=co Tryz.f158 [(3,[(10,kB)])] h
theorem Cn.ok (a:(Array Value)) (R:Sl→World→Prop) w (h:
 Nw 149 a w fun c b=>
 aq b fun d=>
 bg (⟨some (Addr.add ⟨c,0,none⟩ 0),256,256⟩:Sl) 0 1 256 1 fun e=>
 Ld kI (Addr.add ⟨c,0,none⟩ 257) d fun (f:Int)=>
 Cl Pg [kS] jJ ⟨[(al e),(ni f)]⟩ d fun (h:Sl) g=>
 R h g):Cl Pg [kS] ja ⟨[(.agg a)]⟩ w R:=co Tryz.f194 [] h
end Go.Proofs.YtcdpblipagajiaaGreat
namespace Go.Proofs.YtcdpblipagajiaaGreat
open Go Go.Vc
set_option maxRecDepth 100000
theorem ru.ok (a:Sl) (R:Sl→World→Prop) w (h:
 aa (Option.isNone (a).base)
 (R (⟨none,0,0⟩:Sl) w)
 (Nw 5 ⟨[]⟩ w fun c b=>
 aA Pg (Builtin.append_ #[22,22] 22 ⟨[(al (⟨some ⟨c,0,none⟩,0,0⟩:Sl)),(al a)]⟩) kS b fun (e:Sl) d=>
 R e d)):Cl Pg [kS] da ⟨[(al a)]⟩ w R:=co Tryz.f57 [] h
theorem tI.ok (a:Sl) (b:Int) (R:Int→World→Prop) w (h:
 Ext Pg cJ ⟨[(al a),(.int .u8 b)]⟩ [kI] w fun (d:Int) c=>
 R d c):Cl Pg [kI] kT ⟨[(al a),(.int .u8 b)]⟩ w R:=co Tryz.f174 [] h
theorem xQ.ok (a:Sl) (b:Int) (R:Sl→World→Prop) w (h:
 aa (b==0)
 (Nw 5 ⟨[]⟩ w fun d c=>
 R (⟨some ⟨d,0,none⟩,0,0⟩:Sl) c)
 (bf (fun (g:World)=>
 Cl Pg [(az .u64),(az .u64)] jb ⟨[(.int .u64 (u64 (a.len:Int))),(.int .u64 (u64 b))]⟩ g fun (i:Int) (j:Int) h=>
 bf (fun (n:World)=>
 aa ((a.len:Int)==0)
 (Nw 5 ⟨[]⟩ n fun p o=>
 R (⟨some ⟨p,0,none⟩,0,0⟩:Sl) o)
 (bf (fun (r:Int) (s:World)=>
 Ext Pg bR ⟨[(ni (i64 j))]⟩ [kS] s fun (u:Sl) t=>
 bg u 0 (i64 j) (i64 j) 1 fun v=>
 aA Pg (Builtin.copy_ #[22,22] 3 ⟨[(al v),(al a)]⟩) kI t fun (y:Int) x=>
 dn y x fun z a1 (b1:Int) c1=>
 aa (decide (b1<(i64 j)))
 (aq c1 fun d1=>
 bg v b1 (v).len (v).cap 1 fun e1=>
 bg v 0 (if r<b1 then r else b1) (v).cap 1 fun f1=>
 aA Pg (Builtin.copy_ #[22,22] 3 ⟨[(al e1),(al f1)]⟩) kI d1 fun (h1:Int) g1=>
 z (i64 (b1+h1)) g1∧a1 (i64 (b1+h1)) g1<a1 b1 c1)
 (R v c1)) fun q=>
 aa (decide ((i64 j)>8192))
 ((a.len:Int)≠0∧
 aa ((i64 ((i64 (Int.tdiv (8192:Int) (a.len:Int)))*(a.len:Int)))==0)
 (q (a.len:Int) n)
 (q (i64 ((i64 (Int.tdiv (8192:Int) (a.len:Int)))*(a.len:Int))) n))
 (q (i64 j) n))) fun k=>
 aa (decide (i>0))
 (False)
 (aa (decide (j>9223372036854775807))
 (False)
 (k h))) fun e=>
 aa (decide (b<0))
 (False)
 (e w))):Cl Pg [kS] jJ ⟨[(al a),(ni b)]⟩ w R:=co Tryz.f207 [(7,[]),(13,[]),(26,[(8,kI)]),(39,[(10,kI)])] h
end Go.Proofs.YtcdpblipagajiaaGreat
namespace Go.Proofs.YtcdpblipagajiaaGreat
open Go Go.Vc
set_option maxRecDepth 100000
theorem wq.ok (a:Int) (b:Int) (R:Int→Int→World→Prop) w (h:
 Cl Pg [(az .u64),(az .u64)] kR ⟨[(.int .u64 a),(.int .u64 b)]⟩ w fun (d:Int) (e:Int) c=>
 R d e c):Cl Pg [(az .u64),(az .u64)] jb ⟨[(.int .u64 a),(.int .u64 b)]⟩ w R:=co Tryz.f216 [] h
theorem sP.ok (a:Int) (b:Int) (R:Int→Int→World→Prop) w (h:
 0≤(32:Int)∧
 0≤(32:Int)∧
 0≤(32:Int)∧
 0≤(32:Int)∧
 0≤(32:Int)∧
 R (u64 ((u64 ((u64 ((aF .u64 a (32:Int))*(aF .u64 b (32:Int))))+(aF .u64 (u64 ((u64 ((aF .u64 a (32:Int))*(bo .u64 b 4294967295)))+(aF .u64 (u64 ((bo .u64 a 4294967295)*(bo .u64 b 4294967295))) (32:Int)))) (32:Int))))+(aF .u64 (u64 ((bo .u64 (u64 ((u64 ((aF .u64 a (32:Int))*(bo .u64 b 4294967295)))+(aF .u64 (u64 ((bo .u64 a 4294967295)*(bo .u64 b 4294967295))) (32:Int)))) 4294967295)+(u64 ((bo .u64 a 4294967295)*(aF .u64 b (32:Int)))))) (32:Int)))) (u64 (a*b)) w):Cl Pg [(az .u64),(az .u64)] kR ⟨[(.int .u64 a),(.int .u64 b)]⟩ w R:=co Tryz.f222 [] h
end Go.Proofs.YtcdpblipagajiaaGreat
set_option maxRecDepth 20000
namespace Go.Vc
open Go
class bJ (b:Nat) (l:List HP) (c:outParam (Array Value)) (t:outParam TypeId) (fr:outParam (Nat×Nat)) (put:outParam (Obj→List HP)):Prop where
 perm: ∃r,l.Perm (aj b (.cells c t fr)::r)∧∀o,(aj b o::r).Perm (put o)
instance bJ.head {b:Nat} {l:List HP} {c:Array Value} {t:TypeId} {fr:Nat×Nat}:bJ b (aj b (.cells c t fr)::l) c t fr (fun o=>aj b o::l):=
 ⟨l,.refl _,fun _=> .refl _⟩
instance bJ.tail {b:Nat} {A:HP} {l:List HP} {c:Array Value} {t:TypeId} {fr:Nat×Nat} {put:Obj→List HP} [h:bJ b l c t fr put]:bJ b (A::l) c t fr (fun o=>A::put o):=
 ⟨by
  obtain ⟨r,h1,h2⟩:=h.perm
  exact ⟨A::r,(h1.cons A).trans (.swap ..),fun o=>(List.Perm.swap ..).trans ((h2 o).cons A)⟩⟩
class vH (n:Nat) (l:List HP) (A:outParam HP) (r:outParam (List HP)):Prop where
 perm:l.Perm (A::r)
instance vH.zero {A:HP} {l:List HP}:vH 0 (A::l) A l:=⟨.refl _⟩
instance vH.succ {n:Nat} {A B:HP} {l r:List HP} [h:vH n l A r]:vH (n+1) (B::l) A (B::r):=⟨(h.perm.cons B).trans (.swap ..)⟩
section
variable {E w:World} {l:List HP} {b i:Nat} {c:Array Value} {t:TypeId} {fr:Nat×Nat} {put:Obj→List HP}
theorem Hp.at {A:HP} {r:List HP} (h:Hp E w l) (n:Nat) [hn:vH n l A r]:Hp E w (A::r):=h.perm hn.perm
theorem Hp.no {A:HP} {r:List HP} (h:Hp E w l) (n:Nat) [hn:vH n l A r]:Hp E w r:=(h.perm hn.perm).drop
theorem ab.at {A:HP} {r:List HP} {φ:World→Prop} (n:Nat) [hn:vH n l A r] (ht:ab (A::r) φ):ab l φ:=ht.perm hn.perm.symm
theorem Hp.fb [hf:bJ b l c t fr put] (h:Hp E w l):w.heap[b]? =some (.cells c t fr):=by
 obtain ⟨r,h1,_⟩:=hf.perm
 exact (h.perm h1).aD
theorem Hp.fc [bJ b l c t fr put] (h:Hp E w l):w.cell? ⟨b,i,none⟩=c[i]? :=by
 simp [World.cell?,h.fb]
def cj (b:Nat) (c:Array Value) (t:TypeId) (fr:Nat×Nat) (w:World):Prop:=w.heap[b]? =some (.cells c t fr)
theorem Hp.hb [bJ b l c t fr put] (h:Hp E w l):cj b c t fr w:=h.fb
theorem cj.cell (h:cj b c t fr w):w.cell? ⟨b,i,none⟩=c[i]? :=by simp [World.cell?,show w.heap[b]? =_ from h]
def Sc.E6:(s:Sc)→Value→Option s.T
 | .int k,.int k' n=>match k==k' with|true=>some n|false=>none
 | .bool,.bool b=>some b
 | .ptr,.pointer p=>some p
 | .sl,.slice b l c=>some ⟨b,l,c⟩
 | .str,.string s=>some s
 | .mp,.map m=>some m
 | .any,v=>some v
 | .addr,.pointer (some p)=>some p
 |_,_=>none
def tN:(l:List Sc)→List Value→Option (TT l)
 | [],_=>some ()
 |s::l,v::vs=>match s.E6 v,tN l vs with
  |some x,some y=>some (x,y)
  |_,_=>none
 |_::_,[]=>none
theorem Sc.E9 {s:Sc} {v:Value} {x:s.T} (h:s.E6 v=some x):v=s.enc x:=by
 cases s<;>cases v<;>simp only [Sc.E6] at h<;>first|cases h;rfl|cases h|skip
 ·rename_i k k' n
  by_cases e:k=k'
  ·subst e;simp at h;subst h;rfl
  ·have:(k==k')=false:=by simpa using e
   rw [this] at h;cases h
 ·rename_i p
  cases p with
  |none=>cases h
  |some p=>simp only [Option.some.injEq] at h;subst h;rfl
theorem vA: ∀{l:List Sc} {vs:List Value} {x:TT l},tN l vs=some x→∃r,vs=fw l x++r
 | [],vs,(),_=>⟨vs,rfl⟩
 |s::l,v::vs,(x,y),h=>by
  simp only [tN] at h
  split at h
  ·rename_i x' y' hx hy
   simp only [Option.some.injEq,Prod.mk.injEq] at h
   obtain ⟨rfl,rfl⟩:=h
   obtain ⟨r,e⟩:=vA hy
   exact ⟨r,by rw [e,Sc.E9 hx];rfl⟩
  ·cases h
 |_::_,[],_,h=>by cases h
class kr (l F:List HP):Prop where
 sub: ∃p,l=p++F
instance kr.refl {F:List HP}:kr F F:=⟨[],rfl⟩
instance kr.cons {A:HP} {l F:List HP} [h:kr l F]:kr (A::l) F:=⟨by obtain ⟨p,e⟩:=h.sub;exact ⟨A::p,by rw [e];rfl⟩⟩
theorem Hp.tl {F:List HP} [h2:kr l F] (h:Hp E w l):Hp E w F:=by
 obtain ⟨p,e⟩:=h2.sub
 subst e;exact h.oZ
theorem iW {α β:Type} {K:α→β→Prop} {a a':α} {w:β} (e:a=a') (h:K a' w):K a w:=e▸h
theorem aa.yes {b:Bool} {X Y:Prop} (k:X) (h:b=true:=by with_reducible first|rfl|exact decide_eq_true (by omega)|exact beq_iff_eq.2 (by omega)|exact bne_iff_ne.2 (by omega)|exact Bool.not_false|exact Bool.not_eq_true' _▸decide_eq_false (by omega)):aa b X Y:=aa.t h k
theorem aa.no {b:Bool} {X Y:Prop} (k:Y) (h:b=false:=by with_reducible first|rfl|exact decide_eq_false (by omega)|exact beq_eq_false_iff_ne.2 (by omega)|exact bne_eq_false_iff_eq.2 (by omega)|exact Bool.not_true|exact Bool.not_eq_false' _▸decide_eq_true (by omega)):aa b X Y:=aa.f h k
theorem aa.dt {p:Prop} [Decidable p] {X Y:Prop} (hp:p) (h:X):aa (decide p) X Y:=aa.t (decide_eq_true hp) h
theorem aa.df {p:Prop} [Decidable p] {X Y:Prop} (hp: ¬p) (h:Y):aa (decide p) X Y:=aa.f (decide_eq_false hp) h
theorem aa.Gd {p:Prop} [Decidable p] {X Y:Prop} (hp:p) (h:Y):aa (!decide p) X Y:=aa.f (by rw [decide_eq_true hp];rfl) h
theorem aa.Gf {p:Prop} [Decidable p] {X Y:Prop} (hp: ¬p) (h:X):aa (!decide p) X Y:=aa.t (by rw [decide_eq_false hp];rfl) h
theorem aa.GA {X Y:Prop} (h:Y):aa (!true) X Y:=h
theorem aa.Kl {X Y:Prop} (h:X):aa (!false) X Y:=h
theorem aa.et {a b:Int} {X Y:Prop} (hp:a=b) (h:X):aa (a==b) X Y:=aa.t (beq_iff_eq.2 hp) h
theorem aa.ef {a b:Int} {X Y:Prop} (hp: ¬a=b) (h:Y):aa (a==b) X Y:=aa.f (beq_eq_false_iff_ne.2 hp) h
theorem aa.nt {a b:Int} {X Y:Prop} (hp: ¬a=b) (h:X):aa (a !=b) X Y:=aa.t (bne_iff_ne.2 hp) h
theorem aa.nf {a b:Int} {X Y:Prop} (hp:a=b) (h:Y):aa (a !=b) X Y:=aa.f (bne_eq_false_iff_eq.2 hp) h
theorem aa.dm {p:Prop} [Decidable p] {X Y:Prop} (h1:p→X) (h2: ¬p→Y):aa (decide p) X Y:=aa.mk (fun h=>h1 (of_decide_eq_true h)) (fun h=>h2 (of_decide_eq_false h))
theorem aa.em {a b:Int} {X Y:Prop} (h1:a=b→X) (h2: ¬a=b→Y):aa (a==b) X Y:=aa.mk (fun h=>h1 (beq_iff_eq.1 h)) (fun h=>h2 (beq_eq_false_iff_ne.1 h))
theorem aa.nm {a b:Int} {X Y:Prop} (h1: ¬a=b→X) (h2:a=b→Y):aa (a !=b) X Y:=aa.mk (fun h=>h1 (bne_iff_ne.1 h)) (fun h=>h2 (bne_eq_false_iff_eq.1 h))
theorem ae.xb {S:World→Prop} {s:Sc} {K:s.T→Prop} {x:s.T} (hS: ∀w,S w→cj b c t fr w) (hx:c.toList[i]? =some (s.enc x)) (hK:K x):ae (.sc s) ⟨b,i,none⟩ S K:=
 ⟨x,fun w hw=>by rw [(hS w hw).cell];rw [←hx];simp,hK⟩
theorem ae.xt {S:World→Prop} {ks:List Sc} {K:TT ks→Prop} {x:TT ks} (hS: ∀w,S w→cj b c t fr w) (hx:tN ks (c.toList.drop i)=some x) (hK:K x):ae (.st ks) ⟨b,i,none⟩ S K:=by
 obtain ⟨r,e⟩:=vA hx
 refine yq x (fun w hw j hj=> ?_) hK
 rw [Nat.zero_add,au,(hS w hw).cell]
 have h1:(c.toList.drop i)[j]? =(fw ks x)[j]? :=by rw [e,List.getElem?_append_left hj]
 rw [List.getElem?_drop,List.getElem?_eq_getElem hj] at h1
 rw [←h1];simp
theorem ae.xa {S:World→Prop} {n:Nat} {mid post:List Value} {K:Array Value→Prop} (hS: ∀w,S w→cj b c t fr w) (hx:c.toList.drop i=mid++post) (hn:mid.length=n) (hK:K ⟨mid⟩):ae (.arr n) ⟨b,i,none⟩ S K:=by
 refine ⟨⟨mid⟩,hn,fun w hw j hj=> ?_,hK⟩
 rw [au,(hS w hw).cell]
 have h1:(c.toList.drop i)[j]? =mid[j]? :=by rw [hx,List.getElem?_append_left (by omega)]
 rw [List.getElem?_drop] at h1
 rw [show c[i+j]? =c.toList[i+j]? by simp,h1]
 simp [show j<mid.length by omega]
theorem Ld.xb {s:Sc} {K:s.T→Prop} {x:s.T} [bJ b l c t fr put] (h:Hp E w l) (hx:c.toList[i]? =some (s.enc x)) (hK:K x):Ld (.sc s) ⟨b,i,none⟩ w K:=ae.xb (fun w' hw=>by rw [hw];exact h.fb) hx hK
theorem Ld.xt {ks:List Sc} {K:TT ks→Prop} {x:TT ks} [bJ b l c t fr put] (h:Hp E w l) (hx:tN ks (c.toList.drop i)=some x) (hK:K x):Ld (.st ks) ⟨b,i,none⟩ w K:=ae.xt (fun w' hw=>by rw [hw];exact h.fb) hx hK
theorem Ld.xa {n:Nat} {mid post:List Value} {K:Array Value→Prop} [bJ b l c t fr put] (h:Hp E w l) (hx:c.toList.drop i=mid++post) (hn:mid.length=n) (hK:K ⟨mid⟩):Ld (.arr n) ⟨b,i,none⟩ w K:=ae.xa (fun w' hw=>by rw [hw];exact h.fb) hx hn hK
theorem Ld.xw {n:Nat} {K:Array Value→Prop} [bJ b l c t fr put] (h:Hp E w l) (hn:c.size=n) (hK:K c):Ld (.arr n) ⟨b,0,none⟩ w K:=
 Ld.xa (mid:=c.toList) (post:= []) h (by simp) (by simpa using hn) (by simpa using hK)
theorem ae.xw {S:World→Prop} {n:Nat} {K:Array Value→Prop} (hS: ∀w,S w→cj b c t fr w) (hn:c.size=n) (hK:K c):ae (.arr n) ⟨b,0,none⟩ S K:=
 ae.xa (mid:=c.toList) (post:= []) hS (by simp) (by simpa using hn) (by simpa using hK)
theorem ak.JP {b:Nat} {t:TypeId} {F:List HP} {K:World→Prop}: ∀(vs:List Value) (i o:Nat) (w:World) (c:Array Value),Hp E w (aj b (.cells c t (0,0))::F)→o+i+vs.length≤c.size→(∀v∈vs,aw v=true)→
  (∀c' w',c'.toList=c.toList.take (o+i)++vs++c.toList.drop (o+i+vs.length)→Hp E w' (aj b (.cells c' t (0,0))::F)→K w')→ak ⟨b,o,none⟩ vs i w K
 | [],i,o,w,c,hh,hi,_,hK=>hK c w (by simp) hh
 |v::vs,i,o,w,c,hh,hi,hv,hK=>by
  have h1:=hv v (by simp)
  simp only [List.length_cons] at hi
  unfold ak
  rw [h1]
  have h2:=hh.setCell (i:=o+i) v
  refine ⟨?_,?_,?_⟩
  ·rw [au,hh.cell];simp;omega
  ·rw [au];simp [World.frozen?,hh.aD]
  ·rw [au]
   refine ak.JP vs (i+1) o _ _ h2 (by simp;omega) (fun x hx=>hv x (List.mem_cons_of_mem _ hx)) fun c' w' e h3=>hK c' w' ?_ h3
   rw [e,Array.toList_setIfInBounds,show o+(i+1)=o+i+1 by omega,List.take_add_one,List.take_set_of_le (by omega)]
   rw [List.getElem?_set_self (by simp;omega)]
   rw [List.drop_set_of_lt (by omega),List.length_cons]
   simp only [Option.toList_some,List.append_assoc,List.cons_append,List.nil_append]
   rw [show o+i+1+vs.length=o+i+(vs.length+1) by omega]
theorem ak.xm {o:Nat} {vs pre mid post:List Value} {K:World→Prop} [hf:bJ b l c t (0,0) put] (h:Hp E w l) (hc:c.toList=pre++(mid++post)) (ho:pre.length=o) (hn:mid.length=vs.length) (hv:vs.all aw=true)
  (hK: ∀w',Hp E w' (put (.cells ⟨pre++(vs++post)⟩ t (0,0)))→K w'):ak ⟨b,o,none⟩ vs 0 w K:=by
 obtain ⟨r,h1,h2⟩:=hf.perm
 have hs:c.size=pre.length+(mid.length+post.length):=by rw [←Array.length_toList,hc];simp
 refine ak.JP vs 0 o w c (h.perm h1) (by omega) (List.all_eq_true.1 hv) fun c' w' e h'=>hK w' ?_
 have:c'=⟨pre++(vs++post)⟩:=by
  apply Array.ext'
  rw [e,hc,Nat.add_zero,←ho,List.take_left,←hn,←List.length_append,←List.append_assoc,List.drop_left,List.append_assoc]
 rw [this] at h'
 exact h'.perm (h2 _)
theorem ak.xw {vs:List Value} {K:World→Prop} [hf:bJ b l c t (0,0) put] (h:Hp E w l) (hn:vs.length=c.size) (hv:vs.all aw=true)
  (hK: ∀w',Hp E w' (put (.cells ⟨vs⟩ t (0,0)))→K w'):ak ⟨b,0,none⟩ vs 0 w K:=
 ak.xm (pre:= []) (mid:=c.toList) (post:= []) h (by simp) rfl (by simpa using hn.symm) hv (by simpa using hK)
theorem St.xb {o:Nat} {v:Value} {K:World→Prop} [hf:bJ b l c t (0,0) put] (h:Hp E w l) (hi:o<c.size) (hv:aw v=true)
  (hK: ∀w',Hp E w' (put (.cells (c.setIfInBounds o v) t (0,0)))→K w'):St ⟨b,o,none⟩ v w K:=by
 obtain ⟨r,h1,h2⟩:=hf.perm
 exact St.mk rfl (h.perm h1) hi hv fun w' h'=>hK w' (h'.perm (h2 _))
theorem St.xm {o:Nat} {v u:Value} {pre post:List Value} {K:World→Prop} [hf:bJ b l c t (0,0) put] (h:Hp E w l) (hc:c.toList=pre++(u::post)) (ho:pre.length=o) (hv:aw v=true)
  (hK: ∀w',Hp E w' (put (.cells ⟨pre++(v::post)⟩ t (0,0)))→K w'):St ⟨b,o,none⟩ v w K:=by
 refine St.xb h ?_ hv fun w' h'=>hK w' ?_
 ·rw [←Array.length_toList,hc];simp;omega
 ·have:c.setIfInBounds o v=⟨pre++(v::post)⟩:=by
   apply Array.ext'
   rw [Array.toList_setIfInBounds,hc,←ho]
   simp
  rwa [this] at h'
def af:List Value→List Value→List Value
 | [],l=>l
 |_::_,[]=> []
 |v::vs,_::l=>v::af vs l
def an:List Value→Nat→List Value→List Value
 |l,0,vs=>af vs l
 |a::l,o+1,vs=>a::an l o vs
 | [],_+1,_=> []
theorem Bn: ∀{l vs:List Value},vs.length≤l.length→af vs l=vs++l.drop vs.length
 |_,[],_=>rfl
 | [],_::_,h=>by simp at h
 |a::l,v::vs,h=>by
  rw [af,Bn (by simpa using h)];rfl
theorem xC: ∀{l:List Value} {o:Nat} {vs:List Value},o+vs.length≤l.length→an l o vs=l.take o++(vs++l.drop (o+vs.length))
 |l,0,vs,h=>by
  have:an l 0 vs=af vs l:=by cases l<;>rfl
  rw [this,Bn (by omega)];simp
 |a::l,o+1,vs,h=>by
  rw [an,xC (by simp at h;omega),show o+1+vs.length=o+vs.length+1 by omega];rfl
 | [],o+1,vs,h=>by simp at h
theorem ak.xs {o:Nat} {vs:List Value} {K:World→Prop} [hf:bJ b l c t (0,0) put] (h:Hp E w l) (hb:Nat.ble (o+vs.length) c.toList.length=true) (hv:vs.all aw=true)
  (hK: ∀w',Hp E w' (put (.cells ⟨an c.toList o vs⟩ t (0,0)))→K w'):ak ⟨b,o,none⟩ vs 0 w K:=by
 have hb:=Nat.le_of_ble_eq_true hb
 rw [xC hb] at hK
 refine ak.xm (mid:=(c.toList.drop o).take vs.length) h ?_ (by simp;simp at hb;omega) (by simp;simp at hb;omega) hv hK
 rw [←List.drop_drop,List.take_append_drop,List.take_append_drop]
theorem St.xs {o:Nat} {v:Value} {K:World→Prop} [hf:bJ b l c t (0,0) put] (h:Hp E w l) (hb:Nat.ble (o+1) c.toList.length=true) (hv:aw v=true)
  (hK: ∀w',Hp E w' (put (.cells ⟨an c.toList o [v]⟩ t (0,0)))→K w'):St ⟨b,o,none⟩ v w K:=by
 have hb:=Nat.le_of_ble_eq_true hb
 have hb2:o<c.toList.length:=by omega
 rw [xC (by simpa using hb)] at hK
 refine St.xm (u:=c.toList[o]'hb2) (pre:=c.toList.take o) (post:=c.toList.drop (o+1)) h ?_ (by simp;simp at hb;omega) hv (by simpa using hK)
 rw [List.getElem_cons_drop,List.take_append_drop]
theorem ar.xm {n o:Nat} {cs:Array Value} {pre mid post:List Value} {K:World→Prop} [hf:bJ b l c t (0,0) put] (h:Hp E w l) (hc:c.toList=pre++(mid++post)) (ho:pre.length=o) (hn:mid.length=n) (hcs:cs.size=n) (hv: ∀v∈cs.toList,aw v=true)
  (hK: ∀w',Hp E w' (put (.cells ⟨pre++(cs.toList++post)⟩ t (0,0)))→K w'):ar n ⟨b,o,none⟩ cs w K:=by
 obtain ⟨r,h1,h2⟩:=hf.perm
 have hh:=h.perm h1
 have hs:c.size=pre.length+(mid.length+post.length):=by rw [←Array.length_toList,hc];simp
 refine ⟨hcs,fun i hi=>⟨?_,?_,?_⟩,?_⟩
 ·have:cs.getD i undef∈cs.toList:=by simp [Array.getD,hcs,hi]
  exact hv _ this
 ·rw [au,hh.cell];simp;omega
 ·rw [au];simp [World.frozen?,hh.aD]
 ·have key: ∀(vs:List Value) (i:Nat) (w:World) (c:Array Value),Hp E w (aj b (.cells c t (0,0))::r)→o+i+vs.length≤c.size→
    Hp E (ar.setRow w ⟨b,o,none⟩ vs i) (aj b (.cells ⟨c.toList.take (o+i)++vs++c.toList.drop (o+i+vs.length)⟩ t (0,0))::r):=by
   intro vs
   induction vs with
   |nil=>intro i w c hh hi;simpa [ar.setRow] using hh
   |cons v vs ih=>
    intro i w c hh hi
    simp only [List.length_cons] at hi
    have h2:=hh.setCell (i:=o+i) v
    have:=ih (i+1) _ _ h2 (by simp;omega)
    unfold ar.setRow
    rw [au]
    rw [Array.toList_setIfInBounds,show o+(i+1)=o+i+1 by omega,List.take_add_one,List.take_set_of_le (by omega),List.getElem?_set_self (by simp;omega),List.drop_set_of_lt (by omega)] at this
    rw [List.length_cons,show o+i+(vs.length+1)=o+i+1+vs.length by omega]
    simpa using this
  have:=key cs.toList 0 w c hh (by rw [Array.length_toList];omega)
  refine hK _ ((this.perm (h2 _)).perm (by
   rw [hc,Nat.add_zero,←ho,List.take_left,show cs.toList.length=mid.length by simp;omega,←List.length_append,←List.append_assoc,List.drop_left,List.append_assoc]))
theorem ar.xw {n:Nat} {cs:Array Value} {K:World→Prop} [hf:bJ b l c t (0,0) put] (h:Hp E w l) (hn:c.size=n) (hcs:cs.size=n) (hv: ∀v∈cs.toList,aw v=true)
  (hK: ∀w',Hp E w' (put (.cells cs t (0,0)))→K w'):ar n ⟨b,0,none⟩ cs w K:=
 ar.xm (pre:= []) (mid:=c.toList) (post:= []) h (by simp) rfl (by simpa using hn) hcs hv (by simpa using hK)
end
end Go.Vc
set_option maxRecDepth 20000
namespace Go.Vc
open Go
section
variable {E w:World} {l:List HP} {b n k o:Nat} {L r:List Value} {t:TypeId} {fr:Nat×Nat} {put:Obj→List HP}
theorem jw (hL:L.length=n):(L++r)[k+n]? =r[k]? :=by
 rw [List.getElem?_append_right (by omega)]
 congr 1;omega
theorem Bt: ∀{L r:List Value} {n k:Nat} {vs:List Value},L.length=n→an (L++r) (k+n) vs=L++an r k vs
 | [],r,n,k,vs,h=>by
  have:n=0:=by simpa using h.symm
  subst this;rfl
 |a::L,r,n,k,vs,h=>by
  obtain ⟨m,rfl⟩: ∃m,n=m+1:=⟨L.length,by simpa using h.symm⟩
  rw [show k+(m+1)=(k+m)+1 by omega,List.cons_append,an,Bt (by simpa using h)]
  rfl
theorem ae.q {S:World→Prop} {s:Sc} {K:s.T→Prop} {x:s.T} (hS: ∀w,S w→cj b ⟨L++r⟩ t fr w) (hL:L.length=n) (ho:o=k+n) (hx:r[k]? =some (s.enc x)) (hK:K x):ae (.sc s) ⟨b,o,none⟩ S K:=by
 subst ho
 exact ae.xb hS ((jw hL).trans hx) hK
theorem Ld.q {s:Sc} {K:s.T→Prop} {x:s.T} [bJ b l ⟨L++r⟩ t fr put] (h:Hp E w l) (hL:L.length=n) (ho:o=k+n) (hx:r[k]? =some (s.enc x)) (hK:K x):Ld (.sc s) ⟨b,o,none⟩ w K:=
 ae.q (fun w' hw=>by rw [hw];exact h.fb) hL ho hx hK
theorem ae.p {S:World→Prop} {K:Array Value→Prop} (hS: ∀w,S w→cj b ⟨L++r⟩ t fr w) (hL:L.length=n) (hK:K ⟨L⟩):ae (.arr n) ⟨b,0,none⟩ S K:=
 ae.xa (mid:=L) (post:=r) hS rfl hL hK
theorem Ld.p {K:Array Value→Prop} [bJ b l ⟨L++r⟩ t fr put] (h:Hp E w l) (hL:L.length=n) (hK:K ⟨L⟩):Ld (.arr n) ⟨b,0,none⟩ w K:=
 ae.p (fun w' hw=>by rw [hw];exact h.fb) hL hK
theorem Ld.qw {m:Nat} {K:Array Value→Prop} [bJ b l ⟨L++r⟩ t fr put] (h:Hp E w l) (hL:L.length=n) (hm:n+r.length=m) (hK:K ⟨L++r⟩):Ld (.arr m) ⟨b,0,none⟩ w K:=
 Ld.xw h (by simp [hL,hm]) hK
theorem ae.qw {S:World→Prop} {m:Nat} {K:Array Value→Prop} (hS: ∀w,S w→cj b ⟨L++r⟩ t fr w) (hL:L.length=n) (hm:n+r.length=m) (hK:K ⟨L++r⟩):ae (.arr m) ⟨b,0,none⟩ S K:=
 ae.xw hS (by simp [hL,hm]) hK
theorem St.q {v:Value} {K:World→Prop} [bJ b l ⟨L++r⟩ t (0,0) put] (h:Hp E w l) (hL:L.length=n) (ho:o=k+n) (hb:Nat.ble (k+1) r.length=true) (hv:aw v=true)
  (hK: ∀w',Hp E w' (put (.cells ⟨L++an r k [v]⟩ t (0,0)))→K w'):St ⟨b,o,none⟩ v w K:=by
 subst ho
 have hb':=Nat.le_of_ble_eq_true hb
 refine St.xs h (Nat.ble_eq_true_of_le (by simp;omega)) hv fun w' h'=>hK w' ?_
 rw [show (⟨L++r⟩:Array Value).toList=L++r from rfl,Bt hL] at h'
 exact h'
theorem ar.q {m:Nat} {cs:Array Value} {c:Array Value} {K:World→Prop} [bJ b l c t (0,0) put] (h:Hp E w l) (hc:c.size=m) (hcs:cs.size=m) (hv:cs.toList.all aw=true)
  (hK: ∀w',Hp E w' (put (.cells cs t (0,0)))→K w'):ar m ⟨b,0,none⟩ cs w K:=ar.xw h hc hcs (List.all_eq_true.1 hv) hK
theorem St.g {v:Value} {K:World→Prop} [bJ b l ⟨L++r⟩ t (0,0) put] (h:Hp E w l) (ho:o<L.length) (hv:aw v=true)
  (hK: ∀w',Hp E w' (put (.cells ⟨L.set o v++r⟩ t (0,0)))→K w'):St ⟨b,o,none⟩ v w K:=by
 refine St.xb h (by simp;omega) hv fun w' h'=>hK w' ?_
 have:(⟨L++r⟩:Array Value).setIfInBounds o v=⟨L.set o v++r⟩:=by
  apply Array.ext'
  rw [Array.toList_setIfInBounds,List.set_append_left _ _ ho]
 rwa [this] at h'
theorem Ld.g {s:Sc} {K:s.T→Prop} {x:s.T} [bJ b l ⟨L++r⟩ t fr put] (h:Hp E w l) (hx:L[o]? =some (s.enc x)) (hK:K x):Ld (.sc s) ⟨b,o,none⟩ w K:=by
 refine Ld.xb h ?_ hK
 have:o<L.length:=by
  rcases Nat.lt_or_ge o L.length with h|h
  ·exact h
  ·rw [List.getElem?_eq_none h] at hx;cases hx
 rw [show (⟨L++r⟩:Array Value).toList=L++r from rfl,List.getElem?_append_left this,hx]
end
end Go.Vc
set_option maxRecDepth 20000
namespace Go.Vc
open Go
section
variable {P:Program} {E w:World} {l:List HP} {b o:Nat} {c:Array Value} {t:TypeId} {fr:Nat×Nat} {put:Obj→List HP}
theorem Hp.HO {F:List HP} {cs:Array Value} {fr:Nat×Nat} (h:Hp E w (aj b (.cells c t fr)::F)):Hp E (w.setRow b cs) (aj b (.cells cs t fr)::F):=by
 have hb:=h.aD
 refine h.setObj (o':= .cells cs t fr) ?_ rfl rfl rfl
 apply Array.ext_getElem?
 intro r
 have hlt:b<w.heap.size:=by
  rcases Nat.lt_or_ge b w.heap.size with hh|hh
  ·exact hh
  ·simp [Array.getElem?_eq_none hh] at hb
 simp only [World.setRow,Array.getElem?_modify,Array.set!_eq_setIfInBounds,Array.getElem?_setIfInBounds]
 by_cases hr:b=r
 ·subst hr
  have hv:w.heap[b]= .cells c t fr:=by simpa [hlt] using hb
  simp [hlt,hv]
 ·simp [hr]
theorem qe {dT sT ty e:TypeId} {dLen dCap:Nat} {s:Sl} {ys:List Value} {K:Int→World→Prop} [hf:bJ b l c t (0,0) put] (hu:P.underlying dT=some (.slice e)) (hs:(P.info? e).map (·.size)=some 1)
  (h:Hp E w l) (hsrc:aC 1 s ys w) (hsc: ∀v∈ys,aw v=true) (hfit:o+dLen≤c.size)
  (hK: ∀w',Hp E w' (put (.cells ⟨c.toList.take o++(ys.take dLen++c.toList.drop (o+min ys.length dLen))⟩ t (0,0)))→K ((min ys.length dLen:Nat):Int) w'):
  aA P (Builtin.copy_ #[dT,sT] ty ⟨[.slice (some ⟨b,o,none⟩) dLen dCap,.slice s.base s.len s.cap]⟩) kI w K:=by
 have hl:=hsrc.1
 rw [Nat.mul_one] at hl
 obtain ⟨r,h1,h2⟩:=hf.perm
 have hh:=h.perm h1
 unfold aA
 by_cases h0:min ys.length dLen=0
 ·rw [show (⟨[.slice (some ⟨b,o,none⟩) dLen dCap,.slice s.base s.len s.cap]⟩:Array Value)= #[.slice (some ⟨b,o,none⟩) dLen dCap,.slice s.base s.len s.cap] from rfl,run_copy_none (P:=P) w dT sT ty e _ _ _ _ _ _ hu hs (by rw [←hl];exact h0)]
  have hk:=hK w
  rw [h0] at hk
  have e1:ys.take dLen= []:=by
   rcases Nat.eq_zero_or_pos dLen with hd|hd
   ·rw [hd];rfl
   ·have:ys= []:=List.length_eq_zero_iff.1 (by omega)
    rw [this];simp
  rw [e1,List.nil_append,Nat.add_zero,List.take_append_drop] at hk
  exact hk (hh.perm (by have:=h2 (.cells c t (0,0));simpa using this))
 ·have hpos:0<ys.length:=by omega
  obtain ⟨p,hp,_⟩:=hsrc.2 0 hpos
  rw [hp]
  have hmin:(ys.take dLen).length=Nat.min s.len dLen:=by
   rw [List.length_take,←hl,Nat.min_comm]
  have:=run_copy_row (P:=P) w dT sT ty e b o dLen dCap p s.len s.cap c t (ys.take dLen) hu hs hh.aD hmin (fun j v hv=> ?_) (by
   rw [List.length_take];omega) (fun v hv=>lg (hsc v (List.mem_of_mem_take hv)))
  ·rw [show (⟨[.slice (some ⟨b,o,none⟩) dLen dCap,.slice (some p) s.len s.cap]⟩:Array Value)= #[.slice (some ⟨b,o,none⟩) dLen dCap,.slice (some p) s.len s.cap] from rfl,this]
   have hlen:(ys.take dLen).length=min ys.length dLen:=by rw [List.length_take,Nat.min_comm]
   rw [hlen,List.append_assoc]
   exact hK _ ((hh.HO).perm (h2 _))
  ·have hj:j<(ys.take dLen).length:=by
    rcases Nat.lt_or_ge j (ys.take dLen).length with h|h
    ·exact h
    ·rw [List.getElem?_eq_none h] at hv;cases hv
   rw [List.length_take] at hj
   obtain ⟨p',hp',hc⟩:=hsrc.2 j (by omega)
   rw [hp] at hp'
   cases hp'
   rw [hc]
   rw [List.getElem?_take_of_lt (by omega),List.getElem?_eq_getElem (by omega)] at hv
   exact hv
end
end Go.Vc
namespace Go.Vc
open Go
section
variable {E w:World} {l:List HP} {b:Nat} {c:Array Value} {t:TypeId} {fr:Nat×Nat} {put:Obj→List HP}
theorem Hp.Kk {n m:Nat} {xs:List Value} [bJ b l c t fr put] (h:Hp E w l) (hl:xs.length=n) (hx: ∀i (hi:i<xs.length),c[i]? =some xs[i]):aC 1 ⟨some ⟨b,0,none⟩,n,m⟩ xs w:=
 ⟨by simpa using hl,fun i hi=>⟨_,rfl,by rw [au,h.fc,Nat.zero_add];exact hx i hi⟩⟩
end
end Go.Vc
namespace Go.Proofs.YtcdpblipagajiaaGreat
open Go Go.Vc
section
variable {E w:World} {F:List HP}
theorem IG {n:Nat} {K:Int→Int→World→Prop} (hn:n≤4294967295) (hK:K 0 (n:Int) w):Cl Tryz.prog [az .u64,az .u64] jb ⟨[.int .u64 1,.int .u64 (n:Int)]⟩ w K:=by
 refine wq.ok _ _ _ _ ?_
 refine sP.ok _ _ _ _ ?_
 refine ⟨by decide,by decide,by decide,by decide,by decide,?_⟩
 have hmx:IntKind.max .u64=18446744073709551615:=rfl
 have e1:aF .u64 1 32=0:=by decide
 have e2:aF .u64 (n:Int) 32=0:=by
  have:=bO (k:= .u64) (a:=n) (b:=32) (by decide)
  rw [Nat.div_eq_of_lt (by omega)] at this
  simpa using this
 have e3:bo .u64 1 4294967295=1:=by decide
 have e4:bo .u64 (n:Int) 4294967295=(n:Int):=by
  have:=ew (k:= .u64) (a:=n) (b:=4294967295) (by rw [hmx];omega) (by rw [hmx];omega)
  rw [show n&&&4294967295=n % 2^32 from Nat.and_two_pow_sub_one_eq_mod n 32,Nat.mod_eq_of_lt (by omega)] at this
  simpa using this
 have e5:u64 (n:Int)=(n:Int):=lQ (by omega)
 have e6:u64 0=0:=by decide
 have e7:aF .u64 0 32=0:=by decide
 have e8:bo .u64 0 4294967295=0:=by decide
 simp only [e1,e2,e3,e4,Int.zero_mul,Int.one_mul,Int.mul_zero,e5,e6,Int.add_zero,e7,e8]
 exact hK
set_option maxRecDepth 20000
theorem BL:Tryz.prog.underlying 22=some (.slice 5):=by kernel_rfl
theorem JR:(Tryz.prog.info? 5).map (·.size)=some 1:=by kernel_rfl
theorem EO {n:Nat} {K:Sl→World→Prop} (h:Hp E w F) (hn:n≤65536) (hK: ∀b cs w',n≤cs.size→Hp E w' (aj b (.cells cs 5 (0,0))::F)→K ⟨some ⟨b,0,none⟩,n,cs.size⟩ w'):
  Ext Tryz.prog bR ⟨[.int .i64 (n:Int)]⟩ [kS] w K:=by
 obtain ⟨cs,hrun,hcs,_⟩:=Go.Lib.run_makeNoZero (P:=Tryz.prog) w #[3] 22 5 BL n (by omega)
 have hx:(callFunc bR #[.int .i64 (n:Int)]).run Tryz.prog w= .ok (.value (.slice (some ⟨w.heap.size,0,none⟩) n cs.size)) (w.drew.drew.alloc (.cells cs 5)):=by
  rw [run_callFunc_extern Tryz.func217 (by kernel_rfl) (by kernel_rfl) (by kernel_rfl) (e:=Extern.BytealgMakeNoZero.makeNoZero #[3] #[22]) (by kernel_rfl),hrun];rfl
 unfold Ext
 rw [show (⟨[.int .i64 (n:Int)]⟩:Array Value)= #[.int .i64 (n:Int)] from rfl,hx]
 have h2:Hp E w.drew.drew F:=h.same rfl rfl rfl rfl
 exact hK _ _ _ hcs (h2.alloc _)
set_option maxRecDepth 20000
theorem Ey {s:Sl} {c n:Nat} {K:Sl→World→Prop} (h:Hp E w F) (hs:ab F (aC 1 s [.int .u8 (c:Int)])) (hn:n≤65536) (hK: ∀s' w',Hp E w' (ah 1 s' ((List.replicate n c).map vB)::F)→K s' w'):
  Cl Tryz.prog [kS] jJ ⟨[.slice s.base s.len s.cap,.int .i64 (n:Int)]⟩ w K:=by
 refine xQ.ok _ _ _ _ ?_
 have hl1:s.len=1:=by have:=(h.ag hs).1;simpa using this.symm
 obtain ⟨sb,sl,sc⟩:=s
 dsimp only at hl1⊢
 subst hl1
 (try simp only [aH,ay,au,Nat.zero_add,Nat.add_zero,Nat.reduceAdd,Bool.not_true,Bool.not_false,aZ,aY,Option.isNone])
 by_cases h0:n=0
 ·subst h0
  refine aa.et (by omega) ?_
  refine Nw.mk h fun b w h=> ?_
  exact hK _ _ (h.fC (n:=0) (sz:=1) rfl)
 refine aa.ef (by omega) (aa.df (by omega) ?_)
 rw [lQ (x:=((1:Nat):Int)) (by omega),lQ (x:=(n:Int)) (by omega)]
 refine IG (by omega) ?_
 refine aa.df (by omega) (aa.df (by omega) ?_)
 refine aa.ef (by omega) ?_
 rw [ad (x:=(n:Int)) (by omega)]
 have main: ∀mx:Int,1≤mx→Ext Tryz.prog bR ⟨[.int .i64 (n:Int)]⟩ [kS] w fun r21 w_20=>
   bg r21 0 (n:Int) (n:Int) 1 fun s22=>
   aA Tryz.prog (Builtin.copy_ #[22,22] 3 ⟨[(.slice s22.base s22.len s22.cap),(.slice sb (1:Nat) sc)]⟩) kI w_20 fun (n24:Int) w_23=>
   ∃(I_25:Int→World→Prop) (m_26:Int→World→Nat),I_25 (n24) w_23∧
   ∀(bp27:Int),∀(w_28:World),I_25 bp27 w_28→
   aa (decide (bp27<(n:Int)))
   (aq w_28 fun w_29=>
   bg s22 bp27 (s22).len (s22).cap 1 fun s30=>
   bg s22 0 (if mx<bp27 then mx else bp27) (s22).cap 1 fun s31=>
   aA Tryz.prog (Builtin.copy_ #[22,22] 3 ⟨[(.slice s30.base s30.len s30.cap),(.slice s31.base s31.len s31.cap)]⟩) kI w_29 fun (n33:Int) w_32=>
   I_25 ((i64 (bp27+n33))) w_32∧m_26 ((i64 (bp27+n33))) w_32<m_26 bp27 w_28)
   (K (s22) w_28):=by
  intro mx hmx
  refine EO h hn fun b cs w hcs h=> ?_
  refine ⟨by omega,by omega,by omega,by simp only;omega,?_⟩
  simp only [Int.toNat_natCast,Int.toNat_zero,Nat.sub_zero,if_neg h0,Option.map_some,Nat.zero_mul,au,Nat.zero_add]
  have hs1:=h.ag hs.cons
  refine qe (s:=⟨sb,1,sc⟩) (ys:= [.int .u8 (c:Int)]) BL JR h hs1 (by simp [aw]) (by omega) fun w h=> ?_
  have e0:(⟨cs.toList.take 0++(([.int .u8 (c:Int)]:List Value).take n++cs.toList.drop (0+min ([.int .u8 (c:Int)]:List Value).length n))⟩:Array Value)=⟨(List.replicate 1 c).map vB++cs.toList.drop 1⟩:=by
   rw [List.take_zero,List.nil_append,List.take_of_length_le (by simp;omega),show min ([.int .u8 (c:Int)]:List Value).length n=1 by simp;omega,Nat.zero_add]
   rfl
  rw [e0] at h
  rw [show ((min ([.int .u8 (c:Int)]:List Value).length n:Nat):Int)=((1:Nat):Int) by congr 1;simp;omega]
  refine ⟨fun bp w'=> ∃k:Nat,bp=(k:Int)∧1≤k∧k≤n∧Hp E w' (aj b (.cells ⟨(List.replicate k c).map vB++cs.toList.drop k⟩ 5 (0,0))::F),fun bp _=>n - bp.toNat,⟨1,rfl,by omega,by omega,h⟩,?_⟩
  rintro bp w ⟨k,rfl,hk1,hkn,h⟩
  have hsz:(⟨(List.replicate k c).map vB++cs.toList.drop k⟩:Array Value).size=cs.size:=by simp;omega
  (first|refine aa.dm (fun hb=> ?_) (fun hb=> ?_)|refine aa.em (fun hb=> ?_) (fun hb=> ?_)|refine aa.nm (fun hb=> ?_) (fun hb=> ?_)|refine aa.mk (fun hb=> ?_) (fun hb=> ?_))
  ·obtain ⟨q,hq,hq1,hqk⟩: ∃q:Nat,(if mx<(k:Int) then mx else (k:Int))=(q:Int)∧1≤q∧q≤k:=by
    by_cases hm:mx<(k:Int)
    ·rw [if_pos hm];exact ⟨mx.toNat,by omega,by omega,by omega⟩
    ·rw [if_neg hm];exact ⟨k,rfl,hk1,Nat.le_refl _⟩
   rw [hq]
   refine aq.mk h fun w h=> ?_
   dsimp only
   refine ⟨by omega,by omega,by omega,by dsimp only;omega,?_⟩
   rw [if_neg (by omega)]
   simp only [Int.toNat_natCast,Option.map_some,au,Nat.zero_add,Nat.mul_one]
   refine ⟨by omega,by omega,by omega,by dsimp only;omega,?_⟩
   rw [if_neg (by simp only [Int.toNat_natCast,Int.toNat_zero];omega)]
   simp only [Int.toNat_natCast,Int.toNat_zero,Nat.sub_zero,Option.map_some,au,Nat.zero_add,Nat.zero_mul]
   have hsrc:aC 1 ⟨some ⟨b,0,none⟩,q,n⟩ ((List.replicate q c).map vB) w:=h.Kk (by simp) (fun i hi=>by
    simp at hi
    simp [List.getElem?_append,show i<k by omega])
   refine qe (ys:=(List.replicate q c).map vB) BL JR h hsrc ek (by rw [hsz];omega) fun w h=> ?_
   have hlen:((List.replicate q c).map vB).length=q:=by simp
   rw [hlen] at h⊢
   have e1:(⟨(⟨(List.replicate k c).map vB++cs.toList.drop k⟩:Array Value).toList.take k++(((List.replicate q c).map vB).take (n - k)++(⟨(List.replicate k c).map vB++cs.toList.drop k⟩:Array Value).toList.drop (k+min q (n - k)))⟩:Array Value)
     =⟨(List.replicate (k+min q (n - k)) c).map vB++cs.toList.drop (k+min q (n - k))⟩:=by
    dsimp only
    rw [List.take_left' (by simp),←List.map_take,List.take_replicate,List.drop_append,List.drop_of_length_le (by simp),List.nil_append,List.drop_drop,←List.append_assoc,←List.map_append,List.replicate_append_replicate]
    simp only [List.length_map,List.length_replicate]
    rw [show k+(k+min q (n - k) - k)=k+min q (n - k) by omega,Nat.min_comm (n - k) q]
   rw [e1] at h
   rw [ad (by omega)]
   refine ⟨⟨k+min q (n - k),by omega,by omega,by omega,h⟩,by omega⟩
  ·have hk:k=n:=by omega
   subst hk
   refine hK _ _ (h.iT (by simp) rfl (by simp) (by simp<;>omega) fun i hi=> ?_)
   simp at hi
   simp [List.getElem?_append,hi]
 by_cases hbig:(n:Int)>8192
 ·refine aa.dt hbig ⟨by omega,?_⟩
  refine aa.ef (by decide) ?_
  exact main _ (by decide)
 ·exact aa.df hbig (main _ (by omega))
end
end Go.Proofs.YtcdpblipagajiaaGreat
namespace Go.Proofs.YtcdpblipagajiaaGreat
open Go Go.Vc
set_option maxRecDepth 100000
theorem He.ok (a:(Array Value)) (b:Int) (R:(Array Value)→Int→World→Prop) w (h:
 Nw 108 a w fun d c=>
 Nw 108 ⟨List.replicate 256 (.int .u8 0)⟩ c fun f e=>
 bg (⟨some ⟨d,0,none⟩,256,256⟩:Sl) 0 256 256 1 fun g=>
 Cl Pg [kI] kT ⟨[(al g),(.int .u8 b)]⟩ e fun (i:Int) h=>
 Ld (.arr 256) ⟨d,0,none⟩ h fun j=>
 Cl Pg [(.arr 256),(az .u8),kB] lh ⟨[(.agg j),(ni i)]⟩ h fun l (m:Int) (n:Bool) k=>
 ar 256 ⟨f,0,none⟩ l k fun o=>
 Ld (.arr 256) ⟨f,0,none⟩ o fun p=>
 ar 256 ⟨f,0,none⟩ p o fun q=>
 Ld (.arr 256) ⟨f,0,none⟩ q fun r=>
 R r i q):Cl Pg [(.arr 256),kI] qk ⟨[(.agg a),(.int .u8 b)]⟩ w R:=co Tryz.f134 [] h
theorem GK.ok (R:(Array Value)→World→Prop) w (h:
 Nw 108 ⟨List.replicate 256 (.int .u8 0)⟩ w fun b a=>
 dn 0 a fun c d (e:Int) f=>
 aa (decide (e<256))
 (aB ⟨b,0,none⟩ 256 e 1 fun g=>
 St g (.int .u8 (u8 e)) f fun h=>
 c (i64 (e+1)) h∧d (i64 (e+1)) h<d e f)
 (Ld (.arr 256) ⟨b,0,none⟩ f fun i=>
 ar 256 ⟨b,0,none⟩ i f fun j=>
 Ld (.arr 256) ⟨b,0,none⟩ j fun k=>
 R k j)):Cl Pg [(.arr 256)] mW ⟨[]⟩ w R:=co Tryz.f136 [(5,[(2,kI)])] h
theorem Df.ok (a:(Array Value)) (R:Bool→World→Prop) w (h:
 Nw 108 a w fun c b=>
 Nw 171 ⟨List.replicate 256 (ni 0)⟩ b fun e d=>
 Ld (.arr 256) ⟨c,0,none⟩ d fun f=>
 dn 0 d fun g h (i:Int) j=>
 aa (decide (i<256))
 (ez (.int .u8) f 256 i fun (k:Int)=>
 aB ⟨e,0,none⟩ 256 k 1 fun l=>
 St l (ni 1) j fun m=>
 g (i64 (i+1)) m∧h (i64 (i+1)) m<h i j)
 (eB j fun n o=>
 ae (.arr 256) ⟨e,0,none⟩ n fun p=>
 Cl Pg [(.arr 256)] oY ⟨[]⟩ o fun r q=>
 n q∧
 tE .i64 256 p r fun s=>
 R s q)):Cl Pg [kB] j0 ⟨[(.agg a)]⟩ w R:=co Tryz.f173 [(7,[(7,kI)])] h
theorem Fs.ok (a:(Array Value)) (b:Int) (R:(Array Value)→Int→Bool→World→Prop) w (h:
 Nw 108 a w fun d c=>
 Nw 108 ⟨List.replicate 256 (.int .u8 0)⟩ c fun f e=>
 aa (decide (b<0))
 (Ld (.arr 256) ⟨d,0,none⟩ e fun g=>
 ar 256 ⟨f,0,none⟩ g e fun h=>
 Ld (.arr 256) ⟨f,0,none⟩ h fun i=>
 R i 0 false h)
 (aa (decide (b≥256))
 (Ld (.arr 256) ⟨d,0,none⟩ e fun j=>
 ar 256 ⟨f,0,none⟩ j e fun k=>
 Ld (.arr 256) ⟨f,0,none⟩ k fun l=>
 R l 0 false k)
 (aq e fun m=>
 Ld (.arr 256) ⟨d,0,none⟩ m fun n=>
 aB ⟨d,0,none⟩ 256 b 1 fun o=>
 Ld (az .u8) o m fun (p:Int)=>
 ar 256 ⟨f,0,none⟩ n m fun q=>
 aq q fun r=>
 bg (⟨some ⟨f,0,none⟩,256,256⟩:Sl) 1 (i64 (b+1)) 256 1 fun s=>
 bg (⟨some ⟨d,0,none⟩,256,256⟩:Sl) 0 b 256 1 fun t=>
 aA Pg (Builtin.copy_ #[22,22] 3 ⟨[(al s),(al t)]⟩) kI r fun (v:Int) u=>
 aB ⟨f,0,none⟩ 256 0 1 fun x=>
 St x (.int .u8 p) u fun y=>
 Ld (.arr 256) ⟨f,0,none⟩ y fun z=>
 ar 256 ⟨f,0,none⟩ z y fun a1=>
 Ld (.arr 256) ⟨f,0,none⟩ a1 fun b1=>
 R b1 p true a1))):Cl Pg [(.arr 256),(az .u8),kB] lh ⟨[(.agg a),(ni b)]⟩ w R:=co Tryz.f175 [] h
theorem ES.ok (R:(Array Value)→World→Prop) w (h:
 Nw 171 ⟨List.replicate 256 (ni 0)⟩ w fun b a=>
 dn 0 a fun c d (e:Int) f=>
 aa (decide (e<256))
 (aB ⟨b,0,none⟩ 256 e 1 fun g=>
 St g (ni 1) f fun h=>
 c (i64 (e+1)) h∧d (i64 (e+1)) h<d e f)
 (Ld (.arr 256) ⟨b,0,none⟩ f fun i=>
 ar 256 ⟨b,0,none⟩ i f fun j=>
 Ld (.arr 256) ⟨b,0,none⟩ j fun k=>
 R k j)):Cl Pg [(.arr 256)] oY ⟨[]⟩ w R:=co Tryz.f198 [(5,[(2,kI)])] h
end Go.Proofs.YtcdpblipagajiaaGreat
namespace Go.Proofs.YtcdpblipagajiaaGreat
open Go Go.Vc
set_option maxRecDepth 100000
theorem uN.ok (a:Int) (R:Sl→Int→World→Prop) w (h:
 Nw 33 ⟨[(.slice none 0 0)]⟩ w fun c b=>
 aa (decide (a<0))
 (St ⟨c,0,none⟩ (.slice none 0 0) b fun d=>
 Ld kS ⟨c,0,none⟩ d fun (e:Sl)=>
 R e 2 d)
 (aa (decide (a>2147483647))
 (St ⟨c,0,none⟩ (.slice none 0 0) b fun f=>
 Ld kS ⟨c,0,none⟩ f fun (g:Sl)=>
 R g 2 f)
 (Cl Pg [kV] oa ⟨[(ni a)]⟩ b fun i h=>
 fB Pg i [kI] h (fun (j:Nat) (k:Nat→Obj) (o:Int) (l:World) (m n:World→Prop)=>
 sK j k l fun p=>
 Ld kS ⟨c,0,none⟩ p fun (q:Sl)=>
 Nw 3 ⟨[(ni o)]⟩ p fun s r=>
 aA Pg (Builtin.append_ #[33,33] 33 ⟨[(al q),(al (⟨some ⟨s,0,none⟩,1,1⟩:Sl))]⟩) kS r fun (u:Sl) t=>
 St ⟨c,0,none⟩ (al u) t fun v=>
 oX j k v m)
 (fun x y=>
 Ld kS ⟨c,0,none⟩ y fun (z:Sl)=>
 St ⟨c,0,none⟩ (al z) y fun a1=>
 kx (x:: []:List Nat) a1 fun b1=>
 Ld kS ⟨c,0,none⟩ b1 fun (c1:Sl)=>
 R c1 0 b1)
 (fun d1 e1=>
 kx (d1:: []:List Nat) e1 fun f1=>
 Ld kS ⟨c,0,none⟩ f1 fun (g1:Sl)=>
 R g1 0 f1)))):Cl Pg [kS,kI] fe ⟨[(ni a)]⟩ w R:=By Tryz.f135 (.s .o (.s (.s .o (.c (.s .o .o) .o)) (.s (.s .o (.b (.r [kI] .o (.b .o)))) (.s .o .o)))) h
theorem zH.ok (a:Int) (R:Value→World→Prop) w (h:
 Nw 3 ⟨[(ni a)]⟩ w fun c b=>
 R (.func (.func 200) ⟨[]⟩ ⟨[(.pointer (some ⟨c,0,none⟩))]⟩) b):Cl Pg [kV] oa ⟨[(ni a)]⟩ w R:=co Tryz.f176 [] h
theorem zU.ok (a:Int) (b:Int) (c:Int) (R:Int→Int→World→Prop) w (h:
 bf (fun (e:World)=>
 0≤b∧
 aa (decide ((i64 (a+(a8 .i64 (i64 ((1:Int)+c)) b)))>2147483647))
 (R 0 2 e)
 (R (i64 (a+(a8 .i64 (i64 ((1:Int)+c)) b))) 0 e)) fun d=>
 aa (decide (a<0))
 (R 0 2 w)
 (aa (decide (a>2147483647))
 (R 0 2 w)
 (aa (decide (b<0))
 (R 0 2 w)
 (aa (decide (b>30))
 (R 0 2 w)
 (aa (c !=0)
 (aa (c !=1)
 (R 0 2 w)
 (d w))
 (d w)))))):Cl Pg [kI,kI] iA ⟨[(ni a),(ni b),(ni c)]⟩ w R:=co Tryz.f193 [(2,[])] h
theorem uU.ok (a:Value) (b:Addr) (R:World→Prop) w (h:
 ∃(c:World→Prop) (d:World→Nat),c w∧
 ∀(e:World),c e→
 Ld kI b e fun (f:Int)=>
 aa (decide (f>0))
 (Ld kI b e fun (g:Int)=>
 kp Pg a [kB] [(ni (bo .i64 (i64 (g - 1)) 1))] e fun (i:Bool) h=>
 aa (!i)
 (R h)
 (Ld kI b h fun (j:Int)=>
 0≤(1:Int)∧
 St b (ni (aF .i64 (i64 (j - 1)) (1:Int))) h fun k=>
 ([]:List Nat)=([]:List Nat)∧c k∧d k<d e))
 (R e)):Cl Pg [] lW ⟨[a,(.pointer (some b))]⟩ w R:=By Tryz.f200 (.b (.l [] (.s (.s .o (.c .o .o)) (.s (.b (.s .o (.c .o .o))) .o)))) h
end Go.Proofs.YtcdpblipagajiaaGreat
set_option maxRecDepth 20000
namespace Go.Rk
section
variable {α:Type} {lt:α→α→Bool}
structure SO (lt:α→α→Bool):Prop where
 irr: ∀a,lt a a=false
 trans: ∀a b c,lt a b=true→lt b c=true→lt a c=true
 ntrans: ∀a b c,lt a b=false→lt b c=false→lt a c=false
theorem SO.asym (h:SO lt) {a b:α} (hab:lt a b=true):lt b a=false:=by
 cases hb:lt b a with
 |false=>rfl
 |true=>have:=h.trans _ _ _ hab hb;rw [h.irr] at this;cases this
theorem vg {p q:α→Bool}: ∀{l:List α},(∀z∈l,p z=true→q z=true)→(∃x,x∈l∧q x=true∧p x=false)→l.countP p<l.countP q
 | [],_,⟨x,hx,_⟩=>by cases hx
 |a::l,h,⟨x,hx,hq,hp⟩=>by
  have hle:l.countP p≤l.countP q:=List.countP_mono_left fun z hz=>h z (List.mem_cons_of_mem _ hz)
  rw [List.countP_cons,List.countP_cons]
  rcases List.mem_cons.1 hx with rfl|hx
  ·rw [hq,hp];simp;omega
  ·have ih:=vg (fun z hz=>h z (List.mem_cons_of_mem _ hz)) ⟨x,hx,hq,hp⟩
   cases hpa:p a with
   |false=>simp;split<;>omega
   |true=>rw [h a (by simp) hpa];simp;omega
theorem jN (h:SO lt): ∀{S:List α},S.Pairwise (fun a b=>lt a b=true)→∀(j:Nat) (hj:j<S.length),S.countP (fun x=>lt x S[j])=j
 | [],_,j,hj=>by simp at hj
 |a::S,hp,0,_=>by
  rw [List.pairwise_cons] at hp
  rw [List.countP_cons,List.getElem_cons_zero,h.irr,List.countP_eq_zero.2 fun x hx=>by rw [h.asym (hp.1 x hx)];decide]
  rfl
 |a::S,hp,j+1,hj=>by
  rw [List.pairwise_cons] at hp
  have hj':j<S.length:=by simpa using hj
  rw [List.countP_cons,List.getElem_cons_succ,jN h hp.2 j hj',hp.1 _ (List.getElem_mem hj')]
  rfl
theorem qO (h:SO lt) {S:List α} (hp:S.Pairwise (fun a b=>lt a b=true)) {x:α} (hx:x∈S): ∃hj:S.countP (fun y=>lt y x)<S.length,S[S.countP (fun y=>lt y x)]=x:=by
 obtain ⟨j,hj,rfl⟩:=List.getElem_of_mem hx
 have:=jN h hp j hj
 exact ⟨by omega,by simp only [this]⟩
theorem mI (h:SO lt) {S T:List α} (hpm:S.Perm T) (hS:S.Pairwise (fun a b=>lt a b=true)) (hT:T.Pairwise (fun a b=>lt a b=true)):S=T:=by
 apply List.ext_getElem hpm.length_eq
 intro r h1 h3
 have hr:=jN h hS r h1
 rw [hpm.countP_eq] at hr
 obtain ⟨h4,h5⟩:=qO h hT (hpm.mem_iff.1 (List.getElem_mem h1))
 rw [←h5]
 simp only [hr]
def rk (lt:α→α→Bool) (dom:List α) (x:α):Nat:=dom.countP fun y=>lt y x
theorem wN (h:SO lt) {dom:List α} {x y:α} (hx:x∈dom) (hl:lt x y=true):rk lt dom x<rk lt dom y:=
 vg (fun _ _ hz=>h.trans _ _ _ hz hl) ⟨x,hx,hl,h.irr x⟩
def tO (lt:α→α→Bool) (dom:List α):Prop:= ∀x∈dom,∀y∈dom,x≠y→lt x y=true∨lt y x=true
theorem HX (h:SO lt) {dom:List α} (ht:tO lt dom) {x y:α} (hx:x∈dom) (hy:y∈dom):rk lt dom x<rk lt dom y↔lt x y=true:=by
 constructor
 ·intro hlt
  by_cases e:x=y
  ·subst e;omega
  ·rcases ht x hx y hy e with h1|h1
   ·exact h1
   ·have:=wN h hy h1;omega
 ·exact wN h hx
theorem Dq (h:SO lt) {dom:List α} (ht:tO lt dom) {x y:α} (hx:x∈dom) (hy:y∈dom) (he:rk lt dom x=rk lt dom y):x=y:=by
 by_cases e:x=y
 ·exact e
 ·rcases ht x hx y hy e with h1|h1
  ·have:=wN h hx h1;omega
  ·have:=wN h hy h1;omega
def rM (lt:α→α→Bool) (dom:List α):List α:=dom.mergeSort fun a b=> !lt b a
theorem de (dom:List α):(rM lt dom).Perm dom:=List.mergeSort_perm ..
theorem A4 (dom:List α):(rM lt dom).length=dom.length:=(de dom).length_eq
theorem o9 (h:SO lt) {dom:List α} (hn:dom.Nodup) (ht:tO lt dom):(rM lt dom).Pairwise fun a b=>lt a b=true:=by
 have h1:=List.pairwise_mergeSort (le:=fun a b=> !lt b a) (fun a b c h1 h2=>by
   simp only [Bool.not_eq_true'] at*;exact h.ntrans _ _ _ h2 h1) (fun a b=>by
   cases hab:lt a b with
   |true=>simp [h.asym hab]
   |false=>simp) dom
 have h2:(rM lt dom).Nodup:=(de dom).nodup_iff.2 hn
 have h3:(rM lt dom).Pairwise fun a b=>a∈dom∧b∈dom:=List.Pairwise.imp_of_mem (fun {a b} ha hb _=>⟨(de dom).mem_iff.1 ha,(de dom).mem_iff.1 hb⟩) h2
 exact ((h1.and h2).and h3).imp fun {a b} hh=>by
  rcases ht a hh.2.1 b hh.2.2 hh.1.2 with h4|h4
  ·exact h4
  ·have:=hh.1.1;simp [h4] at this
theorem Dz (h:SO lt) {dom:List α} (hn:dom.Nodup) (ht:tO lt dom) {x:α} (hx:x∈dom): ∃hj:rk lt dom x<(rM lt dom).length,(rM lt dom)[rk lt dom x]=x:=by
 have:=qO h (o9 h hn ht) ((de dom).mem_iff.2 hx)
 rw [(de dom).countP_eq] at this
 exact this
theorem Jy (h:SO lt) {dom:List α} (hn:dom.Nodup) (ht:tO lt dom) {r:Nat} (hr:r<(rM lt dom).length):rk lt dom (rM lt dom)[r]=r:=by
 have:=jN h (o9 h hn ht) r hr
 rwa [(de dom).countP_eq] at this
theorem vJ (h:SO lt) {dom:List α} (hn:dom.Nodup) (ht:tO lt dom) {x:α} (hx:x∈dom):rk lt dom x<dom.length:=by
 obtain ⟨hj,_⟩:=Dz h hn ht hx
 rwa [A4] at hj
end
end Go.Rk
set_option maxRecDepth 20000
namespace Go.Inc
inductive sH (σ β ε:Type) where
 |more (s:σ)|fin (b:β)|bad (e:ε)
inductive JT (α σ β ε:Type) where
 |short (s:σ)|fin (b:β) (rest:List α)|bad (e:ε)
def run {α σ β ε:Type} (f:σ→α→sH σ β ε):σ→List α→JT α σ β ε
 |s,[]=> .short s
 |s,c::l=>match f s c with
  | .more s'=>run f s' l
  | .fin b=> .fin b l
  | .bad e=> .bad e
section
variable {α σ β ε:Type} {f:σ→α→sH σ β ε}
theorem dG (s:σ) (c:α) (l:List α):run f s (c::l)=match f s c with
  | .more s'=>run f s' l
  | .fin b=> .fin b l
  | .bad e=> .bad e:=rfl
theorem bD {s s':σ} {c:α} {l:List α} (h:f s c= .more s'):run f s (c::l)=run f s' l:=by rw [dG,h]
theorem lG {s:σ} {b:β} {c:α} {l:List α} (h:f s c= .fin b):run f s (c::l)= .fin b l:=by rw [dG,h]
theorem lC {s:σ} {e:ε} {c:α} {l:List α} (h:f s c= .bad e):run f s (c::l)= .bad e:=by rw [dG,h]
theorem ui: ∀(a:List α) (s:σ) (l:List α),run f s (a++l)=match run f s a with
  | .short s'=>run f s' l
  | .fin b r=> .fin b (r++l)
  | .bad e=> .bad e
 | [],s,l=>rfl
 |c::a,s,l=>by
  rw [List.cons_append,dG,dG]
  cases f s c with
  |more s'=>exact ui a s' l
  |fin b=>rfl
  |bad e=>rfl
theorem cR {s s':σ} {a:List α} (h:run f s a= .short s') (l:List α):run f s (a++l)=run f s' l:=by rw [ui,h]
theorem vX: ∀{l:List α} {s:σ} {b:β} {r:List α},run f s l= .fin b r→∃a c s',l=a++c::r∧run f s a= .short s'∧f s' c= .fin b
 | [],s,b,r,h=>by cases h
 |c::l,s,b,r,h=>by
  rw [dG] at h
  cases hc:f s c with
  |more s'=>
   rw [hc] at h
   obtain ⟨a,c',s'',rfl,h1,h2⟩:=vX h
   exact ⟨c::a,c',s'',rfl,by rw [bD hc,h1],h2⟩
  |fin b'=>
   rw [hc] at h
   cases h
   exact ⟨[],c,s,rfl,rfl,hc⟩
  |bad e=>rw [hc] at h;cases h
theorem Hl {a l:List α} {s s':σ} (h:run f s (a++l)= .short s'): ∃s'',run f s a= .short s'':=by
 rw [ui] at h
 cases ha:run f s a with
 |short s''=>exact ⟨s'',rfl⟩
 |fin b r=>rw [ha] at h;cases h
 |bad e=>rw [ha] at h;cases h
theorem uG {l r:List α} {s:σ} {b:β} (h:run f s (l++r)= .fin b r) {k:Nat} (hk:k<l.length): ∃s',run f s (l.take k)= .short s':=by
 obtain ⟨a,c,s',e,h1,h2⟩:=vX h
 have e:l=a++ [c]:=List.append_cancel_right (bs:=r) (by rw [e];simp)
 subst e
 rw [List.length_append] at hk
 have:((a++ [c]).take k)=a.take k:=by rw [List.take_append_of_le_length (by simp at hk;omega)]
 rw [this]
 refine Hl (l:=a.drop k) (s':=s') ?_
 rw [List.take_append_drop];exact h1
end
end Go.Inc
set_option maxRecDepth 20000
namespace Go.Sym
open Go.Inc
def br (L:List Nat) (p:Nat):List Nat:=L.getD p 0::L.eraseIdx p
theorem th {L:List Nat} {p:Nat} (hp:p<L.length):(br L p).Perm L:=by
 unfold br
 have e:L.getD p 0=L[p]:=by simp [List.getD,hp]
 rw [e]
 rw [List.eraseIdx_eq_take_drop_succ]
 have h2:L.take p++L[p]::L.drop (p+1)=L:=by rw [List.getElem_cons_drop,List.take_append_drop]
 exact List.perm_middle.symm.trans (List.Perm.of_eq h2)
theorem Da {L:List Nat} {p:Nat} (hp:p<L.length):(br L p).length=L.length:=(th hp).length_eq
def aX (L:List Nat):Prop:=L.Perm (List.range 256)
theorem aX.len {L:List Nat} (h:aX L):L.length=256:=by rw [h.length_eq,List.length_range]
theorem aX.mem {L:List Nat} (h:aX L) {c:Nat}:c∈L↔c<256:=by rw [h.mem_iff,List.mem_range]
theorem aX.nodup {L:List Nat} (h:aX L):L.Nodup:=h.nodup_iff.2 List.nodup_range
theorem aX.take {L:List Nat} (h:aX L) {p:Nat} (hp:p<256):aX (br L p):=(th (by rw [h.len];exact hp)).trans h
theorem aX.range:aX (List.range 256):=List.Perm.refl _
theorem aX.get {L:List Nat} (h:aX L) {p:Nat} (hp:p<256):L.getD p 0<256:=by
 have hl:=h.len
 have:L.getD p 0=L[p]:=by simp [List.getD,hl,hp]
 rw [this]
 exact h.mem.1 (List.getElem_mem _)
theorem aX.idx {L:List Nat} (h:aX L) {c:Nat} (hc:c<256):L.idxOf c<256∧L.getD (L.idxOf c) 0=c:=by
 have hm:=h.mem.2 hc
 have hl:=h.len
 have h1:=List.idxOf_lt_length_of_mem hm
 refine ⟨by omega,?_⟩
 rw [List.getD,List.getElem?_eq_getElem h1,List.getElem_idxOf h1];rfl
theorem aX.pZ {L:List Nat} (h:aX L) {p:Nat} (hp:p<256):L.idxOf (L.getD p 0)=p:=by
 have hl:=h.len
 have e:L.getD p 0=L[p]:=by simp [List.getD,hl,hp]
 have h1:=h.idx (h.get hp)
 have e2:L[L.idxOf (L.getD p 0)]'(by omega)=L[p]:=by
  have:=h1.2
  rw [List.getD,List.getElem?_eq_getElem (by omega)] at this
  exact this.trans e
 exact (List.getElem_inj h.nodup).1 e2
def bP (n:Nat):List Nat:=if _h:n=0 then [] else (n - 1) % 2::bP ((n - 1)/2)
termination_by n
decreasing_by omega
theorem mw:bP 0= []:=by rw [bP];simp
theorem jS {n:Nat} (h:0<n):bP n=(n - 1) % 2::bP ((n - 1)/2):=by rw [bP,dif_neg (by omega)]
theorem BE (n:Nat): ∀d∈bP n,d<2:=by
 induction n using Nat.strongRecOn with
 |ind n ih=>
  rcases Nat.eq_zero_or_pos n with e|e
  ·rw [e,mw];simp
  ·rw [jS e]
   intro d hd
   rcases List.mem_cons.1 hd with h|h
   ·omega
   ·exact ih _ (by omega) d h
def cz:List Nat→Nat→List Nat→List Nat×List Nat×Nat
 |L,r,[]=>([],L,r)
 |L,r,c::b=>
  if L.idxOf c=0 then cz (br L 0) (r+1) b
  else
   let x:=cz (br L (L.idxOf c)) 0 b
   (bP r++(L.idxOf c+1)::x.1,x.2)
def bM (L:List Nat) (r:Nat) (b:List Nat):List Nat:=(cz L r b).1++bP (cz L r b).2.2++ [257]
def syms (b:List Nat):List Nat:=bM (List.range 256) 0 b
theorem gA (L:List Nat) (r:Nat):bM L r []=bP r++ [257]:=by simp [bM,cz]
theorem fF {L:List Nat} {r c:Nat} {b:List Nat} (h:L.idxOf c=0):bM L r (c::b)=bM (br L 0) (r+1) b:=by
 unfold bM;rw [cz,if_pos h]
theorem fX {L:List Nat} {r c:Nat} {b:List Nat} (h:L.idxOf c≠0):bM L r (c::b)=bP r++(L.idxOf c+1)::bM (br L (L.idxOf c)) 0 b:=by
 unfold bM;rw [cz,if_neg h];simp
structure DS where
 L:List Nat
 left:Nat
 run:Nat
 digits:Nat
def bV (d:DS) (s:Nat):Option (DS×List Nat×Bool):=
 if s<2 then
  if d.run+(1+s)*2^d.digits≤d.left then some (⟨d.L,d.left,d.run+(1+s)*2^d.digits,d.digits+1⟩,[],false) else none
 else if s=257 then
  if d.run=d.left then some (⟨d.L,0,0,0⟩,List.replicate d.run (d.L.getD 0 0),true) else none
 else if d.run=d.left then none
 else some (⟨br d.L (s - 1),d.left - (d.run+1),0,0⟩,List.replicate d.run (d.L.getD 0 0)++ [d.L.getD (s - 1) 0],false)
def fx (d:DS×List Nat) (s:Nat):sH (DS×List Nat) (List Nat) Nat:=match bV d.1 s with
 |none=> .bad 160
 |some (_,t,true)=> .fin (d.2++t)
 |some (d',t,false)=> .more (d',d.2++t)
theorem mo {d d':DS} {acc t:List Nat} {s:Nat} (h:bV d s=some (d',t,false)):fx (d,acc) s= .more (d',acc++t):=by unfold fx;rw [h]
theorem Bq {d d':DS} {acc t:List Nat} {s:Nat} (h:bV d s=some (d',t,true)):fx (d,acc) s= .fin (acc++t):=by unfold fx;rw [h]
theorem qN {d:DS} {acc:List Nat} {s:Nat} (h:bV d s=none):fx (d,acc) s= .bad 160:=by unfold fx;rw [h]
theorem o8 (L:List Nat) (left:Nat) (acc rest:List Nat): ∀(n q k:Nat),q+n*2^k≤left→∃k',run fx (⟨L,left,q,k⟩,acc) (bP n++rest)=run fx (⟨L,left,q+n*2^k,k'⟩,acc) rest:=by
 intro n
 induction n using Nat.strongRecOn with
 |ind n ih=>
  intro q k hle
  rcases Nat.eq_zero_or_pos n with e|e
  ·subst e
   exact ⟨k,by rw [mw];simp⟩
  ·rw [jS e]
   have hs:(1+(n - 1) % 2)*2^k+(n - 1)/2*2^(k+1)=n*2^k:=by
    rw [Nat.pow_succ,Nat.mul_comm (2^k) 2,←Nat.mul_assoc,←Nat.add_mul]
    congr 1;omega
   obtain ⟨k',h⟩:=ih ((n - 1)/2) (by omega) (q+(1+(n - 1) % 2)*2^k) (k+1) (by omega)
   refine ⟨k',?_⟩
   have h1:bV ⟨L,left,q,k⟩ ((n - 1) % 2)=some (⟨L,left,q+(1+(n - 1) % 2)*2^k,k+1⟩,[],false):=by
    unfold bV
    simp only
    rw [if_pos (by omega),if_pos (by omega)]
   rw [List.cons_append,bD (mo h1),List.append_nil,h]
   congr 3
   omega
theorem js {L:List Nat} (hL:aX L) {c:Nat} (hc:c<256) (h:L.idxOf c=0):L.getD 0 0=c∧br L 0=L:=by
 have:=(hL.idx hc).2
 rw [h] at this
 refine ⟨this,?_⟩
 unfold br
 cases L with
 |nil=>have:=hL.len;simp at this
 |cons x L=>rfl
theorem qy: ∀(b L:List Nat) (r left:Nat) (acc rest:List Nat),aX L→(∀x∈b,x<256)→left=r+b.length→
  run fx (⟨L,left,0,0⟩,acc) (bM L r b++rest)= .fin (acc++List.replicate r (L.getD 0 0)++b) rest
 | [],L,r,left,acc,rest,hL,_,hl=>by
  rw [gA,List.append_assoc]
  obtain ⟨k',h⟩:=o8 L left acc ([257]++rest) r 0 0 (by simp at hl;omega)
  rw [h]
  have h1:bV ⟨L,left,0+r*2^0,k'⟩ 257=some (⟨L,0,0,0⟩,List.replicate r (L.getD 0 0),true):=by
   unfold bV
   simp only [Nat.zero_add,Nat.pow_zero,Nat.mul_one]
   rw [if_neg (by decide),if_pos trivial,if_pos (by simp at hl;omega)]
  show run fx _ (257::rest)=_
  rw [lG (Bq h1)]
  simp
 |c::b,L,r,left,acc,rest,hL,hb,hl=>by
  have hc:=hb c List.mem_cons_self
  have hb': ∀x∈b,x<256:=fun x hx=>hb x (List.mem_cons_of_mem _ hx)
  simp only [List.length_cons] at hl
  by_cases h0:L.idxOf c=0
  ·obtain ⟨e1,e2⟩:=js hL hc h0
   rw [fF h0,e2,qy b L (r+1) left acc rest hL hb' (by omega),e1,List.replicate_succ']
   simp
  ·obtain ⟨i1,i2⟩:=hL.idx hc
   rw [fX h0,List.append_assoc]
   obtain ⟨k',h⟩:=o8 L left acc ((L.idxOf c+1)::bM (br L (L.idxOf c)) 0 b++rest) r 0 0 (by omega)
   rw [h]
   have h1:bV ⟨L,left,0+r*2^0,k'⟩ (L.idxOf c+1)=some (⟨br L (L.idxOf c),left - (r+1),0,0⟩,List.replicate r (L.getD 0 0)++ [c],false):=by
    unfold bV
    simp only [Nat.zero_add,Nat.pow_zero,Nat.mul_one,Nat.add_sub_cancel,i2]
    rw [if_neg (by omega),if_neg (by omega),if_neg (by omega)]
   rw [List.cons_append,bD (mo h1)]
   rw [qy b (br L (L.idxOf c)) 0 (left - (r+1)) _ rest (hL.take i1) hb' (by omega)]
   simp
theorem C7 {b:List Nat} (hb: ∀x∈b,x<256) (rest:List Nat):run fx (⟨List.range 256,b.length,0,0⟩,[]) (syms b++rest)= .fin b rest:=by
 unfold syms
 rw [qy b _ 0 b.length [] rest aX.range hb (by omega)]
 simp
theorem zC (L:List Nat) (left:Nat) (acc rest:List Nat): ∀(n q k:Nat),q≤left→left<q+n*2^k→run fx (⟨L,left,q,k⟩,acc) (bP n++rest)= .bad 160:=by
 intro n
 induction n using Nat.strongRecOn with
 |ind n ih=>
  intro q k hq hlt
  rcases Nat.eq_zero_or_pos n with e|e
  ·subst e
   simp at hlt;omega
  ·rw [jS e,List.cons_append]
   have hs:(1+(n - 1) % 2)*2^k+(n - 1)/2*2^(k+1)=n*2^k:=by
    rw [Nat.pow_succ,Nat.mul_comm (2^k) 2,←Nat.mul_assoc,←Nat.add_mul]
    congr 1;omega
   by_cases h:q+(1+(n - 1) % 2)*2^k≤left
   ·have h1:bV ⟨L,left,q,k⟩ ((n - 1) % 2)=some (⟨L,left,q+(1+(n - 1) % 2)*2^k,k+1⟩,[],false):=by
     unfold bV
     simp only
     rw [if_pos (by omega),if_pos h]
    rw [bD (mo h1),List.append_nil]
    exact ih ((n - 1)/2) (by omega) _ (k+1) h (by omega)
   ·have h1:bV ⟨L,left,q,k⟩ ((n - 1) % 2)=none:=by
     unfold bV
     simp only
     rw [if_pos (by omega),if_neg h]
    exact lC (qN h1)
theorem sv: ∀(b L:List Nat) (r left:Nat) (acc rest:List Nat),aX L→(∀x∈b,x<256)→left≠r+b.length→run fx (⟨L,left,0,0⟩,acc) (bM L r b++rest)= .bad 160
 | [],L,r,left,acc,rest,_,_,hl=>by
  rw [gA,List.append_assoc]
  simp only [List.length_nil,Nat.add_zero] at hl
  by_cases h:r≤left
  ·obtain ⟨k',h⟩:=o8 L left acc ([257]++rest) r 0 0 (by omega)
   rw [h]
   refine lC (qN ?_)
   unfold bV
   simp only [Nat.zero_add,Nat.pow_zero,Nat.mul_one]
   rw [if_neg (by decide),if_pos trivial,if_neg (by omega)]
  ·exact zC L left acc _ r 0 0 (by omega) (by omega)
 |c::b,L,r,left,acc,rest,hL,hb,hl=>by
  have hc:=hb c List.mem_cons_self
  have hb': ∀x∈b,x<256:=fun x hx=>hb x (List.mem_cons_of_mem _ hx)
  simp only [List.length_cons] at hl
  by_cases h0:L.idxOf c=0
  ·obtain ⟨_,e2⟩:=js hL hc h0
   rw [fF h0,e2]
   exact sv b L (r+1) left acc rest hL hb' (by omega)
  ·obtain ⟨i1,i2⟩:=hL.idx hc
   rw [fX h0,List.append_assoc]
   by_cases h:r≤left
   ·obtain ⟨k',h1⟩:=o8 L left acc ((L.idxOf c+1)::bM (br L (L.idxOf c)) 0 b++rest) r 0 0 (by omega)
    rw [h1,List.cons_append]
    by_cases he:r=left
    ·refine lC (qN ?_)
     unfold bV
     simp only [Nat.zero_add,Nat.pow_zero,Nat.mul_one]
     rw [if_neg (by omega),if_neg (by omega),if_pos he]
    ·have h2:bV ⟨L,left,0+r*2^0,k'⟩ (L.idxOf c+1)=some (⟨br L (L.idxOf c),left - (r+1),0,0⟩,List.replicate r (L.getD 0 0)++ [c],false):=by
      unfold bV
      simp only [Nat.zero_add,Nat.pow_zero,Nat.mul_one,Nat.add_sub_cancel,i2]
      rw [if_neg (by omega),if_neg (by omega),if_neg he]
     rw [bD (mo h2)]
     exact sv b (br L (L.idxOf c)) 0 (left - (r+1)) _ rest (hL.take i1) hb' (by omega)
   ·exact zC L left acc _ r 0 0 (by omega) (by omega)
theorem Cy {b:List Nat} (hb: ∀x∈b,x<256) {left:Nat} (hl:left≠b.length) (rest:List Nat):run fx (⟨List.range 256,left,0,0⟩,[]) (syms b++rest)= .bad 160:=
 sv b _ 0 left [] rest aX.range hb (by omega)
theorem ns: ∀(b L:List Nat) (r:Nat),aX L→(∀x∈b,x<256)→∀s∈bM L r b,s≤257
 | [],L,r,_,_=>fun s hs=>by
  rw [gA] at hs
  rcases List.mem_append.1 hs with h|h
  ·have:=BE _ s h;omega
  ·rw [List.mem_singleton] at h;omega
 |c::b,L,r,hL,hb=>fun s hs=>by
  have hc:=hb c List.mem_cons_self
  have hb': ∀x∈b,x<256:=fun x hx=>hb x (List.mem_cons_of_mem _ hx)
  obtain ⟨i1,_⟩:=hL.idx hc
  by_cases h0:L.idxOf c=0
  ·rw [fF h0] at hs
   exact ns b _ (r+1) (hL.take (by decide)) hb' s hs
  ·rw [fX h0] at hs
   rcases List.mem_append.1 hs with h|h
   ·have:=BE _ s h;omega
   ·rcases List.mem_cons.1 h with h|h
    ·omega
    ·exact ns b _ 0 (hL.take i1) hb' s h
theorem uH {b:List Nat} (hb: ∀x∈b,x<256): ∀s∈syms b,s≤257:=ns b _ 0 aX.range hb
end Go.Sym
namespace Go.Vc
theorem zY {n:Nat} {f:Nat→Int}:(cV n f).toList.all aw=true:=by
 unfold cV
 rw [List.all_map]
 exact List.all_eq_true.2 fun _ _=>rfl
theorem vG {n:Nat}:cV n (fun _=>0)=⟨List.replicate n (.int .i64 0)⟩:=by
 unfold cV
 rw [List.map_const',List.length_range]
theorem tE.row {n:Nat} {f g:Nat→Int} {K:Bool→Prop} (hK:K (((List.range n).map f)==((List.range n).map g))):tE .i64 n (cV n f) (cV n g) K:=
 ⟨(List.range n).map f,(List.range n).map g,by simp [cV],by simp [cV],by simp,by simp,hK⟩
end Go.Vc
namespace Go.Proofs.YtcdpblipagajiaaGreat
open Go Go.Vc Go.Inc Go.Sym
abbrev bk (l:List Nat):List Value:=l.map fun (n:Nat)=>Value.int .u8 (n:Int)
theorem fK {L:List Nat} (h:L.length=256):(bk L).length=256:=by simp [h]
theorem cM {l:List Nat}:(bk l).all aw=true:=by
 unfold bk
 rw [List.all_map]
 exact List.all_eq_true.2 fun _ _=>rfl
section
variable {E w:World} {F:List HP}
theorem Hg:Tryz.prog.underlying 22=some (.slice 5):=by kernel_rfl
theorem II:(Tryz.prog.info? 5).map (·.size)=some 1:=by kernel_rfl
set_option maxRecDepth 20000
theorem Em {K:Array Value→World→Prop} (h:Hp E w F) (hK: ∀w',Hp E w' F→K ⟨bk (List.range 256)⟩ w'):Cl Tryz.prog [.arr 256] mW ⟨[]⟩ w K:=by
 refine GK.ok _ _ ?_
 (try simp only [aH,ay,au,Nat.zero_add,Nat.add_zero,Nat.reduceAdd,Bool.not_true,Bool.not_false,aZ,aY,Option.isNone])
 refine Nw.mk h fun b2 w h=> ?_
 have hlen: ∀k,k≤256→(bk (List.range k++List.replicate (256 - k) 0)).length=256:=fun k hk=>by simp;omega
 refine ⟨fun i w'=> ∃k:Nat,i=(k:Int)∧k≤256∧Hp E w' (aj b2 (.cells ⟨bk (List.range k++List.replicate (256 - k) 0)⟩ 108 (0,0))::F),fun i _=>256 - i.toNat,⟨0,rfl,by omega,by
  have:(⟨bk (List.range 0++List.replicate (256 - 0) 0)⟩:Array Value)=⟨List.replicate 256 (.int .u8 0)⟩:=by simp
  rw [this];exact h⟩,?_⟩
 rintro i w ⟨k,rfl,hk,h⟩
 (first|refine aa.dm (fun hb=> ?_) (fun hb=> ?_)|refine aa.em (fun hb=> ?_) (fun hb=> ?_)|refine aa.nm (fun hb=> ?_) (fun hb=> ?_)|refine aa.mk (fun hb=> ?_) (fun hb=> ?_))
 ·refine ⟨by omega,by omega,?_⟩
  rw [show ((k:Int)).toNat*1=k by omega]
  (try simp only [aH,ay,au,Nat.zero_add,Nat.add_zero,Nat.reduceAdd,Bool.not_true,Bool.not_false,aZ,aY,Option.isNone])
  have hk:=hlen k (by omega)
  refine St.xb h (by simp;omega) rfl fun w h=> ?_
  rw [ad (by omega)]
  refine ⟨⟨k+1,rfl,by omega,?_⟩,by omega⟩
  have e:(⟨bk (List.range k++List.replicate (256 - k) 0)⟩:Array Value).setIfInBounds k (.int .u8 (u8 (k:Int)))=⟨bk (List.range (k+1)++List.replicate (256 - (k+1)) 0)⟩:=by
   rw [gC (by omega)]
   apply Array.ext'
   rw [Array.toList_setIfInBounds]
   have:(bk (List.range k++List.replicate (256 - k) 0)).set k (.int .u8 (k:Int))=bk ((List.range k++List.replicate (256 - k) 0).set k k):=by rw [bk,bk,List.map_set]
   rw [this,List.set_append_right _ _ (by simp),List.length_range,Nat.sub_self]
   obtain ⟨m,hm⟩: ∃m,256 - k=m+1:=⟨255 - k,by omega⟩
   rw [hm,List.replicate_succ,List.set_cons_zero,List.range_succ,show 256 - (k+1)=m by omega]
   simp
  rw [e] at h
  exact h
 ·have hk2:k=256:=by omega
  subst hk2
  have e:(⟨bk (List.range 256++List.replicate (256 - 256) 0)⟩:Array Value)=⟨bk (List.range 256)⟩:=by simp
  rw [e] at h
  have hn:(⟨bk (List.range 256)⟩:Array Value).size=256:=by simp
  refine Ld.xw h hn ?_
  refine ar.q h hn hn cM fun w h=> ?_
  exact Ld.xw h hn (hK _ h.tl)
theorem IF {K:Array Value→World→Prop} (h:Hp E w F) (hK: ∀w',Hp E w' F→K (cV 256 fun _=>1) w'):Cl Tryz.prog [.arr 256] oY ⟨[]⟩ w K:=by
 refine ES.ok _ _ ?_
 (try simp only [aH,ay,au,Nat.zero_add,Nat.add_zero,Nat.reduceAdd,Bool.not_true,Bool.not_false,aZ,aY,Option.isNone])
 refine Nw.mk h fun b2 w h=> ?_
 refine ⟨fun i w'=> ∃k:Nat,i=(k:Int)∧k≤256∧Hp E w' (aj b2 (.cells (cV 256 fun j=>if j<k then 1 else 0) 171 (0,0))::F),fun i _=>256 - i.toNat,⟨0,rfl,by omega,by
  rw [fg (g:=fun _=>0) (fun i _=>by simp),vG];exact h⟩,?_⟩
 rintro i w ⟨k,rfl,hk,h⟩
 (first|refine aa.dm (fun hb=> ?_) (fun hb=> ?_)|refine aa.em (fun hb=> ?_) (fun hb=> ?_)|refine aa.nm (fun hb=> ?_) (fun hb=> ?_)|refine aa.mk (fun hb=> ?_) (fun hb=> ?_))
 ·refine ⟨by omega,by omega,?_⟩
  rw [show ((k:Int)).toNat*1=k by omega]
  (try simp only [aH,ay,au,Nat.zero_add,Nat.add_zero,Nat.reduceAdd,Bool.not_true,Bool.not_false,aZ,aY,Option.isNone])
  refine St.xb h (by rw [cS];omega) rfl fun w h=> ?_
  rw [ad (by omega)]
  refine ⟨⟨k+1,rfl,by omega,?_⟩,by omega⟩
  rw [oO] at h
  rw [fg (g:=fun j=>if j<k+1 then 1 else 0) (fun i _=>by
   by_cases h1:i=k
   ·subst h1;simp
   ·by_cases h2:i<k
    ·simp [h1,h2];omega
    ·simp [h1,h2];omega)] at h
  exact h
 ·have hk2:k=256:=by omega
  subst hk2
  rw [fg (g:=fun _=>1) (fun i hi=>by simp [hi])] at h
  refine Ld.xw h cS ?_
  refine ar.q h cS cS zY fun w h=> ?_
  exact Ld.xw h cS (hK _ h.tl)
theorem vZ {L:List Nat} {K:Bool→World→Prop} (h:Hp E w F) (hL:aX L) (hK: ∀w',Hp E w' F→K true w'):Cl Tryz.prog [kB] j0 ⟨[.agg ⟨bk L⟩]⟩ w K:=by
 have hl:=hL.len
 have hlt: ∀x∈L,x<256:=fun x hx=>by simpa using hL.mem_iff.1 hx
 refine Df.ok _ _ _ ?_
 (try simp only [aH,ay,au,Nat.zero_add,Nat.add_zero,Nat.reduceAdd,Bool.not_true,Bool.not_false,aZ,aY,Option.isNone])
 have hn:(⟨bk L⟩:Array Value).size=256:=by simp [hl]
 refine Nw.mk h fun b3 w h=>Nw.mk h fun b5 w h=>Ld.xw h hn ?_
 refine ⟨fun i w'=> ∃k:Nat,i=(k:Int)∧k≤256∧Hp E w' (aj b5 (.cells (cV 256 fun j=>if j∈L.take k then 1 else 0) 171 (0,0))::aj b3 (.cells ⟨bk L⟩ 108 (0,0))::F),fun i _=>256 - i.toNat,⟨0,rfl,by omega,by
  rw [fg (g:=fun _=>0) (fun i _=>by simp),vG];exact h⟩,?_⟩
 rintro i w ⟨k,rfl,hk,h⟩
 (first|refine aa.dm (fun hb=> ?_) (fun hb=> ?_)|refine aa.em (fun hb=> ?_) (fun hb=> ?_)|refine aa.nm (fun hb=> ?_) (fun hb=> ?_)|refine aa.mk (fun hb=> ?_) (fun hb=> ?_))
 ·have hkl:k<L.length:=by omega
  refine ez.rd (s:= .int .u8) (by omega) (by omega) (L[k]:Int) ?_ ?_
  ·simp [hkl]
  have hx:=hlt _ (List.getElem_mem hkl)
  refine ⟨by omega,by omega,?_⟩
  rw [show ((L[k]:Int)).toNat*1=L[k] by omega]
  (try simp only [aH,ay,au,Nat.zero_add,Nat.add_zero,Nat.reduceAdd,Bool.not_true,Bool.not_false,aZ,aY,Option.isNone])
  refine St.xb h (by rw [cS];omega) rfl fun w h=> ?_
  rw [ad (by omega)]
  refine ⟨⟨k+1,rfl,by omega,?_⟩,by omega⟩
  rw [oO] at h
  rw [fg (g:=fun j=>if j∈L.take (k+1) then 1 else 0) (fun i _=>by
   have hmem:i∈L.take (k+1)↔i∈L.take k∨i=L[k]:=by
    rw [List.take_add_one,List.getElem?_eq_getElem hkl,List.mem_append]
    exact or_congr Iff.rfl List.mem_singleton
   by_cases h1:i=L[k]
   ·rw [if_pos h1,if_pos (hmem.2 (.inr h1))]
   ·rw [if_neg h1]
    by_cases h2:i∈L.take k
    ·rw [if_pos h2,if_pos (hmem.2 (.inl h2))]
    ·rw [if_neg h2,if_neg (fun hh=>(hmem.1 hh).elim h2 h1)])] at h
  exact h
 ·have hk2:k=256:=by omega
  subst hk2
  rw [fg (g:=fun _=>1) (fun i hi=>by
   rw [List.take_of_length_le (by omega),if_pos]
   exact hL.mem_iff.2 (by simpa using hi))] at h
  have h:=h.drew (n:=w.drawn+1)
  refine ⟨cj b5 _ _ _,h.hb,?_⟩
  dsimp only
  refine ae.xw (fun _ h=>h) cS ?_
  refine IF h fun w h=>⟨h.hb,?_⟩
  refine tE.row ?_
  rw [beq_self_eq_true]
  exact hK _ h.tl
theorem FR {L:List Nat} {p:Nat} (hl:L.length=256) (hp:p<256):((bk L).take 1++((bk (L.take p)).take p++(bk L).drop (1+min (bk (L.take p)).length p))).set 0 (.int .u8 (L.getD p 0:Int))=bk (br L p):=by
 have e1:(bk (L.take p)).length=p:=by simp;omega
 rw [e1,Nat.min_self,List.take_of_length_le (l:=bk (L.take p)) (by omega),Nat.add_comm 1 p]
 unfold br
 rw [List.eraseIdx_eq_take_drop_succ]
 cases L with
 |nil=>simp at hl
 |cons a L=>simp [bk,List.map_take,List.map_drop]
theorem Bc {L:List Nat} {p:Nat} {K:Array Value→Int→Bool→World→Prop} (h:Hp E w F) (hl:L.length=256) (hp:p<256) (hK: ∀w',Hp E w' F→K ⟨bk (br L p)⟩ (L.getD p 0:Int) true w'):
  Cl Tryz.prog [.arr 256,az .u8,kB] lh ⟨[.agg ⟨bk L⟩,.int .i64 (p:Int)]⟩ w K:=by
 refine Fs.ok _ _ _ _ ?_
 (try simp only [aH,ay,au,Nat.zero_add,Nat.add_zero,Nat.reduceAdd,Bool.not_true,Bool.not_false,aZ,aY,Option.isNone])
 have hn:(⟨bk L⟩:Array Value).size=256:=by simp [hl]
 have hz:(⟨List.replicate 256 (.int .u8 0)⟩:Array Value).size=256:=by simp
 have hpl:p<L.length:=by omega
 refine Nw.mk h fun b4 w h=>Nw.mk h fun b6 w h=> ?_
 (with_reducible repeat first|refine Nw.mk h fun b w h=> ?_|refine aq.mk h fun w h=> ?_|refine Ld.q h hL rfl rfl ?_|refine ae.q (fun _ h=>h) hL rfl rfl ?_|refine Ld.p h hL ?_|refine ae.p (fun _ h=>h) hL ?_|refine Ld.qw h hL rfl ?_|refine ae.qw (fun _ h=>h) hL rfl ?_|refine ⟨h.hb,?_⟩|(refine St.q h hL rfl rfl rfl fun w h=> ?_;dsimp only [an,af] at h)|refine aa.yes ?_|refine aa.no ?_|refine ⟨by first|omega|decide,?_⟩)
 refine Ld.xw h hn ?_
 refine ⟨by omega,by omega,?_⟩
 rw [show ((p:Int)).toNat*1=p by omega]
 (try simp only [aH,ay,au,Nat.zero_add,Nat.add_zero,Nat.reduceAdd,Bool.not_true,Bool.not_false,aZ,aY,Option.isNone])
 refine Ld.xb (x:=(L.getD p 0:Int)) h ?_ ?_
 ·simp [List.getD_eq_getElem?_getD,hpl]
 refine ar.q h hz hn cM fun w h=>aq.mk h fun w h=> ?_
 rw [ad (by omega)]
 refine ⟨by omega,by omega,by omega,by simp,?_⟩
 rw [if_neg (by simp),show (1:Int).toNat*1=1 by decide,show ((p:Int)+1).toNat - (1:Int).toNat=p by omega,show (256:Int).toNat - (1:Int).toNat=255 by decide]
 refine ⟨by omega,by omega,by omega,by simp,?_⟩
 rw [if_neg (by decide),show (0:Int).toNat*1=0 by decide,show ((p:Int)).toNat - (0:Int).toNat=p by omega,show (256:Int).toNat - (0:Int).toNat=256 by decide]
 simp only [Option.map_some,au,Nat.zero_add]
 have hsrc:aC 1 ⟨some ⟨b4,0,none⟩,p,256⟩ (bk (L.take p)) w:=by
  refine ⟨by simp;omega,fun i hi=>⟨⟨b4,0,none⟩,rfl,?_⟩⟩
  rw [au,h.fc]
  simp at hi⊢
  simp [show i<L.length by omega]
 refine qe (ys:=bk (L.take p)) Hg II h hsrc (List.all_eq_true.1 cM) (by rw [hn];dsimp only;omega) fun w h=> ?_
 refine ⟨by omega,by omega,?_⟩
 rw [show ((0:Int)).toNat*1=0 by decide]
 (try simp only [aH,ay,au,Nat.zero_add,Nat.add_zero,Nat.reduceAdd,Bool.not_true,Bool.not_false,aZ,aY,Option.isNone])
 refine St.xb h (by simp;omega) rfl fun w h=> ?_
 have e:(⟨(⟨bk L⟩:Array Value).toList.take 1++((bk (L.take p)).take p++(⟨bk L⟩:Array Value).toList.drop (1+min (bk (L.take p)).length p))⟩:Array Value).setIfInBounds 0 (.int .u8 (L.getD p 0:Int))=⟨bk (br L p)⟩:=by
  apply Array.ext'
  rw [Array.toList_setIfInBounds]
  exact FR hl hp
 rw [e] at h
 have hm:(⟨bk (br L p)⟩:Array Value).size=256:=by
  have:(br L p).length=256:=by unfold br;simp [List.length_eraseIdx,hpl];omega
  simp [this]
 refine Ld.xw h hm ?_
 refine ar.q h hm hm cM fun w h=> ?_
 exact Ld.xw h hm (hK _ h.tl)
theorem HW {n many d:Nat} {K:Int→Int→World→Prop} (hn:n≤65536) (hm:many≤16) (hd:d≤1) (hK:K ((n+(1+d)*2^many:Nat):Int) 0 w):
  Cl Tryz.prog [kI,kI] iA ⟨[.int .i64 (n:Int),.int .i64 (many:Int),.int .i64 (d:Int)]⟩ w K:=by
 have hp:2^many≤65536:=Nat.pow_le_pow_right (n:=2) (by decide) hm
 have hpp:=Nat.two_pow_pos many
 have hb:(1+d)*2^many≤131072:=by
  have:=Nat.mul_le_mul (show 1+d≤2 by omega) hp
  omega
 refine zU.ok _ _ _ _ _ ?_
 have fin:0≤(many:Int)∧aa (decide (i64 ((n:Int)+a8 .i64 (i64 (1+(d:Int))) (many:Int))>2147483647)) (K 0 2 w) (K (i64 ((n:Int)+a8 .i64 (i64 (1+(d:Int))) (many:Int))) 0 w):=by
  refine ⟨by omega,?_⟩
  have hmx:IntKind.max .i64=9223372036854775807:=rfl
  rw [ad (x:=1+(d:Int)) (by omega),show 1+(d:Int)=((1+d:Nat):Int) by omega,dM (k:= .i64) (by have:IntKind.bits .i64=64:=rfl;omega) (by rw [hmx];omega),ad (by omega)]
  exact aa.df (by omega) (by rw [←Int.natCast_add];exact hK)
 (try simp only [aH,ay,au,Nat.zero_add,Nat.add_zero,Nat.reduceAdd,Bool.not_true,Bool.not_false,aZ,aY,Option.isNone])
 refine aa.df (by omega) (aa.df (by omega) (aa.df (by omega) (aa.df (by omega) ?_)))
 by_cases h0:d=0
 ·exact aa.nf (by omega) fin
 ·exact aa.nt (by omega) (aa.nf (by omega) fin)
end
end Go.Proofs.YtcdpblipagajiaaGreat
namespace Go.Sym
def jQ (d:DS):Prop:=aX d.L∧d.left≤65536∧d.run≤d.left∧2^d.digits - 1≤d.run∧d.run≤2*(2^d.digits - 1)
theorem jQ.bP {d:DS} (h:jQ d):d.digits≤16:=by
 obtain ⟨_,h2,h3,h4,_⟩:=h
 rcases Nat.lt_or_ge d.digits 17 with hh|hh
 ·omega
 ·have:2^17≤2^d.digits:=Nat.pow_le_pow_right (by decide) hh
  omega
set_option maxRecDepth 20000 in
theorem jQ.zero {m:Nat} (hm:m≤65536):jQ ⟨List.range 256,m,0,0⟩:=⟨.range,hm,by simp,by simp,by simp⟩
theorem AJ {d d':DS} {s:Nat} {t:List Nat} (h:jQ d) (hs:s<258) (he:bV d s=some (d',t,false)):jQ d'∧(∀x∈t,x<256)∧t.length+d'.left≤d.left:=by
 obtain ⟨L,left,run,digits⟩:=d
 obtain ⟨h1,h2,h3,h4,h5⟩:=h
 unfold bV at he
 dsimp only at h1 h2 h3 h4 h5 he
 split at he
 ·split at he
  ·rename_i hs2 hle
   simp only [Option.some.injEq,Prod.mk.injEq] at he
   obtain ⟨rfl,rfl,_⟩:=he
   have hp:=Nat.two_pow_pos digits
   refine ⟨⟨h1,h2,hle,?_,?_⟩,by simp,by simp⟩
   ·dsimp only
    rw [Nat.pow_succ]
    have:=Nat.mul_le_mul_right (2^digits) (show 1≤1+s by omega)
    omega
   ·dsimp only
    rw [Nat.pow_succ]
    have:=Nat.mul_le_mul_right (2^digits) (show 1+s≤2 by omega)
    omega
  ·cases he
 ·split at he
  ·split at he
   ·simp at he
   ·cases he
  ·split at he
   ·cases he
   ·rename_i hs2 hs3 hne
    simp only [Option.some.injEq,Prod.mk.injEq] at he
    obtain ⟨rfl,rfl,_⟩:=he
    refine ⟨⟨h1.take (by omega),by dsimp only;omega,by simp,by simp,by simp⟩,?_,?_⟩
    ·intro x hx
     rcases List.mem_append.1 hx with hx|hx
     ·rw [(List.mem_replicate.1 hx).2];exact h1.get (by omega)
     ·rw [List.mem_singleton] at hx;rw [hx];exact h1.get (by omega)
    ·simp;omega
theorem Ex {d d':DS} {s:Nat} {t:List Nat} (h:jQ d) (he:bV d s=some (d',t,true)):(∀x∈t,x<256)∧t.length≤d.left:=by
 obtain ⟨L,left,run,digits⟩:=d
 obtain ⟨h1,h2,h3,h4,h5⟩:=h
 unfold bV at he
 dsimp only at h1 h2 h3 h4 h5 he
 split at he
 ·split at he
  ·simp at he
  ·cases he
 ·split at he
  ·split at he
   ·simp only [Option.some.injEq,Prod.mk.injEq] at he
    obtain ⟨rfl,rfl,_⟩:=he
    refine ⟨fun x hx=> ?_,by simp;omega⟩
    rw [(List.mem_replicate.1 hx).2];exact h1.get (by omega)
   ·cases he
  ·split at he
   ·cases he
   ·simp at he
end Go.Sym
namespace Go.Proofs.YtcdpblipagajiaaGreat
open Go Go.Vc Go.Inc Go.Sym
abbrev gS (L:List Nat) (left run digits:Int) (d:Bool):Array Value:=⟨bk L++ [.int .i64 left,.int .i64 run,.int .i64 digits,.bool d]⟩
theorem bb {L:List Nat} {a b c:Int} {d:Bool}:(gS L a b c d).toList.all aw=true:=by
 unfold gS
 rw [List.all_append,cM]
 rfl
theorem aQ {L:List Nat} {a b c:Int} {d:Bool} (h:L.length=256):(gS L a b c d).size=260:=by simp [h]
section
variable {E w:World} {F:List HP}
theorem D8:cp Tryz.prog 22 5 1 1:=cp.of (by kernel_rfl) (by kernel_rfl)
abbrev Bp:Nat→Option (Nat×Nat):=(#[(0,256),(256,1),(257,1),(258,1),(259,1)][·]?)
theorem xx (ps:List (Nat×Value)):Tryz.prog.built 149 ps=Instr.fill Bp ⟨List.replicate 256 (.int .u8 0)++ [.int .i64 0,.int .i64 0,.int .i64 0,.bool false]⟩ ps:=by kernel_rfl
theorem xP {L:List Nat} (hl:L.length=256) (rest:List (Nat×Value)):Instr.fill Bp ⟨List.replicate 256 (.int .u8 0)++ [.int .i64 0,.int .i64 0,.int .i64 0,.bool false]⟩ ((0,.agg ⟨bk L⟩)::rest)=Instr.fill Bp (gS L 0 0 0 false) rest:=by
 have:=gj (place:=Bp) (i:=0) (v:= .agg ⟨bk L⟩) (rest:=rest) (pre:= []) (mid:=List.replicate 256 (.int .u8 0)) (post:= [.int .i64 0,.int .i64 0,.int .i64 0,.bool false]) rfl rfl List.length_replicate (by show (⟨bk L⟩:Array Value).size=_;simp [hl])
 exact this
theorem cK.JS {L:List Nat} {m:Int} {K:Array Value→Prop} (hl:L.length=256) (hK:K (gS L m 0 0 false)):cK Tryz.prog 149 [(0,.agg ⟨bk L⟩),(1,.int .i64 m)] K:=by
 refine ⟨_,?_,hK⟩
 rw [xx,xP hl]
 have:=gj (place:=Bp) (i:=1) (v:= .int .i64 m) (rest:= []) (pre:=bk L) (mid:= [.int .i64 0]) (post:= [.int .i64 0,.int .i64 0,.bool false]) rfl (by simp [hl]) rfl rfl
 unfold gS
 rw [show bk L++ [.int .i64 (0:Int),.int .i64 0,.int .i64 0,.bool false]=bk L++ [.int .i64 0]++ [.int .i64 0,.int .i64 0,.bool false] by simp,this]
 simp [Value.cells,Instr.fill]
theorem cK.J7 {L:List Nat} {K:Array Value→Prop} (hl:L.length=256) (hK:K (gS L 0 0 0 true)):cK Tryz.prog 149 [(0,.agg ⟨bk L⟩),(4,.bool true)] K:=by
 refine ⟨_,?_,hK⟩
 rw [xx,xP hl]
 have:=gj (place:=Bp) (i:=4) (v:= .bool true) (rest:= []) (pre:=bk L++ [.int .i64 0,.int .i64 0,.int .i64 0]) (mid:= [.bool false]) (post:= []) rfl (by simp [hl]) rfl rfl
 unfold gS
 rw [show bk L++ [.int .i64 (0:Int),.int .i64 0,.int .i64 0,.bool false]=bk L++ [.int .i64 0,.int .i64 0,.int .i64 0]++ [.bool false]++ [] by simp,this]
 simp [Value.cells,Instr.fill]
set_option maxRecDepth 20000
theorem GQ {m:Nat} {K:Array Value→World→Prop} (h:Hp E w F) (hm:1≤m) (hm2:m≤65536) (hK: ∀w',Hp E w' F→K (gS (List.range 256) (m:Int) 0 0 false) w'):Cl Tryz.prog [.arr 260] mc ⟨[.int .i64 (m:Int)]⟩ w K:=by
 refine Cq.ok _ _ _ ?_
 (try simp only [aH,ay,au,Nat.zero_add,Nat.add_zero,Nat.reduceAdd,Bool.not_true,Bool.not_false,aZ,aY,Option.isNone])
 refine Nw.mk h fun b3 w h=>aa.df (by omega) (aa.df (by omega) ?_)
 refine Em h fun w h=>cK.JS (by simp) ?_
 have hz:(⟨List.replicate 256 (.int .u8 0)++ [.int .i64 0,.int .i64 0,.int .i64 0,.bool false]⟩:Array Value).size=260:=by simp
 have hd:(gS (List.range 256) (m:Int) 0 0 false).size=260:=aQ (by simp)
 refine ar.q h hz hd bb fun w h=> ?_
 exact Ld.xw h hd (hK _ h.tl)
theorem Dw {d:DS} {K:Bool→World→Prop} (h:Hp E w F) (hd:jQ d) (hK: ∀w',Hp E w' F→K true w'):Cl Tryz.prog [kB] jU ⟨[.agg (gS d.L (d.left:Int) (d.run:Int) (d.digits:Int) false)]⟩ w K:=by
 have hdig:=hd.bP
 obtain ⟨L,left,run,digits⟩:=d
 obtain ⟨h1,h2,h3,h4,h5⟩:=hd
 dsimp only at h1 h2 h3 h4 h5 hdig⊢
 have hL:=fK h1.len
 refine zd.ok _ _ _ ?_
 have hp:2^digits≤65536:=Nat.pow_le_pow_right (n:=2) (by decide) hdig
 have hpp:=Nat.two_pow_pos digits
 have e1:i64 (a8 .i64 1 (digits:Int) - 1)=((2^digits - 1:Nat):Int):=by
  have hmx:IntKind.max .i64=9223372036854775807:=rfl
  have:=dM (k:= .i64) (a:=1) (b:=digits) (by have:IntKind.bits .i64=64:=rfl;omega) (by rw [hmx];omega)
  have e0:a8 .i64 1 (digits:Int)=((2^digits:Nat):Int):=by simpa using this
  rw [e0,ad (by omega)];omega
 (try simp only [aH,ay,au,Nat.zero_add,Nat.add_zero,Nat.reduceAdd,Bool.not_true,Bool.not_false,aZ,aY,Option.isNone])
 (with_reducible repeat first|refine Nw.mk h fun b w h=> ?_|refine aq.mk h fun w h=> ?_|refine Ld.q h hL rfl rfl ?_|refine ae.q (fun _ h=>h) hL rfl rfl ?_|refine Ld.p h hL ?_|refine ae.p (fun _ h=>h) hL ?_|refine Ld.qw h hL rfl ?_|refine ae.qw (fun _ h=>h) hL rfl ?_|refine ⟨h.hb,?_⟩|(refine St.q h hL rfl rfl rfl fun w h=> ?_;dsimp only [an,af] at h)|refine aa.yes ?_|refine aa.no ?_|refine ⟨by first|omega|decide,?_⟩)
 refine vZ h h1 fun w h=> ?_
 (with_reducible repeat first|refine Nw.mk h fun b w h=> ?_|refine aq.mk h fun w h=> ?_|refine Ld.q h hL rfl rfl ?_|refine ae.q (fun _ h=>h) hL rfl rfl ?_|refine Ld.p h hL ?_|refine ae.p (fun _ h=>h) hL ?_|refine Ld.qw h hL rfl ?_|refine ae.qw (fun _ h=>h) hL rfl ?_|refine ⟨h.hb,?_⟩|(refine St.q h hL rfl rfl rfl fun w h=> ?_;dsimp only [an,af] at h)|refine aa.yes ?_|refine aa.no ?_|refine ⟨by first|omega|decide,?_⟩)
 rw [e1]
 (with_reducible repeat first|refine Nw.mk h fun b w h=> ?_|refine aq.mk h fun w h=> ?_|refine Ld.q h hL rfl rfl ?_|refine ae.q (fun _ h=>h) hL rfl rfl ?_|refine Ld.p h hL ?_|refine ae.p (fun _ h=>h) hL ?_|refine Ld.qw h hL rfl ?_|refine ae.qw (fun _ h=>h) hL rfl ?_|refine ⟨h.hb,?_⟩|(refine St.q h hL rfl rfl rfl fun w h=> ?_;dsimp only [an,af] at h)|refine aa.yes ?_|refine aa.no ?_|refine ⟨by first|omega|decide,?_⟩)
 rw [ad (by omega)]
 (with_reducible repeat first|refine Nw.mk h fun b w h=> ?_|refine aq.mk h fun w h=> ?_|refine Ld.q h hL rfl rfl ?_|refine ae.q (fun _ h=>h) hL rfl rfl ?_|refine Ld.p h hL ?_|refine ae.p (fun _ h=>h) hL ?_|refine Ld.qw h hL rfl ?_|refine ae.qw (fun _ h=>h) hL rfl ?_|refine ⟨h.hb,?_⟩|(refine St.q h hL rfl rfl rfl fun w h=> ?_;dsimp only [an,af] at h)|refine aa.yes ?_|refine aa.no ?_|refine ⟨by first|omega|decide,?_⟩)
 exact hK _ h.tl
theorem AN {L:List Nat} {left digits:Int} {run:Nat} {d:Bool} {K:Sl→World→Prop} (h:Hp E w F) (hl:L.length=256) (hr:run≤65536) (hK: ∀s' w',Hp E w' (ah 1 s' ((List.replicate run (L.getD 0 0)).map vB)::F)→K s' w'):
  Cl Tryz.prog [kS] ja ⟨[.agg (gS L left (run:Int) digits d)]⟩ w K:=by
 have hL:=fK hl
 refine Cn.ok _ _ _ ?_
 (try simp only [aH,ay,au,Nat.zero_add,Nat.add_zero,Nat.reduceAdd,Bool.not_true,Bool.not_false,aZ,aY,Option.isNone])
 (with_reducible repeat first|refine Nw.mk h fun b w h=> ?_|refine aq.mk h fun w h=> ?_|refine Ld.q h hL rfl rfl ?_|refine ae.q (fun _ h=>h) hL rfl rfl ?_|refine Ld.p h hL ?_|refine ae.p (fun _ h=>h) hL ?_|refine Ld.qw h hL rfl ?_|refine ae.qw (fun _ h=>h) hL rfl ?_|refine ⟨h.hb,?_⟩|(refine St.q h hL rfl rfl rfl fun w h=> ?_;dsimp only [an,af] at h)|refine aa.yes ?_|refine aa.no ?_|refine ⟨by first|omega|decide,?_⟩)
 refine ⟨by omega,by omega,by omega,by simp,?_⟩
 rw [if_neg (by decide)]
 simp only [Option.map_some,au,show (0:Int).toNat=0 from rfl,Nat.zero_mul,Nat.zero_add,show (1:Int).toNat=1 from rfl,show (256:Int).toNat=256 from rfl,Nat.sub_zero]
 (with_reducible repeat first|refine Nw.mk h fun b w h=> ?_|refine aq.mk h fun w h=> ?_|refine Ld.q h hL rfl rfl ?_|refine ae.q (fun _ h=>h) hL rfl rfl ?_|refine Ld.p h hL ?_|refine ae.p (fun _ h=>h) hL ?_|refine Ld.qw h hL rfl ?_|refine ae.qw (fun _ h=>h) hL rfl ?_|refine ⟨h.hb,?_⟩|(refine St.q h hL rfl rfl rfl fun w h=> ?_;dsimp only [an,af] at h)|refine aa.yes ?_|refine aa.no ?_|refine ⟨by first|omega|decide,?_⟩)
 refine Ey (s:=⟨some ⟨b,0,none⟩,1,256⟩) (c:=L.getD 0 0) h ?_ hr fun s' w h=>hK _ _ (h.at 1).drop
 rintro w' f a ⟨g,k,hd,rfl,rfl,h2⟩
 refine ⟨rfl,fun i hi=>⟨⟨b,0,none⟩,rfl,?_⟩⟩
 have:w'.heap[b]? =some (.cells (gS L left (run:Int) digits d) 149 (0,0)):=a b _ (by simp [aK.add,aK.one])
 simp only [List.length_singleton] at hi
 have hi0:i=0:=by omega
 subst hi0
 rw [au]
 simp only [World.cell?,this]
 simp [List.getElem?_append,hl,List.getD_eq_getElem?_getD]
theorem Fq {d:DS} {s:Nat} {K:Array Value→Sl→Bool→World→Prop} (h:Hp E w F) (hd:jQ d) (hs:s<258)
  (hn: ∀o sl w',bV d s=none→o.size=260→o.toList.all aw=true→Hp E w' F→K o sl false w')
  (hm: ∀d' t sl w',bV d s=some (d',t,false)→Hp E w' (ah 1 sl (t.map vB)::F)→K (gS d'.L (d'.left:Int) (d'.run:Int) (d'.digits:Int) false) sl true w')
  (he: ∀d' t sl w',bV d s=some (d',t,true)→Hp E w' (ah 1 sl (t.map vB)::F)→K (gS d.L 0 0 0 true) sl true w'):
  Cl Tryz.prog [.arr 260,kS,kB] kL ⟨[.agg (gS d.L (d.left:Int) (d.run:Int) (d.digits:Int) false),.int .i64 (s:Int)]⟩ w K:=by
 have hdig:=hd.bP
 obtain ⟨L,left,run,digits⟩:=d
 obtain ⟨h1,h2,h3,h4,h5⟩:=hd
 unfold bV at hn hm he
 dsimp only at h1 h2 h3 h4 h5 hdig hn hm he⊢
 have hl:=h1.len
 have hL:=fK hl
 have hz:(⟨List.replicate 256 (.int .u8 0)++ [.int .i64 0,.int .i64 0,.int .i64 0,.bool false]⟩:Array Value).size=260:=by simp
 have hp:2^digits≤65536:=Nat.pow_le_pow_right (n:=2) (by decide) hdig
 refine Aj.ok _ _ _ _ ?_
 (try simp only [aH,ay,au,Nat.zero_add,Nat.add_zero,Nat.reduceAdd,Bool.not_true,Bool.not_false,aZ,aY,Option.isNone])
 refine Nw.mk h fun b4 w h=>Nw.mk h fun b6 w h=> ?_
 by_cases hs2:s<2
 ·simp only [if_pos hs2] at hn hm he
  have hb:(1+s)*2^digits≤131072:=by
   have:=Nat.mul_le_mul (show 1+s≤2 by omega) hp
   omega
  have fin: ∀w,Hp E w (aj b6 (.cells ⟨List.replicate 256 (.int .u8 0)++ [.int .i64 0,.int .i64 0,.int .i64 0,.bool false]⟩ 149 (0,0))::aj b4 (.cells (gS L (left:Int) (run:Int) (digits:Int) false) 149 (0,0))::F)→
   Ld kI ⟨b4,257,none⟩ w fun (Run10:Int)=>Ld kI ⟨b4,258,none⟩ w fun (Digits11:Int)=>
   Cl Tryz.prog [kI,kI] iA ⟨[.int .i64 Run10,.int .i64 Digits11,.int .i64 (s:Int)]⟩ w fun r13 _ w_12=>
   St ⟨b4,257,none⟩ (.int .i64 r13) w_12 fun w_15=>Ld kI ⟨b4,258,none⟩ w_15 fun (Digits16:Int)=>St ⟨b4,258,none⟩ (.int .i64 (i64 (Digits16+1))) w_15 fun w_17=>
   eB w_17 fun S18 w_19=>ae (.arr 260) ⟨b4,0,none⟩ S18 fun x20=>ae kI ⟨b4,257,none⟩ S18 fun (Run21:Int)=>ae kI ⟨b4,256,none⟩ S18 fun (Left22:Int)=>
   ar 260 ⟨b6,0,none⟩ x20 w_19 fun w_23=>S18 w_23∧Ld (.arr 260) ⟨b6,0,none⟩ w_23 fun res24=>K res24 ⟨none,0,0⟩ (decide (Run21≤Left22)) w_23:=by
   intro w h
   (with_reducible repeat first|refine Nw.mk h fun b w h=> ?_|refine aq.mk h fun w h=> ?_|refine Ld.q h hL rfl rfl ?_|refine ae.q (fun _ h=>h) hL rfl rfl ?_|refine Ld.p h hL ?_|refine ae.p (fun _ h=>h) hL ?_|refine Ld.qw h hL rfl ?_|refine ae.qw (fun _ h=>h) hL rfl ?_|refine ⟨h.hb,?_⟩|(refine St.q h hL rfl rfl rfl fun w h=> ?_;dsimp only [an,af] at h)|refine aa.yes ?_|refine aa.no ?_|refine ⟨by first|omega|decide,?_⟩)
   refine HW (by omega) hdig (by omega) ?_
   generalize (1+s)*2^digits=q at hb hm hn⊢
   (with_reducible repeat first|refine Nw.mk h fun b w h=> ?_|refine aq.mk h fun w h=> ?_|refine Ld.q h hL rfl rfl ?_|refine ae.q (fun _ h=>h) hL rfl rfl ?_|refine Ld.p h hL ?_|refine ae.p (fun _ h=>h) hL ?_|refine Ld.qw h hL rfl ?_|refine ae.qw (fun _ h=>h) hL rfl ?_|refine ⟨h.hb,?_⟩|(refine St.q h hL rfl rfl rfl fun w h=> ?_;dsimp only [an,af] at h)|refine aa.yes ?_|refine aa.no ?_|refine ⟨by first|omega|decide,?_⟩)
   rw [ad (by omega)] at h
   have h:=h.drew (n:=w.drawn+1)
   refine ⟨cj b4 _ _ _,h.hb,?_⟩
   dsimp only
   (with_reducible repeat first|refine Nw.mk h fun b w h=> ?_|refine aq.mk h fun w h=> ?_|refine Ld.q h hL rfl rfl ?_|refine ae.q (fun _ h=>h) hL rfl rfl ?_|refine Ld.p h hL ?_|refine ae.p (fun _ h=>h) hL ?_|refine Ld.qw h hL rfl ?_|refine ae.qw (fun _ h=>h) hL rfl ?_|refine ⟨h.hb,?_⟩|(refine St.q h hL rfl rfl rfl fun w h=> ?_;dsimp only [an,af] at h)|refine aa.yes ?_|refine aa.no ?_|refine ⟨by first|omega|decide,?_⟩)
   refine ar.q h hz (aQ hl) bb fun w h=>⟨h.hb,?_⟩
   (with_reducible repeat first|refine Nw.mk h fun b w h=> ?_|refine aq.mk h fun w h=> ?_|refine Ld.q h hL rfl rfl ?_|refine ae.q (fun _ h=>h) hL rfl rfl ?_|refine Ld.p h hL ?_|refine ae.p (fun _ h=>h) hL ?_|refine Ld.qw h hL rfl ?_|refine ae.qw (fun _ h=>h) hL rfl ?_|refine ⟨h.hb,?_⟩|(refine St.q h hL rfl rfl rfl fun w h=> ?_;dsimp only [an,af] at h)|refine aa.yes ?_|refine aa.no ?_|refine ⟨by first|omega|decide,?_⟩)
   by_cases hle:run+q≤left
   ·rw [if_pos hle] at hm
    exact iW (K:=fun b w=>K _ _ b w) (decide_eq_true (by omega)) (hm ⟨L,left,run+q,digits+1⟩ [] _ _ rfl (h.tl.bl 1))
   ·rw [if_neg hle] at hn
    exact iW (K:=fun b w=>K _ _ b w) (decide_eq_false (by omega)) (hn _ _ _ rfl (aQ hl) bb h.tl)
  by_cases h0:s=0
  ·exact aa.et (by omega) (fin _ h)
  ·refine aa.ef (by omega) ?_
   exact aa.et (by omega) (fin _ h)
 ·simp only [if_neg hs2] at hn hm he
  refine aa.ef (by omega) (aa.ef (by omega) ?_)
  by_cases hs3:s=257
  ·simp only [if_pos hs3] at hn hm he
   refine aa.et (by omega) ?_
   have h:=h.drew (n:=w.drawn+1)
   refine ⟨cj b4 _ _ _,h.hb,?_⟩
   dsimp only
   (with_reducible repeat first|refine Nw.mk h fun b w h=> ?_|refine aq.mk h fun w h=> ?_|refine Ld.q h hL rfl rfl ?_|refine ae.q (fun _ h=>h) hL rfl rfl ?_|refine Ld.p h hL ?_|refine ae.p (fun _ h=>h) hL ?_|refine Ld.qw h hL rfl ?_|refine ae.qw (fun _ h=>h) hL rfl ?_|refine ⟨h.hb,?_⟩|(refine St.q h hL rfl rfl rfl fun w h=> ?_;dsimp only [an,af] at h)|refine aa.yes ?_|refine aa.no ?_|refine ⟨by first|omega|decide,?_⟩)
   refine cK.J7 hl ?_
   (with_reducible repeat first|refine Nw.mk h fun b w h=> ?_|refine aq.mk h fun w h=> ?_|refine Ld.q h hL rfl rfl ?_|refine ae.q (fun _ h=>h) hL rfl rfl ?_|refine Ld.p h hL ?_|refine ae.p (fun _ h=>h) hL ?_|refine Ld.qw h hL rfl ?_|refine ae.qw (fun _ h=>h) hL rfl ?_|refine ⟨h.hb,?_⟩|(refine St.q h hL rfl rfl rfl fun w h=> ?_;dsimp only [an,af] at h)|refine aa.yes ?_|refine aa.no ?_|refine ⟨by first|omega|decide,?_⟩)
   refine AN h hl (by omega) fun sl w h=>⟨h.hb,?_⟩
   refine ar.q h hz (aQ hl) bb fun w h=>⟨h.hb,?_⟩
   refine Ld.xw h (aQ hl) ?_
   by_cases hrl:run=left
   ·rw [if_pos hrl] at he
    exact iW (K:=fun b w=>K _ _ b w) (beq_iff_eq.2 (by omega)) (he _ _ _ _ rfl ((h.no 1).no 1))
   ·rw [if_neg hrl] at hn
    exact iW (K:=fun b w=>K _ _ b w) (beq_eq_false_iff_ne.2 (by omega)) (hn _ _ _ rfl (aQ hl) bb h.tl)
  ·simp only [if_neg hs3] at hn hm he
   refine aa.ef (by omega) ?_
   (with_reducible repeat first|refine Nw.mk h fun b w h=> ?_|refine aq.mk h fun w h=> ?_|refine Ld.q h hL rfl rfl ?_|refine ae.q (fun _ h=>h) hL rfl rfl ?_|refine Ld.p h hL ?_|refine ae.p (fun _ h=>h) hL ?_|refine Ld.qw h hL rfl ?_|refine ae.qw (fun _ h=>h) hL rfl ?_|refine ⟨h.hb,?_⟩|(refine St.q h hL rfl rfl rfl fun w h=> ?_;dsimp only [an,af] at h)|refine aa.yes ?_|refine aa.no ?_|refine ⟨by first|omega|decide,?_⟩)
   by_cases hrl:run=left
   ·rw [if_pos hrl] at hn
    refine aa.et (by omega) ?_
    (with_reducible repeat first|refine Nw.mk h fun b w h=> ?_|refine aq.mk h fun w h=> ?_|refine Ld.q h hL rfl rfl ?_|refine ae.q (fun _ h=>h) hL rfl rfl ?_|refine Ld.p h hL ?_|refine ae.p (fun _ h=>h) hL ?_|refine Ld.qw h hL rfl ?_|refine ae.qw (fun _ h=>h) hL rfl ?_|refine ⟨h.hb,?_⟩|(refine St.q h hL rfl rfl rfl fun w h=> ?_;dsimp only [an,af] at h)|refine aa.yes ?_|refine aa.no ?_|refine ⟨by first|omega|decide,?_⟩)
    refine ar.q h hz (aQ hl) bb fun w h=> ?_
    (with_reducible repeat first|refine Nw.mk h fun b w h=> ?_|refine aq.mk h fun w h=> ?_|refine Ld.q h hL rfl rfl ?_|refine ae.q (fun _ h=>h) hL rfl rfl ?_|refine Ld.p h hL ?_|refine ae.p (fun _ h=>h) hL ?_|refine Ld.qw h hL rfl ?_|refine ae.qw (fun _ h=>h) hL rfl ?_|refine ⟨h.hb,?_⟩|(refine St.q h hL rfl rfl rfl fun w h=> ?_;dsimp only [an,af] at h)|refine aa.yes ?_|refine aa.no ?_|refine ⟨by first|omega|decide,?_⟩)
    exact hn _ _ _ rfl (aQ hl) bb h.tl
   ·rw [if_neg hrl] at hm
    refine aa.ef (by omega) ?_
    (with_reducible repeat first|refine Nw.mk h fun b w h=> ?_|refine aq.mk h fun w h=> ?_|refine Ld.q h hL rfl rfl ?_|refine ae.q (fun _ h=>h) hL rfl rfl ?_|refine Ld.p h hL ?_|refine ae.p (fun _ h=>h) hL ?_|refine Ld.qw h hL rfl ?_|refine ae.qw (fun _ h=>h) hL rfl ?_|refine ⟨h.hb,?_⟩|(refine St.q h hL rfl rfl rfl fun w h=> ?_;dsimp only [an,af] at h)|refine aa.yes ?_|refine aa.no ?_|refine ⟨by first|omega|decide,?_⟩)
    rw [ad (by omega),show (s:Int) - 1=((s - 1:Nat):Int) by omega]
    refine Bc h hl (by omega) fun w h=> ?_
    have hml:(br L (s - 1)).length=256:=by rw [Da (by omega)];exact hl
    have hM:(⟨bk (br L (s - 1))⟩:Array Value).size=256:=by simp [hml]
    refine Nw.mk h fun b47 w h=> ?_
    refine ar.q h (by simp) hM cM fun w h=> ?_
    (with_reducible repeat first|refine Nw.mk h fun b w h=> ?_|refine aq.mk h fun w h=> ?_|refine Ld.q h hL rfl rfl ?_|refine ae.q (fun _ h=>h) hL rfl rfl ?_|refine Ld.p h hL ?_|refine ae.p (fun _ h=>h) hL ?_|refine Ld.qw h hL rfl ?_|refine ae.qw (fun _ h=>h) hL rfl ?_|refine ⟨h.hb,?_⟩|(refine St.q h hL rfl rfl rfl fun w h=> ?_;dsimp only [an,af] at h)|refine aa.yes ?_|refine aa.no ?_|refine ⟨by first|omega|decide,?_⟩)
    refine AN h hl (by omega) fun sl w h=> ?_
    refine Nw.mk h fun b53 w h=> ?_
    have hsl:=(h.at 1).aO
    simp only [List.length_map,List.length_replicate,Nat.mul_one] at hsl
    refine aM (ys:= [vB (L.getD (s - 1) 0)]) (n:=1) D8 (by decide) (.inl ⟨5,by kernel_rfl⟩) (h.at 1) (.inl ⟨some ⟨b53,0,none⟩,1,1,rfl,rfl,h.ag (ab.aD rfl rfl)⟩) rfl (fun y hy=>by simp at hy;subst hy;rfl) (by omega) (by omega) fun s' w h hs'=> ?_
    refine Ld.xw h hM ?_
    (with_reducible repeat first|refine Nw.mk h fun b w h=> ?_|refine aq.mk h fun w h=> ?_|refine Ld.q h hL rfl rfl ?_|refine ae.q (fun _ h=>h) hL rfl rfl ?_|refine Ld.p h hL ?_|refine ae.p (fun _ h=>h) hL ?_|refine Ld.qw h hL rfl ?_|refine ae.qw (fun _ h=>h) hL rfl ?_|refine ⟨h.hb,?_⟩|(refine St.q h hL rfl rfl rfl fun w h=> ?_;dsimp only [an,af] at h)|refine aa.yes ?_|refine aa.no ?_|refine ⟨by first|omega|decide,?_⟩)
    rw [hs',ad (by omega),show (left:Int) - ((sl.len+1:Nat):Int)=((left - (run+1):Nat):Int) by omega]
    refine cK.JS hml ?_
    refine ar.q h hz (aQ hml) bb fun w h=> ?_
    refine Ld.xw h (aQ hml) ?_
    refine hm ⟨br L (s - 1),left - (run+1),0,0⟩ _ _ _ rfl ?_
    have e:(List.replicate run (L.getD 0 0)).map vB++ [vB (L.getD (s - 1) 0)]=(List.replicate run (L.getD 0 0)++ [L.getD (s - 1) 0]).map vB:=by simp
    rw [e] at h
    exact (((h.no 1).no 1).no 1).no 1
theorem FJ {d:DS} {s:Nat} {K:Array Value→Sl→Bool→Int→World→Prop} (h:Hp E w F) (hd:jQ d) (hs:s<258)
  (hn: ∀o w',bV d s=none→o.size=260→o.toList.all aw=true→Hp E w' F→K o ⟨none,0,0⟩ false 160 w')
  (hm: ∀d' t sl w',bV d s=some (d',t,false)→Hp E w' (ah 1 sl (t.map vB)::F)→K (gS d'.L (d'.left:Int) (d'.run:Int) (d'.digits:Int) false) sl false 0 w')
  (he: ∀d' t sl w',bV d s=some (d',t,true)→Hp E w' (ah 1 sl (t.map vB)::F)→K (gS d.L 0 0 0 true) sl true 0 w'):
  Cl Tryz.prog [.arr 260,kS,kB,kI] kK ⟨[.agg (gS d.L (d.left:Int) (d.run:Int) (d.digits:Int) false),.int .i64 (s:Int)]⟩ w K:=by
 have hl:=hd.1.len
 have hL:=fK hl
 have hz:(⟨List.replicate 256 (.int .u8 0)++ [.int .i64 0,.int .i64 0,.int .i64 0,.bool false]⟩:Array Value).size=260:=by simp
 refine zV.ok _ _ _ _ ?_
 (try simp only [aH,ay,au,Nat.zero_add,Nat.add_zero,Nat.reduceAdd,Bool.not_true,Bool.not_false,aZ,aY,Option.isNone])
 refine Nw.mk h fun b4 w h=>Nw.mk h fun b6 w h=> ?_
 (with_reducible repeat first|refine Nw.mk h fun b w h=> ?_|refine aq.mk h fun w h=> ?_|refine Ld.q h hL rfl rfl ?_|refine ae.q (fun _ h=>h) hL rfl rfl ?_|refine Ld.p h hL ?_|refine ae.p (fun _ h=>h) hL ?_|refine Ld.qw h hL rfl ?_|refine ae.qw (fun _ h=>h) hL rfl ?_|refine ⟨h.hb,?_⟩|(refine St.q h hL rfl rfl rfl fun w h=> ?_;dsimp only [an,af] at h)|refine aa.yes ?_|refine aa.no ?_|refine ⟨by first|omega|decide,?_⟩)
 refine Dw h hd fun w h=> ?_
 (with_reducible repeat first|refine Nw.mk h fun b w h=> ?_|refine aq.mk h fun w h=> ?_|refine Ld.q h hL rfl rfl ?_|refine ae.q (fun _ h=>h) hL rfl rfl ?_|refine Ld.p h hL ?_|refine ae.p (fun _ h=>h) hL ?_|refine Ld.qw h hL rfl ?_|refine ae.qw (fun _ h=>h) hL rfl ?_|refine ⟨h.hb,?_⟩|(refine St.q h hL rfl rfl rfl fun w h=> ?_;dsimp only [an,af] at h)|refine aa.yes ?_|refine aa.no ?_|refine ⟨by first|omega|decide,?_⟩)
 refine Fq h hd hs (fun o sl w hq ho hos h=> ?_) (fun d' t sl w hq h=> ?_) (fun d' t sl w hq h=> ?_)
 ·refine ar.q h hz ho hos fun w h=> ?_
  (with_reducible repeat first|refine Nw.mk h fun b w h=> ?_|refine aq.mk h fun w h=> ?_|refine Ld.q h hL rfl rfl ?_|refine ae.q (fun _ h=>h) hL rfl rfl ?_|refine Ld.p h hL ?_|refine ae.p (fun _ h=>h) hL ?_|refine Ld.qw h hL rfl ?_|refine ae.qw (fun _ h=>h) hL rfl ?_|refine ⟨h.hb,?_⟩|(refine St.q h hL rfl rfl rfl fun w h=> ?_;dsimp only [an,af] at h)|refine aa.yes ?_|refine aa.no ?_|refine ⟨by first|omega|decide,?_⟩)
  refine ar.q h ho (aQ hl) bb fun w h=> ?_
  refine Ld.xw h (aQ hl) ?_
  exact hn _ _ hq (aQ hl) bb h.tl
 ·have hl':=(AJ hd hs hq).1.1.len
  have hL:=fK hl'
  refine ar.q h hz (aQ hl') bb fun w h=> ?_
  (with_reducible repeat first|refine Nw.mk h fun b w h=> ?_|refine aq.mk h fun w h=> ?_|refine Ld.q h hL rfl rfl ?_|refine ae.q (fun _ h=>h) hL rfl rfl ?_|refine Ld.p h hL ?_|refine ae.p (fun _ h=>h) hL ?_|refine Ld.qw h hL rfl ?_|refine ae.qw (fun _ h=>h) hL rfl ?_|refine ⟨h.hb,?_⟩|(refine St.q h hL rfl rfl rfl fun w h=> ?_;dsimp only [an,af] at h)|refine aa.yes ?_|refine aa.no ?_|refine ⟨by first|omega|decide,?_⟩)
  refine ar.q h (aQ hl') (aQ hl') bb fun w h=> ?_
  refine Ld.xw h (aQ hl') ?_
  exact hm _ _ _ _ hq ((h.no 1).no 1)
 ·refine ar.q h hz (aQ hl) bb fun w h=> ?_
  (with_reducible repeat first|refine Nw.mk h fun b w h=> ?_|refine aq.mk h fun w h=> ?_|refine Ld.q h hL rfl rfl ?_|refine ae.q (fun _ h=>h) hL rfl rfl ?_|refine Ld.p h hL ?_|refine ae.p (fun _ h=>h) hL ?_|refine Ld.qw h hL rfl ?_|refine ae.qw (fun _ h=>h) hL rfl ?_|refine ⟨h.hb,?_⟩|(refine St.q h hL rfl rfl rfl fun w h=> ?_;dsimp only [an,af] at h)|refine aa.yes ?_|refine aa.no ?_|refine ⟨by first|omega|decide,?_⟩)
  refine ar.q h (aQ hl) (aQ hl) bb fun w h=> ?_
  refine Ld.xw h (aQ hl) ?_
  exact he _ _ _ _ hq ((h.no 1).no 1)
end
end Go.Proofs.YtcdpblipagajiaaGreat
set_option maxRecDepth 20000
namespace Go.aj
open Go.Inc Go.Srt Go.Sym Go.Bits
structure CS where
 c:Nat
 n:Nat
 d:DS
 acc:List Nat
def cW (l:List Nat) (s:CS) (x:Nat):sH CS (List Nat) Nat:=match fz l (2*s.c+x) (s.n+1) with
 |none=> .more ⟨2*s.c+x,s.n+1,s.d,s.acc⟩
 |some y=>match bV s.d y with
  |none=> .bad 160
  |some (_,t,true)=> .fin (s.acc++t)
  |some (d',t,false)=> .more ⟨0,0,d',s.acc++t⟩
theorem Br {l:List Nat} {s:CS} {x:Nat} (h:fz l (2*s.c+x) (s.n+1)=none):cW l s x= .more ⟨2*s.c+x,s.n+1,s.d,s.acc⟩:=by unfold cW;rw [h]
theorem AZ {l:List Nat} {s:CS} {x y:Nat} (h:fz l (2*s.c+x) (s.n+1)=some y):cW l s x=match bV s.d y with
  |none=> .bad 160
  |some (_,t,true)=> .fin (s.acc++t)
  |some (d',t,false)=> .more ⟨0,0,d',s.acc++t⟩:=by unfold cW;rw [h]
section
variable {l:List Nat}
theorem Bj (hl:l.length=258) (hv:aS l≤32768) {s:Nat} (hs:jy l s) (rest acc:List Nat) (d:DS): ∀k m,m+k=l.getD s 0→0<k→
  run (cW l) ⟨code l s/2^(l.getD s 0 - m),m,d,acc⟩ ((bn (l.getD s 0) (code l s)).drop m++rest)=match bV d s with
   |none=> .bad 160
   |some (_,t,true)=> .fin (acc++t) rest
   |some (d',t,false)=>run (cW l) ⟨0,0,d',acc++t⟩ rest
 |0,_,_,h=>by omega
 |k+1,m,hm,_=>by
  have h15:=fT hv s
  have hlen:=oC (l.getD s 0) (code l s)
  have hlt:m<(bn (l.getD s 0) (code l s)).length:=by omega
  rw [List.drop_eq_getElem_cons hlt,List.cons_append]
  have hx:(bn (l.getD s 0) (code l s))[m]=code l s/2^(l.getD s 0 - 1 - m) % 2:=by
   rw [←xB _ _ _ (by omega),bX hlt]
  have hc:2*(code l s/2^(l.getD s 0 - m))+(bn (l.getD s 0) (code l s))[m]=code l s/2^(l.getD s 0 - (m+1)):=by
   rw [hx,show l.getD s 0 - m=(l.getD s 0 - 1 - m)+1 by omega,Nat.pow_succ,←Nat.div_div_eq_div_mul,show l.getD s 0 - (m+1)=l.getD s 0 - 1 - m by omega]
   omega
  by_cases e:k=0
  ·subst e
   have e1:m+1=l.getD s 0:=by omega
   have hf:fz l (2*(code l s/2^(l.getD s 0 - m))+(bn (l.getD s 0) (code l s))[m]) (m+1)=some s:=by
    rw [hc,e1,Nat.sub_self,Nat.pow_zero,Nat.div_one,sE hl hs]
   have hcs:=AZ (s:=⟨code l s/2^(l.getD s 0 - m),m,d,acc⟩) hf
   rw [dG,hcs,List.drop_of_length_le (by omega),List.nil_append]
   cases hd:bV d s with
   |none=>rfl
   |some p=>
    obtain ⟨d',t,b⟩:=p
    cases b<;>rfl
  ·have hf:fz l (2*(code l s/2^(l.getD s 0 - m))+(bn (l.getD s 0) (code l s))[m]) (m+1)=none:=by
    rw [hc,C9 hl hv hs (by omega)]
   have hcs:=Br (s:=⟨code l s/2^(l.getD s 0 - m),m,d,acc⟩) hf
   rw [bD hcs]
   simp only
   rw [hc]
   exact Bj hl hv hs rest acc d k (m+1) (by omega) (by omega)
theorem IU (hl:l.length=258) (hv:aS l≤32768) {s:Nat} (hs:jy l s) (rest acc:List Nat) (d:DS):run (cW l) ⟨0,0,d,acc⟩ (ya l s++rest)=match bV d s with
   |none=> .bad 160
   |some (_,t,true)=> .fin (acc++t) rest
   |some (d',t,false)=>run (cW l) ⟨0,0,d',acc++t⟩ rest:=by
 have h:=Bj hl hv hs rest acc d (l.getD s 0) 0 (by omega) hs.2
 have hc:=AE hl hv hs.1 hs.2
 rw [Nat.sub_zero,Nat.div_eq_of_lt hc,List.drop_zero] at h
 exact h
theorem zr (hl:l.length=258) (hv:aS l≤32768): ∀(ss rest acc:List Nat) (d:DS),(∀s∈ss,jy l s)→run (cW l) ⟨0,0,d,acc⟩ (enc l ss++rest)=match run fx (d,acc) ss with
   | .bad e=> .bad e
   | .fin t r=> .fin t (enc l r++rest)
   | .short (d',acc')=>run (cW l) ⟨0,0,d',acc'⟩ rest
 | [],rest,acc,d,_=>rfl
 |s::ss,rest,acc,d,h=>by
  rw [zy,List.append_assoc,IU hl hv (h s (by simp)),dG]
  cases hd:bV d s with
  |none=>rw [qN hd]
  |some p=>
   obtain ⟨d',t,b⟩:=p
   cases b with
   |true=>rw [Bq hd]
   |false=>
    rw [mo hd]
    exact zr hl hv ss rest _ d' fun t ht=>h t (by simp [ht])
end
end Go.aj
