/- Texts packed together by program; spaces struck by program. Conditions: as each theorem states. -/
import Derived.Carry
import Derived.Ground.SlsfProg
import Derived.Laws.AppendOwn
import Derived.Laws.BytesArg
import Derived.Laws.CopyRow
import Derived.Laws.IdiomCopy
import Derived.Laws.IdiomStrings
import Derived.Laws.MakeOwn
import Derived.Lib.BytesEntry
import Derived.Lib.MakeNoZero
import Derived.MapKept
import Derived.OpenShut
import Derived.OrdersIn
import Derived.ProofKit
import Derived.RangeFuncRecord
import Derived.ScopeJumps
import Derived.Shelf.SlGeneric
import Derived.Shelf.SlSortCmp.NoneTotal
import Derived.SizedLaws
import Derived.TacticsIn
import Derived.Test.YtcdpblipagajiaaGreatChecked
import Derived.Test.YtcdpblipagajiaaGreatProg
import Derived.Test.YtcdpblipagajiaaGreatQka
set_option linter.unusedSimpArgs false
set_option linter.unusedVariables false
namespace Go.Vc
open Go
noncomputable section
variable {nn:Nat} {dfs:List Deferred}
abbrev FW (ro:Option Nat):Fence:={Fence.wide with round:=ro}
def JK (P:Program) (l:Nat) (args:List Value) (w:World) (K:Bool→World→Prop):Prop:=
 ∃fn tmps assign body,(Instr.yield l ⟨args⟩).run P w= .ok (.round l fn tmps assign body) w∧
  RoundIn Fence.wide 0 P l fn tmps assign body w fun e w'=> ∃b,e= .returned (.bool b)∧K b w'
def jR (P:Program) (v:Value) (ks:List Ki) (args:List Value) (w:World) (K:dK ks (World→Prop)):Prop:=
 match v with
 | .func (.func i) first captured=>gW P (.func (.func i) first captured) ks args w K
 | .func (.yield l) first _=>JK P l (first.toList++args) w fun b w'=>eW ks (.bool b) K w'
 |_=>False
def r0 (P:Program) (f:AF) (o:Oper) (w:World) (K:Option Value→World→Prop):Prop:=
 match o.op with
 | .call c=>match c.callee with
  | .value x=>match ev f x,nq f c.args.toList,yl P o.type with
   |some v,some vs,some ks=>jR P v ks vs w (fj ks [] fun us w'=>K (some (dq us)) w')
   |_,_,_=>False
  |_=>fT P f o w K
 |_=>fT P f o w K
theorem GP {P:Program} {l:Nat} {args:List Value} {w:World} {K K':Bool→World→Prop} (h1: ∀b w,K b w→K' b w) (h:JK P l args w K):JK P l args w K':=by
 obtain ⟨fn,tmps,assign,body,h2,h3⟩:=h
 exact ⟨fn,tmps,assign,body,h2,h3.mono fun e w' ⟨b,e1,e2⟩=>⟨b,e1,h1 _ _ e2⟩⟩
theorem FZ {P:Program} {v:Value} {ks:List Ki} {args:List Value} {w:World} {g g':List Value→World→Prop} (h1: ∀vs w,g vs w→g' vs w) (h:jR P v ks args w (fj ks [] g)):jR P v ks args w (fj ks [] g'):=by
 unfold jR at h⊢
 split at h
 ·exact zB (v:= .func (.func _) _ _) h1 h
 ·exact GP (fun b w h=>fK (fun vs h=>h1 vs w h) h) h
 ·exact h.elim
theorem u9 {P:Program} {f:AF} {o:Oper} {w:World} {K K':Option Value→World→Prop} (h1: ∀v w,K v w→K' v w) (h:r0 P f o w K):r0 P f o w K':=by
 unfold r0 at h⊢
 split at h
 ·split at h
  ·split at h
   ·exact FZ (fun vs w h=>h1 _ _ h) h
   ·exact h.elim
  ·exact bZ h1 h
 ·exact bZ h1 h
theorem CT {P:Program} {ro:Option Nat} {n:Nat} {o:Oper} {a:Act} {w:World} {next:Act→World→Prop} {Q:Exit→Act→World→Prop} (hd: ∀c,o.op≠ .defer c) (h:o.wp P a w next Q):o.wpIn (FW ro) n P a w next Q:=by
 refine ⟨fun _ _=>trivial,?_⟩
 have e:o.semAt (FW ro).round a.eval=execOp a.eval o:=by
  cases ro with
  |none=>rfl
  |some l=>exact Oper.semAt_some l _ _ hd
 rw [e]
 unfold Oper.wp at h
 generalize (execOp a.eval o).run P w=r at h
 cases r with
 |ok x w'=>
  cases x<;>simp only [Oper.upon] at h<;>first|exact h.elim|exact h|skip
  ·exact ⟨fun hh=>(by cases hh),(callsIn_wide (n:=n - 1)).2 (h.mono fun e w'' he=>by cases e<;>exact he)⟩
  ·refine ⟨fun hh=>(by cases hh),fun c cs _=> ?_⟩
   obtain ⟨v,w',hr,hs⟩:=h c cs
   exact ⟨v,w',hr,stepsIn_wide.2 hs⟩
 |halt x w'=>cases x<;>simp only [Oper.upon] at h<;>first|exact h.elim|exact h
theorem wa {P:Program} {ro:Option Nat} {n:Nat} {w:World} {a:Act} {f:AF} (hr:Rel nn dfs a f) {o:Oper} {K:Option Value→World→Prop} (h:r0 P f o w K)
  {next:Act→World→Prop} {Q:Exit→Act→World→Prop} (hn: ∀v ov w',K ov w'→(∀v',ov=some v'→v=v')→next (a.put o.dst v) w'):o.wpIn (FW ro) n P a w next Q:=by
 obtain ⟨dst,op,ty,pos,after,guard⟩:=o
 unfold r0 at h
 simp only at h hn
 have plain:fT P f ⟨dst,op,ty,pos,after,guard⟩ w K→(∀c,op≠ .defer c)→Oper.wpIn (FW ro) n P ⟨dst,op,ty,pos,after,guard⟩ a w next Q:=fun h hd=>CT hd (mn hr h hn)
 split at h
 ·rename_i c
  split at h
  ·rename_i x hx0
   split at h
   ·rename_i v vs ks hx hvs hks
    obtain ⟨callee,args,tys⟩:=c
    simp only at hx0 hvs
    subst hx0
    have cv:gW P v ks vs w (fj ks [] fun us w'=>K (some (dq us)) w')→Oper.wpIn (FW ro) n P ⟨dst,.call ⟨.value x,args,tys⟩,ty,pos,after,guard⟩ a w next Q:=fun h=>by
     refine plain ?_ (fun c=>by simp)
     unfold fT
     simp only [eB,nD,hx,hvs,hks]
     exact h
    unfold jR at h
    split at h
    ·exact cv h
    ·rename_i l first captured
     obtain ⟨fn,tmps,assign,body,h1,h2⟩:=h
     refine ⟨fun _ _=>trivial,?_⟩
     have e:Oper.semAt (FW ro).round a.eval ⟨dst,.call ⟨.value x,args,tys⟩,ty,pos,after,guard⟩=execOp a.eval ⟨dst,.call ⟨.value x,args,tys⟩,ty,pos,after,guard⟩:=by
      cases ro with
      |none=>rfl
      |some l=>exact Oper.semAt_some l _ _ (fun c=>by simp)
     have he:(execOp a.eval ⟨dst,.call ⟨.value x,args,tys⟩,ty,pos,after,guard⟩).run P w= .ok (.round l fn tmps assign body) w:=by
      simp only [execOp,resolve,Sem.run_bind,hr.ev hx,Deferred.ofValue,Sem.run_pure,Result.andThen_ok,invoke,gG hr hvs]
      rw [←h1]
      congr 2
      cases first;simp
     rw [e,he]
     refine ⟨fun hh=>(by cases hh),?_⟩
     refine RoundIn.mono (R:=fun e w'=> ∃b,e= .returned (.bool b)∧eW ks (.bool b) (fj ks [] fun us w'=>K (some (dq us)) w') w') ⟨h2.1,fun c cs _=>h2.2 c cs (room_wide _)⟩ ?_
     rintro e w' ⟨b,rfl,hb⟩
     obtain ⟨us,e1,e2⟩:=gg hb
     have:=hn (.bool b) (some (dq us)) w' e2 (fun v' e=>by rw [e1];simpa using e)
     exact this
    ·exact h.elim
   ·exact h.elim
  ·refine plain h (fun c=>by simp)
 ·rename_i op' hop
  refine plain h (fun c hc=> ?_)
  subst hc
  unfold fT at h
  simp only [eB,nD] at h
def ox (P:Program) (ops:Array Oper):List Oper→AF→World→(AF→World→Prop)→Prop
 | [],f,w,K=>K f w
 |o::rest,f,w,K=>guarded ops o f (fun f=>r0 P f o w fun v w'=>ox P ops rest (bc f o.dst v) w' K) (fun f=>ox P ops rest (bc f o.dst (some undef)) w K)
theorem oN {P:Program} {ro:Option Nat} {n:Nat} {ops:Array Oper} {Q:Exit→Act→World→Prop} {K:AF→World→Prop} (hQ: ∀a f w,Rel nn dfs a f→K f w→Q .normal a w):
  ∀(l:List Oper) (f:AF) (w:World) (a:Act),Rel nn dfs a f→ox P ops l f w K→wpListIn (FW ro) n P ops Q l a w
 | [],f,w,a,hr,h=>hQ a f w hr h
 |o::rest,f,w,a,hr,h=>by
  obtain ⟨f',hr',h1|h1⟩:=cw hr h
  ·simp only [wpListIn,h1.1,if_true]
   exact wa hr' h1.2 fun v ov w' hK hv=>oN hQ rest _ w' _ (hr'.put o.dst hv) hK
  ·simp only [wpListIn,h1.1]
   exact ⟨fun _ _=>trivial,oN hQ rest _ w _ (hr'.put o.dst (fun v' e=>by simpa using e)) h1.2⟩
theorem mC {P:Program} {ops:Array Oper} {K K':AF→World→Prop} {f0:AF} (hk: ∀f w,az (fz ops.toList) f0 f→K f w→K' f w): ∀(l:List Oper) (f:AF) (w:World),(∀o∈l,o∈ops.toList)→az (fz ops.toList) f0 f→ox P ops l f w K→ox P ops l f w K'
 | [],f,w,_,hs,h=>hk f w hs h
 |o::rest,f,w,hl,hs,h=>by
  have ho:=hl o (by simp)
  have hr: ∀o∈rest,o∈ops.toList:=fun o' h'=>hl o' (by simp [h'])
  refine ct (fun g hg h=>u9 (fun v w h=>mC hk rest _ w hr ((hs.trans hg).trans (az.bc v fun d hd=>bx ho hd)) h) h)
   (fun g hg h=>mC hk rest _ w hr ((hs.trans hg).trans (az.bc _ fun d hd=>bx ho hd)) h) h
def lO (P:Program) (ops:Array Oper) (K:AF→World→Prop):Nat→Array Bool→AF→World→Prop
 |0,listed,f,w=>cF (Region.ready .any ops listed).isEmpty (K f w)
 |n+1,listed,f,w=>match Region.ready .any ops listed with
  | []=>K f w
  |r::rs=>rY (r::rs) fun i=>match ops[i]? with
   |some o=>guarded ops o f (fun f=>r0 P f o w fun v w'=>lO P ops K n (listed.setIfInBounds i true) (bc f o.dst v) w') (fun f=>lO P ops K n (listed.setIfInBounds i true) (bc f o.dst (some undef)) w)
   |none=>False
theorem qy {P:Program} {ro:Option Nat} {m:Nat} {ops:Array Oper} {Q:Exit→Act→World→Prop} {K:AF→World→Prop} (hQ: ∀a f w,Rel nn dfs a f→K f w→Q .normal a w):
  ∀(n:Nat) (listed:Array Bool) (f:AF) (w:World) (a:Act),Rel nn dfs a f→lO P ops K n listed f w→wpAnyIn (FW ro) m P .any ops Q n listed a w
 |0,listed,f,w,a,hr,h=>by
  obtain ⟨h1,h2⟩:=aO h
  exact ⟨by simpa using h1,hQ _ _ _ hr h2⟩
 |n+1,listed,f,w,a,hr,h=>by
  unfold lO at h
  split at h
  ·rename_i he
   exact ⟨fun _=>hQ _ _ _ hr h,by rw [he];simp⟩
  ·rename_i r rs he
   refine ⟨fun h0=>absurd h0 (by rw [he];simp),fun i hi=> ?_⟩
   rw [he] at hi
   have h0:=o9 h i hi
   unfold wpOpIn
   split at h0
   ·rename_i o ho
    simp only [ho]
    obtain ⟨f',hr',h1|h1⟩:=cw hr h0
    ·rw [if_pos h1.1]
     exact wa hr' h1.2 fun v ov w' hK hv=>qy hQ n _ _ w' _ (hr'.put o.dst hv) hK
    ·rw [if_neg (by rw [h1.1];simp)]
     exact ⟨fun _ _=>trivial,qy hQ n _ _ w _ (hr'.put o.dst (fun v' e=>by simpa using e)) h1.2⟩
   ·exact h0.elim
theorem nG {P:Program} {ops:Array Oper} {K K':AF→World→Prop} {f0:AF} (hk: ∀f w,az (fz ops.toList) f0 f→K f w→K' f w): ∀(n:Nat) (listed:Array Bool) (f:AF) (w:World),az (fz ops.toList) f0 f→lO P ops K n listed f w→lO P ops K' n listed f w
 |0,listed,f,w,hs,h=>by
  obtain ⟨h1,h2⟩:=aO h
  unfold lO
  rw [h1];exact hk _ _ hs h2
 |n+1,listed,f,w,hs,h=>by
  unfold lO at h⊢
  split at h
  ·exact hk _ _ hs h
  ·refine mX (fun i h=> ?_) h
   split at h
   ·rename_i o ho
    have hom:o∈ops.toList:=by simpa using Array.mem_of_getElem? ho
    exact ct (fun g hg h=>u9 (fun v w h=>nG hk n _ _ w ((hs.trans hg).trans (az.bc v fun d hd=>bx hom hd)) h) h)
     (fun g hg h=>nG hk n _ _ w ((hs.trans hg).trans (az.bc _ fun d hd=>bx hom hd)) h) h
   ·exact h.elim
def yS {β:Type}:(ks:List Ki)→dK ks β→(List Value→β→Prop)→Prop
 | [],b,G=>G [] b
 |k::ks,b,G=> ∀x:k.T,yS ks (b x) fun vs b=>G (k.enc x::vs) b
def FF {β:Type}:(ks:List Ki)→(List Value→β)→dK ks β
 | [],g=>g []
 |k::ks,g=>fun x=>FF ks fun vs=>g (k.enc x::vs)
def om (l:Nat) (rec:Nat→Obj) (w:World) (K:World→Prop):Prop:=w.heap[l]? =some (rec 0)∧K (w.putObj l (rec 1))
def km (l:Nat) (rec:Nat→Obj) (w:World) (K:World→Prop):Prop:=w.heap[l]? =some (rec 1)∧K (w.putObj l (rec 0))
def F2 (l:Nat) (rec:Nat→Obj) (w:World) (K:World→Prop):Prop:=w.heap[l]? =some (rec 1)∧K (w.putObj l (rec 2))
def ek (P:Program) (v:Value) (ks:List Ki) (w:World) (B:Nat→(Nat→Obj)→dK ks (World→(World→Prop)→(World→Prop)→Prop)) (K Kr:Nat→World→Prop):Prop:=
 ∀(rec:Nat→Obj) (yv:Value),
  (∀(R:Bool→World→Prop) (w2:World),yS ks (B (w.heap.size+1) rec) fun vs b=>w2.heap[w.heap.size+1]? =some (rec 0)→b w2 (R true) (R false)→jR P yv [kB] vs w2 R)→
  og P v [] [yv] ((w.alloc (.deferred (some []))).alloc (rec 0)) fun w3=>
   (w3.heap[w.heap.size+1]? =some (rec 0)∧K w.heap.size (w3.putObj (w.heap.size+1) (rec 3)))∨(w3.heap[w.heap.size+1]? =some (rec 2)∧Kr w.heap.size (w3.putObj (w.heap.size+1) (rec 4)))
theorem FY {P:Program} {v:Value} {ks:List Ki} {w:World} {B:Nat→(Nat→Obj)→dK ks (World→(World→Prop)→(World→Prop)→Prop)} {K K' Kr Kr':Nat→World→Prop} (h1: ∀D w,K D w→K' D w) (h2: ∀D w,Kr D w→Kr' D w)
  (h:ek P v ks w B K Kr):ek P v ks w B K' Kr':=fun rec yv hy=>
 Gv (ks:= []) (g:=fun _ w3=>(w3.heap[w.heap.size+1]? =some (rec 0)∧K w.heap.size (w3.putObj (w.heap.size+1) (rec 3)))∨(w3.heap[w.heap.size+1]? =some (rec 2)∧Kr w.heap.size (w3.putObj (w.heap.size+1) (rec 4))))
  (g':=fun _ w3=>(w3.heap[w.heap.size+1]? =some (rec 0)∧K' w.heap.size (w3.putObj (w.heap.size+1) (rec 3)))∨(w3.heap[w.heap.size+1]? =some (rec 2)∧Kr' w.heap.size (w3.putObj (w.heap.size+1) (rec 4))))
  (fun _ _ h=>h.elim (fun h=> .inl ⟨h.1,h1 _ _ h.2⟩) (fun h=> .inr ⟨h.1,h2 _ _ h.2⟩)) (h rec yv hy)
def wY:AF→List Nat→List Value→Option AF
 |f,[],[]=>some f
 |f,p::ps,v::vs=>wY (cd f p (some v)) ps vs
 |_,_,_=>none
inductive iE where
 |o|s (p q:iE)|c (p q:iE)|b (p:iE)|l (live:List (Nat×Ki)) (p:iE)|r (ks:List Ki) (p q:iE)
def gB:Code→Bool
 | .seq a b=>gB a||gB b
 | .cond _ a b=>gB a||gB b
 | .block _ a=>gB a
 | .loop a=>gB a
 | .scope a=>gB a
 | .rangeFunc _ _ _ _=>true
 |_=>false
def q9 (next:AF→List Nat→World→Prop) (Q:Exit→AF→List Nat→World→Prop):Exit→AF→List Nat→World→Prop
 | .normal,f,ms,w=>next f ms w
 |e,f,ms,w=>Q e f ms w
def xQ (id:Nat) (Q:Exit→AF→List Nat→World→Prop):Exit→AF→List Nat→World→Prop
 | .exit i,f,ms,w=>match i==id with|true=>Q .normal f ms w|false=>Q (.exit i) f ms w
 |e,f,ms,w=>Q e f ms w
def Js (l:Nat) (rec:Nat→Obj) (Kt Kf:World→Prop):Exit→AF→List Nat→World→Prop
 | .normal,_,_,w=>km l rec w Kt
 | .ret,_,_,w=>F2 l rec w Kf
 |_,_,_,_=>False
def Gz:iE→Bool
 | .b _=>true
 |_=>false
def gC (P:Program) (n:Nat) (rd:Bool):Code→iE→(Exit→AF→List Nat→World→Prop)→AF→List Nat→World→Prop
 | .skip,_,Q,f,ms,w=>Q .normal f ms w
 | .region _ ops d,p,Q,f,ms,w=>match d,rd with
  |false,_=>ox P ops ops.toList f w fun f w=>Q .normal f ms w
  |true,false=>match Gz p with
   |true=>yq P ops f w fun f w=>Q .normal f ms w
   |false=>pg P ops true f w fun f w=>Q .normal f ms w
  |true,true=>ao w fun w'=>lO P ops (fun f w=>Q .normal f ms w) ops.size (Array.replicate ops.size false) f w'
 | .seq x y,.s p q,Q,f,ms,w=>gC P n rd x p (q9 (fun f ms w=>gC P n rd y q Q f ms w) Q) f ms w
 | .cond c x y,.c p q,Q,f,ms,w=>match ev f c with
  |some (.bool b)=>aa b (gC P n rd x p Q f ms w) (gC P n rd y q Q f ms w)
  |_=>False
 | .block id c,.b p,Q,f,ms,w=>gC P n rd c p (xQ id Q) f ms w
 | .loop c,.l live p,Q,f,ms,w=>cF (ku live (writes c)) (match gB c with
  |false=> ∃(I:dS live (World→Prop)) (m:dS live (World→Nat)),leaf live I f w∧
    kp live I m (forget (writes c) f) fun I0 m0 f=> ∀w,I0 w→gC P n rd c p (q9 (fun f ms2 w'=>ms2=ms∧eP live I m (m0 w) f w') Q) f ms w
  |true=> ∃(I:List Nat→dS live (World→Prop)) (m:dS live (World→Nat)),leaf live (I ms) f w∧
    ∀ms,kp live (I ms) m (forget (writes c) f) fun I0 m0 f=> ∀w,I0 w→gC P n rd c p (q9 (fun f ms2 w'=>eP live (I ms2) m (m0 w) f w') Q) f ms w)
 | .rangeFunc g ps assign body,.r ks p q,Q,f,ms,w=>match rd with
  |true=>False
  |false=>match ev f g with
   |some v=>ek P v ks w (fun l rec=>FF ks fun vs w2 Kt Kf=>match wY f ps.toList vs with
     |some f'=>gC P n true assign p (q9 (fun f ms w=>om l rec w fun w=>gC P n true body q (Js l rec Kt Kf) f ms w) (fun _ _ _ _=>False)) f' [] w2
     |none=>False) (fun D w'=>Q .normal f (D::ms) w') (fun D w'=>Q .ret f (D::ms) w')
   |none=>False
 | .exit id,_,Q,f,ms,w=>Q (.exit id) f ms w
 | .ret,_,Q,f,ms,w=>Q .ret f ms w
 | .label _,_,Q,f,ms,w=>Q .normal f ms w
 |_,_,_,_,_,_=>False
theorem rW {body body':(World→Prop)→(World→Nat)→AF→Prop}: ∀{l:List (Nat×Ki)} {I:dS l (World→Prop)} {m:dS l (World→Nat)} {g:AF},(∀I m g,body I m g→body' I m g)→kp l I m g body→kp l I m g body'
 | [],_,_,_,hb,h=>hb _ _ _ h
 |(_,_)::_,_,_,_,hb,h=>fun x=>rW hb (h x)
theorem fD {P:Program} {n:Nat} {rd:Bool}: ∀(c:Code) (p:iE) {Q Q':Exit→AF→List Nat→World→Prop} {f0:AF} (_: ∀e f ms w,az (writes c) f0 f→Q e f ms w→Q' e f ms w) (ms:List Nat) (w:World),gC P n rd c p Q f0 ms w→gC P n rd c p Q' f0 ms w
 | .skip,_,_,_,_,hq,ms,w,h=>hq _ _ _ _ (az.refl _ _) h
 | .region _ ops d,p,_,_,_,hq,ms,w,h=>by
  unfold gC at h⊢
  cases d
  ·exact mC (fun f w hs h=>hq _ f ms w hs h) _ _ _ (fun _ h=>h) (az.refl _ _) h
  ·cases rd
   ·cases hd:Gz p with
    |true=>
     rw [hd] at h
     exact bm (fun h=>eF (fun f w hs h=>hq _ f ms w hs h) _ _ _ _ (az.refl _ _) h) h
    |false=>
     rw [hd] at h
     exact rK (fun f w hs h=>hq _ f ms w hs h) h
   ·exact nG (fun f w hs h=>hq _ f ms w hs h) _ _ _ _ (az.refl _ _) h
 | .seq x y,.s p q,Q,Q',f0,hq,ms,w,h=>by
  refine fD x p (fun e f ms w hs h=> ?_) ms w h
  have hs':az (writes (.seq x y)) f0 f:=hs.mono fun s h=>List.mem_append.2 (.inl h)
  cases e with
  |normal=>exact fD y q (fun e f' ms w hs2 h=>hq e f' ms w (hs'.trans (hs2.mono fun s h=>List.mem_append.2 (.inr h))) h) ms w h
  |_=>exact hq _ f ms w hs' h
 | .cond c x y,.c p q,Q,Q',f0,hq,ms,w,h=>by
  unfold gC at h⊢
  split at h
  ·exact iV (fD x p (fun e f ms w hs h=>hq e f ms w (hs.mono fun s h=>List.mem_append.2 (.inl h)) h) ms w) (fD y q (fun e f ms w hs h=>hq e f ms w (hs.mono fun s h=>List.mem_append.2 (.inr h)) h) ms w) h
  ·exact h.elim
 | .block id c,.b p,Q,Q',f0,hq,ms,w,h=>by
  refine fD c p (fun e f ms w hs h=> ?_) ms w h
  cases e with
  |exit i=>
   simp only [xQ] at h⊢
   split at h
   ·exact hq _ f ms w hs h
   ·exact hq _ f ms w hs h
  |_=>exact hq _ f ms w hs h
 | .loop c,.l live p,Q,Q',f0,hq,ms,w,h=>by
  unfold gC at h⊢
  obtain ⟨hl,h⟩:=aO h
  rw [hl]
  show (match gB c with|false=>_|true=>_:Prop)
  cases hc:gB c with
  |false=>
   rw [hc] at h
   obtain ⟨I,m,h0,h1⟩:=h
   refine ⟨I,m,h0,rW (fun I0 m0 g hb w hI=> ?_) (gi (fun s k hk=>az.qC hl hk) (fun s hs=>cT hs) h1)⟩
   refine fD c p (fun e f' ms' w hs2 h=> ?_) ms w (hb.2 w hI)
   cases e with
   |normal=>exact h
   |_=>exact hq _ f' ms' w (hb.1.trans hs2) h
  |true=>
   rw [hc] at h
   obtain ⟨I,m,h0,h1⟩:=h
   refine ⟨I,m,h0,fun ms=>rW (fun I0 m0 g hb w hI=> ?_) (gi (fun s k hk=>az.qC hl hk) (fun s hs=>cT hs) (h1 ms))⟩
   refine fD c p (fun e f' ms' w hs2 h=> ?_) ms w (hb.2 w hI)
   cases e with
   |normal=>exact h
   |_=>exact hq _ f' ms' w (hb.1.trans hs2) h
 | .rangeFunc g ps assign body,.r ks p q,Q,Q',f0,hq,ms,w,h=>by
  unfold gC at h⊢
  cases rd
  ·simp only at h⊢
   split at h
   ·exact FY (fun D w h=>hq _ _ _ _ (az.refl _ _) h) (fun D w h=>hq _ _ _ _ (az.refl _ _) h) h
   ·exact h.elim
  ·exact h.elim
 | .exit id,_,_,_,_,hq,ms,w,h=>hq _ _ _ _ (az.refl _ _) h
 | .ret,_,_,_,_,hq,ms,w,h=>hq _ _ _ _ (az.refl _ _) h
 | .label _,_,_,_,_,hq,ms,w,h=>hq _ _ _ _ (az.refl _ _) h
 | .seq _ _,.o,_,_,_,_,_,_,h=>h.elim
 | .seq _ _,.c _ _,_,_,_,_,_,_,h=>h.elim
 | .seq _ _,.b _,_,_,_,_,_,_,h=>h.elim
 | .seq _ _,.l _ _,_,_,_,_,_,_,h=>h.elim
 | .seq _ _,.r _ _ _,_,_,_,_,_,_,h=>h.elim
 | .cond _ _ _,.o,_,_,_,_,_,_,h=>h.elim
 | .cond _ _ _,.s _ _,_,_,_,_,_,_,h=>h.elim
 | .cond _ _ _,.b _,_,_,_,_,_,_,h=>h.elim
 | .cond _ _ _,.l _ _,_,_,_,_,_,_,h=>h.elim
 | .cond _ _ _,.r _ _ _,_,_,_,_,_,_,h=>h.elim
 | .block _ _,.o,_,_,_,_,_,_,h=>h.elim
 | .block _ _,.s _ _,_,_,_,_,_,_,h=>h.elim
 | .block _ _,.c _ _,_,_,_,_,_,_,h=>h.elim
 | .block _ _,.l _ _,_,_,_,_,_,_,h=>h.elim
 | .block _ _,.r _ _ _,_,_,_,_,_,_,h=>h.elim
 | .loop _,.o,_,_,_,_,_,_,h=>h.elim
 | .loop _,.s _ _,_,_,_,_,_,_,h=>h.elim
 | .loop _,.c _ _,_,_,_,_,_,_,h=>h.elim
 | .loop _,.b _,_,_,_,_,_,_,h=>h.elim
 | .loop _,.r _ _ _,_,_,_,_,_,_,h=>h.elim
 | .rangeFunc _ _ _ _,.o,_,_,_,_,_,_,h=>h.elim
 | .rangeFunc _ _ _ _,.s _ _,_,_,_,_,_,_,h=>h.elim
 | .rangeFunc _ _ _ _,.c _ _,_,_,_,_,_,_,h=>h.elim
 | .rangeFunc _ _ _ _,.b _,_,_,_,_,_,_,h=>h.elim
 | .rangeFunc _ _ _ _,.l _ _,_,_,_,_,_,_,h=>h.elim
 | .scope _,_,_,_,_,_,_,_,h=>h.elim
 | .goto _,_,_,_,_,_,_,_,h=>h.elim
 | .refuse _,_,_,_,_,_,_,_,h=>h.elim
theorem CY {v:Value} {w:World} {K:World→Prop} (h:eW [] v K w):K w:=by
 cases v with
 |tuple us=>
  obtain ⟨us⟩:=us
  cases us with
  |nil=>exact h
  |cons=>exact h.elim
 |_=>exact h.elim
def mark (r:Nat):Deferred:={target:= .collected r,args:= #[]}
def Le {nn:Nat} (Q:Exit→AF→List Nat→World→Prop) (e:Exit) (a:Act) (w:World):Prop:= ∃f ms,Rel nn (ms.map mark) a f∧Q e f ms w
theorem tw {β:Type}: ∀{ks:List Ki} {g:List Value→β} {G:List Value→β→Prop},(∀vs,G vs (g vs))→yS ks (FF ks g) G
 | [],_,_,h=>h []
 |_::_,_,_,h=>fun _=>tw fun _=>h _
theorem vh: ∀{ps:List Nat} {vs:List Value} {f f':AF} {tmps:Array Value} {d:List Deferred},Rel nn dfs {tmps:=tmps,defers:=d} f→wY f ps vs=some f'→
  ps.length=vs.length∧Rel nn dfs {tmps:=(ps.zip vs).foldl (fun tmps (t,a)=>tmps.setIfInBounds t a) tmps,defers:=d} f'
 | [],[],f,f',tmps,d,hr,h=>by
  simp only [wY,Option.some.injEq] at h
  subst h
  exact ⟨rfl,hr⟩
 |p::ps,v::vs,f,f',tmps,d,hr,h=>by
  obtain ⟨h1,h2⟩:=vh (hr.cd p (some v) v (fun v' e=>by simpa using e)) h
  exact ⟨by simp [h1],h2⟩
 | [],_::_,_,_,_,_,_,h=>by cases h
 |_::_,[],_,_,_,_,_,h=>by cases h
theorem dF {P:Program} (hm:P.follows .mixedOrders=true): ∀(c:Code) (p:iE) (rd:Bool) (ro:Option Nat) (_:ro.isSome=rd) (k:Nat) (Q:Exit→AF→List Nat→World→Prop) (f:AF) (ms:List Nat) (w:World) (a:Act),
  Rel nn (ms.map mark) a f→gC P nn rd c p Q f ms w→c.wpIn (FW ro) k P (Le (nn:=nn) Q) a w
 | .skip,_,rd,ro,hro,k,Q,f,ms,w,a,hr,h=>wpIn_skip ⟨f,ms,hr,h⟩
 | .region _ ops d,p,rd,ro,hro,k,Q,f,ms,w,a,hr,h=>by
  unfold gC at h
  cases d
  ·exact wpIn_region_list (oN (K:=fun f w=>Q .normal f ms w) (fun a f w hr h=>⟨f,ms,hr,h⟩) _ _ _ _ hr h)
  ·cases rd
   ·cases ro with
    |some l=>cases hro
    |none=>
     cases hd:Gz p with
     |true=>
      rw [hd] at h
      exact wpIn_wide.2 (p0 hm (K:=fun f w=>Q .normal f ms w) (fun a f w hr h=>⟨f,ms,hr,h⟩) hr h)
     |false=>
      rw [hd] at h
      exact wpIn_wide.2 (wc hm (K:=fun f w=>Q .normal f ms w) (fun a f w hr h=>⟨f,ms,hr,h⟩) hr h)
   ·exact wpIn_region_any hm (qy (K:=fun f w=>Q .normal f ms w) (fun a f w hr h=>⟨f,ms,hr,h⟩) _ _ _ _ _ hr h)
 | .seq x y,.s p q,rd,ro,hro,k,Q,f,ms,w,a,hr,h=>by
  refine wpIn_seq (Go.wpIn_mono (dF hm x p rd ro hro k _ f ms w a hr h) fun e a w ⟨f',ms',hr',h'⟩=> ?_)
  cases e with
  |normal=>exact dF hm y q rd ro hro k Q f' ms' w a hr' h'
  |_=>exact ⟨f',ms',hr',h'⟩
 | .cond c x y,.c p q,rd,ro,hro,k,Q,f,ms,w,a,hr,h=>by
  unfold gC at h
  split at h
  ·rename_i b hb
   refine wpIn_cond (hr.ev hb) ?_
   cases b
   ·exact dF hm y q rd ro hro k Q f ms w a hr h
   ·exact dF hm x p rd ro hro k Q f ms w a hr h
  ·exact h.elim
 | .block id c,.b p,rd,ro,hro,k,Q,f,ms,w,a,hr,h=>by
  refine wpIn_block (Go.wpIn_mono (dF hm c p rd ro hro k _ f ms w a hr h) fun e a w ⟨f',ms',hr',h'⟩=> ?_)
  cases e with
  |exit i=>
   simp only [Exit.inBlock]
   simp only [xQ] at h'
   by_cases hi:i=id
   ·subst hi;simp at h';simp only [if_true];exact ⟨f',ms',hr',h'⟩
   ·have:(i==id)=false:=by simpa using hi
    rw [this] at h';rw [if_neg hi];exact ⟨f',ms',hr',h'⟩
  |_=>exact ⟨f',ms',hr',h'⟩
 | .loop c,.l live p,rd,ro,hro,k,Q,f,ms,w,a,hr,h=>by
  unfold gC at h
  obtain ⟨hl,h⟩:=aO h
  have hsh:=hr.shape
  cases hc:gB c with
  |false=>
   rw [hc] at h
   obtain ⟨I,m,h0,hall⟩:=h
   refine Go.wpIn_loop (fun a w=> ∃f',Rel nn (ms.map mark) a f'∧leaf live I f' w∧az (writes c) f f') (fun a w=>jG a w live m) ⟨f,hr,h0,az.refl _ _⟩ fun a w ⟨f1,hr,hI,hs⟩=> ?_
   obtain ⟨I0,m0,g,hg,h1,⟨hgs,h2⟩,h3⟩:=mH hr live I m _ (hr.xC hsh hs) hI (gi (fun s k hk=>az.qC hl hk) (fun s hs=>cT hs) hall)
   have h4:=fD c p (Q':=fun e f' ms' w'=>q9 (fun f ms2 w'=>ms2=ms∧eP live I m (m0 w) f w') Q e f' ms' w'∧az (writes c) g f') (fun e f' ms' w hs h=>⟨h,hs⟩) ms w (h2 w h1)
   refine Go.wpIn_mono (dF hm c p rd ro hro k _ g ms w a hg h4) fun e a' w' ⟨f',ms',hr',h',hs'⟩=> ?_
   cases e with
   |normal=>
    obtain ⟨e,h'⟩:=h'
    subst e
    refine ⟨⟨f',hr',jz h',hgs.trans hs'⟩,?_⟩
    have:=jl hr' h'
    simp only [h3]
    exact this
   |_=>exact ⟨f',ms',hr',h'⟩
  |true=>
   rw [hc] at h
   obtain ⟨I,m,h0,hall⟩:=h
   refine Go.wpIn_loop (fun a w=> ∃f' ms',Rel nn (ms'.map mark) a f'∧leaf live (I ms') f' w∧az (writes c) f f') (fun a w=>jG a w live m) ⟨f,ms,hr,h0,az.refl _ _⟩ fun a w ⟨f1,ms1,hr,hI,hs⟩=> ?_
   obtain ⟨I0,m0,g,hg,h1,⟨hgs,h2⟩,h3⟩:=mH hr live (I ms1) m _ (hr.xC hsh hs) hI (gi (fun s k hk=>az.qC hl hk) (fun s hs=>cT hs) (hall ms1))
   have h4:=fD c p (Q':=fun e f' ms' w'=>q9 (fun f ms2 w'=>eP live (I ms2) m (m0 w) f w') Q e f' ms' w'∧az (writes c) g f') (fun e f' ms' w hs h=>⟨h,hs⟩) ms1 w (h2 w h1)
   refine Go.wpIn_mono (dF hm c p rd ro hro k _ g ms1 w a hg h4) fun e a' w' ⟨f',ms',hr',h',hs'⟩=> ?_
   cases e with
   |normal=>
    refine ⟨⟨f',ms',hr',jz h',hgs.trans hs'⟩,?_⟩
    have:=jl hr' h'
    simp only [h3]
    exact this
   |_=>exact ⟨f',ms',hr',h'⟩
 | .rangeFunc g ps assign body,.r ks p q,rd,ro,hro,k,Q,f,ms,w,a,hr,h=>by
  unfold gC at h
  cases rd
  ·cases ro with
   |some l=>cases hro
   |none=>
    simp only at h
    split at h
    ·rename_i v hv
     refine wpIn_rangeFunc fun fn _=> ?_
     have hcl:=h (fun i=> .loop (match i with
       |0=>{state:= .ready,pending:=none,fn,tmps:=a.tmps,params:=ps,assign,body,defers:=w.heap.size}
       |1=>{state:= .busy,pending:=none,fn,tmps:=a.tmps,params:=ps,assign,body,defers:=w.heap.size}
       |2=>{state:= .done,pending:=some .ret,fn,tmps:=a.tmps,params:=ps,assign,body,defers:=w.heap.size}
       |3=>{state:= .exhausted,pending:=none,fn,tmps:=a.tmps,params:=ps,assign,body,defers:=w.heap.size}
       |_=>{state:= .exhausted,pending:=some .ret,fn,tmps:=a.tmps,params:=ps,assign,body,defers:=w.heap.size}))
      (.func (.yield (w.heap.size+1)) #[] #[]) (fun R w2=>tw fun vs hrec hB=> ?_)
     ·unfold og at hcl
      split at hcl
      ·rename_i i first captured
       obtain ⟨hok,hc⟩:=aO hcl
       have he:=run_enterLoop_outer (P:=P) (w:=w) fn a.tmps ps assign body
       obtain ⟨w1,hw1⟩: ∃w1,w1=(w.alloc (.deferred (some []))).alloc (.loop {state:= .ready,pending:=none,fn,tmps:=a.tmps,params:=ps,assign,body,defers:=w.heap.size}):=⟨_,rfl⟩
       rw [←hw1] at he
       refine ⟨w.heap.size+1,[mark w.heap.size],w1,{target:= .fn (.func i) captured,args:=first++ #[.func (.yield (w.heap.size+1)) #[] #[]]},w1,i,⟨first.toList++ [.func (.yield (w.heap.size+1)) #[] #[]]++captured.toList⟩,w1,
        he,?_,fun _ _=>trivial,?_,fun hh=>(by cases hh),?_⟩
       ·have hg:=hr.ev hv
        simp only [resolve,hg,Deferred.ofValue,Sem.run_pure]
        simp [Act.eval]
       ·have hcc:=oU (P:=P) hok
        have e:(first++ #[Value.func (.yield (w.heap.size+1)) #[] #[]])++captured=⟨first.toList++ [.func (.yield (w.heap.size+1)) #[] #[]]++captured.toList⟩:=by
         apply Array.ext';simp
        simp only [invoke,e]
        exact hcc _ _
       ·refine (callsIn_wide (n:=k - 1)).2 ?_
        rw [hw1]
        refine Calls.mono hc fun e w3 hp=> ?_
        have hrel:Rel nn ((w.heap.size::ms).map mark) {a with defers:= [mark w.heap.size]++a.defers} f:=⟨hr.size,hr.shape,by simp [hr.defs],hr.val⟩
        cases e with
        |returned v'=>
         have hp:=CY hp
         rcases hp with ⟨h1,h2⟩|⟨h1,h2⟩
         ·exact ⟨none,_,run_endLoop h1 (by simp),⟨f,_,hrel,h2⟩⟩
         ·exact ⟨some .ret,_,run_endLoop h1 (by simp),wpIn_ret ⟨f,_,hrel,h2⟩⟩
        |panicked=>exact hp.elim
        |outgrown=>exact hp.elim
      ·exact hcl.elim
     ·split at hB
      ·rename_i f' hf'
       have hr0:Rel nn [] {tmps:=a.tmps,defers:= []} f:=⟨hr.size,hr.shape,rfl,hr.val⟩
       obtain ⟨hlen,hrel⟩:=vh hr0 hf'
       have hz:(ps.zip (⟨vs⟩:Array Value)).foldl (fun tmps (t,a)=>tmps.setIfInBounds t a) a.tmps=(ps.toList.zip vs).foldl (fun tmps (t,a)=>tmps.setIfInBounds t a) a.tmps:=by
        rw [←Array.foldl_toList];simp
       refine ⟨fn,_,assign,body,run_yield hrec (by simpa using hlen.symm),?_⟩
       refine RoundIn.mono (R:=fun e w'=> ∃b,e= .returned (.bool b)∧R b w') ?_ fun e w' ⟨b,h1,h2⟩=>⟨b,h1,h2⟩
       refine roundIn_of_wpIn trivial ?_
       simp only [List.nil_append,hz]
       refine Go.wpIn_mono (dF hm assign p true (some (w.heap.size+1)) rfl 0 _ f' [] w2 _ hrel hB) fun e a1 w1 ⟨f1,ms1,hr1,h1⟩=> ?_
       cases e with
       |normal=>
        obtain ⟨h2,h3⟩:=h1
        refine ⟨_,run_beginRound h2 rfl,?_⟩
        refine Go.wpIn_mono (dF hm body q true (some (w.heap.size+1)) rfl 0 _ f1 ms1 _ _ hr1 h3) fun e a2 w4 ⟨f2,ms2,hr2,h4⟩=> ?_
        cases e with
        |normal=>
         obtain ⟨h5,h6⟩:=h4
         exact ⟨_,_,run_endRound none h5,true,rfl,h6⟩
        |ret=>
         obtain ⟨h5,h6⟩:=h4
         exact ⟨_,_,run_endRound (some .ret) h5,false,rfl,h6⟩
        |exit id=>exact h4.elim
        |goto t=>exact h4.elim
        |panic c=>exact h4.elim
        |outgrown=>exact h4.elim
       |exit id=>exact h1.elim
       |goto t=>exact h1.elim
       |ret=>exact h1.elim
       |panic c=>exact h1.elim
       |outgrown=>exact h1.elim
      ·exact hB.elim
    ·exact h.elim
  ·exact h.elim
 | .exit id,_,rd,ro,hro,k,Q,f,ms,w,a,hr,h=>wpIn_exit ⟨f,ms,hr,h⟩
 | .ret,_,rd,ro,hro,k,Q,f,ms,w,a,hr,h=>wpIn_ret ⟨f,ms,hr,h⟩
 | .label _,_,rd,ro,hro,k,Q,f,ms,w,a,hr,h=>wpIn_label ⟨f,ms,hr,h⟩
 | .seq _ _,.o,_,_,_,_,_,_,_,_,_,_,h=>h.elim
 | .seq _ _,.c _ _,_,_,_,_,_,_,_,_,_,_,h=>h.elim
 | .seq _ _,.b _,_,_,_,_,_,_,_,_,_,_,h=>h.elim
 | .seq _ _,.l _ _,_,_,_,_,_,_,_,_,_,_,h=>h.elim
 | .seq _ _,.r _ _ _,_,_,_,_,_,_,_,_,_,_,h=>h.elim
 | .cond _ _ _,.o,_,_,_,_,_,_,_,_,_,_,h=>h.elim
 | .cond _ _ _,.s _ _,_,_,_,_,_,_,_,_,_,_,h=>h.elim
 | .cond _ _ _,.b _,_,_,_,_,_,_,_,_,_,_,h=>h.elim
 | .cond _ _ _,.l _ _,_,_,_,_,_,_,_,_,_,_,h=>h.elim
 | .cond _ _ _,.r _ _ _,_,_,_,_,_,_,_,_,_,_,h=>h.elim
 | .block _ _,.o,_,_,_,_,_,_,_,_,_,_,h=>h.elim
 | .block _ _,.s _ _,_,_,_,_,_,_,_,_,_,_,h=>h.elim
 | .block _ _,.c _ _,_,_,_,_,_,_,_,_,_,_,h=>h.elim
 | .block _ _,.l _ _,_,_,_,_,_,_,_,_,_,_,h=>h.elim
 | .block _ _,.r _ _ _,_,_,_,_,_,_,_,_,_,_,h=>h.elim
 | .loop _,.o,_,_,_,_,_,_,_,_,_,_,h=>h.elim
 | .loop _,.s _ _,_,_,_,_,_,_,_,_,_,_,h=>h.elim
 | .loop _,.c _ _,_,_,_,_,_,_,_,_,_,_,h=>h.elim
 | .loop _,.b _,_,_,_,_,_,_,_,_,_,_,h=>h.elim
 | .loop _,.r _ _ _,_,_,_,_,_,_,_,_,_,_,h=>h.elim
 | .rangeFunc _ _ _ _,.o,_,_,_,_,_,_,_,_,_,_,h=>h.elim
 | .rangeFunc _ _ _ _,.s _ _,_,_,_,_,_,_,_,_,_,_,h=>h.elim
 | .rangeFunc _ _ _ _,.c _ _,_,_,_,_,_,_,_,_,_,_,h=>h.elim
 | .rangeFunc _ _ _ _,.b _,_,_,_,_,_,_,_,_,_,_,h=>h.elim
 | .rangeFunc _ _ _ _,.l _ _,_,_,_,_,_,_,_,_,_,_,h=>h.elim
 | .scope _,_,_,_,_,_,_,_,_,_,_,_,h=>h.elim
 | .goto _,_,_,_,_,_,_,_,_,_,_,_,h=>h.elim
 | .refuse _,_,_,_,_,_,_,_,_,_,_,_,h=>h.elim
def gm:List Nat→World→(World→Prop)→Prop
 | [],w,K=>K w
 |r::rs,w,K=>w.heap[r]? =some (.deferred (some []))∧gm rs (w.putObj r (.deferred none)) K
def Fh (P:Program) (rs:List ResultVar) (ks:List Ki) (K:dK ks (World→Prop)):Exit→AF→List Nat→World→Prop
 | .normal,f,ms,w| .ret,f,ms,w=>gm ms w fun w=>oJ P rs f w [] fun vs=>eW ks (dq vs) K w
 |_,_,_,_=>False
theorem xn {P:Program} (hm:P.follows .mixedOrders=true) {i:FuncId} {fn:Func} {c:Code} {args:List Value} {w:World} {ks:List Ki} {K:dK ks (World→Prop)} (n:Nat) (rs:List ResultVar)
  (hf:P.funcs[i]? =some fn) (hb:fn.body=some c) (hn:fn.ntmps=n) (hl:args.length≤n) (hrs:fn.results.toList=rs) (p:iE) (h:gC P n false c p (Fh P rs ks K) (cj args n) [] w):Cl P ks i ⟨args⟩ w K:=by
 refine (callsIn_wide (n:=0)).1 (callsIn_of_wp_marks (F:=Fence.wide) hf hb trivial ?_)
 subst hn;subst hrs
 have hsz:((⟨args⟩:Array Value)++Array.replicate (fn.ntmps - (⟨args⟩:Array Value).size) undef).size=fn.ntmps:=by simp;omega
 have hr:Rel fn.ntmps (([]:List Nat).map mark) {tmps:=(⟨args⟩:Array Value)++Array.replicate (fn.ntmps - (⟨args⟩:Array Value).size) undef,defers:= []} (cj args fn.ntmps):=by
  refine ⟨hsz,fun i hi=>l9 _ _ _ _ hi,rfl,fun i v hv=> ?_⟩
  have h1:=q6 _ _ _ _ _ hv
  simp only [Option.some.injEq] at h1
  have hi:i<fn.ntmps:=l9 _ _ _ _ (gQ hv)
  simp only [Array.getD_eq_getD_getElem?]
  have h2:((⟨args⟩:Array Value)++Array.replicate (fn.ntmps - (⟨args⟩:Array Value).size) undef)[i]? =(args++List.replicate (fn.ntmps - args.length) undef)[i]? :=by
   rw [←Array.getElem?_toList]
   simp
  rw [h2,←h1]
  by_cases ha:i<args.length
  ·simp [List.getElem?_append_left ha,List.getD_eq_getElem?_getD]
  ·rw [List.getElem?_append_right (by omega),List.getElem?_replicate]
   rw [if_pos (by omega)]
   simp [List.getD_eq_getElem?_getD,List.getElem?_eq_none (by omega:args.length≤i)]
 refine Go.wpIn_mono (dF hm c p false none rfl 0 _ _ [] w _ hr h) fun e a w' ⟨f,ms,hr,hq⟩=> ?_
 have fin: ∀(ms:List Nat) (w':World),(gm ms w' fun w=>oJ P fn.results.toList f w [] fun vs=>eW ks (dq vs) K w)→LeavesInM Fence.wide 0 P fn a.tmps (oA ks K) (ms.map mark) .returning w':=by
  intro ms
  induction ms with
  |nil=>
   intro w' hq
   obtain ⟨vs,h1,h2⟩:=lJ hr _ _ hq
   refine ⟨dq vs,?_,h2⟩
   rw [tC,Array.mapM_eq_mapM_toList]
   simp only [Sem.run_bind,Sem.run_map,h1,Result.andThen_ok,Sem.run_pure]
   congr 1
   match vs with
   | []=>rfl
   | [v]=>rfl
   |a::b::l=>simp [dq]
  |cons r ms ih=>
   intro w' hq
   exact ⟨by simp,.inl ⟨r,_,rfl,run_takeDeferred hq.1,ih _ hq.2⟩⟩
 have hd:=hr.defs
 cases e<;>first|exact hq.elim|(show LeavesInM _ _ _ _ _ _ a.defers _ _;rw [hd];exact fin ms w' hq)
theorem zn {P:Program} (hm:P.follows .mixedOrders=true) {i:FuncId} {w:World} {F:Prop} (fn:Func) (args:List Value) (ks:List Ki) (K:dK ks (World→Prop)) (n:Nat) (rs:List ResultVar)
  (hf:P.funcs[i]? =some fn) (hb:fn.body=some (fn.body.getD .skip)) (hn:fn.ntmps=n) (hl:Nat.ble args.length n=true) (hrs:fn.results.toList=rs) (p:iE)
  (he:gC P n false (fn.body.getD .skip) p (Fh P rs ks K) (cj args n) [] w=F) (h:F):Cl P ks i ⟨args⟩ w K:=
 xn hm n rs hf hb hn (Nat.le_of_ble_eq_true hl) hrs p (he▸h)
end
end Go.Vc
set_option maxRecDepth 20000
namespace Go.Vc
open Go
noncomputable section
variable {nn:Nat} {dfs:List Deferred}
def Df (l:Nat) (J:AF→World→Prop) (Q:Exit→AF→World→Prop):Exit→AF→World→Prop
 | .goto l',f,w=>cF (l'==l) (J f w)
 |e,f,w=>Q e f w
def Hg (P:Program) (n l:Nat):cC→Code→(Exit→AF→World→Prop)→AF→World→Prop
 | .l live p,.seq (.label l') y,Q,f,w=>
  cF (l'==l&&ku live (writes y)) (∃(I:dS live (World→Prop)) (m:dS live (World→Nat)),leaf live I f w∧
   kp live I m (forget (writes y) f) fun I0 m0 f=> ∀w,I0 w→vc P n y p (Df l (fun f w'=>eP live I m (m0 w) f w') Q) f w)
 | .s p q,.seq x y,Q,f,w=>cF (findLabel x l).isNone (vc P n x p (lN (fun f w=>Hg P n l q y Q f w) (wz Q)) f w)
 |_,_,_,_,_=>False
def ta:cC→Code→Option (Code×List (Nat×Ki)×cC)
 | .l live p,.seq (.label _) y=>some (y,live,p)
 | .s _ q,.seq _ y=>ta q y
 |_,_=>none
def JJ (nn:Nat) (dfs:List Deferred) (P:Program) (n l:Nat) (y:Code) (live:List (Nat×Ki)) (p:cC) (Q:Exit→AF→World→Prop) (k:Nat) (a:Act) (w:World):Prop:=
 ∃(f0:AF) (I:dS live (World→Prop)) (m:dS live (World→Nat)) (f':AF),(∀i,has f0 i=true→i<nn)∧
  kp live I m (forget (writes y) f0) (fun I0 m0 f=> ∀w,I0 w→vc P n y p (Df l (fun f w'=>eP live I m (m0 w) f w') Q) f w)∧
  Rel nn dfs a f'∧leaf live I f' w∧az (writes y) f0 f'∧jG a w live m=k
theorem sK {P:Program} (hm:P.follows .mixedOrders=true) {l:Nat} {y:Code} {live:List (Nat×Ki)} {p:cC} {Q:Exit→AF→World→Prop} (hl:ku live (writes y)=true) {k:Nat} {a:Act} {w:World}
  (h:JJ nn dfs P nn l y live p Q k a w):y.wp P (Exit.jump l (fun a' w'=> ∃j,j<k∧JJ nn dfs P nn l y live p Q j a' w') (B8 (nn:=nn) (dfs:=dfs) Q)) a w:=by
 obtain ⟨f0,I,m,f1,hsh,hall,hr,hI,hs,hk⟩:=h
 obtain ⟨I0,m0,g,hg,h1,⟨hgs,h2⟩,h3⟩:=mH hr live I m _ (hr.xC hsh hs) hI (gi (fun s k hk=>az.qC hl hk) (fun s hs=>cT hs) hall)
 have h4:=ee y p (Q':=fun e f' w'=>Df l (fun f w'=>eP live I m (m0 w) f w') Q e f' w'∧az (writes y) g f') (fun e f' w hs h=>⟨h,hs⟩) w (h2 w h1)
 refine wp_mono (cI hm y p _ g w a hg h4) fun e a' w' ⟨f',hr',h',hs'⟩=> ?_
 cases e with
 |goto l'=>
  obtain ⟨e1,h5⟩:=aO h'
  refine ⟨by simpa using e1,jG a' w' live m,?_,f0,I,m,f',hsh,hall,hr',jz h5,hgs.trans hs',rfl⟩
  have:=jl hr' h5
  omega
 |_=>exact ⟨f',hr',h'⟩
theorem vv {P:Program} (hm:P.follows .mixedOrders=true) {l:Nat} {y:Code} {live:List (Nat×Ki)} {pp:cC}: ∀(p:cC) (c:Code) (Q:Exit→AF→World→Prop) (f:AF) (w:World) (a:Act),
  ta p c=some (y,live,pp)→ku live (writes y)=true→Rel nn dfs a f→Hg P nn l p c Q f w→
   c.wp P (Exit.jump l (fun a w=> ∃k,JJ nn dfs P nn l y live pp Q k a w) (B8 (nn:=nn) (dfs:=dfs) Q)) a w
 | .s p q,c,Q,f,w,a,hlab,hl,hr,h=>by
  cases c with
  |seq x y'=>
   have h:=(aO h).2
   refine wp_seq (wp_mono (cI hm x p _ f w a hr h) fun e a w ⟨f',hr',h'⟩=> ?_)
   cases e with
   |normal=>exact vv hm q y' Q f' w a hlab hl hr' h'
   |goto l'=>exact h'.elim
   |_=>exact ⟨f',hr',h'⟩
  |_=>exact h.elim
 | .l live' p,c,Q,f,w,a,hlab,hl,hr,h=>by
  cases c with
  |seq x y'=>
   cases x with
   |label l'=>
    simp only [ta,Option.some.injEq,Prod.mk.injEq] at hlab
    obtain ⟨rfl,rfl,rfl⟩:=hlab
    obtain ⟨h0,I,m,hI,hall⟩:=aO h
    refine wp_seq (wp_label ?_)
    refine wp_mono (sK hm hl (k:=jG a w live' m) ⟨f,I,m,f,hr.shape,hall,hr,hI,az.refl _ _,rfl⟩) fun e a' w' h=> ?_
    cases e with
    |goto l''=>exact ⟨h.1,let ⟨j,_,h2⟩:=h.2;⟨j,h2⟩⟩
    |_=>exact h
   |_=>exact h.elim
  |_=>exact h.elim
 | .o,_,_,_,_,_,_,_,_,h=>h.elim
 | .j _ _ _,_,_,_,_,_,_,_,_,h=>h.elim
 | .c _ _,_,_,_,_,_,_,_,_,h=>h.elim
 | .b _,_,_,_,_,_,_,_,_,h=>h.elim
theorem yc {p:Nat→Prop}:(∃k,p k)→∃k,p k∧∀j,p j→k≤j:=by
 rintro ⟨k,hk⟩
 induction k using Nat.strongRecOn with
 |ind k ih=>
  by_cases h: ∃j,j<k∧p j
  ·obtain ⟨j,h1,h2⟩:=h
   exact ih j h1 h2
  ·exact ⟨k,hk,fun j hj=>by
    rcases Nat.lt_or_ge j k with h1|h1
    ·exact absurd ⟨j,h1,hj⟩ h
    ·exact h1⟩
open Classical in
def ua (p:Nat→Prop):Nat:=if h: ∃k,p k then Classical.choose (yc h) else 0
theorem vP {p:Nat→Prop} (h: ∃k,p k):p (ua p)∧∀j,p j→ua p≤j:=by
 unfold ua
 rw [dif_pos h]
 exact Classical.choose_spec (yc h)
theorem AN {P:Program} (hm:P.follows .mixedOrders=true) {l:Nat} {y:Code} {live:List (Nat×Ki)} {pp:cC} {c:Code} {p:cC} {Q:Exit→AF→World→Prop} {f:AF} {w:World} {a:Act}
  (hlab:ta p c=some (y,live,pp)) (hl:ku live (writes y)=true) (hf:findLabel c l=some (.seq .skip y)) (hr:Rel nn dfs a f) (h:Hg P nn l p c Q f w):
  (Code.scope c).wp P (B8 (nn:=nn) (dfs:=dfs) Q) a w:=by
 refine wp_scope_jumps l (fun a w=> ∃k,JJ nn dfs P nn l y live pp Q k a w) (fun a w=>ua fun k=>JJ nn dfs P nn l y live pp Q k a w) hf (vv hm p c Q f w a hlab hl hr h) fun a w hJ=> ?_
 obtain ⟨h1,h2⟩:=vP hJ
 refine wp_seq (wp_skip ?_)
 refine wp_mono (sK hm hl h1) fun e a' w' h=> ?_
 cases e with
 |goto l'=>
  obtain ⟨e1,j,hj,h3⟩:=h
  exact ⟨e1,⟨j,h3⟩,Nat.lt_of_le_of_lt ((vP ⟨j,h3⟩).2 j h3) hj⟩
 |_=>exact h
def Hf (P:Program) (n l:Nat):cC→Code→(Exit→AF→World→Prop)→AF→World→Prop
 | .b p,.scope c,Q,f,w=>Hg P n l p c Q f w
 | .s p q,.seq x y,Q,f,w=>vc P n x p (lN (fun f w=>Hf P n l q y Q f w) Q) f w
 |_,_,_,_,_=>False
def sE (l:Nat):cC→Code→Bool
 | .l live _,.seq (.label l') y=>l'==l&&ku live (writes y)
 | .s _ q,.seq x y=>(findLabel x l).isNone&&sE l q y
 |_,_=>false
theorem zr {l:Nat}: ∀(p:cC) (c:Code),sE l p c=true→∃y live pp,ta p c=some (y,live,pp)∧ku live (writes y)=true∧findLabel c l=some (.seq .skip y)
 | .s p q,c,h=>by
  cases c with
  |seq x y'=>
   have h:((findLabel x l).isNone&&sE l q y')=true:=h
   rw [Bool.and_eq_true] at h
   obtain ⟨y,live,pp,h1,h2,h3⟩:=zr q y' h.2
   have h0:findLabel x l=none:=by simpa using h.1
   exact ⟨y,live,pp,h1,h2,by simp only [findLabel,h0];exact h3⟩
  |_=>cases h
 | .l live p,c,h=>by
  cases c with
  |seq x y'=>
   cases x with
   |label l'=>
    simp only [sE,Bool.and_eq_true] at h
    exact ⟨y',live,p,rfl,h.2,by simp [findLabel,h.1]⟩
   |_=>cases h
  |_=>cases h
 | .o,_,h=>by cases h
 | .j _ _ _,_,h=>by cases h
 | .c _ _,_,h=>by cases h
 | .b _,_,h=>by cases h
def q7 (l:Nat):cC→Code→Bool
 | .b p,.scope c=>sE l p c
 | .s _ q,.seq _ y=>q7 l q y
 |_,_=>false
theorem v7 {P:Program} (hm:P.follows .mixedOrders=true) {l:Nat}:
  ∀(p:cC) (c:Code) (Q:Exit→AF→World→Prop) (f:AF) (w:World) (a:Act),q7 l p c=true→Rel nn dfs a f→Hf P nn l p c Q f w→c.wp P (B8 (nn:=nn) (dfs:=dfs) Q) a w
 | .b p,c,Q,f,w,a,hs,hr,h=>by
  cases c with
  |scope c=>
   obtain ⟨y,live,pp,h1,h2,h3⟩:=zr p c hs
   exact AN hm h1 h2 h3 hr h
  |_=>exact h.elim
 | .s p q,c,Q,f,w,a,hs,hr,h=>by
  cases c with
  |seq x y'=>
   refine wp_seq (wp_mono (cI hm x p _ f w a hr h) fun e a w ⟨f',hr',h'⟩=> ?_)
   cases e with
   |normal=>exact v7 hm q y' Q f' w a hs hr' h'
   |_=>exact ⟨f',hr',h'⟩
  |_=>exact h.elim
 | .o,_,_,_,_,_,_,_,h=>h.elim
 | .j _ _ _,_,_,_,_,_,_,_,h=>h.elim
 | .c _ _,_,_,_,_,_,_,_,h=>h.elim
 | .l _ _,_,_,_,_,_,_,_,h=>h.elim
theorem yg {P:Program} (hm:P.follows .mixedOrders=true) {i:FuncId} {w:World} {F:Prop} (fn:Func) (args:List Value) (ks:List Ki) (K:dK ks (World→Prop)) (n:Nat) (rs:List ResultVar)
  (hf:P.funcs[i]? =some fn) (hb:fn.body=some (fn.body.getD .skip)) (hn:fn.ntmps=n) (hl:Nat.ble args.length n=true) (hrs:fn.results.toList=rs) (p:cC) (l:Nat) (hs:q7 l p (fn.body.getD .skip)=true)
  (he:Hf P n l p (fn.body.getD .skip) (uN P rs ks K) (cj args n) w=F) (h:F):Cl P ks i ⟨args⟩ w K:=
 qK n rs hf hb hn (Nat.le_of_ble_eq_true hl) hrs fun a hr=>v7 hm p _ _ _ w a hs hr (he▸h)
end
end Go.Vc
namespace Go.Proofs.YtcdpblipagajiaaGreat
open Go Go.Vc
abbrev fA:Nat:=10
abbrev mG:Nat:=12
abbrev jU:Nat:=14
abbrev kq:Nat:=16
abbrev k5:Nat:=33
abbrev cz:Nat:=34
abbrev jv:Nat:=35
abbrev cL:Nat:=36
abbrev cb:Nat:=37
abbrev ez:Nat:=38
abbrev gO:Nat:=39
abbrev mF:Nat:=40
abbrev iT:Nat:=41
abbrev ig:Nat:=42
abbrev j0:Nat:=43
abbrev mO:Nat:=44
abbrev jr:Nat:=45
abbrev jA:Nat:=46
abbrev ib:Nat:=47
abbrev jH:Nat:=48
abbrev dI:Nat:=49
abbrev dv:Nat:=50
abbrev kg:Nat:=51
abbrev gp:Nat:=52
abbrev j5:Nat:=53
abbrev dx:Nat:=54
abbrev o4:Nat:=55
abbrev gH:Nat:=56
abbrev cu:Nat:=57
abbrev pF:Nat:=61
abbrev jO:Nat:=78
abbrev kY:Nat:=79
abbrev jM:Nat:=80
abbrev lz:Nat:=81
abbrev k8:Nat:=82
abbrev eb:Nat:=83
abbrev ej:Nat:=84
abbrev bh:Nat:=85
abbrev dC:Nat:=86
abbrev np:Nat:=87
abbrev o0:Nat:=88
abbrev lu:Nat:=89
abbrev jI:Nat:=90
abbrev mI:Nat:=91
abbrev j7:Nat:=92
abbrev cQ:Nat:=93
abbrev iN:Nat:=94
abbrev cR:Nat:=95
abbrev iW:Nat:=96
abbrev hC:Nat:=97
abbrev eS:Nat:=98
abbrev jm:Nat:=99
abbrev gz:Nat:=100
abbrev jh:Nat:=101
abbrev mE:Nat:=102
abbrev fk:Nat:=103
abbrev lp:Nat:=104
abbrev iA:Nat:=105
abbrev mm:Nat:=106
abbrev kv:Nat:=107
abbrev ca:Nat:=108
abbrev nN:Nat:=114
abbrev mZ:Nat:=127
abbrev lk:Nat:=128
abbrev iH:Nat:=129
abbrev mv:Nat:=130
abbrev dZ:Nat:=131
abbrev nT:Nat:=132
abbrev gP:Nat:=133
abbrev pW:Nat:=134
abbrev fo:Nat:=135
abbrev nA:Nat:=136
abbrev jo:Nat:=137
abbrev fx:Nat:=138
abbrev dz:Nat:=139
abbrev eV:Nat:=140
abbrev fV:Nat:=141
abbrev ea:Nat:=142
abbrev jb:Nat:=143
abbrev iX:Nat:=144
abbrev mK:Nat:=145
abbrev eJ:Nat:=146
abbrev dr:Nat:=147
abbrev gY:Nat:=148
abbrev dh:Nat:=149
abbrev dn:Nat:=150
abbrev cN:Nat:=151
abbrev bA:Nat:=152
abbrev gD:Nat:=153
abbrev ie:Nat:=154
abbrev eQ:Nat:=155
abbrev gK:Nat:=156
abbrev kh:Nat:=157
abbrev ly:Nat:=158
abbrev nS:Nat:=163
abbrev kc:Nat:=169
abbrev fJ:Nat:=170
abbrev mq:Nat:=171
abbrev p9:Nat:=172
abbrev kG:Nat:=173
abbrev lC:Nat:=174
abbrev lH:Nat:=175
abbrev ob:Nat:=176
abbrev ic:Nat:=177
abbrev jW:Nat:=178
abbrev bB:Nat:=179
abbrev iu:Nat:=180
abbrev cq:Nat:=181
abbrev eO:Nat:=182
abbrev im:Nat:=183
abbrev iQ:Nat:=184
abbrev gS:Nat:=185
abbrev kO:Nat:=186
abbrev mb:Nat:=187
abbrev jS:Nat:=188
abbrev fS:Nat:=189
abbrev eU:Nat:=190
abbrev iL:Nat:=191
abbrev j6:Nat:=192
abbrev iC:Nat:=193
abbrev jE:Nat:=194
abbrev gw:Nat:=195
abbrev lf:Nat:=196
abbrev lh:Nat:=197
abbrev oW:Nat:=198
abbrev cJ:Nat:=199
abbrev me:Nat:=200
abbrev di:Nat:=201
abbrev gd:Nat:=202
abbrev fF:Nat:=203
abbrev kz:Nat:=204
abbrev gZ:Nat:=205
abbrev gJ:Nat:=206
abbrev kj:Nat:=207
abbrev cf:Nat:=208
abbrev dg:Nat:=209
abbrev kf:Nat:=210
abbrev mi:Nat:=211
abbrev iJ:Nat:=212
abbrev bt:Nat:=213
abbrev aS:Nat:=214
abbrev k9:Nat:=215
abbrev jL:Nat:=216
abbrev bM:Nat:=217
abbrev dj:Nat:=220
abbrev lD:Nat:=222
abbrev bq:Nat:=233
noncomputable abbrev Pg:Program:=Tryz.prog
theorem Tryz.mix:Tryz.prog.follows .mixedOrders=true:=by kernel_rfl
theorem co {i:FuncId} {w:World} {F:Prop} {args:List Value} {ks:List Ki} {K:dK ks (World→Prop)} (fn:Func) (L:List (Nat×List (Nat×Ki))) (h:F) (hf:Pg.funcs[i]? =some fn:=by kernel_rfl) (hb:fn.body=some (fn.body.getD .skip):=by kernel_rfl) (hl:Nat.ble args.length fn.ntmps=true:=by kernel_rfl) (he:vc Pg fn.ntmps (fn.body.getD .skip) (tX (fn.body.getD .skip) 0 L).1 (uN Pg fn.results.toList ks K) (cj args fn.ntmps) w=F:=by kernel_rfl):Cl Pg ks i ⟨args⟩ w K:=
 Aw Tryz.mix fn args ks K fn.ntmps fn.results.toList hf hb rfl hl rfl (tX (fn.body.getD .skip) 0 L).1 he h
theorem tf {i:FuncId} {w:World} {F:Prop} {args:List Value} {ks:List Ki} {K:dK ks (World→Prop)} (fn:Func) (p:iE) (h:F) (hf:Pg.funcs[i]? =some fn:=by kernel_rfl) (hb:fn.body=some (fn.body.getD .skip):=by kernel_rfl) (hl:Nat.ble args.length fn.ntmps=true:=by kernel_rfl) (he:gC Pg fn.ntmps false (fn.body.getD .skip) p (Fh Pg fn.results.toList ks K) (cj args fn.ntmps) [] w=F:=by kernel_rfl):Cl Pg ks i ⟨args⟩ w K:=
 zn Tryz.mix fn args ks K fn.ntmps fn.results.toList hf hb rfl hl rfl p he h
theorem Lc {i:FuncId} {w:World} {F:Prop} {args:List Value} {ks:List Ki} {K:dK ks (World→Prop)} (fn:Func) (p:cC) (l:Nat) (h:F) (hf:Pg.funcs[i]? =some fn:=by kernel_rfl) (hb:fn.body=some (fn.body.getD .skip):=by kernel_rfl) (hl:Nat.ble args.length fn.ntmps=true:=by kernel_rfl) (hs:q7 l p (fn.body.getD .skip)=true:=by kernel_rfl) (he:Hf Pg fn.ntmps l p (fn.body.getD .skip) (uN Pg fn.results.toList ks K) (cj args fn.ntmps) w=F:=by kernel_rfl):Cl Pg ks i ⟨args⟩ w K:=
 yg Tryz.mix fn args ks K fn.ntmps fn.results.toList hf hb rfl hl rfl p l hs he h
abbrev aK:List Sc:= [.int .i64,.int .i64,.int .i64,.int .i64,.int .i64,.int .u32,.int .i64]
abbrev fX:List Sc:= [.int .i64,.int .i64,.int .i64,.int .i64]
abbrev Eu:List Sc:= [.int .i64,.int .i64,.int .i64,.int .i64,.int .i64,.int .i64,.int .i64,.int .i64,.int .i64,.int .i64,.int .i64,.int .i64,.int .i64,.int .i64,.int .i64,.int .i64]
end Go.Proofs.YtcdpblipagajiaaGreat
namespace Go.Proofs.YtcdpblipagajiaaGreat
open Go Go.Vc
set_option maxRecDepth 100000
theorem qI.ok (a:Int) (b:Sl) (c:Int) (d:Sl) (R:Bool→World→Prop) w (h:
 bo (fun (m:World)=>
 Cl Pg [kS] mF ⟨[(ni a),(an b)]⟩ m fun (o:Sl) n=>
 aZ o 0 (if (o.len:Int)<(if (0:Int)>c then (0:Int) else c) then (o.len:Int) else (if (0:Int)>c then (0:Int) else c)) (o).cap 1 fun p=>
 Cl Pg [kS,kI] cL ⟨[(ni a),(an p)]⟩ n fun (r:Sl) (s:Int) q=>
 bo (fun (y:World)=>
 aZ r 0 (i64 ((r.len:Int) - 5)) (i64 ((r.len:Int) - 5)) 1 fun z=>
 aD Pg (Builtin.append_ #[22,22] 22 ⟨[(an z),(an d)]⟩) kS y fun (b1:Sl) a1=>
 Cl Pg [kS,kI,kI] cb ⟨[(an b1)]⟩ a1 fun (d1:Sl) (e1:Int) (f1:Int) c1=>
 aZ o 0 (if (o.len:Int)<(if (0:Int)>c then (0:Int) else c) then (o.len:Int) else (if (0:Int)>c then (0:Int) else c)) (o).cap 1 fun g1=>
 Cl Pg [kS] jv ⟨[(an g1)]⟩ c1 fun (i1:Sl) h1=>
 bo (fun (c2:World)=>
 Cl Pg [(.st aK),kS,kI] iT ⟨[(ni a),(an d)]⟩ c2 fun e2 (f2:Sl) (g2:Int) d2=>
 Nw 74 ⟨[(ni 0),(ni 0),(ni 0),(ni 0),(ni 0),(.int .u32 0),(ni 0)]⟩ d2 fun i2 h2=>
 af ⟨i2,0,none⟩ [(ni e2.1),(ni e2.2.1),(ni e2.2.2.1),(ni e2.2.2.2.1),(ni e2.2.2.2.2.1),(.int .u32 e2.2.2.2.2.2.1),(ni e2.2.2.2.2.2.2.1)] 0 h2 fun j2=>
 aa (g2 !=0)
 (aa (f1==g2)
 (aa (e1==(if (o.len:Int)<(if (0:Int)>c then (0:Int) else c) then (o.len:Int) else (if (0:Int)>c then (0:Int) else c)))
 (Cl Pg [kB] cz ⟨[]⟩ j2 fun (l2:Bool) k2=>
 R l2 k2)
 (R false j2))
 (R false j2))
 (Ld kI (Addr.add ⟨i2,0,none⟩ 0) j2 fun (m2:Int)=>
 aa (m2 !=6)
 (Cl Pg [kB] cz ⟨[]⟩ j2 fun (o2:Bool) n2=>
 R o2 n2)
 (aa (e1==(if (o.len:Int)<(if (0:Int)>c then (0:Int) else c) then (o.len:Int) else (if (0:Int)>c then (0:Int) else c)))
 (aa (f1==0)
 (Cl Pg [kB] cz ⟨[]⟩ j2 fun (q2:Bool) p2=>
 R q2 p2)
 (aa (f1==260)
 (Cl Pg [kB] cz ⟨[]⟩ j2 fun (s2:Bool) r2=>
 R s2 r2)
 (aa (f1==261)
 (Cl Pg [kB] cz ⟨[]⟩ j2 fun (u2:Bool) t2=>
 R u2 t2)
 (R false j2))))
 (R false j2)))) fun j1=>
 bo (fun (a2:Bool) (b2:World)=>
 aa a2
 (R false b2)
 (j1 b2)) fun k1=>
 bo (fun (y1:Bool) (z1:World)=>
 k1 y1 z1) fun l1=>
 cA h1 fun m1 n1=>
 aa (decide (e1<(if (o.len:Int)<(if (0:Int)>c then (0:Int) else c) then (o.len:Int) else (if (0:Int)>c then (0:Int) else c))))
 ((l1 true n1)∧
 (l1 true n1))
 (aa (decide ((d1.len:Int)<(i1.len:Int)))
 ((l1 true n1)∧
 (l1 true n1))
 (aZ d1 0 (i1.len:Int) (d1).cap 1 fun o1=>
 (aD Pg (convert 22 9 (an o1)) nM n1 fun (q1:ByteArray) p1=>
 m1 p1∧
 aD Pg (convert 22 9 (an i1)) nM p1 fun (s1:ByteArray) r1=>
 m1 r1∧
 l1 (!((q1).toList==(s1).toList)) r1)∧
 (aD Pg (convert 22 9 (an i1)) nM n1 fun (u1:ByteArray) t1=>
 m1 t1∧
 aD Pg (convert 22 9 (an o1)) nM t1 fun (x1:ByteArray) v1=>
 m1 v1∧
 l1 (!((x1).toList==(u1).toList)) v1)))) fun t=>
 bo (fun (v:Bool) (x:World)=>
 aa v
 (R false x)
 (t x)) fun u=>
 aa (s !=0)
 (u true q)
 (u (decide ((r.len:Int)<5)) q)) fun e=>
 bo (fun (i:Bool) (j:World)=>
 aa i
 (Cl Pg [kB] cz ⟨[]⟩ j fun (l:Bool) k=>
 R l k)
 (e j)) fun f=>
 Cl Pg [kB] k5 ⟨[(an b)]⟩ w fun (h:Bool) g=>
 aa h
 (f true g)
 (aa (decide (a<1))
 (f true g)
 (aa (decide (a>65536))
 (f true g)
 (f (decide ((d.len:Int)>200)) g)))):Cl Pg [kB] fA ⟨[(ni a),(an b),(ni c),(an d)]⟩ w R:=co Tryz.f10 [(2,[]),(3,[(33,kB)]),(13,[]),(14,[(57,kB)]),(24,[]),(25,[(97,kB)])] h
theorem AZ.ok (R:Bool→World→Prop) w (h:
 Cl Pg [kS,kI] cL ⟨[(ni 300),(.slice none 0 0)]⟩ w fun (b:Sl) (c:Int) a=>
 Cl Pg [kS,kI] cL ⟨[(ni 0),(.slice none 0 0)]⟩ a fun (e:Sl) (f:Int) d=>
 bo (fun (k:World)=>
 Cl Pg [kS,kI,kI] cb ⟨[(an b)]⟩ k fun (m:Sl) (n:Int) (o:Int) l=>
 aZ b 0 9 (b).cap 1 fun p=>
 Cl Pg [kS,kI,kI] cb ⟨[(an p)]⟩ l fun (r:Sl) (s:Int) (t:Int) q=>
 Nw 5 ⟨[]⟩ q fun v u=>
 aD Pg (Builtin.append_ #[22,22] 22 ⟨[(an (⟨some ⟨v,0,none⟩,0,0⟩:Sl)),(an b)]⟩) kS u fun (y:Sl) x=>
 Nw 5 ⟨[(.int .u8 7)]⟩ x fun a1 z=>
 aD Pg (Builtin.append_ #[22,22] 22 ⟨[(an y),(an (⟨some ⟨a1,0,none⟩,1,1⟩:Sl))]⟩) kS z fun (c1:Sl) b1=>
 Cl Pg [kS,kI,kI] cb ⟨[(an c1)]⟩ b1 fun (e1:Sl) (f1:Int) (g1:Int) d1=>
 Nw 5 ⟨[]⟩ d1 fun i1 h1=>
 aD Pg (Builtin.append_ #[22,22] 22 ⟨[(an (⟨some ⟨i1,0,none⟩,0,0⟩:Sl)),(an b)]⟩) kS h1 fun (k1:Sl) j1=>
 ar k1 9 1 fun l1=>
 St l1 (.int .u8 1) j1 fun m1=>
 Cl Pg [kS,kI,kI] cb ⟨[(an k1)]⟩ m1 fun (o1:Sl) (p1:Int) (q1:Int) n1=>
 Nw 5 ⟨[(.int .u8 97),(.int .u8 98),(.int .u8 99)]⟩ n1 fun s1 r1=>
 aD Pg (convert 22 22 (an (⟨some ⟨s1,0,none⟩,3,3⟩:Sl))) kS r1 fun (u1:Sl) t1=>
 Nw 5 ⟨[(.int .u8 100)]⟩ t1 fun x1 v1=>
 aD Pg (convert 22 22 (an (⟨some ⟨x1,0,none⟩,1,1⟩:Sl))) kS v1 fun (z1:Sl) y1=>
 Nw 22 ⟨[(an u1),(.slice none 0 0),(an z1)]⟩ y1 fun b2 a2=>
 Cl Pg [kS,kI] cL ⟨[(ni 2),(an (⟨some ⟨b2,0,none⟩,3,3⟩:Sl))]⟩ a2 fun (d2:Sl) (e2:Int) c2=>
 Cl Pg [kS,kI,kI] cb ⟨[(an d2)]⟩ c2 fun (g2:Sl) (h2:Int) (i2:Int) f2=>
 aD Pg (convert 22 9 (an b)) nM f2 fun (k2:ByteArray) j2=>
 aa ((k2).toList==((ByteArray.mk #[87,80,1,130,44,0,0,0,0,0])).toList)
 (aa ((m.len:Int)==0)
 (aa (n==0)
 (aa (o==0)
 (aa (t==50)
 (aa (g1==261)
 (aa (q1==260)
 (aa (e2==0)
 (aD Pg (convert 22 9 (an g2)) nM j2 fun (m2:ByteArray) l2=>
 aa ((m2).toList==((ByteArray.mk #[97,98,99,100])).toList)
 (aa (h2==3)
 (aa (i2==0)
 (Nw 5 ⟨[(.int .u8 97),(.int .u8 98),(.int .u8 99),(.int .u8 100)]⟩ l2 fun o2 n2=>
 aD Pg (convert 22 22 (an (⟨some ⟨o2,0,none⟩,4,4⟩:Sl))) kS n2 fun (q2:Sl) p2=>
 Cl Pg [kB] gO ⟨[(an d2),(an q2)]⟩ p2 fun (s2:Bool) r2=>
 aa s2
 (Nw 5 ⟨[(.int .u8 97),(.int .u8 98),(.int .u8 99)]⟩ r2 fun u2 t2=>
 aD Pg (convert 22 22 (an (⟨some ⟨u2,0,none⟩,3,3⟩:Sl))) kS t2 fun (x2:Sl) v2=>
 Cl Pg [kB] gO ⟨[(an d2),(an x2)]⟩ v2 fun (z2:Bool) y2=>
 aa (!z2)
 (Nw 5 ⟨[(.int .u8 97),(.int .u8 98),(.int .u8 99)]⟩ y2 fun b3 a3=>
 aD Pg (convert 22 22 (an (⟨some ⟨b3,0,none⟩,3,3⟩:Sl))) kS a3 fun (d3:Sl) c3=>
 Nw 5 ⟨[(.int .u8 100)]⟩ c3 fun f3 e3=>
 aD Pg (convert 22 22 (an (⟨some ⟨f3,0,none⟩,1,1⟩:Sl))) kS e3 fun (h3:Sl) g3=>
 Nw 22 ⟨[(an d3),(.slice none 0 0),(an h3)]⟩ g3 fun j3 i3=>
 Cl Pg [kI] ez ⟨[(ni 2),(an (⟨some ⟨j3,0,none⟩,3,3⟩:Sl))]⟩ i3 fun (l3:Int) k3=>
 aa (l3==3)
 (Nw 5 ⟨[(.int .u8 97),(.int .u8 98),(.int .u8 99)]⟩ k3 fun n3 m3=>
 aD Pg (convert 22 22 (an (⟨some ⟨n3,0,none⟩,3,3⟩:Sl))) kS m3 fun (p3:Sl) o3=>
 Nw 22 ⟨[(an p3)]⟩ o3 fun r3 q3=>
 Cl Pg [kI] ez ⟨[(ni 0),(an (⟨some ⟨r3,0,none⟩,1,1⟩:Sl))]⟩ q3 fun (t3:Int) s3=>
 R (t3==0) s3)
 (R false k3))
 (R false y2))
 (R false r2))
 (R false l2))
 (R false l2))
 (R false l2))
 (R false j2))
 (R false j2))
 (R false j2))
 (R false j2))
 (R false j2))
 (R false j2))
 (R false j2))
 (R false j2)) fun g=>
 bo (fun (i:Bool) (j:World)=>
 aa i
 (R false j)
 (g j)) fun h=>
 aa (c !=0)
 (h true d)
 (aa (f !=2)
 (h true d)
 (h ((b.len:Int) !=10) d))):Cl Pg [kB] cz ⟨[]⟩ w R:=co Tryz.f34 [(6,[]),(7,[(41,kB)])] h
end Go.Proofs.YtcdpblipagajiaaGreat
namespace Go.Proofs.YtcdpblipagajiaaGreat
open Go Go.Vc
set_option maxRecDepth 100000
theorem qe.ok (a:Int) (b:Sl) (R:Sl→Int→World→Prop) w (h:
 Nw 3 ⟨[(ni a)]⟩ w fun d c=>
 Ld kI ⟨d,0,none⟩ c fun (e:Int)=>
 Cl Pg [kS,kI] jO ⟨[(.agg ⟨[(ni e)]⟩)]⟩ c fun (g:Sl) (h:Int) f=>
 Nw 22 ⟨[(.slice none 0 0)]⟩ f fun j i=>
 St ⟨j,0,none⟩ (an g) i fun k=>
 aa (h !=0)
 (R (⟨none,0,0⟩:Sl) 2 k)
 (Ld kI ⟨d,0,none⟩ k fun (l:Int)=>
 Cl Pg [kV] kY ⟨[(ni l),(an b)]⟩ k fun n m=>
 ek Pg n [kS] m (fun (o:Nat) (p:Nat→Obj) (t:Sl) (q:World) (r s:World→Prop)=>
 om o p q fun u=>
 Ld kI ⟨d,0,none⟩ u fun (v:Int)=>
 Cl Pg [kS,kI] mG ⟨[(ni v),(an t)]⟩ u fun (y:Sl) (z:Int) x=>
 Ld kS ⟨j,0,none⟩ x fun (a1:Sl)=>
 aD Pg (Builtin.append_ #[22,22] 22 ⟨[(an a1),(an y)]⟩) kS x fun (c1:Sl) b1=>
 St ⟨j,0,none⟩ (an c1) b1 fun d1=>
 km o p d1 r)
 (fun e1 f1=>
 cA f1 fun g1 h1=>
 ad kS ⟨j,0,none⟩ g1 fun (i1:Sl)=>
 Cl Pg [(aL .u32)] j0 ⟨[(an b)]⟩ h1 fun (k1:Int) j1=>
 g1 j1∧
 Cl Pg [kS] jM ⟨[(.int .u32 k1)]⟩ j1 fun (m1:Sl) l1=>
 g1 l1∧
 aD Pg (Builtin.append_ #[22,22] 22 ⟨[(an i1),(an m1)]⟩) kS l1 fun (o1:Sl) n1=>
 g1 n1∧
 gm (e1:: []:List Nat) n1 fun p1=>
 R o1 0 p1)
 (fun q1 r1=>
 gm (q1:: []:List Nat) r1 fun s1=>
 R (⟨none,0,0⟩:Sl) 0 s1))):Cl Pg [kS,kI] cL ⟨[(ni a),(an b)]⟩ w R:=tf Tryz.f36 (.s .o (.s .o (.s (.s .o (.c (.s .o .o) .o)) (.s (.s .o (.b (.r [kS] .o (.b (.s .o .o))))) (.s .o .o))))) h
theorem Ai.ok (a:Sl) (R:Sl→Int→Int→World→Prop) w (h:
 Cl Pg [(.st [.int .i64]),kS,kI] lz ⟨[(an a)]⟩ w fun c (d:Sl) (e:Int) b=>
 Nw 117 ⟨[(ni 0)]⟩ b fun g f=>
 af ⟨g,0,none⟩ [(ni c.1)] 0 f fun h=>
 aa (e !=0)
 (R (⟨none,0,0⟩:Sl) 0 e h)
 (El (⟨none,0,0⟩:Sl) 0 d h fun i j (k:Sl) (l:Int) (m:Sl) n=>
 Ld kI (Addr.add ⟨g,0,none⟩ 0) n fun (o:Int)=>
 Cl Pg [(.st aK),kS,kI] dv ⟨[(ni o),(an m)]⟩ n fun q (r:Sl) (s:Int) p=>
 Nw 74 ⟨[(ni 0),(ni 0),(ni 0),(ni 0),(ni 0),(.int .u32 0),(ni 0)]⟩ p fun u t=>
 af ⟨u,0,none⟩ [(ni q.1),(ni q.2.1),(ni q.2.2.1),(ni q.2.2.2.1),(ni q.2.2.2.2.1),(.int .u32 q.2.2.2.2.2.1),(ni q.2.2.2.2.2.2.1)] 0 t fun v=>
 aa (s !=0)
 (R k l s v)
 (Ld kI (Addr.add ⟨u,0,none⟩ 0) v fun (x:Int)=>
 aa (x==4)
 (Ld kI (Addr.add ⟨g,0,none⟩ 0) v fun (y:Int)=>
 Cl Pg [kS,kS,kI] jU ⟨[(ni y),(an m)]⟩ v fun (a1:Sl) (b1:Sl) (c1:Int) z=>
 aa (c1 !=0)
 (R k l c1 z)
 (aD Pg (Builtin.append_ #[22,22] 22 ⟨[(an k),(an a1)]⟩) kS z fun (e1:Sl) d1=>
 i e1 (i64 (l+1)) b1 d1∧j e1 (i64 (l+1)) b1 d1<j k l m n))
 (cA v fun n1 o1=>
 ad (aL .u32) ((Addr.add ⟨u,0,none⟩ 3).add 2) n1 fun (p1:Int)=>
 Nw 22 ⟨[(an k)]⟩ o1 fun r1 q1=>
 n1 q1∧
 Cl Pg [(aL .u32)] j0 ⟨[(an (⟨some ⟨r1,0,none⟩,1,1⟩:Sl))]⟩ q1 fun (t1:Int) s1=>
 n1 s1∧
 aa (p1 !=t1)
 (R k l 260 s1)
 (aa (decide ((r.len:Int)>0))
 (R k l 261 s1)
 (R k l 0 s1)))))):Cl Pg [kS,kI,kI] cb ⟨[(an a)]⟩ w R:=Lc Tryz.f37 (.s .o (.b (.s .o (.s (.s .o (.c (.s .o .o) .o)) (.l [(2,kS),(3,kI),(6,kS)] (.s .o (.s (.b (.s .o (.c (.s .o .o) (.s .o (.c (.s .o (.s (.s .o (.c (.s .o .o) .o)) (.s .o .o))) (.s .o (.c (.s .o .o) (.s .o (.c (.s .o .o) .o))))))))) (.s .o .o)))))))) 0 h
theorem pQ.ok (a:Int) (b:Sl) (R:Int→World→Prop) w (h:
 Nw 3 ⟨[(ni 0)]⟩ w fun d c=>
 aa (decide (a<1))
 (St ⟨d,0,none⟩ (ni 0) c fun e=>
 Ld kI ⟨d,0,none⟩ e fun (f:Int)=>
 R f e)
 (aa (decide (a>65536))
 (St ⟨d,0,none⟩ (ni 0) c fun g=>
 Ld kI ⟨d,0,none⟩ g fun (h:Int)=>
 R h g)
 (Cl Pg [kV] kY ⟨[(ni a),(an b)]⟩ c fun j i=>
 ek Pg j [kS] i (fun (k:Nat) (l:Nat→Obj) (p:Sl) (m:World) (n o:World→Prop)=>
 om k l m fun q=>
 Ld kI ⟨d,0,none⟩ q fun (r:Int)=>
 St ⟨d,0,none⟩ (ni (i64 (r+1))) q fun s=>
 km k l s n)
 (fun t u=>
 Ld kI ⟨d,0,none⟩ u fun (v:Int)=>
 St ⟨d,0,none⟩ (ni v) u fun x=>
 gm (t:: []:List Nat) x fun y=>
 Ld kI ⟨d,0,none⟩ y fun (z:Int)=>
 R z y)
 (fun a1 b1=>
 gm (a1:: []:List Nat) b1 fun c1=>
 Ld kI ⟨d,0,none⟩ c1 fun (d1:Int)=>
 R d1 c1)))):Cl Pg [kI] ez ⟨[(ni a),(an b)]⟩ w R:=tf Tryz.f38 (.s .o (.s (.s .o (.c (.s .o .o) .o)) (.s (.s .o (.b (.r [kS] .o (.b .o)))) (.s .o .o)))) h
theorem yI.ok (a:Sl) (b:Sl) (R:Bool→World→Prop) w (h:
 Cl Pg [kS,kI,kI] cb ⟨[(an a)]⟩ w fun (d:Sl) (e:Int) (f:Int) c=>
 aa (f==0)
 (Cl Pg [kB] k8 ⟨[(an b),(an d)]⟩ c fun (h:Bool) g=>
 R h g)
 (R false c)):Cl Pg [kB] gO ⟨[(an a),(an b)]⟩ w R:=co Tryz.f39 [] h
theorem rR.ok (a:Int) (b:Sl) (R:Value→World→Prop) w (h:
 Nw 3 ⟨[(ni a)]⟩ w fun d c=>
 Nw 51 ⟨[(an b)]⟩ c fun f e=>
 R (.func (.func 127) ⟨[]⟩ ⟨[(.pointer (some ⟨f,0,none⟩)),(.pointer (some ⟨d,0,none⟩))]⟩) e):Cl Pg [kV] kY ⟨[(ni a),(an b)]⟩ w R:=co Tryz.f79 [] h
theorem wJ.ok (a:Value) (b:Addr) (c:Addr) (R:World→Prop) w (h:
 Ld kS b w fun (d:Sl)=>
 ∃(e:Int→World→Prop) (f:Int→World→Nat),e (0) w∧
 ∀(g:Int),∀(h:World),e g h→
 aa (decide (g<(d.len:Int)))
 (ar d g 1 fun i=>
 Ld kS i h fun (j:Sl)=>
 ∃(k:Sl→World→Prop) (l:Sl→World→Nat),k (j) h∧
 ∀(m:Sl),∀(n:World),k m n→
 aa (decide ((m.len:Int)>0))
 (Ld kI c n fun (o:Int)=>
 aZ m 0 (if (m.len:Int)<o then (m.len:Int) else o) (m).cap 1 fun p=>
 jR Pg a [kB] [(an p)] n fun (r:Bool) q=>
 aa (!r)
 (R q)
 (aZ m (if (m.len:Int)<o then (m.len:Int) else o) (m).len (m).cap 1 fun s=>
 ([]:List Nat)=([]:List Nat)∧k s q∧l s q<l m n))
 (([]:List Nat)=([]:List Nat)∧e (i64 (g+1)) n∧f (i64 (g+1)) n<f g h))
 (R h)):Cl Pg [] mZ ⟨[a,(.pointer (some b)),(.pointer (some c))]⟩ w R:=tf Tryz.f127 (.s .o (.b (.l [(9,kI)] (.s .o (.s (.c .o .o) (.s (.b (.s .o (.b (.l [(5,kS)] (.s (.s .o (.c .o .o)) (.b (.s .o (.s (.s .o (.c .o .o)) .o)))))))) .o)))))) h
end Go.Proofs.YtcdpblipagajiaaGreat
set_option maxRecDepth 20000
namespace Go.Vc
open Go
abbrev aJ:=Nat→Option Obj
abbrev HP:=aJ→Prop
def aJ.emp:aJ:=fun _=>none
def aJ.one (b:Nat) (o:Obj):aJ:=fun r=>if r=b then some o else none
def aJ.add (f g:aJ):aJ:=fun r=>match f r with|some o=>some o|none=>g r
def iK (f g:aJ):Prop:= ∀r,f r=none∨g r=none
def aj (b:Nat) (o:Obj):HP:=fun f=>f=aJ.one b o
def Sat:List HP→HP
 | [],f=>f=aJ.emp
 |A::l,f=> ∃g h,iK g h∧f=g.add h∧A g∧Sat l h
def I2 (f:aJ) (w:World):Prop:= ∀r o,f r=some o→w.heap[r]? =some o
structure Hp (E:World) (w:World) (l:List HP):Prop where
 os:w.os=E.os
 output:w.output=E.output
 tape:w.tape=E.tape
 frag: ∃f,I2 f w∧Sat l f
theorem iK.comm {f g:aJ} (h:iK f g):iK g f:=fun r=>(h r).symm
theorem aJ.add_comm {f g:aJ} (h:iK f g):f.add g=g.add f:=by
 funext r
 unfold aJ.add
 rcases h r with h|h
 ·rw [h];cases g r<;>rfl
 ·rw [h];cases f r<;>rfl
theorem aJ.add_assoc (f g h:aJ):(f.add g).add h=f.add (g.add h):=by
 funext r
 unfold aJ.add
 cases f r<;>rfl
theorem aJ.HH (f:aJ):f.add aJ.emp=f:=by
 funext r;unfold aJ.add aJ.emp;cases f r<;>rfl
theorem aJ.uM (f:aJ):aJ.emp.add f=f:=by
 funext r;rfl
theorem ja {f g h:aJ}:iK f (g.add h)↔iK f g∧iK f h:=by
 constructor
 ·intro H
  refine ⟨fun r=> ?_,fun r=> ?_⟩
  ·rcases H r with h1|h1
   ·exact .inl h1
   ·right;unfold aJ.add at h1;cases hg:g r<;>simp_all
  ·rcases H r with h1|h1
   ·exact .inl h1
   ·right;unfold aJ.add at h1;cases hg:g r<;>simp_all
 ·rintro ⟨h1,h2⟩ r
  rcases h1 r with h|h
  ·exact .inl h
  ·rcases h2 r with h'|h'
   ·exact .inl h'
   ·right;simp [aJ.add,h,h']
theorem vf {f g h:aJ}:iK (f.add g) h↔iK f h∧iK g h:=
 ⟨fun H=>let ⟨a,b⟩:=ja.1 H.comm;⟨a.comm,b.comm⟩,fun ⟨a,b⟩=>(ja.2 ⟨a.comm,b.comm⟩).comm⟩
theorem Sat.swap {A B:HP} {l:List HP} {f:aJ} (h:Sat (A::B::l) f):Sat (B::A::l) f:=by
 obtain ⟨g,h1,hd,rfl,hA,g2,h2,hd2,rfl,hB,hl⟩:=h
 obtain ⟨d1,d2⟩:=ja.1 hd
 refine ⟨g2,g.add h2,ja.2 ⟨d1.comm,hd2⟩,?_,hB,g,h2,d2,rfl,hA,hl⟩
 rw [←aJ.add_assoc,←aJ.add_assoc,aJ.add_comm d1]
theorem Sat.tail {A:HP} {l l':List HP} (h: ∀f,Sat l f→Sat l' f) {f:aJ} (hs:Sat (A::l) f):Sat (A::l') f:=by
 obtain ⟨g,k,hd,rfl,hA,hl⟩:=hs
 exact ⟨g,k,hd,rfl,hA,h _ hl⟩
theorem Sat.perm {l l':List HP} (hp:l.Perm l'): ∀f,Sat l f→Sat l' f:=by
 induction hp with
 |nil=>exact fun _ h=>h
 |cons A _ ih=>exact fun f h=>h.tail ih
 |swap A B l=>exact fun f h=>h.swap
 |trans _ _ ih1 ih2=>exact fun f h=>ih2 f (ih1 f h)
theorem Sat.append {l l':List HP} {f:aJ}:Sat (l++l') f↔∃g h,iK g h∧f=g.add h∧Sat l g∧Sat l' h:=by
 induction l generalizing f with
 |nil=>exact ⟨fun h=>⟨aJ.emp,f,fun _=> .inl rfl,(aJ.uM f).symm,rfl,h⟩,fun ⟨g,h,_,e,hg,hh⟩=>by
   have:g=aJ.emp:=hg
   rw [e,this,aJ.uM];exact hh⟩
 |cons A l ih=>
  constructor
  ·rintro ⟨g,h,hd,rfl,hA,hs⟩
   obtain ⟨g2,h2,hd2,rfl,hs2,hs3⟩:=ih.1 hs
   obtain ⟨d1,d2⟩:=ja.1 hd
   exact ⟨g.add g2,h2,vf.2 ⟨d2,hd2⟩,(aJ.add_assoc _ _ _).symm,⟨g,g2,d1,rfl,hA,hs2⟩,hs3⟩
  ·rintro ⟨g,h,hd,rfl,⟨g2,h2,hd2,rfl,hA,hs2⟩,hs3⟩
   obtain ⟨d1,d2⟩:=vf.1 hd
   exact ⟨g2,h2.add h,ja.2 ⟨hd2,d1⟩,aJ.add_assoc _ _ _,hA,ih.2 ⟨h2,h,d2,rfl,hs2,hs3⟩⟩
section
variable {E w w':World} {A B C D G:HP} {l l' F:List HP}
theorem Hp.perm (h:Hp E w l) (hp:l.Perm l'):Hp E w l':=
 ⟨h.os,h.output,h.tape,let ⟨f,a,b⟩:=h.frag;⟨f,a,Sat.perm hp f b⟩⟩
theorem Hp.p1 (h:Hp E w (A::B::F)):Hp E w (B::A::F):=h.perm (.swap ..)
theorem Hp.p2 (h:Hp E w (A::B::C::F)):Hp E w (C::A::B::F):=h.perm ((List.Perm.cons A (.swap ..)).trans (.swap ..))
theorem Hp.p3 (h:Hp E w (A::B::C::D::F)):Hp E w (D::A::B::C::F):=
 h.perm ((List.Perm.cons A ((List.Perm.cons B (.swap ..)).trans (.swap ..))).trans (.swap ..))
theorem Hp.q2 (h:Hp E w (A::B::C::F)):Hp E w (B::C::A::F):=h.p1.perm (.cons B (.swap ..))
theorem Hp.q3 (h:Hp E w (A::B::C::D::F)):Hp E w (B::C::D::A::F):=h.q2.perm (.cons B (.cons C (.swap ..)))
theorem Hp.q4 (h:Hp E w (A::B::C::D::G::F)):Hp E w (B::C::D::G::A::F):=h.q3.perm (.cons B (.cons C (.cons D (.swap ..))))
theorem Hp.flat (h:Hp E w (Sat l::F)):Hp E w (l++F):=
 ⟨h.os,h.output,h.tape,let ⟨f,a,g,k,hd,e,h1,h2⟩:=h.frag;⟨f,a,Sat.append.2 ⟨g,k,hd,e,h1,h2⟩⟩⟩
theorem Hp.Hq {α:Sort _} {X:α→Prop} {L:α→List HP} (hA: ∀f,A f→∃x,X x∧Sat (L x) f) (h:Hp E w (A::F)): ∃x,X x∧Hp E w (L x++F):=by
 obtain ⟨f,a,g,k,hd,e,h1,h2⟩:=h.frag
 obtain ⟨x,hx,h3⟩:=hA g h1
 exact ⟨x,hx,h.os,h.output,h.tape,f,a,Sat.append.2 ⟨g,k,hd,e,h3,h2⟩⟩
theorem Hp.G7 (hA: ∀f,Sat l f→A f) (h:Hp E w (l++F)):Hp E w (A::F):=by
 obtain ⟨f,a,h1⟩:=h.frag
 obtain ⟨g,k,hd,e,h1,h2⟩:=Sat.append.1 h1
 exact ⟨h.os,h.output,h.tape,f,a,g,k,hd,e,hA _ h1,h2⟩
theorem Hp.Gj (hA: ∀f,A f→B f) (h:Hp E w (A::F)):Hp E w (B::F):=by
 obtain ⟨f,a,g,k,hd,e,h1,h2⟩:=h.frag
 exact ⟨h.os,h.output,h.tape,f,a,g,k,hd,e,hA _ h1,h2⟩
theorem Hp.drop (h:Hp E w (A::F)):Hp E w F:=by
 obtain ⟨f,a,g,k,hd,rfl,h1,h2⟩:=h.frag
 refine ⟨h.os,h.output,h.tape,k,fun r o hr=>a r o ?_,h2⟩
 rcases hd r with hg|hk
 ·simp [aJ.add,hg,hr]
 ·rw [hk] at hr;cases hr
theorem Hp.emp (h:Hp E w F) (hA:A aJ.emp):Hp E w (A::F):=by
 obtain ⟨f,a,h1⟩:=h.frag
 exact ⟨h.os,h.output,h.tape,f,a,aJ.emp,f,fun _=> .inl rfl,(aJ.uM f).symm,hA,h1⟩
theorem Hp.same (h:Hp E w l) (h1:w'.heap=w.heap) (h2:w'.os=w.os) (h3:w'.output=w.output) (h4:w'.tape=w.tape):Hp E w' l:=
 ⟨h2.trans h.os,h3.trans h.output,h4.trans h.tape,let ⟨f,a,b⟩:=h.frag;⟨f,fun r o hr=>by rw [h1];exact a r o hr,b⟩⟩
theorem Hp.drew {n:Nat} (h:Hp E w l):Hp E {w with drawn:=n} l:=h.same rfl rfl rfl rfl
theorem Hp.aC {b:Nat} {o:Obj} (h:Hp E w (aj b o::F)):w.heap[b]? =some o:=by
 obtain ⟨f,a,g,k,hd,rfl,rfl,h2⟩:=h.frag
 exact a b o (by simp [aJ.add,aJ.one])
theorem Hp.cell {b i:Nat} {c:Array Value} {t:TypeId} {fr:Nat×Nat} (h:Hp E w (aj b (.cells c t fr)::F)):w.cell? ⟨b,i,none⟩=c[i]? :=by
 simp [World.cell?,h.aC]
theorem Hp.alloc (h:Hp E w F) (o:Obj):Hp E (w.alloc o) (aj w.heap.size o::F):=by
 obtain ⟨f,a,h1⟩:=h.frag
 have hn:f w.heap.size=none:=by
  cases hf:f w.heap.size with
  |none=>rfl
  |some o=>have:=a _ _ hf;simp at this
 refine ⟨h.os,h.output,h.tape,(aJ.one w.heap.size o).add f,fun r o' hr=> ?_,_,_,fun r=> ?_,rfl,rfl,h1⟩
 ·show (w.heap.push o)[r]? =_
  rw [Array.getElem?_push]
  by_cases hr0:r=w.heap.size
  ·subst hr0;simp [aJ.add,aJ.one] at hr;simp [hr]
  ·simp [aJ.add,aJ.one,hr0] at hr
   rw [if_neg hr0];exact a r o' hr
 ·by_cases hr0:r=w.heap.size
  ·subst hr0;exact .inr hn
  ·exact .inl (by simp [aJ.one,hr0])
theorem Hp.setObj {b:Nat} {o o':Obj} (h:Hp E w (aj b o::F)) (h1:w'.heap=w.heap.set! b o') (h2:w'.os=w.os) (h3:w'.output=w.output) (h4:w'.tape=w.tape):Hp E w' (aj b o'::F):=by
 have hb:=h.aC
 obtain ⟨f,a,g,k,hd,rfl,rfl,h5⟩:=h.frag
 have hk:k b=none:=by
  rcases hd b with hh|hh
  ·simp [aJ.one] at hh
  ·exact hh
 refine ⟨h2.trans h.os,h3.trans h.output,h4.trans h.tape,(aJ.one b o').add k,fun r x hr=> ?_,_,_,fun r=> ?_,rfl,rfl,h5⟩
 ·rw [h1]
  have hlt:b<w.heap.size:=by
   rcases Nat.lt_or_ge b w.heap.size with hh|hh
   ·exact hh
   ·simp [Array.getElem?_eq_none hh] at hb
  by_cases hr0:r=b
  ·subst hr0
   simp [aJ.add,aJ.one] at hr
   simp [hr,hlt]
  ·simp [aJ.add,aJ.one,hr0] at hr
   have:=a r x (by simp [aJ.add,aJ.one,hr0,hr])
   rw [Array.set!_eq_setIfInBounds,Array.getElem?_setIfInBounds_ne (Ne.symm hr0)]
   exact this
 ·by_cases hr0:r=b
  ·subst hr0;exact .inr hk
  ·exact .inl (by simp [aJ.one,hr0])
theorem Hp.setCell {b i:Nat} {c:Array Value} {t:TypeId} {fr:Nat×Nat} (h:Hp E w (aj b (.cells c t fr)::F)) (v:Value):
  Hp E (w.setCell ⟨b,i,none⟩ v) (aj b (.cells (c.setIfInBounds i v) t fr)::F):=by
 have hb:=h.aC
 refine h.setObj (o':= .cells (c.setIfInBounds i v) t fr) ?_ rfl rfl rfl
 apply Array.ext_getElem?
 intro r
 have hlt:b<w.heap.size:=by
  rcases Nat.lt_or_ge b w.heap.size with hh|hh
  ·exact hh
  ·simp [Array.getElem?_eq_none hh] at hb
 simp only [World.setCell,Array.getElem?_modify,Array.set!_eq_setIfInBounds,Array.getElem?_setIfInBounds]
 by_cases hr:b=r
 ·subst hr
  have hv:w.heap[b]= .cells c t fr:=by simpa [hlt] using hb
  simp [hlt,hv]
 ·simp [hr]
def ab (F:List HP) (φ:World→Prop):Prop:= ∀w f,I2 f w→Sat F f→φ w
theorem Hp.al {φ:World→Prop} (h:Hp E w F) (ht:ab F φ):φ w:=let ⟨f,a,b⟩:=h.frag;ht w f a b
theorem ab.cons {φ:World→Prop} (ht:ab F φ):ab (A::F) φ:=by
 rintro w f a ⟨g,k,hd,rfl,h1,h2⟩
 refine ht w k (fun r o hr=>a r o ?_) h2
 rcases hd r with hg|hk
 ·simp [aJ.add,hg,hr]
 ·rw [hk] at hr;cases hr
theorem ab.perm {φ:World→Prop} (ht:ab l φ) (hp:l.Perm l'):ab l' φ:=fun w f a b=>ht w f a (Sat.perm hp.symm f b)
theorem ab.imp {φ ψ:World→Prop} (ht:ab F φ) (h: ∀w,φ w→ψ w):ab F ψ:=fun w f a b=>h w (ht w f a b)
theorem ab.and {φ ψ:World→Prop} (h1:ab F φ) (h2:ab F ψ):ab F (fun w=>φ w∧ψ w):=fun w f a b=>⟨h1 w f a b,h2 w f a b⟩
theorem ab.all {α:Sort _} {φ:α→World→Prop} (h: ∀x,ab F (φ x)):ab F (fun w=> ∀x,φ x w):=fun w f a b x=>h x w f a b
theorem ab.const {p:Prop} (h:p):ab F (fun _=>p):=fun _ _ _ _=>h
def Old (W:World):HP:=fun f=> ∀r,f r=W.heap[r]?
theorem Hp.start (W:World):Hp W W [Old W]:=
 ⟨rfl,rfl,rfl,fun r=>W.heap[r]?,fun _ _ h=>h,fun r=>W.heap[r]?,aJ.emp,fun _=> .inr rfl,(aJ.HH _).symm,fun _=>rfl,rfl⟩
theorem ab.KO {W:World} {φ:World→Prop} (h: ∀w,(∀r,r<W.heap.size→w.heap[r]? =W.heap[r]?)→φ w):ab (Old W::F) φ:=by
 rintro w f a ⟨g,k,hd,rfl,h1,h2⟩
 refine h w fun r hr=> ?_
 have:g r=some W.heap[r]:=by rw [h1 r];simp [hr]
 rw [a r W.heap[r] (by simp [aJ.add,this])]
 simp [hr]
theorem Hp.below {W:World} (h:Hp W w (Old W::F)):Go.RowKit.Below W.heap.size W w:=by
 have hk:=h.al (ab.KO (φ:=fun w=> ∀r,r<W.heap.size→w.heap[r]? =W.heap[r]?) fun w h=>h)
 refine ⟨h.os,h.tape,h.output,?_,hk⟩
 rcases Nat.lt_or_ge w.heap.size W.heap.size with hlt|hge
 ·have:=hk w.heap.size hlt
  simp [hlt] at this
 ·exact hge
end
section
variable {E w:World} {F:List HP}
theorem aa.mk {b:Bool} {X Y:Prop} (h1:b=true→X) (h2:b=false→Y):aa b X Y:=by
 cases b
 ·exact h2 rfl
 ·exact h1 rfl
theorem aa.t {b:Bool} {X Y:Prop} (hb:b=true) (h:X):aa b X Y:=by subst hb;exact h
theorem aa.f {b:Bool} {X Y:Prop} (hb:b=false) (h:Y):aa b X Y:=by subst hb;exact h
theorem Ld.sc {s:Sc} {p:Addr} {K:s.T→Prop} (x:s.T) (hc:w.cell? p=some (s.enc x)) (h:K x):Ld (.sc s) p w K:=
 ⟨x,fun w' hw=>by subst hw;exact hc,h⟩
theorem St.mk {p:Addr} {v:Value} {K:World→Prop} {b i:Nat} {c:Array Value} {t:TypeId} (hp:p=⟨b,i,none⟩) (hh:Hp E w (aj b (.cells c t (0,0))::F)) (hi:i<c.size) (hv:ay v=true)
  (h: ∀w',Hp E w' (aj b (.cells (c.setIfInBounds i v) t (0,0))::F)→K w'):St p v w K:=by
 subst hp
 unfold St
 rw [hv]
 refine ⟨?_,?_,h _ (hh.setCell v)⟩
 ·rw [hh.cell];simp [hi]
 ·simp [World.frozen?,hh.aC]
theorem Nw.mk {t:TypeId} {cs:Array Value} {K:Nat→World→Prop} (hh:Hp E w F) (h: ∀b w',Hp E w' (aj b (.cells cs t (0,0))::F)→K b w'):Nw t cs w K:=h _ _ (hh.alloc _)
theorem ao.mk {K:World→Prop} (hh:Hp E w F) (h: ∀w',Hp E w' F→K w'):ao w K:=h _ hh.drew
theorem Cl.imp {P:Program} {ks:List Ki} {i:FuncId} {args:Array Value} {K K':dK ks (World→Prop)} (h:Cl P ks i args w K) (hk: ∀e w',oA ks K e w'→oA ks K' e w'):Cl P ks i args w K':=
 Calls.mono h hk
end
end Go.Vc
set_option maxRecDepth 20000
namespace Go.Vc
open Go
theorem ag {x:Int} (h: -9223372036854775808≤x∧x≤9223372036854775807):i64 x=x:=IntWalk.i64_in x h
theorem mo {x:Int} (h:0≤x∧x≤18446744073709551615):u64 x=x:=IntWalk.u64_in x h
theorem kK {x:Int} (h:0≤x∧x≤4294967295):u32 x=x:=IntWalk.u32_in x h
theorem te (x:Int):u8 x=x % 256:=by
 show IntKind.wrap .u8 x=x % 256
 simp [IntKind.wrap,IntKind.bits,IntKind.signed]
theorem oY {x:Int} (h:0≤x∧x≤255):u8 x=x:=by rw [te];omega
theorem je (n a:Nat) (h:a<2^n):(BitVec.ofInt n (a:Int)).toNat=a:=by
 rw [BitVec.toNat_ofInt]
 have:((a:Int) % ((2^n:Nat):Int))=((a % 2^n:Nat):Int):=by omega
 rw [this,Int.toNat_natCast,Nat.mod_eq_of_lt h]
theorem oK {k:IntKind} {a:Nat} (h:(a:Int)≤k.max):k.wrap (a:Int)=a:=by
 cases k
 ·have:IntKind.max .i8=127:=rfl
  exact IntWalk.i8_in _ (by omega)
 ·have:IntKind.max .i16=32767:=rfl
  exact IntWalk.i16_in _ (by omega)
 ·have:IntKind.max .i32=2147483647:=rfl
  exact IntWalk.i32_in _ (by omega)
 ·have:IntKind.max .i64=9223372036854775807:=rfl
  exact IntWalk.i64_in _ (by omega)
 ·have:IntKind.max .u8=255:=rfl
  exact IntWalk.u8_in _ (by omega)
 ·have:IntKind.max .u16=65535:=rfl
  exact IntWalk.u16_in _ (by omega)
 ·have:IntKind.max .u32=4294967295:=rfl
  exact IntWalk.u32_in _ (by omega)
 ·have:IntKind.max .u64=18446744073709551615:=rfl
  exact IntWalk.u64_in _ (by omega)
theorem max_lt (k:IntKind):(k.max:Int)<2^k.bits:=by cases k<;>decide
theorem lT {k:IntKind} {a:Nat} (ha:(a:Int)≤k.max):a<2^k.bits:=by
 have:=max_lt k
 have h2:(a:Int)<2^k.bits:=Int.lt_of_le_of_lt ha this
 exact_mod_cast h2
theorem ou {k:IntKind} {a b:Nat} (ha:(a:Int)≤k.max) (hb:(b:Int)≤k.max) (h:((a|||b:Nat):Int)≤k.max):jP k a b=((a|||b:Nat):Int):=by
 unfold jP
 rw [BitVec.toNat_or,je _ _ (lT ha),je _ _ (lT hb),oK h]
theorem eI {k:IntKind} {a b:Nat} (ha:(a:Int)≤k.max) (hb:(b:Int)≤k.max):bl k a b=((a&&&b:Nat):Int):=by
 unfold bl
 rw [BitVec.toNat_and,je _ _ (lT ha),je _ _ (lT hb),oK]
 have:=Nat.and_le_left (n:=a) (m:=b)
 omega
theorem pk {k:IntKind} {a b:Nat} (ha:(a:Int)≤k.max) (hb:(b:Int)≤k.max) (h:((a^^^b:Nat):Int)≤k.max):gk k a b=((a^^^b:Nat):Int):=by
 unfold gk
 rw [BitVec.toNat_xor,je _ _ (lT ha),je _ _ (lT hb),oK h]
theorem bG {k:IntKind} {a b:Nat} (hb:b≤k.bits):aF k a b=((a/2^b:Nat):Int):=by
 unfold aF
 rw [Int.toNat_natCast,Nat.min_eq_left hb,Int.fdiv_eq_ediv_of_nonneg _ (by exact_mod_cast Nat.zero_le _)]
 exact_mod_cast rfl
theorem dJ {k:IntKind} {a b:Nat} (hb:b≤k.bits) (h:((a*2^b:Nat):Int)≤k.max):a8 k a b=((a*2^b:Nat):Int):=by
 unfold a8
 rw [Int.toNat_natCast,Nat.min_eq_left hb]
 have:(a:Int)*2^b=((a*2^b:Nat):Int):=by push_cast;rfl
 rw [this,oK h]
theorem aq (b o n:Nat):(⟨b,o,none⟩:Addr).add n=⟨b,o+n,none⟩:=by
 unfold Addr.add
 split
 ·rename_i h;subst h;rfl
 ·rfl
theorem add_zero (p:Addr):p.add 0=p:=by simp [Addr.add]
def aA (sz:Nat) (s:Sl) (xs:List Value) (w:World):Prop:=
 xs.length=s.len*sz∧∀i (h:i<xs.length),∃p,s.base=some p∧w.cell? (p.add i)=some xs[i]
def ak (sz:Nat) (s:Sl) (xs:List Value):HP:=fun f=>
 xs.length=s.len*sz∧((s.base=none∧s.len=0∧s.cap=0∧f=aJ.emp)∨
 ∃b off arr t,s.base=some ⟨b,off,none⟩∧s.len≤s.cap∧off+s.cap*sz≤arr.size∧(∀i (h:i<xs.length),arr[off+i]? =some xs[i])∧f=aJ.one b (.cells arr t (0,0)))
section
variable {E w w':World} {F:List HP} {sz:Nat} {s:Sl} {xs ys:List Value}
theorem ak.nil (sz:Nat):ak sz ⟨none,0,0⟩ [] aJ.emp:=⟨by simp,.inl ⟨rfl,rfl,rfl,rfl⟩⟩
theorem Hp.bJ (h:Hp E w F) (sz:Nat):Hp E w (ak sz ⟨none,0,0⟩ []::F):=h.emp (ak.nil sz)
theorem Hp.iw {b:Nat} {arr:Array Value} {t:TypeId} {n:Nat} (h:Hp E w (aj b (.cells arr t (0,0))::F)) (hn:arr.toList.length=n*sz):
  Hp E w (ak sz ⟨some ⟨b,0,none⟩,n,n⟩ arr.toList::F):=by
 refine h.Gj fun f hf=>⟨hn,.inr ⟨b,0,arr,t,rfl,Nat.le_refl _,?_,?_,hf⟩⟩
 ·have:arr.size=n*sz:=by simpa using hn
  simp only [this];omega
 ·intro i hi
  have hi':i<arr.size:=by simpa using hi
  simp [hi']
theorem Hp.aH (h:Hp E w (ak sz s xs::F)):xs.length=s.len*sz:=by
 obtain ⟨f,a,g,k,hd,e,h1,h2⟩:=h.frag
 exact h1.1
theorem Hp.dM (h:Hp E w (ak sz s xs::F)):s.len≤s.cap:=by
 obtain ⟨f,a,g,k,hd,e,h1,h2⟩:=h.frag
 rcases h1.2 with ⟨h1,h2,h3,_⟩|⟨b,off,arr,t,h1,h2,_⟩
 ·omega
 ·exact h2
theorem Hp.j9 (h:Hp E w (ak sz s xs::F)):(s=⟨none,0,0⟩∧xs= []∧Hp E w F)∨
  ∃b off arr t,s.base=some ⟨b,off,none⟩∧s.len≤s.cap∧off+s.cap*sz≤arr.size∧(∀i (h:i<xs.length),arr[off+i]? =some xs[i])∧Hp E w (aj b (.cells arr t (0,0))::F):=by
 have hl:=h.aH
 obtain ⟨f,a,g,k,hd,rfl,h1,h2⟩:=h.frag
 rcases h1.2 with ⟨h3,h4,h5,h6⟩|⟨b,off,arr,t,h3,h4,h5,h6,h7⟩
 ·refine .inl ⟨by cases s;simp_all,?_,h.drop⟩
  have:xs.length=0:=by rw [hl,h4];simp
  exact List.length_eq_zero_iff.1 this
 ·exact .inr ⟨b,off,arr,t,h3,h4,h5,h6,h.os,h.output,h.tape,_,a,g,k,hd,rfl,h7,h2⟩
theorem Hp.fM {b off:Nat} {arr:Array Value} {t:TypeId} (h:Hp E w (aj b (.cells arr t (0,0))::F)) (hl:xs.length=s.len*sz) (h1:s.base=some ⟨b,off,none⟩) (h2:s.len≤s.cap) (h3:off+s.cap*sz≤arr.size)
  (h4: ∀i (h:i<xs.length),arr[off+i]? =some xs[i]):Hp E w (ak sz s xs::F):=
 h.Gj fun _ hf=>⟨hl,.inr ⟨b,off,arr,t,h1,h2,h3,h4,hf⟩⟩
theorem ab.own:ab (ak sz s xs::F) (aA sz s xs):=by
 rintro w f a ⟨g,k,hd,rfl,⟨hl,h1⟩,h2⟩
 refine ⟨hl,fun i hi=> ?_⟩
 rcases h1 with ⟨h3,h4,h5,_⟩|⟨b,off,arr,t,h3,h4,h5,h6,rfl⟩
 ·rw [hl,h4] at hi;simp at hi
 ·refine ⟨_,h3,?_⟩
  have:w.heap[b]? =some (.cells arr t (0,0)):=a b _ (by simp [aJ.add,aJ.one])
  rw [aq]
  simp only [World.cell?,this]
  exact h6 i hi
theorem ab.cell {W:World} {p:Addr} {v:Value} (h:W.cell? p=some v):ab (Old W::F) (fun w=>w.cell? p=some v):=by
 refine ab.KO fun w hw=> ?_
 have hlt:p.block<W.heap.size:=by
  unfold World.cell? at h
  rcases Nat.lt_or_ge p.block W.heap.size with hh|hh
  ·exact hh
  ·simp [Array.getElem?_eq_none hh] at h
 rw [←h]
 unfold World.cell?
 rw [hw _ hlt]
theorem ab.JA {W:World} (h:aA sz s xs W):ab (Old W::F) (aA sz s xs):=by
 intro w f a b
 refine ⟨h.1,fun i hi=> ?_⟩
 obtain ⟨p,hp,hc⟩:=h.2 i hi
 exact ⟨p,hp,(ab.cell hc) w f a b⟩
theorem ar.mk {i:Int} {K:Addr→Prop} {p:Addr} (hp:s.base=some p) (h0:0≤i) (h1:i<(s.len:Int)) (h:K (p.add (i.toNat*sz))):ar s i sz K:=⟨p,hp,h0,h1,h⟩
theorem ar.rd {i:Int} {K:Addr→Prop} (hs:aA 1 s xs w) (h0:0≤i) (h1:i<(s.len:Int)) (h: ∀p (hi:i.toNat<xs.length),w.cell? p=some xs[i.toNat]→K p):ar s i 1 K:=by
 have hl:i.toNat<xs.length:=by rw [hs.1];omega
 obtain ⟨p,hp,hc⟩:=hs.2 _ hl
 exact ⟨p,hp,h0,h1,h _ hl (by simpa using hc)⟩
theorem ar.Je {i:Int} {K:Addr→Prop} (hs:aA sz s xs w) (hz:0<sz) (h0:0≤i) (h1:i<(s.len:Int)) (h: ∀p,(∀j (hj:i.toNat*sz+j<xs.length),j<sz→w.cell? (p.add j)=some xs[i.toNat*sz+j])→K p):ar s i sz K:=by
 have hlt:i.toNat<s.len:=by omega
 have hmul:i.toNat*sz+sz≤s.len*sz:=by
  have:(i.toNat+1)*sz≤s.len*sz:=Nat.mul_le_mul_right _ hlt
  rw [Nat.succ_mul] at this;exact this
 obtain ⟨p,hp,_⟩:=hs.2 (i.toNat*sz) (by rw [hs.1];omega)
 refine ⟨p,hp,h0,h1,h _ fun j hj hjs=> ?_⟩
 obtain ⟨q,hq,hc⟩:=hs.2 (i.toNat*sz+j) hj
 have:q=p:=Option.some.inj (hq.symm.trans hp)
 subst this
 rw [←hc]
 congr 1
 unfold Addr.add
 by_cases e1:i.toNat*sz=0<;>by_cases e2:j=0<;>simp [e1,e2,Nat.add_assoc]
theorem Hp.setRow {b off:Nat} {t:TypeId}: ∀(vs:List Value) (i:Nat) (w:World) (arr:Array Value),Hp E w (aj b (.cells arr t (0,0))::F)→off+i+vs.length≤arr.size→
  ∃arr':Array Value,arr'.size=arr.size∧(∀j (h:j<vs.length),arr'[off+i+j]? =some vs[j])∧(∀j,j<off+i→arr'[j]? =arr[j]?)∧
   Hp E (aw.setRow w ⟨b,off,none⟩ vs i) (aj b (.cells arr' t (0,0))::F)
 | [],i,w,arr,h,_=>⟨arr,rfl,fun j h=>by simp at h,fun _ _=>rfl,h⟩
 |v::vs,i,w,arr,h,hl=>by
  simp only [List.length_cons] at hl
  have h1:=h.setCell (i:=off+i) v
  have hsz:off+(i+1)+vs.length≤(arr.setIfInBounds (off+i) v).size:=by rw [Array.size_setIfInBounds];omega
  obtain ⟨arr',e1,e2,e3,h2⟩:=Hp.setRow (b:=b) (off:=off) (t:=t) vs (i+1) _ (arr.setIfInBounds (off+i) v) h1 hsz
  refine ⟨arr',by simpa using e1,fun j hj=> ?_,fun j hj=> ?_,?_⟩
  ·cases j with
   |zero=>
    rw [Nat.add_zero,e3 _ (by omega)]
    simp [show off+i<arr.size by omega]
   |succ j=>
    have:=e2 j (by simp at hj;omega)
    rw [show off+i+(j+1)=off+(i+1)+j by omega]
    simpa using this
  ·rw [e3 _ (by omega),Array.getElem?_setIfInBounds_ne (by omega)]
  ·rw [aw.setRow,aq];exact h2
theorem Ia {P:Program} {b off:Nat} {arr:Array Value} {t:TypeId} (h:Hp E w (aj b (.cells arr t (0,0))::F)) (vs:List Value) (i:Nat) (hl:off+i+vs.length≤arr.size) (hv: ∀v∈vs,ay v=true):
  (storeCells ⟨b,off,none⟩ vs i).run P w= .ok () (aw.setRow w ⟨b,off,none⟩ vs i):=by
 refine ph vs i w fun j hj=>⟨hv _ (List.getElem_mem hj),?_,?_⟩
 ·rw [aq,h.cell];simp;omega
 ·rw [aq];simp [World.frozen?,h.aC]
theorem gI: ∀(r c n:Nat),c≤2*n+1024→Builtin.growBy n r c≤2*n+1024
 |0,c,n,h=>h
 |r+1,c,n,h=>by
  unfold Builtin.growBy
  split
  ·exact h
  ·exact gI r _ n (by omega)
theorem uI {n c:Nat} (h:c<n):Builtin.nextslicecap n c≤2*n+1024:=by
 unfold Builtin.nextslicecap
 split
 ·omega
 ·split
  ·omega
  ·exact gI 4 c n (by omega)
structure bK (P:Program) (t e:TypeId) (sz bytes:Nat):Prop where
 und:P.underlying t=some (.slice e)
 info: ∃it z,P.info? e=some it∧it.size=sz∧it.bytes=bytes∧it.zero=some z∧z.cells.size=sz
def Hn (P:Program) (e:TypeId) (sz bytes:Nat):Bool:=
 match P.info? e with
 |some it=>it.size==sz&&it.bytes==bytes&&(match it.zero with|some z=>z.cells.size==sz|none=>false)
 |none=>false
theorem bK.of {P:Program} {t e:TypeId} {sz bytes:Nat} (h1:P.underlying t=some (.slice e)) (h2:Hn P e sz bytes=true):bK P t e sz bytes:=by
 refine ⟨h1,?_⟩
 unfold Hn at h2
 split at h2
 ·rename_i it hi
  simp only [Bool.and_eq_true,beq_iff_eq] at h2
  obtain ⟨⟨h2,h3⟩,h4⟩:=h2
  split at h4
  ·rename_i z hz
   exact ⟨it,z,hi,h2,h3,hz,by simpa using h4⟩
  ·simp at h4
 ·simp at h2
theorem vj {P:Program} {vs:List Value} {p:Addr} (h: ∀i (hi:i<vs.length),w.cell? (p.add i)=some vs[i]):(loadCells p vs.length).run P w= .ok vs.toArray w:=by
 have:=ia (P:=P) (w:=w) (a:=p) vs 0 #[] (fun j hj=>by simpa using h j hj)
 simpa [loadCells] using this
def Src (sz n:Nat) (x:Value) (ys:List Value) (w:World):Prop:=
 (∃b l c,x= .slice b l c∧n=l∧aA sz ⟨b,l,c⟩ ys w)∨(∃s:ByteArray,x= .string s∧n=s.size∧ys=s.data.toList.map fun b=> .int .u8 b.toNat)
theorem Src.run {P:Program} {n:Nat} {x:Value} (h:Src sz n x ys w):(Builtin.firstCells sz n x).run P w= .ok ys.toArray w∧(Builtin.lenOf x).run P w= .ok n w:=by
 rcases h with ⟨b,l,c,rfl,rfl,hl,hc⟩|⟨s,rfl,rfl,rfl⟩
 ·refine ⟨?_,rfl⟩
  simp only at hl
  cases b with
  |none=>
   cases ys with
   |nil=>rfl
   |cons y ys=>obtain ⟨p,hp,_⟩:=hc 0 (by simp);cases hp
  |some p=>
   show (loadCells p (n*sz)).run P w=_
   rw [←hl]
   exact vj fun i hi=>by obtain ⟨q,hq,hc⟩:=hc i hi;cases hq;exact hc
 ·refine ⟨?_,rfl⟩
  show Result.ok ((s.extract 0 s.size).data.map fun b=>Value.int .u8 b.toNat) w=_
  congr 1
  have:s.extract 0 s.size=s:=by simp
  rw [this]
  apply Array.ext'
  simp
theorem Src.len {n:Nat} {x:Value} (h:Src 1 n x ys w):ys.length=n:=by
 rcases h with ⟨b,l,c,rfl,rfl,hl,hc⟩|⟨s,rfl,rfl,rfl⟩
 ·simpa using hl
 ·simp
theorem kl (z:Array Value) (n:Nat):(Builtin.zeroCells z n).size=n*z.size:=by simp [Builtin.zeroCells]
theorem rQ {P:Program} {t tx ty e:TypeId} {bytes n:Nat} {x:Value} {K:Sl→World→Prop} (he:bK P t e sz bytes) (_:0<sz) (hx:(∃e2,P.underlying tx=some (.slice e2))∨P.underlying tx=some .string)
  (hh:Hp E w (ak sz s xs::F)) (hs:Src sz n x ys w) (hyl:ys.length=n*sz) (hys: ∀y∈ys,ay y=true) (hb:(2*(s.len+n)+1024)*bytes≤2^48) (hb2:s.len+n<2^62)
  (h: ∀s' w',Hp E w' (ak sz s' (xs++ys)::F)→s'.len=s.len+n→aA sz s xs w'→K s' w'):aD P (Builtin.append_ #[t,tx] ty ⟨[.slice s.base s.len s.cap,x]⟩) kS w K:=by
 obtain ⟨it,z,hi,hsz,hby,hze,hzs⟩:=he.info
 obtain ⟨hs1,hs2⟩:=hs.run (P:=P)
 have hlen:=hh.aH
 have hcap:=hh.dM
 have hso:(sizeOf e).run P w= .ok sz w:=by rw [bH hi,hsz]
 have step: ∀v w',(Builtin.append_ #[t,tx] ty ⟨[.slice s.base s.len s.cap,x]⟩).run P w= .ok v w'→(∃s':Sl,v= .slice s'.base s'.len s'.cap∧Hp E w' (ak sz s' (xs++ys)::F)∧s'.len=s.len+n∧aA sz s xs w')→
   aD P (Builtin.append_ #[t,tx] ty ⟨[.slice s.base s.len s.cap,x]⟩) kS w K:=by
  rintro v w' h1 ⟨s',rfl,h2,h3,h4⟩
  unfold aD
  rw [h1]
  exact h s' w' h2 h3 h4
 have hlen2:(xs++ys).length=(s.len+n)*sz:=by rw [List.length_append,hlen,hyl,Nat.add_mul]
 by_cases hfit:s.len+n≤s.cap
 ·rcases hh.j9 with ⟨rfl,rfl,hF⟩|⟨b,off,arr,tt,h1,h2,h3,h4,hB⟩
  ·have hn0:n=0:=by simp at hfit;exact hfit
   subst hn0
   have hy0:ys= []:=by simpa using hyl
   subst hy0
   refine step (.slice none 0 0) w ?_ ⟨⟨none,0,0⟩,rfl,hh,rfl,hh.al ab.own⟩
   rcases hx with ⟨e2,hd⟩|hd<;>simp [Builtin.append_,run_underlying he.und,hso,run_underlying hd,hs1,hs2]
  ·have hmul:(s.len+n)*sz≤s.cap*sz:=Nat.mul_le_mul_right _ hfit
   rw [Nat.add_mul] at hmul
   have hlr:off+s.len*sz+ys.length≤arr.size:=by omega
   obtain ⟨arr',e1,e2,e3,hB'⟩:=Hp.setRow (off:=off) ys (s.len*sz) w arr hB (by omega)
   have hrow:=Ia (P:=P) (off:=off+s.len*sz) hB ys 0 (by omega) hys
   have hro2:aw.setRow w ⟨b,off+s.len*sz,none⟩ ys 0=aw.setRow w ⟨b,off,none⟩ ys (s.len*sz):=by
    have key: ∀(vs:List Value) (w:World) (i:Nat),aw.setRow w ⟨b,off+s.len*sz,none⟩ vs i=aw.setRow w ⟨b,off,none⟩ vs (s.len*sz+i):=by
     intro vs
     induction vs with
     |nil=>intro w i;rfl
     |cons v vs ih=>intro w i;simp only [aw.setRow,ih,aq,Nat.add_assoc]
    simpa using key ys w 0
   refine step (.slice s.base (s.len+n) s.cap) (aw.setRow w ⟨b,off,none⟩ ys (s.len*sz)) ?_ ⟨⟨s.base,s.len+n,s.cap⟩,rfl,?_,rfl,⟨hlen,fun i hi=>⟨_,h1,by rw [aq,hB'.cell,e3 _ (by omega)];exact h4 i hi⟩⟩⟩
   ·rw [hro2] at hrow
    rcases hx with ⟨e2,hd⟩|hd<;>simp [Builtin.append_,run_underlying he.und,hso,run_underlying hd,hs1,hs2,hfit,h1,aq,hrow]
   ·refine Hp.fM hB' hlen2 h1 hfit (by simp only;omega) fun i hi=> ?_
    by_cases hi2:i<xs.length
    ·rw [e3 _ (by omega),List.getElem_append_left hi2];exact h4 i hi2
    ·rw [List.getElem_append_right (by omega)]
     have:=e2 (i - xs.length) (by simp at hi;omega)
     rw [←this]
     congr 1
     omega
 ·have hnext: ¬Builtin.nextslicecap (s.len+n) s.cap*it.bytes>2^48:=by
   have:=uI (n:=s.len+n) (c:=s.cap) (by omega)
   have h2:Builtin.nextslicecap (s.len+n) s.cap*it.bytes≤(2*(s.len+n)+1024)*bytes:=by rw [hby];exact Nat.mul_le_mul_right _ this
   omega
  have hmax: ¬((s.len+n:Nat):Int)>IntKind.i64.max:=by
   have:IntKind.i64.max=9223372036854775807:=rfl
   rw [this];omega
  have hold:(Builtin.firstCells sz s.len (.slice s.base s.len s.cap)).run P w= .ok xs.toArray w:=by
   have:Src sz s.len (.slice s.base s.len s.cap) xs w:= .inl ⟨s.base,s.len,s.cap,rfl,rfl,hh.al ab.own⟩
   exact (this.run (P:=P)).1
  generalize hq:Question.cut (.appendCap (s.len+n) s.cap e) (w.tape w.drawn (.appendCap (s.len+n) s.cap e))=newCap
  have hnc:s.len+n≤newCap:=by rw [←hq];exact Nat.le_add_right _ _
  have hF:Hp E w F:=hh.drop
  have hD:Hp E w.drew F:=hF.drew (n:=w.drawn+1)
  have hold':(Builtin.firstCells sz s.len (.slice s.base s.len s.cap)).run P w.drew= .ok xs.toArray w.drew:=by
   have:Src sz s.len (.slice s.base s.len s.cap) xs w.drew:= .inl ⟨s.base,s.len,s.cap,rfl,rfl,(hh.drew (n:=w.drawn+1)).al ab.own⟩
   exact (this.run (P:=P)).1
  have hs1':(Builtin.firstCells sz n x).run P w.drew= .ok ys.toArray w.drew:=(Src.run (P:=P) (w:=w.drew) hs).1
  have hA:=hD.alloc (.cells (xs.toArray++ys.toArray++Builtin.zeroCells z.cells (newCap - (s.len+n))) e)
  refine step (.slice (some ⟨w.heap.size,0,none⟩) (s.len+n) newCap) _ ?_ ⟨⟨some ⟨w.heap.size,0,none⟩,s.len+n,newCap⟩,rfl,Hp.fM hA hlen2 rfl hnc ?_ ?_,rfl,((hh.drew (n:=w.drawn+1)).alloc (.cells (xs.toArray++ys.toArray++Builtin.zeroCells z.cells (newCap - (s.len+n))) e)).al (ab.cons ab.own)⟩
  ·have hz': ∀w:World,(zeroValue e).run P w= .ok z w:=by intro w;simp [zeroValue,typeInfo,hi,hze]
   have hti: ∀w:World,(typeInfo e).run P w= .ok it w:=by intro w;simp [typeInfo,hi]
   have hmax': ¬(9223372036854775807<(s.len:Int)+(n:Int)∧it.bytes=0):=by omega
   have hfo:Question.forced (.appendCap (s.len+n) s.cap e)=false:=rfl
   rcases hx with ⟨e2,hd⟩|hd<;>simp [Builtin.append_,run_underlying he.und,hso,run_underlying hd,hs2,hfit,hmax',hti,hnext,hfo,hq,hold',hs1',hz',newRow]
   all_goals rw [←Array.append_assoc,show xs.toArray++ys.toArray=(xs++ys).toArray by simp]
  ·simp only [Array.size_append,List.size_toArray,kl,hzs,hlen,hyl]
   have:newCap*sz=(s.len+n)*sz+(newCap - (s.len+n))*sz:=by rw [←Nat.add_mul];congr 1;omega
   rw [this,Nat.add_mul];omega
  ·intro i hi
   have h1:i<(xs.toArray++ys.toArray).size:=by simpa using hi
   rw [Nat.zero_add,Array.getElem?_append_left h1]
   have:(xs.toArray++ys.toArray)=(xs++ys).toArray:=by simp
   rw [this]
   simp only [List.getElem?_toArray]
   exact List.getElem?_eq_getElem hi
theorem aN {P:Program} {t tx ty e:TypeId} {bytes n:Nat} {x:Value} {K:Sl→World→Prop} (he:bK P t e sz bytes) (hz:0<sz) (hx:(∃e2,P.underlying tx=some (.slice e2))∨P.underlying tx=some .string)
  (hh:Hp E w (ak sz s xs::F)) (hs:Src sz n x ys w) (hyl:ys.length=n*sz) (hys: ∀y∈ys,ay y=true) (hb:(2*(s.len+n)+1024)*bytes≤2^48) (hb2:s.len+n<2^62)
  (h: ∀s' w',Hp E w' (ak sz s' (xs++ys)::F)→s'.len=s.len+n→K s' w'):aD P (Builtin.append_ #[t,tx] ty ⟨[.slice s.base s.len s.cap,x]⟩) kS w K:=
 rQ he hz hx hh hs hyl hys hb hb2 fun s' w' h1 h2 _=>h s' w' h1 h2
end
theorem og.mk {P:Program} {i:FuncId} {first captured:Array Value} {ks:List Ki} {args:List Value} {w:World} {K:dK ks (World→Prop)} (ok:kU P i=true) (h:Cl P ks i ⟨first.toList++args++captured.toList⟩ w K):
  og P (.func (.func i) first captured) ks args w K:=by
 show cF _ _
 rw [ok];exact h
theorem gW.mk {P:Program} {i:FuncId} {first captured:Array Value} {ks:List Ki} {args:List Value} {w:World} {K:dK ks (World→Prop)} (ok:kU P i=true) (h:Cl P ks i ⟨first.toList++args++captured.toList⟩ w K):
  gW P (.func (.func i) first captured) ks args w K:=by
 unfold gW
 simp only [ok]
 exact h
theorem aQ {X Y:Prop}:aa true X Y=X:=rfl
theorem aR {X Y:Prop}:aa false X Y=Y:=rfl
theorem au {p:Addr} {K:Addr→Prop}:dO (some p) K=K p:=rfl
theorem ax {α:Type} (r:α) (k:α→Prop):bo r k=k r:=rfl
section
variable {E w:World} {F:List HP}
theorem Ld.aC {s:Sc} {b i:Nat} {c:Array Value} {t:TypeId} {fr:Nat×Nat} {K:s.T→Prop} (h:Hp E w (aj b (.cells c t fr)::F)) (x:s.T) (hx:c[i]? =some (s.enc x)) (hk:K x):Ld (.sc s) ⟨b,i,none⟩ w K:=
 Ld.sc x (by rw [h.cell];exact hx) hk
theorem St.aC {v:Value} {K:World→Prop} {b i:Nat} {c:Array Value} {t:TypeId} (hh:Hp E w (aj b (.cells c t (0,0))::F)) (hi:i<c.size) (hv:ay v=true)
  (h: ∀w',Hp E w' (aj b (.cells (c.setIfInBounds i v) t (0,0))::F)→K w'):St ⟨b,i,none⟩ v w K:=St.mk rfl hh hi hv h
end
def bR:Nat:=1099511627776
theorem av:bR=1099511627776:=rfl
def vB (x:Nat):Value:= .int .u8 (x:Int)
def vI (x:Int):Value:= .int .i64 x
theorem cy {xs:List Nat}: ∀y∈xs.map vB,ay y=true:=by
 intro y hy
 obtain ⟨x,_,rfl⟩:=List.mem_map.1 hy
 rfl
theorem vD {xs:List Int}: ∀y∈xs.map vI,ay y=true:=by
 intro y hy
 obtain ⟨x,_,rfl⟩:=List.mem_map.1 hy
 rfl
theorem St.Gp {E w:World} {F:List HP} {sz j:Nat} {s:Sl} {xs:List Value} {i:Int} {v:Value} {K:World→Prop} (hh:Hp E w (ak sz s xs::F)) (hj:j<sz) (h0:0≤i) (h1:i<(s.len:Int)) (hv:ay v=true)
  (h: ∀w',Hp E w' (ak sz s (xs.set (i.toNat*sz+j) v)::F)→K w'):ar s i sz (fun q=>St (q.add j) v w K):=by
 have hl:=hh.aH
 have hlt:i.toNat<s.len:=by omega
 have hmul:i.toNat*sz+sz≤s.len*sz:=by
  have:(i.toNat+1)*sz≤s.len*sz:=Nat.mul_le_mul_right _ hlt
  rw [Nat.succ_mul] at this;exact this
 rcases hh.j9 with ⟨rfl,rfl,hF⟩|⟨b,off,arr,t,e1,e2,e3,e4,hB⟩
 ·simp at hlt
 ·have hcm:s.len*sz≤s.cap*sz:=Nat.mul_le_mul_right _ e2
  refine ⟨_,e1,h0,h1,?_⟩
  rw [aq]
  show St (Addr.add _ j) v w K
  rw [aq]
  refine St.mk rfl hB (by omega) hv fun w' h'=>h _ ?_
  refine h'.fM (by simpa using hl) e1 e2 (by simpa using e3) fun r hr=> ?_
  rw [List.length_set] at hr
  rw [Array.getElem?_setIfInBounds,List.getElem_set]
  by_cases hq:i.toNat*sz+j=r
  ·rw [if_pos (by omega),if_pos (by omega),if_pos hq]
  ·rw [if_neg (by omega),if_neg hq];exact e4 r hr
theorem St.own {E w:World} {F:List HP} {s:Sl} {xs:List Value} {i:Int} {v:Value} {K:World→Prop} (hh:Hp E w (ak 1 s xs::F)) (h0:0≤i) (h1:i<(s.len:Int)) (hv:ay v=true)
  (h: ∀w',Hp E w' (ak 1 s (xs.set i.toNat v)::F)→K w'):ar s i 1 (fun q=>St q v w K):=by
 have:=St.Gp (sz:=1) (j:=0) (K:=K) hh (by decide) h0 h1 hv (by simpa using h)
 simpa only [add_zero] using this
theorem ab.aC {F:List HP} {b n m sz:Nat} {arr:Array Value} {xs:List Value} {t:TypeId} {fr:Nat×Nat} (hx:arr.toList=xs) (hl:xs.length=n*sz):ab (aj b (.cells arr t fr)::F) (aA sz ⟨some ⟨b,0,none⟩,n,m⟩ xs):=by
 subst hx
 rintro w f a ⟨g,k,hd,rfl,rfl,h2⟩
 refine ⟨hl,fun i hi=>⟨_,rfl,?_⟩⟩
 have:w.heap[b]? =some (.cells arr t fr):=a b _ (by simp [aJ.add,aJ.one])
 rw [aq]
 simp only [World.cell?,this,Nat.zero_add]
 have hi':i<arr.size:=by simpa using hi
 simp [hi']
theorem ab.nil {F:List HP} {sz:Nat}:ab F (aA sz ⟨none,0,0⟩ []):=fun _ _ _ _=>⟨by simp,fun i hi=>by simp at hi⟩
theorem ar.EJ {E w:World} {F:List HP} {sz:Nat} {s:Sl} {xs:List Value} {i:Int} {K:Addr→Prop} (hh:Hp E w F) (hs:ab F (aA sz s xs)) (hz:0<sz) (h0:0≤i) (h1:i<(s.len:Int))
  (h: ∀p,(∀j,j<sz→ab F (fun w=>w.cell? (p.add j)=xs[i.toNat*sz+j]?))→K p):ar s i sz K:=by
 have hs1:=hh.al hs
 have hlt:i.toNat<s.len:=by omega
 have hmul:i.toNat*sz+sz≤s.len*sz:=by
  have:(i.toNat+1)*sz≤s.len*sz:=Nat.mul_le_mul_right _ hlt
  rw [Nat.succ_mul] at this;exact this
 have hx:xs.length=s.len*sz:=hs1.1
 obtain ⟨p,hp,_⟩:=hs1.2 (i.toNat*sz) (by omega)
 refine ⟨p,hp,h0,h1,h _ fun j hj=>hs.imp fun w' hs'=> ?_⟩
 obtain ⟨q,hq,hc⟩:=hs'.2 (i.toNat*sz+j) (by omega)
 have:q=p:=Option.some.inj (hq.symm.trans hp)
 subst this
 rw [List.getElem?_eq_getElem (by omega),←hc]
 congr 1
 unfold Addr.add
 by_cases e1:i.toNat*sz=0<;>by_cases e2:j=0<;>simp [e1,e2,Nat.add_assoc]
theorem aZ.own {E w:World} {F:List HP} {s:Sl} {xs:List Value} {lo hi:Int} {K:Sl→Prop} (hh:Hp E w (ak 1 s xs::F)) (h0:0≤lo) (h1:lo≤hi) (h2:hi≤(s.len:Int))
  (h: ∀s':Sl,Hp E w (ak 1 s' ((xs.drop lo.toNat).take (hi.toNat - lo.toNat))::F)→s'.len=hi.toNat - lo.toNat→K s'):aZ s lo hi s.cap 1 K:=by
 have hl:=hh.aH
 have hc:=hh.dM
 refine ⟨h0,h1,by omega,by omega,h _ ?_ rfl⟩
 rcases hh.j9 with ⟨rfl,rfl,hF⟩|⟨b,off,arr,t,e1,e2,e3,e4,hB⟩
 ·simp only at h2
  have e1:lo.toNat=0:=by omega
  have e2:hi.toNat=0:=by omega
  simpa [e1,e2] using hh
 ·have key:(if (s.cap:Int).toNat=lo.toNat then s.base else s.base.map (·.add (lo.toNat*1)))=if s.cap=lo.toNat then s.base else some ⟨b,off+lo.toNat,none⟩:=by
   rw [Int.toNat_natCast,e1]
   simp only [Option.map_some,aq,Nat.mul_one]
  rw [key,Int.toNat_natCast]
  have hlen:((xs.drop lo.toNat).take (hi.toNat - lo.toNat)).length=(hi.toNat - lo.toNat)*1:=by simp [hl];omega
  by_cases hcl:s.cap=lo.toNat
  ·rw [if_pos hcl]
   refine hB.fM hlen e1 (by simp only;omega) (by simp only;omega) fun i hi'=> ?_
   rw [hlen] at hi';omega
  ·rw [if_neg hcl]
   refine hB.fM hlen rfl (by simp only;omega) (by simp only;omega) fun i hi'=> ?_
   have hi2:lo.toNat+i<xs.length:=by rw [hlen] at hi';omega
   rw [Nat.add_assoc,e4 _ hi2]
   simp
theorem aZ.rd {w:World} {s:Sl} {xs:List Value} {lo hi mx:Int} {K:Sl→Prop} (hs:aA 1 s xs w) (h0:0≤lo) (h1:lo≤hi) (h2:hi≤(s.len:Int)) (h3:hi≤mx) (h4:mx≤(s.cap:Int))
  (h: ∀s':Sl,(∀w',aA 1 s xs w'→aA 1 s' ((xs.drop lo.toNat).take (hi.toNat - lo.toNat)) w')→s'.len=hi.toNat - lo.toNat→K s'):aZ s lo hi mx 1 K:=by
 have hl:=hs.1
 refine ⟨h0,h1,h3,h4,h _ (fun w' hs'=> ?_) rfl⟩
 have hlen:((xs.drop lo.toNat).take (hi.toNat - lo.toNat)).length=(hi.toNat - lo.toNat)*1:=by simp [hl];omega
 refine ⟨hlen,fun i hi'=> ?_⟩
 have hi2:lo.toNat+i<xs.length:=by rw [hlen] at hi';omega
 obtain ⟨p,hp,hcell⟩:=hs'.2 _ hi2
 have hne:mx.toNat≠lo.toNat:=by rw [hlen] at hi';omega
 refine ⟨p.add lo.toNat,by simp [hne,hp],?_⟩
 have:(p.add lo.toNat).add i=p.add (lo.toNat+i):=by
  unfold Addr.add
  by_cases e1:lo.toNat=0<;>by_cases e2:i=0<;>simp [e1,e2,Nat.add_assoc]
 rw [this,hcell]
 simp
end Go.Vc
set_option maxRecDepth 20000
namespace Go.Vc
open Go
section
variable {E w:World} {F A:List HP}
theorem Hp.put {b:Nat} {o:Obj} (h:Hp E w (aj b o::F)) (o':Obj):Hp E (w.putObj b o') (aj b o'::F):=h.setObj rfl rfl rfl rfl
def uD:HP:=fun _=>False
theorem Hp.Ab {B:HP} (h:Hp E w (B::uD::F)):False:=by
 obtain ⟨f,_,g,k,_,_,_,g2,k2,_,_,h2,_⟩:=h.frag
 exact h2
def Bm (P:Program) (E:World) (yv:Value) (n:Nat) (vs:Nat→List Value) (C G:Nat→List HP):Prop:=
 ∀i,i<n→∀(A:List HP) (w:World) (K:Bool→World→Prop),Hp E w (C i++A)→(∀w',Hp E w' (C (i+1)++A)→K true w')→(∀w',Hp E w' (G i++A)→K false w')→jR P yv [kB] (vs i) w K
def Iter (P:Program) (E:World) (v:Value) (n:Nat) (vs:Nat→List Value) (A:List HP):Prop:=
 ∀(yv:Value) (C G:Nat→List HP) (w:World) (K:World→Prop),Bm P E yv n vs C G→Hp E w (C 0++A)→(∀w',Hp E w' (C n++A)→K w')→(∀i w',i<n→Hp E w' (G i++A)→K w')→og P v [] [yv] w K
theorem ek.gen {P:Program} {v:Value} {ks:List Ki} {B:Nat→(Nat→Obj)→dK ks (World→(World→Prop)→(World→Prop)→Prop)} {K Kr:Nat→World→Prop} {n:Nat} {vs:Nat→List Value} (C G:Nat→List HP)
  (hh:Hp E w (C 0++A)) (hit:Iter P E v n vs A)
  (hbody: ∀l rec (T:List Value→(World→(World→Prop)→(World→Prop)→Prop)→Prop),yS ks (B l rec) T→∀i,i<n→∃b,T (vs i) b∧∀(A:List HP) (w:World) (Kt Kf:World→Prop),Hp E w (aj l (rec 0)::(C i++A))→
   (∀w',Hp E w' (aj l (rec 0)::(C (i+1)++A))→Kt w')→(∀w',Hp E w' (aj l (rec 2)::(G i++A))→Kf w')→b w Kt Kf)
  (hK: ∀D w',Hp E w' (aj D (.deferred (some []))::(C n++A))→K D w') (hKr: ∀i D w',i<n→Hp E w' (aj D (.deferred (some []))::(G i++A))→Kr D w'):ek P v ks w B K Kr:=by
 intro rec yv hy
 have h1:=hh.alloc (.deferred (some []))
 have h2:=h1.alloc (rec 0)
 have hs:(w.alloc (.deferred (some []))).heap.size=w.heap.size+1:=by show (w.heap.push _).size=_;simp
 rw [hs] at h2
 refine hit yv (fun i=>aj (w.heap.size+1) (rec 0)::aj w.heap.size (.deferred (some []))::C i) (fun i=>aj (w.heap.size+1) (rec 2)::aj w.heap.size (.deferred (some []))::G i) _ _ ?_ h2 ?_ ?_
 ·intro i hi A w2 R h hKt hKf
  obtain ⟨b,hb,h3⟩:=hbody (w.heap.size+1) rec _ (hy R w2) i hi
  refine hb h.aC (h3 (aj w.heap.size (.deferred (some []))::A) w2 _ _ (h.perm (.cons _ List.perm_middle.symm)) (fun w' h'=>hKt w' (h'.perm (.cons _ List.perm_middle))) (fun w' h'=>hKf w' (h'.perm (.cons _ List.perm_middle))))
 ·intro w' h
  have h:Hp E w' (aj (w.heap.size+1) (rec 0)::aj w.heap.size (.deferred (some []))::(C n++A)):=h
  exact .inl ⟨h.aC,hK _ _ (h.put (rec 3)).drop⟩
 ·intro i w' hi h
  have h:Hp E w' (aj (w.heap.size+1) (rec 2)::aj w.heap.size (.deferred (some []))::(G i++A)):=h
  exact .inr ⟨h.aC,hKr i _ _ hi (h.put (rec 4)).drop⟩
theorem ek.rJ {P:Program} {v:Value} {k:Ki} {B:Nat→(Nat→Obj)→k.T→World→(World→Prop)→(World→Prop)→Prop} {K Kr:Nat→World→Prop} {n:Nat} {x:Nat→k.T} (C G:Nat→List HP)
  (hh:Hp E w (C 0++A)) (hit:Iter P E v n (fun i=> [k.enc (x i)]) A)
  (hbody: ∀l rec i (A:List HP) (w:World) (Kt Kf:World→Prop),i<n→Hp E w (aj l (rec 0)::(C i++A))→
   (∀w',Hp E w' (aj l (rec 0)::(C (i+1)++A))→Kt w')→(∀w',Hp E w' (aj l (rec 2)::(G i++A))→Kf w')→B l rec (x i) w Kt Kf)
  (hK: ∀D w',Hp E w' (aj D (.deferred (some []))::(C n++A))→K D w') (hKr: ∀i D w',i<n→Hp E w' (aj D (.deferred (some []))::(G i++A))→Kr D w'):ek P v [k] w B K Kr:=
 ek.gen (ks:= [k]) C G hh hit (fun l rec _ hT i hi=>⟨_,hT (x i),fun A w Kt Kf=>hbody l rec i A w Kt Kf hi⟩) hK hKr
theorem ek.Jf {P:Program} {v:Value} {k k':Ki} {B:Nat→(Nat→Obj)→k.T→k'.T→World→(World→Prop)→(World→Prop)→Prop} {K Kr:Nat→World→Prop} {n:Nat} {x:Nat→k.T} {y:Nat→k'.T} (C G:Nat→List HP)
  (hh:Hp E w (C 0++A)) (hit:Iter P E v n (fun i=> [k.enc (x i),k'.enc (y i)]) A)
  (hbody: ∀l rec i (A:List HP) (w:World) (Kt Kf:World→Prop),i<n→Hp E w (aj l (rec 0)::(C i++A))→
   (∀w',Hp E w' (aj l (rec 0)::(C (i+1)++A))→Kt w')→(∀w',Hp E w' (aj l (rec 2)::(G i++A))→Kf w')→B l rec (x i) (y i) w Kt Kf)
  (hK: ∀D w',Hp E w' (aj D (.deferred (some []))::(C n++A))→K D w') (hKr: ∀i D w',i<n→Hp E w' (aj D (.deferred (some []))::(G i++A))→Kr D w'):ek P v [k,k'] w B K Kr:=
 ek.gen (ks:= [k,k']) C G hh hit (fun l rec _ hT i hi=>⟨_,hT (x i) (y i),fun A w Kt Kf=>hbody l rec i A w Kt Kf hi⟩) hK hKr
theorem om.mk {l:Nat} {rec:Nat→Obj} {K:World→Prop} (h:Hp E w (aj l (rec 0)::F)) (hK: ∀w',Hp E w' (aj l (rec 1)::F)→K w'):om l rec w K:=⟨h.aC,hK _ (h.put _)⟩
theorem km.mk {l:Nat} {rec:Nat→Obj} {K:World→Prop} (h:Hp E w (aj l (rec 1)::F)) (hK: ∀w',Hp E w' (aj l (rec 0)::F)→K w'):km l rec w K:=⟨h.aC,hK _ (h.put _)⟩
theorem F2.mk {l:Nat} {rec:Nat→Obj} {K:World→Prop} (h:Hp E w (aj l (rec 1)::F)) (hK: ∀w',Hp E w' (aj l (rec 2)::F)→K w'):F2 l rec w K:=⟨h.aC,hK _ (h.put _)⟩
theorem gm.rJ {D:Nat} {K:World→Prop} (h:Hp E w (aj D (.deferred (some []))::F)) (hK: ∀w',Hp E w' F→K w'):gm [D] w K:=⟨h.aC,hK _ (h.put _).drop⟩
theorem gm.mk: ∀{ms:List Nat} {w:World} {K:World→Prop},Hp E w (ms.map (fun D=>aj D (.deferred (some [])))++F)→(∀w',Hp E w' F→K w')→gm ms w K
 | [],_,_,h,hK=>hK _ h
 |D::ms,w,K,h,hK=>by
  have h:Hp E w (aj D (.deferred (some []))::(ms.map (fun D=>aj D (.deferred (some [])))++F)):=h
  exact ⟨h.aC,gm.mk (ms:=ms) (h.put _).drop hK⟩
end
end Go.Vc
set_option maxRecDepth 20000
namespace Go.Vc
open Go
section
variable {E w:World} {F A:List HP}
def ri (P:Program) (E:World) (v:Value) (n:Nat) (vs:Nat→List Value) (A:List HP) (Φ:World→Prop):Prop:=
 ∀(yv:Value) (C G:Nat→List HP) (w:World) (K:World→Prop),(∀i,ab (C i) Φ)→Bm P E yv n vs C G→Hp E w (A++C 0)→(∀w',Hp E w' (C n)→K w')→(∀i w',i<n→Hp E w' (G i)→K w')→og P v [] [yv] w K
theorem ek.Jv {P:Program} {v:Value} {ks:List Ki} {Y:Nat→(Nat→Obj)→dK ks (World→(World→Prop)→(World→Prop)→Prop)} {K Kr:Nat→World→Prop} {n:Nat} {vs:Nat→List Value} {Φ:World→Prop} (C G:Nat→List HP)
  (hh:Hp E w (A++C 0)) (hΦ: ∀i,ab (C i) Φ) (hit:ri P E v n vs A Φ)
  (hbody: ∀l rec (T:List Value→(World→(World→Prop)→(World→Prop)→Prop)→Prop),yS ks (Y l rec) T→∀i,i<n→∃b,T (vs i) b∧∀(A:List HP) (w:World) (Kt Kf:World→Prop),Hp E w (aj l (rec 0)::(C i++A))→
   (∀w',Hp E w' (aj l (rec 0)::(C (i+1)++A))→Kt w')→(∀w',Hp E w' (aj l (rec 2)::(G i++A))→Kf w')→b w Kt Kf)
  (hK: ∀D w',Hp E w' (aj D (.deferred (some []))::C n)→K D w') (hKr: ∀i D w',i<n→Hp E w' (aj D (.deferred (some []))::G i)→Kr D w'):ek P v ks w Y K Kr:=by
 intro rec yv hy
 have h1:=hh.alloc (.deferred (some []))
 have h2:=h1.alloc (rec 0)
 have hs:(w.alloc (.deferred (some []))).heap.size=w.heap.size+1:=by show (w.heap.push _).size=_;simp
 rw [hs] at h2
 refine hit yv (fun i=>aj (w.heap.size+1) (rec 0)::aj w.heap.size (.deferred (some []))::C i) (fun i=>aj (w.heap.size+1) (rec 2)::aj w.heap.size (.deferred (some []))::G i) _ _ (fun i=>(hΦ i).cons.cons) ?_ ?_ ?_ ?_
 ·intro i hi A w2 R h hKt hKf
  obtain ⟨b,hb,h3⟩:=hbody (w.heap.size+1) rec _ (hy R w2) i hi
  refine hb h.aC (h3 (aj w.heap.size (.deferred (some []))::A) w2 _ _ (h.perm (.cons _ List.perm_middle.symm)) (fun w' h'=>hKt w' (h'.perm (.cons _ List.perm_middle))) (fun w' h'=>hKf w' (h'.perm (.cons _ List.perm_middle))))
 ·refine h2.perm ?_
  refine (List.Perm.trans (.cons _ List.perm_middle.symm) List.perm_middle.symm)
 ·intro w' h
  exact .inl ⟨h.aC,hK _ _ (h.put (rec 3)).drop⟩
 ·intro i w' hi h
  exact .inr ⟨h.aC,hKr i _ _ hi (h.put (rec 4)).drop⟩
theorem ek.two {P:Program} {v:Value} {k k':Ki} {Y:Nat→(Nat→Obj)→k.T→k'.T→World→(World→Prop)→(World→Prop)→Prop} {K Kr:Nat→World→Prop} {n:Nat} {x:Nat→k.T} {y:Nat→k'.T} {Φ:World→Prop} (C G:Nat→List HP)
  (hh:Hp E w (A++C 0)) (hΦ: ∀i,ab (C i) Φ) (hit:ri P E v n (fun i=> [k.enc (x i),k'.enc (y i)]) A Φ)
  (hbody: ∀l rec i (A:List HP) (w:World) (Kt Kf:World→Prop),i<n→Hp E w (aj l (rec 0)::(C i++A))→
   (∀w',Hp E w' (aj l (rec 0)::(C (i+1)++A))→Kt w')→(∀w',Hp E w' (aj l (rec 2)::(G i++A))→Kf w')→Y l rec (x i) (y i) w Kt Kf)
  (hK: ∀D w',Hp E w' (aj D (.deferred (some []))::C n)→K D w') (hKr: ∀i D w',i<n→Hp E w' (aj D (.deferred (some []))::G i)→Kr D w'):ek P v [k,k'] w Y K Kr:=
 ek.Jv (ks:= [k,k']) C G hh hΦ hit (fun l rec _ hT i hi=>⟨_,hT (x i) (y i),fun A w Kt Kf=>hbody l rec i A w Kt Kf hi⟩) hK hKr
theorem ek.CZ {P:Program} {v:Value} {k:Ki} {Y:Nat→(Nat→Obj)→k.T→World→(World→Prop)→(World→Prop)→Prop} {K Kr:Nat→World→Prop} {n:Nat} {x:Nat→k.T} {Φ:World→Prop} (C G:Nat→List HP)
  (hh:Hp E w (A++C 0)) (hΦ: ∀i,ab (C i) Φ) (hit:ri P E v n (fun i=> [k.enc (x i)]) A Φ)
  (hbody: ∀l rec i (A:List HP) (w:World) (Kt Kf:World→Prop),i<n→Hp E w (aj l (rec 0)::(C i++A))→
   (∀w',Hp E w' (aj l (rec 0)::(C (i+1)++A))→Kt w')→(∀w',Hp E w' (aj l (rec 2)::(G i++A))→Kf w')→Y l rec (x i) w Kt Kf)
  (hK: ∀D w',Hp E w' (aj D (.deferred (some []))::C n)→K D w') (hKr: ∀i D w',i<n→Hp E w' (aj D (.deferred (some []))::G i)→Kr D w'):ek P v [k] w Y K Kr:=
 ek.Jv (ks:= [k]) C G hh hΦ hit (fun l rec _ hT i hi=>⟨_,hT (x i),fun A w Kt Kf=>hbody l rec i A w Kt Kf hi⟩) hK hKr
def G4 {α:Type} (X:α→Prop) (L:α→List HP):HP:=fun f=> ∃x,X x∧Sat (L x) f
theorem Hp.ex {α:Type} {X:α→Prop} {L:α→List HP} (h:Hp E w (G4 X L::F)): ∃x,X x∧Hp E w (L x++F):=h.Hq fun _ hf=>hf
theorem Hp.IH {α:Type} {X:α→Prop} {L:α→List HP} (x:α) (hx:X x) (h:Hp E w (L x++F)):Hp E w (G4 X L::F):=h.G7 fun _ hf=>⟨x,hx,hf⟩
end
end Go.Vc
set_option maxRecDepth 20000
namespace Go.Vc
open Go
section
variable {E w:World} {F:List HP}
theorem Ld.arr {b n:Nat} {cs:Array Value} {t:TypeId} {fr:Nat×Nat} {K:Array Value→Prop} (h:Hp E w (aj b (.cells cs t fr)::F)) (hn:cs.size=n) (hK:K cs):Ld (.arr n) ⟨b,0,none⟩ w K:=by
 refine ⟨cs,hn,fun w' hw i hi=> ?_,hK⟩
 subst hw
 rw [aq,h.cell,Nat.zero_add]
 simp [hn,hi]
theorem aw.aC {b n:Nat} {c0 cs:Array Value} {t:TypeId} {K:World→Prop} (h:Hp E w (aj b (.cells c0 t (0,0))::F)) (h0:c0.size=n) (hn:cs.size=n) (hs: ∀v∈cs.toList,ay v=true)
  (hK: ∀w',Hp E w' (aj b (.cells cs t (0,0))::F)→K w'):aw n ⟨b,0,none⟩ cs w K:=by
 refine ⟨hn,fun i hi=>⟨?_,?_,?_⟩,?_⟩
 ·have:cs.getD i undef∈cs.toList:=by simp [hn,hi]
  exact hs _ this
 ·rw [aq,h.cell];simp [h0,hi]
 ·rw [aq];simp [World.frozen?,h.aC]
 ·obtain ⟨arr',e1,e2,e3,h'⟩:=Hp.setRow (b:=b) (off:=0) cs.toList 0 w c0 h (by simp;omega)
  have:arr'=cs:=by
   apply Array.ext
   ·omega
   ·intro i hi1 hi2
    have:=e2 i (by simpa using hi2)
    rw [show 0+0+i=i by omega,Array.getElem?_eq_getElem hi1] at this
    simpa using this
  subst this
  exact hK _ h'
theorem aI.rd {b n:Nat} {cs:Array Value} {t:TypeId} {fr:Nat×Nat} {i:Int} {s:Sc} {K:s.T→Prop} (h:Hp E w (aj b (.cells cs t fr)::F)) (h0:0≤i) (h1:i<(n:Int)) (x:s.T) (hx:cs[i.toNat]? =some (s.enc x)) (hK:K x):
  aI ⟨b,0,none⟩ n i 1 fun q=>Ld (.sc s) q w K:=by
 refine ⟨h0,h1,?_⟩
 rw [aq]
 exact Ld.aC h x (by simpa using hx) hK
theorem aI.wr {b n:Nat} {cs:Array Value} {t:TypeId} {i:Int} {v:Value} {K:World→Prop} (h:Hp E w (aj b (.cells cs t (0,0))::F)) (h0:0≤i) (h1:i<(n:Int)) (hn:cs.size=n) (hv:ay v=true)
  (hK: ∀w',Hp E w' (aj b (.cells (cs.setIfInBounds i.toNat v) t (0,0))::F)→K w'):aI ⟨b,0,none⟩ n i 1 fun q=>St q v w K:=by
 refine ⟨h0,h1,?_⟩
 rw [aq]
 exact St.aC h (by omega) hv (by simpa using hK)
theorem eH.rd {s:Sc} {cs:Array Value} {n:Nat} {i:Int} {K:s.T→Prop} (h0:0≤i) (h1:i<(n:Int)) (x:s.T) (hx:cs[i.toNat]? =some (s.enc x)) (hK:K x):eH s cs n i K:=⟨h0,h1,x,hx,hK⟩
end
def ai (k:IntKind) (l:List Nat):Array Value:=⟨l.map fun (n:Nat)=> .int k (n:Int)⟩
theorem aM {k:IntKind} {l:List Nat}:(ai k l).size=l.length:=by simp [ai]
theorem fH {k:IntKind} {l:List Nat} {i:Nat} (h:i<l.length):(ai k l)[i]? =some (Sc.enc (.int k) (l[i]:Int)):=by simp [ai,h]
theorem fe {k:IntKind} {l:List Nat}: ∀v∈(ai k l).toList,ay v=true:=by
 intro v hv
 simp only [ai,List.mem_map] at hv
 obtain ⟨x,_,rfl⟩:=hv
 rfl
theorem xJ {k:IntKind} {l:List Nat} {i x:Nat}:(ai k l).setIfInBounds i (.int k (x:Int))=ai k (l.set i x):=by
 unfold ai
 apply Array.ext'
 simp [List.map_set]
theorem uh {k:IntKind} {n:Nat}:(⟨List.replicate n (.int k 0)⟩:Array Value)=ai k (List.replicate n 0):=by
 unfold ai;simp
theorem tU.mk {k:IntKind} {n:Nat} {a b:List Nat} {K:Bool→Prop} (ha:a.length=n) (hb:b.length=n) (h:K (a==b)):tU k n (ai k a) (ai k b) K:=by
 refine ⟨a.map fun (x:Nat)=>(x:Int),b.map fun (x:Nat)=>(x:Int),by simp [ai],by simp [ai],by simpa using ha,by simpa using hb,?_⟩
 have:((a.map fun (x:Nat)=>(x:Int))==(b.map fun (x:Nat)=>(x:Int)))=(a==b):=by
  rw [Bool.eq_iff_iff,beq_iff_eq,beq_iff_eq]
  constructor
  ·intro h
   exact (List.map_inj_right (fun x y h=>by have h:(x:Int)=(y:Int):=h;omega)).1 h
  ·rintro rfl;rfl
 rw [this];exact h
end Go.Vc
set_option maxRecDepth 20000
namespace Go.Vc
open Go
section
variable {E w w':World} {F G:List HP} {sz:Nat} {s:Sl} {xs ys:List Value}
theorem Hp.pC {l:List HP} (h:Hp E w (l++F)):Hp E w F:=by
 induction l with
 |nil=>exact h
 |cons A l ih=>exact ih h.drop
theorem ab.app {φ:World→Prop} (l:List HP) (ht:ab F φ):ab (l++F) φ:=by
 induction l with
 |nil=>exact ht
 |cons A l ih=>exact ih.cons
theorem ab.CH {φ:World→Prop} (ht:ab G φ):ab (G++F) φ:=(ht.app F).perm List.perm_append_comm
def dy (E:World) (F:List HP) (w:World):Prop:= ∃l,Hp E w (l++F)
theorem dy.mk (h:Hp E w F):dy E F w:=⟨[],h⟩
theorem dy.rJ {A:HP} (h:Hp E w (A::F)):dy E F w:=⟨[A],h⟩
theorem dy.Jf {A B:HP} (h:Hp E w (A::B::F)):dy E F w:=⟨[A,B],h⟩
theorem dy.al {φ:World→Prop} (h:dy E F w) (ht:ab F φ):φ w:=by
 obtain ⟨l,h⟩:=h
 exact h.al (ht.app l)
theorem aZ.Je {lo hi mx:Int} {K:Sl→Prop} (hl:xs.length=s.len*sz) (h0:0≤lo) (h1:lo≤hi) (h2:hi≤(s.len:Int)) (h3:hi≤mx) (h4:mx≤(s.cap:Int))
  (h: ∀s':Sl,(∀w',aA sz s xs w'→aA sz s' ((xs.drop (lo.toNat*sz)).take ((hi.toNat - lo.toNat)*sz)) w')→s'.len=hi.toNat - lo.toNat→s'.len≤s'.cap→K s'):aZ s lo hi mx sz K:=by
 refine ⟨h0,h1,h3,h4,h _ (fun w' hs'=> ?_) rfl (by simp only;omega)⟩
 have hm:hi.toNat*sz≤s.len*sz:=Nat.mul_le_mul_right _ (by omega)
 have hsub:(hi.toNat - lo.toNat)*sz=hi.toNat*sz - lo.toNat*sz:=Nat.sub_mul ..
 have hmono:lo.toNat*sz≤hi.toNat*sz:=Nat.mul_le_mul_right _ (by omega)
 have hlen:((xs.drop (lo.toNat*sz)).take ((hi.toNat - lo.toNat)*sz)).length=(hi.toNat - lo.toNat)*sz:=by
  rw [List.length_take,List.length_drop];omega
 refine ⟨hlen,fun i hi'=> ?_⟩
 rw [hlen] at hi'
 obtain ⟨p,hp,hcell⟩:=hs'.2 (lo.toNat*sz+i) (by omega)
 have hne:mx.toNat≠lo.toNat:=by
  intro e
  have:hi.toNat - lo.toNat=0:=by omega
  rw [this] at hi';omega
 refine ⟨p.add (lo.toNat*sz),by simp [hne,hp],?_⟩
 have:(p.add (lo.toNat*sz)).add i=p.add (lo.toNat*sz+i):=by
  unfold Addr.add
  by_cases e1:lo.toNat*sz=0<;>by_cases e2:i=0<;>simp [e1,e2,Nat.add_assoc]
 rw [this,hcell]
 simp
theorem ad.sc {S:World→Prop} {s:Sc} {p:Addr} {K:s.T→Prop} (x:s.T) (hc: ∀w,S w→w.cell? p=some (s.enc x)) (h:K x):ad (.sc s) p S K:=⟨x,hc,h⟩
theorem aZ.whole {b n:Nat} {hi mx:Int} {K:Sl→Prop} (hn:0<n) (h1:hi=(n:Int)) (h2:mx=(n:Int)) (h:K ⟨some ⟨b,0,none⟩,n,n⟩):aZ ⟨some ⟨b,0,none⟩,n,n⟩ 0 hi mx 1 K:=by
 subst h1;subst h2
 refine ⟨by omega,by omega,by omega,by simp,?_⟩
 have e:(if ((n:Int)).toNat=(0:Int).toNat then (some ⟨b,0,none⟩:Option Addr) else (some ⟨b,0,none⟩:Option Addr).map (·.add ((0:Int).toNat*1)))=some ⟨b,0,none⟩:=by
  rw [if_neg (by simp;omega)];simp [Addr.add]
 rw [e]
 simpa using h
end
section
variable {α:Type} {g:α→List Value} {sz:Nat} {l:List α}
theorem cE (hg: ∀x,(g x).length=sz) (l:List α):(l.flatMap g).length=l.length*sz:=by
 induction l with
 |nil=>simp
 |cons x l ih=>rw [List.flatMap_cons,List.length_append,ih,hg,List.length_cons,Nat.succ_mul];omega
theorem BM (hg: ∀x,(g x).length=sz): ∀(l:List α) (n:Nat),(l.flatMap g).drop (n*sz)=(l.drop n).flatMap g
 |l,0=>by simp
 | [],n+1=>by simp
 |x::l,n+1=>by
  rw [List.drop_succ_cons,List.flatMap_cons,Nat.succ_mul,Nat.add_comm,←List.drop_drop,←hg x,List.drop_left,hg x]
  exact BM hg l n
theorem Bx (hg: ∀x,(g x).length=sz): ∀(l:List α) (n:Nat),(l.flatMap g).take (n*sz)=(l.take n).flatMap g
 |l,0=>by simp
 | [],n+1=>by simp
 |x::l,n+1=>by
  rw [List.take_succ_cons,List.flatMap_cons,List.flatMap_cons,Nat.succ_mul,Nat.add_comm,List.take_append,hg x,List.take_of_length_le (by rw [hg x];omega),show sz+n*sz - sz=n*sz by omega,Bx hg l n]
theorem ir (hg: ∀x,(g x).length=sz): ∀(l:List α) (i j:Nat) (hi:i<l.length),j<sz→(l.flatMap g)[i*sz+j]? =(g l[i])[j]?
 |x::l,0,j,_,hj=>by rw [List.flatMap_cons,List.getElem?_append_left (by rw [hg];omega),Nat.zero_mul,Nat.zero_add];rfl
 |x::l,i+1,j,hi,hj=>by
  rw [List.flatMap_cons,List.getElem?_append_right (by rw [hg,Nat.succ_mul];omega),hg,show (i+1)*sz+j - sz=i*sz+j by rw [Nat.succ_mul];omega,ir hg l i j (by simpa using hi) hj]
  rfl
end
section
variable {E w w':World} {F G:List HP} {sz:Nat} {s:Sl} {α:Type} {g:α→List Value} {l:List α}
theorem ar.el {i:Int} {n:Nat} {K:Addr→Prop} (hg: ∀x,(g x).length=sz) (hz:0<sz) (hs:aA sz s (l.flatMap g) w) (hn:i=(n:Int)) (hi:n<l.length) (h: ∀p,(∀j,j<sz→w.cell? (p.add j)=(g l[n])[j]?)→K p):ar s i sz K:=by
 subst hn
 have hl:=hs.1
 rw [cE hg] at hl
 have hle:l.length=s.len:=Nat.eq_of_mul_eq_mul_right hz hl
 refine ar.Je hs hz (by omega) (by omega) fun p hp=>h p fun j hj=> ?_
 have e:=ir hg l n j hi hj
 have hlt:n*sz+j<(l.flatMap g).length:=by
  rw [cE hg]
  have:(n+1)*sz≤l.length*sz:=Nat.mul_le_mul_right _ hi
  rw [Nat.succ_mul] at this;omega
 rw [hp j (by rw [Int.toNat_natCast];exact hlt) hj]
 simp only [Int.toNat_natCast]
 rw [←e,List.getElem?_eq_getElem hlt]
theorem ar.GX {i:Int} {n:Nat} {K:Addr→Prop} (hg: ∀x,(g x).length=sz) (hz:0<sz) (hh:Hp E w F) (hs:ab F (aA sz s (l.flatMap g))) (hn:i=(n:Int)) (hi:n<l.length) (h: ∀p,(∀j,j<sz→ab F (fun w=>w.cell? (p.add j)=(g l[n])[j]?))→K p):ar s i sz K:=by
 subst hn
 have hl:=(hh.al hs).1
 rw [cE hg] at hl
 have hle:l.length=s.len:=Nat.eq_of_mul_eq_mul_right hz hl
 refine ar.EJ hh hs hz (by omega) (by omega) fun p hp=>h p fun j hj=>(hp j hj).imp fun w hw=> ?_
 rw [hw,Int.toNat_natCast,ir hg l n j hi hj]
theorem aA.len (hg: ∀x,(g x).length=sz) (hz:0<sz) (hs:aA sz s (l.flatMap g) w):s.len=l.length:=by
 have hl:=hs.1
 rw [cE hg] at hl
 exact (Nat.eq_of_mul_eq_mul_right hz hl).symm
theorem aZ.el {lo hi mx:Int} {a b:Nat} {K:Sl→Prop} (hg: ∀x,(g x).length=sz) (hl:s.len=l.length) (ha:lo=(a:Int)) (hb:hi=(b:Int)) (h1:a≤b) (h2:b≤l.length) (h3:hi≤mx) (h4:mx≤(s.cap:Int))
  (h: ∀s':Sl,(∀w',aA sz s (l.flatMap g) w'→aA sz s' (((l.drop a).take (b - a)).flatMap g) w')→s'.len=b - a→s'.len≤s'.cap→K s'):aZ s lo hi mx sz K:=by
 subst ha;subst hb
 refine aZ.Je (xs:=l.flatMap g) (by rw [cE hg,hl]) (by omega) (by omega) (by omega) h3 h4 fun s' hs' hl' hc'=>h s' (fun w' hw'=> ?_) (by simpa using hl') hc'
 have:=hs' w' hw'
 simp only [Int.toNat_natCast] at this
 rw [BM hg,Bx hg] at this
 exact this
theorem yQ {S:World→Prop} {p:Addr}: ∀{ks:List Sc} {i:Nat} {K:TT ks→Prop} (x:TT ks) (_: ∀w,S w→∀j (hj:j<(fC ks x).length),w.cell? (p.add (i+j))=some (fC ks x)[j]) (_:K x),Bj S p ks i K
 | [],_,_,_,_,h=>h
 |k::ks,i,K,(x,y),hc,h=>⟨x,fun w hw=>by have:=hc w hw 0 (by simp);simpa using this,yQ (ks:=ks) (i:=i+1) y (fun w hw j hj=>by
   have:=hc w hw (j+1) (by simp;omega)
   simpa [Nat.add_assoc,Nat.add_comm 1 j] using this) h⟩
theorem Ld.st {ks:List Sc} {p:Addr} {K:TT ks→Prop} (x:TT ks) (hc: ∀j,j<(fC ks x).length→w.cell? (p.add j)=(fC ks x)[j]?) (h:K x):Ld (.st ks) p w K:=
 yQ x (fun w' hw' j hj=>by
  have hw':w'=w:=hw'
  subst hw'
  rw [Nat.zero_add,hc j hj,List.getElem?_eq_getElem hj]) h
theorem Ld.pw {ks:List Sc} {b:Nat} {cs:Array Value} {t:TypeId} {fr:Nat×Nat} {K:TT ks→Prop} (hh:Hp E w (aj b (.cells cs t fr)::F)) (x:TT ks) (hc:cs=⟨fC ks x⟩) (h:K x):Ld (.st ks) ⟨b,0,none⟩ w K:=by
 subst hc
 refine Ld.st x (fun j hj=> ?_) h
 rw [aq,hh.cell];simp
theorem af.go {b:Nat} {t:TypeId} {K:World→Prop}: ∀(vs:List Value) (i:Nat) (w:World) (c:Array Value),Hp E w (aj b (.cells c t (0,0))::F)→i+vs.length=c.size→(∀v∈vs,ay v=true)→
  (∀c' w',c'.toList=c.toList.take i++vs→Hp E w' (aj b (.cells c' t (0,0))::F)→K w')→af ⟨b,0,none⟩ vs i w K
 | [],i,w,c,hh,hi,_,hK=>hK c w (by rw [List.append_nil,List.take_of_length_le (by simp;simp at hi;omega)]) hh
 |v::vs,i,w,c,hh,hi,hv,hK=>by
  have h1:=hv v (by simp)
  simp only [List.length_cons] at hi
  unfold af
  rw [h1]
  have h2:=hh.setCell (i:=i) v
  refine ⟨?_,?_,?_⟩
  ·rw [aq,hh.cell];simp;omega
  ·rw [aq];simp [World.frozen?,hh.aC]
  ·rw [aq,Nat.zero_add]
   refine af.go vs (i+1) _ _ h2 (by simp;omega) (fun x hx=>hv x (List.mem_cons_of_mem _ hx)) fun c' w' e h3=>hK c' w' ?_ h3
   rw [e,Array.toList_setIfInBounds,List.take_add_one,List.take_set_of_le (by omega)]
   rw [List.getElem?_set_self (by simp;omega)]
   simp
theorem af.aC {b:Nat} {c:Array Value} {t:TypeId} {vs:List Value} {K:World→Prop} (hh:Hp E w (aj b (.cells c t (0,0))::F)) (hi:vs.length=c.size) (hv: ∀v∈vs,ay v=true)
  (hK: ∀w',Hp E w' (aj b (.cells ⟨vs⟩ t (0,0))::F)→K w'):af ⟨b,0,none⟩ vs 0 w K:=
 af.go vs 0 w c hh (by omega) hv fun c' w' e h=>by
  have:c'=⟨vs⟩:=by apply Array.ext';simpa using e
  subst this
  exact hK w' h
theorem CG {P:Program} {t ty e e2:TypeId} {bytes:Nat} {x:α} {cs:Array Value} {K:Sl→World→Prop} (he:bK P t e sz bytes) (hg: ∀x,(g x).length=sz) (hz:0<sz) (hcs:cs=⟨g x⟩) (hsc: ∀y∈g x,ay y=true)
  (hh:Hp E w (ak sz s (l.flatMap g)::F)) (hb:(2*(l.length+1)+1024)*bytes≤2^48) (hb2:l.length+1<2^62)
  (h: ∀s' w',Hp E w' (ak sz s' ((l++ [x]).flatMap g)::F)→s'.len=l.length+1→K s' w'):
  Nw e2 cs w fun b w1=>aD P (Builtin.append_ #[t,t] ty ⟨[.slice s.base s.len s.cap,.slice (some ⟨b,0,none⟩) 1 1]⟩) kS w1 K:=by
 have hlen:=aA.len hg hz (hh.al ab.own)
 refine Nw.mk hh fun b w1 h1=> ?_
 refine aN (ys:=g x) (n:=1) he hz (.inl ⟨e,he.und⟩) h1.p1 (.inl ⟨_,_,_,rfl,rfl,h1.al (ab.aC (xs:=g x) (by rw [hcs]) (by rw [hg];simp))⟩) (by rw [hg];simp) hsc (by rw [hlen];exact hb) (by rw [hlen];exact hb2) fun s' w2 h2 hs'=>h s' w2 ?_ (by rw [hs',hlen])
 rw [List.flatMap_append,show [x].flatMap g=g x by simp]
 exact h2.p1.drop
theorem JB {P:Program} {t ty e:TypeId} {bytes:Nat} {s2:Sl} {ys:List α} {K:Sl→World→Prop} (he:bK P t e sz bytes) (hg: ∀x,(g x).length=sz) (hz:0<sz) (hsc: ∀x,∀y∈g x,ay y=true)
  (hh:Hp E w (ak sz s (l.flatMap g)::F)) (hs:aA sz s2 (ys.flatMap g) w) (hb:(2*(l.length+ys.length)+1024)*bytes≤2^48) (hb2:l.length+ys.length<2^62)
  (h: ∀s' w',Hp E w' (ak sz s' ((l++ys).flatMap g)::F)→s'.len=l.length+ys.length→K s' w'):
  aD P (Builtin.append_ #[t,t] ty ⟨[.slice s.base s.len s.cap,.slice s2.base s2.len s2.cap]⟩) kS w K:=by
 have hlen:=aA.len hg hz (hh.al ab.own)
 have hlen2:=aA.len hg hz hs
 refine aN (ys:=ys.flatMap g) (n:=ys.length) he hz (.inl ⟨e,he.und⟩) hh (.inl ⟨_,_,_,rfl,hlen2.symm,hs⟩) (cE hg ys) (fun y hy=> ?_) (by rw [hlen];exact hb) (by rw [hlen];exact hb2) fun s' w2 h2 hs'=>h s' w2 ?_ (by rw [hs',hlen])
 ·obtain ⟨x,_,hx⟩:=List.mem_flatMap.1 hy
  exact hsc x y hx
 ·rw [List.flatMap_append];exact h2
end
end Go.Vc
set_option maxRecDepth 20000
namespace Go.Rk
section
variable {α:Type} {lt:α→α→Bool}
structure SO (lt:α→α→Bool):Prop where
 irr: ∀a,lt a a=false
 trans: ∀a b c,lt a b=true→lt b c=true→lt a c=true
 ntrans: ∀a b c,lt a b=false→lt b c=false→lt a c=false
theorem SO.asym (h:SO lt) {a b:α} (hab:lt a b=true):lt b a=false:=by
 cases hb:lt b a with
 |false=>rfl
 |true=>have:=h.trans _ _ _ hab hb;rw [h.irr] at this;cases this
theorem vp {p q:α→Bool}: ∀{l:List α},(∀z∈l,p z=true→q z=true)→(∃x,x∈l∧q x=true∧p x=false)→l.countP p<l.countP q
 | [],_,⟨x,hx,_⟩=>by cases hx
 |a::l,h,⟨x,hx,hq,hp⟩=>by
  have hle:l.countP p≤l.countP q:=List.countP_mono_left fun z hz=>h z (List.mem_cons_of_mem _ hz)
  rw [List.countP_cons,List.countP_cons]
  rcases List.mem_cons.1 hx with rfl|hx
  ·rw [hq,hp];simp;omega
  ·have ih:=vp (fun z hz=>h z (List.mem_cons_of_mem _ hz)) ⟨x,hx,hq,hp⟩
   cases hpa:p a with
   |false=>simp;split<;>omega
   |true=>rw [h a (by simp) hpa];simp;omega
theorem ka (h:SO lt): ∀{S:List α},S.Pairwise (fun a b=>lt a b=true)→∀(j:Nat) (hj:j<S.length),S.countP (fun x=>lt x S[j])=j
 | [],_,j,hj=>by simp at hj
 |a::S,hp,0,_=>by
  rw [List.pairwise_cons] at hp
  rw [List.countP_cons,List.getElem_cons_zero,h.irr,List.countP_eq_zero.2 fun x hx=>by rw [h.asym (hp.1 x hx)];decide]
  rfl
 |a::S,hp,j+1,hj=>by
  rw [List.pairwise_cons] at hp
  have hj':j<S.length:=by simpa using hj
  rw [List.countP_cons,List.getElem_cons_succ,ka h hp.2 j hj',hp.1 _ (List.getElem_mem hj')]
  rfl
theorem qM (h:SO lt) {S:List α} (hp:S.Pairwise (fun a b=>lt a b=true)) {x:α} (hx:x∈S): ∃hj:S.countP (fun y=>lt y x)<S.length,S[S.countP (fun y=>lt y x)]=x:=by
 obtain ⟨j,hj,rfl⟩:=List.getElem_of_mem hx
 have:=ka h hp j hj
 exact ⟨by omega,by simp only [this]⟩
theorem EM (h:SO lt) {S T:List α} (hpm:S.Perm T) (hS:S.Pairwise (fun a b=>lt a b=true)) (hT:T.Pairwise (fun a b=>lt a b=true)):S=T:=by
 apply List.ext_getElem hpm.length_eq
 intro r h1 h3
 have hr:=ka h hS r h1
 rw [hpm.countP_eq] at hr
 obtain ⟨h4,h5⟩:=qM h hT (hpm.mem_iff.1 (List.getElem_mem h1))
 rw [←h5]
 simp only [hr]
def rk (lt:α→α→Bool) (dom:List α) (x:α):Nat:=dom.countP fun y=>lt y x
theorem xf (h:SO lt) {dom:List α} {x y:α} (hx:x∈dom) (hl:lt x y=true):rk lt dom x<rk lt dom y:=
 vp (fun _ _ hz=>h.trans _ _ _ hz hl) ⟨x,hx,hl,h.irr x⟩
def tF (lt:α→α→Bool) (dom:List α):Prop:= ∀x∈dom,∀y∈dom,x≠y→lt x y=true∨lt y x=true
theorem Jp (h:SO lt) {dom:List α} (ht:tF lt dom) {x y:α} (hx:x∈dom) (hy:y∈dom):rk lt dom x<rk lt dom y↔lt x y=true:=by
 constructor
 ·intro hlt
  by_cases e:x=y
  ·subst e;omega
  ·rcases ht x hx y hy e with h1|h1
   ·exact h1
   ·have:=xf h hy h1;omega
 ·exact xf h hx
theorem DR (h:SO lt) {dom:List α} (ht:tF lt dom) {x y:α} (hx:x∈dom) (hy:y∈dom) (he:rk lt dom x=rk lt dom y):x=y:=by
 by_cases e:x=y
 ·exact e
 ·rcases ht x hx y hy e with h1|h1
  ·have:=xf h hx h1;omega
  ·have:=xf h hy h1;omega
def rP (lt:α→α→Bool) (dom:List α):List α:=dom.mergeSort fun a b=> !lt b a
theorem fy (dom:List α):(rP lt dom).Perm dom:=List.mergeSort_perm ..
theorem Bz (dom:List α):(rP lt dom).length=dom.length:=(fy dom).length_eq
theorem pn (h:SO lt) {dom:List α} (hn:dom.Nodup) (ht:tF lt dom):(rP lt dom).Pairwise fun a b=>lt a b=true:=by
 have h1:=List.pairwise_mergeSort (le:=fun a b=> !lt b a) (fun a b c h1 h2=>by
   simp only [Bool.not_eq_true'] at*;exact h.ntrans _ _ _ h2 h1) (fun a b=>by
   cases hab:lt a b with
   |true=>simp [h.asym hab]
   |false=>simp) dom
 have h2:(rP lt dom).Nodup:=(fy dom).nodup_iff.2 hn
 have h3:(rP lt dom).Pairwise fun a b=>a∈dom∧b∈dom:=List.Pairwise.imp_of_mem (fun {a b} ha hb _=>⟨(fy dom).mem_iff.1 ha,(fy dom).mem_iff.1 hb⟩) h2
 exact ((h1.and h2).and h3).imp fun {a b} hh=>by
  rcases ht a hh.2.1 b hh.2.2 hh.1.2 with h4|h4
  ·exact h4
  ·have:=hh.1.1;simp [h4] at this
theorem EZ (h:SO lt) {dom:List α} (hn:dom.Nodup) (ht:tF lt dom) {x:α} (hx:x∈dom): ∃hj:rk lt dom x<(rP lt dom).length,(rP lt dom)[rk lt dom x]=x:=by
 have:=qM h (pn h hn ht) ((fy dom).mem_iff.2 hx)
 rw [(fy dom).countP_eq] at this
 exact this
theorem Ku (h:SO lt) {dom:List α} (hn:dom.Nodup) (ht:tF lt dom) {r:Nat} (hr:r<(rP lt dom).length):rk lt dom (rP lt dom)[r]=r:=by
 have:=ka h (pn h hn ht) r hr
 rwa [(fy dom).countP_eq] at this
theorem wb (h:SO lt) {dom:List α} (hn:dom.Nodup) (ht:tF lt dom) {x:α} (hx:x∈dom):rk lt dom x<dom.length:=by
 obtain ⟨hj,_⟩:=EZ h hn ht hx
 rwa [Bz] at hj
end
end Go.Rk
set_option maxRecDepth 20000
namespace Go.Inc
inductive rL (σ β ε:Type) where
 |more (s:σ)|fin (b:β)|bad (e:ε)
inductive Ji (α σ β ε:Type) where
 |short (s:σ)|fin (b:β) (rest:List α)|bad (e:ε)
def run {α σ β ε:Type} (f:σ→α→rL σ β ε):σ→List α→Ji α σ β ε
 |s,[]=> .short s
 |s,c::l=>match f s c with
  | .more s'=>run f s' l
  | .fin b=> .fin b l
  | .bad e=> .bad e
section
variable {α σ β ε:Type} {f:σ→α→rL σ β ε}
theorem cK (s:σ) (c:α) (l:List α):run f s (c::l)=match f s c with
  | .more s'=>run f s' l
  | .fin b=> .fin b l
  | .bad e=> .bad e:=rfl
theorem br {s s':σ} {c:α} {l:List α} (h:f s c= .more s'):run f s (c::l)=run f s' l:=by rw [cK,h]
theorem fL {s:σ} {b:β} {c:α} {l:List α} (h:f s c= .fin b):run f s (c::l)= .fin b l:=by rw [cK,h]
theorem oa {s:σ} {e:ε} {c:α} {l:List α} (h:f s c= .bad e):run f s (c::l)= .bad e:=by rw [cK,h]
theorem BY: ∀(a:List α) (s:σ) (l:List α),run f s (a++l)=match run f s a with
  | .short s'=>run f s' l
  | .fin b r=> .fin b (r++l)
  | .bad e=> .bad e
 | [],s,l=>rfl
 |c::a,s,l=>by
  rw [List.cons_append,cK,cK]
  cases f s c with
  |more s'=>exact BY a s' l
  |fin b=>rfl
  |bad e=>rfl
theorem bQ {s s':σ} {a:List α} (h:run f s a= .short s') (l:List α):run f s (a++l)=run f s' l:=by rw [BY,h]
theorem wu: ∀{l:List α} {s:σ} {b:β} {r:List α},run f s l= .fin b r→∃a c s',l=a++c::r∧run f s a= .short s'∧f s' c= .fin b
 | [],s,b,r,h=>by cases h
 |c::l,s,b,r,h=>by
  rw [cK] at h
  cases hc:f s c with
  |more s'=>
   rw [hc] at h
   obtain ⟨a,c',s'',rfl,h1,h2⟩:=wu h
   exact ⟨c::a,c',s'',rfl,by rw [br hc,h1],h2⟩
  |fin b'=>
   rw [hc] at h
   cases h
   exact ⟨[],c,s,rfl,rfl,hc⟩
  |bad e=>rw [hc] at h;cases h
end
end Go.Inc
set_option maxRecDepth 20000
namespace Go.Sym
open Go.Inc
def bu (L:List Nat) (p:Nat):List Nat:=L.getD p 0::L.eraseIdx p
theorem tp {L:List Nat} {p:Nat} (hp:p<L.length):(bu L p).Perm L:=by
 unfold bu
 have e:L.getD p 0=L[p]:=by simp [List.getD,hp]
 rw [e]
 rw [List.eraseIdx_eq_take_drop_succ]
 have h2:L.take p++L[p]::L.drop (p+1)=L:=by rw [List.getElem_cons_drop,List.take_append_drop]
 exact List.perm_middle.symm.trans (List.Perm.of_eq h2)
theorem EH {L:List Nat} {p:Nat} (hp:p<L.length):(bu L p).length=L.length:=(tp hp).length_eq
def a6 (L:List Nat):Prop:=L.Perm (List.range 256)
theorem a6.len {L:List Nat} (h:a6 L):L.length=256:=by rw [h.length_eq,List.length_range]
theorem a6.mem {L:List Nat} (h:a6 L) {c:Nat}:c∈L↔c<256:=by rw [h.mem_iff,List.mem_range]
theorem a6.nodup {L:List Nat} (h:a6 L):L.Nodup:=h.nodup_iff.2 List.nodup_range
theorem a6.take {L:List Nat} (h:a6 L) {p:Nat} (hp:p<256):a6 (bu L p):=(tp (by rw [h.len];exact hp)).trans h
theorem a6.range:a6 (List.range 256):=List.Perm.refl _
theorem a6.get {L:List Nat} (h:a6 L) {p:Nat} (hp:p<256):L.getD p 0<256:=by
 have hl:=h.len
 have:L.getD p 0=L[p]:=by simp [List.getD,hl,hp]
 rw [this]
 exact h.mem.1 (List.getElem_mem _)
theorem a6.idx {L:List Nat} (h:a6 L) {c:Nat} (hc:c<256):L.idxOf c<256∧L.getD (L.idxOf c) 0=c:=by
 have hm:=h.mem.2 hc
 have hl:=h.len
 have h1:=List.idxOf_lt_length_of_mem hm
 refine ⟨by omega,?_⟩
 rw [List.getD,List.getElem?_eq_getElem h1,List.getElem_idxOf h1];rfl
theorem a6.qF {L:List Nat} (h:a6 L) {p:Nat} (hp:p<256):L.idxOf (L.getD p 0)=p:=by
 have hl:=h.len
 have e:L.getD p 0=L[p]:=by simp [List.getD,hl,hp]
 have h1:=h.idx (h.get hp)
 have e2:L[L.idxOf (L.getD p 0)]'(by omega)=L[p]:=by
  have:=h1.2
  rw [List.getD,List.getElem?_eq_getElem (by omega)] at this
  exact this.trans e
 exact (List.getElem_inj h.nodup).1 e2
def bL (n:Nat):List Nat:=if _h:n=0 then [] else (n - 1) % 2::bL ((n - 1)/2)
termination_by n
decreasing_by omega
theorem ma:bL 0= []:=by rw [bL];simp
theorem l5 {n:Nat} (h:0<n):bL n=(n - 1) % 2::bL ((n - 1)/2):=by rw [bL,dif_neg (by omega)]
theorem BG (n:Nat): ∀d∈bL n,d<2:=by
 induction n using Nat.strongRecOn with
 |ind n ih=>
  rcases Nat.eq_zero_or_pos n with e|e
  ·rw [e,ma];simp
  ·rw [l5 e]
   intro d hd
   rcases List.mem_cons.1 hd with h|h
   ·omega
   ·exact ih _ (by omega) d h
def cB:List Nat→Nat→List Nat→List Nat×List Nat×Nat
 |L,r,[]=>([],L,r)
 |L,r,c::b=>
  if L.idxOf c=0 then cB (bu L 0) (r+1) b
  else
   let x:=cB (bu L (L.idxOf c)) 0 b
   (bL r++(L.idxOf c+1)::x.1,x.2)
def bV (L:List Nat) (r:Nat) (b:List Nat):List Nat:=(cB L r b).1++bL (cB L r b).2.2++ [257]
def syms (b:List Nat):List Nat:=bV (List.range 256) 0 b
theorem jK (L:List Nat) (r:Nat):bV L r []=bL r++ [257]:=by simp [bV,cB]
theorem iI {L:List Nat} {r c:Nat} {b:List Nat} (h:L.idxOf c=0):bV L r (c::b)=bV (bu L 0) (r+1) b:=by
 unfold bV;rw [cB,if_pos h]
theorem jw {L:List Nat} {r c:Nat} {b:List Nat} (h:L.idxOf c≠0):bV L r (c::b)=bL r++(L.idxOf c+1)::bV (bu L (L.idxOf c)) 0 b:=by
 unfold bV;rw [cB,if_neg h];simp
structure DS where
 L:List Nat
 left:Nat
 run:Nat
 digits:Nat
def cG (d:DS) (s:Nat):Option (DS×List Nat×Bool):=
 if s<2 then
  if d.run+(1+s)*2^d.digits≤d.left then some (⟨d.L,d.left,d.run+(1+s)*2^d.digits,d.digits+1⟩,[],false) else none
 else if s=257 then
  if d.run=d.left then some (⟨d.L,0,0,0⟩,List.replicate d.run (d.L.getD 0 0),true) else none
 else if d.run=d.left then none
 else some (⟨bu d.L (s - 1),d.left - (d.run+1),0,0⟩,List.replicate d.run (d.L.getD 0 0)++ [d.L.getD (s - 1) 0],false)
def iF (d:DS×List Nat) (s:Nat):rL (DS×List Nat) (List Nat) Nat:=match cG d.1 s with
 |none=> .bad 160
 |some (_,t,true)=> .fin (d.2++t)
 |some (d',t,false)=> .more (d',d.2++t)
theorem rT {d d':DS} {acc t:List Nat} {s:Nat} (h:cG d s=some (d',t,false)):iF (d,acc) s= .more (d',acc++t):=by unfold iF;rw [h]
theorem BX {d d':DS} {acc t:List Nat} {s:Nat} (h:cG d s=some (d',t,true)):iF (d,acc) s= .fin (acc++t):=by unfold iF;rw [h]
theorem Ii {d:DS} {acc:List Nat} {s:Nat} (h:cG d s=none):iF (d,acc) s= .bad 160:=by unfold iF;rw [h]
theorem xU (L:List Nat) (left:Nat) (acc rest:List Nat): ∀(n q k:Nat),q+n*2^k≤left→∃k',run iF (⟨L,left,q,k⟩,acc) (bL n++rest)=run iF (⟨L,left,q+n*2^k,k'⟩,acc) rest:=by
 intro n
 induction n using Nat.strongRecOn with
 |ind n ih=>
  intro q k hle
  rcases Nat.eq_zero_or_pos n with e|e
  ·subst e
   exact ⟨k,by rw [ma];simp⟩
  ·rw [l5 e]
   have hs:(1+(n - 1) % 2)*2^k+(n - 1)/2*2^(k+1)=n*2^k:=by
    rw [Nat.pow_succ,Nat.mul_comm (2^k) 2,←Nat.mul_assoc,←Nat.add_mul]
    congr 1;omega
   obtain ⟨k',h⟩:=ih ((n - 1)/2) (by omega) (q+(1+(n - 1) % 2)*2^k) (k+1) (by omega)
   refine ⟨k',?_⟩
   have h1:cG ⟨L,left,q,k⟩ ((n - 1) % 2)=some (⟨L,left,q+(1+(n - 1) % 2)*2^k,k+1⟩,[],false):=by
    unfold cG
    simp only
    rw [if_pos (by omega),if_pos (by omega)]
   rw [List.cons_append,br (rT h1),List.append_nil,h]
   congr 3
   omega
theorem oX {L:List Nat} (hL:a6 L) {c:Nat} (hc:c<256) (h:L.idxOf c=0):L.getD 0 0=c∧bu L 0=L:=by
 have:=(hL.idx hc).2
 rw [h] at this
 refine ⟨this,?_⟩
 unfold bu
 cases L with
 |nil=>have:=hL.len;simp at this
 |cons x L=>rfl
theorem p4: ∀(b L:List Nat) (r left:Nat) (acc rest:List Nat),a6 L→(∀x∈b,x<256)→left=r+b.length→
  run iF (⟨L,left,0,0⟩,acc) (bV L r b++rest)= .fin (acc++List.replicate r (L.getD 0 0)++b) rest
 | [],L,r,left,acc,rest,hL,_,hl=>by
  rw [jK,List.append_assoc]
  obtain ⟨k',h⟩:=xU L left acc ([257]++rest) r 0 0 (by simp at hl;omega)
  rw [h]
  have h1:cG ⟨L,left,0+r*2^0,k'⟩ 257=some (⟨L,0,0,0⟩,List.replicate r (L.getD 0 0),true):=by
   unfold cG
   simp only [Nat.zero_add,Nat.pow_zero,Nat.mul_one]
   rw [if_neg (by decide),if_pos trivial,if_pos (by simp at hl;omega)]
  show run iF _ (257::rest)=_
  rw [fL (BX h1)]
  simp
 |c::b,L,r,left,acc,rest,hL,hb,hl=>by
  have hc:=hb c List.mem_cons_self
  have hb': ∀x∈b,x<256:=fun x hx=>hb x (List.mem_cons_of_mem _ hx)
  simp only [List.length_cons] at hl
  by_cases h0:L.idxOf c=0
  ·obtain ⟨e1,e2⟩:=oX hL hc h0
   rw [iI h0,e2,p4 b L (r+1) left acc rest hL hb' (by omega),e1,List.replicate_succ']
   simp
  ·obtain ⟨i1,i2⟩:=hL.idx hc
   rw [jw h0,List.append_assoc]
   obtain ⟨k',h⟩:=xU L left acc ((L.idxOf c+1)::bV (bu L (L.idxOf c)) 0 b++rest) r 0 0 (by omega)
   rw [h]
   have h1:cG ⟨L,left,0+r*2^0,k'⟩ (L.idxOf c+1)=some (⟨bu L (L.idxOf c),left - (r+1),0,0⟩,List.replicate r (L.getD 0 0)++ [c],false):=by
    unfold cG
    simp only [Nat.zero_add,Nat.pow_zero,Nat.mul_one,Nat.add_sub_cancel,i2]
    rw [if_neg (by omega),if_neg (by omega),if_neg (by omega)]
   rw [List.cons_append,br (rT h1)]
   rw [p4 b (bu L (L.idxOf c)) 0 (left - (r+1)) _ rest (hL.take i1) hb' (by omega)]
   simp
theorem ES {b:List Nat} (hb: ∀x∈b,x<256) (rest:List Nat):run iF (⟨List.range 256,b.length,0,0⟩,[]) (syms b++rest)= .fin b rest:=by
 unfold syms
 rw [p4 b _ 0 b.length [] rest a6.range hb (by omega)]
 simp
theorem nL: ∀(b L:List Nat) (r:Nat),a6 L→(∀x∈b,x<256)→∀s∈bV L r b,s≤257
 | [],L,r,_,_=>fun s hs=>by
  rw [jK] at hs
  rcases List.mem_append.1 hs with h|h
  ·have:=BG _ s h;omega
  ·rw [List.mem_singleton] at h;omega
 |c::b,L,r,hL,hb=>fun s hs=>by
  have hc:=hb c List.mem_cons_self
  have hb': ∀x∈b,x<256:=fun x hx=>hb x (List.mem_cons_of_mem _ hx)
  obtain ⟨i1,_⟩:=hL.idx hc
  by_cases h0:L.idxOf c=0
  ·rw [iI h0] at hs
   exact nL b _ (r+1) (hL.take (by decide)) hb' s hs
  ·rw [jw h0] at hs
   rcases List.mem_append.1 hs with h|h
   ·have:=BG _ s h;omega
   ·rcases List.mem_cons.1 h with h|h
    ·omega
    ·exact nL b _ 0 (hL.take i1) hb' s h
theorem qX {b:List Nat} (hb: ∀x∈b,x<256): ∀s∈syms b,s≤257:=nL b _ 0 a6.range hb
end Go.Sym
set_option maxRecDepth 20000
namespace Go.Vc
open Go
section
variable {E w:World} {F:List HP} {A:HP}
theorem dy.mem (h:dy E F w) (hm:A∈F): ∃G,Hp E w (A::G):=by
 obtain ⟨l,h⟩:=h
 obtain ⟨s,t,rfl⟩:=List.append_of_mem hm
 refine ⟨(l++s)++t,?_⟩
 rw [←List.append_assoc] at h
 exact h.perm List.perm_middle
theorem dy.front (h:dy E (A::F) w): ∃G,Hp E w (A::G):=h.mem (by simp)
theorem dy.DC {B:HP} (h:dy E (A::B::F) w): ∃G,Hp E w (B::G):=h.mem (by simp)
theorem ad.aC {S:World→Prop} {s:Sc} {b i:Nat} {c:Array Value} {t:TypeId} {fr:Nat×Nat} {K:s.T→Prop} (hS: ∀w,S w→∃G,Hp E w (aj b (.cells c t fr)::G)) (x:s.T) (hx:c[i]? =some (s.enc x)) (hk:K x):ad (.sc s) ⟨b,i,none⟩ S K:=by
 refine ad.sc x (fun w' hw=> ?_) hk
 obtain ⟨G,h⟩:=hS w' hw
 rw [h.cell];exact hx
theorem ad.sub {S:World→Prop} {b n off:Nat} {pre mid post:List Value} {t:TypeId} {fr:Nat×Nat} {K:Array Value→Prop} (hS: ∀w,S w→∃G,Hp E w (aj b (.cells ⟨pre++mid++post⟩ t fr)::G)) (ho:pre.length=off) (hn:mid.length=n) (hK:K ⟨mid⟩):ad (.arr n) ⟨b,off,none⟩ S K:=by
 refine ⟨⟨mid⟩,hn,fun w' hw i hi=> ?_,hK⟩
 obtain ⟨G,h⟩:=hS w' hw
 rw [aq,h.cell]
 subst ho
 rw [List.getElem?_toArray,List.append_assoc,List.getElem?_append_right (by omega),List.getElem?_append_left (by omega),show pre.length+i - pre.length=i by omega]
 rw [List.getElem?_eq_getElem (by omega)]
 simp [show i<mid.length by omega]
theorem Ld.sub {b n off:Nat} {pre mid post:List Value} {t:TypeId} {fr:Nat×Nat} {K:Array Value→Prop} (h:Hp E w (aj b (.cells ⟨pre++mid++post⟩ t fr)::F)) (ho:pre.length=off) (hn:mid.length=n) (hK:K ⟨mid⟩):Ld (.arr n) ⟨b,off,none⟩ w K:=
 ad.sub (E:=E) (fun w' hw=>⟨F,by rw [hw];exact h⟩) ho hn hK
end
def cX (n:Nat) (f:Nat→Int):Array Value:=⟨(List.range n).map fun j=> .int .i64 (f j)⟩
theorem cV {n:Nat} {f:Nat→Int}:(cX n f).size=n:=by simp [cX]
theorem se {n:Nat} {f:Nat→Int} {i:Nat} (h:i<n):(cX n f)[i]? =some (Sc.enc (.int .i64) (f i)):=by
 unfold cX
 rw [List.getElem?_toArray,List.getElem?_map,List.getElem?_range h];rfl
theorem pD {n:Nat} {f:Nat→Int} {i:Nat} {v:Int}:(cX n f).setIfInBounds i (.int .i64 v)=cX n fun j=>if j=i then v else f j:=by
 apply Array.ext_getElem?
 intro j
 rw [Array.getElem?_setIfInBounds]
 unfold cX
 simp only [List.getElem?_toArray,List.getElem?_map,List.size_toArray,List.length_map,List.length_range]
 by_cases hj:j<n
 ·rw [List.getElem?_range hj]
  by_cases e:i=j
  ·subst e;simp [hj]
  ·rw [if_neg e];simp [Ne.symm e]
 ·rw [List.getElem?_eq_none (by simpa using hj)]
  by_cases e:i=j
  ·subst e;simp [hj]
  ·simp [e]
theorem fB {n:Nat} {f g:Nat→Int} (h: ∀i,i<n→f i=g i):cX n f=cX n g:=by
 unfold cX
 congr 1
 exact List.map_congr_left fun j hj=>by rw [h j (by simpa using hj)]
theorem yk {off:Nat}: ∀(vs:List Value) (k:Nat) (pre mid post:List Value),mid.length=vs.length→pre.length=off+k→
  (vs.zipIdx k).foldl (fun (cs:Array Value) (x:Value×Nat)=>cs.setIfInBounds (off+x.2) x.1) ⟨pre++mid++post⟩=⟨pre++vs++post⟩
 | [],k,pre,mid,post,hm,_=>by
  have:mid= []:=List.length_eq_zero_iff.1 hm
  subst this;rfl
 |v::vs,k,pre,mid,post,hm,hp=>by
  obtain ⟨m,mid,rfl⟩: ∃m mid',mid=m::mid':=by
   cases mid with
   |nil=>simp at hm
   |cons m mid=>exact ⟨m,mid,rfl⟩
  rw [List.zipIdx_cons,List.foldl_cons]
  have e:(⟨pre++m::mid++post⟩:Array Value).setIfInBounds (off+k) v=⟨(pre++ [v])++mid++post⟩:=by
   rw [←hp]
   apply Array.ext'
   simp
  show ((vs.zipIdx (k+1)).foldl _ ((⟨pre++m::mid++post⟩:Array Value).setIfInBounds (off+k) v))=_
  rw [e,yk vs (k+1) (pre++ [v]) mid post (by simpa using hm) (by simp;omega)]
  simp
theorem gj {place:Nat→Option (Nat×Nat)} {i off size:Nat} {v:Value} {rest:List (Nat×Value)} {pre mid post:List Value} (hpl:place i=some (off,size)) (ho:pre.length=off) (hm:mid.length=size) (hv:v.cells.size=size):
  Instr.fill place ⟨pre++mid++post⟩ ((i,v)::rest)=Instr.fill place ⟨pre++v.cells.toList++post⟩ rest:=by
 rw [Instr.fill,hpl]
 simp only
 rw [if_neg (by simp [hv];omega)]
 congr 1
 rw [←Array.foldl_toList,Array.toList_zipIdx]
 exact yk (off:=off) v.cells.toList 0 pre mid post (by simp [hm,hv]) (by omega)
end Go.Vc
set_option maxRecDepth 20000
namespace Go.Srt
def wt (n:Nat):Nat:=if n=0 then 0 else if n>15 then 32769 else 2^(15 - n)
def aV (l:List Nat):Nat:=(l.map wt).sum
theorem Ka (n:Nat):wt n≤32769:=by
 unfold wt
 split
 ·omega
 ·split
  ·omega
  ·have:2^(15 - n)≤2^15:=Nat.pow_le_pow_right (by decide) (by omega)
   omega
theorem BV: ∀l:List Nat,aV l≤32769*l.length
 | []=>by simp [aV]
 |x::l=>by
  have:=BV l
  have:=Ka x
  simp only [aV,List.map_cons,List.sum_cons,List.length_cons] at*
  omega
theorem qc {l:List Nat} {k:Nat} (h:k<l.length):aV (l.take (k+1))=aV (l.take k)+wt l[k]:=by
 unfold aV
 rw [List.take_add_one,List.map_append,List.sum_append,List.getElem?_eq_getElem h]
 simp only [Option.toList,List.map_cons,List.map_nil,List.sum_cons,List.sum_nil,Nat.add_zero]
theorem vE {l:List Nat} {k:Nat}:aV (l.take k)≤aV l:=by
 have:=congrArg aV (List.take_append_drop k l)
 unfold aV at this⊢
 rw [List.map_append,List.sum_append] at this
 omega
theorem JT {l:List Nat} {x:Nat} (h:x∈l):wt x≤aV l:=by
 obtain ⟨i,hi,rfl⟩:=List.getElem_of_mem h
 have:=qc hi
 have:=vE (l:=l) (k:=i+1)
 omega
def used (l:List Nat):List Nat:=(List.range l.length).filter fun s=>decide (0<l.getD s 0)
def r5 (l:List Nat) (i:Int):Int:=(l.getD i.toNat 0:Int)
def bD (l ys:List Nat):Prop:=ys.Perm (used l)∧ys.Pairwise fun a b=>l.getD a 0<l.getD b 0∨(l.getD a 0=l.getD b 0∧a<b)
end Go.Srt
set_option maxRecDepth 20000
namespace Go.Srt
def sh (l:List Nat) (s:Nat):Nat:=2^(15 - l.getD s 0)
def start (l ys:List Nat) (i:Nat):Nat:=((ys.take i).map (sh l)).sum
theorem oR {l ys:List Nat} {i:Nat} (h:i<ys.length):start l ys (i+1)=start l ys i+sh l ys[i]:=by
 unfold start
 rw [List.take_add_one,List.map_append,List.sum_append,List.getElem?_eq_getElem h]
 simp only [Option.toList,List.map_cons,List.map_nil,List.sum_cons,List.sum_nil,Nat.add_zero]
theorem zx (l:List Nat) (s:Nat):0<sh l s:=Nat.two_pow_pos _
theorem CX {l ys:List Nat} {i j:Nat} (h:i≤j):start l ys i≤start l ys j:=by
 unfold start
 have:=List.take_append_drop i (ys.take j)
 rw [List.take_take,Nat.min_eq_left h] at this
 have h2:=congrArg (fun l'=>(l'.map (sh l)).sum) this
 simp only [List.map_append,List.sum_append] at h2
 omega
theorem dH {l:List Nat} {s:Nat}:s∈used l↔s<l.length∧0<l.getD s 0:=by
 unfold used
 rw [List.mem_filter,List.mem_range];simp
theorem vx (l:List Nat):aV l=((used l).map fun s=>wt (l.getD s 0)).sum:=by
 have key: ∀k,k≤l.length→aV (l.take k)=(((List.range k).filter fun s=>decide (0<l.getD s 0)).map fun s=>wt (l.getD s 0)).sum:=by
  intro k
  induction k with
  |zero=>intro _;simp [aV]
  |succ k ih=>
   intro hk
   rw [qc (by omega),ih (by omega),List.range_succ,List.filter_append,List.map_append,List.sum_append]
   have hg:l.getD k 0=l[k]:=by rw [List.getD_eq_getElem?_getD,List.getElem?_eq_getElem (by omega)];rfl
   by_cases h:0<l.getD k 0
   ·rw [List.filter_cons_of_pos (by simpa using h)];simp only [List.filter_nil,List.map_cons,List.map_nil,List.sum_cons,List.sum_nil,hg];rfl
   ·rw [List.filter_cons_of_neg (by simpa using h)]
    have:l[k]=0:=by omega
    rw [this];rfl
 have:=key l.length (Nat.le_refl _)
 rw [List.take_length] at this
 exact this
theorem gb {l:List Nat} (hv:aV l≤32768) (s:Nat):l.getD s 0≤15:=by
 rw [List.getD_eq_getElem?_getD]
 cases h:l[s]? with
 |none=>simp
 |some x=>
  have:=JT (List.mem_of_getElem? h)
  unfold wt at this
  simp only [Option.getD_some]
  rcases Nat.lt_or_ge 15 x with hx|hx
  ·rw [if_neg (by omega),if_pos (by omega)] at this;omega
  ·exact hx
theorem Dl {l ys:List Nat} (hv:aV l≤32768) (h:bD l ys):start l ys ys.length=aV l:=by
 unfold start
 rw [List.take_length,vx,(h.1.map (sh l)).sum_nat]
 congr 1
 refine List.map_congr_left fun s hs=> ?_
 have h1:=(dH.1 hs).2
 have h2:=gb hv s
 unfold sh wt
 rw [if_neg (by omega),if_neg (by omega)]
theorem FC {l ys:List Nat} (hv:aV l≤32768) (h:bD l ys) {i:Nat} (hi:i≤ys.length):start l ys i≤32768:=by
 have:=CX (l:=l) (ys:=ys) hi
 rw [Dl hv h] at this
 omega
theorem Bt {l ys:List Nat} (h:bD l ys) {i j:Nat} (hj:j<ys.length) (hij:i≤j):l.getD (ys[i]'(by omega)) 0≤l.getD ys[j] 0:=by
 by_cases e:i=j
 ·subst e;exact Nat.le_refl _
 ·have:=(List.pairwise_iff_getElem.1 h.2) i j (by omega) hj (by omega)
  omega
theorem vw {l ys:List Nat} (h:bD l ys) {i:Nat} (hi:i<ys.length): ∀k,k≤i→sh l ys[i]∣start l ys k
 |0,_=>by simp [start]
 |k+1,hk=>by
  rw [oR (by omega)]
  refine Nat.dvd_add (vw h hi k (by omega)) ?_
  have:=Bt h hi (show k≤i by omega)
  unfold sh
  exact Nat.pow_dvd_pow 2 (by omega)
def fI (l ys:List Nat) (i:Nat):Nat:=start l ys i/sh l (ys.getD i 0)
theorem q5 {ys:List Nat} {i:Nat} (hi:i<ys.length):ys.getD i 0=ys[i]:=by
 rw [List.getD_eq_getElem?_getD,List.getElem?_eq_getElem hi];rfl
theorem oT {l ys:List Nat} (h:bD l ys) {i:Nat} (hi:i<ys.length):fI l ys i*sh l ys[i]=start l ys i:=by
 unfold fI
 rw [q5 hi]
 exact Nat.div_mul_cancel (vw h hi i (Nat.le_refl _))
theorem Ew {l:List Nat} (hv:aV l≤32768) (s:Nat):2^l.getD s 0*sh l s=32768:=by
 unfold sh
 rw [←Nat.pow_add,show l.getD s 0+(15 - l.getD s 0)=15 by have:=gb hv s;omega]
theorem DQ {l ys:List Nat} (hv:aV l≤32768) (h:bD l ys) {i:Nat} (hi:i<ys.length):fI l ys i<2^l.getD ys[i] 0:=by
 have h1:=oT h hi
 have h2:=FC hv h (show i+1≤ys.length by omega)
 rw [oR hi] at h2
 have h3:=Ew hv ys[i]
 have h4:=zx l ys[i]
 have h5:(fI l ys i+1)*sh l ys[i]≤2^l.getD ys[i] 0*sh l ys[i]:=by rw [Nat.succ_mul];omega
 exact Nat.le_of_mul_le_mul_right h5 h4
end Go.Srt
set_option maxRecDepth 20000
namespace Go.Srt
def c6 (l ys:List Nat):Nat→List Nat
 |0=>List.replicate 258 0
 |i+1=>(c6 l ys i).set (ys.getD i 0) (fI l ys i)
theorem cS (l ys:List Nat): ∀i,(c6 l ys i).length=258
 |0=>List.length_replicate
 |i+1=>by rw [c6,List.length_set,cS l ys i]
theorem JC {l ys:List Nat} (h:bD l ys) {i j:Nat} (hj:j<ys.length) (hij:i<j):ys[i]'(by omega)≠ys[j]:=by
 have:=(List.pairwise_iff_getElem.1 h.2) i j (by omega) hj hij
 intro e
 rw [e] at this
 omega
theorem sX {l ys:List Nat} (h:bD l ys) (hin: ∀s∈ys,s<258): ∀(i:Nat),i≤ys.length→∀j (hj:j<ys.length),j<i→(c6 l ys i).getD ys[j] 0=fI l ys j
 |0,_,_,_,hji=>by omega
 |i+1,hi,j,hj,hji=>by
  have hi':i<ys.length:=by omega
  rw [c6,q5 hi']
  by_cases e:j=i
  ·subst e
   have:ys[j]<(c6 l ys j).length:=by rw [cS];exact hin _ (List.getElem_mem hj)
   rw [List.getD_eq_getElem?_getD,List.getElem?_set_self this];rfl
  ·have hne:=JC h hi' (show j<i by omega)
   rw [List.getD_eq_getElem?_getD,List.getElem?_set_ne (fun hh=>hne hh.symm),←List.getD_eq_getElem?_getD]
   exact sX h hin i (by omega) j hj (by omega)
end Go.Srt
set_option maxRecDepth 20000
namespace Go.Srt
def many (l:List Nat) (n:Nat):Nat:=if n=0 then 0 else l.count n
def fst (l:List Nat):Nat→Nat
 |0=>0
 |n+1=>2*(fst l n+many l n)
def low (l:List Nat):Nat→Nat
 |0=>0
 |n+1=>low l n+many l n*2^(15 - n)
theorem uR (l:List Nat): ∀n,n≤15→fst l n*2^(15 - n)=low l n
 |0,_=>by simp [fst,low]
 |n+1,h=>by
  have ih:=uR l n (by omega)
  have e:2^(15 - n)=2*2^(15 - (n+1)):=by rw [show 15 - n=(15 - (n+1))+1 by omega,Nat.pow_succ,Nat.mul_comm]
  rw [fst,low,←ih,←Nat.add_mul,e,Nat.mul_comm 2 (fst l n+many l n),Nat.mul_assoc]
theorem BP (n:Nat):low [] n=0:=by
 induction n with
 |zero=>rfl
 |succ n ih=>rw [low,ih];simp [many]
theorem uw (l:List Nat) (x:Nat): ∀n,low (l++ [x]) n=low l n+if 0<x∧x<n then 2^(15 - x) else 0
 |0=>by simp [low]
 |n+1=>by
  rw [low,low,uw l x n]
  unfold many
  rw [List.count_append,List.count_singleton]
  by_cases h0:n=0
  ·subst h0;rw [if_pos rfl,if_pos rfl,if_neg (by omega),if_neg (by omega)]
  ·rw [if_neg h0,if_neg h0]
   by_cases hx:x=n
   ·subst hx
    rw [if_neg (by omega),if_pos (by simp),if_pos (by omega),Nat.add_mul];omega
   ·rw [if_neg (show¬(x==n)=true by simpa using hx)]
    by_cases h:0<x∧x<n
    ·rw [if_pos h,if_pos (by omega),Nat.add_zero];omega
    ·rw [if_neg h,if_neg (by omega),Nat.add_zero,Nat.add_zero,Nat.add_zero]
theorem zu (l:List Nat) {n m:Nat} (h:n≤m):low l n≤low l m:=by
 induction m with
 |zero=>have:n=0:=by omega
        subst this;exact Nat.le_refl _
 |succ m ih=>
  by_cases e:n=m+1
  ·subst e;exact Nat.le_refl _
  ·have:=ih (by omega)
   rw [low];omega
theorem HL: ∀(k:Nat) (l:List Nat),l.length=k→(∀x∈l,x≤15)→low l 16=aV l:=by
 intro k
 induction k with
 |zero=>intro l h _;have:l= []:=List.length_eq_zero_iff.1 h
        subst this;simp [BP,aV]
 |succ k ih=>
  intro l hl h
  have hne:l≠ []:=by intro e;subst e;simp at hl
  obtain ⟨l',x,rfl⟩: ∃l' x,l=l'++ [x]:=⟨l.dropLast,l.getLast hne,(List.dropLast_concat_getLast hne).symm⟩
  rw [uw,ih l' (by simpa using hl) (fun y hy=>h y (by simp [hy]))]
  have hx:=h x (by simp)
  unfold aV
  rw [List.map_append,List.sum_append]
  congr 1
  simp only [List.map_cons,List.map_nil,List.sum_cons,List.sum_nil,Nat.add_zero]
  unfold wt
  by_cases h0:x=0
  ·rw [if_neg (by omega),if_pos h0]
  ·rw [if_pos (by omega),if_neg h0,if_neg (by omega)]
theorem Ho {l:List Nat} (hv:aV l≤32768):low l 16=aV l:=HL _ l rfl fun x hx=>by
 obtain ⟨i,hi,rfl⟩:=List.getElem_of_mem hx
 have:=gb hv i
 rwa [List.getD_eq_getElem?_getD,List.getElem?_eq_getElem hi] at this
def gA (l:List Nat) (s:Nat):Nat:=(l.take s).count (l.getD s 0)
def code (l:List Nat) (s:Nat):Nat:=fst l (l.getD s 0)+gA l s
def pos (l:List Nat) (s:Nat):Nat:=low l (l.getD s 0)+gA l s*2^(15 - l.getD s 0)
theorem pr {l:List Nat} (hv:aV l≤32768) (s:Nat):code l s*2^(15 - l.getD s 0)=pos l s:=by
 unfold code pos
 rw [Nat.add_mul,uR l _ (gb hv s)]
theorem bT {l:List Nat} {i:Nat} (h:i<l.length):l.getD i 0=l[i]:=by rw [List.getD_eq_getElem?_getD,List.getElem?_eq_getElem h];rfl
theorem iB (l:List Nat) (k x:Nat):(l.take k).count x≤l.count x:=(List.take_sublist k l).count_le x
theorem dc {l:List Nat} {k:Nat} (h:k<l.length) (x:Nat):(l.take (k+1)).count x=(l.take k).count x+if l[k]=x then 1 else 0:=by
 rw [List.take_add_one,List.getElem?_eq_getElem h,List.count_append]
 simp only [Option.toList,List.count_singleton,beq_iff_eq]
theorem nu {l:List Nat} {i j:Nat} (h:i≤j) (x:Nat):(l.take i).count x≤(l.take j).count x:=by
 have:(l.take i)=(l.take j).take i:=by rw [List.take_take,Nat.min_eq_left h]
 rw [this];exact iB _ _ _
theorem Bp {l:List Nat} {s:Nat} (hs:s<l.length) (h0:0<l.getD s 0):gA l s<many l (l.getD s 0):=by
 unfold gA many
 rw [if_neg (by omega)]
 have h1:=dc hs (l.getD s 0)
 rw [bT hs,if_pos rfl] at h1
 have h2:=iB l (s+1) (l[s])
 rw [bT hs]
 omega
theorem xS {l:List Nat} {s:Nat} (hs:s<l.length) (h0:0<l.getD s 0):pos l s+2^(15 - l.getD s 0)≤low l (l.getD s 0+1):=by
 have:=Bp hs h0
 unfold pos
 rw [low,Nat.add_assoc,←Nat.succ_mul]
 exact Nat.add_le_add_left (Nat.mul_le_mul_right _ this) _
theorem mW {l:List Nat} {s t:Nat} (hs:s<l.length) (ht:t<l.length) (h0:0<l.getD s 0) (hne:s≠t) (h:l.getD s 0<l.getD t 0∨(l.getD s 0=l.getD t 0∧s<t)):pos l s+2^(15 - l.getD s 0)≤pos l t:=by
 rcases h with h|⟨h,hst⟩
 ·have h1:=xS hs h0
  have h2:=zu l (show l.getD s 0+1≤l.getD t 0 by omega)
  unfold pos at h1⊢
  omega
 ·have h1:=dc hs (l.getD t 0)
  rw [if_pos (by rw [←h,bT hs])] at h1
  have h2:=nu (l:=l) (show s+1≤t by omega) (l.getD t 0)
  unfold pos gA
  rw [h,Nat.add_assoc,←Nat.succ_mul]
  exact Nat.add_le_add_left (Nat.mul_le_mul_right _ (by omega)) _
theorem Fj {l:List Nat} {s t x:Nat} (hs:s<l.length) (ht:t<l.length) (h0:0<l.getD s 0) (h1:0<l.getD t 0) (hxs:pos l s≤x) (hxs':x<pos l s+2^(15 - l.getD s 0)) (hxt:pos l t≤x) (hxt':x<pos l t+2^(15 - l.getD t 0)):s=t:=by
 by_cases e:s=t
 ·exact e
 ·rcases Nat.lt_trichotomy (l.getD s 0) (l.getD t 0) with h|h|h
  ·have:=mW hs ht h0 e (.inl h);omega
  ·rcases Nat.lt_or_ge s t with h'|h'
   ·have:=mW hs ht h0 e (.inr ⟨h,h'⟩);omega
   ·have:=mW ht hs h1 (Ne.symm e) (.inr ⟨h.symm,by omega⟩);omega
  ·have:=mW ht hs h1 (Ne.symm e) (.inl h);omega
theorem H6 (l:List Nat) (n:Nat): ∀p,p<l.count n→∃s,s<l.length∧l.getD s 0=n∧gA l s=p:=by
 intro p hp
 have key: ∀k,k≤l.length→p<(l.take k).count n→∃s,s<k∧l.getD s 0=n∧gA l s=p:=by
  intro k
  induction k with
  |zero=>intro _ h;simp at h
  |succ k ih=>
   intro hk h
   by_cases h2:p<(l.take k).count n
   ·obtain ⟨s,h1,h3⟩:=ih (by omega) h2;exact ⟨s,by omega,h3⟩
   ·have h3:=dc (l:=l) (k:=k) (by omega) n
    by_cases h4:l[k]=n
    ·rw [if_pos h4] at h3
     refine ⟨k,by omega,by rw [bT (by omega),h4],?_⟩
     unfold gA
     rw [bT (by omega),h4];omega
    ·rw [if_neg h4] at h3;omega
 obtain ⟨s,h1,h2⟩:=key l.length (Nat.le_refl _) (by rwa [List.take_length])
 exact ⟨s,by omega,h2⟩
theorem yx {l:List Nat} {s t:Nat} (hs:s<l.length) (ht:t<l.length) (h:l.getD s 0=l.getD t 0) (hr:gA l s=gA l t):s=t:=by
 have aux: ∀{s t:Nat},s<l.length→t<l.length→l.getD s 0=l.getD t 0→gA l s=gA l t→¬s<t:=by
  intro s t hs ht h hr hlt
  have h1:=dc hs (l.getD t 0)
  rw [if_pos (by rw [←h,bT hs])] at h1
  have h2:=nu (l:=l) (show s+1≤t by omega) (l.getD t 0)
  unfold gA at hr
  rw [h] at hr
  omega
 have h1:=aux hs ht h hr
 have h2:=aux ht hs h.symm hr.symm
 omega
def Bd (l:List Nat) (n s t:Nat):Bool:=decide (0<l.getD t 0)&&decide (l.getD t 0<n∨(l.getD t 0=n∧t<s))
theorem tD (l:List Nat) (n s:Nat) (hn:0<n): ∀k,k≤l.length→(((List.range k).filter (Bd l n s)).map (sh l)).sum=low (l.take k) n+((l.take k).take s).count n*2^(15 - n)
 |0,_=>by simp [BP]
 |k+1,hk=>by
  have hk':k<l.length:=by omega
  rw [List.range_succ,List.filter_append,List.map_append,List.sum_append,tD l n s hn k (by omega)]
  have e1:l.take (k+1)=l.take k++ [l[k]]:=by rw [List.take_add_one,List.getElem?_eq_getElem hk'];rfl
  rw [e1,uw]
  have hg:=bT hk'
  have hlen:(l.take k).length=k:=by simp;omega
  have hc:0<l[k]→(l[k]<n∨(l[k]=n∧k<s))→Bd l n s k=true:=fun h0 h1=>by
   unfold Bd;rw [hg,Bool.and_eq_true,decide_eq_true_eq,decide_eq_true_eq];exact ⟨h0,h1⟩
  have hc': ¬(0<l[k]∧(l[k]<n∨(l[k]=n∧k<s)))→¬Bd l n s k=true:=fun h=>by
   unfold Bd;rw [hg,Bool.and_eq_true,decide_eq_true_eq,decide_eq_true_eq];exact h
  by_cases hks:k<s
  ·have e2:(l.take k++ [l[k]]).take s=l.take k++ [l[k]]:=List.take_of_length_le (by rw [List.length_append,hlen];simp;omega)
   have e3:(l.take k).take s=l.take k:=List.take_of_length_le (by omega)
   rw [e2,e3,List.count_append,List.count_singleton]
   by_cases h0:0<l[k]∧l[k]<n
   ·rw [List.filter_cons_of_pos (hc h0.1 (.inl h0.2)),if_pos h0,if_neg (by rw [beq_iff_eq];omega)]
    simp only [List.filter_nil,List.map_cons,List.map_nil,List.sum_cons,List.sum_nil,sh,hg,Nat.add_zero];omega
   ·rw [if_neg h0]
    by_cases h1:l[k]=n
    ·rw [List.filter_cons_of_pos (hc (by omega) (.inr ⟨h1,hks⟩)),if_pos (by simpa using h1),Nat.add_mul]
     simp only [List.filter_nil,List.map_cons,List.map_nil,List.sum_cons,List.sum_nil,sh,hg,h1];omega
    ·rw [List.filter_cons_of_neg (hc' (by omega)),if_neg (by simpa using h1)]
     simp
  ·have e2:(l.take k++ [l[k]]).take s=(l.take k).take s:=by rw [List.take_append_of_le_length (by omega)]
   rw [e2]
   by_cases h0:0<l[k]∧l[k]<n
   ·rw [List.filter_cons_of_pos (hc h0.1 (.inl h0.2)),if_pos h0]
    simp only [List.filter_nil,List.map_cons,List.map_nil,List.sum_cons,List.sum_nil,sh,hg,Nat.add_zero];omega
   ·rw [if_neg h0,List.filter_cons_of_neg (hc' (by omega))]
    simp
theorem Ea {l ys:List Nat} (h:bD l ys) {i:Nat} (hi:i<ys.length):start l ys i=pos l ys[i]:=by
 have hm:=dH.1 (h.1.mem_iff.1 (List.getElem_mem hi))
 let p:Nat→Bool:=fun t=>decide (l.getD t 0<l.getD ys[i] 0∨(l.getD t 0=l.getD ys[i] 0∧t<ys[i]))
 have hpw:=List.pairwise_iff_getElem.1 h.2
 have e1:ys.filter p=ys.take i:=by
  conv=>lhs;rw [←List.take_append_drop i ys]
  rw [List.filter_append,List.filter_eq_self.2,List.filter_eq_nil_iff.2,List.append_nil]
  ·intro a ha
   obtain ⟨j,hj,rfl⟩:=List.getElem_of_mem ha
   rw [List.length_drop] at hj
   rw [List.getElem_drop]
   show¬p _=true
   by_cases e:j=0
   ·subst e;simp only [p,Nat.add_zero,decide_eq_true_eq];omega
   ·have:=hpw i (i+j) hi (by omega) (by omega)
    simp only [p,decide_eq_true_eq];omega
  ·intro a ha
   obtain ⟨j,hj,rfl⟩:=List.getElem_of_mem ha
   rw [List.length_take] at hj
   rw [List.getElem_take]
   have:=hpw j i (by omega) hi (by omega)
   simp only [p,decide_eq_true_eq];omega
 have e2:((ys.take i).map (sh l)).sum=(((used l).filter p).map (sh l)).sum:=by
  rw [←e1];exact ((h.1.filter p).map (sh l)).sum_nat
 unfold start
 rw [e2]
 have e3:(used l).filter p=(List.range l.length).filter (Bd l (l.getD ys[i] 0) ys[i]):=by
  unfold used;rw [List.filter_filter];congr 1;funext t;rw [Bool.and_comm];rfl
 rw [e3]
 have:=tD l (l.getD ys[i] 0) ys[i] hm.2 l.length (Nat.le_refl _)
 rw [List.take_length] at this
 exact this
theorem Ao {l ys:List Nat} (hv:aV l≤32768) (h:bD l ys) {i:Nat} (hi:i<ys.length):fI l ys i=code l ys[i]:=by
 have h1:=oT h hi
 rw [Ea h hi,←pr hv] at h1
 exact Nat.eq_of_mul_eq_mul_right (zx l ys[i]) h1
theorem CE {l ys:List Nat} (hl:l.length=258) (hv:aV l≤32768) (h:bD l ys) {s:Nat} (hs:s<258) (h0:0<l.getD s 0):(c6 l ys ys.length).getD s 0=code l s:=by
 have hin: ∀s∈ys,s<258:=fun s hs=>by have:=(dH.1 (h.1.mem_iff.1 hs)).1;omega
 have hm:s∈ys:=h.1.mem_iff.2 (dH.2 ⟨by omega,h0⟩)
 obtain ⟨i,hi,rfl⟩:=List.getElem_of_mem hm
 rw [sX h hin _ (Nat.le_refl _) i hi hi,Ao hv h hi]
theorem BN {l:List Nat} (hl:l.length=258) (hv:aV l≤32768) {s:Nat} (hs:s<258) (h0:0<l.getD s 0):code l s<2^l.getD s 0:=by
 have h1:=pr hv s
 have h2:=xS (by omega) h0
 have h3:=zu l (show l.getD s 0+1≤16 by have:=gb hv s;omega)
 rw [Ho hv] at h3
 have h4:=Ew hv s
 unfold sh at h4
 have h5:(code l s+1)*2^(15 - l.getD s 0)≤2^l.getD s 0*2^(15 - l.getD s 0):=by rw [Nat.succ_mul];omega
 exact Nat.le_of_mul_le_mul_right h5 (Nat.two_pow_pos _)
end Go.Srt
namespace Go.Bits
def fu (b:List Nat) (i:Nat):Nat:=(b.getD (i/8) 0/2^(7 - i % 8)) % 2
def val (b:List Nat) (a:Nat):Nat→Nat
 |0=>0
 |n+1=>2*val b a n+fu b (a+n)
theorem zd (b:List Nat) (i:Nat):fu b i<2:=Nat.mod_lt _ (by decide)
end Go.Bits
set_option maxRecDepth 20000
namespace Go.Srt
open Go.Bits
def kN (b:List Nat) (j:Nat):Nat:=
 b.getD (8*j) 0*128+b.getD (8*j+1) 0*64+b.getD (8*j+2) 0*32+b.getD (8*j+3) 0*16+b.getD (8*j+4) 0*8+b.getD (8*j+5) 0*4+b.getD (8*j+6) 0*2+b.getD (8*j+7) 0
def iy (b:List Nat) (m:Nat):List Nat:=(List.range m).map (kN b)
def pack (b:List Nat):List Nat:=iy b ((b.length+7)/8)
def Bits (b:List Nat):Prop:= ∀x∈b,x≤1
theorem Bits.getD {b:List Nat} (h:Bits b) (i:Nat):b.getD i 0≤1:=by
 rw [List.getD_eq_getElem?_getD]
 cases hx:b[i]? with
 |none=>simp
 |some x=>exact h x (List.mem_of_getElem? hx)
theorem Bits.app {a b:List Nat} (ha:Bits a) (hb:Bits b):Bits (a++b):=fun x hx=>by
 rcases List.mem_append.1 hx with h|h
 ·exact ha x h
 ·exact hb x h
theorem oQ (b:List Nat) (m:Nat):(iy b m).length=m:=by simp [iy]
theorem sO {b:List Nat} {m j:Nat} (h:j<m):(iy b m).getD j 0=kN b j:=by
 unfold iy
 rw [List.getD_eq_getElem?_getD,List.getElem?_map,List.getElem?_range h];rfl
theorem EX {b:List Nat} (h:Bits b) (j:Nat):kN b j<256:=by
 unfold kN
 have h0:=h.getD (8*j);have h1:=h.getD (8*j+1);have h2:=h.getD (8*j+2);have h3:=h.getD (8*j+3)
 have h4:=h.getD (8*j+4);have h5:=h.getD (8*j+5);have h6:=h.getD (8*j+6);have h7:=h.getD (8*j+7)
 omega
theorem D0 {b:List Nat} (h:Bits b) (m:Nat): ∀y∈iy b m,y<256:=fun y hy=>by
 obtain ⟨j,_,rfl⟩:=List.mem_map.1 hy
 exact EX h j
theorem c8 {b:List Nat} {i:Nat} (h:b.length≤i):b.getD i 0=0:=by rw [List.getD_eq_getElem?_getD,List.getElem?_eq_none h];rfl
theorem v8 (b:List Nat) (x i:Nat):(b++ [x]).getD i 0=b.getD i 0+if i=b.length then x else 0:=by
 rcases Nat.lt_trichotomy i b.length with h|h|h
 ·rw [if_neg (by omega),List.getD_eq_getElem?_getD,List.getElem?_append_left h,←List.getD_eq_getElem?_getD];rfl
 ·subst h
  rw [if_pos rfl,c8 (Nat.le_refl _),List.getD_eq_getElem?_getD,List.getElem?_append_right (Nat.le_refl _),Nat.sub_self]
  simp
 ·rw [if_neg (by omega),c8 (b:=b++ [x]) (by simp;omega),c8 (b:=b) (by omega)]
theorem xB (b:List Nat) (x j:Nat):kN (b++ [x]) j=kN b j+if j=b.length/8 then x*2^(7 - b.length % 8) else 0:=by
 unfold kN
 simp only [v8]
 by_cases hj:j=b.length/8
 ·rw [if_pos hj]
  have hr:b.length=8*j+b.length % 8:=by omega
  have h8:b.length % 8<8:=Nat.mod_lt _ (by decide)
  generalize b.length % 8=r at hr h8
  rw [hr]
  have:r=0∨r=1∨r=2∨r=3∨r=4∨r=5∨r=6∨r=7:=by omega
  rcases this with rfl|rfl|rfl|rfl|rfl|rfl|rfl|rfl<;>simp<;>omega
 ·rw [if_neg hj,if_neg (by omega),if_neg (by omega),if_neg (by omega),if_neg (by omega),if_neg (by omega),if_neg (by omega),if_neg (by omega),if_neg (by omega)]
  omega
theorem HC {b:List Nat} {j:Nat} (h:b.length≤8*j):kN b j=0:=by
 unfold kN
 rw [c8 h,c8 (by omega),c8 (by omega),c8 (by omega),c8 (by omega),c8 (by omega),c8 (by omega),c8 (by omega)]
theorem IE (b:List Nat):2^(8 - b.length % 8)∣kN b (b.length/8):=by
 have hr:b.length=8*(b.length/8)+b.length % 8:=by omega
 have h8:b.length % 8<8:=Nat.mod_lt _ (by decide)
 generalize hj:b.length/8=j at hr
 generalize b.length % 8=r at hr h8
 unfold kN
 have g: ∀i,r≤i→b.getD (8*j+i) 0=0:=fun i hi=>c8 (by omega)
 have:r=0∨r=1∨r=2∨r=3∨r=4∨r=5∨r=6∨r=7:=by omega
 have g0:=g 0;have g1:=g 1;have g2:=g 2;have g3:=g 3;have g4:=g 4;have g5:=g 5;have g6:=g 6;have g7:=g 7
 simp only [Nat.add_zero] at g0
 rcases this with rfl|rfl|rfl|rfl|rfl|rfl|rfl|rfl<;>simp only [Nat.reduceSub,Nat.reducePow]<;>omega
theorem H3 {a r x:Nat} (hr:r<8) (hd:2^(8 - r)∣a) (hx:x≤1):a|||x*2^(7 - r)=a+x*2^(7 - r):=by
 obtain ⟨q,rfl⟩:=hd
 have hp:2^(8 - r)=2*2^(7 - r):=by rw [show 8 - r=(7 - r)+1 by omega,Nat.pow_succ,Nat.mul_comm]
 have hpos:=Nat.two_pow_pos (7 - r)
 refine (Nat.two_pow_add_eq_or_of_lt (i:=8 - r) ?_ q).symm
 have:x=0∨x=1:=by omega
 rcases this with rfl|rfl<;>omega
def room (b:List Nat):List Nat:=iy b (b.length/8+1)
theorem Br (b:List Nat):room b=if b.length % 8=0 then pack b++ [0] else pack b:=by
 unfold room pack
 split
 ·rename_i h
  rw [show (b.length+7)/8=b.length/8 by omega]
  unfold iy
  rw [List.range_succ,List.map_append]
  congr 1
  simp only [List.map_cons,List.map_nil]
  rw [HC (by omega)]
 ·rename_i h
  rw [show (b.length+7)/8=b.length/8+1 by omega]
theorem DN (b:List Nat) (x:Nat):pack (b++ [x])=(room b).set (b.length/8) (kN b (b.length/8)+x*2^(7 - b.length % 8)):=by
 unfold pack room
 rw [List.length_append,List.length_singleton,show (b.length+1+7)/8=b.length/8+1 by omega]
 refine List.ext_getElem? fun i=> ?_
 unfold iy
 rw [List.getElem?_set]
 simp only [List.getElem?_map,List.length_map,List.length_range]
 by_cases hi:i<b.length/8+1
 ·rw [List.getElem?_range hi]
  simp only [Option.map_some]
  rw [xB]
  by_cases e:b.length/8=i
  ·subst e;rw [if_pos rfl,if_pos rfl,if_pos hi]
  ·rw [if_neg (Ne.symm e),if_neg e,Nat.add_zero]
 ·rw [List.getElem?_eq_none (by simpa using hi)]
  simp only [Option.map_none]
  rw [if_neg (by omega)]
theorem yn {b:List Nat} (h:Bits b) {m i:Nat} (hi:i<8*m):fu (iy b m) i=b.getD i 0:=by
 unfold fu
 rw [sO (by omega)]
 have hr:i=8*(i/8)+i % 8:=by omega
 have h8:i % 8<8:=Nat.mod_lt _ (by decide)
 generalize i/8=j at hr
 generalize i % 8=r at hr h8
 subst hr
 unfold kN
 have h0:=h.getD (8*j);have h1:=h.getD (8*j+1);have h2:=h.getD (8*j+2);have h3:=h.getD (8*j+3)
 have h4:=h.getD (8*j+4);have h5:=h.getD (8*j+5);have h6:=h.getD (8*j+6);have h7:=h.getD (8*j+7)
 have:r=0∨r=1∨r=2∨r=3∨r=4∨r=5∨r=6∨r=7:=by omega
 rcases this with rfl|rfl|rfl|rfl|rfl|rfl|rfl|rfl<;>simp only [Nat.reduceSub,Nat.reducePow,Nat.add_zero]<;>omega
theorem j8 (b:List Nat):(pack b).length=(b.length+7)/8:=oQ _ _
end Go.Srt
set_option maxRecDepth 20000
namespace Go.Srt
open Go.Bits
def bn:Nat→Nat→List Nat
 |0,_=> []
 |n+1,v=>bn n (v/2)++ [v % 2]
theorem oh: ∀n v,(bn n v).length=n
 |0,_=>rfl
 |n+1,v=>by rw [bn,List.length_append,oh n];rfl
theorem BJ: ∀n v,Bits (bn n v)
 |0,_=>fun x hx=>by cases hx
 |n+1,v=>(BJ n _).app fun x hx=>by have:x=v % 2:=by simpa using hx
                                   omega
theorem zM: ∀n v i,i<n→(bn n v).getD i 0=v/2^(n - 1 - i) % 2
 |0,_,_,h=>by omega
 |n+1,v,i,h=>by
  rw [bn,v8,oh]
  by_cases e:i=n
  ·subst e
   rw [if_pos rfl,c8 (by rw [oh];exact Nat.le_refl _),show i+1 - 1 - i=0 by omega];simp
  ·rw [if_neg e,zM n _ i (by omega),Nat.add_zero,Nat.div_div_eq_div_mul]
   congr 2
   rw [show n+1 - 1 - i=(n - 1 - i)+1 by omega,Nat.pow_succ,Nat.mul_comm]
def jF (l:List Nat) (s:Nat):Prop:=s<258∧0<l.getD s 0
def yw (l:List Nat) (s:Nat):List Nat:=bn (l.getD s 0) (code l s)
def enc (l:List Nat) (ss:List Nat):List Nat:=ss.flatMap (yw l)
theorem FX (l:List Nat) (ss:List Nat):Bits (enc l ss):=fun x hx=>by
 obtain ⟨s,_,h⟩:=List.mem_flatMap.1 hx
 exact BJ _ _ x h
theorem HO (l a b:List Nat):enc l (a++b)=enc l a++enc l b:=List.flatMap_append
theorem zT (l:List Nat) (s:Nat) (b:List Nat):enc l (s::b)=yw l s++enc l b:=List.flatMap_cons
def fm (l:List Nat) (c n:Nat):Option Nat:=(List.range 258).find? fun s=>decide (0<l.getD s 0)&&(l.getD s 0==n)&&(code l s==c)
theorem pv {l:List Nat} {c n s:Nat} (h:fm l c n=some s):jF l s∧l.getD s 0=n∧code l s=c:=by
 unfold fm at h
 have h1:=List.find?_some h
 have h2:=List.mem_of_find?_eq_some h
 simp only [Bool.and_eq_true,decide_eq_true_eq,beq_iff_eq] at h1
 exact ⟨⟨by simpa using h2,h1.1.1⟩,h1.1.2,h1.2⟩
theorem CK {l:List Nat} {c n:Nat} (h:fm l c n=none) {s:Nat} (hs:jF l s): ¬(l.getD s 0=n∧code l s=c):=by
 unfold fm at h
 have:=List.find?_eq_none.1 h s (by simpa using hs.1)
 simp only [Bool.and_eq_true,decide_eq_true_eq,beq_iff_eq] at this
 exact fun hh=>this ⟨⟨hs.2,hh.1⟩,hh.2⟩
theorem Fu {l:List Nat} (hl:l.length=258) {s t:Nat} (hs:jF l s) (ht:jF l t) (h1:l.getD s 0=l.getD t 0) (h2:code l s=code l t):s=t:=by
 have h3:=hs.1;have h4:=ht.1
 refine yx (by omega) (by omega) h1 ?_
 unfold code at h2
 rw [h1] at h2
 omega
theorem sB {l:List Nat} (hl:l.length=258) {s:Nat} (hs:jF l s):fm l (code l s) (l.getD s 0)=some s:=by
 cases h:fm l (code l s) (l.getD s 0) with
 |none=>exact absurd ⟨rfl,rfl⟩ (CK h hs)
 |some t=>
  obtain ⟨h1,h2,h3⟩:=pv h
  rw [Fu hl h1 hs h2 h3]
theorem Dp {l:List Nat} (hl:l.length=258) (hv:aV l≤32768) {s m:Nat} (hs:jF l s) (hm:m<l.getD s 0):fm l (code l s/2^(l.getD s 0 - m)) m=none:=by
 cases h:fm l (code l s/2^(l.getD s 0 - m)) m with
 |none=>rfl
 |some t=>
  exfalso
  obtain ⟨h1,h2,h3⟩:=pv h
  have h15:=gb hv s
  have p1:=pr hv s
  have p2:=pr hv t
  rw [h2,h3] at p2
  have e:2^(15 - m)=2^(l.getD s 0 - m)*2^(15 - l.getD s 0):=by rw [←Nat.pow_add];congr 1;omega
  have hq:=Nat.div_mul_le_self (code l s) (2^(l.getD s 0 - m))
  have hr:=Nat.lt_div_mul_add (a:=code l s) (b:=2^(l.getD s 0 - m)) (Nat.two_pow_pos _)
  have ha:pos l t≤pos l s:=by
   rw [←p1,←p2,e,←Nat.mul_assoc];exact Nat.mul_le_mul_right _ hq
  have hb:pos l s<pos l t+2^(15 - l.getD t 0):=by
   rw [h2,←p1,←p2,e,←Nat.mul_assoc,←Nat.add_mul]
   exact Nat.mul_lt_mul_of_pos_right hr (Nat.two_pow_pos _)
  have h4:=hs.1;have h5:=h1.1
  have:s=t:=Fj (x:=pos l s) (by omega) (by omega) hs.2 h1.2 (Nat.le_refl _) (by have:=Nat.two_pow_pos (15 - l.getD s 0);omega) ha hb
  subst this
  omega
def bitsOf (b:List Nat) (n:Nat):List Nat:=(List.range n).map (fu b)
theorem CN (b:List Nat) (n:Nat):(bitsOf b n).length=n:=by simp [bitsOf]
theorem AB (b:List Nat) (n:Nat):Bits (bitsOf b n):=fun x hx=>by
 obtain ⟨i,_,rfl⟩:=List.mem_map.1 hx
 have:=zd b i
 omega
end Go.Srt
set_option maxRecDepth 20000
namespace Go.aj
open Go.Inc Go.Srt Go.Sym Go.Bits
structure CS where
 c:Nat
 n:Nat
 d:DS
 acc:List Nat
def c9 (l:List Nat) (s:CS) (x:Nat):rL CS (List Nat) Nat:=match fm l (2*s.c+x) (s.n+1) with
 |none=> .more ⟨2*s.c+x,s.n+1,s.d,s.acc⟩
 |some y=>match cG s.d y with
  |none=> .bad 160
  |some (_,t,true)=> .fin (s.acc++t)
  |some (d',t,false)=> .more ⟨0,0,d',s.acc++t⟩
theorem BZ {l:List Nat} {s:CS} {x:Nat} (h:fm l (2*s.c+x) (s.n+1)=none):c9 l s x= .more ⟨2*s.c+x,s.n+1,s.d,s.acc⟩:=by unfold c9;rw [h]
theorem Bf {l:List Nat} {s:CS} {x y:Nat} (h:fm l (2*s.c+x) (s.n+1)=some y):c9 l s x=match cG s.d y with
  |none=> .bad 160
  |some (_,t,true)=> .fin (s.acc++t)
  |some (d',t,false)=> .more ⟨0,0,d',s.acc++t⟩:=by unfold c9;rw [h]
section
variable {l:List Nat}
theorem BS (hl:l.length=258) (hv:aV l≤32768) {s:Nat} (hs:jF l s) (rest acc:List Nat) (d:DS): ∀k m,m+k=l.getD s 0→0<k→
  run (c9 l) ⟨code l s/2^(l.getD s 0 - m),m,d,acc⟩ ((bn (l.getD s 0) (code l s)).drop m++rest)=match cG d s with
   |none=> .bad 160
   |some (_,t,true)=> .fin (acc++t) rest
   |some (d',t,false)=>run (c9 l) ⟨0,0,d',acc++t⟩ rest
 |0,_,_,h=>by omega
 |k+1,m,hm,_=>by
  have h15:=gb hv s
  have hlen:=oh (l.getD s 0) (code l s)
  have hlt:m<(bn (l.getD s 0) (code l s)).length:=by omega
  rw [List.drop_eq_getElem_cons hlt,List.cons_append]
  have hx:(bn (l.getD s 0) (code l s))[m]=code l s/2^(l.getD s 0 - 1 - m) % 2:=by
   rw [←zM _ _ _ (by omega),bT hlt]
  have hc:2*(code l s/2^(l.getD s 0 - m))+(bn (l.getD s 0) (code l s))[m]=code l s/2^(l.getD s 0 - (m+1)):=by
   rw [hx,show l.getD s 0 - m=(l.getD s 0 - 1 - m)+1 by omega,Nat.pow_succ,←Nat.div_div_eq_div_mul,show l.getD s 0 - (m+1)=l.getD s 0 - 1 - m by omega]
   omega
  by_cases e:k=0
  ·subst e
   have e1:m+1=l.getD s 0:=by omega
   have hf:fm l (2*(code l s/2^(l.getD s 0 - m))+(bn (l.getD s 0) (code l s))[m]) (m+1)=some s:=by
    rw [hc,e1,Nat.sub_self,Nat.pow_zero,Nat.div_one,sB hl hs]
   have hcs:=Bf (s:=⟨code l s/2^(l.getD s 0 - m),m,d,acc⟩) hf
   rw [cK,hcs,List.drop_of_length_le (by omega),List.nil_append]
   cases hd:cG d s with
   |none=>rfl
   |some p=>
    obtain ⟨d',t,b⟩:=p
    cases b<;>rfl
  ·have hf:fm l (2*(code l s/2^(l.getD s 0 - m))+(bn (l.getD s 0) (code l s))[m]) (m+1)=none:=by
    rw [hc,Dp hl hv hs (by omega)]
   have hcs:=BZ (s:=⟨code l s/2^(l.getD s 0 - m),m,d,acc⟩) hf
   rw [br hcs]
   simp only
   rw [hc]
   exact BS hl hv hs rest acc d k (m+1) (by omega) (by omega)
theorem IF (hl:l.length=258) (hv:aV l≤32768) {s:Nat} (hs:jF l s) (rest acc:List Nat) (d:DS):run (c9 l) ⟨0,0,d,acc⟩ (yw l s++rest)=match cG d s with
   |none=> .bad 160
   |some (_,t,true)=> .fin (acc++t) rest
   |some (d',t,false)=>run (c9 l) ⟨0,0,d',acc++t⟩ rest:=by
 have h:=BS hl hv hs rest acc d (l.getD s 0) 0 (by omega) hs.2
 have hc:=BN hl hv hs.1 hs.2
 rw [Nat.sub_zero,Nat.div_eq_of_lt hc,List.drop_zero] at h
 exact h
theorem EC (hl:l.length=258) (hv:aV l≤32768): ∀(ss rest acc:List Nat) (d:DS),(∀s∈ss,jF l s)→run (c9 l) ⟨0,0,d,acc⟩ (enc l ss++rest)=match run iF (d,acc) ss with
   | .bad e=> .bad e
   | .fin t r=> .fin t (enc l r++rest)
   | .short (d',acc')=>run (c9 l) ⟨0,0,d',acc'⟩ rest
 | [],rest,acc,d,_=>rfl
 |s::ss,rest,acc,d,h=>by
  rw [zT,List.append_assoc,IF hl hv (h s (by simp)),cK]
  cases hd:cG d s with
  |none=>rw [Ii hd]
  |some p=>
   obtain ⟨d',t,b⟩:=p
   cases b with
   |true=>rw [BX hd]
   |false=>
    rw [rT hd]
    exact EC hl hv ss rest _ d' fun t ht=>h t (by simp [ht])
end
end Go.aj
set_option maxRecDepth 20000
namespace Go.Tab
open Go.Inc
structure TS where
 l:List Nat
 bits:Nat
 now:Nat
 way:Nat
def t0:TS:=⟨[],0,0,0⟩
def bg (ok:List Nat→Bool) (s:TS) (b:Nat):rL TS (List Nat) Nat:=
 if s.bits<4 then .more ⟨s.l,s.bits+1,2*s.now+b,s.way⟩
 else if s.bits=4 then
  if b=0 then
   if s.l.length+1<258 then .more ⟨s.l++ [s.now],4,s.now,0⟩
   else if ok (s.l++ [s.now]) then .fin (s.l++ [s.now]) else .bad 100
  else .more ⟨s.l,5,s.now,s.way⟩
 else if b=0 then
  if s.way≠2∧s.now<15 then .more ⟨s.l,4,s.now+1,1⟩ else .bad 100
 else if s.way≠1∧0<s.now then .more ⟨s.l,4,s.now - 1,2⟩ else .bad 100
def nz:Nat→List Nat
 |0=> []
 |k+1=>1::0::nz k
def ga:Nat→List Nat
 |0=> []
 |k+1=>1::1::ga k
def cD (was now:Nat):List Nat:=(if now<was then ga (was - now) else nz (now - was))++ [0]
def cZ:Nat→List Nat→List Nat
 |_,[]=> []
 |was,n::l=>cD was n++cZ n l
def four (n:Nat):List Nat:= [n/8 % 2,n/4 % 2,n/2 % 2,n % 2]
def eG (l:List Nat):List Nat:=four (l.headD 0)++cZ (l.headD 0) l
section
variable {ok:List Nat→Bool}
theorem BQ: ∀(k:Nat) (l:List Nat) (now way:Nat) (r:List Nat),way≠2→now+k≤15→∃way',run (bg ok) ⟨l,4,now,way⟩ (nz k++r)=run (bg ok) ⟨l,4,now+k,way'⟩ r
 |0,l,now,way,r,_,_=>⟨way,rfl⟩
 |k+1,l,now,way,r,hw,hk=>by
  obtain ⟨way',h⟩:=BQ k l (now+1) 1 r (by decide) (by omega)
  refine ⟨way',?_⟩
  have h1:bg ok ⟨l,4,now,way⟩ 1= .more ⟨l,5,now,way⟩:=rfl
  have h2:bg ok ⟨l,5,now,way⟩ 0= .more ⟨l,4,now+1,1⟩:=by
   simp only [bg]
   rw [if_neg (by decide),if_neg (by decide),if_pos trivial,if_pos ⟨hw,by omega⟩]
  show run (bg ok) ⟨l,4,now,way⟩ (1::0::(nz k++r))=_
  rw [br h1,br h2,h,show now+1+k=now+(k+1) by omega]
theorem wg: ∀(k:Nat) (l:List Nat) (now way:Nat) (r:List Nat),way≠1→k≤now→∃way',run (bg ok) ⟨l,4,now,way⟩ (ga k++r)=run (bg ok) ⟨l,4,now - k,way'⟩ r
 |0,l,now,way,r,_,_=>⟨way,rfl⟩
 |k+1,l,now,way,r,hw,hk=>by
  obtain ⟨way',h⟩:=wg k l (now - 1) 2 r (by decide) (by omega)
  refine ⟨way',?_⟩
  have h1:bg ok ⟨l,4,now,way⟩ 1= .more ⟨l,5,now,way⟩:=rfl
  have h2:bg ok ⟨l,5,now,way⟩ 1= .more ⟨l,4,now - 1,2⟩:=by
   simp only [bg]
   rw [if_neg (by decide),if_neg (by decide),if_neg (by decide),if_pos ⟨hw,by omega⟩]
  show run (bg ok) ⟨l,4,now,way⟩ (1::1::(ga k++r))=_
  rw [br h1,br h2,h,show now - 1 - k=now - (k+1) by omega]
theorem HI (l:List Nat) (was n:Nat) (r:List Nat) (h1:was≤15) (h2:n≤15): ∃way,run (bg ok) ⟨l,4,was,0⟩ (cD was n++r)=run (bg ok) ⟨l,4,n,way⟩ (0::r):=by
 unfold cD
 rw [List.append_assoc]
 split
 ·obtain ⟨way,h⟩:=wg (ok:=ok) (was - n) l was 0 ([0]++r) (by decide) (by omega)
  exact ⟨way,by rw [h,show was - (was - n)=n by omega];rfl⟩
 ·obtain ⟨way,h⟩:=BQ (ok:=ok) (n - was) l was 0 ([0]++r) (by decide) (by omega)
  exact ⟨way,by rw [h,show was+(n - was)=n by omega];rfl⟩
theorem yE: ∀(m:List Nat) (l:List Nat) (was:Nat) (r:List Nat),m≠ []→was≤15→(∀x∈m,x≤15)→l.length+m.length=258→ok (l++m)=true→run (bg ok) ⟨l,4,was,0⟩ (cZ was m++r)= .fin (l++m) r
 | [],_,_,_,h,_,_,_,_=>absurd rfl h
 |n::m,l,was,r,_,hw,hm,hl,hok=>by
  rw [cZ,List.append_assoc]
  obtain ⟨way,h⟩:=HI (ok:=ok) l was n (cZ n m++r) hw (hm n List.mem_cons_self)
  rw [h]
  cases m with
  |nil=>
   refine fL ?_
   simp only [List.length_cons,List.length_nil] at hl
   simp only [bg]
   rw [if_neg (by decide),if_pos trivial,if_pos trivial,if_neg (by omega),if_pos hok]
  |cons x m=>
   simp only [List.length_cons] at hl
   have h1:bg ok ⟨l,4,n,way⟩ 0= .more ⟨l++ [n],4,n,0⟩:=by
    simp only [bg]
    rw [if_neg (by decide),if_pos trivial,if_pos trivial,if_pos (by omega)]
   rw [br h1,yE (x::m) (l++ [n]) n r (by simp) (hm n List.mem_cons_self) (fun y hy=>hm y (List.mem_cons_of_mem _ hy)) (by simp;omega) (by rw [List.append_assoc];exact hok),List.append_assoc]
   rfl
theorem Et {l:List Nat} (r:List Nat) (hl:l.length=258) (hm: ∀x∈l,x≤15) (hok:ok l=true):run (bg ok) t0 (eG l++r)= .fin l r:=by
 unfold eG
 rw [List.append_assoc]
 have hh:l.headD 0≤15:=by
  cases l with
  |nil=>simp at hl
  |cons x l=>exact hm x List.mem_cons_self
 have h4:run (bg ok) t0 (four (l.headD 0)++(cZ (l.headD 0) l++r))=run (bg ok) ⟨[],4,l.headD 0,0⟩ (cZ (l.headD 0) l++r):=by
  generalize l.headD 0=n at hh⊢
  have e:2*(2*(2*(2*0+n/8 % 2)+n/4 % 2)+n/2 % 2)+n % 2=n:=by omega
  show run (bg ok) ⟨[],4,2*(2*(2*(2*0+n/8 % 2)+n/4 % 2)+n/2 % 2)+n % 2,0⟩ _=_
  rw [e];rfl
 rw [h4]
 exact yE l [] (l.headD 0) r (by intro e;rw [e] at hl;simp at hl) hh hm (by simpa using hl) hok
end
end Go.Tab
set_option maxRecDepth 20000
namespace Go.Hd
open Go.Inc
def na (n:Nat):List Nat:=if _h:n=0 then [] else na (n/128)++ [128+n % 128]
termination_by n
decreasing_by omega
def dX (n:Nat):List Nat:=na (n/128)++ [n % 128]
theorem iR:na 0= []:=by rw [na];simp
theorem lU {n:Nat} (h:0<n):na n=na (n/128)++ [128+n % 128]:=by rw [na,dif_neg (by omega)]
theorem J6 (n:Nat): ∀x∈na n,x<256:=by
 induction n using Nat.strongRecOn with
 |ind n ih=>
  rcases Nat.eq_zero_or_pos n with e|e
  ·rw [e,iR];simp
  ·rw [lU e]
   intro x hx
   rcases List.mem_append.1 hx with h|h
   ·exact ih (n/128) (by omega) x h
   ·rw [List.mem_singleton] at h;omega
theorem xk (n:Nat): ∀x∈dX n,x<256:=by
 intro x hx
 rcases List.mem_append.1 hx with h|h
 ·exact J6 _ x h
 ·rw [List.mem_singleton] at h;omega
def grow (most v c:Nat):Option (Nat×Bool):=
 if v=0∧c=128 then none else
 if 128*v+c % 128≤most∧(c<128→0<128*v+c % 128) then some (128*v+c % 128,decide (c<128)) else none
theorem uF {most n:Nat} (h0:0<n) (h:n≤most):grow most (n/128) (128+n % 128)=some (n,false):=by
 unfold grow
 have e:128*(n/128)+(128+n % 128) % 128=n:=by omega
 rw [if_neg (by omega),e,if_pos ⟨h,fun _=>h0⟩,decide_eq_false (by omega)]
theorem sj {most n:Nat} (h0:0<n) (h:n≤most):grow most (n/128) (n % 128)=some (n,true):=by
 unfold grow
 have e:128*(n/128)+n % 128 % 128=n:=by omega
 rw [if_neg (by omega),e,if_pos ⟨h,fun _=>h0⟩,decide_eq_true (by omega)]
theorem gI {most v c n:Nat} {d:Bool} (hc:c<256) (h:grow most v c=some (n,d)):n≤most∧0<n∧n=128*v+c % 128∧d=decide (c<128):=by
 unfold grow at h
 split at h
 ·cases h
 ·split at h
  ·rename_i h1 h2
   cases h
   refine ⟨h2.1,?_,rfl,rfl⟩
   by_cases hc:c<128
   ·exact h2.2 hc
   ·omega
  ·cases h
structure HS where
 at_:Nat
 v:Nat
deriving DecidableEq
def u4 (i:Nat):Nat:=if i=0 then 0x57 else if i=1 then 0x50 else 1
def bE (s:HS) (c:Nat):rL HS Nat Nat:=
 if s.at_<3 then
  if c=u4 s.at_ then .more ⟨s.at_+1,0⟩ else .bad (if s.at_=2 then 241 else 240)
 else match grow 65536 s.v c with
  |none=> .bad 242
  |some (n,true)=> .fin n
  |some (n,false)=> .more ⟨3,n⟩
def fp (n:Nat):List Nat:= [0x57,0x50,1]++dX n
theorem K6 {n:Nat} (h:n≤65536):run bE ⟨3,0⟩ (na n)= .short ⟨3,n⟩:=by
 induction n using Nat.strongRecOn with
 |ind n ih=>
  rcases Nat.eq_zero_or_pos n with e|e
  ·rw [e,iR];rfl
  ·rw [lU e,bQ (ih (n/128) (by omega) (by omega))]
   refine br ?_
   simp only [bE]
   rw [if_neg (by decide),uF e h]
theorem Jw {n:Nat} (h0:0<n) (h:n≤65536) (r:List Nat):run bE ⟨0,0⟩ (fp n++r)= .fin n r:=by
 unfold fp dX
 rw [List.append_assoc,List.append_assoc]
 show run bE ⟨3,0⟩ (na (n/128)++([n % 128]++r))=_
 rw [bQ (K6 (by omega))]
 refine fL ?_
 simp only [bE]
 rw [if_neg (by decide),sj h0 h]
structure MS where
 at_:Nat
 v:Nat
 M:Nat
 P:Nat
 sum:Nat
 many:Nat
deriving DecidableEq
inductive Mk where
 |aC (M P sum:Nat)|tail (sum:Nat)
deriving DecidableEq
def dW:MS:=⟨0,0,0,0,0,0⟩
def aB (n:Nat) (s:MS) (c:Nat):rL MS Mk Nat:=
 if s.at_=0 then
  if c=0 then .more ⟨5,0,0,0,0,0⟩ else if c=1 then .more ⟨1,0,0,0,0,0⟩ else .bad 242
 else if s.at_=1 then
  match grow n s.v c with
  |none=> .bad 242
  |some (m,true)=> .more ⟨2,0,m,0,0,0⟩
  |some (m,false)=> .more ⟨1,m,0,0,0,0⟩
 else if s.at_=2 then
  match grow s.M s.v c with
  |none=> .bad 242
  |some (p,true)=> .more ⟨3,0,s.M,p,0,0⟩
  |some (p,false)=> .more ⟨2,p,s.M,0,0,0⟩
 else if s.many=3 then
  if s.at_=3 then .fin (.aC s.M s.P (256*s.sum+c)) else .fin (.tail (256*s.sum+c))
 else .more {s with sum:=256*s.sum+c,many:=s.many+1}
def dU (s:Nat):List Nat:= [s/16777216 % 256,s/65536 % 256,s/256 % 256,s % 256]
theorem Hc (s:Nat): ∀x∈dU s,x<256:=by
 intro x hx
 simp [dU] at hx
 omega
def kn (M P sum:Nat):List Nat:=1::(dX M++dX P++dU sum)
def lb (sum:Nat):List Nat:=0::dU sum
theorem KI {n v:Nat} (h:v≤n):run (aB n) ⟨1,0,0,0,0,0⟩ (na v)= .short ⟨1,v,0,0,0,0⟩:=by
 induction v using Nat.strongRecOn with
 |ind v ih=>
  rcases Nat.eq_zero_or_pos v with e|e
  ·rw [e,iR];rfl
  ·rw [lU e,bQ (ih (v/128) (by omega) (by omega))]
   refine br ?_
   simp only [aB]
   rw [if_neg (by decide),if_pos trivial,uF e h]
theorem Kx {n M v:Nat} (h:v≤M):run (aB n) ⟨2,0,M,0,0,0⟩ (na v)= .short ⟨2,v,M,0,0,0⟩:=by
 induction v using Nat.strongRecOn with
 |ind v ih=>
  rcases Nat.eq_zero_or_pos v with e|e
  ·rw [e,iR];rfl
  ·rw [lU e,bQ (ih (v/128) (by omega) (by omega))]
   refine br ?_
   simp only [aB]
   rw [if_neg (by decide),if_neg (by decide),if_pos trivial,uF e h]
theorem JY {n M:Nat} (h0:0<M) (h:M≤n) (r:List Nat):run (aB n) ⟨1,0,0,0,0,0⟩ (dX M++r)=run (aB n) ⟨2,0,M,0,0,0⟩ r:=by
 unfold dX
 rw [List.append_assoc,bQ (KI (by omega))]
 refine br ?_
 simp only [aB]
 rw [if_neg (by decide),if_pos trivial,sj h0 h]
theorem JO {n M P:Nat} (h0:0<P) (h:P≤M) (r:List Nat):run (aB n) ⟨2,0,M,0,0,0⟩ (dX P++r)=run (aB n) ⟨3,0,M,P,0,0⟩ r:=by
 unfold dX
 rw [List.append_assoc,bQ (Kx (by omega))]
 refine br ?_
 simp only [aB]
 rw [if_neg (by decide),if_neg (by decide),if_pos trivial,sj h0 h]
theorem DF {s:Nat} (h:s<4294967296):256*(256*(256*(256*0+s/16777216 % 256)+s/65536 % 256)+s/256 % 256)+s % 256=s:=by omega
theorem I4 {n M P s:Nat} (h:s<4294967296) (r:List Nat):run (aB n) ⟨3,0,M,P,0,0⟩ (dU s++r)= .fin (.aC M P s) r:=by
 show Ji.fin (Mk.aC M P (256*(256*(256*(256*0+s/16777216 % 256)+s/65536 % 256)+s/256 % 256)+s % 256)) r=_
 rw [DF h]
theorem JD {n s:Nat} (h:s<4294967296) (r:List Nat):run (aB n) ⟨5,0,0,0,0,0⟩ (dU s++r)= .fin (.tail s) r:=by
 show Ji.fin (Mk.tail (256*(256*(256*(256*0+s/16777216 % 256)+s/65536 % 256)+s/256 % 256)+s % 256)) r=_
 rw [DF h]
theorem vK {n M P s:Nat} (h0:0<M) (h1:M≤n) (h2:0<P) (h3:P≤M) (h4:s<4294967296) (r:List Nat):run (aB n) dW (kn M P s++r)= .fin (.aC M P s) r:=by
 show run (aB n) ⟨1,0,0,0,0,0⟩ (dX M++dX P++dU s++r)=_
 rw [List.append_assoc,List.append_assoc,JY h0 h1,JO h2 h3,I4 h4]
theorem Dt {n s:Nat} (h4:s<4294967296) (r:List Nat):run (aB n) dW (lb s++r)= .fin (.tail s) r:=by
 show run (aB n) ⟨5,0,0,0,0,0⟩ (dU s++r)=_
 rw [JD h4]
end Go.Hd
set_option maxRecDepth 20000
namespace Go.Crc
def half (c:Nat):Nat:=(c/2)^^^(if c % 2=1 then 3988292384 else 0)
def row (c:Nat):Nat:=half (half (half (half (half (half (half (half c)))))))
def step (c b:Nat):Nat:=row ((c % 256)^^^b)^^^(c/256)
def feed (c:Nat) (b:List Nat):Nat:=b.foldl step c
def fg (b:List Nat):Nat:=feed 4294967295 b^^^4294967295
theorem fR {c:Nat} (h:c<4294967296):half c<4294967296:=by
 unfold half
 exact Nat.xor_lt_two_pow (n:=32) (by omega) (by split<;>decide)
theorem DZ {c:Nat} (h:c<4294967296):row c<4294967296:=fR (fR (fR (fR (fR (fR (fR (fR h)))))))
theorem BF {c b:Nat} (h:c<4294967296) (hb:b<256):step c b<4294967296:=by
 unfold step
 have h1:(c % 256)^^^b<256:=Nat.xor_lt_two_pow (n:=8) (by omega) hb
 exact Nat.xor_lt_two_pow (n:=32) (DZ (by omega)) (by omega)
theorem rj: ∀(b:List Nat) (c:Nat),c<4294967296→(∀x∈b,x<256)→feed c b<4294967296
 | [],_,h,_=>h
 |x::b,c,h,hb=>by
  rw [feed,List.foldl_cons]
  exact rj b _ (BF h (hb x List.mem_cons_self)) fun y hy=>hb y (List.mem_cons_of_mem _ hy)
theorem F8 (a b:List Nat) (c:Nat):feed c (a++b)=feed (feed c a) b:=List.foldl_append
theorem p5 {b:List Nat} (hb: ∀x∈b,x<256):fg b<4294967296:=Nat.xor_lt_two_pow (n:=32) (rj b _ (by decide) hb) (by decide)
end Go.Crc
set_option maxRecDepth 20000
namespace Go.Vc
open Go
def GV:List Nat→List Nat→Bool
 |_,[]=>false
 | [],_::_=>true
 |a::x,b::y=>decide (a<b)||(a==b&&GV x y)
def strOf (b:List Nat):ByteArray:=strOfNums (b.map fun (x:Nat)=>(x:Int))
theorem qx {P:Program} {src e dst:TypeId} {s:Sl} {b:List Nat} {w:World} {K:ByteArray→World→Prop} (hs:P.underlying src=some (.slice e)) (he:P.underlying e=some (.int .u8)) (hd:P.underlying dst=some .string)
  (hh:aA 1 s (b.map vB) w) (hK:K (strOf b) w):aD P (convert src dst (.slice s.base s.len s.cap)) nM w K:=by
 have hl:=hh.1
 simp only [List.length_map,Nat.mul_one] at hl
 have key:(convert src dst (.slice s.base s.len s.cap)).run P w= .ok (.string (strOf b)) w:=by
  cases hb:s.base with
  |none=>
   have:b= []:=by
    cases b with
    |nil=>rfl
    |cons x b=>
     obtain ⟨p,hp,_⟩:=hh.2 0 (by simp)
     rw [hb] at hp;cases hp
   subst this
   rw [run_convert_bytes_nil w src e hs he _ _ dst hd];rfl
  |some p=>
   have hc:(loadCells p s.len).run P w= .ok ((b.map fun (x:Nat)=>(x:Int)).map (Value.int .u8)).toArray w:=by
    have:=vj (P:=P) (w:=w) (vs:=b.map vB) (p:=p) (fun i hi=>by
     obtain ⟨q,hq,hc⟩:=hh.2 i hi
     rw [hb] at hq
     cases hq
     exact hc)
    rw [List.length_map,hl] at this
    rw [this,List.map_map];rfl
   rw [run_convert_bytes_string w src dst e _ _ _ hs he hd,run_bytesToString w _ _ _ _ hc,foldl_push_bytes]
   unfold strOf strOfNums
   simp [ByteArray.empty,ByteArray.emptyWithCapacity]
   rfl
 unfold aD
 rw [key]
 exact hK
theorem oI (b:List Nat):(strOf b).toList=b.map UInt8.ofNat:=by
 unfold strOf strOfNums
 rw [ByteArray.toList_mk,List.map_map]
 refine List.map_congr_left fun x _=> ?_
 simp
theorem sH (b:List Nat):(strOf b).data.toList=b.map UInt8.ofNat:=by rw [←ByteArray.toList_eq,oI]
theorem JH {a b:Nat} (ha:a<256) (hb:b<256) (h:UInt8.ofNat a=UInt8.ofNat b):a=b:=by
 have:=congrArg UInt8.toNat h
 simp only [UInt8.toNat_ofNat'] at this
 omega
theorem sN: ∀{a b:List Nat},(∀x∈a,x<256)→(∀x∈b,x<256)→a.map UInt8.ofNat=b.map UInt8.ofNat→a=b
 | [],[],_,_,_=>rfl
 | [],_::_,_,_,h=>by cases h
 |_::_,[],_,_,h=>by cases h
 |x::a,y::b,ha,hb,h=>by
  simp only [List.map_cons,List.cons.injEq] at h
  rw [JH (ha x (by simp)) (hb y (by simp)) h.1,sN (fun z hz=>ha z (by simp [hz])) (fun z hz=>hb z (by simp [hz])) h.2]
theorem GG {a b:List Nat} (ha: ∀x∈a,x<256) (hb: ∀x∈b,x<256):((strOf a).toList==(strOf b).toList)=(a==b):=by
 rw [oI,oI,Bool.eq_iff_iff,beq_iff_eq,beq_iff_eq]
 exact ⟨sN ha hb,fun e=>by rw [e]⟩
section
variable {E w:World} {F:List HP}
end
end Go.Vc
set_option maxRecDepth 20000
namespace Go.Bw
open Go.Rk
abbrev lx:List Nat→List Nat→Bool:=Go.Vc.GV
theorem qb (x:List Nat):lx x []=false:=by cases x<;>rfl
theorem iZ (a b:Nat) (x y:List Nat):lx (a::x) (b::y)=(decide (a<b)||(a==b&&lx x y)):=rfl
theorem p6: ∀x,lx x x=false
 | []=>rfl
 |a::x=>by rw [iZ,p6 x];simp
theorem sr: ∀x y z,lx x y=true→lx y z=true→lx x z=true
 |_,[],_,h,_=>by rw [qb] at h;cases h
 |_,_::_,[],_,h=>by rw [qb] at h;cases h
 | [],_::_,_::_,_,_=>rfl
 |a::x,b::y,c::z,h1,h2=>by
  rw [iZ] at*
  simp only [Bool.or_eq_true,Bool.and_eq_true,decide_eq_true_eq,beq_iff_eq] at*
  rcases h1 with h1|⟨h1,h3⟩<;>rcases h2 with h2|⟨h2,h4⟩
  ·left;omega
  ·left;omega
  ·left;omega
  ·exact .inr ⟨by omega,sr x y z h3 h4⟩
theorem r7: ∀x y,lx x y=false→lx y x=false→x=y
 | [],[],_,_=>rfl
 | [],_::_,h,_=>by cases h
 |_::_,[],_,h=>by cases h
 |a::x,b::y,h1,h2=>by
  rw [iZ] at*
  simp only [Bool.or_eq_false_iff,Bool.and_eq_false_iff,decide_eq_false_iff_not,beq_eq_false_iff_ne] at*
  have hab:a=b:=by omega
  subst hab
  rw [r7 x y (by rcases h1.2 with h|h;exact absurd rfl h;exact h) (by rcases h2.2 with h|h;exact absurd rfl h;exact h)]
theorem Dr (x y z:List Nat) (h1:lx x y=false) (h2:lx y z=false):lx x z=false:=by
 cases h:lx x z with
 |false=>rfl
 |true=>
  by_cases e:x=y
  ·subst e;rw [h] at h2;cases h2
  ·have hyx:lx y x=true:=by
    cases hh:lx y x with
    |true=>rfl
    |false=>exact absurd (r7 x y h1 hh) e
   have:=sr _ _ _ hyx h
   rw [h2] at this;cases this
theorem Dz: ∀(k c d:List Nat),lx (k++c) (k++d)=lx c d
 | [],_,_=>rfl
 |a::k,c,d=>by rw [List.cons_append,List.cons_append,iZ,Dz k];simp
theorem zR: ∀(a b c d:List Nat),a≠b→(a.length<b.length→c= [])→(b.length<a.length→d= [])→lx (a++c) (b++d)=lx a b
 | [],[],_,_,h,_,_=>absurd rfl h
 | [],y::b,c,d,_,h1,_=>by rw [h1 (by simp)];rfl
 |x::a,[],c,d,_,_,h2=>by rw [h2 (by simp)];rfl
 |x::a,y::b,c,d,h,h1,h2=>by
  rw [List.cons_append,List.cons_append,iZ,iZ]
  by_cases e:x=y
  ·subst e
   rw [zR a b c d (fun e=>h (by rw [e])) (fun hl=>h1 (by simpa using hl)) (fun hl=>h2 (by simpa using hl))]
  ·rw [beq_eq_false_iff_ne.2 e,Bool.false_and,Bool.false_and]
def sl (t:List Nat) (i k:Nat):Bool:=lx (t.drop i) (t.drop k)
theorem pd (t:List Nat):SO (sl t):=⟨fun _=>p6 _,fun _ _ _=>sr _ _ _,fun _ _ _=>Dr _ _ _⟩
theorem FI {t:List Nat} {i k:Nat} (hi:i≤t.length) (hk:k≤t.length) (h:t.drop i=t.drop k):i=k:=by
 have:=congrArg List.length h
 simp only [List.length_drop] at this
 omega
def rows (t:List Nat):List Nat:=List.range (t.length+1)
theorem j4 {t:List Nat} {i:Nat}:i∈rows t↔i≤t.length:=by unfold rows;rw [List.mem_range];omega
theorem lK (t:List Nat):(rows t).Nodup:=List.nodup_range
theorem xy (t:List Nat):(rows t).length=t.length+1:=List.length_range
theorem qn (t:List Nat):tF (sl t) (rows t):=fun x hx y hy e=>by
 rw [j4] at hx hy
 cases h1:sl t x y with
 |true=>exact .inl rfl
 |false=>
  right
  cases h2:sl t y x with
  |true=>rfl
  |false=>exact absurd (FI hx hy (r7 _ _ h1 h2)) e
def ck (t:List Nat):List Nat:=rP (sl t) (rows t)
def fa (t:List Nat) (i:Nat):Nat:=rk (sl t) (rows t) i
theorem mJ (t:List Nat):(ck t).length=t.length+1:=by unfold ck;rw [Bz,xy]
theorem xO {t:List Nat} {i:Nat}:i∈ck t↔i≤t.length:=by unfold ck;rw [(fy _).mem_iff,j4]
theorem D6 {t:List Nat} {i:Nat} (hi:i≤t.length):fa t i<t.length+1:=by
 have:=wb (pd t) (lK t) (qn t) (j4.2 hi)
 rwa [xy] at this
theorem ug {t:List Nat} {i:Nat} (hi:i≤t.length): ∃h:fa t i<(ck t).length,(ck t)[fa t i]=i:=EZ (pd t) (lK t) (qn t) (j4.2 hi)
theorem BD {t:List Nat} {r:Nat} (hr:r<(ck t).length):fa t (ck t)[r]=r:=Ku (pd t) (lK t) (qn t) hr
theorem oq {t:List Nat} {i k:Nat} (hi:i≤t.length) (hk:k≤t.length) (h:fa t i=fa t k):i=k:=DR (pd t) (qn t) (j4.2 hi) (j4.2 hk) h
theorem Ad (t:List Nat):(ck t).Pairwise fun a b=>sl t a b=true:=pn (pd t) (lK t) (qn t)
theorem oP {t:List Nat} {j:Nat} (hj:j<t.length):t.drop j=t.getD j 0::t.drop (j+1):=by
 rw [List.drop_eq_getElem_cons hj];simp [List.getD,hj]
theorem Iv {t:List Nat} {i k:Nat} (hi:i<t.length) (hk:k<t.length):sl t i k=(decide (t.getD i 0<t.getD k 0)||(t.getD i 0==t.getD k 0&&sl t (i+1) (k+1))):=by
 unfold sl
 rw [oP hi,oP hk,iZ]
theorem Bn (t:List Nat):fa t t.length=0:=by
 unfold fa rk
 rw [List.countP_eq_zero]
 intro x _
 unfold sl
 rw [List.drop_length,qb];decide
def bU (t:List Nat):Nat:=fa t 0
def eK (t:List Nat):List Nat:=(ck t).filter fun i=>i !=0
def aW (t:List Nat):List Nat:=(eK t).map fun i=>t.getD (i - 1) 0
def bS (index row:Nat):Nat:=if row>index then row - 1 else row
theorem uP (t:List Nat):bU t≤t.length:=by have:=D6 (t:=t) (i:=0) (by omega);unfold bU;omega
theorem yN (t:List Nat) {r:Nat} (hr:r<(ck t).length):(ck t)[r]=0↔r=bU t:=by
 constructor
 ·intro h
  have:=BD hr
  rw [h] at this;exact this.symm
 ·rintro rfl
  exact (ug (t:=t) (i:=0) (by omega)).2
theorem vg: ∀(l:List Nat) (ix:Nat),(∀r (hr:r<l.length),l[r]=0↔r=ix)→∀r (hr:r<l.length),r≠ix→(l.filter fun i=>i !=0)[bS ix r]? =some l[r]
 | [],_,_,r,hr,_=>by simp at hr
 |a::l,0,h,r,hr,hne=>by
  have ha:a=0:=(h 0 (by simp)).2 rfl
  subst ha
  have hall: ∀x∈l,x≠0:=fun x hx e=>by
   obtain ⟨i,hi,rfl⟩:=List.getElem_of_mem hx
   have:=(h (i+1) (by simpa using hi)).1 (by simpa using e)
   omega
  obtain ⟨r,rfl⟩: ∃r',r=r'+1:=⟨r - 1,by omega⟩
  have hr':r<l.length:=by simpa using hr
  rw [List.filter_cons,if_neg (by simp),List.filter_eq_self.2 fun x hx=>by simpa using hall x hx]
  unfold bS
  rw [if_pos (by omega)]
  simp [hr']
 |a::l,ix+1,h,r,hr,hne=>by
  have ha:a≠0:=fun e=>by have:=(h 0 (by simp)).1 e;omega
  have ih:=vg l ix fun r hr=>by
   have:=h (r+1) (by simpa using hr)
   simp only [List.getElem_cons_succ] at this
   omega
  rw [List.filter_cons,if_pos (by simpa using ha)]
  cases r with
  |zero=>
   have:bS (ix+1) 0=0:=by unfold bS;rw [if_neg (by omega)]
   rw [this];rfl
  |succ r=>
   have hr':r<l.length:=by simpa using hr
   have h2:=ih r hr' (by omega)
   have:bS (ix+1) (r+1)=bS ix r+1:=by unfold bS;split<;>split<;>omega
   rw [this,List.getElem?_cons_succ,h2];simp
theorem BT {t:List Nat} {r:Nat} (hr:r<(ck t).length) (hne:r≠bU t):(eK t)[bS (bU t) r]? =some (ck t)[r]:=vg _ _ (fun _ hr=>yN t hr) r hr hne
theorem nr (t:List Nat):(eK t).Perm ((List.range t.length).map (·+1)):=by
 have h:=(fy (lt:=sl t) (rows t)).filter fun i=>i !=0
 have e:(rows t).filter (fun i=>i !=0)=(List.range t.length).map (·+1):=by
  unfold rows
  rw [List.range_succ_eq_map,List.filter_cons,if_neg (by simp),List.filter_eq_self.2 fun x hx=>by obtain ⟨y,_,rfl⟩:=List.mem_map.1 hx;simp]
 rw [e] at h
 exact h
theorem ye (t:List Nat):(eK t).length=t.length:=by rw [(nr t).length_eq];simp
theorem cY (t:List Nat):(aW t).length=t.length:=by unfold aW;rw [List.length_map,ye]
theorem CQ (t:List Nat):(aW t).Perm t:=by
 have h:=(nr t).map fun i=>t.getD (i - 1) 0
 have e:((List.range t.length).map (·+1)).map (fun i=>t.getD (i - 1) 0)=t:=by
  apply List.ext_getElem
  ·simp
  ·intro i h1 h2
   simp [List.getD,h2]
 rw [e] at h
 exact h
theorem qR {t:List Nat} (hb: ∀x∈t,x<256): ∀x∈aW t,x<256:=fun x hx=>hb x ((CQ t).mem_iff.1 hx)
theorem rN (t:List Nat):(eK t).Pairwise fun a b=>sl t a b=true:=(Ad t).filter _
theorem F7 {t:List Nat} {j:Nat} (h0:0<j) (hj:j≤t.length):(aW t).getD (bS (bU t) (fa t j)) 0=t.getD (j - 1) 0:=by
 obtain ⟨h1,h2⟩:=ug hj
 have hne:fa t j≠bU t:=fun e=>by have:=oq hj (by omega) e;omega
 have:=BT h1 hne
 rw [h2] at this
 unfold aW
 simp [List.getD,this]
def pl (last:List Nat) (a b:Nat):Bool:=decide (last.getD a 0<last.getD b 0)||(last.getD a 0==last.getD b 0&&decide (a<b))
theorem tc {last:List Nat} {a b:Nat}:pl last a b=true↔last.getD a 0<last.getD b 0∨(last.getD a 0=last.getD b 0∧a<b):=by simp [pl]
theorem IX {last:List Nat} {a b:Nat}:pl last a b=false↔¬(last.getD a 0<last.getD b 0∨(last.getD a 0=last.getD b 0∧a<b)):=by rw [←tc,Bool.not_eq_true]
theorem J8 (last:List Nat):SO (pl last):=⟨fun a=>by rw [IX];omega,fun a b c h1 h2=>by rw [tc] at*;omega,fun a b c h1 h2=>by rw [IX] at*;omega⟩
theorem Jl (last dom:List Nat):tF (pl last) dom:=fun x _ y _ e=>by rw [tc,tc];omega
def nx (last:List Nat) (a:Nat):Nat:=1+rk (pl last) (List.range last.length) a
theorem GY {last:List Nat} {a:Nat} (ha:a<last.length):nx last a≤last.length:=by
 have:=wb (J8 last) List.nodup_range (Jl last _) (List.mem_range.2 ha)
 rw [List.length_range] at this
 unfold nx;omega
theorem Kn {t:List Nat} {j:Nat} (h0:0<j) (hj:j≤t.length):nx (aW t) (bS (bU t) (fa t j))=fa t (j - 1):=by
 obtain ⟨h1,h2⟩:=ug hj
 have hne:fa t j≠bU t:=fun e=>by have:=oq hj (by omega) e;omega
 have hat:=BT h1 hne
 rw [h2] at hat
 obtain ⟨k,hk⟩: ∃k,bS (bU t) (fa t j)=k:=⟨_,rfl⟩
 rw [hk] at hat⊢
 obtain ⟨hkl,hke⟩:=List.getElem?_eq_some_iff.1 hat
 have hcl:=ye t
 have hlast: ∀i (hi:i<(eK t).length),(aW t).getD i 0=t.getD ((eK t)[i] - 1) 0:=fun i hi=>by
  unfold aW
  simp [List.getD,hi]
 have hin: ∀i (hi:i<(eK t).length),0<(eK t)[i]∧(eK t)[i]≤t.length:=fun i hi=>by
  have:=(nr t).mem_iff.1 (List.getElem_mem hi)
  obtain ⟨x,hx,e⟩:=List.mem_map.1 this
  rw [List.mem_range] at hx
  omega
 have e1:rk (pl (aW t)) (List.range (aW t).length) k=(eK t).countP fun x=>sl t (x - 1) (j - 1):=by
  have:(eK t)=(List.range (aW t).length).map fun i=>(eK t).getD i 0:=by
   apply List.ext_getElem
   ·rw [List.length_map,List.length_range,cY,hcl]
   ·intro i h1 h2
    simp [List.getD,h1]
  unfold rk
  conv=>rhs;rw [this,List.countP_map]
  apply List.countP_congr
  intro i hi
  have hi:i<(eK t).length:=by rw [List.mem_range,cY] at hi;omega
  obtain ⟨a1,a2⟩:=hin i hi
  have b1:=hin k hkl
  have hci:(eK t).getD i 0=(eK t)[i]:=by simp [List.getD,hi]
  have hs:=Iv (t:=t) (i:=(eK t)[i] - 1) (k:=j - 1) (by omega) (by omega)
  rw [show (eK t)[i] - 1+1=(eK t)[i] by omega,show j - 1+1=j by omega] at hs
  simp only [Function.comp]
  rw [hci,hs]
  unfold pl
  rw [hlast i hi,hlast k hkl,hke]
  have hord:decide (i<k)=true↔sl t (eK t)[i] j=true:=by
   rw [decide_eq_true_iff,←hke]
   constructor
   ·intro hik
    exact List.pairwise_iff_getElem.1 (rN t) i k hi hkl hik
   ·intro hsl
    rcases Nat.lt_trichotomy i k with h|h|h
    ·exact h
    ·subst h;rw [(pd t).irr] at hsl;cases hsl
    ·have:=List.pairwise_iff_getElem.1 (rN t) k i hkl hi h
     rw [(pd t).asym hsl] at this;cases this
  simp only [Bool.or_eq_true,Bool.and_eq_true,hord]
 have e2:(eK t).countP (fun x=>sl t (x - 1) (j - 1))=(List.range t.length).countP fun x=>sl t x (j - 1):=by
  rw [(nr t).countP_eq,List.countP_map]
  rfl
 have e3:fa t (j - 1)=1+(List.range t.length).countP fun x=>sl t x (j - 1):=by
  unfold fa rk rows
  rw [List.range_succ,List.countP_append,List.countP_cons,List.countP_nil]
  have:sl t t.length (j - 1)=true:=by
   unfold sl
   rw [List.drop_length,oP (by omega)];rfl
  rw [this];simp;omega
 unfold nx
 rw [e1,e2,e3]
def wk (last:List Nat) (index:Nat):Nat→Nat
 |0=>0
 |k+1=>nx last (bS index (wk last index k))
def okB (last:List Nat) (index:Nat):Prop:=index≤last.length∧(∀k,k<last.length→wk last index k≠index)∧wk last index last.length=index
instance (last:List Nat) (index:Nat):Decidable (okB last index):=by unfold okB;infer_instance
def eT (last:List Nat) (index:Nat):List Nat:=((List.range last.length).map fun k=>last.getD (bS index (wk last index k)) 0).reverse
theorem ql (last:List Nat) (index:Nat):(eT last index).length=last.length:=by simp [eT]
theorem u6 {last:List Nat} {index k:Nat} (hk:k<last.length):(eT last index).getD (last.length - 1 - k) 0=last.getD (bS index (wk last index k)) 0:=by
 unfold eT
 rw [List.getD,List.getElem?_reverse (by simp;omega)]
 simp only [List.length_map,List.length_range]
 rw [show last.length - 1 - (last.length - 1 - k)=k by omega]
 simp [hk]
theorem Dx (t:List Nat):okB (aW t) (bU t)∧eT (aW t) (bU t)=t:=by
 have hw: ∀k,k≤t.length→wk (aW t) (bU t) k=fa t (t.length - k):=by
  intro k
  induction k with
  |zero=>intro _;rw [wk,Nat.sub_zero,Bn]
  |succ k ih=>
   intro hk
   rw [wk,ih (by omega),Kn (by omega) (by omega)]
   congr 1
 have hl:=cY t
 refine ⟨⟨by rw [hl];exact uP t,fun k hk e=> ?_,?_⟩,?_⟩
 ·rw [hl] at hk
  rw [hw k (by omega)] at e
  have:=oq (by omega) (by omega) e
  omega
 ·rw [hl,hw _ (Nat.le_refl _),Nat.sub_self];rfl
 ·apply List.ext_getElem (by rw [ql,hl])
  intro i h1 h2
  have e:=u6 (last:=aW t) (index:=bU t) (k:=t.length - 1 - i) (by rw [hl];omega)
  rw [hl,show t.length - 1 - (t.length - 1 - i)=i by omega,hw _ (by omega),show t.length - (t.length - 1 - i)=i+1 by omega,F7 (by omega) (by omega)] at e
  rw [show i+1 - 1=i by omega] at e
  simpa [List.getD,h1,h2] using e
theorem IQ {last:List Nat} {index row:Nat} (hi:index≤last.length) (hr:row≤last.length) (hne:row≠index):bS index row<last.length:=by unfold bS;split<;>omega
theorem G0 {last:List Nat} {index:Nat} (hi:index≤last.length): ∀k,(∀j,j<k→wk last index j≠index)→wk last index k≤last.length
 |0,_=>by rw [wk];omega
 |k+1,h=>by
  rw [wk]
  exact GY (IQ hi (G0 hi k fun j hj=>h j (by omega)) (h k (by omega)))
end Go.Bw
namespace Go.Proofs.YtcdpblipagajiaaGreat
open Go Go.Vc
set_option maxRecDepth 100000
theorem A5.ok (a:(Array Value)) (R:Bool→World→Prop) w (h:
 Nw 36 a w fun c b=>
 Ld (.arr 258) ⟨c,0,none⟩ b fun d=>
 Cl Pg [kB] iQ ⟨[(.agg d)]⟩ b fun (f:Bool) e=>
 aa f
 (aI ⟨c,0,none⟩ 258 257 1 fun g=>
 Ld (aL .u8) g e fun (h:Int)=>
 R (decide (h>0)) e)
 (R false e)):Cl Pg [kB] ea ⟨[(.agg a)]⟩ w R:=co Tryz.f142 [] h
theorem uH.ok (a:(Array Value)) (R:Bool→World→Prop) w (h:
 Nw 36 a w fun c b=>
 Ld (.arr 258) ⟨c,0,none⟩ b fun d=>
 Cl Pg [kI] kz ⟨[(.agg d)]⟩ b fun (f:Int) e=>
 R (f==32768) e):Cl Pg [kB] iQ ⟨[(.agg a)]⟩ w R:=co Tryz.f184 [] h
theorem CW.ok (a:(Array Value)) (R:Bool→World→Prop) w (h:
 Nw 36 a w fun c b=>
 Ld (.arr 258) ⟨c,0,none⟩ b fun d=>
 Cl Pg [kI] kz ⟨[(.agg d)]⟩ b fun (f:Int) e=>
 R (decide (f≤32768)) e):Cl Pg [kB] mb ⟨[(.agg a)]⟩ w R:=co Tryz.f187 [] h
theorem zq.ok (a:(Array Value)) (R:(TT Eu)→World→Prop) w (h:
 Nw 36 a w fun c b=>
 Nw 233 ⟨List.replicate 16 (ni 0)⟩ b fun e d=>
 Ld (.arr 258) ⟨c,0,none⟩ d fun f=>
 dN 0 d fun g h (i:Int) j=>
 aa (decide (i<258))
 (eH (.int .u8) f 258 i fun (k:Int)=>
 aa (decide ((i64 k)<16))
 (aI ⟨e,0,none⟩ 16 k 1 fun l=>
 Ld kI l j fun (m:Int)=>
 aI ⟨e,0,none⟩ 16 k 1 fun n=>
 St n (ni (i64 (m+1))) j fun o=>
 g (i64 (i+1)) o∧h (i64 (i+1)) o<h i j)
 (g (i64 (i+1)) j∧h (i64 (i+1)) j<h i j))
 (Ld (.st Eu) ⟨e,0,none⟩ j fun p=>
 af ⟨e,0,none⟩ [(ni p.1),(ni p.2.1),(ni p.2.2.1),(ni p.2.2.2.1),(ni p.2.2.2.2.1),(ni p.2.2.2.2.2.1),(ni p.2.2.2.2.2.2.1),(ni p.2.2.2.2.2.2.2.1),(ni p.2.2.2.2.2.2.2.2.1),(ni p.2.2.2.2.2.2.2.2.2.1),(ni p.2.2.2.2.2.2.2.2.2.2.1),(ni p.2.2.2.2.2.2.2.2.2.2.2.1),(ni p.2.2.2.2.2.2.2.2.2.2.2.2.1),(ni p.2.2.2.2.2.2.2.2.2.2.2.2.2.1),(ni p.2.2.2.2.2.2.2.2.2.2.2.2.2.2.1),(ni p.2.2.2.2.2.2.2.2.2.2.2.2.2.2.2.1)] 0 j fun q=>
 Ld (.st Eu) ⟨e,0,none⟩ q fun r=>
 R r q)):Cl Pg [(.st Eu)] j6 ⟨[(.agg a)]⟩ w R:=co Tryz.f192 [(5,[(6,kI)])] h
theorem DM.ok (a:(Array Value)) (R:Int→World→Prop) w (h:
 Nw 36 a w fun c b=>
 Ld (.arr 258) ⟨c,0,none⟩ b fun d=>
 db 0 0 b fun e f (g:Int) (h:Int) i=>
 aa (decide (h<258))
 (eH (.int .u8) d 258 h fun (j:Int)=>
 Cl Pg [kI] k9 ⟨[(.int .u8 j)]⟩ i fun (l:Int) k=>
 e (i64 (g+l)) (i64 (h+1)) k∧f (i64 (g+l)) (i64 (h+1)) k<f g h i)
 (R g i)):Cl Pg [kI] kz ⟨[(.agg a)]⟩ w R:=co Tryz.f204 [(5,[(2,kI),(6,kI)])] h
theorem A0.ok (a:Int) (R:Int→World→Prop) w (h:
 aa (a==0)
 (R 0 w)
 (aa (decide (a>15))
 (R 32769 w)
 (0≤a∧
 R (aF .i64 (32768:Int) a) w))):Cl Pg [kI] k9 ⟨[(.int .u8 a)]⟩ w R:=co Tryz.f215 [] h
end Go.Proofs.YtcdpblipagajiaaGreat
namespace Go.Proofs.YtcdpblipagajiaaGreat
open Go Go.Vc
set_option maxRecDepth 100000
theorem wP.ok (a:(Array Value)) (R:(Array Value)→Int→World→Prop) w (h:
 Nw 36 a w fun c b=>
 Nw 145 ⟨List.replicate 258 (.int .u8 0)++ [(ni 0),(ni 0)]⟩ b fun e d=>
 Ld (.arr 258) ⟨c,0,none⟩ d fun f=>
 Cl Pg [kB] ea ⟨[(.agg f)]⟩ d fun (h:Bool) g=>
 aa (!h)
 (cO Pg 145 [] fun i=>
 aw 260 ⟨e,0,none⟩ i g fun j=>
 Ld (.arr 260) ⟨e,0,none⟩ j fun k=>
 R k 2 j)
 (Ld (.arr 258) ⟨c,0,none⟩ g fun l=>
 cO Pg 145 [(0,(.agg l))] fun m=>
 aw 260 ⟨e,0,none⟩ m g fun n=>
 Ld (.arr 260) ⟨e,0,none⟩ n fun o=>
 R o 0 n)):Cl Pg [(.arr 260),kI] jh ⟨[(.agg a)]⟩ w R:=co Tryz.f101 [] h
theorem uf.ok (a:(Array Value)) (b:Int) (R:(Array Value)→Int→Bool→World→Prop) w (h:
 Nw 145 a w fun d c=>
 Nw 145 ⟨List.replicate 258 (.int .u8 0)++ [(ni 0),(ni 0)]⟩ c fun f e=>
 bo (fun (q:World)=>
 Ld (.arr 258) (Addr.add ⟨d,0,none⟩ 0) q fun r=>
 Ld kI (Addr.add ⟨d,0,none⟩ 258) q fun (s:Int)=>
 0≤(1:Int)∧
 Ld kI (Addr.add ⟨d,0,none⟩ 259) q fun (t:Int)=>
 cO Pg 145 [(0,(.agg r)),(1,(ni (jP .i64 (a8 .i64 s (1:Int)) b))),(2,(ni (i64 (t+1))))] fun u=>
 aw 260 ⟨f,0,none⟩ u q fun v=>
 Ld (.arr 258) (Addr.add ⟨f,0,none⟩ 0) v fun x=>
 Ld kI (Addr.add ⟨f,0,none⟩ 259) v fun (y:Int)=>
 Cl Pg [kI,kI] eQ ⟨[(.agg x),(ni y)]⟩ v fun (a1:Int) (b1:Int) z=>
 Ld kI (Addr.add ⟨f,0,none⟩ 258) z fun (c1:Int)=>
 aa (decide (c1≥(i64 (a1+b1))))
 (Ld (.arr 260) ⟨f,0,none⟩ z fun d1=>
 aw 260 ⟨f,0,none⟩ d1 z fun e1=>
 Ld (.arr 260) ⟨f,0,none⟩ e1 fun f1=>
 R f1 0 false e1)
 (ao z fun g1=>
 Ld (.arr 258) (Addr.add ⟨f,0,none⟩ 0) g1 fun h1=>
 Ld kI (Addr.add ⟨f,0,none⟩ 259) g1 fun (i1:Int)=>
 Ld kI (Addr.add ⟨f,0,none⟩ 258) g1 fun (j1:Int)=>
 (Ld (.arr 258) (Addr.add ⟨d,0,none⟩ 0) g1 fun k1=>
 cO Pg 145 [(0,(.agg k1))] fun l1=>
 Cl Pg [kI] gK ⟨[(.agg h1),(ni i1),(ni (i64 (j1 - a1)))]⟩ g1 fun (n1:Int) m1=>
 aw 260 ⟨f,0,none⟩ l1 m1 fun o1=>
 Ld (.arr 260) ⟨f,0,none⟩ o1 fun p1=>
 R p1 n1 true o1)∧
 (Cl Pg [kI] gK ⟨[(.agg h1),(ni i1),(ni (i64 (j1 - a1)))]⟩ g1 fun (r1:Int) q1=>
 Ld (.arr 258) (Addr.add ⟨d,0,none⟩ 0) q1 fun s1=>
 cO Pg 145 [(0,(.agg s1))] fun t1=>
 aw 260 ⟨f,0,none⟩ t1 q1 fun u1=>
 Ld (.arr 260) ⟨f,0,none⟩ u1 fun v1=>
 R v1 r1 true u1))) fun g=>
 0≤(1:Int)∧
 aa ((aF .i64 b (1:Int)) !=0)
 (Ld (.arr 260) ⟨d,0,none⟩ e fun h=>
 aw 260 ⟨f,0,none⟩ h e fun i=>
 Ld (.arr 260) ⟨f,0,none⟩ i fun j=>
 R j 0 false i)
 (Ld (.arr 260) ⟨d,0,none⟩ e fun k=>
 Cl Pg [kB] ie ⟨[(.agg k)]⟩ e fun (m:Bool) l=>
 aa (!m)
 (Ld (.arr 260) ⟨d,0,none⟩ l fun n=>
 aw 260 ⟨f,0,none⟩ n l fun o=>
 Ld (.arr 260) ⟨f,0,none⟩ o fun p=>
 R p 0 false o)
 (g l))):Cl Pg [(.arr 260),kI,kB] fk ⟨[(.agg a),(ni b)]⟩ w R:=co Tryz.f103 [(2,[]),(17,[])] h
theorem sU.ok (a:(Array Value)) (R:Bool→World→Prop) w (h:
 Nw 145 a w fun c b=>
 bo (fun (m:World)=>
 Ld (.arr 258) (Addr.add ⟨c,0,none⟩ 0) m fun n=>
 Ld kI (Addr.add ⟨c,0,none⟩ 259) m fun (o:Int)=>
 Cl Pg [kI,kI] eQ ⟨[(.agg n),(ni o)]⟩ m fun (q:Int) (r:Int) p=>
 Ld kI (Addr.add ⟨c,0,none⟩ 258) p fun (s:Int)=>
 R (decide (s≥(i64 (q+r)))) p) fun d=>
 Ld (.arr 258) (Addr.add ⟨c,0,none⟩ 0) b fun e=>
 Cl Pg [kB] ea ⟨[(.agg e)]⟩ b fun (g:Bool) f=>
 aa (!g)
 (R false f)
 (Ld kI (Addr.add ⟨c,0,none⟩ 259) f fun (h:Int)=>
 aa (decide (h<0))
 (R false f)
 (Ld kI (Addr.add ⟨c,0,none⟩ 259) f fun (i:Int)=>
 aa (decide (i≥15))
 (R false f)
 (Ld kI (Addr.add ⟨c,0,none⟩ 258) f fun (j:Int)=>
 aa (decide (j<0))
 (R false f)
 (Ld kI (Addr.add ⟨c,0,none⟩ 258) f fun (k:Int)=>
 Ld kI (Addr.add ⟨c,0,none⟩ 259) f fun (l:Int)=>
 0≤l∧
 aa ((aF .i64 k l) !=0)
 (R false f)
 (d f)))))):Cl Pg [kB] ie ⟨[(.agg a)]⟩ w R:=co Tryz.f154 [(2,[])] h
theorem tQ.ok (a:(Array Value)) (b:Int) (R:Int→Int→World→Prop) w (h:
 Nw 36 a w fun d c=>
 Ld (.arr 258) ⟨d,0,none⟩ c fun e=>
 Cl Pg [(.st Eu)] j6 ⟨[(.agg e)]⟩ c fun g f=>
 Nw 233 ⟨List.replicate 16 (ni 0)⟩ f fun i h=>
 af ⟨i,0,none⟩ [(ni g.1),(ni g.2.1),(ni g.2.2.1),(ni g.2.2.2.1),(ni g.2.2.2.2.1),(ni g.2.2.2.2.2.1),(ni g.2.2.2.2.2.2.1),(ni g.2.2.2.2.2.2.2.1),(ni g.2.2.2.2.2.2.2.2.1),(ni g.2.2.2.2.2.2.2.2.2.1),(ni g.2.2.2.2.2.2.2.2.2.2.1),(ni g.2.2.2.2.2.2.2.2.2.2.2.1),(ni g.2.2.2.2.2.2.2.2.2.2.2.2.1),(ni g.2.2.2.2.2.2.2.2.2.2.2.2.2.1),(ni g.2.2.2.2.2.2.2.2.2.2.2.2.2.2.1),(ni g.2.2.2.2.2.2.2.2.2.2.2.2.2.2.2.1)] 0 h fun j=>
 aI ⟨i,0,none⟩ 16 0 1 fun k=>
 St k (ni 0) j fun l=>
 db 0 1 l fun m n (o:Int) (p:Int) q=>
 aa (decide (p≤b))
 (aI ⟨i,0,none⟩ 16 (i64 (p - 1)) 1 fun r=>
 Ld kI r q fun (s:Int)=>
 0≤(1:Int)∧
 m (a8 .i64 (i64 (o+s)) (1:Int)) (i64 (p+1)) q∧n (a8 .i64 (i64 (o+s)) (1:Int)) (i64 (p+1)) q<n o p q)
 (ao q fun t=>
 aI ⟨i,0,none⟩ 16 b 1 fun u=>
 Ld kI u t fun (v:Int)=>
 R o v t)):Cl Pg [kI,kI] eQ ⟨[(.agg a),(ni b)]⟩ w R:=co Tryz.f155 [(9,[(4,kI),(7,kI)])] h
theorem xj.ok (a:(Array Value)) (b:Int) (c:Int) (R:Int→World→Prop) w (h:
 Nw 36 a w fun e d=>
 Ld (.arr 258) ⟨e,0,none⟩ d fun f=>
 db c 0 d fun g h (i:Int) (j:Int) k=>
 aa (decide (j<258))
 (eH (.int .u8) f 258 j fun (l:Int)=>
 aa ((i64 l) !=b)
 (g i (i64 (j+1)) k∧h i (i64 (j+1)) k<h i j k)
 (aa (i==0)
 (R j k)
 (g (i64 (i - 1)) (i64 (j+1)) k∧h (i64 (i - 1)) (i64 (j+1)) k<h i j k)))
 (R 0 k)):Cl Pg [kI] gK ⟨[(.agg a),(ni b),(ni c)]⟩ w R:=co Tryz.f156 [(5,[(2,kI),(10,kI)])] h
end Go.Proofs.YtcdpblipagajiaaGreat
set_option maxRecDepth 20000
namespace Go.Proofs.YtcdpblipagajiaaGreat
open Go Go.Vc Go.Srt
section
variable {E w:World} {F:List HP}
theorem Is {n:Nat} {K:Int→World→Prop} (hK:K (wt n:Int) w):Cl Tryz.prog [kI] k9 ⟨[.int .u8 (n:Int)]⟩ w K:=by
 refine A0.ok _ _ _ ?_
 unfold wt at hK
 refine aa.mk (fun h=> ?_) (fun h=>aa.mk (fun h2=> ?_) (fun h2=>⟨by omega,?_⟩))
 ·have h:n=0:=by have:=of_decide_eq_true h;omega
  rw [if_pos h] at hK;exact hK
 ·have h:n≠0:=by have:=of_decide_eq_false h;omega
  have h2:n>15:=by have:=of_decide_eq_true h2;omega
  rw [if_neg h,if_pos h2] at hK;exact hK
 ·have h:n≠0:=by have:=of_decide_eq_false h;omega
  have h2: ¬n>15:=by have:=of_decide_eq_false h2;omega
  rw [if_neg h,if_neg h2] at hK
  have e:=bG (k:= .i64) (a:=32768) (b:=n) (by have:IntKind.bits .i64=64:=rfl;omega)
  rw [show (32768:Int)=((32768:Nat):Int) from rfl,e]
  have:32768/2^n=2^(15 - n):=by
   have e15:(2:Nat)^15=32768:=by decide
   have e2:=Nat.pow_sub_mul_pow 2 (show n≤15 by omega)
   rw [e15] at e2
   exact Nat.div_eq_of_eq_mul_left (Nat.two_pow_pos n) e2.symm
  rw [this];exact hK
set_option maxRecDepth 20000 in
theorem tO {l:List Nat} {K:Int→World→Prop} (h:Hp E w F) (hl:l.length=258) (hK: ∀w',Hp E w' F→K (aV l:Int) w'):Cl Tryz.prog [kI] kz ⟨[.agg (ai .u8 l)]⟩ w K:=by
 refine DM.ok _ _ _ ?_
 refine Nw.mk h fun b w1 h1=>Ld.arr h1 (by rw [aM,hl]) ?_
 have hb:=BV l
 refine ⟨fun sm i w'=> ∃k:Nat,i=(k:Int)∧k≤258∧sm=(aV (l.take k):Int)∧Hp E w' F,fun _ i _=>258 - i.toNat,⟨0,rfl,by omega,by simp [aV],h1.drop⟩,?_⟩
 intro sm i w' hI
 obtain ⟨k,hi,hk,hs,hh⟩:=hI
 subst hi
 subst hs
 refine aa.mk (fun hlt=> ?_) (fun hge=> ?_)
 ·have hlt:k<258:=by have:=of_decide_eq_true hlt;omega
  have hkl:k<l.length:=by omega
  refine eH.rd (s:= .int .u8) (by omega) (by omega) (l[k]:Int) (by rw [Int.toNat_natCast];exact fH hkl) (Is ?_)
  have e:=qc hkl
  have:=vE (l:=l) (k:=k+1)
  rw [ag (x:=(aV (l.take k):Int)+(wt l[k]:Int)) (by omega),ag (by omega)]
  exact ⟨⟨k+1,rfl,by omega,by rw [e];rfl,hh⟩,by dsimp only;omega⟩
 ·have hge:k=258:=by have:=of_decide_eq_false hge;omega
  subst hge
  rw [←hl,List.take_length]
  exact hK _ hh
end
end Go.Proofs.YtcdpblipagajiaaGreat
set_option maxRecDepth 20000
namespace Go.Srt
def cn (l:List Nat):Bool:=decide (aV l=32768)&&decide (0<l.getD 257 0)
theorem lW {l:List Nat}:cn l=true↔aV l=32768∧0<l.getD 257 0:=by simp [cn]
def sF (l:List Nat) (n p:Nat):Nat:=((List.range l.length).find? fun s=>(l.getD s 0==n)&&(gA l s==p)).getD 0
theorem xq {l:List Nat} {n p:Nat} (h:p<l.count n):sF l n p<l.length∧l.getD (sF l n p) 0=n∧gA l (sF l n p)=p:=by
 obtain ⟨s,hs,h1,h2⟩:=H6 l n p h
 unfold sF
 cases hf:(List.range l.length).find? fun s=>(l.getD s 0==n)&&(gA l s==p) with
 |none=>
  have:=List.find?_eq_none.1 hf s (by simpa using hs)
  simp only [Bool.and_eq_true,beq_iff_eq] at this
  exact absurd ⟨h1,h2⟩ this
 |some t=>
  have h3:=List.find?_some hf
  have h4:=List.mem_of_find?_eq_some hf
  simp only [Bool.and_eq_true,beq_iff_eq] at h3
  exact ⟨by simpa using h4,h3⟩
def oE (l:List Nat) (c b:Nat):Prop:=cn l=true∧b<15∧c<2^b∧fst l b+many l b≤c
def dV (l:List Nat) (c b x:Nat):(Nat×Nat)×Option Nat:=
 if fst l (b+1)+many l (b+1)≤2*c+x then ((2*c+x,b+1),none) else ((0,0),some (sF l (b+1) (2*c+x - fst l (b+1))))
theorem oE.zero {l:List Nat} (h:cn l=true):oE l 0 0:=⟨h,by decide,by decide,by simp [fst,many]⟩
theorem oE.ge {l:List Nat} {c b:Nat} (h:oE l c b):fst l (b+1)≤2*c:=by rw [fst];have:=h.2.2.2;omega
theorem KB {l:List Nat} (h:cn l=true):fst l 15+many l 15=32768:=by
 have h1:=uR l 15 (by decide)
 have h2:=Ho (l:=l) (by rw [(lW.1 h).1];decide)
 rw [(lW.1 h).1] at h2
 rw [low] at h2
 omega
theorem oE.next {l:List Nat} {c b x:Nat} (h:oE l c b) (hx:x≤1):oE l (dV l c b x).1.1 (dV l c b x).1.2:=by
 unfold dV
 split
 ·rename_i hc
  have hp:(2:Nat)^(b+1)=2*2^b:=by rw [Nat.pow_succ,Nat.mul_comm]
  have h2:=h.2.2.1
  refine ⟨h.1,?_,by show 2*c+x<2^(b+1);omega,hc⟩
  rcases Nat.lt_or_ge (b+1) 15 with h1|h1
  ·exact h1
  ·have:b=14:=by have:=h.2.1;omega
   subst this
   have:=KB h.1
   have:(2:Nat)^14=16384:=by decide
   simp only [Nat.reduceAdd] at hc
   omega
 ·exact oE.zero h.1
theorem xL {l:List Nat} {c b x s:Nat} (hl:l.length=258) (h:oE l c b) (hx:x≤1) (hs:(dV l c b x).2=some s):s<258∧l.getD s 0=b+1∧code l s=2*c+x∧b<15:=by
 unfold dV at hs
 split at hs
 ·cases hs
 ·rename_i hc
  have h1:s=sF l (b+1) (2*c+x - fst l (b+1)):=by injection hs with hs;exact hs.symm
  have hge:=h.ge
  have hm:many l (b+1)=l.count (b+1):=by unfold many;rw [if_neg (by omega)]
  obtain ⟨h2,h3,h4⟩:=xq (l:=l) (n:=b+1) (p:=2*c+x - fst l (b+1)) (by omega)
  rw [←h1] at h2 h3 h4
  refine ⟨by omega,h3,?_,h.2.1⟩
  unfold code
  rw [h3,h4];omega
theorem FN {l:List Nat} {c b x:Nat} (hs:(dV l c b x).2=none):(dV l c b x).1=(2*c+x,b+1):=by
 unfold dV at hs⊢
 split
 ·rfl
 ·rename_i h;rw [if_neg h] at hs;cases hs
theorem Fw {l:List Nat} {c b x s:Nat} (hs:(dV l c b x).2=some s):(dV l c b x).1=(0,0):=by
 unfold dV at hs⊢
 split
 ·rename_i h;rw [if_pos h] at hs;cases hs
 ·rfl
theorem tk {l:List Nat} (hl:l.length≤258): ∀n,fst l n+516≤516*2^n
 |0=>by simp [fst]
 |n+1=>by
  have:=tk hl n
  have h2:many l n≤258:=by
   unfold many
   split
   ·omega
   ·exact Nat.le_trans List.count_le_length hl
  rw [fst,Nat.pow_succ];omega
theorem uB {l:List Nat} (hl:l.length≤258) (n:Nat):many l n≤258:=by
 unfold many
 split
 ·omega
 ·exact Nat.le_trans List.count_le_length hl
end Go.Srt
namespace Go.Proofs.YtcdpblipagajiaaGreat
open Go Go.Vc Go.Srt
section
variable {E w:World} {F:List HP}
theorem zy {l:List Nat} {i:Nat} {k:IntKind} (h:i<l.length):(ai k l)[((i:Nat):Int).toNat]? =some (Sc.enc (.int k) (l.getD i 0:Int)):=by
 rw [Int.toNat_natCast,fH h,bT h]
theorem Cb {l:List Nat} {K:Bool→World→Prop} (h:Hp E w F) (hl:l.length=258) (hK: ∀w',Hp E w' F→K (decide (aV l=32768)) w'):Cl Tryz.prog [kB] iQ ⟨[.agg (ai .u8 l)]⟩ w K:=by
 refine uH.ok _ _ _ ?_
 refine Nw.mk h fun b w1 h1=>Ld.arr h1 (by rw [aM,hl]) (tO h1 hl fun w2 h2=> ?_)
 have:((aV l:Int)==32768)=decide (aV l=32768):=by rw [Bool.eq_iff_iff];simp;omega
 rw [this]
 exact hK _ h2.drop
theorem qO {l:List Nat} {K:Bool→World→Prop} (h:Hp E w F) (hl:l.length=258) (hK: ∀w',Hp E w' F→K (cn l) w'):Cl Tryz.prog [kB] ea ⟨[.agg (ai .u8 l)]⟩ w K:=by
 refine A5.ok _ _ _ ?_
 refine Nw.mk h fun b w1 h1=>Ld.arr h1 (by rw [aM,hl]) (Cb h1 hl fun w2 h2=>aa.mk (fun hv=> ?_) (fun hv=> ?_))
 ·refine aI.rd (s:= .int .u8) h2 (by decide) (by decide) (l.getD 257 0:Int) (zy (i:=257) (by omega)) ?_
  have:decide ((l.getD 257 0:Int)>0)=cn l:=by
   unfold cn;rw [hv,Bool.true_and,Bool.eq_iff_iff,decide_eq_true_eq,decide_eq_true_eq];omega
  rw [this]
  exact hK _ h2.drop
 ·have:false=cn l:=by unfold cn;rw [hv,Bool.false_and]
  rw [this]
  exact hK _ h2.drop
abbrev G6:List Sc:= [.int .i64,.int .i64,.int .i64,.int .i64,.int .i64,.int .i64,.int .i64,.int .i64,.int .i64,.int .i64,.int .i64,.int .i64,.int .i64,.int .i64,.int .i64,.int .i64]
def t16 (f:Nat→Int):TT G6:=(f 0,f 1,f 2,f 3,f 4,f 5,f 6,f 7,f 8,f 9,f 10,f 11,f 12,f 13,f 14,f 15,())
theorem KH (f:Nat→Int):cX 16 f=⟨fC G6 (t16 f)⟩:=rfl
theorem Jk (f:Nat→Int): ∀v∈ [(.int .i64 (f 0):Value),.int .i64 (f 1),.int .i64 (f 2),.int .i64 (f 3),.int .i64 (f 4),.int .i64 (f 5),.int .i64 (f 6),.int .i64 (f 7),.int .i64 (f 8),.int .i64 (f 9),.int .i64 (f 10),.int .i64 (f 11),.int .i64 (f 12),.int .i64 (f 13),.int .i64 (f 14),.int .i64 (f 15)],ay v=true:=by
 intro v hv
 simp only [List.mem_cons,List.not_mem_nil,or_false] at hv
 rcases hv with rfl|rfl|rfl|rfl|rfl|rfl|rfl|rfl|rfl|rfl|rfl|rfl|rfl|rfl|rfl|rfl<;>rfl
theorem tE:(⟨List.replicate 16 (.int .i64 0)⟩:Array Value)=cX 16 fun _=>0:=rfl
set_option maxRecDepth 20000 in
theorem FB {l:List Nat} {K:TT G6→World→Prop} (h:Hp E w F) (hl:l.length=258) (h15: ∀x∈l,x≤15) (hK: ∀w',Hp E w' F→K (t16 fun j=>(l.count j:Int)) w'):Cl Tryz.prog [.st G6] j6 ⟨[.agg (ai .u8 l)]⟩ w K:=by
 refine zq.ok _ _ _ ?_
 rw [tE]
 refine Nw.mk h fun b w1 h1=>Nw.mk h1 fun b2 w2 h2=>Ld.arr h2.p1 (by rw [aM,hl]) ?_
 refine ⟨fun i w'=> ∃k:Nat,i=(k:Int)∧k≤258∧Hp E w' (aj b2 (.cells (cX 16 fun j=>((l.take k).count j:Int)) 233 (0,0))::F),fun i _=>258 - i.toNat,⟨0,rfl,by omega,?_⟩,?_⟩
 ·have:=h2.p1.drop
  rwa [fB (g:=fun j=>((l.take 0).count j:Int)) (fun i _=>by simp)] at this
 rintro i w' ⟨k,rfl,hk,hh⟩
 refine aa.mk (fun hlt=> ?_) (fun hge=> ?_)
 ·have hlt:k<258:=by have:=of_decide_eq_true hlt;omega
  have hkl:k<l.length:=by omega
  have hcl: ∀x,(l.take k).count x≤258:=fun x=>Nat.le_trans List.count_le_length (by rw [List.length_take];omega)
  refine eH.rd (s:= .int .u8) (by omega) (by omega) (l[k]:Int) (by rw [Int.toNat_natCast];exact fH hkl) ?_
  have h16:=h15 _ (List.getElem_mem hkl)
  rw [ag (x:=(l[k]:Int)) (by omega)]
  refine aa.t (decide_eq_true (by omega)) ?_
  refine aI.rd (s:= .int .i64) hh (by omega) (by omega) ((l.take k).count l[k]:Int) (by rw [Int.toNat_natCast];exact se (by omega)) ?_
  have:=hcl l[k]
  refine aI.wr hh (by omega) (by omega) cV rfl fun w3 h3=> ?_
  rw [ag (by omega),Int.toNat_natCast,pD] at h3
  rw [ag (by omega)]
  refine ⟨⟨k+1,rfl,by omega,?_⟩,by dsimp only;omega⟩
  rw [fB (g:=fun j=>((l.take (k+1)).count j:Int))] at h3
  ·exact h3
  ·intro j hj
   rw [dc hkl]
   by_cases e:j=l[k]
   ·subst e;rw [if_pos rfl,if_pos rfl];omega
   ·rw [if_neg e,if_neg (Ne.symm e)];omega
 ·have hge:k=258:=by have:=of_decide_eq_false hge;omega
  subst hge
  rw [←hl,List.take_length] at hh
  refine Ld.pw hh (t16 fun j=>(l.count j:Int)) (KH _) (af.aC hh (by rw [cV];rfl) (Jk fun j=>(l.count j:Int)) fun w3 h3=> ?_)
  exact Ld.pw h3 (t16 fun j=>(l.count j:Int)) rfl (hK _ h3.drop)
set_option maxRecDepth 20000 in
theorem vi {l:List Nat} {n:Nat} {K:Int→Int→World→Prop} (h:Hp E w F) (hl:l.length=258) (h15: ∀x∈l,x≤15) (hn:n≤15) (hK: ∀w',Hp E w' F→K (Srt.fst l n:Int) (many l n:Int) w'):
  Cl Tryz.prog [kI,kI] eQ ⟨[.agg (ai .u8 l),.int .i64 (n:Int)]⟩ w K:=by
 refine tQ.ok _ _ _ _ ?_
 refine Nw.mk h fun b w1 h1=>Ld.arr h1 (by rw [aM,hl]) (FB h1.drop hl h15 fun w2 h2=> ?_)
 rw [tE]
 refine Nw.mk h2 fun b2 w3 h3=>af.aC h3 (by rw [cV];rfl) (Jk fun j=>(l.count j:Int)) fun w4 h4=> ?_
 have h4:Hp E w4 (aj b2 (.cells (cX 16 fun j=>(l.count j:Int)) 233 (0,0))::F):=h4
 refine aI.wr h4 (by decide) (by decide) cV rfl fun w5 h5=> ?_
 rw [show (0:Int).toNat=0 from rfl,pD,fB (g:=fun j=>(many l j:Int)) (fun i _=>by unfold many;by_cases e:i=0<;>simp [e])] at h5
 refine ⟨fun c m w'=> ∃k:Nat,m=(k:Int)+1∧k≤n∧c=(Srt.fst l k:Int)∧Hp E w' (aj b2 (.cells (cX 16 fun j=>(many l j:Int)) 233 (0,0))::F),fun _ m _=>18 - m.toNat,⟨0,rfl,by omega,rfl,h5⟩,?_⟩
 rintro c m w' ⟨k,rfl,hk,rfl,hh⟩
 refine aa.mk (fun hlt=> ?_) (fun hge=> ?_)
 ·have hlt:k<n:=by have:=of_decide_eq_true hlt;omega
  rw [ag (x:=(k:Int)+1 - 1) (by omega),show (k:Int)+1 - 1=(k:Int) by omega]
  refine aI.rd (s:= .int .i64) hh (by omega) (by omega) (many l k:Int) (by rw [Int.toNat_natCast];exact se (by omega)) ?_
  have h1:=tk (l:=l) (by omega) k
  have h2:=uB (l:=l) (by omega) k
  have h3:(2:Nat)^k≤2^15:=Nat.pow_le_pow_right (by decide) (by omega)
  have h4:(2:Nat)^15=32768:=by decide
  rw [ag (x:=(Srt.fst l k:Int)+(many l k:Int)) (by omega),ag (x:=(k:Int)+1+1) (by omega)]
  have e:=dJ (k:= .i64) (a:=Srt.fst l k+many l k) (b:=1) (by decide) (by have:IntKind.max .i64=9223372036854775807:=rfl;omega)
  have e2:a8 .i64 ((Srt.fst l k:Int)+(many l k:Int)) 1=(Srt.fst l (k+1):Int):=by
   rw [show (Srt.fst l k:Int)+(many l k:Int)=((Srt.fst l k+many l k:Nat):Int) by omega,show (1:Int)=((1:Nat):Int) from rfl,e,Srt.fst]
   omega
  rw [e2]
  exact ⟨by decide,⟨k+1,by omega,by omega,rfl,hh⟩,by dsimp only;omega⟩
 ·have hge:k=n:=by have:=of_decide_eq_false hge;omega
  subst hge
  refine ao.mk hh fun w6 h6=>aI.rd (s:= .int .i64) h6 (by omega) (by omega) (many l k:Int) (by rw [Int.toNat_natCast];exact se (by omega)) (hK _ h6.drop)
set_option maxRecDepth 20000 in
theorem Jr {l:List Nat} {n p:Nat} {K:Int→World→Prop} (h:Hp E w F) (hl:l.length=258) (h15: ∀x∈l,x≤15) (hp:p<l.count n) (hK: ∀w',Hp E w' F→K (sF l n p:Int) w'):
  Cl Tryz.prog [kI] gK ⟨[.agg (ai .u8 l),.int .i64 (n:Int),.int .i64 (p:Int)]⟩ w K:=by
 refine xj.ok _ _ _ _ _ ?_
 have hs:=xq hp
 refine Nw.mk h fun b w1 h1=>Ld.arr h1 (by rw [aM,hl]) ?_
 have hcl:l.count n≤258:=Nat.le_trans List.count_le_length (by omega)
 refine ⟨fun q i w'=> ∃k:Nat,i=(k:Int)∧k≤258∧(l.take k).count n≤p∧q=(p:Int) - ((l.take k).count n:Int)∧Hp E w' F,fun _ i _=>258 - i.toNat,⟨0,rfl,by omega,by simp,by simp,h1.drop⟩,?_⟩
 rintro q i w' ⟨k,rfl,hk,hc,rfl,hh⟩
 refine aa.mk (fun hlt=> ?_) (fun hge=> ?_)
 ·have hlt:k<258:=by have:=of_decide_eq_true hlt;omega
  have hkl:k<l.length:=by omega
  have h16:=h15 _ (List.getElem_mem hkl)
  have hsu:=dc hkl n
  refine eH.rd (s:= .int .u8) (by omega) (by omega) (l[k]:Int) (by rw [Int.toNat_natCast];exact fH hkl) ?_
  rw [ag (x:=(l[k]:Int)) (by omega),ag (x:=(k:Int)+1) (by omega)]
  refine aa.mk (fun hne=> ?_) (fun he=>aa.mk (fun hz=> ?_) (fun hz=> ?_))
  ·have hne:l[k]≠n:=by rw [bne_iff_ne] at hne;omega
   rw [if_neg hne] at hsu
   exact ⟨⟨k+1,rfl,by omega,by omega,by omega,hh⟩,by dsimp only;omega⟩
  ·have he:l[k]=n:=by have:=bne_eq_false_iff_eq.1 he;omega
   have hz:(l.take k).count n=p:=by rw [beq_iff_eq] at hz;omega
   have:k=sF l n p:=by
    refine yx hkl hs.1 (by rw [hs.2.1,bT hkl,he]) ?_
    rw [hs.2.2];unfold gA;rw [bT hkl,he,hz]
   rw [this];exact hK _ hh
  ·have he:l[k]=n:=by have:=bne_eq_false_iff_eq.1 he;omega
   have hz:(l.take k).count n≠p:=by have:=beq_eq_false_iff_ne.1 hz;omega
   rw [if_pos he] at hsu
   rw [ag (by omega)]
   exact ⟨⟨k+1,rfl,by omega,by omega,by omega,hh⟩,by dsimp only;omega⟩
 ·have hge:k=258:=by have:=of_decide_eq_false hge;omega
  subst hge
  rw [←hl,List.take_length] at hc
  omega
def cW (l:List Nat) (c b:Nat):Array Value:=⟨(l.map fun (n:Nat)=>Value.int .u8 (n:Int))++ [.int .i64 (c:Int),.int .i64 (b:Int)]⟩
theorem bN {l:List Nat} {c b:Nat} (hl:l.length=258):(cW l c b).size=260:=by simp [cW,hl]
theorem cU {l:List Nat} {c b:Nat}: ∀v∈(cW l c b).toList,ay v=true:=by
 intro v hv
 unfold cW at hv
 simp only [List.mem_append,List.mem_map,List.mem_cons,List.not_mem_nil,or_false] at hv
 rcases hv with ⟨n,_,rfl⟩|rfl|rfl<;>rfl
theorem eu (l:List Nat) (c b:Nat):cW l c b=⟨[]++(l.map fun (n:Nat)=>Value.int .u8 (n:Int))++ [.int .i64 (c:Int),.int .i64 (b:Int)]⟩:=rfl
theorem re {l:List Nat} {c b:Nat} (hl:l.length=258):(cW l c b)[258]? =some (Sc.enc (.int .i64) (c:Int)):=by
 unfold cW;rw [List.getElem?_toArray,List.getElem?_append_right (by simp [hl])];simp [hl]
theorem pE {l:List Nat} {c b:Nat} (hl:l.length=258):(cW l c b)[259]? =some (Sc.enc (.int .i64) (b:Int)):=by
 unfold cW;rw [List.getElem?_toArray,List.getElem?_append_right (by simp [hl])];simp [hl]
theorem xz:(⟨List.replicate 258 (.int .u8 0)++ [.int .i64 0,.int .i64 0]⟩:Array Value)=cW (List.replicate 258 0) 0 0:=by unfold cW;rw [List.map_replicate];rfl
theorem sv (ps:List (Nat×Value)):Tryz.prog.built 145 ps=Instr.fill (#[(0,258),(258,1),(259,1)][·]?) ⟨List.replicate 258 (.int .u8 0)++ [.int .i64 0,.int .i64 0]⟩ ps:=by kernel_rfl
theorem zp {l:List Nat} (hl:l.length=258) (rest:List (Nat×Value)):Instr.fill (#[(0,258),(258,1),(259,1)][·]?) ⟨List.replicate 258 (.int .u8 0)++ [.int .i64 0,.int .i64 0]⟩ ((0,.agg (ai .u8 l))::rest)
  =Instr.fill (#[(0,258),(258,1),(259,1)][·]?) (cW l 0 0) rest:=by
 have:=gj (place:=(#[(0,258),(258,1),(259,1)][·]?)) (i:=0) (v:= .agg (ai .u8 l)) (rest:=rest) (pre:= []) (mid:=List.replicate 258 (.int .u8 0)) (post:= [.int .i64 0,.int .i64 0]) rfl rfl List.length_replicate (by show (ai .u8 l).size=_;rw [aM,hl])
 exact this
theorem IY {l:List Nat} {c c0 b:Nat} (hl:l.length=258) (rest:List (Nat×Value)):Instr.fill (#[(0,258),(258,1),(259,1)][·]?) (cW l c0 b) ((1,.int .i64 (c:Int))::rest)=Instr.fill (#[(0,258),(258,1),(259,1)][·]?) (cW l c b) rest:=by
 have:=gj (place:=(#[(0,258),(258,1),(259,1)][·]?)) (i:=1) (v:= .int .i64 (c:Int)) (rest:=rest) (pre:=l.map fun (n:Nat)=>Value.int .u8 (n:Int)) (mid:= [.int .i64 (c0:Int)]) (post:= [.int .i64 (b:Int)]) rfl (by simp [hl]) rfl rfl
 unfold cW
 rw [show (l.map fun (n:Nat)=>Value.int .u8 (n:Int))++ [.int .i64 (c0:Int),.int .i64 (b:Int)]=(l.map fun (n:Nat)=>Value.int .u8 (n:Int))++ [.int .i64 (c0:Int)]++ [.int .i64 (b:Int)] by simp,this]
 congr 2
 simp [Value.cells]
theorem Jb {l:List Nat} {c b0 b:Nat} (hl:l.length=258) (rest:List (Nat×Value)):Instr.fill (#[(0,258),(258,1),(259,1)][·]?) (cW l c b0) ((2,.int .i64 (b:Int))::rest)=Instr.fill (#[(0,258),(258,1),(259,1)][·]?) (cW l c b) rest:=by
 have:=gj (place:=(#[(0,258),(258,1),(259,1)][·]?)) (i:=2) (v:= .int .i64 (b:Int)) (rest:=rest) (pre:=(l.map fun (n:Nat)=>Value.int .u8 (n:Int))++ [.int .i64 (c:Int)]) (mid:= [.int .i64 (b0:Int)]) (post:= []) rfl (by simp [hl]) rfl rfl
 unfold cW
 rw [show (l.map fun (n:Nat)=>Value.int .u8 (n:Int))++ [.int .i64 (c:Int),.int .i64 (b0:Int)]=(l.map fun (n:Nat)=>Value.int .u8 (n:Int))++ [.int .i64 (c:Int)]++ [.int .i64 (b0:Int)]++ [] by simp,this]
 congr 2
 simp [Value.cells]
theorem cO.IS {l:List Nat} {K:Array Value→Prop} (hl:l.length=258) (hK:K (cW l 0 0)):cO Tryz.prog 145 [(0,.agg (ai .u8 l))] K:=⟨cW l 0 0,by rw [sv,zp hl];rfl,hK⟩
theorem cO.Li {l:List Nat} {c b:Nat} {K:Array Value→Prop} (hl:l.length=258) (hK:K (cW l c b)):cO Tryz.prog 145 [(0,.agg (ai .u8 l)),(1,.int .i64 (c:Int)),(2,.int .i64 (b:Int))] K:=
 ⟨cW l c b,by rw [sv,zp hl,IY hl,Jb hl];rfl,hK⟩
theorem cO.La {K:Array Value→Prop} (hK:K (cW (List.replicate 258 0) 0 0)):cO Tryz.prog 145 [] K:=⟨_,sv [],by rw [xz];exact hK⟩
theorem Kh {l:List Nat} {K:Array Value→Int→World→Prop} (h:Hp E w F) (hl:l.length=258) (hK1:cn l=false→∀w',Hp E w' F→K (cW (List.replicate 258 0) 0 0) 2 w') (hK2:cn l=true→∀w',Hp E w' F→K (cW l 0 0) 0 w'):
  Cl Tryz.prog [.arr 260,kI] jh ⟨[.agg (ai .u8 l)]⟩ w K:=by
 refine wP.ok _ _ _ ?_
 rw [xz]
 have hz:(cW (List.replicate 258 0) 0 0).size=260:=bN List.length_replicate
 refine Nw.mk h fun b w1 h1=>Nw.mk h1 fun b2 w2 h2=>Ld.arr h2.p1 (by rw [aM,hl]) (qO h2 hl fun w3 h3=>aa.mk (fun hv=> ?_) (fun hv=> ?_))
 ·exact cO.La (aw.aC h3 hz hz cU fun w4 h4=>Ld.arr h4 hz (hK1 (by simpa using hv) _ h4.drop.drop))
 ·exact Ld.arr h3.p1 (by rw [aM,hl]) (cO.IS hl (aw.aC h3 hz (bN hl) cU fun w4 h4=>Ld.arr h4 (bN hl) (hK2 (by simpa using hv) _ h4.drop.drop)))
theorem JP {l:List Nat} (h:cn l=true): ∀x∈l,x≤15:=fun x hx=>by
 obtain ⟨i,hi,rfl⟩:=List.getElem_of_mem hx
 have:=gb (l:=l) (by rw [(lW.1 h).1];decide) i
 rwa [bT hi] at this
theorem EY {l:List Nat} {c b:Nat} {K:Bool→World→Prop} (h:Hp E w F) (hl:l.length=258) (hb:b<15) (hc:c<2^b) (hK: ∀w',Hp E w' F→K (cn l&&decide (Srt.fst l b+many l b≤c)) w'):
  Cl Tryz.prog [kB] ie ⟨[.agg (cW l c b)]⟩ w K:=by
 refine sU.ok _ _ _ ?_
 simp only [ax,aq,Nat.zero_add]
 refine Nw.mk h fun b3 w1 h1=> ?_
 rw [eu] at h1
 have hml:(l.map fun (n:Nat)=>Value.int .u8 (n:Int)).length=258:=by simp [hl]
 refine Ld.sub h1 rfl hml (qO h1 hl fun w2 h2=>aa.mk (fun hv=> ?_) (fun hv=> ?_))
 ·have hv:cn l=false:=by simpa using hv
  rw [hv,Bool.false_and] at hK
  exact hK _ h2.drop
 have hv:cn l=true:=by simpa using hv
 rw [hv,Bool.true_and] at hK
 rw [←eu] at h2
 have hp:(2:Nat)^b≤2^15:=Nat.pow_le_pow_right (by decide) (by omega)
 have hp2:(2:Nat)^15=32768:=by decide
 refine Ld.aC (s:= .int .i64) h2 (b:Int) (pE hl) (aa.f (decide_eq_false (by omega)) ?_)
 refine Ld.aC (s:= .int .i64) h2 (b:Int) (pE hl) (aa.f (decide_eq_false (by omega)) ?_)
 refine Ld.aC (s:= .int .i64) h2 (c:Int) (re hl) (aa.f (decide_eq_false (by omega)) ?_)
 refine Ld.aC (s:= .int .i64) h2 (c:Int) (re hl) (Ld.aC (s:= .int .i64) h2 (b:Int) (pE hl) ⟨by omega,?_⟩)
 rw [bG (by have:IntKind.bits .i64=64:=rfl;omega),Nat.div_eq_of_lt hc]
 refine aa.f (by decide) ?_
 rw [eu] at h2
 refine Ld.sub h2 rfl hml ?_
 rw [←eu] at h2
 refine Ld.aC (s:= .int .i64) h2 (b:Int) (pE hl) (vi h2 hl (JP hv) (by omega) fun w3 h3=>Ld.aC (s:= .int .i64) h3 (c:Int) (re hl) ?_)
 have h1:=tk (l:=l) (by omega) b
 have h2:=uB (l:=l) (by omega) b
 rw [ag (by omega)]
 have e:decide ((c:Int)≥(Srt.fst l b:Int)+(many l b:Int))=decide (Srt.fst l b+many l b≤c):=by rw [Bool.eq_iff_iff,decide_eq_true_eq,decide_eq_true_eq];omega
 rw [e]
 exact hK _ h3.drop
theorem EF {c x:Nat} (hx:x≤1) (hc:c<16384):jP .i64 (a8 .i64 (c:Int) 1) (x:Int)=((2*c+x:Nat):Int):=by
 have hm:IntKind.max .i64=9223372036854775807:=rfl
 have e:=dJ (k:= .i64) (a:=c) (b:=1) (by decide) (by omega)
 have h2:c*2^1|||x=2*c+x:=by
  have:=Nat.two_pow_add_eq_or_of_lt (i:=1) (b:=x) (by omega) c
  rw [Nat.mul_comm c,←this,Nat.mul_comm]
 rw [show (1:Int)=((1:Nat):Int) from rfl,e,ou (by omega) (by omega) (by rw [h2];omega),h2]
theorem Eo {l:List Nat} {c b x:Nat} {K:Array Value→Int→Bool→World→Prop} (h:Hp E w F) (hl:l.length=258) (hs:oE l c b) (hx:x≤1)
  (hK: ∀w',Hp E w' F→K (cW l (dV l c b x).1.1 (dV l c b x).1.2) (((dV l c b x).2.getD 0:Nat):Int) (dV l c b x).2.isSome w'):
  Cl Tryz.prog [.arr 260,kI,kB] fk ⟨[.agg (cW l c b),.int .i64 (x:Int)]⟩ w K:=by
 refine uf.ok _ _ _ _ ?_
 simp only [ax,aq,Nat.zero_add]
 rw [xz]
 have hz:(cW (List.replicate 258 0) 0 0).size=260:=bN List.length_replicate
 have hml:(l.map fun (n:Nat)=>Value.int .u8 (n:Int)).length=258:=by simp [hl]
 have hp:(2:Nat)^b≤2^14:=Nat.pow_le_pow_right (by decide) (by have:=hs.2.1;omega)
 have hp2:(2:Nat)^14=16384:=by decide
 have hc:=hs.2.2.1
 have hb:=hs.2.1
 have h15:=JP hs.1
 refine Nw.mk h fun b4 w1 h1=>Nw.mk h1 fun b6 w2 h2=> ?_
 have e1:aF .i64 (x:Int) 1=0:=by
  rw [show (1:Int)=((1:Nat):Int) from rfl,bG (by decide)]
  omega
 rw [e1]
 refine ⟨by decide,aa.f (by decide) ?_⟩
 refine Ld.arr h2.p1 (bN hl) (EY h2 hl hb hc fun w3 h3=> ?_)
 refine aa.f (by rw [hs.1,decide_eq_true hs.2.2.2];rfl) ?_
 have h3':=h3.p1
 rw [eu l c b] at h3'
 refine Ld.sub h3' rfl hml (Ld.aC (s:= .int .i64) h3.p1 (c:Int) (re hl) ⟨by decide,Ld.aC (s:= .int .i64) h3.p1 (b:Int) (pE hl) ?_⟩)
 rw [EF hx (by omega),ag (x:=(b:Int)+1) (by omega)]
 refine cO.Li (b:=b+1) hl (aw.aC h3 hz (bN hl) cU fun w4 h4=> ?_)
 have h4':=h4
 rw [eu l (2*c+x) (b+1)] at h4'
 refine Ld.sub h4' rfl hml (Ld.aC (s:= .int .i64) h4 ((b+1:Nat):Int) (pE hl) (vi h4 hl h15 (by omega) fun w5 h5=>Ld.aC (s:= .int .i64) h5 ((2*c+x:Nat):Int) (re hl) ?_))
 have hf:=tk (l:=l) (by omega) (b+1)
 have hm:=uB (l:=l) (by omega) (b+1)
 have hp3:(2:Nat)^(b+1)=2*2^b:=by rw [Nat.pow_succ,Nat.mul_comm]
 rw [ag (by omega)]
 by_cases hcase:Srt.fst l (b+1)+many l (b+1)≤2*c+x
 ·refine aa.t (decide_eq_true (by omega)) (Ld.arr h5 (bN hl) (aw.aC h5 (bN hl) (bN hl) cU fun w6 h6=>Ld.arr h6 (bN hl) ?_))
  have e:dV l c b x=((2*c+x,b+1),none):=by unfold dV;rw [if_pos hcase]
  rw [e] at hK
  exact hK _ h6.drop.drop
 ·refine aa.f (decide_eq_false (by omega)) ?_
  have e:dV l c b x=((0,0),some (sF l (b+1) (2*c+x - Srt.fst l (b+1)))):=by unfold dV;rw [if_neg hcase]
  rw [e] at hK
  have hge:=hs.ge
  have hmn:many l (b+1)=l.count (b+1):=by unfold many;rw [if_neg (by omega)]
  refine ao.mk h5 fun w6 h6=> ?_
  have h6':=h6
  rw [eu l (2*c+x) (b+1)] at h6'
  refine Ld.sub h6' rfl hml (Ld.aC (s:= .int .i64) h6 ((b+1:Nat):Int) (pE hl) (Ld.aC (s:= .int .i64) h6 ((2*c+x:Nat):Int) (re hl) ?_))
  rw [ag (x:=((2*c+x:Nat):Int) - (Srt.fst l (b+1):Int)) (by omega),show ((2*c+x:Nat):Int) - (Srt.fst l (b+1):Int)=((2*c+x - Srt.fst l (b+1):Nat):Int) by omega]
  constructor
  ·have h7':=h6.p1
   rw [eu l c b] at h7'
   refine Ld.sub h7' rfl hml (cO.IS hl (Jr h6 hl h15 (by omega) fun w7 h7=> ?_))
   exact aw.aC h7 (bN hl) (bN hl) cU fun w8 h8=>Ld.arr h8 (bN hl) (hK _ h8.drop.drop)
  ·refine Jr h6 hl h15 (by omega) fun w7 h7=> ?_
   have h7':=h7.p1
   rw [eu l c b] at h7'
   refine Ld.sub h7' rfl hml (cO.IS hl ?_)
   exact aw.aC h7 (bN hl) (bN hl) cU fun w8 h8=>Ld.arr h8 (bN hl) (hK _ h8.drop.drop)
end
end Go.Proofs.YtcdpblipagajiaaGreat
set_option maxRecDepth 20000
namespace Go.aj
open Go.Inc Go.Srt Go.Sym Go.Bits Go.Tab Go.Hd Go.Crc Go.Bw
def bb (b:List Nat):List Nat:=bitsOf b (8*b.length)
theorem kC (b:List Nat):(bb b).length=8*b.length:=CN _ _
theorem Au (a b:List Nat):bb (a++b)=bb a++bb b:=by
 unfold bb bitsOf
 rw [List.length_append,Nat.mul_add,List.range_add,List.map_append]
 congr 1
 ·refine List.map_congr_left fun i hi=> ?_
  rw [List.mem_range] at hi
  unfold fu
  rw [List.getD,List.getD,List.getElem?_append_left (by omega)]
 ·rw [List.map_map]
  refine List.map_congr_left fun i hi=> ?_
  simp only [Function.comp]
  unfold fu
  rw [List.getD,List.getD,List.getElem?_append_right (by omega),show (8*a.length+i)/8 - a.length=i/8 by omega,show (8*a.length+i) % 8=i % 8 by omega]
def o8 (b:List Nat):Nat:=8*((b.length+7)/8) - b.length
theorem Bk (b:List Nat):o8 b<8:=by unfold o8;omega
theorem xK {b:List Nat} (h:Bits b):bb (pack b)=b++List.replicate (o8 b) 0:=by
 unfold bb bitsOf o8
 rw [j8]
 refine List.ext_getElem? fun i=> ?_
 rw [List.getElem?_map]
 by_cases hi:i<8*((b.length+7)/8)
 ·rw [List.getElem?_range hi,Option.map_some]
  unfold pack
  rw [yn h hi]
  by_cases hb:i<b.length
  ·rw [List.getElem?_append_left hb,List.getD,List.getElem?_eq_getElem hb];rfl
  ·rw [List.getElem?_append_right (by omega),List.getElem?_replicate,if_pos (by omega),c8 (by omega)]
 ·rw [List.getElem?_eq_none (by simp;omega),List.getElem?_eq_none (by simp;omega)];rfl
def body (l last:List Nat):List Nat:=eG l++enc l (syms last)
def lg (l x:List Nat):List Nat:=kn x.length (bU x.reverse) (fg x)++pack (body l (aW x.reverse))
def qY (left:List Nat):Bool:=(left.take (left.length % 8)).all (·==0)
def uQ (M:Nat) (bits:List Nat):Except Nat (List Nat×List Nat):=match run (bg cn) t0 bits with
 | .short _=> .error 50
 | .bad e=> .error e
 | .fin l more=>match run (c9 l) ⟨0,0,⟨List.range 256,M,0,0⟩,[]⟩ more with
  | .short _=> .error 50
  | .bad e=> .error e
  | .fin last left=> .ok (last,left)
def my (P sum:Nat) (last:List Nat):Except Nat (List Nat):=
 if okB last P then (if fg (eT last P).reverse=sum then .ok (eT last P).reverse else .error 250) else .error 170
def da (n:Nat) (b:List Nat):Except Nat (List Nat×List Nat):=match run (aB n) dW b with
 | .short _=> .error 50
 | .bad e=> .error e
 | .fin (.tail _) _=> .error 242
 | .fin (.aC M P sum) rest=>match uQ M (bb rest) with
  | .error e=> .error e
  | .ok (last,left)=>if qY left then (match my P sum last with
    | .error e=> .error e
    | .ok x=> .ok (x,rest.drop (rest.length - left.length/8)))
   else .error 160
theorem Ac: ∀k,Bits (nz k)
 |0=>fun x hx=>by cases hx
 |k+1=>fun x hx=>by
  rcases List.mem_cons.1 hx with h|h
  ·omega
  ·rcases List.mem_cons.1 h with h|h
   ·omega
   ·exact Ac k x h
theorem ti: ∀k,Bits (ga k)
 |0=>fun x hx=>by cases hx
 |k+1=>fun x hx=>by
  rcases List.mem_cons.1 hx with h|h
  ·omega
  ·rcases List.mem_cons.1 h with h|h
   ·omega
   ·exact ti k x h
theorem FL (a b:Nat):Bits (cD a b):=by
 unfold cD
 refine Bits.app ?_ (fun x hx=>by rw [List.mem_singleton] at hx;omega)
 split
 ·exact ti _
 ·exact Ac _
theorem vF: ∀(m:List Nat) (was:Nat),Bits (cZ was m)
 | [],_=>fun x hx=>by cases hx
 |n::m,was=>Bits.app (FL was n) (vF m n)
theorem vH (l:List Nat):Bits (eG l):=Bits.app (fun x hx=>by simp [four] at hx;omega) (vF _ _)
theorem wv (l last:List Nat):Bits (body l last):=Bits.app (vH l) (FX _ _)
section
variable {l:List Nat}
structure nK (l last:List Nat):Prop where
 len:l.length=258
 ok:cn l=true
 good: ∀s∈syms last,jF l s
theorem nK.v {last:List Nat} (h:nK l last):aV l≤32768:=by rw [(lW.1 h.ok).1];decide
theorem xW (h:cn l=true): ∀x∈l,x≤15:=fun x hx=>by
 obtain ⟨i,hi,rfl⟩:=List.mem_iff_getElem.1 hx
 have:=gb (l:=l) (by rw [(lW.1 h).1];decide) i
 rwa [bT hi] at this
theorem H0 {last:List Nat} (hL:nK l last) (hb: ∀x∈last,x<256) (r:List Nat):run (c9 l) ⟨0,0,⟨List.range 256,last.length,0,0⟩,[]⟩ (enc l (syms last)++r)= .fin last r:=by
 rw [EC hL.len hL.v _ _ _ _ hL.good]
 have:=ES hb []
 rw [List.append_nil] at this
 rw [this]
 simp [enc]
theorem D4 {last:List Nat} (hL:nK l last) (hb: ∀x∈last,x<256) (r:List Nat):uQ last.length (body l last++r)= .ok (last,r):=by
 unfold uQ body
 rw [List.append_assoc,Et _ hL.len (xW hL.ok) hL.ok]
 simp only
 rw [H0 hL hb]
theorem Af {n M P sum:Nat} (h0:0<M) (h1:M≤n) (h2:0<P) (h3:P≤M) (h4:sum<4294967296) (rest:List Nat):
  da n (kn M P sum++rest)=match uQ M (bb rest) with
  | .error e=> .error e
  | .ok (last,left)=>if qY left then (match my P sum last with
    | .error e=> .error e
    | .ok x=> .ok (x,rest.drop (rest.length - left.length/8)))
   else .error 160:=by
 unfold da
 rw [vK h0 h1 h2 h3 h4]
theorem Ec (b:List Nat) (z:List Nat):qY (List.replicate (o8 b) 0++bb z)=true:=by
 unfold qY
 have:=Bk b
 rw [List.length_append,List.length_replicate,kC,show (o8 b+8*z.length) % 8=o8 b by omega,List.take_append_of_le_length (by simp),List.take_of_length_le (by simp)]
 simp
theorem A3 {n P sum:Nat} {last:List Nat} (hL:nK l last) (hb: ∀x∈last,x<256) (h0:0<last.length) (h1:last.length≤n) (h2:0<P) (h3:P≤last.length) (h4:sum<4294967296) (z:List Nat):
  da n (kn last.length P sum++pack (body l last)++z)=match my P sum last with
    | .error e=> .error e
    | .ok x=> .ok (x,z):=by
 rw [List.append_assoc,Af h0 h1 h2 h3 h4,Au,xK (wv _ _),List.append_assoc,D4 hL hb]
 simp only
 rw [if_pos (Ec _ z)]
 have:=Bk (body l last)
 have e:(pack (body l last)++z).drop ((pack (body l last)++z).length - (List.replicate (o8 (body l last)) 0++bb z).length/8)=z:=by
  rw [List.length_append,List.length_append,List.length_replicate,kC,show (o8 (body l last)+8*z.length)/8=z.length by omega,Nat.add_sub_cancel,List.drop_left]
 rw [e]
theorem oD {t:List Nat} (h:0<t.length):0<bU t∧bU t≤t.length:=by
 refine ⟨?_,uP t⟩
 rcases Nat.eq_zero_or_pos (bU t) with e|e
 ·have:=oq (t:=t) (i:=0) (k:=t.length) (by omega) (by omega) (by rw [Bn];exact e)
  omega
 ·exact e
theorem A9 (x:List Nat):my (bU x.reverse) (fg x) (aW x.reverse)= .ok x:=by
 obtain ⟨h1,h2⟩:=Dx x.reverse
 unfold my
 rw [if_pos h1,h2,List.reverse_reverse,if_pos rfl]
theorem C0 {n:Nat} {x:List Nat} (hL:nK l (aW x.reverse)) (hb: ∀y∈aW x.reverse,y<256) (hx: ∀y∈x,y<256) (h0:0<x.length) (h1:x.length≤n) (z:List Nat):da n (lg l x++z)= .ok (x,z):=by
 have hl:(aW x.reverse).length=x.length:=by rw [cY,List.length_reverse]
 have hi:=oD (t:=x.reverse) (by rw [List.length_reverse];exact h0)
 rw [List.length_reverse] at hi
 have:=A3 (n:=n) (P:=bU x.reverse) (sum:=fg x) hL hb (by omega) (by omega) hi.1 (by omega) (p5 hx) z
 rw [hl,A9] at this
 exact this
end
end Go.aj
set_option maxRecDepth 20000
namespace Go.Stm
open Go.Inc Go.Srt Go.Sym Go.Bits Go.Tab Go.Hd Go.Crc Go.Bw Go.aj
def ll (n:Nat) (x:List Nat):List (List Nat):=if _h:x= []∨n=0 then [] else x.take n::ll n (x.drop n)
termination_by x.length
decreasing_by
 have h1:x≠ []:=fun e=>_h (.inl e)
 have h2:n≠0:=fun e=>_h (.inr e)
 have:=List.length_pos_iff.2 h1
 rw [List.length_drop];omega
def aY (n:Nat) (parts:List (List Nat)):List (List Nat):=parts.flatMap (ll n)
theorem gE (n:Nat):ll n []= []:=by rw [ll];simp
theorem gu {n:Nat} {x:List Nat} (h:x≠ []) (hn:0<n):ll n x=x.take n::ll n (x.drop n):=by
 rw [ll,dif_neg (by intro e;rcases e with e|e;exact h e;omega)]
theorem Eg {n:Nat} (hn:0<n) (x:List Nat):(ll n x).flatten=x:=by
 induction hk:x.length using Nat.strongRecOn generalizing x with
 |ind k ih=>
  by_cases h:x= []
  ·rw [h,gE];rfl
  ·have:=List.length_pos_iff.2 h
   rw [gu h hn,List.flatten_cons,ih (x.drop n).length (by rw [List.length_drop];omega) (x.drop n) rfl,List.take_append_drop]
theorem FD {n:Nat} (hn:0<n) (x:List Nat): ∀y∈ll n x,0<y.length∧y.length≤n∧∀c∈y,c∈x:=by
 induction hk:x.length using Nat.strongRecOn generalizing x with
 |ind k ih=>
  by_cases h:x= []
  ·rw [h,gE];intro y hy;cases hy
  ·have:=List.length_pos_iff.2 h
   rw [gu h hn]
   intro y hy
   rcases List.mem_cons.1 hy with h|h
   ·subst h
    exact ⟨by rw [List.length_take];omega,by rw [List.length_take];omega,fun c hc=>List.mem_of_mem_take hc⟩
   ·obtain ⟨h1,h2,h3⟩:=ih (x.drop n).length (by rw [List.length_drop];omega) (x.drop n) rfl y h
    exact ⟨h1,h2,fun c hc=>List.mem_of_mem_drop (h3 c hc)⟩
theorem ng {n:Nat} (hn:0<n) (parts:List (List Nat)):(aY n parts).flatten=parts.flatten:=by
 induction parts with
 |nil=>rfl
 |cons x l ih=>rw [aY,List.flatMap_cons,List.flatten_append,Eg hn,List.flatten_cons];exact congrArg _ ih
theorem yd {n:Nat} (hn:0<n) {parts:List (List Nat)}: ∀y∈aY n parts,0<y.length∧y.length≤n∧∀c∈y,c∈parts.flatten:=by
 intro y hy
 obtain ⟨x,hx,hy⟩:=List.mem_flatMap.1 hy
 obtain ⟨h1,h2,h3⟩:=FD hn x y hy
 exact ⟨h1,h2,fun c hc=>List.mem_flatten.2 ⟨x,hx,h3 c hc⟩⟩
section
variable (L:List Nat→List Nat)
def oO (x:List Nat):List Nat:=lg (L x) x
def blocks (l:List (List Nat)):List Nat:=l.flatMap (oO L)
def iP (n:Nat) (parts:List (List Nat)):List Nat:=fp n++(blocks L (aY n parts)++lb (fg parts.flatten))
def c7:Prop:= ∀x:List Nat,0<x.length→(∀c∈x,c<256)→nK (L x) (aW x.reverse)
end
def pf (n:Nat):Nat→List Nat→List (List Nat)→List (List Nat)×Nat
 |0,_,acc=>(acc,50)
 |k+1,b,acc=>match run (aB n) dW b with
  | .short _=>(acc,50)
  | .bad e=>(acc,e)
  | .fin (.tail s) rest=>(acc,if s≠fg acc.flatten then 260 else if rest≠ [] then 261 else 0)
  | .fin (.aC _ _ _) _=>match da n b with
   | .error e=>(acc,e)
   | .ok (x,behind)=>pf n k behind (acc++ [x])
def dD (c:List Nat):List (List Nat)×Nat:=match run bE ⟨0,0⟩ c with
 | .short _=>([],50)
 | .bad e=>([],e)
 | .fin n rest=>pf n (rest.length+1) rest []
theorem Ed {n:Nat} {b rest:List Nat} {m:Mk} (h:run (aB n) dW b= .fin m rest):rest.length<b.length:=by
 obtain ⟨a,c,s',e,_,_⟩:=wu h
 rw [e];simp;omega
theorem ky {n:Nat} {b x rest:List Nat} (h:da n b= .ok (x,rest)):rest.length<b.length:=by
 unfold da at h
 cases hr:run (aB n) dW b with
 |short s=>rw [hr] at h;cases h
 |bad e=>rw [hr] at h;cases h
 |fin m r=>
  have hm:=Ed hr
  rw [hr] at h
  cases m with
  |tail s=>cases h
  |aC M P s=>
   simp only at h
   cases hc:uQ M (bb r) with
   |error e=>rw [hc] at h;cases h
   |ok p=>
    rw [hc] at h
    simp only at h
    split at h
    ·cases ht:my P s p.1 with
     |error e=>rw [ht] at h;cases h
     |ok y=>
      rw [ht] at h
      simp only at h
      injection h with h
      injection h with h1 h2
      rw [←h2,List.length_drop]
      omega
    ·cases h
theorem vY (n:Nat): ∀(k m:Nat) (b:List Nat) (acc:List (List Nat)),b.length<k→b.length<m→pf n k b acc=pf n m b acc
 |0,_,_,_,h,_=>by omega
 |_,0,_,_,_,h=>by omega
 |k+1,m+1,b,acc,h1,h2=>by
  unfold pf
  cases run (aB n) dW b with
  |short s=>rfl
  |bad e=>rfl
  |fin mk r=>
   cases mk with
   |tail s=>rfl
   |aC M P s=>
    simp only
    cases hu:da n b with
    |error e=>rfl
    |ok p=>
     have:=ky hu
     exact vY n k m p.2 _ (by omega) (by omega)
def fW (n:Nat) (b:List Nat) (acc:List (List Nat)):List (List Nat)×Nat:=pf n (b.length+1) b acc
theorem mf (n:Nat) (b:List Nat) (acc:List (List Nat)):fW n b acc=match run (aB n) dW b with
  | .short _=>(acc,50)
  | .bad e=>(acc,e)
  | .fin (.tail s) rest=>(acc,if s≠fg acc.flatten then 260 else if rest≠ [] then 261 else 0)
  | .fin (.aC _ _ _) _=>match da n b with
   | .error e=>(acc,e)
   | .ok (x,behind)=>fW n behind (acc++ [x]):=by
 unfold fW
 rw [pf]
 cases run (aB n) dW b with
 |short s=>rfl
 |bad e=>rfl
 |fin mk r=>
  cases mk with
  |tail s=>rfl
  |aC M P s=>
   simp only
   cases hu:da n b with
   |error e=>rfl
   |ok p=>
    have:=ky hu
    exact vY n _ _ p.2 _ (by omega) (by omega)
theorem po (c:List Nat):dD c=match run bE ⟨0,0⟩ c with
 | .short _=>([],50)
 | .bad e=>([],e)
 | .fin n rest=>fW n rest []:=rfl
section
variable {L:List Nat→List Nat} {n:Nat}
theorem EA (hL:c7 L) {x:List Nat} (h0:0<x.length) (h1:x.length≤n) (hx: ∀c∈x,c<256) (hp: ∀y∈aW x.reverse,y<256) (r:List Nat) (acc:List (List Nat)):fW n (oO L x++r) acc=fW n r (acc++ [x]):=by
 have hi:=oD (t:=x.reverse) (by rw [List.length_reverse];exact h0)
 rw [List.length_reverse] at hi
 rw [mf]
 have hm:run (aB n) dW (oO L x++r)= .fin (.aC x.length (bU x.reverse) (fg x)) (pack (body (L x) (aW x.reverse))++r):=by
  unfold oO lg
  rw [List.append_assoc,vK h0 h1 hi.1 hi.2 (p5 hx)]
 rw [hm]
 simp only
 have:=C0 (n:=n) (hL x h0 hx) hp hx h0 h1 r
 unfold oO
 rw [this]
theorem qp (hL:c7 L) (hP: ∀x:List Nat,(∀c∈x,c<256)→∀y∈aW x.reverse,y<256): ∀(l:List (List Nat)) (r:List Nat) (acc:List (List Nat)),(∀x∈l,0<x.length∧x.length≤n∧∀c∈x,c<256)→
  fW n (blocks L l++r) acc=fW n r (acc++l)
 | [],r,acc,_=>by simp [blocks]
 |x::l,r,acc,h=>by
  obtain ⟨h0,h1,h2⟩:=h x List.mem_cons_self
  rw [blocks,List.flatMap_cons,List.append_assoc,EA hL h0 h1 h2 (hP x h2)]
  have:=qp hL hP l r (acc++ [x]) fun y hy=>h y (List.mem_cons_of_mem _ hy)
  unfold blocks at this
  rw [this,List.append_assoc];rfl
theorem EG {s:Nat} (hs:s<4294967296) (r:List Nat) (acc:List (List Nat)):fW n (lb s++r) acc=(acc,if s≠fg acc.flatten then 260 else if r≠ [] then 261 else 0):=by
 rw [mf,Dt hs]
theorem Hb {x:List Nat} (hx: ∀c∈x,c<256): ∀y∈aW x.reverse,y<256:=qR fun y hy=>hx y (List.mem_reverse.1 hy)
theorem fP (hn:0<n) {parts:List (List Nat)} (hb: ∀c∈parts.flatten,c<256): ∀x∈aY n parts,0<x.length∧x.length≤n∧∀c∈x,c<256:=fun x hx=>by
 obtain ⟨h1,h2,h3⟩:=yd hn x hx
 exact ⟨h1,h2,fun c hc=>hb c (h3 c hc)⟩
theorem vX (hL:c7 L) (hn:0<n) (hn2:n≤65536) {l:List (List Nat)} (hl: ∀x∈l,0<x.length∧x.length≤n∧∀c∈x,c<256) (r:List Nat):dD (fp n++(blocks L l++r))=fW n r l:=by
 rw [po,Jw hn hn2]
 simp only
 rw [qp hL (fun x hx=>Hb hx) l r [] hl]
 rfl
theorem Dh (hL:c7 L) (hn:0<n) (hn2:n≤65536) {parts:List (List Nat)} (hb: ∀c∈parts.flatten,c<256) (r:List Nat):dD (iP L n parts++r)=(aY n parts,if r≠ [] then 261 else 0):=by
 unfold iP
 rw [List.append_assoc,List.append_assoc,vX hL hn hn2 (fP hn hb),EG (p5 hb),ng hn]
 simp
end
end Go.Stm
set_option maxRecDepth 20000
namespace Go.Vc
open Go
class bC (b:Nat) (l:List HP) (c:outParam (Array Value)) (t:outParam TypeId) (fr:outParam (Nat×Nat)) (put:outParam (Obj→List HP)):Prop where
 perm: ∃r,l.Perm (aj b (.cells c t fr)::r)∧∀o,(aj b o::r).Perm (put o)
instance bC.head {b:Nat} {l:List HP} {c:Array Value} {t:TypeId} {fr:Nat×Nat}:bC b (aj b (.cells c t fr)::l) c t fr (fun o=>aj b o::l):=
 ⟨l,.refl _,fun _=> .refl _⟩
instance bC.tail {b:Nat} {A:HP} {l:List HP} {c:Array Value} {t:TypeId} {fr:Nat×Nat} {put:Obj→List HP} [h:bC b l c t fr put]:bC b (A::l) c t fr (fun o=>A::put o):=
 ⟨by
  obtain ⟨r,h1,h2⟩:=h.perm
  exact ⟨A::r,(h1.cons A).trans (.swap ..),fun o=>(List.Perm.swap ..).trans ((h2 o).cons A)⟩⟩
class vL (n:Nat) (l:List HP) (A:outParam HP) (r:outParam (List HP)):Prop where
 perm:l.Perm (A::r)
instance vL.zero {A:HP} {l:List HP}:vL 0 (A::l) A l:=⟨.refl _⟩
instance vL.succ {n:Nat} {A B:HP} {l r:List HP} [h:vL n l A r]:vL (n+1) (B::l) A (B::r):=⟨(h.perm.cons B).trans (.swap ..)⟩
section
variable {E w:World} {l:List HP} {b i:Nat} {c:Array Value} {t:TypeId} {fr:Nat×Nat} {put:Obj→List HP}
theorem Hp.at {A:HP} {r:List HP} (h:Hp E w l) (n:Nat) [hn:vL n l A r]:Hp E w (A::r):=h.perm hn.perm
theorem Hp.no {A:HP} {r:List HP} (h:Hp E w l) (n:Nat) [hn:vL n l A r]:Hp E w r:=(h.perm hn.perm).drop
theorem ab.at {A:HP} {r:List HP} {φ:World→Prop} (n:Nat) [hn:vL n l A r] (ht:ab (A::r) φ):ab l φ:=ht.perm hn.perm.symm
theorem Hp.fb [hf:bC b l c t fr put] (h:Hp E w l):w.heap[b]? =some (.cells c t fr):=by
 obtain ⟨r,h1,_⟩:=hf.perm
 exact (h.perm h1).aC
theorem Hp.fc [bC b l c t fr put] (h:Hp E w l):w.cell? ⟨b,i,none⟩=c[i]? :=by
 simp [World.cell?,h.fb]
def bF (b:Nat) (c:Array Value) (t:TypeId) (fr:Nat×Nat) (w:World):Prop:=w.heap[b]? =some (.cells c t fr)
theorem Hp.hb [bC b l c t fr put] (h:Hp E w l):bF b c t fr w:=h.fb
theorem bF.cell (h:bF b c t fr w):w.cell? ⟨b,i,none⟩=c[i]? :=by simp [World.cell?,show w.heap[b]? =_ from h]
def Sc.Fo:(s:Sc)→Value→Option s.T
 | .int k,.int k' n=>match k==k' with|true=>some n|false=>none
 | .bool,.bool b=>some b
 | .ptr,.pointer p=>some p
 | .sl,.slice b l c=>some ⟨b,l,c⟩
 | .str,.string s=>some s
 | .mp,.map m=>some m
 | .any,v=>some v
 | .addr,.pointer (some p)=>some p
 |_,_=>none
def sG:(l:List Sc)→List Value→Option (TT l)
 | [],_=>some ()
 |s::l,v::vs=>match s.Fo v,sG l vs with
  |some x,some y=>some (x,y)
  |_,_=>none
 |_::_,[]=>none
theorem Sc.GF {s:Sc} {v:Value} {x:s.T} (h:s.Fo v=some x):v=s.enc x:=by
 cases s<;>cases v<;>simp only [Sc.Fo] at h<;>first|cases h;rfl|cases h|skip
 ·rename_i k k' n
  by_cases e:k=k'
  ·subst e;simp at h;subst h;rfl
  ·have:(k==k')=false:=by simpa using e
   rw [this] at h;cases h
 ·rename_i p
  cases p with
  |none=>cases h
  |some p=>simp only [Option.some.injEq] at h;subst h;rfl
theorem vJ: ∀{l:List Sc} {vs:List Value} {x:TT l},sG l vs=some x→∃r,vs=fC l x++r
 | [],vs,(),_=>⟨vs,rfl⟩
 |s::l,v::vs,(x,y),h=>by
  simp only [sG] at h
  split at h
  ·rename_i x' y' hx hy
   simp only [Option.some.injEq,Prod.mk.injEq] at h
   obtain ⟨rfl,rfl⟩:=h
   obtain ⟨r,e⟩:=vJ hy
   exact ⟨r,by rw [e,Sc.GF hx];rfl⟩
  ·cases h
 |_::_,[],_,h=>by cases h
class kW (l F:List HP):Prop where
 sub: ∃p,l=p++F
instance kW.refl {F:List HP}:kW F F:=⟨[],rfl⟩
instance kW.cons {A:HP} {l F:List HP} [h:kW l F]:kW (A::l) F:=⟨by obtain ⟨p,e⟩:=h.sub;exact ⟨A::p,by rw [e];rfl⟩⟩
theorem Hp.tl {F:List HP} [h2:kW l F] (h:Hp E w l):Hp E w F:=by
 obtain ⟨p,e⟩:=h2.sub
 subst e;exact h.pC
theorem gX {α β:Type} {K:α→β→Prop} {a a':α} {w:β} (e:a=a') (h:K a' w):K a w:=e▸h
theorem aa.yes {b:Bool} {X Y:Prop} (k:X) (h:b=true:=by with_reducible first|rfl|exact decide_eq_true (by omega)|exact beq_iff_eq.2 (by omega)|exact bne_iff_ne.2 (by omega)|exact Bool.not_false|exact Bool.not_eq_true' _▸decide_eq_false (by omega)):aa b X Y:=aa.t h k
theorem aa.no {b:Bool} {X Y:Prop} (k:Y) (h:b=false:=by with_reducible first|rfl|exact decide_eq_false (by omega)|exact beq_eq_false_iff_ne.2 (by omega)|exact bne_eq_false_iff_eq.2 (by omega)|exact Bool.not_true|exact Bool.not_eq_false' _▸decide_eq_true (by omega)):aa b X Y:=aa.f h k
theorem aa.dt {p:Prop} [Decidable p] {X Y:Prop} (hp:p) (h:X):aa (decide p) X Y:=aa.t (decide_eq_true hp) h
theorem aa.df {p:Prop} [Decidable p] {X Y:Prop} (hp: ¬p) (h:Y):aa (decide p) X Y:=aa.f (decide_eq_false hp) h
theorem aa.Hr {p:Prop} [Decidable p] {X Y:Prop} (hp:p) (h:Y):aa (!decide p) X Y:=aa.f (by rw [decide_eq_true hp];rfl) h
theorem aa.G8 {p:Prop} [Decidable p] {X Y:Prop} (hp: ¬p) (h:X):aa (!decide p) X Y:=aa.t (by rw [decide_eq_false hp];rfl) h
theorem aa.EV {X Y:Prop} (h:Y):aa (!true) X Y:=h
theorem aa.Lh {X Y:Prop} (h:X):aa (!false) X Y:=h
theorem aa.et {a b:Int} {X Y:Prop} (hp:a=b) (h:X):aa (a==b) X Y:=aa.t (beq_iff_eq.2 hp) h
theorem aa.ef {a b:Int} {X Y:Prop} (hp: ¬a=b) (h:Y):aa (a==b) X Y:=aa.f (beq_eq_false_iff_ne.2 hp) h
theorem aa.nt {a b:Int} {X Y:Prop} (hp: ¬a=b) (h:X):aa (a !=b) X Y:=aa.t (bne_iff_ne.2 hp) h
theorem aa.nf {a b:Int} {X Y:Prop} (hp:a=b) (h:Y):aa (a !=b) X Y:=aa.f (bne_eq_false_iff_eq.2 hp) h
theorem aa.dm {p:Prop} [Decidable p] {X Y:Prop} (h1:p→X) (h2: ¬p→Y):aa (decide p) X Y:=aa.mk (fun h=>h1 (of_decide_eq_true h)) (fun h=>h2 (of_decide_eq_false h))
theorem aa.em {a b:Int} {X Y:Prop} (h1:a=b→X) (h2: ¬a=b→Y):aa (a==b) X Y:=aa.mk (fun h=>h1 (beq_iff_eq.1 h)) (fun h=>h2 (beq_eq_false_iff_ne.1 h))
theorem aa.nm {a b:Int} {X Y:Prop} (h1: ¬a=b→X) (h2:a=b→Y):aa (a !=b) X Y:=aa.mk (fun h=>h1 (bne_iff_ne.1 h)) (fun h=>h2 (bne_eq_false_iff_eq.1 h))
theorem ad.xb {S:World→Prop} {s:Sc} {K:s.T→Prop} {x:s.T} (hS: ∀w,S w→bF b c t fr w) (hx:c.toList[i]? =some (s.enc x)) (hK:K x):ad (.sc s) ⟨b,i,none⟩ S K:=
 ⟨x,fun w hw=>by rw [(hS w hw).cell];rw [←hx];simp,hK⟩
theorem ad.xt {S:World→Prop} {ks:List Sc} {K:TT ks→Prop} {x:TT ks} (hS: ∀w,S w→bF b c t fr w) (hx:sG ks (c.toList.drop i)=some x) (hK:K x):ad (.st ks) ⟨b,i,none⟩ S K:=by
 obtain ⟨r,e⟩:=vJ hx
 refine yQ x (fun w hw j hj=> ?_) hK
 rw [Nat.zero_add,aq,(hS w hw).cell]
 have h1:(c.toList.drop i)[j]? =(fC ks x)[j]? :=by rw [e,List.getElem?_append_left hj]
 rw [List.getElem?_drop,List.getElem?_eq_getElem hj] at h1
 rw [←h1];simp
theorem ad.xa {S:World→Prop} {n:Nat} {mid post:List Value} {K:Array Value→Prop} (hS: ∀w,S w→bF b c t fr w) (hx:c.toList.drop i=mid++post) (hn:mid.length=n) (hK:K ⟨mid⟩):ad (.arr n) ⟨b,i,none⟩ S K:=by
 refine ⟨⟨mid⟩,hn,fun w hw j hj=> ?_,hK⟩
 rw [aq,(hS w hw).cell]
 have h1:(c.toList.drop i)[j]? =mid[j]? :=by rw [hx,List.getElem?_append_left (by omega)]
 rw [List.getElem?_drop] at h1
 rw [show c[i+j]? =c.toList[i+j]? by simp,h1]
 simp [show j<mid.length by omega]
theorem Ld.xb {s:Sc} {K:s.T→Prop} {x:s.T} [bC b l c t fr put] (h:Hp E w l) (hx:c.toList[i]? =some (s.enc x)) (hK:K x):Ld (.sc s) ⟨b,i,none⟩ w K:=ad.xb (fun w' hw=>by rw [hw];exact h.fb) hx hK
theorem Ld.xt {ks:List Sc} {K:TT ks→Prop} {x:TT ks} [bC b l c t fr put] (h:Hp E w l) (hx:sG ks (c.toList.drop i)=some x) (hK:K x):Ld (.st ks) ⟨b,i,none⟩ w K:=ad.xt (fun w' hw=>by rw [hw];exact h.fb) hx hK
theorem Ld.xa {n:Nat} {mid post:List Value} {K:Array Value→Prop} [bC b l c t fr put] (h:Hp E w l) (hx:c.toList.drop i=mid++post) (hn:mid.length=n) (hK:K ⟨mid⟩):Ld (.arr n) ⟨b,i,none⟩ w K:=ad.xa (fun w' hw=>by rw [hw];exact h.fb) hx hn hK
theorem Ld.xw {n:Nat} {K:Array Value→Prop} [bC b l c t fr put] (h:Hp E w l) (hn:c.size=n) (hK:K c):Ld (.arr n) ⟨b,0,none⟩ w K:=
 Ld.xa (mid:=c.toList) (post:= []) h (by simp) (by simpa using hn) (by simpa using hK)
theorem ad.xw {S:World→Prop} {n:Nat} {K:Array Value→Prop} (hS: ∀w,S w→bF b c t fr w) (hn:c.size=n) (hK:K c):ad (.arr n) ⟨b,0,none⟩ S K:=
 ad.xa (mid:=c.toList) (post:= []) hS (by simp) (by simpa using hn) (by simpa using hK)
theorem af.KN {b:Nat} {t:TypeId} {F:List HP} {K:World→Prop}: ∀(vs:List Value) (i o:Nat) (w:World) (c:Array Value),Hp E w (aj b (.cells c t (0,0))::F)→o+i+vs.length≤c.size→(∀v∈vs,ay v=true)→
  (∀c' w',c'.toList=c.toList.take (o+i)++vs++c.toList.drop (o+i+vs.length)→Hp E w' (aj b (.cells c' t (0,0))::F)→K w')→af ⟨b,o,none⟩ vs i w K
 | [],i,o,w,c,hh,hi,_,hK=>hK c w (by simp) hh
 |v::vs,i,o,w,c,hh,hi,hv,hK=>by
  have h1:=hv v (by simp)
  simp only [List.length_cons] at hi
  unfold af
  rw [h1]
  have h2:=hh.setCell (i:=o+i) v
  refine ⟨?_,?_,?_⟩
  ·rw [aq,hh.cell];simp;omega
  ·rw [aq];simp [World.frozen?,hh.aC]
  ·rw [aq]
   refine af.KN vs (i+1) o _ _ h2 (by simp;omega) (fun x hx=>hv x (List.mem_cons_of_mem _ hx)) fun c' w' e h3=>hK c' w' ?_ h3
   rw [e,Array.toList_setIfInBounds,show o+(i+1)=o+i+1 by omega,List.take_add_one,List.take_set_of_le (by omega)]
   rw [List.getElem?_set_self (by simp;omega)]
   rw [List.drop_set_of_lt (by omega),List.length_cons]
   simp only [Option.toList_some,List.append_assoc,List.cons_append,List.nil_append]
   rw [show o+i+1+vs.length=o+i+(vs.length+1) by omega]
theorem af.xm {o:Nat} {vs pre mid post:List Value} {K:World→Prop} [hf:bC b l c t (0,0) put] (h:Hp E w l) (hc:c.toList=pre++(mid++post)) (ho:pre.length=o) (hn:mid.length=vs.length) (hv:vs.all ay=true)
  (hK: ∀w',Hp E w' (put (.cells ⟨pre++(vs++post)⟩ t (0,0)))→K w'):af ⟨b,o,none⟩ vs 0 w K:=by
 obtain ⟨r,h1,h2⟩:=hf.perm
 have hs:c.size=pre.length+(mid.length+post.length):=by rw [←Array.length_toList,hc];simp
 refine af.KN vs 0 o w c (h.perm h1) (by omega) (List.all_eq_true.1 hv) fun c' w' e h'=>hK w' ?_
 have:c'=⟨pre++(vs++post)⟩:=by
  apply Array.ext'
  rw [e,hc,Nat.add_zero,←ho,List.take_left,←hn,←List.length_append,←List.append_assoc,List.drop_left,List.append_assoc]
 rw [this] at h'
 exact h'.perm (h2 _)
theorem af.xw {vs:List Value} {K:World→Prop} [hf:bC b l c t (0,0) put] (h:Hp E w l) (hn:vs.length=c.size) (hv:vs.all ay=true)
  (hK: ∀w',Hp E w' (put (.cells ⟨vs⟩ t (0,0)))→K w'):af ⟨b,0,none⟩ vs 0 w K:=
 af.xm (pre:= []) (mid:=c.toList) (post:= []) h (by simp) rfl (by simpa using hn.symm) hv (by simpa using hK)
theorem St.xb {o:Nat} {v:Value} {K:World→Prop} [hf:bC b l c t (0,0) put] (h:Hp E w l) (hi:o<c.size) (hv:ay v=true)
  (hK: ∀w',Hp E w' (put (.cells (c.setIfInBounds o v) t (0,0)))→K w'):St ⟨b,o,none⟩ v w K:=by
 obtain ⟨r,h1,h2⟩:=hf.perm
 exact St.mk rfl (h.perm h1) hi hv fun w' h'=>hK w' (h'.perm (h2 _))
theorem St.xm {o:Nat} {v u:Value} {pre post:List Value} {K:World→Prop} [hf:bC b l c t (0,0) put] (h:Hp E w l) (hc:c.toList=pre++(u::post)) (ho:pre.length=o) (hv:ay v=true)
  (hK: ∀w',Hp E w' (put (.cells ⟨pre++(v::post)⟩ t (0,0)))→K w'):St ⟨b,o,none⟩ v w K:=by
 refine St.xb h ?_ hv fun w' h'=>hK w' ?_
 ·rw [←Array.length_toList,hc];simp;omega
 ·have:c.setIfInBounds o v=⟨pre++(v::post)⟩:=by
   apply Array.ext'
   rw [Array.toList_setIfInBounds,hc,←ho]
   simp
  rwa [this] at h'
def ae:List Value→List Value→List Value
 | [],l=>l
 |_::_,[]=> []
 |v::vs,_::l=>v::ae vs l
def ah:List Value→Nat→List Value→List Value
 |l,0,vs=>ae vs l
 |a::l,o+1,vs=>a::ah l o vs
 | [],_+1,_=> []
theorem Bv: ∀{l vs:List Value},vs.length≤l.length→ae vs l=vs++l.drop vs.length
 |_,[],_=>rfl
 | [],_::_,h=>by simp at h
 |a::l,v::vs,h=>by
  rw [ae,Bv (by simpa using h)];rfl
theorem ym: ∀{l:List Value} {o:Nat} {vs:List Value},o+vs.length≤l.length→ah l o vs=l.take o++(vs++l.drop (o+vs.length))
 |l,0,vs,h=>by
  have:ah l 0 vs=ae vs l:=by cases l<;>rfl
  rw [this,Bv (by omega)];simp
 |a::l,o+1,vs,h=>by
  rw [ah,ym (by simp at h;omega),show o+1+vs.length=o+vs.length+1 by omega];rfl
 | [],o+1,vs,h=>by simp at h
theorem af.xs {o:Nat} {vs:List Value} {K:World→Prop} [hf:bC b l c t (0,0) put] (h:Hp E w l) (hb:Nat.ble (o+vs.length) c.toList.length=true) (hv:vs.all ay=true)
  (hK: ∀w',Hp E w' (put (.cells ⟨ah c.toList o vs⟩ t (0,0)))→K w'):af ⟨b,o,none⟩ vs 0 w K:=by
 have hb:=Nat.le_of_ble_eq_true hb
 rw [ym hb] at hK
 refine af.xm (mid:=(c.toList.drop o).take vs.length) h ?_ (by simp;simp at hb;omega) (by simp;simp at hb;omega) hv hK
 rw [←List.drop_drop,List.take_append_drop,List.take_append_drop]
theorem St.xs {o:Nat} {v:Value} {K:World→Prop} [hf:bC b l c t (0,0) put] (h:Hp E w l) (hb:Nat.ble (o+1) c.toList.length=true) (hv:ay v=true)
  (hK: ∀w',Hp E w' (put (.cells ⟨ah c.toList o [v]⟩ t (0,0)))→K w'):St ⟨b,o,none⟩ v w K:=by
 have hb:=Nat.le_of_ble_eq_true hb
 have hb2:o<c.toList.length:=by omega
 rw [ym (by simpa using hb)] at hK
 refine St.xm (u:=c.toList[o]'hb2) (pre:=c.toList.take o) (post:=c.toList.drop (o+1)) h ?_ (by simp;simp at hb;omega) hv (by simpa using hK)
 rw [List.getElem_cons_drop,List.take_append_drop]
theorem aw.xm {n o:Nat} {cs:Array Value} {pre mid post:List Value} {K:World→Prop} [hf:bC b l c t (0,0) put] (h:Hp E w l) (hc:c.toList=pre++(mid++post)) (ho:pre.length=o) (hn:mid.length=n) (hcs:cs.size=n) (hv: ∀v∈cs.toList,ay v=true)
  (hK: ∀w',Hp E w' (put (.cells ⟨pre++(cs.toList++post)⟩ t (0,0)))→K w'):aw n ⟨b,o,none⟩ cs w K:=by
 obtain ⟨r,h1,h2⟩:=hf.perm
 have hh:=h.perm h1
 have hs:c.size=pre.length+(mid.length+post.length):=by rw [←Array.length_toList,hc];simp
 refine ⟨hcs,fun i hi=>⟨?_,?_,?_⟩,?_⟩
 ·have:cs.getD i undef∈cs.toList:=by simp [Array.getD,hcs,hi]
  exact hv _ this
 ·rw [aq,hh.cell];simp;omega
 ·rw [aq];simp [World.frozen?,hh.aC]
 ·have key: ∀(vs:List Value) (i:Nat) (w:World) (c:Array Value),Hp E w (aj b (.cells c t (0,0))::r)→o+i+vs.length≤c.size→
    Hp E (aw.setRow w ⟨b,o,none⟩ vs i) (aj b (.cells ⟨c.toList.take (o+i)++vs++c.toList.drop (o+i+vs.length)⟩ t (0,0))::r):=by
   intro vs
   induction vs with
   |nil=>intro i w c hh hi;simpa [aw.setRow] using hh
   |cons v vs ih=>
    intro i w c hh hi
    simp only [List.length_cons] at hi
    have h2:=hh.setCell (i:=o+i) v
    have:=ih (i+1) _ _ h2 (by simp;omega)
    unfold aw.setRow
    rw [aq]
    rw [Array.toList_setIfInBounds,show o+(i+1)=o+i+1 by omega,List.take_add_one,List.take_set_of_le (by omega),List.getElem?_set_self (by simp;omega),List.drop_set_of_lt (by omega)] at this
    rw [List.length_cons,show o+i+(vs.length+1)=o+i+1+vs.length by omega]
    simpa using this
  have:=key cs.toList 0 w c hh (by rw [Array.length_toList];omega)
  refine hK _ ((this.perm (h2 _)).perm (by
   rw [hc,Nat.add_zero,←ho,List.take_left,show cs.toList.length=mid.length by simp;omega,←List.length_append,←List.append_assoc,List.drop_left,List.append_assoc]))
theorem aw.xw {n:Nat} {cs:Array Value} {K:World→Prop} [hf:bC b l c t (0,0) put] (h:Hp E w l) (hn:c.size=n) (hcs:cs.size=n) (hv: ∀v∈cs.toList,ay v=true)
  (hK: ∀w',Hp E w' (put (.cells cs t (0,0)))→K w'):aw n ⟨b,0,none⟩ cs w K:=
 aw.xm (pre:= []) (mid:=c.toList) (post:= []) h (by simp) rfl (by simpa using hn) hcs hv (by simpa using hK)
end
end Go.Vc
set_option maxRecDepth 20000
namespace Go.Vc
open Go
theorem xP {P:Program} {E w:World} {F:List HP} {t e:TypeId} {C:Array Value} {b n c:Nat} {K:Sl→World→Prop} (ht:P.underlying t=some (.slice e)) (he:P.underlying e=some (.int .u8))
  (h:Hp E w (aj b (.cells C e (0,0))::F)) (hK: ∀w',Hp E w' (aj b (.cells C e (C.size,C.size+1))::F)→K ⟨some ⟨b,0,none⟩,n,c⟩ w'):aD P (convert t t (.slice (some ⟨b,0,none⟩) n c)) kS w K:=by
 have hb:=h.aC
 have hlt:b<w.heap.size:=by
  rcases Nat.lt_or_ge b w.heap.size with hh|hh
  ·exact hh
  ·simp [Array.getElem?_eq_none hh] at hb
 have hsh:w.shape? b=some (e,C.size):=by unfold World.shape?;rw [hb]
 have key:(convert t t (.slice (some ⟨b,0,none⟩) n c)).run P w= .ok (.slice (some ⟨b,0,none⟩) n c) (w.freeze ⟨b,C.size,none⟩ 1):=by
  simp [convert,run_underlying ht,run_underlying he,markStringish,hsh]
 unfold aD;rw [key]
 refine hK _ (h.setObj ?_ rfl rfl rfl)
 unfold World.freeze
 rw [if_neg (by decide)]
 have hg:w.heap[b]= .cells C e (0,0):=by rw [Array.getElem?_eq_getElem hlt] at hb;exact Option.some.inj hb
 apply Array.ext_getElem?
 intro i
 rw [Array.set!_eq_setIfInBounds]
 by_cases hi:b=i
 ·subst hi
  simp [hlt]
  rw [Array.getElem_modify_self,hg]
  simp
 ·rw [Array.getElem?_setIfInBounds_ne hi,Array.getElem?_modify]
  simp [hi]
section
variable {E w:World} {F:List HP} {sz:Nat} {s:Sl} {xs ys:List Value}
theorem Hp.eA {A:HP} {l F:List HP} [h2:kW l F] (h:Hp E w (A::l)):Hp E w (A::F):=by
 obtain ⟨p,e⟩:=h2.sub
 subst e
 exact (h.perm List.perm_middle.symm).pC
theorem Hp.KC {A B:HP} {l F:List HP} [h2:kW l F] (h:Hp E w (A::B::l)):Hp E w (A::B::F):=by
 obtain ⟨p,e⟩:=h2.sub
 subst e
 exact (h.perm ((List.Perm.cons A List.perm_middle.symm).trans List.perm_middle.symm)).pC
theorem pP {P:Program} {t tx ty e:TypeId} {bytes n:Nat} {x:Value} {K:Sl→World→Prop} (he:bK P t e sz bytes) (hx:(∃e2,P.underlying tx=some (.slice e2))∨P.underlying tx=some .string)
  (hh:Hp E w F) (hs0:ab F (aA sz s xs)) (hfit:s.cap<s.len+n) (hs:ab F (Src sz n x ys)) (hyl:ys.length=n*sz) (hb:(2*(s.len+n)+1024)*bytes≤2^48) (hb2:s.len+n<2^62)
  (h: ∀s' w',Hp E w' (ak sz s' (xs++ys)::F)→s'.len=s.len+n→K s' w'):aD P (Builtin.append_ #[t,tx] ty ⟨[.slice s.base s.len s.cap,x]⟩) kS w K:=by
 obtain ⟨it,z,hi,hsz,hby,hze,hzs⟩:=he.info
 obtain ⟨hs1,hs2⟩:=(hh.al hs).run (P:=P)
 have hlen:xs.length=s.len*sz:=(hh.al hs0).1
 have hso:(sizeOf e).run P w= .ok sz w:=by rw [bH hi,hsz]
 have hlen2:(xs++ys).length=(s.len+n)*sz:=by rw [List.length_append,hlen,hyl,Nat.add_mul]
 have hnext: ¬Builtin.nextslicecap (s.len+n) s.cap*it.bytes>2^48:=by
  have:=uI (n:=s.len+n) (c:=s.cap) (by omega)
  have h2:Builtin.nextslicecap (s.len+n) s.cap*it.bytes≤(2*(s.len+n)+1024)*bytes:=by rw [hby];exact Nat.mul_le_mul_right _ this
  omega
 have hfit': ¬s.len+n≤s.cap:=by omega
 generalize hq:Question.cut (.appendCap (s.len+n) s.cap e) (w.tape w.drawn (.appendCap (s.len+n) s.cap e))=newCap
 have hnc:s.len+n≤newCap:=by rw [←hq];exact Nat.le_add_right _ _
 have hD:Hp E w.drew F:=hh.drew (n:=w.drawn+1)
 have hold':(Builtin.firstCells sz s.len (.slice s.base s.len s.cap)).run P w.drew= .ok xs.toArray w.drew:=by
  have:Src sz s.len (.slice s.base s.len s.cap) xs w.drew:= .inl ⟨s.base,s.len,s.cap,rfl,rfl,hD.al hs0⟩
  exact (this.run (P:=P)).1
 have hs1':(Builtin.firstCells sz n x).run P w.drew= .ok ys.toArray w.drew:=((hD.al hs).run (P:=P)).1
 have hA:=hD.alloc (.cells (xs.toArray++ys.toArray++Builtin.zeroCells z.cells (newCap - (s.len+n))) e)
 have hz': ∀w:World,(zeroValue e).run P w= .ok z w:=by intro w;simp [zeroValue,typeInfo,hi,hze]
 have hti: ∀w:World,(typeInfo e).run P w= .ok it w:=by intro w;simp [typeInfo,hi]
 have hmax': ¬(9223372036854775807<(s.len:Int)+(n:Int)∧it.bytes=0):=by omega
 have hfo:Question.forced (.appendCap (s.len+n) s.cap e)=false:=rfl
 have hrun:(Builtin.append_ #[t,tx] ty ⟨[.slice s.base s.len s.cap,x]⟩).run P w= .ok (.slice (some ⟨w.heap.size,0,none⟩) (s.len+n) newCap) (w.drew.alloc (.cells (xs.toArray++ys.toArray++Builtin.zeroCells z.cells (newCap - (s.len+n))) e)):=by
  rcases hx with ⟨e2,hd⟩|hd<;>simp [Builtin.append_,run_underlying he.und,hso,run_underlying hd,hs2,hfit',hmax',hti,hnext,hfo,hq,hold',hs1',hz',newRow]
  all_goals rw [←Array.append_assoc,show xs.toArray++ys.toArray=(xs++ys).toArray by simp]
 unfold aD
 rw [hrun]
 refine h ⟨some ⟨w.heap.size,0,none⟩,s.len+n,newCap⟩ _ (Hp.fM hA hlen2 rfl hnc ?_ ?_) rfl
 ·simp only [Array.size_append,List.size_toArray,kl,hzs,hlen,hyl]
  have:newCap*sz=(s.len+n)*sz+(newCap - (s.len+n))*sz:=by rw [←Nat.add_mul];congr 1;omega
  rw [this,Nat.add_mul];omega
 ·intro i hi
  have h1:i<(xs.toArray++ys.toArray).size:=by simpa using hi
  rw [Nat.zero_add,Array.getElem?_append_left h1]
  have:(xs.toArray++ys.toArray)=(xs++ys).toArray:=by simp
  rw [this]
  simp only [List.getElem?_toArray]
  exact List.getElem?_eq_getElem hi
end
end Go.Vc
namespace Go.Proofs.YtcdpblipagajiaaGreat
open Go Go.Vc
section
variable {E w:World} {F:List HP}
set_option maxRecDepth 200000 in
theorem gF {C:Array Value} {b n c:Nat} {K:Sl→World→Prop} (h:Hp E w (aj b (.cells C 5 (0,0))::F)) (hK: ∀w',Hp E w' (aj b (.cells C 5 (C.size,C.size+1))::F)→K ⟨some ⟨b,0,none⟩,n,c⟩ w'):
  aD Tryz.prog (convert 22 22 (.slice (some ⟨b,0,none⟩) n c)) kS w K:=xP (by kernel_rfl) (by kernel_rfl) h hK
end
end Go.Proofs.YtcdpblipagajiaaGreat
namespace Go.Vc
open Go Go.Stm
def qk (p:Sl) (k:Nat):Sl:=⟨if (p.cap:Int).toNat=(k:Int).toNat then p.base else p.base.map (·.add ((k:Int).toNat*1)),(p.len:Int).toNat - (k:Int).toNat,(p.cap:Int).toNat - (k:Int).toNat⟩
def lj (n:Nat) (p:Sl) (b:List Nat):List (Sl×List Nat):=if _h:b= []∨n=0 then [] else (⟨p.base,min n p.len,p.cap⟩,b.take n)::lj n (qk p (min n p.len)) (b.drop n)
termination_by b.length
decreasing_by
 simp only [not_or] at _h
 have:0<b.length:=List.length_pos_iff.2 _h.1
 simp;omega
theorem iS (n:Nat) (p:Sl):lj n p []= []:=by rw [lj];simp
theorem oM {n:Nat} {p:Sl} {b:List Nat} (h:b≠ []) (hn:0<n):lj n p b=(⟨p.base,min n p.len,p.cap⟩,b.take n)::lj n (qk p (min n p.len)) (b.drop n):=by
 rw [lj,dif_neg (by simp [h];omega)]
theorem yb {n:Nat} (hn:0<n): ∀(m:Nat) (p:Sl) (b:List Nat),b.length≤m→(lj n p b).map Prod.snd=ll n b
 |0,p,b,h=>by
  have:b= []:=List.length_eq_zero_iff.1 (by omega)
  rw [this,iS,gE];rfl
 |m+1,p,b,h=>by
  by_cases hb:b= []
  ·rw [hb,iS,gE];rfl
  ·have:0<b.length:=List.length_pos_iff.2 hb
   rw [oM hb hn,gu hb hn,List.map_cons,yb hn m _ _ (by simp;omega)]
theorem GW {w:World} {p:Sl} {b:List Nat} {k:Nat} (h:aA 1 p (b.map vB) w) (hk:k≤p.len) (hc:p.len≤p.cap):aA 1 (qk p k) ((b.drop k).map vB) w:=by
 have hl:=h.1
 rw [List.length_map,Nat.mul_one] at hl
 have:=(aZ.rd (s:=p) (lo:=(k:Int)) (hi:=(p.len:Int)) (mx:=(p.cap:Int)) (K:=fun s'=>aA 1 s' ((b.drop k).map vB) w) h (by omega) (by omega) (by omega) (by omega) (by omega) fun s' hs' _=>by
  have h2:=hs' w h
  simp only [Int.toNat_natCast] at h2
  rw [←List.map_drop,List.take_of_length_le (by simp;omega)] at h2
  exact h2).2.2.2.2
 exact this
theorem q8 {p:Sl} {k:Nat}:(qk p k).len=p.len - k:=by simp [qk]
theorem uj {p:Sl} {k:Nat}:(qk p k).cap=p.cap - k:=by simp [qk]
theorem Eh {w:World} {n:Nat} (hn:0<n): ∀(m:Nat) (p:Sl) (b:List Nat),b.length≤m→aA 1 p (b.map vB) w→p.len≤p.cap→∀x∈lj n p b,aA 1 x.1 (x.2.map vB) w∧x.1.len≤x.1.cap
 |0,p,b,h,_,_=>by
  have:b= []:=List.length_eq_zero_iff.1 (by omega)
  rw [this,iS];simp
 |m+1,p,b,h,hs,hc=>by
  by_cases hb:b= []
  ·rw [hb,iS];simp
  ·have h0:0<b.length:=List.length_pos_iff.2 hb
   have hl:=hs.1
   rw [List.length_map,Nat.mul_one] at hl
   rw [oM hb hn]
   intro x hx
   rcases List.mem_cons.1 hx with rfl|hx
   ·refine ⟨⟨by simp;omega,fun i hi=> ?_⟩,by dsimp only;omega⟩
    simp only [List.length_map,List.length_take] at hi
    obtain ⟨q,hq,hcell⟩:=hs.2 i (by simp;omega)
    refine ⟨q,hq,?_⟩
    rw [hcell]
    simp
   ·have hd:b.drop n=b.drop (min n p.len):=by
     rcases Nat.le_total n p.len with h1|h1
     ·rw [Nat.min_eq_left h1]
     ·rw [Nat.min_eq_right h1,List.drop_of_length_le (by omega),List.drop_of_length_le (by omega)]
    rw [hd] at hx
    exact Eh hn m _ _ (by simp;omega) (GW hs (by omega) hc) (by rw [q8,uj];omega) x hx
def bk (n:Nat) (ps:List (Sl×List Nat)):List (Sl×List Nat):=ps.flatMap fun x=>lj n x.1 x.2
theorem vM {n:Nat} (hn:0<n) (ps:List (Sl×List Nat)):(bk n ps).map Prod.snd=aY n (ps.map Prod.snd):=by
 unfold bk aY
 rw [List.map_flatMap,List.flatMap_map]
 congr 1
 funext x
 exact yb hn _ _ _ (Nat.le_refl _)
end Go.Vc
namespace Go.Proofs.YtcdpblipagajiaaGreat
open Go Go.Vc Go.Stm
section
variable {E w:World} {F:List HP}
set_option maxRecDepth 20000
structure ch (s:Sl) (ps:List (Sl×List Nat)) (w:World):Prop where
 tab:aA 1 s (ps.map fun x=> .slice x.1.base x.1.len x.1.cap) w
 each: ∀x∈ps,aA 1 x.1 (x.2.map vB) w
structure jB (ps:List (Sl×List Nat)):Prop where
 caps: ∀x∈ps,x.1.len≤x.1.cap
 few:ps.length≤bR
 small: ∀x∈ps,x.2.length≤bR
theorem vV {n:Nat} {s:Sl} {ps:List (Sl×List Nat)} {b4 b6:Nat} (hn:0<n) (hn2:n≤bR) (hp:jB ps):ri Tryz.prog E (.func (.func mZ) ⟨[]⟩ ⟨[.pointer (some ⟨b6,0,none⟩),.pointer (some ⟨b4,0,none⟩)]⟩) (bk n ps).length
  (fun i=> [Ki.enc kS ((bk n ps).getD i (⟨none,0,0⟩,[])).1]) [aj b6 (.cells ⟨[.slice s.base s.len s.cap]⟩ 51 (0,0)),aj b4 (.cells ⟨[.int .i64 (n:Int)]⟩ 3 (0,0))] (ch s ps):=by
 intro yv C G w K hg hy h hK hKG
 obtain ⟨hcaps,hfew,hsmall⟩:=hp
 refine og.mk (by kernel_rfl) (wJ.ok yv ⟨b6,0,none⟩ ⟨b4,0,none⟩ K w ?_)
 rw [av] at hn2 hfew
 have h:Hp E w (aj b6 (.cells ⟨[.slice s.base s.len s.cap]⟩ 51 (0,0))::aj b4 (.cells ⟨[.int .i64 (n:Int)]⟩ 3 (0,0))::C 0):=h
 have hlen:s.len=ps.length:=by
  have:=(h.al (hg 0).cons.cons).tab.1
  simpa using this.symm
 refine Ld.xb (x:=s) h rfl ?_
 refine ⟨fun t w=> ∃k j:Nat,t=(k:Int)∧k≤ps.length∧j≤(bk n ps).length∧(bk n ps).drop j=bk n (ps.drop k)∧Hp E w (aj b6 (.cells ⟨[.slice s.base s.len s.cap]⟩ 51 (0,0))::aj b4 (.cells ⟨[.int .i64 (n:Int)]⟩ 3 (0,0))::C j),fun t _=>ps.length - t.toNat,⟨0,0,rfl,by omega,by omega,rfl,h⟩,?_⟩
 rintro t w ⟨k,j,rfl,hk,hj,hd,h⟩
 refine aa.dm (fun hlt=> ?_) (fun hge=> ?_)
 ·have hlt:k<ps.length:=by omega
  have hmem:ps[k]∈ps:=List.getElem_mem hlt
  refine ar.rd (h.al (hg j).cons.cons).tab (by omega) (by omega) fun q _ hq=> ?_
  refine Ld.sc (s:= .sl) ps[k].1 (by rw [hq];simp [Sc.enc]) ?_
  rw [List.drop_eq_getElem_cons hlt] at hd
  refine ⟨fun p w=> ∃(j:Nat) (b:List Nat),j≤(bk n ps).length∧b.length≤bR∧(bk n ps).drop j=lj n p b++bk n (ps.drop (k+1))∧(∀w,ch s ps w→aA 1 p (b.map vB) w)∧p.len≤p.cap∧Hp E w (aj b6 (.cells ⟨[.slice s.base s.len s.cap]⟩ 51 (0,0))::aj b4 (.cells ⟨[.int .i64 (n:Int)]⟩ 3 (0,0))::C j),fun p _=>p.len,
   ⟨j,ps[k].2,hj,hsmall _ hmem,hd,fun w hw=>hw.each _ hmem,hcaps _ hmem,h⟩,?_⟩
  rintro p w ⟨j,b,hj,hbl,hd,hT,hpc,h⟩
  have hpl:=(hT w (h.al (hg j).cons.cons)).1
  rw [List.length_map,Nat.mul_one] at hpl
  rw [av] at hbl
  refine aa.dm (fun hpos=> ?_) (fun hz=> ?_)
  ·have hb0:b≠ []:=fun e=>by rw [e] at hpl;simp at hpl;omega
   rw [oM hb0 hn,List.cons_append] at hd
   have hjl:j<(bk n ps).length:=by
    rcases Nat.lt_or_ge j (bk n ps).length with q|q
    ·exact q
    ·rw [List.drop_eq_nil_of_le q] at hd;cases hd
   have hx:(bk n ps).getD j (⟨none,0,0⟩,[])=(⟨p.base,min n p.len,p.cap⟩,b.take n):=by
    rw [List.drop_eq_getElem_cons hjl] at hd
    injection hd with e _
    rw [List.getD_eq_getElem?_getD,List.getElem?_eq_getElem hjl,Option.getD_some,e]
   have hd2:(bk n ps).drop (j+1)=lj n (qk p (min n p.len)) (b.drop n)++bk n (ps.drop (k+1)):=by rw [←List.drop_drop,hd];rfl
   have hmin:(if (p.len:Int)<(n:Int) then (p.len:Int) else (n:Int))=((min n p.len:Nat):Int):=by split<;>omega
   refine Ld.xb (x:=(n:Int)) h rfl ?_
   rw [hmin]
   refine ⟨by omega,by omega,by omega,by omega,?_⟩
   have hs16:(⟨if (p.cap:Int).toNat=(0:Int).toNat then p.base else p.base.map (·.add ((0:Int).toNat*1)),((min n p.len:Nat):Int).toNat - (0:Int).toNat,(p.cap:Int).toNat - (0:Int).toNat⟩:Sl)=⟨p.base,min n p.len,p.cap⟩:=by
    have hne: ¬((p.cap:Int).toNat=(0:Int).toNat):=by simp;omega
    rw [if_neg hne]
    have hm:p.base.map (·.add ((0:Int).toNat*1))=p.base:=by
     cases p.base with
     |none=>rfl
     |some a=>simp [Addr.add]
    rw [hm]
    simp
   rw [hs16]
   have he: [Value.slice p.base (min n p.len) p.cap]= [Ki.enc kS ((bk n ps).getD j (⟨none,0,0⟩,[])).1]:=by rw [hx]
   dsimp only
   rw [he]
   refine hy j hjl [aj b6 (.cells ⟨[.slice s.base s.len s.cap]⟩ 51 (0,0)),aj b4 (.cells ⟨[.int .i64 (n:Int)]⟩ 3 (0,0))] w _ (h.perm (List.perm_append_comm (l₁:= [aj b6 _,aj b4 _]))) (fun w h=> ?_) (fun w h=> ?_)
   ·refine aa.f rfl ⟨by omega,by omega,by omega,by omega,?_⟩
    refine ⟨rfl,⟨j+1,b.drop n,by omega,by rw [List.length_drop,av];omega,hd2,?_,?_,h.perm (List.perm_append_comm (l₂:= [aj b6 _,aj b4 _]))⟩,?_⟩
    ·have e:b.drop n=b.drop (min n p.len):=by
      rcases Nat.le_total n p.len with h1|h1
      ·rw [Nat.min_eq_left h1]
      ·rw [Nat.min_eq_right h1,List.drop_of_length_le (by omega),List.drop_of_length_le (by omega)]
     rw [e]
     exact fun w hw=>GW (hT w hw) (by omega) hpc
    ·show (qk p (min n p.len)).len≤(qk p (min n p.len)).cap
     rw [q8,uj];omega
    ·show (qk p (min n p.len)).len<p.len
     rw [q8];omega
   ·exact aa.t rfl (hKG j w hjl (h.perm (List.perm_append_comm (l₂:= [aj b6 _,aj b4 _]))).drop.drop)
  ·have hb0:b= []:=List.length_eq_zero_iff.1 (by omega)
   rw [hb0,iS,List.nil_append] at hd
   rw [ag (by omega)]
   exact ⟨rfl,⟨k+1,j,by omega,by omega,hj,hd,h⟩,by first|omega|(dsimp only;omega)⟩
 ·have hk2:k=ps.length:=by omega
  subst hk2
  rw [List.drop_of_length_le (Nat.le_refl _)] at hd
  have:(bk n ps).length≤j:=by
   have:=congrArg List.length hd
   rw [List.length_drop] at this
   simp only [bk,List.flatMap_nil,List.length_nil] at this
   unfold bk;omega
  have hj2:j=(bk n ps).length:=by omega
  subst hj2
  exact hK w h.drop.drop
end
end Go.Proofs.YtcdpblipagajiaaGreat
namespace Go.Proofs.YtcdpblipagajiaaGreat
open Go Go.Vc
set_option maxRecDepth 100000
theorem Dc.ok (a:Int) (b:Sl) (R:Sl→Int→World→Prop) w (h:
 Cl Pg [kS,kI] kq ⟨[(an b)]⟩ w fun (d:Sl) (e:Int) c=>
 Nw 22 ⟨[(an b)]⟩ c fun g f=>
 Cl Pg [(aL .u32)] j0 ⟨[(an (⟨some ⟨g,0,none⟩,1,1⟩:Sl))]⟩ f fun (i:Int) h=>
 Cl Pg [kS,kI] ig ⟨[(ni a),(.agg ⟨[(ni (b.len:Int)),(ni e),(.int .u32 i)]⟩)]⟩ h fun (k:Sl) (l:Int) j=>
 aa (l !=0)
 (R (⟨none,0,0⟩:Sl) 2 j)
 (Cl Pg [kS] mO ⟨[(an d)]⟩ j fun (n:Sl) m=>
 Cl Pg [(.arr 258)] jr ⟨[(an n)]⟩ m fun p o=>
 Nw 36 ⟨List.replicate 258 (.int .u8 0)⟩ o fun r q=>
 aw 258 ⟨r,0,none⟩ p q fun s=>
 Cl Pg [kP] jA ⟨[]⟩ s fun u t=>
 Ld (.arr 258) ⟨r,0,none⟩ t fun v=>
 Cl Pg [kI] ib ⟨[(.pointer u),(.agg v)]⟩ t fun (y:Int) x=>
 Ld (.arr 258) ⟨r,0,none⟩ x fun z=>
 Cl Pg [kI] jH ⟨[(.pointer u),(.agg z),(an n)]⟩ x fun (b1:Int) a1=>
 Cl Pg [kS] dI ⟨[(.pointer u)]⟩ a1 fun (d1:Sl) c1=>
 aD Pg (Builtin.append_ #[22,22] 22 ⟨[(an k),(an d1)]⟩) kS c1 fun (f1:Sl) e1=>
 R f1 0 e1)):Cl Pg [kS,kI] mG ⟨[(ni a),(an b)]⟩ w R:=co Tryz.f12 [] h
theorem z8.ok (a:Int) (b:Sl) (R:Sl→Sl→Int→World→Prop) w (h:
 Cl Pg [(.st aK),kS,kI] dv ⟨[(ni a),(an b)]⟩ w fun d (e:Sl) (f:Int) c=>
 Nw 74 ⟨[(ni 0),(ni 0),(ni 0),(ni 0),(ni 0),(.int .u32 0),(ni 0)]⟩ c fun h g=>
 af ⟨h,0,none⟩ [(ni d.1),(ni d.2.1),(ni d.2.2.1),(ni d.2.2.2.1),(ni d.2.2.2.2.1),(.int .u32 d.2.2.2.2.2.1),(ni d.2.2.2.2.2.2.1)] 0 g fun i=>
 aa (f !=0)
 (R (⟨none,0,0⟩:Sl) (⟨none,0,0⟩:Sl) f i)
 (Ld kI (Addr.add ⟨h,0,none⟩ 0) i fun (j:Int)=>
 aa (j !=4)
 (R (⟨none,0,0⟩:Sl) (⟨none,0,0⟩:Sl) 242 i)
 (Cl Pg [kS] kg ⟨[(an e)]⟩ i fun (l:Sl) k=>
 Cl Pg [(.arr 258),kI,kI] gp ⟨[(an l)]⟩ k fun n (o:Int) (p:Int) m=>
 Nw 36 ⟨List.replicate 258 (.int .u8 0)⟩ m fun r q=>
 aw 258 ⟨r,0,none⟩ n q fun s=>
 aa (p !=0)
 (R (⟨none,0,0⟩:Sl) (⟨none,0,0⟩:Sl) p s)
 (ao s fun d1=>
 Ld kI ((Addr.add ⟨h,0,none⟩ 3).add 0) d1 fun (e1:Int)=>
 Ld (.arr 258) ⟨r,0,none⟩ d1 fun f1=>
 aZ l o (l).len (l).cap 1 fun g1=>
 Cl Pg [kS,kI,kI] j5 ⟨[(ni e1),(.agg f1),(an g1)]⟩ d1 fun (i1:Sl) (j1:Int) (k1:Int) h1=>
 aa (k1 !=0)
 (R (⟨none,0,0⟩:Sl) (⟨none,0,0⟩:Sl) k1 h1)
 (0≤(3:Int)∧
 0≤(3:Int)∧
 aZ l (i64 (o+j1)) (a8 .i64 (aF .i64 (i64 ((i64 (o+j1))+7)) (3:Int)) (3:Int)) (l).cap 1 fun l1=>
 Cl Pg [kB] dx ⟨[(an l1),(ni 1)]⟩ h1 fun (n1:Bool) m1=>
 aa n1
 (R (⟨none,0,0⟩:Sl) (⟨none,0,0⟩:Sl) 160 m1)
 (Ld kI ((Addr.add ⟨h,0,none⟩ 3).add 1) m1 fun (o1:Int)=>
 Cl Pg [kS,kI] o4 ⟨[(an i1),(ni o1)]⟩ m1 fun (q1:Sl) (r1:Int) p1=>
 aa (r1 !=0)
 (R (⟨none,0,0⟩:Sl) (⟨none,0,0⟩:Sl) r1 p1)
 (Cl Pg [kS] gH ⟨[(an q1)]⟩ p1 fun (t1:Sl) s1=>
 cA s1 fun d2 e2=>
 ad (aL .u32) ((Addr.add ⟨h,0,none⟩ 3).add 2) d2 fun (f2:Int)=>
 Nw 22 ⟨[(an t1)]⟩ e2 fun h2 g2=>
 d2 g2∧
 Cl Pg [(aL .u32)] j0 ⟨[(an (⟨some ⟨h2,0,none⟩,1,1⟩:Sl))]⟩ g2 fun (j2:Int) i2=>
 d2 i2∧
 aa (j2 !=f2)
 (R (⟨none,0,0⟩:Sl) (⟨none,0,0⟩:Sl) 250 i2)
 (aZ e (aF .i64 (i64 ((i64 (o+j1))+7)) (3:Int)) (e).len (e).cap 1 fun k2=>
 Cl Pg [kS] cu ⟨[(an k2)]⟩ i2 fun (m2:Sl) l2=>
 R t1 m2 0 l2)))))))):Cl Pg [kS,kS,kI] jU ⟨[(ni a),(an b)]⟩ w R:=co Tryz.f14 [] h
theorem zF.ok (a:Sl) (R:Sl→Int→World→Prop) w (h:
 Cl Pg [kS] gH ⟨[(an a)]⟩ w fun (c:Sl) b=>
 Cl Pg [kS,kI] pF ⟨[(an c)]⟩ b fun (e:Sl) (f:Int) d=>
 R e f d):Cl Pg [kS,kI] kq ⟨[(an a)]⟩ w R:=co Tryz.f16 [] h
theorem wR.ok (a:Sl) (R:(Array Value)→World→Prop) w (h:
 Nw 36 ⟨List.replicate 258 (.int .u8 0)⟩ w fun c b=>
 Cl Pg [(.arr 258),kI] j7 ⟨[(an a)]⟩ b fun e (f:Int) d=>
 Nw 41 ⟨List.replicate 258 (ni 0)⟩ d fun h g=>
 aw 258 ⟨h,0,none⟩ e g fun i=>
 Ld (.arr 258) ⟨h,0,none⟩ i fun j=>
 Cl Pg [(.arr 258),kI] cQ ⟨[(.agg j),(ni 15)]⟩ i fun l (m:Int) k=>
 Nw 36 ⟨List.replicate 258 (.int .u8 0)⟩ k fun o n=>
 aw 258 ⟨o,0,none⟩ l n fun p=>
 Ld (.arr 258) ⟨o,0,none⟩ p fun q=>
 aw 258 ⟨c,0,none⟩ q p fun r=>
 Ld (.arr 258) ⟨c,0,none⟩ r fun s=>
 R s r):Cl Pg [(.arr 258)] jr ⟨[(an a)]⟩ w R:=co Tryz.f45 [] h
theorem z6.ok (a:Int) (b:(Array Value)) (c:Sl) (R:Sl→Int→Int→World→Prop) w (h:
 Nw 36 b w fun e d=>
 Ld (.arr 258) ⟨e,0,none⟩ d fun f=>
 Cl Pg [(.arr 260),kI] jh ⟨[(.agg f)]⟩ d fun h (i:Int) g=>
 Nw 145 ⟨List.replicate 258 (.int .u8 0)++ [(ni 0),(ni 0)]⟩ g fun k j=>
 aw 260 ⟨k,0,none⟩ h j fun l=>
 Cl Pg [(.arr 260)] mE ⟨[(ni a)]⟩ l fun n m=>
 Nw 149 ⟨List.replicate 256 (.int .u8 0)++ [(ni 0),(ni 0),(ni 0),(.bool false)]⟩ m fun p o=>
 aw 260 ⟨p,0,none⟩ n o fun q=>
 db (⟨none,0,0⟩:Sl) 0 q fun r s (t:Sl) (u:Int) v=>
 aa (decide (u<(c.len:Int)))
 (bo (fun (r1:Addr) (s1:Int) (t1:Bool) (u1:World)=>
 Ld (.arr 260) r1 u1 fun v1=>
 aw 260 ⟨k,0,none⟩ v1 u1 fun x1=>
 aa (!t1)
 (r t (i64 (u+1)) x1∧s t (i64 (u+1)) x1<s t u v)
 (Ld (.arr 260) ⟨p,0,none⟩ x1 fun y1=>
 Cl Pg [(.arr 260),kS,kB,kI] lp ⟨[(.agg y1),(ni s1)]⟩ x1 fun a2 (b2:Sl) (c2:Bool) (d2:Int) z1=>
 Nw 149 ⟨List.replicate 256 (.int .u8 0)++ [(ni 0),(ni 0),(ni 0),(.bool false)]⟩ z1 fun f2 e2=>
 aw 260 ⟨f2,0,none⟩ a2 e2 fun g2=>
 aa (d2 !=0)
 (R (⟨none,0,0⟩:Sl) 0 d2 g2)
 (cA g2 fun o2 p2=>
 ad (.arr 260) ⟨f2,0,none⟩ o2 fun q2=>
 aD Pg (Builtin.append_ #[22,22] 22 ⟨[(an t),(an b2)]⟩) kS p2 fun (s2:Sl) r2=>
 o2 r2∧
 aw 260 ⟨p,0,none⟩ q2 r2 fun t2=>
 o2 t2∧
 aa c2
 (R s2 (i64 (u+1)) 0 t2)
 (r s2 (i64 (u+1)) t2∧s s2 (i64 (u+1)) t2<s t u v)))) fun x=>
 cA v fun y z=>
 ad (.arr 260) ⟨k,0,none⟩ y fun a1=>
 ar c u 1 fun b1=>
 ad kI b1 y fun (c1:Int)=>
 (Cl Pg [(.arr 260),kI,kB] fk ⟨[(.agg a1),(ni c1)]⟩ z fun e1 (f1:Int) (g1:Bool) d1=>
 y d1∧
 Nw 145 ⟨List.replicate 258 (.int .u8 0)++ [(ni 0),(ni 0)]⟩ d1 fun i1 h1=>
 y h1∧
 aw 260 ⟨i1,0,none⟩ e1 h1 fun j1=>
 y j1∧
 x (⟨i1,0,none⟩) f1 g1 j1)∧
 (Nw 145 ⟨List.replicate 258 (.int .u8 0)++ [(ni 0),(ni 0)]⟩ z fun l1 k1=>
 y k1∧
 Cl Pg [(.arr 260),kI,kB] fk ⟨[(.agg a1),(ni c1)]⟩ k1 fun n1 (o1:Int) (p1:Bool) m1=>
 y m1∧
 aw 260 ⟨l1,0,none⟩ n1 m1 fun q1=>
 y q1∧
 x (⟨l1,0,none⟩) o1 p1 q1))
 (R (⟨none,0,0⟩:Sl) 0 50 v)):Cl Pg [kS,kI,kI] j5 ⟨[(ni a),(.agg b),(an c)]⟩ w R:=co Tryz.f53 [(8,[(6,kS),(7,kI)])] h
theorem zh.ok (a:Sl) (R:Sl→World→Prop) w (h:
 Cl Pg [kS] cu ⟨[(an a)]⟩ w fun (c:Sl) b=>
 Cl Pg [] ca ⟨[(an c)]⟩ b fun d=>
 R c d):Cl Pg [kS] gH ⟨[(an a)]⟩ w R:=co Tryz.f56 [] h
end Go.Proofs.YtcdpblipagajiaaGreat
namespace Go.Proofs.YtcdpblipagajiaaGreat
open Go Go.Vc
set_option maxRecDepth 100000
theorem Cq.ok (a:Sl) (R:Sl→World→Prop) w (h:
 Cl Pg [(.arr 257)] jI ⟨[]⟩ w fun c b=>
 Cl Pg [(.arr 257),kS,kI] lu ⟨[(.agg c),(an a)]⟩ b fun e (f:Sl) (g:Int) d=>
 Nw 110 ⟨List.replicate 256 (.int .u8 0)++ [(ni 0)]⟩ d fun i h=>
 aw 257 ⟨i,0,none⟩ e h fun j=>
 Ld (.arr 257) ⟨i,0,none⟩ j fun k=>
 Cl Pg [kS,kI] mI ⟨[(.agg k)]⟩ j fun (m:Sl) (n:Int) l=>
 aD Pg (Builtin.append_ #[33,33] 33 ⟨[(an f),(an m)]⟩) kS l fun (p:Sl) o=>
 R p o):Cl Pg [kS] mO ⟨[(an a)]⟩ w R:=co Tryz.f44 [] h
theorem Al.ok (a:(Array Value)) (b:Sl) (R:(Array Value)→Sl→Int→World→Prop) w (h:
 Nw 110 a w fun d c=>
 Nw 110 ⟨List.replicate 256 (.int .u8 0)++ [(ni 0)]⟩ c fun f e=>
 bo (fun (r:World)=>
 db (⟨none,0,0⟩:Sl) 0 r fun s t (u:Sl) (v:Int) x=>
 aa (decide (v<(b.len:Int)))
 (ar b v 1 fun y=>
 Ld (aL .u8) y x fun (z:Int)=>
 Ld (.arr 256) (Addr.add ⟨d,0,none⟩ 0) x fun a1=>
 Cl Pg [(.arr 256),kI] pW ⟨[(.agg a1),(.int .u8 z)]⟩ x fun c1 (d1:Int) b1=>
 aw 256 (Addr.add ⟨d,0,none⟩ 0) c1 b1 fun e1=>
 aa (d1==0)
 (Ld kI (Addr.add ⟨d,0,none⟩ 256) e1 fun (f1:Int)=>
 St (Addr.add ⟨d,0,none⟩ 256) (ni (i64 (f1+1))) e1 fun g1=>
 s u (i64 (v+1)) g1∧t u (i64 (v+1)) g1<t u v x)
 (Ld kI (Addr.add ⟨d,0,none⟩ 256) e1 fun (h1:Int)=>
 Cl Pg [kS,kI] fo ⟨[(ni h1)]⟩ e1 fun (j1:Sl) (k1:Int) i1=>
 aD Pg (Builtin.append_ #[33,33] 33 ⟨[(an u),(an j1)]⟩) kS i1 fun (m1:Sl) l1=>
 Nw 3 ⟨[(ni (i64 (d1+1)))]⟩ l1 fun o1 n1=>
 aD Pg (Builtin.append_ #[33,33] 33 ⟨[(an m1),(an (⟨some ⟨o1,0,none⟩,1,1⟩:Sl))]⟩) kS n1 fun (q1:Sl) p1=>
 St (Addr.add ⟨d,0,none⟩ 256) (ni 0) p1 fun r1=>
 s q1 (i64 (v+1)) r1∧t q1 (i64 (v+1)) r1<t u v x))
 (Ld (.arr 257) ⟨d,0,none⟩ x fun s1=>
 aw 257 ⟨f,0,none⟩ s1 x fun t1=>
 Ld (.arr 257) ⟨f,0,none⟩ t1 fun u1=>
 R u1 u 0 t1)) fun g=>
 Ld (.arr 257) ⟨d,0,none⟩ e fun h=>
 Cl Pg [kB] gP ⟨[(.agg h)]⟩ e fun (j:Bool) i=>
 aa (!j)
 (Ld (.arr 257) ⟨d,0,none⟩ i fun k=>
 aw 257 ⟨f,0,none⟩ k i fun l=>
 Ld (.arr 257) ⟨f,0,none⟩ l fun m=>
 R m (⟨none,0,0⟩:Sl) 2 l)
 (Ld kI (Addr.add ⟨d,0,none⟩ 256) i fun (n:Int)=>
 aa (decide ((b.len:Int)>(i64 ((2147483647:Int) - n))))
 (Ld (.arr 257) ⟨d,0,none⟩ i fun o=>
 aw 257 ⟨f,0,none⟩ o i fun p=>
 Ld (.arr 257) ⟨f,0,none⟩ p fun q=>
 R q (⟨none,0,0⟩:Sl) 2 p)
 (g i))):Cl Pg [(.arr 257),kS,kI] lu ⟨[(.agg a),(an b)]⟩ w R:=co Tryz.f89 [(2,[]),(14,[(7,kS),(27,kI)])] h
theorem Co.ok (R:(Array Value)→World→Prop) w (h:
 Nw 110 ⟨List.replicate 256 (.int .u8 0)++ [(ni 0)]⟩ w fun b a=>
 Cl Pg [(.arr 256)] nA ⟨[]⟩ a fun d c=>
 cO Pg 110 [(0,(.agg d))] fun e=>
 aw 257 ⟨b,0,none⟩ e c fun f=>
 Ld (.arr 257) ⟨b,0,none⟩ f fun g=>
 R g f):Cl Pg [(.arr 257)] jI ⟨[]⟩ w R:=co Tryz.f90 [] h
theorem CB.ok (a:(Array Value)) (R:Sl→Int→World→Prop) w (h:
 Nw 110 a w fun c b=>
 Ld (.arr 257) ⟨c,0,none⟩ b fun d=>
 Cl Pg [kB] gP ⟨[(.agg d)]⟩ b fun (f:Bool) e=>
 aa (!f)
 (R (⟨none,0,0⟩:Sl) 2 e)
 (Ld kI (Addr.add ⟨c,0,none⟩ 256) e fun (g:Int)=>
 Cl Pg [kS,kI] fo ⟨[(ni g)]⟩ e fun (i:Sl) (j:Int) h=>
 Nw 3 ⟨[(ni 257)]⟩ h fun l k=>
 aD Pg (Builtin.append_ #[33,33] 33 ⟨[(an i),(an (⟨some ⟨l,0,none⟩,1,1⟩:Sl))]⟩) kS k fun (n:Sl) m=>
 R n 0 m)):Cl Pg [kS,kI] mI ⟨[(.agg a)]⟩ w R:=co Tryz.f91 [] h
theorem ze.ok (a:(Array Value)) (R:Bool→World→Prop) w (h:
 Nw 110 a w fun c b=>
 cA b fun d e=>
 ad (.arr 257) ⟨c,0,none⟩ d fun f=>
 Cl Pg [(.arr 257)] jI ⟨[]⟩ e fun h g=>
 d g∧
 sA Pg 110 f h fun i=>
 aa i
 (R true g)
 (ad kI (Addr.add ⟨c,0,none⟩ 256) d fun (j:Int)=>
 aa (decide (j≥0))
 (ad kI (Addr.add ⟨c,0,none⟩ 256) d fun (k:Int)=>
 aa (decide (k≤2147483647))
 (ad (.arr 256) (Addr.add ⟨c,0,none⟩ 0) d fun l=>
 Cl Pg [kB] kG ⟨[(.agg l)]⟩ g fun (n:Bool) m=>
 d m∧
 R n m)
 (R false g))
 (R false g))):Cl Pg [kB] gP ⟨[(.agg a)]⟩ w R:=co Tryz.f133 [] h
end Go.Proofs.YtcdpblipagajiaaGreat
namespace Go.Proofs.YtcdpblipagajiaaGreat
open Go Go.Vc
set_option maxRecDepth 100000
theorem Iu.ok (a:(Array Value)) (b:Int) (R:(Array Value)→Int→World→Prop) w (h:
 Nw 108 a w fun d c=>
 Nw 108 ⟨List.replicate 256 (.int .u8 0)⟩ c fun f e=>
 aZ (⟨some ⟨d,0,none⟩,256,256⟩:Sl) 0 256 256 1 fun g=>
 Cl Pg [kI] lC ⟨[(an g),(.int .u8 b)]⟩ e fun (i:Int) h=>
 Ld (.arr 256) ⟨d,0,none⟩ h fun j=>
 Cl Pg [(.arr 256),(aL .u8),kB] lH ⟨[(.agg j),(ni i)]⟩ h fun l (m:Int) (n:Bool) k=>
 aw 256 ⟨f,0,none⟩ l k fun o=>
 Ld (.arr 256) ⟨f,0,none⟩ o fun p=>
 aw 256 ⟨f,0,none⟩ p o fun q=>
 Ld (.arr 256) ⟨f,0,none⟩ q fun r=>
 R r i q):Cl Pg [(.arr 256),kI] pW ⟨[(.agg a),(.int .u8 b)]⟩ w R:=co Tryz.f134 [] h
theorem HT.ok (R:(Array Value)→World→Prop) w (h:
 Nw 108 ⟨List.replicate 256 (.int .u8 0)⟩ w fun b a=>
 dN 0 a fun c d (e:Int) f=>
 aa (decide (e<256))
 (aI ⟨b,0,none⟩ 256 e 1 fun g=>
 St g (.int .u8 (u8 e)) f fun h=>
 c (i64 (e+1)) h∧d (i64 (e+1)) h<d e f)
 (Ld (.arr 256) ⟨b,0,none⟩ f fun i=>
 aw 256 ⟨b,0,none⟩ i f fun j=>
 Ld (.arr 256) ⟨b,0,none⟩ j fun k=>
 R k j)):Cl Pg [(.arr 256)] nA ⟨[]⟩ w R:=co Tryz.f136 [(5,[(2,kI)])] h
theorem E2.ok (a:(Array Value)) (R:Bool→World→Prop) w (h:
 Nw 108 a w fun c b=>
 Nw 171 ⟨List.replicate 256 (ni 0)⟩ b fun e d=>
 Ld (.arr 256) ⟨c,0,none⟩ d fun f=>
 dN 0 d fun g h (i:Int) j=>
 aa (decide (i<256))
 (eH (.int .u8) f 256 i fun (k:Int)=>
 aI ⟨e,0,none⟩ 256 k 1 fun l=>
 St l (ni 1) j fun m=>
 g (i64 (i+1)) m∧h (i64 (i+1)) m<h i j)
 (cA j fun n o=>
 ad (.arr 256) ⟨e,0,none⟩ n fun p=>
 Cl Pg [(.arr 256)] oW ⟨[]⟩ o fun r q=>
 n q∧
 tU .i64 256 p r fun s=>
 R s q)):Cl Pg [kB] kG ⟨[(.agg a)]⟩ w R:=co Tryz.f173 [(7,[(7,kI)])] h
theorem GD.ok (a:(Array Value)) (b:Int) (R:(Array Value)→Int→Bool→World→Prop) w (h:
 Nw 108 a w fun d c=>
 Nw 108 ⟨List.replicate 256 (.int .u8 0)⟩ c fun f e=>
 aa (decide (b<0))
 (Ld (.arr 256) ⟨d,0,none⟩ e fun g=>
 aw 256 ⟨f,0,none⟩ g e fun h=>
 Ld (.arr 256) ⟨f,0,none⟩ h fun i=>
 R i 0 false h)
 (aa (decide (b≥256))
 (Ld (.arr 256) ⟨d,0,none⟩ e fun j=>
 aw 256 ⟨f,0,none⟩ j e fun k=>
 Ld (.arr 256) ⟨f,0,none⟩ k fun l=>
 R l 0 false k)
 (ao e fun m=>
 Ld (.arr 256) ⟨d,0,none⟩ m fun n=>
 aI ⟨d,0,none⟩ 256 b 1 fun o=>
 Ld (aL .u8) o m fun (p:Int)=>
 aw 256 ⟨f,0,none⟩ n m fun q=>
 ao q fun r=>
 aZ (⟨some ⟨f,0,none⟩,256,256⟩:Sl) 1 (i64 (b+1)) 256 1 fun s=>
 aZ (⟨some ⟨d,0,none⟩,256,256⟩:Sl) 0 b 256 1 fun t=>
 aD Pg (Builtin.copy_ #[22,22] 3 ⟨[(an s),(an t)]⟩) kI r fun (v:Int) u=>
 aI ⟨f,0,none⟩ 256 0 1 fun x=>
 St x (.int .u8 p) u fun y=>
 Ld (.arr 256) ⟨f,0,none⟩ y fun z=>
 aw 256 ⟨f,0,none⟩ z y fun a1=>
 Ld (.arr 256) ⟨f,0,none⟩ a1 fun b1=>
 R b1 p true a1))):Cl Pg [(.arr 256),(aL .u8),kB] lH ⟨[(.agg a),(ni b)]⟩ w R:=co Tryz.f175 [] h
theorem GJ.ok (R:(Array Value)→World→Prop) w (h:
 Nw 171 ⟨List.replicate 256 (ni 0)⟩ w fun b a=>
 dN 0 a fun c d (e:Int) f=>
 aa (decide (e<256))
 (aI ⟨b,0,none⟩ 256 e 1 fun g=>
 St g (ni 1) f fun h=>
 c (i64 (e+1)) h∧d (i64 (e+1)) h<d e f)
 (Ld (.arr 256) ⟨b,0,none⟩ f fun i=>
 aw 256 ⟨b,0,none⟩ i f fun j=>
 Ld (.arr 256) ⟨b,0,none⟩ j fun k=>
 R k j)):Cl Pg [(.arr 256)] oW ⟨[]⟩ w R:=co Tryz.f198 [(5,[(2,kI)])] h
end Go.Proofs.YtcdpblipagajiaaGreat
namespace Go.Proofs.YtcdpblipagajiaaGreat
open Go Go.Vc
set_option maxRecDepth 100000
theorem uA.ok (a:Int) (R:Sl→Int→World→Prop) w (h:
 Nw 33 ⟨[(.slice none 0 0)]⟩ w fun c b=>
 aa (decide (a<0))
 (St ⟨c,0,none⟩ (.slice none 0 0) b fun d=>
 Ld kS ⟨c,0,none⟩ d fun (e:Sl)=>
 R e 2 d)
 (aa (decide (a>2147483647))
 (St ⟨c,0,none⟩ (.slice none 0 0) b fun f=>
 Ld kS ⟨c,0,none⟩ f fun (g:Sl)=>
 R g 2 f)
 (Cl Pg [kV] ob ⟨[(ni a)]⟩ b fun i h=>
 ek Pg i [kI] h (fun (j:Nat) (k:Nat→Obj) (o:Int) (l:World) (m n:World→Prop)=>
 om j k l fun p=>
 Ld kS ⟨c,0,none⟩ p fun (q:Sl)=>
 Nw 3 ⟨[(ni o)]⟩ p fun s r=>
 aD Pg (Builtin.append_ #[33,33] 33 ⟨[(an q),(an (⟨some ⟨s,0,none⟩,1,1⟩:Sl))]⟩) kS r fun (u:Sl) t=>
 St ⟨c,0,none⟩ (an u) t fun v=>
 km j k v m)
 (fun x y=>
 Ld kS ⟨c,0,none⟩ y fun (z:Sl)=>
 St ⟨c,0,none⟩ (an z) y fun a1=>
 gm (x:: []:List Nat) a1 fun b1=>
 Ld kS ⟨c,0,none⟩ b1 fun (c1:Sl)=>
 R c1 0 b1)
 (fun d1 e1=>
 gm (d1:: []:List Nat) e1 fun f1=>
 Ld kS ⟨c,0,none⟩ f1 fun (g1:Sl)=>
 R g1 0 f1)))):Cl Pg [kS,kI] fo ⟨[(ni a)]⟩ w R:=tf Tryz.f135 (.s .o (.s (.s .o (.c (.s .o .o) .o)) (.s (.s .o (.b (.r [kI] .o (.b .o)))) (.s .o .o)))) h
theorem zQ.ok (a:Int) (R:Value→World→Prop) w (h:
 Nw 3 ⟨[(ni a)]⟩ w fun c b=>
 R (.func (.func 200) ⟨[]⟩ ⟨[(.pointer (some ⟨c,0,none⟩))]⟩) b):Cl Pg [kV] ob ⟨[(ni a)]⟩ w R:=co Tryz.f176 [] h
theorem AK.ok (a:Int) (b:Int) (c:Int) (R:Int→Int→World→Prop) w (h:
 bo (fun (e:World)=>
 0≤b∧
 aa (decide ((i64 (a+(a8 .i64 (i64 ((1:Int)+c)) b)))>2147483647))
 (R 0 2 e)
 (R (i64 (a+(a8 .i64 (i64 ((1:Int)+c)) b))) 0 e)) fun d=>
 aa (decide (a<0))
 (R 0 2 w)
 (aa (decide (a>2147483647))
 (R 0 2 w)
 (aa (decide (b<0))
 (R 0 2 w)
 (aa (decide (b>30))
 (R 0 2 w)
 (aa (c !=0)
 (aa (c !=1)
 (R 0 2 w)
 (d w))
 (d w)))))):Cl Pg [kI,kI] iC ⟨[(ni a),(ni b),(ni c)]⟩ w R:=co Tryz.f193 [(2,[])] h
theorem um.ok (a:Value) (b:Addr) (R:World→Prop) w (h:
 ∃(c:World→Prop) (d:World→Nat),c w∧
 ∀(e:World),c e→
 Ld kI b e fun (f:Int)=>
 aa (decide (f>0))
 (Ld kI b e fun (g:Int)=>
 jR Pg a [kB] [(ni (bl .i64 (i64 (g - 1)) 1))] e fun (i:Bool) h=>
 aa (!i)
 (R h)
 (Ld kI b h fun (j:Int)=>
 0≤(1:Int)∧
 St b (ni (aF .i64 (i64 (j - 1)) (1:Int))) h fun k=>
 ([]:List Nat)=([]:List Nat)∧c k∧d k<d e))
 (R e)):Cl Pg [] me ⟨[a,(.pointer (some b))]⟩ w R:=tf Tryz.f200 (.b (.l [] (.s (.s .o (.c .o .o)) (.s (.b (.s .o (.c .o .o))) .o)))) h
end Go.Proofs.YtcdpblipagajiaaGreat
set_option maxRecDepth 20000
namespace Go.Vc
open Go
section
variable {E w:World} {l:List HP} {b n k o:Nat} {L r:List Value} {t:TypeId} {fr:Nat×Nat} {put:Obj→List HP}
theorem jN (hL:L.length=n):(L++r)[k+n]? =r[k]? :=by
 rw [List.getElem?_append_right (by omega)]
 congr 1;omega
theorem BE: ∀{L r:List Value} {n k:Nat} {vs:List Value},L.length=n→ah (L++r) (k+n) vs=L++ah r k vs
 | [],r,n,k,vs,h=>by
  have:n=0:=by simpa using h.symm
  subst this;rfl
 |a::L,r,n,k,vs,h=>by
  obtain ⟨m,rfl⟩: ∃m,n=m+1:=⟨L.length,by simpa using h.symm⟩
  rw [show k+(m+1)=(k+m)+1 by omega,List.cons_append,ah,BE (by simpa using h)]
  rfl
theorem ad.q {S:World→Prop} {s:Sc} {K:s.T→Prop} {x:s.T} (hS: ∀w,S w→bF b ⟨L++r⟩ t fr w) (hL:L.length=n) (ho:o=k+n) (hx:r[k]? =some (s.enc x)) (hK:K x):ad (.sc s) ⟨b,o,none⟩ S K:=by
 subst ho
 exact ad.xb hS ((jN hL).trans hx) hK
theorem Ld.q {s:Sc} {K:s.T→Prop} {x:s.T} [bC b l ⟨L++r⟩ t fr put] (h:Hp E w l) (hL:L.length=n) (ho:o=k+n) (hx:r[k]? =some (s.enc x)) (hK:K x):Ld (.sc s) ⟨b,o,none⟩ w K:=
 ad.q (fun w' hw=>by rw [hw];exact h.fb) hL ho hx hK
theorem ad.p {S:World→Prop} {K:Array Value→Prop} (hS: ∀w,S w→bF b ⟨L++r⟩ t fr w) (hL:L.length=n) (hK:K ⟨L⟩):ad (.arr n) ⟨b,0,none⟩ S K:=
 ad.xa (mid:=L) (post:=r) hS rfl hL hK
theorem Ld.p {K:Array Value→Prop} [bC b l ⟨L++r⟩ t fr put] (h:Hp E w l) (hL:L.length=n) (hK:K ⟨L⟩):Ld (.arr n) ⟨b,0,none⟩ w K:=
 ad.p (fun w' hw=>by rw [hw];exact h.fb) hL hK
theorem Ld.qw {m:Nat} {K:Array Value→Prop} [bC b l ⟨L++r⟩ t fr put] (h:Hp E w l) (hL:L.length=n) (hm:n+r.length=m) (hK:K ⟨L++r⟩):Ld (.arr m) ⟨b,0,none⟩ w K:=
 Ld.xw h (by simp [hL,hm]) hK
theorem ad.qw {S:World→Prop} {m:Nat} {K:Array Value→Prop} (hS: ∀w,S w→bF b ⟨L++r⟩ t fr w) (hL:L.length=n) (hm:n+r.length=m) (hK:K ⟨L++r⟩):ad (.arr m) ⟨b,0,none⟩ S K:=
 ad.xw hS (by simp [hL,hm]) hK
theorem St.q {v:Value} {K:World→Prop} [bC b l ⟨L++r⟩ t (0,0) put] (h:Hp E w l) (hL:L.length=n) (ho:o=k+n) (hb:Nat.ble (k+1) r.length=true) (hv:ay v=true)
  (hK: ∀w',Hp E w' (put (.cells ⟨L++ah r k [v]⟩ t (0,0)))→K w'):St ⟨b,o,none⟩ v w K:=by
 subst ho
 have hb':=Nat.le_of_ble_eq_true hb
 refine St.xs h (Nat.ble_eq_true_of_le (by simp;omega)) hv fun w' h'=>hK w' ?_
 rw [show (⟨L++r⟩:Array Value).toList=L++r from rfl,BE hL] at h'
 exact h'
theorem aw.q {m:Nat} {cs:Array Value} {c:Array Value} {K:World→Prop} [bC b l c t (0,0) put] (h:Hp E w l) (hc:c.size=m) (hcs:cs.size=m) (hv:cs.toList.all ay=true)
  (hK: ∀w',Hp E w' (put (.cells cs t (0,0)))→K w'):aw m ⟨b,0,none⟩ cs w K:=aw.xw h hc hcs (List.all_eq_true.1 hv) hK
theorem St.g {v:Value} {K:World→Prop} [bC b l ⟨L++r⟩ t (0,0) put] (h:Hp E w l) (ho:o<L.length) (hv:ay v=true)
  (hK: ∀w',Hp E w' (put (.cells ⟨L.set o v++r⟩ t (0,0)))→K w'):St ⟨b,o,none⟩ v w K:=by
 refine St.xb h (by simp;omega) hv fun w' h'=>hK w' ?_
 have:(⟨L++r⟩:Array Value).setIfInBounds o v=⟨L.set o v++r⟩:=by
  apply Array.ext'
  rw [Array.toList_setIfInBounds,List.set_append_left _ _ ho]
 rwa [this] at h'
theorem Ld.g {s:Sc} {K:s.T→Prop} {x:s.T} [bC b l ⟨L++r⟩ t fr put] (h:Hp E w l) (hx:L[o]? =some (s.enc x)) (hK:K x):Ld (.sc s) ⟨b,o,none⟩ w K:=by
 refine Ld.xb h ?_ hK
 have:o<L.length:=by
  rcases Nat.lt_or_ge o L.length with h|h
  ·exact h
  ·rw [List.getElem?_eq_none h] at hx;cases hx
 rw [show (⟨L++r⟩:Array Value).toList=L++r from rfl,List.getElem?_append_left this,hx]
end
end Go.Vc
