/- Texts packed together by program; spaces struck by program. Conditions: as each theorem states. -/
import Derived.Carry
import Derived.Laws.AppendOwn
import Derived.Laws.BytesArg
import Derived.Laws.CopyRow
import Derived.Laws.IdiomCopy
import Derived.Laws.IdiomStrings
import Derived.Laws.MakeOwn
import Derived.Lib.BytesEntry
import Derived.Lib.MakeNoZero
import Derived.MapKept
import Derived.OpenShut
import Derived.OrdersIn
import Derived.ProofKit
import Derived.RangeFuncRecord
import Derived.ScopeJumps
import Derived.SizedLaws
import Derived.TacticsIn
import Derived.Test.YtgglghjnakclmaaGreatChecked
import Derived.Test.YtgglghjnakclmaaGreatQda
set_option linter.unusedSimpArgs false
set_option linter.unusedVariables false
namespace Go.Vc
open Go
noncomputable section
variable {nn:Nat} {dfs:List Deferred}
abbrev FW (ro:Option Nat):Fence:={Fence.wide with round:=ro}
def KZ (P:Program) (l:Nat) (args:List Value) (w:World) (K:Bool→World→Prop):Prop:=
 ∃fn tmps assign body,(Instr.yield l ⟨args⟩).run P w= .ok (.round l fn tmps assign body) w∧
  RoundIn Fence.wide 0 P l fn tmps assign body w fun e w'=> ∃b,e= .returned (.bool b)∧K b w'
def lD (P:Program) (v:Value) (ks:List Ki) (args:List Value) (w:World) (K:eC ks (World→Prop)):Prop:=
 match v with
 | .func (.func i) first captured=>de P (.func (.func i) first captured) ks args w K
 | .func (.yield l) first _=>KZ P l (first.toList++args) w fun b w'=>fE ks (.bool b) K w'
 |_=>False
def uk (P:Program) (f:AF) (o:Oper) (w:World) (K:Option Value→World→Prop):Prop:=
 match o.op with
 | .call c=>match c.callee with
  | .value x=>match ev f x,nC f c.args.toList,u4 P o.type with
   |some v,some vs,some ks=>lD P v ks vs w (eE ks [] fun us w'=>K (some (dr us)) w')
   |_,_,_=>False
  |_=>fy P f o w K
 |_=>fy P f o w K
theorem GR {P:Program} {l:Nat} {args:List Value} {w:World} {K K':Bool→World→Prop} (h1: ∀b w,K b w→K' b w) (h:KZ P l args w K):KZ P l args w K':=by
 obtain ⟨fn,tmps,assign,body,h2,h3⟩:=h
 exact ⟨fn,tmps,assign,body,h2,h3.mono fun e w' ⟨b,e1,e2⟩=>⟨b,e1,h1 _ _ e2⟩⟩
theorem HQ {P:Program} {v:Value} {ks:List Ki} {args:List Value} {w:World} {g g':List Value→World→Prop} (h1: ∀vs w,g vs w→g' vs w) (h:lD P v ks args w (eE ks [] g)):lD P v ks args w (eE ks [] g'):=by
 unfold lD at h⊢
 split at h
 ·exact zF (v:= .func (.func _) _ _) h1 h
 ·exact GR (fun b w h=>fh (fun vs h=>h1 vs w h) h) h
 ·exact h.elim
theorem yc {P:Program} {f:AF} {o:Oper} {w:World} {K K':Option Value→World→Prop} (h1: ∀v w,K v w→K' v w) (h:uk P f o w K):uk P f o w K':=by
 unfold uk at h⊢
 split at h
 ·split at h
  ·split at h
   ·exact HQ (fun vs w h=>h1 _ _ h) h
   ·exact h.elim
  ·exact cu h1 h
 ·exact cu h1 h
theorem Db {P:Program} {ro:Option Nat} {n:Nat} {o:Oper} {a:Act} {w:World} {next:Act→World→Prop} {Q:Exit→Act→World→Prop} (hd: ∀c,o.op≠ .defer c) (h:o.wp P a w next Q):o.wpIn (FW ro) n P a w next Q:=by
 refine ⟨fun _ _=>trivial,?_⟩
 have e:o.semAt (FW ro).round a.eval=execOp a.eval o:=by
  cases ro with
  |none=>rfl
  |some l=>exact Oper.semAt_some l _ _ hd
 rw [e]
 unfold Oper.wp at h
 generalize (execOp a.eval o).run P w=r at h
 cases r with
 |ok x w'=>
  cases x<;>simp only [Oper.upon] at h<;>first|exact h.elim|exact h|skip
  ·exact ⟨fun hh=>(by cases hh),(callsIn_wide (n:=n - 1)).2 (h.mono fun e w'' he=>by cases e<;>exact he)⟩
  ·refine ⟨fun hh=>(by cases hh),fun c cs _=> ?_⟩
   obtain ⟨v,w',hr,hs⟩:=h c cs
   exact ⟨v,w',hr,stepsIn_wide.2 hs⟩
 |halt x w'=>cases x<;>simp only [Oper.upon] at h<;>first|exact h.elim|exact h
theorem yD {P:Program} {ro:Option Nat} {n:Nat} {w:World} {a:Act} {f:AF} (hr:Rel nn dfs a f) {o:Oper} {K:Option Value→World→Prop} (h:uk P f o w K)
  {next:Act→World→Prop} {Q:Exit→Act→World→Prop} (hn: ∀v ov w',K ov w'→(∀v',ov=some v'→v=v')→next (a.put o.dst v) w'):o.wpIn (FW ro) n P a w next Q:=by
 obtain ⟨dst,op,ty,pos,after,guard⟩:=o
 unfold uk at h
 simp only at h hn
 have plain:fy P f ⟨dst,op,ty,pos,after,guard⟩ w K→(∀c,op≠ .defer c)→Oper.wpIn (FW ro) n P ⟨dst,op,ty,pos,after,guard⟩ a w next Q:=fun h hd=>Db hd (nj hr h hn)
 split at h
 ·rename_i c
  split at h
  ·rename_i x hx0
   split at h
   ·rename_i v vs ks hx hvs hks
    obtain ⟨callee,args,tys⟩:=c
    simp only at hx0 hvs
    subst hx0
    have cv:de P v ks vs w (eE ks [] fun us w'=>K (some (dr us)) w')→Oper.wpIn (FW ro) n P ⟨dst,.call ⟨.value x,args,tys⟩,ty,pos,after,guard⟩ a w next Q:=fun h=>by
     refine plain ?_ (fun c=>by simp)
     unfold fy
     simp only [dp,oJ,hx,hvs,hks]
     exact h
    unfold lD at h
    split at h
    ·exact cv h
    ·rename_i l first captured
     obtain ⟨fn,tmps,assign,body,h1,h2⟩:=h
     refine ⟨fun _ _=>trivial,?_⟩
     have e:Oper.semAt (FW ro).round a.eval ⟨dst,.call ⟨.value x,args,tys⟩,ty,pos,after,guard⟩=execOp a.eval ⟨dst,.call ⟨.value x,args,tys⟩,ty,pos,after,guard⟩:=by
      cases ro with
      |none=>rfl
      |some l=>exact Oper.semAt_some l _ _ (fun c=>by simp)
     have he:(execOp a.eval ⟨dst,.call ⟨.value x,args,tys⟩,ty,pos,after,guard⟩).run P w= .ok (.round l fn tmps assign body) w:=by
      simp only [execOp,resolve,Sem.run_bind,hr.ev hx,Deferred.ofValue,Sem.run_pure,Result.andThen_ok,invoke,gp hr hvs]
      rw [←h1]
      congr 2
      cases first;simp
     rw [e,he]
     refine ⟨fun hh=>(by cases hh),?_⟩
     refine RoundIn.mono (R:=fun e w'=> ∃b,e= .returned (.bool b)∧fE ks (.bool b) (eE ks [] fun us w'=>K (some (dr us)) w') w') ⟨h2.1,fun c cs _=>h2.2 c cs (room_wide _)⟩ ?_
     rintro e w' ⟨b,rfl,hb⟩
     obtain ⟨us,e1,e2⟩:=fx hb
     have:=hn (.bool b) (some (dr us)) w' e2 (fun v' e=>by rw [e1];simpa using e)
     exact this
    ·exact h.elim
   ·exact h.elim
  ·refine plain h (fun c=>by simp)
 ·rename_i op' hop
  refine plain h (fun c hc=> ?_)
  subst hc
  unfold fy at h
  simp only [dp,oJ] at h
def p7 (P:Program) (ops:Array Oper):List Oper→AF→World→(AF→World→Prop)→Prop
 | [],f,w,K=>K f w
 |o::rest,f,w,K=>guarded ops o f (fun f=>uk P f o w fun v w'=>p7 P ops rest (bf f o.dst v) w' K) (fun f=>p7 P ops rest (bf f o.dst (some undef)) w K)
theorem q6 {P:Program} {ro:Option Nat} {n:Nat} {ops:Array Oper} {Q:Exit→Act→World→Prop} {K:AF→World→Prop} (hQ: ∀a f w,Rel nn dfs a f→K f w→Q .normal a w):
  ∀(l:List Oper) (f:AF) (w:World) (a:Act),Rel nn dfs a f→p7 P ops l f w K→wpListIn (FW ro) n P ops Q l a w
 | [],f,w,a,hr,h=>hQ a f w hr h
 |o::rest,f,w,a,hr,h=>by
  obtain ⟨f',hr',h1|h1⟩:=cY hr h
  ·simp only [wpListIn,h1.1,if_true]
   exact yD hr' h1.2 fun v ov w' hK hv=>q6 hQ rest _ w' _ (hr'.put o.dst hv) hK
  ·simp only [wpListIn,h1.1]
   exact ⟨fun _ _=>trivial,q6 hQ rest _ w _ (hr'.put o.dst (fun v' e=>by simpa using e)) h1.2⟩
theorem nA {P:Program} {ops:Array Oper} {K K':AF→World→Prop} {f0:AF} (hk: ∀f w,aA (gd ops.toList) f0 f→K f w→K' f w): ∀(l:List Oper) (f:AF) (w:World),(∀o∈l,o∈ops.toList)→aA (gd ops.toList) f0 f→p7 P ops l f w K→p7 P ops l f w K'
 | [],f,w,_,hs,h=>hk f w hs h
 |o::rest,f,w,hl,hs,h=>by
  have ho:=hl o (by simp)
  have hr: ∀o∈rest,o∈ops.toList:=fun o' h'=>hl o' (by simp [h'])
  refine cX (fun g hg h=>yc (fun v w h=>nA hk rest _ w hr ((hs.trans hg).trans (aA.bf v fun d hd=>bW ho hd)) h) h)
   (fun g hg h=>nA hk rest _ w hr ((hs.trans hg).trans (aA.bf _ fun d hd=>bW ho hd)) h) h
def mA (P:Program) (ops:Array Oper) (K:AF→World→Prop):Nat→Array Bool→AF→World→Prop
 |0,listed,f,w=>dy (Region.ready .any ops listed).isEmpty (K f w)
 |n+1,listed,f,w=>match Region.ready .any ops listed with
  | []=>K f w
  |r::rs=>qD (r::rs) fun i=>match ops[i]? with
   |some o=>guarded ops o f (fun f=>uk P f o w fun v w'=>mA P ops K n (listed.setIfInBounds i true) (bf f o.dst v) w') (fun f=>mA P ops K n (listed.setIfInBounds i true) (bf f o.dst (some undef)) w)
   |none=>False
theorem rE {P:Program} {ro:Option Nat} {m:Nat} {ops:Array Oper} {Q:Exit→Act→World→Prop} {K:AF→World→Prop} (hQ: ∀a f w,Rel nn dfs a f→K f w→Q .normal a w):
  ∀(n:Nat) (listed:Array Bool) (f:AF) (w:World) (a:Act),Rel nn dfs a f→mA P ops K n listed f w→wpAnyIn (FW ro) m P .any ops Q n listed a w
 |0,listed,f,w,a,hr,h=>by
  obtain ⟨h1,h2⟩:=aY h
  exact ⟨by simpa using h1,hQ _ _ _ hr h2⟩
 |n+1,listed,f,w,a,hr,h=>by
  unfold mA at h
  split at h
  ·rename_i he
   exact ⟨fun _=>hQ _ _ _ hr h,by rw [he];simp⟩
  ·rename_i r rs he
   refine ⟨fun h0=>absurd h0 (by rw [he];simp),fun i hi=> ?_⟩
   rw [he] at hi
   have h0:=qY h i hi
   unfold wpOpIn
   split at h0
   ·rename_i o ho
    simp only [ho]
    obtain ⟨f',hr',h1|h1⟩:=cY hr h0
    ·rw [if_pos h1.1]
     exact yD hr' h1.2 fun v ov w' hK hv=>rE hQ n _ _ w' _ (hr'.put o.dst hv) hK
    ·rw [if_neg (by rw [h1.1];simp)]
     exact ⟨fun _ _=>trivial,rE hQ n _ _ w _ (hr'.put o.dst (fun v' e=>by simpa using e)) h1.2⟩
   ·exact h0.elim
theorem o0 {P:Program} {ops:Array Oper} {K K':AF→World→Prop} {f0:AF} (hk: ∀f w,aA (gd ops.toList) f0 f→K f w→K' f w): ∀(n:Nat) (listed:Array Bool) (f:AF) (w:World),aA (gd ops.toList) f0 f→mA P ops K n listed f w→mA P ops K' n listed f w
 |0,listed,f,w,hs,h=>by
  obtain ⟨h1,h2⟩:=aY h
  unfold mA
  rw [h1];exact hk _ _ hs h2
 |n+1,listed,f,w,hs,h=>by
  unfold mA at h⊢
  split at h
  ·exact hk _ _ hs h
  ·refine oE (fun i h=> ?_) h
   split at h
   ·rename_i o ho
    have hom:o∈ops.toList:=by simpa using Array.mem_of_getElem? ho
    exact cX (fun g hg h=>yc (fun v w h=>o0 hk n _ _ w ((hs.trans hg).trans (aA.bf v fun d hd=>bW hom hd)) h) h)
     (fun g hg h=>o0 hk n _ _ w ((hs.trans hg).trans (aA.bf _ fun d hd=>bW hom hd)) h) h
   ·exact h.elim
def A6 {β:Type}:(ks:List Ki)→eC ks β→(List Value→β→Prop)→Prop
 | [],b,G=>G [] b
 |k::ks,b,G=> ∀x:k.T,A6 ks (b x) fun vs b=>G (k.enc x::vs) b
def HV {β:Type}:(ks:List Ki)→(List Value→β)→eC ks β
 | [],g=>g []
 |k::ks,g=>fun x=>HV ks fun vs=>g (k.enc x::vs)
def wx (l:Nat) (rec:Nat→Obj) (w:World) (K:World→Prop):Prop:=w.heap[l]? =some (rec 0)∧K (w.putObj l (rec 1))
def qN (l:Nat) (rec:Nat→Obj) (w:World) (K:World→Prop):Prop:=w.heap[l]? =some (rec 1)∧K (w.putObj l (rec 0))
def GH (l:Nat) (rec:Nat→Obj) (w:World) (K:World→Prop):Prop:=w.heap[l]? =some (rec 1)∧K (w.putObj l (rec 2))
def gm (P:Program) (v:Value) (ks:List Ki) (w:World) (B:Nat→(Nat→Obj)→eC ks (World→(World→Prop)→(World→Prop)→Prop)) (K Kr:Nat→World→Prop):Prop:=
 ∀(rec:Nat→Obj) (yv:Value),
  (∀(R:Bool→World→Prop) (w2:World),A6 ks (B (w.heap.size+1) rec) fun vs b=>w2.heap[w.heap.size+1]? =some (rec 0)→b w2 (R true) (R false)→lD P yv [kB] vs w2 R)→
  rh P v [] [yv] ((w.alloc (.deferred (some []))).alloc (rec 0)) fun w3=>
   (w3.heap[w.heap.size+1]? =some (rec 0)∧K w.heap.size (w3.putObj (w.heap.size+1) (rec 3)))∨(w3.heap[w.heap.size+1]? =some (rec 2)∧Kr w.heap.size (w3.putObj (w.heap.size+1) (rec 4)))
theorem H2 {P:Program} {v:Value} {ks:List Ki} {w:World} {B:Nat→(Nat→Obj)→eC ks (World→(World→Prop)→(World→Prop)→Prop)} {K K' Kr Kr':Nat→World→Prop} (h1: ∀D w,K D w→K' D w) (h2: ∀D w,Kr D w→Kr' D w)
  (h:gm P v ks w B K Kr):gm P v ks w B K' Kr':=fun rec yv hy=>
 He (ks:= []) (g:=fun _ w3=>(w3.heap[w.heap.size+1]? =some (rec 0)∧K w.heap.size (w3.putObj (w.heap.size+1) (rec 3)))∨(w3.heap[w.heap.size+1]? =some (rec 2)∧Kr w.heap.size (w3.putObj (w.heap.size+1) (rec 4))))
  (g':=fun _ w3=>(w3.heap[w.heap.size+1]? =some (rec 0)∧K' w.heap.size (w3.putObj (w.heap.size+1) (rec 3)))∨(w3.heap[w.heap.size+1]? =some (rec 2)∧Kr' w.heap.size (w3.putObj (w.heap.size+1) (rec 4))))
  (fun _ _ h=>h.elim (fun h=> .inl ⟨h.1,h1 _ _ h.2⟩) (fun h=> .inr ⟨h.1,h2 _ _ h.2⟩)) (h rec yv hy)
def zj:AF→List Nat→List Value→Option AF
 |f,[],[]=>some f
 |f,p::ps,v::vs=>zj (bo f p (some v)) ps vs
 |_,_,_=>none
inductive jr where
 |o|s (p q:jr)|c (p q:jr)|b (p:jr)|l (live:List (Nat×Ki)) (p:jr)|r (ks:List Ki) (p q:jr)
def gX:Code→Bool
 | .seq a b=>gX a||gX b
 | .cond _ a b=>gX a||gX b
 | .block _ a=>gX a
 | .loop a=>gX a
 | .scope a=>gX a
 | .rangeFunc _ _ _ _=>true
 |_=>false
def sI (next:AF→List Nat→World→Prop) (Q:Exit→AF→List Nat→World→Prop):Exit→AF→List Nat→World→Prop
 | .normal,f,ms,w=>next f ms w
 |e,f,ms,w=>Q e f ms w
def AM (id:Nat) (Q:Exit→AF→List Nat→World→Prop):Exit→AF→List Nat→World→Prop
 | .exit i,f,ms,w=>match i==id with|true=>Q .normal f ms w|false=>Q (.exit i) f ms w
 |e,f,ms,w=>Q e f ms w
def KV (l:Nat) (rec:Nat→Obj) (Kt Kf:World→Prop):Exit→AF→List Nat→World→Prop
 | .normal,_,_,w=>qN l rec w Kt
 | .ret,_,_,w=>GH l rec w Kf
 |_,_,_,_=>False
def GP:jr→Bool
 | .b _=>true
 |_=>false
def hJ (P:Program) (n:Nat) (rd:Bool):Code→jr→(Exit→AF→List Nat→World→Prop)→AF→List Nat→World→Prop
 | .skip,_,Q,f,ms,w=>Q .normal f ms w
 | .region _ ops d,p,Q,f,ms,w=>match d,rd with
  |false,_=>p7 P ops ops.toList f w fun f w=>Q .normal f ms w
  |true,false=>match GP p with
   |true=>zE P ops f w fun f w=>Q .normal f ms w
   |false=>qx P ops true f w fun f w=>Q .normal f ms w
  |true,true=>aJ w fun w'=>mA P ops (fun f w=>Q .normal f ms w) ops.size (Array.replicate ops.size false) f w'
 | .seq x y,.s p q,Q,f,ms,w=>hJ P n rd x p (sI (fun f ms w=>hJ P n rd y q Q f ms w) Q) f ms w
 | .cond c x y,.c p q,Q,f,ms,w=>match ev f c with
  |some (.bool b)=>aa b (hJ P n rd x p Q f ms w) (hJ P n rd y q Q f ms w)
  |_=>False
 | .block id c,.b p,Q,f,ms,w=>hJ P n rd c p (AM id Q) f ms w
 | .loop c,.l live p,Q,f,ms,w=>dy (zt live (writes c)) (match gX c with
  |false=> ∃(I:fL live (World→Prop)) (m:fL live (World→Nat)),leaf live I f w∧
    nb live I m (forget (writes c) f) fun I0 m0 f=> ∀w,I0 w→hJ P n rd c p (sI (fun f ms2 w'=>ms2=ms∧iq live I m (m0 w) f w') Q) f ms w
  |true=> ∃(I:List Nat→fL live (World→Prop)) (m:fL live (World→Nat)),leaf live (I ms) f w∧
    ∀ms,nb live (I ms) m (forget (writes c) f) fun I0 m0 f=> ∀w,I0 w→hJ P n rd c p (sI (fun f ms2 w'=>iq live (I ms2) m (m0 w) f w') Q) f ms w)
 | .rangeFunc g ps assign body,.r ks p q,Q,f,ms,w=>match rd with
  |true=>False
  |false=>match ev f g with
   |some v=>gm P v ks w (fun l rec=>HV ks fun vs w2 Kt Kf=>match zj f ps.toList vs with
     |some f'=>hJ P n true assign p (sI (fun f ms w=>wx l rec w fun w=>hJ P n true body q (KV l rec Kt Kf) f ms w) (fun _ _ _ _=>False)) f' [] w2
     |none=>False) (fun D w'=>Q .normal f (D::ms) w') (fun D w'=>Q .ret f (D::ms) w')
   |none=>False
 | .exit id,_,Q,f,ms,w=>Q (.exit id) f ms w
 | .ret,_,Q,f,ms,w=>Q .ret f ms w
 | .label _,_,Q,f,ms,w=>Q .normal f ms w
 |_,_,_,_,_,_=>False
theorem uS {body body':(World→Prop)→(World→Nat)→AF→Prop}: ∀{l:List (Nat×Ki)} {I:fL l (World→Prop)} {m:fL l (World→Nat)} {g:AF},(∀I m g,body I m g→body' I m g)→nb l I m g body→nb l I m g body'
 | [],_,_,_,hb,h=>hb _ _ _ h
 |(_,_)::_,_,_,_,hb,h=>fun x=>uS hb (h x)
theorem fT {P:Program} {n:Nat} {rd:Bool}: ∀(c:Code) (p:jr) {Q Q':Exit→AF→List Nat→World→Prop} {f0:AF} (_: ∀e f ms w,aA (writes c) f0 f→Q e f ms w→Q' e f ms w) (ms:List Nat) (w:World),hJ P n rd c p Q f0 ms w→hJ P n rd c p Q' f0 ms w
 | .skip,_,_,_,_,hq,ms,w,h=>hq _ _ _ _ (aA.refl _ _) h
 | .region _ ops d,p,_,_,_,hq,ms,w,h=>by
  unfold hJ at h⊢
  cases d
  ·exact nA (fun f w hs h=>hq _ f ms w hs h) _ _ _ (fun _ h=>h) (aA.refl _ _) h
  ·cases rd
   ·cases hd:GP p with
    |true=>
     rw [hd] at h
     exact bu (fun h=>fe (fun f w hs h=>hq _ f ms w hs h) _ _ _ _ (aA.refl _ _) h) h
    |false=>
     rw [hd] at h
     exact tP (fun f w hs h=>hq _ f ms w hs h) h
   ·exact o0 (fun f w hs h=>hq _ f ms w hs h) _ _ _ _ (aA.refl _ _) h
 | .seq x y,.s p q,Q,Q',f0,hq,ms,w,h=>by
  refine fT x p (fun e f ms w hs h=> ?_) ms w h
  have hs':aA (writes (.seq x y)) f0 f:=hs.mono fun s h=>List.mem_append.2 (.inl h)
  cases e with
  |normal=>exact fT y q (fun e f' ms w hs2 h=>hq e f' ms w (hs'.trans (hs2.mono fun s h=>List.mem_append.2 (.inr h))) h) ms w h
  |_=>exact hq _ f ms w hs' h
 | .cond c x y,.c p q,Q,Q',f0,hq,ms,w,h=>by
  unfold hJ at h⊢
  split at h
  ·exact jA (fT x p (fun e f ms w hs h=>hq e f ms w (hs.mono fun s h=>List.mem_append.2 (.inl h)) h) ms w) (fT y q (fun e f ms w hs h=>hq e f ms w (hs.mono fun s h=>List.mem_append.2 (.inr h)) h) ms w) h
  ·exact h.elim
 | .block id c,.b p,Q,Q',f0,hq,ms,w,h=>by
  refine fT c p (fun e f ms w hs h=> ?_) ms w h
  cases e with
  |exit i=>
   simp only [AM] at h⊢
   split at h
   ·exact hq _ f ms w hs h
   ·exact hq _ f ms w hs h
  |_=>exact hq _ f ms w hs h
 | .loop c,.l live p,Q,Q',f0,hq,ms,w,h=>by
  unfold hJ at h⊢
  obtain ⟨hl,h⟩:=aY h
  rw [hl]
  show (match gX c with|false=>_|true=>_:Prop)
  cases hc:gX c with
  |false=>
   rw [hc] at h
   obtain ⟨I,m,h0,h1⟩:=h
   refine ⟨I,m,h0,uS (fun I0 m0 g hb w hI=> ?_) (jO (fun s k hk=>aA.uw hl hk) (fun s hs=>dX hs) h1)⟩
   refine fT c p (fun e f' ms' w hs2 h=> ?_) ms w (hb.2 w hI)
   cases e with
   |normal=>exact h
   |_=>exact hq _ f' ms' w (hb.1.trans hs2) h
  |true=>
   rw [hc] at h
   obtain ⟨I,m,h0,h1⟩:=h
   refine ⟨I,m,h0,fun ms=>uS (fun I0 m0 g hb w hI=> ?_) (jO (fun s k hk=>aA.uw hl hk) (fun s hs=>dX hs) (h1 ms))⟩
   refine fT c p (fun e f' ms' w hs2 h=> ?_) ms w (hb.2 w hI)
   cases e with
   |normal=>exact h
   |_=>exact hq _ f' ms' w (hb.1.trans hs2) h
 | .rangeFunc g ps assign body,.r ks p q,Q,Q',f0,hq,ms,w,h=>by
  unfold hJ at h⊢
  cases rd
  ·simp only at h⊢
   split at h
   ·exact H2 (fun D w h=>hq _ _ _ _ (aA.refl _ _) h) (fun D w h=>hq _ _ _ _ (aA.refl _ _) h) h
   ·exact h.elim
  ·exact h.elim
 | .exit id,_,_,_,_,hq,ms,w,h=>hq _ _ _ _ (aA.refl _ _) h
 | .ret,_,_,_,_,hq,ms,w,h=>hq _ _ _ _ (aA.refl _ _) h
 | .label _,_,_,_,_,hq,ms,w,h=>hq _ _ _ _ (aA.refl _ _) h
 | .seq _ _,.o,_,_,_,_,_,_,h=>h.elim
 | .seq _ _,.c _ _,_,_,_,_,_,_,h=>h.elim
 | .seq _ _,.b _,_,_,_,_,_,_,h=>h.elim
 | .seq _ _,.l _ _,_,_,_,_,_,_,h=>h.elim
 | .seq _ _,.r _ _ _,_,_,_,_,_,_,h=>h.elim
 | .cond _ _ _,.o,_,_,_,_,_,_,h=>h.elim
 | .cond _ _ _,.s _ _,_,_,_,_,_,_,h=>h.elim
 | .cond _ _ _,.b _,_,_,_,_,_,_,h=>h.elim
 | .cond _ _ _,.l _ _,_,_,_,_,_,_,h=>h.elim
 | .cond _ _ _,.r _ _ _,_,_,_,_,_,_,h=>h.elim
 | .block _ _,.o,_,_,_,_,_,_,h=>h.elim
 | .block _ _,.s _ _,_,_,_,_,_,_,h=>h.elim
 | .block _ _,.c _ _,_,_,_,_,_,_,h=>h.elim
 | .block _ _,.l _ _,_,_,_,_,_,_,h=>h.elim
 | .block _ _,.r _ _ _,_,_,_,_,_,_,h=>h.elim
 | .loop _,.o,_,_,_,_,_,_,h=>h.elim
 | .loop _,.s _ _,_,_,_,_,_,_,h=>h.elim
 | .loop _,.c _ _,_,_,_,_,_,_,h=>h.elim
 | .loop _,.b _,_,_,_,_,_,_,h=>h.elim
 | .loop _,.r _ _ _,_,_,_,_,_,_,h=>h.elim
 | .rangeFunc _ _ _ _,.o,_,_,_,_,_,_,h=>h.elim
 | .rangeFunc _ _ _ _,.s _ _,_,_,_,_,_,_,h=>h.elim
 | .rangeFunc _ _ _ _,.c _ _,_,_,_,_,_,_,h=>h.elim
 | .rangeFunc _ _ _ _,.b _,_,_,_,_,_,_,h=>h.elim
 | .rangeFunc _ _ _ _,.l _ _,_,_,_,_,_,_,h=>h.elim
 | .scope _,_,_,_,_,_,_,_,h=>h.elim
 | .goto _,_,_,_,_,_,_,_,h=>h.elim
 | .refuse _,_,_,_,_,_,_,_,h=>h.elim
theorem DD {v:Value} {w:World} {K:World→Prop} (h:fE [] v K w):K w:=by
 cases v with
 |tuple us=>
  obtain ⟨us⟩:=us
  cases us with
  |nil=>exact h
  |cons=>exact h.elim
 |_=>exact h.elim
def mark (r:Nat):Deferred:={target:= .collected r,args:= #[]}
def MA {nn:Nat} (Q:Exit→AF→List Nat→World→Prop) (e:Exit) (a:Act) (w:World):Prop:= ∃f ms,Rel nn (ms.map mark) a f∧Q e f ms w
theorem v5 {β:Type}: ∀{ks:List Ki} {g:List Value→β} {G:List Value→β→Prop},(∀vs,G vs (g vs))→A6 ks (HV ks g) G
 | [],_,_,h=>h []
 |_::_,_,_,h=>fun _=>v5 fun _=>h _
theorem xN: ∀{ps:List Nat} {vs:List Value} {f f':AF} {tmps:Array Value} {d:List Deferred},Rel nn dfs {tmps:=tmps,defers:=d} f→zj f ps vs=some f'→
  ps.length=vs.length∧Rel nn dfs {tmps:=(ps.zip vs).foldl (fun tmps (t,a)=>tmps.setIfInBounds t a) tmps,defers:=d} f'
 | [],[],f,f',tmps,d,hr,h=>by
  simp only [zj,Option.some.injEq] at h
  subst h
  exact ⟨rfl,hr⟩
 |p::ps,v::vs,f,f',tmps,d,hr,h=>by
  obtain ⟨h1,h2⟩:=xN (hr.bo p (some v) v (fun v' e=>by simpa using e)) h
  exact ⟨by simp [h1],h2⟩
 | [],_::_,_,_,_,_,_,h=>by cases h
 |_::_,[],_,_,_,_,_,h=>by cases h
theorem ed {P:Program} (hm:P.follows .mixedOrders=true): ∀(c:Code) (p:jr) (rd:Bool) (ro:Option Nat) (_:ro.isSome=rd) (k:Nat) (Q:Exit→AF→List Nat→World→Prop) (f:AF) (ms:List Nat) (w:World) (a:Act),
  Rel nn (ms.map mark) a f→hJ P nn rd c p Q f ms w→c.wpIn (FW ro) k P (MA (nn:=nn) Q) a w
 | .skip,_,rd,ro,hro,k,Q,f,ms,w,a,hr,h=>wpIn_skip ⟨f,ms,hr,h⟩
 | .region _ ops d,p,rd,ro,hro,k,Q,f,ms,w,a,hr,h=>by
  unfold hJ at h
  cases d
  ·exact wpIn_region_list (q6 (K:=fun f w=>Q .normal f ms w) (fun a f w hr h=>⟨f,ms,hr,h⟩) _ _ _ _ hr h)
  ·cases rd
   ·cases ro with
    |some l=>cases hro
    |none=>
     cases hd:GP p with
     |true=>
      rw [hd] at h
      exact wpIn_wide.2 (rM hm (K:=fun f w=>Q .normal f ms w) (fun a f w hr h=>⟨f,ms,hr,h⟩) hr h)
     |false=>
      rw [hd] at h
      exact wpIn_wide.2 (xT hm (K:=fun f w=>Q .normal f ms w) (fun a f w hr h=>⟨f,ms,hr,h⟩) hr h)
   ·exact wpIn_region_any hm (rE (K:=fun f w=>Q .normal f ms w) (fun a f w hr h=>⟨f,ms,hr,h⟩) _ _ _ _ _ hr h)
 | .seq x y,.s p q,rd,ro,hro,k,Q,f,ms,w,a,hr,h=>by
  refine wpIn_seq (Go.wpIn_mono (ed hm x p rd ro hro k _ f ms w a hr h) fun e a w ⟨f',ms',hr',h'⟩=> ?_)
  cases e with
  |normal=>exact ed hm y q rd ro hro k Q f' ms' w a hr' h'
  |_=>exact ⟨f',ms',hr',h'⟩
 | .cond c x y,.c p q,rd,ro,hro,k,Q,f,ms,w,a,hr,h=>by
  unfold hJ at h
  split at h
  ·rename_i b hb
   refine wpIn_cond (hr.ev hb) ?_
   cases b
   ·exact ed hm y q rd ro hro k Q f ms w a hr h
   ·exact ed hm x p rd ro hro k Q f ms w a hr h
  ·exact h.elim
 | .block id c,.b p,rd,ro,hro,k,Q,f,ms,w,a,hr,h=>by
  refine wpIn_block (Go.wpIn_mono (ed hm c p rd ro hro k _ f ms w a hr h) fun e a w ⟨f',ms',hr',h'⟩=> ?_)
  cases e with
  |exit i=>
   simp only [Exit.inBlock]
   simp only [AM] at h'
   by_cases hi:i=id
   ·subst hi;simp at h';simp only [if_true];exact ⟨f',ms',hr',h'⟩
   ·have:(i==id)=false:=by simpa using hi
    rw [this] at h';rw [if_neg hi];exact ⟨f',ms',hr',h'⟩
  |_=>exact ⟨f',ms',hr',h'⟩
 | .loop c,.l live p,rd,ro,hro,k,Q,f,ms,w,a,hr,h=>by
  unfold hJ at h
  obtain ⟨hl,h⟩:=aY h
  have hsh:=hr.shape
  cases hc:gX c with
  |false=>
   rw [hc] at h
   obtain ⟨I,m,h0,hall⟩:=h
   refine Go.wpIn_loop (fun a w=> ∃f',Rel nn (ms.map mark) a f'∧leaf live I f' w∧aA (writes c) f f') (fun a w=>oK a w live m) ⟨f,hr,h0,aA.refl _ _⟩ fun a w ⟨f1,hr,hI,hs⟩=> ?_
   obtain ⟨I0,m0,g,hg,h1,⟨hgs,h2⟩,h3⟩:=qG hr live I m _ (hr.iO hsh hs) hI (jO (fun s k hk=>aA.uw hl hk) (fun s hs=>dX hs) hall)
   have h4:=fT c p (Q':=fun e f' ms' w'=>sI (fun f ms2 w'=>ms2=ms∧iq live I m (m0 w) f w') Q e f' ms' w'∧aA (writes c) g f') (fun e f' ms' w hs h=>⟨h,hs⟩) ms w (h2 w h1)
   refine Go.wpIn_mono (ed hm c p rd ro hro k _ g ms w a hg h4) fun e a' w' ⟨f',ms',hr',h',hs'⟩=> ?_
   cases e with
   |normal=>
    obtain ⟨e,h'⟩:=h'
    subst e
    refine ⟨⟨f',hr',mv h',hgs.trans hs'⟩,?_⟩
    have:=mF hr' h'
    simp only [h3]
    exact this
   |_=>exact ⟨f',ms',hr',h'⟩
  |true=>
   rw [hc] at h
   obtain ⟨I,m,h0,hall⟩:=h
   refine Go.wpIn_loop (fun a w=> ∃f' ms',Rel nn (ms'.map mark) a f'∧leaf live (I ms') f' w∧aA (writes c) f f') (fun a w=>oK a w live m) ⟨f,ms,hr,h0,aA.refl _ _⟩ fun a w ⟨f1,ms1,hr,hI,hs⟩=> ?_
   obtain ⟨I0,m0,g,hg,h1,⟨hgs,h2⟩,h3⟩:=qG hr live (I ms1) m _ (hr.iO hsh hs) hI (jO (fun s k hk=>aA.uw hl hk) (fun s hs=>dX hs) (hall ms1))
   have h4:=fT c p (Q':=fun e f' ms' w'=>sI (fun f ms2 w'=>iq live (I ms2) m (m0 w) f w') Q e f' ms' w'∧aA (writes c) g f') (fun e f' ms' w hs h=>⟨h,hs⟩) ms1 w (h2 w h1)
   refine Go.wpIn_mono (ed hm c p rd ro hro k _ g ms1 w a hg h4) fun e a' w' ⟨f',ms',hr',h',hs'⟩=> ?_
   cases e with
   |normal=>
    refine ⟨⟨f',ms',hr',mv h',hgs.trans hs'⟩,?_⟩
    have:=mF hr' h'
    simp only [h3]
    exact this
   |_=>exact ⟨f',ms',hr',h'⟩
 | .rangeFunc g ps assign body,.r ks p q,rd,ro,hro,k,Q,f,ms,w,a,hr,h=>by
  unfold hJ at h
  cases rd
  ·cases ro with
   |some l=>cases hro
   |none=>
    simp only at h
    split at h
    ·rename_i v hv
     refine wpIn_rangeFunc fun fn _=> ?_
     have hcl:=h (fun i=> .loop (match i with
       |0=>{state:= .ready,pending:=none,fn,tmps:=a.tmps,params:=ps,assign,body,defers:=w.heap.size}
       |1=>{state:= .busy,pending:=none,fn,tmps:=a.tmps,params:=ps,assign,body,defers:=w.heap.size}
       |2=>{state:= .done,pending:=some .ret,fn,tmps:=a.tmps,params:=ps,assign,body,defers:=w.heap.size}
       |3=>{state:= .exhausted,pending:=none,fn,tmps:=a.tmps,params:=ps,assign,body,defers:=w.heap.size}
       |_=>{state:= .exhausted,pending:=some .ret,fn,tmps:=a.tmps,params:=ps,assign,body,defers:=w.heap.size}))
      (.func (.yield (w.heap.size+1)) #[] #[]) (fun R w2=>v5 fun vs hrec hB=> ?_)
     ·unfold rh at hcl
      split at hcl
      ·rename_i i first captured
       obtain ⟨hok,hc⟩:=aY hcl
       have he:=run_enterLoop_outer (P:=P) (w:=w) fn a.tmps ps assign body
       obtain ⟨w1,hw1⟩: ∃w1,w1=(w.alloc (.deferred (some []))).alloc (.loop {state:= .ready,pending:=none,fn,tmps:=a.tmps,params:=ps,assign,body,defers:=w.heap.size}):=⟨_,rfl⟩
       rw [←hw1] at he
       refine ⟨w.heap.size+1,[mark w.heap.size],w1,{target:= .fn (.func i) captured,args:=first++ #[.func (.yield (w.heap.size+1)) #[] #[]]},w1,i,⟨first.toList++ [.func (.yield (w.heap.size+1)) #[] #[]]++captured.toList⟩,w1,
        he,?_,fun _ _=>trivial,?_,fun hh=>(by cases hh),?_⟩
       ·have hg:=hr.ev hv
        simp only [resolve,hg,Deferred.ofValue,Sem.run_pure]
        simp [Act.eval]
       ·have hcc:=v9 (P:=P) hok
        have e:(first++ #[Value.func (.yield (w.heap.size+1)) #[] #[]])++captured=⟨first.toList++ [.func (.yield (w.heap.size+1)) #[] #[]]++captured.toList⟩:=by
         apply Array.ext';simp
        simp only [invoke,e]
        exact hcc _ _
       ·refine (callsIn_wide (n:=k - 1)).2 ?_
        rw [hw1]
        refine Calls.mono hc fun e w3 hp=> ?_
        have hrel:Rel nn ((w.heap.size::ms).map mark) {a with defers:= [mark w.heap.size]++a.defers} f:=⟨hr.size,hr.shape,by simp [hr.defs],hr.val⟩
        cases e with
        |returned v'=>
         have hp:=DD hp
         rcases hp with ⟨h1,h2⟩|⟨h1,h2⟩
         ·exact ⟨none,_,run_endLoop h1 (by simp),⟨f,_,hrel,h2⟩⟩
         ·exact ⟨some .ret,_,run_endLoop h1 (by simp),wpIn_ret ⟨f,_,hrel,h2⟩⟩
        |panicked=>exact hp.elim
        |outgrown=>exact hp.elim
      ·exact hcl.elim
     ·split at hB
      ·rename_i f' hf'
       have hr0:Rel nn [] {tmps:=a.tmps,defers:= []} f:=⟨hr.size,hr.shape,rfl,hr.val⟩
       obtain ⟨hlen,hrel⟩:=xN hr0 hf'
       have hz:(ps.zip (⟨vs⟩:Array Value)).foldl (fun tmps (t,a)=>tmps.setIfInBounds t a) a.tmps=(ps.toList.zip vs).foldl (fun tmps (t,a)=>tmps.setIfInBounds t a) a.tmps:=by
        rw [←Array.foldl_toList];simp
       refine ⟨fn,_,assign,body,run_yield hrec (by simpa using hlen.symm),?_⟩
       refine RoundIn.mono (R:=fun e w'=> ∃b,e= .returned (.bool b)∧R b w') ?_ fun e w' ⟨b,h1,h2⟩=>⟨b,h1,h2⟩
       refine roundIn_of_wpIn trivial ?_
       simp only [List.nil_append,hz]
       refine Go.wpIn_mono (ed hm assign p true (some (w.heap.size+1)) rfl 0 _ f' [] w2 _ hrel hB) fun e a1 w1 ⟨f1,ms1,hr1,h1⟩=> ?_
       cases e with
       |normal=>
        obtain ⟨h2,h3⟩:=h1
        refine ⟨_,run_beginRound h2 rfl,?_⟩
        refine Go.wpIn_mono (ed hm body q true (some (w.heap.size+1)) rfl 0 _ f1 ms1 _ _ hr1 h3) fun e a2 w4 ⟨f2,ms2,hr2,h4⟩=> ?_
        cases e with
        |normal=>
         obtain ⟨h5,h6⟩:=h4
         exact ⟨_,_,run_endRound none h5,true,rfl,h6⟩
        |ret=>
         obtain ⟨h5,h6⟩:=h4
         exact ⟨_,_,run_endRound (some .ret) h5,false,rfl,h6⟩
        |exit id=>exact h4.elim
        |goto t=>exact h4.elim
        |panic c=>exact h4.elim
        |outgrown=>exact h4.elim
       |exit id=>exact h1.elim
       |goto t=>exact h1.elim
       |ret=>exact h1.elim
       |panic c=>exact h1.elim
       |outgrown=>exact h1.elim
      ·exact hB.elim
    ·exact h.elim
  ·exact h.elim
 | .exit id,_,rd,ro,hro,k,Q,f,ms,w,a,hr,h=>wpIn_exit ⟨f,ms,hr,h⟩
 | .ret,_,rd,ro,hro,k,Q,f,ms,w,a,hr,h=>wpIn_ret ⟨f,ms,hr,h⟩
 | .label _,_,rd,ro,hro,k,Q,f,ms,w,a,hr,h=>wpIn_label ⟨f,ms,hr,h⟩
 | .seq _ _,.o,_,_,_,_,_,_,_,_,_,_,h=>h.elim
 | .seq _ _,.c _ _,_,_,_,_,_,_,_,_,_,_,h=>h.elim
 | .seq _ _,.b _,_,_,_,_,_,_,_,_,_,_,h=>h.elim
 | .seq _ _,.l _ _,_,_,_,_,_,_,_,_,_,_,h=>h.elim
 | .seq _ _,.r _ _ _,_,_,_,_,_,_,_,_,_,_,h=>h.elim
 | .cond _ _ _,.o,_,_,_,_,_,_,_,_,_,_,h=>h.elim
 | .cond _ _ _,.s _ _,_,_,_,_,_,_,_,_,_,_,h=>h.elim
 | .cond _ _ _,.b _,_,_,_,_,_,_,_,_,_,_,h=>h.elim
 | .cond _ _ _,.l _ _,_,_,_,_,_,_,_,_,_,_,h=>h.elim
 | .cond _ _ _,.r _ _ _,_,_,_,_,_,_,_,_,_,_,h=>h.elim
 | .block _ _,.o,_,_,_,_,_,_,_,_,_,_,h=>h.elim
 | .block _ _,.s _ _,_,_,_,_,_,_,_,_,_,_,h=>h.elim
 | .block _ _,.c _ _,_,_,_,_,_,_,_,_,_,_,h=>h.elim
 | .block _ _,.l _ _,_,_,_,_,_,_,_,_,_,_,h=>h.elim
 | .block _ _,.r _ _ _,_,_,_,_,_,_,_,_,_,_,h=>h.elim
 | .loop _,.o,_,_,_,_,_,_,_,_,_,_,h=>h.elim
 | .loop _,.s _ _,_,_,_,_,_,_,_,_,_,_,h=>h.elim
 | .loop _,.c _ _,_,_,_,_,_,_,_,_,_,_,h=>h.elim
 | .loop _,.b _,_,_,_,_,_,_,_,_,_,_,h=>h.elim
 | .loop _,.r _ _ _,_,_,_,_,_,_,_,_,_,_,h=>h.elim
 | .rangeFunc _ _ _ _,.o,_,_,_,_,_,_,_,_,_,_,h=>h.elim
 | .rangeFunc _ _ _ _,.s _ _,_,_,_,_,_,_,_,_,_,_,h=>h.elim
 | .rangeFunc _ _ _ _,.c _ _,_,_,_,_,_,_,_,_,_,_,h=>h.elim
 | .rangeFunc _ _ _ _,.b _,_,_,_,_,_,_,_,_,_,_,h=>h.elim
 | .rangeFunc _ _ _ _,.l _ _,_,_,_,_,_,_,_,_,_,_,h=>h.elim
 | .scope _,_,_,_,_,_,_,_,_,_,_,_,h=>h.elim
 | .goto _,_,_,_,_,_,_,_,_,_,_,_,h=>h.elim
 | .refuse _,_,_,_,_,_,_,_,_,_,_,_,h=>h.elim
def lV:List Nat→World→(World→Prop)→Prop
 | [],w,K=>K w
 |r::rs,w,K=>w.heap[r]? =some (.deferred (some []))∧lV rs (w.putObj r (.deferred none)) K
def GS (P:Program) (rs:List ResultVar) (ks:List Ki) (K:eC ks (World→Prop)):Exit→AF→List Nat→World→Prop
 | .normal,f,ms,w| .ret,f,ms,w=>lV ms w fun w=>qS P rs f w [] fun vs=>fE ks (dr vs) K w
 |_,_,_,_=>False
theorem AV {P:Program} (hm:P.follows .mixedOrders=true) {i:FuncId} {fn:Func} {c:Code} {args:List Value} {w:World} {ks:List Ki} {K:eC ks (World→Prop)} (n:Nat) (rs:List ResultVar)
  (hf:P.funcs[i]? =some fn) (hb:fn.body=some c) (hn:fn.ntmps=n) (hl:args.length≤n) (hrs:fn.results.toList=rs) (p:jr) (h:hJ P n false c p (GS P rs ks K) (ku args n) [] w):Cl P ks i ⟨args⟩ w K:=by
 refine (callsIn_wide (n:=0)).1 (callsIn_of_wp_marks (F:=Fence.wide) hf hb trivial ?_)
 subst hn;subst hrs
 have hsz:((⟨args⟩:Array Value)++Array.replicate (fn.ntmps - (⟨args⟩:Array Value).size) undef).size=fn.ntmps:=by simp;omega
 have hr:Rel fn.ntmps (([]:List Nat).map mark) {tmps:=(⟨args⟩:Array Value)++Array.replicate (fn.ntmps - (⟨args⟩:Array Value).size) undef,defers:= []} (ku args fn.ntmps):=by
  refine ⟨hsz,fun i hi=>mV _ _ _ _ hi,rfl,fun i v hv=> ?_⟩
  have h1:=sK _ _ _ _ _ hv
  simp only [Option.some.injEq] at h1
  have hi:i<fn.ntmps:=mV _ _ _ _ (iB hv)
  simp only [Array.getD_eq_getD_getElem?]
  have h2:((⟨args⟩:Array Value)++Array.replicate (fn.ntmps - (⟨args⟩:Array Value).size) undef)[i]? =(args++List.replicate (fn.ntmps - args.length) undef)[i]? :=by
   rw [←Array.getElem?_toList]
   simp
  rw [h2,←h1]
  by_cases ha:i<args.length
  ·simp [List.getElem?_append_left ha,List.getD_eq_getElem?_getD]
  ·rw [List.getElem?_append_right (by omega),List.getElem?_replicate]
   rw [if_pos (by omega)]
   simp [List.getD_eq_getElem?_getD,List.getElem?_eq_none (by omega:args.length≤i)]
 refine Go.wpIn_mono (ed hm c p false none rfl 0 _ _ [] w _ hr h) fun e a w' ⟨f,ms,hr,hq⟩=> ?_
 have fin: ∀(ms:List Nat) (w':World),(lV ms w' fun w=>qS P fn.results.toList f w [] fun vs=>fE ks (dr vs) K w)→LeavesInM Fence.wide 0 P fn a.tmps (pU ks K) (ms.map mark) .returning w':=by
  intro ms
  induction ms with
  |nil=>
   intro w' hq
   obtain ⟨vs,h1,h2⟩:=mw hr _ _ hq
   refine ⟨dr vs,?_,h2⟩
   rw [wD,Array.mapM_eq_mapM_toList]
   simp only [Sem.run_bind,Sem.run_map,h1,Result.andThen_ok,Sem.run_pure]
   congr 1
   match vs with
   | []=>rfl
   | [v]=>rfl
   |a::b::l=>simp [dr]
  |cons r ms ih=>
   intro w' hq
   exact ⟨by simp,.inl ⟨r,_,rfl,run_takeDeferred hq.1,ih _ hq.2⟩⟩
 have hd:=hr.defs
 cases e<;>first|exact hq.elim|(show LeavesInM _ _ _ _ _ _ a.defers _ _;rw [hd];exact fin ms w' hq)
theorem A8 {P:Program} (hm:P.follows .mixedOrders=true) {i:FuncId} {w:World} {F:Prop} (fn:Func) (args:List Value) (ks:List Ki) (K:eC ks (World→Prop)) (n:Nat) (rs:List ResultVar)
  (hf:P.funcs[i]? =some fn) (hb:fn.body=some (fn.body.getD .skip)) (hn:fn.ntmps=n) (hl:Nat.ble args.length n=true) (hrs:fn.results.toList=rs) (p:jr)
  (he:hJ P n false (fn.body.getD .skip) p (GS P rs ks K) (ku args n) [] w=F) (h:F):Cl P ks i ⟨args⟩ w K:=
 AV hm n rs hf hb hn (Nat.le_of_ble_eq_true hl) hrs p (he▸h)
end
end Go.Vc
set_option maxRecDepth 20000
namespace Go.Vc
open Go
noncomputable section
variable {nn:Nat} {dfs:List Deferred}
end
end Go.Vc
namespace Go.Proofs.YtgglghjnakclmaaGreat
open Go Go.Vc
abbrev fm:Nat:=5
abbrev lX:Nat:=25
abbrev n7:Nat:=26
abbrev iv:Nat:=27
abbrev l4:Nat:=29
abbrev eN:Nat:=30
abbrev dN:Nat:=31
abbrev oQ:Nat:=32
abbrev bV:Nat:=33
abbrev dF:Nat:=34
abbrev bb:Nat:=35
abbrev cK:Nat:=36
abbrev bU:Nat:=37
abbrev dw:Nat:=38
abbrev bB:Nat:=39
abbrev bm:Nat:=40
abbrev bC:Nat:=41
abbrev gT:Nat:=43
abbrev mj:Nat:=46
abbrev ll:Nat:=77
abbrev jW:Nat:=78
abbrev iu:Nat:=79
abbrev j0:Nat:=80
abbrev nX:Nat:=81
abbrev k7:Nat:=82
abbrev mb:Nat:=83
abbrev oS:Nat:=84
abbrev gK:Nat:=85
abbrev ik:Nat:=86
abbrev nD:Nat:=87
abbrev cr:Nat:=88
abbrev fQ:Nat:=89
abbrev gB:Nat:=90
abbrev du:Nat:=91
abbrev dD:Nat:=92
abbrev eB:Nat:=93
abbrev j8:Nat:=94
abbrev g9:Nat:=95
abbrev k8:Nat:=96
abbrev iU:Nat:=124
abbrev jD:Nat:=125
abbrev kn:Nat:=126
abbrev qX:Nat:=127
abbrev nu:Nat:=128
abbrev gJ:Nat:=129
abbrev mf:Nat:=130
abbrev lg:Nat:=131
abbrev nR:Nat:=132
abbrev mc:Nat:=133
abbrev lb:Nat:=134
abbrev jg:Nat:=135
abbrev m7:Nat:=136
abbrev nN:Nat:=137
abbrev o5:Nat:=138
abbrev bG:Nat:=139
abbrev eI:Nat:=140
abbrev ff:Nat:=141
abbrev fg:Nat:=142
abbrev iM:Nat:=143
abbrev nz:Nat:=144
abbrev ia:Nat:=145
abbrev k5:Nat:=146
abbrev dh:Nat:=147
abbrev kj:Nat:=148
abbrev iI:Nat:=149
abbrev kl:Nat:=150
abbrev eu:Nat:=151
abbrev oB:Nat:=152
abbrev ml:Nat:=159
abbrev lZ:Nat:=173
abbrev se:Nat:=174
abbrev qy:Nat:=180
abbrev gD:Nat:=181
abbrev l8:Nat:=182
abbrev n4:Nat:=183
abbrev pd:Nat:=184
abbrev oc:Nat:=185
abbrev nk:Nat:=186
abbrev eQ:Nat:=187
abbrev lK:Nat:=188
abbrev lW:Nat:=189
abbrev lT:Nat:=190
abbrev lU:Nat:=191
abbrev eY:Nat:=192
abbrev sa:Nat:=193
abbrev iR:Nat:=194
abbrev bD:Nat:=195
abbrev js:Nat:=196
abbrev bz:Nat:=197
abbrev bJ:Nat:=198
abbrev gF:Nat:=199
abbrev dY:Nat:=200
abbrev lY:Nat:=201
abbrev j5:Nat:=202
abbrev nc:Nat:=203
abbrev jm:Nat:=204
abbrev kq:Nat:=205
abbrev ga:Nat:=206
abbrev dW:Nat:=207
abbrev fD:Nat:=208
abbrev gA:Nat:=209
abbrev jv:Nat:=210
abbrev dg:Nat:=211
abbrev ju:Nat:=212
abbrev iK:Nat:=213
abbrev ji:Nat:=220
abbrev l5:Nat:=221
abbrev oZ:Nat:=222
abbrev n6:Nat:=226
abbrev jE:Nat:=235
abbrev oP:Nat:=237
abbrev qm:Nat:=240
abbrev oY:Nat:=241
abbrev jn:Nat:=242
abbrev jf:Nat:=243
abbrev np:Nat:=244
abbrev gj:Nat:=245
abbrev oR:Nat:=246
abbrev ph:Nat:=247
abbrev oa:Nat:=248
abbrev oT:Nat:=249
abbrev pn:Nat:=250
abbrev oW:Nat:=251
abbrev m9:Nat:=252
abbrev ib:Nat:=253
abbrev dV:Nat:=254
abbrev iH:Nat:=255
abbrev dZ:Nat:=256
abbrev lF:Nat:=257
abbrev bx:Nat:=258
abbrev eK:Nat:=259
abbrev aM:Nat:=260
abbrev dn:Nat:=261
abbrev eH:Nat:=262
abbrev iz:Nat:=263
abbrev rV:Nat:=264
abbrev fZ:Nat:=265
abbrev iP:Nat:=266
abbrev kY:Nat:=267
abbrev ca:Nat:=268
abbrev iS:Nat:=269
abbrev iN:Nat:=270
abbrev fo:Nat:=271
abbrev jb:Nat:=272
abbrev jL:Nat:=273
abbrev jx:Nat:=274
abbrev na:Nat:=275
abbrev fa:Nat:=276
abbrev dU:Nat:=277
abbrev iL:Nat:=278
abbrev fC:Nat:=283
abbrev o9:Nat:=287
abbrev ma:Nat:=288
abbrev lh:Nat:=290
abbrev qe:Nat:=291
abbrev jh:Nat:=293
abbrev oX:Nat:=294
abbrev l7:Nat:=295
abbrev jl:Nat:=296
abbrev lk:Nat:=297
abbrev gv:Nat:=298
abbrev dG:Nat:=299
abbrev cp:Nat:=300
abbrev dP:Nat:=301
abbrev eJ:Nat:=302
abbrev a6:Nat:=303
abbrev c7:Nat:=304
abbrev ij:Nat:=305
abbrev mo:Nat:=306
abbrev pv:Nat:=307
abbrev dH:Nat:=308
abbrev jU:Nat:=309
abbrev gh:Nat:=310
abbrev iG:Nat:=311
abbrev lG:Nat:=312
abbrev nM:Nat:=313
abbrev kD:Nat:=314
abbrev gz:Nat:=315
abbrev eV:Nat:=316
abbrev l9:Nat:=320
abbrev db:Nat:=323
abbrev ns:Nat:=324
abbrev bR:Nat:=325
abbrev aW:Nat:=326
abbrev iJ:Nat:=327
abbrev dM:Nat:=332
abbrev bF:Nat:=333
noncomputable abbrev Pg:Program:=Tryz.prog
theorem Tryz.mix:Tryz.prog.follows .mixedOrders=true:=by kernel_rfl
theorem co {i:FuncId} {w:World} {F:Prop} {args:List Value} {ks:List Ki} {K:eC ks (World→Prop)} (fn:Func) (L:List (Nat×List (Nat×Ki))) (h:F) (hf:Pg.funcs[i]? =some fn:=by kernel_rfl) (hb:fn.body=some (fn.body.getD .skip):=by kernel_rfl) (hl:Nat.ble args.length fn.ntmps=true:=by kernel_rfl) (he:vc Pg fn.ntmps (fn.body.getD .skip) (uZ (fn.body.getD .skip) 0 L).1 (xg Pg fn.results.toList ks K) (ku args fn.ntmps) w=F:=by kernel_rfl):Cl Pg ks i ⟨args⟩ w K:=
 tV Tryz.mix fn args ks K fn.ntmps fn.results.toList hf hb rfl hl rfl (uZ (fn.body.getD .skip) 0 L).1 he h
theorem Cy {i:FuncId} {w:World} {F:Prop} {args:List Value} {ks:List Ki} {K:eC ks (World→Prop)} (fn:Func) (p:jr) (h:F) (hf:Pg.funcs[i]? =some fn:=by kernel_rfl) (hb:fn.body=some (fn.body.getD .skip):=by kernel_rfl) (hl:Nat.ble args.length fn.ntmps=true:=by kernel_rfl) (he:hJ Pg fn.ntmps false (fn.body.getD .skip) p (GS Pg fn.results.toList ks K) (ku args fn.ntmps) [] w=F:=by kernel_rfl):Cl Pg ks i ⟨args⟩ w K:=
 A8 Tryz.mix fn args ks K fn.ntmps fn.results.toList hf hb rfl hl rfl p he h
abbrev Is:List Sc:= [.int .i64,.int .i64,.int .i64,.int .i64]
end Go.Proofs.YtgglghjnakclmaaGreat
namespace Go.Proofs.YtgglghjnakclmaaGreat
open Go Go.Vc
set_option maxRecDepth 100000
theorem q7.ok (a:Int) (b:Int) (c:Sl) (R:Bool→World→Prop) w (h:
 a7 (fun (l:World)=>
 Cl Pg [kP,kI] dN ⟨[(ni a),(ni b)]⟩ l fun n (o:Int) m=>
 Cl Pg [kP,kI] oQ ⟨[(ni a),(ni b)]⟩ m fun q (r:Int) p=>
 a7 (fun (x:World)=>
 aa (Option.isNone (n:Option Addr))
 (Cl Pg [kB] eN ⟨[]⟩ x fun (z:Bool) y=>
 R z y)
 (c8 0 x fun a1 b1 (c1:Int) d1=>
 aa (decide (c1<(c.len:Int)))
 (a7 (fun (a4:World)=>
 a1 (i64 (c1+1)) a4∧b1 (i64 (c1+1)) a4<b1 c1 d1) fun e1=>
 a7 (fun (f2:Sl) (g2:Sl) (h2:Int) (i2:Int) (j2:World)=>
 a7 (fun (y3:Bool) (z3:World)=>
 aa y3
 (R false z3)
 (e1 z3)) fun k2=>
 a7 (fun (v3:Bool) (x3:World)=>
 k2 v3 x3) fun l2=>
 gw j2 fun m2 n2=>
 (au Pg (convert 26 9 (ag f2)) nS n2 fun (p2:ByteArray) o2=>
 m2 o2∧
 au Pg (convert 26 9 (ag g2)) nS o2 fun (r2:ByteArray) q2=>
 m2 q2∧
 aa (!((p2).toList==(r2).toList))
 (l2 true q2)
 (aa (h2 !=i2)
 (l2 true q2)
 (ao q fun s2=>
 aG kS (s2.add 3) m2 fun (t2:Sl)=>
 Cl Pg [kI] bB ⟨[(.pointer n)]⟩ q2 fun (v2:Int) u2=>
 m2 u2∧
 aa (v2 !=(t2.len:Int))
 (l2 true u2)
 (ao q fun x2=>
 aG (ar .u8) (x2.add 1) m2 fun (y2:Int)=>
 Cl Pg [(ar .u8)] bm ⟨[(.pointer n)]⟩ u2 fun (a3:Int) z2=>
 m2 z2∧
 aa (a3 !=y2)
 (l2 true z2)
 (ao q fun b3=>
 aG kI (b3.add 2) m2 fun (c3:Int)=>
 Cl Pg [kI] bC ⟨[(.pointer n)]⟩ z2 fun (e3:Int) d3=>
 m2 d3∧
 l2 (e3 !=c3) d3)))))∧
 (au Pg (convert 26 9 (ag g2)) nS n2 fun (g3:ByteArray) f3=>
 m2 f3∧
 au Pg (convert 26 9 (ag f2)) nS f3 fun (i3:ByteArray) h3=>
 m2 h3∧
 aa (!((i3).toList==(g3).toList))
 (l2 true h3)
 (aa (h2 !=i2)
 (l2 true h3)
 (ao q fun j3=>
 aG kS (j3.add 3) m2 fun (k3:Sl)=>
 Cl Pg [kI] bB ⟨[(.pointer n)]⟩ h3 fun (m3:Int) l3=>
 m2 l3∧
 aa (m3 !=(k3.len:Int))
 (l2 true l3)
 (ao q fun n3=>
 aG (ar .u8) (n3.add 1) m2 fun (o3:Int)=>
 Cl Pg [(ar .u8)] bm ⟨[(.pointer n)]⟩ l3 fun (q3:Int) p3=>
 m2 p3∧
 aa (q3 !=o3)
 (l2 true p3)
 (ao q fun r3=>
 aG kI (r3.add 2) m2 fun (s3:Int)=>
 Cl Pg [kI] bC ⟨[(.pointer n)]⟩ p3 fun (u3:Int) t3=>
 m2 t3∧
 l2 (u3 !=s3) t3)))))) fun f1=>
 an c c1 2 fun g1=>
 Ld kI (g1.add 0) d1 fun (h1:Int)=>
 aa (h1==0)
 (an c c1 2 fun i1=>
 Ld kS (i1.add 1) d1 fun (j1:Sl)=>
 Cl Pg [kS,kI] bV ⟨[(.pointer n),(ag j1)]⟩ d1 fun (l1:Sl) (m1:Int) k1=>
 an c c1 2 fun n1=>
 Ld kS (n1.add 1) k1 fun (o1:Sl)=>
 Cl Pg [kS,kI] dF ⟨[(.pointer q),(ag o1)]⟩ k1 fun (q1:Sl) (r1:Int) p1=>
 f1 l1 q1 m1 r1 p1)
 (aa (h1==1)
 (Cl Pg [kS,kI] bb ⟨[(.pointer n)]⟩ d1 fun (t1:Sl) (u1:Int) s1=>
 Cl Pg [kS,kI] cK ⟨[(.pointer q)]⟩ s1 fun (x1:Sl) (y1:Int) v1=>
 f1 t1 x1 u1 y1 v1)
 (Cl Pg [kS,kI] bU ⟨[(.pointer n)]⟩ d1 fun (a2:Sl) (b2:Int) z1=>
 Cl Pg [kS,kI] dw ⟨[(.pointer q)]⟩ z1 fun (d2:Sl) (e2:Int) c2=>
 f1 a2 d2 b2 e2 c2)))
 (Cl Pg [kB] eN ⟨[]⟩ d1 fun (c4:Bool) b4=>
 R c4 b4))) fun s=>
 a7 (fun (u:Bool) (v:World)=>
 aa u
 (R false v)
 (s v)) fun t=>
 aa (o !=r)
 (t true p)
 (t (!((Option.isNone (n:Option Addr))==(o !=0))) p)) fun d=>
 a7 (fun (h:Bool) (i:World)=>
 aa h
 (Cl Pg [kB] eN ⟨[]⟩ i fun (k:Bool) j=>
 R k j)
 (d i)) fun e=>
 Cl Pg [kB] l4 ⟨[(ag c)]⟩ w fun (g:Bool) f=>
 aa (!g)
 (e true f)
 (aa (decide (b>20000))
 (e (decide (b≤1048576)) f)
 (e false f))):Cl Pg [kB] fm ⟨[(ni a),(ni b),(ag c)]⟩ w R:=co Tryz.f5 [(2,[]),(3,[(26,kB)]),(11,[]),(12,[(49,kB)]),(24,[(11,kI)]),(28,[]),(33,[(12,kS),(13,kS),(14,kI),(15,kI)]),(49,[(145,kB)])] h
theorem Bx.ok (a:Sl) (R:Bool→World→Prop) w (h:
 bq 0 0 w fun b c (d:Int) (e:Int) f=>
 aa (decide (e<(a.len:Int)))
 (aa (decide (e≤30))
 (an a e 2 fun g=>
 Ld kS (g.add 1) f fun (h:Sl)=>
 b (i64 (d+(if (200:Int)<(h.len:Int) then (200:Int) else (h.len:Int)))) (i64 (e+1)) f∧c (i64 (d+(if (200:Int)<(h.len:Int) then (200:Int) else (h.len:Int)))) (i64 (e+1)) f<c d e f)
 (aa (decide ((a.len:Int)≤30))
 (R (decide (d≤150)) f)
 (R false f)))
 (aa (decide ((a.len:Int)≤30))
 (R (decide (d≤150)) f)
 (R false f))):Cl Pg [kB] l4 ⟨[(ag a)]⟩ w R:=co Tryz.f29 [(7,[(3,kI),(4,kI)])] h
theorem Bt.ok (R:Bool→World→Prop) w (h:
 Cl Pg [kP,kI] dN ⟨[(ni 300),(ni 300)]⟩ w fun b (c:Int) a=>
 Cl Pg [kP,kI] dN ⟨[(ni 300),(ni 299)]⟩ a fun e (f:Int) d=>
 Cl Pg [kP,kI] dN ⟨[(ni 0),(ni 300)]⟩ d fun h (i:Int) g=>
 a7 (fun (n:World)=>
 Cl Pg [kS,kI] bU ⟨[(.pointer b)]⟩ n fun (p:Sl) (q:Int) o=>
 Nw 5 ⟨[(.int .u8 1)]⟩ o fun s r=>
 Cl Pg [kS,kI] bV ⟨[(.pointer b),(ag (⟨some ⟨s,0,none⟩,1,1⟩:Sl))]⟩ r fun (u:Sl) (v:Int) t=>
 Cl Pg [kP,kI] dN ⟨[(ni 2),(ni 100)]⟩ t fun y (z:Int) x=>
 a7 (fun (e1:World)=>
 Nw 5 ⟨[(.int .u8 97),(.int .u8 98),(.int .u8 99)]⟩ e1 fun g1 f1=>
 au Pg (convert 26 26 (ag (⟨some ⟨g1,0,none⟩,3,3⟩:Sl))) kS f1 fun (i1:Sl) h1=>
 Cl Pg [kS,kI] bV ⟨[(.pointer y),(ag i1)]⟩ h1 fun (k1:Sl) (l1:Int) j1=>
 Cl Pg [kI] bB ⟨[(.pointer y)]⟩ j1 fun (n1:Int) m1=>
 Cl Pg [kS,kI] bb ⟨[(.pointer y)]⟩ m1 fun (p1:Sl) (q1:Int) o1=>
 Cl Pg [kS,kI] bb ⟨[(.pointer y)]⟩ o1 fun (s1:Sl) (t1:Int) r1=>
 Cl Pg [kS,kI] bU ⟨[(.pointer y)]⟩ r1 fun (v1:Sl) (x1:Int) u1=>
 Nw 5 ⟨[(.int .u8 97),(.int .u8 98),(.int .u8 99)]⟩ u1 fun z1 y1=>
 au Pg (convert 26 26 (ag (⟨some ⟨z1,0,none⟩,3,3⟩:Sl))) kS y1 fun (b2:Sl) a2=>
 Nw 26 ⟨[(ag b2)]⟩ a2 fun d2 c2=>
 Cl Pg [kS,kI] lX ⟨[(ni 2),(ag (⟨some ⟨d2,0,none⟩,1,1⟩:Sl))]⟩ c2 fun (f2:Sl) (g2:Int) e2=>
 Cl Pg [kS,kI] bb ⟨[(.pointer none)]⟩ e2 fun (i2:Sl) (j2:Int) h2=>
 au Pg (convert 26 9 (ag p)) nS h2 fun (l2:ByteArray) k2=>
 aa ((l2).toList==((ByteArray.mk #[87,80,1,130,44,0,0,0,0,0])).toList)
 (aa (q==0)
 (aa (v==280)
 (aa (n1==1)
 (aa ((s1.len:Int)==0)
 (aa (x1==0)
 (aa ((v1.len:Int)==5)
 (au Pg (convert 26 9 (ag k1)) nS k2 fun (n2:ByteArray) m2=>
 au Pg (convert 26 9 (ag p1)) nS m2 fun (p2:ByteArray) o2=>
 ((n2).size:Int)+((p2).size:Int)≤9223372036854775807∧
 au Pg (convert 26 9 (ag v1)) nS o2 fun (r2:ByteArray) q2=>
 (((n2++p2)).size:Int)+((r2).size:Int)≤9223372036854775807∧
 au Pg (convert 26 9 (ag f2)) nS q2 fun (t2:ByteArray) s2=>
 aa ((((n2++p2)++r2)).toList==(t2).toList)
 (Cl Pg [kI] bC ⟨[(.pointer b)]⟩ s2 fun (v2:Int) u2=>
 aa (v2==300)
 (Cl Pg [(ar .u8)] bm ⟨[(.pointer b)]⟩ u2 fun (y2:Int) x2=>
 aa (y2==2)
 (Cl Pg [(ar .u8)] bm ⟨[(.pointer y)]⟩ x2 fun (a3:Int) z2=>
 aa (a3==3)
 (aa (j2==280)
 (Cl Pg [(ar .u8)] bm ⟨[(.pointer none)]⟩ z2 fun (c3:Int) b3=>
 aa (c3==0)
 (Cl Pg [kI] bC ⟨[(.pointer none)]⟩ b3 fun (e3:Int) d3=>
 aa (e3==0)
 (Cl Pg [kI] bB ⟨[(.pointer none)]⟩ d3 fun (g3:Int) f3=>
 R (g3==0) f3)
 (R false d3))
 (R false b3))
 (R false z2))
 (R false z2))
 (R false x2))
 (R false u2))
 (R false s2))
 (R false k2))
 (R false k2))
 (R false k2))
 (R false k2))
 (R false k2))
 (R false k2))
 (R false k2)) fun a1=>
 a7 (fun (c1:Bool) (d1:World)=>
 aa c1
 (R false d1)
 (a1 d1)) fun b1=>
 aa (z !=0)
 (b1 true x)
 (b1 (Option.isNone (y:Option Addr)) x)) fun j=>
 a7 (fun (l:Bool) (m:World)=>
 aa l
 (R false m)
 (j m)) fun k=>
 aa (c !=0)
 (k true g)
 (aa (Option.isNone (b:Option Addr))
 (k true g)
 (aa (f !=230)
 (k true g)
 (k (i !=2) g)))):Cl Pg [kB] eN ⟨[]⟩ w R:=co Tryz.f30 [(8,[]),(9,[(52,kB)]),(19,[]),(20,[(73,kB)])] h
end Go.Proofs.YtgglghjnakclmaaGreat
namespace Go.Proofs.YtgglghjnakclmaaGreat
open Go Go.Vc
set_option maxRecDepth 100000
theorem Ga.ok (a:Int) (b:Int) (R:(Option Addr)→Int→World→Prop) w (h:
 Cl Pg [(ar .u8),kI] nD ⟨[(ni b),(ni a),(.int .u8 1)]⟩ w fun (d:Int) (e:Int) c=>
 aa (e !=0)
 (R none e c)
 (Cl Pg [kI,kI] gT ⟨[(ni a),(.int .u8 1),(.int .u8 d)]⟩ c fun (g:Int) (h:Int) f=>
 Nw 69 ⟨[(ni a),(.int .u8 d),(ni g),(.slice none 0 0),(.slice none 0 0),(.bool false),(.bool false)]⟩ f fun j i=>
 R (some ⟨j,0,none⟩) 0 i)):Cl Pg [kP,kI] oQ ⟨[(ni a),(ni b)]⟩ w R:=co Tryz.f32 [] h
theorem kC.ok (a:(Option Addr)) (b:Sl) (R:Sl→Int→World→Prop) w (h:
 ao a fun c=>
 Ld kB (c.add 6) w fun (d:Bool)=>
 aa d
 (R (⟨none,0,0⟩:Sl) 280 w)
 (Cl Pg [kS] dD ⟨[(.pointer a)]⟩ w fun (f:Sl) e=>
 bq f 0 e fun g h (i:Sl) (j:Int) k=>
 aa (decide (j<(b.len:Int)))
 (a7 (fun (f1:World)=>
 a7 (fun (a2:World)=>
 aJ a2 fun h2=>
 ao a fun i2=>
 Ld kS (i2.add 3) h2 fun (j2:Sl)=>
 ao a fun k2=>
 Ld kI (k2.add 0) h2 fun (l2:Int)=>
 aa ((j2.len:Int)==l2)
 (Cl Pg [kS] eB ⟨[(.pointer a)]⟩ h2 fun (n2:Sl) m2=>
 au Pg (Builtin.append_ #[26,26] 26 ⟨[(ag i),(ag n2)]⟩) kS m2 fun (p2:Sl) o2=>
 g p2 (i64 (j+1)) o2∧h p2 (i64 (j+1)) o2<h i j k)
 (g i (i64 (j+1)) h2∧h i (i64 (j+1)) h2<h i j k)) fun g1=>
 aJ f1 fun h1=>
 ao a fun i1=>
 an b j 1 fun j1=>
 Ld (ar .u8) j1 h1 fun (k1:Int)=>
 (Ld kS (i1.add 4) h1 fun (l1:Sl)=>
 Nw 5 ⟨[(.int .u8 k1)]⟩ h1 fun n1 m1=>
 au Pg (Builtin.append_ #[26,26] 26 ⟨[(ag l1),(ag (⟨some ⟨n1,0,none⟩,1,1⟩:Sl))]⟩) kS m1 fun (p1:Sl) o1=>
 ao a fun q1=>
 St (q1.add 4) (ag p1) o1 fun r1=>
 g1 r1)∧
 (Nw 5 ⟨[(.int .u8 k1)]⟩ h1 fun t1 s1=>
 Ld kS (i1.add 4) s1 fun (u1:Sl)=>
 au Pg (Builtin.append_ #[26,26] 26 ⟨[(ag u1),(ag (⟨some ⟨t1,0,none⟩,1,1⟩:Sl))]⟩) kS s1 fun (x1:Sl) v1=>
 ao a fun y1=>
 St (y1.add 4) (ag x1) v1 fun z1=>
 g1 z1)) fun l=>
 aJ k fun m=>
 ao a fun n=>
 an b j 1 fun o=>
 Ld (ar .u8) o m fun (p:Int)=>
 (Ld kS (n.add 3) m fun (q:Sl)=>
 Nw 5 ⟨[(.int .u8 p)]⟩ m fun s r=>
 au Pg (Builtin.append_ #[26,26] 26 ⟨[(ag q),(ag (⟨some ⟨s,0,none⟩,1,1⟩:Sl))]⟩) kS r fun (u:Sl) t=>
 ao a fun v=>
 St (v.add 3) (ag u) t fun x=>
 l x)∧
 (Nw 5 ⟨[(.int .u8 p)]⟩ m fun z y=>
 Ld kS (n.add 3) y fun (a1:Sl)=>
 au Pg (Builtin.append_ #[26,26] 26 ⟨[(ag a1),(ag (⟨some ⟨z,0,none⟩,1,1⟩:Sl))]⟩) kS y fun (c1:Sl) b1=>
 ao a fun d1=>
 St (d1.add 3) (ag c1) b1 fun e1=>
 l e1))
 (R i 0 k))):Cl Pg [kS,kI] dF ⟨[(.pointer a),(ag b)]⟩ w R:=co Tryz.f34 [(12,[(6,kS),(7,kI)]),(18,[]),(20,[])] h
theorem kz.ok (a:(Option Addr)) (R:Sl→Int→World→Prop) w (h:
 ao a fun b=>
 Ld kB (b.add 6) w fun (c:Bool)=>
 aa c
 (R (⟨none,0,0⟩:Sl) 280 w)
 (Cl Pg [kS] dD ⟨[(.pointer a)]⟩ w fun (e:Sl) d=>
 ao a fun f=>
 Ld kS (f.add 3) d fun (g:Sl)=>
 aa (decide ((g.len:Int)>0))
 (Cl Pg [kS] eB ⟨[(.pointer a)]⟩ d fun (i:Sl) h=>
 au Pg (Builtin.append_ #[26,26] 26 ⟨[(ag e),(ag i)]⟩) kS h fun (k:Sl) j=>
 R k 0 j)
 (R e 0 d))):Cl Pg [kS,kI] cK ⟨[(.pointer a)]⟩ w R:=co Tryz.f36 [] h
theorem kE.ok (a:(Option Addr)) (R:Sl→Int→World→Prop) w (h:
 Cl Pg [kS,kI] cK ⟨[(.pointer a)]⟩ w fun (c:Sl) (d:Int) b=>
 aa (d !=0)
 (R (⟨none,0,0⟩:Sl) d b)
 (ao a fun e=>
 St (e.add 6) (.bool true) b fun f=>
 ao a fun g=>
 Ld kS (g.add 4) f fun (h:Sl)=>
 Nw 26 ⟨[(ag h)]⟩ f fun j i=>
 Cl Pg [(ar .u32)] j0 ⟨[(ag (⟨some ⟨j,0,none⟩,1,1⟩:Sl))]⟩ i fun (l:Int) k=>
 Cl Pg [kS] iu ⟨[(.int .u32 l)]⟩ k fun (n:Sl) m=>
 au Pg (Builtin.append_ #[26,26] 26 ⟨[(ag c),(ag n)]⟩) kS m fun (p:Sl) o=>
 R p 0 o)):Cl Pg [kS,kI] dw ⟨[(.pointer a)]⟩ w R:=co Tryz.f38 [] h
theorem rD.ok (a:(Option Addr)) (R:Sl→World→Prop) w (h:
 ao a fun b=>
 Ld kB (b.add 5) w fun (c:Bool)=>
 aa c
 (R (⟨none,0,0⟩:Sl) w)
 (ao a fun d=>
 St (d.add 5) (.bool true) w fun e=>
 ao a fun f=>
 Ld kI (f.add 0) e fun (g:Int)=>
 Cl Pg [kS,kI] ll ⟨[(.agg ⟨[(ni g)]⟩)]⟩ e fun (i:Sl) (j:Int) h=>
 R i h)):Cl Pg [kS] dD ⟨[(.pointer a)]⟩ w R:=co Tryz.f92 [] h
theorem tm.ok (a:(Option Addr)) (R:Sl→World→Prop) w (h:
 aJ w fun b=>
 ao a fun c=>
 Ld kI (c.add 0) b fun (d:Int)=>
 ao a fun e=>
 Ld kS (e.add 3) b fun (f:Sl)=>
 Cl Pg [kS,kI] jW ⟨[(ni d),(ag f)]⟩ b fun (h:Sl) (i:Int) g=>
 ao a fun j=>
 St (j.add 3) (.slice none 0 0) g fun k=>
 R h k):Cl Pg [kS] eB ⟨[(.pointer a)]⟩ w R:=co Tryz.f93 [] h
end Go.Proofs.YtgglghjnakclmaaGreat
namespace Go.Proofs.YtgglghjnakclmaaGreat
open Go Go.Vc
set_option maxRecDepth 100000
theorem BI.ok (a:Int) (b:Int) (R:(Option Addr)→Int→World→Prop) w (h:
 Cl Pg [(ar .u8),kI] mb ⟨[(ni b),(ni a),(.int .u8 1)]⟩ w fun (d:Int) (e:Int) c=>
 aa (e !=0)
 (R none e c)
 (Nw 139 ⟨[(ni a),(ni 0),(.int .u8 d),(.pointer none),(.slice none 0 0),(.int .u32 0),(.int .u32 0),(.bool false),(.bool false)]⟩ c fun g f=>
 Cl Pg [kP,kI] oS ⟨[(ni b)]⟩ f fun i (j:Int) h=>
 St (Addr.add ⟨g,0,none⟩ 3) (.pointer i) h fun k=>
 Cl Pg [kS,kI] gK ⟨[(ni a),(.int .u8 1),(.int .u8 d)]⟩ k fun (m:Sl) (n:Int) l=>
 c8 0 l fun o p (q:Int) r=>
 aa (decide (q<(m.len:Int)))
 (an m q 1 fun s=>
 Ld kI s r fun (t:Int)=>
 Ld kP (Addr.add ⟨g,0,none⟩ 3) r fun u=>
 Cl Pg [(.st [.int .i64,.int .i64]),kI] ik ⟨[(.pointer u),(ni t)]⟩ r fun x (y:Int) v=>
 Nw 146 ⟨[(ni 0),(ni 0)]⟩ v fun a1 z=>
 bl ⟨a1,0,none⟩ [(ni x.1),(ni x.2.1)] 0 z fun b1=>
 a7 (fun (r1:World)=>
 o (i64 (q+1)) r1∧p (i64 (q+1)) r1<p q r) fun c1=>
 aJ b1 fun d1=>
 Ld (.st [.int .i64,.int .i64]) ⟨a1,0,none⟩ d1 fun e1=>
 (Ld kS (Addr.add ⟨g,0,none⟩ 4) d1 fun (f1:Sl)=>
 Nw 146 ⟨[(ni e1.1),(ni e1.2.1)]⟩ d1 fun h1 g1=>
 au Pg (Builtin.append_ #[137,137] 137 ⟨[(ag f1),(ag (⟨some ⟨h1,0,none⟩,1,1⟩:Sl))]⟩) kS g1 fun (j1:Sl) i1=>
 St (Addr.add ⟨g,0,none⟩ 4) (ag j1) i1 fun k1=>
 c1 k1)∧
 (Nw 146 ⟨[(ni e1.1),(ni e1.2.1)]⟩ d1 fun m1 l1=>
 Ld kS (Addr.add ⟨g,0,none⟩ 4) l1 fun (n1:Sl)=>
 au Pg (Builtin.append_ #[137,137] 137 ⟨[(ag n1),(ag (⟨some ⟨m1,0,none⟩,1,1⟩:Sl))]⟩) kS l1 fun (p1:Sl) o1=>
 St (Addr.add ⟨g,0,none⟩ 4) (ag p1) o1 fun q1=>
 c1 q1))
 (R (some ⟨g,0,none⟩) 0 r))):Cl Pg [kP,kI] dN ⟨[(ni a),(ni b)]⟩ w R:=co Tryz.f31 [(18,[(44,kI)]),(27,[])] h
theorem jF.ok (a:(Option Addr)) (b:Sl) (R:Sl→Int→World→Prop) w (h:
 Cl Pg [kS,kB] cr ⟨[(.pointer a)]⟩ w fun (d:Sl) (e:Bool) c=>
 aa (!e)
 (R (⟨none,0,0⟩:Sl) 280 c)
 (ao a fun f=>
 Ld (ar .u32) (f.add 6) c fun (g:Int)=>
 Nw 26 ⟨[(ag b)]⟩ c fun i h=>
 Cl Pg [(ar .u32)] fQ ⟨[(.int .u32 g),(ag (⟨some ⟨i,0,none⟩,1,1⟩:Sl))]⟩ h fun (k:Int) j=>
 ao a fun l=>
 St (l.add 6) (.int .u32 k) j fun m=>
 bq b d m fun n o (p:Sl) (q:Sl) r=>
 aa (decide ((p.len:Int)>0))
 (aJ r fun z=>
 ao a fun a1=>
 Ld kI (a1.add 0) z fun (b1:Int)=>
 ao a fun c1=>
 Ld kI (c1.add 1) z fun (d1:Int)=>
 aJ z fun r1=>
 ao a fun s1=>
 Ld kP (s1.add 3) r1 fun t1=>
 ao a fun u1=>
 Ld kS (u1.add 4) r1 fun (v1:Sl)=>
 an v1 0 2 fun x1=>
 Ld (.st [.int .i64,.int .i64]) x1 r1 fun y1=>
 ao a fun z1=>
 Ld kI (z1.add 1) r1 fun (a2:Int)=>
 bj p 0 (if (i64 (b1 - d1))<(p.len:Int) then (i64 (b1 - d1)) else (p.len:Int)) (p).cap 1 fun b2=>
 Cl Pg [kB] gB ⟨[(.pointer t1),(.agg ⟨[(ni y1.1),(ni y1.2.1)]⟩),(ni a2),(ag b2)]⟩ r1 fun (d2:Bool) c2=>
 a7 (fun (x2:World)=>
 ao a fun y2=>
 Ld kI (y2.add 1) x2 fun (z2:Int)=>
 ao a fun a3=>
 St (a3.add 1) (ni (i64 (z2+(if (i64 (b1 - d1))<(p.len:Int) then (i64 (b1 - d1)) else (p.len:Int))))) x2 fun b3=>
 aJ b3 fun i3=>
 ao a fun j3=>
 Ld kI (j3.add 1) i3 fun (k3:Int)=>
 ao a fun l3=>
 Ld kI (l3.add 0) i3 fun (m3:Int)=>
 aa (k3==m3)
 (Cl Pg [kS] du ⟨[(.pointer a)]⟩ i3 fun (o3:Sl) n3=>
 au Pg (Builtin.append_ #[26,26] 26 ⟨[(ag q),(ag o3)]⟩) kS n3 fun (q3:Sl) p3=>
 bj p (if (i64 (b1 - d1))<(p.len:Int) then (i64 (b1 - d1)) else (p.len:Int)) (p).len (p).cap 1 fun r3=>
 n r3 q3 p3∧o r3 q3 p3<o p q r)
 (bj p (if (i64 (b1 - d1))<(p.len:Int) then (i64 (b1 - d1)) else (p.len:Int)) (p).len (p).cap 1 fun s3=>
 n s3 q i3∧o s3 q i3<o p q r)) fun e2=>
 aJ c2 fun f2=>
 ao a fun g2=>
 bj p 0 (if (i64 (b1 - d1))<(p.len:Int) then (i64 (b1 - d1)) else (p.len:Int)) (p).cap 1 fun h2=>
 (Ld (ar .u32) (g2.add 5) f2 fun (i2:Int)=>
 Nw 26 ⟨[(ag h2)]⟩ f2 fun k2 j2=>
 Cl Pg [(ar .u32)] fQ ⟨[(.int .u32 i2),(ag (⟨some ⟨k2,0,none⟩,1,1⟩:Sl))]⟩ j2 fun (m2:Int) l2=>
 ao a fun n2=>
 St (n2.add 5) (.int .u32 m2) l2 fun o2=>
 e2 o2)∧
 (Nw 26 ⟨[(ag h2)]⟩ f2 fun q2 p2=>
 Ld (ar .u32) (g2.add 5) p2 fun (r2:Int)=>
 Cl Pg [(ar .u32)] fQ ⟨[(.int .u32 r2),(ag (⟨some ⟨q2,0,none⟩,1,1⟩:Sl))]⟩ p2 fun (t2:Int) s2=>
 ao a fun u2=>
 St (u2.add 5) (.int .u32 t2) s2 fun v2=>
 e2 v2))
 (R q 0 r))):Cl Pg [kS,kI] bV ⟨[(.pointer a),(ag b)]⟩ w R:=co Tryz.f33 [(12,[(1,kS),(6,kS)]),(21,[])] h
theorem fw.ok (a:(Option Addr)) (R:Sl→Int→World→Prop) w (h:
 Cl Pg [kS,kB] cr ⟨[(.pointer a)]⟩ w fun (c:Sl) (d:Bool) b=>
 aa (!d)
 (R (⟨none,0,0⟩:Sl) 280 b)
 (ao a fun e=>
 Ld kI (e.add 1) b fun (f:Int)=>
 aa (decide (f>0))
 (Cl Pg [kS] du ⟨[(.pointer a)]⟩ b fun (h:Sl) g=>
 au Pg (Builtin.append_ #[26,26] 26 ⟨[(ag c),(ag h)]⟩) kS g fun (j:Sl) i=>
 R j 0 i)
 (R c 0 b))):Cl Pg [kS,kI] bb ⟨[(.pointer a)]⟩ w R:=co Tryz.f35 [] h
theorem jI.ok (a:(Option Addr)) (R:Sl→Int→World→Prop) w (h:
 Cl Pg [kS,kI] bb ⟨[(.pointer a)]⟩ w fun (c:Sl) (d:Int) b=>
 aa (d !=0)
 (R (⟨none,0,0⟩:Sl) d b)
 (ao a fun e=>
 St (e.add 8) (.bool true) b fun f=>
 ao a fun g=>
 Ld (ar .u32) (g.add 6) f fun (h:Int)=>
 Cl Pg [kS] j8 ⟨[(.int .u32 h)]⟩ f fun (j:Sl) i=>
 au Pg (Builtin.append_ #[26,26] 26 ⟨[(ag c),(ag j)]⟩) kS i fun (l:Sl) k=>
 R l 0 k)):Cl Pg [kS,kI] bU ⟨[(.pointer a)]⟩ w R:=co Tryz.f37 [] h
theorem kd.ok (a:(Option Addr)) (R:Int→World→Prop) w (h:
 aa (Option.isNone (a:Option Addr))
 (R 0 w)
 (ao a fun b=>
 Ld kI (b.add 1) w fun (c:Int)=>
 R c w)):Cl Pg [kI] bB ⟨[(.pointer a)]⟩ w R:=co Tryz.f39 [] h
theorem kr.ok (a:(Option Addr)) (R:Int→World→Prop) w (h:
 aa (Option.isNone (a:Option Addr))
 (R 0 w)
 (ao a fun b=>
 Ld (ar .u8) (b.add 2) w fun (c:Int)=>
 R c w)):Cl Pg [(ar .u8)] bm ⟨[(.pointer a)]⟩ w R:=co Tryz.f40 [] h
theorem kc.ok (a:(Option Addr)) (R:Int→World→Prop) w (h:
 aa (Option.isNone (a:Option Addr))
 (R 0 w)
 (ao a fun b=>
 Ld kP (b.add 3) w fun c=>
 Cl Pg [kI] g9 ⟨[(.pointer c)]⟩ w fun (e:Int) d=>
 R e d)):Cl Pg [kI] bC ⟨[(.pointer a)]⟩ w R:=co Tryz.f41 [] h
theorem fB.ok (a:(Option Addr)) (R:Sl→Bool→World→Prop) w (h:
 aa (Option.isNone (a:Option Addr))
 (R (⟨none,0,0⟩:Sl) false w)
 (ao a fun b=>
 Ld kB (b.add 8) w fun (c:Bool)=>
 aa c
 (R (⟨none,0,0⟩:Sl) false w)
 (ao a fun d=>
 Ld kB (d.add 7) w fun (e:Bool)=>
 aa (!e)
 (ao a fun f=>
 Ld kI (f.add 0) w fun (g:Int)=>
 Cl Pg [kS,kI] nN ⟨[(.agg ⟨[(ni g)]⟩)]⟩ w fun (i:Sl) (j:Int) h=>
 ao a fun k=>
 St (k.add 7) (.bool true) h fun l=>
 R i true l)
 (R (⟨none,0,0⟩:Sl) true w)))):Cl Pg [kS,kB] cr ⟨[(.pointer a)]⟩ w R:=co Tryz.f88 [] h
theorem rA.ok (a:(Option Addr)) (R:Sl→World→Prop) w (h:
 au Pg (Instr.makeMap 210 none) kM w fun c b=>
 au Pg (do Instr.mapUpdate 210 (.map c) (.int .u8 1) (.func (.func 140) ⟨[(.pointer a)]⟩ ⟨[]⟩);pure undef) kV b fun _ d=>
 au Pg (do Instr.mapUpdate 210 (.map c) (.int .u8 2) (.func (.func 140) ⟨[(.pointer a)]⟩ ⟨[]⟩);pure undef) kV d fun _ e=>
 au Pg (do Instr.mapUpdate 210 (.map c) (.int .u8 3) (.func (.func 141) ⟨[(.pointer a)]⟩ ⟨[]⟩);pure undef) kV e fun _ f=>
 Cl Pg [] fg ⟨[(.pointer a)]⟩ f fun g=>
 ao a fun h=>
 Ld (ar .u8) (h.add 2) g fun (i:Int)=>
 au Pg (Instr.lookup 210 (.map c) (.int .u8 i) false) kV g fun k j=>
 de Pg k [(.st [.int .i64,.int .i64]),kI] [] j fun m (n:Int) l=>
 Nw 146 ⟨[(ni 0),(ni 0)]⟩ l fun p o=>
 bl ⟨p,0,none⟩ [(ni m.1),(ni m.2.1)] 0 o fun q=>
 gw q fun e1 f1=>
 ao a fun g1=>
 aG kI (g1.add 0) e1 fun (h1:Int)=>
 ao a fun i1=>
 aG kI (i1.add 1) e1 fun (j1:Int)=>
 ao a fun k1=>
 aG (ar .u32) (k1.add 5) e1 fun (l1:Int)=>
 Cl Pg [kS,kI] iM ⟨[(ni h1),(.agg ⟨[(ni j1),(ni n),(.int .u32 l1)]⟩)]⟩ f1 fun (n1:Sl) (o1:Int) m1=>
 e1 m1∧
 aJ m1 fun z1=>
 ao a fun a2=>
 Ld kP (a2.add 3) z1 fun b2=>
 Ld (.st [.int .i64,.int .i64]) ⟨p,0,none⟩ z1 fun c2=>
 Cl Pg [kS] ia ⟨[(.pointer b2),(.agg ⟨[(ni c2.1),(ni c2.2.1)]⟩)]⟩ z1 fun (e2:Sl) d2=>
 Cl Pg [kS] nz ⟨[(ag e2)]⟩ d2 fun (g2:Sl) f2=>
 Cl Pg [(.arr 258),kI] k5 ⟨[(ag g2)]⟩ f2 fun i2 (j2:Int) h2=>
 Nw 215 ⟨List.replicate 258 (ni 0)⟩ h2 fun l2 k2=>
 ax 258 ⟨l2,0,none⟩ i2 k2 fun m2=>
 Ld (.arr 258) ⟨l2,0,none⟩ m2 fun n2=>
 Cl Pg [(.arr 258),kI] dh ⟨[(.agg n2),(ni 15)]⟩ m2 fun p2 (q2:Int) o2=>
 Nw 104 ⟨List.replicate 258 (.int .u8 0)⟩ o2 fun s2 r2=>
 ax 258 ⟨s2,0,none⟩ p2 r2 fun t2=>
 Cl Pg [kP] kj ⟨[]⟩ t2 fun v2 u2=>
 Ld (.arr 258) ⟨s2,0,none⟩ u2 fun x2=>
 Cl Pg [kI] iI ⟨[(.pointer v2),(.agg x2)]⟩ u2 fun (z2:Int) y2=>
 Ld (.arr 258) ⟨s2,0,none⟩ y2 fun a3=>
 Cl Pg [kI] kl ⟨[(.pointer v2),(.agg a3),(ag g2)]⟩ y2 fun (c3:Int) b3=>
 ao a fun d3=>
 St (d3.add 1) (ni 0) b3 fun e3=>
 ao a fun f3=>
 St (f3.add 5) (.int .u32 0) e3 fun g3=>
 Cl Pg [kS] eu ⟨[(.pointer v2)]⟩ g3 fun (i3:Sl) h3=>
 au Pg (Builtin.append_ #[26,26] 26 ⟨[(ag n1),(ag i3)]⟩) kS h3 fun (k3:Sl) j3=>
 R k3 j3):Cl Pg [kS] du ⟨[(.pointer a)]⟩ w R:=co Tryz.f91 [] h
theorem pY.ok (a:(Option Addr)) (R:(TT [.int .i64,.int .i64])→Int→World→Prop) w (h:
 Nw 146 ⟨[(ni 0),(ni 0)]⟩ w fun c b=>
 gw b fun d e=>
 ao a fun f=>
 aG kP (f.add 3) d fun g=>
 Cl Pg [(.st [.int .i64,.int .i64])] bD ⟨[(.pointer a),(ni 0)]⟩ e fun i h=>
 d h∧
 Cl Pg [kI,kI,kI] iR ⟨[(.pointer g),(.agg ⟨[(ni i.1),(ni i.2.1)]⟩)]⟩ h fun (k:Int) (l:Int) (m:Int) j=>
 d j∧
 Cl Pg [(.st [.int .i64,.int .i64])] bD ⟨[(.pointer a),(ni 0)]⟩ j fun o n=>
 bl ⟨c,0,none⟩ [(ni o.1),(ni o.2.1)] 0 n fun p=>
 Ld (.st [.int .i64,.int .i64]) ⟨c,0,none⟩ p fun q=>
 R q k p):Cl Pg [(.st [.int .i64,.int .i64]),kI] eI ⟨[(.pointer a)]⟩ w R:=co Tryz.f140 [] h
theorem qH.ok (a:(Option Addr)) (R:(TT [.int .i64,.int .i64])→Int→World→Prop) w (h:
 Nw 146 ⟨[(ni 0),(ni 0)]⟩ w fun c b=>
 gw b fun d e=>
 ao a fun f=>
 aG kP (f.add 3) d fun g=>
 ao a fun h=>
 aG kS (h.add 4) d fun (i:Sl)=>
 an i 2 2 fun j=>
 aG (.st [.int .i64,.int .i64]) j d fun k=>
 Cl Pg [(.st [.int .i64,.int .i64])] bD ⟨[(.pointer a),(ni 0)]⟩ e fun m l=>
 d l∧
 Cl Pg [(.st [.int .i64,.int .i64])] bD ⟨[(.pointer a),(ni 1)]⟩ l fun o n=>
 d n∧
 Cl Pg [kI,kI,kI] js ⟨[(.pointer g),(.agg ⟨[(ni m.1),(ni m.2.1)]⟩),(.agg ⟨[(ni o.1),(ni o.2.1)]⟩),(.agg ⟨[(ni k.1),(ni k.2.1)]⟩)]⟩ n fun (q:Int) (r:Int) (s:Int) p=>
 d p∧
 Cl Pg [(.st [.int .i64,.int .i64])] bD ⟨[(.pointer a),(ni 1)]⟩ p fun u t=>
 bl ⟨c,0,none⟩ [(ni u.1),(ni u.2.1)] 0 t fun v=>
 Ld (.st [.int .i64,.int .i64]) ⟨c,0,none⟩ v fun x=>
 R x q v):Cl Pg [(.st [.int .i64,.int .i64]),kI] ff ⟨[(.pointer a)]⟩ w R:=co Tryz.f141 [] h
theorem qb.ok (a:(Option Addr)) (R:World→Prop) w (h:
 ao a fun b=>
 Ld kS (b.add 4) w fun (c:Sl)=>
 an c 0 2 fun d=>
 Ld (.st [.int .i64,.int .i64]) d w fun e=>
 Nw 146 ⟨[(ni 0),(ni 0)]⟩ w fun g f=>
 bl ⟨g,0,none⟩ [(ni e.1),(ni e.2.1)] 0 f fun h=>
 aJ h fun i=>
 ao a fun j=>
 Ld kI (j.add 1) i fun (k:Int)=>
 bq 0 (i64 (k - 1)) i fun l m (n:Int) (o:Int) p=>
 aa (decide (n<o))
 (aJ p fun q=>
 ao a fun r=>
 Ld kP (r.add 3) q fun s=>
 Ld (.st [.int .i64,.int .i64]) ⟨g,0,none⟩ q fun t=>
 Cl Pg [(ar .u8),kB] bz ⟨[(.pointer s),(.agg ⟨[(ni t.1),(ni t.2.1)]⟩),(ni n)]⟩ q fun (v:Int) (x:Bool) u=>
 aJ u fun y=>
 ao a fun z=>
 Ld kP (z.add 3) y fun a1=>
 Ld (.st [.int .i64,.int .i64]) ⟨g,0,none⟩ y fun b1=>
 Cl Pg [(ar .u8),kB] bz ⟨[(.pointer a1),(.agg ⟨[(ni b1.1),(ni b1.2.1)]⟩),(ni o)]⟩ y fun (d1:Int) (e1:Bool) c1=>
 aJ c1 fun f1=>
 ao a fun g1=>
 Ld kP (g1.add 3) f1 fun h1=>
 Ld (.st [.int .i64,.int .i64]) ⟨g,0,none⟩ f1 fun i1=>
 Cl Pg [kB] bJ ⟨[(.pointer h1),(.agg ⟨[(ni i1.1),(ni i1.2.1)]⟩),(ni n),(.int .u8 d1)]⟩ f1 fun (k1:Bool) j1=>
 aJ j1 fun l1=>
 ao a fun m1=>
 Ld kP (m1.add 3) l1 fun n1=>
 Ld (.st [.int .i64,.int .i64]) ⟨g,0,none⟩ l1 fun o1=>
 Cl Pg [kB] bJ ⟨[(.pointer n1),(.agg ⟨[(ni o1.1),(ni o1.2.1)]⟩),(ni o),(.int .u8 v)]⟩ l1 fun (q1:Bool) p1=>
 l (i64 (n+1)) (i64 (o - 1)) p1∧m (i64 (n+1)) (i64 (o - 1)) p1<m n o p)
 (R p)):Cl Pg [] fg ⟨[(.pointer a)]⟩ w R:=co Tryz.f142 [(4,[(3,kI),(4,kI)])] h
theorem q9.ok (a:(Option Addr)) (b:Int) (R:(TT [.int .i64,.int .i64])→World→Prop) w (h:
 Nw 146 ⟨[(ni 0),(ni 0)]⟩ w fun d c=>
 aJ c fun e=>
 ao a fun f=>
 Ld kS (f.add 4) e fun (g:Sl)=>
 an g b 2 fun h=>
 Ld kI (h.add 0) e fun (i:Int)=>
 ao a fun j=>
 Ld kI (j.add 1) e fun (k:Int)=>
 bl ⟨d,0,none⟩ [(ni i),(ni k)] 0 e fun l=>
 Ld (.st [.int .i64,.int .i64]) ⟨d,0,none⟩ l fun m=>
 R m l):Cl Pg [(.st [.int .i64,.int .i64])] bD ⟨[(.pointer a),(ni b)]⟩ w R:=co Tryz.f195 [] h
end Go.Proofs.YtgglghjnakclmaaGreat
namespace Go.Proofs.YtgglghjnakclmaaGreat
open Go Go.Vc
set_option maxRecDepth 100000
theorem vJ.ok (a:(Option Addr)) (b:(TT [.int .i64,.int .i64])) (R:Int→Int→Int→World→Prop) w (h:
 Nw 146 ⟨[(ni b.1),(ni b.2.1)]⟩ w fun d c=>
 Ld (.st [.int .i64,.int .i64]) ⟨d,0,none⟩ c fun e=>
 Cl Pg [kB] ib ⟨[(.pointer a),(.agg ⟨[(ni e.1),(ni e.2.1)]⟩)]⟩ c fun (g:Bool) f=>
 aa (!g)
 (R 0 0 2 f)
 (Ld (.st [.int .i64,.int .i64]) ⟨d,0,none⟩ f fun h=>
 Nw 324 ⟨[(.pointer a),(ni h.1),(ni h.2.1)]⟩ f fun j i=>
 Ld kI (Addr.add ⟨d,0,none⟩ 1) i fun (k:Int)=>
 F2 0 0 (i64 (k - 1)) i fun l m (n:Int) (o:Int) (p:Int) q=>
 aa (decide (p≥0))
 (Ld kI (Addr.add ⟨d,0,none⟩ 1) q fun (r:Int)=>
 Cl Pg [kI] dV ⟨[(.pointer (some ⟨j,0,none⟩)),(ni p),(ni n)]⟩ q fun (t:Int) s=>
 l t (i64 (o+(i64 ((i64 ((i64 (r - 1)) - p))+n)))) (i64 (p - 1)) s∧m t (i64 (o+(i64 ((i64 ((i64 (r - 1)) - p))+n)))) (i64 (p - 1)) s<m n o p q)
 (R n o 0 q))):Cl Pg [kI,kI,kI] iR ⟨[(.pointer a),(.agg ⟨[(ni b.1),(ni b.2.1)]⟩)]⟩ w R:=co Tryz.f194 [(12,[(4,kI),(5,kI),(8,kI)])] h
theorem uc.ok (a:(Option Addr)) (b:(TT [.int .i64,.int .i64])) (R:Bool→World→Prop) w (h:
 Nw 146 ⟨[(ni b.1),(ni b.2.1)]⟩ w fun d c=>
 Ld (.st [.int .i64,.int .i64]) ⟨d,0,none⟩ c fun e=>
 Cl Pg [kB] bG ⟨[(.pointer a),(.agg ⟨[(ni e.1),(ni e.2.1)]⟩)]⟩ c fun (g:Bool) f=>
 aa g
 (Ld kI (Addr.add ⟨d,0,none⟩ 1) f fun (h:Int)=>
 aa (decide (h>0))
 (Ld kI (Addr.add ⟨d,0,none⟩ 1) f fun (i:Int)=>
 R (decide (i≤65536)) f)
 (R false f))
 (R false f)):Cl Pg [kB] ib ⟨[(.pointer a),(.agg ⟨[(ni b.1),(ni b.2.1)]⟩)]⟩ w R:=co Tryz.f253 [] h
theorem oo.ok (a:(Option Addr)) (b:Int) (c:Int) (R:Int→World→Prop) w (h:
 Cl Pg [(ar .u8)] cp ⟨[(.pointer a),(ni b)]⟩ w fun (e:Int) d=>
 ao a fun f=>
 Ld kI ((f.add 1).add 1) d fun (g:Int)=>
 bq 1 0 d fun h i (j:Int) (k:Int) l=>
 aa (decide (k<(i64 ((i64 (g - b)) - 1))))
 (Cl Pg [(ar .u8)] cp ⟨[(.pointer a),(ni (i64 ((i64 (b+1))+k)))]⟩ l fun (n:Int) m=>
 aa (decide (n<e))
 (h (i64 (j+1)) (i64 (k+1)) m∧i (i64 (j+1)) (i64 (k+1)) m<i j k l)
 (aa (n==e)
 (aa (decide (k<c))
 (h (i64 (j+1)) (i64 (k+1)) m∧i (i64 (j+1)) (i64 (k+1)) m<i j k l)
 (h j (i64 (k+1)) m∧i j (i64 (k+1)) m<i j k l))
 (h j (i64 (k+1)) m∧i j (i64 (k+1)) m<i j k l)))
 (c8 0 l fun o p (q:Int) r=>
 aa (decide (q<c))
 (gw r fun s t=>
 ao a fun u=>
 aG kP (u.add 0) s fun v=>
 ao a fun x=>
 aG (.st [.int .i64,.int .i64]) (x.add 1) s fun y=>
 Cl Pg [(ar .u8)] cp ⟨[(.pointer a),(ni (i64 ((i64 (b+q))+1)))]⟩ t fun (a1:Int) z=>
 s z∧
 Cl Pg [kB] bJ ⟨[(.pointer v),(.agg ⟨[(ni y.1),(ni y.2.1)]⟩),(ni (i64 (b+q))),(.int .u8 a1)]⟩ z fun (c1:Bool) b1=>
 s b1∧
 o (i64 (q+1)) b1∧p (i64 (q+1)) b1<p q r)
 (aJ r fun d1=>
 ao a fun e1=>
 Ld kP (e1.add 0) d1 fun f1=>
 ao a fun g1=>
 Ld (.st [.int .i64,.int .i64]) (g1.add 1) d1 fun h1=>
 Cl Pg [kB] bJ ⟨[(.pointer f1),(.agg ⟨[(ni h1.1),(ni h1.2.1)]⟩),(ni (i64 (b+c))),(.int .u8 e)]⟩ d1 fun (j1:Bool) i1=>
 R j i1))):Cl Pg [kI] dV ⟨[(.pointer a),(ni b),(ni c)]⟩ w R:=co Tryz.f254 [(9,[(8,kI),(23,kI)]),(25,[(49,kI)])] h
theorem p4.ok (a:(Option Addr)) (b:Int) (R:Int→World→Prop) w (h:
 aJ w fun c=>
 ao a fun d=>
 Ld kP (d.add 0) c fun e=>
 ao a fun f=>
 Ld (.st [.int .i64,.int .i64]) (f.add 1) c fun g=>
 Cl Pg [(ar .u8),kB] bz ⟨[(.pointer e),(.agg ⟨[(ni g.1),(ni g.2.1)]⟩),(ni b)]⟩ c fun (i:Int) (j:Bool) h=>
 R i h):Cl Pg [(ar .u8)] cp ⟨[(.pointer a),(ni b)]⟩ w R:=co Tryz.f300 [] h
end Go.Proofs.YtgglghjnakclmaaGreat
namespace Go.Proofs.YtgglghjnakclmaaGreat
open Go Go.Vc
set_option maxRecDepth 100000
theorem E2.ok (a:Int) (R:(Option Addr)→Int→World→Prop) w (h:
 aa (decide (a<1))
 (R none 2 w)
 (aa (decide (a>1048576))
 (R none 2 w)
 (au Pg (Instr.makeSlice 26 (ni a) (ni a)) kS w fun (c:Sl) b=>
 Nw 199 ⟨[(ag c),(ni 0),(ni 0)]⟩ b fun e d=>
 R (some ⟨e,0,none⟩) 0 d))):Cl Pg [kP,kI] oS ⟨[(ni a)]⟩ w R:=co Tryz.f84 [] h
theorem tY.ok (a:(Option Addr)) (b:Int) (R:(TT [.int .i64,.int .i64])→Int→World→Prop) w (h:
 Nw 146 ⟨[(ni 0),(ni 0)]⟩ w fun d c=>
 aa (Option.isNone (a:Option Addr))
 (bl ⟨d,0,none⟩ [(ni 0),(ni 0)] 0 c fun e=>
 Ld (.st [.int .i64,.int .i64]) ⟨d,0,none⟩ e fun f=>
 R f 2 e)
 (aa (decide (b<0))
 (bl ⟨d,0,none⟩ [(ni 0),(ni 0)] 0 c fun g=>
 Ld (.st [.int .i64,.int .i64]) ⟨d,0,none⟩ g fun h=>
 R h 2 g)
 (aJ c fun i=>
 ao a fun j=>
 Ld kS (j.add 0) i fun (k:Sl)=>
 ao a fun l=>
 Ld kI (l.add 1) i fun (m:Int)=>
 aa (decide (b>(i64 ((k.len:Int) - m))))
 (bl ⟨d,0,none⟩ [(ni 0),(ni 0)] 0 i fun n=>
 Ld (.st [.int .i64,.int .i64]) ⟨d,0,none⟩ n fun o=>
 R o 10 n)
 (ao a fun p=>
 Ld kI (p.add 1) i fun (q:Int)=>
 Nw 146 ⟨[(ni 0),(ni 0)]⟩ i fun s r=>
 bl ⟨s,0,none⟩ [(ni q),(ni b)] 0 r fun t=>
 aJ t fun u=>
 ao a fun v=>
 Ld kS (v.add 0) u fun (x:Sl)=>
 Ld kI (Addr.add ⟨s,0,none⟩ 0) u fun (y:Int)=>
 Ld kI (Addr.add ⟨s,0,none⟩ 0) u fun (z:Int)=>
 bj x y (i64 (z+b)) (x).cap 1 fun a1=>
 au Pg (Builtin.clear_ #[26] 0 ⟨[(ag a1)]⟩) kV u fun c1 b1=>
 ao a fun d1=>
 Ld kI (d1.add 1) b1 fun (e1:Int)=>
 ao a fun f1=>
 St (f1.add 1) (ni (i64 (e1+b))) b1 fun g1=>
 aJ g1 fun h1=>
 ao a fun i1=>
 Ld kI (i1.add 2) h1 fun (j1:Int)=>
 ao a fun k1=>
 Ld kI (k1.add 1) h1 fun (l1:Int)=>
 ao a fun m1=>
 St (m1.add 2) (ni (if l1>j1 then l1 else j1)) h1 fun n1=>
 Ld (.st [.int .i64,.int .i64]) ⟨s,0,none⟩ n1 fun o1=>
 bl ⟨d,0,none⟩ [(ni o1.1),(ni o1.2.1)] 0 n1 fun p1=>
 Ld (.st [.int .i64,.int .i64]) ⟨d,0,none⟩ p1 fun q1=>
 R q1 0 p1)))):Cl Pg [(.st [.int .i64,.int .i64]),kI] ik ⟨[(.pointer a),(ni b)]⟩ w R:=co Tryz.f86 [] h
theorem tu.ok (a:(Option Addr)) (b:(TT [.int .i64,.int .i64])) (c:Int) (d:Sl) (R:Bool→World→Prop) w (h:
 Nw 146 ⟨[(ni b.1),(ni b.2.1)]⟩ w fun f e=>
 Ld (.st [.int .i64,.int .i64]) ⟨f,0,none⟩ e fun g=>
 Cl Pg [kB] bG ⟨[(.pointer a),(.agg ⟨[(ni g.1),(ni g.2.1)]⟩)]⟩ e fun (i:Bool) h=>
 aa (!i)
 (R false h)
 (aa (decide (c<0))
 (R false h)
 (Ld kI (Addr.add ⟨f,0,none⟩ 1) h fun (j:Int)=>
 aa (decide (c>(i64 (j - (d.len:Int)))))
 (R false h)
 (aJ h fun k=>
 ao a fun l=>
 Ld kS (l.add 0) k fun (m:Sl)=>
 Ld kI (Addr.add ⟨f,0,none⟩ 0) k fun (n:Int)=>
 bj m (i64 (n+c)) (m).len (m).cap 1 fun o=>
 au Pg (Builtin.copy_ #[26,26] 3 ⟨[(ag o),(ag d)]⟩) kI k fun (q:Int) p=>
 R true p)))):Cl Pg [kB] gB ⟨[(.pointer a),(.agg ⟨[(ni b.1),(ni b.2.1)]⟩),(ni c),(ag d)]⟩ w R:=co Tryz.f90 [] h
theorem ux.ok (a:(Option Addr)) (R:Int→World→Prop) w (h:
 aa (Option.isNone (a:Option Addr))
 (R 0 w)
 (ao a fun b=>
 Ld kI (b.add 2) w fun (c:Int)=>
 R c w)):Cl Pg [kI] g9 ⟨[(.pointer a)]⟩ w R:=co Tryz.f95 [] h
theorem vi.ok (a:(Option Addr)) (b:(TT [.int .i64,.int .i64])) (R:Bool→World→Prop) w (h:
 Nw 146 ⟨[(ni b.1),(ni b.2.1)]⟩ w fun d c=>
 aJ c fun e=>
 aa (!(Option.isNone (a:Option Addr)))
 (Ld kI (Addr.add ⟨d,0,none⟩ 0) e fun (f:Int)=>
 aa (decide (f≥0))
 (Ld kI (Addr.add ⟨d,0,none⟩ 1) e fun (g:Int)=>
 aa (decide (g≥0))
 (Ld kI (Addr.add ⟨d,0,none⟩ 0) e fun (h:Int)=>
 ao a fun i=>
 Ld kI (i.add 1) e fun (j:Int)=>
 aa (decide (h≤j))
 (Ld kI (Addr.add ⟨d,0,none⟩ 1) e fun (k:Int)=>
 ao a fun l=>
 Ld kI (l.add 1) e fun (m:Int)=>
 Ld kI (Addr.add ⟨d,0,none⟩ 0) e fun (n:Int)=>
 R (decide (k≤(i64 (m - n)))) e)
 (R false e))
 (R false e))
 (R false e))
 (R false e)):Cl Pg [kB] bG ⟨[(.pointer a),(.agg ⟨[(ni b.1),(ni b.2.1)]⟩)]⟩ w R:=co Tryz.f139 [] h
theorem uL.ok (a:(Option Addr)) (b:(TT [.int .i64,.int .i64])) (R:Sl→World→Prop) w (h:
 Nw 146 ⟨[(ni b.1),(ni b.2.1)]⟩ w fun d c=>
 Ld (.st [.int .i64,.int .i64]) ⟨d,0,none⟩ c fun e=>
 Cl Pg [kB] bG ⟨[(.pointer a),(.agg ⟨[(ni e.1),(ni e.2.1)]⟩)]⟩ c fun (g:Bool) f=>
 aa (!g)
 (R (⟨none,0,0⟩:Sl) f)
 (aJ f fun h=>
 ao a fun i=>
 Ld kS (i.add 0) h fun (j:Sl)=>
 Ld kI (Addr.add ⟨d,0,none⟩ 0) h fun (k:Int)=>
 Ld kI (Addr.add ⟨d,0,none⟩ 0) h fun (l:Int)=>
 Ld kI (Addr.add ⟨d,0,none⟩ 1) h fun (m:Int)=>
 bj j k (i64 (l+m)) (j).cap 1 fun n=>
 Cl Pg [kS] jm ⟨[(ag n)]⟩ h fun (p:Sl) o=>
 R p o)):Cl Pg [kS] ia ⟨[(.pointer a),(.agg ⟨[(ni b.1),(ni b.2.1)]⟩)]⟩ w R:=co Tryz.f145 [] h
theorem uO.ok (a:(Option Addr)) (b:(TT [.int .i64,.int .i64])) (c:Int) (R:Int→Bool→World→Prop) w (h:
 Nw 146 ⟨[(ni b.1),(ni b.2.1)]⟩ w fun e d=>
 Ld (.st [.int .i64,.int .i64]) ⟨e,0,none⟩ d fun f=>
 Cl Pg [kS] dn ⟨[(.pointer a),(.agg ⟨[(ni f.1),(ni f.2.1)]⟩),(ni c),(ni 1)]⟩ d fun (h:Sl) g=>
 aa (Option.isNone (h).base)
 (R 0 false g)
 (an h 0 1 fun i=>
 Ld (ar .u8) i g fun (j:Int)=>
 R j true g)):Cl Pg [(ar .u8),kB] bz ⟨[(.pointer a),(.agg ⟨[(ni b.1),(ni b.2.1)]⟩),(ni c)]⟩ w R:=co Tryz.f197 [] h
theorem ry.ok (a:(Option Addr)) (b:(TT [.int .i64,.int .i64])) (c:Int) (d:Int) (R:Bool→World→Prop) w (h:
 Nw 146 ⟨[(ni b.1),(ni b.2.1)]⟩ w fun f e=>
 Ld (.st [.int .i64,.int .i64]) ⟨f,0,none⟩ e fun g=>
 Cl Pg [kS] dn ⟨[(.pointer a),(.agg ⟨[(ni g.1),(ni g.2.1)]⟩),(ni c),(ni 1)]⟩ e fun (i:Sl) h=>
 aa (Option.isNone (i).base)
 (R false h)
 (an i 0 1 fun j=>
 St j (.int .u8 d) h fun k=>
 R true k)):Cl Pg [kB] bJ ⟨[(.pointer a),(.agg ⟨[(ni b.1),(ni b.2.1)]⟩),(ni c),(.int .u8 d)]⟩ w R:=co Tryz.f198 [] h
theorem uo.ok (a:(Option Addr)) (b:(TT [.int .i64,.int .i64])) (c:Int) (d:Int) (R:Sl→World→Prop) w (h:
 Nw 146 ⟨[(ni b.1),(ni b.2.1)]⟩ w fun f e=>
 Ld (.st [.int .i64,.int .i64]) ⟨f,0,none⟩ e fun g=>
 Cl Pg [kB] bG ⟨[(.pointer a),(.agg ⟨[(ni g.1),(ni g.2.1)]⟩)]⟩ e fun (i:Bool) h=>
 aa (!i)
 (R (⟨none,0,0⟩:Sl) h)
 (aa (decide (c<0))
 (R (⟨none,0,0⟩:Sl) h)
 (Ld kI (Addr.add ⟨f,0,none⟩ 1) h fun (j:Int)=>
 aa (decide (c>(i64 (j - d))))
 (R (⟨none,0,0⟩:Sl) h)
 (Ld kI (Addr.add ⟨f,0,none⟩ 0) h fun (k:Int)=>
 ao a fun l=>
 Ld kS (l.add 0) h fun (m:Sl)=>
 bj m (i64 (c+k)) (i64 ((i64 (c+k))+d)) (i64 ((i64 (c+k))+d)) 1 fun n=>
 R n h)))):Cl Pg [kS] dn ⟨[(.pointer a),(.agg ⟨[(ni b.1),(ni b.2.1)]⟩),(ni c),(ni d)]⟩ w R:=co Tryz.f261 [] h
theorem ru.ok (a:(Option Addr)) (b:(TT [.int .i64,.int .i64])) (c:Int) (d:Int) (R:Bool→World→Prop) w (h:
 Nw 146 ⟨[(ni b.1),(ni b.2.1)]⟩ w fun f e=>
 Ld (.st [.int .i64,.int .i64]) ⟨f,0,none⟩ e fun g=>
 Cl Pg [kS] eV ⟨[(.pointer a),(.agg ⟨[(ni g.1),(ni g.2.1)]⟩),(ni c)]⟩ e fun (i:Sl) h=>
 c8 0 h fun j k (l:Int) m=>
 aa (decide (l<(i.len:Int)))
 (0≤(i64 ((8:Int)*l))∧
 an i l 1 fun n=>
 St n (.int .u8 (u8 (aO .u32 d (i64 ((8:Int)*l))))) m fun o=>
 j (i64 (l+1)) o∧k (i64 (l+1)) o<k l m)
 (R (!(Option.isNone (i).base)) m)):Cl Pg [kB] fC ⟨[(.pointer a),(.agg ⟨[(ni b.1),(ni b.2.1)]⟩),(ni c),(.int .u32 d)]⟩ w R:=co Tryz.f283 [(7,[(17,kI)])] h
theorem um.ok (a:(Option Addr)) (b:(TT [.int .i64,.int .i64])) (c:Int) (R:Int→Bool→World→Prop) w (h:
 Nw 146 ⟨[(ni b.1),(ni b.2.1)]⟩ w fun e d=>
 Ld (.st [.int .i64,.int .i64]) ⟨e,0,none⟩ d fun f=>
 Cl Pg [kS] eV ⟨[(.pointer a),(.agg ⟨[(ni f.1),(ni f.2.1)]⟩),(ni c)]⟩ d fun (h:Sl) g=>
 bq 0 0 g fun i j (k:Int) (l:Int) m=>
 aa (decide (l<(h.len:Int)))
 (an h l 1 fun n=>
 Ld (ar .u8) n m fun (o:Int)=>
 0≤(i64 ((8:Int)*l))∧
 i (rp .u32 k (eG .u32 (u32 o) (i64 ((8:Int)*l)))) (i64 (l+1)) m∧j (rp .u32 k (eG .u32 (u32 o) (i64 ((8:Int)*l)))) (i64 (l+1)) m<j k l m)
 (R k (!(Option.isNone (h).base)) m)):Cl Pg [(ar .u32),kB] ij ⟨[(.pointer a),(.agg ⟨[(ni b.1),(ni b.2.1)]⟩),(ni c)]⟩ w R:=co Tryz.f305 [(7,[(6,(ar .u32)),(17,kI)])] h
theorem uJ.ok (a:(Option Addr)) (b:(TT [.int .i64,.int .i64])) (c:Int) (R:Sl→World→Prop) w (h:
 Nw 146 ⟨[(ni b.1),(ni b.2.1)]⟩ w fun e d=>
 aa (decide (c<0))
 (R (⟨none,0,0⟩:Sl) d)
 (aa (decide (c>1048576))
 (R (⟨none,0,0⟩:Sl) d)
 (Ld (.st [.int .i64,.int .i64]) ⟨e,0,none⟩ d fun f=>
 0≤(2:Int)∧
 Cl Pg [kS] dn ⟨[(.pointer a),(.agg ⟨[(ni f.1),(ni f.2.1)]⟩),(ni (eG .i64 c (2:Int))),(ni 4)]⟩ d fun (h:Sl) g=>
 R h g))):Cl Pg [kS] eV ⟨[(.pointer a),(.agg ⟨[(ni b.1),(ni b.2.1)]⟩),(ni c)]⟩ w R:=co Tryz.f316 [] h
end Go.Proofs.YtgglghjnakclmaaGreat
set_option maxRecDepth 20000
namespace Go.Vc
open Go
abbrev aP:=Nat→Option Obj
abbrev HP:=aP→Prop
def aP.emp:aP:=fun _=>none
def aP.one (b:Nat) (o:Obj):aP:=fun r=>if r=b then some o else none
def aP.add (f g:aP):aP:=fun r=>match f r with|some o=>some o|none=>g r
def jk (f g:aP):Prop:= ∀r,f r=none∨g r=none
def af (b:Nat) (o:Obj):HP:=fun f=>f=aP.one b o
def Sat:List HP→HP
 | [],f=>f=aP.emp
 |A::l,f=> ∃g h,jk g h∧f=g.add h∧A g∧Sat l h
def Kl (f:aP) (w:World):Prop:= ∀r o,f r=some o→w.heap[r]? =some o
structure Hp (E:World) (w:World) (l:List HP):Prop where
 os:w.os=E.os
 output:w.output=E.output
 tape:w.tape=E.tape
 frag: ∃f,Kl f w∧Sat l f
theorem jk.comm {f g:aP} (h:jk f g):jk g f:=fun r=>(h r).symm
theorem aP.add_comm {f g:aP} (h:jk f g):f.add g=g.add f:=by
 funext r
 unfold aP.add
 rcases h r with h|h
 ·rw [h];cases g r<;>rfl
 ·rw [h];cases f r<;>rfl
theorem aP.add_assoc (f g h:aP):(f.add g).add h=f.add (g.add h):=by
 funext r
 unfold aP.add
 cases f r<;>rfl
theorem aP.JQ (f:aP):f.add aP.emp=f:=by
 funext r;unfold aP.add aP.emp;cases f r<;>rfl
theorem aP.xK (f:aP):aP.emp.add f=f:=by
 funext r;rfl
theorem jK {f g h:aP}:jk f (g.add h)↔jk f g∧jk f h:=by
 constructor
 ·intro H
  refine ⟨fun r=> ?_,fun r=> ?_⟩
  ·rcases H r with h1|h1
   ·exact .inl h1
   ·right;unfold aP.add at h1;cases hg:g r<;>simp_all
  ·rcases H r with h1|h1
   ·exact .inl h1
   ·right;unfold aP.add at h1;cases hg:g r<;>simp_all
 ·rintro ⟨h1,h2⟩ r
  rcases h1 r with h|h
  ·exact .inl h
  ·rcases h2 r with h'|h'
   ·exact .inl h'
   ·right;simp [aP.add,h,h']
theorem xR {f g h:aP}:jk (f.add g) h↔jk f h∧jk g h:=
 ⟨fun H=>let ⟨a,b⟩:=jK.1 H.comm;⟨a.comm,b.comm⟩,fun ⟨a,b⟩=>(jK.2 ⟨a.comm,b.comm⟩).comm⟩
theorem Sat.swap {A B:HP} {l:List HP} {f:aP} (h:Sat (A::B::l) f):Sat (B::A::l) f:=by
 obtain ⟨g,h1,hd,rfl,hA,g2,h2,hd2,rfl,hB,hl⟩:=h
 obtain ⟨d1,d2⟩:=jK.1 hd
 refine ⟨g2,g.add h2,jK.2 ⟨d1.comm,hd2⟩,?_,hB,g,h2,d2,rfl,hA,hl⟩
 rw [←aP.add_assoc,←aP.add_assoc,aP.add_comm d1]
theorem Sat.tail {A:HP} {l l':List HP} (h: ∀f,Sat l f→Sat l' f) {f:aP} (hs:Sat (A::l) f):Sat (A::l') f:=by
 obtain ⟨g,k,hd,rfl,hA,hl⟩:=hs
 exact ⟨g,k,hd,rfl,hA,h _ hl⟩
theorem Sat.perm {l l':List HP} (hp:l.Perm l'): ∀f,Sat l f→Sat l' f:=by
 induction hp with
 |nil=>exact fun _ h=>h
 |cons A _ ih=>exact fun f h=>h.tail ih
 |swap A B l=>exact fun f h=>h.swap
 |trans _ _ ih1 ih2=>exact fun f h=>ih2 f (ih1 f h)
theorem Sat.append {l l':List HP} {f:aP}:Sat (l++l') f↔∃g h,jk g h∧f=g.add h∧Sat l g∧Sat l' h:=by
 induction l generalizing f with
 |nil=>exact ⟨fun h=>⟨aP.emp,f,fun _=> .inl rfl,(aP.xK f).symm,rfl,h⟩,fun ⟨g,h,_,e,hg,hh⟩=>by
   have:g=aP.emp:=hg
   rw [e,this,aP.xK];exact hh⟩
 |cons A l ih=>
  constructor
  ·rintro ⟨g,h,hd,rfl,hA,hs⟩
   obtain ⟨g2,h2,hd2,rfl,hs2,hs3⟩:=ih.1 hs
   obtain ⟨d1,d2⟩:=jK.1 hd
   exact ⟨g.add g2,h2,xR.2 ⟨d2,hd2⟩,(aP.add_assoc _ _ _).symm,⟨g,g2,d1,rfl,hA,hs2⟩,hs3⟩
  ·rintro ⟨g,h,hd,rfl,⟨g2,h2,hd2,rfl,hA,hs2⟩,hs3⟩
   obtain ⟨d1,d2⟩:=xR.1 hd
   exact ⟨g2,h2.add h,jK.2 ⟨hd2,d1⟩,aP.add_assoc _ _ _,hA,ih.2 ⟨h2,h,d2,rfl,hs2,hs3⟩⟩
section
variable {E w w':World} {A B C D G:HP} {l l' F:List HP}
theorem Hp.perm (h:Hp E w l) (hp:l.Perm l'):Hp E w l':=
 ⟨h.os,h.output,h.tape,let ⟨f,a,b⟩:=h.frag;⟨f,a,Sat.perm hp f b⟩⟩
theorem Hp.p1 (h:Hp E w (A::B::F)):Hp E w (B::A::F):=h.perm (.swap ..)
theorem Hp.p2 (h:Hp E w (A::B::C::F)):Hp E w (C::A::B::F):=h.perm ((List.Perm.cons A (.swap ..)).trans (.swap ..))
theorem Hp.p3 (h:Hp E w (A::B::C::D::F)):Hp E w (D::A::B::C::F):=
 h.perm ((List.Perm.cons A ((List.Perm.cons B (.swap ..)).trans (.swap ..))).trans (.swap ..))
theorem Hp.q2 (h:Hp E w (A::B::C::F)):Hp E w (B::C::A::F):=h.p1.perm (.cons B (.swap ..))
theorem Hp.q3 (h:Hp E w (A::B::C::D::F)):Hp E w (B::C::D::A::F):=h.q2.perm (.cons B (.cons C (.swap ..)))
theorem Hp.q4 (h:Hp E w (A::B::C::D::G::F)):Hp E w (B::C::D::G::A::F):=h.q3.perm (.cons B (.cons C (.cons D (.swap ..))))
theorem Hp.flat (h:Hp E w (Sat l::F)):Hp E w (l++F):=
 ⟨h.os,h.output,h.tape,let ⟨f,a,g,k,hd,e,h1,h2⟩:=h.frag;⟨f,a,Sat.append.2 ⟨g,k,hd,e,h1,h2⟩⟩⟩
theorem Hp.II {α:Sort _} {X:α→Prop} {L:α→List HP} (hA: ∀f,A f→∃x,X x∧Sat (L x) f) (h:Hp E w (A::F)): ∃x,X x∧Hp E w (L x++F):=by
 obtain ⟨f,a,g,k,hd,e,h1,h2⟩:=h.frag
 obtain ⟨x,hx,h3⟩:=hA g h1
 exact ⟨x,hx,h.os,h.output,h.tape,f,a,Sat.append.2 ⟨g,k,hd,e,h3,h2⟩⟩
theorem Hp.IH (hA: ∀f,Sat l f→A f) (h:Hp E w (l++F)):Hp E w (A::F):=by
 obtain ⟨f,a,h1⟩:=h.frag
 obtain ⟨g,k,hd,e,h1,h2⟩:=Sat.append.1 h1
 exact ⟨h.os,h.output,h.tape,f,a,g,k,hd,e,hA _ h1,h2⟩
theorem Hp.HD (hA: ∀f,A f→B f) (h:Hp E w (A::F)):Hp E w (B::F):=by
 obtain ⟨f,a,g,k,hd,e,h1,h2⟩:=h.frag
 exact ⟨h.os,h.output,h.tape,f,a,g,k,hd,e,hA _ h1,h2⟩
theorem Hp.drop (h:Hp E w (A::F)):Hp E w F:=by
 obtain ⟨f,a,g,k,hd,rfl,h1,h2⟩:=h.frag
 refine ⟨h.os,h.output,h.tape,k,fun r o hr=>a r o ?_,h2⟩
 rcases hd r with hg|hk
 ·simp [aP.add,hg,hr]
 ·rw [hk] at hr;cases hr
theorem Hp.emp (h:Hp E w F) (hA:A aP.emp):Hp E w (A::F):=by
 obtain ⟨f,a,h1⟩:=h.frag
 exact ⟨h.os,h.output,h.tape,f,a,aP.emp,f,fun _=> .inl rfl,(aP.xK f).symm,hA,h1⟩
theorem Hp.same (h:Hp E w l) (h1:w'.heap=w.heap) (h2:w'.os=w.os) (h3:w'.output=w.output) (h4:w'.tape=w.tape):Hp E w' l:=
 ⟨h2.trans h.os,h3.trans h.output,h4.trans h.tape,let ⟨f,a,b⟩:=h.frag;⟨f,fun r o hr=>by rw [h1];exact a r o hr,b⟩⟩
theorem Hp.drew {n:Nat} (h:Hp E w l):Hp E {w with drawn:=n} l:=h.same rfl rfl rfl rfl
theorem Hp.aH {b:Nat} {o:Obj} (h:Hp E w (af b o::F)):w.heap[b]? =some o:=by
 obtain ⟨f,a,g,k,hd,rfl,rfl,h2⟩:=h.frag
 exact a b o (by simp [aP.add,aP.one])
theorem Hp.cell {b i:Nat} {c:Array Value} {t:TypeId} {fr:Nat×Nat} (h:Hp E w (af b (.cells c t fr)::F)):w.cell? ⟨b,i,none⟩=c[i]? :=by
 simp [World.cell?,h.aH]
theorem Hp.alloc (h:Hp E w F) (o:Obj):Hp E (w.alloc o) (af w.heap.size o::F):=by
 obtain ⟨f,a,h1⟩:=h.frag
 have hn:f w.heap.size=none:=by
  cases hf:f w.heap.size with
  |none=>rfl
  |some o=>have:=a _ _ hf;simp at this
 refine ⟨h.os,h.output,h.tape,(aP.one w.heap.size o).add f,fun r o' hr=> ?_,_,_,fun r=> ?_,rfl,rfl,h1⟩
 ·show (w.heap.push o)[r]? =_
  rw [Array.getElem?_push]
  by_cases hr0:r=w.heap.size
  ·subst hr0;simp [aP.add,aP.one] at hr;simp [hr]
  ·simp [aP.add,aP.one,hr0] at hr
   rw [if_neg hr0];exact a r o' hr
 ·by_cases hr0:r=w.heap.size
  ·subst hr0;exact .inr hn
  ·exact .inl (by simp [aP.one,hr0])
theorem Hp.setObj {b:Nat} {o o':Obj} (h:Hp E w (af b o::F)) (h1:w'.heap=w.heap.set! b o') (h2:w'.os=w.os) (h3:w'.output=w.output) (h4:w'.tape=w.tape):Hp E w' (af b o'::F):=by
 have hb:=h.aH
 obtain ⟨f,a,g,k,hd,rfl,rfl,h5⟩:=h.frag
 have hk:k b=none:=by
  rcases hd b with hh|hh
  ·simp [aP.one] at hh
  ·exact hh
 refine ⟨h2.trans h.os,h3.trans h.output,h4.trans h.tape,(aP.one b o').add k,fun r x hr=> ?_,_,_,fun r=> ?_,rfl,rfl,h5⟩
 ·rw [h1]
  have hlt:b<w.heap.size:=by
   rcases Nat.lt_or_ge b w.heap.size with hh|hh
   ·exact hh
   ·simp [Array.getElem?_eq_none hh] at hb
  by_cases hr0:r=b
  ·subst hr0
   simp [aP.add,aP.one] at hr
   simp [hr,hlt]
  ·simp [aP.add,aP.one,hr0] at hr
   have:=a r x (by simp [aP.add,aP.one,hr0,hr])
   rw [Array.set!_eq_setIfInBounds,Array.getElem?_setIfInBounds_ne (Ne.symm hr0)]
   exact this
 ·by_cases hr0:r=b
  ·subst hr0;exact .inr hk
  ·exact .inl (by simp [aP.one,hr0])
theorem Hp.setCell {b i:Nat} {c:Array Value} {t:TypeId} {fr:Nat×Nat} (h:Hp E w (af b (.cells c t fr)::F)) (v:Value):
  Hp E (w.setCell ⟨b,i,none⟩ v) (af b (.cells (c.setIfInBounds i v) t fr)::F):=by
 have hb:=h.aH
 refine h.setObj (o':= .cells (c.setIfInBounds i v) t fr) ?_ rfl rfl rfl
 apply Array.ext_getElem?
 intro r
 have hlt:b<w.heap.size:=by
  rcases Nat.lt_or_ge b w.heap.size with hh|hh
  ·exact hh
  ·simp [Array.getElem?_eq_none hh] at hb
 simp only [World.setCell,Array.getElem?_modify,Array.set!_eq_setIfInBounds,Array.getElem?_setIfInBounds]
 by_cases hr:b=r
 ·subst hr
  have hv:w.heap[b]= .cells c t fr:=by simpa [hlt] using hb
  simp [hlt,hv]
 ·simp [hr]
def ad (F:List HP) (φ:World→Prop):Prop:= ∀w f,Kl f w→Sat F f→φ w
theorem Hp.ah {φ:World→Prop} (h:Hp E w F) (ht:ad F φ):φ w:=let ⟨f,a,b⟩:=h.frag;ht w f a b
theorem ad.cons {φ:World→Prop} (ht:ad F φ):ad (A::F) φ:=by
 rintro w f a ⟨g,k,hd,rfl,h1,h2⟩
 refine ht w k (fun r o hr=>a r o ?_) h2
 rcases hd r with hg|hk
 ·simp [aP.add,hg,hr]
 ·rw [hk] at hr;cases hr
theorem ad.perm {φ:World→Prop} (ht:ad l φ) (hp:l.Perm l'):ad l' φ:=fun w f a b=>ht w f a (Sat.perm hp.symm f b)
theorem ad.imp {φ ψ:World→Prop} (ht:ad F φ) (h: ∀w,φ w→ψ w):ad F ψ:=fun w f a b=>h w (ht w f a b)
theorem ad.and {φ ψ:World→Prop} (h1:ad F φ) (h2:ad F ψ):ad F (fun w=>φ w∧ψ w):=fun w f a b=>⟨h1 w f a b,h2 w f a b⟩
theorem ad.all {α:Sort _} {φ:α→World→Prop} (h: ∀x,ad F (φ x)):ad F (fun w=> ∀x,φ x w):=fun w f a b x=>h x w f a b
theorem ad.const {p:Prop} (h:p):ad F (fun _=>p):=fun _ _ _ _=>h
def Old (W:World):HP:=fun f=> ∀r,f r=W.heap[r]?
theorem Hp.start (W:World):Hp W W [Old W]:=
 ⟨rfl,rfl,rfl,fun r=>W.heap[r]?,fun _ _ h=>h,fun r=>W.heap[r]?,aP.emp,fun _=> .inr rfl,(aP.JQ _).symm,fun _=>rfl,rfl⟩
theorem ad.Fj {W:World} {φ:World→Prop} (h: ∀w,(∀r,r<W.heap.size→w.heap[r]? =W.heap[r]?)→φ w):ad (Old W::F) φ:=by
 rintro w f a ⟨g,k,hd,rfl,h1,h2⟩
 refine h w fun r hr=> ?_
 have:g r=some W.heap[r]:=by rw [h1 r];simp [hr]
 rw [a r W.heap[r] (by simp [aP.add,this])]
 simp [hr]
theorem Hp.below {W:World} (h:Hp W w (Old W::F)):Go.RowKit.Below W.heap.size W w:=by
 have hk:=h.ah (ad.Fj (φ:=fun w=> ∀r,r<W.heap.size→w.heap[r]? =W.heap[r]?) fun w h=>h)
 refine ⟨h.os,h.tape,h.output,?_,hk⟩
 rcases Nat.lt_or_ge w.heap.size W.heap.size with hlt|hge
 ·have:=hk w.heap.size hlt
  simp [hlt] at this
 ·exact hge
end
section
variable {E w:World} {F:List HP}
theorem aa.mk {b:Bool} {X Y:Prop} (h1:b=true→X) (h2:b=false→Y):aa b X Y:=by
 cases b
 ·exact h2 rfl
 ·exact h1 rfl
theorem aa.t {b:Bool} {X Y:Prop} (hb:b=true) (h:X):aa b X Y:=by subst hb;exact h
theorem aa.f {b:Bool} {X Y:Prop} (hb:b=false) (h:Y):aa b X Y:=by subst hb;exact h
theorem Ld.sc {s:Sc} {p:Addr} {K:s.T→Prop} (x:s.T) (hc:w.cell? p=some (s.enc x)) (h:K x):Ld (.sc s) p w K:=
 ⟨x,fun w' hw=>by subst hw;exact hc,h⟩
theorem St.mk {p:Addr} {v:Value} {K:World→Prop} {b i:Nat} {c:Array Value} {t:TypeId} (hp:p=⟨b,i,none⟩) (hh:Hp E w (af b (.cells c t (0,0))::F)) (hi:i<c.size) (hv:aF v=true)
  (h: ∀w',Hp E w' (af b (.cells (c.setIfInBounds i v) t (0,0))::F)→K w'):St p v w K:=by
 subst hp
 unfold St
 rw [hv]
 refine ⟨?_,?_,h _ (hh.setCell v)⟩
 ·rw [hh.cell];simp [hi]
 ·simp [World.frozen?,hh.aH]
theorem Nw.mk {t:TypeId} {cs:Array Value} {K:Nat→World→Prop} (hh:Hp E w F) (h: ∀b w',Hp E w' (af b (.cells cs t (0,0))::F)→K b w'):Nw t cs w K:=h _ _ (hh.alloc _)
theorem aJ.mk {K:World→Prop} (hh:Hp E w F) (h: ∀w',Hp E w' F→K w'):aJ w K:=h _ hh.drew
theorem Cl.imp {P:Program} {ks:List Ki} {i:FuncId} {args:Array Value} {K K':eC ks (World→Prop)} (h:Cl P ks i args w K) (hk: ∀e w',pU ks K e w'→pU ks K' e w'):Cl P ks i args w K':=
 Calls.mono h hk
end
end Go.Vc
set_option maxRecDepth 20000
namespace Go.Vc
open Go
theorem ae {x:Int} (h: -9223372036854775808≤x∧x≤9223372036854775807):i64 x=x:=IntWalk.i64_in x h
theorem sg {x:Int} (h:0≤x∧x≤18446744073709551615):u64 x=x:=IntWalk.u64_in x h
theorem eP {x:Int} (h:0≤x∧x≤4294967295):u32 x=x:=IntWalk.u32_in x h
theorem pq (x:Int):u8 x=x % 256:=by
 show IntKind.wrap .u8 x=x % 256
 simp [IntKind.wrap,IntKind.bits,IntKind.signed]
theorem dE {x:Int} (h:0≤x∧x≤255):u8 x=x:=by rw [pq];omega
theorem jG (n a:Nat) (h:a<2^n):(BitVec.ofInt n (a:Int)).toNat=a:=by
 rw [BitVec.toNat_ofInt]
 have:((a:Int) % ((2^n:Nat):Int))=((a % 2^n:Nat):Int):=by omega
 rw [this,Int.toNat_natCast,Nat.mod_eq_of_lt h]
theorem ql {k:IntKind} {a:Nat} (h:(a:Int)≤k.max):k.wrap (a:Int)=a:=by
 cases k
 ·have:IntKind.max .i8=127:=rfl
  exact IntWalk.i8_in _ (by omega)
 ·have:IntKind.max .i16=32767:=rfl
  exact IntWalk.i16_in _ (by omega)
 ·have:IntKind.max .i32=2147483647:=rfl
  exact IntWalk.i32_in _ (by omega)
 ·have:IntKind.max .i64=9223372036854775807:=rfl
  exact IntWalk.i64_in _ (by omega)
 ·have:IntKind.max .u8=255:=rfl
  exact IntWalk.u8_in _ (by omega)
 ·have:IntKind.max .u16=65535:=rfl
  exact IntWalk.u16_in _ (by omega)
 ·have:IntKind.max .u32=4294967295:=rfl
  exact IntWalk.u32_in _ (by omega)
 ·have:IntKind.max .u64=18446744073709551615:=rfl
  exact IntWalk.u64_in _ (by omega)
theorem max_lt (k:IntKind):(k.max:Int)<2^k.bits:=by cases k<;>decide
theorem mS {k:IntKind} {a:Nat} (ha:(a:Int)≤k.max):a<2^k.bits:=by
 have:=max_lt k
 have h2:(a:Int)<2^k.bits:=Int.lt_of_le_of_lt ha this
 exact_mod_cast h2
theorem wR {k:IntKind} {a b:Nat} (ha:(a:Int)≤k.max) (hb:(b:Int)≤k.max) (h:((a|||b:Nat):Int)≤k.max):rp k a b=((a|||b:Nat):Int):=by
 unfold rp
 rw [BitVec.toNat_or,jG _ _ (mS ha),jG _ _ (mS hb),ql h]
theorem jC {k:IntKind} {a b:Nat} (ha:(a:Int)≤k.max) (hb:(b:Int)≤k.max):dc k a b=((a&&&b:Nat):Int):=by
 unfold dc
 rw [BitVec.toNat_and,jG _ _ (mS ha),jG _ _ (mS hb),ql]
 have:=Nat.and_le_left (n:=a) (m:=b)
 omega
theorem hO {k:IntKind} {a b:Nat} (ha:(a:Int)≤k.max) (hb:(b:Int)≤k.max) (h:((a^^^b:Nat):Int)≤k.max):dJ k a b=((a^^^b:Nat):Int):=by
 unfold dJ
 rw [BitVec.toNat_xor,jG _ _ (mS ha),jG _ _ (mS hb),ql h]
theorem cD {k:IntKind} {a b:Nat} (hb:b≤k.bits):aO k a b=((a/2^b:Nat):Int):=by
 unfold aO
 rw [Int.toNat_natCast,Nat.min_eq_left hb,Int.fdiv_eq_ediv_of_nonneg _ (by exact_mod_cast Nat.zero_le _)]
 exact_mod_cast rfl
theorem k4 {k:IntKind} {a b:Nat} (hb:b≤k.bits) (h:((a*2^b:Nat):Int)≤k.max):eG k a b=((a*2^b:Nat):Int):=by
 unfold eG
 rw [Int.toNat_natCast,Nat.min_eq_left hb]
 have:(a:Int)*2^b=((a*2^b:Nat):Int):=by push_cast;rfl
 rw [this,ql h]
theorem ak (b o n:Nat):(⟨b,o,none⟩:Addr).add n=⟨b,o+n,none⟩:=by
 unfold Addr.add
 split
 ·rename_i h;subst h;rfl
 ·rfl
theorem add_zero (p:Addr):p.add 0=p:=by simp [Addr.add]
def aD (sz:Nat) (s:Sl) (xs:List Value) (w:World):Prop:=
 xs.length=s.len*sz∧∀i (h:i<xs.length),∃p,s.base=some p∧w.cell? (p.add i)=some xs[i]
def al (sz:Nat) (s:Sl) (xs:List Value):HP:=fun f=>
 xs.length=s.len*sz∧((s.base=none∧s.len=0∧s.cap=0∧f=aP.emp)∨
 ∃b off arr t,s.base=some ⟨b,off,none⟩∧s.len≤s.cap∧off+s.cap*sz≤arr.size∧(∀i (h:i<xs.length),arr[off+i]? =some xs[i])∧f=aP.one b (.cells arr t (0,0)))
section
variable {E w w':World} {F:List HP} {sz:Nat} {s:Sl} {xs ys:List Value}
theorem al.nil (sz:Nat):al sz ⟨none,0,0⟩ [] aP.emp:=⟨by simp,.inl ⟨rfl,rfl,rfl,rfl⟩⟩
theorem Hp.a9 (h:Hp E w F) (sz:Nat):Hp E w (al sz ⟨none,0,0⟩ []::F):=h.emp (al.nil sz)
theorem Hp.fz {b:Nat} {arr:Array Value} {t:TypeId} {n:Nat} (h:Hp E w (af b (.cells arr t (0,0))::F)) (hn:arr.toList.length=n*sz):
  Hp E w (al sz ⟨some ⟨b,0,none⟩,n,n⟩ arr.toList::F):=by
 refine h.HD fun f hf=>⟨hn,.inr ⟨b,0,arr,t,rfl,Nat.le_refl _,?_,?_,hf⟩⟩
 ·have:arr.size=n*sz:=by simpa using hn
  simp only [this];omega
 ·intro i hi
  have hi':i<arr.size:=by simpa using hi
  simp [hi']
theorem Hp.aV (h:Hp E w (al sz s xs::F)):xs.length=s.len*sz:=by
 obtain ⟨f,a,g,k,hd,e,h1,h2⟩:=h.frag
 exact h1.1
theorem Hp.km (h:Hp E w (al sz s xs::F)):s.len≤s.cap:=by
 obtain ⟨f,a,g,k,hd,e,h1,h2⟩:=h.frag
 rcases h1.2 with ⟨h1,h2,h3,_⟩|⟨b,off,arr,t,h1,h2,_⟩
 ·omega
 ·exact h2
theorem Hp.tc (h:Hp E w (al sz s xs::F)):(s=⟨none,0,0⟩∧xs= []∧Hp E w F)∨
  ∃b off arr t,s.base=some ⟨b,off,none⟩∧s.len≤s.cap∧off+s.cap*sz≤arr.size∧(∀i (h:i<xs.length),arr[off+i]? =some xs[i])∧Hp E w (af b (.cells arr t (0,0))::F):=by
 have hl:=h.aV
 obtain ⟨f,a,g,k,hd,rfl,h1,h2⟩:=h.frag
 rcases h1.2 with ⟨h3,h4,h5,h6⟩|⟨b,off,arr,t,h3,h4,h5,h6,h7⟩
 ·refine .inl ⟨by cases s;simp_all,?_,h.drop⟩
  have:xs.length=0:=by rw [hl,h4];simp
  exact List.length_eq_zero_iff.1 this
 ·exact .inr ⟨b,off,arr,t,h3,h4,h5,h6,h.os,h.output,h.tape,_,a,g,k,hd,rfl,h7,h2⟩
theorem Hp.k9 {b off:Nat} {arr:Array Value} {t:TypeId} (h:Hp E w (af b (.cells arr t (0,0))::F)) (hl:xs.length=s.len*sz) (h1:s.base=some ⟨b,off,none⟩) (h2:s.len≤s.cap) (h3:off+s.cap*sz≤arr.size)
  (h4: ∀i (h:i<xs.length),arr[off+i]? =some xs[i]):Hp E w (al sz s xs::F):=
 h.HD fun _ hf=>⟨hl,.inr ⟨b,off,arr,t,h1,h2,h3,h4,hf⟩⟩
theorem ad.own:ad (al sz s xs::F) (aD sz s xs):=by
 rintro w f a ⟨g,k,hd,rfl,⟨hl,h1⟩,h2⟩
 refine ⟨hl,fun i hi=> ?_⟩
 rcases h1 with ⟨h3,h4,h5,_⟩|⟨b,off,arr,t,h3,h4,h5,h6,rfl⟩
 ·rw [hl,h4] at hi;simp at hi
 ·refine ⟨_,h3,?_⟩
  have:w.heap[b]? =some (.cells arr t (0,0)):=a b _ (by simp [aP.add,aP.one])
  rw [ak]
  simp only [World.cell?,this]
  exact h6 i hi
theorem ad.cell {W:World} {p:Addr} {v:Value} (h:W.cell? p=some v):ad (Old W::F) (fun w=>w.cell? p=some v):=by
 refine ad.Fj fun w hw=> ?_
 have hlt:p.block<W.heap.size:=by
  unfold World.cell? at h
  rcases Nat.lt_or_ge p.block W.heap.size with hh|hh
  ·exact hh
  ·simp [Array.getElem?_eq_none hh] at h
 rw [←h]
 unfold World.cell?
 rw [hw _ hlt]
theorem ad.Mn {W:World} (h:aD sz s xs W):ad (Old W::F) (aD sz s xs):=by
 intro w f a b
 refine ⟨h.1,fun i hi=> ?_⟩
 obtain ⟨p,hp,hc⟩:=h.2 i hi
 exact ⟨p,hp,(ad.cell hc) w f a b⟩
theorem an.mk {i:Int} {K:Addr→Prop} {p:Addr} (hp:s.base=some p) (h0:0≤i) (h1:i<(s.len:Int)) (h:K (p.add (i.toNat*sz))):an s i sz K:=⟨p,hp,h0,h1,h⟩
theorem an.rd {i:Int} {K:Addr→Prop} (hs:aD 1 s xs w) (h0:0≤i) (h1:i<(s.len:Int)) (h: ∀p (hi:i.toNat<xs.length),w.cell? p=some xs[i.toNat]→K p):an s i 1 K:=by
 have hl:i.toNat<xs.length:=by rw [hs.1];omega
 obtain ⟨p,hp,hc⟩:=hs.2 _ hl
 exact ⟨p,hp,h0,h1,h _ hl (by simpa using hc)⟩
theorem an.KG {i:Int} {K:Addr→Prop} (hs:aD sz s xs w) (hz:0<sz) (h0:0≤i) (h1:i<(s.len:Int)) (h: ∀p,(∀j (hj:i.toNat*sz+j<xs.length),j<sz→w.cell? (p.add j)=some xs[i.toNat*sz+j])→K p):an s i sz K:=by
 have hlt:i.toNat<s.len:=by omega
 have hmul:i.toNat*sz+sz≤s.len*sz:=by
  have:(i.toNat+1)*sz≤s.len*sz:=Nat.mul_le_mul_right _ hlt
  rw [Nat.succ_mul] at this;exact this
 obtain ⟨p,hp,_⟩:=hs.2 (i.toNat*sz) (by rw [hs.1];omega)
 refine ⟨p,hp,h0,h1,h _ fun j hj hjs=> ?_⟩
 obtain ⟨q,hq,hc⟩:=hs.2 (i.toNat*sz+j) hj
 have:q=p:=Option.some.inj (hq.symm.trans hp)
 subst this
 rw [←hc]
 congr 1
 unfold Addr.add
 by_cases e1:i.toNat*sz=0<;>by_cases e2:j=0<;>simp [e1,e2,Nat.add_assoc]
theorem Hp.setRow {b off:Nat} {t:TypeId}: ∀(vs:List Value) (i:Nat) (w:World) (arr:Array Value),Hp E w (af b (.cells arr t (0,0))::F)→off+i+vs.length≤arr.size→
  ∃arr':Array Value,arr'.size=arr.size∧(∀j (h:j<vs.length),arr'[off+i+j]? =some vs[j])∧(∀j,j<off+i→arr'[j]? =arr[j]?)∧
   Hp E (ax.setRow w ⟨b,off,none⟩ vs i) (af b (.cells arr' t (0,0))::F)
 | [],i,w,arr,h,_=>⟨arr,rfl,fun j h=>by simp at h,fun _ _=>rfl,h⟩
 |v::vs,i,w,arr,h,hl=>by
  simp only [List.length_cons] at hl
  have h1:=h.setCell (i:=off+i) v
  have hsz:off+(i+1)+vs.length≤(arr.setIfInBounds (off+i) v).size:=by rw [Array.size_setIfInBounds];omega
  obtain ⟨arr',e1,e2,e3,h2⟩:=Hp.setRow (b:=b) (off:=off) (t:=t) vs (i+1) _ (arr.setIfInBounds (off+i) v) h1 hsz
  refine ⟨arr',by simpa using e1,fun j hj=> ?_,fun j hj=> ?_,?_⟩
  ·cases j with
   |zero=>
    rw [Nat.add_zero,e3 _ (by omega)]
    simp [show off+i<arr.size by omega]
   |succ j=>
    have:=e2 j (by simp at hj;omega)
    rw [show off+i+(j+1)=off+(i+1)+j by omega]
    simpa using this
  ·rw [e3 _ (by omega),Array.getElem?_setIfInBounds_ne (by omega)]
  ·rw [ax.setRow,ak];exact h2
theorem JS {P:Program} {b off:Nat} {arr:Array Value} {t:TypeId} (h:Hp E w (af b (.cells arr t (0,0))::F)) (vs:List Value) (i:Nat) (hl:off+i+vs.length≤arr.size) (hv: ∀v∈vs,aF v=true):
  (storeCells ⟨b,off,none⟩ vs i).run P w= .ok () (ax.setRow w ⟨b,off,none⟩ vs i):=by
 refine mG vs i w fun j hj=>⟨hv _ (List.getElem_mem hj),?_,?_⟩
 ·rw [ak,h.cell];simp;omega
 ·rw [ak];simp [World.frozen?,h.aH]
theorem wK: ∀(r c n:Nat),c≤2*n+1024→Builtin.growBy n r c≤2*n+1024
 |0,c,n,h=>h
 |r+1,c,n,h=>by
  unfold Builtin.growBy
  split
  ·exact h
  ·exact wK r _ n (by omega)
theorem wH {n c:Nat} (h:c<n):Builtin.nextslicecap n c≤2*n+1024:=by
 unfold Builtin.nextslicecap
 split
 ·omega
 ·split
  ·omega
  ·exact wK 4 c n (by omega)
structure bP (P:Program) (t e:TypeId) (sz bytes:Nat):Prop where
 und:P.underlying t=some (.slice e)
 info: ∃it z,P.info? e=some it∧it.size=sz∧it.bytes=bytes∧it.zero=some z∧z.cells.size=sz
def IJ (P:Program) (e:TypeId) (sz bytes:Nat):Bool:=
 match P.info? e with
 |some it=>it.size==sz&&it.bytes==bytes&&(match it.zero with|some z=>z.cells.size==sz|none=>false)
 |none=>false
theorem bP.of {P:Program} {t e:TypeId} {sz bytes:Nat} (h1:P.underlying t=some (.slice e)) (h2:IJ P e sz bytes=true):bP P t e sz bytes:=by
 refine ⟨h1,?_⟩
 unfold IJ at h2
 split at h2
 ·rename_i it hi
  simp only [Bool.and_eq_true,beq_iff_eq] at h2
  obtain ⟨⟨h2,h3⟩,h4⟩:=h2
  split at h4
  ·rename_i z hz
   exact ⟨it,z,hi,h2,h3,hz,by simpa using h4⟩
  ·simp at h4
 ·simp at h2
theorem yA {P:Program} {vs:List Value} {p:Addr} (h: ∀i (hi:i<vs.length),w.cell? (p.add i)=some vs[i]):(loadCells p vs.length).run P w= .ok vs.toArray w:=by
 have:=iQ (P:=P) (w:=w) (a:=p) vs 0 #[] (fun j hj=>by simpa using h j hj)
 simpa [loadCells] using this
def Src (sz n:Nat) (x:Value) (ys:List Value) (w:World):Prop:=
 (∃b l c,x= .slice b l c∧n=l∧aD sz ⟨b,l,c⟩ ys w)∨(∃s:ByteArray,x= .string s∧n=s.size∧ys=s.data.toList.map fun b=> .int .u8 b.toNat)
theorem Src.run {P:Program} {n:Nat} {x:Value} (h:Src sz n x ys w):(Builtin.firstCells sz n x).run P w= .ok ys.toArray w∧(Builtin.lenOf x).run P w= .ok n w:=by
 rcases h with ⟨b,l,c,rfl,rfl,hl,hc⟩|⟨s,rfl,rfl,rfl⟩
 ·refine ⟨?_,rfl⟩
  simp only at hl
  cases b with
  |none=>
   cases ys with
   |nil=>rfl
   |cons y ys=>obtain ⟨p,hp,_⟩:=hc 0 (by simp);cases hp
  |some p=>
   show (loadCells p (n*sz)).run P w=_
   rw [←hl]
   exact yA fun i hi=>by obtain ⟨q,hq,hc⟩:=hc i hi;cases hq;exact hc
 ·refine ⟨?_,rfl⟩
  show Result.ok ((s.extract 0 s.size).data.map fun b=>Value.int .u8 b.toNat) w=_
  congr 1
  have:s.extract 0 s.size=s:=by simp
  rw [this]
  apply Array.ext'
  simp
theorem Src.len {n:Nat} {x:Value} (h:Src 1 n x ys w):ys.length=n:=by
 rcases h with ⟨b,l,c,rfl,rfl,hl,hc⟩|⟨s,rfl,rfl,rfl⟩
 ·simpa using hl
 ·simp
theorem kN (z:Array Value) (n:Nat):(Builtin.zeroCells z n).size=n*z.size:=by simp [Builtin.zeroCells]
theorem tz {P:Program} {t tx ty e:TypeId} {bytes n:Nat} {x:Value} {K:Sl→World→Prop} (he:bP P t e sz bytes) (_:0<sz) (hx:(∃e2,P.underlying tx=some (.slice e2))∨P.underlying tx=some .string)
  (hh:Hp E w (al sz s xs::F)) (hs:Src sz n x ys w) (hyl:ys.length=n*sz) (hys: ∀y∈ys,aF y=true) (hb:(2*(s.len+n)+1024)*bytes≤2^48) (hb2:s.len+n<2^62)
  (h: ∀s' w',Hp E w' (al sz s' (xs++ys)::F)→s'.len=s.len+n→aD sz s xs w'→K s' w'):au P (Builtin.append_ #[t,tx] ty ⟨[.slice s.base s.len s.cap,x]⟩) kS w K:=by
 obtain ⟨it,z,hi,hsz,hby,hze,hzs⟩:=he.info
 obtain ⟨hs1,hs2⟩:=hs.run (P:=P)
 have hlen:=hh.aV
 have hcap:=hh.km
 have hso:(sizeOf e).run P w= .ok sz w:=by rw [cg hi,hsz]
 have step: ∀v w',(Builtin.append_ #[t,tx] ty ⟨[.slice s.base s.len s.cap,x]⟩).run P w= .ok v w'→(∃s':Sl,v= .slice s'.base s'.len s'.cap∧Hp E w' (al sz s' (xs++ys)::F)∧s'.len=s.len+n∧aD sz s xs w')→
   au P (Builtin.append_ #[t,tx] ty ⟨[.slice s.base s.len s.cap,x]⟩) kS w K:=by
  rintro v w' h1 ⟨s',rfl,h2,h3,h4⟩
  unfold au
  rw [h1]
  exact h s' w' h2 h3 h4
 have hlen2:(xs++ys).length=(s.len+n)*sz:=by rw [List.length_append,hlen,hyl,Nat.add_mul]
 by_cases hfit:s.len+n≤s.cap
 ·rcases hh.tc with ⟨rfl,rfl,hF⟩|⟨b,off,arr,tt,h1,h2,h3,h4,hB⟩
  ·have hn0:n=0:=by simp at hfit;exact hfit
   subst hn0
   have hy0:ys= []:=by simpa using hyl
   subst hy0
   refine step (.slice none 0 0) w ?_ ⟨⟨none,0,0⟩,rfl,hh,rfl,hh.ah ad.own⟩
   rcases hx with ⟨e2,hd⟩|hd<;>simp [Builtin.append_,run_underlying he.und,hso,run_underlying hd,hs1,hs2]
  ·have hmul:(s.len+n)*sz≤s.cap*sz:=Nat.mul_le_mul_right _ hfit
   rw [Nat.add_mul] at hmul
   have hlr:off+s.len*sz+ys.length≤arr.size:=by omega
   obtain ⟨arr',e1,e2,e3,hB'⟩:=Hp.setRow (off:=off) ys (s.len*sz) w arr hB (by omega)
   have hrow:=JS (P:=P) (off:=off+s.len*sz) hB ys 0 (by omega) hys
   have hro2:ax.setRow w ⟨b,off+s.len*sz,none⟩ ys 0=ax.setRow w ⟨b,off,none⟩ ys (s.len*sz):=by
    have key: ∀(vs:List Value) (w:World) (i:Nat),ax.setRow w ⟨b,off+s.len*sz,none⟩ vs i=ax.setRow w ⟨b,off,none⟩ vs (s.len*sz+i):=by
     intro vs
     induction vs with
     |nil=>intro w i;rfl
     |cons v vs ih=>intro w i;simp only [ax.setRow,ih,ak,Nat.add_assoc]
    simpa using key ys w 0
   refine step (.slice s.base (s.len+n) s.cap) (ax.setRow w ⟨b,off,none⟩ ys (s.len*sz)) ?_ ⟨⟨s.base,s.len+n,s.cap⟩,rfl,?_,rfl,⟨hlen,fun i hi=>⟨_,h1,by rw [ak,hB'.cell,e3 _ (by omega)];exact h4 i hi⟩⟩⟩
   ·rw [hro2] at hrow
    rcases hx with ⟨e2,hd⟩|hd<;>simp [Builtin.append_,run_underlying he.und,hso,run_underlying hd,hs1,hs2,hfit,h1,ak,hrow]
   ·refine Hp.k9 hB' hlen2 h1 hfit (by simp only;omega) fun i hi=> ?_
    by_cases hi2:i<xs.length
    ·rw [e3 _ (by omega),List.getElem_append_left hi2];exact h4 i hi2
    ·rw [List.getElem_append_right (by omega)]
     have:=e2 (i - xs.length) (by simp at hi;omega)
     rw [←this]
     congr 1
     omega
 ·have hnext: ¬Builtin.nextslicecap (s.len+n) s.cap*it.bytes>2^48:=by
   have:=wH (n:=s.len+n) (c:=s.cap) (by omega)
   have h2:Builtin.nextslicecap (s.len+n) s.cap*it.bytes≤(2*(s.len+n)+1024)*bytes:=by rw [hby];exact Nat.mul_le_mul_right _ this
   omega
  have hmax: ¬((s.len+n:Nat):Int)>IntKind.i64.max:=by
   have:IntKind.i64.max=9223372036854775807:=rfl
   rw [this];omega
  have hold:(Builtin.firstCells sz s.len (.slice s.base s.len s.cap)).run P w= .ok xs.toArray w:=by
   have:Src sz s.len (.slice s.base s.len s.cap) xs w:= .inl ⟨s.base,s.len,s.cap,rfl,rfl,hh.ah ad.own⟩
   exact (this.run (P:=P)).1
  generalize hq:Question.cut (.appendCap (s.len+n) s.cap e) (w.tape w.drawn (.appendCap (s.len+n) s.cap e))=newCap
  have hnc:s.len+n≤newCap:=by rw [←hq];exact Nat.le_add_right _ _
  have hF:Hp E w F:=hh.drop
  have hD:Hp E w.drew F:=hF.drew (n:=w.drawn+1)
  have hold':(Builtin.firstCells sz s.len (.slice s.base s.len s.cap)).run P w.drew= .ok xs.toArray w.drew:=by
   have:Src sz s.len (.slice s.base s.len s.cap) xs w.drew:= .inl ⟨s.base,s.len,s.cap,rfl,rfl,(hh.drew (n:=w.drawn+1)).ah ad.own⟩
   exact (this.run (P:=P)).1
  have hs1':(Builtin.firstCells sz n x).run P w.drew= .ok ys.toArray w.drew:=(Src.run (P:=P) (w:=w.drew) hs).1
  have hA:=hD.alloc (.cells (xs.toArray++ys.toArray++Builtin.zeroCells z.cells (newCap - (s.len+n))) e)
  refine step (.slice (some ⟨w.heap.size,0,none⟩) (s.len+n) newCap) _ ?_ ⟨⟨some ⟨w.heap.size,0,none⟩,s.len+n,newCap⟩,rfl,Hp.k9 hA hlen2 rfl hnc ?_ ?_,rfl,((hh.drew (n:=w.drawn+1)).alloc (.cells (xs.toArray++ys.toArray++Builtin.zeroCells z.cells (newCap - (s.len+n))) e)).ah (ad.cons ad.own)⟩
  ·have hz': ∀w:World,(zeroValue e).run P w= .ok z w:=by intro w;simp [zeroValue,typeInfo,hi,hze]
   have hti: ∀w:World,(typeInfo e).run P w= .ok it w:=by intro w;simp [typeInfo,hi]
   have hmax': ¬(9223372036854775807<(s.len:Int)+(n:Int)∧it.bytes=0):=by omega
   have hfo:Question.forced (.appendCap (s.len+n) s.cap e)=false:=rfl
   rcases hx with ⟨e2,hd⟩|hd<;>simp [Builtin.append_,run_underlying he.und,hso,run_underlying hd,hs2,hfit,hmax',hti,hnext,hfo,hq,hold',hs1',hz',newRow]
   all_goals rw [←Array.append_assoc,show xs.toArray++ys.toArray=(xs++ys).toArray by simp]
  ·simp only [Array.size_append,List.size_toArray,kN,hzs,hlen,hyl]
   have:newCap*sz=(s.len+n)*sz+(newCap - (s.len+n))*sz:=by rw [←Nat.add_mul];congr 1;omega
   rw [this,Nat.add_mul];omega
  ·intro i hi
   have h1:i<(xs.toArray++ys.toArray).size:=by simpa using hi
   rw [Nat.zero_add,Array.getElem?_append_left h1]
   have:(xs.toArray++ys.toArray)=(xs++ys).toArray:=by simp
   rw [this]
   simp only [List.getElem?_toArray]
   exact List.getElem?_eq_getElem hi
theorem aK {P:Program} {t tx ty e:TypeId} {bytes n:Nat} {x:Value} {K:Sl→World→Prop} (he:bP P t e sz bytes) (hz:0<sz) (hx:(∃e2,P.underlying tx=some (.slice e2))∨P.underlying tx=some .string)
  (hh:Hp E w (al sz s xs::F)) (hs:Src sz n x ys w) (hyl:ys.length=n*sz) (hys: ∀y∈ys,aF y=true) (hb:(2*(s.len+n)+1024)*bytes≤2^48) (hb2:s.len+n<2^62)
  (h: ∀s' w',Hp E w' (al sz s' (xs++ys)::F)→s'.len=s.len+n→K s' w'):au P (Builtin.append_ #[t,tx] ty ⟨[.slice s.base s.len s.cap,x]⟩) kS w K:=
 tz he hz hx hh hs hyl hys hb hb2 fun s' w' h1 h2 _=>h s' w' h1 h2
end
theorem rh.mk {P:Program} {i:FuncId} {first captured:Array Value} {ks:List Ki} {args:List Value} {w:World} {K:eC ks (World→Prop)} (ok:pK P i=true) (h:Cl P ks i ⟨first.toList++args++captured.toList⟩ w K):
  rh P (.func (.func i) first captured) ks args w K:=by
 show dy _ _
 rw [ok];exact h
theorem de.mk {P:Program} {i:FuncId} {first captured:Array Value} {ks:List Ki} {args:List Value} {w:World} {K:eC ks (World→Prop)} (ok:pK P i=true) (h:Cl P ks i ⟨first.toList++args++captured.toList⟩ w K):
  de P (.func (.func i) first captured) ks args w K:=by
 unfold de
 simp only [ok]
 exact h
theorem az {X Y:Prop}:aa true X Y=X:=rfl
theorem ay {X Y:Prop}:aa false X Y=Y:=rfl
theorem aj {p:Addr} {K:Addr→Prop}:ao (some p) K=K p:=rfl
theorem aq {α:Type} (r:α) (k:α→Prop):a7 r k=k r:=rfl
section
variable {E w:World} {F:List HP}
theorem Ld.aH {s:Sc} {b i:Nat} {c:Array Value} {t:TypeId} {fr:Nat×Nat} {K:s.T→Prop} (h:Hp E w (af b (.cells c t fr)::F)) (x:s.T) (hx:c[i]? =some (s.enc x)) (hk:K x):Ld (.sc s) ⟨b,i,none⟩ w K:=
 Ld.sc x (by rw [h.cell];exact hx) hk
theorem St.aH {v:Value} {K:World→Prop} {b i:Nat} {c:Array Value} {t:TypeId} (hh:Hp E w (af b (.cells c t (0,0))::F)) (hi:i<c.size) (hv:aF v=true)
  (h: ∀w',Hp E w' (af b (.cells (c.setIfInBounds i v) t (0,0))::F)→K w'):St ⟨b,i,none⟩ v w K:=St.mk rfl hh hi hv h
end
def bO:Nat:=1099511627776
theorem aC:bO=1099511627776:=rfl
def vB (x:Nat):Value:= .int .u8 (x:Int)
def vI (x:Int):Value:= .int .i64 x
theorem ee {xs:List Nat}: ∀y∈xs.map vB,aF y=true:=by
 intro y hy
 obtain ⟨x,_,rfl⟩:=List.mem_map.1 hy
 rfl
theorem lP {xs:List Int}: ∀y∈xs.map vI,aF y=true:=by
 intro y hy
 obtain ⟨x,_,rfl⟩:=List.mem_map.1 hy
 rfl
theorem St.KL {E w:World} {F:List HP} {sz j:Nat} {s:Sl} {xs:List Value} {i:Int} {v:Value} {K:World→Prop} (hh:Hp E w (al sz s xs::F)) (hj:j<sz) (h0:0≤i) (h1:i<(s.len:Int)) (hv:aF v=true)
  (h: ∀w',Hp E w' (al sz s (xs.set (i.toNat*sz+j) v)::F)→K w'):an s i sz (fun q=>St (q.add j) v w K):=by
 have hl:=hh.aV
 have hlt:i.toNat<s.len:=by omega
 have hmul:i.toNat*sz+sz≤s.len*sz:=by
  have:(i.toNat+1)*sz≤s.len*sz:=Nat.mul_le_mul_right _ hlt
  rw [Nat.succ_mul] at this;exact this
 rcases hh.tc with ⟨rfl,rfl,hF⟩|⟨b,off,arr,t,e1,e2,e3,e4,hB⟩
 ·simp at hlt
 ·have hcm:s.len*sz≤s.cap*sz:=Nat.mul_le_mul_right _ e2
  refine ⟨_,e1,h0,h1,?_⟩
  rw [ak]
  show St (Addr.add _ j) v w K
  rw [ak]
  refine St.mk rfl hB (by omega) hv fun w' h'=>h _ ?_
  refine h'.k9 (by simpa using hl) e1 e2 (by simpa using e3) fun r hr=> ?_
  rw [List.length_set] at hr
  rw [Array.getElem?_setIfInBounds,List.getElem_set]
  by_cases hq:i.toNat*sz+j=r
  ·rw [if_pos (by omega),if_pos (by omega),if_pos hq]
  ·rw [if_neg (by omega),if_neg hq];exact e4 r hr
theorem St.own {E w:World} {F:List HP} {s:Sl} {xs:List Value} {i:Int} {v:Value} {K:World→Prop} (hh:Hp E w (al 1 s xs::F)) (h0:0≤i) (h1:i<(s.len:Int)) (hv:aF v=true)
  (h: ∀w',Hp E w' (al 1 s (xs.set i.toNat v)::F)→K w'):an s i 1 (fun q=>St q v w K):=by
 have:=St.KL (sz:=1) (j:=0) (K:=K) hh (by decide) h0 h1 hv (by simpa using h)
 simpa only [add_zero] using this
theorem ad.aH {F:List HP} {b n m sz:Nat} {arr:Array Value} {xs:List Value} {t:TypeId} {fr:Nat×Nat} (hx:arr.toList=xs) (hl:xs.length=n*sz):ad (af b (.cells arr t fr)::F) (aD sz ⟨some ⟨b,0,none⟩,n,m⟩ xs):=by
 subst hx
 rintro w f a ⟨g,k,hd,rfl,rfl,h2⟩
 refine ⟨hl,fun i hi=>⟨_,rfl,?_⟩⟩
 have:w.heap[b]? =some (.cells arr t fr):=a b _ (by simp [aP.add,aP.one])
 rw [ak]
 simp only [World.cell?,this,Nat.zero_add]
 have hi':i<arr.size:=by simpa using hi
 simp [hi']
theorem ad.nil {F:List HP} {sz:Nat}:ad F (aD sz ⟨none,0,0⟩ []):=fun _ _ _ _=>⟨by simp,fun i hi=>by simp at hi⟩
theorem an.z8 {E w:World} {F:List HP} {sz:Nat} {s:Sl} {xs:List Value} {i:Int} {K:Addr→Prop} (hh:Hp E w F) (hs:ad F (aD sz s xs)) (hz:0<sz) (h0:0≤i) (h1:i<(s.len:Int))
  (h: ∀p,(∀j,j<sz→ad F (fun w=>w.cell? (p.add j)=xs[i.toNat*sz+j]?))→K p):an s i sz K:=by
 have hs1:=hh.ah hs
 have hlt:i.toNat<s.len:=by omega
 have hmul:i.toNat*sz+sz≤s.len*sz:=by
  have:(i.toNat+1)*sz≤s.len*sz:=Nat.mul_le_mul_right _ hlt
  rw [Nat.succ_mul] at this;exact this
 have hx:xs.length=s.len*sz:=hs1.1
 obtain ⟨p,hp,_⟩:=hs1.2 (i.toNat*sz) (by omega)
 refine ⟨p,hp,h0,h1,h _ fun j hj=>hs.imp fun w' hs'=> ?_⟩
 obtain ⟨q,hq,hc⟩:=hs'.2 (i.toNat*sz+j) (by omega)
 have:q=p:=Option.some.inj (hq.symm.trans hp)
 subst this
 rw [List.getElem?_eq_getElem (by omega),←hc]
 congr 1
 unfold Addr.add
 by_cases e1:i.toNat*sz=0<;>by_cases e2:j=0<;>simp [e1,e2,Nat.add_assoc]
theorem bj.own {E w:World} {F:List HP} {s:Sl} {xs:List Value} {lo hi:Int} {K:Sl→Prop} (hh:Hp E w (al 1 s xs::F)) (h0:0≤lo) (h1:lo≤hi) (h2:hi≤(s.len:Int))
  (h: ∀s':Sl,Hp E w (al 1 s' ((xs.drop lo.toNat).take (hi.toNat - lo.toNat))::F)→s'.len=hi.toNat - lo.toNat→K s'):bj s lo hi s.cap 1 K:=by
 have hl:=hh.aV
 have hc:=hh.km
 refine ⟨h0,h1,by omega,by omega,h _ ?_ rfl⟩
 rcases hh.tc with ⟨rfl,rfl,hF⟩|⟨b,off,arr,t,e1,e2,e3,e4,hB⟩
 ·simp only at h2
  have e1:lo.toNat=0:=by omega
  have e2:hi.toNat=0:=by omega
  simpa [e1,e2] using hh
 ·have key:(if (s.cap:Int).toNat=lo.toNat then s.base else s.base.map (·.add (lo.toNat*1)))=if s.cap=lo.toNat then s.base else some ⟨b,off+lo.toNat,none⟩:=by
   rw [Int.toNat_natCast,e1]
   simp only [Option.map_some,ak,Nat.mul_one]
  rw [key,Int.toNat_natCast]
  have hlen:((xs.drop lo.toNat).take (hi.toNat - lo.toNat)).length=(hi.toNat - lo.toNat)*1:=by simp [hl];omega
  by_cases hcl:s.cap=lo.toNat
  ·rw [if_pos hcl]
   refine hB.k9 hlen e1 (by simp only;omega) (by simp only;omega) fun i hi'=> ?_
   rw [hlen] at hi';omega
  ·rw [if_neg hcl]
   refine hB.k9 hlen rfl (by simp only;omega) (by simp only;omega) fun i hi'=> ?_
   have hi2:lo.toNat+i<xs.length:=by rw [hlen] at hi';omega
   rw [Nat.add_assoc,e4 _ hi2]
   simp
theorem bj.rd {w:World} {s:Sl} {xs:List Value} {lo hi mx:Int} {K:Sl→Prop} (hs:aD 1 s xs w) (h0:0≤lo) (h1:lo≤hi) (h2:hi≤(s.len:Int)) (h3:hi≤mx) (h4:mx≤(s.cap:Int))
  (h: ∀s':Sl,(∀w',aD 1 s xs w'→aD 1 s' ((xs.drop lo.toNat).take (hi.toNat - lo.toNat)) w')→s'.len=hi.toNat - lo.toNat→K s'):bj s lo hi mx 1 K:=by
 have hl:=hs.1
 refine ⟨h0,h1,h3,h4,h _ (fun w' hs'=> ?_) rfl⟩
 have hlen:((xs.drop lo.toNat).take (hi.toNat - lo.toNat)).length=(hi.toNat - lo.toNat)*1:=by simp [hl];omega
 refine ⟨hlen,fun i hi'=> ?_⟩
 have hi2:lo.toNat+i<xs.length:=by rw [hlen] at hi';omega
 obtain ⟨p,hp,hcell⟩:=hs'.2 _ hi2
 have hne:mx.toNat≠lo.toNat:=by rw [hlen] at hi';omega
 refine ⟨p.add lo.toNat,by simp [hne,hp],?_⟩
 have:(p.add lo.toNat).add i=p.add (lo.toNat+i):=by
  unfold Addr.add
  by_cases e1:lo.toNat=0<;>by_cases e2:i=0<;>simp [e1,e2,Nat.add_assoc]
 rw [this,hcell]
 simp
end Go.Vc
set_option maxRecDepth 20000
namespace Go.Vc
open Go
section
variable {E w:World} {F:List HP}
theorem Ld.arr {b n:Nat} {cs:Array Value} {t:TypeId} {fr:Nat×Nat} {K:Array Value→Prop} (h:Hp E w (af b (.cells cs t fr)::F)) (hn:cs.size=n) (hK:K cs):Ld (.arr n) ⟨b,0,none⟩ w K:=by
 refine ⟨cs,hn,fun w' hw i hi=> ?_,hK⟩
 subst hw
 rw [ak,h.cell,Nat.zero_add]
 simp [hn,hi]
theorem ax.aH {b n:Nat} {c0 cs:Array Value} {t:TypeId} {K:World→Prop} (h:Hp E w (af b (.cells c0 t (0,0))::F)) (h0:c0.size=n) (hn:cs.size=n) (hs: ∀v∈cs.toList,aF v=true)
  (hK: ∀w',Hp E w' (af b (.cells cs t (0,0))::F)→K w'):ax n ⟨b,0,none⟩ cs w K:=by
 refine ⟨hn,fun i hi=>⟨?_,?_,?_⟩,?_⟩
 ·have:cs.getD i undef∈cs.toList:=by simp [hn,hi]
  exact hs _ this
 ·rw [ak,h.cell];simp [h0,hi]
 ·rw [ak];simp [World.frozen?,h.aH]
 ·obtain ⟨arr',e1,e2,e3,h'⟩:=Hp.setRow (b:=b) (off:=0) cs.toList 0 w c0 h (by simp;omega)
  have:arr'=cs:=by
   apply Array.ext
   ·omega
   ·intro i hi1 hi2
    have:=e2 i (by simpa using hi2)
    rw [show 0+0+i=i by omega,Array.getElem?_eq_getElem hi1] at this
    simpa using this
  subst this
  exact hK _ h'
theorem aw.rd {b n:Nat} {cs:Array Value} {t:TypeId} {fr:Nat×Nat} {i:Int} {s:Sc} {K:s.T→Prop} (h:Hp E w (af b (.cells cs t fr)::F)) (h0:0≤i) (h1:i<(n:Int)) (x:s.T) (hx:cs[i.toNat]? =some (s.enc x)) (hK:K x):
  aw ⟨b,0,none⟩ n i 1 fun q=>Ld (.sc s) q w K:=by
 refine ⟨h0,h1,?_⟩
 rw [ak]
 exact Ld.aH h x (by simpa using hx) hK
theorem aw.wr {b n:Nat} {cs:Array Value} {t:TypeId} {i:Int} {v:Value} {K:World→Prop} (h:Hp E w (af b (.cells cs t (0,0))::F)) (h0:0≤i) (h1:i<(n:Int)) (hn:cs.size=n) (hv:aF v=true)
  (hK: ∀w',Hp E w' (af b (.cells (cs.setIfInBounds i.toNat v) t (0,0))::F)→K w'):aw ⟨b,0,none⟩ n i 1 fun q=>St q v w K:=by
 refine ⟨h0,h1,?_⟩
 rw [ak]
 exact St.aH h (by omega) hv (by simpa using hK)
theorem ie.rd {s:Sc} {cs:Array Value} {n:Nat} {i:Int} {K:s.T→Prop} (h0:0≤i) (h1:i<(n:Int)) (x:s.T) (hx:cs[i.toNat]? =some (s.enc x)) (hK:K x):ie s cs n i K:=⟨h0,h1,x,hx,hK⟩
end
def ai (k:IntKind) (l:List Nat):Array Value:=⟨l.map fun (n:Nat)=> .int k (n:Int)⟩
theorem av {k:IntKind} {l:List Nat}:(ai k l).size=l.length:=by simp [ai]
theorem ez {k:IntKind} {l:List Nat} {i:Nat} (h:i<l.length):(ai k l)[i]? =some (Sc.enc (.int k) (l[i]:Int)):=by simp [ai,h]
theorem cd {k:IntKind} {l:List Nat}: ∀v∈(ai k l).toList,aF v=true:=by
 intro v hv
 simp only [ai,List.mem_map] at hv
 obtain ⟨x,_,rfl⟩:=hv
 rfl
theorem nq {k:IntKind} {l:List Nat} {i x:Nat}:(ai k l).setIfInBounds i (.int k (x:Int))=ai k (l.set i x):=by
 unfold ai
 apply Array.ext'
 simp [List.map_set]
theorem jP {k:IntKind} {n:Nat}:(⟨List.replicate n (.int k 0)⟩:Array Value)=ai k (List.replicate n 0):=by
 unfold ai;simp
theorem vT.mk {k:IntKind} {n:Nat} {a b:List Nat} {K:Bool→Prop} (ha:a.length=n) (hb:b.length=n) (h:K (a==b)):vT k n (ai k a) (ai k b) K:=by
 refine ⟨a.map fun (x:Nat)=>(x:Int),b.map fun (x:Nat)=>(x:Int),by simp [ai],by simp [ai],by simpa using ha,by simpa using hb,?_⟩
 have:((a.map fun (x:Nat)=>(x:Int))==(b.map fun (x:Nat)=>(x:Int)))=(a==b):=by
  rw [Bool.eq_iff_iff,beq_iff_eq,beq_iff_eq]
  constructor
  ·intro h
   exact (List.map_inj_right (fun x y h=>by have h:(x:Int)=(y:Int):=h;omega)).1 h
  ·rintro rfl;rfl
 rw [this];exact h
end Go.Vc
set_option maxRecDepth 20000
namespace Go.Vc
open Go
section
variable {E w w':World} {F G:List HP} {sz:Nat} {s:Sl} {xs ys:List Value}
theorem Hp.td {l:List HP} (h:Hp E w (l++F)):Hp E w F:=by
 induction l with
 |nil=>exact h
 |cons A l ih=>exact ih h.drop
theorem ad.app {φ:World→Prop} (l:List HP) (ht:ad F φ):ad (l++F) φ:=by
 induction l with
 |nil=>exact ht
 |cons A l ih=>exact ih.cons
theorem ad.ur {φ:World→Prop} (ht:ad G φ):ad (G++F) φ:=(ht.app F).perm List.perm_append_comm
def cZ (E:World) (F:List HP) (w:World):Prop:= ∃l,Hp E w (l++F)
theorem cZ.mk (h:Hp E w F):cZ E F w:=⟨[],h⟩
theorem cZ.r9 {A:HP} (h:Hp E w (A::F)):cZ E F w:=⟨[A],h⟩
theorem cZ.Gf {A B:HP} (h:Hp E w (A::B::F)):cZ E F w:=⟨[A,B],h⟩
theorem cZ.ah {φ:World→Prop} (h:cZ E F w) (ht:ad F φ):φ w:=by
 obtain ⟨l,h⟩:=h
 exact h.ah (ht.app l)
theorem bj.KG {lo hi mx:Int} {K:Sl→Prop} (hl:xs.length=s.len*sz) (h0:0≤lo) (h1:lo≤hi) (h2:hi≤(s.len:Int)) (h3:hi≤mx) (h4:mx≤(s.cap:Int))
  (h: ∀s':Sl,(∀w',aD sz s xs w'→aD sz s' ((xs.drop (lo.toNat*sz)).take ((hi.toNat - lo.toNat)*sz)) w')→s'.len=hi.toNat - lo.toNat→s'.len≤s'.cap→K s'):bj s lo hi mx sz K:=by
 refine ⟨h0,h1,h3,h4,h _ (fun w' hs'=> ?_) rfl (by simp only;omega)⟩
 have hm:hi.toNat*sz≤s.len*sz:=Nat.mul_le_mul_right _ (by omega)
 have hsub:(hi.toNat - lo.toNat)*sz=hi.toNat*sz - lo.toNat*sz:=Nat.sub_mul ..
 have hmono:lo.toNat*sz≤hi.toNat*sz:=Nat.mul_le_mul_right _ (by omega)
 have hlen:((xs.drop (lo.toNat*sz)).take ((hi.toNat - lo.toNat)*sz)).length=(hi.toNat - lo.toNat)*sz:=by
  rw [List.length_take,List.length_drop];omega
 refine ⟨hlen,fun i hi'=> ?_⟩
 rw [hlen] at hi'
 obtain ⟨p,hp,hcell⟩:=hs'.2 (lo.toNat*sz+i) (by omega)
 have hne:mx.toNat≠lo.toNat:=by
  intro e
  have:hi.toNat - lo.toNat=0:=by omega
  rw [this] at hi';omega
 refine ⟨p.add (lo.toNat*sz),by simp [hne,hp],?_⟩
 have:(p.add (lo.toNat*sz)).add i=p.add (lo.toNat*sz+i):=by
  unfold Addr.add
  by_cases e1:lo.toNat*sz=0<;>by_cases e2:i=0<;>simp [e1,e2,Nat.add_assoc]
 rw [this,hcell]
 simp
theorem aG.sc {S:World→Prop} {s:Sc} {p:Addr} {K:s.T→Prop} (x:s.T) (hc: ∀w,S w→w.cell? p=some (s.enc x)) (h:K x):aG (.sc s) p S K:=⟨x,hc,h⟩
theorem bj.whole {b n:Nat} {hi mx:Int} {K:Sl→Prop} (hn:0<n) (h1:hi=(n:Int)) (h2:mx=(n:Int)) (h:K ⟨some ⟨b,0,none⟩,n,n⟩):bj ⟨some ⟨b,0,none⟩,n,n⟩ 0 hi mx 1 K:=by
 subst h1;subst h2
 refine ⟨by omega,by omega,by omega,by simp,?_⟩
 have e:(if ((n:Int)).toNat=(0:Int).toNat then (some ⟨b,0,none⟩:Option Addr) else (some ⟨b,0,none⟩:Option Addr).map (·.add ((0:Int).toNat*1)))=some ⟨b,0,none⟩:=by
  rw [if_neg (by simp;omega)];simp [Addr.add]
 rw [e]
 simpa using h
end
section
variable {α:Type} {g:α→List Value} {sz:Nat} {l:List α}
theorem eT (hg: ∀x,(g x).length=sz) (l:List α):(l.flatMap g).length=l.length*sz:=by
 induction l with
 |nil=>simp
 |cons x l ih=>rw [List.flatMap_cons,List.length_append,ih,hg,List.length_cons,Nat.succ_mul];omega
theorem CO (hg: ∀x,(g x).length=sz): ∀(l:List α) (n:Nat),(l.flatMap g).drop (n*sz)=(l.drop n).flatMap g
 |l,0=>by simp
 | [],n+1=>by simp
 |x::l,n+1=>by
  rw [List.drop_succ_cons,List.flatMap_cons,Nat.succ_mul,Nat.add_comm,←List.drop_drop,←hg x,List.drop_left,hg x]
  exact CO hg l n
theorem CQ (hg: ∀x,(g x).length=sz): ∀(l:List α) (n:Nat),(l.flatMap g).take (n*sz)=(l.take n).flatMap g
 |l,0=>by simp
 | [],n+1=>by simp
 |x::l,n+1=>by
  rw [List.take_succ_cons,List.flatMap_cons,List.flatMap_cons,Nat.succ_mul,Nat.add_comm,List.take_append,hg x,List.take_of_length_le (by rw [hg x];omega),show sz+n*sz - sz=n*sz by omega,CQ hg l n]
theorem nJ (hg: ∀x,(g x).length=sz): ∀(l:List α) (i j:Nat) (hi:i<l.length),j<sz→(l.flatMap g)[i*sz+j]? =(g l[i])[j]?
 |x::l,0,j,_,hj=>by rw [List.flatMap_cons,List.getElem?_append_left (by rw [hg];omega),Nat.zero_mul,Nat.zero_add];rfl
 |x::l,i+1,j,hi,hj=>by
  rw [List.flatMap_cons,List.getElem?_append_right (by rw [hg,Nat.succ_mul];omega),hg,show (i+1)*sz+j - sz=i*sz+j by rw [Nat.succ_mul];omega,nJ hg l i j (by simpa using hi) hj]
  rfl
end
section
variable {E w w':World} {F G:List HP} {sz:Nat} {s:Sl} {α:Type} {g:α→List Value} {l:List α}
theorem an.el {i:Int} {n:Nat} {K:Addr→Prop} (hg: ∀x,(g x).length=sz) (hz:0<sz) (hs:aD sz s (l.flatMap g) w) (hn:i=(n:Int)) (hi:n<l.length) (h: ∀p,(∀j,j<sz→w.cell? (p.add j)=(g l[n])[j]?)→K p):an s i sz K:=by
 subst hn
 have hl:=hs.1
 rw [eT hg] at hl
 have hle:l.length=s.len:=Nat.eq_of_mul_eq_mul_right hz hl
 refine an.KG hs hz (by omega) (by omega) fun p hp=>h p fun j hj=> ?_
 have e:=nJ hg l n j hi hj
 have hlt:n*sz+j<(l.flatMap g).length:=by
  rw [eT hg]
  have:(n+1)*sz≤l.length*sz:=Nat.mul_le_mul_right _ hi
  rw [Nat.succ_mul] at this;omega
 rw [hp j (by rw [Int.toNat_natCast];exact hlt) hj]
 simp only [Int.toNat_natCast]
 rw [←e,List.getElem?_eq_getElem hlt]
theorem an.KS {i:Int} {n:Nat} {K:Addr→Prop} (hg: ∀x,(g x).length=sz) (hz:0<sz) (hh:Hp E w F) (hs:ad F (aD sz s (l.flatMap g))) (hn:i=(n:Int)) (hi:n<l.length) (h: ∀p,(∀j,j<sz→ad F (fun w=>w.cell? (p.add j)=(g l[n])[j]?))→K p):an s i sz K:=by
 subst hn
 have hl:=(hh.ah hs).1
 rw [eT hg] at hl
 have hle:l.length=s.len:=Nat.eq_of_mul_eq_mul_right hz hl
 refine an.z8 hh hs hz (by omega) (by omega) fun p hp=>h p fun j hj=>(hp j hj).imp fun w hw=> ?_
 rw [hw,Int.toNat_natCast,nJ hg l n j hi hj]
theorem aD.len (hg: ∀x,(g x).length=sz) (hz:0<sz) (hs:aD sz s (l.flatMap g) w):s.len=l.length:=by
 have hl:=hs.1
 rw [eT hg] at hl
 exact (Nat.eq_of_mul_eq_mul_right hz hl).symm
theorem bj.el {lo hi mx:Int} {a b:Nat} {K:Sl→Prop} (hg: ∀x,(g x).length=sz) (hl:s.len=l.length) (ha:lo=(a:Int)) (hb:hi=(b:Int)) (h1:a≤b) (h2:b≤l.length) (h3:hi≤mx) (h4:mx≤(s.cap:Int))
  (h: ∀s':Sl,(∀w',aD sz s (l.flatMap g) w'→aD sz s' (((l.drop a).take (b - a)).flatMap g) w')→s'.len=b - a→s'.len≤s'.cap→K s'):bj s lo hi mx sz K:=by
 subst ha;subst hb
 refine bj.KG (xs:=l.flatMap g) (by rw [eT hg,hl]) (by omega) (by omega) (by omega) h3 h4 fun s' hs' hl' hc'=>h s' (fun w' hw'=> ?_) (by simpa using hl') hc'
 have:=hs' w' hw'
 simp only [Int.toNat_natCast] at this
 rw [CO hg,CQ hg] at this
 exact this
theorem vS {S:World→Prop} {p:Addr}: ∀{ks:List Sc} {i:Nat} {K:TT ks→Prop} (x:TT ks) (_: ∀w,S w→∀j (hj:j<(fX ks x).length),w.cell? (p.add (i+j))=some (fX ks x)[j]) (_:K x),CD S p ks i K
 | [],_,_,_,_,h=>h
 |k::ks,i,K,(x,y),hc,h=>⟨x,fun w hw=>by have:=hc w hw 0 (by simp);simpa using this,vS (ks:=ks) (i:=i+1) y (fun w hw j hj=>by
   have:=hc w hw (j+1) (by simp;omega)
   simpa [Nat.add_assoc,Nat.add_comm 1 j] using this) h⟩
theorem Ld.st {ks:List Sc} {p:Addr} {K:TT ks→Prop} (x:TT ks) (hc: ∀j,j<(fX ks x).length→w.cell? (p.add j)=(fX ks x)[j]?) (h:K x):Ld (.st ks) p w K:=
 vS x (fun w' hw' j hj=>by
  have hw':w'=w:=hw'
  subst hw'
  rw [Nat.zero_add,hc j hj,List.getElem?_eq_getElem hj]) h
theorem Ld.zh {ks:List Sc} {b:Nat} {cs:Array Value} {t:TypeId} {fr:Nat×Nat} {K:TT ks→Prop} (hh:Hp E w (af b (.cells cs t fr)::F)) (x:TT ks) (hc:cs=⟨fX ks x⟩) (h:K x):Ld (.st ks) ⟨b,0,none⟩ w K:=by
 subst hc
 refine Ld.st x (fun j hj=> ?_) h
 rw [ak,hh.cell];simp
theorem bl.go {b:Nat} {t:TypeId} {K:World→Prop}: ∀(vs:List Value) (i:Nat) (w:World) (c:Array Value),Hp E w (af b (.cells c t (0,0))::F)→i+vs.length=c.size→(∀v∈vs,aF v=true)→
  (∀c' w',c'.toList=c.toList.take i++vs→Hp E w' (af b (.cells c' t (0,0))::F)→K w')→bl ⟨b,0,none⟩ vs i w K
 | [],i,w,c,hh,hi,_,hK=>hK c w (by rw [List.append_nil,List.take_of_length_le (by simp;simp at hi;omega)]) hh
 |v::vs,i,w,c,hh,hi,hv,hK=>by
  have h1:=hv v (by simp)
  simp only [List.length_cons] at hi
  unfold bl
  rw [h1]
  have h2:=hh.setCell (i:=i) v
  refine ⟨?_,?_,?_⟩
  ·rw [ak,hh.cell];simp;omega
  ·rw [ak];simp [World.frozen?,hh.aH]
  ·rw [ak,Nat.zero_add]
   refine bl.go vs (i+1) _ _ h2 (by simp;omega) (fun x hx=>hv x (List.mem_cons_of_mem _ hx)) fun c' w' e h3=>hK c' w' ?_ h3
   rw [e,Array.toList_setIfInBounds,List.take_add_one,List.take_set_of_le (by omega)]
   rw [List.getElem?_set_self (by simp;omega)]
   simp
theorem bl.aH {b:Nat} {c:Array Value} {t:TypeId} {vs:List Value} {K:World→Prop} (hh:Hp E w (af b (.cells c t (0,0))::F)) (hi:vs.length=c.size) (hv: ∀v∈vs,aF v=true)
  (hK: ∀w',Hp E w' (af b (.cells ⟨vs⟩ t (0,0))::F)→K w'):bl ⟨b,0,none⟩ vs 0 w K:=
 bl.go vs 0 w c hh (by omega) hv fun c' w' e h=>by
  have:c'=⟨vs⟩:=by apply Array.ext';simpa using e
  subst this
  exact hK w' h
theorem r7 {P:Program} {t ty e e2:TypeId} {bytes:Nat} {x:α} {cs:Array Value} {K:Sl→World→Prop} (he:bP P t e sz bytes) (hg: ∀x,(g x).length=sz) (hz:0<sz) (hcs:cs=⟨g x⟩) (hsc: ∀y∈g x,aF y=true)
  (hh:Hp E w (al sz s (l.flatMap g)::F)) (hb:(2*(l.length+1)+1024)*bytes≤2^48) (hb2:l.length+1<2^62)
  (h: ∀s' w',Hp E w' (al sz s' ((l++ [x]).flatMap g)::F)→s'.len=l.length+1→K s' w'):
  Nw e2 cs w fun b w1=>au P (Builtin.append_ #[t,t] ty ⟨[.slice s.base s.len s.cap,.slice (some ⟨b,0,none⟩) 1 1]⟩) kS w1 K:=by
 have hlen:=aD.len hg hz (hh.ah ad.own)
 refine Nw.mk hh fun b w1 h1=> ?_
 refine aK (ys:=g x) (n:=1) he hz (.inl ⟨e,he.und⟩) h1.p1 (.inl ⟨_,_,_,rfl,rfl,h1.ah (ad.aH (xs:=g x) (by rw [hcs]) (by rw [hg];simp))⟩) (by rw [hg];simp) hsc (by rw [hlen];exact hb) (by rw [hlen];exact hb2) fun s' w2 h2 hs'=>h s' w2 ?_ (by rw [hs',hlen])
 rw [List.flatMap_append,show [x].flatMap g=g x by simp]
 exact h2.p1.drop
theorem sE {P:Program} {t ty e:TypeId} {bytes:Nat} {s2:Sl} {ys:List α} {K:Sl→World→Prop} (he:bP P t e sz bytes) (hg: ∀x,(g x).length=sz) (hz:0<sz) (hsc: ∀x,∀y∈g x,aF y=true)
  (hh:Hp E w (al sz s (l.flatMap g)::F)) (hs:aD sz s2 (ys.flatMap g) w) (hb:(2*(l.length+ys.length)+1024)*bytes≤2^48) (hb2:l.length+ys.length<2^62)
  (h: ∀s' w',Hp E w' (al sz s' ((l++ys).flatMap g)::F)→s'.len=l.length+ys.length→K s' w'):
  au P (Builtin.append_ #[t,t] ty ⟨[.slice s.base s.len s.cap,.slice s2.base s2.len s2.cap]⟩) kS w K:=by
 have hlen:=aD.len hg hz (hh.ah ad.own)
 have hlen2:=aD.len hg hz hs
 refine aK (ys:=ys.flatMap g) (n:=ys.length) he hz (.inl ⟨e,he.und⟩) hh (.inl ⟨_,_,_,rfl,hlen2.symm,hs⟩) (eT hg ys) (fun y hy=> ?_) (by rw [hlen];exact hb) (by rw [hlen];exact hb2) fun s' w2 h2 hs'=>h s' w2 ?_ (by rw [hs',hlen])
 ·obtain ⟨x,_,hx⟩:=List.mem_flatMap.1 hy
  exact hsc x y hx
 ·rw [List.flatMap_append];exact h2
end
end Go.Vc
set_option maxRecDepth 20000
namespace Go.Vc
open Go
section
variable {E w:World} {F:List HP} {A:HP}
theorem cZ.mem (h:cZ E F w) (hm:A∈F): ∃G,Hp E w (A::G):=by
 obtain ⟨l,h⟩:=h
 obtain ⟨s,t,rfl⟩:=List.append_of_mem hm
 refine ⟨(l++s)++t,?_⟩
 rw [←List.append_assoc] at h
 exact h.perm List.perm_middle
theorem cZ.front (h:cZ E (A::F) w): ∃G,Hp E w (A::G):=h.mem (by simp)
theorem cZ.Fv {B:HP} (h:cZ E (A::B::F) w): ∃G,Hp E w (B::G):=h.mem (by simp)
theorem aG.KE {S:World→Prop} {b n:Nat} {cs:Array Value} {t:TypeId} {fr:Nat×Nat} {K:Array Value→Prop} (hS: ∀w,S w→∃G,Hp E w (af b (.cells cs t fr)::G)) (hn:cs.size=n) (hK:K cs):aG (.arr n) ⟨b,0,none⟩ S K:=by
 refine ⟨cs,hn,fun w' hw i hi=> ?_,hK⟩
 obtain ⟨G,h⟩:=hS w' hw
 rw [ak,h.cell,Nat.zero_add]
 simp [hn,hi]
theorem aG.aH {S:World→Prop} {s:Sc} {b i:Nat} {c:Array Value} {t:TypeId} {fr:Nat×Nat} {K:s.T→Prop} (hS: ∀w,S w→∃G,Hp E w (af b (.cells c t fr)::G)) (x:s.T) (hx:c[i]? =some (s.enc x)) (hk:K x):aG (.sc s) ⟨b,i,none⟩ S K:=by
 refine aG.sc x (fun w' hw=> ?_) hk
 obtain ⟨G,h⟩:=hS w' hw
 rw [h.cell];exact hx
theorem aG.sub {S:World→Prop} {b n off:Nat} {pre aL post:List Value} {t:TypeId} {fr:Nat×Nat} {K:Array Value→Prop} (hS: ∀w,S w→∃G,Hp E w (af b (.cells ⟨pre++aL++post⟩ t fr)::G)) (ho:pre.length=off) (hn:aL.length=n) (hK:K ⟨aL⟩):aG (.arr n) ⟨b,off,none⟩ S K:=by
 refine ⟨⟨aL⟩,hn,fun w' hw i hi=> ?_,hK⟩
 obtain ⟨G,h⟩:=hS w' hw
 rw [ak,h.cell]
 subst ho
 rw [List.getElem?_toArray,List.append_assoc,List.getElem?_append_right (by omega),List.getElem?_append_left (by omega),show pre.length+i - pre.length=i by omega]
 rw [List.getElem?_eq_getElem (by omega)]
 simp [show i<aL.length by omega]
theorem Ld.sub {b n off:Nat} {pre aL post:List Value} {t:TypeId} {fr:Nat×Nat} {K:Array Value→Prop} (h:Hp E w (af b (.cells ⟨pre++aL++post⟩ t fr)::F)) (ho:pre.length=off) (hn:aL.length=n) (hK:K ⟨aL⟩):Ld (.arr n) ⟨b,off,none⟩ w K:=
 aG.sub (E:=E) (fun w' hw=>⟨F,by rw [hw];exact h⟩) ho hn hK
end
def fP (n:Nat) (f:Nat→Int):Array Value:=⟨(List.range n).map fun j=> .int .i64 (f j)⟩
theorem g8 {n:Nat} {f:Nat→Int}:(fP n f).size=n:=by simp [fP]
theorem z6 {n:Nat} {f:Nat→Int} {i:Nat} {v:Int}:(fP n f).setIfInBounds i (.int .i64 v)=fP n fun j=>if j=i then v else f j:=by
 apply Array.ext_getElem?
 intro j
 rw [Array.getElem?_setIfInBounds]
 unfold fP
 simp only [List.getElem?_toArray,List.getElem?_map,List.size_toArray,List.length_map,List.length_range]
 by_cases hj:j<n
 ·rw [List.getElem?_range hj]
  by_cases e:i=j
  ·subst e;simp [hj]
  ·rw [if_neg e];simp [Ne.symm e]
 ·rw [List.getElem?_eq_none (by simpa using hj)]
  by_cases e:i=j
  ·subst e;simp [hj]
  ·simp [e]
theorem kL {n:Nat} {f g:Nat→Int} (h: ∀i,i<n→f i=g i):fP n f=fP n g:=by
 unfold fP
 congr 1
 exact List.map_congr_left fun j hj=>by rw [h j (by simpa using hj)]
theorem zO {off:Nat}: ∀(vs:List Value) (k:Nat) (pre aL post:List Value),aL.length=vs.length→pre.length=off+k→
  (vs.zipIdx k).foldl (fun (cs:Array Value) (x:Value×Nat)=>cs.setIfInBounds (off+x.2) x.1) ⟨pre++aL++post⟩=⟨pre++vs++post⟩
 | [],k,pre,aL,post,hm,_=>by
  have:aL= []:=List.length_eq_zero_iff.1 hm
  subst this;rfl
 |v::vs,k,pre,aL,post,hm,hp=>by
  obtain ⟨m,aL,rfl⟩: ∃m mid',aL=m::mid':=by
   cases aL with
   |nil=>simp at hm
   |cons m aL=>exact ⟨m,aL,rfl⟩
  rw [List.zipIdx_cons,List.foldl_cons]
  have e:(⟨pre++m::aL++post⟩:Array Value).setIfInBounds (off+k) v=⟨(pre++ [v])++aL++post⟩:=by
   rw [←hp]
   apply Array.ext'
   simp
  show ((vs.zipIdx (k+1)).foldl _ ((⟨pre++m::aL++post⟩:Array Value).setIfInBounds (off+k) v))=_
  rw [e,zO vs (k+1) (pre++ [v]) aL post (by simpa using hm) (by simp;omega)]
  simp
theorem E0 {place:Nat→Option (Nat×Nat)} {i off size:Nat} {v:Value} {rest:List (Nat×Value)} {pre aL post:List Value} (hpl:place i=some (off,size)) (ho:pre.length=off) (hm:aL.length=size) (hv:v.cells.size=size):
  Instr.fill place ⟨pre++aL++post⟩ ((i,v)::rest)=Instr.fill place ⟨pre++v.cells.toList++post⟩ rest:=by
 rw [Instr.fill,hpl]
 simp only
 rw [if_neg (by simp [hv];omega)]
 congr 1
 rw [←Array.foldl_toList,Array.toList_zipIdx]
 exact zO (off:=off) v.cells.toList 0 pre aL post (by simp [hm,hv]) (by omega)
end Go.Vc
set_option maxRecDepth 20000
namespace Go.Vc
open Go
class cb (b:Nat) (l:List HP) (c:outParam (Array Value)) (t:outParam TypeId) (fr:outParam (Nat×Nat)) (put:outParam (Obj→List HP)):Prop where
 perm: ∃r,l.Perm (af b (.cells c t fr)::r)∧∀o,(af b o::r).Perm (put o)
instance cb.head {b:Nat} {l:List HP} {c:Array Value} {t:TypeId} {fr:Nat×Nat}:cb b (af b (.cells c t fr)::l) c t fr (fun o=>af b o::l):=
 ⟨l,.refl _,fun _=> .refl _⟩
instance cb.tail {b:Nat} {A:HP} {l:List HP} {c:Array Value} {t:TypeId} {fr:Nat×Nat} {put:Obj→List HP} [h:cb b l c t fr put]:cb b (A::l) c t fr (fun o=>A::put o):=
 ⟨by
  obtain ⟨r,h1,h2⟩:=h.perm
  exact ⟨A::r,(h1.cons A).trans (.swap ..),fun o=>(List.Perm.swap ..).trans ((h2 o).cons A)⟩⟩
class ye (n:Nat) (l:List HP) (A:outParam HP) (r:outParam (List HP)):Prop where
 perm:l.Perm (A::r)
instance ye.zero {A:HP} {l:List HP}:ye 0 (A::l) A l:=⟨.refl _⟩
instance ye.succ {n:Nat} {A B:HP} {l r:List HP} [h:ye n l A r]:ye (n+1) (B::l) A (B::r):=⟨(h.perm.cons B).trans (.swap ..)⟩
section
variable {E w:World} {l:List HP} {b i:Nat} {c:Array Value} {t:TypeId} {fr:Nat×Nat} {put:Obj→List HP}
theorem Hp.at {A:HP} {r:List HP} (h:Hp E w l) (n:Nat) [hn:ye n l A r]:Hp E w (A::r):=h.perm hn.perm
theorem Hp.no {A:HP} {r:List HP} (h:Hp E w l) (n:Nat) [hn:ye n l A r]:Hp E w r:=(h.perm hn.perm).drop
theorem ad.at {A:HP} {r:List HP} {φ:World→Prop} (n:Nat) [hn:ye n l A r] (ht:ad (A::r) φ):ad l φ:=ht.perm hn.perm.symm
theorem Hp.fb [hf:cb b l c t fr put] (h:Hp E w l):w.heap[b]? =some (.cells c t fr):=by
 obtain ⟨r,h1,_⟩:=hf.perm
 exact (h.perm h1).aH
theorem Hp.fc [cb b l c t fr put] (h:Hp E w l):w.cell? ⟨b,i,none⟩=c[i]? :=by
 simp [World.cell?,h.fb]
def di (b:Nat) (c:Array Value) (t:TypeId) (fr:Nat×Nat) (w:World):Prop:=w.heap[b]? =some (.cells c t fr)
theorem Hp.hb [cb b l c t fr put] (h:Hp E w l):di b c t fr w:=h.fb
theorem di.cell (h:di b c t fr w):w.cell? ⟨b,i,none⟩=c[i]? :=by simp [World.cell?,show w.heap[b]? =_ from h]
def Sc.Hr:(s:Sc)→Value→Option s.T
 | .int k,.int k' n=>match k==k' with|true=>some n|false=>none
 | .bool,.bool b=>some b
 | .ptr,.pointer p=>some p
 | .sl,.slice b l c=>some ⟨b,l,c⟩
 | .str,.string s=>some s
 | .mp,.map m=>some m
 | .any,v=>some v
 | .addr,.pointer (some p)=>some p
 |_,_=>none
def vD:(l:List Sc)→List Value→Option (TT l)
 | [],_=>some ()
 |s::l,v::vs=>match s.Hr v,vD l vs with
  |some x,some y=>some (x,y)
  |_,_=>none
 |_::_,[]=>none
theorem Sc.Hn {s:Sc} {v:Value} {x:s.T} (h:s.Hr v=some x):v=s.enc x:=by
 cases s<;>cases v<;>simp only [Sc.Hr] at h<;>first|cases h;rfl|cases h|skip
 ·rename_i k k' n
  by_cases e:k=k'
  ·subst e;simp at h;subst h;rfl
  ·have:(k==k')=false:=by simpa using e
   rw [this] at h;cases h
 ·rename_i p
  cases p with
  |none=>cases h
  |some p=>simp only [Option.some.injEq] at h;subst h;rfl
theorem ym: ∀{l:List Sc} {vs:List Value} {x:TT l},vD l vs=some x→∃r,vs=fX l x++r
 | [],vs,(),_=>⟨vs,rfl⟩
 |s::l,v::vs,(x,y),h=>by
  simp only [vD] at h
  split at h
  ·rename_i x' y' hx hy
   simp only [Option.some.injEq,Prod.mk.injEq] at h
   obtain ⟨rfl,rfl⟩:=h
   obtain ⟨r,e⟩:=ym hy
   exact ⟨r,by rw [e,Sc.Hn hx];rfl⟩
  ·cases h
 |_::_,[],_,h=>by cases h
class lC (l F:List HP):Prop where
 sub: ∃p,l=p++F
instance lC.refl {F:List HP}:lC F F:=⟨[],rfl⟩
instance lC.cons {A:HP} {l F:List HP} [h:lC l F]:lC (A::l) F:=⟨by obtain ⟨p,e⟩:=h.sub;exact ⟨A::p,by rw [e];rfl⟩⟩
theorem Hp.tl {F:List HP} [h2:lC l F] (h:Hp E w l):Hp E w F:=by
 obtain ⟨p,e⟩:=h2.sub
 subst e;exact h.td
theorem FL {α β:Type} {K:α→β→Prop} {a a':α} {w:β} (e:a=a') (h:K a' w):K a w:=e▸h
theorem aa.yes {b:Bool} {X Y:Prop} (k:X) (h:b=true:=by with_reducible first|rfl|exact decide_eq_true (by omega)|exact beq_iff_eq.2 (by omega)|exact bne_iff_ne.2 (by omega)|exact Bool.not_false|exact Bool.not_eq_true' _▸decide_eq_false (by omega)):aa b X Y:=aa.t h k
theorem aa.no {b:Bool} {X Y:Prop} (k:Y) (h:b=false:=by with_reducible first|rfl|exact decide_eq_false (by omega)|exact beq_eq_false_iff_ne.2 (by omega)|exact bne_eq_false_iff_eq.2 (by omega)|exact Bool.not_true|exact Bool.not_eq_false' _▸decide_eq_true (by omega)):aa b X Y:=aa.f h k
theorem aa.dt {p:Prop} [Decidable p] {X Y:Prop} (hp:p) (h:X):aa (decide p) X Y:=aa.t (decide_eq_true hp) h
theorem aa.df {p:Prop} [Decidable p] {X Y:Prop} (hp: ¬p) (h:Y):aa (decide p) X Y:=aa.f (decide_eq_false hp) h
theorem aa.Lc {p:Prop} [Decidable p] {X Y:Prop} (hp:p) (h:Y):aa (!decide p) X Y:=aa.f (by rw [decide_eq_true hp];rfl) h
theorem aa.Kh {p:Prop} [Decidable p] {X Y:Prop} (hp: ¬p) (h:X):aa (!decide p) X Y:=aa.t (by rw [decide_eq_false hp];rfl) h
theorem aa.Ik {X Y:Prop} (h:Y):aa (!true) X Y:=h
theorem aa.Ml {X Y:Prop} (h:X):aa (!false) X Y:=h
theorem aa.et {a b:Int} {X Y:Prop} (hp:a=b) (h:X):aa (a==b) X Y:=aa.t (beq_iff_eq.2 hp) h
theorem aa.ef {a b:Int} {X Y:Prop} (hp: ¬a=b) (h:Y):aa (a==b) X Y:=aa.f (beq_eq_false_iff_ne.2 hp) h
theorem aa.nt {a b:Int} {X Y:Prop} (hp: ¬a=b) (h:X):aa (a !=b) X Y:=aa.t (bne_iff_ne.2 hp) h
theorem aa.nf {a b:Int} {X Y:Prop} (hp:a=b) (h:Y):aa (a !=b) X Y:=aa.f (bne_eq_false_iff_eq.2 hp) h
theorem aa.dm {p:Prop} [Decidable p] {X Y:Prop} (h1:p→X) (h2: ¬p→Y):aa (decide p) X Y:=aa.mk (fun h=>h1 (of_decide_eq_true h)) (fun h=>h2 (of_decide_eq_false h))
theorem aa.em {a b:Int} {X Y:Prop} (h1:a=b→X) (h2: ¬a=b→Y):aa (a==b) X Y:=aa.mk (fun h=>h1 (beq_iff_eq.1 h)) (fun h=>h2 (beq_eq_false_iff_ne.1 h))
theorem aa.nm {a b:Int} {X Y:Prop} (h1: ¬a=b→X) (h2:a=b→Y):aa (a !=b) X Y:=aa.mk (fun h=>h1 (bne_iff_ne.1 h)) (fun h=>h2 (bne_eq_false_iff_eq.1 h))
theorem aG.xb {S:World→Prop} {s:Sc} {K:s.T→Prop} {x:s.T} (hS: ∀w,S w→di b c t fr w) (hx:c.toList[i]? =some (s.enc x)) (hK:K x):aG (.sc s) ⟨b,i,none⟩ S K:=
 ⟨x,fun w hw=>by rw [(hS w hw).cell];rw [←hx];simp,hK⟩
theorem aG.xt {S:World→Prop} {ks:List Sc} {K:TT ks→Prop} {x:TT ks} (hS: ∀w,S w→di b c t fr w) (hx:vD ks (c.toList.drop i)=some x) (hK:K x):aG (.st ks) ⟨b,i,none⟩ S K:=by
 obtain ⟨r,e⟩:=ym hx
 refine vS x (fun w hw j hj=> ?_) hK
 rw [Nat.zero_add,ak,(hS w hw).cell]
 have h1:(c.toList.drop i)[j]? =(fX ks x)[j]? :=by rw [e,List.getElem?_append_left hj]
 rw [List.getElem?_drop,List.getElem?_eq_getElem hj] at h1
 rw [←h1];simp
theorem aG.xa {S:World→Prop} {n:Nat} {aL post:List Value} {K:Array Value→Prop} (hS: ∀w,S w→di b c t fr w) (hx:c.toList.drop i=aL++post) (hn:aL.length=n) (hK:K ⟨aL⟩):aG (.arr n) ⟨b,i,none⟩ S K:=by
 refine ⟨⟨aL⟩,hn,fun w hw j hj=> ?_,hK⟩
 rw [ak,(hS w hw).cell]
 have h1:(c.toList.drop i)[j]? =aL[j]? :=by rw [hx,List.getElem?_append_left (by omega)]
 rw [List.getElem?_drop] at h1
 rw [show c[i+j]? =c.toList[i+j]? by simp,h1]
 simp [show j<aL.length by omega]
theorem Ld.xb {s:Sc} {K:s.T→Prop} {x:s.T} [cb b l c t fr put] (h:Hp E w l) (hx:c.toList[i]? =some (s.enc x)) (hK:K x):Ld (.sc s) ⟨b,i,none⟩ w K:=aG.xb (fun w' hw=>by rw [hw];exact h.fb) hx hK
theorem Ld.xt {ks:List Sc} {K:TT ks→Prop} {x:TT ks} [cb b l c t fr put] (h:Hp E w l) (hx:vD ks (c.toList.drop i)=some x) (hK:K x):Ld (.st ks) ⟨b,i,none⟩ w K:=aG.xt (fun w' hw=>by rw [hw];exact h.fb) hx hK
theorem Ld.xa {n:Nat} {aL post:List Value} {K:Array Value→Prop} [cb b l c t fr put] (h:Hp E w l) (hx:c.toList.drop i=aL++post) (hn:aL.length=n) (hK:K ⟨aL⟩):Ld (.arr n) ⟨b,i,none⟩ w K:=aG.xa (fun w' hw=>by rw [hw];exact h.fb) hx hn hK
theorem Ld.xw {n:Nat} {K:Array Value→Prop} [cb b l c t fr put] (h:Hp E w l) (hn:c.size=n) (hK:K c):Ld (.arr n) ⟨b,0,none⟩ w K:=
 Ld.xa (aL:=c.toList) (post:= []) h (by simp) (by simpa using hn) (by simpa using hK)
theorem aG.xw {S:World→Prop} {n:Nat} {K:Array Value→Prop} (hS: ∀w,S w→di b c t fr w) (hn:c.size=n) (hK:K c):aG (.arr n) ⟨b,0,none⟩ S K:=
 aG.xa (aL:=c.toList) (post:= []) hS (by simp) (by simpa using hn) (by simpa using hK)
theorem bl.Mo {b:Nat} {t:TypeId} {F:List HP} {K:World→Prop}: ∀(vs:List Value) (i o:Nat) (w:World) (c:Array Value),Hp E w (af b (.cells c t (0,0))::F)→o+i+vs.length≤c.size→(∀v∈vs,aF v=true)→
  (∀c' w',c'.toList=c.toList.take (o+i)++vs++c.toList.drop (o+i+vs.length)→Hp E w' (af b (.cells c' t (0,0))::F)→K w')→bl ⟨b,o,none⟩ vs i w K
 | [],i,o,w,c,hh,hi,_,hK=>hK c w (by simp) hh
 |v::vs,i,o,w,c,hh,hi,hv,hK=>by
  have h1:=hv v (by simp)
  simp only [List.length_cons] at hi
  unfold bl
  rw [h1]
  have h2:=hh.setCell (i:=o+i) v
  refine ⟨?_,?_,?_⟩
  ·rw [ak,hh.cell];simp;omega
  ·rw [ak];simp [World.frozen?,hh.aH]
  ·rw [ak]
   refine bl.Mo vs (i+1) o _ _ h2 (by simp;omega) (fun x hx=>hv x (List.mem_cons_of_mem _ hx)) fun c' w' e h3=>hK c' w' ?_ h3
   rw [e,Array.toList_setIfInBounds,show o+(i+1)=o+i+1 by omega,List.take_add_one,List.take_set_of_le (by omega)]
   rw [List.getElem?_set_self (by simp;omega)]
   rw [List.drop_set_of_lt (by omega),List.length_cons]
   simp only [Option.toList_some,List.append_assoc,List.cons_append,List.nil_append]
   rw [show o+i+1+vs.length=o+i+(vs.length+1) by omega]
theorem bl.xm {o:Nat} {vs pre aL post:List Value} {K:World→Prop} [hf:cb b l c t (0,0) put] (h:Hp E w l) (hc:c.toList=pre++(aL++post)) (ho:pre.length=o) (hn:aL.length=vs.length) (hv:vs.all aF=true)
  (hK: ∀w',Hp E w' (put (.cells ⟨pre++(vs++post)⟩ t (0,0)))→K w'):bl ⟨b,o,none⟩ vs 0 w K:=by
 obtain ⟨r,h1,h2⟩:=hf.perm
 have hs:c.size=pre.length+(aL.length+post.length):=by rw [←Array.length_toList,hc];simp
 refine bl.Mo vs 0 o w c (h.perm h1) (by omega) (List.all_eq_true.1 hv) fun c' w' e h'=>hK w' ?_
 have:c'=⟨pre++(vs++post)⟩:=by
  apply Array.ext'
  rw [e,hc,Nat.add_zero,←ho,List.take_left,←hn,←List.length_append,←List.append_assoc,List.drop_left,List.append_assoc]
 rw [this] at h'
 exact h'.perm (h2 _)
theorem bl.xw {vs:List Value} {K:World→Prop} [hf:cb b l c t (0,0) put] (h:Hp E w l) (hn:vs.length=c.size) (hv:vs.all aF=true)
  (hK: ∀w',Hp E w' (put (.cells ⟨vs⟩ t (0,0)))→K w'):bl ⟨b,0,none⟩ vs 0 w K:=
 bl.xm (pre:= []) (aL:=c.toList) (post:= []) h (by simp) rfl (by simpa using hn.symm) hv (by simpa using hK)
theorem St.xb {o:Nat} {v:Value} {K:World→Prop} [hf:cb b l c t (0,0) put] (h:Hp E w l) (hi:o<c.size) (hv:aF v=true)
  (hK: ∀w',Hp E w' (put (.cells (c.setIfInBounds o v) t (0,0)))→K w'):St ⟨b,o,none⟩ v w K:=by
 obtain ⟨r,h1,h2⟩:=hf.perm
 exact St.mk rfl (h.perm h1) hi hv fun w' h'=>hK w' (h'.perm (h2 _))
theorem St.xm {o:Nat} {v u:Value} {pre post:List Value} {K:World→Prop} [hf:cb b l c t (0,0) put] (h:Hp E w l) (hc:c.toList=pre++(u::post)) (ho:pre.length=o) (hv:aF v=true)
  (hK: ∀w',Hp E w' (put (.cells ⟨pre++(v::post)⟩ t (0,0)))→K w'):St ⟨b,o,none⟩ v w K:=by
 refine St.xb h ?_ hv fun w' h'=>hK w' ?_
 ·rw [←Array.length_toList,hc];simp;omega
 ·have:c.setIfInBounds o v=⟨pre++(v::post)⟩:=by
   apply Array.ext'
   rw [Array.toList_setIfInBounds,hc,←ho]
   simp
  rwa [this] at h'
def aI:List Value→List Value→List Value
 | [],l=>l
 |_::_,[]=> []
 |v::vs,_::l=>v::aI vs l
def bN:List Value→Nat→List Value→List Value
 |l,0,vs=>aI vs l
 |a::l,o+1,vs=>a::bN l o vs
 | [],_+1,_=> []
theorem Cx: ∀{l vs:List Value},vs.length≤l.length→aI vs l=vs++l.drop vs.length
 |_,[],_=>rfl
 | [],_::_,h=>by simp at h
 |a::l,v::vs,h=>by
  rw [aI,Cx (by simpa using h)];rfl
theorem Bs: ∀{l:List Value} {o:Nat} {vs:List Value},o+vs.length≤l.length→bN l o vs=l.take o++(vs++l.drop (o+vs.length))
 |l,0,vs,h=>by
  have:bN l 0 vs=aI vs l:=by cases l<;>rfl
  rw [this,Cx (by omega)];simp
 |a::l,o+1,vs,h=>by
  rw [bN,Bs (by simp at h;omega),show o+1+vs.length=o+vs.length+1 by omega];rfl
 | [],o+1,vs,h=>by simp at h
theorem bl.xs {o:Nat} {vs:List Value} {K:World→Prop} [hf:cb b l c t (0,0) put] (h:Hp E w l) (hb:Nat.ble (o+vs.length) c.toList.length=true) (hv:vs.all aF=true)
  (hK: ∀w',Hp E w' (put (.cells ⟨bN c.toList o vs⟩ t (0,0)))→K w'):bl ⟨b,o,none⟩ vs 0 w K:=by
 have hb:=Nat.le_of_ble_eq_true hb
 rw [Bs hb] at hK
 refine bl.xm (aL:=(c.toList.drop o).take vs.length) h ?_ (by simp;simp at hb;omega) (by simp;simp at hb;omega) hv hK
 rw [←List.drop_drop,List.take_append_drop,List.take_append_drop]
theorem St.xs {o:Nat} {v:Value} {K:World→Prop} [hf:cb b l c t (0,0) put] (h:Hp E w l) (hb:Nat.ble (o+1) c.toList.length=true) (hv:aF v=true)
  (hK: ∀w',Hp E w' (put (.cells ⟨bN c.toList o [v]⟩ t (0,0)))→K w'):St ⟨b,o,none⟩ v w K:=by
 have hb:=Nat.le_of_ble_eq_true hb
 have hb2:o<c.toList.length:=by omega
 rw [Bs (by simpa using hb)] at hK
 refine St.xm (u:=c.toList[o]'hb2) (pre:=c.toList.take o) (post:=c.toList.drop (o+1)) h ?_ (by simp;simp at hb;omega) hv (by simpa using hK)
 rw [List.getElem_cons_drop,List.take_append_drop]
theorem ax.xm {n o:Nat} {cs:Array Value} {pre aL post:List Value} {K:World→Prop} [hf:cb b l c t (0,0) put] (h:Hp E w l) (hc:c.toList=pre++(aL++post)) (ho:pre.length=o) (hn:aL.length=n) (hcs:cs.size=n) (hv: ∀v∈cs.toList,aF v=true)
  (hK: ∀w',Hp E w' (put (.cells ⟨pre++(cs.toList++post)⟩ t (0,0)))→K w'):ax n ⟨b,o,none⟩ cs w K:=by
 obtain ⟨r,h1,h2⟩:=hf.perm
 have hh:=h.perm h1
 have hs:c.size=pre.length+(aL.length+post.length):=by rw [←Array.length_toList,hc];simp
 refine ⟨hcs,fun i hi=>⟨?_,?_,?_⟩,?_⟩
 ·have:cs.getD i undef∈cs.toList:=by simp [Array.getD,hcs,hi]
  exact hv _ this
 ·rw [ak,hh.cell];simp;omega
 ·rw [ak];simp [World.frozen?,hh.aH]
 ·have key: ∀(vs:List Value) (i:Nat) (w:World) (c:Array Value),Hp E w (af b (.cells c t (0,0))::r)→o+i+vs.length≤c.size→
    Hp E (ax.setRow w ⟨b,o,none⟩ vs i) (af b (.cells ⟨c.toList.take (o+i)++vs++c.toList.drop (o+i+vs.length)⟩ t (0,0))::r):=by
   intro vs
   induction vs with
   |nil=>intro i w c hh hi;simpa [ax.setRow] using hh
   |cons v vs ih=>
    intro i w c hh hi
    simp only [List.length_cons] at hi
    have h2:=hh.setCell (i:=o+i) v
    have:=ih (i+1) _ _ h2 (by simp;omega)
    unfold ax.setRow
    rw [ak]
    rw [Array.toList_setIfInBounds,show o+(i+1)=o+i+1 by omega,List.take_add_one,List.take_set_of_le (by omega),List.getElem?_set_self (by simp;omega),List.drop_set_of_lt (by omega)] at this
    rw [List.length_cons,show o+i+(vs.length+1)=o+i+1+vs.length by omega]
    simpa using this
  have:=key cs.toList 0 w c hh (by rw [Array.length_toList];omega)
  refine hK _ ((this.perm (h2 _)).perm (by
   rw [hc,Nat.add_zero,←ho,List.take_left,show cs.toList.length=aL.length by simp;omega,←List.length_append,←List.append_assoc,List.drop_left,List.append_assoc]))
theorem ax.xw {n:Nat} {cs:Array Value} {K:World→Prop} [hf:cb b l c t (0,0) put] (h:Hp E w l) (hn:c.size=n) (hcs:cs.size=n) (hv: ∀v∈cs.toList,aF v=true)
  (hK: ∀w',Hp E w' (put (.cells cs t (0,0)))→K w'):ax n ⟨b,0,none⟩ cs w K:=
 ax.xm (pre:= []) (aL:=c.toList) (post:= []) h (by simp) rfl (by simpa using hn) hcs hv (by simpa using hK)
end
end Go.Vc
set_option maxRecDepth 20000
namespace Go.Vc
open Go
section
variable {E w:World} {l:List HP} {b n k o:Nat} {L r:List Value} {t:TypeId} {fr:Nat×Nat} {put:Obj→List HP}
theorem ka (hL:L.length=n):(L++r)[k+n]? =r[k]? :=by
 rw [List.getElem?_append_right (by omega)]
 congr 1;omega
theorem CH: ∀{L r:List Value} {n k:Nat} {vs:List Value},L.length=n→bN (L++r) (k+n) vs=L++bN r k vs
 | [],r,n,k,vs,h=>by
  have:n=0:=by simpa using h.symm
  subst this;rfl
 |a::L,r,n,k,vs,h=>by
  obtain ⟨m,rfl⟩: ∃m,n=m+1:=⟨L.length,by simpa using h.symm⟩
  rw [show k+(m+1)=(k+m)+1 by omega,List.cons_append,bN,CH (by simpa using h)]
  rfl
theorem aG.q {S:World→Prop} {s:Sc} {K:s.T→Prop} {x:s.T} (hS: ∀w,S w→di b ⟨L++r⟩ t fr w) (hL:L.length=n) (ho:o=k+n) (hx:r[k]? =some (s.enc x)) (hK:K x):aG (.sc s) ⟨b,o,none⟩ S K:=by
 subst ho
 exact aG.xb hS ((ka hL).trans hx) hK
theorem Ld.q {s:Sc} {K:s.T→Prop} {x:s.T} [cb b l ⟨L++r⟩ t fr put] (h:Hp E w l) (hL:L.length=n) (ho:o=k+n) (hx:r[k]? =some (s.enc x)) (hK:K x):Ld (.sc s) ⟨b,o,none⟩ w K:=
 aG.q (fun w' hw=>by rw [hw];exact h.fb) hL ho hx hK
theorem aG.p {S:World→Prop} {K:Array Value→Prop} (hS: ∀w,S w→di b ⟨L++r⟩ t fr w) (hL:L.length=n) (hK:K ⟨L⟩):aG (.arr n) ⟨b,0,none⟩ S K:=
 aG.xa (aL:=L) (post:=r) hS rfl hL hK
theorem Ld.p {K:Array Value→Prop} [cb b l ⟨L++r⟩ t fr put] (h:Hp E w l) (hL:L.length=n) (hK:K ⟨L⟩):Ld (.arr n) ⟨b,0,none⟩ w K:=
 aG.p (fun w' hw=>by rw [hw];exact h.fb) hL hK
theorem Ld.qw {m:Nat} {K:Array Value→Prop} [cb b l ⟨L++r⟩ t fr put] (h:Hp E w l) (hL:L.length=n) (hm:n+r.length=m) (hK:K ⟨L++r⟩):Ld (.arr m) ⟨b,0,none⟩ w K:=
 Ld.xw h (by simp [hL,hm]) hK
theorem aG.qw {S:World→Prop} {m:Nat} {K:Array Value→Prop} (hS: ∀w,S w→di b ⟨L++r⟩ t fr w) (hL:L.length=n) (hm:n+r.length=m) (hK:K ⟨L++r⟩):aG (.arr m) ⟨b,0,none⟩ S K:=
 aG.xw hS (by simp [hL,hm]) hK
theorem St.q {v:Value} {K:World→Prop} [cb b l ⟨L++r⟩ t (0,0) put] (h:Hp E w l) (hL:L.length=n) (ho:o=k+n) (hb:Nat.ble (k+1) r.length=true) (hv:aF v=true)
  (hK: ∀w',Hp E w' (put (.cells ⟨L++bN r k [v]⟩ t (0,0)))→K w'):St ⟨b,o,none⟩ v w K:=by
 subst ho
 have hb':=Nat.le_of_ble_eq_true hb
 refine St.xs h (Nat.ble_eq_true_of_le (by simp;omega)) hv fun w' h'=>hK w' ?_
 rw [show (⟨L++r⟩:Array Value).toList=L++r from rfl,CH hL] at h'
 exact h'
theorem ax.q {m:Nat} {cs:Array Value} {c:Array Value} {K:World→Prop} [cb b l c t (0,0) put] (h:Hp E w l) (hc:c.size=m) (hcs:cs.size=m) (hv:cs.toList.all aF=true)
  (hK: ∀w',Hp E w' (put (.cells cs t (0,0)))→K w'):ax m ⟨b,0,none⟩ cs w K:=ax.xw h hc hcs (List.all_eq_true.1 hv) hK
theorem St.g {v:Value} {K:World→Prop} [cb b l ⟨L++r⟩ t (0,0) put] (h:Hp E w l) (ho:o<L.length) (hv:aF v=true)
  (hK: ∀w',Hp E w' (put (.cells ⟨L.set o v++r⟩ t (0,0)))→K w'):St ⟨b,o,none⟩ v w K:=by
 refine St.xb h (by simp;omega) hv fun w' h'=>hK w' ?_
 have:(⟨L++r⟩:Array Value).setIfInBounds o v=⟨L.set o v++r⟩:=by
  apply Array.ext'
  rw [Array.toList_setIfInBounds,List.set_append_left _ _ ho]
 rwa [this] at h'
theorem Ld.g {s:Sc} {K:s.T→Prop} {x:s.T} [cb b l ⟨L++r⟩ t fr put] (h:Hp E w l) (hx:L[o]? =some (s.enc x)) (hK:K x):Ld (.sc s) ⟨b,o,none⟩ w K:=by
 refine Ld.xb h ?_ hK
 have:o<L.length:=by
  rcases Nat.lt_or_ge o L.length with h|h
  ·exact h
  ·rw [List.getElem?_eq_none h] at hx;cases hx
 rw [show (⟨L++r⟩:Array Value).toList=L++r from rfl,List.getElem?_append_left this,hx]
end
end Go.Vc
set_option maxRecDepth 20000
namespace Go.Vc
open Go
section
variable {P:Program} {E w:World} {l:List HP} {b o:Nat} {c:Array Value} {t:TypeId} {fr:Nat×Nat} {put:Obj→List HP}
theorem Hp.IV {F:List HP} {cs:Array Value} {fr:Nat×Nat} (h:Hp E w (af b (.cells c t fr)::F)):Hp E (w.setRow b cs) (af b (.cells cs t fr)::F):=by
 have hb:=h.aH
 refine h.setObj (o':= .cells cs t fr) ?_ rfl rfl rfl
 apply Array.ext_getElem?
 intro r
 have hlt:b<w.heap.size:=by
  rcases Nat.lt_or_ge b w.heap.size with hh|hh
  ·exact hh
  ·simp [Array.getElem?_eq_none hh] at hb
 simp only [World.setRow,Array.getElem?_modify,Array.set!_eq_setIfInBounds,Array.getElem?_setIfInBounds]
 by_cases hr:b=r
 ·subst hr
  have hv:w.heap[b]= .cells c t fr:=by simpa [hlt] using hb
  simp [hlt,hv]
 ·simp [hr]
theorem sb {dT sT ty e:TypeId} {dLen dCap:Nat} {s:Sl} {ys:List Value} {K:Int→World→Prop} [hf:cb b l c t (0,0) put] (hu:P.underlying dT=some (.slice e)) (hs:(P.info? e).map (·.size)=some 1)
  (h:Hp E w l) (hsrc:aD 1 s ys w) (hsc: ∀v∈ys,aF v=true) (hfit:o+dLen≤c.size)
  (hK: ∀w',Hp E w' (put (.cells ⟨c.toList.take o++(ys.take dLen++c.toList.drop (o+min ys.length dLen))⟩ t (0,0)))→K ((min ys.length dLen:Nat):Int) w'):
  au P (Builtin.copy_ #[dT,sT] ty ⟨[.slice (some ⟨b,o,none⟩) dLen dCap,.slice s.base s.len s.cap]⟩) kI w K:=by
 have hl:=hsrc.1
 rw [Nat.mul_one] at hl
 obtain ⟨r,h1,h2⟩:=hf.perm
 have hh:=h.perm h1
 unfold au
 by_cases h0:min ys.length dLen=0
 ·rw [show (⟨[.slice (some ⟨b,o,none⟩) dLen dCap,.slice s.base s.len s.cap]⟩:Array Value)= #[.slice (some ⟨b,o,none⟩) dLen dCap,.slice s.base s.len s.cap] from rfl,run_copy_none (P:=P) w dT sT ty e _ _ _ _ _ _ hu hs (by rw [←hl];exact h0)]
  have hk:=hK w
  rw [h0] at hk
  have e1:ys.take dLen= []:=by
   rcases Nat.eq_zero_or_pos dLen with hd|hd
   ·rw [hd];rfl
   ·have:ys= []:=List.length_eq_zero_iff.1 (by omega)
    rw [this];simp
  rw [e1,List.nil_append,Nat.add_zero,List.take_append_drop] at hk
  exact hk (hh.perm (by have:=h2 (.cells c t (0,0));simpa using this))
 ·have hpos:0<ys.length:=by omega
  obtain ⟨p,hp,_⟩:=hsrc.2 0 hpos
  rw [hp]
  have hmin:(ys.take dLen).length=Nat.min s.len dLen:=by
   rw [List.length_take,←hl,Nat.min_comm]
  have:=run_copy_row (P:=P) w dT sT ty e b o dLen dCap p s.len s.cap c t (ys.take dLen) hu hs hh.aH hmin (fun j v hv=> ?_) (by
   rw [List.length_take];omega) (fun v hv=>mB (hsc v (List.mem_of_mem_take hv)))
  ·rw [show (⟨[.slice (some ⟨b,o,none⟩) dLen dCap,.slice (some p) s.len s.cap]⟩:Array Value)= #[.slice (some ⟨b,o,none⟩) dLen dCap,.slice (some p) s.len s.cap] from rfl,this]
   have hlen:(ys.take dLen).length=min ys.length dLen:=by rw [List.length_take,Nat.min_comm]
   rw [hlen,List.append_assoc]
   exact hK _ ((hh.IV).perm (h2 _))
  ·have hj:j<(ys.take dLen).length:=by
    rcases Nat.lt_or_ge j (ys.take dLen).length with h|h
    ·exact h
    ·rw [List.getElem?_eq_none h] at hv;cases hv
   rw [List.length_take] at hj
   obtain ⟨p',hp',hc⟩:=hsrc.2 j (by omega)
   rw [hp] at hp'
   cases hp'
   rw [hc]
   rw [List.getElem?_take_of_lt (by omega),List.getElem?_eq_getElem (by omega)] at hv
   exact hv
end
end Go.Vc
namespace Go.Proofs.YtgglghjnakclmaaGreat
open Go Go.Vc
set_option maxRecDepth 100000
theorem tC.ok (a:Sl) (R:Sl→World→Prop) w (h:
 aa (Option.isNone (a).base)
 (R (⟨none,0,0⟩:Sl) w)
 (Nw 5 ⟨[]⟩ w fun c b=>
 au Pg (Builtin.append_ #[26,26] 26 ⟨[(ag (⟨some ⟨c,0,none⟩,0,0⟩:Sl)),(ag a)]⟩) kS b fun (e:Sl) d=>
 R e d)):Cl Pg [kS] jm ⟨[(ag a)]⟩ w R:=co Tryz.f204 [] h
theorem vd.ok (a:Sl) (b:Int) (R:Int→World→Prop) w (h:
 Ext Pg db ⟨[(ag a),(.int .u8 b)]⟩ [kI] w fun (d:Int) c=>
 R d c):Cl Pg [kI] mo ⟨[(ag a),(.int .u8 b)]⟩ w R:=co Tryz.f306 [] h
end Go.Proofs.YtgglghjnakclmaaGreat
namespace Go.Proofs.YtgglghjnakclmaaGreat
open Go Go.Vc
set_option maxRecDepth 100000
theorem oh.ok (a:Sl) (R:Sl→World→Prop) w (h:
 bq 0 0 w fun b c (d:Int) (e:Int) f=>
 aa (decide (e<(a.len:Int)))
 (an a e 1 fun g=>
 Ld kS g f fun (h:Sl)=>
 aa (decide ((i64 (d+(h.len:Int)))<0))
 (False)
 (b (i64 (d+(h.len:Int))) (i64 (e+1)) f∧c (i64 (d+(h.len:Int))) (i64 (e+1)) f<c d e f))
 (Cl Pg [kS] eH ⟨[(.slice none 0 0),(ni d)]⟩ f fun (k:Sl) j=>
 bq k 0 j fun l m (n:Sl) (o:Int) p=>
 aa (decide (o<(a.len:Int)))
 (an a o 1 fun q=>
 Ld kS q p fun (r:Sl)=>
 au Pg (Builtin.append_ #[26,26] 26 ⟨[(ag n),(ag r)]⟩) kS p fun (t:Sl) s=>
 l t (i64 (o+1)) s∧m t (i64 (o+1)) s<m n o p)
 (R n p))):Cl Pg [kS] dY ⟨[(ag a)]⟩ w R:=co Tryz.f200 [(7,[(3,kI),(11,kI)]),(25,[(6,kS),(27,kI)])] h
theorem p5.ok (a:Sl) (b:Int) (R:Sl→World→Prop) w (h:
 aa (decide (b<0))
 (False)
 (aa (decide ((i64 (b - (i64 ((a.cap:Int) - (a.len:Int)))))>0))
 (bj a 0 (a.cap:Int) (a).cap 1 fun d=>
 au Pg (Builtin.append_ #[26,3] 26 ⟨[(ag d),(ni (i64 (b - (i64 ((a.cap:Int) - (a.len:Int))))))]⟩) kS w fun (f:Sl) e=>
 bj f 0 (a.len:Int) (f).cap 1 fun g=>
 R g e)
 (R a w))):Cl Pg [kS] eH ⟨[(ag a),(ni b)]⟩ w R:=co Tryz.f262 [] h
theorem ky.ok (a:Sl) (b:Value) (R:World→Prop) w (h:
 Cl Pg [] dH ⟨[(ag a),(ni (a.len:Int)),b]⟩ w fun c=>
 R c):Cl Pg [] ca ⟨[(ag a),b]⟩ w R:=co Tryz.f268 [] h
theorem lN.ok (a:Sl) (b:Value) (R:Bool→World→Prop) w (h:
 Cl Pg [kI] gh ⟨[(ag a),b]⟩ w fun (d:Int) c=>
 R (decide (d≥0)) c):Cl Pg [kB] fo ⟨[(ag a),b]⟩ w R:=co Tryz.f271 [] h
theorem nP.ok (a:Sl) (R:World→Prop) w (h:
 bq 0 (i64 ((a.len:Int) - 1)) w fun b c (d:Int) (e:Int) f=>
 aa (decide (d<e))
 (aJ f fun g=>
 an a e 1 fun h=>
 Ld (ar .u8) h g fun (i:Int)=>
 an a d 1 fun j=>
 Ld (ar .u8) j g fun (k:Int)=>
 an a d 1 fun l=>
 St l (.int .u8 i) g fun m=>
 an a e 1 fun n=>
 St n (.int .u8 k) m fun o=>
 b (i64 (d+1)) (i64 (e - 1)) o∧c (i64 (d+1)) (i64 (e - 1)) o<c d e f)
 (R f)):Cl Pg [] dG ⟨[(ag a)]⟩ w R:=co Tryz.f299 [(2,[(2,kI),(3,kI)])] h
theorem nG.ok (a:Sl) (b:Int) (c:Value) (R:World→Prop) w (h:
 bq 0 20 w fun d e (f:Int) (g:Int) h=>
 aa (decide (g≤b))
 (Cl Pg [] bR ⟨[(ag a),(ni f),(ni g),c]⟩ h fun i=>
 d g (i64 (g+20)) i∧e g (i64 (g+20)) i<e f g h)
 (Cl Pg [] bR ⟨[(ag a),(ni f),(ni b),c]⟩ h fun j=>
 c8 20 j fun k l (m:Int) n=>
 aa (decide (m<b))
 (bq 0 (i64 ((2:Int)*m)) n fun o p (q:Int) (r:Int) s=>
 aa (decide (r≤b))
 (Cl Pg [] aW ⟨[(ag a),(ni q),(ni (i64 (q+m))),(ni r),c]⟩ s fun t=>
 o r (i64 (r+(i64 ((2:Int)*m)))) t∧p r (i64 (r+(i64 ((2:Int)*m)))) t<p q r s)
 (aa (decide ((i64 (q+m))<b))
 (Cl Pg [] aW ⟨[(ag a),(ni q),(ni (i64 (q+m))),(ni b),c]⟩ s fun u=>
 k (i64 (m*2)) u∧l (i64 (m*2)) u<l m n)
 (k (i64 (m*2)) s∧l (i64 (m*2)) s<l m n)))
 (R n))):Cl Pg [] dH ⟨[(ag a),(ni b),c]⟩ w R:=co Tryz.f308 [(5,[(7,kI),(8,kI)]),(16,[(6,kI)]),(23,[(7,kI),(8,kI)])] h
theorem ob.ok (a:Sl) (b:Value) (R:Int→World→Prop) w (h:
 c8 0 w fun c d (e:Int) f=>
 aa (decide (e<(a.len:Int)))
 (an a e 1 fun g=>
 Ld kI g f fun (h:Int)=>
 de Pg b [kB] [(ni h)] f fun (j:Bool) i=>
 aa j
 (R e i)
 (c (i64 (e+1)) i∧d (i64 (e+1)) i<d e f))
 (R (-1) f)):Cl Pg [kI] gh ⟨[(ag a),b]⟩ w R:=co Tryz.f310 [(5,[(8,kI)])] h
theorem jT.ok (a:Sl) (b:Int) (c:Int) (d:Value) (R:World→Prop) w (h:
 c8 (i64 (b+1)) w fun e f (g:Int) h=>
 aa (decide (g<c))
 (c8 g h fun i j (k:Int) l=>
 aJ l fun m=>
 aa (decide (k>b))
 (an a k 1 fun n=>
 Ld kI n m fun (o:Int)=>
 an a (i64 (k - 1)) 1 fun p=>
 Ld kI p m fun (q:Int)=>
 de Pg d [kI] [(ni o),(ni q)] m fun (s:Int) r=>
 aa (decide (s<0))
 (aJ r fun t=>
 an a (i64 (k - 1)) 1 fun u=>
 Ld kI u t fun (v:Int)=>
 an a k 1 fun x=>
 Ld kI x t fun (y:Int)=>
 an a k 1 fun z=>
 St z (ni v) t fun a1=>
 an a (i64 (k - 1)) 1 fun b1=>
 St b1 (ni y) a1 fun c1=>
 i (i64 (k - 1)) c1∧j (i64 (k - 1)) c1<j k l)
 (e (i64 (g+1)) r∧f (i64 (g+1)) r<f g h))
 (e (i64 (g+1)) m∧f (i64 (g+1)) m<f g h))
 (R h)):Cl Pg [] bR ⟨[(ag a),(ni b),(ni c),d]⟩ w R:=co Tryz.f325 [(2,[(8,kI)]),(9,[(9,kI)])] h
theorem l0.ok (a:Sl) (b:Int) (c:Int) (d:Int) (e:Value) (R:World→Prop) w (h:
 aa ((i64 (c - b))==1)
 (bq c d w fun f g (h:Int) (i:Int) j=>
 aa (decide (h<i))
 (0≤(1:Int)∧
 aJ j fun k=>
 an a (i64 (aO .u64 (u64 (i64 (h+i))) (1:Int))) 1 fun l=>
 Ld kI l k fun (m:Int)=>
 an a b 1 fun n=>
 Ld kI n k fun (o:Int)=>
 de Pg e [kI] [(ni m),(ni o)] k fun (q:Int) p=>
 aa (decide (q<0))
 (f (i64 ((i64 (aO .u64 (u64 (i64 (h+i))) (1:Int)))+1)) i p∧g (i64 ((i64 (aO .u64 (u64 (i64 (h+i))) (1:Int)))+1)) i p<g h i j)
 (f h (i64 (aO .u64 (u64 (i64 (h+i))) (1:Int))) p∧g h (i64 (aO .u64 (u64 (i64 (h+i))) (1:Int))) p<g h i j))
 (c8 b j fun r s (t:Int) u=>
 aa (decide (t<(i64 (h - 1))))
 (aJ u fun v=>
 an a (i64 (t+1)) 1 fun x=>
 Ld kI x v fun (y:Int)=>
 an a t 1 fun z=>
 Ld kI z v fun (a1:Int)=>
 an a t 1 fun b1=>
 St b1 (ni y) v fun c1=>
 an a (i64 (t+1)) 1 fun d1=>
 St d1 (ni a1) c1 fun e1=>
 r (i64 (t+1)) e1∧s (i64 (t+1)) e1<s t u)
 (R u)))
 (aa ((i64 (d - c))==1)
 (bq b c w fun f1 g1 (h1:Int) (i1:Int) j1=>
 aa (decide (h1<i1))
 (0≤(1:Int)∧
 aJ j1 fun k1=>
 an a c 1 fun l1=>
 Ld kI l1 k1 fun (m1:Int)=>
 an a (i64 (aO .u64 (u64 (i64 (h1+i1))) (1:Int))) 1 fun n1=>
 Ld kI n1 k1 fun (o1:Int)=>
 de Pg e [kI] [(ni m1),(ni o1)] k1 fun (q1:Int) p1=>
 aa (!(decide (q1<0)))
 (f1 (i64 ((i64 (aO .u64 (u64 (i64 (h1+i1))) (1:Int)))+1)) i1 p1∧g1 (i64 ((i64 (aO .u64 (u64 (i64 (h1+i1))) (1:Int)))+1)) i1 p1<g1 h1 i1 j1)
 (f1 h1 (i64 (aO .u64 (u64 (i64 (h1+i1))) (1:Int))) p1∧g1 h1 (i64 (aO .u64 (u64 (i64 (h1+i1))) (1:Int))) p1<g1 h1 i1 j1))
 (c8 c j1 fun r1 s1 (t1:Int) u1=>
 aa (decide (t1>h1))
 (aJ u1 fun v1=>
 an a (i64 (t1 - 1)) 1 fun x1=>
 Ld kI x1 v1 fun (y1:Int)=>
 an a t1 1 fun z1=>
 Ld kI z1 v1 fun (a2:Int)=>
 an a t1 1 fun b2=>
 St b2 (ni y1) v1 fun c2=>
 an a (i64 (t1 - 1)) 1 fun d2=>
 St d2 (ni a2) c2 fun e2=>
 r1 (i64 (t1 - 1)) e2∧s1 (i64 (t1 - 1)) e2<s1 t1 u1)
 (R u1)))
 (0≤(1:Int)∧
 a7 (fun (g2:Int) (h2:Int) (i2:World)=>
 bq g2 h2 i2 fun j2 k2 (l2:Int) (m2:Int) n2=>
 aa (decide (l2<m2))
 (0≤(1:Int)∧
 aJ n2 fun o2=>
 an a (i64 ((i64 ((i64 ((i64 (aO .u64 (u64 (i64 (b+d))) (1:Int)))+c)) - 1)) - (i64 (aO .u64 (u64 (i64 (l2+m2))) (1:Int))))) 1 fun p2=>
 Ld kI p2 o2 fun (q2:Int)=>
 an a (i64 (aO .u64 (u64 (i64 (l2+m2))) (1:Int))) 1 fun r2=>
 Ld kI r2 o2 fun (s2:Int)=>
 de Pg e [kI] [(ni q2),(ni s2)] o2 fun (u2:Int) t2=>
 aa (!(decide (u2<0)))
 (j2 (i64 ((i64 (aO .u64 (u64 (i64 (l2+m2))) (1:Int)))+1)) m2 t2∧k2 (i64 ((i64 (aO .u64 (u64 (i64 (l2+m2))) (1:Int)))+1)) m2 t2<k2 l2 m2 n2)
 (j2 l2 (i64 (aO .u64 (u64 (i64 (l2+m2))) (1:Int))) t2∧k2 l2 (i64 (aO .u64 (u64 (i64 (l2+m2))) (1:Int))) t2<k2 l2 m2 n2))
 (a7 (fun (y2:World)=>
 aa (decide (b<l2))
 (aa (decide (l2<(i64 (aO .u64 (u64 (i64 (b+d))) (1:Int)))))
 (Cl Pg [] aW ⟨[(ag a),(ni b),(ni l2),(ni (i64 (aO .u64 (u64 (i64 (b+d))) (1:Int)))),e]⟩ y2 fun z2=>
 aa (decide ((i64 (aO .u64 (u64 (i64 (b+d))) (1:Int)))<(i64 ((i64 ((i64 (aO .u64 (u64 (i64 (b+d))) (1:Int)))+c)) - l2))))
 (aa (decide ((i64 ((i64 ((i64 (aO .u64 (u64 (i64 (b+d))) (1:Int)))+c)) - l2))<d))
 (Cl Pg [] aW ⟨[(ag a),(ni (i64 (aO .u64 (u64 (i64 (b+d))) (1:Int)))),(ni (i64 ((i64 ((i64 (aO .u64 (u64 (i64 (b+d))) (1:Int)))+c)) - l2))),(ni d),e]⟩ z2 fun a3=>
 R a3)
 (R z2))
 (R z2))
 (aa (decide ((i64 (aO .u64 (u64 (i64 (b+d))) (1:Int)))<(i64 ((i64 ((i64 (aO .u64 (u64 (i64 (b+d))) (1:Int)))+c)) - l2))))
 (aa (decide ((i64 ((i64 ((i64 (aO .u64 (u64 (i64 (b+d))) (1:Int)))+c)) - l2))<d))
 (Cl Pg [] aW ⟨[(ag a),(ni (i64 (aO .u64 (u64 (i64 (b+d))) (1:Int)))),(ni (i64 ((i64 ((i64 (aO .u64 (u64 (i64 (b+d))) (1:Int)))+c)) - l2))),(ni d),e]⟩ y2 fun b3=>
 R b3)
 (R y2))
 (R y2)))
 (aa (decide ((i64 (aO .u64 (u64 (i64 (b+d))) (1:Int)))<(i64 ((i64 ((i64 (aO .u64 (u64 (i64 (b+d))) (1:Int)))+c)) - l2))))
 (aa (decide ((i64 ((i64 ((i64 (aO .u64 (u64 (i64 (b+d))) (1:Int)))+c)) - l2))<d))
 (Cl Pg [] aW ⟨[(ag a),(ni (i64 (aO .u64 (u64 (i64 (b+d))) (1:Int)))),(ni (i64 ((i64 ((i64 (aO .u64 (u64 (i64 (b+d))) (1:Int)))+c)) - l2))),(ni d),e]⟩ y2 fun c3=>
 R c3)
 (R y2))
 (R y2))) fun v2=>
 aa (decide (l2<c))
 (aa (decide (c<(i64 ((i64 ((i64 (aO .u64 (u64 (i64 (b+d))) (1:Int)))+c)) - l2))))
 (Cl Pg [] dM ⟨[(ag a),(ni l2),(ni c),(ni (i64 ((i64 ((i64 (aO .u64 (u64 (i64 (b+d))) (1:Int)))+c)) - l2))),e]⟩ n2 fun x2=>
 v2 x2)
 (v2 n2))
 (v2 n2))) fun f2=>
 aa (decide (c>(i64 (aO .u64 (u64 (i64 (b+d))) (1:Int)))))
 (f2 (i64 ((i64 ((i64 (aO .u64 (u64 (i64 (b+d))) (1:Int)))+c)) - d)) (i64 (aO .u64 (u64 (i64 (b+d))) (1:Int))) w)
 (f2 b c w)))):Cl Pg [] aW ⟨[(ag a),(ni b),(ni c),(ni d),e]⟩ w R:=co Tryz.f326 [(8,[(10,kI),(11,kI)]),(21,[(13,kI)]),(36,[(14,kI),(15,kI)]),(49,[(17,kI)]),(62,[(20,kI),(21,kI)]),(74,[(20,kI),(21,kI)]),(86,[])] h
theorem nH.ok (a:Sl) (b:Int) (c:Int) (d:Int) (e:Value) (R:World→Prop) w (h:
 bq (i64 (c - b)) (i64 (d - c)) w fun f g (h:Int) (i:Int) j=>
 aa (h !=i)
 (aa (decide (h>i))
 (Cl Pg [] bF ⟨[(ag a),(ni (i64 (c - h))),(ni c),(ni i),e]⟩ j fun k=>
 f (i64 (h - i)) i k∧g (i64 (h - i)) i k<g h i j)
 (Cl Pg [] bF ⟨[(ag a),(ni (i64 (c - h))),(ni (i64 ((i64 (c+i)) - h))),(ni h),e]⟩ j fun l=>
 f h (i64 (i - h)) l∧g h (i64 (i - h)) l<g h i j))
 (Cl Pg [] bF ⟨[(ag a),(ni (i64 (c - h))),(ni c),(ni h),e]⟩ j fun m=>
 R m)):Cl Pg [] dM ⟨[(ag a),(ni b),(ni c),(ni d),e]⟩ w R:=co Tryz.f332 [(5,[(10,kI),(11,kI)])] h
theorem lQ.ok (a:Sl) (b:Int) (c:Int) (d:Int) (e:Value) (R:World→Prop) w (h:
 c8 0 w fun f g (h:Int) i=>
 aa (decide (h<d))
 (aJ i fun j=>
 an a (i64 (c+h)) 1 fun k=>
 Ld kI k j fun (l:Int)=>
 an a (i64 (b+h)) 1 fun m=>
 Ld kI m j fun (n:Int)=>
 an a (i64 (b+h)) 1 fun o=>
 St o (ni l) j fun p=>
 an a (i64 (c+h)) 1 fun q=>
 St q (ni n) p fun r=>
 f (i64 (h+1)) r∧g (i64 (h+1)) r<g h i)
 (R i)):Cl Pg [] bF ⟨[(ag a),(ni b),(ni c),(ni d),e]⟩ w R:=co Tryz.f333 [(2,[(10,kI)])] h
end Go.Proofs.YtgglghjnakclmaaGreat
set_option maxRecDepth 20000
namespace Go.Vc
open Go
section
variable {E w:World} {F:List HP}
theorem BN {P:Program} {t tx ty e:TypeId} {bytes n:Nat} {k:IntKind} {K:Sl→World→Prop} (he:bP P t e 1 bytes) (hx:P.underlying tx=some (.int k)) (h:Hp E w F) (hn:0<n) (hb:(2*n+1024)*bytes≤2^48) (hb2:n<2^62)
  (hK: ∀b c w',n≤c→Hp E w' (al 1 ⟨some ⟨b,0,none⟩,0,c⟩ []::F)→K ⟨some ⟨b,0,none⟩,n,c⟩ w'):au P (Builtin.append_ #[t,tx] ty ⟨[.slice none 0 0,.int .i64 (n:Int)]⟩) kS w K:=by
 obtain ⟨it,z,hi,hsz,hby,hze,hzs⟩:=he.info
 have hso: ∀w:World,(sizeOf e).run P w= .ok 1 w:=by intro w;rw [cg hi,hsz]
 have hwr:IntKind.i64.wrap (n:Int)=(n:Int):=ae (by omega)
 have hti: ∀w:World,(typeInfo e).run P w= .ok it w:=by intro w;simp [typeInfo,hi]
 have hz': ∀w:World,(zeroValue e).run P w= .ok z w:=by intro w;simp [zeroValue,typeInfo,hi,hze]
 have hnb:n*bytes≤2^48:=by
  have:n*bytes≤(2*n+1024)*bytes:=Nat.mul_le_mul_right _ (by omega)
  omega
 have h1: ¬((n:Int)*(it.bytes:Int)>2^48):=by rw [hby];exact_mod_cast Nat.not_lt.2 hnb
 have hnext: ¬Builtin.nextslicecap n 0*it.bytes>2^48:=by
  have:=wH (n:=n) (c:=0) (by omega)
  have h2:Builtin.nextslicecap n 0*it.bytes≤(2*n+1024)*bytes:=by rw [hby];exact Nat.mul_le_mul_right _ this
  omega
 have hmax: ¬((n:Nat):Int)>IntKind.i64.max:=by
  have:IntKind.i64.max=9223372036854775807:=rfl
  rw [this];omega
 have hfo:Question.forced (.appendCap n 0 e)=false:=rfl
 generalize hq:Question.cut (.appendCap n 0 e) (w.tape w.drawn (.appendCap n 0 e))=newCap
 have hnc:n≤newCap:=by rw [←hq];exact Nat.le_add_right _ _
 have hD:Hp E w.drew F:=h.drew (n:=w.drawn+1)
 have hA:=hD.alloc (.cells (#[]++Builtin.zeroCells z.cells n++Builtin.zeroCells z.cells (newCap - n)) e)
 have hrun:(Builtin.append_ #[t,tx] ty ⟨[.slice none 0 0,.int .i64 (n:Int)]⟩).run P w= .ok (.slice (some ⟨w.heap.size,0,none⟩) n newCap) (w.drew.alloc (.cells (#[]++Builtin.zeroCells z.cells n++Builtin.zeroCells z.cells (newCap - n)) e)):=by
  have hneg: ¬((n:Int)<0):=by omega
  have hn0: ¬(n=0):=by omega
  have hmax': ¬(9223372036854775807<(n:Int)):=by omega
  have h1': ¬(281474976710656<(n:Int)*(it.bytes:Int)):=by simpa using h1
  have hnext': ¬(281474976710656<Builtin.nextslicecap n 0*it.bytes):=by simpa using hnext
  have hai: ∀w:World,(asIntOf (Value.int .i64 (n:Int))).run P w= .ok (.i64,(n:Int)) w:=fun _=>rfl
  simp [Builtin.append_,run_underlying he.und,hso,run_underlying hx,asInt,hai,hwr,hneg,hti,h1',hn0,hmax',hnext',hfo,hq,hz',newRow,Builtin.firstCells]
 unfold au
 rw [hrun]
 refine hK _ _ _ hnc (Hp.k9 hA (by simp) rfl (Nat.zero_le _) ?_ (fun i hi=>by simp at hi))
 simp [kN,hzs]
 omega
end
end Go.Vc
namespace Go.Proofs.YtgglghjnakclmaaGreat
open Go Go.Vc
section
variable {E w:World} {F:List HP}
theorem me:bP Tryz.prog 26 5 1 1:=bP.of (by kernel_rfl) (by kernel_rfl)
theorem JH {s:Sl} {bs:List Nat} {K:Sl→World→Prop} (h:Hp E w F) (hs:ad F (aD 1 s (bs.map vB))) (hb:bs.length≤2*bO) (hK: ∀s' w',Hp E w' (al 1 s' (bs.map vB)::F)→K s' w'):
  Cl Tryz.prog [kS] jm ⟨[.slice s.base s.len s.cap]⟩ w K:=by
 refine tC.ok _ _ _ ?_
 have hl:bs.length=s.len:=by have:=(h.ah hs).1;simpa using this
 rw [aC] at hb
 cases hsb:s.base with
 |none=>
  have:bs= []:=by
   cases bs with
   |nil=>rfl
   |cons x bs=>
    obtain ⟨p,hp,_⟩:=(h.ah hs).2 0 (by simp)
    rw [hsb] at hp;cases hp
  subst this
  exact aa.t rfl (hK _ _ (h.a9 1))
 |some p=>
  refine aa.f rfl (Nw.mk h fun b w h=> ?_)
  have h2:=Hp.fz (n:=0) (sz:=1) h (by simp)
  have hsrc:Src 1 s.len (.slice s.base s.len s.cap) (bs.map vB) w:= .inl ⟨s.base,s.len,s.cap,rfl,rfl,h2.drop.ah hs⟩
  refine aK (s:=⟨some ⟨b,0,none⟩,0,0⟩) me (by decide) (.inl ⟨5,by kernel_rfl⟩) h2 hsrc (by simp [hl]) ee (by simp only;omega) (by simp only;omega) fun s' w' h3 _=>hK s' w' ?_
  simpa using h3
theorem D5 {n:Nat} {K:Sl→World→Prop} (h:Hp E w F) (hn:n≤4*bO) (hK: ∀s' w',s'.len=0→Hp E w' (al 1 s' []::F)→K s' w'):
  Cl Tryz.prog [kS] eH ⟨[.slice none 0 0,.int .i64 (n:Int)]⟩ w K:=by
 rw [aC] at hn
 refine p5.ok ⟨none,0,0⟩ _ _ _ ?_
 refine aa.df (by omega) ?_
 dsimp only
 rw [ae (x:=((0:Nat):Int) - ((0:Nat):Int)) (by omega),ae (by omega)]
 by_cases h0:n=0
 ·subst h0
  exact aa.df (by omega) (hK _ _ rfl (h.a9 1))
 ·refine aa.dt (by omega) ⟨by decide,by decide,by decide,by decide,?_⟩
  show au _ (Builtin.append_ #[26,3] 26 ⟨[.slice none 0 0,.int .i64 ((n:Int) - (((0:Nat):Int) - ((0:Nat):Int)))]⟩) kS w _
  have e:((n:Int) - (((0:Nat):Int) - ((0:Nat):Int)))=(n:Int):=by omega
  rw [e]
  refine BN me (k:= .i64) (by kernel_rfl) h (by omega) (by omega) (by omega) fun b c w' hc h=> ?_
  refine ⟨by decide,by decide,by omega,by simp,?_⟩
  have hne: ¬(((c:Int)).toNat=(0:Int).toNat):=by simp;omega
  rw [if_neg hne]
  have hk:=hK ⟨some ⟨b,0,none⟩,0,c⟩ w' rfl h
  simpa [ak] using hk
theorem Gu {s:Sl} {cs:List Sl} {bs:List (List Nat)} {K:Sl→World→Prop} (h:Hp E w F)
  (hs:ad F (aD 1 s (cs.map fun x=> .slice x.base x.len x.cap))) (hl:cs.length=bs.length) (hcl:cs.length≤bO) (hc: ∀i (h:i<cs.length),ad F (aD 1 cs[i] ((bs.getD i []).map vB)))
  (hbig:bs.flatten.length≤bO) (hK: ∀s' w',Hp E w' (al 1 s' (bs.flatten.map vB)::F)→K s' w'):Cl Tryz.prog [kS] dY ⟨[.slice s.base s.len s.cap]⟩ w K:=by
 refine oh.ok _ _ _ ?_
 have hlen:s.len=cs.length:=by have:=(h.ah hs).1;simpa using this.symm
 rw [aC] at hcl hbig
 have hpart: ∀k,k≤bs.length→(bs.take k).flatten.length≤bs.flatten.length:=fun k _=>by
  conv=>rhs;rw [←List.take_append_drop k bs,List.flatten_append,List.length_append]
  omega
 have hnext: ∀k,k<bs.length→(bs.take (k+1)).flatten=(bs.take k).flatten++bs.getD k []:=fun k hk=>by
  rw [List.take_add_one,List.flatten_append]
  congr 1
  simp [hk]
 refine ⟨fun x i w'=> ∃k:Nat,i=(k:Int)∧k≤cs.length∧x=((bs.take k).flatten.length:Int)∧Hp E w' F,fun _ i _=>cs.length - i.toNat,⟨0,rfl,by omega,rfl,h⟩,?_⟩
 rintro x i w ⟨k,rfl,hk,rfl,h⟩
 refine aa.dm (fun hlt=> ?_) (fun hge=> ?_)
 ·have hlt:k<cs.length:=by omega
  have hkb:k<bs.length:=by omega
  refine an.rd (h.ah hs) (by omega) (by omega) fun q hi hq=> ?_
  refine Ld.sc (s:= .sl) cs[k] (by rw [hq];simp [Sc.enc,hlt]) ?_
  have hx:(bs.getD k []).length=cs[k].len:=by have:=(h.ah (hc k hlt)).1;simpa using this
  have h1:=hpart (k+1) (by omega)
  rw [hnext k hkb,List.length_append,hx] at h1
  rw [ae (by omega)]
  refine aa.df (by omega) ?_
  rw [ae (by omega)]
  refine ⟨⟨k+1,rfl,by omega,?_,h⟩,by first|omega|(dsimp only;omega)⟩
  rw [hnext k hkb,List.length_append,hx];omega
 ·have hk2:k=cs.length:=by omega
  subst hk2
  have e:bs.take cs.length=bs:=List.take_of_length_le (by omega)
  rw [e]
  refine D5 h (by rw [aC];omega) fun s' w h0 h=> ?_
  refine ⟨fun x i w'=> ∃k:Nat,i=(k:Int)∧k≤cs.length∧Hp E w' (al 1 x ((bs.take k).flatten.map vB)::F),fun _ i _=>cs.length - i.toNat,⟨0,rfl,by omega,h⟩,?_⟩
  rintro x i w ⟨k,rfl,hk,h⟩
  refine aa.dm (fun hlt=> ?_) (fun hge=> ?_)
  ·have hlt:k<cs.length:=by omega
   have hkb:k<bs.length:=by omega
   refine an.rd (h.drop.ah hs) (by omega) (by omega) fun q hi hq=> ?_
   refine Ld.sc (s:= .sl) cs[k] (by rw [hq];simp [Sc.enc,hlt]) ?_
   have hx:(bs.getD k []).length=cs[k].len:=by have:=(h.drop.ah (hc k hlt)).1;simpa using this
   have h1:=hpart (k+1) (by omega)
   rw [hnext k hkb,List.length_append,hx] at h1
   have hol:=h.aV
   rw [List.length_map,Nat.mul_one] at hol
   refine aK me (by decide) (.inl ⟨5,by kernel_rfl⟩) h (.inl ⟨cs[k].base,cs[k].len,cs[k].cap,rfl,rfl,h.drop.ah (hc k hlt)⟩) (by rw [List.length_map,hx,Nat.mul_one]) ee (by omega) (by omega) fun s' w' h _=> ?_
   rw [ae (by omega)]
   refine ⟨⟨k+1,rfl,by omega,?_⟩,by first|omega|(dsimp only;omega)⟩
   rw [hnext k hkb,List.map_append];exact h
  ·have hk3:k=cs.length:=by omega
   subst hk3
   rw [e] at h
   exact hK _ _ h
end
end Go.Proofs.YtgglghjnakclmaaGreat
set_option maxRecDepth 20000
namespace Go.Vc
open Go
section
variable {E w:World} {F A:List HP}
theorem Hp.put {b:Nat} {o:Obj} (h:Hp E w (af b o::F)) (o':Obj):Hp E (w.putObj b o') (af b o'::F):=h.setObj rfl rfl rfl rfl
def Dm:HP:=fun _=>False
theorem Hp.Gy {B:HP} (h:Hp E w (B::Dm::F)):False:=by
 obtain ⟨f,_,g,k,_,_,_,g2,k2,_,_,h2,_⟩:=h.frag
 exact h2
def Cv (P:Program) (E:World) (yv:Value) (n:Nat) (vs:Nat→List Value) (C G:Nat→List HP):Prop:=
 ∀i,i<n→∀(A:List HP) (w:World) (K:Bool→World→Prop),Hp E w (C i++A)→(∀w',Hp E w' (C (i+1)++A)→K true w')→(∀w',Hp E w' (G i++A)→K false w')→lD P yv [kB] (vs i) w K
def Iter (P:Program) (E:World) (v:Value) (n:Nat) (vs:Nat→List Value) (A:List HP):Prop:=
 ∀(yv:Value) (C G:Nat→List HP) (w:World) (K:World→Prop),Cv P E yv n vs C G→Hp E w (C 0++A)→(∀w',Hp E w' (C n++A)→K w')→(∀i w',i<n→Hp E w' (G i++A)→K w')→rh P v [] [yv] w K
theorem gm.gen {P:Program} {v:Value} {ks:List Ki} {B:Nat→(Nat→Obj)→eC ks (World→(World→Prop)→(World→Prop)→Prop)} {K Kr:Nat→World→Prop} {n:Nat} {vs:Nat→List Value} (C G:Nat→List HP)
  (hh:Hp E w (C 0++A)) (hit:Iter P E v n vs A)
  (hbody: ∀l rec (T:List Value→(World→(World→Prop)→(World→Prop)→Prop)→Prop),A6 ks (B l rec) T→∀i,i<n→∃b,T (vs i) b∧∀(A:List HP) (w:World) (Kt Kf:World→Prop),Hp E w (af l (rec 0)::(C i++A))→
   (∀w',Hp E w' (af l (rec 0)::(C (i+1)++A))→Kt w')→(∀w',Hp E w' (af l (rec 2)::(G i++A))→Kf w')→b w Kt Kf)
  (hK: ∀D w',Hp E w' (af D (.deferred (some []))::(C n++A))→K D w') (hKr: ∀i D w',i<n→Hp E w' (af D (.deferred (some []))::(G i++A))→Kr D w'):gm P v ks w B K Kr:=by
 intro rec yv hy
 have h1:=hh.alloc (.deferred (some []))
 have h2:=h1.alloc (rec 0)
 have hs:(w.alloc (.deferred (some []))).heap.size=w.heap.size+1:=by show (w.heap.push _).size=_;simp
 rw [hs] at h2
 refine hit yv (fun i=>af (w.heap.size+1) (rec 0)::af w.heap.size (.deferred (some []))::C i) (fun i=>af (w.heap.size+1) (rec 2)::af w.heap.size (.deferred (some []))::G i) _ _ ?_ h2 ?_ ?_
 ·intro i hi A w2 R h hKt hKf
  obtain ⟨b,hb,h3⟩:=hbody (w.heap.size+1) rec _ (hy R w2) i hi
  refine hb h.aH (h3 (af w.heap.size (.deferred (some []))::A) w2 _ _ (h.perm (.cons _ List.perm_middle.symm)) (fun w' h'=>hKt w' (h'.perm (.cons _ List.perm_middle))) (fun w' h'=>hKf w' (h'.perm (.cons _ List.perm_middle))))
 ·intro w' h
  have h:Hp E w' (af (w.heap.size+1) (rec 0)::af w.heap.size (.deferred (some []))::(C n++A)):=h
  exact .inl ⟨h.aH,hK _ _ (h.put (rec 3)).drop⟩
 ·intro i w' hi h
  have h:Hp E w' (af (w.heap.size+1) (rec 2)::af w.heap.size (.deferred (some []))::(G i++A)):=h
  exact .inr ⟨h.aH,hKr i _ _ hi (h.put (rec 4)).drop⟩
theorem gm.r9 {P:Program} {v:Value} {k:Ki} {B:Nat→(Nat→Obj)→k.T→World→(World→Prop)→(World→Prop)→Prop} {K Kr:Nat→World→Prop} {n:Nat} {x:Nat→k.T} (C G:Nat→List HP)
  (hh:Hp E w (C 0++A)) (hit:Iter P E v n (fun i=> [k.enc (x i)]) A)
  (hbody: ∀l rec i (A:List HP) (w:World) (Kt Kf:World→Prop),i<n→Hp E w (af l (rec 0)::(C i++A))→
   (∀w',Hp E w' (af l (rec 0)::(C (i+1)++A))→Kt w')→(∀w',Hp E w' (af l (rec 2)::(G i++A))→Kf w')→B l rec (x i) w Kt Kf)
  (hK: ∀D w',Hp E w' (af D (.deferred (some []))::(C n++A))→K D w') (hKr: ∀i D w',i<n→Hp E w' (af D (.deferred (some []))::(G i++A))→Kr D w'):gm P v [k] w B K Kr:=
 gm.gen (ks:= [k]) C G hh hit (fun l rec _ hT i hi=>⟨_,hT (x i),fun A w Kt Kf=>hbody l rec i A w Kt Kf hi⟩) hK hKr
theorem gm.Gf {P:Program} {v:Value} {k k':Ki} {B:Nat→(Nat→Obj)→k.T→k'.T→World→(World→Prop)→(World→Prop)→Prop} {K Kr:Nat→World→Prop} {n:Nat} {x:Nat→k.T} {y:Nat→k'.T} (C G:Nat→List HP)
  (hh:Hp E w (C 0++A)) (hit:Iter P E v n (fun i=> [k.enc (x i),k'.enc (y i)]) A)
  (hbody: ∀l rec i (A:List HP) (w:World) (Kt Kf:World→Prop),i<n→Hp E w (af l (rec 0)::(C i++A))→
   (∀w',Hp E w' (af l (rec 0)::(C (i+1)++A))→Kt w')→(∀w',Hp E w' (af l (rec 2)::(G i++A))→Kf w')→B l rec (x i) (y i) w Kt Kf)
  (hK: ∀D w',Hp E w' (af D (.deferred (some []))::(C n++A))→K D w') (hKr: ∀i D w',i<n→Hp E w' (af D (.deferred (some []))::(G i++A))→Kr D w'):gm P v [k,k'] w B K Kr:=
 gm.gen (ks:= [k,k']) C G hh hit (fun l rec _ hT i hi=>⟨_,hT (x i) (y i),fun A w Kt Kf=>hbody l rec i A w Kt Kf hi⟩) hK hKr
theorem wx.mk {l:Nat} {rec:Nat→Obj} {K:World→Prop} (h:Hp E w (af l (rec 0)::F)) (hK: ∀w',Hp E w' (af l (rec 1)::F)→K w'):wx l rec w K:=⟨h.aH,hK _ (h.put _)⟩
theorem qN.mk {l:Nat} {rec:Nat→Obj} {K:World→Prop} (h:Hp E w (af l (rec 1)::F)) (hK: ∀w',Hp E w' (af l (rec 0)::F)→K w'):qN l rec w K:=⟨h.aH,hK _ (h.put _)⟩
theorem GH.mk {l:Nat} {rec:Nat→Obj} {K:World→Prop} (h:Hp E w (af l (rec 1)::F)) (hK: ∀w',Hp E w' (af l (rec 2)::F)→K w'):GH l rec w K:=⟨h.aH,hK _ (h.put _)⟩
theorem lV.r9 {D:Nat} {K:World→Prop} (h:Hp E w (af D (.deferred (some []))::F)) (hK: ∀w',Hp E w' F→K w'):lV [D] w K:=⟨h.aH,hK _ (h.put _).drop⟩
theorem lV.mk: ∀{ms:List Nat} {w:World} {K:World→Prop},Hp E w (ms.map (fun D=>af D (.deferred (some [])))++F)→(∀w',Hp E w' F→K w')→lV ms w K
 | [],_,_,h,hK=>hK _ h
 |D::ms,w,K,h,hK=>by
  have h:Hp E w (af D (.deferred (some []))::(ms.map (fun D=>af D (.deferred (some [])))++F)):=h
  exact ⟨h.aH,lV.mk (ms:=ms) (h.put _).drop hK⟩
end
end Go.Vc
set_option maxRecDepth 20000
namespace Go.Vc
open Go
section
variable {E w:World} {F A:List HP}
def vO (P:Program) (E:World) (v:Value) (n:Nat) (vs:Nat→List Value) (A:List HP) (Φ:World→Prop):Prop:=
 ∀(yv:Value) (C G:Nat→List HP) (w:World) (K:World→Prop),(∀i,ad (C i) Φ)→Cv P E yv n vs C G→Hp E w (A++C 0)→(∀w',Hp E w' (C n)→K w')→(∀i w',i<n→Hp E w' (G i)→K w')→rh P v [] [yv] w K
theorem gm.Ku {P:Program} {v:Value} {ks:List Ki} {Y:Nat→(Nat→Obj)→eC ks (World→(World→Prop)→(World→Prop)→Prop)} {K Kr:Nat→World→Prop} {n:Nat} {vs:Nat→List Value} {Φ:World→Prop} (C G:Nat→List HP)
  (hh:Hp E w (A++C 0)) (hΦ: ∀i,ad (C i) Φ) (hit:vO P E v n vs A Φ)
  (hbody: ∀l rec (T:List Value→(World→(World→Prop)→(World→Prop)→Prop)→Prop),A6 ks (Y l rec) T→∀i,i<n→∃b,T (vs i) b∧∀(A:List HP) (w:World) (Kt Kf:World→Prop),Hp E w (af l (rec 0)::(C i++A))→
   (∀w',Hp E w' (af l (rec 0)::(C (i+1)++A))→Kt w')→(∀w',Hp E w' (af l (rec 2)::(G i++A))→Kf w')→b w Kt Kf)
  (hK: ∀D w',Hp E w' (af D (.deferred (some []))::C n)→K D w') (hKr: ∀i D w',i<n→Hp E w' (af D (.deferred (some []))::G i)→Kr D w'):gm P v ks w Y K Kr:=by
 intro rec yv hy
 have h1:=hh.alloc (.deferred (some []))
 have h2:=h1.alloc (rec 0)
 have hs:(w.alloc (.deferred (some []))).heap.size=w.heap.size+1:=by show (w.heap.push _).size=_;simp
 rw [hs] at h2
 refine hit yv (fun i=>af (w.heap.size+1) (rec 0)::af w.heap.size (.deferred (some []))::C i) (fun i=>af (w.heap.size+1) (rec 2)::af w.heap.size (.deferred (some []))::G i) _ _ (fun i=>(hΦ i).cons.cons) ?_ ?_ ?_ ?_
 ·intro i hi A w2 R h hKt hKf
  obtain ⟨b,hb,h3⟩:=hbody (w.heap.size+1) rec _ (hy R w2) i hi
  refine hb h.aH (h3 (af w.heap.size (.deferred (some []))::A) w2 _ _ (h.perm (.cons _ List.perm_middle.symm)) (fun w' h'=>hKt w' (h'.perm (.cons _ List.perm_middle))) (fun w' h'=>hKf w' (h'.perm (.cons _ List.perm_middle))))
 ·refine h2.perm ?_
  refine (List.Perm.trans (.cons _ List.perm_middle.symm) List.perm_middle.symm)
 ·intro w' h
  exact .inl ⟨h.aH,hK _ _ (h.put (rec 3)).drop⟩
 ·intro i w' hi h
  exact .inr ⟨h.aH,hKr i _ _ hi (h.put (rec 4)).drop⟩
theorem gm.two {P:Program} {v:Value} {k k':Ki} {Y:Nat→(Nat→Obj)→k.T→k'.T→World→(World→Prop)→(World→Prop)→Prop} {K Kr:Nat→World→Prop} {n:Nat} {x:Nat→k.T} {y:Nat→k'.T} {Φ:World→Prop} (C G:Nat→List HP)
  (hh:Hp E w (A++C 0)) (hΦ: ∀i,ad (C i) Φ) (hit:vO P E v n (fun i=> [k.enc (x i),k'.enc (y i)]) A Φ)
  (hbody: ∀l rec i (A:List HP) (w:World) (Kt Kf:World→Prop),i<n→Hp E w (af l (rec 0)::(C i++A))→
   (∀w',Hp E w' (af l (rec 0)::(C (i+1)++A))→Kt w')→(∀w',Hp E w' (af l (rec 2)::(G i++A))→Kf w')→Y l rec (x i) (y i) w Kt Kf)
  (hK: ∀D w',Hp E w' (af D (.deferred (some []))::C n)→K D w') (hKr: ∀i D w',i<n→Hp E w' (af D (.deferred (some []))::G i)→Kr D w'):gm P v [k,k'] w Y K Kr:=
 gm.Ku (ks:= [k,k']) C G hh hΦ hit (fun l rec _ hT i hi=>⟨_,hT (x i) (y i),fun A w Kt Kf=>hbody l rec i A w Kt Kf hi⟩) hK hKr
theorem gm.Lw {P:Program} {v:Value} {k:Ki} {Y:Nat→(Nat→Obj)→k.T→World→(World→Prop)→(World→Prop)→Prop} {K Kr:Nat→World→Prop} {n:Nat} {x:Nat→k.T} {Φ:World→Prop} (C G:Nat→List HP)
  (hh:Hp E w (A++C 0)) (hΦ: ∀i,ad (C i) Φ) (hit:vO P E v n (fun i=> [k.enc (x i)]) A Φ)
  (hbody: ∀l rec i (A:List HP) (w:World) (Kt Kf:World→Prop),i<n→Hp E w (af l (rec 0)::(C i++A))→
   (∀w',Hp E w' (af l (rec 0)::(C (i+1)++A))→Kt w')→(∀w',Hp E w' (af l (rec 2)::(G i++A))→Kf w')→Y l rec (x i) w Kt Kf)
  (hK: ∀D w',Hp E w' (af D (.deferred (some []))::C n)→K D w') (hKr: ∀i D w',i<n→Hp E w' (af D (.deferred (some []))::G i)→Kr D w'):gm P v [k] w Y K Kr:=
 gm.Ku (ks:= [k]) C G hh hΦ hit (fun l rec _ hT i hi=>⟨_,hT (x i),fun A w Kt Kf=>hbody l rec i A w Kt Kf hi⟩) hK hKr
def A4 {α:Type} (X:α→Prop) (L:α→List HP):HP:=fun f=> ∃x,X x∧Sat (L x) f
theorem Hp.ex {α:Type} {X:α→Prop} {L:α→List HP} (h:Hp E w (A4 X L::F)): ∃x,X x∧Hp E w (L x++F):=h.II fun _ hf=>hf
theorem Hp.zQ {α:Type} {X:α→Prop} {L:α→List HP} (x:α) (hx:X x) (h:Hp E w (L x++F)):Hp E w (A4 X L::F):=h.IH fun _ hf=>⟨x,hx,hf⟩
end
end Go.Vc
set_option maxRecDepth 20000
namespace Go.Vc
open Go
def fO (f:Nat→Nat) (N:Nat):Array Value:=⟨(List.range N).map fun i=>vB (f i)⟩
theorem n9 (f:Nat→Nat) (N:Nat):(fO f N).size=N:=by simp [fO]
theorem xl {f:Nat→Nat} {N i:Nat} (h:i<N):(fO f N).toList[i]? =some (Sc.enc (.int .u8) (f i:Int)):=by simp [fO,h,vB,Sc.enc]
def cW (f:Nat→Nat) (p v:Nat):Nat→Nat:=fun j=>if j=p then v else f j
theorem C3 {f:Nat→Nat} {N p v:Nat}:(fO f N).setIfInBounds p (.int .u8 (v:Int))=fO (cW f p v) N:=by
 apply Array.ext'
 apply List.ext_getElem?
 intro i
 simp only [fO,Array.toList_setIfInBounds,List.getElem?_set,List.getElem?_map,List.getElem?_range,List.length_map,List.length_range]
 by_cases e:p=i
 ·subst e
  by_cases hp:p<N
  ·simp [hp,cW,vB]
  ·simp [hp,List.getElem?_eq_none]
 ·by_cases hi:i<N
  ·simp [e,hi,cW,Ne.symm e]
  ·simp [e,List.getElem?_eq_none,hi]
def eD (f:Nat→Nat) (p:Nat) (b:List Nat):Nat→Nat:=fun j=>if p≤j∧j<p+b.length then b.getD (j - p) 0 else f j
theorem Jw {f:Nat→Nat} {N p:Nat} {b:List Nat} (h:p+b.length≤N):(⟨(fO f N).toList.take p++(b.map vB++(fO f N).toList.drop (p+b.length))⟩:Array Value)=fO (eD f p b) N:=by
 apply Array.ext'
 apply List.ext_getElem?
 intro i
 have hl:(fO f N).toList.length=N:=by simp [fO]
 have e1: ∀g:Nat→Nat,(fO g N).toList[i]? =if i<N then some (vB (g i)) else none:=fun g=>by
  by_cases hi:i<N
  ·simp [fO,hi]
  ·simp [fO,hi,List.getElem?_eq_none]
 rw [e1]
 show ((fO f N).toList.take p++(b.map vB++(fO f N).toList.drop (p+b.length)))[i]? =_
 by_cases h1:i<p
 ·rw [List.getElem?_append_left (by rw [List.length_take];omega),List.getElem?_take,if_pos h1,e1]
  simp only [eD]
  rw [if_pos (show i<N by omega),if_pos (show i<N by omega),if_neg (by omega)]
 ·rw [List.getElem?_append_right (by rw [List.length_take];omega)]
  rw [List.length_take,hl,Nat.min_eq_left (by omega)]
  by_cases h2:i - p<b.length
  ·rw [List.getElem?_append_left (by rw [List.length_map];exact h2),List.getElem?_map,List.getElem?_eq_getElem h2,if_pos (show i<N by omega)]
   simp only [eD,Option.map_some]
   rw [if_pos (by omega)]
   simp [List.getD,h2]
  ·rw [List.getElem?_append_right (by rw [List.length_map];omega),List.length_map,List.getElem?_drop,show p+b.length+(i - p - b.length)=i by omega,e1]
   simp only [eD]
   rw [if_neg (show¬(p≤i∧i<p+b.length) by omega)]
def bc (f:Nat→Nat) (p q:Nat):List Nat:=(List.range q).map fun i=>f (p+i)
theorem bY (f:Nat→Nat) (p q:Nat):(bc f p q).length=q:=by simp [bc]
theorem ey {f:Nat→Nat} {p q i:Nat} (h:i<q):(bc f p q)[i]'(by rw [bY];exact h)=f (p+i):=by simp [bc]
theorem uK {f g:Nat→Nat} {p q:Nat} (h: ∀i,i<q→f (p+i)=g (p+i)):bc f p q=bc g p q:=List.map_congr_left fun i hi=>h i (List.mem_range.1 hi)
theorem JE {f:Nat→Nat} {N p q cap m:Nat} {t:TypeId} {fr:Nat×Nat} {w:World} (h:p+q≤N) (hw:w.heap[m]? =some (.cells (fO f N) t fr)):aD 1 ⟨some ⟨m,p,none⟩,q,cap⟩ ((bc f p q).map vB) w:=by
 refine ⟨by simp [bY],fun i hi=>⟨_,rfl,?_⟩⟩
 rw [List.length_map,bY] at hi
 rw [ak,List.getElem_map,ey hi]
 have:=xl (f:=f) (N:=N) (i:=p+i) (by omega)
 simp only [World.cell?,hw]
 simpa [Sc.enc,vB] using this
def fq (f:Nat→Nat) (p:Nat):Nat:=f p+256*f (p+1)+65536*f (p+2)+16777216*f (p+3)
def c9 (v:Nat):List Nat:= [v % 256,v/256 % 256,v/65536 % 256,v/16777216 % 256]
theorem Hz {f:Nat→Nat} (h: ∀i,f i<256) (p:Nat):fq f p<4294967296:=by
 have h0:=h p;have h1:=h (p+1);have h2:=h (p+2);have h3:=h (p+3)
 unfold fq;omega
theorem jM {f:Nat→Nat} {p i:Nat} {b:List Nat} (h:i<b.length):eD f p b (p+i)=b.getD i 0:=by
 unfold eD;rw [if_pos (by omega),Nat.add_sub_cancel_left]
theorem gf {f:Nat→Nat} {p j:Nat} {b:List Nat} (h: ¬(p≤j∧j<p+b.length)):eD f p b j=f j:=if_neg h
theorem qA (v:Nat):(c9 v).length=4:=rfl
theorem Fk {f:Nat→Nat} {p q v:Nat} (hv:v<4294967296) (hd:q=p∨q+4≤p∨p+4≤q):fq (eD f p (c9 v)) q=if q=p then v else fq f q:=by
 have hl:=qA v
 rcases hd with rfl|hd
 ·have h0:=jM (f:=f) (p:=q) (i:=0) (b:=c9 v) (by omega)
  rw [Nat.add_zero] at h0
  rw [if_pos rfl,fq,h0,jM (by omega),jM (by omega),jM (by omega)]
  simp only [c9,List.getD_cons_zero,List.getD_cons_succ]
  omega
 ·rw [if_neg (by omega),fq,gf (by omega),gf (by omega),gf (by omega),gf (by omega)]
  rfl
theorem Jk {P:Program} {t e:TypeId} {z:Value} {n bytes:Nat} {E w:World} {F:List HP} {K:Sl→World→Prop} (ht:P.underlying t=some (.slice e)) (hi: ∃i,P.info? e=some i∧i.zero=some z∧i.size=1∧i.bytes=bytes) (hz:z.cells= #[z])
  (hn:n≤1000000) (hb:bytes≤8) (h:Hp E w F) (hK: ∀b w',Hp E w' (af b (.cells ⟨List.replicate n z⟩ e (0,0))::F)→K ⟨some ⟨b,0,none⟩,n,n⟩ w'):au P (Instr.makeSlice t (.int .i64 (n:Int)) (.int .i64 (n:Int))) kS w K:=by
 obtain ⟨i,h1,h2,h3,h4⟩:=hi
 have hbn:bytes*n≤8*n:=Nat.mul_le_mul_right _ hb
 have hbb:((bytes:Int)*(n:Int))≤281474976710656:=by
  have:((bytes:Int)*(n:Int))=((bytes*n:Nat):Int):=by simp
  omega
 have hm:=run_makeSlice (w:=w) t e i z ht h1 h2 .i64 .i64 (n:Int) (n:Int) (by omega) (by omega) (by rw [h3,Int.toNat_natCast];omega) (by rw [h4];exact hbb) (by omega)
 unfold au
 rw [hm]
 have hc:madeCells z.cells (n*1)=⟨List.replicate n z⟩:=by
  unfold madeCells
  rw [hz,Nat.mul_one]
  apply Array.ext
  ·simp
  ·intro j h1 h2
   simp [Nat.mod_one]
 rw [h3,Int.toNat_natCast,hc]
 exact hK w.heap.size _ (h.alloc (.cells ⟨List.replicate n z⟩ e))
theorem AY (N:Nat):(⟨List.replicate N (.int .u8 0)⟩:Array Value)=fO (fun _=>0) N:=by
 apply Array.ext'
 show List.replicate N (Value.int .u8 0)=(List.range N).map fun _=>vB 0
 rw [List.map_const']
 simp [vB]
end Go.Vc
namespace Go.Proofs.YtgglghjnakclmaaGreat
open Go Go.Vc
section
variable {E w:World} {F:List HP}
structure AS where
 a:Nat
 m:Nat
 N:Nat
 live:Nat
 peak:Nat
structure xz (A:AS) (f:Nat→Nat):Prop where
 le:A.live≤A.N
 bO:A.N≤1000000
 byt: ∀i,f i<256
def Ar (A:AS) (f:Nat→Nat):HP:=A4 (fun _:Unit=>xz A f) fun _=> [af A.a (.cells ⟨[.slice (some ⟨A.m,0,none⟩) A.N A.N,.int .i64 (A.live:Int),.int .i64 (A.peak:Int)]⟩ 199 (0,0)),af A.m (.cells (fO f A.N) 5 (0,0))]
variable {A:AS} {f:Nat→Nat}
theorem Ar.cN (h:Hp E w (Ar A f::F)):xz A f∧Hp E w (af A.a (.cells ⟨[.slice (some ⟨A.m,0,none⟩) A.N A.N,.int .i64 (A.live:Int),.int .i64 (A.peak:Int)]⟩ 199 (0,0))::af A.m (.cells (fO f A.N) 5 (0,0))::F):=by
 obtain ⟨_,hx,h⟩:=h.ex
 exact ⟨hx,h⟩
theorem Ar.shut (ok:xz A f) (h:Hp E w (af A.a (.cells ⟨[.slice (some ⟨A.m,0,none⟩) A.N A.N,.int .i64 (A.live:Int),.int .i64 (A.peak:Int)]⟩ 199 (0,0))::af A.m (.cells (fO f A.N) 5 (0,0))::F)):Hp E w (Ar A f::F):=Hp.zQ () ok h
theorem xz.bo {g:Nat→Nat} (h:xz A f) (hg: ∀i,g i<256):xz A g:=⟨h.le,h.bO,hg⟩
theorem zy {p v:Nat} (h: ∀i,f i<256) (hv:v<256): ∀i,cW f p v i<256:=fun i=>by unfold cW;split<;>first|exact hv|exact h i
theorem Hu {p:Nat} {b:List Nat} (h: ∀i,f i<256) (hb: ∀x∈b,x<256): ∀i,eD f p b i<256:=fun i=>by
 unfold eD
 split
 ·rename_i hi
  rw [List.getD_eq_getElem?_getD,List.getElem?_eq_getElem (by omega)]
  exact hb _ (List.getElem_mem _)
 ·exact h i
abbrev sA (A:AS):Sl:=⟨some ⟨A.m,0,none⟩,A.N,A.N⟩
abbrev pA (A:AS):Value:= .pointer (some ⟨A.a,0,none⟩)
abbrev jV (p q:Nat):Value:= .agg ⟨[.int .i64 (p:Int),.int .i64 (q:Int)]⟩
theorem kW {p q:Nat} {K:Bool→World→Prop} (h:Hp E w (Ar A f::F)) (hin:p+q≤A.live) (hK: ∀w',Hp E w' (Ar A f::F)→K true w'):Cl Tryz.prog [kB] bG ⟨[pA A,jV p q]⟩ w K:=by
 refine vi.ok _ ((p:Int),(q:Int),()) _ _ ?_
 dsimp only
 obtain ⟨ok,h⟩:=Ar.cN h
 have h1:=ok.le;have h2:=ok.bO
 (try simp only [aq,aj,ak,Nat.zero_add,Nat.add_zero,Nat.reduceAdd,Bool.not_true,Bool.not_false,az,ay,Option.isNone])
 (with_reducible repeat first|refine Nw.mk h fun b w h=> ?_|refine aJ.mk h fun w h=> ?_|refine Ld.xb h rfl ?_|refine Ld.xt h rfl ?_|refine aG.xb (fun _ h=>h) rfl ?_|refine aG.xt (fun _ h=>h) rfl ?_|refine ⟨h.hb,?_⟩|refine bl.xw h rfl rfl fun w h=> ?_|(refine bl.xs h rfl rfl fun w h=> ?_;dsimp only [bN,aI] at h)|(refine St.xs h rfl rfl fun w h=> ?_;dsimp only [bN,aI] at h)|refine aa.yes ?_|refine aa.no ?_|refine ⟨by first|omega|decide,?_⟩)
 exact FL (decide_eq_true (by rw [ae (by omega)];omega)) (hK _ (Ar.shut ok (h.no 0)))
theorem uq {p q:Nat} {i:Int} {n:Nat} {K:Sl→World→Prop} (h:Hp E w (Ar A f::F)) (hin:p+q≤A.live) (hn:0<n) (hn2:n≤1000000)
  (hyes: ∀j:Nat,i=(j:Int)→j+n≤q→∀w',Hp E w' (Ar A f::F)→K ⟨some ⟨A.m,p+j,none⟩,n,n⟩ w') (hno: ¬(0≤i∧i+n≤q)→∀w',Hp E w' (Ar A f::F)→K ⟨none,0,0⟩ w'):
  Cl Tryz.prog [kS] dn ⟨[pA A,jV p q,.int .i64 i,.int .i64 (n:Int)]⟩ w K:=by
 refine uo.ok _ ((p:Int),(q:Int),()) _ _ _ _ ?_
 dsimp only
 refine Nw.mk h fun b w h=>Ld.xt h rfl ?_
 refine kW (h.at 1) hin fun w h=> ?_
 obtain ⟨ok,h⟩:=Ar.cN h
 have h1:=ok.le;have h2:=ok.bO
 have hend: ∀w,Hp E w (af A.a (.cells ⟨[.slice (some ⟨A.m,0,none⟩) A.N A.N,.int .i64 (A.live:Int),.int .i64 (A.peak:Int)]⟩ 199 (0,0))::af A.m (.cells (fO f A.N) 5 (0,0))::af b (.cells ⟨[.int .i64 (p:Int),.int .i64 (q:Int)]⟩ 146 (0,0))::F)→Hp E w (Ar A f::F):=fun w h=>Ar.shut ok (h.no 2)
 refine aa.f rfl (aa.dm (fun hlt=>hno (by omega) _ (hend _ h)) fun hge=> ?_)
 (try simp only [aq,aj,ak,Nat.zero_add,Nat.add_zero,Nat.reduceAdd,Bool.not_true,Bool.not_false,az,ay,Option.isNone])
 refine Ld.xb h rfl (aa.dm (fun hgt=>hno (fun hh=>by rw [ae (by omega)] at hgt;omega) _ (hend _ h)) fun hle=> ?_)
 obtain ⟨j,rfl⟩: ∃j:Nat,i=(j:Int):=⟨i.toNat,by omega⟩
 rw [ae (by omega)] at hle
 refine Ld.xb h rfl (Ld.xb (x:=sA A) h rfl ?_)
 simp (disch:=omega) only [ae]
 refine ⟨by omega,by omega,by omega,by dsimp only;omega,?_⟩
 dsimp only
 rw [if_neg (by omega)]
 simp only [Option.map_some,Nat.mul_one,ak,Nat.zero_add]
 rw [show ((j:Int)+(p:Int)).toNat=p+j by omega,show ((j:Int)+(p:Int)+(n:Int)).toNat - (p+j)=n by omega]
 exact hyes j rfl (by omega) _ (hend _ h)
theorem kF {p q:Nat} {i:Int} {K:Int→Bool→World→Prop} (h:Hp E w (Ar A f::F)) (hin:p+q≤A.live)
  (hyes: ∀j:Nat,i=(j:Int)→j<q→∀w',Hp E w' (Ar A f::F)→K (f (p+j):Int) true w') (hno: ¬(0≤i∧i<q)→∀w',Hp E w' (Ar A f::F)→K 0 false w'):
  Cl Tryz.prog [ar .u8,kB] bz ⟨[pA A,jV p q,.int .i64 i]⟩ w K:=by
 refine uO.ok _ ((p:Int),(q:Int),()) _ _ _ ?_
 dsimp only
 refine Nw.mk h fun b w h=>Ld.xt h rfl ?_
 refine uq (n:=1) (h.at 1) hin (by omega) (by omega) (fun j hj hjq w h=> ?_) (fun hn w h=>aa.t rfl (hno (by omega) _ (h.no 1)))
 refine aa.f rfl (an.mk rfl (by omega) (by dsimp only;omega) ?_)
 obtain ⟨ok,h⟩:=Ar.cN h
 have h1:=ok.le
 rw [show (0:Int).toNat*1=0 by decide,ak,Nat.add_zero]
 exact Ld.xb h (xl (by omega)) (hyes j hj (by omega) _ (Ar.shut ok (h.no 2)))
theorem iY {p q j v:Nat} {K:Bool→World→Prop} (h:Hp E w (Ar A f::F)) (hin:p+q≤A.live) (hj:j<q) (hv:v<256) (hK: ∀w',Hp E w' (Ar A (cW f (p+j) v)::F)→K true w'):
  Cl Tryz.prog [kB] bJ ⟨[pA A,jV p q,.int .i64 (j:Int),.int .u8 (v:Int)]⟩ w K:=by
 refine ry.ok _ ((p:Int),(q:Int),()) _ _ _ _ ?_
 dsimp only
 refine Nw.mk h fun b w h=>Ld.xt h rfl ?_
 refine uq (n:=1) (h.at 1) hin (by omega) (by omega) (fun j' hj' hjq w h=> ?_) (fun hn w h=>absurd ⟨by omega,by omega⟩ hn)
 obtain rfl:j=j':=by omega
 refine aa.f rfl (an.mk rfl (by omega) (by dsimp only;omega) ?_)
 obtain ⟨ok,h⟩:=Ar.cN h
 have h1:=ok.le
 rw [show (0:Int).toNat*1=0 by decide,ak,Nat.add_zero]
 refine St.xb h (by rw [n9];omega) rfl fun w h=>hK _ ?_
 rw [C3] at h
 exact Ar.shut (ok.bo (zy ok.byt hv)) (h.no 2)
end
end Go.Proofs.YtgglghjnakclmaaGreat
namespace Go.Vc
open Go
theorem Et {P:Program} {t e ty:TypeId} {z:Value} {E w:World} {l:List HP} {b o n cap:Nat} {c:Array Value} {t':TypeId} {put:Obj→List HP} {K:Value→World→Prop} [hf:cb b l c t' (0,0) put]
  (hu:P.underlying t=some (.slice e)) (hz: ∀w,(zeroValue e).run P w= .ok z w) (hc:z.cells= #[z]) (hs:aF z=true) (h:Hp E w l) (hfit:o+n≤c.size)
  (hK: ∀w',Hp E w' (put (.cells ⟨c.toList.take o++(List.replicate n z++c.toList.drop (o+n))⟩ t' (0,0)))→K (.tuple #[]) w'):
  au P (Builtin.clear_ #[t] ty ⟨[.slice (some ⟨b,o,none⟩) n cap]⟩) kV w K:=by
 have hsz:c.toList.length=c.size:=by simp
 obtain ⟨_,hcond,hk⟩:=ax.xm (b:=b) (n:=n) (o:=o) (cs:=⟨List.replicate n z⟩) (pre:=c.toList.take o) (aL:=(c.toList.drop o).take n) (post:=c.toList.drop (o+n)) (K:=fun w'=>K (.tuple #[]) w') h
  (by rw [←List.drop_drop,List.take_append_drop,List.take_append_drop]) (by rw [List.length_take];omega) (by rw [List.length_take,List.length_drop];omega) (by simp) (fun v hv=>by rw [List.eq_of_mem_replicate hv];exact hs) hK
 unfold au
 cases n with
 |zero=>
  have e1:(Builtin.clear_ #[t] ty ⟨[.slice (some ⟨b,o,none⟩) 0 cap]⟩).run P w= .ok (.tuple #[]) w:=by
   simp [Builtin.clear_,run_underlying hu]
  rw [e1]
  exact hk
 |succ m=>
  have hzc:(Builtin.zeroCells z.cells (m+1)).toList=List.replicate (m+1) z:=by
   rw [hc]
   simp [Builtin.zeroCells]
   apply List.ext_getElem
   ·simp
   ·intro i h1 h2
    simp [Nat.mod_one]
  have hst:=mG (P:=P) (p:=⟨b,o,none⟩) (List.replicate (m+1) z) 0 w (fun j hj=>by
   rw [List.length_replicate] at hj
   have:=hcond j hj
   rw [Nat.zero_add]
   refine ⟨?_,this.2⟩
   rw [List.getElem_replicate];exact hs)
  have e1:(Builtin.clear_ #[t] ty ⟨[.slice (some ⟨b,o,none⟩) (m+1) cap]⟩).run P w= .ok (.tuple #[]) (ax.setRow w ⟨b,o,none⟩ (List.replicate (m+1) z) 0):=by
   simp [Builtin.clear_,run_underlying hu,hz,hzc,hst]
  rw [e1]
  exact hk
end Go.Vc
namespace Go.Proofs.YtgglghjnakclmaaGreat
open Go Go.Vc
section
variable {E w:World} {F:List HP} {A:AS} {f:Nat→Nat}
theorem zo:Tryz.prog.underlying 26=some (.slice 5):=by kernel_rfl
theorem Jf {n:Nat} {K:Option Addr→Int→World→Prop} (h:Hp E w F) (hn:1≤n) (hn2:n≤1000000) (hK: ∀a m w',Hp E w' (Ar ⟨a,m,n,0,0⟩ (fun _=>0)::F)→K (some ⟨a,0,none⟩) 0 w'):Cl Tryz.prog [kP,kI] oS ⟨[.int .i64 (n:Int)]⟩ w K:=by
 refine E2.ok _ _ _ (aa.df (by omega) (aa.df (by omega) ?_))
 refine Jk (z:= .int .u8 0) (bytes:=1) zo ⟨_,rfl,by kernel_rfl,by kernel_rfl,by kernel_rfl⟩ rfl (by omega) (by omega) h fun m w h=>Nw.mk h fun a w h=>hK a m w ?_
 rw [AY] at h
 exact Ar.shut ⟨by dsimp only;omega,by dsimp only;omega,fun _=>by decide⟩ h
theorem GI {K:Int→World→Prop} (h:Hp E w (Ar A f::F)) (hK:Hp E w (Ar A f::F)→K (A.peak:Int) w):Cl Tryz.prog [kI] g9 ⟨[pA A]⟩ w K:=by
 refine ux.ok _ _ _ ?_
 obtain ⟨ok,h⟩:=Ar.cN h
 (try simp only [aq,aj,ak,Nat.zero_add,Nat.add_zero,Nat.reduceAdd,Bool.not_true,Bool.not_false,az,ay,Option.isNone])
 exact Ld.xb h rfl (hK (Ar.shut ok h))
theorem ad.hb {b:Nat} {o:Obj} {φ:World→Prop} (hf: ∀w:World,w.heap[b]? =some o→φ w):ad (af b o::F) φ:=by
 rintro w f a ⟨g,k,hd,rfl,rfl,h2⟩
 exact hf w (a b _ (by simp [aP.add,aP.one]))
theorem H0 {p q:Nat} {K:Sl→World→Prop} (h:Hp E w (Ar A f::F)) (hin:p+q≤A.live) (hK: ∀s w',Hp E w' (al 1 s ((bc f p q).map vB)::Ar A f::F)→K s w'):Cl Tryz.prog [kS] ia ⟨[pA A,jV p q]⟩ w K:=by
 refine uL.ok _ ((p:Int),(q:Int),()) _ _ ?_
 dsimp only
 refine Nw.mk h fun b w h=>Ld.xt h rfl ?_
 refine kW (h.at 1) hin fun w h=>aa.f rfl ?_
 obtain ⟨ok,h⟩:=Ar.cN h
 have h1:=ok.le;have h2:=ok.bO
 refine aJ.mk h fun w h=> ?_
 (try simp only [aq,aj,ak,Nat.zero_add,Nat.add_zero,Nat.reduceAdd,Bool.not_true,Bool.not_false,az,ay,Option.isNone])
 refine Ld.xb (x:=sA A) h rfl (Ld.xb h rfl (Ld.xb h rfl (Ld.xb h rfl ?_)))
 simp (disch:=omega) only [ae]
 refine ⟨by omega,by omega,by omega,by dsimp only;omega,?_⟩
 dsimp only
 have hsl:(⟨if (A.N:Int).toNat=(p:Int).toNat then some ⟨A.m,0,none⟩ else (some ⟨A.m,0,none⟩:Option Addr).map (·.add ((p:Int).toNat*1)),((p:Int)+(q:Int)).toNat - (p:Int).toNat,(A.N:Int).toNat - (p:Int).toNat⟩:Sl)=⟨if A.N=p then some ⟨A.m,0,none⟩ else some ⟨A.m,p,none⟩,q,A.N - p⟩:=by
  simp only [Option.map_some,Int.toNat_natCast,Nat.mul_one,ak,Nat.zero_add]
  rw [show ((p:Int)+(q:Int)).toNat - p=q by omega]
 rw [hsl]
 refine JH (bs:=bc f p q) h (ad.at 1 (ad.hb fun w hw=> ?_)) (by rw [bY,aC];omega) fun s w h=>hK s w ?_
 ·split
  ·have:q=0:=by omega
   subst this
   exact ⟨rfl,fun i hi=>by simp [bc] at hi⟩
  ·exact JE (by omega) hw
 ·have h:=((h.no 3).at 1).at 2
  exact (Ar.shut ok (h.at 1)).at 1
theorem Gg {p q j:Nat} {s:Sl} {b:List Nat} {K:Bool→World→Prop} (h:Hp E w (Ar A f::F)) (hin:p+q≤A.live) (hj:j+b.length≤q) (hs:ad F (aD 1 s (b.map vB))) (hb: ∀x∈b,x<256)
  (hK: ∀w',Hp E w' (Ar A (eD f (p+j) b)::F)→K true w'):Cl Tryz.prog [kB] gB ⟨[pA A,jV p q,.int .i64 (j:Int),.slice s.base s.len s.cap]⟩ w K:=by
 refine tu.ok _ ((p:Int),(q:Int),()) _ _ _ _ ?_
 dsimp only
 have hlen:b.length=s.len:=by have:=(h.ah hs.cons).1;simpa using this
 refine Nw.mk h fun b4 w h=>Ld.xt h rfl ?_
 refine kW (h.at 1) hin fun w h=>aa.f rfl (aa.df (by omega) ?_)
 obtain ⟨ok,h⟩:=Ar.cN h
 have h1:=ok.le;have h2:=ok.bO
 (try simp only [aq,aj,ak,Nat.zero_add,Nat.add_zero,Nat.reduceAdd,Bool.not_true,Bool.not_false,az,ay,Option.isNone])
 refine Ld.xb h rfl (aa.df (by rw [ae (by omega)];omega) (aJ.mk h fun w h=> ?_))
 (try simp only [aq,aj,ak,Nat.zero_add,Nat.add_zero,Nat.reduceAdd,Bool.not_true,Bool.not_false,az,ay,Option.isNone])
 refine Ld.xb (x:=sA A) h rfl (Ld.xb h rfl ?_)
 simp (disch:=omega) only [ae]
 refine ⟨by omega,by omega,by omega,by dsimp only;omega,?_⟩
 dsimp only
 have hsl:(⟨if (A.N:Int).toNat=((p:Int)+(j:Int)).toNat then some ⟨A.m,0,none⟩ else (some ⟨A.m,0,none⟩:Option Addr).map (·.add (((p:Int)+(j:Int)).toNat*1)),(A.N:Int).toNat - ((p:Int)+(j:Int)).toNat,(A.N:Int).toNat - ((p:Int)+(j:Int)).toNat⟩:Sl)=⟨if A.N=p+j then some ⟨A.m,0,none⟩ else some ⟨A.m,p+j,none⟩,A.N - (p+j),A.N - (p+j)⟩:=by
  simp only [Option.map_some,Int.toNat_natCast,Nat.mul_one,ak,Nat.zero_add]
  rw [show ((p:Int)+(j:Int)).toNat=p+j by omega]
 rw [hsl]
 have hs3:aD 1 s (b.map vB) w:=h.ah hs.cons.cons.cons
 by_cases hz:A.N=p+j
 ·have hb0:b= []:=List.length_eq_zero_iff.1 (by omega)
  subst hb0
  rw [if_pos hz]
  refine sb (o:=0) (dLen:=A.N - (p+j)) (ys:= []) zo (by kernel_rfl) h (by simpa using hs3) (by simp) (by rw [n9];omega) fun w h=>hK w ?_
  have e:eD f (p+j) []=f:=by funext i;unfold eD;rw [if_neg (by simp)]
  rw [e]
  simp only [List.take_nil,List.nil_append,List.length_nil,Nat.zero_min,Nat.add_zero,List.take_append_drop,Array.toArray_toList] at h
  exact Ar.shut ok (h.no 2)
 ·rw [if_neg hz]
  refine sb (o:=p+j) (dLen:=A.N - (p+j)) (ys:=b.map vB) zo (by kernel_rfl) h hs3 ee (by rw [n9];omega) fun w h=>hK w ?_
  have e1:(b.map vB).take (A.N - (p+j))=b.map vB:=List.take_of_length_le (by rw [List.length_map];omega)
  have e2:min (b.map vB).length (A.N - (p+j))=b.length:=by rw [List.length_map];omega
  rw [e1,e2,Jw (by omega)] at h
  exact Ar.shut (ok.bo (Hu ok.byt hb)) (h.no 2)
theorem GY {n:Nat} {K:(Int×Int×Unit)→Int→World→Prop} (h:Hp E w (Ar A (fun _=>0)::F)) (hn:n+A.live≤A.N)
  (hK: ∀w',Hp E w' (Ar ⟨A.a,A.m,A.N,A.live+n,max A.peak (A.live+n)⟩ (fun _=>0)::F)→K ((A.live:Int),(n:Int),()) 0 w'):Cl Tryz.prog [.st [.int .i64,.int .i64],kI] ik ⟨[pA A,.int .i64 (n:Int)]⟩ w K:=by
 refine tY.ok _ _ _ _ ?_
 obtain ⟨ok,h⟩:=Ar.cN h
 have h1:=ok.le;have h2:=ok.bO
 refine Nw.mk h fun b4 w h=> ?_
 (try simp only [aq,aj,ak,Nat.zero_add,Nat.add_zero,Nat.reduceAdd,Bool.not_true,Bool.not_false,az,ay,Option.isNone])
 refine aa.df (by omega) (aJ.mk h fun w h=>Ld.xb (x:=sA A) h rfl (Ld.xb h rfl (aa.df (by dsimp only;rw [ae (by omega)];omega) ?_)))
 refine Ld.xb (x:=(A.live:Int)) h rfl (Nw.mk h fun b19 w h=> ?_)
 (with_reducible refine bl.xw h rfl rfl (fun w h=> ?_))
 refine aJ.mk h fun w h=> ?_
 (try simp only [aq,aj,ak,Nat.zero_add,Nat.add_zero,Nat.reduceAdd,Bool.not_true,Bool.not_false,az,ay,Option.isNone])
 refine Ld.xb (x:=sA A) h rfl (Ld.xb h rfl (Ld.xb h rfl ?_))
 simp (disch:=omega) only [ae]
 refine ⟨by omega,by omega,by omega,by dsimp only;omega,?_⟩
 dsimp only
 have hsl:(⟨if (A.N:Int).toNat=(A.live:Int).toNat then some ⟨A.m,0,none⟩ else (some ⟨A.m,0,none⟩:Option Addr).map (·.add ((A.live:Int).toNat*1)),((A.live:Int)+(n:Int)).toNat - (A.live:Int).toNat,(A.N:Int).toNat - (A.live:Int).toNat⟩:Sl)=⟨if A.N=A.live then some ⟨A.m,0,none⟩ else some ⟨A.m,A.live,none⟩,n,A.N - A.live⟩:=by
  simp only [Option.map_some,Int.toNat_natCast,Nat.mul_one,ak,Nat.zero_add]
  rw [show ((A.live:Int)+(n:Int)).toNat - A.live=n by omega]
 rw [hsl]
 obtain ⟨o,ho,hon⟩: ∃o,(if A.N=A.live then (some ⟨A.m,0,none⟩:Option Addr) else some ⟨A.m,A.live,none⟩)=some ⟨A.m,o,none⟩∧o+n≤A.N:=by
  by_cases hz:A.N=A.live
  ·exact ⟨0,by rw [if_pos hz],by omega⟩
  ·exact ⟨A.live,by rw [if_neg hz],by omega⟩
 rw [ho]
 refine Et (z:= .int .u8 0) zo (fun w=>by kernel_rfl) rfl rfl h (by rw [n9];omega) fun w h=> ?_
 have hz:(⟨(fO (fun _=>0) A.N).toList.take o++(List.replicate n (.int .u8 0)++(fO (fun _=>0) A.N).toList.drop (o+n))⟩:Array Value)=fO (fun _=>0) A.N:=by
  rw [←AY]
  apply Array.ext'
  show (List.replicate A.N _).take o++(List.replicate n _++(List.replicate A.N _).drop (o+n))=List.replicate A.N _
  rw [List.take_replicate,List.drop_replicate,List.replicate_append_replicate,List.replicate_append_replicate]
  congr 1
  omega
 rw [hz] at h
 refine Ld.xb h rfl (St.xs h rfl rfl fun w h=> ?_)
 dsimp only [bN,aI] at h
 refine aJ.mk h fun w h=>Ld.xb h rfl (Ld.xb h rfl (St.xs h rfl rfl fun w h=> ?_))
 dsimp only [bN,aI] at h
 refine Ld.xt h rfl ?_
 (with_reducible refine bl.xw h rfl rfl (fun w h=> ?_))
 refine Ld.xt h rfl (hK w ?_)
 simp (disch:=omega) only [ae] at h
 have e:(if ((A.live:Int)+(n:Int))>(A.peak:Int) then ((A.live:Int)+(n:Int)) else (A.peak:Int))=((max A.peak (A.live+n):Nat):Int):=by split<;>omega
 rw [e,show (A.live:Int)+(n:Int)=((A.live+n:Nat):Int) by omega] at h
 exact Ar.shut (A:=⟨A.a,A.m,A.N,A.live+n,max A.peak (A.live+n)⟩) ⟨by dsimp only;omega,ok.bO,ok.byt⟩ ((h.no 0).no 0)
end
end Go.Proofs.YtgglghjnakclmaaGreat
set_option maxRecDepth 20000
namespace Go.Rk
section
variable {α:Type} {lt:α→α→Bool}
structure SO (lt:α→α→Bool):Prop where
 irr: ∀a,lt a a=false
 trans: ∀a b c,lt a b=true→lt b c=true→lt a c=true
 ntrans: ∀a b c,lt a b=false→lt b c=false→lt a c=false
theorem SO.rN (h:SO lt) {a b:α} (hab:lt a b=true):lt b a=false:=by
 cases hb:lt b a with
 |false=>rfl
 |true=>have:=h.trans _ _ _ hab hb;rw [h.irr] at this;cases this
theorem yJ {p q:α→Bool}: ∀{l:List α},(∀z∈l,p z=true→q z=true)→(∃x,x∈l∧q x=true∧p x=false)→l.countP p<l.countP q
 | [],_,⟨x,hx,_⟩=>by cases hx
 |a::l,h,⟨x,hx,hq,hp⟩=>by
  have hle:l.countP p≤l.countP q:=List.countP_mono_left fun z hz=>h z (List.mem_cons_of_mem _ hz)
  rw [List.countP_cons,List.countP_cons]
  rcases List.mem_cons.1 hx with rfl|hx
  ·rw [hq,hp];simp;omega
  ·have ih:=yJ (fun z hz=>h z (List.mem_cons_of_mem _ hz)) ⟨x,hx,hq,hp⟩
   cases hpa:p a with
   |false=>simp;split<;>omega
   |true=>rw [h a (by simp) hpa];simp;omega
theorem kX (h:SO lt): ∀{S:List α},S.Pairwise (fun a b=>lt a b=true)→∀(j:Nat) (hj:j<S.length),S.countP (fun x=>lt x S[j])=j
 | [],_,j,hj=>by simp at hj
 |a::S,hp,0,_=>by
  rw [List.pairwise_cons] at hp
  rw [List.countP_cons,List.getElem_cons_zero,h.irr,List.countP_eq_zero.2 fun x hx=>by rw [h.rN (hp.1 x hx)];decide]
  rfl
 |a::S,hp,j+1,hj=>by
  rw [List.pairwise_cons] at hp
  have hj':j<S.length:=by simpa using hj
  rw [List.countP_cons,List.getElem_cons_succ,kX h hp.2 j hj',hp.1 _ (List.getElem_mem hj')]
  rfl
theorem xC (h:SO lt) {S:List α} (hp:S.Pairwise (fun a b=>lt a b=true)) {x:α} (hx:x∈S): ∃hj:S.countP (fun y=>lt y x)<S.length,S[S.countP (fun y=>lt y x)]=x:=by
 obtain ⟨j,hj,rfl⟩:=List.getElem_of_mem hx
 have:=kX h hp j hj
 exact ⟨by omega,by simp only [this]⟩
theorem ou (h:SO lt) {S T:List α} (hpm:S.Perm T) (hS:S.Pairwise (fun a b=>lt a b=true)) (hT:T.Pairwise (fun a b=>lt a b=true)):S=T:=by
 apply List.ext_getElem hpm.length_eq
 intro r h1 h3
 have hr:=kX h hS r h1
 rw [hpm.countP_eq] at hr
 obtain ⟨h4,h5⟩:=xC h hT (hpm.mem_iff.1 (List.getElem_mem h1))
 rw [←h5]
 simp only [hr]
def rk (lt:α→α→Bool) (dom:List α) (x:α):Nat:=dom.countP fun y=>lt y x
theorem IG (h:SO lt) {dom:List α} {x y:α} (hx:x∈dom) (hl:lt x y=true):rk lt dom x<rk lt dom y:=
 yJ (fun _ _ hz=>h.trans _ _ _ hz hl) ⟨x,hx,hl,h.irr x⟩
def Au (lt:α→α→Bool) (dom:List α):Prop:= ∀x∈dom,∀y∈dom,x≠y→lt x y=true∨lt y x=true
theorem Lp (h:SO lt) {dom:List α} (ht:Au lt dom) {x y:α} (hx:x∈dom) (hy:y∈dom) (he:rk lt dom x=rk lt dom y):x=y:=by
 by_cases e:x=y
 ·exact e
 ·rcases ht x hx y hy e with h1|h1
  ·have:=IG h hx h1;omega
  ·have:=IG h hy h1;omega
def ra (lt:α→α→Bool) (dom:List α):List α:=dom.mergeSort fun a b=> !lt b a
theorem cH (dom:List α):(ra lt dom).Perm dom:=List.mergeSort_perm ..
theorem wS (dom:List α):(ra lt dom).length=dom.length:=(cH dom).length_eq
theorem mH (h:SO lt) {dom:List α} (hn:dom.Nodup) (ht:Au lt dom):(ra lt dom).Pairwise fun a b=>lt a b=true:=by
 have h1:=List.pairwise_mergeSort (le:=fun a b=> !lt b a) (fun a b c h1 h2=>by
   simp only [Bool.not_eq_true'] at*;exact h.ntrans _ _ _ h2 h1) (fun a b=>by
   cases hab:lt a b with
   |true=>simp [h.rN hab]
   |false=>simp) dom
 have h2:(ra lt dom).Nodup:=(cH dom).nodup_iff.2 hn
 have h3:(ra lt dom).Pairwise fun a b=>a∈dom∧b∈dom:=List.Pairwise.imp_of_mem (fun {a b} ha hb _=>⟨(cH dom).mem_iff.1 ha,(cH dom).mem_iff.1 hb⟩) h2
 exact ((h1.and h2).and h3).imp fun {a b} hh=>by
  rcases ht a hh.2.1 b hh.2.2 hh.1.2 with h4|h4
  ·exact h4
  ·have:=hh.1.1;simp [h4] at this
theorem Ep (h:SO lt) {dom:List α} (hn:dom.Nodup) (ht:Au lt dom) {x:α} (hx:x∈dom): ∃hj:rk lt dom x<(ra lt dom).length,(ra lt dom)[rk lt dom x]=x:=by
 have:=xC h (mH h hn ht) ((cH dom).mem_iff.2 hx)
 rw [(cH dom).countP_eq] at this
 exact this
theorem LU (h:SO lt) {dom:List α} (hn:dom.Nodup) (ht:Au lt dom) {r:Nat} (hr:r<(ra lt dom).length):rk lt dom (ra lt dom)[r]=r:=by
 have:=kX h (mH h hn ht) r hr
 rwa [(cH dom).countP_eq] at this
theorem Fu (h:SO lt) {dom:List α} (hn:dom.Nodup) (ht:Au lt dom) {x:α} (hx:x∈dom):rk lt dom x<dom.length:=by
 obtain ⟨hj,_⟩:=Ep h hn ht hx
 rwa [wS] at hj
end
end Go.Rk
set_option maxRecDepth 20000
namespace Go.Vc
open Go
def Mg:List Nat→List Nat→Bool
 |_,[]=>false
 | [],_::_=>true
 |a::x,b::y=>decide (a<b)||(a==b&&Mg x y)
def strOf (b:List Nat):ByteArray:=strOfNums (b.map fun (x:Nat)=>(x:Int))
theorem FG {P:Program} {src e dst:TypeId} {s:Sl} {b:List Nat} {w:World} {K:ByteArray→World→Prop} (hs:P.underlying src=some (.slice e)) (he:P.underlying e=some (.int .u8)) (hd:P.underlying dst=some .string)
  (hh:aD 1 s (b.map vB) w) (hK:K (strOf b) w):au P (convert src dst (.slice s.base s.len s.cap)) nS w K:=by
 have hl:=hh.1
 simp only [List.length_map,Nat.mul_one] at hl
 have key:(convert src dst (.slice s.base s.len s.cap)).run P w= .ok (.string (strOf b)) w:=by
  cases hb:s.base with
  |none=>
   have:b= []:=by
    cases b with
    |nil=>rfl
    |cons x b=>
     obtain ⟨p,hp,_⟩:=hh.2 0 (by simp)
     rw [hb] at hp;cases hp
   subst this
   rw [run_convert_bytes_nil w src e hs he _ _ dst hd];rfl
  |some p=>
   have hc:(loadCells p s.len).run P w= .ok ((b.map fun (x:Nat)=>(x:Int)).map (Value.int .u8)).toArray w:=by
    have:=yA (P:=P) (w:=w) (vs:=b.map vB) (p:=p) (fun i hi=>by
     obtain ⟨q,hq,hc⟩:=hh.2 i hi
     rw [hb] at hq
     cases hq
     exact hc)
    rw [List.length_map,hl] at this
    rw [this,List.map_map];rfl
   rw [run_convert_bytes_string w src dst e _ _ _ hs he hd,run_bytesToString w _ _ _ _ hc,foldl_push_bytes]
   unfold strOf strOfNums
   simp [ByteArray.empty,ByteArray.emptyWithCapacity]
   rfl
 unfold au
 rw [key]
 exact hK
theorem Dt (b:List Nat):(strOf b).toList=b.map UInt8.ofNat:=by
 unfold strOf strOfNums
 rw [ByteArray.toList_mk,List.map_map]
 refine List.map_congr_left fun x _=> ?_
 simp
theorem e6 (b:List Nat):(strOf b).data.toList=b.map UInt8.ofNat:=by rw [←ByteArray.toList_eq,Dt]
section
variable {E w:World} {F:List HP}
end
end Go.Vc
set_option maxRecDepth 20000
namespace Go.Bw
open Go.Rk
abbrev lx:List Nat→List Nat→Bool:=Go.Vc.Mg
theorem pJ (x:List Nat):lx x []=false:=by cases x<;>rfl
theorem mT (a b:Nat) (x y:List Nat):lx (a::x) (b::y)=(decide (a<b)||(a==b&&lx x y)):=rfl
theorem wi: ∀x,lx x x=false
 | []=>rfl
 |a::x=>by rw [mT,wi x];simp
theorem uu: ∀x y z,lx x y=true→lx y z=true→lx x z=true
 |_,[],_,h,_=>by rw [pJ] at h;cases h
 |_,_::_,[],_,h=>by rw [pJ] at h;cases h
 | [],_::_,_::_,_,_=>rfl
 |a::x,b::y,c::z,h1,h2=>by
  rw [mT] at*
  simp only [Bool.or_eq_true,Bool.and_eq_true,decide_eq_true_eq,beq_iff_eq] at*
  rcases h1 with h1|⟨h1,h3⟩<;>rcases h2 with h2|⟨h2,h4⟩
  ·left;omega
  ·left;omega
  ·left;omega
  ·exact .inr ⟨by omega,uu x y z h3 h4⟩
theorem uN: ∀x y,lx x y=false→lx y x=false→x=y
 | [],[],_,_=>rfl
 | [],_::_,h,_=>by cases h
 |_::_,[],_,h=>by cases h
 |a::x,b::y,h1,h2=>by
  rw [mT] at*
  simp only [Bool.or_eq_false_iff,Bool.and_eq_false_iff,decide_eq_false_iff_not,beq_eq_false_iff_ne] at*
  have hab:a=b:=by omega
  subst hab
  rw [uN x y (by rcases h1.2 with h|h;exact absurd rfl h;exact h) (by rcases h2.2 with h|h;exact absurd rfl h;exact h)]
theorem Fh (x y z:List Nat) (h1:lx x y=false) (h2:lx y z=false):lx x z=false:=by
 cases h:lx x z with
 |false=>rfl
 |true=>
  by_cases e:x=y
  ·subst e;rw [h] at h2;cases h2
  ·have hyx:lx y x=true:=by
    cases hh:lx y x with
    |true=>rfl
    |false=>exact absurd (uN x y h1 hh) e
   have:=uu _ _ _ hyx h
   rw [h2] at this;cases this
theorem F6: ∀(a b c d:List Nat),a≠b→(a.length<b.length→c= [])→(b.length<a.length→d= [])→lx (a++c) (b++d)=lx a b
 | [],[],_,_,h,_,_=>absurd rfl h
 | [],y::b,c,d,_,h1,_=>by rw [h1 (by simp)];rfl
 |x::a,[],c,d,_,_,h2=>by rw [h2 (by simp)];rfl
 |x::a,y::b,c,d,h,h1,h2=>by
  rw [List.cons_append,List.cons_append,mT,mT]
  by_cases e:x=y
  ·subst e
   rw [F6 a b c d (fun e=>h (by rw [e])) (fun hl=>h1 (by simpa using hl)) (fun hl=>h2 (by simpa using hl))]
  ·rw [beq_eq_false_iff_ne.2 e,Bool.false_and,Bool.false_and]
def sl (t:List Nat) (i k:Nat):Bool:=lx (t.drop i) (t.drop k)
theorem dC (t:List Nat):SO (sl t):=⟨fun _=>wi _,fun _ _ _=>uu _ _ _,fun _ _ _=>Fh _ _ _⟩
theorem HH {t:List Nat} {i k:Nat} (hi:i≤t.length) (hk:k≤t.length) (h:t.drop i=t.drop k):i=k:=by
 have:=congrArg List.length h
 simp only [List.length_drop] at this
 omega
def rows (t:List Nat):List Nat:=List.range (t.length+1)
theorem fj {t:List Nat} {i:Nat}:i∈rows t↔i≤t.length:=by unfold rows;rw [List.mem_range];omega
theorem mD (t:List Nat):(rows t).Nodup:=List.nodup_range
theorem Bc (t:List Nat):(rows t).length=t.length+1:=List.length_range
theorem nE (t:List Nat):Au (sl t) (rows t):=fun x hx y hy e=>by
 rw [fj] at hx hy
 cases h1:sl t x y with
 |true=>exact .inl rfl
 |false=>
  right
  cases h2:sl t y x with
  |true=>rfl
  |false=>exact absurd (HH hx hy (uN _ _ h1 h2)) e
def aZ (t:List Nat):List Nat:=ra (sl t) (rows t)
def iZ (t:List Nat) (i:Nat):Nat:=rk (sl t) (rows t) i
theorem il (t:List Nat):(aZ t).length=t.length+1:=by unfold aZ;rw [wS,Bc]
theorem nZ {t:List Nat} {i:Nat}:i∈aZ t↔i≤t.length:=by unfold aZ;rw [(cH _).mem_iff,fj]
theorem Kk {t:List Nat} {i:Nat} (hi:i≤t.length):iZ t i<t.length+1:=by
 have:=Fu (dC t) (mD t) (nE t) (fj.2 hi)
 rwa [Bc] at this
theorem xA {t:List Nat} {i:Nat} (hi:i≤t.length): ∃h:iZ t i<(aZ t).length,(aZ t)[iZ t i]=i:=Ep (dC t) (mD t) (nE t) (fj.2 hi)
theorem J7 {t:List Nat} {r:Nat} (hr:r<(aZ t).length):iZ t (aZ t)[r]=r:=LU (dC t) (mD t) (nE t) hr
theorem xH {t:List Nat} {i k:Nat} (hi:i≤t.length) (hk:k≤t.length) (h:iZ t i=iZ t k):i=k:=Lp (dC t) (nE t) (fj.2 hi) (fj.2 hk) h
theorem jd (t:List Nat):(aZ t).Pairwise fun a b=>sl t a b=true:=mH (dC t) (mD t) (nE t)
theorem qK {t:List Nat} {j:Nat} (hj:j<t.length):t.drop j=t.getD j 0::t.drop (j+1):=by
 rw [List.drop_eq_getElem_cons hj];simp [List.getD,hj]
theorem sU {t:List Nat} {i k:Nat} (hi:i<t.length) (hk:k<t.length):sl t i k=(decide (t.getD i 0<t.getD k 0)||(t.getD i 0==t.getD k 0&&sl t (i+1) (k+1))):=by
 unfold sl
 rw [qK hi,qK hk,mT]
theorem Ke (t:List Nat):iZ t t.length=0:=by
 unfold iZ rk
 rw [List.countP_eq_zero]
 intro x _
 unfold sl
 rw [List.drop_length,pJ];decide
def ba (t:List Nat):Nat:=iZ t 0
def dI (t:List Nat):List Nat:=(aZ t).filter fun i=>i !=0
def aQ (t:List Nat):List Nat:=(dI t).map fun i=>t.getD (i - 1) 0
def pO (index row:Nat):Nat:=if row>index then row - 1 else row
theorem kK (t:List Nat):ba t≤t.length:=by have:=Kk (t:=t) (i:=0) (by omega);unfold ba;omega
theorem gZ (t:List Nat) {r:Nat} (hr:r<(aZ t).length):(aZ t)[r]=0↔r=ba t:=by
 constructor
 ·intro h
  have:=J7 hr
  rw [h] at this;exact this.symm
 ·rintro rfl
  exact (xA (t:=t) (i:=0) (by omega)).2
theorem yj: ∀(l:List Nat) (ix:Nat),(∀r (hr:r<l.length),l[r]=0↔r=ix)→∀r (hr:r<l.length),r≠ix→(l.filter fun i=>i !=0)[pO ix r]? =some l[r]
 | [],_,_,r,hr,_=>by simp at hr
 |a::l,0,h,r,hr,hne=>by
  have ha:a=0:=(h 0 (by simp)).2 rfl
  subst ha
  have hall: ∀x∈l,x≠0:=fun x hx e=>by
   obtain ⟨i,hi,rfl⟩:=List.getElem_of_mem hx
   have:=(h (i+1) (by simpa using hi)).1 (by simpa using e)
   omega
  obtain ⟨r,rfl⟩: ∃r',r=r'+1:=⟨r - 1,by omega⟩
  have hr':r<l.length:=by simpa using hr
  rw [List.filter_cons,if_neg (by simp),List.filter_eq_self.2 fun x hx=>by simpa using hall x hx]
  unfold pO
  rw [if_pos (by omega)]
  simp [hr']
 |a::l,ix+1,h,r,hr,hne=>by
  have ha:a≠0:=fun e=>by have:=(h 0 (by simp)).1 e;omega
  have ih:=yj l ix fun r hr=>by
   have:=h (r+1) (by simpa using hr)
   simp only [List.getElem_cons_succ] at this
   omega
  rw [List.filter_cons,if_pos (by simpa using ha)]
  cases r with
  |zero=>
   have:pO (ix+1) 0=0:=by unfold pO;rw [if_neg (by omega)]
   rw [this];rfl
  |succ r=>
   have hr':r<l.length:=by simpa using hr
   have h2:=ih r hr' (by omega)
   have:pO (ix+1) (r+1)=pO ix r+1:=by unfold pO;split<;>split<;>omega
   rw [this,List.getElem?_cons_succ,h2];simp
theorem Cz {t:List Nat} {r:Nat} (hr:r<(aZ t).length) (hne:r≠ba t):(dI t)[pO (ba t) r]? =some (aZ t)[r]:=yj _ _ (fun _ hr=>gZ t hr) r hr hne
theorem lS (t:List Nat):(dI t).Perm ((List.range t.length).map (·+1)):=by
 have h:=(cH (lt:=sl t) (rows t)).filter fun i=>i !=0
 have e:(rows t).filter (fun i=>i !=0)=(List.range t.length).map (·+1):=by
  unfold rows
  rw [List.range_succ_eq_map,List.filter_cons,if_neg (by simp),List.filter_eq_self.2 fun x hx=>by obtain ⟨y,_,rfl⟩:=List.mem_map.1 hx;simp]
 rw [e] at h
 exact h
theorem AG (t:List Nat):(dI t).length=t.length:=by rw [(lS t).length_eq];simp
theorem ct (t:List Nat):(aQ t).length=t.length:=by unfold aQ;rw [List.length_map,AG]
theorem Eb (t:List Nat):(aQ t).Perm t:=by
 have h:=(lS t).map fun i=>t.getD (i - 1) 0
 have e:((List.range t.length).map (·+1)).map (fun i=>t.getD (i - 1) 0)=t:=by
  apply List.ext_getElem
  ·simp
  ·intro i h1 h2
   simp [List.getD,h2]
 rw [e] at h
 exact h
theorem sV {t:List Nat} (hb: ∀x∈t,x<256): ∀x∈aQ t,x<256:=fun x hx=>hb x ((Eb t).mem_iff.1 hx)
theorem po (t:List Nat):(dI t).Pairwise fun a b=>sl t a b=true:=(jd t).filter _
def pl (last:List Nat) (a b:Nat):Bool:=decide (last.getD a 0<last.getD b 0)||(last.getD a 0==last.getD b 0&&decide (a<b))
theorem ET {last:List Nat} {a b:Nat}:pl last a b=true↔last.getD a 0<last.getD b 0∨(last.getD a 0=last.getD b 0∧a<b):=by simp [pl]
theorem LB {last:List Nat} {a b:Nat}:pl last a b=false↔¬(last.getD a 0<last.getD b 0∨(last.getD a 0=last.getD b 0∧a<b)):=by rw [←ET,Bool.not_eq_true]
theorem L6 (last:List Nat):SO (pl last):=⟨fun a=>by rw [LB];omega,fun a b c h1 h2=>by rw [ET] at*;omega,fun a b c h1 h2=>by rw [LB] at*;omega⟩
def nx (last:List Nat) (a:Nat):Nat:=1+rk (pl last) (List.range last.length) a
theorem LW {t:List Nat} {j:Nat} (h0:0<j) (hj:j≤t.length):nx (aQ t) (pO (ba t) (iZ t j))=iZ t (j - 1):=by
 obtain ⟨h1,h2⟩:=xA hj
 have hne:iZ t j≠ba t:=fun e=>by have:=xH hj (by omega) e;omega
 have hat:=Cz h1 hne
 rw [h2] at hat
 obtain ⟨k,hk⟩: ∃k,pO (ba t) (iZ t j)=k:=⟨_,rfl⟩
 rw [hk] at hat⊢
 obtain ⟨hkl,hke⟩:=List.getElem?_eq_some_iff.1 hat
 have hcl:=AG t
 have hlast: ∀i (hi:i<(dI t).length),(aQ t).getD i 0=t.getD ((dI t)[i] - 1) 0:=fun i hi=>by
  unfold aQ
  simp [List.getD,hi]
 have hin: ∀i (hi:i<(dI t).length),0<(dI t)[i]∧(dI t)[i]≤t.length:=fun i hi=>by
  have:=(lS t).mem_iff.1 (List.getElem_mem hi)
  obtain ⟨x,hx,e⟩:=List.mem_map.1 this
  rw [List.mem_range] at hx
  omega
 have e1:rk (pl (aQ t)) (List.range (aQ t).length) k=(dI t).countP fun x=>sl t (x - 1) (j - 1):=by
  have:(dI t)=(List.range (aQ t).length).map fun i=>(dI t).getD i 0:=by
   apply List.ext_getElem
   ·rw [List.length_map,List.length_range,ct,hcl]
   ·intro i h1 h2
    simp [List.getD,h1]
  unfold rk
  conv=>rhs;rw [this,List.countP_map]
  apply List.countP_congr
  intro i hi
  have hi:i<(dI t).length:=by rw [List.mem_range,ct] at hi;omega
  obtain ⟨a1,a2⟩:=hin i hi
  have b1:=hin k hkl
  have hci:(dI t).getD i 0=(dI t)[i]:=by simp [List.getD,hi]
  have hs:=sU (t:=t) (i:=(dI t)[i] - 1) (k:=j - 1) (by omega) (by omega)
  rw [show (dI t)[i] - 1+1=(dI t)[i] by omega,show j - 1+1=j by omega] at hs
  simp only [Function.comp]
  rw [hci,hs]
  unfold pl
  rw [hlast i hi,hlast k hkl,hke]
  have hord:decide (i<k)=true↔sl t (dI t)[i] j=true:=by
   rw [decide_eq_true_iff,←hke]
   constructor
   ·intro hik
    exact List.pairwise_iff_getElem.1 (po t) i k hi hkl hik
   ·intro hsl
    rcases Nat.lt_trichotomy i k with h|h|h
    ·exact h
    ·subst h;rw [(dC t).irr] at hsl;cases hsl
    ·have:=List.pairwise_iff_getElem.1 (po t) k i hkl hi h
     rw [(dC t).rN hsl] at this;cases this
  simp only [Bool.or_eq_true,Bool.and_eq_true,hord]
 have e2:(dI t).countP (fun x=>sl t (x - 1) (j - 1))=(List.range t.length).countP fun x=>sl t x (j - 1):=by
  rw [(lS t).countP_eq,List.countP_map]
  rfl
 have e3:iZ t (j - 1)=1+(List.range t.length).countP fun x=>sl t x (j - 1):=by
  unfold iZ rk rows
  rw [List.range_succ,List.countP_append,List.countP_cons,List.countP_nil]
  have:sl t t.length (j - 1)=true:=by
   unfold sl
   rw [List.drop_length,qK (by omega)];rfl
  rw [this];simp;omega
 unfold nx
 rw [e1,e2,e3]
def wk (last:List Nat) (index:Nat):Nat→Nat
 |0=>0
 |k+1=>nx last (pO index (wk last index k))
def okB (last:List Nat) (index:Nat):Prop:=index≤last.length∧(∀k,k<last.length→wk last index k≠index)∧wk last index last.length=index
instance (last:List Nat) (index:Nat):Decidable (okB last index):=by unfold okB;infer_instance
end Go.Bw
set_option maxRecDepth 20000
namespace Go.Bw
open Go Go.Vc Go.Rk
theorem ya (c:Nat) (t:List Nat):dI (c::t)=(aZ t).map (·+1):=by
 refine ou (dC (c::t)) ((lS (c::t)).trans ?_) (po _) ?_
 ·have:=(cH (lt:=sl t) (rows t)).symm.map (·+1)
  exact this
 ·refine List.Pairwise.map _ (fun a b h=> ?_) (jd t)
  exact h
theorem D2 (t:List Nat): ∃A B,aZ t=A++0::B∧A.length=ba t∧(∀x∈A,x≠0)∧∀x∈B,x≠0:=by
 have hl:=il t
 have hi:=kK t
 have hr:ba t<(aZ t).length:=by omega
 have h0:(aZ t)[ba t]=0:=(gZ t hr).2 rfl
 refine ⟨(aZ t).take (ba t),(aZ t).drop (ba t+1),?_,by rw [List.length_take];omega,fun x hx e=> ?_,fun x hx e=> ?_⟩
 ·have:=(List.take_append_drop (ba t) (aZ t)).symm
  rwa [List.drop_eq_getElem_cons hr,h0] at this
 ·obtain ⟨i,hi2,e2⟩:=List.mem_iff_getElem.1 hx
  rw [List.length_take] at hi2
  rw [List.getElem_take] at e2
  have:=(gZ t (by omega)).1 (e2.trans e)
  omega
 ·obtain ⟨i,hi2,e2⟩:=List.mem_iff_getElem.1 hx
  rw [List.length_drop] at hi2
  rw [List.getElem_drop] at e2
  have:=(gZ t (by omega)).1 (e2.trans e)
  omega
theorem vK (c:Nat) (t:List Nat):aQ (c::t)=(aQ t).take (ba t)++c::(aQ t).drop (ba t):=by
 obtain ⟨A,B,e,hA,hA0,hB0⟩:=D2 t
 have h1:aQ (c::t)=(aZ t).map fun i=>(c::t).getD i 0:=by
  unfold aQ
  rw [ya,List.map_map]
  rfl
 have h2:dI t=A++B:=by
  unfold dI
  rw [e,List.filter_append,List.filter_cons,if_neg (by simp),List.filter_eq_self.2 fun x hx=>by simpa using hA0 x hx,List.filter_eq_self.2 fun x hx=>by simpa using hB0 x hx]
 have g: ∀x,x≠0→(c::t).getD x 0=t.getD (x - 1) 0:=fun x hx=>by
  obtain ⟨y,rfl⟩: ∃y,x=y+1:=⟨x - 1,by omega⟩
  simp [List.getD]
 have h3:aQ t=A.map (fun i=>t.getD (i - 1) 0)++B.map fun i=>t.getD (i - 1) 0:=by unfold aQ;rw [h2,List.map_append]
 have hAl:(A.map fun i=>t.getD (i - 1) 0).length=ba t:=by rw [List.length_map,hA]
 rw [h1,e,h3,List.map_append,List.map_cons,←hAl,List.take_left,List.drop_left]
 congr 1
 ·exact List.map_congr_left fun x hx=>g x (hA0 x hx)
 ·congr 1
  exact List.map_congr_left fun x hx=>g x (hB0 x hx)
def xI (last:List Nat) (idx c:Nat):Nat:=(List.range last.length).countP fun k=>decide (last.getD k 0<c)||(last.getD k 0==c&&decide (k<idx))
theorem K9 (X Y:List Nat) (c:Nat):rk (pl (X++c::Y)) (List.range (X++c::Y).length) X.length=xI (X++Y) X.length c:=by
 unfold rk xI
 have e1:List.range (X.length+(Y.length+1))=List.range X.length++(List.range (Y.length+1)).map (X.length+ ·):=List.range_add ..
 have e2:List.range (X.length+Y.length)=List.range X.length++(List.range Y.length).map (X.length+ ·):=List.range_add ..
 rw [List.length_append,List.length_append,List.length_cons,e1,e2,List.countP_append,List.countP_append,List.range_succ_eq_map,List.map_cons,List.countP_cons,List.map_map,List.countP_map,List.countP_map]
 have at0:(X++c::Y).getD X.length 0=c:=by simp [List.getD]
 congr 1
 ·refine List.countP_congr fun k hk=> ?_
  rw [List.mem_range] at hk
  have e1:(X++c::Y).getD k 0=X.getD k 0:=by simp [List.getD,List.getElem?_append_left hk]
  have e2:(X++Y).getD k 0=X.getD k 0:=by simp [List.getD,List.getElem?_append_left hk]
  unfold pl
  rw [at0,e1,e2]
 ·rw [if_neg (by simp [(L6 (X++c::Y)).irr]),Nat.add_zero]
  refine List.countP_congr fun k hk=> ?_
  have e1:(X++c::Y).getD (X.length+(k+1)) 0=Y.getD k 0:=by simp [List.getD,List.getElem?_append_right]
  have e2:(X++Y).getD (X.length+k) 0=Y.getD k 0:=by simp [List.getD,List.getElem?_append_right]
  simp only [Function.comp]
  unfold pl
  have d1:decide (X.length+(k+1)<X.length)=false:=decide_eq_false (by omega)
  have d2:decide (X.length+k<X.length)=false:=decide_eq_false (by omega)
  rw [at0,show X.length+k.succ=X.length+(k+1) from rfl,e1,e2,d1,d2]
theorem EB (c:Nat) (t:List Nat):ba (c::t)=1+xI (aQ t) (ba t) c:=by
 have hlen:1≤(c::t).length:=by simp
 have hn:=LW (t:=c::t) (j:=1) (by decide) hlen
 have hi:=kK t
 have hll:=ct t
 obtain ⟨h1,h2⟩:=xA (t:=c::t) (i:=1) hlen
 have hne:iZ (c::t) 1≠ba (c::t):=fun e=>by have:=xH hlen (by omega) e;omega
 have hc:=Cz h1 hne
 rw [h2,ya] at hc
 have ha:pO (ba (c::t)) (iZ (c::t) 1)=ba t:=by
  generalize pO (ba (c::t)) (iZ (c::t) 1)=a at hc
  rw [List.getElem?_map] at hc
  obtain ⟨x,hx,e⟩:=Option.map_eq_some_iff.1 hc
  obtain ⟨hal,hax⟩:=List.getElem?_eq_some_iff.1 hx
  exact (gZ t hal).1 (by omega)
 rw [ha] at hn
 have:ba (c::t)=iZ (c::t) (1 - 1):=rfl
 rw [this,←hn,nx,vK]
 have hX:((aQ t).take (ba t)).length=ba t:=by rw [List.length_take];omega
 have:=K9 ((aQ t).take (ba t)) ((aQ t).drop (ba t)) c
 rw [hX,List.take_append_drop] at this
 rw [this]
end Go.Bw
set_option maxRecDepth 20000
namespace Go.Vc
open Go Go.Bw
def oN (f:Nat→Nat) (a k:Nat):Nat→Nat:=fun j=>if a≤j∧j<a+k then f (j+1) else f j
theorem GW (f:Nat→Nat) (a:Nat):oN f a 0=f:=by funext j;unfold oN;rw [if_neg (by omega)]
theorem GK (f:Nat→Nat) (a k:Nat):cW (oN f a k) (a+k) (oN f a k (a+k+1))=oN f a (k+1):=by
 funext j
 simp only [cW,oN]
 by_cases h1:j=a+k
 ·rw [if_pos h1,if_neg (by omega),if_pos (by omega),h1]
 ·rw [if_neg h1]
  by_cases h2:a≤j∧j<a+k
  ·rw [if_pos h2,if_pos (by omega)]
  ·rw [if_neg h2,if_neg (by omega)]
theorem GA {f:Nat→Nat} {a m k c:Nat} (hk:k≤m):bc (cW (oN f a k) (a+k) c) a (m+1)=(bc f (a+1) m).take k++c::(bc f (a+1) m).drop k:=by
 apply List.ext_getElem
 ·simp [bY];omega
 ·intro i h1 h2
  rw [bY] at h1
  rw [ey h1]
  simp only [cW,oN]
  by_cases e1:i<k
  ·rw [List.getElem_append_left (by rw [List.length_take,bY];omega),List.getElem_take,ey (by omega),if_neg (by omega),if_pos (by omega)]
   congr 1;omega
  ·have hl:((bc f (a+1) m).take k).length=k:=by rw [List.length_take,bY];omega
   rw [List.getElem_append_right (by rw [hl];omega)]
   by_cases e2:i=k
   ·subst e2
    rw [if_pos rfl]
    simp [hl]
   ·rw [if_neg (by omega),if_neg (by omega)]
    simp only [hl]
    obtain ⟨d,hd⟩: ∃d,i - k=d+1:=⟨i - k - 1,by omega⟩
    simp only [hd,List.getElem_cons_succ,List.getElem_drop]
    rw [ey (by omega)]
    congr 1;omega
theorem Fy {last:List Nat} {idx c k:Nat}:((List.range (k+1)).countP fun j=>decide (last.getD j 0<c)||(last.getD j 0==c&&decide (j<idx)))=((List.range k).countP fun j=>decide (last.getD j 0<c)||(last.getD j 0==c&&decide (j<idx)))+if decide (last.getD k 0<c)||(last.getD k 0==c&&decide (k<idx)) then 1 else 0:=by
 rw [List.range_succ,List.countP_append,List.countP_singleton]
end Go.Vc
namespace Go.Proofs.YtgglghjnakclmaaGreat
open Go Go.Vc Go.Bw
section
variable {E w:World} {F:List HP} {A:AS} {f:Nat→Nat} {p q bt:Nat}
abbrev qP (bt:Nat) (A:AS) (p q:Nat):HP:=af bt (.cells ⟨[pA A,.int .i64 (p:Int),.int .i64 (q:Int)]⟩ 324 (0,0))
theorem wW {i:Nat} {K:Int→World→Prop} (h:Hp E w (qP bt A p q::Ar A f::F)) (hin:p+q≤A.live) (hi:i<q) (hK: ∀w',Hp E w' (qP bt A p q::Ar A f::F)→K (f (p+i):Int) w'):
  Cl Tryz.prog [ar .u8] cp ⟨[.pointer (some ⟨bt,0,none⟩),.int .i64 (i:Int)]⟩ w K:=by
 refine p4.ok _ _ _ _ (aJ.mk h fun w h=> ?_)
 (try simp only [aq,aj,ak,Nat.zero_add,Nat.add_zero,Nat.reduceAdd,Bool.not_true,Bool.not_false,az,ay,Option.isNone])
 refine Ld.xb h rfl (Ld.xt h rfl ?_)
 refine kF (h.at 1) hin (fun j hj hjq w h=> ?_) (fun hn=>absurd ⟨by omega,by omega⟩ hn)
 obtain rfl:i=j:=by omega
 exact hK w (h.at 1)
theorem FE {i m k:Nat} {K:Int→World→Prop} (h:Hp E w (qP bt A p q::Ar A f::F)) (hin:p+q≤A.live) (hN:A.N≤1000000) (hi:i+1+m=q) (hk:k≤m) (hb: ∀i,f i<256)
  (hK: ∀w',Hp E w' (qP bt A p q::Ar A (cW (oN f (p+i) k) (p+i+k) (f (p+i)))::F)→K ((1+xI (bc f (p+i+1) m) k (f (p+i)):Nat):Int) w'):
  Cl Tryz.prog [kI] dV ⟨[.pointer (some ⟨bt,0,none⟩),.int .i64 (i:Int),.int .i64 (k:Int)]⟩ w K:=by
 refine oo.ok _ _ _ _ _ ?_
 have hlive:A.live≤A.N:=(Ar.cN (h.at 1)).1.le
 refine wW h hin (by omega) fun w h=> ?_
 (try simp only [aq,aj,ak,Nat.zero_add,Nat.add_zero,Nat.reduceAdd,Bool.not_true,Bool.not_false,az,ay,Option.isNone])
 refine Ld.xb h rfl ?_
 simp (disch:=omega) only [ae]
 generalize hc:f (p+i)=c at hK
 have hcb:c<256:=hc▸hb _
 refine ⟨fun n t w=> ∃d:Nat,t=(d:Int)∧d≤m∧n=((1+((List.range d).countP fun j=>decide ((bc f (p+i+1) m).getD j 0<c)||((bc f (p+i+1) m).getD j 0==c&&decide (j<k))):Nat):Int)∧Hp E w (qP bt A p q::Ar A f::F),
  fun _ t _=>m - t.toNat,⟨0,rfl,by omega,by simp,h⟩,?_⟩
 rintro n t w ⟨d,rfl,hd,rfl,h⟩
 generalize hcnt:((List.range d).countP fun j=>decide ((bc f (p+i+1) m).getD j 0<c)||((bc f (p+i+1) m).getD j 0==c&&decide (j<k)))=dQ
 have hcl:dQ≤d:=by rw [←hcnt];exact Nat.le_trans List.countP_le_length (by simp)
 refine aa.dm (fun hlt=> ?_) (fun hge=> ?_)
 ·have hlt:d<m:=by omega
  simp (disch:=omega) only [ae]
  rw [show (i:Int)+1+(d:Int)=((i+1+d:Nat):Int) by omega]
  refine wW h hin (by omega) fun w h=> ?_
  have hg:(bc f (p+i+1) m).getD d 0=f (p+(i+1+d)):=by
   rw [List.getD_eq_getElem?_getD,List.getElem?_eq_getElem (by rw [bY];exact hlt),Option.getD_some,ey hlt]
   congr 1;omega
  have hst:=Fy (last:=bc f (p+i+1) m) (idx:=k) (c:=c) (k:=d)
  rw [hcnt,hg] at hst
  generalize f (p+(i+1+d))=x at hst⊢
  refine aa.dm (fun h1=> ?_) (fun h1=>aa.em (fun h2=>aa.dm (fun h3=> ?_) (fun h3=> ?_)) (fun h2=> ?_))
  ·rw [show decide (x<c)=true from decide_eq_true (by omega),Bool.true_or,if_pos rfl] at hst
   exact ⟨⟨d+1,by omega,by omega,by rw [hst];omega,h⟩,by first|omega|(dsimp only;omega)⟩
  ·rw [show (x==c)=true from beq_iff_eq.2 (by omega),show decide (d<k)=true from decide_eq_true (by omega),Bool.true_and,Bool.or_true,if_pos rfl] at hst
   exact ⟨⟨d+1,by omega,by omega,by rw [hst];omega,h⟩,by first|omega|(dsimp only;omega)⟩
  ·rw [show decide (x<c)=false from decide_eq_false (by omega),show decide (d<k)=false from decide_eq_false (by omega),Bool.and_false,Bool.or_false,if_neg (by simp)] at hst
   exact ⟨⟨d+1,by omega,by omega,by rw [hst];omega,h⟩,by first|omega|(dsimp only;omega)⟩
  ·rw [show decide (x<c)=false from decide_eq_false (by omega),show (x==c)=false from beq_eq_false_iff_ne.2 (by omega),Bool.false_and,Bool.or_false,if_neg (by simp)] at hst
   exact ⟨⟨d+1,by omega,by omega,by rw [hst];omega,h⟩,by first|omega|(dsimp only;omega)⟩
 ·obtain rfl:d=m:=by omega
  have hbef:xI (bc f (p+i+1) d) k c=dQ:=by unfold xI;rw [bY];exact hcnt
  rw [hbef] at hK
  clear hcnt hbef
  refine ⟨fun t w=> ∃r:Nat,t=(r:Int)∧r≤k∧Hp E w (qP bt A p q::Ar A (oN f (p+i) r)::F),fun t _=>k - t.toNat,⟨0,rfl,by omega,by rw [GW];exact h⟩,?_⟩
  rintro t w ⟨r,rfl,hr,h⟩
  refine aa.dm (fun hlt=> ?_) (fun hge=> ?_)
  ·have hlt:r<k:=by omega
   have h:=h.drew (n:=w.drawn+1)
   (try simp only [aq,aj,ak,Nat.zero_add,Nat.add_zero,Nat.reduceAdd,Bool.not_true,Bool.not_false,az,ay,Option.isNone])
   refine ⟨di bt _ _ _,h.hb,aG.xb (fun _ h=>h) rfl (aG.xt (fun _ h=>h) rfl ?_)⟩
   simp (disch:=omega) only [ae]
   rw [show (i:Int)+(r:Int)+1=((i+r+1:Nat):Int) by omega]
   refine wW h hin (by omega) fun w h=>⟨h.hb,?_⟩
   rw [show (i:Int)+(r:Int)=((i+r:Nat):Int) by omega]
   have hby:oN f (p+i) r (p+(i+r+1))<256:=by unfold oN;split<;>exact hb _
   refine iY (h.at 1) hin (by omega) hby fun w h=>⟨(h.at 1).hb,⟨r+1,by omega,by omega,?_⟩,by first|omega|(dsimp only;omega)⟩
   have h:=h.at 1
   rw [show p+(i+r+1)=p+i+r+1 by omega,show p+(i+r)=p+i+r by omega,GK] at h
   exact h
  ·obtain rfl:r=k:=by omega
   refine aJ.mk h fun w h=> ?_
   (try simp only [aq,aj,ak,Nat.zero_add,Nat.add_zero,Nat.reduceAdd,Bool.not_true,Bool.not_false,az,ay,Option.isNone])
   refine Ld.xb h rfl (Ld.xt h rfl ?_)
   simp (disch:=omega) only [ae]
   rw [show (i:Int)+(r:Int)=((i+r:Nat):Int) by omega]
   refine iY (h.at 1) hin (by omega) hcb fun w h=> ?_
   have h:=h.at 1
   rw [show p+(i+r)=p+i+r by omega] at h
   exact hK w h
theorem I9 {K:Bool→World→Prop} (h:Hp E w (Ar A f::F)) (hin:p+q≤A.live) (hq:0<q) (hq2:q≤65536) (hK: ∀w',Hp E w' (Ar A f::F)→K true w'):Cl Tryz.prog [kB] ib ⟨[pA A,jV p q]⟩ w K:=by
 refine uc.ok _ ((p:Int),(q:Int),()) _ _ ?_
 dsimp only
 refine Nw.mk h fun b w h=>Ld.xt h rfl ?_
 refine kW (h.at 1) hin fun w h=> ?_
 refine aa.t rfl ?_
 (try simp only [aq,aj,ak,Nat.zero_add,Nat.add_zero,Nat.reduceAdd,Bool.not_true,Bool.not_false,az,ay,Option.isNone])
 refine Ld.xb h rfl (aa.dt (by omega) (Ld.xb h rfl ?_))
 exact FL (decide_eq_true (by omega)) (hK _ (h.no 1))
theorem Gz {K:Int→Int→Int→World→Prop} (h:Hp E w (Ar A f::F)) (hin:p+q≤A.live) (hq:0<q) (hq2:q≤65536)
  (hK: ∀(g:Nat→Nat) (s:Int) w',bc g p q=aQ (bc f p q)→(∀j,¬(p≤j∧j<p+q)→g j=f j)→Hp E w' (Ar A g::F)→K (ba (bc f p q):Int) s 0 w'):
  Cl Tryz.prog [kI,kI,kI] iR ⟨[pA A,jV p q]⟩ w K:=by
 refine vJ.ok _ ((p:Int),(q:Int),()) _ _ ?_
 obtain ⟨ok,_⟩:=Ar.cN h
 have hN:=ok.bO
 have hle:=ok.le
 dsimp only
 refine Nw.mk h fun b4 w h=>Ld.xt h rfl ?_
 refine I9 (h.at 1) hin hq hq2 fun w h=>aa.f rfl ?_
 refine Ld.xt h rfl (Nw.mk h fun bt w h=> ?_)
 (try simp only [aq,aj,ak,Nat.zero_add,Nat.add_zero,Nat.reduceAdd,Bool.not_true,Bool.not_false,az,ay,Option.isNone])
 refine Ld.xb h rfl ?_
 simp (disch:=omega) only [ae]
 have hxl:(bc f p q).length=q:=bY ..
 generalize hx:bc f p q=x at hK hxl
 refine ⟨fun index _ i w=> ∃(k:Nat) (g:Nat→Nat),k≤q∧i=(k:Int) - 1∧index=(ba (x.drop k):Int)∧bc g (p+k) (q - k)=aQ (x.drop k)∧(∀j,j<k→g (p+j)=f (p+j))∧(∀j,¬(p≤j∧j<p+q)→g j=f j)∧
  Hp E w (qP bt A p q::Ar A g::af b4 (.cells ⟨[.int .i64 (p:Int),.int .i64 (q:Int)]⟩ 146 (0,0))::F),fun _ _ i _=>(i+1).toNat,
  ⟨q,f,Nat.le_refl _,rfl,?_,?_,fun _ _=>rfl,fun _ _=>rfl,h⟩,?_⟩
 ·rw [List.drop_of_length_le (by omega),show ba []=0 from Nat.le_zero.1 (kK [])];rfl
 ·rw [List.drop_of_length_le (by omega),Nat.sub_self,show aQ []= [] from List.length_eq_zero_iff.1 (by rw [ct];rfl)];rfl
 rintro index s i w ⟨k,g,hk,rfl,rfl,hrow,hlo,hout,h⟩
 refine aa.dm (fun hge=> ?_) (fun hlt=> ?_)
 ·obtain ⟨i,rfl⟩: ∃i,k=i+1:=⟨k - 1,by omega⟩
  obtain ⟨okg,_⟩:=Ar.cN (h.at 1)
  have hidx:ba (x.drop (i+1))≤q - (i+1):=by
   have:=kK (x.drop (i+1))
   rw [List.length_drop,hxl] at this;exact this
  refine Ld.xb h rfl ?_
  rw [show ((i+1:Nat):Int) - 1=(i:Int) by omega]
  refine FE (m:=q - (i+1)) h hin hN (by omega) hidx okg.byt fun w h=> ?_
  have hdrop:x.drop i=g (p+i)::x.drop (i+1):=by
   rw [List.drop_eq_getElem_cons (by omega),hlo i (by omega)]
   congr 1
   subst hx
   exact ey (by omega)
  simp (disch:=omega) only [ae]
  refine ⟨⟨i,_,by omega,by omega,?_,?_,?_,?_,h⟩,by first|omega|(dsimp only;omega)⟩
  ·rw [hdrop,EB,←hrow]
   rfl
  ·rw [hdrop,vK,←hrow,show q - i=q - (i+1)+1 by omega]
   exact GA hidx
  ·intro j hj
   rw [←hlo j (by omega)]
   simp only [cW,oN]
   rw [if_neg (by omega),if_neg (by omega)]
  ·intro j hj
   rw [←hout j hj]
   simp only [cW,oN]
   rw [if_neg (by omega),if_neg (by omega)]
 ·obtain rfl:k=0:=by omega
  rw [List.drop_zero,Nat.add_zero,Nat.sub_zero] at hrow
  rw [List.drop_zero]
  exact hK g s w hrow hout ((h.no 0).no 1)
end
end Go.Proofs.YtgglghjnakclmaaGreat
namespace Go.Proofs.YtgglghjnakclmaaGreat
open Go Go.Vc
set_option maxRecDepth 100000
theorem xf.ok (a:(Option Addr)) (b:(TT [.int .i64,.int .i64])) (c:(TT [.int .i64,.int .i64])) (d:(TT [.int .i64,.int .i64])) (R:Int→Int→Int→World→Prop) w (h:
 Nw 146 ⟨[(ni b.1),(ni b.2.1)]⟩ w fun f e=>
 Nw 146 ⟨[(ni c.1),(ni c.2.1)]⟩ e fun h g=>
 Nw 146 ⟨[(ni d.1),(ni d.2.1)]⟩ g fun j i=>
 Ld (.st [.int .i64,.int .i64]) ⟨f,0,none⟩ i fun k=>
 Ld (.st [.int .i64,.int .i64]) ⟨h,0,none⟩ i fun l=>
 Ld (.st [.int .i64,.int .i64]) ⟨j,0,none⟩ i fun m=>
 Cl Pg [kB] iH ⟨[(.pointer a),(.agg ⟨[(ni k.1),(ni k.2.1)]⟩),(.agg ⟨[(ni l.1),(ni l.2.1)]⟩),(.agg ⟨[(ni m.1),(ni m.2.1)]⟩)]⟩ i fun (o:Bool) n=>
 aa (!o)
 (R 0 0 2 n)
 (Ld (.st [.int .i64,.int .i64]) ⟨f,0,none⟩ n fun p=>
 Ld (.st [.int .i64,.int .i64]) ⟨j,0,none⟩ n fun q=>
 Nw 329 ⟨[(.pointer a),(ni p.1),(ni p.2.1),(ni q.1),(ni q.2.1),(ni 0)]⟩ n fun s r=>
 Nw 327 ⟨[(.pointer none)]⟩ r fun u t=>
 St ⟨u,0,none⟩ (.pointer (some ⟨s,0,none⟩)) t fun v=>
 Ld kI (Addr.add ⟨j,0,none⟩ 1) v fun (x:Int)=>
 (4:Int)≠0∧
 Ld kI (Addr.add ⟨f,0,none⟩ 1) v fun (y:Int)=>
 Nw 3 ⟨[(ni 0)]⟩ v fun a1 z=>
 St ⟨a1,0,none⟩ (ni (-1)) z fun b1=>
 Mi 0 0 0 0 b1 fun c1 d1 (e1:Int) (f1:Int) (g1:Int) (h1:Int) i1=>
 Ld kI (Addr.add ⟨f,0,none⟩ 1) i1 fun (j1:Int)=>
 aa (decide (h1≤j1))
 (Ld kP ⟨u,0,none⟩ i1 fun k1=>
 Cl Pg [] dZ ⟨[(.pointer k1),(ni (if (i64 (y+1))<(i64 (Int.tdiv x (4:Int))) then (i64 (y+1)) else (i64 (Int.tdiv x (4:Int))))),(.func (.func 257) ⟨[]⟩ ⟨[(.pointer (some ⟨a1,0,none⟩)),(.pointer (some ⟨u,0,none⟩))]⟩)]⟩ i1 fun l1=>
 Ld kP ⟨u,0,none⟩ l1 fun m1=>
 Cl Pg [kI] eK ⟨[(.pointer m1)]⟩ l1 fun (o1:Int) n1=>
 Mi e1 g1 h1 0 n1 fun p1 q1 (r1:Int) (s1:Int) (t1:Int) (u1:Int) v1=>
 aa (decide (u1<o1))
 (Ld kP ⟨u,0,none⟩ v1 fun x1=>
 Cl Pg [kI] aM ⟨[(.pointer x1),(ni u1)]⟩ v1 fun (z1:Int) y1=>
 St ⟨a1,0,none⟩ (ni z1) y1 fun a2=>
 Ld kI ⟨a1,0,none⟩ a2 fun (b2:Int)=>
 aa (b2==0)
 (p1 t1 s1 (i64 (t1+1)) (i64 (u1+1)) a2∧q1 t1 s1 (i64 (t1+1)) (i64 (u1+1)) a2<q1 r1 s1 t1 u1 v1)
 (Ld (.st [.int .i64,.int .i64]) ⟨f,0,none⟩ a2 fun c2=>
 Ld kI ⟨a1,0,none⟩ a2 fun (d2:Int)=>
 Cl Pg [(ar .u8),kB] bz ⟨[(.pointer a),(.agg ⟨[(ni c2.1),(ni c2.2.1)]⟩),(ni (i64 (d2 - 1)))]⟩ a2 fun (f2:Int) (g2:Bool) e2=>
 Ld (.st [.int .i64,.int .i64]) ⟨h,0,none⟩ e2 fun h2=>
 Cl Pg [kB] bJ ⟨[(.pointer a),(.agg ⟨[(ni h2.1),(ni h2.2.1)]⟩),(ni s1),(.int .u8 f2)]⟩ e2 fun (j2:Bool) i2=>
 p1 r1 (i64 (s1+1)) (i64 (t1+1)) (i64 (u1+1)) i2∧q1 r1 (i64 (s1+1)) (i64 (t1+1)) (i64 (u1+1)) i2<q1 r1 s1 t1 u1 v1))
 (c1 r1 (i64 (f1+1)) s1 t1 v1∧d1 r1 (i64 (f1+1)) s1 t1 v1<d1 e1 f1 g1 h1 i1))
 (R e1 f1 0 i1))):Cl Pg [kI,kI,kI] js ⟨[(.pointer a),(.agg ⟨[(ni b.1),(ni b.2.1)]⟩),(.agg ⟨[(ni c.1),(ni c.2.1)]⟩),(.agg ⟨[(ni d.1),(ni d.2.1)]⟩)]⟩ w R:=co Tryz.f196 [(14,[(8,kI),(9,kI),(14,kI),(15,kI)]),(23,[(8,kI),(14,kI),(15,kI),(49,kI)])] h
theorem uX.ok (a:(Option Addr)) (b:(TT [.int .i64,.int .i64])) (c:(TT [.int .i64,.int .i64])) (d:(TT [.int .i64,.int .i64])) (R:Bool→World→Prop) w (h:
 Nw 146 ⟨[(ni b.1),(ni b.2.1)]⟩ w fun f e=>
 Nw 146 ⟨[(ni c.1),(ni c.2.1)]⟩ e fun h g=>
 Nw 146 ⟨[(ni d.1),(ni d.2.1)]⟩ g fun j i=>
 a7 (fun (u:World)=>
 a7 (fun (c1:World)=>
 Ld (.st [.int .i64,.int .i64]) ⟨f,0,none⟩ c1 fun d1=>
 Ld (.st [.int .i64,.int .i64]) ⟨h,0,none⟩ c1 fun e1=>
 Cl Pg [kB] dP ⟨[(.agg ⟨[(ni d1.1),(ni d1.2.1)]⟩),(.agg ⟨[(ni e1.1),(ni e1.2.1)]⟩)]⟩ c1 fun (g1:Bool) f1=>
 aa g1
 (Ld (.st [.int .i64,.int .i64]) ⟨f,0,none⟩ f1 fun h1=>
 Ld (.st [.int .i64,.int .i64]) ⟨j,0,none⟩ f1 fun i1=>
 Cl Pg [kB] dP ⟨[(.agg ⟨[(ni h1.1),(ni h1.2.1)]⟩),(.agg ⟨[(ni i1.1),(ni i1.2.1)]⟩)]⟩ f1 fun (k1:Bool) j1=>
 aa k1
 (Ld (.st [.int .i64,.int .i64]) ⟨h,0,none⟩ j1 fun l1=>
 Ld (.st [.int .i64,.int .i64]) ⟨j,0,none⟩ j1 fun m1=>
 Cl Pg [kB] dP ⟨[(.agg ⟨[(ni l1.1),(ni l1.2.1)]⟩),(.agg ⟨[(ni m1.1),(ni m1.2.1)]⟩)]⟩ j1 fun (o1:Bool) n1=>
 R o1 n1)
 (R false j1))
 (R false f1)) fun v=>
 Ld kI (Addr.add ⟨f,0,none⟩ 1) u fun (x:Int)=>
 aa (decide (x<1))
 (R false u)
 (Ld kI (Addr.add ⟨f,0,none⟩ 1) u fun (y:Int)=>
 aa (decide (y>65536))
 (R false u)
 (Ld kI (Addr.add ⟨h,0,none⟩ 1) u fun (z:Int)=>
 Ld kI (Addr.add ⟨f,0,none⟩ 1) u fun (a1:Int)=>
 aa (z !=a1)
 (R false u)
 (Ld kI (Addr.add ⟨j,0,none⟩ 1) u fun (b1:Int)=>
 aa (decide (b1<4))
 (R false u)
 (v u))))) fun k=>
 Ld (.st [.int .i64,.int .i64]) ⟨f,0,none⟩ i fun l=>
 Cl Pg [kB] bG ⟨[(.pointer a),(.agg ⟨[(ni l.1),(ni l.2.1)]⟩)]⟩ i fun (n:Bool) m=>
 aa (!n)
 (R false m)
 (Ld (.st [.int .i64,.int .i64]) ⟨h,0,none⟩ m fun o=>
 Cl Pg [kB] bG ⟨[(.pointer a),(.agg ⟨[(ni o.1),(ni o.2.1)]⟩)]⟩ m fun (q:Bool) p=>
 aa (!q)
 (R false p)
 (Ld (.st [.int .i64,.int .i64]) ⟨j,0,none⟩ p fun r=>
 Cl Pg [kB] bG ⟨[(.pointer a),(.agg ⟨[(ni r.1),(ni r.2.1)]⟩)]⟩ p fun (t:Bool) s=>
 aa (!t)
 (R false s)
 (k s)))):Cl Pg [kB] iH ⟨[(.pointer a),(.agg ⟨[(ni b.1),(ni b.2.1)]⟩),(.agg ⟨[(ni c.1),(ni c.2.1)]⟩),(.agg ⟨[(ni d.1),(ni d.2.1)]⟩)]⟩ w R:=co Tryz.f255 [(2,[]),(7,[])] h
theorem om.ok (a:(Option Addr)) (b:Int) (c:Value) (R:World→Prop) w (h:
 ao a fun d=>
 St (d.add 5) (ni 0) w fun e=>
 ao a fun f=>
 Ld kI ((f.add 1).add 1) e fun (g:Int)=>
 c8 0 e fun h i (j:Int) k=>
 aa (decide (j<(i64 (g+1))))
 (de Pg c [kB] [(ni j)] k fun (m:Bool) l=>
 aa (!m)
 (h (i64 (j+1)) l∧i (i64 (j+1)) l<i j k)
 (ao a fun n=>
 Ld kI (n.add 5) l fun (o:Int)=>
 aa (decide (o<b))
 (Cl Pg [] eJ ⟨[(.pointer a),(ni j)]⟩ l fun p=>
 h (i64 (j+1)) p∧i (i64 (j+1)) p<i j k)
 (Cl Pg [kI] aM ⟨[(.pointer a),(ni 0)]⟩ l fun (r:Int) q=>
 Cl Pg [kB] bx ⟨[(.pointer a),(ni j),(ni r)]⟩ q fun (t:Bool) s=>
 aa t
 (Cl Pg [] a6 ⟨[(.pointer a),(ni 0),(ni j)]⟩ s fun u=>
 Cl Pg [] c7 ⟨[(.pointer a),(ni 0)]⟩ u fun v=>
 h (i64 (j+1)) v∧i (i64 (j+1)) v<i j k)
 (h (i64 (j+1)) s∧i (i64 (j+1)) s<i j k))))
 (R k)):Cl Pg [] dZ ⟨[(.pointer a),(ni b),c]⟩ w R:=co Tryz.f256 [(4,[(16,kI)])] h
theorem uA.ok (a:Int) (b:Addr) (c:Addr) (R:Bool→World→Prop) w (h:
 Ld kI b w fun (d:Int)=>
 aa (decide (d<0))
 (R true w)
 (Ld kP c w fun e=>
 Ld kI b w fun (f:Int)=>
 Cl Pg [kB] bx ⟨[(.pointer e),(ni f),(ni a)]⟩ w fun (h:Bool) g=>
 R h g)):Cl Pg [kB] lF ⟨[(ni a),(.pointer (some b)),(.pointer (some c))]⟩ w R:=co Tryz.f257 [] h
theorem pL.ok (a:(Option Addr)) (b:Int) (c:Int) (R:Bool→World→Prop) w (h:
 bq b c w fun d e (f:Int) (g:Int) h=>
 aJ h fun i=>
 ao a fun j=>
 Ld kP (j.add 0) i fun k=>
 ao a fun l=>
 Ld (.st [.int .i64,.int .i64]) (l.add 1) i fun m=>
 Cl Pg [(ar .u8),kB] bz ⟨[(.pointer k),(.agg ⟨[(ni m.1),(ni m.2.1)]⟩),(ni f)]⟩ i fun (o:Int) (p:Bool) n=>
 aJ n fun q=>
 ao a fun r=>
 Ld kP (r.add 0) q fun s=>
 ao a fun t=>
 Ld (.st [.int .i64,.int .i64]) (t.add 1) q fun u=>
 Cl Pg [(ar .u8),kB] bz ⟨[(.pointer s),(.agg ⟨[(ni u.1),(ni u.2.1)]⟩),(ni g)]⟩ q fun (x:Int) (y:Bool) v=>
 aa (!p)
 (aa (!p)
 (R y v)
 (R false v))
 (aa (!y)
 (aa (!p)
 (R y v)
 (R false v))
 (aa (o !=x)
 (R (decide (o<x)) v)
 (aa (f==g)
 (R false v)
 (d (i64 (f+1)) (i64 (g+1)) v∧e (i64 (f+1)) (i64 (g+1)) v<e f g h))))):Cl Pg [kB] bx ⟨[(.pointer a),(ni b),(ni c)]⟩ w R:=co Tryz.f258 [(2,[(1,kI),(2,kI)])] h
theorem pD.ok (a:(Option Addr)) (R:Int→World→Prop) w (h:
 ao a fun b=>
 Ld kI (b.add 5) w fun (c:Int)=>
 MD w fun d e f=>
 ao a fun g=>
 Ld kI (g.add 5) f fun (h:Int)=>
 aa (decide (h>1))
 (ao a fun i=>
 Ld kI (i.add 5) f fun (j:Int)=>
 ao a fun k=>
 St (k.add 5) (ni (i64 (j - 1))) f fun l=>
 gw l fun m n=>
 ao a fun o=>
 aG kI (o.add 5) m fun (p:Int)=>
 Cl Pg [kI] aM ⟨[(.pointer a),(ni 0)]⟩ n fun (r:Int) q=>
 m q∧
 Cl Pg [kI] aM ⟨[(.pointer a),(ni p)]⟩ q fun (t:Int) s=>
 m s∧
 Cl Pg [] a6 ⟨[(.pointer a),(ni 0),(ni t)]⟩ s fun u=>
 ao a fun v=>
 Ld kI (v.add 5) u fun (x:Int)=>
 Cl Pg [] a6 ⟨[(.pointer a),(ni x),(ni r)]⟩ u fun y=>
 Cl Pg [] c7 ⟨[(.pointer a),(ni 0)]⟩ y fun z=>
 d z∧e z<e f)
 (R c f)):Cl Pg [kI] eK ⟨[(.pointer a)]⟩ w R:=co Tryz.f259 [(5,[])] h
theorem qd.ok (a:(Option Addr)) (b:Int) (R:Int→World→Prop) w (h:
 aJ w fun c=>
 ao a fun d=>
 Ld kP (d.add 0) c fun e=>
 ao a fun f=>
 Ld (.st [.int .i64,.int .i64]) (f.add 3) c fun g=>
 Cl Pg [(ar .u32),kB] ij ⟨[(.pointer e),(.agg ⟨[(ni g.1),(ni g.2.1)]⟩),(ni b)]⟩ c fun (i:Int) (j:Bool) h=>
 R (i64 i) h):Cl Pg [kI] aM ⟨[(.pointer a),(ni b)]⟩ w R:=co Tryz.f260 [] h
theorem vk.ok (a:(TT [.int .i64,.int .i64])) (b:(TT [.int .i64,.int .i64])) (R:Bool→World→Prop) w (h:
 Nw 146 ⟨[(ni a.1),(ni a.2.1)]⟩ w fun d c=>
 Nw 146 ⟨[(ni b.1),(ni b.2.1)]⟩ c fun f e=>
 Ld kI (Addr.add ⟨d,0,none⟩ 1) e fun (g:Int)=>
 aa (g==0)
 (R true e)
 (Ld kI (Addr.add ⟨f,0,none⟩ 1) e fun (h:Int)=>
 aa (h==0)
 (R true e)
 (Ld kI (Addr.add ⟨d,0,none⟩ 0) e fun (i:Int)=>
 Ld kI (Addr.add ⟨d,0,none⟩ 1) e fun (j:Int)=>
 Ld kI (Addr.add ⟨f,0,none⟩ 0) e fun (k:Int)=>
 aa (decide ((i64 (i+j))≤k))
 (R true e)
 (Ld kI (Addr.add ⟨f,0,none⟩ 0) e fun (l:Int)=>
 Ld kI (Addr.add ⟨f,0,none⟩ 1) e fun (m:Int)=>
 Ld kI (Addr.add ⟨d,0,none⟩ 0) e fun (n:Int)=>
 R (decide ((i64 (l+m))≤n)) e)))):Cl Pg [kB] dP ⟨[(.agg ⟨[(ni a.1),(ni a.2.1)]⟩),(.agg ⟨[(ni b.1),(ni b.2.1)]⟩)]⟩ w R:=co Tryz.f301 [] h
theorem p0.ok (a:(Option Addr)) (b:Int) (R:World→Prop) w (h:
 ao a fun c=>
 Ld kI (c.add 5) w fun (d:Int)=>
 Cl Pg [] a6 ⟨[(.pointer a),(ni d),(ni b)]⟩ w fun e=>
 ao a fun f=>
 Ld kI (f.add 5) e fun (g:Int)=>
 ao a fun h=>
 St (h.add 5) (ni (i64 (g+1))) e fun i=>
 c8 d i fun j k (l:Int) m=>
 aa (decide (l>0))
 ((2:Int)≠0∧
 Cl Pg [kI] aM ⟨[(.pointer a),(ni (i64 (Int.tdiv (i64 (l - 1)) (2:Int))))]⟩ m fun (o:Int) n=>
 Cl Pg [kI] aM ⟨[(.pointer a),(ni l)]⟩ n fun (q:Int) p=>
 Cl Pg [kB] bx ⟨[(.pointer a),(ni o),(ni q)]⟩ p fun (s:Bool) r=>
 aa (!s)
 (R r)
 (Cl Pg [] a6 ⟨[(.pointer a),(ni (i64 (Int.tdiv (i64 (l - 1)) (2:Int)))),(ni q)]⟩ r fun t=>
 Cl Pg [] a6 ⟨[(.pointer a),(ni l),(ni o)]⟩ t fun u=>
 j (i64 (Int.tdiv (i64 (l - 1)) (2:Int))) u∧k (i64 (Int.tdiv (i64 (l - 1)) (2:Int))) u<k l m))
 (R m)):Cl Pg [] eJ ⟨[(.pointer a),(ni b)]⟩ w R:=co Tryz.f302 [(6,[(4,kI)])] h
theorem qJ.ok (a:(Option Addr)) (b:Int) (c:Int) (R:World→Prop) w (h:
 aJ w fun d=>
 ao a fun e=>
 Ld kP (e.add 0) d fun f=>
 ao a fun g=>
 Ld (.st [.int .i64,.int .i64]) (g.add 3) d fun h=>
 Cl Pg [kB] fC ⟨[(.pointer f),(.agg ⟨[(ni h.1),(ni h.2.1)]⟩),(ni b),(.int .u32 (u32 c))]⟩ d fun (j:Bool) i=>
 R i):Cl Pg [] a6 ⟨[(.pointer a),(ni b),(ni c)]⟩ w R:=co Tryz.f303 [] h
theorem px.ok (a:(Option Addr)) (b:Int) (R:World→Prop) w (h:
 c8 b w fun c d (e:Int) f=>
 a7 (fun (p:Int) (q:World)=>
 ao a fun r=>
 Ld kI (r.add 5) q fun (s:Int)=>
 aa (decide (p≥s))
 (R q)
 (Cl Pg [kI] aM ⟨[(.pointer a),(ni e)]⟩ q fun (u:Int) t=>
 Cl Pg [kI] aM ⟨[(.pointer a),(ni p)]⟩ t fun (x:Int) v=>
 Cl Pg [kB] bx ⟨[(.pointer a),(ni u),(ni x)]⟩ v fun (z:Bool) y=>
 aa (!z)
 (R y)
 (Cl Pg [kI] aM ⟨[(.pointer a),(ni e)]⟩ y fun (b1:Int) a1=>
 Cl Pg [kI] aM ⟨[(.pointer a),(ni p)]⟩ a1 fun (d1:Int) c1=>
 Cl Pg [] a6 ⟨[(.pointer a),(ni e),(ni d1)]⟩ c1 fun e1=>
 Cl Pg [] a6 ⟨[(.pointer a),(ni p),(ni b1)]⟩ e1 fun f1=>
 c p f1∧d p f1<d e f))) fun g=>
 ao a fun h=>
 Ld kI (h.add 5) f fun (i:Int)=>
 aa (decide ((i64 ((i64 ((i64 ((2:Int)*e))+1))+1))<i))
 (Cl Pg [kI] aM ⟨[(.pointer a),(ni (i64 ((i64 ((2:Int)*e))+1)))]⟩ f fun (k:Int) j=>
 Cl Pg [kI] aM ⟨[(.pointer a),(ni (i64 ((i64 ((i64 ((2:Int)*e))+1))+1)))]⟩ j fun (m:Int) l=>
 Cl Pg [kB] bx ⟨[(.pointer a),(ni k),(ni m)]⟩ l fun (o:Bool) n=>
 aa o
 (g (i64 ((i64 ((i64 ((2:Int)*e))+1))+1)) n)
 (g (i64 ((i64 ((2:Int)*e))+1)) n))
 (g (i64 ((i64 ((2:Int)*e))+1)) f)):Cl Pg [] c7 ⟨[(.pointer a),(ni b)]⟩ w R:=co Tryz.f304 [(0,[(1,kI)]),(3,[(4,kI)])] h
end Go.Proofs.YtgglghjnakclmaaGreat
set_option maxRecDepth 20000
namespace Go.Vc
open Go
def wp (f:Nat→Nat) (P:Nat):Nat→Nat
 |0=>0
 |k+1=>wp f P k+f (P+k)*256^k
theorem Iu {f:Nat→Nat} (h: ∀i,f i<256) (P:Nat): ∀k,wp f P k<256^k
 |0=>by simp [wp]
 |k+1=>by
  have h1:=Iu h P k
  have h2:f (P+k)*256^k≤255*256^k:=Nat.mul_le_mul_right _ (by have:=h (P+k);omega)
  rw [wp,Nat.pow_succ];omega
theorem Ka (f:Nat→Nat) (P:Nat):wp f P 4=fq f P:=by
 simp only [wp,fq,Nat.add_zero,Nat.pow_zero,Nat.mul_one,Nat.zero_add,Nat.pow_one]
 rw [show (256^2:Nat)=65536 from rfl,show (256^3:Nat)=16777216 from rfl]
 omega
theorem I6 {v x k:Nat} (hv:v<256^k) (hx:x<256) (hk:k<4):rp .u32 (v:Int) (eG .u32 (u32 (x:Int)) (i64 ((8:Int)*(k:Int))))=((v+x*256^k:Nat):Int):=by
 have hm:IntKind.max .u32=4294967295:=rfl
 have hp:(256:Nat)^k=2^(8*k):=by rw [Nat.pow_mul]
 have hb:x*256^k≤255*16777216:=Nat.mul_le_mul (by omega) (by
  have:256^k≤256^3:=Nat.pow_le_pow_right (by decide) (by omega)
  exact this)
 have hvb:v<16777216:=Nat.lt_of_lt_of_le hv (by
  have:256^k≤256^3:=Nat.pow_le_pow_right (by decide) (by omega)
  exact this)
 rw [eP (by omega),ae (by omega),show (8:Int)*(k:Int)=((8*k:Nat):Int) by omega,k4 (by show 8*k≤32;omega) (by rw [hm,←hp];omega),←hp]
 have e:v|||x*256^k=v+x*256^k:=by
  rw [hp] at hv⊢
  rw [Nat.or_comm,Nat.mul_comm x,←Nat.two_pow_add_eq_or_of_lt hv,Nat.add_comm]
 rw [wR (by rw [hm];omega) (by rw [hm];omega) (by rw [hm,e];omega),e]
theorem Ht {v k:Nat} (_hv:v<4294967296) (hk:k<4):u8 (aO .u32 (v:Int) (i64 ((8:Int)*(k:Int))))=(((c9 v).getD k 0:Nat):Int):=by
 rw [ae (by omega),show (8:Int)*(k:Int)=((8*k:Nat):Int) by omega,cD (by show 8*k≤32;omega),pq]
 match k,hk with
 |0,_=>simp [c9]
 |1,_=>simp [c9]
 |2,_=>simp [c9]
 |3,_=>simp [c9]
theorem En {f:Nat→Nat} {p x:Nat} {b:List Nat}:cW (eD f p b) (p+b.length) x=eD f p (b++ [x]):=by
 funext j
 by_cases h1:j=p+b.length
 ·subst h1
  rw [jM (b:=b++ [x]) (by simp)]
  simp [cW,List.getD]
 ·unfold cW
  rw [if_neg h1]
  by_cases h2:p≤j∧j<p+b.length
  ·obtain ⟨i,rfl⟩: ∃i,j=p+i:=⟨j - p,by omega⟩
   rw [jM (by omega),jM (by simp;omega)]
   simp [List.getD,List.getElem?_append_left (show i<b.length by omega)]
  ·rw [gf h2,gf (by simp;omega)]
theorem Hl (f:Nat→Nat) (p:Nat):eD f p []=f:=by funext j;rw [gf (by simp)]
theorem DY (v:Nat): ∀x∈c9 v,x<256:=by
 intro x hx
 simp only [c9,List.mem_cons,List.not_mem_nil,or_false] at hx
 omega
end Go.Vc
namespace Go.Proofs.YtgglghjnakclmaaGreat
open Go Go.Vc
section
variable {E w:World} {F:List HP} {A:AS} {f:Nat→Nat}
theorem yl {p q i:Nat} {K:Sl→World→Prop} (h:Hp E w (Ar A f::F)) (hin:p+q≤A.live) (hi:4*i+4≤q) (hK: ∀w',Hp E w' (Ar A f::F)→K ⟨some ⟨A.m,p+4*i,none⟩,4,4⟩ w'):
  Cl Tryz.prog [kS] eV ⟨[pA A,jV p q,.int .i64 (i:Int)]⟩ w K:=by
 refine uJ.ok _ ((p:Int),(q:Int),()) _ _ _ ?_
 dsimp only
 obtain ⟨ok,_⟩:=Ar.cN h
 have h1:=ok.le;have h2:=ok.bO
 refine Nw.mk h fun b w h=>aa.df (by omega) (aa.df (by omega) (Ld.xt h rfl ⟨by decide,?_⟩))
 have hm:IntKind.max .i64=9223372036854775807:=rfl
 have e:eG .i64 (i:Int) (2:Int)=((4*i:Nat):Int):=by
  have:=k4 (k:= .i64) (a:=i) (b:=2) (by decide) (by rw [hm];omega)
  rw [show (2:Int)=((2:Nat):Int) from rfl,this]
  omega
 rw [e]
 refine uq (n:=4) (h.at 1) hin (by omega) (by omega) (fun j hj hjq w h=> ?_) (fun hn w h=>absurd ⟨by omega,by omega⟩ hn)
 obtain rfl:4*i=j:=by omega
 exact hK w (h.no 1)
theorem HE {p q i:Nat} {K:Int→Bool→World→Prop} (h:Hp E w (Ar A f::F)) (hin:p+q≤A.live) (hi:4*i+4≤q) (hK: ∀w',Hp E w' (Ar A f::F)→K (fq f (p+4*i):Int) true w'):
  Cl Tryz.prog [ar .u32,kB] ij ⟨[pA A,jV p q,.int .i64 (i:Int)]⟩ w K:=by
 refine um.ok _ ((p:Int),(q:Int),()) _ _ _ ?_
 dsimp only
 refine Nw.mk h fun b w h=>Ld.xt h rfl ?_
 refine yl (h.at 1) hin hi fun w h=> ?_
 have h:=h.no 1
 refine ⟨fun v t w=> ∃k:Nat,t=(k:Int)∧k≤4∧v=(wp f (p+4*i) k:Int)∧Hp E w (Ar A f::F),fun _ t _=>4 - t.toNat,⟨0,rfl,by omega,rfl,h⟩,?_⟩
 rintro v t w ⟨k,rfl,hk,rfl,h⟩
 refine aa.dm (fun hlt=> ?_) (fun hge=> ?_)
 ·dsimp only at hlt
  have hlt:k<4:=by omega
  refine an.mk rfl (by omega) (by dsimp only;omega) ?_
  obtain ⟨ok,h⟩:=Ar.cN h
  have h1:=ok.le
  rw [Int.toNat_natCast,Nat.mul_one,ak]
  refine Ld.xb h (xl (by omega)) ⟨by rw [ae (by omega)];omega,?_⟩
  rw [I6 (Iu ok.byt _ _) (ok.byt _) hlt]
  refine ⟨⟨k+1,by rw [ae (by omega)];omega,by omega,rfl,Ar.shut ok h⟩,by rw [ae (by omega)];first|omega|(dsimp only;omega)⟩
 ·dsimp only at hge
  obtain rfl:k=4:=by omega
  rw [Ka]
  exact hK w h
theorem BY {p q i v:Nat} {K:Bool→World→Prop} (h:Hp E w (Ar A f::F)) (hin:p+q≤A.live) (hi:4*i+4≤q) (hv:v<4294967296) (hK: ∀w',Hp E w' (Ar A (eD f (p+4*i) (c9 v))::F)→K true w'):
  Cl Tryz.prog [kB] fC ⟨[pA A,jV p q,.int .i64 (i:Int),.int .u32 (v:Int)]⟩ w K:=by
 refine ru.ok _ ((p:Int),(q:Int),()) _ _ _ _ ?_
 dsimp only
 refine Nw.mk h fun b w h=>Ld.xt h rfl ?_
 refine yl (h.at 1) hin hi fun w h=> ?_
 have h:=h.no 1
 have hl4:=qA v
 refine ⟨fun t w=> ∃k:Nat,t=(k:Int)∧k≤4∧Hp E w (Ar A (eD f (p+4*i) ((c9 v).take k))::F),fun t _=>4 - t.toNat,⟨0,rfl,by omega,by rw [List.take_zero,Hl];exact h⟩,?_⟩
 rintro t w ⟨k,rfl,hk,h⟩
 refine aa.dm (fun hlt=> ?_) (fun hge=> ?_)
 ·dsimp only at hlt
  have hlt:k<4:=by omega
  refine ⟨by rw [ae (by omega)];omega,an.mk rfl (by omega) (by dsimp only;omega) ?_⟩
  obtain ⟨ok,h⟩:=Ar.cN h
  have h1:=ok.le
  rw [Int.toNat_natCast,Nat.mul_one,ak,Ht hv hlt]
  refine St.xb h (by rw [n9];omega) rfl fun w h=> ?_
  rw [C3] at h
  have e:cW (eD f (p+4*i) ((c9 v).take k)) (p+4*i+k) ((c9 v).getD k 0)=eD f (p+4*i) ((c9 v).take (k+1)):=by
   have:=En (f:=f) (p:=p+4*i) (x:=(c9 v).getD k 0) (b:=(c9 v).take k)
   rw [List.length_take,Nat.min_eq_left (by omega)] at this
   rw [this,List.take_add_one,List.getElem?_eq_getElem (by omega),List.getD_eq_getElem?_getD,List.getElem?_eq_getElem (by omega)]
   rfl
  rw [e] at h
  refine ⟨⟨k+1,by rw [ae (by omega)];omega,by omega,Ar.shut (ok.bo ?_) h⟩,by rw [ae (by omega)];first|omega|(dsimp only;omega)⟩
  rw [←e]
  exact zy ok.byt (by rw [List.getD_eq_getElem?_getD,List.getElem?_eq_getElem (by omega)];exact DY v _ (List.getElem_mem _))
 ·dsimp only at hge
  obtain rfl:k=4:=by omega
  rw [List.take_of_length_le (by omega)] at h
  exact hK w h
end
end Go.Proofs.YtgglghjnakclmaaGreat
set_option maxRecDepth 20000
namespace Go.Rk
variable {α:Type}
structure eA (lt:α→α→Bool) (k:Nat) (L M:List α):Prop where
 sub: ∃R,L.Perm (M++R)∧∀x∈M,∀y∈R,lt y x=false
 len:M.length=min k L.length
theorem eA.nil (lt:α→α→Bool) (k:Nat):eA lt k ([]:List α) []:=⟨⟨[],List.Perm.refl _,fun x hx=>by cases hx⟩,by simp⟩
theorem eA.perm {lt:α→α→Bool} {k:Nat} {L M M':List α} (h:eA lt k L M) (hp:M'.Perm M):eA lt k L M':=by
 obtain ⟨R,h1,h2⟩:=h.sub
 exact ⟨⟨R,h1.trans (hp.symm.append_right R),fun x hx y hy=>h2 x (hp.mem_iff.1 hx) y hy⟩,by rw [hp.length_eq,h.len]⟩
theorem eA.room {lt:α→α→Bool} {k:Nat} {L M:List α} (h:eA lt k L M) (hk:M.length<k) (x:α):eA lt k (L++ [x]) (M++ [x]):=by
 obtain ⟨R,h1,h2⟩:=h.sub
 have hl:=h.len
 have hlen:L.length=M.length:=by omega
 have hR:R= []:=by
  have:=h1.length_eq
  rw [List.length_append] at this
  exact List.length_eq_zero_iff.1 (by omega)
 subst hR
 refine ⟨⟨[],by simpa using (List.Perm.append_right [x] (by simpa using h1)),fun a _ b hb=>by cases hb⟩,by simp;omega⟩
theorem eA.swap {lt:α→α→Bool} (ho:SO lt) {k:Nat} {L M:List α} {m x:α} (h:eA lt k L (m::M)) (hmax: ∀y∈M,lt m y=false) (hk:(m::M).length=k) (hx:lt x m=true):eA lt k (L++ [x]) (x::M):=by
 obtain ⟨R,h1,h2⟩:=h.sub
 have hl:=h1.length_eq
 refine ⟨⟨m::R,?_,fun a ha b hb=> ?_⟩,?_⟩
 ·refine (h1.append_right [x]).trans ?_
  refine List.perm_append_comm.trans ?_
  show (x::(m::M++R)).Perm (x::(M++m::R))
  exact List.Perm.cons x List.perm_middle.symm
 ·rcases List.mem_cons.1 ha with ea|ea
  ·subst ea
   rcases List.mem_cons.1 hb with eb|eb
   ·subst eb;exact ho.rN hx
   ·cases hq:lt b a with
    |false=>rfl
    |true=>
     have:=ho.trans _ _ _ hq hx
     rw [h2 m List.mem_cons_self b eb] at this;cases this
  ·rcases List.mem_cons.1 hb with eb|eb
   ·subst eb;exact hmax a ea
   ·exact h2 a (List.mem_cons_of_mem _ ea) b eb
 ·rw [List.length_append] at hl
  rw [List.length_cons] at hk hl⊢
  rw [List.length_append,List.length_singleton]
  omega
theorem eA.iO {lt:α→α→Bool} (ho:SO lt) {k:Nat} {L M:List α} {m x:α} (h:eA lt k L M) (hm:m∈M) (hmax: ∀y∈M,lt m y=false) (hk:M.length=k) (hx:lt x m=false):eA lt k (L++ [x]) M:=by
 obtain ⟨R,h1,h2⟩:=h.sub
 have hl:=h1.length_eq
 refine ⟨⟨R++ [x],by rw [←List.append_assoc];exact h1.append_right [x],fun a ha b hb=> ?_⟩,?_⟩
 ·rcases List.mem_append.1 hb with eb|eb
  ·exact h2 a ha b eb
  ·rw [List.mem_singleton] at eb
   subst eb
   exact ho.ntrans _ _ _ hx (hmax a ha)
 ·rw [List.length_append] at hl
  rw [List.length_append,List.length_singleton]
  omega
end Go.Rk
namespace Go.Rk
section
variable {α:Type} {lt:α→α→Bool}
end
end Go.Rk
set_option maxRecDepth 20000
namespace Go.Rk
section
variable {α:Type} {lt:α→α→Bool}
def sw (f:Nat→α) (i k:Nat):Nat→α:=fun j=>if j=i then f k else if j=k then f i else f j
def gI (lt:α→α→Bool) (f:Nat→α) (n:Nat):Prop:= ∀j,j<n→0<j→lt (f ((j - 1)/2)) (f j)=false
structure sH (lt:α→α→Bool) (f:Nat→α) (n i:Nat):Prop where
 rest: ∀j,j<n→0<j→j≠i→lt (f ((j - 1)/2)) (f j)=false
 kids:0<i→∀j,j<n→0<j→(j - 1)/2=i→lt (f ((i - 1)/2)) (f j)=false
theorem sH.zero {f:Nat→α} {n:Nat} (h:sH lt f n 0):gI lt f n:=fun j hj h0=>h.rest j hj h0 (by omega)
theorem sH.done {f:Nat→α} {n i:Nat} (h:sH lt f n i) (hi:lt (f ((i - 1)/2)) (f i)=false):gI lt f n:=fun j hj h0=>by
 by_cases e:j=i
 ·subst e;exact hi
 ·exact h.rest j hj h0 e
theorem sH.new {f:Nat→α} {n:Nat} (h:gI lt f n):sH lt f (n+1) n:=⟨fun j hj h0 hne=>h j (by omega) h0,fun h0 j hj hj0 e=>by omega⟩
theorem sH.step (ho:SO lt) {f:Nat→α} {n i:Nat} (h:sH lt f n i) (hn:i<n) (hi:0<i) (hl:lt (f ((i - 1)/2)) (f i)=true):sH lt (sw f ((i - 1)/2) i) n ((i - 1)/2):=by
 generalize hu:(i - 1)/2=u at*
 have hui:u≠i:=by omega
 have hui':i≠u:=by omega
 have yx:=ho.rN hl
 have su:sw f u i u=f i:=by simp [sw]
 have si:sw f u i i=f u:=by simp [sw,hui']
 have so: ∀j,j≠u→j≠i→sw f u i j=f j:=fun j h1 h2=>by simp [sw,h1,h2]
 refine ⟨fun j hj h0 hne=> ?_,fun hu0 j hj h0 e=> ?_⟩
 ·by_cases e:j=i
  ·subst e
   rw [hu,su,si];exact yx
  ·rw [so j hne e]
   by_cases e2:(j - 1)/2=i
   ·rw [e2,si]
    have:=h.kids hi j hj h0 e2
    rwa [hu] at this
   ·by_cases e3:(j - 1)/2=u
    ·rw [e3,su]
     have:=h.rest j hj h0 e
     rw [e3] at this
     exact ho.ntrans _ _ _ yx this
    ·rw [so _ e3 e2];exact h.rest j hj h0 e
 ·have hg:lt (f ((u - 1)/2)) (f u)=false:=h.rest u (by omega) hu0 hui
  rw [so ((u - 1)/2) (by omega) (by omega)]
  by_cases ei:j=i
  ·subst ei;rw [si];exact hg
  ·rw [so j (by omega) ei]
   have:=h.rest j hj h0 ei
   rw [e] at this
   exact ho.ntrans _ _ _ hg this
structure rG (lt:α→α→Bool) (f:Nat→α) (n i:Nat):Prop where
 rest: ∀j,j<n→0<j→(j - 1)/2≠i→lt (f ((j - 1)/2)) (f j)=false
 kids:0<i→∀j,j<n→0<j→(j - 1)/2=i→lt (f ((i - 1)/2)) (f j)=false
theorem rG.done {f:Nat→α} {n i:Nat} (h:rG lt f n i) (hi: ∀j,j<n→0<j→(j - 1)/2=i→lt (f i) (f j)=false):gI lt f n:=fun j hj h0=>by
 by_cases e:(j - 1)/2=i
 ·rw [e];exact hi j hj h0 e
 ·exact h.rest j hj h0 e
theorem rG.top {f g:Nat→α} {n:Nat} (h:gI lt f n) (hg: ∀j,0<j→j<n→g j=f j):rG lt g n 0:=⟨fun j hj h0 hne=>by rw [hg j h0 hj,hg ((j - 1)/2) (by omega) (by omega)];exact h j hj h0,fun h0=>by omega⟩
theorem rG.step (ho:SO lt) {f:Nat→α} {n i k:Nat} (h:rG lt f n i) (hk:k<n) (hk0:0<k) (hki:(k - 1)/2=i) (hmax: ∀j,j<n→0<j→(j - 1)/2=i→lt (f k) (f j)=false) (hl:lt (f i) (f k)=true):rG lt (sw f i k) n k:=by
 have hik:i≠k:=by omega
 have hki':k≠i:=by omega
 have yx:=ho.rN hl
 have si:sw f i k i=f k:=by simp [sw]
 have sk:sw f i k k=f i:=by simp [sw,hki']
 have so: ∀j,j≠i→j≠k→sw f i k j=f j:=fun j h1 h2=>by simp [sw,h1,h2]
 refine ⟨fun j hj h0 hne=> ?_,fun _ j hj h0 e=> ?_⟩
 ·by_cases e:(j - 1)/2=i
  ·rw [e,si]
   by_cases ej:j=k
   ·subst ej;rw [sk];exact yx
   ·rw [so j (by omega) ej];exact hmax j hj h0 e
  ·rw [so ((j - 1)/2) e hne]
   by_cases ei:j=i
   ·subst ei
    rw [si]
    exact h.kids h0 k hk hk0 hki
   ·by_cases ek:j=k
    ·subst ek;exact absurd hki e
    ·rw [so j ei ek];exact h.rest j hj h0 e
 ·rw [hki,si,so j (by omega) (by omega)]
  have:=h.rest j hj h0 (by omega)
  rwa [e] at this
end
end Go.Rk
set_option maxRecDepth 20000
namespace Go.Rk
section
variable {α:Type} {lt:α→α→Bool}
def mp (f:Nat→α) (n:Nat):List α:=(List.range n).map f
theorem nT (f:Nat→α) (n:Nat):(mp f n).length=n:=by simp [mp]
theorem AW {f:Nat→α} {n i:Nat} (h:i<n):(mp f n)[i]'(by rw [nT];exact h)=f i:=by simp [mp]
theorem Jv (f:Nat→α) (n:Nat):mp f (n+1)=mp f n++ [f n]:=by simp [mp,List.range_succ]
theorem ew {f:Nat→α} {n:Nat} {x:α}:x∈mp f n↔∃i,i<n∧f i=x:=by simp [mp]
theorem EL {f g:Nat→α} {n:Nat} (h: ∀i,i<n→f i=g i):mp f n=mp g n:=List.map_congr_left fun i hi=>h i (List.mem_range.1 hi)
theorem CU (f:Nat→α) (n:Nat):mp f (n+1)=f 0::mp (fun i=>f (i+1)) n:=by
 unfold mp
 rw [List.range_succ_eq_map,List.map_cons,List.map_map]
 rfl
theorem wL {f:Nat→α} {n i k:Nat} (hi:i<n) (hk:k<n):(mp (sw f i k) n).Perm (mp f n):=by
 have h1:mp (sw f i k) n=((List.range n).map fun j=>if j=i then k else if j=k then i else j).map f:=by
  unfold mp
  rw [List.map_map]
  refine List.map_congr_left fun j _=> ?_
  simp only [sw,Function.comp]
  split
  ·rfl
  ·split<;>rfl
 rw [h1]
 refine List.Perm.map f ((List.perm_ext_iff_of_nodup ?_ List.nodup_range).2 fun x=> ?_)
 ·refine List.Pairwise.map _ (fun a b hab h=>hab ?_) List.nodup_range
  split at h<;>split at h<;>(try split at h)<;>(try split at h)<;>omega
 ·rw [List.mem_map]
  constructor
  ·rintro ⟨a,ha,rfl⟩
   rw [List.mem_range] at ha⊢
   split
   ·exact hk
   ·split
    ·exact hi
    ·exact ha
  ·intro hx
   rw [List.mem_range] at hx
   by_cases e1:x=i
   ·exact ⟨k,List.mem_range.2 hk,by subst e1;by_cases e:k=x<;>simp [e]⟩
   ·by_cases e2:x=k
    ·exact ⟨i,List.mem_range.2 hi,by simp [e2]⟩
    ·exact ⟨x,List.mem_range.2 hx,by simp [e1,e2]⟩
theorem D4 (ho:SO lt) {f:Nat→α} {n:Nat} (h:gI lt f n): ∀k j,j≤k→j<n→lt (f 0) (f j)=false
 |0,j,hk,_=>by rw [show j=0 by omega];exact ho.irr _
 |k+1,j,hk,hj=>by
  by_cases e:j=0
  ·subst e;exact ho.irr _
  ·exact ho.ntrans _ _ _ (D4 ho h k ((j - 1)/2) (by omega) (by omega)) (h j hj (by omega))
theorem z0 (ho:SO lt) {k:Nat} {L M T:List α} (hl:eA lt k L M) (hLT:L.Perm T) (hT:T.Pairwise fun a b=>lt a b=true) (hM:M.Pairwise fun a b=>lt b a=false) (htot: ∀x∈T,∀y∈T,x≠y→lt x y=true∨lt y x=true):M=T.take k:=by
 obtain ⟨R,h1,h2⟩:=hl.sub
 have hlen:=hl.len
 have hTM:T.Perm (M++R):=hLT.symm.trans h1
 have hnd:T.Nodup:=hT.imp fun {a b} h e=>by subst e;rw [ho.irr] at h;cases h
 have hndM:(M++R).Nodup:=hTM.nodup_iff.1 hnd
 have hmem: ∀x∈M++R,x∈T:=fun x hx=>hTM.mem_iff.2 hx
 have hMs:M.Pairwise fun a b=>lt a b=true:=by
  have hn:=(List.nodup_append.1 hndM).1
  refine (hM.and hn).imp_of_mem fun {a b} ha hb h=> ?_
  rcases htot a (hmem a (List.mem_append_left _ ha)) b (hmem b (List.mem_append_left _ hb)) h.2 with q|q
  ·exact q
  ·rw [h.1] at q;cases q
 have hR: ∀x∈M,∀y∈R,lt x y=true:=fun x hx y hy=>by
  have hne:x≠y:=fun e=>(List.nodup_append.1 hndM).2.2 x hx y hy e
  rcases htot x (hmem x (List.mem_append_left _ hx)) y (hmem y (List.mem_append_right _ hy)) hne with q|q
  ·exact q
  ·rw [h2 x hx y hy] at q;cases q
 have hndR:R.Nodup:=(List.nodup_append.1 hndM).2.1
 have hRt:Au lt R:=fun x hx y hy e=>htot x (hmem x (List.mem_append_right _ hx)) y (hmem y (List.mem_append_right _ hy)) e
 have hall:T=M++ra lt R:=by
  refine ou ho (hTM.trans (List.Perm.append_left M (cH R).symm)) hT (List.pairwise_append.2 ⟨hMs,mH ho hndR hRt,fun x hx y hy=>hR x hx y ((cH R).mem_iff.1 hy)⟩)
 rw [hall]
 have hk:M.length=min k T.length:=by rw [hlen,hLT.length_eq]
 have hTl:T.length=M.length+R.length:=by rw [hTM.length_eq,List.length_append]
 by_cases hkl:k≤T.length
 ·rw [List.take_append_of_le_length (by omega),List.take_of_length_le (by omega)]
 ·have:R= []:=List.length_eq_zero_iff.1 (by omega)
  subst this
  rw [show ra lt ([]:List α)= [] from List.length_eq_zero_iff.1 (wS _),List.append_nil,List.take_of_length_le (by omega)]
end
end Go.Rk
namespace Go.Bw
open Go.Rk
theorem BO {x:List Nat} {r:Nat} (h0:0<r) (hr:r≤x.length+1) (last:Nat) (hl:(aZ x)[r - 1]? =some last):((rows x).filter fun e=>sl x last e).Perm ((aZ x).drop r):=by
 have hp:((rows x).filter fun e=>sl x last e).Perm ((aZ x).filter fun e=>sl x last e):=((cH (lt:=sl x) (rows x)).symm.filter _)
 refine hp.trans ?_
 have hs:=jd x
 have hlen:=il x
 have hlt:r - 1<(aZ x).length:=by omega
 have hgl:(aZ x)[r - 1]=last:=by rw [List.getElem?_eq_getElem hlt] at hl;exact Option.some.inj hl
 rw [←List.take_append_drop r (aZ x),List.filter_append]
 have e1:((aZ x).take r).filter (fun e=>sl x last e)= []:=by
  rw [List.filter_eq_nil_iff]
  intro a ha
  obtain ⟨i,hi,rfl⟩:=List.mem_iff_getElem.1 ha
  rw [List.length_take] at hi
  rw [List.getElem_take,←hgl]
  by_cases e:i=r - 1
  ·subst e;rw [(dC x).irr];decide
  ·have:=List.pairwise_iff_getElem.1 hs i (r - 1) (by omega) hlt (by omega)
   rw [(dC x).rN this];decide
 have e2:((aZ x).drop r).filter (fun e=>sl x last e)=(aZ x).drop r:=by
  rw [List.filter_eq_self]
  intro a ha
  obtain ⟨i,hi,rfl⟩:=List.mem_iff_getElem.1 ha
  rw [List.length_drop] at hi
  rw [List.getElem_drop,←hgl]
  exact List.pairwise_iff_getElem.1 hs (r - 1) (r+i) hlt (by omega) (by omega)
 rw [e1,e2,List.nil_append,List.take_append_drop]
end Go.Bw
set_option maxRecDepth 20000
namespace Go.Srt
def Ky (key:Int→Int) (x y:Int):Prop:=key x<key y∨(key x=key y∧x<y)
theorem Ky.trans {key:Int→Int} {x y z:Int} (h:Ky key x y) (h2:Ky key y z):Ky key x z:=by
 unfold Ky at*;omega
abbrev Sd (key:Int→Int) (l:List Int):Prop:=l.Pairwise (Ky key)
theorem p8 {α:Type} (P Q:List α) (x y:α):(P++x::Q).set P.length y=P++y::Q:=by
 rw [List.set_append_right _ _ (Nat.le_refl _)];simp
theorem IQ {α:Type} (P Q:List α) (x:α) (h:P.length<(P++x::Q).length):(P++x::Q)[P.length]=x:=by
 rw [List.getElem_append_right (Nat.le_refl _)];simp
end Go.Srt
namespace Go.Proofs.YtgglghjnakclmaaGreat
open Go Go.Vc Go.Srt
section
variable {E w:World} {F:List HP}
theorem G2 {s:Sl} {xs:List Int} {i j:Int} {K:World→Prop} (h:Hp E w (al 1 s (xs.map vI)::F)) (hi0:0≤i) (hi:i.toNat<xs.length) (hj0:0≤j) (hj:j.toNat<xs.length)
  (hK: ∀w',Hp E w' (al 1 s (((xs.set i.toNat xs[j.toNat]).set j.toNat xs[i.toNat]).map vI)::F)→K w'):
  an s j 1 fun q=>Ld kI q w fun x=>an s i 1 fun q'=>Ld kI q' w fun y=>an s i 1 fun q2=>St q2 (.int .i64 x) w fun w1=>an s j 1 fun q3=>St q3 (.int .i64 y) w1 K:=by
 have hl:=h.aV
 simp only [List.length_map,Nat.mul_one] at hl
 refine an.rd (h.ah ad.own) hj0 (by omega) fun q hq hc=> ?_
 refine Ld.sc (s:= .int .i64) xs[j.toNat] (by rw [hc];simp [vI]) ?_
 refine an.rd (h.ah ad.own) hi0 (by omega) fun q' hq' hc'=> ?_
 refine Ld.sc (s:= .int .i64) xs[i.toNat] (by rw [hc'];simp [vI]) ?_
 refine St.own h hi0 (by omega) rfl fun w1 h1=> ?_
 refine St.own h1 hj0 (by omega) rfl fun w2 h2=>hK _ ?_
 rw [List.map_set,List.map_set]
 exact h2
theorem Ju {s:Sl} {P Q:List Int} {x y:Int} {i j:Int} {K:World→Prop} (h:Hp E w (al 1 s ((P++x::y::Q).map vI)::F)) (hi:i=(P.length:Int)) (hj:j=(P.length:Int)+1)
  (hK: ∀w',Hp E w' (al 1 s ((P++y::x::Q).map vI)::F)→K w'):
  an s j 1 fun q=>Ld kI q w fun x=>an s i 1 fun q'=>Ld kI q' w fun y=>an s i 1 fun q2=>St q2 (.int .i64 x) w fun w1=>an s j 1 fun q3=>St q3 (.int .i64 y) w1 K:=by
 refine G2 h (by omega) (by simp;omega) (by omega) (by simp;omega) fun w' h'=>hK _ ?_
 have e1:i.toNat=P.length:=by omega
 have e2:j.toNat=(P++ [x]).length:=by simp;omega
 have g1:(P++x::y::Q)[i.toNat]'(by simp;omega)=x:=by simp only [e1];exact IQ _ _ _ _
 have g2:(P++x::y::Q)[j.toNat]'(by simp;omega)=y:=by
  have:=IQ (P++ [x]) Q y (by simp)
  simp only [e2];simp
 rw [g1,g2,e1,p8,e2,show (P++y::y::Q)=(P++ [y])++y::Q by simp,show (P++ [x]).length=(P++ [y]).length by simp,p8] at h'
 simpa using h'
theorem Cr {s:Sl} {P Q:List Int} {x y:Int} {i j:Int} {K:World→Prop} (h:Hp E w (al 1 s ((P++x::y::Q).map vI)::F)) (hi:i=(P.length:Int)) (hj:j=(P.length:Int)+1)
  (hK: ∀w',Hp E w' (al 1 s ((P++y::x::Q).map vI)::F)→K w'):
  an s i 1 fun q=>Ld kI q w fun x=>an s j 1 fun q'=>Ld kI q' w fun y=>an s j 1 fun q2=>St q2 (.int .i64 x) w fun w1=>an s i 1 fun q3=>St q3 (.int .i64 y) w1 K:=by
 refine G2 h (by omega) (by simp;omega) (by omega) (by simp;omega) fun w' h'=>hK _ ?_
 have e1:i.toNat=P.length:=by omega
 have e2:j.toNat=(P++ [x]).length:=by simp;omega
 have g1:(P++x::y::Q)[i.toNat]'(by simp;omega)=x:=by simp only [e1];exact IQ _ _ _ _
 have g2:(P++x::y::Q)[j.toNat]'(by simp;omega)=y:=by
  have:=IQ (P++ [x]) Q y (by simp)
  simp only [e2];simp
 rw [g1,g2,e2,show (P++x::y::Q)=(P++ [x])++y::Q by simp,p8,e1,show (P++ [x])++x::Q=P++x::x::Q by simp,p8] at h'
 simpa using h'
theorem AI {s:Sl} {P A C B Q:List Int} {fv:Value} {a b n:Int} {K:World→Prop} (h:Hp E w (al 1 s ((P++A++C++B++Q).map vI)::F)) (hab:A.length=B.length) (hbig:(P++A++C++B++Q).length≤bO)
  (ha:a=(P.length:Int)) (hb:b=((P++A++C).length:Int)) (hn:n=(A.length:Int)) (hK: ∀w',Hp E w' (al 1 s ((P++B++C++A++Q).map vI)::F)→K w'):
  Cl Tryz.prog [] bF ⟨[.slice s.base s.len s.cap,.int .i64 a,.int .i64 b,.int .i64 n,fv]⟩ w K:=by
 subst ha;subst hb;subst hn
 refine lQ.ok _ _ _ _ _ _ _ ?_
 rw [aC] at hbig
 simp only [List.length_append] at hbig
 refine ⟨fun i w'=> ∃k:Nat,i=(k:Int)∧k≤A.length∧Hp E w' (al 1 s ((P++(B.take k++A.drop k)++C++(A.take k++B.drop k)++Q).map vI)::F),fun i _=>A.length - i.toNat,⟨0,rfl,by omega,by simpa using h⟩,?_⟩
 rintro i w' ⟨k,rfl,hk,hh⟩
 refine aa.mk (fun hlt=> ?_) (fun hge=> ?_)
 ·have hlt:k<A.length:=by have:=of_decide_eq_true hlt;omega
  refine aJ.mk hh fun w1 h1=> ?_
  simp only [List.length_append]
  rw [ae (x:=((P.length+A.length+C.length:Nat):Int)+(k:Int)) (by omega),ae (x:=(P.length:Int)+(k:Int)) (by omega)]
  have hkB:k<B.length:=by omega
  refine G2 h1 (by omega) (by simp;omega) (by omega) (by simp;omega) fun w2 h2=> ?_
  rw [ae (by omega)]
  refine ⟨⟨k+1,rfl,by omega,?_⟩,by omega⟩
  have e1:((P.length:Int)+(k:Int)).toNat=P.length+k:=by omega
  have e2:(((P.length+A.length+C.length:Nat):Int)+(k:Int)).toNat=P.length+A.length+C.length+k:=by omega
  have dA:A.drop k=A[k]::A.drop (k+1):=(List.drop_eq_getElem_cons hlt)
  have dB:B.drop k=B[k]::B.drop (k+1):=(List.drop_eq_getElem_cons hkB)
  have tA:A.take (k+1)=A.take k++ [A[k]]:=by rw [List.take_add_one,List.getElem?_eq_getElem hlt];rfl
  have tB:B.take (k+1)=B.take k++ [B[k]]:=by rw [List.take_add_one,List.getElem?_eq_getElem hkB];rfl
  have X:P++(B.take k++A.drop k)++C++(A.take k++B.drop k)++Q=(P++B.take k)++A[k]::(A.drop (k+1)++C++A.take k++B[k]::(B.drop (k+1)++Q)):=by rw [dA,dB];simp only [List.append_assoc,List.cons_append,List.nil_append]
  have l1:(P++B.take k).length=P.length+k:=by simp;omega
  have X2: ∀z,(P++B.take k)++z::(A.drop (k+1)++C++A.take k++B[k]::(B.drop (k+1)++Q))=(P++B.take k++z::(A.drop (k+1)++C++A.take k))++B[k]::(B.drop (k+1)++Q):=by intro z;simp only [List.append_assoc,List.cons_append,List.nil_append]
  have l2: ∀z:Int,(P++B.take k++z::(A.drop (k+1)++C++A.take k)).length=P.length+A.length+C.length+k:=by intro z;simp;omega
  have g1:(P++(B.take k++A.drop k)++C++(A.take k++B.drop k)++Q)[((P.length:Int)+(k:Int)).toNat]? =some A[k]:=by
   rw [X,e1,←l1,List.getElem?_append_right (Nat.le_refl _)];simp
  have g2:(P++(B.take k++A.drop k)++C++(A.take k++B.drop k)++Q)[(((P.length+A.length+C.length:Nat):Int)+(k:Int)).toNat]? =some B[k]:=by
   rw [X,X2,e2,←l2 A[k],List.getElem?_append_right (Nat.le_refl _)];simp
  have g1':=(List.getElem?_eq_some_iff.1 g1).2
  have g2':=(List.getElem?_eq_some_iff.1 g2).2
  rw [g1',g2',e1,e2,X] at h2
  rw [←l1,p8,X2,←l2 B[k],p8] at h2
  have Y:P++B.take k++B[k]::(A.drop (k+1)++C++A.take k)++A[k]::(B.drop (k+1)++Q)=P++(B.take (k+1)++A.drop (k+1))++C++(A.take (k+1)++B.drop (k+1))++Q:=by rw [tA,tB];simp only [List.append_assoc,List.cons_append,List.nil_append]
  rw [Y] at h2
  exact h2
 ·have hge:k=A.length:=by have:=of_decide_eq_false hge;omega
  subst hge
  refine hK _ ?_
  rw [List.drop_eq_nil_of_le (Nat.le_refl _),List.take_length,List.take_of_length_le (by omega),List.drop_eq_nil_of_le (by omega)] at hh
  simpa using hh
theorem Hi {s:Sl} {P A B Q:List Int} {fv:Value} {a m b:Int} {K:World→Prop} (h:Hp E w (al 1 s ((P++A++B++Q).map vI)::F)) (hA:A≠ []) (hB:B≠ []) (hbig:(P++A++B++Q).length≤bO)
  (ha:a=(P.length:Int)) (hm:m=((P++A).length:Int)) (hb:b=((P++A++B).length:Int)) (hK: ∀w',Hp E w' (al 1 s ((P++B++A++Q).map vI)::F)→K w'):
  Cl Tryz.prog [] dM ⟨[.slice s.base s.len s.cap,.int .i64 a,.int .i64 m,.int .i64 b,fv]⟩ w K:=by
 subst ha;subst hm;subst hb
 refine nH.ok _ _ _ _ _ _ _ ?_
 have hbg:=hbig
 rw [aC] at hbig
 simp only [List.length_append] at hbig
 have hA1:=List.length_pos_iff.2 hA
 have hB1:=List.length_pos_iff.2 hB
 refine ⟨fun i j w'=> ∃P' A' B' Q':List Int,i=(A'.length:Int)∧j=(B'.length:Int)∧A'≠ []∧B'≠ []∧(P'++A').length=(P++A).length∧P'++B'++A'++Q'=P++B++A++Q∧Hp E w' (al 1 s ((P'++A'++B'++Q').map vI)::F),
  fun i j _=>i.toNat+j.toNat,⟨P,A,B,Q,?_,?_,hA,hB,rfl,rfl,h⟩,?_⟩
 ·simp only [List.length_append];rw [ae (by omega)];omega
 ·simp only [List.length_append];rw [ae (by omega)];omega
 ·rintro i j w' ⟨P',A',B',Q',rfl,rfl,hA',hB',hm',htot,hh⟩
  have hA2:=List.length_pos_iff.2 hA'
  have hB2:=List.length_pos_iff.2 hB'
  have hlen:=congrArg List.length htot
  simp only [List.length_append] at hlen hm'⊢
  refine aa.mk (fun hne=>aa.mk (fun hgt=> ?_) (fun hle=> ?_)) (fun heq=> ?_)
  ·have hgt:=of_decide_eq_true hgt
   have hsp:A'.take B'.length++A'.drop B'.length=A':=List.take_append_drop _ _
   have ht:(A'.take B'.length).length=B'.length:=by simp;omega
   generalize A'.take B'.length=A1 at hsp ht
   generalize A'.drop B'.length=A2 at hsp
   subst hsp
   simp only [List.length_append] at hgt hlen hm' hA2⊢
   rw [ae (by omega),ae (by omega)]
   refine AI (P:=P') (A:=A1) (C:=A2) (B:=B') (Q:=Q') (by simpa using hh) ht (by rw [aC];simp only [List.length_append];omega) (by omega) (by simp only [List.length_append];omega) (by omega) fun w2 h2=> ?_
   refine ⟨⟨P'++B',A2,A1,Q',by omega,by omega,?_,?_,by simp only [List.length_append];omega,by rw [←htot];simp only [List.append_assoc],by simpa using h2⟩,by omega⟩
   ·intro h0;rw [h0] at hgt;simp at hgt;omega
   ·intro h0;rw [h0] at ht;simp at ht;omega
  ·have hle:=of_decide_eq_false hle
   have hne: ¬(A'.length:Int)=(B'.length:Int):=by simpa using hne
   have hsp:B'.take (B'.length - A'.length)++B'.drop (B'.length - A'.length)=B':=List.take_append_drop _ _
   have ht:(B'.drop (B'.length - A'.length)).length=A'.length:=by simp;omega
   generalize B'.take (B'.length - A'.length)=B1 at hsp
   generalize B'.drop (B'.length - A'.length)=B2 at hsp ht
   subst hsp
   simp only [List.length_append] at hle hlen hne hB2⊢
   simp (disch:=omega) only [ae]
   refine AI (P:=P') (A:=A') (C:=B1) (B:=B2) (Q:=Q') (by simpa using hh) ht.symm (by rw [aC];simp only [List.length_append];omega) (by omega) (by simp only [List.length_append];omega) rfl fun w2 h2=> ?_
   refine ⟨⟨P',B2,B1,A'++Q',by omega,by omega,?_,?_,by omega,by rw [←htot];simp only [List.append_assoc],by simpa using h2⟩,by omega⟩
   ·intro h0;rw [h0] at ht;simp at ht;omega
   ·intro h0;rw [h0] at hne;simp at hne;omega
  ·have heq:(A'.length:Int)=(B'.length:Int):=by simpa using heq
   rw [ae (by omega)]
   refine AI (P:=P') (A:=A') (C:= []) (B:=B') (Q:=Q') (by simpa using hh) (by omega) (by rw [aC];simp;omega) (by omega) (by simp;omega) rfl fun w2 h2=>hK _ ?_
   rw [←htot]
   simpa using h2
def sQ (E:World) (F:List HP) (fv:Value) (key:Int→Int) (D:Int→Prop):Prop:=
 ∀(A:List HP) (w:World) (y x:Int) (K:Int→World→Prop),Hp E w (A++F)→D x→D y→(∀z w',(z<0↔key y<key x)→Hp E w' (A++F)→K z w')→de Tryz.prog fv [kI] [.int .i64 y,.int .i64 x] w K
theorem uY {key:Int→Int} {x y:Int} (h:x<y):(key y<key x↔Ky key y x)∧(¬key y<key x↔Ky key x y):=by
 unfold Ky;constructor<;>constructor<;>intro h2<;>omega
theorem Jz {key:Int→Int} {S:List Int} {y x:Int} (h:Sd key (S++ [y])) (hy:Ky key y x): ∀z∈S++ [y],Ky key z x:=by
 intro z hz
 rcases List.mem_append.1 hz with hz|hz
 ·have:=(List.pairwise_append.1 h).2.2 z hz y (by simp)
  exact this.trans hy
 ·have:z=y:=by simpa using hz
  subst this;exact hy
theorem tJ {s:Sl} {P L Q:List Int} {fv:Value} {key:Int→Int} {D:Int→Prop} {a b:Int} {K:World→Prop} (h:Hp E w (al 1 s ((P++L++Q).map vI)::F)) (hbig:(P++L++Q).length≤bO)
  (hc:sQ E F fv key D) (hD: ∀x∈L,D x) (hL:L.Pairwise (·< ·)) (ha:a=(P.length:Int)) (hb:b=((P++L).length:Int))
  (hK: ∀M w',M.Perm L→Sd key M→Hp E w' (al 1 s ((P++M++Q).map vI)::F)→K w'):
  Cl Tryz.prog [] bR ⟨[.slice s.base s.len s.cap,.int .i64 a,.int .i64 b,fv]⟩ w K:=by
 subst ha;subst hb
 refine jT.ok _ _ _ _ _ _ ?_
 rw [aC] at hbig
 simp only [List.length_append] at hbig⊢
 refine ⟨fun i w'=> ∃(k:Nat) (S:List Int),i=((P.length+k:Nat):Int)∧1≤k∧S.Perm (L.take k)∧Sd key S∧Hp E w' (al 1 s ((P++S++L.drop k++Q).map vI)::F),fun i _=>P.length+L.length - i.toNat,⟨1,L.take 1,?_,by omega,List.Perm.refl _,?_,by rw [List.append_assoc P,List.take_append_drop];exact h⟩,?_⟩
 ·rw [ae (by omega)];omega
 ·cases L<;>simp
 rintro i w' ⟨k,S,rfl,hk1,hS,hsd,hh⟩
 refine aa.mk (fun hlt=> ?_) (fun hge=> ?_)
 ·have hlt:k<L.length:=by have:=of_decide_eq_true hlt;omega
  have hSl:S.length=k:=by have:=hS.length_eq;rw [List.length_take] at this;omega
  have dL:L.drop k=L[k]::L.drop (k+1):=List.drop_eq_getElem_cons hlt
  have tL:L.take (k+1)=L.take k++ [L[k]]:=by rw [List.take_add_one,List.getElem?_eq_getElem hlt];rfl
  have hxin:L[k]∈L:=List.getElem_mem hlt
  have hless: ∀y∈S,y<L[k]:=by
   intro y hy
   have hy':y∈L.take k:=hS.mem_iff.1 hy
   rw [←List.take_append_drop k L,List.pairwise_append] at hL
   exact hL.2.2 y hy' L[k] (by rw [dL];exact List.mem_cons_self ..)
  have hSin: ∀y∈S,y∈L:=fun y hy=>List.mem_of_mem_take (hS.mem_iff.1 hy)
  generalize L[k]=x at*
  refine ⟨fun j w'=> ∃S1 S2:List Int,j=((P.length+S1.length:Nat):Int)∧S=S1++S2∧(∀y∈S2,Ky key x y)∧Hp E w' (al 1 s ((P++S1++x::S2++L.drop (k+1)++Q).map vI)::F),fun j _=>j.toNat - P.length,⟨S,[],by omega,by simp,by simp,?_⟩,?_⟩
  ·rw [dL] at hh;simpa using hh
  rintro j w' ⟨S1,S2,rfl,rfl,hS2,hh⟩
  have fin: ∀w',(∀y∈S1,Ky key y x)→Hp E w' (al 1 s ((P++S1++x::S2++L.drop (k+1)++Q).map vI)::F)→
    (∃(k_1:Nat) (S:List Int),i64 (((P.length+k:Nat):Int)+1)=((P.length+k_1:Nat):Int)∧1≤k_1∧S.Perm (L.take k_1)∧Sd key S∧Hp E w' (al 1 s ((P++S++L.drop k_1++Q).map vI)::F))∧P.length+L.length - (i64 (((P.length+k:Nat):Int)+1)).toNat<P.length+L.length - (((P.length+k:Nat):Int)).toNat:=by
   intro w' hS1 hh
   rw [ae (by omega)]
   refine ⟨⟨k+1,S1++x::S2,by omega,by omega,?_,?_,by simpa using hh⟩,by omega⟩
   ·rw [tL]
    refine List.perm_middle.trans ?_
    exact (List.Perm.cons x hS).trans (List.perm_append_comm (l₁:= [x]))
   ·obtain ⟨p1,p2,p3⟩:=List.pairwise_append.1 hsd
    refine List.pairwise_append.2 ⟨p1,List.pairwise_cons.2 ⟨hS2,p2⟩,fun y hy z hz=> ?_⟩
    rcases List.mem_cons.1 hz with rfl|hz
    ·exact hS1 y hy
    ·exact p3 y hy z hz
  refine aJ.mk hh fun w1 h1=>aa.mk (fun hgt=> ?_) (fun hle=> ?_)
  ·have hgt:=of_decide_eq_true hgt
   rcases List.eq_nil_or_concat S1 with rfl|⟨S1',y,rfl⟩
   ·simp at hgt
   ·rw [List.concat_eq_append] at*
    simp only [List.length_append,List.length_cons,List.length_nil] at*
    have hln:=h1.aV
    simp only [List.length_map,List.length_append,List.length_cons,List.length_nil,Nat.mul_one] at hln
    rw [ae (by omega)]
    have hform:P++(S1'++ [y])++x::S2++L.drop (k+1)++Q=(P++S1')++y::x::(S2++L.drop (k+1)++Q):=by simp
    have gx:(P++(S1'++ [y])++x::S2++L.drop (k+1)++Q)[P.length+S1'.length+1]? =some x:=by
     rw [hform,show P.length+S1'.length+1=(P++S1').length+1 by simp,List.getElem?_append_right (by omega)];simp
    have gy:(P++(S1'++ [y])++x::S2++L.drop (k+1)++Q)[P.length+S1'.length]? =some y:=by
     rw [hform,show P.length+S1'.length=(P++S1').length by simp,List.getElem?_append_right (by omega)];simp
    refine an.rd (h1.ah ad.own) (by omega) (by omega) fun q hq hc1=> ?_
    refine Ld.sc (s:= .int .i64) x (by
     rw [hc1,←List.getElem?_eq_getElem,List.getElem?_map,show (((P.length+(S1'.length+(0+1)):Nat):Int)).toNat=P.length+S1'.length+1 by omega,gx];rfl) ?_
    refine an.rd (h1.ah ad.own) (by omega) (by omega) fun q2 hq2 hc2=> ?_
    refine Ld.sc (s:= .int .i64) y (by
     rw [hc2,←List.getElem?_eq_getElem,List.getElem?_map,show (((P.length+(S1'.length+(0+1)):Nat):Int) - 1).toNat=P.length+S1'.length by omega,gy];rfl) ?_
    refine hc [_] w1 x y _ h1 (hD y (hSin y (by simp))) (hD x hxin) fun z w2 hz h2=> ?_
    have hyx:=uY (key:=key) (hless y (by simp))
    refine aa.mk (fun hneg=> ?_) (fun hpos=> ?_)
    ·have hneg:=hyx.1.1 (hz.1 (of_decide_eq_true hneg))
     refine aJ.mk h2 fun w3 h3=> ?_
     refine Cr (P:=P++S1') (Q:=S2++L.drop (k+1)++Q) (x:=y) (y:=x) (by rw [←hform];exact h3) (by simp;omega) (by simp;omega) fun w4 h4=> ?_
     refine ⟨⟨S1',y::S2,by omega,by simp,?_,by simpa using h4⟩,by omega⟩
     intro z hz
     rcases List.mem_cons.1 hz with rfl|hz
     ·exact hneg
     ·exact hS2 z hz
    ·have hpos:=hyx.2.1 (fun hk=>(of_decide_eq_false hpos) (hz.2 hk))
     exact fin w2 (Jz (List.pairwise_append.1 hsd).1 hpos) h2
  ·have hle:=of_decide_eq_false hle
   have:S1= []:=List.length_eq_zero_iff.1 (by omega)
   subst this
   exact fin w1 (by simp) h1
 ·have hge:L.length≤k:=by have:=of_decide_eq_false hge;omega
  rw [List.take_of_length_le hge] at hS
  rw [List.drop_eq_nil_of_le hge] at hh
  exact hK S _ hS hsd (by simpa using hh)
end
end Go.Proofs.YtgglghjnakclmaaGreat
