/- Texts packed together by program; spaces struck by program. Conditions: as each theorem states. -/
import Derived.Carry
import Derived.Ground.SlsfProg
import Derived.Laws.AppendOwn
import Derived.Laws.BytesArg
import Derived.Laws.CopyRow
import Derived.Laws.IdiomCopy
import Derived.Laws.IdiomStrings
import Derived.Laws.MakeOwn
import Derived.Lib.BytesEntry
import Derived.Lib.MakeNoZero
import Derived.MapKept
import Derived.OpenShut
import Derived.OrdersIn
import Derived.ProofKit
import Derived.RangeFuncRecord
import Derived.ScopeJumps
import Derived.Shelf.SlGeneric
import Derived.Shelf.SlSortCmp.NoneTotal
import Derived.SizedLaws
import Derived.TacticsIn
import Derived.Test.YtcdpblipagajiaaGreatChecked
import Derived.Test.YtcdpblipagajiaaGreatProg
import Derived.Test.YtcdpblipagajiaaGreatQoa
set_option linter.unusedSimpArgs false
set_option linter.unusedVariables false
namespace Go.Vc
open Go
noncomputable section
variable {nn:Nat} {dfs:List Deferred}
abbrev FW (ro:Option Nat):Fence:={Fence.wide with round:=ro}
def Yld (P:Program) (l:Nat) (args:List Value) (w:World) (K:Bool→World→Prop):Prop:=
 ∃fn tmps assign body,(Instr.yield l ⟨args⟩).run P w= .ok (.round l fn tmps assign body) w∧
  RoundIn Fence.wide 0 P l fn tmps assign body w fun e w'=> ∃b,e= .returned (.bool b)∧K b w'
def ClY (P:Program) (v:Value) (ks:List Ki) (args:List Value) (w:World) (K:FnK ks (World→Prop)):Prop:=
 match v with
 | .func (.func i) first captured=>ClX P (.func (.func i) first captured) ks args w K
 | .func (.yield l) first _=>Yld P l (first.toList++args) w fun b w'=>decRes ks (.bool b) K w'
 |_=>False
def opVY (P:Program) (f:AF) (o:Oper) (w:World) (K:Option Value→World→Prop):Prop:=
 match o.op with
 | .call c=>match c.callee with
  | .value x=>match ev f x,evl f c.args.toList,ksOfTy P o.type with
   |some v,some vs,some ks=>ClY P v ks vs w (CExt ks [] fun us w'=>K (some (resVal us)) w')
   |_,_,_=>False
  |_=>opVC P f o w K
 |_=>opVC P f o w K
theorem Yld_mono {P:Program} {l:Nat} {args:List Value} {w:World} {K K':Bool→World→Prop} (h1: ∀b w,K b w→K' b w) (h:Yld P l args w K):Yld P l args w K':=by
 obtain ⟨fn,tmps,assign,body,h2,h3⟩:=h
 exact ⟨fn,tmps,assign,body,h2,h3.mono fun e w' ⟨b,e1,e2⟩=>⟨b,e1,h1 _ _ e2⟩⟩
theorem ClY_mono {P:Program} {v:Value} {ks:List Ki} {args:List Value} {w:World} {g g':List Value→World→Prop} (h1: ∀vs w,g vs w→g' vs w) (h:ClY P v ks args w (CExt ks [] g)):ClY P v ks args w (CExt ks [] g'):=by
 unfold ClY at h⊢
 split at h
 ·exact ClX_mono (v:= .func (.func _) _ _) h1 h
 ·exact Yld_mono (fun b w h=>decRes_mono (fun vs h=>h1 vs w h) h) h
 ·exact h.elim
theorem opVY_mono {P:Program} {f:AF} {o:Oper} {w:World} {K K':Option Value→World→Prop} (h1: ∀v w,K v w→K' v w) (h:opVY P f o w K):opVY P f o w K':=by
 unfold opVY at h⊢
 split at h
 ·split at h
  ·split at h
   ·exact ClY_mono (fun vs w h=>h1 _ _ h) h
   ·exact h.elim
  ·exact opVC_mono h1 h
 ·exact opVC_mono h1 h
theorem wpIn_of_wp {P:Program} {ro:Option Nat} {n:Nat} {o:Oper} {a:Act} {w:World} {next:Act→World→Prop} {Q:Exit→Act→World→Prop} (hd: ∀c,o.op≠ .defer c) (h:o.wp P a w next Q):o.wpIn (FW ro) n P a w next Q:=by
 refine ⟨fun _ _=>trivial,?_⟩
 have e:o.semAt (FW ro).round a.eval=execOp a.eval o:=by
  cases ro with
  |none=>rfl
  |some l=>exact Oper.semAt_some l _ _ hd
 rw [e]
 unfold Oper.wp at h
 generalize (execOp a.eval o).run P w=r at h
 cases r with
 |ok x w'=>
  cases x<;>simp only [Oper.upon] at h<;>first|exact h.elim|exact h|skip
  ·exact ⟨fun hh=>(by cases hh),(callsIn_wide (n:=n - 1)).2 (h.mono fun e w'' he=>by cases e<;>exact he)⟩
  ·refine ⟨fun hh=>(by cases hh),fun c cs _=> ?_⟩
   obtain ⟨v,w',hr,hs⟩:=h c cs
   exact ⟨v,w',hr,stepsIn_wide.2 hs⟩
 |halt x w'=>cases x<;>simp only [Oper.upon] at h<;>first|exact h.elim|exact h
theorem opY_sound {P:Program} {ro:Option Nat} {n:Nat} {w:World} {a:Act} {f:AF} (hr:Rel nn dfs a f) {o:Oper} {K:Option Value→World→Prop} (h:opVY P f o w K)
  {next:Act→World→Prop} {Q:Exit→Act→World→Prop} (hn: ∀v ov w',K ov w'→(∀v',ov=some v'→v=v')→next (a.put o.dst v) w'):o.wpIn (FW ro) n P a w next Q:=by
 obtain ⟨dst,op,ty,pos,after,guard⟩:=o
 unfold opVY at h
 simp only at h hn
 have plain:opVC P f ⟨dst,op,ty,pos,after,guard⟩ w K→(∀c,op≠ .defer c)→Oper.wpIn (FW ro) n P ⟨dst,op,ty,pos,after,guard⟩ a w next Q:=fun h hd=>wpIn_of_wp hd (op_sound hr h hn)
 split at h
 ·rename_i c
  split at h
  ·rename_i x hx0
   split at h
   ·rename_i v vs ks hx hvs hks
    obtain ⟨callee,args,tys⟩:=c
    simp only at hx0 hvs
    subst hx0
    have cv:ClX P v ks vs w (CExt ks [] fun us w'=>K (some (resVal us)) w')→Oper.wpIn (FW ro) n P ⟨dst,.call ⟨.value x,args,tys⟩,ty,pos,after,guard⟩ a w next Q:=fun h=>by
     refine plain ?_ (fun c=>by simp)
     unfold opVC
     simp only [stillB,effVC,hx,hvs,hks]
     exact h
    unfold ClY at h
    split at h
    ·exact cv h
    ·rename_i l first captured
     obtain ⟨fn,tmps,assign,body,h1,h2⟩:=h
     refine ⟨fun _ _=>trivial,?_⟩
     have e:Oper.semAt (FW ro).round a.eval ⟨dst,.call ⟨.value x,args,tys⟩,ty,pos,after,guard⟩=execOp a.eval ⟨dst,.call ⟨.value x,args,tys⟩,ty,pos,after,guard⟩:=by
      cases ro with
      |none=>rfl
      |some l=>exact Oper.semAt_some l _ _ (fun c=>by simp)
     have he:(execOp a.eval ⟨dst,.call ⟨.value x,args,tys⟩,ty,pos,after,guard⟩).run P w= .ok (.round l fn tmps assign body) w:=by
      simp only [execOp,resolve,Sem.run_bind,hr.ev hx,Deferred.ofValue,Sem.run_pure,Result.andThen_ok,invoke,evl_arr hr hvs]
      rw [←h1]
      congr 2
      cases first;simp
     rw [e,he]
     refine ⟨fun hh=>(by cases hh),?_⟩
     refine RoundIn.mono (R:=fun e w'=> ∃b,e= .returned (.bool b)∧decRes ks (.bool b) (CExt ks [] fun us w'=>K (some (resVal us)) w') w') ⟨h2.1,fun c cs _=>h2.2 c cs (room_wide _)⟩ ?_
     rintro e w' ⟨b,rfl,hb⟩
     obtain ⟨us,e1,e2⟩:=decRes_sound hb
     have:=hn (.bool b) (some (resVal us)) w' e2 (fun v' e=>by rw [e1];simpa using e)
     exact this
    ·exact h.elim
   ·exact h.elim
  ·refine plain h (fun c=>by simp)
 ·rename_i op' hop
  refine plain h (fun c hc=> ?_)
  subst hc
  unfold opVC at h
  simp only [stillB,effVC] at h
def vcOpsY (P:Program) (ops:Array Oper):List Oper→AF→World→(AF→World→Prop)→Prop
 | [],f,w,K=>K f w
 |o::rest,f,w,K=>guarded ops o f (fun f=>opVY P f o w fun v w'=>vcOpsY P ops rest (putD f o.dst v) w' K) (fun f=>vcOpsY P ops rest (putD f o.dst (some undef)) w K)
theorem opsY_sound {P:Program} {ro:Option Nat} {n:Nat} {ops:Array Oper} {Q:Exit→Act→World→Prop} {K:AF→World→Prop} (hQ: ∀a f w,Rel nn dfs a f→K f w→Q .normal a w):
  ∀(l:List Oper) (f:AF) (w:World) (a:Act),Rel nn dfs a f→vcOpsY P ops l f w K→wpListIn (FW ro) n P ops Q l a w
 | [],f,w,a,hr,h=>hQ a f w hr h
 |o::rest,f,w,a,hr,h=>by
  obtain ⟨f',hr',h1|h1⟩:=guarded_sound hr h
  ·simp only [wpListIn,h1.1,if_true]
   exact opY_sound hr' h1.2 fun v ov w' hK hv=>opsY_sound hQ rest _ w' _ (hr'.put o.dst hv) hK
  ·simp only [wpListIn,h1.1]
   exact ⟨fun _ _=>trivial,opsY_sound hQ rest _ w _ (hr'.put o.dst (fun v' e=>by simpa using e)) h1.2⟩
theorem vcOpsY_frame {P:Program} {ops:Array Oper} {K K':AF→World→Prop} {f0:AF} (hk: ∀f w,Same (dsts ops.toList) f0 f→K f w→K' f w): ∀(l:List Oper) (f:AF) (w:World),(∀o∈l,o∈ops.toList)→Same (dsts ops.toList) f0 f→vcOpsY P ops l f w K→vcOpsY P ops l f w K'
 | [],f,w,_,hs,h=>hk f w hs h
 |o::rest,f,w,hl,hs,h=>by
  have ho:=hl o (by simp)
  have hr: ∀o∈rest,o∈ops.toList:=fun o' h'=>hl o' (by simp [h'])
  refine guarded_frame (fun g hg h=>opVY_mono (fun v w h=>vcOpsY_frame hk rest _ w hr ((hs.trans hg).trans (Same.putD v fun d hd=>mem_dsts ho hd)) h) h)
   (fun g hg h=>vcOpsY_frame hk rest _ w hr ((hs.trans hg).trans (Same.putD _ fun d hd=>mem_dsts ho hd)) h) h
def vcAll (P:Program) (ops:Array Oper) (K:AF→World→Prop):Nat→Array Bool→AF→World→Prop
 |0,listed,f,w=>onB (Region.ready .any ops listed).isEmpty (K f w)
 |n+1,listed,f,w=>match Region.ready .any ops listed with
  | []=>K f w
  |r::rs=>AllR (r::rs) fun i=>match ops[i]? with
   |some o=>guarded ops o f (fun f=>opVY P f o w fun v w'=>vcAll P ops K n (listed.setIfInBounds i true) (putD f o.dst v) w') (fun f=>vcAll P ops K n (listed.setIfInBounds i true) (putD f o.dst (some undef)) w)
   |none=>False
theorem all_sound {P:Program} {ro:Option Nat} {m:Nat} {ops:Array Oper} {Q:Exit→Act→World→Prop} {K:AF→World→Prop} (hQ: ∀a f w,Rel nn dfs a f→K f w→Q .normal a w):
  ∀(n:Nat) (listed:Array Bool) (f:AF) (w:World) (a:Act),Rel nn dfs a f→vcAll P ops K n listed f w→wpAnyIn (FW ro) m P .any ops Q n listed a w
 |0,listed,f,w,a,hr,h=>by
  obtain ⟨h1,h2⟩:=onB_sound h
  exact ⟨by simpa using h1,hQ _ _ _ hr h2⟩
 |n+1,listed,f,w,a,hr,h=>by
  unfold vcAll at h
  split at h
  ·rename_i he
   exact ⟨fun _=>hQ _ _ _ hr h,by rw [he];simp⟩
  ·rename_i r rs he
   refine ⟨fun h0=>absurd h0 (by rw [he];simp),fun i hi=> ?_⟩
   rw [he] at hi
   have h0:=allR_mem h i hi
   unfold wpOpIn
   split at h0
   ·rename_i o ho
    simp only [ho]
    obtain ⟨f',hr',h1|h1⟩:=guarded_sound hr h0
    ·rw [if_pos h1.1]
     exact opY_sound hr' h1.2 fun v ov w' hK hv=>all_sound hQ n _ _ w' _ (hr'.put o.dst hv) hK
    ·rw [if_neg (by rw [h1.1];simp)]
     exact ⟨fun _ _=>trivial,all_sound hQ n _ _ w _ (hr'.put o.dst (fun v' e=>by simpa using e)) h1.2⟩
   ·exact h0.elim
theorem vcAll_frame {P:Program} {ops:Array Oper} {K K':AF→World→Prop} {f0:AF} (hk: ∀f w,Same (dsts ops.toList) f0 f→K f w→K' f w): ∀(n:Nat) (listed:Array Bool) (f:AF) (w:World),Same (dsts ops.toList) f0 f→vcAll P ops K n listed f w→vcAll P ops K' n listed f w
 |0,listed,f,w,hs,h=>by
  obtain ⟨h1,h2⟩:=onB_sound h
  unfold vcAll
  rw [h1];exact hk _ _ hs h2
 |n+1,listed,f,w,hs,h=>by
  unfold vcAll at h⊢
  split at h
  ·exact hk _ _ hs h
  ·refine allR_mono (fun i h=> ?_) h
   split at h
   ·rename_i o ho
    have hom:o∈ops.toList:=by simpa using Array.mem_of_getElem? ho
    exact guarded_frame (fun g hg h=>opVY_mono (fun v w h=>vcAll_frame hk n _ _ w ((hs.trans hg).trans (Same.putD v fun d hd=>mem_dsts hom hd)) h) h)
     (fun g hg h=>vcAll_frame hk n _ _ w ((hs.trans hg).trans (Same.putD _ fun d hd=>mem_dsts hom hd)) h) h
   ·exact h.elim
def AllB {β:Type}:(ks:List Ki)→FnK ks β→(List Value→β→Prop)→Prop
 | [],b,G=>G [] b
 |k::ks,b,G=> ∀x:k.T,AllB ks (b x) fun vs b=>G (k.enc x::vs) b
def lamB {β:Type}:(ks:List Ki)→(List Value→β)→FnK ks β
 | [],g=>g []
 |k::ks,g=>fun x=>lamB ks fun vs=>g (k.enc x::vs)
def Beg (l:Nat) (rec:Nat→Obj) (w:World) (K:World→Prop):Prop:=w.heap[l]? =some (rec 0)∧K (w.putObj l (rec 1))
def EndT (l:Nat) (rec:Nat→Obj) (w:World) (K:World→Prop):Prop:=w.heap[l]? =some (rec 1)∧K (w.putObj l (rec 0))
def EndF (l:Nat) (rec:Nat→Obj) (w:World) (K:World→Prop):Prop:=w.heap[l]? =some (rec 1)∧K (w.putObj l (rec 2))
def Rng (P:Program) (v:Value) (ks:List Ki) (w:World) (B:Nat→(Nat→Obj)→FnK ks (World→(World→Prop)→(World→Prop)→Prop)) (K Kr:Nat→World→Prop):Prop:=
 ∀(rec:Nat→Obj) (yv:Value),
  (∀(R:Bool→World→Prop) (w2:World),AllB ks (B (w.heap.size+1) rec) fun vs b=>w2.heap[w.heap.size+1]? =some (rec 0)→b w2 (R true) (R false)→ClY P yv [kB] vs w2 R)→
  ClV P v [] [yv] ((w.alloc (.deferred (some []))).alloc (rec 0)) fun w3=>
   (w3.heap[w.heap.size+1]? =some (rec 0)∧K w.heap.size (w3.putObj (w.heap.size+1) (rec 3)))∨(w3.heap[w.heap.size+1]? =some (rec 2)∧Kr w.heap.size (w3.putObj (w.heap.size+1) (rec 4)))
theorem Rng_mono {P:Program} {v:Value} {ks:List Ki} {w:World} {B:Nat→(Nat→Obj)→FnK ks (World→(World→Prop)→(World→Prop)→Prop)} {K K' Kr Kr':Nat→World→Prop} (h1: ∀D w,K D w→K' D w) (h2: ∀D w,Kr D w→Kr' D w)
  (h:Rng P v ks w B K Kr):Rng P v ks w B K' Kr':=fun rec yv hy=>
 ClV_mono (ks:= []) (g:=fun _ w3=>(w3.heap[w.heap.size+1]? =some (rec 0)∧K w.heap.size (w3.putObj (w.heap.size+1) (rec 3)))∨(w3.heap[w.heap.size+1]? =some (rec 2)∧Kr w.heap.size (w3.putObj (w.heap.size+1) (rec 4))))
  (g':=fun _ w3=>(w3.heap[w.heap.size+1]? =some (rec 0)∧K' w.heap.size (w3.putObj (w.heap.size+1) (rec 3)))∨(w3.heap[w.heap.size+1]? =some (rec 2)∧Kr' w.heap.size (w3.putObj (w.heap.size+1) (rec 4))))
  (fun _ _ h=>h.elim (fun h=> .inl ⟨h.1,h1 _ _ h.2⟩) (fun h=> .inr ⟨h.1,h2 _ _ h.2⟩)) (h rec yv hy)
def setPs:AF→List Nat→List Value→Option AF
 |f,[],[]=>some f
 |f,p::ps,v::vs=>setPs (upd f p (some v)) ps vs
 |_,_,_=>none
inductive PlanR where
 |o|s (p q:PlanR)|c (p q:PlanR)|b (p:PlanR)|l (live:List (Nat×Ki)) (p:PlanR)|r (ks:List Ki) (p q:PlanR)
def hasRng:Code→Bool
 | .seq a b=>hasRng a||hasRng b
 | .cond _ a b=>hasRng a||hasRng b
 | .block _ a=>hasRng a
 | .loop a=>hasRng a
 | .scope a=>hasRng a
 | .rangeFunc _ _ _ _=>true
 |_=>false
def thenM (next:AF→List Nat→World→Prop) (Q:Exit→AF→List Nat→World→Prop):Exit→AF→List Nat→World→Prop
 | .normal,f,ms,w=>next f ms w
 |e,f,ms,w=>Q e f ms w
def blockM (id:Nat) (Q:Exit→AF→List Nat→World→Prop):Exit→AF→List Nat→World→Prop
 | .exit i,f,ms,w=>match i==id with|true=>Q .normal f ms w|false=>Q (.exit i) f ms w
 |e,f,ms,w=>Q e f ms w
def roundQ (l:Nat) (rec:Nat→Obj) (Kt Kf:World→Prop):Exit→AF→List Nat→World→Prop
 | .normal,_,_,w=>EndT l rec w Kt
 | .ret,_,_,w=>EndF l rec w Kf
 |_,_,_,_=>False
def topR:PlanR→Bool
 | .b _=>true
 |_=>false
def vcR (P:Program) (n:Nat) (rd:Bool):Code→PlanR→(Exit→AF→List Nat→World→Prop)→AF→List Nat→World→Prop
 | .skip,_,Q,f,ms,w=>Q .normal f ms w
 | .region _ ops d,p,Q,f,ms,w=>match d,rd with
  |false,_=>vcOpsY P ops ops.toList f w fun f w=>Q .normal f ms w
  |true,false=>match topR p with
   |true=>regTop P ops f w fun f w=>Q .normal f ms w
   |false=>vcReg P ops true f w fun f w=>Q .normal f ms w
  |true,true=>Drw w fun w'=>vcAll P ops (fun f w=>Q .normal f ms w) ops.size (Array.replicate ops.size false) f w'
 | .seq x y,.s p q,Q,f,ms,w=>vcR P n rd x p (thenM (fun f ms w=>vcR P n rd y q Q f ms w) Q) f ms w
 | .cond c x y,.c p q,Q,f,ms,w=>match ev f c with
  |some (.bool b)=>IfB b (vcR P n rd x p Q f ms w) (vcR P n rd y q Q f ms w)
  |_=>False
 | .block id c,.b p,Q,f,ms,w=>vcR P n rd c p (blockM id Q) f ms w
 | .loop c,.l live p,Q,f,ms,w=>onB (lives live (writes c)) (match hasRng c with
  |false=> ∃(I:FnL live (World→Prop)) (m:FnL live (World→Nat)),leaf live I f w∧
    allL live I m (forget (writes c) f) fun I0 m0 f=> ∀w,I0 w→vcR P n rd c p (thenM (fun f ms2 w'=>ms2=ms∧leafM live I m (m0 w) f w') Q) f ms w
  |true=> ∃(I:List Nat→FnL live (World→Prop)) (m:FnL live (World→Nat)),leaf live (I ms) f w∧
    ∀ms,allL live (I ms) m (forget (writes c) f) fun I0 m0 f=> ∀w,I0 w→vcR P n rd c p (thenM (fun f ms2 w'=>leafM live (I ms2) m (m0 w) f w') Q) f ms w)
 | .rangeFunc g ps assign body,.r ks p q,Q,f,ms,w=>match rd with
  |true=>False
  |false=>match ev f g with
   |some v=>Rng P v ks w (fun l rec=>lamB ks fun vs w2 Kt Kf=>match setPs f ps.toList vs with
     |some f'=>vcR P n true assign p (thenM (fun f ms w=>Beg l rec w fun w=>vcR P n true body q (roundQ l rec Kt Kf) f ms w) (fun _ _ _ _=>False)) f' [] w2
     |none=>False) (fun D w'=>Q .normal f (D::ms) w') (fun D w'=>Q .ret f (D::ms) w')
   |none=>False
 | .exit id,_,Q,f,ms,w=>Q (.exit id) f ms w
 | .ret,_,Q,f,ms,w=>Q .ret f ms w
 | .label _,_,Q,f,ms,w=>Q .normal f ms w
 |_,_,_,_,_,_=>False
theorem allL_imp {body body':(World→Prop)→(World→Nat)→AF→Prop}: ∀{l:List (Nat×Ki)} {I:FnL l (World→Prop)} {m:FnL l (World→Nat)} {g:AF},(∀I m g,body I m g→body' I m g)→allL l I m g body→allL l I m g body'
 | [],_,_,_,hb,h=>hb _ _ _ h
 |(_,_)::_,_,_,_,hb,h=>fun x=>allL_imp hb (h x)
theorem vcR_mono {P:Program} {n:Nat} {rd:Bool}: ∀(c:Code) (p:PlanR) {Q Q':Exit→AF→List Nat→World→Prop} {f0:AF} (_: ∀e f ms w,Same (writes c) f0 f→Q e f ms w→Q' e f ms w) (ms:List Nat) (w:World),vcR P n rd c p Q f0 ms w→vcR P n rd c p Q' f0 ms w
 | .skip,_,_,_,_,hq,ms,w,h=>hq _ _ _ _ (Same.refl _ _) h
 | .region _ ops d,p,_,_,_,hq,ms,w,h=>by
  unfold vcR at h⊢
  cases d
  ·exact vcOpsY_frame (fun f w hs h=>hq _ f ms w hs h) _ _ _ (fun _ h=>h) (Same.refl _ _) h
  ·cases rd
   ·cases hd:topR p with
    |true=>
     rw [hd] at h
     exact onB_mono (fun h=>vcTop_frame (fun f w hs h=>hq _ f ms w hs h) _ _ _ _ (Same.refl _ _) h) h
    |false=>
     rw [hd] at h
     exact vcReg_frame (fun f w hs h=>hq _ f ms w hs h) h
   ·exact vcAll_frame (fun f w hs h=>hq _ f ms w hs h) _ _ _ _ (Same.refl _ _) h
 | .seq x y,.s p q,Q,Q',f0,hq,ms,w,h=>by
  refine vcR_mono x p (fun e f ms w hs h=> ?_) ms w h
  have hs':Same (writes (.seq x y)) f0 f:=hs.mono fun s h=>List.mem_append.2 (.inl h)
  cases e with
  |normal=>exact vcR_mono y q (fun e f' ms w hs2 h=>hq e f' ms w (hs'.trans (hs2.mono fun s h=>List.mem_append.2 (.inr h))) h) ms w h
  |_=>exact hq _ f ms w hs' h
 | .cond c x y,.c p q,Q,Q',f0,hq,ms,w,h=>by
  unfold vcR at h⊢
  split at h
  ·exact IfB_mono (vcR_mono x p (fun e f ms w hs h=>hq e f ms w (hs.mono fun s h=>List.mem_append.2 (.inl h)) h) ms w) (vcR_mono y q (fun e f ms w hs h=>hq e f ms w (hs.mono fun s h=>List.mem_append.2 (.inr h)) h) ms w) h
  ·exact h.elim
 | .block id c,.b p,Q,Q',f0,hq,ms,w,h=>by
  refine vcR_mono c p (fun e f ms w hs h=> ?_) ms w h
  cases e with
  |exit i=>
   simp only [blockM] at h⊢
   split at h
   ·exact hq _ f ms w hs h
   ·exact hq _ f ms w hs h
  |_=>exact hq _ f ms w hs h
 | .loop c,.l live p,Q,Q',f0,hq,ms,w,h=>by
  unfold vcR at h⊢
  obtain ⟨hl,h⟩:=onB_sound h
  rw [hl]
  show (match hasRng c with|false=>_|true=>_:Prop)
  cases hc:hasRng c with
  |false=>
   rw [hc] at h
   obtain ⟨I,m,h0,h1⟩:=h
   refine ⟨I,m,h0,allL_imp (fun I0 m0 g hb w hI=> ?_) (allL_same (fun s k hk=>Same.lams hl hk) (fun s hs=>get_forget hs) h1)⟩
   refine vcR_mono c p (fun e f' ms' w hs2 h=> ?_) ms w (hb.2 w hI)
   cases e with
   |normal=>exact h
   |_=>exact hq _ f' ms' w (hb.1.trans hs2) h
  |true=>
   rw [hc] at h
   obtain ⟨I,m,h0,h1⟩:=h
   refine ⟨I,m,h0,fun ms=>allL_imp (fun I0 m0 g hb w hI=> ?_) (allL_same (fun s k hk=>Same.lams hl hk) (fun s hs=>get_forget hs) (h1 ms))⟩
   refine vcR_mono c p (fun e f' ms' w hs2 h=> ?_) ms w (hb.2 w hI)
   cases e with
   |normal=>exact h
   |_=>exact hq _ f' ms' w (hb.1.trans hs2) h
 | .rangeFunc g ps assign body,.r ks p q,Q,Q',f0,hq,ms,w,h=>by
  unfold vcR at h⊢
  cases rd
  ·simp only at h⊢
   split at h
   ·exact Rng_mono (fun D w h=>hq _ _ _ _ (Same.refl _ _) h) (fun D w h=>hq _ _ _ _ (Same.refl _ _) h) h
   ·exact h.elim
  ·exact h.elim
 | .exit id,_,_,_,_,hq,ms,w,h=>hq _ _ _ _ (Same.refl _ _) h
 | .ret,_,_,_,_,hq,ms,w,h=>hq _ _ _ _ (Same.refl _ _) h
 | .label _,_,_,_,_,hq,ms,w,h=>hq _ _ _ _ (Same.refl _ _) h
 | .seq _ _,.o,_,_,_,_,_,_,h=>h.elim
 | .seq _ _,.c _ _,_,_,_,_,_,_,h=>h.elim
 | .seq _ _,.b _,_,_,_,_,_,_,h=>h.elim
 | .seq _ _,.l _ _,_,_,_,_,_,_,h=>h.elim
 | .seq _ _,.r _ _ _,_,_,_,_,_,_,h=>h.elim
 | .cond _ _ _,.o,_,_,_,_,_,_,h=>h.elim
 | .cond _ _ _,.s _ _,_,_,_,_,_,_,h=>h.elim
 | .cond _ _ _,.b _,_,_,_,_,_,_,h=>h.elim
 | .cond _ _ _,.l _ _,_,_,_,_,_,_,h=>h.elim
 | .cond _ _ _,.r _ _ _,_,_,_,_,_,_,h=>h.elim
 | .block _ _,.o,_,_,_,_,_,_,h=>h.elim
 | .block _ _,.s _ _,_,_,_,_,_,_,h=>h.elim
 | .block _ _,.c _ _,_,_,_,_,_,_,h=>h.elim
 | .block _ _,.l _ _,_,_,_,_,_,_,h=>h.elim
 | .block _ _,.r _ _ _,_,_,_,_,_,_,h=>h.elim
 | .loop _,.o,_,_,_,_,_,_,h=>h.elim
 | .loop _,.s _ _,_,_,_,_,_,_,h=>h.elim
 | .loop _,.c _ _,_,_,_,_,_,_,h=>h.elim
 | .loop _,.b _,_,_,_,_,_,_,h=>h.elim
 | .loop _,.r _ _ _,_,_,_,_,_,_,h=>h.elim
 | .rangeFunc _ _ _ _,.o,_,_,_,_,_,_,h=>h.elim
 | .rangeFunc _ _ _ _,.s _ _,_,_,_,_,_,_,h=>h.elim
 | .rangeFunc _ _ _ _,.c _ _,_,_,_,_,_,_,h=>h.elim
 | .rangeFunc _ _ _ _,.b _,_,_,_,_,_,_,h=>h.elim
 | .rangeFunc _ _ _ _,.l _ _,_,_,_,_,_,_,h=>h.elim
 | .scope _,_,_,_,_,_,_,_,h=>h.elim
 | .goto _,_,_,_,_,_,_,_,h=>h.elim
 | .refuse _,_,_,_,_,_,_,_,h=>h.elim
theorem decRes_nil {v:Value} {w:World} {K:World→Prop} (h:decRes [] v K w):K w:=by
 cases v with
 |tuple us=>
  obtain ⟨us⟩:=us
  cases us with
  |nil=>exact h
  |cons=>exact h.elim
 |_=>exact h.elim
def mark (r:Nat):Deferred:={target:= .collected r,args:= #[]}
def onM {nn:Nat} (Q:Exit→AF→List Nat→World→Prop) (e:Exit) (a:Act) (w:World):Prop:= ∃f ms,Rel nn (ms.map mark) a f∧Q e f ms w
theorem allB_intro {β:Type}: ∀{ks:List Ki} {g:List Value→β} {G:List Value→β→Prop},(∀vs,G vs (g vs))→AllB ks (lamB ks g) G
 | [],_,_,h=>h []
 |_::_,_,_,h=>fun _=>allB_intro fun _=>h _
theorem setPs_rel: ∀{ps:List Nat} {vs:List Value} {f f':AF} {tmps:Array Value} {d:List Deferred},Rel nn dfs {tmps:=tmps,defers:=d} f→setPs f ps vs=some f'→
  ps.length=vs.length∧Rel nn dfs {tmps:=(ps.zip vs).foldl (fun tmps (t,a)=>tmps.setIfInBounds t a) tmps,defers:=d} f'
 | [],[],f,f',tmps,d,hr,h=>by
  simp only [setPs,Option.some.injEq] at h
  subst h
  exact ⟨rfl,hr⟩
 |p::ps,v::vs,f,f',tmps,d,hr,h=>by
  obtain ⟨h1,h2⟩:=setPs_rel (hr.upd p (some v) v (fun v' e=>by simpa using e)) h
  exact ⟨by simp [h1],h2⟩
 | [],_::_,_,_,_,_,_,h=>by cases h
 |_::_,[],_,_,_,_,_,h=>by cases h
theorem vcR_sound {P:Program} (hm:P.follows .mixedOrders=true): ∀(c:Code) (p:PlanR) (rd:Bool) (ro:Option Nat) (_:ro.isSome=rd) (k:Nat) (Q:Exit→AF→List Nat→World→Prop) (f:AF) (ms:List Nat) (w:World) (a:Act),
  Rel nn (ms.map mark) a f→vcR P nn rd c p Q f ms w→c.wpIn (FW ro) k P (onM (nn:=nn) Q) a w
 | .skip,_,rd,ro,hro,k,Q,f,ms,w,a,hr,h=>wpIn_skip ⟨f,ms,hr,h⟩
 | .region _ ops d,p,rd,ro,hro,k,Q,f,ms,w,a,hr,h=>by
  unfold vcR at h
  cases d
  ·exact wpIn_region_list (opsY_sound (K:=fun f w=>Q .normal f ms w) (fun a f w hr h=>⟨f,ms,hr,h⟩) _ _ _ _ hr h)
  ·cases rd
   ·cases ro with
    |some l=>cases hro
    |none=>
     cases hd:topR p with
     |true=>
      rw [hd] at h
      exact wpIn_wide.2 (regTop_sound hm (K:=fun f w=>Q .normal f ms w) (fun a f w hr h=>⟨f,ms,hr,h⟩) hr h)
     |false=>
      rw [hd] at h
      exact wpIn_wide.2 (reg_sound hm (K:=fun f w=>Q .normal f ms w) (fun a f w hr h=>⟨f,ms,hr,h⟩) hr h)
   ·exact wpIn_region_any hm (all_sound (K:=fun f w=>Q .normal f ms w) (fun a f w hr h=>⟨f,ms,hr,h⟩) _ _ _ _ _ hr h)
 | .seq x y,.s p q,rd,ro,hro,k,Q,f,ms,w,a,hr,h=>by
  refine wpIn_seq (Go.wpIn_mono (vcR_sound hm x p rd ro hro k _ f ms w a hr h) fun e a w ⟨f',ms',hr',h'⟩=> ?_)
  cases e with
  |normal=>exact vcR_sound hm y q rd ro hro k Q f' ms' w a hr' h'
  |_=>exact ⟨f',ms',hr',h'⟩
 | .cond c x y,.c p q,rd,ro,hro,k,Q,f,ms,w,a,hr,h=>by
  unfold vcR at h
  split at h
  ·rename_i b hb
   refine wpIn_cond (hr.ev hb) ?_
   cases b
   ·exact vcR_sound hm y q rd ro hro k Q f ms w a hr h
   ·exact vcR_sound hm x p rd ro hro k Q f ms w a hr h
  ·exact h.elim
 | .block id c,.b p,rd,ro,hro,k,Q,f,ms,w,a,hr,h=>by
  refine wpIn_block (Go.wpIn_mono (vcR_sound hm c p rd ro hro k _ f ms w a hr h) fun e a w ⟨f',ms',hr',h'⟩=> ?_)
  cases e with
  |exit i=>
   simp only [Exit.inBlock]
   simp only [blockM] at h'
   by_cases hi:i=id
   ·subst hi;simp at h';simp only [if_true];exact ⟨f',ms',hr',h'⟩
   ·have:(i==id)=false:=by simpa using hi
    rw [this] at h';rw [if_neg hi];exact ⟨f',ms',hr',h'⟩
  |_=>exact ⟨f',ms',hr',h'⟩
 | .loop c,.l live p,rd,ro,hro,k,Q,f,ms,w,a,hr,h=>by
  unfold vcR at h
  obtain ⟨hl,h⟩:=onB_sound h
  have hsh:=hr.shape
  cases hc:hasRng c with
  |false=>
   rw [hc] at h
   obtain ⟨I,m,h0,hall⟩:=h
   refine Go.wpIn_loop (fun a w=> ∃f',Rel nn (ms.map mark) a f'∧leaf live I f' w∧Same (writes c) f f') (fun a w=>measA a w live m) ⟨f,hr,h0,Same.refl _ _⟩ fun a w ⟨f1,hr,hI,hs⟩=> ?_
   obtain ⟨I0,m0,g,hg,h1,⟨hgs,h2⟩,h3⟩:=leaf_all hr live I m _ (hr.keep hsh hs) hI (allL_same (fun s k hk=>Same.lams hl hk) (fun s hs=>get_forget hs) hall)
   have h4:=vcR_mono c p (Q':=fun e f' ms' w'=>thenM (fun f ms2 w'=>ms2=ms∧leafM live I m (m0 w) f w') Q e f' ms' w'∧Same (writes c) g f') (fun e f' ms' w hs h=>⟨h,hs⟩) ms w (h2 w h1)
   refine Go.wpIn_mono (vcR_sound hm c p rd ro hro k _ g ms w a hg h4) fun e a' w' ⟨f',ms',hr',h',hs'⟩=> ?_
   cases e with
   |normal=>
    obtain ⟨e,h'⟩:=h'
    subst e
    refine ⟨⟨f',hr',leafM_leaf h',hgs.trans hs'⟩,?_⟩
    have:=leafM_meas hr' h'
    simp only [h3]
    exact this
   |_=>exact ⟨f',ms',hr',h'⟩
  |true=>
   rw [hc] at h
   obtain ⟨I,m,h0,hall⟩:=h
   refine Go.wpIn_loop (fun a w=> ∃f' ms',Rel nn (ms'.map mark) a f'∧leaf live (I ms') f' w∧Same (writes c) f f') (fun a w=>measA a w live m) ⟨f,ms,hr,h0,Same.refl _ _⟩ fun a w ⟨f1,ms1,hr,hI,hs⟩=> ?_
   obtain ⟨I0,m0,g,hg,h1,⟨hgs,h2⟩,h3⟩:=leaf_all hr live (I ms1) m _ (hr.keep hsh hs) hI (allL_same (fun s k hk=>Same.lams hl hk) (fun s hs=>get_forget hs) (hall ms1))
   have h4:=vcR_mono c p (Q':=fun e f' ms' w'=>thenM (fun f ms2 w'=>leafM live (I ms2) m (m0 w) f w') Q e f' ms' w'∧Same (writes c) g f') (fun e f' ms' w hs h=>⟨h,hs⟩) ms1 w (h2 w h1)
   refine Go.wpIn_mono (vcR_sound hm c p rd ro hro k _ g ms1 w a hg h4) fun e a' w' ⟨f',ms',hr',h',hs'⟩=> ?_
   cases e with
   |normal=>
    refine ⟨⟨f',ms',hr',leafM_leaf h',hgs.trans hs'⟩,?_⟩
    have:=leafM_meas hr' h'
    simp only [h3]
    exact this
   |_=>exact ⟨f',ms',hr',h'⟩
 | .rangeFunc g ps assign body,.r ks p q,rd,ro,hro,k,Q,f,ms,w,a,hr,h=>by
  unfold vcR at h
  cases rd
  ·cases ro with
   |some l=>cases hro
   |none=>
    simp only at h
    split at h
    ·rename_i v hv
     refine wpIn_rangeFunc fun fn _=> ?_
     have hcl:=h (fun i=> .loop (match i with
       |0=>{state:= .ready,pending:=none,fn,tmps:=a.tmps,params:=ps,assign,body,defers:=w.heap.size}
       |1=>{state:= .busy,pending:=none,fn,tmps:=a.tmps,params:=ps,assign,body,defers:=w.heap.size}
       |2=>{state:= .done,pending:=some .ret,fn,tmps:=a.tmps,params:=ps,assign,body,defers:=w.heap.size}
       |3=>{state:= .exhausted,pending:=none,fn,tmps:=a.tmps,params:=ps,assign,body,defers:=w.heap.size}
       |_=>{state:= .exhausted,pending:=some .ret,fn,tmps:=a.tmps,params:=ps,assign,body,defers:=w.heap.size}))
      (.func (.yield (w.heap.size+1)) #[] #[]) (fun R w2=>allB_intro fun vs hrec hB=> ?_)
     ·unfold ClV at hcl
      split at hcl
      ·rename_i i first captured
       obtain ⟨hok,hc⟩:=onB_sound hcl
       have he:=run_enterLoop_outer (P:=P) (w:=w) fn a.tmps ps assign body
       obtain ⟨w1,hw1⟩: ∃w1,w1=(w.alloc (.deferred (some []))).alloc (.loop {state:= .ready,pending:=none,fn,tmps:=a.tmps,params:=ps,assign,body,defers:=w.heap.size}):=⟨_,rfl⟩
       rw [←hw1] at he
       refine ⟨w.heap.size+1,[mark w.heap.size],w1,{target:= .fn (.func i) captured,args:=first++ #[.func (.yield (w.heap.size+1)) #[] #[]]},w1,i,⟨first.toList++ [.func (.yield (w.heap.size+1)) #[] #[]]++captured.toList⟩,w1,
        he,?_,fun _ _=>trivial,?_,fun hh=>(by cases hh),?_⟩
       ·have hg:=hr.ev hv
        simp only [resolve,hg,Deferred.ofValue,Sem.run_pure]
        simp [Act.eval]
       ·have hcc:=okCall_run (P:=P) hok
        have e:(first++ #[Value.func (.yield (w.heap.size+1)) #[] #[]])++captured=⟨first.toList++ [.func (.yield (w.heap.size+1)) #[] #[]]++captured.toList⟩:=by
         apply Array.ext';simp
        simp only [invoke,e]
        exact hcc _ _
       ·refine (callsIn_wide (n:=k - 1)).2 ?_
        rw [hw1]
        refine Calls.mono hc fun e w3 hp=> ?_
        have hrel:Rel nn ((w.heap.size::ms).map mark) {a with defers:= [mark w.heap.size]++a.defers} f:=⟨hr.size,hr.shape,by simp [hr.defs],hr.val⟩
        cases e with
        |returned v'=>
         have hp:=decRes_nil hp
         rcases hp with ⟨h1,h2⟩|⟨h1,h2⟩
         ·exact ⟨none,_,run_endLoop h1 (by simp),⟨f,_,hrel,h2⟩⟩
         ·exact ⟨some .ret,_,run_endLoop h1 (by simp),wpIn_ret ⟨f,_,hrel,h2⟩⟩
        |panicked=>exact hp.elim
        |outgrown=>exact hp.elim
      ·exact hcl.elim
     ·split at hB
      ·rename_i f' hf'
       have hr0:Rel nn [] {tmps:=a.tmps,defers:= []} f:=⟨hr.size,hr.shape,rfl,hr.val⟩
       obtain ⟨hlen,hrel⟩:=setPs_rel hr0 hf'
       have hz:(ps.zip (⟨vs⟩:Array Value)).foldl (fun tmps (t,a)=>tmps.setIfInBounds t a) a.tmps=(ps.toList.zip vs).foldl (fun tmps (t,a)=>tmps.setIfInBounds t a) a.tmps:=by
        rw [←Array.foldl_toList];simp
       refine ⟨fn,_,assign,body,run_yield hrec (by simpa using hlen.symm),?_⟩
       refine RoundIn.mono (R:=fun e w'=> ∃b,e= .returned (.bool b)∧R b w') ?_ fun e w' ⟨b,h1,h2⟩=>⟨b,h1,h2⟩
       refine roundIn_of_wpIn trivial ?_
       simp only [List.nil_append,hz]
       refine Go.wpIn_mono (vcR_sound hm assign p true (some (w.heap.size+1)) rfl 0 _ f' [] w2 _ hrel hB) fun e a1 w1 ⟨f1,ms1,hr1,h1⟩=> ?_
       cases e with
       |normal=>
        obtain ⟨h2,h3⟩:=h1
        refine ⟨_,run_beginRound h2 rfl,?_⟩
        refine Go.wpIn_mono (vcR_sound hm body q true (some (w.heap.size+1)) rfl 0 _ f1 ms1 _ _ hr1 h3) fun e a2 w4 ⟨f2,ms2,hr2,h4⟩=> ?_
        cases e with
        |normal=>
         obtain ⟨h5,h6⟩:=h4
         exact ⟨_,_,run_endRound none h5,true,rfl,h6⟩
        |ret=>
         obtain ⟨h5,h6⟩:=h4
         exact ⟨_,_,run_endRound (some .ret) h5,false,rfl,h6⟩
        |exit id=>exact h4.elim
        |goto t=>exact h4.elim
        |panic c=>exact h4.elim
        |outgrown=>exact h4.elim
       |exit id=>exact h1.elim
       |goto t=>exact h1.elim
       |ret=>exact h1.elim
       |panic c=>exact h1.elim
       |outgrown=>exact h1.elim
      ·exact hB.elim
    ·exact h.elim
  ·exact h.elim
 | .exit id,_,rd,ro,hro,k,Q,f,ms,w,a,hr,h=>wpIn_exit ⟨f,ms,hr,h⟩
 | .ret,_,rd,ro,hro,k,Q,f,ms,w,a,hr,h=>wpIn_ret ⟨f,ms,hr,h⟩
 | .label _,_,rd,ro,hro,k,Q,f,ms,w,a,hr,h=>wpIn_label ⟨f,ms,hr,h⟩
 | .seq _ _,.o,_,_,_,_,_,_,_,_,_,_,h=>h.elim
 | .seq _ _,.c _ _,_,_,_,_,_,_,_,_,_,_,h=>h.elim
 | .seq _ _,.b _,_,_,_,_,_,_,_,_,_,_,h=>h.elim
 | .seq _ _,.l _ _,_,_,_,_,_,_,_,_,_,_,h=>h.elim
 | .seq _ _,.r _ _ _,_,_,_,_,_,_,_,_,_,_,h=>h.elim
 | .cond _ _ _,.o,_,_,_,_,_,_,_,_,_,_,h=>h.elim
 | .cond _ _ _,.s _ _,_,_,_,_,_,_,_,_,_,_,h=>h.elim
 | .cond _ _ _,.b _,_,_,_,_,_,_,_,_,_,_,h=>h.elim
 | .cond _ _ _,.l _ _,_,_,_,_,_,_,_,_,_,_,h=>h.elim
 | .cond _ _ _,.r _ _ _,_,_,_,_,_,_,_,_,_,_,h=>h.elim
 | .block _ _,.o,_,_,_,_,_,_,_,_,_,_,h=>h.elim
 | .block _ _,.s _ _,_,_,_,_,_,_,_,_,_,_,h=>h.elim
 | .block _ _,.c _ _,_,_,_,_,_,_,_,_,_,_,h=>h.elim
 | .block _ _,.l _ _,_,_,_,_,_,_,_,_,_,_,h=>h.elim
 | .block _ _,.r _ _ _,_,_,_,_,_,_,_,_,_,_,h=>h.elim
 | .loop _,.o,_,_,_,_,_,_,_,_,_,_,h=>h.elim
 | .loop _,.s _ _,_,_,_,_,_,_,_,_,_,_,h=>h.elim
 | .loop _,.c _ _,_,_,_,_,_,_,_,_,_,_,h=>h.elim
 | .loop _,.b _,_,_,_,_,_,_,_,_,_,_,h=>h.elim
 | .loop _,.r _ _ _,_,_,_,_,_,_,_,_,_,_,h=>h.elim
 | .rangeFunc _ _ _ _,.o,_,_,_,_,_,_,_,_,_,_,h=>h.elim
 | .rangeFunc _ _ _ _,.s _ _,_,_,_,_,_,_,_,_,_,_,h=>h.elim
 | .rangeFunc _ _ _ _,.c _ _,_,_,_,_,_,_,_,_,_,_,h=>h.elim
 | .rangeFunc _ _ _ _,.b _,_,_,_,_,_,_,_,_,_,_,h=>h.elim
 | .rangeFunc _ _ _ _,.l _ _,_,_,_,_,_,_,_,_,_,_,h=>h.elim
 | .scope _,_,_,_,_,_,_,_,_,_,_,_,h=>h.elim
 | .goto _,_,_,_,_,_,_,_,_,_,_,_,h=>h.elim
 | .refuse _,_,_,_,_,_,_,_,_,_,_,_,h=>h.elim
def Dfr:List Nat→World→(World→Prop)→Prop
 | [],w,K=>K w
 |r::rs,w,K=>w.heap[r]? =some (.deferred (some []))∧Dfr rs (w.putObj r (.deferred none)) K
def retM (P:Program) (rs:List ResultVar) (ks:List Ki) (K:FnK ks (World→Prop)):Exit→AF→List Nat→World→Prop
 | .normal,f,ms,w| .ret,f,ms,w=>Dfr ms w fun w=>RetV P rs f w [] fun vs=>decRes ks (resVal vs) K w
 |_,_,_,_=>False
theorem calls_of_vcR {P:Program} (hm:P.follows .mixedOrders=true) {i:FuncId} {fn:Func} {c:Code} {args:List Value} {w:World} {ks:List Ki} {K:FnK ks (World→Prop)} (n:Nat) (rs:List ResultVar)
  (hf:P.funcs[i]? =some fn) (hb:fn.body=some c) (hn:fn.ntmps=n) (hl:args.length≤n) (hrs:fn.results.toList=rs) (p:PlanR) (h:vcR P n false c p (retM P rs ks K) (initF args n) [] w):Cl P ks i ⟨args⟩ w K:=by
 refine (callsIn_wide (n:=0)).1 (callsIn_of_wp_marks (F:=Fence.wide) hf hb trivial ?_)
 subst hn;subst hrs
 have hsz:((⟨args⟩:Array Value)++Array.replicate (fn.ntmps - (⟨args⟩:Array Value).size) undef).size=fn.ntmps:=by simp;omega
 have hr:Rel fn.ntmps (([]:List Nat).map mark) {tmps:=(⟨args⟩:Array Value)++Array.replicate (fn.ntmps - (⟨args⟩:Array Value).size) undef,defers:= []} (initF args fn.ntmps):=by
  refine ⟨hsz,fun i hi=>has_bld _ _ _ _ hi,rfl,fun i v hv=> ?_⟩
  have h1:=get_bld _ _ _ _ _ hv
  simp only [Option.some.injEq] at h1
  have hi:i<fn.ntmps:=has_bld _ _ _ _ (get_has hv)
  simp only [Array.getD_eq_getD_getElem?]
  have h2:((⟨args⟩:Array Value)++Array.replicate (fn.ntmps - (⟨args⟩:Array Value).size) undef)[i]? =(args++List.replicate (fn.ntmps - args.length) undef)[i]? :=by
   rw [←Array.getElem?_toList]
   simp
  rw [h2,←h1]
  by_cases ha:i<args.length
  ·simp [List.getElem?_append_left ha,List.getD_eq_getElem?_getD]
  ·rw [List.getElem?_append_right (by omega),List.getElem?_replicate]
   rw [if_pos (by omega)]
   simp [List.getD_eq_getElem?_getD,List.getElem?_eq_none (by omega:args.length≤i)]
 refine Go.wpIn_mono (vcR_sound hm c p false none rfl 0 _ _ [] w _ hr h) fun e a w' ⟨f,ms,hr,hq⟩=> ?_
 have fin: ∀(ms:List Nat) (w':World),(Dfr ms w' fun w=>RetV P fn.results.toList f w [] fun vs=>decRes ks (resVal vs) K w)→LeavesInM Fence.wide 0 P fn a.tmps (resPost ks K) (ms.map mark) .returning w':=by
  intro ms
  induction ms with
  |nil=>
   intro w' hq
   obtain ⟨vs,h1,h2⟩:=RetV_sound hr _ _ hq
   refine ⟨resVal vs,?_,h2⟩
   rw [results_eq,Array.mapM_eq_mapM_toList]
   simp only [Sem.run_bind,Sem.run_map,h1,Result.andThen_ok,Sem.run_pure]
   congr 1
   match vs with
   | []=>rfl
   | [v]=>rfl
   |a::b::l=>simp [resVal]
  |cons r ms ih=>
   intro w' hq
   exact ⟨by simp,.inl ⟨r,_,rfl,run_takeDeferred hq.1,ih _ hq.2⟩⟩
 have hd:=hr.defs
 cases e<;>first|exact hq.elim|(show LeavesInM _ _ _ _ _ _ a.defers _ _;rw [hd];exact fin ms w' hq)
theorem calls_of_eqR {P:Program} (hm:P.follows .mixedOrders=true) {i:FuncId} {w:World} {F:Prop} (fn:Func) (args:List Value) (ks:List Ki) (K:FnK ks (World→Prop)) (n:Nat) (rs:List ResultVar)
  (hf:P.funcs[i]? =some fn) (hb:fn.body=some (fn.body.getD .skip)) (hn:fn.ntmps=n) (hl:Nat.ble args.length n=true) (hrs:fn.results.toList=rs) (p:PlanR)
  (he:vcR P n false (fn.body.getD .skip) p (retM P rs ks K) (initF args n) [] w=F) (h:F):Cl P ks i ⟨args⟩ w K:=
 calls_of_vcR hm n rs hf hb hn (Nat.le_of_ble_eq_true hl) hrs p (he▸h)
end
end Go.Vc
set_option maxRecDepth 20000
namespace Go.Vc
open Go
noncomputable section
variable {nn:Nat} {dfs:List Deferred}
end
end Go.Vc
namespace Go.Proofs.YtcdpblipagajiaaGreat
open Go Go.Vc
abbrev n_law25_BlockOther:Nat:=5
abbrev n_law25_wakes:Nat:=11
abbrev n_block_Pack:Nat:=12
abbrev n_block_Unpack:Nat:=14
abbrev n_block_Column:Nat:=16
abbrev n_ref25_Column:Nat:=17
abbrev n_ref07_Ints:Nat:=18
abbrev n_block_Symbols:Nat:=19
abbrev n_ref25_Symbols:Nat:=20
abbrev n_block_Lengths:Nat:=21
abbrev n_ref07_Lengths:Nat:=23
abbrev n_ref10_Of:Nat:=24
abbrev n_ref11_Bits:Nat:=25
abbrev n_ref24_PutBlock:Nat:=26
abbrev n_ref04_Of:Nat:=27
abbrev n_ref02_Bytes:Nat:=28
abbrev n_ref17_Turned:Nat:=30
abbrev n_ref15_All:Nat:=31
abbrev n_ref07_Sum:Nat:=32
abbrev n_header_PutBlock:Nat:=42
abbrev n_crc_Of:Nat:=43
abbrev n_symenc_All:Nat:=44
abbrev n_block_lengths:Nat:=45
abbrev n_bitwriter_New:Nat:=46
abbrev n_lengthtable_Put:Nat:=47
abbrev n_prefixenc_Put:Nat:=48
abbrev n_bitwriter_Writer_Bytes:Nat:=49
abbrev n_header_TakeMark:Nat:=50
abbrev n_bitwriter_Of:Nat:=51
abbrev n_lengthtable_Read:Nat:=52
abbrev n_block_column:Nat:=53
abbrev n_slices_Contains_int_int:Nat:=54
abbrev n_bwt_Back:Nat:=55
abbrev n_block_turned:Nat:=56
abbrev n_bytes_Clone:Nat:=57
abbrev n_bwt_Turn:Nat:=61
abbrev n_ref17_Turn:Nat:=62
abbrev n_ref07_Order:Nat:=64
abbrev n_ref07_Valid:Nat:=65
abbrev n_ref07_rows:Nat:=66
abbrev n_ref07_count:Nat:=67
abbrev n_ref08_Table:Nat:=68
abbrev n_ref10_Bits:Nat:=69
abbrev n_ref09_Codes:Nat:=70
abbrev n_ref05_Put:Nat:=71
abbrev n_ref04_Put:Nat:=72
abbrev n_ref04_Feed:Nat:=73
abbrev n_ref15_Step:Nat:=75
abbrev n_ref15_New:Nat:=76
abbrev n_ref15_End:Nat:=77
abbrev n_header_number:Nat:=84
abbrev n_header_within:Nat:=85
abbrev n_slices_Concat_byte_byte:Nat:=86
abbrev n_crc_Put:Nat:=87
abbrev n_crc_Feed:Nat:=88
abbrev n_symenc_Step:Nat:=89
abbrev n_symenc_New:Nat:=90
abbrev n_symenc_End:Nat:=91
abbrev n_histogram_Of:Nat:=92
abbrev n_packagemerge_Lengths:Nat:=93
abbrev n_lengthtable_Of:Nat:=94
abbrev n_bitwriter_Writer_Put:Nat:=95
abbrev n_prefixenc_Size:Nat:=96
abbrev n_canonical_Codes:Nat:=97
abbrev n_header_StepMark:Nat:=98
abbrev n_bitwriter_bit:Nat:=99
abbrev n_lengthtable_next:Nat:=100
abbrev n_prefixdec_New:Nat:=101
abbrev n_symdec_New:Nat:=102
abbrev n_prefixdec_Step:Nat:=103
abbrev n_symdec_Step:Nat:=104
abbrev n_slices_Index_int_int:Nat:=105
abbrev n_bwt_behind:Nat:=106
abbrev n_bwt_place:Nat:=107
abbrev n_slices_Reverse_byte_byte:Nat:=108
abbrev n_bwt_Order:Nat:=114
abbrev n_ref17_Order:Nat:=115
abbrev n_ref07_put:Nat:=117
abbrev n_ref08_Sum:Nat:=118
abbrev n_ref10_put:Nat:=119
abbrev n_ref09_Valid:Nat:=120
abbrev n_ref09_Order:Nat:=121
abbrev n_ref04_Step:Nat:=122
abbrev n_ref15_Valid:Nat:=123
abbrev n_ref13_Put:Nat:=124
abbrev n_ref15_Run:Nat:=125
abbrev n_ref13_New:Nat:=126
abbrev n_varint_Put:Nat:=130
abbrev n_slices_Grow_byte_byte:Nat:=131
abbrev n_crc_Table:Nat:=132
abbrev n_symenc_Valid:Nat:=133
abbrev n_mtf_Put:Nat:=134
abbrev n_zerorun_Digits:Nat:=135
abbrev n_mtf_New:Nat:=136
abbrev n_histogram_Add:Nat:=137
abbrev n_packagemerge_Order:Nat:=138
abbrev n_packagemerge_Valid:Nat:=139
abbrev n_packagemerge_leaves:Nat:=140
abbrev n_packagemerge_next:Nat:=141
abbrev n_kraft_Table:Nat:=142
abbrev n_lengthtable_changes:Nat:=143
abbrev n_bitwriter_fits:Nat:=144
abbrev n_bitwriter_down:Nat:=145
abbrev n_bitwriter_Writer_add:Nat:=146
abbrev n_canonical_Valid:Nat:=147
abbrev n_canonical_Order:Nat:=148
abbrev n_header_mark:Nat:=149
abbrev n_header_many:Nat:=150
abbrev n_header_index:Nat:=151
abbrev n_header_sum:Nat:=152
abbrev n_header_ValidMark:Nat:=153
abbrev n_prefixdec_Valid:Nat:=154
abbrev n_prefixdec_first:Nat:=155
abbrev n_prefixdec_of:Nat:=156
abbrev n_symdec_Valid:Nat:=157
abbrev n_symdec_step:Nat:=158
abbrev n_ref13_Take:Nat:=162
abbrev n_bwt_ranks:Nat:=163
abbrev n_ref17_Less:Nat:=164
abbrev n_ref08_Share:Nat:=166
abbrev n_ref04_Row:Nat:=167
abbrev n_ref13_Valid:Nat:=168
abbrev n_header_grow:Nat:=170
abbrev n_crc_row:Nat:=172
abbrev n_mtf_Valid:Nat:=173
abbrev n_bytes_IndexByte:Nat:=174
abbrev n_mtf_Take:Nat:=175
abbrev n_zerorun_down:Nat:=176
abbrev n_histogram_Valid:Nat:=177
abbrev n_histogram_is:Nat:=178
abbrev n_slices_SortStableFunc_int_int:Nat:=179
abbrev n_packagemerge_Order_1:Nat:=180
abbrev n_cmp_Compare_int:Nat:=181
abbrev n_slices_ContainsFunc_int_int:Nat:=182
abbrev n_packagemerge_Valid_1:Nat:=183
abbrev n_kraft_Complete:Nat:=184
abbrev n_lengthtable_changes_1:Nat:=185
abbrev n_bitwriter_down_1:Nat:=186
abbrev n_kraft_Fits:Nat:=187
abbrev n_canonical_Order_1:Nat:=188
abbrev n_cmp_Compare_uint8:Nat:=189
abbrev n_header_comes:Nat:=190
abbrev n_header_sums:Nat:=191
abbrev n_kraft_Counts:Nat:=192
abbrev n_zerorun_Add:Nat:=193
abbrev n_symdec_run:Nat:=194
abbrev n_bwt_ranked:Nat:=195
abbrev n_varint_Step:Nat:=196
abbrev n_mtf_ones:Nat:=198
abbrev n_internal_bytealg_IndexByte:Nat:=199
abbrev n_zerorun_down_1:Nat:=200
abbrev n_slices_stableCmpFunc_int:Nat:=201
abbrev n_cmp_isNaN_int:Nat:=202
abbrev n_slices_IndexFunc_int_int:Nat:=203
abbrev n_kraft_Sum:Nat:=204
abbrev n_cmp_isNaN_uint8:Nat:=205
abbrev n_varint_Valid:Nat:=206
abbrev n_bytes_Repeat:Nat:=207
abbrev n_slices_Clone_bwt_pair_bwt_pair:Nat:=208
abbrev n_slices_SortFunc_bwt_pair_bwt_pair:Nat:=209
abbrev n_bwt_ranked_1:Nat:=210
abbrev n_cmp_Or_int:Nat:=211
abbrev n_slices_insertionSortCmpFunc_int:Nat:=213
abbrev n_slices_symMergeCmpFunc_int:Nat:=214
abbrev n_kraft_share:Nat:=215
abbrev n_math_bits_Mul:Nat:=216
abbrev n_internal_bytealg_MakeNoZero:Nat:=217
abbrev n_slices_rotateCmpFunc_int:Nat:=220
abbrev n_math_bits_Mul64:Nat:=222
abbrev n_slices_swapRangeCmpFunc_int:Nat:=233
theorem Tryz.mix:Tryz.prog.follows .mixedOrders=true:=by kernel_rfl
end Go.Proofs.YtcdpblipagajiaaGreat
namespace Go.Proofs.YtcdpblipagajiaaGreat
open Go Go.Vc
set_option maxRecDepth 100000 in
def law25_BlockOther.E (x1:Sl) (counts2:Sl) (R:Bool→World→Prop) (w:World):Prop:=
 Join (fun (w_9:World)=>
 Cl Tryz.prog [kS] n_ref25_Symbols ⟨[(.slice x1.base x1.len x1.cap)]⟩ w_9 fun (r11:Sl) (w_10:World)=>
 Nw 41 ⟨List.replicate 258 (.int .i64 0)⟩ w_10 fun (b13:Nat) (w_12:World)=>
 ∃(I_14:Int→World→Prop) (m_15:Int→World→Nat),I_14 (0) w_12∧
 ∀(i16:Int),∀(w_17:World),I_14 i16 w_17→
 IfB (decide ((i16:Int)<((r11.len:Int):Int)))
 (Idx r11 i16 1 fun (q18:Addr)=>
 Ld kI q18 w_17 fun (x19:Int)=>
 IdxP (⟨b13,0,none⟩:Addr) 258 x19 1 fun (q20:Addr)=>
 St q20 (.int .i64 1) w_17 fun (w_21:World)=>
 I_14 ((i64 ((i16:Int)+(1:Int)))) w_21∧m_15 ((i64 ((i16:Int)+(1:Int)))) w_21<m_15 i16 w_17)
 (∃(I_22:Int→World→Prop) (m_23:Int→World→Nat),I_22 (0) w_17∧
 ∀(i24:Int),∀(w_25:World),I_22 i24 w_25→
 IfB (decide ((i24:Int)<((counts2.len:Int):Int)))
 (Drw w_25 fun (w_34:World)=>
 IdxP (⟨b13,0,none⟩:Addr) 258 i24 1 fun (q35:Addr)=>
 Ld kI q35 w_34 fun (x36:Int)=>
 Idx counts2 i24 1 fun (q37:Addr)=>
 Ld kI q37 w_34 fun (x38:Int)=>
 IdxP (⟨b13,0,none⟩:Addr) 258 i24 1 fun (q39:Addr)=>
 St q39 (.int .i64 (if ((if (1000:Int)<((if (0:Int)>(x38:Int) then (0:Int) else (x38:Int)):Int) then (1000:Int) else ((if (0:Int)>(x38:Int) then (0:Int) else (x38:Int)):Int)):Int)>(x36:Int) then ((if (1000:Int)<((if (0:Int)>(x38:Int) then (0:Int) else (x38:Int)):Int) then (1000:Int) else ((if (0:Int)>(x38:Int) then (0:Int) else (x38:Int)):Int)):Int) else (x36:Int))) w_34 fun (w_40:World)=>
 I_22 ((i64 ((i24:Int)+(1:Int)))) w_40∧m_23 ((i64 ((i24:Int)+(1:Int)))) w_40<m_23 i24 w_25)
 (Ld (.arr 258) (⟨b13,0,none⟩:Addr) w_25 fun (x41:(Array Value))=>
 Cl Tryz.prog [(.arr 258),kI] n_ref07_Lengths ⟨[(.agg x41),(.int .i64 15)]⟩ w_25 fun (r43:(Array Value)) (r44:Int) (w_42:World)=>
 Nw 36 ⟨List.replicate 258 (.int .u8 0)⟩ w_42 fun (b46:Nat) (w_45:World)=>
 StA 258 (⟨b46,0,none⟩:Addr) r43 w_45 fun (w_47:World)=>
 Ld (.arr 258) (⟨b46,0,none⟩:Addr) w_47 fun (x48:(Array Value))=>
 Cl Tryz.prog [kS,kI] n_ref10_Of ⟨[(.agg x48)]⟩ w_47 fun (r50:Sl) (r51:Int) (w_49:World)=>
 Ld (.arr 258) (⟨b46,0,none⟩:Addr) w_49 fun (x52:(Array Value))=>
 Cl Tryz.prog [kS,kB] n_ref11_Bits ⟨[(.agg x52),(.slice r11.base r11.len r11.cap)]⟩ w_49 fun (r54:Sl) (r55:Bool) (w_53:World)=>
 Cl Tryz.prog [kS,kI] n_ref25_Column ⟨[(.slice x1.base x1.len x1.cap)]⟩ w_53 fun (r57:Sl) (r58:Int) (w_56:World)=>
 Nw 22 ⟨[(.slice x1.base x1.len x1.cap)]⟩ w_56 fun (b60:Nat) (w_59:World)=>
 Cl Tryz.prog [(kInt .u32)] n_ref04_Of ⟨[(.slice (⟨some ⟨b60,0,none⟩,1,1⟩:Sl).base (⟨some ⟨b60,0,none⟩,1,1⟩:Sl).len (⟨some ⟨b60,0,none⟩,1,1⟩:Sl).cap)]⟩ w_59 fun (r62:Int) (w_61:World)=>
 Cl Tryz.prog [kS,kI] n_ref24_PutBlock ⟨[(.int .i64 (x1.len:Int)),(.agg ⟨[(.int .i64 (x1.len:Int)),(.int .i64 r58),(.int .u32 r62)]⟩)]⟩ w_61 fun (r64:Sl) (r65:Int) (w_63:World)=>
 Join (fun (w_70:World)=>
 Nw 3 ⟨[]⟩ w_70 fun (b72:Nat) (w_71:World)=>
 Run Tryz.prog (Builtin.append_ #[33,33] 33 ⟨[(.slice (⟨some ⟨b72,0,none⟩,0,0⟩:Sl).base (⟨some ⟨b72,0,none⟩,0,0⟩:Sl).len (⟨some ⟨b72,0,none⟩,0,0⟩:Sl).cap),(.slice r50.base r50.len r50.cap)]⟩) kS w_71 fun (s74:Sl) (w_73:World)=>
 Run Tryz.prog (Builtin.append_ #[33,33] 33 ⟨[(.slice s74.base s74.len s74.cap),(.slice r54.base r54.len r54.cap)]⟩) kS w_73 fun (s76:Sl) (w_75:World)=>
 Cl Tryz.prog [kS] n_ref02_Bytes ⟨[(.slice s76.base s76.len s76.cap)]⟩ w_75 fun (r78:Sl) (w_77:World)=>
 Run Tryz.prog (Builtin.append_ #[22,22] 22 ⟨[(.slice r64.base r64.len r64.cap),(.slice r78.base r78.len r78.cap)]⟩) kS w_77 fun (s80:Sl) (w_79:World)=>
 Cl Tryz.prog [kS,kS,kI] n_block_Unpack ⟨[(.int .i64 (x1.len:Int)),(.slice s80.base s80.len s80.cap)]⟩ w_79 fun (r82:Sl) (r83:Sl) (r84:Int) (w_81:World)=>
 IfB ((r84:Int)==(0:Int))
 (Run Tryz.prog (convert 22 9 (.slice r82.base r82.len r82.cap)) kStr w_81 fun (s86:ByteArray) (w_85:World)=>
 Run Tryz.prog (convert 22 9 (.slice x1.base x1.len x1.cap)) kStr w_85 fun (s88:ByteArray) (w_87:World)=>
 IfB ((s86).toList==(s88).toList)
 (IfB (((r83.len:Int):Int)==(0:Int))
 (Cl Tryz.prog [kB] n_law25_wakes ⟨[]⟩ w_87 fun (r90:Bool) (w_89:World)=>
 R (r90) w_89)
 (R (false) w_87))
 (R (false) w_87))
 (R (false) w_81)) fun (K_66:World→Prop)=>
 Join (fun (t115_68:Bool) (w_69:World)=>
 IfB t115_68
 (R (false) w_69)
 (K_66 w_69)) fun (K_67:Bool→World→Prop)=>
 IfB ((r44:Int) !=(0:Int))
 (K_67 (true) w_63)
 (IfB ((r51:Int) !=(0:Int))
 (K_67 (true) w_63)
 (IfB (!r55)
 (K_67 (true) w_63)
 (K_67 (((r65:Int) !=(0:Int))) w_63)))))) fun (K_3:World→Prop)=>
 Join (fun (t35_5:Bool) (w_6:World)=>
 IfB t35_5
 (Cl Tryz.prog [kB] n_law25_wakes ⟨[]⟩ w_6 fun (r8:Bool) (w_7:World)=>
 R (r8) w_7)
 (K_3 w_6)) fun (K_4:Bool→World→Prop)=>
 IfB (((x1.len:Int):Int)==(0:Int))
 (K_4 (true) w)
 (IfB (decide (((x1.len:Int):Int)>(100:Int)))
 (K_4 (true) w)
 (K_4 ((decide (((counts2.len:Int):Int)>(258:Int)))) w))
set_option maxRecDepth 100000 in
theorem law25_BlockOther.ok (x1:Sl) (counts2:Sl) (R:Bool→World→Prop) (w:World) (h:law25_BlockOther.E x1 counts2 R w):Cl Tryz.prog [kB] n_law25_BlockOther ⟨[(.slice x1.base x1.len x1.cap),(.slice counts2.base counts2.len counts2.cap)]⟩ w R:=
 calls_of_eq Tryz.mix Tryz.f5 [(.slice x1.base x1.len x1.cap),(.slice counts2.base counts2.len counts2.cap)] [kB] R 149 [.tmp 4] (by kernel_rfl) (by kernel_rfl) (by kernel_rfl) (by kernel_rfl) (by kernel_rfl)
  (.s .o (.j [] (.j [(35,kB)] .o (.c (.s .o .o) .o)) (.s .o (.s .o (.s (.s .o (.b (.l [(7,kI)] (.s (.s .o (.c .o .o)) (.s (.b .o) .o))))) (.s (.s .o (.b (.l [(8,kI)] (.s (.s .o (.c .o .o)) (.s (.b .o) .o))))) (.s .o (.s .o (.s .o (.s .o (.s .o (.j [] (.j [(115,kB)] .o (.c (.s .o .o) .o)) (.s .o (.s .o (.s .o .o)))))))))))))))
  (by kernel_rfl) h
set_option maxRecDepth 100000 in
def law25_wakes.E (R:Bool→World→Prop) (w:World):Prop:=
 Nw 5 ⟨[(.int .u8 97)]⟩ w fun (b2:Nat) (w_1:World)=>
 Cl Tryz.prog [kS,kI] n_block_Pack ⟨[(.int .i64 10),(.slice (⟨some ⟨b2,0,none⟩,1,1⟩:Sl).base (⟨some ⟨b2,0,none⟩,1,1⟩:Sl).len (⟨some ⟨b2,0,none⟩,1,1⟩:Sl).cap)]⟩ w_1 fun (r4:Sl) (r5:Int) (w_3:World)=>
 Cl Tryz.prog [kS,kI] n_block_Pack ⟨[(.int .i64 10),(.slice none 0 0)]⟩ w_3 fun (r7:Sl) (r8:Int) (w_6:World)=>
 Nw 5 ⟨[(.int .u8 97)]⟩ w_6 fun (b10:Nat) (w_9:World)=>
 Cl Tryz.prog [kS,kI] n_block_Pack ⟨[(.int .i64 0),(.slice (⟨some ⟨b10,0,none⟩,1,1⟩:Sl).base (⟨some ⟨b10,0,none⟩,1,1⟩:Sl).len (⟨some ⟨b10,0,none⟩,1,1⟩:Sl).cap)]⟩ w_9 fun (r12:Sl) (r13:Int) (w_11:World)=>
 Join (fun (w_18:World)=>
 Nw 5 ⟨[]⟩ w_18 fun (b20:Nat) (w_19:World)=>
 Run Tryz.prog (Builtin.append_ #[22,22] 22 ⟨[(.slice (⟨some ⟨b20,0,none⟩,0,0⟩:Sl).base (⟨some ⟨b20,0,none⟩,0,0⟩:Sl).len (⟨some ⟨b20,0,none⟩,0,0⟩:Sl).cap),(.slice r4.base r4.len r4.cap)]⟩) kS w_19 fun (s22:Sl) (w_21:World)=>
 Nw 5 ⟨[(.int .u8 7)]⟩ w_21 fun (b24:Nat) (w_23:World)=>
 Run Tryz.prog (Builtin.append_ #[22,22] 22 ⟨[(.slice s22.base s22.len s22.cap),(.slice (⟨some ⟨b24,0,none⟩,1,1⟩:Sl).base (⟨some ⟨b24,0,none⟩,1,1⟩:Sl).len (⟨some ⟨b24,0,none⟩,1,1⟩:Sl).cap)]⟩) kS w_23 fun (s26:Sl) (w_25:World)=>
 Cl Tryz.prog [kS,kS,kI] n_block_Unpack ⟨[(.int .i64 10),(.slice s26.base s26.len s26.cap)]⟩ w_25 fun (r28:Sl) (r29:Sl) (r30:Int) (w_27:World)=>
 Nw 5 ⟨[(.int .u8 0),(.int .u8 0),(.int .u8 0),(.int .u8 0),(.int .u8 0)]⟩ w_27 fun (b32:Nat) (w_31:World)=>
 Cl Tryz.prog [kS,kS,kI] n_block_Unpack ⟨[(.int .i64 10),(.slice (⟨some ⟨b32,0,none⟩,5,5⟩:Sl).base (⟨some ⟨b32,0,none⟩,5,5⟩:Sl).len (⟨some ⟨b32,0,none⟩,5,5⟩:Sl).cap)]⟩ w_31 fun (r34:Sl) (r35:Sl) (r36:Int) (w_33:World)=>
 Slc r4 0 7 (r4).cap 1 fun (s37:Sl)=>
 Cl Tryz.prog [kS,kS,kI] n_block_Unpack ⟨[(.int .i64 10),(.slice s37.base s37.len s37.cap)]⟩ w_33 fun (r39:Sl) (r40:Sl) (r41:Int) (w_38:World)=>
 Nw 5 ⟨[]⟩ w_38 fun (b43:Nat) (w_42:World)=>
 Run Tryz.prog (Builtin.append_ #[22,22] 22 ⟨[(.slice (⟨some ⟨b43,0,none⟩,0,0⟩:Sl).base (⟨some ⟨b43,0,none⟩,0,0⟩:Sl).len (⟨some ⟨b43,0,none⟩,0,0⟩:Sl).cap),(.slice r4.base r4.len r4.cap)]⟩) kS w_42 fun (s45:Sl) (w_44:World)=>
 Idx s45 3 1 fun (q46:Addr)=>
 St q46 (.int .u8 0) w_44 fun (w_47:World)=>
 Cl Tryz.prog [kS,kS,kI] n_block_Unpack ⟨[(.int .i64 10),(.slice s45.base s45.len s45.cap)]⟩ w_47 fun (r49:Sl) (r50:Sl) (r51:Int) (w_48:World)=>
 Nw 5 ⟨[(.int .u8 97)]⟩ w_48 fun (b53:Nat) (w_52:World)=>
 Cl Tryz.prog [(.arr 258)] n_block_Lengths ⟨[(.slice (⟨some ⟨b53,0,none⟩,1,1⟩:Sl).base (⟨some ⟨b53,0,none⟩,1,1⟩:Sl).len (⟨some ⟨b53,0,none⟩,1,1⟩:Sl).cap)]⟩ w_52 fun (r55:(Array Value)) (w_54:World)=>
 Nw 36 ⟨List.replicate 258 (.int .u8 0)⟩ w_54 fun (b57:Nat) (w_56:World)=>
 StA 258 (⟨b57,0,none⟩:Addr) r55 w_56 fun (w_58:World)=>
 Nw 5 ⟨[(.int .u8 97),(.int .u8 98)]⟩ w_58 fun (b60:Nat) (w_59:World)=>
 Run Tryz.prog (convert 22 22 (.slice (⟨some ⟨b60,0,none⟩,2,2⟩:Sl).base (⟨some ⟨b60,0,none⟩,2,2⟩:Sl).len (⟨some ⟨b60,0,none⟩,2,2⟩:Sl).cap)) kS w_59 fun (s62:Sl) (w_61:World)=>
 Cl Tryz.prog [kS,kI] n_block_Column ⟨[(.slice s62.base s62.len s62.cap)]⟩ w_61 fun (r64:Sl) (r65:Int) (w_63:World)=>
 Slc r4 0 7 (r4).cap 1 fun (s66:Sl)=>
 Run Tryz.prog (convert 22 9 (.slice s66.base s66.len s66.cap)) kStr w_63 fun (s68:ByteArray) (w_67:World)=>
 IfB ((s68).toList==((ByteArray.mk #[1,1,1,232,183,190,67])).toList)
 (Run Tryz.prog (convert 22 9 (.slice r28.base r28.len r28.cap)) kStr w_67 fun (s70:ByteArray) (w_69:World)=>
 IfB ((s70).toList==((ByteArray.mk #[97])).toList)
 (Run Tryz.prog (convert 22 9 (.slice r29.base r29.len r29.cap)) kStr w_69 fun (s72:ByteArray) (w_71:World)=>
 IfB ((s72).toList==((ByteArray.mk #[7])).toList)
 (IfB ((r30:Int)==(0:Int))
 (IfB ((r36:Int)==(242:Int))
 (IfB ((r41:Int)==(50:Int))
 (IfB ((r51:Int)==(250:Int))
 (IdxP (⟨b57,0,none⟩:Addr) 258 98 1 fun (q73:Addr)=>
 Ld (kInt .u8) q73 w_71 fun (x74:Int)=>
 IfB ((x74:Int)==(1:Int))
 (IdxP (⟨b57,0,none⟩:Addr) 258 257 1 fun (q75:Addr)=>
 Ld (kInt .u8) q75 w_71 fun (x76:Int)=>
 IfB ((x76:Int)==(1:Int))
 (Nw 5 ⟨[(.int .u8 97)]⟩ w_71 fun (b78:Nat) (w_77:World)=>
 Cl Tryz.prog [kS] n_block_Symbols ⟨[(.slice (⟨some ⟨b78,0,none⟩,1,1⟩:Sl).base (⟨some ⟨b78,0,none⟩,1,1⟩:Sl).len (⟨some ⟨b78,0,none⟩,1,1⟩:Sl).cap)]⟩ w_77 fun (r80:Sl) (w_79:World)=>
 Nw 3 ⟨[(.int .i64 98),(.int .i64 257)]⟩ w_79 fun (b82:Nat) (w_81:World)=>
 Cl Tryz.prog [kB] n_ref07_Ints ⟨[(.slice r80.base r80.len r80.cap),(.slice (⟨some ⟨b82,0,none⟩,2,2⟩:Sl).base (⟨some ⟨b82,0,none⟩,2,2⟩:Sl).len (⟨some ⟨b82,0,none⟩,2,2⟩:Sl).cap)]⟩ w_81 fun (r84:Bool) (w_83:World)=>
 IfB r84
 (Run Tryz.prog (convert 22 9 (.slice r64.base r64.len r64.cap)) kStr w_83 fun (s86:ByteArray) (w_85:World)=>
 IfB ((s86).toList==((ByteArray.mk #[97,98])).toList)
 (IfB ((r65:Int)==(2:Int))
 (Cl Tryz.prog [kS] n_block_Symbols ⟨[(.slice none 0 0)]⟩ w_85 fun (r88:Sl) (w_87:World)=>
 Nw 3 ⟨[(.int .i64 257)]⟩ w_87 fun (b90:Nat) (w_89:World)=>
 Cl Tryz.prog [kB] n_ref07_Ints ⟨[(.slice r88.base r88.len r88.cap),(.slice (⟨some ⟨b90,0,none⟩,1,1⟩:Sl).base (⟨some ⟨b90,0,none⟩,1,1⟩:Sl).len (⟨some ⟨b90,0,none⟩,1,1⟩:Sl).cap)]⟩ w_89 fun (r92:Bool) (w_91:World)=>
 R (r92) w_91)
 (R (false) w_85))
 (R (false) w_85))
 (R (false) w_83))
 (R (false) w_71))
 (R (false) w_71))
 (R (false) w_71))
 (R (false) w_71))
 (R (false) w_71))
 (R (false) w_71))
 (R (false) w_71))
 (R (false) w_69))
 (R (false) w_67)) fun (K_14:World→Prop)=>
 Join (fun (t51_16:Bool) (w_17:World)=>
 IfB t51_16
 (R (false) w_17)
 (K_14 w_17)) fun (K_15:Bool→World→Prop)=>
 IfB ((r5:Int) !=(0:Int))
 (K_15 (true) w_11)
 (IfB ((r8:Int) !=(2:Int))
 (K_15 (true) w_11)
 (IfB ((r13:Int) !=(2:Int))
 (K_15 (true) w_11)
 (K_15 ((decide (((r4.len:Int):Int)<(8:Int)))) w_11)))
set_option maxRecDepth 100000 in
theorem law25_wakes.ok (R:Bool→World→Prop) (w:World) (h:law25_wakes.E R w):Cl Tryz.prog [kB] n_law25_wakes ⟨[]⟩ w R:=
 calls_of_eq Tryz.mix Tryz.f11 [] [kB] R 154 [.tmp 0] (by kernel_rfl) (by kernel_rfl) (by kernel_rfl) (by kernel_rfl) (by kernel_rfl)
  (.s .o (.s .o (.s .o (.s .o (.j [] (.j [(51,kB)] .o (.c (.s .o .o) .o)) (.s .o (.s .o (.s .o (.s .o (.s .o (.s .o (.s .o (.s .o (.s .o .o))))))))))))))
  (by kernel_rfl) h
end Go.Proofs.YtcdpblipagajiaaGreat
namespace Go.Proofs.YtcdpblipagajiaaGreat
open Go Go.Vc
set_option maxRecDepth 100000 in
def block_Pack.E (n1:Int) (x2:Sl) (R:Sl→Int→World→Prop) (w:World):Prop:=
 Cl Tryz.prog [kS,kI] n_block_Column ⟨[(.slice x2.base x2.len x2.cap)]⟩ w fun (r4:Sl) (r5:Int) (w_3:World)=>
 Nw 22 ⟨[(.slice x2.base x2.len x2.cap)]⟩ w_3 fun (b7:Nat) (w_6:World)=>
 Cl Tryz.prog [(kInt .u32)] n_crc_Of ⟨[(.slice (⟨some ⟨b7,0,none⟩,1,1⟩:Sl).base (⟨some ⟨b7,0,none⟩,1,1⟩:Sl).len (⟨some ⟨b7,0,none⟩,1,1⟩:Sl).cap)]⟩ w_6 fun (r9:Int) (w_8:World)=>
 Cl Tryz.prog [kS,kI] n_header_PutBlock ⟨[(.int .i64 n1),(.agg ⟨[(.int .i64 (x2.len:Int)),(.int .i64 r5),(.int .u32 r9)]⟩)]⟩ w_8 fun (r11:Sl) (r12:Int) (w_10:World)=>
 IfB ((r12:Int) !=(0:Int))
 (R ((⟨none,0,0⟩:Sl)) (2) w_10)
 (Cl Tryz.prog [kS] n_symenc_All ⟨[(.slice r4.base r4.len r4.cap)]⟩ w_10 fun (r14:Sl) (w_13:World)=>
 Cl Tryz.prog [(.arr 258)] n_block_lengths ⟨[(.slice r14.base r14.len r14.cap)]⟩ w_13 fun (r16:(Array Value)) (w_15:World)=>
 Nw 36 ⟨List.replicate 258 (.int .u8 0)⟩ w_15 fun (b18:Nat) (w_17:World)=>
 StA 258 (⟨b18,0,none⟩:Addr) r16 w_17 fun (w_19:World)=>
 Cl Tryz.prog [kP] n_bitwriter_New ⟨[]⟩ w_19 fun (r21:(Option Addr)) (w_20:World)=>
 Ld (.arr 258) (⟨b18,0,none⟩:Addr) w_20 fun (x22:(Array Value))=>
 Cl Tryz.prog [kI] n_lengthtable_Put ⟨[(.pointer r21),(.agg x22)]⟩ w_20 fun (r24:Int) (w_23:World)=>
 Ld (.arr 258) (⟨b18,0,none⟩:Addr) w_23 fun (x25:(Array Value))=>
 Cl Tryz.prog [kI] n_prefixenc_Put ⟨[(.pointer r21),(.agg x25),(.slice r14.base r14.len r14.cap)]⟩ w_23 fun (r27:Int) (w_26:World)=>
 Cl Tryz.prog [kS] n_bitwriter_Writer_Bytes ⟨[(.pointer r21)]⟩ w_26 fun (r29:Sl) (w_28:World)=>
 Run Tryz.prog (Builtin.append_ #[22,22] 22 ⟨[(.slice r11.base r11.len r11.cap),(.slice r29.base r29.len r29.cap)]⟩) kS w_28 fun (s31:Sl) (w_30:World)=>
 R (s31) (0) w_30)
set_option maxRecDepth 100000 in
theorem block_Pack.ok (n1:Int) (x2:Sl) (R:Sl→Int→World→Prop) (w:World) (h:block_Pack.E n1 x2 R w):Cl Tryz.prog [kS,kI] n_block_Pack ⟨[(.int .i64 n1),(.slice x2.base x2.len x2.cap)]⟩ w R:=
 calls_of_eq Tryz.mix Tryz.f12 [(.int .i64 n1),(.slice x2.base x2.len x2.cap)] [kS,kI] R 48 [.tmp 4,.tmp 5] (by kernel_rfl) (by kernel_rfl) (by kernel_rfl) (by kernel_rfl) (by kernel_rfl)
  (.s .o (.s .o (.s .o (.s (.s .o (.c (.s .o .o) .o)) (.s .o (.s .o (.s .o (.s .o (.s .o (.s .o .o))))))))))
  (by kernel_rfl) h
set_option maxRecDepth 100000 in
def block_Unpack.E (n1:Int) (b2:Sl) (R:Sl→Sl→Int→World→Prop) (w:World):Prop:=
 Cl Tryz.prog [(.st [.int .i64,.int .i64,.int .i64,.int .i64,.int .i64,.int .u32,.int .i64]),kS,kI] n_header_TakeMark ⟨[(.int .i64 n1),(.slice b2.base b2.len b2.cap)]⟩ w fun (r4:(TT [.int .i64,.int .i64,.int .i64,.int .i64,.int .i64,.int .u32,.int .i64])) (r5:Sl) (r6:Int) (w_3:World)=>
 Nw 74 ⟨[(.int .i64 0),(.int .i64 0),(.int .i64 0),(.int .i64 0),(.int .i64 0),(.int .u32 0),(.int .i64 0)]⟩ w_3 fun (b8:Nat) (w_7:World)=>
 StC (⟨b8,0,none⟩:Addr) [(.int .i64 r4.1),(.int .i64 r4.2.1),(.int .i64 r4.2.2.1),(.int .i64 r4.2.2.2.1),(.int .i64 r4.2.2.2.2.1),(.int .u32 r4.2.2.2.2.2.1),(.int .i64 r4.2.2.2.2.2.2.1)] 0 w_7 fun (w_9:World)=>
 IfB ((r6:Int) !=(0:Int))
 (R ((⟨none,0,0⟩:Sl)) ((⟨none,0,0⟩:Sl)) (r6) w_9)
 (Ld kI ((⟨b8,0,none⟩:Addr).add 0) w_9 fun (At10:Int)=>
 IfB ((At10:Int) !=(4:Int))
 (R ((⟨none,0,0⟩:Sl)) ((⟨none,0,0⟩:Sl)) (242) w_9)
 (Cl Tryz.prog [kS] n_bitwriter_Of ⟨[(.slice r5.base r5.len r5.cap)]⟩ w_9 fun (r12:Sl) (w_11:World)=>
 Cl Tryz.prog [(.arr 258),kI,kI] n_lengthtable_Read ⟨[(.slice r12.base r12.len r12.cap)]⟩ w_11 fun (r14:(Array Value)) (r15:Int) (r16:Int) (w_13:World)=>
 Nw 36 ⟨List.replicate 258 (.int .u8 0)⟩ w_13 fun (b18:Nat) (w_17:World)=>
 StA 258 (⟨b18,0,none⟩:Addr) r14 w_17 fun (w_19:World)=>
 IfB ((r16:Int) !=(0:Int))
 (R ((⟨none,0,0⟩:Sl)) ((⟨none,0,0⟩:Sl)) (r16) w_19)
 (Drw w_19 fun (w_29:World)=>
 Ld kI (((⟨b8,0,none⟩:Addr).add 3).add 0) w_29 fun (M30:Int)=>
 Ld (.arr 258) (⟨b18,0,none⟩:Addr) w_29 fun (x31:(Array Value))=>
 Slc r12 r15 (r12).len (r12).cap 1 fun (s32:Sl)=>
 Cl Tryz.prog [kS,kI,kI] n_block_column ⟨[(.int .i64 M30),(.agg x31),(.slice s32.base s32.len s32.cap)]⟩ w_29 fun (r34:Sl) (r35:Int) (r36:Int) (w_33:World)=>
 IfB ((r36:Int) !=(0:Int))
 (R ((⟨none,0,0⟩:Sl)) ((⟨none,0,0⟩:Sl)) (r36) w_33)
 (0≤(3:Int)∧
 0≤(3:Int)∧
 Slc r12 (i64 ((r15:Int)+(r35:Int))) (ishl .i64 ((ishr .i64 ((i64 (((i64 ((r15:Int)+(r35:Int))):Int)+(7:Int))):Int) (3:Int)):Int) (3:Int)) (r12).cap 1 fun (s37:Sl)=>
 Cl Tryz.prog [kB] n_slices_Contains_int_int ⟨[(.slice s37.base s37.len s37.cap),(.int .i64 1)]⟩ w_33 fun (r39:Bool) (w_38:World)=>
 IfB r39
 (R ((⟨none,0,0⟩:Sl)) ((⟨none,0,0⟩:Sl)) (160) w_38)
 (Ld kI (((⟨b8,0,none⟩:Addr).add 3).add 1) w_38 fun (P40:Int)=>
 Cl Tryz.prog [kS,kI] n_bwt_Back ⟨[(.slice r34.base r34.len r34.cap),(.int .i64 P40)]⟩ w_38 fun (r42:Sl) (r43:Int) (w_41:World)=>
 IfB ((r43:Int) !=(0:Int))
 (R ((⟨none,0,0⟩:Sl)) ((⟨none,0,0⟩:Sl)) (r43) w_41)
 (Cl Tryz.prog [kS] n_block_turned ⟨[(.slice r42.base r42.len r42.cap)]⟩ w_41 fun (r45:Sl) (w_44:World)=>
 Held w_44 fun (S54:World→Prop) (w_55:World)=>
 LdS (kInt .u32) (((⟨b8,0,none⟩:Addr).add 3).add 2) S54 fun (Sum56:Int)=>
 Nw 22 ⟨[(.slice r45.base r45.len r45.cap)]⟩ w_55 fun (b58:Nat) (w_57:World)=>
 S54 w_57∧
 Cl Tryz.prog [(kInt .u32)] n_crc_Of ⟨[(.slice (⟨some ⟨b58,0,none⟩,1,1⟩:Sl).base (⟨some ⟨b58,0,none⟩,1,1⟩:Sl).len (⟨some ⟨b58,0,none⟩,1,1⟩:Sl).cap)]⟩ w_57 fun (r60:Int) (w_59:World)=>
 S54 w_59∧
 IfB ((r60:Int) !=(Sum56:Int))
 (R ((⟨none,0,0⟩:Sl)) ((⟨none,0,0⟩:Sl)) (250) w_59)
 (Slc r5 (ishr .i64 ((i64 (((i64 ((r15:Int)+(r35:Int))):Int)+(7:Int))):Int) (3:Int)) (r5).len (r5).cap 1 fun (s61:Sl)=>
 Cl Tryz.prog [kS] n_bytes_Clone ⟨[(.slice s61.base s61.len s61.cap)]⟩ w_59 fun (r63:Sl) (w_62:World)=>
 R (r45) (r63) (0) w_62)))))))
set_option maxRecDepth 100000 in
theorem block_Unpack.ok (n1:Int) (b2:Sl) (R:Sl→Sl→Int→World→Prop) (w:World) (h:block_Unpack.E n1 b2 R w):Cl Tryz.prog [kS,kS,kI] n_block_Unpack ⟨[(.int .i64 n1),(.slice b2.base b2.len b2.cap)]⟩ w R:=
 calls_of_eq Tryz.mix Tryz.f14 [(.int .i64 n1),(.slice b2.base b2.len b2.cap)] [kS,kS,kI] R 94 [.tmp 4,.tmp 5,.tmp 6] (by kernel_rfl) (by kernel_rfl) (by kernel_rfl) (by kernel_rfl) (by kernel_rfl)
  (.s .o (.s .o (.s (.b (.s .o (.c (.s .o .o) (.s .o (.c (.s .o .o) .o))))) (.s .o (.s .o (.s (.s .o (.c (.s .o .o) .o)) (.s .o (.s (.s .o (.c (.s .o .o) .o)) (.s .o (.s (.s .o (.c (.s .o .o) .o)) (.s .o (.s (.s .o (.c (.s .o .o) .o)) (.s (.s .o (.s .o (.c (.s .o .o) .o))) (.s .o .o))))))))))))))
  (by kernel_rfl) h
def block_Column.E (x1:Sl) (R:Sl→Int→World→Prop) (w:World):Prop:=
 Cl Tryz.prog [kS] n_block_turned ⟨[(.slice x1.base x1.len x1.cap)]⟩ w fun (r3:Sl) (w_2:World)=>
 Cl Tryz.prog [kS,kI] n_bwt_Turn ⟨[(.slice r3.base r3.len r3.cap)]⟩ w_2 fun (r5:Sl) (r6:Int) (w_4:World)=>
 R (r5) (r6) w_4
theorem block_Column.ok (x1:Sl) (R:Sl→Int→World→Prop) (w:World) (h:block_Column.E x1 R w):Cl Tryz.prog [kS,kI] n_block_Column ⟨[(.slice x1.base x1.len x1.cap)]⟩ w R:=
 calls_of_eq Tryz.mix Tryz.f16 [(.slice x1.base x1.len x1.cap)] [kS,kI] R 9 [.tmp 2,.tmp 3] (by kernel_rfl) (by kernel_rfl) (by kernel_rfl) (by kernel_rfl) (by kernel_rfl)
  (.s .o (.s .o .o))
  (by kernel_rfl) h
def block_Symbols.E (x1:Sl) (R:Sl→World→Prop) (w:World):Prop:=
 Cl Tryz.prog [kS,kI] n_block_Column ⟨[(.slice x1.base x1.len x1.cap)]⟩ w fun (r3:Sl) (r4:Int) (w_2:World)=>
 Cl Tryz.prog [kS] n_symenc_All ⟨[(.slice r3.base r3.len r3.cap)]⟩ w_2 fun (r6:Sl) (w_5:World)=>
 R (r6) w_5
theorem block_Symbols.ok (x1:Sl) (R:Sl→World→Prop) (w:World) (h:block_Symbols.E x1 R w):Cl Tryz.prog [kS] n_block_Symbols ⟨[(.slice x1.base x1.len x1.cap)]⟩ w R:=
 calls_of_eq Tryz.mix Tryz.f19 [(.slice x1.base x1.len x1.cap)] [kS] R 12 [.tmp 2] (by kernel_rfl) (by kernel_rfl) (by kernel_rfl) (by kernel_rfl) (by kernel_rfl)
  (.s .o (.s .o (.s .o .o)))
  (by kernel_rfl) h
set_option maxRecDepth 100000 in
def block_Lengths.E (x1:Sl) (R:(Array Value)→World→Prop) (w:World):Prop:=
 Nw 36 ⟨List.replicate 258 (.int .u8 0)⟩ w fun (b3:Nat) (w_2:World)=>
 Cl Tryz.prog [kS] n_block_Symbols ⟨[(.slice x1.base x1.len x1.cap)]⟩ w_2 fun (r5:Sl) (w_4:World)=>
 Cl Tryz.prog [(.arr 258)] n_block_lengths ⟨[(.slice r5.base r5.len r5.cap)]⟩ w_4 fun (r7:(Array Value)) (w_6:World)=>
 StA 258 (⟨b3,0,none⟩:Addr) r7 w_6 fun (w_8:World)=>
 Ld (.arr 258) (⟨b3,0,none⟩:Addr) w_8 fun (res9:(Array Value))=>
 R (res9) w_8
set_option maxRecDepth 100000 in
theorem block_Lengths.ok (x1:Sl) (R:(Array Value)→World→Prop) (w:World) (h:block_Lengths.E x1 R w):Cl Tryz.prog [(.arr 258)] n_block_Lengths ⟨[(.slice x1.base x1.len x1.cap)]⟩ w R:=
 calls_of_eq Tryz.mix Tryz.f21 [(.slice x1.base x1.len x1.cap)] [(.arr 258)] R 6 [.cell 2 36] (by kernel_rfl) (by kernel_rfl) (by kernel_rfl) (by kernel_rfl) (by kernel_rfl)
  (.s .o (.s .o .o))
  (by kernel_rfl) h
set_option maxRecDepth 100000 in
def block_lengths.E (symbols1:Sl) (R:(Array Value)→World→Prop) (w:World):Prop:=
 Nw 36 ⟨List.replicate 258 (.int .u8 0)⟩ w fun (b3:Nat) (w_2:World)=>
 Cl Tryz.prog [(.arr 258),kI] n_histogram_Of ⟨[(.slice symbols1.base symbols1.len symbols1.cap)]⟩ w_2 fun (r5:(Array Value)) (r6:Int) (w_4:World)=>
 Nw 41 ⟨List.replicate 258 (.int .i64 0)⟩ w_4 fun (b8:Nat) (w_7:World)=>
 StA 258 (⟨b8,0,none⟩:Addr) r5 w_7 fun (w_9:World)=>
 Ld (.arr 258) (⟨b8,0,none⟩:Addr) w_9 fun (x10:(Array Value))=>
 Cl Tryz.prog [(.arr 258),kI] n_packagemerge_Lengths ⟨[(.agg x10),(.int .i64 15)]⟩ w_9 fun (r12:(Array Value)) (r13:Int) (w_11:World)=>
 Nw 36 ⟨List.replicate 258 (.int .u8 0)⟩ w_11 fun (b15:Nat) (w_14:World)=>
 StA 258 (⟨b15,0,none⟩:Addr) r12 w_14 fun (w_16:World)=>
 Ld (.arr 258) (⟨b15,0,none⟩:Addr) w_16 fun (x17:(Array Value))=>
 StA 258 (⟨b3,0,none⟩:Addr) x17 w_16 fun (w_18:World)=>
 Ld (.arr 258) (⟨b3,0,none⟩:Addr) w_18 fun (res19:(Array Value))=>
 R (res19) w_18
set_option maxRecDepth 100000 in
theorem block_lengths.ok (symbols1:Sl) (R:(Array Value)→World→Prop) (w:World) (h:block_lengths.E symbols1 R w):Cl Tryz.prog [(.arr 258)] n_block_lengths ⟨[(.slice symbols1.base symbols1.len symbols1.cap)]⟩ w R:=
 calls_of_eq Tryz.mix Tryz.f45 [(.slice symbols1.base symbols1.len symbols1.cap)] [(.arr 258)] R 18 [.cell 2 36] (by kernel_rfl) (by kernel_rfl) (by kernel_rfl) (by kernel_rfl) (by kernel_rfl)
  (.s .o (.s .o (.s .o (.s .o .o))))
  (by kernel_rfl) h
set_option maxRecDepth 100000 in
def block_column.E (most1:Int) (l2:(Array Value)) (all_3:Sl) (R:Sl→Int→Int→World→Prop) (w:World):Prop:=
 Nw 36 l2 w fun (b5:Nat) (w_4:World)=>
 Ld (.arr 258) (⟨b5,0,none⟩:Addr) w_4 fun (x6:(Array Value))=>
 Cl Tryz.prog [(.arr 260),kI] n_prefixdec_New ⟨[(.agg x6)]⟩ w_4 fun (r8:(Array Value)) (r9:Int) (w_7:World)=>
 Nw 145 ⟨List.replicate 258 (.int .u8 0)++ [(.int .i64 0),(.int .i64 0)]⟩ w_7 fun (b11:Nat) (w_10:World)=>
 StA 260 (⟨b11,0,none⟩:Addr) r8 w_10 fun (w_12:World)=>
 Cl Tryz.prog [(.arr 260)] n_symdec_New ⟨[(.int .i64 most1)]⟩ w_12 fun (r14:(Array Value)) (w_13:World)=>
 Nw 149 ⟨List.replicate 256 (.int .u8 0)++ [(.int .i64 0),(.int .i64 0),(.int .i64 0),(.bool false)]⟩ w_13 fun (b16:Nat) (w_15:World)=>
 StA 260 (⟨b16,0,none⟩:Addr) r14 w_15 fun (w_17:World)=>
 ∃(I_18:Sl→Int→World→Prop) (m_19:Sl→Int→World→Nat),I_18 ((⟨none,0,0⟩:Sl)) (0) w_17∧
 ∀(last20:Sl) (at_21:Int),∀(w_22:World),I_18 last20 at_21 w_22→
 IfB (decide ((at_21:Int)<((all_3.len:Int):Int)))
 (Join (fun (o43:Addr) (symbol44:Int) (done45:Bool) (w_46:World)=>
 Ld (.arr 260) o43 w_46 fun (x47:(Array Value))=>
 StA 260 (⟨b11,0,none⟩:Addr) x47 w_46 fun (w_48:World)=>
 IfB (!done45)
 (I_18 (last20) ((i64 ((at_21:Int)+(1:Int)))) w_48∧m_19 (last20) ((i64 ((at_21:Int)+(1:Int)))) w_48<m_19 last20 at_21 w_22)
 (Ld (.arr 260) (⟨b16,0,none⟩:Addr) w_48 fun (x49:(Array Value))=>
 Cl Tryz.prog [(.arr 260),kS,kB,kI] n_symdec_Step ⟨[(.agg x49),(.int .i64 symbol44)]⟩ w_48 fun (r51:(Array Value)) (r52:Sl) (r53:Bool) (r54:Int) (w_50:World)=>
 Nw 149 ⟨List.replicate 256 (.int .u8 0)++ [(.int .i64 0),(.int .i64 0),(.int .i64 0),(.bool false)]⟩ w_50 fun (b56:Nat) (w_55:World)=>
 StA 260 (⟨b56,0,none⟩:Addr) r51 w_55 fun (w_57:World)=>
 IfB ((r54:Int) !=(0:Int))
 (R ((⟨none,0,0⟩:Sl)) (0) (r54) w_57)
 (Held w_57 fun (S65:World→Prop) (w_66:World)=>
 LdS (.arr 260) (⟨b56,0,none⟩:Addr) S65 fun (x67:(Array Value))=>
 Run Tryz.prog (Builtin.append_ #[22,22] 22 ⟨[(.slice last20.base last20.len last20.cap),(.slice r52.base r52.len r52.cap)]⟩) kS w_66 fun (s69:Sl) (w_68:World)=>
 S65 w_68∧
 StA 260 (⟨b16,0,none⟩:Addr) x67 w_68 fun (w_70:World)=>
 S65 w_70∧
 IfB r53
 (R (s69) ((i64 ((at_21:Int)+(1:Int)))) (0) w_70)
 (I_18 (s69) ((i64 ((at_21:Int)+(1:Int)))) w_70∧m_19 (s69) ((i64 ((at_21:Int)+(1:Int)))) w_70<m_19 last20 at_21 w_22)))) fun (K_23:Addr→Int→Bool→World→Prop)=>
 Held w_22 fun (S24:World→Prop) (w_25:World)=>
 LdS (.arr 260) (⟨b11,0,none⟩:Addr) S24 fun (x26:(Array Value))=>
 Idx all_3 at_21 1 fun (q27:Addr)=>
 LdS kI q27 S24 fun (x28:Int)=>
 (Cl Tryz.prog [(.arr 260),kI,kB] n_prefixdec_Step ⟨[(.agg x26),(.int .i64 x28)]⟩ w_25 fun (r30:(Array Value)) (r31:Int) (r32:Bool) (w_29:World)=>
 S24 w_29∧
 Nw 145 ⟨List.replicate 258 (.int .u8 0)++ [(.int .i64 0),(.int .i64 0)]⟩ w_29 fun (b34:Nat) (w_33:World)=>
 S24 w_33∧
 StA 260 (⟨b34,0,none⟩:Addr) r30 w_33 fun (w_35:World)=>
 S24 w_35∧
 K_23 ((⟨b34,0,none⟩:Addr)) (r31) (r32) w_35)∧
 (Nw 145 ⟨List.replicate 258 (.int .u8 0)++ [(.int .i64 0),(.int .i64 0)]⟩ w_25 fun (b37:Nat) (w_36:World)=>
 S24 w_36∧
 Cl Tryz.prog [(.arr 260),kI,kB] n_prefixdec_Step ⟨[(.agg x26),(.int .i64 x28)]⟩ w_36 fun (r39:(Array Value)) (r40:Int) (r41:Bool) (w_38:World)=>
 S24 w_38∧
 StA 260 (⟨b37,0,none⟩:Addr) r39 w_38 fun (w_42:World)=>
 S24 w_42∧
 K_23 ((⟨b37,0,none⟩:Addr)) (r40) (r41) w_42))
 (R ((⟨none,0,0⟩:Sl)) (0) (50) w_22)
set_option maxRecDepth 100000 in
theorem block_column.ok (most1:Int) (l2:(Array Value)) (all_3:Sl) (R:Sl→Int→Int→World→Prop) (w:World) (h:block_column.E most1 l2 all_3 R w):Cl Tryz.prog [kS,kI,kI] n_block_column ⟨[(.int .i64 most1),(.agg l2),(.slice all_3.base all_3.len all_3.cap)]⟩ w R:=
 calls_of_eq Tryz.mix Tryz.f53 [(.int .i64 most1),(.agg l2),(.slice all_3.base all_3.len all_3.cap)] [kS,kI,kI] R 63 [.tmp 6,.tmp 7,.tmp 8] (by kernel_rfl) (by kernel_rfl) (by kernel_rfl) (by kernel_rfl) (by kernel_rfl)
  (.s .o (.b (.s .o (.s .o (.s .o (.s (.b (.l [(6,kS),(7,kI)] (.s (.s .o (.c .o .o)) (.b (.s .o (.s .o (.s (.s .o (.c .o .o)) (.s .o (.s (.s .o (.c (.s .o .o) .o)) (.s .o (.s .o (.c (.s .o .o) .o)))))))))))) (.s .o .o)))))))
  (by kernel_rfl) h
def block_turned.E (x1:Sl) (R:Sl→World→Prop) (w:World):Prop:=
 Cl Tryz.prog [kS] n_bytes_Clone ⟨[(.slice x1.base x1.len x1.cap)]⟩ w fun (r3:Sl) (w_2:World)=>
 Cl Tryz.prog [] n_slices_Reverse_byte_byte ⟨[(.slice r3.base r3.len r3.cap)]⟩ w_2 fun (w_4:World)=>
 R (r3) w_4
theorem block_turned.ok (x1:Sl) (R:Sl→World→Prop) (w:World) (h:block_turned.E x1 R w):Cl Tryz.prog [kS] n_block_turned ⟨[(.slice x1.base x1.len x1.cap)]⟩ w R:=
 calls_of_eq Tryz.mix Tryz.f56 [(.slice x1.base x1.len x1.cap)] [kS] R 8 [.tmp 2] (by kernel_rfl) (by kernel_rfl) (by kernel_rfl) (by kernel_rfl) (by kernel_rfl)
  (.s .o (.s .o (.s .o (.s .o .o))))
  (by kernel_rfl) h
end Go.Proofs.YtcdpblipagajiaaGreat
namespace Go.Proofs.YtcdpblipagajiaaGreat
open Go Go.Vc
def slices_Contains_int_int.E (s1:Sl) (v2:Int) (R:Bool→World→Prop) (w:World):Prop:=
 Cl Tryz.prog [kI] n_slices_Index_int_int ⟨[(.slice s1.base s1.len s1.cap),(.int .i64 v2)]⟩ w fun (r4:Int) (w_3:World)=>
 R ((decide ((r4:Int)≥(0:Int)))) w_3
theorem slices_Contains_int_int.ok (s1:Sl) (v2:Int) (R:Bool→World→Prop) (w:World) (h:slices_Contains_int_int.E s1 v2 R w):Cl Tryz.prog [kB] n_slices_Contains_int_int ⟨[(.slice s1.base s1.len s1.cap),(.int .i64 v2)]⟩ w R:=
 calls_of_eq Tryz.mix Tryz.f54 [(.slice s1.base s1.len s1.cap),(.int .i64 v2)] [kB] R 9 [.tmp 4] (by kernel_rfl) (by kernel_rfl) (by kernel_rfl) (by kernel_rfl) (by kernel_rfl)
  (.s .o (.s .o .o))
  (by kernel_rfl) h
set_option maxRecDepth 100000 in
def slices_Concat_byte_byte.E (slices1:Sl) (R:Sl→World→Prop) (w:World):Prop:=
 ∃(I_2:Int→Int→World→Prop) (m_3:Int→Int→World→Nat),I_2 (0) (0) w∧
 ∀(size4:Int) (t11_5:Int),∀(w_6:World),I_2 size4 t11_5 w_6→
 IfB (decide ((t11_5:Int)<((slices1.len:Int):Int)))
 (Idx slices1 t11_5 1 fun (q7:Addr)=>
 Ld kS q7 w_6 fun (x8:Sl)=>
 IfB (decide (((i64 ((size4:Int)+((x8.len:Int):Int))):Int)<(0:Int)))
 (False)
 (I_2 ((i64 ((size4:Int)+((x8.len:Int):Int)))) ((i64 ((t11_5:Int)+(1:Int)))) w_6∧m_3 ((i64 ((size4:Int)+((x8.len:Int):Int)))) ((i64 ((t11_5:Int)+(1:Int)))) w_6<m_3 size4 t11_5 w_6))
 (Cl Tryz.prog [kS] n_slices_Grow_byte_byte ⟨[(.slice none 0 0),(.int .i64 size4)]⟩ w_6 fun (r11:Sl) (w_10:World)=>
 ∃(I_12:Sl→Int→World→Prop) (m_13:Sl→Int→World→Nat),I_12 (r11) (0) w_10∧
 ∀(newslice14:Sl) (t27_15:Int),∀(w_16:World),I_12 newslice14 t27_15 w_16→
 IfB (decide ((t27_15:Int)<((slices1.len:Int):Int)))
 (Idx slices1 t27_15 1 fun (q17:Addr)=>
 Ld kS q17 w_16 fun (x18:Sl)=>
 Run Tryz.prog (Builtin.append_ #[22,22] 22 ⟨[(.slice newslice14.base newslice14.len newslice14.cap),(.slice x18.base x18.len x18.cap)]⟩) kS w_16 fun (s20:Sl) (w_19:World)=>
 I_12 (s20) ((i64 ((t27_15:Int)+(1:Int)))) w_19∧m_13 (s20) ((i64 ((t27_15:Int)+(1:Int)))) w_19<m_13 newslice14 t27_15 w_16)
 (R (newslice14) w_16))
set_option maxRecDepth 100000 in
theorem slices_Concat_byte_byte.ok (slices1:Sl) (R:Sl→World→Prop) (w:World) (h:slices_Concat_byte_byte.E slices1 R w):Cl Tryz.prog [kS] n_slices_Concat_byte_byte ⟨[(.slice slices1.base slices1.len slices1.cap)]⟩ w R:=
 calls_of_eq Tryz.mix Tryz.f86 [(.slice slices1.base slices1.len slices1.cap)] [kS] R 36 [.tmp 2] (by kernel_rfl) (by kernel_rfl) (by kernel_rfl) (by kernel_rfl) (by kernel_rfl)
  (.s .o (.s .o (.s (.s .o (.b (.l [(3,kI),(11,kI)] (.s .o (.s (.c .o .o) (.s (.b (.s .o (.s .o (.s .o (.c .o .o))))) .o)))))) (.s .o (.s (.s .o (.b (.l [(6,kS),(27,kI)] (.s .o (.s (.c .o .o) (.s (.b (.s .o .o)) .o)))))) (.s .o .o))))))
  (by kernel_rfl) h
def slices_Index_int_int.E (s1:Sl) (v2:Int) (R:Int→World→Prop) (w:World):Prop:=
 ∃(I_3:Int→World→Prop) (m_4:Int→World→Nat),I_3 (0) w∧
 ∀(t8_5:Int),∀(w_6:World),I_3 t8_5 w_6→
 IfB (decide ((t8_5:Int)<((s1.len:Int):Int)))
 (Idx s1 t8_5 1 fun (q7:Addr)=>
 Ld kI q7 w_6 fun (x8:Int)=>
 IfB ((v2:Int)==(x8:Int))
 (R (t8_5) w_6)
 (I_3 ((i64 ((t8_5:Int)+(1:Int)))) w_6∧m_4 ((i64 ((t8_5:Int)+(1:Int)))) w_6<m_4 t8_5 w_6))
 (R ((-1)) w_6)
theorem slices_Index_int_int.ok (s1:Sl) (v2:Int) (R:Int→World→Prop) (w:World) (h:slices_Index_int_int.E s1 v2 R w):Cl Tryz.prog [kI] n_slices_Index_int_int ⟨[(.slice s1.base s1.len s1.cap),(.int .i64 v2)]⟩ w R:=
 calls_of_eq Tryz.mix Tryz.f105 [(.slice s1.base s1.len s1.cap),(.int .i64 v2)] [kI] R 19 [.tmp 4] (by kernel_rfl) (by kernel_rfl) (by kernel_rfl) (by kernel_rfl) (by kernel_rfl)
  (.s .o (.s (.s .o (.b (.l [(8,kI)] (.s .o (.s (.c .o .o) (.s (.b (.s .o (.s .o (.c (.s .o .o) .o)))) .o)))))) (.s .o .o)))
  (by kernel_rfl) h
def slices_Reverse_byte_byte.E (s1:Sl) (R:World→Prop) (w:World):Prop:=
 ∃(I_2:Int→Int→World→Prop) (m_3:Int→Int→World→Nat),I_2 (0) ((i64 (((s1.len:Int):Int) - (1:Int)))) w∧
 ∀(i4:Int) (j5:Int),∀(w_6:World),I_2 i4 j5 w_6→
 IfB (decide ((i4:Int)<(j5:Int)))
 (Drw w_6 fun (w_7:World)=>
 Idx s1 j5 1 fun (q8:Addr)=>
 Ld (kInt .u8) q8 w_7 fun (x9:Int)=>
 Idx s1 i4 1 fun (q10:Addr)=>
 Ld (kInt .u8) q10 w_7 fun (x11:Int)=>
 Idx s1 i4 1 fun (q12:Addr)=>
 St q12 (.int .u8 x9) w_7 fun (w_13:World)=>
 Idx s1 j5 1 fun (q14:Addr)=>
 St q14 (.int .u8 x11) w_13 fun (w_15:World)=>
 I_2 ((i64 ((i4:Int)+(1:Int)))) ((i64 ((j5:Int) - (1:Int)))) w_15∧m_3 ((i64 ((i4:Int)+(1:Int)))) ((i64 ((j5:Int) - (1:Int)))) w_15<m_3 i4 j5 w_6)
 (R w_6)
theorem slices_Reverse_byte_byte.ok (s1:Sl) (R:World→Prop) (w:World) (h:slices_Reverse_byte_byte.E s1 R w):Cl Tryz.prog [] n_slices_Reverse_byte_byte ⟨[(.slice s1.base s1.len s1.cap)]⟩ w R:=
 calls_of_eq Tryz.mix Tryz.f108 [(.slice s1.base s1.len s1.cap)] [] R 28 [] (by kernel_rfl) (by kernel_rfl) (by kernel_rfl) (by kernel_rfl) (by kernel_rfl)
  (.s .o (.b (.l [(2,kI),(3,kI)] (.s (.s .o (.c .o .o)) (.s (.b .o) .o)))))
  (by kernel_rfl) h
def slices_Grow_byte_byte.E (s1:Sl) (n2:Int) (R:Sl→World→Prop) (w:World):Prop:=
 IfB (decide ((n2:Int)<(0:Int)))
 (False)
 (IfB (decide (((i64 ((n2:Int) - ((i64 (((s1.cap:Int):Int) - ((s1.len:Int):Int))):Int))):Int)>(0:Int)))
 (Slc s1 0 (s1.cap:Int) (s1).cap 1 fun (s4:Sl)=>
 Run Tryz.prog (Builtin.append_ #[22,3] 22 ⟨[(.slice s4.base s4.len s4.cap),(.int .i64 (i64 ((n2:Int) - ((i64 (((s1.cap:Int):Int) - ((s1.len:Int):Int))):Int))))]⟩) kS w fun (s6:Sl) (w_5:World)=>
 Slc s6 0 (s1.len:Int) (s6).cap 1 fun (s7:Sl)=>
 R (s7) w_5)
 (R (s1) w))
theorem slices_Grow_byte_byte.ok (s1:Sl) (n2:Int) (R:Sl→World→Prop) (w:World) (h:slices_Grow_byte_byte.E s1 n2 R w):Cl Tryz.prog [kS] n_slices_Grow_byte_byte ⟨[(.slice s1.base s1.len s1.cap),(.int .i64 n2)]⟩ w R:=
 calls_of_eq Tryz.mix Tryz.f131 [(.slice s1.base s1.len s1.cap),(.int .i64 n2)] [kS] R 27 [.tmp 4] (by kernel_rfl) (by kernel_rfl) (by kernel_rfl) (by kernel_rfl) (by kernel_rfl)
  (.s .o (.s (.s .o (.c .o .o)) (.s (.s .o (.s .o (.c .o .o))) (.s .o .o))))
  (by kernel_rfl) h
def slices_SortStableFunc_int_int.E (x1:Sl) (cmp2:Value) (R:World→Prop) (w:World):Prop:=
 Cl Tryz.prog [] n_slices_stableCmpFunc_int ⟨[(.slice x1.base x1.len x1.cap),(.int .i64 (x1.len:Int)),cmp2]⟩ w fun (w_3:World)=>
 R w_3
theorem slices_SortStableFunc_int_int.ok (x1:Sl) (cmp2:Value) (R:World→Prop) (w:World) (h:slices_SortStableFunc_int_int.E x1 cmp2 R w):Cl Tryz.prog [] n_slices_SortStableFunc_int_int ⟨[(.slice x1.base x1.len x1.cap),cmp2]⟩ w R:=
 calls_of_eq Tryz.mix Tryz.f179 [(.slice x1.base x1.len x1.cap),cmp2] [] R 9 [] (by kernel_rfl) (by kernel_rfl) (by kernel_rfl) (by kernel_rfl) (by kernel_rfl)
  .o
  (by kernel_rfl) h
def slices_ContainsFunc_int_int.E (s1:Sl) (f2:Value) (R:Bool→World→Prop) (w:World):Prop:=
 Cl Tryz.prog [kI] n_slices_IndexFunc_int_int ⟨[(.slice s1.base s1.len s1.cap),f2]⟩ w fun (r4:Int) (w_3:World)=>
 R ((decide ((r4:Int)≥(0:Int)))) w_3
theorem slices_ContainsFunc_int_int.ok (s1:Sl) (f2:Value) (R:Bool→World→Prop) (w:World) (h:slices_ContainsFunc_int_int.E s1 f2 R w):Cl Tryz.prog [kB] n_slices_ContainsFunc_int_int ⟨[(.slice s1.base s1.len s1.cap),f2]⟩ w R:=
 calls_of_eq Tryz.mix Tryz.f182 [(.slice s1.base s1.len s1.cap),f2] [kB] R 9 [.tmp 4] (by kernel_rfl) (by kernel_rfl) (by kernel_rfl) (by kernel_rfl) (by kernel_rfl)
  (.s .o (.s .o .o))
  (by kernel_rfl) h
set_option maxRecDepth 100000 in
def slices_stableCmpFunc_int.E (data1:Sl) (n2:Int) (cmp3:Value) (R:World→Prop) (w:World):Prop:=
 ∃(I_4:Int→Int→World→Prop) (m_5:Int→Int→World→Nat),I_4 (0) (20) w∧
 ∀(a6:Int) (b7:Int),∀(w_8:World),I_4 a6 b7 w_8→
 IfB (decide ((b7:Int)≤(n2:Int)))
 (Cl Tryz.prog [] n_slices_insertionSortCmpFunc_int ⟨[(.slice data1.base data1.len data1.cap),(.int .i64 a6),(.int .i64 b7),cmp3]⟩ w_8 fun (w_9:World)=>
 I_4 (b7) ((i64 ((b7:Int)+(20:Int)))) w_9∧m_5 (b7) ((i64 ((b7:Int)+(20:Int)))) w_9<m_5 a6 b7 w_8)
 (Cl Tryz.prog [] n_slices_insertionSortCmpFunc_int ⟨[(.slice data1.base data1.len data1.cap),(.int .i64 a6),(.int .i64 n2),cmp3]⟩ w_8 fun (w_10:World)=>
 ∃(I_11:Int→World→Prop) (m_12:Int→World→Nat),I_11 (20) w_10∧
 ∀(blockSize13:Int),∀(w_14:World),I_11 blockSize13 w_14→
 IfB (decide ((blockSize13:Int)<(n2:Int)))
 (∃(I_15:Int→Int→World→Prop) (m_16:Int→Int→World→Nat),I_15 (0) ((i64 ((2:Int)*(blockSize13:Int)))) w_14∧
 ∀(a17:Int) (b18:Int),∀(w_19:World),I_15 a17 b18 w_19→
 IfB (decide ((b18:Int)≤(n2:Int)))
 (Cl Tryz.prog [] n_slices_symMergeCmpFunc_int ⟨[(.slice data1.base data1.len data1.cap),(.int .i64 a17),(.int .i64 (i64 ((a17:Int)+(blockSize13:Int)))),(.int .i64 b18),cmp3]⟩ w_19 fun (w_20:World)=>
 I_15 (b18) ((i64 ((b18:Int)+((i64 ((2:Int)*(blockSize13:Int))):Int)))) w_20∧m_16 (b18) ((i64 ((b18:Int)+((i64 ((2:Int)*(blockSize13:Int))):Int)))) w_20<m_16 a17 b18 w_19)
 (IfB (decide (((i64 ((a17:Int)+(blockSize13:Int))):Int)<(n2:Int)))
 (Cl Tryz.prog [] n_slices_symMergeCmpFunc_int ⟨[(.slice data1.base data1.len data1.cap),(.int .i64 a17),(.int .i64 (i64 ((a17:Int)+(blockSize13:Int)))),(.int .i64 n2),cmp3]⟩ w_19 fun (w_21:World)=>
 I_11 ((i64 ((blockSize13:Int)*(2:Int)))) w_21∧m_12 ((i64 ((blockSize13:Int)*(2:Int)))) w_21<m_12 blockSize13 w_14)
 (I_11 ((i64 ((blockSize13:Int)*(2:Int)))) w_19∧m_12 ((i64 ((blockSize13:Int)*(2:Int)))) w_19<m_12 blockSize13 w_14)))
 (R w_14))
set_option maxRecDepth 100000 in
theorem slices_stableCmpFunc_int.ok (data1:Sl) (n2:Int) (cmp3:Value) (R:World→Prop) (w:World) (h:slices_stableCmpFunc_int.E data1 n2 cmp3 R w):Cl Tryz.prog [] n_slices_stableCmpFunc_int ⟨[(.slice data1.base data1.len data1.cap),(.int .i64 n2),cmp3]⟩ w R:=
 calls_of_eq Tryz.mix Tryz.f201 [(.slice data1.base data1.len data1.cap),(.int .i64 n2),cmp3] [] R 63 [] (by kernel_rfl) (by kernel_rfl) (by kernel_rfl) (by kernel_rfl) (by kernel_rfl)
  (.s .o (.s .o (.s (.b (.l [(7,kI),(8,kI)] (.s (.s .o (.c .o .o)) (.b (.s .o (.s .o .o)))))) (.s .o (.b (.l [(6,kI)] (.s (.s .o (.c .o .o)) (.b (.s .o (.s (.b (.l [(7,kI),(8,kI)] (.s (.s .o (.c .o .o)) (.b (.s .o (.s .o .o)))))) (.s (.s .o (.s .o (.c .o .o))) .o)))))))))))
  (by kernel_rfl) h
def slices_IndexFunc_int_int.E (s1:Sl) (f2:Value) (R:Int→World→Prop) (w:World):Prop:=
 ∃(I_3:Int→World→Prop) (m_4:Int→World→Nat),I_3 (0) w∧
 ∀(t8_5:Int),∀(w_6:World),I_3 t8_5 w_6→
 IfB (decide ((t8_5:Int)<((s1.len:Int):Int)))
 (Idx s1 t8_5 1 fun (q7:Addr)=>
 Ld kI q7 w_6 fun (x8:Int)=>
 ClX Tryz.prog f2 [kB] [(.int .i64 x8)] w_6 fun (r10:Bool) (w_9:World)=>
 IfB r10
 (R (t8_5) w_9)
 (I_3 ((i64 ((t8_5:Int)+(1:Int)))) w_9∧m_4 ((i64 ((t8_5:Int)+(1:Int)))) w_9<m_4 t8_5 w_6))
 (R ((-1)) w_6)
theorem slices_IndexFunc_int_int.ok (s1:Sl) (f2:Value) (R:Int→World→Prop) (w:World) (h:slices_IndexFunc_int_int.E s1 f2 R w):Cl Tryz.prog [kI] n_slices_IndexFunc_int_int ⟨[(.slice s1.base s1.len s1.cap),f2]⟩ w R:=
 calls_of_eq Tryz.mix Tryz.f203 [(.slice s1.base s1.len s1.cap),f2] [kI] R 19 [.tmp 4] (by kernel_rfl) (by kernel_rfl) (by kernel_rfl) (by kernel_rfl) (by kernel_rfl)
  (.s .o (.s (.s .o (.b (.l [(8,kI)] (.s .o (.s (.c .o .o) (.s (.b (.s .o (.s .o (.c (.s .o .o) .o)))) .o)))))) (.s .o .o)))
  (by kernel_rfl) h
def slices_Clone_bwt_pair_bwt_pair.E (s1:Sl) (R:Sl→World→Prop) (w:World):Prop:=
 IfB (Option.isNone (s1).base)
 (R ((⟨none,0,0⟩:Sl)) w)
 (Nw 239 ⟨[]⟩ w fun (b3:Nat) (w_2:World)=>
 Run Tryz.prog (Builtin.append_ #[237,237] 237 ⟨[(.slice (⟨some ⟨b3,0,none⟩,0,0⟩:Sl).base (⟨some ⟨b3,0,none⟩,0,0⟩:Sl).len (⟨some ⟨b3,0,none⟩,0,0⟩:Sl).cap),(.slice s1.base s1.len s1.cap)]⟩) kS w_2 fun (s5:Sl) (w_4:World)=>
 R (s5) w_4)
theorem slices_Clone_bwt_pair_bwt_pair.ok (s1:Sl) (R:Sl→World→Prop) (w:World) (h:slices_Clone_bwt_pair_bwt_pair.E s1 R w):Cl Tryz.prog [kS] n_slices_Clone_bwt_pair_bwt_pair ⟨[(.slice s1.base s1.len s1.cap)]⟩ w R:=
 calls_of_eq Tryz.mix Tryz.f208 [(.slice s1.base s1.len s1.cap)] [kS] R 8 [.tmp 2] (by kernel_rfl) (by kernel_rfl) (by kernel_rfl) (by kernel_rfl) (by kernel_rfl)
  (.s .o (.s (.s .o (.c (.s .o .o) .o)) (.s .o .o)))
  (by kernel_rfl) h
set_option maxRecDepth 100000 in
def slices_insertionSortCmpFunc_int.E (data1:Sl) (a2:Int) (b3:Int) (cmp4:Value) (R:World→Prop) (w:World):Prop:=
 ∃(I_5:Int→World→Prop) (m_6:Int→World→Nat),I_5 ((i64 ((a2:Int)+(1:Int)))) w∧
 ∀(i7:Int),∀(w_8:World),I_5 i7 w_8→
 IfB (decide ((i7:Int)<(b3:Int)))
 (∃(I_9:Int→World→Prop) (m_10:Int→World→Nat),I_9 (i7) w_8∧
 ∀(j11:Int),∀(w_12:World),I_9 j11 w_12→
 Drw w_12 fun (w_13:World)=>
 IfB (decide ((j11:Int)>(a2:Int)))
 (Idx data1 j11 1 fun (q14:Addr)=>
 Ld kI q14 w_13 fun (x15:Int)=>
 Idx data1 (i64 ((j11:Int) - (1:Int))) 1 fun (q16:Addr)=>
 Ld kI q16 w_13 fun (x17:Int)=>
 ClX Tryz.prog cmp4 [kI] [(.int .i64 x15),(.int .i64 x17)] w_13 fun (r19:Int) (w_18:World)=>
 IfB (decide ((r19:Int)<(0:Int)))
 (Drw w_18 fun (w_20:World)=>
 Idx data1 (i64 ((j11:Int) - (1:Int))) 1 fun (q21:Addr)=>
 Ld kI q21 w_20 fun (x22:Int)=>
 Idx data1 j11 1 fun (q23:Addr)=>
 Ld kI q23 w_20 fun (x24:Int)=>
 Idx data1 j11 1 fun (q25:Addr)=>
 St q25 (.int .i64 x22) w_20 fun (w_26:World)=>
 Idx data1 (i64 ((j11:Int) - (1:Int))) 1 fun (q27:Addr)=>
 St q27 (.int .i64 x24) w_26 fun (w_28:World)=>
 I_9 ((i64 ((j11:Int) - (1:Int)))) w_28∧m_10 ((i64 ((j11:Int) - (1:Int)))) w_28<m_10 j11 w_12)
 (I_5 ((i64 ((i7:Int)+(1:Int)))) w_18∧m_6 ((i64 ((i7:Int)+(1:Int)))) w_18<m_6 i7 w_8))
 (I_5 ((i64 ((i7:Int)+(1:Int)))) w_13∧m_6 ((i64 ((i7:Int)+(1:Int)))) w_13<m_6 i7 w_8))
 (R w_8)
set_option maxRecDepth 100000 in
theorem slices_insertionSortCmpFunc_int.ok (data1:Sl) (a2:Int) (b3:Int) (cmp4:Value) (R:World→Prop) (w:World) (h:slices_insertionSortCmpFunc_int.E data1 a2 b3 cmp4 R w):Cl Tryz.prog [] n_slices_insertionSortCmpFunc_int ⟨[(.slice data1.base data1.len data1.cap),(.int .i64 a2),(.int .i64 b3),cmp4]⟩ w R:=
 calls_of_eq Tryz.mix Tryz.f213 [(.slice data1.base data1.len data1.cap),(.int .i64 a2),(.int .i64 b3),cmp4] [] R 53 [] (by kernel_rfl) (by kernel_rfl) (by kernel_rfl) (by kernel_rfl) (by kernel_rfl)
  (.s .o (.b (.l [(8,kI)] (.s (.s .o (.c .o .o)) (.s (.b (.s .o (.b (.l [(9,kI)] (.s (.s .o (.c .o .o)) (.s (.b .o) .o)))))) .o)))))
  (by kernel_rfl) h
set_option maxRecDepth 100000 in
def slices_symMergeCmpFunc_int.E (data1:Sl) (a2:Int) (m_3:Int) (b4:Int) (cmp5:Value) (R:World→Prop) (w:World):Prop:=
 IfB (((i64 ((m_3:Int) - (a2:Int))):Int)==(1:Int))
 (∃(I_6:Int→Int→World→Prop) (m_7:Int→Int→World→Nat),I_6 (m_3) (b4) w∧
 ∀(i8:Int) (j9:Int),∀(w_10:World),I_6 i8 j9 w_10→
 IfB (decide ((i8:Int)<(j9:Int)))
 (0≤(1:Int)∧
 Drw w_10 fun (w_11:World)=>
 Idx data1 (i64 (ishr .u64 ((u64 (i64 ((i8:Int)+(j9:Int)))):Int) (1:Int))) 1 fun (q12:Addr)=>
 Ld kI q12 w_11 fun (x13:Int)=>
 Idx data1 a2 1 fun (q14:Addr)=>
 Ld kI q14 w_11 fun (x15:Int)=>
 ClX Tryz.prog cmp5 [kI] [(.int .i64 x13),(.int .i64 x15)] w_11 fun (r17:Int) (w_16:World)=>
 IfB (decide ((r17:Int)<(0:Int)))
 (I_6 ((i64 (((i64 (ishr .u64 ((u64 (i64 ((i8:Int)+(j9:Int)))):Int) (1:Int))):Int)+(1:Int)))) (j9) w_16∧m_7 ((i64 (((i64 (ishr .u64 ((u64 (i64 ((i8:Int)+(j9:Int)))):Int) (1:Int))):Int)+(1:Int)))) (j9) w_16<m_7 i8 j9 w_10)
 (I_6 (i8) ((i64 (ishr .u64 ((u64 (i64 ((i8:Int)+(j9:Int)))):Int) (1:Int)))) w_16∧m_7 (i8) ((i64 (ishr .u64 ((u64 (i64 ((i8:Int)+(j9:Int)))):Int) (1:Int)))) w_16<m_7 i8 j9 w_10))
 (∃(I_18:Int→World→Prop) (m_19:Int→World→Nat),I_18 (a2) w_10∧
 ∀(k20:Int),∀(w_21:World),I_18 k20 w_21→
 IfB (decide ((k20:Int)<((i64 ((i8:Int) - (1:Int))):Int)))
 (Drw w_21 fun (w_22:World)=>
 Idx data1 (i64 ((k20:Int)+(1:Int))) 1 fun (q23:Addr)=>
 Ld kI q23 w_22 fun (x24:Int)=>
 Idx data1 k20 1 fun (q25:Addr)=>
 Ld kI q25 w_22 fun (x26:Int)=>
 Idx data1 k20 1 fun (q27:Addr)=>
 St q27 (.int .i64 x24) w_22 fun (w_28:World)=>
 Idx data1 (i64 ((k20:Int)+(1:Int))) 1 fun (q29:Addr)=>
 St q29 (.int .i64 x26) w_28 fun (w_30:World)=>
 I_18 ((i64 ((k20:Int)+(1:Int)))) w_30∧m_19 ((i64 ((k20:Int)+(1:Int)))) w_30<m_19 k20 w_21)
 (R w_21)))
 (IfB (((i64 ((b4:Int) - (m_3:Int))):Int)==(1:Int))
 (∃(I_31:Int→Int→World→Prop) (m_32:Int→Int→World→Nat),I_31 (a2) (m_3) w∧
 ∀(i33:Int) (j34:Int),∀(w_35:World),I_31 i33 j34 w_35→
 IfB (decide ((i33:Int)<(j34:Int)))
 (0≤(1:Int)∧
 Drw w_35 fun (w_36:World)=>
 Idx data1 m_3 1 fun (q37:Addr)=>
 Ld kI q37 w_36 fun (x38:Int)=>
 Idx data1 (i64 (ishr .u64 ((u64 (i64 ((i33:Int)+(j34:Int)))):Int) (1:Int))) 1 fun (q39:Addr)=>
 Ld kI q39 w_36 fun (x40:Int)=>
 ClX Tryz.prog cmp5 [kI] [(.int .i64 x38),(.int .i64 x40)] w_36 fun (r42:Int) (w_41:World)=>
 IfB (!(decide ((r42:Int)<(0:Int))))
 (I_31 ((i64 (((i64 (ishr .u64 ((u64 (i64 ((i33:Int)+(j34:Int)))):Int) (1:Int))):Int)+(1:Int)))) (j34) w_41∧m_32 ((i64 (((i64 (ishr .u64 ((u64 (i64 ((i33:Int)+(j34:Int)))):Int) (1:Int))):Int)+(1:Int)))) (j34) w_41<m_32 i33 j34 w_35)
 (I_31 (i33) ((i64 (ishr .u64 ((u64 (i64 ((i33:Int)+(j34:Int)))):Int) (1:Int)))) w_41∧m_32 (i33) ((i64 (ishr .u64 ((u64 (i64 ((i33:Int)+(j34:Int)))):Int) (1:Int)))) w_41<m_32 i33 j34 w_35))
 (∃(I_43:Int→World→Prop) (m_44:Int→World→Nat),I_43 (m_3) w_35∧
 ∀(k45:Int),∀(w_46:World),I_43 k45 w_46→
 IfB (decide ((k45:Int)>(i33:Int)))
 (Drw w_46 fun (w_47:World)=>
 Idx data1 (i64 ((k45:Int) - (1:Int))) 1 fun (q48:Addr)=>
 Ld kI q48 w_47 fun (x49:Int)=>
 Idx data1 k45 1 fun (q50:Addr)=>
 Ld kI q50 w_47 fun (x51:Int)=>
 Idx data1 k45 1 fun (q52:Addr)=>
 St q52 (.int .i64 x49) w_47 fun (w_53:World)=>
 Idx data1 (i64 ((k45:Int) - (1:Int))) 1 fun (q54:Addr)=>
 St q54 (.int .i64 x51) w_53 fun (w_55:World)=>
 I_43 ((i64 ((k45:Int) - (1:Int)))) w_55∧m_44 ((i64 ((k45:Int) - (1:Int)))) w_55<m_44 k45 w_46)
 (R w_46)))
 (0≤(1:Int)∧
 Join (fun (start57:Int) (r58:Int) (w_59:World)=>
 ∃(I_60:Int→Int→World→Prop) (m_61:Int→Int→World→Nat),I_60 (start57) (r58) w_59∧
 ∀(start62:Int) (r63:Int),∀(w_64:World),I_60 start62 r63 w_64→
 IfB (decide ((start62:Int)<(r63:Int)))
 (0≤(1:Int)∧
 Drw w_64 fun (w_65:World)=>
 Idx data1 (i64 (((i64 (((i64 (((i64 (ishr .u64 ((u64 (i64 ((a2:Int)+(b4:Int)))):Int) (1:Int))):Int)+(m_3:Int))):Int) - (1:Int))):Int) - ((i64 (ishr .u64 ((u64 (i64 ((start62:Int)+(r63:Int)))):Int) (1:Int))):Int))) 1 fun (q66:Addr)=>
 Ld kI q66 w_65 fun (x67:Int)=>
 Idx data1 (i64 (ishr .u64 ((u64 (i64 ((start62:Int)+(r63:Int)))):Int) (1:Int))) 1 fun (q68:Addr)=>
 Ld kI q68 w_65 fun (x69:Int)=>
 ClX Tryz.prog cmp5 [kI] [(.int .i64 x67),(.int .i64 x69)] w_65 fun (r71:Int) (w_70:World)=>
 IfB (!(decide ((r71:Int)<(0:Int))))
 (I_60 ((i64 (((i64 (ishr .u64 ((u64 (i64 ((start62:Int)+(r63:Int)))):Int) (1:Int))):Int)+(1:Int)))) (r63) w_70∧m_61 ((i64 (((i64 (ishr .u64 ((u64 (i64 ((start62:Int)+(r63:Int)))):Int) (1:Int))):Int)+(1:Int)))) (r63) w_70<m_61 start62 r63 w_64)
 (I_60 (start62) ((i64 (ishr .u64 ((u64 (i64 ((start62:Int)+(r63:Int)))):Int) (1:Int)))) w_70∧m_61 (start62) ((i64 (ishr .u64 ((u64 (i64 ((start62:Int)+(r63:Int)))):Int) (1:Int)))) w_70<m_61 start62 r63 w_64))
 (Join (fun (w_74:World)=>
 IfB (decide ((a2:Int)<(start62:Int)))
 (IfB (decide ((start62:Int)<((i64 (ishr .u64 ((u64 (i64 ((a2:Int)+(b4:Int)))):Int) (1:Int))):Int)))
 (Cl Tryz.prog [] n_slices_symMergeCmpFunc_int ⟨[(.slice data1.base data1.len data1.cap),(.int .i64 a2),(.int .i64 start62),(.int .i64 (i64 (ishr .u64 ((u64 (i64 ((a2:Int)+(b4:Int)))):Int) (1:Int)))),cmp5]⟩ w_74 fun (w_75:World)=>
 IfB (decide (((i64 (ishr .u64 ((u64 (i64 ((a2:Int)+(b4:Int)))):Int) (1:Int))):Int)<((i64 (((i64 (((i64 (ishr .u64 ((u64 (i64 ((a2:Int)+(b4:Int)))):Int) (1:Int))):Int)+(m_3:Int))):Int) - (start62:Int))):Int)))
 (IfB (decide (((i64 (((i64 (((i64 (ishr .u64 ((u64 (i64 ((a2:Int)+(b4:Int)))):Int) (1:Int))):Int)+(m_3:Int))):Int) - (start62:Int))):Int)<(b4:Int)))
 (Cl Tryz.prog [] n_slices_symMergeCmpFunc_int ⟨[(.slice data1.base data1.len data1.cap),(.int .i64 (i64 (ishr .u64 ((u64 (i64 ((a2:Int)+(b4:Int)))):Int) (1:Int)))),(.int .i64 (i64 (((i64 (((i64 (ishr .u64 ((u64 (i64 ((a2:Int)+(b4:Int)))):Int) (1:Int))):Int)+(m_3:Int))):Int) - (start62:Int)))),(.int .i64 b4),cmp5]⟩ w_75 fun (w_76:World)=>
 R w_76)
 (R w_75))
 (R w_75))
 (IfB (decide (((i64 (ishr .u64 ((u64 (i64 ((a2:Int)+(b4:Int)))):Int) (1:Int))):Int)<((i64 (((i64 (((i64 (ishr .u64 ((u64 (i64 ((a2:Int)+(b4:Int)))):Int) (1:Int))):Int)+(m_3:Int))):Int) - (start62:Int))):Int)))
 (IfB (decide (((i64 (((i64 (((i64 (ishr .u64 ((u64 (i64 ((a2:Int)+(b4:Int)))):Int) (1:Int))):Int)+(m_3:Int))):Int) - (start62:Int))):Int)<(b4:Int)))
 (Cl Tryz.prog [] n_slices_symMergeCmpFunc_int ⟨[(.slice data1.base data1.len data1.cap),(.int .i64 (i64 (ishr .u64 ((u64 (i64 ((a2:Int)+(b4:Int)))):Int) (1:Int)))),(.int .i64 (i64 (((i64 (((i64 (ishr .u64 ((u64 (i64 ((a2:Int)+(b4:Int)))):Int) (1:Int))):Int)+(m_3:Int))):Int) - (start62:Int)))),(.int .i64 b4),cmp5]⟩ w_74 fun (w_77:World)=>
 R w_77)
 (R w_74))
 (R w_74)))
 (IfB (decide (((i64 (ishr .u64 ((u64 (i64 ((a2:Int)+(b4:Int)))):Int) (1:Int))):Int)<((i64 (((i64 (((i64 (ishr .u64 ((u64 (i64 ((a2:Int)+(b4:Int)))):Int) (1:Int))):Int)+(m_3:Int))):Int) - (start62:Int))):Int)))
 (IfB (decide (((i64 (((i64 (((i64 (ishr .u64 ((u64 (i64 ((a2:Int)+(b4:Int)))):Int) (1:Int))):Int)+(m_3:Int))):Int) - (start62:Int))):Int)<(b4:Int)))
 (Cl Tryz.prog [] n_slices_symMergeCmpFunc_int ⟨[(.slice data1.base data1.len data1.cap),(.int .i64 (i64 (ishr .u64 ((u64 (i64 ((a2:Int)+(b4:Int)))):Int) (1:Int)))),(.int .i64 (i64 (((i64 (((i64 (ishr .u64 ((u64 (i64 ((a2:Int)+(b4:Int)))):Int) (1:Int))):Int)+(m_3:Int))):Int) - (start62:Int)))),(.int .i64 b4),cmp5]⟩ w_74 fun (w_78:World)=>
 R w_78)
 (R w_74))
 (R w_74))) fun (K_72:World→Prop)=>
 IfB (decide ((start62:Int)<(m_3:Int)))
 (IfB (decide ((m_3:Int)<((i64 (((i64 (((i64 (ishr .u64 ((u64 (i64 ((a2:Int)+(b4:Int)))):Int) (1:Int))):Int)+(m_3:Int))):Int) - (start62:Int))):Int)))
 (Cl Tryz.prog [] n_slices_rotateCmpFunc_int ⟨[(.slice data1.base data1.len data1.cap),(.int .i64 start62),(.int .i64 m_3),(.int .i64 (i64 (((i64 (((i64 (ishr .u64 ((u64 (i64 ((a2:Int)+(b4:Int)))):Int) (1:Int))):Int)+(m_3:Int))):Int) - (start62:Int)))),cmp5]⟩ w_64 fun (w_73:World)=>
 K_72 w_73)
 (K_72 w_64))
 (K_72 w_64))) fun (K_56:Int→Int→World→Prop)=>
 IfB (decide ((m_3:Int)>((i64 (ishr .u64 ((u64 (i64 ((a2:Int)+(b4:Int)))):Int) (1:Int))):Int)))
 (K_56 ((i64 (((i64 (((i64 (ishr .u64 ((u64 (i64 ((a2:Int)+(b4:Int)))):Int) (1:Int))):Int)+(m_3:Int))):Int) - (b4:Int)))) ((i64 (ishr .u64 ((u64 (i64 ((a2:Int)+(b4:Int)))):Int) (1:Int)))) w)
 (K_56 (a2) (m_3) w)))
set_option maxRecDepth 100000 in
theorem slices_symMergeCmpFunc_int.ok (data1:Sl) (a2:Int) (m_3:Int) (b4:Int) (cmp5:Value) (R:World→Prop) (w:World) (h:slices_symMergeCmpFunc_int.E data1 a2 m_3 b4 cmp5 R w):Cl Tryz.prog [] n_slices_symMergeCmpFunc_int ⟨[(.slice data1.base data1.len data1.cap),(.int .i64 a2),(.int .i64 m_3),(.int .i64 b4),cmp5]⟩ w R:=
 calls_of_eq Tryz.mix Tryz.f214 [(.slice data1.base data1.len data1.cap),(.int .i64 a2),(.int .i64 m_3),(.int .i64 b4),cmp5] [] R 220 [] (by kernel_rfl) (by kernel_rfl) (by kernel_rfl) (by kernel_rfl) (by kernel_rfl)
  (.s (.s .o (.c (.s .o (.s .o (.s (.b (.l [(10,kI),(11,kI)] (.s (.s .o (.c .o .o)) (.b (.s .o (.s .o (.c .o .o))))))) (.s (.s .o (.b (.l [(13,kI)] (.s (.s .o (.c .o .o)) (.s (.b .o) .o))))) .o)))) .o)) (.s (.s .o (.c (.s .o (.s .o (.s (.b (.l [(14,kI),(15,kI)] (.s (.s .o (.c .o .o)) (.b (.s .o (.s .o (.c .o .o))))))) (.s (.s .o (.b (.l [(17,kI)] (.s (.s .o (.c .o .o)) (.s (.b .o) .o))))) .o)))) .o)) (.s .o (.s .o (.s .o (.j [(20,kI),(21,kI)] (.s .o (.c (.s .o .o) (.s .o .o))) (.s .o (.s (.b (.l [(20,kI),(21,kI)] (.s (.s .o (.c .o .o)) (.b (.s .o (.s .o (.c .o .o))))))) (.s .o (.j [] (.s .o (.c .o .o)) (.s (.s .o (.c .o .o)) (.s .o (.c .o .o)))))))))))))
  (by kernel_rfl) h
def slices_rotateCmpFunc_int.E (data1:Sl) (a2:Int) (m_3:Int) (b4:Int) (cmp5:Value) (R:World→Prop) (w:World):Prop:=
 ∃(I_6:Int→Int→World→Prop) (m_7:Int→Int→World→Nat),I_6 ((i64 ((m_3:Int) - (a2:Int)))) ((i64 ((b4:Int) - (m_3:Int)))) w∧
 ∀(i8:Int) (j9:Int),∀(w_10:World),I_6 i8 j9 w_10→
 IfB ((i8:Int) !=(j9:Int))
 (IfB (decide ((i8:Int)>(j9:Int)))
 (Cl Tryz.prog [] n_slices_swapRangeCmpFunc_int ⟨[(.slice data1.base data1.len data1.cap),(.int .i64 (i64 ((m_3:Int) - (i8:Int)))),(.int .i64 m_3),(.int .i64 j9),cmp5]⟩ w_10 fun (w_11:World)=>
 I_6 ((i64 ((i8:Int) - (j9:Int)))) (j9) w_11∧m_7 ((i64 ((i8:Int) - (j9:Int)))) (j9) w_11<m_7 i8 j9 w_10)
 (Cl Tryz.prog [] n_slices_swapRangeCmpFunc_int ⟨[(.slice data1.base data1.len data1.cap),(.int .i64 (i64 ((m_3:Int) - (i8:Int)))),(.int .i64 (i64 (((i64 ((m_3:Int)+(j9:Int))):Int) - (i8:Int)))),(.int .i64 i8),cmp5]⟩ w_10 fun (w_12:World)=>
 I_6 (i8) ((i64 ((j9:Int) - (i8:Int)))) w_12∧m_7 (i8) ((i64 ((j9:Int) - (i8:Int)))) w_12<m_7 i8 j9 w_10))
 (Cl Tryz.prog [] n_slices_swapRangeCmpFunc_int ⟨[(.slice data1.base data1.len data1.cap),(.int .i64 (i64 ((m_3:Int) - (i8:Int)))),(.int .i64 m_3),(.int .i64 i8),cmp5]⟩ w_10 fun (w_13:World)=>
 R w_13)
theorem slices_rotateCmpFunc_int.ok (data1:Sl) (a2:Int) (m_3:Int) (b4:Int) (cmp5:Value) (R:World→Prop) (w:World) (h:slices_rotateCmpFunc_int.E data1 a2 m_3 b4 cmp5 R w):Cl Tryz.prog [] n_slices_rotateCmpFunc_int ⟨[(.slice data1.base data1.len data1.cap),(.int .i64 a2),(.int .i64 m_3),(.int .i64 b4),cmp5]⟩ w R:=
 calls_of_eq Tryz.mix Tryz.f220 [(.slice data1.base data1.len data1.cap),(.int .i64 a2),(.int .i64 m_3),(.int .i64 b4),cmp5] [] R 58 [] (by kernel_rfl) (by kernel_rfl) (by kernel_rfl) (by kernel_rfl) (by kernel_rfl)
  (.s .o (.s .o (.s (.b (.l [(10,kI),(11,kI)] (.s (.s .o (.c .o .o)) (.b (.s .o (.c (.s .o .o) (.s .o .o))))))) .o)))
  (by kernel_rfl) h
def slices_swapRangeCmpFunc_int.E (data1:Sl) (a2:Int) (b3:Int) (n4:Int) (cmp5:Value) (R:World→Prop) (w:World):Prop:=
 ∃(I_6:Int→World→Prop) (m_7:Int→World→Nat),I_6 (0) w∧
 ∀(i8:Int),∀(w_9:World),I_6 i8 w_9→
 IfB (decide ((i8:Int)<(n4:Int)))
 (Drw w_9 fun (w_10:World)=>
 Idx data1 (i64 ((b3:Int)+(i8:Int))) 1 fun (q11:Addr)=>
 Ld kI q11 w_10 fun (x12:Int)=>
 Idx data1 (i64 ((a2:Int)+(i8:Int))) 1 fun (q13:Addr)=>
 Ld kI q13 w_10 fun (x14:Int)=>
 Idx data1 (i64 ((a2:Int)+(i8:Int))) 1 fun (q15:Addr)=>
 St q15 (.int .i64 x12) w_10 fun (w_16:World)=>
 Idx data1 (i64 ((b3:Int)+(i8:Int))) 1 fun (q17:Addr)=>
 St q17 (.int .i64 x14) w_16 fun (w_18:World)=>
 I_6 ((i64 ((i8:Int)+(1:Int)))) w_18∧m_7 ((i64 ((i8:Int)+(1:Int)))) w_18<m_7 i8 w_9)
 (R w_9)
theorem slices_swapRangeCmpFunc_int.ok (data1:Sl) (a2:Int) (b3:Int) (n4:Int) (cmp5:Value) (R:World→Prop) (w:World) (h:slices_swapRangeCmpFunc_int.E data1 a2 b3 n4 cmp5 R w):Cl Tryz.prog [] n_slices_swapRangeCmpFunc_int ⟨[(.slice data1.base data1.len data1.cap),(.int .i64 a2),(.int .i64 b3),(.int .i64 n4),cmp5]⟩ w R:=
 calls_of_eq Tryz.mix Tryz.f233 [(.slice data1.base data1.len data1.cap),(.int .i64 a2),(.int .i64 b3),(.int .i64 n4),cmp5] [] R 38 [] (by kernel_rfl) (by kernel_rfl) (by kernel_rfl) (by kernel_rfl) (by kernel_rfl)
  (.s .o (.b (.l [(10,kI)] (.s (.s .o (.c .o .o)) (.s (.b .o) .o)))))
  (by kernel_rfl) h
end Go.Proofs.YtcdpblipagajiaaGreat
namespace Go.Proofs.YtcdpblipagajiaaGreat
open Go Go.Vc
def bitwriter_New.E (R:(Option Addr)→World→Prop) (w:World):Prop:=
 Nw 133 ⟨[(.slice none 0 0),(.int .i64 0)]⟩ w fun (b2:Nat) (w_1:World)=>
 R ((some (⟨b2,0,none⟩:Addr))) w_1
theorem bitwriter_New.ok (R:(Option Addr)→World→Prop) (w:World) (h:bitwriter_New.E R w):Cl Tryz.prog [kP] n_bitwriter_New ⟨[]⟩ w R:=
 calls_of_eq Tryz.mix Tryz.f46 [] [kP] R 3 [.tmp 0] (by kernel_rfl) (by kernel_rfl) (by kernel_rfl) (by kernel_rfl) (by kernel_rfl)
  (.s .o (.s .o .o))
  (by kernel_rfl) h
def bitwriter_Writer_Bytes.E (w_1:(Option Addr)) (R:Sl→World→Prop) (w:World):Prop:=
 IfB (Option.isNone (w_1:Option Addr))
 (R ((⟨none,0,0⟩:Sl)) w)
 (NilCk w_1 fun (p2:Addr)=>
 Ld kS (p2.add 0) w fun (b3:Sl)=>
 Cl Tryz.prog [kS] n_bytes_Clone ⟨[(.slice b3.base b3.len b3.cap)]⟩ w fun (r5:Sl) (w_4:World)=>
 R (r5) w_4)
theorem bitwriter_Writer_Bytes.ok (w_1:(Option Addr)) (R:Sl→World→Prop) (w:World) (h:bitwriter_Writer_Bytes.E w_1 R w):Cl Tryz.prog [kS] n_bitwriter_Writer_Bytes ⟨[(.pointer w_1)]⟩ w R:=
 calls_of_eq Tryz.mix Tryz.f49 [(.pointer w_1)] [kS] R 10 [.tmp 2] (by kernel_rfl) (by kernel_rfl) (by kernel_rfl) (by kernel_rfl) (by kernel_rfl)
  (.s .o (.s (.s .o (.c (.s .o .o) .o)) (.s .o .o)))
  (by kernel_rfl) h
def bitwriter_Of.E (b1:Sl) (R:Sl→World→Prop) (w:World):Prop:=
 ∃(I_2:Sl→Int→World→Prop) (m_3:Sl→Int→World→Nat),I_2 ((⟨none,0,0⟩:Sl)) (0) w∧
 ∀(l4:Sl) (t7_5:Int),∀(w_6:World),I_2 l4 t7_5 w_6→
 IfB (decide ((t7_5:Int)<((i64 ((8:Int)*((b1.len:Int):Int))):Int)))
 (Cl Tryz.prog [(kInt .u8)] n_bitwriter_bit ⟨[(.slice b1.base b1.len b1.cap),(.int .i64 t7_5)]⟩ w_6 fun (r8:Int) (w_7:World)=>
 Nw 3 ⟨[(.int .i64 (i64 r8))]⟩ w_7 fun (b10:Nat) (w_9:World)=>
 Run Tryz.prog (Builtin.append_ #[33,33] 33 ⟨[(.slice l4.base l4.len l4.cap),(.slice (⟨some ⟨b10,0,none⟩,1,1⟩:Sl).base (⟨some ⟨b10,0,none⟩,1,1⟩:Sl).len (⟨some ⟨b10,0,none⟩,1,1⟩:Sl).cap)]⟩) kS w_9 fun (s12:Sl) (w_11:World)=>
 I_2 (s12) ((i64 ((t7_5:Int)+(1:Int)))) w_11∧m_3 (s12) ((i64 ((t7_5:Int)+(1:Int)))) w_11<m_3 l4 t7_5 w_6)
 (R (l4) w_6)
theorem bitwriter_Of.ok (b1:Sl) (R:Sl→World→Prop) (w:World) (h:bitwriter_Of.E b1 R w):Cl Tryz.prog [kS] n_bitwriter_Of ⟨[(.slice b1.base b1.len b1.cap)]⟩ w R:=
 calls_of_eq Tryz.mix Tryz.f51 [(.slice b1.base b1.len b1.cap)] [kS] R 19 [.tmp 2] (by kernel_rfl) (by kernel_rfl) (by kernel_rfl) (by kernel_rfl) (by kernel_rfl)
  (.s .o (.s (.s .o (.b (.l [(2,kS),(7,kI)] (.s .o (.s (.c .o .o) (.s (.b (.s .o .o)) .o)))))) (.s .o .o)))
  (by kernel_rfl) h
def bitwriter_Writer_Put.E (w_1:(Option Addr)) (v2:Int) (width3:Int) (R:Bool→World→Prop) (w:World):Prop:=
 Nw 80 ⟨[(.pointer w_1)]⟩ w fun (b5:Nat) (w_4:World)=>
 Ld kP (⟨b5,0,none⟩:Addr) w_4 fun (x6:(Option Addr))=>
 IfB (Option.isNone (x6:Option Addr))
 (R (false) w_4)
 (Cl Tryz.prog [kB] n_bitwriter_fits ⟨[(.int .u32 v2),(.int .i64 width3)]⟩ w_4 fun (r8:Bool) (w_7:World)=>
 IfB (!r8)
 (R (false) w_7)
 (Cl Tryz.prog [kV] n_bitwriter_down ⟨[(.int .u32 v2),(.int .i64 width3)]⟩ w_7 fun (r10:Value) (w_9:World)=>
 Rng Tryz.prog r10 [(kInt .u8)] w_9 (fun (l11:Nat) (rec_12:Nat→Obj) (y16:Int) (w_13:World) (Kt14 Kf15:World→Prop)=>
 Beg l11 rec_12 w_13 fun (w_17:World)=>
 Ld kP (⟨b5,0,none⟩:Addr) w_17 fun (x18:(Option Addr))=>
 Cl Tryz.prog [] n_bitwriter_Writer_add ⟨[(.pointer x18),(.int .u8 y16)]⟩ w_17 fun (w_19:World)=>
 EndT l11 rec_12 w_19 Kt14)
 (fun (D20:Nat) (w_21:World)=>
 Dfr (D20:: []:List Nat) w_21 fun (w_22:World)=>
 R (true) w_22)
 (fun (D23:Nat) (w_24:World)=>
 Dfr (D23:: []:List Nat) w_24 fun (w_25:World)=>
 R (false) w_25)))
theorem bitwriter_Writer_Put.ok (w_1:(Option Addr)) (v2:Int) (width3:Int) (R:Bool→World→Prop) (w:World) (h:bitwriter_Writer_Put.E w_1 v2 width3 R w):Cl Tryz.prog [kB] n_bitwriter_Writer_Put ⟨[(.pointer w_1),(.int .u32 v2),(.int .i64 width3)]⟩ w R:=
 calls_of_eqR Tryz.mix Tryz.f95 [(.pointer w_1),(.int .u32 v2),(.int .i64 width3)] [kB] R 23 [.tmp 6] (by kernel_rfl) (by kernel_rfl) (by kernel_rfl) (by kernel_rfl) (by kernel_rfl)
  (.s .o (.s (.s .o (.c (.s .o .o) .o)) (.s (.s .o (.b (.r [(kInt .u8)] .o (.b .o)))) (.s .o .o))))
  (by kernel_rfl) h
def bitwriter_bit.E (b1:Sl) (at_2:Int) (R:Int→World→Prop) (w:World):Prop:=
 0≤(3:Int)∧
 Idx b1 (ishr .i64 (at_2:Int) (3:Int)) 1 fun (q3:Addr)=>
 Ld (kInt .u8) q3 w fun (x4:Int)=>
 0≤((i64 ((7:Int) - ((iand .i64 (at_2:Int) (7:Int)):Int))):Int)∧
 R ((iand .u8 ((ishr .u8 (x4:Int) ((i64 ((7:Int) - ((iand .i64 (at_2:Int) (7:Int)):Int))):Int)):Int) (1:Int))) w
theorem bitwriter_bit.ok (b1:Sl) (at_2:Int) (R:Int→World→Prop) (w:World) (h:bitwriter_bit.E b1 at_2 R w):Cl Tryz.prog [(kInt .u8)] n_bitwriter_bit ⟨[(.slice b1.base b1.len b1.cap),(.int .i64 at_2)]⟩ w R:=
 calls_of_eq Tryz.mix Tryz.f99 [(.slice b1.base b1.len b1.cap),(.int .i64 at_2)] [(kInt .u8)] R 15 [.tmp 4] (by kernel_rfl) (by kernel_rfl) (by kernel_rfl) (by kernel_rfl) (by kernel_rfl)
  (.s .o (.s .o .o))
  (by kernel_rfl) h
def bitwriter_fits.E (v1:Int) (width2:Int) (R:Bool→World→Prop) (w:World):Prop:=
 IfB (decide ((width2:Int)≥(0:Int)))
 (IfB (decide ((width2:Int)≤(32:Int)))
 (0≤(width2:Int)∧
 R ((((ishr .u64 ((u64 v1):Int) (width2:Int)):Int)==(0:Int))) w)
 (R (false) w))
 (R (false) w)
theorem bitwriter_fits.ok (v1:Int) (width2:Int) (R:Bool→World→Prop) (w:World) (h:bitwriter_fits.E v1 width2 R w):Cl Tryz.prog [kB] n_bitwriter_fits ⟨[(.int .u32 v1),(.int .i64 width2)]⟩ w R:=
 calls_of_eq Tryz.mix Tryz.f144 [(.int .u32 v1),(.int .i64 width2)] [kB] R 18 [.tmp 4] (by kernel_rfl) (by kernel_rfl) (by kernel_rfl) (by kernel_rfl) (by kernel_rfl)
  (.s .o (.s .o .o))
  (by kernel_rfl) h
def bitwriter_down.E (v1:Int) (width2:Int) (R:Value→World→Prop) (w:World):Prop:=
 Nw 49 ⟨[(.int .u32 v1)]⟩ w fun (b4:Nat) (w_3:World)=>
 Nw 3 ⟨[(.int .i64 width2)]⟩ w_3 fun (b6:Nat) (w_5:World)=>
 R ((.func (.func 186) ⟨[]⟩ ⟨[(.pointer (some (⟨b6,0,none⟩:Addr))),(.pointer (some (⟨b4,0,none⟩:Addr)))]⟩)) w_5
theorem bitwriter_down.ok (v1:Int) (width2:Int) (R:Value→World→Prop) (w:World) (h:bitwriter_down.E v1 width2 R w):Cl Tryz.prog [kV] n_bitwriter_down ⟨[(.int .u32 v1),(.int .i64 width2)]⟩ w R:=
 calls_of_eq Tryz.mix Tryz.f145 [(.int .u32 v1),(.int .i64 width2)] [kV] R 6 [.tmp 4] (by kernel_rfl) (by kernel_rfl) (by kernel_rfl) (by kernel_rfl) (by kernel_rfl)
  (.s .o (.s .o .o))
  (by kernel_rfl) h
set_option maxRecDepth 100000 in
def bitwriter_Writer_add.E (w_1:(Option Addr)) (bit2:Int) (R:World→Prop) (w:World):Prop:=
 NilCk w_1 fun (p3:Addr)=>
 Ld kI (p3.add 1) w fun (many4:Int)=>
 IfB (((iand .i64 (many4:Int) (7:Int)):Int)==(0:Int))
 (NilCk w_1 fun (p5:Addr)=>
 Ld kS (p5.add 0) w fun (b6:Sl)=>
 Nw 5 ⟨[(.int .u8 0)]⟩ w fun (b8:Nat) (w_7:World)=>
 Run Tryz.prog (Builtin.append_ #[22,22] 22 ⟨[(.slice b6.base b6.len b6.cap),(.slice (⟨some ⟨b8,0,none⟩,1,1⟩:Sl).base (⟨some ⟨b8,0,none⟩,1,1⟩:Sl).len (⟨some ⟨b8,0,none⟩,1,1⟩:Sl).cap)]⟩) kS w_7 fun (s10:Sl) (w_9:World)=>
 NilCk w_1 fun (p11:Addr)=>
 St (p11.add 0) (.slice s10.base s10.len s10.cap) w_9 fun (w_12:World)=>
 Drw w_12 fun (w_13:World)=>
 NilCk w_1 fun (p14:Addr)=>
 Ld kS (p14.add 0) w_13 fun (b15:Sl)=>
 NilCk w_1 fun (p16:Addr)=>
 Ld kI (p16.add 1) w_13 fun (many17:Int)=>
 0≤(3:Int)∧
 Idx b15 (ishr .i64 (many17:Int) (3:Int)) 1 fun (q18:Addr)=>
 Ld (kInt .u8) q18 w_13 fun (x19:Int)=>
 NilCk w_1 fun (p20:Addr)=>
 Ld kI (p20.add 1) w_13 fun (many21:Int)=>
 0≤((i64 ((7:Int) - ((iand .i64 (many21:Int) (7:Int)):Int))):Int)∧
 Idx b15 (ishr .i64 (many17:Int) (3:Int)) 1 fun (q22:Addr)=>
 St q22 (.int .u8 (ior .u8 (x19:Int) ((ishl .u8 (bit2:Int) ((i64 ((7:Int) - ((iand .i64 (many21:Int) (7:Int)):Int))):Int)):Int))) w_13 fun (w_23:World)=>
 NilCk w_1 fun (p24:Addr)=>
 Ld kI (p24.add 1) w_23 fun (many25:Int)=>
 NilCk w_1 fun (p26:Addr)=>
 St (p26.add 1) (.int .i64 (i64 ((many25:Int)+(1:Int)))) w_23 fun (w_27:World)=>
 R w_27)
 (Drw w fun (w_28:World)=>
 NilCk w_1 fun (p29:Addr)=>
 Ld kS (p29.add 0) w_28 fun (b30:Sl)=>
 NilCk w_1 fun (p31:Addr)=>
 Ld kI (p31.add 1) w_28 fun (many32:Int)=>
 0≤(3:Int)∧
 Idx b30 (ishr .i64 (many32:Int) (3:Int)) 1 fun (q33:Addr)=>
 Ld (kInt .u8) q33 w_28 fun (x34:Int)=>
 NilCk w_1 fun (p35:Addr)=>
 Ld kI (p35.add 1) w_28 fun (many36:Int)=>
 0≤((i64 ((7:Int) - ((iand .i64 (many36:Int) (7:Int)):Int))):Int)∧
 Idx b30 (ishr .i64 (many32:Int) (3:Int)) 1 fun (q37:Addr)=>
 St q37 (.int .u8 (ior .u8 (x34:Int) ((ishl .u8 (bit2:Int) ((i64 ((7:Int) - ((iand .i64 (many36:Int) (7:Int)):Int))):Int)):Int))) w_28 fun (w_38:World)=>
 NilCk w_1 fun (p39:Addr)=>
 Ld kI (p39.add 1) w_38 fun (many40:Int)=>
 NilCk w_1 fun (p41:Addr)=>
 St (p41.add 1) (.int .i64 (i64 ((many40:Int)+(1:Int)))) w_38 fun (w_42:World)=>
 R w_42)
set_option maxRecDepth 100000 in
theorem bitwriter_Writer_add.ok (w_1:(Option Addr)) (bit2:Int) (R:World→Prop) (w:World) (h:bitwriter_Writer_add.E w_1 bit2 R w):Cl Tryz.prog [] n_bitwriter_Writer_add ⟨[(.pointer w_1),(.int .u8 bit2)]⟩ w R:=
 calls_of_eq Tryz.mix Tryz.f146 [(.pointer w_1),(.int .u8 bit2)] [] R 47 [] (by kernel_rfl) (by kernel_rfl) (by kernel_rfl) (by kernel_rfl) (by kernel_rfl)
  (.s (.s .o (.c .o .o)) (.s .o .o))
  (by kernel_rfl) h
def bitwriter_down_1.E (yield1:Value) (c2:Addr) (c3:Addr) (R:World→Prop) (w:World):Prop:=
 Ld kI c2 w fun (x4:Int)=>
 ∃(I_5:Int→World→Prop) (m_6:Int→World→Nat),I_5 ((i64 ((x4:Int) - (1:Int)))) w∧
 ∀(i7:Int),∀(w_8:World),I_5 i7 w_8→
 IfB (decide ((i7:Int)≥(0:Int)))
 (Ld (kInt .u32) c3 w_8 fun (x9:Int)=>
 0≤(i7:Int)∧
 ClY Tryz.prog yield1 [kB] [(.int .u8 (iand .u8 ((u8 (ishr .u32 (x9:Int) (i7:Int))):Int) (1:Int)))] w_8 fun (r11:Bool) (w_10:World)=>
 IfB (!r11)
 (R w_10)
 (([]:List Nat)=([]:List Nat)∧I_5 ((i64 ((i7:Int) - (1:Int)))) w_10∧m_6 ((i64 ((i7:Int) - (1:Int)))) w_10<m_6 i7 w_8))
 (R w_8)
theorem bitwriter_down_1.ok (yield1:Value) (c2:Addr) (c3:Addr) (R:World→Prop) (w:World) (h:bitwriter_down_1.E yield1 c2 c3 R w):Cl Tryz.prog [] n_bitwriter_down_1 ⟨[yield1,(.pointer (some c2)),(.pointer (some c3))]⟩ w R:=
 calls_of_eqR Tryz.mix Tryz.f186 [yield1,(.pointer (some c2)),(.pointer (some c3))] [] R 19 [] (by kernel_rfl) (by kernel_rfl) (by kernel_rfl) (by kernel_rfl) (by kernel_rfl)
  (.s .o (.b (.l [(4,kI)] (.s (.s .o (.c .o .o)) (.s (.b (.s .o (.c .o .o))) .o)))))
  (by kernel_rfl) h
end Go.Proofs.YtcdpblipagajiaaGreat
namespace Go.Proofs.YtcdpblipagajiaaGreat
open Go Go.Vc
def kraft_Table.E (l1:(Array Value)) (R:Bool→World→Prop) (w:World):Prop:=
 Nw 36 l1 w fun (b3:Nat) (w_2:World)=>
 Ld (.arr 258) (⟨b3,0,none⟩:Addr) w_2 fun (x4:(Array Value))=>
 Cl Tryz.prog [kB] n_kraft_Complete ⟨[(.agg x4)]⟩ w_2 fun (r6:Bool) (w_5:World)=>
 IfB r6
 (IdxP (⟨b3,0,none⟩:Addr) 258 257 1 fun (q7:Addr)=>
 Ld (kInt .u8) q7 w_5 fun (x8:Int)=>
 R ((decide ((x8:Int)>(0:Int)))) w_5)
 (R (false) w_5)
theorem kraft_Table.ok (l1:(Array Value)) (R:Bool→World→Prop) (w:World) (h:kraft_Table.E l1 R w):Cl Tryz.prog [kB] n_kraft_Table ⟨[(.agg l1)]⟩ w R:=
 calls_of_eq Tryz.mix Tryz.f142 [(.agg l1)] [kB] R 10 [.tmp 2] (by kernel_rfl) (by kernel_rfl) (by kernel_rfl) (by kernel_rfl) (by kernel_rfl)
  (.s .o (.s .o .o))
  (by kernel_rfl) h
def kraft_Complete.E (l1:(Array Value)) (R:Bool→World→Prop) (w:World):Prop:=
 Nw 36 l1 w fun (b3:Nat) (w_2:World)=>
 Ld (.arr 258) (⟨b3,0,none⟩:Addr) w_2 fun (x4:(Array Value))=>
 Cl Tryz.prog [kI] n_kraft_Sum ⟨[(.agg x4)]⟩ w_2 fun (r6:Int) (w_5:World)=>
 R (((r6:Int)==(32768:Int))) w_5
theorem kraft_Complete.ok (l1:(Array Value)) (R:Bool→World→Prop) (w:World) (h:kraft_Complete.E l1 R w):Cl Tryz.prog [kB] n_kraft_Complete ⟨[(.agg l1)]⟩ w R:=
 calls_of_eq Tryz.mix Tryz.f184 [(.agg l1)] [kB] R 6 [.tmp 2] (by kernel_rfl) (by kernel_rfl) (by kernel_rfl) (by kernel_rfl) (by kernel_rfl)
  (.s .o (.s .o .o))
  (by kernel_rfl) h
def kraft_Fits.E (l1:(Array Value)) (R:Bool→World→Prop) (w:World):Prop:=
 Nw 36 l1 w fun (b3:Nat) (w_2:World)=>
 Ld (.arr 258) (⟨b3,0,none⟩:Addr) w_2 fun (x4:(Array Value))=>
 Cl Tryz.prog [kI] n_kraft_Sum ⟨[(.agg x4)]⟩ w_2 fun (r6:Int) (w_5:World)=>
 R ((decide ((r6:Int)≤(32768:Int)))) w_5
theorem kraft_Fits.ok (l1:(Array Value)) (R:Bool→World→Prop) (w:World) (h:kraft_Fits.E l1 R w):Cl Tryz.prog [kB] n_kraft_Fits ⟨[(.agg l1)]⟩ w R:=
 calls_of_eq Tryz.mix Tryz.f187 [(.agg l1)] [kB] R 6 [.tmp 2] (by kernel_rfl) (by kernel_rfl) (by kernel_rfl) (by kernel_rfl) (by kernel_rfl)
  (.s .o (.s .o .o))
  (by kernel_rfl) h
set_option maxRecDepth 100000 in
def kraft_Counts.E (l1:(Array Value)) (R:(TT [.int .i64,.int .i64,.int .i64,.int .i64,.int .i64,.int .i64,.int .i64,.int .i64,.int .i64,.int .i64,.int .i64,.int .i64,.int .i64,.int .i64,.int .i64,.int .i64])→World→Prop) (w:World):Prop:=
 Nw 36 l1 w fun (b3:Nat) (w_2:World)=>
 Nw 233 ⟨List.replicate 16 (.int .i64 0)⟩ w_2 fun (b5:Nat) (w_4:World)=>
 Ld (.arr 258) (⟨b3,0,none⟩:Addr) w_4 fun (x6:(Array Value))=>
 ∃(I_7:Int→World→Prop) (m_8:Int→World→Nat),I_7 (0) w_4∧
 ∀(t6_9:Int),∀(w_10:World),I_7 t6_9 w_10→
 IfB (decide ((t6_9:Int)<(258:Int)))
 (IdxV (.int .u8) x6 258 t6_9 fun (e11:Int)=>
 IfB (decide (((i64 e11):Int)<(16:Int)))
 (IdxP (⟨b5,0,none⟩:Addr) 16 e11 1 fun (q12:Addr)=>
 Ld kI q12 w_10 fun (x13:Int)=>
 IdxP (⟨b5,0,none⟩:Addr) 16 e11 1 fun (q14:Addr)=>
 St q14 (.int .i64 (i64 ((x13:Int)+(1:Int)))) w_10 fun (w_15:World)=>
 I_7 ((i64 ((t6_9:Int)+(1:Int)))) w_15∧m_8 ((i64 ((t6_9:Int)+(1:Int)))) w_15<m_8 t6_9 w_10)
 (I_7 ((i64 ((t6_9:Int)+(1:Int)))) w_10∧m_8 ((i64 ((t6_9:Int)+(1:Int)))) w_10<m_8 t6_9 w_10))
 (Ld (.st [.int .i64,.int .i64,.int .i64,.int .i64,.int .i64,.int .i64,.int .i64,.int .i64,.int .i64,.int .i64,.int .i64,.int .i64,.int .i64,.int .i64,.int .i64,.int .i64]) (⟨b5,0,none⟩:Addr) w_10 fun (x16:(TT [.int .i64,.int .i64,.int .i64,.int .i64,.int .i64,.int .i64,.int .i64,.int .i64,.int .i64,.int .i64,.int .i64,.int .i64,.int .i64,.int .i64,.int .i64,.int .i64]))=>
 StC (⟨b5,0,none⟩:Addr) [(.int .i64 x16.1),(.int .i64 x16.2.1),(.int .i64 x16.2.2.1),(.int .i64 x16.2.2.2.1),(.int .i64 x16.2.2.2.2.1),(.int .i64 x16.2.2.2.2.2.1),(.int .i64 x16.2.2.2.2.2.2.1),(.int .i64 x16.2.2.2.2.2.2.2.1),(.int .i64 x16.2.2.2.2.2.2.2.2.1),(.int .i64 x16.2.2.2.2.2.2.2.2.2.1),(.int .i64 x16.2.2.2.2.2.2.2.2.2.2.1),(.int .i64 x16.2.2.2.2.2.2.2.2.2.2.2.1),(.int .i64 x16.2.2.2.2.2.2.2.2.2.2.2.2.1),(.int .i64 x16.2.2.2.2.2.2.2.2.2.2.2.2.2.1),(.int .i64 x16.2.2.2.2.2.2.2.2.2.2.2.2.2.2.1),(.int .i64 x16.2.2.2.2.2.2.2.2.2.2.2.2.2.2.2.1)] 0 w_10 fun (w_17:World)=>
 Ld (.st [.int .i64,.int .i64,.int .i64,.int .i64,.int .i64,.int .i64,.int .i64,.int .i64,.int .i64,.int .i64,.int .i64,.int .i64,.int .i64,.int .i64,.int .i64,.int .i64]) (⟨b5,0,none⟩:Addr) w_17 fun (res18:(TT [.int .i64,.int .i64,.int .i64,.int .i64,.int .i64,.int .i64,.int .i64,.int .i64,.int .i64,.int .i64,.int .i64,.int .i64,.int .i64,.int .i64,.int .i64,.int .i64]))=>
 R (res18) w_17)
set_option maxRecDepth 100000 in
theorem kraft_Counts.ok (l1:(Array Value)) (R:(TT [.int .i64,.int .i64,.int .i64,.int .i64,.int .i64,.int .i64,.int .i64,.int .i64,.int .i64,.int .i64,.int .i64,.int .i64,.int .i64,.int .i64,.int .i64,.int .i64])→World→Prop) (w:World) (h:kraft_Counts.E l1 R w):Cl Tryz.prog [(.st [.int .i64,.int .i64,.int .i64,.int .i64,.int .i64,.int .i64,.int .i64,.int .i64,.int .i64,.int .i64,.int .i64,.int .i64,.int .i64,.int .i64,.int .i64,.int .i64])] n_kraft_Counts ⟨[(.agg l1)]⟩ w R:=
 calls_of_eq Tryz.mix Tryz.f192 [(.agg l1)] [(.st [.int .i64,.int .i64,.int .i64,.int .i64,.int .i64,.int .i64,.int .i64,.int .i64,.int .i64,.int .i64,.int .i64,.int .i64,.int .i64,.int .i64,.int .i64,.int .i64])] R 19 [.cell 2 233] (by kernel_rfl) (by kernel_rfl) (by kernel_rfl) (by kernel_rfl) (by kernel_rfl)
  (.s .o (.s (.s .o (.b (.l [(6,kI)] (.s .o (.s (.c .o .o) (.s (.b (.s .o (.s .o (.c .o .o)))) .o)))))) (.s .o .o)))
  (by kernel_rfl) h
def kraft_Sum.E (l1:(Array Value)) (R:Int→World→Prop) (w:World):Prop:=
 Nw 36 l1 w fun (b3:Nat) (w_2:World)=>
 Ld (.arr 258) (⟨b3,0,none⟩:Addr) w_2 fun (x4:(Array Value))=>
 ∃(I_5:Int→Int→World→Prop) (m_6:Int→Int→World→Nat),I_5 (0) (0) w_2∧
 ∀(sum7:Int) (t6_8:Int),∀(w_9:World),I_5 sum7 t6_8 w_9→
 IfB (decide ((t6_8:Int)<(258:Int)))
 (IdxV (.int .u8) x4 258 t6_8 fun (e10:Int)=>
 Cl Tryz.prog [kI] n_kraft_share ⟨[(.int .u8 e10)]⟩ w_9 fun (r12:Int) (w_11:World)=>
 I_5 ((i64 ((sum7:Int)+(r12:Int)))) ((i64 ((t6_8:Int)+(1:Int)))) w_11∧m_6 ((i64 ((sum7:Int)+(r12:Int)))) ((i64 ((t6_8:Int)+(1:Int)))) w_11<m_6 sum7 t6_8 w_9)
 (R (sum7) w_9)
theorem kraft_Sum.ok (l1:(Array Value)) (R:Int→World→Prop) (w:World) (h:kraft_Sum.E l1 R w):Cl Tryz.prog [kI] n_kraft_Sum ⟨[(.agg l1)]⟩ w R:=
 calls_of_eq Tryz.mix Tryz.f204 [(.agg l1)] [kI] R 15 [.tmp 2] (by kernel_rfl) (by kernel_rfl) (by kernel_rfl) (by kernel_rfl) (by kernel_rfl)
  (.s .o (.s (.s .o (.b (.l [(2,kI),(6,kI)] (.s .o (.s (.c .o .o) (.s (.b (.s .o .o)) .o)))))) (.s .o .o)))
  (by kernel_rfl) h
def kraft_share.E (n1:Int) (R:Int→World→Prop) (w:World):Prop:=
 IfB ((n1:Int)==(0:Int))
 (R (0) w)
 (IfB (decide ((n1:Int)>(15:Int)))
 (R (32769) w)
 (0≤(n1:Int)∧
 R ((ishr .i64 (32768:Int) (n1:Int))) w))
theorem kraft_share.ok (n1:Int) (R:Int→World→Prop) (w:World) (h:kraft_share.E n1 R w):Cl Tryz.prog [kI] n_kraft_share ⟨[(.int .u8 n1)]⟩ w R:=
 calls_of_eq Tryz.mix Tryz.f215 [(.int .u8 n1)] [kI] R 11 [.tmp 2] (by kernel_rfl) (by kernel_rfl) (by kernel_rfl) (by kernel_rfl) (by kernel_rfl)
  (.s .o (.s (.b (.s .o (.c (.s .o .o) (.s .o (.c (.s .o .o) .o))))) (.s .o .o)))
  (by kernel_rfl) h
end Go.Proofs.YtcdpblipagajiaaGreat
namespace Go.Proofs.YtcdpblipagajiaaGreat
open Go Go.Vc
set_option maxRecDepth 100000 in
def prefixdec_New.E (l1:(Array Value)) (R:(Array Value)→Int→World→Prop) (w:World):Prop:=
 Nw 36 l1 w fun (b3:Nat) (w_2:World)=>
 Nw 145 ⟨List.replicate 258 (.int .u8 0)++ [(.int .i64 0),(.int .i64 0)]⟩ w_2 fun (b5:Nat) (w_4:World)=>
 Ld (.arr 258) (⟨b3,0,none⟩:Addr) w_4 fun (x6:(Array Value))=>
 Cl Tryz.prog [kB] n_kraft_Table ⟨[(.agg x6)]⟩ w_4 fun (r8:Bool) (w_7:World)=>
 IfB (!r8)
 (Bld Tryz.prog 145 [] fun (cs9:Array Value)=>
 StA 260 (⟨b5,0,none⟩:Addr) cs9 w_7 fun (w_10:World)=>
 Ld (.arr 260) (⟨b5,0,none⟩:Addr) w_10 fun (res11:(Array Value))=>
 R (res11) (2) w_10)
 (Ld (.arr 258) (⟨b3,0,none⟩:Addr) w_7 fun (x12:(Array Value))=>
 Bld Tryz.prog 145 [(0,(.agg x12))] fun (cs13:Array Value)=>
 StA 260 (⟨b5,0,none⟩:Addr) cs13 w_7 fun (w_14:World)=>
 Ld (.arr 260) (⟨b5,0,none⟩:Addr) w_14 fun (res15:(Array Value))=>
 R (res15) (0) w_14)
set_option maxRecDepth 100000 in
theorem prefixdec_New.ok (l1:(Array Value)) (R:(Array Value)→Int→World→Prop) (w:World) (h:prefixdec_New.E l1 R w):Cl Tryz.prog [(.arr 260),kI] n_prefixdec_New ⟨[(.agg l1)]⟩ w R:=
 calls_of_eq Tryz.mix Tryz.f101 [(.agg l1)] [(.arr 260),kI] R 10 [.cell 2 145,.tmp 3] (by kernel_rfl) (by kernel_rfl) (by kernel_rfl) (by kernel_rfl) (by kernel_rfl)
  (.s .o (.s (.s .o (.c (.s .o .o) .o)) (.s .o .o)))
  (by kernel_rfl) h
set_option maxRecDepth 100000 in
def prefixdec_Step.E (t1:(Array Value)) (bit2:Int) (R:(Array Value)→Int→Bool→World→Prop) (w:World):Prop:=
 Nw 145 t1 w fun (b4:Nat) (w_3:World)=>
 Nw 145 ⟨List.replicate 258 (.int .u8 0)++ [(.int .i64 0),(.int .i64 0)]⟩ w_3 fun (b6:Nat) (w_5:World)=>
 Join (fun (w_17:World)=>
 Ld (.arr 258) ((⟨b4,0,none⟩:Addr).add 0) w_17 fun (Lengths18:(Array Value))=>
 Ld kI ((⟨b4,0,none⟩:Addr).add 258) w_17 fun (Code19:Int)=>
 0≤(1:Int)∧
 Ld kI ((⟨b4,0,none⟩:Addr).add 259) w_17 fun (Bits20:Int)=>
 Bld Tryz.prog 145 [(0,(.agg Lengths18)),(1,(.int .i64 (ior .i64 ((ishl .i64 (Code19:Int) (1:Int)):Int) (bit2:Int)))),(2,(.int .i64 (i64 ((Bits20:Int)+(1:Int)))))] fun (cs21:Array Value)=>
 StA 260 (⟨b6,0,none⟩:Addr) cs21 w_17 fun (w_22:World)=>
 Ld (.arr 258) ((⟨b6,0,none⟩:Addr).add 0) w_22 fun (Lengths23:(Array Value))=>
 Ld kI ((⟨b6,0,none⟩:Addr).add 259) w_22 fun (Bits24:Int)=>
 Cl Tryz.prog [kI,kI] n_prefixdec_first ⟨[(.agg Lengths23),(.int .i64 Bits24)]⟩ w_22 fun (r26:Int) (r27:Int) (w_25:World)=>
 Ld kI ((⟨b6,0,none⟩:Addr).add 258) w_25 fun (Code28:Int)=>
 IfB (decide ((Code28:Int)≥((i64 ((r26:Int)+(r27:Int))):Int)))
 (Ld (.arr 260) (⟨b6,0,none⟩:Addr) w_25 fun (x29:(Array Value))=>
 StA 260 (⟨b6,0,none⟩:Addr) x29 w_25 fun (w_30:World)=>
 Ld (.arr 260) (⟨b6,0,none⟩:Addr) w_30 fun (res31:(Array Value))=>
 R (res31) (0) (false) w_30)
 (Drw w_25 fun (w_32:World)=>
 Ld (.arr 258) ((⟨b6,0,none⟩:Addr).add 0) w_32 fun (Lengths33:(Array Value))=>
 Ld kI ((⟨b6,0,none⟩:Addr).add 259) w_32 fun (Bits34:Int)=>
 Ld kI ((⟨b6,0,none⟩:Addr).add 258) w_32 fun (Code35:Int)=>
 (Ld (.arr 258) ((⟨b4,0,none⟩:Addr).add 0) w_32 fun (Lengths36:(Array Value))=>
 Bld Tryz.prog 145 [(0,(.agg Lengths36))] fun (cs37:Array Value)=>
 Cl Tryz.prog [kI] n_prefixdec_of ⟨[(.agg Lengths33),(.int .i64 Bits34),(.int .i64 (i64 ((Code35:Int) - (r26:Int))))]⟩ w_32 fun (r39:Int) (w_38:World)=>
 StA 260 (⟨b6,0,none⟩:Addr) cs37 w_38 fun (w_40:World)=>
 Ld (.arr 260) (⟨b6,0,none⟩:Addr) w_40 fun (res41:(Array Value))=>
 R (res41) (r39) (true) w_40)∧
 (Cl Tryz.prog [kI] n_prefixdec_of ⟨[(.agg Lengths33),(.int .i64 Bits34),(.int .i64 (i64 ((Code35:Int) - (r26:Int))))]⟩ w_32 fun (r43:Int) (w_42:World)=>
 Ld (.arr 258) ((⟨b4,0,none⟩:Addr).add 0) w_42 fun (Lengths44:(Array Value))=>
 Bld Tryz.prog 145 [(0,(.agg Lengths44))] fun (cs45:Array Value)=>
 StA 260 (⟨b6,0,none⟩:Addr) cs45 w_42 fun (w_46:World)=>
 Ld (.arr 260) (⟨b6,0,none⟩:Addr) w_46 fun (res47:(Array Value))=>
 R (res47) (r43) (true) w_46))) fun (K_7:World→Prop)=>
 0≤(1:Int)∧
 IfB (((ishr .i64 (bit2:Int) (1:Int)):Int) !=(0:Int))
 (Ld (.arr 260) (⟨b4,0,none⟩:Addr) w_5 fun (x8:(Array Value))=>
 StA 260 (⟨b6,0,none⟩:Addr) x8 w_5 fun (w_9:World)=>
 Ld (.arr 260) (⟨b6,0,none⟩:Addr) w_9 fun (res10:(Array Value))=>
 R (res10) (0) (false) w_9)
 (Ld (.arr 260) (⟨b4,0,none⟩:Addr) w_5 fun (x11:(Array Value))=>
 Cl Tryz.prog [kB] n_prefixdec_Valid ⟨[(.agg x11)]⟩ w_5 fun (r13:Bool) (w_12:World)=>
 IfB (!r13)
 (Ld (.arr 260) (⟨b4,0,none⟩:Addr) w_12 fun (x14:(Array Value))=>
 StA 260 (⟨b6,0,none⟩:Addr) x14 w_12 fun (w_15:World)=>
 Ld (.arr 260) (⟨b6,0,none⟩:Addr) w_15 fun (res16:(Array Value))=>
 R (res16) (0) (false) w_15)
 (K_7 w_12))
set_option maxRecDepth 100000 in
theorem prefixdec_Step.ok (t1:(Array Value)) (bit2:Int) (R:(Array Value)→Int→Bool→World→Prop) (w:World) (h:prefixdec_Step.E t1 bit2 R w):Cl Tryz.prog [(.arr 260),kI,kB] n_prefixdec_Step ⟨[(.agg t1),(.int .i64 bit2)]⟩ w R:=
 calls_of_eq Tryz.mix Tryz.f103 [(.agg t1),(.int .i64 bit2)] [(.arr 260),kI,kB] R 56 [.cell 4 145,.tmp 5,.tmp 6] (by kernel_rfl) (by kernel_rfl) (by kernel_rfl) (by kernel_rfl) (by kernel_rfl)
  (.s .o (.j [] (.s .o (.c (.s .o .o) .o)) (.s .o (.s .o (.s (.s .o (.c (.s .o .o) .o)) (.s (.b .o) .o))))))
  (by kernel_rfl) h
set_option maxRecDepth 100000 in
def prefixdec_Valid.E (t1:(Array Value)) (R:Bool→World→Prop) (w:World):Prop:=
 Nw 145 t1 w fun (b3:Nat) (w_2:World)=>
 Join (fun (w_13:World)=>
 Ld (.arr 258) ((⟨b3,0,none⟩:Addr).add 0) w_13 fun (Lengths14:(Array Value))=>
 Ld kI ((⟨b3,0,none⟩:Addr).add 259) w_13 fun (Bits15:Int)=>
 Cl Tryz.prog [kI,kI] n_prefixdec_first ⟨[(.agg Lengths14),(.int .i64 Bits15)]⟩ w_13 fun (r17:Int) (r18:Int) (w_16:World)=>
 Ld kI ((⟨b3,0,none⟩:Addr).add 258) w_16 fun (Code19:Int)=>
 R ((decide ((Code19:Int)≥((i64 ((r17:Int)+(r18:Int))):Int)))) w_16) fun (K_4:World→Prop)=>
 Ld (.arr 258) ((⟨b3,0,none⟩:Addr).add 0) w_2 fun (Lengths5:(Array Value))=>
 Cl Tryz.prog [kB] n_kraft_Table ⟨[(.agg Lengths5)]⟩ w_2 fun (r7:Bool) (w_6:World)=>
 IfB (!r7)
 (R (false) w_6)
 (Ld kI ((⟨b3,0,none⟩:Addr).add 259) w_6 fun (Bits8:Int)=>
 IfB (decide ((Bits8:Int)<(0:Int)))
 (R (false) w_6)
 (Ld kI ((⟨b3,0,none⟩:Addr).add 259) w_6 fun (Bits9:Int)=>
 IfB (decide ((Bits9:Int)≥(15:Int)))
 (R (false) w_6)
 (Ld kI ((⟨b3,0,none⟩:Addr).add 258) w_6 fun (Code10:Int)=>
 IfB (decide ((Code10:Int)<(0:Int)))
 (R (false) w_6)
 (Ld kI ((⟨b3,0,none⟩:Addr).add 258) w_6 fun (Code11:Int)=>
 Ld kI ((⟨b3,0,none⟩:Addr).add 259) w_6 fun (Bits12:Int)=>
 0≤(Bits12:Int)∧
 IfB (((ishr .i64 (Code11:Int) (Bits12:Int)):Int) !=(0:Int))
 (R (false) w_6)
 (K_4 w_6)))))
set_option maxRecDepth 100000 in
theorem prefixdec_Valid.ok (t1:(Array Value)) (R:Bool→World→Prop) (w:World) (h:prefixdec_Valid.E t1 R w):Cl Tryz.prog [kB] n_prefixdec_Valid ⟨[(.agg t1)]⟩ w R:=
 calls_of_eq Tryz.mix Tryz.f154 [(.agg t1)] [kB] R 46 [.tmp 2] (by kernel_rfl) (by kernel_rfl) (by kernel_rfl) (by kernel_rfl) (by kernel_rfl)
  (.s .o (.j [] (.s .o (.c (.s .o .o) .o)) (.s .o (.s .o .o))))
  (by kernel_rfl) h
set_option maxRecDepth 100000 in
def prefixdec_first.E (l1:(Array Value)) (bits2:Int) (R:Int→Int→World→Prop) (w:World):Prop:=
 Nw 36 l1 w fun (b4:Nat) (w_3:World)=>
 Ld (.arr 258) (⟨b4,0,none⟩:Addr) w_3 fun (x5:(Array Value))=>
 Cl Tryz.prog [(.st [.int .i64,.int .i64,.int .i64,.int .i64,.int .i64,.int .i64,.int .i64,.int .i64,.int .i64,.int .i64,.int .i64,.int .i64,.int .i64,.int .i64,.int .i64,.int .i64])] n_kraft_Counts ⟨[(.agg x5)]⟩ w_3 fun (r7:(TT [.int .i64,.int .i64,.int .i64,.int .i64,.int .i64,.int .i64,.int .i64,.int .i64,.int .i64,.int .i64,.int .i64,.int .i64,.int .i64,.int .i64,.int .i64,.int .i64])) (w_6:World)=>
 Nw 233 ⟨List.replicate 16 (.int .i64 0)⟩ w_6 fun (b9:Nat) (w_8:World)=>
 StC (⟨b9,0,none⟩:Addr) [(.int .i64 r7.1),(.int .i64 r7.2.1),(.int .i64 r7.2.2.1),(.int .i64 r7.2.2.2.1),(.int .i64 r7.2.2.2.2.1),(.int .i64 r7.2.2.2.2.2.1),(.int .i64 r7.2.2.2.2.2.2.1),(.int .i64 r7.2.2.2.2.2.2.2.1),(.int .i64 r7.2.2.2.2.2.2.2.2.1),(.int .i64 r7.2.2.2.2.2.2.2.2.2.1),(.int .i64 r7.2.2.2.2.2.2.2.2.2.2.1),(.int .i64 r7.2.2.2.2.2.2.2.2.2.2.2.1),(.int .i64 r7.2.2.2.2.2.2.2.2.2.2.2.2.1),(.int .i64 r7.2.2.2.2.2.2.2.2.2.2.2.2.2.1),(.int .i64 r7.2.2.2.2.2.2.2.2.2.2.2.2.2.2.1),(.int .i64 r7.2.2.2.2.2.2.2.2.2.2.2.2.2.2.2.1)] 0 w_8 fun (w_10:World)=>
 IdxP (⟨b9,0,none⟩:Addr) 16 0 1 fun (q11:Addr)=>
 St q11 (.int .i64 0) w_10 fun (w_12:World)=>
 ∃(I_13:Int→Int→World→Prop) (m_14:Int→Int→World→Nat),I_13 (0) (1) w_12∧
 ∀(code15:Int) (n16:Int),∀(w_17:World),I_13 code15 n16 w_17→
 IfB (decide ((n16:Int)≤(bits2:Int)))
 (IdxP (⟨b9,0,none⟩:Addr) 16 (i64 ((n16:Int) - (1:Int))) 1 fun (q18:Addr)=>
 Ld kI q18 w_17 fun (x19:Int)=>
 0≤(1:Int)∧
 I_13 ((ishl .i64 ((i64 ((code15:Int)+(x19:Int))):Int) (1:Int))) ((i64 ((n16:Int)+(1:Int)))) w_17∧m_14 ((ishl .i64 ((i64 ((code15:Int)+(x19:Int))):Int) (1:Int))) ((i64 ((n16:Int)+(1:Int)))) w_17<m_14 code15 n16 w_17)
 (Drw w_17 fun (w_20:World)=>
 IdxP (⟨b9,0,none⟩:Addr) 16 bits2 1 fun (q21:Addr)=>
 Ld kI q21 w_20 fun (x22:Int)=>
 R (code15) (x22) w_20)
set_option maxRecDepth 100000 in
theorem prefixdec_first.ok (l1:(Array Value)) (bits2:Int) (R:Int→Int→World→Prop) (w:World) (h:prefixdec_first.E l1 bits2 R w):Cl Tryz.prog [kI,kI] n_prefixdec_first ⟨[(.agg l1),(.int .i64 bits2)]⟩ w R:=
 calls_of_eq Tryz.mix Tryz.f155 [(.agg l1),(.int .i64 bits2)] [kI,kI] R 27 [.tmp 4,.tmp 5] (by kernel_rfl) (by kernel_rfl) (by kernel_rfl) (by kernel_rfl) (by kernel_rfl)
  (.s .o (.s .o (.s .o (.s (.s .o (.b (.l [(4,kI),(7,kI)] (.s (.s .o (.c .o .o)) (.s (.b .o) .o))))) (.s .o .o)))))
  (by kernel_rfl) h
def prefixdec_of.E (l1:(Array Value)) (bits2:Int) (place3:Int) (R:Int→World→Prop) (w:World):Prop:=
 Nw 36 l1 w fun (b5:Nat) (w_4:World)=>
 Ld (.arr 258) (⟨b5,0,none⟩:Addr) w_4 fun (x6:(Array Value))=>
 ∃(I_7:Int→Int→World→Prop) (m_8:Int→Int→World→Nat),I_7 (place3) (0) w_4∧
 ∀(place9:Int) (t10_10:Int),∀(w_11:World),I_7 place9 t10_10 w_11→
 IfB (decide ((t10_10:Int)<(258:Int)))
 (IdxV (.int .u8) x6 258 t10_10 fun (e12:Int)=>
 IfB (((i64 e12):Int) !=(bits2:Int))
 (I_7 (place9) ((i64 ((t10_10:Int)+(1:Int)))) w_11∧m_8 (place9) ((i64 ((t10_10:Int)+(1:Int)))) w_11<m_8 place9 t10_10 w_11)
 (IfB ((place9:Int)==(0:Int))
 (R (t10_10) w_11)
 (I_7 ((i64 ((place9:Int) - (1:Int)))) ((i64 ((t10_10:Int)+(1:Int)))) w_11∧m_8 ((i64 ((place9:Int) - (1:Int)))) ((i64 ((t10_10:Int)+(1:Int)))) w_11<m_8 place9 t10_10 w_11)))
 (R (0) w_11)
theorem prefixdec_of.ok (l1:(Array Value)) (bits2:Int) (place3:Int) (R:Int→World→Prop) (w:World) (h:prefixdec_of.E l1 bits2 place3 R w):Cl Tryz.prog [kI] n_prefixdec_of ⟨[(.agg l1),(.int .i64 bits2),(.int .i64 place3)]⟩ w R:=
 calls_of_eq Tryz.mix Tryz.f156 [(.agg l1),(.int .i64 bits2),(.int .i64 place3)] [kI] R 24 [.tmp 6] (by kernel_rfl) (by kernel_rfl) (by kernel_rfl) (by kernel_rfl) (by kernel_rfl)
  (.s .o (.s (.s .o (.b (.l [(2,kI),(10,kI)] (.s .o (.s (.c .o .o) (.s (.b (.s .o (.s (.s .o (.c .o .o)) (.s (.s .o (.c (.s .o .o) .o)) .o)))) .o)))))) (.s .o .o)))
  (by kernel_rfl) h
end Go.Proofs.YtcdpblipagajiaaGreat
set_option maxRecDepth 20000
namespace Go.Vc
open Go
abbrev Frag:=Nat→Option Obj
abbrev HP:=Frag→Prop
def Frag.emp:Frag:=fun _=>none
def Frag.one (b:Nat) (o:Obj):Frag:=fun r=>if r=b then some o else none
def Frag.add (f g:Frag):Frag:=fun r=>match f r with|some o=>some o|none=>g r
def Apart (f g:Frag):Prop:= ∀r,f r=none∨g r=none
def Blk (b:Nat) (o:Obj):HP:=fun f=>f=Frag.one b o
def Sat:List HP→HP
 | [],f=>f=Frag.emp
 |A::l,f=> ∃g h,Apart g h∧f=g.add h∧A g∧Sat l h
def SubW (f:Frag) (w:World):Prop:= ∀r o,f r=some o→w.heap[r]? =some o
structure Hp (E:World) (w:World) (l:List HP):Prop where
 os:w.os=E.os
 output:w.output=E.output
 tape:w.tape=E.tape
 frag: ∃f,SubW f w∧Sat l f
theorem Apart.comm {f g:Frag} (h:Apart f g):Apart g f:=fun r=>(h r).symm
theorem Frag.add_comm {f g:Frag} (h:Apart f g):f.add g=g.add f:=by
 funext r
 unfold Frag.add
 rcases h r with h|h
 ·rw [h];cases g r<;>rfl
 ·rw [h];cases f r<;>rfl
theorem Frag.add_assoc (f g h:Frag):(f.add g).add h=f.add (g.add h):=by
 funext r
 unfold Frag.add
 cases f r<;>rfl
theorem Frag.add_emp (f:Frag):f.add Frag.emp=f:=by
 funext r;unfold Frag.add Frag.emp;cases f r<;>rfl
theorem Frag.emp_add (f:Frag):Frag.emp.add f=f:=by
 funext r;rfl
theorem apart_add {f g h:Frag}:Apart f (g.add h)↔Apart f g∧Apart f h:=by
 constructor
 ·intro H
  refine ⟨fun r=> ?_,fun r=> ?_⟩
  ·rcases H r with h1|h1
   ·exact .inl h1
   ·right;unfold Frag.add at h1;cases hg:g r<;>simp_all
  ·rcases H r with h1|h1
   ·exact .inl h1
   ·right;unfold Frag.add at h1;cases hg:g r<;>simp_all
 ·rintro ⟨h1,h2⟩ r
  rcases h1 r with h|h
  ·exact .inl h
  ·rcases h2 r with h'|h'
   ·exact .inl h'
   ·right;simp [Frag.add,h,h']
theorem add_apart {f g h:Frag}:Apart (f.add g) h↔Apart f h∧Apart g h:=
 ⟨fun H=>let ⟨a,b⟩:=apart_add.1 H.comm;⟨a.comm,b.comm⟩,fun ⟨a,b⟩=>(apart_add.2 ⟨a.comm,b.comm⟩).comm⟩
theorem Sat.swap {A B:HP} {l:List HP} {f:Frag} (h:Sat (A::B::l) f):Sat (B::A::l) f:=by
 obtain ⟨g,h1,hd,rfl,hA,g2,h2,hd2,rfl,hB,hl⟩:=h
 obtain ⟨d1,d2⟩:=apart_add.1 hd
 refine ⟨g2,g.add h2,apart_add.2 ⟨d1.comm,hd2⟩,?_,hB,g,h2,d2,rfl,hA,hl⟩
 rw [←Frag.add_assoc,←Frag.add_assoc,Frag.add_comm d1]
theorem Sat.tail {A:HP} {l l':List HP} (h: ∀f,Sat l f→Sat l' f) {f:Frag} (hs:Sat (A::l) f):Sat (A::l') f:=by
 obtain ⟨g,k,hd,rfl,hA,hl⟩:=hs
 exact ⟨g,k,hd,rfl,hA,h _ hl⟩
theorem Sat.perm {l l':List HP} (hp:l.Perm l'): ∀f,Sat l f→Sat l' f:=by
 induction hp with
 |nil=>exact fun _ h=>h
 |cons A _ ih=>exact fun f h=>h.tail ih
 |swap A B l=>exact fun f h=>h.swap
 |trans _ _ ih1 ih2=>exact fun f h=>ih2 f (ih1 f h)
theorem Sat.append {l l':List HP} {f:Frag}:Sat (l++l') f↔∃g h,Apart g h∧f=g.add h∧Sat l g∧Sat l' h:=by
 induction l generalizing f with
 |nil=>exact ⟨fun h=>⟨Frag.emp,f,fun _=> .inl rfl,(Frag.emp_add f).symm,rfl,h⟩,fun ⟨g,h,_,e,hg,hh⟩=>by
   have:g=Frag.emp:=hg
   rw [e,this,Frag.emp_add];exact hh⟩
 |cons A l ih=>
  constructor
  ·rintro ⟨g,h,hd,rfl,hA,hs⟩
   obtain ⟨g2,h2,hd2,rfl,hs2,hs3⟩:=ih.1 hs
   obtain ⟨d1,d2⟩:=apart_add.1 hd
   exact ⟨g.add g2,h2,add_apart.2 ⟨d2,hd2⟩,(Frag.add_assoc _ _ _).symm,⟨g,g2,d1,rfl,hA,hs2⟩,hs3⟩
  ·rintro ⟨g,h,hd,rfl,⟨g2,h2,hd2,rfl,hA,hs2⟩,hs3⟩
   obtain ⟨d1,d2⟩:=add_apart.1 hd
   exact ⟨g2,h2.add h,apart_add.2 ⟨hd2,d1⟩,Frag.add_assoc _ _ _,hA,ih.2 ⟨h2,h,d2,rfl,hs2,hs3⟩⟩
section
variable {E w w':World} {A B C D G:HP} {l l' F:List HP}
theorem Hp.perm (h:Hp E w l) (hp:l.Perm l'):Hp E w l':=
 ⟨h.os,h.output,h.tape,let ⟨f,a,b⟩:=h.frag;⟨f,a,Sat.perm hp f b⟩⟩
theorem Hp.p1 (h:Hp E w (A::B::F)):Hp E w (B::A::F):=h.perm (.swap ..)
theorem Hp.p2 (h:Hp E w (A::B::C::F)):Hp E w (C::A::B::F):=h.perm ((List.Perm.cons A (.swap ..)).trans (.swap ..))
theorem Hp.p3 (h:Hp E w (A::B::C::D::F)):Hp E w (D::A::B::C::F):=
 h.perm ((List.Perm.cons A ((List.Perm.cons B (.swap ..)).trans (.swap ..))).trans (.swap ..))
theorem Hp.q2 (h:Hp E w (A::B::C::F)):Hp E w (B::C::A::F):=h.p1.perm (.cons B (.swap ..))
theorem Hp.q3 (h:Hp E w (A::B::C::D::F)):Hp E w (B::C::D::A::F):=h.q2.perm (.cons B (.cons C (.swap ..)))
theorem Hp.q4 (h:Hp E w (A::B::C::D::G::F)):Hp E w (B::C::D::G::A::F):=h.q3.perm (.cons B (.cons C (.cons D (.swap ..))))
theorem Hp.flat (h:Hp E w (Sat l::F)):Hp E w (l++F):=
 ⟨h.os,h.output,h.tape,let ⟨f,a,g,k,hd,e,h1,h2⟩:=h.frag;⟨f,a,Sat.append.2 ⟨g,k,hd,e,h1,h2⟩⟩⟩
theorem Hp.open1 {α:Sort _} {X:α→Prop} {L:α→List HP} (hA: ∀f,A f→∃x,X x∧Sat (L x) f) (h:Hp E w (A::F)): ∃x,X x∧Hp E w (L x++F):=by
 obtain ⟨f,a,g,k,hd,e,h1,h2⟩:=h.frag
 obtain ⟨x,hx,h3⟩:=hA g h1
 exact ⟨x,hx,h.os,h.output,h.tape,f,a,Sat.append.2 ⟨g,k,hd,e,h3,h2⟩⟩
theorem Hp.shut1 (hA: ∀f,Sat l f→A f) (h:Hp E w (l++F)):Hp E w (A::F):=by
 obtain ⟨f,a,h1⟩:=h.frag
 obtain ⟨g,k,hd,e,h1,h2⟩:=Sat.append.1 h1
 exact ⟨h.os,h.output,h.tape,f,a,g,k,hd,e,hA _ h1,h2⟩
theorem Hp.weak (hA: ∀f,A f→B f) (h:Hp E w (A::F)):Hp E w (B::F):=by
 obtain ⟨f,a,g,k,hd,e,h1,h2⟩:=h.frag
 exact ⟨h.os,h.output,h.tape,f,a,g,k,hd,e,hA _ h1,h2⟩
theorem Hp.drop (h:Hp E w (A::F)):Hp E w F:=by
 obtain ⟨f,a,g,k,hd,rfl,h1,h2⟩:=h.frag
 refine ⟨h.os,h.output,h.tape,k,fun r o hr=>a r o ?_,h2⟩
 rcases hd r with hg|hk
 ·simp [Frag.add,hg,hr]
 ·rw [hk] at hr;cases hr
theorem Hp.emp (h:Hp E w F) (hA:A Frag.emp):Hp E w (A::F):=by
 obtain ⟨f,a,h1⟩:=h.frag
 exact ⟨h.os,h.output,h.tape,f,a,Frag.emp,f,fun _=> .inl rfl,(Frag.emp_add f).symm,hA,h1⟩
theorem Hp.same (h:Hp E w l) (h1:w'.heap=w.heap) (h2:w'.os=w.os) (h3:w'.output=w.output) (h4:w'.tape=w.tape):Hp E w' l:=
 ⟨h2.trans h.os,h3.trans h.output,h4.trans h.tape,let ⟨f,a,b⟩:=h.frag;⟨f,fun r o hr=>by rw [h1];exact a r o hr,b⟩⟩
theorem Hp.drew {n:Nat} (h:Hp E w l):Hp E {w with drawn:=n} l:=h.same rfl rfl rfl rfl
theorem Hp.blk {b:Nat} {o:Obj} (h:Hp E w (Blk b o::F)):w.heap[b]? =some o:=by
 obtain ⟨f,a,g,k,hd,rfl,rfl,h2⟩:=h.frag
 exact a b o (by simp [Frag.add,Frag.one])
theorem Hp.cell {b i:Nat} {c:Array Value} {t:TypeId} {fr:Nat×Nat} (h:Hp E w (Blk b (.cells c t fr)::F)):w.cell? ⟨b,i,none⟩=c[i]? :=by
 simp [World.cell?,h.blk]
theorem Hp.alloc (h:Hp E w F) (o:Obj):Hp E (w.alloc o) (Blk w.heap.size o::F):=by
 obtain ⟨f,a,h1⟩:=h.frag
 have hn:f w.heap.size=none:=by
  cases hf:f w.heap.size with
  |none=>rfl
  |some o=>have:=a _ _ hf;simp at this
 refine ⟨h.os,h.output,h.tape,(Frag.one w.heap.size o).add f,fun r o' hr=> ?_,_,_,fun r=> ?_,rfl,rfl,h1⟩
 ·show (w.heap.push o)[r]? =_
  rw [Array.getElem?_push]
  by_cases hr0:r=w.heap.size
  ·subst hr0;simp [Frag.add,Frag.one] at hr;simp [hr]
  ·simp [Frag.add,Frag.one,hr0] at hr
   rw [if_neg hr0];exact a r o' hr
 ·by_cases hr0:r=w.heap.size
  ·subst hr0;exact .inr hn
  ·exact .inl (by simp [Frag.one,hr0])
theorem Hp.setObj {b:Nat} {o o':Obj} (h:Hp E w (Blk b o::F)) (h1:w'.heap=w.heap.set! b o') (h2:w'.os=w.os) (h3:w'.output=w.output) (h4:w'.tape=w.tape):Hp E w' (Blk b o'::F):=by
 have hb:=h.blk
 obtain ⟨f,a,g,k,hd,rfl,rfl,h5⟩:=h.frag
 have hk:k b=none:=by
  rcases hd b with hh|hh
  ·simp [Frag.one] at hh
  ·exact hh
 refine ⟨h2.trans h.os,h3.trans h.output,h4.trans h.tape,(Frag.one b o').add k,fun r x hr=> ?_,_,_,fun r=> ?_,rfl,rfl,h5⟩
 ·rw [h1]
  have hlt:b<w.heap.size:=by
   rcases Nat.lt_or_ge b w.heap.size with hh|hh
   ·exact hh
   ·simp [Array.getElem?_eq_none hh] at hb
  by_cases hr0:r=b
  ·subst hr0
   simp [Frag.add,Frag.one] at hr
   simp [hr,hlt]
  ·simp [Frag.add,Frag.one,hr0] at hr
   have:=a r x (by simp [Frag.add,Frag.one,hr0,hr])
   rw [Array.set!_eq_setIfInBounds,Array.getElem?_setIfInBounds_ne (Ne.symm hr0)]
   exact this
 ·by_cases hr0:r=b
  ·subst hr0;exact .inr hk
  ·exact .inl (by simp [Frag.one,hr0])
theorem Hp.setCell {b i:Nat} {c:Array Value} {t:TypeId} {fr:Nat×Nat} (h:Hp E w (Blk b (.cells c t fr)::F)) (v:Value):
  Hp E (w.setCell ⟨b,i,none⟩ v) (Blk b (.cells (c.setIfInBounds i v) t fr)::F):=by
 have hb:=h.blk
 refine h.setObj (o':= .cells (c.setIfInBounds i v) t fr) ?_ rfl rfl rfl
 apply Array.ext_getElem?
 intro r
 have hlt:b<w.heap.size:=by
  rcases Nat.lt_or_ge b w.heap.size with hh|hh
  ·exact hh
  ·simp [Array.getElem?_eq_none hh] at hb
 simp only [World.setCell,Array.getElem?_modify,Array.set!_eq_setIfInBounds,Array.getElem?_setIfInBounds]
 by_cases hr:b=r
 ·subst hr
  have hv:w.heap[b]= .cells c t fr:=by simpa [hlt] using hb
  simp [hlt,hv]
 ·simp [hr]
def Tells (F:List HP) (φ:World→Prop):Prop:= ∀w f,SubW f w→Sat F f→φ w
theorem Hp.tells {φ:World→Prop} (h:Hp E w F) (ht:Tells F φ):φ w:=let ⟨f,a,b⟩:=h.frag;ht w f a b
theorem Tells.cons {φ:World→Prop} (ht:Tells F φ):Tells (A::F) φ:=by
 rintro w f a ⟨g,k,hd,rfl,h1,h2⟩
 refine ht w k (fun r o hr=>a r o ?_) h2
 rcases hd r with hg|hk
 ·simp [Frag.add,hg,hr]
 ·rw [hk] at hr;cases hr
theorem Tells.perm {φ:World→Prop} (ht:Tells l φ) (hp:l.Perm l'):Tells l' φ:=fun w f a b=>ht w f a (Sat.perm hp.symm f b)
theorem Tells.imp {φ ψ:World→Prop} (ht:Tells F φ) (h: ∀w,φ w→ψ w):Tells F ψ:=fun w f a b=>h w (ht w f a b)
theorem Tells.and {φ ψ:World→Prop} (h1:Tells F φ) (h2:Tells F ψ):Tells F (fun w=>φ w∧ψ w):=fun w f a b=>⟨h1 w f a b,h2 w f a b⟩
theorem Tells.all {α:Sort _} {φ:α→World→Prop} (h: ∀x,Tells F (φ x)):Tells F (fun w=> ∀x,φ x w):=fun w f a b x=>h x w f a b
theorem Tells.const {p:Prop} (h:p):Tells F (fun _=>p):=fun _ _ _ _=>h
def Old (W:World):HP:=fun f=> ∀r,f r=W.heap[r]?
theorem Hp.start (W:World):Hp W W [Old W]:=
 ⟨rfl,rfl,rfl,fun r=>W.heap[r]?,fun _ _ h=>h,fun r=>W.heap[r]?,Frag.emp,fun _=> .inr rfl,(Frag.add_emp _).symm,fun _=>rfl,rfl⟩
theorem Tells.old {W:World} {φ:World→Prop} (h: ∀w,(∀r,r<W.heap.size→w.heap[r]? =W.heap[r]?)→φ w):Tells (Old W::F) φ:=by
 rintro w f a ⟨g,k,hd,rfl,h1,h2⟩
 refine h w fun r hr=> ?_
 have:g r=some W.heap[r]:=by rw [h1 r];simp [hr]
 rw [a r W.heap[r] (by simp [Frag.add,this])]
 simp [hr]
theorem Hp.below {W:World} (h:Hp W w (Old W::F)):Go.RowKit.Below W.heap.size W w:=by
 have hk:=h.tells (Tells.old (φ:=fun w=> ∀r,r<W.heap.size→w.heap[r]? =W.heap[r]?) fun w h=>h)
 refine ⟨h.os,h.tape,h.output,?_,hk⟩
 rcases Nat.lt_or_ge w.heap.size W.heap.size with hlt|hge
 ·have:=hk w.heap.size hlt
  simp [hlt] at this
 ·exact hge
end
section
variable {E w:World} {F:List HP}
theorem IfB.mk {b:Bool} {X Y:Prop} (h1:b=true→X) (h2:b=false→Y):IfB b X Y:=by
 cases b
 ·exact h2 rfl
 ·exact h1 rfl
theorem IfB.t {b:Bool} {X Y:Prop} (hb:b=true) (h:X):IfB b X Y:=by subst hb;exact h
theorem IfB.f {b:Bool} {X Y:Prop} (hb:b=false) (h:Y):IfB b X Y:=by subst hb;exact h
theorem Ld.sc {s:Sc} {p:Addr} {K:s.T→Prop} (x:s.T) (hc:w.cell? p=some (s.enc x)) (h:K x):Ld (.sc s) p w K:=
 ⟨x,fun w' hw=>by subst hw;exact hc,h⟩
theorem St.mk {p:Addr} {v:Value} {K:World→Prop} {b i:Nat} {c:Array Value} {t:TypeId} (hp:p=⟨b,i,none⟩) (hh:Hp E w (Blk b (.cells c t (0,0))::F)) (hi:i<c.size) (hv:scalarB v=true)
  (h: ∀w',Hp E w' (Blk b (.cells (c.setIfInBounds i v) t (0,0))::F)→K w'):St p v w K:=by
 subst hp
 unfold St
 rw [hv]
 refine ⟨?_,?_,h _ (hh.setCell v)⟩
 ·rw [hh.cell];simp [hi]
 ·simp [World.frozen?,hh.blk]
theorem Nw.mk {t:TypeId} {cs:Array Value} {K:Nat→World→Prop} (hh:Hp E w F) (h: ∀b w',Hp E w' (Blk b (.cells cs t (0,0))::F)→K b w'):Nw t cs w K:=h _ _ (hh.alloc _)
theorem Drw.mk {K:World→Prop} (hh:Hp E w F) (h: ∀w',Hp E w' F→K w'):Drw w K:=h _ hh.drew
theorem Cl.imp {P:Program} {ks:List Ki} {i:FuncId} {args:Array Value} {K K':FnK ks (World→Prop)} (h:Cl P ks i args w K) (hk: ∀e w',resPost ks K e w'→resPost ks K' e w'):Cl P ks i args w K':=
 Calls.mono h hk
end
end Go.Vc
set_option maxRecDepth 20000
namespace Go.Vc
open Go
theorem i64_id {x:Int} (h: -9223372036854775808≤x∧x≤9223372036854775807):i64 x=x:=IntWalk.i64_in x h
theorem u64_id {x:Int} (h:0≤x∧x≤18446744073709551615):u64 x=x:=IntWalk.u64_in x h
theorem u32_id {x:Int} (h:0≤x∧x≤4294967295):u32 x=x:=IntWalk.u32_in x h
theorem u8_mod (x:Int):u8 x=x % 256:=by
 show IntKind.wrap .u8 x=x % 256
 simp [IntKind.wrap,IntKind.bits,IntKind.signed]
theorem u8_id {x:Int} (h:0≤x∧x≤255):u8 x=x:=by rw [u8_mod];omega
theorem ofInt_nat (n a:Nat) (h:a<2^n):(BitVec.ofInt n (a:Int)).toNat=a:=by
 rw [BitVec.toNat_ofInt]
 have:((a:Int) % ((2^n:Nat):Int))=((a % 2^n:Nat):Int):=by omega
 rw [this,Int.toNat_natCast,Nat.mod_eq_of_lt h]
theorem wrap_nat {k:IntKind} {a:Nat} (h:(a:Int)≤k.max):k.wrap (a:Int)=a:=by
 cases k
 ·have:IntKind.max .i8=127:=rfl
  exact IntWalk.i8_in _ (by omega)
 ·have:IntKind.max .i16=32767:=rfl
  exact IntWalk.i16_in _ (by omega)
 ·have:IntKind.max .i32=2147483647:=rfl
  exact IntWalk.i32_in _ (by omega)
 ·have:IntKind.max .i64=9223372036854775807:=rfl
  exact IntWalk.i64_in _ (by omega)
 ·have:IntKind.max .u8=255:=rfl
  exact IntWalk.u8_in _ (by omega)
 ·have:IntKind.max .u16=65535:=rfl
  exact IntWalk.u16_in _ (by omega)
 ·have:IntKind.max .u32=4294967295:=rfl
  exact IntWalk.u32_in _ (by omega)
 ·have:IntKind.max .u64=18446744073709551615:=rfl
  exact IntWalk.u64_in _ (by omega)
theorem max_lt (k:IntKind):(k.max:Int)<2^k.bits:=by cases k<;>decide
theorem lt_bits {k:IntKind} {a:Nat} (ha:(a:Int)≤k.max):a<2^k.bits:=by
 have:=max_lt k
 have h2:(a:Int)<2^k.bits:=Int.lt_of_le_of_lt ha this
 exact_mod_cast h2
theorem ior_nat {k:IntKind} {a b:Nat} (ha:(a:Int)≤k.max) (hb:(b:Int)≤k.max) (h:((a|||b:Nat):Int)≤k.max):ior k a b=((a|||b:Nat):Int):=by
 unfold ior
 rw [BitVec.toNat_or,ofInt_nat _ _ (lt_bits ha),ofInt_nat _ _ (lt_bits hb),wrap_nat h]
theorem iand_nat {k:IntKind} {a b:Nat} (ha:(a:Int)≤k.max) (hb:(b:Int)≤k.max):iand k a b=((a&&&b:Nat):Int):=by
 unfold iand
 rw [BitVec.toNat_and,ofInt_nat _ _ (lt_bits ha),ofInt_nat _ _ (lt_bits hb),wrap_nat]
 have:=Nat.and_le_left (n:=a) (m:=b)
 omega
theorem ixor_nat {k:IntKind} {a b:Nat} (ha:(a:Int)≤k.max) (hb:(b:Int)≤k.max) (h:((a^^^b:Nat):Int)≤k.max):ixor k a b=((a^^^b:Nat):Int):=by
 unfold ixor
 rw [BitVec.toNat_xor,ofInt_nat _ _ (lt_bits ha),ofInt_nat _ _ (lt_bits hb),wrap_nat h]
theorem ishr_nat {k:IntKind} {a b:Nat} (hb:b≤k.bits):ishr k a b=((a/2^b:Nat):Int):=by
 unfold ishr
 rw [Int.toNat_natCast,Nat.min_eq_left hb,Int.fdiv_eq_ediv_of_nonneg _ (by exact_mod_cast Nat.zero_le _)]
 exact_mod_cast rfl
theorem ishl_nat {k:IntKind} {a b:Nat} (hb:b≤k.bits) (h:((a*2^b:Nat):Int)≤k.max):ishl k a b=((a*2^b:Nat):Int):=by
 unfold ishl
 rw [Int.toNat_natCast,Nat.min_eq_left hb]
 have:(a:Int)*2^b=((a*2^b:Nat):Int):=by push_cast;rfl
 rw [this,wrap_nat h]
theorem add_mk (b o n:Nat):(⟨b,o,none⟩:Addr).add n=⟨b,o+n,none⟩:=by
 unfold Addr.add
 split
 ·rename_i h;subst h;rfl
 ·rfl
theorem add_zero (p:Addr):p.add 0=p:=by simp [Addr.add]
def SlT (sz:Nat) (s:Sl) (xs:List Value) (w:World):Prop:=
 xs.length=s.len*sz∧∀i (h:i<xs.length),∃p,s.base=some p∧w.cell? (p.add i)=some xs[i]
def OwnS (sz:Nat) (s:Sl) (xs:List Value):HP:=fun f=>
 xs.length=s.len*sz∧((s.base=none∧s.len=0∧s.cap=0∧f=Frag.emp)∨
 ∃b off arr t,s.base=some ⟨b,off,none⟩∧s.len≤s.cap∧off+s.cap*sz≤arr.size∧(∀i (h:i<xs.length),arr[off+i]? =some xs[i])∧f=Frag.one b (.cells arr t (0,0)))
section
variable {E w w':World} {F:List HP} {sz:Nat} {s:Sl} {xs ys:List Value}
theorem OwnS.nil (sz:Nat):OwnS sz ⟨none,0,0⟩ [] Frag.emp:=⟨by simp,.inl ⟨rfl,rfl,rfl,rfl⟩⟩
theorem Hp.ownNil (h:Hp E w F) (sz:Nat):Hp E w (OwnS sz ⟨none,0,0⟩ []::F):=h.emp (OwnS.nil sz)
theorem Hp.ownNew {b:Nat} {arr:Array Value} {t:TypeId} {n:Nat} (h:Hp E w (Blk b (.cells arr t (0,0))::F)) (hn:arr.toList.length=n*sz):
  Hp E w (OwnS sz ⟨some ⟨b,0,none⟩,n,n⟩ arr.toList::F):=by
 refine h.weak fun f hf=>⟨hn,.inr ⟨b,0,arr,t,rfl,Nat.le_refl _,?_,?_,hf⟩⟩
 ·have:arr.size=n*sz:=by simpa using hn
  simp only [this];omega
 ·intro i hi
  have hi':i<arr.size:=by simpa using hi
  simp [hi']
theorem Hp.ownLen (h:Hp E w (OwnS sz s xs::F)):xs.length=s.len*sz:=by
 obtain ⟨f,a,g,k,hd,e,h1,h2⟩:=h.frag
 exact h1.1
theorem Hp.ownCap (h:Hp E w (OwnS sz s xs::F)):s.len≤s.cap:=by
 obtain ⟨f,a,g,k,hd,e,h1,h2⟩:=h.frag
 rcases h1.2 with ⟨h1,h2,h3,_⟩|⟨b,off,arr,t,h1,h2,_⟩
 ·omega
 ·exact h2
theorem Hp.ownOpen (h:Hp E w (OwnS sz s xs::F)):(s=⟨none,0,0⟩∧xs= []∧Hp E w F)∨
  ∃b off arr t,s.base=some ⟨b,off,none⟩∧s.len≤s.cap∧off+s.cap*sz≤arr.size∧(∀i (h:i<xs.length),arr[off+i]? =some xs[i])∧Hp E w (Blk b (.cells arr t (0,0))::F):=by
 have hl:=h.ownLen
 obtain ⟨f,a,g,k,hd,rfl,h1,h2⟩:=h.frag
 rcases h1.2 with ⟨h3,h4,h5,h6⟩|⟨b,off,arr,t,h3,h4,h5,h6,h7⟩
 ·refine .inl ⟨by cases s;simp_all,?_,h.drop⟩
  have:xs.length=0:=by rw [hl,h4];simp
  exact List.length_eq_zero_iff.1 this
 ·exact .inr ⟨b,off,arr,t,h3,h4,h5,h6,h.os,h.output,h.tape,_,a,g,k,hd,rfl,h7,h2⟩
theorem Hp.ownShut {b off:Nat} {arr:Array Value} {t:TypeId} (h:Hp E w (Blk b (.cells arr t (0,0))::F)) (hl:xs.length=s.len*sz) (h1:s.base=some ⟨b,off,none⟩) (h2:s.len≤s.cap) (h3:off+s.cap*sz≤arr.size)
  (h4: ∀i (h:i<xs.length),arr[off+i]? =some xs[i]):Hp E w (OwnS sz s xs::F):=
 h.weak fun _ hf=>⟨hl,.inr ⟨b,off,arr,t,h1,h2,h3,h4,hf⟩⟩
theorem Tells.own:Tells (OwnS sz s xs::F) (SlT sz s xs):=by
 rintro w f a ⟨g,k,hd,rfl,⟨hl,h1⟩,h2⟩
 refine ⟨hl,fun i hi=> ?_⟩
 rcases h1 with ⟨h3,h4,h5,_⟩|⟨b,off,arr,t,h3,h4,h5,h6,rfl⟩
 ·rw [hl,h4] at hi;simp at hi
 ·refine ⟨_,h3,?_⟩
  have:w.heap[b]? =some (.cells arr t (0,0)):=a b _ (by simp [Frag.add,Frag.one])
  rw [add_mk]
  simp only [World.cell?,this]
  exact h6 i hi
theorem Tells.cell {W:World} {p:Addr} {v:Value} (h:W.cell? p=some v):Tells (Old W::F) (fun w=>w.cell? p=some v):=by
 refine Tells.old fun w hw=> ?_
 have hlt:p.block<W.heap.size:=by
  unfold World.cell? at h
  rcases Nat.lt_or_ge p.block W.heap.size with hh|hh
  ·exact hh
  ·simp [Array.getElem?_eq_none hh] at h
 rw [←h]
 unfold World.cell?
 rw [hw _ hlt]
theorem Tells.slT {W:World} (h:SlT sz s xs W):Tells (Old W::F) (SlT sz s xs):=by
 intro w f a b
 refine ⟨h.1,fun i hi=> ?_⟩
 obtain ⟨p,hp,hc⟩:=h.2 i hi
 exact ⟨p,hp,(Tells.cell hc) w f a b⟩
theorem Idx.mk {i:Int} {K:Addr→Prop} {p:Addr} (hp:s.base=some p) (h0:0≤i) (h1:i<(s.len:Int)) (h:K (p.add (i.toNat*sz))):Idx s i sz K:=⟨p,hp,h0,h1,h⟩
theorem Idx.rd {i:Int} {K:Addr→Prop} (hs:SlT 1 s xs w) (h0:0≤i) (h1:i<(s.len:Int)) (h: ∀p (hi:i.toNat<xs.length),w.cell? p=some xs[i.toNat]→K p):Idx s i 1 K:=by
 have hl:i.toNat<xs.length:=by rw [hs.1];omega
 obtain ⟨p,hp,hc⟩:=hs.2 _ hl
 exact ⟨p,hp,h0,h1,h _ hl (by simpa using hc)⟩
theorem Idx.rdn {i:Int} {K:Addr→Prop} (hs:SlT sz s xs w) (hz:0<sz) (h0:0≤i) (h1:i<(s.len:Int)) (h: ∀p,(∀j (hj:i.toNat*sz+j<xs.length),j<sz→w.cell? (p.add j)=some xs[i.toNat*sz+j])→K p):Idx s i sz K:=by
 have hlt:i.toNat<s.len:=by omega
 have hmul:i.toNat*sz+sz≤s.len*sz:=by
  have:(i.toNat+1)*sz≤s.len*sz:=Nat.mul_le_mul_right _ hlt
  rw [Nat.succ_mul] at this;exact this
 obtain ⟨p,hp,_⟩:=hs.2 (i.toNat*sz) (by rw [hs.1];omega)
 refine ⟨p,hp,h0,h1,h _ fun j hj hjs=> ?_⟩
 obtain ⟨q,hq,hc⟩:=hs.2 (i.toNat*sz+j) hj
 have:q=p:=Option.some.inj (hq.symm.trans hp)
 subst this
 rw [←hc]
 congr 1
 unfold Addr.add
 by_cases e1:i.toNat*sz=0<;>by_cases e2:j=0<;>simp [e1,e2,Nat.add_assoc]
theorem Hp.setRow {b off:Nat} {t:TypeId}: ∀(vs:List Value) (i:Nat) (w:World) (arr:Array Value),Hp E w (Blk b (.cells arr t (0,0))::F)→off+i+vs.length≤arr.size→
  ∃arr':Array Value,arr'.size=arr.size∧(∀j (h:j<vs.length),arr'[off+i+j]? =some vs[j])∧(∀j,j<off+i→arr'[j]? =arr[j]?)∧
   Hp E (StA.setRow w ⟨b,off,none⟩ vs i) (Blk b (.cells arr' t (0,0))::F)
 | [],i,w,arr,h,_=>⟨arr,rfl,fun j h=>by simp at h,fun _ _=>rfl,h⟩
 |v::vs,i,w,arr,h,hl=>by
  simp only [List.length_cons] at hl
  have h1:=h.setCell (i:=off+i) v
  have hsz:off+(i+1)+vs.length≤(arr.setIfInBounds (off+i) v).size:=by rw [Array.size_setIfInBounds];omega
  obtain ⟨arr',e1,e2,e3,h2⟩:=Hp.setRow (b:=b) (off:=off) (t:=t) vs (i+1) _ (arr.setIfInBounds (off+i) v) h1 hsz
  refine ⟨arr',by simpa using e1,fun j hj=> ?_,fun j hj=> ?_,?_⟩
  ·cases j with
   |zero=>
    rw [Nat.add_zero,e3 _ (by omega)]
    simp [show off+i<arr.size by omega]
   |succ j=>
    have:=e2 j (by simp at hj;omega)
    rw [show off+i+(j+1)=off+(i+1)+j by omega]
    simpa using this
  ·rw [e3 _ (by omega),Array.getElem?_setIfInBounds_ne (by omega)]
  ·rw [StA.setRow,add_mk];exact h2
theorem run_row {P:Program} {b off:Nat} {arr:Array Value} {t:TypeId} (h:Hp E w (Blk b (.cells arr t (0,0))::F)) (vs:List Value) (i:Nat) (hl:off+i+vs.length≤arr.size) (hv: ∀v∈vs,scalarB v=true):
  (storeCells ⟨b,off,none⟩ vs i).run P w= .ok () (StA.setRow w ⟨b,off,none⟩ vs i):=by
 refine run_setRow vs i w fun j hj=>⟨hv _ (List.getElem_mem hj),?_,?_⟩
 ·rw [add_mk,h.cell];simp;omega
 ·rw [add_mk];simp [World.frozen?,h.blk]
theorem grow_le: ∀(r c n:Nat),c≤2*n+1024→Builtin.growBy n r c≤2*n+1024
 |0,c,n,h=>h
 |r+1,c,n,h=>by
  unfold Builtin.growBy
  split
  ·exact h
  ·exact grow_le r _ n (by omega)
theorem next_le {n c:Nat} (h:c<n):Builtin.nextslicecap n c≤2*n+1024:=by
 unfold Builtin.nextslicecap
 split
 ·omega
 ·split
  ·omega
  ·exact grow_le 4 c n (by omega)
structure ElemT (P:Program) (t e:TypeId) (sz bytes:Nat):Prop where
 und:P.underlying t=some (.slice e)
 info: ∃it z,P.info? e=some it∧it.size=sz∧it.bytes=bytes∧it.zero=some z∧z.cells.size=sz
def elemB (P:Program) (e:TypeId) (sz bytes:Nat):Bool:=
 match P.info? e with
 |some it=>it.size==sz&&it.bytes==bytes&&(match it.zero with|some z=>z.cells.size==sz|none=>false)
 |none=>false
theorem ElemT.of {P:Program} {t e:TypeId} {sz bytes:Nat} (h1:P.underlying t=some (.slice e)) (h2:elemB P e sz bytes=true):ElemT P t e sz bytes:=by
 refine ⟨h1,?_⟩
 unfold elemB at h2
 split at h2
 ·rename_i it hi
  simp only [Bool.and_eq_true,beq_iff_eq] at h2
  obtain ⟨⟨h2,h3⟩,h4⟩:=h2
  split at h4
  ·rename_i z hz
   exact ⟨it,z,hi,h2,h3,hz,by simpa using h4⟩
  ·simp at h4
 ·simp at h2
theorem run_cells {P:Program} {vs:List Value} {p:Addr} (h: ∀i (hi:i<vs.length),w.cell? (p.add i)=some vs[i]):(loadCells p vs.length).run P w= .ok vs.toArray w:=by
 have:=loadCellsFrom_run (P:=P) (w:=w) (a:=p) vs 0 #[] (fun j hj=>by simpa using h j hj)
 simpa [loadCells] using this
def Src (sz n:Nat) (x:Value) (ys:List Value) (w:World):Prop:=
 (∃b l c,x= .slice b l c∧n=l∧SlT sz ⟨b,l,c⟩ ys w)∨(∃s:ByteArray,x= .string s∧n=s.size∧ys=s.data.toList.map fun b=> .int .u8 b.toNat)
theorem Src.run {P:Program} {n:Nat} {x:Value} (h:Src sz n x ys w):(Builtin.firstCells sz n x).run P w= .ok ys.toArray w∧(Builtin.lenOf x).run P w= .ok n w:=by
 rcases h with ⟨b,l,c,rfl,rfl,hl,hc⟩|⟨s,rfl,rfl,rfl⟩
 ·refine ⟨?_,rfl⟩
  simp only at hl
  cases b with
  |none=>
   cases ys with
   |nil=>rfl
   |cons y ys=>obtain ⟨p,hp,_⟩:=hc 0 (by simp);cases hp
  |some p=>
   show (loadCells p (n*sz)).run P w=_
   rw [←hl]
   exact run_cells fun i hi=>by obtain ⟨q,hq,hc⟩:=hc i hi;cases hq;exact hc
 ·refine ⟨?_,rfl⟩
  show Result.ok ((s.extract 0 s.size).data.map fun b=>Value.int .u8 b.toNat) w=_
  congr 1
  have:s.extract 0 s.size=s:=by simp
  rw [this]
  apply Array.ext'
  simp
theorem Src.len {n:Nat} {x:Value} (h:Src 1 n x ys w):ys.length=n:=by
 rcases h with ⟨b,l,c,rfl,rfl,hl,hc⟩|⟨s,rfl,rfl,rfl⟩
 ·simpa using hl
 ·simp
theorem zeroCells_size (z:Array Value) (n:Nat):(Builtin.zeroCells z n).size=n*z.size:=by simp [Builtin.zeroCells]
theorem run_appendK {P:Program} {t tx ty e:TypeId} {bytes n:Nat} {x:Value} {K:Sl→World→Prop} (he:ElemT P t e sz bytes) (_:0<sz) (hx:(∃e2,P.underlying tx=some (.slice e2))∨P.underlying tx=some .string)
  (hh:Hp E w (OwnS sz s xs::F)) (hs:Src sz n x ys w) (hyl:ys.length=n*sz) (hys: ∀y∈ys,scalarB y=true) (hb:(2*(s.len+n)+1024)*bytes≤2^48) (hb2:s.len+n<2^62)
  (h: ∀s' w',Hp E w' (OwnS sz s' (xs++ys)::F)→s'.len=s.len+n→SlT sz s xs w'→K s' w'):Run P (Builtin.append_ #[t,tx] ty ⟨[.slice s.base s.len s.cap,x]⟩) kS w K:=by
 obtain ⟨it,z,hi,hsz,hby,hze,hzs⟩:=he.info
 obtain ⟨hs1,hs2⟩:=hs.run (P:=P)
 have hlen:=hh.ownLen
 have hcap:=hh.ownCap
 have hso:(sizeOf e).run P w= .ok sz w:=by rw [run_size hi,hsz]
 have step: ∀v w',(Builtin.append_ #[t,tx] ty ⟨[.slice s.base s.len s.cap,x]⟩).run P w= .ok v w'→(∃s':Sl,v= .slice s'.base s'.len s'.cap∧Hp E w' (OwnS sz s' (xs++ys)::F)∧s'.len=s.len+n∧SlT sz s xs w')→
   Run P (Builtin.append_ #[t,tx] ty ⟨[.slice s.base s.len s.cap,x]⟩) kS w K:=by
  rintro v w' h1 ⟨s',rfl,h2,h3,h4⟩
  unfold Run
  rw [h1]
  exact h s' w' h2 h3 h4
 have hlen2:(xs++ys).length=(s.len+n)*sz:=by rw [List.length_append,hlen,hyl,Nat.add_mul]
 by_cases hfit:s.len+n≤s.cap
 ·rcases hh.ownOpen with ⟨rfl,rfl,hF⟩|⟨b,off,arr,tt,h1,h2,h3,h4,hB⟩
  ·have hn0:n=0:=by simp at hfit;exact hfit
   subst hn0
   have hy0:ys= []:=by simpa using hyl
   subst hy0
   refine step (.slice none 0 0) w ?_ ⟨⟨none,0,0⟩,rfl,hh,rfl,hh.tells Tells.own⟩
   rcases hx with ⟨e2,hd⟩|hd<;>simp [Builtin.append_,run_underlying he.und,hso,run_underlying hd,hs1,hs2]
  ·have hmul:(s.len+n)*sz≤s.cap*sz:=Nat.mul_le_mul_right _ hfit
   rw [Nat.add_mul] at hmul
   have hlr:off+s.len*sz+ys.length≤arr.size:=by omega
   obtain ⟨arr',e1,e2,e3,hB'⟩:=Hp.setRow (off:=off) ys (s.len*sz) w arr hB (by omega)
   have hrow:=run_row (P:=P) (off:=off+s.len*sz) hB ys 0 (by omega) hys
   have hro2:StA.setRow w ⟨b,off+s.len*sz,none⟩ ys 0=StA.setRow w ⟨b,off,none⟩ ys (s.len*sz):=by
    have key: ∀(vs:List Value) (w:World) (i:Nat),StA.setRow w ⟨b,off+s.len*sz,none⟩ vs i=StA.setRow w ⟨b,off,none⟩ vs (s.len*sz+i):=by
     intro vs
     induction vs with
     |nil=>intro w i;rfl
     |cons v vs ih=>intro w i;simp only [StA.setRow,ih,add_mk,Nat.add_assoc]
    simpa using key ys w 0
   refine step (.slice s.base (s.len+n) s.cap) (StA.setRow w ⟨b,off,none⟩ ys (s.len*sz)) ?_ ⟨⟨s.base,s.len+n,s.cap⟩,rfl,?_,rfl,⟨hlen,fun i hi=>⟨_,h1,by rw [add_mk,hB'.cell,e3 _ (by omega)];exact h4 i hi⟩⟩⟩
   ·rw [hro2] at hrow
    rcases hx with ⟨e2,hd⟩|hd<;>simp [Builtin.append_,run_underlying he.und,hso,run_underlying hd,hs1,hs2,hfit,h1,add_mk,hrow]
   ·refine Hp.ownShut hB' hlen2 h1 hfit (by simp only;omega) fun i hi=> ?_
    by_cases hi2:i<xs.length
    ·rw [e3 _ (by omega),List.getElem_append_left hi2];exact h4 i hi2
    ·rw [List.getElem_append_right (by omega)]
     have:=e2 (i - xs.length) (by simp at hi;omega)
     rw [←this]
     congr 1
     omega
 ·have hnext: ¬Builtin.nextslicecap (s.len+n) s.cap*it.bytes>2^48:=by
   have:=next_le (n:=s.len+n) (c:=s.cap) (by omega)
   have h2:Builtin.nextslicecap (s.len+n) s.cap*it.bytes≤(2*(s.len+n)+1024)*bytes:=by rw [hby];exact Nat.mul_le_mul_right _ this
   omega
  have hmax: ¬((s.len+n:Nat):Int)>IntKind.i64.max:=by
   have:IntKind.i64.max=9223372036854775807:=rfl
   rw [this];omega
  have hold:(Builtin.firstCells sz s.len (.slice s.base s.len s.cap)).run P w= .ok xs.toArray w:=by
   have:Src sz s.len (.slice s.base s.len s.cap) xs w:= .inl ⟨s.base,s.len,s.cap,rfl,rfl,hh.tells Tells.own⟩
   exact (this.run (P:=P)).1
  generalize hq:Question.cut (.appendCap (s.len+n) s.cap e) (w.tape w.drawn (.appendCap (s.len+n) s.cap e))=newCap
  have hnc:s.len+n≤newCap:=by rw [←hq];exact Nat.le_add_right _ _
  have hF:Hp E w F:=hh.drop
  have hD:Hp E w.drew F:=hF.drew (n:=w.drawn+1)
  have hold':(Builtin.firstCells sz s.len (.slice s.base s.len s.cap)).run P w.drew= .ok xs.toArray w.drew:=by
   have:Src sz s.len (.slice s.base s.len s.cap) xs w.drew:= .inl ⟨s.base,s.len,s.cap,rfl,rfl,(hh.drew (n:=w.drawn+1)).tells Tells.own⟩
   exact (this.run (P:=P)).1
  have hs1':(Builtin.firstCells sz n x).run P w.drew= .ok ys.toArray w.drew:=(Src.run (P:=P) (w:=w.drew) hs).1
  have hA:=hD.alloc (.cells (xs.toArray++ys.toArray++Builtin.zeroCells z.cells (newCap - (s.len+n))) e)
  refine step (.slice (some ⟨w.heap.size,0,none⟩) (s.len+n) newCap) _ ?_ ⟨⟨some ⟨w.heap.size,0,none⟩,s.len+n,newCap⟩,rfl,Hp.ownShut hA hlen2 rfl hnc ?_ ?_,rfl,((hh.drew (n:=w.drawn+1)).alloc (.cells (xs.toArray++ys.toArray++Builtin.zeroCells z.cells (newCap - (s.len+n))) e)).tells (Tells.cons Tells.own)⟩
  ·have hz': ∀w:World,(zeroValue e).run P w= .ok z w:=by intro w;simp [zeroValue,typeInfo,hi,hze]
   have hti: ∀w:World,(typeInfo e).run P w= .ok it w:=by intro w;simp [typeInfo,hi]
   have hmax': ¬(9223372036854775807<(s.len:Int)+(n:Int)∧it.bytes=0):=by omega
   have hfo:Question.forced (.appendCap (s.len+n) s.cap e)=false:=rfl
   rcases hx with ⟨e2,hd⟩|hd<;>simp [Builtin.append_,run_underlying he.und,hso,run_underlying hd,hs2,hfit,hmax',hti,hnext,hfo,hq,hold',hs1',hz',newRow]
   all_goals rw [←Array.append_assoc,show xs.toArray++ys.toArray=(xs++ys).toArray by simp]
  ·simp only [Array.size_append,List.size_toArray,zeroCells_size,hzs,hlen,hyl]
   have:newCap*sz=(s.len+n)*sz+(newCap - (s.len+n))*sz:=by rw [←Nat.add_mul];congr 1;omega
   rw [this,Nat.add_mul];omega
  ·intro i hi
   have h1:i<(xs.toArray++ys.toArray).size:=by simpa using hi
   rw [Nat.zero_add,Array.getElem?_append_left h1]
   have:(xs.toArray++ys.toArray)=(xs++ys).toArray:=by simp
   rw [this]
   simp only [List.getElem?_toArray]
   exact List.getElem?_eq_getElem hi
theorem run_append {P:Program} {t tx ty e:TypeId} {bytes n:Nat} {x:Value} {K:Sl→World→Prop} (he:ElemT P t e sz bytes) (hz:0<sz) (hx:(∃e2,P.underlying tx=some (.slice e2))∨P.underlying tx=some .string)
  (hh:Hp E w (OwnS sz s xs::F)) (hs:Src sz n x ys w) (hyl:ys.length=n*sz) (hys: ∀y∈ys,scalarB y=true) (hb:(2*(s.len+n)+1024)*bytes≤2^48) (hb2:s.len+n<2^62)
  (h: ∀s' w',Hp E w' (OwnS sz s' (xs++ys)::F)→s'.len=s.len+n→K s' w'):Run P (Builtin.append_ #[t,tx] ty ⟨[.slice s.base s.len s.cap,x]⟩) kS w K:=
 run_appendK he hz hx hh hs hyl hys hb hb2 fun s' w' h1 h2 _=>h s' w' h1 h2
end
theorem ClV.mk {P:Program} {i:FuncId} {first captured:Array Value} {ks:List Ki} {args:List Value} {w:World} {K:FnK ks (World→Prop)} (ok:okCall P i=true) (h:Cl P ks i ⟨first.toList++args++captured.toList⟩ w K):
  ClV P (.func (.func i) first captured) ks args w K:=by
 show onB _ _
 rw [ok];exact h
theorem ClX.mk {P:Program} {i:FuncId} {first captured:Array Value} {ks:List Ki} {args:List Value} {w:World} {K:FnK ks (World→Prop)} (ok:okCall P i=true) (h:Cl P ks i ⟨first.toList++args++captured.toList⟩ w K):
  ClX P (.func (.func i) first captured) ks args w K:=by
 unfold ClX
 simp only [ok]
 exact h
theorem IfB_t {X Y:Prop}:IfB true X Y=X:=rfl
theorem IfB_f {X Y:Prop}:IfB false X Y=Y:=rfl
theorem NilCk_some {p:Addr} {K:Addr→Prop}:NilCk (some p) K=K p:=rfl
theorem Join_eq {α:Type} (r:α) (k:α→Prop):Join r k=k r:=rfl
section
variable {E w:World} {F:List HP}
theorem Ld.blk {s:Sc} {b i:Nat} {c:Array Value} {t:TypeId} {fr:Nat×Nat} {K:s.T→Prop} (h:Hp E w (Blk b (.cells c t fr)::F)) (x:s.T) (hx:c[i]? =some (s.enc x)) (hk:K x):Ld (.sc s) ⟨b,i,none⟩ w K:=
 Ld.sc x (by rw [h.cell];exact hx) hk
theorem St.blk {v:Value} {K:World→Prop} {b i:Nat} {c:Array Value} {t:TypeId} (hh:Hp E w (Blk b (.cells c t (0,0))::F)) (hi:i<c.size) (hv:scalarB v=true)
  (h: ∀w',Hp E w' (Blk b (.cells (c.setIfInBounds i v) t (0,0))::F)→K w'):St ⟨b,i,none⟩ v w K:=St.mk rfl hh hi hv h
end
def big:Nat:=1099511627776
theorem big_eq:big=1099511627776:=rfl
def vB (x:Nat):Value:= .int .u8 (x:Int)
def vI (x:Int):Value:= .int .i64 x
theorem vB_scalar {xs:List Nat}: ∀y∈xs.map vB,scalarB y=true:=by
 intro y hy
 obtain ⟨x,_,rfl⟩:=List.mem_map.1 hy
 rfl
theorem vI_scalar {xs:List Int}: ∀y∈xs.map vI,scalarB y=true:=by
 intro y hy
 obtain ⟨x,_,rfl⟩:=List.mem_map.1 hy
 rfl
theorem St.ownN {E w:World} {F:List HP} {sz j:Nat} {s:Sl} {xs:List Value} {i:Int} {v:Value} {K:World→Prop} (hh:Hp E w (OwnS sz s xs::F)) (hj:j<sz) (h0:0≤i) (h1:i<(s.len:Int)) (hv:scalarB v=true)
  (h: ∀w',Hp E w' (OwnS sz s (xs.set (i.toNat*sz+j) v)::F)→K w'):Idx s i sz (fun q=>St (q.add j) v w K):=by
 have hl:=hh.ownLen
 have hlt:i.toNat<s.len:=by omega
 have hmul:i.toNat*sz+sz≤s.len*sz:=by
  have:(i.toNat+1)*sz≤s.len*sz:=Nat.mul_le_mul_right _ hlt
  rw [Nat.succ_mul] at this;exact this
 rcases hh.ownOpen with ⟨rfl,rfl,hF⟩|⟨b,off,arr,t,e1,e2,e3,e4,hB⟩
 ·simp at hlt
 ·have hcm:s.len*sz≤s.cap*sz:=Nat.mul_le_mul_right _ e2
  refine ⟨_,e1,h0,h1,?_⟩
  rw [add_mk]
  show St (Addr.add _ j) v w K
  rw [add_mk]
  refine St.mk rfl hB (by omega) hv fun w' h'=>h _ ?_
  refine h'.ownShut (by simpa using hl) e1 e2 (by simpa using e3) fun r hr=> ?_
  rw [List.length_set] at hr
  rw [Array.getElem?_setIfInBounds,List.getElem_set]
  by_cases hq:i.toNat*sz+j=r
  ·rw [if_pos (by omega),if_pos (by omega),if_pos hq]
  ·rw [if_neg (by omega),if_neg hq];exact e4 r hr
theorem St.own {E w:World} {F:List HP} {s:Sl} {xs:List Value} {i:Int} {v:Value} {K:World→Prop} (hh:Hp E w (OwnS 1 s xs::F)) (h0:0≤i) (h1:i<(s.len:Int)) (hv:scalarB v=true)
  (h: ∀w',Hp E w' (OwnS 1 s (xs.set i.toNat v)::F)→K w'):Idx s i 1 (fun q=>St q v w K):=by
 have:=St.ownN (sz:=1) (j:=0) (K:=K) hh (by decide) h0 h1 hv (by simpa using h)
 simpa only [add_zero] using this
theorem Tells.blk {F:List HP} {b n m sz:Nat} {arr:Array Value} {xs:List Value} {t:TypeId} {fr:Nat×Nat} (hx:arr.toList=xs) (hl:xs.length=n*sz):Tells (Blk b (.cells arr t fr)::F) (SlT sz ⟨some ⟨b,0,none⟩,n,m⟩ xs):=by
 subst hx
 rintro w f a ⟨g,k,hd,rfl,rfl,h2⟩
 refine ⟨hl,fun i hi=>⟨_,rfl,?_⟩⟩
 have:w.heap[b]? =some (.cells arr t fr):=a b _ (by simp [Frag.add,Frag.one])
 rw [add_mk]
 simp only [World.cell?,this,Nat.zero_add]
 have hi':i<arr.size:=by simpa using hi
 simp [hi']
theorem Tells.nil {F:List HP} {sz:Nat}:Tells F (SlT sz ⟨none,0,0⟩ []):=fun _ _ _ _=>⟨by simp,fun i hi=>by simp at hi⟩
theorem Idx.rdT {E w:World} {F:List HP} {sz:Nat} {s:Sl} {xs:List Value} {i:Int} {K:Addr→Prop} (hh:Hp E w F) (hs:Tells F (SlT sz s xs)) (hz:0<sz) (h0:0≤i) (h1:i<(s.len:Int))
  (h: ∀p,(∀j,j<sz→Tells F (fun w=>w.cell? (p.add j)=xs[i.toNat*sz+j]?))→K p):Idx s i sz K:=by
 have hs1:=hh.tells hs
 have hlt:i.toNat<s.len:=by omega
 have hmul:i.toNat*sz+sz≤s.len*sz:=by
  have:(i.toNat+1)*sz≤s.len*sz:=Nat.mul_le_mul_right _ hlt
  rw [Nat.succ_mul] at this;exact this
 have hx:xs.length=s.len*sz:=hs1.1
 obtain ⟨p,hp,_⟩:=hs1.2 (i.toNat*sz) (by omega)
 refine ⟨p,hp,h0,h1,h _ fun j hj=>hs.imp fun w' hs'=> ?_⟩
 obtain ⟨q,hq,hc⟩:=hs'.2 (i.toNat*sz+j) (by omega)
 have:q=p:=Option.some.inj (hq.symm.trans hp)
 subst this
 rw [List.getElem?_eq_getElem (by omega),←hc]
 congr 1
 unfold Addr.add
 by_cases e1:i.toNat*sz=0<;>by_cases e2:j=0<;>simp [e1,e2,Nat.add_assoc]
theorem Slc.own {E w:World} {F:List HP} {s:Sl} {xs:List Value} {lo hi:Int} {K:Sl→Prop} (hh:Hp E w (OwnS 1 s xs::F)) (h0:0≤lo) (h1:lo≤hi) (h2:hi≤(s.len:Int))
  (h: ∀s':Sl,Hp E w (OwnS 1 s' ((xs.drop lo.toNat).take (hi.toNat - lo.toNat))::F)→s'.len=hi.toNat - lo.toNat→K s'):Slc s lo hi s.cap 1 K:=by
 have hl:=hh.ownLen
 have hc:=hh.ownCap
 refine ⟨h0,h1,by omega,by omega,h _ ?_ rfl⟩
 rcases hh.ownOpen with ⟨rfl,rfl,hF⟩|⟨b,off,arr,t,e1,e2,e3,e4,hB⟩
 ·simp only at h2
  have e1:lo.toNat=0:=by omega
  have e2:hi.toNat=0:=by omega
  simpa [e1,e2] using hh
 ·have key:(if (s.cap:Int).toNat=lo.toNat then s.base else s.base.map (·.add (lo.toNat*1)))=if s.cap=lo.toNat then s.base else some ⟨b,off+lo.toNat,none⟩:=by
   rw [Int.toNat_natCast,e1]
   simp only [Option.map_some,add_mk,Nat.mul_one]
  rw [key,Int.toNat_natCast]
  have hlen:((xs.drop lo.toNat).take (hi.toNat - lo.toNat)).length=(hi.toNat - lo.toNat)*1:=by simp [hl];omega
  by_cases hcl:s.cap=lo.toNat
  ·rw [if_pos hcl]
   refine hB.ownShut hlen e1 (by simp only;omega) (by simp only;omega) fun i hi'=> ?_
   rw [hlen] at hi';omega
  ·rw [if_neg hcl]
   refine hB.ownShut hlen rfl (by simp only;omega) (by simp only;omega) fun i hi'=> ?_
   have hi2:lo.toNat+i<xs.length:=by rw [hlen] at hi';omega
   rw [Nat.add_assoc,e4 _ hi2]
   simp
theorem Slc.rd {w:World} {s:Sl} {xs:List Value} {lo hi mx:Int} {K:Sl→Prop} (hs:SlT 1 s xs w) (h0:0≤lo) (h1:lo≤hi) (h2:hi≤(s.len:Int)) (h3:hi≤mx) (h4:mx≤(s.cap:Int))
  (h: ∀s':Sl,(∀w',SlT 1 s xs w'→SlT 1 s' ((xs.drop lo.toNat).take (hi.toNat - lo.toNat)) w')→s'.len=hi.toNat - lo.toNat→K s'):Slc s lo hi mx 1 K:=by
 have hl:=hs.1
 refine ⟨h0,h1,h3,h4,h _ (fun w' hs'=> ?_) rfl⟩
 have hlen:((xs.drop lo.toNat).take (hi.toNat - lo.toNat)).length=(hi.toNat - lo.toNat)*1:=by simp [hl];omega
 refine ⟨hlen,fun i hi'=> ?_⟩
 have hi2:lo.toNat+i<xs.length:=by rw [hlen] at hi';omega
 obtain ⟨p,hp,hcell⟩:=hs'.2 _ hi2
 have hne:mx.toNat≠lo.toNat:=by rw [hlen] at hi';omega
 refine ⟨p.add lo.toNat,by simp [hne,hp],?_⟩
 have:(p.add lo.toNat).add i=p.add (lo.toNat+i):=by
  unfold Addr.add
  by_cases e1:lo.toNat=0<;>by_cases e2:i=0<;>simp [e1,e2,Nat.add_assoc]
 rw [this,hcell]
 simp
end Go.Vc
set_option maxRecDepth 20000
namespace Go.Vc
open Go
section
variable {E w:World} {F:List HP}
theorem Ld.arr {b n:Nat} {cs:Array Value} {t:TypeId} {fr:Nat×Nat} {K:Array Value→Prop} (h:Hp E w (Blk b (.cells cs t fr)::F)) (hn:cs.size=n) (hK:K cs):Ld (.arr n) ⟨b,0,none⟩ w K:=by
 refine ⟨cs,hn,fun w' hw i hi=> ?_,hK⟩
 subst hw
 rw [add_mk,h.cell,Nat.zero_add]
 simp [hn,hi]
theorem StA.blk {b n:Nat} {c0 cs:Array Value} {t:TypeId} {K:World→Prop} (h:Hp E w (Blk b (.cells c0 t (0,0))::F)) (h0:c0.size=n) (hn:cs.size=n) (hs: ∀v∈cs.toList,scalarB v=true)
  (hK: ∀w',Hp E w' (Blk b (.cells cs t (0,0))::F)→K w'):StA n ⟨b,0,none⟩ cs w K:=by
 refine ⟨hn,fun i hi=>⟨?_,?_,?_⟩,?_⟩
 ·have:cs.getD i undef∈cs.toList:=by simp [hn,hi]
  exact hs _ this
 ·rw [add_mk,h.cell];simp [h0,hi]
 ·rw [add_mk];simp [World.frozen?,h.blk]
 ·obtain ⟨arr',e1,e2,e3,h'⟩:=Hp.setRow (b:=b) (off:=0) cs.toList 0 w c0 h (by simp;omega)
  have:arr'=cs:=by
   apply Array.ext
   ·omega
   ·intro i hi1 hi2
    have:=e2 i (by simpa using hi2)
    rw [show 0+0+i=i by omega,Array.getElem?_eq_getElem hi1] at this
    simpa using this
  subst this
  exact hK _ h'
theorem IdxP.rd {b n:Nat} {cs:Array Value} {t:TypeId} {fr:Nat×Nat} {i:Int} {s:Sc} {K:s.T→Prop} (h:Hp E w (Blk b (.cells cs t fr)::F)) (h0:0≤i) (h1:i<(n:Int)) (x:s.T) (hx:cs[i.toNat]? =some (s.enc x)) (hK:K x):
  IdxP ⟨b,0,none⟩ n i 1 fun q=>Ld (.sc s) q w K:=by
 refine ⟨h0,h1,?_⟩
 rw [add_mk]
 exact Ld.blk h x (by simpa using hx) hK
theorem IdxP.wr {b n:Nat} {cs:Array Value} {t:TypeId} {i:Int} {v:Value} {K:World→Prop} (h:Hp E w (Blk b (.cells cs t (0,0))::F)) (h0:0≤i) (h1:i<(n:Int)) (hn:cs.size=n) (hv:scalarB v=true)
  (hK: ∀w',Hp E w' (Blk b (.cells (cs.setIfInBounds i.toNat v) t (0,0))::F)→K w'):IdxP ⟨b,0,none⟩ n i 1 fun q=>St q v w K:=by
 refine ⟨h0,h1,?_⟩
 rw [add_mk]
 exact St.blk h (by omega) hv (by simpa using hK)
theorem IdxV.rd {s:Sc} {cs:Array Value} {n:Nat} {i:Int} {K:s.T→Prop} (h0:0≤i) (h1:i<(n:Int)) (x:s.T) (hx:cs[i.toNat]? =some (s.enc x)) (hK:K x):IdxV s cs n i K:=⟨h0,h1,x,hx,hK⟩
end
def ai (k:IntKind) (l:List Nat):Array Value:=⟨l.map fun (n:Nat)=> .int k (n:Int)⟩
theorem ai_size {k:IntKind} {l:List Nat}:(ai k l).size=l.length:=by simp [ai]
theorem ai_get {k:IntKind} {l:List Nat} {i:Nat} (h:i<l.length):(ai k l)[i]? =some (Sc.enc (.int k) (l[i]:Int)):=by simp [ai,h]
theorem ai_scalar {k:IntKind} {l:List Nat}: ∀v∈(ai k l).toList,scalarB v=true:=by
 intro v hv
 simp only [ai,List.mem_map] at hv
 obtain ⟨x,_,rfl⟩:=hv
 rfl
theorem ai_set {k:IntKind} {l:List Nat} {i x:Nat}:(ai k l).setIfInBounds i (.int k (x:Int))=ai k (l.set i x):=by
 unfold ai
 apply Array.ext'
 simp [List.map_set]
theorem ai_zero {k:IntKind} {n:Nat}:(⟨List.replicate n (.int k 0)⟩:Array Value)=ai k (List.replicate n 0):=by
 unfold ai;simp
theorem EqA.mk {k:IntKind} {n:Nat} {a b:List Nat} {K:Bool→Prop} (ha:a.length=n) (hb:b.length=n) (h:K (a==b)):EqA k n (ai k a) (ai k b) K:=by
 refine ⟨a.map fun (x:Nat)=>(x:Int),b.map fun (x:Nat)=>(x:Int),by simp [ai],by simp [ai],by simpa using ha,by simpa using hb,?_⟩
 have:((a.map fun (x:Nat)=>(x:Int))==(b.map fun (x:Nat)=>(x:Int)))=(a==b):=by
  rw [Bool.eq_iff_iff,beq_iff_eq,beq_iff_eq]
  constructor
  ·intro h
   exact (List.map_inj_right (fun x y h=>by have h:(x:Int)=(y:Int):=h;omega)).1 h
  ·rintro rfl;rfl
 rw [this];exact h
end Go.Vc
set_option maxRecDepth 20000
namespace Go.Vc
open Go
section
variable {E w w':World} {F G:List HP} {sz:Nat} {s:Sl} {xs ys:List Value}
theorem Hp.dropL {l:List HP} (h:Hp E w (l++F)):Hp E w F:=by
 induction l with
 |nil=>exact h
 |cons A l ih=>exact ih h.drop
theorem Tells.app {φ:World→Prop} (l:List HP) (ht:Tells F φ):Tells (l++F) φ:=by
 induction l with
 |nil=>exact ht
 |cons A l ih=>exact ih.cons
theorem Tells.appL {φ:World→Prop} (ht:Tells G φ):Tells (G++F) φ:=(ht.app F).perm List.perm_append_comm
def HasF (E:World) (F:List HP) (w:World):Prop:= ∃l,Hp E w (l++F)
theorem HasF.mk (h:Hp E w F):HasF E F w:=⟨[],h⟩
theorem HasF.mk1 {A:HP} (h:Hp E w (A::F)):HasF E F w:=⟨[A],h⟩
theorem HasF.mk2 {A B:HP} (h:Hp E w (A::B::F)):HasF E F w:=⟨[A,B],h⟩
theorem HasF.tells {φ:World→Prop} (h:HasF E F w) (ht:Tells F φ):φ w:=by
 obtain ⟨l,h⟩:=h
 exact h.tells (ht.app l)
theorem Slc.rdn {lo hi mx:Int} {K:Sl→Prop} (hl:xs.length=s.len*sz) (h0:0≤lo) (h1:lo≤hi) (h2:hi≤(s.len:Int)) (h3:hi≤mx) (h4:mx≤(s.cap:Int))
  (h: ∀s':Sl,(∀w',SlT sz s xs w'→SlT sz s' ((xs.drop (lo.toNat*sz)).take ((hi.toNat - lo.toNat)*sz)) w')→s'.len=hi.toNat - lo.toNat→s'.len≤s'.cap→K s'):Slc s lo hi mx sz K:=by
 refine ⟨h0,h1,h3,h4,h _ (fun w' hs'=> ?_) rfl (by simp only;omega)⟩
 have hm:hi.toNat*sz≤s.len*sz:=Nat.mul_le_mul_right _ (by omega)
 have hsub:(hi.toNat - lo.toNat)*sz=hi.toNat*sz - lo.toNat*sz:=Nat.sub_mul ..
 have hmono:lo.toNat*sz≤hi.toNat*sz:=Nat.mul_le_mul_right _ (by omega)
 have hlen:((xs.drop (lo.toNat*sz)).take ((hi.toNat - lo.toNat)*sz)).length=(hi.toNat - lo.toNat)*sz:=by
  rw [List.length_take,List.length_drop];omega
 refine ⟨hlen,fun i hi'=> ?_⟩
 rw [hlen] at hi'
 obtain ⟨p,hp,hcell⟩:=hs'.2 (lo.toNat*sz+i) (by omega)
 have hne:mx.toNat≠lo.toNat:=by
  intro e
  have:hi.toNat - lo.toNat=0:=by omega
  rw [this] at hi';omega
 refine ⟨p.add (lo.toNat*sz),by simp [hne,hp],?_⟩
 have:(p.add (lo.toNat*sz)).add i=p.add (lo.toNat*sz+i):=by
  unfold Addr.add
  by_cases e1:lo.toNat*sz=0<;>by_cases e2:i=0<;>simp [e1,e2,Nat.add_assoc]
 rw [this,hcell]
 simp
theorem LdS.sc {S:World→Prop} {s:Sc} {p:Addr} {K:s.T→Prop} (x:s.T) (hc: ∀w,S w→w.cell? p=some (s.enc x)) (h:K x):LdS (.sc s) p S K:=⟨x,hc,h⟩
theorem Slc.whole {b n:Nat} {hi mx:Int} {K:Sl→Prop} (hn:0<n) (h1:hi=(n:Int)) (h2:mx=(n:Int)) (h:K ⟨some ⟨b,0,none⟩,n,n⟩):Slc ⟨some ⟨b,0,none⟩,n,n⟩ 0 hi mx 1 K:=by
 subst h1;subst h2
 refine ⟨by omega,by omega,by omega,by simp,?_⟩
 have e:(if ((n:Int)).toNat=(0:Int).toNat then (some ⟨b,0,none⟩:Option Addr) else (some ⟨b,0,none⟩:Option Addr).map (·.add ((0:Int).toNat*1)))=some ⟨b,0,none⟩:=by
  rw [if_neg (by simp;omega)];simp [Addr.add]
 rw [e]
 simpa using h
end
section
variable {α:Type} {g:α→List Value} {sz:Nat} {l:List α}
theorem fm_len (hg: ∀x,(g x).length=sz) (l:List α):(l.flatMap g).length=l.length*sz:=by
 induction l with
 |nil=>simp
 |cons x l ih=>rw [List.flatMap_cons,List.length_append,ih,hg,List.length_cons,Nat.succ_mul];omega
theorem fm_drop (hg: ∀x,(g x).length=sz): ∀(l:List α) (n:Nat),(l.flatMap g).drop (n*sz)=(l.drop n).flatMap g
 |l,0=>by simp
 | [],n+1=>by simp
 |x::l,n+1=>by
  rw [List.drop_succ_cons,List.flatMap_cons,Nat.succ_mul,Nat.add_comm,←List.drop_drop,←hg x,List.drop_left,hg x]
  exact fm_drop hg l n
theorem fm_take (hg: ∀x,(g x).length=sz): ∀(l:List α) (n:Nat),(l.flatMap g).take (n*sz)=(l.take n).flatMap g
 |l,0=>by simp
 | [],n+1=>by simp
 |x::l,n+1=>by
  rw [List.take_succ_cons,List.flatMap_cons,List.flatMap_cons,Nat.succ_mul,Nat.add_comm,List.take_append,hg x,List.take_of_length_le (by rw [hg x];omega),show sz+n*sz - sz=n*sz by omega,fm_take hg l n]
theorem fm_get (hg: ∀x,(g x).length=sz): ∀(l:List α) (i j:Nat) (hi:i<l.length),j<sz→(l.flatMap g)[i*sz+j]? =(g l[i])[j]?
 |x::l,0,j,_,hj=>by rw [List.flatMap_cons,List.getElem?_append_left (by rw [hg];omega),Nat.zero_mul,Nat.zero_add];rfl
 |x::l,i+1,j,hi,hj=>by
  rw [List.flatMap_cons,List.getElem?_append_right (by rw [hg,Nat.succ_mul];omega),hg,show (i+1)*sz+j - sz=i*sz+j by rw [Nat.succ_mul];omega,fm_get hg l i j (by simpa using hi) hj]
  rfl
end
section
variable {E w w':World} {F G:List HP} {sz:Nat} {s:Sl} {α:Type} {g:α→List Value} {l:List α}
theorem Idx.el {i:Int} {n:Nat} {K:Addr→Prop} (hg: ∀x,(g x).length=sz) (hz:0<sz) (hs:SlT sz s (l.flatMap g) w) (hn:i=(n:Int)) (hi:n<l.length) (h: ∀p,(∀j,j<sz→w.cell? (p.add j)=(g l[n])[j]?)→K p):Idx s i sz K:=by
 subst hn
 have hl:=hs.1
 rw [fm_len hg] at hl
 have hle:l.length=s.len:=Nat.eq_of_mul_eq_mul_right hz hl
 refine Idx.rdn hs hz (by omega) (by omega) fun p hp=>h p fun j hj=> ?_
 have e:=fm_get hg l n j hi hj
 have hlt:n*sz+j<(l.flatMap g).length:=by
  rw [fm_len hg]
  have:(n+1)*sz≤l.length*sz:=Nat.mul_le_mul_right _ hi
  rw [Nat.succ_mul] at this;omega
 rw [hp j (by rw [Int.toNat_natCast];exact hlt) hj]
 simp only [Int.toNat_natCast]
 rw [←e,List.getElem?_eq_getElem hlt]
theorem Idx.elT {i:Int} {n:Nat} {K:Addr→Prop} (hg: ∀x,(g x).length=sz) (hz:0<sz) (hh:Hp E w F) (hs:Tells F (SlT sz s (l.flatMap g))) (hn:i=(n:Int)) (hi:n<l.length) (h: ∀p,(∀j,j<sz→Tells F (fun w=>w.cell? (p.add j)=(g l[n])[j]?))→K p):Idx s i sz K:=by
 subst hn
 have hl:=(hh.tells hs).1
 rw [fm_len hg] at hl
 have hle:l.length=s.len:=Nat.eq_of_mul_eq_mul_right hz hl
 refine Idx.rdT hh hs hz (by omega) (by omega) fun p hp=>h p fun j hj=>(hp j hj).imp fun w hw=> ?_
 rw [hw,Int.toNat_natCast,fm_get hg l n j hi hj]
theorem SlT.len (hg: ∀x,(g x).length=sz) (hz:0<sz) (hs:SlT sz s (l.flatMap g) w):s.len=l.length:=by
 have hl:=hs.1
 rw [fm_len hg] at hl
 exact (Nat.eq_of_mul_eq_mul_right hz hl).symm
theorem Slc.el {lo hi mx:Int} {a b:Nat} {K:Sl→Prop} (hg: ∀x,(g x).length=sz) (hl:s.len=l.length) (ha:lo=(a:Int)) (hb:hi=(b:Int)) (h1:a≤b) (h2:b≤l.length) (h3:hi≤mx) (h4:mx≤(s.cap:Int))
  (h: ∀s':Sl,(∀w',SlT sz s (l.flatMap g) w'→SlT sz s' (((l.drop a).take (b - a)).flatMap g) w')→s'.len=b - a→s'.len≤s'.cap→K s'):Slc s lo hi mx sz K:=by
 subst ha;subst hb
 refine Slc.rdn (xs:=l.flatMap g) (by rw [fm_len hg,hl]) (by omega) (by omega) (by omega) h3 h4 fun s' hs' hl' hc'=>h s' (fun w' hw'=> ?_) (by simpa using hl') hc'
 have:=hs' w' hw'
 simp only [Int.toNat_natCast] at this
 rw [fm_drop hg,fm_take hg] at this
 exact this
theorem LdC_mk {S:World→Prop} {p:Addr}: ∀{ks:List Sc} {i:Nat} {K:TT ks→Prop} (x:TT ks) (_: ∀w,S w→∀j (hj:j<(encs ks x).length),w.cell? (p.add (i+j))=some (encs ks x)[j]) (_:K x),LdC S p ks i K
 | [],_,_,_,_,h=>h
 |k::ks,i,K,(x,y),hc,h=>⟨x,fun w hw=>by have:=hc w hw 0 (by simp);simpa using this,LdC_mk (ks:=ks) (i:=i+1) y (fun w hw j hj=>by
   have:=hc w hw (j+1) (by simp;omega)
   simpa [Nat.add_assoc,Nat.add_comm 1 j] using this) h⟩
theorem Ld.st {ks:List Sc} {p:Addr} {K:TT ks→Prop} (x:TT ks) (hc: ∀j,j<(encs ks x).length→w.cell? (p.add j)=(encs ks x)[j]?) (h:K x):Ld (.st ks) p w K:=
 LdC_mk x (fun w' hw' j hj=>by
  have hw':w'=w:=hw'
  subst hw'
  rw [Nat.zero_add,hc j hj,List.getElem?_eq_getElem hj]) h
theorem Ld.stBlk {ks:List Sc} {b:Nat} {cs:Array Value} {t:TypeId} {fr:Nat×Nat} {K:TT ks→Prop} (hh:Hp E w (Blk b (.cells cs t fr)::F)) (x:TT ks) (hc:cs=⟨encs ks x⟩) (h:K x):Ld (.st ks) ⟨b,0,none⟩ w K:=by
 subst hc
 refine Ld.st x (fun j hj=> ?_) h
 rw [add_mk,hh.cell];simp
theorem StC.go {b:Nat} {t:TypeId} {K:World→Prop}: ∀(vs:List Value) (i:Nat) (w:World) (c:Array Value),Hp E w (Blk b (.cells c t (0,0))::F)→i+vs.length=c.size→(∀v∈vs,scalarB v=true)→
  (∀c' w',c'.toList=c.toList.take i++vs→Hp E w' (Blk b (.cells c' t (0,0))::F)→K w')→StC ⟨b,0,none⟩ vs i w K
 | [],i,w,c,hh,hi,_,hK=>hK c w (by rw [List.append_nil,List.take_of_length_le (by simp;simp at hi;omega)]) hh
 |v::vs,i,w,c,hh,hi,hv,hK=>by
  have h1:=hv v (by simp)
  simp only [List.length_cons] at hi
  unfold StC
  rw [h1]
  have h2:=hh.setCell (i:=i) v
  refine ⟨?_,?_,?_⟩
  ·rw [add_mk,hh.cell];simp;omega
  ·rw [add_mk];simp [World.frozen?,hh.blk]
  ·rw [add_mk,Nat.zero_add]
   refine StC.go vs (i+1) _ _ h2 (by simp;omega) (fun x hx=>hv x (List.mem_cons_of_mem _ hx)) fun c' w' e h3=>hK c' w' ?_ h3
   rw [e,Array.toList_setIfInBounds,List.take_add_one,List.take_set_of_le (by omega)]
   rw [List.getElem?_set_self (by simp;omega)]
   simp
theorem StC.blk {b:Nat} {c:Array Value} {t:TypeId} {vs:List Value} {K:World→Prop} (hh:Hp E w (Blk b (.cells c t (0,0))::F)) (hi:vs.length=c.size) (hv: ∀v∈vs,scalarB v=true)
  (hK: ∀w',Hp E w' (Blk b (.cells ⟨vs⟩ t (0,0))::F)→K w'):StC ⟨b,0,none⟩ vs 0 w K:=
 StC.go vs 0 w c hh (by omega) hv fun c' w' e h=>by
  have:c'=⟨vs⟩:=by apply Array.ext';simpa using e
  subst this
  exact hK w' h
theorem app1 {P:Program} {t ty e e2:TypeId} {bytes:Nat} {x:α} {cs:Array Value} {K:Sl→World→Prop} (he:ElemT P t e sz bytes) (hg: ∀x,(g x).length=sz) (hz:0<sz) (hcs:cs=⟨g x⟩) (hsc: ∀y∈g x,scalarB y=true)
  (hh:Hp E w (OwnS sz s (l.flatMap g)::F)) (hb:(2*(l.length+1)+1024)*bytes≤2^48) (hb2:l.length+1<2^62)
  (h: ∀s' w',Hp E w' (OwnS sz s' ((l++ [x]).flatMap g)::F)→s'.len=l.length+1→K s' w'):
  Nw e2 cs w fun b w1=>Run P (Builtin.append_ #[t,t] ty ⟨[.slice s.base s.len s.cap,.slice (some ⟨b,0,none⟩) 1 1]⟩) kS w1 K:=by
 have hlen:=SlT.len hg hz (hh.tells Tells.own)
 refine Nw.mk hh fun b w1 h1=> ?_
 refine run_append (ys:=g x) (n:=1) he hz (.inl ⟨e,he.und⟩) h1.p1 (.inl ⟨_,_,_,rfl,rfl,h1.tells (Tells.blk (xs:=g x) (by rw [hcs]) (by rw [hg];simp))⟩) (by rw [hg];simp) hsc (by rw [hlen];exact hb) (by rw [hlen];exact hb2) fun s' w2 h2 hs'=>h s' w2 ?_ (by rw [hs',hlen])
 rw [List.flatMap_append,show [x].flatMap g=g x by simp]
 exact h2.p1.drop
theorem appN {P:Program} {t ty e:TypeId} {bytes:Nat} {s2:Sl} {ys:List α} {K:Sl→World→Prop} (he:ElemT P t e sz bytes) (hg: ∀x,(g x).length=sz) (hz:0<sz) (hsc: ∀x,∀y∈g x,scalarB y=true)
  (hh:Hp E w (OwnS sz s (l.flatMap g)::F)) (hs:SlT sz s2 (ys.flatMap g) w) (hb:(2*(l.length+ys.length)+1024)*bytes≤2^48) (hb2:l.length+ys.length<2^62)
  (h: ∀s' w',Hp E w' (OwnS sz s' ((l++ys).flatMap g)::F)→s'.len=l.length+ys.length→K s' w'):
  Run P (Builtin.append_ #[t,t] ty ⟨[.slice s.base s.len s.cap,.slice s2.base s2.len s2.cap]⟩) kS w K:=by
 have hlen:=SlT.len hg hz (hh.tells Tells.own)
 have hlen2:=SlT.len hg hz hs
 refine run_append (ys:=ys.flatMap g) (n:=ys.length) he hz (.inl ⟨e,he.und⟩) hh (.inl ⟨_,_,_,rfl,hlen2.symm,hs⟩) (fm_len hg ys) (fun y hy=> ?_) (by rw [hlen];exact hb) (by rw [hlen];exact hb2) fun s' w2 h2 hs'=>h s' w2 ?_ (by rw [hs',hlen])
 ·obtain ⟨x,_,hx⟩:=List.mem_flatMap.1 hy
  exact hsc x y hx
 ·rw [List.flatMap_append];exact h2
end
end Go.Vc
set_option maxRecDepth 20000
namespace Go.Vc
open Go
section
variable {E w:World} {F:List HP} {A:HP}
theorem HasF.mem (h:HasF E F w) (hm:A∈F): ∃G,Hp E w (A::G):=by
 obtain ⟨l,h⟩:=h
 obtain ⟨s,t,rfl⟩:=List.append_of_mem hm
 refine ⟨(l++s)++t,?_⟩
 rw [←List.append_assoc] at h
 exact h.perm List.perm_middle
theorem HasF.front (h:HasF E (A::F) w): ∃G,Hp E w (A::G):=h.mem (by simp)
theorem HasF.front2 {B:HP} (h:HasF E (A::B::F) w): ∃G,Hp E w (B::G):=h.mem (by simp)
theorem LdS.arrBlk {S:World→Prop} {b n:Nat} {cs:Array Value} {t:TypeId} {fr:Nat×Nat} {K:Array Value→Prop} (hS: ∀w,S w→∃G,Hp E w (Blk b (.cells cs t fr)::G)) (hn:cs.size=n) (hK:K cs):LdS (.arr n) ⟨b,0,none⟩ S K:=by
 refine ⟨cs,hn,fun w' hw i hi=> ?_,hK⟩
 obtain ⟨G,h⟩:=hS w' hw
 rw [add_mk,h.cell,Nat.zero_add]
 simp [hn,hi]
theorem LdS.blk {S:World→Prop} {s:Sc} {b i:Nat} {c:Array Value} {t:TypeId} {fr:Nat×Nat} {K:s.T→Prop} (hS: ∀w,S w→∃G,Hp E w (Blk b (.cells c t fr)::G)) (x:s.T) (hx:c[i]? =some (s.enc x)) (hk:K x):LdS (.sc s) ⟨b,i,none⟩ S K:=by
 refine LdS.sc x (fun w' hw=> ?_) hk
 obtain ⟨G,h⟩:=hS w' hw
 rw [h.cell];exact hx
theorem LdS.sub {S:World→Prop} {b n off:Nat} {pre mid post:List Value} {t:TypeId} {fr:Nat×Nat} {K:Array Value→Prop} (hS: ∀w,S w→∃G,Hp E w (Blk b (.cells ⟨pre++mid++post⟩ t fr)::G)) (ho:pre.length=off) (hn:mid.length=n) (hK:K ⟨mid⟩):LdS (.arr n) ⟨b,off,none⟩ S K:=by
 refine ⟨⟨mid⟩,hn,fun w' hw i hi=> ?_,hK⟩
 obtain ⟨G,h⟩:=hS w' hw
 rw [add_mk,h.cell]
 subst ho
 rw [List.getElem?_toArray,List.append_assoc,List.getElem?_append_right (by omega),List.getElem?_append_left (by omega),show pre.length+i - pre.length=i by omega]
 rw [List.getElem?_eq_getElem (by omega)]
 simp [show i<mid.length by omega]
theorem Ld.sub {b n off:Nat} {pre mid post:List Value} {t:TypeId} {fr:Nat×Nat} {K:Array Value→Prop} (h:Hp E w (Blk b (.cells ⟨pre++mid++post⟩ t fr)::F)) (ho:pre.length=off) (hn:mid.length=n) (hK:K ⟨mid⟩):Ld (.arr n) ⟨b,off,none⟩ w K:=
 LdS.sub (E:=E) (fun w' hw=>⟨F,by rw [hw];exact h⟩) ho hn hK
end
def rowI (n:Nat) (f:Nat→Int):Array Value:=⟨(List.range n).map fun j=> .int .i64 (f j)⟩
theorem rowI_size {n:Nat} {f:Nat→Int}:(rowI n f).size=n:=by simp [rowI]
theorem rowI_get {n:Nat} {f:Nat→Int} {i:Nat} (h:i<n):(rowI n f)[i]? =some (Sc.enc (.int .i64) (f i)):=by
 unfold rowI
 rw [List.getElem?_toArray,List.getElem?_map,List.getElem?_range h];rfl
theorem rowI_set {n:Nat} {f:Nat→Int} {i:Nat} {v:Int}:(rowI n f).setIfInBounds i (.int .i64 v)=rowI n fun j=>if j=i then v else f j:=by
 apply Array.ext_getElem?
 intro j
 rw [Array.getElem?_setIfInBounds]
 unfold rowI
 simp only [List.getElem?_toArray,List.getElem?_map,List.size_toArray,List.length_map,List.length_range]
 by_cases hj:j<n
 ·rw [List.getElem?_range hj]
  by_cases e:i=j
  ·subst e;simp [hj]
  ·rw [if_neg e];simp [Ne.symm e]
 ·rw [List.getElem?_eq_none (by simpa using hj)]
  by_cases e:i=j
  ·subst e;simp [hj]
  ·simp [e]
theorem rowI_ext {n:Nat} {f g:Nat→Int} (h: ∀i,i<n→f i=g i):rowI n f=rowI n g:=by
 unfold rowI
 congr 1
 exact List.map_congr_left fun j hj=>by rw [h j (by simpa using hj)]
theorem fold_put {off:Nat}: ∀(vs:List Value) (k:Nat) (pre mid post:List Value),mid.length=vs.length→pre.length=off+k→
  (vs.zipIdx k).foldl (fun (cs:Array Value) (x:Value×Nat)=>cs.setIfInBounds (off+x.2) x.1) ⟨pre++mid++post⟩=⟨pre++vs++post⟩
 | [],k,pre,mid,post,hm,_=>by
  have:mid= []:=List.length_eq_zero_iff.1 hm
  subst this;rfl
 |v::vs,k,pre,mid,post,hm,hp=>by
  obtain ⟨m,mid,rfl⟩: ∃m mid',mid=m::mid':=by
   cases mid with
   |nil=>simp at hm
   |cons m mid=>exact ⟨m,mid,rfl⟩
  rw [List.zipIdx_cons,List.foldl_cons]
  have e:(⟨pre++m::mid++post⟩:Array Value).setIfInBounds (off+k) v=⟨(pre++ [v])++mid++post⟩:=by
   rw [←hp]
   apply Array.ext'
   simp
  show ((vs.zipIdx (k+1)).foldl _ ((⟨pre++m::mid++post⟩:Array Value).setIfInBounds (off+k) v))=_
  rw [e,fold_put vs (k+1) (pre++ [v]) mid post (by simpa using hm) (by simp;omega)]
  simp
theorem fill_step {place:Nat→Option (Nat×Nat)} {i off size:Nat} {v:Value} {rest:List (Nat×Value)} {pre mid post:List Value} (hpl:place i=some (off,size)) (ho:pre.length=off) (hm:mid.length=size) (hv:v.cells.size=size):
  Instr.fill place ⟨pre++mid++post⟩ ((i,v)::rest)=Instr.fill place ⟨pre++v.cells.toList++post⟩ rest:=by
 rw [Instr.fill,hpl]
 simp only
 rw [if_neg (by simp [hv];omega)]
 congr 1
 rw [←Array.foldl_toList,Array.toList_zipIdx]
 exact fold_put (off:=off) v.cells.toList 0 pre mid post (by simp [hm,hv]) (by omega)
end Go.Vc
set_option maxRecDepth 20000
namespace Go.Srt
def wt (n:Nat):Nat:=if n=0 then 0 else if n>15 then 32769 else 2^(15 - n)
def ksum (l:List Nat):Nat:=(l.map wt).sum
theorem wt_le (n:Nat):wt n≤32769:=by
 unfold wt
 split
 ·omega
 ·split
  ·omega
  ·have:2^(15 - n)≤2^15:=Nat.pow_le_pow_right (by decide) (by omega)
   omega
theorem ksum_le: ∀l:List Nat,ksum l≤32769*l.length
 | []=>by simp [ksum]
 |x::l=>by
  have:=ksum_le l
  have:=wt_le x
  simp only [ksum,List.map_cons,List.sum_cons,List.length_cons] at*
  omega
theorem ksum_succ {l:List Nat} {k:Nat} (h:k<l.length):ksum (l.take (k+1))=ksum (l.take k)+wt l[k]:=by
 unfold ksum
 rw [List.take_add_one,List.map_append,List.sum_append,List.getElem?_eq_getElem h]
 simp only [Option.toList,List.map_cons,List.map_nil,List.sum_cons,List.sum_nil,Nat.add_zero]
theorem ksum_take {l:List Nat} {k:Nat}:ksum (l.take k)≤ksum l:=by
 have:=congrArg ksum (List.take_append_drop k l)
 unfold ksum at this⊢
 rw [List.map_append,List.sum_append] at this
 omega
theorem wt_mem {l:List Nat} {x:Nat} (h:x∈l):wt x≤ksum l:=by
 obtain ⟨i,hi,rfl⟩:=List.getElem_of_mem h
 have:=ksum_succ hi
 have:=ksum_take (l:=l) (k:=i+1)
 omega
def used (l:List Nat):List Nat:=(List.range l.length).filter fun s=>decide (0<l.getD s 0)
def lkey (l:List Nat) (i:Int):Int:=(l.getD i.toNat 0:Int)
def IsOrd (l ys:List Nat):Prop:=ys.Perm (used l)∧ys.Pairwise fun a b=>l.getD a 0<l.getD b 0∨(l.getD a 0=l.getD b 0∧a<b)
end Go.Srt
set_option maxRecDepth 20000
namespace Go.Proofs.YtcdpblipagajiaaGreat
open Go Go.Vc Go.Srt
section
variable {E w:World} {F:List HP}
theorem share_c {n:Nat} {K:Int→World→Prop} (hK:K (wt n:Int) w):Cl Tryz.prog [kI] n_kraft_share ⟨[.int .u8 (n:Int)]⟩ w K:=by
 refine kraft_share.ok _ _ _ ?_
 unfold kraft_share.E
 unfold wt at hK
 refine IfB.mk (fun h=> ?_) (fun h=>IfB.mk (fun h2=> ?_) (fun h2=>⟨by omega,?_⟩))
 ·have h:n=0:=by have:=of_decide_eq_true h;omega
  rw [if_pos h] at hK;exact hK
 ·have h:n≠0:=by have:=of_decide_eq_false h;omega
  have h2:n>15:=by have:=of_decide_eq_true h2;omega
  rw [if_neg h,if_pos h2] at hK;exact hK
 ·have h:n≠0:=by have:=of_decide_eq_false h;omega
  have h2: ¬n>15:=by have:=of_decide_eq_false h2;omega
  rw [if_neg h,if_neg h2] at hK
  have e:=ishr_nat (k:= .i64) (a:=32768) (b:=n) (by have:IntKind.bits .i64=64:=rfl;omega)
  rw [show (32768:Int)=((32768:Nat):Int) from rfl,e]
  have:32768/2^n=2^(15 - n):=by
   have e15:(2:Nat)^15=32768:=by decide
   have e2:=Nat.pow_sub_mul_pow 2 (show n≤15 by omega)
   rw [e15] at e2
   exact Nat.div_eq_of_eq_mul_left (Nat.two_pow_pos n) e2.symm
  rw [this];exact hK
set_option maxRecDepth 20000 in
theorem kraftSum_c {l:List Nat} {K:Int→World→Prop} (h:Hp E w F) (hl:l.length=258) (hK: ∀w',Hp E w' F→K (ksum l:Int) w'):Cl Tryz.prog [kI] n_kraft_Sum ⟨[.agg (ai .u8 l)]⟩ w K:=by
 refine kraft_Sum.ok _ _ _ ?_
 unfold kraft_Sum.E
 refine Nw.mk h fun b w1 h1=>Ld.arr h1 (by rw [ai_size,hl]) ?_
 have hb:=ksum_le l
 refine ⟨fun sm i w'=> ∃k:Nat,i=(k:Int)∧k≤258∧sm=(ksum (l.take k):Int)∧Hp E w' F,fun _ i _=>258 - i.toNat,⟨0,rfl,by omega,by simp [ksum],h1.drop⟩,?_⟩
 intro sm i w' hI
 obtain ⟨k,hi,hk,hs,hh⟩:=hI
 subst hi
 subst hs
 refine IfB.mk (fun hlt=> ?_) (fun hge=> ?_)
 ·have hlt:k<258:=by have:=of_decide_eq_true hlt;omega
  have hkl:k<l.length:=by omega
  refine IdxV.rd (s:= .int .u8) (by omega) (by omega) (l[k]:Int) (by rw [Int.toNat_natCast];exact ai_get hkl) (share_c ?_)
  have e:=ksum_succ hkl
  have:=ksum_take (l:=l) (k:=k+1)
  rw [i64_id (x:=(ksum (l.take k):Int)+(wt l[k]:Int)) (by omega),i64_id (by omega)]
  exact ⟨⟨k+1,rfl,by omega,by rw [e];rfl,hh⟩,by dsimp only;omega⟩
 ·have hge:k=258:=by have:=of_decide_eq_false hge;omega
  subst hge
  rw [←hl,List.take_length]
  exact hK _ hh
end
end Go.Proofs.YtcdpblipagajiaaGreat
set_option maxRecDepth 20000
namespace Go.Srt
def sh (l:List Nat) (s:Nat):Nat:=2^(15 - l.getD s 0)
def start (l ys:List Nat) (i:Nat):Nat:=((ys.take i).map (sh l)).sum
theorem start_succ {l ys:List Nat} {i:Nat} (h:i<ys.length):start l ys (i+1)=start l ys i+sh l ys[i]:=by
 unfold start
 rw [List.take_add_one,List.map_append,List.sum_append,List.getElem?_eq_getElem h]
 simp only [Option.toList,List.map_cons,List.map_nil,List.sum_cons,List.sum_nil,Nat.add_zero]
theorem sh_pos (l:List Nat) (s:Nat):0<sh l s:=Nat.two_pow_pos _
theorem start_mono {l ys:List Nat} {i j:Nat} (h:i≤j):start l ys i≤start l ys j:=by
 unfold start
 have:=List.take_append_drop i (ys.take j)
 rw [List.take_take,Nat.min_eq_left h] at this
 have h2:=congrArg (fun l'=>(l'.map (sh l)).sum) this
 simp only [List.map_append,List.sum_append] at h2
 omega
theorem used_mem {l:List Nat} {s:Nat}:s∈used l↔s<l.length∧0<l.getD s 0:=by
 unfold used
 rw [List.mem_filter,List.mem_range];simp
theorem ksum_used (l:List Nat):ksum l=((used l).map fun s=>wt (l.getD s 0)).sum:=by
 have key: ∀k,k≤l.length→ksum (l.take k)=(((List.range k).filter fun s=>decide (0<l.getD s 0)).map fun s=>wt (l.getD s 0)).sum:=by
  intro k
  induction k with
  |zero=>intro _;simp [ksum]
  |succ k ih=>
   intro hk
   rw [ksum_succ (by omega),ih (by omega),List.range_succ,List.filter_append,List.map_append,List.sum_append]
   have hg:l.getD k 0=l[k]:=by rw [List.getD_eq_getElem?_getD,List.getElem?_eq_getElem (by omega)];rfl
   by_cases h:0<l.getD k 0
   ·rw [List.filter_cons_of_pos (by simpa using h)];simp only [List.filter_nil,List.map_cons,List.map_nil,List.sum_cons,List.sum_nil,hg];rfl
   ·rw [List.filter_cons_of_neg (by simpa using h)]
    have:l[k]=0:=by omega
    rw [this];rfl
 have:=key l.length (Nat.le_refl _)
 rw [List.take_length] at this
 exact this
theorem len15 {l:List Nat} (hv:ksum l≤32768) (s:Nat):l.getD s 0≤15:=by
 rw [List.getD_eq_getElem?_getD]
 cases h:l[s]? with
 |none=>simp
 |some x=>
  have:=wt_mem (List.mem_of_getElem? h)
  unfold wt at this
  simp only [Option.getD_some]
  rcases Nat.lt_or_ge 15 x with hx|hx
  ·rw [if_neg (by omega),if_pos (by omega)] at this;omega
  ·exact hx
theorem start_all {l ys:List Nat} (hv:ksum l≤32768) (h:IsOrd l ys):start l ys ys.length=ksum l:=by
 unfold start
 rw [List.take_length,ksum_used,(h.1.map (sh l)).sum_nat]
 congr 1
 refine List.map_congr_left fun s hs=> ?_
 have h1:=(used_mem.1 hs).2
 have h2:=len15 hv s
 unfold sh wt
 rw [if_neg (by omega),if_neg (by omega)]
theorem start_le {l ys:List Nat} (hv:ksum l≤32768) (h:IsOrd l ys) {i:Nat} (hi:i≤ys.length):start l ys i≤32768:=by
 have:=start_mono (l:=l) (ys:=ys) hi
 rw [start_all hv h] at this
 omega
theorem ord_len {l ys:List Nat} (h:IsOrd l ys) {i j:Nat} (hj:j<ys.length) (hij:i≤j):l.getD (ys[i]'(by omega)) 0≤l.getD ys[j] 0:=by
 by_cases e:i=j
 ·subst e;exact Nat.le_refl _
 ·have:=(List.pairwise_iff_getElem.1 h.2) i j (by omega) hj (by omega)
  omega
theorem start_dvd {l ys:List Nat} (h:IsOrd l ys) {i:Nat} (hi:i<ys.length): ∀k,k≤i→sh l ys[i]∣start l ys k
 |0,_=>by simp [start]
 |k+1,hk=>by
  rw [start_succ (by omega)]
  refine Nat.dvd_add (start_dvd h hi k (by omega)) ?_
  have:=ord_len h hi (show k≤i by omega)
  unfold sh
  exact Nat.pow_dvd_pow 2 (by omega)
def codeAt (l ys:List Nat) (i:Nat):Nat:=start l ys i/sh l (ys.getD i 0)
theorem getD_at {ys:List Nat} {i:Nat} (hi:i<ys.length):ys.getD i 0=ys[i]:=by
 rw [List.getD_eq_getElem?_getD,List.getElem?_eq_getElem hi];rfl
theorem codeAt_mul {l ys:List Nat} (h:IsOrd l ys) {i:Nat} (hi:i<ys.length):codeAt l ys i*sh l ys[i]=start l ys i:=by
 unfold codeAt
 rw [getD_at hi]
 exact Nat.div_mul_cancel (start_dvd h hi i (Nat.le_refl _))
theorem sh_mul {l:List Nat} (hv:ksum l≤32768) (s:Nat):2^l.getD s 0*sh l s=32768:=by
 unfold sh
 rw [←Nat.pow_add,show l.getD s 0+(15 - l.getD s 0)=15 by have:=len15 hv s;omega]
theorem codeAt_lt {l ys:List Nat} (hv:ksum l≤32768) (h:IsOrd l ys) {i:Nat} (hi:i<ys.length):codeAt l ys i<2^l.getD ys[i] 0:=by
 have h1:=codeAt_mul h hi
 have h2:=start_le hv h (show i+1≤ys.length by omega)
 rw [start_succ hi] at h2
 have h3:=sh_mul hv ys[i]
 have h4:=sh_pos l ys[i]
 have h5:(codeAt l ys i+1)*sh l ys[i]≤2^l.getD ys[i] 0*sh l ys[i]:=by rw [Nat.succ_mul];omega
 exact Nat.le_of_mul_le_mul_right h5 h4
end Go.Srt
set_option maxRecDepth 20000
namespace Go.Srt
def codesTo (l ys:List Nat):Nat→List Nat
 |0=>List.replicate 258 0
 |i+1=>(codesTo l ys i).set (ys.getD i 0) (codeAt l ys i)
theorem codesTo_len (l ys:List Nat): ∀i,(codesTo l ys i).length=258
 |0=>List.length_replicate
 |i+1=>by rw [codesTo,List.length_set,codesTo_len l ys i]
theorem ord_ne {l ys:List Nat} (h:IsOrd l ys) {i j:Nat} (hj:j<ys.length) (hij:i<j):ys[i]'(by omega)≠ys[j]:=by
 have:=(List.pairwise_iff_getElem.1 h.2) i j (by omega) hj hij
 intro e
 rw [e] at this
 omega
theorem codesTo_at {l ys:List Nat} (h:IsOrd l ys) (hin: ∀s∈ys,s<258): ∀(i:Nat),i≤ys.length→∀j (hj:j<ys.length),j<i→(codesTo l ys i).getD ys[j] 0=codeAt l ys j
 |0,_,_,_,hji=>by omega
 |i+1,hi,j,hj,hji=>by
  have hi':i<ys.length:=by omega
  rw [codesTo,getD_at hi']
  by_cases e:j=i
  ·subst e
   have:ys[j]<(codesTo l ys j).length:=by rw [codesTo_len];exact hin _ (List.getElem_mem hj)
   rw [List.getD_eq_getElem?_getD,List.getElem?_set_self this];rfl
  ·have hne:=ord_ne h hi' (show j<i by omega)
   rw [List.getD_eq_getElem?_getD,List.getElem?_set_ne (fun hh=>hne hh.symm),←List.getD_eq_getElem?_getD]
   exact codesTo_at h hin i (by omega) j hj (by omega)
end Go.Srt
set_option maxRecDepth 20000
namespace Go.Srt
def many (l:List Nat) (n:Nat):Nat:=if n=0 then 0 else l.count n
def fst (l:List Nat):Nat→Nat
 |0=>0
 |n+1=>2*(fst l n+many l n)
def low (l:List Nat):Nat→Nat
 |0=>0
 |n+1=>low l n+many l n*2^(15 - n)
theorem fst_low (l:List Nat): ∀n,n≤15→fst l n*2^(15 - n)=low l n
 |0,_=>by simp [fst,low]
 |n+1,h=>by
  have ih:=fst_low l n (by omega)
  have e:2^(15 - n)=2*2^(15 - (n+1)):=by rw [show 15 - n=(15 - (n+1))+1 by omega,Nat.pow_succ,Nat.mul_comm]
  rw [fst,low,←ih,←Nat.add_mul,e,Nat.mul_comm 2 (fst l n+many l n),Nat.mul_assoc]
theorem low_nil (n:Nat):low [] n=0:=by
 induction n with
 |zero=>rfl
 |succ n ih=>rw [low,ih];simp [many]
theorem low_app (l:List Nat) (x:Nat): ∀n,low (l++ [x]) n=low l n+if 0<x∧x<n then 2^(15 - x) else 0
 |0=>by simp [low]
 |n+1=>by
  rw [low,low,low_app l x n]
  unfold many
  rw [List.count_append,List.count_singleton]
  by_cases h0:n=0
  ·subst h0;rw [if_pos rfl,if_pos rfl,if_neg (by omega),if_neg (by omega)]
  ·rw [if_neg h0,if_neg h0]
   by_cases hx:x=n
   ·subst hx
    rw [if_neg (by omega),if_pos (by simp),if_pos (by omega),Nat.add_mul];omega
   ·rw [if_neg (show¬(x==n)=true by simpa using hx)]
    by_cases h:0<x∧x<n
    ·rw [if_pos h,if_pos (by omega),Nat.add_zero];omega
    ·rw [if_neg h,if_neg (by omega),Nat.add_zero,Nat.add_zero,Nat.add_zero]
theorem low_mono (l:List Nat) {n m:Nat} (h:n≤m):low l n≤low l m:=by
 induction m with
 |zero=>have:n=0:=by omega
        subst this;exact Nat.le_refl _
 |succ m ih=>
  by_cases e:n=m+1
  ·subst e;exact Nat.le_refl _
  ·have:=ih (by omega)
   rw [low];omega
theorem low_all: ∀(k:Nat) (l:List Nat),l.length=k→(∀x∈l,x≤15)→low l 16=ksum l:=by
 intro k
 induction k with
 |zero=>intro l h _;have:l= []:=List.length_eq_zero_iff.1 h
        subst this;simp [low_nil,ksum]
 |succ k ih=>
  intro l hl h
  have hne:l≠ []:=by intro e;subst e;simp at hl
  obtain ⟨l',x,rfl⟩: ∃l' x,l=l'++ [x]:=⟨l.dropLast,l.getLast hne,(List.dropLast_concat_getLast hne).symm⟩
  rw [low_app,ih l' (by simpa using hl) (fun y hy=>h y (by simp [hy]))]
  have hx:=h x (by simp)
  unfold ksum
  rw [List.map_append,List.sum_append]
  congr 1
  simp only [List.map_cons,List.map_nil,List.sum_cons,List.sum_nil,Nat.add_zero]
  unfold wt
  by_cases h0:x=0
  ·rw [if_neg (by omega),if_pos h0]
  ·rw [if_pos (by omega),if_neg h0,if_neg (by omega)]
theorem low16 {l:List Nat} (hv:ksum l≤32768):low l 16=ksum l:=low_all _ l rfl fun x hx=>by
 obtain ⟨i,hi,rfl⟩:=List.getElem_of_mem hx
 have:=len15 hv i
 rwa [List.getD_eq_getElem?_getD,List.getElem?_eq_getElem hi] at this
def rank (l:List Nat) (s:Nat):Nat:=(l.take s).count (l.getD s 0)
def code (l:List Nat) (s:Nat):Nat:=fst l (l.getD s 0)+rank l s
def pos (l:List Nat) (s:Nat):Nat:=low l (l.getD s 0)+rank l s*2^(15 - l.getD s 0)
theorem code_pos {l:List Nat} (hv:ksum l≤32768) (s:Nat):code l s*2^(15 - l.getD s 0)=pos l s:=by
 unfold code pos
 rw [Nat.add_mul,fst_low l _ (len15 hv s)]
theorem getD_get {l:List Nat} {i:Nat} (h:i<l.length):l.getD i 0=l[i]:=by rw [List.getD_eq_getElem?_getD,List.getElem?_eq_getElem h];rfl
theorem count_take_le (l:List Nat) (k x:Nat):(l.take k).count x≤l.count x:=(List.take_sublist k l).count_le x
theorem count_take_succ {l:List Nat} {k:Nat} (h:k<l.length) (x:Nat):(l.take (k+1)).count x=(l.take k).count x+if l[k]=x then 1 else 0:=by
 rw [List.take_add_one,List.getElem?_eq_getElem h,List.count_append]
 simp only [Option.toList,List.count_singleton,beq_iff_eq]
theorem count_take_mono {l:List Nat} {i j:Nat} (h:i≤j) (x:Nat):(l.take i).count x≤(l.take j).count x:=by
 have:(l.take i)=(l.take j).take i:=by rw [List.take_take,Nat.min_eq_left h]
 rw [this];exact count_take_le _ _ _
theorem rank_lt {l:List Nat} {s:Nat} (hs:s<l.length) (h0:0<l.getD s 0):rank l s<many l (l.getD s 0):=by
 unfold rank many
 rw [if_neg (by omega)]
 have h1:=count_take_succ hs (l.getD s 0)
 rw [getD_get hs,if_pos rfl] at h1
 have h2:=count_take_le l (s+1) (l[s])
 rw [getD_get hs]
 omega
theorem pos_next {l:List Nat} {s:Nat} (hs:s<l.length) (h0:0<l.getD s 0):pos l s+2^(15 - l.getD s 0)≤low l (l.getD s 0+1):=by
 have:=rank_lt hs h0
 unfold pos
 rw [low,Nat.add_assoc,←Nat.succ_mul]
 exact Nat.add_le_add_left (Nat.mul_le_mul_right _ this) _
theorem pos_apart {l:List Nat} {s t:Nat} (hs:s<l.length) (ht:t<l.length) (h0:0<l.getD s 0) (hne:s≠t) (h:l.getD s 0<l.getD t 0∨(l.getD s 0=l.getD t 0∧s<t)):pos l s+2^(15 - l.getD s 0)≤pos l t:=by
 rcases h with h|⟨h,hst⟩
 ·have h1:=pos_next hs h0
  have h2:=low_mono l (show l.getD s 0+1≤l.getD t 0 by omega)
  unfold pos at h1⊢
  omega
 ·have h1:=count_take_succ hs (l.getD t 0)
  rw [if_pos (by rw [←h,getD_get hs])] at h1
  have h2:=count_take_mono (l:=l) (show s+1≤t by omega) (l.getD t 0)
  unfold pos rank
  rw [h,Nat.add_assoc,←Nat.succ_mul]
  exact Nat.add_le_add_left (Nat.mul_le_mul_right _ (by omega)) _
theorem pos_uniq {l:List Nat} {s t x:Nat} (hs:s<l.length) (ht:t<l.length) (h0:0<l.getD s 0) (h1:0<l.getD t 0) (hxs:pos l s≤x) (hxs':x<pos l s+2^(15 - l.getD s 0)) (hxt:pos l t≤x) (hxt':x<pos l t+2^(15 - l.getD t 0)):s=t:=by
 by_cases e:s=t
 ·exact e
 ·rcases Nat.lt_trichotomy (l.getD s 0) (l.getD t 0) with h|h|h
  ·have:=pos_apart hs ht h0 e (.inl h);omega
  ·rcases Nat.lt_or_ge s t with h'|h'
   ·have:=pos_apart hs ht h0 e (.inr ⟨h,h'⟩);omega
   ·have:=pos_apart ht hs h1 (Ne.symm e) (.inr ⟨h.symm,by omega⟩);omega
  ·have:=pos_apart ht hs h1 (Ne.symm e) (.inl h);omega
theorem of_rank (l:List Nat) (n:Nat): ∀p,p<l.count n→∃s,s<l.length∧l.getD s 0=n∧rank l s=p:=by
 intro p hp
 have key: ∀k,k≤l.length→p<(l.take k).count n→∃s,s<k∧l.getD s 0=n∧rank l s=p:=by
  intro k
  induction k with
  |zero=>intro _ h;simp at h
  |succ k ih=>
   intro hk h
   by_cases h2:p<(l.take k).count n
   ·obtain ⟨s,h1,h3⟩:=ih (by omega) h2;exact ⟨s,by omega,h3⟩
   ·have h3:=count_take_succ (l:=l) (k:=k) (by omega) n
    by_cases h4:l[k]=n
    ·rw [if_pos h4] at h3
     refine ⟨k,by omega,by rw [getD_get (by omega),h4],?_⟩
     unfold rank
     rw [getD_get (by omega),h4];omega
    ·rw [if_neg h4] at h3;omega
 obtain ⟨s,h1,h2⟩:=key l.length (Nat.le_refl _) (by rwa [List.take_length])
 exact ⟨s,by omega,h2⟩
theorem rank_inj {l:List Nat} {s t:Nat} (hs:s<l.length) (ht:t<l.length) (h:l.getD s 0=l.getD t 0) (hr:rank l s=rank l t):s=t:=by
 have aux: ∀{s t:Nat},s<l.length→t<l.length→l.getD s 0=l.getD t 0→rank l s=rank l t→¬s<t:=by
  intro s t hs ht h hr hlt
  have h1:=count_take_succ hs (l.getD t 0)
  rw [if_pos (by rw [←h,getD_get hs])] at h1
  have h2:=count_take_mono (l:=l) (show s+1≤t by omega) (l.getD t 0)
  unfold rank at hr
  rw [h] at hr
  omega
 have h1:=aux hs ht h hr
 have h2:=aux ht hs h.symm hr.symm
 omega
def bef (l:List Nat) (n s t:Nat):Bool:=decide (0<l.getD t 0)&&decide (l.getD t 0<n∨(l.getD t 0=n∧t<s))
theorem sum_before (l:List Nat) (n s:Nat) (hn:0<n): ∀k,k≤l.length→(((List.range k).filter (bef l n s)).map (sh l)).sum=low (l.take k) n+((l.take k).take s).count n*2^(15 - n)
 |0,_=>by simp [low_nil]
 |k+1,hk=>by
  have hk':k<l.length:=by omega
  rw [List.range_succ,List.filter_append,List.map_append,List.sum_append,sum_before l n s hn k (by omega)]
  have e1:l.take (k+1)=l.take k++ [l[k]]:=by rw [List.take_add_one,List.getElem?_eq_getElem hk'];rfl
  rw [e1,low_app]
  have hg:=getD_get hk'
  have hlen:(l.take k).length=k:=by simp;omega
  have hc:0<l[k]→(l[k]<n∨(l[k]=n∧k<s))→bef l n s k=true:=fun h0 h1=>by
   unfold bef;rw [hg,Bool.and_eq_true,decide_eq_true_eq,decide_eq_true_eq];exact ⟨h0,h1⟩
  have hc': ¬(0<l[k]∧(l[k]<n∨(l[k]=n∧k<s)))→¬bef l n s k=true:=fun h=>by
   unfold bef;rw [hg,Bool.and_eq_true,decide_eq_true_eq,decide_eq_true_eq];exact h
  by_cases hks:k<s
  ·have e2:(l.take k++ [l[k]]).take s=l.take k++ [l[k]]:=List.take_of_length_le (by rw [List.length_append,hlen];simp;omega)
   have e3:(l.take k).take s=l.take k:=List.take_of_length_le (by omega)
   rw [e2,e3,List.count_append,List.count_singleton]
   by_cases h0:0<l[k]∧l[k]<n
   ·rw [List.filter_cons_of_pos (hc h0.1 (.inl h0.2)),if_pos h0,if_neg (by rw [beq_iff_eq];omega)]
    simp only [List.filter_nil,List.map_cons,List.map_nil,List.sum_cons,List.sum_nil,sh,hg,Nat.add_zero];omega
   ·rw [if_neg h0]
    by_cases h1:l[k]=n
    ·rw [List.filter_cons_of_pos (hc (by omega) (.inr ⟨h1,hks⟩)),if_pos (by simpa using h1),Nat.add_mul]
     simp only [List.filter_nil,List.map_cons,List.map_nil,List.sum_cons,List.sum_nil,sh,hg,h1];omega
    ·rw [List.filter_cons_of_neg (hc' (by omega)),if_neg (by simpa using h1)]
     simp
  ·have e2:(l.take k++ [l[k]]).take s=(l.take k).take s:=by rw [List.take_append_of_le_length (by omega)]
   rw [e2]
   by_cases h0:0<l[k]∧l[k]<n
   ·rw [List.filter_cons_of_pos (hc h0.1 (.inl h0.2)),if_pos h0]
    simp only [List.filter_nil,List.map_cons,List.map_nil,List.sum_cons,List.sum_nil,sh,hg,Nat.add_zero];omega
   ·rw [if_neg h0,List.filter_cons_of_neg (hc' (by omega))]
    simp
theorem start_pos {l ys:List Nat} (h:IsOrd l ys) {i:Nat} (hi:i<ys.length):start l ys i=pos l ys[i]:=by
 have hm:=used_mem.1 (h.1.mem_iff.1 (List.getElem_mem hi))
 let p:Nat→Bool:=fun t=>decide (l.getD t 0<l.getD ys[i] 0∨(l.getD t 0=l.getD ys[i] 0∧t<ys[i]))
 have hpw:=List.pairwise_iff_getElem.1 h.2
 have e1:ys.filter p=ys.take i:=by
  conv=>lhs;rw [←List.take_append_drop i ys]
  rw [List.filter_append,List.filter_eq_self.2,List.filter_eq_nil_iff.2,List.append_nil]
  ·intro a ha
   obtain ⟨j,hj,rfl⟩:=List.getElem_of_mem ha
   rw [List.length_drop] at hj
   rw [List.getElem_drop]
   show¬p _=true
   by_cases e:j=0
   ·subst e;simp only [p,Nat.add_zero,decide_eq_true_eq];omega
   ·have:=hpw i (i+j) hi (by omega) (by omega)
    simp only [p,decide_eq_true_eq];omega
  ·intro a ha
   obtain ⟨j,hj,rfl⟩:=List.getElem_of_mem ha
   rw [List.length_take] at hj
   rw [List.getElem_take]
   have:=hpw j i (by omega) hi (by omega)
   simp only [p,decide_eq_true_eq];omega
 have e2:((ys.take i).map (sh l)).sum=(((used l).filter p).map (sh l)).sum:=by
  rw [←e1];exact ((h.1.filter p).map (sh l)).sum_nat
 unfold start
 rw [e2]
 have e3:(used l).filter p=(List.range l.length).filter (bef l (l.getD ys[i] 0) ys[i]):=by
  unfold used;rw [List.filter_filter];congr 1;funext t;rw [Bool.and_comm];rfl
 rw [e3]
 have:=sum_before l (l.getD ys[i] 0) ys[i] hm.2 l.length (Nat.le_refl _)
 rw [List.take_length] at this
 exact this
theorem codeAt_code {l ys:List Nat} (hv:ksum l≤32768) (h:IsOrd l ys) {i:Nat} (hi:i<ys.length):codeAt l ys i=code l ys[i]:=by
 have h1:=codeAt_mul h hi
 rw [start_pos h hi,←code_pos hv] at h1
 exact Nat.eq_of_mul_eq_mul_right (sh_pos l ys[i]) h1
theorem codes_code {l ys:List Nat} (hl:l.length=258) (hv:ksum l≤32768) (h:IsOrd l ys) {s:Nat} (hs:s<258) (h0:0<l.getD s 0):(codesTo l ys ys.length).getD s 0=code l s:=by
 have hin: ∀s∈ys,s<258:=fun s hs=>by have:=(used_mem.1 (h.1.mem_iff.1 hs)).1;omega
 have hm:s∈ys:=h.1.mem_iff.2 (used_mem.2 ⟨by omega,h0⟩)
 obtain ⟨i,hi,rfl⟩:=List.getElem_of_mem hm
 rw [codesTo_at h hin _ (Nat.le_refl _) i hi hi,codeAt_code hv h hi]
theorem code_lt {l:List Nat} (hl:l.length=258) (hv:ksum l≤32768) {s:Nat} (hs:s<258) (h0:0<l.getD s 0):code l s<2^l.getD s 0:=by
 have h1:=code_pos hv s
 have h2:=pos_next (by omega) h0
 have h3:=low_mono l (show l.getD s 0+1≤16 by have:=len15 hv s;omega)
 rw [low16 hv] at h3
 have h4:=sh_mul hv s
 unfold sh at h4
 have h5:(code l s+1)*2^(15 - l.getD s 0)≤2^l.getD s 0*2^(15 - l.getD s 0):=by rw [Nat.succ_mul];omega
 exact Nat.le_of_mul_le_mul_right h5 (Nat.two_pow_pos _)
end Go.Srt
set_option maxRecDepth 20000
namespace Go.Srt
def okT (l:List Nat):Bool:=decide (ksum l=32768)&&decide (0<l.getD 257 0)
theorem okT_iff {l:List Nat}:okT l=true↔ksum l=32768∧0<l.getD 257 0:=by simp [okT]
def ofS (l:List Nat) (n p:Nat):Nat:=((List.range l.length).find? fun s=>(l.getD s 0==n)&&(rank l s==p)).getD 0
theorem ofS_spec {l:List Nat} {n p:Nat} (h:p<l.count n):ofS l n p<l.length∧l.getD (ofS l n p) 0=n∧rank l (ofS l n p)=p:=by
 obtain ⟨s,hs,h1,h2⟩:=of_rank l n p h
 unfold ofS
 cases hf:(List.range l.length).find? fun s=>(l.getD s 0==n)&&(rank l s==p) with
 |none=>
  have:=List.find?_eq_none.1 hf s (by simpa using hs)
  simp only [Bool.and_eq_true,beq_iff_eq] at this
  exact absurd ⟨h1,h2⟩ this
 |some t=>
  have h3:=List.find?_some hf
  have h4:=List.mem_of_find?_eq_some hf
  simp only [Bool.and_eq_true,beq_iff_eq] at h3
  exact ⟨by simpa using h4,h3⟩
def VSt (l:List Nat) (c b:Nat):Prop:=okT l=true∧b<15∧c<2^b∧fst l b+many l b≤c
def stp (l:List Nat) (c b x:Nat):(Nat×Nat)×Option Nat:=
 if fst l (b+1)+many l (b+1)≤2*c+x then ((2*c+x,b+1),none) else ((0,0),some (ofS l (b+1) (2*c+x - fst l (b+1))))
theorem VSt.zero {l:List Nat} (h:okT l=true):VSt l 0 0:=⟨h,by decide,by decide,by simp [fst,many]⟩
theorem VSt.ge {l:List Nat} {c b:Nat} (h:VSt l c b):fst l (b+1)≤2*c:=by rw [fst];have:=h.2.2.2;omega
theorem fst16 {l:List Nat} (h:okT l=true):fst l 15+many l 15=32768:=by
 have h1:=fst_low l 15 (by decide)
 have h2:=low16 (l:=l) (by rw [(okT_iff.1 h).1];decide)
 rw [(okT_iff.1 h).1] at h2
 rw [low] at h2
 omega
theorem VSt.next {l:List Nat} {c b x:Nat} (h:VSt l c b) (hx:x≤1):VSt l (stp l c b x).1.1 (stp l c b x).1.2:=by
 unfold stp
 split
 ·rename_i hc
  have hp:(2:Nat)^(b+1)=2*2^b:=by rw [Nat.pow_succ,Nat.mul_comm]
  have h2:=h.2.2.1
  refine ⟨h.1,?_,by show 2*c+x<2^(b+1);omega,hc⟩
  rcases Nat.lt_or_ge (b+1) 15 with h1|h1
  ·exact h1
  ·have:b=14:=by have:=h.2.1;omega
   subst this
   have:=fst16 h.1
   have:(2:Nat)^14=16384:=by decide
   simp only [Nat.reduceAdd] at hc
   omega
 ·exact VSt.zero h.1
theorem stp_done {l:List Nat} {c b x s:Nat} (hl:l.length=258) (h:VSt l c b) (hx:x≤1) (hs:(stp l c b x).2=some s):s<258∧l.getD s 0=b+1∧code l s=2*c+x∧b<15:=by
 unfold stp at hs
 split at hs
 ·cases hs
 ·rename_i hc
  have h1:s=ofS l (b+1) (2*c+x - fst l (b+1)):=by injection hs with hs;exact hs.symm
  have hge:=h.ge
  have hm:many l (b+1)=l.count (b+1):=by unfold many;rw [if_neg (by omega)]
  obtain ⟨h2,h3,h4⟩:=ofS_spec (l:=l) (n:=b+1) (p:=2*c+x - fst l (b+1)) (by omega)
  rw [←h1] at h2 h3 h4
  refine ⟨by omega,h3,?_,h.2.1⟩
  unfold code
  rw [h3,h4];omega
theorem stp_none {l:List Nat} {c b x:Nat} (hs:(stp l c b x).2=none):(stp l c b x).1=(2*c+x,b+1):=by
 unfold stp at hs⊢
 split
 ·rfl
 ·rename_i h;rw [if_neg h] at hs;cases hs
theorem stp_some {l:List Nat} {c b x s:Nat} (hs:(stp l c b x).2=some s):(stp l c b x).1=(0,0):=by
 unfold stp at hs⊢
 split
 ·rename_i h;rw [if_pos h] at hs;cases hs
 ·rfl
theorem fst_le {l:List Nat} (hl:l.length≤258): ∀n,fst l n+516≤516*2^n
 |0=>by simp [fst]
 |n+1=>by
  have:=fst_le hl n
  have h2:many l n≤258:=by
   unfold many
   split
   ·omega
   ·exact Nat.le_trans List.count_le_length hl
  rw [fst,Nat.pow_succ];omega
theorem many_le {l:List Nat} (hl:l.length≤258) (n:Nat):many l n≤258:=by
 unfold many
 split
 ·omega
 ·exact Nat.le_trans List.count_le_length hl
end Go.Srt
namespace Go.Proofs.YtcdpblipagajiaaGreat
open Go Go.Vc Go.Srt
section
variable {E w:World} {F:List HP}
theorem getN {l:List Nat} {i:Nat} {k:IntKind} (h:i<l.length):(ai k l)[((i:Nat):Int).toNat]? =some (Sc.enc (.int k) (l.getD i 0:Int)):=by
 rw [Int.toNat_natCast,ai_get h,getD_get h]
theorem complete_c {l:List Nat} {K:Bool→World→Prop} (h:Hp E w F) (hl:l.length=258) (hK: ∀w',Hp E w' F→K (decide (ksum l=32768)) w'):Cl Tryz.prog [kB] n_kraft_Complete ⟨[.agg (ai .u8 l)]⟩ w K:=by
 refine kraft_Complete.ok _ _ _ ?_
 unfold kraft_Complete.E
 refine Nw.mk h fun b w1 h1=>Ld.arr h1 (by rw [ai_size,hl]) (kraftSum_c h1 hl fun w2 h2=> ?_)
 have:((ksum l:Int)==32768)=decide (ksum l=32768):=by rw [Bool.eq_iff_iff];simp;omega
 rw [this]
 exact hK _ h2.drop
theorem table_c {l:List Nat} {K:Bool→World→Prop} (h:Hp E w F) (hl:l.length=258) (hK: ∀w',Hp E w' F→K (okT l) w'):Cl Tryz.prog [kB] n_kraft_Table ⟨[.agg (ai .u8 l)]⟩ w K:=by
 refine kraft_Table.ok _ _ _ ?_
 unfold kraft_Table.E
 refine Nw.mk h fun b w1 h1=>Ld.arr h1 (by rw [ai_size,hl]) (complete_c h1 hl fun w2 h2=>IfB.mk (fun hv=> ?_) (fun hv=> ?_))
 ·refine IdxP.rd (s:= .int .u8) h2 (by decide) (by decide) (l.getD 257 0:Int) (getN (i:=257) (by omega)) ?_
  have:decide ((l.getD 257 0:Int)>0)=okT l:=by
   unfold okT;rw [hv,Bool.true_and,Bool.eq_iff_iff,decide_eq_true_eq,decide_eq_true_eq];omega
  rw [this]
  exact hK _ h2.drop
 ·have:false=okT l:=by unfold okT;rw [hv,Bool.false_and]
  rw [this]
  exact hK _ h2.drop
abbrev k16:List Sc:= [.int .i64,.int .i64,.int .i64,.int .i64,.int .i64,.int .i64,.int .i64,.int .i64,.int .i64,.int .i64,.int .i64,.int .i64,.int .i64,.int .i64,.int .i64,.int .i64]
def t16 (f:Nat→Int):TT k16:=(f 0,f 1,f 2,f 3,f 4,f 5,f 6,f 7,f 8,f 9,f 10,f 11,f 12,f 13,f 14,f 15,())
theorem row16 (f:Nat→Int):rowI 16 f=⟨encs k16 (t16 f)⟩:=rfl
theorem sc16 (f:Nat→Int): ∀v∈ [(.int .i64 (f 0):Value),.int .i64 (f 1),.int .i64 (f 2),.int .i64 (f 3),.int .i64 (f 4),.int .i64 (f 5),.int .i64 (f 6),.int .i64 (f 7),.int .i64 (f 8),.int .i64 (f 9),.int .i64 (f 10),.int .i64 (f 11),.int .i64 (f 12),.int .i64 (f 13),.int .i64 (f 14),.int .i64 (f 15)],scalarB v=true:=by
 intro v hv
 simp only [List.mem_cons,List.not_mem_nil,or_false] at hv
 rcases hv with rfl|rfl|rfl|rfl|rfl|rfl|rfl|rfl|rfl|rfl|rfl|rfl|rfl|rfl|rfl|rfl<;>rfl
theorem row16_zero:(⟨List.replicate 16 (.int .i64 0)⟩:Array Value)=rowI 16 fun _=>0:=rfl
set_option maxRecDepth 20000 in
theorem counts_c {l:List Nat} {K:TT k16→World→Prop} (h:Hp E w F) (hl:l.length=258) (h15: ∀x∈l,x≤15) (hK: ∀w',Hp E w' F→K (t16 fun j=>(l.count j:Int)) w'):Cl Tryz.prog [.st k16] n_kraft_Counts ⟨[.agg (ai .u8 l)]⟩ w K:=by
 refine kraft_Counts.ok _ _ _ ?_
 unfold kraft_Counts.E
 rw [row16_zero]
 refine Nw.mk h fun b w1 h1=>Nw.mk h1 fun b2 w2 h2=>Ld.arr h2.p1 (by rw [ai_size,hl]) ?_
 refine ⟨fun i w'=> ∃k:Nat,i=(k:Int)∧k≤258∧Hp E w' (Blk b2 (.cells (rowI 16 fun j=>((l.take k).count j:Int)) 233 (0,0))::F),fun i _=>258 - i.toNat,⟨0,rfl,by omega,?_⟩,?_⟩
 ·have:=h2.p1.drop
  rwa [rowI_ext (g:=fun j=>((l.take 0).count j:Int)) (fun i _=>by simp)] at this
 rintro i w' ⟨k,rfl,hk,hh⟩
 refine IfB.mk (fun hlt=> ?_) (fun hge=> ?_)
 ·have hlt:k<258:=by have:=of_decide_eq_true hlt;omega
  have hkl:k<l.length:=by omega
  have hcl: ∀x,(l.take k).count x≤258:=fun x=>Nat.le_trans List.count_le_length (by rw [List.length_take];omega)
  refine IdxV.rd (s:= .int .u8) (by omega) (by omega) (l[k]:Int) (by rw [Int.toNat_natCast];exact ai_get hkl) ?_
  have h16:=h15 _ (List.getElem_mem hkl)
  rw [i64_id (x:=(l[k]:Int)) (by omega)]
  refine IfB.t (decide_eq_true (by omega)) ?_
  refine IdxP.rd (s:= .int .i64) hh (by omega) (by omega) ((l.take k).count l[k]:Int) (by rw [Int.toNat_natCast];exact rowI_get (by omega)) ?_
  have:=hcl l[k]
  refine IdxP.wr hh (by omega) (by omega) rowI_size rfl fun w3 h3=> ?_
  rw [i64_id (by omega),Int.toNat_natCast,rowI_set] at h3
  rw [i64_id (by omega)]
  refine ⟨⟨k+1,rfl,by omega,?_⟩,by dsimp only;omega⟩
  rw [rowI_ext (g:=fun j=>((l.take (k+1)).count j:Int))] at h3
  ·exact h3
  ·intro j hj
   rw [count_take_succ hkl]
   by_cases e:j=l[k]
   ·subst e;rw [if_pos rfl,if_pos rfl];omega
   ·rw [if_neg e,if_neg (Ne.symm e)];omega
 ·have hge:k=258:=by have:=of_decide_eq_false hge;omega
  subst hge
  rw [←hl,List.take_length] at hh
  refine Ld.stBlk hh (t16 fun j=>(l.count j:Int)) (row16 _) (StC.blk hh (by rw [rowI_size];rfl) (sc16 fun j=>(l.count j:Int)) fun w3 h3=> ?_)
  exact Ld.stBlk h3 (t16 fun j=>(l.count j:Int)) rfl (hK _ h3.drop)
set_option maxRecDepth 20000 in
theorem first12_c {l:List Nat} {n:Nat} {K:Int→Int→World→Prop} (h:Hp E w F) (hl:l.length=258) (h15: ∀x∈l,x≤15) (hn:n≤15) (hK: ∀w',Hp E w' F→K (Srt.fst l n:Int) (many l n:Int) w'):
  Cl Tryz.prog [kI,kI] n_prefixdec_first ⟨[.agg (ai .u8 l),.int .i64 (n:Int)]⟩ w K:=by
 refine prefixdec_first.ok _ _ _ _ ?_
 unfold prefixdec_first.E
 refine Nw.mk h fun b w1 h1=>Ld.arr h1 (by rw [ai_size,hl]) (counts_c h1.drop hl h15 fun w2 h2=> ?_)
 rw [row16_zero]
 refine Nw.mk h2 fun b2 w3 h3=>StC.blk h3 (by rw [rowI_size];rfl) (sc16 fun j=>(l.count j:Int)) fun w4 h4=> ?_
 have h4:Hp E w4 (Blk b2 (.cells (rowI 16 fun j=>(l.count j:Int)) 233 (0,0))::F):=h4
 refine IdxP.wr h4 (by decide) (by decide) rowI_size rfl fun w5 h5=> ?_
 rw [show (0:Int).toNat=0 from rfl,rowI_set,rowI_ext (g:=fun j=>(many l j:Int)) (fun i _=>by unfold many;by_cases e:i=0<;>simp [e])] at h5
 refine ⟨fun c m w'=> ∃k:Nat,m=(k:Int)+1∧k≤n∧c=(Srt.fst l k:Int)∧Hp E w' (Blk b2 (.cells (rowI 16 fun j=>(many l j:Int)) 233 (0,0))::F),fun _ m _=>18 - m.toNat,⟨0,rfl,by omega,rfl,h5⟩,?_⟩
 rintro c m w' ⟨k,rfl,hk,rfl,hh⟩
 refine IfB.mk (fun hlt=> ?_) (fun hge=> ?_)
 ·have hlt:k<n:=by have:=of_decide_eq_true hlt;omega
  rw [i64_id (x:=(k:Int)+1 - 1) (by omega),show (k:Int)+1 - 1=(k:Int) by omega]
  refine IdxP.rd (s:= .int .i64) hh (by omega) (by omega) (many l k:Int) (by rw [Int.toNat_natCast];exact rowI_get (by omega)) ?_
  have h1:=fst_le (l:=l) (by omega) k
  have h2:=many_le (l:=l) (by omega) k
  have h3:(2:Nat)^k≤2^15:=Nat.pow_le_pow_right (by decide) (by omega)
  have h4:(2:Nat)^15=32768:=by decide
  rw [i64_id (x:=(Srt.fst l k:Int)+(many l k:Int)) (by omega),i64_id (x:=(k:Int)+1+1) (by omega)]
  have e:=ishl_nat (k:= .i64) (a:=Srt.fst l k+many l k) (b:=1) (by decide) (by have:IntKind.max .i64=9223372036854775807:=rfl;omega)
  have e2:ishl .i64 ((Srt.fst l k:Int)+(many l k:Int)) 1=(Srt.fst l (k+1):Int):=by
   rw [show (Srt.fst l k:Int)+(many l k:Int)=((Srt.fst l k+many l k:Nat):Int) by omega,show (1:Int)=((1:Nat):Int) from rfl,e,Srt.fst]
   omega
  rw [e2]
  exact ⟨by decide,⟨k+1,by omega,by omega,rfl,hh⟩,by dsimp only;omega⟩
 ·have hge:k=n:=by have:=of_decide_eq_false hge;omega
  subst hge
  refine Drw.mk hh fun w6 h6=>IdxP.rd (s:= .int .i64) h6 (by omega) (by omega) (many l k:Int) (by rw [Int.toNat_natCast];exact rowI_get (by omega)) (hK _ h6.drop)
set_option maxRecDepth 20000 in
theorem of_c {l:List Nat} {n p:Nat} {K:Int→World→Prop} (h:Hp E w F) (hl:l.length=258) (h15: ∀x∈l,x≤15) (hp:p<l.count n) (hK: ∀w',Hp E w' F→K (ofS l n p:Int) w'):
  Cl Tryz.prog [kI] n_prefixdec_of ⟨[.agg (ai .u8 l),.int .i64 (n:Int),.int .i64 (p:Int)]⟩ w K:=by
 refine prefixdec_of.ok _ _ _ _ _ ?_
 unfold prefixdec_of.E
 have hs:=ofS_spec hp
 refine Nw.mk h fun b w1 h1=>Ld.arr h1 (by rw [ai_size,hl]) ?_
 have hcl:l.count n≤258:=Nat.le_trans List.count_le_length (by omega)
 refine ⟨fun q i w'=> ∃k:Nat,i=(k:Int)∧k≤258∧(l.take k).count n≤p∧q=(p:Int) - ((l.take k).count n:Int)∧Hp E w' F,fun _ i _=>258 - i.toNat,⟨0,rfl,by omega,by simp,by simp,h1.drop⟩,?_⟩
 rintro q i w' ⟨k,rfl,hk,hc,rfl,hh⟩
 refine IfB.mk (fun hlt=> ?_) (fun hge=> ?_)
 ·have hlt:k<258:=by have:=of_decide_eq_true hlt;omega
  have hkl:k<l.length:=by omega
  have h16:=h15 _ (List.getElem_mem hkl)
  have hsu:=count_take_succ hkl n
  refine IdxV.rd (s:= .int .u8) (by omega) (by omega) (l[k]:Int) (by rw [Int.toNat_natCast];exact ai_get hkl) ?_
  rw [i64_id (x:=(l[k]:Int)) (by omega),i64_id (x:=(k:Int)+1) (by omega)]
  refine IfB.mk (fun hne=> ?_) (fun he=>IfB.mk (fun hz=> ?_) (fun hz=> ?_))
  ·have hne:l[k]≠n:=by rw [bne_iff_ne] at hne;omega
   rw [if_neg hne] at hsu
   exact ⟨⟨k+1,rfl,by omega,by omega,by omega,hh⟩,by dsimp only;omega⟩
  ·have he:l[k]=n:=by have:=bne_eq_false_iff_eq.1 he;omega
   have hz:(l.take k).count n=p:=by rw [beq_iff_eq] at hz;omega
   have:k=ofS l n p:=by
    refine rank_inj hkl hs.1 (by rw [hs.2.1,getD_get hkl,he]) ?_
    rw [hs.2.2];unfold rank;rw [getD_get hkl,he,hz]
   rw [this];exact hK _ hh
  ·have he:l[k]=n:=by have:=bne_eq_false_iff_eq.1 he;omega
   have hz:(l.take k).count n≠p:=by have:=beq_eq_false_iff_ne.1 hz;omega
   rw [if_pos he] at hsu
   rw [i64_id (by omega)]
   exact ⟨⟨k+1,rfl,by omega,by omega,by omega,hh⟩,by dsimp only;omega⟩
 ·have hge:k=258:=by have:=of_decide_eq_false hge;omega
  subst hge
  rw [←hl,List.take_length] at hc
  omega
def stA (l:List Nat) (c b:Nat):Array Value:=⟨(l.map fun (n:Nat)=>Value.int .u8 (n:Int))++ [.int .i64 (c:Int),.int .i64 (b:Int)]⟩
theorem stA_size {l:List Nat} {c b:Nat} (hl:l.length=258):(stA l c b).size=260:=by simp [stA,hl]
theorem stA_scalar {l:List Nat} {c b:Nat}: ∀v∈(stA l c b).toList,scalarB v=true:=by
 intro v hv
 unfold stA at hv
 simp only [List.mem_append,List.mem_map,List.mem_cons,List.not_mem_nil,or_false] at hv
 rcases hv with ⟨n,_,rfl⟩|rfl|rfl<;>rfl
theorem stA_parts (l:List Nat) (c b:Nat):stA l c b=⟨[]++(l.map fun (n:Nat)=>Value.int .u8 (n:Int))++ [.int .i64 (c:Int),.int .i64 (b:Int)]⟩:=rfl
theorem stA_c {l:List Nat} {c b:Nat} (hl:l.length=258):(stA l c b)[258]? =some (Sc.enc (.int .i64) (c:Int)):=by
 unfold stA;rw [List.getElem?_toArray,List.getElem?_append_right (by simp [hl])];simp [hl]
theorem stA_b {l:List Nat} {c b:Nat} (hl:l.length=258):(stA l c b)[259]? =some (Sc.enc (.int .i64) (b:Int)):=by
 unfold stA;rw [List.getElem?_toArray,List.getElem?_append_right (by simp [hl])];simp [hl]
theorem zeroSt:(⟨List.replicate 258 (.int .u8 0)++ [.int .i64 0,.int .i64 0]⟩:Array Value)=stA (List.replicate 258 0) 0 0:=by unfold stA;rw [List.map_replicate];rfl
theorem built_st (ps:List (Nat×Value)):Tryz.prog.built 145 ps=Instr.fill (#[(0,258),(258,1),(259,1)][·]?) ⟨List.replicate 258 (.int .u8 0)++ [.int .i64 0,.int .i64 0]⟩ ps:=by kernel_rfl
theorem fill_arr {l:List Nat} (hl:l.length=258) (rest:List (Nat×Value)):Instr.fill (#[(0,258),(258,1),(259,1)][·]?) ⟨List.replicate 258 (.int .u8 0)++ [.int .i64 0,.int .i64 0]⟩ ((0,.agg (ai .u8 l))::rest)
  =Instr.fill (#[(0,258),(258,1),(259,1)][·]?) (stA l 0 0) rest:=by
 have:=fill_step (place:=(#[(0,258),(258,1),(259,1)][·]?)) (i:=0) (v:= .agg (ai .u8 l)) (rest:=rest) (pre:= []) (mid:=List.replicate 258 (.int .u8 0)) (post:= [.int .i64 0,.int .i64 0]) rfl rfl List.length_replicate (by show (ai .u8 l).size=_;rw [ai_size,hl])
 exact this
theorem fill_c {l:List Nat} {c c0 b:Nat} (hl:l.length=258) (rest:List (Nat×Value)):Instr.fill (#[(0,258),(258,1),(259,1)][·]?) (stA l c0 b) ((1,.int .i64 (c:Int))::rest)=Instr.fill (#[(0,258),(258,1),(259,1)][·]?) (stA l c b) rest:=by
 have:=fill_step (place:=(#[(0,258),(258,1),(259,1)][·]?)) (i:=1) (v:= .int .i64 (c:Int)) (rest:=rest) (pre:=l.map fun (n:Nat)=>Value.int .u8 (n:Int)) (mid:= [.int .i64 (c0:Int)]) (post:= [.int .i64 (b:Int)]) rfl (by simp [hl]) rfl rfl
 unfold stA
 rw [show (l.map fun (n:Nat)=>Value.int .u8 (n:Int))++ [.int .i64 (c0:Int),.int .i64 (b:Int)]=(l.map fun (n:Nat)=>Value.int .u8 (n:Int))++ [.int .i64 (c0:Int)]++ [.int .i64 (b:Int)] by simp,this]
 congr 2
 simp [Value.cells]
theorem fill_b {l:List Nat} {c b0 b:Nat} (hl:l.length=258) (rest:List (Nat×Value)):Instr.fill (#[(0,258),(258,1),(259,1)][·]?) (stA l c b0) ((2,.int .i64 (b:Int))::rest)=Instr.fill (#[(0,258),(258,1),(259,1)][·]?) (stA l c b) rest:=by
 have:=fill_step (place:=(#[(0,258),(258,1),(259,1)][·]?)) (i:=2) (v:= .int .i64 (b:Int)) (rest:=rest) (pre:=(l.map fun (n:Nat)=>Value.int .u8 (n:Int))++ [.int .i64 (c:Int)]) (mid:= [.int .i64 (b0:Int)]) (post:= []) rfl (by simp [hl]) rfl rfl
 unfold stA
 rw [show (l.map fun (n:Nat)=>Value.int .u8 (n:Int))++ [.int .i64 (c:Int),.int .i64 (b0:Int)]=(l.map fun (n:Nat)=>Value.int .u8 (n:Int))++ [.int .i64 (c:Int)]++ [.int .i64 (b0:Int)]++ [] by simp,this]
 congr 2
 simp [Value.cells]
theorem Bld.st0 {l:List Nat} {K:Array Value→Prop} (hl:l.length=258) (hK:K (stA l 0 0)):Bld Tryz.prog 145 [(0,.agg (ai .u8 l))] K:=⟨stA l 0 0,by rw [built_st,fill_arr hl];rfl,hK⟩
theorem Bld.st3 {l:List Nat} {c b:Nat} {K:Array Value→Prop} (hl:l.length=258) (hK:K (stA l c b)):Bld Tryz.prog 145 [(0,.agg (ai .u8 l)),(1,.int .i64 (c:Int)),(2,.int .i64 (b:Int))] K:=
 ⟨stA l c b,by rw [built_st,fill_arr hl,fill_c hl,fill_b hl];rfl,hK⟩
theorem Bld.stZ {K:Array Value→Prop} (hK:K (stA (List.replicate 258 0) 0 0)):Bld Tryz.prog 145 [] K:=⟨_,built_st [],by rw [zeroSt];exact hK⟩
theorem new_c {l:List Nat} {K:Array Value→Int→World→Prop} (h:Hp E w F) (hl:l.length=258) (hK1:okT l=false→∀w',Hp E w' F→K (stA (List.replicate 258 0) 0 0) 2 w') (hK2:okT l=true→∀w',Hp E w' F→K (stA l 0 0) 0 w'):
  Cl Tryz.prog [.arr 260,kI] n_prefixdec_New ⟨[.agg (ai .u8 l)]⟩ w K:=by
 refine prefixdec_New.ok _ _ _ ?_
 unfold prefixdec_New.E
 rw [zeroSt]
 have hz:(stA (List.replicate 258 0) 0 0).size=260:=stA_size List.length_replicate
 refine Nw.mk h fun b w1 h1=>Nw.mk h1 fun b2 w2 h2=>Ld.arr h2.p1 (by rw [ai_size,hl]) (table_c h2 hl fun w3 h3=>IfB.mk (fun hv=> ?_) (fun hv=> ?_))
 ·exact Bld.stZ (StA.blk h3 hz hz stA_scalar fun w4 h4=>Ld.arr h4 hz (hK1 (by simpa using hv) _ h4.drop.drop))
 ·exact Ld.arr h3.p1 (by rw [ai_size,hl]) (Bld.st0 hl (StA.blk h3 hz (stA_size hl) stA_scalar fun w4 h4=>Ld.arr h4 (stA_size hl) (hK2 (by simpa using hv) _ h4.drop.drop)))
theorem le15 {l:List Nat} (h:okT l=true): ∀x∈l,x≤15:=fun x hx=>by
 obtain ⟨i,hi,rfl⟩:=List.getElem_of_mem hx
 have:=len15 (l:=l) (by rw [(okT_iff.1 h).1];decide) i
 rwa [getD_get hi] at this
theorem valid12_c {l:List Nat} {c b:Nat} {K:Bool→World→Prop} (h:Hp E w F) (hl:l.length=258) (hb:b<15) (hc:c<2^b) (hK: ∀w',Hp E w' F→K (okT l&&decide (Srt.fst l b+many l b≤c)) w'):
  Cl Tryz.prog [kB] n_prefixdec_Valid ⟨[.agg (stA l c b)]⟩ w K:=by
 refine prefixdec_Valid.ok _ _ _ ?_
 unfold prefixdec_Valid.E
 simp only [Join_eq,add_mk,Nat.zero_add]
 refine Nw.mk h fun b3 w1 h1=> ?_
 rw [stA_parts] at h1
 have hml:(l.map fun (n:Nat)=>Value.int .u8 (n:Int)).length=258:=by simp [hl]
 refine Ld.sub h1 rfl hml (table_c h1 hl fun w2 h2=>IfB.mk (fun hv=> ?_) (fun hv=> ?_))
 ·have hv:okT l=false:=by simpa using hv
  rw [hv,Bool.false_and] at hK
  exact hK _ h2.drop
 have hv:okT l=true:=by simpa using hv
 rw [hv,Bool.true_and] at hK
 rw [←stA_parts] at h2
 have hp:(2:Nat)^b≤2^15:=Nat.pow_le_pow_right (by decide) (by omega)
 have hp2:(2:Nat)^15=32768:=by decide
 refine Ld.blk (s:= .int .i64) h2 (b:Int) (stA_b hl) (IfB.f (decide_eq_false (by omega)) ?_)
 refine Ld.blk (s:= .int .i64) h2 (b:Int) (stA_b hl) (IfB.f (decide_eq_false (by omega)) ?_)
 refine Ld.blk (s:= .int .i64) h2 (c:Int) (stA_c hl) (IfB.f (decide_eq_false (by omega)) ?_)
 refine Ld.blk (s:= .int .i64) h2 (c:Int) (stA_c hl) (Ld.blk (s:= .int .i64) h2 (b:Int) (stA_b hl) ⟨by omega,?_⟩)
 rw [ishr_nat (by have:IntKind.bits .i64=64:=rfl;omega),Nat.div_eq_of_lt hc]
 refine IfB.f (by decide) ?_
 rw [stA_parts] at h2
 refine Ld.sub h2 rfl hml ?_
 rw [←stA_parts] at h2
 refine Ld.blk (s:= .int .i64) h2 (b:Int) (stA_b hl) (first12_c h2 hl (le15 hv) (by omega) fun w3 h3=>Ld.blk (s:= .int .i64) h3 (c:Int) (stA_c hl) ?_)
 have h1:=fst_le (l:=l) (by omega) b
 have h2:=many_le (l:=l) (by omega) b
 rw [i64_id (by omega)]
 have e:decide ((c:Int)≥(Srt.fst l b:Int)+(many l b:Int))=decide (Srt.fst l b+many l b≤c):=by rw [Bool.eq_iff_iff,decide_eq_true_eq,decide_eq_true_eq];omega
 rw [e]
 exact hK _ h3.drop
theorem or_bit {c x:Nat} (hx:x≤1) (hc:c<16384):ior .i64 (ishl .i64 (c:Int) 1) (x:Int)=((2*c+x:Nat):Int):=by
 have hm:IntKind.max .i64=9223372036854775807:=rfl
 have e:=ishl_nat (k:= .i64) (a:=c) (b:=1) (by decide) (by omega)
 have h2:c*2^1|||x=2*c+x:=by
  have:=Nat.two_pow_add_eq_or_of_lt (i:=1) (b:=x) (by omega) c
  rw [Nat.mul_comm c,←this,Nat.mul_comm]
 rw [show (1:Int)=((1:Nat):Int) from rfl,e,ior_nat (by omega) (by omega) (by rw [h2];omega),h2]
theorem step_c {l:List Nat} {c b x:Nat} {K:Array Value→Int→Bool→World→Prop} (h:Hp E w F) (hl:l.length=258) (hs:VSt l c b) (hx:x≤1)
  (hK: ∀w',Hp E w' F→K (stA l (stp l c b x).1.1 (stp l c b x).1.2) (((stp l c b x).2.getD 0:Nat):Int) (stp l c b x).2.isSome w'):
  Cl Tryz.prog [.arr 260,kI,kB] n_prefixdec_Step ⟨[.agg (stA l c b),.int .i64 (x:Int)]⟩ w K:=by
 refine prefixdec_Step.ok _ _ _ _ ?_
 unfold prefixdec_Step.E
 simp only [Join_eq,add_mk,Nat.zero_add]
 rw [zeroSt]
 have hz:(stA (List.replicate 258 0) 0 0).size=260:=stA_size List.length_replicate
 have hml:(l.map fun (n:Nat)=>Value.int .u8 (n:Int)).length=258:=by simp [hl]
 have hp:(2:Nat)^b≤2^14:=Nat.pow_le_pow_right (by decide) (by have:=hs.2.1;omega)
 have hp2:(2:Nat)^14=16384:=by decide
 have hc:=hs.2.2.1
 have hb:=hs.2.1
 have h15:=le15 hs.1
 refine Nw.mk h fun b4 w1 h1=>Nw.mk h1 fun b6 w2 h2=> ?_
 have e1:ishr .i64 (x:Int) 1=0:=by
  rw [show (1:Int)=((1:Nat):Int) from rfl,ishr_nat (by decide)]
  omega
 rw [e1]
 refine ⟨by decide,IfB.f (by decide) ?_⟩
 refine Ld.arr h2.p1 (stA_size hl) (valid12_c h2 hl hb hc fun w3 h3=> ?_)
 refine IfB.f (by rw [hs.1,decide_eq_true hs.2.2.2];rfl) ?_
 have h3':=h3.p1
 rw [stA_parts l c b] at h3'
 refine Ld.sub h3' rfl hml (Ld.blk (s:= .int .i64) h3.p1 (c:Int) (stA_c hl) ⟨by decide,Ld.blk (s:= .int .i64) h3.p1 (b:Int) (stA_b hl) ?_⟩)
 rw [or_bit hx (by omega),i64_id (x:=(b:Int)+1) (by omega)]
 refine Bld.st3 (b:=b+1) hl (StA.blk h3 hz (stA_size hl) stA_scalar fun w4 h4=> ?_)
 have h4':=h4
 rw [stA_parts l (2*c+x) (b+1)] at h4'
 refine Ld.sub h4' rfl hml (Ld.blk (s:= .int .i64) h4 ((b+1:Nat):Int) (stA_b hl) (first12_c h4 hl h15 (by omega) fun w5 h5=>Ld.blk (s:= .int .i64) h5 ((2*c+x:Nat):Int) (stA_c hl) ?_))
 have hf:=fst_le (l:=l) (by omega) (b+1)
 have hm:=many_le (l:=l) (by omega) (b+1)
 have hp3:(2:Nat)^(b+1)=2*2^b:=by rw [Nat.pow_succ,Nat.mul_comm]
 rw [i64_id (by omega)]
 by_cases hcase:Srt.fst l (b+1)+many l (b+1)≤2*c+x
 ·refine IfB.t (decide_eq_true (by omega)) (Ld.arr h5 (stA_size hl) (StA.blk h5 (stA_size hl) (stA_size hl) stA_scalar fun w6 h6=>Ld.arr h6 (stA_size hl) ?_))
  have e:stp l c b x=((2*c+x,b+1),none):=by unfold stp;rw [if_pos hcase]
  rw [e] at hK
  exact hK _ h6.drop.drop
 ·refine IfB.f (decide_eq_false (by omega)) ?_
  have e:stp l c b x=((0,0),some (ofS l (b+1) (2*c+x - Srt.fst l (b+1)))):=by unfold stp;rw [if_neg hcase]
  rw [e] at hK
  have hge:=hs.ge
  have hmn:many l (b+1)=l.count (b+1):=by unfold many;rw [if_neg (by omega)]
  refine Drw.mk h5 fun w6 h6=> ?_
  have h6':=h6
  rw [stA_parts l (2*c+x) (b+1)] at h6'
  refine Ld.sub h6' rfl hml (Ld.blk (s:= .int .i64) h6 ((b+1:Nat):Int) (stA_b hl) (Ld.blk (s:= .int .i64) h6 ((2*c+x:Nat):Int) (stA_c hl) ?_))
  rw [i64_id (x:=((2*c+x:Nat):Int) - (Srt.fst l (b+1):Int)) (by omega),show ((2*c+x:Nat):Int) - (Srt.fst l (b+1):Int)=((2*c+x - Srt.fst l (b+1):Nat):Int) by omega]
  constructor
  ·have h7':=h6.p1
   rw [stA_parts l c b] at h7'
   refine Ld.sub h7' rfl hml (Bld.st0 hl (of_c h6 hl h15 (by omega) fun w7 h7=> ?_))
   exact StA.blk h7 (stA_size hl) (stA_size hl) stA_scalar fun w8 h8=>Ld.arr h8 (stA_size hl) (hK _ h8.drop.drop)
  ·refine of_c h6 hl h15 (by omega) fun w7 h7=> ?_
   have h7':=h7.p1
   rw [stA_parts l c b] at h7'
   refine Ld.sub h7' rfl hml (Bld.st0 hl ?_)
   exact StA.blk h7 (stA_size hl) (stA_size hl) stA_scalar fun w8 h8=>Ld.arr h8 (stA_size hl) (hK _ h8.drop.drop)
end
end Go.Proofs.YtcdpblipagajiaaGreat
namespace Go.Bits
def bitAt (b:List Nat) (i:Nat):Nat:=(b.getD (i/8) 0/2^(7 - i % 8)) % 2
def val (b:List Nat) (a:Nat):Nat→Nat
 |0=>0
 |n+1=>2*val b a n+bitAt b (a+n)
theorem bitAt_lt (b:List Nat) (i:Nat):bitAt b i<2:=Nat.mod_lt _ (by decide)
end Go.Bits
set_option maxRecDepth 20000
namespace Go.Srt
open Go.Bits
def by8 (b:List Nat) (j:Nat):Nat:=
 b.getD (8*j) 0*128+b.getD (8*j+1) 0*64+b.getD (8*j+2) 0*32+b.getD (8*j+3) 0*16+b.getD (8*j+4) 0*8+b.getD (8*j+5) 0*4+b.getD (8*j+6) 0*2+b.getD (8*j+7) 0
def packTo (b:List Nat) (m:Nat):List Nat:=(List.range m).map (by8 b)
def pack (b:List Nat):List Nat:=packTo b ((b.length+7)/8)
def Bits (b:List Nat):Prop:= ∀x∈b,x≤1
theorem Bits.getD {b:List Nat} (h:Bits b) (i:Nat):b.getD i 0≤1:=by
 rw [List.getD_eq_getElem?_getD]
 cases hx:b[i]? with
 |none=>simp
 |some x=>exact h x (List.mem_of_getElem? hx)
theorem Bits.app {a b:List Nat} (ha:Bits a) (hb:Bits b):Bits (a++b):=fun x hx=>by
 rcases List.mem_append.1 hx with h|h
 ·exact ha x h
 ·exact hb x h
theorem packTo_len (b:List Nat) (m:Nat):(packTo b m).length=m:=by simp [packTo]
theorem packTo_get {b:List Nat} {m j:Nat} (h:j<m):(packTo b m).getD j 0=by8 b j:=by
 unfold packTo
 rw [List.getD_eq_getElem?_getD,List.getElem?_map,List.getElem?_range h];rfl
theorem by8_lt {b:List Nat} (h:Bits b) (j:Nat):by8 b j<256:=by
 unfold by8
 have h0:=h.getD (8*j);have h1:=h.getD (8*j+1);have h2:=h.getD (8*j+2);have h3:=h.getD (8*j+3)
 have h4:=h.getD (8*j+4);have h5:=h.getD (8*j+5);have h6:=h.getD (8*j+6);have h7:=h.getD (8*j+7)
 omega
theorem packTo_lt {b:List Nat} (h:Bits b) (m:Nat): ∀y∈packTo b m,y<256:=fun y hy=>by
 obtain ⟨j,_,rfl⟩:=List.mem_map.1 hy
 exact by8_lt h j
theorem getD_ge {b:List Nat} {i:Nat} (h:b.length≤i):b.getD i 0=0:=by rw [List.getD_eq_getElem?_getD,List.getElem?_eq_none h];rfl
theorem getD_snoc (b:List Nat) (x i:Nat):(b++ [x]).getD i 0=b.getD i 0+if i=b.length then x else 0:=by
 rcases Nat.lt_trichotomy i b.length with h|h|h
 ·rw [if_neg (by omega),List.getD_eq_getElem?_getD,List.getElem?_append_left h,←List.getD_eq_getElem?_getD];rfl
 ·subst h
  rw [if_pos rfl,getD_ge (Nat.le_refl _),List.getD_eq_getElem?_getD,List.getElem?_append_right (Nat.le_refl _),Nat.sub_self]
  simp
 ·rw [if_neg (by omega),getD_ge (b:=b++ [x]) (by simp;omega),getD_ge (b:=b) (by omega)]
theorem by8_snoc (b:List Nat) (x j:Nat):by8 (b++ [x]) j=by8 b j+if j=b.length/8 then x*2^(7 - b.length % 8) else 0:=by
 unfold by8
 simp only [getD_snoc]
 by_cases hj:j=b.length/8
 ·rw [if_pos hj]
  have hr:b.length=8*j+b.length % 8:=by omega
  have h8:b.length % 8<8:=Nat.mod_lt _ (by decide)
  generalize b.length % 8=r at hr h8
  rw [hr]
  have:r=0∨r=1∨r=2∨r=3∨r=4∨r=5∨r=6∨r=7:=by omega
  rcases this with rfl|rfl|rfl|rfl|rfl|rfl|rfl|rfl<;>simp<;>omega
 ·rw [if_neg hj,if_neg (by omega),if_neg (by omega),if_neg (by omega),if_neg (by omega),if_neg (by omega),if_neg (by omega),if_neg (by omega),if_neg (by omega)]
  omega
theorem by8_top {b:List Nat} {j:Nat} (h:b.length≤8*j):by8 b j=0:=by
 unfold by8
 rw [getD_ge h,getD_ge (by omega),getD_ge (by omega),getD_ge (by omega),getD_ge (by omega),getD_ge (by omega),getD_ge (by omega),getD_ge (by omega)]
theorem by8_dvd (b:List Nat):2^(8 - b.length % 8)∣by8 b (b.length/8):=by
 have hr:b.length=8*(b.length/8)+b.length % 8:=by omega
 have h8:b.length % 8<8:=Nat.mod_lt _ (by decide)
 generalize hj:b.length/8=j at hr
 generalize b.length % 8=r at hr h8
 unfold by8
 have g: ∀i,r≤i→b.getD (8*j+i) 0=0:=fun i hi=>getD_ge (by omega)
 have:r=0∨r=1∨r=2∨r=3∨r=4∨r=5∨r=6∨r=7:=by omega
 have g0:=g 0;have g1:=g 1;have g2:=g 2;have g3:=g 3;have g4:=g 4;have g5:=g 5;have g6:=g 6;have g7:=g 7
 simp only [Nat.add_zero] at g0
 rcases this with rfl|rfl|rfl|rfl|rfl|rfl|rfl|rfl<;>simp only [Nat.reduceSub,Nat.reducePow]<;>omega
theorem or_bit8 {a r x:Nat} (hr:r<8) (hd:2^(8 - r)∣a) (hx:x≤1):a|||x*2^(7 - r)=a+x*2^(7 - r):=by
 obtain ⟨q,rfl⟩:=hd
 have hp:2^(8 - r)=2*2^(7 - r):=by rw [show 8 - r=(7 - r)+1 by omega,Nat.pow_succ,Nat.mul_comm]
 have hpos:=Nat.two_pow_pos (7 - r)
 refine (Nat.two_pow_add_eq_or_of_lt (i:=8 - r) ?_ q).symm
 have:x=0∨x=1:=by omega
 rcases this with rfl|rfl<;>omega
def room (b:List Nat):List Nat:=packTo b (b.length/8+1)
theorem room_eq (b:List Nat):room b=if b.length % 8=0 then pack b++ [0] else pack b:=by
 unfold room pack
 split
 ·rename_i h
  rw [show (b.length+7)/8=b.length/8 by omega]
  unfold packTo
  rw [List.range_succ,List.map_append]
  congr 1
  simp only [List.map_cons,List.map_nil]
  rw [by8_top (by omega)]
 ·rename_i h
  rw [show (b.length+7)/8=b.length/8+1 by omega]
theorem pack_snoc (b:List Nat) (x:Nat):pack (b++ [x])=(room b).set (b.length/8) (by8 b (b.length/8)+x*2^(7 - b.length % 8)):=by
 unfold pack room
 rw [List.length_append,List.length_singleton,show (b.length+1+7)/8=b.length/8+1 by omega]
 refine List.ext_getElem? fun i=> ?_
 unfold packTo
 rw [List.getElem?_set]
 simp only [List.getElem?_map,List.length_map,List.length_range]
 by_cases hi:i<b.length/8+1
 ·rw [List.getElem?_range hi]
  simp only [Option.map_some]
  rw [by8_snoc]
  by_cases e:b.length/8=i
  ·subst e;rw [if_pos rfl,if_pos rfl,if_pos hi]
  ·rw [if_neg (Ne.symm e),if_neg e,Nat.add_zero]
 ·rw [List.getElem?_eq_none (by simpa using hi)]
  simp only [Option.map_none]
  rw [if_neg (by omega)]
theorem bitAt_packTo {b:List Nat} (h:Bits b) {m i:Nat} (hi:i<8*m):bitAt (packTo b m) i=b.getD i 0:=by
 unfold bitAt
 rw [packTo_get (by omega)]
 have hr:i=8*(i/8)+i % 8:=by omega
 have h8:i % 8<8:=Nat.mod_lt _ (by decide)
 generalize i/8=j at hr
 generalize i % 8=r at hr h8
 subst hr
 unfold by8
 have h0:=h.getD (8*j);have h1:=h.getD (8*j+1);have h2:=h.getD (8*j+2);have h3:=h.getD (8*j+3)
 have h4:=h.getD (8*j+4);have h5:=h.getD (8*j+5);have h6:=h.getD (8*j+6);have h7:=h.getD (8*j+7)
 have:r=0∨r=1∨r=2∨r=3∨r=4∨r=5∨r=6∨r=7:=by omega
 rcases this with rfl|rfl|rfl|rfl|rfl|rfl|rfl|rfl<;>simp only [Nat.reduceSub,Nat.reducePow,Nat.add_zero]<;>omega
theorem pack_len (b:List Nat):(pack b).length=(b.length+7)/8:=packTo_len _ _
end Go.Srt
set_option maxRecDepth 20000
namespace Go.Srt
open Go.Bits
def bn:Nat→Nat→List Nat
 |0,_=> []
 |n+1,v=>bn n (v/2)++ [v % 2]
theorem bn_len: ∀n v,(bn n v).length=n
 |0,_=>rfl
 |n+1,v=>by rw [bn,List.length_append,bn_len n];rfl
theorem bn_bits: ∀n v,Bits (bn n v)
 |0,_=>fun x hx=>by cases hx
 |n+1,v=>(bn_bits n _).app fun x hx=>by have:x=v % 2:=by simpa using hx
                                        omega
theorem bn_get: ∀n v i,i<n→(bn n v).getD i 0=v/2^(n - 1 - i) % 2
 |0,_,_,h=>by omega
 |n+1,v,i,h=>by
  rw [bn,getD_snoc,bn_len]
  by_cases e:i=n
  ·subst e
   rw [if_pos rfl,getD_ge (by rw [bn_len];exact Nat.le_refl _),show i+1 - 1 - i=0 by omega];simp
  ·rw [if_neg e,bn_get n _ i (by omega),Nat.add_zero,Nat.div_div_eq_div_mul]
   congr 2
   rw [show n+1 - 1 - i=(n - 1 - i)+1 by omega,Nat.pow_succ,Nat.mul_comm]
def goodS (l:List Nat) (s:Nat):Prop:=s<258∧0<l.getD s 0
def encB (l:List Nat) (s:Nat):List Nat:=bn (l.getD s 0) (code l s)
def enc (l:List Nat) (ss:List Nat):List Nat:=ss.flatMap (encB l)
theorem enc_bits (l:List Nat) (ss:List Nat):Bits (enc l ss):=fun x hx=>by
 obtain ⟨s,_,h⟩:=List.mem_flatMap.1 hx
 exact bn_bits _ _ x h
theorem enc_app (l a b:List Nat):enc l (a++b)=enc l a++enc l b:=List.flatMap_append
theorem enc_cons (l:List Nat) (s:Nat) (b:List Nat):enc l (s::b)=encB l s++enc l b:=List.flatMap_cons
def findS (l:List Nat) (c n:Nat):Option Nat:=(List.range 258).find? fun s=>decide (0<l.getD s 0)&&(l.getD s 0==n)&&(code l s==c)
theorem findS_some {l:List Nat} {c n s:Nat} (h:findS l c n=some s):goodS l s∧l.getD s 0=n∧code l s=c:=by
 unfold findS at h
 have h1:=List.find?_some h
 have h2:=List.mem_of_find?_eq_some h
 simp only [Bool.and_eq_true,decide_eq_true_eq,beq_iff_eq] at h1
 exact ⟨⟨by simpa using h2,h1.1.1⟩,h1.1.2,h1.2⟩
theorem findS_none {l:List Nat} {c n:Nat} (h:findS l c n=none) {s:Nat} (hs:goodS l s): ¬(l.getD s 0=n∧code l s=c):=by
 unfold findS at h
 have:=List.find?_eq_none.1 h s (by simpa using hs.1)
 simp only [Bool.and_eq_true,decide_eq_true_eq,beq_iff_eq] at this
 exact fun hh=>this ⟨⟨hs.2,hh.1⟩,hh.2⟩
theorem code_inj {l:List Nat} (hl:l.length=258) {s t:Nat} (hs:goodS l s) (ht:goodS l t) (h1:l.getD s 0=l.getD t 0) (h2:code l s=code l t):s=t:=by
 have h3:=hs.1;have h4:=ht.1
 refine rank_inj (by omega) (by omega) h1 ?_
 unfold code at h2
 rw [h1] at h2
 omega
theorem findS_self {l:List Nat} (hl:l.length=258) {s:Nat} (hs:goodS l s):findS l (code l s) (l.getD s 0)=some s:=by
 cases h:findS l (code l s) (l.getD s 0) with
 |none=>exact absurd ⟨rfl,rfl⟩ (findS_none h hs)
 |some t=>
  obtain ⟨h1,h2,h3⟩:=findS_some h
  rw [code_inj hl h1 hs h2 h3]
theorem findS_pre {l:List Nat} (hl:l.length=258) (hv:ksum l≤32768) {s m:Nat} (hs:goodS l s) (hm:m<l.getD s 0):findS l (code l s/2^(l.getD s 0 - m)) m=none:=by
 cases h:findS l (code l s/2^(l.getD s 0 - m)) m with
 |none=>rfl
 |some t=>
  exfalso
  obtain ⟨h1,h2,h3⟩:=findS_some h
  have h15:=len15 hv s
  have p1:=code_pos hv s
  have p2:=code_pos hv t
  rw [h2,h3] at p2
  have e:2^(15 - m)=2^(l.getD s 0 - m)*2^(15 - l.getD s 0):=by rw [←Nat.pow_add];congr 1;omega
  have hq:=Nat.div_mul_le_self (code l s) (2^(l.getD s 0 - m))
  have hr:=Nat.lt_div_mul_add (a:=code l s) (b:=2^(l.getD s 0 - m)) (Nat.two_pow_pos _)
  have ha:pos l t≤pos l s:=by
   rw [←p1,←p2,e,←Nat.mul_assoc];exact Nat.mul_le_mul_right _ hq
  have hb:pos l s<pos l t+2^(15 - l.getD t 0):=by
   rw [h2,←p1,←p2,e,←Nat.mul_assoc,←Nat.add_mul]
   exact Nat.mul_lt_mul_of_pos_right hr (Nat.two_pow_pos _)
  have h4:=hs.1;have h5:=h1.1
  have:s=t:=pos_uniq (x:=pos l s) (by omega) (by omega) hs.2 h1.2 (Nat.le_refl _) (by have:=Nat.two_pow_pos (15 - l.getD s 0);omega) ha hb
  subst this
  omega
def bitsOf (b:List Nat) (n:Nat):List Nat:=(List.range n).map (bitAt b)
theorem bitsOf_len (b:List Nat) (n:Nat):(bitsOf b n).length=n:=by simp [bitsOf]
theorem bitsOf_bits (b:List Nat) (n:Nat):Bits (bitsOf b n):=fun x hx=>by
 obtain ⟨i,_,rfl⟩:=List.mem_map.1 hx
 have:=bitAt_lt b i
 omega
end Go.Srt
set_option maxRecDepth 20000
namespace Go.Srt
theorem stp_find {l:List Nat} {c b x:Nat} (hl:l.length=258) (h:VSt l c b) (hx:x≤1):(stp l c b x).2=findS l (2*c+x) (b+1):=by
 cases hs:(stp l c b x).2 with
 |some s=>
  obtain ⟨h1,h2,h3,h4⟩:=stp_done hl h hx hs
  have:=findS_self hl (s:=s) ⟨h1,by omega⟩
  rw [h2,h3] at this
  exact this.symm
 |none=>
  cases hf:findS l (2*c+x) (b+1) with
  |none=>rfl
  |some s=>
   obtain ⟨⟨h1,h2⟩,h3,h4⟩:=findS_some hf
   have hr:=rank_lt (l:=l) (s:=s) (by omega) h2
   unfold code at h4
   unfold stp at hs
   split at hs
   ·rename_i hle
    rw [h3] at h4 hr
    omega
   ·cases hs
theorem stp_fst {l:List Nat} {c b x:Nat}:(stp l c b x).1=match (stp l c b x).2 with|none=>(2*c+x,b+1)|some _=>(0,0):=by
 cases hs:(stp l c b x).2 with
 |none=>exact stp_none hs
 |some s=>exact stp_some hs
end Go.Srt
namespace Go.Proofs.YtcdpblipagajiaaGreat
open Go Go.Vc
set_option maxRecDepth 100000 in
def symdec_New.E (most1:Int) (R:(Array Value)→World→Prop) (w:World):Prop:=
 Nw 149 ⟨List.replicate 256 (.int .u8 0)++ [(.int .i64 0),(.int .i64 0),(.int .i64 0),(.bool false)]⟩ w fun (b3:Nat) (w_2:World)=>
 IfB (decide ((most1:Int)<(1:Int)))
 (Ld (.arr 260) (⟨b3,0,none⟩:Addr) w_2 fun (x4:(Array Value))=>
 StA 260 (⟨b3,0,none⟩:Addr) x4 w_2 fun (w_5:World)=>
 Ld (.arr 260) (⟨b3,0,none⟩:Addr) w_5 fun (res6:(Array Value))=>
 R (res6) w_5)
 (IfB (decide ((most1:Int)>(65536:Int)))
 (Ld (.arr 260) (⟨b3,0,none⟩:Addr) w_2 fun (x7:(Array Value))=>
 StA 260 (⟨b3,0,none⟩:Addr) x7 w_2 fun (w_8:World)=>
 Ld (.arr 260) (⟨b3,0,none⟩:Addr) w_8 fun (res9:(Array Value))=>
 R (res9) w_8)
 (Cl Tryz.prog [(.arr 256)] n_mtf_New ⟨[]⟩ w_2 fun (r11:(Array Value)) (w_10:World)=>
 Bld Tryz.prog 149 [(0,(.agg r11)),(1,(.int .i64 most1))] fun (cs12:Array Value)=>
 StA 260 (⟨b3,0,none⟩:Addr) cs12 w_10 fun (w_13:World)=>
 Ld (.arr 260) (⟨b3,0,none⟩:Addr) w_13 fun (res14:(Array Value))=>
 R (res14) w_13))
set_option maxRecDepth 100000 in
theorem symdec_New.ok (most1:Int) (R:(Array Value)→World→Prop) (w:World) (h:symdec_New.E most1 R w):Cl Tryz.prog [(.arr 260)] n_symdec_New ⟨[(.int .i64 most1)]⟩ w R:=
 calls_of_eq Tryz.mix Tryz.f102 [(.int .i64 most1)] [(.arr 260)] R 13 [.cell 2 149] (by kernel_rfl) (by kernel_rfl) (by kernel_rfl) (by kernel_rfl) (by kernel_rfl)
  (.s .o (.s (.s .o (.c (.s .o .o) .o)) (.s .o .o)))
  (by kernel_rfl) h
set_option maxRecDepth 100000 in
def symdec_Step.E (b1:(Array Value)) (symbol2:Int) (R:(Array Value)→Sl→Bool→Int→World→Prop) (w:World):Prop:=
 Nw 149 b1 w fun (b4:Nat) (w_3:World)=>
 Nw 149 ⟨List.replicate 256 (.int .u8 0)++ [(.int .i64 0),(.int .i64 0),(.int .i64 0),(.bool false)]⟩ w_3 fun (b6:Nat) (w_5:World)=>
 Join (fun (w_24:World)=>
 Ld (.arr 260) (⟨b4,0,none⟩:Addr) w_24 fun (x25:(Array Value))=>
 Cl Tryz.prog [(.arr 260),kS,kB] n_symdec_step ⟨[(.agg x25),(.int .i64 symbol2)]⟩ w_24 fun (r27:(Array Value)) (r28:Sl) (r29:Bool) (w_26:World)=>
 StA 260 (⟨b6,0,none⟩:Addr) r27 w_26 fun (w_30:World)=>
 IfB (!r29)
 (Ld (.arr 260) (⟨b4,0,none⟩:Addr) w_30 fun (x31:(Array Value))=>
 StA 260 (⟨b6,0,none⟩:Addr) x31 w_30 fun (w_32:World)=>
 Ld (.arr 260) (⟨b6,0,none⟩:Addr) w_32 fun (res33:(Array Value))=>
 R (res33) ((⟨none,0,0⟩:Sl)) (false) (160) w_32)
 (Ld (.arr 260) (⟨b6,0,none⟩:Addr) w_30 fun (x34:(Array Value))=>
 Ld kB ((⟨b6,0,none⟩:Addr).add 259) w_30 fun (Done35:Bool)=>
 StA 260 (⟨b6,0,none⟩:Addr) x34 w_30 fun (w_36:World)=>
 Ld (.arr 260) (⟨b6,0,none⟩:Addr) w_36 fun (res37:(Array Value))=>
 R (res37) (r28) (Done35) (0) w_36)) fun (K_7:World→Prop)=>
 Ld (.arr 260) (⟨b4,0,none⟩:Addr) w_5 fun (x8:(Array Value))=>
 Cl Tryz.prog [kB] n_symdec_Valid ⟨[(.agg x8)]⟩ w_5 fun (r10:Bool) (w_9:World)=>
 IfB (!r10)
 (Ld (.arr 260) (⟨b4,0,none⟩:Addr) w_9 fun (x11:(Array Value))=>
 StA 260 (⟨b6,0,none⟩:Addr) x11 w_9 fun (w_12:World)=>
 Ld (.arr 260) (⟨b6,0,none⟩:Addr) w_12 fun (res13:(Array Value))=>
 R (res13) ((⟨none,0,0⟩:Sl)) (false) (2) w_12)
 (Ld kB ((⟨b4,0,none⟩:Addr).add 259) w_9 fun (Done14:Bool)=>
 IfB Done14
 (Ld (.arr 260) (⟨b4,0,none⟩:Addr) w_9 fun (x15:(Array Value))=>
 StA 260 (⟨b6,0,none⟩:Addr) x15 w_9 fun (w_16:World)=>
 Ld (.arr 260) (⟨b6,0,none⟩:Addr) w_16 fun (res17:(Array Value))=>
 R (res17) ((⟨none,0,0⟩:Sl)) (false) (2) w_16)
 (IfB (decide ((symbol2:Int)<(0:Int)))
 (Ld (.arr 260) (⟨b4,0,none⟩:Addr) w_9 fun (x18:(Array Value))=>
 StA 260 (⟨b6,0,none⟩:Addr) x18 w_9 fun (w_19:World)=>
 Ld (.arr 260) (⟨b6,0,none⟩:Addr) w_19 fun (res20:(Array Value))=>
 R (res20) ((⟨none,0,0⟩:Sl)) (false) (2) w_19)
 (IfB (decide ((symbol2:Int)>(257:Int)))
 (Ld (.arr 260) (⟨b4,0,none⟩:Addr) w_9 fun (x21:(Array Value))=>
 StA 260 (⟨b6,0,none⟩:Addr) x21 w_9 fun (w_22:World)=>
 Ld (.arr 260) (⟨b6,0,none⟩:Addr) w_22 fun (res23:(Array Value))=>
 R (res23) ((⟨none,0,0⟩:Sl)) (false) (2) w_22)
 (K_7 w_9))))
set_option maxRecDepth 100000 in
theorem symdec_Step.ok (b1:(Array Value)) (symbol2:Int) (R:(Array Value)→Sl→Bool→Int→World→Prop) (w:World) (h:symdec_Step.E b1 symbol2 R w):Cl Tryz.prog [(.arr 260),kS,kB,kI] n_symdec_Step ⟨[(.agg b1),(.int .i64 symbol2)]⟩ w R:=
 calls_of_eq Tryz.mix Tryz.f104 [(.agg b1),(.int .i64 symbol2)] [(.arr 260),kS,kB,kI] R 39 [.cell 4 149,.tmp 5,.tmp 6,.tmp 7] (by kernel_rfl) (by kernel_rfl) (by kernel_rfl) (by kernel_rfl) (by kernel_rfl)
  (.s .o (.j [] (.s .o (.c (.s .o .o) .o)) (.s .o (.s (.s .o (.c (.s .o .o) .o)) (.s .o .o)))))
  (by kernel_rfl) h
set_option maxRecDepth 100000 in
def symdec_Valid.E (b1:(Array Value)) (R:Bool→World→Prop) (w:World):Prop:=
 Nw 149 b1 w fun (b3:Nat) (w_2:World)=>
 Join (fun (w_15:World)=>
 Ld kI ((⟨b3,0,none⟩:Addr).add 258) w_15 fun (Digits16:Int)=>
 0≤(Digits16:Int)∧
 Ld kI ((⟨b3,0,none⟩:Addr).add 257) w_15 fun (Run17:Int)=>
 IfB (decide ((Run17:Int)<((i64 (((ishl .i64 (1:Int) (Digits16:Int)):Int) - (1:Int))):Int)))
 (R (false) w_15)
 (Ld kI ((⟨b3,0,none⟩:Addr).add 257) w_15 fun (Run18:Int)=>
 IfB (decide ((Run18:Int)>((i64 ((2:Int)*((i64 (((ishl .i64 (1:Int) (Digits16:Int)):Int) - (1:Int))):Int))):Int)))
 (R (false) w_15)
 (Ld kB ((⟨b3,0,none⟩:Addr).add 259) w_15 fun (Done19:Bool)=>
 IfB (!Done19)
 (R (true) w_15)
 (Ld (.arr 260) (⟨b3,0,none⟩:Addr) w_15 fun (x20:(Array Value))=>
 Ld (.arr 256) ((⟨b3,0,none⟩:Addr).add 0) w_15 fun (List21:(Array Value))=>
 Bld Tryz.prog 149 [(0,(.agg List21)),(4,(.bool true))] fun (cs22:Array Value)=>
 EqW Tryz.prog 149 x20 cs22 fun (eq23:Bool)=>
 R (eq23) w_15)))) fun (K_4:World→Prop)=>
 Ld (.arr 256) ((⟨b3,0,none⟩:Addr).add 0) w_2 fun (List5:(Array Value))=>
 Cl Tryz.prog [kB] n_mtf_Valid ⟨[(.agg List5)]⟩ w_2 fun (r7:Bool) (w_6:World)=>
 IfB (!r7)
 (R (false) w_6)
 (Ld kI ((⟨b3,0,none⟩:Addr).add 256) w_6 fun (Left8:Int)=>
 IfB (decide ((Left8:Int)<(0:Int)))
 (R (false) w_6)
 (Ld kI ((⟨b3,0,none⟩:Addr).add 256) w_6 fun (Left9:Int)=>
 IfB (decide ((Left9:Int)>(65536:Int)))
 (R (false) w_6)
 (Ld kI ((⟨b3,0,none⟩:Addr).add 257) w_6 fun (Run10:Int)=>
 IfB (decide ((Run10:Int)<(0:Int)))
 (R (false) w_6)
 (Ld kI ((⟨b3,0,none⟩:Addr).add 257) w_6 fun (Run11:Int)=>
 Ld kI ((⟨b3,0,none⟩:Addr).add 256) w_6 fun (Left12:Int)=>
 IfB (decide ((Run11:Int)>(Left12:Int)))
 (R (false) w_6)
 (Ld kI ((⟨b3,0,none⟩:Addr).add 258) w_6 fun (Digits13:Int)=>
 IfB (decide ((Digits13:Int)<(0:Int)))
 (R (false) w_6)
 (Ld kI ((⟨b3,0,none⟩:Addr).add 258) w_6 fun (Digits14:Int)=>
 IfB (decide ((Digits14:Int)>(16:Int)))
 (R (false) w_6)
 (K_4 w_6)))))))
set_option maxRecDepth 100000 in
theorem symdec_Valid.ok (b1:(Array Value)) (R:Bool→World→Prop) (w:World) (h:symdec_Valid.E b1 R w):Cl Tryz.prog [kB] n_symdec_Valid ⟨[(.agg b1)]⟩ w R:=
 calls_of_eq Tryz.mix Tryz.f157 [(.agg b1)] [kB] R 65 [.tmp 2] (by kernel_rfl) (by kernel_rfl) (by kernel_rfl) (by kernel_rfl) (by kernel_rfl)
  (.s .o (.j [] (.s .o (.c (.s .o .o) .o)) (.s .o (.s (.s .o (.c (.s .o .o) .o)) (.s .o .o)))))
  (by kernel_rfl) h
set_option maxRecDepth 100000 in
def symdec_step.E (b1:(Array Value)) (symbol2:Int) (R:(Array Value)→Sl→Bool→World→Prop) (w:World):Prop:=
 Nw 149 b1 w fun (b4:Nat) (w_3:World)=>
 Nw 149 ⟨List.replicate 256 (.int .u8 0)++ [(.int .i64 0),(.int .i64 0),(.int .i64 0),(.bool false)]⟩ w_3 fun (b6:Nat) (w_5:World)=>
 Join (fun (t10_8:Bool) (w_9:World)=>
 IfB t10_8
 (Ld kI ((⟨b4,0,none⟩:Addr).add 257) w_9 fun (Run10:Int)=>
 Ld kI ((⟨b4,0,none⟩:Addr).add 258) w_9 fun (Digits11:Int)=>
 Cl Tryz.prog [kI,kI] n_zerorun_Add ⟨[(.int .i64 Run10),(.int .i64 Digits11),(.int .i64 symbol2)]⟩ w_9 fun (r13:Int) (r14:Int) (w_12:World)=>
 St ((⟨b4,0,none⟩:Addr).add 257) (.int .i64 r13) w_12 fun (w_15:World)=>
 Ld kI ((⟨b4,0,none⟩:Addr).add 258) w_15 fun (Digits16:Int)=>
 St ((⟨b4,0,none⟩:Addr).add 258) (.int .i64 (i64 ((Digits16:Int)+(1:Int)))) w_15 fun (w_17:World)=>
 Held w_17 fun (S18:World→Prop) (w_19:World)=>
 LdS (.arr 260) (⟨b4,0,none⟩:Addr) S18 fun (x20:(Array Value))=>
 LdS kI ((⟨b4,0,none⟩:Addr).add 257) S18 fun (Run21:Int)=>
 LdS kI ((⟨b4,0,none⟩:Addr).add 256) S18 fun (Left22:Int)=>
 StA 260 (⟨b6,0,none⟩:Addr) x20 w_19 fun (w_23:World)=>
 S18 w_23∧
 Ld (.arr 260) (⟨b6,0,none⟩:Addr) w_23 fun (res24:(Array Value))=>
 R (res24) ((⟨none,0,0⟩:Sl)) ((decide ((Run21:Int)≤(Left22:Int)))) w_23)
 (IfB ((symbol2:Int)==(257:Int))
 (Held w_9 fun (S25:World→Prop) (w_26:World)=>
 LdS (.arr 256) ((⟨b4,0,none⟩:Addr).add 0) S25 fun (List27:(Array Value))=>
 Bld Tryz.prog 149 [(0,(.agg List27)),(4,(.bool true))] fun (cs28:Array Value)=>
 LdS (.arr 260) (⟨b4,0,none⟩:Addr) S25 fun (x29:(Array Value))=>
 LdS kI ((⟨b4,0,none⟩:Addr).add 257) S25 fun (Run30:Int)=>
 LdS kI ((⟨b4,0,none⟩:Addr).add 256) S25 fun (Left31:Int)=>
 Cl Tryz.prog [kS] n_symdec_run ⟨[(.agg x29)]⟩ w_26 fun (r33:Sl) (w_32:World)=>
 S25 w_32∧
 StA 260 (⟨b6,0,none⟩:Addr) cs28 w_32 fun (w_34:World)=>
 S25 w_34∧
 Ld (.arr 260) (⟨b6,0,none⟩:Addr) w_34 fun (res35:(Array Value))=>
 R (res35) (r33) (((Run30:Int)==(Left31:Int))) w_34)
 (Ld kI ((⟨b4,0,none⟩:Addr).add 257) w_9 fun (Run36:Int)=>
 Ld kI ((⟨b4,0,none⟩:Addr).add 256) w_9 fun (Left37:Int)=>
 IfB ((Run36:Int)==(Left37:Int))
 (Ld (.arr 260) (⟨b4,0,none⟩:Addr) w_9 fun (x38:(Array Value))=>
 StA 260 (⟨b6,0,none⟩:Addr) x38 w_9 fun (w_39:World)=>
 Ld (.arr 260) (⟨b6,0,none⟩:Addr) w_39 fun (res40:(Array Value))=>
 R (res40) ((⟨none,0,0⟩:Sl)) (false) w_39)
 (Ld (.arr 256) ((⟨b4,0,none⟩:Addr).add 0) w_9 fun (List41:(Array Value))=>
 Cl Tryz.prog [(.arr 256),(kInt .u8),kB] n_mtf_Take ⟨[(.agg List41),(.int .i64 (i64 ((symbol2:Int) - (1:Int))))]⟩ w_9 fun (r43:(Array Value)) (r44:Int) (r45:Bool) (w_42:World)=>
 Nw 108 ⟨List.replicate 256 (.int .u8 0)⟩ w_42 fun (b47:Nat) (w_46:World)=>
 StA 256 (⟨b47,0,none⟩:Addr) r43 w_46 fun (w_48:World)=>
 Ld (.arr 260) (⟨b4,0,none⟩:Addr) w_48 fun (x49:(Array Value))=>
 Cl Tryz.prog [kS] n_symdec_run ⟨[(.agg x49)]⟩ w_48 fun (r51:Sl) (w_50:World)=>
 Nw 5 ⟨[(.int .u8 r44)]⟩ w_50 fun (b53:Nat) (w_52:World)=>
 Run Tryz.prog (Builtin.append_ #[22,22] 22 ⟨[(.slice r51.base r51.len r51.cap),(.slice (⟨some ⟨b53,0,none⟩,1,1⟩:Sl).base (⟨some ⟨b53,0,none⟩,1,1⟩:Sl).len (⟨some ⟨b53,0,none⟩,1,1⟩:Sl).cap)]⟩) kS w_52 fun (s55:Sl) (w_54:World)=>
 Ld (.arr 256) (⟨b47,0,none⟩:Addr) w_54 fun (x56:(Array Value))=>
 Ld kI ((⟨b4,0,none⟩:Addr).add 256) w_54 fun (Left57:Int)=>
 Bld Tryz.prog 149 [(0,(.agg x56)),(1,(.int .i64 (i64 ((Left57:Int) - ((s55.len:Int):Int)))))] fun (cs58:Array Value)=>
 StA 260 (⟨b6,0,none⟩:Addr) cs58 w_54 fun (w_59:World)=>
 Ld (.arr 260) (⟨b6,0,none⟩:Addr) w_59 fun (res60:(Array Value))=>
 R (res60) (s55) (true) w_59)))) fun (K_7:Bool→World→Prop)=>
 IfB ((symbol2:Int)==(0:Int))
 (K_7 (true) w_5)
 (K_7 (((symbol2:Int)==(1:Int))) w_5)
set_option maxRecDepth 100000 in
theorem symdec_step.ok (b1:(Array Value)) (symbol2:Int) (R:(Array Value)→Sl→Bool→World→Prop) (w:World) (h:symdec_step.E b1 symbol2 R w):Cl Tryz.prog [(.arr 260),kS,kB] n_symdec_step ⟨[(.agg b1),(.int .i64 symbol2)]⟩ w R:=
 calls_of_eq Tryz.mix Tryz.f158 [(.agg b1),(.int .i64 symbol2)] [(.arr 260),kS,kB] R 79 [.cell 4 149,.tmp 5,.tmp 6] (by kernel_rfl) (by kernel_rfl) (by kernel_rfl) (by kernel_rfl) (by kernel_rfl)
  (.s .o (.s (.b (.j [(10,kB)] .o (.c (.s .o (.s .o (.s .o .o))) (.s .o (.c (.s .o .o) (.s .o (.c (.s .o .o) .o))))))) (.s .o (.s .o (.s .o .o)))))
  (by kernel_rfl) h
def symdec_run.E (b1:(Array Value)) (R:Sl→World→Prop) (w:World):Prop:=
 Nw 149 b1 w fun (b3:Nat) (w_2:World)=>
 Drw w_2 fun (w_4:World)=>
 Slc (⟨some ((⟨b3,0,none⟩:Addr).add 0),256,256⟩:Sl) 0 1 256 1 fun (s5:Sl)=>
 Ld kI ((⟨b3,0,none⟩:Addr).add 257) w_4 fun (Run6:Int)=>
 Cl Tryz.prog [kS] n_bytes_Repeat ⟨[(.slice s5.base s5.len s5.cap),(.int .i64 Run6)]⟩ w_4 fun (r8:Sl) (w_7:World)=>
 R (r8) w_7
theorem symdec_run.ok (b1:(Array Value)) (R:Sl→World→Prop) (w:World) (h:symdec_run.E b1 R w):Cl Tryz.prog [kS] n_symdec_run ⟨[(.agg b1)]⟩ w R:=
 calls_of_eq Tryz.mix Tryz.f194 [(.agg b1)] [kS] R 8 [.tmp 2] (by kernel_rfl) (by kernel_rfl) (by kernel_rfl) (by kernel_rfl) (by kernel_rfl)
  (.s .o (.s .o .o))
  (by kernel_rfl) h
end Go.Proofs.YtcdpblipagajiaaGreat
namespace Go.Proofs.YtcdpblipagajiaaGreat
open Go Go.Vc
def bytes_Clone.E (b1:Sl) (R:Sl→World→Prop) (w:World):Prop:=
 IfB (Option.isNone (b1).base)
 (R ((⟨none,0,0⟩:Sl)) w)
 (Nw 5 ⟨[]⟩ w fun (b3:Nat) (w_2:World)=>
 Run Tryz.prog (Builtin.append_ #[22,22] 22 ⟨[(.slice (⟨some ⟨b3,0,none⟩,0,0⟩:Sl).base (⟨some ⟨b3,0,none⟩,0,0⟩:Sl).len (⟨some ⟨b3,0,none⟩,0,0⟩:Sl).cap),(.slice b1.base b1.len b1.cap)]⟩) kS w_2 fun (s5:Sl) (w_4:World)=>
 R (s5) w_4)
theorem bytes_Clone.ok (b1:Sl) (R:Sl→World→Prop) (w:World) (h:bytes_Clone.E b1 R w):Cl Tryz.prog [kS] n_bytes_Clone ⟨[(.slice b1.base b1.len b1.cap)]⟩ w R:=
 calls_of_eq Tryz.mix Tryz.f57 [(.slice b1.base b1.len b1.cap)] [kS] R 8 [.tmp 2] (by kernel_rfl) (by kernel_rfl) (by kernel_rfl) (by kernel_rfl) (by kernel_rfl)
  (.s .o (.s (.s .o (.c (.s .o .o) .o)) (.s .o .o)))
  (by kernel_rfl) h
set_option maxRecDepth 100000 in
def bytes_IndexByte.E (b1:Sl) (c2:Int) (R:Int→World→Prop) (w:World):Prop:=
 Ext Tryz.prog n_internal_bytealg_IndexByte ⟨[(.slice b1.base b1.len b1.cap),(.int .u8 c2)]⟩ [kI] w fun (r4:Int) (w_3:World)=>
 R (r4) w_3
set_option maxRecDepth 100000 in
theorem bytes_IndexByte.ok (b1:Sl) (c2:Int) (R:Int→World→Prop) (w:World) (h:bytes_IndexByte.E b1 c2 R w):Cl Tryz.prog [kI] n_bytes_IndexByte ⟨[(.slice b1.base b1.len b1.cap),(.int .u8 c2)]⟩ w R:=
 calls_of_eq Tryz.mix Tryz.f174 [(.slice b1.base b1.len b1.cap),(.int .u8 c2)] [kI] R 8 [.tmp 4] (by kernel_rfl) (by kernel_rfl) (by kernel_rfl) (by kernel_rfl) (by kernel_rfl)
  (.s .o (.s .o .o))
  (by kernel_rfl) h
set_option maxRecDepth 100000 in
def bytes_Repeat.E (b1:Sl) (count2:Int) (R:Sl→World→Prop) (w:World):Prop:=
 IfB ((count2:Int)==(0:Int))
 (Nw 5 ⟨[]⟩ w fun (b4:Nat) (w_3:World)=>
 R ((⟨some ⟨b4,0,none⟩,0,0⟩:Sl)) w_3)
 (Join (fun (w_7:World)=>
 Cl Tryz.prog [(kInt .u64),(kInt .u64)] n_math_bits_Mul ⟨[(.int .u64 (u64 (b1.len:Int))),(.int .u64 (u64 count2))]⟩ w_7 fun (r9:Int) (r10:Int) (w_8:World)=>
 Join (fun (w_14:World)=>
 IfB (((b1.len:Int):Int)==(0:Int))
 (Nw 5 ⟨[]⟩ w_14 fun (b16:Nat) (w_15:World)=>
 R ((⟨some ⟨b16,0,none⟩,0,0⟩:Sl)) w_15)
 (Join (fun (chunkMax18:Int) (w_19:World)=>
 Ext Tryz.prog n_internal_bytealg_MakeNoZero ⟨[(.int .i64 (i64 r10))]⟩ [kS] w_19 fun (r21:Sl) (w_20:World)=>
 Slc r21 0 (i64 r10) (i64 r10) 1 fun (s22:Sl)=>
 Run Tryz.prog (Builtin.copy_ #[22,22] 3 ⟨[(.slice s22.base s22.len s22.cap),(.slice b1.base b1.len b1.cap)]⟩) kI w_20 fun (n24:Int) (w_23:World)=>
 ∃(I_25:Int→World→Prop) (m_26:Int→World→Nat),I_25 (n24) w_23∧
 ∀(bp27:Int),∀(w_28:World),I_25 bp27 w_28→
 IfB (decide ((bp27:Int)<((i64 r10):Int)))
 (Drw w_28 fun (w_29:World)=>
 Slc s22 bp27 (s22).len (s22).cap 1 fun (s30:Sl)=>
 Slc s22 0 (if (chunkMax18:Int)<(bp27:Int) then (chunkMax18:Int) else (bp27:Int)) (s22).cap 1 fun (s31:Sl)=>
 Run Tryz.prog (Builtin.copy_ #[22,22] 3 ⟨[(.slice s30.base s30.len s30.cap),(.slice s31.base s31.len s31.cap)]⟩) kI w_29 fun (n33:Int) (w_32:World)=>
 I_25 ((i64 ((bp27:Int)+(n33:Int)))) w_32∧m_26 ((i64 ((bp27:Int)+(n33:Int)))) w_32<m_26 bp27 w_28)
 (R (s22) w_28)) fun (K_17:Int→World→Prop)=>
 IfB (decide (((i64 r10):Int)>(8192:Int)))
 (((b1.len:Int):Int)≠0∧
 IfB (((i64 (((i64 (Int.tdiv (8192:Int) ((b1.len:Int):Int))):Int)*((b1.len:Int):Int))):Int)==(0:Int))
 (K_17 ((b1.len:Int)) w_14)
 (K_17 ((i64 (((i64 (Int.tdiv (8192:Int) ((b1.len:Int):Int))):Int)*((b1.len:Int):Int)))) w_14))
 (K_17 ((i64 r10)) w_14))) fun (K_11:World→Prop)=>
 IfB (decide ((r9:Int)>(0:Int)))
 (False)
 (IfB (decide ((r10:Int)>(9223372036854775807:Int)))
 (False)
 (K_11 w_8))) fun (K_5:World→Prop)=>
 IfB (decide ((count2:Int)<(0:Int)))
 (False)
 (K_5 w))
set_option maxRecDepth 100000 in
theorem bytes_Repeat.ok (b1:Sl) (count2:Int) (R:Sl→World→Prop) (w:World) (h:bytes_Repeat.E b1 count2 R w):Cl Tryz.prog [kS] n_bytes_Repeat ⟨[(.slice b1.base b1.len b1.cap),(.int .i64 count2)]⟩ w R:=
 calls_of_eq Tryz.mix Tryz.f207 [(.slice b1.base b1.len b1.cap),(.int .i64 count2)] [kS] R 77 [.tmp 4] (by kernel_rfl) (by kernel_rfl) (by kernel_rfl) (by kernel_rfl) (by kernel_rfl)
  (.s .o (.s (.s .o (.c (.s .o .o) .o)) (.j [] (.s .o (.c .o .o)) (.s .o (.j [] (.s .o (.c .o .o)) (.s .o (.s (.s .o (.c (.s .o .o) .o)) (.s .o (.j [(8,kI)] (.s .o (.c (.s .o (.s .o (.c .o .o))) .o)) (.s .o (.s .o (.s (.b (.l [(10,kI)] (.s (.s .o (.c .o .o)) (.b (.s .o .o))))) (.s .o .o)))))))))))))
  (by kernel_rfl) h
end Go.Proofs.YtcdpblipagajiaaGreat
namespace Go.Proofs.YtcdpblipagajiaaGreat
open Go Go.Vc
def math_bits_Mul.E (x1:Int) (y2:Int) (R:Int→Int→World→Prop) (w:World):Prop:=
 Cl Tryz.prog [(kInt .u64),(kInt .u64)] n_math_bits_Mul64 ⟨[(.int .u64 x1),(.int .u64 y2)]⟩ w fun (r4:Int) (r5:Int) (w_3:World)=>
 R (r4) (r5) w_3
theorem math_bits_Mul.ok (x1:Int) (y2:Int) (R:Int→Int→World→Prop) (w:World) (h:math_bits_Mul.E x1 y2 R w):Cl Tryz.prog [(kInt .u64),(kInt .u64)] n_math_bits_Mul ⟨[(.int .u64 x1),(.int .u64 y2)]⟩ w R:=
 calls_of_eq Tryz.mix Tryz.f216 [(.int .u64 x1),(.int .u64 y2)] [(kInt .u64),(kInt .u64)] R 30 [.tmp 4,.tmp 5] (by kernel_rfl) (by kernel_rfl) (by kernel_rfl) (by kernel_rfl) (by kernel_rfl)
  (.s .o (.s (.c (.s .o (.s .o .o)) .o) (.s .o (.s .o .o))))
  (by kernel_rfl) h
def math_bits_Mul64.E (x1:Int) (y2:Int) (R:Int→Int→World→Prop) (w:World):Prop:=
 0≤(32:Int)∧
 0≤(32:Int)∧
 0≤(32:Int)∧
 0≤(32:Int)∧
 0≤(32:Int)∧
 R ((u64 (((u64 (((u64 (((ishr .u64 (x1:Int) (32:Int)):Int)*((ishr .u64 (y2:Int) (32:Int)):Int))):Int)+((ishr .u64 ((u64 (((u64 (((ishr .u64 (x1:Int) (32:Int)):Int)*((iand .u64 (y2:Int) (4294967295:Int)):Int))):Int)+((ishr .u64 ((u64 (((iand .u64 (x1:Int) (4294967295:Int)):Int)*((iand .u64 (y2:Int) (4294967295:Int)):Int))):Int) (32:Int)):Int))):Int) (32:Int)):Int))):Int)+((ishr .u64 ((u64 (((iand .u64 ((u64 (((u64 (((ishr .u64 (x1:Int) (32:Int)):Int)*((iand .u64 (y2:Int) (4294967295:Int)):Int))):Int)+((ishr .u64 ((u64 (((iand .u64 (x1:Int) (4294967295:Int)):Int)*((iand .u64 (y2:Int) (4294967295:Int)):Int))):Int) (32:Int)):Int))):Int) (4294967295:Int)):Int)+((u64 (((iand .u64 (x1:Int) (4294967295:Int)):Int)*((ishr .u64 (y2:Int) (32:Int)):Int))):Int))):Int) (32:Int)):Int)))) ((u64 ((x1:Int)*(y2:Int)))) w
theorem math_bits_Mul64.ok (x1:Int) (y2:Int) (R:Int→Int→World→Prop) (w:World) (h:math_bits_Mul64.E x1 y2 R w):Cl Tryz.prog [(kInt .u64),(kInt .u64)] n_math_bits_Mul64 ⟨[(.int .u64 x1),(.int .u64 y2)]⟩ w R:=
 calls_of_eq Tryz.mix Tryz.f222 [(.int .u64 x1),(.int .u64 y2)] [(kInt .u64),(kInt .u64)] R 51 [.tmp 4,.tmp 5] (by kernel_rfl) (by kernel_rfl) (by kernel_rfl) (by kernel_rfl) (by kernel_rfl)
  (.s .o (.s .o (.s .o (.s .o (.s .o (.s .o (.s .o (.s .o (.s .o (.s .o (.s .o (.s .o .o))))))))))))
  (by kernel_rfl) h
end Go.Proofs.YtcdpblipagajiaaGreat
set_option maxRecDepth 20000
namespace Go.Vc
open Go
class FindB (b:Nat) (l:List HP) (c:outParam (Array Value)) (t:outParam TypeId) (fr:outParam (Nat×Nat)) (put:outParam (Obj→List HP)):Prop where
 perm: ∃r,l.Perm (Blk b (.cells c t fr)::r)∧∀o,(Blk b o::r).Perm (put o)
instance FindB.head {b:Nat} {l:List HP} {c:Array Value} {t:TypeId} {fr:Nat×Nat}:FindB b (Blk b (.cells c t fr)::l) c t fr (fun o=>Blk b o::l):=
 ⟨l,.refl _,fun _=> .refl _⟩
instance FindB.tail {b:Nat} {A:HP} {l:List HP} {c:Array Value} {t:TypeId} {fr:Nat×Nat} {put:Obj→List HP} [h:FindB b l c t fr put]:FindB b (A::l) c t fr (fun o=>A::put o):=
 ⟨by
  obtain ⟨r,h1,h2⟩:=h.perm
  exact ⟨A::r,(h1.cons A).trans (.swap ..),fun o=>(List.Perm.swap ..).trans ((h2 o).cons A)⟩⟩
class Nth (n:Nat) (l:List HP) (A:outParam HP) (r:outParam (List HP)):Prop where
 perm:l.Perm (A::r)
instance Nth.zero {A:HP} {l:List HP}:Nth 0 (A::l) A l:=⟨.refl _⟩
instance Nth.succ {n:Nat} {A B:HP} {l r:List HP} [h:Nth n l A r]:Nth (n+1) (B::l) A (B::r):=⟨(h.perm.cons B).trans (.swap ..)⟩
section
variable {E w:World} {l:List HP} {b i:Nat} {c:Array Value} {t:TypeId} {fr:Nat×Nat} {put:Obj→List HP}
theorem Hp.at {A:HP} {r:List HP} (h:Hp E w l) (n:Nat) [hn:Nth n l A r]:Hp E w (A::r):=h.perm hn.perm
theorem Hp.no {A:HP} {r:List HP} (h:Hp E w l) (n:Nat) [hn:Nth n l A r]:Hp E w r:=(h.perm hn.perm).drop
theorem Tells.at {A:HP} {r:List HP} {φ:World→Prop} (n:Nat) [hn:Nth n l A r] (ht:Tells (A::r) φ):Tells l φ:=ht.perm hn.perm.symm
theorem Hp.fb [hf:FindB b l c t fr put] (h:Hp E w l):w.heap[b]? =some (.cells c t fr):=by
 obtain ⟨r,h1,_⟩:=hf.perm
 exact (h.perm h1).blk
theorem Hp.fc [FindB b l c t fr put] (h:Hp E w l):w.cell? ⟨b,i,none⟩=c[i]? :=by
 simp [World.cell?,h.fb]
def HoldB (b:Nat) (c:Array Value) (t:TypeId) (fr:Nat×Nat) (w:World):Prop:=w.heap[b]? =some (.cells c t fr)
theorem Hp.hb [FindB b l c t fr put] (h:Hp E w l):HoldB b c t fr w:=h.fb
theorem HoldB.cell (h:HoldB b c t fr w):w.cell? ⟨b,i,none⟩=c[i]? :=by simp [World.cell?,show w.heap[b]? =_ from h]
def Sc.decO:(s:Sc)→Value→Option s.T
 | .int k,.int k' n=>match k==k' with|true=>some n|false=>none
 | .bool,.bool b=>some b
 | .ptr,.pointer p=>some p
 | .sl,.slice b l c=>some ⟨b,l,c⟩
 | .str,.string s=>some s
 | .mp,.map m=>some m
 | .any,v=>some v
 | .addr,.pointer (some p)=>some p
 |_,_=>none
def decsO:(l:List Sc)→List Value→Option (TT l)
 | [],_=>some ()
 |s::l,v::vs=>match s.decO v,decsO l vs with
  |some x,some y=>some (x,y)
  |_,_=>none
 |_::_,[]=>none
theorem Sc.decO_enc {s:Sc} {v:Value} {x:s.T} (h:s.decO v=some x):v=s.enc x:=by
 cases s<;>cases v<;>simp only [Sc.decO] at h<;>first|cases h;rfl|cases h|skip
 ·rename_i k k' n
  by_cases e:k=k'
  ·subst e;simp at h;subst h;rfl
  ·have:(k==k')=false:=by simpa using e
   rw [this] at h;cases h
 ·rename_i p
  cases p with
  |none=>cases h
  |some p=>simp only [Option.some.injEq] at h;subst h;rfl
theorem decsO_enc: ∀{l:List Sc} {vs:List Value} {x:TT l},decsO l vs=some x→∃r,vs=encs l x++r
 | [],vs,(),_=>⟨vs,rfl⟩
 |s::l,v::vs,(x,y),h=>by
  simp only [decsO] at h
  split at h
  ·rename_i x' y' hx hy
   simp only [Option.some.injEq,Prod.mk.injEq] at h
   obtain ⟨rfl,rfl⟩:=h
   obtain ⟨r,e⟩:=decsO_enc hy
   exact ⟨r,by rw [e,Sc.decO_enc hx];rfl⟩
  ·cases h
 |_::_,[],_,h=>by cases h
class TailOf (l F:List HP):Prop where
 sub: ∃p,l=p++F
instance TailOf.refl {F:List HP}:TailOf F F:=⟨[],rfl⟩
instance TailOf.cons {A:HP} {l F:List HP} [h:TailOf l F]:TailOf (A::l) F:=⟨by obtain ⟨p,e⟩:=h.sub;exact ⟨A::p,by rw [e];rfl⟩⟩
theorem Hp.tl {F:List HP} [h2:TailOf l F] (h:Hp E w l):Hp E w F:=by
 obtain ⟨p,e⟩:=h2.sub
 subst e;exact h.dropL
theorem as1 {α β:Type} {K:α→β→Prop} {a a':α} {w:β} (e:a=a') (h:K a' w):K a w:=e▸h
theorem IfB.yes {b:Bool} {X Y:Prop} (k:X) (h:b=true:=by with_reducible first|rfl|exact decide_eq_true (by omega)|exact beq_iff_eq.2 (by omega)|exact bne_iff_ne.2 (by omega)|exact Bool.not_false|exact Bool.not_eq_true' _▸decide_eq_false (by omega)):IfB b X Y:=IfB.t h k
theorem IfB.no {b:Bool} {X Y:Prop} (k:Y) (h:b=false:=by with_reducible first|rfl|exact decide_eq_false (by omega)|exact beq_eq_false_iff_ne.2 (by omega)|exact bne_eq_false_iff_eq.2 (by omega)|exact Bool.not_true|exact Bool.not_eq_false' _▸decide_eq_true (by omega)):IfB b X Y:=IfB.f h k
theorem IfB.dt {p:Prop} [Decidable p] {X Y:Prop} (hp:p) (h:X):IfB (decide p) X Y:=IfB.t (decide_eq_true hp) h
theorem IfB.df {p:Prop} [Decidable p] {X Y:Prop} (hp: ¬p) (h:Y):IfB (decide p) X Y:=IfB.f (decide_eq_false hp) h
theorem IfB.ndt {p:Prop} [Decidable p] {X Y:Prop} (hp:p) (h:Y):IfB (!decide p) X Y:=IfB.f (by rw [decide_eq_true hp];rfl) h
theorem IfB.ndf {p:Prop} [Decidable p] {X Y:Prop} (hp: ¬p) (h:X):IfB (!decide p) X Y:=IfB.t (by rw [decide_eq_false hp];rfl) h
theorem IfB.ntt {X Y:Prop} (h:Y):IfB (!true) X Y:=h
theorem IfB.nff {X Y:Prop} (h:X):IfB (!false) X Y:=h
theorem IfB.et {a b:Int} {X Y:Prop} (hp:a=b) (h:X):IfB (a==b) X Y:=IfB.t (beq_iff_eq.2 hp) h
theorem IfB.ef {a b:Int} {X Y:Prop} (hp: ¬a=b) (h:Y):IfB (a==b) X Y:=IfB.f (beq_eq_false_iff_ne.2 hp) h
theorem IfB.nt {a b:Int} {X Y:Prop} (hp: ¬a=b) (h:X):IfB (a !=b) X Y:=IfB.t (bne_iff_ne.2 hp) h
theorem IfB.nf {a b:Int} {X Y:Prop} (hp:a=b) (h:Y):IfB (a !=b) X Y:=IfB.f (bne_eq_false_iff_eq.2 hp) h
theorem IfB.dm {p:Prop} [Decidable p] {X Y:Prop} (h1:p→X) (h2: ¬p→Y):IfB (decide p) X Y:=IfB.mk (fun h=>h1 (of_decide_eq_true h)) (fun h=>h2 (of_decide_eq_false h))
theorem IfB.em {a b:Int} {X Y:Prop} (h1:a=b→X) (h2: ¬a=b→Y):IfB (a==b) X Y:=IfB.mk (fun h=>h1 (beq_iff_eq.1 h)) (fun h=>h2 (beq_eq_false_iff_ne.1 h))
theorem IfB.nm {a b:Int} {X Y:Prop} (h1: ¬a=b→X) (h2:a=b→Y):IfB (a !=b) X Y:=IfB.mk (fun h=>h1 (bne_iff_ne.1 h)) (fun h=>h2 (bne_eq_false_iff_eq.1 h))
theorem LdS.xb {S:World→Prop} {s:Sc} {K:s.T→Prop} {x:s.T} (hS: ∀w,S w→HoldB b c t fr w) (hx:c.toList[i]? =some (s.enc x)) (hK:K x):LdS (.sc s) ⟨b,i,none⟩ S K:=
 ⟨x,fun w hw=>by rw [(hS w hw).cell];rw [←hx];simp,hK⟩
theorem LdS.xt {S:World→Prop} {ks:List Sc} {K:TT ks→Prop} {x:TT ks} (hS: ∀w,S w→HoldB b c t fr w) (hx:decsO ks (c.toList.drop i)=some x) (hK:K x):LdS (.st ks) ⟨b,i,none⟩ S K:=by
 obtain ⟨r,e⟩:=decsO_enc hx
 refine LdC_mk x (fun w hw j hj=> ?_) hK
 rw [Nat.zero_add,add_mk,(hS w hw).cell]
 have h1:(c.toList.drop i)[j]? =(encs ks x)[j]? :=by rw [e,List.getElem?_append_left hj]
 rw [List.getElem?_drop,List.getElem?_eq_getElem hj] at h1
 rw [←h1];simp
theorem LdS.xa {S:World→Prop} {n:Nat} {mid post:List Value} {K:Array Value→Prop} (hS: ∀w,S w→HoldB b c t fr w) (hx:c.toList.drop i=mid++post) (hn:mid.length=n) (hK:K ⟨mid⟩):LdS (.arr n) ⟨b,i,none⟩ S K:=by
 refine ⟨⟨mid⟩,hn,fun w hw j hj=> ?_,hK⟩
 rw [add_mk,(hS w hw).cell]
 have h1:(c.toList.drop i)[j]? =mid[j]? :=by rw [hx,List.getElem?_append_left (by omega)]
 rw [List.getElem?_drop] at h1
 rw [show c[i+j]? =c.toList[i+j]? by simp,h1]
 simp [show j<mid.length by omega]
theorem Ld.xb {s:Sc} {K:s.T→Prop} {x:s.T} [FindB b l c t fr put] (h:Hp E w l) (hx:c.toList[i]? =some (s.enc x)) (hK:K x):Ld (.sc s) ⟨b,i,none⟩ w K:=LdS.xb (fun w' hw=>by rw [hw];exact h.fb) hx hK
theorem Ld.xt {ks:List Sc} {K:TT ks→Prop} {x:TT ks} [FindB b l c t fr put] (h:Hp E w l) (hx:decsO ks (c.toList.drop i)=some x) (hK:K x):Ld (.st ks) ⟨b,i,none⟩ w K:=LdS.xt (fun w' hw=>by rw [hw];exact h.fb) hx hK
theorem Ld.xa {n:Nat} {mid post:List Value} {K:Array Value→Prop} [FindB b l c t fr put] (h:Hp E w l) (hx:c.toList.drop i=mid++post) (hn:mid.length=n) (hK:K ⟨mid⟩):Ld (.arr n) ⟨b,i,none⟩ w K:=LdS.xa (fun w' hw=>by rw [hw];exact h.fb) hx hn hK
theorem Ld.xw {n:Nat} {K:Array Value→Prop} [FindB b l c t fr put] (h:Hp E w l) (hn:c.size=n) (hK:K c):Ld (.arr n) ⟨b,0,none⟩ w K:=
 Ld.xa (mid:=c.toList) (post:= []) h (by simp) (by simpa using hn) (by simpa using hK)
theorem LdS.xw {S:World→Prop} {n:Nat} {K:Array Value→Prop} (hS: ∀w,S w→HoldB b c t fr w) (hn:c.size=n) (hK:K c):LdS (.arr n) ⟨b,0,none⟩ S K:=
 LdS.xa (mid:=c.toList) (post:= []) hS (by simp) (by simpa using hn) (by simpa using hK)
theorem StC.goM {b:Nat} {t:TypeId} {F:List HP} {K:World→Prop}: ∀(vs:List Value) (i o:Nat) (w:World) (c:Array Value),Hp E w (Blk b (.cells c t (0,0))::F)→o+i+vs.length≤c.size→(∀v∈vs,scalarB v=true)→
  (∀c' w',c'.toList=c.toList.take (o+i)++vs++c.toList.drop (o+i+vs.length)→Hp E w' (Blk b (.cells c' t (0,0))::F)→K w')→StC ⟨b,o,none⟩ vs i w K
 | [],i,o,w,c,hh,hi,_,hK=>hK c w (by simp) hh
 |v::vs,i,o,w,c,hh,hi,hv,hK=>by
  have h1:=hv v (by simp)
  simp only [List.length_cons] at hi
  unfold StC
  rw [h1]
  have h2:=hh.setCell (i:=o+i) v
  refine ⟨?_,?_,?_⟩
  ·rw [add_mk,hh.cell];simp;omega
  ·rw [add_mk];simp [World.frozen?,hh.blk]
  ·rw [add_mk]
   refine StC.goM vs (i+1) o _ _ h2 (by simp;omega) (fun x hx=>hv x (List.mem_cons_of_mem _ hx)) fun c' w' e h3=>hK c' w' ?_ h3
   rw [e,Array.toList_setIfInBounds,show o+(i+1)=o+i+1 by omega,List.take_add_one,List.take_set_of_le (by omega)]
   rw [List.getElem?_set_self (by simp;omega)]
   rw [List.drop_set_of_lt (by omega),List.length_cons]
   simp only [Option.toList_some,List.append_assoc,List.cons_append,List.nil_append]
   rw [show o+i+1+vs.length=o+i+(vs.length+1) by omega]
theorem StC.xm {o:Nat} {vs pre mid post:List Value} {K:World→Prop} [hf:FindB b l c t (0,0) put] (h:Hp E w l) (hc:c.toList=pre++(mid++post)) (ho:pre.length=o) (hn:mid.length=vs.length) (hv:vs.all scalarB=true)
  (hK: ∀w',Hp E w' (put (.cells ⟨pre++(vs++post)⟩ t (0,0)))→K w'):StC ⟨b,o,none⟩ vs 0 w K:=by
 obtain ⟨r,h1,h2⟩:=hf.perm
 have hs:c.size=pre.length+(mid.length+post.length):=by rw [←Array.length_toList,hc];simp
 refine StC.goM vs 0 o w c (h.perm h1) (by omega) (List.all_eq_true.1 hv) fun c' w' e h'=>hK w' ?_
 have:c'=⟨pre++(vs++post)⟩:=by
  apply Array.ext'
  rw [e,hc,Nat.add_zero,←ho,List.take_left,←hn,←List.length_append,←List.append_assoc,List.drop_left,List.append_assoc]
 rw [this] at h'
 exact h'.perm (h2 _)
theorem StC.xw {vs:List Value} {K:World→Prop} [hf:FindB b l c t (0,0) put] (h:Hp E w l) (hn:vs.length=c.size) (hv:vs.all scalarB=true)
  (hK: ∀w',Hp E w' (put (.cells ⟨vs⟩ t (0,0)))→K w'):StC ⟨b,0,none⟩ vs 0 w K:=
 StC.xm (pre:= []) (mid:=c.toList) (post:= []) h (by simp) rfl (by simpa using hn.symm) hv (by simpa using hK)
theorem St.xb {o:Nat} {v:Value} {K:World→Prop} [hf:FindB b l c t (0,0) put] (h:Hp E w l) (hi:o<c.size) (hv:scalarB v=true)
  (hK: ∀w',Hp E w' (put (.cells (c.setIfInBounds o v) t (0,0)))→K w'):St ⟨b,o,none⟩ v w K:=by
 obtain ⟨r,h1,h2⟩:=hf.perm
 exact St.mk rfl (h.perm h1) hi hv fun w' h'=>hK w' (h'.perm (h2 _))
theorem St.xm {o:Nat} {v u:Value} {pre post:List Value} {K:World→Prop} [hf:FindB b l c t (0,0) put] (h:Hp E w l) (hc:c.toList=pre++(u::post)) (ho:pre.length=o) (hv:scalarB v=true)
  (hK: ∀w',Hp E w' (put (.cells ⟨pre++(v::post)⟩ t (0,0)))→K w'):St ⟨b,o,none⟩ v w K:=by
 refine St.xb h ?_ hv fun w' h'=>hK w' ?_
 ·rw [←Array.length_toList,hc];simp;omega
 ·have:c.setIfInBounds o v=⟨pre++(v::post)⟩:=by
   apply Array.ext'
   rw [Array.toList_setIfInBounds,hc,←ho]
   simp
  rwa [this] at h'
def over:List Value→List Value→List Value
 | [],l=>l
 |_::_,[]=> []
 |v::vs,_::l=>v::over vs l
def spl:List Value→Nat→List Value→List Value
 |l,0,vs=>over vs l
 |a::l,o+1,vs=>a::spl l o vs
 | [],_+1,_=> []
theorem over_eq: ∀{l vs:List Value},vs.length≤l.length→over vs l=vs++l.drop vs.length
 |_,[],_=>rfl
 | [],_::_,h=>by simp at h
 |a::l,v::vs,h=>by
  rw [over,over_eq (by simpa using h)];rfl
theorem spl_eq: ∀{l:List Value} {o:Nat} {vs:List Value},o+vs.length≤l.length→spl l o vs=l.take o++(vs++l.drop (o+vs.length))
 |l,0,vs,h=>by
  have:spl l 0 vs=over vs l:=by cases l<;>rfl
  rw [this,over_eq (by omega)];simp
 |a::l,o+1,vs,h=>by
  rw [spl,spl_eq (by simp at h;omega),show o+1+vs.length=o+vs.length+1 by omega];rfl
 | [],o+1,vs,h=>by simp at h
theorem StC.xs {o:Nat} {vs:List Value} {K:World→Prop} [hf:FindB b l c t (0,0) put] (h:Hp E w l) (hb:Nat.ble (o+vs.length) c.toList.length=true) (hv:vs.all scalarB=true)
  (hK: ∀w',Hp E w' (put (.cells ⟨spl c.toList o vs⟩ t (0,0)))→K w'):StC ⟨b,o,none⟩ vs 0 w K:=by
 have hb:=Nat.le_of_ble_eq_true hb
 rw [spl_eq hb] at hK
 refine StC.xm (mid:=(c.toList.drop o).take vs.length) h ?_ (by simp;simp at hb;omega) (by simp;simp at hb;omega) hv hK
 rw [←List.drop_drop,List.take_append_drop,List.take_append_drop]
theorem St.xs {o:Nat} {v:Value} {K:World→Prop} [hf:FindB b l c t (0,0) put] (h:Hp E w l) (hb:Nat.ble (o+1) c.toList.length=true) (hv:scalarB v=true)
  (hK: ∀w',Hp E w' (put (.cells ⟨spl c.toList o [v]⟩ t (0,0)))→K w'):St ⟨b,o,none⟩ v w K:=by
 have hb:=Nat.le_of_ble_eq_true hb
 have hb2:o<c.toList.length:=by omega
 rw [spl_eq (by simpa using hb)] at hK
 refine St.xm (u:=c.toList[o]'hb2) (pre:=c.toList.take o) (post:=c.toList.drop (o+1)) h ?_ (by simp;simp at hb;omega) hv (by simpa using hK)
 rw [List.getElem_cons_drop,List.take_append_drop]
theorem StA.xm {n o:Nat} {cs:Array Value} {pre mid post:List Value} {K:World→Prop} [hf:FindB b l c t (0,0) put] (h:Hp E w l) (hc:c.toList=pre++(mid++post)) (ho:pre.length=o) (hn:mid.length=n) (hcs:cs.size=n) (hv: ∀v∈cs.toList,scalarB v=true)
  (hK: ∀w',Hp E w' (put (.cells ⟨pre++(cs.toList++post)⟩ t (0,0)))→K w'):StA n ⟨b,o,none⟩ cs w K:=by
 obtain ⟨r,h1,h2⟩:=hf.perm
 have hh:=h.perm h1
 have hs:c.size=pre.length+(mid.length+post.length):=by rw [←Array.length_toList,hc];simp
 refine ⟨hcs,fun i hi=>⟨?_,?_,?_⟩,?_⟩
 ·have:cs.getD i undef∈cs.toList:=by simp [Array.getD,hcs,hi]
  exact hv _ this
 ·rw [add_mk,hh.cell];simp;omega
 ·rw [add_mk];simp [World.frozen?,hh.blk]
 ·have key: ∀(vs:List Value) (i:Nat) (w:World) (c:Array Value),Hp E w (Blk b (.cells c t (0,0))::r)→o+i+vs.length≤c.size→
    Hp E (StA.setRow w ⟨b,o,none⟩ vs i) (Blk b (.cells ⟨c.toList.take (o+i)++vs++c.toList.drop (o+i+vs.length)⟩ t (0,0))::r):=by
   intro vs
   induction vs with
   |nil=>intro i w c hh hi;simpa [StA.setRow] using hh
   |cons v vs ih=>
    intro i w c hh hi
    simp only [List.length_cons] at hi
    have h2:=hh.setCell (i:=o+i) v
    have:=ih (i+1) _ _ h2 (by simp;omega)
    unfold StA.setRow
    rw [add_mk]
    rw [Array.toList_setIfInBounds,show o+(i+1)=o+i+1 by omega,List.take_add_one,List.take_set_of_le (by omega),List.getElem?_set_self (by simp;omega),List.drop_set_of_lt (by omega)] at this
    rw [List.length_cons,show o+i+(vs.length+1)=o+i+1+vs.length by omega]
    simpa using this
  have:=key cs.toList 0 w c hh (by rw [Array.length_toList];omega)
  refine hK _ ((this.perm (h2 _)).perm (by
   rw [hc,Nat.add_zero,←ho,List.take_left,show cs.toList.length=mid.length by simp;omega,←List.length_append,←List.append_assoc,List.drop_left,List.append_assoc]))
theorem StA.xw {n:Nat} {cs:Array Value} {K:World→Prop} [hf:FindB b l c t (0,0) put] (h:Hp E w l) (hn:c.size=n) (hcs:cs.size=n) (hv: ∀v∈cs.toList,scalarB v=true)
  (hK: ∀w',Hp E w' (put (.cells cs t (0,0)))→K w'):StA n ⟨b,0,none⟩ cs w K:=
 StA.xm (pre:= []) (mid:=c.toList) (post:= []) h (by simp) rfl (by simpa using hn) hcs hv (by simpa using hK)
end
end Go.Vc
set_option maxRecDepth 20000
namespace Go.Vc
open Go
section
variable {E w:World} {l:List HP} {b n k o:Nat} {L r:List Value} {t:TypeId} {fr:Nat×Nat} {put:Obj→List HP}
theorem app_at (hL:L.length=n):(L++r)[k+n]? =r[k]? :=by
 rw [List.getElem?_append_right (by omega)]
 congr 1;omega
theorem spl_app: ∀{L r:List Value} {n k:Nat} {vs:List Value},L.length=n→spl (L++r) (k+n) vs=L++spl r k vs
 | [],r,n,k,vs,h=>by
  have:n=0:=by simpa using h.symm
  subst this;rfl
 |a::L,r,n,k,vs,h=>by
  obtain ⟨m,rfl⟩: ∃m,n=m+1:=⟨L.length,by simpa using h.symm⟩
  rw [show k+(m+1)=(k+m)+1 by omega,List.cons_append,spl,spl_app (by simpa using h)]
  rfl
theorem LdS.q {S:World→Prop} {s:Sc} {K:s.T→Prop} {x:s.T} (hS: ∀w,S w→HoldB b ⟨L++r⟩ t fr w) (hL:L.length=n) (ho:o=k+n) (hx:r[k]? =some (s.enc x)) (hK:K x):LdS (.sc s) ⟨b,o,none⟩ S K:=by
 subst ho
 exact LdS.xb hS ((app_at hL).trans hx) hK
theorem Ld.q {s:Sc} {K:s.T→Prop} {x:s.T} [FindB b l ⟨L++r⟩ t fr put] (h:Hp E w l) (hL:L.length=n) (ho:o=k+n) (hx:r[k]? =some (s.enc x)) (hK:K x):Ld (.sc s) ⟨b,o,none⟩ w K:=
 LdS.q (fun w' hw=>by rw [hw];exact h.fb) hL ho hx hK
theorem LdS.p {S:World→Prop} {K:Array Value→Prop} (hS: ∀w,S w→HoldB b ⟨L++r⟩ t fr w) (hL:L.length=n) (hK:K ⟨L⟩):LdS (.arr n) ⟨b,0,none⟩ S K:=
 LdS.xa (mid:=L) (post:=r) hS rfl hL hK
theorem Ld.p {K:Array Value→Prop} [FindB b l ⟨L++r⟩ t fr put] (h:Hp E w l) (hL:L.length=n) (hK:K ⟨L⟩):Ld (.arr n) ⟨b,0,none⟩ w K:=
 LdS.p (fun w' hw=>by rw [hw];exact h.fb) hL hK
theorem Ld.qw {m:Nat} {K:Array Value→Prop} [FindB b l ⟨L++r⟩ t fr put] (h:Hp E w l) (hL:L.length=n) (hm:n+r.length=m) (hK:K ⟨L++r⟩):Ld (.arr m) ⟨b,0,none⟩ w K:=
 Ld.xw h (by simp [hL,hm]) hK
theorem LdS.qw {S:World→Prop} {m:Nat} {K:Array Value→Prop} (hS: ∀w,S w→HoldB b ⟨L++r⟩ t fr w) (hL:L.length=n) (hm:n+r.length=m) (hK:K ⟨L++r⟩):LdS (.arr m) ⟨b,0,none⟩ S K:=
 LdS.xw hS (by simp [hL,hm]) hK
theorem St.q {v:Value} {K:World→Prop} [FindB b l ⟨L++r⟩ t (0,0) put] (h:Hp E w l) (hL:L.length=n) (ho:o=k+n) (hb:Nat.ble (k+1) r.length=true) (hv:scalarB v=true)
  (hK: ∀w',Hp E w' (put (.cells ⟨L++spl r k [v]⟩ t (0,0)))→K w'):St ⟨b,o,none⟩ v w K:=by
 subst ho
 have hb':=Nat.le_of_ble_eq_true hb
 refine St.xs h (Nat.ble_eq_true_of_le (by simp;omega)) hv fun w' h'=>hK w' ?_
 rw [show (⟨L++r⟩:Array Value).toList=L++r from rfl,spl_app hL] at h'
 exact h'
theorem StA.q {m:Nat} {cs:Array Value} {c:Array Value} {K:World→Prop} [FindB b l c t (0,0) put] (h:Hp E w l) (hc:c.size=m) (hcs:cs.size=m) (hv:cs.toList.all scalarB=true)
  (hK: ∀w',Hp E w' (put (.cells cs t (0,0)))→K w'):StA m ⟨b,0,none⟩ cs w K:=StA.xw h hc hcs (List.all_eq_true.1 hv) hK
theorem St.g {v:Value} {K:World→Prop} [FindB b l ⟨L++r⟩ t (0,0) put] (h:Hp E w l) (ho:o<L.length) (hv:scalarB v=true)
  (hK: ∀w',Hp E w' (put (.cells ⟨L.set o v++r⟩ t (0,0)))→K w'):St ⟨b,o,none⟩ v w K:=by
 refine St.xb h (by simp;omega) hv fun w' h'=>hK w' ?_
 have:(⟨L++r⟩:Array Value).setIfInBounds o v=⟨L.set o v++r⟩:=by
  apply Array.ext'
  rw [Array.toList_setIfInBounds,List.set_append_left _ _ ho]
 rwa [this] at h'
theorem Ld.g {s:Sc} {K:s.T→Prop} {x:s.T} [FindB b l ⟨L++r⟩ t fr put] (h:Hp E w l) (hx:L[o]? =some (s.enc x)) (hK:K x):Ld (.sc s) ⟨b,o,none⟩ w K:=by
 refine Ld.xb h ?_ hK
 have:o<L.length:=by
  rcases Nat.lt_or_ge o L.length with h|h
  ·exact h
  ·rw [List.getElem?_eq_none h] at hx;cases hx
 rw [show (⟨L++r⟩:Array Value).toList=L++r from rfl,List.getElem?_append_left this,hx]
end
end Go.Vc
set_option maxRecDepth 20000
namespace Go.Vc
open Go
section
variable {P:Program} {E w:World} {l:List HP} {b o:Nat} {c:Array Value} {t:TypeId} {fr:Nat×Nat} {put:Obj→List HP}
theorem Hp.setRowB {F:List HP} {cs:Array Value} {fr:Nat×Nat} (h:Hp E w (Blk b (.cells c t fr)::F)):Hp E (w.setRow b cs) (Blk b (.cells cs t fr)::F):=by
 have hb:=h.blk
 refine h.setObj (o':= .cells cs t fr) ?_ rfl rfl rfl
 apply Array.ext_getElem?
 intro r
 have hlt:b<w.heap.size:=by
  rcases Nat.lt_or_ge b w.heap.size with hh|hh
  ·exact hh
  ·simp [Array.getElem?_eq_none hh] at hb
 simp only [World.setRow,Array.getElem?_modify,Array.set!_eq_setIfInBounds,Array.getElem?_setIfInBounds]
 by_cases hr:b=r
 ·subst hr
  have hv:w.heap[b]= .cells c t fr:=by simpa [hlt] using hb
  simp [hlt,hv]
 ·simp [hr]
theorem run_copyB {dT sT ty e:TypeId} {dLen dCap:Nat} {s:Sl} {ys:List Value} {K:Int→World→Prop} [hf:FindB b l c t (0,0) put] (hu:P.underlying dT=some (.slice e)) (hs:(P.info? e).map (·.size)=some 1)
  (h:Hp E w l) (hsrc:SlT 1 s ys w) (hsc: ∀v∈ys,scalarB v=true) (hfit:o+dLen≤c.size)
  (hK: ∀w',Hp E w' (put (.cells ⟨c.toList.take o++(ys.take dLen++c.toList.drop (o+min ys.length dLen))⟩ t (0,0)))→K ((min ys.length dLen:Nat):Int) w'):
  Run P (Builtin.copy_ #[dT,sT] ty ⟨[.slice (some ⟨b,o,none⟩) dLen dCap,.slice s.base s.len s.cap]⟩) kI w K:=by
 have hl:=hsrc.1
 rw [Nat.mul_one] at hl
 obtain ⟨r,h1,h2⟩:=hf.perm
 have hh:=h.perm h1
 unfold Run
 by_cases h0:min ys.length dLen=0
 ·rw [show (⟨[.slice (some ⟨b,o,none⟩) dLen dCap,.slice s.base s.len s.cap]⟩:Array Value)= #[.slice (some ⟨b,o,none⟩) dLen dCap,.slice s.base s.len s.cap] from rfl,run_copy_none (P:=P) w dT sT ty e _ _ _ _ _ _ hu hs (by rw [←hl];exact h0)]
  have hk:=hK w
  rw [h0] at hk
  have e1:ys.take dLen= []:=by
   rcases Nat.eq_zero_or_pos dLen with hd|hd
   ·rw [hd];rfl
   ·have:ys= []:=List.length_eq_zero_iff.1 (by omega)
    rw [this];simp
  rw [e1,List.nil_append,Nat.add_zero,List.take_append_drop] at hk
  exact hk (hh.perm (by have:=h2 (.cells c t (0,0));simpa using this))
 ·have hpos:0<ys.length:=by omega
  obtain ⟨p,hp,_⟩:=hsrc.2 0 hpos
  rw [hp]
  have hmin:(ys.take dLen).length=Nat.min s.len dLen:=by
   rw [List.length_take,←hl,Nat.min_comm]
  have:=run_copy_row (P:=P) w dT sT ty e b o dLen dCap p s.len s.cap c t (ys.take dLen) hu hs hh.blk hmin (fun j v hv=> ?_) (by
   rw [List.length_take];omega) (fun v hv=>scalar_one (hsc v (List.mem_of_mem_take hv)))
  ·rw [show (⟨[.slice (some ⟨b,o,none⟩) dLen dCap,.slice (some p) s.len s.cap]⟩:Array Value)= #[.slice (some ⟨b,o,none⟩) dLen dCap,.slice (some p) s.len s.cap] from rfl,this]
   have hlen:(ys.take dLen).length=min ys.length dLen:=by rw [List.length_take,Nat.min_comm]
   rw [hlen,List.append_assoc]
   exact hK _ ((hh.setRowB).perm (h2 _))
  ·have hj:j<(ys.take dLen).length:=by
    rcases Nat.lt_or_ge j (ys.take dLen).length with h|h
    ·exact h
    ·rw [List.getElem?_eq_none h] at hv;cases hv
   rw [List.length_take] at hj
   obtain ⟨p',hp',hc⟩:=hsrc.2 j (by omega)
   rw [hp] at hp'
   cases hp'
   rw [hc]
   rw [List.getElem?_take_of_lt (by omega),List.getElem?_eq_getElem (by omega)] at hv
   exact hv
end
end Go.Vc
namespace Go.Vc
open Go
section
variable {E w:World} {l:List HP} {b:Nat} {c:Array Value} {t:TypeId} {fr:Nat×Nat} {put:Obj→List HP}
theorem Hp.slB {n m:Nat} {xs:List Value} [FindB b l c t fr put] (h:Hp E w l) (hl:xs.length=n) (hx: ∀i (hi:i<xs.length),c[i]? =some xs[i]):SlT 1 ⟨some ⟨b,0,none⟩,n,m⟩ xs w:=
 ⟨by simpa using hl,fun i hi=>⟨_,rfl,by rw [add_mk,h.fc,Nat.zero_add];exact hx i hi⟩⟩
end
end Go.Vc
namespace Go.Proofs.YtcdpblipagajiaaGreat
open Go Go.Vc
section
variable {E w:World} {F:List HP}
theorem mul1_c {n:Nat} {K:Int→Int→World→Prop} (hn:n≤4294967295) (hK:K 0 (n:Int) w):Cl Tryz.prog [kInt .u64,kInt .u64] n_math_bits_Mul ⟨[.int .u64 1,.int .u64 (n:Int)]⟩ w K:=by
 refine math_bits_Mul.ok _ _ _ _ ?_
 unfold math_bits_Mul.E
 refine math_bits_Mul64.ok _ _ _ _ ?_
 unfold math_bits_Mul64.E
 refine ⟨by decide,by decide,by decide,by decide,by decide,?_⟩
 have hmx:IntKind.max .u64=18446744073709551615:=rfl
 have e1:ishr .u64 1 32=0:=by decide
 have e2:ishr .u64 (n:Int) 32=0:=by
  have:=ishr_nat (k:= .u64) (a:=n) (b:=32) (by decide)
  rw [Nat.div_eq_of_lt (by omega)] at this
  simpa using this
 have e3:iand .u64 1 4294967295=1:=by decide
 have e4:iand .u64 (n:Int) 4294967295=(n:Int):=by
  have:=iand_nat (k:= .u64) (a:=n) (b:=4294967295) (by rw [hmx];omega) (by rw [hmx];omega)
  rw [show n&&&4294967295=n % 2^32 from Nat.and_two_pow_sub_one_eq_mod n 32,Nat.mod_eq_of_lt (by omega)] at this
  simpa using this
 have e5:u64 (n:Int)=(n:Int):=u64_id (by omega)
 have e6:u64 0=0:=by decide
 have e7:ishr .u64 0 32=0:=by decide
 have e8:iand .u64 0 4294967295=0:=by decide
 simp only [e1,e2,e3,e4,Int.zero_mul,Int.one_mul,Int.mul_zero,e5,e6,Int.add_zero,e7,e8]
 exact hK
set_option maxRecDepth 20000
theorem und25:Tryz.prog.underlying 22=some (.slice 5):=by kernel_rfl
theorem sz8:(Tryz.prog.info? 5).map (·.size)=some 1:=by kernel_rfl
theorem makeNZ_c {n:Nat} {K:Sl→World→Prop} (h:Hp E w F) (hn:n≤65536) (hK: ∀b cs w',n≤cs.size→Hp E w' (Blk b (.cells cs 5 (0,0))::F)→K ⟨some ⟨b,0,none⟩,n,cs.size⟩ w'):
  Ext Tryz.prog n_internal_bytealg_MakeNoZero ⟨[.int .i64 (n:Int)]⟩ [kS] w K:=by
 obtain ⟨cs,hrun,hcs,_⟩:=Go.Lib.run_makeNoZero (P:=Tryz.prog) w #[3] 22 5 und25 n (by omega)
 have hx:(callFunc n_internal_bytealg_MakeNoZero #[.int .i64 (n:Int)]).run Tryz.prog w= .ok (.value (.slice (some ⟨w.heap.size,0,none⟩) n cs.size)) (w.drew.drew.alloc (.cells cs 5)):=by
  rw [run_callFunc_extern Tryz.func217 (by kernel_rfl) (by kernel_rfl) (by kernel_rfl) (e:=Extern.BytealgMakeNoZero.makeNoZero #[3] #[22]) (by kernel_rfl),hrun];rfl
 unfold Ext
 rw [show (⟨[.int .i64 (n:Int)]⟩:Array Value)= #[.int .i64 (n:Int)] from rfl,hx]
 have h2:Hp E w.drew.drew F:=h.same rfl rfl rfl rfl
 exact hK _ _ _ hcs (h2.alloc _)
set_option maxRecDepth 20000
theorem repeat_c {s:Sl} {c n:Nat} {K:Sl→World→Prop} (h:Hp E w F) (hs:Tells F (SlT 1 s [.int .u8 (c:Int)])) (hn:n≤65536) (hK: ∀s' w',Hp E w' (OwnS 1 s' ((List.replicate n c).map vB)::F)→K s' w'):
  Cl Tryz.prog [kS] n_bytes_Repeat ⟨[.slice s.base s.len s.cap,.int .i64 (n:Int)]⟩ w K:=by
 refine bytes_Repeat.ok _ _ _ _ ?_
 unfold bytes_Repeat.E
 have hl1:s.len=1:=by have:=(h.tells hs).1;simpa using this.symm
 obtain ⟨sb,sl,sc⟩:=s
 dsimp only at hl1⊢
 subst hl1
 (try simp only [Join_eq,NilCk_some,add_mk,Nat.zero_add,Nat.add_zero,Nat.reduceAdd,Bool.not_true,Bool.not_false,IfB_t,IfB_f,Option.isNone])
 by_cases h0:n=0
 ·subst h0
  refine IfB.et (by omega) ?_
  refine Nw.mk h fun b w h=> ?_
  exact hK _ _ (h.ownNew (n:=0) (sz:=1) rfl)
 refine IfB.ef (by omega) (IfB.df (by omega) ?_)
 rw [u64_id (x:=((1:Nat):Int)) (by omega),u64_id (x:=(n:Int)) (by omega)]
 refine mul1_c (by omega) ?_
 refine IfB.df (by omega) (IfB.df (by omega) ?_)
 refine IfB.ef (by omega) ?_
 rw [i64_id (x:=(n:Int)) (by omega)]
 have main: ∀mx:Int,1≤mx→Ext Tryz.prog n_internal_bytealg_MakeNoZero ⟨[.int .i64 (n:Int)]⟩ [kS] w fun r21 w_20=>
   Slc r21 0 (n:Int) (n:Int) 1 fun s22=>
   Run Tryz.prog (Builtin.copy_ #[22,22] 3 ⟨[(.slice s22.base s22.len s22.cap),(.slice sb (1:Nat) sc)]⟩) kI w_20 fun (n24:Int) w_23=>
   ∃(I_25:Int→World→Prop) (m_26:Int→World→Nat),I_25 (n24) w_23∧
   ∀(bp27:Int),∀(w_28:World),I_25 bp27 w_28→
   IfB (decide (bp27<(n:Int)))
   (Drw w_28 fun w_29=>
   Slc s22 bp27 (s22).len (s22).cap 1 fun s30=>
   Slc s22 0 (if mx<bp27 then mx else bp27) (s22).cap 1 fun s31=>
   Run Tryz.prog (Builtin.copy_ #[22,22] 3 ⟨[(.slice s30.base s30.len s30.cap),(.slice s31.base s31.len s31.cap)]⟩) kI w_29 fun (n33:Int) w_32=>
   I_25 ((i64 (bp27+n33))) w_32∧m_26 ((i64 (bp27+n33))) w_32<m_26 bp27 w_28)
   (K (s22) w_28):=by
  intro mx hmx
  refine makeNZ_c h hn fun b cs w hcs h=> ?_
  refine ⟨by omega,by omega,by omega,by simp only;omega,?_⟩
  simp only [Int.toNat_natCast,Int.toNat_zero,Nat.sub_zero,if_neg h0,Option.map_some,Nat.zero_mul,add_mk,Nat.zero_add]
  have hs1:=h.tells hs.cons
  refine run_copyB (s:=⟨sb,1,sc⟩) (ys:= [.int .u8 (c:Int)]) und25 sz8 h hs1 (by simp [scalarB]) (by omega) fun w h=> ?_
  have e0:(⟨cs.toList.take 0++(([.int .u8 (c:Int)]:List Value).take n++cs.toList.drop (0+min ([.int .u8 (c:Int)]:List Value).length n))⟩:Array Value)=⟨(List.replicate 1 c).map vB++cs.toList.drop 1⟩:=by
   rw [List.take_zero,List.nil_append,List.take_of_length_le (by simp;omega),show min ([.int .u8 (c:Int)]:List Value).length n=1 by simp;omega,Nat.zero_add]
   rfl
  rw [e0] at h
  rw [show ((min ([.int .u8 (c:Int)]:List Value).length n:Nat):Int)=((1:Nat):Int) by congr 1;simp;omega]
  refine ⟨fun bp w'=> ∃k:Nat,bp=(k:Int)∧1≤k∧k≤n∧Hp E w' (Blk b (.cells ⟨(List.replicate k c).map vB++cs.toList.drop k⟩ 5 (0,0))::F),fun bp _=>n - bp.toNat,⟨1,rfl,by omega,by omega,h⟩,?_⟩
  rintro bp w ⟨k,rfl,hk1,hkn,h⟩
  have hsz:(⟨(List.replicate k c).map vB++cs.toList.drop k⟩:Array Value).size=cs.size:=by simp;omega
  (first|refine IfB.dm (fun hb=> ?_) (fun hb=> ?_)|refine IfB.em (fun hb=> ?_) (fun hb=> ?_)|refine IfB.nm (fun hb=> ?_) (fun hb=> ?_)|refine IfB.mk (fun hb=> ?_) (fun hb=> ?_))
  ·obtain ⟨q,hq,hq1,hqk⟩: ∃q:Nat,(if mx<(k:Int) then mx else (k:Int))=(q:Int)∧1≤q∧q≤k:=by
    by_cases hm:mx<(k:Int)
    ·rw [if_pos hm];exact ⟨mx.toNat,by omega,by omega,by omega⟩
    ·rw [if_neg hm];exact ⟨k,rfl,hk1,Nat.le_refl _⟩
   rw [hq]
   refine Drw.mk h fun w h=> ?_
   dsimp only
   refine ⟨by omega,by omega,by omega,by dsimp only;omega,?_⟩
   rw [if_neg (by omega)]
   simp only [Int.toNat_natCast,Option.map_some,add_mk,Nat.zero_add,Nat.mul_one]
   refine ⟨by omega,by omega,by omega,by dsimp only;omega,?_⟩
   rw [if_neg (by simp only [Int.toNat_natCast,Int.toNat_zero];omega)]
   simp only [Int.toNat_natCast,Int.toNat_zero,Nat.sub_zero,Option.map_some,add_mk,Nat.zero_add,Nat.zero_mul]
   have hsrc:SlT 1 ⟨some ⟨b,0,none⟩,q,n⟩ ((List.replicate q c).map vB) w:=h.slB (by simp) (fun i hi=>by
    simp at hi
    simp [List.getElem?_append,show i<k by omega])
   refine run_copyB (ys:=(List.replicate q c).map vB) und25 sz8 h hsrc vB_scalar (by rw [hsz];omega) fun w h=> ?_
   have hlen:((List.replicate q c).map vB).length=q:=by simp
   rw [hlen] at h⊢
   have e1:(⟨(⟨(List.replicate k c).map vB++cs.toList.drop k⟩:Array Value).toList.take k++(((List.replicate q c).map vB).take (n - k)++(⟨(List.replicate k c).map vB++cs.toList.drop k⟩:Array Value).toList.drop (k+min q (n - k)))⟩:Array Value)
     =⟨(List.replicate (k+min q (n - k)) c).map vB++cs.toList.drop (k+min q (n - k))⟩:=by
    dsimp only
    rw [List.take_left' (by simp),←List.map_take,List.take_replicate,List.drop_append,List.drop_of_length_le (by simp),List.nil_append,List.drop_drop,←List.append_assoc,←List.map_append,List.replicate_append_replicate]
    simp only [List.length_map,List.length_replicate]
    rw [show k+(k+min q (n - k) - k)=k+min q (n - k) by omega,Nat.min_comm (n - k) q]
   rw [e1] at h
   rw [i64_id (by omega)]
   refine ⟨⟨k+min q (n - k),by omega,by omega,by omega,h⟩,by omega⟩
  ·have hk:k=n:=by omega
   subst hk
   refine hK _ _ (h.ownShut (by simp) rfl (by simp) (by simp<;>omega) fun i hi=> ?_)
   simp at hi
   simp [List.getElem?_append,hi]
 by_cases hbig:(n:Int)>8192
 ·refine IfB.dt hbig ⟨by omega,?_⟩
  refine IfB.ef (by decide) ?_
  exact main _ (by decide)
 ·exact IfB.df hbig (main _ (by omega))
end
end Go.Proofs.YtcdpblipagajiaaGreat
