/- Texts packed together by program; spaces struck by program. Conditions: as each theorem states. -/
import Derived.ChangeKeysEq
import Derived.Deep.Quiet
import Derived.KernelRfl
import Derived.Laws.StructEq
import Derived.OrdersHeld
import Derived.Scope
import Derived.StillTail
import Derived.WalkKit
set_option linter.unusedSimpArgs false
set_option linter.unusedVariables false
set_option maxRecDepth 20000
namespace Go.Vc
open Go
noncomputable section
inductive Sc where
 |int (k:IntKind)|bool|ptr|sl|str|mp|any|addr
structure Sl where
 base:Option Addr
 len:Nat
 cap:Nat
def Sl.val (s:Sl):Value:= .slice s.base s.len s.cap
@[reducible] def Sc.T:Sc→Type
 | .int _=>Int| .bool=>Bool| .ptr=>Option Addr| .sl=>Sl| .str=>ByteArray| .mp=>Option Nat| .any=>Value| .addr=>Addr
@[reducible] def Sc.enc:(s:Sc)→s.T→Value
 | .int k,n=> .int k n| .bool,b=> .bool b| .ptr,p=> .pointer p| .sl,s=> .slice s.base s.len s.cap| .str,s=> .string s| .mp,m=> .map m| .any,v=>v| .addr,p=> .pointer (some p)
def fk (b:Bool) (X:Prop):Prop:=match b with|true=>X|false=>False
def Sc.dec:(s:Sc)→Value→(s.T→Prop)→Prop
 | .int k,.int k' n,K=>fk (k==k') (K n)
 | .bool,.bool b,K=>K b
 | .ptr,.pointer p,K=>K p
 | .sl,.slice b l c,K=>K ⟨b,l,c⟩
 | .str,.string s,K=>K s
 | .mp,.map m,K=>K m
 | .any,v,K=>K v
 | .addr,.pointer (some p),K=>K p
 |_,_,_=>False
@[reducible] def TT:List Sc→Type
 | []=>Unit
 |s::l=>s.T×TT l
@[reducible] def gA:(l:List Sc)→TT l→List Value
 | [],_=> []
 |s::l,x=>s.enc x.1::gA l x.2
def E3:(l:List Sc)→List Value→(TT l→Prop)→Prop
 | [],[],K=>K ()
 |s::l,v::vs,K=>s.dec v fun x=>E3 l vs fun y=>K (x,y)
 |_,_,_=>False
inductive Ki where
 |sc (s:Sc)|st (l:List Sc)|arr (n:Nat)
@[reducible] def Ki.T:Ki→Type
 | .sc s=>s.T| .st l=>TT l| .arr _=>Array Value
@[reducible] def Ki.enc:(k:Ki)→k.T→Value
 | .sc s,x=>s.enc x| .st l,x=> .agg ⟨gA l x⟩| .arr _,cs=> .agg cs
def Ki.dec:(k:Ki)→Value→(k.T→Prop)→Prop
 | .sc s,v,K=>s.dec v K
 | .st l,.agg cs,K=>E3 l cs.toList K
 | .arr _,.agg cs,K=>K cs
 |_,_,_=>False
theorem Sc.dz {s:Sc} {v:Value} {K:s.T→Prop} (h:s.dec v K): ∃x,v=s.enc x∧K x:=by
 cases s<;>cases v<;>simp only [Sc.dec] at h<;>first|exact h.elim|exact ⟨_,rfl,h⟩|skip
 case addr.pointer a=>
  cases a with
  |none=>exact h.elim
  |some p=>exact ⟨p,rfl,h⟩
 rename_i k k' n
 by_cases e:k=k'
 ·subst e;simp [fk] at h;exact ⟨n,rfl,h⟩
 ·have:(k==k')=false:=by simpa using e
  rw [this] at h;exact h.elim
theorem yJ: ∀{l:List Sc} {vs:List Value} {K:TT l→Prop},E3 l vs K→∃x,vs=gA l x∧K x
 | [],[],_,h=>⟨(),rfl,h⟩
 |s::l,v::vs,K,h=>by
  obtain ⟨x,rfl,h1⟩:=Sc.dz (s:=s) h
  obtain ⟨y,rfl,h2⟩:=yJ (l:=l) h1
  exact ⟨(x,y),rfl,h2⟩
 | [],_::_,_,h=>h.elim
 |_::_,[],_,h=>h.elim
theorem Ki.dz {k:Ki} {v:Value} {K:k.T→Prop} (h:k.dec v K): ∃x,v=k.enc x∧K x:=by
 cases k with
 |sc s=>exact Sc.dz h
 |st l=>
  cases v<;>simp only [Ki.dec] at h<;>try exact h.elim
  rename_i cs
  obtain ⟨x,e,h⟩:=yJ h
  exact ⟨x,by cases cs;simp only at e;subst e;rfl,h⟩
 |arr n=>cases v<;>simp only [Ki.dec] at h<;>first|exact h.elim|exact ⟨_,rfl,h⟩
theorem oT {s:Sc} {x:s.T} {K:s.T→Prop}:s.dec (s.enc x) K↔K x:=by
 cases s<;>simp [Sc.dec,Sc.enc,fk]
theorem pY: ∀{l:List Sc} {x:TT l} {K:TT l→Prop},E3 l (gA l x) K↔K x
 | [],(),K=>Iff.rfl
 |s::l,(x,y),K=>by
  simp only [E3]
  rw [oT,pY]
inductive AF where
 |e|n (v:Option Value) (l r:AF)
def Im {α:Type} (k:Nat) (x y:α):α:= @Nat.rec (fun _=>α) x (fun _ _=>y) k
def get (f:AF):Nat→Option Value:=
 @AF.rec (fun _=>Nat→Option Value) (fun _=>none)
  (fun v _ _ gl gr i=> @Nat.rec (fun _=>Option Value) v (fun j _=>Im (j % 2) (gl (j/2)) (gr (j/2))) i) f
def aL (f:AF) (i:Nat) (u:Option Value):AF:=
 @AF.rec (fun _=>Nat→AF) (fun _=> .e)
  (fun v l r gl gr i=> @Nat.rec (fun _=>AF) (.n u l r) (fun j _=>Im (j % 2) (.n v (gl (j/2)) r) (.n v l (gr (j/2)))) i) f i
def has:AF→Nat→Bool
 | .e,_=>false
 | .n _ _ _,0=>true
 | .n _ l r,j+1=>if j % 2=0 then has l (j/2) else has r (j/2)
def ud:Nat→Nat→(Nat→Option Value)→AF
 |0,_,_=> .e
 |k+1,n,g=> @Nat.rec (fun _=>AF) .e (fun m _=> .n (g 0) (ud k (n/2) fun j=>g (2*j+1)) (ud k (m/2) fun j=>g (2*j+2))) n
theorem Cw {α:Type} (k:Nat) (x y:α):Im k x y=if k=0 then x else y:=by cases k<;>rfl
theorem Cg (i:Nat):get .e i=none:=rfl
theorem I6 (v:Option Value) (l r:AF):get (.n v l r) 0=v:=rfl
theorem sv (v:Option Value) (l r:AF) (j:Nat):get (.n v l r) (j+1)=if j % 2=0 then get l (j/2) else get r (j/2):=by
 rw [←Cw];rfl
theorem TX (i:Nat) (u:Option Value):aL .e i u= .e:=rfl
theorem OJ (v u:Option Value) (l r:AF):aL (.n v l r) 0 u= .n u l r:=rfl
theorem OK (v u:Option Value) (l r:AF) (j:Nat):aL (.n v l r) (j+1) u=if j % 2=0 then .n v (aL l (j/2) u) r else .n v l (aL r (j/2) u):=by
 rw [←Cw];rfl
theorem oG: ∀(f:AF) (i j:Nat) (u:Option Value),has (aL f i u) j=has f j
 | .e,_,_,_=>rfl
 | .n v l r,0,j,u=>by rw [OJ];cases j<;>simp [has]
 | .n v l r,i+1,j,u=>by
  rw [OK]
  cases j with
  |zero=>split<;>rfl
  |succ j=>
   split
   ·simp only [has,oG l]
   ·simp only [has,oG r]
theorem mU: ∀(f:AF) (i j:Nat) (u:Option Value),get (aL f i u) j=if i=j∧has f j=true then u else get f j
 | .e,i,j,u=>by simp [TX,Cg,has]
 | .n v l r,0,j,u=>by
  rw [OJ]
  cases j with
  |zero=>simp [I6,has]
  |succ j=>simp [sv]
 | .n v l r,i+1,j,u=>by
  rw [OK]
  cases j with
  |zero=>split<;>simp [I6]
  |succ j=>
   by_cases hi:i % 2=0<;>by_cases hj:j % 2=0
   ·simp only [hi,hj,if_true,sv,mU l,has]
    by_cases e:i/2=j/2
    ·have:i=j:=by omega
     simp [this]
    ·have:i≠j:=by intro h;subst h;exact e rfl
     simp [e,this]
   ·have:i≠j:=by intro h;subst h;exact hj hi
    simp [hi,hj,sv,this]
   ·have:i≠j:=by intro h;subst h;exact hi hj
    simp [hi,hj,sv,this]
   ·simp only [hi,hj,if_false,sv,mU r,has]
    by_cases e:i/2=j/2
    ·have:i=j:=by omega
     simp [this]
    ·have:i≠j:=by intro h;subst h;exact e rfl
     simp [e,this]
theorem kR: ∀{f:AF} {i:Nat} {v:Value},get f i=some v→has f i=true
 | .e,_,_,h=>by simp [Cg] at h
 | .n _ _ _,0,_,_=>rfl
 | .n _ l r,j+1,v,h=>by
  rw [sv] at h
  simp only [has]
  split
  ·rename_i hj;rw [if_pos hj] at h;exact kR h
  ·rename_i hj;rw [if_neg hj] at h;exact kR h
theorem v8: ∀(k n:Nat) (g:Nat→Option Value) (i:Nat),has (ud k n g) i=true→i<n
 |0,_,_,_,h=>by simp [ud,has] at h
 |k+1,0,_,_,h=>by simp [ud,has] at h
 |k+1,m+1,g,0,h=>by omega
 |k+1,m+1,g,j+1,h=>by
  simp only [ud,has] at h
  split at h
  ·have:=v8 k _ _ _ h;omega
  ·have:=v8 k _ _ _ h;omega
theorem AI: ∀(k n:Nat) (g:Nat→Option Value) (i:Nat) (v:Value),get (ud k n g) i=some v→g i=some v
 |0,_,_,_,_,h=>by simp [ud,Cg] at h
 |k+1,0,g,i,v,h=>by rw [show ud (k+1) 0 g= .e from rfl,Cg] at h;cases h
 |k+1,m+1,g,0,v,h=>by simpa [ud,I6] using h
 |k+1,m+1,g,j+1,v,h=>by
  simp only [ud,sv] at h
  split at h
  ·have:=AI k _ _ _ _ h
   rw [show 2*(j/2)+1=j+1 by omega] at this
   exact this
  ·have:=AI k _ _ _ _ h
   rw [show 2*(j/2)+2=j+1 by omega] at this
   exact this
def bI (f:AF) (d:Option Nat) (v:Option Value):AF:=match d with|some d=>aL f d v|none=>f
def ev (f:AF):Operand→Option Value
 | .tmp t=>get f t
 | .const v=>some v
 | .global g=>some (.pointer (some ⟨g,0,none⟩))
 | .func i=>some (.func (.func i) #[] #[])
structure Rel (nn:Nat) (dfs:List Deferred) (a:Act) (f:AF):Prop where
 size:a.tmps.size=nn
 shape: ∀i,has f i=true→i<nn
 defs:a.defers=dfs
 val: ∀i v,get f i=some v→a.tmps.getD i undef=v
variable {nn:Nat} {dfs:List Deferred}
theorem Rel.ev {a:Act} {f:AF} (h:Rel nn dfs a f) {x:Operand} {v:Value} (e:Vc.ev f x=some v):a.eval x=v:=by
 cases x with
 |tmp t=>exact h.val t v e
 |const u=>simpa [Vc.ev,Act.eval] using e
 |global g=>simpa [Vc.ev,Act.eval] using e
 |func i=>simpa [Vc.ev,Act.eval] using e
theorem Rel.aL {a:Act} {f:AF} (h:Rel nn dfs a f) (d:Nat) (ov:Option Value) (v:Value) (hv: ∀v',ov=some v'→v=v'):
  Rel nn dfs {a with tmps:=a.tmps.setIfInBounds d v} (aL f d ov):=by
 refine ⟨by simpa using h.size,fun i hi=>h.shape i (by rwa [oG] at hi),h.defs,fun i u hu=> ?_⟩
 have hl:i<nn:=by have:=kR hu;rw [oG] at this;exact h.shape i this
 rw [mU] at hu
 by_cases hd:d=i∧has f i=true
 ·rw [if_pos hd] at hu
  obtain ⟨rfl,_⟩:=hd
  have:=hv u hu
  subst this
  have hs:d<a.tmps.size:=by rw [h.size];exact hl
  simp [hs]
 ·rw [if_neg hd] at hu
  have:=h.val i u hu
  by_cases hdi:d=i
  ·exact absurd ⟨hdi,kR hu⟩ hd
  ·rw [←this]
   simp only [Array.getD_eq_getD_getElem?,Array.getElem?_setIfInBounds,hdi,if_false]
theorem Rel.put {a:Act} {f:AF} (h:Rel nn dfs a f) (d:Option Nat) {ov:Option Value} {v:Value} (hv: ∀v',ov=some v'→v=v'):Rel nn dfs (a.put d v) (bI f d ov):=by
 cases d with
 |none=>exact h
 |some d=>exact h.aL d ov v hv
theorem Rel.known {a:Act} {f g:AF} (h:Rel nn dfs a g) (hf:Rel nn dfs a f) {d:Nat} {v:Value} (e:get f d=some v):Rel nn dfs a (Vc.aL g d (some v)):=by
 refine ⟨h.size,fun i hi=>h.shape i (by rwa [oG] at hi),h.defs,fun i u hu=> ?_⟩
 rw [mU] at hu
 by_cases hd:d=i∧has g i=true
 ·rw [if_pos hd] at hu
  rw [←hd.1]
  simp at hu;subst hu
  exact hf.val d v e
 ·rw [if_neg hd] at hu
  exact h.val i u hu
theorem Rel.same {a:Act} {f:AF} (h:Rel nn dfs a f) {d:Nat} {v:Value} (e:get f d=some v):Rel nn dfs a (Vc.aL f d (some v)):=h.known h e
def aa (b:Bool) (X Y:Prop):Prop:=match b with|true=>X|false=>Y
def ah (q:Option Addr) (K:Addr→Prop):Prop:=match q with|some p=>K p|none=>False
def bh (k:IntKind) (a b:Int):Int:=k.wrap (a*2^min b.toNat k.bits)
def bT (k:IntKind) (a b:Int):Int:=a.fdiv (2^min b.toNat k.bits)
def dH (k:IntKind) (a b:Int):Int:=k.wrap (BitVec.ofInt k.bits a&&&BitVec.ofInt k.bits b).toNat
def kW (k:IntKind) (a b:Int):Int:=k.wrap (BitVec.ofInt k.bits a|||BitVec.ofInt k.bits b).toNat
def eH (k:IntKind) (a b:Int):Int:=k.wrap (BitVec.ofInt k.bits a^^^BitVec.ofInt k.bits b).toNat
def Oe (k:IntKind) (a b:Int):Int:=k.wrap (BitVec.ofInt k.bits a&&& ~~~BitVec.ofInt k.bits b).toNat
def Gq (S:World→Prop) (p:Addr):(l:List Sc)→Nat→(TT l→Prop)→Prop
 | [],_,K=>K ()
 |s::l,i,K=> ∃x:s.T,(∀w,S w→w.cell? (p.add i)=some (s.enc x))∧Gq S p l (i+1) fun y=>K (x,y)
def aw:(k:Ki)→(p:Addr)→(S:World→Prop)→(k.T→Prop)→Prop
 | .sc s,p,S,K=> ∃x:s.T,(∀w,S w→w.cell? p=some (s.enc x))∧K x
 | .st l,p,S,K=>Gq S p l 0 K
 | .arr n,p,S,K=> ∃cs:Array Value,cs.size=n∧(∀w,S w→∀i,i<n→w.cell? (p.add i)=some (cs.getD i undef))∧K cs
def Ld (k:Ki) (p:Addr) (w:World) (K:k.T→Prop):Prop:=aw k p (fun w'=>w'=w) K
def ay (s:Sl) (i:Int) (sz:Nat) (K:Addr→Prop):Prop:= ∃p,s.base=some p∧0≤i∧i<(s.len:Int)∧K (p.add (i.toNat*sz))
def au (p:Addr) (len:Nat) (i:Int) (sz:Nat) (K:Addr→Prop):Prop:=0≤i∧i<(len:Int)∧K (p.add (i.toNat*sz))
def bj (s:Sl) (lo hi mx:Int) (sz:Nat) (K:Sl→Prop):Prop:=
 0≤lo∧lo≤hi∧hi≤mx∧mx≤(s.cap:Int)∧K ⟨if mx.toNat=lo.toNat then s.base else s.base.map (·.add (lo.toNat*sz)),hi.toNat - lo.toNat,mx.toNat - lo.toNat⟩
def NH (s:ByteArray) (lo hi:Int) (K:ByteArray→Prop):Prop:=0≤lo∧lo≤hi∧hi≤(s.size:Int)∧K (s.extract lo.toNat hi.toNat)
def iz (s:Sc) (cs:Array Value) (len:Nat) (i:Int) (K:s.T→Prop):Prop:=0≤i∧i<(len:Int)∧∃x:s.T,cs[i.toNat]? =some (s.enc x)∧K x
def Ck (s:ByteArray) (n:Nat):Int:=((s[n]?).map fun b=>(b.toNat:Int)).getD 0
def aA:Value→Bool
 | .agg _| .tuple _=>false
 |_=>true
def ae (p:Addr):List Value→Nat→World→(World→Prop)→Prop
 | [],_,w,K=>K w
 |v::vs,i,w,K=>fk (aA v) ((w.cell? (p.add i)).isSome=true∧w.frozen? (p.add i)=false∧ae p vs (i+1) (w.setCell (p.add i) v) K)
def St (p:Addr) (v:Value) (w:World) (K:World→Prop):Prop:=fk (aA v) ((w.cell? p).isSome=true∧w.frozen? p=false∧K (w.setCell p v))
def Nw (t:TypeId) (cs:Array Value) (w:World) (K:Nat→World→Prop):Prop:=K w.heap.size (w.alloc (.cells cs t))
def aY (w:World) (K:World→Prop):Prop:=K {w with drawn:=w.drawn+1}
def ar (P:Program) (s:Sem Value) (k:Ki) (w:World) (K:k.T→World→Prop):Prop:=
 match s.run P w with
 | .ok v w'=>k.dec v fun x=>K x w'
 | .halt _ _=>False
def aQ {α:Type} (rest:α) (k:α→Prop):Prop:=k rest
@[reducible] def mo:List Ki→Type→Type
 | [],α=>α
 |k::ks,α=>k.T→mo ks α
def Ej:(ks:List Ki)→List Value→mo ks (World→Prop)→World→Prop
 | [],[],K,w=>K w
 |k::ks,v::vs,K,w=>k.dec v fun x=>Ej ks vs (K x) w
 |_,_,_,_=>False
def nH:(ks:List Ki)→Value→mo ks (World→Prop)→World→Prop
 | [k],v,K,w=>k.dec v fun x=>K x w
 |ks,.tuple vs,K,w=>Ej ks vs.toList K w
 |_,_,_,_=>False
def vZ (ks:List Ki) (K:mo ks (World→Prop)):Ending→World→Prop
 | .returned v,w=>nH ks v K w
 |_,_=>False
def Cl (P:Program) (ks:List Ki) (i:FuncId) (args:Array Value) (w:World) (K:mo ks (World→Prop)):Prop:=Calls P i args w (vZ ks K)
def kD (ks:List Ki):(vs:List Value)→(List Value→World→Prop)→mo ks (World→Prop):=
 match ks with
 | []=>fun vs g=>g vs
 |k::ks=>fun vs g=>fun x:k.T=>kD ks (vs++ [k.enc x]) g
theorem yV: ∀{ks:List Ki} {vs acc:List Value} {g:List Value→World→Prop} {w:World},Ej ks vs (kD ks acc g) w→g (acc++vs) w
 | [],[],acc,g,w,h=>by rw [List.append_nil];exact h
 |k::ks,v::vs,acc,g,w,h=>by
  obtain ⟨x,rfl,h1⟩:=Ki.dz (k:=k) h
  have:=yV (ks:=ks) (acc:=acc++ [k.enc x]) h1
  simpa using this
 | [],_::_,_,_,_,h=>h.elim
 |_::_,[],_,_,_,h=>h.elim
def mj:List Value→Value
 | [v]=>v
 |vs=> .tuple ⟨vs⟩
theorem iX {ks:List Ki} {v:Value} {g:List Value→World→Prop} {w:World} (h:nH ks v (kD ks [] g) w): ∃vs,v=mj vs∧g vs w:=by
 match ks,h with
 | [k],h=>
  obtain ⟨x,rfl,h1⟩:=Ki.dz (k:=k) h
  exact ⟨[k.enc x],rfl,h1⟩
 | [],h=>
  cases v with
  |tuple us=>
   obtain ⟨us⟩:=us
   cases us with
   |nil=>exact ⟨[],rfl,h⟩
   |cons=>exact h.elim
  |_=>exact h.elim
 |k::k'::ks,h=>
  cases v with
  |tuple us=>
   have h1:=yV (acc:= []) h
   refine ⟨us.toList,?_,by simpa using h1⟩
   obtain ⟨us⟩:=us
   match us,h with
   | [],h=>exact h.elim
   | [a],h=>
    obtain ⟨x,_,h1⟩:=Ki.dz (k:=k) h
    exact h1.elim
   |a::b::c,h=>rfl
  |_=>exact h.elim
def wc (_:Program) (d:Option TypeDesc) (flat:Option (List Sc)) (n:Nat):Option Ki:=
 match d with
 |some (.int k)=>some (.sc (.int k))
 |some .bool=>some (.sc .bool)
 |some .string=>some (.sc .str)
 |some (.pointer _)=>some (.sc .ptr)
 |some (.slice _)=>some (.sc .sl)
 |some (.map _ _)=>some (.sc .mp)
 |some (.func _ _ _)=>some (.sc .any)
 |some (.interface _)=>some (.sc .any)
 |some (.struct _)|some (.array _ _)=>match flat with|some l=>some (.st l)|none=>some (.arr n)
 |_=>none
def DM (P:Program) (t:TypeId):Option Sc:=
 match wc P (P.underlying t) none 0 with
 |some (.sc s)=>some s
 |_=>none
def flat (P:Program):(fuel:Nat)→TypeId→Option (List Sc)
 |0,_=>none
 |d+1,t=>match P.underlying t with
  |some (.struct fs)=>fs.toList.foldr (fun f acc=>match flat P d f.type,acc with|some a,some b=>some (a++b)|_,_=>none) (some [])
  |some (.array n e)=>match flat P d e with|some a=>some ((List.replicate n a).flatten)|none=>none
  |_=>match DM P t with|some s=>some [s]|none=>none
def small:Nat:=24
def eN (P:Program) (t:TypeId):Option Ki:=
 match P.underlying t with
 |some (.struct _)=>if P.cellsOf t≤small then match flat P 8 t with|some l=>some (.st l)|none=>none else some (.arr (P.cellsOf t))
 |some (.array _ _)=>if P.cellsOf t≤small then match flat P 8 t with|some l=>some (.st l)|none=>none else some (.arr (P.cellsOf t))
 |d=>wc P d none 0
def ie (P:Program) (t:TypeId):Option Bool:=
 match P.underlying t with
 |some (.struct _)|some (.array _ _)=>some true
 |some _=>some false
 |none=>none
def I4 (P:Program) (t:TypeId):Bool:=
 match eN P t,P.info? t with
 |some (.sc _),some _=>true
 |some (.st l),some it=>it.size==l.length&&ie P t==some true
 |some (.arr n),some it=>it.size==n&&ie P t==some true
 |_,_=>false
def vC (op:BinOp) (k:IntKind) (a b:Int) (K:Value→Prop):Prop:=
 match op with
 | .add=>K (.int k (k.wrap (a+b)))
 | .sub=>K (.int k (k.wrap (a - b)))
 | .mul=>K (.int k (k.wrap (a*b)))
 | .quo=>b≠0∧K (.int k (k.wrap (a.tdiv b)))
 | .rem=>b≠0∧K (.int k (a.tmod b))
 | .and=>K (.int k (dH k a b))
 | .or=>K (.int k (kW k a b))
 | .xor=>K (.int k (eH k a b))
 | .andNot=>K (.int k (Oe k a b))
 | .eql=>K (.bool (a==b))
 | .neq=>K (.bool (a !=b))
 | .lss=>K (.bool (decide (a<b)))
 | .leq=>K (.bool (decide (a≤b)))
 | .gtr=>K (.bool (decide (a>b)))
 | .geq=>K (.bool (decide (a≥b)))
 | .shl| .shr=>False
def na (v:Value) (K:Bool→Prop):Prop:=match v with| .nilFunc=>K true| .func _ _ _=>K false|_=>False
def iK (v:Value) (K:Bool→Prop):Prop:=match v with| .nilIface=>K true| .iface _ _=>K false|_=>False
def fT (P:Program) (t:TypeId) (cs:List Value) (off:Nat) (K:Option Value→Prop):Prop:=
 match ie P t,P.info? t with
 |some true,some it=>K (some (.agg ⟨(cs.drop off).take it.size⟩))
 |some false,some _=>match cs[off]? with|some v=>K (some v)|none=>False
 |_,_=>False
def kF (P:Program) (rec:TypeId→Value→Value→(Bool→Prop)→Prop) (xs ys:List Value):List Field→(Bool→Prop)→Prop
 | [],K=>K true
 |f::fs,K=>match f.name== "_" with
  |true=>kF P rec xs ys fs K
  |false=>fT P f.type xs f.offset fun a=>fT P f.type ys f.offset fun b=>match a,b with
   |some a,some b=>match fs with
    | []=>rec f.type a b K
    |fs=>rec f.type a b fun r=>kF P rec xs ys fs fun r'=>K (r&&r')
   |_,_=>False
def xC (P:Program) (rec:TypeId→Value→Value→(Bool→Prop)→Prop) (e:TypeId) (sz:Nat) (xs ys:List Value):List Nat→(Bool→Prop)→Prop
 | [],K=>K true
 |i::is,K=>fT P e xs (i*sz) fun a=>fT P e ys (i*sz) fun b=>match a,b with
   |some a,some b=>match is with
    | []=>rec e a b K
    |is=>rec e a b fun r=>xC P rec e sz xs ys is fun r'=>K (r&&r')
   |_,_=>False
def qk (P:Program):Nat→TypeId→Value→Value→(Bool→Prop)→Prop
 |0=>fun _ _ _ _=>False
 |d+1=>fun t x y K=>match P.underlying t,x,y with
  |some .bool,.bool a,.bool b=>K (a==b)
  |some (.int _),.int k a,.int k' b=>fk (k==k') (K (a==b))
  |some .string,.string a,.string b=>K (a.toList==b.toList)
  |some (.struct fs),.agg xs,.agg ys=>fk (!P.stoodInHeld t) (kF P (qk P d) xs.toList ys.toList fs.toList K)
  |some (.array n e),.agg xs,.agg ys=>match P.info? e with
   |some it=>xC P (qk P d) e it.size xs.toList ys.toList (List.range n) K
   |none=>False
  |_,_,_=>False
def zb (k:IntKind) (n:Nat) (xs ys:Array Value) (K:Bool→Prop):Prop:=
 ∃a b:List Int,xs=⟨a.map (.int k)⟩∧ys=⟨b.map (.int k)⟩∧a.length=n∧b.length=n∧K (a==b)
def zv (P:Program) (t:TypeId) (xs ys:Array Value) (K:Bool→Prop):Prop:=
 ∃b,(∀w,(Op.equalIn 10000 t (.agg xs) (.agg ys)).run P w= .ok b w)∧K b
def sR (P:Program) (t:TypeId) (xs ys:Array Value) (K:Bool→Prop):Prop:=
 fk (!P.eqGuardType P.depth t) (match eN P t with
  |some (.st _)=>qk P 8 t (.agg xs) (.agg ys) K
  |some (.arr n)=>match P.underlying t with
   |some (.array m e)=>match P.underlying e,P.info? e with
    |some (.int k),some it=>fk (it.size==1) (fk (m==n) (zb k n xs ys K))
    |some _,some _=>zv P t xs ys K
    |_,_=>False
   |some (.struct _)=>zv P t xs ys K
   |_=>False
  |_=>False)
def kj (P:Program) (op:BinOp) (t:TypeId) (x y:Value) (K:Value→Prop):Prop:=
 match y with
 | .nilFunc=>match op,P.underlying t with
  | .eql,some (.func _ _ _)=>na x fun b=>K (.bool b)
  | .neq,some (.func _ _ _)=>na x fun b=>K (.bool (!b))
  |_,_=>False
 |y=>binVC1 P op t x y K
where binVC1 (P:Program) (op:BinOp) (t:TypeId) (x y:Value) (K:Value→Prop):Prop:=
 match x,y with
 | .int k a,.int k' b=>
  match op with
  | .shl=>0≤b∧K (.int k (bh k a b))
  | .shr=>0≤b∧K (.int k (bT k a b))
  |op=>fk (k==k') (vC op k a b K)
 | .bool a,.bool b=>
  match op,P.underlying t with
  | .eql,some .bool=>K (.bool (a==b))
  | .neq,some .bool=>K (.bool (!(a==b)))
  |_,_=>False
 | .pointer p,.pointer none=>
  match op,P.underlying t with
  | .eql,some (.pointer _)=>K (.bool p.isNone)
  | .neq,some (.pointer _)=>K (.bool (!p.isNone))
  |_,_=>False
 | .slice p _ _,.slice none _ _=>
  match op,P.underlying t with
  | .eql,some (.slice _)=>K (.bool p.isNone)
  | .neq,some (.slice _)=>K (.bool (!p.isNone))
  |_,_=>False
 | .string a,.string b=>
  match op with
  | .eql=>K (.bool (a.toList==b.toList))
  | .neq=>K (.bool (!(a.toList==b.toList)))
  | .add=>((a.size:Int)+b.size≤9223372036854775807)∧K (.string (a++b))
  | .lss=>K (.bool (Op.bytesLess a.toList b.toList))
  | .leq=>K (.bool (Op.bytesLess a.toList b.toList||a.toList==b.toList))
  | .gtr=>K (.bool (!(Op.bytesLess a.toList b.toList||a.toList==b.toList)))
  | .geq=>K (.bool (!Op.bytesLess a.toList b.toList))
  |_=>False
 | .agg xs,.agg ys=>
  match op with
  | .eql=>sR P t xs ys fun b=>K (.bool b)
  | .neq=>sR P t xs ys fun b=>K (.bool (!b))
  |_=>False
 |_,_=>False
def vK (P:Program) (op:BinOp) (t:TypeId) (x:Value) (K:Value→Prop):Prop:=
 match op,P.underlying t with
 | .eql,some (.interface _)=>iK x fun b=>K (.bool b)
 | .neq,some (.interface _)=>iK x fun b=>K (.bool (!b))
 |_,_=>False
def ze:Operand→Bool
 | .const .nilIface=>true
 |_=>false
def zN (op:UnOp) (x:Value) (K:Value→Prop):Prop:=
 match op,x with
 | .not,.bool b=>K (.bool !b)
 | .neg,.int k n=>K (.int k (k.wrap (0 - n)))
 | .xor,.int k n=>K (.int k (eH k (if k.signed then -1 else k.max) n))
 |_,_=>False
def rX (P:Program) (src dst:TypeId) (x:Value) (K:Value→Prop):Prop:=
 match P.underlying src,P.underlying dst,x with
 |some _,some (.int k),.int _ n=>K (.int k (k.wrap n))
 |some _,some .string,.string s=>K (.string s)
 |_,_,_=>False
def q9 (f:AF) (o:Option Operand) (d:Int):Option Int:=
 match o with
 |none=>some d
 |some x=>match ev f x with|some (.int _ n)=>some n|_=>none
def oL (P:Program) (t:TypeId) (f:AF) (x:Value) (lo hi mx:Option Operand) (K:Value→Prop):Prop:=
 match P.underlying t,x with
 |some (.slice e),.slice b l c=>
  match hi,mx with
  |none,some _=>False
  |_,_=>
   match q9 f lo 0,q9 f hi l,q9 f mx c,P.info? e with
   |some lo,some hi,some mx,some i=>bj ⟨b,l,c⟩ lo hi mx i.size fun s=>K (.slice s.base s.len s.cap)
   |_,_,_,_=>False
 |some .string,.string s=>
  match mx with
  |some _=>False
  |none=>match q9 f lo 0,q9 f hi s.size with
   |some lo,some hi=>NH s lo hi fun s=>K (.string s)
   |_,_=>False
 |some (.array n e),.pointer (some p)=>
  match hi,mx with
  |none,some _=>False
  |_,_=>
   match q9 f lo 0,q9 f hi n,q9 f mx n,P.info? e with
   |some lo,some hi,some mx,some i=>bj ⟨some p,n,n⟩ lo hi mx i.size fun s=>K (.slice s.base s.len s.cap)
   |_,_,_,_=>False
 |_,_=>False
def xj (P:Program) (t:TypeId) (i:Nat):Option Nat:=
 match P.underlying t with
 |some (.struct fs)=>match fs[i]? with
  |some f=>match P.info? f.type with
   |some it=>if it.size=0 then none else some f.offset
   |none=>none
  |none=>none
 |_=>none
def oN (P:Program) (t:TypeId) (cs:List Value) (i:Nat) (K:Option Value→Prop):Prop:=
 match P.underlying t with
 |some (.struct fs)=>match fs[i]? with
  |some f=>match eN P t with
   |some (.arr _)=>match ie P f.type,P.info? f.type with
    |some true,some it=>match eN P f.type with
     |some (.st l)=> ∃x:TT l,(cs.drop f.offset).take it.size=gA l x∧K (some (.agg ⟨gA l x⟩))
     |_=>K (some (.agg ⟨(cs.drop f.offset).take it.size⟩))
    |some false,some _=>match DM P f.type with
     |some s=> ∃x:s.T,cs[f.offset]? =some (s.enc x)∧K (some (s.enc x))
     |none=>False
    |_,_=>False
   |_=>fT P f.type cs f.offset K
  |none=>False
 |_=>False
def bP (P:Program) (t:TypeId) (vs:List (Nat×Value)) (K:Array Value→Prop):Prop:= ∃cs,P.built t vs=some cs∧K cs
def oR (P:Program) (t:TypeId) (x:Value) (i:Int) (K:Value→Prop):Prop:=
 match P.underlying t,x with
 |some (.array n e),.agg cs=>match DM P e,P.info? e with
  |some s,some it=>fk (it.size==1) (iz s cs n i fun v=>K (s.enc v))
  |_,_=>False
 |some .string,.string s=>0≤i∧i<(s.size:Int)∧K (.int .u8 (Ck s i.toNat))
 |_,_=>False
def rW (P:Program) (t:TypeId) (x:Value) (i:Int) (K:Value→Prop):Prop:=
 match P.underlying t,x with
 |some (.slice e),.slice b l c=>match P.info? e with
  |some it=>ay ⟨b,l,c⟩ i it.size fun p=>K (.pointer (some p))
  |none=>False
 |some (.array n e),.pointer (some p)=>match P.info? e with
  |some it=>au p n i it.size fun p=>K (.pointer (some p))
  |none=>False
 |_,_=>False
def v9 (P:Program) (t:TypeId) (x:Value) (K:Value→Prop):Prop:=
 match P.underlying t,x with
 |some .string,.string s=>K (.int .i64 s.size)
 |some (.slice _),.slice _ n _=>K (.int .i64 n)
 |some (.array n _),_=>K (.int .i64 n)
 |_,_=>False
def vS (P:Program) (t:TypeId) (x:Value) (K:Value→Prop):Prop:=
 match P.underlying t,x with
 |some (.slice _),.slice _ _ n=>K (.int .i64 n)
 |_,_=>False
def gY (mx:Bool) (x y:Value) (K:Value→Prop):Prop:=
 match x,y with
 | .int k a,.int k' b=>fk (k==k') (K (.int k (match mx with|true=>if b>a then b else a|false=>if b<a then b else a)))
 |_,_=>False
def ch (f:AF):List (Nat×Operand)→Option (List (Nat×Value))
 | []=>some []
 |(i,x)::l=>match ev f x,ch f l with
  |some v,some vs=>some ((i,v)::vs)
  |_,_=>none
def qL (f:AF):List Operand→Option (List Value)
 | []=>some []
 |x::l=>match ev f x,qL f l with
  |some v,some vs=>some (v::vs)
  |_,_=>none
def l9 (P:Program) (S:World→Prop) (f:AF) (K:Option Value→Prop):Op→Prop
 | .move x| .assign x=>K (ev f x)
 | .pick c x y=>match ev f c with|some (.bool b)=>aa b (K (ev f x)) (K (ev f y))|_=>False
 | .nilCheck x=>match ev f x with
  |some (.pointer q)=>ah q fun p=>K (some (.pointer (some p)))
  |some (.func (.func i) a c)=>K (some (.func (.func i) a c))
  |some (.slice b l c)=>K (some (.slice b l c))
  |_=>False
 | .fieldAddr t x i=>match ev f x,xj P t i with
  |some (.pointer (some p)),some off=>K (some (.pointer (some (p.add off))))
  |_,_=>False
 | .field t x i=>match ev f x with|some (.agg cs)=>oN P t cs.toList i K|_=>False
 | .indexAddr t x i=>match ev f x,ev f i with
  |some x,some (.int _ n)=>rW P t x n fun v=>K (some v)
  |_,_=>False
 | .index t x i=>match ev f x,ev f i with
  |some x,some (.int _ n)=>oR P t x n fun v=>K (some v)
  |_,_=>False
 | .load t x=>match ev f x,eN P t with
  |some (.pointer (some p)),some k=>fk (I4 P t) (aw k p S fun v=>K (some (k.enc v)))
  |_,_=>False
 | .binOp op t x y _=>match ze y with
  |true=>match ev f x with|some x=>vK P op t x fun v=>K (some v)|none=>False
  |false=>match ev f x,ev f y with
   |some x,some y=>kj P op t x y fun v=>K (some v)
   |_,_=>False
 | .unOp op _ x=>match ev f x with|some x=>zN op x fun v=>K (some v)|none=>False
 | .convert s d x=>match ev f x with|some x=>rX P s d x fun v=>K (some v)|none=>False
 | .slice t x lo hi mx=>match ev f x with|some x=>oL P t f x lo hi mx fun v=>K (some v)|none=>False
 | .extract x i=>match ev f x with|some (.tuple vs)=>(match vs.toList[i]? with|some v=>K (some v)|none=>False)|_=>False
 | .build t ps=>match ch f ps.toList with
  |some vs=>match eN P t with
   |some (.arr _)=>bP P t vs fun cs=>K (some (.agg cs))
   |_=>match P.built t vs with|some cs=>K (some (.agg cs))|none=>False
  |none=>False
 | .call c=>match c.callee,c.args.toList,c.argTypes.toList with
  | .builtin .len,[x],[t]=>match ev f x with|some x=>v9 P t x fun v=>K (some v)|none=>False
  | .builtin .cap,[x],[t]=>match ev f x with|some x=>vS P t x fun v=>K (some v)|none=>False
  | .builtin .min,[x,y],_=>match ev f x,ev f y with|some x,some y=>gY false x y fun v=>K (some v)|_,_=>False
  | .builtin .max,[x,y],_=>match ev f x,ev f y with|some x,some y=>gY true x y fun v=>K (some v)|_,_=>False
  |_,_,_=>False
 | .makeFunc fn a c=>match qL f a.toList,qL f c.toList with
  |some a,some c=>K (some (.func fn ⟨a⟩ ⟨c⟩))
  |_,_=>False
 | .makeInterface t x=>match ev f x,P.underlying t with
  |some _,some (.interface _)=>False
  |some v,some _=>K (some (.iface t v))
  |_,_=>False
 |_=>False
theorem bw {b:Bool} {X:Prop} (h:fk b X):b=true∧X:=by
 cases b
 ·exact h.elim
 ·exact ⟨rfl,h⟩
theorem Oj {k k':IntKind} {X:Prop} (h:fk (k==k') X):k=k'∧X:=by
 obtain ⟨h1,h2⟩:=bw h
 exact ⟨by simpa using h1,h2⟩
theorem FW {P:Program} {op:BinOp} {k:IntKind} {t:TypeId} {a b:Int} {K:Value→Prop} (h:vC op k a b K):
  ∃v,(∀w,(binOp op t (.int k a) (.int k b)).run P w= .ok v w)∧K v:=by
 cases op<;>simp only [vC] at h<;>
  first
  |exact h.elim
  |(obtain ⟨h0,h⟩:=h;refine ⟨_,fun w=> ?_,h⟩;simp [binOp,Op.intDiv,h0];done)
  |(refine ⟨_,fun w=> ?_,h⟩;simp [binOp,Op.intArith,Op.intBits,Op.intCmp,dH,kW,eH,Oe];done)
theorem Ey {P:Program} {w:World} {t e:TypeId} (d:Nat) (p:Option Addr) (h:P.underlying t=some (.pointer e)):
  (Op.equalIn (d+1) t (.pointer p) (.pointer none)).run P w= .ok p.isNone w:=by
 cases p<;>simp [Op.equalIn,run_underlying h]
theorem wG {P:Program} {w:World} {t e:TypeId} (p:Option Addr) (h:P.underlying t=some (.pointer e)):
  (Op.equal t (.pointer p) (.pointer none)).run P w= .ok p.isNone w:=Ey 9999 p h
theorem Gi {P:Program} {w:World} {t e:TypeId} (d:Nat) (p:Option Addr) (l c l' c':Nat) (h:P.underlying t=some (.slice e)):
  (Op.equalIn (d+1) t (.slice p l c) (.slice none l' c')).run P w= .ok p.isNone w:=by
 cases p<;>simp [Op.equalIn,run_underlying h]
theorem yo {P:Program} {w:World} {t e:TypeId} (p:Option Addr) (l c l' c':Nat) (h:P.underlying t=some (.slice e)):
  (Op.equal t (.slice p l c) (.slice none l' c')).run P w= .ok p.isNone w:=Gi 9999 p l c l' c' h
theorem B5 {P:Program} {w:World} {t:TypeId} (d:Nat) (a b:Bool) (h:P.underlying t=some .bool):
  (Op.equalIn (d+1) t (.bool a) (.bool b)).run P w= .ok (a==b) w:=by
 simp [Op.equalIn,run_underlying h]
theorem run_eql_bool {P:Program} {w:World} {t:TypeId} (a b:Bool) (h:P.underlying t=some .bool):
  (Op.equal t (.bool a) (.bool b)).run P w= .ok (a==b) w:=B5 9999 a b h
theorem Ft {P:Program} {w:World} {t:TypeId} {ps rs:Array TypeId} {vr:Bool} (d:Nat) (fn:Fn) (a c:Array Value) (h:P.underlying t=some (.func ps rs vr)):
  (Op.equalIn (d+1) t (.func fn a c) .nilFunc).run P w= .ok false w:=by
 simp [Op.equalIn,run_underlying h]
theorem zd {P:Program} {w:World} {t:TypeId} {ps rs:Array TypeId} {vr:Bool} (fn:Fn) (a c:Array Value) (h:P.underlying t=some (.func ps rs vr)):
  (Op.equal t (.func fn a c) .nilFunc).run P w= .ok false w:=Ft 9999 fn a c h
theorem Er {P:Program} {w:World} {t:TypeId} {ps rs:Array TypeId} {vr:Bool} (d:Nat) (h:P.underlying t=some (.func ps rs vr)):
  (Op.equalIn (d+1) t .nilFunc .nilFunc).run P w= .ok true w:=by
 simp [Op.equalIn,run_underlying h]
theorem wM {P:Program} {w:World} {t:TypeId} {ps rs:Array TypeId} {vr:Bool} (h:P.underlying t=some (.func ps rs vr)):
  (Op.equal t .nilFunc .nilFunc).run P w= .ok true w:=Er 9999 h
theorem wH {v:Value} {K:Bool→Prop} (h:na v K):(v= .nilFunc∧K true)∨∃f a c,v= .func f a c∧K false:=by
 unfold na at h
 split at h
 ·exact .inl ⟨rfl,h⟩
 ·exact .inr ⟨_,_,_,rfl,h⟩
 ·exact h.elim
theorem c8 {P:Program} {t:TypeId} {i:TypeInfo} (h:P.info? t=some i) (w:World):(sizeOf t).run P w= .ok i.size w:=by
 simp [sizeOf,typeInfo,h]
theorem fQ {P:Program} {t:TypeId} {b:Bool} (h:ie P t=some b) (w:World):(isAgg t).run P w= .ok b w:=by
 unfold ie at h
 split at h
 ·rename_i hu;simp at h;subst h;simp [isAgg,run_underlying hu]
 ·rename_i hu;simp at h;subst h;simp [isAgg,run_underlying hu]
 ·rename_i d hn1 hn2 hu
  simp at h;subst h
  simp only [isAgg,Sem.run_bind,run_underlying hu,Result.andThen_ok]
  cases d<;>first|rfl|exact absurd hu (hn1 _)|exact absurd hu (hn2 _ _)
 ·simp at h
theorem jf {P:Program} {t:TypeId} {cs:Array Value} {off:Nat} {K:Option Value→Prop} (h:fT P t cs.toList off K):
  ∃v,(∀w,(part t cs off).run P w= .ok v w)∧K (some v):=by
 unfold fT at h
 split at h
 ·rename_i ha hi
  refine ⟨_,fun w=> ?_,h⟩
  simp only [part,Sem.run_bind,fQ ha,Result.andThen_ok,if_true,c8 hi,Sem.run_pure]
  congr 2
  cases cs
  simp
 ·rename_i ha hi
  split at h
  ·rename_i v hv
   refine ⟨v,fun w=> ?_,h⟩
   have:cs[off]? =some v:=by simpa using hv
   simp [part,fQ ha,this]
  ·exact h.elim
 ·exact h.elim
theorem lM {P:Program} {d:Nat} {rec:TypeId→Value→Value→(Bool→Prop)→Prop}
  (ih: ∀t x y K,rec t x y K→∃b,(∀D,d≤D→∀w,(Op.equalIn D t x y).run P w= .ok b w)∧K b) {xs ys:Array Value}:
  ∀{fs:List Field} {K:Bool→Prop},kF P rec xs.toList ys.toList fs K→∃b,(∀D,d≤D→∀w,(Op.eqFields D xs ys fs).run P w= .ok b w)∧K b
 | [],K,h=>⟨true,fun D _ w=>by simp [Op.eqFields],h⟩
 |f::fs,K,h=>by
  unfold kF at h
  split at h
  ·rename_i hn
   have hn:f.name= "_" :=by simpa using hn
   obtain ⟨b,hb,hK⟩:=lM ih h
   exact ⟨b,fun D hD w=>by simp [Op.eqFields,hn,hb D hD w],hK⟩
  ·rename_i hn
   have hn:f.name≠ "_" :=by simpa using hn
   obtain ⟨a,ha,h⟩:=jf h
   obtain ⟨b,hb,h⟩:=jf h
   simp only at h
   cases fs with
   |nil=>
    obtain ⟨r,hr,hK⟩:=ih _ _ _ _ h
    refine ⟨r,fun D hD w=> ?_,hK⟩
    simp only [Op.eqFields,hn,ne_eq,not_false_eq_true,if_true,Sem.run_bind,ha,hb,Result.andThen_ok,hr D hD]
    cases r<;>simp
   |cons g gs=>
    obtain ⟨r,hr,h⟩:=ih _ _ _ _ h
    obtain ⟨r',hr',hK⟩:=lM ih h
    refine ⟨r&&r',fun D hD w=> ?_,hK⟩
    rw [Op.eqFields]
    simp only [hn,ne_eq,not_false_eq_true,if_true,Sem.run_bind,ha,hb,Result.andThen_ok,hr D hD]
    cases r
    ·simp
    ·simp [hr' D hD w]
theorem ym {P:Program} {d:Nat} {e:TypeId} {sz:Nat} {rec:TypeId→Value→Value→(Bool→Prop)→Prop}
  (ih: ∀t x y K,rec t x y K→∃b,(∀D,d≤D→∀w,(Op.equalIn D t x y).run P w= .ok b w)∧K b) {xs ys:Array Value}:
  ∀{is:List Nat} {K:Bool→Prop},xC P rec e sz xs.toList ys.toList is K→∃b,(∀D,d≤D→∀w,(Op.eqItems D e sz xs ys is).run P w= .ok b w)∧K b
 | [],K,h=>⟨true,fun D _ w=>by simp [Op.eqItems],h⟩
 |i::is,K,h=>by
  unfold xC at h
  obtain ⟨a,ha,h⟩:=jf h
  obtain ⟨b,hb,h⟩:=jf h
  simp only at h
  cases is with
  |nil=>
   obtain ⟨r,hr,hK⟩:=ih _ _ _ _ h
   refine ⟨r,fun D hD w=> ?_,hK⟩
   simp only [Op.eqItems,Sem.run_bind,ha,hb,Result.andThen_ok,hr D hD]
   cases r<;>simp
  |cons g gs=>
   obtain ⟨r,hr,h⟩:=ih _ _ _ _ h
   obtain ⟨r',hr',hK⟩:=ym ih h
   refine ⟨r&&r',fun D hD w=> ?_,hK⟩
   rw [Op.eqItems]
   simp only [Sem.run_bind,ha,hb,Result.andThen_ok,hr D hD]
   cases r
   ·simp
   ·simp [hr' D hD w]
theorem qa {P:Program} {e:TypeId} {it:TypeInfo} (h:P.info? e=some it):P.cellsOf e=it.size:=by simp [Program.cellsOf,h]
theorem k7 {P:Program}: ∀(d:Nat) (t:TypeId) (x y:Value) (K:Bool→Prop),qk P d t x y K→∃b,(∀D,d≤D→∀w,(Op.equalIn D t x y).run P w= .ok b w)∧K b
 |0,_,_,_,_,h=>h.elim
 |d+1,t,x,y,K,h=>by
  unfold qk at h
  split at h
  ·rename_i hu
   exact ⟨_,fun D hD w=>by obtain ⟨D,rfl⟩: ∃k,D=k+1:=⟨D - 1,by omega⟩;exact run_equalIn_bool' w D t _ _ hu,h⟩
  ·rename_i hu
   obtain ⟨rfl,h1⟩:=Oj h
   exact ⟨_,fun D hD w=>by obtain ⟨D,rfl⟩: ∃k,D=k+1:=⟨D - 1,by omega⟩;exact run_equalIn_int w D t _ _ _ _ hu,h1⟩
  ·rename_i hu
   exact ⟨_,fun D hD w=>by obtain ⟨D,rfl⟩: ∃k,D=k+1:=⟨D - 1,by omega⟩;exact run_equalIn_string w D t _ _ hu,h⟩
  ·rename_i fs xs ys hu
   obtain ⟨h0,h⟩:=bw h
   have h0:P.stoodInHeld t=false:=by simpa using h0
   obtain ⟨b,hb,hK⟩:=lM (k7 d) h
   have hf:P.fieldsOf t=fs:=by simp [Program.fieldsOf,hu]
   refine ⟨b,fun D hD w=> ?_,hK⟩
   obtain ⟨D,rfl⟩: ∃k,D=k+1:=⟨D - 1,by omega⟩
   rw [run_equalIn_struct w D t xs ys (by rw [hf];exact hu) h0,hf]
   exact hb D (by omega) w
  ·rename_i n e xs ys hu
   split at h
   ·rename_i it hi
    obtain ⟨b,hb,hK⟩:=ym (k7 d) h
    refine ⟨b,fun D hD w=> ?_,hK⟩
    obtain ⟨D,rfl⟩: ∃k,D=k+1:=⟨D - 1,by omega⟩
    rw [run_equalIn_array w D xs ys hu hi,qa hi]
    exact hb D (by omega) w
   ·exact h.elim
  ·exact h.elim
theorem kK {P:Program} {e:TypeId} {k k0:IntKind} {a b:List Int} {D:Nat} {w:World} (he:P.underlying e=some (.int k0)) (hl:a.length=b.length):
  ∀(is:List Nat),(∀i∈is,i<a.length)→(Op.eqItems (D+1) e 1 ⟨a.map (.int k)⟩ ⟨b.map (.int k)⟩ is).run P w= .ok (is.all fun i=>a[i]? ==b[i]?) w
 | [],_=>by simp [Op.eqItems]
 |i::is,h=>by
  have hi:=h i (by simp)
  have ih:=kK (k:=k) (D:=D) (w:=w) he hl is fun j hj=>h j (List.mem_cons_of_mem _ hj)
  have pa:(part e ⟨a.map (.int k)⟩ (i*1)).run P w= .ok (.int k a[i]) w:=by
   simp [part,isAgg,run_underlying he,hi]
  have pb:(part e ⟨b.map (.int k)⟩ (i*1)).run P w= .ok (.int k b[i]) w:=by
   simp [part,isAgg,run_underlying he,show i<b.length by omega]
  simp only [Op.eqItems,Sem.run_bind,pa,pb,Result.andThen_ok,run_equalIn_int w D e k k0 _ _ he,List.all_cons]
  rw [List.getElem?_eq_getElem hi,List.getElem?_eq_getElem (show i<b.length by omega)]
  by_cases hq:a[i]=b[i]
  ·simp [hq,ih]
  ·simp [hq]
theorem all_eq {a b:List Int} (hl:a.length=b.length):((List.range a.length).all fun i=>a[i]? ==b[i]?)=(a==b):=by
 rw [Bool.eq_iff_iff,List.all_eq_true,beq_iff_eq]
 constructor
 ·intro h
  refine List.ext_getElem? fun i=> ?_
  by_cases hi:i<a.length
  ·simpa using h i (by simpa using hi)
  ·rw [List.getElem?_eq_none (by omega),List.getElem?_eq_none (by omega)]
 ·rintro rfl i _
  simp
theorem mY {P:Program} {t:TypeId} {xs ys:Array Value} {K:Bool→Prop} (h:sR P t xs ys K):
  P.eqGuardType P.depth t=false∧∃b,(∀w,(Op.equalIn 10000 t (.agg xs) (.agg ys)).run P w= .ok b w)∧K b:=by
 unfold sR at h
 obtain ⟨h0,h⟩:=bw h
 refine ⟨by simpa using h0,?_⟩
 split at h
 ·obtain ⟨b,hb,hK⟩:=k7 _ _ _ _ _ h
  exact ⟨b,hb 10000 (by decide),hK⟩
 ·rename_i n _
  split at h
  ·rename_i m e hu
   split at h
   ·rename_i k it hue hi
    obtain ⟨h1,h⟩:=bw h
    obtain ⟨h2,h⟩:=bw h
    have h1:it.size=1:=by simpa using h1
    have h2:m=n:=by simpa using h2
    obtain ⟨a,b,rfl,rfl,ha,hb,hK⟩:=h
    refine ⟨a==b,fun w=> ?_,hK⟩
    rw [run_equalIn_array w 9999 _ _ hu hi,qa hi,h1,h2,←ha,kK hue (ha.trans hb.symm) _ (by simp),all_eq (ha.trans hb.symm)]
   ·exact h
   ·exact h.elim
  ·exact h
  ·exact h.elim
 ·exact h.elim
theorem wv {v:Value} {K:Bool→Prop} (h:iK v K):(v= .nilIface∧K true)∨∃t x,v= .iface t x∧K false:=by
 unfold iK at h
 split at h
 ·exact .inl ⟨rfl,h⟩
 ·exact .inr ⟨_,_,rfl,h⟩
 ·exact h.elim
theorem EZ {P:Program} {w:World} {t u:TypeId} {v:Value} {ms:Array (String×TypeId)} (d:Nat) (h:P.underlying t=some (.interface ms)):
  (Op.equalIn (d+1) t (.iface u v) .nilIface).run P w= .ok false w:=by
 simp [Op.equalIn,run_underlying h]
theorem wm {P:Program} {w:World} {t u:TypeId} {v:Value} {ms:Array (String×TypeId)} (h:P.underlying t=some (.interface ms)):
  (Op.equal t (.iface u v) .nilIface).run P w= .ok false w:=EZ 9999 h
theorem ED {P:Program} {w:World} {t:TypeId} {ms:Array (String×TypeId)} (d:Nat) (h:P.underlying t=some (.interface ms)):
  (Op.equalIn (d+1) t .nilIface .nilIface).run P w= .ok true w:=by
 simp [Op.equalIn,run_underlying h]
theorem wK {P:Program} {w:World} {t:TypeId} {ms:Array (String×TypeId)} (h:P.underlying t=some (.interface ms)):
  (Op.equal t .nilIface .nilIface).run P w= .ok true w:=ED 9999 h
theorem Fo {P:Program} {op:BinOp} {t:TypeId} {x:Value} {y:Operand} {xo:Operand} {K:Value→Prop} (h:vK P op t x K) (hy:ze y=true):
  ∃v,(∀w,(eqGuard op t xo y x .nilIface).run P w= .ok () w)∧(∀w,(binOp op t x .nilIface).run P w= .ok v w)∧K v:=by
 have hc:y= .const .nilIface:=by
  unfold ze at hy
  split at hy
  ·rfl
  ·cases hy
 subst hc
 unfold vK at h
 split at h
 ·rename_i ms hu
  rcases wv h with ⟨rfl,hK⟩|⟨t',x',rfl,hK⟩
  ·exact ⟨_,fun w=>by simp [eqGuard],fun w=>by simp [binOp,wK hu],hK⟩
  ·exact ⟨_,fun w=>by simp [eqGuard],fun w=>by simp [binOp,wm hu],hK⟩
 ·rename_i ms hu
  rcases wv h with ⟨rfl,hK⟩|⟨t',x',rfl,hK⟩
  ·exact ⟨_,fun w=>by simp [eqGuard],fun w=>by simp [binOp,wK hu],hK⟩
  ·exact ⟨_,fun w=>by simp [eqGuard],fun w=>by simp [binOp,wm hu],hK⟩
 ·exact h.elim
theorem Dq {P:Program} {op:BinOp} {t:TypeId} {x y:Value} {K:Value→Prop} (h:kj.binVC1 P op t x y K):
  ∃v,(∀w,(binOp op t x y).run P w= .ok v w)∧K v:=by
 unfold kj.binVC1 at h
 split at h
 ·split at h
  ·obtain ⟨h0,h1⟩:=h
   refine ⟨_,fun w=> ?_,h1⟩
   simp [binOp,Op.shift,Int.not_lt.2 h0,bh]
  ·obtain ⟨h0,h1⟩:=h
   refine ⟨_,fun w=> ?_,h1⟩
   simp [binOp,Op.shift,Int.not_lt.2 h0,bT]
  ·obtain ⟨rfl,h1⟩:=Oj h
   exact FW h1
 ·split at h
  ·rename_i hu;refine ⟨_,fun w=> ?_,h⟩;simp [binOp,run_eql_bool _ _ hu]
  ·rename_i hu;refine ⟨_,fun w=> ?_,h⟩;simp [binOp,run_eql_bool _ _ hu]
  ·exact h.elim
 ·split at h
  ·rename_i hu;refine ⟨_,fun w=> ?_,h⟩;simp [binOp,wG _ hu]
  ·rename_i hu;refine ⟨_,fun w=> ?_,h⟩;simp [binOp,wG _ hu]
  ·exact h.elim
 ·split at h
  ·rename_i hu;refine ⟨_,fun w=> ?_,h⟩;simp [binOp,yo _ _ _ _ _ hu]
  ·rename_i hu;refine ⟨_,fun w=> ?_,h⟩;simp [binOp,yo _ _ _ _ _ hu]
  ·exact h.elim
 ·split at h
  ·exact ⟨_,fun _=>rfl,h⟩
  ·exact ⟨_,fun _=>rfl,h⟩
  ·obtain ⟨h0,h1⟩:=h
   refine ⟨_,fun w=> ?_,h1⟩
   simp only [binOp,Op.stringOp]
   rw [if_neg (by have:IntKind.i64.max=9223372036854775807:=rfl;rw [this];omega)]
   rfl
  ·exact ⟨_,fun _=>rfl,h⟩
  ·exact ⟨_,fun _=>rfl,h⟩
  ·exact ⟨_,fun _=>rfl,h⟩
  ·exact ⟨_,fun _=>rfl,h⟩
  ·exact h.elim
 ·split at h
  ·obtain ⟨_,b,hb,hK⟩:=mY h
   exact ⟨_,fun w=>by rw [run_eql_struct,hb];rfl,hK⟩
  ·obtain ⟨_,b,hb,hK⟩:=mY h
   exact ⟨_,fun w=>by rw [run_neq_struct,hb];rfl,hK⟩
  ·exact h.elim
 ·exact h.elim
theorem FJ {P:Program} {op:BinOp} {t:TypeId} {x y:Value} {K:Value→Prop} (h:kj P op t x y K):
  ∃v,(∀w,(binOp op t x y).run P w= .ok v w)∧K v:=by
 unfold kj at h
 split at h
 ·split at h
  ·rename_i hu
   rcases wH h with ⟨rfl,h1⟩|⟨f,a,c,rfl,h1⟩
   ·exact ⟨_,fun w=>by simp [binOp,wM hu],h1⟩
   ·exact ⟨_,fun w=>by simp [binOp,zd _ _ _ hu],h1⟩
  ·rename_i hu
   rcases wH h with ⟨rfl,h1⟩|⟨f,a,c,rfl,h1⟩
   ·exact ⟨_,fun w=>by simp [binOp,wM hu],h1⟩
   ·exact ⟨_,fun w=>by simp [binOp,zd _ _ _ hu],h1⟩
  ·exact h.elim
 ·exact Dq h
theorem Io {P:Program} {w:World} {op:BinOp} {t:TypeId} {x y:Operand} {a b:Value} {K:Value→Prop} (h:kj P op t a b K):
  (eqGuard op t x y a b).run P w= .ok () w:=by
 unfold kj at h
 split at h
 ·cases a<;>cases op<;>rfl
 ·unfold kj.binVC1 at h
  split at h<;>first|exact h.elim|(cases op<;>rfl)|skip
  split at h
  ·exact run_eqGuard_agg _ _ _ _ _ _ _ (mY h).1
  ·exact run_eqGuard_agg _ _ _ _ _ _ _ (mY h).1
  ·exact h.elim
theorem HA {P:Program} {op:UnOp} {x:Value} {K:Value→Prop} (h:zN op x K): ∃v,(∀w,(Op.unary op x).run P w= .ok v w)∧K v:=by
 unfold zN at h
 split at h
 ·exact ⟨_,fun w=>by simp [Op.unary],h⟩
 ·exact ⟨_,fun w=>by simp [Op.unary,Op.intArith],h⟩
 ·exact ⟨_,fun w=>by simp [Op.unary,Op.intBits,eH],h⟩
 ·exact h.elim
theorem EV {P:Program} {s d:TypeId} {x:Value} {K:Value→Prop} (h:rX P s d x K): ∃v,(∀w,(convert s d x).run P w= .ok v w)∧K v:=by
 unfold rX at h
 split at h
 ·rename_i hs hd;exact ⟨_,fun w=>by simp [convert,run_underlying hs,run_underlying hd,Conv.intToInt],h⟩
 ·rename_i hs hd;exact ⟨_,fun w=>by simp [convert,run_underlying hs,run_underlying hd],h⟩
 ·exact h.elim
theorem z3 {P:Program} {w:World} {t:TypeId} {i off:Nat} {p:Addr} (h:xj P t i=some off):
  (Instr.fieldAt t (.pointer (some p)) i).run P w= .ok (.pointer (some (p.add off))) w:=by
 unfold xj at h
 split at h
 ·rename_i fs hu
  split at h
  ·rename_i fd hf
   split at h
   ·rename_i it hi
    split at h
    ·simp at h
    ·rename_i hz
     simp at h;subst h
     simp [Instr.fieldAt,run_underlying hu,hf,Instr.sureAddr,fieldPlace,c8 hi,hz]
   ·simp at h
  ·simp at h
 ·simp at h
theorem B8 {P:Program} {t:TypeId} {cs:Array Value} {i:Nat} {K:Option Value→Prop} (h:oN P t cs.toList i K):
  ∃v,(∀w,(Instr.field t (.agg cs) i).run P w= .ok v w)∧K (some v):=by
 unfold oN at h
 split at h
 ·rename_i fs hu
  split at h
  ·rename_i fd hf
   have key: ∀v,(∀w,(part fd.type cs fd.offset).run P w= .ok v w)→∀w,(Instr.field t (.agg cs) i).run P w= .ok v w:=
    fun v hv w=>by simp [Instr.field,run_underlying hu,hf,asAgg,hv]
   split at h
   ·split at h
    ·rename_i it ha hi
     have hp: ∀w,(part fd.type cs fd.offset).run P w= .ok (.agg ⟨(cs.toList.drop fd.offset).take it.size⟩) w:=fun w=>by
      simp only [part,Sem.run_bind,fQ ha,Result.andThen_ok,if_true,c8 hi,Sem.run_pure]
      congr 2
      cases cs
      simp
     split at h
     ·obtain ⟨x,hx,h⟩:=h
      rw [hx] at hp
      exact ⟨_,key _ hp,h⟩
     ·exact ⟨_,key _ hp,h⟩
    ·rename_i it ha hi
     split at h
     ·obtain ⟨x,hx,h⟩:=h
      refine ⟨_,key _ fun w=> ?_,h⟩
      have:cs[fd.offset]? =some (Sc.enc _ x):=by simpa using hx
      simp [part,fQ ha,this]
     ·exact h.elim
    ·exact h.elim
   ·obtain ⟨v,hv,h⟩:=jf h
    exact ⟨v,key _ hv,h⟩
  ·exact h.elim
 ·exact h.elim
theorem zq {P:Program} {d:Option TypeDesc} {s:Sc} (h:wc P d none 0=some (.sc s)): ∃d',d=some d'∧(∀fs,d'≠ .struct fs)∧(∀n e,d'≠ .array n e):=by
 unfold wc at h
 split at h<;>simp at h<;>exact ⟨_,rfl,by simp,by simp⟩
theorem M0 {P:Program} {t:TypeId} {s:Sc} (h:DM P t=some s):ie P t=some false:=by
 unfold DM at h
 split at h
 ·rename_i s' hk
  obtain ⟨d',hd,h1,h2⟩:=zq hk
  unfold ie
  rw [hd]
  cases d'<;>first|rfl|exact absurd rfl (h1 _)|exact absurd rfl (h2 _ _)
 ·simp at h
theorem B6 {P:Program} {t:TypeId} {x:Value} {k:IntKind} {i:Int} {K:Value→Prop} (h:oR P t x i K):
  ∃v,(∀w,(Instr.index t x (.int k i)).run P w= .ok v w)∧K v:=by
 unfold oR at h
 split at h
 ·rename_i n e cs hu
  split at h
  ·rename_i s it hs hi
   obtain ⟨h0,h1,h2,y,hy,h⟩:=bw h
   have h0:it.size=1:=by simpa using h0
   refine ⟨s.enc y,fun w=> ?_,h⟩
   simp [Instr.index,asIntOf,run_underlying hu,h1,h2,c8 hi,h0,part,fQ (M0 hs),hy]
  ·exact h.elim
 ·rename_i s hu
  obtain ⟨h1,h2,h⟩:=h
  refine ⟨_,fun w=> ?_,h⟩
  have hl:i.toNat<s.size:=by omega
  have hs:s[i.toNat]? =some s[i.toNat]:=by simp [hl]
  simp [Instr.index,asIntOf,run_underlying hu,h1,Ck,hs]
 ·exact h.elim
theorem DV {P:Program} {t:TypeId} {x:Value} {k:IntKind} {i:Int} {K:Value→Prop} (h:rW P t x i K):
  ∃v,(∀w,(Instr.indexAt t x (.int k i)).run P w= .ok v w)∧K v:=by
 unfold rW at h
 split at h
 ·rename_i e b l c hu
  split at h
  ·rename_i it hi
   obtain ⟨p,hp,h1,h2,h⟩:=h
   simp only at hp h2
   subst hp
   refine ⟨_,fun w=> ?_,h⟩
   simp [Instr.indexAt,asIntOf,run_underlying hu,h1,h2,c8 hi]
  ·exact h.elim
 ·rename_i n e p hu
  split at h
  ·rename_i it hi
   obtain ⟨h1,h2,h⟩:=h
   refine ⟨_,fun w=> ?_,h⟩
   simp [Instr.indexAt,asIntOf,run_underlying hu,Instr.sureAddr,h1,h2,c8 hi]
  ·exact h.elim
 ·exact h.elim
theorem F0 {P:Program} {t ty:TypeId} {x:Value} {K:Value→Prop} (h:v9 P t x K):
  ∃v,(∀w,(Builtin.len_ #[t] ty #[x]).run P w= .ok v w)∧K v:=by
 unfold v9 at h
 split at h
 ·rename_i hu;exact ⟨_,fun w=>by simp [Builtin.len_,run_underlying hu,goInt],h⟩
 ·rename_i hu;exact ⟨_,fun w=>by simp [Builtin.len_,run_underlying hu,goInt],h⟩
 ·rename_i hu;exact ⟨_,fun w=>by simp [Builtin.len_,run_underlying hu,goInt],h⟩
 ·exact h.elim
theorem Fw {P:Program} {t ty:TypeId} {x:Value} {K:Value→Prop} (h:vS P t x K):
  ∃v,(∀w,(Builtin.cap_ #[t] ty #[x]).run P w= .ok v w)∧K v:=by
 unfold vS at h
 split at h
 ·rename_i hu;exact ⟨_,fun w=>by simp [Builtin.cap_,run_underlying hu,goInt],h⟩
 ·exact h.elim
theorem Fk {P:Program} {ts:Array TypeId} {ty:TypeId} {x y:Value} {K:Value→Prop} (h:gY false x y K):
  ∃v,(∀w,(Builtin.min_ ts ty #[x,y]).run P w= .ok v w)∧K v:=by
 unfold gY at h
 split at h
 ·obtain ⟨rfl,h1⟩:=Oj h
  exact ⟨_,fun w=>by simp only [Builtin.min_,Builtin.min2,List.foldlM];rfl,h1⟩
 ·exact h.elim
theorem Fg {P:Program} {ts:Array TypeId} {ty:TypeId} {x y:Value} {K:Value→Prop} (h:gY true x y K):
  ∃v,(∀w,(Builtin.max_ ts ty #[x,y]).run P w= .ok v w)∧K v:=by
 unfold gY at h
 split at h
 ·obtain ⟨rfl,h1⟩:=Oj h
  exact ⟨_,fun w=>by simp only [Builtin.max_,Builtin.max2,List.foldlM];rfl,h1⟩
 ·exact h.elim
inductive AD:Option Value→Int→Int→Prop where
 |none (d:Int):AD none d d
 |some (k:IntKind) (d n:Int):AD (some (.int k n)) d n
theorem fO {a:Act} {f:AF} (hr:Rel nn dfs a f) {o:Option Operand} {d n:Int} (h:q9 f o d=some n):AD (o.map a.eval) d n:=by
 unfold q9 at h
 split at h
 ·simp at h;subst h;exact .none _
 ·split at h
  ·rename_i k m he
   simp at h;subst h
   have:=hr.ev he
   simp only [Option.map_some,this]
   exact .some _ _ _
  ·simp at h
theorem nu {P:Program} {w:World} {k:IntKind} {i:Int} {y:Nat} {c:BoundsCode} (h0:0≤i) (h1:i≤y):
  (Instr.sliceBound (.int k i) y c).run P w= .ok i.toNat w:=by
 simp [Instr.sliceBound,asIntOf,h0,h1]
theorem ti {P:Program} {w:World} {b:Bool} {len cap:Nat} {low high max:Option Value} {lo hi mx:Int}
  (h1:AD low 0 lo) (h2:AD high len hi) (h3:AD max cap mx) (hn:high=none→max=none)
  (b0:0≤lo) (b1:lo≤hi) (b2:hi≤mx) (b3:mx≤cap):
  (Instr.sliceBounds b len cap low high max).run P w= .ok (lo.toNat,hi.toNat,mx.toNat) w:=by
 have c1:lo≤(hi.toNat:Nat):=by omega
 have c2:hi≤(mx.toNat:Nat):=by omega
 have c3:hi≤(cap:Nat):=by omega
 have c4:0≤hi:=by omega
 have c5:0≤mx:=by omega
 cases h1<;>cases h2<;>cases h3<;>(try simp at hn)<;>simp [Instr.sliceBounds,nu, *]
 all_goals first
  |(rw [nu b0 c1];rfl)
  |(rw [nu c4 c2];rfl)
  |(rw [nu c4 c2];simp only [Result.andThen_ok];rw [nu b0 c1];rfl)
theorem BY {P:Program} {t:TypeId} {a:Act} {f:AF} (hr:Rel nn dfs a f) {x:Value} {lo hi mx:Option Operand} {K:Value→Prop} (h:oL P t f x lo hi mx K):
  ∃v,(∀w,(Instr.sliceAt t x (lo.map a.eval) (hi.map a.eval) (mx.map a.eval)).run P w= .ok v w)∧K v:=by
 unfold oL at h
 split at h
 ·rename_i e b l c hu
  split at h
  ·exact h.elim
  ·rename_i hne
   split at h
   ·rename_i ilo ihi imx it h1 h2 h3 hi4
    obtain ⟨b0,b1,b2,b3,hK⟩:=h
    refine ⟨_,fun w=> ?_,hK⟩
    have hb:=ti (P:=P) (w:=w) (b:=true) (fO hr h1) (fO hr h2) (fO hr h3) (by
     intro hn;cases hi<;>cases mx<;>simp_all) b0 b1 b2 b3
    simp [Instr.sliceAt,run_underlying hu,Instr.slice,hb,c8 hi4]
   ·exact h.elim
 ·rename_i s hu
  split at h
  ·exact h.elim
  ·split at h
   ·rename_i ilo ihi h1 h2
    obtain ⟨b0,b1,b2,hK⟩:=h
    refine ⟨_,fun w=> ?_,hK⟩
    have hb:=ti (P:=P) (w:=w) (b:=false) (mx:=s.size) (fO hr h1) (fO hr h2) (.none _) (fun _=>rfl) b0 b1 b2 (by omega)
    simp [Instr.sliceAt,run_underlying hu,Instr.slice,hb]
   ·exact h.elim
 ·rename_i n e p hu
  split at h
  ·exact h.elim
  ·rename_i hne
   split at h
   ·rename_i ilo ihi imx it h1 h2 h3 hi4
    obtain ⟨b0,b1,b2,b3,hK⟩:=h
    refine ⟨_,fun w=> ?_,hK⟩
    have hb:=ti (P:=P) (w:=w) (b:=false) (fO hr h1) (fO hr h2) (fO hr h3) (by
     intro hn;cases hi<;>cases mx<;>simp_all) b0 b1 b2 b3
    simp only [Instr.sliceAt,Sem.run_bind,run_underlying hu,Result.andThen_ok,Instr.sureAddr,Sem.run_pure,hb,c8 hi4]
    by_cases hc:imx.toNat=ilo.toNat
    ·simp [hc]
    ·simp [hc]
   ·exact h.elim
 ·exact h.elim
theorem qO {a:Act} {f:AF} (hr:Rel nn dfs a f): ∀{l:List (Nat×Operand)} {vs:List (Nat×Value)},ch f l=some vs→l.map (fun x=>(x.1,a.eval x.2))=vs
 | [],_,h=>by simp [ch] at h;subst h;rfl
 |(i,x)::l,vs,h=>by
  simp only [ch] at h
  split at h
  ·rename_i v us hv hus
   simp at h;subst h
   simp [hr.ev hv,qO hr hus]
  ·simp at h
theorem KZ {P:Program} {t:TypeId} {s:Sc} (h:eN P t=some (.sc s)):ie P t=some false:=by
 unfold eN at h
 split at h
 ·split at h
  ·split at h<;>simp at h
  ·simp at h
 ·split at h
  ·split at h<;>simp at h
  ·simp at h
 ·rename_i d hn1 hn2
  obtain ⟨d',hd,h1,h2⟩:=zq h
  unfold ie
  rw [hd]
  cases d'<;>first|rfl|exact absurd rfl (h1 _)|exact absurd rfl (h2 _ _)
theorem jL {P:Program} {w:World} {a:Addr} (vs:List Value): ∀(i:Nat) (acc:Array Value),(∀j (h:j<vs.length),w.cell? (a.add (i+j))=some vs[j])→
  (loadCellsFrom a i vs.length acc).run P w= .ok (acc++vs.toArray) w:=by
 induction vs with
 |nil=>intro i acc _;simp [loadCellsFrom]
 |cons v vs ih=>
  intro i acc h
  have h0:=h 0 (by simp)
  simp only [Nat.add_zero,List.getElem_cons_zero] at h0
  simp only [List.length_cons,loadCellsFrom,Sem.run_bind,run_load,h0,Result.andThen_ok]
  rw [ih (i+1) (acc.push v) (fun j hj=>by have:=h (j+1) (by simp;omega);simpa [Nat.add_assoc,Nat.add_comm 1 j] using this)]
  simp
theorem Br {S:World→Prop} {p:Addr}: ∀{l:List Sc} {i:Nat} {K:TT l→Prop},Gq S p l i K→
  ∃x:TT l,(gA l x).length=l.length∧(∀w,S w→∀j (h:j<(gA l x).length),w.cell? (p.add (i+j))=some (gA l x)[j])∧K x
 | [],i,K,h=>⟨(),rfl,fun w _ j h=>by simp at h,h⟩
 |s::l,i,K,h=>by
  obtain ⟨x,hx,h1⟩:=h
  obtain ⟨y,hl,hy,h2⟩:=Br h1
  refine ⟨(x,y),by simp [hl],fun w hw j hj=> ?_,h2⟩
  cases j with
  |zero=>simpa using hx w hw
  |succ j=>
   have:=hy w hw j (by simp at hj;simpa using hj)
   simpa [Nat.add_assoc,Nat.add_comm 1 j] using this
theorem yn {P:Program} {S:World→Prop} {t:TypeId} {p:Addr} {k:Ki} {K:k.T→Prop} (hk:eN P t=some k) (ho:I4 P t=true) (h:aw k p S K):
  ∃x,(∀w,S w→(loadVar t p).run P w= .ok (k.enc x) w)∧K x:=by
 unfold I4 at ho
 rw [hk] at ho
 cases k with
 |sc s=>
  obtain ⟨x,hx,h1⟩:=h
  exact ⟨x,fun w hw=>by simp [loadVar,fQ (KZ hk),hx w hw],h1⟩
 |st l=>
  split at ho
  ·rename_i e1 _;simp at e1
  ·rename_i l' it e1 hi
   simp only [Option.some.injEq,Ki.st.injEq] at e1;subst e1
   simp only [Bool.and_eq_true,beq_iff_eq] at ho
   obtain ⟨x,hl,hx,h1⟩:=Br h
   refine ⟨x,fun w hw=> ?_,h1⟩
   have:=jL (P:=P) (w:=w) (a:=p) (gA l x) 0 #[] (by simpa using hx w hw)
   simp only [loadVar,Sem.run_bind,fQ ho.2,Result.andThen_ok,if_true,c8 hi,ho.1,loadCells,←hl,this]
   simp
  ·rename_i e1 _;simp at e1
  ·simp at ho
 |arr n=>
  split at ho
  ·rename_i e1 _;simp at e1
  ·rename_i e1 _;simp at e1
  ·rename_i n' it e1 hi
   simp only [Option.some.injEq,Ki.arr.injEq] at e1;subst e1
   simp only [Bool.and_eq_true,beq_iff_eq] at ho
   obtain ⟨cs,hn,hx,h1⟩:=h
   refine ⟨cs,fun w hw=> ?_,h1⟩
   have:=jL (P:=P) (w:=w) (a:=p) cs.toList 0 #[] (fun j hj=>by
    have hj':j<cs.size:=by simpa using hj
    have:=hx w hw j (by omega)
    simpa [hj'] using this)
   simp only [Array.length_toList,hn] at this
   simp only [loadVar,Sem.run_bind,fQ ho.2,Result.andThen_ok,if_true,c8 hi,ho.1,loadCells,this]
   simp
  ·simp at ho
theorem BG {a:Act} {f:AF} (hr:Rel nn dfs a f): ∀{l:List Operand} {vs:List Value},qL f l=some vs→l.map a.eval=vs
 | [],_,h=>by simp [qL] at h;subst h;rfl
 |x::l,vs,h=>by
  simp only [qL] at h
  split at h
  ·rename_i v us hv hus
   simp at h;subst h
   simp [hr.ev hv,BG hr hus]
  ·simp at h
theorem jF {a:Act} {f:AF} (hr:Rel nn dfs a f) {l:Array Operand} {vs:List Value} (h:qL f l.toList=some vs):l.map a.eval=⟨vs⟩:=by
 cases l with|mk l=>
 have:=BG hr h
 simp only at this
 simp [this]
theorem jq {P:Program} {S:World→Prop} {a:Act} {f:AF} (hr:Rel nn dfs a f) {o:Oper} {K:Option Value→Prop} (h:l9 P S f K o.op):
  ∃v ov,(∀w,S w→(execOp a.eval o).run P w= .ok (.value v) w)∧K ov∧∀v',ov=some v'→v=v':=by
 obtain ⟨dst,op,ty,pos,after,guard⟩:=o
 have fin: ∀{s:Sem Value} {v:Value} {w:World},s.run P w= .ok v w→(do pure (.value (←s)):Sem Next).run P w= .ok (.value v) w:=by
  intro s v w h;simp [h]
 cases op<;>simp only [l9] at h<;>try exact h.elim
 case move x=>exact ⟨_,_,fun _ _=>rfl,h,fun v' e=>hr.ev e⟩
 case assign x=>exact ⟨_,_,fun _ _=>rfl,h,fun v' e=>hr.ev e⟩
 case pick c x y=>
  split at h
  ·rename_i b he
   have hc:=hr.ev he
   cases b
   ·exact ⟨_,_,fun _ _=>by simp [execOp,hc,asBool],h,fun v' e=>hr.ev e⟩
   ·exact ⟨_,_,fun _ _=>by simp [execOp,hc,asBool],h,fun v' e=>hr.ev e⟩
  ·exact h.elim
 case nilCheck x=>
  split at h
  ·rename_i q he
   have hc:=hr.ev he
   cases q with
   |none=>exact h.elim
   |some p=>exact ⟨.pointer (some p),_,fun _ _=>by simp [execOp,hc],h,fun v' e=>by simpa using e⟩
  ·rename_i i a' c' he
   have hc:=hr.ev he
   exact ⟨.func (.func i) a' c',_,fun _ _=>by simp [execOp,hc],h,fun v' e=>by simpa using e⟩
  ·rename_i b l c he
   have hc:=hr.ev he
   exact ⟨.slice b l c,_,fun _ _=>by simp [execOp,hc],h,fun v' e=>by simpa using e⟩
  ·exact h.elim
 case fieldAddr t x i=>
  split at h
  ·rename_i p off he ho
   exact ⟨_,_,fun w hw=>fin (by rw [hr.ev he];exact z3 ho),h,fun v' e=>by simpa using e⟩
  ·exact h.elim
 case field t x i=>
  split at h
  ·rename_i cs he
   obtain ⟨v,hv,h1⟩:=B8 h
   exact ⟨v,_,fun w hw=>fin (by rw [hr.ev he];exact hv w),h1,fun v' e=>by simpa using e⟩
  ·exact h.elim
 case indexAddr t x i=>
  split at h
  ·rename_i x' k n hx hi
   obtain ⟨v,hv,h1⟩:=DV (k:=k) h
   exact ⟨v,_,fun w hw=>fin (by rw [hr.ev hx,hr.ev hi];exact hv w),h1,fun v' e=>by simpa using e⟩
  ·exact h.elim
 case index t x i=>
  split at h
  ·rename_i x' k n hx hi
   obtain ⟨v,hv,h1⟩:=B6 (k:=k) h
   exact ⟨v,_,fun w hw=>fin (by rw [hr.ev hx,hr.ev hi];exact hv w),h1,fun v' e=>by simpa using e⟩
  ·exact h.elim
 case load t x=>
  split at h
  ·rename_i p k he hk
   obtain ⟨ho,h0⟩:=bw h
   obtain ⟨v,hv,h1⟩:=yn hk ho h0
   exact ⟨_,_,fun w hw=>fin (by rw [hr.ev he];simpa [Instr.loadAt,Instr.sureAddr] using hv w hw),h1,fun v' e=>by simpa using e⟩
  ·exact h.elim
 case binOp op t x y yt=>
  split at h
  ·rename_i hn
   split at h
   ·rename_i x' hx
    obtain ⟨v,hg,hv,h1⟩:=Fo (xo:=x) h hn
    have hy:y= .const .nilIface:=by
     unfold ze at hn
     split at hn
     ·rfl
     ·cases hn
    subst hy
    have hy:ev f (.const .nilIface)=some .nilIface:=rfl
    exact ⟨v,_,fun w hw=>fin (by rw [hr.ev hx,hr.ev hy];simp [hg w,hv w]),h1,fun v' e=>by simpa using e⟩
   ·exact h.elim
  ·split at h
   ·rename_i x' y' hx hy
    obtain ⟨v,hv,h1⟩:=FJ h
    have hg:=fun w=>Io (w:=w) (x:=x) (y:=y) h
    exact ⟨v,_,fun w hw=>fin (by rw [hr.ev hx,hr.ev hy];simp [hg w,hv w]),h1,fun v' e=>by simpa using e⟩
   ·exact h.elim
 case unOp op t x=>
  split at h
  ·rename_i x' hx
   obtain ⟨v,hv,h1⟩:=HA (P:=P) h
   exact ⟨v,_,fun w hw=>fin (by rw [hr.ev hx];exact hv w),h1,fun v' e=>by simpa using e⟩
  ·exact h.elim
 case convert s d x=>
  split at h
  ·rename_i x' hx
   obtain ⟨v,hv,h1⟩:=EV h
   exact ⟨v,_,fun w hw=>fin (by rw [hr.ev hx];exact hv w),h1,fun v' e=>by simpa using e⟩
  ·exact h.elim
 case slice t x lo hi mx=>
  split at h
  ·rename_i x' hx
   obtain ⟨v,hv,h1⟩:=BY hr h
   exact ⟨v,_,fun w hw=>fin (by rw [hr.ev hx];exact hv w),h1,fun v' e=>by simpa using e⟩
  ·exact h.elim
 case extract x i=>
  split at h
  ·rename_i vs hx
   split at h
   ·rename_i v hv
    have hv:vs[i]? =some v:=by simpa using hv
    exact ⟨v,_,fun w hw=>fin (by rw [hr.ev hx];simp [Instr.extract,hv]),h,fun v' e=>by simpa using e⟩
   ·exact h.elim
  ·exact h.elim
 case build t ps=>
  split at h
  ·rename_i vs hvs
   split at h
   ·obtain ⟨cs,hc,h⟩:=h
    refine ⟨_,_,fun w hw=>fin (run_build w t _ cs ?_),h,fun v' e=>by simpa using e⟩
    have:=qO hr hvs
    rw [←this] at hc
    simpa using hc
   ·split at h
    ·rename_i cs hc
     refine ⟨_,_,fun w hw=>fin (run_build w t _ cs ?_),h,fun v' e=>by simpa using e⟩
     have:=qO hr hvs
     rw [←this] at hc
     simpa using hc
    ·exact h.elim
  ·exact h.elim
 case makeInterface t x=>
  split at h
  ·exact h.elim
  ·rename_i v d hn hv hu
   refine ⟨_,_,fun w hw=>fin (v:= .iface t v) ?_,h,fun v' e=>by simpa using e⟩
   rw [hr.ev hv]
   simp only [Instr.makeInterface,Sem.run_bind,run_underlying hu,Result.andThen_ok]
   cases d<;>first|rfl|exact absurd hu (hn _)
  ·exact h.elim
 case makeFunc fn as cs=>
  split at h
  ·rename_i va vc ha hc
   refine ⟨_,_,fun w hw=>fin (v:= .func fn ⟨va⟩ ⟨vc⟩) ?_,h,fun v' e=>by simpa using e⟩
   rw [jF hr ha,jF hr hc]
   rfl
  ·exact h.elim
 case call c=>
  obtain ⟨callee,args,tys⟩:=c
  obtain ⟨args⟩:=args
  obtain ⟨tys⟩:=tys
  simp only at h
  split at h
  ·split at h
   ·rename_i x t x' hx
    obtain ⟨v,hv,h1⟩:=F0 (P:=P) (ty:=ty) h
    exact ⟨v,_,fun w hw=>by simp [execOp,resolve,invoke,builtin,hr.ev hx,hv w],h1,fun v' e=>by simpa using e⟩
   ·exact h.elim
  ·split at h
   ·rename_i x t x' hx
    obtain ⟨v,hv,h1⟩:=Fw (ty:=ty) h
    exact ⟨v,_,fun w hw=>by simp [execOp,resolve,invoke,builtin,hr.ev hx,hv w],h1,fun v' e=>by simpa using e⟩
   ·exact h.elim
  ·split at h
   ·rename_i x y x' y' hx hy
    obtain ⟨v,hv,h1⟩:=Fk (P:=P) (ts:=⟨tys⟩) (ty:=ty) h
    exact ⟨v,_,fun w hw=>by simp [execOp,resolve,invoke,builtin,hr.ev hx,hr.ev hy,hv w],h1,fun v' e=>by simpa using e⟩
   ·exact h.elim
  ·split at h
   ·rename_i x y x' y' hx hy
    obtain ⟨v,hv,h1⟩:=Fg (P:=P) (ts:=⟨tys⟩) (ty:=ty) h
    exact ⟨v,_,fun w hw=>by simp [execOp,resolve,invoke,builtin,hr.ev hx,hr.ev hy,hv w],h1,fun v' e=>by simpa using e⟩
   ·exact h.elim
  ·exact h.elim
def ak (n:Nat) (p:Addr) (cs:Array Value) (w:World) (K:World→Prop):Prop:=
 cs.size=n∧(∀i,i<n→aA (cs.getD i undef)=true∧(w.cell? (p.add i)).isSome=true∧w.frozen? (p.add i)=false)∧K (setRow w p cs.toList 0)
where
 setRow (w:World) (p:Addr):List Value→Nat→World
  | [],_=>w
  |v::vs,i=>setRow (w.setCell (p.add i) v) p vs (i+1)
def oJ (P:Program) (t:TypeId) (p:Addr) (v:Value) (w:World) (K:World→Prop):Prop:=
 match eN P t,P.info? t with
 |some (.sc _),some it=>fk (it.size==1) (St p v w K)
 |some (.st _),some it=>match v with
  | .agg cs=>fk (cs.toList.length==it.size) (ae p cs.toList 0 w K)
  |_=>False
 |some (.arr n),some it=>match v with
  | .agg cs=>fk (it.size==n) (ak n p cs w K)
  |_=>False
 |_,_=>False
def rowOf (P:Program) (e:TypeId) (n:Nat) (vs:List (Nat×Value)):Option (Array Value):=
 match P.info? e with
 |some it=>match it.zero with
  |some z=>if n*it.size>2^24 then none else
   if it.size=0 then none else Instr.fill (fun i=>some (i*it.size,it.size)) ((Array.range (n*it.size)).map (z.cells[·% z.cells.size]!)) vs
  |none=>none
 |none=>none
def Vd (P:Program) (e:TypeId) (n:Nat) (vs:List (Nat×Value)) (K:Array Value→Prop):Prop:= ∃cs,rowOf P e n vs=some cs∧K cs
def UY (P:Program) (e:TypeId):Bool:=match eN P e with|some (.arr _)=>true|_=>false
def sk (P:Program) (i:FuncId):Bool:=
 match P.funcs[i]? with
 |some fn=>fn.body.isSome&& !(fn.name== "runtime.NumGoroutine")
 |none=>false
def Q7 (P:Program):List TypeId→Option (List Ki)
 | []=>some []
 |t::ts=>match eN P t,Q7 P ts with
  |some k,some ks=>some (k::ks)
  |_,_=>none
def CI (P:Program) (ty:TypeId):Option (List Ki):=
 match P.underlying ty with
 |some (.tuple es)=>Q7 P es.toList
 |_=>match eN P ty with|some k=>some [k]|none=>none
def nO (P:Program) (s:Sem Value) (ks:List Ki) (w:World) (K:mo ks (World→Prop)):Prop:=
 match s.run P w with
 | .ok v w'=>nH ks v K w'
 | .halt _ _=>False
def Ext (P:Program) (i:FuncId) (args:Array Value) (ks:List Ki) (w:World) (K:mo ks (World→Prop)):Prop:=
 match (callFunc i args).run P w with
 | .ok (.value v) w'=>nH ks v K w'
 |_=>False
def gn (P:Program) (v:Value) (ks:List Ki) (args:List Value) (w:World) (K:mo ks (World→Prop)):Prop:=
 match v with
 | .func (.func i) first captured=>match sk P i with
  |true=>Cl P ks i ⟨first.toList++args++captured.toList⟩ w K
  |false=>Ext P i ⟨first.toList++args++captured.toList⟩ ks w K
 |_=>False
def fw (P:Program) (v:Value) (name:String) (ks:List Ki) (args:List Value) (w:World) (K:mo ks (World→Prop)):Prop:=
 ∃i r,(callMethod v name ⟨args⟩).run P w= .ok (.enter i ⟨r::args⟩) w∧Cl P ks i ⟨r::args⟩ w K
def mapElem (P:Program) (t:TypeId):Option Ki:=match P.underlying t with|some (.map _ e)=>eN P e|_=>none
def UJ (P:Program) (ts:List TypeId):Bool:=match ts with| [t]=>(match P.underlying t with|some (.map _ _)=>true|_=>false)|_=>false
def vz (P:Program) (f:AF) (ty:TypeId) (w:World) (K:Option Value→World→Prop):Op→Prop
 | .store t x v=>match ev f x,ev f v with
  |some (.pointer (some p)),some v=>oJ P t p v w fun w'=>K (some undef) w'
  |_,_=>False
 | .alloc t=>match P.info? t with
  |some it=>match it.zero with
   |some z=>Nw t z.cells w fun b w'=>K (some (.pointer (some ⟨b,0,none⟩))) w'
   |none=>False
  |none=>False
 | .box t x=>match ev f x with
  |some v=>Nw t v.cells w fun b w'=>K (some (.pointer (some ⟨b,0,none⟩))) w'
  |none=>False
 | .buildSlice t n ps=>match P.underlying t,ch f ps.toList with
  |some (.slice e),some vs=>match UY P e with
   |true=>Vd P e n vs fun cs=>Nw e cs w fun b w'=>K (some (.slice (some ⟨b,0,none⟩) n n)) w'
   |false=>match rowOf P e n vs with
    |some cs=>Nw e cs w fun b w'=>K (some (.slice (some ⟨b,0,none⟩) n n)) w'
    |none=>False
  |_,_=>False
 | .makeSlice t l c=>match ev f l,ev f c with
  |some l,some c=>ar P (Instr.makeSlice t l c) (.sc .sl) w fun (s:Sl) w'=>K (some (.slice s.base s.len s.cap)) w'
  |_,_=>False
 | .convert s d x=>match ev f x,P.underlying d with
  |some x,some (.slice _)=>ar P (convert s d x) (.sc .sl) w fun (s:Sl) w'=>K (some (.slice s.base s.len s.cap)) w'
  |some x,some .string=>ar P (convert s d x) (.sc .str) w fun (s:ByteArray) w'=>K (some (.string s)) w'
  |_,_=>False
 | .makeMap t r=>match r with
  |none=>ar P (Instr.makeMap t none) (.sc .mp) w fun (m:Option Nat) w'=>K (some (.map m)) w'
  |some x=>match ev f x with
   |some v=>ar P (Instr.makeMap t (some v)) (.sc .mp) w fun (m:Option Nat) w'=>K (some (.map m)) w'
   |none=>False
 | .mapUpdate t m k x| .insert t m k x=>match ev f m,ev f k,ev f x with
  |some m,some k,some x=>ar P (do Instr.mapUpdate t m k x;pure undef) (.sc .any) w fun (_:Value) w'=>K (some undef) w'
  |_,_,_=>False
 | .lookup t x i false=>match ev f x,ev f i,eN P ty with
  |some x,some i,some k=>ar P (Instr.lookup t x i false) k w fun v w'=>K (some (k.enc v)) w'
  |_,_,_=>False
 | .lookup t x i true=>match ev f x,ev f i,CI P ty with
  |some x,some i,some ks=>nO P (Instr.lookup t x i true) ks w (kD ks [] fun us w'=>K (some (mj us)) w')
  |_,_,_=>False
 | .mapEntry t m k=>match ev f m,ev f k,mapElem P t with
  |some m,some k,some ke=>nO P (Instr.mapEntry t m k) [ke,.sc (.int .i64)] w (kD [ke,.sc (.int .i64)] [] fun us w'=>K (some (mj us)) w')
  |_,_,_=>False
 | .entryStore t m s x=>match ev f m,ev f s,ev f x with
  |some m,some s,some x=>ar P (do Instr.entryStore t m s x;pure undef) (.sc .any) w fun (_:Value) w'=>K (some undef) w'
  |_,_,_=>False
 | .call c=>match c.callee with
  | .builtin .len=>match qL f c.args.toList with
   |some vs=>ar P (Builtin.len_ c.argTypes ty ⟨vs⟩) (.sc (.int .i64)) w fun (n:Int) w'=>K (some (.int .i64 n)) w'
   |none=>False
  | .value x=>match ev f x,qL f c.args.toList,CI P ty with
   |some v,some vs,some ks=>gn P v ks vs w (kD ks [] fun us w'=>K (some (mj us)) w')
   |_,_,_=>False
  | .builtin .append=>match qL f c.args.toList with
   |some vs=>ar P (Builtin.append_ c.argTypes ty ⟨vs⟩) (.sc .sl) w fun (s:Sl) w'=>K (some (.slice s.base s.len s.cap)) w'
   |none=>False
  | .builtin .copy=>match qL f c.args.toList with
   |some vs=>ar P (Builtin.copy_ c.argTypes ty ⟨vs⟩) (.sc (.int .i64)) w fun (n:Int) w'=>K (some (.int .i64 n)) w'
   |none=>False
  | .builtin .clear=>match qL f c.args.toList with
   |some vs=>ar P (Builtin.clear_ c.argTypes ty ⟨vs⟩) (.sc .any) w fun (v:Value) w'=>K (some v) w'
   |none=>False
  | .builtin .delete=>match qL f c.args.toList with
   |some vs=>ar P (Builtin.delete_ c.argTypes ty ⟨vs⟩) (.sc .any) w fun (v:Value) w'=>K (some v) w'
   |none=>False
  | .invoke x name=>match ev f x,qL f c.args.toList,CI P ty with
   |some v,some vs,some ks=>fw P v name ks vs w (kD ks [] fun us w'=>K (some (mj us)) w')
   |_,_,_=>False
  |_=>False
 |_=>False
def eM (P:Program):Op→Bool
 | .move _| .assign _| .pick _ _ _| .nilCheck _| .fieldAddr _ _ _| .field _ _ _| .indexAddr _ _ _| .index _ _ _| .load _ _| .binOp _ _ _ _ _
 | .unOp _ _ _| .slice _ _ _ _ _| .extract _ _| .build _ _| .makeFunc _ _ _| .makeInterface _ _=>true
 | .convert s d _=>match P.underlying s,P.underlying d with
  |_,some (.int _)=>true
  |some .string,some .string=>true
  |_,_=>false
 | .call c=>match c.callee with
  | .builtin .len=> !UJ P c.argTypes.toList
  | .builtin .cap| .builtin .min| .builtin .max=>true
  |_=>false
 |_=>false
def kH (P:Program) (f:AF) (o:Oper) (w:World) (K:Option Value→World→Prop):Prop:=
 match eM P o.op with
 |true=>l9 P (fun w'=>w'=w) f (fun v=>K v w) o.op
 |false=>vz P f o.type w K o.op
theorem ID {P:Program} {i:FuncId} (h:sk P i=true) (args:Array Value) (w:World):(callFunc i args).run P w= .ok (.enter i args) w:=by
 unfold sk at h
 split at h
 ·rename_i fn hf
  simp only [Bool.and_eq_true,Bool.not_eq_true'] at h
  have hb:fn.body≠none:=by intro hb;simp [hb] at h
  have hne:fn.name≠ "runtime.NumGoroutine" :=by simpa using h.2
  simp [callFunc,hf,hne,hb]
 ·simp at h
theorem oq {v:Value} (h:aA v=true):v.oneCell'=true:=by
 cases v<;>first|rfl|simp [aA] at h
theorem rT {P:Program} {p:Addr} {K:World→Prop}: ∀(vs:List Value) (i:Nat) (w:World),ae p vs i w K→∃w',(storeCells p vs i).run P w= .ok () w'∧K w'
 | [],i,w,h=>⟨w,by simp [storeCells],h⟩
 |v::vs,i,w,h=>by
  obtain ⟨hs,hc,hf,h1⟩:=bw h
  obtain ⟨w',hw',hK⟩:=rT (P:=P) vs (i+1) _ h1
  refine ⟨w',?_,hK⟩
  have hv:=oq hs
  obtain ⟨u,hu⟩:=Option.isSome_iff_exists.1 hc
  simp [storeCells,run_store _ _ _ _ _ hv,hu,hf,hw']
theorem B3 {P:Program} {p:Addr} {v:Value} {w:World} {K:World→Prop} (h:St p v w K): ∃w',(storeCells p [v]).run P w= .ok () w'∧K w':=by
 obtain ⟨hs,hc,hf,h1⟩:=bw h
 refine ⟨_,?_,h1⟩
 have hv:=oq hs
 obtain ⟨u,hu⟩:=Option.isSome_iff_exists.1 hc
 simp [storeCells,run_store _ _ _ _ _ hv,hu,hf,Addr.add]
theorem oB {P:Program} {p:Addr}: ∀(vs:List Value) (i:Nat) (w:World),
  (∀j (h:j<vs.length),aA vs[j]=true∧(w.cell? (p.add (i+j))).isSome=true∧w.frozen? (p.add (i+j))=false)→
  (storeCells p vs i).run P w= .ok () (ak.setRow w p vs i)
 | [],i,w,_=>by simp [storeCells,ak.setRow]
 |v::vs,i,w,h=>by
  obtain ⟨hs,hc,hf⟩:=h 0 (by simp)
  simp only [List.getElem_cons_zero,Nat.add_zero] at hs hc hf
  have hv:=oq hs
  obtain ⟨u,hu⟩:=Option.isSome_iff_exists.1 hc
  have ih:=oB (P:=P) (p:=p) vs (i+1) (w.setCell (p.add i) v) (fun j hj=>by
   have:=h (j+1) (by simp;omega)
   simp only [List.getElem_cons_succ] at this
   rw [show i+(j+1)=i+1+j by omega] at this
   refine ⟨this.1,?_,?_⟩
   ·by_cases e:p.add i=p.add (i+1+j)
    ·rw [←e,World.cell?_setCell_same _ _ _ hu];rfl
    ·rw [World.cell?_setCell_other _ _ _ _ e];exact this.2.1
   ·rw [World.frozen?_setCell];exact this.2.2)
  simp [storeCells,ak.setRow,run_store _ _ _ _ _ hv,hu,hf,ih]
theorem ER {v:Value} (h:aA v=true):v.cells= #[v]:=by cases v<;>first|rfl|simp [aA] at h
theorem BW {P:Program} {t:TypeId} {p:Addr} {v:Value} {w:World} {K:World→Prop} (h:oJ P t p v w K):
  ∃w',(storeVar t p v).run P w= .ok () w'∧K w':=by
 unfold oJ at h
 split at h
 ·rename_i it hk hi
  obtain ⟨h0,h1⟩:=bw h
  have h0:it.size=1:=by simpa using h0
  obtain ⟨w',hw,hK⟩:=B3 (P:=P) h1
  refine ⟨w',?_,hK⟩
  have hc:=ER (bw h1).1
  simp [storeVar,c8 hi,h0,hc,hw]
 ·rename_i it hk hi
  split at h
  ·rename_i cs
   obtain ⟨h0,h1⟩:=bw h
   have h0:cs.size=it.size:=by simpa using h0
   obtain ⟨w',hw,hK⟩:=rT (P:=P) _ _ _ h1
   refine ⟨w',?_,hK⟩
   simp [storeVar,c8 hi,h0,Value.cells,hw]
  ·exact h.elim
 ·rename_i n it hk hi
  split at h
  ·rename_i cs
   obtain ⟨h0,hn,ha,hK⟩:=bw h
   have h0:it.size=n:=by simpa using h0
   refine ⟨_,?_,hK⟩
   have:=oB (P:=P) (p:=p) cs.toList 0 w (fun j hj=>by
    have hj':j<cs.size:=by simpa using hj
    have:=ha j (by omega)
    simpa [hj'] using this)
   simp [storeVar,c8 hi,h0,Value.cells,hn,this]
  ·exact h.elim
 ·exact h.elim
theorem c9 {P:Program} {s:Sem Value} {k:Ki} {w:World} {K:k.T→World→Prop} (h:ar P s k w K): ∃x w',s.run P w= .ok (k.enc x) w'∧K x w':=by
 unfold ar at h
 split at h
 ·rename_i v w' he
  obtain ⟨x,rfl,h1⟩:=Ki.dz h
  exact ⟨x,w',he,h1⟩
 ·exact h.elim
theorem Jt {P:Program} {t e:TypeId} {n:Nat} {vs:List (Nat×Value)} {cs:Array Value} (hu:P.underlying t=some (.slice e)) (h:rowOf P e n vs=some cs) (w:World):
  (Instr.buildSlice t n vs.toArray).run P w= .ok (.slice (some ⟨w.heap.size,0,none⟩) n n) (w.alloc (.cells cs e)):=by
 unfold rowOf at h
 split at h
 ·rename_i it hi
  split at h
  ·rename_i z hz
   split at h
   ·simp at h
   ·rename_i hsz
    split at h
    ·simp at h
    ·rename_i hz0
     by_cases hn:n*it.size=0
     ·have hn0:n=0:=by
       rcases Nat.mul_eq_zero.1 hn with h|h
       ·exact h
       ·exact absurd h hz0
      subst hn0
      have h0:Array.range 0= #[]:=rfl
      simp only [Nat.zero_mul,h0,Array.map_empty] at h
      simp [Instr.buildSlice,run_underlying hu,c8 hi,h0,h,newRow]
     ·simp only [Instr.buildSlice,Sem.run_bind,run_underlying hu,Result.andThen_ok,c8 hi]
      rw [if_neg hsz]
      have hz':(zeroValue e).run P w= .ok z w:=by simp [zeroValue,typeInfo,hi,hz]
      rw [if_neg hn]
      simp [hz',h,newRow]
  ·simp at h
 ·simp at h
theorem KK {P:Program} {w:World} {a:Act} {f:AF} (hr:Rel nn dfs a f) {o:Oper} {K:Option Value→World→Prop} (h:vz P f o.type w K o.op)
  {next:Act→World→Prop} {Q:Exit→Act→World→Prop} (hn: ∀v ov w',K ov w'→(∀v',ov=some v'→v=v')→next (a.put o.dst v) w'):o.wp P a w next Q:=by
 obtain ⟨dst,op,ty,pos,after,guard⟩:=o
 simp only at h hn
 have finU: ∀{s:Sem Unit} {w':World},s.run P w= .ok () w'→(execOp a.eval ⟨dst,op,ty,pos,after,guard⟩=(do s;pure .skip))→K (some undef) w'→Oper.wp P ⟨dst,op,ty,pos,after,guard⟩ a w next Q:=by
  intro s w' h1 h2 h3
  unfold Oper.wp
  rw [h2]
  simp only [Sem.run_bind,h1,Result.andThen_ok,Sem.run_pure,Oper.upon]
  exact hn _ _ _ h3 (fun v' e=>by simpa using e)
 have finV: ∀{s:Sem Value} {v:Value} {w':World},s.run P w= .ok v w'→(execOp a.eval ⟨dst,op,ty,pos,after,guard⟩=(do pure (.value (←s))))→K (some v) w'→Oper.wp P ⟨dst,op,ty,pos,after,guard⟩ a w next Q:=by
  intro s v w' h1 h2 h3
  unfold Oper.wp
  rw [h2]
  simp only [Sem.run_bind,h1,Result.andThen_ok,Sem.run_pure,Oper.upon]
  exact hn _ _ _ h3 (fun v' e=>by simpa using e)
 cases op<;>simp only [vz] at h<;>try exact h.elim
 case store t x v=>
  split at h
  ·rename_i p v' hx hv
   obtain ⟨w',hw,hK⟩:=BW h
   refine finU (s:=Instr.storeAt t (a.eval x) (a.eval v)) (w':=w') ?_ rfl hK
   rw [hr.ev hx,hr.ev hv]
   simpa [Instr.storeAt,Instr.sureAddr] using hw
  ·exact h.elim
 case alloc t=>
  split at h
  ·rename_i it hi
   split at h
   ·rename_i z hz
    refine finV (s:=Instr.alloc t true (.tuple #[])) (v:= .pointer (some ⟨w.heap.size,0,none⟩)) (w':=w.alloc (.cells z.cells t)) ?_ rfl h
    have hz':(zeroValue t).run P w= .ok z w:=by simp [zeroValue,typeInfo,hi,hz]
    simp [Instr.alloc,hz',newVar,newRow]
   ·exact h.elim
  ·exact h.elim
 case box t x=>
  split at h
  ·rename_i v hv
   refine finV (s:=Instr.box t (a.eval x)) (v:= .pointer (some ⟨w.heap.size,0,none⟩)) (w':=w.alloc (.cells v.cells t)) ?_ rfl h
   rw [hr.ev hv]
   simp [Instr.box,newVar,newRow]
  ·exact h.elim
 case buildSlice t n ps=>
  split at h
  ·rename_i e vs hu hvs
   have key: ∀cs,rowOf P e n vs=some cs→(Instr.buildSlice t n (ps.map fun (i,x)=>(i,a.eval x))).run P w= .ok (.slice (some ⟨w.heap.size,0,none⟩) n n) (w.alloc (.cells cs e)):=by
    intro cs hc
    have h2:=Jt hu hc w
    rw [←qO hr hvs] at h2
    cases ps
    simpa using h2
   split at h
   ·obtain ⟨cs,hc,h⟩:=h
    exact finV (key cs hc) (by simp only [execOp]) h
   ·split at h
    ·rename_i cs hc
     exact finV (key cs hc) (by simp only [execOp]) h
    ·exact h.elim
  ·exact h.elim
 case makeSlice t l c=>
  split at h
  ·rename_i l' c' hl hc
   obtain ⟨x,w',hx,hK⟩:=c9 h
   exact finV (s:=Instr.makeSlice t (a.eval l) (a.eval c)) (by rw [hr.ev hl,hr.ev hc];exact hx) rfl hK
  ·exact h.elim
 case convert s d x=>
  split at h
  ·rename_i x' e hx hu
   obtain ⟨x,w',hx1,hK⟩:=c9 h
   exact finV (s:=convert s d (a.eval _)) (by rw [hr.ev hx];exact hx1) rfl hK
  ·rename_i x' hx hu
   obtain ⟨x,w',hx1,hK⟩:=c9 h
   exact finV (s:=convert s d (a.eval _)) (by rw [hr.ev hx];exact hx1) rfl hK
  ·exact h.elim
 case makeMap t r=>
  split at h
  ·obtain ⟨x,w',hx1,hK⟩:=c9 h
   exact finV (s:=Instr.makeMap t none) hx1 rfl hK
  ·rename_i x
   split at h
   ·rename_i v hx
    obtain ⟨y,w',hx1,hK⟩:=c9 h
    exact finV (s:=Instr.makeMap t (some (a.eval x))) (by rw [hr.ev hx];exact hx1) rfl hK
   ·exact h.elim
 case mapUpdate t m k x=>
  split at h
  ·rename_i m' k' x' hm hk hx
   obtain ⟨y,w',hx1,hK⟩:=c9 h
   refine finU (s:=Instr.mapUpdate t (a.eval m) (a.eval k) (a.eval x)) (w':=w') ?_ rfl hK
   rw [hr.ev hm,hr.ev hk,hr.ev hx]
   simp only [Sem.run_bind] at hx1
   cases hq:(Instr.mapUpdate t m' k' x').run P w with
   |ok u w2=>rw [hq] at hx1;simp at hx1;rw [hx1.2]
   |halt hh w2=>rw [hq] at hx1;simp at hx1
  ·exact h.elim
 case insert t m k x=>
  split at h
  ·rename_i m' k' x' hm hk hx
   obtain ⟨y,w',hx1,hK⟩:=c9 h
   refine finU (s:=Instr.mapUpdate t (a.eval m) (a.eval k) (a.eval x)) (w':=w') ?_ rfl hK
   rw [hr.ev hm,hr.ev hk,hr.ev hx]
   simp only [Sem.run_bind] at hx1
   cases hq:(Instr.mapUpdate t m' k' x').run P w with
   |ok u w2=>rw [hq] at hx1;simp at hx1;rw [hx1.2]
   |halt hh w2=>rw [hq] at hx1;simp at hx1
  ·exact h.elim
 case lookup t x i ok=>
  cases ok
  ·simp only at h
   split at h
   ·rename_i x' i' k hx hi hk
    obtain ⟨y,w',hx1,hK⟩:=c9 h
    exact finV (s:=Instr.lookup t (a.eval x) (a.eval i) false) (by rw [hr.ev hx,hr.ev hi];exact hx1) rfl hK
   ·exact h.elim
  ·simp only at h
   split at h
   ·rename_i x' i' ks hx hi hk
    unfold nO at h
    split at h
    ·rename_i v w' hx1
     obtain ⟨us,rfl,h1⟩:=iX h
     exact finV (s:=Instr.lookup t (a.eval x) (a.eval i) true) (by rw [hr.ev hx,hr.ev hi];exact hx1) rfl h1
    ·exact h.elim
   ·exact h.elim
 case mapEntry t m k=>
  split at h
  ·rename_i m' k' ke hm hk hke
   unfold nO at h
   split at h
   ·rename_i v w' hx1
    obtain ⟨us,rfl,h1⟩:=iX h
    exact finV (s:=Instr.mapEntry t (a.eval m) (a.eval k)) (by rw [hr.ev hm,hr.ev hk];exact hx1) rfl h1
   ·exact h.elim
  ·exact h.elim
 case entryStore t m s x=>
  split at h
  ·rename_i m' s' x' hm hs hx
   obtain ⟨y,w',hx1,hK⟩:=c9 h
   refine finU (s:=Instr.entryStore t (a.eval m) (a.eval s) (a.eval x)) (w':=w') ?_ rfl hK
   rw [hr.ev hm,hr.ev hs,hr.ev hx]
   simp only [Sem.run_bind] at hx1
   cases hq:(Instr.entryStore t m' s' x').run P w with
   |ok u w2=>rw [hq] at hx1;simp at hx1;rw [hx1.2]
   |halt hh w2=>rw [hq] at hx1;simp at hx1
  ·exact h.elim
 case call c=>
  obtain ⟨callee,args,tys⟩:=c
  simp only at h
  split at h
  ·split at h
   ·rename_i vs hvs
    obtain ⟨x,w',hx,hK⟩:=c9 h
    refine finV (s:=Builtin.len_ tys ty (args.map a.eval)) (by rw [jF hr hvs];exact hx) ?_ hK
    simp [execOp,resolve,invoke,builtin]
   ·exact h.elim
  ·rename_i x
   split at h
   ·rename_i v vs ks hx hvs hks
    unfold gn at h
    split at h
    ·rename_i i first captured
     have hq:(execOp a.eval ⟨dst,.call ⟨.value x,args,tys⟩,ty,pos,after,guard⟩).run P w=(callFunc i ⟨first.toList++vs++captured.toList⟩).run P w:=by
      simp only [execOp,resolve,Sem.run_bind,hr.ev hx,Deferred.ofValue,Sem.run_pure,Result.andThen_ok,invoke,jF hr hvs]
      congr 2
      cases first;cases captured;simp
     split at h
     ·rename_i hok
      unfold Oper.wp
      have he:(execOp a.eval ⟨dst,.call ⟨.value x,args,tys⟩,ty,pos,after,guard⟩).run P w= .ok (.enter i ⟨first.toList++vs++captured.toList⟩) w:=by
       rw [hq,ID (P:=P) hok]
      rw [he]
      simp only [Oper.upon]
      refine Calls.mono h fun e w' hpost=> ?_
      cases e with
      |returned v=>
       obtain ⟨us,rfl,h1⟩:=iX hpost
       exact hn _ _ _ h1 (fun v' e=>by simpa using e)
      |panicked=>exact hpost.elim
      |outgrown=>exact hpost.elim
     ·unfold Ext at h
      split at h
      ·rename_i v w' he
       obtain ⟨us,rfl,h1⟩:=iX h
       unfold Oper.wp
       rw [hq,he]
       simp only [Oper.upon]
       exact hn _ _ _ h1 (fun v' e=>by simpa using e)
      ·exact h.elim
    ·exact h.elim
   ·exact h.elim
  ·split at h
   ·rename_i vs hvs
    obtain ⟨x,w',hx,hK⟩:=c9 h
    refine finV (s:=Builtin.append_ tys ty (args.map a.eval)) (by rw [jF hr hvs];exact hx) ?_ hK
    simp [execOp,resolve,invoke,builtin]
   ·exact h.elim
  ·split at h
   ·rename_i vs hvs
    obtain ⟨x,w',hx,hK⟩:=c9 h
    refine finV (s:=Builtin.copy_ tys ty (args.map a.eval)) (by rw [jF hr hvs];exact hx) ?_ hK
    simp [execOp,resolve,invoke,builtin]
   ·exact h.elim
  ·split at h
   ·rename_i vs hvs
    obtain ⟨x,w',hx,hK⟩:=c9 h
    refine finV (s:=Builtin.clear_ tys ty (args.map a.eval)) (by rw [jF hr hvs];exact hx) ?_ hK
    simp [execOp,resolve,invoke,builtin]
   ·exact h.elim
  ·split at h
   ·rename_i vs hvs
    obtain ⟨x,w',hx,hK⟩:=c9 h
    refine finV (s:=Builtin.delete_ tys ty (args.map a.eval)) (by rw [jF hr hvs];exact hx) ?_ hK
    simp [execOp,resolve,invoke,builtin]
   ·exact h.elim
  ·rename_i x name
   split at h
   ·rename_i v vs ks hx hvs hks
    obtain ⟨i,r,hq,h⟩:=h
    unfold Oper.wp
    have he:(execOp a.eval ⟨dst,.call ⟨.invoke x name,args,tys⟩,ty,pos,after,guard⟩).run P w= .ok (.enter i ⟨r::vs⟩) w:=by
     simp only [execOp,resolve,Sem.run_bind,Sem.run_pure,Result.andThen_ok,invoke,hr.ev hx,jF hr hvs]
     rw [←hq]
     simp
    rw [he]
    simp only [Oper.upon]
    refine Calls.mono h fun e w' hpost=> ?_
    cases e with
    |returned v=>
     obtain ⟨us,rfl,h1⟩:=iX hpost
     exact hn _ _ _ h1 (fun v' e=>by simpa using e)
    |panicked=>exact hpost.elim
    |outgrown=>exact hpost.elim
   ·exact h.elim
  ·exact h.elim
theorem tq {P:Program} {w:World} {a:Act} {f:AF} (hr:Rel nn dfs a f) {o:Oper} {K:Option Value→World→Prop} (h:kH P f o w K)
  {next:Act→World→Prop} {Q:Exit→Act→World→Prop} (hn: ∀v ov w',K ov w'→(∀v',ov=some v'→v=v')→next (a.put o.dst v) w'):o.wp P a w next Q:=by
 unfold kH at h
 split at h
 ·obtain ⟨v,ov,h1,h2,h3⟩:=jq hr h
  unfold Oper.wp
  rw [h1 w rfl]
  exact hn v ov w h2 h3
 ·exact KK hr h hn
def dg (P:Program) (ops:Array Oper):List Oper→AF→World→(AF→World→Prop)→Prop
 | [],f,w,K=>K f w
 |o::rest,f,w,K=>match o.guard with
  |none=>kH P f o w fun v w'=>dg P ops rest (bI f o.dst v) w' K
  |some (j,want)=>match (ops[j]?).bind (·.dst) with
   |none=>False
   |some d=>match get f d with
    |some (.bool b)=>
     aa b
      (match want with
       |true=>kH P (aL f d (some (.bool true))) o w fun v w'=>dg P ops rest (bI (aL f d (some (.bool true))) o.dst v) w' K
       |false=>dg P ops rest (bI (aL f d (some (.bool true))) o.dst (some undef)) w K)
      (match want with
       |false=>kH P (aL f d (some (.bool false))) o w fun v w'=>dg P ops rest (bI (aL f d (some (.bool false))) o.dst v) w' K
       |true=>dg P ops rest (bI (aL f d (some (.bool false))) o.dst (some undef)) w K)
    |some (.tuple _)=>dg P ops rest (bI f o.dst (some undef)) w K
    |_=>False
def A8 (P:Program):List Oper→Nat
 | []=>0
 |o::l=>match eM P o.op with|true=>A8 P l+1|false=>0
def vg:List Nat→(Nat→Prop)→Prop
 | [],_=>True
 | [i],F=>F i
 |i::l,F=>F i∧vg l F
def guarded (ops:Array Oper) (o:Oper) (f:AF) (go skip:AF→Prop):Prop:=
 match o.guard with
 |none=>go f
 |some (j,want)=>match (ops[j]?).bind (·.dst) with
  |none=>False
  |some d=>match get f d with
   |some (.bool b)=>
    aa b
     (match want with|true=>go (aL f d (some (.bool true)))|false=>skip (aL f d (some (.bool true))))
     (match want with|false=>go (aL f d (some (.bool false)))|true=>skip (aL f d (some (.bool false))))
   |some (.tuple _)=>skip f
   |_=>False
def aF (P:Program) (ops:Array Oper) (S:World→Prop) (K:AF→World→Prop):Nat→Array Bool→AF→World→Prop
 |0,listed,f,w=>fk (Region.ready .any ops listed).isEmpty (K f w)
 |n+1,listed,f,w=>
  match Region.ready .any ops listed with
  | []=>K f w
  |r::rs=>match (r::rs).find? (fun i=>(match ops[i]? with|some o=>eM P o.op|none=>false)&&Region.free .any ops listed i) with
   |some i=>match ops[i]? with
    |some o=>guarded ops o f
      (fun f=>l9 P S f (fun v=>aF P ops S K n (listed.setIfInBounds i true) (bI f o.dst v) w) o.op)
      (fun f=>aF P ops S K n (listed.setIfInBounds i true) (bI f o.dst (some undef)) w)
    |none=>False
   |none=>vg (r::rs) fun i=>match ops[i]? with
    |some o=>guarded ops o f
      (fun f=>kH P f o w fun v w'=>S w'∧aF P ops S K n (listed.setIfInBounds i true) (bI f o.dst v) w')
      (fun f=>aF P ops S K n (listed.setIfInBounds i true) (bI f o.dst (some undef)) w)
    |none=>False
def Ed (P:Program) (o:Op):Bool:=
 match o with
 | .load _ _=>false
 |o=>eM P o
def hZ (P:Program) (ops:Array Oper) (i:Nat):Bool:=match ops[i]? with|some o=> !eM P o.op|none=>false
def xL (P:Program) (ops:Array Oper) (listed:Array Bool) (i:Nat):Bool:=
 (List.range ops.size).all fun j=>j==i||listed.getD j true|| !hZ P ops j||(match ops[j]? with|some oj=>oj.after.any (fun e=>Region.binds .any e&&e.on==i)|none=>true)
def Cs (P:Program) (ops:Array Oper) (listed:Array Bool) (i:Nat):Bool:=
 match ops[i]? with
 |some o=>Region.free .any ops listed i&&(Ed P o.op||(eM P o.op&&xL P ops listed i))
 |none=>false
def Mq (P:Program) (ops:Array Oper):Nat→Array Bool→Bool
 |0,listed=>(Region.ready .any ops listed).isEmpty
 |n+1,listed=>
  match Region.ready .any ops listed with
  | []=>true
  |r::rs=>match (r::rs).find? (Cs P ops listed) with
   |some i=>Mq P ops n (listed.setIfInBounds i true)
   |none=>match rs with
    | []=>hZ P ops r&&Mq P ops n (listed.setIfInBounds r true)
    |_=>false
def mZ (P:Program) (ops:Array Oper) (K:AF→World→Prop):Nat→Array Bool→AF→World→Prop
 |0,listed,f,w=>fk (Region.ready .any ops listed).isEmpty (K f w)
 |n+1,listed,f,w=>
  match Region.ready .any ops listed with
  | []=>K f w
  |r::rs=>match (r::rs).find? (Cs P ops listed) with
   |some i=>match ops[i]? with
    |some o=>guarded ops o f
      (fun f=>l9 P (fun w'=>w'=w) f (fun v=>mZ P ops K n (listed.setIfInBounds i true) (bI f o.dst v) w) o.op)
      (fun f=>mZ P ops K n (listed.setIfInBounds i true) (bI f o.dst (some undef)) w)
    |none=>False
   |none=>match rs with
    | []=>match ops[r]? with
     |some o=>fk (!eM P o.op) (guarded ops o f
       (fun f=>kH P f o w fun v w'=>mZ P ops K n (listed.setIfInBounds r true) (bI f o.dst v) w')
       (fun f=>mZ P ops K n (listed.setIfInBounds r true) (bI f o.dst (some undef)) w))
     |none=>False
    |_=>False
def Cm (ops:Array Oper) (i:Nat) (D:List Nat):List Nat:=
 (List.range ops.size).filter fun j=>match ops[j]? with|some o=>o.after.any (fun e=>Region.binds .any e&&(e.on==i||D.contains e.on))|none=>false
def pQ (ops:Array Oper) (i:Nat):Nat→List Nat
 |0=> []
 |n+1=>Cm ops i (pQ ops i n)
def ES (P:Program) (ops:Array Oper) (listed:Array Bool) (i:Nat) (D:List Nat):Bool:=
 (List.range ops.size).all fun j=>match D.contains j with|true=> !listed.getD j true|false=>j==i||listed.getD j true|| !hZ P ops j
def JJ (P:Program) (ops:Array Oper) (listed:Array Bool) (i:Nat):Bool:=
 match ops[i]? with
 |some o=>Region.free .any ops listed i&&(Ed P o.op||(eM P o.op&&ES P ops listed i (pQ ops i ops.size)))
 |none=>false
def l5 (P:Program) (ops:Array Oper) (K:AF→World→Prop):Nat→Array Bool→AF→World→Prop
 |0,listed,f,w=>fk (Region.ready .any ops listed).isEmpty (K f w)
 |n+1,listed,f,w=>
  match Region.ready .any ops listed with
  | []=>K f w
  |r::rs=>match (r::rs).find? (JJ P ops listed) with
   |some i=>match ops[i]? with
    |some o=>guarded ops o f
      (fun f=>l9 P (fun w'=>w'=w) f (fun v=>l5 P ops K n (listed.setIfInBounds i true) (bI f o.dst v) w) o.op)
      (fun f=>l5 P ops K n (listed.setIfInBounds i true) (bI f o.dst (some undef)) w)
    |none=>False
   |none=>vg (r::rs) fun i=>match ops[i]? with
    |some o=>guarded ops o f
      (fun f=>match eM P o.op with
       |true=>l9 P (fun w'=>w'=w) f (fun v=>l5 P ops K n (listed.setIfInBounds i true) (bI f o.dst v) w) o.op
       |false=>kH P f o w fun v w'=>l5 P ops K n (listed.setIfInBounds i true) (bI f o.dst v) w')
      (fun f=>l5 P ops K n (listed.setIfInBounds i true) (bI f o.dst (some undef)) w)
    |none=>False
def cB (w:World) (F:(World→Prop)→World→Prop):Prop:= ∃S:World→Prop,S {w with drawn:=w.drawn+1}∧F S {w with drawn:=w.drawn+1}
def vQ (P:Program) (ops:Array Oper) (draw:Bool) (f:AF) (w:World) (K:AF→World→Prop):Prop:=
 match draw with
 |false=>dg P ops ops.toList f w K
 |true=>
  match (if A8 P ops.toList=ops.size then Region.lexB .any ops else Region.lexTailB .any ops (A8 P ops.toList)) with
  |true=>aY w fun w'=>dg P ops ops.toList f w' K
  |false=>fk (Region.noSelect ops) (match Mq P ops ops.size (Array.replicate ops.size false) with
   |true=>aY w fun w'=>mZ P ops K ops.size (Array.replicate ops.size false) f w'
   |false=>cB w fun S w'=>aF P ops S K ops.size (Array.replicate ops.size false) f w')
theorem uM {ops:Array Oper} {a:Act} {f:AF} (hr:Rel nn dfs a f) {j d:Nat} {b:Bool} (hd:(ops[j]?).bind (·.dst)=some d) (hg:get f d=some (.bool b)):
  yielded ops a.tmps j=some b:=by
 have h1:=hr.val d _ hg
 have hl:=hr.shape d (kR hg)
 have hs:d<a.tmps.size:=by rw [hr.size];exact hl
 have h2:a.tmps[d]? =some (.bool b):=by
  rw [Array.getElem?_eq_getElem hs]
  congr 1
  simpa [hs] using h1
 simp [yielded,hd,h2]
theorem ua {ops:Array Oper} {a:Act} {f:AF} (hr:Rel nn dfs a f) {j d:Nat} {vs:Array Value} (hd:(ops[j]?).bind (·.dst)=some d) (hg:get f d=some (.tuple vs)):
  yielded ops a.tmps j=none:=by
 have h1:=hr.val d _ hg
 have hl:=hr.shape d (kR hg)
 have hs:d<a.tmps.size:=by rw [hr.size];exact hl
 have h2:a.tmps[d]? =some (.tuple vs):=by
  rw [Array.getElem?_eq_getElem hs]
  congr 1
  simpa [hs] using h1
 simp [yielded,hd,h2]
theorem EN {P:Program} {ops:Array Oper} {o:Oper} {rest:List Oper} {f:AF} {w:World} {K:AF→World→Prop} {a:Act} (hr:Rel nn dfs a f) (h:dg P ops (o::rest) f w K):
  ∃f',Rel nn dfs a f'∧((Region.wanted o (yielded ops a.tmps)=true∧kH P f' o w fun v w'=>dg P ops rest (bI f' o.dst v) w' K)∨
   (Region.wanted o (yielded ops a.tmps)=false∧dg P ops rest (bI f' o.dst (some undef)) w K)):=by
 simp only [dg] at h
 split at h
 ·rename_i hg
  exact ⟨f,hr,.inl ⟨by simp [Region.wanted,hg],h⟩⟩
 ·rename_i j want hg
  split at h
  ·exact h.elim
  ·rename_i d hd
   split at h
   ·rename_i b hb
    have hy:=uM hr hd hb
    cases b<;>cases want<;>simp only [aa] at h
    ·exact ⟨_,hr.same hb,.inl ⟨by simp [Region.wanted,hg,hy],h⟩⟩
    ·exact ⟨_,hr.same hb,.inr ⟨by simp [Region.wanted,hg,hy],h⟩⟩
    ·exact ⟨_,hr.same hb,.inr ⟨by simp [Region.wanted,hg,hy],h⟩⟩
    ·exact ⟨_,hr.same hb,.inl ⟨by simp [Region.wanted,hg,hy],h⟩⟩
   ·rename_i vs hb
    have hy:=ua hr hd hb
    exact ⟨f,hr,.inr ⟨by simp [Region.wanted,hg,hy],h⟩⟩
   ·exact h.elim
theorem qx {P:Program} {ops:Array Oper} {Q:Exit→Act→World→Prop} {K:AF→World→Prop} (hQ: ∀a f w,Rel nn dfs a f→K f w→Q .normal a w):
  ∀(l:List Oper) (f:AF) (w:World) (a:Act),Rel nn dfs a f→dg P ops l f w K→wpList P ops Q l a w
 | [],f,w,a,hr,h=>hQ a f w hr h
 |o::rest,f,w,a,hr,h=>by
  obtain ⟨f',hr',h1|h1⟩:=EN hr h
  ·simp only [wpList,h1.1,if_true]
   exact .inl (tq hr' h1.2 fun v ov w' hK hv=>qx hQ rest _ w' _ (hr'.put o.dst hv) hK)
  ·simp only [wpList,h1.1]
   exact qx hQ rest _ w _ (hr'.put o.dst (fun v' e=>by simpa using e)) h1.2
theorem qB {P:Program} {ops:Array Oper} {K:AF→World→Prop} {w:World} {l2:List Oper} {L:Act→Prop} (hL: ∀a f,Rel nn dfs a f→dg P ops l2 f w K→L a):
  ∀(l1:List Oper),(∀o∈l1,eM P o.op=true)→∀(f:AF) (a:Act),Rel nn dfs a f→dg P ops (l1++l2) f w K→wpStill P ops w L l1 a
 | [],_,f,a,hr,h=>hL a f hr h
 |o::l1,hs,f,a,hr,h=>by
  obtain ⟨f',hr',h1|h1⟩:=EN hr h
  ·simp only [wpStill,h1.1,if_true]
   have h2:=h1.2
   unfold kH at h2
   rw [hs o (by simp)] at h2
   obtain ⟨v,ov,e1,e2,e3⟩:=jq hr' h2
   unfold Oper.still
   rw [e1 w rfl]
   exact ⟨rfl,qB hL l1 (fun o' ho'=>hs o' (by simp [ho'])) _ _ (hr'.put o.dst e3) e2⟩
  ·simp only [wpStill,h1.1]
   exact qB hL l1 (fun o' ho'=>hs o' (by simp [ho'])) _ _ (hr'.put o.dst (fun v' e=>by simpa using e)) h1.2
theorem zM (P:Program): ∀l:List Oper,∀o∈l.take (A8 P l),eM P o.op=true
 | [],o,h=>by simp at h
 |x::l,o,h=>by
  simp only [A8] at h
  split at h
  ·rename_i hx
   simp only [List.take_succ_cons,List.mem_cons] at h
   rcases h with rfl|h
   ·exact hx
   ·exact zM P l o h
  ·simp at h
theorem fD {ops:Array Oper} {o:Oper} {f:AF} {go skip:AF→Prop} {a:Act} (hr:Rel nn dfs a f) (h:guarded ops o f go skip):
  ∃f',Rel nn dfs a f'∧((Region.wanted o (yielded ops a.tmps)=true∧go f')∨(Region.wanted o (yielded ops a.tmps)=false∧skip f')):=by
 unfold guarded at h
 split at h
 ·rename_i hg
  exact ⟨f,hr,.inl ⟨by simp [Region.wanted,hg],h⟩⟩
 ·rename_i j want hg
  split at h
  ·exact h.elim
  ·rename_i d hd
   split at h
   ·rename_i b hb
    have hy:=uM hr hd hb
    cases b<;>cases want<;>simp only [aa] at h
    ·exact ⟨_,hr.same hb,.inl ⟨by simp [Region.wanted,hg,hy],h⟩⟩
    ·exact ⟨_,hr.same hb,.inr ⟨by simp [Region.wanted,hg,hy],h⟩⟩
    ·exact ⟨_,hr.same hb,.inr ⟨by simp [Region.wanted,hg,hy],h⟩⟩
    ·exact ⟨_,hr.same hb,.inl ⟨by simp [Region.wanted,hg,hy],h⟩⟩
   ·rename_i vs hb
    have hy:=ua hr hd hb
    exact ⟨f,hr,.inr ⟨by simp [Region.wanted,hg,hy],h⟩⟩
   ·exact h.elim
theorem ye {F:Nat→Prop}: ∀{l:List Nat},vg l F→∀i∈l,F i
 | [],_,i,hi=>by simp at hi
 | [x],h,i,hi=>by simp at hi;subst hi;exact h
 |x::y::l,h,i,hi=>by
  rcases List.mem_cons.1 hi with rfl|hi
  ·exact h.1
  ·exact ye (l:=y::l) h.2 i hi
def Cc {nn:Nat} {dfs:List Deferred} (K:AF→World→Prop):Exit→Act→World→Prop
 | .normal,a,w=> ∃f,Rel nn dfs a f∧K f w
 |_,_,_=>False
theorem mb {P:Program} {ops:Array Oper} {S:World→Prop} {K:AF→World→Prop} (hsel:Region.noSelect ops=true):
  ∀(n:Nat) (listed:Array Bool) (f:AF) (w:World) (a:Act),Rel nn dfs a f→S w→aF P ops S K n listed f w→wpAnyH P .any ops (Cc (nn:=nn) (dfs:=dfs) K) S n listed a w
 |0,listed,f,w,a,hr,hS,h=>by
  obtain ⟨h1,h2⟩:=bw h
  exact ⟨by simpa using h1,f,hr,h2⟩
 |n+1,listed,f,w,a,hr,hS,h=>by
  unfold aF at h
  split at h
  ·rename_i he
   exact wpAnyH_done he ⟨f,hr,h⟩ _
  ·rename_i r rs he
   split at h
   ·rename_i i hi
    have hmem:=List.mem_of_find?_eq_some hi
    have hp:=List.find?_some hi
    split at h
    ·rename_i o ho
     rw [ho] at hp
     simp only [Bool.and_eq_true] at hp
     obtain ⟨f',hr',h1|h1⟩:=fD hr h
     ·obtain ⟨v,ov,e1,e2,e3⟩:=jq hr' h1.2
      exact wpAnyH_take ho hsel hp.2 (by rw [he];simpa using hmem) (fun c a w h=>h) (.inl ⟨h1.1,e1⟩) hS
       (mb hsel n _ _ w _ (hr'.put o.dst e3) hS e2)
     ·exact wpAnyH_take ho hsel hp.2 (by rw [he];simpa using hmem) (fun c a w h=>h) (.inr ⟨h1.1,rfl⟩) hS
       (mb hsel n _ _ w _ (hr'.put o.dst (fun v' e=>by simpa using e)) hS h1.2)
    ·exact h.elim
   ·refine wpAnyH_all he (by simp) fun i hi=> ?_
    have h0:=ye h i hi
    unfold wpOp
    split at h0
    ·rename_i o ho
     simp only [ho]
     obtain ⟨f',hr',h1|h1⟩:=fD hr h0
     ·rw [if_pos h1.1]
      exact .inl (tq hr' h1.2 fun v ov w' hK hv=>⟨hK.1,mb hsel n _ _ w' _ (hr'.put o.dst hv) hK.1 hK.2⟩)
     ·rw [if_neg (by rw [h1.1];simp)]
      exact ⟨hS,mb hsel n _ _ w _ (hr'.put o.dst (fun v' e=>by simpa using e)) hS h1.2⟩
    ·exact h0.elim
def jX (P:Program) (ops:Array Oper) (Q:Exit→Act→World→Prop):Nat→(World→Prop)→Array Bool→Act→World→Prop
 |0,_,listed,a,w=>Region.ready .any ops listed= []∧Q .normal a w
 |fuel+1,S,listed,a,w=>
  (Region.ready .any ops listed= []→Q .normal a w)∧
  ∀i∈Region.ready .any ops listed,wpOp P ops Q i (fun a' w'=> ∃S':World→Prop,(hZ P ops i=false→S'=S)∧S' w'∧jX P ops Q fuel S' (listed.setIfInBounds i true) a' w') a w
theorem sS {P:Program} {ops:Array Oper} {Q:Exit→Act→World→Prop}: ∀(fuel:Nat) (S:World→Prop) (listed:Array Bool) (a:Act) (w:World),jX P ops Q fuel S listed a w→wpAny P .any ops Q fuel listed a w
 |0,_,_,_,_,h=>h
 |fuel+1,_,_,_,_,h=>⟨h.1,fun i hi=>wpOp_mono (fun a' w' ⟨S',_,_,h'⟩=>sS fuel S' _ a' w' h') (h.2 i hi)⟩
theorem p8 {ops:Array Oper} {listed:Array Bool} {i:Nat} {oj:Oper} (hr:i∈Region.ready .any ops listed) (hall: ∀e∈oj.after,Region.binds .any e=true→listed.getD e.on false=true):
  ∀e∈oj.after,Region.binds .any e=true→e.on≠i:=fun e he hb heq=>by
 have h1:=hall e he hb
 have h0:=(mem_ready.1 hr).1
 rw [heq] at h1
 rcases Nat.lt_or_ge i listed.size with h'|h'
 ·simp [h'] at h0 h1;rw [h0] at h1;cases h1
 ·simp [Array.getElem?_eq_none h'] at h1
theorem lI {P:Program} {ops:Array Oper} {Q:Exit→Act→World→Prop} {i:Nat} {oi:Oper} {v:Value} (hi:ops[i]? =some oi) (hsel: ∀(j:Nat) (o:Oper) cs b,ops[j]? =some o→o.op≠ .select cs b)
  (hQ: ∀c a w,Q (.panic c) (a.put oi.dst v) w→Q (.panic c) a w):
  ∀(fuel:Nat) (S:World→Prop) (listed:Array Bool) (a:Act) (w:World),
   (∀j oj,ops[j]? =some oj→j≠i→listed.getD j true=false→(∀e∈oj.after,Region.binds .any e=true→e.on≠i)→oi.apart ops oj=true)→
   i∈Region.ready .any ops listed→YieldsIf P ops (fun _=>True) oi v a→S w→
   jX P ops Q fuel S (listed.setIfInBounds i true) (a.put oi.dst v) w→jX P ops Q (fuel+1) S listed a w:=by
 intro fuel
 induction fuel with
 |zero=>
  intro S listed a w _ hr hy hS H
  refine ⟨fun h=>(by rw [h] at hr;cases hr),fun j hj=> ?_⟩
  by_cases hji:j=i
  ·subst hji;exact hy.wpOp hi trivial ⟨S,fun _=>rfl,hS,H⟩
  ·have:=ready_mono hj hji
   rw [H.1] at this
   cases this
 |succ fuel ih=>
  intro S listed a w hfree hr hy hS H
  refine ⟨fun h=>(by rw [h] at hr;cases hr),fun j hj=> ?_⟩
  by_cases hji:j=i
  ·subst hji;exact hy.wpOp hi trivial ⟨S,fun _=>rfl,hS,H⟩
  ·have h1:=H.2 j (ready_mono hj hji)
   obtain ⟨hjun,oj,hoj,hall⟩:=mem_ready.1 hj
   have hnot:=p8 hr hall
   have h2:=wpOp_putIf hoj (hfree j oj hoj hji hjun hnot) (fun cs b=>hsel i oi cs b hi) (fun cs b=>hsel j oj cs b hoj) hQ hy h1
   have hfree': ∀k ok,ops[k]? =some ok→k≠i→(listed.setIfInBounds j true).getD k true=false→
     (∀e∈ok.after,Region.binds .any e=true→e.on≠i)→oi.apart ops ok=true:=fun k ok hk hki hun hno=>by
    refine hfree k ok hk hki ?_ hno
    by_cases hjk:j=k
    ·subst hjk;exact hjun
    ·rw [getD_set_ne true hjk] at hun;exact hun
   refine wpOp_mono (fun a' w' h3=> ?_) h2
   obtain ⟨hy',S',hS1,hS2,h4⟩:=h3
   refine ⟨S',hS1,hS2,ih S' (listed.setIfInBounds j true) a' w' hfree' (ready_mono hr (Ne.symm hji)) hy' hS2 ?_⟩
   rw [Array.setIfInBounds_comm _ _ hji]
   exact h4
theorem FV {P:Program} {ops:Array Oper} {Q:Exit→Act→World→Prop} {S:World→Prop} {i:Nat} {oi:Oper} {v:Value} (hi:ops[i]? =some oi) (hsel: ∀(j:Nat) (o:Oper) cs b,ops[j]? =some o→o.op≠ .select cs b)
  (hQ: ∀c a w,Q (.panic c) (a.put oi.dst v) w→Q (.panic c) a w):
  ∀(fuel:Nat) (listed:Array Bool) (a:Act) (w:World),
   (∀j oj,ops[j]? =some oj→j≠i→listed.getD j true=false→(∀e∈oj.after,Region.binds .any e=true→e.on≠i)→oi.apart ops oj=true∧hZ P ops j=false)→
   i∈Region.ready .any ops listed→YieldsIf P ops S oi v a→S w→
   jX P ops Q fuel S (listed.setIfInBounds i true) (a.put oi.dst v) w→jX P ops Q (fuel+1) S listed a w:=by
 intro fuel
 induction fuel with
 |zero=>
  intro listed a w _ hr hy hS H
  refine ⟨fun h=>(by rw [h] at hr;cases hr),fun j hj=> ?_⟩
  by_cases hji:j=i
  ·subst hji;exact hy.wpOp hi hS ⟨S,fun _=>rfl,hS,H⟩
  ·have:=ready_mono hj hji
   rw [H.1] at this
   cases this
 |succ fuel ih=>
  intro listed a w hfree hr hy hS H
  refine ⟨fun h=>(by rw [h] at hr;cases hr),fun j hj=> ?_⟩
  by_cases hji:j=i
  ·subst hji;exact hy.wpOp hi hS ⟨S,fun _=>rfl,hS,H⟩
  ·have h1:=H.2 j (ready_mono hj hji)
   obtain ⟨hjun,oj,hoj,hall⟩:=mem_ready.1 hj
   have hnot:=p8 hr hall
   obtain ⟨hap,hne⟩:=hfree j oj hoj hji hjun hnot
   have h2:=wpOp_putIf hoj hap (fun cs b=>hsel i oi cs b hi) (fun cs b=>hsel j oj cs b hoj) hQ hy h1
   have hfree': ∀k ok,ops[k]? =some ok→k≠i→(listed.setIfInBounds j true).getD k true=false→
     (∀e∈ok.after,Region.binds .any e=true→e.on≠i)→oi.apart ops ok=true∧hZ P ops k=false:=fun k ok hk hki hun hno=>by
    refine hfree k ok hk hki ?_ hno
    by_cases hjk:j=k
    ·subst hjk;exact hjun
    ·rw [getD_set_ne true hjk] at hun;exact hun
   refine wpOp_mono (fun a' w' h3=> ?_) h2
   obtain ⟨hy',S',hS1,hS2,h4⟩:=h3
   have hSS:=hS1 hne
   subst hSS
   refine ⟨S',hS1,hS2,ih (listed.setIfInBounds j true) a' w' hfree' (ready_mono hr (Ne.symm hji)) hy' hS2 ?_⟩
   rw [Array.setIfInBounds_comm _ _ hji]
   exact h4
theorem za {P:Program} {S S':World→Prop} {f:AF} {K:Option Value→Prop} {o:Op} (hb:Ed P o=true) (h:l9 P S f K o):l9 P S' f K o:=by
 cases o<;>first|exact h|cases hb
theorem B2 {P:Program} {ops:Array Oper} {listed:Array Bool} {i j:Nat} {oj:Oper} (h:xL P ops listed i=true) (hj:ops[j]? =some oj) (hne:j≠i) (hun:listed.getD j true=false) (hno: ∀e∈oj.after,Region.binds .any e=true→e.on≠i):
  hZ P ops j=false:=by
 unfold xL at h
 have h1:=List.all_eq_true.1 h j (List.mem_range.2 (Array.getElem?_eq_some_iff.1 hj).1)
 simp only [hj,Bool.or_eq_true,beq_iff_eq,hne,false_or,hun,Bool.false_eq_true,Bool.not_eq_true'] at h1
 rcases h1 with h1|h1
 ·exact h1
 ·obtain ⟨e,he,hb⟩:=Array.any_eq_true'.1 h1
  simp only [Bool.and_eq_true,beq_iff_eq] at hb
  exact absurd hb.2 (hno e he hb.1)
theorem lk {P:Program} {ops:Array Oper} {K:AF→World→Prop} (hsel:Region.noSelect ops=true):
  ∀(n:Nat) (listed:Array Bool) (f:AF) (w:World) (a:Act),Rel nn dfs a f→mZ P ops K n listed f w→jX P ops (Cc (nn:=nn) (dfs:=dfs) K) n (fun w'=>w'=w) listed a w
 |0,listed,f,w,a,hr,h=>by
  obtain ⟨h1,h2⟩:=bw h
  exact ⟨by simpa using h1,f,hr,h2⟩
 |n+1,listed,f,w,a,hr,h=>by
  unfold mZ at h
  split at h
  ·rename_i he
   exact ⟨fun _=>⟨f,hr,h⟩,by rw [he];simp⟩
  ·rename_i r rs he
   split at h
   ·rename_i i hi
    have hmem:i∈Region.ready .any ops listed:=by rw [he];exact List.mem_of_find?_eq_some hi
    have hp:=List.find?_some hi
    unfold Cs at hp
    split at h
    ·rename_i o ho
     rw [ho] at hp
     simp only [Bool.and_eq_true,Bool.or_eq_true] at hp
     obtain ⟨hfree,hp⟩:=hp
     have hfr:=Region.free_spec ho hfree
     obtain ⟨f',hr',h1|h1⟩:=fD hr h
     ·rcases hp with hb|⟨hst,hwa⟩
      ·obtain ⟨v,ov,e1,e2,e3⟩:=jq hr' (za (S':=fun _=>True) hb h1.2)
       exact lI ho (Region.noSelect_spec hsel) (fun c a w h=>h) n _ listed a w hfr hmem (.inl ⟨h1.1,e1⟩) rfl (lk hsel n _ _ w _ (hr'.put o.dst e3) e2)
      ·obtain ⟨v,ov,e1,e2,e3⟩:=jq hr' h1.2
       exact FV ho (Region.noSelect_spec hsel) (fun c a w h=>h) n listed a w (fun j oj hj hne hun hno=>⟨hfr j oj hj hne hun hno,B2 hwa hj hne hun hno⟩) hmem (.inl ⟨h1.1,e1⟩) rfl
        (lk hsel n _ _ w _ (hr'.put o.dst e3) e2)
     ·exact lI (v:=undef) ho (Region.noSelect_spec hsel) (fun c a w h=>h) n _ listed a w hfr hmem (.inr ⟨h1.1,rfl⟩) rfl (lk hsel n _ _ w _ (hr'.put o.dst (fun v' e=>by simpa using e)) h1.2)
    ·exact h.elim
   ·split at h
    ·split at h
     ·rename_i o ho
      obtain ⟨hst,h⟩:=bw h
      have hst:eM P o.op=false:=by simpa using hst
      have heff:hZ P ops r=true:=by simp [hZ,ho,hst]
      refine ⟨fun h0=>absurd h0 (by rw [he];simp),fun i hi=> ?_⟩
      rw [he] at hi
      have hir:i=r:=by simpa using hi
      subst hir
      unfold wpOp
      simp only [ho]
      obtain ⟨f',hr',h1|h1⟩:=fD hr h
      ·rw [if_pos h1.1]
       exact .inl (tq hr' h1.2 fun v ov w' hK hv=>⟨fun w2=>w2=w',fun hx=>(by rw [heff] at hx;cases hx),rfl,lk hsel n _ _ w' _ (hr'.put o.dst hv) hK⟩)
      ·rw [if_neg (by rw [h1.1];simp)]
       exact ⟨_,fun _=>rfl,rfl,lk hsel n _ _ w _ (hr'.put o.dst (fun v' e=>by simpa using e)) h1.2⟩
     ·exact h.elim
    ·exact h.elim
theorem HD {ops:Array Oper} {i:Nat} {D D':List Nat} (h: ∀j∈D,j∈D'): ∀j∈Cm ops i D,j∈Cm ops i D':=by
 intro j hj
 unfold Cm at hj⊢
 obtain ⟨h1,h2⟩:=List.mem_filter.1 hj
 refine List.mem_filter.2 ⟨h1,?_⟩
 cases ho:ops[j]? with
 |none=>rw [ho] at h2;cases h2
 |some o=>
  rw [ho] at h2
  simp only at h2⊢
  obtain ⟨e,he,hb⟩:=Array.any_eq_true'.1 h2
  refine Array.any_eq_true'.2 ⟨e,he,?_⟩
  simp only [Bool.and_eq_true,Bool.or_eq_true,beq_iff_eq,List.contains_iff_mem] at hb⊢
  exact ⟨hb.1,hb.2.imp id (h _)⟩
theorem vy {ops:Array Oper} {i:Nat}: ∀n,∀j∈pQ ops i n,j∈pQ ops i (n+1)
 |0=>fun j hj=>by cases hj
 |n+1=>HD (vy n)
theorem LK {ops:Array Oper} {i n j:Nat} {o:Oper} (hj:j∈pQ ops i n) (ho:ops[j]? =some o): ∃e∈o.after,Region.binds .any e=true∧(e.on=i∨e.on∈pQ ops i n):=by
 cases n with
 |zero=>cases hj
 |succ n=>
  have h2:=(List.mem_filter.1 hj).2
  rw [ho] at h2
  simp only at h2
  obtain ⟨e,he,hb⟩:=Array.any_eq_true'.1 h2
  simp only [Bool.and_eq_true,Bool.or_eq_true,beq_iff_eq,List.contains_iff_mem] at hb
  exact ⟨e,he,hb.1,hb.2.imp id (vy n _)⟩
theorem CZ {P:Program} {ops:Array Oper} {Q:Exit→Act→World→Prop} {S:World→Prop} {i:Nat} {oi:Oper} {v:Value} (hi:ops[i]? =some oi) (hsel: ∀(j:Nat) (o:Oper) cs b,ops[j]? =some o→o.op≠ .select cs b)
  (hQ: ∀c a w,Q (.panic c) (a.put oi.dst v) w→Q (.panic c) a w):
  ∀(fuel:Nat) (listed:Array Bool) (a:Act) (w:World),
   (∀j oj,ops[j]? =some oj→j≠i→listed.getD j true=false→(∀e∈oj.after,Region.binds .any e=true→e.on≠i)→oi.apart ops oj=true)→
   (∀j,j<ops.size→j∈pQ ops i ops.size→listed.getD j true=false)→(∀j,j<ops.size→j∉pQ ops i ops.size→j=i∨listed.getD j true=true∨hZ P ops j=false)→
   i∈Region.ready .any ops listed→YieldsIf P ops S oi v a→S w→
   jX P ops Q fuel S (listed.setIfInBounds i true) (a.put oi.dst v) w→jX P ops Q (fuel+1) S listed a w:=by
 intro fuel
 induction fuel with
 |zero=>
  intro listed a w _ _ _ hr hy hS H
  refine ⟨fun h=>(by rw [h] at hr;cases hr),fun j hj=> ?_⟩
  by_cases hji:j=i
  ·subst hji;exact hy.wpOp hi hS ⟨S,fun _=>rfl,hS,H⟩
  ·have:=ready_mono hj hji
   rw [H.1] at this
   cases this
 |succ fuel ih=>
  intro listed a w hfree hD hE hr hy hS H
  refine ⟨fun h=>(by rw [h] at hr;cases hr),fun j hj=> ?_⟩
  by_cases hji:j=i
  ·subst hji;exact hy.wpOp hi hS ⟨S,fun _=>rfl,hS,H⟩
  ·have h1:=H.2 j (ready_mono hj hji)
   obtain ⟨hjun,oj,hoj,hall⟩:=mem_ready.1 hj
   have hjs:j<ops.size:=(Array.getElem?_eq_some_iff.1 hoj).1
   have hnot:=p8 hr hall
   have hap:=hfree j oj hoj hji hjun hnot
   have hnD:j∉pQ ops i ops.size:=fun hm=>by
    obtain ⟨e,he,hb,h3⟩:=LK hm hoj
    rcases h3 with h3|h3
    ·exact hnot e he hb h3
    ·have h4:=hall e he hb
     have hes:e.on<ops.size:=by
      have:=(List.mem_filter.1 (vy ops.size _ h3)).1
      simpa using this
     have h5:=hD e.on hes h3
     rcases Nat.lt_or_ge e.on listed.size with h6|h6
     ·simp [h6] at h4 h5;rw [h5] at h4;cases h4
     ·simp [Array.getElem?_eq_none h6] at h5
   have hne:hZ P ops j=false:=by
    rcases hE j hjs hnD with h2|h2|h2
    ·exact absurd h2 hji
    ·rw [hjun] at h2;cases h2
    ·exact h2
   have h2:=wpOp_putIf hoj hap (fun cs b=>hsel i oi cs b hi) (fun cs b=>hsel j oj cs b hoj) hQ hy h1
   have hfree': ∀k ok,ops[k]? =some ok→k≠i→(listed.setIfInBounds j true).getD k true=false→
     (∀e∈ok.after,Region.binds .any e=true→e.on≠i)→oi.apart ops ok=true:=fun k ok hk hki hun hno=>by
    refine hfree k ok hk hki ?_ hno
    by_cases hjk:j=k
    ·subst hjk;exact hjun
    ·rw [getD_set_ne true hjk] at hun;exact hun
   have hD': ∀k,k<ops.size→k∈pQ ops i ops.size→(listed.setIfInBounds j true).getD k true=false:=fun k hk hm=>by
    by_cases hjk:j=k
    ·subst hjk;exact absurd hm hnD
    ·rw [getD_set_ne true hjk];exact hD k hk hm
   have hE': ∀k,k<ops.size→k∉pQ ops i ops.size→k=i∨(listed.setIfInBounds j true).getD k true=true∨hZ P ops k=false:=fun k hk hm=>by
    by_cases hjk:j=k
    ·subst hjk;exact .inr (.inr hne)
    ·rw [getD_set_ne true hjk];exact hE k hk hm
   refine wpOp_mono (fun a' w' h3=> ?_) h2
   obtain ⟨hy',S',hS1,hS2,h4⟩:=h3
   have hSS:=hS1 hne
   subst hSS
   refine ⟨S',hS1,hS2,ih (listed.setIfInBounds j true) a' w' hfree' hD' hE' (ready_mono hr (Ne.symm hji)) hy' hS2 ?_⟩
   rw [Array.setIfInBounds_comm _ _ hji]
   exact h4
theorem wN {P:Program} {ops:Array Oper} {listed:Array Bool} {i:Nat} {D:List Nat} (h:ES P ops listed i D=true):
  (∀j,j<ops.size→j∈D→listed.getD j true=false)∧∀j,j<ops.size→j∉D→j=i∨listed.getD j true=true∨hZ P ops j=false:=by
 unfold ES at h
 have h1:=List.all_eq_true.1 h
 refine ⟨fun j hj hm=> ?_,fun j hj hm=> ?_⟩
 ·have:=h1 j (List.mem_range.2 hj)
  rw [show D.contains j=true by simpa using hm] at this
  simpa using this
 ·have:=h1 j (List.mem_range.2 hj)
  rw [show D.contains j=false by simpa using hm] at this
  simp only [Bool.or_eq_true,beq_iff_eq,Bool.not_eq_true'] at this
  rcases this with (h2|h2)|h2
  ·exact .inl h2
  ·exact .inr (.inl h2)
  ·exact .inr (.inr h2)
theorem jr {P:Program} {ops:Array Oper} {K:AF→World→Prop} (hsel:Region.noSelect ops=true):
  ∀(n:Nat) (listed:Array Bool) (f:AF) (w:World) (a:Act),Rel nn dfs a f→l5 P ops K n listed f w→jX P ops (Cc (nn:=nn) (dfs:=dfs) K) n (fun w'=>w'=w) listed a w
 |0,listed,f,w,a,hr,h=>by
  obtain ⟨h1,h2⟩:=bw h
  exact ⟨by simpa using h1,f,hr,h2⟩
 |n+1,listed,f,w,a,hr,h=>by
  unfold l5 at h
  split at h
  ·rename_i he
   exact ⟨fun _=>⟨f,hr,h⟩,by rw [he];simp⟩
  ·rename_i r rs he
   split at h
   ·rename_i i hi
    have hmem:i∈Region.ready .any ops listed:=by rw [he];exact List.mem_of_find?_eq_some hi
    have hp:=List.find?_some hi
    unfold JJ at hp
    split at h
    ·rename_i o ho
     rw [ho] at hp
     simp only [Bool.and_eq_true,Bool.or_eq_true] at hp
     obtain ⟨hfree,hp⟩:=hp
     have hfr:=Region.free_spec ho hfree
     obtain ⟨f',hr',h1|h1⟩:=fD hr h
     ·rcases hp with hb|⟨hst,hwa⟩
      ·obtain ⟨v,ov,e1,e2,e3⟩:=jq hr' (za (S':=fun _=>True) hb h1.2)
       exact lI ho (Region.noSelect_spec hsel) (fun c a w h=>h) n _ listed a w hfr hmem (.inl ⟨h1.1,e1⟩) rfl (jr hsel n _ _ w _ (hr'.put o.dst e3) e2)
      ·obtain ⟨v,ov,e1,e2,e3⟩:=jq hr' h1.2
       exact CZ ho (Region.noSelect_spec hsel) (fun c a w h=>h) n listed a w hfr (wN hwa).1 (wN hwa).2 hmem (.inl ⟨h1.1,e1⟩) rfl
        (jr hsel n _ _ w _ (hr'.put o.dst e3) e2)
     ·exact lI (v:=undef) ho (Region.noSelect_spec hsel) (fun c a w h=>h) n _ listed a w hfr hmem (.inr ⟨h1.1,rfl⟩) rfl (jr hsel n _ _ w _ (hr'.put o.dst (fun v' e=>by simpa using e)) h1.2)
    ·exact h.elim
   ·refine ⟨fun h0=>absurd h0 (by rw [he];simp),fun i hi=> ?_⟩
    rw [he] at hi
    have h0:=ye h i hi
    split at h0
    ·rename_i o ho
     obtain ⟨f',hr',h1|h1⟩:=fD hr h0
     ·have h2:=h1.2
      split at h2
      ·rename_i hst
       obtain ⟨v,ov,e1,e2,e3⟩:=jq hr' h2
       exact YieldsIf.wpOp (S:=fun w'=>w'=w) (v:=v) ho (.inl ⟨h1.1,e1⟩) rfl ⟨_,fun _=>rfl,rfl,jr hsel n _ _ w _ (hr'.put o.dst e3) e2⟩
      ·rename_i hst
       have heff:hZ P ops i=true:=by simp [hZ,ho,hst]
       unfold wpOp
       simp only [ho]
       rw [if_pos h1.1]
       exact .inl (tq hr' h2 fun v ov w' hK hv=>⟨fun w2=>w2=w',fun hx=>(by rw [heff] at hx;cases hx),rfl,jr hsel n _ _ w' _ (hr'.put o.dst hv) hK⟩)
     ·unfold wpOp
      simp only [ho]
      rw [if_neg (by rw [h1.1];simp)]
      exact ⟨_,fun _=>rfl,rfl,jr hsel n _ _ w _ (hr'.put o.dst (fun v' e=>by simpa using e)) h1.2⟩
    ·exact h0.elim
def Lh (P:Program) (ops:Array Oper) (f:AF) (w:World) (K:AF→World→Prop):Prop:=
 fk (Region.noSelect ops) (aY w fun w'=>l5 P ops K ops.size (Array.replicate ops.size false) f w')
theorem C2 {P:Program} (hm:P.follows .mixedOrders=true) {id:Nat} {ops:Array Oper} {f:AF} {w:World} {K:AF→World→Prop} {Q:Exit→Act→World→Prop}
  (hQ: ∀a f w,Rel nn dfs a f→K f w→Q .normal a w) {a:Act} (hr:Rel nn dfs a f) (h:Lh P ops f w K):(Code.region id ops true).wp P Q a w:=by
 obtain ⟨hsel,h⟩:=bw h
 refine wp_mono (wp_region_any hm (sS _ _ _ _ _ (jr (nn:=nn) (dfs:=dfs) (K:=K) hsel _ _ _ _ _ hr h))) fun e a w hq=> ?_
 cases e<;>first|(obtain ⟨f,hr,hK⟩:=hq;exact hQ a f w hr hK)|exact hq.elim
theorem Jw {P:Program} (hm:P.follows .mixedOrders=true) {id:Nat} {ops:Array Oper} {draw:Bool} {f:AF} {w:World} {K:AF→World→Prop} {Q:Exit→Act→World→Prop}
  (hQ: ∀a f w,Rel nn dfs a f→K f w→Q .normal a w) {a:Act} (hr:Rel nn dfs a f) (h:vQ P ops draw f w K):(Code.region id ops draw).wp P Q a w:=by
 obtain ⟨l⟩:=ops
 cases draw
 ·exact wp_region_list (qx hQ _ _ _ _ hr h)
 ·unfold vQ at h
  simp only at h
  split at h
  ·rename_i hB
   unfold aY at h
   by_cases hn:A8 P l=l.length
   ·rw [if_pos (by simpa using hn)] at hB
    refine wp_region_still_lit hm hB ?_
    refine qB (l2:= []) (K:=K) (fun a f hr h=>hQ a f _ hr h) l (fun o ho=>zM P l o (by rw [hn];simpa using ho)) f a hr (by simpa using h)
   ·rw [if_neg (by simpa using hn)] at hB
    refine wp_region_still_tail (A8 P l) hm hB ?_
    refine qB (l2:=l.drop (A8 P l)) (K:=K) (fun a f hr h=>qx hQ _ _ _ _ hr h) _ (zM P l) f a hr ?_
    rw [List.take_append_drop]
    exact h
  ·obtain ⟨hsel,h⟩:=bw h
   split at h
   ·refine wp_mono (wp_region_any hm (sS _ _ _ _ _ (lk (nn:=nn) (dfs:=dfs) (K:=K) hsel _ _ _ _ _ hr h))) fun e a w hq=> ?_
    cases e<;>first|(obtain ⟨f,hr,hK⟩:=hq;exact hQ a f w hr hK)|exact hq.elim
   obtain ⟨S,hS,h1⟩:=h
   refine wp_mono (wp_region_held (S:=S) (Q:=Cc (nn:=nn) (dfs:=dfs) K) hm (mb hsel _ _ _ _ _ hr hS h1)) fun e a w hq=> ?_
   cases e<;>first|(obtain ⟨f,hr,hK⟩:=hq;exact hQ a f w hr hK)|exact hq.elim
theorem mr {b:Bool} {X X' Y Y':Prop} (h1:X→X') (h2:Y→Y') (h:aa b X Y):aa b X' Y':=by
 cases b
 ·exact h2 h
 ·exact h1 h
theorem cm {b:Bool} {X X':Prop} (h1:X→X') (h:fk b X):fk b X':=by
 cases b
 ·exact h.elim
 ·exact h1 h
theorem Il {q:Option Addr} {K K':Addr→Prop} (h1: ∀p,K p→K' p) (h:ah q K):ah q K':=by
 cases q
 ·exact h.elim
 ·exact h1 _ h
theorem DI {S:World→Prop} {p:Addr}: ∀{l:List Sc} {i:Nat} {K K':TT l→Prop},(∀x,K x→K' x)→Gq S p l i K→Gq S p l i K'
 | [],_,_,_,h1,h=>h1 _ h
 |_::_,_,_,_,h1,⟨x,hx,h⟩=>⟨x,hx,DI (fun _ hy=>h1 _ hy) h⟩
theorem Mn {k:Ki} {p:Addr} {S:World→Prop} {K K':k.T→Prop} (h1: ∀x,K x→K' x) (h:aw k p S K):aw k p S K':=by
 cases k with
 |sc s=>obtain ⟨x,hx,h⟩:=h;exact ⟨x,hx,h1 _ h⟩
 |st l=>exact DI h1 h
 |arr n=>obtain ⟨x,h2,h3,h⟩:=h;exact ⟨x,h2,h3,h1 _ h⟩
theorem CM {s:Sl} {lo hi mx:Int} {sz:Nat} {K K':Sl→Prop} (h1: ∀x,K x→K' x) (h:bj s lo hi mx sz K):bj s lo hi mx sz K':=
 ⟨h.1,h.2.1,h.2.2.1,h.2.2.2.1,h1 _ h.2.2.2.2⟩
theorem HL {op:BinOp} {k:IntKind} {a b:Int} {K K':Value→Prop} (h1: ∀v,K v→K' v) (h:vC op k a b K):vC op k a b K':=by
 cases op<;>simp only [vC] at h⊢ <;>first|exact h.elim|exact h1 _ h|exact ⟨h.1,h1 _ h.2⟩
theorem yA {v:Value} {K K':Bool→Prop} (h1: ∀b,K b→K' b) (h:na v K):na v K':=by
 cases v<;>first|exact h1 _ h|exact h.elim
theorem j4 {P:Program} {t:TypeId} {cs:List Value} {off:Nat} {K K':Option Value→Prop} (h1: ∀v,K v→K' v) (h:fT P t cs off K):fT P t cs off K':=by
 unfold fT at h⊢
 split at h
 ·exact h1 _ h
 ·split at h
  ·exact h1 _ h
  ·exact h.elim
 ·exact h.elim
theorem vd {P:Program} {rec:TypeId→Value→Value→(Bool→Prop)→Prop} (ih: ∀t x y (K K':Bool→Prop),(∀b,K b→K' b)→rec t x y K→rec t x y K') {xs ys:List Value}:
  ∀{fs:List Field} {K K':Bool→Prop},(∀b,K b→K' b)→kF P rec xs ys fs K→kF P rec xs ys fs K'
 | [],_,_,h1,h=>h1 _ h
 |f::fs,K,K',h1,h=>by
  unfold kF at h⊢
  split at h
  ·exact vd ih h1 h
  ·refine j4 (fun a h=>j4 (fun b h=> ?_) h) h
   split at h
   ·cases fs with
    |nil=>exact ih _ _ _ _ _ h1 h
    |cons g gs=>exact ih _ _ _ _ _ (fun r h=>vd ih (fun r' h=>h1 _ h) h) h
   ·exact h.elim
theorem AK {P:Program} {rec:TypeId→Value→Value→(Bool→Prop)→Prop} (ih: ∀t x y (K K':Bool→Prop),(∀b,K b→K' b)→rec t x y K→rec t x y K') {e:TypeId} {sz:Nat} {xs ys:List Value}:
  ∀{is:List Nat} {K K':Bool→Prop},(∀b,K b→K' b)→xC P rec e sz xs ys is K→xC P rec e sz xs ys is K'
 | [],_,_,h1,h=>h1 _ h
 |i::is,K,K',h1,h=>by
  unfold xC at h⊢
  refine j4 (fun a h=>j4 (fun b h=> ?_) h) h
  split at h
  ·cases is with
   |nil=>exact ih _ _ _ _ _ h1 h
   |cons g gs=>exact ih _ _ _ _ _ (fun r h=>AK ih (fun r' h=>h1 _ h) h) h
  ·exact h.elim
theorem xV {P:Program}: ∀(d:Nat) (t:TypeId) (x y:Value) (K K':Bool→Prop),(∀b,K b→K' b)→qk P d t x y K→qk P d t x y K'
 |0,_,_,_,_,_,_,h=>h.elim
 |d+1,t,x,y,K,K',h1,h=>by
  unfold qk at h⊢
  split at h
  ·exact h1 _ h
  ·exact cm (h1 _) h
  ·exact h1 _ h
  ·exact cm (vd (xV d) h1) h
  ·split at h
   ·exact AK (xV d) h1 h
   ·exact h.elim
  ·exact h.elim
theorem yw {P:Program} {t:TypeId} {xs ys:Array Value} {K K':Bool→Prop} (h1: ∀b,K b→K' b) (h:sR P t xs ys K):sR P t xs ys K':=by
 unfold sR at h⊢
 refine cm (fun h=> ?_) h
 split at h
 ·exact xV _ _ _ _ _ _ h1 h
 ·split at h
  ·split at h
   ·refine cm (cm fun h=> ?_) h
    obtain ⟨a,b,x,y,ha,hb,hK⟩:=h
    exact ⟨a,b,x,y,ha,hb,h1 _ hK⟩
   ·obtain ⟨b,hb,hK⟩:=h
    exact ⟨b,hb,h1 _ hK⟩
   ·exact h.elim
  ·obtain ⟨b,hb,hK⟩:=h
   exact ⟨b,hb,h1 _ hK⟩
  ·exact h.elim
 ·exact h.elim
theorem Ib {P:Program} {op:BinOp} {t:TypeId} {x:Value} {K K':Value→Prop} (h1: ∀v,K v→K' v) (h:vK P op t x K):vK P op t x K':=by
 unfold vK at h⊢
 split at h
 ·cases x<;>first|exact h1 _ h|exact h.elim
 ·cases x<;>first|exact h1 _ h|exact h.elim
 ·exact h.elim
theorem HG {P:Program} {op:BinOp} {t:TypeId} {x y:Value} {K K':Value→Prop} (h1: ∀v,K v→K' v) (h:kj P op t x y K):kj P op t x y K':=by
 unfold kj at h⊢
 split at h
 ·split at h
  ·exact yA (fun b hb=>h1 _ hb) h
  ·exact yA (fun b hb=>h1 _ hb) h
  ·exact h.elim
 ·unfold kj.binVC1 at h⊢
  split at h
  ·split at h
   ·exact ⟨h.1,h1 _ h.2⟩
   ·exact ⟨h.1,h1 _ h.2⟩
   ·exact cm (HL h1) h
  ·split at h<;>first|exact h1 _ h|exact h.elim
  ·split at h<;>first|exact h1 _ h|exact h.elim
  ·split at h<;>first|exact h1 _ h|exact h.elim
  ·split at h<;>first|exact h1 _ h|exact ⟨h.1,h1 _ h.2⟩|exact h.elim
  ·split at h
   ·exact yw (fun b hb=>h1 _ hb) h
   ·exact yw (fun b hb=>h1 _ hb) h
   ·exact h.elim
  ·exact h.elim
theorem Lj {op:UnOp} {x:Value} {K K':Value→Prop} (h1: ∀v,K v→K' v) (h:zN op x K):zN op x K':=by
 unfold zN at h⊢
 split at h<;>first|exact h1 _ h|exact h.elim
theorem F7 {P:Program} {s d:TypeId} {x:Value} {K K':Value→Prop} (h1: ∀v,K v→K' v) (h:rX P s d x K):rX P s d x K':=by
 unfold rX at h⊢
 split at h<;>first|exact h1 _ h|exact h.elim
theorem DF {P:Program} {t:TypeId} {f:AF} {x:Value} {lo hi mx:Option Operand} {K K':Value→Prop} (h1: ∀v,K v→K' v) (h:oL P t f x lo hi mx K):oL P t f x lo hi mx K':=by
 unfold oL at h⊢
 split at h
 ·split at h
  ·exact h.elim
  ·split at h
   ·exact CM (fun s hs=>h1 _ hs) h
   ·exact h.elim
 ·split at h
  ·exact h.elim
  ·split at h
   ·exact ⟨h.1,h.2.1,h.2.2.1,h1 _ h.2.2.2⟩
   ·exact h.elim
 ·split at h
  ·exact h.elim
  ·split at h
   ·exact CM (fun s hs=>h1 _ hs) h
   ·exact h.elim
 ·exact h.elim
theorem Dp {P:Program} {t:TypeId} {cs:List Value} {i:Nat} {K K':Option Value→Prop} (h1: ∀v,K v→K' v) (h:oN P t cs i K):oN P t cs i K':=by
 unfold oN at h⊢
 split at h
 ·split at h
  ·split at h
   ·split at h
    ·split at h
     ·obtain ⟨x,hx,h⟩:=h;exact ⟨x,hx,h1 _ h⟩
     ·exact h1 _ h
    ·split at h
     ·obtain ⟨x,hx,h⟩:=h;exact ⟨x,hx,h1 _ h⟩
     ·exact h.elim
    ·exact h.elim
   ·exact j4 h1 h
  ·exact h.elim
 ·exact h.elim
theorem Es {P:Program} {t:TypeId} {x:Value} {i:Int} {K K':Value→Prop} (h1: ∀v,K v→K' v) (h:oR P t x i K):oR P t x i K':=by
 unfold oR at h⊢
 split at h
 ·split at h
  ·refine cm (fun h=> ?_) h
   obtain ⟨a,b,y,hy,h⟩:=h
   exact ⟨a,b,y,hy,h1 _ h⟩
  ·exact h.elim
 ·exact ⟨h.1,h.2.1,h1 _ h.2.2⟩
 ·exact h.elim
theorem Fl {P:Program} {t:TypeId} {x:Value} {i:Int} {K K':Value→Prop} (h1: ∀v,K v→K' v) (h:rW P t x i K):rW P t x i K':=by
 unfold rW at h⊢
 split at h
 ·split at h
  ·obtain ⟨p,a,b,c,h⟩:=h;exact ⟨p,a,b,c,h1 _ h⟩
  ·exact h.elim
 ·split at h
  ·exact ⟨h.1,h.2.1,h1 _ h.2.2⟩
  ·exact h.elim
 ·exact h.elim
theorem H4 {P:Program} {t:TypeId} {x:Value} {K K':Value→Prop} (h1: ∀v,K v→K' v) (h:v9 P t x K):v9 P t x K':=by
 unfold v9 at h⊢
 split at h<;>first|exact h1 _ h|exact h.elim
theorem I7 {P:Program} {t:TypeId} {x:Value} {K K':Value→Prop} (h1: ∀v,K v→K' v) (h:vS P t x K):vS P t x K':=by
 unfold vS at h⊢
 split at h<;>first|exact h1 _ h|exact h.elim
theorem tY {b:Bool} {x y:Value} {K K':Value→Prop} (h1: ∀v,K v→K' v) (h:gY b x y K):gY b x y K':=by
 unfold gY at h⊢
 split at h
 ·exact cm (h1 _) h
 ·exact h.elim
theorem np {P:Program} {S:World→Prop} {f:AF} {o:Op} {K K':Option Value→Prop} (h1: ∀v,K v→K' v) (h:l9 P S f K o):l9 P S f K' o:=by
 cases o<;>simp only [l9] at h⊢ <;>try exact h.elim
 case move x=>exact h1 _ h
 case assign x=>exact h1 _ h
 case pick c x y=>
  split at h
  ·exact mr (h1 _) (h1 _) h
  ·exact h.elim
 case nilCheck x=>
  split at h
  ·exact Il (fun p hp=>h1 _ hp) h
  ·exact h1 _ h
  ·exact h1 _ h
  ·exact h.elim
 case fieldAddr t x i=>split at h<;>first|exact h1 _ h|exact h.elim
 case field t x i=>
  split at h
  ·exact Dp h1 h
  ·exact h.elim
 case indexAddr t x i=>
  split at h
  ·exact Fl (fun v hv=>h1 _ hv) h
  ·exact h.elim
 case index t x i=>
  split at h
  ·exact Es (fun v hv=>h1 _ hv) h
  ·exact h.elim
 case load t x=>
  split at h
  ·exact cm (Mn fun v hv=>h1 _ hv) h
  ·exact h.elim
 case binOp op t x y yt=>
  split at h
  ·split at h
   ·exact Ib (fun v hv=>h1 _ hv) h
   ·exact h.elim
  ·split at h
   ·exact HG (fun v hv=>h1 _ hv) h
   ·exact h.elim
 case unOp op t x=>
  split at h
  ·exact Lj (fun v hv=>h1 _ hv) h
  ·exact h.elim
 case convert s d x=>
  split at h
  ·exact F7 (fun v hv=>h1 _ hv) h
  ·exact h.elim
 case slice t x lo hi mx=>
  split at h
  ·exact DF (fun v hv=>h1 _ hv) h
  ·exact h.elim
 case extract x i=>
  split at h
  ·split at h<;>first|exact h1 _ h|exact h.elim
  ·exact h.elim
 case build t ps=>
  split at h
  ·split at h
   ·obtain ⟨cs,hc,h⟩:=h;exact ⟨cs,hc,h1 _ h⟩
   ·split at h<;>first|exact h1 _ h|exact h.elim
  ·exact h.elim
 case makeInterface t x=>split at h<;>first|exact h1 _ h|exact h.elim
 case makeFunc fn as cs=>split at h<;>first|exact h1 _ h|exact h.elim
 case call c=>
  split at h
  ·split at h
   ·exact H4 (fun v hv=>h1 _ hv) h
   ·exact h.elim
  ·split at h
   ·exact I7 (fun v hv=>h1 _ hv) h
   ·exact h.elim
  ·split at h
   ·exact tY (fun v hv=>h1 _ hv) h
   ·exact h.elim
  ·split at h
   ·exact tY (fun v hv=>h1 _ hv) h
   ·exact h.elim
  ·exact h.elim
theorem DQ {p:Addr} {K K':World→Prop} (h1: ∀w,K w→K' w): ∀{vs:List Value} {i:Nat} {w:World},ae p vs i w K→ae p vs i w K'
 | [],_,_,h=>h1 _ h
 |_::_,_,_,h=>cm (fun h=>⟨h.1,h.2.1,DQ h1 h.2.2⟩) h
theorem CP {P:Program} {t:TypeId} {p:Addr} {v:Value} {w:World} {K K':World→Prop} (h1: ∀w,K w→K' w) (h:oJ P t p v w K):oJ P t p v w K':=by
 unfold oJ at h⊢
 split at h
 ·exact cm (cm fun h=>⟨h.1,h.2.1,h1 _ h.2.2⟩) h
 ·split at h
  ·exact cm (DQ h1) h
  ·exact h.elim
 ·split at h
  ·exact cm (fun h=>⟨h.1,h.2.1,h1 _ h.2.2⟩) h
  ·exact h.elim
 ·exact h.elim
theorem Ki.tD {k:Ki} {v:Value} {K K':k.T→Prop} (h1: ∀x,K x→K' x) (h:k.dec v K):k.dec v K':=by
 obtain ⟨x,rfl,h2⟩:=Ki.dz h
 cases k with
 |sc s=>exact Vc.oT.2 (h1 _ h2)
 |st l=>exact pY.2 (h1 _ h2)
 |arr n=>exact h1 _ h2
theorem dG {P:Program} {s:Sem Value} {k:Ki} {w:World} {K K':k.T→World→Prop} (h1: ∀x w,K x w→K' x w) (h:ar P s k w K):ar P s k w K':=by
 unfold ar at h⊢
 split at h
 ·exact Ki.tD (fun x hx=>h1 _ _ hx) h
 ·exact h.elim
theorem vk {w:World} {g g':List Value→World→Prop} (h1: ∀vs,g vs w→g' vs w): ∀{ks:List Ki} {vs acc:List Value},Ej ks vs (kD ks acc g) w→Ej ks vs (kD ks acc g') w
 | [],[],_,h=>h1 _ h
 |_::_,_::_,_,h=>Ki.tD (fun _ hx=>vk h1 hx) h
 | [],_::_,_,h=>h.elim
 |_::_,[],_,h=>h.elim
theorem j7 {w:World} {g g':List Value→World→Prop} (h1: ∀vs,g vs w→g' vs w) {ks:List Ki} {v:Value} (h:nH ks v (kD ks [] g) w):nH ks v (kD ks [] g') w:=by
 match ks,h with
 | [k],h=>exact Ki.tD (fun x hx=>h1 _ hx) h
 | [],h=>
  cases v with
  |tuple us=>exact vk h1 h
  |_=>exact h.elim
 |k::k'::ks,h=>
  cases v with
  |tuple us=>exact vk h1 h
  |_=>exact h.elim
theorem NV {P:Program} {v:Value} {ks:List Ki} {args:List Value} {w:World} {g g':List Value→World→Prop} (h1: ∀vs w,g vs w→g' vs w) (h:gn P v ks args w (kD ks [] g)):gn P v ks args w (kD ks [] g'):=by
 unfold gn at h⊢
 split at h
 ·split at h
  ·refine Calls.mono h fun e w' hp=> ?_
   cases e with
   |returned v=>exact j7 (fun vs=>h1 vs _) hp
   |panicked=>exact hp
   |outgrown=>exact hp
  ·unfold Ext at h⊢
   split at h
   ·exact j7 (fun vs=>h1 vs _) h
   ·exact h.elim
 ·exact h.elim
theorem Nf {P:Program} {v:Value} {n:String} {ks:List Ki} {args:List Value} {w:World} {g g':List Value→World→Prop} (h1: ∀vs w,g vs w→g' vs w) (h:fw P v n ks args w (kD ks [] g)):fw P v n ks args w (kD ks [] g'):=by
 obtain ⟨i,r,hq,h⟩:=h
 refine ⟨i,r,hq,Calls.mono h fun e w' hp=> ?_⟩
 cases e with
 |returned v=>exact j7 (fun vs=>h1 vs _) hp
 |panicked=>exact hp
 |outgrown=>exact hp
theorem IK {P:Program} {f:AF} {ty:TypeId} {w:World} {o:Op} {K K':Option Value→World→Prop} (h1: ∀v w,K v w→K' v w) (h:vz P f ty w K o):vz P f ty w K' o:=by
 cases o<;>simp only [vz] at h⊢ <;>try exact h.elim
 case store t x v=>
  split at h
  ·exact CP (fun w hw=>h1 _ _ hw) h
  ·exact h.elim
 case alloc t=>
  split at h
  ·split at h
   ·exact h1 _ _ h
   ·exact h.elim
  ·exact h.elim
 case box t x=>
  split at h
  ·exact h1 _ _ h
  ·exact h.elim
 case buildSlice t n ps=>
  split at h
  ·split at h
   ·obtain ⟨cs,hc,h⟩:=h
    exact ⟨cs,hc,h1 _ _ h⟩
   ·split at h
    ·exact h1 _ _ h
    ·exact h.elim
  ·exact h.elim
 case makeSlice t l c=>
  split at h
  ·exact dG (fun x w hx=>h1 _ _ hx) h
  ·exact h.elim
 case convert s d x=>
  split at h
  ·exact dG (fun x w hx=>h1 _ _ hx) h
  ·exact dG (fun x w hx=>h1 _ _ hx) h
  ·exact h.elim
 case makeMap t r=>
  split at h
  ·exact dG (fun x w hx=>h1 _ _ hx) h
  ·split at h
   ·exact dG (fun x w hx=>h1 _ _ hx) h
   ·exact h.elim
 case mapUpdate t m k x=>
  split at h
  ·exact dG (fun x w hx=>h1 _ _ hx) h
  ·exact h.elim
 case insert t m k x=>
  split at h
  ·exact dG (fun x w hx=>h1 _ _ hx) h
  ·exact h.elim
 case lookup t x i ok=>
  cases ok
  ·simp only at h⊢
   split at h
   ·exact dG (fun x w hx=>h1 _ _ hx) h
   ·exact h.elim
  ·simp only at h⊢
   split at h
   ·unfold nO at h⊢
    split at h
    ·exact j7 (fun vs hv=>h1 _ _ hv) h
    ·exact h.elim
   ·exact h.elim
 case mapEntry t m k=>
  split at h
  ·unfold nO at h⊢
   split at h
   ·exact j7 (fun vs hv=>h1 _ _ hv) h
   ·exact h.elim
  ·exact h.elim
 case entryStore t m s x=>
  split at h
  ·exact dG (fun x w hx=>h1 _ _ hx) h
  ·exact h.elim
 case call c=>
  split at h
  ·split at h
   ·exact dG (fun x w hx=>h1 _ _ hx) h
   ·exact h.elim
  ·split at h
   ·exact NV (fun vs w hv=>h1 _ _ hv) h
   ·exact h.elim
  ·split at h
   ·exact dG (fun x w hx=>h1 _ _ hx) h
   ·exact h.elim
  ·split at h
   ·exact dG (fun x w hx=>h1 _ _ hx) h
   ·exact h.elim
  ·split at h
   ·exact dG (fun x w hx=>h1 _ _ hx) h
   ·exact h.elim
  ·split at h
   ·exact dG (fun x w hx=>h1 _ _ hx) h
   ·exact h.elim
  ·split at h
   ·exact Nf (fun vs w hv=>h1 _ _ hv) h
   ·exact h.elim
  ·exact h.elim
theorem dP {P:Program} {f:AF} {o:Oper} {w:World} {K K':Option Value→World→Prop} (h1: ∀v w,K v w→K' v w) (h:kH P f o w K):kH P f o w K':=by
 unfold kH at h⊢
 split at h
 ·exact np (fun v hv=>h1 v w hv) h
 ·exact IK h1 h
def aR (wr:List Nat) (f f':AF):Prop:= ∀s,s∉wr→get f' s=get f s
theorem aR.refl (wr:List Nat) (f:AF):aR wr f f:=fun _ _=>rfl
theorem aR.trans {wr:List Nat} {f g h:AF} (h1:aR wr f g) (h2:aR wr g h):aR wr f h:=fun s hs=>(h2 s hs).trans (h1 s hs)
theorem aR.mono {wr wr':List Nat} {f g:AF} (h1:aR wr f g) (h2: ∀s∈wr,s∈wr'):aR wr' f g:=fun s hs=>h1 s fun h=>hs (h2 s h)
theorem aR.aL {wr:List Nat} {f:AF} {d:Nat} (v:Option Value) (hd:d∈wr):aR wr f (Vc.aL f d v):=by
 intro s hs
 rw [mU,if_neg]
 rintro ⟨rfl,_⟩
 exact hs hd
theorem aR.bI {wr:List Nat} {f:AF} {o:Oper} (v:Option Value) (hd: ∀d,o.dst=some d→d∈wr):aR wr f (Vc.bI f o.dst v):=by
 unfold Vc.bI
 split
 ·rename_i d hdd;exact aR.aL v (hd d hdd)
 ·exact aR.refl _ _
def kJ (l:List Oper):List Nat:=l.filterMap (·.dst)
theorem dx {l:List Oper} {o:Oper} {d:Nat} (ho:o∈l) (hd:o.dst=some d):d∈kJ l:=List.mem_filterMap.2 ⟨o,ho,hd⟩
theorem wo {ops:Array Oper} {j d:Nat} (h:(ops[j]?).bind (·.dst)=some d):d∈kJ ops.toList:=by
 cases ho:ops[j]? with
 |none=>rw [ho] at h;cases h
 |some o=>rw [ho] at h;exact dx (by simpa using Array.mem_of_getElem? ho) h
theorem rF {P:Program} {ops:Array Oper} {K:AF→World→Prop}: ∀(l:List Oper) (f:AF) (w:World),(∀o∈l,o∈ops.toList)→dg P ops l f w K→
  dg P ops l f w fun f' w'=>K f' w'∧aR (kJ ops.toList) f f'
 | [],f,w,_,h=>⟨h,aR.refl _ _⟩
 |o::rest,f,w,hl,h=>by
  have ho:=hl o (by simp)
  have hr: ∀o∈rest,o∈ops.toList:=fun o' h'=>hl o' (by simp [h'])
  have dst: ∀(g:AF) (v:Option Value) (w':World),aR (kJ ops.toList) f g→dg P ops rest (bI g o.dst v) w' K→
    dg P ops rest (bI g o.dst v) w' fun f' w'=>K f' w'∧aR (kJ ops.toList) f f':=by
   intro g v w' hg h
   have h2:=rF rest _ w' hr h
   have key: ∀(l:List Oper) (g:AF) (w':World) {K K':AF→World→Prop},(∀f w,K f w→K' f w)→dg P ops l g w' K→dg P ops l g w' K':=by
    intro l
    induction l with
    |nil=>intro g w' K K' hk h;exact hk _ _ h
    |cons o l ih=>
     intro g w' K K' hk h
     simp only [dg] at h⊢
     split at h
     ·exact dP (fun v w h=>ih _ _ hk h) h
     ·split at h
      ·exact h.elim
      ·split at h
       ·refine mr (fun h=> ?_) (fun h=> ?_) h
        ·split at h
         ·exact dP (fun v w h=>ih _ _ hk h) h
         ·exact ih _ _ hk h
        ·split at h
         ·exact dP (fun v w h=>ih _ _ hk h) h
         ·exact ih _ _ hk h
       ·exact ih _ _ hk h
       ·exact h.elim
   exact key rest _ w' (fun f' w' h=>⟨h.1,(hg.trans (aR.bI v fun d hd=>dx ho hd)).trans h.2⟩) h2
  simp only [dg] at h⊢
  split at h
  ·exact dP (fun v w h=>dst f v w (aR.refl _ _) h) h
  ·split at h
   ·exact h.elim
   ·rename_i d hd
    have hdm:=wo hd
    split at h
    ·refine mr (fun h=> ?_) (fun h=> ?_) h
     ·split at h
      ·exact dP (fun v w h=>dst _ v w (aR.aL _ hdm) h) h
      ·exact dst _ _ w (aR.aL _ hdm) h
     ·split at h
      ·exact dP (fun v w h=>dst _ v w (aR.aL _ hdm) h) h
      ·exact dst _ _ w (aR.aL _ hdm) h
    ·exact dst f _ w (aR.refl _ _) h
    ·exact h.elim
theorem fF {ops:Array Oper} {o:Oper} {f:AF} {go skip go' skip':AF→Prop} (h1: ∀g,aR (kJ ops.toList) f g→go g→go' g) (h2: ∀g,aR (kJ ops.toList) f g→skip g→skip' g)
  (h:guarded ops o f go skip):guarded ops o f go' skip':=by
 unfold guarded at h⊢
 split at h
 ·exact h1 _ (aR.refl _ _) h
 ·split at h
  ·exact h.elim
  ·rename_i d hd
   have hdm:=wo hd
   split at h
   ·refine mr (fun h=> ?_) (fun h=> ?_) h
    ·split at h
     ·exact h1 _ (aR.aL _ hdm) h
     ·exact h2 _ (aR.aL _ hdm) h
    ·split at h
     ·exact h1 _ (aR.aL _ hdm) h
     ·exact h2 _ (aR.aL _ hdm) h
   ·exact h2 _ (aR.refl _ _) h
   ·exact h.elim
theorem uz {F F':Nat→Prop} (h1: ∀i,F i→F' i): ∀{l:List Nat},vg l F→vg l F'
 | [],_=>trivial
 | [i],h=>h1 i h
 |i::j::l,h=>⟨h1 i h.1,uz (l:=j::l) h1 h.2⟩
theorem iZ {P:Program} {ops:Array Oper} {S:World→Prop} {K K':AF→World→Prop} {f0:AF} (hk: ∀f w,aR (kJ ops.toList) f0 f→K f w→K' f w):
  ∀(n:Nat) (listed:Array Bool) (f:AF) (w:World),aR (kJ ops.toList) f0 f→aF P ops S K n listed f w→aF P ops S K' n listed f w
 |0,listed,f,w,hf,h=>cm (hk f w hf) h
 |n+1,listed,f,w,hf,h=>by
  unfold aF at h⊢
  split at h
  ·exact hk f w hf h
  ·split at h
   ·split at h
    ·rename_i o ho
     have hom:o∈ops.toList:=by simpa using Array.mem_of_getElem? ho
     refine fF (fun g hg h=> ?_) (fun g hg h=> ?_) h
     ·exact np (fun v h=>iZ hk n _ _ w ((hf.trans hg).trans (aR.bI v fun d hd=>dx hom hd)) h) h
     ·exact iZ hk n _ _ w ((hf.trans hg).trans (aR.bI _ fun d hd=>dx hom hd)) h
    ·exact h.elim
   ·refine uz (fun i h=> ?_) h
    split at h
    ·rename_i o ho
     have hom:o∈ops.toList:=by simpa using Array.mem_of_getElem? ho
     refine fF (fun g hg h=> ?_) (fun g hg h=> ?_) h
     ·exact dP (fun v w h=>⟨h.1,iZ hk n _ _ w ((hf.trans hg).trans (aR.bI v fun d hd=>dx hom hd)) h.2⟩) h
     ·exact iZ hk n _ _ w ((hf.trans hg).trans (aR.bI _ fun d hd=>dx hom hd)) h
    ·exact h.elim
theorem j6 {P:Program} {ops:Array Oper} {K K':AF→World→Prop} {f0:AF} (hk: ∀f w,aR (kJ ops.toList) f0 f→K f w→K' f w):
  ∀(n:Nat) (listed:Array Bool) (f:AF) (w:World),aR (kJ ops.toList) f0 f→mZ P ops K n listed f w→mZ P ops K' n listed f w
 |0,listed,f,w,hf,h=>cm (hk f w hf) h
 |n+1,listed,f,w,hf,h=>by
  unfold mZ at h⊢
  split at h
  ·exact hk f w hf h
  ·split at h
   ·split at h
    ·rename_i o ho
     have hom:o∈ops.toList:=by simpa using Array.mem_of_getElem? ho
     refine fF (fun g hg h=> ?_) (fun g hg h=> ?_) h
     ·exact np (fun v h=>j6 hk n _ _ w ((hf.trans hg).trans (aR.bI v fun d hd=>dx hom hd)) h) h
     ·exact j6 hk n _ _ w ((hf.trans hg).trans (aR.bI _ fun d hd=>dx hom hd)) h
    ·exact h.elim
   ·split at h
    ·split at h
     ·rename_i o ho
      have hom:o∈ops.toList:=by simpa using Array.mem_of_getElem? ho
      refine cm (fun h=> ?_) h
      refine fF (fun g hg h=> ?_) (fun g hg h=> ?_) h
      ·exact dP (fun v w h=>j6 hk n _ _ w ((hf.trans hg).trans (aR.bI v fun d hd=>dx hom hd)) h) h
      ·exact j6 hk n _ _ w ((hf.trans hg).trans (aR.bI _ fun d hd=>dx hom hd)) h
     ·exact h.elim
    ·exact h.elim
theorem iq {P:Program} {ops:Array Oper} {K K':AF→World→Prop} {f0:AF} (hk: ∀f w,aR (kJ ops.toList) f0 f→K f w→K' f w):
  ∀(n:Nat) (listed:Array Bool) (f:AF) (w:World),aR (kJ ops.toList) f0 f→l5 P ops K n listed f w→l5 P ops K' n listed f w
 |0,listed,f,w,hf,h=>cm (hk f w hf) h
 |n+1,listed,f,w,hf,h=>by
  unfold l5 at h⊢
  split at h
  ·exact hk f w hf h
  ·split at h
   ·split at h
    ·rename_i o ho
     have hom:o∈ops.toList:=by simpa using Array.mem_of_getElem? ho
     refine fF (fun g hg h=> ?_) (fun g hg h=> ?_) h
     ·exact np (fun v h=>iq hk n _ _ w ((hf.trans hg).trans (aR.bI v fun d hd=>dx hom hd)) h) h
     ·exact iq hk n _ _ w ((hf.trans hg).trans (aR.bI _ fun d hd=>dx hom hd)) h
    ·exact h.elim
   ·refine uz (fun i h=> ?_) h
    split at h
    ·rename_i o ho
     have hom:o∈ops.toList:=by simpa using Array.mem_of_getElem? ho
     refine fF (fun g hg h=> ?_) (fun g hg h=> ?_) h
     ·split at h
      ·exact np (fun v h=>iq hk n _ _ w ((hf.trans hg).trans (aR.bI v fun d hd=>dx hom hd)) h) h
      ·exact dP (fun v w h=>iq hk n _ _ w ((hf.trans hg).trans (aR.bI v fun d hd=>dx hom hd)) h) h
     ·exact iq hk n _ _ w ((hf.trans hg).trans (aR.bI _ fun d hd=>dx hom hd)) h
    ·exact h.elim
theorem fN {P:Program} {ops:Array Oper} {K K':AF→World→Prop} (hk: ∀f w,K f w→K' f w): ∀(l:List Oper) (f:AF) (w:World),dg P ops l f w K→dg P ops l f w K'
 | [],f,w,h=>hk f w h
 |o::rest,f,w,h=>by
  simp only [dg] at h⊢
  split at h
  ·exact dP (fun v w h=>fN hk rest _ _ h) h
  ·split at h
   ·exact h.elim
   ·split at h
    ·refine mr (fun h=> ?_) (fun h=> ?_) h
     ·split at h
      ·exact dP (fun v w h=>fN hk rest _ _ h) h
      ·exact fN hk rest _ _ h
     ·split at h
      ·exact dP (fun v w h=>fN hk rest _ _ h) h
      ·exact fN hk rest _ _ h
    ·exact fN hk rest _ _ h
    ·exact h.elim
theorem Fx {P:Program} {ops:Array Oper} {draw:Bool} {f:AF} {w:World} {K K':AF→World→Prop} (hk: ∀f' w,aR (kJ ops.toList) f f'→K f' w→K' f' w) (h:vQ P ops draw f w K):vQ P ops draw f w K':=by
 unfold vQ at h⊢
 split at h
 ·exact fN (fun f' w' h=>hk f' w' h.2 h.1) _ _ _ (rF _ _ _ (fun _ h=>h) h)
 ·split at h
  ·exact fN (fun f' w' h=>hk f' w' h.2 h.1) _ _ _ (rF _ _ _ (fun _ h=>h) h)
  ·refine cm (fun h=> ?_) h
   split at h
   ·exact j6 (f0:=f) hk _ _ _ _ (aR.refl _ _) h
   obtain ⟨S,hS,h⟩:=h
   exact ⟨S,hS,iZ (f0:=f) hk _ _ _ _ (aR.refl _ _) h⟩
inductive nQ where
 |o|j (live:List (Nat×Ki)) (p q:nQ)|s (p q:nQ)|c (p q:nQ)|b (p:nQ)|l (live:List (Nat×Ki)) (p:nQ)
@[reducible] def kQ:List (Nat×Ki)→Type→Type
 | [],α=>α
 |(_,k)::l,α=>k.T→kQ l α
def leaf:(live:List (Nat×Ki))→kQ live (World→Prop)→AF→World→Prop
 | [],I,_,w=>I w
 |(s,k)::l,I,f,w=>match get f s with
  |some v=>k.dec v fun x=>leaf l (I x) f w
  |none=>False
def oh:(live:List (Nat×Ki))→kQ live (World→Prop)→kQ live (World→Nat)→Nat→AF→World→Prop
 | [],I,m,b,_,w=>I w∧m w<b
 |(s,k)::l,I,m,b,f,w=>match get f s with
  |some v=>k.dec v fun x=>oh l (I x) (m x) b f w
  |none=>False
def xR:(live:List (Nat×Ki))→kQ live (World→Prop)→kQ live (World→Nat)→AF→((World→Prop)→(World→Nat)→AF→Prop)→Prop
 | [],I,m,f,body=>body I m f
 |(s,k)::l,I,m,f,body=> ∀x:k.T,xR l (I x) (m x) (aL f s (some (k.enc x))) body
def zV:(live:List (Nat×Ki))→AF→(AF→World→Prop)→kQ live (World→Prop)
 | [],f,g=>g f
 |(s,k)::l,f,g=>fun x=>zV l (aL f s (some (k.enc x))) g
def writes:Code→List Nat
 | .region _ ops _=>kJ ops.toList
 | .seq a b=>writes a++writes b
 | .cond _ a b=>writes a++writes b
 | .block _ a=>writes a
 | .loop a=>writes a
 | .scope a=>writes a
 |_=> []
def forget:List Nat→AF→AF
 | [],f=>f
 |d::l,f=>aL (forget l f) d none
def HY (live:List (Nat×Ki)) (wr:List Nat):Bool:=live.all fun x=>wr.contains x.1
def tP (next:AF→World→Prop) (Q:Exit→AF→World→Prop):Exit→AF→World→Prop
 | .normal,f,w=>next f w
 |e,f,w=>Q e f w
def Ee (id:Nat) (Q:Exit→AF→World→Prop):Exit→AF→World→Prop
 | .exit i,f,w=>match i==id with|true=>Q .normal f w|false=>Q (.exit i) f w
 |e,f,w=>Q e f w
def Lo (Q:Exit→AF→World→Prop):Exit→AF→World→Prop
 | .goto _,_,_=>False
 |e,f,w=>Q e f w
def MR:nQ→Bool
 | .b _=>true
 |_=>false
def vc (P:Program) (n:Nat):Code→nQ→(Exit→AF→World→Prop)→AF→World→Prop
 | .skip,_,Q,f,w=>Q .normal f w
 | .region _ ops d,p,Q,f,w=>match d&&MR p with
  |true=>Lh P ops f w fun f w=>Q .normal f w
  |false=>vQ P ops d f w fun f w=>Q .normal f w
 | .seq x y,.s p q,Q,f,w=>vc P n x p (tP (fun f w=>vc P n y q Q f w) Q) f w
 | .seq x y,.j live p q,Q,f,w=>
  fk (HY live (writes x)) (aQ (zV live (forget (writes x) f) fun f w=>vc P n y q Q f w) fun K=>vc P n x p (tP (fun f w=>leaf live K f w) Q) f w)
 | .cond c x y,.c p q,Q,f,w=>match ev f c with
  |some (.bool b)=>aa b (vc P n x p Q f w) (vc P n y q Q f w)
  |_=>False
 | .block id c,.b p,Q,f,w=>vc P n c p (Ee id Q) f w
 | .loop c,.l live p,Q,f,w=>
  fk (HY live (writes c)) (∃(I:kQ live (World→Prop)) (m:kQ live (World→Nat)),leaf live I f w∧
   xR live I m (forget (writes c) f) fun I0 m0 f=> ∀w,I0 w→vc P n c p (tP (fun f w'=>oh live I m (m0 w) f w') Q) f w)
 | .exit id,_,Q,f,w=>Q (.exit id) f w
 | .ret,_,Q,f,w=>Q .ret f w
 | .label _,_,Q,f,w=>Q .normal f w
 | .goto l,_,Q,f,w=>Q (.goto l) f w
 | .scope c,.b p,Q,f,w=>vc P n c p (Lo Q) f w
 |_,_,_,_,_=>False
theorem lS {f:AF} {s:Nat}: ∀{l:List Nat},s∉l→get (forget l f) s=get f s
 | [],_=>rfl
 |d::l,h=>by
  simp only [List.mem_cons,not_or] at h
  simp only [forget]
  rw [mU,if_neg (fun hh=>h.1 hh.1.symm),lS h.2]
theorem yL {f:AF} {s:Nat}: ∀{l:List Nat},has (forget l f) s=has f s
 | []=>rfl
 |d::l=>by simp only [forget,oG,yL]
theorem tW {f:AF} {s:Nat} {v:Value}: ∀{l:List Nat},get (forget l f) s=some v→s∉l
 | [],_=>by simp
 |d::l,h=>by
  simp only [forget] at h
  rw [mU] at h
  by_cases hd:d=s∧has (forget l f) s=true
  ·rw [if_pos hd] at h;cases h
  ·rw [if_neg hd] at h
   have h2:=tW h
   simp only [List.mem_cons,not_or]
   refine ⟨fun e=> ?_,h2⟩
   subst e
   exact hd ⟨rfl,kR h⟩
theorem Rel.SQ {a:Act} {f f':AF} {wr:List Nat} (h:Rel nn dfs a f') (hf: ∀i,has f i=true→i<nn) (hs:aR wr f f'):Rel nn dfs a (forget wr f):=
 ⟨h.size,fun i hi=>hf i (by rwa [yL] at hi),h.defs,fun i v e=>by
  have hn:=tW e
  rw [lS hn] at e
  exact h.val i v (by rw [hs i hn];exact e)⟩
theorem aR.Mx {live:List (Nat×Ki)} {wr:List Nat} (hl:HY live wr=true) {s:Nat} {k:Ki} (hm:(s,k)∈live):s∈wr:=by
 have:=List.all_eq_true.1 hl _ hm
 simpa using this
theorem BD {a:Act} {f:AF} (hf:Rel nn dfs a f) {G:AF→World→Prop} {w:World}: ∀(live:List (Nat×Ki)) (g:AF),Rel nn dfs a g→
  leaf live (zV live g G) f w→∃g',Rel nn dfs a g'∧G g' w
 | [],g,hg,h=>⟨g,hg,h⟩
 |(s,k)::l,g,hg,h=>by
  simp only [leaf] at h
  split at h
  ·rename_i v hv
   obtain ⟨x,rfl,h1⟩:=Ki.dz h
   exact BD hf l _ (hg.known hf hv) h1
  ·exact h.elim
theorem Ki.oT {k:Ki} {x:k.T} {K:k.T→Prop}:k.dec (k.enc x) K↔K x:=by
 cases k with
 |sc s=>exact Vc.oT
 |st l=>exact pY
 |arr n=>exact Iff.rfl
def Sc.rd:(s:Sc)→Value→Option s.T
 | .int k,.int k' n=>if k=k' then some n else none
 | .bool,.bool b=>some b
 | .ptr,.pointer p=>some p
 | .sl,.slice b l c=>some ⟨b,l,c⟩
 | .str,.string s=>some s
 | .mp,.map m=>some m
 | .any,v=>some v
 | .addr,.pointer (some p)=>some p
 |_,_=>none
def OM:(l:List Sc)→List Value→Option (TT l)
 | [],_=>some ()
 |s::l,v::vs=>match s.rd v,OM l vs with
  |some x,some y=>some (x,y)
  |_,_=>none
 |_::_,[]=>none
def Ki.rd:(k:Ki)→Value→Option k.T
 | .sc s,v=>s.rd v
 | .st l,.agg cs=>OM l cs.toList
 | .arr _,.agg cs=>some cs
 |_,_=>none
theorem Sc.vo {s:Sc} (x:s.T):s.rd (s.enc x)=some x:=by cases s<;>simp [Sc.rd,Sc.enc]
theorem EE: ∀{l:List Sc} (x:TT l),OM l (gA l x)=some x
 | [],()=>rfl
 |s::l,(x,y)=>by simp [OM,Sc.vo,EE]
theorem Ki.vo {k:Ki} (x:k.T):k.rd (k.enc x)=some x:=by
 cases k with
 |sc s=>exact Sc.vo x
 |st l=>exact EE x
 |arr n=>rfl
def vU (a:Act) (w:World):(live:List (Nat×Ki))→kQ live (World→Nat)→Nat
 | [],m=>m w
 |(s,k)::l,m=>match k.rd (a.tmps.getD s undef) with
  |some x=>vU a w l (m x)
  |none=>0
theorem CA {a:Act} {f:AF} (hf:Rel nn dfs a f) {body:(World→Prop)→(World→Nat)→AF→Prop} {w:World}:
  ∀(l:List (Nat×Ki)) (I:kQ l (World→Prop)) (m:kQ l (World→Nat)) (g:AF),Rel nn dfs a g→leaf l I f w→xR l I m g body→
   ∃I0 m0 g',Rel nn dfs a g'∧I0 w∧body I0 m0 g'∧vU a w l m=m0 w
 | [],I,m,g,hg,h,ha=>⟨I,m,g,hg,h,ha,rfl⟩
 |(s,k)::l,I,m,g,hg,h,ha=>by
  simp only [leaf] at h
  split at h
  ·rename_i v hv
   obtain ⟨x,hx,h1⟩:=Ki.dz h
   obtain ⟨I0,m0,g',h2,h4,h5,h6⟩:=CA hf l (I x) (m x) _ (hg.known hf (by rw [hv,hx])) h1 (ha x)
   refine ⟨I0,m0,g',h2,h4,h5,?_⟩
   have:=hf.val s v hv
   simp only [vU,this,hx,Ki.vo]
   exact h6
  ·exact h.elim
theorem zI {f:AF} {w:World} {b:Nat}: ∀{live:List (Nat×Ki)} {I:kQ live (World→Prop)} {m:kQ live (World→Nat)},oh live I m b f w→leaf live I f w
 | [],I,m,h=>h.1
 |(s,k)::l,I,m,h=>by
  simp only [oh] at h
  simp only [leaf]
  split at h
  ·rename_i v hv
   obtain ⟨x,hx,h1⟩:=Ki.dz h
   simp only [hx]
   exact Ki.oT.2 (zI h1)
  ·exact h.elim
def Uk {nn:Nat} {dfs:List Deferred} (Q:Exit→AF→World→Prop) (e:Exit) (a:Act) (w:World):Prop:= ∃f,Rel nn dfs a f∧Q e f w
theorem zF {a:Act} {f:AF} (hf:Rel nn dfs a f) {b:Nat} {w:World}: ∀{live:List (Nat×Ki)} {I:kQ live (World→Prop)} {m:kQ live (World→Nat)},oh live I m b f w→vU a w live m<b
 | [],I,m,h=>h.2
 |(s,k)::l,I,m,h=>by
  simp only [oh] at h
  split at h
  ·rename_i v hv
   obtain ⟨x,hx,h1⟩:=Ki.dz h
   have:=hf.val s v hv
   simp only [vU,this,hx,Ki.vo]
   exact zF hf h1
  ·exact h.elim
theorem BH {wr:List Nat} {f0:AF} {body:(World→Prop)→(World→Nat)→AF→Prop}: ∀{l:List (Nat×Ki)} {I:kQ l (World→Prop)} {m:kQ l (World→Nat)} {g:AF},
  (∀s k,(s,k)∈l→s∈wr)→aR wr f0 g→xR l I m g body→xR l I m g fun I m g=>aR wr f0 g∧body I m g
 | [],_,_,_,_,hg,h=>⟨hg,h⟩
 |(s,k)::l,_,_,_,hm,hg,h=>fun x=>BH (fun s' k' hk=>hm s' k' (by simp [hk])) (hg.trans (aR.aL _ (hm s k (by simp)))) (h x)
theorem gB {P:Program} {n:Nat}: ∀(c:Code) (p:nQ) {Q Q':Exit→AF→World→Prop} {f0:AF} (_: ∀e f w,aR (writes c) f0 f→Q e f w→Q' e f w) (w:World),vc P n c p Q f0 w→vc P n c p Q' f0 w
 | .skip,_,_,_,_,hq,w,h=>hq _ _ _ (aR.refl _ _) h
 | .region _ ops d,p,_,_,_,hq,w,h=>by
  unfold vc at h⊢
  cases hd:(d&&MR p) with
  |true=>
   rw [hd] at h
   exact cm (fun h=>iq (fun f w hs h=>hq _ f w hs h) _ _ _ _ (aR.refl _ _) h) h
  |false=>
   rw [hd] at h
   exact Fx (fun f w hs h=>hq _ f w hs h) h
 | .seq x y,.s p q,Q,Q',f0,hq,w,h=>by
  refine gB x p (fun e f w hs h=> ?_) w h
  have hs':aR (writes (.seq x y)) f0 f:=hs.mono fun s h=>List.mem_append.2 (.inl h)
  cases e with
  |normal=>exact gB y q (fun e f' w hs2 h=>hq e f' w (hs'.trans (hs2.mono fun s h=>List.mem_append.2 (.inr h))) h) w h
  |_=>exact hq _ f w hs' h
 | .seq x y,.j live p q,Q,Q',f0,hq,w,h=>by
  obtain ⟨hl,h⟩:=bw h
  unfold vc
  rw [hl]
  unfold aQ at h
  show aQ _ _
  unfold aQ
  refine gB x p (fun e f w hs h=> ?_) w h
  have hs':aR (writes (.seq x y)) f0 f:=hs.mono fun s h=>List.mem_append.2 (.inl h)
  cases e with
  |normal=>
   have key: ∀(l:List (Nat×Ki)) (g:AF),(∀s k,(s,k)∈l→s∈writes x)→aR (writes x) f0 g→leaf l (zV l g fun f w=>vc P n y q Q f w) f w→leaf l (zV l g fun f w=>vc P n y q Q' f w) f w:=by
    intro l
    induction l with
    |nil=>intro g _ hg h;exact gB y q (fun e f' w hs2 h=>hq e f' w ((hg.mono fun s h=>List.mem_append.2 (.inl h)).trans (hs2.mono fun s h=>List.mem_append.2 (.inr h))) h) w h
    |cons a l ih=>
     intro g hm hg h
     obtain ⟨s,k⟩:=a
     simp only [leaf] at h⊢
     split at h
     ·exact Ki.tD (fun x h=>ih _ (fun s' k' hk=>hm s' k' (by simp [hk])) (hg.trans (aR.aL _ (hm s k (by simp)))) h) h
     ·exact h.elim
   refine key live _ (fun s k hk=>aR.Mx hl hk) (fun s hs=>lS hs) h
  |_=>exact hq _ f w hs' h
 | .cond c x y,.c p q,Q,Q',f0,hq,w,h=>by
  unfold vc at h⊢
  split at h
  ·exact mr (gB x p (fun e f w hs h=>hq e f w (hs.mono fun s h=>List.mem_append.2 (.inl h)) h) w) (gB y q (fun e f w hs h=>hq e f w (hs.mono fun s h=>List.mem_append.2 (.inr h)) h) w) h
  ·exact h.elim
 | .block id c,.b p,Q,Q',f0,hq,w,h=>by
  refine gB c p (fun e f w hs h=> ?_) w h
  cases e with
  |exit i=>
   simp only [Ee] at h⊢
   split at h
   ·exact hq _ f w hs h
   ·exact hq _ f w hs h
  |_=>exact hq _ f w hs h
 | .loop c,.l live p,Q,Q',f0,hq,w,h=>by
  obtain ⟨hl,I,m,h0,h1⟩:=bw h
  unfold vc
  rw [hl]
  refine ⟨I,m,h0,?_⟩
  have key: ∀(l:List (Nat×Ki)) (I0:kQ l (World→Prop)) (m0:kQ l (World→Nat)) (g:AF),(∀s k,(s,k)∈l→s∈writes c)→aR (writes c) f0 g→
    xR l I0 m0 g (fun I0 m0 f=> ∀w,I0 w→vc P n c p (tP (fun f w'=>oh live I m (m0 w) f w') Q) f w)→
    xR l I0 m0 g (fun I0 m0 f=> ∀w,I0 w→vc P n c p (tP (fun f w'=>oh live I m (m0 w) f w') Q') f w):=by
   intro l
   induction l with
   |nil=>
    intro I0 m0 g _ hg h w hI
    refine gB c p (fun e f' w hs2 h=> ?_) w (h w hI)
    cases e with
    |normal=>exact h
    |_=>exact hq _ f' w (hg.trans hs2) h
   |cons a l ih=>
    intro I0 m0 g hm hg h x
    obtain ⟨s,k⟩:=a
    exact ih _ _ _ (fun s' k' hk=>hm s' k' (by simp [hk])) (hg.trans (aR.aL _ (hm s k (by simp)))) (h x)
  exact key live I m _ (fun s k hk=>aR.Mx hl hk) (fun s hs=>lS hs) h1
 | .exit id,_,_,_,_,hq,w,h=>hq _ _ _ (aR.refl _ _) h
 | .ret,_,_,_,_,hq,w,h=>hq _ _ _ (aR.refl _ _) h
 | .label _,_,_,_,_,hq,w,h=>hq _ _ _ (aR.refl _ _) h
 | .seq _ _,.o,_,_,_,_,_,h=>h.elim
 | .seq _ _,.c _ _,_,_,_,_,_,h=>h.elim
 | .seq _ _,.b _,_,_,_,_,_,h=>h.elim
 | .seq _ _,.l _ _,_,_,_,_,_,h=>h.elim
 | .cond _ _ _,.o,_,_,_,_,_,h=>h.elim
 | .cond _ _ _,.j _ _ _,_,_,_,_,_,h=>h.elim
 | .cond _ _ _,.s _ _,_,_,_,_,_,h=>h.elim
 | .cond _ _ _,.b _,_,_,_,_,_,h=>h.elim
 | .cond _ _ _,.l _ _,_,_,_,_,_,h=>h.elim
 | .block _ _,.o,_,_,_,_,_,h=>h.elim
 | .block _ _,.j _ _ _,_,_,_,_,_,h=>h.elim
 | .block _ _,.s _ _,_,_,_,_,_,h=>h.elim
 | .block _ _,.c _ _,_,_,_,_,_,h=>h.elim
 | .block _ _,.l _ _,_,_,_,_,_,h=>h.elim
 | .loop _,.o,_,_,_,_,_,h=>h.elim
 | .loop _,.j _ _ _,_,_,_,_,_,h=>h.elim
 | .loop _,.s _ _,_,_,_,_,_,h=>h.elim
 | .loop _,.c _ _,_,_,_,_,_,h=>h.elim
 | .loop _,.b _,_,_,_,_,_,h=>h.elim
 | .rangeFunc _ _ _ _,_,_,_,_,_,_,h=>h.elim
 | .goto _,_,_,_,_,hq,w,h=>hq _ _ _ (aR.refl _ _) h
 | .scope c,.b p,Q,Q',f0,hq,w,h=>by
  refine gB c p (fun e f w hs h=> ?_) w h
  cases e with
  |goto l=>exact h
  |_=>exact hq _ f w hs h
 | .scope _,.o,_,_,_,_,_,h=>h.elim
 | .scope _,.j _ _ _,_,_,_,_,_,h=>h.elim
 | .scope _,.s _ _,_,_,_,_,_,h=>h.elim
 | .scope _,.c _ _,_,_,_,_,_,h=>h.elim
 | .scope _,.l _ _,_,_,_,_,_,h=>h.elim
 | .refuse _,_,_,_,_,_,_,h=>h.elim
theorem gj {P:Program} (hm:P.follows .mixedOrders=true): ∀(c:Code) (p:nQ) (Q:Exit→AF→World→Prop) (f:AF) (w:World) (a:Act),
  Rel nn dfs a f→vc P nn c p Q f w→c.wp P (Uk (nn:=nn) (dfs:=dfs) Q) a w
 | .skip,_,Q,f,w,a,hr,h=>wp_skip ⟨f,hr,h⟩
 | .region _ ops d,p,Q,f,w,a,hr,h=>by
  unfold vc at h
  cases hd:(d&&MR p) with
  |true=>
   rw [hd] at h
   have:d=true:=by cases d<;>simp_all
   subst this
   exact C2 hm (K:=fun f w=>Q .normal f w) (fun a f w hr h=>⟨f,hr,h⟩) hr h
  |false=>
   rw [hd] at h
   exact Jw hm (K:=fun f w=>Q .normal f w) (fun a f w hr h=>⟨f,hr,h⟩) hr h
 | .seq x y,.s p q,Q,f,w,a,hr,h=>by
  refine wp_seq (wp_mono (gj hm x p _ f w a hr h) fun e a w ⟨f',hr',h'⟩=> ?_)
  cases e with
  |normal=>exact gj hm y q Q f' w a hr' h'
  |_=>exact ⟨f',hr',h'⟩
 | .seq x y,.j live p q,Q,f,w,a,hr,h=>by
  obtain ⟨hl,h⟩:=bw h
  unfold aQ at h
  have h:=gB x p (Q':=fun e f' w=>tP (fun f' w=>leaf live (zV live (forget (writes x) f) fun f w=>vc P nn y q Q f w) f' w) Q e f' w∧aR (writes x) f f') (fun e f' w hs h=>⟨h,hs⟩) w h
  refine wp_seq (wp_mono (gj hm x p _ f w a hr h) fun e a w ⟨f',hr',h',hs⟩=> ?_)
  cases e with
  |normal=>
   obtain ⟨g',hg,h2⟩:=BD hr' live _ (hr'.SQ hr.shape hs) h'
   exact gj hm y q Q g' w a hg h2
  |_=>exact ⟨f',hr',h'⟩
 | .cond c x y,.c p q,Q,f,w,a,hr,h=>by
  unfold vc at h
  split at h
  ·rename_i b hb
   refine wp_cond (hr.ev hb) ?_
   cases b
   ·exact gj hm y q Q f w a hr h
   ·exact gj hm x p Q f w a hr h
  ·exact h.elim
 | .block id c,.b p,Q,f,w,a,hr,h=>by
  refine wp_block (wp_mono (gj hm c p _ f w a hr h) fun e a w ⟨f',hr',h'⟩=> ?_)
  cases e with
  |exit i=>
   simp only [Exit.inBlock]
   simp only [Ee] at h'
   by_cases hi:i=id
   ·subst hi;simp at h';simp only [if_true];exact ⟨f',hr',h'⟩
   ·have:(i==id)=false:=by simpa using hi
    rw [this] at h';rw [if_neg hi];exact ⟨f',hr',h'⟩
  |_=>exact ⟨f',hr',h'⟩
 | .loop c,.l live p,Q,f,w,a,hr,h=>by
  obtain ⟨hl,I,m,h0,hall⟩:=bw h
  have hsh:=hr.shape
  refine wp_loop (fun a w=> ∃f',Rel nn dfs a f'∧leaf live I f' w∧aR (writes c) f f') (fun a w=>vU a w live m) ⟨f,hr,h0,aR.refl _ _⟩ fun a w ⟨f1,hr,hI,hs⟩=> ?_
  obtain ⟨I0,m0,g,hg,h1,⟨hgs,h2⟩,h3⟩:=CA hr live I m _ (hr.SQ hsh hs) hI (BH (fun s k hk=>aR.Mx hl hk) (fun s hs=>lS hs) hall)
  have h4:=gB c p (Q':=fun e f' w'=>tP (fun f w'=>oh live I m (m0 w) f w') Q e f' w'∧aR (writes c) g f') (fun e f' w hs h=>⟨h,hs⟩) w (h2 w h1)
  refine wp_mono (gj hm c p _ g w a hg h4) fun e a' w' ⟨f',hr',h',hs'⟩=> ?_
  cases e with
  |normal=>
   refine ⟨⟨f',hr',zI h',hgs.trans hs'⟩,?_⟩
   have:=zF hr' h'
   simp only [h3]
   exact this
  |_=>exact ⟨f',hr',h'⟩
 | .exit id,_,Q,f,w,a,hr,h=>wp_exit ⟨f,hr,h⟩
 | .ret,_,Q,f,w,a,hr,h=>wp_ret ⟨f,hr,h⟩
 | .label _,_,Q,f,w,a,hr,h=>wp_label ⟨f,hr,h⟩
 | .seq _ _,.o,_,_,_,_,_,h=>h.elim
 | .seq _ _,.c _ _,_,_,_,_,_,h=>h.elim
 | .seq _ _,.b _,_,_,_,_,_,h=>h.elim
 | .seq _ _,.l _ _,_,_,_,_,_,h=>h.elim
 | .cond _ _ _,.o,_,_,_,_,_,h=>h.elim
 | .cond _ _ _,.j _ _ _,_,_,_,_,_,h=>h.elim
 | .cond _ _ _,.s _ _,_,_,_,_,_,h=>h.elim
 | .cond _ _ _,.b _,_,_,_,_,_,h=>h.elim
 | .cond _ _ _,.l _ _,_,_,_,_,_,h=>h.elim
 | .block _ _,.o,_,_,_,_,_,h=>h.elim
 | .block _ _,.j _ _ _,_,_,_,_,_,h=>h.elim
 | .block _ _,.s _ _,_,_,_,_,_,h=>h.elim
 | .block _ _,.c _ _,_,_,_,_,_,h=>h.elim
 | .block _ _,.l _ _,_,_,_,_,_,h=>h.elim
 | .loop _,.o,_,_,_,_,_,h=>h.elim
 | .loop _,.j _ _ _,_,_,_,_,_,h=>h.elim
 | .loop _,.s _ _,_,_,_,_,_,h=>h.elim
 | .loop _,.c _ _,_,_,_,_,_,h=>h.elim
 | .loop _,.b _,_,_,_,_,_,h=>h.elim
 | .rangeFunc _ _ _ _,_,_,_,_,_,_,h=>h.elim
 | .goto _,_,Q,f,w,a,hr,h=>wp_goto ⟨f,hr,h⟩
 | .scope c,.b p,Q,f,w,a,hr,h=>by
  refine wp_scope_straight (wp_mono (gj hm c p _ f w a hr h) fun e a w ⟨f',hr',h'⟩=> ?_)
  cases e with
  |goto l=>exact h'.elim
  |_=>exact ⟨f',hr',h'⟩
 | .scope _,.o,_,_,_,_,_,h=>h.elim
 | .scope _,.j _ _ _,_,_,_,_,_,h=>h.elim
 | .scope _,.s _ _,_,_,_,_,_,h=>h.elim
 | .scope _,.c _ _,_,_,_,_,_,h=>h.elim
 | .scope _,.l _ _,_,_,_,_,_,h=>h.elim
 | .refuse _,_,_,_,_,_,_,h=>h.elim
def qC (args:List Value) (n:Nat):AF:=ud 12 n fun i=>some (args.getD i undef)
def xx (P:Program):(rs:List ResultVar)→(f:AF)→World→List Value→(List Value→Prop)→Prop
 | [],_,_,acc,K=>K acc
 | .tmp t::rs,f,w,acc,K=>match get f t with
  |some v=>xx P rs f w (acc++ [v]) K
  |none=>False
 | .cell x t::rs,f,w,acc,K=>match get f x,eN P t with
  |some (.pointer (some p)),some k=>fk (I4 P t) (Ld k p w fun v=>xx P rs f w (acc++ [k.enc v]) K)
  |_,_=>False
def xg (P:Program) (rs:List ResultVar) (ks:List Ki) (K:mo ks (World→Prop)):Exit→AF→World→Prop
 | .normal,f,w| .ret,f,w=>xx P rs f w [] fun vs=>nH ks (mj vs) K w
 |_,_,_=>False
def zf (tmps:Array Value):ResultVar→Sem Value
 | .tmp t=>pure (tmps.getD t undef)
 | .cell a t=>do loadVar t (←asAddr (tmps.getD a undef))
theorem tJ {P:Program} {f:AF} {w:World} {a:Act} (hr:Rel nn dfs a f) {K:List Value→Prop}: ∀(rs:List ResultVar) (acc:List Value),xx P rs f w acc K→
  ∃vs,(rs.mapM (zf a.tmps)).run P w= .ok vs w∧K (acc++vs)
 | [],acc,h=>⟨[],by simp,by rw [List.append_nil];exact h⟩
 | .tmp t::rs,acc,h=>by
  simp only [xx] at h
  split at h
  ·rename_i v hv
   obtain ⟨vs,h1,h2⟩:=tJ hr rs _ h
   have:=hr.val t v hv
   exact ⟨v::vs,by simp only [List.mapM_cons,Sem.run_bind,zf,this,Sem.run_pure,Result.andThen_ok];rw [h1];rfl,by simpa using h2⟩
  ·exact h.elim
 | .cell x t::rs,acc,h=>by
  simp only [xx] at h
  split at h
  ·rename_i p k hx hk
   obtain ⟨ho,h0⟩:=bw h
   obtain ⟨v,hv,h1⟩:=yn hk ho h0
   obtain ⟨vs,h2,h3⟩:=tJ hr rs _ h1
   have:=hr.val x _ hx
   exact ⟨k.enc v::vs,by simp only [List.mapM_cons,Sem.run_bind,zf,this,asAddr,Sem.run_pure,Result.andThen_ok,hv w rfl];rw [h2];rfl,by simpa using h3⟩
  ·exact h.elim
theorem I2 (fn:Func) (tmps:Array Value):results fn tmps=(do let vs←fn.results.mapM (zf tmps);pure (if h:vs.size=1 then vs[0] else .tuple vs)):=by
 unfold results
 congr 2
theorem CL {P:Program} {i:FuncId} {fn:Func} {c:Code} {args:List Value} {w:World} {ks:List Ki} {K:mo ks (World→Prop)} (n:Nat) (rs:List ResultVar)
  (hf:P.funcs[i]? =some fn) (hb:fn.body=some c) (hn:fn.ntmps=n) (hl:args.length≤n) (hrs:fn.results.toList=rs)
  (h: ∀a,Rel n [] a (qC args n)→c.wp P (Uk (nn:=n) (dfs:= []) (xg P rs ks K)) a w):Cl P ks i ⟨args⟩ w K:=by
 refine calls_of_wp hf hb ?_
 subst hn;subst hrs
 have hsz:((⟨args⟩:Array Value)++Array.replicate (fn.ntmps - (⟨args⟩:Array Value).size) undef).size=fn.ntmps:=by simp;omega
 have hr:Rel fn.ntmps [] {tmps:=(⟨args⟩:Array Value)++Array.replicate (fn.ntmps - (⟨args⟩:Array Value).size) undef,defers:= []} (qC args fn.ntmps):=by
  refine ⟨hsz,fun i hi=>v8 _ _ _ _ hi,rfl,fun i v hv=> ?_⟩
  have h1:=AI _ _ _ _ _ hv
  simp only [Option.some.injEq] at h1
  have hi:i<fn.ntmps:=v8 _ _ _ _ (kR hv)
  simp only [Array.getD_eq_getD_getElem?]
  have h2:((⟨args⟩:Array Value)++Array.replicate (fn.ntmps - (⟨args⟩:Array Value).size) undef)[i]? =(args++List.replicate (fn.ntmps - args.length) undef)[i]? :=by
   rw [←Array.getElem?_toList]
   simp
  rw [h2,←h1]
  by_cases ha:i<args.length
  ·simp [List.getElem?_append_left ha,List.getD_eq_getElem?_getD]
  ·rw [List.getElem?_append_right (by omega),List.getElem?_replicate]
   rw [if_pos (by omega)]
   simp [List.getD_eq_getElem?_getD,List.getElem?_eq_none (by omega:args.length≤i)]
 refine wp_mono (h _ hr) fun e a w' ⟨f,hr,hq⟩=> ?_
 have fin:(xx P fn.results.toList f w' [] fun vs=>nH ks (mj vs) K w')→a.defers= []∧∃v,(results fn a.tmps).run P w'= .ok v w'∧vZ ks K (.returned v) w':=by
  intro hq
  obtain ⟨vs,h1,h2⟩:=tJ hr _ _ hq
  refine ⟨hr.defs,mj vs,?_,h2⟩
  rw [I2,Array.mapM_eq_mapM_toList]
  simp only [Sem.run_bind,Sem.run_map,h1,Result.andThen_ok,Sem.run_pure]
  congr 1
  match vs with
  | []=>rfl
  | [v]=>rfl
  |a::b::l=>simp [mj]
 cases e<;>first|exact fin hq|exact hq.elim
theorem Fs {P:Program} (hm:P.follows .mixedOrders=true) {i:FuncId} {fn:Func} {c:Code} {args:List Value} {w:World} {ks:List Ki} {K:mo ks (World→Prop)} (n:Nat) (rs:List ResultVar)
  (hf:P.funcs[i]? =some fn) (hb:fn.body=some c) (hn:fn.ntmps=n) (hl:args.length≤n) (hrs:fn.results.toList=rs) (p:nQ) (h:vc P n c p (xg P rs ks K) (qC args n) w):Cl P ks i ⟨args⟩ w K:=
 CL n rs hf hb hn hl hrs fun a hr=>gj hm c p _ _ w a hr h
theorem qS {P:Program} (hm:P.follows .mixedOrders=true) {i:FuncId} {w:World} {F:Prop} (fn:Func) (args:List Value) (ks:List Ki) (K:mo ks (World→Prop)) (n:Nat) (rs:List ResultVar)
  (hf:P.funcs[i]? =some fn) (hb:fn.body=some (fn.body.getD .skip)) (hn:fn.ntmps=n) (hl:Nat.ble args.length n=true) (hrs:fn.results.toList=rs) (p:nQ)
  (he:vc P n (fn.body.getD .skip) p (xg P rs ks K) (qC args n) w=F) (h:F):Cl P ks i ⟨args⟩ w K:=
 Fs hm n rs hf hb hn (Nat.le_of_ble_eq_true hl) hrs p (he▸h)
abbrev i64 (x:Int):Int:=IntKind.i64.wrap x
abbrev i32 (x:Int):Int:=IntKind.i32.wrap x
abbrev u64 (x:Int):Int:=IntKind.u64.wrap x
abbrev u32 (x:Int):Int:=IntKind.u32.wrap x
abbrev u16 (x:Int):Int:=IntKind.u16.wrap x
abbrev u8 (x:Int):Int:=IntKind.u8.wrap x
abbrev kI:Ki:= .sc (.int .i64)
abbrev kB:Ki:= .sc .bool
abbrev kP:Ki:= .sc .ptr
abbrev kS:Ki:= .sc .sl
abbrev kM:Ki:= .sc .mp
abbrev kV:Ki:= .sc .any
abbrev ao (k:IntKind):Ki:= .sc (.int k)
@[reducible] def Vj (w:World) (B:(World→Prop)→(World→Nat)→World→Prop):Prop:=
 ∃(I:World→Prop) (m:World→Nat),I w∧∀w,I w→B I m w
@[reducible] def ee {α:Type} (a:α) (w:World) (B:(α→World→Prop)→(α→World→Nat)→α→World→Prop):Prop:=
 ∃(I:α→World→Prop) (m:α→World→Nat),I a w∧∀a w,I a w→B I m a w
@[reducible] def cp {α β:Type} (a:α) (b:β) (w:World) (B:(α→β→World→Prop)→(α→β→World→Nat)→α→β→World→Prop):Prop:=
 ∃(I:α→β→World→Prop) (m:α→β→World→Nat),I a b w∧∀a b w,I a b w→B I m a b w
@[reducible] def BE {α β γ:Type} (a:α) (b:β) (c:γ) (w:World) (B:(α→β→γ→World→Prop)→(α→β→γ→World→Nat)→α→β→γ→World→Prop):Prop:=
 ∃(I:α→β→γ→World→Prop) (m:α→β→γ→World→Nat),I a b c w∧∀a b c w,I a b c w→B I m a b c w
@[reducible] def ni (x:Int):Value:= .int .i64 x
@[reducible] def an (s:Sl):Value:= .slice s.base s.len s.cap
def MK (n:Nat):List (Nat×List (Nat×Ki))→Option (List (Nat×Ki))
 |(k,l)::_=>match Nat.beq k n with|true=>some l|false=>none
 | []=>none
def Jl (n:Nat):List (Nat×List (Nat×Ki))→List (Nat×List (Nat×Ki))
 |(k,l)::L=>match Nat.beq k n with|true=>L|false=>(k,l)::L
 | []=> []
def yE:Code→Nat→List (Nat×List (Nat×Ki))→nQ×Nat×List (Nat×List (Nat×Ki))
 | .seq a b,n,L=>match yE a (n+1) (Jl n L) with
  |(p,n1,L1)=>match yE b n1 L1 with
   |(q,n2,L2)=>((match MK n L with|some l=> .j l p q|none=> .s p q),n2,L2)
 | .loop a,n,L=>match yE a (n+1) (Jl n L) with
  |(p,n1,L1)=>((match MK n L with|some l=> .l l p|none=> .o),n1,L1)
 | .region _ _ _,n,L=>((match MK n L with|some _=> .b .o|none=> .o),n+1,Jl n L)
 | .cond _ a b,n,L=>match yE a n L with
  |(p,n1,L1)=>match yE b n1 L1 with
   |(q,n2,L2)=>(.c p q,n2,L2)
 | .block _ a,n,L=>match yE a n L with
  |(p,n1,L1)=>(.b p,n1,L1)
 | .scope a,n,L=>match yE a n L with
  |(p,n1,L1)=>(.b p,n1,L1)
 |_,n,L=>(.o,n,L)
end
end Go.Vc
