/- Texts packed together by program; spaces struck by program. Conditions: as each theorem states. -/
import Derived.Laws.AppendOwn
import Derived.Laws.BytesArg
import Derived.Laws.IdiomStrings
import Derived.Laws.MakeOwn
import Derived.Lib.BytesEntry
import Derived.MapKept
import Derived.Shelf.SlSortCmp.NoneTotal
import Derived.Test.YtcdpblipagajiaaGreatQhb
set_option linter.unusedSimpArgs false
set_option linter.unusedVariables false
set_option maxRecDepth 20000
namespace Go.Tab
open Go.Inc
structure TS where
 l:List Nat
 bits:Nat
 now:Nat
 way:Nat
def t0:TS:=⟨[],0,0,0⟩
def bh (ok:List Nat→Bool) (s:TS) (b:Nat):sH TS (List Nat) Nat:=
 if s.bits<4 then .more ⟨s.l,s.bits+1,2*s.now+b,s.way⟩
 else if s.bits=4 then
  if b=0 then
   if s.l.length+1<258 then .more ⟨s.l++ [s.now],4,s.now,0⟩
   else if ok (s.l++ [s.now]) then .fin (s.l++ [s.now]) else .bad 100
  else .more ⟨s.l,5,s.now,s.way⟩
 else if b=0 then
  if s.way≠2∧s.now<15 then .more ⟨s.l,4,s.now+1,1⟩ else .bad 100
 else if s.way≠1∧0<s.now then .more ⟨s.l,4,s.now - 1,2⟩ else .bad 100
def nj:Nat→List Nat
 |0=> []
 |k+1=>1::0::nj k
def fR:Nat→List Nat
 |0=> []
 |k+1=>1::1::fR k
def cC (was now:Nat):List Nat:=(if now<was then fR (was - now) else nj (now - was))++ [0]
def cT:Nat→List Nat→List Nat
 |_,[]=> []
 |was,n::l=>cC was n++cT n l
def four (n:Nat):List Nat:= [n/8 % 2,n/4 % 2,n/2 % 2,n % 2]
def du (l:List Nat):List Nat:=four (l.headD 0)++cT (l.headD 0) l
section
variable {ok:List Nat→Bool}
theorem AG: ∀(k:Nat) (l:List Nat) (now way:Nat) (r:List Nat),way≠2→now+k≤15→∃way',run (bh ok) ⟨l,4,now,way⟩ (nj k++r)=run (bh ok) ⟨l,4,now+k,way'⟩ r
 |0,l,now,way,r,_,_=>⟨way,rfl⟩
 |k+1,l,now,way,r,hw,hk=>by
  obtain ⟨way',h⟩:=AG k l (now+1) 1 r (by decide) (by omega)
  refine ⟨way',?_⟩
  have h1:bh ok ⟨l,4,now,way⟩ 1= .more ⟨l,5,now,way⟩:=rfl
  have h2:bh ok ⟨l,5,now,way⟩ 0= .more ⟨l,4,now+1,1⟩:=by
   simp only [bh]
   rw [if_neg (by decide),if_neg (by decide),if_pos trivial,if_pos ⟨hw,by omega⟩]
  show run (bh ok) ⟨l,4,now,way⟩ (1::0::(nj k++r))=_
  rw [bD h1,bD h2,h,show now+1+k=now+(k+1) by omega]
theorem vv: ∀(k:Nat) (l:List Nat) (now way:Nat) (r:List Nat),way≠1→k≤now→∃way',run (bh ok) ⟨l,4,now,way⟩ (fR k++r)=run (bh ok) ⟨l,4,now - k,way'⟩ r
 |0,l,now,way,r,_,_=>⟨way,rfl⟩
 |k+1,l,now,way,r,hw,hk=>by
  obtain ⟨way',h⟩:=vv k l (now - 1) 2 r (by decide) (by omega)
  refine ⟨way',?_⟩
  have h1:bh ok ⟨l,4,now,way⟩ 1= .more ⟨l,5,now,way⟩:=rfl
  have h2:bh ok ⟨l,5,now,way⟩ 1= .more ⟨l,4,now - 1,2⟩:=by
   simp only [bh]
   rw [if_neg (by decide),if_neg (by decide),if_neg (by decide),if_pos ⟨hw,by omega⟩]
  show run (bh ok) ⟨l,4,now,way⟩ (1::1::(fR k++r))=_
  rw [bD h1,bD h2,h,show now - 1 - k=now - (k+1) by omega]
theorem GP (l:List Nat) (was n:Nat) (r:List Nat) (h1:was≤15) (h2:n≤15): ∃way,run (bh ok) ⟨l,4,was,0⟩ (cC was n++r)=run (bh ok) ⟨l,4,n,way⟩ (0::r):=by
 unfold cC
 rw [List.append_assoc]
 split
 ·obtain ⟨way,h⟩:=vv (ok:=ok) (was - n) l was 0 ([0]++r) (by decide) (by omega)
  exact ⟨way,by rw [h,show was - (was - n)=n by omega];rfl⟩
 ·obtain ⟨way,h⟩:=AG (ok:=ok) (n - was) l was 0 ([0]++r) (by decide) (by omega)
  exact ⟨way,by rw [h,show was+(n - was)=n by omega];rfl⟩
theorem yl: ∀(m:List Nat) (l:List Nat) (was:Nat) (r:List Nat),m≠ []→was≤15→(∀x∈m,x≤15)→l.length+m.length=258→ok (l++m)=true→run (bh ok) ⟨l,4,was,0⟩ (cT was m++r)= .fin (l++m) r
 | [],_,_,_,h,_,_,_,_=>absurd rfl h
 |n::m,l,was,r,_,hw,hm,hl,hok=>by
  rw [cT,List.append_assoc]
  obtain ⟨way,h⟩:=GP (ok:=ok) l was n (cT n m++r) hw (hm n List.mem_cons_self)
  rw [h]
  cases m with
  |nil=>
   refine lG ?_
   simp only [List.length_cons,List.length_nil] at hl
   simp only [bh]
   rw [if_neg (by decide),if_pos trivial,if_pos trivial,if_neg (by omega),if_pos hok]
  |cons x m=>
   simp only [List.length_cons] at hl
   have h1:bh ok ⟨l,4,n,way⟩ 0= .more ⟨l++ [n],4,n,0⟩:=by
    simp only [bh]
    rw [if_neg (by decide),if_pos trivial,if_pos trivial,if_pos (by omega)]
   rw [bD h1,yl (x::m) (l++ [n]) n r (by simp) (hm n List.mem_cons_self) (fun y hy=>hm y (List.mem_cons_of_mem _ hy)) (by simp;omega) (by rw [List.append_assoc];exact hok),List.append_assoc]
   rfl
theorem nd {l:List Nat} (r:List Nat) (hl:l.length=258) (hm: ∀x∈l,x≤15) (hok:ok l=true):run (bh ok) t0 (du l++r)= .fin l r:=by
 unfold du
 rw [List.append_assoc]
 have hh:l.headD 0≤15:=by
  cases l with
  |nil=>simp at hl
  |cons x l=>exact hm x List.mem_cons_self
 have h4:run (bh ok) t0 (four (l.headD 0)++(cT (l.headD 0) l++r))=run (bh ok) ⟨[],4,l.headD 0,0⟩ (cT (l.headD 0) l++r):=by
  generalize l.headD 0=n at hh⊢
  have e:2*(2*(2*(2*0+n/8 % 2)+n/4 % 2)+n/2 % 2)+n % 2=n:=by omega
  show run (bh ok) ⟨[],4,2*(2*(2*(2*0+n/8 % 2)+n/4 % 2)+n/2 % 2)+n % 2,0⟩ _=_
  rw [e];rfl
 rw [h4]
 exact yl l [] (l.headD 0) r (by intro e;rw [e] at hl;simp at hl) hh hm (by simpa using hl) hok
end
end Go.Tab
set_option maxRecDepth 20000
namespace Go.Hd
open Go.Inc
def nT (n:Nat):List Nat:=if _h:n=0 then [] else nT (n/128)++ [128+n % 128]
termination_by n
decreasing_by omega
def dV (n:Nat):List Nat:=nT (n/128)++ [n % 128]
theorem iL:nT 0= []:=by rw [nT];simp
theorem lO {n:Nat} (h:0<n):nT n=nT (n/128)++ [128+n % 128]:=by rw [nT,dif_neg (by omega)]
theorem Jn (n:Nat): ∀x∈nT n,x<256:=by
 induction n using Nat.strongRecOn with
 |ind n ih=>
  rcases Nat.eq_zero_or_pos n with e|e
  ·rw [e,iL];simp
  ·rw [lO e]
   intro x hx
   rcases List.mem_append.1 hx with h|h
   ·exact ih (n/128) (by omega) x h
   ·rw [List.mem_singleton] at h;omega
theorem Ea (n:Nat): ∀x∈dV n,x<256:=by
 intro x hx
 rcases List.mem_append.1 hx with h|h
 ·exact Jn _ x h
 ·rw [List.mem_singleton] at h;omega
def grow (most v c:Nat):Option (Nat×Bool):=
 if v=0∧c=128 then none else
 if 128*v+c % 128≤most∧(c<128→0<128*v+c % 128) then some (128*v+c % 128,decide (c<128)) else none
theorem AO {most n:Nat} (h0:0<n) (h:n≤most):grow most (n/128) (128+n % 128)=some (n,false):=by
 unfold grow
 have e:128*(n/128)+(128+n % 128) % 128=n:=by omega
 rw [if_neg (by omega),e,if_pos ⟨h,fun _=>h0⟩,decide_eq_false (by omega)]
theorem xr {most n:Nat} (h0:0<n) (h:n≤most):grow most (n/128) (n % 128)=some (n,true):=by
 unfold grow
 have e:128*(n/128)+n % 128 % 128=n:=by omega
 rw [if_neg (by omega),e,if_pos ⟨h,fun _=>h0⟩,decide_eq_true (by omega)]
theorem jK {most v c n:Nat} {d:Bool} (hc:c<256) (h:grow most v c=some (n,d)):n≤most∧0<n∧n=128*v+c % 128∧d=decide (c<128):=by
 unfold grow at h
 split at h
 ·cases h
 ·split at h
  ·rename_i h1 h2
   cases h
   refine ⟨h2.1,?_,rfl,rfl⟩
   by_cases hc:c<128
   ·exact h2.2 hc
   ·omega
  ·cases h
structure MS where
 at_:Nat
 v:Nat
 M:Nat
 P:Nat
 sum:Nat
 many:Nat
deriving DecidableEq
inductive Mk where
 |aD (M P sum:Nat)|tail (sum:Nat)
deriving DecidableEq
def mK:MS:=⟨0,0,0,0,0,0⟩
def aU (n:Nat) (s:MS) (c:Nat):sH MS Mk Nat:=
 if s.at_=0 then
  if c=0 then .more ⟨5,0,0,0,0,0⟩ else if c=1 then .more ⟨1,0,0,0,0,0⟩ else .bad 242
 else if s.at_=1 then
  match grow n s.v c with
  |none=> .bad 242
  |some (m,true)=> .more ⟨2,0,m,0,0,0⟩
  |some (m,false)=> .more ⟨1,m,0,0,0,0⟩
 else if s.at_=2 then
  match grow s.M s.v c with
  |none=> .bad 242
  |some (p,true)=> .more ⟨3,0,s.M,p,0,0⟩
  |some (p,false)=> .more ⟨2,p,s.M,0,0,0⟩
 else if s.many=3 then
  if s.at_=3 then .fin (.aD s.M s.P (256*s.sum+c)) else .fin (.tail (256*s.sum+c))
 else .more {s with sum:=256*s.sum+c,many:=s.many+1}
def eU (s:Nat):List Nat:= [s/16777216 % 256,s/65536 % 256,s/256 % 256,s % 256]
theorem Jf (s:Nat): ∀x∈eU s,x<256:=by
 intro x hx
 simp [eU] at hx
 omega
def bN (M P sum:Nat):List Nat:=1::(dV M++dV P++eU sum)
theorem JH {n v:Nat} (h:v≤n):run (aU n) ⟨1,0,0,0,0,0⟩ (nT v)= .short ⟨1,v,0,0,0,0⟩:=by
 induction v using Nat.strongRecOn with
 |ind v ih=>
  rcases Nat.eq_zero_or_pos v with e|e
  ·rw [e,iL];rfl
  ·rw [lO e,cR (ih (v/128) (by omega) (by omega))]
   refine bD ?_
   simp only [aU]
   rw [if_neg (by decide),if_pos trivial,AO e h]
theorem Jt {n M v:Nat} (h:v≤M):run (aU n) ⟨2,0,M,0,0,0⟩ (nT v)= .short ⟨2,v,M,0,0,0⟩:=by
 induction v using Nat.strongRecOn with
 |ind v ih=>
  rcases Nat.eq_zero_or_pos v with e|e
  ·rw [e,iL];rfl
  ·rw [lO e,cR (ih (v/128) (by omega) (by omega))]
   refine bD ?_
   simp only [aU]
   rw [if_neg (by decide),if_neg (by decide),if_pos trivial,AO e h]
theorem IA {n M:Nat} (h0:0<M) (h:M≤n) (r:List Nat):run (aU n) ⟨1,0,0,0,0,0⟩ (dV M++r)=run (aU n) ⟨2,0,M,0,0,0⟩ r:=by
 unfold dV
 rw [List.append_assoc,cR (JH (by omega))]
 refine bD ?_
 simp only [aU]
 rw [if_neg (by decide),if_pos trivial,xr h0 h]
theorem Ik {n M P:Nat} (h0:0<P) (h:P≤M) (r:List Nat):run (aU n) ⟨2,0,M,0,0,0⟩ (dV P++r)=run (aU n) ⟨3,0,M,P,0,0⟩ r:=by
 unfold dV
 rw [List.append_assoc,cR (Jt (by omega))]
 refine bD ?_
 simp only [aU]
 rw [if_neg (by decide),if_neg (by decide),if_pos trivial,xr h0 h]
theorem Iw {s:Nat} (h:s<4294967296):256*(256*(256*(256*0+s/16777216 % 256)+s/65536 % 256)+s/256 % 256)+s % 256=s:=by omega
theorem IY {n M P s:Nat} (h:s<4294967296) (r:List Nat):run (aU n) ⟨3,0,M,P,0,0⟩ (eU s++r)= .fin (.aD M P s) r:=by
 show JT.fin (Mk.aD M P (256*(256*(256*(256*0+s/16777216 % 256)+s/65536 % 256)+s/256 % 256)+s % 256)) r=_
 rw [Iw h]
theorem vi {n M P s:Nat} (h0:0<M) (h1:M≤n) (h2:0<P) (h3:P≤M) (h4:s<4294967296) (r:List Nat):run (aU n) mK (bN M P s++r)= .fin (.aD M P s) r:=by
 show run (aU n) ⟨1,0,0,0,0,0⟩ (dV M++dV P++eU s++r)=_
 rw [List.append_assoc,List.append_assoc,IA h0 h1,Ik h2 h3,IY h4]
end Go.Hd
set_option maxRecDepth 20000
namespace Go.Crc
def half (c:Nat):Nat:=(c/2)^^^(if c % 2=1 then 3988292384 else 0)
def row (c:Nat):Nat:=half (half (half (half (half (half (half (half c)))))))
def step (c b:Nat):Nat:=row ((c % 256)^^^b)^^^(c/256)
def feed (c:Nat) (b:List Nat):Nat:=b.foldl step c
def bQ (b:List Nat):Nat:=feed 4294967295 b^^^4294967295
theorem eP {c:Nat} (h:c<4294967296):half c<4294967296:=by
 unfold half
 exact Nat.xor_lt_two_pow (n:=32) (by omega) (by split<;>decide)
theorem xR {c:Nat} (h:c<4294967296):row c<4294967296:=eP (eP (eP (eP (eP (eP (eP (eP h)))))))
theorem uX {c b:Nat} (h:c<4294967296) (hb:b<256):step c b<4294967296:=by
 unfold step
 have h1:(c % 256)^^^b<256:=Nat.xor_lt_two_pow (n:=8) (by omega) hb
 exact Nat.xor_lt_two_pow (n:=32) (xR (by omega)) (by omega)
theorem lz: ∀(b:List Nat) (c:Nat),c<4294967296→(∀x∈b,x<256)→feed c b<4294967296
 | [],_,h,_=>h
 |x::b,c,h,hb=>by
  rw [feed,List.foldl_cons]
  exact lz b _ (uX h (hb x List.mem_cons_self)) fun y hy=>hb y (List.mem_cons_of_mem _ hy)
theorem zj (a b:List Nat) (c:Nat):feed c (a++b)=feed (feed c a) b:=List.foldl_append
theorem pU {b:List Nat} (hb: ∀x∈b,x<256):bQ b<4294967296:=Nat.xor_lt_two_pow (n:=32) (lz b _ (by decide) hb) (by decide)
end Go.Crc
set_option maxRecDepth 20000
namespace Go.Vc
open Go
def Gj:List Nat→List Nat→Bool
 |_,[]=>false
 | [],_::_=>true
 |a::x,b::y=>decide (a<b)||(a==b&&Gj x y)
def strOf (b:List Nat):ByteArray:=strOfNums (b.map fun (x:Nat)=>(x:Int))
theorem Dj {P:Program} {src e dst:TypeId} {s:Sl} {b:List Nat} {w:World} {K:ByteArray→World→Prop} (hs:P.underlying src=some (.slice e)) (he:P.underlying e=some (.int .u8)) (hd:P.underlying dst=some .string)
  (hh:aC 1 s (b.map vB) w) (hK:K (strOf b) w):aA P (convert src dst (.slice s.base s.len s.cap)) nR w K:=by
 have hl:=hh.1
 simp only [List.length_map,Nat.mul_one] at hl
 have key:(convert src dst (.slice s.base s.len s.cap)).run P w= .ok (.string (strOf b)) w:=by
  cases hb:s.base with
  |none=>
   have:b= []:=by
    cases b with
    |nil=>rfl
    |cons x b=>
     obtain ⟨p,hp,_⟩:=hh.2 0 (by simp)
     rw [hb] at hp;cases hp
   subst this
   rw [run_convert_bytes_nil w src e hs he _ _ dst hd];rfl
  |some p=>
   have hc:(loadCells p s.len).run P w= .ok ((b.map fun (x:Nat)=>(x:Int)).map (Value.int .u8)).toArray w:=by
    have:=v7 (P:=P) (w:=w) (vs:=b.map vB) (p:=p) (fun i hi=>by
     obtain ⟨q,hq,hc⟩:=hh.2 i hi
     rw [hb] at hq
     cases hq
     exact hc)
    rw [List.length_map,hl] at this
    rw [this,List.map_map];rfl
   rw [run_convert_bytes_string w src dst e _ _ _ hs he hd,run_bytesToString w _ _ _ _ hc,foldl_push_bytes]
   unfold strOf strOfNums
   simp [ByteArray.empty,ByteArray.emptyWithCapacity]
   rfl
 unfold aA
 rw [key]
 exact hK
theorem B7 (b:List Nat):(strOf b).toList=b.map UInt8.ofNat:=by
 unfold strOf strOfNums
 rw [ByteArray.toList_mk,List.map_map]
 refine List.map_congr_left fun x _=> ?_
 simp
theorem ua (b:List Nat):(strOf b).data.toList=b.map UInt8.ofNat:=by rw [←ByteArray.toList_eq,B7]
section
variable {E w:World} {F:List HP}
end
end Go.Vc
set_option maxRecDepth 20000
namespace Go.Bw
open Go.Rk
abbrev lx:List Nat→List Nat→Bool:=Go.Vc.Gj
theorem og (x:List Nat):lx x []=false:=by cases x<;>rfl
theorem iQ (a b:Nat) (x y:List Nat):lx (a::x) (b::y)=(decide (a<b)||(a==b&&lx x y)):=rfl
theorem qK: ∀x,lx x x=false
 | []=>rfl
 |a::x=>by rw [iQ,qK x];simp
theorem sr: ∀x y z,lx x y=true→lx y z=true→lx x z=true
 |_,[],_,h,_=>by rw [og] at h;cases h
 |_,_::_,[],_,h=>by rw [og] at h;cases h
 | [],_::_,_::_,_,_=>rfl
 |a::x,b::y,c::z,h1,h2=>by
  rw [iQ] at*
  simp only [Bool.or_eq_true,Bool.and_eq_true,decide_eq_true_eq,beq_iff_eq] at*
  rcases h1 with h1|⟨h1,h3⟩<;>rcases h2 with h2|⟨h2,h4⟩
  ·left;omega
  ·left;omega
  ·left;omega
  ·exact .inr ⟨by omega,sr x y z h3 h4⟩
theorem sq: ∀x y,lx x y=false→lx y x=false→x=y
 | [],[],_,_=>rfl
 | [],_::_,h,_=>by cases h
 |_::_,[],_,h=>by cases h
 |a::x,b::y,h1,h2=>by
  rw [iQ] at*
  simp only [Bool.or_eq_false_iff,Bool.and_eq_false_iff,decide_eq_false_iff_not,beq_eq_false_iff_ne] at*
  have hab:a=b:=by omega
  subst hab
  rw [sq x y (by rcases h1.2 with h|h;exact absurd rfl h;exact h) (by rcases h2.2 with h|h;exact absurd rfl h;exact h)]
theorem D5 (x y z:List Nat) (h1:lx x y=false) (h2:lx y z=false):lx x z=false:=by
 cases h:lx x z with
 |false=>rfl
 |true=>
  by_cases e:x=y
  ·subst e;rw [h] at h2;cases h2
  ·have hyx:lx y x=true:=by
    cases hh:lx y x with
    |true=>rfl
    |false=>exact absurd (sq x y h1 hh) e
   have:=sr _ _ _ hyx h
   rw [h2] at this;cases this
theorem CV: ∀(k c d:List Nat),lx (k++c) (k++d)=lx c d
 | [],_,_=>rfl
 |a::k,c,d=>by rw [List.cons_append,List.cons_append,iQ,CV k];simp
theorem xU: ∀(a b c d:List Nat),a≠b→(a.length<b.length→c= [])→(b.length<a.length→d= [])→lx (a++c) (b++d)=lx a b
 | [],[],_,_,h,_,_=>absurd rfl h
 | [],y::b,c,d,_,h1,_=>by rw [h1 (by simp)];rfl
 |x::a,[],c,d,_,_,h2=>by rw [h2 (by simp)];rfl
 |x::a,y::b,c,d,h,h1,h2=>by
  rw [List.cons_append,List.cons_append,iQ,iQ]
  by_cases e:x=y
  ·subst e
   rw [xU a b c d (fun e=>h (by rw [e])) (fun hl=>h1 (by simpa using hl)) (fun hl=>h2 (by simpa using hl))]
  ·rw [beq_eq_false_iff_ne.2 e,Bool.false_and,Bool.false_and]
def sl (t:List Nat) (i k:Nat):Bool:=lx (t.drop i) (t.drop k)
theorem gG (t:List Nat):SO (sl t):=⟨fun _=>qK _,fun _ _ _=>sr _ _ _,fun _ _ _=>D5 _ _ _⟩
theorem FM {t:List Nat} {i k:Nat} (hi:i≤t.length) (hk:k≤t.length) (h:t.drop i=t.drop k):i=k:=by
 have:=congrArg List.length h
 simp only [List.length_drop] at this
 omega
def rows (t:List Nat):List Nat:=List.range (t.length+1)
theorem gk {t:List Nat} {i:Nat}:i∈rows t↔i≤t.length:=by unfold rows;rw [List.mem_range];omega
theorem k9 (t:List Nat):(rows t).Nodup:=List.nodup_range
theorem xj (t:List Nat):(rows t).length=t.length+1:=List.length_range
theorem nU (t:List Nat):tO (sl t) (rows t):=fun x hx y hy e=>by
 rw [gk] at hx hy
 cases h1:sl t x y with
 |true=>exact .inl rfl
 |false=>
  right
  cases h2:sl t y x with
  |true=>rfl
  |false=>exact absurd (FM hx hy (sq _ _ h1 h2)) e
def bt (t:List Nat):List Nat:=rM (sl t) (rows t)
def eZ (t:List Nat) (i:Nat):Nat:=rk (sl t) (rows t) i
theorem gu (t:List Nat):(bt t).length=t.length+1:=by unfold bt;rw [A4,xj]
theorem sg {t:List Nat} {i:Nat}:i∈bt t↔i≤t.length:=by unfold bt;rw [(de _).mem_iff,gk]
theorem D0 {t:List Nat} {i:Nat} (hi:i≤t.length):eZ t i<t.length+1:=by
 have:=vJ (gG t) (k9 t) (nU t) (gk.2 hi)
 rwa [xj] at this
theorem uh {t:List Nat} {i:Nat} (hi:i≤t.length): ∃h:eZ t i<(bt t).length,(bt t)[eZ t i]=i:=Dz (gG t) (k9 t) (nU t) (gk.2 hi)
theorem Bm {t:List Nat} {r:Nat} (hr:r<(bt t).length):eZ t (bt t)[r]=r:=Jy (gG t) (k9 t) (nU t) hr
theorem oy {t:List Nat} {i k:Nat} (hi:i≤t.length) (hk:k≤t.length) (h:eZ t i=eZ t k):i=k:=Dq (gG t) (nU t) (gk.2 hi) (gk.2 hk) h
theorem jZ (t:List Nat):(bt t).Pairwise fun a b=>sl t a b=true:=o9 (gG t) (k9 t) (nU t)
theorem lR {t:List Nat} {j:Nat} (hj:j<t.length):t.drop j=t.getD j 0::t.drop (j+1):=by
 rw [List.drop_eq_getElem_cons hj];simp [List.getD,hj]
theorem uu {t:List Nat} {i k:Nat} (hi:i<t.length) (hk:k<t.length):sl t i k=(decide (t.getD i 0<t.getD k 0)||(t.getD i 0==t.getD k 0&&sl t (i+1) (k+1))):=by
 unfold sl
 rw [lR hi,lR hk,iQ]
theorem Bb (t:List Nat):eZ t t.length=0:=by
 unfold eZ rk
 rw [List.countP_eq_zero]
 intro x _
 unfold sl
 rw [List.drop_length,og];decide
def aR (t:List Nat):Nat:=eZ t 0
def dK (t:List Nat):List Nat:=(bt t).filter fun i=>i !=0
def aG (t:List Nat):List Nat:=(dK t).map fun i=>t.getD (i - 1) 0
def bw (index row:Nat):Nat:=if row>index then row - 1 else row
theorem q0 (t:List Nat):aR t≤t.length:=by have:=D0 (t:=t) (i:=0) (by omega);unfold aR;omega
theorem su (t:List Nat) {r:Nat} (hr:r<(bt t).length):(bt t)[r]=0↔r=aR t:=by
 constructor
 ·intro h
  have:=Bm hr
  rw [h] at this;exact this.symm
 ·rintro rfl
  exact (uh (t:=t) (i:=0) (by omega)).2
theorem wb: ∀(l:List Nat) (ix:Nat),(∀r (hr:r<l.length),l[r]=0↔r=ix)→∀r (hr:r<l.length),r≠ix→(l.filter fun i=>i !=0)[bw ix r]? =some l[r]
 | [],_,_,r,hr,_=>by simp at hr
 |a::l,0,h,r,hr,hne=>by
  have ha:a=0:=(h 0 (by simp)).2 rfl
  subst ha
  have hall: ∀x∈l,x≠0:=fun x hx e=>by
   obtain ⟨i,hi,rfl⟩:=List.getElem_of_mem hx
   have:=(h (i+1) (by simpa using hi)).1 (by simpa using e)
   omega
  obtain ⟨r,rfl⟩: ∃r',r=r'+1:=⟨r - 1,by omega⟩
  have hr':r<l.length:=by simpa using hr
  rw [List.filter_cons,if_neg (by simp),List.filter_eq_self.2 fun x hx=>by simpa using hall x hx]
  unfold bw
  rw [if_pos (by omega)]
  simp [hr']
 |a::l,ix+1,h,r,hr,hne=>by
  have ha:a≠0:=fun e=>by have:=(h 0 (by simp)).1 e;omega
  have ih:=wb l ix fun r hr=>by
   have:=h (r+1) (by simpa using hr)
   simp only [List.getElem_cons_succ] at this
   omega
  rw [List.filter_cons,if_pos (by simpa using ha)]
  cases r with
  |zero=>
   have:bw (ix+1) 0=0:=by unfold bw;rw [if_neg (by omega)]
   rw [this];rfl
  |succ r=>
   have hr':r<l.length:=by simpa using hr
   have h2:=ih r hr' (by omega)
   have:bw (ix+1) (r+1)=bw ix r+1:=by unfold bw;split<;>split<;>omega
   rw [this,List.getElem?_cons_succ,h2];simp
theorem Bl {t:List Nat} {r:Nat} (hr:r<(bt t).length) (hne:r≠aR t):(dK t)[bw (aR t) r]? =some (bt t)[r]:=wb _ _ (fun _ hr=>su t hr) r hr hne
theorem nq (t:List Nat):(dK t).Perm ((List.range t.length).map (·+1)):=by
 have h:=(de (lt:=sl t) (rows t)).filter fun i=>i !=0
 have e:(rows t).filter (fun i=>i !=0)=(List.range t.length).map (·+1):=by
  unfold rows
  rw [List.range_succ_eq_map,List.filter_cons,if_neg (by simp),List.filter_eq_self.2 fun x hx=>by obtain ⟨y,_,rfl⟩:=List.mem_map.1 hx;simp]
 rw [e] at h
 exact h
theorem xn (t:List Nat):(dK t).length=t.length:=by rw [(nq t).length_eq];simp
theorem ca (t:List Nat):(aG t).length=t.length:=by unfold aG;rw [List.length_map,xn]
theorem CU (t:List Nat):(aG t).Perm t:=by
 have h:=(nq t).map fun i=>t.getD (i - 1) 0
 have e:((List.range t.length).map (·+1)).map (fun i=>t.getD (i - 1) 0)=t:=by
  apply List.ext_getElem
  ·simp
  ·intro i h1 h2
   simp [List.getD,h2]
 rw [e] at h
 exact h
theorem re {t:List Nat} (hb: ∀x∈t,x<256): ∀x∈aG t,x<256:=fun x hx=>hb x ((CU t).mem_iff.1 hx)
theorem rE (t:List Nat):(dK t).Pairwise fun a b=>sl t a b=true:=(jZ t).filter _
theorem Fg {t:List Nat} {j:Nat} (h0:0<j) (hj:j≤t.length):(aG t).getD (bw (aR t) (eZ t j)) 0=t.getD (j - 1) 0:=by
 obtain ⟨h1,h2⟩:=uh hj
 have hne:eZ t j≠aR t:=fun e=>by have:=oy hj (by omega) e;omega
 have:=Bl h1 hne
 rw [h2] at this
 unfold aG
 simp [List.getD,this]
def pl (last:List Nat) (a b:Nat):Bool:=decide (last.getD a 0<last.getD b 0)||(last.getD a 0==last.getD b 0&&decide (a<b))
theorem tQ {last:List Nat} {a b:Nat}:pl last a b=true↔last.getD a 0<last.getD b 0∨(last.getD a 0=last.getD b 0∧a<b):=by simp [pl]
theorem IS {last:List Nat} {a b:Nat}:pl last a b=false↔¬(last.getD a 0<last.getD b 0∨(last.getD a 0=last.getD b 0∧a<b)):=by rw [←tQ,Bool.not_eq_true]
theorem JD (last:List Nat):SO (pl last):=⟨fun a=>by rw [IS];omega,fun a b c h1 h2=>by rw [tQ] at*;omega,fun a b c h1 h2=>by rw [IS] at*;omega⟩
theorem HR (last dom:List Nat):tO (pl last) dom:=fun x _ y _ e=>by rw [tQ,tQ];omega
def nx (last:List Nat) (a:Nat):Nat:=1+rk (pl last) (List.range last.length) a
theorem CQ {last:List Nat} {a:Nat} (ha:a<last.length):nx last a≤last.length:=by
 have:=vJ (JD last) List.nodup_range (HR last _) (List.mem_range.2 ha)
 rw [List.length_range] at this
 unfold nx;omega
theorem JC {t:List Nat} {j:Nat} (h0:0<j) (hj:j≤t.length):nx (aG t) (bw (aR t) (eZ t j))=eZ t (j - 1):=by
 obtain ⟨h1,h2⟩:=uh hj
 have hne:eZ t j≠aR t:=fun e=>by have:=oy hj (by omega) e;omega
 have hat:=Bl h1 hne
 rw [h2] at hat
 obtain ⟨k,hk⟩: ∃k,bw (aR t) (eZ t j)=k:=⟨_,rfl⟩
 rw [hk] at hat⊢
 obtain ⟨hkl,hke⟩:=List.getElem?_eq_some_iff.1 hat
 have hcl:=xn t
 have hlast: ∀i (hi:i<(dK t).length),(aG t).getD i 0=t.getD ((dK t)[i] - 1) 0:=fun i hi=>by
  unfold aG
  simp [List.getD,hi]
 have hin: ∀i (hi:i<(dK t).length),0<(dK t)[i]∧(dK t)[i]≤t.length:=fun i hi=>by
  have:=(nq t).mem_iff.1 (List.getElem_mem hi)
  obtain ⟨x,hx,e⟩:=List.mem_map.1 this
  rw [List.mem_range] at hx
  omega
 have e1:rk (pl (aG t)) (List.range (aG t).length) k=(dK t).countP fun x=>sl t (x - 1) (j - 1):=by
  have:(dK t)=(List.range (aG t).length).map fun i=>(dK t).getD i 0:=by
   apply List.ext_getElem
   ·rw [List.length_map,List.length_range,ca,hcl]
   ·intro i h1 h2
    simp [List.getD,h1]
  unfold rk
  conv=>rhs;rw [this,List.countP_map]
  apply List.countP_congr
  intro i hi
  have hi:i<(dK t).length:=by rw [List.mem_range,ca] at hi;omega
  obtain ⟨a1,a2⟩:=hin i hi
  have b1:=hin k hkl
  have hci:(dK t).getD i 0=(dK t)[i]:=by simp [List.getD,hi]
  have hs:=uu (t:=t) (i:=(dK t)[i] - 1) (k:=j - 1) (by omega) (by omega)
  rw [show (dK t)[i] - 1+1=(dK t)[i] by omega,show j - 1+1=j by omega] at hs
  simp only [Function.comp]
  rw [hci,hs]
  unfold pl
  rw [hlast i hi,hlast k hkl,hke]
  have hord:decide (i<k)=true↔sl t (dK t)[i] j=true:=by
   rw [decide_eq_true_iff,←hke]
   constructor
   ·intro hik
    exact List.pairwise_iff_getElem.1 (rE t) i k hi hkl hik
   ·intro hsl
    rcases Nat.lt_trichotomy i k with h|h|h
    ·exact h
    ·subst h;rw [(gG t).irr] at hsl;cases hsl
    ·have:=List.pairwise_iff_getElem.1 (rE t) k i hkl hi h
     rw [(gG t).asym hsl] at this;cases this
  simp only [Bool.or_eq_true,Bool.and_eq_true,hord]
 have e2:(dK t).countP (fun x=>sl t (x - 1) (j - 1))=(List.range t.length).countP fun x=>sl t x (j - 1):=by
  rw [(nq t).countP_eq,List.countP_map]
  rfl
 have e3:eZ t (j - 1)=1+(List.range t.length).countP fun x=>sl t x (j - 1):=by
  unfold eZ rk rows
  rw [List.range_succ,List.countP_append,List.countP_cons,List.countP_nil]
  have:sl t t.length (j - 1)=true:=by
   unfold sl
   rw [List.drop_length,lR (by omega)];rfl
  rw [this];simp;omega
 unfold nx
 rw [e1,e2,e3]
def wk (last:List Nat) (index:Nat):Nat→Nat
 |0=>0
 |k+1=>nx last (bw index (wk last index k))
def okB (last:List Nat) (index:Nat):Prop:=index≤last.length∧(∀k,k<last.length→wk last index k≠index)∧wk last index last.length=index
instance (last:List Nat) (index:Nat):Decidable (okB last index):=by unfold okB;infer_instance
def cc (last:List Nat) (index:Nat):List Nat:=((List.range last.length).map fun k=>last.getD (bw index (wk last index k)) 0).reverse
theorem mL (last:List Nat) (index:Nat):(cc last index).length=last.length:=by simp [cc]
theorem vK {last:List Nat} {index k:Nat} (hk:k<last.length):(cc last index).getD (last.length - 1 - k) 0=last.getD (bw index (wk last index k)) 0:=by
 unfold cc
 rw [List.getD,List.getElem?_reverse (by simp;omega)]
 simp only [List.length_map,List.length_range]
 rw [show last.length - 1 - (last.length - 1 - k)=k by omega]
 simp [hk]
theorem vE (t:List Nat):okB (aG t) (aR t)∧cc (aG t) (aR t)=t:=by
 have hw: ∀k,k≤t.length→wk (aG t) (aR t) k=eZ t (t.length - k):=by
  intro k
  induction k with
  |zero=>intro _;rw [wk,Nat.sub_zero,Bb]
  |succ k ih=>
   intro hk
   rw [wk,ih (by omega),JC (by omega) (by omega)]
   congr 1
 have hl:=ca t
 refine ⟨⟨by rw [hl];exact q0 t,fun k hk e=> ?_,?_⟩,?_⟩
 ·rw [hl] at hk
  rw [hw k (by omega)] at e
  have:=oy (by omega) (by omega) e
  omega
 ·rw [hl,hw _ (Nat.le_refl _),Nat.sub_self];rfl
 ·apply List.ext_getElem (by rw [mL,hl])
  intro i h1 h2
  have e:=vK (last:=aG t) (index:=aR t) (k:=t.length - 1 - i) (by rw [hl];omega)
  rw [hl,show t.length - 1 - (t.length - 1 - i)=i by omega,hw _ (by omega),show t.length - (t.length - 1 - i)=i+1 by omega,Fg (by omega) (by omega)] at e
  rw [show i+1 - 1=i by omega] at e
  simpa [List.getD,h1,h2] using e
theorem Eb {last:List Nat} {index row:Nat} (hi:index≤last.length) (hr:row≤last.length) (hne:row≠index):bw index row<last.length:=by unfold bw;split<;>omega
theorem BI {last:List Nat} {index:Nat} (hi:index≤last.length): ∀k,(∀j,j<k→wk last index j≠index)→wk last index k≤last.length
 |0,_=>by rw [wk];omega
 |k+1,h=>by
  rw [wk]
  exact CQ (Eb hi (BI hi k fun j hj=>h j (by omega)) (h k (by omega)))
end Go.Bw
set_option maxRecDepth 20000
namespace Go.aj
open Go.Inc Go.Srt Go.Sym Go.Bits Go.Tab Go.Hd Go.Crc Go.Bw
def aW (b:List Nat):List Nat:=bitsOf b (8*b.length)
theorem fJ (b:List Nat):(aW b).length=8*b.length:=BS _ _
theorem nH (a b:List Nat):aW (a++b)=aW a++aW b:=by
 unfold aW bitsOf
 rw [List.length_append,Nat.mul_add,List.range_add,List.map_append]
 congr 1
 ·refine List.map_congr_left fun i hi=> ?_
  rw [List.mem_range] at hi
  unfold fa
  rw [List.getD,List.getD,List.getElem?_append_left (by omega)]
 ·rw [List.map_map]
  refine List.map_congr_left fun i hi=> ?_
  simp only [Function.comp]
  unfold fa
  rw [List.getD,List.getD,List.getElem?_append_right (by omega),show (8*a.length+i)/8 - a.length=i/8 by omega,show (8*a.length+i) % 8=i % 8 by omega]
theorem yD (b:List Nat) (k:Nat):aW (b.take k)=(aW b).take (8*k):=by
 rcases Nat.le_total k b.length with h|h
 ·have:=nH (b.take k) (b.drop k)
  rw [List.take_append_drop] at this
  have h1:(aW (b.take k)).length=8*k:=by rw [fJ,List.length_take];omega
  rw [this,List.take_append_of_le_length (Nat.le_of_eq h1.symm),List.take_of_length_le (l:=aW (b.take k)) (Nat.le_of_eq h1)]
 ·rw [List.take_of_length_le h,List.take_of_length_le (by rw [fJ];omega)]
def pz (b:List Nat):Nat:=8*((b.length+7)/8) - b.length
theorem A8 (b:List Nat):pz b<8:=by unfold pz;omega
theorem mj {b:List Nat} (h:Bits b):aW (pack b)=b++List.replicate (pz b) 0:=by
 unfold aW bitsOf pz
 rw [iM]
 refine List.ext_getElem? fun i=> ?_
 rw [List.getElem?_map]
 by_cases hi:i<8*((b.length+7)/8)
 ·rw [List.getElem?_range hi,Option.map_some]
  unfold pack
  rw [yS h hi]
  by_cases hb:i<b.length
  ·rw [List.getElem?_append_left hb,List.getD,List.getElem?_eq_getElem hb];rfl
  ·rw [List.getElem?_append_right (by omega),List.getElem?_replicate,if_pos (by omega),c9 (by omega)]
 ·rw [List.getElem?_eq_none (by simp;omega),List.getElem?_eq_none (by simp;omega)];rfl
def body (l last:List Nat):List Nat:=du l++enc l (syms last)
def jO (l x:List Nat):List Nat:=bN x.length (aR x.reverse) (bQ x)++pack (body l (aG x.reverse))
def ri (left:List Nat):Bool:=(left.take (left.length % 8)).all (·==0)
def oF (M:Nat) (bits:List Nat):Except Nat (List Nat×List Nat):=match run (bh cq) t0 bits with
 | .short _=> .error 50
 | .bad e=> .error e
 | .fin l more=>match run (cW l) ⟨0,0,⟨List.range 256,M,0,0⟩,[]⟩ more with
  | .short _=> .error 50
  | .bad e=> .error e
  | .fin last left=> .ok (last,left)
def jg (P sum:Nat) (last:List Nat):Except Nat (List Nat):=
 if okB last P then (if bQ (cc last P).reverse=sum then .ok (cc last P).reverse else .error 250) else .error 170
def cn (n:Nat) (b:List Nat):Except Nat (List Nat×List Nat):=match run (aU n) mK b with
 | .short _=> .error 50
 | .bad e=> .error e
 | .fin (.tail _) _=> .error 242
 | .fin (.aD M P sum) rest=>match oF M (aW rest) with
  | .error e=> .error e
  | .ok (last,left)=>if ri left then (match jg P sum last with
    | .error e=> .error e
    | .ok x=> .ok (x,rest.drop (rest.length - left.length/8)))
   else .error 160
theorem xI: ∀k,Bits (nj k)
 |0=>fun x hx=>by cases hx
 |k+1=>fun x hx=>by
  rcases List.mem_cons.1 hx with h|h
  ·omega
  ·rcases List.mem_cons.1 h with h|h
   ·omega
   ·exact xI k x h
theorem sV: ∀k,Bits (fR k)
 |0=>fun x hx=>by cases hx
 |k+1=>fun x hx=>by
  rcases List.mem_cons.1 hx with h|h
  ·omega
  ·rcases List.mem_cons.1 h with h|h
   ·omega
   ·exact sV k x h
theorem EJ (a b:Nat):Bits (cC a b):=by
 unfold cC
 refine Bits.app ?_ (fun x hx=>by rw [List.mem_singleton] at hx;omega)
 split
 ·exact sV _
 ·exact xI _
theorem vb: ∀(m:List Nat) (was:Nat),Bits (cT was m)
 | [],_=>fun x hx=>by cases hx
 |n::m,was=>Bits.app (EJ was n) (vb m n)
theorem uY (l:List Nat):Bits (du l):=Bits.app (fun x hx=>by simp [four] at hx;omega) (vb _ _)
theorem ku (l last:List Nat):Bits (body l last):=Bits.app (uY l) (FZ _ _)
section
variable {l:List Nat}
structure gV (l last:List Nat):Prop where
 len:l.length=258
 ok:cq l=true
 good: ∀s∈syms last,jy l s
theorem gV.v {last:List Nat} (h:gV l last):aS l≤32768:=by rw [(lH.1 h.ok).1];decide
theorem ot (h:cq l=true): ∀x∈l,x≤15:=fun x hx=>by
 obtain ⟨i,hi,rfl⟩:=List.mem_iff_getElem.1 hx
 have:=fT (l:=l) (by rw [(lH.1 h).1];decide) i
 rwa [bX hi] at this
theorem AX {last:List Nat} (hL:gV l last) (hb: ∀x∈last,x<256) (r:List Nat):run (cW l) ⟨0,0,⟨List.range 256,last.length,0,0⟩,[]⟩ (enc l (syms last)++r)= .fin last r:=by
 rw [zr hL.len hL.v _ _ _ _ hL.good]
 have:=C7 hb []
 rw [List.append_nil] at this
 rw [this]
 simp [enc]
theorem D4 {last:List Nat} (hL:gV l last) (hb: ∀x∈last,x<256) (r:List Nat):oF last.length (body l last++r)= .ok (last,r):=by
 unfold oF body
 rw [List.append_assoc,nd _ hL.len (ot hL.ok) hL.ok]
 simp only
 rw [AX hL hb]
theorem CA {last:List Nat} (hL:gV l last) (hb: ∀x∈last,x<256) {M:Nat} (hM:M≠last.length) (r:List Nat):oF M (body l last++r)= .error 160:=by
 unfold oF body
 rw [List.append_assoc,nd _ hL.len (ot hL.ok) hL.ok]
 simp only
 rw [zr hL.len hL.v _ _ _ _ hL.good]
 have:=Cy hb hM []
 rw [List.append_nil] at this
 rw [this]
theorem Ft {last:List Nat} (hL:gV l last) (hb: ∀x∈last,x<256) {k:Nat} (hk:k<(body l last).length):oF last.length ((body l last).take k)= .error 50:=by
 unfold oF body
 unfold body at hk
 rw [List.length_append] at hk
 rcases Nat.lt_or_ge k (du l).length with h|h
 ·rw [List.take_append_of_le_length (by omega)]
  obtain ⟨s',e⟩:=uG (nd (ok:=cq) [] hL.len (ot hL.ok) hL.ok) h
  rw [e]
 ·rw [List.take_append,List.take_of_length_le h,nd _ hL.len (ot hL.ok) hL.ok]
  simp only
  obtain ⟨s',e⟩:=uG (AX hL hb []) (k:=k - (du l).length) (by omega)
  rw [e]
theorem nz {n M P sum:Nat} (h0:0<M) (h1:M≤n) (h2:0<P) (h3:P≤M) (h4:sum<4294967296) (rest:List Nat):
  cn n (bN M P sum++rest)=match oF M (aW rest) with
  | .error e=> .error e
  | .ok (last,left)=>if ri left then (match jg P sum last with
    | .error e=> .error e
    | .ok x=> .ok (x,rest.drop (rest.length - left.length/8)))
   else .error 160:=by
 unfold cn
 rw [vi h0 h1 h2 h3 h4]
theorem Dg (b:List Nat) (z:List Nat):ri (List.replicate (pz b) 0++aW z)=true:=by
 unfold ri
 have:=A8 b
 rw [List.length_append,List.length_replicate,fJ,show (pz b+8*z.length) % 8=pz b by omega,List.take_append_of_le_length (by simp),List.take_of_length_le (by simp)]
 simp
theorem nK {n P sum:Nat} {last:List Nat} (hL:gV l last) (hb: ∀x∈last,x<256) (h0:0<last.length) (h1:last.length≤n) (h2:0<P) (h3:P≤last.length) (h4:sum<4294967296) (z:List Nat):
  cn n (bN last.length P sum++pack (body l last)++z)=match jg P sum last with
    | .error e=> .error e
    | .ok x=> .ok (x,z):=by
 rw [List.append_assoc,nz h0 h1 h2 h3 h4,nH,mj (ku _ _),List.append_assoc,D4 hL hb]
 simp only
 rw [if_pos (Dg _ z)]
 have:=A8 (body l last)
 have e:(pack (body l last)++z).drop ((pack (body l last)++z).length - (List.replicate (pz (body l last)) 0++aW z).length/8)=z:=by
  rw [List.length_append,List.length_append,List.length_replicate,fJ,show (pz (body l last)+8*z.length)/8=z.length by omega,Nat.add_sub_cancel,List.drop_left]
 rw [e]
theorem nX {t:List Nat} (h:0<t.length):0<aR t∧aR t≤t.length:=by
 refine ⟨?_,q0 t⟩
 rcases Nat.eq_zero_or_pos (aR t) with e|e
 ·have:=oy (t:=t) (i:=0) (k:=t.length) (by omega) (by omega) (by rw [Bb];exact e)
  omega
 ·exact e
theorem Ax (x:List Nat):jg (aR x.reverse) (bQ x) (aG x.reverse)= .ok x:=by
 obtain ⟨h1,h2⟩:=vE x.reverse
 unfold jg
 rw [if_pos h1,h2,List.reverse_reverse,if_pos rfl]
theorem BU {n:Nat} {x:List Nat} (hL:gV l (aG x.reverse)) (hb: ∀y∈aG x.reverse,y<256) (hx: ∀y∈x,y<256) (h0:0<x.length) (h1:x.length≤n) (z:List Nat):cn n (jO l x++z)= .ok (x,z):=by
 have hl:(aG x.reverse).length=x.length:=by rw [ca,List.length_reverse]
 have hi:=nX (t:=x.reverse) (by rw [List.length_reverse];exact h0)
 rw [List.length_reverse] at hi
 have:=nK (n:=n) (P:=aR x.reverse) (sum:=bQ x) hL hb (by omega) (by omega) hi.1 (by omega) (pU hx) z
 rw [hl,Ax] at this
 exact this
theorem Cc {n:Nat} {x:List Nat} (hL:gV l (aG x.reverse)) (hb: ∀y∈aG x.reverse,y<256) (hx: ∀y∈x,y<256) (h0:0<x.length) (h1:x.length≤n) {k:Nat} (hk:k<(jO l x).length):cn n ((jO l x).take k)= .error 50:=by
 have hl:(aG x.reverse).length=x.length:=by rw [ca,List.length_reverse]
 have hi:=nX (t:=x.reverse) (by rw [List.length_reverse];exact h0)
 rw [List.length_reverse] at hi
 unfold jO at hk⊢
 rw [List.length_append] at hk
 rcases Nat.lt_or_ge k (bN x.length (aR x.reverse) (bQ x)).length with h|h
 ·rw [List.take_append_of_le_length (by omega)]
  obtain ⟨s',e⟩:=uG (vi (n:=n) h0 h1 hi.1 hi.2 (pU hx) []) h
  unfold cn
  rw [e]
 ·rw [List.take_append,List.take_of_length_le h,nz h0 h1 hi.1 hi.2 (pU hx)]
  generalize hj:k - (bN x.length (aR x.reverse) (bQ x)).length=j
  have hpl:=iM (body l (aG x.reverse))
  rw [yD,mj (ku _ _),List.take_append_of_le_length (by omega),←hl,Ft hL hb (by omega)]
theorem Aq {n M P sum:Nat} {last:List Nat} (hL:gV l last) (hb: ∀x∈last,x<256) (h0:0<M) (h1:M≤n) (h2:0<P) (h3:P≤M) (h4:sum<4294967296) (hM:M≠last.length) (z:List Nat):
  cn n (bN M P sum++pack (body l last)++z)= .error 160:=by
 rw [List.append_assoc,nz h0 h1 h2 h3 h4,nH,mj (ku _ _),List.append_assoc,CA hL hb hM]
end
end Go.aj
set_option maxRecDepth 20000
namespace Go.Vc
open Go
theorem wW {P:Program} {E w:World} {F:List HP} {t e:TypeId} {C:Array Value} {b n c:Nat} {K:Sl→World→Prop} (ht:P.underlying t=some (.slice e)) (he:P.underlying e=some (.int .u8))
  (h:Hp E w (aj b (.cells C e (0,0))::F)) (hK: ∀w',Hp E w' (aj b (.cells C e (C.size,C.size+1))::F)→K ⟨some ⟨b,0,none⟩,n,c⟩ w'):aA P (convert t t (.slice (some ⟨b,0,none⟩) n c)) kS w K:=by
 have hb:=h.aD
 have hlt:b<w.heap.size:=by
  rcases Nat.lt_or_ge b w.heap.size with hh|hh
  ·exact hh
  ·simp [Array.getElem?_eq_none hh] at hb
 have hsh:w.shape? b=some (e,C.size):=by unfold World.shape?;rw [hb]
 have key:(convert t t (.slice (some ⟨b,0,none⟩) n c)).run P w= .ok (.slice (some ⟨b,0,none⟩) n c) (w.freeze ⟨b,C.size,none⟩ 1):=by
  simp [convert,run_underlying ht,run_underlying he,markStringish,hsh]
 unfold aA;rw [key]
 refine hK _ (h.setObj ?_ rfl rfl rfl)
 unfold World.freeze
 rw [if_neg (by decide)]
 have hg:w.heap[b]= .cells C e (0,0):=by rw [Array.getElem?_eq_getElem hlt] at hb;exact Option.some.inj hb
 apply Array.ext_getElem?
 intro i
 rw [Array.set!_eq_setIfInBounds]
 by_cases hi:b=i
 ·subst hi
  simp [hlt]
  rw [Array.getElem_modify_self,hg]
  simp
 ·rw [Array.getElem?_setIfInBounds_ne hi,Array.getElem?_modify]
  simp [hi]
section
variable {E w:World} {F:List HP} {sz:Nat} {s:Sl} {xs ys:List Value}
theorem Hp.dP {A:HP} {l F:List HP} [h2:kr l F] (h:Hp E w (A::l)):Hp E w (A::F):=by
 obtain ⟨p,e⟩:=h2.sub
 subst e
 exact (h.perm List.perm_middle.symm).oZ
theorem Hp.Jj {A B:HP} {l F:List HP} [h2:kr l F] (h:Hp E w (A::B::l)):Hp E w (A::B::F):=by
 obtain ⟨p,e⟩:=h2.sub
 subst e
 exact (h.perm ((List.Perm.cons A List.perm_middle.symm).trans List.perm_middle.symm)).oZ
end
end Go.Vc
namespace Go.Proofs.YtcdpblipagajiaaGreat
open Go Go.Vc
section
variable {E w:World} {F:List HP}
set_option maxRecDepth 200000 in
theorem FN {C:Array Value} {b n c:Nat} {K:Sl→World→Prop} (h:Hp E w (aj b (.cells C 5 (0,0))::F)) (hK: ∀w',Hp E w' (aj b (.cells C 5 (C.size,C.size+1))::F)→K ⟨some ⟨b,0,none⟩,n,c⟩ w'):
  aA Tryz.prog (convert 22 22 (.slice (some ⟨b,0,none⟩) n c)) kS w K:=wW (by kernel_rfl) (by kernel_rfl) h hK
end
end Go.Proofs.YtcdpblipagajiaaGreat
namespace Go.Proofs.YtcdpblipagajiaaGreat
open Go Go.Vc
set_option maxRecDepth 100000
theorem tc.ok (a:(Array Value)) (R:(Array Value)→Int→World→Prop) w (h:
 Nw 36 a w fun c b=>
 Nw 101 ⟨List.replicate 258 (.int .u32 0)⟩ b fun e d=>
 Ld (.arr 258) ⟨c,0,none⟩ d fun f=>
 Cl Pg [kB] dr ⟨[(.agg f)]⟩ d fun (h:Bool) g=>
 aa (!h)
 (Ld (.arr 258) ⟨e,0,none⟩ g fun i=>
 ar 258 ⟨e,0,none⟩ i g fun j=>
 Ld (.arr 258) ⟨e,0,none⟩ j fun k=>
 R k 2 j)
 (Ld (.arr 258) ⟨c,0,none⟩ g fun l=>
 Cl Pg [kS] gU ⟨[(.agg l)]⟩ g fun (n:Sl) m=>
 AR 0 0 0 m fun o p (q:Int) (r:Int) (s:Int) t=>
 aa (decide (s<(n.len:Int)))
 (ao n s 1 fun u=>
 Ld kI u t fun (v:Int)=>
 aB ⟨c,0,none⟩ 258 v 1 fun x=>
 Ld (az .u8) x t fun (y:Int)=>
 0≤(u8 (y - r))∧
 eB t fun z a1=>
 aB ⟨c,0,none⟩ 258 v 1 fun b1=>
 ae (az .u8) b1 z fun (c1:Int)=>
 aB ⟨e,0,none⟩ 258 v 1 fun d1=>
 St d1 (.int .u32 (a8 .u32 q (u8 (y - r)))) a1 fun e1=>
 z e1∧
 o (u32 ((a8 .u32 q (u8 (y - r)))+1)) c1 (i64 (s+1)) e1∧p (u32 ((a8 .u32 q (u8 (y - r)))+1)) c1 (i64 (s+1)) e1<p q r s t)
 (Ld (.arr 258) ⟨e,0,none⟩ t fun f1=>
 ar 258 ⟨e,0,none⟩ f1 t fun g1=>
 Ld (.arr 258) ⟨e,0,none⟩ g1 fun h1=>
 R h1 0 g1))):Cl Pg [(.arr 258),kI] gY ⟨[(.agg a)]⟩ w R:=co Tryz.f97 [(12,[(4,(az .u32)),(5,(az .u8)),(15,kI)])] h
theorem tm.ok (a:(Array Value)) (R:Bool→World→Prop) w (h:
 Nw 36 a w fun c b=>
 Ld (.arr 258) ⟨c,0,none⟩ b fun d=>
 Cl Pg [kB] me ⟨[(.agg d)]⟩ b fun (f:Bool) e=>
 R f e):Cl Pg [kB] dr ⟨[(.agg a)]⟩ w R:=co Tryz.f147 [] h
theorem tD.ok (a:(Array Value)) (R:Sl→World→Prop) w (h:
 Nw 36 a w fun c b=>
 Ld (.arr 258) ⟨c,0,none⟩ b fun d=>
 Cl Pg [kB] dr ⟨[(.agg d)]⟩ b fun (f:Bool) e=>
 aa (!f)
 (R (⟨none,0,0⟩:Sl) e)
 (Ld (.arr 258) ⟨c,0,none⟩ e fun g=>
 cD (⟨none,0,0⟩:Sl) 0 e fun h i (j:Sl) (k:Int) l=>
 aa (decide (k<258))
 (ez (.int .u8) g 258 k fun (m:Int)=>
 aa (decide (m>0))
 (Nw 3 ⟨[(ni k)]⟩ l fun o n=>
 aA Pg (Builtin.append_ #[33,33] 33 ⟨[(al j),(al (⟨some ⟨o,0,none⟩,1,1⟩:Sl))]⟩) kS n fun (q:Sl) p=>
 h q (i64 (k+1)) p∧i q (i64 (k+1)) p<i j k l)
 (h j (i64 (k+1)) l∧i j (i64 (k+1)) l<i j k l))
 (Cl Pg [] bK ⟨[(al j),(.func (.func 188) ⟨[]⟩ ⟨[(.pointer (some ⟨c,0,none⟩))]⟩)]⟩ l fun r=>
 R j r))):Cl Pg [kS] gU ⟨[(.agg a)]⟩ w R:=co Tryz.f148 [(10,[(2,kS),(9,kI)])] h
theorem rn.ok (a:Int) (b:Int) (c:Addr) (R:Int→World→Prop) w (h:
 aq w fun d=>
 aB c 258 a 1 fun e=>
 Ld (az .u8) e d fun (f:Int)=>
 aB c 258 b 1 fun g=>
 Ld (az .u8) g d fun (h:Int)=>
 Cl Pg [kI] fM ⟨[(.int .u8 f),(.int .u8 h)]⟩ d fun (j:Int) i=>
 R j i):Cl Pg [kI] jE ⟨[(ni a),(ni b),(.pointer (some c))]⟩ w R:=co Tryz.f188 [] h
end Go.Proofs.YtcdpblipagajiaaGreat
namespace Go.Proofs.YtcdpblipagajiaaGreat
open Go Go.Vc
set_option maxRecDepth 100000
theorem nk.ok (a:Int) (b:Int) (R:Int→World→Prop) w (h:
 Cl Pg [kB] fQ ⟨[(ni a)]⟩ w fun (d:Bool) c=>
 Cl Pg [kB] fQ ⟨[(ni b)]⟩ c fun (f:Bool) e=>
 aa d
 (aa f
 (R 0 e)
 (R (-1) e))
 (aa f
 (R 1 e)
 (aa (decide (a<b))
 (R (-1) e)
 (aa (decide (a>b))
 (R 1 e)
 (R 0 e))))):Cl Pg [kI] cu ⟨[(ni a),(ni b)]⟩ w R:=co Tryz.f181 [] h
theorem rq.ok (a:Int) (b:Int) (R:Int→World→Prop) w (h:
 Cl Pg [kB] gZ ⟨[(.int .u8 a)]⟩ w fun (d:Bool) c=>
 Cl Pg [kB] gZ ⟨[(.int .u8 b)]⟩ c fun (f:Bool) e=>
 aa d
 (aa f
 (R 0 e)
 (R (-1) e))
 (aa f
 (R 1 e)
 (aa (decide (a<b))
 (R (-1) e)
 (aa (decide (a>b))
 (R 1 e)
 (R 0 e))))):Cl Pg [kI] fM ⟨[(.int .u8 a),(.int .u8 b)]⟩ w R:=co Tryz.f189 [] h
theorem cmp_isNaN_int.ok (a:Int) (R:Bool→World→Prop) w (h:
 R (a !=a) w):Cl Pg [kB] fQ ⟨[(ni a)]⟩ w R:=co Tryz.f202 [] h
theorem na.ok (a:Int) (R:Bool→World→Prop) w (h:
 R (a !=a) w):Cl Pg [kB] gZ ⟨[(.int .u8 a)]⟩ w R:=co Tryz.f205 [] h
theorem CL.ok (a:Sl) (R:Int→World→Prop) w (h:
 dn 0 w fun b c (d:Int) e=>
 aa (decide (d<(a.len:Int)))
 (ao a d 1 fun f=>
 Ld kI f e fun (g:Int)=>
 aa (g !=0)
 (R g e)
 (b (i64 (d+1)) e∧c (i64 (d+1)) e<c d e))
 (R 0 e)):Cl Pg [kI] lY ⟨[(al a)]⟩ w R:=co Tryz.f211 [(7,[(8,kI)])] h
end Go.Proofs.YtcdpblipagajiaaGreat
set_option maxRecDepth 20000
namespace Go.Srt
def Ky (key:Int→Int) (x y:Int):Prop:=key x<key y∨(key x=key y∧x<y)
theorem Ky.trans {key:Int→Int} {x y z:Int} (h:Ky key x y) (h2:Ky key y z):Ky key x z:=by
 unfold Ky at*;omega
abbrev Sd (key:Int→Int) (l:List Int):Prop:=l.Pairwise (Ky key)
theorem n0 {α:Type} (P Q:List α) (x y:α):(P++x::Q).set P.length y=P++y::Q:=by
 rw [List.set_append_right _ _ (Nat.le_refl _)];simp
theorem Gp {α:Type} (P Q:List α) (x:α) (h:P.length<(P++x::Q).length):(P++x::Q)[P.length]=x:=by
 rw [List.getElem_append_right (Nat.le_refl _)];simp
end Go.Srt
namespace Go.Proofs.YtcdpblipagajiaaGreat
open Go Go.Vc Go.Srt
section
variable {E w:World} {F:List HP}
theorem Fk {s:Sl} {xs:List Int} {i j:Int} {K:World→Prop} (h:Hp E w (ah 1 s (xs.map vI)::F)) (hi0:0≤i) (hi:i.toNat<xs.length) (hj0:0≤j) (hj:j.toNat<xs.length)
  (hK: ∀w',Hp E w' (ah 1 s (((xs.set i.toNat xs[j.toNat]).set j.toNat xs[i.toNat]).map vI)::F)→K w'):
  ao s j 1 fun q=>Ld kI q w fun x=>ao s i 1 fun q'=>Ld kI q' w fun y=>ao s i 1 fun q2=>St q2 (.int .i64 x) w fun w1=>ao s j 1 fun q3=>St q3 (.int .i64 y) w1 K:=by
 have hl:=h.aO
 simp only [List.length_map,Nat.mul_one] at hl
 refine ao.rd (h.ag ab.own) hj0 (by omega) fun q hq hc=> ?_
 refine Ld.sc (s:= .int .i64) xs[j.toNat] (by rw [hc];simp [vI]) ?_
 refine ao.rd (h.ag ab.own) hi0 (by omega) fun q' hq' hc'=> ?_
 refine Ld.sc (s:= .int .i64) xs[i.toNat] (by rw [hc'];simp [vI]) ?_
 refine St.own h hi0 (by omega) rfl fun w1 h1=> ?_
 refine St.own h1 hj0 (by omega) rfl fun w2 h2=>hK _ ?_
 rw [List.map_set,List.map_set]
 exact h2
theorem GM {s:Sl} {P Q:List Int} {x y:Int} {i j:Int} {K:World→Prop} (h:Hp E w (ah 1 s ((P++x::y::Q).map vI)::F)) (hi:i=(P.length:Int)) (hj:j=(P.length:Int)+1)
  (hK: ∀w',Hp E w' (ah 1 s ((P++y::x::Q).map vI)::F)→K w'):
  ao s j 1 fun q=>Ld kI q w fun x=>ao s i 1 fun q'=>Ld kI q' w fun y=>ao s i 1 fun q2=>St q2 (.int .i64 x) w fun w1=>ao s j 1 fun q3=>St q3 (.int .i64 y) w1 K:=by
 refine Fk h (by omega) (by simp;omega) (by omega) (by simp;omega) fun w' h'=>hK _ ?_
 have e1:i.toNat=P.length:=by omega
 have e2:j.toNat=(P++ [x]).length:=by simp;omega
 have g1:(P++x::y::Q)[i.toNat]'(by simp;omega)=x:=by simp only [e1];exact Gp _ _ _ _
 have g2:(P++x::y::Q)[j.toNat]'(by simp;omega)=y:=by
  have:=Gp (P++ [x]) Q y (by simp)
  simp only [e2];simp
 rw [g1,g2,e1,n0,e2,show (P++y::y::Q)=(P++ [y])++y::Q by simp,show (P++ [x]).length=(P++ [y]).length by simp,n0] at h'
 simpa using h'
theorem Bo {s:Sl} {P Q:List Int} {x y:Int} {i j:Int} {K:World→Prop} (h:Hp E w (ah 1 s ((P++x::y::Q).map vI)::F)) (hi:i=(P.length:Int)) (hj:j=(P.length:Int)+1)
  (hK: ∀w',Hp E w' (ah 1 s ((P++y::x::Q).map vI)::F)→K w'):
  ao s i 1 fun q=>Ld kI q w fun x=>ao s j 1 fun q'=>Ld kI q' w fun y=>ao s j 1 fun q2=>St q2 (.int .i64 x) w fun w1=>ao s i 1 fun q3=>St q3 (.int .i64 y) w1 K:=by
 refine Fk h (by omega) (by simp;omega) (by omega) (by simp;omega) fun w' h'=>hK _ ?_
 have e1:i.toNat=P.length:=by omega
 have e2:j.toNat=(P++ [x]).length:=by simp;omega
 have g1:(P++x::y::Q)[i.toNat]'(by simp;omega)=x:=by simp only [e1];exact Gp _ _ _ _
 have g2:(P++x::y::Q)[j.toNat]'(by simp;omega)=y:=by
  have:=Gp (P++ [x]) Q y (by simp)
  simp only [e2];simp
 rw [g1,g2,e2,show (P++x::y::Q)=(P++ [x])++y::Q by simp,n0,e1,show (P++ [x])++x::Q=P++x::x::Q by simp,n0] at h'
 simpa using h'
theorem yx {s:Sl} {P A C B Q:List Int} {fv:Value} {a b n:Int} {K:World→Prop} (h:Hp E w (ah 1 s ((P++A++C++B++Q).map vI)::F)) (hab:A.length=B.length) (hbig:(P++A++C++B++Q).length≤cf)
  (ha:a=(P.length:Int)) (hb:b=((P++A++C).length:Int)) (hn:n=(A.length:Int)) (hK: ∀w',Hp E w' (ah 1 s ((P++B++C++A++Q).map vI)::F)→K w'):
  Cl Tryz.prog [] bu ⟨[.slice s.base s.len s.cap,.int .i64 a,.int .i64 b,.int .i64 n,fv]⟩ w K:=by
 subst ha;subst hb;subst hn
 refine ko.ok _ _ _ _ _ _ _ ?_
 rw [av] at hbig
 simp only [List.length_append] at hbig
 refine ⟨fun i w'=> ∃k:Nat,i=(k:Int)∧k≤A.length∧Hp E w' (ah 1 s ((P++(B.take k++A.drop k)++C++(A.take k++B.drop k)++Q).map vI)::F),fun i _=>A.length - i.toNat,⟨0,rfl,by omega,by simpa using h⟩,?_⟩
 rintro i w' ⟨k,rfl,hk,hh⟩
 refine aa.mk (fun hlt=> ?_) (fun hge=> ?_)
 ·have hlt:k<A.length:=by have:=of_decide_eq_true hlt;omega
  refine aq.mk hh fun w1 h1=> ?_
  simp only [List.length_append]
  rw [ad (x:=((P.length+A.length+C.length:Nat):Int)+(k:Int)) (by omega),ad (x:=(P.length:Int)+(k:Int)) (by omega)]
  have hkB:k<B.length:=by omega
  refine Fk h1 (by omega) (by simp;omega) (by omega) (by simp;omega) fun w2 h2=> ?_
  rw [ad (by omega)]
  refine ⟨⟨k+1,rfl,by omega,?_⟩,by omega⟩
  have e1:((P.length:Int)+(k:Int)).toNat=P.length+k:=by omega
  have e2:(((P.length+A.length+C.length:Nat):Int)+(k:Int)).toNat=P.length+A.length+C.length+k:=by omega
  have dA:A.drop k=A[k]::A.drop (k+1):=(List.drop_eq_getElem_cons hlt)
  have dB:B.drop k=B[k]::B.drop (k+1):=(List.drop_eq_getElem_cons hkB)
  have tA:A.take (k+1)=A.take k++ [A[k]]:=by rw [List.take_add_one,List.getElem?_eq_getElem hlt];rfl
  have tB:B.take (k+1)=B.take k++ [B[k]]:=by rw [List.take_add_one,List.getElem?_eq_getElem hkB];rfl
  have X:P++(B.take k++A.drop k)++C++(A.take k++B.drop k)++Q=(P++B.take k)++A[k]::(A.drop (k+1)++C++A.take k++B[k]::(B.drop (k+1)++Q)):=by rw [dA,dB];simp only [List.append_assoc,List.cons_append,List.nil_append]
  have l1:(P++B.take k).length=P.length+k:=by simp;omega
  have X2: ∀z,(P++B.take k)++z::(A.drop (k+1)++C++A.take k++B[k]::(B.drop (k+1)++Q))=(P++B.take k++z::(A.drop (k+1)++C++A.take k))++B[k]::(B.drop (k+1)++Q):=by intro z;simp only [List.append_assoc,List.cons_append,List.nil_append]
  have l2: ∀z:Int,(P++B.take k++z::(A.drop (k+1)++C++A.take k)).length=P.length+A.length+C.length+k:=by intro z;simp;omega
  have g1:(P++(B.take k++A.drop k)++C++(A.take k++B.drop k)++Q)[((P.length:Int)+(k:Int)).toNat]? =some A[k]:=by
   rw [X,e1,←l1,List.getElem?_append_right (Nat.le_refl _)];simp
  have g2:(P++(B.take k++A.drop k)++C++(A.take k++B.drop k)++Q)[(((P.length+A.length+C.length:Nat):Int)+(k:Int)).toNat]? =some B[k]:=by
   rw [X,X2,e2,←l2 A[k],List.getElem?_append_right (Nat.le_refl _)];simp
  have g1':=(List.getElem?_eq_some_iff.1 g1).2
  have g2':=(List.getElem?_eq_some_iff.1 g2).2
  rw [g1',g2',e1,e2,X] at h2
  rw [←l1,n0,X2,←l2 B[k],n0] at h2
  have Y:P++B.take k++B[k]::(A.drop (k+1)++C++A.take k)++A[k]::(B.drop (k+1)++Q)=P++(B.take (k+1)++A.drop (k+1))++C++(A.take (k+1)++B.drop (k+1))++Q:=by rw [tA,tB];simp only [List.append_assoc,List.cons_append,List.nil_append]
  rw [Y] at h2
  exact h2
 ·have hge:k=A.length:=by have:=of_decide_eq_false hge;omega
  subst hge
  refine hK _ ?_
  rw [List.drop_eq_nil_of_le (Nat.le_refl _),List.take_length,List.take_of_length_le (by omega),List.drop_eq_nil_of_le (by omega)] at hh
  simpa using hh
theorem FK {s:Sl} {P A B Q:List Int} {fv:Value} {a m b:Int} {K:World→Prop} (h:Hp E w (ah 1 s ((P++A++B++Q).map vI)::F)) (hA:A≠ []) (hB:B≠ []) (hbig:(P++A++B++Q).length≤cf)
  (ha:a=(P.length:Int)) (hm:m=((P++A).length:Int)) (hb:b=((P++A++B).length:Int)) (hK: ∀w',Hp E w' (ah 1 s ((P++B++A++Q).map vI)::F)→K w'):
  Cl Tryz.prog [] di ⟨[.slice s.base s.len s.cap,.int .i64 a,.int .i64 m,.int .i64 b,fv]⟩ w K:=by
 subst ha;subst hm;subst hb
 refine mm.ok _ _ _ _ _ _ _ ?_
 have hbg:=hbig
 rw [av] at hbig
 simp only [List.length_append] at hbig
 have hA1:=List.length_pos_iff.2 hA
 have hB1:=List.length_pos_iff.2 hB
 refine ⟨fun i j w'=> ∃P' A' B' Q':List Int,i=(A'.length:Int)∧j=(B'.length:Int)∧A'≠ []∧B'≠ []∧(P'++A').length=(P++A).length∧P'++B'++A'++Q'=P++B++A++Q∧Hp E w' (ah 1 s ((P'++A'++B'++Q').map vI)::F),
  fun i j _=>i.toNat+j.toNat,⟨P,A,B,Q,?_,?_,hA,hB,rfl,rfl,h⟩,?_⟩
 ·simp only [List.length_append];rw [ad (by omega)];omega
 ·simp only [List.length_append];rw [ad (by omega)];omega
 ·rintro i j w' ⟨P',A',B',Q',rfl,rfl,hA',hB',hm',htot,hh⟩
  have hA2:=List.length_pos_iff.2 hA'
  have hB2:=List.length_pos_iff.2 hB'
  have hlen:=congrArg List.length htot
  simp only [List.length_append] at hlen hm'⊢
  refine aa.mk (fun hne=>aa.mk (fun hgt=> ?_) (fun hle=> ?_)) (fun heq=> ?_)
  ·have hgt:=of_decide_eq_true hgt
   have hsp:A'.take B'.length++A'.drop B'.length=A':=List.take_append_drop _ _
   have ht:(A'.take B'.length).length=B'.length:=by simp;omega
   generalize A'.take B'.length=A1 at hsp ht
   generalize A'.drop B'.length=A2 at hsp
   subst hsp
   simp only [List.length_append] at hgt hlen hm' hA2⊢
   rw [ad (by omega),ad (by omega)]
   refine yx (P:=P') (A:=A1) (C:=A2) (B:=B') (Q:=Q') (by simpa using hh) ht (by rw [av];simp only [List.length_append];omega) (by omega) (by simp only [List.length_append];omega) (by omega) fun w2 h2=> ?_
   refine ⟨⟨P'++B',A2,A1,Q',by omega,by omega,?_,?_,by simp only [List.length_append];omega,by rw [←htot];simp only [List.append_assoc],by simpa using h2⟩,by omega⟩
   ·intro h0;rw [h0] at hgt;simp at hgt;omega
   ·intro h0;rw [h0] at ht;simp at ht;omega
  ·have hle:=of_decide_eq_false hle
   have hne: ¬(A'.length:Int)=(B'.length:Int):=by simpa using hne
   have hsp:B'.take (B'.length - A'.length)++B'.drop (B'.length - A'.length)=B':=List.take_append_drop _ _
   have ht:(B'.drop (B'.length - A'.length)).length=A'.length:=by simp;omega
   generalize B'.take (B'.length - A'.length)=B1 at hsp
   generalize B'.drop (B'.length - A'.length)=B2 at hsp ht
   subst hsp
   simp only [List.length_append] at hle hlen hne hB2⊢
   simp (disch:=omega) only [ad]
   refine yx (P:=P') (A:=A') (C:=B1) (B:=B2) (Q:=Q') (by simpa using hh) ht.symm (by rw [av];simp only [List.length_append];omega) (by omega) (by simp only [List.length_append];omega) rfl fun w2 h2=> ?_
   refine ⟨⟨P',B2,B1,A'++Q',by omega,by omega,?_,?_,by omega,by rw [←htot];simp only [List.append_assoc],by simpa using h2⟩,by omega⟩
   ·intro h0;rw [h0] at ht;simp at ht;omega
   ·intro h0;rw [h0] at hne;simp at hne;omega
  ·have heq:(A'.length:Int)=(B'.length:Int):=by simpa using heq
   rw [ad (by omega)]
   refine yx (P:=P') (A:=A') (C:= []) (B:=B') (Q:=Q') (by simpa using hh) (by omega) (by rw [av];simp;omega) (by omega) (by simp;omega) rfl fun w2 h2=>hK _ ?_
   rw [←htot]
   simpa using h2
def qX (E:World) (F:List HP) (fv:Value) (key:Int→Int) (D:Int→Prop):Prop:=
 ∀(A:List HP) (w:World) (y x:Int) (K:Int→World→Prop),Hp E w (A++F)→D x→D y→(∀z w',(z<0↔key y<key x)→Hp E w' (A++F)→K z w')→gO Tryz.prog fv [kI] [.int .i64 y,.int .i64 x] w K
theorem sS {key:Int→Int} {x y:Int} (h:x<y):(key y<key x↔Ky key y x)∧(¬key y<key x↔Ky key x y):=by
 unfold Ky;constructor<;>constructor<;>intro h2<;>omega
theorem Hy {key:Int→Int} {S:List Int} {y x:Int} (h:Sd key (S++ [y])) (hy:Ky key y x): ∀z∈S++ [y],Ky key z x:=by
 intro z hz
 rcases List.mem_append.1 hz with hz|hz
 ·have:=(List.pairwise_append.1 h).2.2 z hz y (by simp)
  exact this.trans hy
 ·have:z=y:=by simpa using hz
  subst this;exact hy
theorem rN {s:Sl} {P L Q:List Int} {fv:Value} {key:Int→Int} {D:Int→Prop} {a b:Int} {K:World→Prop} (h:Hp E w (ah 1 s ((P++L++Q).map vI)::F)) (hbig:(P++L++Q).length≤cf)
  (hc:qX E F fv key D) (hD: ∀x∈L,D x) (hL:L.Pairwise (·< ·)) (ha:a=(P.length:Int)) (hb:b=((P++L).length:Int))
  (hK: ∀M w',M.Perm L→Sd key M→Hp E w' (ah 1 s ((P++M++Q).map vI)::F)→K w'):
  Cl Tryz.prog [] bz ⟨[.slice s.base s.len s.cap,.int .i64 a,.int .i64 b,fv]⟩ w K:=by
 subst ha;subst hb
 refine iZ.ok _ _ _ _ _ _ ?_
 rw [av] at hbig
 simp only [List.length_append] at hbig⊢
 refine ⟨fun i w'=> ∃(k:Nat) (S:List Int),i=((P.length+k:Nat):Int)∧1≤k∧S.Perm (L.take k)∧Sd key S∧Hp E w' (ah 1 s ((P++S++L.drop k++Q).map vI)::F),fun i _=>P.length+L.length - i.toNat,⟨1,L.take 1,?_,by omega,List.Perm.refl _,?_,by rw [List.append_assoc P,List.take_append_drop];exact h⟩,?_⟩
 ·rw [ad (by omega)];omega
 ·cases L<;>simp
 rintro i w' ⟨k,S,rfl,hk1,hS,hsd,hh⟩
 refine aa.mk (fun hlt=> ?_) (fun hge=> ?_)
 ·have hlt:k<L.length:=by have:=of_decide_eq_true hlt;omega
  have hSl:S.length=k:=by have:=hS.length_eq;rw [List.length_take] at this;omega
  have dL:L.drop k=L[k]::L.drop (k+1):=List.drop_eq_getElem_cons hlt
  have tL:L.take (k+1)=L.take k++ [L[k]]:=by rw [List.take_add_one,List.getElem?_eq_getElem hlt];rfl
  have hxin:L[k]∈L:=List.getElem_mem hlt
  have hless: ∀y∈S,y<L[k]:=by
   intro y hy
   have hy':y∈L.take k:=hS.mem_iff.1 hy
   rw [←List.take_append_drop k L,List.pairwise_append] at hL
   exact hL.2.2 y hy' L[k] (by rw [dL];exact List.mem_cons_self ..)
  have hSin: ∀y∈S,y∈L:=fun y hy=>List.mem_of_mem_take (hS.mem_iff.1 hy)
  generalize L[k]=x at*
  refine ⟨fun j w'=> ∃S1 S2:List Int,j=((P.length+S1.length:Nat):Int)∧S=S1++S2∧(∀y∈S2,Ky key x y)∧Hp E w' (ah 1 s ((P++S1++x::S2++L.drop (k+1)++Q).map vI)::F),fun j _=>j.toNat - P.length,⟨S,[],by omega,by simp,by simp,?_⟩,?_⟩
  ·rw [dL] at hh;simpa using hh
  rintro j w' ⟨S1,S2,rfl,rfl,hS2,hh⟩
  have fin: ∀w',(∀y∈S1,Ky key y x)→Hp E w' (ah 1 s ((P++S1++x::S2++L.drop (k+1)++Q).map vI)::F)→
    (∃(k_1:Nat) (S:List Int),i64 (((P.length+k:Nat):Int)+1)=((P.length+k_1:Nat):Int)∧1≤k_1∧S.Perm (L.take k_1)∧Sd key S∧Hp E w' (ah 1 s ((P++S++L.drop k_1++Q).map vI)::F))∧P.length+L.length - (i64 (((P.length+k:Nat):Int)+1)).toNat<P.length+L.length - (((P.length+k:Nat):Int)).toNat:=by
   intro w' hS1 hh
   rw [ad (by omega)]
   refine ⟨⟨k+1,S1++x::S2,by omega,by omega,?_,?_,by simpa using hh⟩,by omega⟩
   ·rw [tL]
    refine List.perm_middle.trans ?_
    exact (List.Perm.cons x hS).trans (List.perm_append_comm (l₁:= [x]))
   ·obtain ⟨p1,p2,p3⟩:=List.pairwise_append.1 hsd
    refine List.pairwise_append.2 ⟨p1,List.pairwise_cons.2 ⟨hS2,p2⟩,fun y hy z hz=> ?_⟩
    rcases List.mem_cons.1 hz with rfl|hz
    ·exact hS1 y hy
    ·exact p3 y hy z hz
  refine aq.mk hh fun w1 h1=>aa.mk (fun hgt=> ?_) (fun hle=> ?_)
  ·have hgt:=of_decide_eq_true hgt
   rcases List.eq_nil_or_concat S1 with rfl|⟨S1',y,rfl⟩
   ·simp at hgt
   ·rw [List.concat_eq_append] at*
    simp only [List.length_append,List.length_cons,List.length_nil] at*
    have hln:=h1.aO
    simp only [List.length_map,List.length_append,List.length_cons,List.length_nil,Nat.mul_one] at hln
    rw [ad (by omega)]
    have hform:P++(S1'++ [y])++x::S2++L.drop (k+1)++Q=(P++S1')++y::x::(S2++L.drop (k+1)++Q):=by simp
    have gx:(P++(S1'++ [y])++x::S2++L.drop (k+1)++Q)[P.length+S1'.length+1]? =some x:=by
     rw [hform,show P.length+S1'.length+1=(P++S1').length+1 by simp,List.getElem?_append_right (by omega)];simp
    have gy:(P++(S1'++ [y])++x::S2++L.drop (k+1)++Q)[P.length+S1'.length]? =some y:=by
     rw [hform,show P.length+S1'.length=(P++S1').length by simp,List.getElem?_append_right (by omega)];simp
    refine ao.rd (h1.ag ab.own) (by omega) (by omega) fun q hq hc1=> ?_
    refine Ld.sc (s:= .int .i64) x (by
     rw [hc1,←List.getElem?_eq_getElem,List.getElem?_map,show (((P.length+(S1'.length+(0+1)):Nat):Int)).toNat=P.length+S1'.length+1 by omega,gx];rfl) ?_
    refine ao.rd (h1.ag ab.own) (by omega) (by omega) fun q2 hq2 hc2=> ?_
    refine Ld.sc (s:= .int .i64) y (by
     rw [hc2,←List.getElem?_eq_getElem,List.getElem?_map,show (((P.length+(S1'.length+(0+1)):Nat):Int) - 1).toNat=P.length+S1'.length by omega,gy];rfl) ?_
    refine hc [_] w1 x y _ h1 (hD y (hSin y (by simp))) (hD x hxin) fun z w2 hz h2=> ?_
    have hyx:=sS (key:=key) (hless y (by simp))
    refine aa.mk (fun hneg=> ?_) (fun hpos=> ?_)
    ·have hneg:=hyx.1.1 (hz.1 (of_decide_eq_true hneg))
     refine aq.mk h2 fun w3 h3=> ?_
     refine Bo (P:=P++S1') (Q:=S2++L.drop (k+1)++Q) (x:=y) (y:=x) (by rw [←hform];exact h3) (by simp;omega) (by simp;omega) fun w4 h4=> ?_
     refine ⟨⟨S1',y::S2,by omega,by simp,?_,by simpa using h4⟩,by omega⟩
     intro z hz
     rcases List.mem_cons.1 hz with rfl|hz
     ·exact hneg
     ·exact hS2 z hz
    ·have hpos:=hyx.2.1 (fun hk=>(of_decide_eq_false hpos) (hz.2 hk))
     exact fin w2 (Hy (List.pairwise_append.1 hsd).1 hpos) h2
  ·have hle:=of_decide_eq_false hle
   have:S1= []:=List.length_eq_zero_iff.1 (by omega)
   subst this
   exact fin w1 (by simp) h1
 ·have hge:L.length≤k:=by have:=of_decide_eq_false hge;omega
  rw [List.take_of_length_le hge] at hS
  rw [List.drop_eq_nil_of_le hge] at hh
  exact hK S _ hS hsd (by simpa using hh)
end
end Go.Proofs.YtcdpblipagajiaaGreat
set_option maxRecDepth 20000
namespace Go.Proofs.YtcdpblipagajiaaGreat
open Go Go.Vc Go.Srt
section
variable {E w:World} {F:List HP}
theorem zx {s:Sl} {xs:List Int} {i:Int} {x:Int} {K:Int→Prop} (h:Hp E w (ah 1 s (xs.map vI)::F)) (h0:0≤i) (hx:xs[i.toNat]? =some x) (hK:K x):ao s i 1 fun q=>Ld kI q w K:=by
 have hl:=h.aO
 simp only [List.length_map,Nat.mul_one] at hl
 have hi:=(List.getElem?_eq_some_iff.1 hx).1
 refine ao.rd (h.ag ab.own) h0 (by omega) fun q hq hc=> ?_
 refine Ld.sc (s:= .int .i64) x (by rw [hc,←List.getElem?_eq_getElem,List.getElem?_map,hx];rfl) hK
theorem ifs {c1 c2:Bool} {X Y:Prop} (h1:c1=true→c2=true→Y) (h2:c1=false∨c2=false→X):aa c1 (aa c2 Y X) X:=by
 cases c1<;>cases c2<;>simp [aa]<;>first|exact h1 rfl rfl|exact h2 (.inl rfl)|exact h2 (.inr rfl)
theorem yu {α:Type} {r:α} {k:α→Prop} (C:α→Prop) (h1:C r) (h2: ∀K,C K→k K):bf r k:=h2 r h1
theorem wM {a b:Int} {k:Nat} (h:a+b=(k:Int)) (hk:k≤4*cf):i64 (aF .u64 (u64 (i64 (a+b))) 1)=((k/2:Nat):Int):=by
 rw [av] at hk
 rw [h,ad (x:=(k:Int)) (by omega),lQ (x:=(k:Int)) (by omega)]
 have:=bO (k:= .u64) (a:=k) (b:=1) (by decide)
 rw [show (1:Int)=((1:Nat):Int) from rfl,this,ad (by omega)]
theorem wV {key:Int→Int} {R:List Int} (h:Sd key R) {t u:Nat} (hu:u<R.length) (ht:t≤u) {x:Int} (hx:Ky key R[u] x):Ky key (R[t]'(by omega)) x:=by
 by_cases e:t=u
 ·subst e;exact hx
 ·exact ((List.pairwise_iff_getElem.1 h) t u (by omega) hu (by omega)).trans hx
theorem wO {key:Int→Int} {R:List Int} (h:Sd key R) {t u:Nat} (hu:u<R.length) (ht:t≤u) {x:Int} (hx:Ky key x (R[t]'(by omega))):Ky key x R[u]:=by
 by_cases e:t=u
 ·subst e;exact hx
 ·exact hx.trans ((List.pairwise_iff_getElem.1 h) t u (by omega) hu (by omega))
theorem DJ {key:Int→Int} {A B:List Int} {x:Int} (h:Sd key (A++B)) (h1: ∀y∈A,Ky key y x) (h2: ∀y∈B,Ky key x y):Sd key (A++x::B):=by
 obtain ⟨p1,p2,p3⟩:=List.pairwise_append.1 h
 refine List.pairwise_append.2 ⟨p1,List.pairwise_cons.2 ⟨h2,p2⟩,fun y hy z hz=> ?_⟩
 rcases List.mem_cons.1 hz with rfl|hz
 ·exact h1 y hy
 ·exact p3 y hy z hz
theorem kX {s:Sl} {fv:Value} {key:Int→Int} {D:Int→Prop} (hc:qX E F fv key D):
  ∀(N:Nat) {P L R Q:List Int} {w:World} {a m b:Int} {K:World→Prop},L.length+R.length≤N→Hp E w (ah 1 s ((P++L++R++Q).map vI)::F)→(P++L++R++Q).length≤cf→
  L≠ []→R≠ []→Sd key L→Sd key R→(∀x∈L,∀y∈R,x<y)→(∀x∈L,D x)→(∀x∈R,D x)→a=(P.length:Int)→m=((P.length+L.length:Nat):Int)→b=((P.length+L.length+R.length:Nat):Int)→
  (∀M w',M.Perm (L++R)→Sd key M→Hp E w' (ah 1 s ((P++M++Q).map vI)::F)→K w')→
  Cl Tryz.prog [] aN ⟨[.slice s.base s.len s.cap,.int .i64 a,.int .i64 m,.int .i64 b,fv]⟩ w K
 |0,P,L,R,Q,w,a,m,b,K,hN,_,_,hL,_,_,_,_,_,_,_,_,_,_=>absurd (List.length_eq_zero_iff.1 (by omega:L.length=0)) hL
 |N+1,P,L,R,Q,w,a,m,b,K,hN,h,hbig,hL,hR,hsL,hsR,hLR,hDL,hDR,ha,hm,hb,hK=>by
  subst ha;subst hm;subst hb
  refine kN.ok _ _ _ _ _ _ _ ?_
  have hbg:=hbig
  rw [av] at hbig
  simp only [List.length_append] at hbig
  have hL1:=List.length_pos_iff.2 hL
  have hR1:=List.length_pos_iff.2 hR
  refine aa.mk (fun h1=> ?_) (fun h1=>aa.mk (fun h2=> ?_) (fun h2=> ?_))
  ·have h1:L.length=1:=by
    rw [ad (by omega)] at h1
    have:=of_decide_eq_true h1;omega
   obtain ⟨x,rfl⟩:=List.length_eq_one_iff.1 h1
   simp only [List.length_cons,List.length_nil,Nat.zero_add] at hbig⊢
   have gR: ∀t (ht:t<R.length),(P++ [x]++R++Q)[P.length+1+t]? =some R[t]:=by
    intro t ht
    rw [List.append_assoc (P++ [x]),List.getElem?_append_right (by simp<;>omega),List.getElem?_append_left (by simp<;>omega)]
    simp only [List.length_append,List.length_cons,List.length_nil]
    rw [show P.length+1+t - (P.length+(0+1))=t by omega,List.getElem?_eq_getElem ht]
   have gx:(P++ [x]++R++Q)[P.length]? =some x:=by
    rw [show P++ [x]++R++Q=P++x::(R++Q) by simp,List.getElem?_append_right (Nat.le_refl _)];simp
   refine ⟨fun i j w'=> ∃u v:Nat,i=((P.length+1+u:Nat):Int)∧j=((P.length+1+v:Nat):Int)∧u≤v∧v≤R.length∧(∀t (_:t<u) (h:t<R.length),Ky key R[t] x)∧(∀t (_:v≤t) (h:t<R.length),Ky key x R[t])∧Hp E w' (ah 1 s ((P++ [x]++R++Q).map vI)::F),
    fun i j _=>j.toNat - i.toNat,⟨0,R.length,rfl,by omega,by omega,Nat.le_refl _,fun t ht=>by omega,fun t ht h=>by omega,h⟩,?_⟩
   rintro i j w' ⟨u,v,rfl,rfl,huv,hv,hlo,hhi,hh⟩
   refine aa.mk (fun hlt=> ?_) (fun hge=> ?_)
   ·have hlt:=of_decide_eq_true hlt
    have hlt:u<v:=by omega
    refine ⟨by decide,aq.mk hh fun w1 h1=> ?_⟩
    rw [wM (k:=P.length+1+u+(P.length+1+v)) (by omega) (by rw [av];omega)]
    obtain ⟨t,ht⟩: ∃t,(P.length+1+u+(P.length+1+v))/2=P.length+1+t:=⟨(u+v)/2,by omega⟩
    rw [ht]
    have htu:u≤t:=by omega
    have htv:t<v:=by omega
    have htR:t<R.length:=by omega
    refine zx h1 (by omega) (x:=R[t]) (by rw [Int.toNat_natCast];exact gR t htR) ?_
    refine zx h1 (by omega) (x:=x) (by rw [Int.toNat_natCast];exact gx) ?_
    have hxy:=hLR x (by simp) R[t] (List.getElem_mem htR)
    have hyx:=sS (key:=key) hxy
    refine hc [_] w1 R[t] x _ h1 (hDL x (by simp)) (hDR _ (List.getElem_mem htR)) fun z w2 hz h2=> ?_
    refine aa.mk (fun hneg=> ?_) (fun hpos=> ?_)
    ·have hneg:=hyx.1.1 (hz.1 (of_decide_eq_true hneg))
     rw [ad (by omega)]
     exact ⟨⟨t+1,v,by omega,rfl,by omega,hv,fun t' h' hl=>wV hsR htR (by omega) hneg,hhi,h2⟩,by dsimp only;omega⟩
    ·have hpos:=hyx.2.1 (fun hk=>(of_decide_eq_false hpos) (hz.2 hk))
     exact ⟨⟨u,t,rfl,rfl,htu,by omega,hlo,fun t' h' hl=>wO hsR hl h' hpos,h2⟩,by dsimp only;omega⟩
   ·have hge:u=v:=by have:=of_decide_eq_false hge;omega
    subst hge
    refine ⟨fun k w'=> ∃t:Nat,k=((P.length+t:Nat):Int)∧t≤u∧Hp E w' (ah 1 s ((P++R.take t++x::R.drop t++Q).map vI)::F),fun k _=>P.length+u - k.toNat,⟨0,rfl,by omega,by simpa using hh⟩,?_⟩
    rintro k w' ⟨t,rfl,htu,hh⟩
    rw [ad (by omega)]
    refine aa.mk (fun hlt=> ?_) (fun hge=> ?_)
    ·have hlt:t<u:=by have:=of_decide_eq_true hlt;omega
     have htR:t<R.length:=by omega
     have dR:R.drop t=R[t]::R.drop (t+1):=List.drop_eq_getElem_cons htR
     have tR:R.take (t+1)=R.take t++ [R[t]]:=by rw [List.take_add_one,List.getElem?_eq_getElem htR];rfl
     refine aq.mk hh fun w1 h1=> ?_
     rw [ad (x:=((P.length+t:Nat):Int)+1) (by omega)]
     refine GM (P:=P++R.take t) (Q:=R.drop (t+1)++Q) (x:=x) (y:=R[t]) (by rw [dR] at h1;simpa only [List.append_assoc,List.cons_append] using h1) (by simp;omega) (by simp;omega) fun w2 h2=> ?_
     exact ⟨⟨t+1,by omega,by omega,by rw [tR];simpa only [List.append_assoc,List.cons_append,List.nil_append] using h2⟩,by dsimp only;omega⟩
    ·have hge:t=u:=by have:=of_decide_eq_false hge;omega
     subst hge
     refine hK (R.take t++x::R.drop t) _ ?_ ?_ (by simpa only [List.append_assoc,List.cons_append] using hh)
     ·refine List.perm_middle.trans ?_
      rw [List.take_append_drop];exact List.Perm.refl _
     ·refine DJ (by rw [List.take_append_drop];exact hsR) (fun y hy=> ?_) (fun y hy=> ?_)
      ·obtain ⟨i,hi,rfl⟩:=List.getElem_of_mem hy
       rw [List.getElem_take]
       exact hlo i (by simp at hi;omega) _
      ·obtain ⟨i,hi,rfl⟩:=List.getElem_of_mem hy
       rw [List.getElem_drop]
       exact hhi _ (by omega) _
  ·have h2:R.length=1:=by
    rw [ad (by omega)] at h2
    have:=of_decide_eq_true h2;omega
   obtain ⟨y,rfl⟩:=List.length_eq_one_iff.1 h2
   simp only [List.length_cons,List.length_nil,Nat.zero_add] at hbig⊢
   have gL: ∀t (ht:t<L.length),(P++L++ [y]++Q)[P.length+t]? =some L[t]:=by
    intro t ht
    rw [List.append_assoc (P++L),List.append_assoc P,List.getElem?_append_right (by omega),List.getElem?_append_left (by omega)]
    rw [show P.length+t - P.length=t by omega,List.getElem?_eq_getElem ht]
   have gy:(P++L++ [y]++Q)[P.length+L.length]? =some y:=by
    rw [show P++L++ [y]++Q=(P++L)++y::Q by simp,List.getElem?_append_right (by simp)];simp
   refine ⟨fun i j w'=> ∃u v:Nat,i=((P.length+u:Nat):Int)∧j=((P.length+v:Nat):Int)∧u≤v∧v≤L.length∧(∀t (_:t<u) (h:t<L.length),Ky key L[t] y)∧(∀t (_:v≤t) (h:t<L.length),Ky key y L[t])∧Hp E w' (ah 1 s ((P++L++ [y]++Q).map vI)::F),
    fun i j _=>j.toNat - i.toNat,⟨0,L.length,rfl,rfl,by omega,Nat.le_refl _,fun t ht=>by omega,fun t ht h=>by omega,h⟩,?_⟩
   rintro i j w' ⟨u,v,rfl,rfl,huv,hv,hlo,hhi,hh⟩
   refine aa.mk (fun hlt=> ?_) (fun hge=> ?_)
   ·have hlt:=of_decide_eq_true hlt
    have hlt:u<v:=by omega
    refine ⟨by decide,aq.mk hh fun w1 h1=> ?_⟩
    rw [wM (k:=P.length+u+(P.length+v)) (by omega) (by rw [av];omega)]
    obtain ⟨t,ht⟩: ∃t,(P.length+u+(P.length+v))/2=P.length+t:=⟨(u+v)/2,by omega⟩
    rw [ht]
    have htu:u≤t:=by omega
    have htv:t<v:=by omega
    have htL:t<L.length:=by omega
    refine zx h1 (by omega) (x:=y) (by rw [Int.toNat_natCast];exact gy) ?_
    refine zx h1 (by omega) (x:=L[t]) (by rw [Int.toNat_natCast];exact gL t htL) ?_
    have hxy:=hLR L[t] (List.getElem_mem htL) y (by simp)
    have hyx:=sS (key:=key) hxy
    refine hc [_] w1 y L[t] _ h1 (hDL _ (List.getElem_mem htL)) (hDR y (by simp)) fun z w2 hz h2=> ?_
    refine aa.mk (fun hneg=> ?_) (fun hpos=> ?_)
    ·have hneg: ¬z<0:=by simpa using hneg
     have hneg:=hyx.2.1 (fun hk=>hneg (hz.2 hk))
     rw [ad (by omega)]
     exact ⟨⟨t+1,v,by omega,rfl,by omega,hv,fun t' h' hl=>wV hsL htL (by omega) hneg,hhi,h2⟩,by dsimp only;omega⟩
    ·have hpos:z<0:=by simpa using hpos
     have hpos:=hyx.1.1 (hz.1 hpos)
     exact ⟨⟨u,t,rfl,rfl,htu,by omega,hlo,fun t' h' hl=>wO hsL hl h' hpos,h2⟩,by dsimp only;omega⟩
   ·have hge:u=v:=by have:=of_decide_eq_false hge;omega
    subst hge
    refine ⟨fun k w'=> ∃t:Nat,k=((P.length+t:Nat):Int)∧u≤t∧t≤L.length∧Hp E w' (ah 1 s ((P++L.take t++y::L.drop t++Q).map vI)::F),fun k _=>k.toNat,⟨L.length,rfl,by omega,Nat.le_refl _,by simpa using hh⟩,?_⟩
    rintro k w' ⟨t,rfl,htu,htl,hh⟩
    refine aa.mk (fun hlt=> ?_) (fun hge=> ?_)
    ·have hlt:u<t:=by have:=of_decide_eq_true hlt;omega
     obtain ⟨t,rfl⟩: ∃t',t=t'+1:=⟨t - 1,by omega⟩
     have htL:t<L.length:=by omega
     have dL:L.drop t=L[t]::L.drop (t+1):=List.drop_eq_getElem_cons htL
     have tL:L.take (t+1)=L.take t++ [L[t]]:=by rw [List.take_add_one,List.getElem?_eq_getElem htL];rfl
     refine aq.mk hh fun w1 h1=> ?_
     rw [ad (x:=((P.length+(t+1):Nat):Int) - 1) (by omega)]
     refine Bo (P:=P++L.take t) (Q:=L.drop (t+1)++Q) (x:=L[t]) (y:=y) (by rw [tL] at h1;simpa only [List.append_assoc,List.cons_append,List.nil_append] using h1) (by simp;omega) (by simp;omega) fun w2 h2=> ?_
     exact ⟨⟨t,by omega,by omega,by omega,by rw [dL];simpa only [List.append_assoc,List.cons_append,List.nil_append] using h2⟩,by dsimp only;omega⟩
    ·have hge:t=u:=by have:=of_decide_eq_false hge;omega
     subst hge
     refine hK (L.take t++y::L.drop t) _ ?_ ?_ (by simpa only [List.append_assoc,List.cons_append] using hh)
     ·refine List.perm_middle.trans ?_
      rw [List.take_append_drop];exact List.perm_append_comm (l₁:= [y])
     ·refine DJ (by rw [List.take_append_drop];exact hsL) (fun y hy=> ?_) (fun y hy=> ?_)
      ·obtain ⟨i,hi,rfl⟩:=List.getElem_of_mem hy
       rw [List.getElem_take]
       exact hlo i (by simp at hi;omega) _
      ·obtain ⟨i,hi,rfl⟩:=List.getElem_of_mem hy
       rw [List.getElem_drop]
       exact hhi _ (by omega) _
  ·have h1:L.length≠1:=by
    intro h0
    rw [ad (by omega)] at h1
    have h1:=of_decide_eq_false h1;omega
   have h2:R.length≠1:=by
    intro h0
    rw [ad (by omega)] at h2
    have h2:=of_decide_eq_false h2;omega
   have hmid:i64 (aF .u64 (u64 (i64 ((P.length:Int)+((P.length+L.length+R.length:Nat):Int)))) 1)=((P.length+(L.length+R.length)/2:Nat):Int):=by
    rw [wM (k:=P.length+(P.length+L.length+R.length)) (by omega) (by rw [av];omega)]
    omega
   simp only [hmid]
   refine ⟨by decide,?_⟩
   obtain ⟨hf,hfe⟩: ∃hf,(L.length+R.length)/2=hf:=⟨_,rfl⟩
   rw [hfe]
   have gL: ∀t (ht:t<L.length),(P++L++R++Q)[P.length+t]? =some L[t]:=by
    intro t ht
    rw [List.append_assoc (P++L),List.append_assoc P,List.getElem?_append_right (by omega),List.getElem?_append_left (by omega)]
    rw [show P.length+t - P.length=t by omega,List.getElem?_eq_getElem ht]
   have gR: ∀t (ht:t<R.length),(P++L++R++Q)[P.length+L.length+t]? =some R[t]:=by
    intro t ht
    rw [List.append_assoc (P++L),List.getElem?_append_right (by simp),List.getElem?_append_left (by simp;omega)]
    rw [List.length_append,show P.length+L.length+t - (P.length+L.length)=t by omega,List.getElem?_eq_getElem ht]
   refine yu (fun K2=> ∀(u0 v0:Nat) (i j:Int),i=((P.length+u0:Nat):Int)→j=((P.length+v0:Nat):Int)→u0≤v0→v0≤hf→v0≤L.length→hf≤u0+R.length→(u0=0∨hf=u0+R.length)→(v0=hf∨v0=L.length)→K2 i j w) ?_ fun K2 hK2=> ?_
   ·rintro u0 v0 i j rfl rfl huv0 hv1 hv2 hu1 hu2 hv3
    refine ⟨fun i j w'=> ∃u v:Nat,i=((P.length+u:Nat):Int)∧j=((P.length+v:Nat):Int)∧u0≤u∧u≤v∧v≤v0∧(u=u0∨∃x y,L[u - 1]? =some x∧R[hf - u]? =some y∧Ky key x y)∧(v=v0∨∃x y,L[v]? =some x∧R[hf - 1 - v]? =some y∧Ky key y x)∧Hp E w' (ah 1 s ((P++L++R++Q).map vI)::F),
     fun i j _=>j.toNat - i.toNat,⟨u0,v0,rfl,rfl,by omega,huv0,by omega,.inl rfl,.inl rfl,h⟩,?_⟩
    rintro i j w' ⟨u,v,rfl,rfl,hu0,huv,hv0,hlo,hhi,hh⟩
    refine aa.mk (fun hlt=> ?_) (fun hge=> ?_)
    ·have hlt:=of_decide_eq_true hlt
     have hlt:u<v:=by omega
     refine ⟨by decide,aq.mk hh fun w1 h1=> ?_⟩
     rw [wM (k:=P.length+u+(P.length+v)) (by omega) (by rw [av];omega)]
     obtain ⟨t,ht⟩: ∃t,(P.length+u+(P.length+v))/2=P.length+t:=⟨(u+v)/2,by omega⟩
     rw [ht]
     have htu:u≤t:=by omega
     have htv:t<v:=by omega
     have htL:t<L.length:=by omega
     have htR:hf - 1 - t<R.length:=by omega
     simp (disch:=omega) only [ad]
     refine zx h1 (by omega) (x:=R[hf - 1 - t]) (by
      rw [show (((P.length+hf:Nat):Int)+((P.length+L.length:Nat):Int) - 1 - ((P.length+t:Nat):Int)).toNat=P.length+L.length+(hf - 1 - t) by omega];exact gR _ htR) ?_
     refine zx h1 (by omega) (x:=L[t]) (by rw [Int.toNat_natCast];exact gL t htL) ?_
     have hxy:=hLR L[t] (List.getElem_mem htL) _ (List.getElem_mem htR)
     have hyx:=sS (key:=key) hxy
     refine hc [_] w1 _ L[t] _ h1 (hDL _ (List.getElem_mem htL)) (hDR _ (List.getElem_mem htR)) fun z w2 hz h2=> ?_
     refine aa.mk (fun hneg=> ?_) (fun hpos=> ?_)
     ·have hneg: ¬z<0:=by simpa using hneg
      have hneg:=hyx.2.1 (fun hk=>hneg (hz.2 hk))
      refine ⟨⟨t+1,v,by omega,rfl,by omega,by omega,hv0,.inr ⟨L[t],R[hf - 1 - t],?_,?_,hneg⟩,hhi,h2⟩,by omega⟩
      ·simp [htL]
      ·rw [show hf - (t+1)=hf - 1 - t by omega];exact List.getElem?_eq_getElem htR
     ·have hpos:z<0:=by simpa using hpos
      have hpos:=hyx.1.1 (hz.1 hpos)
      exact ⟨⟨u,t,rfl,rfl,hu0,htu,by omega,hlo,.inr ⟨L[t],R[hf - 1 - t],List.getElem?_eq_getElem htL,List.getElem?_eq_getElem htR,hpos⟩,h2⟩,by omega⟩
    ·have hge:u=v:=by have:=of_decide_eq_false hge;omega
     subst hge
     have huL:u≤L.length:=by omega
     have huR:hf - u≤R.length:=by omega
     have hend:i64 (i64 (((P.length+hf:Nat):Int)+((P.length+L.length:Nat):Int)) - ((P.length+u:Nat):Int))=((P.length+L.length+(hf - u):Nat):Int):=by
      simp (disch:=omega) only [ad];omega
     simp only [hend]
     have c1: ∀x∈L.take u,∀y∈R.drop (hf - u),Ky key x y:=by
      intro x hx y hy
      obtain ⟨i,hi,rfl⟩:=List.getElem_of_mem hx
      obtain ⟨j,hj,rfl⟩:=List.getElem_of_mem hy
      simp only [List.length_take,List.length_drop] at hi hj
      rw [List.getElem_take,List.getElem_drop]
      rcases hlo with h0|⟨x,y,hx,hy,hk⟩
      ·rcases hu2 with h0'|h0'<;>omega
      ·obtain ⟨q1,q2⟩:=List.getElem?_eq_some_iff.1 hx
       obtain ⟨q3,q4⟩:=List.getElem?_eq_some_iff.1 hy
       subst q2;subst q4
       exact wO hsR (by omega) (by omega) (wV hsL q1 (by omega) hk)
     have c2: ∀y∈R.take (hf - u),∀x∈L.drop u,Ky key y x:=by
      intro y hy x hx
      obtain ⟨i,hi,rfl⟩:=List.getElem_of_mem hy
      obtain ⟨j,hj,rfl⟩:=List.getElem_of_mem hx
      simp only [List.length_take,List.length_drop] at hi hj
      rw [List.getElem_take,List.getElem_drop]
      rcases hhi with h0|⟨x,y,hx,hy,hk⟩
      ·rcases hv3 with h0'|h0'<;>omega
      ·obtain ⟨q1,q2⟩:=List.getElem?_eq_some_iff.1 hx
       obtain ⟨q3,q4⟩:=List.getElem?_eq_some_iff.1 hy
       subst q2;subst q4
       exact wO hsL (by omega) (by omega) (wV hsR q3 (by omega) hk)
     have eL:L.take u++L.drop u=L:=List.take_append_drop _ _
     have eR:R.take (hf - u)++R.drop (hf - u)=R:=List.take_append_drop _ _
     have lL1:(L.take u).length=u:=by simp;omega
     have lL2:(L.drop u).length=L.length - u:=by simp
     have lR1:(R.take (hf - u)).length=hf - u:=by simp;omega
     have lR2:(R.drop (hf - u)).length=R.length - (hf - u):=by simp
     clear hlo hhi gL gR
     generalize L.take u=L1 at*
     generalize L.drop u=L2 at*
     generalize R.take (hf - u)=R1 at*
     generalize R.drop (hf - u)=R2 at*
     obtain ⟨sL1,sL2,sL3⟩:=List.pairwise_append.1 (eL▸hsL)
     obtain ⟨sR1,sR2,sR3⟩:=List.pairwise_append.1 (eR▸hsR)
     have mL1: ∀x∈L1,x∈L:=fun x hx=>by rw [←eL];exact List.mem_append_left _ hx
     have mL2: ∀x∈L2,x∈L:=fun x hx=>by rw [←eL];exact List.mem_append_right _ hx
     have mR1: ∀x∈R1,x∈R:=fun x hx=>by rw [←eR];exact List.mem_append_left _ hx
     have mR2: ∀x∈R2,x∈R:=fun x hx=>by rw [←eR];exact List.mem_append_right _ hx
     have last: ∀(M1 M2:List Int) (w':World),M1.Perm (L1++R1)→M2.Perm (L2++R2)→Sd key M1→Sd key M2→Hp E w' (ah 1 s ((P++M1++M2++Q).map vI)::F)→K w':=by
      intro M1 M2 w' p1 p2 s1 s2 hh
      refine hK (M1++M2) w' ?_ ?_ (by simpa only [List.append_assoc] using hh)
      ·refine (List.Perm.append p1 p2).trans ?_
       rw [←eL,←eR]
       simp only [List.append_assoc]
       refine List.Perm.append_left _ ?_
       rw [←List.append_assoc,←List.append_assoc]
       exact List.Perm.append_right _ List.perm_append_comm
      ·refine List.pairwise_append.2 ⟨s1,s2,fun x hx y hy=> ?_⟩
       rcases List.mem_append.1 (p1.mem_iff.1 hx) with hx|hx<;>rcases List.mem_append.1 (p2.mem_iff.1 hy) with hy|hy
       ·exact sL3 x hx y hy
       ·exact c1 x hx y hy
       ·exact c2 x hx y hy
       ·exact sR3 x hx y hy
     refine yu (fun K3=> ∀w',Hp E w' (ah 1 s ((P++L1++R1++L2++R2++Q).map vI)::F)→K3 w') ?_ fun K3 hK3=> ?_
     ·intro w3 h3
      have second: ∀(M1:List Int) (w4:World),M1.Perm (L1++R1)→Sd key M1→Hp E w4 (ah 1 s ((P++M1++L2++R2++Q).map vI)::F)→
        aa (decide (((P.length+hf:Nat):Int)<((P.length+L.length+(hf - u):Nat):Int))) (aa (decide (((P.length+L.length+(hf - u):Nat):Int)<((P.length+L.length+R.length:Nat):Int)))
         (Cl Tryz.prog [] aN ⟨[.slice s.base s.len s.cap,.int .i64 ((P.length+hf:Nat):Int),.int .i64 ((P.length+L.length+(hf - u):Nat):Int),.int .i64 ((P.length+L.length+R.length:Nat):Int),fv]⟩ w4 fun w5=>K w5) (K w4)) (K w4):=by
       intro M1 w4 p1 s1 h4
       have lM:=p1.length_eq
       rw [List.length_append] at lM
       refine ifs (fun q1 q2=> ?_) (fun q=> ?_)
       ·have q1:=of_decide_eq_true q1
        have q2:=of_decide_eq_true q2
        refine kX hc N (P:=P++M1) (L:=L2) (R:=R2) (Q:=Q) (by omega) h4 (by rw [av];simp only [List.length_append];omega) (fun e=>by rw [e] at lL2;simp at lL2;omega) (fun e=>by rw [e] at lR2;simp at lR2;omega) sL2 sR2
         (fun x hx y hy=>hLR x (mL2 x hx) y (mR2 y hy)) (fun x hx=>hDL x (mL2 x hx)) (fun x hx=>hDR x (mR2 x hx)) (by simp only [List.length_append];omega) (by simp only [List.length_append];omega) (by simp only [List.length_append];omega) fun M2 w5 p2 s2 h5=> ?_
        exact last M1 M2 w5 p1 p2 s1 s2 h5
       ·have hor:L2= []∨R2= []:=by
         rcases q with q|q
         ·have q:=of_decide_eq_false q;exact .inl (List.length_eq_zero_iff.1 (by omega))
         ·have q:=of_decide_eq_false q;exact .inr (List.length_eq_zero_iff.1 (by omega))
        rcases hor with e|e
        ·subst e
         exact last M1 R2 w4 p1 (List.Perm.refl _) s1 sR2 (by simpa using h4)
        ·subst e
         exact last M1 L2 w4 p1 (by simp) s1 sL2 (by simpa using h4)
      refine ifs (fun q1 q2=> ?_) (fun q=> ?_)
      ·have q1:=of_decide_eq_true q1
       have q2:=of_decide_eq_true q2
       refine kX hc N (P:=P) (L:=L1) (R:=R1) (Q:=L2++R2++Q) (by omega) (by simpa only [List.append_assoc] using h3) (by rw [av];simp only [List.length_append];omega) (fun e=>by rw [e] at lL1;simp at lL1;omega) (fun e=>by rw [e] at lR1;simp at lR1;omega) sL1 sR1
        (fun x hx y hy=>hLR x (mL1 x hx) y (mR1 y hy)) (fun x hx=>hDL x (mL1 x hx)) (fun x hx=>hDR x (mR1 x hx)) rfl (by omega) (by omega) fun M1 w5 p1 s1 h5=> ?_
       exact second M1 w5 p1 s1 (by simpa only [List.append_assoc] using h5)
      ·have hor:L1= []∨R1= []:=by
        rcases q with q|q
        ·have q:=of_decide_eq_false q;exact .inl (List.length_eq_zero_iff.1 (by omega))
        ·have q:=of_decide_eq_false q;exact .inr (List.length_eq_zero_iff.1 (by omega))
       rcases hor with e|e
       ·subst e
        exact second R1 w3 (List.Perm.refl _) sR1 (by simpa using h3)
       ·subst e
        exact second L1 w3 (by simp) sL1 (by simpa using h3)
     ·have hh':Hp E w' (ah 1 s ((P++L1++L2++R1++R2++Q).map vI)::F):=by
       rw [←eL,←eR] at hh;simpa only [List.append_assoc] using hh
      refine ifs (fun q1 q2=> ?_) (fun q=> ?_)
      ·have q1:=of_decide_eq_true q1
       have q2:=of_decide_eq_true q2
       refine FK (P:=P++L1) (A:=L2) (B:=R1) (Q:=R2++Q) (by simpa only [List.append_assoc] using hh') (fun e=>by rw [e] at lL2;simp at lL2;omega) (fun e=>by rw [e] at lR1;simp at lR1;omega) (by rw [av];simp only [List.length_append];omega)
        (by simp only [List.length_append];omega) (by simp only [List.length_append];omega) (by simp only [List.length_append];omega) fun w5 h5=>hK3 w5 (by simpa only [List.append_assoc] using h5)
      ·have hor:L2= []∨R1= []:=by
        rcases q with q|q
        ·have q:=of_decide_eq_false q;exact .inl (List.length_eq_zero_iff.1 (by omega))
        ·have q:=of_decide_eq_false q;exact .inr (List.length_eq_zero_iff.1 (by omega))
       refine hK3 _ ?_
       rcases hor with e|e
       ·subst e;simpa using hh'
       ·subst e;simpa using hh'
   ·refine aa.mk (fun q=> ?_) (fun q=> ?_)
    ·have q:=of_decide_eq_true q
     refine hK2 (hf - R.length) hf _ _ ?_ rfl (by omega) (Nat.le_refl _) (by omega) (by omega) (.inr (by omega)) (.inl rfl)
     simp (disch:=omega) only [ad];omega
    ·have q:=of_decide_eq_false q
     exact hK2 0 L.length _ _ rfl rfl (by omega) (by omega) (Nat.le_refl _) (by omega) (.inl rfl) (.inr rfl)
end
end Go.Proofs.YtcdpblipagajiaaGreat
set_option maxRecDepth 20000
namespace Go.Srt
inductive Ck (key:Int→Int) (sz:Nat):List Int→List Int→Prop where
 |nil:Ck key sz [] []
 |last (A B:List Int) (h1:A.length<sz) (h2:B.Perm A) (h3:Sd key B):Ck key sz A B
 |cons (A B X Y:List Int) (h1:A.length=sz) (h2:B.Perm A) (h3:Sd key B) (h4:Ck key sz X Y):Ck key sz (A++X) (B++Y)
theorem Ck.len {key:Int→Int} {sz:Nat} {X Y:List Int} (h:Ck key sz X Y):Y.length=X.length:=by
 induction h with
 |nil=>rfl
 |last A B h1 h2 h3=>exact h2.length_eq
 |cons A B X Y h1 h2 h3 h4 ih=>simp [h2.length_eq,ih]
theorem Ck.one {key:Int→Int} {sz:Nat} {X Y:List Int} (h:Ck key sz X Y) (hl:X.length≤sz):Y.Perm X∧Sd key Y:=by
 cases h with
 |nil=>exact ⟨List.Perm.refl _,List.Pairwise.nil⟩
 |last _ _ h1 h2 h3=>exact ⟨h2,h3⟩
 |cons A B X Y h1 h2 h3 h4=>
  rw [List.length_append] at hl
  have hX:X= []:=List.length_eq_zero_iff.1 (by omega)
  have hY:Y= []:=List.length_eq_zero_iff.1 (by rw [h4.len,hX];rfl)
  subst hX;subst hY
  simpa using ⟨h2,h3⟩
theorem Ck.first {key:Int→Int} {sz:Nat} {X Y:List Int} (h:Ck key sz X Y) (hl:sz≤X.length) (h0:0<sz): ∃A B X' Y',X=A++X'∧Y=B++Y'∧A.length=sz∧B.Perm A∧Sd key B∧Ck key sz X' Y':=by
 cases h with
 |nil=>simp at hl;omega
 |last _ _ h1 h2 h3=>omega
 |cons A B X Y h1 h2 h3 h4=>exact ⟨A,B,X,Y,rfl,rfl,h1,h2,h3,h4⟩
end Go.Srt
namespace Go.Proofs.YtcdpblipagajiaaGreat
open Go Go.Vc Go.Srt
section
variable {E w:World} {F:List HP}
theorem D3 {A1 A2 B1 B2:List Int} (h:(A1++A2).Pairwise (·< ·)) (p1:B1.Perm A1) (p2:B2.Perm A2): ∀x∈B1,∀y∈B2,x<y:=
 fun x hx y hy=>(List.pairwise_append.1 h).2.2 x (p1.mem_iff.1 hx) y (p2.mem_iff.1 hy)
theorem F6 {s:Sl} {xs:List Int} {fv:Value} {key:Int→Int} {D:Int→Prop} {n:Int} {K:World→Prop} (h:Hp E w (ah 1 s (xs.map vI)::F)) (hbig:xs.length≤cf)
  (hc:qX E F fv key D) (hD: ∀x∈xs,D x) (hL:xs.Pairwise (·< ·)) (hn:n=(xs.length:Int))
  (hK: ∀ys w',ys.Perm xs→Sd key ys→Hp E w' (ah 1 s (ys.map vI)::F)→K w'):
  Cl Tryz.prog [] db ⟨[.slice s.base s.len s.cap,.int .i64 n,fv]⟩ w K:=by
 subst hn
 refine mB.ok _ _ _ _ _ ?_
 have hbg:=hbig
 rw [av] at hbig
 refine ⟨fun a b w'=> ∃Xd Z X:List Int,a=(Xd.length:Int)∧b=((Xd.length+20:Nat):Int)∧xs=Xd++X∧Z.length=Xd.length∧(∀X' Y',Ck key 20 X' Y'→Ck key 20 (Xd++X') (Z++Y'))∧Hp E w' (ah 1 s ((Z++X).map vI)::F),
  fun a _ _=>xs.length - a.toNat,⟨[],[],xs,rfl,rfl,rfl,rfl,fun X' Y' h=>h,h⟩,?_⟩
 rintro a b w' ⟨Xd,Z,X,rfl,rfl,hxs,hZ,hck,hh⟩
 have hlen:xs.length=Xd.length+X.length:=by rw [hxs,List.length_append]
 have hX: ∀x∈X,x∈xs:=fun x hx=>by rw [hxs];exact List.mem_append_right _ hx
 have hasc:X.Pairwise (·< ·):=by rw [hxs] at hL;exact (List.pairwise_append.1 hL).2.1
 refine aa.mk (fun hle=> ?_) (fun hgt=> ?_)
 ·have hle:=of_decide_eq_true hle
  have e:X.take 20++X.drop 20=X:=List.take_append_drop _ _
  have l1:(X.take 20).length=20:=by simp;omega
  generalize X.take 20=A at e l1
  generalize X.drop 20=X2 at e
  subst e
  rw [List.length_append] at hlen
  refine rN (P:=Z) (L:=A) (Q:=X2) (key:=key) (D:=D) (by simpa only [List.append_assoc] using hh) (by rw [av];simp only [List.length_append];omega) hc (fun x hx=>hD x (hX x (List.mem_append_left _ hx))) (List.pairwise_append.1 hasc).1
   (by omega) (by simp only [List.length_append];omega) fun M w2 p1 s1 h2=> ?_
  rw [ad (by omega)]
  refine ⟨⟨Xd++A,Z++M,X2,by simp only [List.length_append];omega,by simp only [List.length_append];omega,by rw [hxs,List.append_assoc],by simp only [List.length_append];rw [p1.length_eq];omega,fun X' Y' hk=> ?_,h2⟩,by dsimp only;omega⟩
  rw [List.append_assoc,List.append_assoc]
  exact hck _ _ (.cons A M X' Y' l1 p1 s1 hk)
 ·have hgt:=of_decide_eq_false hgt
  refine rN (P:=Z) (L:=X) (Q:= []) (key:=key) (D:=D) (by simpa using hh) (by rw [av];simp only [List.length_append,List.length_nil];omega) hc (fun x hx=>hD x (hX x hx)) hasc
   (by omega) (by simp only [List.length_append];omega) fun M w2 p1 s1 h2=> ?_
  have hck:=hck _ _ (.last X M (by omega) p1 s1)
  rw [←hxs] at hck
  refine ⟨fun bs w'=> ∃(sz:Nat) (ys:List Int),bs=(sz:Int)∧20≤sz∧sz≤2*cf∧Ck key sz xs ys∧Hp E w' (ah 1 s (ys.map vI)::F),fun bs _=>xs.length - bs.toNat,⟨20,Z++M,rfl,by omega,by rw [av];omega,hck,by simpa using h2⟩,?_⟩
  rintro bs w' ⟨sz,ys,rfl,hsz,hszb,hck,hh⟩
  rw [av] at hszb
  refine aa.mk (fun hlt=> ?_) (fun hge=> ?_)
  ·have hlt:=of_decide_eq_true hlt
   have hlt:sz<xs.length:=by omega
   refine ⟨fun a b w'=> ∃Xd Z X Y:List Int,a=(Xd.length:Int)∧b=((Xd.length+2*sz:Nat):Int)∧xs=Xd++X∧Z.length=Xd.length∧Ck key sz X Y∧(∀X' Y',Ck key (2*sz) X' Y'→Ck key (2*sz) (Xd++X') (Z++Y'))∧Hp E w' (ah 1 s ((Z++Y).map vI)::F),
    fun a _ _=>xs.length - a.toNat,⟨[],[],xs,ys,rfl,?_,rfl,rfl,hck,fun X' Y' h=>h,hh⟩,?_⟩
   ·rw [ad (by omega)];simp
   rintro a b w' ⟨Xd,Z,X,Y,rfl,rfl,hxs,hZ,hck,hco,hh⟩
   have hlen:xs.length=Xd.length+X.length:=by rw [hxs,List.length_append]
   have hX: ∀x∈X,x∈xs:=fun x hx=>by rw [hxs];exact List.mem_append_right _ hx
   have hasc:X.Pairwise (·< ·):=by rw [hxs] at hL;exact (List.pairwise_append.1 hL).2.1
   rw [ad (x:=(Xd.length:Int)+(sz:Int)) (by omega),ad (x:=(sz:Int)*2) (by omega)]
   have next: ∀(w2:World) (ys:List Int),Ck key (2*sz) xs ys→Hp E w2 (ah 1 s (ys.map vI)::F)→
     (∃(sz_1:Nat) (ys:List Int),(sz:Int)*2=(sz_1:Int)∧20≤sz_1∧sz_1≤2*cf∧Ck key sz_1 xs ys∧Hp E w2 (ah 1 s (ys.map vI)::F))∧xs.length - ((sz:Int)*2).toNat<xs.length - ((sz:Int)).toNat:=
    fun w2 ys h1 h2=>⟨⟨2*sz,ys,by omega,by omega,by rw [av];omega,h1,h2⟩,by omega⟩
   refine aa.mk (fun hle=> ?_) (fun hgt=> ?_)
   ·have hle:=of_decide_eq_true hle
    obtain ⟨A1,B1,X1,Y1,rfl,rfl,a1,b1,c1,hck1⟩:=hck.first (by omega) (by omega)
    rw [List.length_append] at hlen
    obtain ⟨A2,B2,X2,Y2,rfl,rfl,a2,b2,c2,hck2⟩:=hck1.first (by omega) (by omega)
    rw [List.length_append] at hlen
    have hasc12:(A1++A2).Pairwise (·< ·):=by rw [←List.append_assoc] at hasc;exact (List.pairwise_append.1 hasc).1
    have lb1:=b1.length_eq
    have lb2:=b2.length_eq
    have lY2:=hck2.len
    rw [ad (x:=2*(sz:Int)) (by omega),ad (by omega)]
    refine kX hc (B1.length+B2.length) (P:=Z) (L:=B1) (R:=B2) (Q:=Y2) (Nat.le_refl _) (by simpa only [List.append_assoc] using hh) (by rw [av];simp only [List.length_append];omega)
     (fun e=>by rw [e] at lb1;simp at lb1;omega) (fun e=>by rw [e] at lb2;simp at lb2;omega) c1 c2 (D3 hasc12 b1 b2) (fun x hx=>hD x (hX x (by simp [b1.mem_iff.1 hx]))) (fun x hx=>hD x (hX x (by simp [b2.mem_iff.1 hx])))
     (by omega) (by omega) (by omega) fun M w2 p1 s1 h2=> ?_
    have pM:M.Perm (A1++A2):=p1.trans (List.Perm.append b1 b2)
    refine ⟨⟨Xd++(A1++A2),Z++M,X2,Y2,by simp only [List.length_append];omega,by simp only [List.length_append];omega,by rw [hxs];simp only [List.append_assoc],by simp only [List.length_append];rw [pM.length_eq,List.length_append];omega,hck2,fun X' Y' hk=> ?_,h2⟩,by dsimp only;omega⟩
    rw [List.append_assoc Xd,List.append_assoc Z]
    exact hco _ _ (.cons (A1++A2) M X' Y' (by rw [List.length_append];omega) pM s1 hk)
   ·have hgt:=of_decide_eq_false hgt
    refine aa.mk (fun hm=> ?_) (fun hm=> ?_)
    ·have hm:=of_decide_eq_true hm
     obtain ⟨A1,B1,X1,Y1,rfl,rfl,a1,b1,c1,hck1⟩:=hck.first (by omega) (by omega)
     rw [List.length_append] at hlen
     obtain ⟨b2,c2⟩:=hck1.one (by omega)
     have lb1:=b1.length_eq
     have lb2:=b2.length_eq
     refine kX hc (B1.length+Y1.length) (P:=Z) (L:=B1) (R:=Y1) (Q:= []) (Nat.le_refl _) (by simpa using hh) (by rw [av];simp only [List.length_append,List.length_nil];omega)
      (fun e=>by rw [e] at lb1;simp at lb1;omega) (fun e=>by rw [e] at lb2;simp at lb2;omega) c1 c2 (D3 hasc b1 b2) (fun x hx=>hD x (hX x (by simp [b1.mem_iff.1 hx]))) (fun x hx=>hD x (hX x (by simp [b2.mem_iff.1 hx])))
      (by omega) (by omega) (by omega) fun M w2 p1 s1 h2=> ?_
     have pM:M.Perm (A1++X1):=p1.trans (List.Perm.append b1 b2)
     refine next w2 (Z++M) ?_ (by simpa using h2)
     rw [hxs]
     exact hco _ _ (.last _ M (by rw [List.length_append];omega) pM s1)
    ·have hm:=of_decide_eq_false hm
     obtain ⟨p1,s1⟩:=hck.one (by omega)
     refine next w' (Z++Y) ?_ hh
     rw [hxs]
     exact hco _ _ (.last _ Y (by omega) p1 s1)
  ·have hge:=of_decide_eq_false hge
   obtain ⟨p1,s1⟩:=hck.one (by omega)
   exact hK ys w' p1 s1 hh
theorem qz {s:Sl} {xs:List Int} {fv:Value} {key:Int→Int} {D:Int→Prop} {K:World→Prop} (h:Hp E w (ah 1 s (xs.map vI)::F)) (hbig:xs.length≤cf)
  (hc:qX E F fv key D) (hD: ∀x∈xs,D x) (hL:xs.Pairwise (·< ·))
  (hK: ∀ys w',ys.Perm xs→Sd key ys→Hp E w' (ah 1 s (ys.map vI)::F)→K w'):
  Cl Tryz.prog [] bK ⟨[.slice s.base s.len s.cap,fv]⟩ w K:=by
 refine jD.ok _ _ _ _ ?_
 have hl:=h.aO
 simp only [List.length_map,Nat.mul_one] at hl
 exact F6 h hbig hc hD hL (by omega) hK
end
end Go.Proofs.YtcdpblipagajiaaGreat
set_option maxRecDepth 20000
namespace Go.Proofs.YtcdpblipagajiaaGreat
open Go Go.Vc Go.Srt
section
variable {E w:World} {F:List HP}
theorem IM {l:List Nat} {K:Bool→World→Prop} (h:Hp E w F) (hl:l.length=258) (hK: ∀w',Hp E w' F→K (decide (aS l≤32768)) w'):Cl Tryz.prog [kB] me ⟨[.agg (ai .u8 l)]⟩ w K:=by
 refine BP.ok _ _ _ ?_
 refine Nw.mk h fun b w1 h1=>Ld.arr h1 (by rw [aJ,hl]) (sU h1 hl fun w2 h2=> ?_)
 have:decide ((aS l:Int)≤32768)=decide (aS l≤32768):=by rw [Bool.eq_iff_iff];simp;omega
 rw [this]
 exact hK _ h2.drop
theorem rY {l:List Nat} {K:Bool→World→Prop} (h:Hp E w F) (hl:l.length=258) (hK: ∀w',Hp E w' F→K (decide (aS l≤32768)) w'):Cl Tryz.prog [kB] dr ⟨[.agg (ai .u8 l)]⟩ w K:=by
 refine tm.ok _ _ _ ?_
 exact Nw.mk h fun b w1 h1=>Ld.arr h1 (by rw [aJ,hl]) (IM h1 hl fun w2 h2=>hK _ h2.drop)
theorem GS {x y:Int} {K:Int→World→Prop} (hK: ∀z:Int,(z<0↔x<y)→K z w):Cl Tryz.prog [kI] fM ⟨[.int .u8 x,.int .u8 y]⟩ w K:=by
 refine rq.ok _ _ _ _ ?_
 refine na.ok _ _ _ (na.ok _ _ _ ?_)
 refine aa.f (by simp) (aa.f (by simp) (aa.mk (fun h=>hK _ ?_) (fun h=>aa.mk (fun h2=>hK _ ?_) (fun h2=>hK _ ?_))))
 ·have:=of_decide_eq_true h;omega
 ·have:=of_decide_eq_false h;omega
 ·have:=of_decide_eq_false h;omega
theorem H3 {l:List Nat} {b:Nat} {t:TypeId} (hl:l.length=258):qX E (aj b (.cells (ai .u8 l) t (0,0))::F) (.func (.func jE) ⟨[]⟩ ⟨[.pointer (some ⟨b,0,none⟩)]⟩) (sA l) (fun x=>0≤x∧x<258):=by
 rintro A w y x K h ⟨hx0,hx⟩ ⟨hy0,hy⟩ hK
 refine gO.mk (by kernel_rfl) ?_
 refine rn.ok y x ⟨b,0,none⟩ K w ?_
 have h':=h.perm List.perm_append_comm
 have hx':x.toNat<l.length:=by omega
 have hy':y.toNat<l.length:=by omega
 refine aq.mk h fun w1 h1=> ?_
 have h1':=h1.perm List.perm_append_comm
 refine aB.rd (s:= .int .u8) h1' hy0 (by omega) (l[y.toNat]:Int) (fD hy') ?_
 refine aB.rd (s:= .int .u8) h1' hx0 (by omega) (l[x.toNat]:Int) (fD hx') ?_
 refine GS fun z hz=>hK z w1 ?_ h1
 rw [hz]
 unfold sA
 rw [List.getD_eq_getElem?_getD,List.getD_eq_getElem?_getD,List.getElem?_eq_getElem hx',List.getElem?_eq_getElem hy']
 rfl
theorem iO:cp Tryz.prog 33 3 1 8:=cp.of (by kernel_rfl) (by kernel_rfl)
def eO (l:List Nat) (k:Nat):List Nat:=(List.range k).filter fun s=>decide (0<l.getD s 0)
theorem kc {l:List Nat} {k:Nat}:eO l (k+1)=eO l k++if 0<l.getD k 0 then [k] else []:=by
 unfold eO
 rw [List.range_succ,List.filter_append]
 congr 1
 by_cases h:0<l.getD k 0
 ·rw [if_pos h,List.filter_cons_of_pos (by simpa using h)];rfl
 ·rw [if_neg h,List.filter_cons_of_neg (by simpa using h)];rfl
theorem tH {z:Int}: ∀y∈ [vI z],aw y=true:=by
 intro y hy
 have:y=vI z:=by simpa using hy
 rw [this];rfl
theorem lj (l:List Nat) (k:Nat):(eO l k).length≤k:=by
 have:=List.length_filter_le (fun s=>decide (0<l.getD s 0)) (List.range k)
 simpa [eO] using this
def ints (l:List Nat):List Int:=l.map fun (x:Nat)=>(x:Int)
theorem xp {a b:List Nat}:ints (a++b)=ints a++ints b:=List.map_append
set_option maxRecDepth 20000 in
theorem GO {l:List Nat} {K:Sl→World→Prop} (h:Hp E w F) (hl:l.length=258) (hK1: ¬aS l≤32768→∀w',Hp E w' F→K ⟨none,0,0⟩ w')
  (hK2:aS l≤32768→∀ys s w',bF l ys→Hp E w' (ah 1 s ((ints ys).map vI)::F)→K s w'):Cl Tryz.prog [kS] gU ⟨[.agg (ai .u8 l)]⟩ w K:=by
 refine tD.ok _ _ _ ?_
 refine Nw.mk h fun b w1 h1=>Ld.arr h1 (by rw [aJ,hl]) (rY h1 hl fun w2 h2=> ?_)
 refine aa.mk (fun hv=>hK1 (by simpa using hv) w2 h2.drop) (fun hv=> ?_)
 have hv:aS l≤32768:=by simpa using hv
 refine Ld.arr h2 (by rw [aJ,hl]) ?_
 refine ⟨fun o i w'=> ∃k:Nat,i=(k:Int)∧k≤258∧Hp E w' (ah 1 o ((ints (eO l k)).map vI)::aj b (.cells (ai .u8 l) 36 (0,0))::F),fun _ i _=>258 - i.toNat,⟨0,rfl,by omega,h2.bl 1⟩,?_⟩
 intro o i w' hI
 obtain ⟨k,hi,hk,hh⟩:=hI
 subst hi
 refine aa.mk (fun hlt=> ?_) (fun hge=> ?_)
 ·have hlt:k<258:=by have:=of_decide_eq_true hlt;omega
  have hkl:k<l.length:=by omega
  have hg:l.getD k 0=l[k]:=by rw [List.getD_eq_getElem?_getD,List.getElem?_eq_getElem hkl];rfl
  refine ez.rd (s:= .int .u8) (by omega) (by omega) (l[k]:Int) (by rw [Int.toNat_natCast];exact fD hkl) ?_
  refine aa.mk (fun hp=> ?_) (fun hp=> ?_)
  ·have hp:0<l[k]:=by have:=of_decide_eq_true hp;omega
   refine Nw.mk hh fun b2 w3 h3=> ?_
   have ho:=hh.aO
   have hu:=lj l k
   simp only [List.length_map,ints,Nat.mul_one] at ho
   refine aM (ys:= [vI (k:Int)]) (n:=1) iO (by decide) (.inl ⟨3,by kernel_rfl⟩) h3.p1 (.inl ⟨some ⟨b2,0,none⟩,1,1,rfl,rfl,h3.ag (ab.aD rfl rfl)⟩) rfl tH (by omega) (by omega) fun s' w4 h4 hs'=> ?_
   rw [ad (by omega)]
   refine ⟨⟨k+1,rfl,by omega,?_⟩,by dsimp only;omega⟩
   rw [kc,hg,if_pos hp,xp,List.map_append]
   exact h4.p1.drop
  ·have hp: ¬0<l[k]:=by have:=of_decide_eq_false hp;omega
   rw [ad (by omega)]
   refine ⟨⟨k+1,rfl,by omega,?_⟩,by dsimp only;omega⟩
   rw [kc,hg,if_neg hp,List.append_nil]
   exact hh
 ·have hge:k=258:=by have:=of_decide_eq_false hge;omega
  subst hge
  have hin: ∀x∈eO l 258,x<258:=fun x hx=>by
   have:=(List.mem_filter.1 hx).1
   simpa using this
  refine qz (key:=sA l) (D:=fun x=>0≤x∧x<258) hh (by have:=lj l 258;rw [av];simp only [ints,List.length_map];omega) (H3 hl) (fun x hx=> ?_) ?_ fun ys w3 hp hs h3=> ?_
  ·obtain ⟨y,hy,rfl⟩:=List.mem_map.1 hx
   have:=hin y hy
   omega
  ·unfold ints
   refine List.Pairwise.map _ (fun a b hab=>Int.ofNat_lt.2 hab) ?_
   exact List.Pairwise.filter _ List.pairwise_lt_range
  ·have hU:eO l 258=used l:=by unfold eO used;rw [hl]
   rw [hU] at hp
   have e:ys=ints (ys.map Int.toNat):=by
    unfold ints
    rw [List.map_map]
    refine (List.map_id ys).symm.trans (List.map_congr_left fun x hx=> ?_)
    obtain ⟨y,_,rfl⟩:=List.mem_map.1 (hp.mem_iff.1 hx)
    simp
   have pN:(ys.map Int.toNat).Perm (used l):=by
    have:=hp.map Int.toNat
    refine this.trans ?_
    unfold ints
    rw [List.map_map]
    refine List.Perm.of_eq ((List.map_congr_left fun x _=> ?_).trans (List.map_id _))
    simp
   rw [e] at h3 hs
   refine hK2 hv (ys.map Int.toNat) _ w3 ⟨pN,?_⟩ h3.p1.drop
   refine (List.pairwise_map.1 hs).imp fun {a b} hab=> ?_
   unfold Ky sA at hab
   simp only [Int.toNat_natCast] at hab
   omega
end
end Go.Proofs.YtcdpblipagajiaaGreat
set_option maxRecDepth 20000
namespace Go.Vc
open Go
section
variable {E w:World} {F:List HP}
theorem Ar {P:Program} {t tx ty e:TypeId} {bytes n:Nat} {k:IntKind} {K:Sl→World→Prop} (he:cp P t e 1 bytes) (hx:P.underlying tx=some (.int k)) (h:Hp E w F) (hn:0<n) (hb:(2*n+1024)*bytes≤2^48) (hb2:n<2^62)
  (hK: ∀b c w',n≤c→Hp E w' (ah 1 ⟨some ⟨b,0,none⟩,0,c⟩ []::F)→K ⟨some ⟨b,0,none⟩,n,c⟩ w'):aA P (Builtin.append_ #[t,tx] ty ⟨[.slice none 0 0,.int .i64 (n:Int)]⟩) kS w K:=by
 obtain ⟨it,z,hi,hsz,hby,hze,hzs⟩:=he.info
 have hso: ∀w:World,(sizeOf e).run P w= .ok 1 w:=by intro w;rw [bT hi,hsz]
 have hwr:IntKind.i64.wrap (n:Int)=(n:Int):=ad (by omega)
 have hti: ∀w:World,(typeInfo e).run P w= .ok it w:=by intro w;simp [typeInfo,hi]
 have hz': ∀w:World,(zeroValue e).run P w= .ok z w:=by intro w;simp [zeroValue,typeInfo,hi,hze]
 have hnb:n*bytes≤2^48:=by
  have:n*bytes≤(2*n+1024)*bytes:=Nat.mul_le_mul_right _ (by omega)
  omega
 have h1: ¬((n:Int)*(it.bytes:Int)>2^48):=by rw [hby];exact_mod_cast Nat.not_lt.2 hnb
 have hnext: ¬Builtin.nextslicecap n 0*it.bytes>2^48:=by
  have:=AH (n:=n) (c:=0) (by omega)
  have h2:Builtin.nextslicecap n 0*it.bytes≤(2*n+1024)*bytes:=by rw [hby];exact Nat.mul_le_mul_right _ this
  omega
 have hmax: ¬((n:Nat):Int)>IntKind.i64.max:=by
  have:IntKind.i64.max=9223372036854775807:=rfl
  rw [this];omega
 have hfo:Question.forced (.appendCap n 0 e)=false:=rfl
 generalize hq:Question.cut (.appendCap n 0 e) (w.tape w.drawn (.appendCap n 0 e))=newCap
 have hnc:n≤newCap:=by rw [←hq];exact Nat.le_add_right _ _
 have hD:Hp E w.drew F:=h.drew (n:=w.drawn+1)
 have hA:=hD.alloc (.cells (#[]++Builtin.zeroCells z.cells n++Builtin.zeroCells z.cells (newCap - n)) e)
 have hrun:(Builtin.append_ #[t,tx] ty ⟨[.slice none 0 0,.int .i64 (n:Int)]⟩).run P w= .ok (.slice (some ⟨w.heap.size,0,none⟩) n newCap) (w.drew.alloc (.cells (#[]++Builtin.zeroCells z.cells n++Builtin.zeroCells z.cells (newCap - n)) e)):=by
  have hneg: ¬((n:Int)<0):=by omega
  have hn0: ¬(n=0):=by omega
  have hmax': ¬(9223372036854775807<(n:Int)):=by omega
  have h1': ¬(281474976710656<(n:Int)*(it.bytes:Int)):=by simpa using h1
  have hnext': ¬(281474976710656<Builtin.nextslicecap n 0*it.bytes):=by simpa using hnext
  have hai: ∀w:World,(asIntOf (Value.int .i64 (n:Int))).run P w= .ok (.i64,(n:Int)) w:=fun _=>rfl
  simp [Builtin.append_,run_underlying he.und,hso,run_underlying hx,asInt,hai,hwr,hneg,hti,h1',hn0,hmax',hnext',hfo,hq,hz',newRow,Builtin.firstCells]
 unfold aA
 rw [hrun]
 refine hK _ _ _ hnc (Hp.iT hA (by simp) rfl (Nat.zero_le _) ?_ (fun i hi=>by simp at hi))
 simp [ob,hzs]
 omega
end
end Go.Vc
namespace Go.Proofs.YtcdpblipagajiaaGreat
open Go Go.Vc
section
variable {E w:World} {F:List HP}
theorem oP:cp Tryz.prog 22 5 1 1:=cp.of (by kernel_rfl) (by kernel_rfl)
theorem uO {s:Sl} {bs:List Nat} {K:Sl→World→Prop} (h:Hp E w F) (hs:ab F (aC 1 s (bs.map vB))) (hb:bs.length≤2*cf) (hK: ∀s' w',Hp E w' (ah 1 s' (bs.map vB)::F)→K s' w'):
  Cl Tryz.prog [kS] da ⟨[.slice s.base s.len s.cap]⟩ w K:=by
 refine ru.ok _ _ _ ?_
 have hl:bs.length=s.len:=by have:=(h.ag hs).1;simpa using this
 rw [av] at hb
 cases hsb:s.base with
 |none=>
  have:bs= []:=by
   cases bs with
   |nil=>rfl
   |cons x bs=>
    obtain ⟨p,hp,_⟩:=(h.ag hs).2 0 (by simp)
    rw [hsb] at hp;cases hp
  subst this
  exact aa.t rfl (hK _ _ (h.bl 1))
 |some p=>
  refine aa.f rfl (Nw.mk h fun b w h=> ?_)
  have h2:=Hp.fC (n:=0) (sz:=1) h (by simp)
  have hsrc:Src 1 s.len (.slice s.base s.len s.cap) (bs.map vB) w:= .inl ⟨s.base,s.len,s.cap,rfl,rfl,h2.drop.ag hs⟩
  refine aM (s:=⟨some ⟨b,0,none⟩,0,0⟩) oP (by decide) (.inl ⟨5,by kernel_rfl⟩) h2 hsrc (by simp [hl]) ek (by simp only;omega) (by simp only;omega) fun s' w' h3 _=>hK s' w' ?_
  simpa using h3
theorem B5 {n:Nat} {K:Sl→World→Prop} (h:Hp E w F) (hn:n≤4*cf) (hK: ∀s' w',s'.len=0→Hp E w' (ah 1 s' []::F)→K s' w'):
  Cl Tryz.prog [kS] dS ⟨[.slice none 0 0,.int .i64 (n:Int)]⟩ w K:=by
 rw [av] at hn
 refine nW.ok ⟨none,0,0⟩ _ _ _ ?_
 refine aa.df (by omega) ?_
 dsimp only
 rw [ad (x:=((0:Nat):Int) - ((0:Nat):Int)) (by omega),ad (by omega)]
 by_cases h0:n=0
 ·subst h0
  exact aa.df (by omega) (hK _ _ rfl (h.bl 1))
 ·refine aa.dt (by omega) ⟨by decide,by decide,by decide,by decide,?_⟩
  show aA _ (Builtin.append_ #[22,3] 22 ⟨[.slice none 0 0,.int .i64 ((n:Int) - (((0:Nat):Int) - ((0:Nat):Int)))]⟩) kS w _
  have e:((n:Int) - (((0:Nat):Int) - ((0:Nat):Int)))=(n:Int):=by omega
  rw [e]
  refine Ar oP (k:= .i64) (by kernel_rfl) h (by omega) (by omega) (by omega) fun b c w' hc h=> ?_
  refine ⟨by decide,by decide,by omega,by simp,?_⟩
  have hne: ¬(((c:Int)).toNat=(0:Int).toNat):=by simp;omega
  rw [if_neg hne]
  have hk:=hK ⟨some ⟨b,0,none⟩,0,c⟩ w' rfl h
  simpa [au] using hk
theorem FT {s:Sl} {cs:List Sl} {bs:List (List Nat)} {K:Sl→World→Prop} (h:Hp E w F)
  (hs:ab F (aC 1 s (cs.map fun x=> .slice x.base x.len x.cap))) (hl:cs.length=bs.length) (hcl:cs.length≤cf) (hc: ∀i (h:i<cs.length),ab F (aC 1 cs[i] ((bs.getD i []).map vB)))
  (hbig:bs.flatten.length≤cf) (hK: ∀s' w',Hp E w' (ah 1 s' (bs.flatten.map vB)::F)→K s' w'):Cl Tryz.prog [kS] dw ⟨[.slice s.base s.len s.cap]⟩ w K:=by
 refine mG.ok _ _ _ ?_
 have hlen:s.len=cs.length:=by have:=(h.ag hs).1;simpa using this.symm
 rw [av] at hcl hbig
 have hpart: ∀k,k≤bs.length→(bs.take k).flatten.length≤bs.flatten.length:=fun k _=>by
  conv=>rhs;rw [←List.take_append_drop k bs,List.flatten_append,List.length_append]
  omega
 have hnext: ∀k,k<bs.length→(bs.take (k+1)).flatten=(bs.take k).flatten++bs.getD k []:=fun k hk=>by
  rw [List.take_add_one,List.flatten_append]
  congr 1
  simp [hk]
 refine ⟨fun x i w'=> ∃k:Nat,i=(k:Int)∧k≤cs.length∧x=((bs.take k).flatten.length:Int)∧Hp E w' F,fun _ i _=>cs.length - i.toNat,⟨0,rfl,by omega,rfl,h⟩,?_⟩
 rintro x i w ⟨k,rfl,hk,rfl,h⟩
 refine aa.dm (fun hlt=> ?_) (fun hge=> ?_)
 ·have hlt:k<cs.length:=by omega
  have hkb:k<bs.length:=by omega
  refine ao.rd (h.ag hs) (by omega) (by omega) fun q hi hq=> ?_
  refine Ld.sc (s:= .sl) cs[k] (by rw [hq];simp [Sc.enc,hlt]) ?_
  have hx:(bs.getD k []).length=cs[k].len:=by have:=(h.ag (hc k hlt)).1;simpa using this
  have h1:=hpart (k+1) (by omega)
  rw [hnext k hkb,List.length_append,hx] at h1
  rw [ad (by omega)]
  refine aa.df (by omega) ?_
  rw [ad (by omega)]
  refine ⟨⟨k+1,rfl,by omega,?_,h⟩,by first|omega|(dsimp only;omega)⟩
  rw [hnext k hkb,List.length_append,hx];omega
 ·have hk2:k=cs.length:=by omega
  subst hk2
  have e:bs.take cs.length=bs:=List.take_of_length_le (by omega)
  rw [e]
  refine B5 h (by rw [av];omega) fun s' w h0 h=> ?_
  refine ⟨fun x i w'=> ∃k:Nat,i=(k:Int)∧k≤cs.length∧Hp E w' (ah 1 x ((bs.take k).flatten.map vB)::F),fun _ i _=>cs.length - i.toNat,⟨0,rfl,by omega,h⟩,?_⟩
  rintro x i w ⟨k,rfl,hk,h⟩
  refine aa.dm (fun hlt=> ?_) (fun hge=> ?_)
  ·have hlt:k<cs.length:=by omega
   have hkb:k<bs.length:=by omega
   refine ao.rd (h.drop.ag hs) (by omega) (by omega) fun q hi hq=> ?_
   refine Ld.sc (s:= .sl) cs[k] (by rw [hq];simp [Sc.enc,hlt]) ?_
   have hx:(bs.getD k []).length=cs[k].len:=by have:=(h.drop.ag (hc k hlt)).1;simpa using this
   have h1:=hpart (k+1) (by omega)
   rw [hnext k hkb,List.length_append,hx] at h1
   have hol:=h.aO
   rw [List.length_map,Nat.mul_one] at hol
   refine aM oP (by decide) (.inl ⟨5,by kernel_rfl⟩) h (.inl ⟨cs[k].base,cs[k].len,cs[k].cap,rfl,rfl,h.drop.ag (hc k hlt)⟩) (by rw [List.length_map,hx,Nat.mul_one]) ek (by omega) (by omega) fun s' w' h _=> ?_
   rw [ad (by omega)]
   refine ⟨⟨k+1,rfl,by omega,?_⟩,by first|omega|(dsimp only;omega)⟩
   rw [hnext k hkb,List.map_append];exact h
  ·have hk3:k=cs.length:=by omega
   subst hk3
   rw [e] at h
   exact hK _ _ h
end
end Go.Proofs.YtcdpblipagajiaaGreat
namespace Go.Vc
open Go
theorem ao.J8 {w:World} {S:World→Prop} {sc:Sc} {s:Sl} {xs:List Value} {i:Int} {j:Nat} {K:sc.T→Prop} (hw:aC 1 s xs w) (hS: ∀w,S w→aC 1 s xs w) (hi:i=(j:Int)) (hj:j<xs.length) (x:sc.T) (hx:xs[j]? =some (sc.enc x)) (hK:K x):
  ao s i 1 fun q=>ae (.sc sc) q S K:=by
 subst hi
 have hl:=hw.1
 rw [Nat.mul_one] at hl
 obtain ⟨p,hp,_⟩:=hw.2 j hj
 refine ⟨p,hp,by omega,by omega,ae.sc x (fun w' hw'=> ?_) hK⟩
 obtain ⟨p',hp',hc⟩:=(hS w' hw').2 j hj
 rw [hp] at hp'
 cases hp'
 rw [show ((j:Int)).toNat*1=j by omega,hc,←hx,List.getElem?_eq_getElem hj]
theorem bf.HT {A B C:Type} {r:A→B→C→World→Prop} {k:(A→B→C→World→Prop)→Prop} (Q:A→B→C→World→Prop) (h1: ∀a b c w,Q a b c w→r a b c w) (h2: ∀r',(∀a b c w,Q a b c w→r' a b c w)→k r'):bf r k:=h2 r h1
end Go.Vc
namespace Go.Proofs.YtcdpblipagajiaaGreat
open Go Go.Vc Go.Srt Go.Inc Go.Sym Go.Bits Go.aj
section
variable {E w:World} {F:List HP}
set_option maxRecDepth 20000
theorem Hn {s:Sl} {b:List Nat} {k:Nat} {K:Int→World→Prop} (hs:aC 1 s (b.map vB) w) (hb: ∀y∈b,y<256) (hk:k<8*b.length) (hn:b.length≤cf) (hK:K (fa b k:Int) w):
  Cl Tryz.prog [az .u8] ju ⟨[.slice s.base s.len s.cap,.int .i64 (k:Int)]⟩ w K:=by
 refine wv.ok _ _ _ _ ?_
 have hmx:IntKind.max .i64=9223372036854775807:=rfl
 have hm8:IntKind.max .u8=255:=rfl
 rw [av] at hn
 have e1:aF .i64 (k:Int) 3=((k/8:Nat):Int):=by rw [show (3:Int)=((3:Nat):Int) from rfl,bO (by decide)]
 have e2:bo .i64 (k:Int) 7=((k % 8:Nat):Int):=by
  rw [show (7:Int)=((7:Nat):Int) from rfl,ew (by omega) (by omega),show (7:Nat)=2^3 - 1 from rfl,Nat.and_two_pow_sub_one_eq_mod]
 have hl:=hs.1
 rw [List.length_map,Nat.mul_one] at hl
 have hlt:k/8<b.length:=by omega
 rw [e1,e2,ad (by omega),show (7:Int) - ((k % 8:Nat):Int)=((7 - k % 8:Nat):Int) by omega]
 refine ⟨by decide,ao.rd hs (by omega) (by omega) fun q _ hq=> ?_⟩
 have hx:b[k/8]<256:=hb _ (List.getElem_mem hlt)
 refine Ld.sc (s:= .int .u8) (b[k/8]:Int) (by rw [hq];simp only [Int.toNat_natCast,List.getElem_map];rfl) ⟨by omega,?_⟩
 have hd:=Nat.div_le_self b[k/8] (2^(7 - k % 8))
 rw [bO (by have:IntKind.bits .u8=8:=rfl;omega),show (1:Int)=((1:Nat):Int) from rfl,ew (by omega) (by omega),Nat.and_one_is_mod]
 have:fa b k=b[k/8]/2^(7 - k % 8) % 2:=by unfold fa;rw [bX hlt]
 rw [←this];exact hK
theorem zX {b:List Nat} {k:Nat} (hk:k<8*b.length):(aW b)[k]? =some (fa b k):=by
 unfold aW bitsOf
 rw [List.getElem?_map,List.getElem?_range hk];rfl
theorem IK {s:Sl} {b:List Nat} {K:Sl→World→Prop} (h:Hp E w F) (hs:ab F (aC 1 s (b.map vB))) (hb: ∀y∈b,y<256) (hn:b.length≤100000000) (hK: ∀s' w',Hp E w' (ah 1 s' ((ints (aW b)).map vI)::F)→K s' w'):
  Cl Tryz.prog [kS] jX ⟨[.slice s.base s.len s.cap]⟩ w K:=by
 refine yk.ok _ _ _ ?_
 have hl:=(h.ag hs).1
 rw [List.length_map,Nat.mul_one] at hl
 have hal:=fJ b
 rw [ad (by omega)]
 refine ⟨fun o i w=> ∃k:Nat,i=(k:Int)∧k≤8*b.length∧Hp E w (ah 1 o ((ints ((aW b).take k)).map vI)::F),fun _ i _=>8*b.length - i.toNat,⟨0,rfl,by omega,h.bl 1⟩,?_⟩
 rintro o i w ⟨k,rfl,hk,h⟩
 refine aa.dm (fun hlt=> ?_) (fun hge=> ?_)
 ·have hlt:k<8*b.length:=by omega
  refine Hn (h.drop.ag hs) hb hlt (by rw [av];omega) ?_
  have hbl:fa b k<2:=xA b k
  rw [ad (x:=(fa b k:Int)) (by omega),ad (by omega)]
  refine Nw.mk h fun b10 w h=> ?_
  have hol:=(h.at 1).aO
  simp only [ints,List.length_map,Nat.mul_one,List.length_take] at hol
  refine aM (s:=o) (ys:= [vI (fa b k:Int)]) (n:=1) iO (by decide) (.inl ⟨3,by kernel_rfl⟩) (h.at 1) (.inl ⟨some ⟨b10,0,none⟩,1,1,rfl,rfl,h.ag (ab.aD rfl rfl)⟩) rfl (by intro y hy;rw [List.mem_singleton] at hy;rw [hy];rfl) (by omega) (by omega) fun s3 w h _=> ?_
  refine ⟨⟨k+1,rfl,by omega,?_⟩,by first|omega|(dsimp only;omega)⟩
  rw [show (ints ((aW b).take (k+1))).map vI=(ints ((aW b).take k)).map vI++ [vI (fa b k:Int)] by rw [List.take_add_one,zX hlt];simp [ints]]
  exact h.dP
 ·have hk2:k=8*b.length:=by omega
  subst hk2
  rw [List.take_of_length_le (by omega)] at h
  exact hK _ _ h
theorem Fl {s:Sl} {bs:List Nat} {K:Bool→World→Prop} (h:Hp E w F) (hs:ab F (aC 1 s ((ints bs).map vI))) (hn:bs.length≤cf) (hK: ∀w',Hp E w' F→K (decide (1∈bs)) w'):
  Cl Tryz.prog [kB] dy ⟨[.slice s.base s.len s.cap,.int .i64 1]⟩ w K:=by
 refine mF.ok _ _ _ _ ?_
 refine ph.ok _ _ _ _ ?_
 have hl:=(h.ag hs).1
 simp only [ints,List.length_map,Nat.mul_one] at hl
 rw [av] at hn
 refine ⟨fun i w=> ∃k:Nat,i=(k:Int)∧k≤bs.length∧1∉bs.take k∧Hp E w F,fun i _=>bs.length - i.toNat,⟨0,rfl,by omega,by simp,h⟩,?_⟩
 rintro i w ⟨k,rfl,hk,hno,h⟩
 refine aa.dm (fun hlt=> ?_) (fun hge=> ?_)
 ·have hlt:k<bs.length:=by omega
  refine ao.rd (h.ag hs) (by omega) (by omega) fun q _ hq=> ?_
  refine Ld.sc (s:= .int .i64) (bs[k]:Int) (by rw [hq];simp [Sc.enc,vI,ints]) ?_
  refine aa.em (fun he=> ?_) (fun he=> ?_)
  ·have:decide (1∈bs)=true:=decide_eq_true (by
    have e:bs[k]=1:=by omega
    rw [←e];exact List.getElem_mem hlt)
   try dsimp only
   rw [show decide ((k:Int)≥0)=true from decide_eq_true (by omega),←this]
   exact hK w h
  ·rw [ad (by omega)]
   refine ⟨⟨k+1,rfl,by omega,?_,h⟩,by first|omega|(dsimp only;omega)⟩
   rw [List.take_add_one,List.getElem?_eq_getElem hlt]
   intro hm
   rcases List.mem_append.1 hm with hm|hm
   ·exact hno hm
   ·simp at hm;omega
 ·have hk2:k=bs.length:=by omega
  subst hk2
  rw [List.take_of_length_le (Nat.le_refl _)] at hno
  try dsimp only
  rw [show decide ((-1:Int)≥0)=false from rfl,←decide_eq_false hno]
  exact hK w h
def JZ (l:List Nat) (M:Nat) (s:CS):Prop:=nZ l s.c s.n∧jQ s.d∧(∀x∈s.acc,x<256)∧s.acc.length+s.d.left≤M
theorem DT {l:List Nat} {s:Sl} {bs:List Nat} {M:Nat} {K:Sl→Int→Int→World→Prop} (h:Hp E w F) (hl:l.length=258) (hok:cq l=true) (hM:1≤M) (hM2:M≤65536) (hs:ab F (aC 1 s ((ints bs).map vI))) (hb: ∀x∈bs,x≤1) (hbig:bs.length≤cf)
  (hshort: ∀s' w',run (cW l) ⟨0,0,⟨List.range 256,M,0,0⟩,[]⟩ bs= .short s'→Hp E w' F→K ⟨none,0,0⟩ 0 50 w')
  (hbad: ∀w',run (cW l) ⟨0,0,⟨List.range 256,M,0,0⟩,[]⟩ bs= .bad 160→Hp E w' F→K ⟨none,0,0⟩ 0 160 w')
  (hfin: ∀last r s' w',run (cW l) ⟨0,0,⟨List.range 256,M,0,0⟩,[]⟩ bs= .fin last r→(∀x∈last,x<256)→last.length≤M→Hp E w' (ah 1 s' (last.map vB)::F)→K s' ((bs.length - r.length:Nat):Int) 0 w'):
  Cl Tryz.prog [kS,kI,kI] jT ⟨[.int .i64 (M:Int),.agg (ai .u8 l),.slice s.base s.len s.cap]⟩ w K:=by
 refine xh.ok _ _ _ _ _ ?_
 have hlen:=(h.ag hs).1
 simp only [ints,List.length_map,Nat.mul_one] at hlen
 rw [av] at hbig
 have hsz:(ai .u8 l).size=258:=by rw [aJ,hl]
 have hst: ∀c n,(cU l c n).size=260:=fun c n=>bU hl
 have hz1:(⟨List.replicate 258 (.int .u8 0)++ [.int .i64 0,.int .i64 0]⟩:Array Value).size=260:=by simp
 have hz2:(⟨List.replicate 256 (.int .u8 0)++ [.int .i64 0,.int .i64 0,.int .i64 0,.bool false]⟩:Array Value).size=260:=by simp
 refine Nw.mk h fun b5 w h=>Ld.xw h hsz (Je h hl (fun hf=>absurd hok (by rw [hf];decide)) fun _ w h=> ?_)
 refine Nw.mk h fun b11 w h=>ar.q h hz1 (hst _ _) (List.all_eq_true.2 cL) fun w h=>GQ h hM hM2 fun w h=> ?_
 have hd0:jQ ⟨List.range 256,M,0,0⟩:=jQ.zero hM2
 refine Nw.mk h fun b16 w h=>ar.q h hz2 (aQ (by simp)) bb fun w h=> ?_
 refine ⟨fun o i w=> ∃(k:Nat) (cs:CS),i=(k:Int)∧k≤bs.length∧JZ l M cs∧run (cW l) ⟨0,0,⟨List.range 256,M,0,0⟩,[]⟩ (bs.take k)= .short cs∧
  Hp E w (ah 1 o (cs.acc.map vB)::aj b16 (.cells (gS cs.d.L (cs.d.left:Int) (cs.d.run:Int) (cs.d.digits:Int) false) 149 (0,0))::aj b11 (.cells (cU l cs.c cs.n) 145 (0,0))::F),
  fun _ i _=>bs.length - i.toNat,⟨0,_,rfl,by omega,⟨nZ.zero hok,hd0,by simp,by simp⟩,rfl,(h.bl 1).no 3⟩,?_⟩
 rintro o i w ⟨k,cs,rfl,hk,hcs,hrun,h⟩
 refine aa.dm (fun hlt=> ?_) (fun hge=> ?_)
 ·have hlt:k<bs.length:=by omega
  have hx:=hb _ (List.getElem_mem hlt)
  obtain ⟨hv,hd,ha,hal⟩:=hcs
  have hdL:=hd.1.len
  have hfs:=FQ hl hv hx
  have hfst:=HB (l:=l) (c:=cs.c) (b:=cs.n) (x:=bs[k])
  have hvn:=hv.next hx
  refine bf.HT (fun a i d w=> ∃b34:Nat,a=⟨b34,0,none⟩∧i=(((dQ l cs.c cs.n bs[k]).2.getD 0:Nat):Int)∧d=(dQ l cs.c cs.n bs[k]).2.isSome∧
   Hp E w (aj b34 (.cells (cU l (dQ l cs.c cs.n bs[k]).1.1 (dQ l cs.c cs.n bs[k]).1.2) 145 (0,0))::ah 1 o (cs.acc.map vB)::aj b16 (.cells (gS cs.d.L (cs.d.left:Int) (cs.d.run:Int) (cs.d.digits:Int) false) 149 (0,0))::aj b11 (.cells (cU l cs.c cs.n) 145 (0,0))::F)) ?_ fun r' hr'=> ?_
  ·rintro a i d w ⟨b34,rfl,rfl,rfl,h⟩
   refine Ld.xw h (hst _ _) (ar.q h (hst _ _) (hst _ _) (List.all_eq_true.2 cL) fun w h=> ?_)
   rw [ad (by omega)]
   cases hsy:(dQ l cs.c cs.n bs[k]).2 with
   |none=>
    rw [hsy] at hfs hfst
    rw [hfst] at h hvn
    refine aa.t rfl ⟨⟨k+1,⟨2*cs.c+bs[k],cs.n+1,cs.d,cs.acc⟩,rfl,by omega,⟨hvn,hd,ha,hal⟩,?_,h.no 0⟩,by first|omega|(dsimp only;omega)⟩
    rw [List.take_add_one,List.getElem?_eq_getElem hlt]
    show run (cW l) _ (bs.take k++ [bs[k]])=_
    rw [cR hrun,bD (Br hfs.symm)];rfl
   |some y=>
    rw [hsy] at hfs hfst
    rw [hfst] at h hvn
    have hy:y<258:=(xT hl hv hx hsy).1
    have hcs:=AZ (s:=cs) (x:=bs[k]) (y:=y) hfs.symm
    have hdrop:run (cW l) ⟨0,0,⟨List.range 256,M,0,0⟩,[]⟩ bs=run (cW l) cs (bs[k]::bs.drop (k+1)):=by
     rw [←List.drop_eq_getElem_cons hlt]
     conv=>lhs;rw [←List.take_append_drop k bs]
     exact cR hrun _
    refine aa.f rfl (Ld.xw h (aQ hdL) ?_)
    refine FJ (s:=y) h hd hy (fun e w hq ho hos h=> ?_) (fun d' t sl w hq h=> ?_) (fun d' t sl w hq h=> ?_)
    ·refine Nw.mk h fun b56 w h=>ar.q h hz2 ho hos fun w h=>aa.nt (by decide) (hbad w ?_ h.tl)
     rw [hdrop]
     exact lC (by rw [hcs,hq])
    ·obtain ⟨hd',hb',hl'⟩:=AJ hd hy hq
     have l1:=h.aO
     have l2:=(h.at 2).aO
     rw [List.length_map,Nat.mul_one] at l1 l2
     refine Nw.mk h fun b56 w h=>ar.q h hz2 (aQ hd'.1.len) bb fun w h=>aa.nf rfl ?_
     have h:=h.drew (n:=w.drawn+1)
     refine ⟨cj b56 _ _ _,h.hb,ae.xw (fun _ h=>h) (aQ hd'.1.len) ?_⟩
     refine aM (s:=o) (n:=sl.len) oP (by decide) (.inl ⟨5,by kernel_rfl⟩) (h.at 3) (.inl ⟨sl.base,sl.len,sl.cap,rfl,rfl,(h.at 1).ag ab.own⟩) (by rw [List.length_map,l1,Nat.mul_one]) ek (by omega) (by omega) fun s3 w h _=>⟨h.hb,?_⟩
     refine ar.q (b:=b16) h (aQ hdL) (aQ hd'.1.len) bb fun w h=>⟨h.hb,aa.f rfl ?_⟩
     rw [←List.map_append] at h
     refine ⟨⟨k+1,⟨0,0,d',cs.acc++t⟩,rfl,by omega,⟨hvn,hd',?_,?_⟩,?_,((h.no 1).no 1).no 1⟩,by first|omega|(dsimp only;omega)⟩
     ·intro x hx
      rcases List.mem_append.1 hx with hx|hx
      ·exact ha x hx
      ·exact hb' x hx
     ·rw [List.length_append];dsimp only;omega
     ·rw [List.take_add_one,List.getElem?_eq_getElem hlt]
      show run (cW l) _ (bs.take k++ [bs[k]])=_
      rw [cR hrun,bD (by rw [hcs,hq])];rfl
    ·obtain ⟨hb',hl'⟩:=Ex hd hq
     have l1:=h.aO
     have l2:=(h.at 2).aO
     rw [List.length_map,Nat.mul_one] at l1 l2
     refine Nw.mk h fun b56 w h=>ar.q h hz2 (aQ hdL) bb fun w h=>aa.nf rfl ?_
     have h:=h.drew (n:=w.drawn+1)
     refine ⟨cj b56 _ _ _,h.hb,ae.xw (fun _ h=>h) (aQ hdL) ?_⟩
     refine aM (s:=o) (n:=sl.len) oP (by decide) (.inl ⟨5,by kernel_rfl⟩) (h.at 3) (.inl ⟨sl.base,sl.len,sl.cap,rfl,rfl,(h.at 1).ag ab.own⟩) (by rw [List.length_map,l1,Nat.mul_one]) ek (by omega) (by omega) fun s3 w h _=>⟨h.hb,?_⟩
     refine ar.q (b:=b16) h (aQ hdL) (aQ hdL) bb fun w h=>⟨h.hb,aa.t rfl ?_⟩
     rw [←List.map_append] at h
     have hr:=hfin (cs.acc++t) (bs.drop (k+1)) s3 w (by rw [hdrop];exact lG (by rw [hcs,hq])) (fun x hx=>by
      rcases List.mem_append.1 hx with hx|hx
      ·exact ha x hx
      ·exact hb' x hx) (by rw [List.length_append];omega) h.dP
     rw [List.length_drop,show bs.length - (bs.length - (k+1))=k+1 by omega] at hr
     exact hr
  ·have h:=h.drew (n:=w.drawn+1)
   refine ⟨fun w=>cj b11 (cU l cs.c cs.n) 145 (0,0) w∧aC 1 s ((ints bs).map vI) w,⟨h.hb,(h.tl:Hp E _ F).ag hs⟩,ae.xw (fun _ h=>h.1) (hst _ _) ?_⟩
   refine ao.J8 (sc:= .int .i64) ((h.tl:Hp E _ F).ag hs) (fun _ h=>h.2) rfl (by simp [ints];exact hlt) (bs[k]:Int) (by simp [Sc.enc,vI,ints,hlt]) ⟨?_,?_⟩
   ·refine C5 h hl hv hx fun w h=>⟨⟨h.hb,(h.tl:Hp E w F).ag hs⟩,?_⟩
    refine Nw.mk h fun b34 w h=>⟨⟨h.hb,(h.tl:Hp E w F).ag hs⟩,?_⟩
    refine ar.q h hz1 (hst _ _) (List.all_eq_true.2 cL) fun w h=>⟨⟨h.hb,(h.tl:Hp E w F).ag hs⟩,?_⟩
    exact hr' _ _ _ _ ⟨b34,rfl,rfl,rfl,h⟩
   ·refine Nw.mk h fun b34 w h=>⟨⟨h.hb,(h.tl:Hp E w F).ag hs⟩,?_⟩
    refine C5 h hl hv hx fun w h=>⟨⟨h.hb,(h.tl:Hp E w F).ag hs⟩,?_⟩
    refine ar.q h hz1 (hst _ _) (List.all_eq_true.2 cL) fun w h=>⟨⟨h.hb,(h.tl:Hp E w F).ag hs⟩,?_⟩
    exact hr' _ _ _ _ ⟨b34,rfl,rfl,rfl,h⟩
 ·have hk2:k=bs.length:=by omega
  subst hk2
  rw [List.take_of_length_le (Nat.le_refl _)] at hrun
  exact hshort cs w hrun h.tl
end
end Go.Proofs.YtcdpblipagajiaaGreat
namespace Go.Proofs.YtcdpblipagajiaaGreat
open Go Go.Vc
set_option maxRecDepth 100000
theorem Ch.ok (a:Sl) (R:Sl→World→Prop) w (h:
 Cl Pg [(.arr 257)] ji ⟨[]⟩ w fun c b=>
 Cl Pg [(.arr 257),kS,kI] kF ⟨[(.agg c),(al a)]⟩ b fun e (f:Sl) (g:Int) d=>
 Nw 110 ⟨List.replicate 256 (.int .u8 0)++ [(ni 0)]⟩ d fun i h=>
 ar 257 ⟨i,0,none⟩ e h fun j=>
 Ld (.arr 257) ⟨i,0,none⟩ j fun k=>
 Cl Pg [kS,kI] mn ⟨[(.agg k)]⟩ j fun (m:Sl) (n:Int) l=>
 aA Pg (Builtin.append_ #[33,33] 33 ⟨[(al f),(al m)]⟩) kS l fun (p:Sl) o=>
 R p o):Cl Pg [kS] jv ⟨[(al a)]⟩ w R:=co Tryz.f44 [] h
theorem Ah.ok (a:(Array Value)) (b:Sl) (R:(Array Value)→Sl→Int→World→Prop) w (h:
 Nw 110 a w fun d c=>
 Nw 110 ⟨List.replicate 256 (.int .u8 0)++ [(ni 0)]⟩ c fun f e=>
 bf (fun (r:World)=>
 cD (⟨none,0,0⟩:Sl) 0 r fun s t (u:Sl) (v:Int) x=>
 aa (decide (v<(b.len:Int)))
 (ao b v 1 fun y=>
 Ld (az .u8) y x fun (z:Int)=>
 Ld (.arr 256) (Addr.add ⟨d,0,none⟩ 0) x fun a1=>
 Cl Pg [(.arr 256),kI] qk ⟨[(.agg a1),(.int .u8 z)]⟩ x fun c1 (d1:Int) b1=>
 ar 256 (Addr.add ⟨d,0,none⟩ 0) c1 b1 fun e1=>
 aa (d1==0)
 (Ld kI (Addr.add ⟨d,0,none⟩ 256) e1 fun (f1:Int)=>
 St (Addr.add ⟨d,0,none⟩ 256) (ni (i64 (f1+1))) e1 fun g1=>
 s u (i64 (v+1)) g1∧t u (i64 (v+1)) g1<t u v x)
 (Ld kI (Addr.add ⟨d,0,none⟩ 256) e1 fun (h1:Int)=>
 Cl Pg [kS,kI] fe ⟨[(ni h1)]⟩ e1 fun (j1:Sl) (k1:Int) i1=>
 aA Pg (Builtin.append_ #[33,33] 33 ⟨[(al u),(al j1)]⟩) kS i1 fun (m1:Sl) l1=>
 Nw 3 ⟨[(ni (i64 (d1+1)))]⟩ l1 fun o1 n1=>
 aA Pg (Builtin.append_ #[33,33] 33 ⟨[(al m1),(al (⟨some ⟨o1,0,none⟩,1,1⟩:Sl))]⟩) kS n1 fun (q1:Sl) p1=>
 St (Addr.add ⟨d,0,none⟩ 256) (ni 0) p1 fun r1=>
 s q1 (i64 (v+1)) r1∧t q1 (i64 (v+1)) r1<t u v x))
 (Ld (.arr 257) ⟨d,0,none⟩ x fun s1=>
 ar 257 ⟨f,0,none⟩ s1 x fun t1=>
 Ld (.arr 257) ⟨f,0,none⟩ t1 fun u1=>
 R u1 u 0 t1)) fun g=>
 Ld (.arr 257) ⟨d,0,none⟩ e fun h=>
 Cl Pg [kB] gF ⟨[(.agg h)]⟩ e fun (j:Bool) i=>
 aa (!j)
 (Ld (.arr 257) ⟨d,0,none⟩ i fun k=>
 ar 257 ⟨f,0,none⟩ k i fun l=>
 Ld (.arr 257) ⟨f,0,none⟩ l fun m=>
 R m (⟨none,0,0⟩:Sl) 2 l)
 (Ld kI (Addr.add ⟨d,0,none⟩ 256) i fun (n:Int)=>
 aa (decide ((b.len:Int)>(i64 ((2147483647:Int) - n))))
 (Ld (.arr 257) ⟨d,0,none⟩ i fun o=>
 ar 257 ⟨f,0,none⟩ o i fun p=>
 Ld (.arr 257) ⟨f,0,none⟩ p fun q=>
 R q (⟨none,0,0⟩:Sl) 2 p)
 (g i))):Cl Pg [(.arr 257),kS,kI] kF ⟨[(.agg a),(al b)]⟩ w R:=co Tryz.f89 [(2,[]),(14,[(7,kS),(27,kI)])] h
theorem CM.ok (R:(Array Value)→World→Prop) w (h:
 Nw 110 ⟨List.replicate 256 (.int .u8 0)++ [(ni 0)]⟩ w fun b a=>
 Cl Pg [(.arr 256)] mW ⟨[]⟩ a fun d c=>
 cK Pg 110 [(0,(.agg d))] fun e=>
 ar 257 ⟨b,0,none⟩ e c fun f=>
 Ld (.arr 257) ⟨b,0,none⟩ f fun g=>
 R g f):Cl Pg [(.arr 257)] ji ⟨[]⟩ w R:=co Tryz.f90 [] h
theorem Cm.ok (a:(Array Value)) (R:Sl→Int→World→Prop) w (h:
 Nw 110 a w fun c b=>
 Ld (.arr 257) ⟨c,0,none⟩ b fun d=>
 Cl Pg [kB] gF ⟨[(.agg d)]⟩ b fun (f:Bool) e=>
 aa (!f)
 (R (⟨none,0,0⟩:Sl) 2 e)
 (Ld kI (Addr.add ⟨c,0,none⟩ 256) e fun (g:Int)=>
 Cl Pg [kS,kI] fe ⟨[(ni g)]⟩ e fun (i:Sl) (j:Int) h=>
 Nw 3 ⟨[(ni 257)]⟩ h fun l k=>
 aA Pg (Builtin.append_ #[33,33] 33 ⟨[(al i),(al (⟨some ⟨l,0,none⟩,1,1⟩:Sl))]⟩) kS k fun (n:Sl) m=>
 R n 0 m)):Cl Pg [kS,kI] mn ⟨[(.agg a)]⟩ w R:=co Tryz.f91 [] h
theorem yz.ok (a:(Array Value)) (R:Bool→World→Prop) w (h:
 Nw 110 a w fun c b=>
 eB b fun d e=>
 ae (.arr 257) ⟨c,0,none⟩ d fun f=>
 Cl Pg [(.arr 257)] ji ⟨[]⟩ e fun h g=>
 d g∧
 tX Pg 110 f h fun i=>
 aa i
 (R true g)
 (ae kI (Addr.add ⟨c,0,none⟩ 256) d fun (j:Int)=>
 aa (decide (j≥0))
 (ae kI (Addr.add ⟨c,0,none⟩ 256) d fun (k:Int)=>
 aa (decide (k≤2147483647))
 (ae (.arr 256) (Addr.add ⟨c,0,none⟩ 0) d fun l=>
 Cl Pg [kB] j0 ⟨[(.agg l)]⟩ g fun (n:Bool) m=>
 d m∧
 R n m)
 (R false g))
 (R false g))):Cl Pg [kB] gF ⟨[(.agg a)]⟩ w R:=co Tryz.f133 [] h
end Go.Proofs.YtcdpblipagajiaaGreat
set_option maxRecDepth 20000
namespace Go.Vc
open Go
section
variable {E w:World} {F A:List HP}
theorem Hp.put {b:Nat} {o:Obj} (h:Hp E w (aj b o::F)) (o':Obj):Hp E (w.putObj b o') (aj b o'::F):=h.setObj rfl rfl rfl rfl
def BN:HP:=fun _=>False
theorem Hp.EC {B:HP} (h:Hp E w (B::BN::F)):False:=by
 obtain ⟨f,_,g,k,_,_,_,g2,k2,_,_,h2,_⟩:=h.frag
 exact h2
def AW (P:Program) (E:World) (yv:Value) (n:Nat) (vs:Nat→List Value) (C G:Nat→List HP):Prop:=
 ∀i,i<n→∀(A:List HP) (w:World) (K:Bool→World→Prop),Hp E w (C i++A)→(∀w',Hp E w' (C (i+1)++A)→K true w')→(∀w',Hp E w' (G i++A)→K false w')→kp P yv [kB] (vs i) w K
def Iter (P:Program) (E:World) (v:Value) (n:Nat) (vs:Nat→List Value) (A:List HP):Prop:=
 ∀(yv:Value) (C G:Nat→List HP) (w:World) (K:World→Prop),AW P E yv n vs C G→Hp E w (C 0++A)→(∀w',Hp E w' (C n++A)→K w')→(∀i w',i<n→Hp E w' (G i++A)→K w')→pL P v [] [yv] w K
theorem fB.gen {P:Program} {v:Value} {ks:List Ki} {B:Nat→(Nat→Obj)→ea ks (World→(World→Prop)→(World→Prop)→Prop)} {K Kr:Nat→World→Prop} {n:Nat} {vs:Nat→List Value} (C G:Nat→List HP)
  (hh:Hp E w (C 0++A)) (hit:Iter P E v n vs A)
  (hbody: ∀l rec (T:List Value→(World→(World→Prop)→(World→Prop)→Prop)→Prop),zh ks (B l rec) T→∀i,i<n→∃b,T (vs i) b∧∀(A:List HP) (w:World) (Kt Kf:World→Prop),Hp E w (aj l (rec 0)::(C i++A))→
   (∀w',Hp E w' (aj l (rec 0)::(C (i+1)++A))→Kt w')→(∀w',Hp E w' (aj l (rec 2)::(G i++A))→Kf w')→b w Kt Kf)
  (hK: ∀D w',Hp E w' (aj D (.deferred (some []))::(C n++A))→K D w') (hKr: ∀i D w',i<n→Hp E w' (aj D (.deferred (some []))::(G i++A))→Kr D w'):fB P v ks w B K Kr:=by
 intro rec yv hy
 have h1:=hh.alloc (.deferred (some []))
 have h2:=h1.alloc (rec 0)
 have hs:(w.alloc (.deferred (some []))).heap.size=w.heap.size+1:=by show (w.heap.push _).size=_;simp
 rw [hs] at h2
 refine hit yv (fun i=>aj (w.heap.size+1) (rec 0)::aj w.heap.size (.deferred (some []))::C i) (fun i=>aj (w.heap.size+1) (rec 2)::aj w.heap.size (.deferred (some []))::G i) _ _ ?_ h2 ?_ ?_
 ·intro i hi A w2 R h hKt hKf
  obtain ⟨b,hb,h3⟩:=hbody (w.heap.size+1) rec _ (hy R w2) i hi
  refine hb h.aD (h3 (aj w.heap.size (.deferred (some []))::A) w2 _ _ (h.perm (.cons _ List.perm_middle.symm)) (fun w' h'=>hKt w' (h'.perm (.cons _ List.perm_middle))) (fun w' h'=>hKf w' (h'.perm (.cons _ List.perm_middle))))
 ·intro w' h
  have h:Hp E w' (aj (w.heap.size+1) (rec 0)::aj w.heap.size (.deferred (some []))::(C n++A)):=h
  exact .inl ⟨h.aD,hK _ _ (h.put (rec 3)).drop⟩
 ·intro i w' hi h
  have h:Hp E w' (aj (w.heap.size+1) (rec 2)::aj w.heap.size (.deferred (some []))::(G i++A)):=h
  exact .inr ⟨h.aD,hKr i _ _ hi (h.put (rec 4)).drop⟩
theorem fB.vy {P:Program} {v:Value} {k:Ki} {B:Nat→(Nat→Obj)→k.T→World→(World→Prop)→(World→Prop)→Prop} {K Kr:Nat→World→Prop} {n:Nat} {x:Nat→k.T} (C G:Nat→List HP)
  (hh:Hp E w (C 0++A)) (hit:Iter P E v n (fun i=> [k.enc (x i)]) A)
  (hbody: ∀l rec i (A:List HP) (w:World) (Kt Kf:World→Prop),i<n→Hp E w (aj l (rec 0)::(C i++A))→
   (∀w',Hp E w' (aj l (rec 0)::(C (i+1)++A))→Kt w')→(∀w',Hp E w' (aj l (rec 2)::(G i++A))→Kf w')→B l rec (x i) w Kt Kf)
  (hK: ∀D w',Hp E w' (aj D (.deferred (some []))::(C n++A))→K D w') (hKr: ∀i D w',i<n→Hp E w' (aj D (.deferred (some []))::(G i++A))→Kr D w'):fB P v [k] w B K Kr:=
 fB.gen (ks:= [k]) C G hh hit (fun l rec _ hT i hi=>⟨_,hT (x i),fun A w Kt Kf=>hbody l rec i A w Kt Kf hi⟩) hK hKr
theorem fB.IH {P:Program} {v:Value} {k k':Ki} {B:Nat→(Nat→Obj)→k.T→k'.T→World→(World→Prop)→(World→Prop)→Prop} {K Kr:Nat→World→Prop} {n:Nat} {x:Nat→k.T} {y:Nat→k'.T} (C G:Nat→List HP)
  (hh:Hp E w (C 0++A)) (hit:Iter P E v n (fun i=> [k.enc (x i),k'.enc (y i)]) A)
  (hbody: ∀l rec i (A:List HP) (w:World) (Kt Kf:World→Prop),i<n→Hp E w (aj l (rec 0)::(C i++A))→
   (∀w',Hp E w' (aj l (rec 0)::(C (i+1)++A))→Kt w')→(∀w',Hp E w' (aj l (rec 2)::(G i++A))→Kf w')→B l rec (x i) (y i) w Kt Kf)
  (hK: ∀D w',Hp E w' (aj D (.deferred (some []))::(C n++A))→K D w') (hKr: ∀i D w',i<n→Hp E w' (aj D (.deferred (some []))::(G i++A))→Kr D w'):fB P v [k,k'] w B K Kr:=
 fB.gen (ks:= [k,k']) C G hh hit (fun l rec _ hT i hi=>⟨_,hT (x i) (y i),fun A w Kt Kf=>hbody l rec i A w Kt Kf hi⟩) hK hKr
theorem sK.mk {l:Nat} {rec:Nat→Obj} {K:World→Prop} (h:Hp E w (aj l (rec 0)::F)) (hK: ∀w',Hp E w' (aj l (rec 1)::F)→K w'):sK l rec w K:=⟨h.aD,hK _ (h.put _)⟩
theorem oX.mk {l:Nat} {rec:Nat→Obj} {K:World→Prop} (h:Hp E w (aj l (rec 1)::F)) (hK: ∀w',Hp E w' (aj l (rec 0)::F)→K w'):oX l rec w K:=⟨h.aD,hK _ (h.put _)⟩
theorem F5.mk {l:Nat} {rec:Nat→Obj} {K:World→Prop} (h:Hp E w (aj l (rec 1)::F)) (hK: ∀w',Hp E w' (aj l (rec 2)::F)→K w'):F5 l rec w K:=⟨h.aD,hK _ (h.put _)⟩
theorem kx.vy {D:Nat} {K:World→Prop} (h:Hp E w (aj D (.deferred (some []))::F)) (hK: ∀w',Hp E w' F→K w'):kx [D] w K:=⟨h.aD,hK _ (h.put _).drop⟩
theorem kx.mk: ∀{ms:List Nat} {w:World} {K:World→Prop},Hp E w (ms.map (fun D=>aj D (.deferred (some [])))++F)→(∀w',Hp E w' F→K w')→kx ms w K
 | [],_,_,h,hK=>hK _ h
 |D::ms,w,K,h,hK=>by
  have h:Hp E w (aj D (.deferred (some []))::(ms.map (fun D=>aj D (.deferred (some [])))++F)):=h
  exact ⟨h.aD,kx.mk (ms:=ms) (h.put _).drop hK⟩
end
end Go.Vc
set_option maxRecDepth 20000
namespace Go.Vc
open Go
section
variable {E w:World} {F A:List HP}
def tp (P:Program) (E:World) (v:Value) (n:Nat) (vs:Nat→List Value) (A:List HP) (Φ:World→Prop):Prop:=
 ∀(yv:Value) (C G:Nat→List HP) (w:World) (K:World→Prop),(∀i,ab (C i) Φ)→AW P E yv n vs C G→Hp E w (A++C 0)→(∀w',Hp E w' (C n)→K w')→(∀i w',i<n→Hp E w' (G i)→K w')→pL P v [] [yv] w K
theorem fB.IP {P:Program} {v:Value} {ks:List Ki} {Y:Nat→(Nat→Obj)→ea ks (World→(World→Prop)→(World→Prop)→Prop)} {K Kr:Nat→World→Prop} {n:Nat} {vs:Nat→List Value} {Φ:World→Prop} (C G:Nat→List HP)
  (hh:Hp E w (A++C 0)) (hΦ: ∀i,ab (C i) Φ) (hit:tp P E v n vs A Φ)
  (hbody: ∀l rec (T:List Value→(World→(World→Prop)→(World→Prop)→Prop)→Prop),zh ks (Y l rec) T→∀i,i<n→∃b,T (vs i) b∧∀(A:List HP) (w:World) (Kt Kf:World→Prop),Hp E w (aj l (rec 0)::(C i++A))→
   (∀w',Hp E w' (aj l (rec 0)::(C (i+1)++A))→Kt w')→(∀w',Hp E w' (aj l (rec 2)::(G i++A))→Kf w')→b w Kt Kf)
  (hK: ∀D w',Hp E w' (aj D (.deferred (some []))::C n)→K D w') (hKr: ∀i D w',i<n→Hp E w' (aj D (.deferred (some []))::G i)→Kr D w'):fB P v ks w Y K Kr:=by
 intro rec yv hy
 have h1:=hh.alloc (.deferred (some []))
 have h2:=h1.alloc (rec 0)
 have hs:(w.alloc (.deferred (some []))).heap.size=w.heap.size+1:=by show (w.heap.push _).size=_;simp
 rw [hs] at h2
 refine hit yv (fun i=>aj (w.heap.size+1) (rec 0)::aj w.heap.size (.deferred (some []))::C i) (fun i=>aj (w.heap.size+1) (rec 2)::aj w.heap.size (.deferred (some []))::G i) _ _ (fun i=>(hΦ i).cons.cons) ?_ ?_ ?_ ?_
 ·intro i hi A w2 R h hKt hKf
  obtain ⟨b,hb,h3⟩:=hbody (w.heap.size+1) rec _ (hy R w2) i hi
  refine hb h.aD (h3 (aj w.heap.size (.deferred (some []))::A) w2 _ _ (h.perm (.cons _ List.perm_middle.symm)) (fun w' h'=>hKt w' (h'.perm (.cons _ List.perm_middle))) (fun w' h'=>hKf w' (h'.perm (.cons _ List.perm_middle))))
 ·refine h2.perm ?_
  refine (List.Perm.trans (.cons _ List.perm_middle.symm) List.perm_middle.symm)
 ·intro w' h
  exact .inl ⟨h.aD,hK _ _ (h.put (rec 3)).drop⟩
 ·intro i w' hi h
  exact .inr ⟨h.aD,hKr i _ _ hi (h.put (rec 4)).drop⟩
theorem fB.two {P:Program} {v:Value} {k k':Ki} {Y:Nat→(Nat→Obj)→k.T→k'.T→World→(World→Prop)→(World→Prop)→Prop} {K Kr:Nat→World→Prop} {n:Nat} {x:Nat→k.T} {y:Nat→k'.T} {Φ:World→Prop} (C G:Nat→List HP)
  (hh:Hp E w (A++C 0)) (hΦ: ∀i,ab (C i) Φ) (hit:tp P E v n (fun i=> [k.enc (x i),k'.enc (y i)]) A Φ)
  (hbody: ∀l rec i (A:List HP) (w:World) (Kt Kf:World→Prop),i<n→Hp E w (aj l (rec 0)::(C i++A))→
   (∀w',Hp E w' (aj l (rec 0)::(C (i+1)++A))→Kt w')→(∀w',Hp E w' (aj l (rec 2)::(G i++A))→Kf w')→Y l rec (x i) (y i) w Kt Kf)
  (hK: ∀D w',Hp E w' (aj D (.deferred (some []))::C n)→K D w') (hKr: ∀i D w',i<n→Hp E w' (aj D (.deferred (some []))::G i)→Kr D w'):fB P v [k,k'] w Y K Kr:=
 fB.IP (ks:= [k,k']) C G hh hΦ hit (fun l rec _ hT i hi=>⟨_,hT (x i) (y i),fun A w Kt Kf=>hbody l rec i A w Kt Kf hi⟩) hK hKr
theorem fB.IB {P:Program} {v:Value} {k:Ki} {Y:Nat→(Nat→Obj)→k.T→World→(World→Prop)→(World→Prop)→Prop} {K Kr:Nat→World→Prop} {n:Nat} {x:Nat→k.T} {Φ:World→Prop} (C G:Nat→List HP)
  (hh:Hp E w (A++C 0)) (hΦ: ∀i,ab (C i) Φ) (hit:tp P E v n (fun i=> [k.enc (x i)]) A Φ)
  (hbody: ∀l rec i (A:List HP) (w:World) (Kt Kf:World→Prop),i<n→Hp E w (aj l (rec 0)::(C i++A))→
   (∀w',Hp E w' (aj l (rec 0)::(C (i+1)++A))→Kt w')→(∀w',Hp E w' (aj l (rec 2)::(G i++A))→Kf w')→Y l rec (x i) w Kt Kf)
  (hK: ∀D w',Hp E w' (aj D (.deferred (some []))::C n)→K D w') (hKr: ∀i D w',i<n→Hp E w' (aj D (.deferred (some []))::G i)→Kr D w'):fB P v [k] w Y K Kr:=
 fB.IP (ks:= [k]) C G hh hΦ hit (fun l rec _ hT i hi=>⟨_,hT (x i),fun A w Kt Kf=>hbody l rec i A w Kt Kf hi⟩) hK hKr
def IN {α:Type} (X:α→Prop) (L:α→List HP):HP:=fun f=> ∃x,X x∧Sat (L x) f
theorem Hp.ex {α:Type} {X:α→Prop} {L:α→List HP} (h:Hp E w (IN X L::F)): ∃x,X x∧Hp E w (L x++F):=h.GD fun _ hf=>hf
theorem Hp.J0 {α:Type} {X:α→Prop} {L:α→List HP} (x:α) (hx:X x) (h:Hp E w (L x++F)):Hp E w (IN X L::F):=h.GB fun _ hf=>⟨x,hx,hf⟩
end
end Go.Vc
set_option maxRecDepth 20000
namespace Go.Vc
open Go
def jh (b:Nat) (w:World):Nat:=match w.cell? ⟨b,0,none⟩ with
 |some (.int _ v)=>v.toNat
 |_=>0
theorem jM {E w:World} {l:List HP} {b:Nat} {c:Array Value} {t:TypeId} {fr:Nat×Nat} {put:Obj→List HP} [bJ b l c t fr put] {k:IntKind} {v:Int} (h:Hp E w l) (hc:c[0]? =some (.int k v)):jh b w=v.toNat:=by
 unfold jh
 rw [h.fc,hc]
end Go.Vc
namespace Go.Proofs.YtcdpblipagajiaaGreat
open Go Go.Vc
section
variable {E w:World} {F:List HP}
abbrev bI (b:Nat) (n:Nat):HP:=aj b (.cells ⟨[.int .i64 (n:Int)]⟩ 3 (0,0))
abbrev qi (s:Sl):Value:= .slice s.base s.len s.cap
abbrev fq (b:Nat) (xs:List Nat):HP:=IN (fun (_:Sl)=>True) fun s=> [aj b (.cells ⟨[qi s]⟩ 33 (0,0)),ah 1 s ((ints xs).map vI)]
theorem fq.shut {b:Nat} {s:Sl} {xs:List Nat} (h:Hp E w (aj b (.cells ⟨[qi s]⟩ 33 (0,0))::ah 1 s ((ints xs).map vI)::F)):Hp E w (fq b xs::F):=Hp.J0 s trivial h
theorem fq.put {b b2:Nat} {s:Sl} {xs:List Nat} {x:Nat} {t2:TypeId} {l:List HP} {K:World→Prop} (h:Hp E w (l++aj b2 (.cells ⟨[.int .i64 (x:Int)]⟩ t2 (0,0))::aj b (.cells ⟨[qi s]⟩ 33 (0,0))::ah 1 s ((ints xs).map vI)::F)) (hl:xs.length≤1000000)
  (hK: ∀w',Hp E w' (fq b (xs++ [x])::F)→K w'):
  aA Tryz.prog (Builtin.append_ #[33,33] 33 ⟨[qi s,.slice (some ⟨b2,0,none⟩) 1 1]⟩) kS w fun s28 w_27=>St (⟨b,0,none⟩:Addr) (qi s28) w_27 fun w_29=>K w_29:=by
 have h:=h.oZ
 have hol:=(h.at 2).aO
 simp only [ints,List.length_map,Nat.mul_one] at hol
 refine aM (ys:= [vI (x:Int)]) (n:=1) iO (by decide) (.inl ⟨3,by kernel_rfl⟩) (h.at 2) (.inl ⟨some ⟨b2,0,none⟩,1,1,rfl,rfl,h.ag (ab.aD rfl rfl)⟩) rfl (by intro y hy;rw [List.mem_singleton] at hy;rw [hy];rfl) (by omega) (by omega) fun s' w' h _=> ?_
 refine St.xs h rfl rfl fun w h=>hK w ?_
 dsimp only [an,af] at h
 have h:=(h.no 1).p1
 refine fq.shut (s:=s') ?_
 rw [show (ints (xs++ [x])).map vI=(ints xs).map vI++ [vI (x:Int)] by simp [ints]]
 exact h
end
end Go.Proofs.YtcdpblipagajiaaGreat
set_option maxRecDepth 20000
namespace Go.Proofs.YtcdpblipagajiaaGreat
open Go Go.Vc
section
variable {E w:World} {F:List HP}
theorem Am {s:Sl} {b:List Nat} (hs:aC 1 s (b.map vB) w):(Extern.Bytes.bytesOf (.slice s.base s.len s.cap)).run Tryz.prog w= .ok (strOf b) w:=by
 have hl:=hs.1
 simp only [List.length_map,Nat.mul_one] at hl
 cases hb:s.base with
 |none=>
  have:b= []:=by
   cases b with
   |nil=>rfl
   |cons x b=>
    obtain ⟨p,hp,_⟩:=hs.2 0 (by simp)
    rw [hb] at hp;cases hp
  subst this
  rfl
 |some p=>
  have:=Lib.run_loadBytesX (P:=Tryz.prog) w (b.map fun (x:Nat)=>(x:Int)) p .empty (fun j x hx=>by
   rw [List.getElem?_map] at hx
   cases hj:b[j]? with
   |none=>rw [hj] at hx;cases hx
   |some y=>
    rw [hj] at hx
    obtain rfl:=Option.some.inj hx
    obtain ⟨hjl,hje⟩:=List.getElem?_eq_some_iff.1 hj
    obtain ⟨q,hq,hc⟩:=hs.2 j (by simpa using hjl)
    rw [hb] at hq
    obtain rfl:=Option.some.inj hq
    rw [hc]
    simp [vB,hje])
  rw [List.length_map,hl] at this
  show (Extern.Bytes.loadBytes p s.len .empty).run Tryz.prog w=_
  rw [this]
  congr 1
  unfold strOf strOfNums Lib.bytesOf
  simp [ByteArray.empty,ByteArray.emptyWithCapacity]
  try rfl
end
end Go.Proofs.YtcdpblipagajiaaGreat
namespace Go.Proofs.YtcdpblipagajiaaGreat
open Go Go.Vc Go.Inc Go.Sym
section
variable {E w:World} {F:List HP}
set_option maxRecDepth 20000
theorem Jl {L:List Nat} {s:Sl} {c:Nat} {K:Int→World→Prop} (hL:aX L) (hc:c<256) (hs:aC 1 s (L.map vB) w) (hK:K (L.idxOf c:Int) w):
  Ext Tryz.prog cJ ⟨[.slice s.base s.len s.cap,.int .u8 (c:Int)]⟩ [kI] w K:=by
 have hi:=hL.idx hc
 have hll:=hL.len
 have hsz:(strOf L).size=256:=by
  have:=congrArg List.length (ua L)
  rw [List.length_map,hll] at this
  simpa using this
 have hget: ∀i,i<256→(strOf L)[i]! =UInt8.ofNat (L.getD i 0):=fun i h=>by
  have h1:=ua L
  have h2:(strOf L).data.toList[i]? =some (UInt8.ofNat (L.getD i 0)):=by
   rw [h1,List.getElem?_map,List.getD_eq_getElem?_getD,List.getElem?_eq_getElem (by omega)];rfl
  have h3:i<(strOf L).size:=by omega
  rw [getElem!_pos (strOf L) i h3]
  rw [Array.getElem?_toList] at h2
  have h4:i<(strOf L).data.size:=h3
  rw [Array.getElem?_eq_getElem h4] at h2
  exact Option.some.inj h2
 have hf:(List.range (strOf L).size).find? (fun i=>(strOf L)[i]! ==UInt8.ofNat c)=some (L.idxOf c):=by
  rw [hsz,List.find?_range_eq_some]
  refine ⟨?_,List.mem_range.2 hi.1,fun j hj=> ?_⟩
  ·rw [hget _ hi.1,hi.2];simp
  ·rw [hget j (by omega)]
   have hjl:=hL.get (p:=j) (by omega)
   have hne:L.getD j 0≠c:=fun e=>by
    have:=hL.pZ (p:=j) (by omega)
    rw [e] at this;omega
   simp only [Bool.not_eq_true',beq_eq_false_iff_ne,ne_eq]
   intro e
   have:=congrArg UInt8.toNat e
   simp only [UInt8.toNat_ofNat'] at this
   omega
 have hr:(Extern.BytealgIndexByte.indexByte #[.slice s.base s.len s.cap,.int .u8 (c:Int)]).run Tryz.prog w= .ok (.int .i64 (L.idxOf c:Int)) w:=by
  show Sem.run _ (do
   let x←Extern.Bytes.bytesOf (.slice s.base s.len s.cap)
   let y←Extern.Bytes.asByte (.int .u8 (c:Int))
   match (List.range x.size).find? fun i=>x[i]! ==y with
   |some i=>pure (goInt i)
   |none=>pure (goInt (-1))) w=_
  have hb:(Extern.Bytes.asByte (.int .u8 (c:Int))).run Tryz.prog w= .ok (UInt8.ofNat c) w:=rfl
  simp only [Sem.run_bind,Am hs,hb,Result.andThen_ok]
  rw [hf]
  rfl
 have hx:(callFunc cJ #[.slice s.base s.len s.cap,.int .u8 (c:Int)]).run Tryz.prog w= .ok (.value (.int .i64 (L.idxOf c:Int))) w:=by
  rw [run_callFunc_extern Tryz.func199 (by kernel_rfl) (by kernel_rfl) (by kernel_rfl) (e:=Extern.BytealgIndexByte.indexByte) (by kernel_rfl),hr];rfl
 unfold Ext
 rw [show (⟨[.slice s.base s.len s.cap,.int .u8 (c:Int)]⟩:Array Value)= #[.slice s.base s.len s.cap,.int .u8 (c:Int)] from rfl,hx]
 exact hK
theorem HY {L:List Nat} {c:Nat} {K:Array Value→Int→World→Prop} (h:Hp E w F) (hL:aX L) (hc:c<256) (hK: ∀w',Hp E w' F→K ⟨bk (br L (L.idxOf c))⟩ (L.idxOf c:Int) w'):
  Cl Tryz.prog [.arr 256,kI] qk ⟨[.agg ⟨bk L⟩,.int .u8 (c:Int)]⟩ w K:=by
 refine He.ok _ _ _ _ ?_
 have hl:=hL.len
 have hi:=hL.idx hc
 have hn:(⟨bk L⟩:Array Value).size=256:=by simp [hl]
 have hz:(⟨List.replicate 256 (.int .u8 0)⟩:Array Value).size=256:=by simp
 have hm:(⟨bk (br L (L.idxOf c))⟩:Array Value).size=256:=by simp [(hL.take hi.1).len]
 refine Nw.mk h fun b4 w h=>Nw.mk h fun b6 w h=>bg.whole (by decide) rfl rfl ?_
 refine tI.ok _ _ _ _ ?_
 refine Jl hL hc (s:=⟨some ⟨b4,0,none⟩,256,256⟩) (h.ag (ab.cons (ab.aD (n:=256) (m:=256) (sz:=1) rfl (by simp [hl])))) ?_
 refine Ld.xw h hn ?_
 refine Bc h hl hi.1 fun w h=> ?_
 refine ar.q h hz hm cM fun w h=>Ld.xw h hm ?_
 refine ar.q h hm hm cM fun w h=>Ld.xw h hm (hK w h.tl)
theorem BX {n b:Nat} (hn:n≤2147483647):tp Tryz.prog E (.func (.func lW) ⟨[]⟩ ⟨[.pointer (some ⟨b,0,none⟩)]⟩) (bP n).length (fun i=> [Ki.enc kI (((bP n).getD i 0:Nat):Int)]) [bI b n] (fun _=>True):=by
 intro yv C G w K hg hy h hK hKG
 refine pL.mk (by kernel_rfl) (uU.ok yv ⟨b,0,none⟩ K w ?_)
 have h:Hp E w (bI b n::C 0):=h
 refine ⟨fun w=> ∃k m:Nat,m≤2147483647∧(bP n).drop k=bP m∧k≤(bP n).length∧Hp E w (bI b m::C k),fun w=>jh b w,⟨0,n,hn,rfl,Nat.zero_le _,h⟩,?_⟩
 rintro w ⟨k,m,hm,hd,hk,h⟩
 refine Ld.xb (x:=(m:Int)) h rfl (aa.dm (fun hlt=> ?_) (fun hge=> ?_))
 ·have hm0:0<m:=by omega
  rw [jS hm0] at hd
  have hlt:k<(bP n).length:=by
   rcases Nat.lt_or_ge k (bP n).length with q|q
   ·exact q
   ·rw [List.drop_eq_nil_of_le q] at hd;cases hd
  have hx:(bP n).getD k 0=(m - 1) % 2:=by
   rw [List.drop_eq_getElem_cons hlt] at hd
   injection hd with e _
   rw [List.getD_eq_getElem?_getD,List.getElem?_eq_getElem hlt,Option.getD_some,e]
  have hd2:(bP n).drop (k+1)=bP ((m - 1)/2):=by rw [←List.drop_drop,hd];rfl
  refine Ld.xb (x:=(m:Int)) h rfl ?_
  have hmx:IntKind.max .i64=9223372036854775807:=rfl
  have e1:i64 ((m:Int) - 1)=((m - 1:Nat):Int):=by rw [ad (by omega)];omega
  have e2:bo .i64 ((m - 1:Nat):Int) 1=(((m - 1) % 2:Nat):Int):=by
   rw [show (1:Int)=((1:Nat):Int) from rfl,ew (by omega) (by omega),Nat.and_one_is_mod]
  have e3:aF .i64 ((m - 1:Nat):Int) 1=(((m - 1)/2:Nat):Int):=by
   rw [show (1:Int)=((1:Nat):Int) from rfl,bO (by decide)]
  rw [e1,e2]
  have he: [Value.int .i64 (((m - 1) % 2:Nat):Int)]= [Ki.enc kI (((bP n).getD k 0:Nat):Int)]:=by rw [hx]
  rw [he]
  refine hy k hlt [bI b m] w _ (h.perm (List.perm_append_comm (l₁:= [bI b m]))) (fun w h=> ?_) (fun w h=> ?_)
  ·have h:Hp E w (bI b m::C (k+1)):=h.perm (List.perm_append_comm (l₂:= [bI b m]))
   refine aa.f rfl (Ld.xb (x:=(m:Int)) h rfl ⟨by decide,?_⟩)
   rw [e1,e3]
   refine St.xb h (by simp) rfl fun w3 h3=> ?_
   have h3:Hp E w3 (bI b ((m - 1)/2)::C (k+1)):=h3
   refine ⟨rfl,⟨k+1,(m - 1)/2,by omega,hd2,by omega,h3⟩,?_⟩
   show jh b w3<jh b _
   rw [jM (v:=(((m - 1)/2:Nat):Int)) h3 rfl,jM (v:=(m:Int)) (by assumption) rfl]
   omega
  ·exact aa.t rfl (hKG k w hlt (h.perm (List.perm_append_comm (l₂:= [bI b m]))).drop)
 ·have hm0:m=0:=by omega
  subst hm0
  rw [mw] at hd
  have:k=(bP n).length:=by
   have:=congrArg List.length hd
   rw [List.length_drop,List.length_nil] at this;omega
  subst this
  exact hK w h.drop
theorem DI {n:Nat} {K:Sl→Int→World→Prop} (h:Hp E w F) (hn:n≤2147483647) (hl:(bP n).length≤1000000) (hK: ∀s w',Hp E w' (ah 1 s ((ints (bP n)).map vI)::F)→K s 0 w'):Cl Tryz.prog [kS,kI] fe ⟨[.int .i64 (n:Int)]⟩ w K:=by
 refine uN.ok _ _ _ ?_
 refine Nw.mk h fun b3 w h=>aa.df (by omega) (aa.df (by omega) ?_)
 refine zH.ok _ _ _ ?_
 refine Nw.mk h fun b w h=> ?_
 have h0:Hp E w (fq b3 []::bI b n::F):=fq.shut (s:=⟨none,0,0⟩) ((h.bl 1).at 2)
 refine fB.IB (E:=E) (k:=kI) (x:=fun i=>(((bP n).getD i 0:Nat):Int)) (n:=(bP n).length) (fun i=>fq b3 ((bP n).take i)::F) (fun _=> [BN]) (A:= [bI b n]) h0.p1 (fun _=>ab.const trivial) (BX hn) ?_ ?_ ?_
 ·intro lr rec i A w Kt Kf hi h hKt _
  refine sK.mk h fun w h=> ?_
  obtain ⟨s,_,h⟩:=(h.p1).ex
  have h:Hp E w (aj b3 (.cells ⟨[qi s]⟩ 33 (0,0))::ah 1 s ((ints ((bP n).take i)).map vI)::aj lr (rec 1)::(F++A)):=h
  refine Ld.xb (x:=s) h rfl (Nw.mk h fun b49 w h=> ?_)
  refine fq.put (l:= []) h (by rw [List.length_take];omega) fun w h=>oX.mk h.p1 fun w h=>hKt w ?_
  have e:(bP n).take i++ [(bP n).getD i 0]=(bP n).take (i+1):=by
   rw [List.take_add_one,List.getElem?_eq_getElem hi,List.getD_eq_getElem?_getD,List.getElem?_eq_getElem hi];rfl
  rw [e] at h
  exact h
 ·intro D w h
  rw [List.take_of_length_le (Nat.le_refl _)] at h
  obtain ⟨s,_,h⟩:=(h.p1).ex
  have h:Hp E w (aj b3 (.cells ⟨[qi s]⟩ 33 (0,0))::ah 1 s ((ints (bP n)).map vI)::aj D (.deferred (some []))::F):=h
  refine Ld.xb (x:=s) h rfl (St.xs h rfl rfl fun w h=> ?_)
  dsimp only [an,af] at h
  refine kx.vy (h.at 2) fun w h=>Ld.xb (x:=s) h rfl (hK s w h.drop)
 ·intro i D w hi h
  exact (Hp.EC h).elim
end
end Go.Proofs.YtcdpblipagajiaaGreat
set_option maxRecDepth 20000
namespace Go.Vc
open Go
section
variable {E w:World} {F:List HP}
theorem vd {P:Program} {t e:TypeId} {n:Nat} {k:IntKind} {it:TypeInfo} (hu:P.underlying t=some (.array n e)) (hue:P.underlying e=some (.int k)) (hi:P.info? e=some it) (hs:it.size=1) {a b:List Int} (ha:a.length=n) (hb:b.length=n)
  (D:Nat) (hD:2≤D) (w:World):(Op.equalIn D t (.agg ⟨a.map (.int k)⟩) (.agg ⟨b.map (.int k)⟩)).run P w= .ok (a==b) w:=by
 obtain ⟨D,rfl⟩: ∃d,D=d+1+1:=⟨D - 2,by omega⟩
 rw [run_equalIn_array w (D+1) _ _ hu hi,lX hi,hs,←ha,iF hue (ha.trans hb.symm) _ (by simp),all_eq (ha.trans hb.symm)]
theorem k7 {P:Program} {t:TypeId} {it:TypeInfo} {cs:List Value} {off:Nat} {K:Option Value→Prop} (h1:fE P t=some true) (h2:P.info? t=some it) (h:K (some (.agg ⟨(cs.drop off).take it.size⟩))):ee P t cs off K:=by
 unfold ee;rw [h1,h2];exact h
theorem dD {P:Program} {t:TypeId} {it:TypeInfo} {cs:List Value} {off:Nat} {v:Value} {K:Option Value→Prop} (h1:fE P t=some false) (h2:P.info? t=some it) (hv:cs[off]? =some v) (h:K (some v)):ee P t cs off K:=by
 unfold ee;rw [h1,h2,hv];exact h
end
end Go.Vc
namespace Go.Proofs.YtcdpblipagajiaaGreat
open Go Go.Vc
theorem BG: ∃it,Tryz.prog.info? 3=some it:=by
 have:(Tryz.prog.info? 3).isSome=true:=by kernel_rfl
 exact Option.isSome_iff_exists.1 this
theorem Hw: ∃it,Tryz.prog.info? 36=some it∧it.size=258:=by
 have h:(Tryz.prog.info? 36).map (·.size)=some 258:=by kernel_rfl
 obtain ⟨it,h1,h2⟩:=Option.map_eq_some_iff.1 h
 exact ⟨it,h1,h2⟩
theorem Dl: ∃it,Tryz.prog.info? 5=some it∧it.size=1:=by
 have h:(Tryz.prog.info? 5).map (·.size)=some 1:=by kernel_rfl
 obtain ⟨it,h1,h2⟩:=Option.map_eq_some_iff.1 h
 exact ⟨it,h1,h2⟩
theorem IW:Tryz.prog.underlying 36=some (.array 258 5):=by kernel_rfl
theorem Gk:Tryz.prog.underlying 5=some (.int .u8):=by kernel_rfl
theorem Dk:Tryz.prog.underlying 3=some (.int .i64):=by kernel_rfl
end Go.Proofs.YtcdpblipagajiaaGreat
namespace Go.Sym
theorem tM (n:Nat):(bP n).length≤n:=by
 induction n using Nat.strongRecOn with
 |ind n ih=>
  rcases Nat.eq_zero_or_pos n with h|h
  ·rw [h,mw];exact Nat.le_refl _
  ·rw [jS h,List.length_cons]
   have:=ih ((n - 1)/2) (by omega)
   omega
end Go.Sym
namespace Go.Proofs.YtcdpblipagajiaaGreat
open Go Go.Vc Go.Inc Go.Sym
abbrev je (L:List Nat) (r:Int):Array Value:=⟨bk L++ [.int .i64 r]⟩
theorem mh {L:List Nat} {r:Int} (h:L.length=256):(je L r).size=257:=by simp [h]
theorem pv {L:List Nat} {r:Int}:(je L r).toList.all aw=true:=by
 unfold je
 rw [List.all_append,cM]
 rfl
section
variable {E w:World} {F:List HP}
set_option maxRecDepth 20000
theorem FU:(Tryz.prog.fieldsOf 110).toList.map (fun f=>(f.name== "_",f.type,f.offset))= [(false,108,0),(false,3,256)]:=by kernel_rfl
theorem Jp:Tryz.prog.underlying 110=some (.struct (Tryz.prog.fieldsOf 110)):=by kernel_rfl
theorem Hm: ∃it,Tryz.prog.info? 108=some it∧it.size=256:=by
 have h:(Tryz.prog.info? 108).map (·.size)=some 256:=by kernel_rfl
 obtain ⟨it,h1,h2⟩:=Option.map_eq_some_iff.1 h
 exact ⟨it,h1,h2⟩
theorem Ig:Tryz.prog.underlying 108=some (.array 256 5):=by kernel_rfl
theorem tX.es {L L':List Nat} {r r':Int} {K:Bool→Prop} (hl:L.length=256) (hl':L'.length=256) (hK: ∀b,K b):tX Tryz.prog 110 (je L r) (je L' r') K:=by
 obtain ⟨it,hit⟩:=BG
 obtain ⟨jt,hjt,hjs⟩:=Hm
 obtain ⟨kt,hkt,hks⟩:=Dl
 obtain ⟨f1,f2,hfs,hf1,hf2⟩: ∃f1 f2,(Tryz.prog.fieldsOf 110).toList= [f1,f2]∧(f1.name== "_",f1.type,f1.offset)=(false,108,0)∧(f2.name== "_",f2.type,f2.offset)=(false,3,256):=by
  have h:=FU
  generalize (Tryz.prog.fieldsOf 110).toList=fs at h
  match fs,h with
  | [],h=>simp at h
  | [_],h=>simp at h
  |_::_::_::_,h=>simp at h
  | [f1,f2],h=>
   simp only [List.map_cons,List.map_nil,List.cons.injEq,and_true] at h
   exact ⟨f1,f2,rfl,h.1,h.2⟩
 simp only [Prod.mk.injEq] at hf1 hf2
 have hc: ∀{L:List Nat} {r:Int},L.length=256→(((je L r).toList.drop 0).take 256)=(L.map fun (x:Nat)=>(x:Int)).map (.int .u8):=fun {L r} hl=>by
  unfold je
  rw [List.drop_zero,List.take_append_of_le_length (by simp [hl]),List.take_of_length_le (by simp [hl]),List.map_map];rfl
 have hr: ∀{L:List Nat} {r:Int},L.length=256→(je L r)[256]? =some (.int .i64 r):=fun {L r} hl=>by
  rw [←Array.getElem?_toList]
  show (bk L++ [.int .i64 r])[256]? =_
  rw [List.getElem?_append_right (by simp [hl])]
  simp [hl]
 obtain ⟨b,hb,hK'⟩:=jz (P:=Tryz.prog) (d:=9) (rec:=fun t x y K=> ∃b,(∀D,9≤D→∀w,(Op.equalIn D t x y).run Tryz.prog w= .ok b w)∧K b) (fun t x y K h=>h) (xs:=je L r) (ys:=je L' r') (fs:= [f1,f2]) (K:=K) (by
  unfold iJ
  rw [hf1.1]
  refine k7 (it:=jt) (by rw [hf1.2.1];kernel_rfl) (by rw [hf1.2.1];exact hjt) (k7 (it:=jt) (by rw [hf1.2.1];kernel_rfl) (by rw [hf1.2.1];exact hjt) ?_)
  rw [hf1.2.2,hjs,hf1.2.1,hc hl,hc hl']
  refine ⟨_,fun D hD w=>vd Ig Gk hkt hks (by simpa using hl) (by simpa using hl') D (by omega) w,?_⟩
  unfold iJ
  rw [hf2.1]
  refine dD (it:=it) (v:= .int .i64 r) (by rw [hf2.2.1];kernel_rfl) (by rw [hf2.2.1];exact hit) (by rw [hf2.2.2,Array.getElem?_toList];exact hr hl) (dD (it:=it) (v:= .int .i64 r') (by rw [hf2.2.1];kernel_rfl) (by rw [hf2.2.1];exact hit) (by rw [hf2.2.2,Array.getElem?_toList];exact hr hl') ?_)
  rw [hf2.2.1]
  exact ⟨r==r',fun D hD w=>by obtain ⟨D,rfl⟩: ∃k,D=k+1:=⟨D - 1,by omega⟩;exact run_equalIn_int w D _ _ _ _ _ Dk,hK _⟩)
 refine ⟨b,fun w=> ?_,hK'⟩
 rw [run_equalIn_struct w 9999 _ _ _ Jp (by kernel_rfl),hfs]
 exact hb 9999 (by decide) w
abbrev JQ:Nat→Option (Nat×Nat):=(#[(0,256),(256,1)][·]?)
theorem FF (ps:List (Nat×Value)):Tryz.prog.built 110 ps=Instr.fill JQ ⟨List.replicate 256 (.int .u8 0)++ [.int .i64 0]⟩ ps:=by kernel_rfl
theorem cK.es {L:List Nat} {K:Array Value→Prop} (hl:L.length=256) (hK:K (je L 0)):cK Tryz.prog 110 [(0,.agg ⟨bk L⟩)] K:=by
 refine ⟨_,?_,hK⟩
 rw [FF]
 have:=gj (place:=JQ) (i:=0) (v:= .agg ⟨bk L⟩) (rest:= []) (pre:= []) (mid:=List.replicate 256 (.int .u8 0)) (post:= [.int .i64 0]) rfl rfl List.length_replicate (by show (⟨bk L⟩:Array Value).size=_;simp [hl])
 exact this
abbrev JL:Array Value:=⟨List.replicate 256 (Value.int .u8 0)++ [Value.int .i64 0]⟩
theorem Fu:(⟨List.replicate 256 (.int .u8 0)++ [.int .i64 0]⟩:Array Value).size=257:=by simp
theorem A9 {K:Array Value→World→Prop} (h:Hp E w F) (hK: ∀w',Hp E w' F→K (je (List.range 256) 0) w'):Cl Tryz.prog [.arr 257] ji ⟨[]⟩ w K:=by
 refine CM.ok _ _ ?_
 refine Nw.mk h fun b2 w h=>Em h fun w h=>cK.es (by simp) ?_
 have hd:(je (List.range 256) 0).size=257:=mh (by simp)
 refine ar.q h Fu hd pv fun w h=> ?_
 exact Ld.xw h hd (hK _ h.tl)
theorem v8 {L:List Nat} {r:Nat} {K:Bool→World→Prop} (h:Hp E w F) (hL:aX L) (hr:r≤2147483647) (hK: ∀w',Hp E w' F→K true w'):Cl Tryz.prog [kB] gF ⟨[.agg (je L (r:Int))]⟩ w K:=by
 refine yz.ok _ _ _ ?_
 have hLb:=fK hL.len
 refine Nw.mk h fun b3 w h=> ?_
 have h:=h.drew (n:=w.drawn+1)
 refine ⟨cj b3 _ _ _,h.hb,?_⟩
 refine ae.qw (fun _ h=>h) hLb rfl ?_
 refine A9 h fun w h=>⟨h.hb,?_⟩
 refine tX.es hL.len (by simp) fun b=> ?_
 refine aa.mk (fun _=>hK _ h.tl) fun _=> ?_
 (try simp only [aH,ay,au,Nat.zero_add,Nat.add_zero,Nat.reduceAdd,Bool.not_true,Bool.not_false,aZ,aY,Option.isNone])
 refine ae.q (fun _ h=>h) hLb rfl rfl (aa.dt (by omega) ?_)
 refine ae.q (fun _ h=>h) hLb rfl rfl (aa.dt (by omega) ?_)
 refine ae.p (fun _ h=>h) hLb ?_
 exact vZ h hL fun w h=>⟨h.hb,hK _ h.tl⟩
theorem FE {L:List Nat} {r:Nat} {s:Sl} {b:List Nat} {K:Array Value→Sl→Int→World→Prop} (h:Hp E w F) (hL:aX L) (hs:ab F (aC 1 s (b.map vB))) (hb: ∀x∈b,x<256) (hr:r+b.length≤1000000)
  (hK: ∀s' w',Hp E w' (ah 1 s' ((ints (cz L r b).1).map vI)::F)→aX (cz L r b).2.1→(cz L r b).2.2≤1000000→K (je (cz L r b).2.1 ((cz L r b).2.2:Int)) s' 0 w'):
  Cl Tryz.prog [.arr 257,kS,kI] kF ⟨[.agg (je L (r:Int)),.slice s.base s.len s.cap]⟩ w K:=by
 refine Ah.ok _ _ _ _ ?_
 have hLb:=fK hL.len
 have hlen:b.length=s.len:=by have:=(h.ag hs).1;simpa using this
 (try simp only [aH,ay,au,Nat.zero_add,Nat.add_zero,Nat.reduceAdd,Bool.not_true,Bool.not_false,aZ,aY,Option.isNone])
 refine Nw.mk h fun b4 w h=>Nw.mk h fun b6 w h=> ?_
 refine Ld.qw h hLb rfl (v8 h hL (by omega) fun w h=> ?_)
 with_reducible refine aa.GA ?_
 refine Ld.q h hLb rfl rfl ?_
 rw [ad (by omega)]
 refine aa.df (by omega) ?_
 refine ⟨fun o i w=> ∃(k:Nat) (L':List Nat) (r':Nat) (out:List Nat),i=(k:Int)∧k≤b.length∧aX L'∧out.length+r'≤r+k∧
  cz L r b=(out++(cz L' r' (b.drop k)).1,(cz L' r' (b.drop k)).2)∧
  Hp E w (ah 1 o ((ints out).map vI)::aj b6 (.cells JL 110 (0,0))::aj b4 (.cells (je L' (r':Int)) 110 (0,0))::F),
  fun _ i _=>b.length - i.toNat,⟨0,L,r,[],rfl,by omega,hL,by simp,by simp,h.bl 1⟩,?_⟩
 rintro o i w ⟨k,L',r',out,rfl,hk,hL',hlo,he,h⟩
 have hLb':=fK hL'.len
 refine aa.dm (fun hlt=> ?_) (fun hge=> ?_)
 ·have hlt:k<b.length:=by omega
  have hc:=hb _ (List.getElem_mem hlt)
  have hi:=hL'.idx hc
  refine ao.rd ((h.tl:Hp E w F).ag hs) (by omega) (by omega) fun q _ hq=> ?_
  refine Ld.sc (s:= .int .u8) (b[k]:Int) (by rw [hq];simp [Sc.enc,vB]) ?_
  refine Ld.p h hLb' (HY h hL' hc fun w h=> ?_)
  have hm:(⟨bk (br L' (L'.idxOf b[k]))⟩:Array Value).size=256:=by simp [(hL'.take hi.1).len]
  have hLm:=hL'.take hi.1
  have hLbm:=fK hLm.len
  refine ar.xm (pre:= []) (mid:=bk L') (post:= [.int .i64 (r':Int)]) h rfl rfl hLb' hm (fun v hv=>List.all_eq_true.1 cM v hv) fun w h=> ?_
  have h:Hp E w (ah 1 o ((ints out).map vI)::aj b6 (.cells JL 110 (0,0))::aj b4 (.cells (je (br L' (L'.idxOf b[k])) (r':Int)) 110 (0,0))::F):=h
  rw [List.drop_eq_getElem_cons hlt] at he
  rw [ad (x:=(k:Int)+1) (by omega)]
  by_cases h0:L'.idxOf b[k]=0
  ·rw [cz,if_pos h0] at he
   rw [h0] at h hLm hLbm⊢
   refine aa.et rfl (Ld.q h hLbm rfl rfl ?_)
   rw [ad (by omega)]
   refine St.q h hLbm rfl rfl rfl fun w h=> ?_
   dsimp only [an,af] at h
   rw [show (r':Int)+1=((r'+1:Nat):Int) by omega] at h
   exact ⟨⟨k+1,_,r'+1,out,by omega,by omega,hLm,by omega,he,h⟩,by first|omega|(dsimp only;omega)⟩
  ·rw [cz,if_neg h0] at he
   refine aa.ef (by omega) (Ld.q h hLbm rfl rfl ?_)
   have hdl:=tM r'
   refine DI h (by omega) (by omega) fun s1 w h=> ?_
   have l1:=h.aO
   have l2:=(h.at 1).aO
   simp only [ints,List.length_map,Nat.mul_one] at l1 l2
   refine aM (s:=o) (ys:=(ints (bP r')).map vI) (n:=s1.len) iO (by decide) (.inl ⟨3,by kernel_rfl⟩) (h.at 1) (.inl ⟨s1.base,s1.len,s1.cap,rfl,rfl,h.ag ab.own⟩) (by simp [ints,l1]) mZ (by omega) (by omega) fun s2 w h hl2=> ?_
   have h:=h.no 1
   refine Nw.mk h fun b40 w h=> ?_
   rw [ad (by omega)] at h
   refine aM (s:=s2) (ys:= [vI ((L'.idxOf b[k]:Int)+1)]) (n:=1) iO (by decide) (.inl ⟨3,by kernel_rfl⟩) (h.at 1) (.inl ⟨some ⟨b40,0,none⟩,1,1,rfl,rfl,h.ag (ab.aD rfl rfl)⟩) rfl (by intro y hy;rw [List.mem_singleton] at hy;rw [hy];rfl) (by omega) (by omega) fun s3 w h _=> ?_
   have h:=h.no 1
   refine St.q (b:=b4) h hLbm rfl rfl rfl fun w h=> ?_
   dsimp only [an,af] at h
   refine ⟨⟨k+1,_,0,out++(bP r'++ [L'.idxOf b[k]+1]),by omega,by omega,hLm,?_,?_,?_⟩,by first|omega|(dsimp only;omega)⟩
   ·rw [List.length_append,List.length_append,List.length_singleton];omega
   ·rw [he];simp
   ·rw [show (ints (out++(bP r'++ [L'.idxOf b[k]+1]))).map vI=(ints out).map vI++(ints (bP r')).map vI++ [vI ((L'.idxOf b[k]:Int)+1)] by simp [ints]]
    exact h
 ·have hk2:k=b.length:=by omega
  subst hk2
  rw [List.drop_of_length_le (Nat.le_refl _),cz,List.append_nil] at he
  rw [he] at hK
  dsimp only at hK
  refine Ld.qw h hLb' rfl ?_
  refine ar.q h Fu (mh hL'.len) pv fun w h=>Ld.xw h (mh hL'.len) (hK o w h.dP hL' (by omega))
theorem HG {L:List Nat} {r:Nat} {K:Sl→Int→World→Prop} (h:Hp E w F) (hL:aX L) (hr:r≤1000000) (hK: ∀s' w',Hp E w' (ah 1 s' ((ints (bP r++ [257])).map vI)::F)→K s' 0 w'):Cl Tryz.prog [kS,kI] mn ⟨[.agg (je L (r:Int))]⟩ w K:=by
 refine Cm.ok _ _ _ ?_
 have hLb:=fK hL.len
 (try simp only [aH,ay,au,Nat.zero_add,Nat.add_zero,Nat.reduceAdd,Bool.not_true,Bool.not_false,aZ,aY,Option.isNone])
 refine Nw.mk h fun b3 w h=>Ld.qw h hLb rfl (v8 h hL (by omega) fun w h=> ?_)
 with_reducible refine aa.GA ?_
 have hdl:=tM r
 refine Ld.q h hLb rfl rfl (DI h (by omega) (by omega) fun s1 w h=>Nw.mk h fun b12 w h=> ?_)
 have l1:=(h.at 1).aO
 simp only [ints,List.length_map,Nat.mul_one] at l1
 refine aM (s:=s1) (ys:= [vI 257]) (n:=1) iO (by decide) (.inl ⟨3,by kernel_rfl⟩) (h.at 1) (.inl ⟨some ⟨b12,0,none⟩,1,1,rfl,rfl,h.ag (ab.aD rfl rfl)⟩) rfl (by intro y hy;rw [List.mem_singleton] at hy;rw [hy];rfl) (by omega) (by omega) fun s3 w h _=>hK s3 w ?_
 rw [show (ints (bP r++ [257])).map vI=(ints (bP r)).map vI++ [vI 257] by simp [ints]]
 exact h.dP
theorem Bi {s:Sl} {b:List Nat} {K:Sl→World→Prop} (h:Hp E w F) (hs:ab F (aC 1 s (b.map vB))) (hb: ∀x∈b,x<256) (hr:b.length≤1000000) (hK: ∀s' w',Hp E w' (ah 1 s' ((ints (syms b)).map vI)::F)→K s' w'):
  Cl Tryz.prog [kS] jv ⟨[.slice s.base s.len s.cap]⟩ w K:=by
 refine Ch.ok _ _ _ ?_
 refine A9 h fun w h=>FE (r:=0) h aX.range hs hb (by rw [Nat.zero_add];exact hr) fun s1 w h hL2 hr2=>Nw.mk h fun b9 w h=> ?_
 refine ar.q h Fu (mh hL2.len) pv fun w h=>Ld.xw h (mh hL2.len) ?_
 refine HG h hL2 hr2 fun s2 w h=> ?_
 have l1:=h.aO
 have l2:=(h.at 2).aO
 have e0:(cz (List.range 256) 0 b).1.length+(cz (List.range 256) 0 b).2.2≤b.length:=by
  have: ∀(b L:List Nat) (r:Nat),(cz L r b).1.length+(cz L r b).2.2≤r+b.length:=by
   intro b
   induction b with
   |nil=>intro L r;simp [cz]
   |cons c b ih=>
    intro L r
    rw [cz]
    split
    ·have:=ih (br L 0) (r+1)
     simp only [List.length_cons];omega
    ·have:=ih (br L (L.idxOf c)) 0
     have:=tM r
     simp only [List.length_append,List.length_cons];omega
  simpa using this b (List.range 256) 0
 have hdl:=tM (cz (List.range 256) 0 b).2.2
 simp only [ints,List.length_map,Nat.mul_one,List.length_append,List.length_singleton] at l1 l2
 refine aM (s:=s1) (ys:=(ints (bP (cz (List.range 256) 0 b).2.2++ [257])).map vI) (n:=s2.len) iO (by decide) (.inl ⟨3,by kernel_rfl⟩) (h.at 2) (.inl ⟨s2.base,s2.len,s2.cap,rfl,rfl,h.ag ab.own⟩) (by simp [ints,←l1]) mZ (by omega) (by omega) fun s3 w h _=>hK s3 w ?_
 rw [show (ints (syms b)).map vI=(ints (cz (List.range 256) 0 b).1).map vI++(ints (bP (cz (List.range 256) 0 b).2.2++ [257])).map vI by unfold syms bM;simp [ints]]
 exact h.dP
end
end Go.Proofs.YtcdpblipagajiaaGreat
namespace Go.Proofs.YtcdpblipagajiaaGreat
open Go Go.Vc
set_option maxRecDepth 100000
theorem sO.ok (a:(Option Addr)) (b:(Array Value)) (R:Int→World→Prop) w (h:
 Nw 36 b w fun d c=>
 Ld (.arr 258) ⟨d,0,none⟩ c fun e=>
 Cl Pg [kS,kI] iN ⟨[(.agg e)]⟩ c fun (g:Sl) (h:Int) f=>
 aa (h !=0)
 (R 2 f)
 (aa (Option.isNone (a:Option Addr))
 (R 2 f)
 (dn 0 f fun i j (k:Int) l=>
 aa (decide (k<(g.len:Int)))
 (ao g k 1 fun m=>
 Ld kI m l fun (n:Int)=>
 Cl Pg [kB] cN ⟨[(.pointer a),(.int .u32 (u32 n)),(ni 1)]⟩ l fun (p:Bool) o=>
 i (i64 (k+1)) o∧j (i64 (k+1)) o<j k l)
 (R 0 l)))):Cl Pg [kI] ia ⟨[(.pointer a),(.agg b)]⟩ w R:=co Tryz.f47 [(12,[(22,kI)])] h
theorem rS.ok (a:Sl) (R:(Array Value)→Int→Int→World→Prop) w (h:
 Nw 36 ⟨List.replicate 258 (.int .u8 0)⟩ w fun c b=>
 Nw 141 ⟨List.replicate 258 (.int .u8 0)++ [(ni 0),(ni 0),(ni 0),(ni 0)]⟩ b fun e d=>
 dn 0 d fun f g (h:Int) i=>
 aa (decide (h<(a.len:Int)))
 (ao a h 1 fun j=>
 Ld kI j i fun (k:Int)=>
 0≤(1:Int)∧
 aa ((aF .i64 k (1:Int)) !=0)
 (Ld (.arr 258) ⟨c,0,none⟩ i fun l=>
 ar 258 ⟨c,0,none⟩ l i fun m=>
 Ld (.arr 258) ⟨c,0,none⟩ m fun n=>
 R n 0 2 m)
 (Ld (.arr 262) ⟨e,0,none⟩ i fun o=>
 Cl Pg [(.arr 262),kB] gi ⟨[(.agg o),(ni k)]⟩ i fun q (r:Bool) p=>
 Nw 141 ⟨List.replicate 258 (.int .u8 0)++ [(ni 0),(ni 0),(ni 0),(ni 0)]⟩ p fun t s=>
 ar 262 ⟨t,0,none⟩ q s fun u=>
 aa (!r)
 (Ld (.arr 258) ⟨c,0,none⟩ u fun v=>
 ar 258 ⟨c,0,none⟩ v u fun x=>
 Ld (.arr 258) ⟨c,0,none⟩ x fun y=>
 R y 0 100 x)
 (Ld (.arr 262) ⟨t,0,none⟩ u fun z=>
 ar 262 ⟨e,0,none⟩ z u fun a1=>
 Ld kI (Addr.add ⟨e,0,none⟩ 258) a1 fun (b1:Int)=>
 aa (b1==258)
 (Ld (.arr 258) (Addr.add ⟨e,0,none⟩ 0) a1 fun c1=>
 ar 258 ⟨c,0,none⟩ c1 a1 fun d1=>
 Ld (.arr 258) ⟨c,0,none⟩ d1 fun e1=>
 R e1 (i64 (h+1)) 0 d1)
 (f (i64 (h+1)) a1∧g (i64 (h+1)) a1<g h i))))
 (Ld (.arr 258) ⟨c,0,none⟩ i fun f1=>
 ar 258 ⟨c,0,none⟩ f1 i fun g1=>
 Ld (.arr 258) ⟨c,0,none⟩ g1 fun h1=>
 R h1 0 50 g1)):Cl Pg [(.arr 258),kI,kI] fZ ⟨[(al a)]⟩ w R:=co Tryz.f52 [(7,[(12,kI)])] h
theorem uR.ok (a:(Array Value)) (R:Sl→Int→World→Prop) w (h:
 Nw 36 a w fun c b=>
 Nw 33 ⟨[(.slice none 0 0)]⟩ b fun e d=>
 Ld (.arr 258) ⟨c,0,none⟩ d fun f=>
 Cl Pg [kB] dW ⟨[(.agg f)]⟩ d fun (h:Bool) g=>
 aa (!h)
 (St ⟨e,0,none⟩ (.slice none 0 0) g fun i=>
 Ld kS ⟨e,0,none⟩ i fun (j:Sl)=>
 R j 2 i)
 (aB ⟨c,0,none⟩ 258 0 1 fun k=>
 Ld (az .u8) k g fun (l:Int)=>
 ∃(m:Int→World→Prop) (n:Int→World→Nat),m (0) g∧
 ∀(o:Int),∀(p:World),m o p→
 aa (decide (o<4))
 (aq p fun q=>
 0≤(i64 ((3:Int) - o))∧
 (Ld kS ⟨e,0,none⟩ q fun (r:Sl)=>
 Nw 3 ⟨[(ni (bo .i64 (aF .i64 (i64 l) (i64 ((3:Int) - o))) 1))]⟩ q fun t s=>
 aA Pg (Builtin.append_ #[33,33] 33 ⟨[(al r),(al (⟨some ⟨t,0,none⟩,1,1⟩:Sl))]⟩) kS s fun (v:Sl) u=>
 St ⟨e,0,none⟩ (al v) u fun x=>
 ([]:List Nat)=([]:List Nat)∧m (i64 (o+1)) x∧n (i64 (o+1)) x<n o p)∧
 (Nw 3 ⟨[(ni (bo .i64 (aF .i64 (i64 l) (i64 ((3:Int) - o))) 1))]⟩ q fun z y=>
 Ld kS ⟨e,0,none⟩ y fun (a1:Sl)=>
 aA Pg (Builtin.append_ #[33,33] 33 ⟨[(al a1),(al (⟨some ⟨z,0,none⟩,1,1⟩:Sl))]⟩) kS y fun (c1:Sl) b1=>
 St ⟨e,0,none⟩ (al c1) b1 fun d1=>
 ([]:List Nat)=([]:List Nat)∧m (i64 (o+1)) d1∧n (i64 (o+1)) d1<n o p))
 (Ld (.arr 258) ⟨c,0,none⟩ p fun e1=>
 ∃(f1:List Nat→Int→Int→World→Prop) (g1:Int→Int→World→Nat),f1 ([]:List Nat) ((i64 l)) (0) p∧
 ∀(k1:List Nat),∀(h1:Int) (i1:Int),∀(j1:World),f1 k1 h1 i1 j1→
 aa (decide (i1<258))
 (ez (.int .u8) e1 258 i1 fun (l1:Int)=>
 Cl Pg [kV] iR ⟨[(ni h1),(ni (i64 l1))]⟩ j1 fun n1 m1=>
 fB Pg n1 [kI] m1 (fun (o1:Nat) (p1:Nat→Obj) (t1:Int) (q1:World) (r1 s1:World→Prop)=>
 sK o1 p1 q1 fun u1=>
 Ld kS ⟨e,0,none⟩ u1 fun (v1:Sl)=>
 Nw 3 ⟨[(ni t1)]⟩ u1 fun y1 x1=>
 aA Pg (Builtin.append_ #[33,33] 33 ⟨[(al v1),(al (⟨some ⟨y1,0,none⟩,1,1⟩:Sl))]⟩) kS x1 fun (a2:Sl) z1=>
 St ⟨e,0,none⟩ (al a2) z1 fun b2=>
 oX o1 p1 b2 r1)
 (fun c2 d2=>
 f1 (c2::k1:List Nat) (i64 l1) (i64 (i1+1)) d2∧g1 (i64 l1) (i64 (i1+1)) d2<g1 h1 i1 j1)
 (fun e2 f2=>
 kx (e2::k1:List Nat) f2 fun g2=>
 Ld kS ⟨e,0,none⟩ g2 fun (h2:Sl)=>
 R h2 0 g2))
 (Ld kS ⟨e,0,none⟩ j1 fun (i2:Sl)=>
 St ⟨e,0,none⟩ (al i2) j1 fun j2=>
 kx (k1:List Nat) j2 fun k2=>
 Ld kS ⟨e,0,none⟩ k2 fun (l2:Sl)=>
 R l2 0 k2)))):Cl Pg [kS,kI] iN ⟨[(.agg a)]⟩ w R:=By Tryz.f94 (.s .o (.s (.s .o (.c (.s .o .o) .o)) (.s .o (.s (.s .o (.b (.l [(15,kI)] (.s .o (.s (.c .o .o) (.s (.b (.s .o (.b .o))) .o)))))) (.s (.s .o (.b (.l [(4,kI),(28,kI)] (.s .o (.s (.c .o .o) (.s (.b (.s .o (.s (.s .o (.b (.r [kI] .o (.b .o)))) .o))) .o)))))) (.s .o .o)))))) h
theorem rV.ok (a:(Array Value)) (b:Int) (R:(Array Value)→Bool→World→Prop) w (h:
 Nw 141 a w fun d c=>
 Nw 141 ⟨List.replicate 258 (.int .u8 0)++ [(ni 0),(ni 0),(ni 0),(ni 0)]⟩ c fun f e=>
 Ld kI (Addr.add ⟨d,0,none⟩ 259) e fun (g:Int)=>
 aa (decide (g<4))
 (Ld kI (Addr.add ⟨d,0,none⟩ 260) e fun (h:Int)=>
 0≤(1:Int)∧
 Ld kI (Addr.add ⟨d,0,none⟩ 259) e fun (i:Int)=>
 St (Addr.add ⟨d,0,none⟩ 260) (ni (jk .i64 (a8 .i64 h (1:Int)) b)) e fun j=>
 St (Addr.add ⟨d,0,none⟩ 259) (ni (i64 (i+1))) j fun k=>
 Ld (.arr 262) ⟨d,0,none⟩ k fun l=>
 ar 262 ⟨f,0,none⟩ l k fun m=>
 Ld (.arr 262) ⟨f,0,none⟩ m fun n=>
 R n true m)
 (bf (fun (q:Bool) (r:World)=>
 aa q
 (Ld kI (Addr.add ⟨d,0,none⟩ 258) r fun (s:Int)=>
 Ld kI (Addr.add ⟨d,0,none⟩ 260) r fun (t:Int)=>
 aB (Addr.add ⟨d,0,none⟩ 0) 258 s 1 fun u=>
 St u (.int .u8 (u8 t)) r fun v=>
 Ld kI (Addr.add ⟨d,0,none⟩ 258) v fun (x:Int)=>
 St (Addr.add ⟨d,0,none⟩ 258) (ni (i64 (x+1))) v fun y=>
 St (Addr.add ⟨d,0,none⟩ 261) (ni 0) y fun z=>
 eB z fun a1 b1=>
 ae (.arr 262) ⟨d,0,none⟩ a1 fun c1=>
 ae kI (Addr.add ⟨d,0,none⟩ 258) a1 fun (d1:Int)=>
 aa (decide (d1<258))
 (ar 262 ⟨f,0,none⟩ c1 b1 fun e1=>
 a1 e1∧
 Ld (.arr 262) ⟨f,0,none⟩ e1 fun f1=>
 R f1 true e1)
 (ae (.arr 258) (Addr.add ⟨d,0,none⟩ 0) a1 fun g1=>
 Cl Pg [kB] dW ⟨[(.agg g1)]⟩ b1 fun (i1:Bool) h1=>
 a1 h1∧
 ar 262 ⟨f,0,none⟩ c1 h1 fun j1=>
 a1 j1∧
 Ld (.arr 262) ⟨f,0,none⟩ j1 fun k1=>
 R k1 i1 j1))
 (Ld kI (Addr.add ⟨d,0,none⟩ 259) r fun (l1:Int)=>
 aa (l1==4)
 (St (Addr.add ⟨d,0,none⟩ 259) (ni 5) r fun m1=>
 Ld (.arr 262) ⟨d,0,none⟩ m1 fun n1=>
 ar 262 ⟨f,0,none⟩ n1 m1 fun o1=>
 Ld (.arr 262) ⟨f,0,none⟩ o1 fun p1=>
 R p1 true o1)
 (aa (b==0)
 (Ld kI (Addr.add ⟨d,0,none⟩ 261) r fun (q1:Int)=>
 aa (q1 !=2)
 (Ld kI (Addr.add ⟨d,0,none⟩ 260) r fun (r1:Int)=>
 Ld kI (Addr.add ⟨d,0,none⟩ 260) r fun (s1:Int)=>
 St (Addr.add ⟨d,0,none⟩ 260) (ni (i64 (s1+1))) r fun t1=>
 St (Addr.add ⟨d,0,none⟩ 261) (ni 1) t1 fun u1=>
 St (Addr.add ⟨d,0,none⟩ 259) (ni 4) u1 fun v1=>
 Ld (.arr 262) ⟨d,0,none⟩ v1 fun x1=>
 ar 262 ⟨f,0,none⟩ x1 v1 fun y1=>
 Ld (.arr 262) ⟨f,0,none⟩ y1 fun z1=>
 R z1 (decide (r1<15)) y1)
 (Ld kI (Addr.add ⟨d,0,none⟩ 260) r fun (a2:Int)=>
 St (Addr.add ⟨d,0,none⟩ 260) (ni (i64 (a2+1))) r fun b2=>
 St (Addr.add ⟨d,0,none⟩ 261) (ni 1) b2 fun c2=>
 St (Addr.add ⟨d,0,none⟩ 259) (ni 4) c2 fun d2=>
 Ld (.arr 262) ⟨d,0,none⟩ d2 fun e2=>
 ar 262 ⟨f,0,none⟩ e2 d2 fun f2=>
 Ld (.arr 262) ⟨f,0,none⟩ f2 fun g2=>
 R g2 false f2))
 (Ld kI (Addr.add ⟨d,0,none⟩ 261) r fun (h2:Int)=>
 aa (h2 !=1)
 (Ld kI (Addr.add ⟨d,0,none⟩ 260) r fun (i2:Int)=>
 Ld kI (Addr.add ⟨d,0,none⟩ 260) r fun (j2:Int)=>
 St (Addr.add ⟨d,0,none⟩ 260) (ni (i64 (j2 - 1))) r fun k2=>
 St (Addr.add ⟨d,0,none⟩ 261) (ni 2) k2 fun l2=>
 St (Addr.add ⟨d,0,none⟩ 259) (ni 4) l2 fun m2=>
 Ld (.arr 262) ⟨d,0,none⟩ m2 fun n2=>
 ar 262 ⟨f,0,none⟩ n2 m2 fun o2=>
 Ld (.arr 262) ⟨f,0,none⟩ o2 fun p2=>
 R p2 (decide (i2>0)) o2)
 (Ld kI (Addr.add ⟨d,0,none⟩ 260) r fun (q2:Int)=>
 St (Addr.add ⟨d,0,none⟩ 260) (ni (i64 (q2 - 1))) r fun r2=>
 St (Addr.add ⟨d,0,none⟩ 261) (ni 2) r2 fun s2=>
 St (Addr.add ⟨d,0,none⟩ 259) (ni 4) s2 fun t2=>
 Ld (.arr 262) ⟨d,0,none⟩ t2 fun u2=>
 ar 262 ⟨f,0,none⟩ u2 t2 fun v2=>
 Ld (.arr 262) ⟨f,0,none⟩ v2 fun x2=>
 R x2 false v2))))) fun o=>
 Ld kI (Addr.add ⟨d,0,none⟩ 259) e fun (p:Int)=>
 aa (p==4)
 (o (b==0) e)
 (o false e))):Cl Pg [(.arr 262),kB] gi ⟨[(.agg a),(ni b)]⟩ w R:=co Tryz.f100 [(6,[(38,kB)])] h
theorem pQ.ok (a:Int) (b:Int) (R:Value→World→Prop) w (h:
 Nw 3 ⟨[(ni a)]⟩ w fun d c=>
 Nw 3 ⟨[(ni b)]⟩ c fun f e=>
 R (.func (.func 185) ⟨[]⟩ ⟨[(.pointer (some ⟨f,0,none⟩)),(.pointer (some ⟨d,0,none⟩))]⟩) e):Cl Pg [kV] iR ⟨[(ni a),(ni b)]⟩ w R:=co Tryz.f143 [] h
theorem oE.ok (a:Value) (b:Addr) (c:Addr) (R:World→Prop) w (h:
 Ld kI b w fun (d:Int)=>
 Ld kI c w fun (e:Int)=>
 aa (decide (d<e))
 (∃(f:World→Prop) (g:World→Nat),f w∧
 ∀(h:World),f h→
 Ld kI c h fun (i:Int)=>
 Ld kI b h fun (j:Int)=>
 aa (i !=j)
 (kp Pg a [kB] [(ni 1)] h fun (l:Bool) k=>
 aa (!l)
 (R k)
 (kp Pg a [kB] [(ni 1)] k fun (n:Bool) m=>
 aa (!n)
 (R m)
 (Ld kI c m fun (o:Int)=>
 St c (ni (i64 (o+(i64 ((1:Int) - (i64 ((2:Int)*1))))))) m fun p=>
 ([]:List Nat)=([]:List Nat)∧f p∧g p<g h)))
 (kp Pg a [kB] [(ni 0)] h fun (r:Bool) q=>
 R q))
 (∃(s:World→Prop) (t:World→Nat),s w∧
 ∀(u:World),s u→
 Ld kI c u fun (v:Int)=>
 Ld kI b u fun (x:Int)=>
 aa (v !=x)
 (kp Pg a [kB] [(ni 1)] u fun (z:Bool) y=>
 aa (!z)
 (R y)
 (kp Pg a [kB] [(ni 0)] y fun (b1:Bool) a1=>
 aa (!b1)
 (R a1)
 (Ld kI c a1 fun (c1:Int)=>
 St c (ni (i64 (c1+(i64 ((1:Int) - (i64 ((2:Int)*0))))))) a1 fun d1=>
 ([]:List Nat)=([]:List Nat)∧s d1∧t d1<t u)))
 (kp Pg a [kB] [(ni 0)] u fun (f1:Bool) e1=>
 R e1))):Cl Pg [] gP ⟨[a,(.pointer (some b)),(.pointer (some c))]⟩ w R:=By Tryz.f185 (.s .o (.s (.s .o (.c .o .o)) (.s (.b (.l [] (.s (.s .o (.c .o .o)) (.s (.b (.s .o (.c .o .o))) .o)))) .o))) h
end Go.Proofs.YtcdpblipagajiaaGreat
set_option maxRecDepth 20000
namespace Go.Tab
open Go.Inc
def qE (l:List Nat) (now way:Nat):Prop:=
 if l= [] then way=0∨(way=1∧0<now)∨(way=2∧now<15)
 else (way=0∧l.getLastD 0=now)∨(way=1∧l.getLastD 0<now)∨(way=2∧now<l.getLastD 0)
def jW (t:TS):Prop:=
 (t.bits<4∧t.l= []∧t.now<2^t.bits∧t.way=0)∨
 ((t.bits=4∨t.bits=5)∧t.l.length<258∧t.now≤15∧(∀x∈t.l,x≤15)∧qE t.l t.now t.way)
theorem jW.zero:jW t0:= .inl ⟨by decide,rfl,by decide,rfl⟩
theorem zo {ok:List Nat→Bool} {t t':TS} {b:Nat} (h:jW t) (hb:b≤1) (he:bh ok t b= .more t'):jW t':=by
 obtain ⟨l,bits,now,way⟩:=t
 unfold jW at h
 unfold bh at he
 dsimp only at h he
 rcases h with ⟨h1,h2,h3,h4⟩|⟨h1,h2,h3,h4,h5⟩
 ·rw [if_pos h1] at he
  cases he
  subst h2 h4
  by_cases h:bits=3
  ·subst h
   right
   refine ⟨.inl rfl,by simp,by simp at h3;dsimp only;omega,by simp,?_⟩
   simp [qE]
  ·left
   refine ⟨by dsimp only;omega,rfl,?_,rfl⟩
   dsimp only
   rw [Nat.pow_succ];omega
 ·rw [if_neg (by omega)] at he
  split at he
  ·split at he
   ·split at he
    ·cases he
     right
     refine ⟨.inl rfl,by simp;omega,h3,?_,?_⟩
     ·intro x hx
      rcases List.mem_append.1 hx with hx|hx
      ·exact h4 x hx
      ·rw [List.mem_singleton] at hx;omega
     ·unfold qE
      dsimp only
      rw [if_neg (by simp)]
      left
      simp
    ·split at he<;>cases he
   ·cases he
    right
    exact ⟨.inr rfl,h2,h3,h4,h5⟩
  ·split at he
   ·split at he
    ·rename_i hw
     cases he
     right
     refine ⟨.inl rfl,h2,by dsimp only;omega,h4,?_⟩
     unfold qE at h5⊢
     dsimp only
     split at h5
     ·rename_i hl
      rw [if_pos hl];omega
     ·rename_i hl
      rw [if_neg hl];omega
    ·cases he
   ·split at he
    ·rename_i hw
     cases he
     right
     refine ⟨.inl rfl,h2,by dsimp only;omega,h4,?_⟩
     unfold qE at h5⊢
     dsimp only
     split at h5
     ·rename_i hl
      rw [if_pos hl];omega
     ·rename_i hl
      rw [if_neg hl];omega
    ·cases he
theorem vW {ok:List Nat→Bool} {t:TS} {b:Nat} {l:List Nat} (h:jW t) (he:bh ok t b= .fin l):l.length=258∧ok l=true:=by
 obtain ⟨l',bits,now,way⟩:=t
 unfold jW at h
 unfold bh at he
 dsimp only at h he
 split at he
 ·cases he
 ·split at he
  ·split at he
   ·split at he
    ·cases he
    ·split at he
     ·rename_i hok
      cases he
      refine ⟨?_,hok⟩
      simp
      omega
     ·cases he
   ·cases he
  ·split at he
   ·split at he<;>cases he
   ·split at he<;>cases he
def pad (l:List Nat):List Nat:=l++List.replicate (258 - l.length) 0
theorem cF {l:List Nat} (h:l.length≤258):(pad l).length=258:=by simp [pad];omega
theorem F0 {l:List Nat} (h:l.length=258):pad l=l:=by simp [pad,h]
theorem HQ {l:List Nat} {x:Nat} (h:l.length<258):(pad l).set l.length x=pad (l++ [x]):=by
 unfold pad
 rw [List.set_append_right _ _ (Nat.le_refl _),Nat.sub_self]
 obtain ⟨m,hm⟩: ∃m,258 - l.length=m+1:=⟨257 - l.length,by omega⟩
 rw [hm,List.replicate_succ,List.set_cons_zero,List.length_append,List.length_singleton,show 258 - (l.length+1)=m by omega]
 simp
end Go.Tab
namespace Go.Proofs.YtcdpblipagajiaaGreat
open Go Go.Vc Go.Srt Go.Inc Go.Tab
abbrev vP (l:List Nat):List Value:=l.map fun (n:Nat)=>Value.int .u8 (n:Int)
abbrev jf (l:List Nat) (s b n wy:Int):Array Value:=⟨vP l++ [.int .i64 s,.int .i64 b,.int .i64 n,.int .i64 wy]⟩
theorem oe {l:List Nat} (h:l.length=258):(vP l).length=258:=by simp [h]
section
variable {E w:World} {F:List HP}
theorem EN:(Tryz.prog.fieldsOf 141).toList.map (fun f=>(f.name== "_",f.type,f.offset))= [(false,36,0),(false,3,258),(false,3,259),(false,3,260),(false,3,261)]:=by kernel_rfl
theorem Ju:Tryz.prog.underlying 141=some (.struct (Tryz.prog.fieldsOf 141)):=by kernel_rfl
theorem H2:Tryz.prog.stoodInHeld 141=false:=by kernel_rfl
set_option maxRecDepth 20000 in
theorem tX.tb {l:List Nat} {s b n wy:Int} {K:Bool→Prop} (hl:l.length=258) (hK:K true):tX Tryz.prog 141 (jf l s b n wy) (jf l s b n wy) K:=by
 obtain ⟨it,hit⟩:=BG
 obtain ⟨jt,hjt,hjs⟩:=Hw
 obtain ⟨kt,hkt,hks⟩:=Dl
 obtain ⟨f1,f2,f3,f4,f5,hfs,hf1,hf2,hf3,hf4,hf5⟩: ∃f1 f2 f3 f4 f5,(Tryz.prog.fieldsOf 141).toList= [f1,f2,f3,f4,f5]∧(f1.name== "_",f1.type,f1.offset)=(false,36,0)∧(f2.name== "_",f2.type,f2.offset)=(false,3,258)∧(f3.name== "_",f3.type,f3.offset)=(false,3,259)∧(f4.name== "_",f4.type,f4.offset)=(false,3,260)∧(f5.name== "_",f5.type,f5.offset)=(false,3,261):=by
  have h:=EN
  generalize (Tryz.prog.fieldsOf 141).toList=fs at h
  match fs,h with
  | [],h=>simp at h
  | [_],h=>simp at h
  | [_,_],h=>simp at h
  | [_,_,_],h=>simp at h
  | [_,_,_,_],h=>simp at h
  |_::_::_::_::_::_::_,h=>simp at h
  | [f1,f2,f3,f4,f5],h=>
   simp only [List.map_cons,List.map_nil,List.cons.injEq,and_true] at h
   exact ⟨f1,f2,f3,f4,f5,rfl,h.1,h.2.1,h.2.2.1,h.2.2.2.1,h.2.2.2.2⟩
 simp only [Prod.mk.injEq] at hf1 hf2 hf3 hf4 hf5
 have hL:=oe hl
 have hc:(((jf l s b n wy).toList.drop 0).take 258)=(l.map fun (x:Nat)=>(x:Int)).map (.int .u8):=by
  rw [List.drop_zero,List.take_append_of_le_length (by omega),List.take_of_length_le (by omega),List.map_map];rfl
 have hint: ∀(x:Int) (D:Nat) (_:9≤D) (w:World),(Op.equalIn D 3 (.int .i64 x) (.int .i64 x)).run Tryz.prog w= .ok true w:=fun x D hD w=>by
  obtain ⟨D,rfl⟩: ∃k,D=k+1:=⟨D - 1,by omega⟩
  rw [run_equalIn_int w D _ _ _ _ _ Dk]
  simp
 obtain ⟨r,hr,hK'⟩:=jz (P:=Tryz.prog) (d:=9) (rec:=fun t x y K=> ∃b,(∀D,9≤D→∀w,(Op.equalIn D t x y).run Tryz.prog w= .ok b w)∧K b) (fun t x y K h=>h) (xs:=jf l s b n wy) (ys:=jf l s b n wy) (fs:= [f1,f2,f3,f4,f5]) (K:=K) (by
  unfold iJ
  rw [hf1.1]
  refine k7 (it:=jt) (by rw [hf1.2.1];kernel_rfl) (by rw [hf1.2.1];exact hjt) (k7 (it:=jt) (by rw [hf1.2.1];kernel_rfl) (by rw [hf1.2.1];exact hjt) ?_)
  rw [hf1.2.2,hjs,hf1.2.1,hc]
  refine ⟨_,fun D hD w=>vd IW Gk hkt hks (by simpa using hl) (by simpa using hl) D (by omega) w,?_⟩
  unfold iJ
  rw [hf2.1]
  refine dD (it:=it) (v:= .int .i64 s) (by rw [hf2.2.1];kernel_rfl) (by rw [hf2.2.1];exact hit) (by rw [hf2.2.2];exact jw (k:=0) hL) (dD (it:=it) (v:= .int .i64 s) (by rw [hf2.2.1];kernel_rfl) (by rw [hf2.2.1];exact hit) (by rw [hf2.2.2];exact jw (k:=0) hL) ?_)
  rw [hf2.2.1]
  refine ⟨true,hint s,?_⟩
  unfold iJ
  rw [hf3.1]
  refine dD (it:=it) (v:= .int .i64 b) (by rw [hf3.2.1];kernel_rfl) (by rw [hf3.2.1];exact hit) (by rw [hf3.2.2];exact jw (k:=1) hL) (dD (it:=it) (v:= .int .i64 b) (by rw [hf3.2.1];kernel_rfl) (by rw [hf3.2.1];exact hit) (by rw [hf3.2.2];exact jw (k:=1) hL) ?_)
  rw [hf3.2.1]
  refine ⟨true,hint b,?_⟩
  unfold iJ
  rw [hf4.1]
  refine dD (it:=it) (v:= .int .i64 n) (by rw [hf4.2.1];kernel_rfl) (by rw [hf4.2.1];exact hit) (by rw [hf4.2.2];exact jw (k:=2) hL) (dD (it:=it) (v:= .int .i64 n) (by rw [hf4.2.1];kernel_rfl) (by rw [hf4.2.1];exact hit) (by rw [hf4.2.2];exact jw (k:=2) hL) ?_)
  rw [hf4.2.1]
  refine ⟨true,hint n,?_⟩
  unfold iJ
  rw [hf5.1]
  refine dD (it:=it) (v:= .int .i64 wy) (by rw [hf5.2.1];kernel_rfl) (by rw [hf5.2.1];exact hit) (by rw [hf5.2.2];exact jw (k:=3) hL) (dD (it:=it) (v:= .int .i64 wy) (by rw [hf5.2.1];kernel_rfl) (by rw [hf5.2.1];exact hit) (by rw [hf5.2.2];exact jw (k:=3) hL) ?_)
  rw [hf5.2.1]
  refine ⟨true,hint wy,?_⟩
  simpa using hK)
 refine ⟨r,fun w=> ?_,hK'⟩
 rw [run_equalIn_struct w 9999 _ _ _ Ju H2,hfs]
 exact hr 9999 (by decide) w
end
end Go.Proofs.YtcdpblipagajiaaGreat
set_option maxRecDepth 20000
namespace Go.Proofs.YtcdpblipagajiaaGreat
open Go Go.Vc Go.Srt Go.Bits
def Wr (b:Nat) (bits:List Nat):HP:=fun f=> ∃s:Sl,(Srt.Bits bits∧bits.length≤cf)∧
 Sat [aj b (.cells ⟨[.slice s.base s.len s.cap,.int .i64 (bits.length:Int)]⟩ 133 (0,0)),ah 1 s ((pack bits).map vB)] f
section
variable {E w:World} {F A:List HP} {b:Nat} {bits:List Nat}
theorem Wr.JM (h:Hp E w (Wr b bits::F)): ∃s:Sl,Srt.Bits bits∧bits.length≤cf∧Hp E w (aj b (.cells ⟨[.slice s.base s.len s.cap,.int .i64 (bits.length:Int)]⟩ 133 (0,0))::ah 1 s ((pack bits).map vB)::F):=by
 obtain ⟨s,⟨h1,h2⟩,h⟩:=h.GD (X:=fun _:Sl=>Srt.Bits bits∧bits.length≤cf) (L:=fun s=> [aj b (.cells ⟨[.slice s.base s.len s.cap,.int .i64 (bits.length:Int)]⟩ 133 (0,0)),ah 1 s ((pack bits).map vB)]) (fun f hf=>hf)
 exact ⟨s,h1,h2,h⟩
theorem Wr.shut {s:Sl} (h1:Srt.Bits bits) (h2:bits.length≤cf) (h:Hp E w (aj b (.cells ⟨[.slice s.base s.len s.cap,.int .i64 (bits.length:Int)]⟩ 133 (0,0))::ah 1 s ((pack bits).map vB)::F)):Hp E w (Wr b bits::F):=
 Hp.GB (l:= [_,_]) (fun f hf=>⟨s,⟨h1,h2⟩,hf⟩) h
theorem Im {K:Option Addr→World→Prop} (h:Hp E w F) (hK: ∀b w',Hp E w' (Wr b []::F)→K (some ⟨b,0,none⟩) w'):Cl Tryz.prog [kP] jo ⟨[]⟩ w K:=by
 refine wH.ok _ _ ?_
 exact Nw.mk h fun b w1 h1=>hK b w1 (Wr.shut (s:=⟨none,0,0⟩) (fun x hx=>by cases hx) (Nat.zero_le _) ((h1.bl 1).p1))
theorem EF {v width:Nat} {K:Bool→World→Prop} (hw:width≤32) (hv:v<2^width) (hv2:v≤4294967295) (hK:K true w):Cl Tryz.prog [kB] iH ⟨[.int .u32 (v:Int),.int .i64 (width:Int)]⟩ w K:=by
 refine uE.ok _ _ _ _ ?_
 refine aa.t (decide_eq_true (by omega)) (aa.t (decide_eq_true (by omega)) ⟨by omega,?_⟩)
 rw [lQ (by omega),bO (by have:IntKind.bits .u64=64:=rfl;omega),Nat.div_eq_of_lt hv]
 exact hK
theorem pq:cp Tryz.prog 22 5 1 1:=cp.of (by kernel_rfl) (by kernel_rfl)
theorem Bx {x:Nat} (hx:x≤1):Srt.Bits [x]:=fun y hy=>by
 have:y=x:=by simpa using hy
 omega
theorem xd {x:Nat}: ∀y∈ [vB x],aw y=true:=fun y hy=>by
 have:y=vB x:=by simpa using hy
 subst this;rfl
theorem H6 (n:Nat) (h:n≤cf):bo .i64 (n:Int) 7=((n % 8:Nat):Int):=by
 have hm:IntKind.max .i64=9223372036854775807:=rfl
 rw [av] at h
 rw [show (7:Int)=((7:Nat):Int) from rfl,ew (by omega) (by omega),show (7:Nat)=2^3 - 1 from rfl,Nat.and_two_pow_sub_one_eq_mod]
set_option maxRecDepth 20000 in
theorem Jq {x:Nat} {K:World→Prop} (h:Hp E w (Wr b bits::F)) (hx:x≤1) (hbig:bits.length+1≤cf) (hK: ∀w',Hp E w' (Wr b (bits++ [x])::F)→K w'):
  Cl Tryz.prog [] eD ⟨[.pointer (some ⟨b,0,none⟩),.int .u8 (x:Int)]⟩ w K:=by
 refine pt.ok _ _ _ _ ?_
 simp only [ay,au,Nat.zero_add]
 obtain ⟨s,hb,hle,h1⟩:=Wr.JM h
 have hbg:=hbig
 rw [av] at hbg hle
 have hr8:bits.length % 8<8:=Nat.mod_lt _ (by decide)
 refine Ld.aD (s:= .int .i64) h1 (bits.length:Int) rfl ?_
 rw [H6 _ (by rw [av];omega)]
 have tail: ∀(s':Sl) (w2:World),Hp E w2 (aj b (.cells ⟨[.slice s'.base s'.len s'.cap,.int .i64 (bits.length:Int)]⟩ 133 (0,0))::ah 1 s' ((room bits).map vB)::F)→
   aq w2 fun (w_13:World)=>Ld kS (⟨b,0,none⟩:Addr) w_13 fun (b15:Sl)=>Ld kI (⟨b,1,none⟩:Addr) w_13 fun (many17:Int)=>0≤(3:Int)∧ao b15 (aF .i64 many17 3) 1 fun (q18:Addr)=>Ld (az .u8) q18 w_13 fun (x19:Int)=>
    Ld kI (⟨b,1,none⟩:Addr) w_13 fun (many21:Int)=>0≤((i64 ((7:Int) - (bo .i64 many21 7))):Int)∧ao b15 (aF .i64 many17 3) 1 fun (q22:Addr)=>
    St q22 (.int .u8 (jk .u8 x19 (a8 .u8 (x:Int) (i64 ((7:Int) - (bo .i64 many21 7)))))) w_13 fun (w_23:World)=>Ld kI (⟨b,1,none⟩:Addr) w_23 fun (many25:Int)=>St (⟨b,1,none⟩:Addr) (.int .i64 (i64 (many25+1))) w_23 fun (w_27:World)=>K w_27:=by
  intro s' w2 h2
  refine aq.mk h2 fun w3 h3=>Ld.aD (s:= .sl) h3 s' rfl (Ld.aD (s:= .int .i64) h3 (bits.length:Int) rfl ⟨by decide,?_⟩)
  have hol:=h3.p1.aO
  have hrl:(room bits).length=bits.length/8+1:=oN _ _
  rw [List.length_map,hrl,Nat.mul_one] at hol
  have e3:aF .i64 (bits.length:Int) 3=((bits.length/8:Nat):Int):=by
   rw [show (3:Int)=((3:Nat):Int) from rfl,bO (by decide)]
  rw [e3]
  refine ao.rd (h3.ag (ab.cons ab.own)) (by omega) (by omega) fun q hq hc=> ?_
  have hby:((room bits).map vB)[((bits.length/8:Nat):Int).toNat]'hq= .int .u8 (ky bits (bits.length/8):Int):=by
   rw [List.getElem_map]
   have:=tF (b:=bits) (m:=bits.length/8+1) (j:=bits.length/8) (by omega)
   rw [bX (by rw [oN];omega)] at this
   show vB _=_
   unfold vB
   rw [←this];rfl
  refine Ld.sc (s:= .int .u8) (ky bits (bits.length/8):Int) (by rw [hc,hby]) (Ld.aD (s:= .int .i64) h3 (bits.length:Int) rfl ?_)
  rw [H6 _ (by rw [av];omega),ad (x:=(7:Int) - ((bits.length % 8:Nat):Int)) (by omega),show (7:Int) - ((bits.length % 8:Nat):Int)=((7 - bits.length % 8:Nat):Int) by omega]
  have hnew:=D7 (hb.app (Bx hx)) (bits.length/8)
  rw [yp,if_pos rfl] at hnew
  have hm8:IntKind.max .u8=255:=rfl
  have e4:a8 .u8 (x:Int) ((7 - bits.length % 8:Nat):Int)=((x*2^(7 - bits.length % 8):Nat):Int):=dM (by have:IntKind.bits .u8=8:=rfl;omega) (by omega)
  have e5:=Hx hr8 (GN bits) hx
  rw [e4,oz (by omega) (by omega) (by rw [e5];omega),e5]
  refine ⟨by omega,?_⟩
  refine St.own h3.p1 (by omega) (by omega) rfl fun w4 h4=> ?_
  refine Ld.aD (s:= .int .i64) h4.p1 (bits.length:Int) rfl ?_
  rw [ad (by omega)]
  refine St.aD h4.p1 (show 1<2 by decide) rfl fun w5 h5=>hK w5 (Wr.shut (s:=s') (hb.app (Bx hx)) (by simpa using hbig) ?_)
  rw [DV]
  have:((room bits).set (bits.length/8) (ky bits (bits.length/8)+x*2^(7 - bits.length % 8))).map vB=((room bits).map vB).set ((bits.length/8:Nat):Int).toNat (.int .u8 ((ky bits (bits.length/8)+x*2^(7 - bits.length % 8):Nat):Int)):=by
   rw [Int.toNat_natCast,List.map_set];rfl
  rw [this,List.length_append,List.length_singleton]
  exact h5
 refine aa.mk (fun hz=> ?_) (fun hz=> ?_)
 ·have hz:bits.length % 8=0:=by rw [beq_iff_eq] at hz;omega
  refine Ld.aD (s:= .sl) h1 s rfl (Nw.mk h1 fun b8 w2 h2=> ?_)
  have hol:=h2.p2.aO
  rw [List.length_map,iM,Nat.mul_one] at hol
  refine aM (ys:= [vB 0]) (n:=1) pq (by decide) (.inl ⟨5,by kernel_rfl⟩) h2.p2 (.inl ⟨some ⟨b8,0,none⟩,1,1,rfl,rfl,h2.ag (ab.aD rfl rfl)⟩) rfl xd (by omega) (by omega) fun s' w3 h3 hs'=> ?_
  refine St.aD h3.p2 (show 0<2 by decide) rfl fun w4 h4=> ?_
  refine tail s' w4 ?_
  have e:(room bits).map vB=(pack bits).map vB++ [vB 0]:=by rw [BD,if_pos hz,List.map_append];rfl
  rw [e]
  exact h4.p2.drop
 ·have hz:bits.length % 8≠0:=by have:=beq_eq_false_iff_ne.1 hz;omega
  refine tail s w ?_
  rw [BD,if_neg hz]
  exact h1
set_option maxRecDepth 20000 in
theorem F4 {K:Sl→World→Prop} (h:Hp E w (Wr b bits::F)) (hK: ∀s w',Hp E w' (ah 1 s ((pack bits).map vB)::Wr b bits::F)→K s w'):Cl Tryz.prog [kS] dH ⟨[.pointer (some ⟨b,0,none⟩)]⟩ w K:=by
 refine nJ.ok _ _ _ ?_
 simp only [ay,au,Nat.zero_add]
 obtain ⟨s,hb,hle,h1⟩:=Wr.JM h
 refine aa.f rfl (Ld.aD (s:= .sl) h1 s rfl (ru.ok _ _ _ ?_))
 have hol:=h1.p1.aO
 have hpl:=iM bits
 rw [List.length_map,Nat.mul_one] at hol
 rw [av] at hle
 refine aa.mk (fun hn=> ?_) (fun hn=> ?_)
 ·have hn:s.base=none:=by simpa using hn
  obtain ⟨rfl,he,h2⟩|⟨b0,off,arr,t,hbase,_⟩:=h1.p1.lF
  ·refine hK _ w ?_
   rw [he]
   refine Hp.bl (Wr.shut (s:=⟨none,0,0⟩) hb (by rw [av];exact hle) ?_) 1
   rw [he]
   exact (h2.bl 1).p1
  ·rw [hn] at hbase;cases hbase
 ·refine Nw.mk h1 fun b3 w2 h2=> ?_
  have h3:=h2.fC (n:=0) (sz:=1) rfl
  have hsrc:aC 1 s ((pack bits).map vB) w2:=h2.ag (ab.cons (ab.cons ab.own))
  refine aM (s:=⟨some ⟨b3,0,none⟩,0,0⟩) (ys:=(pack bits).map vB) (n:=s.len) pq (by decide) (.inl ⟨5,by kernel_rfl⟩) h3 (.inl ⟨s.base,s.len,s.cap,rfl,rfl,hsrc⟩) (by rw [List.length_map,Nat.mul_one];exact hol) ek (by show (2*(0+s.len)+1024)*1≤2^48;omega) (by show 0+s.len<2^62;omega) fun s' w4 h4 _=> ?_
  exact hK s' w4 (Wr.shut (s:=s) hb (by rw [av];exact hle) h4.q2).p1
set_option maxRecDepth 20000 in
theorem CZ {v width b4 b6:Nat} (hw:width≤32) (hv:v≤4294967295):Iter Tryz.prog E (.func (.func kn) ⟨[]⟩ ⟨[.pointer (some ⟨b6,0,none⟩),.pointer (some ⟨b4,0,none⟩)]⟩) width (fun i=> [Ki.enc (az .u8) ((v/2^(width - 1 - i) % 2:Nat):Int)])
  (aj b6 (.cells ⟨[.int .i64 (width:Int)]⟩ 3 (0,0))::aj b4 (.cells ⟨[.int .u32 (v:Int)]⟩ 49 (0,0))::A):=by
 intro yv C G w K hy h hK hKG
 refine pL.mk (by kernel_rfl) (sx.ok yv ⟨b6,0,none⟩ ⟨b4,0,none⟩ K w ?_)
 have h0:=h.perm (List.perm_middle.trans (List.Perm.cons _ List.perm_middle))
 refine Ld.aD (s:= .int .i64) h0 (width:Int) rfl ?_
 refine ⟨fun i w'=> ∃k:Nat,i=(width:Int) - 1 - (k:Int)∧k≤width∧Hp E w' (aj b6 (.cells ⟨[.int .i64 (width:Int)]⟩ 3 (0,0))::aj b4 (.cells ⟨[.int .u32 (v:Int)]⟩ 49 (0,0))::(C k++A)),fun i _=>(i+1).toNat,⟨0,by rw [ad (by omega)];omega,by omega,h0⟩,?_⟩
 rintro i w1 ⟨k,rfl,hk,h1⟩
 refine aa.mk (fun hge=> ?_) (fun hlt=> ?_)
 ·have hlt:k<width:=by have:=of_decide_eq_true hge;omega
  refine Ld.aD (s:= .int .u32) h1.p1 (v:Int) rfl ⟨by omega,?_⟩
  have hd:v/2^(width - 1 - k)≤v:=Nat.div_le_self _ _
  have e:bo .u8 (u8 (aF .u32 (v:Int) ((width:Int) - 1 - (k:Int)))) 1=((v/2^(width - 1 - k) % 2:Nat):Int):=by
   have hm:IntKind.max .u8=255:=rfl
   rw [show (width:Int) - 1 - (k:Int)=((width - 1 - k:Nat):Int) by omega,bO (by have:IntKind.bits .u32=32:=rfl;omega),qa,show (((v/2^(width - 1 - k):Nat):Int) % 256)=((v/2^(width - 1 - k) % 256:Nat):Int) by omega,
    show (1:Int)=((1:Nat):Int) from rfl,ew (by omega) (by omega),Nat.and_one_is_mod]
   omega
  rw [e]
  refine hy k hlt (aj b6 (.cells ⟨[.int .i64 (width:Int)]⟩ 3 (0,0))::aj b4 (.cells ⟨[.int .u32 (v:Int)]⟩ 49 (0,0))::A) w1 _ (h1.perm ((List.Perm.cons _ List.perm_middle.symm).trans List.perm_middle.symm)) (fun w5 h5=> ?_) (fun w5 h5=> ?_)
  ·refine aa.f rfl ⟨rfl,⟨k+1,by rw [ad (by omega)];omega,by omega,h5.perm (List.perm_middle.trans (List.Perm.cons _ List.perm_middle))⟩,by dsimp only;rw [ad (by omega)];omega⟩
  ·exact aa.t rfl (hKG k w5 hlt h5)
 ·have hge:k=width:=by have:=of_decide_eq_false hlt;omega
  subst hge
  exact hK _ (h1.perm ((List.Perm.cons _ List.perm_middle.symm).trans List.perm_middle.symm))
theorem Eh {v width:Nat} {K:Bool→World→Prop} (h:Hp E w (Wr b bits::F)) (hw:width≤32) (hv:v<2^width) (hv2:v≤4294967295) (hbig:bits.length+width≤cf) (hK: ∀w',Hp E w' (Wr b (bits++bn width v)::F)→K true w'):
  Cl Tryz.prog [kB] cN ⟨[.pointer (some ⟨b,0,none⟩),.int .u32 (v:Int),.int .i64 (width:Int)]⟩ w K:=by
 refine oQ.ok _ _ _ _ _ ?_
 refine Nw.mk h fun b5 w1 h1=>Ld.aD (s:= .ptr) h1 (some ⟨b,0,none⟩) rfl (aa.f rfl (EF hw hv hv2 (aa.f rfl (um.ok _ _ _ _ ?_))))
 refine Nw.mk h1 fun b4 w2 h2=>Nw.mk h2 fun b6 w3 h3=> ?_
 have h3:Hp E w3 ([aj b5 (.cells ⟨[.pointer (some ⟨b,0,none⟩)]⟩ 80 (0,0)),Wr b (bits++(bn width v).take 0)]++(aj b6 (.cells ⟨[.int .i64 (width:Int)]⟩ 3 (0,0))::aj b4 (.cells ⟨[.int .u32 (v:Int)]⟩ 49 (0,0))::F)):=by
  rw [List.take_zero,List.append_nil]
  exact h3.p3.p3
 have hbl:=oC width v
 refine fB.vy (k:=az .u8) (x:=fun i=>((v/2^(width - 1 - i) % 2:Nat):Int)) (n:=width) (fun i=> [aj b5 (.cells ⟨[.pointer (some ⟨b,0,none⟩)]⟩ 80 (0,0)),Wr b (bits++(bn width v).take i)]) (fun _=> [BN]) h3 (CZ hw hv2) ?_ ?_ ?_
 ·intro lr rec i A w5 Kt Kf hi h5 hKt _
  have h5:Hp E w5 (aj lr (rec 0)::aj b5 (.cells ⟨[.pointer (some ⟨b,0,none⟩)]⟩ 80 (0,0))::Wr b (bits++(bn width v).take i)::A):=h5
  refine sK.mk h5 fun w6 h6=>Ld.aD (s:= .ptr) h6.p1 (some ⟨b,0,none⟩) rfl ?_
  refine Jq h6.p2 (by omega) (by rw [List.length_append,List.length_take,hbl];omega) fun w7 h7=>oX.mk h7.p1 fun w8 h8=>hKt w8 ?_
  have e:(bits++(bn width v).take i)++ [v/2^(width - 1 - i) % 2]=bits++(bn width v).take (i+1):=by
   rw [List.append_assoc,List.take_add_one,List.getElem?_eq_getElem (by rw [hbl];exact hi),←xB width v i hi,bX (by rw [hbl];exact hi)];rfl
  rw [e] at h8
  exact h8.p2.p1
 ·intro D w5 h5
  have h5:Hp E w5 (aj D (.deferred (some []))::aj b5 (.cells ⟨[.pointer (some ⟨b,0,none⟩)]⟩ 80 (0,0))::Wr b (bits++(bn width v).take width)::aj b6 (.cells ⟨[.int .i64 (width:Int)]⟩ 3 (0,0))::aj b4 (.cells ⟨[.int .u32 (v:Int)]⟩ 49 (0,0))::F):=h5
  rw [List.take_of_length_le (by omega)] at h5
  exact kx.vy h5 fun w6 h6=>hK w6 h6.drop.p1.drop.p1.drop
 ·intro i D w5 hi h5
  exact (Hp.EC h5).elim
end
end Go.Proofs.YtcdpblipagajiaaGreat
namespace Go.Proofs.YtcdpblipagajiaaGreat
open Go Go.Vc Go.Srt Go.Inc Go.Tab Go.Bits
section
variable {E w:World} {F:List HP}
set_option maxRecDepth 20000
theorem xV {was now b4 b6:Nat} (h1:was≤255) (h2:now≤255):tp Tryz.prog E (.func (.func gP) ⟨[]⟩ ⟨[.pointer (some ⟨b6,0,none⟩),.pointer (some ⟨b4,0,none⟩)]⟩) (cC was now).length
  (fun i=> [Ki.enc kI (((cC was now).getD i 0:Nat):Int)]) [bI b6 now,bI b4 was] (fun _=>True):=by
 intro yv C G w K hg hy h hK hKG
 refine pL.mk (by kernel_rfl) (oE.ok yv ⟨b6,0,none⟩ ⟨b4,0,none⟩ K w ?_)
 have h:Hp E w (bI b6 now::bI b4 was::C 0):=h
 have one: ∀(k x:Nat) (rest:List Nat) (was':Nat) (w:World) (Kb:Bool→World→Prop),(cC was now).drop k=x::rest→Hp E w (bI b6 now::bI b4 was'::C k)→
   (∀w',Hp E w' (bI b6 now::bI b4 was'::C (k+1))→Kb true w')→(∀w',k<(cC was now).length→Hp E w' (G k)→Kb false w')→kp Tryz.prog yv [kB] [.int .i64 (x:Int)] w Kb:=by
  intro k x rest was' w Kb hd h hk hf
  have hlt:k<(cC was now).length:=by
   rcases Nat.lt_or_ge k (cC was now).length with q|q
   ·exact q
   ·rw [List.drop_eq_nil_of_le q] at hd;cases hd
  have hx:(cC was now).getD k 0=x:=by
   rw [List.drop_eq_getElem_cons hlt] at hd
   injection hd with e _
   rw [List.getD_eq_getElem?_getD,List.getElem?_eq_getElem hlt,Option.getD_some,e]
  have he: [Value.int .i64 (x:Int)]= [Ki.enc kI (((cC was now).getD k 0:Nat):Int)]:=by rw [hx]
  rw [he]
  refine hy k hlt [bI b6 now,bI b4 was'] w _ (h.perm (List.perm_append_comm (l₁:= [bI b6 now,bI b4 was']))) (fun w h=> ?_) (fun w h=> ?_)
  ·exact hk w (h.perm (List.perm_append_comm (l₂:= [bI b6 now,bI b4 was'])))
  ·exact hf w hlt (h.perm (List.perm_append_comm (l₂:= [bI b6 now,bI b4 was']))).drop.drop
 have last: ∀(k was':Nat) (w:World),(cC was now).drop k= [0]→Hp E w (bI b6 now::bI b4 was'::C k)→kp Tryz.prog yv [kB] [.int .i64 0] w fun _ w=>K w:=by
  intro k was' w hd h
  have hlen:(cC was now).length=k+1:=by
   have:=congrArg List.length hd
   simp at this;omega
  refine one k 0 [] was' w _ hd h (fun w h=> ?_) (fun w hk h=>hKG k w hk h)
  rw [←hlen] at h
  exact hK w h.drop.drop
 have hdn: ∀j,fR (j+1)=1::1::fR j:=fun _=>rfl
 have hup: ∀j,nj (j+1)=1::0::nj j:=fun _=>rfl
 refine Ld.xb (x:=(now:Int)) h rfl (Ld.xb (x:=(was:Int)) h rfl (aa.dm (fun hlt=> ?_) (fun hge=> ?_)))
 ·have hlt:now<was:=by omega
  refine ⟨fun w=> ∃k was':Nat,now≤was'∧was'≤was∧(cC was now).drop k=fR (was' - now)++ [0]∧k+2*(was' - now)+1=(cC was now).length∧Hp E w (bI b6 now::bI b4 was'::C k),
   fun w=>jh b4 w,⟨0,was,by omega,by omega,?_,?_,h⟩,?_⟩
  ·unfold cC;rw [if_pos hlt];rfl
  ·unfold cC;rw [if_pos hlt]
   have: ∀j,(fR j).length=2*j:=fun j=>by
    induction j with
    |zero=>rfl
    |succ j ih=>rw [hdn,List.length_cons,List.length_cons,ih];omega
   simp [this]
  rintro w ⟨k,was',h3,h4,hd,hkl,h⟩
  refine Ld.xb (x:=(was':Int)) h rfl (Ld.xb (x:=(now:Int)) h rfl (aa.nm (fun hne=> ?_) (fun he=> ?_)))
  ·obtain ⟨j,hj⟩: ∃j,was' - now=j+1:=⟨was' - now - 1,by omega⟩
   rw [hj,hdn] at hd
   have hd2:(cC was now).drop (k+1)=1::(fR j++ [0]):=by rw [←List.drop_drop,hd];rfl
   have hd3:(cC was now).drop (k+2)=fR j++ [0]:=by rw [show k+2=(k+1)+1 by omega,←List.drop_drop,hd2];rfl
   refine one k 1 _ was' w _ hd h (fun w1 h1=> ?_) (fun w1 hk1 h1=>aa.t rfl (hKG k w1 hk1 h1))
   refine aa.f rfl ?_
   refine one (k+1) 1 _ was' w1 _ hd2 h1 (fun w2 h2=> ?_) (fun w2 hk2 h2=>aa.t rfl (hKG (k+1) w2 hk2 h2))
   refine aa.f rfl ?_
   refine Ld.xb (x:=(was':Int)) h2 rfl ?_
   rw [ad (x:=(2:Int)*1) (by omega),ad (x:=(1:Int) - 2*1) (by omega),ad (by omega)]
   refine St.xb h2 (by simp) rfl fun w3 h3'=> ?_
   rw [show (was':Int)+(1 - 2*1)=((was' - 1:Nat):Int) by omega] at h3'
   have h3':Hp E w3 (bI b6 now::bI b4 (was' - 1)::C (k+2)):=h3'
   refine ⟨rfl,⟨k+2,was' - 1,by omega,by omega,?_,by omega,h3'⟩,?_⟩
   ·rw [hd3,show was' - 1 - now=j by omega]
   ·show jh b4 w3<jh b4 w
    rw [jM (v:=((was' - 1:Nat):Int)) h3' rfl,jM (v:=(was':Int)) h rfl]
    omega
  ·have e:was' - now=0:=by omega
   rw [e] at hd
   exact last k was' w hd h
 ·refine ⟨fun w=> ∃k was':Nat,was'≤now∧was≤was'∧(cC was now).drop k=nj (now - was')++ [0]∧k+2*(now - was')+1=(cC was now).length∧Hp E w (bI b6 now::bI b4 was'::C k),
   fun w=>255 - jh b4 w,⟨0,was,by omega,by omega,?_,?_,h⟩,?_⟩
  ·unfold cC;rw [if_neg (by omega)];rfl
  ·unfold cC;rw [if_neg (by omega)]
   have: ∀j,(nj j).length=2*j:=fun j=>by
    induction j with
    |zero=>rfl
    |succ j ih=>rw [hup,List.length_cons,List.length_cons,ih];omega
   simp [this]
  rintro w ⟨k,was',h3,h4,hd,hkl,h⟩
  refine Ld.xb (x:=(was':Int)) h rfl (Ld.xb (x:=(now:Int)) h rfl (aa.nm (fun hne=> ?_) (fun he=> ?_)))
  ·obtain ⟨j,hj⟩: ∃j,now - was'=j+1:=⟨now - was' - 1,by omega⟩
   rw [hj,hup] at hd
   have hd2:(cC was now).drop (k+1)=0::(nj j++ [0]):=by rw [←List.drop_drop,hd];rfl
   have hd3:(cC was now).drop (k+2)=nj j++ [0]:=by rw [show k+2=(k+1)+1 by omega,←List.drop_drop,hd2];rfl
   refine one k 1 _ was' w _ hd h (fun w1 h1=> ?_) (fun w1 hk1 h1=>aa.t rfl (hKG k w1 hk1 h1))
   refine aa.f rfl ?_
   refine one (k+1) 0 _ was' w1 _ hd2 h1 (fun w2 h2=> ?_) (fun w2 hk2 h2=>aa.t rfl (hKG (k+1) w2 hk2 h2))
   refine aa.f rfl ?_
   refine Ld.xb (x:=(was':Int)) h2 rfl ?_
   rw [ad (x:=(2:Int)*0) (by omega),ad (x:=(1:Int) - 2*0) (by omega),ad (by omega)]
   refine St.xb h2 (by simp) rfl fun w3 h3'=> ?_
   rw [show (was':Int)+(1 - 2*0)=((was'+1:Nat):Int) by omega] at h3'
   have h3':Hp E w3 (bI b6 now::bI b4 (was'+1)::C (k+2)):=h3'
   refine ⟨rfl,⟨k+2,was'+1,by omega,by omega,?_,by omega,h3'⟩,?_⟩
   ·rw [hd3,show now - (was'+1)=j by omega]
   ·show 255 - jh b4 w3<255 - jh b4 w
    rw [jM (v:=((was'+1:Nat):Int)) h3' rfl,jM (v:=(was':Int)) h rfl]
    omega
  ·have e:now - was'=0:=by omega
   rw [e] at hd
   exact last k was' w hd h
theorem we: ∀(m:List Nat) (was n:Nat),cT was (m++ [n])=cT was m++cC (m.getLastD was) n
 | [],was,n=>by simp [cT]
 |x::m,was,n=>by
  rw [List.cons_append,cT,cT,we m x n,List.append_assoc]
  congr 2
  cases m<;>rfl
theorem Bh {a b:Nat} (ha:a≤15) (hb:b≤15):(cC a b).length≤31:=by
 have hd: ∀j,(fR j).length=2*j:=fun j=>by
  induction j with
  |zero=>rfl
  |succ j ih=>rw [show fR (j+1)=1::1::fR j from rfl,List.length_cons,List.length_cons,ih];omega
 have hu: ∀j,(nj j).length=2*j:=fun j=>by
  induction j with
  |zero=>rfl
  |succ j ih=>rw [show nj (j+1)=1::0::nj j from rfl,List.length_cons,List.length_cons,ih];omega
 unfold cC
 rw [List.length_append,List.length_singleton]
 split
 ·rw [hd];omega
 ·rw [hu];omega
theorem rU: ∀(m:List Nat) (was:Nat),was≤15→(∀x∈m,x≤15)→(cT was m).length≤31*m.length
 | [],_,_,_=>by simp [cT]
 |x::m,was,h,hm=>by
  have h1:=hm x List.mem_cons_self
  have h2:=Bh h h1
  have h3:=rU m x h1 fun y hy=>hm y (List.mem_cons_of_mem _ hy)
  rw [cT,List.length_append,List.length_cons];omega
theorem E4 {x k:Nat} (hx:x≤15) (hk:k<4):(four x)[k]? =some (x/2^(3 - k) % 2):=by
 match k,hk with
 |0,_=>rfl
 |1,_=>rfl
 |2,_=>rfl
 |3,_=>simp [four]
theorem JA {l:List Nat} {K:Sl→Int→World→Prop} (h:Hp E w F) (hl:l.length=258) (hbad:cq l=false→∀w',Hp E w' F→K ⟨none,0,0⟩ 2 w')
  (hK:cq l=true→∀s w',Hp E w' (ah 1 s ((ints (du l)).map vI)::F)→K s 0 w'):Cl Tryz.prog [kS,kI] iN ⟨[.agg (ai .u8 l)]⟩ w K:=by
 refine uR.ok _ _ _ ?_
 (try simp only [aH,ay,au,Nat.zero_add,Nat.add_zero,Nat.reduceAdd,Bool.not_true,Bool.not_false,aZ,aY,Option.isNone])
 have hsz:(ai .u8 l).size=258:=by rw [aJ,hl]
 refine Nw.mk h fun b3 w h=>Nw.mk h fun b5 w h=>Ld.xw h hsz (rj h hl fun w h=> ?_)
 by_cases hok:cq l=true
 ·rw [hok]
  refine aa.f rfl ?_
  have h15:=aj.ot hok
  obtain ⟨x,m,rfl⟩: ∃x m,l=x::m:=by
   cases l with
   |nil=>simp at hl
   |cons x m=>exact ⟨x,m,rfl⟩
  have hx15:=h15 x List.mem_cons_self
  refine ⟨by decide,by decide,Ld.xb (x:=(x:Int)) h rfl ?_⟩
  rw [ad (by omega)]
  have h0:Hp E w (fq b5 []::aj b3 (.cells (ai .u8 (x::m)) 36 (0,0))::F):=fq.shut (s:=⟨none,0,0⟩) ((h.bl 1).p1)
  refine ⟨fun i w=> ∃k:Nat,i=(k:Int)∧k≤4∧Hp E w (fq b5 ((four x).take k)::aj b3 (.cells (ai .u8 (x::m)) 36 (0,0))::F),fun i _=>4 - i.toNat,⟨0,rfl,by omega,h0⟩,?_⟩
  rintro i w ⟨k,rfl,hk,h⟩
  refine aa.dm (fun hlt=> ?_) (fun hge=> ?_)
  ·have hlt:k<4:=by omega
   refine aq.mk h fun w h=> ?_
   have ebit:bo .i64 (aF .i64 (x:Int) (i64 (3 - (k:Int)))) 1=((x/2^(3 - k) % 2:Nat):Int):=by
    have hmx:IntKind.max .i64=9223372036854775807:=rfl
    have hd:x/2^(3 - k)≤x:=Nat.div_le_self _ _
    rw [ad (by omega),show (3:Int) - (k:Int)=((3 - k:Nat):Int) by omega,bO (by have:IntKind.bits .i64=64:=rfl;omega),show (1:Int)=((1:Nat):Int) from rfl,ew (by omega) (by omega),Nat.and_one_is_mod]
   rw [ebit]
   have e4:(four x).take k++ [x/2^(3 - k) % 2]=(four x).take (k+1):=by rw [List.take_add_one,E4 hx15 hlt];rfl
   have hl4:((four x).take k).length≤1000000:=by rw [List.length_take];simp [four];omega
   rw [ad (x:=(3:Int) - (k:Int)) (by omega),ad (x:=(k:Int)+1) (by omega)]
   have fin: ∀w',Hp E w' (fq b5 ((four x).take k++ [x/2^(3 - k) % 2])::aj b3 (.cells (ai .u8 (x::m)) 36 (0,0))::F)→True∧(∃k':Nat,(k:Int)+1=(k':Int)∧k'≤4∧Hp E w' (fq b5 ((four x).take k')::aj b3 (.cells (ai .u8 (x::m)) 36 (0,0))::F))∧4 - ((k:Int)+1).toNat<4 - ((k:Int)).toNat:=fun w' h=>by
    rw [e4] at h
    exact ⟨trivial,⟨k+1,by omega,by omega,h⟩,by omega⟩
   obtain ⟨s,_,h⟩:=h.ex
   have h:Hp E w (aj b5 (.cells ⟨[qi s]⟩ 33 (0,0))::ah 1 s ((ints ((four x).take k)).map vI)::aj b3 (.cells (ai .u8 (x::m)) 36 (0,0))::F):=h
   refine ⟨by omega,?_,?_⟩
   ·refine Ld.xb (x:=s) h rfl (Nw.mk h fun b20 w h=> ?_)
    exact fq.put (l:= []) h hl4 fin
   ·refine Nw.mk h fun b20 w h=>Ld.xb (x:=s) h rfl ?_
    exact fq.put (l:= []) h hl4 fin
  ·have hk4:k=4:=by omega
   subst hk4
   refine Ld.xw h hsz ?_
   have e0:(four x).take 4=four x++cT x ((x::m).take 0):=by simp [four,cT]
   rw [e0] at h
   refine ⟨fun ms was i w=> ∃k:Nat,i=(k:Int)∧k≤258∧was=((((x::m).take k).getLastD x:Nat):Int)∧Hp E w (fq b5 (four x++cT x ((x::m).take k))::aj b3 (.cells (ai .u8 (x::m)) 36 (0,0))::(ms.map (fun D=>aj D (.deferred (some [])))++F)),
    fun _ i _=>258 - i.toNat,⟨0,rfl,by omega,rfl,h⟩,?_⟩
   rintro ms was i w ⟨k,rfl,hk,rfl,h⟩
   refine aa.dm (fun hlt=> ?_) (fun hge=> ?_)
   ·have hlt:k<258:=by omega
    have hlt2:k<(x::m).length:=by omega
    have hn15:=h15 _ (List.getElem_mem hlt2)
    have hw15:((x::m).take k).getLastD x≤15:=by
     cases hc:((x::m).take k).getLast? with
     |none=>rw [List.getLastD_eq_getLast?,hc];exact hx15
     |some y=>
      rw [List.getLastD_eq_getLast?,hc]
      exact h15 y (List.mem_of_mem_take (List.mem_of_getLast? hc))
    have hk':((x::m).take k++ [(x::m)[k]])=(x::m).take (k+1):=by rw [List.take_add_one,List.getElem?_eq_getElem hlt2];rfl
    have htl:(four x++cT x ((x::m).take k)).length≤9000:=by
     have:=rU ((x::m).take k) x hx15 fun y hy=>h15 y (List.mem_of_mem_take hy)
     rw [List.length_append,show (four x).length=4 from rfl]
     rw [List.length_take] at this
     omega
    generalize hwas:((x::m).take k).getLastD x=was at hw15 h⊢
    generalize hnow:(x::m)[k]=now at hn15 hk'
    refine ⟨by omega,by omega,(now:Int),by rw [show ((k:Int)).toNat=k by omega,fD hlt2,hnow],?_⟩
    dsimp only
    rw [ad (x:=(now:Int)) (by omega),ad (x:=(k:Int)+1) (by omega)]
    refine pQ.ok _ _ _ _ ?_
    refine Nw.mk h fun b4 w h=>Nw.mk h fun b6 w h=> ?_
    have hcl:=Bh hw15 hn15
    refine fB.IB (E:=E) (k:=kI) (x:=fun i=>(((cC was now).getD i 0:Nat):Int)) (n:=(cC was now).length) (fun i=>fq b5 (four x++cT x ((x::m).take k)++(cC was now).take i)::aj b3 (.cells (ai .u8 (x::m)) 36 (0,0))::(ms.map (fun D=>aj D (.deferred (some [])))++F)) (fun _=> [BN])
     (A:= [bI b6 now,bI b4 was]) ?_ (fun _=>ab.const trivial) (xV (by omega) (by omega)) ?_ ?_ ?_
    ·rw [List.take_zero,List.append_nil];exact h
    ·intro lr rec i A w Kt Kf hi h hKt _
     refine sK.mk h fun w h=> ?_
     obtain ⟨s,_,h⟩:=(h.p1).ex
     have h:Hp E w (aj b5 (.cells ⟨[qi s]⟩ 33 (0,0))::ah 1 s ((ints (four x++cT x ((x::m).take k)++(cC was now).take i)).map vI)::aj lr (rec 1)::aj b3 (.cells (ai .u8 (x::m)) 36 (0,0))::((ms.map (fun D=>aj D (.deferred (some [])))++F)++A)):=h
     refine Ld.xb (x:=s) h rfl (Nw.mk h fun b49 w h=> ?_)
     refine fq.put (l:= []) h (by rw [List.length_append,List.length_take];omega) fun w h=>oX.mk h.p1 fun w h=>hKt w ?_
     have e:four x++cT x ((x::m).take k)++(cC was now).take i++ [(cC was now).getD i 0]=four x++cT x ((x::m).take k)++(cC was now).take (i+1):=by
      rw [List.append_assoc,List.take_add_one,List.getElem?_eq_getElem hi,List.getD_eq_getElem?_getD,List.getElem?_eq_getElem hi];rfl
     rw [e] at h
     exact h
    ·intro D w h
     rw [List.take_of_length_le (Nat.le_refl _),List.append_assoc,←hwas,←we,hk'] at h
     refine ⟨⟨k+1,by omega,by omega,?_,?_⟩,by first|omega|(dsimp only;omega)⟩
     ·rw [←hk',List.getLastD_concat]
     ·exact h.q2
    ·intro i D w hi h
     exact (Hp.EC h).elim
   ·have hk2:k=258:=by omega
    subst hk2
    rw [List.take_of_length_le (by omega)] at h
    obtain ⟨s,_,h⟩:=h.ex
    have h:Hp E w (aj b5 (.cells ⟨[qi s]⟩ 33 (0,0))::ah 1 s ((ints (four x++cT x (x::m))).map vI)::aj b3 (.cells (ai .u8 (x::m)) 36 (0,0))::(ms.map (fun D=>aj D (.deferred (some [])))++F)):=h
    refine Ld.xb (x:=s) h rfl (St.xs h rfl rfl fun w h=> ?_)
    dsimp only [an,af] at h
    refine kx.mk (ms:=ms) (F:=aj b5 (.cells ⟨[qi s]⟩ 33 (0,0))::ah 1 s ((ints (four x++cT x (x::m))).map vI)::aj b3 (.cells (ai .u8 (x::m)) 36 (0,0))::F) (h.perm (List.perm_append_comm_assoc [_,_,_] _ _)) fun w h=>Ld.xb (x:=s) h rfl (hK hok s w ?_)
    exact h.drop.dP
 ·rw [show cq l=false by simpa using hok]
  refine aa.t rfl (St.xs h rfl rfl fun w h=> ?_)
  dsimp only [an,af] at h
  exact Ld.xb (x:=⟨none,0,0⟩) h rfl (hbad (by simpa using hok) w h.tl)
theorem kU {l:List Nat} (hl:l.length=258) (hok:cq l=true):(du l).length≤9000:=by
 have h15:=aj.ot hok
 have hh:l.headD 0≤15:=by
  cases l with
  |nil=>simp at hl
  |cons x l=>exact h15 x List.mem_cons_self
 have:=rU l (l.headD 0) hh h15
 unfold du
 rw [List.length_append,show (four (l.headD 0)).length=4 from rfl]
 omega
theorem Hj {l:List Nat} {b:Nat} {bits:List Nat} {K:Int→World→Prop} (h:Hp E w (Wr b bits::F)) (hl:l.length=258) (hok:cq l=true) (hbig:bits.length≤1000000)
  (hK: ∀w',Hp E w' (Wr b (bits++du l)::F)→K 0 w'):Cl Tryz.prog [kI] ia ⟨[.pointer (some ⟨b,0,none⟩),.agg (ai .u8 l)]⟩ w K:=by
 refine sO.ok _ _ _ _ ?_
 have hsz:(ai .u8 l).size=258:=by rw [aJ,hl]
 refine Nw.mk h fun b4 w h=>Ld.xw h hsz (JA h hl (fun hf=>absurd hok (by rw [hf];decide)) fun _ s w h=>aa.f rfl (aa.f rfl ?_))
 have hlen:=(h.aO)
 simp only [ints,List.length_map,Nat.mul_one] at hlen
 have hb:=aj.uY l
 have htl:=kU hl hok
 refine ⟨fun i w=> ∃k:Nat,i=(k:Int)∧k≤(du l).length∧Hp E w (ah 1 s ((ints (du l)).map vI)::Wr b (bits++(du l).take k)::F),fun i _=>(du l).length - i.toNat,⟨0,rfl,by omega,by rw [List.take_zero,List.append_nil];exact h.no 1⟩,?_⟩
 rintro i w ⟨k,rfl,hk,h⟩
 refine aa.dm (fun hlt=> ?_) (fun hge=> ?_)
 ·have hlt:k<(du l).length:=by omega
  have hx:=hb _ (List.getElem_mem hlt)
  refine ao.rd (h.ag ab.own) (by omega) (by omega) fun q hi hq=> ?_
  refine Ld.sc (s:= .int .i64) ((du l)[k]:Int) (by rw [hq];simp [Sc.enc,vI,ints]) ?_
  rw [gd (by omega)]
  refine Eh (width:=1) h.p1 (by decide) (by omega) (by omega) (by rw [List.length_append,List.length_take,av];omega) fun w h=> ?_
  rw [ad (by omega)]
  refine ⟨⟨k+1,rfl,by omega,?_⟩,by first|omega|(dsimp only;omega)⟩
  have e:bits++(du l).take k++bn 1 (du l)[k]=bits++(du l).take (k+1):=by
   rw [List.append_assoc,List.take_add_one,List.getElem?_eq_getElem hlt]
   congr 2
   generalize (du l)[k]=x at hx
   have:x=0∨x=1:=by omega
   rcases this with rfl|rfl<;>rfl
  rw [e] at h
  exact h.p1
 ·have hk2:k=(du l).length:=by omega
  subst hk2
  rw [List.take_of_length_le (Nat.le_refl _)] at h
  exact hK w h.drop
end
end Go.Proofs.YtcdpblipagajiaaGreat
namespace Go.Proofs.YtcdpblipagajiaaGreat
open Go Go.Vc
set_option maxRecDepth 100000
theorem wu.ok (a:(Option Addr)) (b:(Array Value)) (c:Sl) (R:Int→World→Prop) w (h:
 Nw 36 b w fun e d=>
 Ld (.arr 258) ⟨e,0,none⟩ d fun f=>
 Cl Pg [kI,kI] iI ⟨[(.agg f),(al c)]⟩ d fun (h:Int) (i:Int) g=>
 bf (fun (k:World)=>
 Ld (.arr 258) ⟨e,0,none⟩ k fun l=>
 Cl Pg [(.arr 258),kI] gY ⟨[(.agg l)]⟩ k fun n (o:Int) m=>
 Nw 101 ⟨List.replicate 258 (.int .u32 0)⟩ m fun q p=>
 ar 258 ⟨q,0,none⟩ n p fun r=>
 dn 0 r fun s t (u:Int) v=>
 aa (decide (u<(c.len:Int)))
 (ao c u 1 fun x=>
 Ld kI x v fun (y:Int)=>
 aq v fun z=>
 aB ⟨q,0,none⟩ 258 y 1 fun a1=>
 Ld (az .u32) a1 z fun (b1:Int)=>
 aB ⟨e,0,none⟩ 258 y 1 fun c1=>
 Ld (az .u8) c1 z fun (d1:Int)=>
 Cl Pg [kB] cN ⟨[(.pointer a),(.int .u32 b1),(ni (i64 d1))]⟩ z fun (f1:Bool) e1=>
 s (i64 (u+1)) e1∧t (i64 (u+1)) e1<t u v)
 (R 0 v)) fun j=>
 aa (Option.isNone (a:Option Addr))
 (R 2 g)
 (aa (i !=0)
 (R 2 g)
 (j g))):Cl Pg [kI] jd ⟨[(.pointer a),(.agg b),(al c)]⟩ w R:=co Tryz.f48 [(4,[]),(14,[(32,kI)])] h
theorem uA.ok (a:(Array Value)) (b:Sl) (R:Int→Int→World→Prop) w (h:
 Nw 36 a w fun d c=>
 Ld (.arr 258) ⟨d,0,none⟩ c fun e=>
 Cl Pg [kB] dr ⟨[(.agg e)]⟩ c fun (g:Bool) f=>
 aa (!g)
 (R 0 2 f)
 (cD 0 0 f fun h i (j:Int) (k:Int) l=>
 aa (decide (k<(b.len:Int)))
 (ao b k 1 fun m=>
 Ld kI m l fun (n:Int)=>
 aa (decide (n<0))
 (R 0 2 l)
 (aa (decide (n≥258))
 (R 0 2 l)
 (aB ⟨d,0,none⟩ 258 n 1 fun o=>
 Ld (az .u8) o l fun (p:Int)=>
 aa (p==0)
 (R 0 2 l)
 (aB ⟨d,0,none⟩ 258 n 1 fun q=>
 Ld (az .u8) q l fun (r:Int)=>
 h (i64 (j+(i64 r))) (i64 (k+1)) l∧i (i64 (j+(i64 r))) (i64 (k+1)) l<i j k l))))
 (R j 0 l))):Cl Pg [kI,kI] iI ⟨[(.agg a),(al b)]⟩ w R:=co Tryz.f96 [(10,[(4,kI),(13,kI)])] h
end Go.Proofs.YtcdpblipagajiaaGreat
set_option maxRecDepth 20000
namespace Go.Proofs.YtcdpblipagajiaaGreat
open Go Go.Vc Go.Srt
section
variable {E w:World} {F:List HP}
set_option maxRecDepth 20000 in
theorem GJ {l:List Nat} {K:Array Value→Int→World→Prop} (h:Hp E w F) (hl:l.length=258) (hK1: ¬aS l≤32768→∀w',Hp E w' F→K (ai .u32 (List.replicate 258 0)) 2 w')
  (hK2:aS l≤32768→∀ys w',bF l ys→Hp E w' F→K (ai .u32 (c8 l ys ys.length)) 0 w'):Cl Tryz.prog [.arr 258,kI] gY ⟨[.agg (ai .u8 l)]⟩ w K:=by
 refine tc.ok _ _ _ ?_
 rw [uL]
 refine Nw.mk h fun b3 w1 h1=>Nw.mk h1 fun b5 w2 h2=>Ld.arr h2.p1 (by rw [aJ,hl]) (rY h2 hl fun w3 h3=> ?_)
 refine aa.mk (fun hv=> ?_) (fun hv=> ?_)
 ·have hv: ¬aS l≤32768:=by simpa using hv
  refine Ld.arr h3 (by rw [aJ];simp) (ar.aD h3 (by rw [aJ];simp) (by rw [aJ];simp) dz fun w4 h4=>Ld.arr h4 (by rw [aJ];simp) (hK1 hv w4 h4.drop.drop))
 ·have hv:aS l≤32768:=by simpa using hv
  refine Ld.arr h3.p1 (by rw [aJ,hl]) (GO h3 hl (fun hn=>absurd hv hn) fun _ ys s w4 hys h4=> ?_)
  have hpl:=h4.aO
  simp only [ints,List.length_map,Nat.mul_one] at hpl
  have hin: ∀s∈ys,s<258∧0<l.getD s 0:=fun s hs=>by
   have:=dI.1 (hys.1.mem_iff.1 hs)
   rw [hl] at this;exact this
  have hlen:ys.length≤258:=by
   rw [hys.1.length_eq,←hl]
   have:=List.length_filter_le (fun s=>decide (0<l.getD s 0)) (List.range l.length)
   simpa [used] using this
  refine ⟨fun nx la i w'=> ∃k n a:Nat,i=(k:Int)∧nx=(n:Int)∧la=(a:Int)∧k≤ys.length∧n*2^(15 - a)=Srt.start l ys k∧a≤15∧(∀j (hj:j<ys.length),k≤j→a≤l.getD ys[j] 0)∧
    Hp E w' (ah 1 s ((ints ys).map vI)::aj b5 (.cells (ai .u32 (c8 l ys k)) 101 (0,0))::aj b3 (.cells (ai .u8 l) 36 (0,0))::F),
   fun _ _ i _=>ys.length - i.toNat,⟨0,0,0,rfl,rfl,rfl,by omega,by simp [Srt.start],by omega,fun j hj _=>Nat.zero_le _,h4⟩,?_⟩
  intro nx la i w' hI
  obtain ⟨k,n,a,hi,hn,ha,hk,hst,ha15,hmono,hh⟩:=hI
  subst hi;subst hn;subst ha
  refine aa.mk (fun hlt=> ?_) (fun hge=> ?_)
  ·have hlt:k<ys.length:=by have:=of_decide_eq_true hlt;omega
   have hin2:=hin _ (List.getElem_mem hlt)
   have hyl:ys[k]<l.length:=by omega
   have hg:l.getD ys[k] 0=l[ys[k]]:=by rw [List.getD_eq_getElem?_getD,List.getElem?_eq_getElem hyl];rfl
   refine zx hh (by omega) (x:=(ys[k]:Int)) (by simp [ints,hlt]) ?_
   refine aB.rd (s:= .int .u8) hh.p2 (by omega) (by omega) (l[ys[k]]:Int) (by rw [Int.toNat_natCast];exact fD hyl) ?_
   have ha:=hmono k hlt (Nat.le_refl _)
   have h15:=fT hv ys[k]
   rw [hg] at ha h15 hin2
   rw [gC (by omega)]
   refine ⟨by omega,?_⟩
   have hd:Hp E {w' with drawn:=w'.drawn+1} _:=hh.drew
   refine ⟨fun w'=> ∃cs,Hp E w' (ah 1 s ((ints ys).map vI)::aj b5 (.cells cs 101 (0,0))::aj b3 (.cells (ai .u8 l) 36 (0,0))::F),⟨_,hd⟩,by omega,by omega,(l[ys[k]]:Int),?_,?_⟩
   ·rintro w2 ⟨cs,h2⟩
    rw [au,h2.p2.cell,Int.toNat_natCast,Nat.zero_add,Nat.mul_one]
    exact fD hyl
   ·have hsk:=pH (l:=l) hlt
    have hcm:=py hys hlt
    have hcl:=C0 hv hys hlt
    have hp15:2^l.getD ys[k] 0≤2^15:=Nat.pow_le_pow_right (by decide) (fT hv _)
    have hcode:n*2^(l[ys[k]] - a)=fG l ys k:=by
     have h1:n*2^(l[ys[k]] - a)*sh l ys[k]=fG l ys k*sh l ys[k]:=by
      rw [hcm,←hst]
      unfold sh
      rw [hg,Nat.mul_assoc,←Nat.pow_add]
      congr 2;omega
     exact Nat.eq_of_mul_eq_mul_right (zk l ys[k]) h1
    have e1:a8 .u32 (n:Int) ((l[ys[k]]:Int) - (a:Int))=(fG l ys k:Int):=by
     have hmx:IntKind.max .u32=4294967295:=rfl
     have:=dM (k:= .u32) (a:=n) (b:=l[ys[k]] - a) (by have:IntKind.bits .u32=32:=rfl;omega) (by rw [hmx,hcode];omega)
     rw [hcode] at this
     rw [←this]
     congr 1;omega
    rw [e1]
    refine aB.wr hd.p1 (by omega) (by omega) (by rw [aJ,cO]) rfl fun w3 h3=> ?_
    rw [Int.toNat_natCast,xO] at h3
    refine ⟨⟨_,h3.p1⟩,?_⟩
    rw [gd (by omega),ad (by omega)]
    refine ⟨⟨k+1,fG l ys k+1,l[ys[k]],rfl,rfl,rfl,by omega,?_,h15,fun j hj hkj=> ?_,?_⟩,by dsimp only;omega⟩
    ·rw [hsk,←hcm]
     unfold sh
     rw [hg,Nat.succ_mul]
    ·rw [←hg];exact AT hys hj (by omega)
    ·have:c8 l ys (k+1)=(c8 l ys k).set ys[k] (fG l ys k):=by rw [c8,qV hlt]
     rw [this];exact h3.p1
  ·have hge:k=ys.length:=by have:=of_decide_eq_false hge;omega
   subst hge
   refine Ld.arr hh.p1 (by rw [aJ,cO]) (ar.aD hh.p1 (by rw [aJ,cO]) (by rw [aJ,cO]) dz fun w5 h5=>Ld.arr h5 (by rw [aJ,cO]) (hK2 hv ys w5 hys h5.drop.drop.drop))
end
end Go.Proofs.YtcdpblipagajiaaGreat
set_option maxRecDepth 20000
namespace Go.Vc
open Go
set_option linter.unusedSectionVars false
structure ng (P:Program) {α:Type} [DecidableEq α] (kt:TypeId) (ke:α→Value):Prop where
 und: ∃d,P.underlying kt=some d∧∀a b,Instr.sameNow d (ke a) (ke b)=none∨Instr.sameNow d (ke a) (ke b)=some (decide (a=b))
 check: ∀e a w,(Instr.checkKey e 10000 kt (ke a)).run P w= .ok () w
 eq: ∀a b w,(Op.equal kt (ke a) (ke b)).run P w= .ok (decide (a=b)) w
 same: ∀a,Instr.sameBits 10000 (ke a) (ke a)=true
section
variable {P:Program} {α β:Type} [DecidableEq α] {ke:α→Value} {ve:β→Value} {kt:TypeId}
def eC (ke:α→Value) (ve:β→Value) (es:List MapEntry) (l:List (α×β)):Prop:=es.map (fun e=>(e.key,e.val))=l.map fun p=>(ke p.1,ve p.2)
def findAt (a:α):List (α×β)→Nat→Option (Nat×β)
 | [],_=>none
 |p::l,i=>if a=p.1 then some (i,p.2) else findAt a l (i+1)
theorem mY {e:MapEntry} {es:List MapEntry} {l:List (α×β)} (h:eC ke ve (e::es) l): ∃p l',l=p::l'∧e.key=ke p.1∧e.val=ve p.2∧eC ke ve es l':=by
 unfold eC at h
 cases l with
 |nil=>simp at h
 |cons p l'=>
  simp only [List.map_cons,List.cons.injEq,Prod.mk.injEq] at h
  exact ⟨p,l',rfl,h.1.1,h.1.2,h.2⟩
theorem ub (hk:ng P kt ke) (a:α) (w:World): ∀(es:List MapEntry) (l:List (α×β)) (i:Nat),eC ke ve es l→(Instr.findAsking kt (ke a) es i).run P w= .ok ((findAt a l i).map fun q=>(q.1,ve q.2)) w
 | [],l,i,h=>by
  have:l= []:=by unfold eC at h;cases l<;>simp at h⊢
  subst this
  simp [Instr.findAsking,findAt]
 |e::es,l,i,h=>by
  obtain ⟨p,l',rfl,h1,h2,h3⟩:=mY h
  simp only [Instr.findAsking,Sem.run_bind,h1,hk.eq,Result.andThen_ok,findAt]
  by_cases hq:a=p.1
  ·simp [hq,h2]
  ·simp [hq,ub hk a w es l' (i+1) h3]
theorem Dc {d:TypeDesc} (hd: ∀a b,Instr.sameNow d (ke a) (ke b)=none∨Instr.sameNow d (ke a) (ke b)=some (decide (a=b))) (a:α): ∀(es:List MapEntry) (l:List (α×β)) (i:Nat),eC ke ve es l→
  Instr.findNow d (ke a) es i=none∨Instr.findNow d (ke a) es i=some ((findAt a l i).map fun q=>(q.1,ve q.2))
 | [],l,i,h=>by
  have:l= []:=by unfold eC at h;cases l<;>simp at h⊢
  subst this
  exact .inr rfl
 |e::es,l,i,h=>by
  obtain ⟨p,l',rfl,h1,h2,h3⟩:=mY h
  unfold Instr.findNow
  rw [h1]
  rcases hd a p.1 with h0|h0
  ·rw [h0];exact .inl rfl
  ·rw [h0]
   by_cases hq:a=p.1
   ·right;simp [findAt,hq,h2]
   ·simp only [hq,decide_false,findAt,if_false]
    exact Dc hd a es l' (i+1) h3
theorem nN (hk:ng P kt ke) (a:α) (w:World) (es:List MapEntry) (l:List (α×β)) (h:eC ke ve es l):(Instr.findKey kt (ke a) es).run P w= .ok ((findAt a l 0).map fun q=>(q.1,ve q.2)) w:=by
 obtain ⟨d,hu,hd⟩:=hk.und
 simp only [Instr.findKey,Sem.run_bind,run_underlying hu,Result.andThen_ok]
 rcases Dc (ve:=ve) hd a es l 0 h with h0|h0
 ·rw [h0];exact ub hk a w es l 0 h
 ·rw [h0];rfl
def iD (a:α) (b:β):List (α×β)→List (α×β)
 | []=> [(a,b)]
 |p::l=>if a=p.1 then (a,b)::l else p::iD a b l
theorem pX {a:α}: ∀{l:List (α×β)} {i j:Nat} {v:β},findAt a l i=some (j,v)→i≤j
 | [],i,j,v,h=>by simp [findAt] at h
 |p::l,i,j,v,h=>by
  unfold findAt at h
  split at h
  ·simp at h;omega
  ·have:=pX h;omega
theorem wZ {a:α} {b:β} {f:MapEntry→MapEntry} (hf: ∀e,e.key=ke a→(f e).key=ke a∧(f e).val=ve b): ∀{es:List MapEntry} {l:List (α×β)} {i j:Nat} {v:β},eC ke ve es l→findAt a l i=some (i+j,v)→
  eC ke ve (es.modify j f) (iD a b l)
 | [],l,i,j,v,h,hf2=>by
  have:l= []:=by unfold eC at h;cases l<;>simp at h⊢
  subst this
  simp [findAt] at hf2
 |e::es,l,i,j,v,h,hf2=>by
  obtain ⟨p,l',rfl,h1,h2,h3⟩:=mY h
  unfold findAt at hf2
  unfold iD
  by_cases hq:a=p.1
  ·rw [if_pos hq] at hf2⊢
   have:j=0:=by simp at hf2;omega
   subst this
   obtain ⟨q1,q2⟩:=hf e (by rw [h1,hq])
   unfold eC at h3⊢
   simp [List.modify,q1,q2,h3]
  ·rw [if_neg hq] at hf2⊢
   have hge:=pX hf2
   obtain ⟨j,rfl⟩: ∃j',j=j'+1:=⟨j - 1,by omega⟩
   have ih:=wZ (f:=f) hf (i:=i+1) (j:=j) (v:=v) h3 (by rw [hf2];congr 2;omega)
   unfold eC at ih⊢
   simp only [List.modify_succ_cons,List.map_cons,ih,h1,h2]
theorem xH {a:α}: ∀{es:List MapEntry} {l:List (α×β)} {i j:Nat} {v:β},eC ke ve es l→findAt a l i=some (i+j,v)→∃e,es[j]? =some e∧e.key=ke a
 | [],l,i,j,v,h,hf2=>by
  have:l= []:=by unfold eC at h;cases l<;>simp at h⊢
  subst this
  simp [findAt] at hf2
 |e::es,l,i,j,v,h,hf2=>by
  obtain ⟨p,l',rfl,h1,h2,h3⟩:=mY h
  unfold findAt at hf2
  by_cases hq:a=p.1
  ·rw [if_pos hq] at hf2
   have:j=0:=by simp at hf2;omega
   subst this
   exact ⟨e,rfl,by rw [h1,hq]⟩
  ·rw [if_neg hq] at hf2
   have hge:=pX hf2
   obtain ⟨j,rfl⟩: ∃j',j=j'+1:=⟨j - 1,by omega⟩
   obtain ⟨e',h4,h5⟩:=xH (i:=i+1) (j:=j) (v:=v) h3 (by rw [hf2];congr 2;omega)
   exact ⟨e',by simpa using h4,h5⟩
theorem qx {a:α} {b:β}: ∀{l:List (α×β)} {i:Nat},findAt a l i=none→iD a b l=l++ [(a,b)]
 | [],_,_=>rfl
 |p::l,i,h=>by
  unfold findAt at h
  unfold iD
  by_cases hq:a=p.1
  ·rw [if_pos hq] at h;cases h
  ·rw [if_neg hq] at h⊢
   rw [qx h];rfl
end
def jG {α β:Type} (ke:α→Value) (ve:β→Value) (m:Option Nat) (l:List (α×β)):HP:=fun f=> ∃b es clock,m=some b∧eC ke ve es.toList l∧f=aK.one b (.map es clock)
section
variable {P:Program} {α β:Type} [DecidableEq α] {ke:α→Value} {ve:β→Value} {kt vt t:TypeId} {E w:World} {F:List HP} {m:Option Nat} {l:List (α×β)}
theorem Hp.ra (h:Hp E w (jG ke ve m l::F)): ∃b es clock,m=some b∧eC ke ve es.toList l∧Hp E w (aj b (.map es clock)::F):=by
 obtain ⟨f,a,g,k,hd,e,⟨b,es,clock,h1,h2,h3⟩,h4⟩:=h.frag
 exact ⟨b,es,clock,h1,h2,h.os,h.output,h.tape,f,a,g,k,hd,e,h3,h4⟩
theorem Hp.Bu {b clock:Nat} {es:Array MapEntry} (h:Hp E w (aj b (.map es clock)::F)) (he:eC ke ve es.toList l):Hp E w (jG ke ve (some b) l::F):=
 h.F3 fun _ hf=>⟨b,es,clock,rfl,he,hf⟩
theorem run_makeMap {K:Option Nat→World→Prop} (h:Hp E w F) (hK: ∀m w',Hp E w' (jG ke ve m []::F)→K m w'):aA P (Instr.makeMap t none) kM w K:=by
 unfold aA
 have e:(Instr.makeMap t none).run P w= .ok (.map (some w.heap.size)) (w.alloc (.map #[] 0)):=rfl
 rw [e]
 exact hK _ _ (Hp.Bu (h.alloc _) rfl)
theorem dX (hk:ng P kt ke) (hu:P.underlying t=some (.map kt vt)) {a:α} {b:β} {K:Value→World→Prop} (h:Hp E w (jG ke ve m l::F)) (hK: ∀w',Hp E w' (jG ke ve m (iD a b l)::F)→K undef w'):
  aA P (do Instr.mapUpdate t (.map m) (ke a) (ve b);pure undef) kV w K:=by
 obtain ⟨r,es,clock,rfl,he,hB⟩:=h.ra
 have hb:=hB.aD
 have hfk:=nN (ve:=ve) hk a w es.toList l he
 have key: ∀es' clock',(do Instr.mapUpdate t (.map (some r)) (ke a) (ve b);pure undef:Sem Value).run P w= .ok undef {w with heap:=w.heap.setIfInBounds r (.map es' clock')}→eC ke ve es'.toList (iD a b l)→
   aA P (do Instr.mapUpdate t (.map (some r)) (ke a) (ve b);pure undef) kV w K:=by
  intro es' clock' h1 h2
  unfold aA
  rw [h1]
  exact hK _ (Hp.Bu (hB.setObj rfl rfl rfl rfl) h2)
 cases hf:findAt a l 0 with
 |none=>
  rw [hf] at hfk
  refine key (es.push ⟨ke a,ve b,clock⟩) (clock+1) ?_ ?_
  ·simp [Instr.mapUpdate,run_underlying hu,MapKept.run_getObj_map hb,hk.check,hfk,MapKept.run_setObj_map _ hb]
  ·rw [qx hf]
   unfold eC at he⊢
   simp [he]
 |some q=>
  obtain ⟨j,v⟩:=q
  rw [hf] at hfk
  have hfk':(Instr.findKey kt (ke a) es.toList).run P w= .ok (some (j,ve v)) w:=hfk
  have hkey:((es[j]?).map (·.key)).getD (ke a)=ke a:=by
   obtain ⟨e,he1,he2⟩:=xH (ke:=ke) (ve:=ve) he (i:=0) (j:=j) (v:=v) (by simpa using hf)
   have:es[j]? =some e:=by simpa using he1
   rw [this];exact he2
  refine key (es.modify j fun e=>{e with key:=ke a,val:=ve b}) clock ?_ ?_
  ·simp [Instr.mapUpdate,run_underlying hu,MapKept.run_getObj_map hb,hk.check,hfk',hkey,Instr.keyThatStays,hk.same,MapKept.run_setObj_map _ hb]
  ·rw [Array.toList_modify]
   exact wZ (ke:=ke) (ve:=ve) (a:=a) (b:=b) (fun e _=>⟨rfl,rfl⟩) he (i:=0) (j:=j) (v:=v) (by simpa using hf)
theorem BZ (hk:ng P kt ke) (hu:P.underlying t=some (.map kt vt)) {a:α} {z:Value} (hz: ∀w,(zeroValue vt).run P w= .ok z w) (h:Hp E w (jG ke ve m l::F)):
  (Instr.lookup t (.map m) (ke a) true).run P w= .ok (.tuple #[(match findAt a l 0 with|some q=>ve q.2|none=>z),.bool (findAt a l 0).isSome]) w:=by
 obtain ⟨r,es,clock,rfl,he,hB⟩:=h.ra
 have hb:=hB.aD
 have hfk:=nN (ve:=ve) hk a w es.toList l he
 cases hf:findAt a l 0 with
 |none=>
  rw [hf] at hfk
  simp [Instr.lookup,run_underlying hu,MapKept.run_getObj_map hb,hk.check,hfk,hz]
 |some q=>
  rw [hf] at hfk
  simp [Instr.lookup,run_underlying hu,MapKept.run_getObj_map hb,hk.check,hfk]
end
end Go.Vc
set_option maxRecDepth 20000
namespace Go.Proofs.YtcdpblipagajiaaGreat
open Go Go.Vc Go.Srt
theorem HS {l ys:List Nat} (hl:l.length=258) (h:bF l ys): ∀s∈ys,s<258∧0<l.getD s 0:=fun s hs=>by
 have:=dI.1 (h.1.mem_iff.1 hs)
 rw [hl] at this;exact this
theorem IJ {l ys:List Nat} (hl:l.length=258) (h:bF l ys):ys.length≤258:=by
 rw [h.1.length_eq,←hl]
 have:=List.length_filter_le (fun s=>decide (0<l.getD s 0)) (List.range l.length)
 simpa [used] using this
theorem xK {l ys zs:List Nat} (h:bF l ys) (h2:bF l zs):ys=zs:=by
 refine List.Perm.eq_of_pairwise (le:=fun a b=>l.getD a 0<l.getD b 0∨(l.getD a 0=l.getD b 0∧a<b)) ?_ h.2 h2.2 (h.1.trans h2.1.symm)
 intro a b _ _ h3 h4
 omega
theorem FP {l:List Nat} {i:Nat} {k:IntKind} (h:i<l.length):(ai k l)[((i:Nat):Int).toNat]? =some (Sc.enc (.int k) (l.getD i 0:Int)):=by
 rw [Int.toNat_natCast,fD h,List.getD_eq_getElem?_getD,List.getElem?_eq_getElem h];rfl
end Go.Proofs.YtcdpblipagajiaaGreat
set_option maxRecDepth 20000
namespace Go.Srt
def kg (l:List Nat) (z:Int):Bool:=decide (0≤z)&&decide (z<258)&&decide (0<l.getD z.toNat 0)
def kA (l:List Nat) (zs:List Int):Bool:=zs.all (kg l)
def jm (l:List Nat) (zs:List Int):List Nat:=enc l (zs.map Int.toNat)
theorem qj {l:List Nat} {z:Int}:kg l z=true↔0≤z∧z<258∧0<l.getD z.toNat 0:=by simp [kg,and_assoc]
theorem xz {l:List Nat} {zs:List Int} (h:kA l zs=true) {z:Int} (hz:z∈zs):kg l z=true:=List.all_eq_true.1 h z hz
theorem E5 {l:List Nat} {zs:List Int} {k:Nat} (hk:k<zs.length) (h:kg l zs[k]=false):kA l zs=false:=by
 cases ha:kA l zs with
 |false=>rfl
 |true=>have:=xz ha (List.getElem_mem hk);rw [h] at this;cases this
theorem vC {zs:List Int} {k:Nat} (hk:k<zs.length):zs.take (k+1)=zs.take k++ [zs[k]]:=by rw [List.take_add_one,List.getElem?_eq_getElem hk];rfl
theorem DE {l:List Nat} {zs:List Int} {k:Nat} (hk:k<zs.length) (h:kA l (zs.take k)=true) (hg:kg l zs[k]=true):kA l (zs.take (k+1))=true:=by
 unfold kA at h⊢
 rw [vC hk,List.all_append,h];simp [hg]
theorem vx {l:List Nat} {zs:List Int} {k:Nat} (hk:k<zs.length):jm l (zs.take (k+1))=jm l (zs.take k)++ya l zs[k].toNat:=by
 unfold jm
 rw [vC hk,List.map_append,HJ]
 congr 1
 simp [enc]
theorem yC (l:List Nat) (s:Nat):(ya l s).length=l.getD s 0:=oC _ _
theorem ou {l:List Nat} (hv:aS l≤32768): ∀zs:List Int,(jm l zs).length≤15*zs.length
 | []=>by simp [jm,enc]
 |z::zs=>by
  have:=ou hv zs
  have h15:=fT hv z.toNat
  unfold jm at this⊢
  rw [List.map_cons,zy,List.length_append,yC,List.length_cons]
  omega
end Go.Srt
namespace Go.Proofs.YtcdpblipagajiaaGreat
open Go Go.Vc Go.Srt Go.Bits
section
variable {E w:World} {F:List HP}
set_option maxRecDepth 20000 in
theorem H0 {l:List Nat} {s:Sl} {zs:List Int} {K:Int→Int→World→Prop} (h:Hp E w F) (hl:l.length=258) (hs:ab F (aC 1 s (zs.map vI))) (hn:zs.length≤100000)
  (hK1: ¬(aS l≤32768∧kA l zs=true)→∀w',Hp E w' F→K 0 2 w') (hK2:aS l≤32768→kA l zs=true→∀w',Hp E w' F→K ((jm l zs).length:Int) 0 w'):
  Cl Tryz.prog [kI,kI] iI ⟨[.agg (ai .u8 l),.slice s.base s.len s.cap]⟩ w K:=by
 refine uA.ok _ _ _ _ ?_
 have hsl:=(h.ag hs).1
 simp only [List.length_map,Nat.mul_one] at hsl
 refine Nw.mk h fun b w1 h1=>Ld.arr h1 (by rw [aJ,hl]) (rY h1 hl fun w2 h2=>aa.mk (fun hv=>hK1 (fun hh=>by simp [hh.1] at hv) w2 h2.drop) (fun hv=> ?_))
 have hv:aS l≤32768:=by simpa using hv
 refine ⟨fun n i w'=> ∃k:Nat,i=(k:Int)∧k≤zs.length∧n=((jm l (zs.take k)).length:Int)∧kA l (zs.take k)=true∧Hp E w' (aj b (.cells (ai .u8 l) 36 (0,0))::F),fun _ i _=>zs.length - i.toNat,⟨0,rfl,by omega,rfl,rfl,h2⟩,?_⟩
 rintro n i w' ⟨k,rfl,hk,rfl,hg,hh⟩
 refine aa.mk (fun hlt=> ?_) (fun hge=> ?_)
 ·have hlt:k<zs.length:=by have:=of_decide_eq_true hlt;omega
  have bad:kg l zs[k]=false→K 0 2 w':=fun hb=>hK1 (fun hh=>by rw [E5 hlt hb] at hh;exact absurd hh.2 (by decide)) w' hh.drop
  refine ao.rd (hh.ag (ab.cons hs)) (by omega) (by omega) fun q hq hc=>Ld.sc (s:= .int .i64) zs[k] (by rw [hc];simp [vI,Sc.enc]) ?_
  refine aa.mk (fun h0=>bad ?_) (fun h0=>aa.mk (fun h1=>bad ?_) (fun h1=> ?_))
  ·have:=of_decide_eq_true h0
   unfold kg;rw [decide_eq_false (show¬0≤zs[k] by omega)];rfl
  ·have:=of_decide_eq_true h1
   unfold kg;rw [decide_eq_false (show¬zs[k]<258 by omega)];simp
  have h0:=of_decide_eq_false h0
  have h1:=of_decide_eq_false h1
  obtain ⟨m,hm⟩: ∃m:Nat,zs[k]=(m:Int):=⟨zs[k].toNat,by omega⟩
  have hm2:zs[k].toNat=m:=by omega
  rw [hm]
  refine aB.rd (s:= .int .u8) hh (by omega) (by omega) (l.getD m 0:Int) (sf (by omega)) (aa.mk (fun hz=>bad ?_) (fun hz=> ?_))
  ·have:l.getD m 0=0:=by rw [beq_iff_eq] at hz;omega
   unfold kg;rw [hm2,this];simp
  have hz:0<l.getD m 0:=by have:=beq_eq_false_iff_ne.1 hz;omega
  refine aB.rd (s:= .int .u8) hh (by omega) (by omega) (l.getD m 0:Int) (sf (by omega)) ?_
  have h15:=fT hv m
  have hle:=ou hv (zs.take k)
  rw [List.length_take] at hle
  rw [ad (x:=(l.getD m 0:Int)) (by omega),ad (x:=((jm l (zs.take k)).length:Int)+(l.getD m 0:Int)) (by omega),ad (by omega)]
  refine ⟨⟨k+1,rfl,by omega,?_,DE hlt hg (qj.2 ⟨by omega,by omega,by rw [hm2];exact hz⟩),hh⟩,by dsimp only;omega⟩
  rw [vx hlt,List.length_append,yC,hm2];omega
 ·have hge:k=zs.length:=by have:=of_decide_eq_false hge;omega
  subst hge
  rw [List.take_length] at hg⊢
  exact hK2 hv hg w' hh.drop
set_option maxRecDepth 20000 in
theorem H4 {l:List Nat} {s:Sl} {zs:List Int} {b:Nat} {bits:List Nat} {K:Int→World→Prop} (h:Hp E w (Wr b bits::F)) (hl:l.length=258) (hs:ab F (aC 1 s (zs.map vI))) (hn:zs.length≤100000) (hbig:bits.length≤100000000)
  (hK1: ¬(aS l≤32768∧kA l zs=true)→∀w',Hp E w' (Wr b bits::F)→K 2 w') (hK2:aS l≤32768→kA l zs=true→∀w',Hp E w' (Wr b (bits++jm l zs)::F)→K 0 w'):
  Cl Tryz.prog [kI] jd ⟨[.pointer (some ⟨b,0,none⟩),.agg (ai .u8 l),.slice s.base s.len s.cap]⟩ w K:=by
 refine wu.ok _ _ _ _ _ ?_
 simp only [aH]
 have hsl:=(h.ag (ab.cons hs)).1
 simp only [List.length_map,Nat.mul_one] at hsl
 rw [uL]
 refine Nw.mk h fun b5 w1 h1=>Ld.arr h1 (by rw [aJ,hl]) (H0 h1 hl (ab.cons (ab.cons hs)) hn (fun hb w2 h2=> ?_) (fun hv hg w2 h2=> ?_))
 ·exact aa.f rfl (aa.t (by decide) (hK1 hb w2 h2.drop))
 refine aa.f rfl (aa.f (by decide) (Ld.arr h2 (by rw [aJ,hl]) (GJ h2 hl (fun hb=>absurd hv hb) fun _ ys w3 hys h3=> ?_)))
 refine Nw.mk h3 fun b17 w4 h4=>ar.aD h4 (by rw [aJ];simp) (by rw [aJ,cO]) dz fun w5 h5=> ?_
 refine ⟨fun i w'=> ∃k:Nat,i=(k:Int)∧k≤zs.length∧Hp E w' (Wr b (bits++jm l (zs.take k))::aj b17 (.cells (ai .u32 (c8 l ys ys.length)) 101 (0,0))::aj b5 (.cells (ai .u8 l) 36 (0,0))::F),fun i _=>zs.length - i.toNat,⟨0,rfl,by omega,?_⟩,?_⟩
 ·rw [List.take_zero]
  have e:jm l []= []:=rfl
  rw [e,List.append_nil]
  exact h5.p2
 rintro i w' ⟨k,rfl,hk,hh⟩
 refine aa.mk (fun hlt=> ?_) (fun hge=> ?_)
 ·have hlt:k<zs.length:=by have:=of_decide_eq_true hlt;omega
  refine ao.rd (hh.ag (ab.cons (ab.cons (ab.cons hs)))) (by omega) (by omega) fun q hq hc=>Ld.sc (s:= .int .i64) zs[k] (by rw [hc];simp [vI,Sc.enc]) ?_
  obtain ⟨g1,g2,g3⟩:=qj.1 (xz hg (List.getElem_mem hlt))
  obtain ⟨m,hm⟩: ∃m:Nat,zs[k]=(m:Int):=⟨zs[k].toNat,by omega⟩
  have hm2:zs[k].toNat=m:=by omega
  rw [hm2] at g3
  rw [hm]
  refine aq.mk hh fun w6 h6=> ?_
  refine aB.rd (s:= .int .u32) h6.p1 (by omega) (by omega) ((c8 l ys ys.length).getD m 0:Int) (sf (by rw [cO];omega)) ?_
  refine aB.rd (s:= .int .u8) h6.p2 (by omega) (by omega) (l.getD m 0:Int) (sf (by omega)) ?_
  have h15:=fT hv m
  rw [ad (x:=(l.getD m 0:Int)) (by omega),CD hl hv hys (by omega) g3,ad (x:=(k:Int)+1) (by omega)]
  have hcl:=AE hl hv (by omega) g3
  have hp:2^l.getD m 0≤2^15:=Nat.pow_le_pow_right (by decide) h15
  have hp2:(2:Nat)^15=32768:=by decide
  have hle:=ou hv (zs.take k)
  rw [List.length_take] at hle
  refine Eh h6 (by omega) hcl (by omega) (by rw [List.length_append,av];omega) fun w7 h7=>⟨⟨k+1,by omega,by omega,?_⟩,by dsimp only;omega⟩
  rw [vx hlt,hm2,←List.append_assoc]
  exact h7
 ·have hge:k=zs.length:=by have:=of_decide_eq_false hge;omega
  subst hge
  rw [List.take_length] at hh
  exact hK2 hv hg w' (hh.p1.drop.p1.drop)
end
end Go.Proofs.YtcdpblipagajiaaGreat
namespace Go.Proofs.YtcdpblipagajiaaGreat
open Go Go.Vc
set_option maxRecDepth 100000
theorem E7.ok (a:Sl) (b:Int) (R:Sl→Int→World→Prop) w (h:
 bf (fun (d:World)=>
 Cl Pg [kS] my ⟨[(al a),(ni b)]⟩ d fun (f:Sl) e=>
 aA Pg (Instr.makeSlice 22 (ni (a.len:Int)) (ni (a.len:Int))) kS e fun (h:Sl) g=>
 cD 0 (i64 ((a.len:Int) - 1)) g fun i j (k:Int) (l:Int) m=>
 aa (decide (l≥0))
 (Cl Pg [kI,kB] j7 ⟨[(al a),(ni b),(ni k)]⟩ m fun (o:Int) (p:Bool) n=>
 aa (!p)
 (R (⟨none,0,0⟩:Sl) 170 n)
 (ao a o 1 fun q=>
 Ld (az .u8) q n fun (r:Int)=>
 ao h l 1 fun s=>
 St s (.int .u8 r) n fun t=>
 ao f k 1 fun u=>
 Ld kI u t fun (v:Int)=>
 i v (i64 (l - 1)) t∧j v (i64 (l - 1)) t<j k l m))
 (aa (k !=b)
 (R (⟨none,0,0⟩:Sl) 170 m)
 (R h 0 m))) fun c=>
 aa (decide (b<0))
 (R (⟨none,0,0⟩:Sl) 170 w)
 (aa (decide (b>(a.len:Int)))
 (R (⟨none,0,0⟩:Sl) 170 w)
 (aa (b==0)
 (aa (decide ((a.len:Int)>0))
 (R (⟨none,0,0⟩:Sl) 170 w)
 (c w))
 (c w)))):Cl Pg [kS,kI] oT ⟨[(al a),(ni b)]⟩ w R:=co Tryz.f55 [(4,[]),(16,[(9,kI),(10,kI)])] h
theorem EV.ok (a:Sl) (R:Sl→Int→World→Prop) w (h:
 Cl Pg [kS] nO ⟨[(al a)]⟩ w fun (c:Sl) b=>
 AR (⟨none,0,0⟩:Sl) 0 0 b fun d e (f:Sl) (g:Int) (h:Int) i=>
 aa (decide (h<(c.len:Int)))
 (ao c h 1 fun j=>
 Ld kI j i fun (k:Int)=>
 aa (k==0)
 (d f h (i64 (h+1)) i∧e f h (i64 (h+1)) i<e f g h i)
 (ao a (i64 (k - 1)) 1 fun l=>
 Ld (az .u8) l i fun (m:Int)=>
 Nw 5 ⟨[(.int .u8 m)]⟩ i fun o n=>
 aA Pg (Builtin.append_ #[22,22] 22 ⟨[(al f),(al (⟨some ⟨o,0,none⟩,1,1⟩:Sl))]⟩) kS n fun (q:Sl) p=>
 d q g (i64 (h+1)) p∧e q g (i64 (h+1)) p<e f g h i))
 (R f g i)):Cl Pg [kS,kI] pC ⟨[(al a)]⟩ w R:=co Tryz.f61 [(5,[(2,kS),(3,kI),(9,kI)])] h
theorem B8.ok (a:Sl) (b:Int) (R:Sl→World→Prop) w (h:
 Nw 212 ⟨List.replicate 257 (ni 0)⟩ w fun d c=>
 dn 0 c fun e f (g:Int) h=>
 aa (decide (g<(a.len:Int)))
 (ao a g 1 fun i=>
 Ld (az .u8) i h fun (j:Int)=>
 aB ⟨d,0,none⟩ 257 (i64 ((i64 j)+1)) 1 fun k=>
 Ld kI k h fun (l:Int)=>
 aB ⟨d,0,none⟩ 257 (i64 ((i64 j)+1)) 1 fun m=>
 St m (ni (i64 (l+1))) h fun n=>
 e (i64 (g+1)) n∧f (i64 (g+1)) n<f g h)
 (dn 0 h fun o p (q:Int) r=>
 aa (decide (q<256))
 (aq r fun s=>
 aB ⟨d,0,none⟩ 257 (i64 (q+1)) 1 fun t=>
 Ld kI t s fun (u:Int)=>
 aB ⟨d,0,none⟩ 257 q 1 fun v=>
 Ld kI v s fun (x:Int)=>
 aB ⟨d,0,none⟩ 257 (i64 (q+1)) 1 fun y=>
 St y (ni (i64 (u+x))) s fun z=>
 o (i64 (q+1)) z∧p (i64 (q+1)) z<p q r)
 (aA Pg (Instr.makeSlice 33 (ni (i64 ((a.len:Int)+1))) (ni (i64 ((a.len:Int)+1)))) kS r fun (b1:Sl) a1=>
 dn 0 a1 fun c1 d1 (e1:Int) f1=>
 aa (decide (e1<(b1.len:Int)))
 (Cl Pg [kI,kB] j7 ⟨[(al a),(ni b),(ni e1)]⟩ f1 fun (h1:Int) (i1:Bool) g1=>
 aa i1
 (ao a h1 1 fun j1=>
 Ld (az .u8) j1 g1 fun (k1:Int)=>
 aB ⟨d,0,none⟩ 257 k1 1 fun l1=>
 Ld kI l1 g1 fun (m1:Int)=>
 aB ⟨d,0,none⟩ 257 k1 1 fun n1=>
 St n1 (ni (i64 (m1+1))) g1 fun o1=>
 aB ⟨d,0,none⟩ 257 k1 1 fun p1=>
 Ld kI p1 o1 fun (q1:Int)=>
 ao b1 e1 1 fun r1=>
 St r1 (ni q1) o1 fun s1=>
 c1 (i64 (e1+1)) s1∧d1 (i64 (e1+1)) s1<d1 e1 f1)
 (c1 (i64 (e1+1)) g1∧d1 (i64 (e1+1)) g1<d1 e1 f1))
 (R b1 f1)))):Cl Pg [kS] my ⟨[(al a),(ni b)]⟩ w R:=co Tryz.f106 [(7,[(16,kI)]),(19,[(28,kI)]),(33,[(47,kI)])] h
theorem Ei.ok (a:Sl) (b:Int) (c:Int) (R:Int→Bool→World→Prop) w (h:
 aa (decide (b<0))
 (R 0 false w)
 (aa (decide (b>(a.len:Int)))
 (R 0 false w)
 (aa (decide (c<0))
 (R 0 false w)
 (aa (decide (c>(a.len:Int)))
 (R 0 false w)
 (aa (c==b)
 (R 0 false w)
 (aa (decide (c>b))
 (R (i64 (c - 1)) true w)
 (R c true w))))))):Cl Pg [kI,kB] j7 ⟨[(al a),(ni b),(ni c)]⟩ w R:=co Tryz.f107 [] h
theorem DY.ok (a:Sl) (R:Sl→World→Prop) w (h:
 Cl Pg [kS] nu ⟨[(al a)]⟩ w fun (c:Sl) b=>
 aA Pg (Instr.makeSlice 33 (ni (c.len:Int)) (ni (c.len:Int))) kS b fun (e:Sl) d=>
 dn 0 d fun f g (h:Int) i=>
 aa (decide (h<(c.len:Int)))
 (ao c h 1 fun j=>
 Ld kI j i fun (k:Int)=>
 ao e k 1 fun l=>
 St l (ni h) i fun m=>
 f (i64 (h+1)) m∧g (i64 (h+1)) m<g h i)
 (R e i)):Cl Pg [kS] nO ⟨[(al a)]⟩ w R:=co Tryz.f114 [(9,[(14,kI)])] h
theorem CY.ok (a:Sl) (R:Sl→World→Prop) w (h:
 aA Pg (Instr.makeSlice 237 (ni (i64 ((a.len:Int)+1))) (ni (i64 ((a.len:Int)+1)))) kS w fun (c:Sl) b=>
 dn 0 b fun d e (f:Int) g=>
 aa (decide (f<(a.len:Int)))
 (ao a f 1 fun h=>
 Ld (az .u8) h g fun (i:Int)=>
 ao c f 2 fun j=>
 St (j.add 0) (ni (i64 ((1:Int)+(i64 i)))) g fun k=>
 d (i64 (f+1)) k∧e (i64 (f+1)) k<e f g)
 (Cl Pg [kS,kI] gz ⟨[(al c)]⟩ g fun (m:Sl) (n:Int) l=>
 AR m n 1 l fun o p (q:Sl) (r:Int) (s:Int) t=>
 aa (decide (r<(c.len:Int)))
 (dn 0 t fun u v (x:Int) y=>
 aa (decide (x<(c.len:Int)))
 (ao q x 1 fun z=>
 Ld kI z y fun (a1:Int)=>
 ao c x 2 fun b1=>
 ak b1 [(ni a1),(ni (-1))] 0 y fun c1=>
 aa (decide ((i64 (x+s))<(c.len:Int)))
 (ao q (i64 (x+s)) 1 fun d1=>
 Ld kI d1 c1 fun (e1:Int)=>
 ao c x 2 fun f1=>
 St (f1.add 1) (ni e1) c1 fun g1=>
 u (i64 (x+1)) g1∧v (i64 (x+1)) g1<v x y)
 (u (i64 (x+1)) c1∧v (i64 (x+1)) c1<v x y))
 (Cl Pg [kS,kI] gz ⟨[(al c)]⟩ y fun (i1:Sl) (j1:Int) h1=>
 0≤(1:Int)∧
 o i1 j1 (a8 .i64 s (1:Int)) h1∧p i1 j1 (a8 .i64 s (1:Int)) h1<p q r s t))
 (R q t))):Cl Pg [kS] nu ⟨[(al a)]⟩ w R:=co Tryz.f163 [(7,[(16,kI)]),(21,[(6,kS),(7,kI),(8,kI)]),(29,[(42,kI)])] h
theorem B4.ok (a:Sl) (R:Sl→Int→World→Prop) w (h:
 Cl Pg [kS] cm ⟨[(al a)]⟩ w fun (c:Sl) b=>
 Cl Pg [] cZ ⟨[(al c),(.func (.func 210) ⟨[]⟩ ⟨[]⟩)]⟩ b fun d=>
 aA Pg (Instr.makeMap 250 none) kM d fun f e=>
 dn 0 e fun g h (i:Int) j=>
 aa (decide (i<(c.len:Int)))
 (ao c i 2 fun k=>
 Ld (.st [.int .i64,.int .i64]) k j fun l=>
 Nw 239 ⟨[(ni 0),(ni 0)]⟩ j fun n m=>
 ak ⟨n,0,none⟩ [(ni l.1),(ni l.2.1)] 0 m fun o=>
 Ld (.st [.int .i64,.int .i64]) ⟨n,0,none⟩ o fun p=>
 kH Pg (Instr.lookup 250 (.map f) (.agg ⟨[(ni p.1),(ni p.2.1)]⟩) true) [kI,kB] o fun (r:Int) (s:Bool) q=>
 aa (!s)
 (Ld (.st [.int .i64,.int .i64]) ⟨n,0,none⟩ q fun t=>
 aA Pg (Builtin.len_ #[250] 3 ⟨[(.map f)]⟩) kI q fun (v:Int) u=>
 aA Pg (do Instr.mapUpdate 250 (.map f) (.agg ⟨[(ni t.1),(ni t.2.1)]⟩) (ni v);pure undef) kV u fun _ x=>
 g (i64 (i+1)) x∧h (i64 (i+1)) x<h i j)
 (g (i64 (i+1)) q∧h (i64 (i+1)) q<h i j))
 (cD (⟨none,0,0⟩:Sl) 0 j fun y z (a1:Sl) (b1:Int) c1=>
 aa (decide (b1<(a.len:Int)))
 (ao a b1 2 fun d1=>
 Ld (.st [.int .i64,.int .i64]) d1 c1 fun e1=>
 Nw 239 ⟨[(ni 0),(ni 0)]⟩ c1 fun g1 f1=>
 ak ⟨g1,0,none⟩ [(ni e1.1),(ni e1.2.1)] 0 f1 fun h1=>
 Ld (.st [.int .i64,.int .i64]) ⟨g1,0,none⟩ h1 fun i1=>
 aA Pg (Instr.lookup 250 (.map f) (.agg ⟨[(ni i1.1),(ni i1.2.1)]⟩) false) kI h1 fun (k1:Int) j1=>
 Nw 3 ⟨[(ni k1)]⟩ j1 fun m1 l1=>
 aA Pg (Builtin.append_ #[33,33] 33 ⟨[(al a1),(al (⟨some ⟨m1,0,none⟩,1,1⟩:Sl))]⟩) kS l1 fun (o1:Sl) n1=>
 y o1 (i64 (b1+1)) n1∧z o1 (i64 (b1+1)) n1<z a1 b1 c1)
 (aA Pg (Builtin.len_ #[250] 3 ⟨[(.map f)]⟩) kI c1 fun (q1:Int) p1=>
 R a1 q1 p1))):Cl Pg [kS,kI] gz ⟨[(al a)]⟩ w R:=co Tryz.f195 [(11,[(19,kI)]),(27,[(2,kS),(38,kI)])] h
theorem yT.ok (a:(TT [.int .i64,.int .i64])) (b:(TT [.int .i64,.int .i64])) (R:Int→World→Prop) w (h:
 Nw 239 ⟨[(ni a.1),(ni a.2.1)]⟩ w fun d c=>
 Nw 239 ⟨[(ni b.1),(ni b.2.1)]⟩ c fun f e=>
 eB e fun g h=>
 ae kI (Addr.add ⟨d,0,none⟩ 0) g fun (i:Int)=>
 ae kI (Addr.add ⟨f,0,none⟩ 0) g fun (j:Int)=>
 ae kI (Addr.add ⟨d,0,none⟩ 1) g fun (k:Int)=>
 ae kI (Addr.add ⟨f,0,none⟩ 1) g fun (l:Int)=>
 Cl Pg [kI] cu ⟨[(ni i),(ni j)]⟩ h fun (n:Int) m=>
 g m∧
 Cl Pg [kI] cu ⟨[(ni k),(ni l)]⟩ m fun (p:Int) o=>
 g o∧
 Nw 3 ⟨[(ni n),(ni p)]⟩ o fun r q=>
 g q∧
 Cl Pg [kI] lY ⟨[(al (⟨some ⟨r,0,none⟩,2,2⟩:Sl))]⟩ q fun (t:Int) s=>
 g s∧
 R t s):Cl Pg [kI] jR ⟨[(.agg ⟨[(ni a.1),(ni a.2.1)]⟩),(.agg ⟨[(ni b.1),(ni b.2.1)]⟩)]⟩ w R:=co Tryz.f210 [] h
end Go.Proofs.YtcdpblipagajiaaGreat
set_option maxRecDepth 20000
namespace Go.Vc
open Go
def aT (t:List Int):Array Value:=⟨t.map vI⟩
def zl (l:List Nat):List Int:=l.map fun (x:Nat)=>(x:Int)
theorem eN (l:List Nat):(zl l).length=l.length:=List.length_map ..
theorem DK (a b:List Nat):zl (a++b)=zl a++zl b:=List.map_append
theorem dF {t:List Int}:(aT t).size=t.length:=by simp [aT]
theorem tW {t:List Int} {i:Nat} (h:i<t.length):(aT t)[i]? =some (Sc.enc (.int .i64) (t.getD i 0)):=by simp [aT,h,vI,List.getD]
theorem iU {t:List Int}: ∀v∈(aT t).toList,aw v=true:=by
 intro v hv
 simp only [aT,List.mem_map] at hv
 obtain ⟨x,_,rfl⟩:=hv
 rfl
theorem I3 {t:List Int} {i:Nat} {x:Int}:(aT t).setIfInBounds i (.int .i64 x)=aT (t.set i x):=by
 unfold aT
 apply Array.ext'
 simp [List.map_set,vI]
theorem rf {n:Nat}:(⟨List.replicate n (.int .i64 0)⟩:Array Value)=aT (List.replicate n 0):=by unfold aT;simp [vI]
theorem tE.aT {n:Nat} {a b:List Int} {K:Bool→Prop} (ha:a.length=n) (hb:b.length=n) (h:K (a==b)):tE .i64 n (aT a) (aT b) K:=⟨a,b,rfl,rfl,ha,hb,h⟩
theorem dj {l:List Int} {i j:Nat} {x:Int} (hi:i<l.length):(l.set i x).getD j 0=if j=i then x else l.getD j 0:=by
 simp only [List.getD,List.getElem?_set]
 by_cases h:i=j
 ·subst h;simp [hi]
 ·rw [if_neg h,if_neg (fun e=>h e.symm)]
section
variable {E w:World} {F:List HP}
theorem aB.aT {b n:Nat} {t:List Int} {ty:TypeId} {fr:Nat×Nat} {i:Int} {j:Nat} {K:Int→Prop} (h:Hp E w (aj b (.cells (Vc.aT t) ty fr)::F)) (hi:i=(j:Int)) (hn:t.length=n) (hj:j<n) (hK:K (t.getD j 0)):aB ⟨b,0,none⟩ n i 1 fun q=>Ld kI q w K:=by
 subst hi
 exact aB.rd (s:= .int .i64) h (by omega) (by omega) _ (by rw [Int.toNat_natCast];exact tW (by omega)) hK
theorem aB.JU {S:World→Prop} {b n:Nat} {t:List Int} {ty:TypeId} {fr:Nat×Nat} {i:Int} {j:Nat} {K:Int→Prop} (hS: ∀w,S w→∃G,Hp E w (aj b (.cells (Vc.aT t) ty fr)::G)) (hi:i=(j:Int)) (hn:t.length=n) (hj:j<n) (hK:K (t.getD j 0)):aB ⟨b,0,none⟩ n i 1 fun q=>ae kI q S K:=by
 subst hi
 refine ⟨by omega,by omega,?_⟩
 rw [au]
 exact ae.aD (s:= .int .i64) hS _ (by rw [Int.toNat_natCast,Nat.mul_one,Nat.zero_add];exact tW (by omega)) hK
theorem aB.qW {b n:Nat} {t:List Int} {ty:TypeId} {i:Int} {j:Nat} {v:Int} {K:World→Prop} (h:Hp E w (aj b (.cells (Vc.aT t) ty (0,0))::F)) (hi:i=(j:Int)) (hn:t.length=n) (hj:j<n)
  (hK: ∀w',Hp E w' (aj b (.cells (Vc.aT (t.set j v)) ty (0,0))::F)→K w'):aB ⟨b,0,none⟩ n i 1 fun q=>St q (.int .i64 v) w K:=by
 subst hi
 exact aB.wr h (by omega) (by omega) (by rw [dF,hn]) rfl (by rw [Int.toNat_natCast,I3];exact hK)
theorem ez.aT {n:Nat} {t:List Int} {i:Int} {j:Nat} {K:Int→Prop} (hi:i=(j:Int)) (hn:t.length=n) (hj:j<n) (hK:K (t.getD j 0)):ez (.int .i64) (Vc.aT t) n i K:=by
 subst hi
 exact ez.rd (s:= .int .i64) (by omega) (by omega) _ (by rw [Int.toNat_natCast];exact tW (by omega)) hK
theorem ao.nI {s:Sl} {zs:List Int} {i:Int} {j:Nat} {K:Int→Prop} (hs:aC 1 s (zs.map vI) w) (hi:i=(j:Int)) (hj:j<zs.length) (hK:K (zs.getD j 0)):ao s i 1 fun q=>Ld kI q w K:=by
 subst hi
 have hl:=hs.1
 simp only [List.length_map,Nat.mul_one] at hl
 refine ao.rd hs (by omega) (by omega) fun p hp hc=>Ld.sc (s:= .int .i64) _ ?_ hK
 rw [hc]
 simp [vI,List.getD,hj]
theorem ao.nB {s:Sl} {bs:List Nat} {i:Int} {j:Nat} {K:Int→Prop} (hs:aC 1 s (bs.map vB) w) (hi:i=(j:Int)) (hj:j<bs.length) (hK:K (bs.getD j 0:Int)):ao s i 1 fun q=>Ld (az .u8) q w K:=by
 subst hi
 have hl:=hs.1
 simp only [List.length_map,Nat.mul_one] at hl
 refine ao.rd hs (by omega) (by omega) fun p hp hc=>Ld.sc (s:= .int .u8) (bs.getD j 0:Int) ?_ hK
 rw [hc]
 simp [vB,List.getD,hj]
theorem ao.Jd {s:Sl} {zs:List Int} {i:Int} {j:Nat} {x:Int} {K:World→Prop} (hh:Hp E w (ah 1 s (zs.map vI)::F)) (hi:i=(j:Int)) (hj:j<zs.length) (h: ∀w',Hp E w' (ah 1 s ((zs.set j x).map vI)::F)→K w'):ao s i 1 fun q=>St q (.int .i64 x) w K:=by
 subst hi
 have hl:=hh.aO
 rw [List.length_map,Nat.mul_one] at hl
 refine St.own hh (by omega) (by omega) rfl fun w' h'=>h w' ?_
 rw [Int.toNat_natCast] at h'
 rw [List.map_set]
 exact h'
theorem ao.I6 {s:Sl} {bs:List Nat} {i:Int} {j x:Nat} {K:World→Prop} (hh:Hp E w (ah 1 s (bs.map vB)::F)) (hi:i=(j:Int)) (hj:j<bs.length) (h: ∀w',Hp E w' (ah 1 s ((bs.set j x).map vB)::F)→K w'):ao s i 1 fun q=>St q (.int .u8 (x:Int)) w K:=by
 subst hi
 have hl:=hh.aO
 rw [List.length_map,Nat.mul_one] at hl
 refine St.own hh (by omega) (by omega) rfl fun w' h'=>h w' ?_
 rw [Int.toNat_natCast] at h'
 rw [List.map_set]
 exact h'
theorem Gv {P:Program} {t ty e e2:TypeId} {s:Sl} {zs:List Int} {x:Int} {cs:Array Value} {K:Sl→World→Prop} (he:cp P t e 1 8) (hcs:cs=⟨[vI x]⟩) (hh:Hp E w (ah 1 s (zs.map vI)::F)) (hb:zs.length≤cf)
  (h: ∀s' w',Hp E w' (ah 1 s' ((zs++ [x]).map vI)::F)→s'.len=zs.length+1→K s' w'):
  Nw e2 cs w fun b w1=>aA P (Builtin.append_ #[t,t] ty ⟨[.slice s.base s.len s.cap,.slice (some ⟨b,0,none⟩) 1 1]⟩) kS w1 K:=by
 have hl:=hh.aO
 rw [List.length_map,Nat.mul_one] at hl
 rw [av] at hb
 refine Nw.mk hh fun b w1 h1=>aM (ys:= [vI x]) (n:=1) he (by decide) (.inl ⟨e,he.und⟩) h1.p1 (.inl ⟨some ⟨b,0,none⟩,1,1,rfl,rfl,h1.ag (ab.aD (by rw [hcs]) rfl)⟩) rfl (fun y hy=>by
  rw [List.mem_singleton] at hy;subst hy;rfl) (by omega) (by omega) fun s' w2 h2 hs'=>h s' w2 ?_ (by omega)
 rw [List.map_append]
 exact h2.p1.drop
end
end Go.Vc
set_option maxRecDepth 20000
namespace Go.Hs
open Go Go.Vc
def bd (t:List Int):Bool:=t.all fun x=>decide (0≤x)&&decide (x≤2147483647)
theorem gE {t:List Int}:bd t=true↔∀i,i<t.length→0≤t.getD i 0∧t.getD i 0≤2147483647:=by
 unfold bd
 rw [List.all_eq_true]
 constructor
 ·intro h i hi
  have:=h t[i] (List.getElem_mem hi)
  simpa [List.getD,hi] using this
 ·intro h x hx
  obtain ⟨i,hi,rfl⟩:=List.getElem_of_mem hx
  simpa [List.getD,hi] using h i hi
theorem Fj {t:List Int} {i:Nat} (hi:i<t.length) (h: ¬(0≤t.getD i 0∧t.getD i 0≤2147483647)):bd t=false:=by
 cases hv:bd t with
 |false=>rfl
 |true=>exact absurd (gE.1 hv i hi) h
def kQ (z:Int):Bool:=decide (0≤z)&&decide (z<258)
theorem nY {z:Int}:kQ z=true↔0≤z∧z<258:=by simp [kQ]
def inc (t:List Int) (z:Int):List Int:=t.set z.toNat (t.getD z.toNat 0+1)
def gQ (t:List Int) (zs:List Int):List Int:=zs.foldl inc t
theorem uS (t:List Int) (z:Int):(inc t z).length=t.length:=List.length_set ..
theorem oo: ∀(zs t:List Int),(gQ t zs).length=t.length
 | [],_=>rfl
 |z::zs,t=>by
  show (gQ (inc t z) zs).length=_
  rw [oo zs,uS]
theorem yf (t zs:List Int) (z:Int):gQ t (zs++ [z])=inc (gQ t zs) z:=by simp [gQ]
theorem Bd {t:List Int} {z:Int} (hz:kQ z=true) (ht:t.length=258) (i:Nat):(inc t z).getD i 0=t.getD i 0+if z=(i:Int) then 1 else 0:=by
 rw [nY] at hz
 unfold inc
 rw [dj (by omega)]
 by_cases h:z=(i:Int)
 ·have:i=z.toNat:=by omega
  rw [if_pos this,if_pos h,this]
 ·rw [if_neg (by omega),if_neg h];omega
theorem qS: ∀{zs t:List Int},zs.all kQ=true→t.length=258→∀i:Nat,(gQ t zs).getD i 0=t.getD i 0+(zs.count (i:Int):Int)
 | [],t,_,_,i=>by simp [gQ]
 |z::zs,t,h,ht,i=>by
  rw [List.all_cons,Bool.and_eq_true] at h
  show (gQ (inc t z) zs).getD i 0=_
  rw [qS h.2 (by rw [uS,ht]),Bd h.1 ht,List.count_cons]
  by_cases e:z=(i:Int)
  ·rw [if_pos e,if_pos (by simp [e])];omega
  ·rw [if_neg e,if_neg (by simp [e])];omega
def fh (t zs:List Int):Option (List Int):=if bd t&&zs.all kQ&&bd (gQ t zs) then some (gQ t zs) else none
def JW (o:Option (List Int)):Int:=if o.isSome then 0 else 2
theorem yP {t zs:List Int} (h:bd t=false):fh t zs=none:=by simp [fh,h]
theorem Fz {t zs:List Int} {k:Nat} (hk:k<zs.length) (h:kQ (zs.getD k 0)=false):fh t zs=none:=by
 unfold fh
 rw [if_neg]
 intro hh
 simp only [Bool.and_eq_true] at hh
 have:=List.all_eq_true.1 hh.1.2 zs[k] (List.getElem_mem hk)
 simp [List.getD,hk,this] at h
theorem iB (zs:List Int) (z:Int) (k:Nat):(zs.take k).count z≤zs.count z:=by
 have:zs.count z=(zs.take k).count z+(zs.drop k).count z:=by rw [←List.count_append,List.take_append_drop]
 omega
theorem DU {t zs:List Int} {k:Nat} (ht:t.length=258) (hk:k<zs.length) (hg:(zs.take k).all kQ=true) (hz:kQ (zs.getD k 0)=true) (h:2147483647≤(gQ t (zs.take k)).getD (zs.getD k 0).toNat 0):fh t zs=none:=by
 unfold fh
 rw [if_neg]
 intro hh
 simp only [Bool.and_eq_true] at hh
 have hr:=nY.1 hz
 have hv:=gE.1 hh.2 (zs.getD k 0).toNat (by rw [oo];omega)
 rw [qS hh.1.2 ht] at hv
 rw [qS hg ht] at h
 have e:(((zs.getD k 0).toNat:Nat):Int)=zs.getD k 0:=by omega
 rw [e] at hv h
 have h1:=iB zs (zs.getD k 0) (k+1)
 have h2:(zs.take (k+1)).count (zs.getD k 0)=(zs.take k).count (zs.getD k 0)+1:=by
  rw [List.take_add_one,List.getElem?_eq_getElem hk,List.count_append]
  simp [List.getD,hk]
 omega
theorem pc {zs:List Int} {k:Nat} (hk:k<zs.length):zs.take (k+1)=zs.take k++ [zs.getD k 0]:=by
 rw [List.take_add_one,List.getElem?_eq_getElem hk]
 simp [List.getD,hk]
theorem xW {t zs:List Int} (h1:bd t=true) (h2:zs.all kQ=true) (h3:bd (gQ t zs)=true):fh t zs=some (gQ t zs):=by simp [fh,h1,h2,h3]
theorem D6 {t zs u:List Int} (h:fh t zs=some u):bd t=true∧zs.all kQ=true∧u=gQ t zs∧bd u=true:=by
 unfold fh at h
 split at h
 ·rename_i hh
  simp only [Bool.and_eq_true] at hh
  obtain rfl:=Option.some.inj h
  exact ⟨hh.1.1,hh.1.2,rfl,hh.2⟩
 ·cases h
end Go.Hs
set_option maxRecDepth 20000
namespace Go.Vc
open Go Go.Sort
set_option linter.unusedSectionVars false
def ba (x:Int×Int):List Value:= [.int .i64 x.1,.int .i64 x.2]
theorem bW (x:Int×Int):(ba x).length=2:=rfl
theorem Af (x:Int×Int): ∀y∈ba x,aw y=true:=by
 intro y hy
 simp only [ba,List.mem_cons,List.not_mem_nil,or_false] at hy
 rcases hy with rfl|rfl<;>rfl
def p7 (a b:Int):Int:=if a<b then -1 else if a>b then 1 else 0
def uD (x y:Int×Int):Int:=if p7 x.1 y.1 !=0 then p7 x.1 y.1 else p7 x.2 y.2
def eX (x y:Int×Int):Bool:=decide (x.1<y.1)||(decide (x.1=y.1)&&decide (x.2<y.2))
theorem bB {x y:Int×Int}:eX x y=true↔x.1<y.1∨(x.1=y.1∧x.2<y.2):=by simp [eX]
theorem qD:Go.Proofs.ltOf uD=eX:=by
 funext x y
 rw [Bool.eq_iff_iff,bB]
 unfold Go.Proofs.ltOf uD p7
 rw [decide_eq_true_iff]
 by_cases h1:x.1<y.1
 ·simp [h1]
 ·by_cases h2:x.1>y.1
  ·simp [h1,h2];omega
  ·by_cases h3:x.2<y.2
   ·simp [h1,h2,h3];omega
   ·by_cases h4:x.2>y.2
    ·simp [h1,h2,h3,h4]
    ·simp [h1,h2,h3,h4]
theorem HK:SWO (Go.Proofs.ltOf uD):=by
 rw [qD]
 refine ⟨fun x=> ?_,fun x y z h1 h2=> ?_,fun x y z h1 h2=> ?_⟩
 ·rw [Bool.eq_false_iff];intro h;rw [bB] at h;omega
 ·rw [bB] at*;omega
 ·rw [Bool.eq_false_iff] at*;simp only [ne_eq,bB] at*;omega
def a6 (xs:List (Int×Int)):List (Int×Int):=xs.mergeSort fun x y=> !eX y x
section
variable {E w:World} {F:List HP}
theorem Hp.grown {l:List HP} (h:Hp E w l) (os:Array Obj):Hp E (grow w os) l:=by
 obtain ⟨f,a,b⟩:=h.frag
 refine ⟨h.os,h.output,h.tape,f,fun r o hr=> ?_,b⟩
 have:=a r o hr
 show (w.heap++os)[r]? =some o
 have hlt:r<w.heap.size:=by obtain ⟨hh,_⟩:=Array.getElem?_eq_some_iff.1 this;exact hh
 rw [Array.getElem?_append_left hlt,this]
theorem Hp.Iy {b:Nat} {c:Array Value} {t:TypeId} (h:Hp E w (aj b (.cells c t (0,0))::F)) (f:Array Value→Array Value):Hp E (mapBlock w b f) (aj b (.cells (f c) t (0,0))::F):=by
 refine h.setObj ?_ rfl rfl rfl
 show w.heap.modify b (onCells f)=_
 have hb:=h.aD
 apply Array.ext_getElem?
 intro k
 have hlt:b<w.heap.size:=(Array.getElem?_eq_some_iff.1 hb).1
 simp only [Array.getElem?_modify,Array.set!_eq_setIfInBounds,Array.getElem?_setIfInBounds]
 by_cases hk:b=k
 ·subst hk
  simp only [if_true,hlt,hb,Option.map_some,onCells]
 ·simp [hk]
theorem Gb (d:Array (Int×Int)):(flatK ba 2 d).toList=d.toList.flatMap ba:=by
 apply List.ext_getElem?
 intro i
 by_cases hi:i<d.size*2
 ·have hm:i=i/2*2+i % 2:=by omega
  have hd:i/2<d.toList.length:=by rw [Array.length_toList];omega
  have:=ic (g:=ba) (sz:=2) bW d.toList (i/2) (i % 2) hd (by omega)
  rw [←hm] at this
  rw [this]
  have h2:=get_flatK ba 2 d i hi
  have hs:i<(flatK ba 2 d).size:=by simpa using hi
  rw [getElem!_pos (flatK ba 2 d) i hs,getElem!_pos d (i/2) (by omega)] at h2
  rw [List.getElem?_eq_getElem (by simpa using hi),Array.getElem_toList,h2]
  have:i % 2=0∨i % 2=1:=by omega
  rcases this with e|e<;>rw [e]<;>simp [ba]
 ·rw [List.getElem?_eq_none (by simp;omega),List.getElem?_eq_none (by rw [cE bW];simp;omega)]
theorem iV (xs:List (Int×Int)):(a6 xs).length=xs.length:=List.length_mergeSort ..
theorem Hk {P:Program} {ρ:Go.Shelf.Ren} (L:Go.Proofs.SlLaysF0.n6 P ρ) (aE: ∀w,(isAgg (ρ.t 24)).run P w= .ok true w) (zE: ∀w,(Go.sizeOf (ρ.t 24)).run P w= .ok 2 w) {g:Nat} (eg:kj P g=true)
  (hcl: ∀(x y:Int×Int) (W:World),Calls P g #[.agg ⟨ba x⟩,.agg ⟨ba y⟩] W fun e w'=>e= .returned (.int .i64 (uD x y))∧∃q os',w'=grow (W.drewN q) os')
  {s:Sl} {xs:List (Int×Int)} {K:World→Prop} (h:Hp E w (ah 2 s (xs.flatMap ba)::F)) (hsz:xs.length<4611686018427387904) (hK: ∀w',Hp E w' (ah 2 s ((a6 xs).flatMap ba)::F)→K w'):
  Cl P [] (ρ.f 6) ⟨[.slice s.base s.len s.cap,.func (.func g) ⟨[]⟩ ⟨[]⟩]⟩ w K:=by
 have hlen:=aC.len bW (by decide) (h.ag ab.own)
 unfold Cl
 by_cases h0:xs.length=0
 ·obtain rfl:xs= []:=List.length_eq_zero_iff.1 h0
  have hs0:s.len=0:=hlen
  rw [hs0]
  refine (Go.Proofs.AnyF.slices_SortFunc_none {L with} s.base s.cap _ w).mono fun e w' he=> ?_
  obtain ⟨rfl,rfl⟩:=he
  exact hK _ (by rw [show a6 []= [] from List.length_eq_zero_iff.1 (iV [])];exact h)
 rcases h.lF with ⟨rfl,h1,_⟩|⟨b,off,arr,t,h1,h2,h3,h4,h5⟩
 ·exact absurd (by simpa using hlen.symm) h0
 have hd:xs.toArray.size=s.len:=by simp [hlen]
 have hH:HoldsK ba 2 w b off xs.toArray:=by
  intro j hj
  rw [size_flatK,hd] at hj
  have hfl:(xs.flatMap ba).length=xs.length*2:=cE bW xs
  have e1:=h4 j (by rw [hfl,←hlen];exact hj)
  refine ⟨?_,?_⟩
  ·rw [h5.cell (i:=off+j),e1]
   congr 1
   have e2:(flatK ba 2 xs.toArray)[j]! =(flatK ba 2 xs.toArray)[j]'(by rw [size_flatK,hd];exact hj):=getElem!_pos _ _ _
   show _=(flatK ba 2 xs.toArray)[j]!
   rw [e2,←Array.getElem_toList]
   simp only [Gb]
  ·have hb:=h5.aD
   simp [World.frozen?,hb]
 have key:=Go.Proofs.AnyQ.slices_SortFunc_total L 2 aE zE ba bW (fun x v hv=>by
   simp only [ba,List.mem_cons,List.not_mem_nil,or_false] at hv
   rcases hv with rfl|rfl<;>rfl) uD HK g ⟨[]⟩ b off s.cap xs.toArray w (o7 eg)
  (fun m os dk _ x y=>hcl x y _) hH (by have:=h5.aD;exact (Array.getElem?_eq_some_iff.1 this).1) (by rw [hd,hlen];exact hsz)
  (fun x y h1 h2=>by
   rw [qD,Bool.eq_false_iff] at h1 h2
   simp only [ne_eq,bB] at h1 h2
   exact Prod.ext (by omega) (by omega))
 rw [hd,←h1] at key
 refine Calls.mono key fun e w' he=> ?_
 obtain ⟨rfl,n,os,rfl⟩:=he
 rw [qD]
 refine hK _ ?_
 unfold Go.Proofs.sortWorldK
 refine Hp.grown ?_ os
 have h6:Hp E (Sort.ahead w n) (aj b (.cells arr t (0,0))::F):=h5.drew
 have h7:=h6.Iy (putCells id off (flatK ba 2 (a6 xs).toArray))
 have hl2:((a6 xs).flatMap ba).length=s.len*2:=by rw [cE bW,iV,hlen]
 refine h7.iT (s:=s) hl2 h1 h2 (by simpa [putCells] using h3) fun i hi=> ?_
 have hi2:i<s.len*2:=by rw [←hl2];exact hi
 have hb:off+i<arr.size:=by
  have:s.len*2≤s.cap*2:=Nat.mul_le_mul_right _ h2
  omega
 have hsF:i<(flatK ba 2 (a6 xs).toArray).size:=by rw [size_flatK];simp [iV];omega
 have e2:(flatK ba 2 (a6 xs).toArray)[i]! =((a6 xs).flatMap ba)[i]:=by
  rw [getElem!_pos (flatK ba 2 (a6 xs).toArray) i hsF,←Array.getElem_toList]
  simp only [Gb]
 unfold putCells
 rw [Array.getElem?_mapIdx,Array.getElem?_eq_getElem hb]
 simp only [Option.map_some]
 rw [if_pos ⟨by omega,by omega⟩,show off+i - off=i by omega,id,e2]
end
end Go.Vc
set_option maxRecDepth 20000
namespace Go.Hs
open Go Go.Vc
theorem gM (xs:List (Int×Int)):(a6 xs).Perm xs:=List.mergeSort_perm ..
theorem mg (xs:List (Int×Int)):(a6 xs).Pairwise fun a b=>eX b a=false:=by
 have h:=List.pairwise_mergeSort (le:=fun x y:Int×Int=> !eX y x) (fun a b c h1 h2=>by
   simp only [Bool.not_eq_true',Bool.eq_false_iff,ne_eq,bB] at*;omega) (fun a b=>by
   simp only [Bool.or_eq_true,Bool.not_eq_true',Bool.eq_false_iff,ne_eq,bB];omega) xs
 exact h.imp fun {a b} h=>by simpa using h
theorem vS {a b:Int×Int} (h:a≠b) (h2:eX b a=false):eX a b=true:=by
 rw [bB]
 rw [Bool.eq_false_iff,ne_eq,bB] at h2
 have: ¬(a.1=b.1∧a.2=b.2):=fun e=>h (Prod.ext e.1 e.2)
 omega
theorem za {xs:List (Int×Int)} (hn:xs.Nodup):(a6 xs).Pairwise fun a b=>eX a b=true:=by
 have h1:=mg xs
 have h2:(a6 xs).Nodup:=(gM xs).nodup_iff.2 hn
 exact (h1.and h2).imp fun {a b} h=>vS h.2 h.1
theorem lD (a:Int×Int):eX a a=false:=by rw [Bool.eq_false_iff,ne_eq,bB];omega
theorem Fw {a b:Int×Int} (h:eX a b=true):eX b a=false:=by rw [Bool.eq_false_iff,ne_eq,bB];rw [bB] at h;omega
theorem jN: ∀{S:List (Int×Int)},S.Pairwise (fun a b=>eX a b=true)→∀(j:Nat) (hj:j<S.length),S.countP (fun x=>eX x S[j])=j
 | [],_,j,hj=>by simp at hj
 |a::S,h,0,_=>by
  rw [List.pairwise_cons] at h
  rw [List.countP_cons,List.getElem_cons_zero,lD,List.countP_eq_zero.2 fun x hx=>by rw [Fw (h.1 x hx)];decide]
  rfl
 |a::S,h,j+1,hj=>by
  rw [List.pairwise_cons] at h
  have hj':j<S.length:=by simpa using hj
  rw [List.countP_cons,List.getElem_cons_succ,jN h.2 j hj',h.1 _ (List.getElem_mem hj')]
  rfl
theorem qO {S:List (Int×Int)} (h:S.Pairwise (fun a b=>eX a b=true)) {x:Int×Int} (hx:x∈S): ∃hj:S.countP (fun y=>eX y x)<S.length,S[S.countP (fun y=>eX y x)]=x:=by
 obtain ⟨j,hj,rfl⟩:=List.getElem_of_mem hx
 have:=jN h j hj
 exact ⟨by omega,by simp only [this]⟩
def fi {α:Type} [DecidableEq α] (acc:List α) (t:α):List α:=if t∈acc then acc else acc++ [t]
def bS {α:Type} [DecidableEq α] (l:List α):List α:=l.foldl fi []
theorem Io {α:Type} [DecidableEq α] {acc:List α} {t x:α}:x∈fi acc t↔x∈acc∨x=t:=by
 unfold fi
 split
 ·rename_i h
  constructor
  ·exact .inl
  ·rintro (h1|rfl)
   ·exact h1
   ·exact h
 ·simp
theorem zQ {α:Type} [DecidableEq α] (l:List α) (t:α):bS (l++ [t])=fi (bS l) t:=by simp [bS]
theorem qv {α:Type} [DecidableEq α]: ∀(l acc:List α) (x:α),x∈l.foldl fi acc↔x∈acc∨x∈l
 | [],acc,x=>by simp
 |t::l,acc,x=>by
  rw [List.foldl_cons,qv l,Io,List.mem_cons,or_assoc]
theorem pA {α:Type} [DecidableEq α] {l:List α} {x:α}:x∈bS l↔x∈l:=by
 rw [bS,qv];simp
end Go.Hs
set_option maxRecDepth 20000
namespace Go.Bw
open Go Go.Vc Go.Rk Go.Hs
theorem s7:SO eX:=⟨lD,fun a b c h1 h2=>by rw [bB] at*;omega,fun a b c h1 h2=>by
 rw [Bool.eq_false_iff] at*;simp only [ne_eq,bB] at*;omega⟩
theorem Bs (dom:List (Int×Int)):tO eX dom:=fun x _ y _ e=>by
 rw [bB,bB]
 have: ¬(x.1=y.1∧x.2=y.2):=fun h=>e (Prod.ext h.1 h.2)
 omega
def dd (l:List (Int×Int)):List (Int×Int):=bS (a6 l)
theorem nC {S:List (Int×Int)} {k:Nat} (hk:k<S.length):bS (S.take (k+1))=fi (bS (S.take k)) S[k]:=by
 rw [List.take_add_one,List.getElem?_eq_getElem hk]
 exact zQ _ _
theorem kz {S:List (Int×Int)} (hS:S.Pairwise fun a b=>eX b a=false): ∀k,k≤S.length→(bS (S.take k)).Pairwise fun a b=>eX a b=true
 |0,_=>List.Pairwise.nil
 |k+1,hk=>by
  have ih:=kz hS k (by omega)
  rw [nC (by omega)]
  unfold fi
  split
  ·exact ih
  ·rename_i hn
   refine List.pairwise_append.2 ⟨ih,by simp,fun a ha b hb=> ?_⟩
   rw [List.mem_singleton] at hb
   subst hb
   have ha2:=pA.1 ha
   obtain ⟨i,hi,e⟩:=List.getElem_of_mem ha2
   rw [List.length_take] at hi
   rw [List.getElem_take] at e
   have h1:=List.pairwise_iff_getElem.1 hS i k (by omega) (by omega) (by omega)
   rw [e] at h1
   exact vS (fun e=>hn (by rw [←e];exact ha)) h1
theorem mO (l:List (Int×Int)):(dd l).Pairwise fun a b=>eX a b=true:=by
 have:=kz (mg l) (a6 l).length (Nat.le_refl _)
 rwa [List.take_length] at this
theorem nV {l:List (Int×Int)} {p:Int×Int}:p∈dd l↔p∈l:=by unfold dd;rw [pA,(gM l).mem_iff]
def eo (l:List (Int×Int)) (p:Int×Int):Nat:=rk eX (dd l) p
theorem G5 {l:List (Int×Int)} {p q:Int×Int} (hp:p∈l) (hq:q∈l):eo l p<eo l q↔eX p q=true:=HX s7 (Bs _) (nV.2 hp) (nV.2 hq)
theorem G3 {l:List (Int×Int)} {p q:Int×Int} (hp:p∈l) (hq:q∈l) (h:eo l p=eo l q):p=q:=Dq s7 (Bs _) (nV.2 hp) (nV.2 hq) h
theorem Jr {l:List (Int×Int)} {p:Int×Int} (hp:p∈l): ∃h:eo l p<(dd l).length,(dd l)[eo l p]=p:=qO s7 (mO l) (nV.2 hp)
theorem nD {S:List (Int×Int)}: ∀k,k≤S.length→(bS (S.take k)).length≤k∧(k≤(bS (S.take k)).length→(S.take k).Nodup)
 |0,_=>⟨by simp [bS],fun _=>by simp⟩
 |k+1,hk=>by
  have ih:=nD k (by omega:k≤S.length)
  rw [nC (by omega)]
  unfold fi
  split
  ·exact ⟨by omega,fun h=>by omega⟩
  ·rename_i hn
   rw [List.length_append,List.length_singleton]
   refine ⟨by omega,fun h=> ?_⟩
   rw [List.take_add_one,List.getElem?_eq_getElem (by omega)]
   refine List.nodup_append.2 ⟨ih.2 (by omega),by simp,fun a ha b hb=> ?_⟩
   simp only [Option.toList_some,List.mem_singleton] at hb
   subst hb
   exact fun e=>hn (by rw [pA,←e];exact ha)
theorem HE {l:List (Int×Int)} (h:l.length≤(dd l).length):l.Nodup:=by
 have:=(nD (S:=a6 l) (a6 l).length (Nat.le_refl _)).2
 rw [List.take_length,iV] at this
 exact (gM l).nodup_iff.1 (this h)
theorem xf {l:List (Int×Int)} (h:l.Nodup):dd l=a6 l:=by
 have h2:(dd l).Perm (a6 l):=by
  have hdn:(dd l).Nodup:=(mO l).imp fun {a b} hab e=>by subst e;rw [lD] at hab;cases hab
  refine (List.perm_ext_iff_of_nodup hdn ((gM l).nodup_iff.2 h)).2 fun a=> ?_
  rw [nV,(gM l).mem_iff]
 exact mI s7 h2 (mO l) (za h)
theorem C3 {l:List (Int×Int)} (h:l.Nodup) (p:Int×Int):eo l p=rk eX l p:=by
 unfold eo rk
 rw [xf h,(gM l).countP_eq]
def key (t:List Nat) (h i:Nat):List Nat:=(t.drop i).take h
def oD (t:List Nat) (h:Nat) (f:Nat→Int×Int):Prop:= ∀i j,i≤t.length→j≤t.length→(eX (f i) (f j)=true↔lx (key t h i) (key t h j)=true)∧(f i=f j↔key t h i=key t h j)
def Qr (t:List Nat) (h:Nat) (r:Nat→Int):Prop:= ∀i j,i≤t.length→j≤t.length→(r i<r j↔lx (key t h i) (key t h j)=true)∧(r i=r j↔key t h i=key t h j)
def aI (t:List Nat) (f:Nat→Int×Int):List (Int×Int):=(List.range (t.length+1)).map f
theorem mR {t:List Nat} {f:Nat→Int×Int} {i:Nat} (hi:i≤t.length):f i∈aI t f:=List.mem_map.2 ⟨i,List.mem_range.2 (by omega),rfl⟩
theorem cx (t:List Nat) (f:Nat→Int×Int):(aI t f).length=t.length+1:=by simp [aI]
def cB (t:List Nat) (i:Nat):Int×Int:=if i<t.length then (1+(t.getD i 0:Int),0) else (0,0)
theorem fL {t:List Nat} {h i:Nat}:(key t h i).length=min h (t.length - i):=by unfold key;rw [List.length_take,List.length_drop]
theorem HA (t:List Nat):oD t 1 (cB t):=by
 intro i j hi hj
 have e1: ∀i,i<t.length→key t 1 i= [t.getD i 0]:=fun i hi=>by
  unfold key
  rw [lR hi];rfl
 have e0:key t 1 t.length= []:=by unfold key;rw [List.drop_length];rfl
 unfold cB
 rcases Nat.lt_or_ge i t.length with h1|h1<;>rcases Nat.lt_or_ge j t.length with h2|h2
 ·rw [if_pos h1,if_pos h2,e1 i h1,e1 j h2,bB,iQ]
  simp only [lx,Go.Vc.Gj,Bool.and_false,Bool.or_false,decide_eq_true_eq,Prod.mk.injEq,List.cons.injEq,and_true]
  omega
 ·have:j=t.length:=by omega
  subst this
  rw [if_pos h1,if_neg (by omega),e1 i h1,e0,bB,og]
  simp only [Prod.mk.injEq]
  refine ⟨?_,?_⟩
  ·simp;omega
  ·simp;omega
 ·have:i=t.length:=by omega
  subst this
  rw [if_neg (by omega),if_pos h2,e1 j h2,e0,bB]
  simp only [Prod.mk.injEq]
  refine ⟨?_,?_⟩
  ·simp [lx,Go.Vc.Gj];omega
  ·simp;omega
 ·have:i=t.length:=by omega
  have:j=t.length:=by omega
  subst this
  obtain rfl:i=t.length:=by omega
  rw [if_neg (by omega),e0,bB,og]
  simp
def dO (t:List Nat) (h:Nat) (r:Nat→Int) (i:Nat):Int×Int:=(r i,if i+h≤t.length then r (i+h) else -1)
theorem qQ (t:List Nat) (h i:Nat):key t (h+h) i=key t h i++key t h (i+h):=by
 unfold key
 rw [List.take_add,List.drop_drop]
theorem DN {t:List Nat} {h i j:Nat} (hi:i≤t.length) (hj:j≤t.length) (he:key t h i=key t h j) (hne:i≠j):i+h≤t.length∧j+h≤t.length:=by
 have:=congrArg List.length he
 rw [fL,fL] at this
 omega
theorem HN {t:List Nat} {h i:Nat} (hh:t.length≤i+h):key t h (i+h)= []:=by
 unfold key
 rw [List.drop_eq_nil_of_le hh];simp
theorem Ht {t:List Nat} {h:Nat} {r:Nat→Int} (hr:Qr t h r):oD t (h+h) (dO t h r):=by
 intro i j hi hj
 obtain ⟨h1,h2⟩:=hr i j hi hj
 rw [qQ,qQ]
 by_cases hij:i=j
 ·subst hij
  simp [lD,qK]
 by_cases he:key t h i=key t h j
 ·obtain ⟨g1,g2⟩:=DN hi hj he hij
  obtain ⟨h3,h4⟩:=hr (i+h) (j+h) g1 g2
  have hre:=h2.2 he
  rw [←he,CV]
  unfold dO
  rw [if_pos g1,if_pos g2,bB]
  simp only [Prod.mk.injEq,List.append_cancel_left_eq]
  rw [←h3,←h4]
  omega
 ·have hre:r i≠r j:=fun e=>he (h2.1 e)
  have hl: ∀{a b:Nat},a≤t.length→(key t h a).length<(key t h b).length→key t h (a+h)= []:=fun {a b} ha hlt=>by
   rw [fL,fL] at hlt
   exact HN (by omega)
  rw [xU _ _ _ _ he (hl hi) (hl hj),←h1]
  unfold dO
  rw [bB]
  simp only [Prod.mk.injEq]
  refine ⟨by omega,⟨fun e=>absurd e.1 hre,fun e=> ?_⟩⟩
  exfalso
  have hlen:=congrArg List.length e
  apply he
  have e1:(key t h i++key t h (i+h)).take h=key t h i∧(key t h j++key t h (j+h)).take h=key t h j:=by
   rw [←qQ,←qQ]
   unfold key
   rw [List.take_take,List.take_take,Nat.min_eq_left (by omega)]
   exact ⟨rfl,rfl⟩
  rw [←e1.1,←e1.2,e]
theorem G1 {t:List Nat} {h:Nat} {f:Nat→Int×Int} (hf:oD t h f):Qr t h fun i=>(eo (aI t f) (f i):Int):=by
 intro i j hi hj
 obtain ⟨h1,h2⟩:=hf i j hi hj
 have h3:=G5 (mR (f:=f) hi) (mR (f:=f) hj)
 rw [←h1,←h2]
 dsimp only
 refine ⟨by rw [←h3];omega,⟨fun e=>G3 (mR (f:=f) hi) (mR (f:=f) hj) (by omega),fun e=>by rw [e]⟩⟩
theorem te {t:List Nat} {f:Nat→Int×Int} (hd: ∀i j,i≤t.length→j≤t.length→f i=f j→i=j):(aI t f).Nodup:=by
 refine List.pairwise_map.2 (List.Pairwise.imp_of_mem (fun {a b} ha hb hab e=> ?_) List.nodup_range)
 rw [List.mem_range] at ha hb
 exact hab (hd a b (by omega) (by omega) e)
theorem EE {t:List Nat} {h:Nat} {f:Nat→Int×Int} (hf:oD t h f) (hd:(dd (aI t f)).length<t.length+1):h≤t.length:=by
 rcases Nat.lt_or_ge t.length h with hh|hh
 ·exfalso
  have hn:(aI t f).Nodup:=te fun i j hi hj e=>by
   have:=((hf i j hi hj).2).1 e
   have:=congrArg List.length this
   rw [fL,fL] at this
   omega
  rw [xf hn,iV,cx] at hd
  omega
 ·exact hh
theorem done {t:List Nat} {h:Nat} {f:Nat→Int×Int} (hf:oD t h f) (hd:t.length+1≤(dd (aI t f)).length) {i:Nat} (hi:i≤t.length):eo (aI t f) (f i)=eZ t i:=by
 have hn:(aI t f).Nodup:=HE (by rw [cx];exact hd)
 have hinj: ∀a b,a≤t.length→b≤t.length→key t h a=key t h b→a=b:=fun a b ha hb e=>by
  have hfe:=((hf a b ha hb).2).2 e
  have hp:=List.pairwise_map.1 hn
  rcases Nat.lt_trichotomy a b with h1|h1|h1
  ·have:=List.pairwise_iff_getElem.1 hp a b (by simp;omega) (by simp;omega) h1
   simp only [List.getElem_range] at this
   exact absurd hfe this
  ·exact h1
  ·have:=List.pairwise_iff_getElem.1 hp b a (by simp;omega) (by simp;omega) h1
   simp only [List.getElem_range] at this
   exact absurd hfe.symm this
 rw [C3 hn]
 unfold rk eZ rk aI rows
 rw [List.countP_map]
 refine List.countP_congr fun j hj=> ?_
 rw [List.mem_range] at hj
 simp only [Function.comp]
 rw [(hf j i (by omega) hi).1]
 unfold sl
 by_cases hij:j=i
 ·subst hij;rw [qK,qK]
 ·have hne:key t h j≠key t h i:=fun e=>hij (hinj j i (by omega) hi e)
  have hs: ∀a,t.drop a=key t h a++t.drop (a+h):=fun a=>by
   unfold key
   rw [←List.drop_drop,List.take_append_drop]
  rw [hs j,hs i,xU _ _ _ _ hne]
  ·intro hlt
   rw [fL,fL] at hlt
   exact List.drop_eq_nil_of_le (by omega)
  ·intro hlt
   rw [fL,fL] at hlt
   exact List.drop_eq_nil_of_le (by omega)
end Go.Bw
set_option maxRecDepth 20000
namespace Go.Bw
open Go.Rk
def fu (last:List Nat) (c:Nat):Nat:=last.countP fun x=>decide (x<c)
theorem Ek (last:List Nat):fu last 0=0:=by unfold fu;rw [List.countP_eq_zero];intro x _;simp
theorem vL (c:Nat): ∀last:List Nat,fu last (c+1)=fu last c+last.count c
 | []=>rfl
 |x::last=>by
  have ih:=vL c last
  unfold fu at ih⊢
  rw [List.countP_cons,List.countP_cons,List.count_cons,ih]
  by_cases h1:x<c
  ·rw [if_pos (by simp;omega),if_pos (by simp [h1]),if_neg (by simp;omega)];omega
  ·by_cases h2:x=c
   ·rw [if_pos (by simp;omega),if_neg (by simp [h1]),if_pos (by simp [h2])];omega
   ·rw [if_neg (by simp;omega),if_neg (by simp [h1]),if_neg (by simp [h2])];omega
theorem B3 (l:List Nat):l=(List.range l.length).map fun i=>l.getD i 0:=by
 apply List.ext_getElem (by simp)
 intro i h1 h2
 simp [List.getD,h1]
theorem tC (l:List Nat) (p:Nat→Bool):(List.range l.length).countP (fun i=>p (l.getD i 0))=l.countP p:=by
 conv=>rhs;rw [B3 l,List.countP_map]
 rfl
theorem Az (q:Nat→Bool) (a:Nat): ∀n,a≤n→(List.range n).countP (fun i=>q i&&decide (i<a))=(List.range a).countP q
 |n,h=>by
  induction n with
  |zero=>obtain rfl:a=0:=by omega
         rfl
  |succ n ih=>
   rw [List.range_succ,List.countP_append,List.countP_cons,List.countP_nil]
   by_cases e:a=n+1
   ·subst e
    rw [List.range_succ,List.countP_append,List.countP_cons,List.countP_nil]
    congr 1
    ·refine List.countP_congr fun i hi=> ?_
     rw [List.mem_range] at hi
     simp;omega
    ·congr 1;simp
   ·rw [ih (by omega)];simp;omega
theorem CC (l:List Nat) (c a:Nat) (h:a≤l.length):(l.take a).count c=(List.range a).countP fun i=>l.getD i 0==c:=by
 have:=tC (l.take a) (fun x=>x==c)
 rw [List.length_take,Nat.min_eq_left h] at this
 show (l.take a).countP (·==c)=_
 rw [←this]
 refine List.countP_congr fun i hi=> ?_
 rw [List.mem_range] at hi
 simp only [List.getD,List.getElem?_take_of_lt hi]
def I4 (last:List Nat) (a k:Nat):Nat:=(List.range k).countP fun i=>pl last i a
theorem JB (last:List Nat) (a:Nat):nx last a=1+I4 last a last.length:=rfl
theorem vV {α:Type} (p q:α→Bool) (h: ∀x,p x=true→q x=false): ∀l:List α,l.countP (fun x=>p x||q x)=l.countP p+l.countP q
 | []=>rfl
 |x::l=>by
  rw [List.countP_cons,List.countP_cons,List.countP_cons,vV p q h l]
  cases hp:p x with
  |true=>rw [h x hp];simp;omega
  |false=>simp;omega
theorem D2 {last:List Nat} {a:Nat} (ha:a<last.length):nx last a=fu last (last.getD a 0)+(last.take a).count (last.getD a 0)+1:=by
 have e1:I4 last a last.length=fu last (last.getD a 0)+(last.take a).count (last.getD a 0):=by
  unfold I4
  have:(List.range last.length).countP (fun i=>pl last i a)=(List.range last.length).countP fun i=>(decide (last.getD i 0<last.getD a 0)||(last.getD i 0==last.getD a 0&&decide (i<a))):=rfl
  rw [this,vV (fun i=>decide (last.getD i 0<last.getD a 0)) (fun i=>(last.getD i 0==last.getD a 0&&decide (i<a))) fun i h=>by
   have:=of_decide_eq_true h
   rw [show (last.getD i 0==last.getD a 0)=false from beq_eq_false_iff_ne.2 (by omega)];rfl]
  rw [Az (fun i=>last.getD i 0==last.getD a 0) a _ (by omega),←CC _ _ _ (by omega)]
  congr 1
  exact tC last fun x=>decide (x<last.getD a 0)
 rw [JB,e1];omega
theorem Ga {index row:Nat} (hne:row≠index):bw index (row+1)=bw index row+1:=by unfold bw;split<;>split<;>omega
theorem EX (index:Nat):bw index (index+1)=bw index index:=by unfold bw;rw [if_pos (by omega),if_neg (by omega)];omega
theorem FG {last T:List Nat} {index:Nat} (hl:T.length=last.length) (h: ∀k,k<last.length→T.getD (last.length - 1 - k) 0=last.getD (bw index (wk last index k)) 0):T=cc last index:=by
 apply List.ext_getElem (by rw [mL,hl])
 intro i h1 h2
 have e1:=h (last.length - 1 - i) (by omega)
 have e2:=vK (last:=last) (index:=index) (k:=last.length - 1 - i) (by omega)
 rw [show last.length - 1 - (last.length - 1 - i)=i by omega] at e1 e2
 rw [←e2] at e1
 simpa [List.getD,h1,h2] using e1
theorem xq {last:List Nat} (h:0<last.length): ¬okB last 0:=fun ⟨_,h2,_⟩=>h2 0 h rfl
end Go.Bw
set_option maxRecDepth 20000
namespace Go.Vc
open Go
theorem uK {P:Program} {t e:TypeId} {z:Value} {n bytes:Nat} {E w:World} {F:List HP} {K:Sl→World→Prop} (ht:P.underlying t=some (.slice e)) (hi: ∃i,P.info? e=some i∧i.zero=some z∧i.size=1∧i.bytes=bytes) (hz:z.cells= #[z])
  (hn:n≤1000000) (hb:bytes≤8) (h:Hp E w F) (hK: ∀s w',s.len=n→Hp E w' (ah 1 s (List.replicate n z)::F)→K s w'):aA P (Instr.makeSlice t (.int .i64 (n:Int)) (.int .i64 (n:Int))) kS w K:=by
 obtain ⟨i,h1,h2,h3,h4⟩:=hi
 have hbn:bytes*n≤8*n:=Nat.mul_le_mul_right _ hb
 have hbb:((bytes:Int)*(n:Int))≤281474976710656:=by
  have:((bytes:Int)*(n:Int))=((bytes*n:Nat):Int):=by simp
  omega
 have hm:=run_makeSlice (w:=w) t e i z ht h1 h2 .i64 .i64 (n:Int) (n:Int) (by omega) (by omega) (by rw [h3,Int.toNat_natCast];omega) (by rw [h4];exact hbb) (by omega)
 unfold aA
 rw [hm]
 have hc:madeCells z.cells (n*1)=⟨List.replicate n z⟩:=by
  unfold madeCells
  rw [hz,Nat.mul_one]
  apply Array.ext
  ·simp
  ·intro j h1 h2
   simp [Nat.mod_one]
 rw [h3,Int.toNat_natCast,hc]
 refine hK ⟨some ⟨w.heap.size,0,none⟩,n,n⟩ _ rfl ?_
 have:=(h.alloc (.cells ⟨List.replicate n z⟩ e)).fC (n:=n) (sz:=1) (by simp)
 exact this
theorem Hh {P:Program} {t e:TypeId} {α:Type} {g:α→List Value} {x:α} {z:Value} {n sz bytes:Nat} {E w:World} {F:List HP} {K:Sl→World→Prop} (ht:P.underlying t=some (.slice e)) (hi: ∃i,P.info? e=some i∧i.zero=some z∧i.size=sz∧i.bytes=bytes) (hz:z.cells=⟨g x⟩) (hg: ∀x,(g x).length=sz) (h0:0<sz)
  (hn:n*sz≤1000000) (hb:bytes≤8*sz) (h:Hp E w F) (hK: ∀s w',s.len=n→Hp E w' (ah sz s ((List.replicate n x).flatMap g)::F)→K s w'):aA P (Instr.makeSlice t (.int .i64 (n:Int)) (.int .i64 (n:Int))) kS w K:=by
 obtain ⟨i,h1,h2,h3,h4⟩:=hi
 have hn1:n≤n*sz:=Nat.le_mul_of_pos_right _ h0
 have hbn:bytes*n≤8*sz*n:=Nat.mul_le_mul_right _ hb
 have hbn2:8*sz*n=8*(n*sz):=by rw [Nat.mul_assoc,Nat.mul_comm sz n]
 have hbb:((bytes:Int)*(n:Int))≤281474976710656:=by
  have:((bytes:Int)*(n:Int))=((bytes*n:Nat):Int):=by simp
  omega
 have hm:=run_makeSlice (w:=w) t e i z ht h1 h2 .i64 .i64 (n:Int) (n:Int) (by omega) (by omega) (by rw [h3,Int.toNat_natCast];omega) (by rw [h4];exact hbb) (by omega)
 unfold aA
 rw [hm]
 have hc:madeCells z.cells (n*sz)=⟨(List.replicate n x).flatMap g⟩:=by
  unfold madeCells
  rw [hz]
  apply Array.ext'
  apply List.ext_getElem?
  intro j
  have hfl:=cE hg (List.replicate n x)
  rw [List.length_replicate] at hfl
  by_cases hj:j<n*sz
  ·have hdj:j/sz<n:=by rw [Nat.div_lt_iff_lt_mul h0];exact hj
   have hmj:j/sz*sz+j % sz=j:=Nat.div_add_mod' j sz
   have:=ic hg (List.replicate n x) (j/sz) (j % sz) (by simpa using hdj) (Nat.mod_lt _ h0)
   rw [hmj] at this
   show _=((List.replicate n x).flatMap g)[j]?
   rw [this,List.getElem_replicate]
   have hm2:j % sz<(g x).length:=by rw [hg];exact Nat.mod_lt _ h0
   simp only [Array.toList_map,Array.toList_range,List.getElem?_map,List.getElem?_range hj,Option.map_some,List.size_toArray,hg]
   rw [List.getElem?_eq_getElem hm2]
   simp [hm2]
  ·rw [List.getElem?_eq_none (by simpa using hj),List.getElem?_eq_none (by simp only [hfl];omega)]
 rw [h3,Int.toNat_natCast,hc]
 refine hK ⟨some ⟨w.heap.size,0,none⟩,n,n⟩ _ rfl ?_
 exact (h.alloc (.cells ⟨(List.replicate n x).flatMap g⟩ e)).fC (n:=n) (sz:=sz) (by
  show ((List.replicate n x).flatMap g).length=_
  rw [cE hg,List.length_replicate])
end Go.Vc
set_option maxRecDepth 20000
namespace Go.Vc
open Go
def lZ (xs:List Value):Nat→List Value→List Value
 |_,[]=>xs
 |a,v::vs=>lZ (xs.set a v) (a+1) vs
theorem tv: ∀(vs xs:List Value) (a i:Nat),a+vs.length≤xs.length→(lZ xs a vs)[i]? =if a≤i∧i<a+vs.length then vs[i - a]? else xs[i]?
 | [],xs,a,i,_=>by rw [lZ,if_neg (by simp)]
 |v::vs,xs,a,i,h=>by
  simp only [List.length_cons] at h
  rw [lZ,tv vs _ _ _ (by rw [List.length_set];omega),List.length_cons,List.getElem?_set]
  by_cases h1:a=i
  ·subst h1
   rw [if_neg (by omega),if_pos rfl,if_pos (by omega),if_pos (by omega),Nat.sub_self]
   rfl
  ·by_cases h2:a+1≤i∧i<a+1+vs.length
   ·rw [if_pos h2,if_pos (by omega)]
    obtain ⟨d,rfl⟩: ∃d,i=a+1+d:=⟨i - (a+1),by omega⟩
    rw [show a+1+d - (a+1)=d by omega,show a+1+d - a=d+1 by omega,List.getElem?_cons_succ]
   ·rw [if_neg h2,if_neg h1,if_neg (by omega)]
section
variable {α:Type} {g:α→List Value} {sz:Nat}
theorem HV (hg: ∀x,(g x).length=sz) {l:List α} {j k:Nat} {v:Value} {x:α} (hj:j<l.length) (hk:k<sz) (hx:g x=(g l[j]).set k v):(l.flatMap g).set (j*sz+k) v=(l.set j x).flatMap g:=by
 have h0:0<sz:=by omega
 have hm:(j+1)*sz≤l.length*sz:=Nat.mul_le_mul_right _ hj
 rw [Nat.succ_mul] at hm
 apply List.ext_getElem?
 intro i
 have hfl:=cE hg l
 have hfl2:=cE hg (l.set j x)
 rw [List.length_set] at hfl2
 by_cases hi:i<l.length*sz
 ·obtain ⟨q,hq⟩: ∃q,i/sz=q:=⟨_,rfl⟩
  obtain ⟨r,hr⟩: ∃r,i % sz=r:=⟨_,rfl⟩
  have hdi:q<l.length:=by rw [←hq,Nat.div_lt_iff_lt_mul h0];exact hi
  have hmi:q*sz+r=i:=by rw [←hq,←hr];exact Nat.div_add_mod' i sz
  have hlt:r<sz:=by rw [←hr];exact Nat.mod_lt _ h0
  clear hq hr
  subst hmi
  have e1:=ic hg l q r hdi hlt
  have e2:=ic hg (l.set j x) q r (by rw [List.length_set];exact hdi) hlt
  have hd: ∀a b:Nat,b<sz→(a*sz+b)/sz=a:=fun a b hb=>by rw [Nat.mul_comm,Nat.mul_add_div h0,Nat.div_eq_of_lt hb,Nat.add_zero]
  have hmd: ∀a b:Nat,b<sz→(a*sz+b) % sz=b:=fun a b hb=>by rw [Nat.mul_comm,Nat.mul_add_mod,Nat.mod_eq_of_lt hb]
  rw [e2,List.getElem?_set,e1,List.getElem_set]
  by_cases hji:j=q
  ·subst hji
   rw [if_pos rfl,hx,List.getElem?_set,hg]
   by_cases hki:k=r
   ·subst hki
    rw [if_pos rfl,if_pos (by rw [hfl];omega),if_pos rfl,if_pos hk]
   ·rw [if_neg (by omega),if_neg hki]
  ·rw [if_neg hji,if_neg (fun e=>hji ((hd j k hk).symm.trans ((congrArg (fun y=>y/sz) e).trans (hd q r hlt))))]
 ·rw [List.getElem?_eq_none (by rw [List.length_set,hfl];omega),List.getElem?_eq_none (by rw [hfl2];omega)]
theorem Dt (hg: ∀x,(g x).length=sz) {l:List α} {j:Nat} {x:α} (h0:0<sz) (hj:j<l.length):lZ (l.flatMap g) (j*sz) (g x)=(l.set j x).flatMap g:=by
 have hm:(j+1)*sz≤l.length*sz:=Nat.mul_le_mul_right _ hj
 rw [Nat.succ_mul] at hm
 have hfl:=cE hg l
 have hfl2:=cE hg (l.set j x)
 rw [List.length_set] at hfl2
 apply List.ext_getElem?
 intro i
 rw [tv _ _ _ _ (by rw [hg,hfl];exact hm),hg]
 by_cases hi:i<l.length*sz
 ·have hdi:i/sz<l.length:=by rw [Nat.div_lt_iff_lt_mul h0];exact hi
  have hmi:i/sz*sz+i % sz=i:=Nat.div_add_mod' i sz
  have hlt:=Nat.mod_lt i h0
  have e1:=ic hg l (i/sz) (i % sz) hdi hlt
  have e2:=ic hg (l.set j x) (i/sz) (i % sz) (by rw [List.length_set];exact hdi) hlt
  rw [hmi] at e1 e2
  rw [e2,e1,List.getElem_set]
  by_cases hji:j=i/sz
  ·rw [if_pos hji,if_pos (by rw [hji];omega),show i - j*sz=i % sz by rw [hji];omega]
  ·rw [if_neg hji,if_neg]
   rintro ⟨h1,h2⟩
   apply hji
   obtain ⟨d,rfl⟩: ∃d,i=j*sz+d:=⟨i - j*sz,by omega⟩
   rw [Nat.mul_comm,Nat.mul_add_div h0,Nat.div_eq_of_lt (by omega),Nat.add_zero]
 ·rw [if_neg (by omega),List.getElem?_eq_none (by rw [hfl];omega),List.getElem?_eq_none (by rw [hfl2];omega)]
end
section
variable {E w:World} {F:List HP} {α:Type} {g:α→List Value} {sz:Nat} {s:Sl}
theorem St.wT {xs:List Value} {i j:Nat} {v:Value} {p:Addr} {K:World→Prop} (hh:Hp E w (ah sz s xs::F)) (hp:s.base=some p) (hi:i<s.len) (hj:j<sz) (hv:aw v=true) (h: ∀w',Hp E w' (ah sz s (xs.set (i*sz+j) v)::F)→K w'):St ((p.add (i*sz)).add j) v w K:=by
 obtain ⟨p',h1,_,_,h4⟩:=St.Ff (i:=(i:Int)) (K:=K) hh hj (by omega) (by omega) hv (by rw [Int.toNat_natCast];exact h)
 rw [hp] at h1
 obtain rfl:=Option.some.inj h1
 rw [Int.toNat_natCast] at h4
 exact h4
theorem ak.wT {i:Nat} {p:Addr} (hp:s.base=some p) (hi:i<s.len): ∀(vs:List Value) (k:Nat) {w:World} {xs:List Value} {K:World→Prop},Hp E w (ah sz s xs::F)→k+vs.length≤sz→(∀v∈vs,aw v=true)→
  (∀w',Hp E w' (ah sz s (lZ xs (i*sz+k) vs)::F)→K w')→ak (p.add (i*sz)) vs k w K
 | [],_,w,_,_,hh,_,_,h=>h w hh
 |v::vs,k,w,xs,K,hh,hk,hv,h=>by
  simp only [List.length_cons] at hk
  refine St.wT (K:=fun w'=>ak (p.add (i*sz)) vs (k+1) w' K) hh hp hi (by omega) (hv v (by simp)) fun w' h'=> ?_
  exact ak.wT hp hi vs (k+1) h' (by omega) (fun x hx=>hv x (List.mem_cons_of_mem _ hx)) fun w'' h''=>h w'' (by rw [lZ];exact h'')
theorem ao.Ji {l:List α} {i:Int} {j:Nat} {x:α} {K:World→Prop} (hg: ∀x,(g x).length=sz) (h0:0<sz) (hh:Hp E w (ah sz s (l.flatMap g)::F)) (hi:i=(j:Int)) (hj:j<l.length) (hv: ∀v∈g x,aw v=true)
  (h: ∀w',Hp E w' (ah sz s ((l.set j x).flatMap g)::F)→K w'):ao s i sz fun q=>ak q (g x) 0 w K:=by
 subst hi
 have hlen:=aC.len hg h0 (hh.ag ab.own)
 rcases hh.lF with ⟨rfl,h1,_⟩|⟨b,off,arr,t,e1,_,_,_,_⟩
 ·have:l.length=0:=by simpa using hlen.symm
  omega
 ·refine ⟨_,e1,by omega,by omega,?_⟩
  rw [Int.toNat_natCast]
  exact ak.wT e1 (by omega) (g x) 0 hh (by rw [hg];omega) hv fun w' h'=>h w' (by rw [Nat.add_zero,Dt hg h0 hj] at h';exact h')
theorem ao.setCell {l:List α} {i:Int} {j k:Nat} {v:Value} {x:α} {K:World→Prop} (hg: ∀x,(g x).length=sz) (h0:k<sz) (hh:Hp E w (ah sz s (l.flatMap g)::F)) (hi:i=(j:Int)) (hj:j<l.length) (hv:aw v=true) (hx:g x=(g l[j]).set k v)
  (h: ∀w',Hp E w' (ah sz s ((l.set j x).flatMap g)::F)→K w'):ao s i sz fun q=>St (q.add k) v w K:=by
 subst hi
 have hlen:=aC.len hg (by omega) (hh.ag ab.own)
 refine St.Ff hh h0 (by omega) (by omega) hv fun w' h'=>h w' ?_
 rw [Int.toNat_natCast,HV hg hj h0 hx] at h'
 exact h'
end
end Go.Vc
set_option maxRecDepth 20000
namespace Go.Vc
open Go
theorem tT {P:Program} {t ty e e2:TypeId} {E w:World} {F:List HP} {s:Sl} {bs:List Nat} {x:Nat} {cs:Array Value} {K:Sl→World→Prop} (he:cp P t e 1 1) (hcs:cs=⟨[vB x]⟩) (hh:Hp E w (ah 1 s (bs.map vB)::F)) (hb:bs.length≤cf)
  (h: ∀s' w',Hp E w' (ah 1 s' ((bs++ [x]).map vB)::F)→s'.len=bs.length+1→K s' w'):
  Nw e2 cs w fun b w1=>aA P (Builtin.append_ #[t,t] ty ⟨[.slice s.base s.len s.cap,.slice (some ⟨b,0,none⟩) 1 1]⟩) kS w1 K:=by
 have hl:=hh.aO
 rw [List.length_map,Nat.mul_one] at hl
 rw [av] at hb
 refine Nw.mk hh fun b w1 h1=>aM (ys:= [vB x]) (n:=1) he (by decide) (.inl ⟨e,he.und⟩) h1.p1 (.inl ⟨some ⟨b,0,none⟩,1,1,rfl,rfl,h1.ag (ab.aD (by rw [hcs]) rfl)⟩) rfl (fun y hy=>by
  rw [List.mem_singleton] at hy;subst hy;rfl) (by omega) (by omega) fun s' w2 h2 hs'=>h s' w2 ?_ (by omega)
 rw [List.map_append]
 exact h2.p1.drop
end Go.Vc
namespace Go.Proofs.YtcdpblipagajiaaGreat
open Go Go.Vc Go.Bw
theorem tP:cp Tryz.prog 22 5 1 1:= .of (by kernel_rfl) (by kernel_rfl)
theorem A3: ∃i,Tryz.prog.info? 3=some i∧i.zero=some (.int .i64 0)∧i.size=1∧i.bytes=8:=by
 have h:(Tryz.prog.info? 3).map (fun i=>(i.zero,i.size,i.bytes))=some (some (.int .i64 0),1,8):=by kernel_rfl
 obtain ⟨i,h1,h2⟩:=Option.map_eq_some_iff.1 h
 simp only [Prod.mk.injEq] at h2
 exact ⟨i,h1,h2⟩
theorem G0: ∃i,Tryz.prog.info? 5=some i∧i.zero=some (.int .u8 0)∧i.size=1∧i.bytes=1:=by
 have h:(Tryz.prog.info? 5).map (fun i=>(i.zero,i.size,i.bytes))=some (some (.int .u8 0),1,1):=by kernel_rfl
 obtain ⟨i,h1,h2⟩:=Option.map_eq_some_iff.1 h
 simp only [Prod.mk.injEq] at h2
 exact ⟨i,h1,h2⟩
theorem Ep {n:Nat}:List.replicate n (Value.int .i64 0)=(List.replicate n (0:Int)).map vI:=by simp [vI]
theorem q8 (n i:Nat):(List.replicate n (0:Int)).getD i 0=0:=by
 simp only [List.getD,List.getElem?_replicate]
 split<;>rfl
theorem IL {n:Nat}:List.replicate n (Value.int .u8 0)=(List.replicate n (0:Nat)).map vB:=by simp [vB]
section
variable {E w:World} {F:List HP}
def ti (t:List Nat) (i k:Int):Bool:=decide (0≤i∧i≤t.length∧0≤k∧k≤t.length)&&sl t i.toNat k.toNat
def wU (m:Nat) (index row:Int):Prop:=0≤index∧index≤m∧0≤row∧row≤m∧row≠index
theorem AM {m:Nat} {s:Sl} {index row:Int} {K:Int→Bool→World→Prop} (hm:s.len=m) (hbig:m≤cf) (h1:wU m index row→K (bw index.toNat row.toNat:Int) true w) (h2: ¬wU m index row→K 0 false w):
  Cl Tryz.prog [kI,kB] j7 ⟨[.slice s.base s.len s.cap,.int .i64 index,.int .i64 row]⟩ w K:=by
 refine Ei.ok _ _ _ _ _ ?_
 subst hm
 rw [av] at hbig
 unfold wU at h1 h2
 refine aa.mk (fun g=>h2 (by have:=of_decide_eq_true g;omega)) (fun g1=>aa.mk (fun g=>h2 (by have:=of_decide_eq_true g;omega)) (fun g2=>aa.mk (fun g=>h2 (by have:=of_decide_eq_true g;omega)) (fun g3=>aa.mk (fun g=>h2 (by have:=of_decide_eq_true g;omega)) (fun g4=>aa.mk (fun g=>h2 (by have:=beq_iff_eq.1 g;omega)) (fun g5=> ?_)))))
 have g1:=of_decide_eq_false g1
 have g2:=of_decide_eq_false g2
 have g3:=of_decide_eq_false g3
 have g4:=of_decide_eq_false g4
 have g5:=beq_eq_false_iff_ne.1 g5
 have hk:=h1 (by omega)
 refine aa.mk (fun g=> ?_) (fun g=> ?_)
 ·have g:=of_decide_eq_true g
  have e:(bw index.toNat row.toNat:Int)=row - 1:=by unfold bw;rw [if_pos (by omega)];omega
  rw [ad (by omega),←e];exact hk
 ·have g:=of_decide_eq_false g
  have e:(bw index.toNat row.toNat:Int)=row:=by unfold bw;rw [if_neg (by omega)];omega
  rw [←e];rw [e] at hk⊢;exact hk
theorem yy {m:Nat} {index row:Int} (h:wU m index row):bw index.toNat row.toNat<m:=by
 obtain ⟨h1,h2,h3,h4,h5⟩:=h
 unfold bw;split<;>omega
def lf (last:List Nat) (index:Nat):List Int:=(List.range (last.length+1)).map fun r=>if r=index then 0 else (nx last (bw index r):Int)
theorem vu (last:List Nat) (index:Nat):(lf last index).length=last.length+1:=by simp [lf]
theorem vT {last:List Nat} {index r:Nat} (hr:r≤last.length) (hne:r≠index):(lf last index).getD r 0=(nx last (bw index r):Int):=by
 unfold lf
 simp [List.getD,show r<last.length+1 by omega,hne]
set_option maxRecDepth 20000 in
theorem Fo {last:List Nat} {s:Sl} {index:Nat} {K:Sl→World→Prop} (h:Hp E w F) (hs:ab F (aC 1 s (last.map vB))) (hb: ∀x∈last,x<256) (hn:last.length≤900000) (hi:index≤last.length)
  (hK: ∀s' w',Hp E w' (ah 1 s' ((lf last index).map vI)::F)→K s' w'):Cl Tryz.prog [kS] my ⟨[.slice s.base s.len s.cap,.int .i64 (index:Int)]⟩ w K:=by
 refine B8.ok _ _ _ _ ?_
 rw [Vc.rf]
 have hl:=(h.ag hs).1
 simp only [List.length_map,Nat.mul_one] at hl
 have hg: ∀k,k<last.length→last.getD k 0<256:=fun k hk=>by
  rw [List.getD,List.getElem?_eq_getElem hk]
  exact hb _ (List.getElem_mem hk)
 have hcl: ∀(k c:Nat),(last.take k).count c≤last.length:=fun k c=>by
  refine Nat.le_trans List.count_le_length ?_
  rw [List.length_take];omega
 have hcc: ∀c:Nat,fu last c≤last.length:=fun c=>List.countP_le_length
 refine Nw.mk h fun b4 w1 h1=> ?_
 refine ⟨fun i w'=> ∃(k:Nat) (u:List Int),i=(k:Int)∧k≤last.length∧u.length=257∧(u.getD 0 0=0∧∀c,c<256→u.getD (c+1) 0=((last.take k).count c:Int))∧Hp E w' (aj b4 (.cells (Vc.aT u) 212 (0,0))::F),fun i _=>last.length - i.toNat,
  ⟨0,_,rfl,by omega,List.length_replicate,⟨q8 ..,fun c hc=>by rw [q8];simp⟩,h1⟩,?_⟩
 rintro i w2 ⟨k,u,rfl,hk,hul,hu,h2⟩
 refine aa.mk (fun hlt=> ?_) (fun hge=> ?_)
 ·have hlt:k<last.length:=by have:=of_decide_eq_true hlt;omega
  have hx:=hg k hlt
  have hq:=hu.2 (last.getD k 0) hx
  have hcb:=hcl k (last.getD k 0)
  refine ao.nB (h2.ag (ab.cons hs)) rfl hlt ?_
  rw [ad (x:=(last.getD k 0:Int)) (by omega),ad (x:=(last.getD k 0:Int)+1) (by omega)]
  refine aB.aT (j:=last.getD k 0+1) h2 (by omega) hul (by omega) (aB.qW (j:=last.getD k 0+1) h2 (by omega) hul (by omega) fun w3 h3=> ?_)
  rw [ad (x:=(k:Int)+1) (by omega)]
  refine ⟨⟨k+1,_,by omega,by omega,by rw [List.length_set];exact hul,⟨?_,fun c hc=> ?_⟩,h3⟩,by dsimp only;omega⟩
  ·rw [dj (by omega),if_neg (by omega)];exact hu.1
  ·rw [dj (by omega),List.take_add_one,List.getElem?_eq_getElem hlt,List.count_append]
   have e:last.getD k 0=last[k]:=by simp [List.getD,hlt]
   by_cases ec:c=last.getD k 0
   ·subst ec
    rw [if_pos rfl,hq,ad (by omega),e];simp
   ·rw [if_neg (by omega),hu.2 c hc]
    have:List.count c (some last[k]).toList=0:=by
     rw [List.count_eq_zero]
     simp only [Option.toList_some,List.mem_singleton]
     rw [←e];exact ec
    rw [this];simp
 have hge:k=last.length:=by have:=of_decide_eq_false hge;omega
 subst hge
 rw [List.take_length] at hu
 refine ⟨fun i w'=> ∃(k:Nat) (u:List Int),i=(k:Int)∧k≤256∧u.length=257∧(∀c,c≤k→u.getD c 0=(fu last c:Int))∧(∀c,k<c+1→c<256→u.getD (c+1) 0=(last.count c:Int))∧Hp E w' (aj b4 (.cells (Vc.aT u) 212 (0,0))::F),fun i _=>256 - i.toNat,
  ⟨0,u,rfl,by omega,hul,fun c hc=>by obtain rfl:c=0:=by omega
                                     rw [hu.1,Ek];rfl,fun c _ hc=>hu.2 c hc,h2⟩,?_⟩
 rintro i w3 ⟨k,v,rfl,hk,hvl,hv1,hv2,h3⟩
 refine aa.mk (fun hlt=> ?_) (fun hge=> ?_)
 ·have hlt:k<256:=by have:=of_decide_eq_true hlt;omega
  refine aq.mk h3 fun w4 h4=> ?_
  rw [ad (x:=(k:Int)+1) (by omega)]
  have e1:=hv2 k (by omega) hlt
  have e2:=hv1 k (by omega)
  have e3:=vL k last
  have e4:=hcc (k+1)
  refine aB.aT (j:=k+1) h4 (by omega) hvl (by omega) (aB.aT (j:=k) h4 rfl hvl (by omega) (aB.qW (j:=k+1) h4 (by omega) hvl (by omega) fun w5 h5=> ?_))
  refine ⟨⟨k+1,_,by omega,by omega,by rw [List.length_set];exact hvl,fun c hc=> ?_,fun c hc1 hc2=> ?_,h5⟩,by dsimp only;omega⟩
  ·rw [dj (by omega)]
   by_cases ec:c=k+1
   ·subst ec
    rw [if_pos rfl,e1,e2,ad (by omega),e3];omega
   ·rw [if_neg ec];exact hv1 c (by omega)
  ·rw [dj (by omega),if_neg (by omega)]
   exact hv2 c (by omega) hc2
 have hge:k=256:=by have:=of_decide_eq_false hge;omega
 subst hge
 rw [show i64 ((s.len:Int)+1)=((last.length+1:Nat):Int) by rw [ad (by omega)];omega]
 refine uK (by kernel_rfl) A3 rfl (by omega) (by decide) h3 fun s27 w4 hs27 h4=> ?_
 rw [Ep] at h4
 refine ⟨fun i w'=> ∃(k:Nat) (v out:List Int),i=(k:Int)∧k≤last.length+1∧v.length=257∧(∀c,c<256→v.getD c 0=(fu last c:Int)+((last.take (bw index k)).count c:Int))∧out.length=last.length+1∧
   (∀r,r<k→out.getD r 0=(lf last index).getD r 0)∧(∀r,k≤r→out.getD r 0=0)∧Hp E w' (ah 1 s27 (out.map vI)::aj b4 (.cells (Vc.aT v) 212 (0,0))::F),fun i _=>last.length+1 - i.toNat,
  ⟨0,v,_,rfl,by omega,hvl,fun c hc=>by rw [hv1 c (by omega)];simp [bw],List.length_replicate,fun r hr=>by omega,fun r _=>by simp only [List.getD,List.getElem?_replicate];split<;>rfl,h4⟩,?_⟩
 rintro i w5 ⟨k,v,out,rfl,hk,hvl,hv,hol,ho1,ho2,h5⟩
 refine aa.mk (fun hlt=> ?_) (fun hge=> ?_)
 ·have hlt:k<last.length+1:=by have:=of_decide_eq_true hlt;omega
  refine AM hl.symm (by rw [av];omega) (fun hin=>aa.t rfl ?_) (fun hin=>aa.f rfl ?_)
  ·have hat:=yy hin
   have hne:k≠index:=by have:=hin.2.2.2.2;omega
   rw [Int.toNat_natCast,Int.toNat_natCast] at hat⊢
   have hx:=hg _ hat
   have hvx:=hv _ hx
   have hcn:=D2 hat
   have hnl:=CQ hat
   refine ao.nB (h5.ag (ab.cons (ab.cons hs))) rfl hat ?_
   refine aB.aT (j:=last.getD (bw index k) 0) h5.p1 rfl hvl (by omega) (aB.qW (j:=last.getD (bw index k) 0) h5.p1 rfl hvl (by omega) fun w6 h6=> ?_)
   have hset:i64 (v.getD (last.getD (bw index k) 0) 0+1)=(nx last (bw index k):Int):=by rw [hvx,ad (by omega)];omega
   rw [hset] at h6
   refine aB.aT (j:=last.getD (bw index k) 0) h6 rfl (by rw [List.length_set];exact hvl) (by omega) ?_
   rw [dj (by omega),if_pos rfl]
   refine ao.Jd h6.p1 rfl (by omega) fun w7 h7=> ?_
   rw [ad (x:=(k:Int)+1) (by omega)]
   refine ⟨⟨k+1,_,_,by omega,by omega,by rw [List.length_set];exact hvl,fun c hc=> ?_,by rw [List.length_set];exact hol,fun r hr=> ?_,fun r hr=> ?_,h7⟩,by dsimp only;omega⟩
   ·rw [dj (by omega),Ga hne,List.take_add_one,List.getElem?_eq_getElem hat,List.count_append]
    have e:last.getD (bw index k) 0=last[bw index k]:=by simp [List.getD,hat]
    by_cases ec:c=last.getD (bw index k) 0
    ·subst ec
     rw [if_pos rfl,hcn,e];simp;omega
    ·rw [if_neg ec,hv c hc]
     have:List.count c (some last[bw index k]).toList=0:=by
      rw [List.count_eq_zero]
      simp only [Option.toList_some,List.mem_singleton]
      rw [←e];exact ec
     rw [this];simp
   ·rw [dj (by omega)]
    by_cases er:r=k
    ·subst er
     rw [if_pos rfl,vT (by omega) hne]
    ·rw [if_neg er];exact ho1 r (by omega)
   ·rw [dj (by omega),if_neg (by omega)];exact ho2 r (by omega)
  ·have hke:k=index:=by
    rcases Nat.lt_trichotomy k index with h|h|h
    ·exact absurd ⟨by omega,by omega,by omega,by omega,by omega⟩ hin
    ·exact h
    ·exact absurd ⟨by omega,by omega,by omega,by omega,by omega⟩ hin
   rw [ad (x:=(k:Int)+1) (by omega)]
   refine ⟨⟨k+1,v,out,by omega,by omega,hvl,fun c hc=> ?_,hol,fun r hr=> ?_,fun r hr=>ho2 r (by omega),h5⟩,by dsimp only;omega⟩
   ·rw [hv c hc,hke,EX]
   ·by_cases er:r=k
    ·subst er
     rw [ho2 r (Nat.le_refl _)]
     unfold lf
     rw [List.getD,List.getElem?_map,List.getElem?_range (by omega)]
     simp [hke]
    ·exact ho1 r (by omega)
 ·have hge:k=last.length+1:=by
   have:=of_decide_eq_false hge;omega
  subst hge
  have:out=lf last index:=by
   apply List.ext_getElem (by rw [hol,vu])
   intro r h1 h2
   have:=ho1 r (by omega)
   simpa [List.getD,h1,h2] using this
  rw [this] at h5
  exact hK s27 w5 h5.p1.drop
end
end Go.Proofs.YtcdpblipagajiaaGreat
set_option maxRecDepth 20000
namespace Go.Vc
open Go Go.Sort
def Gr (W w:World):Prop:= ∃q os,w=grow (W.drewN q) os
theorem Gr.refl (W:World):Gr W W:=⟨0,#[],by simp [World.drewN]⟩
theorem Gr.alloc {W w:World} (h:Gr W w) (o:Obj):Gr W (w.alloc o):=by
 obtain ⟨q,os,rfl⟩:=h
 exact ⟨q,os++ #[o],by rw [alloc_eq_grow,grow_grow]⟩
theorem Gr.drew {W w:World} (h:Gr W w):Gr W {w with drawn:=w.drawn+1}:=by
 obtain ⟨q,os,rfl⟩:=h
 exact ⟨q+1,os,rfl⟩
theorem Nw.gr {W E w:World} {F:List HP} {t:TypeId} {cs:Array Value} {K:Nat→World→Prop} (hh:Hp E w F) (hg:Gr W w) (h: ∀b w',Hp E w' (aj b (.cells cs t (0,0))::F)→Gr W w'→K b w'):Nw t cs w K:=h _ _ (hh.alloc _) (hg.alloc _)
end Go.Vc
namespace Go.Proofs.YtcdpblipagajiaaGreat
open Go Go.Vc Go.Sort
section
variable {E w:World} {F:List HP}
theorem AP {x:Int} {K:Bool→World→Prop} (hK:K false w):Cl Tryz.prog [kB] fQ ⟨[.int .i64 x]⟩ w K:=by
 refine cmp_isNaN_int.ok _ _ _ ?_
 simpa using hK
theorem vk {x y:Int} {K:Int→World→Prop} (hK:K (p7 x y) w):Cl Tryz.prog [kI] cu ⟨[.int .i64 x,.int .i64 y]⟩ w K:=by
 refine nk.ok _ _ _ _ ?_
 refine AP (AP (aa.f rfl (aa.f rfl ?_)))
 unfold p7 at hK
 by_cases h1:x<y
 ·rw [if_pos h1] at hK;exact aa.t (decide_eq_true h1) hK
 ·rw [if_neg h1] at hK
  refine aa.f (decide_eq_false h1) ?_
  by_cases h2:x>y
  ·rw [if_pos h2] at hK;exact aa.t (decide_eq_true h2) hK
  ·rw [if_neg h2] at hK;exact aa.f (decide_eq_false h2) hK
theorem J5 {a b:Int} {s:Sl} {K:Int→World→Prop} (hs:aC 1 s [vI a,vI b] w) (hl:s.len=2) (hK:K (if a !=0 then a else b) w):Cl Tryz.prog [kI] lY ⟨[.slice s.base s.len s.cap]⟩ w K:=by
 refine CL.ok _ _ _ ?_
 refine ⟨fun i w'=>w'=w∧(i=0∨(i=1∧a=0)∨(i=2∧a=0∧b=0)),fun i _=>(2 - i).toNat,⟨rfl,.inl rfl⟩,?_⟩
 rintro i w' ⟨rfl,hi⟩
 rw [hl]
 rcases hi with rfl|⟨rfl,rfl⟩|⟨rfl,rfl,rfl⟩
 ·refine aa.t (by decide) (ao.rd hs (by omega) (by rw [hl];decide) fun p hp hc=>Ld.sc (s:= .int .i64) a hc ?_)
  refine aa.mk (fun h=> ?_) (fun h=> ?_)
  ·rw [h] at hK;exact hK
  ·exact ⟨⟨rfl,.inr (.inl ⟨by decide,by simpa using h⟩)⟩,by dsimp only;decide⟩
 ·refine aa.t (by decide) (ao.rd hs (by omega) (by rw [hl];decide) fun p hp hc=>Ld.sc (s:= .int .i64) b hc ?_)
  refine aa.mk (fun h=> ?_) (fun h=> ?_)
  ·exact hK
  ·exact ⟨⟨rfl,.inr (.inr ⟨by decide,rfl,by simpa using h⟩)⟩,by dsimp only;decide⟩
 ·exact aa.f (by decide) hK
theorem F9 {i:FuncId} {args:Array Value} {r:Int} (h:Cl Tryz.prog [kI] i args w fun x w'=>x=r∧Gr w w'):Calls Tryz.prog i args w fun e w'=>e= .returned (.int .i64 r)∧∃q os',w'=grow (w.drewN q) os':=by
 refine Calls.mono h fun e w' he=> ?_
 cases e with
 |returned v=>
  obtain ⟨x,rfl,rfl,hg⟩:=Ki.cb (k:=kI) he
  exact ⟨rfl,hg⟩
 |panicked=>exact he.elim
 |outgrown=>exact he.elim
end
end Go.Proofs.YtcdpblipagajiaaGreat
set_option maxRecDepth 20000
namespace Go.Proofs.YtcdpblipagajiaaGreat
open Go Go.Vc Go.Sort
theorem DR (x y:Int×Int) (W:World):Calls Tryz.prog jR #[.agg ⟨ba x⟩,.agg ⟨ba y⟩] W fun e w'=>e= .returned (.int .i64 (uD x y))∧∃q os',w'=grow (W.drewN q) os':=by
 refine F9 (yT.ok (x.1,x.2,()) (y.1,y.2,()) _ _ ?_)
 refine Nw.gr (Hp.start W) (Gr.refl W) fun b1 w1 h1 g1=>Nw.gr h1 g1 fun b2 w2 h2 g2=> ?_
 refine ⟨cA W _,cA.mk h2.drew,?_⟩
 refine ae.aD (s:= .int .i64) (fun w h=>h.zn) x.1 rfl ?_
 refine ae.aD (s:= .int .i64) (fun w h=>h.front) y.1 rfl ?_
 refine ae.aD (s:= .int .i64) (fun w h=>h.zn) x.2 rfl ?_
 refine ae.aD (s:= .int .i64) (fun w h=>h.front) y.2 rfl ?_
 refine vk ⟨cA.mk h2.drew,vk ⟨cA.mk h2.drew,?_⟩⟩
 refine Nw.gr (h2.drew (n:=w2.drawn+1)) g2.drew fun b3 w3 h3 g3=>⟨cA.vy h3,?_⟩
 refine J5 (a:=p7 x.1 y.1) (b:=p7 x.2 y.2) (s:=⟨some ⟨b3,0,none⟩,2,2⟩) (h3.ag (ab.aD rfl rfl)) rfl ⟨cA.vy h3,rfl,g3⟩
end Go.Proofs.YtcdpblipagajiaaGreat
set_option maxRecDepth 20000
namespace Go.Vc
open Go
set_option linter.unusedSectionVars false
section
variable {P:Program} {α β:Type} [DecidableEq α] {ke:α→Value} {ve:β→Value} {kt vt t ty:TypeId} {E w:World} {F:List HP} {m:Option Nat} {l:List (α×β)}
theorem F8 {es:List MapEntry} (h:eC ke ve es l):es.length=l.length:=by
 have:=congrArg List.length h
 simpa using this
theorem rv (hk:ng P kt ke) (hu:P.underlying t=some (.map kt vt)) {a:α} {z:Value} (hz: ∀w,(zeroValue vt).run P w= .ok z w) (h:Hp E w (jG ke ve m l::F)):
  (Instr.lookup t (.map m) (ke a) false).run P w= .ok (match findAt a l 0 with|some q=>ve q.2|none=>z) w:=by
 obtain ⟨r,es,clock,rfl,he,hB⟩:=h.ra
 have hb:=hB.aD
 have hfk:=nN (ve:=ve) hk a w es.toList l he
 cases hf:findAt a l 0 with
 |none=>
  rw [hf] at hfk
  simp [Instr.lookup,run_underlying hu,MapKept.run_getObj_map hb,hk.check,hfk,hz]
 |some q=>
  rw [hf] at hfk
  simp [Instr.lookup,run_underlying hu,MapKept.run_getObj_map hb,hk.check,hfk]
theorem zv (hu:P.underlying t=some (.map kt vt)) {K:Int→World→Prop} (h:Hp E w (jG ke ve m l::F)) (hK:K (l.length:Int) w):aA P (Builtin.len_ #[t] ty ⟨[.map m]⟩) kI w K:=by
 obtain ⟨r,es,clock,rfl,he,hB⟩:=h.ra
 have hb:=hB.aD
 have hl:=F8 he
 unfold aA
 have:(Builtin.len_ #[t] ty ⟨[.map (some r)]⟩).run P w= .ok (.int .i64 (l.length:Int)) w:=by
  simp [Builtin.len_,run_underlying hu,MapKept.run_getObj_map hb,goInt,←hl]
 rw [this]
 exact hK
end
end Go.Vc
