/- Texts packed together by program; spaces struck by program. Conditions: as each theorem states. -/
import Derived.Ground.SlsfProg
import Derived.Laws.AppendOwn
import Derived.Laws.BytesArg
import Derived.Laws.IdiomStrings
import Derived.Laws.MakeOwn
import Derived.Lib.BytesEntry
import Derived.MapKept
import Derived.Shelf.SlGeneric
import Derived.Shelf.SlSortCmp.NoneTotal
import Derived.Test.YtcdpblipagajiaaGreatProg
import Derived.Test.YtcdpblipagajiaaGreatQmb
set_option linter.unusedSimpArgs false
set_option linter.unusedVariables false
set_option maxRecDepth 20000
namespace Go.Hd
open Go.Inc
def rT (n:Nat):List Nat:=if _h:n=0 then [] else rT (n/128)++ [128+n % 128]
termination_by n
decreasing_by omega
def fp (n:Nat):List Nat:=rT (n/128)++ [n % 128]
theorem lN:rT 0= []:=by rw [rT];simp
theorem qb {n:Nat} (h:0<n):rT n=rT (n/128)++ [128+n % 128]:=by rw [rT,dif_neg (by omega)]
def grow (most v c:Nat):Option (Nat×Bool):=
 if v=0∧c=128 then none else
 if 128*v+c % 128≤most∧(c<128→0<128*v+c % 128) then some (128*v+c % 128,decide (c<128)) else none
theorem D5 {most n:Nat} (h0:0<n) (h:n≤most):grow most (n/128) (128+n % 128)=some (n,false):=by
 unfold grow
 have e:128*(n/128)+(128+n % 128) % 128=n:=by omega
 rw [if_neg (by omega),e,if_pos ⟨h,fun _=>h0⟩,decide_eq_false (by omega)]
theorem A9 {most n:Nat} (h0:0<n) (h:n≤most):grow most (n/128) (n % 128)=some (n,true):=by
 unfold grow
 have e:128*(n/128)+n % 128 % 128=n:=by omega
 rw [if_neg (by omega),e,if_pos ⟨h,fun _=>h0⟩,decide_eq_true (by omega)]
theorem lB {most v c n:Nat} {d:Bool} (hc:c<256) (h:grow most v c=some (n,d)):n≤most∧0<n∧n=128*v+c % 128∧d=decide (c<128):=by
 unfold grow at h
 split at h
 ·cases h
 ·split at h
  ·rename_i h1 h2
   cases h
   refine ⟨h2.1,?_,rfl,rfl⟩
   by_cases hc:c<128
   ·exact h2.2 hc
   ·omega
  ·cases h
structure HS where
 at_:Nat
 v:Nat
deriving DecidableEq
structure MS where
 at_:Nat
 v:Nat
 M:Nat
 P:Nat
 sum:Nat
 many:Nat
deriving DecidableEq
inductive Mk where
 |aF (M P sum:Nat)|tail (sum:Nat)
deriving DecidableEq
def iB:MS:=⟨0,0,0,0,0,0⟩
def aL (n:Nat) (s:MS) (c:Nat):wP MS Mk Nat:=
 if s.at_=0 then
  if c=0 then .more ⟨5,0,0,0,0,0⟩ else if c=1 then .more ⟨1,0,0,0,0,0⟩ else .bad 242
 else if s.at_=1 then
  match grow n s.v c with
  |none=> .bad 242
  |some (m,true)=> .more ⟨2,0,m,0,0,0⟩
  |some (m,false)=> .more ⟨1,m,0,0,0,0⟩
 else if s.at_=2 then
  match grow s.M s.v c with
  |none=> .bad 242
  |some (p,true)=> .more ⟨3,0,s.M,p,0,0⟩
  |some (p,false)=> .more ⟨2,p,s.M,0,0,0⟩
 else if s.many=3 then
  if s.at_=3 then .fin (.aF s.M s.P (256*s.sum+c)) else .fin (.tail (256*s.sum+c))
 else .more {s with sum:=256*s.sum+c,many:=s.many+1}
def gn (s:Nat):List Nat:= [s/16777216 % 256,s/65536 % 256,s/256 % 256,s % 256]
def fR (M P sum:Nat):List Nat:=1::(fp M++fp P++gn sum)
theorem M3 {n v:Nat} (h:v≤n):run (aL n) ⟨1,0,0,0,0,0⟩ (rT v)= .short ⟨1,v,0,0,0,0⟩:=by
 induction v using Nat.strongRecOn with
 |ind v ih=>
  rcases Nat.eq_zero_or_pos v with e|e
  ·rw [e,lN];rfl
  ·rw [qb e,cU (ih (v/128) (by omega) (by omega))]
   refine bK ?_
   simp only [aL]
   rw [if_neg (by decide),if_pos trivial,D5 e h]
theorem No {n M v:Nat} (h:v≤M):run (aL n) ⟨2,0,M,0,0,0⟩ (rT v)= .short ⟨2,v,M,0,0,0⟩:=by
 induction v using Nat.strongRecOn with
 |ind v ih=>
  rcases Nat.eq_zero_or_pos v with e|e
  ·rw [e,lN];rfl
  ·rw [qb e,cU (ih (v/128) (by omega) (by omega))]
   refine bK ?_
   simp only [aL]
   rw [if_neg (by decide),if_neg (by decide),if_pos trivial,D5 e h]
theorem L3 {n M:Nat} (h0:0<M) (h:M≤n) (r:List Nat):run (aL n) ⟨1,0,0,0,0,0⟩ (fp M++r)=run (aL n) ⟨2,0,M,0,0,0⟩ r:=by
 unfold fp
 rw [List.append_assoc,cU (M3 (by omega))]
 refine bK ?_
 simp only [aL]
 rw [if_neg (by decide),if_pos trivial,A9 h0 h]
theorem Mv {n M P:Nat} (h0:0<P) (h:P≤M) (r:List Nat):run (aL n) ⟨2,0,M,0,0,0⟩ (fp P++r)=run (aL n) ⟨3,0,M,P,0,0⟩ r:=by
 unfold fp
 rw [List.append_assoc,cU (No (by omega))]
 refine bK ?_
 simp only [aL]
 rw [if_neg (by decide),if_neg (by decide),if_pos trivial,A9 h0 h]
theorem LQ {s:Nat} (h:s<4294967296):256*(256*(256*(256*0+s/16777216 % 256)+s/65536 % 256)+s/256 % 256)+s % 256=s:=by omega
theorem LR {n M P s:Nat} (h:s<4294967296) (r:List Nat):run (aL n) ⟨3,0,M,P,0,0⟩ (gn s++r)= .fin (.aF M P s) r:=by
 show NC.fin (Mk.aF M P (256*(256*(256*(256*0+s/16777216 % 256)+s/65536 % 256)+s/256 % 256)+s % 256)) r=_
 rw [LQ h]
theorem yn {n M P s:Nat} (h0:0<M) (h1:M≤n) (h2:0<P) (h3:P≤M) (h4:s<4294967296) (r:List Nat):run (aL n) iB (fR M P s++r)= .fin (.aF M P s) r:=by
 show run (aL n) ⟨1,0,0,0,0,0⟩ (fp M++fp P++gn s++r)=_
 rw [List.append_assoc,List.append_assoc,L3 h0 h1,Mv h2 h3,LR h4]
end Go.Hd
set_option maxRecDepth 20000
namespace Go.Crc
def half (c:Nat):Nat:=(c/2)^^^(if c % 2=1 then 3988292384 else 0)
def row (c:Nat):Nat:=half (half (half (half (half (half (half (half c)))))))
def step (c b:Nat):Nat:=row ((c % 256)^^^b)^^^(c/256)
def feed (c:Nat) (b:List Nat):Nat:=b.foldl step c
def lf (b:List Nat):Nat:=feed 4294967295 b^^^4294967295
theorem fM {c:Nat} (h:c<4294967296):half c<4294967296:=by
 unfold half
 exact Nat.xor_lt_two_pow (n:=32) (by omega) (by split<;>decide)
theorem Ac {c:Nat} (h:c<4294967296):row c<4294967296:=fM (fM (fM (fM (fM (fM (fM (fM h)))))))
theorem xp {c b:Nat} (h:c<4294967296) (hb:b<256):step c b<4294967296:=by
 unfold step
 have h1:(c % 256)^^^b<256:=Nat.xor_lt_two_pow (n:=8) (by omega) hb
 exact Nat.xor_lt_two_pow (n:=32) (Ac (by omega)) (by omega)
theorem nu: ∀(b:List Nat) (c:Nat),c<4294967296→(∀x∈b,x<256)→feed c b<4294967296
 | [],_,h,_=>h
 |x::b,c,h,hb=>by
  rw [feed,List.foldl_cons]
  exact nu b _ (xp h (hb x List.mem_cons_self)) fun y hy=>hb y (List.mem_cons_of_mem _ hy)
theorem Ae (a b:List Nat) (c:Nat):feed c (a++b)=feed (feed c a) b:=List.foldl_append
theorem sF {b:List Nat} (hb: ∀x∈b,x<256):lf b<4294967296:=Nat.xor_lt_two_pow (n:=32) (nu b _ (by decide) hb) (by decide)
end Go.Crc
set_option maxRecDepth 20000
namespace Go.Vc
open Go
def JW:List Nat→List Nat→Bool
 |_,[]=>false
 | [],_::_=>true
 |a::x,b::y=>decide (a<b)||(a==b&&JW x y)
def strOf (b:List Nat):ByteArray:=strOfNums (b.map fun (x:Nat)=>(x:Int))
theorem Ga {P:Program} {src e dst:TypeId} {s:Sl} {b:List Nat} {w:World} {K:ByteArray→World→Prop} (hs:P.underlying src=some (.slice e)) (he:P.underlying e=some (.int .u8)) (hd:P.underlying dst=some .string)
  (hh:aC 1 s (b.map vB) w) (hK:K (strOf b) w):ay P (convert src dst (.slice s.base s.len s.cap)) kK w K:=by
 have hl:=hh.1
 simp only [List.length_map,Nat.mul_one] at hl
 have key:(convert src dst (.slice s.base s.len s.cap)).run P w= .ok (.string (strOf b)) w:=by
  cases hb:s.base with
  |none=>
   have:b= []:=by
    cases b with
    |nil=>rfl
    |cons x b=>
     obtain ⟨p,hp,_⟩:=hh.2 0 (by simp)
     rw [hb] at hp;cases hp
   subst this
   rw [run_convert_bytes_nil w src e hs he _ _ dst hd];rfl
  |some p=>
   have hc:(loadCells p s.len).run P w= .ok ((b.map fun (x:Nat)=>(x:Int)).map (Value.int .u8)).toArray w:=by
    have:=yZ (P:=P) (w:=w) (vs:=b.map vB) (p:=p) (fun i hi=>by
     obtain ⟨q,hq,hc⟩:=hh.2 i hi
     rw [hb] at hq
     cases hq
     exact hc)
    rw [List.length_map,hl] at this
    rw [this,List.map_map];rfl
   rw [run_convert_bytes_string w src dst e _ _ _ hs he hd,run_bytesToString w _ _ _ _ hc,foldl_push_bytes]
   unfold strOf strOfNums
   simp [ByteArray.empty,ByteArray.emptyWithCapacity]
   rfl
 unfold ay
 rw [key]
 exact hK
theorem Er (b:List Nat):(strOf b).toList=b.map UInt8.ofNat:=by
 unfold strOf strOfNums
 rw [ByteArray.toList_mk,List.map_map]
 refine List.map_congr_left fun x _=> ?_
 simp
theorem wT (b:List Nat):(strOf b).data.toList=b.map UInt8.ofNat:=by rw [←ByteArray.toList_eq,Er]
section
variable {E w:World} {F:List HP}
end
end Go.Vc
set_option maxRecDepth 20000
namespace Go.Bw
open Go.Rk
abbrev lx:List Nat→List Nat→Bool:=Go.Vc.JW
theorem p9 (x:List Nat):lx x []=false:=by cases x<;>rfl
theorem ka (a b:Nat) (x y:List Nat):lx (a::x) (b::y)=(decide (a<b)||(a==b&&lx x y)):=rfl
theorem sD: ∀x,lx x x=false
 | []=>rfl
 |a::x=>by rw [ka,sD x];simp
theorem uE: ∀x y z,lx x y=true→lx y z=true→lx x z=true
 |_,[],_,h,_=>by rw [p9] at h;cases h
 |_,_::_,[],_,h=>by rw [p9] at h;cases h
 | [],_::_,_::_,_,_=>rfl
 |a::x,b::y,c::z,h1,h2=>by
  rw [ka] at*
  simp only [Bool.or_eq_true,Bool.and_eq_true,decide_eq_true_eq,beq_iff_eq] at*
  rcases h1 with h1|⟨h1,h3⟩<;>rcases h2 with h2|⟨h2,h4⟩
  ·left;omega
  ·left;omega
  ·left;omega
  ·exact .inr ⟨by omega,uE x y z h3 h4⟩
theorem vg: ∀x y,lx x y=false→lx y x=false→x=y
 | [],[],_,_=>rfl
 | [],_::_,h,_=>by cases h
 |_::_,[],_,h=>by cases h
 |a::x,b::y,h1,h2=>by
  rw [ka] at*
  simp only [Bool.or_eq_false_iff,Bool.and_eq_false_iff,decide_eq_false_iff_not,beq_eq_false_iff_ne] at*
  have hab:a=b:=by omega
  subst hab
  rw [vg x y (by rcases h1.2 with h|h;exact absurd rfl h;exact h) (by rcases h2.2 with h|h;exact absurd rfl h;exact h)]
theorem Hz (x y z:List Nat) (h1:lx x y=false) (h2:lx y z=false):lx x z=false:=by
 cases h:lx x z with
 |false=>rfl
 |true=>
  by_cases e:x=y
  ·subst e;rw [h] at h2;cases h2
  ·have hyx:lx y x=true:=by
    cases hh:lx y x with
    |true=>rfl
    |false=>exact absurd (vg x y h1 hh) e
   have:=uE _ _ _ hyx h
   rw [h2] at this;cases this
theorem G8: ∀(k c d:List Nat),lx (k++c) (k++d)=lx c d
 | [],_,_=>rfl
 |a::k,c,d=>by rw [List.cons_append,List.cons_append,ka,G8 k];simp
theorem zU: ∀(a b c d:List Nat),a≠b→(a.length<b.length→c= [])→(b.length<a.length→d= [])→lx (a++c) (b++d)=lx a b
 | [],[],_,_,h,_,_=>absurd rfl h
 | [],y::b,c,d,_,h1,_=>by rw [h1 (by simp)];rfl
 |x::a,[],c,d,_,_,h2=>by rw [h2 (by simp)];rfl
 |x::a,y::b,c,d,h,h1,h2=>by
  rw [List.cons_append,List.cons_append,ka,ka]
  by_cases e:x=y
  ·subst e
   rw [zU a b c d (fun e=>h (by rw [e])) (fun hl=>h1 (by simpa using hl)) (fun hl=>h2 (by simpa using hl))]
  ·rw [beq_eq_false_iff_ne.2 e,Bool.false_and,Bool.false_and]
def sl (t:List Nat) (i k:Nat):Bool:=lx (t.drop i) (t.drop k)
theorem iS (t:List Nat):SO (sl t):=⟨fun _=>sD _,fun _ _ _=>uE _ _ _,fun _ _ _=>Hz _ _ _⟩
theorem IB {t:List Nat} {i k:Nat} (hi:i≤t.length) (hk:k≤t.length) (h:t.drop i=t.drop k):i=k:=by
 have:=congrArg List.length h
 simp only [List.length_drop] at this
 omega
def rows (t:List Nat):List Nat:=List.range (t.length+1)
theorem gX {t:List Nat} {i:Nat}:i∈rows t↔i≤t.length:=by unfold rows;rw [List.mem_range];omega
theorem mY (t:List Nat):(rows t).Nodup:=List.nodup_range
theorem Ab (t:List Nat):(rows t).length=t.length+1:=List.length_range
theorem qA (t:List Nat):wI (sl t) (rows t):=fun x hx y hy e=>by
 rw [gX] at hx hy
 cases h1:sl t x y with
 |true=>exact .inl rfl
 |false=>
  right
  cases h2:sl t y x with
  |true=>rfl
  |false=>exact absurd (IB hx hy (vg _ _ h1 h2)) e
def bM (t:List Nat):List Nat:=uj (sl t) (rows t)
def fO (t:List Nat) (i:Nat):Nat:=rk (sl t) (rows t) i
theorem ic (t:List Nat):(bM t).length=t.length+1:=by unfold bM;rw [DE,Ab]
theorem vf {t:List Nat} {i:Nat}:i∈bM t↔i≤t.length:=by unfold bM;rw [(dS _).mem_iff,gX]
theorem G6 {t:List Nat} {i:Nat} (hi:i≤t.length):fO t i<t.length+1:=by
 have:=yQ (iS t) (mY t) (qA t) (gX.2 hi)
 rwa [Ab] at this
theorem xL {t:List Nat} {i:Nat} (hi:i≤t.length): ∃h:fO t i<(bM t).length,(bM t)[fO t i]=i:=Ge (iS t) (mY t) (qA t) (gX.2 hi)
theorem DB {t:List Nat} {r:Nat} (hr:r<(bM t).length):fO t (bM t)[r]=r:=Nt (iS t) (mY t) (qA t) hr
theorem qD {t:List Nat} {i k:Nat} (hi:i≤t.length) (hk:k≤t.length) (h:fO t i=fO t k):i=k:=GO (iS t) (qA t) (gX.2 hi) (gX.2 hk) h
theorem lW (t:List Nat):(bM t).Pairwise fun a b=>sl t a b=true:=q6 (iS t) (mY t) (qA t)
theorem oD {t:List Nat} {j:Nat} (hj:j<t.length):t.drop j=t.getD j 0::t.drop (j+1):=by
 rw [List.drop_eq_getElem_cons hj];simp [List.getD,hj]
theorem xV {t:List Nat} {i k:Nat} (hi:i<t.length) (hk:k<t.length):sl t i k=(decide (t.getD i 0<t.getD k 0)||(t.getD i 0==t.getD k 0&&sl t (i+1) (k+1))):=by
 unfold sl
 rw [oD hi,oD hk,ka]
theorem Ec (t:List Nat):fO t t.length=0:=by
 unfold fO rk
 rw [List.countP_eq_zero]
 intro x _
 unfold sl
 rw [List.drop_length,p9];decide
def bG (t:List Nat):Nat:=fO t 0
def eF (t:List Nat):List Nat:=(bM t).filter fun i=>i !=0
def aU (t:List Nat):List Nat:=(eF t).map fun i=>t.getD (i - 1) 0
def bP (index row:Nat):Nat:=if row>index then row - 1 else row
theorem tz (t:List Nat):bG t≤t.length:=by have:=G6 (t:=t) (i:=0) (by omega);unfold bG;omega
theorem uA (t:List Nat) {r:Nat} (hr:r<(bM t).length):(bM t)[r]=0↔r=bG t:=by
 constructor
 ·intro h
  have:=DB hr
  rw [h] at this;exact this.symm
 ·rintro rfl
  exact (xL (t:=t) (i:=0) (by omega)).2
theorem yp: ∀(l:List Nat) (ix:Nat),(∀r (hr:r<l.length),l[r]=0↔r=ix)→∀r (hr:r<l.length),r≠ix→(l.filter fun i=>i !=0)[bP ix r]? =some l[r]
 | [],_,_,r,hr,_=>by simp at hr
 |a::l,0,h,r,hr,hne=>by
  have ha:a=0:=(h 0 (by simp)).2 rfl
  subst ha
  have hall: ∀x∈l,x≠0:=fun x hx e=>by
   obtain ⟨i,hi,rfl⟩:=List.getElem_of_mem hx
   have:=(h (i+1) (by simpa using hi)).1 (by simpa using e)
   omega
  obtain ⟨r,rfl⟩: ∃r',r=r'+1:=⟨r - 1,by omega⟩
  have hr':r<l.length:=by simpa using hr
  rw [List.filter_cons,if_neg (by simp),List.filter_eq_self.2 fun x hx=>by simpa using hall x hx]
  unfold bP
  rw [if_pos (by omega)]
  simp [hr']
 |a::l,ix+1,h,r,hr,hne=>by
  have ha:a≠0:=fun e=>by have:=(h 0 (by simp)).1 e;omega
  have ih:=yp l ix fun r hr=>by
   have:=h (r+1) (by simpa using hr)
   simp only [List.getElem_cons_succ] at this
   omega
  rw [List.filter_cons,if_pos (by simpa using ha)]
  cases r with
  |zero=>
   have:bP (ix+1) 0=0:=by unfold bP;rw [if_neg (by omega)]
   rw [this];rfl
  |succ r=>
   have hr':r<l.length:=by simpa using hr
   have h2:=ih r hr' (by omega)
   have:bP (ix+1) (r+1)=bP ix r+1:=by unfold bP;split<;>split<;>omega
   rw [this,List.getElem?_cons_succ,h2];simp
theorem D2 {t:List Nat} {r:Nat} (hr:r<(bM t).length) (hne:r≠bG t):(eF t)[bP (bG t) r]? =some (bM t)[r]:=yp _ _ (fun _ hr=>uA t hr) r hr hne
theorem px (t:List Nat):(eF t).Perm ((List.range t.length).map (·+1)):=by
 have h:=(dS (lt:=sl t) (rows t)).filter fun i=>i !=0
 have e:(rows t).filter (fun i=>i !=0)=(List.range t.length).map (·+1):=by
  unfold rows
  rw [List.range_succ_eq_map,List.filter_cons,if_neg (by simp),List.filter_eq_self.2 fun x hx=>by obtain ⟨y,_,rfl⟩:=List.mem_map.1 hx;simp]
 rw [e] at h
 exact h
theorem Bh (t:List Nat):(eF t).length=t.length:=by rw [(px t).length_eq];simp
theorem cj (t:List Nat):(aU t).length=t.length:=by unfold aU;rw [List.length_map,Bh]
theorem Es (t:List Nat):(aU t).Perm t:=by
 have h:=(px t).map fun i=>t.getD (i - 1) 0
 have e:((List.range t.length).map (·+1)).map (fun i=>t.getD (i - 1) 0)=t:=by
  apply List.ext_getElem
  ·simp
  ·intro i h1 h2
   simp [List.getD,h2]
 rw [e] at h
 exact h
theorem qj {t:List Nat} (hb: ∀x∈t,x<256): ∀x∈aU t,x<256:=fun x hx=>hb x ((Es t).mem_iff.1 hx)
theorem uh (t:List Nat):(eF t).Pairwise fun a b=>sl t a b=true:=(lW t).filter _
theorem IW {t:List Nat} {j:Nat} (h0:0<j) (hj:j≤t.length):(aU t).getD (bP (bG t) (fO t j)) 0=t.getD (j - 1) 0:=by
 obtain ⟨h1,h2⟩:=xL hj
 have hne:fO t j≠bG t:=fun e=>by have:=qD hj (by omega) e;omega
 have:=D2 h1 hne
 rw [h2] at this
 unfold aU
 simp [List.getD,this]
def pl (last:List Nat) (a b:Nat):Bool:=decide (last.getD a 0<last.getD b 0)||(last.getD a 0==last.getD b 0&&decide (a<b))
theorem vw {last:List Nat} {a b:Nat}:pl last a b=true↔last.getD a 0<last.getD b 0∨(last.getD a 0=last.getD b 0∧a<b):=by simp [pl]
theorem Ma {last:List Nat} {a b:Nat}:pl last a b=false↔¬(last.getD a 0<last.getD b 0∨(last.getD a 0=last.getD b 0∧a<b)):=by rw [←vw,Bool.not_eq_true]
theorem Nu (last:List Nat):SO (pl last):=⟨fun a=>by rw [Ma];omega,fun a b c h1 h2=>by rw [vw] at*;omega,fun a b c h1 h2=>by rw [Ma] at*;omega⟩
theorem MG (last dom:List Nat):wI (pl last) dom:=fun x _ y _ e=>by rw [vw,vw];omega
def nx (last:List Nat) (a:Nat):Nat:=1+rk (pl last) (List.range last.length) a
theorem Fa {last:List Nat} {a:Nat} (ha:a<last.length):nx last a≤last.length:=by
 have:=yQ (Nu last) List.nodup_range (MG last _) (List.mem_range.2 ha)
 rw [List.length_range] at this
 unfold nx;omega
theorem M9 {t:List Nat} {j:Nat} (h0:0<j) (hj:j≤t.length):nx (aU t) (bP (bG t) (fO t j))=fO t (j - 1):=by
 obtain ⟨h1,h2⟩:=xL hj
 have hne:fO t j≠bG t:=fun e=>by have:=qD hj (by omega) e;omega
 have hat:=D2 h1 hne
 rw [h2] at hat
 obtain ⟨k,hk⟩: ∃k,bP (bG t) (fO t j)=k:=⟨_,rfl⟩
 rw [hk] at hat⊢
 obtain ⟨hkl,hke⟩:=List.getElem?_eq_some_iff.1 hat
 have hcl:=Bh t
 have hlast: ∀i (hi:i<(eF t).length),(aU t).getD i 0=t.getD ((eF t)[i] - 1) 0:=fun i hi=>by
  unfold aU
  simp [List.getD,hi]
 have hin: ∀i (hi:i<(eF t).length),0<(eF t)[i]∧(eF t)[i]≤t.length:=fun i hi=>by
  have:=(px t).mem_iff.1 (List.getElem_mem hi)
  obtain ⟨x,hx,e⟩:=List.mem_map.1 this
  rw [List.mem_range] at hx
  omega
 have e1:rk (pl (aU t)) (List.range (aU t).length) k=(eF t).countP fun x=>sl t (x - 1) (j - 1):=by
  have:(eF t)=(List.range (aU t).length).map fun i=>(eF t).getD i 0:=by
   apply List.ext_getElem
   ·rw [List.length_map,List.length_range,cj,hcl]
   ·intro i h1 h2
    simp [List.getD,h1]
  unfold rk
  conv=>rhs;rw [this,List.countP_map]
  apply List.countP_congr
  intro i hi
  have hi:i<(eF t).length:=by rw [List.mem_range,cj] at hi;omega
  obtain ⟨a1,a2⟩:=hin i hi
  have b1:=hin k hkl
  have hci:(eF t).getD i 0=(eF t)[i]:=by simp [List.getD,hi]
  have hs:=xV (t:=t) (i:=(eF t)[i] - 1) (k:=j - 1) (by omega) (by omega)
  rw [show (eF t)[i] - 1+1=(eF t)[i] by omega,show j - 1+1=j by omega] at hs
  simp only [Function.comp]
  rw [hci,hs]
  unfold pl
  rw [hlast i hi,hlast k hkl,hke]
  have hord:decide (i<k)=true↔sl t (eF t)[i] j=true:=by
   rw [decide_eq_true_iff,←hke]
   constructor
   ·intro hik
    exact List.pairwise_iff_getElem.1 (uh t) i k hi hkl hik
   ·intro hsl
    rcases Nat.lt_trichotomy i k with h|h|h
    ·exact h
    ·subst h;rw [(iS t).irr] at hsl;cases hsl
    ·have:=List.pairwise_iff_getElem.1 (uh t) k i hkl hi h
     rw [(iS t).asym hsl] at this;cases this
  simp only [Bool.or_eq_true,Bool.and_eq_true,hord]
 have e2:(eF t).countP (fun x=>sl t (x - 1) (j - 1))=(List.range t.length).countP fun x=>sl t x (j - 1):=by
  rw [(px t).countP_eq,List.countP_map]
  rfl
 have e3:fO t (j - 1)=1+(List.range t.length).countP fun x=>sl t x (j - 1):=by
  unfold fO rk rows
  rw [List.range_succ,List.countP_append,List.countP_cons,List.countP_nil]
  have:sl t t.length (j - 1)=true:=by
   unfold sl
   rw [List.drop_length,oD (by omega)];rfl
  rw [this];simp;omega
 unfold nx
 rw [e1,e2,e3]
def wk (last:List Nat) (index:Nat):Nat→Nat
 |0=>0
 |k+1=>nx last (bP index (wk last index k))
def okB (last:List Nat) (index:Nat):Prop:=index≤last.length∧(∀k,k<last.length→wk last index k≠index)∧wk last index last.length=index
instance (last:List Nat) (index:Nat):Decidable (okB last index):=by unfold okB;infer_instance
def cX (last:List Nat) (index:Nat):List Nat:=((List.range last.length).map fun k=>last.getD (bP index (wk last index k)) 0).reverse
theorem pt (last:List Nat) (index:Nat):(cX last index).length=last.length:=by simp [cX]
theorem za {last:List Nat} {index k:Nat} (hk:k<last.length):(cX last index).getD (last.length - 1 - k) 0=last.getD (bP index (wk last index k)) 0:=by
 unfold cX
 rw [List.getD,List.getElem?_reverse (by simp;omega)]
 simp only [List.length_map,List.length_range]
 rw [show last.length - 1 - (last.length - 1 - k)=k by omega]
 simp [hk]
theorem Gv (t:List Nat):okB (aU t) (bG t)∧cX (aU t) (bG t)=t:=by
 have hw: ∀k,k≤t.length→wk (aU t) (bG t) k=fO t (t.length - k):=by
  intro k
  induction k with
  |zero=>intro _;rw [wk,Nat.sub_zero,Ec]
  |succ k ih=>
   intro hk
   rw [wk,ih (by omega),M9 (by omega) (by omega)]
   congr 1
 have hl:=cj t
 refine ⟨⟨by rw [hl];exact tz t,fun k hk e=> ?_,?_⟩,?_⟩
 ·rw [hl] at hk
  rw [hw k (by omega)] at e
  have:=qD (by omega) (by omega) e
  omega
 ·rw [hl,hw _ (Nat.le_refl _),Nat.sub_self];rfl
 ·apply List.ext_getElem (by rw [pt,hl])
  intro i h1 h2
  have e:=za (last:=aU t) (index:=bG t) (k:=t.length - 1 - i) (by rw [hl];omega)
  rw [hl,show t.length - 1 - (t.length - 1 - i)=i by omega,hw _ (by omega),show t.length - (t.length - 1 - i)=i+1 by omega,IW (by omega) (by omega)] at e
  rw [show i+1 - 1=i by omega] at e
  simpa [List.getD,h1,h2] using e
theorem Gz {last:List Nat} {index row:Nat} (hi:index≤last.length) (hr:row≤last.length) (hne:row≠index):bP index row<last.length:=by unfold bP;split<;>omega
theorem Fi {last:List Nat} {index:Nat} (hi:index≤last.length): ∀k,(∀j,j<k→wk last index j≠index)→wk last index k≤last.length
 |0,_=>by rw [wk];omega
 |k+1,h=>by
  rw [wk]
  exact Fa (Gz hi (Fi hi k fun j hj=>h j (by omega)) (h k (by omega)))
end Go.Bw
set_option maxRecDepth 20000
namespace Go.aj
open Go.Inc Go.Srt Go.Sym Go.Bits Go.Tab Go.Hd Go.Crc Go.Bw
def aM (b:List Nat):List Nat:=bitsOf b (8*b.length)
theorem dy (b:List Nat):(aM b).length=8*b.length:=Fm _ _
theorem pY (a b:List Nat):aM (a++b)=aM a++aM b:=by
 unfold aM bitsOf
 rw [List.length_append,Nat.mul_add,List.range_add,List.map_append]
 congr 1
 ·refine List.map_congr_left fun i hi=> ?_
  rw [List.mem_range] at hi
  unfold fz
  rw [List.getD,List.getD,List.getElem?_append_left (by omega)]
 ·rw [List.map_map]
  refine List.map_congr_left fun i hi=> ?_
  simp only [Function.comp]
  unfold fz
  rw [List.getD,List.getD,List.getElem?_append_right (by omega),show (8*a.length+i)/8 - a.length=i/8 by omega,show (8*a.length+i) % 8=i % 8 by omega]
theorem AR (b:List Nat) (k:Nat):aM (b.take k)=(aM b).take (8*k):=by
 rcases Nat.le_total k b.length with h|h
 ·have:=pY (b.take k) (b.drop k)
  rw [List.take_append_drop] at this
  have h1:(aM (b.take k)).length=8*k:=by rw [dy,List.length_take];omega
  rw [this,List.take_append_of_le_length (Nat.le_of_eq h1.symm),List.take_of_length_le (l:=aM (b.take k)) (Nat.le_of_eq h1)]
 ·rw [List.take_of_length_le h,List.take_of_length_le (by rw [dy];omega)]
def qP (b:List Nat):Nat:=8*((b.length+7)/8) - b.length
theorem DF (b:List Nat):qP b<8:=by unfold qP;omega
theorem sn {b:List Nat} (h:Bits b):aM (pack b)=b++List.replicate (qP b) 0:=by
 unfold aM bitsOf qP
 rw [il]
 refine List.ext_getElem? fun i=> ?_
 rw [List.getElem?_map]
 by_cases hi:i<8*((b.length+7)/8)
 ·rw [List.getElem?_range hi,Option.map_some]
  unfold pack
  rw [Ao h hi]
  by_cases hb:i<b.length
  ·rw [List.getElem?_append_left hb,List.getD,List.getElem?_eq_getElem hb];rfl
  ·rw [List.getElem?_append_right (by omega),List.getElem?_replicate,if_pos (by omega),du (by omega)]
 ·rw [List.getElem?_eq_none (by simp;omega),List.getElem?_eq_none (by simp;omega)];rfl
def body (l last:List Nat):List Nat:=dr l++enc l (syms last)
def kF (l x:List Nat):List Nat:=fR x.length (bG x.reverse) (lf x)++pack (body l (aU x.reverse))
def tP (left:List Nat):Bool:=(left.take (left.length % 8)).all (·==0)
def sP (M:Nat) (bits:List Nat):Except Nat (List Nat×List Nat):=match run (bf bz) t0 bits with
 | .short _=> .error 50
 | .bad e=> .error e
 | .fin l more=>match run (cq l) ⟨0,0,⟨List.range 256,M,0,0⟩,[]⟩ more with
  | .short _=> .error 50
  | .bad e=> .error e
  | .fin last left=> .ok (last,left)
def kX (P sum:Nat) (last:List Nat):Except Nat (List Nat):=
 if okB last P then (if lf (cX last P).reverse=sum then .ok (cX last P).reverse else .error 250) else .error 170
def cC (n:Nat) (b:List Nat):Except Nat (List Nat×List Nat):=match run (aL n) iB b with
 | .short _=> .error 50
 | .bad e=> .error e
 | .fin (.tail _) _=> .error 242
 | .fin (.aF M P sum) rest=>match sP M (aM rest) with
  | .error e=> .error e
  | .ok (last,left)=>if tP left then (match kX P sum last with
    | .error e=> .error e
    | .ok x=> .ok (x,rest.drop (rest.length - left.length/8)))
   else .error 160
theorem AS: ∀k,Bits (ma k)
 |0=>fun x hx=>by cases hx
 |k+1=>fun x hx=>by
  rcases List.mem_cons.1 hx with h|h
  ·omega
  ·rcases List.mem_cons.1 h with h|h
   ·omega
   ·exact AS k x h
theorem wa: ∀k,Bits (fy k)
 |0=>fun x hx=>by cases hx
 |k+1=>fun x hx=>by
  rcases List.mem_cons.1 hx with h|h
  ·omega
  ·rcases List.mem_cons.1 h with h|h
   ·omega
   ·exact wa k x h
theorem Io (a b:Nat):Bits (cm a b):=by
 unfold cm
 refine Bits.app ?_ (fun x hx=>by rw [List.mem_singleton] at hx;omega)
 split
 ·exact wa _
 ·exact AS _
theorem xY: ∀(m:List Nat) (was:Nat),Bits (dc was m)
 | [],_=>fun x hx=>by cases hx
 |n::m,was=>Bits.app (Io was n) (xY m n)
theorem ye (l:List Nat):Bits (dr l):=Bits.app (fun x hx=>by simp [four] at hx;omega) (xY _ _)
theorem pk (l last:List Nat):Bits (body l last):=Bits.app (ye l) (IQ _ _)
section
variable {l:List Nat}
structure mw (l last:List Nat):Prop where
 len:l.length=258
 ok:bz l=true
 good: ∀s∈syms last,gU l s
theorem mw.v {last:List Nat} (h:mw l last):aS l≤32768:=by rw [(ki.1 h.ok).1];decide
theorem mh (h:bz l=true): ∀x∈l,x≤15:=fun x hx=>by
 obtain ⟨i,hi,rfl⟩:=List.mem_iff_getElem.1 hx
 have:=eu (l:=l) (by rw [(ki.1 h).1];decide) i
 rwa [bx hi] at this
theorem Eh {last:List Nat} (hL:mw l last) (hb: ∀x∈last,x<256) (r:List Nat):run (cq l) ⟨0,0,⟨List.range 256,last.length,0,0⟩,[]⟩ (enc l (syms last)++r)= .fin last r:=by
 rw [GL hL.len hL.v _ _ _ _ hL.good]
 have:=FV hb []
 rw [List.append_nil] at this
 rw [this]
 simp [enc]
theorem GI {last:List Nat} (hL:mw l last) (hb: ∀x∈last,x<256) (r:List Nat):sP last.length (body l last++r)= .ok (last,r):=by
 unfold sP body
 rw [List.append_assoc,r7 _ hL.len (mh hL.ok) hL.ok]
 simp only
 rw [Eh hL hb]
theorem Jb {last:List Nat} (hL:mw l last) (hb: ∀x∈last,x<256) {k:Nat} (hk:k<(body l last).length):sP last.length ((body l last).take k)= .error 50:=by
 unfold sP body
 unfold body at hk
 rw [List.length_append] at hk
 rcases Nat.lt_or_ge k (dr l).length with h|h
 ·rw [List.take_append_of_le_length (by omega)]
  obtain ⟨s',e⟩:=xj (r7 (ok:=bz) [] hL.len (mh hL.ok) hL.ok) h
  rw [e]
 ·rw [List.take_append,List.take_of_length_le h,r7 _ hL.len (mh hL.ok) hL.ok]
  simp only
  obtain ⟨s',e⟩:=xj (Eh hL hb []) (k:=k - (dr l).length) (by omega)
  rw [e]
theorem tZ {n M P sum:Nat} (h0:0<M) (h1:M≤n) (h2:0<P) (h3:P≤M) (h4:sum<4294967296) (rest:List Nat):
  cC n (fR M P sum++rest)=match sP M (aM rest) with
  | .error e=> .error e
  | .ok (last,left)=>if tP left then (match kX P sum last with
    | .error e=> .error e
    | .ok x=> .ok (x,rest.drop (rest.length - left.length/8)))
   else .error 160:=by
 unfold cC
 rw [yn h0 h1 h2 h3 h4]
theorem F4 (b:List Nat) (z:List Nat):tP (List.replicate (qP b) 0++aM z)=true:=by
 unfold tP
 have:=DF b
 rw [List.length_append,List.length_replicate,dy,show (qP b+8*z.length) % 8=qP b by omega,List.take_append_of_le_length (by simp),List.take_of_length_le (by simp)]
 simp
theorem ub {n P sum:Nat} {last:List Nat} (hL:mw l last) (hb: ∀x∈last,x<256) (h0:0<last.length) (h1:last.length≤n) (h2:0<P) (h3:P≤last.length) (h4:sum<4294967296) (z:List Nat):
  cC n (fR last.length P sum++pack (body l last)++z)=match kX P sum last with
    | .error e=> .error e
    | .ok x=> .ok (x,z):=by
 rw [List.append_assoc,tZ h0 h1 h2 h3 h4,pY,sn (pk _ _),List.append_assoc,GI hL hb]
 simp only
 rw [if_pos (F4 _ z)]
 have:=DF (body l last)
 have e:(pack (body l last)++z).drop ((pack (body l last)++z).length - (List.replicate (qP (body l last)) 0++aM z).length/8)=z:=by
  rw [List.length_append,List.length_append,List.length_replicate,dy,show (qP (body l last)+8*z.length)/8=z.length by omega,Nat.add_sub_cancel,List.drop_left]
 rw [e]
theorem oJ {t:List Nat} (h:0<t.length):0<bG t∧bG t≤t.length:=by
 refine ⟨?_,tz t⟩
 rcases Nat.eq_zero_or_pos (bG t) with e|e
 ·have:=qD (t:=t) (i:=0) (k:=t.length) (by omega) (by omega) (by rw [Ec];exact e)
  omega
 ·exact e
theorem Cx (x:List Nat):kX (bG x.reverse) (lf x) (aU x.reverse)= .ok x:=by
 obtain ⟨h1,h2⟩:=Gv x.reverse
 unfold kX
 rw [if_pos h1,h2,List.reverse_reverse,if_pos rfl]
theorem Fj {n:Nat} {x:List Nat} (hL:mw l (aU x.reverse)) (hb: ∀y∈aU x.reverse,y<256) (hx: ∀y∈x,y<256) (h0:0<x.length) (h1:x.length≤n) (z:List Nat):cC n (kF l x++z)= .ok (x,z):=by
 have hl:(aU x.reverse).length=x.length:=by rw [cj,List.length_reverse]
 have hi:=oJ (t:=x.reverse) (by rw [List.length_reverse];exact h0)
 rw [List.length_reverse] at hi
 have:=ub (n:=n) (P:=bG x.reverse) (sum:=lf x) hL hb (by omega) (by omega) hi.1 (by omega) (sF hx) z
 rw [hl,Cx] at this
 exact this
theorem Fu {n:Nat} {x:List Nat} (hL:mw l (aU x.reverse)) (hb: ∀y∈aU x.reverse,y<256) (hx: ∀y∈x,y<256) (h0:0<x.length) (h1:x.length≤n) {k:Nat} (hk:k<(kF l x).length):cC n ((kF l x).take k)= .error 50:=by
 have hl:(aU x.reverse).length=x.length:=by rw [cj,List.length_reverse]
 have hi:=oJ (t:=x.reverse) (by rw [List.length_reverse];exact h0)
 rw [List.length_reverse] at hi
 unfold kF at hk⊢
 rw [List.length_append] at hk
 rcases Nat.lt_or_ge k (fR x.length (bG x.reverse) (lf x)).length with h|h
 ·rw [List.take_append_of_le_length (by omega)]
  obtain ⟨s',e⟩:=xj (yn (n:=n) h0 h1 hi.1 hi.2 (sF hx) []) h
  unfold cC
  rw [e]
 ·rw [List.take_append,List.take_of_length_le h,tZ h0 h1 hi.1 hi.2 (sF hx)]
  generalize hj:k - (fR x.length (bG x.reverse) (lf x)).length=j
  have hpl:=il (body l (aU x.reverse))
  rw [AR,sn (pk _ _),List.take_append_of_le_length (by omega),←hl,Jb hL hb (by omega)]
end
end Go.aj
set_option maxRecDepth 20000
namespace Go.Vc
open Go
theorem BV {P:Program} {E w:World} {F:List HP} {t e:TypeId} {C:Array Value} {b n c:Nat} {K:Sl→World→Prop} (ht:P.underlying t=some (.slice e)) (he:P.underlying e=some (.int .u8))
  (h:Hp E w (aj b (.cells C e (0,0))::F)) (hK: ∀w',Hp E w' (aj b (.cells C e (C.size,C.size+1))::F)→K ⟨some ⟨b,0,none⟩,n,c⟩ w'):ay P (convert t t (.slice (some ⟨b,0,none⟩) n c)) kS w K:=by
 have hb:=h.aF
 have hlt:b<w.heap.size:=by
  rcases Nat.lt_or_ge b w.heap.size with hh|hh
  ·exact hh
  ·simp [Array.getElem?_eq_none hh] at hb
 have hsh:w.shape? b=some (e,C.size):=by unfold World.shape?;rw [hb]
 have key:(convert t t (.slice (some ⟨b,0,none⟩) n c)).run P w= .ok (.slice (some ⟨b,0,none⟩) n c) (w.freeze ⟨b,C.size,none⟩ 1):=by
  simp [convert,run_underlying ht,run_underlying he,markStringish,hsh]
 unfold ay;rw [key]
 refine hK _ (h.setObj ?_ rfl rfl rfl)
 unfold World.freeze
 rw [if_neg (by decide)]
 have hg:w.heap[b]= .cells C e (0,0):=by rw [Array.getElem?_eq_getElem hlt] at hb;exact Option.some.inj hb
 apply Array.ext_getElem?
 intro i
 rw [Array.set!_eq_setIfInBounds]
 by_cases hi:b=i
 ·subst hi
  simp [hlt]
  rw [Array.getElem_modify_self,hg]
  simp
 ·rw [Array.getElem?_setIfInBounds_ne hi,Array.getElem?_modify]
  simp [hi]
section
variable {E w:World} {F:List HP} {sz:Nat} {s:Sl} {xs ys:List Value}
theorem Hp.bY {A:HP} {l F:List HP} [h2:ju l F] (h:Hp E w (A::l)):Hp E w (A::F):=by
 obtain ⟨p,e⟩:=h2.sub
 subst e
 exact (h.perm List.perm_middle.symm).nc
theorem Hp.J5 {A B:HP} {l F:List HP} [h2:ju l F] (h:Hp E w (A::B::l)):Hp E w (A::B::F):=by
 obtain ⟨p,e⟩:=h2.sub
 subst e
 exact (h.perm ((List.Perm.cons A List.perm_middle.symm).trans List.perm_middle.symm)).nc
end
end Go.Vc
namespace Go.Proofs.YtcdpblipagajiaaGreat
open Go Go.Vc
section
variable {E w:World} {F:List HP}
set_option maxRecDepth 200000 in
theorem Ia {C:Array Value} {b n c:Nat} {K:Sl→World→Prop} (h:Hp E w (aj b (.cells C 5 (0,0))::F)) (hK: ∀w',Hp E w' (aj b (.cells C 5 (C.size,C.size+1))::F)→K ⟨some ⟨b,0,none⟩,n,c⟩ w'):
  ay Tryz.prog (convert 22 22 (.slice (some ⟨b,0,none⟩) n c)) kS w K:=BV (by kernel_rfl) (by kernel_rfl) h hK
end
end Go.Proofs.YtcdpblipagajiaaGreat
namespace Go.Proofs.YtcdpblipagajiaaGreat
open Go Go.Vc
set_option maxRecDepth 100000
theorem vk.ok (a:(Array Value)) (R:(Array Value)→Int→World→Prop) w (h:
 Nw 36 a w fun c b=>
 Nw 101 ⟨List.replicate 258 (.int .u32 0)⟩ b fun e d=>
 Ld (.arr 258) ⟨c,0,none⟩ d fun f=>
 Cl Pg [kB] ed ⟨[(.agg f)]⟩ d fun (h:Bool) g=>
 aa (!h)
 (Ld (.arr 258) ⟨e,0,none⟩ g fun i=>
 an 258 ⟨e,0,none⟩ i g fun j=>
 Ld (.arr 258) ⟨e,0,none⟩ j fun k=>
 R k 2 j)
 (Ld (.arr 258) ⟨c,0,none⟩ g fun l=>
 Cl Pg [kS] jd ⟨[(.agg l)]⟩ g fun (n:Sl) m=>
 vu 0 0 0 m fun o p (q:Int) (r:Int) (s:Int) t=>
 aa (decide (s<(n.len:Int)))
 (aq n s 1 fun u=>
 Ld kI u t fun (v:Int)=>
 av ⟨c,0,none⟩ 258 v 1 fun x=>
 Ld (az .u8) x t fun (y:Int)=>
 0≤(u8 (y - r))∧
 cL t fun z a1=>
 av ⟨c,0,none⟩ 258 v 1 fun b1=>
 ae (az .u8) b1 z fun (c1:Int)=>
 av ⟨e,0,none⟩ 258 v 1 fun d1=>
 St d1 (.int .u32 (bq .u32 q (u8 (y - r)))) a1 fun e1=>
 z e1∧
 o (u32 ((bq .u32 q (u8 (y - r)))+1)) c1 (i64 (s+1)) e1∧p (u32 ((bq .u32 q (u8 (y - r)))+1)) c1 (i64 (s+1)) e1<p q r s t)
 (Ld (.arr 258) ⟨e,0,none⟩ t fun f1=>
 an 258 ⟨e,0,none⟩ f1 t fun g1=>
 Ld (.arr 258) ⟨e,0,none⟩ g1 fun h1=>
 R h1 0 g1))):Cl Pg [(.arr 258),kI] iZ ⟨[(.agg a)]⟩ w R:=co Tryz.f97 [(12,[(4,(az .u32)),(5,(az .u8)),(15,kI)])] h
theorem vp.ok (a:(Array Value)) (R:Bool→World→Prop) w (h:
 Nw 36 a w fun c b=>
 Ld (.arr 258) ⟨c,0,none⟩ b fun d=>
 Cl Pg [kB] oA ⟨[(.agg d)]⟩ b fun (f:Bool) e=>
 R f e):Cl Pg [kB] ed ⟨[(.agg a)]⟩ w R:=co Tryz.f147 [] h
theorem wA.ok (a:(Array Value)) (R:Sl→World→Prop) w (h:
 Nw 36 a w fun c b=>
 Ld (.arr 258) ⟨c,0,none⟩ b fun d=>
 Cl Pg [kB] ed ⟨[(.agg d)]⟩ b fun (f:Bool) e=>
 aa (!f)
 (R (⟨none,0,0⟩:Sl) e)
 (Ld (.arr 258) ⟨c,0,none⟩ e fun g=>
 bE (⟨none,0,0⟩:Sl) 0 e fun h i (j:Sl) (k:Int) l=>
 aa (decide (k<258))
 (fl (.int .u8) g 258 k fun (m:Int)=>
 aa (decide (m>0))
 (Nw 3 ⟨[(ni k)]⟩ l fun o n=>
 ay Pg (Builtin.append_ #[33,33] 33 ⟨[(ah j),(ah (⟨some ⟨o,0,none⟩,1,1⟩:Sl))]⟩) kS n fun (q:Sl) p=>
 h q (i64 (k+1)) p∧i q (i64 (k+1)) p<i j k l)
 (h j (i64 (k+1)) l∧i j (i64 (k+1)) l<i j k l))
 (Cl Pg [] cg ⟨[(ah j),(.func (.func 188) ⟨[]⟩ ⟨[(.pointer (some ⟨c,0,none⟩))]⟩)]⟩ l fun r=>
 R j r))):Cl Pg [kS] jd ⟨[(.agg a)]⟩ w R:=co Tryz.f148 [(10,[(2,kS),(9,kI)])] h
theorem tT.ok (a:Int) (b:Int) (c:Addr) (R:Int→World→Prop) w (h:
 au w fun d=>
 av c 258 a 1 fun e=>
 Ld (az .u8) e d fun (f:Int)=>
 av c 258 b 1 fun g=>
 Ld (az .u8) g d fun (h:Int)=>
 Cl Pg [kI] gE ⟨[(.int .u8 f),(.int .u8 h)]⟩ d fun (j:Int) i=>
 R j i):Cl Pg [kI] lg ⟨[(ni a),(ni b),(.pointer (some c))]⟩ w R:=co Tryz.f188 [] h
end Go.Proofs.YtcdpblipagajiaaGreat
namespace Go.Proofs.YtcdpblipagajiaaGreat
open Go Go.Vc
set_option maxRecDepth 100000
theorem o0.ok (a:Int) (b:Int) (R:Int→World→Prop) w (h:
 Cl Pg [kB] gK ⟨[(ni a)]⟩ w fun (d:Bool) c=>
 Cl Pg [kB] gK ⟨[(ni b)]⟩ c fun (f:Bool) e=>
 aa d
 (aa f
 (R 0 e)
 (R (-1) e))
 (aa f
 (R 1 e)
 (aa (decide (a<b))
 (R (-1) e)
 (aa (decide (a>b))
 (R 1 e)
 (R 0 e))))):Cl Pg [kI] c9 ⟨[(ni a),(ni b)]⟩ w R:=co Tryz.f181 [] h
theorem tS.ok (a:Int) (b:Int) (R:Int→World→Prop) w (h:
 Cl Pg [kB] je ⟨[(.int .u8 a)]⟩ w fun (d:Bool) c=>
 Cl Pg [kB] je ⟨[(.int .u8 b)]⟩ c fun (f:Bool) e=>
 aa d
 (aa f
 (R 0 e)
 (R (-1) e))
 (aa f
 (R 1 e)
 (aa (decide (a<b))
 (R (-1) e)
 (aa (decide (a>b))
 (R 1 e)
 (R 0 e))))):Cl Pg [kI] gE ⟨[(.int .u8 a),(.int .u8 b)]⟩ w R:=co Tryz.f189 [] h
theorem cmp_isNaN_int.ok (a:Int) (R:Bool→World→Prop) w (h:
 R (a !=a) w):Cl Pg [kB] gK ⟨[(ni a)]⟩ w R:=co Tryz.f202 [] h
theorem oZ.ok (a:Int) (R:Bool→World→Prop) w (h:
 R (a !=a) w):Cl Pg [kB] je ⟨[(.int .u8 a)]⟩ w R:=co Tryz.f205 [] h
theorem EV.ok (a:Sl) (R:Int→World→Prop) w (h:
 cn 0 w fun b c (d:Int) e=>
 aa (decide (d<(a.len:Int)))
 (aq a d 1 fun f=>
 Ld kI f e fun (g:Int)=>
 aa (g !=0)
 (R g e)
 (b (i64 (d+1)) e∧c (i64 (d+1)) e<c d e))
 (R 0 e)):Cl Pg [kI] oB ⟨[(ah a)]⟩ w R:=co Tryz.f211 [(7,[(8,kI)])] h
end Go.Proofs.YtcdpblipagajiaaGreat
set_option maxRecDepth 20000
namespace Go.Srt
def Ky (key:Int→Int) (x y:Int):Prop:=key x<key y∨(key x=key y∧x<y)
theorem Ky.trans {key:Int→Int} {x y z:Int} (h:Ky key x y) (h2:Ky key y z):Ky key x z:=by
 unfold Ky at*;omega
abbrev Sd (key:Int→Int) (l:List Int):Prop:=l.Pairwise (Ky key)
theorem qd {α:Type} (P Q:List α) (x y:α):(P++x::Q).set P.length y=P++y::Q:=by
 rw [List.set_append_right _ _ (Nat.le_refl _)];simp
theorem JM {α:Type} (P Q:List α) (x:α) (h:P.length<(P++x::Q).length):(P++x::Q)[P.length]=x:=by
 rw [List.getElem_append_right (Nat.le_refl _)];simp
end Go.Srt
namespace Go.Proofs.YtcdpblipagajiaaGreat
open Go Go.Vc Go.Srt
section
variable {E w:World} {F:List HP}
theorem Js {s:Sl} {xs:List Int} {i j:Int} {K:World→Prop} (h:Hp E w (al 1 s (xs.map vI)::F)) (hi0:0≤i) (hi:i.toNat<xs.length) (hj0:0≤j) (hj:j.toNat<xs.length)
  (hK: ∀w',Hp E w' (al 1 s (((xs.set i.toNat xs[j.toNat]).set j.toNat xs[i.toNat]).map vI)::F)→K w'):
  aq s j 1 fun q=>Ld kI q w fun x=>aq s i 1 fun q'=>Ld kI q' w fun y=>aq s i 1 fun q2=>St q2 (.int .i64 x) w fun w1=>aq s j 1 fun q3=>St q3 (.int .i64 y) w1 K:=by
 have hl:=h.a6
 simp only [List.length_map,Nat.mul_one] at hl
 refine aq.rd (h.ag ab.own) hj0 (by omega) fun q hq hc=> ?_
 refine Ld.sc (s:= .int .i64) xs[j.toNat] (by rw [hc];simp [vI]) ?_
 refine aq.rd (h.ag ab.own) hi0 (by omega) fun q' hq' hc'=> ?_
 refine Ld.sc (s:= .int .i64) xs[i.toNat] (by rw [hc'];simp [vI]) ?_
 refine St.own h hi0 (by omega) rfl fun w1 h1=> ?_
 refine St.own h1 hj0 (by omega) rfl fun w2 h2=>hK _ ?_
 rw [List.map_set,List.map_set]
 exact h2
theorem KR {s:Sl} {P Q:List Int} {x y:Int} {i j:Int} {K:World→Prop} (h:Hp E w (al 1 s ((P++x::y::Q).map vI)::F)) (hi:i=(P.length:Int)) (hj:j=(P.length:Int)+1)
  (hK: ∀w',Hp E w' (al 1 s ((P++y::x::Q).map vI)::F)→K w'):
  aq s j 1 fun q=>Ld kI q w fun x=>aq s i 1 fun q'=>Ld kI q' w fun y=>aq s i 1 fun q2=>St q2 (.int .i64 x) w fun w1=>aq s j 1 fun q3=>St q3 (.int .i64 y) w1 K:=by
 refine Js h (by omega) (by simp;omega) (by omega) (by simp;omega) fun w' h'=>hK _ ?_
 have e1:i.toNat=P.length:=by omega
 have e2:j.toNat=(P++ [x]).length:=by simp;omega
 have g1:(P++x::y::Q)[i.toNat]'(by simp;omega)=x:=by simp only [e1];exact JM _ _ _ _
 have g2:(P++x::y::Q)[j.toNat]'(by simp;omega)=y:=by
  have:=JM (P++ [x]) Q y (by simp)
  simp only [e2];simp
 rw [g1,g2,e1,qd,e2,show (P++y::y::Q)=(P++ [y])++y::Q by simp,show (P++ [x]).length=(P++ [y]).length by simp,qd] at h'
 simpa using h'
theorem D4 {s:Sl} {P Q:List Int} {x y:Int} {i j:Int} {K:World→Prop} (h:Hp E w (al 1 s ((P++x::y::Q).map vI)::F)) (hi:i=(P.length:Int)) (hj:j=(P.length:Int)+1)
  (hK: ∀w',Hp E w' (al 1 s ((P++y::x::Q).map vI)::F)→K w'):
  aq s i 1 fun q=>Ld kI q w fun x=>aq s j 1 fun q'=>Ld kI q' w fun y=>aq s j 1 fun q2=>St q2 (.int .i64 x) w fun w1=>aq s i 1 fun q3=>St q3 (.int .i64 y) w1 K:=by
 refine Js h (by omega) (by simp;omega) (by omega) (by simp;omega) fun w' h'=>hK _ ?_
 have e1:i.toNat=P.length:=by omega
 have e2:j.toNat=(P++ [x]).length:=by simp;omega
 have g1:(P++x::y::Q)[i.toNat]'(by simp;omega)=x:=by simp only [e1];exact JM _ _ _ _
 have g2:(P++x::y::Q)[j.toNat]'(by simp;omega)=y:=by
  have:=JM (P++ [x]) Q y (by simp)
  simp only [e2];simp
 rw [g1,g2,e2,show (P++x::y::Q)=(P++ [x])++y::Q by simp,qd,e1,show (P++ [x])++x::Q=P++x::x::Q by simp,qd] at h'
 simpa using h'
theorem A3 {s:Sl} {P A C B Q:List Int} {fv:Value} {a b n:Int} {K:World→Prop} (h:Hp E w (al 1 s ((P++A++C++B++Q).map vI)::F)) (hab:A.length=B.length) (hbig:(P++A++C++B++Q).length≤cA)
  (ha:a=(P.length:Int)) (hb:b=((P++A++C).length:Int)) (hn:n=(A.length:Int)) (hK: ∀w',Hp E w' (al 1 s ((P++B++C++A++Q).map vI)::F)→K w'):
  Cl Tryz.prog [] bO ⟨[.slice s.base s.len s.cap,.int .i64 a,.int .i64 b,.int .i64 n,fv]⟩ w K:=by
 subst ha;subst hb;subst hn
 refine mj.ok _ _ _ _ _ _ _ ?_
 rw [aB] at hbig
 simp only [List.length_append] at hbig
 refine ⟨fun i w'=> ∃k:Nat,i=(k:Int)∧k≤A.length∧Hp E w' (al 1 s ((P++(B.take k++A.drop k)++C++(A.take k++B.drop k)++Q).map vI)::F),fun i _=>A.length - i.toNat,⟨0,rfl,by omega,by simpa using h⟩,?_⟩
 rintro i w' ⟨k,rfl,hk,hh⟩
 refine aa.mk (fun hlt=> ?_) (fun hge=> ?_)
 ·have hlt:k<A.length:=by have:=of_decide_eq_true hlt;omega
  refine au.mk hh fun w1 h1=> ?_
  simp only [List.length_append]
  rw [ad (x:=((P.length+A.length+C.length:Nat):Int)+(k:Int)) (by omega),ad (x:=(P.length:Int)+(k:Int)) (by omega)]
  have hkB:k<B.length:=by omega
  refine Js h1 (by omega) (by simp;omega) (by omega) (by simp;omega) fun w2 h2=> ?_
  rw [ad (by omega)]
  refine ⟨⟨k+1,rfl,by omega,?_⟩,by omega⟩
  have e1:((P.length:Int)+(k:Int)).toNat=P.length+k:=by omega
  have e2:(((P.length+A.length+C.length:Nat):Int)+(k:Int)).toNat=P.length+A.length+C.length+k:=by omega
  have dA:A.drop k=A[k]::A.drop (k+1):=(List.drop_eq_getElem_cons hlt)
  have dB:B.drop k=B[k]::B.drop (k+1):=(List.drop_eq_getElem_cons hkB)
  have tA:A.take (k+1)=A.take k++ [A[k]]:=by rw [List.take_add_one,List.getElem?_eq_getElem hlt];rfl
  have tB:B.take (k+1)=B.take k++ [B[k]]:=by rw [List.take_add_one,List.getElem?_eq_getElem hkB];rfl
  have X:P++(B.take k++A.drop k)++C++(A.take k++B.drop k)++Q=(P++B.take k)++A[k]::(A.drop (k+1)++C++A.take k++B[k]::(B.drop (k+1)++Q)):=by rw [dA,dB];simp only [List.append_assoc,List.cons_append,List.nil_append]
  have l1:(P++B.take k).length=P.length+k:=by simp;omega
  have X2: ∀z,(P++B.take k)++z::(A.drop (k+1)++C++A.take k++B[k]::(B.drop (k+1)++Q))=(P++B.take k++z::(A.drop (k+1)++C++A.take k))++B[k]::(B.drop (k+1)++Q):=by intro z;simp only [List.append_assoc,List.cons_append,List.nil_append]
  have l2: ∀z:Int,(P++B.take k++z::(A.drop (k+1)++C++A.take k)).length=P.length+A.length+C.length+k:=by intro z;simp;omega
  have g1:(P++(B.take k++A.drop k)++C++(A.take k++B.drop k)++Q)[((P.length:Int)+(k:Int)).toNat]? =some A[k]:=by
   rw [X,e1,←l1,List.getElem?_append_right (Nat.le_refl _)];simp
  have g2:(P++(B.take k++A.drop k)++C++(A.take k++B.drop k)++Q)[(((P.length+A.length+C.length:Nat):Int)+(k:Int)).toNat]? =some B[k]:=by
   rw [X,X2,e2,←l2 A[k],List.getElem?_append_right (Nat.le_refl _)];simp
  have g1':=(List.getElem?_eq_some_iff.1 g1).2
  have g2':=(List.getElem?_eq_some_iff.1 g2).2
  rw [g1',g2',e1,e2,X] at h2
  rw [←l1,qd,X2,←l2 B[k],qd] at h2
  have Y:P++B.take k++B[k]::(A.drop (k+1)++C++A.take k)++A[k]::(B.drop (k+1)++Q)=P++(B.take (k+1)++A.drop (k+1))++C++(A.take (k+1)++B.drop (k+1))++Q:=by rw [tA,tB];simp only [List.append_assoc,List.cons_append,List.nil_append]
  rw [Y] at h2
  exact h2
 ·have hge:k=A.length:=by have:=of_decide_eq_false hge;omega
  subst hge
  refine hK _ ?_
  rw [List.drop_eq_nil_of_le (Nat.le_refl _),List.take_length,List.take_of_length_le (by omega),List.drop_eq_nil_of_le (by omega)] at hh
  simpa using hh
theorem Je {s:Sl} {P A B Q:List Int} {fv:Value} {a m b:Int} {K:World→Prop} (h:Hp E w (al 1 s ((P++A++B++Q).map vI)::F)) (hA:A≠ []) (hB:B≠ []) (hbig:(P++A++B++Q).length≤cA)
  (ha:a=(P.length:Int)) (hm:m=((P++A).length:Int)) (hb:b=((P++A++B).length:Int)) (hK: ∀w',Hp E w' (al 1 s ((P++B++A++Q).map vI)::F)→K w'):
  Cl Tryz.prog [] dO ⟨[.slice s.base s.len s.cap,.int .i64 a,.int .i64 m,.int .i64 b,fv]⟩ w K:=by
 subst ha;subst hm;subst hb
 refine nV.ok _ _ _ _ _ _ _ ?_
 have hbg:=hbig
 rw [aB] at hbig
 simp only [List.length_append] at hbig
 have hA1:=List.length_pos_iff.2 hA
 have hB1:=List.length_pos_iff.2 hB
 refine ⟨fun i j w'=> ∃P' A' B' Q':List Int,i=(A'.length:Int)∧j=(B'.length:Int)∧A'≠ []∧B'≠ []∧(P'++A').length=(P++A).length∧P'++B'++A'++Q'=P++B++A++Q∧Hp E w' (al 1 s ((P'++A'++B'++Q').map vI)::F),
  fun i j _=>i.toNat+j.toNat,⟨P,A,B,Q,?_,?_,hA,hB,rfl,rfl,h⟩,?_⟩
 ·simp only [List.length_append];rw [ad (by omega)];omega
 ·simp only [List.length_append];rw [ad (by omega)];omega
 ·rintro i j w' ⟨P',A',B',Q',rfl,rfl,hA',hB',hm',htot,hh⟩
  have hA2:=List.length_pos_iff.2 hA'
  have hB2:=List.length_pos_iff.2 hB'
  have hlen:=congrArg List.length htot
  simp only [List.length_append] at hlen hm'⊢
  refine aa.mk (fun hne=>aa.mk (fun hgt=> ?_) (fun hle=> ?_)) (fun heq=> ?_)
  ·have hgt:=of_decide_eq_true hgt
   have hsp:A'.take B'.length++A'.drop B'.length=A':=List.take_append_drop _ _
   have ht:(A'.take B'.length).length=B'.length:=by simp;omega
   generalize A'.take B'.length=A1 at hsp ht
   generalize A'.drop B'.length=A2 at hsp
   subst hsp
   simp only [List.length_append] at hgt hlen hm' hA2⊢
   rw [ad (by omega),ad (by omega)]
   refine A3 (P:=P') (A:=A1) (C:=A2) (B:=B') (Q:=Q') (by simpa using hh) ht (by rw [aB];simp only [List.length_append];omega) (by omega) (by simp only [List.length_append];omega) (by omega) fun w2 h2=> ?_
   refine ⟨⟨P'++B',A2,A1,Q',by omega,by omega,?_,?_,by simp only [List.length_append];omega,by rw [←htot];simp only [List.append_assoc],by simpa using h2⟩,by omega⟩
   ·intro h0;rw [h0] at hgt;simp at hgt;omega
   ·intro h0;rw [h0] at ht;simp at ht;omega
  ·have hle:=of_decide_eq_false hle
   have hne: ¬(A'.length:Int)=(B'.length:Int):=by simpa using hne
   have hsp:B'.take (B'.length - A'.length)++B'.drop (B'.length - A'.length)=B':=List.take_append_drop _ _
   have ht:(B'.drop (B'.length - A'.length)).length=A'.length:=by simp;omega
   generalize B'.take (B'.length - A'.length)=B1 at hsp
   generalize B'.drop (B'.length - A'.length)=B2 at hsp ht
   subst hsp
   simp only [List.length_append] at hle hlen hne hB2⊢
   simp (disch:=omega) only [ad]
   refine A3 (P:=P') (A:=A') (C:=B1) (B:=B2) (Q:=Q') (by simpa using hh) ht.symm (by rw [aB];simp only [List.length_append];omega) (by omega) (by simp only [List.length_append];omega) rfl fun w2 h2=> ?_
   refine ⟨⟨P',B2,B1,A'++Q',by omega,by omega,?_,?_,by omega,by rw [←htot];simp only [List.append_assoc],by simpa using h2⟩,by omega⟩
   ·intro h0;rw [h0] at ht;simp at ht;omega
   ·intro h0;rw [h0] at hne;simp at hne;omega
  ·have heq:(A'.length:Int)=(B'.length:Int):=by simpa using heq
   rw [ad (by omega)]
   refine A3 (P:=P') (A:=A') (C:= []) (B:=B') (Q:=Q') (by simpa using hh) (by omega) (by rw [aB];simp;omega) (by omega) (by simp;omega) rfl fun w2 h2=>hK _ ?_
   rw [←htot]
   simpa using h2
def tE (E:World) (F:List HP) (fv:Value) (key:Int→Int) (D:Int→Prop):Prop:=
 ∀(A:List HP) (w:World) (y x:Int) (K:Int→World→Prop),Hp E w (A++F)→D x→D y→(∀z w',(z<0↔key y<key x)→Hp E w' (A++F)→K z w')→iY Tryz.prog fv [kI] [.int .i64 y,.int .i64 x] w K
theorem vG {key:Int→Int} {x y:Int} (h:x<y):(key y<key x↔Ky key y x)∧(¬key y<key x↔Ky key x y):=by
 unfold Ky;constructor<;>constructor<;>intro h2<;>omega
theorem Ln {key:Int→Int} {S:List Int} {y x:Int} (h:Sd key (S++ [y])) (hy:Ky key y x): ∀z∈S++ [y],Ky key z x:=by
 intro z hz
 rcases List.mem_append.1 hz with hz|hz
 ·have:=(List.pairwise_append.1 h).2.2 z hz y (by simp)
  exact this.trans hy
 ·have:z=y:=by simpa using hz
  subst this;exact hy
theorem uz {s:Sl} {P L Q:List Int} {fv:Value} {key:Int→Int} {D:Int→Prop} {a b:Int} {K:World→Prop} (h:Hp E w (al 1 s ((P++L++Q).map vI)::F)) (hbig:(P++L++Q).length≤cA)
  (hc:tE E F fv key D) (hD: ∀x∈L,D x) (hL:L.Pairwise (·< ·)) (ha:a=(P.length:Int)) (hb:b=((P++L).length:Int))
  (hK: ∀M w',M.Perm L→Sd key M→Hp E w' (al 1 s ((P++M++Q).map vI)::F)→K w'):
  Cl Tryz.prog [] bS ⟨[.slice s.base s.len s.cap,.int .i64 a,.int .i64 b,fv]⟩ w K:=by
 subst ha;subst hb
 refine ko.ok _ _ _ _ _ _ ?_
 rw [aB] at hbig
 simp only [List.length_append] at hbig⊢
 refine ⟨fun i w'=> ∃(k:Nat) (S:List Int),i=((P.length+k:Nat):Int)∧1≤k∧S.Perm (L.take k)∧Sd key S∧Hp E w' (al 1 s ((P++S++L.drop k++Q).map vI)::F),fun i _=>P.length+L.length - i.toNat,⟨1,L.take 1,?_,by omega,List.Perm.refl _,?_,by rw [List.append_assoc P,List.take_append_drop];exact h⟩,?_⟩
 ·rw [ad (by omega)];omega
 ·cases L<;>simp
 rintro i w' ⟨k,S,rfl,hk1,hS,hsd,hh⟩
 refine aa.mk (fun hlt=> ?_) (fun hge=> ?_)
 ·have hlt:k<L.length:=by have:=of_decide_eq_true hlt;omega
  have hSl:S.length=k:=by have:=hS.length_eq;rw [List.length_take] at this;omega
  have dL:L.drop k=L[k]::L.drop (k+1):=List.drop_eq_getElem_cons hlt
  have tL:L.take (k+1)=L.take k++ [L[k]]:=by rw [List.take_add_one,List.getElem?_eq_getElem hlt];rfl
  have hxin:L[k]∈L:=List.getElem_mem hlt
  have hless: ∀y∈S,y<L[k]:=by
   intro y hy
   have hy':y∈L.take k:=hS.mem_iff.1 hy
   rw [←List.take_append_drop k L,List.pairwise_append] at hL
   exact hL.2.2 y hy' L[k] (by rw [dL];exact List.mem_cons_self ..)
  have hSin: ∀y∈S,y∈L:=fun y hy=>List.mem_of_mem_take (hS.mem_iff.1 hy)
  generalize L[k]=x at*
  refine ⟨fun j w'=> ∃S1 S2:List Int,j=((P.length+S1.length:Nat):Int)∧S=S1++S2∧(∀y∈S2,Ky key x y)∧Hp E w' (al 1 s ((P++S1++x::S2++L.drop (k+1)++Q).map vI)::F),fun j _=>j.toNat - P.length,⟨S,[],by omega,by simp,by simp,?_⟩,?_⟩
  ·rw [dL] at hh;simpa using hh
  rintro j w' ⟨S1,S2,rfl,rfl,hS2,hh⟩
  have fin: ∀w',(∀y∈S1,Ky key y x)→Hp E w' (al 1 s ((P++S1++x::S2++L.drop (k+1)++Q).map vI)::F)→
    (∃(k_1:Nat) (S:List Int),i64 (((P.length+k:Nat):Int)+1)=((P.length+k_1:Nat):Int)∧1≤k_1∧S.Perm (L.take k_1)∧Sd key S∧Hp E w' (al 1 s ((P++S++L.drop k_1++Q).map vI)::F))∧P.length+L.length - (i64 (((P.length+k:Nat):Int)+1)).toNat<P.length+L.length - (((P.length+k:Nat):Int)).toNat:=by
   intro w' hS1 hh
   rw [ad (by omega)]
   refine ⟨⟨k+1,S1++x::S2,by omega,by omega,?_,?_,by simpa using hh⟩,by omega⟩
   ·rw [tL]
    refine List.perm_middle.trans ?_
    exact (List.Perm.cons x hS).trans (List.perm_append_comm (l₁:= [x]))
   ·obtain ⟨p1,p2,p3⟩:=List.pairwise_append.1 hsd
    refine List.pairwise_append.2 ⟨p1,List.pairwise_cons.2 ⟨hS2,p2⟩,fun y hy z hz=> ?_⟩
    rcases List.mem_cons.1 hz with rfl|hz
    ·exact hS1 y hy
    ·exact p3 y hy z hz
  refine au.mk hh fun w1 h1=>aa.mk (fun hgt=> ?_) (fun hle=> ?_)
  ·have hgt:=of_decide_eq_true hgt
   rcases List.eq_nil_or_concat S1 with rfl|⟨S1',y,rfl⟩
   ·simp at hgt
   ·rw [List.concat_eq_append] at*
    simp only [List.length_append,List.length_cons,List.length_nil] at*
    have hln:=h1.a6
    simp only [List.length_map,List.length_append,List.length_cons,List.length_nil,Nat.mul_one] at hln
    rw [ad (by omega)]
    have hform:P++(S1'++ [y])++x::S2++L.drop (k+1)++Q=(P++S1')++y::x::(S2++L.drop (k+1)++Q):=by simp
    have gx:(P++(S1'++ [y])++x::S2++L.drop (k+1)++Q)[P.length+S1'.length+1]? =some x:=by
     rw [hform,show P.length+S1'.length+1=(P++S1').length+1 by simp,List.getElem?_append_right (by omega)];simp
    have gy:(P++(S1'++ [y])++x::S2++L.drop (k+1)++Q)[P.length+S1'.length]? =some y:=by
     rw [hform,show P.length+S1'.length=(P++S1').length by simp,List.getElem?_append_right (by omega)];simp
    refine aq.rd (h1.ag ab.own) (by omega) (by omega) fun q hq hc1=> ?_
    refine Ld.sc (s:= .int .i64) x (by
     rw [hc1,←List.getElem?_eq_getElem,List.getElem?_map,show (((P.length+(S1'.length+(0+1)):Nat):Int)).toNat=P.length+S1'.length+1 by omega,gx];rfl) ?_
    refine aq.rd (h1.ag ab.own) (by omega) (by omega) fun q2 hq2 hc2=> ?_
    refine Ld.sc (s:= .int .i64) y (by
     rw [hc2,←List.getElem?_eq_getElem,List.getElem?_map,show (((P.length+(S1'.length+(0+1)):Nat):Int) - 1).toNat=P.length+S1'.length by omega,gy];rfl) ?_
    refine hc [_] w1 x y _ h1 (hD y (hSin y (by simp))) (hD x hxin) fun z w2 hz h2=> ?_
    have hyx:=vG (key:=key) (hless y (by simp))
    refine aa.mk (fun hneg=> ?_) (fun hpos=> ?_)
    ·have hneg:=hyx.1.1 (hz.1 (of_decide_eq_true hneg))
     refine au.mk h2 fun w3 h3=> ?_
     refine D4 (P:=P++S1') (Q:=S2++L.drop (k+1)++Q) (x:=y) (y:=x) (by rw [←hform];exact h3) (by simp;omega) (by simp;omega) fun w4 h4=> ?_
     refine ⟨⟨S1',y::S2,by omega,by simp,?_,by simpa using h4⟩,by omega⟩
     intro z hz
     rcases List.mem_cons.1 hz with rfl|hz
     ·exact hneg
     ·exact hS2 z hz
    ·have hpos:=hyx.2.1 (fun hk=>(of_decide_eq_false hpos) (hz.2 hk))
     exact fin w2 (Ln (List.pairwise_append.1 hsd).1 hpos) h2
  ·have hle:=of_decide_eq_false hle
   have:S1= []:=List.length_eq_zero_iff.1 (by omega)
   subst this
   exact fin w1 (by simp) h1
 ·have hge:L.length≤k:=by have:=of_decide_eq_false hge;omega
  rw [List.take_of_length_le hge] at hS
  rw [List.drop_eq_nil_of_le hge] at hh
  exact hK S _ hS hsd (by simpa using hh)
end
end Go.Proofs.YtcdpblipagajiaaGreat
set_option maxRecDepth 20000
namespace Go.Proofs.YtcdpblipagajiaaGreat
open Go Go.Vc Go.Srt
section
variable {E w:World} {F:List HP}
theorem AP {s:Sl} {xs:List Int} {i:Int} {x:Int} {K:Int→Prop} (h:Hp E w (al 1 s (xs.map vI)::F)) (h0:0≤i) (hx:xs[i.toNat]? =some x) (hK:K x):aq s i 1 fun q=>Ld kI q w K:=by
 have hl:=h.a6
 simp only [List.length_map,Nat.mul_one] at hl
 have hi:=(List.getElem?_eq_some_iff.1 hx).1
 refine aq.rd (h.ag ab.own) h0 (by omega) fun q hq hc=> ?_
 refine Ld.sc (s:= .int .i64) x (by rw [hc,←List.getElem?_eq_getElem,List.getElem?_map,hx];rfl) hK
theorem ifs {c1 c2:Bool} {X Y:Prop} (h1:c1=true→c2=true→Y) (h2:c1=false∨c2=false→X):aa c1 (aa c2 Y X) X:=by
 cases c1<;>cases c2<;>simp [aa]<;>first|exact h1 rfl rfl|exact h2 (.inl rfl)|exact h2 (.inr rfl)
theorem Cb {α:Type} {r:α} {k:α→Prop} (C:α→Prop) (h1:C r) (h2: ∀K,C K→k K):bo r k:=h2 r h1
theorem zQ {a b:Int} {k:Nat} (h:a+b=(k:Int)) (hk:k≤4*cA):i64 (aK .u64 (u64 (i64 (a+b))) 1)=((k/2:Nat):Int):=by
 rw [aB] at hk
 rw [h,ad (x:=(k:Int)) (by omega),ik (x:=(k:Int)) (by omega)]
 have:=cb (k:= .u64) (a:=k) (b:=1) (by decide)
 rw [show (1:Int)=((1:Nat):Int) from rfl,this,ad (by omega)]
theorem zM {key:Int→Int} {R:List Int} (h:Sd key R) {t u:Nat} (hu:u<R.length) (ht:t≤u) {x:Int} (hx:Ky key R[u] x):Ky key (R[t]'(by omega)) x:=by
 by_cases e:t=u
 ·subst e;exact hx
 ·exact ((List.pairwise_iff_getElem.1 h) t u (by omega) hu (by omega)).trans hx
theorem zD {key:Int→Int} {R:List Int} (h:Sd key R) {t u:Nat} (hu:u<R.length) (ht:t≤u) {x:Int} (hx:Ky key x (R[t]'(by omega))):Ky key x R[u]:=by
 by_cases e:t=u
 ·subst e;exact hx
 ·exact hx.trans ((List.pairwise_iff_getElem.1 h) t u (by omega) hu (by omega))
theorem Hb {key:Int→Int} {A B:List Int} {x:Int} (h:Sd key (A++B)) (h1: ∀y∈A,Ky key y x) (h2: ∀y∈B,Ky key x y):Sd key (A++x::B):=by
 obtain ⟨p1,p2,p3⟩:=List.pairwise_append.1 h
 refine List.pairwise_append.2 ⟨p1,List.pairwise_cons.2 ⟨h2,p2⟩,fun y hy z hz=> ?_⟩
 rcases List.mem_cons.1 hz with rfl|hz
 ·exact h1 y hy
 ·exact p3 y hy z hz
theorem nd {s:Sl} {fv:Value} {key:Int→Int} {D:Int→Prop} (hc:tE E F fv key D):
  ∀(N:Nat) {P L R Q:List Int} {w:World} {a m b:Int} {K:World→Prop},L.length+R.length≤N→Hp E w (al 1 s ((P++L++R++Q).map vI)::F)→(P++L++R++Q).length≤cA→
  L≠ []→R≠ []→Sd key L→Sd key R→(∀x∈L,∀y∈R,x<y)→(∀x∈L,D x)→(∀x∈R,D x)→a=(P.length:Int)→m=((P.length+L.length:Nat):Int)→b=((P.length+L.length+R.length:Nat):Int)→
  (∀M w',M.Perm (L++R)→Sd key M→Hp E w' (al 1 s ((P++M++Q).map vI)::F)→K w')→
  Cl Tryz.prog [] a8 ⟨[.slice s.base s.len s.cap,.int .i64 a,.int .i64 m,.int .i64 b,fv]⟩ w K
 |0,P,L,R,Q,w,a,m,b,K,hN,_,_,hL,_,_,_,_,_,_,_,_,_,_=>absurd (List.length_eq_zero_iff.1 (by omega:L.length=0)) hL
 |N+1,P,L,R,Q,w,a,m,b,K,hN,h,hbig,hL,hR,hsL,hsR,hLR,hDL,hDR,ha,hm,hb,hK=>by
  subst ha;subst hm;subst hb
  refine mz.ok _ _ _ _ _ _ _ ?_
  have hbg:=hbig
  rw [aB] at hbig
  simp only [List.length_append] at hbig
  have hL1:=List.length_pos_iff.2 hL
  have hR1:=List.length_pos_iff.2 hR
  refine aa.mk (fun h1=> ?_) (fun h1=>aa.mk (fun h2=> ?_) (fun h2=> ?_))
  ·have h1:L.length=1:=by
    rw [ad (by omega)] at h1
    have:=of_decide_eq_true h1;omega
   obtain ⟨x,rfl⟩:=List.length_eq_one_iff.1 h1
   simp only [List.length_cons,List.length_nil,Nat.zero_add] at hbig⊢
   have gR: ∀t (ht:t<R.length),(P++ [x]++R++Q)[P.length+1+t]? =some R[t]:=by
    intro t ht
    rw [List.append_assoc (P++ [x]),List.getElem?_append_right (by simp<;>omega),List.getElem?_append_left (by simp<;>omega)]
    simp only [List.length_append,List.length_cons,List.length_nil]
    rw [show P.length+1+t - (P.length+(0+1))=t by omega,List.getElem?_eq_getElem ht]
   have gx:(P++ [x]++R++Q)[P.length]? =some x:=by
    rw [show P++ [x]++R++Q=P++x::(R++Q) by simp,List.getElem?_append_right (Nat.le_refl _)];simp
   refine ⟨fun i j w'=> ∃u v:Nat,i=((P.length+1+u:Nat):Int)∧j=((P.length+1+v:Nat):Int)∧u≤v∧v≤R.length∧(∀t (_:t<u) (h:t<R.length),Ky key R[t] x)∧(∀t (_:v≤t) (h:t<R.length),Ky key x R[t])∧Hp E w' (al 1 s ((P++ [x]++R++Q).map vI)::F),
    fun i j _=>j.toNat - i.toNat,⟨0,R.length,rfl,by omega,by omega,Nat.le_refl _,fun t ht=>by omega,fun t ht h=>by omega,h⟩,?_⟩
   rintro i j w' ⟨u,v,rfl,rfl,huv,hv,hlo,hhi,hh⟩
   refine aa.mk (fun hlt=> ?_) (fun hge=> ?_)
   ·have hlt:=of_decide_eq_true hlt
    have hlt:u<v:=by omega
    refine ⟨by decide,au.mk hh fun w1 h1=> ?_⟩
    rw [zQ (k:=P.length+1+u+(P.length+1+v)) (by omega) (by rw [aB];omega)]
    obtain ⟨t,ht⟩: ∃t,(P.length+1+u+(P.length+1+v))/2=P.length+1+t:=⟨(u+v)/2,by omega⟩
    rw [ht]
    have htu:u≤t:=by omega
    have htv:t<v:=by omega
    have htR:t<R.length:=by omega
    refine AP h1 (by omega) (x:=R[t]) (by rw [Int.toNat_natCast];exact gR t htR) ?_
    refine AP h1 (by omega) (x:=x) (by rw [Int.toNat_natCast];exact gx) ?_
    have hxy:=hLR x (by simp) R[t] (List.getElem_mem htR)
    have hyx:=vG (key:=key) hxy
    refine hc [_] w1 R[t] x _ h1 (hDL x (by simp)) (hDR _ (List.getElem_mem htR)) fun z w2 hz h2=> ?_
    refine aa.mk (fun hneg=> ?_) (fun hpos=> ?_)
    ·have hneg:=hyx.1.1 (hz.1 (of_decide_eq_true hneg))
     rw [ad (by omega)]
     exact ⟨⟨t+1,v,by omega,rfl,by omega,hv,fun t' h' hl=>zM hsR htR (by omega) hneg,hhi,h2⟩,by dsimp only;omega⟩
    ·have hpos:=hyx.2.1 (fun hk=>(of_decide_eq_false hpos) (hz.2 hk))
     exact ⟨⟨u,t,rfl,rfl,htu,by omega,hlo,fun t' h' hl=>zD hsR hl h' hpos,h2⟩,by dsimp only;omega⟩
   ·have hge:u=v:=by have:=of_decide_eq_false hge;omega
    subst hge
    refine ⟨fun k w'=> ∃t:Nat,k=((P.length+t:Nat):Int)∧t≤u∧Hp E w' (al 1 s ((P++R.take t++x::R.drop t++Q).map vI)::F),fun k _=>P.length+u - k.toNat,⟨0,rfl,by omega,by simpa using hh⟩,?_⟩
    rintro k w' ⟨t,rfl,htu,hh⟩
    rw [ad (by omega)]
    refine aa.mk (fun hlt=> ?_) (fun hge=> ?_)
    ·have hlt:t<u:=by have:=of_decide_eq_true hlt;omega
     have htR:t<R.length:=by omega
     have dR:R.drop t=R[t]::R.drop (t+1):=List.drop_eq_getElem_cons htR
     have tR:R.take (t+1)=R.take t++ [R[t]]:=by rw [List.take_add_one,List.getElem?_eq_getElem htR];rfl
     refine au.mk hh fun w1 h1=> ?_
     rw [ad (x:=((P.length+t:Nat):Int)+1) (by omega)]
     refine KR (P:=P++R.take t) (Q:=R.drop (t+1)++Q) (x:=x) (y:=R[t]) (by rw [dR] at h1;simpa only [List.append_assoc,List.cons_append] using h1) (by simp;omega) (by simp;omega) fun w2 h2=> ?_
     exact ⟨⟨t+1,by omega,by omega,by rw [tR];simpa only [List.append_assoc,List.cons_append,List.nil_append] using h2⟩,by dsimp only;omega⟩
    ·have hge:t=u:=by have:=of_decide_eq_false hge;omega
     subst hge
     refine hK (R.take t++x::R.drop t) _ ?_ ?_ (by simpa only [List.append_assoc,List.cons_append] using hh)
     ·refine List.perm_middle.trans ?_
      rw [List.take_append_drop];exact List.Perm.refl _
     ·refine Hb (by rw [List.take_append_drop];exact hsR) (fun y hy=> ?_) (fun y hy=> ?_)
      ·obtain ⟨i,hi,rfl⟩:=List.getElem_of_mem hy
       rw [List.getElem_take]
       exact hlo i (by simp at hi;omega) _
      ·obtain ⟨i,hi,rfl⟩:=List.getElem_of_mem hy
       rw [List.getElem_drop]
       exact hhi _ (by omega) _
  ·have h2:R.length=1:=by
    rw [ad (by omega)] at h2
    have:=of_decide_eq_true h2;omega
   obtain ⟨y,rfl⟩:=List.length_eq_one_iff.1 h2
   simp only [List.length_cons,List.length_nil,Nat.zero_add] at hbig⊢
   have gL: ∀t (ht:t<L.length),(P++L++ [y]++Q)[P.length+t]? =some L[t]:=by
    intro t ht
    rw [List.append_assoc (P++L),List.append_assoc P,List.getElem?_append_right (by omega),List.getElem?_append_left (by omega)]
    rw [show P.length+t - P.length=t by omega,List.getElem?_eq_getElem ht]
   have gy:(P++L++ [y]++Q)[P.length+L.length]? =some y:=by
    rw [show P++L++ [y]++Q=(P++L)++y::Q by simp,List.getElem?_append_right (by simp)];simp
   refine ⟨fun i j w'=> ∃u v:Nat,i=((P.length+u:Nat):Int)∧j=((P.length+v:Nat):Int)∧u≤v∧v≤L.length∧(∀t (_:t<u) (h:t<L.length),Ky key L[t] y)∧(∀t (_:v≤t) (h:t<L.length),Ky key y L[t])∧Hp E w' (al 1 s ((P++L++ [y]++Q).map vI)::F),
    fun i j _=>j.toNat - i.toNat,⟨0,L.length,rfl,rfl,by omega,Nat.le_refl _,fun t ht=>by omega,fun t ht h=>by omega,h⟩,?_⟩
   rintro i j w' ⟨u,v,rfl,rfl,huv,hv,hlo,hhi,hh⟩
   refine aa.mk (fun hlt=> ?_) (fun hge=> ?_)
   ·have hlt:=of_decide_eq_true hlt
    have hlt:u<v:=by omega
    refine ⟨by decide,au.mk hh fun w1 h1=> ?_⟩
    rw [zQ (k:=P.length+u+(P.length+v)) (by omega) (by rw [aB];omega)]
    obtain ⟨t,ht⟩: ∃t,(P.length+u+(P.length+v))/2=P.length+t:=⟨(u+v)/2,by omega⟩
    rw [ht]
    have htu:u≤t:=by omega
    have htv:t<v:=by omega
    have htL:t<L.length:=by omega
    refine AP h1 (by omega) (x:=y) (by rw [Int.toNat_natCast];exact gy) ?_
    refine AP h1 (by omega) (x:=L[t]) (by rw [Int.toNat_natCast];exact gL t htL) ?_
    have hxy:=hLR L[t] (List.getElem_mem htL) y (by simp)
    have hyx:=vG (key:=key) hxy
    refine hc [_] w1 y L[t] _ h1 (hDL _ (List.getElem_mem htL)) (hDR y (by simp)) fun z w2 hz h2=> ?_
    refine aa.mk (fun hneg=> ?_) (fun hpos=> ?_)
    ·have hneg: ¬z<0:=by simpa using hneg
     have hneg:=hyx.2.1 (fun hk=>hneg (hz.2 hk))
     rw [ad (by omega)]
     exact ⟨⟨t+1,v,by omega,rfl,by omega,hv,fun t' h' hl=>zM hsL htL (by omega) hneg,hhi,h2⟩,by dsimp only;omega⟩
    ·have hpos:z<0:=by simpa using hpos
     have hpos:=hyx.1.1 (hz.1 hpos)
     exact ⟨⟨u,t,rfl,rfl,htu,by omega,hlo,fun t' h' hl=>zD hsL hl h' hpos,h2⟩,by dsimp only;omega⟩
   ·have hge:u=v:=by have:=of_decide_eq_false hge;omega
    subst hge
    refine ⟨fun k w'=> ∃t:Nat,k=((P.length+t:Nat):Int)∧u≤t∧t≤L.length∧Hp E w' (al 1 s ((P++L.take t++y::L.drop t++Q).map vI)::F),fun k _=>k.toNat,⟨L.length,rfl,by omega,Nat.le_refl _,by simpa using hh⟩,?_⟩
    rintro k w' ⟨t,rfl,htu,htl,hh⟩
    refine aa.mk (fun hlt=> ?_) (fun hge=> ?_)
    ·have hlt:u<t:=by have:=of_decide_eq_true hlt;omega
     obtain ⟨t,rfl⟩: ∃t',t=t'+1:=⟨t - 1,by omega⟩
     have htL:t<L.length:=by omega
     have dL:L.drop t=L[t]::L.drop (t+1):=List.drop_eq_getElem_cons htL
     have tL:L.take (t+1)=L.take t++ [L[t]]:=by rw [List.take_add_one,List.getElem?_eq_getElem htL];rfl
     refine au.mk hh fun w1 h1=> ?_
     rw [ad (x:=((P.length+(t+1):Nat):Int) - 1) (by omega)]
     refine D4 (P:=P++L.take t) (Q:=L.drop (t+1)++Q) (x:=L[t]) (y:=y) (by rw [tL] at h1;simpa only [List.append_assoc,List.cons_append,List.nil_append] using h1) (by simp;omega) (by simp;omega) fun w2 h2=> ?_
     exact ⟨⟨t,by omega,by omega,by omega,by rw [dL];simpa only [List.append_assoc,List.cons_append,List.nil_append] using h2⟩,by dsimp only;omega⟩
    ·have hge:t=u:=by have:=of_decide_eq_false hge;omega
     subst hge
     refine hK (L.take t++y::L.drop t) _ ?_ ?_ (by simpa only [List.append_assoc,List.cons_append] using hh)
     ·refine List.perm_middle.trans ?_
      rw [List.take_append_drop];exact List.perm_append_comm (l₁:= [y])
     ·refine Hb (by rw [List.take_append_drop];exact hsL) (fun y hy=> ?_) (fun y hy=> ?_)
      ·obtain ⟨i,hi,rfl⟩:=List.getElem_of_mem hy
       rw [List.getElem_take]
       exact hlo i (by simp at hi;omega) _
      ·obtain ⟨i,hi,rfl⟩:=List.getElem_of_mem hy
       rw [List.getElem_drop]
       exact hhi _ (by omega) _
  ·have h1:L.length≠1:=by
    intro h0
    rw [ad (by omega)] at h1
    have h1:=of_decide_eq_false h1;omega
   have h2:R.length≠1:=by
    intro h0
    rw [ad (by omega)] at h2
    have h2:=of_decide_eq_false h2;omega
   have hmid:i64 (aK .u64 (u64 (i64 ((P.length:Int)+((P.length+L.length+R.length:Nat):Int)))) 1)=((P.length+(L.length+R.length)/2:Nat):Int):=by
    rw [zQ (k:=P.length+(P.length+L.length+R.length)) (by omega) (by rw [aB];omega)]
    omega
   simp only [hmid]
   refine ⟨by decide,?_⟩
   obtain ⟨hf,hfe⟩: ∃hf,(L.length+R.length)/2=hf:=⟨_,rfl⟩
   rw [hfe]
   have gL: ∀t (ht:t<L.length),(P++L++R++Q)[P.length+t]? =some L[t]:=by
    intro t ht
    rw [List.append_assoc (P++L),List.append_assoc P,List.getElem?_append_right (by omega),List.getElem?_append_left (by omega)]
    rw [show P.length+t - P.length=t by omega,List.getElem?_eq_getElem ht]
   have gR: ∀t (ht:t<R.length),(P++L++R++Q)[P.length+L.length+t]? =some R[t]:=by
    intro t ht
    rw [List.append_assoc (P++L),List.getElem?_append_right (by simp),List.getElem?_append_left (by simp;omega)]
    rw [List.length_append,show P.length+L.length+t - (P.length+L.length)=t by omega,List.getElem?_eq_getElem ht]
   refine Cb (fun K2=> ∀(u0 v0:Nat) (i j:Int),i=((P.length+u0:Nat):Int)→j=((P.length+v0:Nat):Int)→u0≤v0→v0≤hf→v0≤L.length→hf≤u0+R.length→(u0=0∨hf=u0+R.length)→(v0=hf∨v0=L.length)→K2 i j w) ?_ fun K2 hK2=> ?_
   ·rintro u0 v0 i j rfl rfl huv0 hv1 hv2 hu1 hu2 hv3
    refine ⟨fun i j w'=> ∃u v:Nat,i=((P.length+u:Nat):Int)∧j=((P.length+v:Nat):Int)∧u0≤u∧u≤v∧v≤v0∧(u=u0∨∃x y,L[u - 1]? =some x∧R[hf - u]? =some y∧Ky key x y)∧(v=v0∨∃x y,L[v]? =some x∧R[hf - 1 - v]? =some y∧Ky key y x)∧Hp E w' (al 1 s ((P++L++R++Q).map vI)::F),
     fun i j _=>j.toNat - i.toNat,⟨u0,v0,rfl,rfl,by omega,huv0,by omega,.inl rfl,.inl rfl,h⟩,?_⟩
    rintro i j w' ⟨u,v,rfl,rfl,hu0,huv,hv0,hlo,hhi,hh⟩
    refine aa.mk (fun hlt=> ?_) (fun hge=> ?_)
    ·have hlt:=of_decide_eq_true hlt
     have hlt:u<v:=by omega
     refine ⟨by decide,au.mk hh fun w1 h1=> ?_⟩
     rw [zQ (k:=P.length+u+(P.length+v)) (by omega) (by rw [aB];omega)]
     obtain ⟨t,ht⟩: ∃t,(P.length+u+(P.length+v))/2=P.length+t:=⟨(u+v)/2,by omega⟩
     rw [ht]
     have htu:u≤t:=by omega
     have htv:t<v:=by omega
     have htL:t<L.length:=by omega
     have htR:hf - 1 - t<R.length:=by omega
     simp (disch:=omega) only [ad]
     refine AP h1 (by omega) (x:=R[hf - 1 - t]) (by
      rw [show (((P.length+hf:Nat):Int)+((P.length+L.length:Nat):Int) - 1 - ((P.length+t:Nat):Int)).toNat=P.length+L.length+(hf - 1 - t) by omega];exact gR _ htR) ?_
     refine AP h1 (by omega) (x:=L[t]) (by rw [Int.toNat_natCast];exact gL t htL) ?_
     have hxy:=hLR L[t] (List.getElem_mem htL) _ (List.getElem_mem htR)
     have hyx:=vG (key:=key) hxy
     refine hc [_] w1 _ L[t] _ h1 (hDL _ (List.getElem_mem htL)) (hDR _ (List.getElem_mem htR)) fun z w2 hz h2=> ?_
     refine aa.mk (fun hneg=> ?_) (fun hpos=> ?_)
     ·have hneg: ¬z<0:=by simpa using hneg
      have hneg:=hyx.2.1 (fun hk=>hneg (hz.2 hk))
      refine ⟨⟨t+1,v,by omega,rfl,by omega,by omega,hv0,.inr ⟨L[t],R[hf - 1 - t],?_,?_,hneg⟩,hhi,h2⟩,by omega⟩
      ·simp [htL]
      ·rw [show hf - (t+1)=hf - 1 - t by omega];exact List.getElem?_eq_getElem htR
     ·have hpos:z<0:=by simpa using hpos
      have hpos:=hyx.1.1 (hz.1 hpos)
      exact ⟨⟨u,t,rfl,rfl,hu0,htu,by omega,hlo,.inr ⟨L[t],R[hf - 1 - t],List.getElem?_eq_getElem htL,List.getElem?_eq_getElem htR,hpos⟩,h2⟩,by omega⟩
    ·have hge:u=v:=by have:=of_decide_eq_false hge;omega
     subst hge
     have huL:u≤L.length:=by omega
     have huR:hf - u≤R.length:=by omega
     have hend:i64 (i64 (((P.length+hf:Nat):Int)+((P.length+L.length:Nat):Int)) - ((P.length+u:Nat):Int))=((P.length+L.length+(hf - u):Nat):Int):=by
      simp (disch:=omega) only [ad];omega
     simp only [hend]
     have c1: ∀x∈L.take u,∀y∈R.drop (hf - u),Ky key x y:=by
      intro x hx y hy
      obtain ⟨i,hi,rfl⟩:=List.getElem_of_mem hx
      obtain ⟨j,hj,rfl⟩:=List.getElem_of_mem hy
      simp only [List.length_take,List.length_drop] at hi hj
      rw [List.getElem_take,List.getElem_drop]
      rcases hlo with h0|⟨x,y,hx,hy,hk⟩
      ·rcases hu2 with h0'|h0'<;>omega
      ·obtain ⟨q1,q2⟩:=List.getElem?_eq_some_iff.1 hx
       obtain ⟨q3,q4⟩:=List.getElem?_eq_some_iff.1 hy
       subst q2;subst q4
       exact zD hsR (by omega) (by omega) (zM hsL q1 (by omega) hk)
     have c2: ∀y∈R.take (hf - u),∀x∈L.drop u,Ky key y x:=by
      intro y hy x hx
      obtain ⟨i,hi,rfl⟩:=List.getElem_of_mem hy
      obtain ⟨j,hj,rfl⟩:=List.getElem_of_mem hx
      simp only [List.length_take,List.length_drop] at hi hj
      rw [List.getElem_take,List.getElem_drop]
      rcases hhi with h0|⟨x,y,hx,hy,hk⟩
      ·rcases hv3 with h0'|h0'<;>omega
      ·obtain ⟨q1,q2⟩:=List.getElem?_eq_some_iff.1 hx
       obtain ⟨q3,q4⟩:=List.getElem?_eq_some_iff.1 hy
       subst q2;subst q4
       exact zD hsL (by omega) (by omega) (zM hsR q3 (by omega) hk)
     have eL:L.take u++L.drop u=L:=List.take_append_drop _ _
     have eR:R.take (hf - u)++R.drop (hf - u)=R:=List.take_append_drop _ _
     have lL1:(L.take u).length=u:=by simp;omega
     have lL2:(L.drop u).length=L.length - u:=by simp
     have lR1:(R.take (hf - u)).length=hf - u:=by simp;omega
     have lR2:(R.drop (hf - u)).length=R.length - (hf - u):=by simp
     clear hlo hhi gL gR
     generalize L.take u=L1 at*
     generalize L.drop u=L2 at*
     generalize R.take (hf - u)=R1 at*
     generalize R.drop (hf - u)=R2 at*
     obtain ⟨sL1,sL2,sL3⟩:=List.pairwise_append.1 (eL▸hsL)
     obtain ⟨sR1,sR2,sR3⟩:=List.pairwise_append.1 (eR▸hsR)
     have mL1: ∀x∈L1,x∈L:=fun x hx=>by rw [←eL];exact List.mem_append_left _ hx
     have mL2: ∀x∈L2,x∈L:=fun x hx=>by rw [←eL];exact List.mem_append_right _ hx
     have mR1: ∀x∈R1,x∈R:=fun x hx=>by rw [←eR];exact List.mem_append_left _ hx
     have mR2: ∀x∈R2,x∈R:=fun x hx=>by rw [←eR];exact List.mem_append_right _ hx
     have last: ∀(M1 M2:List Int) (w':World),M1.Perm (L1++R1)→M2.Perm (L2++R2)→Sd key M1→Sd key M2→Hp E w' (al 1 s ((P++M1++M2++Q).map vI)::F)→K w':=by
      intro M1 M2 w' p1 p2 s1 s2 hh
      refine hK (M1++M2) w' ?_ ?_ (by simpa only [List.append_assoc] using hh)
      ·refine (List.Perm.append p1 p2).trans ?_
       rw [←eL,←eR]
       simp only [List.append_assoc]
       refine List.Perm.append_left _ ?_
       rw [←List.append_assoc,←List.append_assoc]
       exact List.Perm.append_right _ List.perm_append_comm
      ·refine List.pairwise_append.2 ⟨s1,s2,fun x hx y hy=> ?_⟩
       rcases List.mem_append.1 (p1.mem_iff.1 hx) with hx|hx<;>rcases List.mem_append.1 (p2.mem_iff.1 hy) with hy|hy
       ·exact sL3 x hx y hy
       ·exact c1 x hx y hy
       ·exact c2 x hx y hy
       ·exact sR3 x hx y hy
     refine Cb (fun K3=> ∀w',Hp E w' (al 1 s ((P++L1++R1++L2++R2++Q).map vI)::F)→K3 w') ?_ fun K3 hK3=> ?_
     ·intro w3 h3
      have second: ∀(M1:List Int) (w4:World),M1.Perm (L1++R1)→Sd key M1→Hp E w4 (al 1 s ((P++M1++L2++R2++Q).map vI)::F)→
        aa (decide (((P.length+hf:Nat):Int)<((P.length+L.length+(hf - u):Nat):Int))) (aa (decide (((P.length+L.length+(hf - u):Nat):Int)<((P.length+L.length+R.length:Nat):Int)))
         (Cl Tryz.prog [] a8 ⟨[.slice s.base s.len s.cap,.int .i64 ((P.length+hf:Nat):Int),.int .i64 ((P.length+L.length+(hf - u):Nat):Int),.int .i64 ((P.length+L.length+R.length:Nat):Int),fv]⟩ w4 fun w5=>K w5) (K w4)) (K w4):=by
       intro M1 w4 p1 s1 h4
       have lM:=p1.length_eq
       rw [List.length_append] at lM
       refine ifs (fun q1 q2=> ?_) (fun q=> ?_)
       ·have q1:=of_decide_eq_true q1
        have q2:=of_decide_eq_true q2
        refine nd hc N (P:=P++M1) (L:=L2) (R:=R2) (Q:=Q) (by omega) h4 (by rw [aB];simp only [List.length_append];omega) (fun e=>by rw [e] at lL2;simp at lL2;omega) (fun e=>by rw [e] at lR2;simp at lR2;omega) sL2 sR2
         (fun x hx y hy=>hLR x (mL2 x hx) y (mR2 y hy)) (fun x hx=>hDL x (mL2 x hx)) (fun x hx=>hDR x (mR2 x hx)) (by simp only [List.length_append];omega) (by simp only [List.length_append];omega) (by simp only [List.length_append];omega) fun M2 w5 p2 s2 h5=> ?_
        exact last M1 M2 w5 p1 p2 s1 s2 h5
       ·have hor:L2= []∨R2= []:=by
         rcases q with q|q
         ·have q:=of_decide_eq_false q;exact .inl (List.length_eq_zero_iff.1 (by omega))
         ·have q:=of_decide_eq_false q;exact .inr (List.length_eq_zero_iff.1 (by omega))
        rcases hor with e|e
        ·subst e
         exact last M1 R2 w4 p1 (List.Perm.refl _) s1 sR2 (by simpa using h4)
        ·subst e
         exact last M1 L2 w4 p1 (by simp) s1 sL2 (by simpa using h4)
      refine ifs (fun q1 q2=> ?_) (fun q=> ?_)
      ·have q1:=of_decide_eq_true q1
       have q2:=of_decide_eq_true q2
       refine nd hc N (P:=P) (L:=L1) (R:=R1) (Q:=L2++R2++Q) (by omega) (by simpa only [List.append_assoc] using h3) (by rw [aB];simp only [List.length_append];omega) (fun e=>by rw [e] at lL1;simp at lL1;omega) (fun e=>by rw [e] at lR1;simp at lR1;omega) sL1 sR1
        (fun x hx y hy=>hLR x (mL1 x hx) y (mR1 y hy)) (fun x hx=>hDL x (mL1 x hx)) (fun x hx=>hDR x (mR1 x hx)) rfl (by omega) (by omega) fun M1 w5 p1 s1 h5=> ?_
       exact second M1 w5 p1 s1 (by simpa only [List.append_assoc] using h5)
      ·have hor:L1= []∨R1= []:=by
        rcases q with q|q
        ·have q:=of_decide_eq_false q;exact .inl (List.length_eq_zero_iff.1 (by omega))
        ·have q:=of_decide_eq_false q;exact .inr (List.length_eq_zero_iff.1 (by omega))
       rcases hor with e|e
       ·subst e
        exact second R1 w3 (List.Perm.refl _) sR1 (by simpa using h3)
       ·subst e
        exact second L1 w3 (by simp) sL1 (by simpa using h3)
     ·have hh':Hp E w' (al 1 s ((P++L1++L2++R1++R2++Q).map vI)::F):=by
       rw [←eL,←eR] at hh;simpa only [List.append_assoc] using hh
      refine ifs (fun q1 q2=> ?_) (fun q=> ?_)
      ·have q1:=of_decide_eq_true q1
       have q2:=of_decide_eq_true q2
       refine Je (P:=P++L1) (A:=L2) (B:=R1) (Q:=R2++Q) (by simpa only [List.append_assoc] using hh') (fun e=>by rw [e] at lL2;simp at lL2;omega) (fun e=>by rw [e] at lR1;simp at lR1;omega) (by rw [aB];simp only [List.length_append];omega)
        (by simp only [List.length_append];omega) (by simp only [List.length_append];omega) (by simp only [List.length_append];omega) fun w5 h5=>hK3 w5 (by simpa only [List.append_assoc] using h5)
      ·have hor:L2= []∨R1= []:=by
        rcases q with q|q
        ·have q:=of_decide_eq_false q;exact .inl (List.length_eq_zero_iff.1 (by omega))
        ·have q:=of_decide_eq_false q;exact .inr (List.length_eq_zero_iff.1 (by omega))
       refine hK3 _ ?_
       rcases hor with e|e
       ·subst e;simpa using hh'
       ·subst e;simpa using hh'
   ·refine aa.mk (fun q=> ?_) (fun q=> ?_)
    ·have q:=of_decide_eq_true q
     refine hK2 (hf - R.length) hf _ _ ?_ rfl (by omega) (Nat.le_refl _) (by omega) (by omega) (.inr (by omega)) (.inl rfl)
     simp (disch:=omega) only [ad];omega
    ·have q:=of_decide_eq_false q
     exact hK2 0 L.length _ _ rfl rfl (by omega) (by omega) (Nat.le_refl _) (by omega) (.inl rfl) (.inr rfl)
end
end Go.Proofs.YtcdpblipagajiaaGreat
set_option maxRecDepth 20000
namespace Go.Srt
inductive Ck (key:Int→Int) (sz:Nat):List Int→List Int→Prop where
 |nil:Ck key sz [] []
 |last (A B:List Int) (h1:A.length<sz) (h2:B.Perm A) (h3:Sd key B):Ck key sz A B
 |cons (A B X Y:List Int) (h1:A.length=sz) (h2:B.Perm A) (h3:Sd key B) (h4:Ck key sz X Y):Ck key sz (A++X) (B++Y)
theorem Ck.len {key:Int→Int} {sz:Nat} {X Y:List Int} (h:Ck key sz X Y):Y.length=X.length:=by
 induction h with
 |nil=>rfl
 |last A B h1 h2 h3=>exact h2.length_eq
 |cons A B X Y h1 h2 h3 h4 ih=>simp [h2.length_eq,ih]
theorem Ck.one {key:Int→Int} {sz:Nat} {X Y:List Int} (h:Ck key sz X Y) (hl:X.length≤sz):Y.Perm X∧Sd key Y:=by
 cases h with
 |nil=>exact ⟨List.Perm.refl _,List.Pairwise.nil⟩
 |last _ _ h1 h2 h3=>exact ⟨h2,h3⟩
 |cons A B X Y h1 h2 h3 h4=>
  rw [List.length_append] at hl
  have hX:X= []:=List.length_eq_zero_iff.1 (by omega)
  have hY:Y= []:=List.length_eq_zero_iff.1 (by rw [h4.len,hX];rfl)
  subst hX;subst hY
  simpa using ⟨h2,h3⟩
theorem Ck.first {key:Int→Int} {sz:Nat} {X Y:List Int} (h:Ck key sz X Y) (hl:sz≤X.length) (h0:0<sz): ∃A B X' Y',X=A++X'∧Y=B++Y'∧A.length=sz∧B.Perm A∧Sd key B∧Ck key sz X' Y':=by
 cases h with
 |nil=>simp at hl;omega
 |last _ _ h1 h2 h3=>omega
 |cons A B X Y h1 h2 h3 h4=>exact ⟨A,B,X,Y,rfl,rfl,h1,h2,h3,h4⟩
end Go.Srt
namespace Go.Proofs.YtcdpblipagajiaaGreat
open Go Go.Vc Go.Srt
section
variable {E w:World} {F:List HP}
theorem Gw {A1 A2 B1 B2:List Int} (h:(A1++A2).Pairwise (·< ·)) (p1:B1.Perm A1) (p2:B2.Perm A2): ∀x∈B1,∀y∈B2,x<y:=
 fun x hx y hy=>(List.pairwise_append.1 h).2.2 x (p1.mem_iff.1 hx) y (p2.mem_iff.1 hy)
theorem Jt {s:Sl} {xs:List Int} {fv:Value} {key:Int→Int} {D:Int→Prop} {n:Int} {K:World→Prop} (h:Hp E w (al 1 s (xs.map vI)::F)) (hbig:xs.length≤cA)
  (hc:tE E F fv key D) (hD: ∀x∈xs,D x) (hL:xs.Pairwise (·< ·)) (hn:n=(xs.length:Int))
  (hK: ∀ys w',ys.Perm xs→Sd key ys→Hp E w' (al 1 s (ys.map vI)::F)→K w'):
  Cl Tryz.prog [] dU ⟨[.slice s.base s.len s.cap,.int .i64 n,fv]⟩ w K:=by
 subst hn
 refine nN.ok _ _ _ _ _ ?_
 have hbg:=hbig
 rw [aB] at hbig
 refine ⟨fun a b w'=> ∃Xd Z X:List Int,a=(Xd.length:Int)∧b=((Xd.length+20:Nat):Int)∧xs=Xd++X∧Z.length=Xd.length∧(∀X' Y',Ck key 20 X' Y'→Ck key 20 (Xd++X') (Z++Y'))∧Hp E w' (al 1 s ((Z++X).map vI)::F),
  fun a _ _=>xs.length - a.toNat,⟨[],[],xs,rfl,rfl,rfl,rfl,fun X' Y' h=>h,h⟩,?_⟩
 rintro a b w' ⟨Xd,Z,X,rfl,rfl,hxs,hZ,hck,hh⟩
 have hlen:xs.length=Xd.length+X.length:=by rw [hxs,List.length_append]
 have hX: ∀x∈X,x∈xs:=fun x hx=>by rw [hxs];exact List.mem_append_right _ hx
 have hasc:X.Pairwise (·< ·):=by rw [hxs] at hL;exact (List.pairwise_append.1 hL).2.1
 refine aa.mk (fun hle=> ?_) (fun hgt=> ?_)
 ·have hle:=of_decide_eq_true hle
  have e:X.take 20++X.drop 20=X:=List.take_append_drop _ _
  have l1:(X.take 20).length=20:=by simp;omega
  generalize X.take 20=A at e l1
  generalize X.drop 20=X2 at e
  subst e
  rw [List.length_append] at hlen
  refine uz (P:=Z) (L:=A) (Q:=X2) (key:=key) (D:=D) (by simpa only [List.append_assoc] using hh) (by rw [aB];simp only [List.length_append];omega) hc (fun x hx=>hD x (hX x (List.mem_append_left _ hx))) (List.pairwise_append.1 hasc).1
   (by omega) (by simp only [List.length_append];omega) fun M w2 p1 s1 h2=> ?_
  rw [ad (by omega)]
  refine ⟨⟨Xd++A,Z++M,X2,by simp only [List.length_append];omega,by simp only [List.length_append];omega,by rw [hxs,List.append_assoc],by simp only [List.length_append];rw [p1.length_eq];omega,fun X' Y' hk=> ?_,h2⟩,by dsimp only;omega⟩
  rw [List.append_assoc,List.append_assoc]
  exact hck _ _ (.cons A M X' Y' l1 p1 s1 hk)
 ·have hgt:=of_decide_eq_false hgt
  refine uz (P:=Z) (L:=X) (Q:= []) (key:=key) (D:=D) (by simpa using hh) (by rw [aB];simp only [List.length_append,List.length_nil];omega) hc (fun x hx=>hD x (hX x hx)) hasc
   (by omega) (by simp only [List.length_append];omega) fun M w2 p1 s1 h2=> ?_
  have hck:=hck _ _ (.last X M (by omega) p1 s1)
  rw [←hxs] at hck
  refine ⟨fun bs w'=> ∃(sz:Nat) (ys:List Int),bs=(sz:Int)∧20≤sz∧sz≤2*cA∧Ck key sz xs ys∧Hp E w' (al 1 s (ys.map vI)::F),fun bs _=>xs.length - bs.toNat,⟨20,Z++M,rfl,by omega,by rw [aB];omega,hck,by simpa using h2⟩,?_⟩
  rintro bs w' ⟨sz,ys,rfl,hsz,hszb,hck,hh⟩
  rw [aB] at hszb
  refine aa.mk (fun hlt=> ?_) (fun hge=> ?_)
  ·have hlt:=of_decide_eq_true hlt
   have hlt:sz<xs.length:=by omega
   refine ⟨fun a b w'=> ∃Xd Z X Y:List Int,a=(Xd.length:Int)∧b=((Xd.length+2*sz:Nat):Int)∧xs=Xd++X∧Z.length=Xd.length∧Ck key sz X Y∧(∀X' Y',Ck key (2*sz) X' Y'→Ck key (2*sz) (Xd++X') (Z++Y'))∧Hp E w' (al 1 s ((Z++Y).map vI)::F),
    fun a _ _=>xs.length - a.toNat,⟨[],[],xs,ys,rfl,?_,rfl,rfl,hck,fun X' Y' h=>h,hh⟩,?_⟩
   ·rw [ad (by omega)];simp
   rintro a b w' ⟨Xd,Z,X,Y,rfl,rfl,hxs,hZ,hck,hco,hh⟩
   have hlen:xs.length=Xd.length+X.length:=by rw [hxs,List.length_append]
   have hX: ∀x∈X,x∈xs:=fun x hx=>by rw [hxs];exact List.mem_append_right _ hx
   have hasc:X.Pairwise (·< ·):=by rw [hxs] at hL;exact (List.pairwise_append.1 hL).2.1
   rw [ad (x:=(Xd.length:Int)+(sz:Int)) (by omega),ad (x:=(sz:Int)*2) (by omega)]
   have next: ∀(w2:World) (ys:List Int),Ck key (2*sz) xs ys→Hp E w2 (al 1 s (ys.map vI)::F)→
     (∃(sz_1:Nat) (ys:List Int),(sz:Int)*2=(sz_1:Int)∧20≤sz_1∧sz_1≤2*cA∧Ck key sz_1 xs ys∧Hp E w2 (al 1 s (ys.map vI)::F))∧xs.length - ((sz:Int)*2).toNat<xs.length - ((sz:Int)).toNat:=
    fun w2 ys h1 h2=>⟨⟨2*sz,ys,by omega,by omega,by rw [aB];omega,h1,h2⟩,by omega⟩
   refine aa.mk (fun hle=> ?_) (fun hgt=> ?_)
   ·have hle:=of_decide_eq_true hle
    obtain ⟨A1,B1,X1,Y1,rfl,rfl,a1,b1,c1,hck1⟩:=hck.first (by omega) (by omega)
    rw [List.length_append] at hlen
    obtain ⟨A2,B2,X2,Y2,rfl,rfl,a2,b2,c2,hck2⟩:=hck1.first (by omega) (by omega)
    rw [List.length_append] at hlen
    have hasc12:(A1++A2).Pairwise (·< ·):=by rw [←List.append_assoc] at hasc;exact (List.pairwise_append.1 hasc).1
    have lb1:=b1.length_eq
    have lb2:=b2.length_eq
    have lY2:=hck2.len
    rw [ad (x:=2*(sz:Int)) (by omega),ad (by omega)]
    refine nd hc (B1.length+B2.length) (P:=Z) (L:=B1) (R:=B2) (Q:=Y2) (Nat.le_refl _) (by simpa only [List.append_assoc] using hh) (by rw [aB];simp only [List.length_append];omega)
     (fun e=>by rw [e] at lb1;simp at lb1;omega) (fun e=>by rw [e] at lb2;simp at lb2;omega) c1 c2 (Gw hasc12 b1 b2) (fun x hx=>hD x (hX x (by simp [b1.mem_iff.1 hx]))) (fun x hx=>hD x (hX x (by simp [b2.mem_iff.1 hx])))
     (by omega) (by omega) (by omega) fun M w2 p1 s1 h2=> ?_
    have pM:M.Perm (A1++A2):=p1.trans (List.Perm.append b1 b2)
    refine ⟨⟨Xd++(A1++A2),Z++M,X2,Y2,by simp only [List.length_append];omega,by simp only [List.length_append];omega,by rw [hxs];simp only [List.append_assoc],by simp only [List.length_append];rw [pM.length_eq,List.length_append];omega,hck2,fun X' Y' hk=> ?_,h2⟩,by dsimp only;omega⟩
    rw [List.append_assoc Xd,List.append_assoc Z]
    exact hco _ _ (.cons (A1++A2) M X' Y' (by rw [List.length_append];omega) pM s1 hk)
   ·have hgt:=of_decide_eq_false hgt
    refine aa.mk (fun hm=> ?_) (fun hm=> ?_)
    ·have hm:=of_decide_eq_true hm
     obtain ⟨A1,B1,X1,Y1,rfl,rfl,a1,b1,c1,hck1⟩:=hck.first (by omega) (by omega)
     rw [List.length_append] at hlen
     obtain ⟨b2,c2⟩:=hck1.one (by omega)
     have lb1:=b1.length_eq
     have lb2:=b2.length_eq
     refine nd hc (B1.length+Y1.length) (P:=Z) (L:=B1) (R:=Y1) (Q:= []) (Nat.le_refl _) (by simpa using hh) (by rw [aB];simp only [List.length_append,List.length_nil];omega)
      (fun e=>by rw [e] at lb1;simp at lb1;omega) (fun e=>by rw [e] at lb2;simp at lb2;omega) c1 c2 (Gw hasc b1 b2) (fun x hx=>hD x (hX x (by simp [b1.mem_iff.1 hx]))) (fun x hx=>hD x (hX x (by simp [b2.mem_iff.1 hx])))
      (by omega) (by omega) (by omega) fun M w2 p1 s1 h2=> ?_
     have pM:M.Perm (A1++X1):=p1.trans (List.Perm.append b1 b2)
     refine next w2 (Z++M) ?_ (by simpa using h2)
     rw [hxs]
     exact hco _ _ (.last _ M (by rw [List.length_append];omega) pM s1)
    ·have hm:=of_decide_eq_false hm
     obtain ⟨p1,s1⟩:=hck.one (by omega)
     refine next w' (Z++Y) ?_ hh
     rw [hxs]
     exact hco _ _ (.last _ Y (by omega) p1 s1)
  ·have hge:=of_decide_eq_false hge
   obtain ⟨p1,s1⟩:=hck.one (by omega)
   exact hK ys w' p1 s1 hh
theorem sK {s:Sl} {xs:List Int} {fv:Value} {key:Int→Int} {D:Int→Prop} {K:World→Prop} (h:Hp E w (al 1 s (xs.map vI)::F)) (hbig:xs.length≤cA)
  (hc:tE E F fv key D) (hD: ∀x∈xs,D x) (hL:xs.Pairwise (·< ·))
  (hK: ∀ys w',ys.Perm xs→Sd key ys→Hp E w' (al 1 s (ys.map vI)::F)→K w'):
  Cl Tryz.prog [] cg ⟨[.slice s.base s.len s.cap,fv]⟩ w K:=by
 refine k9.ok _ _ _ _ ?_
 have hl:=h.a6
 simp only [List.length_map,Nat.mul_one] at hl
 exact Jt h hbig hc hD hL (by omega) hK
end
end Go.Proofs.YtcdpblipagajiaaGreat
set_option maxRecDepth 20000
namespace Go.Proofs.YtcdpblipagajiaaGreat
open Go Go.Vc Go.Srt
section
variable {E w:World} {F:List HP}
theorem MP {l:List Nat} {K:Bool→World→Prop} (h:Hp E w F) (hl:l.length=258) (hK: ∀w',Hp E w' F→K (decide (aS l≤32768)) w'):Cl Tryz.prog [kB] oA ⟨[.agg (ai .u8 l)]⟩ w K:=by
 refine Fh.ok _ _ _ ?_
 refine Nw.mk h fun b w1 h1=>Ld.arr h1 (by rw [ax,hl]) (wc h1 hl fun w2 h2=> ?_)
 have:decide ((aS l:Int)≤32768)=decide (aS l≤32768):=by rw [Bool.eq_iff_iff];simp;omega
 rw [this]
 exact hK _ h2.drop
theorem uX {l:List Nat} {K:Bool→World→Prop} (h:Hp E w F) (hl:l.length=258) (hK: ∀w',Hp E w' F→K (decide (aS l≤32768)) w'):Cl Tryz.prog [kB] ed ⟨[.agg (ai .u8 l)]⟩ w K:=by
 refine vp.ok _ _ _ ?_
 exact Nw.mk h fun b w1 h1=>Ld.arr h1 (by rw [ax,hl]) (MP h1 hl fun w2 h2=>hK _ h2.drop)
theorem Ly {x y:Int} {K:Int→World→Prop} (hK: ∀z:Int,(z<0↔x<y)→K z w):Cl Tryz.prog [kI] gE ⟨[.int .u8 x,.int .u8 y]⟩ w K:=by
 refine tS.ok _ _ _ _ ?_
 refine oZ.ok _ _ _ (oZ.ok _ _ _ ?_)
 refine aa.f (by simp) (aa.f (by simp) (aa.mk (fun h=>hK _ ?_) (fun h=>aa.mk (fun h2=>hK _ ?_) (fun h2=>hK _ ?_))))
 ·have:=of_decide_eq_true h;omega
 ·have:=of_decide_eq_false h;omega
 ·have:=of_decide_eq_false h;omega
theorem LZ {l:List Nat} {b:Nat} {t:TypeId} (hl:l.length=258):tE E (aj b (.cells (ai .u8 l) t (0,0))::F) (.func (.func lg) ⟨[]⟩ ⟨[.pointer (some ⟨b,0,none⟩)]⟩) (uB l) (fun x=>0≤x∧x<258):=by
 rintro A w y x K h ⟨hx0,hx⟩ ⟨hy0,hy⟩ hK
 refine iY.mk (by kernel_rfl) ?_
 refine tT.ok y x ⟨b,0,none⟩ K w ?_
 have h':=h.perm List.perm_append_comm
 have hx':x.toNat<l.length:=by omega
 have hy':y.toNat<l.length:=by omega
 refine au.mk h fun w1 h1=> ?_
 have h1':=h1.perm List.perm_append_comm
 refine av.rd (s:= .int .u8) h1' hy0 (by omega) (l[y.toNat]:Int) (dC hy') ?_
 refine av.rd (s:= .int .u8) h1' hx0 (by omega) (l[x.toNat]:Int) (dC hx') ?_
 refine Ly fun z hz=>hK z w1 ?_ h1
 rw [hz]
 unfold uB
 rw [List.getD_eq_getElem?_getD,List.getD_eq_getElem?_getD,List.getElem?_eq_getElem hx',List.getElem?_eq_getElem hy']
 rfl
theorem dG:ca Tryz.prog 33 3 1 8:=ca.of (by kernel_rfl) (by kernel_rfl)
def fN (l:List Nat) (k:Nat):List Nat:=(List.range k).filter fun s=>decide (0<l.getD s 0)
theorem jk {l:List Nat} {k:Nat}:fN l (k+1)=fN l k++if 0<l.getD k 0 then [k] else []:=by
 unfold fN
 rw [List.range_succ,List.filter_append]
 congr 1
 by_cases h:0<l.getD k 0
 ·rw [if_pos h,List.filter_cons_of_pos (by simpa using h)];rfl
 ·rw [if_neg h,List.filter_cons_of_neg (by simpa using h)];rfl
theorem mV {z:Int}: ∀y∈ [vI z],aA y=true:=by
 intro y hy
 have:y=vI z:=by simpa using hy
 rw [this];rfl
theorem mR (l:List Nat) (k:Nat):(fN l k).length≤k:=by
 have:=List.length_filter_le (fun s=>decide (0<l.getD s 0)) (List.range k)
 simpa [fN] using this
def ints (l:List Nat):List Int:=l.map fun (x:Nat)=>(x:Int)
theorem rN {a b:List Nat}:ints (a++b)=ints a++ints b:=List.map_append
set_option maxRecDepth 20000 in
theorem Lx {l:List Nat} {K:Sl→World→Prop} (h:Hp E w F) (hl:l.length=258) (hK1: ¬aS l≤32768→∀w',Hp E w' F→K ⟨none,0,0⟩ w')
  (hK2:aS l≤32768→∀ys s w',bA l ys→Hp E w' (al 1 s ((ints ys).map vI)::F)→K s w'):Cl Tryz.prog [kS] jd ⟨[.agg (ai .u8 l)]⟩ w K:=by
 refine wA.ok _ _ _ ?_
 refine Nw.mk h fun b w1 h1=>Ld.arr h1 (by rw [ax,hl]) (uX h1 hl fun w2 h2=> ?_)
 refine aa.mk (fun hv=>hK1 (by simpa using hv) w2 h2.drop) (fun hv=> ?_)
 have hv:aS l≤32768:=by simpa using hv
 refine Ld.arr h2 (by rw [ax,hl]) ?_
 refine ⟨fun o i w'=> ∃k:Nat,i=(k:Int)∧k≤258∧Hp E w' (al 1 o ((ints (fN l k)).map vI)::aj b (.cells (ai .u8 l) 36 (0,0))::F),fun _ i _=>258 - i.toNat,⟨0,rfl,by omega,h2.aW 1⟩,?_⟩
 intro o i w' hI
 obtain ⟨k,hi,hk,hh⟩:=hI
 subst hi
 refine aa.mk (fun hlt=> ?_) (fun hge=> ?_)
 ·have hlt:k<258:=by have:=of_decide_eq_true hlt;omega
  have hkl:k<l.length:=by omega
  have hg:l.getD k 0=l[k]:=by rw [List.getD_eq_getElem?_getD,List.getElem?_eq_getElem hkl];rfl
  refine fl.rd (s:= .int .u8) (by omega) (by omega) (l[k]:Int) (by rw [Int.toNat_natCast];exact dC hkl) ?_
  refine aa.mk (fun hp=> ?_) (fun hp=> ?_)
  ·have hp:0<l[k]:=by have:=of_decide_eq_true hp;omega
   refine Nw.mk hh fun b2 w3 h3=> ?_
   have ho:=hh.a6
   have hu:=mR l k
   simp only [List.length_map,ints,Nat.mul_one] at ho
   refine aP (ys:= [vI (k:Int)]) (n:=1) dG (by decide) (.inl ⟨3,by kernel_rfl⟩) h3.p1 (.inl ⟨some ⟨b2,0,none⟩,1,1,rfl,rfl,h3.ag (ab.aF rfl rfl)⟩) rfl mV (by omega) (by omega) fun s' w4 h4 hs'=> ?_
   rw [ad (by omega)]
   refine ⟨⟨k+1,rfl,by omega,?_⟩,by dsimp only;omega⟩
   rw [jk,hg,if_pos hp,rN,List.map_append]
   exact h4.p1.drop
  ·have hp: ¬0<l[k]:=by have:=of_decide_eq_false hp;omega
   rw [ad (by omega)]
   refine ⟨⟨k+1,rfl,by omega,?_⟩,by dsimp only;omega⟩
   rw [jk,hg,if_neg hp,List.append_nil]
   exact hh
 ·have hge:k=258:=by have:=of_decide_eq_false hge;omega
  subst hge
  have hin: ∀x∈fN l 258,x<258:=fun x hx=>by
   have:=(List.mem_filter.1 hx).1
   simpa using this
  refine sK (key:=uB l) (D:=fun x=>0≤x∧x<258) hh (by have:=mR l 258;rw [aB];simp only [ints,List.length_map];omega) (LZ hl) (fun x hx=> ?_) ?_ fun ys w3 hp hs h3=> ?_
  ·obtain ⟨y,hy,rfl⟩:=List.mem_map.1 hx
   have:=hin y hy
   omega
  ·unfold ints
   refine List.Pairwise.map _ (fun a b hab=>Int.ofNat_lt.2 hab) ?_
   exact List.Pairwise.filter _ List.pairwise_lt_range
  ·have hU:fN l 258=used l:=by unfold fN used;rw [hl]
   rw [hU] at hp
   have e:ys=ints (ys.map Int.toNat):=by
    unfold ints
    rw [List.map_map]
    refine (List.map_id ys).symm.trans (List.map_congr_left fun x hx=> ?_)
    obtain ⟨y,_,rfl⟩:=List.mem_map.1 (hp.mem_iff.1 hx)
    simp
   have pN:(ys.map Int.toNat).Perm (used l):=by
    have:=hp.map Int.toNat
    refine this.trans ?_
    unfold ints
    rw [List.map_map]
    refine List.Perm.of_eq ((List.map_congr_left fun x _=> ?_).trans (List.map_id _))
    simp
   rw [e] at h3 hs
   refine hK2 hv (ys.map Int.toNat) _ w3 ⟨pN,?_⟩ h3.p1.drop
   refine (List.pairwise_map.1 hs).imp fun {a b} hab=> ?_
   unfold Ky uB at hab
   simp only [Int.toNat_natCast] at hab
   omega
end
end Go.Proofs.YtcdpblipagajiaaGreat
set_option maxRecDepth 20000
namespace Go.Vc
open Go
section
variable {E w:World} {F:List HP}
theorem Cq {P:Program} {t tx ty e:TypeId} {bytes n:Nat} {k:IntKind} {K:Sl→World→Prop} (he:ca P t e 1 bytes) (hx:P.underlying tx=some (.int k)) (h:Hp E w F) (hn:0<n) (hb:(2*n+1024)*bytes≤2^48) (hb2:n<2^62)
  (hK: ∀b c w',n≤c→Hp E w' (al 1 ⟨some ⟨b,0,none⟩,0,c⟩ []::F)→K ⟨some ⟨b,0,none⟩,n,c⟩ w'):ay P (Builtin.append_ #[t,tx] ty ⟨[.slice none 0 0,.int .i64 (n:Int)]⟩) kS w K:=by
 obtain ⟨it,z,hi,hsz,hby,hze,hzs⟩:=he.info
 have hso: ∀w:World,(sizeOf e).run P w= .ok 1 w:=by intro w;rw [ct hi,hsz]
 have hwr:IntKind.i64.wrap (n:Int)=(n:Int):=ad (by omega)
 have hti: ∀w:World,(typeInfo e).run P w= .ok it w:=by intro w;simp [typeInfo,hi]
 have hz': ∀w:World,(zeroValue e).run P w= .ok z w:=by intro w;simp [zeroValue,typeInfo,hi,hze]
 have hnb:n*bytes≤2^48:=by
  have:n*bytes≤(2*n+1024)*bytes:=Nat.mul_le_mul_right _ (by omega)
  omega
 have h1: ¬((n:Int)*(it.bytes:Int)>2^48):=by rw [hby];exact_mod_cast Nat.not_lt.2 hnb
 have hnext: ¬Builtin.nextslicecap n 0*it.bytes>2^48:=by
  have:=Dz (n:=n) (c:=0) (by omega)
  have h2:Builtin.nextslicecap n 0*it.bytes≤(2*n+1024)*bytes:=by rw [hby];exact Nat.mul_le_mul_right _ this
  omega
 have hmax: ¬((n:Nat):Int)>IntKind.i64.max:=by
  have:IntKind.i64.max=9223372036854775807:=rfl
  rw [this];omega
 have hfo:Question.forced (.appendCap n 0 e)=false:=rfl
 generalize hq:Question.cut (.appendCap n 0 e) (w.tape w.drawn (.appendCap n 0 e))=newCap
 have hnc:n≤newCap:=by rw [←hq];exact Nat.le_add_right _ _
 have hD:Hp E w.drew F:=h.drew (n:=w.drawn+1)
 have hA:=hD.alloc (.cells (#[]++Builtin.zeroCells z.cells n++Builtin.zeroCells z.cells (newCap - n)) e)
 have hrun:(Builtin.append_ #[t,tx] ty ⟨[.slice none 0 0,.int .i64 (n:Int)]⟩).run P w= .ok (.slice (some ⟨w.heap.size,0,none⟩) n newCap) (w.drew.alloc (.cells (#[]++Builtin.zeroCells z.cells n++Builtin.zeroCells z.cells (newCap - n)) e)):=by
  have hneg: ¬((n:Int)<0):=by omega
  have hn0: ¬(n=0):=by omega
  have hmax': ¬(9223372036854775807<(n:Int)):=by omega
  have h1': ¬(281474976710656<(n:Int)*(it.bytes:Int)):=by simpa using h1
  have hnext': ¬(281474976710656<Builtin.nextslicecap n 0*it.bytes):=by simpa using hnext
  have hai: ∀w:World,(asIntOf (Value.int .i64 (n:Int))).run P w= .ok (.i64,(n:Int)) w:=fun _=>rfl
  simp [Builtin.append_,run_underlying he.und,hso,run_underlying hx,asInt,hai,hwr,hneg,hti,h1',hn0,hmax',hnext',hfo,hq,hz',newRow,Builtin.firstCells]
 unfold ay
 rw [hrun]
 refine hK _ _ _ hnc (Hp.j7 hA (by simp) rfl (Nat.zero_le _) ?_ (fun i hi=>by simp at hi))
 simp [qu,hzs]
 omega
end
end Go.Vc
namespace Go.Proofs.YtcdpblipagajiaaGreat
open Go Go.Vc
section
variable {E w:World} {F:List HP}
theorem q0:ca Tryz.prog 22 5 1 1:=ca.of (by kernel_rfl) (by kernel_rfl)
theorem xU {s:Sl} {bs:List Nat} {K:Sl→World→Prop} (h:Hp E w F) (hs:ab F (aC 1 s (bs.map vB))) (hb:bs.length≤2*cA) (hK: ∀s' w',Hp E w' (al 1 s' (bs.map vB)::F)→K s' w'):
  Cl Tryz.prog [kS] dW ⟨[.slice s.base s.len s.cap]⟩ w K:=by
 refine uv.ok _ _ _ ?_
 have hl:bs.length=s.len:=by have:=(h.ag hs).1;simpa using this
 rw [aB] at hb
 cases hsb:s.base with
 |none=>
  have:bs= []:=by
   cases bs with
   |nil=>rfl
   |cons x bs=>
    obtain ⟨p,hp,_⟩:=(h.ag hs).2 0 (by simp)
    rw [hsb] at hp;cases hp
  subst this
  exact aa.t rfl (hK _ _ (h.aW 1))
 |some p=>
  refine aa.f rfl (Nw.mk h fun b w h=> ?_)
  have h2:=Hp.dh (n:=0) (sz:=1) h (by simp)
  have hsrc:Src 1 s.len (.slice s.base s.len s.cap) (bs.map vB) w:= .inl ⟨s.base,s.len,s.cap,rfl,rfl,h2.drop.ag hs⟩
  refine aP (s:=⟨some ⟨b,0,none⟩,0,0⟩) q0 (by decide) (.inl ⟨5,by kernel_rfl⟩) h2 hsrc (by simp [hl]) eX (by simp only;omega) (by simp only;omega) fun s' w' h3 _=>hK s' w' ?_
  simpa using h3
theorem EO {n:Nat} {K:Sl→World→Prop} (h:Hp E w F) (hn:n≤4*cA) (hK: ∀s' w',s'.len=0→Hp E w' (al 1 s' []::F)→K s' w'):
  Cl Tryz.prog [kS] eM ⟨[.slice none 0 0,.int .i64 (n:Int)]⟩ w K:=by
 rw [aB] at hn
 refine qz.ok ⟨none,0,0⟩ _ _ _ ?_
 refine aa.df (by omega) ?_
 dsimp only
 rw [ad (x:=((0:Nat):Int) - ((0:Nat):Int)) (by omega),ad (by omega)]
 by_cases h0:n=0
 ·subst h0
  exact aa.df (by omega) (hK _ _ rfl (h.aW 1))
 ·refine aa.dt (by omega) ⟨by decide,by decide,by decide,by decide,?_⟩
  show ay _ (Builtin.append_ #[22,3] 22 ⟨[.slice none 0 0,.int .i64 ((n:Int) - (((0:Nat):Int) - ((0:Nat):Int)))]⟩) kS w _
  have e:((n:Int) - (((0:Nat):Int) - ((0:Nat):Int)))=(n:Int):=by omega
  rw [e]
  refine Cq q0 (k:= .i64) (by kernel_rfl) h (by omega) (by omega) (by omega) fun b c w' hc h=> ?_
  refine ⟨by decide,by decide,by omega,by simp,?_⟩
  have hne: ¬(((c:Int)).toNat=(0:Int).toNat):=by simp;omega
  rw [if_neg hne]
  have hk:=hK ⟨some ⟨b,0,none⟩,0,c⟩ w' rfl h
  simpa [ar] using hk
theorem IS {s:Sl} {cs:List Sl} {bs:List (List Nat)} {K:Sl→World→Prop} (h:Hp E w F)
  (hs:ab F (aC 1 s (cs.map fun x=> .slice x.base x.len x.cap))) (hl:cs.length=bs.length) (hcl:cs.length≤cA) (hc: ∀i (h:i<cs.length),ab F (aC 1 cs[i] ((bs.getD i []).map vB)))
  (hbig:bs.flatten.length≤cA) (hK: ∀s' w',Hp E w' (al 1 s' (bs.flatten.map vB)::F)→K s' w'):Cl Tryz.prog [kS] ep ⟨[.slice s.base s.len s.cap]⟩ w K:=by
 refine oQ.ok _ _ _ ?_
 have hlen:s.len=cs.length:=by have:=(h.ag hs).1;simpa using this.symm
 rw [aB] at hcl hbig
 have hpart: ∀k,k≤bs.length→(bs.take k).flatten.length≤bs.flatten.length:=fun k _=>by
  conv=>rhs;rw [←List.take_append_drop k bs,List.flatten_append,List.length_append]
  omega
 have hnext: ∀k,k<bs.length→(bs.take (k+1)).flatten=(bs.take k).flatten++bs.getD k []:=fun k hk=>by
  rw [List.take_add_one,List.flatten_append]
  congr 1
  simp [hk]
 refine ⟨fun x i w'=> ∃k:Nat,i=(k:Int)∧k≤cs.length∧x=((bs.take k).flatten.length:Int)∧Hp E w' F,fun _ i _=>cs.length - i.toNat,⟨0,rfl,by omega,rfl,h⟩,?_⟩
 rintro x i w ⟨k,rfl,hk,rfl,h⟩
 refine aa.dm (fun hlt=> ?_) (fun hge=> ?_)
 ·have hlt:k<cs.length:=by omega
  have hkb:k<bs.length:=by omega
  refine aq.rd (h.ag hs) (by omega) (by omega) fun q hi hq=> ?_
  refine Ld.sc (s:= .sl) cs[k] (by rw [hq];simp [Sc.enc,hlt]) ?_
  have hx:(bs.getD k []).length=cs[k].len:=by have:=(h.ag (hc k hlt)).1;simpa using this
  have h1:=hpart (k+1) (by omega)
  rw [hnext k hkb,List.length_append,hx] at h1
  rw [ad (by omega)]
  refine aa.df (by omega) ?_
  rw [ad (by omega)]
  refine ⟨⟨k+1,rfl,by omega,?_,h⟩,by first|omega|(dsimp only;omega)⟩
  rw [hnext k hkb,List.length_append,hx];omega
 ·have hk2:k=cs.length:=by omega
  subst hk2
  have e:bs.take cs.length=bs:=List.take_of_length_le (by omega)
  rw [e]
  refine EO h (by rw [aB];omega) fun s' w h0 h=> ?_
  refine ⟨fun x i w'=> ∃k:Nat,i=(k:Int)∧k≤cs.length∧Hp E w' (al 1 x ((bs.take k).flatten.map vB)::F),fun _ i _=>cs.length - i.toNat,⟨0,rfl,by omega,h⟩,?_⟩
  rintro x i w ⟨k,rfl,hk,h⟩
  refine aa.dm (fun hlt=> ?_) (fun hge=> ?_)
  ·have hlt:k<cs.length:=by omega
   have hkb:k<bs.length:=by omega
   refine aq.rd (h.drop.ag hs) (by omega) (by omega) fun q hi hq=> ?_
   refine Ld.sc (s:= .sl) cs[k] (by rw [hq];simp [Sc.enc,hlt]) ?_
   have hx:(bs.getD k []).length=cs[k].len:=by have:=(h.drop.ag (hc k hlt)).1;simpa using this
   have h1:=hpart (k+1) (by omega)
   rw [hnext k hkb,List.length_append,hx] at h1
   have hol:=h.a6
   rw [List.length_map,Nat.mul_one] at hol
   refine aP q0 (by decide) (.inl ⟨5,by kernel_rfl⟩) h (.inl ⟨cs[k].base,cs[k].len,cs[k].cap,rfl,rfl,h.drop.ag (hc k hlt)⟩) (by rw [List.length_map,hx,Nat.mul_one]) eX (by omega) (by omega) fun s' w' h _=> ?_
   rw [ad (by omega)]
   refine ⟨⟨k+1,rfl,by omega,?_⟩,by first|omega|(dsimp only;omega)⟩
   rw [hnext k hkb,List.map_append];exact h
  ·have hk3:k=cs.length:=by omega
   subst hk3
   rw [e] at h
   exact hK _ _ h
end
end Go.Proofs.YtcdpblipagajiaaGreat
namespace Go.Vc
open Go
theorem aq.Hv {w:World} {S:World→Prop} {sc:Sc} {s:Sl} {xs:List Value} {i:Int} {j:Nat} {K:sc.T→Prop} (hw:aC 1 s xs w) (hS: ∀w,S w→aC 1 s xs w) (hi:i=(j:Int)) (hj:j<xs.length) (x:sc.T) (hx:xs[j]? =some (sc.enc x)) (hK:K x):
  aq s i 1 fun q=>ae (.sc sc) q S K:=by
 subst hi
 have hl:=hw.1
 rw [Nat.mul_one] at hl
 obtain ⟨p,hp,_⟩:=hw.2 j hj
 refine ⟨p,hp,by omega,by omega,ae.sc x (fun w' hw'=> ?_) hK⟩
 obtain ⟨p',hp',hc⟩:=(hS w' hw').2 j hj
 rw [hp] at hp'
 cases hp'
 rw [show ((j:Int)).toNat*1=j by omega,hc,←hx,List.getElem?_eq_getElem hj]
theorem bo.NR {A B C:Type} {r:A→B→C→World→Prop} {k:(A→B→C→World→Prop)→Prop} (Q:A→B→C→World→Prop) (h1: ∀a b c w,Q a b c w→r a b c w) (h2: ∀r',(∀a b c w,Q a b c w→r' a b c w)→k r'):bo r k:=h2 r h1
end Go.Vc
namespace Go.Proofs.YtcdpblipagajiaaGreat
open Go Go.Vc Go.Srt Go.Inc Go.Sym Go.Bits Go.aj
section
variable {E w:World} {F:List HP}
set_option maxRecDepth 20000
theorem KK {s:Sl} {b:List Nat} {k:Nat} {K:Int→World→Prop} (hs:aC 1 s (b.map vB) w) (hb: ∀y∈b,y<256) (hk:k<8*b.length) (hn:b.length≤cA) (hK:K (fz b k:Int) w):
  Cl Tryz.prog [az .u8] kU ⟨[.slice s.base s.len s.cap,.int .i64 (k:Int)]⟩ w K:=by
 refine zB.ok _ _ _ _ ?_
 have hmx:IntKind.max .i64=9223372036854775807:=rfl
 have hm8:IntKind.max .u8=255:=rfl
 rw [aB] at hn
 have e1:aK .i64 (k:Int) 3=((k/8:Nat):Int):=by rw [show (3:Int)=((3:Nat):Int) from rfl,cb (by decide)]
 have e2:bC .i64 (k:Int) 7=((k % 8:Nat):Int):=by
  rw [show (7:Int)=((7:Nat):Int) from rfl,eB (by omega) (by omega),show (7:Nat)=2^3 - 1 from rfl,Nat.and_two_pow_sub_one_eq_mod]
 have hl:=hs.1
 rw [List.length_map,Nat.mul_one] at hl
 have hlt:k/8<b.length:=by omega
 rw [e1,e2,ad (by omega),show (7:Int) - ((k % 8:Nat):Int)=((7 - k % 8:Nat):Int) by omega]
 refine ⟨by decide,aq.rd hs (by omega) (by omega) fun q _ hq=> ?_⟩
 have hx:b[k/8]<256:=hb _ (List.getElem_mem hlt)
 refine Ld.sc (s:= .int .u8) (b[k/8]:Int) (by rw [hq];simp only [Int.toNat_natCast,List.getElem_map];rfl) ⟨by omega,?_⟩
 have hd:=Nat.div_le_self b[k/8] (2^(7 - k % 8))
 rw [cb (by have:IntKind.bits .u8=8:=rfl;omega),show (1:Int)=((1:Nat):Int) from rfl,eB (by omega) (by omega),Nat.and_one_is_mod]
 have:fz b k=b[k/8]/2^(7 - k % 8) % 2:=by unfold fz;rw [bx hlt]
 rw [←this];exact hK
theorem CH {b:List Nat} {k:Nat} (hk:k<8*b.length):(aM b)[k]? =some (fz b k):=by
 unfold aM bitsOf
 rw [List.getElem?_map,List.getElem?_range hk];rfl
theorem LH {s:Sl} {b:List Nat} {K:Sl→World→Prop} (h:Hp E w F) (hs:ab F (aC 1 s (b.map vB))) (hb: ∀y∈b,y<256) (hn:b.length≤100000000) (hK: ∀s' w',Hp E w' (al 1 s' ((ints (aM b)).map vI)::F)→K s' w'):
  Cl Tryz.prog [kS] lP ⟨[.slice s.base s.len s.cap]⟩ w K:=by
 refine BW.ok _ _ _ ?_
 have hl:=(h.ag hs).1
 rw [List.length_map,Nat.mul_one] at hl
 have hal:=dy b
 rw [ad (by omega)]
 refine ⟨fun o i w=> ∃k:Nat,i=(k:Int)∧k≤8*b.length∧Hp E w (al 1 o ((ints ((aM b).take k)).map vI)::F),fun _ i _=>8*b.length - i.toNat,⟨0,rfl,by omega,h.aW 1⟩,?_⟩
 rintro o i w ⟨k,rfl,hk,h⟩
 refine aa.dm (fun hlt=> ?_) (fun hge=> ?_)
 ·have hlt:k<8*b.length:=by omega
  refine KK (h.drop.ag hs) hb hlt (by rw [aB];omega) ?_
  have hbl:fz b k<2:=As b k
  rw [ad (x:=(fz b k:Int)) (by omega),ad (by omega)]
  refine Nw.mk h fun b10 w h=> ?_
  have hol:=(h.at 1).a6
  simp only [ints,List.length_map,Nat.mul_one,List.length_take] at hol
  refine aP (s:=o) (ys:= [vI (fz b k:Int)]) (n:=1) dG (by decide) (.inl ⟨3,by kernel_rfl⟩) (h.at 1) (.inl ⟨some ⟨b10,0,none⟩,1,1,rfl,rfl,h.ag (ab.aF rfl rfl)⟩) rfl (by intro y hy;rw [List.mem_singleton] at hy;rw [hy];rfl) (by omega) (by omega) fun s3 w h _=> ?_
  refine ⟨⟨k+1,rfl,by omega,?_⟩,by first|omega|(dsimp only;omega)⟩
  rw [show (ints ((aM b).take (k+1))).map vI=(ints ((aM b).take k)).map vI++ [vI (fz b k:Int)] by rw [List.take_add_one,CH hlt];simp [ints]]
  exact h.bY
 ·have hk2:k=8*b.length:=by omega
  subst hk2
  rw [List.take_of_length_le (by omega)] at h
  exact hK _ _ h
theorem ID {s:Sl} {bs:List Nat} {K:Bool→World→Prop} (h:Hp E w F) (hs:ab F (aC 1 s ((ints bs).map vI))) (hn:bs.length≤cA) (hK: ∀w',Hp E w' F→K (decide (1∈bs)) w'):
  Cl Tryz.prog [kB] ek ⟨[.slice s.base s.len s.cap,.int .i64 1]⟩ w K:=by
 refine oP.ok _ _ _ _ ?_
 refine q9.ok _ _ _ _ ?_
 have hl:=(h.ag hs).1
 simp only [ints,List.length_map,Nat.mul_one] at hl
 rw [aB] at hn
 refine ⟨fun i w=> ∃k:Nat,i=(k:Int)∧k≤bs.length∧1∉bs.take k∧Hp E w F,fun i _=>bs.length - i.toNat,⟨0,rfl,by omega,by simp,h⟩,?_⟩
 rintro i w ⟨k,rfl,hk,hno,h⟩
 refine aa.dm (fun hlt=> ?_) (fun hge=> ?_)
 ·have hlt:k<bs.length:=by omega
  refine aq.rd (h.ag hs) (by omega) (by omega) fun q _ hq=> ?_
  refine Ld.sc (s:= .int .i64) (bs[k]:Int) (by rw [hq];simp [Sc.enc,vI,ints]) ?_
  refine aa.em (fun he=> ?_) (fun he=> ?_)
  ·have:decide (1∈bs)=true:=decide_eq_true (by
    have e:bs[k]=1:=by omega
    rw [←e];exact List.getElem_mem hlt)
   try dsimp only
   rw [show decide ((k:Int)≥0)=true from decide_eq_true (by omega),←this]
   exact hK w h
  ·rw [ad (by omega)]
   refine ⟨⟨k+1,rfl,by omega,?_,h⟩,by first|omega|(dsimp only;omega)⟩
   rw [List.take_add_one,List.getElem?_eq_getElem hlt]
   intro hm
   rcases List.mem_append.1 hm with hm|hm
   ·exact hno hm
   ·simp at hm;omega
 ·have hk2:k=bs.length:=by omega
  subst hk2
  rw [List.take_of_length_le (Nat.le_refl _)] at hno
  try dsimp only
  rw [show decide ((-1:Int)≥0)=false from rfl,←decide_eq_false hno]
  exact hK w h
def NW (l:List Nat) (M:Nat) (s:CS):Prop:=om l s.c s.n∧gI s.d∧(∀x∈s.acc,x<256)∧s.acc.length+s.d.left≤M
theorem HK {l:List Nat} {s:Sl} {bs:List Nat} {M:Nat} {K:Sl→Int→Int→World→Prop} (h:Hp E w F) (hl:l.length=258) (hok:bz l=true) (hM:1≤M) (hM2:M≤65536) (hs:ab F (aC 1 s ((ints bs).map vI))) (hb: ∀x∈bs,x≤1) (hbig:bs.length≤cA)
  (hshort: ∀s' w',run (cq l) ⟨0,0,⟨List.range 256,M,0,0⟩,[]⟩ bs= .short s'→Hp E w' F→K ⟨none,0,0⟩ 0 50 w')
  (hbad: ∀w',run (cq l) ⟨0,0,⟨List.range 256,M,0,0⟩,[]⟩ bs= .bad 160→Hp E w' F→K ⟨none,0,0⟩ 0 160 w')
  (hfin: ∀last r s' w',run (cq l) ⟨0,0,⟨List.range 256,M,0,0⟩,[]⟩ bs= .fin last r→(∀x∈last,x<256)→last.length≤M→Hp E w' (al 1 s' (last.map vB)::F)→K s' ((bs.length - r.length:Nat):Int) 0 w'):
  Cl Tryz.prog [kS,kI,kI] ly ⟨[.int .i64 (M:Int),.agg (ai .u8 l),.slice s.base s.len s.cap]⟩ w K:=by
 refine Ap.ok _ _ _ _ _ ?_
 have hlen:=(h.ag hs).1
 simp only [ints,List.length_map,Nat.mul_one] at hlen
 rw [aB] at hbig
 have hsz:(ai .u8 l).size=258:=by rw [ax,hl]
 have hst: ∀c n,(dF l c n).size=260:=fun c n=>cx hl
 have hz1:(⟨List.replicate 258 (.int .u8 0)++ [.int .i64 0,.int .i64 0]⟩:Array Value).size=260:=by simp
 have hz2:(⟨List.replicate 256 (.int .u8 0)++ [.int .i64 0,.int .i64 0,.int .i64 0,.bool false]⟩:Array Value).size=260:=by simp
 refine Nw.mk h fun b5 w h=>Ld.xw h hsz (M5 h hl (fun hf=>absurd hok (by rw [hf];decide)) fun _ w h=> ?_)
 refine Nw.mk h fun b11 w h=>an.q h hz1 (hst _ _) (List.all_eq_true.2 dx) fun w h=>Lf h hM hM2 fun w h=> ?_
 have hd0:gI ⟨List.range 256,M,0,0⟩:=gI.zero hM2
 refine Nw.mk h fun b16 w h=>an.q h hz2 (aQ (by simp)) aR fun w h=> ?_
 refine ⟨fun o i w=> ∃(k:Nat) (cs:CS),i=(k:Int)∧k≤bs.length∧NW l M cs∧run (cq l) ⟨0,0,⟨List.range 256,M,0,0⟩,[]⟩ (bs.take k)= .short cs∧
  Hp E w (al 1 o (cs.acc.map vB)::aj b16 (.cells (cM cs.d.L (cs.d.left:Int) (cs.d.run:Int) (cs.d.digits:Int) false) 149 (0,0))::aj b11 (.cells (dF l cs.c cs.n) 145 (0,0))::F),
  fun _ i _=>bs.length - i.toNat,⟨0,_,rfl,by omega,⟨om.zero hok,hd0,by simp,by simp⟩,rfl,(h.aW 1).no 3⟩,?_⟩
 rintro o i w ⟨k,cs,rfl,hk,hcs,hrun,h⟩
 refine aa.dm (fun hlt=> ?_) (fun hge=> ?_)
 ·have hlt:k<bs.length:=by omega
  have hx:=hb _ (List.getElem_mem hlt)
  obtain ⟨hv,hd,ha,hal⟩:=hcs
  have hdL:=hd.1.len
  have hfs:=Bi hl hv hx
  have hfst:=DY (l:=l) (c:=cs.c) (b:=cs.n) (x:=bs[k])
  have hvn:=hv.next hx
  refine bo.NR (fun a i d w=> ∃b34:Nat,a=⟨b34,0,none⟩∧i=(((eJ l cs.c cs.n bs[k]).2.getD 0:Nat):Int)∧d=(eJ l cs.c cs.n bs[k]).2.isSome∧
   Hp E w (aj b34 (.cells (dF l (eJ l cs.c cs.n bs[k]).1.1 (eJ l cs.c cs.n bs[k]).1.2) 145 (0,0))::al 1 o (cs.acc.map vB)::aj b16 (.cells (cM cs.d.L (cs.d.left:Int) (cs.d.run:Int) (cs.d.digits:Int) false) 149 (0,0))::aj b11 (.cells (dF l cs.c cs.n) 145 (0,0))::F)) ?_ fun r' hr'=> ?_
  ·rintro a i d w ⟨b34,rfl,rfl,rfl,h⟩
   refine Ld.xw h (hst _ _) (an.q h (hst _ _) (hst _ _) (List.all_eq_true.2 dx) fun w h=> ?_)
   rw [ad (by omega)]
   cases hsy:(eJ l cs.c cs.n bs[k]).2 with
   |none=>
    rw [hsy] at hfs hfst
    rw [hfst] at h hvn
    refine aa.t rfl ⟨⟨k+1,⟨2*cs.c+bs[k],cs.n+1,cs.d,cs.acc⟩,rfl,by omega,⟨hvn,hd,ha,hal⟩,?_,h.no 0⟩,by first|omega|(dsimp only;omega)⟩
    rw [List.take_add_one,List.getElem?_eq_getElem hlt]
    show run (cq l) _ (bs.take k++ [bs[k]])=_
    rw [cU hrun,bK (tF hfs.symm)];rfl
   |some y=>
    rw [hsy] at hfs hfst
    rw [hfst] at h hvn
    have hy:y<258:=(AA hl hv hx hsy).1
    have hcs:=xI (s:=cs) (x:=bs[k]) (y:=y) hfs.symm
    have hdrop:run (cq l) ⟨0,0,⟨List.range 256,M,0,0⟩,[]⟩ bs=run (cq l) cs (bs[k]::bs.drop (k+1)):=by
     rw [←List.drop_eq_getElem_cons hlt]
     conv=>lhs;rw [←List.take_append_drop k bs]
     exact cU hrun _
    refine aa.f rfl (Ld.xw h (aQ hdL) ?_)
    refine Jh (s:=y) h hd hy (fun e w hq ho hos h=> ?_) (fun d' t sl w hq h=> ?_) (fun d' t sl w hq h=> ?_)
    ·refine Nw.mk h fun b56 w h=>an.q h hz2 ho hos fun w h=>aa.nt (by decide) (hbad w ?_ h.tl)
     rw [hdrop]
     exact qo (by rw [hcs,hq])
    ·obtain ⟨hd',hb',hl'⟩:=xJ hd hy hq
     have l1:=h.a6
     have l2:=(h.at 2).a6
     rw [List.length_map,Nat.mul_one] at l1 l2
     refine Nw.mk h fun b56 w h=>an.q h hz2 (aQ hd'.1.len) aR fun w h=>aa.nf rfl ?_
     have h:=h.drew (n:=w.drawn+1)
     refine ⟨bQ b56 _ _ _,h.hb,ae.xw (fun _ h=>h) (aQ hd'.1.len) ?_⟩
     refine aP (s:=o) (n:=sl.len) q0 (by decide) (.inl ⟨5,by kernel_rfl⟩) (h.at 3) (.inl ⟨sl.base,sl.len,sl.cap,rfl,rfl,(h.at 1).ag ab.own⟩) (by rw [List.length_map,l1,Nat.mul_one]) eX (by omega) (by omega) fun s3 w h _=>⟨h.hb,?_⟩
     refine an.q (b:=b16) h (aQ hdL) (aQ hd'.1.len) aR fun w h=>⟨h.hb,aa.f rfl ?_⟩
     rw [←List.map_append] at h
     refine ⟨⟨k+1,⟨0,0,d',cs.acc++t⟩,rfl,by omega,⟨hvn,hd',?_,?_⟩,?_,((h.no 1).no 1).no 1⟩,by first|omega|(dsimp only;omega)⟩
     ·intro x hx
      rcases List.mem_append.1 hx with hx|hx
      ·exact ha x hx
      ·exact hb' x hx
     ·rw [List.length_append];dsimp only;omega
     ·rw [List.take_add_one,List.getElem?_eq_getElem hlt]
      show run (cq l) _ (bs.take k++ [bs[k]])=_
      rw [cU hrun,bK (by rw [hcs,hq])];rfl
    ·obtain ⟨hb',hl'⟩:=Bs hd hq
     have l1:=h.a6
     have l2:=(h.at 2).a6
     rw [List.length_map,Nat.mul_one] at l1 l2
     refine Nw.mk h fun b56 w h=>an.q h hz2 (aQ hdL) aR fun w h=>aa.nf rfl ?_
     have h:=h.drew (n:=w.drawn+1)
     refine ⟨bQ b56 _ _ _,h.hb,ae.xw (fun _ h=>h) (aQ hdL) ?_⟩
     refine aP (s:=o) (n:=sl.len) q0 (by decide) (.inl ⟨5,by kernel_rfl⟩) (h.at 3) (.inl ⟨sl.base,sl.len,sl.cap,rfl,rfl,(h.at 1).ag ab.own⟩) (by rw [List.length_map,l1,Nat.mul_one]) eX (by omega) (by omega) fun s3 w h _=>⟨h.hb,?_⟩
     refine an.q (b:=b16) h (aQ hdL) (aQ hdL) aR fun w h=>⟨h.hb,aa.t rfl ?_⟩
     rw [←List.map_append] at h
     have hr:=hfin (cs.acc++t) (bs.drop (k+1)) s3 w (by rw [hdrop];exact iK (by rw [hcs,hq])) (fun x hx=>by
      rcases List.mem_append.1 hx with hx|hx
      ·exact ha x hx
      ·exact hb' x hx) (by rw [List.length_append];omega) h.bY
     rw [List.length_drop,show bs.length - (bs.length - (k+1))=k+1 by omega] at hr
     exact hr
  ·have h:=h.drew (n:=w.drawn+1)
   refine ⟨fun w=>bQ b11 (dF l cs.c cs.n) 145 (0,0) w∧aC 1 s ((ints bs).map vI) w,⟨h.hb,(h.tl:Hp E _ F).ag hs⟩,ae.xw (fun _ h=>h.1) (hst _ _) ?_⟩
   refine aq.Hv (sc:= .int .i64) ((h.tl:Hp E _ F).ag hs) (fun _ h=>h.2) rfl (by simp [ints];exact hlt) (bs[k]:Int) (by simp [Sc.enc,vI,ints,hlt]) ⟨?_,?_⟩
   ·refine HD h hl hv hx fun w h=>⟨⟨h.hb,(h.tl:Hp E w F).ag hs⟩,?_⟩
    refine Nw.mk h fun b34 w h=>⟨⟨h.hb,(h.tl:Hp E w F).ag hs⟩,?_⟩
    refine an.q h hz1 (hst _ _) (List.all_eq_true.2 dx) fun w h=>⟨⟨h.hb,(h.tl:Hp E w F).ag hs⟩,?_⟩
    exact hr' _ _ _ _ ⟨b34,rfl,rfl,rfl,h⟩
   ·refine Nw.mk h fun b34 w h=>⟨⟨h.hb,(h.tl:Hp E w F).ag hs⟩,?_⟩
    refine HD h hl hv hx fun w h=>⟨⟨h.hb,(h.tl:Hp E w F).ag hs⟩,?_⟩
    refine an.q h hz1 (hst _ _) (List.all_eq_true.2 dx) fun w h=>⟨⟨h.hb,(h.tl:Hp E w F).ag hs⟩,?_⟩
    exact hr' _ _ _ _ ⟨b34,rfl,rfl,rfl,h⟩
 ·have hk2:k=bs.length:=by omega
  subst hk2
  rw [List.take_of_length_le (Nat.le_refl _)] at hrun
  exact hshort cs w hrun h.tl
end
end Go.Proofs.YtcdpblipagajiaaGreat
namespace Go.Proofs.YtcdpblipagajiaaGreat
open Go Go.Vc
set_option maxRecDepth 100000
theorem Fw.ok (a:Sl) (R:Sl→World→Prop) w (h:
 Cl Pg [(.arr 257)] k6 ⟨[]⟩ w fun c b=>
 Cl Pg [(.arr 257),kS,kI] mr ⟨[(.agg c),(ah a)]⟩ b fun e (f:Sl) (g:Int) d=>
 Nw 110 ⟨List.replicate 256 (.int .u8 0)++ [(ni 0)]⟩ d fun i h=>
 an 257 ⟨i,0,none⟩ e h fun j=>
 Ld (.arr 257) ⟨i,0,none⟩ j fun k=>
 Cl Pg [kS,kI] n0 ⟨[(.agg k)]⟩ j fun (m:Sl) (n:Int) l=>
 ay Pg (Builtin.append_ #[33,33] 33 ⟨[(ah f),(ah m)]⟩) kS l fun (p:Sl) o=>
 R p o):Cl Pg [kS] kp ⟨[(ah a)]⟩ w R:=co Tryz.f44 [] h
theorem CC.ok (a:(Array Value)) (b:Sl) (R:(Array Value)→Sl→Int→World→Prop) w (h:
 Nw 110 a w fun d c=>
 Nw 110 ⟨List.replicate 256 (.int .u8 0)++ [(ni 0)]⟩ c fun f e=>
 bo (fun (r:World)=>
 bE (⟨none,0,0⟩:Sl) 0 r fun s t (u:Sl) (v:Int) x=>
 aa (decide (v<(b.len:Int)))
 (aq b v 1 fun y=>
 Ld (az .u8) y x fun (z:Int)=>
 Ld (.arr 256) (Addr.add ⟨d,0,none⟩ 0) x fun a1=>
 Cl Pg [(.arr 256),kI] sN ⟨[(.agg a1),(.int .u8 z)]⟩ x fun c1 (d1:Int) b1=>
 an 256 (Addr.add ⟨d,0,none⟩ 0) c1 b1 fun e1=>
 aa (d1==0)
 (Ld kI (Addr.add ⟨d,0,none⟩ 256) e1 fun (f1:Int)=>
 St (Addr.add ⟨d,0,none⟩ 256) (ni (i64 (f1+1))) e1 fun g1=>
 s u (i64 (v+1)) g1∧t u (i64 (v+1)) g1<t u v x)
 (Ld kI (Addr.add ⟨d,0,none⟩ 256) e1 fun (h1:Int)=>
 Cl Pg [kS,kI] gb ⟨[(ni h1)]⟩ e1 fun (j1:Sl) (k1:Int) i1=>
 ay Pg (Builtin.append_ #[33,33] 33 ⟨[(ah u),(ah j1)]⟩) kS i1 fun (m1:Sl) l1=>
 Nw 3 ⟨[(ni (i64 (d1+1)))]⟩ l1 fun o1 n1=>
 ay Pg (Builtin.append_ #[33,33] 33 ⟨[(ah m1),(ah (⟨some ⟨o1,0,none⟩,1,1⟩:Sl))]⟩) kS n1 fun (q1:Sl) p1=>
 St (Addr.add ⟨d,0,none⟩ 256) (ni 0) p1 fun r1=>
 s q1 (i64 (v+1)) r1∧t q1 (i64 (v+1)) r1<t u v x))
 (Ld (.arr 257) ⟨d,0,none⟩ x fun s1=>
 an 257 ⟨f,0,none⟩ s1 x fun t1=>
 Ld (.arr 257) ⟨f,0,none⟩ t1 fun u1=>
 R u1 u 0 t1)) fun g=>
 Ld (.arr 257) ⟨d,0,none⟩ e fun h=>
 Cl Pg [kB] iT ⟨[(.agg h)]⟩ e fun (j:Bool) i=>
 aa (!j)
 (Ld (.arr 257) ⟨d,0,none⟩ i fun k=>
 an 257 ⟨f,0,none⟩ k i fun l=>
 Ld (.arr 257) ⟨f,0,none⟩ l fun m=>
 R m (⟨none,0,0⟩:Sl) 2 l)
 (Ld kI (Addr.add ⟨d,0,none⟩ 256) i fun (n:Int)=>
 aa (decide ((b.len:Int)>(i64 ((2147483647:Int) - n))))
 (Ld (.arr 257) ⟨d,0,none⟩ i fun o=>
 an 257 ⟨f,0,none⟩ o i fun p=>
 Ld (.arr 257) ⟨f,0,none⟩ p fun q=>
 R q (⟨none,0,0⟩:Sl) 2 p)
 (g i))):Cl Pg [(.arr 257),kS,kI] mr ⟨[(.agg a),(ah b)]⟩ w R:=co Tryz.f89 [(2,[]),(14,[(7,kS),(27,kI)])] h
theorem EC.ok (R:(Array Value)→World→Prop) w (h:
 Nw 110 ⟨List.replicate 256 (.int .u8 0)++ [(ni 0)]⟩ w fun b a=>
 Cl Pg [(.arr 256)] o5 ⟨[]⟩ a fun d c=>
 bU Pg 110 [(0,(.agg d))] fun e=>
 an 257 ⟨b,0,none⟩ e c fun f=>
 Ld (.arr 257) ⟨b,0,none⟩ f fun g=>
 R g f):Cl Pg [(.arr 257)] k6 ⟨[]⟩ w R:=co Tryz.f90 [] h
theorem Fs.ok (a:(Array Value)) (R:Sl→Int→World→Prop) w (h:
 Nw 110 a w fun c b=>
 Ld (.arr 257) ⟨c,0,none⟩ b fun d=>
 Cl Pg [kB] iT ⟨[(.agg d)]⟩ b fun (f:Bool) e=>
 aa (!f)
 (R (⟨none,0,0⟩:Sl) 2 e)
 (Ld kI (Addr.add ⟨c,0,none⟩ 256) e fun (g:Int)=>
 Cl Pg [kS,kI] gb ⟨[(ni g)]⟩ e fun (i:Sl) (j:Int) h=>
 Nw 3 ⟨[(ni 257)]⟩ h fun l k=>
 ay Pg (Builtin.append_ #[33,33] 33 ⟨[(ah i),(ah (⟨some ⟨l,0,none⟩,1,1⟩:Sl))]⟩) kS k fun (n:Sl) m=>
 R n 0 m)):Cl Pg [kS,kI] n0 ⟨[(.agg a)]⟩ w R:=co Tryz.f91 [] h
theorem B3.ok (a:(Array Value)) (R:Bool→World→Prop) w (h:
 Nw 110 a w fun c b=>
 cL b fun d e=>
 ae (.arr 257) ⟨c,0,none⟩ d fun f=>
 Cl Pg [(.arr 257)] k6 ⟨[]⟩ e fun h g=>
 d g∧
 wo Pg 110 f h fun i=>
 aa i
 (R true g)
 (ae kI (Addr.add ⟨c,0,none⟩ 256) d fun (j:Int)=>
 aa (decide (j≥0))
 (ae kI (Addr.add ⟨c,0,none⟩ 256) d fun (k:Int)=>
 aa (decide (k≤2147483647))
 (ae (.arr 256) (Addr.add ⟨c,0,none⟩ 0) d fun l=>
 Cl Pg [kB] lR ⟨[(.agg l)]⟩ g fun (n:Bool) m=>
 d m∧
 R n m)
 (R false g))
 (R false g))):Cl Pg [kB] iT ⟨[(.agg a)]⟩ w R:=co Tryz.f133 [] h
end Go.Proofs.YtcdpblipagajiaaGreat
set_option maxRecDepth 20000
namespace Go.Vc
open Go
section
variable {E w:World} {F A:List HP}
theorem Hp.put {b:Nat} {o:Obj} (h:Hp E w (aj b o::F)) (o':Obj):Hp E (w.putObj b o') (aj b o'::F):=h.setObj rfl rfl rfl rfl
def Fl:HP:=fun _=>False
theorem Hp.Ij {B:HP} (h:Hp E w (B::Fl::F)):False:=by
 obtain ⟨f,_,g,k,_,_,_,g2,k2,_,_,h2,_⟩:=h.frag
 exact h2
def Dw (P:Program) (E:World) (yv:Value) (n:Nat) (vs:Nat→List Value) (C G:Nat→List HP):Prop:=
 ∀i,i<n→∀(A:List HP) (w:World) (K:Bool→World→Prop),Hp E w (C i++A)→(∀w',Hp E w' (C (i+1)++A)→K true w')→(∀w',Hp E w' (G i++A)→K false w')→mf P yv [kB] (vs i) w K
def Iter (P:Program) (E:World) (v:Value) (n:Nat) (vs:Nat→List Value) (A:List HP):Prop:=
 ∀(yv:Value) (C G:Nat→List HP) (w:World) (K:World→Prop),Dw P E yv n vs C G→Hp E w (C 0++A)→(∀w',Hp E w' (C n++A)→K w')→(∀i w',i<n→Hp E w' (G i++A)→K w')→rV P v [] [yv] w K
theorem gk.gen {P:Program} {v:Value} {ks:List Ki} {B:Nat→(Nat→Obj)→eY ks (World→(World→Prop)→(World→Prop)→Prop)} {K Kr:Nat→World→Prop} {n:Nat} {vs:Nat→List Value} (C G:Nat→List HP)
  (hh:Hp E w (C 0++A)) (hit:Iter P E v n vs A)
  (hbody: ∀l rec (T:List Value→(World→(World→Prop)→(World→Prop)→Prop)→Prop),AJ ks (B l rec) T→∀i,i<n→∃b,T (vs i) b∧∀(A:List HP) (w:World) (Kt Kf:World→Prop),Hp E w (aj l (rec 0)::(C i++A))→
   (∀w',Hp E w' (aj l (rec 0)::(C (i+1)++A))→Kt w')→(∀w',Hp E w' (aj l (rec 2)::(G i++A))→Kf w')→b w Kt Kf)
  (hK: ∀D w',Hp E w' (aj D (.deferred (some []))::(C n++A))→K D w') (hKr: ∀i D w',i<n→Hp E w' (aj D (.deferred (some []))::(G i++A))→Kr D w'):gk P v ks w B K Kr:=by
 intro rec yv hy
 have h1:=hh.alloc (.deferred (some []))
 have h2:=h1.alloc (rec 0)
 have hs:(w.alloc (.deferred (some []))).heap.size=w.heap.size+1:=by show (w.heap.push _).size=_;simp
 rw [hs] at h2
 refine hit yv (fun i=>aj (w.heap.size+1) (rec 0)::aj w.heap.size (.deferred (some []))::C i) (fun i=>aj (w.heap.size+1) (rec 2)::aj w.heap.size (.deferred (some []))::G i) _ _ ?_ h2 ?_ ?_
 ·intro i hi A w2 R h hKt hKf
  obtain ⟨b,hb,h3⟩:=hbody (w.heap.size+1) rec _ (hy R w2) i hi
  refine hb h.aF (h3 (aj w.heap.size (.deferred (some []))::A) w2 _ _ (h.perm (.cons _ List.perm_middle.symm)) (fun w' h'=>hKt w' (h'.perm (.cons _ List.perm_middle))) (fun w' h'=>hKf w' (h'.perm (.cons _ List.perm_middle))))
 ·intro w' h
  have h:Hp E w' (aj (w.heap.size+1) (rec 0)::aj w.heap.size (.deferred (some []))::(C n++A)):=h
  exact .inl ⟨h.aF,hK _ _ (h.put (rec 3)).drop⟩
 ·intro i w' hi h
  have h:Hp E w' (aj (w.heap.size+1) (rec 2)::aj w.heap.size (.deferred (some []))::(G i++A)):=h
  exact .inr ⟨h.aF,hKr i _ _ hi (h.put (rec 4)).drop⟩
theorem gk.qa {P:Program} {v:Value} {k:Ki} {B:Nat→(Nat→Obj)→k.T→World→(World→Prop)→(World→Prop)→Prop} {K Kr:Nat→World→Prop} {n:Nat} {x:Nat→k.T} (C G:Nat→List HP)
  (hh:Hp E w (C 0++A)) (hit:Iter P E v n (fun i=> [k.enc (x i)]) A)
  (hbody: ∀l rec i (A:List HP) (w:World) (Kt Kf:World→Prop),i<n→Hp E w (aj l (rec 0)::(C i++A))→
   (∀w',Hp E w' (aj l (rec 0)::(C (i+1)++A))→Kt w')→(∀w',Hp E w' (aj l (rec 2)::(G i++A))→Kf w')→B l rec (x i) w Kt Kf)
  (hK: ∀D w',Hp E w' (aj D (.deferred (some []))::(C n++A))→K D w') (hKr: ∀i D w',i<n→Hp E w' (aj D (.deferred (some []))::(G i++A))→Kr D w'):gk P v [k] w B K Kr:=
 gk.gen (ks:= [k]) C G hh hit (fun l rec _ hT i hi=>⟨_,hT (x i),fun A w Kt Kf=>hbody l rec i A w Kt Kf hi⟩) hK hKr
theorem gk.Gp {P:Program} {v:Value} {k k':Ki} {B:Nat→(Nat→Obj)→k.T→k'.T→World→(World→Prop)→(World→Prop)→Prop} {K Kr:Nat→World→Prop} {n:Nat} {x:Nat→k.T} {y:Nat→k'.T} (C G:Nat→List HP)
  (hh:Hp E w (C 0++A)) (hit:Iter P E v n (fun i=> [k.enc (x i),k'.enc (y i)]) A)
  (hbody: ∀l rec i (A:List HP) (w:World) (Kt Kf:World→Prop),i<n→Hp E w (aj l (rec 0)::(C i++A))→
   (∀w',Hp E w' (aj l (rec 0)::(C (i+1)++A))→Kt w')→(∀w',Hp E w' (aj l (rec 2)::(G i++A))→Kf w')→B l rec (x i) (y i) w Kt Kf)
  (hK: ∀D w',Hp E w' (aj D (.deferred (some []))::(C n++A))→K D w') (hKr: ∀i D w',i<n→Hp E w' (aj D (.deferred (some []))::(G i++A))→Kr D w'):gk P v [k,k'] w B K Kr:=
 gk.gen (ks:= [k,k']) C G hh hit (fun l rec _ hT i hi=>⟨_,hT (x i) (y i),fun A w Kt Kf=>hbody l rec i A w Kt Kf hi⟩) hK hKr
theorem wj.mk {l:Nat} {rec:Nat→Obj} {K:World→Prop} (h:Hp E w (aj l (rec 0)::F)) (hK: ∀w',Hp E w' (aj l (rec 1)::F)→K w'):wj l rec w K:=⟨h.aF,hK _ (h.put _)⟩
theorem qF.mk {l:Nat} {rec:Nat→Obj} {K:World→Prop} (h:Hp E w (aj l (rec 1)::F)) (hK: ∀w',Hp E w' (aj l (rec 0)::F)→K w'):qF l rec w K:=⟨h.aF,hK _ (h.put _)⟩
theorem H8.mk {l:Nat} {rec:Nat→Obj} {K:World→Prop} (h:Hp E w (aj l (rec 1)::F)) (hK: ∀w',Hp E w' (aj l (rec 2)::F)→K w'):H8 l rec w K:=⟨h.aF,hK _ (h.put _)⟩
theorem l7.qa {D:Nat} {K:World→Prop} (h:Hp E w (aj D (.deferred (some []))::F)) (hK: ∀w',Hp E w' F→K w'):l7 [D] w K:=⟨h.aF,hK _ (h.put _).drop⟩
theorem l7.mk: ∀{ms:List Nat} {w:World} {K:World→Prop},Hp E w (ms.map (fun D=>aj D (.deferred (some [])))++F)→(∀w',Hp E w' F→K w')→l7 ms w K
 | [],_,_,h,hK=>hK _ h
 |D::ms,w,K,h,hK=>by
  have h:Hp E w (aj D (.deferred (some []))::(ms.map (fun D=>aj D (.deferred (some [])))++F)):=h
  exact ⟨h.aF,l7.mk (ms:=ms) (h.put _).drop hK⟩
end
end Go.Vc
set_option maxRecDepth 20000
namespace Go.Vc
open Go
section
variable {E w:World} {F A:List HP}
def wD (P:Program) (E:World) (v:Value) (n:Nat) (vs:Nat→List Value) (A:List HP) (Φ:World→Prop):Prop:=
 ∀(yv:Value) (C G:Nat→List HP) (w:World) (K:World→Prop),(∀i,ab (C i) Φ)→Dw P E yv n vs C G→Hp E w (A++C 0)→(∀w',Hp E w' (C n)→K w')→(∀i w',i<n→Hp E w' (G i)→K w')→rV P v [] [yv] w K
theorem gk.L4 {P:Program} {v:Value} {ks:List Ki} {Y:Nat→(Nat→Obj)→eY ks (World→(World→Prop)→(World→Prop)→Prop)} {K Kr:Nat→World→Prop} {n:Nat} {vs:Nat→List Value} {Φ:World→Prop} (C G:Nat→List HP)
  (hh:Hp E w (A++C 0)) (hΦ: ∀i,ab (C i) Φ) (hit:wD P E v n vs A Φ)
  (hbody: ∀l rec (T:List Value→(World→(World→Prop)→(World→Prop)→Prop)→Prop),AJ ks (Y l rec) T→∀i,i<n→∃b,T (vs i) b∧∀(A:List HP) (w:World) (Kt Kf:World→Prop),Hp E w (aj l (rec 0)::(C i++A))→
   (∀w',Hp E w' (aj l (rec 0)::(C (i+1)++A))→Kt w')→(∀w',Hp E w' (aj l (rec 2)::(G i++A))→Kf w')→b w Kt Kf)
  (hK: ∀D w',Hp E w' (aj D (.deferred (some []))::C n)→K D w') (hKr: ∀i D w',i<n→Hp E w' (aj D (.deferred (some []))::G i)→Kr D w'):gk P v ks w Y K Kr:=by
 intro rec yv hy
 have h1:=hh.alloc (.deferred (some []))
 have h2:=h1.alloc (rec 0)
 have hs:(w.alloc (.deferred (some []))).heap.size=w.heap.size+1:=by show (w.heap.push _).size=_;simp
 rw [hs] at h2
 refine hit yv (fun i=>aj (w.heap.size+1) (rec 0)::aj w.heap.size (.deferred (some []))::C i) (fun i=>aj (w.heap.size+1) (rec 2)::aj w.heap.size (.deferred (some []))::G i) _ _ (fun i=>(hΦ i).cons.cons) ?_ ?_ ?_ ?_
 ·intro i hi A w2 R h hKt hKf
  obtain ⟨b,hb,h3⟩:=hbody (w.heap.size+1) rec _ (hy R w2) i hi
  refine hb h.aF (h3 (aj w.heap.size (.deferred (some []))::A) w2 _ _ (h.perm (.cons _ List.perm_middle.symm)) (fun w' h'=>hKt w' (h'.perm (.cons _ List.perm_middle))) (fun w' h'=>hKf w' (h'.perm (.cons _ List.perm_middle))))
 ·refine h2.perm ?_
  refine (List.Perm.trans (.cons _ List.perm_middle.symm) List.perm_middle.symm)
 ·intro w' h
  exact .inl ⟨h.aF,hK _ _ (h.put (rec 3)).drop⟩
 ·intro i w' hi h
  exact .inr ⟨h.aF,hKr i _ _ hi (h.put (rec 4)).drop⟩
theorem gk.two {P:Program} {v:Value} {k k':Ki} {Y:Nat→(Nat→Obj)→k.T→k'.T→World→(World→Prop)→(World→Prop)→Prop} {K Kr:Nat→World→Prop} {n:Nat} {x:Nat→k.T} {y:Nat→k'.T} {Φ:World→Prop} (C G:Nat→List HP)
  (hh:Hp E w (A++C 0)) (hΦ: ∀i,ab (C i) Φ) (hit:wD P E v n (fun i=> [k.enc (x i),k'.enc (y i)]) A Φ)
  (hbody: ∀l rec i (A:List HP) (w:World) (Kt Kf:World→Prop),i<n→Hp E w (aj l (rec 0)::(C i++A))→
   (∀w',Hp E w' (aj l (rec 0)::(C (i+1)++A))→Kt w')→(∀w',Hp E w' (aj l (rec 2)::(G i++A))→Kf w')→Y l rec (x i) (y i) w Kt Kf)
  (hK: ∀D w',Hp E w' (aj D (.deferred (some []))::C n)→K D w') (hKr: ∀i D w',i<n→Hp E w' (aj D (.deferred (some []))::G i)→Kr D w'):gk P v [k,k'] w Y K Kr:=
 gk.L4 (ks:= [k,k']) C G hh hΦ hit (fun l rec _ hT i hi=>⟨_,hT (x i) (y i),fun A w Kt Kf=>hbody l rec i A w Kt Kf hi⟩) hK hKr
theorem gk.LK {P:Program} {v:Value} {k:Ki} {Y:Nat→(Nat→Obj)→k.T→World→(World→Prop)→(World→Prop)→Prop} {K Kr:Nat→World→Prop} {n:Nat} {x:Nat→k.T} {Φ:World→Prop} (C G:Nat→List HP)
  (hh:Hp E w (A++C 0)) (hΦ: ∀i,ab (C i) Φ) (hit:wD P E v n (fun i=> [k.enc (x i)]) A Φ)
  (hbody: ∀l rec i (A:List HP) (w:World) (Kt Kf:World→Prop),i<n→Hp E w (aj l (rec 0)::(C i++A))→
   (∀w',Hp E w' (aj l (rec 0)::(C (i+1)++A))→Kt w')→(∀w',Hp E w' (aj l (rec 2)::(G i++A))→Kf w')→Y l rec (x i) w Kt Kf)
  (hK: ∀D w',Hp E w' (aj D (.deferred (some []))::C n)→K D w') (hKr: ∀i D w',i<n→Hp E w' (aj D (.deferred (some []))::G i)→Kr D w'):gk P v [k] w Y K Kr:=
 gk.L4 (ks:= [k]) C G hh hΦ hit (fun l rec _ hT i hi=>⟨_,hT (x i),fun A w Kt Kf=>hbody l rec i A w Kt Kf hi⟩) hK hKr
def LN {α:Type} (X:α→Prop) (L:α→List HP):HP:=fun f=> ∃x,X x∧Sat (L x) f
theorem Hp.ex {α:Type} {X:α→Prop} {L:α→List HP} (h:Hp E w (LN X L::F)): ∃x,X x∧Hp E w (L x++F):=h.J3 fun _ hf=>hf
theorem Hp.NU {α:Type} {X:α→Prop} {L:α→List HP} (x:α) (hx:X x) (h:Hp E w (L x++F)):Hp E w (LN X L::F):=h.JR fun _ hf=>⟨x,hx,hf⟩
end
end Go.Vc
set_option maxRecDepth 20000
namespace Go.Vc
open Go
def kH (b:Nat) (w:World):Nat:=match w.cell? ⟨b,0,none⟩ with
 |some (.int _ v)=>v.toNat
 |_=>0
theorem ln {E w:World} {l:List HP} {b:Nat} {c:Array Value} {t:TypeId} {fr:Nat×Nat} {put:Obj→List HP} [cf b l c t fr put] {k:IntKind} {v:Int} (h:Hp E w l) (hc:c[0]? =some (.int k v)):kH b w=v.toNat:=by
 unfold kH
 rw [h.fc,hc]
end Go.Vc
namespace Go.Proofs.YtcdpblipagajiaaGreat
open Go Go.Vc
section
variable {E w:World} {F:List HP}
abbrev bI (b:Nat) (n:Nat):HP:=aj b (.cells ⟨[.int .i64 (n:Int)]⟩ 3 (0,0))
abbrev sy (s:Sl):Value:= .slice s.base s.len s.cap
abbrev fX (b:Nat) (xs:List Nat):HP:=LN (fun (_:Sl)=>True) fun s=> [aj b (.cells ⟨[sy s]⟩ 33 (0,0)),al 1 s ((ints xs).map vI)]
theorem fX.shut {b:Nat} {s:Sl} {xs:List Nat} (h:Hp E w (aj b (.cells ⟨[sy s]⟩ 33 (0,0))::al 1 s ((ints xs).map vI)::F)):Hp E w (fX b xs::F):=Hp.NU s trivial h
theorem fX.put {b b2:Nat} {s:Sl} {xs:List Nat} {x:Nat} {t2:TypeId} {l:List HP} {K:World→Prop} (h:Hp E w (l++aj b2 (.cells ⟨[.int .i64 (x:Int)]⟩ t2 (0,0))::aj b (.cells ⟨[sy s]⟩ 33 (0,0))::al 1 s ((ints xs).map vI)::F)) (hl:xs.length≤1000000)
  (hK: ∀w',Hp E w' (fX b (xs++ [x])::F)→K w'):
  ay Tryz.prog (Builtin.append_ #[33,33] 33 ⟨[sy s,.slice (some ⟨b2,0,none⟩) 1 1]⟩) kS w fun s28 w_27=>St (⟨b,0,none⟩:Addr) (sy s28) w_27 fun w_29=>K w_29:=by
 have h:=h.nc
 have hol:=(h.at 2).a6
 simp only [ints,List.length_map,Nat.mul_one] at hol
 refine aP (ys:= [vI (x:Int)]) (n:=1) dG (by decide) (.inl ⟨3,by kernel_rfl⟩) (h.at 2) (.inl ⟨some ⟨b2,0,none⟩,1,1,rfl,rfl,h.ag (ab.aF rfl rfl)⟩) rfl (by intro y hy;rw [List.mem_singleton] at hy;rw [hy];rfl) (by omega) (by omega) fun s' w' h _=> ?_
 refine St.xs h rfl rfl fun w h=>hK w ?_
 dsimp only [ao,af] at h
 have h:=(h.no 1).p1
 refine fX.shut (s:=s') ?_
 rw [show (ints (xs++ [x])).map vI=(ints xs).map vI++ [vI (x:Int)] by simp [ints]]
 exact h
end
end Go.Proofs.YtcdpblipagajiaaGreat
set_option maxRecDepth 20000
namespace Go.Proofs.YtcdpblipagajiaaGreat
open Go Go.Vc
section
variable {E w:World} {F:List HP}
theorem Dh {s:Sl} {b:List Nat} (hs:aC 1 s (b.map vB) w):(Extern.Bytes.bytesOf (.slice s.base s.len s.cap)).run Tryz.prog w= .ok (strOf b) w:=by
 have hl:=hs.1
 simp only [List.length_map,Nat.mul_one] at hl
 cases hb:s.base with
 |none=>
  have:b= []:=by
   cases b with
   |nil=>rfl
   |cons x b=>
    obtain ⟨p,hp,_⟩:=hs.2 0 (by simp)
    rw [hb] at hp;cases hp
  subst this
  rfl
 |some p=>
  have:=Lib.run_loadBytesX (P:=Tryz.prog) w (b.map fun (x:Nat)=>(x:Int)) p .empty (fun j x hx=>by
   rw [List.getElem?_map] at hx
   cases hj:b[j]? with
   |none=>rw [hj] at hx;cases hx
   |some y=>
    rw [hj] at hx
    obtain rfl:=Option.some.inj hx
    obtain ⟨hjl,hje⟩:=List.getElem?_eq_some_iff.1 hj
    obtain ⟨q,hq,hc⟩:=hs.2 j (by simpa using hjl)
    rw [hb] at hq
    obtain rfl:=Option.some.inj hq
    rw [hc]
    simp [vB,hje])
  rw [List.length_map,hl] at this
  show (Extern.Bytes.loadBytes p s.len .empty).run Tryz.prog w=_
  rw [this]
  congr 1
  unfold strOf strOfNums Lib.bytesOf
  simp [ByteArray.empty,ByteArray.emptyWithCapacity]
  try rfl
end
end Go.Proofs.YtcdpblipagajiaaGreat
namespace Go.Proofs.YtcdpblipagajiaaGreat
open Go Go.Vc Go.Inc Go.Sym
section
variable {E w:World} {F:List HP}
set_option maxRecDepth 20000
theorem M8 {L:List Nat} {s:Sl} {c:Nat} {K:Int→World→Prop} (hL:ba L) (hc:c<256) (hs:aC 1 s (L.map vB) w) (hK:K (L.idxOf c:Int) w):
  Ext Tryz.prog dj ⟨[.slice s.base s.len s.cap,.int .u8 (c:Int)]⟩ [kI] w K:=by
 have hi:=hL.idx hc
 have hll:=hL.len
 have hsz:(strOf L).size=256:=by
  have:=congrArg List.length (wT L)
  rw [List.length_map,hll] at this
  simpa using this
 have hget: ∀i,i<256→(strOf L)[i]! =UInt8.ofNat (L.getD i 0):=fun i h=>by
  have h1:=wT L
  have h2:(strOf L).data.toList[i]? =some (UInt8.ofNat (L.getD i 0)):=by
   rw [h1,List.getElem?_map,List.getD_eq_getElem?_getD,List.getElem?_eq_getElem (by omega)];rfl
  have h3:i<(strOf L).size:=by omega
  rw [getElem!_pos (strOf L) i h3]
  rw [Array.getElem?_toList] at h2
  have h4:i<(strOf L).data.size:=h3
  rw [Array.getElem?_eq_getElem h4] at h2
  exact Option.some.inj h2
 have hf:(List.range (strOf L).size).find? (fun i=>(strOf L)[i]! ==UInt8.ofNat c)=some (L.idxOf c):=by
  rw [hsz,List.find?_range_eq_some]
  refine ⟨?_,List.mem_range.2 hi.1,fun j hj=> ?_⟩
  ·rw [hget _ hi.1,hi.2];simp
  ·rw [hget j (by omega)]
   have hjl:=hL.get (p:=j) (by omega)
   have hne:L.getD j 0≠c:=fun e=>by
    have:=hL.l6 (p:=j) (by omega)
    rw [e] at this;omega
   simp only [Bool.not_eq_true',beq_eq_false_iff_ne,ne_eq]
   intro e
   have:=congrArg UInt8.toNat e
   simp only [UInt8.toNat_ofNat'] at this
   omega
 have hr:(Extern.BytealgIndexByte.indexByte #[.slice s.base s.len s.cap,.int .u8 (c:Int)]).run Tryz.prog w= .ok (.int .i64 (L.idxOf c:Int)) w:=by
  show Sem.run _ (do
   let x←Extern.Bytes.bytesOf (.slice s.base s.len s.cap)
   let y←Extern.Bytes.asByte (.int .u8 (c:Int))
   match (List.range x.size).find? fun i=>x[i]! ==y with
   |some i=>pure (goInt i)
   |none=>pure (goInt (-1))) w=_
  have hb:(Extern.Bytes.asByte (.int .u8 (c:Int))).run Tryz.prog w= .ok (UInt8.ofNat c) w:=rfl
  simp only [Sem.run_bind,Dh hs,hb,Result.andThen_ok]
  rw [hf]
  rfl
 have hx:(callFunc dj #[.slice s.base s.len s.cap,.int .u8 (c:Int)]).run Tryz.prog w= .ok (.value (.int .i64 (L.idxOf c:Int))) w:=by
  rw [run_callFunc_extern Tryz.func199 (by kernel_rfl) (by kernel_rfl) (by kernel_rfl) (e:=Extern.BytealgIndexByte.indexByte) (by kernel_rfl),hr];rfl
 unfold Ext
 rw [show (⟨[.slice s.base s.len s.cap,.int .u8 (c:Int)]⟩:Array Value)= #[.slice s.base s.len s.cap,.int .u8 (c:Int)] from rfl,hx]
 exact hK
theorem LU {L:List Nat} {c:Nat} {K:Array Value→Int→World→Prop} (h:Hp E w F) (hL:ba L) (hc:c<256) (hK: ∀w',Hp E w' F→K ⟨bc (bj L (L.idxOf c))⟩ (L.idxOf c:Int) w'):
  Cl Tryz.prog [.arr 256,kI] sN ⟨[.agg ⟨bc L⟩,.int .u8 (c:Int)]⟩ w K:=by
 refine Ko.ok _ _ _ _ ?_
 have hl:=hL.len
 have hi:=hL.idx hc
 have hn:(⟨bc L⟩:Array Value).size=256:=by simp [hl]
 have hz:(⟨List.replicate 256 (.int .u8 0)⟩:Array Value).size=256:=by simp
 have hm:(⟨bc (bj L (L.idxOf c))⟩:Array Value).size=256:=by simp [(hL.take hi.1).len]
 refine Nw.mk h fun b4 w h=>Nw.mk h fun b6 w h=>bd.whole (by decide) rfl rfl ?_
 refine wU.ok _ _ _ _ ?_
 refine M8 hL hc (s:=⟨some ⟨b4,0,none⟩,256,256⟩) (h.ag (ab.cons (ab.aF (n:=256) (m:=256) (sz:=1) rfl (by simp [hl])))) ?_
 refine Ld.xw h hn ?_
 refine DR h hl hi.1 fun w h=> ?_
 refine an.q h hz hm bD fun w h=>Ld.xw h hm ?_
 refine an.q h hm hm bD fun w h=>Ld.xw h hm (hK w h.tl)
theorem EB {n b:Nat} (hn:n≤2147483647):wD Tryz.prog E (.func (.func oG) ⟨[]⟩ ⟨[.pointer (some ⟨b,0,none⟩)]⟩) (br n).length (fun i=> [Ki.enc kI (((br n).getD i 0:Nat):Int)]) [bI b n] (fun _=>True):=by
 intro yv C G w K hg hy h hK hKG
 refine rV.mk (by kernel_rfl) (xF.ok yv ⟨b,0,none⟩ K w ?_)
 have h:Hp E w (bI b n::C 0):=h
 refine ⟨fun w=> ∃k m:Nat,m≤2147483647∧(br n).drop k=br m∧k≤(br n).length∧Hp E w (bI b m::C k),fun w=>kH b w,⟨0,n,hn,rfl,Nat.zero_le _,h⟩,?_⟩
 rintro w ⟨k,m,hm,hd,hk,h⟩
 refine Ld.xb (x:=(m:Int)) h rfl (aa.dm (fun hlt=> ?_) (fun hge=> ?_))
 ·have hm0:0<m:=by omega
  rw [gA hm0] at hd
  have hlt:k<(br n).length:=by
   rcases Nat.lt_or_ge k (br n).length with q|q
   ·exact q
   ·rw [List.drop_eq_nil_of_le q] at hd;cases hd
  have hx:(br n).getD k 0=(m - 1) % 2:=by
   rw [List.drop_eq_getElem_cons hlt] at hd
   injection hd with e _
   rw [List.getD_eq_getElem?_getD,List.getElem?_eq_getElem hlt,Option.getD_some,e]
  have hd2:(br n).drop (k+1)=br ((m - 1)/2):=by rw [←List.drop_drop,hd];rfl
  refine Ld.xb (x:=(m:Int)) h rfl ?_
  have hmx:IntKind.max .i64=9223372036854775807:=rfl
  have e1:i64 ((m:Int) - 1)=((m - 1:Nat):Int):=by rw [ad (by omega)];omega
  have e2:bC .i64 ((m - 1:Nat):Int) 1=(((m - 1) % 2:Nat):Int):=by
   rw [show (1:Int)=((1:Nat):Int) from rfl,eB (by omega) (by omega),Nat.and_one_is_mod]
  have e3:aK .i64 ((m - 1:Nat):Int) 1=(((m - 1)/2:Nat):Int):=by
   rw [show (1:Int)=((1:Nat):Int) from rfl,cb (by decide)]
  rw [e1,e2]
  have he: [Value.int .i64 (((m - 1) % 2:Nat):Int)]= [Ki.enc kI (((br n).getD k 0:Nat):Int)]:=by rw [hx]
  rw [he]
  refine hy k hlt [bI b m] w _ (h.perm (List.perm_append_comm (l₁:= [bI b m]))) (fun w h=> ?_) (fun w h=> ?_)
  ·have h:Hp E w (bI b m::C (k+1)):=h.perm (List.perm_append_comm (l₂:= [bI b m]))
   refine aa.f rfl (Ld.xb (x:=(m:Int)) h rfl ⟨by decide,?_⟩)
   rw [e1,e3]
   refine St.xb h (by simp) rfl fun w3 h3=> ?_
   have h3:Hp E w3 (bI b ((m - 1)/2)::C (k+1)):=h3
   refine ⟨rfl,⟨k+1,(m - 1)/2,by omega,hd2,by omega,h3⟩,?_⟩
   show kH b w3<kH b _
   rw [ln (v:=(((m - 1)/2:Nat):Int)) h3 rfl,ln (v:=(m:Int)) (by assumption) rfl]
   omega
  ·exact aa.t rfl (hKG k w hlt (h.perm (List.perm_append_comm (l₂:= [bI b m]))).drop)
 ·have hm0:m=0:=by omega
  subst hm0
  rw [gg] at hd
  have:k=(br n).length:=by
   have:=congrArg List.length hd
   rw [List.length_drop,List.length_nil] at this;omega
  subst this
  exact hK w h.drop
theorem GB {n:Nat} {K:Sl→Int→World→Prop} (h:Hp E w F) (hn:n≤2147483647) (hl:(br n).length≤1000000) (hK: ∀s w',Hp E w' (al 1 s ((ints (br n)).map vI)::F)→K s 0 w'):Cl Tryz.prog [kS,kI] gb ⟨[.int .i64 (n:Int)]⟩ w K:=by
 refine xC.ok _ _ _ ?_
 refine Nw.mk h fun b3 w h=>aa.df (by omega) (aa.df (by omega) ?_)
 refine z7.ok _ _ _ ?_
 refine Nw.mk h fun b w h=> ?_
 have h0:Hp E w (fX b3 []::bI b n::F):=fX.shut (s:=⟨none,0,0⟩) ((h.aW 1).at 2)
 refine gk.LK (E:=E) (k:=kI) (x:=fun i=>(((br n).getD i 0:Nat):Int)) (n:=(br n).length) (fun i=>fX b3 ((br n).take i)::F) (fun _=> [Fl]) (A:= [bI b n]) h0.p1 (fun _=>ab.const trivial) (EB hn) ?_ ?_ ?_
 ·intro lr rec i A w Kt Kf hi h hKt _
  refine wj.mk h fun w h=> ?_
  obtain ⟨s,_,h⟩:=(h.p1).ex
  have h:Hp E w (aj b3 (.cells ⟨[sy s]⟩ 33 (0,0))::al 1 s ((ints ((br n).take i)).map vI)::aj lr (rec 1)::(F++A)):=h
  refine Ld.xb (x:=s) h rfl (Nw.mk h fun b49 w h=> ?_)
  refine fX.put (l:= []) h (by rw [List.length_take];omega) fun w h=>qF.mk h.p1 fun w h=>hKt w ?_
  have e:(br n).take i++ [(br n).getD i 0]=(br n).take (i+1):=by
   rw [List.take_add_one,List.getElem?_eq_getElem hi,List.getD_eq_getElem?_getD,List.getElem?_eq_getElem hi];rfl
  rw [e] at h
  exact h
 ·intro D w h
  rw [List.take_of_length_le (Nat.le_refl _)] at h
  obtain ⟨s,_,h⟩:=(h.p1).ex
  have h:Hp E w (aj b3 (.cells ⟨[sy s]⟩ 33 (0,0))::al 1 s ((ints (br n)).map vI)::aj D (.deferred (some []))::F):=h
  refine Ld.xb (x:=s) h rfl (St.xs h rfl rfl fun w h=> ?_)
  dsimp only [ao,af] at h
  refine l7.qa (h.at 2) fun w h=>Ld.xb (x:=s) h rfl (hK s w h.drop)
 ·intro i D w hi h
  exact (Hp.Ij h).elim
end
end Go.Proofs.YtcdpblipagajiaaGreat
set_option maxRecDepth 20000
namespace Go.Vc
open Go
section
variable {E w:World} {F:List HP}
theorem yN {P:Program} {t e:TypeId} {n:Nat} {k:IntKind} {it:TypeInfo} (hu:P.underlying t=some (.array n e)) (hue:P.underlying e=some (.int k)) (hi:P.info? e=some it) (hs:it.size=1) {a b:List Int} (ha:a.length=n) (hb:b.length=n)
  (D:Nat) (hD:2≤D) (w:World):(Op.equalIn D t (.agg ⟨a.map (.int k)⟩) (.agg ⟨b.map (.int k)⟩)).run P w= .ok (a==b) w:=by
 obtain ⟨D,rfl⟩: ∃d,D=d+1+1:=⟨D - 2,by omega⟩
 rw [run_equalIn_array w (D+1) _ _ hu hi,n4 hi,hs,←ha,jT hue (ha.trans hb.symm) _ (by simp),all_eq (ha.trans hb.symm)]
theorem na {P:Program} {t:TypeId} {it:TypeInfo} {cs:List Value} {off:Nat} {K:Option Value→Prop} (h1:gq P t=some true) (h2:P.info? t=some it) (h:K (some (.agg ⟨(cs.drop off).take it.size⟩))):eW P t cs off K:=by
 unfold eW;rw [h1,h2];exact h
theorem ew {P:Program} {t:TypeId} {it:TypeInfo} {cs:List Value} {off:Nat} {v:Value} {K:Option Value→Prop} (h1:gq P t=some false) (h2:P.info? t=some it) (hv:cs[off]? =some v) (h:K (some v)):eW P t cs off K:=by
 unfold eW;rw [h1,h2,hv];exact h
end
end Go.Vc
namespace Go.Proofs.YtcdpblipagajiaaGreat
open Go Go.Vc
theorem Eb: ∃it,Tryz.prog.info? 3=some it:=by
 have:(Tryz.prog.info? 3).isSome=true:=by kernel_rfl
 exact Option.isSome_iff_exists.1 this
theorem Le: ∃it,Tryz.prog.info? 36=some it∧it.size=258:=by
 have h:(Tryz.prog.info? 36).map (·.size)=some 258:=by kernel_rfl
 obtain ⟨it,h1,h2⟩:=Option.map_eq_some_iff.1 h
 exact ⟨it,h1,h2⟩
theorem Gh: ∃it,Tryz.prog.info? 5=some it∧it.size=1:=by
 have h:(Tryz.prog.info? 5).map (·.size)=some 1:=by kernel_rfl
 obtain ⟨it,h1,h2⟩:=Option.map_eq_some_iff.1 h
 exact ⟨it,h1,h2⟩
theorem Mg:Tryz.prog.underlying 36=some (.array 258 5):=by kernel_rfl
theorem JP:Tryz.prog.underlying 5=some (.int .u8):=by kernel_rfl
theorem G4:Tryz.prog.underlying 3=some (.int .i64):=by kernel_rfl
end Go.Proofs.YtcdpblipagajiaaGreat
namespace Go.Sym
theorem kN (n:Nat):(br n).length≤n:=by
 induction n using Nat.strongRecOn with
 |ind n ih=>
  rcases Nat.eq_zero_or_pos n with h|h
  ·rw [h,gg];exact Nat.le_refl _
  ·rw [gA h,List.length_cons]
   have:=ih ((n - 1)/2) (by omega)
   omega
end Go.Sym
namespace Go.Proofs.YtcdpblipagajiaaGreat
open Go Go.Vc Go.Inc Go.Sym
abbrev ez (L:List Nat) (r:Int):Array Value:=⟨bc L++ [.int .i64 r]⟩
theorem fh {L:List Nat} {r:Int} (h:L.length=256):(ez L r).size=257:=by simp [h]
theorem iO {L:List Nat} {r:Int}:(ez L r).toList.all aA=true:=by
 unfold ez
 rw [List.all_append,bD]
 rfl
section
variable {E w:World} {F:List HP}
set_option maxRecDepth 20000
theorem HU:(Tryz.prog.fieldsOf 110).toList.map (fun f=>(f.name== "_",f.type,f.offset))= [(false,108,0),(false,3,256)]:=by kernel_rfl
theorem Nr:Tryz.prog.underlying 110=some (.struct (Tryz.prog.fieldsOf 110)):=by kernel_rfl
theorem KJ: ∃it,Tryz.prog.info? 108=some it∧it.size=256:=by
 have h:(Tryz.prog.info? 108).map (·.size)=some 256:=by kernel_rfl
 obtain ⟨it,h1,h2⟩:=Option.map_eq_some_iff.1 h
 exact ⟨it,h1,h2⟩
theorem Mr:Tryz.prog.underlying 108=some (.array 256 5):=by kernel_rfl
theorem wo.es {L L':List Nat} {r r':Int} {K:Bool→Prop} (hl:L.length=256) (hl':L'.length=256) (hK: ∀b,K b):wo Tryz.prog 110 (ez L r) (ez L' r') K:=by
 obtain ⟨it,hit⟩:=Eb
 obtain ⟨jt,hjt,hjs⟩:=KJ
 obtain ⟨kt,hkt,hks⟩:=Gh
 obtain ⟨f1,f2,hfs,hf1,hf2⟩: ∃f1 f2,(Tryz.prog.fieldsOf 110).toList= [f1,f2]∧(f1.name== "_",f1.type,f1.offset)=(false,108,0)∧(f2.name== "_",f2.type,f2.offset)=(false,3,256):=by
  have h:=HU
  generalize (Tryz.prog.fieldsOf 110).toList=fs at h
  match fs,h with
  | [],h=>simp at h
  | [_],h=>simp at h
  |_::_::_::_,h=>simp at h
  | [f1,f2],h=>
   simp only [List.map_cons,List.map_nil,List.cons.injEq,and_true] at h
   exact ⟨f1,f2,rfl,h.1,h.2⟩
 simp only [Prod.mk.injEq] at hf1 hf2
 have hc: ∀{L:List Nat} {r:Int},L.length=256→(((ez L r).toList.drop 0).take 256)=(L.map fun (x:Nat)=>(x:Int)).map (.int .u8):=fun {L r} hl=>by
  unfold ez
  rw [List.drop_zero,List.take_append_of_le_length (by simp [hl]),List.take_of_length_le (by simp [hl]),List.map_map];rfl
 have hr: ∀{L:List Nat} {r:Int},L.length=256→(ez L r)[256]? =some (.int .i64 r):=fun {L r} hl=>by
  rw [←Array.getElem?_toList]
  show (bc L++ [.int .i64 r])[256]? =_
  rw [List.getElem?_append_right (by simp [hl])]
  simp [hl]
 obtain ⟨b,hb,hK'⟩:=kq (P:=Tryz.prog) (d:=9) (rec:=fun t x y K=> ∃b,(∀D,9≤D→∀w,(Op.equalIn D t x y).run Tryz.prog w= .ok b w)∧K b) (fun t x y K h=>h) (xs:=ez L r) (ys:=ez L' r') (fs:= [f1,f2]) (K:=K) (by
  unfold jS
  rw [hf1.1]
  refine na (it:=jt) (by rw [hf1.2.1];kernel_rfl) (by rw [hf1.2.1];exact hjt) (na (it:=jt) (by rw [hf1.2.1];kernel_rfl) (by rw [hf1.2.1];exact hjt) ?_)
  rw [hf1.2.2,hjs,hf1.2.1,hc hl,hc hl']
  refine ⟨_,fun D hD w=>yN Mr JP hkt hks (by simpa using hl) (by simpa using hl') D (by omega) w,?_⟩
  unfold jS
  rw [hf2.1]
  refine ew (it:=it) (v:= .int .i64 r) (by rw [hf2.2.1];kernel_rfl) (by rw [hf2.2.1];exact hit) (by rw [hf2.2.2,Array.getElem?_toList];exact hr hl) (ew (it:=it) (v:= .int .i64 r') (by rw [hf2.2.1];kernel_rfl) (by rw [hf2.2.1];exact hit) (by rw [hf2.2.2,Array.getElem?_toList];exact hr hl') ?_)
  rw [hf2.2.1]
  exact ⟨r==r',fun D hD w=>by obtain ⟨D,rfl⟩: ∃k,D=k+1:=⟨D - 1,by omega⟩;exact run_equalIn_int w D _ _ _ _ _ G4,hK _⟩)
 refine ⟨b,fun w=> ?_,hK'⟩
 rw [run_equalIn_struct w 9999 _ _ _ Nr (by kernel_rfl),hfs]
 exact hb 9999 (by decide) w
abbrev ND:Nat→Option (Nat×Nat):=(#[(0,256),(256,1)][·]?)
theorem Jy (ps:List (Nat×Value)):Tryz.prog.built 110 ps=Instr.fill ND ⟨List.replicate 256 (.int .u8 0)++ [.int .i64 0]⟩ ps:=by kernel_rfl
theorem bU.es {L:List Nat} {K:Array Value→Prop} (hl:L.length=256) (hK:K (ez L 0)):bU Tryz.prog 110 [(0,.agg ⟨bc L⟩)] K:=by
 refine ⟨_,?_,hK⟩
 rw [Jy]
 have:=iz (place:=ND) (i:=0) (v:= .agg ⟨bc L⟩) (rest:= []) (pre:= []) (mid:=List.replicate 256 (.int .u8 0)) (post:= [.int .i64 0]) rfl rfl List.length_replicate (by show (⟨bc L⟩:Array Value).size=_;simp [hl])
 exact this
abbrev yE:Array Value:=⟨List.replicate 256 (Value.int .u8 0)++ [Value.int .i64 0]⟩
theorem xA:(⟨List.replicate 256 (.int .u8 0)++ [.int .i64 0]⟩:Array Value).size=257:=by simp
theorem DN {K:Array Value→World→Prop} (h:Hp E w F) (hK: ∀w',Hp E w' F→K (ez (List.range 256) 0) w'):Cl Tryz.prog [.arr 257] k6 ⟨[]⟩ w K:=by
 refine EC.ok _ _ ?_
 refine Nw.mk h fun b2 w h=>GP h fun w h=>bU.es (by simp) ?_
 have hd:(ez (List.range 256) 0).size=257:=fh (by simp)
 refine an.q h xA hd iO fun w h=> ?_
 exact Ld.xw h hd (hK _ h.tl)
theorem yW {L:List Nat} {r:Nat} {K:Bool→World→Prop} (h:Hp E w F) (hL:ba L) (hr:r≤2147483647) (hK: ∀w',Hp E w' F→K true w'):Cl Tryz.prog [kB] iT ⟨[.agg (ez L (r:Int))]⟩ w K:=by
 refine B3.ok _ _ _ ?_
 have hLb:=cT hL.len
 refine Nw.mk h fun b3 w h=> ?_
 have h:=h.drew (n:=w.drawn+1)
 refine ⟨bQ b3 _ _ _,h.hb,?_⟩
 refine ae.qw (fun _ h=>h) hLb rfl ?_
 refine DN h fun w h=>⟨h.hb,?_⟩
 refine wo.es hL.len (by simp) fun b=> ?_
 refine aa.mk (fun _=>hK _ h.tl) fun _=> ?_
 (try simp only [aD,aw,ar,Nat.zero_add,Nat.add_zero,Nat.reduceAdd,Bool.not_true,Bool.not_false,aZ,aX,Option.isNone])
 refine ae.q (fun _ h=>h) hLb rfl rfl (aa.dt (by omega) ?_)
 refine ae.q (fun _ h=>h) hLb rfl rfl (aa.dt (by omega) ?_)
 refine ae.p (fun _ h=>h) hLb ?_
 exact xX h hL fun w h=>⟨h.hb,hK _ h.tl⟩
theorem Jv {L:List Nat} {r:Nat} {s:Sl} {b:List Nat} {K:Array Value→Sl→Int→World→Prop} (h:Hp E w F) (hL:ba L) (hs:ab F (aC 1 s (b.map vB))) (hb: ∀x∈b,x<256) (hr:r+b.length≤1000000)
  (hK: ∀s' w',Hp E w' (al 1 s' ((ints (bm L r b).1).map vI)::F)→ba (bm L r b).2.1→(bm L r b).2.2≤1000000→K (ez (bm L r b).2.1 ((bm L r b).2.2:Int)) s' 0 w'):
  Cl Tryz.prog [.arr 257,kS,kI] mr ⟨[.agg (ez L (r:Int)),.slice s.base s.len s.cap]⟩ w K:=by
 refine CC.ok _ _ _ _ ?_
 have hLb:=cT hL.len
 have hlen:b.length=s.len:=by have:=(h.ag hs).1;simpa using this
 (try simp only [aD,aw,ar,Nat.zero_add,Nat.add_zero,Nat.reduceAdd,Bool.not_true,Bool.not_false,aZ,aX,Option.isNone])
 refine Nw.mk h fun b4 w h=>Nw.mk h fun b6 w h=> ?_
 refine Ld.qw h hLb rfl (yW h hL (by omega) fun w h=> ?_)
 with_reducible refine aa.wm ?_
 refine Ld.q h hLb rfl rfl ?_
 rw [ad (by omega)]
 refine aa.df (by omega) ?_
 refine ⟨fun o i w=> ∃(k:Nat) (L':List Nat) (r':Nat) (out:List Nat),i=(k:Int)∧k≤b.length∧ba L'∧out.length+r'≤r+k∧
  bm L r b=(out++(bm L' r' (b.drop k)).1,(bm L' r' (b.drop k)).2)∧
  Hp E w (al 1 o ((ints out).map vI)::aj b6 (.cells yE 110 (0,0))::aj b4 (.cells (ez L' (r':Int)) 110 (0,0))::F),
  fun _ i _=>b.length - i.toNat,⟨0,L,r,[],rfl,by omega,hL,by simp,by simp,h.aW 1⟩,?_⟩
 rintro o i w ⟨k,L',r',out,rfl,hk,hL',hlo,he,h⟩
 have hLb':=cT hL'.len
 refine aa.dm (fun hlt=> ?_) (fun hge=> ?_)
 ·have hlt:k<b.length:=by omega
  have hc:=hb _ (List.getElem_mem hlt)
  have hi:=hL'.idx hc
  refine aq.rd ((h.tl:Hp E w F).ag hs) (by omega) (by omega) fun q _ hq=> ?_
  refine Ld.sc (s:= .int .u8) (b[k]:Int) (by rw [hq];simp [Sc.enc,vB]) ?_
  refine Ld.p h hLb' (LU h hL' hc fun w h=> ?_)
  have hm:(⟨bc (bj L' (L'.idxOf b[k]))⟩:Array Value).size=256:=by simp [(hL'.take hi.1).len]
  have hLm:=hL'.take hi.1
  have hLbm:=cT hLm.len
  refine an.xm (pre:= []) (mid:=bc L') (post:= [.int .i64 (r':Int)]) h rfl rfl hLb' hm (fun v hv=>List.all_eq_true.1 bD v hv) fun w h=> ?_
  have h:Hp E w (al 1 o ((ints out).map vI)::aj b6 (.cells yE 110 (0,0))::aj b4 (.cells (ez (bj L' (L'.idxOf b[k])) (r':Int)) 110 (0,0))::F):=h
  rw [List.drop_eq_getElem_cons hlt] at he
  rw [ad (x:=(k:Int)+1) (by omega)]
  by_cases h0:L'.idxOf b[k]=0
  ·rw [bm,if_pos h0] at he
   rw [h0] at h hLm hLbm⊢
   refine aa.et rfl (Ld.q h hLbm rfl rfl ?_)
   rw [ad (by omega)]
   refine St.q h hLbm rfl rfl rfl fun w h=> ?_
   dsimp only [ao,af] at h
   rw [show (r':Int)+1=((r'+1:Nat):Int) by omega] at h
   exact ⟨⟨k+1,_,r'+1,out,by omega,by omega,hLm,by omega,he,h⟩,by first|omega|(dsimp only;omega)⟩
  ·rw [bm,if_neg h0] at he
   refine aa.ef (by omega) (Ld.q h hLbm rfl rfl ?_)
   have hdl:=kN r'
   refine GB h (by omega) (by omega) fun s1 w h=> ?_
   have l1:=h.a6
   have l2:=(h.at 1).a6
   simp only [ints,List.length_map,Nat.mul_one] at l1 l2
   refine aP (s:=o) (ys:=(ints (br r')).map vI) (n:=s1.len) dG (by decide) (.inl ⟨3,by kernel_rfl⟩) (h.at 1) (.inl ⟨s1.base,s1.len,s1.cap,rfl,rfl,h.ag ab.own⟩) (by simp [ints,l1]) j6 (by omega) (by omega) fun s2 w h hl2=> ?_
   have h:=h.no 1
   refine Nw.mk h fun b40 w h=> ?_
   rw [ad (by omega)] at h
   refine aP (s:=s2) (ys:= [vI ((L'.idxOf b[k]:Int)+1)]) (n:=1) dG (by decide) (.inl ⟨3,by kernel_rfl⟩) (h.at 1) (.inl ⟨some ⟨b40,0,none⟩,1,1,rfl,rfl,h.ag (ab.aF rfl rfl)⟩) rfl (by intro y hy;rw [List.mem_singleton] at hy;rw [hy];rfl) (by omega) (by omega) fun s3 w h _=> ?_
   have h:=h.no 1
   refine St.q (b:=b4) h hLbm rfl rfl rfl fun w h=> ?_
   dsimp only [ao,af] at h
   refine ⟨⟨k+1,_,0,out++(br r'++ [L'.idxOf b[k]+1]),by omega,by omega,hLm,?_,?_,?_⟩,by first|omega|(dsimp only;omega)⟩
   ·rw [List.length_append,List.length_append,List.length_singleton];omega
   ·rw [he];simp
   ·rw [show (ints (out++(br r'++ [L'.idxOf b[k]+1]))).map vI=(ints out).map vI++(ints (br r')).map vI++ [vI ((L'.idxOf b[k]:Int)+1)] by simp [ints]]
    exact h
 ·have hk2:k=b.length:=by omega
  subst hk2
  rw [List.drop_of_length_le (Nat.le_refl _),bm,List.append_nil] at he
  rw [he] at hK
  dsimp only at hK
  refine Ld.qw h hLb' rfl ?_
  refine an.q h xA (fh hL'.len) iO fun w h=>Ld.xw h (fh hL'.len) (hK o w h.bY hL' (by omega))
theorem K8 {L:List Nat} {r:Nat} {K:Sl→Int→World→Prop} (h:Hp E w F) (hL:ba L) (hr:r≤1000000) (hK: ∀s' w',Hp E w' (al 1 s' ((ints (br r++ [257])).map vI)::F)→K s' 0 w'):Cl Tryz.prog [kS,kI] n0 ⟨[.agg (ez L (r:Int))]⟩ w K:=by
 refine Fs.ok _ _ _ ?_
 have hLb:=cT hL.len
 (try simp only [aD,aw,ar,Nat.zero_add,Nat.add_zero,Nat.reduceAdd,Bool.not_true,Bool.not_false,aZ,aX,Option.isNone])
 refine Nw.mk h fun b3 w h=>Ld.qw h hLb rfl (yW h hL (by omega) fun w h=> ?_)
 with_reducible refine aa.wm ?_
 have hdl:=kN r
 refine Ld.q h hLb rfl rfl (GB h (by omega) (by omega) fun s1 w h=>Nw.mk h fun b12 w h=> ?_)
 have l1:=(h.at 1).a6
 simp only [ints,List.length_map,Nat.mul_one] at l1
 refine aP (s:=s1) (ys:= [vI 257]) (n:=1) dG (by decide) (.inl ⟨3,by kernel_rfl⟩) (h.at 1) (.inl ⟨some ⟨b12,0,none⟩,1,1,rfl,rfl,h.ag (ab.aF rfl rfl)⟩) rfl (by intro y hy;rw [List.mem_singleton] at hy;rw [hy];rfl) (by omega) (by omega) fun s3 w h _=>hK s3 w ?_
 rw [show (ints (br r++ [257])).map vI=(ints (br r)).map vI++ [vI 257] by simp [ints]]
 exact h.bY
theorem D0 {s:Sl} {b:List Nat} {K:Sl→World→Prop} (h:Hp E w F) (hs:ab F (aC 1 s (b.map vB))) (hb: ∀x∈b,x<256) (hr:b.length≤1000000) (hK: ∀s' w',Hp E w' (al 1 s' ((ints (syms b)).map vI)::F)→K s' w'):
  Cl Tryz.prog [kS] kp ⟨[.slice s.base s.len s.cap]⟩ w K:=by
 refine Fw.ok _ _ _ ?_
 refine DN h fun w h=>Jv (r:=0) h ba.range hs hb (by rw [Nat.zero_add];exact hr) fun s1 w h hL2 hr2=>Nw.mk h fun b9 w h=> ?_
 refine an.q h xA (fh hL2.len) iO fun w h=>Ld.xw h (fh hL2.len) ?_
 refine K8 h hL2 hr2 fun s2 w h=> ?_
 have l1:=h.a6
 have l2:=(h.at 2).a6
 have e0:(bm (List.range 256) 0 b).1.length+(bm (List.range 256) 0 b).2.2≤b.length:=by
  have: ∀(b L:List Nat) (r:Nat),(bm L r b).1.length+(bm L r b).2.2≤r+b.length:=by
   intro b
   induction b with
   |nil=>intro L r;simp [bm]
   |cons c b ih=>
    intro L r
    rw [bm]
    split
    ·have:=ih (bj L 0) (r+1)
     simp only [List.length_cons];omega
    ·have:=ih (bj L (L.idxOf c)) 0
     have:=kN r
     simp only [List.length_append,List.length_cons];omega
  simpa using this b (List.range 256) 0
 have hdl:=kN (bm (List.range 256) 0 b).2.2
 simp only [ints,List.length_map,Nat.mul_one,List.length_append,List.length_singleton] at l1 l2
 refine aP (s:=s1) (ys:=(ints (br (bm (List.range 256) 0 b).2.2++ [257])).map vI) (n:=s2.len) dG (by decide) (.inl ⟨3,by kernel_rfl⟩) (h.at 2) (.inl ⟨s2.base,s2.len,s2.cap,rfl,rfl,h.ag ab.own⟩) (by simp [ints,←l1]) j6 (by omega) (by omega) fun s3 w h _=>hK s3 w ?_
 rw [show (ints (syms b)).map vI=(ints (bm (List.range 256) 0 b).1).map vI++(ints (br (bm (List.range 256) 0 b).2.2++ [257])).map vI by unfold syms cy;simp [ints]]
 exact h.bY
end
end Go.Proofs.YtcdpblipagajiaaGreat
namespace Go.Proofs.YtcdpblipagajiaaGreat
open Go Go.Vc
set_option maxRecDepth 100000
theorem wQ.ok (a:(Option Addr)) (b:(Array Value)) (R:Int→World→Prop) w (h:
 Nw 36 b w fun d c=>
 Ld (.arr 258) ⟨d,0,none⟩ c fun e=>
 Cl Pg [kS,kI] jY ⟨[(.agg e)]⟩ c fun (g:Sl) (h:Int) f=>
 aa (h !=0)
 (R 2 f)
 (aa (Option.isNone (a:Option Addr))
 (R 2 f)
 (cn 0 f fun i j (k:Int) l=>
 aa (decide (k<(g.len:Int)))
 (aq g k 1 fun m=>
 Ld kI m l fun (n:Int)=>
 Cl Pg [kB] dw ⟨[(.pointer a),(.int .u32 (u32 n)),(ni 1)]⟩ l fun (p:Bool) o=>
 i (i64 (k+1)) o∧j (i64 (k+1)) o<j k l)
 (R 0 l)))):Cl Pg [kI] jb ⟨[(.pointer a),(.agg b)]⟩ w R:=co Tryz.f47 [(12,[(22,kI)])] h
theorem vb.ok (a:Sl) (R:(Array Value)→Int→Int→World→Prop) w (h:
 Nw 36 ⟨List.replicate 258 (.int .u8 0)⟩ w fun c b=>
 Nw 141 ⟨List.replicate 258 (.int .u8 0)++ [(ni 0),(ni 0),(ni 0),(ni 0)]⟩ b fun e d=>
 cn 0 d fun f g (h:Int) i=>
 aa (decide (h<(a.len:Int)))
 (aq a h 1 fun j=>
 Ld kI j i fun (k:Int)=>
 0≤(1:Int)∧
 aa ((aK .i64 k (1:Int)) !=0)
 (Ld (.arr 258) ⟨c,0,none⟩ i fun l=>
 an 258 ⟨c,0,none⟩ l i fun m=>
 Ld (.arr 258) ⟨c,0,none⟩ m fun n=>
 R n 0 2 m)
 (Ld (.arr 262) ⟨e,0,none⟩ i fun o=>
 Cl Pg [(.arr 262),kB] iv ⟨[(.agg o),(ni k)]⟩ i fun q (r:Bool) p=>
 Nw 141 ⟨List.replicate 258 (.int .u8 0)++ [(ni 0),(ni 0),(ni 0),(ni 0)]⟩ p fun t s=>
 an 262 ⟨t,0,none⟩ q s fun u=>
 aa (!r)
 (Ld (.arr 258) ⟨c,0,none⟩ u fun v=>
 an 258 ⟨c,0,none⟩ v u fun x=>
 Ld (.arr 258) ⟨c,0,none⟩ x fun y=>
 R y 0 100 x)
 (Ld (.arr 262) ⟨t,0,none⟩ u fun z=>
 an 262 ⟨e,0,none⟩ z u fun a1=>
 Ld kI (Addr.add ⟨e,0,none⟩ 258) a1 fun (b1:Int)=>
 aa (b1==258)
 (Ld (.arr 258) (Addr.add ⟨e,0,none⟩ 0) a1 fun c1=>
 an 258 ⟨c,0,none⟩ c1 a1 fun d1=>
 Ld (.arr 258) ⟨c,0,none⟩ d1 fun e1=>
 R e1 (i64 (h+1)) 0 d1)
 (f (i64 (h+1)) a1∧g (i64 (h+1)) a1<g h i))))
 (Ld (.arr 258) ⟨c,0,none⟩ i fun f1=>
 an 258 ⟨c,0,none⟩ f1 i fun g1=>
 Ld (.arr 258) ⟨c,0,none⟩ g1 fun h1=>
 R h1 0 50 g1)):Cl Pg [(.arr 258),kI,kI] ir ⟨[(ah a)]⟩ w R:=co Tryz.f52 [(7,[(12,kI)])] h
theorem xc.ok (a:(Array Value)) (R:Sl→Int→World→Prop) w (h:
 Nw 36 a w fun c b=>
 Nw 33 ⟨[(.slice none 0 0)]⟩ b fun e d=>
 Ld (.arr 258) ⟨c,0,none⟩ d fun f=>
 Cl Pg [kB] eP ⟨[(.agg f)]⟩ d fun (h:Bool) g=>
 aa (!h)
 (St ⟨e,0,none⟩ (.slice none 0 0) g fun i=>
 Ld kS ⟨e,0,none⟩ i fun (j:Sl)=>
 R j 2 i)
 (av ⟨c,0,none⟩ 258 0 1 fun k=>
 Ld (az .u8) k g fun (l:Int)=>
 ∃(m:Int→World→Prop) (n:Int→World→Nat),m (0) g∧
 ∀(o:Int),∀(p:World),m o p→
 aa (decide (o<4))
 (au p fun q=>
 0≤(i64 ((3:Int) - o))∧
 (Ld kS ⟨e,0,none⟩ q fun (r:Sl)=>
 Nw 3 ⟨[(ni (bC .i64 (aK .i64 (i64 l) (i64 ((3:Int) - o))) 1))]⟩ q fun t s=>
 ay Pg (Builtin.append_ #[33,33] 33 ⟨[(ah r),(ah (⟨some ⟨t,0,none⟩,1,1⟩:Sl))]⟩) kS s fun (v:Sl) u=>
 St ⟨e,0,none⟩ (ah v) u fun x=>
 ([]:List Nat)=([]:List Nat)∧m (i64 (o+1)) x∧n (i64 (o+1)) x<n o p)∧
 (Nw 3 ⟨[(ni (bC .i64 (aK .i64 (i64 l) (i64 ((3:Int) - o))) 1))]⟩ q fun z y=>
 Ld kS ⟨e,0,none⟩ y fun (a1:Sl)=>
 ay Pg (Builtin.append_ #[33,33] 33 ⟨[(ah a1),(ah (⟨some ⟨z,0,none⟩,1,1⟩:Sl))]⟩) kS y fun (c1:Sl) b1=>
 St ⟨e,0,none⟩ (ah c1) b1 fun d1=>
 ([]:List Nat)=([]:List Nat)∧m (i64 (o+1)) d1∧n (i64 (o+1)) d1<n o p))
 (Ld (.arr 258) ⟨c,0,none⟩ p fun e1=>
 ∃(f1:List Nat→Int→Int→World→Prop) (g1:Int→Int→World→Nat),f1 ([]:List Nat) ((i64 l)) (0) p∧
 ∀(k1:List Nat),∀(h1:Int) (i1:Int),∀(j1:World),f1 k1 h1 i1 j1→
 aa (decide (i1<258))
 (fl (.int .u8) e1 258 i1 fun (l1:Int)=>
 Cl Pg [kV] km ⟨[(ni h1),(ni (i64 l1))]⟩ j1 fun n1 m1=>
 gk Pg n1 [kI] m1 (fun (o1:Nat) (p1:Nat→Obj) (t1:Int) (q1:World) (r1 s1:World→Prop)=>
 wj o1 p1 q1 fun u1=>
 Ld kS ⟨e,0,none⟩ u1 fun (v1:Sl)=>
 Nw 3 ⟨[(ni t1)]⟩ u1 fun y1 x1=>
 ay Pg (Builtin.append_ #[33,33] 33 ⟨[(ah v1),(ah (⟨some ⟨y1,0,none⟩,1,1⟩:Sl))]⟩) kS x1 fun (a2:Sl) z1=>
 St ⟨e,0,none⟩ (ah a2) z1 fun b2=>
 qF o1 p1 b2 r1)
 (fun c2 d2=>
 f1 (c2::k1:List Nat) (i64 l1) (i64 (i1+1)) d2∧g1 (i64 l1) (i64 (i1+1)) d2<g1 h1 i1 j1)
 (fun e2 f2=>
 l7 (e2::k1:List Nat) f2 fun g2=>
 Ld kS ⟨e,0,none⟩ g2 fun (h2:Sl)=>
 R h2 0 g2))
 (Ld kS ⟨e,0,none⟩ j1 fun (i2:Sl)=>
 St ⟨e,0,none⟩ (ah i2) j1 fun j2=>
 l7 (k1:List Nat) j2 fun k2=>
 Ld kS ⟨e,0,none⟩ k2 fun (l2:Sl)=>
 R l2 0 k2)))):Cl Pg [kS,kI] jY ⟨[(.agg a)]⟩ w R:=Dt Tryz.f94 (.s .o (.s (.s .o (.c (.s .o .o) .o)) (.s .o (.s (.s .o (.b (.l [(15,kI)] (.s .o (.s (.c .o .o) (.s (.b (.s .o (.b .o))) .o)))))) (.s (.s .o (.b (.l [(4,kI),(28,kI)] (.s .o (.s (.c .o .o) (.s (.b (.s .o (.s (.s .o (.b (.r [kI] .o (.b .o)))) .o))) .o)))))) (.s .o .o)))))) h
theorem uD.ok (a:(Array Value)) (b:Int) (R:(Array Value)→Bool→World→Prop) w (h:
 Nw 141 a w fun d c=>
 Nw 141 ⟨List.replicate 258 (.int .u8 0)++ [(ni 0),(ni 0),(ni 0),(ni 0)]⟩ c fun f e=>
 Ld kI (Addr.add ⟨d,0,none⟩ 259) e fun (g:Int)=>
 aa (decide (g<4))
 (Ld kI (Addr.add ⟨d,0,none⟩ 260) e fun (h:Int)=>
 0≤(1:Int)∧
 Ld kI (Addr.add ⟨d,0,none⟩ 259) e fun (i:Int)=>
 St (Addr.add ⟨d,0,none⟩ 260) (ni (kR .i64 (bq .i64 h (1:Int)) b)) e fun j=>
 St (Addr.add ⟨d,0,none⟩ 259) (ni (i64 (i+1))) j fun k=>
 Ld (.arr 262) ⟨d,0,none⟩ k fun l=>
 an 262 ⟨f,0,none⟩ l k fun m=>
 Ld (.arr 262) ⟨f,0,none⟩ m fun n=>
 R n true m)
 (bo (fun (q:Bool) (r:World)=>
 aa q
 (Ld kI (Addr.add ⟨d,0,none⟩ 258) r fun (s:Int)=>
 Ld kI (Addr.add ⟨d,0,none⟩ 260) r fun (t:Int)=>
 av (Addr.add ⟨d,0,none⟩ 0) 258 s 1 fun u=>
 St u (.int .u8 (u8 t)) r fun v=>
 Ld kI (Addr.add ⟨d,0,none⟩ 258) v fun (x:Int)=>
 St (Addr.add ⟨d,0,none⟩ 258) (ni (i64 (x+1))) v fun y=>
 St (Addr.add ⟨d,0,none⟩ 261) (ni 0) y fun z=>
 cL z fun a1 b1=>
 ae (.arr 262) ⟨d,0,none⟩ a1 fun c1=>
 ae kI (Addr.add ⟨d,0,none⟩ 258) a1 fun (d1:Int)=>
 aa (decide (d1<258))
 (an 262 ⟨f,0,none⟩ c1 b1 fun e1=>
 a1 e1∧
 Ld (.arr 262) ⟨f,0,none⟩ e1 fun f1=>
 R f1 true e1)
 (ae (.arr 258) (Addr.add ⟨d,0,none⟩ 0) a1 fun g1=>
 Cl Pg [kB] eP ⟨[(.agg g1)]⟩ b1 fun (i1:Bool) h1=>
 a1 h1∧
 an 262 ⟨f,0,none⟩ c1 h1 fun j1=>
 a1 j1∧
 Ld (.arr 262) ⟨f,0,none⟩ j1 fun k1=>
 R k1 i1 j1))
 (Ld kI (Addr.add ⟨d,0,none⟩ 259) r fun (l1:Int)=>
 aa (l1==4)
 (St (Addr.add ⟨d,0,none⟩ 259) (ni 5) r fun m1=>
 Ld (.arr 262) ⟨d,0,none⟩ m1 fun n1=>
 an 262 ⟨f,0,none⟩ n1 m1 fun o1=>
 Ld (.arr 262) ⟨f,0,none⟩ o1 fun p1=>
 R p1 true o1)
 (aa (b==0)
 (Ld kI (Addr.add ⟨d,0,none⟩ 261) r fun (q1:Int)=>
 aa (q1 !=2)
 (Ld kI (Addr.add ⟨d,0,none⟩ 260) r fun (r1:Int)=>
 Ld kI (Addr.add ⟨d,0,none⟩ 260) r fun (s1:Int)=>
 St (Addr.add ⟨d,0,none⟩ 260) (ni (i64 (s1+1))) r fun t1=>
 St (Addr.add ⟨d,0,none⟩ 261) (ni 1) t1 fun u1=>
 St (Addr.add ⟨d,0,none⟩ 259) (ni 4) u1 fun v1=>
 Ld (.arr 262) ⟨d,0,none⟩ v1 fun x1=>
 an 262 ⟨f,0,none⟩ x1 v1 fun y1=>
 Ld (.arr 262) ⟨f,0,none⟩ y1 fun z1=>
 R z1 (decide (r1<15)) y1)
 (Ld kI (Addr.add ⟨d,0,none⟩ 260) r fun (a2:Int)=>
 St (Addr.add ⟨d,0,none⟩ 260) (ni (i64 (a2+1))) r fun b2=>
 St (Addr.add ⟨d,0,none⟩ 261) (ni 1) b2 fun c2=>
 St (Addr.add ⟨d,0,none⟩ 259) (ni 4) c2 fun d2=>
 Ld (.arr 262) ⟨d,0,none⟩ d2 fun e2=>
 an 262 ⟨f,0,none⟩ e2 d2 fun f2=>
 Ld (.arr 262) ⟨f,0,none⟩ f2 fun g2=>
 R g2 false f2))
 (Ld kI (Addr.add ⟨d,0,none⟩ 261) r fun (h2:Int)=>
 aa (h2 !=1)
 (Ld kI (Addr.add ⟨d,0,none⟩ 260) r fun (i2:Int)=>
 Ld kI (Addr.add ⟨d,0,none⟩ 260) r fun (j2:Int)=>
 St (Addr.add ⟨d,0,none⟩ 260) (ni (i64 (j2 - 1))) r fun k2=>
 St (Addr.add ⟨d,0,none⟩ 261) (ni 2) k2 fun l2=>
 St (Addr.add ⟨d,0,none⟩ 259) (ni 4) l2 fun m2=>
 Ld (.arr 262) ⟨d,0,none⟩ m2 fun n2=>
 an 262 ⟨f,0,none⟩ n2 m2 fun o2=>
 Ld (.arr 262) ⟨f,0,none⟩ o2 fun p2=>
 R p2 (decide (i2>0)) o2)
 (Ld kI (Addr.add ⟨d,0,none⟩ 260) r fun (q2:Int)=>
 St (Addr.add ⟨d,0,none⟩ 260) (ni (i64 (q2 - 1))) r fun r2=>
 St (Addr.add ⟨d,0,none⟩ 261) (ni 2) r2 fun s2=>
 St (Addr.add ⟨d,0,none⟩ 259) (ni 4) s2 fun t2=>
 Ld (.arr 262) ⟨d,0,none⟩ t2 fun u2=>
 an 262 ⟨f,0,none⟩ u2 t2 fun v2=>
 Ld (.arr 262) ⟨f,0,none⟩ v2 fun x2=>
 R x2 false v2))))) fun o=>
 Ld kI (Addr.add ⟨d,0,none⟩ 259) e fun (p:Int)=>
 aa (p==4)
 (o (b==0) e)
 (o false e))):Cl Pg [(.arr 262),kB] iv ⟨[(.agg a),(ni b)]⟩ w R:=co Tryz.f100 [(6,[(38,kB)])] h
theorem r3.ok (a:Int) (b:Int) (R:Value→World→Prop) w (h:
 Nw 3 ⟨[(ni a)]⟩ w fun d c=>
 Nw 3 ⟨[(ni b)]⟩ c fun f e=>
 R (.func (.func 185) ⟨[]⟩ ⟨[(.pointer (some ⟨f,0,none⟩)),(.pointer (some ⟨d,0,none⟩))]⟩) e):Cl Pg [kV] km ⟨[(ni a),(ni b)]⟩ w R:=co Tryz.f143 [] h
theorem qE.ok (a:Value) (b:Addr) (c:Addr) (R:World→Prop) w (h:
 Ld kI b w fun (d:Int)=>
 Ld kI c w fun (e:Int)=>
 aa (decide (d<e))
 (∃(f:World→Prop) (g:World→Nat),f w∧
 ∀(h:World),f h→
 Ld kI c h fun (i:Int)=>
 Ld kI b h fun (j:Int)=>
 aa (i !=j)
 (mf Pg a [kB] [(ni 1)] h fun (l:Bool) k=>
 aa (!l)
 (R k)
 (mf Pg a [kB] [(ni 1)] k fun (n:Bool) m=>
 aa (!n)
 (R m)
 (Ld kI c m fun (o:Int)=>
 St c (ni (i64 (o+(i64 ((1:Int) - (i64 ((2:Int)*1))))))) m fun p=>
 ([]:List Nat)=([]:List Nat)∧f p∧g p<g h)))
 (mf Pg a [kB] [(ni 0)] h fun (r:Bool) q=>
 R q))
 (∃(s:World→Prop) (t:World→Nat),s w∧
 ∀(u:World),s u→
 Ld kI c u fun (v:Int)=>
 Ld kI b u fun (x:Int)=>
 aa (v !=x)
 (mf Pg a [kB] [(ni 1)] u fun (z:Bool) y=>
 aa (!z)
 (R y)
 (mf Pg a [kB] [(ni 0)] y fun (b1:Bool) a1=>
 aa (!b1)
 (R a1)
 (Ld kI c a1 fun (c1:Int)=>
 St c (ni (i64 (c1+(i64 ((1:Int) - (i64 ((2:Int)*0))))))) a1 fun d1=>
 ([]:List Nat)=([]:List Nat)∧s d1∧t d1<t u)))
 (mf Pg a [kB] [(ni 0)] u fun (f1:Bool) e1=>
 R e1))):Cl Pg [] iV ⟨[a,(.pointer (some b)),(.pointer (some c))]⟩ w R:=Dt Tryz.f185 (.s .o (.s (.s .o (.c .o .o)) (.s (.b (.l [] (.s (.s .o (.c .o .o)) (.s (.b (.s .o (.c .o .o))) .o)))) .o))) h
end Go.Proofs.YtcdpblipagajiaaGreat
set_option maxRecDepth 20000
namespace Go.Tab
open Go.Inc
def sV (l:List Nat) (now way:Nat):Prop:=
 if l= [] then way=0∨(way=1∧0<now)∨(way=2∧now<15)
 else (way=0∧l.getLastD 0=now)∨(way=1∧l.getLastD 0<now)∨(way=2∧now<l.getLastD 0)
def gh (t:TS):Prop:=
 (t.bits<4∧t.l= []∧t.now<2^t.bits∧t.way=0)∨
 ((t.bits=4∨t.bits=5)∧t.l.length<258∧t.now≤15∧(∀x∈t.l,x≤15)∧sV t.l t.now t.way)
theorem gh.zero:gh t0:= .inl ⟨by decide,rfl,by decide,rfl⟩
theorem oE {ok:List Nat→Bool} {t t':TS} {b:Nat} (h:gh t) (hb:b≤1) (he:bf ok t b= .more t'):gh t':=by
 obtain ⟨l,bits,now,way⟩:=t
 unfold gh at h
 unfold bf at he
 dsimp only at h he
 rcases h with ⟨h1,h2,h3,h4⟩|⟨h1,h2,h3,h4,h5⟩
 ·rw [if_pos h1] at he
  cases he
  subst h2 h4
  by_cases h:bits=3
  ·subst h
   right
   refine ⟨.inl rfl,by simp,by simp at h3;dsimp only;omega,by simp,?_⟩
   simp [sV]
  ·left
   refine ⟨by dsimp only;omega,rfl,?_,rfl⟩
   dsimp only
   rw [Nat.pow_succ];omega
 ·rw [if_neg (by omega)] at he
  split at he
  ·split at he
   ·split at he
    ·cases he
     right
     refine ⟨.inl rfl,by simp;omega,h3,?_,?_⟩
     ·intro x hx
      rcases List.mem_append.1 hx with hx|hx
      ·exact h4 x hx
      ·rw [List.mem_singleton] at hx;omega
     ·unfold sV
      dsimp only
      rw [if_neg (by simp)]
      left
      simp
    ·split at he<;>cases he
   ·cases he
    right
    exact ⟨.inr rfl,h2,h3,h4,h5⟩
  ·split at he
   ·split at he
    ·rename_i hw
     cases he
     right
     refine ⟨.inl rfl,h2,by dsimp only;omega,h4,?_⟩
     unfold sV at h5⊢
     dsimp only
     split at h5
     ·rename_i hl
      rw [if_pos hl];omega
     ·rename_i hl
      rw [if_neg hl];omega
    ·cases he
   ·split at he
    ·rename_i hw
     cases he
     right
     refine ⟨.inl rfl,h2,by dsimp only;omega,h4,?_⟩
     unfold sV at h5⊢
     dsimp only
     split at h5
     ·rename_i hl
      rw [if_pos hl];omega
     ·rename_i hl
      rw [if_neg hl];omega
    ·cases he
theorem dE {ok:List Nat→Bool} {t:TS} {b:Nat} {l:List Nat} (h:gh t) (he:bf ok t b= .fin l):l.length=258∧ok l=true:=by
 obtain ⟨l',bits,now,way⟩:=t
 unfold gh at h
 unfold bf at he
 dsimp only at h he
 split at he
 ·cases he
 ·split at he
  ·split at he
   ·split at he
    ·cases he
    ·split at he
     ·rename_i hok
      cases he
      refine ⟨?_,hok⟩
      simp
      omega
     ·cases he
   ·cases he
  ·split at he
   ·split at he<;>cases he
   ·split at he<;>cases he
def pad (l:List Nat):List Nat:=l++List.replicate (258 - l.length) 0
theorem bh {l:List Nat} (h:l.length≤258):(pad l).length=258:=by simp [pad];omega
theorem BY {l:List Nat} (h:l.length=258):pad l=l:=by simp [pad,h]
theorem DP {l:List Nat} {x:Nat} (h:l.length<258):(pad l).set l.length x=pad (l++ [x]):=by
 unfold pad
 rw [List.set_append_right _ _ (Nat.le_refl _),Nat.sub_self]
 obtain ⟨m,hm⟩: ∃m,258 - l.length=m+1:=⟨257 - l.length,by omega⟩
 rw [hm,List.replicate_succ,List.set_cons_zero,List.length_append,List.length_singleton,show 258 - (l.length+1)=m by omega]
 simp
end Go.Tab
namespace Go.Proofs.YtcdpblipagajiaaGreat
open Go Go.Vc Go.Srt Go.Inc Go.Tab
abbrev wu (l:List Nat):List Value:=l.map fun (n:Nat)=>Value.int .u8 (n:Int)
abbrev dK (l:List Nat) (s b n wy:Int):Array Value:=⟨wu l++ [.int .i64 s,.int .i64 b,.int .i64 n,.int .i64 wy]⟩
theorem iL {l:List Nat} (h:l.length=258):(wu l).length=258:=by simp [h]
section
variable {E w:World} {F:List HP}
theorem I7:(Tryz.prog.fieldsOf 141).toList.map (fun f=>(f.name== "_",f.type,f.offset))= [(false,36,0),(false,3,258),(false,3,259),(false,3,260),(false,3,261)]:=by kernel_rfl
theorem Nz:Tryz.prog.underlying 141=some (.struct (Tryz.prog.fieldsOf 141)):=by kernel_rfl
theorem L8:Tryz.prog.stoodInHeld 141=false:=by kernel_rfl
set_option maxRecDepth 20000 in
theorem wo.tb {l:List Nat} {s b n wy:Int} {K:Bool→Prop} (hl:l.length=258) (hK:K true):wo Tryz.prog 141 (dK l s b n wy) (dK l s b n wy) K:=by
 obtain ⟨it,hit⟩:=Eb
 obtain ⟨jt,hjt,hjs⟩:=Le
 obtain ⟨kt,hkt,hks⟩:=Gh
 obtain ⟨f1,f2,f3,f4,f5,hfs,hf1,hf2,hf3,hf4,hf5⟩: ∃f1 f2 f3 f4 f5,(Tryz.prog.fieldsOf 141).toList= [f1,f2,f3,f4,f5]∧(f1.name== "_",f1.type,f1.offset)=(false,36,0)∧(f2.name== "_",f2.type,f2.offset)=(false,3,258)∧(f3.name== "_",f3.type,f3.offset)=(false,3,259)∧(f4.name== "_",f4.type,f4.offset)=(false,3,260)∧(f5.name== "_",f5.type,f5.offset)=(false,3,261):=by
  have h:=I7
  generalize (Tryz.prog.fieldsOf 141).toList=fs at h
  match fs,h with
  | [],h=>simp at h
  | [_],h=>simp at h
  | [_,_],h=>simp at h
  | [_,_,_],h=>simp at h
  | [_,_,_,_],h=>simp at h
  |_::_::_::_::_::_::_,h=>simp at h
  | [f1,f2,f3,f4,f5],h=>
   simp only [List.map_cons,List.map_nil,List.cons.injEq,and_true] at h
   exact ⟨f1,f2,f3,f4,f5,rfl,h.1,h.2.1,h.2.2.1,h.2.2.2.1,h.2.2.2.2⟩
 simp only [Prod.mk.injEq] at hf1 hf2 hf3 hf4 hf5
 have hL:=iL hl
 have hc:(((dK l s b n wy).toList.drop 0).take 258)=(l.map fun (x:Nat)=>(x:Int)).map (.int .u8):=by
  rw [List.drop_zero,List.take_append_of_le_length (by omega),List.take_of_length_le (by omega),List.map_map];rfl
 have hint: ∀(x:Int) (D:Nat) (_:9≤D) (w:World),(Op.equalIn D 3 (.int .i64 x) (.int .i64 x)).run Tryz.prog w= .ok true w:=fun x D hD w=>by
  obtain ⟨D,rfl⟩: ∃k,D=k+1:=⟨D - 1,by omega⟩
  rw [run_equalIn_int w D _ _ _ _ _ G4]
  simp
 obtain ⟨r,hr,hK'⟩:=kq (P:=Tryz.prog) (d:=9) (rec:=fun t x y K=> ∃b,(∀D,9≤D→∀w,(Op.equalIn D t x y).run Tryz.prog w= .ok b w)∧K b) (fun t x y K h=>h) (xs:=dK l s b n wy) (ys:=dK l s b n wy) (fs:= [f1,f2,f3,f4,f5]) (K:=K) (by
  unfold jS
  rw [hf1.1]
  refine na (it:=jt) (by rw [hf1.2.1];kernel_rfl) (by rw [hf1.2.1];exact hjt) (na (it:=jt) (by rw [hf1.2.1];kernel_rfl) (by rw [hf1.2.1];exact hjt) ?_)
  rw [hf1.2.2,hjs,hf1.2.1,hc]
  refine ⟨_,fun D hD w=>yN Mg JP hkt hks (by simpa using hl) (by simpa using hl) D (by omega) w,?_⟩
  unfold jS
  rw [hf2.1]
  refine ew (it:=it) (v:= .int .i64 s) (by rw [hf2.2.1];kernel_rfl) (by rw [hf2.2.1];exact hit) (by rw [hf2.2.2];exact kQ (k:=0) hL) (ew (it:=it) (v:= .int .i64 s) (by rw [hf2.2.1];kernel_rfl) (by rw [hf2.2.1];exact hit) (by rw [hf2.2.2];exact kQ (k:=0) hL) ?_)
  rw [hf2.2.1]
  refine ⟨true,hint s,?_⟩
  unfold jS
  rw [hf3.1]
  refine ew (it:=it) (v:= .int .i64 b) (by rw [hf3.2.1];kernel_rfl) (by rw [hf3.2.1];exact hit) (by rw [hf3.2.2];exact kQ (k:=1) hL) (ew (it:=it) (v:= .int .i64 b) (by rw [hf3.2.1];kernel_rfl) (by rw [hf3.2.1];exact hit) (by rw [hf3.2.2];exact kQ (k:=1) hL) ?_)
  rw [hf3.2.1]
  refine ⟨true,hint b,?_⟩
  unfold jS
  rw [hf4.1]
  refine ew (it:=it) (v:= .int .i64 n) (by rw [hf4.2.1];kernel_rfl) (by rw [hf4.2.1];exact hit) (by rw [hf4.2.2];exact kQ (k:=2) hL) (ew (it:=it) (v:= .int .i64 n) (by rw [hf4.2.1];kernel_rfl) (by rw [hf4.2.1];exact hit) (by rw [hf4.2.2];exact kQ (k:=2) hL) ?_)
  rw [hf4.2.1]
  refine ⟨true,hint n,?_⟩
  unfold jS
  rw [hf5.1]
  refine ew (it:=it) (v:= .int .i64 wy) (by rw [hf5.2.1];kernel_rfl) (by rw [hf5.2.1];exact hit) (by rw [hf5.2.2];exact kQ (k:=3) hL) (ew (it:=it) (v:= .int .i64 wy) (by rw [hf5.2.1];kernel_rfl) (by rw [hf5.2.1];exact hit) (by rw [hf5.2.2];exact kQ (k:=3) hL) ?_)
  rw [hf5.2.1]
  refine ⟨true,hint wy,?_⟩
  simpa using hK)
 refine ⟨r,fun w=> ?_,hK'⟩
 rw [run_equalIn_struct w 9999 _ _ _ Nz L8,hfs]
 exact hr 9999 (by decide) w
end
end Go.Proofs.YtcdpblipagajiaaGreat
set_option maxRecDepth 20000
namespace Go.Proofs.YtcdpblipagajiaaGreat
open Go Go.Vc Go.Srt Go.Bits
def Wr (b:Nat) (bits:List Nat):HP:=fun f=> ∃s:Sl,(Srt.Bits bits∧bits.length≤cA)∧
 Sat [aj b (.cells ⟨[.slice s.base s.len s.cap,.int .i64 (bits.length:Int)]⟩ 133 (0,0)),al 1 s ((pack bits).map vB)] f
section
variable {E w:World} {F A:List HP} {b:Nat} {bits:List Nat}
theorem Wr.NN (h:Hp E w (Wr b bits::F)): ∃s:Sl,Srt.Bits bits∧bits.length≤cA∧Hp E w (aj b (.cells ⟨[.slice s.base s.len s.cap,.int .i64 (bits.length:Int)]⟩ 133 (0,0))::al 1 s ((pack bits).map vB)::F):=by
 obtain ⟨s,⟨h1,h2⟩,h⟩:=h.J3 (X:=fun _:Sl=>Srt.Bits bits∧bits.length≤cA) (L:=fun s=> [aj b (.cells ⟨[.slice s.base s.len s.cap,.int .i64 (bits.length:Int)]⟩ 133 (0,0)),al 1 s ((pack bits).map vB)]) (fun f hf=>hf)
 exact ⟨s,h1,h2,h⟩
theorem Wr.shut {s:Sl} (h1:Srt.Bits bits) (h2:bits.length≤cA) (h:Hp E w (aj b (.cells ⟨[.slice s.base s.len s.cap,.int .i64 (bits.length:Int)]⟩ 133 (0,0))::al 1 s ((pack bits).map vB)::F)):Hp E w (Wr b bits::F):=
 Hp.JR (l:= [_,_]) (fun f hf=>⟨s,⟨h1,h2⟩,hf⟩) h
theorem LO {K:Option Addr→World→Prop} (h:Hp E w F) (hK: ∀b w',Hp E w' (Wr b []::F)→K (some ⟨b,0,none⟩) w'):Cl Tryz.prog [kP] kv ⟨[]⟩ w K:=by
 refine zx.ok _ _ ?_
 exact Nw.mk h fun b w1 h1=>hK b w1 (Wr.shut (s:=⟨none,0,0⟩) (fun x hx=>by cases hx) (Nat.zero_le _) ((h1.aW 1).p1))
theorem Ie {v width:Nat} {K:Bool→World→Prop} (hw:width≤32) (hv:v<2^width) (hv2:v≤4294967295) (hK:K true w):Cl Tryz.prog [kB] jV ⟨[.int .u32 (v:Int),.int .i64 (width:Int)]⟩ w K:=by
 refine xT.ok _ _ _ _ ?_
 refine aa.t (decide_eq_true (by omega)) (aa.t (decide_eq_true (by omega)) ⟨by omega,?_⟩)
 rw [ik (by omega),cb (by have:IntKind.bits .u64=64:=rfl;omega),Nat.div_eq_of_lt hv]
 exact hK
theorem rb:ca Tryz.prog 22 5 1 1:=ca.of (by kernel_rfl) (by kernel_rfl)
theorem DT {x:Nat} (hx:x≤1):Srt.Bits [x]:=fun y hy=>by
 have:y=x:=by simpa using hy
 omega
theorem AL {x:Nat}: ∀y∈ [vB x],aA y=true:=fun y hy=>by
 have:y=vB x:=by simpa using hy
 subst this;rfl
theorem My (n:Nat) (h:n≤cA):bC .i64 (n:Int) 7=((n % 8:Nat):Int):=by
 have hm:IntKind.max .i64=9223372036854775807:=rfl
 rw [aB] at h
 rw [show (7:Int)=((7:Nat):Int) from rfl,eB (by omega) (by omega),show (7:Nat)=2^3 - 1 from rfl,Nat.and_two_pow_sub_one_eq_mod]
set_option maxRecDepth 20000 in
theorem Nk {x:Nat} {K:World→Prop} (h:Hp E w (Wr b bits::F)) (hx:x≤1) (hbig:bits.length+1≤cA) (hK: ∀w',Hp E w' (Wr b (bits++ [x])::F)→K w'):
  Cl Tryz.prog [] fm ⟨[.pointer (some ⟨b,0,none⟩),.int .u8 (x:Int)]⟩ w K:=by
 refine qU.ok _ _ _ _ ?_
 simp only [aw,ar,Nat.zero_add]
 obtain ⟨s,hb,hle,h1⟩:=Wr.NN h
 have hbg:=hbig
 rw [aB] at hbg hle
 have hr8:bits.length % 8<8:=Nat.mod_lt _ (by decide)
 refine Ld.aF (s:= .int .i64) h1 (bits.length:Int) rfl ?_
 rw [My _ (by rw [aB];omega)]
 have tail: ∀(s':Sl) (w2:World),Hp E w2 (aj b (.cells ⟨[.slice s'.base s'.len s'.cap,.int .i64 (bits.length:Int)]⟩ 133 (0,0))::al 1 s' ((room bits).map vB)::F)→
   au w2 fun (w_13:World)=>Ld kS (⟨b,0,none⟩:Addr) w_13 fun (b15:Sl)=>Ld kI (⟨b,1,none⟩:Addr) w_13 fun (many17:Int)=>0≤(3:Int)∧aq b15 (aK .i64 many17 3) 1 fun (q18:Addr)=>Ld (az .u8) q18 w_13 fun (x19:Int)=>
    Ld kI (⟨b,1,none⟩:Addr) w_13 fun (many21:Int)=>0≤((i64 ((7:Int) - (bC .i64 many21 7))):Int)∧aq b15 (aK .i64 many17 3) 1 fun (q22:Addr)=>
    St q22 (.int .u8 (kR .u8 x19 (bq .u8 (x:Int) (i64 ((7:Int) - (bC .i64 many21 7)))))) w_13 fun (w_23:World)=>Ld kI (⟨b,1,none⟩:Addr) w_23 fun (many25:Int)=>St (⟨b,1,none⟩:Addr) (.int .i64 (i64 (many25+1))) w_23 fun (w_27:World)=>K w_27:=by
  intro s' w2 h2
  refine au.mk h2 fun w3 h3=>Ld.aF (s:= .sl) h3 s' rfl (Ld.aF (s:= .int .i64) h3 (bits.length:Int) rfl ⟨by decide,?_⟩)
  have hol:=h3.p1.a6
  have hrl:(room bits).length=bits.length/8+1:=mS _ _
  rw [List.length_map,hrl,Nat.mul_one] at hol
  have e3:aK .i64 (bits.length:Int) 3=((bits.length/8:Nat):Int):=by
   rw [show (3:Int)=((3:Nat):Int) from rfl,cb (by decide)]
  rw [e3]
  refine aq.rd (h3.ag (ab.cons ab.own)) (by omega) (by omega) fun q hq hc=> ?_
  have hby:((room bits).map vB)[((bits.length/8:Nat):Int).toNat]'hq= .int .u8 (kn bits (bits.length/8):Int):=by
   rw [List.getElem_map]
   have:=wK (b:=bits) (m:=bits.length/8+1) (j:=bits.length/8) (by omega)
   rw [bx (by rw [mS];omega)] at this
   show vB _=_
   unfold vB
   rw [←this];rfl
  refine Ld.sc (s:= .int .u8) (kn bits (bits.length/8):Int) (by rw [hc,hby]) (Ld.aF (s:= .int .i64) h3 (bits.length:Int) rfl ?_)
  rw [My _ (by rw [aB];omega),ad (x:=(7:Int) - ((bits.length % 8:Nat):Int)) (by omega),show (7:Int) - ((bits.length % 8:Nat):Int)=((7 - bits.length % 8:Nat):Int) by omega]
  have hnew:=FO (hb.app (DT hx)) (bits.length/8)
  rw [A4,if_pos rfl] at hnew
  have hm8:IntKind.max .u8=255:=rfl
  have e4:bq .u8 (x:Int) ((7 - bits.length % 8:Nat):Int)=((x*2^(7 - bits.length % 8):Nat):Int):=dX (by have:IntKind.bits .u8=8:=rfl;omega) (by omega)
  have e5:=Kj hr8 (K5 bits) hx
  rw [e4,qy (by omega) (by omega) (by rw [e5];omega),e5]
  refine ⟨by omega,?_⟩
  refine St.own h3.p1 (by omega) (by omega) rfl fun w4 h4=> ?_
  refine Ld.aF (s:= .int .i64) h4.p1 (bits.length:Int) rfl ?_
  rw [ad (by omega)]
  refine St.aF h4.p1 (show 1<2 by decide) rfl fun w5 h5=>hK w5 (Wr.shut (s:=s') (hb.app (DT hx)) (by simpa using hbig) ?_)
  rw [Ht]
  have:((room bits).set (bits.length/8) (kn bits (bits.length/8)+x*2^(7 - bits.length % 8))).map vB=((room bits).map vB).set ((bits.length/8:Nat):Int).toNat (.int .u8 ((kn bits (bits.length/8)+x*2^(7 - bits.length % 8):Nat):Int)):=by
   rw [Int.toNat_natCast,List.map_set];rfl
  rw [this,List.length_append,List.length_singleton]
  exact h5
 refine aa.mk (fun hz=> ?_) (fun hz=> ?_)
 ·have hz:bits.length % 8=0:=by rw [beq_iff_eq] at hz;omega
  refine Ld.aF (s:= .sl) h1 s rfl (Nw.mk h1 fun b8 w2 h2=> ?_)
  have hol:=h2.p2.a6
  rw [List.length_map,il,Nat.mul_one] at hol
  refine aP (ys:= [vB 0]) (n:=1) rb (by decide) (.inl ⟨5,by kernel_rfl⟩) h2.p2 (.inl ⟨some ⟨b8,0,none⟩,1,1,rfl,rfl,h2.ag (ab.aF rfl rfl)⟩) rfl AL (by omega) (by omega) fun s' w3 h3 hs'=> ?_
  refine St.aF h3.p2 (show 0<2 by decide) rfl fun w4 h4=> ?_
  refine tail s' w4 ?_
  have e:(room bits).map vB=(pack bits).map vB++ [vB 0]:=by rw [Ed,if_pos hz,List.map_append];rfl
  rw [e]
  exact h4.p2.drop
 ·have hz:bits.length % 8≠0:=by have:=beq_eq_false_iff_ne.1 hz;omega
  refine tail s w ?_
  rw [Ed,if_neg hz]
  exact h1
set_option maxRecDepth 20000 in
theorem JD {K:Sl→World→Prop} (h:Hp E w (Wr b bits::F)) (hK: ∀s w',Hp E w' (al 1 s ((pack bits).map vB)::Wr b bits::F)→K s w'):Cl Tryz.prog [kS] eE ⟨[.pointer (some ⟨b,0,none⟩)]⟩ w K:=by
 refine pZ.ok _ _ _ ?_
 simp only [aw,ar,Nat.zero_add]
 obtain ⟨s,hb,hle,h1⟩:=Wr.NN h
 refine aa.f rfl (Ld.aF (s:= .sl) h1 s rfl (uv.ok _ _ _ ?_))
 have hol:=h1.p1.a6
 have hpl:=il bits
 rw [List.length_map,Nat.mul_one] at hol
 rw [aB] at hle
 refine aa.mk (fun hn=> ?_) (fun hn=> ?_)
 ·have hn:s.base=none:=by simpa using hn
  obtain ⟨rfl,he,h2⟩|⟨b0,off,arr,t,hbase,_⟩:=h1.p1.nj
  ·refine hK _ w ?_
   rw [he]
   refine Hp.aW (Wr.shut (s:=⟨none,0,0⟩) hb (by rw [aB];exact hle) ?_) 1
   rw [he]
   exact (h2.aW 1).p1
  ·rw [hn] at hbase;cases hbase
 ·refine Nw.mk h1 fun b3 w2 h2=> ?_
  have h3:=h2.dh (n:=0) (sz:=1) rfl
  have hsrc:aC 1 s ((pack bits).map vB) w2:=h2.ag (ab.cons (ab.cons ab.own))
  refine aP (s:=⟨some ⟨b3,0,none⟩,0,0⟩) (ys:=(pack bits).map vB) (n:=s.len) rb (by decide) (.inl ⟨5,by kernel_rfl⟩) h3 (.inl ⟨s.base,s.len,s.cap,rfl,rfl,hsrc⟩) (by rw [List.length_map,Nat.mul_one];exact hol) eX (by show (2*(0+s.len)+1024)*1≤2^48;omega) (by show 0+s.len<2^62;omega) fun s' w4 h4 _=> ?_
  exact hK s' w4 (Wr.shut (s:=s) hb (by rw [aB];exact hle) h4.q2).p1
set_option maxRecDepth 20000 in
theorem HB {v width b4 b6:Nat} (hw:width≤32) (hv:v≤4294967295):Iter Tryz.prog E (.func (.func mm) ⟨[]⟩ ⟨[.pointer (some ⟨b6,0,none⟩),.pointer (some ⟨b4,0,none⟩)]⟩) width (fun i=> [Ki.enc (az .u8) ((v/2^(width - 1 - i) % 2:Nat):Int)])
  (aj b6 (.cells ⟨[.int .i64 (width:Int)]⟩ 3 (0,0))::aj b4 (.cells ⟨[.int .u32 (v:Int)]⟩ 49 (0,0))::A):=by
 intro yv C G w K hy h hK hKG
 refine rV.mk (by kernel_rfl) (uP.ok yv ⟨b6,0,none⟩ ⟨b4,0,none⟩ K w ?_)
 have h0:=h.perm (List.perm_middle.trans (List.Perm.cons _ List.perm_middle))
 refine Ld.aF (s:= .int .i64) h0 (width:Int) rfl ?_
 refine ⟨fun i w'=> ∃k:Nat,i=(width:Int) - 1 - (k:Int)∧k≤width∧Hp E w' (aj b6 (.cells ⟨[.int .i64 (width:Int)]⟩ 3 (0,0))::aj b4 (.cells ⟨[.int .u32 (v:Int)]⟩ 49 (0,0))::(C k++A)),fun i _=>(i+1).toNat,⟨0,by rw [ad (by omega)];omega,by omega,h0⟩,?_⟩
 rintro i w1 ⟨k,rfl,hk,h1⟩
 refine aa.mk (fun hge=> ?_) (fun hlt=> ?_)
 ·have hlt:k<width:=by have:=of_decide_eq_true hge;omega
  refine Ld.aF (s:= .int .u32) h1.p1 (v:Int) rfl ⟨by omega,?_⟩
  have hd:v/2^(width - 1 - k)≤v:=Nat.div_le_self _ _
  have e:bC .u8 (u8 (aK .u32 (v:Int) ((width:Int) - 1 - (k:Int)))) 1=((v/2^(width - 1 - k) % 2:Nat):Int):=by
   have hm:IntKind.max .u8=255:=rfl
   rw [show (width:Int) - 1 - (k:Int)=((width - 1 - k:Nat):Int) by omega,cb (by have:IntKind.bits .u32=32:=rfl;omega),sJ,show (((v/2^(width - 1 - k):Nat):Int) % 256)=((v/2^(width - 1 - k) % 256:Nat):Int) by omega,
    show (1:Int)=((1:Nat):Int) from rfl,eB (by omega) (by omega),Nat.and_one_is_mod]
   omega
  rw [e]
  refine hy k hlt (aj b6 (.cells ⟨[.int .i64 (width:Int)]⟩ 3 (0,0))::aj b4 (.cells ⟨[.int .u32 (v:Int)]⟩ 49 (0,0))::A) w1 _ (h1.perm ((List.Perm.cons _ List.perm_middle.symm).trans List.perm_middle.symm)) (fun w5 h5=> ?_) (fun w5 h5=> ?_)
  ·refine aa.f rfl ⟨rfl,⟨k+1,by rw [ad (by omega)];omega,by omega,h5.perm (List.perm_middle.trans (List.Perm.cons _ List.perm_middle))⟩,by dsimp only;rw [ad (by omega)];omega⟩
  ·exact aa.t rfl (hKG k w5 hlt h5)
 ·have hge:k=width:=by have:=of_decide_eq_false hlt;omega
  subst hge
  exact hK _ (h1.perm ((List.Perm.cons _ List.perm_middle.symm).trans List.perm_middle.symm))
theorem FT {v width:Nat} {K:Bool→World→Prop} (h:Hp E w (Wr b bits::F)) (hw:width≤32) (hv:v<2^width) (hv2:v≤4294967295) (hbig:bits.length+width≤cA) (hK: ∀w',Hp E w' (Wr b (bits++bn width v)::F)→K true w'):
  Cl Tryz.prog [kB] dw ⟨[.pointer (some ⟨b,0,none⟩),.int .u32 (v:Int),.int .i64 (width:Int)]⟩ w K:=by
 refine rm.ok _ _ _ _ _ ?_
 refine Nw.mk h fun b5 w1 h1=>Ld.aF (s:= .ptr) h1 (some ⟨b,0,none⟩) rfl (aa.f rfl (Ie hw hv hv2 (aa.f rfl (xS.ok _ _ _ _ ?_))))
 refine Nw.mk h1 fun b4 w2 h2=>Nw.mk h2 fun b6 w3 h3=> ?_
 have h3:Hp E w3 ([aj b5 (.cells ⟨[.pointer (some ⟨b,0,none⟩)]⟩ 80 (0,0)),Wr b (bits++(bn width v).take 0)]++(aj b6 (.cells ⟨[.int .i64 (width:Int)]⟩ 3 (0,0))::aj b4 (.cells ⟨[.int .u32 (v:Int)]⟩ 49 (0,0))::F)):=by
  rw [List.take_zero,List.append_nil]
  exact h3.p3.p3
 have hbl:=ib width v
 refine gk.qa (k:=az .u8) (x:=fun i=>((v/2^(width - 1 - i) % 2:Nat):Int)) (n:=width) (fun i=> [aj b5 (.cells ⟨[.pointer (some ⟨b,0,none⟩)]⟩ 80 (0,0)),Wr b (bits++(bn width v).take i)]) (fun _=> [Fl]) h3 (HB hw hv2) ?_ ?_ ?_
 ·intro lr rec i A w5 Kt Kf hi h5 hKt _
  have h5:Hp E w5 (aj lr (rec 0)::aj b5 (.cells ⟨[.pointer (some ⟨b,0,none⟩)]⟩ 80 (0,0))::Wr b (bits++(bn width v).take i)::A):=h5
  refine wj.mk h5 fun w6 h6=>Ld.aF (s:= .ptr) h6.p1 (some ⟨b,0,none⟩) rfl ?_
  refine Nk h6.p2 (by omega) (by rw [List.length_append,List.length_take,hbl];omega) fun w7 h7=>qF.mk h7.p1 fun w8 h8=>hKt w8 ?_
  have e:(bits++(bn width v).take i)++ [v/2^(width - 1 - i) % 2]=bits++(bn width v).take (i+1):=by
   rw [List.append_assoc,List.take_add_one,List.getElem?_eq_getElem (by rw [hbl];exact hi),←th width v i hi,bx (by rw [hbl];exact hi)];rfl
  rw [e] at h8
  exact h8.p2.p1
 ·intro D w5 h5
  have h5:Hp E w5 (aj D (.deferred (some []))::aj b5 (.cells ⟨[.pointer (some ⟨b,0,none⟩)]⟩ 80 (0,0))::Wr b (bits++(bn width v).take width)::aj b6 (.cells ⟨[.int .i64 (width:Int)]⟩ 3 (0,0))::aj b4 (.cells ⟨[.int .u32 (v:Int)]⟩ 49 (0,0))::F):=h5
  rw [List.take_of_length_le (by omega)] at h5
  exact l7.qa h5 fun w6 h6=>hK w6 h6.drop.p1.drop.p1.drop
 ·intro i D w5 hi h5
  exact (Hp.Ij h5).elim
end
end Go.Proofs.YtcdpblipagajiaaGreat
namespace Go.Proofs.YtcdpblipagajiaaGreat
open Go Go.Vc Go.Srt Go.Inc Go.Tab Go.Bits
section
variable {E w:World} {F:List HP}
set_option maxRecDepth 20000
theorem Az {was now b4 b6:Nat} (h1:was≤255) (h2:now≤255):wD Tryz.prog E (.func (.func iV) ⟨[]⟩ ⟨[.pointer (some ⟨b6,0,none⟩),.pointer (some ⟨b4,0,none⟩)]⟩) (cm was now).length
  (fun i=> [Ki.enc kI (((cm was now).getD i 0:Nat):Int)]) [bI b6 now,bI b4 was] (fun _=>True):=by
 intro yv C G w K hg hy h hK hKG
 refine rV.mk (by kernel_rfl) (qE.ok yv ⟨b6,0,none⟩ ⟨b4,0,none⟩ K w ?_)
 have h:Hp E w (bI b6 now::bI b4 was::C 0):=h
 have one: ∀(k x:Nat) (rest:List Nat) (was':Nat) (w:World) (Kb:Bool→World→Prop),(cm was now).drop k=x::rest→Hp E w (bI b6 now::bI b4 was'::C k)→
   (∀w',Hp E w' (bI b6 now::bI b4 was'::C (k+1))→Kb true w')→(∀w',k<(cm was now).length→Hp E w' (G k)→Kb false w')→mf Tryz.prog yv [kB] [.int .i64 (x:Int)] w Kb:=by
  intro k x rest was' w Kb hd h hk hf
  have hlt:k<(cm was now).length:=by
   rcases Nat.lt_or_ge k (cm was now).length with q|q
   ·exact q
   ·rw [List.drop_eq_nil_of_le q] at hd;cases hd
  have hx:(cm was now).getD k 0=x:=by
   rw [List.drop_eq_getElem_cons hlt] at hd
   injection hd with e _
   rw [List.getD_eq_getElem?_getD,List.getElem?_eq_getElem hlt,Option.getD_some,e]
  have he: [Value.int .i64 (x:Int)]= [Ki.enc kI (((cm was now).getD k 0:Nat):Int)]:=by rw [hx]
  rw [he]
  refine hy k hlt [bI b6 now,bI b4 was'] w _ (h.perm (List.perm_append_comm (l₁:= [bI b6 now,bI b4 was']))) (fun w h=> ?_) (fun w h=> ?_)
  ·exact hk w (h.perm (List.perm_append_comm (l₂:= [bI b6 now,bI b4 was'])))
  ·exact hf w hlt (h.perm (List.perm_append_comm (l₂:= [bI b6 now,bI b4 was']))).drop.drop
 have last: ∀(k was':Nat) (w:World),(cm was now).drop k= [0]→Hp E w (bI b6 now::bI b4 was'::C k)→mf Tryz.prog yv [kB] [.int .i64 0] w fun _ w=>K w:=by
  intro k was' w hd h
  have hlen:(cm was now).length=k+1:=by
   have:=congrArg List.length hd
   simp at this;omega
  refine one k 0 [] was' w _ hd h (fun w h=> ?_) (fun w hk h=>hKG k w hk h)
  rw [←hlen] at h
  exact hK w h.drop.drop
 have hdn: ∀j,fy (j+1)=1::1::fy j:=fun _=>rfl
 have hup: ∀j,ma (j+1)=1::0::ma j:=fun _=>rfl
 refine Ld.xb (x:=(now:Int)) h rfl (Ld.xb (x:=(was:Int)) h rfl (aa.dm (fun hlt=> ?_) (fun hge=> ?_)))
 ·have hlt:now<was:=by omega
  refine ⟨fun w=> ∃k was':Nat,now≤was'∧was'≤was∧(cm was now).drop k=fy (was' - now)++ [0]∧k+2*(was' - now)+1=(cm was now).length∧Hp E w (bI b6 now::bI b4 was'::C k),
   fun w=>kH b4 w,⟨0,was,by omega,by omega,?_,?_,h⟩,?_⟩
  ·unfold cm;rw [if_pos hlt];rfl
  ·unfold cm;rw [if_pos hlt]
   have: ∀j,(fy j).length=2*j:=fun j=>by
    induction j with
    |zero=>rfl
    |succ j ih=>rw [hdn,List.length_cons,List.length_cons,ih];omega
   simp [this]
  rintro w ⟨k,was',h3,h4,hd,hkl,h⟩
  refine Ld.xb (x:=(was':Int)) h rfl (Ld.xb (x:=(now:Int)) h rfl (aa.nm (fun hne=> ?_) (fun he=> ?_)))
  ·obtain ⟨j,hj⟩: ∃j,was' - now=j+1:=⟨was' - now - 1,by omega⟩
   rw [hj,hdn] at hd
   have hd2:(cm was now).drop (k+1)=1::(fy j++ [0]):=by rw [←List.drop_drop,hd];rfl
   have hd3:(cm was now).drop (k+2)=fy j++ [0]:=by rw [show k+2=(k+1)+1 by omega,←List.drop_drop,hd2];rfl
   refine one k 1 _ was' w _ hd h (fun w1 h1=> ?_) (fun w1 hk1 h1=>aa.t rfl (hKG k w1 hk1 h1))
   refine aa.f rfl ?_
   refine one (k+1) 1 _ was' w1 _ hd2 h1 (fun w2 h2=> ?_) (fun w2 hk2 h2=>aa.t rfl (hKG (k+1) w2 hk2 h2))
   refine aa.f rfl ?_
   refine Ld.xb (x:=(was':Int)) h2 rfl ?_
   rw [ad (x:=(2:Int)*1) (by omega),ad (x:=(1:Int) - 2*1) (by omega),ad (by omega)]
   refine St.xb h2 (by simp) rfl fun w3 h3'=> ?_
   rw [show (was':Int)+(1 - 2*1)=((was' - 1:Nat):Int) by omega] at h3'
   have h3':Hp E w3 (bI b6 now::bI b4 (was' - 1)::C (k+2)):=h3'
   refine ⟨rfl,⟨k+2,was' - 1,by omega,by omega,?_,by omega,h3'⟩,?_⟩
   ·rw [hd3,show was' - 1 - now=j by omega]
   ·show kH b4 w3<kH b4 w
    rw [ln (v:=((was' - 1:Nat):Int)) h3' rfl,ln (v:=(was':Int)) h rfl]
    omega
  ·have e:was' - now=0:=by omega
   rw [e] at hd
   exact last k was' w hd h
 ·refine ⟨fun w=> ∃k was':Nat,was'≤now∧was≤was'∧(cm was now).drop k=ma (now - was')++ [0]∧k+2*(now - was')+1=(cm was now).length∧Hp E w (bI b6 now::bI b4 was'::C k),
   fun w=>255 - kH b4 w,⟨0,was,by omega,by omega,?_,?_,h⟩,?_⟩
  ·unfold cm;rw [if_neg (by omega)];rfl
  ·unfold cm;rw [if_neg (by omega)]
   have: ∀j,(ma j).length=2*j:=fun j=>by
    induction j with
    |zero=>rfl
    |succ j ih=>rw [hup,List.length_cons,List.length_cons,ih];omega
   simp [this]
  rintro w ⟨k,was',h3,h4,hd,hkl,h⟩
  refine Ld.xb (x:=(was':Int)) h rfl (Ld.xb (x:=(now:Int)) h rfl (aa.nm (fun hne=> ?_) (fun he=> ?_)))
  ·obtain ⟨j,hj⟩: ∃j,now - was'=j+1:=⟨now - was' - 1,by omega⟩
   rw [hj,hup] at hd
   have hd2:(cm was now).drop (k+1)=0::(ma j++ [0]):=by rw [←List.drop_drop,hd];rfl
   have hd3:(cm was now).drop (k+2)=ma j++ [0]:=by rw [show k+2=(k+1)+1 by omega,←List.drop_drop,hd2];rfl
   refine one k 1 _ was' w _ hd h (fun w1 h1=> ?_) (fun w1 hk1 h1=>aa.t rfl (hKG k w1 hk1 h1))
   refine aa.f rfl ?_
   refine one (k+1) 0 _ was' w1 _ hd2 h1 (fun w2 h2=> ?_) (fun w2 hk2 h2=>aa.t rfl (hKG (k+1) w2 hk2 h2))
   refine aa.f rfl ?_
   refine Ld.xb (x:=(was':Int)) h2 rfl ?_
   rw [ad (x:=(2:Int)*0) (by omega),ad (x:=(1:Int) - 2*0) (by omega),ad (by omega)]
   refine St.xb h2 (by simp) rfl fun w3 h3'=> ?_
   rw [show (was':Int)+(1 - 2*0)=((was'+1:Nat):Int) by omega] at h3'
   have h3':Hp E w3 (bI b6 now::bI b4 (was'+1)::C (k+2)):=h3'
   refine ⟨rfl,⟨k+2,was'+1,by omega,by omega,?_,by omega,h3'⟩,?_⟩
   ·rw [hd3,show now - (was'+1)=j by omega]
   ·show 255 - kH b4 w3<255 - kH b4 w
    rw [ln (v:=((was'+1:Nat):Int)) h3' rfl,ln (v:=(was':Int)) h rfl]
    omega
  ·have e:now - was'=0:=by omega
   rw [e] at hd
   exact last k was' w hd h
theorem sg: ∀(m:List Nat) (was n:Nat),dc was (m++ [n])=dc was m++cm (m.getLastD was) n
 | [],was,n=>by simp [dc]
 |x::m,was,n=>by
  rw [List.cons_append,dc,dc,sg m x n,List.append_assoc]
  congr 2
  cases m<;>rfl
theorem xk {a b:Nat} (ha:a≤15) (hb:b≤15):(cm a b).length≤31:=by
 have hd: ∀j,(fy j).length=2*j:=fun j=>by
  induction j with
  |zero=>rfl
  |succ j ih=>rw [show fy (j+1)=1::1::fy j from rfl,List.length_cons,List.length_cons,ih];omega
 have hu: ∀j,(ma j).length=2*j:=fun j=>by
  induction j with
  |zero=>rfl
  |succ j ih=>rw [show ma (j+1)=1::0::ma j from rfl,List.length_cons,List.length_cons,ih];omega
 unfold cm
 rw [List.length_append,List.length_singleton]
 split
 ·rw [hd];omega
 ·rw [hu];omega
theorem qI: ∀(m:List Nat) (was:Nat),was≤15→(∀x∈m,x≤15)→(dc was m).length≤31*m.length
 | [],_,_,_=>by simp [dc]
 |x::m,was,h,hm=>by
  have h1:=hm x List.mem_cons_self
  have h2:=xk h h1
  have h3:=qI m x h1 fun y hy=>hm y (List.mem_cons_of_mem _ hy)
  rw [dc,List.length_append,List.length_cons];omega
theorem Jq {x k:Nat} (hx:x≤15) (hk:k<4):(four x)[k]? =some (x/2^(3 - k) % 2):=by
 match k,hk with
 |0,_=>rfl
 |1,_=>rfl
 |2,_=>rfl
 |3,_=>simp [four]
theorem M6 {l:List Nat} {K:Sl→Int→World→Prop} (h:Hp E w F) (hl:l.length=258) (hbad:bz l=false→∀w',Hp E w' F→K ⟨none,0,0⟩ 2 w')
  (hK:bz l=true→∀s w',Hp E w' (al 1 s ((ints (dr l)).map vI)::F)→K s 0 w'):Cl Tryz.prog [kS,kI] jY ⟨[.agg (ai .u8 l)]⟩ w K:=by
 refine xc.ok _ _ _ ?_
 (try simp only [aD,aw,ar,Nat.zero_add,Nat.add_zero,Nat.reduceAdd,Bool.not_true,Bool.not_false,aZ,aX,Option.isNone])
 have hsz:(ai .u8 l).size=258:=by rw [ax,hl]
 refine Nw.mk h fun b3 w h=>Nw.mk h fun b5 w h=>Ld.xw h hsz (tj h hl fun w h=> ?_)
 by_cases hok:bz l=true
 ·rw [hok]
  refine aa.f rfl ?_
  have h15:=aj.mh hok
  obtain ⟨x,m,rfl⟩: ∃x m,l=x::m:=by
   cases l with
   |nil=>simp at hl
   |cons x m=>exact ⟨x,m,rfl⟩
  have hx15:=h15 x List.mem_cons_self
  refine ⟨by decide,by decide,Ld.xb (x:=(x:Int)) h rfl ?_⟩
  rw [ad (by omega)]
  have h0:Hp E w (fX b5 []::aj b3 (.cells (ai .u8 (x::m)) 36 (0,0))::F):=fX.shut (s:=⟨none,0,0⟩) ((h.aW 1).p1)
  refine ⟨fun i w=> ∃k:Nat,i=(k:Int)∧k≤4∧Hp E w (fX b5 ((four x).take k)::aj b3 (.cells (ai .u8 (x::m)) 36 (0,0))::F),fun i _=>4 - i.toNat,⟨0,rfl,by omega,h0⟩,?_⟩
  rintro i w ⟨k,rfl,hk,h⟩
  refine aa.dm (fun hlt=> ?_) (fun hge=> ?_)
  ·have hlt:k<4:=by omega
   refine au.mk h fun w h=> ?_
   have ebit:bC .i64 (aK .i64 (x:Int) (i64 (3 - (k:Int)))) 1=((x/2^(3 - k) % 2:Nat):Int):=by
    have hmx:IntKind.max .i64=9223372036854775807:=rfl
    have hd:x/2^(3 - k)≤x:=Nat.div_le_self _ _
    rw [ad (by omega),show (3:Int) - (k:Int)=((3 - k:Nat):Int) by omega,cb (by have:IntKind.bits .i64=64:=rfl;omega),show (1:Int)=((1:Nat):Int) from rfl,eB (by omega) (by omega),Nat.and_one_is_mod]
   rw [ebit]
   have e4:(four x).take k++ [x/2^(3 - k) % 2]=(four x).take (k+1):=by rw [List.take_add_one,Jq hx15 hlt];rfl
   have hl4:((four x).take k).length≤1000000:=by rw [List.length_take];simp [four];omega
   rw [ad (x:=(3:Int) - (k:Int)) (by omega),ad (x:=(k:Int)+1) (by omega)]
   have fin: ∀w',Hp E w' (fX b5 ((four x).take k++ [x/2^(3 - k) % 2])::aj b3 (.cells (ai .u8 (x::m)) 36 (0,0))::F)→True∧(∃k':Nat,(k:Int)+1=(k':Int)∧k'≤4∧Hp E w' (fX b5 ((four x).take k')::aj b3 (.cells (ai .u8 (x::m)) 36 (0,0))::F))∧4 - ((k:Int)+1).toNat<4 - ((k:Int)).toNat:=fun w' h=>by
    rw [e4] at h
    exact ⟨trivial,⟨k+1,by omega,by omega,h⟩,by omega⟩
   obtain ⟨s,_,h⟩:=h.ex
   have h:Hp E w (aj b5 (.cells ⟨[sy s]⟩ 33 (0,0))::al 1 s ((ints ((four x).take k)).map vI)::aj b3 (.cells (ai .u8 (x::m)) 36 (0,0))::F):=h
   refine ⟨by omega,?_,?_⟩
   ·refine Ld.xb (x:=s) h rfl (Nw.mk h fun b20 w h=> ?_)
    exact fX.put (l:= []) h hl4 fin
   ·refine Nw.mk h fun b20 w h=>Ld.xb (x:=s) h rfl ?_
    exact fX.put (l:= []) h hl4 fin
  ·have hk4:k=4:=by omega
   subst hk4
   refine Ld.xw h hsz ?_
   have e0:(four x).take 4=four x++dc x ((x::m).take 0):=by simp [four,dc]
   rw [e0] at h
   refine ⟨fun ms was i w=> ∃k:Nat,i=(k:Int)∧k≤258∧was=((((x::m).take k).getLastD x:Nat):Int)∧Hp E w (fX b5 (four x++dc x ((x::m).take k))::aj b3 (.cells (ai .u8 (x::m)) 36 (0,0))::(ms.map (fun D=>aj D (.deferred (some [])))++F)),
    fun _ i _=>258 - i.toNat,⟨0,rfl,by omega,rfl,h⟩,?_⟩
   rintro ms was i w ⟨k,rfl,hk,rfl,h⟩
   refine aa.dm (fun hlt=> ?_) (fun hge=> ?_)
   ·have hlt:k<258:=by omega
    have hlt2:k<(x::m).length:=by omega
    have hn15:=h15 _ (List.getElem_mem hlt2)
    have hw15:((x::m).take k).getLastD x≤15:=by
     cases hc:((x::m).take k).getLast? with
     |none=>rw [List.getLastD_eq_getLast?,hc];exact hx15
     |some y=>
      rw [List.getLastD_eq_getLast?,hc]
      exact h15 y (List.mem_of_mem_take (List.mem_of_getLast? hc))
    have hk':((x::m).take k++ [(x::m)[k]])=(x::m).take (k+1):=by rw [List.take_add_one,List.getElem?_eq_getElem hlt2];rfl
    have htl:(four x++dc x ((x::m).take k)).length≤9000:=by
     have:=qI ((x::m).take k) x hx15 fun y hy=>h15 y (List.mem_of_mem_take hy)
     rw [List.length_append,show (four x).length=4 from rfl]
     rw [List.length_take] at this
     omega
    generalize hwas:((x::m).take k).getLastD x=was at hw15 h⊢
    generalize hnow:(x::m)[k]=now at hn15 hk'
    refine ⟨by omega,by omega,(now:Int),by rw [show ((k:Int)).toNat=k by omega,dC hlt2,hnow],?_⟩
    dsimp only
    rw [ad (x:=(now:Int)) (by omega),ad (x:=(k:Int)+1) (by omega)]
    refine r3.ok _ _ _ _ ?_
    refine Nw.mk h fun b4 w h=>Nw.mk h fun b6 w h=> ?_
    have hcl:=xk hw15 hn15
    refine gk.LK (E:=E) (k:=kI) (x:=fun i=>(((cm was now).getD i 0:Nat):Int)) (n:=(cm was now).length) (fun i=>fX b5 (four x++dc x ((x::m).take k)++(cm was now).take i)::aj b3 (.cells (ai .u8 (x::m)) 36 (0,0))::(ms.map (fun D=>aj D (.deferred (some [])))++F)) (fun _=> [Fl])
     (A:= [bI b6 now,bI b4 was]) ?_ (fun _=>ab.const trivial) (Az (by omega) (by omega)) ?_ ?_ ?_
    ·rw [List.take_zero,List.append_nil];exact h
    ·intro lr rec i A w Kt Kf hi h hKt _
     refine wj.mk h fun w h=> ?_
     obtain ⟨s,_,h⟩:=(h.p1).ex
     have h:Hp E w (aj b5 (.cells ⟨[sy s]⟩ 33 (0,0))::al 1 s ((ints (four x++dc x ((x::m).take k)++(cm was now).take i)).map vI)::aj lr (rec 1)::aj b3 (.cells (ai .u8 (x::m)) 36 (0,0))::((ms.map (fun D=>aj D (.deferred (some [])))++F)++A)):=h
     refine Ld.xb (x:=s) h rfl (Nw.mk h fun b49 w h=> ?_)
     refine fX.put (l:= []) h (by rw [List.length_append,List.length_take];omega) fun w h=>qF.mk h.p1 fun w h=>hKt w ?_
     have e:four x++dc x ((x::m).take k)++(cm was now).take i++ [(cm was now).getD i 0]=four x++dc x ((x::m).take k)++(cm was now).take (i+1):=by
      rw [List.append_assoc,List.take_add_one,List.getElem?_eq_getElem hi,List.getD_eq_getElem?_getD,List.getElem?_eq_getElem hi];rfl
     rw [e] at h
     exact h
    ·intro D w h
     rw [List.take_of_length_le (Nat.le_refl _),List.append_assoc,←hwas,←sg,hk'] at h
     refine ⟨⟨k+1,by omega,by omega,?_,?_⟩,by first|omega|(dsimp only;omega)⟩
     ·rw [←hk',List.getLastD_concat]
     ·exact h.q2
    ·intro i D w hi h
     exact (Hp.Ij h).elim
   ·have hk2:k=258:=by omega
    subst hk2
    rw [List.take_of_length_le (by omega)] at h
    obtain ⟨s,_,h⟩:=h.ex
    have h:Hp E w (aj b5 (.cells ⟨[sy s]⟩ 33 (0,0))::al 1 s ((ints (four x++dc x (x::m))).map vI)::aj b3 (.cells (ai .u8 (x::m)) 36 (0,0))::(ms.map (fun D=>aj D (.deferred (some [])))++F)):=h
    refine Ld.xb (x:=s) h rfl (St.xs h rfl rfl fun w h=> ?_)
    dsimp only [ao,af] at h
    refine l7.mk (ms:=ms) (F:=aj b5 (.cells ⟨[sy s]⟩ 33 (0,0))::al 1 s ((ints (four x++dc x (x::m))).map vI)::aj b3 (.cells (ai .u8 (x::m)) 36 (0,0))::F) (h.perm (List.perm_append_comm_assoc [_,_,_] _ _)) fun w h=>Ld.xb (x:=s) h rfl (hK hok s w ?_)
    exact h.drop.bY
 ·rw [show bz l=false by simpa using hok]
  refine aa.t rfl (St.xs h rfl rfl fun w h=> ?_)
  dsimp only [ao,af] at h
  exact Ld.xb (x:=⟨none,0,0⟩) h rfl (hbad (by simpa using hok) w h.tl)
theorem kG {l:List Nat} (hl:l.length=258) (hok:bz l=true):(dr l).length≤9000:=by
 have h15:=aj.mh hok
 have hh:l.headD 0≤15:=by
  cases l with
  |nil=>simp at hl
  |cons x l=>exact h15 x List.mem_cons_self
 have:=qI l (l.headD 0) hh h15
 unfold dr
 rw [List.length_append,show (four (l.headD 0)).length=4 from rfl]
 omega
theorem K0 {l:List Nat} {b:Nat} {bits:List Nat} {K:Int→World→Prop} (h:Hp E w (Wr b bits::F)) (hl:l.length=258) (hok:bz l=true) (hbig:bits.length≤1000000)
  (hK: ∀w',Hp E w' (Wr b (bits++dr l)::F)→K 0 w'):Cl Tryz.prog [kI] jb ⟨[.pointer (some ⟨b,0,none⟩),.agg (ai .u8 l)]⟩ w K:=by
 refine wQ.ok _ _ _ _ ?_
 have hsz:(ai .u8 l).size=258:=by rw [ax,hl]
 refine Nw.mk h fun b4 w h=>Ld.xw h hsz (M6 h hl (fun hf=>absurd hok (by rw [hf];decide)) fun _ s w h=>aa.f rfl (aa.f rfl ?_))
 have hlen:=(h.a6)
 simp only [ints,List.length_map,Nat.mul_one] at hlen
 have hb:=aj.ye l
 have htl:=kG hl hok
 refine ⟨fun i w=> ∃k:Nat,i=(k:Int)∧k≤(dr l).length∧Hp E w (al 1 s ((ints (dr l)).map vI)::Wr b (bits++(dr l).take k)::F),fun i _=>(dr l).length - i.toNat,⟨0,rfl,by omega,by rw [List.take_zero,List.append_nil];exact h.no 1⟩,?_⟩
 rintro i w ⟨k,rfl,hk,h⟩
 refine aa.dm (fun hlt=> ?_) (fun hge=> ?_)
 ·have hlt:k<(dr l).length:=by omega
  have hx:=hb _ (List.getElem_mem hlt)
  refine aq.rd (h.ag ab.own) (by omega) (by omega) fun q hi hq=> ?_
  refine Ld.sc (s:= .int .i64) ((dr l)[k]:Int) (by rw [hq];simp [Sc.enc,vI,ints]) ?_
  rw [cW (by omega)]
  refine FT (width:=1) h.p1 (by decide) (by omega) (by omega) (by rw [List.length_append,List.length_take,aB];omega) fun w h=> ?_
  rw [ad (by omega)]
  refine ⟨⟨k+1,rfl,by omega,?_⟩,by first|omega|(dsimp only;omega)⟩
  have e:bits++(dr l).take k++bn 1 (dr l)[k]=bits++(dr l).take (k+1):=by
   rw [List.append_assoc,List.take_add_one,List.getElem?_eq_getElem hlt]
   congr 2
   generalize (dr l)[k]=x at hx
   have:x=0∨x=1:=by omega
   rcases this with rfl|rfl<;>rfl
  rw [e] at h
  exact h.p1
 ·have hk2:k=(dr l).length:=by omega
  subst hk2
  rw [List.take_of_length_le (Nat.le_refl _)] at h
  exact hK w h.drop
end
end Go.Proofs.YtcdpblipagajiaaGreat
namespace Go.Proofs.YtcdpblipagajiaaGreat
open Go Go.Vc
set_option maxRecDepth 100000
theorem zv.ok (a:(Option Addr)) (b:(Array Value)) (c:Sl) (R:Int→World→Prop) w (h:
 Nw 36 b w fun e d=>
 Ld (.arr 258) ⟨e,0,none⟩ d fun f=>
 Cl Pg [kI,kI] jU ⟨[(.agg f),(ah c)]⟩ d fun (h:Int) (i:Int) g=>
 bo (fun (k:World)=>
 Ld (.arr 258) ⟨e,0,none⟩ k fun l=>
 Cl Pg [(.arr 258),kI] iZ ⟨[(.agg l)]⟩ k fun n (o:Int) m=>
 Nw 101 ⟨List.replicate 258 (.int .u32 0)⟩ m fun q p=>
 an 258 ⟨q,0,none⟩ n p fun r=>
 cn 0 r fun s t (u:Int) v=>
 aa (decide (u<(c.len:Int)))
 (aq c u 1 fun x=>
 Ld kI x v fun (y:Int)=>
 au v fun z=>
 av ⟨q,0,none⟩ 258 y 1 fun a1=>
 Ld (az .u32) a1 z fun (b1:Int)=>
 av ⟨e,0,none⟩ 258 y 1 fun c1=>
 Ld (az .u8) c1 z fun (d1:Int)=>
 Cl Pg [kB] dw ⟨[(.pointer a),(.int .u32 b1),(ni (i64 d1))]⟩ z fun (f1:Bool) e1=>
 s (i64 (u+1)) e1∧t (i64 (u+1)) e1<t u v)
 (R 0 v)) fun j=>
 aa (Option.isNone (a:Option Addr))
 (R 2 g)
 (aa (i !=0)
 (R 2 g)
 (j g))):Cl Pg [kI] kx ⟨[(.pointer a),(.agg b),(ah c)]⟩ w R:=co Tryz.f48 [(4,[]),(14,[(32,kI)])] h
theorem xy.ok (a:(Array Value)) (b:Sl) (R:Int→Int→World→Prop) w (h:
 Nw 36 a w fun d c=>
 Ld (.arr 258) ⟨d,0,none⟩ c fun e=>
 Cl Pg [kB] ed ⟨[(.agg e)]⟩ c fun (g:Bool) f=>
 aa (!g)
 (R 0 2 f)
 (bE 0 0 f fun h i (j:Int) (k:Int) l=>
 aa (decide (k<(b.len:Int)))
 (aq b k 1 fun m=>
 Ld kI m l fun (n:Int)=>
 aa (decide (n<0))
 (R 0 2 l)
 (aa (decide (n≥258))
 (R 0 2 l)
 (av ⟨d,0,none⟩ 258 n 1 fun o=>
 Ld (az .u8) o l fun (p:Int)=>
 aa (p==0)
 (R 0 2 l)
 (av ⟨d,0,none⟩ 258 n 1 fun q=>
 Ld (az .u8) q l fun (r:Int)=>
 h (i64 (j+(i64 r))) (i64 (k+1)) l∧i (i64 (j+(i64 r))) (i64 (k+1)) l<i j k l))))
 (R j 0 l))):Cl Pg [kI,kI] jU ⟨[(.agg a),(ah b)]⟩ w R:=co Tryz.f96 [(10,[(4,kI),(13,kI)])] h
end Go.Proofs.YtcdpblipagajiaaGreat
set_option maxRecDepth 20000
namespace Go.Proofs.YtcdpblipagajiaaGreat
open Go Go.Vc Go.Srt
section
variable {E w:World} {F:List HP}
set_option maxRecDepth 20000 in
theorem Kz {l:List Nat} {K:Array Value→Int→World→Prop} (h:Hp E w F) (hl:l.length=258) (hK1: ¬aS l≤32768→∀w',Hp E w' F→K (ai .u32 (List.replicate 258 0)) 2 w')
  (hK2:aS l≤32768→∀ys w',bA l ys→Hp E w' F→K (ai .u32 (bg l ys ys.length)) 0 w'):Cl Tryz.prog [.arr 258,kI] iZ ⟨[.agg (ai .u8 l)]⟩ w K:=by
 refine vk.ok _ _ _ ?_
 rw [kj]
 refine Nw.mk h fun b3 w1 h1=>Nw.mk h1 fun b5 w2 h2=>Ld.arr h2.p1 (by rw [ax,hl]) (uX h2 hl fun w3 h3=> ?_)
 refine aa.mk (fun hv=> ?_) (fun hv=> ?_)
 ·have hv: ¬aS l≤32768:=by simpa using hv
  refine Ld.arr h3 (by rw [ax];simp) (an.aF h3 (by rw [ax];simp) (by rw [ax];simp) bk fun w4 h4=>Ld.arr h4 (by rw [ax];simp) (hK1 hv w4 h4.drop.drop))
 ·have hv:aS l≤32768:=by simpa using hv
  refine Ld.arr h3.p1 (by rw [ax,hl]) (Lx h3 hl (fun hn=>absurd hv hn) fun _ ys s w4 hys h4=> ?_)
  have hpl:=h4.a6
  simp only [ints,List.length_map,Nat.mul_one] at hpl
  have hin: ∀s∈ys,s<258∧0<l.getD s 0:=fun s hs=>by
   have:=dP.1 (hys.1.mem_iff.1 hs)
   rw [hl] at this;exact this
  have hlen:ys.length≤258:=by
   rw [hys.1.length_eq,←hl]
   have:=List.length_filter_le (fun s=>decide (0<l.getD s 0)) (List.range l.length)
   simpa [used] using this
  refine ⟨fun nx la i w'=> ∃k n a:Nat,i=(k:Int)∧nx=(n:Int)∧la=(a:Int)∧k≤ys.length∧n*2^(15 - a)=Srt.start l ys k∧a≤15∧(∀j (hj:j<ys.length),k≤j→a≤l.getD ys[j] 0)∧
    Hp E w' (al 1 s ((ints ys).map vI)::aj b5 (.cells (ai .u32 (bg l ys k)) 101 (0,0))::aj b3 (.cells (ai .u8 l) 36 (0,0))::F),
   fun _ _ i _=>ys.length - i.toNat,⟨0,0,0,rfl,rfl,rfl,by omega,by simp [Srt.start],by omega,fun j hj _=>Nat.zero_le _,h4⟩,?_⟩
  intro nx la i w' hI
  obtain ⟨k,n,a,hi,hn,ha,hk,hst,ha15,hmono,hh⟩:=hI
  subst hi;subst hn;subst ha
  refine aa.mk (fun hlt=> ?_) (fun hge=> ?_)
  ·have hlt:k<ys.length:=by have:=of_decide_eq_true hlt;omega
   have hin2:=hin _ (List.getElem_mem hlt)
   have hyl:ys[k]<l.length:=by omega
   have hg:l.getD ys[k] 0=l[ys[k]]:=by rw [List.getD_eq_getElem?_getD,List.getElem?_eq_getElem hyl];rfl
   refine AP hh (by omega) (x:=(ys[k]:Int)) (by simp [ints,hlt]) ?_
   refine av.rd (s:= .int .u8) hh.p2 (by omega) (by omega) (l[ys[k]]:Int) (by rw [Int.toNat_natCast];exact dC hyl) ?_
   have ha:=hmono k hlt (Nat.le_refl _)
   have h15:=eu hv ys[k]
   rw [hg] at ha h15 hin2
   rw [dH (by omega)]
   refine ⟨by omega,?_⟩
   have hd:Hp E {w' with drawn:=w'.drawn+1} _:=hh.drew
   refine ⟨fun w'=> ∃cs,Hp E w' (al 1 s ((ints ys).map vI)::aj b5 (.cells cs 101 (0,0))::aj b3 (.cells (ai .u8 l) 36 (0,0))::F),⟨_,hd⟩,by omega,by omega,(l[ys[k]]:Int),?_,?_⟩
   ·rintro w2 ⟨cs,h2⟩
    rw [ar,h2.p2.cell,Int.toNat_natCast,Nat.zero_add,Nat.mul_one]
    exact dC hyl
   ·have hsk:=mW (l:=l) hlt
    have hcm:=kD hys hlt
    have hcl:=se hv hys hlt
    have hp15:2^l.getD ys[k] 0≤2^15:=Nat.pow_le_pow_right (by decide) (eu hv _)
    have hcode:n*2^(l[ys[k]] - a)=cE l ys k:=by
     have h1:n*2^(l[ys[k]] - a)*sh l ys[k]=cE l ys k*sh l ys[k]:=by
      rw [hcm,←hst]
      unfold sh
      rw [hg,Nat.mul_assoc,←Nat.pow_add]
      congr 2;omega
     exact Nat.eq_of_mul_eq_mul_right (vZ l ys[k]) h1
    have e1:bq .u32 (n:Int) ((l[ys[k]]:Int) - (a:Int))=(cE l ys k:Int):=by
     have hmx:IntKind.max .u32=4294967295:=rfl
     have:=dX (k:= .u32) (a:=n) (b:=l[ys[k]] - a) (by have:IntKind.bits .u32=32:=rfl;omega) (by rw [hmx,hcode];omega)
     rw [hcode] at this
     rw [←this]
     congr 1;omega
    rw [e1]
    refine av.wr hd.p1 (by omega) (by omega) (by rw [ax,bJ]) rfl fun w3 h3=> ?_
    rw [Int.toNat_natCast,oC] at h3
    refine ⟨⟨_,h3.p1⟩,?_⟩
    rw [cW (by omega),ad (by omega)]
    refine ⟨⟨k+1,cE l ys k+1,l[ys[k]],rfl,rfl,rfl,by omega,?_,h15,fun j hj hkj=> ?_,?_⟩,by dsimp only;omega⟩
    ·rw [hsk,←hcm]
     unfold sh
     rw [hg,Nat.succ_mul]
    ·rw [←hg];exact xi hys hj (by omega)
    ·have:bg l ys (k+1)=(bg l ys k).set ys[k] (cE l ys k):=by rw [bg,kd hlt]
     rw [this];exact h3.p1
  ·have hge:k=ys.length:=by have:=of_decide_eq_false hge;omega
   subst hge
   refine Ld.arr hh.p1 (by rw [ax,bJ]) (an.aF hh.p1 (by rw [ax,bJ]) (by rw [ax,bJ]) bk fun w5 h5=>Ld.arr h5 (by rw [ax,bJ]) (hK2 hv ys w5 hys h5.drop.drop.drop))
end
end Go.Proofs.YtcdpblipagajiaaGreat
set_option maxRecDepth 20000
namespace Go.Vc
open Go
set_option linter.unusedSectionVars false
structure pv (P:Program) {α:Type} [DecidableEq α] (kt:TypeId) (ke:α→Value):Prop where
 und: ∃d,P.underlying kt=some d∧∀a b,Instr.sameNow d (ke a) (ke b)=none∨Instr.sameNow d (ke a) (ke b)=some (decide (a=b))
 check: ∀e a w,(Instr.checkKey e 10000 kt (ke a)).run P w= .ok () w
 eq: ∀a b w,(Op.equal kt (ke a) (ke b)).run P w= .ok (decide (a=b)) w
 same: ∀a,Instr.sameBits 10000 (ke a) (ke a)=true
section
variable {P:Program} {α β:Type} [DecidableEq α] {ke:α→Value} {ve:β→Value} {kt:TypeId}
def fq (ke:α→Value) (ve:β→Value) (es:List MapEntry) (l:List (α×β)):Prop:=es.map (fun e=>(e.key,e.val))=l.map fun p=>(ke p.1,ve p.2)
def findAt (a:α):List (α×β)→Nat→Option (Nat×β)
 | [],_=>none
 |p::l,i=>if a=p.1 then some (i,p.2) else findAt a l (i+1)
theorem oS {e:MapEntry} {es:List MapEntry} {l:List (α×β)} (h:fq ke ve (e::es) l): ∃p l',l=p::l'∧e.key=ke p.1∧e.val=ve p.2∧fq ke ve es l':=by
 unfold fq at h
 cases l with
 |nil=>simp at h
 |cons p l'=>
  simp only [List.map_cons,List.cons.injEq,Prod.mk.injEq] at h
  exact ⟨p,l',rfl,h.1.1,h.1.2,h.2⟩
theorem wx (hk:pv P kt ke) (a:α) (w:World): ∀(es:List MapEntry) (l:List (α×β)) (i:Nat),fq ke ve es l→(Instr.findAsking kt (ke a) es i).run P w= .ok ((findAt a l i).map fun q=>(q.1,ve q.2)) w
 | [],l,i,h=>by
  have:l= []:=by unfold fq at h;cases l<;>simp at h⊢
  subst this
  simp [Instr.findAsking,findAt]
 |e::es,l,i,h=>by
  obtain ⟨p,l',rfl,h1,h2,h3⟩:=oS h
  simp only [Instr.findAsking,Sem.run_bind,h1,hk.eq,Result.andThen_ok,findAt]
  by_cases hq:a=p.1
  ·simp [hq,h2]
  ·simp [hq,wx hk a w es l' (i+1) h3]
theorem FY {d:TypeDesc} (hd: ∀a b,Instr.sameNow d (ke a) (ke b)=none∨Instr.sameNow d (ke a) (ke b)=some (decide (a=b))) (a:α): ∀(es:List MapEntry) (l:List (α×β)) (i:Nat),fq ke ve es l→
  Instr.findNow d (ke a) es i=none∨Instr.findNow d (ke a) es i=some ((findAt a l i).map fun q=>(q.1,ve q.2))
 | [],l,i,h=>by
  have:l= []:=by unfold fq at h;cases l<;>simp at h⊢
  subst this
  exact .inr rfl
 |e::es,l,i,h=>by
  obtain ⟨p,l',rfl,h1,h2,h3⟩:=oS h
  unfold Instr.findNow
  rw [h1]
  rcases hd a p.1 with h0|h0
  ·rw [h0];exact .inl rfl
  ·rw [h0]
   by_cases hq:a=p.1
   ·right;simp [findAt,hq,h2]
   ·simp only [hq,decide_false,findAt,if_false]
    exact FY hd a es l' (i+1) h3
theorem pW (hk:pv P kt ke) (a:α) (w:World) (es:List MapEntry) (l:List (α×β)) (h:fq ke ve es l):(Instr.findKey kt (ke a) es).run P w= .ok ((findAt a l 0).map fun q=>(q.1,ve q.2)) w:=by
 obtain ⟨d,hu,hd⟩:=hk.und
 simp only [Instr.findKey,Sem.run_bind,run_underlying hu,Result.andThen_ok]
 rcases FY (ve:=ve) hd a es l 0 h with h0|h0
 ·rw [h0];exact wx hk a w es l 0 h
 ·rw [h0];rfl
def jA (a:α) (b:β):List (α×β)→List (α×β)
 | []=> [(a,b)]
 |p::l=>if a=p.1 then (a,b)::l else p::jA a b l
theorem sG {a:α}: ∀{l:List (α×β)} {i j:Nat} {v:β},findAt a l i=some (j,v)→i≤j
 | [],i,j,v,h=>by simp [findAt] at h
 |p::l,i,j,v,h=>by
  unfold findAt at h
  split at h
  ·simp at h;omega
  ·have:=sG h;omega
theorem Al {a:α} {b:β} {f:MapEntry→MapEntry} (hf: ∀e,e.key=ke a→(f e).key=ke a∧(f e).val=ve b): ∀{es:List MapEntry} {l:List (α×β)} {i j:Nat} {v:β},fq ke ve es l→findAt a l i=some (i+j,v)→
  fq ke ve (es.modify j f) (jA a b l)
 | [],l,i,j,v,h,hf2=>by
  have:l= []:=by unfold fq at h;cases l<;>simp at h⊢
  subst this
  simp [findAt] at hf2
 |e::es,l,i,j,v,h,hf2=>by
  obtain ⟨p,l',rfl,h1,h2,h3⟩:=oS h
  unfold findAt at hf2
  unfold jA
  by_cases hq:a=p.1
  ·rw [if_pos hq] at hf2⊢
   have:j=0:=by simp at hf2;omega
   subst this
   obtain ⟨q1,q2⟩:=hf e (by rw [h1,hq])
   unfold fq at h3⊢
   simp [List.modify,q1,q2,h3]
  ·rw [if_neg hq] at hf2⊢
   have hge:=sG hf2
   obtain ⟨j,rfl⟩: ∃j',j=j'+1:=⟨j - 1,by omega⟩
   have ih:=Al (f:=f) hf (i:=i+1) (j:=j) (v:=v) h3 (by rw [hf2];congr 2;omega)
   unfold fq at ih⊢
   simp only [List.modify_succ_cons,List.map_cons,ih,h1,h2]
theorem BQ {a:α}: ∀{es:List MapEntry} {l:List (α×β)} {i j:Nat} {v:β},fq ke ve es l→findAt a l i=some (i+j,v)→∃e,es[j]? =some e∧e.key=ke a
 | [],l,i,j,v,h,hf2=>by
  have:l= []:=by unfold fq at h;cases l<;>simp at h⊢
  subst this
  simp [findAt] at hf2
 |e::es,l,i,j,v,h,hf2=>by
  obtain ⟨p,l',rfl,h1,h2,h3⟩:=oS h
  unfold findAt at hf2
  by_cases hq:a=p.1
  ·rw [if_pos hq] at hf2
   have:j=0:=by simp at hf2;omega
   subst this
   exact ⟨e,rfl,by rw [h1,hq]⟩
  ·rw [if_neg hq] at hf2
   have hge:=sG hf2
   obtain ⟨j,rfl⟩: ∃j',j=j'+1:=⟨j - 1,by omega⟩
   obtain ⟨e',h4,h5⟩:=BQ (i:=i+1) (j:=j) (v:=v) h3 (by rw [hf2];congr 2;omega)
   exact ⟨e',by simpa using h4,h5⟩
theorem sS {a:α} {b:β}: ∀{l:List (α×β)} {i:Nat},findAt a l i=none→jA a b l=l++ [(a,b)]
 | [],_,_=>rfl
 |p::l,i,h=>by
  unfold findAt at h
  unfold jA
  by_cases hq:a=p.1
  ·rw [if_pos hq] at h;cases h
  ·rw [if_neg hq] at h⊢
   rw [sS h];rfl
end
def lI {α β:Type} (ke:α→Value) (ve:β→Value) (m:Option Nat) (l:List (α×β)):HP:=fun f=> ∃b es clock,m=some b∧fq ke ve es.toList l∧f=aV.one b (.map es clock)
section
variable {P:Program} {α β:Type} [DecidableEq α] {ke:α→Value} {ve:β→Value} {kt vt t:TypeId} {E w:World} {F:List HP} {m:Option Nat} {l:List (α×β)}
theorem Hp.tn (h:Hp E w (lI ke ve m l::F)): ∃b es clock,m=some b∧fq ke ve es.toList l∧Hp E w (aj b (.map es clock)::F):=by
 obtain ⟨f,a,g,k,hd,e,⟨b,es,clock,h1,h2,h3⟩,h4⟩:=h.frag
 exact ⟨b,es,clock,h1,h2,h.os,h.output,h.tape,f,a,g,k,hd,e,h3,h4⟩
theorem Hp.Ee {b clock:Nat} {es:Array MapEntry} (h:Hp E w (aj b (.map es clock)::F)) (he:fq ke ve es.toList l):Hp E w (lI ke ve (some b) l::F):=
 h.Jm fun _ hf=>⟨b,es,clock,rfl,he,hf⟩
theorem run_makeMap {K:Option Nat→World→Prop} (h:Hp E w F) (hK: ∀m w',Hp E w' (lI ke ve m []::F)→K m w'):ay P (Instr.makeMap t none) kM w K:=by
 unfold ay
 have e:(Instr.makeMap t none).run P w= .ok (.map (some w.heap.size)) (w.alloc (.map #[] 0)):=rfl
 rw [e]
 exact hK _ _ (Hp.Ee (h.alloc _) rfl)
theorem eO (hk:pv P kt ke) (hu:P.underlying t=some (.map kt vt)) {a:α} {b:β} {K:Value→World→Prop} (h:Hp E w (lI ke ve m l::F)) (hK: ∀w',Hp E w' (lI ke ve m (jA a b l)::F)→K undef w'):
  ay P (do Instr.mapUpdate t (.map m) (ke a) (ve b);pure undef) kV w K:=by
 obtain ⟨r,es,clock,rfl,he,hB⟩:=h.tn
 have hb:=hB.aF
 have hfk:=pW (ve:=ve) hk a w es.toList l he
 have key: ∀es' clock',(do Instr.mapUpdate t (.map (some r)) (ke a) (ve b);pure undef:Sem Value).run P w= .ok undef {w with heap:=w.heap.setIfInBounds r (.map es' clock')}→fq ke ve es'.toList (jA a b l)→
   ay P (do Instr.mapUpdate t (.map (some r)) (ke a) (ve b);pure undef) kV w K:=by
  intro es' clock' h1 h2
  unfold ay
  rw [h1]
  exact hK _ (Hp.Ee (hB.setObj rfl rfl rfl rfl) h2)
 cases hf:findAt a l 0 with
 |none=>
  rw [hf] at hfk
  refine key (es.push ⟨ke a,ve b,clock⟩) (clock+1) ?_ ?_
  ·simp [Instr.mapUpdate,run_underlying hu,MapKept.run_getObj_map hb,hk.check,hfk,MapKept.run_setObj_map _ hb]
  ·rw [sS hf]
   unfold fq at he⊢
   simp [he]
 |some q=>
  obtain ⟨j,v⟩:=q
  rw [hf] at hfk
  have hfk':(Instr.findKey kt (ke a) es.toList).run P w= .ok (some (j,ve v)) w:=hfk
  have hkey:((es[j]?).map (·.key)).getD (ke a)=ke a:=by
   obtain ⟨e,he1,he2⟩:=BQ (ke:=ke) (ve:=ve) he (i:=0) (j:=j) (v:=v) (by simpa using hf)
   have:es[j]? =some e:=by simpa using he1
   rw [this];exact he2
  refine key (es.modify j fun e=>{e with key:=ke a,val:=ve b}) clock ?_ ?_
  ·simp [Instr.mapUpdate,run_underlying hu,MapKept.run_getObj_map hb,hk.check,hfk',hkey,Instr.keyThatStays,hk.same,MapKept.run_setObj_map _ hb]
  ·rw [Array.toList_modify]
   exact Al (ke:=ke) (ve:=ve) (a:=a) (b:=b) (fun e _=>⟨rfl,rfl⟩) he (i:=0) (j:=j) (v:=v) (by simpa using hf)
theorem ET (hk:pv P kt ke) (hu:P.underlying t=some (.map kt vt)) {a:α} {z:Value} (hz: ∀w,(zeroValue vt).run P w= .ok z w) (h:Hp E w (lI ke ve m l::F)):
  (Instr.lookup t (.map m) (ke a) true).run P w= .ok (.tuple #[(match findAt a l 0 with|some q=>ve q.2|none=>z),.bool (findAt a l 0).isSome]) w:=by
 obtain ⟨r,es,clock,rfl,he,hB⟩:=h.tn
 have hb:=hB.aF
 have hfk:=pW (ve:=ve) hk a w es.toList l he
 cases hf:findAt a l 0 with
 |none=>
  rw [hf] at hfk
  simp [Instr.lookup,run_underlying hu,MapKept.run_getObj_map hb,hk.check,hfk,hz]
 |some q=>
  rw [hf] at hfk
  simp [Instr.lookup,run_underlying hu,MapKept.run_getObj_map hb,hk.check,hfk]
end
end Go.Vc
set_option maxRecDepth 20000
namespace Go.Proofs.YtcdpblipagajiaaGreat
open Go Go.Vc Go.Srt
theorem qB {l ys:List Nat} (hl:l.length=258) (h:bA l ys): ∀s∈ys,s<258∧0<l.getD s 0:=fun s hs=>by
 have:=dP.1 (h.1.mem_iff.1 hs)
 rw [hl] at this;exact this
theorem wL {l ys:List Nat} (hl:l.length=258) (h:bA l ys):ys.length≤258:=by
 rw [h.1.length_eq,←hl]
 have:=List.length_filter_le (fun s=>decide (0<l.getD s 0)) (List.range l.length)
 simpa [used] using this
theorem qW {l ys zs:List Nat} (h:bA l ys) (h2:bA l zs):ys=zs:=by
 refine List.Perm.eq_of_pairwise (le:=fun a b=>l.getD a 0<l.getD b 0∨(l.getD a 0=l.getD b 0∧a<b)) ?_ h.2 h2.2 (h.1.trans h2.1.symm)
 intro a b _ _ h3 h4
 omega
theorem qK {l:List Nat} {i:Nat} {k:IntKind} (h:i<l.length):(ai k l)[((i:Nat):Int).toNat]? =some (Sc.enc (.int k) (l.getD i 0:Int)):=by
 rw [Int.toNat_natCast,dC h,List.getD_eq_getElem?_getD,List.getElem?_eq_getElem h];rfl
end Go.Proofs.YtcdpblipagajiaaGreat
set_option maxRecDepth 20000
namespace Go.Srt
def gP (l:List Nat) (z:Int):Bool:=decide (0≤z)&&decide (z<258)&&decide (0<l.getD z.toNat 0)
def jW (l:List Nat) (zs:List Int):Bool:=zs.all (gP l)
def iu (l:List Nat) (zs:List Int):List Nat:=enc l (zs.map Int.toNat)
theorem pn {l:List Nat} {z:Int}:gP l z=true↔0≤z∧z<258∧0<l.getD z.toNat 0:=by simp [gP,and_assoc]
theorem Bk {l:List Nat} {zs:List Int} (h:jW l zs=true) {z:Int} (hz:z∈zs):gP l z=true:=List.all_eq_true.1 h z hz
theorem Ay {l:List Nat} {zs:List Int} {k:Nat} (hk:k<zs.length) (h:gP l zs[k]=false):jW l zs=false:=by
 cases ha:jW l zs with
 |false=>rfl
 |true=>have:=Bk ha (List.getElem_mem hk);rw [h] at this;cases this
theorem yq {zs:List Int} {k:Nat} (hk:k<zs.length):zs.take (k+1)=zs.take k++ [zs[k]]:=by rw [List.take_add_one,List.getElem?_eq_getElem hk];rfl
theorem yh {l:List Nat} {zs:List Int} {k:Nat} (hk:k<zs.length) (h:jW l (zs.take k)=true) (hg:gP l zs[k]=true):jW l (zs.take (k+1))=true:=by
 unfold jW at h⊢
 rw [yq hk,List.all_append,h];simp [hg]
theorem sR {l:List Nat} {zs:List Int} {k:Nat} (hk:k<zs.length):iu l (zs.take (k+1))=iu l (zs.take k)++oe l zs[k].toNat:=by
 unfold iu
 rw [yq hk,List.map_append,K9]
 congr 1
 simp [enc]
theorem vi (l:List Nat) (s:Nat):(oe l s).length=l.getD s 0:=ib _ _
theorem lj {l:List Nat} (hv:aS l≤32768): ∀zs:List Int,(iu l zs).length≤15*zs.length
 | []=>by simp [iu,enc]
 |z::zs=>by
  have:=lj hv zs
  have h15:=eu hv z.toNat
  unfold iu at this⊢
  rw [List.map_cons,Bt,List.length_append,vi,List.length_cons]
  omega
end Go.Srt
namespace Go.Proofs.YtcdpblipagajiaaGreat
open Go Go.Vc Go.Srt Go.Bits
section
variable {E w:World} {F:List HP}
set_option maxRecDepth 20000 in
theorem MV {l:List Nat} {s:Sl} {zs:List Int} {K:Int→Int→World→Prop} (h:Hp E w F) (hl:l.length=258) (hs:ab F (aC 1 s (zs.map vI))) (hn:zs.length≤100000)
  (hK1: ¬(aS l≤32768∧jW l zs=true)→∀w',Hp E w' F→K 0 2 w') (hK2:aS l≤32768→jW l zs=true→∀w',Hp E w' F→K ((iu l zs).length:Int) 0 w'):
  Cl Tryz.prog [kI,kI] jU ⟨[.agg (ai .u8 l),.slice s.base s.len s.cap]⟩ w K:=by
 refine xy.ok _ _ _ _ ?_
 have hsl:=(h.ag hs).1
 simp only [List.length_map,Nat.mul_one] at hsl
 refine Nw.mk h fun b w1 h1=>Ld.arr h1 (by rw [ax,hl]) (uX h1 hl fun w2 h2=>aa.mk (fun hv=>hK1 (fun hh=>by simp [hh.1] at hv) w2 h2.drop) (fun hv=> ?_))
 have hv:aS l≤32768:=by simpa using hv
 refine ⟨fun n i w'=> ∃k:Nat,i=(k:Int)∧k≤zs.length∧n=((iu l (zs.take k)).length:Int)∧jW l (zs.take k)=true∧Hp E w' (aj b (.cells (ai .u8 l) 36 (0,0))::F),fun _ i _=>zs.length - i.toNat,⟨0,rfl,by omega,rfl,rfl,h2⟩,?_⟩
 rintro n i w' ⟨k,rfl,hk,rfl,hg,hh⟩
 refine aa.mk (fun hlt=> ?_) (fun hge=> ?_)
 ·have hlt:k<zs.length:=by have:=of_decide_eq_true hlt;omega
  have bad:gP l zs[k]=false→K 0 2 w':=fun hb=>hK1 (fun hh=>by rw [Ay hlt hb] at hh;exact absurd hh.2 (by decide)) w' hh.drop
  refine aq.rd (hh.ag (ab.cons hs)) (by omega) (by omega) fun q hq hc=>Ld.sc (s:= .int .i64) zs[k] (by rw [hc];simp [vI,Sc.enc]) ?_
  refine aa.mk (fun h0=>bad ?_) (fun h0=>aa.mk (fun h1=>bad ?_) (fun h1=> ?_))
  ·have:=of_decide_eq_true h0
   unfold gP;rw [decide_eq_false (show¬0≤zs[k] by omega)];rfl
  ·have:=of_decide_eq_true h1
   unfold gP;rw [decide_eq_false (show¬zs[k]<258 by omega)];simp
  have h0:=of_decide_eq_false h0
  have h1:=of_decide_eq_false h1
  obtain ⟨m,hm⟩: ∃m:Nat,zs[k]=(m:Int):=⟨zs[k].toNat,by omega⟩
  have hm2:zs[k].toNat=m:=by omega
  rw [hm]
  refine av.rd (s:= .int .u8) hh (by omega) (by omega) (l.getD m 0:Int) (ig (by omega)) (aa.mk (fun hz=>bad ?_) (fun hz=> ?_))
  ·have:l.getD m 0=0:=by rw [beq_iff_eq] at hz;omega
   unfold gP;rw [hm2,this];simp
  have hz:0<l.getD m 0:=by have:=beq_eq_false_iff_ne.1 hz;omega
  refine av.rd (s:= .int .u8) hh (by omega) (by omega) (l.getD m 0:Int) (ig (by omega)) ?_
  have h15:=eu hv m
  have hle:=lj hv (zs.take k)
  rw [List.length_take] at hle
  rw [ad (x:=(l.getD m 0:Int)) (by omega),ad (x:=((iu l (zs.take k)).length:Int)+(l.getD m 0:Int)) (by omega),ad (by omega)]
  refine ⟨⟨k+1,rfl,by omega,?_,yh hlt hg (pn.2 ⟨by omega,by omega,by rw [hm2];exact hz⟩),hh⟩,by dsimp only;omega⟩
  rw [sR hlt,List.length_append,vi,hm2];omega
 ·have hge:k=zs.length:=by have:=of_decide_eq_false hge;omega
  subst hge
  rw [List.take_length] at hg⊢
  exact hK2 hv hg w' hh.drop
set_option maxRecDepth 20000 in
theorem Mi {l:List Nat} {s:Sl} {zs:List Int} {b:Nat} {bits:List Nat} {K:Int→World→Prop} (h:Hp E w (Wr b bits::F)) (hl:l.length=258) (hs:ab F (aC 1 s (zs.map vI))) (hn:zs.length≤100000) (hbig:bits.length≤100000000)
  (hK1: ¬(aS l≤32768∧jW l zs=true)→∀w',Hp E w' (Wr b bits::F)→K 2 w') (hK2:aS l≤32768→jW l zs=true→∀w',Hp E w' (Wr b (bits++iu l zs)::F)→K 0 w'):
  Cl Tryz.prog [kI] kx ⟨[.pointer (some ⟨b,0,none⟩),.agg (ai .u8 l),.slice s.base s.len s.cap]⟩ w K:=by
 refine zv.ok _ _ _ _ _ ?_
 simp only [aD]
 have hsl:=(h.ag (ab.cons hs)).1
 simp only [List.length_map,Nat.mul_one] at hsl
 rw [kj]
 refine Nw.mk h fun b5 w1 h1=>Ld.arr h1 (by rw [ax,hl]) (MV h1 hl (ab.cons (ab.cons hs)) hn (fun hb w2 h2=> ?_) (fun hv hg w2 h2=> ?_))
 ·exact aa.f rfl (aa.t (by decide) (hK1 hb w2 h2.drop))
 refine aa.f rfl (aa.f (by decide) (Ld.arr h2 (by rw [ax,hl]) (Kz h2 hl (fun hb=>absurd hv hb) fun _ ys w3 hys h3=> ?_)))
 refine Nw.mk h3 fun b17 w4 h4=>an.aF h4 (by rw [ax];simp) (by rw [ax,bJ]) bk fun w5 h5=> ?_
 refine ⟨fun i w'=> ∃k:Nat,i=(k:Int)∧k≤zs.length∧Hp E w' (Wr b (bits++iu l (zs.take k))::aj b17 (.cells (ai .u32 (bg l ys ys.length)) 101 (0,0))::aj b5 (.cells (ai .u8 l) 36 (0,0))::F),fun i _=>zs.length - i.toNat,⟨0,rfl,by omega,?_⟩,?_⟩
 ·rw [List.take_zero]
  have e:iu l []= []:=rfl
  rw [e,List.append_nil]
  exact h5.p2
 rintro i w' ⟨k,rfl,hk,hh⟩
 refine aa.mk (fun hlt=> ?_) (fun hge=> ?_)
 ·have hlt:k<zs.length:=by have:=of_decide_eq_true hlt;omega
  refine aq.rd (hh.ag (ab.cons (ab.cons (ab.cons hs)))) (by omega) (by omega) fun q hq hc=>Ld.sc (s:= .int .i64) zs[k] (by rw [hc];simp [vI,Sc.enc]) ?_
  obtain ⟨g1,g2,g3⟩:=pn.1 (Bk hg (List.getElem_mem hlt))
  obtain ⟨m,hm⟩: ∃m:Nat,zs[k]=(m:Int):=⟨zs[k].toNat,by omega⟩
  have hm2:zs[k].toNat=m:=by omega
  rw [hm2] at g3
  rw [hm]
  refine au.mk hh fun w6 h6=> ?_
  refine av.rd (s:= .int .u32) h6.p1 (by omega) (by omega) ((bg l ys ys.length).getD m 0:Int) (ig (by rw [bJ];omega)) ?_
  refine av.rd (s:= .int .u8) h6.p2 (by omega) (by omega) (l.getD m 0:Int) (ig (by omega)) ?_
  have h15:=eu hv m
  rw [ad (x:=(l.getD m 0:Int)) (by omega),qV hl hv hys (by omega) g3,ad (x:=(k:Int)+1) (by omega)]
  have hcl:=xv hl hv (by omega) g3
  have hp:2^l.getD m 0≤2^15:=Nat.pow_le_pow_right (by decide) h15
  have hp2:(2:Nat)^15=32768:=by decide
  have hle:=lj hv (zs.take k)
  rw [List.length_take] at hle
  refine FT h6 (by omega) hcl (by omega) (by rw [List.length_append,aB];omega) fun w7 h7=>⟨⟨k+1,by omega,by omega,?_⟩,by dsimp only;omega⟩
  rw [sR hlt,hm2,←List.append_assoc]
  exact h7
 ·have hge:k=zs.length:=by have:=of_decide_eq_false hge;omega
  subst hge
  rw [List.take_length] at hh
  exact hK2 hv hg w' (hh.p1.drop.p1.drop)
end
end Go.Proofs.YtcdpblipagajiaaGreat
namespace Go.Proofs.YtcdpblipagajiaaGreat
open Go Go.Vc
set_option maxRecDepth 100000
theorem IE.ok (a:Sl) (b:Int) (R:Sl→Int→World→Prop) w (h:
 bo (fun (d:World)=>
 Cl Pg [kS] oq ⟨[(ah a),(ni b)]⟩ d fun (f:Sl) e=>
 ay Pg (Instr.makeSlice 22 (ni (a.len:Int)) (ni (a.len:Int))) kS e fun (h:Sl) g=>
 bE 0 (i64 ((a.len:Int) - 1)) g fun i j (k:Int) (l:Int) m=>
 aa (decide (l≥0))
 (Cl Pg [kI,kB] lT ⟨[(ah a),(ni b),(ni k)]⟩ m fun (o:Int) (p:Bool) n=>
 aa (!p)
 (R (⟨none,0,0⟩:Sl) 170 n)
 (aq a o 1 fun q=>
 Ld (az .u8) q n fun (r:Int)=>
 aq h l 1 fun s=>
 St s (.int .u8 r) n fun t=>
 aq f k 1 fun u=>
 Ld kI u t fun (v:Int)=>
 i v (i64 (l - 1)) t∧j v (i64 (l - 1)) t<j k l m))
 (aa (k !=b)
 (R (⟨none,0,0⟩:Sl) 170 m)
 (R h 0 m))) fun c=>
 aa (decide (b<0))
 (R (⟨none,0,0⟩:Sl) 170 w)
 (aa (decide (b>(a.len:Int)))
 (R (⟨none,0,0⟩:Sl) 170 w)
 (aa (b==0)
 (aa (decide ((a.len:Int)>0))
 (R (⟨none,0,0⟩:Sl) 170 w)
 (c w))
 (c w)))):Cl Pg [kS,kI] q8 ⟨[(ah a),(ni b)]⟩ w R:=co Tryz.f55 [(4,[]),(16,[(9,kI),(10,kI)])] h
theorem Ip.ok (a:Sl) (R:Sl→Int→World→Prop) w (h:
 Cl Pg [kS] pQ ⟨[(ah a)]⟩ w fun (c:Sl) b=>
 vu (⟨none,0,0⟩:Sl) 0 0 b fun d e (f:Sl) (g:Int) (h:Int) i=>
 aa (decide (h<(c.len:Int)))
 (aq c h 1 fun j=>
 Ld kI j i fun (k:Int)=>
 aa (k==0)
 (d f h (i64 (h+1)) i∧e f h (i64 (h+1)) i<e f g h i)
 (aq a (i64 (k - 1)) 1 fun l=>
 Ld (az .u8) l i fun (m:Int)=>
 Nw 5 ⟨[(.int .u8 m)]⟩ i fun o n=>
 ay Pg (Builtin.append_ #[22,22] 22 ⟨[(ah f),(ah (⟨some ⟨o,0,none⟩,1,1⟩:Sl))]⟩) kS n fun (q:Sl) p=>
 d q g (i64 (h+1)) p∧e q g (i64 (h+1)) p<e f g h i))
 (R f g i)):Cl Pg [kS,kI] rv ⟨[(ah a)]⟩ w R:=co Tryz.f61 [(5,[(2,kS),(3,kI),(9,kI)])] h
theorem Ff.ok (a:Sl) (b:Int) (R:Sl→World→Prop) w (h:
 Nw 212 ⟨List.replicate 257 (ni 0)⟩ w fun d c=>
 cn 0 c fun e f (g:Int) h=>
 aa (decide (g<(a.len:Int)))
 (aq a g 1 fun i=>
 Ld (az .u8) i h fun (j:Int)=>
 av ⟨d,0,none⟩ 257 (i64 ((i64 j)+1)) 1 fun k=>
 Ld kI k h fun (l:Int)=>
 av ⟨d,0,none⟩ 257 (i64 ((i64 j)+1)) 1 fun m=>
 St m (ni (i64 (l+1))) h fun n=>
 e (i64 (g+1)) n∧f (i64 (g+1)) n<f g h)
 (cn 0 h fun o p (q:Int) r=>
 aa (decide (q<256))
 (au r fun s=>
 av ⟨d,0,none⟩ 257 (i64 (q+1)) 1 fun t=>
 Ld kI t s fun (u:Int)=>
 av ⟨d,0,none⟩ 257 q 1 fun v=>
 Ld kI v s fun (x:Int)=>
 av ⟨d,0,none⟩ 257 (i64 (q+1)) 1 fun y=>
 St y (ni (i64 (u+x))) s fun z=>
 o (i64 (q+1)) z∧p (i64 (q+1)) z<p q r)
 (ay Pg (Instr.makeSlice 33 (ni (i64 ((a.len:Int)+1))) (ni (i64 ((a.len:Int)+1)))) kS r fun (b1:Sl) a1=>
 cn 0 a1 fun c1 d1 (e1:Int) f1=>
 aa (decide (e1<(b1.len:Int)))
 (Cl Pg [kI,kB] lT ⟨[(ah a),(ni b),(ni e1)]⟩ f1 fun (h1:Int) (i1:Bool) g1=>
 aa i1
 (aq a h1 1 fun j1=>
 Ld (az .u8) j1 g1 fun (k1:Int)=>
 av ⟨d,0,none⟩ 257 k1 1 fun l1=>
 Ld kI l1 g1 fun (m1:Int)=>
 av ⟨d,0,none⟩ 257 k1 1 fun n1=>
 St n1 (ni (i64 (m1+1))) g1 fun o1=>
 av ⟨d,0,none⟩ 257 k1 1 fun p1=>
 Ld kI p1 o1 fun (q1:Int)=>
 aq b1 e1 1 fun r1=>
 St r1 (ni q1) o1 fun s1=>
 c1 (i64 (e1+1)) s1∧d1 (i64 (e1+1)) s1<d1 e1 f1)
 (c1 (i64 (e1+1)) g1∧d1 (i64 (e1+1)) g1<d1 e1 f1))
 (R b1 f1)))):Cl Pg [kS] oq ⟨[(ah a),(ni b)]⟩ w R:=co Tryz.f106 [(7,[(16,kI)]),(19,[(28,kI)]),(33,[(47,kI)])] h
theorem F2.ok (a:Sl) (b:Int) (c:Int) (R:Int→Bool→World→Prop) w (h:
 aa (decide (b<0))
 (R 0 false w)
 (aa (decide (b>(a.len:Int)))
 (R 0 false w)
 (aa (decide (c<0))
 (R 0 false w)
 (aa (decide (c>(a.len:Int)))
 (R 0 false w)
 (aa (c==b)
 (R 0 false w)
 (aa (decide (c>b))
 (R (i64 (c - 1)) true w)
 (R c true w))))))):Cl Pg [kI,kB] lT ⟨[(ah a),(ni b),(ni c)]⟩ w R:=co Tryz.f107 [] h
theorem GU.ok (a:Sl) (R:Sl→World→Prop) w (h:
 Cl Pg [kS] pR ⟨[(ah a)]⟩ w fun (c:Sl) b=>
 ay Pg (Instr.makeSlice 33 (ni (c.len:Int)) (ni (c.len:Int))) kS b fun (e:Sl) d=>
 cn 0 d fun f g (h:Int) i=>
 aa (decide (h<(c.len:Int)))
 (aq c h 1 fun j=>
 Ld kI j i fun (k:Int)=>
 aq e k 1 fun l=>
 St l (ni h) i fun m=>
 f (i64 (h+1)) m∧g (i64 (h+1)) m<g h i)
 (R e i)):Cl Pg [kS] pQ ⟨[(ah a)]⟩ w R:=co Tryz.f114 [(9,[(14,kI)])] h
theorem G1.ok (a:Sl) (R:Sl→World→Prop) w (h:
 ay Pg (Instr.makeSlice 237 (ni (i64 ((a.len:Int)+1))) (ni (i64 ((a.len:Int)+1)))) kS w fun (c:Sl) b=>
 cn 0 b fun d e (f:Int) g=>
 aa (decide (f<(a.len:Int)))
 (aq a f 1 fun h=>
 Ld (az .u8) h g fun (i:Int)=>
 aq c f 2 fun j=>
 St (j.add 0) (ni (i64 ((1:Int)+(i64 i)))) g fun k=>
 d (i64 (f+1)) k∧e (i64 (f+1)) k<e f g)
 (Cl Pg [kS,kI] im ⟨[(ah c)]⟩ g fun (m:Sl) (n:Int) l=>
 vu m n 1 l fun o p (q:Sl) (r:Int) (s:Int) t=>
 aa (decide (r<(c.len:Int)))
 (cn 0 t fun u v (x:Int) y=>
 aa (decide (x<(c.len:Int)))
 (aq q x 1 fun z=>
 Ld kI z y fun (a1:Int)=>
 aq c x 2 fun b1=>
 ak b1 [(ni a1),(ni (-1))] 0 y fun c1=>
 aa (decide ((i64 (x+s))<(c.len:Int)))
 (aq q (i64 (x+s)) 1 fun d1=>
 Ld kI d1 c1 fun (e1:Int)=>
 aq c x 2 fun f1=>
 St (f1.add 1) (ni e1) c1 fun g1=>
 u (i64 (x+1)) g1∧v (i64 (x+1)) g1<v x y)
 (u (i64 (x+1)) c1∧v (i64 (x+1)) c1<v x y))
 (Cl Pg [kS,kI] im ⟨[(ah c)]⟩ y fun (i1:Sl) (j1:Int) h1=>
 0≤(1:Int)∧
 o i1 j1 (bq .i64 s (1:Int)) h1∧p i1 j1 (bq .i64 s (1:Int)) h1<p q r s t))
 (R q t))):Cl Pg [kS] pR ⟨[(ah a)]⟩ w R:=co Tryz.f163 [(7,[(16,kI)]),(21,[(6,kS),(7,kI),(8,kI)]),(29,[(42,kI)])] h
theorem E0.ok (a:Sl) (R:Sl→Int→World→Prop) w (h:
 Cl Pg [kS] cQ ⟨[(ah a)]⟩ w fun (c:Sl) b=>
 Cl Pg [] dN ⟨[(ah c),(.func (.func 210) ⟨[]⟩ ⟨[]⟩)]⟩ b fun d=>
 ay Pg (Instr.makeMap 250 none) kM d fun f e=>
 cn 0 e fun g h (i:Int) j=>
 aa (decide (i<(c.len:Int)))
 (aq c i 2 fun k=>
 Ld (.st [.int .i64,.int .i64]) k j fun l=>
 Nw 239 ⟨[(ni 0),(ni 0)]⟩ j fun n m=>
 ak ⟨n,0,none⟩ [(ni l.1),(ni l.2.1)] 0 m fun o=>
 Ld (.st [.int .i64,.int .i64]) ⟨n,0,none⟩ o fun p=>
 mC Pg (Instr.lookup 250 (.map f) (.agg ⟨[(ni p.1),(ni p.2.1)]⟩) true) [kI,kB] o fun (r:Int) (s:Bool) q=>
 aa (!s)
 (Ld (.st [.int .i64,.int .i64]) ⟨n,0,none⟩ q fun t=>
 ay Pg (Builtin.len_ #[250] 3 ⟨[(.map f)]⟩) kI q fun (v:Int) u=>
 ay Pg (do Instr.mapUpdate 250 (.map f) (.agg ⟨[(ni t.1),(ni t.2.1)]⟩) (ni v);pure undef) kV u fun _ x=>
 g (i64 (i+1)) x∧h (i64 (i+1)) x<h i j)
 (g (i64 (i+1)) q∧h (i64 (i+1)) q<h i j))
 (bE (⟨none,0,0⟩:Sl) 0 j fun y z (a1:Sl) (b1:Int) c1=>
 aa (decide (b1<(a.len:Int)))
 (aq a b1 2 fun d1=>
 Ld (.st [.int .i64,.int .i64]) d1 c1 fun e1=>
 Nw 239 ⟨[(ni 0),(ni 0)]⟩ c1 fun g1 f1=>
 ak ⟨g1,0,none⟩ [(ni e1.1),(ni e1.2.1)] 0 f1 fun h1=>
 Ld (.st [.int .i64,.int .i64]) ⟨g1,0,none⟩ h1 fun i1=>
 ay Pg (Instr.lookup 250 (.map f) (.agg ⟨[(ni i1.1),(ni i1.2.1)]⟩) false) kI h1 fun (k1:Int) j1=>
 Nw 3 ⟨[(ni k1)]⟩ j1 fun m1 l1=>
 ay Pg (Builtin.append_ #[33,33] 33 ⟨[(ah a1),(ah (⟨some ⟨m1,0,none⟩,1,1⟩:Sl))]⟩) kS l1 fun (o1:Sl) n1=>
 y o1 (i64 (b1+1)) n1∧z o1 (i64 (b1+1)) n1<z a1 b1 c1)
 (ay Pg (Builtin.len_ #[250] 3 ⟨[(.map f)]⟩) kI c1 fun (q1:Int) p1=>
 R a1 q1 p1))):Cl Pg [kS,kI] im ⟨[(ah a)]⟩ w R:=co Tryz.f195 [(11,[(19,kI)]),(27,[(2,kS),(38,kI)])] h
theorem BZ.ok (a:(TT [.int .i64,.int .i64])) (b:(TT [.int .i64,.int .i64])) (R:Int→World→Prop) w (h:
 Nw 239 ⟨[(ni a.1),(ni a.2.1)]⟩ w fun d c=>
 Nw 239 ⟨[(ni b.1),(ni b.2.1)]⟩ c fun f e=>
 cL e fun g h=>
 ae kI (Addr.add ⟨d,0,none⟩ 0) g fun (i:Int)=>
 ae kI (Addr.add ⟨f,0,none⟩ 0) g fun (j:Int)=>
 ae kI (Addr.add ⟨d,0,none⟩ 1) g fun (k:Int)=>
 ae kI (Addr.add ⟨f,0,none⟩ 1) g fun (l:Int)=>
 Cl Pg [kI] c9 ⟨[(ni i),(ni j)]⟩ h fun (n:Int) m=>
 g m∧
 Cl Pg [kI] c9 ⟨[(ni k),(ni l)]⟩ m fun (p:Int) o=>
 g o∧
 Nw 3 ⟨[(ni n),(ni p)]⟩ o fun r q=>
 g q∧
 Cl Pg [kI] oB ⟨[(ah (⟨some ⟨r,0,none⟩,2,2⟩:Sl))]⟩ q fun (t:Int) s=>
 g s∧
 R t s):Cl Pg [kI] ll ⟨[(.agg ⟨[(ni a.1),(ni a.2.1)]⟩),(.agg ⟨[(ni b.1),(ni b.2.1)]⟩)]⟩ w R:=co Tryz.f210 [] h
end Go.Proofs.YtcdpblipagajiaaGreat
set_option maxRecDepth 20000
namespace Go.Vc
open Go
def aT (t:List Int):Array Value:=⟨t.map vI⟩
def zl (l:List Nat):List Int:=l.map fun (x:Nat)=>(x:Int)
theorem fJ (l:List Nat):(zl l).length=l.length:=List.length_map ..
theorem F9 (a b:List Nat):zl (a++b)=zl a++zl b:=List.map_append
theorem bN {t:List Int}:(aT t).size=t.length:=by simp [aT]
theorem sO {t:List Int} {i:Nat} (h:i<t.length):(aT t)[i]? =some (Sc.enc (.int .i64) (t.getD i 0)):=by simp [aT,h,vI,List.getD]
theorem cV {t:List Int}: ∀v∈(aT t).toList,aA v=true:=by
 intro v hv
 simp only [aT,List.mem_map] at hv
 obtain ⟨x,_,rfl⟩:=hv
 rfl
theorem Mw {t:List Int} {i:Nat} {x:Int}:(aT t).setIfInBounds i (.int .i64 x)=aT (t.set i x):=by
 unfold aT
 apply Array.ext'
 simp [List.map_set,vI]
theorem nr {n:Nat}:(⟨List.replicate n (.int .i64 0)⟩:Array Value)=aT (List.replicate n 0):=by unfold aT;simp [vI]
theorem sW.aT {n:Nat} {a b:List Int} {K:Bool→Prop} (ha:a.length=n) (hb:b.length=n) (h:K (a==b)):sW .i64 n (aT a) (aT b) K:=⟨a,b,rfl,rfl,ha,hb,h⟩
theorem dQ {l:List Int} {i j:Nat} {x:Int} (hi:i<l.length):(l.set i x).getD j 0=if j=i then x else l.getD j 0:=by
 simp only [List.getD,List.getElem?_set]
 by_cases h:i=j
 ·subst h;simp [hi]
 ·rw [if_neg h,if_neg (fun e=>h e.symm)]
section
variable {E w:World} {F:List HP}
theorem av.aT {b n:Nat} {t:List Int} {ty:TypeId} {fr:Nat×Nat} {i:Int} {j:Nat} {K:Int→Prop} (h:Hp E w (aj b (.cells (Vc.aT t) ty fr)::F)) (hi:i=(j:Int)) (hn:t.length=n) (hj:j<n) (hK:K (t.getD j 0)):av ⟨b,0,none⟩ n i 1 fun q=>Ld kI q w K:=by
 subst hi
 exact av.rd (s:= .int .i64) h (by omega) (by omega) _ (by rw [Int.toNat_natCast];exact sO (by omega)) hK
theorem av.NK {S:World→Prop} {b n:Nat} {t:List Int} {ty:TypeId} {fr:Nat×Nat} {i:Int} {j:Nat} {K:Int→Prop} (hS: ∀w,S w→∃G,Hp E w (aj b (.cells (Vc.aT t) ty fr)::G)) (hi:i=(j:Int)) (hn:t.length=n) (hj:j<n) (hK:K (t.getD j 0)):av ⟨b,0,none⟩ n i 1 fun q=>ae kI q S K:=by
 subst hi
 refine ⟨by omega,by omega,?_⟩
 rw [ar]
 exact ae.aF (s:= .int .i64) hS _ (by rw [Int.toNat_natCast,Nat.mul_one,Nat.zero_add];exact sO (by omega)) hK
theorem av.q7 {b n:Nat} {t:List Int} {ty:TypeId} {i:Int} {j:Nat} {v:Int} {K:World→Prop} (h:Hp E w (aj b (.cells (Vc.aT t) ty (0,0))::F)) (hi:i=(j:Int)) (hn:t.length=n) (hj:j<n)
  (hK: ∀w',Hp E w' (aj b (.cells (Vc.aT (t.set j v)) ty (0,0))::F)→K w'):av ⟨b,0,none⟩ n i 1 fun q=>St q (.int .i64 v) w K:=by
 subst hi
 exact av.wr h (by omega) (by omega) (by rw [bN,hn]) rfl (by rw [Int.toNat_natCast,Mw];exact hK)
theorem fl.aT {n:Nat} {t:List Int} {i:Int} {j:Nat} {K:Int→Prop} (hi:i=(j:Int)) (hn:t.length=n) (hj:j<n) (hK:K (t.getD j 0)):fl (.int .i64) (Vc.aT t) n i K:=by
 subst hi
 exact fl.rd (s:= .int .i64) (by omega) (by omega) _ (by rw [Int.toNat_natCast];exact sO (by omega)) hK
theorem aq.nI {s:Sl} {zs:List Int} {i:Int} {j:Nat} {K:Int→Prop} (hs:aC 1 s (zs.map vI) w) (hi:i=(j:Int)) (hj:j<zs.length) (hK:K (zs.getD j 0)):aq s i 1 fun q=>Ld kI q w K:=by
 subst hi
 have hl:=hs.1
 simp only [List.length_map,Nat.mul_one] at hl
 refine aq.rd hs (by omega) (by omega) fun p hp hc=>Ld.sc (s:= .int .i64) _ ?_ hK
 rw [hc]
 simp [vI,List.getD,hj]
theorem aq.nB {s:Sl} {bs:List Nat} {i:Int} {j:Nat} {K:Int→Prop} (hs:aC 1 s (bs.map vB) w) (hi:i=(j:Int)) (hj:j<bs.length) (hK:K (bs.getD j 0:Int)):aq s i 1 fun q=>Ld (az .u8) q w K:=by
 subst hi
 have hl:=hs.1
 simp only [List.length_map,Nat.mul_one] at hl
 refine aq.rd hs (by omega) (by omega) fun p hp hc=>Ld.sc (s:= .int .u8) (bs.getD j 0:Int) ?_ hK
 rw [hc]
 simp [vB,List.getD,hj]
theorem aq.MC {s:Sl} {zs:List Int} {i:Int} {j:Nat} {x:Int} {K:World→Prop} (hh:Hp E w (al 1 s (zs.map vI)::F)) (hi:i=(j:Int)) (hj:j<zs.length) (h: ∀w',Hp E w' (al 1 s ((zs.set j x).map vI)::F)→K w'):aq s i 1 fun q=>St q (.int .i64 x) w K:=by
 subst hi
 have hl:=hh.a6
 rw [List.length_map,Nat.mul_one] at hl
 refine St.own hh (by omega) (by omega) rfl fun w' h'=>h w' ?_
 rw [Int.toNat_natCast] at h'
 rw [List.map_set]
 exact h'
theorem aq.MM {s:Sl} {bs:List Nat} {i:Int} {j x:Nat} {K:World→Prop} (hh:Hp E w (al 1 s (bs.map vB)::F)) (hi:i=(j:Int)) (hj:j<bs.length) (h: ∀w',Hp E w' (al 1 s ((bs.set j x).map vB)::F)→K w'):aq s i 1 fun q=>St q (.int .u8 (x:Int)) w K:=by
 subst hi
 have hl:=hh.a6
 rw [List.length_map,Nat.mul_one] at hl
 refine St.own hh (by omega) (by omega) rfl fun w' h'=>h w' ?_
 rw [Int.toNat_natCast] at h'
 rw [List.map_set]
 exact h'
theorem Kc {P:Program} {t ty e e2:TypeId} {s:Sl} {zs:List Int} {x:Int} {cs:Array Value} {K:Sl→World→Prop} (he:ca P t e 1 8) (hcs:cs=⟨[vI x]⟩) (hh:Hp E w (al 1 s (zs.map vI)::F)) (hb:zs.length≤cA)
  (h: ∀s' w',Hp E w' (al 1 s' ((zs++ [x]).map vI)::F)→s'.len=zs.length+1→K s' w'):
  Nw e2 cs w fun b w1=>ay P (Builtin.append_ #[t,t] ty ⟨[.slice s.base s.len s.cap,.slice (some ⟨b,0,none⟩) 1 1]⟩) kS w1 K:=by
 have hl:=hh.a6
 rw [List.length_map,Nat.mul_one] at hl
 rw [aB] at hb
 refine Nw.mk hh fun b w1 h1=>aP (ys:= [vI x]) (n:=1) he (by decide) (.inl ⟨e,he.und⟩) h1.p1 (.inl ⟨some ⟨b,0,none⟩,1,1,rfl,rfl,h1.ag (ab.aF (by rw [hcs]) rfl)⟩) rfl (fun y hy=>by
  rw [List.mem_singleton] at hy;subst hy;rfl) (by omega) (by omega) fun s' w2 h2 hs'=>h s' w2 ?_ (by omega)
 rw [List.map_append]
 exact h2.p1.drop
end
end Go.Vc
set_option maxRecDepth 20000
namespace Go.Hs
open Go Go.Vc
def a7 (t:List Int):Bool:=t.all fun x=>decide (0≤x)&&decide (x≤2147483647)
theorem eS {t:List Int}:a7 t=true↔∀i,i<t.length→0≤t.getD i 0∧t.getD i 0≤2147483647:=by
 unfold a7
 rw [List.all_eq_true]
 constructor
 ·intro h i hi
  have:=h t[i] (List.getElem_mem hi)
  simpa [List.getD,hi] using this
 ·intro h x hx
  obtain ⟨i,hi,rfl⟩:=List.getElem_of_mem hx
  simpa [List.getD,hi] using h i hi
theorem Ci {t:List Int} {i:Nat} (hi:i<t.length) (h: ¬(0≤t.getD i 0∧t.getD i 0≤2147483647)):a7 t=false:=by
 cases hv:a7 t with
 |false=>rfl
 |true=>exact absurd (eS.1 hv i hi) h
def kT (z:Int):Bool:=decide (0≤z)&&decide (z<258)
theorem iF {z:Int}:kT z=true↔0≤z∧z<258:=by simp [kT]
def inc (t:List Int) (z:Int):List Int:=t.set z.toNat (t.getD z.toNat 0+1)
def eK (t:List Int) (zs:List Int):List Int:=zs.foldl inc t
theorem xf (t:List Int) (z:Int):(inc t z).length=t.length:=List.length_set ..
theorem lF: ∀(zs t:List Int),(eK t zs).length=t.length
 | [],_=>rfl
 |z::zs,t=>by
  show (eK (inc t z) zs).length=_
  rw [lF zs,xf]
theorem uO (t zs:List Int) (z:Int):eK t (zs++ [z])=inc (eK t zs) z:=by simp [eK]
theorem DW {t:List Int} {z:Int} (hz:kT z=true) (ht:t.length=258) (i:Nat):(inc t z).getD i 0=t.getD i 0+if z=(i:Int) then 1 else 0:=by
 rw [iF] at hz
 unfold inc
 rw [dQ (by omega)]
 by_cases h:z=(i:Int)
 ·have:i=z.toNat:=by omega
  rw [if_pos this,if_pos h,this]
 ·rw [if_neg (by omega),if_neg h];omega
theorem ql: ∀{zs t:List Int},zs.all kT=true→t.length=258→∀i:Nat,(eK t zs).getD i 0=t.getD i 0+(zs.count (i:Int):Int)
 | [],t,_,_,i=>by simp [eK]
 |z::zs,t,h,ht,i=>by
  rw [List.all_cons,Bool.and_eq_true] at h
  show (eK (inc t z) zs).getD i 0=_
  rw [ql h.2 (by rw [xf,ht]),DW h.1 ht,List.count_cons]
  by_cases e:z=(i:Int)
  ·rw [if_pos e,if_pos (by simp [e])];omega
  ·rw [if_neg e,if_neg (by simp [e])];omega
def cY (t zs:List Int):Option (List Int):=if a7 t&&zs.all kT&&a7 (eK t zs) then some (eK t zs) else none
def JO (o:Option (List Int)):Int:=if o.isSome then 0 else 2
theorem sr {t zs:List Int} (h:a7 t=false):cY t zs=none:=by simp [cY,h]
theorem u9 {t zs:List Int} {k:Nat} (hk:k<zs.length) (h:kT (zs.getD k 0)=false):cY t zs=none:=by
 unfold cY
 rw [if_neg]
 intro hh
 simp only [Bool.and_eq_true] at hh
 have:=List.all_eq_true.1 hh.1.2 zs[k] (List.getElem_mem hk)
 simp [List.getD,hk,this] at h
theorem jM (zs:List Int) (z:Int) (k:Nat):(zs.take k).count z≤zs.count z:=by
 have:zs.count z=(zs.take k).count z+(zs.drop k).count z:=by rw [←List.count_append,List.take_append_drop]
 omega
theorem GG {t zs:List Int} {k:Nat} (ht:t.length=258) (hk:k<zs.length) (hg:(zs.take k).all kT=true) (hz:kT (zs.getD k 0)=true) (h:2147483647≤(eK t (zs.take k)).getD (zs.getD k 0).toNat 0):cY t zs=none:=by
 unfold cY
 rw [if_neg]
 intro hh
 simp only [Bool.and_eq_true] at hh
 have hr:=iF.1 hz
 have hv:=eS.1 hh.2 (zs.getD k 0).toNat (by rw [lF];omega)
 rw [ql hh.1.2 ht] at hv
 rw [ql hg ht] at h
 have e:(((zs.getD k 0).toNat:Nat):Int)=zs.getD k 0:=by omega
 rw [e] at hv h
 have h1:=jM zs (zs.getD k 0) (k+1)
 have h2:(zs.take (k+1)).count (zs.getD k 0)=(zs.take k).count (zs.getD k 0)+1:=by
  rw [List.take_add_one,List.getElem?_eq_getElem hk,List.count_append]
  simp [List.getD,hk]
 omega
theorem kW {zs:List Int} {k:Nat} (hk:k<zs.length):zs.take (k+1)=zs.take k++ [zs.getD k 0]:=by
 rw [List.take_add_one,List.getElem?_eq_getElem hk]
 simp [List.getD,hk]
theorem qJ {t zs:List Int} (h1:a7 t=true) (h2:zs.all kT=true) (h3:a7 (eK t zs)=true):cY t zs=some (eK t zs):=by simp [cY,h1,h2,h3]
theorem Iq {t zs:List Int} (h3:a7 (eK t zs)=false):cY t zs=none:=by simp [cY,h3]
theorem yC {t zs u:List Int} (h:cY t zs=some u):a7 t=true∧zs.all kT=true∧u=eK t zs∧a7 u=true:=by
 unfold cY at h
 split at h
 ·rename_i hh
  simp only [Bool.and_eq_true] at hh
  obtain rfl:=Option.some.inj h
  exact ⟨hh.1.1,hh.1.2,rfl,hh.2⟩
 ·cases h
end Go.Hs
set_option maxRecDepth 20000
namespace Go.Vc
open Go Go.Sort
set_option linter.unusedSectionVars false
def bu (x:Int×Int):List Value:= [.int .i64 x.1,.int .i64 x.2]
theorem cw (x:Int×Int):(bu x).length=2:=rfl
theorem C1 (x:Int×Int): ∀y∈bu x,aA y=true:=by
 intro y hy
 simp only [bu,List.mem_cons,List.not_mem_nil,or_false] at hy
 rcases hy with rfl|rfl<;>rfl
def sA (a b:Int):Int:=if a<b then -1 else if a>b then 1 else 0
def xh (x y:Int×Int):Int:=if sA x.1 y.1 !=0 then sA x.1 y.1 else sA x.2 y.2
def fQ (x y:Int×Int):Bool:=decide (x.1<y.1)||(decide (x.1=y.1)&&decide (x.2<y.2))
theorem bX {x y:Int×Int}:fQ x y=true↔x.1<y.1∨(x.1=y.1∧x.2<y.2):=by simp [fQ]
theorem tg:Go.Proofs.ltOf xh=fQ:=by
 funext x y
 rw [Bool.eq_iff_iff,bX]
 unfold Go.Proofs.ltOf xh sA
 rw [decide_eq_true_iff]
 by_cases h1:x.1<y.1
 ·simp [h1]
 ·by_cases h2:x.1>y.1
  ·simp [h1,h2];omega
  ·by_cases h3:x.2<y.2
   ·simp [h1,h2,h3];omega
   ·by_cases h4:x.2>y.2
    ·simp [h1,h2,h3,h4]
    ·simp [h1,h2,h3,h4]
theorem Li:SWO (Go.Proofs.ltOf xh):=by
 rw [tg]
 refine ⟨fun x=> ?_,fun x y z h1 h2=> ?_,fun x y z h1 h2=> ?_⟩
 ·rw [Bool.eq_false_iff];intro h;rw [bX] at h;omega
 ·rw [bX] at*;omega
 ·rw [Bool.eq_false_iff] at*;simp only [ne_eq,bX] at*;omega
def bt (xs:List (Int×Int)):List (Int×Int):=xs.mergeSort fun x y=> !fQ y x
section
variable {E w:World} {F:List HP}
theorem Hp.grown {l:List HP} (h:Hp E w l) (os:Array Obj):Hp E (grow w os) l:=by
 obtain ⟨f,a,b⟩:=h.frag
 refine ⟨h.os,h.output,h.tape,f,fun r o hr=> ?_,b⟩
 have:=a r o hr
 show (w.heap++os)[r]? =some o
 have hlt:r<w.heap.size:=by obtain ⟨hh,_⟩:=Array.getElem?_eq_some_iff.1 this;exact hh
 rw [Array.getElem?_append_left hlt,this]
theorem Hp.Mp {b:Nat} {c:Array Value} {t:TypeId} (h:Hp E w (aj b (.cells c t (0,0))::F)) (f:Array Value→Array Value):Hp E (mapBlock w b f) (aj b (.cells (f c) t (0,0))::F):=by
 refine h.setObj ?_ rfl rfl rfl
 show w.heap.modify b (onCells f)=_
 have hb:=h.aF
 apply Array.ext_getElem?
 intro k
 have hlt:b<w.heap.size:=(Array.getElem?_eq_some_iff.1 hb).1
 simp only [Array.getElem?_modify,Array.set!_eq_setIfInBounds,Array.getElem?_setIfInBounds]
 by_cases hk:b=k
 ·subst hk
  simp only [if_true,hlt,hb,Option.map_some,onCells]
 ·simp [hk]
theorem JQ (d:Array (Int×Int)):(flatK bu 2 d).toList=d.toList.flatMap bu:=by
 apply List.ext_getElem?
 intro i
 by_cases hi:i<d.size*2
 ·have hm:i=i/2*2+i % 2:=by omega
  have hd:i/2<d.toList.length:=by rw [Array.length_toList];omega
  have:=jh (g:=bu) (sz:=2) cw d.toList (i/2) (i % 2) hd (by omega)
  rw [←hm] at this
  rw [this]
  have h2:=get_flatK bu 2 d i hi
  have hs:i<(flatK bu 2 d).size:=by simpa using hi
  rw [getElem!_pos (flatK bu 2 d) i hs,getElem!_pos d (i/2) (by omega)] at h2
  rw [List.getElem?_eq_getElem (by simpa using hi),Array.getElem_toList,h2]
  have:i % 2=0∨i % 2=1:=by omega
  rcases this with e|e<;>rw [e]<;>simp [bu]
 ·rw [List.getElem?_eq_none (by simp;omega),List.getElem?_eq_none (by rw [di cw];simp;omega)]
theorem j5 (xs:List (Int×Int)):(bt xs).length=xs.length:=List.length_mergeSort ..
theorem KS {P:Program} {ρ:Go.Shelf.Ren} (L:Go.Proofs.SlLaysF0.n6 P ρ) (aE: ∀w,(isAgg (ρ.t 24)).run P w= .ok true w) (zE: ∀w,(Go.sizeOf (ρ.t 24)).run P w= .ok 2 w) {g:Nat} (eg:l9 P g=true)
  (hcl: ∀(x y:Int×Int) (W:World),Calls P g #[.agg ⟨bu x⟩,.agg ⟨bu y⟩] W fun e w'=>e= .returned (.int .i64 (xh x y))∧∃q os',w'=grow (W.drewN q) os')
  {s:Sl} {xs:List (Int×Int)} {K:World→Prop} (h:Hp E w (al 2 s (xs.flatMap bu)::F)) (hsz:xs.length<4611686018427387904) (hK: ∀w',Hp E w' (al 2 s ((bt xs).flatMap bu)::F)→K w'):
  Cl P [] (ρ.f 6) ⟨[.slice s.base s.len s.cap,.func (.func g) ⟨[]⟩ ⟨[]⟩]⟩ w K:=by
 have hlen:=aC.len cw (by decide) (h.ag ab.own)
 unfold Cl
 by_cases h0:xs.length=0
 ·obtain rfl:xs= []:=List.length_eq_zero_iff.1 h0
  have hs0:s.len=0:=hlen
  rw [hs0]
  refine (Go.Proofs.AnyF.slices_SortFunc_none {L with} s.base s.cap _ w).mono fun e w' he=> ?_
  obtain ⟨rfl,rfl⟩:=he
  exact hK _ (by rw [show bt []= [] from List.length_eq_zero_iff.1 (j5 [])];exact h)
 rcases h.nj with ⟨rfl,h1,_⟩|⟨b,off,arr,t,h1,h2,h3,h4,h5⟩
 ·exact absurd (by simpa using hlen.symm) h0
 have hd:xs.toArray.size=s.len:=by simp [hlen]
 have hH:HoldsK bu 2 w b off xs.toArray:=by
  intro j hj
  rw [size_flatK,hd] at hj
  have hfl:(xs.flatMap bu).length=xs.length*2:=di cw xs
  have e1:=h4 j (by rw [hfl,←hlen];exact hj)
  refine ⟨?_,?_⟩
  ·rw [h5.cell (i:=off+j),e1]
   congr 1
   have e2:(flatK bu 2 xs.toArray)[j]! =(flatK bu 2 xs.toArray)[j]'(by rw [size_flatK,hd];exact hj):=getElem!_pos _ _ _
   show _=(flatK bu 2 xs.toArray)[j]!
   rw [e2,←Array.getElem_toList]
   simp only [JQ]
  ·have hb:=h5.aF
   simp [World.frozen?,hb]
 have key:=Go.Proofs.AnyQ.slices_SortFunc_total L 2 aE zE bu cw (fun x v hv=>by
   simp only [bu,List.mem_cons,List.not_mem_nil,or_false] at hv
   rcases hv with rfl|rfl<;>rfl) xh Li g ⟨[]⟩ b off s.cap xs.toArray w (qN eg)
  (fun m os dk _ x y=>hcl x y _) hH (by have:=h5.aF;exact (Array.getElem?_eq_some_iff.1 this).1) (by rw [hd,hlen];exact hsz)
  (fun x y h1 h2=>by
   rw [tg,Bool.eq_false_iff] at h1 h2
   simp only [ne_eq,bX] at h1 h2
   exact Prod.ext (by omega) (by omega))
 rw [hd,←h1] at key
 refine Calls.mono key fun e w' he=> ?_
 obtain ⟨rfl,n,os,rfl⟩:=he
 rw [tg]
 refine hK _ ?_
 unfold Go.Proofs.sortWorldK
 refine Hp.grown ?_ os
 have h6:Hp E (Sort.ahead w n) (aj b (.cells arr t (0,0))::F):=h5.drew
 have h7:=h6.Mp (putCells id off (flatK bu 2 (bt xs).toArray))
 have hl2:((bt xs).flatMap bu).length=s.len*2:=by rw [di cw,j5,hlen]
 refine h7.j7 (s:=s) hl2 h1 h2 (by simpa [putCells] using h3) fun i hi=> ?_
 have hi2:i<s.len*2:=by rw [←hl2];exact hi
 have hb:off+i<arr.size:=by
  have:s.len*2≤s.cap*2:=Nat.mul_le_mul_right _ h2
  omega
 have hsF:i<(flatK bu 2 (bt xs).toArray).size:=by rw [size_flatK];simp [j5];omega
 have e2:(flatK bu 2 (bt xs).toArray)[i]! =((bt xs).flatMap bu)[i]:=by
  rw [getElem!_pos (flatK bu 2 (bt xs).toArray) i hsF,←Array.getElem_toList]
  simp only [JQ]
 unfold putCells
 rw [Array.getElem?_mapIdx,Array.getElem?_eq_getElem hb]
 simp only [Option.map_some]
 rw [if_pos ⟨by omega,by omega⟩,show off+i - off=i by omega,id,e2]
end
end Go.Vc
set_option maxRecDepth 20000
namespace Go.Hs
open Go Go.Vc
theorem iI (xs:List (Int×Int)):(bt xs).Perm xs:=List.mergeSort_perm ..
theorem nO (xs:List (Int×Int)):(bt xs).Pairwise fun a b=>fQ b a=false:=by
 have h:=List.pairwise_mergeSort (le:=fun x y:Int×Int=> !fQ y x) (fun a b c h1 h2=>by
   simp only [Bool.not_eq_true',Bool.eq_false_iff,ne_eq,bX] at*;omega) (fun a b=>by
   simp only [Bool.or_eq_true,Bool.not_eq_true',Bool.eq_false_iff,ne_eq,bX];omega) xs
 exact h.imp fun {a b} h=>by simpa using h
theorem yF {a b:Int×Int} (h:a≠b) (h2:fQ b a=false):fQ a b=true:=by
 rw [bX]
 rw [Bool.eq_false_iff,ne_eq,bX] at h2
 have: ¬(a.1=b.1∧a.2=b.2):=fun e=>h (Prod.ext e.1 e.2)
 omega
theorem BI {xs:List (Int×Int)} (hn:xs.Nodup):(bt xs).Pairwise fun a b=>fQ a b=true:=by
 have h1:=nO xs
 have h2:(bt xs).Nodup:=(iI xs).nodup_iff.2 hn
 exact (h1.and h2).imp fun {a b} h=>yF h.2 h.1
theorem nA (a:Int×Int):fQ a a=false:=by rw [Bool.eq_false_iff,ne_eq,bX];omega
theorem HT {a b:Int×Int} (h:fQ a b=true):fQ b a=false:=by rw [Bool.eq_false_iff,ne_eq,bX];rw [bX] at h;omega
theorem lp: ∀{S:List (Int×Int)},S.Pairwise (fun a b=>fQ a b=true)→∀(j:Nat) (hj:j<S.length),S.countP (fun x=>fQ x S[j])=j
 | [],_,j,hj=>by simp at hj
 |a::S,h,0,_=>by
  rw [List.pairwise_cons] at h
  rw [List.countP_cons,List.getElem_cons_zero,nA,List.countP_eq_zero.2 fun x hx=>by rw [HT (h.1 x hx)];decide]
  rfl
 |a::S,h,j+1,hj=>by
  rw [List.pairwise_cons] at h
  have hj':j<S.length:=by simpa using hj
  rw [List.countP_cons,List.getElem_cons_succ,lp h.2 j hj',h.1 _ (List.getElem_mem hj')]
  rfl
theorem tq {S:List (Int×Int)} (h:S.Pairwise (fun a b=>fQ a b=true)) {x:Int×Int} (hx:x∈S): ∃hj:S.countP (fun y=>fQ y x)<S.length,S[S.countP (fun y=>fQ y x)]=x:=by
 obtain ⟨j,hj,rfl⟩:=List.getElem_of_mem hx
 have:=lp h j hj
 exact ⟨by omega,by simp only [this]⟩
def fi {α:Type} [DecidableEq α] (acc:List α) (t:α):List α:=if t∈acc then acc else acc++ [t]
def cu {α:Type} [DecidableEq α] (l:List α):List α:=l.foldl fi []
theorem LM {α:Type} [DecidableEq α] {acc:List α} {t x:α}:x∈fi acc t↔x∈acc∨x=t:=by
 unfold fi
 split
 ·rename_i h
  constructor
  ·exact .inl
  ·rintro (h1|rfl)
   ·exact h1
   ·exact h
 ·simp
theorem CD {α:Type} [DecidableEq α] (l:List α) (t:α):cu (l++ [t])=fi (cu l) t:=by simp [cu]
theorem sf {α:Type} [DecidableEq α]: ∀(l acc:List α) (x:α),x∈l.foldl fi acc↔x∈acc∨x∈l
 | [],acc,x=>by simp
 |t::l,acc,x=>by
  rw [List.foldl_cons,sf l,LM,List.mem_cons,or_assoc]
theorem ri {α:Type} [DecidableEq α] {l:List α} {x:α}:x∈cu l↔x∈l:=by
 rw [cu,sf];simp
end Go.Hs
set_option maxRecDepth 20000
namespace Go.Bw
open Go Go.Vc Go.Rk Go.Hs
theorem v7:SO fQ:=⟨nA,fun a b c h1 h2=>by rw [bX] at*;omega,fun a b c h1 h2=>by
 rw [Bool.eq_false_iff] at*;simp only [ne_eq,bX] at*;omega⟩
theorem Dv (dom:List (Int×Int)):wI fQ dom:=fun x _ y _ e=>by
 rw [bX,bX]
 have: ¬(x.1=y.1∧x.2=y.2):=fun h=>e (Prod.ext h.1 h.2)
 omega
def dd (l:List (Int×Int)):List (Int×Int):=cu (bt l)
theorem pJ {S:List (Int×Int)} {k:Nat} (hk:k<S.length):cu (S.take (k+1))=fi (cu (S.take k)) S[k]:=by
 rw [List.take_add_one,List.getElem?_eq_getElem hk]
 exact CD _ _
theorem mE {S:List (Int×Int)} (hS:S.Pairwise fun a b=>fQ b a=false): ∀k,k≤S.length→(cu (S.take k)).Pairwise fun a b=>fQ a b=true
 |0,_=>List.Pairwise.nil
 |k+1,hk=>by
  have ih:=mE hS k (by omega)
  rw [pJ (by omega)]
  unfold fi
  split
  ·exact ih
  ·rename_i hn
   refine List.pairwise_append.2 ⟨ih,by simp,fun a ha b hb=> ?_⟩
   rw [List.mem_singleton] at hb
   subst hb
   have ha2:=ri.1 ha
   obtain ⟨i,hi,e⟩:=List.getElem_of_mem ha2
   rw [List.length_take] at hi
   rw [List.getElem_take] at e
   have h1:=List.pairwise_iff_getElem.1 hS i k (by omega) (by omega) (by omega)
   rw [e] at h1
   exact yF (fun e=>hn (by rw [←e];exact ha)) h1
theorem oW (l:List (Int×Int)):(dd l).Pairwise fun a b=>fQ a b=true:=by
 have:=mE (nO l) (bt l).length (Nat.le_refl _)
 rwa [List.take_length] at this
theorem qg {l:List (Int×Int)} {p:Int×Int}:p∈dd l↔p∈l:=by unfold dd;rw [ri,(iI l).mem_iff]
def eZ (l:List (Int×Int)) (p:Int×Int):Nat:=rk fQ (dd l) p
theorem Ks {l:List (Int×Int)} {p q:Int×Int} (hp:p∈l) (hq:q∈l):eZ l p<eZ l q↔fQ p q=true:=ML v7 (Dv _) (qg.2 hp) (qg.2 hq)
theorem KN {l:List (Int×Int)} {p q:Int×Int} (hp:p∈l) (hq:q∈l) (h:eZ l p=eZ l q):p=q:=GO v7 (Dv _) (qg.2 hp) (qg.2 hq) h
theorem Np {l:List (Int×Int)} {p:Int×Int} (hp:p∈l): ∃h:eZ l p<(dd l).length,(dd l)[eZ l p]=p:=tq v7 (oW l) (qg.2 hp)
theorem pS {S:List (Int×Int)}: ∀k,k≤S.length→(cu (S.take k)).length≤k∧(k≤(cu (S.take k)).length→(S.take k).Nodup)
 |0,_=>⟨by simp [cu],fun _=>by simp⟩
 |k+1,hk=>by
  have ih:=pS k (by omega:k≤S.length)
  rw [pJ (by omega)]
  unfold fi
  split
  ·exact ⟨by omega,fun h=>by omega⟩
  ·rename_i hn
   rw [List.length_append,List.length_singleton]
   refine ⟨by omega,fun h=> ?_⟩
   rw [List.take_add_one,List.getElem?_eq_getElem (by omega)]
   refine List.nodup_append.2 ⟨ih.2 (by omega),by simp,fun a ha b hb=> ?_⟩
   simp only [Option.toList_some,List.mem_singleton] at hb
   subst hb
   exact fun e=>hn (by rw [ri,←e];exact ha)
theorem KL {l:List (Int×Int)} (h:l.length≤(dd l).length):l.Nodup:=by
 have:=(pS (S:=bt l) (bt l).length (Nat.le_refl _)).2
 rw [List.take_length,j5] at this
 exact (iI l).nodup_iff.1 (this h)
theorem Bp {l:List (Int×Int)} (h:l.Nodup):dd l=bt l:=by
 have h2:(dd l).Perm (bt l):=by
  have hdn:(dd l).Nodup:=(oW l).imp fun {a b} hab e=>by subst e;rw [nA] at hab;cases hab
  refine (List.perm_ext_iff_of_nodup hdn ((iI l).nodup_iff.2 h)).2 fun a=> ?_
  rw [qg,(iI l).mem_iff]
 exact py v7 h2 (oW l) (BI h)
theorem HC {l:List (Int×Int)} (h:l.Nodup) (p:Int×Int):eZ l p=rk fQ l p:=by
 unfold eZ rk
 rw [Bp h,(iI l).countP_eq]
def key (t:List Nat) (h i:Nat):List Nat:=(t.drop i).take h
def qi (t:List Nat) (h:Nat) (f:Nat→Int×Int):Prop:= ∀i j,i≤t.length→j≤t.length→(fQ (f i) (f j)=true↔lx (key t h i) (key t h j)=true)∧(f i=f j↔key t h i=key t h j)
def Qr (t:List Nat) (h:Nat) (r:Nat→Int):Prop:= ∀i j,i≤t.length→j≤t.length→(r i<r j↔lx (key t h i) (key t h j)=true)∧(r i=r j↔key t h i=key t h j)
def aH (t:List Nat) (f:Nat→Int×Int):List (Int×Int):=(List.range (t.length+1)).map f
theorem pf {t:List Nat} {f:Nat→Int×Int} {i:Nat} (hi:i≤t.length):f i∈aH t f:=List.mem_map.2 ⟨i,List.mem_range.2 (by omega),rfl⟩
theorem cS (t:List Nat) (f:Nat→Int×Int):(aH t f).length=t.length+1:=by simp [aH]
def dg (t:List Nat) (i:Nat):Int×Int:=if i<t.length then (1+(t.getD i 0:Int),0) else (0,0)
theorem gC {t:List Nat} {h i:Nat}:(key t h i).length=min h (t.length - i):=by unfold key;rw [List.length_take,List.length_drop]
theorem LC (t:List Nat):qi t 1 (dg t):=by
 intro i j hi hj
 have e1: ∀i,i<t.length→key t 1 i= [t.getD i 0]:=fun i hi=>by
  unfold key
  rw [oD hi];rfl
 have e0:key t 1 t.length= []:=by unfold key;rw [List.drop_length];rfl
 unfold dg
 rcases Nat.lt_or_ge i t.length with h1|h1<;>rcases Nat.lt_or_ge j t.length with h2|h2
 ·rw [if_pos h1,if_pos h2,e1 i h1,e1 j h2,bX,ka]
  simp only [lx,Go.Vc.JW,Bool.and_false,Bool.or_false,decide_eq_true_eq,Prod.mk.injEq,List.cons.injEq,and_true]
  omega
 ·have:j=t.length:=by omega
  subst this
  rw [if_pos h1,if_neg (by omega),e1 i h1,e0,bX,p9]
  simp only [Prod.mk.injEq]
  refine ⟨?_,?_⟩
  ·simp;omega
  ·simp;omega
 ·have:i=t.length:=by omega
  subst this
  rw [if_neg (by omega),if_pos h2,e1 j h2,e0,bX]
  simp only [Prod.mk.injEq]
  refine ⟨?_,?_⟩
  ·simp [lx,Go.Vc.JW];omega
  ·simp;omega
 ·have:i=t.length:=by omega
  have:j=t.length:=by omega
  subst this
  obtain rfl:i=t.length:=by omega
  rw [if_neg (by omega),e0,bX,p9]
  simp
def eH (t:List Nat) (h:Nat) (r:Nat→Int) (i:Nat):Int×Int:=(r i,if i+h≤t.length then r (i+h) else -1)
theorem tK (t:List Nat) (h i:Nat):key t (h+h) i=key t h i++key t h (i+h):=by
 unfold key
 rw [List.take_add,List.drop_drop]
theorem GN {t:List Nat} {h i j:Nat} (hi:i≤t.length) (hj:j≤t.length) (he:key t h i=key t h j) (hne:i≠j):i+h≤t.length∧j+h≤t.length:=by
 have:=congrArg List.length he
 rw [gC,gC] at this
 omega
theorem KU {t:List Nat} {h i:Nat} (hh:t.length≤i+h):key t h (i+h)= []:=by
 unfold key
 rw [List.drop_eq_nil_of_le hh];simp
theorem K7 {t:List Nat} {h:Nat} {r:Nat→Int} (hr:Qr t h r):qi t (h+h) (eH t h r):=by
 intro i j hi hj
 obtain ⟨h1,h2⟩:=hr i j hi hj
 rw [tK,tK]
 by_cases hij:i=j
 ·subst hij
  simp [nA,sD]
 by_cases he:key t h i=key t h j
 ·obtain ⟨g1,g2⟩:=GN hi hj he hij
  obtain ⟨h3,h4⟩:=hr (i+h) (j+h) g1 g2
  have hre:=h2.2 he
  rw [←he,G8]
  unfold eH
  rw [if_pos g1,if_pos g2,bX]
  simp only [Prod.mk.injEq,List.append_cancel_left_eq]
  rw [←h3,←h4]
  omega
 ·have hre:r i≠r j:=fun e=>he (h2.1 e)
  have hl: ∀{a b:Nat},a≤t.length→(key t h a).length<(key t h b).length→key t h (a+h)= []:=fun {a b} ha hlt=>by
   rw [gC,gC] at hlt
   exact KU (by omega)
  rw [zU _ _ _ _ he (hl hi) (hl hj),←h1]
  unfold eH
  rw [bX]
  simp only [Prod.mk.injEq]
  refine ⟨by omega,⟨fun e=>absurd e.1 hre,fun e=> ?_⟩⟩
  exfalso
  have hlen:=congrArg List.length e
  apply he
  have e1:(key t h i++key t h (i+h)).take h=key t h i∧(key t h j++key t h (j+h)).take h=key t h j:=by
   rw [←tK,←tK]
   unfold key
   rw [List.take_take,List.take_take,Nat.min_eq_left (by omega)]
   exact ⟨rfl,rfl⟩
  rw [←e1.1,←e1.2,e]
theorem Lv {t:List Nat} {h:Nat} {f:Nat→Int×Int} (hf:qi t h f):Qr t h fun i=>(eZ (aH t f) (f i):Int):=by
 intro i j hi hj
 obtain ⟨h1,h2⟩:=hf i j hi hj
 have h3:=Ks (pf (f:=f) hi) (pf (f:=f) hj)
 rw [←h1,←h2]
 dsimp only
 refine ⟨by rw [←h3];omega,⟨fun e=>KN (pf (f:=f) hi) (pf (f:=f) hj) (by omega),fun e=>by rw [e]⟩⟩
theorem vQ {t:List Nat} {f:Nat→Int×Int} (hd: ∀i j,i≤t.length→j≤t.length→f i=f j→i=j):(aH t f).Nodup:=by
 refine List.pairwise_map.2 (List.Pairwise.imp_of_mem (fun {a b} ha hb hab e=> ?_) List.nodup_range)
 rw [List.mem_range] at ha hb
 exact hab (hd a b (by omega) (by omega) e)
theorem I5 {t:List Nat} {h:Nat} {f:Nat→Int×Int} (hf:qi t h f) (hd:(dd (aH t f)).length<t.length+1):h≤t.length:=by
 rcases Nat.lt_or_ge t.length h with hh|hh
 ·exfalso
  have hn:(aH t f).Nodup:=vQ fun i j hi hj e=>by
   have:=((hf i j hi hj).2).1 e
   have:=congrArg List.length this
   rw [gC,gC] at this
   omega
  rw [Bp hn,j5,cS] at hd
  omega
 ·exact hh
theorem done {t:List Nat} {h:Nat} {f:Nat→Int×Int} (hf:qi t h f) (hd:t.length+1≤(dd (aH t f)).length) {i:Nat} (hi:i≤t.length):eZ (aH t f) (f i)=fO t i:=by
 have hn:(aH t f).Nodup:=KL (by rw [cS];exact hd)
 have hinj: ∀a b,a≤t.length→b≤t.length→key t h a=key t h b→a=b:=fun a b ha hb e=>by
  have hfe:=((hf a b ha hb).2).2 e
  have hp:=List.pairwise_map.1 hn
  rcases Nat.lt_trichotomy a b with h1|h1|h1
  ·have:=List.pairwise_iff_getElem.1 hp a b (by simp;omega) (by simp;omega) h1
   simp only [List.getElem_range] at this
   exact absurd hfe this
  ·exact h1
  ·have:=List.pairwise_iff_getElem.1 hp b a (by simp;omega) (by simp;omega) h1
   simp only [List.getElem_range] at this
   exact absurd hfe.symm this
 rw [HC hn]
 unfold rk fO rk aH rows
 rw [List.countP_map]
 refine List.countP_congr fun j hj=> ?_
 rw [List.mem_range] at hj
 simp only [Function.comp]
 rw [(hf j i (by omega) hi).1]
 unfold sl
 by_cases hij:j=i
 ·subst hij;rw [sD,sD]
 ·have hne:key t h j≠key t h i:=fun e=>hij (hinj j i (by omega) hi e)
  have hs: ∀a,t.drop a=key t h a++t.drop (a+h):=fun a=>by
   unfold key
   rw [←List.drop_drop,List.take_append_drop]
  rw [hs j,hs i,zU _ _ _ _ hne]
  ·intro hlt
   rw [gC,gC] at hlt
   exact List.drop_eq_nil_of_le (by omega)
  ·intro hlt
   rw [gC,gC] at hlt
   exact List.drop_eq_nil_of_le (by omega)
end Go.Bw
set_option maxRecDepth 20000
namespace Go.Bw
open Go.Rk
def ga (last:List Nat) (c:Nat):Nat:=last.countP fun x=>decide (x<c)
theorem Gx (last:List Nat):ga last 0=0:=by unfold ga;rw [List.countP_eq_zero];intro x _;simp
theorem yj (c:Nat): ∀last:List Nat,ga last (c+1)=ga last c+last.count c
 | []=>rfl
 |x::last=>by
  have ih:=yj c last
  unfold ga at ih⊢
  rw [List.countP_cons,List.countP_cons,List.count_cons,ih]
  by_cases h1:x<c
  ·rw [if_pos (by simp;omega),if_pos (by simp [h1]),if_neg (by simp;omega)];omega
  ·by_cases h2:x=c
   ·rw [if_pos (by simp;omega),if_neg (by simp [h1]),if_pos (by simp [h2])];omega
   ·rw [if_neg (by simp;omega),if_neg (by simp [h1]),if_neg (by simp [h2])];omega
theorem FE (l:List Nat):l=(List.range l.length).map fun i=>l.getD i 0:=by
 apply List.ext_getElem (by simp)
 intro i h1 h2
 simp [List.getD,h1]
theorem wH (l:List Nat) (p:Nat→Bool):(List.range l.length).countP (fun i=>p (l.getD i 0))=l.countP p:=by
 conv=>rhs;rw [FE l,List.countP_map]
 rfl
theorem CJ (q:Nat→Bool) (a:Nat): ∀n,a≤n→(List.range n).countP (fun i=>q i&&decide (i<a))=(List.range a).countP q
 |n,h=>by
  induction n with
  |zero=>obtain rfl:a=0:=by omega
         rfl
  |succ n ih=>
   rw [List.range_succ,List.countP_append,List.countP_cons,List.countP_nil]
   by_cases e:a=n+1
   ·subst e
    rw [List.range_succ,List.countP_append,List.countP_cons,List.countP_nil]
    congr 1
    ·refine List.countP_congr fun i hi=> ?_
     rw [List.mem_range] at hi
     simp;omega
    ·congr 1;simp
   ·rw [ih (by omega)];simp;omega
theorem ES (l:List Nat) (c a:Nat) (h:a≤l.length):(l.take a).count c=(List.range a).countP fun i=>l.getD i 0==c:=by
 have:=wH (l.take a) (fun x=>x==c)
 rw [List.length_take,Nat.min_eq_left h] at this
 show (l.take a).countP (·==c)=_
 rw [←this]
 refine List.countP_congr fun i hi=> ?_
 rw [List.mem_range] at hi
 simp only [List.getD,List.getElem?_take_of_lt hi]
def Md (last:List Nat) (a k:Nat):Nat:=(List.range k).countP fun i=>pl last i a
theorem Nq (last:List Nat) (a:Nat):nx last a=1+Md last a last.length:=rfl
theorem yw {α:Type} (p q:α→Bool) (h: ∀x,p x=true→q x=false): ∀l:List α,l.countP (fun x=>p x||q x)=l.countP p+l.countP q
 | []=>rfl
 |x::l=>by
  rw [List.countP_cons,List.countP_cons,List.countP_cons,yw p q h l]
  cases hp:p x with
  |true=>rw [h x hp];simp;omega
  |false=>simp;omega
theorem He {last:List Nat} {a:Nat} (ha:a<last.length):nx last a=ga last (last.getD a 0)+(last.take a).count (last.getD a 0)+1:=by
 have e1:Md last a last.length=ga last (last.getD a 0)+(last.take a).count (last.getD a 0):=by
  unfold Md
  have:(List.range last.length).countP (fun i=>pl last i a)=(List.range last.length).countP fun i=>(decide (last.getD i 0<last.getD a 0)||(last.getD i 0==last.getD a 0&&decide (i<a))):=rfl
  rw [this,yw (fun i=>decide (last.getD i 0<last.getD a 0)) (fun i=>(last.getD i 0==last.getD a 0&&decide (i<a))) fun i h=>by
   have:=of_decide_eq_true h
   rw [show (last.getD i 0==last.getD a 0)=false from beq_eq_false_iff_ne.2 (by omega)];rfl]
  rw [CJ (fun i=>last.getD i 0==last.getD a 0) a _ (by omega),←ES _ _ _ (by omega)]
  congr 1
  exact wH last fun x=>decide (x<last.getD a 0)
 rw [Nq,e1];omega
theorem IZ {index row:Nat} (hne:row≠index):bP index (row+1)=bP index row+1:=by unfold bP;split<;>split<;>omega
theorem Ir (index:Nat):bP index (index+1)=bP index index:=by unfold bP;rw [if_pos (by omega),if_neg (by omega)];omega
theorem Ig {last T:List Nat} {index:Nat} (hl:T.length=last.length) (h: ∀k,k<last.length→T.getD (last.length - 1 - k) 0=last.getD (bP index (wk last index k)) 0):T=cX last index:=by
 apply List.ext_getElem (by rw [pt,hl])
 intro i h1 h2
 have e1:=h (last.length - 1 - i) (by omega)
 have e2:=za (last:=last) (index:=index) (k:=last.length - 1 - i) (by omega)
 rw [show last.length - 1 - (last.length - 1 - i)=i by omega] at e1 e2
 rw [←e2] at e1
 simpa [List.getD,h1,h2] using e1
theorem Bd {last:List Nat} (h:0<last.length): ¬okB last 0:=fun ⟨_,h2,_⟩=>h2 0 h rfl
end Go.Bw
set_option maxRecDepth 20000
namespace Go.Vc
open Go
theorem xG {P:Program} {t e:TypeId} {z:Value} {n bytes:Nat} {E w:World} {F:List HP} {K:Sl→World→Prop} (ht:P.underlying t=some (.slice e)) (hi: ∃i,P.info? e=some i∧i.zero=some z∧i.size=1∧i.bytes=bytes) (hz:z.cells= #[z])
  (hn:n≤1000000) (hb:bytes≤8) (h:Hp E w F) (hK: ∀s w',s.len=n→Hp E w' (al 1 s (List.replicate n z)::F)→K s w'):ay P (Instr.makeSlice t (.int .i64 (n:Int)) (.int .i64 (n:Int))) kS w K:=by
 obtain ⟨i,h1,h2,h3,h4⟩:=hi
 have hbn:bytes*n≤8*n:=Nat.mul_le_mul_right _ hb
 have hbb:((bytes:Int)*(n:Int))≤281474976710656:=by
  have:((bytes:Int)*(n:Int))=((bytes*n:Nat):Int):=by simp
  omega
 have hm:=run_makeSlice (w:=w) t e i z ht h1 h2 .i64 .i64 (n:Int) (n:Int) (by omega) (by omega) (by rw [h3,Int.toNat_natCast];omega) (by rw [h4];exact hbb) (by omega)
 unfold ay
 rw [hm]
 have hc:madeCells z.cells (n*1)=⟨List.replicate n z⟩:=by
  unfold madeCells
  rw [hz,Nat.mul_one]
  apply Array.ext
  ·simp
  ·intro j h1 h2
   simp [Nat.mod_one]
 rw [h3,Int.toNat_natCast,hc]
 refine hK ⟨some ⟨w.heap.size,0,none⟩,n,n⟩ _ rfl ?_
 have:=(h.alloc (.cells ⟨List.replicate n z⟩ e)).dh (n:=n) (sz:=1) (by simp)
 exact this
theorem KI {P:Program} {t e:TypeId} {α:Type} {g:α→List Value} {x:α} {z:Value} {n sz bytes:Nat} {E w:World} {F:List HP} {K:Sl→World→Prop} (ht:P.underlying t=some (.slice e)) (hi: ∃i,P.info? e=some i∧i.zero=some z∧i.size=sz∧i.bytes=bytes) (hz:z.cells=⟨g x⟩) (hg: ∀x,(g x).length=sz) (h0:0<sz)
  (hn:n*sz≤1000000) (hb:bytes≤8*sz) (h:Hp E w F) (hK: ∀s w',s.len=n→Hp E w' (al sz s ((List.replicate n x).flatMap g)::F)→K s w'):ay P (Instr.makeSlice t (.int .i64 (n:Int)) (.int .i64 (n:Int))) kS w K:=by
 obtain ⟨i,h1,h2,h3,h4⟩:=hi
 have hn1:n≤n*sz:=Nat.le_mul_of_pos_right _ h0
 have hbn:bytes*n≤8*sz*n:=Nat.mul_le_mul_right _ hb
 have hbn2:8*sz*n=8*(n*sz):=by rw [Nat.mul_assoc,Nat.mul_comm sz n]
 have hbb:((bytes:Int)*(n:Int))≤281474976710656:=by
  have:((bytes:Int)*(n:Int))=((bytes*n:Nat):Int):=by simp
  omega
 have hm:=run_makeSlice (w:=w) t e i z ht h1 h2 .i64 .i64 (n:Int) (n:Int) (by omega) (by omega) (by rw [h3,Int.toNat_natCast];omega) (by rw [h4];exact hbb) (by omega)
 unfold ay
 rw [hm]
 have hc:madeCells z.cells (n*sz)=⟨(List.replicate n x).flatMap g⟩:=by
  unfold madeCells
  rw [hz]
  apply Array.ext'
  apply List.ext_getElem?
  intro j
  have hfl:=di hg (List.replicate n x)
  rw [List.length_replicate] at hfl
  by_cases hj:j<n*sz
  ·have hdj:j/sz<n:=by rw [Nat.div_lt_iff_lt_mul h0];exact hj
   have hmj:j/sz*sz+j % sz=j:=Nat.div_add_mod' j sz
   have:=jh hg (List.replicate n x) (j/sz) (j % sz) (by simpa using hdj) (Nat.mod_lt _ h0)
   rw [hmj] at this
   show _=((List.replicate n x).flatMap g)[j]?
   rw [this,List.getElem_replicate]
   have hm2:j % sz<(g x).length:=by rw [hg];exact Nat.mod_lt _ h0
   simp only [Array.toList_map,Array.toList_range,List.getElem?_map,List.getElem?_range hj,Option.map_some,List.size_toArray,hg]
   rw [List.getElem?_eq_getElem hm2]
   simp [hm2]
  ·rw [List.getElem?_eq_none (by simpa using hj),List.getElem?_eq_none (by simp only [hfl];omega)]
 rw [h3,Int.toNat_natCast,hc]
 refine hK ⟨some ⟨w.heap.size,0,none⟩,n,n⟩ _ rfl ?_
 exact (h.alloc (.cells ⟨(List.replicate n x).flatMap g⟩ e)).dh (n:=n) (sz:=sz) (by
  show ((List.replicate n x).flatMap g).length=_
  rw [di hg,List.length_replicate])
end Go.Vc
set_option maxRecDepth 20000
namespace Go.Vc
open Go
def oz (xs:List Value):Nat→List Value→List Value
 |_,[]=>xs
 |a,v::vs=>oz (xs.set a v) (a+1) vs
theorem vL: ∀(vs xs:List Value) (a i:Nat),a+vs.length≤xs.length→(oz xs a vs)[i]? =if a≤i∧i<a+vs.length then vs[i - a]? else xs[i]?
 | [],xs,a,i,_=>by rw [oz,if_neg (by simp)]
 |v::vs,xs,a,i,h=>by
  simp only [List.length_cons] at h
  rw [oz,vL vs _ _ _ (by rw [List.length_set];omega),List.length_cons,List.getElem?_set]
  by_cases h1:a=i
  ·subst h1
   rw [if_neg (by omega),if_pos rfl,if_pos (by omega),if_pos (by omega),Nat.sub_self]
   rfl
  ·by_cases h2:a+1≤i∧i<a+1+vs.length
   ·rw [if_pos h2,if_pos (by omega)]
    obtain ⟨d,rfl⟩: ∃d,i=a+1+d:=⟨i - (a+1),by omega⟩
    rw [show a+1+d - (a+1)=d by omega,show a+1+d - a=d+1 by omega,List.getElem?_cons_succ]
   ·rw [if_neg h2,if_neg h1,if_neg (by omega)]
section
variable {α:Type} {g:α→List Value} {sz:Nat}
theorem MN (hg: ∀x,(g x).length=sz) {l:List α} {j k:Nat} {v:Value} {x:α} (hj:j<l.length) (hk:k<sz) (hx:g x=(g l[j]).set k v):(l.flatMap g).set (j*sz+k) v=(l.set j x).flatMap g:=by
 have h0:0<sz:=by omega
 have hm:(j+1)*sz≤l.length*sz:=Nat.mul_le_mul_right _ hj
 rw [Nat.succ_mul] at hm
 apply List.ext_getElem?
 intro i
 have hfl:=di hg l
 have hfl2:=di hg (l.set j x)
 rw [List.length_set] at hfl2
 by_cases hi:i<l.length*sz
 ·obtain ⟨q,hq⟩: ∃q,i/sz=q:=⟨_,rfl⟩
  obtain ⟨r,hr⟩: ∃r,i % sz=r:=⟨_,rfl⟩
  have hdi:q<l.length:=by rw [←hq,Nat.div_lt_iff_lt_mul h0];exact hi
  have hmi:q*sz+r=i:=by rw [←hq,←hr];exact Nat.div_add_mod' i sz
  have hlt:r<sz:=by rw [←hr];exact Nat.mod_lt _ h0
  clear hq hr
  subst hmi
  have e1:=jh hg l q r hdi hlt
  have e2:=jh hg (l.set j x) q r (by rw [List.length_set];exact hdi) hlt
  have hd: ∀a b:Nat,b<sz→(a*sz+b)/sz=a:=fun a b hb=>by rw [Nat.mul_comm,Nat.mul_add_div h0,Nat.div_eq_of_lt hb,Nat.add_zero]
  have hmd: ∀a b:Nat,b<sz→(a*sz+b) % sz=b:=fun a b hb=>by rw [Nat.mul_comm,Nat.mul_add_mod,Nat.mod_eq_of_lt hb]
  rw [e2,List.getElem?_set,e1,List.getElem_set]
  by_cases hji:j=q
  ·subst hji
   rw [if_pos rfl,hx,List.getElem?_set,hg]
   by_cases hki:k=r
   ·subst hki
    rw [if_pos rfl,if_pos (by rw [hfl];omega),if_pos rfl,if_pos hk]
   ·rw [if_neg (by omega),if_neg hki]
  ·rw [if_neg hji,if_neg (fun e=>hji ((hd j k hk).symm.trans ((congrArg (fun y=>y/sz) e).trans (hd q r hlt))))]
 ·rw [List.getElem?_eq_none (by rw [List.length_set,hfl];omega),List.getElem?_eq_none (by rw [hfl2];omega)]
theorem Gt (hg: ∀x,(g x).length=sz) {l:List α} {j:Nat} {x:α} (h0:0<sz) (hj:j<l.length):oz (l.flatMap g) (j*sz) (g x)=(l.set j x).flatMap g:=by
 have hm:(j+1)*sz≤l.length*sz:=Nat.mul_le_mul_right _ hj
 rw [Nat.succ_mul] at hm
 have hfl:=di hg l
 have hfl2:=di hg (l.set j x)
 rw [List.length_set] at hfl2
 apply List.ext_getElem?
 intro i
 rw [vL _ _ _ _ (by rw [hg,hfl];exact hm),hg]
 by_cases hi:i<l.length*sz
 ·have hdi:i/sz<l.length:=by rw [Nat.div_lt_iff_lt_mul h0];exact hi
  have hmi:i/sz*sz+i % sz=i:=Nat.div_add_mod' i sz
  have hlt:=Nat.mod_lt i h0
  have e1:=jh hg l (i/sz) (i % sz) hdi hlt
  have e2:=jh hg (l.set j x) (i/sz) (i % sz) (by rw [List.length_set];exact hdi) hlt
  rw [hmi] at e1 e2
  rw [e2,e1,List.getElem_set]
  by_cases hji:j=i/sz
  ·rw [if_pos hji,if_pos (by rw [hji];omega),show i - j*sz=i % sz by rw [hji];omega]
  ·rw [if_neg hji,if_neg]
   rintro ⟨h1,h2⟩
   apply hji
   obtain ⟨d,rfl⟩: ∃d,i=j*sz+d:=⟨i - j*sz,by omega⟩
   rw [Nat.mul_comm,Nat.mul_add_div h0,Nat.div_eq_of_lt (by omega),Nat.add_zero]
 ·rw [if_neg (by omega),List.getElem?_eq_none (by rw [hfl];omega),List.getElem?_eq_none (by rw [hfl2];omega)]
end
section
variable {E w:World} {F:List HP} {α:Type} {g:α→List Value} {sz:Nat} {s:Sl}
theorem St.zN {xs:List Value} {i j:Nat} {v:Value} {p:Addr} {K:World→Prop} (hh:Hp E w (al sz s xs::F)) (hp:s.base=some p) (hi:i<s.len) (hj:j<sz) (hv:aA v=true) (h: ∀w',Hp E w' (al sz s (xs.set (i*sz+j) v)::F)→K w'):St ((p.add (i*sz)).add j) v w K:=by
 obtain ⟨p',h1,_,_,h4⟩:=St.IH (i:=(i:Int)) (K:=K) hh hj (by omega) (by omega) hv (by rw [Int.toNat_natCast];exact h)
 rw [hp] at h1
 obtain rfl:=Option.some.inj h1
 rw [Int.toNat_natCast] at h4
 exact h4
theorem ak.zN {i:Nat} {p:Addr} (hp:s.base=some p) (hi:i<s.len): ∀(vs:List Value) (k:Nat) {w:World} {xs:List Value} {K:World→Prop},Hp E w (al sz s xs::F)→k+vs.length≤sz→(∀v∈vs,aA v=true)→
  (∀w',Hp E w' (al sz s (oz xs (i*sz+k) vs)::F)→K w')→ak (p.add (i*sz)) vs k w K
 | [],_,w,_,_,hh,_,_,h=>h w hh
 |v::vs,k,w,xs,K,hh,hk,hv,h=>by
  simp only [List.length_cons] at hk
  refine St.zN (K:=fun w'=>ak (p.add (i*sz)) vs (k+1) w' K) hh hp hi (by omega) (hv v (by simp)) fun w' h'=> ?_
  exact ak.zN hp hi vs (k+1) h' (by omega) (fun x hx=>hv x (List.mem_cons_of_mem _ hx)) fun w'' h''=>h w'' (by rw [oz];exact h'')
theorem aq.Ng {l:List α} {i:Int} {j:Nat} {x:α} {K:World→Prop} (hg: ∀x,(g x).length=sz) (h0:0<sz) (hh:Hp E w (al sz s (l.flatMap g)::F)) (hi:i=(j:Int)) (hj:j<l.length) (hv: ∀v∈g x,aA v=true)
  (h: ∀w',Hp E w' (al sz s ((l.set j x).flatMap g)::F)→K w'):aq s i sz fun q=>ak q (g x) 0 w K:=by
 subst hi
 have hlen:=aC.len hg h0 (hh.ag ab.own)
 rcases hh.nj with ⟨rfl,h1,_⟩|⟨b,off,arr,t,e1,_,_,_,_⟩
 ·have:l.length=0:=by simpa using hlen.symm
  omega
 ·refine ⟨_,e1,by omega,by omega,?_⟩
  rw [Int.toNat_natCast]
  exact ak.zN e1 (by omega) (g x) 0 hh (by rw [hg];omega) hv fun w' h'=>h w' (by rw [Nat.add_zero,Gt hg h0 hj] at h';exact h')
theorem aq.setCell {l:List α} {i:Int} {j k:Nat} {v:Value} {x:α} {K:World→Prop} (hg: ∀x,(g x).length=sz) (h0:k<sz) (hh:Hp E w (al sz s (l.flatMap g)::F)) (hi:i=(j:Int)) (hj:j<l.length) (hv:aA v=true) (hx:g x=(g l[j]).set k v)
  (h: ∀w',Hp E w' (al sz s ((l.set j x).flatMap g)::F)→K w'):aq s i sz fun q=>St (q.add k) v w K:=by
 subst hi
 have hlen:=aC.len hg (by omega) (hh.ag ab.own)
 refine St.IH hh h0 (by omega) (by omega) hv fun w' h'=>h w' ?_
 rw [Int.toNat_natCast,MN hg hj h0 hx] at h'
 exact h'
end
end Go.Vc
set_option maxRecDepth 20000
namespace Go.Vc
open Go
theorem vF {P:Program} {t ty e e2:TypeId} {E w:World} {F:List HP} {s:Sl} {bs:List Nat} {x:Nat} {cs:Array Value} {K:Sl→World→Prop} (he:ca P t e 1 1) (hcs:cs=⟨[vB x]⟩) (hh:Hp E w (al 1 s (bs.map vB)::F)) (hb:bs.length≤cA)
  (h: ∀s' w',Hp E w' (al 1 s' ((bs++ [x]).map vB)::F)→s'.len=bs.length+1→K s' w'):
  Nw e2 cs w fun b w1=>ay P (Builtin.append_ #[t,t] ty ⟨[.slice s.base s.len s.cap,.slice (some ⟨b,0,none⟩) 1 1]⟩) kS w1 K:=by
 have hl:=hh.a6
 rw [List.length_map,Nat.mul_one] at hl
 rw [aB] at hb
 refine Nw.mk hh fun b w1 h1=>aP (ys:= [vB x]) (n:=1) he (by decide) (.inl ⟨e,he.und⟩) h1.p1 (.inl ⟨some ⟨b,0,none⟩,1,1,rfl,rfl,h1.ag (ab.aF (by rw [hcs]) rfl)⟩) rfl (fun y hy=>by
  rw [List.mem_singleton] at hy;subst hy;rfl) (by omega) (by omega) fun s' w2 h2 hs'=>h s' w2 ?_ (by omega)
 rw [List.map_append]
 exact h2.p1.drop
end Go.Vc
namespace Go.Proofs.YtcdpblipagajiaaGreat
open Go Go.Vc Go.Bw
theorem vx:ca Tryz.prog 22 5 1 1:= .of (by kernel_rfl) (by kernel_rfl)
theorem DH: ∃i,Tryz.prog.info? 3=some i∧i.zero=some (.int .i64 0)∧i.size=1∧i.bytes=8:=by
 have h:(Tryz.prog.info? 3).map (fun i=>(i.zero,i.size,i.bytes))=some (some (.int .i64 0),1,8):=by kernel_rfl
 obtain ⟨i,h1,h2⟩:=Option.map_eq_some_iff.1 h
 simp only [Prod.mk.injEq] at h2
 exact ⟨i,h1,h2⟩
theorem Lc: ∃i,Tryz.prog.info? 5=some i∧i.zero=some (.int .u8 0)∧i.size=1∧i.bytes=1:=by
 have h:(Tryz.prog.info? 5).map (fun i=>(i.zero,i.size,i.bytes))=some (some (.int .u8 0),1,1):=by kernel_rfl
 obtain ⟨i,h1,h2⟩:=Option.map_eq_some_iff.1 h
 simp only [Prod.mk.injEq] at h2
 exact ⟨i,h1,h2⟩
theorem GC {n:Nat}:List.replicate n (Value.int .i64 0)=(List.replicate n (0:Int)).map vI:=by simp [vI]
theorem tp (n i:Nat):(List.replicate n (0:Int)).getD i 0=0:=by
 simp only [List.getD,List.getElem?_replicate]
 split<;>rfl
theorem LV {n:Nat}:List.replicate n (Value.int .u8 0)=(List.replicate n (0:Nat)).map vB:=by simp [vB]
section
variable {E w:World} {F:List HP}
def vK (t:List Nat) (i k:Int):Bool:=decide (0≤i∧i≤t.length∧0≤k∧k≤t.length)&&sl t i.toNat k.toNat
def zO (m:Nat) (index row:Int):Prop:=0≤index∧index≤m∧0≤row∧row≤m∧row≠index
theorem DV {m:Nat} {s:Sl} {index row:Int} {K:Int→Bool→World→Prop} (hm:s.len=m) (hbig:m≤cA) (h1:zO m index row→K (bP index.toNat row.toNat:Int) true w) (h2: ¬zO m index row→K 0 false w):
  Cl Tryz.prog [kI,kB] lT ⟨[.slice s.base s.len s.cap,.int .i64 index,.int .i64 row]⟩ w K:=by
 refine F2.ok _ _ _ _ _ ?_
 subst hm
 rw [aB] at hbig
 unfold zO at h1 h2
 refine aa.mk (fun g=>h2 (by have:=of_decide_eq_true g;omega)) (fun g1=>aa.mk (fun g=>h2 (by have:=of_decide_eq_true g;omega)) (fun g2=>aa.mk (fun g=>h2 (by have:=of_decide_eq_true g;omega)) (fun g3=>aa.mk (fun g=>h2 (by have:=of_decide_eq_true g;omega)) (fun g4=>aa.mk (fun g=>h2 (by have:=beq_iff_eq.1 g;omega)) (fun g5=> ?_)))))
 have g1:=of_decide_eq_false g1
 have g2:=of_decide_eq_false g2
 have g3:=of_decide_eq_false g3
 have g4:=of_decide_eq_false g4
 have g5:=beq_eq_false_iff_ne.1 g5
 have hk:=h1 (by omega)
 refine aa.mk (fun g=> ?_) (fun g=> ?_)
 ·have g:=of_decide_eq_true g
  have e:(bP index.toNat row.toNat:Int)=row - 1:=by unfold bP;rw [if_pos (by omega)];omega
  rw [ad (by omega),←e];exact hk
 ·have g:=of_decide_eq_false g
  have e:(bP index.toNat row.toNat:Int)=row:=by unfold bP;rw [if_neg (by omega)];omega
  rw [←e];rw [e] at hk⊢;exact hk
theorem B0 {m:Nat} {index row:Int} (h:zO m index row):bP index.toNat row.toNat<m:=by
 obtain ⟨h1,h2,h3,h4,h5⟩:=h
 unfold bP;split<;>omega
def mU (last:List Nat) (index:Nat):List Int:=(List.range (last.length+1)).map fun r=>if r=index then 0 else (nx last (bP index r):Int)
theorem yH (last:List Nat) (index:Nat):(mU last index).length=last.length+1:=by simp [mU]
theorem xW {last:List Nat} {index r:Nat} (hr:r≤last.length) (hne:r≠index):(mU last index).getD r 0=(nx last (bP index r):Int):=by
 unfold mU
 simp [List.getD,show r<last.length+1 by omega,hne]
set_option maxRecDepth 20000 in
theorem HV {last:List Nat} {s:Sl} {index:Nat} {K:Sl→World→Prop} (h:Hp E w F) (hs:ab F (aC 1 s (last.map vB))) (hb: ∀x∈last,x<256) (hn:last.length≤900000) (hi:index≤last.length)
  (hK: ∀s' w',Hp E w' (al 1 s' ((mU last index).map vI)::F)→K s' w'):Cl Tryz.prog [kS] oq ⟨[.slice s.base s.len s.cap,.int .i64 (index:Int)]⟩ w K:=by
 refine Ff.ok _ _ _ _ ?_
 rw [Vc.nr]
 have hl:=(h.ag hs).1
 simp only [List.length_map,Nat.mul_one] at hl
 have hg: ∀k,k<last.length→last.getD k 0<256:=fun k hk=>by
  rw [List.getD,List.getElem?_eq_getElem hk]
  exact hb _ (List.getElem_mem hk)
 have hcl: ∀(k c:Nat),(last.take k).count c≤last.length:=fun k c=>by
  refine Nat.le_trans List.count_le_length ?_
  rw [List.length_take];omega
 have hcc: ∀c:Nat,ga last c≤last.length:=fun c=>List.countP_le_length
 refine Nw.mk h fun b4 w1 h1=> ?_
 refine ⟨fun i w'=> ∃(k:Nat) (u:List Int),i=(k:Int)∧k≤last.length∧u.length=257∧(u.getD 0 0=0∧∀c,c<256→u.getD (c+1) 0=((last.take k).count c:Int))∧Hp E w' (aj b4 (.cells (Vc.aT u) 212 (0,0))::F),fun i _=>last.length - i.toNat,
  ⟨0,_,rfl,by omega,List.length_replicate,⟨tp ..,fun c hc=>by rw [tp];simp⟩,h1⟩,?_⟩
 rintro i w2 ⟨k,u,rfl,hk,hul,hu,h2⟩
 refine aa.mk (fun hlt=> ?_) (fun hge=> ?_)
 ·have hlt:k<last.length:=by have:=of_decide_eq_true hlt;omega
  have hx:=hg k hlt
  have hq:=hu.2 (last.getD k 0) hx
  have hcb:=hcl k (last.getD k 0)
  refine aq.nB (h2.ag (ab.cons hs)) rfl hlt ?_
  rw [ad (x:=(last.getD k 0:Int)) (by omega),ad (x:=(last.getD k 0:Int)+1) (by omega)]
  refine av.aT (j:=last.getD k 0+1) h2 (by omega) hul (by omega) (av.q7 (j:=last.getD k 0+1) h2 (by omega) hul (by omega) fun w3 h3=> ?_)
  rw [ad (x:=(k:Int)+1) (by omega)]
  refine ⟨⟨k+1,_,by omega,by omega,by rw [List.length_set];exact hul,⟨?_,fun c hc=> ?_⟩,h3⟩,by dsimp only;omega⟩
  ·rw [dQ (by omega),if_neg (by omega)];exact hu.1
  ·rw [dQ (by omega),List.take_add_one,List.getElem?_eq_getElem hlt,List.count_append]
   have e:last.getD k 0=last[k]:=by simp [List.getD,hlt]
   by_cases ec:c=last.getD k 0
   ·subst ec
    rw [if_pos rfl,hq,ad (by omega),e];simp
   ·rw [if_neg (by omega),hu.2 c hc]
    have:List.count c (some last[k]).toList=0:=by
     rw [List.count_eq_zero]
     simp only [Option.toList_some,List.mem_singleton]
     rw [←e];exact ec
    rw [this];simp
 have hge:k=last.length:=by have:=of_decide_eq_false hge;omega
 subst hge
 rw [List.take_length] at hu
 refine ⟨fun i w'=> ∃(k:Nat) (u:List Int),i=(k:Int)∧k≤256∧u.length=257∧(∀c,c≤k→u.getD c 0=(ga last c:Int))∧(∀c,k<c+1→c<256→u.getD (c+1) 0=(last.count c:Int))∧Hp E w' (aj b4 (.cells (Vc.aT u) 212 (0,0))::F),fun i _=>256 - i.toNat,
  ⟨0,u,rfl,by omega,hul,fun c hc=>by obtain rfl:c=0:=by omega
                                     rw [hu.1,Gx];rfl,fun c _ hc=>hu.2 c hc,h2⟩,?_⟩
 rintro i w3 ⟨k,v,rfl,hk,hvl,hv1,hv2,h3⟩
 refine aa.mk (fun hlt=> ?_) (fun hge=> ?_)
 ·have hlt:k<256:=by have:=of_decide_eq_true hlt;omega
  refine au.mk h3 fun w4 h4=> ?_
  rw [ad (x:=(k:Int)+1) (by omega)]
  have e1:=hv2 k (by omega) hlt
  have e2:=hv1 k (by omega)
  have e3:=yj k last
  have e4:=hcc (k+1)
  refine av.aT (j:=k+1) h4 (by omega) hvl (by omega) (av.aT (j:=k) h4 rfl hvl (by omega) (av.q7 (j:=k+1) h4 (by omega) hvl (by omega) fun w5 h5=> ?_))
  refine ⟨⟨k+1,_,by omega,by omega,by rw [List.length_set];exact hvl,fun c hc=> ?_,fun c hc1 hc2=> ?_,h5⟩,by dsimp only;omega⟩
  ·rw [dQ (by omega)]
   by_cases ec:c=k+1
   ·subst ec
    rw [if_pos rfl,e1,e2,ad (by omega),e3];omega
   ·rw [if_neg ec];exact hv1 c (by omega)
  ·rw [dQ (by omega),if_neg (by omega)]
   exact hv2 c (by omega) hc2
 have hge:k=256:=by have:=of_decide_eq_false hge;omega
 subst hge
 rw [show i64 ((s.len:Int)+1)=((last.length+1:Nat):Int) by rw [ad (by omega)];omega]
 refine xG (by kernel_rfl) DH rfl (by omega) (by decide) h3 fun s27 w4 hs27 h4=> ?_
 rw [GC] at h4
 refine ⟨fun i w'=> ∃(k:Nat) (v out:List Int),i=(k:Int)∧k≤last.length+1∧v.length=257∧(∀c,c<256→v.getD c 0=(ga last c:Int)+((last.take (bP index k)).count c:Int))∧out.length=last.length+1∧
   (∀r,r<k→out.getD r 0=(mU last index).getD r 0)∧(∀r,k≤r→out.getD r 0=0)∧Hp E w' (al 1 s27 (out.map vI)::aj b4 (.cells (Vc.aT v) 212 (0,0))::F),fun i _=>last.length+1 - i.toNat,
  ⟨0,v,_,rfl,by omega,hvl,fun c hc=>by rw [hv1 c (by omega)];simp [bP],List.length_replicate,fun r hr=>by omega,fun r _=>by simp only [List.getD,List.getElem?_replicate];split<;>rfl,h4⟩,?_⟩
 rintro i w5 ⟨k,v,out,rfl,hk,hvl,hv,hol,ho1,ho2,h5⟩
 refine aa.mk (fun hlt=> ?_) (fun hge=> ?_)
 ·have hlt:k<last.length+1:=by have:=of_decide_eq_true hlt;omega
  refine DV hl.symm (by rw [aB];omega) (fun hin=>aa.t rfl ?_) (fun hin=>aa.f rfl ?_)
  ·have hat:=B0 hin
   have hne:k≠index:=by have:=hin.2.2.2.2;omega
   rw [Int.toNat_natCast,Int.toNat_natCast] at hat⊢
   have hx:=hg _ hat
   have hvx:=hv _ hx
   have hcn:=He hat
   have hnl:=Fa hat
   refine aq.nB (h5.ag (ab.cons (ab.cons hs))) rfl hat ?_
   refine av.aT (j:=last.getD (bP index k) 0) h5.p1 rfl hvl (by omega) (av.q7 (j:=last.getD (bP index k) 0) h5.p1 rfl hvl (by omega) fun w6 h6=> ?_)
   have hset:i64 (v.getD (last.getD (bP index k) 0) 0+1)=(nx last (bP index k):Int):=by rw [hvx,ad (by omega)];omega
   rw [hset] at h6
   refine av.aT (j:=last.getD (bP index k) 0) h6 rfl (by rw [List.length_set];exact hvl) (by omega) ?_
   rw [dQ (by omega),if_pos rfl]
   refine aq.MC h6.p1 rfl (by omega) fun w7 h7=> ?_
   rw [ad (x:=(k:Int)+1) (by omega)]
   refine ⟨⟨k+1,_,_,by omega,by omega,by rw [List.length_set];exact hvl,fun c hc=> ?_,by rw [List.length_set];exact hol,fun r hr=> ?_,fun r hr=> ?_,h7⟩,by dsimp only;omega⟩
   ·rw [dQ (by omega),IZ hne,List.take_add_one,List.getElem?_eq_getElem hat,List.count_append]
    have e:last.getD (bP index k) 0=last[bP index k]:=by simp [List.getD,hat]
    by_cases ec:c=last.getD (bP index k) 0
    ·subst ec
     rw [if_pos rfl,hcn,e];simp;omega
    ·rw [if_neg ec,hv c hc]
     have:List.count c (some last[bP index k]).toList=0:=by
      rw [List.count_eq_zero]
      simp only [Option.toList_some,List.mem_singleton]
      rw [←e];exact ec
     rw [this];simp
   ·rw [dQ (by omega)]
    by_cases er:r=k
    ·subst er
     rw [if_pos rfl,xW (by omega) hne]
    ·rw [if_neg er];exact ho1 r (by omega)
   ·rw [dQ (by omega),if_neg (by omega)];exact ho2 r (by omega)
  ·have hke:k=index:=by
    rcases Nat.lt_trichotomy k index with h|h|h
    ·exact absurd ⟨by omega,by omega,by omega,by omega,by omega⟩ hin
    ·exact h
    ·exact absurd ⟨by omega,by omega,by omega,by omega,by omega⟩ hin
   rw [ad (x:=(k:Int)+1) (by omega)]
   refine ⟨⟨k+1,v,out,by omega,by omega,hvl,fun c hc=> ?_,hol,fun r hr=> ?_,fun r hr=>ho2 r (by omega),h5⟩,by dsimp only;omega⟩
   ·rw [hv c hc,hke,Ir]
   ·by_cases er:r=k
    ·subst er
     rw [ho2 r (Nat.le_refl _)]
     unfold mU
     rw [List.getD,List.getElem?_map,List.getElem?_range (by omega)]
     simp [hke]
    ·exact ho1 r (by omega)
 ·have hge:k=last.length+1:=by
   have:=of_decide_eq_false hge;omega
  subst hge
  have:out=mU last index:=by
   apply List.ext_getElem (by rw [hol,yH])
   intro r h1 h2
   have:=ho1 r (by omega)
   simpa [List.getD,h1,h2] using this
  rw [this] at h5
  exact hK s27 w5 h5.p1.drop
end
end Go.Proofs.YtcdpblipagajiaaGreat
set_option maxRecDepth 20000
namespace Go.Vc
open Go Go.Sort
def Gr (W w:World):Prop:= ∃q os,w=grow (W.drewN q) os
theorem Gr.refl (W:World):Gr W W:=⟨0,#[],by simp [World.drewN]⟩
theorem Gr.alloc {W w:World} (h:Gr W w) (o:Obj):Gr W (w.alloc o):=by
 obtain ⟨q,os,rfl⟩:=h
 exact ⟨q,os++ #[o],by rw [alloc_eq_grow,grow_grow]⟩
theorem Gr.drew {W w:World} (h:Gr W w):Gr W {w with drawn:=w.drawn+1}:=by
 obtain ⟨q,os,rfl⟩:=h
 exact ⟨q+1,os,rfl⟩
theorem Nw.gr {W E w:World} {F:List HP} {t:TypeId} {cs:Array Value} {K:Nat→World→Prop} (hh:Hp E w F) (hg:Gr W w) (h: ∀b w',Hp E w' (aj b (.cells cs t (0,0))::F)→Gr W w'→K b w'):Nw t cs w K:=h _ _ (hh.alloc _) (hg.alloc _)
end Go.Vc
namespace Go.Proofs.YtcdpblipagajiaaGreat
open Go Go.Vc Go.Sort
section
variable {E w:World} {F:List HP}
theorem D3 {x:Int} {K:Bool→World→Prop} (hK:K false w):Cl Tryz.prog [kB] gK ⟨[.int .i64 x]⟩ w K:=by
 refine cmp_isNaN_int.ok _ _ _ ?_
 simpa using hK
theorem yK {x y:Int} {K:Int→World→Prop} (hK:K (sA x y) w):Cl Tryz.prog [kI] c9 ⟨[.int .i64 x,.int .i64 y]⟩ w K:=by
 refine o0.ok _ _ _ _ ?_
 refine D3 (D3 (aa.f rfl (aa.f rfl ?_)))
 unfold sA at hK
 by_cases h1:x<y
 ·rw [if_pos h1] at hK;exact aa.t (decide_eq_true h1) hK
 ·rw [if_neg h1] at hK
  refine aa.f (decide_eq_false h1) ?_
  by_cases h2:x>y
  ·rw [if_pos h2] at hK;exact aa.t (decide_eq_true h2) hK
  ·rw [if_neg h2] at hK;exact aa.f (decide_eq_false h2) hK
theorem NY {a b:Int} {s:Sl} {K:Int→World→Prop} (hs:aC 1 s [vI a,vI b] w) (hl:s.len=2) (hK:K (if a !=0 then a else b) w):Cl Tryz.prog [kI] oB ⟨[.slice s.base s.len s.cap]⟩ w K:=by
 refine EV.ok _ _ _ ?_
 refine ⟨fun i w'=>w'=w∧(i=0∨(i=1∧a=0)∨(i=2∧a=0∧b=0)),fun i _=>(2 - i).toNat,⟨rfl,.inl rfl⟩,?_⟩
 rintro i w' ⟨rfl,hi⟩
 rw [hl]
 rcases hi with rfl|⟨rfl,rfl⟩|⟨rfl,rfl,rfl⟩
 ·refine aa.t (by decide) (aq.rd hs (by omega) (by rw [hl];decide) fun p hp hc=>Ld.sc (s:= .int .i64) a hc ?_)
  refine aa.mk (fun h=> ?_) (fun h=> ?_)
  ·rw [h] at hK;exact hK
  ·exact ⟨⟨rfl,.inr (.inl ⟨by decide,by simpa using h⟩)⟩,by dsimp only;decide⟩
 ·refine aa.t (by decide) (aq.rd hs (by omega) (by rw [hl];decide) fun p hp hc=>Ld.sc (s:= .int .i64) b hc ?_)
  refine aa.mk (fun h=> ?_) (fun h=> ?_)
  ·exact hK
  ·exact ⟨⟨rfl,.inr (.inr ⟨by decide,rfl,by simpa using h⟩)⟩,by dsimp only;decide⟩
 ·exact aa.f (by decide) hK
theorem JA {i:FuncId} {args:Array Value} {r:Int} (h:Cl Tryz.prog [kI] i args w fun x w'=>x=r∧Gr w w'):Calls Tryz.prog i args w fun e w'=>e= .returned (.int .i64 r)∧∃q os',w'=grow (w.drewN q) os':=by
 refine Calls.mono h fun e w' he=> ?_
 cases e with
 |returned v=>
  obtain ⟨x,rfl,rfl,hg⟩:=Ki.cH (k:=kI) he
  exact ⟨rfl,hg⟩
 |panicked=>exact he.elim
 |outgrown=>exact he.elim
end
end Go.Proofs.YtcdpblipagajiaaGreat
set_option maxRecDepth 20000
namespace Go.Proofs.YtcdpblipagajiaaGreat
open Go Go.Vc Go.Sort
theorem G5 (x y:Int×Int) (W:World):Calls Tryz.prog ll #[.agg ⟨bu x⟩,.agg ⟨bu y⟩] W fun e w'=>e= .returned (.int .i64 (xh x y))∧∃q os',w'=grow (W.drewN q) os':=by
 refine JA (BZ.ok (x.1,x.2,()) (y.1,y.2,()) _ _ ?_)
 refine Nw.gr (Hp.start W) (Gr.refl W) fun b1 w1 h1 g1=>Nw.gr h1 g1 fun b2 w2 h2 g2=> ?_
 refine ⟨cc W _,cc.mk h2.drew,?_⟩
 refine ae.aF (s:= .int .i64) (fun w h=>h.sQ) x.1 rfl ?_
 refine ae.aF (s:= .int .i64) (fun w h=>h.front) y.1 rfl ?_
 refine ae.aF (s:= .int .i64) (fun w h=>h.sQ) x.2 rfl ?_
 refine ae.aF (s:= .int .i64) (fun w h=>h.front) y.2 rfl ?_
 refine yK ⟨cc.mk h2.drew,yK ⟨cc.mk h2.drew,?_⟩⟩
 refine Nw.gr (h2.drew (n:=w2.drawn+1)) g2.drew fun b3 w3 h3 g3=>⟨cc.qa h3,?_⟩
 refine NY (a:=sA x.1 y.1) (b:=sA x.2 y.2) (s:=⟨some ⟨b3,0,none⟩,2,2⟩) (h3.ag (ab.aF rfl rfl)) rfl ⟨cc.qa h3,rfl,g3⟩
end Go.Proofs.YtcdpblipagajiaaGreat
set_option maxRecDepth 20000
namespace Go.Vc
open Go
set_option linter.unusedSectionVars false
section
variable {P:Program} {α β:Type} [DecidableEq α] {ke:α→Value} {ve:β→Value} {kt vt t ty:TypeId} {E w:World} {F:List HP} {m:Option Nat} {l:List (α×β)}
theorem I3 {es:List MapEntry} (h:fq ke ve es l):es.length=l.length:=by
 have:=congrArg List.length h
 simpa using this
theorem um (hk:pv P kt ke) (hu:P.underlying t=some (.map kt vt)) {a:α} {z:Value} (hz: ∀w,(zeroValue vt).run P w= .ok z w) (h:Hp E w (lI ke ve m l::F)):
  (Instr.lookup t (.map m) (ke a) false).run P w= .ok (match findAt a l 0 with|some q=>ve q.2|none=>z) w:=by
 obtain ⟨r,es,clock,rfl,he,hB⟩:=h.tn
 have hb:=hB.aF
 have hfk:=pW (ve:=ve) hk a w es.toList l he
 cases hf:findAt a l 0 with
 |none=>
  rw [hf] at hfk
  simp [Instr.lookup,run_underlying hu,MapKept.run_getObj_map hb,hk.check,hfk,hz]
 |some q=>
  rw [hf] at hfk
  simp [Instr.lookup,run_underlying hu,MapKept.run_getObj_map hb,hk.check,hfk]
theorem AX (hu:P.underlying t=some (.map kt vt)) {K:Int→World→Prop} (h:Hp E w (lI ke ve m l::F)) (hK:K (l.length:Int) w):ay P (Builtin.len_ #[t] ty ⟨[.map m]⟩) kI w K:=by
 obtain ⟨r,es,clock,rfl,he,hB⟩:=h.tn
 have hb:=hB.aF
 have hl:=I3 he
 unfold ay
 have:(Builtin.len_ #[t] ty ⟨[.map (some r)]⟩).run P w= .ok (.int .i64 (l.length:Int)) w:=by
  simp [Builtin.len_,run_underlying hu,MapKept.run_getObj_map hb,goInt,←hl]
 rw [this]
 exact hK
end
end Go.Vc
namespace Go.Proofs
open Go.Shelf
def Tryz.r5:Go.Shelf.Ren:=⟨fun|6=>209|15=>219|14=>218|28=>231|29=>232|20=>223|21=>224|22=>225|23=>226|24=>227|25=>228|26=>229|27=>230|46=>234|47=>235|48=>236|49=>237|50=>238|57=>239|n=>n,fun|22=>237|24=>239|25=>249|3=>3|39=>88|0=>0|53=>49|55=>213|4=>4|46=>265|45=>264|50=>157|5=>5|9=>9|66=>272|70=>276|76=>278|77=>206|n=>n,fun|n=>n⟩
theorem Tryz.I2:Go.Proofs.SlLaysF0.n6 Tryz.prog Tryz.r5:={
 mixed:=by kernel_rfl
 f6:=⟨Tryz.f209.name,by decide,Tryz.func209.trans (congrArg some (by kernel_rfl))⟩
 f14:=⟨Tryz.f218.name,by decide,Tryz.func218.trans (congrArg some (by kernel_rfl))⟩
 f15:=Tryz.func219.trans (congrArg some (by kernel_rfl))
 f20:=⟨Tryz.f223.name,by decide,Tryz.func223.trans (congrArg some (by kernel_rfl))⟩
 f21:=⟨Tryz.f224.name,by decide,Tryz.func224.trans (congrArg some (by kernel_rfl))⟩
 f22:=⟨Tryz.f225.name,by decide,Tryz.func225.trans (congrArg some (by kernel_rfl))⟩
 f23:=⟨Tryz.f226.name,by decide,Tryz.func226.trans (congrArg some (by kernel_rfl))⟩
 f24:=⟨Tryz.f227.name,by decide,Tryz.func227.trans (congrArg some (by kernel_rfl))⟩
 f25:=⟨Tryz.f228.name,by decide,Tryz.func228.trans (congrArg some (by kernel_rfl))⟩
 f26:=⟨Tryz.f229.name,by decide,Tryz.func229.trans (congrArg some (by kernel_rfl))⟩
 f27:=⟨Tryz.f230.name,by decide,Tryz.func230.trans (congrArg some (by kernel_rfl))⟩
 f28:=Tryz.func231.trans (congrArg some (by kernel_rfl))
 f29:=Tryz.func232.trans (congrArg some (by kernel_rfl))
 f46:=⟨Tryz.f234.name,by decide,Tryz.func234.trans (congrArg some (by kernel_rfl))⟩
 f47:=Tryz.func235.trans (congrArg some (by kernel_rfl))
 f48:=Tryz.func236.trans (congrArg some (by kernel_rfl))
 f49:=⟨Tryz.f237.name,by decide,Tryz.func237.trans (congrArg some (by kernel_rfl))⟩
 f50:=⟨Tryz.f238.name,by decide,Tryz.func238.trans (congrArg some (by kernel_rfl))⟩
 f57:=⟨Tryz.f239.name,by decide,Tryz.func239.trans (congrArg some (by kernel_rfl))⟩
 t0:=Tryz.underlying0
 a0:=Tryz.isAgg0
 z0:=Tryz.sizeOf0
 v0:=Tryz.zeroValue0
 t3:=Tryz.underlying3
 a3:=Tryz.isAgg3
 z3:=Tryz.sizeOf3
 v3:=Tryz.zeroValue3
 t4:=Tryz.underlying4
 a4:=Tryz.isAgg4
 z4:=Tryz.sizeOf4
 v4:=Tryz.zeroValue4
 t5:=Tryz.underlying5
 a5:=Tryz.isAgg5
 z5:=Tryz.sizeOf5
 v5:=Tryz.zeroValue5
 t9:=Tryz.underlying9
 a9:=Tryz.isAgg9
 z9:=Tryz.sizeOf9
 v9:=Tryz.zeroValue9
 t22:=Tryz.underlying237
 a22:=Tryz.isAgg237
 z22:=Tryz.sizeOf237
 v22:=Tryz.zeroValue237
 t25:=Tryz.underlying249
 a25:=Tryz.isAgg249
 z25:=Tryz.sizeOf249
 v25:=Tryz.zeroValue249
 t39:=Tryz.underlying88
 a39:=Tryz.isAgg88
 z39:=Tryz.sizeOf88
 v39:=Tryz.zeroValue88
 t45:=Tryz.underlying264
 a45:=Tryz.isAgg264
 z45:=Tryz.sizeOf264
 v45:=Tryz.zeroValue264
 t46:=Tryz.underlying265
 a46:=Tryz.isAgg265
 z46:=Tryz.sizeOf265
 v46:=Tryz.zeroValue265
 t50:=Tryz.underlying157
 a50:=Tryz.isAgg157
 z50:=Tryz.sizeOf157
 v50:=Tryz.zeroValue157
 t53:=Tryz.underlying49
 a53:=Tryz.isAgg49
 z53:=Tryz.sizeOf49
 v53:=Tryz.zeroValue49
 t55:=Tryz.underlying213
 a55:=Tryz.isAgg213
 z55:=Tryz.sizeOf213
 v55:=Tryz.zeroValue213
 t66:=Tryz.underlying272
 a66:=Tryz.isAgg272
 z66:=Tryz.sizeOf272
 v66:=Tryz.zeroValue272
 t70:=Tryz.underlying276
 a70:=Tryz.isAgg276
 z70:=Tryz.sizeOf276
 v70:=Tryz.zeroValue276
 t76:=Tryz.underlying278
 a76:=Tryz.isAgg278
 z76:=Tryz.sizeOf278
 v76:=Tryz.zeroValue278
 t77:=Tryz.underlying206
 a77:=Tryz.isAgg206
 z77:=Tryz.sizeOf206
 v77:=Tryz.zeroValue206}
end Go.Proofs
