/- Texts packed together by program; spaces struck by program. Conditions: as each theorem states. -/
import Derived.MapKept
import Derived.Test.YtdpadhpcgkjdiaaGreatDoorQyb
set_option linter.all false
set_option maxRecDepth 20000
open _root_ renaming Array→XU,Array.ext'→Xr,Array.replicate→YU,Array.toList_setIfInBounds→Yo,Bool→XS,Bool.and_eq_true→ZG,Bool.eq_iff_iff→Yy,Bool.false→V,Bool.or_eq_true→YB,Bool.true→J,ByteArray→XZ,ByteArray.mk→ZQ,Decidable→Wv,Decidable.decide→K,Decidable.decide→We,DecidableEq→Wt,Function.comp→XK,Go.Addr→X6,Go.Addr.add→Zk,Go.Builtin→Wh,Go.Builtin.append_→ZC,Go.Builtin.nextslicecap→XH,Go.Builtin.zeroCells→Xv,Go.Instr.fill→YL,Go.Instr.lookup→Yn,Go.Instr.makeMap→YP,Go.Instr.mapUpdate→Zo,Go.IntKind→Wc,Go.IntKind.max→YO,Go.MapKept.run_getObj_map→Xy,Go.Op.equalIn→Ym,Go.Oper→Wf,Go.Program→XW,Go.Proofs.Tryz.prog→Zf,Go.Region.ready→ZZ,Go.Result.andThen_ok→Z7,Go.Sem.run_bind→Ya,Go.TypeId→XY,Go.Value→XQ,Go.Value.int→Yw,Go.World→G,Go.World→Wa,Go.convert→Wl,Go.run_underlying→X7,Go.undef→Wb,Go.zeroValue→Wk,Int→H,Int.tdiv→YJ,Int.toNat_natCast→Zl,List→Q,List→Wj,List.Perm.cons→XG,List.append_assoc→Zm,List.append_nil→ZF,List.cons.injEq→Xf,List.cons_append→ZK,List.drop_drop→Yr,List.drop_eq_getElem_cons→Zy,List.drop_of_length_le→ZW,List.drop_zero→Yq,List.ext_getElem→YG,List.ext_getElem?→YT,List.filter_append→Xh,List.flatMap_append→YQ,List.flatMap_cons→Z6,List.flatten_append→XC,List.flatten_cons→Yc,List.getD→YF,List.getD_eq_getElem?_getD→Zn,List.getElem?_append_left→ZO,List.getElem?_append_right→ZJ,List.getElem?_eq_getElem→Zh,List.getElem?_eq_none→Yb,List.getElem?_map→Z0,List.getElem?_range→Yx,List.getElem_cons_succ→Xa,List.getElem_cons_zero→Z4,List.getElem_drop→Xk,List.getElem_mem→Zu,List.getElem_of_mem→ZS,List.getElem_take→YS,List.length→Yg,List.length_append→Zg,List.length_cons→Zp,List.length_drop→ZA,List.length_map→Zq,List.length_nil→ZM,List.length_range→YN,List.length_replicate→ZY,List.length_reverse→Z3,List.length_singleton→ZP,List.length_take→Zz,List.map_append→ZD,List.map_congr_left→Z2,List.map_cons→ZN,List.map_map→YD,List.map_nil→YK,List.map_set→Xu,List.mem_append→Xl,List.mem_append_left→Xz,List.mem_cons→Xs,List.mem_cons_of_mem→Zw,List.mem_cons_self→ZI,List.mem_of_getElem?→Y3,List.mem_of_mem_drop→YI,List.mem_of_mem_take→Yl,List.mem_range→Xb,List.mem_singleton→ZL,List.nil_append→ZT,List.perm_append_comm→ZX,List.perm_middle→Y6,List.range→Zs,List.range_succ→YM,List.replicate→Zi,List.sum_append→YH,List.sum_cons→Xe,List.take_add_one→ZE,List.take_append_drop→Zt,List.take_length→Ye,List.take_of_length_le→Zv,List.take_succ_cons→Yf,List.take_zero→Y0,Min.min→Ws,Nat→I,Nat→Wp,Nat.add_assoc→Yp,Nat.add_mul→YW,Nat.add_zero→Zr,Nat.and_two_pow_sub_one_eq_mod→XD,Nat.beq→YZ,Nat.div_eq_of_lt→Y8,Nat.eq_of_beq_eq_true→Yh,Nat.eq_zero_or_pos→Z8,Nat.le_of_ble_eq_true→Y5,Nat.le_refl→Zx,Nat.le_trans→Yj,Nat.lt_or_ge→Z9,Nat.min_eq_left→Xc,Nat.mod_eq_of_lt→Y7,Nat.mod_lt→Xm,Nat.mul_assoc→XB,Nat.mul_comm→Yi,Nat.mul_le_mul→XI,Nat.mul_le_mul_right→ZR,Nat.mul_one→ZB,Nat.pow_le_pow_right→ZU,Nat.pow_succ→Yu,Nat.reduceAdd→Z1,Nat.strongRecOn→ZV,Nat.sub_self→Xo,Nat.sub_zero→YY,Nat.succ_mul→Yd,Nat.two_pow_add_eq_or_of_lt→YV,Nat.two_pow_pos→Yk,Nat.xor_lt_two_pow→Xj,Nat.zero_add→Zj,Nat.zero_le→Z5,Option→XV,Option.getD_some→YC,Option.isNone→ZH,Option.map_some→YA,Option.none→Z,Option.some→O,Option.some.inj→XN,Prod.mk.injEq→YR,Pure.pure→Wi,absurd→X8,beq_iff_eq→Wd,congrArg→X3,decide_eq_false→X4,decide_eq_true→X5,decide_eq_true_eq→Wg,decide_eq_true_iff→Ww,if_neg→XR,if_pos→XT,of_decide_eq_false→XX,of_decide_eq_true→X0,rfl→U
noncomputable section
namespace Go.Hd
section
open Go.Inc
def qL(n:I):Q I:=if _h:n=0 then[]else qL (n/128)++[128+n%128]
termination_by n
decreasing_by omega
def fS(n:I):Q I:=qL (n/128)++[n%128]
def mF:qL 0=[]:=by rw[qL];simp
def oN{n:I}(h:0<n):qL n=qL (n/128)++[128+n%128]:=by rw[qL,dif_neg Za]
def aeg(n:I):∀x∈qL n,x<256:=by induction n using ZV with|ind n b=>(rcases Z8 n with e|e);{rw[e,mF];simp};rw[oN e];intro x a;(rcases List.mem_append.1 a with h|h);{grind};grind
def Ig(n:I):∀x∈fS n,x<256:=by intro x a;(rcases List.mem_append.1 a with h|h);{exact aeg _ x h};grind
def grow(a v c:I):XV (I×XS):=if v=0∧c=128 then Z else if 128*v+c%128≤a∧(c<128→0<128*v+c%128)then O (128*v+c%128,K (c<128))else Z
def DB{a n:I}(b:0<n)(h:n≤a):grow a (n/128) (128+n%128)=O (n,V):=by unfold grow;have e:128*(n/128)+(128+n%128)%128=n:=Za;rw[XR Za,e,XT ⟨h,λ_=>b⟩,X4 Za]
def grow_end{a n:I}(b:0<n)(h:n≤a):grow a (n/128) (n%128)=O (n,J):=by unfold grow;have e:128*(n/128)+n%128%128=n:=Za;rw[XR Za,e,XT ⟨h,λ_=>b⟩,X5 Za]
def ia{a v c n:I}{d:XS}(b:c<256)(h:grow a v c=O (n,d)):n≤a∧0<n∧n=128*v+c%128∧d=K (c<128):=by unfold grow at h;split at h;{cases h};grind
structure HS where
 at_:Nat
 v:Nat
deriving DecidableEq
def mN(i:I):I:=if i=0 then 0x57 else if i=1 then 0x50 else 1
def bh(s:HS)(c:I):vU HS I I:=if s.at_<3 then if c=mN s.at_ then .more ⟨s.at_+1,0⟩else .bad (if s.at_=2 then 241 else 240)else match grow 65536 s.v c with|none=>.bad 242|some (n,true)=>.fin n|some (n,false)=>.more ⟨3,n⟩
def pQ(n:I):Q I:=[0x57,0x50,1]++fS n
def aff{n:I}(h:n≤65536):run bh ⟨3,0⟩ (qL n)=.short ⟨3,n⟩:=by induction n using ZV with|ind n a=>(rcases Z8 n with e|e);{rw[e,mF];rfl};rw[oN e,lC (a (n/128) Za Za)];refine dK ?_;simp only[bh];rw[XR Zb,DB e h]
def Qb{n:I}(a:0<n)(h:n≤65536)(r:Q I):run bh ⟨0,0⟩ (pQ n++r)=.fin n r:=by unfold pQ fS;rw[Zm,Zm];show run bh ⟨3,0⟩ (qL (n/128)++([n%128]++r))=_;rw[lC (aff Za)];refine Dg ?_;simp only[bh];rw[XR Zb,grow_end a h]
structure MS where
 at_:Nat
 v:Nat
 M:Nat
 P:Nat
 sum:Nat
 many:Nat
deriving DecidableEq
inductive Mk where
 |aw (M P sum:Nat)|tail (sum:Nat)
deriving DecidableEq
def dW:MS:=⟨0,0,0,0,0,0⟩
def aO(n:I)(s:MS)(c:I):vU MS Mk I:=if s.at_=0 then if c=0 then .more ⟨5,0,0,0,0,0⟩else if c=1 then .more ⟨1,0,0,0,0,0⟩else .bad 242 else if s.at_=1 then match grow n s.v c with|none=>.bad 242|some (m,true)=>.more ⟨2,0,m,0,0,0⟩|some (m,false)=>.more ⟨1,m,0,0,0,0⟩else if s.at_=2 then match grow s.M s.v c with|none=>.bad 242|some (p,true)=>.more ⟨3,0,s.M,p,0,0⟩|some (p,false)=>.more ⟨2,p,s.M,0,0,0⟩else if s.many=3 then if s.at_=3 then .fin (.aw s.M s.P (256*s.sum+c))else .fin (.tail (256*s.sum+c))else .more {s with sum:=256*s.sum+c,many:=s.many+1}
def gH(s:I):Q I:=[s/16777216%256,s/65536%256,s/256%256,s%256]
def UK(s:I):∀x∈gH s,x<256:=by intro x a;simp[gH]at a;omega
def lk(M P a:I):Q I:=1::(fS M++fS P++gH a)
def gX(a:I):Q I:=0::gH a
def ad0{n v:I}(h:v≤n):run (aO n) ⟨1,0,0,0,0,0⟩ (qL v)=.short ⟨1,v,0,0,0,0⟩:=by induction v using ZV with|ind v a=>(rcases Z8 v with e|e);{rw[e,mF];rfl};rw[oN e,lC (a (v/128) Za Za)];refine dK ?_;simp only[aO];rw[XR Zb,XT trivial,DB e h]
def aek{n M v:I}(h:v≤M):run (aO n) ⟨2,0,M,0,0,0⟩ (qL v)=.short ⟨2,v,M,0,0,0⟩:=by induction v using ZV with|ind v a=>(rcases Z8 v with e|e);{rw[e,mF];rfl};rw[oN e,lC (a (v/128) Za Za)];refine dK ?_;simp only[aO];rw[XR Zb,XR Zb,XT trivial,DB e h]
def abW{n M:I}(a:0<M)(h:M≤n)(r:Q I):run (aO n) ⟨1,0,0,0,0,0⟩ (fS M++r)=run (aO n) ⟨2,0,M,0,0,0⟩ r:=by unfold fS;rw[Zm,lC (ad0 Za)];refine dK ?_;simp only[aO];rw[XR Zb,XT trivial,grow_end a h]
def adp{n M P:I}(a:0<P)(h:P≤M)(r:Q I):run (aO n) ⟨2,0,M,0,0,0⟩ (fS P++r)=run (aO n) ⟨3,0,M,P,0,0⟩ r:=by unfold fS;rw[Zm,lC (aek Za)];refine dK ?_;simp only[aO];rw[XR Zb,XR Zb,XT trivial,grow_end a h]
def O0{s:I}(h:s<4294967296):256*(256*(256*(256*0+s/16777216%256)+s/65536%256)+s/256%256)+s%256=s:=Za
def abB{n M P s:I}(h:s<4294967296)(r:Q I):run (aO n) ⟨3,0,M,P,0,0⟩ (gH s++r)=.fin (.aw M P s) r:=by show Ran.fin (Mk.aw M P (256*(256*(256*(256*0+s/16777216%256)+s/65536%256)+s/256%256)+s%256)) r=_;rw[O0 h]
def abO{n s:I}(h:s<4294967296)(r:Q I):run (aO n) ⟨5,0,0,0,0,0⟩ (gH s++r)=.fin (.tail s) r:=by show Ran.fin (Mk.tail (256*(256*(256*(256*0+s/16777216%256)+s/65536%256)+s/256%256)+s%256)) r=_;rw[O0 h]
def xe{n M P s:I}(a:0<M)(b:M≤n)(c:0<P)(d:P≤M)(e:s<4294967296)(r:Q I):run (aO n) dW (lk M P s++r)=.fin (.aw M P s) r:=by show run (aO n) ⟨1,0,0,0,0,0⟩ (fS M++fS P++gH s++r)=_;rw[Zm,Zm,abW a b,adp c d,abB e]
def ED{n s:I}(a:s<4294967296)(r:Q I):run (aO n) dW (gX s++r)=.fin (.tail s) r:=by show run (aO n) ⟨5,0,0,0,0,0⟩ (gH s++r)=_;rw[abO a]
end
end Go.Hd
namespace Go.Vc
section
open Go
structure mu (P:XW) {α:Type} [Wt α] (kt:XY) (ke:α→XQ):Prop where
 und:∃d,P.underlying kt=O d∧∀a b,Instr.sameNow d (ke a) (ke b)=Z∨Instr.sameNow d (ke a) (ke b)=O (K (a=b))
 check:∀e a w,(Instr.checkKey e 10000 kt (ke a)).run P w=.ok () w
 eq:∀a b w,(Op.equal kt (ke a) (ke b)).run P w=.ok (K (a=b)) w
 same:∀a,Instr.sameBits 10000 (ke a) (ke a)=J
section
variable{P:XW}{α β:Type}[Wt α]{ke:α→XQ}{ve:β→XQ}{kt:XY}
def im(ke:α→XQ)(ve:β→XQ)(a:Q MapEntry)(l:Q (α×β)):Prop:=a.map (λe=>(e.key,e.val))=l.map λp=>(ke p.1,ve p.2)
def findAt(a:α):Q (α×β)→I→XV (I×β)|[],_=>Z|p::l,i=>if a=p.1 then O (i,p.2)else findAt a l (i+1)
theorem qQ{e:MapEntry}{b:Q MapEntry}{l:Q (α×β)}(h:im ke ve (e::b) l):∃p a,l=p::a∧e.key=ke p.1∧e.val=ve p.2∧im ke ve b a:=by unfold im at h;cases l with|nil=>simp at h|cons p a=>simp only[ZN,Xf,YR]at h;exact⟨p,a,U,h.1.1,h.1.2,h.2⟩
theorem BQ(c:mu P kt ke)(a:α)(w:G):∀(b:Q MapEntry)(l:Q (α×β))(i:I),im ke ve b l→(Instr.findAsking kt (ke a) b i).run P w=.ok ((findAt a l i).map λq=>(q.1,ve q.2)) w|[],l,i,h=>by have:l=[]:=by{unfold im at h;cases l<;>simp at h⊢};subst this;simp[Instr.findAsking,findAt]|e::b,l,i,h=>by obtain⟨p,d,rfl,f,g,j⟩:=qQ h;simp only[Instr.findAsking,Ya,f,c.eq,Z7,findAt];by_cases hq:a=p.1;{simp[hq,g]};simp[hq,BQ c a w b d (i+1) j]
theorem O3{d:TypeDesc}(g:∀a b,Instr.sameNow d (ke a) (ke b)=Z∨Instr.sameNow d (ke a) (ke b)=O (K (a=b)))(a:α):∀(c:Q MapEntry)(l:Q (α×β))(i:I),im ke ve c l→Instr.findNow d (ke a) c i=Z∨Instr.findNow d (ke a) c i=O ((findAt a l i).map λq=>(q.1,ve q.2))|[],l,i,h=>by have:l=[]:=by{unfold im at h;cases l<;>simp at h⊢};subst this;exact .inr rfl|e::c,l,i,h=>by obtain⟨p,j,rfl,k,n,o⟩:=qQ h;unfold Instr.findNow;rw[k];(rcases g a p.1 with f|f);{rw[f];exact .inl rfl};rw[f];by_cases hq:a=p.1;{right;simp[findAt,hq,n]};simp only[hq,decide_false,findAt,if_false];exact O3 g a c j (i+1) o
theorem rA(e:mu P kt ke)(a:α)(w:G)(b:Q MapEntry)(l:Q (α×β))(h:im ke ve b l):(Instr.findKey kt (ke a) b).run P w=.ok ((findAt a l 0).map λq=>(q.1,ve q.2)) w:=by obtain⟨d,f,g⟩:=e.und;simp only[Instr.findKey,Ya,X7 f,Z7];(rcases O3 (ve:=ve) g a b l 0 h with c|c);{rw[c];exact BQ e a w b l 0 h};rw[c];rfl
def ed(a:α)(b:β):Q (α×β)→Q (α×β)|[]=>[(a,b)]|p::l=>if a=p.1 then(a,b)::l else p::ed a b l
theorem wB{a:α}:∀{l:Q (α×β)}{i j:I}{v:β},findAt a l i=O (j,v)→i≤j|[],i,j,v,h=>by simp[findAt]at h|p::l,i,j,v,h=>by unfold findAt at h;split at h;{simp at h;omega};have:=wB h;omega
theorem G2{a:α}{b:β}{f:MapEntry→MapEntry}(g:∀e,e.key=ke a→(f e).key=ke a∧(f e).val=ve b):∀{c:Q MapEntry}{l:Q (α×β)}{i j:I}{v:β},im ke ve c l→findAt a l i=O (i+j,v)→im ke ve (c.modify j f) (ed a b l)|[],l,i,j,v,h,hf2=>by have:l=[]:=by{unfold im at h;cases l<;>simp at h⊢};subst this;simp[findAt]at hf2|e::c,l,i,j,v,h,hf2=>by obtain⟨p,x,rfl,k,o,d⟩:=qQ h;unfold findAt at hf2;unfold ed;by_cases hq:a=p.1;{rw[XT hq]at hf2⊢;have:j=0:=by{simp at hf2;omega};subst this;obtain⟨q,r⟩:=g e (by rw[k,hq]);unfold im at d⊢;simp[Q.modify,q,r,d]};rw[XR hq]at hf2⊢;have s:=wB hf2;obtain⟨j,rfl⟩:∃u,j=u+1:=⟨j-1,Za⟩;have n:=G2 (f:=f) g (i:=i+1) (j:=j) (v:=v) d (by rw[hf2];congr 2;omega);unfold im at n⊢;simp only[Q.modify_succ_cons,ZN,n,k,o]
theorem HL{a:α}:∀{b:Q MapEntry}{l:Q (α×β)}{i j:I}{v:β},im ke ve b l→findAt a l i=O (i+j,v)→∃e,b[j]?=O e∧e.key=ke a|[],l,i,j,v,h,hf2=>by have:l=[]:=by{unfold im at h;cases l<;>simp at h⊢};subst this;simp[findAt]at hf2|e::b,l,i,j,v,h,hf2=>by obtain⟨p,q,rfl,c,r,d⟩:=qQ h;unfold findAt at hf2;by_cases hq:a=p.1;{rw[XT hq]at hf2;have:j=0:=by{simp at hf2;omega};subst this;exact⟨e,rfl,by rw[c,hq]⟩};rw[XR hq]at hf2;have f:=wB hf2;obtain⟨j,rfl⟩:∃g,j=g+1:=⟨j-1,Za⟩;obtain⟨k,n,o⟩:=HL (i:=i+1) (j:=j) (v:=v) d (by rw[hf2];congr 2;omega);exact⟨k,by simpa using n,o⟩
theorem Eu{a:α}{b:β}:∀{l:Q (α×β)}{i:I},findAt a l i=Z→ed a b l=l++[(a,b)]|[],_,_=>rfl|p::l,i,h=>by unfold findAt at h;unfold ed;by_cases hq:a=p.1;{rw[XT hq]at h;cases h};rw[XR hq]at h⊢;rw[Eu h];rfl
end
def iQ{α β:Type}(ke:α→XQ)(ve:β→XQ)(m:XV I)(l:Q (α×β)):HP:=λf=>∃b c a,m=O b∧im ke ve c.toList l∧f=aN.one b (.map c a)
section
variable{P:XW}{α β:Type}[Wt α]{ke:α→XQ}{ve:β→XQ}{kt vt t:XY}{E w:G}{F:Q HP}{m:XV I}{l:Q (α×β)}
theorem Hp.DD(h:Hp E w (iQ ke ve m l::F)):∃b d c,m=O b∧im ke ve d.toList l∧Hp E w (ah b (.map d c)::F):=by obtain⟨f,a,g,k,i,e,⟨b,d,c,j,n,o⟩,p⟩:=h.frag;exact⟨b,d,c,j,n,h.os,h.output,h.tape,f,a,g,k,i,e,o,p⟩
theorem Hp.Mc{b a:I}{c:XU MapEntry}(h:Hp E w (ah b (.map c a)::F))(d:im ke ve c.toList l):Hp E w (iQ ke ve (O b) l::F):=h.Ru λ_ e=>⟨b,c,a,U,d,e⟩
theorem run_makeMap{K:XV I→G→Prop}(h:Hp E w F)(a:∀m w',Hp E w' (iQ ke ve m []::F)→K m w'):av P (YP t Z) kM w K:=by unfold av;have e:(YP t Z).run P w=.ok (.map (O w.heap.size)) (w.alloc (.map #[] 0)):=U;rw[e];exact a _ _ (Hp.Mc (h.alloc _) U)
theorem bR(s:mu P kt ke)(z:P.underlying t=O (.map kt vt)){a:α}{b:β}{K:XQ→G→Prop}(h:Hp E w (iQ ke ve m l::F))(B:∀w',Hp E w' (iQ ke ve m (ed a b l)::F)→K Wb w'):av P (do Zo t (.map m) (ke a) (ve b);Wi Wb) kV w K:=by obtain⟨r,k,c,rfl,n,A⟩:=h.DD;have u:=A.aw;have f:=rA (ve:=ve) s a w k.toList l n;have key:∀g d,(do Zo t (.map (O r)) (ke a) (ve b);Wi Wb:Sem XQ).run P w=.ok Wb {w with heap:=w.heap.setIfInBounds r (.map g d)}→im ke ve g.toList (ed a b l)→av P (do Zo t (.map (O r)) (ke a) (ve b);Wi Wb) kV w K:=by{intro g d C D;unfold av;rw[C];exact B _ (Hp.Mc (A.setObj rfl rfl rfl rfl) D)};cases hf:findAt a l 0 with|none=>rw[hf]at f;refine key (k.push ⟨ke a,ve b,c⟩) (c+1) ?_ ?_;{simp[Zo,X7 z,Xy u,s.check,f,MapKept.run_setObj_map _ u]};rw[Eu hf];unfold im at n⊢;simp[n]|some q=>obtain⟨j,v⟩:=q;rw[hf]at f;have o:(Instr.findKey kt (ke a) k.toList).run P w=.ok (O (j,ve v)) w:=f;have p:((k[j]?).map (·.key)).getD (ke a)=ke a:=by{obtain⟨e,x,y⟩:=HL (ke:=ke) (ve:=ve) n (i:=0) (j:=j) (v:=v) (by simpa using hf);have:k[j]?=O e:=by{simpa using x};rw[this];exact y};refine key (k.modify j λe=>{e with key:=ke a,val:=ve b}) c ?_ ?_;{simp[Zo,X7 z,Xy u,s.check,o,p,Instr.keyThatStays,s.same,MapKept.run_setObj_map _ u]};rw[XU.toList_modify];exact G2 (ke:=ke) (ve:=ve) (a:=a) (b:=b) (λe _=>⟨rfl,rfl⟩) n (i:=0) (j:=j) (v:=v) (by simpa using hf)
theorem BO(c:mu P kt ke)(e:P.underlying t=O (.map kt vt)){a:α}{z:XQ}(g:∀w,(Wk vt).run P w=.ok z w)(h:Hp E w (iQ ke ve m l::F)):(Yn t (.map m) (ke a) J).run P w=.ok (.tuple #[(match findAt a l 0 with|some q=>ve q.2|none=>z),.bool (findAt a l 0).isSome]) w:=by obtain⟨r,i,d,rfl,j,k⟩:=h.DD;have f:=k.aw;have b:=rA (ve:=ve) c a w i.toList l j;cases hf:findAt a l 0 with|none=>rw[hf]at b;simp[Yn,X7 e,Xy f,c.check,b,g]|some q=>rw[hf]at b;simp[Yn,X7 e,Xy f,c.check,b]
end
section
variable{P:XW}{α β:Type}[Wt α]{ke:α→XQ}{ve:β→XQ}{kt vt t ty:XY}{E w:G}{F:Q HP}{m:XV I}{l:Q (α×β)}
theorem JX(c:mu P kt ke)(e:P.underlying t=O (.map kt vt)){a:α}{z:XQ}(g:∀w,(Wk vt).run P w=.ok z w)(h:Hp E w (iQ ke ve m l::F)):(Yn t (.map m) (ke a) V).run P w=.ok (match findAt a l 0 with|some q=>ve q.2|none=>z) w:=by obtain⟨r,i,d,rfl,j,k⟩:=h.DD;have f:=k.aw;have b:=rA (ve:=ve) c a w i.toList l j;cases hf:findAt a l 0 with|none=>rw[hf]at b;simp[Yn,X7 e,Xy f,c.check,b,g]|some q=>rw[hf]at b;simp[Yn,X7 e,Xy f,c.check,b]
end
end
section
def aep{v c:I}(g:v<16777216)(h:c<256):ic .u32 (bq .u32 (v:H) 8) (u32 (c:H))=((256*v+c:I):H):=by have d:YO .u32=4294967295:=U;have e:bq .u32 (v:H) 8=((v*256:I):H):=by{have:=dq (k:=.u32) (a:=v) (b:=8) Zb (by rw[d];omega);simpa using this};have f:v*256|||c=256*v+c:=by{rw[Yi v 256];exact(YV (i:=8) Za v).symm};rw[e,jI Za,ly (by rw[d];omega) (by rw[d];omega) Ze,f]
end
end Go.Vc
namespace Go.Hd
section
open Go.Inc Go.Srt
def uO(s:HS):Prop:=s.at_≤3∧(s.at_<3→s.v=0)∧s.v≤65536
def jg(n:I)(m:MS):Prop:=(m.at_=0∧m=dW)∨(m.at_=1∧m.v≤n∧m.M=0∧m.P=0∧m.sum=0∧m.many=0)∨(m.at_=2∧1≤m.M∧m.M≤n∧m.v≤m.M∧m.P=0∧m.sum=0∧m.many=0)∨(m.at_=3∧1≤m.M∧m.M≤n∧1≤m.P∧m.P≤m.M∧m.v=0∧m.many≤3∧m.sum<256^m.many)∨(m.at_=5∧m.M=0∧m.P=0∧m.v=0∧m.many≤3∧m.sum<256^m.many)
def uj{s b:HS}{c:I}(h:uO s)(d:c<256)(a:bh s c=.more b):uO b:=by unfold bh at a;split at a;{split at a;{cases a;exact⟨by dsimp only;omega,λ_=>rfl,by dsimp only;omega⟩};cases a};split at a;{cases a};{cases a};rename_i n e;cases a;exact⟨by dsimp only;omega,λh=>by dsimp only at h;omega,(ia d e).1⟩
def Ek{s:HS}{c n:I}(b:c<256)(a:bh s c=.fin n):1≤n∧n≤65536:=by unfold bh at a;split at a;{grind};split at a;{cases a};{rename_i n d;cases a;have:=ia b d;omega};cases a
def sV{n:I}{s g:MS}{c:I}(h:jg n s)(f:c<256)(a:aO n s c=.more g):jg n g:=by obtain⟨i,v,M,P,e,b⟩:=s;unfold jg at h;unfold aO at a;dsimp only at h a;split at a;{split at a;{cases a;right;right;right;right;simp};split at a;{cases a;right;left;simp};cases a};split at a;{split at a;{cases a};{rename_i m d;have:=ia f d;cases a;right;right;left;simp;omega};rename_i m d;have:=ia f d;cases a;right;left;simp;omega};split at a;{split at a;{cases a};{rename_i m d;have:=ia f d;cases a;right;right;right;left;simp;omega};rename_i m d;have:=ia f d;cases a;right;right;left;simp;omega};split at a;{grind};cases a;rename_i k;(rcases h with⟨h,_⟩|⟨h,_⟩|⟨h,_⟩|⟨h,j⟩|⟨h,j⟩);{omega};{omega};{omega};{right;right;right;left;simp only;have:256*e+c<256^(b+1):=by{rw[Yu];omega};refine⟨h,?_⟩;omega};right;right;right;right;simp only;have:256*e+c<256^(b+1):=by{rw[Yu];omega};refine⟨h,?_⟩;omega
def qB{n:I}{s:MS}{c:I}{M P u:I}(h:jg n s)(a:aO n s c=.fin (.aw M P u)):1≤M∧M≤n∧1≤P∧P≤M:=by obtain⟨d,v,f,g,e,b⟩:=s;unfold jg at h;unfold aO at a;dsimp only at h a;split at a;{grind};split at a;{split at a<;>cases a};split at a;{grind};grind
end
end Go.Hd
namespace Go.Proofs.Q9
section
open Go Go.Vc Go.Srt Go.Inc Go.Hd
abbrev T2:=H×H×Unit
abbrev hsT(s:HS):H×H×H×H×Unit:=((s.at_:H),(s.v:H),(vm s.v:H),0,())
abbrev msT(m:MS):H×H×H×H×H×H×H×Unit:=((m.at_:H),(m.v:H),(vm m.v:H),(m.M:H),(m.P:H),(m.sum:H),(m.many:H),())
section
variable{E w:G}{F:Q HP}
theorem ac8:Tryz.prog.underlying 3=O (.int .i64):=Zc
theorem oH:mu Zf (α:=H) 3 (λn=>Yw .i64 n)where und:=⟨_,ac8,λa b=>.inr U⟩;check:=λe a w=>by{have:∀(e:XS)(c:H)(w:G),(Instr.checkKey e 10000 3 (.int .i64 c)).run Zf w=.ok () w:=λe c w=>Zc;exact this e a w};eq:=λa b w=>by{exact(run_equalIn_int w 9999 _ _ _ _ _ ac8).trans (by rw[show(a==b)=K (a=b)from U])};same:=λa=>by simp[Instr.sameBits]
theorem eI{a b c:H}{K:XS→G→Prop}(e:K (We (b≤a∧a≤c)) w):Cl Zf [kB] 187 ⟨[.int .i64 a,.int .i64 b,.int .i64 c]⟩ w K:=by refine FF.ok _ _ _ _ _ ?_;(first|refine aa.dm (λd=>?_) (λd=>?_)|refine aa.em (λd=>?_) (λd=>?_)|refine aa.nm (λd=>?_) (λd=>?_)|refine aa.mk (λd=>?_) λd=>?_);{grind};grind
theorem Dn{v:I}{a:H}{K:XS→G→Prop}(h:Hp E w F)(c:v≤65536)(d:(v:H)≤a)(e:∀w',Hp E w' F→K J w'):Cl Zf [kB] 331 ⟨[.agg ⟨[.int .i64 (v:H),.int .i64 (vm v:H)]⟩,.int .i64 a]⟩ w K:=by refine HZ.ok ((v:H),(vm v:H),()) _ _ _ ?_;(try simp only[aj,Zr]);(with_reducible repeat first|refine Nw.mk h λb w h=>?_|refine Ld.xt h U ?_);refine Hx h c λw h=>?_;(with_reducible repeat first|refine Ld.xb h U ?_|refine aa.yes ?_);exact fQ (X5 d) (e _ h.tl)
theorem H9{v c most:I}{K:T2→XS→XS→G→Prop}(h:Hp E w F)(j:v≤most)(l:most≤65536)(g:c<256)(a:grow most v c=Z→∀o d w',Hp E w' F→K o d V w')(i:∀n d,grow most v c=O (n,d)→∀k w',(d=V→k=(vm n:H))→Hp E w' F→K ((n:H),k,()) d J w'):Cl Zf [.st [.int .i64,.int .i64],kB,kB] 258 ⟨[.agg ⟨[.int .i64 (v:H),.int .i64 (vm v:H)]⟩,.int .u8 (c:H),.int .i64 (most:H)]⟩ w K:=by refine Ks.ok ((v:H),(vm v:H),()) _ _ _ _ ?_;(try simp only[aj,Zr]);(with_reducible repeat first|refine Nw.mk h λb w h=>?_|refine Ld.xt h rfl ?_);refine aaJ h Za g (λf w h=>?_) λf w h=>?_;{(with_reducible repeat first|refine Ld.xt h rfl ?_|refine ak.xw h rfl rfl λw h=>?_|refine aa.no ?_);exact a (by unfold grow;rw[XT f]) _ _ _ h.tl};(with_reducible repeat first|refine Ld.xb h rfl ?_|refine Ld.xt h rfl ?_|refine ak.xw h rfl rfl λw h=>?_|refine aa.yes ?_);by_cases hc1:c<128;{rw[X5 hc1];by_cases hle:128*v+c%128≤most;{(with_reducible repeat first|refine Ld.xb h rfl ?_|refine Ld.xt h rfl ?_|refine ak.xw h rfl rfl λw h=>?_|refine aa.no ?_|refine aa.yes ?_);(try simp only[]);(skip);by_cases h0:0<128*v+c%128;{refine fQ (X5 Za) (i _ J ?_ _ _ (λe=>by cases e) h.tl);unfold grow;rw[XR f,XT ⟨hle,λ_=>h0⟩,X5 hc1]};refine fQ (X4 Za) (a ?_ _ _ _ h.tl);unfold grow;rw[XR f,XR λe=>h0 (e.2 hc1)]};(with_reducible repeat first|refine Ld.xt h rfl ?_|refine ak.xw h rfl rfl λw h=>?_|refine aa.no ?_);refine a ?_ _ _ _ h.tl;unfold grow;rw[XR f,XR λe=>hle e.1]};rw[X4 hc1];by_cases hle:128*v+c%128≤most;{(with_reducible repeat first|refine Ld.xt h rfl ?_|refine ak.xw h rfl rfl λw h=>?_|refine aa.yes ?_);(try simp only[]);(skip);refine i _ V ?_ _ _ (λ_=>by rw[K9 Za Za g f]) h.tl;unfold grow;rw[XR f,XT ⟨hle,λe=>X8 e hc1⟩,X4 hc1]};(with_reducible repeat first|refine Ld.xt h rfl ?_|refine ak.xw h rfl rfl λw h=>?_|refine aa.no ?_);refine a ?_ _ _ _ h.tl;unfold grow;rw[XR f,XR λe=>hle e.1]
theorem Tt{s:HS}{K:XS→G→Prop}(h:Hp E w F)(f:uO s)(c:∀w',Hp E w' F→K J w'):Cl Zf [kB] 257 ⟨[.agg ⟨[.int .i64 (s.at_:H),.int .i64 (s.v:H),.int .i64 (vm s.v:H),.int .i64 0]⟩]⟩ w K:=by obtain⟨a,v⟩:=s;obtain⟨g,d,e⟩:=f;dsimp only at g d e⊢;refine Jq.ok ((a:H),(v:H),(vm v:H),0,()) _ _ ?_;(try simp only[aj,Zj,Zr]);(with_reducible repeat first|refine Nw.mk h λb w h=>?_|refine Ld.xb h U ?_);by_cases ha:a=3;{subst ha;(with_reducible repeat first|refine Ld.xt h U ?_|refine aa.yes ?_);refine Dn h e Za λw h=>?_;(with_reducible repeat first|refine Ld.xb h U ?_|refine aa.yes ?_);exact c _ h.tl};(with_reducible repeat first|refine Ld.xb h U ?_|refine aa.no ?_);refine eI ?_;(with_reducible repeat first|refine Ld.xb h U ?_|refine Ld.xt h U ?_|refine aa.yes ?_);have:=d Za;subst this;refine fQ ?_ (c _ h.tl);simp[vm]
theorem aam{s:HS}{c:I}{K:H×H×H×H×Unit→XS→H→G→Prop}(h:Hp E w F)(q:uO s)(r:c<256)(l:∀m w',bh s c=.more m→Hp E w' F→K (hsT m) V 0 w')(t:∀n w',bh s c=.fin n→Hp E w' F→K (4,0,0,(n:H),()) J 0 w')(g:∀e o w',bh s c=.bad e→Hp E w' F→K o V (e:H) w'):Cl Zf [.st [.int .i64,.int .i64,.int .i64,.int .i64],kB,kI] 186 ⟨[.agg ⟨[.int .i64 (s.at_:H),.int .i64 (s.v:H),.int .i64 (vm s.v:H),.int .i64 0]⟩,.int .u8 (c:H)]⟩ w K:=by obtain⟨a,v⟩:=s;obtain⟨p,i,j⟩:=q;dsimp only at p i j⊢;refine JG.ok ((a:H),(v:H),(vm v:H),0,()) _ _ _ ?_;(try simp only[bg,aj,Zj,Zr,dD]);(with_reducible repeat first|refine Nw.mk h λb w h=>?_|refine Ld.xt h rfl ?_);refine Tt (s:=⟨a,v⟩) h ⟨p,i,j⟩ λw h=>?_;(try simp only[XS.not_true,cg]);(with_reducible repeat first|refine Ld.xb h rfl ?_|refine aa.no ?_);by_cases ha:a<3;{have:=i ha;subst this;have u:((lW (ZQ #[87,80,1]) ((a:H)).toNat:H))=((mN a:I):H):=by{rw[Zl];have:a=0∨a=1∨a=2:=by{omega};rcases this with rfl|rfl|rfl<;>rfl};(with_reducible repeat first|refine Ld.xb h rfl ?_|refine aa.yes ?_|refine⟨by first|omega|decide,?_⟩);rw[u];refine⟨by have:(((ZQ #[87,80,1]).size:I):H)=3:=rfl;omega,?_⟩;by_cases hcm:c=mN a;{refine aa.et Za ?_;(with_reducible repeat first|refine Ld.xb h rfl ?_|refine Ld.xt h rfl ?_|refine ak.xw h rfl rfl λw h=>?_);rw[ae Za];exact l ⟨a+1,0⟩ _ (by unfold bh;dsimp only;rw[XT ha,XT hcm]) h.tl};refine aa.ef Za ?_;(with_reducible refine Ld.xb h rfl ?_);by_cases ha2:a=2;{(with_reducible repeat first|refine Ld.xb h rfl ?_|refine Ld.xt h rfl ?_|refine ak.xw h rfl rfl λw h=>?_|refine aa.yes ?_|refine aa.no ?_);exact g 241 _ _ (by unfold bh;dsimp only;rw[XT ha,XR hcm,XT ha2]) h.tl};(with_reducible repeat first|refine Ld.xt h rfl ?_|refine ak.xw h rfl rfl λw h=>?_|refine aa.yes ?_);exact g 240 _ _ (by unfold bh;dsimp only;rw[XT ha,XR hcm,XR ha2]) h.tl};(with_reducible repeat first|refine Ld.xb h rfl ?_|refine Ld.xt h rfl ?_|refine aa.no ?_);refine H9 (most:=65536) h j Za r (λf o d w h=>?_) λn d f k w x h=>?_;{(with_reducible repeat first|refine Nw.mk h λb w h=>?_|refine Ld.xt h rfl ?_|refine ak.xw h rfl rfl λw h=>?_|refine aa.yes ?_);(try simp only[]);(skip);exact g 242 _ _ (by unfold bh;dsimp only;rw[XR ha,f]) h.tl};cases d;{have:=x rfl;subst this;(with_reducible repeat first|refine Nw.mk h λb w h=>?_|refine Ld.xt h rfl ?_|refine ak.xw h rfl rfl λw h=>?_|refine aa.no ?_);(try simp only[]);(skip);exact l ⟨3,n⟩ _ (by unfold bh;dsimp only;rw[XR ha,f]) h.tl};(with_reducible repeat first|refine Nw.mk h λb w h=>?_|refine Ld.xb h rfl ?_|refine Ld.xt h rfl ?_|refine ak.xw h rfl rfl λw h=>?_|refine aa.no ?_|refine aa.yes ?_);(try simp only[]);(skip);exact t n _ (by unfold bh;dsimp only;rw[XR ha,f]) h.tl
theorem O7{s m:I}{K:XS→G→Prop}(c:m≤3)(a:s<256^m)(b:K J w):Cl Zf [kB] 333 ⟨[.int .u32 (s:H),.int .i64 (m:H)]⟩ w K:=by refine Kn.ok _ _ _ _ ?_;refine eI ?_;(with_reducible refine aa.yes ?_);rw[ae Za];refine⟨Za,fQ ?_ b⟩;rw[show(8*(m:H))=((8*m:I):H) by omega,jE (by have:m=0∨m=1∨m=2∨m=3:=by{omega};rcases this with rfl|rfl|rfl|rfl<;>simp at a<;>omega),cr (by have:Wc.bits .u64=64:=rfl;omega),I.pow_mul,Y8 Ze];rfl
theorem TJ{n:I}{m:MS}{K:XS→G→Prop}(h:Hp E w F)(s:1≤n)(q:n≤65536)(k:jg n m)(f:∀w',Hp E w' F→K J w'):Cl Zf [kB] 263 ⟨[.int .i64 (n:H),.agg ⟨[.int .i64 (m.at_:H),.int .i64 (m.v:H),.int .i64 (vm m.v:H),.int .i64 (m.M:H),.int .i64 (m.P:H),.int .u32 (m.sum:H),.int .i64 (m.many:H)]⟩]⟩ w K:=by obtain⟨l,v,M,P,o,g⟩:=m;unfold jg at k;dsimp only at k⊢;refine AD.ok _ ((l:H),(v:H),(vm v:H),(M:H),(P:H),(o:H),(g:H),()) _ _ ?_;(try simp only[bg,aj,Zj,Zr,cg]);(with_reducible repeat first|refine Nw.mk h λb w h=>?_|refine Ld.xb h rfl ?_|refine Ld.xt h rfl ?_|refine ak.xw h rfl rfl λw h=>?_);refine eI ?_;(rcases k with⟨a,d⟩|⟨a,d,i,j,e,c⟩|⟨a,d,i,j,e,c,p⟩|⟨a,d,i,j,e,c,p,r⟩|⟨a,d,i,j,e,c⟩);{cases d;(with_reducible refine aa.no ?_);refine eI ?_;(with_reducible repeat first|refine Ld.xb h rfl ?_|refine Ld.xt h rfl ?_|refine aa.yes ?_|refine aa.no ?_);exact f _ h.tl};{subst a i j e c;(with_reducible refine aa.no ?_);refine eI ?_;(with_reducible repeat first|refine Ld.xb h rfl ?_|refine Ld.xt h rfl ?_|refine aa.yes ?_|refine aa.no ?_);refine Dn h Za Za λw h=>?_;(with_reducible repeat first|refine Ld.xt h rfl ?_|refine aa.yes ?_);refine fQ ?_ (f _ h.tl);simp};{subst a e c p;(with_reducible repeat first|refine Ld.xb h rfl ?_|refine aa.yes ?_);refine eI ?_;(skip);refine eI ?_;(with_reducible repeat first|refine Ld.xb h rfl ?_|refine aa.yes ?_|refine aa.no ?_);refine eI ?_;(with_reducible repeat first|refine Ld.xb h rfl ?_|refine Ld.xt h rfl ?_|refine aa.yes ?_);refine Dn h Za Za λw h=>?_;(with_reducible repeat first|refine Ld.xb h rfl ?_|refine Ld.xt h rfl ?_|refine aa.yes ?_);refine fQ ?_ (f _ h.tl);simp};{subst a c;(with_reducible repeat first|refine Ld.xb h rfl ?_|refine aa.yes ?_);refine eI ?_;rw[X5 (show 1≤(P:H)∧(P:H)≤(M:H) by omega)];refine eI ?_;(with_reducible repeat first|refine Ld.xb h rfl ?_|refine aa.yes ?_|refine aa.no ?_);refine O7 p r ?_;(with_reducible repeat first|refine Ld.xt h rfl ?_|refine aa.yes ?_);exact f _ h.tl};subst a d i j;(with_reducible refine aa.no ?_);refine eI ?_;(with_reducible repeat first|refine Ld.xb h rfl ?_|refine aa.yes ?_|refine aa.no ?_);refine O7 e c ?_;(with_reducible repeat first|refine Ld.xb h rfl ?_|refine Ld.xt h rfl ?_|refine aa.yes ?_);refine fQ ?_ (f _ h.tl);simp[vm]
end
end
end Go.Proofs.Q9
namespace Go.Vc
section
open Go
section
variable{P:XW}{α β:Type}[Wt α]{ke:α→XQ}{ve:β→XQ}{kt vt t:XY}{E w:G}{F:Q HP}{m:XV I}{l:Q (α×β)}
theorem nk.fn{t:Fn}{a b:XU XQ}{K:XS→Prop}(h:K V):nk (.func t a b) K:=h
theorem av.found(b:mu P kt ke)(c:P.underlying t=O (.map kt vt)){a:α}{q:I×β}{z:XQ}{k:Ki}{x:k.T}{K:k.T→G→Prop}(d:∀w,(Wk vt).run P w=.ok z w)(h:Hp E w (iQ ke ve m l::F))(e:findAt a l 0=O q)(f:ve q.2=k.enc x)(g:K x w):av P (Yn t (.map m) (ke a) V) k w K:=by unfold av;rw[JX b c d h,e];dsimp only;rw[f];exact Ki.oR.2 g
end
end
end Go.Vc
namespace Go.Proofs.Q9
section
open Go Go.Vc Go.Srt Go.Inc Go.Hd
abbrev qO:=H×H×H×H×H×H×H×Unit
section
variable{E w:G}{F:Q HP}
def QR(n:I)(m:MS)(c:I)(E:G)(F:Q HP)(K:qO→XS→G→Prop):Prop:=(∀a w',aO n m c=.more a→a.at_≠4→a.at_≠6→Hp E w' F→K (msT a) J w')∧(∀M P u w',aO n m c=.fin (.aw M P u)→Hp E w' F→K (4,0,0,(M:H),(P:H),(u:H),4,()) J w')∧(∀u w',aO n m c=.fin (.tail u)→Hp E w' F→K (6,0,0,0,0,(u:H),4,()) J w')∧(∀e o w',aO n m c=.bad e→e=242→Hp E w' F→K o V w')
theorem adS{n:I}{c:I}{K:qO→XS→G→Prop}(h:Hp E w F)(f:c<256)(d:QR n dW c E F K):Cl Zf [.st [.int .i64,.int .i64,.int .i64,.int .i64,.int .i64,.int .u32,.int .i64],kB] 259 ⟨[.int .i64 (n:H),.agg ⟨[.int .i64 0,.int .i64 0,.int .i64 0,.int .i64 0,.int .i64 0,.int .u32 0,.int .i64 0]⟩,.int .u8 (c:H)]⟩ w K:=by obtain⟨a,_,_,e⟩:=d;refine JB.ok _ (0,0,0,0,0,0,0,()) _ _ _ ?_;(try simp only[aj,Zr]);(with_reducible repeat first|refine Nw.mk h λb w h=>?_|(refine St.xs h rfl rfl λw h=>?_;dsimp only[aL,over]at h));by_cases h0:c=0;{subst h0;(with_reducible repeat first|refine Ld.xt h rfl ?_|refine ak.xw h rfl rfl λw h=>?_|(refine St.xs h rfl rfl λw h=>?_;dsimp only[aL,over]at h)|refine aa.yes ?_);exact a ⟨5,0,0,0,0,0⟩ _ rfl (by dsimp only;decide) (by dsimp only;decide) h.tl};(with_reducible repeat first|refine Ld.xt h rfl ?_|refine ak.xw h rfl rfl λw h=>?_|refine aa.no ?_);by_cases h1:c=1;{subst h1;exact a ⟨1,0,0,0,0,0⟩ _ rfl (by dsimp only;decide) (by dsimp only;decide) h.tl};refine fQ (X4 Za) (e 242 _ _ ?_ rfl h.tl);unfold aO dW;simp[h0,h1]
theorem ac6{n v:I}{c:I}{K:qO→XS→G→Prop}(h:Hp E w F)(g:n≤65536)(i:v≤n)(j:c<256)(p:QR n ⟨1,v,0,0,0,0⟩ c E F K):Cl Zf [.st [.int .i64,.int .i64,.int .i64,.int .i64,.int .i64,.int .u32,.int .i64],kB] 260 ⟨[.int .i64 (n:H),.agg ⟨[.int .i64 1,.int .i64 (v:H),.int .i64 (vm v:H),.int .i64 0,.int .i64 0,.int .u32 0,.int .i64 0]⟩,.int .u8 (c:H)]⟩ w K:=by obtain⟨e,_,_,f⟩:=p;refine Kk.ok _ (1,(v:H),(vm v:H),0,0,0,0,()) _ _ _ ?_;(try simp only[aj,Zj,Zr]);(with_reducible repeat first|refine Nw.mk h λb w h=>?_|refine Ld.xt h rfl ?_);refine H9 h i g j (λa o d w h=>?_) λm d a k w q h=>?_;{(with_reducible repeat first|refine Nw.mk h λb w h=>?_|refine Ld.xt h rfl ?_|refine ak.xw h rfl rfl λw h=>?_|(refine ak.xs h rfl rfl λw h=>?_;dsimp only[aL,over]at h));cases d;{(with_reducible repeat first|refine Ld.xt h rfl ?_|refine ak.xw h rfl rfl λw h=>?_|refine aa.no ?_);exact f 242 _ _ (by unfold aO;simp[a]) rfl h.tl};(with_reducible repeat first|refine Ld.xb h rfl ?_|refine Ld.xt h rfl ?_|refine ak.xw h rfl rfl λw h=>?_|refine aa.yes ?_);exact f 242 _ _ (by unfold aO;simp[a]) rfl h.tl};cases d;{have:=q rfl;subst this;(with_reducible repeat first|refine Nw.mk h λb w h=>?_|refine Ld.xt h rfl ?_|refine ak.xw h rfl rfl λw h=>?_|(refine ak.xs h rfl rfl λw h=>?_;dsimp only[aL,over]at h)|refine aa.no ?_);exact e ⟨1,m,0,0,0,0⟩ _ (by unfold aO;simp[a]) (by dsimp only;decide) (by dsimp only;decide) h.tl};(with_reducible repeat first|refine Nw.mk h λb w h=>?_|refine Ld.xb h rfl ?_|refine Ld.xt h rfl ?_|refine ak.xw h rfl rfl λw h=>?_|(refine ak.xs h rfl rfl λw h=>?_;dsimp only[aL,over]at h)|refine aa.yes ?_);exact e ⟨2,0,m,0,0,0⟩ _ (by unfold aO;simp[a]) (by dsimp only;decide) (by dsimp only;decide) h.tl
theorem aab{n v M:I}{c:I}{K:qO→XS→G→Prop}(h:Hp E w F)(g:M≤65536)(i:v≤M)(j:c<256)(p:QR n ⟨2,v,M,0,0,0⟩ c E F K):Cl Zf [.st [.int .i64,.int .i64,.int .i64,.int .i64,.int .i64,.int .u32,.int .i64],kB] 261 ⟨[.int .i64 (n:H),.agg ⟨[.int .i64 2,.int .i64 (v:H),.int .i64 (vm v:H),.int .i64 (M:H),.int .i64 0,.int .u32 0,.int .i64 0]⟩,.int .u8 (c:H)]⟩ w K:=by obtain⟨e,_,_,f⟩:=p;refine Jp.ok _ (2,(v:H),(vm v:H),(M:H),0,0,0,()) _ _ _ ?_;(try simp only[aj,Zj,Zr]);(with_reducible repeat first|refine Nw.mk h λb w h=>?_|refine Ld.xb h rfl ?_|refine Ld.xt h rfl ?_);refine H9 h i g j (λa o d w h=>?_) λm d a k w q h=>?_;{(with_reducible repeat first|refine Nw.mk h λb w h=>?_|refine Ld.xt h rfl ?_|refine ak.xw h rfl rfl λw h=>?_|(refine ak.xs h rfl rfl λw h=>?_;dsimp only[aL,over]at h));cases d;{(with_reducible repeat first|refine Ld.xt h rfl ?_|refine ak.xw h rfl rfl λw h=>?_|refine aa.no ?_);exact f 242 _ _ (by unfold aO;simp[a]) rfl h.tl};(with_reducible repeat first|refine Ld.xb h rfl ?_|refine Ld.xt h rfl ?_|refine ak.xw h rfl rfl λw h=>?_|refine aa.yes ?_);exact f 242 _ _ (by unfold aO;simp[a]) rfl h.tl};cases d;{have:=q rfl;subst this;(with_reducible repeat first|refine Nw.mk h λb w h=>?_|refine Ld.xt h rfl ?_|refine ak.xw h rfl rfl λw h=>?_|(refine ak.xs h rfl rfl λw h=>?_;dsimp only[aL,over]at h)|refine aa.no ?_);exact e ⟨2,m,M,0,0,0⟩ _ (by unfold aO;simp[a]) (by dsimp only;decide) (by dsimp only;decide) h.tl};(with_reducible repeat first|refine Nw.mk h λb w h=>?_|refine Ld.xb h rfl ?_|refine Ld.xt h rfl ?_|refine ak.xw h rfl rfl λw h=>?_|(refine ak.xs h rfl rfl λw h=>?_;dsimp only[aL,over]at h)|refine aa.yes ?_);exact e ⟨3,0,M,m,0,0⟩ _ (by unfold aO;simp[a]) (by dsimp only;decide) (by dsimp only;decide) h.tl
theorem UP{n a M P e d:I}{c:I}{K:qO→XS→G→Prop}(h:Hp E w F)(g:a=3∨(a=5∧M=0∧P=0))(i:d≤3)(r:e<256^d)(j:c<256)(k:QR n ⟨a,0,M,P,e,d⟩ c E F K):Cl Zf [.st [.int .i64,.int .i64,.int .i64,.int .i64,.int .i64,.int .u32,.int .i64],kB] 262 ⟨[.int .i64 (n:H),.agg ⟨[.int .i64 (a:H),.int .i64 0,.int .i64 0,.int .i64 (M:H),.int .i64 (P:H),.int .u32 (e:H),.int .i64 (d:H)]⟩,.int .u8 (c:H)]⟩ w K:=by obtain⟨o,p,q,s⟩:=k;have f:e<16777216:=by{have:256^d≤256^3:=ZU Zb i;omega};refine Nr.ok _ ((a:H),0,0,(M:H),(P:H),(e:H),(d:H),()) _ _ _ ?_;(try simp only[aj,Zj,Zr,Z1]);(with_reducible repeat first|refine Nw.mk h λb w h=>?_|refine Ld.xb h rfl ?_|(refine St.xs h rfl rfl λw h=>?_;dsimp only[aL,over]at h)|refine⟨by first|omega|decide,?_⟩);rw[ae (x:=(d:H)+1) Za]at h⊢;rw[aep f j]at h;by_cases hm3:d=3;{subst hm3;(with_reducible repeat first|refine Ld.xb h rfl ?_|refine Ld.xt h rfl ?_|refine ak.xw h rfl rfl λw h=>?_|(refine St.xs h rfl rfl λw h=>?_;dsimp only[aL,over]at h)|refine aa.yes ?_);rw[ae Za]at h⊢;(rcases g with rfl|⟨rfl,rfl,rfl⟩);{exact p M P (256*e+c) _ (by unfold aO;simp) h.tl};exact q (256*e+c) _ (by unfold aO;simp) h.tl};(with_reducible repeat first|refine Ld.xt h rfl ?_|refine ak.xw h rfl rfl λw h=>?_|refine aa.no ?_);refine o ⟨a,0,M,P,256*e+c,d+1⟩ _ ?_ ?_ ?_ h.tl;{unfold aO;rcases g with rfl|⟨rfl,rfl,rfl⟩<;>simp[hm3]};{dsimp only;omega};dsimp only;omega
theorem ym:Tryz.prog.underlying 364=O (.map 3 365):=Zc
theorem Rg(w:G):(Wk 365).run Zf w=.ok .nilFunc w:=Zc
abbrev fv(i:I):XQ:=.func (.func i) ⟨[]⟩ ⟨[]⟩
theorem Lv{n:I}{m:MS}{c:I}{K:qO→XS→H→G→Prop}(h:Hp E w F)(hn:1≤n)(L:n≤65536)(Y:jg n m)(N:c<256)(p:∀A w',aO n m c=.more A→Hp E w' F→K (msT A) V 0 w')(R:∀M P u w',aO n m c=.fin (.aw M P u)→Hp E w' F→K (4,0,0,(M:H),(P:H),(u:H),4,()) J 0 w')(r:∀u w',aO n m c=.fin (.tail u)→Hp E w' F→K (6,0,0,0,0,(u:H),4,()) J 0 w')(S:∀e o w',aO n m c=.bad e→Hp E w' F→K o V (e:H) w'):Cl Zf [.st [.int .i64,.int .i64,.int .i64,.int .i64,.int .i64,.int .u32,.int .i64],kB,kI] 188 ⟨[.int .i64 (n:H),.agg ⟨[.int .i64 (m.at_:H),.int .i64 (m.v:H),.int .i64 (vm m.v:H),.int .i64 (m.M:H),.int .i64 (m.P:H),.int .u32 (m.sum:H),.int .i64 (m.many:H)]⟩,.int .u8 (c:H)]⟩ w K:=by have d:∀(q:I)(i:I),findAt (m.at_:H) [((0:H),fv 259),(1,fv 260),(2,fv 261),(3,fv 262),(5,fv 262)] 0=O (q,fv i)→nN Zf i=J→(∀(s:Q HP)(w:G)(K':qO→XS→G→Prop),Hp E w s→QR n m c E s K'→Cl Zf [.st [.int .i64,.int .i64,.int .i64,.int .i64,.int .i64,.int .u32,.int .i64],kB] i ⟨[.int .i64 (n:H),.agg ⟨[.int .i64 (m.at_:H),.int .i64 (m.v:H),.int .i64 (vm m.v:H),.int .i64 (m.M:H),.int .i64 (m.P:H),.int .u32 (m.sum:H),.int .i64 (m.many:H)]⟩,.int .u8 (c:H)]⟩ w K')→Cl Zf [.st [.int .i64,.int .i64,.int .i64,.int .i64,.int .i64,.int .u32,.int .i64],kB,kI] 188 ⟨[.int .i64 (n:H),.agg ⟨[.int .i64 (m.at_:H),.int .i64 (m.v:H),.int .i64 (vm m.v:H),.int .i64 (m.M:H),.int .i64 (m.P:H),.int .u32 (m.sum:H),.int .i64 (m.many:H)]⟩,.int .u8 (c:H)]⟩ w K:=by{intro q i hq T y;refine AT.ok _ (msT m) _ _ _ ?_;(try simp only[aj,Zr]);refine Nw.mk h λW w h=>Nw.mk h λb7 w h=>?_;refine run_makeMap (ke:=λn:H=>Yw .i64 n) (ve:=λv:XQ=>v) h λmp w h=>?_;refine bR (ke:=λn:H=>Yw .i64 n) (ve:=λv:XQ=>v) (l:=_) oH ym (a:=0) (b:=fv 259) h λw h=>?_;refine bR (ke:=λn:H=>Yw .i64 n) (ve:=λv:XQ=>v) (l:=_) oH ym (a:=1) (b:=fv 260) h λw h=>?_;refine bR (ke:=λn:H=>Yw .i64 n) (ve:=λv:XQ=>v) (l:=_) oH ym (a:=2) (b:=fv 261) h λw h=>?_;refine bR (ke:=λn:H=>Yw .i64 n) (ve:=λv:XQ=>v) (l:=_) oH ym (a:=3) (b:=fv 262) h λw h=>?_;refine bR (ke:=λn:H=>Yw .i64 n) (ve:=λv:XQ=>v) (l:=_) oH ym (a:=5) (b:=fv 262) h λw h=>?_;rw[show ed (5:H) (fv 262) (ed 3 (fv 262) (ed 2 (fv 261) (ed 1 (fv 260) (ed 0 (fv 259) []))))=[((0:H),fv 259),(1,fv 260),(2,fv 261),(3,fv 262),(5,fv 262)]from rfl]at h;(with_reducible refine Ld.xb h rfl ?_);refine av.found (ke:=λn:H=>Yw .i64 n) (ve:=λv:XQ=>v) oH ym (a:=(m.at_:H)) (x:=fv i) Rg h hq rfl ?_;refine nk.fn ?_;have h:=h.drop;(with_reducible repeat first|refine Ld.xt h rfl ?_|refine aa.no ?_);refine TJ h hn L Y λw h=>?_;(with_reducible repeat first|refine Ld.xt h rfl ?_|refine aa.no ?_);refine cW.mk T (y _ _ _ h ⟨λA w f g B h=>?_,λM P u w f h=>?_,λu w f h=>?_,λe o w f g h=>?_⟩);{(with_reducible repeat first|refine ak.xw h rfl rfl λw h=>?_|refine aa.no ?_);have h:=h.drew (n:=w.drawn+1);refine⟨bS W _ _ _,h.hb,?_⟩;(with_reducible repeat first|refine ay.xb (λ_ h=>h) rfl ?_|refine ay.xt (λ_ h=>h) rfl ?_);refine aa.ef (show¬(A.at_:H)=4 by omega) ?_;(with_reducible repeat first|refine Ld.xt h rfl ?_|refine ay.xb (λ_ h=>h) rfl ?_|refine⟨h.hb,?_⟩|refine ak.xw h rfl rfl λw h=>?_);have e6:((A.at_:H)==6)=V:=beq_eq_false_iff_ne.2 Za;have j:=p A _ f h.tl;rw[←e6]at j;exact j};{(with_reducible repeat first|refine ak.xw h rfl rfl λw h=>?_|refine aa.no ?_);have h:=h.drew (n:=w.drawn+1);refine⟨bS W _ _ _,h.hb,?_⟩;(with_reducible repeat first|refine Ld.xt h rfl ?_|refine ay.xb (λ_ h=>h) rfl ?_|refine ay.xt (λ_ h=>h) rfl ?_|refine⟨h.hb,?_⟩|refine ak.xw h rfl rfl λw h=>?_|refine aa.yes ?_);exact R M P u _ f h.tl};{(with_reducible repeat first|refine ak.xw h rfl rfl λw h=>?_|refine aa.no ?_);have h:=h.drew (n:=w.drawn+1);refine⟨bS W _ _ _,h.hb,?_⟩;(with_reducible repeat first|refine Ld.xt h rfl ?_|refine ay.xb (λ_ h=>h) rfl ?_|refine ay.xt (λ_ h=>h) rfl ?_|refine⟨h.hb,?_⟩|refine ak.xw h rfl rfl λw h=>?_|refine aa.no ?_);exact r u _ f h.tl};(with_reducible repeat first|refine Ld.xt h rfl ?_|refine ak.xw h rfl rfl λw h=>?_|refine aa.yes ?_);subst g;exact S 242 _ _ f h.tl};obtain⟨at_,v,M,P,sum,many⟩:=m;have z:=Y;unfold jg at z;dsimp only at z;(rcases z with⟨f,g⟩|⟨f,g,B,C,D,j⟩|⟨f,g,B,C,D,j,X⟩|⟨f,g,B,C,D,j,X,h8⟩|⟨f,g,B,C,D,j⟩);{cases g;exact d 0 259 rfl Zc λs w K' h k=>adS h N k};{subst f B C D j;exact d 1 260 rfl Zc λs w K' h k=>ac6 h L g N k};{subst f D j X;exact d 2 261 rfl Zc λs w K' h k=>aab (M:=M) h Za C N k};{subst f j;exact d 3 262 rfl Zc λs w K' h k=>UP h (.inl rfl) X h8 N k};subst f g B C;exact d 4 262 rfl Zc λs w K' h k=>UP h (.inr ⟨rfl,rfl,rfl⟩) D j N k
end
end
end Go.Proofs.Q9
namespace Go.Pol
section
def layout(n side mode:I):Q I:=if side=1 then(if mode=3 then[n,n,4*Ws (n+1) 1024]else[n])else if mode=3 then[n,4*(n+1)]else if mode=2 then[n,1024*(n/1024)]else[n,1024*(n/8192)]
def nD(n side mode:I):Prop:=(side=1∨side=2)∧1≤mode∧mode≤3∧1≤n∧n≤65536
instance(n side mode:I):Wv (nD n side mode):=by unfold nD;infer_instance
def aK(n side mode:I):I:=(layout n side mode).sum
def az(a n side:I):I:=if aK n side 3≤a then 3 else if aK n side 2≤a then 2 else if aK n side 1≤a then 1 else 0
def nw{budget n side:I}(h:az budget n side≠0):aK n side (az budget n side)≤budget∧1≤az budget n side∧az budget n side≤3:=by unfold az at h⊢;by_cases h3:aK n side 3≤budget;{grind};grind
def MK(n side:I)(a:side=1∨side=2):aK n side 1≤aK n side 2∧aK n side 2≤aK n side 3:=by(rcases a with rfl|rfl);{simp[aK,layout]};simp[aK,layout];omega
def PM{budget n side:I}(a:side=1∨side=2):az budget n side=0↔budget<aK n side 1:=by have:=MK n side a;unfold az;constructor;{grind};grind
def places:I→Q I→Q (I×I)|_,[]=>[]|a,k::l=>(a,k)::places (a+k) l
end
end Go.Pol
namespace Go.Vc
section
open Go
def oA{α β:Type}[Wt α]{a k:α}{b:β}:∀(l:Q (α×β))(i:I),(findAt k (ed a b l) i).map (·.2)=if k=a then O b else(findAt k l i).map (·.2)|[],i=>by unfold ed findAt;by_cases h:k=a;{rw[XT h,XT h];rfl};rw[XR h,XR h];rfl|p::l,i=>by unfold ed;by_cases h:a=p.1;{rw[XT h];unfold findAt;by_cases hk:k=a;{rw[XT hk,XT (by rw[hk])];rfl};rw[XR hk,XR (by first|exact hk|(rw[←h];exact hk)),XR (by rw[←h];exact hk)]};rw[XR h];unfold findAt;by_cases hk:k=p.1;{rw[XT hk,XT hk];by_cases hka:k=a;{exact X8 (hka.symm.trans hk) h};rw[XR hka]};rw[XR hk,XR hk];exact oA l (i+1)
end
end Go.Vc
namespace Go.Proofs.Q9
section
open Go Go.Vc Go.Pol
set_option maxRecDepth 100000
abbrev N1:XY:=225
def rq:XU Wf:=P5 (vW (Tryz.f135.body.getD .skip) [J,J,V])
def Lk(j:I):I:=[3,6,8,10,12,14].getD j 0
def zq(j:I):H×H:=[((1:H),(1:H)),(1,2),(1,3),(2,1),(2,2),(2,3)].getD j (0,0)
def fnP(j:I):I:=[195,195,196,197,198,199].getD j 0
def vP(j:I):XQ:=.func (.func (fnP j)) ⟨[]⟩ ⟨[]⟩
def pL(a:H×H):XQ:=.agg ⟨[.int .u8 a.1,.int .u8 a.2]⟩
def gP(T r:I):XS:=I.blt r 15&&(match[3,6,8,10,12,14].findIdx? (YZ r)with|some j=>YZ (T/2^j%2) 1|none=>J)
def LP(T:I):XU XS:=⟨(Zs 17).map (gP T)⟩
def KZ(T:I):Q I:=((Zs 6).filter λj=>YZ (T/2^j%2) 0).map Lk
def Jb(T:I):I:=((Zs 6).filter λj=>YZ (T/2^j%2) 0).length
def abN(T:I):XS:=(ZZ .any rq (LP T)==KZ T)&&((KZ T).find? (iu Pg rq (LP T))).isNone&&((Zs 6).all λj=>YZ (T/2^j%2) 1||(((LP T).setIfInBounds (Lk j) J).toList==(LP (T+2^j)).toList&&YZ (Jb (T+2^j)+1) (Jb T)&&I.blt (T+2^j) 64&&(Zs 6).all λi=>YZ i j||(YZ ((T+2^j)/2^i%2) 1==YZ (T/2^i%2) 1)))
def aa0:((Zs 63).all abN)=J:=Zc
def f0P:AF:=br (br (kN [] 12) 0 (O (.map Z))) 1 (O (.func (.func 195) ⟨[]⟩ ⟨[]⟩))
def Ew(m:XV I):AF:=br (br (br (br (br (br (br (br (br f0P 3 (O (pL (1,1)))) 4 (O (vP 0))) 5 (O (pL (1,2)))) 6 (O (vP 0))) 7 (O (pL (1,3)))) 8 (O (pL (2,1)))) 9 (O (pL (2,2)))) 10 (O (pL (2,3)))) 2 (O (.map m))
structure LZ (T:I) (l:Q ((H×H)×XQ)):Prop where
 has:∀i,i<6→(findAt (zq i) l 0).map (·.2)=if T/2^i%2=1 then O (vP i)else Z
 no:∀k,(∀i,i<6→k≠zq i)→(findAt k l 0).map (·.2)=Z
def adB:∀i,i<6→∀j,j<6→zq i=zq j→i=j:=Zb
structure StP (T j:I):Prop where
 set:(LP T).setIfInBounds (Lk j) J=LP (T+2^j)
 cz:Jb (T+2^j)+1=Jb T
 lt:T+2^j<64
 bit:∀i,i<6→i≠j→((T+2^j)/2^i%2=1↔T/2^i%2=1)
 one:(T+2^j)/2^j%2=1
def U5{T:I}(r:T<63):ZZ .any rq (LP T)=KZ T∧(KZ T).find? (iu Pg rq (LP T))=Z∧∀j,j<6→T/2^j%2=0→StP T j:=by have c:=List.all_eq_true.1 aa0 T Ze;unfold abN at c;simp only[ZG]at c;obtain⟨⟨f,g⟩,k⟩:=c;refine⟨eq_of_beq f,Option.isNone_iff_eq_none.1 g,λj s l=>?_⟩;have h:=List.all_eq_true.1 k j Ze;rw[l]at h;simp only[YB,ZG]at h;obtain⟨⟨⟨m,n⟩,o⟩,p⟩:=h.resolve_left Zb;refine⟨Xr (eq_of_beq m),Yh n,Y5 o,λi t d=>?_,?_⟩;{have:=List.all_eq_true.1 p i Ze;simp only[YB]at this;have:=eq_of_beq (this.resolve_left λq=>d (Yh q));have e:∀a b:I,YZ a b=J↔a=b:=λa b=>⟨Yh,λh=>by rw[h];exact I.beq_refl b⟩;have:=X3 (·=J) this;simp only[eq_iff_iff,e]at this;exact this};rw[I.add_div_right _ (Yk j)];omega
def LZ.br{T j:I}{l:Q ((H×H)×XQ)}(h:LZ T l)(d:j<6)(f:StP T j):LZ (T+2^j) (ed (zq j) (vP j) l):=by refine⟨λi c=>?_,λk a=>?_⟩;{rw[oA];by_cases e:i=j;{subst e;rw[XT U,XT f.one]};rw[XR λa=>e (adB i c j d a),h.has i c];have:=f.bit i c e;by_cases b:T/2^i%2=1;{grind};grind};rw[oA,XR (a j d)];exact h.no k a
def aaw{T r:I}(h:r∈KZ T):∃j,j<6∧T/2^j%2=0∧r=Lk j:=by obtain⟨j,a,rfl⟩:=List.mem_map.1 h;obtain⟨b,c⟩:=List.mem_filter.1 a;exact⟨j,by simpa using b,Yh c,rfl⟩
def acS:((Zs 63).all λT=>!(KZ T).isEmpty)=J:=Zc
def abm:((Zs 64).all λT=>YZ T 63||I.blt 0 (Jb T))=J:=Zc
section
variable{E w:G}{F:Q HP}
theorem adN:Tryz.prog.underlying N1=O (.map 228 223):=Zc
theorem HH:mu Zf (α:=H×H) 228 pL where und:=⟨_,U,λa b=>.inl U⟩;check:=λe a w=>by{have:∀(e:XS)(c d:H)(w:G),(Instr.checkKey e 10000 228 (.agg ⟨[.int .u8 c,.int .u8 d]⟩)).run Zf w=.ok () w:=λe c d w=>Zc;exact this e a.1 a.2 w};eq:=λa b w=>by{have f:∀c n d m:H,qg Zf 8 228 (.agg ⟨[.int .u8 c,.int .u8 n]⟩) (.agg ⟨[.int .u8 d,.int .u8 m]⟩) (λr=>r=((c==d)&&(n==m))):=λc n d m=>by{have e:qg Zf 8 228 (.agg ⟨[.int .u8 c,.int .u8 n]⟩) (.agg ⟨[.int .u8 d,.int .u8 m]⟩) (λr=>r=((c==d)&&(n==m)))=(((c==d)&&(n==m))=((c==d)&&(n==m))):=by{kernel_rfl};rw[e]};obtain⟨r,g,h⟩:=lz 8 _ _ _ _ (f a.1 a.2 b.1 b.2);have:=g 10000 Zb w;have e:K (a=b)=((a.1==b.1)&&(a.2==b.2)):=by{rw[Yy];simp[Prod.ext_iff]};rw[e,←h];exact this};same:=λa=>by unfold pL Instr.sameBits;simp[Instr.sameBits]
theorem aft{S:G→Prop}{J:XU XS→AF→G→Prop}{L:XU XS}{m:XV I}:∀j,j<6→DI Pg rq S J L (Ew m) w (Lk j)=av Pg (do Zo N1 (.map m) (pL (zq j)) (vP j);Wi Wb) kV w λ_ w'=>S w'∧J (L.setIfInBounds (Lk j) true) (Ew m) w'|0,_=>Zc|1,_=>Zc|2,_=>Zc|3,_=>Zc|4,_=>Zc|5,_=>Zc|j+6,h=>Za
theorem afd{S:G→Prop}{K:AF→G→Prop}{m:XV I}:aY Pg rq S K 2 (LP 63) (Ew m) w=K (br (br (Ew m) 11 (O (.map m))) 0 (O (.map m))) w:=Zc
theorem afw{K:AF→G→Prop}{m:XV I}:∀(n T:I)(l:Q ((H×H)×XQ))(w:G),Jb T=n→T<64→LZ T l→Hp E w (iQ pL (λv:XQ=>v) m l::F)→(∀k w',LZ 63 k→Hp E w' (iQ pL (λv:XQ=>v) m k::F)→K (br (br (Ew m) 11 (O (.map m))) 0 (O (.map m))) w')→aY Pg rq (λ_=>True) K (n+2) (LP T) (Ew m) w:=by intro n;induction n with|zero=>intro T l w b o c h d;have f:T=63:=by{have:=List.all_eq_true.1 abm T Ze;rw[b]at this;simp only[YB]at this;exact Yh (this.resolve_right Zb)};subst f;rw[afd];exact d l w c h|succ n p=>intro T l w b o c h d;have g:T<63:=by{(rcases Z9 T 63 with q|q);{exact q};have:T=63:=by{omega};subst this;exact X8 b (by rw[show Jb 63=0 from Zb];omega)};obtain⟨s,t,u⟩:=U5 g;refine gA (Ac s (λe=>?_) t λr x=>?_);{have:=List.all_eq_true.1 acS T Ze;rw[e]at this;exact X8 this Zb};obtain⟨j,i,y,rfl⟩:=aaw x;have a:=u j i y;rw[aft j i,a.set];refine bR (ke:=pL) (ve:=λv:XQ=>v) HH adN h λw h=>⟨trivial,p _ _ _ (by have:=a.cz;omega) a.lt (c.br i a) h d⟩
theorem abH{S:G→Prop}{K:AF→G→Prop}:aY Pg rq S K 17 (YU 17 V) f0P w=av Pg (YP N1 Z) kM w λm w'=>S w'∧aY Pg rq S K 8 (LP 0) (Ew m) w':=Zc
theorem PT{K:XV I→G→Prop}(h:Hp E w F)(a:∀m l w',LZ 63 l→Hp E w' (iQ pL (λv:XQ=>v) m l::F)→K m w'):Cl Zf [kM] 135 ⟨[]⟩ w K:=by refine qW Tryz.mix (F:=dI w λS w'=>aY Pg rq S (λf w=>Ao Pg [.tmp 0] [kM] K .ret f w) 17 (YU 17 V) f0P w') Tryz.f135 [] [kM] K 12 [.tmp 0] Zc Zc Zc Zc Zc (.s .o (.s .o (.s .o .o))) Zc ?_;have h:=h.drew (n:=w.drawn+1);refine⟨λ_=>True,trivial,?_⟩;dsimp only;rw[abH];refine run_makeMap (ke:=pL) (ve:=λv:XQ=>v) h λm w h=>⟨trivial,?_⟩;refine afw 6 0 [] w U Zb ⟨λi c=>?_,λk d=>rfl⟩ h λl w b h=>?_;{rw[I.zero_div,XR Zb];rfl};have e:Ao Pg [.tmp 0] [kM] K .ret (br (br (Ew m) 11 (O (.map m))) 0 (O (.map m))) w=K m w:=Zc;rw[e];exact a m l w b h
end
end
section
open Go Go.Vc
set_option maxRecDepth 100000
def Kh.ok(a:H)(b:H)(R:H→H→G→Prop) w(h:Cl Pg [kI,kI] 34 ⟨[(ni a),(.int .u8 b),(.int .u8 1)]⟩ w λ(d:H)(e:H) c=>R d e c):Cl Pg [kI,kI] 14 ⟨[(ni a),(.int .u8 b)]⟩ w R:=co Tryz.f14 [] h
def NK.ok(a:H)(b:H)(c:H)(R:H→H→G→Prop) w(h:Cl Pg [kI,kI] 14 ⟨[(ni b),(.int .u8 c)]⟩ w λ(e:H)(f:H) d=>aI (λ(h:G)=>aa (K (a<e)) (R 0 230 h) (de 1 1 h λi j(k:H)(l:H) m=>aa (K (l≤3)) (Cl Pg [kI,kI] 34 ⟨[(ni b),(.int .u8 c),(.int .u8 l)]⟩ m λ(o:H)(p:H) n=>aa (K (o≤a)) (i l (u8 (l+1)) n∧j l (u8 (l+1)) n<j k l m) (i k (u8 (l+1)) n∧j k (u8 (l+1)) n<j k l m)) (R k 0 m))) λg=>aa (f !=0) (R 0 2 d) (aa (K (a<1)) (R 0 2 d) (aa (K (a>1048576)) (R 0 2 d) (g d)))):Cl Pg [(au .u8),kI] 23 ⟨[(ni a),(ni b),(.int .u8 c)]⟩ w R:=co Tryz.f23 [(4,[]),(19,[(10,(au .u8)),(11,(au .u8))])] h
def ND.ok(a:H)(b:H)(c:H)(R:H→H→G→Prop) w(h:Cl Pg [kS,kI] 69 ⟨[(ni a),(.int .u8 b),(.int .u8 c)]⟩ w λ(e:Sl)(f:H) d=>de 0 0 d λg h(i:H)(j:H) k=>aa (K (j<(e.len:H))) (ax e j 1 λl=>Ld kI l k λ(m:H)=>g (i64 (i+m)) (i64 (j+1)) k∧h (i64 (i+m)) (i64 (j+1)) k<h i j k) (R i f k)):Cl Pg [kI,kI] 34 ⟨[(ni a),(.int .u8 b),(.int .u8 c)]⟩ w R:=co Tryz.f34 [(9,[(10,kI),(11,kI)])] h
def Gj.ok(a:H)(b:H)(c:H)(R:Sl→H→G→Prop) w(h:aI (λ(e:G)=>aa (b==1) (aa (c==3) (Nw 3 ⟨[(ni a),(ni a),(ni (i64 ((4:H)*(if(1024:H)<(i64 (a+1))then(1024:H)else(i64 (a+1))))))]⟩ e λg f=>R (⟨O ⟨g,0,Z⟩,3,3⟩:Sl) 0 f) (Nw 3 ⟨[(ni a)]⟩ e λi h=>R (⟨O ⟨i,0,Z⟩,1,1⟩:Sl) 0 h)) (aa (c==1) ((8192:H)≠0∧Nw 3 ⟨[(ni a),(ni (i64 ((1024:H)*(i64 (YJ a (8192:H))))))]⟩ e λk j=>R (⟨O ⟨k,0,Z⟩,2,2⟩:Sl) 0 j) (aa (c==2) ((1024:H)≠0∧Nw 3 ⟨[(ni a),(ni (i64 ((1024:H)*(i64 (YJ a (1024:H))))))]⟩ e λm l=>R (⟨O ⟨m,0,Z⟩,2,2⟩:Sl) 0 l) (Nw 3 ⟨[(ni a),(ni (i64 ((4:H)*(i64 (a+1)))))]⟩ e λo n=>R (⟨O ⟨o,0,Z⟩,2,2⟩:Sl) 0 n)))) λd=>aa (K (a<1)) (R (⟨Z,0,0⟩:Sl) 2 w) (aa (K (a>65536)) (R (⟨Z,0,0⟩:Sl) 2 w) (aa (b !=1) (aa (b !=2) (R (⟨Z,0,0⟩:Sl) 2 w) (aa (K (c<1)) (R (⟨Z,0,0⟩:Sl) 2 w) (aa (K (c>3)) (R (⟨Z,0,0⟩:Sl) 2 w) (d w)))) (aa (K (c<1)) (R (⟨Z,0,0⟩:Sl) 2 w) (aa (K (c>3)) (R (⟨Z,0,0⟩:Sl) 2 w) (d w)))))):Cl Pg [kS,kI] 69 ⟨[(ni a),(.int .u8 b),(.int .u8 c)]⟩ w R:=co Tryz.f69 [(2,[])] h
def B5.ok(a:(XU XQ))(R:(XU XQ)→H→G→Prop) w(h:Nw 172 a w λc b=>Nw 262 ⟨Zi 258 (.int .u32 0)⟩ b λe d=>Ld (.arr 258) ⟨c,0,Z⟩ d λf=>Cl Pg [kB] 295 ⟨[(.agg f)]⟩ d λ(h:XS) g=>aa (! h) (Ld (.arr 258) ⟨e,0,Z⟩ g λi=>aA 258 ⟨e,0,Z⟩ i g λj=>Ld (.arr 258) ⟨e,0,Z⟩ j λk=>R k 2 j) (Ld (.arr 258) ⟨c,0,Z⟩ g λl=>Cl Pg [kS] 296 ⟨[(.agg l)]⟩ g λ(n:Sl) m=>LS 0 0 0 m λo p(q:H)(r:H)(s:H) t=>aa (K (s<(n.len:H))) (ax n s 1 λu=>Ld kI u t λ(v:H)=>aH ⟨c,0,Z⟩ 258 v 1 λx=>Ld (au .u8) x t λ(y:H)=>0≤(u8 (y-r))∧dI t λz D=>aH ⟨c,0,Z⟩ 258 v 1 λE=>ay (au .u8) E z λ(B:H)=>aH ⟨e,0,Z⟩ 258 v 1 λF=>St F (.int .u32 (bq .u32 q (u8 (y-r)))) D λA=>z A∧o (u32 ((bq .u32 q (u8 (y-r)))+1)) B (i64 (s+1)) A∧p (u32 ((bq .u32 q (u8 (y-r)))+1)) B (i64 (s+1)) A<p q r s t) (Ld (.arr 258) ⟨e,0,Z⟩ t λI=>aA 258 ⟨e,0,Z⟩ I t λC=>Ld (.arr 258) ⟨e,0,Z⟩ C λL=>R L 0 C))):Cl Pg [(.arr 258),kI] 218 ⟨[(.agg a)]⟩ w R:=co Tryz.f218 [(12,[(4,(au .u32)),(5,(au .u8)),(15,kI)])] h
def Ca.ok(a:(XU XQ))(R:XS→G→Prop) w(h:Nw 172 a w λc b=>Ld (.arr 258) ⟨c,0,Z⟩ b λd=>Cl Pg [kB] 348 ⟨[(.agg d)]⟩ b λ(f:XS) e=>R f e):Cl Pg [kB] 295 ⟨[(.agg a)]⟩ w R:=co Tryz.f295 [] h
def AJ.ok(a:(XU XQ))(R:Sl→G→Prop) w(h:Nw 172 a w λc b=>Ld (.arr 258) ⟨c,0,Z⟩ b λd=>Cl Pg [kB] 295 ⟨[(.agg d)]⟩ b λ(f:XS) e=>aa (! f) (R (⟨Z,0,0⟩:Sl) e) (Ld (.arr 258) ⟨c,0,Z⟩ e λg=>de (⟨Z,0,0⟩:Sl) 0 e λh i(j:Sl)(k:H) l=>aa (K (k<258)) (fg (.int .u8) g 258 k λ(m:H)=>aa (K (m>0)) (Nw 3 ⟨[(ni k)]⟩ l λo n=>av Pg (ZC #[25,25] 25 ⟨[(ag j),(ag (⟨O ⟨o,0,Z⟩,1,1⟩:Sl))]⟩) kS n λ(q:Sl) p=>h q (i64 (k+1)) p∧i q (i64 (k+1)) p<i j k l) (h j (i64 (k+1)) l∧i j (i64 (k+1)) l<i j k l)) (Cl Pg [] 287 ⟨[(ag j),(.func (.func 349) ⟨[]⟩ ⟨[(.pointer (O ⟨c,0,Z⟩))]⟩)]⟩ l λr=>R j r))):Cl Pg [kS] 296 ⟨[(.agg a)]⟩ w R:=co Tryz.f296 [(10,[(2,kS),(9,kI)])] h
def yB.ok(a:H)(b:H)(c:X6)(R:H→G→Prop) w(h:aB w λd=>aH c 258 a 1 λe=>Ld (au .u8) e d λ(f:H)=>aH c 258 b 1 λg=>Ld (au .u8) g d λ(h:H)=>Cl Pg [kI] 350 ⟨[(.int .u8 f),(.int .u8 h)]⟩ d λ(j:H) i=>R j i):Cl Pg [kI] 349 ⟨[(ni a),(ni b),(.pointer (O c))]⟩ w R:=co Tryz.f349 [] h
def cmp_Compare_int.ok(a:H)(b:H)(R:H→G→Prop) w(h:Cl Pg [kB] 330 ⟨[(ni a)]⟩ w λ(d:XS) c=>Cl Pg [kB] 330 ⟨[(ni b)]⟩ c λ(f:XS) e=>aa d (aa f (R 0 e) (R (-1) e)) (aa f (R 1 e) (aa (K (a<b)) (R (-1) e) (aa (K (a>b)) (R 1 e) (R 0 e))))):Cl Pg [kI] 256 ⟨[(ni a),(ni b)]⟩ w R:=co Tryz.f256 [] h
def cmp_isNaN_int.ok(a:H)(R:XS→G→Prop) w(h:R (a !=a) w):Cl Pg [kB] 330 ⟨[(ni a)]⟩ w R:=co Tryz.f330 [] h
def yy.ok(a:H)(b:H)(R:H→G→Prop) w(h:Cl Pg [kB] 385 ⟨[(.int .u8 a)]⟩ w λ(d:XS) c=>Cl Pg [kB] 385 ⟨[(.int .u8 b)]⟩ c λ(f:XS) e=>aa d (aa f (R 0 e) (R (-1) e)) (aa f (R 1 e) (aa (K (a<b)) (R (-1) e) (aa (K (a>b)) (R 1 e) (R 0 e))))):Cl Pg [kI] 350 ⟨[(.int .u8 a),(.int .u8 b)]⟩ w R:=co Tryz.f350 [] h
def qN.ok(a:H)(R:XS→G→Prop) w(h:R (a !=a) w):Cl Pg [kB] 385 ⟨[(.int .u8 a)]⟩ w R:=co Tryz.f385 [] h
def JY.ok(a:(XU XQ))(R:XS→G→Prop) w(h:Nw 172 a w λc b=>Ld (.arr 258) ⟨c,0,Z⟩ b λd=>Cl Pg [kB] 345 ⟨[(.agg d)]⟩ b λ(f:XS) e=>aa f (aH ⟨c,0,Z⟩ 258 257 1 λg=>Ld (au .u8) g e λ(h:H)=>R (K (h>0)) e) (R V e)):Cl Pg [kB] 290 ⟨[(.agg a)]⟩ w R:=co Tryz.f290 [] h
def Dk.ok(a:(XU XQ))(R:XS→G→Prop) w(h:Nw 172 a w λc b=>Ld (.arr 258) ⟨c,0,Z⟩ b λd=>Cl Pg [kI] 384 ⟨[(.agg d)]⟩ b λ(f:H) e=>R (f==32768) e):Cl Pg [kB] 345 ⟨[(.agg a)]⟩ w R:=co Tryz.f345 [] h
def MZ.ok(a:(XU XQ))(R:XS→G→Prop) w(h:Nw 172 a w λc b=>Ld (.arr 258) ⟨c,0,Z⟩ b λd=>Cl Pg [kI] 384 ⟨[(.agg d)]⟩ b λ(f:H) e=>R (K (f≤32768)) e):Cl Pg [kB] 348 ⟨[(.agg a)]⟩ w R:=co Tryz.f348 [] h
def IV.ok(a:(XU XQ))(R:(TT QS)→G→Prop) w(h:Nw 172 a w λc b=>Nw 442 ⟨Zi 16 (ni 0)⟩ b λe d=>Ld (.arr 258) ⟨c,0,Z⟩ d λf=>ec 0 d λg h(i:H) j=>aa (K (i<258)) (fg (.int .u8) f 258 i λ(k:H)=>aa (K ((i64 k)<16)) (aH ⟨e,0,Z⟩ 16 k 1 λl=>Ld kI l j λ(m:H)=>aH ⟨e,0,Z⟩ 16 k 1 λn=>St n (ni (i64 (m+1))) j λo=>g (i64 (i+1)) o∧h (i64 (i+1)) o<h i j) (g (i64 (i+1)) j∧h (i64 (i+1)) j<h i j)) (Ld (.st QS) ⟨e,0,Z⟩ j λp=>ak ⟨e,0,Z⟩ [(ni p.1),(ni p.2.1),(ni p.2.2.1),(ni p.2.2.2.1),(ni p.2.2.2.2.1),(ni p.2.2.2.2.2.1),(ni p.2.2.2.2.2.2.1),(ni p.2.2.2.2.2.2.2.1),(ni p.2.2.2.2.2.2.2.2.1),(ni p.2.2.2.2.2.2.2.2.2.1),(ni p.2.2.2.2.2.2.2.2.2.2.1),(ni p.2.2.2.2.2.2.2.2.2.2.2.1),(ni p.2.2.2.2.2.2.2.2.2.2.2.2.1),(ni p.2.2.2.2.2.2.2.2.2.2.2.2.2.1),(ni p.2.2.2.2.2.2.2.2.2.2.2.2.2.2.1),(ni p.2.2.2.2.2.2.2.2.2.2.2.2.2.2.2.1)] 0 j λq=>Ld (.st QS) ⟨e,0,Z⟩ q λr=>R r q)):Cl Pg [(.st QS)] 359 ⟨[(.agg a)]⟩ w R:=co Tryz.f359 [(5,[(6,kI)])] h
def Pa.ok(a:(XU XQ))(R:H→G→Prop) w(h:Nw 172 a w λc b=>Ld (.arr 258) ⟨c,0,Z⟩ b λd=>de 0 0 b λe f(g:H)(h:H) i=>aa (K (h<258)) (fg (.int .u8) d 258 h λ(j:H)=>Cl Pg [kI] 397 ⟨[(.int .u8 j)]⟩ i λ(l:H) k=>e (i64 (g+l)) (i64 (h+1)) k∧f (i64 (g+l)) (i64 (h+1)) k<f g h i) (R g i)):Cl Pg [kI] 384 ⟨[(.agg a)]⟩ w R:=co Tryz.f384 [(5,[(2,kI),(6,kI)])] h
def J6.ok(a:H)(R:H→G→Prop) w(h:aa (a==0) (R 0 w) (aa (K (a>15)) (R 32769 w) (0≤a∧R (aG .i64 (32768:H) a) w))):Cl Pg [kI] 397 ⟨[(.int .u8 a)]⟩ w R:=co Tryz.f397 [] h
end
end Go.Proofs.Q9
namespace Go.Srt
section
inductive Ck (key:H→H) (sz:I):Q H→Q H→Prop where|nil:Ck key sz [] []|last (A B:Q H) (h1:A.length<sz) (h2:B.Perm A) (h3:Sd key B):Ck key sz A B|cons (A B X Y:Q H) (h1:A.length=sz) (h2:B.Perm A) (h3:Sd key B) (h4:Ck key sz X Y):Ck key sz (A++X) (B++Y)
def Ck.len{a:H→H}{c:I}{X Y:Q H}(h:Ck a c X Y):Y.length=X.length:=by induction h with|nil=>rfl|last A B d b e=>exact b.length_eq|cons A B X Y d b e g f=>simp[b.length_eq,f]
def Ck.one{a:H→H}{d:I}{X Y:Q H}(h:Ck a d X Y)(f:X.length≤d):Y.Perm X∧Sd a Y:=by cases h with|nil=>exact⟨Q.Perm.refl _,Q.Pairwise.nil⟩|last _ _ g b c=>exact⟨b,c⟩|cons A B X Y g b c i=>rw[Zg]at f;have e:X=[]:=List.length_eq_zero_iff.1 Za;have j:Y=[]:=List.length_eq_zero_iff.1 (by rw[i.len,e];rfl);subst e;subst j;simpa using⟨b,c⟩
def Ck.first{a:H→H}{b:I}{X Y:Q H}(h:Ck a b X Y)(i:b≤X.length)(k:0<b):∃A B c d,X=A++c∧Y=B++d∧A.length=b∧B.Perm A∧Sd a B∧Ck a b c d:=by cases h with|nil=>simp at i;omega|last _ _ e f g=>omega|cons A B X Y e f g j=>exact⟨A,B,X,Y,U,U,e,f,g,j⟩
end
end Go.Srt
namespace Go.Proofs.Q9
section
open Go Go.Vc Go.Srt
section
variable{E w:G}{F:Q HP}
theorem Qi{a b c d:Q H}(h:(a++b).Pairwise (·<·))(e:c.Perm a)(f:d.Perm b):∀x∈c,∀y∈d,x<y:=λx g y i=>(List.pairwise_append.1 h).2.2 x (e.mem_iff.1 g) y (f.mem_iff.1 i)
theorem Tw{s:Sl}{xs:Wj H}{fv:XQ}{key:H→H}{D:H→Prop}{n:H}{K:G→Prop}(h:Hp E w (ao 1 s (xs.map vI)::F))(N:xs.length≤cJ)(hc:xT E F fv key D)(hD:∀x∈xs,D x)(hL:xs.Pairwise (·<·))(hn:n=(xs.length:H))(hK:∀i w',i.Perm xs→Sd key i→Hp E w' (ao 1 s (i.map vI)::F)→K w'):Cl Zf [] 344 ⟨[.slice s.base s.len s.cap,.int .i64 n,fv]⟩ w K:=by subst hn;refine pC.ok _ _ _ _ _ ?_;have hbg:=N;rw[aJ]at N;refine⟨λa b w'=>∃f Z X:Wj H,a=(f.length:H)∧b=((f.length+20:I):H)∧xs=f++X∧Z.length=f.length∧(∀o p,Ck key 20 o p→Ck key 20 (f++o) (Z++p))∧Hp E w' (ao 1 s ((Z++X).map vI)::F),λa _ _=>xs.length-a.toNat,⟨[],[],xs,rfl,rfl,rfl,rfl,λo p h=>h,h⟩,?_⟩;rintro a b w' ⟨f,Z,X,rfl,rfl,hxs,hZ,c,hh⟩;have j:xs.length=f.length+X.length:=by{rw[hxs,Zg]};have hX:∀x∈X,x∈xs:=λx k=>by{rw[hxs];exact Wj.mem_append_right _ k};have d:X.Pairwise (·<·):=by{rw[hxs]at hL;exact(List.pairwise_append.1 hL).2.1};refine aa.mk (λq=>?_) λr=>?_;{have q:=X0 q;have e:X.take 20++X.drop 20=X:=Zt _ _;have l1:(X.take 20).length=20:=by{simp;omega};generalize X.take 20=A at e l1;generalize X.drop 20=X2 at e;subst e;rw[Zg]at j;refine yQ (P:=Z) (L:=A) (Q:=X2) (key:=key) (D:=D) (by simpa only[Zm]using hh) (by rw[aJ];simp only[Zg];omega) hc (λx k=>hD x (hX x (Xz _ k))) (List.pairwise_append.1 d).1 Za (by simp only[Zg];omega) λM S m t T=>?_;rw[ae Za];refine⟨⟨f++A,Z++M,X2,by simp only[Zg];omega,by simp only[Zg];omega,by rw[hxs,Zm],by simp only[Zg];rw[m.length_eq];omega,λo p hk=>?_,T⟩,by dsimp only;omega⟩;rw[Zm,Zm];exact c _ _ (.cons A M o p l1 m t hk)};have r:=XX r;refine yQ (P:=Z) (L:=X) (Q:=[]) (key:=key) (D:=D) (by simpa using hh) (by rw[aJ];simp only[Zg,ZM];omega) hc (λx k=>hD x (hX x k)) d Za (by simp only[Zg];omega) λM S m t T=>?_;have c:=c _ _ (.last X M Za m t);rw[←hxs]at c;refine⟨λbs w'=>∃(g:I)(i:Wj H),bs=(g:H)∧20≤g∧g≤2*cJ∧Ck key g xs i∧Hp E w' (ao 1 s (i.map vI)::F),λbs _=>xs.length-bs.toNat,⟨20,Z++M,rfl,Za,by rw[aJ];omega,c,by simpa using T⟩,?_⟩;rintro bs w' ⟨g,i,rfl,hsz,hszb,c,hh⟩;rw[aJ]at hszb;refine aa.mk (λhlt=>?_) λhge=>?_;{have hlt:=X0 hlt;have hlt:g<xs.length:=by{omega};refine⟨λa b w'=>∃f Z X Y:Wj H,a=(f.length:H)∧b=((f.length+2*g:I):H)∧xs=f++X∧Z.length=f.length∧Ck key g X Y∧(∀o p,Ck key (2*g) o p→Ck key (2*g) (f++o) (Z++p))∧Hp E w' (ao 1 s ((Z++Y).map vI)::F),λa _ _=>xs.length-a.toNat,⟨[],[],xs,i,rfl,?_,rfl,rfl,c,λo p h=>h,hh⟩,?_⟩;{rw[ae Za];simp};rintro a b w' ⟨f,Z,X,Y,rfl,rfl,hxs,hZ,c,hco,hh⟩;have j:xs.length=f.length+X.length:=by{rw[hxs,Zg]};have hX:∀x∈X,x∈xs:=λx k=>by{rw[hxs];exact Wj.mem_append_right _ k};have d:X.Pairwise (·<·):=by{rw[hxs]at hL;exact(List.pairwise_append.1 hL).2.1};rw[ae (x:=(f.length:H)+(g:H)) Za,ae (x:=(g:H)*2) Za];(have next:∀(S:G)(i:Wj H),Ck key (2*g) xs i→Hp E S (ao 1 s (i.map vI)::F)→(∃(l:I)(i:Wj H),(g:H)*2=(l:H)∧20≤l∧l≤2*cJ∧Ck key l xs i∧Hp E S (ao 1 s (i.map vI)::F))∧xs.length-((g:H)*2).toNat<xs.length-((g:H)).toNat:=λS i h1 T=>⟨⟨2*g,i,Za,Za,by rw[aJ];omega,h1,T⟩,Za⟩);refine aa.mk (λq=>?_) λr=>?_;{have q:=X0 q;obtain⟨A1,B1,X1,Y1,rfl,rfl,a1,z,c1,u⟩:=c.first Za Za;rw[Zg]at j;obtain⟨A2,B2,X2,Y2,rfl,rfl,a2,B,c2,W⟩:=u.first Za Za;rw[Zg]at j;have C:(A1++A2).Pairwise (·<·):=by{rw[←Zm]at d;exact(List.pairwise_append.1 d).1};have v:=z.length_eq;have y:=B.length_eq;have lY2:=W.len;rw[ae (x:=2*(g:H)) Za,ae Za];refine ox hc (B1.length+B2.length) (P:=Z) (L:=B1) (R:=B2) (Q:=Y2) (Zx _) (by simpa only[Zm]using hh) (by rw[aJ];simp only[Zg];omega) (λe=>by rw[e]at v;simp at v;omega) (λe=>by rw[e]at y;simp at y;omega) c1 c2 (Qi C z B) (λx k=>hD x (hX x (by simp[z.mem_iff.1 k]))) (λx k=>hD x (hX x (by simp[B.mem_iff.1 k]))) Za Za Za λM S m t T=>?_;have pM:M.Perm (A1++A2):=m.trans (Wj.Perm.append z B);refine⟨⟨f++(A1++A2),Z++M,X2,Y2,by simp only[Zg];omega,by simp only[Zg];omega,by rw[hxs];simp only[Zm],by simp only[Zg];rw[pM.length_eq,Zg];omega,W,λo p hk=>?_,T⟩,by dsimp only;omega⟩;rw[Zm f,Zm Z];exact hco _ _ (.cons (A1++A2) M o p (by rw[Zg];omega) pM t hk)};have r:=XX r;refine aa.mk (λhm=>?_) λhm=>?_;{have hm:=X0 hm;obtain⟨A1,B1,X1,Y1,rfl,rfl,a1,z,c1,u⟩:=c.first Za Za;rw[Zg]at j;obtain⟨B,c2⟩:=u.one Za;have v:=z.length_eq;have y:=B.length_eq;refine ox hc (B1.length+Y1.length) (P:=Z) (L:=B1) (R:=Y1) (Q:=[]) (Zx _) (by simpa using hh) (by rw[aJ];simp only[Zg,ZM];omega) (λe=>by rw[e]at v;simp at v;omega) (λe=>by rw[e]at y;simp at y;omega) c1 c2 (Qi d z B) (λx k=>hD x (hX x (by simp[z.mem_iff.1 k]))) (λx k=>hD x (hX x (by simp[B.mem_iff.1 k]))) Za Za Za λM S m t T=>?_;have pM:M.Perm (A1++X1):=m.trans (Wj.Perm.append z B);(refine next S (Z++M) ?_ Ze);rw[hxs];exact hco _ _ (.last _ M (by rw[Zg];omega) pM t)};have hm:=XX hm;obtain⟨m,t⟩:=c.one Za;(refine next w' (Z++Y) ?_ hh);rw[hxs];exact hco _ _ (.last _ Y Za m t)};have hge:=XX hge;obtain⟨m,t⟩:=c.one Za;exact hK i w' m t hh
theorem xu{s:Sl}{xs:Q H}{c:XQ}{key:H→H}{D:H→Prop}{K:G→Prop}(h:Hp E w (ao 1 s (xs.map vI)::F))(a:xs.length≤cJ)(d:xT E F c key D)(e:∀x∈xs,D x)(f:xs.Pairwise (·<·))(g:∀b w',b.Perm xs→Sd key b→Hp E w' (ao 1 s (b.map vI)::F)→K w'):Cl Zf [] 287 ⟨[.slice s.base s.len s.cap,c]⟩ w K:=by refine mA.ok _ _ _ _ ?_;have i:=h.aP;simp only[Zq,ZB]at i;exact Tw h a d e f Za g
end
end
end Go.Proofs.Q9
namespace Go.Srt
section
def wt(n:I):I:=if n=0 then 0 else if n>15 then 32769 else 2^(15-n)
def bB(l:Q I):I:=(l.map wt).sum
def aec(n:I):wt n≤32769:=by unfold wt;split;{omega};split;{omega};have:2^(15-n)≤2^15:=ZU Zb Za;omega
def LO:∀l:Q I,bB l≤32769*l.length|[]=>by simp[bB]|x::l=>by have:=LO l;have:=aec x;simp only[bB,ZN,Xe,Zp]at*;omega
def wL{l:Q I}{k:I}(h:k<l.length):bB (l.take (k+1))=bB (l.take k)+wt l[k]:=by unfold bB;rw[ZE,ZD,YH,Zh h];simp only[XV.toList,ZN,YK,Xe,Q.sum_nil,Zr]
def E3{l:Q I}{k:I}:bB (l.take k)≤bB l:=by have:=X3 bB (Zt k l);unfold bB at this⊢;rw[ZD,YH]at this;omega
def abL{l:Q I}{x:I}(h:x∈l):wt x≤bB l:=by obtain⟨i,a,rfl⟩:=ZS h;have:=wL a;have:=E3 (l:=l) (k:=i+1);omega
def used(l:Q I):Q I:=(Zs l.length).filter λs=>decide (0<l.getD s 0)
def zx(l:Q I)(i:H):H:=(l.getD i.toNat 0:H)
def cP(l c:Q I):Prop:=c.Perm (used l)∧c.Pairwise λa b=>l.getD a 0<l.getD b 0∨(l.getD a 0=l.getD b 0∧a<b)
end
end Go.Srt
namespace Go.Proofs.Q9
section
open Go Go.Vc Go.Srt
section
variable{E w:G}{F:Q HP}
theorem U7{n:I}{K:H→G→Prop}(d:K (wt n:H) w):Cl Zf [kI] 397 ⟨[.int .u8 (n:H)]⟩ w K:=by refine J6.ok _ _ _ ?_;unfold wt at d;refine aa.mk (λh=>?_) λh=>aa.mk (λc=>?_) λc=>⟨Za,?_⟩;{grind};{grind};have h:n≠0:=by{have:=XX h;omega};have c:¬n>15:=by{have:=XX c;omega};rw[XR h,XR c]at d;have e:=cr (k:=.i64) (a:=32768) (b:=n) (by have:Wc.bits .i64=64:=U;omega);rw[show(32768:H)=((32768:I):H)from U,e];have:32768/2^n=2^(15-n):=by{have f:(2:I)^15=32768:=by{decide};have g:=I.pow_sub_mul_pow 2 (show n≤15 by omega);rw[f]at g;exact I.div_eq_of_eq_mul_left (Yk n) g.symm};rw[this];exact d
theorem Co{l:Q I}{K:H→G→Prop}(h:Hp E w F)(g:l.length=258)(q:∀w',Hp E w' F→K (bB l:H) w'):Cl Zf [kI] 384 ⟨[.agg (ai .u8 l)]⟩ w K:=by refine Pa.ok _ _ _ ?_;refine Nw.mk h λb r d=>Ld.arr d (by rw[ba,g]) ?_;have t:=LO l;refine⟨λf i w'=>∃k:I,i=(k:H)∧k≤258∧f=(bB (l.take k):H)∧Hp E w' F,λ_ i _=>258-i.toNat,⟨0,U,Za,by simp[bB],d.drop⟩,?_⟩;intro f i w' j;obtain⟨k,m,u,n,o⟩:=j;subst m;subst n;refine aa.mk (λa=>?_) λp=>?_;{have a:k<258:=by{have:=X0 a;omega};have c:k<l.length:=by{omega};refine fg.rd (s:=.int .u8) Za Za (l[k]:H) (by rw[Zl];exact iV c) (U7 ?_);have e:=wL c;have:=E3 (l:=l) (k:=k+1);rw[ae (x:=(bB (l.take k):H)+(wt l[k]:H)) Za,ae Za];exact⟨⟨k+1,U,Za,by rw[e];rfl,o⟩,by dsimp only;omega⟩};grind
theorem adw{l:Q I}{K:XS→G→Prop}(h:Hp E w F)(a:l.length=258)(d:∀w',Hp E w' F→K (We (bB l≤32768)) w'):Cl Zf [kB] 348 ⟨[.agg (ai .u8 l)]⟩ w K:=by refine MZ.ok _ _ _ ?_;refine Nw.mk h λb f c=>Ld.arr c (by rw[ba,a]) (Co c a λg e=>?_);have:We ((bB l:H)≤32768)=We (bB l≤32768):=by{rw[Yy];simp;omega};rw[this];exact d _ e.drop
theorem zu{l:Q I}{K:XS→G→Prop}(h:Hp E w F)(a:l.length=258)(d:∀w',Hp E w' F→K (We (bB l≤32768)) w'):Cl Zf [kB] 295 ⟨[.agg (ai .u8 l)]⟩ w K:=by refine Ca.ok _ _ _ ?_;exact Nw.mk h λb f c=>Ld.arr c (by rw[ba,a]) (adw c a λg e=>d _ e.drop)
theorem aaM{x y:H}{K:H→G→Prop}(a:∀z:H,(z<0↔x<y)→K z w):Cl Zf [kI] 350 ⟨[.int .u8 x,.int .u8 y]⟩ w K:=by refine yy.ok _ _ _ _ ?_;refine qN.ok _ _ _ (qN.ok _ _ _ ?_);refine aa.f Zd (aa.f Zd (aa.mk (λh=>a _ ?_) λh=>aa.mk (λb=>a _ ?_) λb=>a _ ?_));{grind};{have:=XX h;omega};have:=XX h;omega
theorem acw{l:Q I}{b:I}{t:XY}(m:l.length=258):xT E (ah b (.cells (ai .u8 l) t (0,0))::F) (.func (.func 349) ⟨[]⟩ ⟨[.pointer (O ⟨b,0,Z⟩)]⟩) (zx l) (λx=>0≤x∧x<258):=by rintro A w y x K h ⟨e,n⟩ ⟨f,o⟩ i;refine cW.mk Zc ?_;refine yB.ok y x ⟨b,0,Z⟩ K w ?_;have p:=h.perm ZX;have a:x.toNat<l.length:=Za;have c:y.toNat<l.length:=Za;refine aB.mk h λj g=>?_;have d:=g.perm ZX;refine aH.rd (s:=.int .u8) d f Za (l[y.toNat]:H) (iV c) ?_;refine aH.rd (s:=.int .u8) d e Za (l[x.toNat]:H) (iV a) ?_;refine aaM λz k=>i z j ?_ g;rw[k];unfold zx;rw[Zn,Zn,Zh a,Zh c];rfl
theorem mM:cF Zf 25 3 1 8:=cF.of Zc Zc
def gV(l:Q I)(k:I):Q I:=(Zs k).filter λs=>decide (0<l.getD s 0)
theorem nj{l:Q I}{k:I}:gV l (k+1)=gV l k++if 0<l.getD k 0 then[k]else[]:=by unfold gV;rw[YM,Xh];congr 1;by_cases h:0<l.getD k 0;{grind};grind
theorem Bd{z:H}:∀y∈[vI z],aC y=J:=by intro y a;have:y=vI z:=by{simpa using a};rw[this];rfl
theorem om(l:Q I)(k:I):(gV l k).length≤k:=by have:=Q.length_filter_le (λs=>decide (0<l.getD s 0)) (Zs k);simpa[gV]using this
def ints(l:Q I):Q H:=l.map λ(x:I)=>(x:H)
theorem IC{a b:Q I}:ints (a++b)=ints a++ints b:=ZD
theorem abj{l:Q I}{K:Sl→G→Prop}(h:Hp E w F)(g:l.length=258)(u:¬bB l≤32768→∀w',Hp E w' F→K ⟨Z,0,0⟩ w')(v:bB l≤32768→∀ys s w',cP l ys→Hp E w' (ao 1 s ((ints ys).map vI)::F)→K s w'):Cl Zf [kS] 296 ⟨[.agg (ai .u8 l)]⟩ w K:=by refine AJ.ok _ _ _ ?_;refine Nw.mk h λb w1 B=>Ld.arr B (by rw[ba,g]) (zu B g λN z=>?_);refine aa.mk (λr=>u Ze N z.drop) λr=>?_;have r:bB l≤32768:=by{simpa using r};refine Ld.arr z (by rw[ba,g]) ?_;refine⟨λo i w'=>∃k:I,i=(k:H)∧k≤258∧Hp E w' (ao 1 o ((ints (gV l k)).map vI)::ah b (.cells (ai .u8 l) 172 (0,0))::F),λ_ i _=>258-i.toNat,⟨0,rfl,Za,z.aQ 1⟩,?_⟩;intro o i w' P;obtain⟨k,R,hk,t⟩:=P;subst R;refine aa.mk (λj=>?_) λf=>?_;{have j:k<258:=by{have:=X0 j;omega};have m:k<l.length:=by{omega};have C:l.getD k 0=l[k]:=by{rw[Zn,Zh m];rfl};refine fg.rd (s:=.int .u8) Za Za (l[k]:H) (by rw[Zl];exact iV m) ?_;refine aa.mk (λc=>?_) λc=>?_;{have c:0<l[k]:=by{have:=X0 c;omega};refine Nw.mk t λS L p=>?_;have T:=t.aP;have hu:=om l k;simp only[Zq,ints,ZB]at T;refine aS (ys:=[vI (k:H)]) (n:=1) mM Zb (.inl ⟨3,Zc⟩) p.p1 (.inl ⟨O ⟨S,0,Z⟩,1,1,rfl,rfl,p.an (ad.aw rfl rfl)⟩) rfl Bd Za Za λs' w4 W X=>?_;rw[ae Za];refine⟨⟨k+1,rfl,Za,?_⟩,by dsimp only;omega⟩;rw[nj,C,XT c,IC,ZD];exact W.p1.drop};have c:¬0<l[k]:=by{have:=XX c;omega};rw[ae Za];refine⟨⟨k+1,rfl,Za,?_⟩,by dsimp only;omega⟩;rw[nj,C,XR c,ZF];exact t};have f:k=258:=by{have:=XX f;omega};subst f;have A:∀x∈gV l 258,x<258:=λx q=>by{have:=(List.mem_filter.1 q).1;simpa using this};refine xu (key:=zx l) (D:=λx=>0≤x∧x<258) t (by have:=om l 258;rw[aJ];simp only[ints,Zq];omega) (acw g) (λx q=>?_) ?_ λys L c M p=>?_;{obtain⟨y,Y,rfl⟩:=List.mem_map.1 q;have:=A y Y;omega};{unfold ints;refine Q.Pairwise.map _ (λa b d=>Int.ofNat_lt.2 d) ?_;exact Q.Pairwise.filter _ Q.pairwise_lt_range};have hU:gV l 258=used l:=by{unfold gV used;rw[g]};rw[hU]at c;have e:ys=ints (ys.map H.toNat):=by{unfold ints;rw[YD];refine(Q.map_id ys).symm.trans (Z2 λx q=>?_);obtain⟨y,_,rfl⟩:=List.mem_map.1 (c.mem_iff.1 q);simp};have pN:(ys.map H.toNat).Perm (used l):=by{have:=c.map H.toNat;refine this.trans ?_;unfold ints;rw[YD];refine Q.Perm.of_eq ((Z2 λx _=>?_).trans (Q.map_id _));simp};rw[e]at p M;refine v r (ys.map H.toNat) _ L ⟨pN,?_⟩ p.p1.drop;refine(List.pairwise_map.1 M).imp λ{a b} d=>?_;unfold Ky zx at d;simp only[Zl]at d;omega
end
end
section
open Go Go.Vc Go.Pol Go.Srt
section
variable{E w:G}{F:Q HP}
end
set_option maxRecDepth 100000
section
variable{E w:G}{F:Q HP}
def M6(a:I):Prop:=∀{E w:G}{F:Q HP}{n:H}{side mode:I}{K:Sl→H→G→Prop},Hp E w F→(∀m:I,n=(m:H)→nD m side mode→∀s w',Hp E w' (ao 1 s ((ints (layout m side mode)).map vI)::F)→K s 0 w')→(¬(0≤n∧nD n.toNat side mode)→∀w',Hp E w' F→K ⟨Z,0,0⟩ 2 w')→Cl Zf [kS,kI] a ⟨[.int .i64 n,.int .u8 (side:H),.int .u8 (mode:H)]⟩ w K
theorem jf.lkV{P:XW}{s:Sem XQ}{w:G}{K:XQ→XS→G→Prop}(x:XQ)(b:XS)(h:s.run P w=.ok (.tuple #[x,.bool b]) w)(a:K x b w):jf P s [kV,kB] w K:=by unfold jf;rw[h];exact a
theorem abp(w:G):(Wk 223).run Zf w=.ok .nilFunc w:=Zc
theorem fC{b:I}{l:Q I}{t:XY}{vs:Q XQ}(h:Hp E w (ah b (.cells ⟨vs⟩ t (0,0))::F))(a:vs=(ints l).map vI):Hp E w (ao 1 ⟨O ⟨b,0,Z⟩,vs.length,vs.length⟩ ((ints l).map vI)::F):=by subst a;exact h.pz (sz:=1) Zd
theorem aa3{j m:I}{K:Sl→G→Prop}(g:j<6)(h:Hp E w F)(n:1≤m)(i:m≤65536)(c:∀s w',Hp E w' (ao 1 s ((ints (layout m (j/3+1) (j%3+1))).map vI)::F)→K s w'):cW Zf (vP j) [kS] [.int .i64 (m:H)] w K:=by have l:YO .i64=9223372036854775807:=U;have d:aG .i64 (m:H) 13=((m/8192:I):H):=cr (k:=.i64) (a:=m) (b:=13) Zb;have f:aG .i64 (m:H) 10=((m/1024:I):H):=cr (k:=.i64) (a:=m) (b:=10) Zb;match j,g with|0,_=>refine cW.mk Zc (pP.ok _ _ _ (Nw.mk h λb w h=>c _ _ (fC h ?_)));simp[layout,ints,vI]|1,_=>refine cW.mk Zc (pP.ok _ _ _ (Nw.mk h λb w h=>c _ _ (fC h ?_)));simp[layout,ints,vI]|2,_=>refine cW.mk Zc (zw.ok _ _ _ (Nw.mk h λb w h=>c _ _ (fC h ?_)));have e:(i64 (4*(if(1024:H)<i64 ((m:H)+1)then(1024:H)else i64 ((m:H)+1))))=((4*Ws (m+1) 1024:I):H):=by{rw[ae (x:=(m:H)+1) Za,ae Ze];split<;>omega};simp only[layout,ints,vI,ni];rw[e];rfl|3,_=>refine cW.mk Zc (Az.ok _ _ _ ⟨Zb,Nw.mk h λb w h=>c _ _ (fC h ?_)⟩);rw[d,ae Za];rfl|4,_=>refine cW.mk Zc (zQ.ok _ _ _ ⟨Zb,Nw.mk h λb w h=>c _ _ (fC h ?_)⟩);rw[f,ae Za];rfl|5,_=>refine cW.mk Zc (zF.ok _ _ _ (Nw.mk h λb w h=>c _ _ (fC h ?_)));rw[ae (x:=(m:H)+1) Za,ae Za];rfl
theorem aeo:∀i,i<6→63/2^i%2=1:=Zb
theorem Uj{j:I}(a:j<6):zq j=(((j/3+1:I):H),((j%3+1:I):H)):=by match j,a with|0,_=>rfl|1,_=>rfl|2,_=>rfl|3,_=>rfl|4,_=>rfl|5,_=>rfl
theorem NH:M6 91:=by intro E w F n side mode K h d b;refine Fz.ok _ _ _ _ _ (PT h λm l w x h=>?_);have c:=BO (ke:=pL) (ve:=λv:XQ=>v) HH adN (a:=((side:H),(mode:H))) abp h;by_cases hs:(side=1∨side=2)∧1≤mode∧mode≤3;{obtain⟨j,o,rfl,rfl⟩:∃j,j<6∧side=j/3+1∧mode=j%3+1:=⟨3*(side-1)+(mode-1),Za,Za,Za⟩;have p:=x.has j o;rw[XT (aeo j o),Uj o]at p;obtain⟨q,r,u⟩:=Option.map_eq_some_iff.1 p;rw[r]at c;refine jf.lkV _ _ c (aa.f rfl ?_);dsimp only;rw[u];refine aa.dm (λy=>b (λg=>by have:=g.2.2.2.2.1;omega) _ h.drop) λz=>aa.dm (λA=>b (λg=>by have:=g.2.2.2.2.2;omega) _ h.drop) λB=>?_;obtain⟨k,rfl⟩:∃k:I,n=(k:H):=⟨n.toNat,Za⟩;exact aa3 o h Za Za λs w h=>d k rfl ⟨hs.1,hs.2.1,hs.2.2,Za,Za⟩ s w (h.no 1)};have p:=x.no ((side:H),(mode:H)) (λi C e=>by rw[Uj C]at e;injection e with D G;exact hs ⟨Za,Za,Za⟩);have r:findAt ((side:H),(mode:H)) l 0=Z:=Ze;rw[r]at c;exact jf.lkV _ _ c (aa.t rfl (b (λg=>hs ⟨g.2.1,g.2.2.1,g.2.2.2.1⟩) _ h.drop))
theorem abD:M6 69:=by intro E w F n side mode K h a c;refine Gj.ok _ _ _ _ _ (iJ (λl=>∀m:I,n=(m:H)→nD m side mode→l w) ?_ λl o=>?_);{intro m y p;subst y;obtain⟨q,r,g,i,z⟩:=p;have d:nD m side mode:=⟨q,r,g,i,z⟩;refine aa.em (λs=>aa.em (λt=>?_) λt=>?_) λs=>aa.em (λu=>⟨Zb,?_⟩) λu=>aa.em (λv=>⟨Zb,?_⟩) λv=>?_;{refine Nw.mk h λb w h=>a m rfl d _ _ (fC h ?_);have e:(i64 (4*(if(1024:H)<i64 ((m:H)+1)then(1024:H)else i64 ((m:H)+1))))=((4*Ws (m+1) 1024:I):H):=by{rw[ae (x:=(m:H)+1) Za,ae (by split<;>omega)];split<;>omega};obtain rfl:side=1:=by{omega};obtain rfl:mode=3:=by{omega};rw[e];rfl};{refine Nw.mk h λb w h=>a m rfl d _ _ (fC h ?_);obtain rfl:side=1:=by{omega};unfold layout;rw[XT rfl,XR Za];rfl};{refine Nw.mk h λb w h=>a m rfl d _ _ (fC h ?_);obtain rfl:side=2:=by{omega};obtain rfl:mode=1:=by{omega};rw[show YJ (m:H) 8192=((m/8192:I):H)from rfl,ae (x:=((m/8192:I):H)) Za,ae Za];rfl};{refine Nw.mk h λb w h=>a m rfl d _ _ (fC h ?_);obtain rfl:side=2:=by{omega};obtain rfl:mode=2:=by{omega};rw[show YJ (m:H) 1024=((m/1024:I):H)from rfl,ae (x:=((m/1024:I):H)) Za,ae Za];rfl};refine Nw.mk h λb w h=>a m rfl d _ _ (fC h ?_);obtain rfl:side=2:=by{omega};obtain rfl:mode=3:=by{omega};rw[ae (x:=(m:H)+1) Za,ae Za];rfl};refine aa.dm (λq=>c (λf=>by have:=f.2.2.2.2.1;omega) _ h) λq=>aa.dm (λr=>c (λf=>by have:=f.2.2.2.2.2;omega) _ h) λr=>?_;obtain⟨m,rfl⟩:∃k:I,n=(k:H):=⟨n.toNat,Za⟩;have j:(side=1∨side=2)→aa (We ((mode:H)<1)) (K ⟨Z,0,0⟩ 2 w) (aa (We ((mode:H)>3)) (K ⟨Z,0,0⟩ 2 w) (l w)):=λp=>aa.dm (λg=>c (λf=>by have:=f.2.2.1;omega) _ h) λg=>aa.dm (λi=>c (λf=>by have:=f.2.2.2.1;omega) _ h) λi=>o m rfl ⟨p,Za,Za,Za,Za⟩;refine aa.nm (λg=>aa.nm (λi=>c (λf=>by have:=f.2.1;omega) _ h) λi=>j Za) λg=>j Za
end
end
end Go.Proofs.Q9
namespace Go.Pol
section
def bE(a n:H)(side:I):I×I:=if¬(1≤n∧n≤65536)∨¬(1≤a∧a≤1048576)then(0,2)else if az a.toNat n.toNat side=0 then(0,230)else(az a.toNat n.toNat side,0)
def L8{n side mode:I}(h:n≤65536):aK n side mode≤400000:=by unfold aK layout;split;{split<;>simp<;>omega};grind
def afA(mode:I):I:=if mode=1 then 8192 else if mode=2 then 1024 else 1
def bound(n mode:I):I:=8300+15*(n+1)+(2*n+1)*Ws n (afA mode)
end
end Go.Pol
namespace Go.Proofs.Q9
section
open Go Go.Vc Go.Pol Go.Srt
section
variable{E w:G}{F:Q HP}
end
set_option maxRecDepth 100000
section
variable{E w:G}{F:Q HP}
def OX(a:I):Prop:=∀{E w:G}{F:Q HP}{n:H}{side mode:I}{K:H→H→G→Prop},Hp E w F→(∀m:I,n=(m:H)→nD m side mode→∀w',Hp E w' F→K (aK m side mode:H) 0 w')→(¬(0≤n∧nD n.toNat side mode)→∀w',Hp E w' F→K 0 2 w')→Cl Zf [kI,kI] a ⟨[.int .i64 n,.int .u8 (side:H),.int .u8 (mode:H)]⟩ w K
theorem zp{l:Q I}{k:I}(a:k<l.length):(l.take (k+1)).sum=(l.take k).sum+l[k]:=by rw[ZE,YH,Zh a];simp
theorem ns(l:Q I)(k:I):(l.take k).sum≤l.sum:=by have:=X3 Q.sum (Zt k l);rw[YH]at this;omega
theorem Un{t:Wp}(y:M6 t){n:H}{side mode:Wp}{K:H→H→G→Prop}(h:Hp E w F)(c:∀m:Wp,n=(m:H)→nD m side mode→∀w',Hp E w' F→K (aK m side mode:H) 0 w')(d:¬(0≤n∧nD n.toNat side mode)→∀w',Hp E w' F→K 0 2 w'):Cl Zf [kS,kI] t ⟨[.int .i64 n,.int .u8 (side:H),.int .u8 (mode:H)]⟩ w λ(s:Sl)(e:H) w=>de 0 0 w λI m(a:H)(i:H) w=>aa (We (i<(s.len:H))) (ax s i 1 λq=>Ld kI q w λ(x:H)=>I (i64 (a+x)) (i64 (i+1)) w∧m (i64 (a+x)) (i64 (i+1)) w<m a i w) (K a e w):=by refine y h (λm z u s w h=>?_) λj w h=>?_;{have f:=L8 (side:=side) (mode:=mode) u.2.2.2.2;unfold aK at f;have b:=h.aP;rw[Zq,ZB,show(ints (layout m side mode)).length=(layout m side mode).length from Zq ..]at b;have o:(layout m side mode).length≤3:=by{unfold layout;split<;>(try split)<;>(try split)<;>simp};generalize A:layout m side mode=l at f h b o;refine⟨λa i w=>∃k:Wp,i=(k:H)∧k≤l.length∧a=((l.take k).sum:H)∧Hp E w (ao 1 s ((ints l).map vI)::F),λ_ i _=>l.length-i.toNat,⟨0,U,Za,Zd,h⟩,?_⟩;rintro a i w ⟨k,rfl,hk,rfl,h⟩;have B:=ns l k;refine aa.dm (λg=>?_) λC=>?_;{have g:k<l.length:=by{omega};have p:=zp g;have v:=ns l (k+1);refine ax.rd (h.an ad.own) Za Za λq _ D=>?_;refine Ld.sc (s:=.int .i64) (l[k]:H) (by rw[D];simp[Sc.enc,vI,ints]) ?_;rw[ae Za,ae Za];exact⟨⟨k+1,Za,Za,by rw[p];omega,h⟩,by first|omega|(dsimp only;omega)⟩};have r:k=l.length:=by{omega};subst r;rw[Zv (Zx _)];have:=c m z u w h.drop;unfold aK at this;rw[A]at this;exact this};exact⟨λa i w=>a=0∧i=0∧Hp E w F,λ_ _ _=>0,⟨U,U,h⟩,λa i w⟨L,M,h⟩=>by subst L;subst M;exact aa.df Zb (d j _ h)⟩
theorem PI:OX 79:=by intro E w F n side mode K h a b;exact JK.ok _ _ _ _ _ (Un NH h a b)
theorem Mi:OX 34:=by intro E w F n side mode K h a b;exact ND.ok _ _ _ _ _ (Un abD h a b)
theorem V4{n:H}{side:I}{K:H→H→G→Prop}(h:Hp E w F)(a:∀m:I,n=(m:H)→nD m side 1→∀w',Hp E w' F→K (aK m side 1:H) 0 w')(b:¬(0≤n∧nD n.toNat side 1)→∀w',Hp E w' F→K 0 2 w'):Cl Zf [kI,kI] 134 ⟨[.int .i64 n,.int .u8 (side:H)]⟩ w K:=Jk.ok _ _ _ _ (PI (mode:=1) h a b)
theorem Gi{n:H}{side:I}{K:H→H→G→Prop}(h:Hp E w F)(a:∀m:I,n=(m:H)→nD m side 1→∀w',Hp E w' F→K (aK m side 1:H) 0 w')(b:¬(0≤n∧nD n.toNat side 1)→∀w',Hp E w' F→K 0 2 w'):Cl Zf [kI,kI] 14 ⟨[.int .i64 n,.int .u8 (side:H)]⟩ w K:=Kh.ok _ _ _ _ (Mi (mode:=1) h a b)
theorem QJ{a n:H}{side:I}{K:H→H→G→Prop}(h:Hp E w F)(r:side=1∨side=2)(d:∀w',Hp E w' F→K ((bE a n side).1:H) ((bE a n side).2:H) w'):Cl Zf [au .u8,kI] 90 ⟨[.int .i64 a,.int .i64 n,.int .u8 (side:H)]⟩ w K:=by refine JZ.ok _ _ _ _ _ (iJ (λs=>∀(m:I) w,n=(m:H)→nD m side 1→(1≤a∧a≤1048576)→Hp E w F→s w) ?_ λs q=>?_);{rintro m w rfl c ⟨hb1,hb2⟩ h;obtain⟨b,rfl⟩:∃b:I,a=(b:H):=⟨a.toNat,Za⟩;have u:bE (b:H) (m:H) side=if az b m side=0 then(0,230)else(az b m side,0):=by{have:=c.2.2.2;unfold bE;rw[XR Za];rfl};rw[u]at d;have p:∀mode,1≤mode→mode≤3→nD m side mode:=λmode l o=>⟨r,l,o,c.2.2.2.1,c.2.2.2.2⟩;refine⟨λmode w=>∃k:I,mode=(k:H)∧k≤3∧(∀j,k<j→j≤3→b<aK m side j)∧Hp E w F,λmode _=>mode.toNat,⟨3,rfl,Za,λj l o=>Za,h⟩,?_⟩;rintro mode w ⟨k,rfl,hk,hlo,h⟩;refine aa.dm (λt=>?_) λA=>?_;{refine PI h (λv e _ w h=>?_) λf=>X8 ⟨Za,p k Za hk⟩ f;obtain rfl:m=v:=by{omega};refine aa.dm (λx=>?_) λy=>?_;{have g:az b m side=k:=by{unfold az;have:k=1∨k=2∨k=3:=by{omega};(rcases this with rfl|rfl|rfl);{grind};{grind};rw[XT Za]};rw[g,XR Za]at d;exact d w h};obtain⟨i,rfl⟩:∃i,k=i+1:=⟨k-1,Za⟩;rw[j8 Za];refine⟨⟨i,Za,Za,λj l o=>?_,h⟩,by first|omega|(dsimp only;omega)⟩;by_cases e:j=i+1;{subst e;omega};grind};obtain rfl:k=0:=by{omega};have g:az b m side=0:=by{unfold az;have l:=hlo 1 Za Za;have o:=hlo 2 Za Za;have B:=hlo 3 Za Za;rw[XR Za,XR Za,XR Za]};rw[g,XT rfl]at d;exact d w h};refine V4 h (λm z c w h=>?_) λf w h=>?_;{refine aa.nf rfl (aa.dm (λl=>?_) λl=>aa.dm (λo=>?_) λo=>q m w z c Za h);{have:=d w h;rw[show bE a n side=(0,2) by unfold bE;rw[XT Za]]at this;exact this};have:=d w h;rw[show bE a n side=(0,2) by unfold bE;rw[XT Za]]at this;exact this};refine aa.nt Zb ?_;have:=d w h;rw[show bE a n side=(0,2) by unfold bE;rw[XT];refine .inl λC=>f ⟨Za,r,Za,Za,Za,Za⟩]at this;exact this
theorem L7{budget n:H}{side:I}{K:H→H→G→Prop}(h:Hp E w F)(p:side=1∨side=2)(a:∀w',Hp E w' F→K ((bE budget n side).1:H) ((bE budget n side).2:H) w'):Cl Zf [au .u8,kI] 23 ⟨[.int .i64 budget,.int .i64 n,.int .u8 (side:H)]⟩ w K:=by refine NK.ok _ _ _ _ _ (Gi h (λm y d w h=>?_) λf w h=>?_);{subst y;refine iJ (λt=>∀w,(1≤budget∧budget≤1048576)→Hp E w F→t w) ?_ λt q=>?_;{rintro w ⟨z,A⟩ h;obtain⟨b,rfl⟩:∃b:I,budget=(b:H):=⟨budget.toNat,Za⟩;have B:bE (b:H) (m:H) side=if az b m side=0 then(0,230)else(az b m side,0):=by{have:=d.2.2.2;unfold bE;rw[XR Za];rfl};rw[B]at a;have o:∀mode,1≤mode→mode≤3→nD m side mode:=λmode i l=>⟨p,i,l,d.2.2.2.1,d.2.2.2.2⟩;have u:=PM (budget:=b) (n:=m) p;refine aa.dm (λC=>?_) λD=>?_;{rw[XT (u.2 Za)]at a;exact a w h};have r:az b m side≠0:=λe=>by{have:=u.1 e;omega};rw[XR r]at a;refine⟨λc mode w=>∃k g:I,mode=(k:H)∧c=(g:H)∧1≤k∧k≤4∧1≤g∧(g=1∨g<k)∧aK m side g≤b∧(∀j,g<j→j<k→b<aK m side j)∧Hp E w F,λ_ mode _=>4-mode.toNat,⟨1,1,rfl,rfl,Za,Za,Za,.inl rfl,Za,λj i l=>Za,h⟩,?_⟩;rintro c mode w ⟨k,g,rfl,rfl,hk1,hk4,hg1,hgk,hgn,hlo,h⟩;refine aa.dm (λL=>?_) λM=>?_;{refine Mi h (λN e _ w h=>?_) λf=>X8 ⟨Za,o k Za Za⟩ f;obtain rfl:m=N:=by{omega};rw[j8 Za];refine aa.dm (λv=>?_) λx=>?_;{exact⟨⟨k+1,k,Za,rfl,Za,Za,Za,.inr Za,Za,λj i l=>Za,h⟩,by first|omega|(dsimp only;omega)⟩};refine⟨⟨k+1,g,Za,rfl,Za,Za,hg1,Za,hgn,λj i l=>?_,h⟩,by first|omega|(dsimp only;omega)⟩;by_cases e:j=k;{subst e;omega};exact hlo j i Za};have s:az b m side=g:=by{unfold az;have:g=1∨g=2∨g=3:=by{omega};(rcases this with rfl|rfl|rfl);{have l:=hlo 2 Za Za;have P:=hlo 3 Za Za;rw[XR Za,XR Za,XT Za]};{have P:=hlo 3 Za Za;rw[XR Za,XT Za]};rw[XT Za]};rw[s]at a;exact a w h};refine aa.nf rfl (aa.dm (λi=>?_) λi=>aa.dm (λl=>?_) λl=>q w Za h);{have:=a w h;rw[show bE budget (m:H) side=(0,2) by unfold bE;rw[XT Za]]at this;exact this};have:=a w h;rw[show bE budget (m:H) side=(0,2) by unfold bE;rw[XT Za]]at this;exact this};have a:=a w h;rw[show bE budget n side=(0,2) by unfold bE;rw[XT];refine .inl λQ=>f ⟨Za,p,Za,Za,Za,Za⟩]at a;refine iJ (λ_=>True) trivial λ_ _=>aa.nt Zb ?_;exact a
end
end
end Go.Proofs.Q9
namespace Go.Crc
section
def half(c:I):I:=(c/2)^^^(if c%2=1 then 3988292384 else 0)
def row(c:I):I:=half (half (half (half (half (half (half (half c)))))))
def step(c b:I):I:=row ((c%256)^^^b)^^^(c/256)
def feed(c:I)(b:Q I):I:=b.foldl step c
def bQ(b:Q I):I:=feed 4294967295 b^^^4294967295
def jc{c:I}(h:c<4294967296):half c<4294967296:=by unfold half;exact Xj (n:=32) Za Ze
def OP{c:I}(h:c<4294967296):row c<4294967296:=jc (jc (jc (jc (jc (jc (jc (jc h)))))))
def MA{c b:I}(h:c<4294967296)(a:b<256):step c b<4294967296:=by unfold step;have d:(c%256)^^^b<256:=Xj (n:=8) Za a;exact Xj (n:=32) (OP Za) Za
def xG:∀(b:Q I)(c:I),c<4294967296→(∀x∈b,x<256)→feed c b<4294967296|[],_,h,_=>h|x::b,c,h,hb=>by rw[feed,Q.foldl_cons];exact xG b _ (MA h (hb x ZI)) λy a=>hb y (Zw _ a)
def IN(a b:Q I)(c:I):feed c (a++b)=feed (feed c a) b:=Q.foldl_append
def kx{b:Q I}(a:∀x∈b,x<256):bQ b<4294967296:=Xj (n:=32) (xG b _ Zb a) Zb
end
end Go.Crc
namespace Go.Vc
section
open Go
def k8(f:I→I)(L i:I):I→I:=λj=>if j<L∧(j<i∨L≤j+i)then f (L-1-j)else f j
def Ov(f:I→I)(L:I):k8 f L 0=f:=by funext j;unfold k8;rw[XR Za]
def Ri{f:I→I}{L i k:I}(e:i+k+1=L)(a:i<k):cU (cU (k8 f L i) i (k8 f L i k)) k (k8 f L i i)=k8 f L (i+1):=by funext j;have c:k8 f L i k=f k:=by{unfold k8;rw[XR Za]};have d:k8 f L i i=f i:=by{unfold k8;rw[XR Za]};rw[c,d];simp only[cU,k8];by_cases h1:j=k;{grind};grind
def TX{f:I→I}{L i:I}(h:L≤2*i+1):aX (k8 f L i) 0 L=(aX f 0 L).reverse:=by apply YG;{rw[Z3,bG,bG]};intro j a c;rw[bG]at a;rw[ep a,Q.getElem_reverse];simp only[bG];rw[ep Za];simp only[k8,Zj];by_cases h3:j<L∧(j<i∨L≤j+i);{rw[XT h3]};grind
end
end Go.Vc
namespace Go.Pol
section
def eV(n mode:I):Q (I×I):=places 0 (layout n 1 mode)
def Tv{n mode:I}:∃r,eV n mode=(0,n)::r:=by unfold eV layout;rw[XT U];split<;>exact⟨_,U⟩
def Tx(n:I):eV n 3=[(0,n),(n,n),(n+n,4*Ws (n+1) 1024)]:=by unfold eV layout;rw[XT U,XT U];simp[places]
end
end Go.Pol
namespace Go.Proofs.Q9
section
open Go Go.Vc Go.Bw Go.Pol Go.Srt
structure EC where
 n:I
 mode:I
 A:AS
 held:Q I
 all:Q I
 begun:XS
 closed:XS
structure k7 (C:EC):Prop where
 n1:1≤C.n
 n2:C.n≤65536
 m1:1≤C.mode
 m3:C.mode≤3
 live:aK C.n 1 C.mode=C.A.live
 len:C.held.length≤C.n
 hb:∀x∈C.held,x<256
 ab:∀x∈C.all,x<256
def dG(p:I×I):Q XQ:=[.int .i64 (p.1:H),.int .i64 (p.2:H)]
def dE(p:I×I):(dG p).length=2:=U
abbrev iy(b:I)(C:EC)(sp:Sl):HP:=ah b (.cells ⟨[.int .i64 (C.n:H),.int .i64 (C.held.length:H),.int .u8 (C.mode:H),pA C.A,.slice sp.base sp.len sp.cap,.int .u32 (Crc.bQ C.held:H),.int .u32 (Crc.bQ C.all:H),.bool C.begun,.bool C.closed]⟩ 154 (0,0))
abbrev iD(C:EC)(sp:Sl):HP:=ao 2 sp ((eV C.n C.mode).flatMap dG)
abbrev pE(b:I):XQ:=.pointer (O ⟨b,0,Z⟩)
section
variable{E w:G}{F:Q HP}{b:I}{C:EC}{sp:Sl}{f:I→I}
theorem Ju{a:Q (I×I)}{i:I}{G:Q HP}{K:H×H×Unit→Prop}(h:Hp E w G)(d:ad G (aD 2 sp (a.flatMap dG)))(e:i<a.length)(g:K ((a[i].1:H),(a[i].2:H),())):ax sp (i:H) 2 λq=>Ld (.st [.int .i64,.int .i64]) q w K:=by refine ax.el dE Zb (h.an d) U e λp k=>Ld.st (ks:=[.int .i64,.int .i64]) ((a[i].1:H),(a[i].2:H),()) (λj c=>?_) g;have c:j<2:=c;rw[k j c];match j,c with|0,_=>rfl|1,_=>rfl
theorem rN{i:I}{K:H×H×Unit→G→Prop}(h:Hp E w (iy b C sp::iD C sp::F))(a:i<(eV C.n C.mode).length)(c:∀w',Hp E w' (iy b C sp::iD C sp::F)→K ((((eV C.n C.mode)[i]).1:H),(C.held.length:H),()) w'):Cl Zf [.st [.int .i64,.int .i64]] 202 ⟨[pE b,.int .i64 (i:H)]⟩ w K:=by refine tQ.ok _ _ _ _ ?_;refine Nw.mk h λd w h=>aB.mk h λw h=>?_;(try simp only[aq,aj,Zj]);refine Ld.xb (b:=b) (x:=sp) h U ?_;refine ax.el dE Zb (h.an (ad.at 2 ad.own)) U a λp e=>?_;refine Ld.sc (s:=.int .i64) (((eV C.n C.mode)[i]).1:H) (by have:=e 0 Zb;simpa[dG,Sc.enc]using this) ?_;refine Ld.xb (b:=b) h U ?_;(with_reducible refine ak.xw h U U λw h=>?_);exact Ld.xt (b:=d) h U (c w (h.no 0))
theorem FU{n mode:I}:∃h:0<(eV n mode).length,(eV n mode)[0]=(0,n):=by obtain⟨r,e⟩:=Tv (n:=n) (mode:=mode);exact⟨by rw[e];simp,by simp[e]⟩
theorem k7.FR(a:k7 C):C.n≤C.A.live:=by rw[←a.live];unfold aK layout;rw[XT U];split<;>simp
theorem VC{K:G→Prop}(m:k7 C)(h:Hp E w (iy b C sp::iD C sp::Ar C.A f::F))(v:∀g w',aX g 0 C.held.length=(aX f 0 C.held.length).reverse→Hp E w' (iy b C sp::iD C sp::Ar C.A g::F)→K w'):Cl Zf [] 139 ⟨[pE b]⟩ w K:=by refine tn.ok _ _ _ ?_;have y:=m.n2;have c:=m.len;have o:=m.FR;obtain⟨z,B⟩:=FU (n:=C.n) (mode:=C.mode);(try simp only[aq,aj,Zj]);refine Ld.xb (b:=b) (x:=sp) h rfl ?_;refine Ju (i:=0) h (ad.at 1 ad.own) z ?_;rw[B];refine Nw.mk h λe w h=>?_;(with_reducible refine ak.xw h rfl rfl λw h=>?_);refine aB.mk h λw h=>?_;(skip);refine Ld.xb (b:=b) h rfl ?_;rw[ae Za];generalize u:C.held.length=L at c;have D:=u;refine⟨λi k w=>∃d:I,i=(d:H)∧k=(L:H)-1-(d:H)∧2*d≤L+1∧Hp E w (Ar C.A (k8 f L d)::ah e (.cells ⟨[.int .i64 ((0:I):H),.int .i64 (C.n:H)]⟩ 156 (0,0))::iy b C sp::iD C sp::F),λi _ _=>L-i.toNat,⟨0,rfl,Za,Za,by rw[Ov];exact h.at 3⟩,?_⟩;rintro i k w ⟨d,rfl,rfl,hd,h⟩;refine aa.dm (λM=>?_) λN=>?_;{obtain⟨k,P⟩:∃k:I,(L:H)-1-(d:H)=(k:H):=⟨L-1-d,Za⟩;rw[P];have r:d+k+1=L:=by{omega};have s:d<k:=by{omega};obtain⟨l,_⟩:=Ar.bU h;refine aB.mk h λw h=>?_;(try simp only[]);refine Ld.xb (b:=b) h rfl (Ld.xt (b:=e) h rfl ?_);refine fL (p:=0) (q:=C.n) h Za (λj Q t w h=>?_) λa=>X8 ⟨Za,Za⟩ a;obtain rfl:d=j:=by{omega};refine aB.mk h λw h=>?_;(try simp only[Zj]);refine Ld.xb (b:=b) h rfl (Ld.xt (b:=e) h rfl ?_);refine fL (p:=0) (q:=C.n) h Za (λj Q t w h=>?_) λa=>X8 ⟨Za,Za⟩ a;obtain rfl:k=j:=by{omega};refine aB.mk h λw h=>?_;(try simp only[Zj]);refine Ld.xb (b:=b) h rfl (Ld.xt (b:=e) h rfl ?_);refine kA (p:=0) (q:=C.n) h Za Za (l.byt _) λw h=>?_;refine aB.mk h λw h=>?_;(skip);refine Ld.xb (b:=b) h rfl (Ld.xt (b:=e) h rfl ?_);refine kA (p:=0) (q:=C.n) h Za Za (l.byt _) λw h=>?_;rw[ae Za,ae Za];refine⟨⟨d+1,Za,Za,Za,?_⟩,by first|omega|(dsimp only;omega)⟩;simp only[Zj]at h;rw[Ri r s]at h;exact h};refine v (k8 f L d) w (by rw[u];exact TX Za) ?_;exact(((h.no 1).at 2).at 2)
theorem SX{K:H×H×Unit→H→G→Prop}(a:k7 C)(r:1≤C.held.length)(h:Hp E w (iy b C sp::iD C sp::Ar C.A f::F))(k:∀g w',aX g 0 C.held.length=aR (aX f 0 C.held.length)→Hp E w' (iy b C sp::iD C sp::Ar C.A g::F)→K (((0:I):H),(C.held.length:H),()) (bH (aX f 0 C.held.length):H) w'):Cl Zf [.st [.int .i64,.int .i64],kI] 137 ⟨[pE b]⟩ w K:=by refine sj.ok _ _ _ ?_;have l:=a.n2;have d:=a.len;have c:=a.FR;obtain⟨e,j⟩:=FU (n:=C.n) (mode:=C.mode);refine Nw.mk h λm w h=>?_;have h:=h.drew (n:=w.drawn+1);(try simp only[aq,aj,Zj]);refine⟨bS b _ _ (0,0),h.hb,ay.xb (λ_ h=>h) U ?_⟩;refine rN (i:=0) ((h.at 2).at 2) e λw h=>⟨h.hb,?_⟩;rw[j];refine S7 (p:=0) (q:=C.held.length) (h.at 3) Za Za Za λg s w o _ h=>⟨h.hb,?_⟩;refine rN (i:=0) ((h.at 2).at 2) e λw h=>?_;rw[j];(with_reducible refine ak.xw h U U λw h=>?_);exact Ld.xt (b:=m) h U (k g w o (h.no 3))
theorem xL{a:Q (I×I)}{i:I}{S:G→Prop}{K:H×H×Unit→Prop}(h:aD 2 sp (a.flatMap dG) w)(l:∀w',S w'→aD 2 sp (a.flatMap dG) w')(m:i<a.length)(n:K ((a[i].1:H),(a[i].2:H),())):ax sp (i:H) 2 λq=>ay (.st [.int .i64,.int .i64]) q S K:=by have o:=h.1;rw[cO dE]at o;obtain⟨p,k,_⟩:=h.2 0 (by rw[cO dE];omega);refine ax.mk k Za Za (BP (ks:=[.int .i64,.int .i64]) ((a[i].1:H),(a[i].2:H),()) (λw' r j c=>?_) n);have c:j<2:=c;have s:=l w' r;obtain⟨d,g,t⟩:=s.2 (i*2+j) (by rw[cO dE];omega);obtain rfl:d=p:=XN (g.symm.trans k);rw[Zj,Zl,show(d.add (i*2)).add j=d.add (i*2+j) by unfold Zk;by_cases e1:i*2=0<;>by_cases e2:j=0<;>simp[e1,e2,Yp],t];have e:=kC dE a i j m c;rw[Zh (by rw[cO dE];omega)]at e;rw[e];have:j=0∨j=1:=Za;rcases this with rfl|rfl<;>rfl
theorem abq{K:H×H×Unit→H→Wa→Prop}(d:k7 C)(p:1≤C.held.length)(k:C.mode=3)(h:Hp E w (iy b C sp::iD C sp::Ar C.A f::F))(q:∀g w',aX g C.n C.held.length=aR (aX f 0 C.held.length)→Hp E w' (iy b C sp::iD C sp::Ar C.A g::F)→K ((C.n:H),(C.held.length:H),()) (bH (aX f 0 C.held.length):H) w'):Cl Zf [.st [.int .i64,.int .i64],kI] 138 ⟨[pE b]⟩ w K:=by refine uM.ok _ _ _ ?_;have r:=d.n1;have t:=d.n2;have l:=d.len;have c:eV C.n C.mode=[(0,C.n),(C.n,C.n),(C.n+C.n,4*Ws (C.n+1) 1024)]:=by{rw[k];exact Tx _};have e:C.n+C.n+4*Ws (C.n+1) 1024≤C.A.live:=by{rw[←d.live,k];unfold aK layout;rw[XT U,XT U];simp;omega};refine Nw.mk h λu w h=>?_;have h:=h.drew (n:=w.drawn+1);(try simp only[aq,aj,Zj]);have a:∀{w:Wa}{G:Q HP},Hp E w (iy b C sp::iD C sp::G)→bS b _ _ (0,0) w∧aD 2 sp ((eV C.n C.mode).flatMap dG) w:=λ{w G} h=>⟨h.hb,h.an (ad.at 1 ad.own)⟩;have j:=(h.at 2).at 2;have o:∀h,(eV C.n C.mode)[1]' h=(C.n,C.n):=by{rw[c];intro h;rfl};have v:∀h,(eV C.n C.mode)[2]' h=(C.n+C.n,4*Ws (C.n+1) 1024):=by{rw[c];intro h;rfl};have y:(eV C.n C.mode).length=3:=by{rw[c];rfl};obtain⟨z,B⟩:=FU (n:=C.n) (mode:=C.mode);refine⟨λw=>bS b _ _ (0,0) w∧aD 2 sp ((eV C.n C.mode).flatMap dG) w,a j,ay.xb (λ_ h=>h.1) U (ay.xb (x:=sp) (λ_ h=>h.1) U ?_)⟩;refine xL (i:=2) (a j).2 (λ_ h=>h.2) Za ?_;rw[v];refine rN (i:=0) j z λw h=>⟨a h,?_⟩;rw[B];refine rN (i:=1) h Za λw h=>⟨a h,?_⟩;rw[o];refine RD (pt:=0) (m:=C.held.length) (pc:=C.n) (pr:=C.n+C.n) (R:=Ws (C.n+1) 1024) (h.at 3) Za Za Za p Za Za Za Za Za Za λg s w D h=>?_;have h:=(h.at 2).at 2;refine⟨a h,rN (i:=1) h Za λw h=>?_⟩;rw[o];(with_reducible refine ak.xw h U U λw h=>?_);exact Ld.xt (b:=u) h U (q g w D (h.no 3))
end
def we:Prop:=∀{E w:G}{F:Q HP}{b:I}{C:EC}{sp:Sl}{f:I→I}{K:H×H×Unit→H→G→Prop},k7 C→1≤C.held.length→C.mode=3→Hp E w (iy b C sp::iD C sp::Ar C.A f::F)→(∀g w',aX g C.n C.held.length=aR (aX f 0 C.held.length)→Hp E w' (iy b C sp::iD C sp::Ar C.A g::F)→K ((C.n:H),(C.held.length:H),()) (bH (aX f 0 C.held.length):H) w')→Cl Zf [.st [.int .i64,.int .i64],kI] 138 ⟨[pE b]⟩ w K
def acM:we:=λa c d h e=>abq a c d h e
end
section
open Go Go.Vc
set_option maxRecDepth 100000
def Ob.ok(a:Sl)(R:Sl→G→Prop) w(h:Cl Pg [(.arr 257)] 208 ⟨[]⟩ w λc b=>Cl Pg [(.arr 257),kS,kI] 207 ⟨[(.agg c),(ag a)]⟩ b λe(f:Sl)(g:H) d=>Nw 296 ⟨Zi 256 (.int .u8 0)++[(ni 0)]⟩ d λi h=>aA 257 ⟨i,0,Z⟩ e h λj=>Ld (.arr 257) ⟨i,0,Z⟩ j λk=>Cl Pg [kS,kI] 209 ⟨[(.agg k)]⟩ j λ(m:Sl)(n:H) l=>av Pg (ZC #[25,25] 25 ⟨[(ag f),(ag m)]⟩) kS l λ(p:Sl) o=>R p o):Cl Pg [kS] 141 ⟨[(ag a)]⟩ w R:=co Tryz.f141 [] h
def JC.ok(a:(XU XQ))(b:Sl)(R:(XU XQ)→Sl→H→G→Prop) w(h:Nw 296 a w λd c=>Nw 296 ⟨Zi 256 (.int .u8 0)++[(ni 0)]⟩ c λf e=>aI (λ(r:G)=>de (⟨Z,0,0⟩:Sl) 0 r λs t(u:Sl)(v:H) x=>aa (K (v<(b.len:H))) (ax b v 1 λy=>Ld (au .u8) y x λ(z:H)=>Ld (.arr 256) (Zk ⟨d,0,Z⟩ 0) x λI=>Cl Pg [(.arr 256),kI] 282 ⟨[(.agg I),(.int .u8 z)]⟩ x λL(B:H) M=>aA 256 (Zk ⟨d,0,Z⟩ 0) L M λA=>aa (B==0) (Ld kI (Zk ⟨d,0,Z⟩ 256) A λ(N:H)=>St (Zk ⟨d,0,Z⟩ 256) (ni (i64 (N+1))) A λC=>s u (i64 (v+1)) C∧t u (i64 (v+1)) C<t u v x) (Ld kI (Zk ⟨d,0,Z⟩ 256) A λ(P:H)=>Cl Pg [kS,kI] 283 ⟨[(ni P)]⟩ A λ(Q:Sl)(k1:H) S=>av Pg (ZC #[25,25] 25 ⟨[(ag u),(ag Q)]⟩) kS S λ(T:Sl) W=>Nw 3 ⟨[(ni (i64 (B+1)))]⟩ W λX Y=>av Pg (ZC #[25,25] 25 ⟨[(ag T),(ag (⟨O ⟨X,0,Z⟩,1,1⟩:Sl))]⟩) kS Y λ(D:Sl) p1=>St (Zk ⟨d,0,Z⟩ 256) (ni 0) p1 λE=>s D (i64 (v+1)) E∧t D (i64 (v+1)) E<t u v x)) (Ld (.arr 257) ⟨d,0,Z⟩ x λs1=>aA 257 ⟨f,0,Z⟩ s1 x λF=>Ld (.arr 257) ⟨f,0,Z⟩ F λu1=>R u1 u 0 F)) λg=>Ld (.arr 257) ⟨d,0,Z⟩ e λh=>Cl Pg [kB] 281 ⟨[(.agg h)]⟩ e λ(j:XS) i=>aa (! j) (Ld (.arr 257) ⟨d,0,Z⟩ i λk=>aA 257 ⟨f,0,Z⟩ k i λl=>Ld (.arr 257) ⟨f,0,Z⟩ l λm=>R m (⟨Z,0,0⟩:Sl) 2 l) (Ld kI (Zk ⟨d,0,Z⟩ 256) i λ(n:H)=>aa (K ((b.len:H)>(i64 ((2147483647:H)-n)))) (Ld (.arr 257) ⟨d,0,Z⟩ i λo=>aA 257 ⟨f,0,Z⟩ o i λp=>Ld (.arr 257) ⟨f,0,Z⟩ p λq=>R q (⟨Z,0,0⟩:Sl) 2 p) (g i))):Cl Pg [(.arr 257),kS,kI] 207 ⟨[(.agg a),(ag b)]⟩ w R:=co Tryz.f207 [(2,[]),(14,[(7,kS),(27,kI)])] h
def Nl.ok(R:(XU XQ)→G→Prop) w(h:Nw 296 ⟨Zi 256 (.int .u8 0)++[(ni 0)]⟩ w λb a=>Cl Pg [(.arr 256)] 284 ⟨[]⟩ a λd c=>dc Pg 296 [(0,(.agg d))] λe=>aA 257 ⟨b,0,Z⟩ e c λf=>Ld (.arr 257) ⟨b,0,Z⟩ f λg=>R g f):Cl Pg [(.arr 257)] 208 ⟨[]⟩ w R:=co Tryz.f208 [] h
def NA.ok(a:(XU XQ))(R:Sl→H→G→Prop) w(h:Nw 296 a w λc b=>Ld (.arr 257) ⟨c,0,Z⟩ b λd=>Cl Pg [kB] 281 ⟨[(.agg d)]⟩ b λ(f:XS) e=>aa (! f) (R (⟨Z,0,0⟩:Sl) 2 e) (Ld kI (Zk ⟨c,0,Z⟩ 256) e λ(g:H)=>Cl Pg [kS,kI] 283 ⟨[(ni g)]⟩ e λ(i:Sl)(j:H) h=>Nw 3 ⟨[(ni 257)]⟩ h λl k=>av Pg (ZC #[25,25] 25 ⟨[(ag i),(ag (⟨O ⟨l,0,Z⟩,1,1⟩:Sl))]⟩) kS k λ(n:Sl) m=>R n 0 m)):Cl Pg [kS,kI] 209 ⟨[(.agg a)]⟩ w R:=co Tryz.f209 [] h
def Iz.ok(a:(XU XQ))(R:XS→G→Prop) w(h:Nw 296 a w λc b=>dI b λd e=>ay (.arr 257) ⟨c,0,Z⟩ d λf=>Cl Pg [(.arr 257)] 208 ⟨[]⟩ e λh g=>d g∧wj Pg 296 f h λi=>aa i (R J g) (ay kI (Zk ⟨c,0,Z⟩ 256) d λ(j:H)=>aa (K (j≥0)) (ay kI (Zk ⟨c,0,Z⟩ 256) d λ(k:H)=>aa (K (k≤2147483647)) (ay (.arr 256) (Zk ⟨c,0,Z⟩ 0) d λl=>Cl Pg [kB] 340 ⟨[(.agg l)]⟩ g λ(n:XS) m=>d m∧R n m) (R V g)) (R V g))):Cl Pg [kB] 281 ⟨[(.agg a)]⟩ w R:=co Tryz.f281 [] h
def abk.ok(a:(XU XQ))(b:H)(R:(XU XQ)→H→G→Prop) w(h:Nw 178 a w λd c=>Nw 178 ⟨Zi 256 (.int .u8 0)⟩ c λf e=>bV (⟨O ⟨d,0,Z⟩,256,256⟩:Sl) 0 256 256 1 λg=>Cl Pg [kI] 341 ⟨[(ag g),(.int .u8 b)]⟩ e λ(i:H) h=>Ld (.arr 256) ⟨d,0,Z⟩ h λj=>Cl Pg [(.arr 256),(au .u8),kB] 342 ⟨[(.agg j),(ni i)]⟩ h λl(m:H)(n:XS) k=>aA 256 ⟨f,0,Z⟩ l k λo=>Ld (.arr 256) ⟨f,0,Z⟩ o λp=>aA 256 ⟨f,0,Z⟩ p o λq=>Ld (.arr 256) ⟨f,0,Z⟩ q λr=>R r i q):Cl Pg [(.arr 256),kI] 282 ⟨[(.agg a),(.int .u8 b)]⟩ w R:=co Tryz.f282 [] h
def aad.ok(R:(XU XQ)→G→Prop) w(h:Nw 178 ⟨Zi 256 (.int .u8 0)⟩ w λb a=>ec 0 a λc d(e:H) f=>aa (K (e<256)) (aH ⟨b,0,Z⟩ 256 e 1 λg=>St g (.int .u8 (u8 e)) f λh=>c (i64 (e+1)) h∧d (i64 (e+1)) h<d e f) (Ld (.arr 256) ⟨b,0,Z⟩ f λi=>aA 256 ⟨b,0,Z⟩ i f λj=>Ld (.arr 256) ⟨b,0,Z⟩ j λk=>R k j)):Cl Pg [(.arr 256)] 284 ⟨[]⟩ w R:=co Tryz.f284 [(5,[(2,kI)])] h
def O1.ok(a:(XU XQ))(R:XS→G→Prop) w(h:Nw 178 a w λc b=>Nw 343 ⟨Zi 256 (ni 0)⟩ b λe d=>Ld (.arr 256) ⟨c,0,Z⟩ d λf=>ec 0 d λg h(i:H) j=>aa (K (i<256)) (fg (.int .u8) f 256 i λ(k:H)=>aH ⟨e,0,Z⟩ 256 k 1 λl=>St l (ni 1) j λm=>g (i64 (i+1)) m∧h (i64 (i+1)) m<h i j) (dI j λn o=>ay (.arr 256) ⟨e,0,Z⟩ n λp=>Cl Pg [(.arr 256)] 379 ⟨[]⟩ o λr q=>n q∧AR .i64 256 p r λs=>R s q)):Cl Pg [kB] 340 ⟨[(.agg a)]⟩ w R:=co Tryz.f340 [(7,[(7,kI)])] h
def TQ.ok(a:(XU XQ))(b:H)(R:(XU XQ)→H→XS→G→Prop) w(h:Nw 178 a w λd c=>Nw 178 ⟨Zi 256 (.int .u8 0)⟩ c λf e=>aa (K (b<0)) (Ld (.arr 256) ⟨d,0,Z⟩ e λg=>aA 256 ⟨f,0,Z⟩ g e λh=>Ld (.arr 256) ⟨f,0,Z⟩ h λi=>R i 0 V h) (aa (K (b≥256)) (Ld (.arr 256) ⟨d,0,Z⟩ e λj=>aA 256 ⟨f,0,Z⟩ j e λk=>Ld (.arr 256) ⟨f,0,Z⟩ k λl=>R l 0 V k) (aB e λm=>Ld (.arr 256) ⟨d,0,Z⟩ m λn=>aH ⟨d,0,Z⟩ 256 b 1 λo=>Ld (au .u8) o m λ(p:H)=>aA 256 ⟨f,0,Z⟩ n m λq=>aB q λr=>bV (⟨O ⟨f,0,Z⟩,256,256⟩:Sl) 1 (i64 (b+1)) 256 1 λs=>bV (⟨O ⟨d,0,Z⟩,256,256⟩:Sl) 0 b 256 1 λt=>av Pg (Wh.copy_ #[24,24] 3 ⟨[(ag s),(ag t)]⟩) kI r λ(v:H) u=>aH ⟨f,0,Z⟩ 256 0 1 λx=>St x (.int .u8 p) u λy=>Ld (.arr 256) ⟨f,0,Z⟩ y λz=>aA 256 ⟨f,0,Z⟩ z y λA=>Ld (.arr 256) ⟨f,0,Z⟩ A λB=>R B p J A))):Cl Pg [(.arr 256),(au .u8),kB] 342 ⟨[(.agg a),(ni b)]⟩ w R:=co Tryz.f342 [] h
def R7.ok(R:(XU XQ)→G→Prop) w(h:Nw 343 ⟨Zi 256 (ni 0)⟩ w λb a=>ec 0 a λc d(e:H) f=>aa (K (e<256)) (aH ⟨b,0,Z⟩ 256 e 1 λg=>St g (ni 1) f λh=>c (i64 (e+1)) h∧d (i64 (e+1)) h<d e f) (Ld (.arr 256) ⟨b,0,Z⟩ f λi=>aA 256 ⟨b,0,Z⟩ i f λj=>Ld (.arr 256) ⟨b,0,Z⟩ j λk=>R k j)):Cl Pg [(.arr 256)] 379 ⟨[]⟩ w R:=co Tryz.f379 [(5,[(2,kI)])] h
def Dl.ok(a:H)(R:Sl→H→G→Prop) w(h:Nw 25 ⟨[(.slice Z 0 0)]⟩ w λc b=>aa (K (a<0)) (St ⟨c,0,Z⟩ (.slice Z 0 0) b λd=>Ld kS ⟨c,0,Z⟩ d λ(e:Sl)=>R e 2 d) (aa (K (a>2147483647)) (St ⟨c,0,Z⟩ (.slice Z 0 0) b λf=>Ld kS ⟨c,0,Z⟩ f λ(g:Sl)=>R g 2 f) (Cl Pg [kV] 343 ⟨[(ni a)]⟩ b λi h=>gJ Pg i [kI] h (λ(j:I)(k:I→Obj)(o:H)(l:G)(m n:G→Prop)=>pF j k l λp=>Ld kS ⟨c,0,Z⟩ p λ(q:Sl)=>Nw 3 ⟨[(ni o)]⟩ p λs r=>av Pg (ZC #[25,25] 25 ⟨[(ag q),(ag (⟨O ⟨s,0,Z⟩,1,1⟩:Sl))]⟩) kS r λ(u:Sl) t=>St ⟨c,0,Z⟩ (ag u) t λv=>kZ j k v m) (λx y=>Ld kS ⟨c,0,Z⟩ y λ(z:Sl)=>St ⟨c,0,Z⟩ (ag z) y λC=>ij (x::[]:Q I) C λA=>Ld kS ⟨c,0,Z⟩ A λ(D:Sl)=>R D 0 A) λE F=>ij (E::[]:Q I) F λB=>Ld kS ⟨c,0,Z⟩ B λ(L:Sl)=>R L 0 B))):Cl Pg [kS,kI] 283 ⟨[(ni a)]⟩ w R:=wH Tryz.f283 (.s .o (.s (.s .o (.c (.s .o .o) .o)) (.s (.s .o (.b (.r [kI] .o (.b .o)))) (.s .o .o)))) h
def G9.ok(a:H)(R:XQ→G→Prop) w(h:Nw 3 ⟨[(ni a)]⟩ w λc b=>R (.func (.func 381) ⟨[]⟩ ⟨[(.pointer (O ⟨c,0,Z⟩))]⟩) b):Cl Pg [kV] 343 ⟨[(ni a)]⟩ w R:=co Tryz.f343 [] h
def KC.ok(a:H)(b:H)(c:H)(R:H→H→G→Prop) w(h:aI (λ(e:G)=>0≤b∧aa (K ((i64 (a+(bq .i64 (i64 ((1:H)+c)) b)))>2147483647)) (R 0 2 e) (R (i64 (a+(bq .i64 (i64 ((1:H)+c)) b))) 0 e)) λd=>aa (K (a<0)) (R 0 2 w) (aa (K (a>2147483647)) (R 0 2 w) (aa (K (b<0)) (R 0 2 w) (aa (K (b>30)) (R 0 2 w) (aa (c !=0) (aa (c !=1) (R 0 2 w) (d w)) (d w)))))):Cl Pg [kI,kI] 360 ⟨[(ni a),(ni b),(ni c)]⟩ w R:=co Tryz.f360 [(2,[])] h
def DQ.ok(a:XQ)(b:X6)(R:G→Prop) w(h:∃(c:G→Prop)(d:G→I),c w∧∀(e:G),c e→Ld kI b e λ(f:H)=>aa (K (f>0)) (Ld kI b e λ(g:H)=>me Pg a [kB] [(ni (cd .i64 (i64 (g-1)) 1))] e λ(i:XS) h=>aa (! i) (R h) (Ld kI b h λ(j:H)=>0≤(1:H)∧St b (ni (aG .i64 (i64 (j-1)) (1:H))) h λk=>([]:Q I)=([]:Q I)∧c k∧d k<d e)) (R e)):Cl Pg [] 381 ⟨[a,(.pointer (O b))]⟩ w R:=wH Tryz.f381 (.b (.l [] (.s (.s .o (.c .o .o)) (.s (.b (.s .o (.c .o .o))) .o)))) h
end
end Go.Proofs.Q9
namespace Go.Sym
section
open Go.Inc
def cX(L:Q I)(p:I):Q I:=L.getD p 0::L.eraseIdx p
def A5{L:Q I}{p:I}(a:p<L.length):(cX L p).Perm L:=by unfold cX;have e:L.getD p 0=L[p]:=by{simp[YF,a]};rw[e];rw[Q.eraseIdx_eq_take_drop_succ];have b:L.take p++L[p]::L.drop (p+1)=L:=by{rw[Q.getElem_cons_drop,Zt]};exact List.perm_middle.symm.trans (Q.Perm.of_eq b)
def PY{L:Q I}{p:I}(a:p<L.length):(cX L p).length=L.length:=(A5 a).length_eq
def bW(L:Q I):Prop:=L.Perm (Zs 256)
def bW.len{L:Q I}(h:bW L):L.length=256:=by rw[h.length_eq,YN]
def bW.mem{L:Q I}(h:bW L){c:I}:c∈L↔c<256:=by rw[h.mem_iff,Xb]
def bW.nodup{L:Q I}(h:bW L):L.Nodup:=h.nodup_iff.2 Q.nodup_range
def bW.take{L:Q I}(h:bW L){p:I}(a:p<256):bW (cX L p):=(A5 (by rw[h.len];exact a)).trans h
def bW.range:bW (Zs 256):=Q.Perm.refl _
def bW.get{L:Q I}(h:bW L){p:I}(a:p<256):L.getD p 0<256:=by have b:=h.len;have:L.getD p 0=L[p]:=by{simp[YF,b,a]};rw[this];exact h.mem.1 (Zu _)
def bW.idx{L:Q I}(h:bW L){c:I}(b:c<256):L.idxOf c<256∧L.getD (L.idxOf c) 0=c:=by have d:=h.mem.2 b;have e:=h.len;have a:=Q.idxOf_lt_length_of_mem d;refine⟨Za,?_⟩;rw[YF,Zh a,Q.getElem_idxOf a];rfl
def bW.AZ{L:Q I}(h:bW L){p:I}(a:p<256):L.idxOf (L.getD p 0)=p:=by have b:=h.len;have e:L.getD p 0=L[p]:=by{simp[YF,b,a]};have d:=h.idx (h.get a);have c:L[L.idxOf (L.getD p 0)]' Za=L[p]:=Ze;exact(Q.getElem_inj h.nodup).1 c
def da(n:I):Q I:=if _h:n=0 then[]else(n-1)%2::da ((n-1)/2)
termination_by n
decreasing_by omega
def pk:da 0=[]:=by rw[da];simp
def oO{n:I}(h:0<n):da n=(n-1)%2::da ((n-1)/2):=by rw[da,dif_neg Za]
def Lf(n:I):∀d∈da n,d<2:=by induction n using ZV with|ind n b=>(rcases Z8 n with e|e);{rw[e,pk];simp};rw[oO e];intro d a;(rcases List.mem_cons.1 a with h|h);{omega};grind
def ez:List Nat→Nat→List Nat→List Nat×List Nat×Nat
 |L,r,[]=>([],L,r)
 |L,r,c::b=>
  if L.idxOf c=0 then ez (cX L 0) (r+1) b
  else
   let x:=ez (cX L (L.idxOf c)) 0 b
   (da r++(L.idxOf c+1)::x.1,x.2)
def dn(L:Q I)(r:I)(b:Q I):Q I:=(ez L r b).1++da (ez L r b).2.2++[257]
def syms(b:Q I):Q I:=dn (Zs 256) 0 b
def l7(L:Q I)(r:I):dn L r []=da r++[257]:=by simp[dn,ez]
def kW{L:Q I}{r c:I}{b:Q I}(h:L.idxOf c=0):dn L r (c::b)=dn (cX L 0) (r+1) b:=by unfold dn;rw[ez,XT h]
def mz{L:Q I}{r c:I}{b:Q I}(h:L.idxOf c≠0):dn L r (c::b)=da r++(L.idxOf c+1)::dn (cX L (L.idxOf c)) 0 b:=by unfold dn;rw[ez,XR h];simp
structure DS where
 L:Q I
 left:I
 run:I
 digits:I
def ck(d:DS)(s:I):XV (DS×Q I×XS):=if s<2 then if d.run+(1+s)*2^d.digits≤d.left then O (⟨d.L,d.left,d.run+(1+s)*2^d.digits,d.digits+1⟩,[],V)else Z else if s=257 then if d.run=d.left then O (⟨d.L,0,0,0⟩,Zi d.run (d.L.getD 0 0),J)else Z else if d.run=d.left then Z else O (⟨cX d.L (s-1),d.left-(d.run+1),0,0⟩,Zi d.run (d.L.getD 0 0)++[d.L.getD (s-1) 0],V)
def j9(d:DS×Q I)(s:I):vU (DS×Q I) (Q I) I:=match ck d.1 s with|none=>.bad 160|some (_,t,true)=>.fin (d.2++t)|some (a,t,false)=>.more (a,d.2++t)
def ux{d a:DS}{acc t:Q I}{s:I}(h:ck d s=O (a,t,V)):j9 (d,acc) s=.more (a,acc++t):=by unfold j9;rw[h]
def C4{d a:DS}{acc t:Q I}{s:I}(h:ck d s=O (a,t,J)):j9 (d,acc) s=.fin (acc++t):=by unfold j9;rw[h]
def MF{d:DS}{acc:Q I}{s:I}(h:ck d s=Z):j9 (d,acc) s=.bad 160:=by unfold j9;rw[h]
def GP(L:Q I)(left:I)(acc a:Q I):∀(n q k:I),q+n*2^k≤left→∃b,run j9 (⟨L,left,q,k⟩,acc) (da n++a)=run j9 (⟨L,left,q+n*2^k,b⟩,acc) a:=by intro n;induction n using ZV with|ind n c=>intro q k d;(rcases Z8 n with e|e);{subst e;exact⟨k,by rw[pk];simp⟩};rw[oO e];have g:(1+(n-1)%2)*2^k+(n-1)/2*2^(k+1)=n*2^k:=by{rw[Yu,Yi (2^k) 2,←XB,←YW];congr 1;omega};obtain⟨b,h⟩:=c ((n-1)/2) Za (q+(1+(n-1)%2)*2^k) (k+1) Za;refine⟨b,?_⟩;have f:ck ⟨L,left,q,k⟩ ((n-1)%2)=O (⟨L,left,q+(1+(n-1)%2)*2^k,k+1⟩,[],V):=by{unfold ck;simp only;rw[XT Za,XT Za]};rw[ZK,dK (ux f),ZF,h];congr 3;omega
def tJ{L:Q I}(a:bW L){c:I}(b:c<256)(h:L.idxOf c=0):L.getD 0 0=c∧cX L 0=L:=by have:=(a.idx b).2;rw[h]at this;refine⟨this,?_⟩;unfold cX;cases L with|nil=>have:=a.len;simp at this|cons x L=>rfl
def wC:∀(b L:Q I)(r left:I)(acc a:Q I),bW L→(∀x∈b,x<256)→left=r+b.length→run j9 (⟨L,left,0,0⟩,acc) (dn L r b++a)=.fin (acc++Zi r (L.getD 0 0)++b) a|[],L,r,left,acc,a,hL,_,hl=>by{rw[l7,Zm];obtain⟨e,h⟩:=GP L left acc ([257]++a) r 0 0 (by simp at hl;omega);rw[h];have f:ck ⟨L,left,0+r*2^0,e⟩ 257=O (⟨L,0,0,0⟩,Zi r (L.getD 0 0),J):=by{unfold ck;simp only[Zj,I.pow_zero,ZB];rw[XR Zb,XT trivial,XT (by simp at hl;omega)]};show run j9 _ (257::a)=_;rw[Dg (C4 f)];simp}|c::b,L,r,left,acc,a,hL,hb,hl=>by have g:=hb c ZI;have d:∀x∈b,x<256:=λx i=>hb x (Zw _ i);simp only[Zp]at hl;by_cases h0:L.idxOf c=0;{obtain⟨j,k⟩:=tJ hL g h0;rw[kW h0,k,wC b L (r+1) left acc a hL d Za,j,Q.replicate_succ'];simp};obtain⟨l,m⟩:=hL.idx g;rw[mz h0,Zm];obtain⟨e,h⟩:=GP L left acc ((L.idxOf c+1)::dn (cX L (L.idxOf c)) 0 b++a) r 0 0 Za;rw[h];have f:ck ⟨L,left,0+r*2^0,e⟩ (L.idxOf c+1)=O (⟨cX L (L.idxOf c),left-(r+1),0,0⟩,Zi r (L.getD 0 0)++[c],V):=by{unfold ck;simp only[Zj,I.pow_zero,ZB,I.add_sub_cancel,m];rw[XR Za,XR Za,XR Za]};rw[ZK,dK (ux f)];rw[wC b (cX L (L.idxOf c)) 0 (left-(r+1)) _ a (hL.take l) d Za];simp
def EX{b:Q I}(c:∀x∈b,x<256)(a:Q I):run j9 (⟨Zs 256,b.length,0,0⟩,[]) (syms b++a)=.fin b a:=by unfold syms;rw[wC b _ 0 b.length [] a bW.range c Za];simp
def rB:∀(b L:Q I)(r:I),bW L→(∀x∈b,x<256)→∀s∈dn L r b,s≤257|[],L,r,_,_=>λs a=>by rw[l7]at a;(rcases List.mem_append.1 a with h|h);{have:=Lf _ s h;omega};rw[ZL]at h;omega|c::b,L,r,hL,hb=>λs a=>by have e:=hb c ZI;have d:∀x∈b,x<256:=λx f=>hb x (Zw _ f);obtain⟨g,_⟩:=hL.idx e;by_cases h0:L.idxOf c=0;{rw[kW h0]at a;exact rB b _ (r+1) (hL.take Zb) d s a};rw[mz h0]at a;(rcases List.mem_append.1 a with h|h);{have:=Lf _ s h;omega};(rcases List.mem_cons.1 h with h|h);{omega};exact rB b _ 0 (hL.take g) d s h
def xI{b:Q I}(a:∀x∈b,x<256):∀s∈syms b,s≤257:=rB b _ 0 bW.range a
end
end Go.Sym
namespace Go.Vc
section
def Ke{n:I}{f:I→H}:(eO n f).toList.all aC=J:=by unfold eO;rw[Q.all_map];exact List.all_eq_true.2 λ_ _=>rfl
def EF{n:I}:eO n (λ_=>0)=⟨Zi n (.int .i64 0)⟩:=by unfold eO;rw[Q.map_const',YN]
def AR.row{n:I}{f g:I→H}{K:XS→Prop}(a:K (((Zs n).map f)==((Zs n).map g))):AR .i64 n (eO n f) (eO n g) K:=⟨(Zs n).map f,(Zs n).map g,by simp[eO],by simp[eO],Zd,Zd,a⟩
end
end Go.Vc
namespace Go.Proofs.Q9
section
open Go Go.Vc Go.Inc Go.Sym
abbrev cq(l:Q I):Q XQ:=l.map λ(n:I)=>Yw .u8 (n:H)
def iZ{L:Q I}(h:L.length=256):(cq L).length=256:=by simp[h]
def eK{l:Q I}:(cq l).all aC=J:=by unfold cq;rw[Q.all_map];exact List.all_eq_true.2 λ_ _=>rfl
section
variable{E w:G}{F:Q HP}
theorem aa6:Tryz.prog.underlying 24=O (.slice 5):=Zc
theorem acD:(Tryz.prog.info? 5).map (·.size)=O 1:=Zc
theorem Qs{K:XU XQ→G→Prop}(h:Hp E w F)(g:∀w',Hp E w' F→K ⟨cq (Zs 256)⟩ w'):Cl Zf [.arr 256] 284 ⟨[]⟩ w K:=by refine aad.ok _ _ ?_;(skip);refine Nw.mk h λj w h=>?_;have b:∀k,k≤256→(cq (Zs k++Zi (256-k) 0)).length=256:=λk f=>by{simp;omega};refine⟨λi w'=>∃k:I,i=(k:H)∧k≤256∧Hp E w' (ah j (.cells ⟨cq (Zs k++Zi (256-k) 0)⟩ 178 (0,0))::F),λi _=>256-i.toNat,⟨0,U,Za,by have:(⟨cq (Zs 0++Zi (256-0) 0)⟩:XU XQ)=⟨Zi 256 (.int .u8 0)⟩:=by{simp};rw[this];exact h⟩,?_⟩;rintro i w ⟨k,rfl,f,h⟩;(first|refine aa.dm (λa=>?_) (λa=>?_)|refine aa.em (λa=>?_) (λa=>?_)|refine aa.nm (λa=>?_) (λa=>?_)|refine aa.mk (λa=>?_) λa=>?_);{refine⟨Za,Za,?_⟩;rw[show((k:H)).toNat*1=k by omega];(try simp only[aj,Zj]);have f:=b k Za;refine St.xb h (by simp;omega) U λw h=>?_;rw[ae Za];refine⟨⟨k+1,U,Za,?_⟩,Za⟩;have e:(⟨cq (Zs k++Zi (256-k) 0)⟩:XU XQ).setIfInBounds k (.int .u8 (u8 (k:H)))=⟨cq (Zs (k+1)++Zi (256-(k+1)) 0)⟩:=by{rw[j8 Za];apply Xr;rw[Yo];have:(cq (Zs k++Zi (256-k) 0)).set k (.int .u8 (k:H))=cq ((Zs k++Zi (256-k) 0).set k k):=by{rw[cq,cq,Xu]};rw[this,Q.set_append_right _ _ Zd,YN,Xo];obtain⟨m,l⟩:∃m,256-k=m+1:=⟨255-k,Za⟩;rw[l,Q.replicate_succ,Q.set_cons_zero,YM,show 256-(k+1)=m by omega];simp};rw[e]at h;exact h};have d:k=256:=Za;subst d;have e:(⟨cq (Zs 256++Zi (256-256) 0)⟩:XU XQ)=⟨cq (Zs 256)⟩:=Zd;rw[e]at h;have c:(⟨cq (Zs 256)⟩:XU XQ).size=256:=Zd;refine Ld.xw h c ?_;refine aA.q h c c eK λw h=>?_;exact Ld.xw h c (g _ h.tl)
theorem adr{K:XU XQ→G→Prop}(h:Hp E w F)(c:∀w',Hp E w' F→K (eO 256 λ_=>1) w'):Cl Zf [.arr 256] 379 ⟨[]⟩ w K:=by refine R7.ok _ _ ?_;(skip);refine Nw.mk h λd w h=>?_;refine⟨λi w'=>∃k:I,i=(k:H)∧k≤256∧Hp E w' (ah d (.cells (eO 256 λj=>if j<k then 1 else 0) 343 (0,0))::F),λi _=>256-i.toNat,⟨0,U,Za,by rw[iH (g:=λ_=>0) λi _=>Zd,EF];exact h⟩,?_⟩;rintro i w ⟨k,rfl,hk,h⟩;(first|refine aa.dm (λa=>?_) (λa=>?_)|refine aa.em (λa=>?_) (λa=>?_)|refine aa.nm (λa=>?_) (λa=>?_)|refine aa.mk (λa=>?_) λa=>?_);{refine⟨Za,Za,?_⟩;rw[show((k:H)).toNat*1=k by omega];(try simp only[aj,Zj]);refine St.xb h (by rw[eT];omega) U λw h=>?_;rw[ae Za];refine⟨⟨k+1,U,Za,?_⟩,Za⟩;rw[ue]at h;rw[iH (g:=λj=>if j<k+1 then 1 else 0) λi _=>by by_cases h1:i=k;{subst h1;simp};{by_cases h2:i<k;{simp[h1,h2];omega};{simp[h1,h2];omega}}]at h;exact h};have b:k=256:=Za;subst b;rw[iH (g:=λ_=>1) λi e=>by simp[e]]at h;refine Ld.xw h eT ?_;refine aA.q h eT eT Ke λw h=>?_;exact Ld.xw h eT (c _ h.tl)
theorem Es{L:Q I}{K:XS→G→Prop}(h:Hp E w F)(d:bW L)(o:∀w',Hp E w' F→K J w'):Cl Zf [kB] 340 ⟨[.agg ⟨cq L⟩]⟩ w K:=by have p:=d.len;have e:∀x∈L,x<256:=λx l=>by{simpa using d.mem_iff.1 l};refine O1.ok _ _ _ ?_;(skip);have q:(⟨cq L⟩:XU XQ).size=256:=by{simp[p]};refine Nw.mk h λr w h=>Nw.mk h λm w h=>Ld.xw h q ?_;refine⟨λi w'=>∃k:I,i=(k:H)∧k≤256∧Hp E w' (ah m (.cells (eO 256 λj=>if j∈L.take k then 1 else 0) 343 (0,0))::ah r (.cells ⟨cq L⟩ 178 (0,0))::F),λi _=>256-i.toNat,⟨0,U,Za,by rw[iH (g:=λ_=>0) λi _=>Zd,EF];exact h⟩,?_⟩;rintro i w ⟨k,rfl,hk,h⟩;(first|refine aa.dm (λb=>?_) (λb=>?_)|refine aa.em (λb=>?_) (λb=>?_)|refine aa.nm (λb=>?_) (λb=>?_)|refine aa.mk (λb=>?_) λb=>?_);{have c:k<L.length:=by{omega};refine fg.rd (s:=.int .u8) Za Za (L[k]:H) ?_ ?_;{simp[c]};have l:=e _ (Zu c);refine⟨Za,Za,?_⟩;rw[show((L[k]:H)).toNat*1=L[k] by omega];(try simp only[aj,Zj]);refine St.xb h (by rw[eT];omega) U λw h=>?_;rw[ae Za];refine⟨⟨k+1,U,Za,?_⟩,Za⟩;rw[ue]at h;rw[iH (g:=λj=>if j∈L.take (k+1)then 1 else 0) λi _=>by have a:i∈L.take (k+1)↔i∈L.take k∨i=L[k]:=by{rw[ZE,Zh c,Xl];exact or_congr Iff.rfl ZL};by_cases h1:i=L[k];{rw[XT h1,XT (a.2 (.inr h1))]};{rw[XR h1];by_cases h2:i∈L.take k;{rw[XT h2,XT (a.2 (.inl h2))]};{rw[XR h2,XR λt=>(a.1 t).elim h2 h1]}}]at h;exact h};have f:k=256:=Za;subst f;rw[iH (g:=λ_=>1) λi u=>by rw[Zv Za,XT];exact d.mem_iff.2 (by simpa using u)]at h;have h:=h.drew (n:=w.drawn+1);refine⟨bS m _ _ _,h.hb,?_⟩;dsimp only;refine ay.xw (λ_ h=>h) eT ?_;refine adr h λw h=>⟨h.hb,?_⟩;refine AR.row ?_;rw[beq_self_eq_true];exact o _ h.tl
theorem R0{L:Q I}{p:I}(b:L.length=256)(d:p<256):((cq L).take 1++((cq (L.take p)).take p++(cq L).drop (1+Ws (cq (L.take p)).length p))).set 0 (.int .u8 (L.getD p 0:H))=cq (cX L p):=by have c:(cq (L.take p)).length=p:=by{simp;omega};rw[c,I.min_self,Zv (l:=cq (L.take p)) Za,I.add_comm 1 p];unfold cX;rw[Q.eraseIdx_eq_take_drop_succ];cases L with|nil=>simp at b|cons a L=>simp[cq,Q.map_take,Q.map_drop]
theorem LB{L:Q I}{p:I}{K:XU XQ→H→XS→G→Prop}(h:Hp E w F)(c:L.length=256)(g:p<256)(j:∀w',Hp E w' F→K ⟨cq (cX L p)⟩ (L.getD p 0:H) J w'):Cl Zf [.arr 256,au .u8,kB] 342 ⟨[.agg ⟨cq L⟩,.int .i64 (p:H)]⟩ w K:=by refine TQ.ok _ _ _ _ ?_;(skip);have d:(⟨cq L⟩:XU XQ).size=256:=by{simp[c]};have k:(⟨Zi 256 (.int .u8 0)⟩:XU XQ).size=256:=Zd;have l:p<L.length:=Za;refine Nw.mk h λf w h=>Nw.mk h λn w h=>?_;(with_reducible repeat first|refine aB.mk h λw h=>?_|refine aa.no ?_);refine Ld.xw h d ?_;refine⟨Za,Za,?_⟩;rw[show((p:H)).toNat*1=p by omega];(try simp only[aj,Zj]);refine Ld.xb (x:=(L.getD p 0:H)) h ?_ ?_;{grind};refine aA.q h k d eK λw h=>aB.mk h λw h=>?_;rw[ae Za];refine⟨Za,Za,Za,Zd,?_⟩;rw[XR Zd,show(1:H).toNat*1=1 by decide,show((p:H)+1).toNat-(1:H).toNat=p by omega,show(256:H).toNat-(1:H).toNat=255 by decide];refine⟨Za,Za,Za,Zd,?_⟩;rw[XR Zb,show(0:H).toNat*1=0 by decide,show((p:H)).toNat-(0:H).toNat=p by omega,show(256:H).toNat-(0:H).toNat=256 by decide];simp only[YA,aj,Zj];have a:aD 1 ⟨O ⟨f,0,Z⟩,p,256⟩ (cq (L.take p)) w:=by{refine⟨by simp;omega,λi m=>⟨⟨f,0,Z⟩,U,?_⟩⟩;rw[aj,h.fc];simp at m⊢;simp[show i<L.length by omega]};refine nU (ys:=cq (L.take p)) aa6 acD h a (List.all_eq_true.1 eK) Ze λw h=>?_;refine⟨Za,Za,?_⟩;rw[show((0:H)).toNat*1=0 by decide];(try simp only[aj,Zr]);refine St.xb h (by simp;omega) U λw h=>?_;have e:(⟨(⟨cq L⟩:XU XQ).toList.take 1++((cq (L.take p)).take p++(⟨cq L⟩:XU XQ).toList.drop (1+Ws (cq (L.take p)).length p))⟩:XU XQ).setIfInBounds 0 (.int .u8 (L.getD p 0:H))=⟨cq (cX L p)⟩:=by{apply Xr;rw[Yo];exact R0 c g};rw[e]at h;have b:(⟨cq (cX L p)⟩:XU XQ).size=256:=Ze;refine Ld.xw h b ?_;refine aA.q h b b eK λw h=>?_;exact Ld.xw h b (j _ h.tl)
theorem ac7{n a d:I}{K:H→H→G→Prop}(h:n≤65536)(c:a≤16)(i:d≤1)(j:K ((n+(1+d)*2^a:I):H) 0 w):Cl Zf [kI,kI] 360 ⟨[.int .i64 (n:H),.int .i64 (a:H),.int .i64 (d:H)]⟩ w K:=by have e:2^a≤65536:=ZU (n:=2) Zb c;have f:=Yk a;have l:(1+d)*2^a≤131072:=by{have:=XI (show 1+d≤2 by omega) e;omega};refine KC.ok _ _ _ _ _ ?_;have b:0≤(a:H)∧aa (We (i64 ((n:H)+bq .i64 (i64 (1+(d:H))) (a:H))>2147483647)) (K 0 2 w) (K (i64 ((n:H)+bq .i64 (i64 (1+(d:H))) (a:H))) 0 w):=by{refine⟨Za,?_⟩;have g:YO .i64=9223372036854775807:=U;rw[ae (x:=1+(d:H)) Za,show 1+(d:H)=((1+d:I):H) by omega,dq (k:=.i64) (by have:Wc.bits .i64=64:=U;omega) Ze,ae Za];exact aa.df Za Ze};(try simp only[bg]);refine aa.df Za (aa.df Za (aa.df Za (aa.df Za ?_)));by_cases h0:d=0;{exact aa.nf Za b};exact aa.nt Za (aa.nf Za b)
end
end
end Go.Proofs.Q9
namespace Go.Vc
section
open Go
def mv(b:I)(w:G):I:=match w.cell? ⟨b,0,Z⟩with|some (.int _ v)=>v.toNat|_=>0
def mU{E w:G}{l:Q HP}{b:I}{c:XU XQ}{t:XY}{d:I×I}{a:Obj→Q HP}[bO b l c t d a]{k:Wc}{v:H}(h:Hp E w l)(e:c[0]?=O (.int k v)):mv b w=v.toNat:=by unfold mv;rw[h.fc,e]
end
end Go.Vc
namespace Go.Proofs.Q9
section
open Go Go.Vc
section
variable{E w:G}{F:Q HP}
abbrev bI(b:I)(n:I):HP:=ah b (.cells ⟨[.int .i64 (n:H)]⟩ 3 (0,0))
abbrev wi(s:Sl):XQ:=.slice s.base s.len s.cap
abbrev iE(b:I)(xs:Q I):HP:=yF (λ(_:Sl)=>True) λs=>[ah b (.cells ⟨[wi s]⟩ 25 (0,0)),ao 1 s ((ints xs).map vI)]
theorem iE.shut{b:I}{s:Sl}{xs:Q I}(h:Hp E w (ah b (.cells ⟨[wi s]⟩ 25 (0,0))::ao 1 s ((ints xs).map vI)::F)):Hp E w (iE b xs::F):=Hp.tg s trivial h
theorem iE.put{b d:I}{s:Sl}{xs:Q I}{x:I}{i:XY}{l:Q HP}{K:G→Prop}(h:Hp E w (l++ah d (.cells ⟨[.int .i64 (x:H)]⟩ i (0,0))::ah b (.cells ⟨[wi s]⟩ 25 (0,0))::ao 1 s ((ints xs).map vI)::F))(m:xs.length≤1000000)(j:∀w',Hp E w' (iE b (xs++[x])::F)→K w'):av Zf (ZC #[25,25] 25 ⟨[wi s,.slice (O ⟨d,0,Z⟩) 1 1]⟩) kS w λe a=>St (⟨b,0,Z⟩:X6) (wi e) a λc=>K c:=by have h:=h.yn;have f:=(h.at 2).aP;simp only[ints,Zq,ZB]at f;refine aS (ys:=[vI (x:H)]) (n:=1) mM Zb (.inl ⟨3,Zc⟩) (h.at 2) (.inl ⟨O ⟨d,0,Z⟩,1,1,U,U,h.an (ad.aw U U)⟩) U (by intro y g;rw[ZL]at g;rw[g];rfl) Za Za λk w' h _=>?_;refine St.xs h U U λw h=>j w ?_;dsimp only[aL,over]at h;have h:=(h.no 1).p1;refine iE.shut (s:=k) ?_;rw[show(ints (xs++[x])).map vI=(ints xs).map vI++[vI (x:H)] by simp[ints]];exact h
theorem Kz{s:Sl}{b:Q I}(c:aD 1 s (b.map vB) w):(Extern.Bytes.bytesOf (.slice s.base s.len s.cap)).run Zf w=.ok (strOf b) w:=by have e:=c.1;simp only[Zq,ZB]at e;cases hb:s.base with|none=>have:b=[]:=by{cases b with|nil=>rfl|cons x b=>obtain⟨p,f,_⟩:=c.2 0 Zd;rw[hb]at f;cases f};subst this;rfl|some p=>have:=Lib.run_loadBytesX (P:=Zf) w (b.map λ(x:I)=>(x:H)) p .empty (λj x a=>by rw[Z0]at a;cases hj:b[j]? with|none=>(rw[hj]at a;cases a)|some y=>rw[hj]at a;obtain rfl:=XN a;obtain⟨h,d⟩:=List.getElem?_eq_some_iff.1 hj;obtain⟨q,g,i⟩:=c.2 j Ze;rw[hb]at g;obtain rfl:=XN g;rw[i];simp[vB,d]);rw[Zq,e]at this;show(Extern.Bytes.loadBytes p s.len .empty).run Zf w=_;rw[this];congr 1;unfold strOf strOfNums Lib.bytesOf;simp[XZ.empty,XZ.emptyWithCapacity];try rfl
end
end
section
open Go Go.Vc Go.Inc Go.Sym
section
variable{E w:G}{F:Q HP}
theorem aet {L:List Nat} {s:Sl} {c:Nat} {K:Int→World→Prop} (hL:bW L) (hc:c<256) (hs:aD 1 s (L.map vB) w) (hK:K (L.idxOf c:Int) w):
  Ext Tryz.prog 380 ⟨[.slice s.base s.len s.cap,.int .u8 (c:Int)]⟩ [kI] w K:=by
 have hi:=hL.idx hc
 have hll:=hL.len
 have hsz:(strOf L).size=256:=by
  have:=congrArg List.length (bN L)
  rw [List.length_map,hll] at this
  simpa using this
 have hget: ∀i,i<256→(strOf L)[i]! =UInt8.ofNat (L.getD i 0):=fun i h=>by
  have h1:=bN L
  have h2:(strOf L).data.toList[i]? =some (UInt8.ofNat (L.getD i 0)):=by grind
  have h3:i<(strOf L).size:=by omega
  rw [getElem!_pos (strOf L) i h3]
  rw [Array.getElem?_toList] at h2
  have h4:i<(strOf L).data.size:=h3
  rw [Array.getElem?_eq_getElem h4] at h2
  exact Option.some.inj h2
 have hf:(List.range (strOf L).size).find? (fun i=>(strOf L)[i]! ==UInt8.ofNat c)=some (L.idxOf c):=by
  rw [hsz,List.find?_range_eq_some]
  refine ⟨?_,List.mem_range.2 hi.1,fun j hj=> ?_⟩
  ·grind
  ·rw [hget j (by omega)]
   have hjl:=hL.get (p:=j) (by omega)
   have hne:L.getD j 0≠c:=fun e=>by
    have:=hL.AZ (p:=j) (by omega)
    rw [e] at this;omega
   simp only [Bool.not_eq_true',beq_eq_false_iff_ne,ne_eq]
   intro e
   have:=congrArg UInt8.toNat e
   simp only [UInt8.toNat_ofNat'] at this
   omega
 have hr:(Extern.BytealgIndexByte.indexByte #[.slice s.base s.len s.cap,.int .u8 (c:Int)]).run Tryz.prog w= .ok (.int .i64 (L.idxOf c:Int)) w:=by
  show Sem.run _ (do
   let x←Extern.Bytes.bytesOf (.slice s.base s.len s.cap)
   let y←Extern.Bytes.asByte (.int .u8 (c:Int))
   match (List.range x.size).find? fun i=>x[i]! ==y with
   |some i=>pure (goInt i)
   |none=>pure (goInt (-1))) w=_
  have hb:(Extern.Bytes.asByte (.int .u8 (c:Int))).run Tryz.prog w= .ok (UInt8.ofNat c) w:=rfl
  simp only [Sem.run_bind,Kz hs,hb,Result.andThen_ok]
  rw [hf]
  rfl
 have hx:(callFunc 380 #[.slice s.base s.len s.cap,.int .u8 (c:Int)]).run Tryz.prog w= .ok (.value (.int .i64 (L.idxOf c:Int))) w:=by
  rw [run_callFunc_extern Tryz.func380 (by kernel_rfl) (by kernel_rfl) (by kernel_rfl) (e:=Extern.BytealgIndexByte.indexByte) (by kernel_rfl),hr];rfl
 unfold Ext
 rw [show (⟨[.slice s.base s.len s.cap,.int .u8 (c:Int)]⟩:Array Value)= #[.slice s.base s.len s.cap,.int .u8 (c:Int)] from rfl,hx]
 exact hK
theorem ab7{L:Q I}{c:I}{K:XU XQ→H→G→Prop}(h:Hp E w F)(b:bW L)(e:c<256)(g:∀w',Hp E w' F→K ⟨cq (cX L (L.idxOf c))⟩ (L.idxOf c:H) w'):Cl Zf [.arr 256,kI] 282 ⟨[.agg ⟨cq L⟩,.int .u8 (c:H)]⟩ w K:=by refine abk.ok _ _ _ _ ?_;have d:=b.len;have f:=b.idx e;have i:(⟨cq L⟩:XU XQ).size=256:=by{simp[d]};have j:(⟨Zi 256 (.int .u8 0)⟩:XU XQ).size=256:=Zd;have a:(⟨cq (cX L (L.idxOf c))⟩:XU XQ).size=256:=by{simp[(b.take f.1).len]};refine Nw.mk h λk w h=>Nw.mk h λl w h=>bV.whole Zb U U ?_;refine Cw.ok _ _ _ _ ?_;refine aet b e (s:=⟨O ⟨k,0,Z⟩,256,256⟩) (h.an (ad.cons (ad.aw (n:=256) (m:=256) (sz:=1) U (by simp[d])))) ?_;refine Ld.xw h i ?_;refine LB h d f.1 λw h=>?_;refine aA.q h j a eK λw h=>Ld.xw h a ?_;refine aA.q h a a eK λw h=>Ld.xw h a (g w h.tl)
theorem MT{n b:I}(q:n≤2147483647):tI Zf E (.func (.func 381) ⟨[]⟩ ⟨[.pointer (O ⟨b,0,Z⟩)]⟩) (da n).length (λi=>[Ki.enc kI (((da n).getD i 0:I):H)]) [bI b n] (λ_=>True):=by intro r C G w K M s h u j;refine qC.mk Zc (DQ.ok r ⟨b,0,Z⟩ K w ?_);have h:Hp E w (bI b n::C 0):=h;refine⟨λw=>∃k m:I,m≤2147483647∧(da n).drop k=da m∧k≤(da n).length∧Hp E w (bI b m::C k),λw=>mv b w,⟨0,n,q,U,Z5 _,h⟩,?_⟩;rintro w ⟨k,m,N,d,P,h⟩;refine Ld.xb (x:=(m:H)) h U (aa.dm (λa=>?_) λy=>?_);{have c:0<m:=by{omega};rw[oO c]at d;have a:k<(da n).length:=by{grind};have z:(da n).getD k 0=(m-1)%2:=by{rw[Zy a]at d;injection d with e _;rw[Zn,Zh a,YC,e]};have l:(da n).drop (k+1)=da ((m-1)/2):=by{rw[←Yr,d];rfl};refine Ld.xb (x:=(m:H)) h U ?_;have A:YO .i64=9223372036854775807:=U;have o:i64 ((m:H)-1)=((m-1:I):H):=by{rw[ae Za];omega};have B:cd .i64 ((m-1:I):H) 1=(((m-1)%2:I):H):=by{rw[show(1:H)=((1:I):H)from U,fI Za Za,I.and_one_is_mod]};have D:aG .i64 ((m-1:I):H) 1=(((m-1)/2:I):H):=by{rw[show(1:H)=((1:I):H)from U,cr Zb]};rw[o,B];have L:[Yw .i64 (((m-1)%2:I):H)]=[Ki.enc kI (((da n).getD k 0:I):H)]:=by{rw[z]};rw[L];refine s k a [bI b m] w _ (h.perm (ZX (l₁:=[bI b m]))) (λw h=>?_) λw h=>?_;{have h:Hp E w (bI b m::C (k+1)):=h.perm (ZX (l₂:=[bI b m]));refine aa.f U (Ld.xb (x:=(m:H)) h U ⟨Zb,?_⟩);rw[o,D];refine St.xb h Zd U λp g=>?_;have g:Hp E p (bI b ((m-1)/2)::C (k+1)):=g;refine⟨U,⟨k+1,(m-1)/2,Za,l,Za,g⟩,?_⟩;show mv b p<mv b _;rw[mU (v:=(((m-1)/2:I):H)) g U,mU (v:=(m:H)) (by assumption) U];omega};exact aa.t U (j k w a (h.perm (ZX (l₂:=[bI b m]))).drop)};have c:m=0:=Za;subst c;rw[pk]at d;have:k=(da n).length:=by{have:=X3 Yg d;rw[ZA,ZM]at this;omega};subst this;exact u w h.drop
theorem QC{n:I}{K:Sl→H→G→Prop}(h:Hp E w F)(g:n≤2147483647)(q:(da n).length≤1000000)(j:∀s w',Hp E w' (ao 1 s ((ints (da n)).map vI)::F)→K s 0 w'):Cl Zf [kS,kI] 283 ⟨[.int .i64 (n:H)]⟩ w K:=by refine Dl.ok _ _ _ ?_;refine Nw.mk h λa w h=>aa.df Za (aa.df Za ?_);refine G9.ok _ _ _ ?_;refine Nw.mk h λb w h=>?_;have m:Hp E w (iE a []::bI b n::F):=iE.shut (s:=⟨Z,0,0⟩) ((h.aQ 1).at 2);refine gJ.Ry (E:=E) (k:=kI) (x:=λi=>(((da n).getD i 0:I):H)) (n:=(da n).length) (λi=>iE a ((da n).take i)::F) (λ_=>[CV]) (A:=[bI b n]) m.p1 (λ_=>ad.const trivial) (MT g) ?_ ?_ ?_;{intro o c i A w r t d h f _;refine pF.mk h λw h=>?_;obtain⟨s,_,h⟩:=(h.p1).ex;have h:Hp E w (ah a (.cells ⟨[wi s]⟩ 25 (0,0))::ao 1 s ((ints ((da n).take i)).map vI)::ah o (c 1)::(F++A)):=h;refine Ld.xb (x:=s) h U (Nw.mk h λp w h=>?_);refine iE.put (l:=[]) h Ze λw h=>kZ.mk h.p1 λw h=>f w ?_;have e:(da n).take i++[(da n).getD i 0]=(da n).take (i+1):=by{rw[ZE,Zh d,Zn,Zh d];rfl};rw[e]at h;exact h};{intro D w h;rw[Zv (Zx _)]at h;obtain⟨s,_,h⟩:=(h.p1).ex;have h:Hp E w (ah a (.cells ⟨[wi s]⟩ 25 (0,0))::ao 1 s ((ints (da n)).map vI)::ah D (.deferred (O []))::F):=h;refine Ld.xb (x:=s) h U (St.xs h U U λw h=>?_);dsimp only[aL,over]at h;refine ij.yG (h.at 2) λw h=>Ld.xb (x:=s) h U (j s w h.drop)};intro i D w d h;exact(Hp.HR h).elim
end
end
end Go.Proofs.Q9
namespace Go.Vc
section
open Go
section
variable{E w:G}{F:Q HP}
theorem E2{P:XW}{t e:XY}{n:I}{k:Wc}{g:TypeInfo}(j:P.underlying t=O (.array n e))(c:P.underlying e=O (.int k))(h:P.info? e=O g)(l:g.size=1){a b:Q H}(f:a.length=n)(i:b.length=n)(D:I)(m:2≤D)(w:G):(Ym D t (.agg ⟨a.map (.int k)⟩) (.agg ⟨b.map (.int k)⟩)).run P w=.ok (a==b) w:=by obtain⟨D,rfl⟩:∃d,D=d+1+1:=⟨D-2,Za⟩;rw[run_equalIn_array w (D+1) _ _ j h,o8 h,l,←f,lg c (f.trans i.symm) _ Zd,all_eq (f.trans i.symm)]
theorem oF{P:XW}{t:XY}{it:TypeInfo}{b:Q XQ}{a:I}{K:XV XQ→Prop}(c:iT P t=O J)(d:P.info? t=O it)(h:K (O (.agg ⟨(b.drop a).take it.size⟩))):ga P t b a K:=by unfold ga;rw[c,d];exact h
theorem fx{P:XW}{t:XY}{it:TypeInfo}{b:Q XQ}{a:I}{v:XQ}{K:XV XQ→Prop}(c:iT P t=O V)(d:P.info? t=O it)(e:b[a]?=O v)(h:K (O v)):ga P t b a K:=by unfold ga;rw[c,d,e];exact h
end
end
end Go.Vc
namespace Go.Proofs.Q9
section
open Go Go.Vc
def LY:∃a,Tryz.prog.info? 3=O a:=by have:(Tryz.prog.info? 3).isSome=J:=Zc;exact Option.isSome_iff_exists.1 this
def V5:∃a,Tryz.prog.info? 172=O a∧a.size=258:=by have h:(Tryz.prog.info? 172).map (·.size)=O 258:=Zc;obtain⟨a,b,c⟩:=Option.map_eq_some_iff.1 h;exact⟨a,b,c⟩
def Pz:∃a,Tryz.prog.info? 5=O a∧a.size=1:=by have h:(Tryz.prog.info? 5).map (·.size)=O 1:=Zc;obtain⟨a,b,c⟩:=Option.map_eq_some_iff.1 h;exact⟨a,b,c⟩
def adK:Tryz.prog.underlying 172=O (.array 258 5):=Zc
def UG:Tryz.prog.underlying 5=O (.int .u8):=Zc
def Q9:Tryz.prog.underlying 3=O (.int .i64):=Zc
end
end Go.Proofs.Q9
namespace Go.Vc
section
open Go
def pZ{P:XW}{E w:G}{F:Q HP}{t e:XY}{C:XU XQ}{b n c:I}{K:Sl→G→Prop}(j:P.underlying t=O (.slice e))(k:P.underlying e=O (.int .u8))(h:Hp E w (ah b (.cells C e (0,0))::F))(l:∀w',Hp E w' (ah b (.cells C e (C.size,C.size+1))::F)→K ⟨O ⟨b,0,Z⟩,n,c⟩ w'):av P (Wl t t (.slice (O ⟨b,0,Z⟩) n c)) kS w K:=by have a:=h.aw;have d:b<w.heap.size:=Ze;have f:w.shape? b=O (e,C.size):=by{unfold G.shape?;rw[a]};have g:(Wl t t (.slice (O ⟨b,0,Z⟩) n c)).run P w=.ok (.slice (O ⟨b,0,Z⟩) n c) (w.freeze ⟨b,C.size,Z⟩ 1):=by{simp[Wl,X7 j,X7 k,markStringish,f]};unfold av;rw[g];refine l _ (h.setObj ?_ U U U);unfold G.freeze;rw[XR Zb];have m:w.heap[b]=.cells C e (0,0):=by{rw[XU.getElem?_eq_getElem d]at a;exact XN a};apply XU.ext_getElem?;intro i;rw[XU.set!_eq_setIfInBounds];by_cases hi:b=i;{grind};grind
section
variable{E w:G}{F:Q HP}{sz:I}{s:Sl}{xs ys:Q XQ}
theorem Hp.um{A:HP}{l F:Q HP}[a:pj l F](h:Hp E w (A::l)):Hp E w (A::F):=by obtain⟨p,e⟩:=a.sub;subst e;exact(h.perm List.perm_middle.symm).yn
theorem vj{P:XW}{t p W e:XY}{a n:I}{x:XQ}{K:Sl→G→Prop}(X:cF P t e sz a)(hx:(∃Y,P.underlying p=O (.slice Y))∨P.underlying p=O .string)(r:Hp E w F)(k:ad F (aD sz s xs))(hfit:s.cap<s.len+n)(hs:ad F (Src sz n x ys))(l:ys.length=n*sz)(hb:(2*(s.len+n)+1024)*a≤2^48)(hb2:s.len+n<2^62)(h:∀u w',Hp E w' (ao sz u (xs++ys)::F)→u.len=s.len+n→K u w'):av P (ZC #[t,p] W ⟨[.slice s.base s.len s.cap,x]⟩) kS w K:=by obtain⟨q,z,v,y,A,B,C⟩:=X.info;obtain⟨hs1,D⟩:=(r.an hs).run (P:=P);have b:xs.length=s.len*sz:=(r.an k).1;have L:(sizeOf e).run P w=.ok sz w:=by{rw[cT v,y]};have d:(xs++ys).length=(s.len+n)*sz:=by{rw[Zg,b,l,YW]};have f:¬XH (s.len+n) s.cap*q.bytes>2^48:=by{have:=C5 (n:=s.len+n) (c:=s.cap) Za;have h2:XH (s.len+n) s.cap*q.bytes≤(2*(s.len+n)+1024)*a:=by{rw[A];exact ZR _ this};omega};have g:¬s.len+n≤s.cap:=Za;generalize hq:Question.cut (.appendCap (s.len+n) s.cap e) (w.tape w.drawn (.appendCap (s.len+n) s.cap e))=newCap;have M:s.len+n≤newCap:=by{rw[←hq];exact I.le_add_right _ _};have N:Hp E w.drew F:=r.drew (n:=w.drawn+1);have i:(Wh.firstCells sz s.len (.slice s.base s.len s.cap)).run P w.drew=.ok xs.toArray w.drew:=by{have:Src sz s.len (.slice s.base s.len s.cap) xs w.drew:=.inl ⟨s.base,s.len,s.cap,U,U,N.an k⟩;exact(this.run (P:=P)).1};have m:(Wh.firstCells sz n x).run P w.drew=.ok ys.toArray w.drew:=((N.an hs).run (P:=P)).1;have hA:=N.alloc (.cells (xs.toArray++ys.toArray++Xv z.cells (newCap-(s.len+n))) e);have R:∀w:G,(Wk e).run P w=.ok z w:=by{intro w;simp[Wk,typeInfo,v,B]};have S:∀w:G,(typeInfo e).run P w=.ok q w:=by{intro w;simp[typeInfo,v]};have j:¬(9223372036854775807<(s.len:H)+(n:H)∧q.bytes=0):=Za;have T:Question.forced (.appendCap (s.len+n) s.cap e)=V:=U;have o:(ZC #[t,p] W ⟨[.slice s.base s.len s.cap,x]⟩).run P w=.ok (.slice (O ⟨w.heap.size,0,Z⟩) (s.len+n) newCap) (w.drew.alloc (.cells (xs.toArray++ys.toArray++Xv z.cells (newCap-(s.len+n))) e)):=by{(rcases hx with⟨Y,hd⟩|hd<;>simp[ZC,X7 X.und,L,X7 hd,D,g,j,S,f,T,hq,i,m,R,newRow]);all_goals rw[←XU.append_assoc,show xs.toArray++ys.toArray=(xs++ys).toArray by simp]};unfold av;rw[o];refine h ⟨O ⟨w.heap.size,0,Z⟩,s.len+n,newCap⟩ _ (Hp.lD hA d U M ?_ ?_) U;{simp only[XU.size_append,Q.size_toArray,mH,C,b,l];have:newCap*sz=(s.len+n)*sz+(newCap-(s.len+n))*sz:=by{rw[←YW];congr 1;omega};rw[this,YW];omega};grind
end
end
end Go.Vc
namespace Go.Proofs.Q9
section
open Go Go.Vc
section
variable{E w:G}{F:Q HP}
set_option maxRecDepth 200000 in
theorem SS{C:XU XQ}{b n c:I}{K:Sl→G→Prop}(h:Hp E w (ah b (.cells C 5 (0,0))::F))(a:∀w',Hp E w' (ah b (.cells C 5 (C.size,C.size+1))::F)→K ⟨O ⟨b,0,Z⟩,n,c⟩ w'):av Zf (Wl 24 24 (.slice (O ⟨b,0,Z⟩) n c)) kS w K:=pZ Zc Zc h a
end
end
end Go.Proofs.Q9
namespace Go.Sym
section
def B9(n:I):(da n).length≤n:=by induction n using ZV with|ind n a=>(rcases Z8 n with h|h);{rw[h,pk];exact Zx _};rw[oO h,Zp];have:=a ((n-1)/2) Za;omega
end
end Go.Sym
namespace Go.Proofs.Q9
section
open Go Go.Vc Go.Inc Go.Sym
abbrev lY(L:Q I)(r:H):XU XQ:=⟨cq L++[.int .i64 r]⟩
def o9{L:Q I}{r:H}(h:L.length=256):(lY L r).size=257:=by simp[h]
def uQ{L:Q I}{r:H}:(lY L r).toList.all aC=J:=by unfold lY;rw[Q.all_append,eK];rfl
section
variable{E w:G}{F:Q HP}
theorem TI:(Tryz.prog.fieldsOf 296).toList.map (λf=>(f.name== "_",f.type,f.offset))=[(V,178,0),(V,3,256)]:=Zc
theorem ad8:Tryz.prog.underlying 296=O (.struct (Tryz.prog.fieldsOf 296)):=Zc
theorem abA:∃a,Tryz.prog.info? 178=O a∧a.size=256:=by have h:(Tryz.prog.info? 178).map (·.size)=O 256:=Zc;obtain⟨a,b,c⟩:=Option.map_eq_some_iff.1 h;exact⟨a,b,c⟩
theorem acV:Tryz.prog.underlying 178=O (.array 256 5):=Zc
theorem wj.es{L m:Q I}{r l:H}{K:XS→Prop}(g:L.length=256)(n:m.length=256)(B:∀b,K b):wj Zf 296 (lY L r) (lY m l) K:=by obtain⟨it,i⟩:=LY;obtain⟨z,j,o⟩:=abA;obtain⟨M,p,q⟩:=Pz;obtain⟨e,f,s,a,c⟩:∃e f,(Tryz.prog.fieldsOf 296).toList=[e,f]∧(e.name== "_",e.type,e.offset)=(V,178,0)∧(f.name== "_",f.type,f.offset)=(V,3,256):=by{have h:=TI;generalize(Tryz.prog.fieldsOf 296).toList=fs at h;match fs,h with|[],h=>simp at h|[_],h=>simp at h|_::_::_::_,h=>simp at h|[e,f],h=>simp only[ZN,YK,Xf,and_true]at h;exact⟨e,f,rfl,h.1,h.2⟩};simp only[YR]at a c;have A:∀{L:Q I}{r:H},L.length=256→(((lY L r).toList.drop 0).take 256)=(L.map λ(x:I)=>(x:H)).map (.int .u8):=λ{L r} g=>by{unfold lY;rw[Yq,Q.take_append_of_le_length (by simp[g]),Zv (by simp[g]),YD];rfl};have N:∀{L:Q I}{r:H},L.length=256→(lY L r)[256]?=O (.int .i64 r):=λ{L r} g=>Ze;obtain⟨b,C,u⟩:=l9 (P:=Zf) (d:=9) (rec:=λt x y K=>∃b,(∀D,9≤D→∀w,(Ym D t x y).run Zf w=.ok b w)∧K b) (λt x y K h=>h) (xs:=lY L r) (ys:=lY m l) (fs:=[e,f]) (K:=K) (by unfold k9;rw[a.1];refine oF (it:=z) (by rw[a.2.1];kernel_rfl) (by rw[a.2.1];exact j) (oF (it:=z) (by rw[a.2.1];kernel_rfl) (by rw[a.2.1];exact j) ?_);rw[a.2.2,o,a.2.1,A g,A n];refine⟨_,λD G w=>E2 acV UG p q Ze Ze D Za w,?_⟩;unfold k9;rw[c.1];refine fx (it:=it) (v:=.int .i64 r) (by rw[c.2.1];kernel_rfl) (by rw[c.2.1];exact i) Ze (fx (it:=it) (v:=.int .i64 l) (by rw[c.2.1];kernel_rfl) (by rw[c.2.1];exact i) Ze ?_);rw[c.2.1];exact⟨r==l,λD G w=>by obtain⟨D,rfl⟩:∃k,D=k+1:=⟨D-1,Za⟩;exact run_equalIn_int w D _ _ _ _ _ Q9,B _⟩);refine⟨b,λw=>?_,u⟩;rw[run_equalIn_struct w 9999 _ _ _ ad8 Zc,s];exact C 9999 Zb w
abbrev esP:I→XV (I×I):=(#[(0,256),(256,1)][·]?)
theorem S6(a:Q (I×XQ)):Tryz.prog.built 296 a=YL esP ⟨Zi 256 (.int .u8 0)++[.int .i64 0]⟩ a:=Zc
theorem dc.es{L:Q I}{K:XU XQ→Prop}(a:L.length=256)(b:K (lY L 0)):dc Zf 296 [(0,.agg ⟨cq L⟩)] K:=by refine⟨_,?_,b⟩;rw[S6];have:=jG (place:=esP) (i:=0) (v:=.agg ⟨cq L⟩) (rest:=[]) (pre:=[]) (aM:=Zi 256 (.int .u8 0)) (post:=[.int .i64 0]) U U ZY (by show(⟨cq L⟩:XU XQ).size=_;simp[a]);exact this
abbrev esZ:XU XQ:=⟨Zi 256 (Yw .u8 0)++[Yw .i64 0]⟩
theorem Sk:(⟨Zi 256 (.int .u8 0)++[.int .i64 0]⟩:XU XQ).size=257:=Zd
theorem Ma{K:XU XQ→G→Prop}(h:Hp E w F)(b:∀w',Hp E w' F→K (lY (Zs 256) 0) w'):Cl Zf [.arr 257] 208 ⟨[]⟩ w K:=by refine Nl.ok _ _ ?_;refine Nw.mk h λc w h=>Qs h λw h=>dc.es Zd ?_;have a:(lY (Zs 256) 0).size=257:=o9 Zd;refine aA.q h Sk a uQ λw h=>?_;exact Ld.xw h a (b _ h.tl)
theorem EP{L:Q I}{r:I}{K:XS→G→Prop}(h:Hp E w F)(c:bW L)(f:r≤2147483647)(d:∀w',Hp E w' F→K J w'):Cl Zf [kB] 281 ⟨[.agg (lY L (r:H))]⟩ w K:=by refine Iz.ok _ _ _ ?_;have a:=iZ c.len;refine Nw.mk h λe w h=>?_;have h:=h.drew (n:=w.drawn+1);refine⟨bS e _ _ _,h.hb,?_⟩;refine ay.qw (λ_ h=>h) a U ?_;refine Ma h λw h=>⟨h.hb,?_⟩;refine wj.es c.len Zd λb=>?_;refine aa.mk (λ_=>d _ h.tl) λ_=>?_;(try simp only[aj,Zj,Zr]);refine ay.q (λ_ h=>h) a U U (aa.dt Za ?_);refine ay.q (λ_ h=>h) a U U (aa.dt Za ?_);refine ay.p (λ_ h=>h) a ?_;exact Es h c λw h=>⟨h.hb,d _ h.tl⟩
theorem Rw{L:Q I}{r:I}{s:Sl}{b:Q I}{K:XU XQ→Sl→H→G→Prop}(h:Hp E w F)(t:bW L)(C:ad F (aD 1 s (b.map vB)))(W:∀x∈b,x<256)(hr:r+b.length≤1000000)(u:∀D w',Hp E w' (ao 1 D ((ints (ez L r b).1).map vI)::F)→bW (ez L r b).2.1→(ez L r b).2.2≤1000000→K (lY (ez L r b).2.1 ((ez L r b).2.2:H)) D 0 w'):Cl Zf [.arr 257,kS,kI] 207 ⟨[.agg (lY L (r:H)),.slice s.base s.len s.cap]⟩ w K:=by refine JC.ok _ _ _ _ ?_;have l:=iZ t.len;have M:b.length=s.len:=by{have:=(h.an C).1;simpa using this};(try simp only[bg,aj,Zj,Zr]);refine Nw.mk h λz w h=>Nw.mk h λN w h=>?_;refine Ld.qw h l U (EP h t Za λw h=>?_);(with_reducible refine aa.HG ?_);refine Ld.q h l U U ?_;rw[ae Za];refine aa.df Za ?_;refine⟨λo i w=>∃(k:I)(d:Q I)(e:I)(a:Q I),i=(k:H)∧k≤b.length∧bW d∧a.length+e≤r+k∧ez L r b=(a++(ez d e (b.drop k)).1,(ez d e (b.drop k)).2)∧Hp E w (ao 1 o ((ints a).map vI)::ah N (.cells esZ 296 (0,0))::ah z (.cells (lY d (e:H)) 296 (0,0))::F),λ_ i _=>b.length-i.toNat,⟨0,L,r,[],U,Za,t,Zd,Zd,h.aQ 1⟩,?_⟩;rintro o i w ⟨k,d,e,a,rfl,hk,hL',hlo,he,h⟩;have f:=iZ hL'.len;refine aa.dm (λj=>?_) λX=>?_;{have j:k<b.length:=by{omega};have P:=W _ (Zu j);have R:=hL'.idx P;refine ax.rd ((h.tl:Hp E w F).an C) Za Za λq _ Y=>?_;refine Ld.sc (s:=.int .u8) (b[k]:H) (by rw[Y];simp[Sc.enc,vB]) ?_;refine Ld.p h f (ab7 h hL' P λw h=>?_);have hm:(⟨cq (cX d (d.idxOf b[k]))⟩:XU XQ).size=256:=by{simp[(hL'.take R.1).len]};have g:=hL'.take R.1;have c:=iZ g.len;refine aA.xm (pre:=[]) (aM:=cq d) (post:=[.int .i64 (e:H)]) h U U f hm (λv hv=>List.all_eq_true.1 eK v hv) λw h=>?_;have h:Hp E w (ao 1 o ((ints a).map vI)::ah N (.cells esZ 296 (0,0))::ah z (.cells (lY (cX d (d.idxOf b[k])) (e:H)) 296 (0,0))::F):=h;rw[Zy j]at he;rw[ae (x:=(k:H)+1) Za];by_cases h0:d.idxOf b[k]=0;{rw[ez,XT h0]at he;rw[h0]at h g c⊢;refine aa.et U (Ld.q h c U U ?_);rw[ae Za];refine St.q h c U U U λw h=>?_;dsimp only[aL,over]at h;rw[show(e:H)+1=((e+1:I):H) by omega]at h;exact⟨⟨k+1,_,e+1,a,Za,Za,g,Za,he,h⟩,by first|omega|(dsimp only;omega)⟩};rw[ez,XR h0]at he;refine aa.ef Za (Ld.q h c U U ?_);have hdl:=B9 e;refine QC h Za Za λm w h=>?_;have S:=h.aP;have l2:=(h.at 1).aP;simp only[ints,Zq,ZB]at S l2;refine aS (s:=o) (ys:=(ints (da e)).map vI) (n:=m.len) mM Zb (.inl ⟨3,Zc⟩) (h.at 1) (.inl ⟨m.base,m.len,m.cap,U,U,h.an ad.own⟩) (by simp[ints,S]) Ed Za Za λs2 w h hl2=>?_;have h:=h.no 1;refine Nw.mk h λA w h=>?_;rw[ae Za]at h;refine aS (s:=s2) (ys:=[vI ((d.idxOf b[k]:H)+1)]) (n:=1) mM Zb (.inl ⟨3,Zc⟩) (h.at 1) (.inl ⟨O ⟨A,0,Z⟩,1,1,U,U,h.an (ad.aw U U)⟩) U (by intro y T;rw[ZL]at T;rw[T];rfl) Za Za λs3 w h _=>?_;have h:=h.no 1;refine St.q (b:=z) h c U U U λw h=>?_;dsimp only[aL,over]at h;refine⟨⟨k+1,_,0,a++(da e++[d.idxOf b[k]+1]),Za,Za,g,?_,?_,?_⟩,by first|omega|(dsimp only;omega)⟩;{grind};{rw[he];simp};rw[show(ints (a++(da e++[d.idxOf b[k]+1]))).map vI=(ints a).map vI++(ints (da e)).map vI++[vI ((d.idxOf b[k]:H)+1)] by simp[ints]];exact h};have B:k=b.length:=Za;subst B;rw[ZW (Zx _),ez,ZF]at he;rw[he]at u;dsimp only at u;refine Ld.qw h f U ?_;refine aA.q h Sk (o9 hL'.len) uQ λw h=>Ld.xw h (o9 hL'.len) (u o w h.um hL' Za)
theorem aau{L:Q I}{r:I}{K:Sl→H→G→Prop}(h:Hp E w F)(c:bW L)(l:r≤1000000)(f:∀d w',Hp E w' (ao 1 d ((ints (da r++[257])).map vI)::F)→K d 0 w'):Cl Zf [kS,kI] 209 ⟨[.agg (lY L (r:H))]⟩ w K:=by refine NA.ok _ _ _ ?_;have a:=iZ c.len;(try simp only[aj,Zj]);refine Nw.mk h λm w h=>Ld.qw h a U (EP h c Za λw h=>?_);(with_reducible refine aa.HG ?_);have g:=B9 r;refine Ld.q h a U U (QC h Za Za λi w h=>Nw.mk h λb w h=>?_);have j:=(h.at 1).aP;simp only[ints,Zq,ZB]at j;refine aS (s:=i) (ys:=[vI 257]) (n:=1) mM Zb (.inl ⟨3,Zc⟩) (h.at 1) (.inl ⟨O ⟨b,0,Z⟩,1,1,U,U,h.an (ad.aw U U)⟩) U (by intro y e;rw[ZL]at e;rw[e];rfl) Za Za λk w h _=>f k w ?_;rw[show(ints (da r++[257])).map vI=(ints (da r)).map vI++[vI 257] by simp[ints]];exact h.um
theorem abw{s:Sl}{b:Q I}{K:Sl→G→Prop}(h:Hp E w F)(i:ad F (aD 1 s (b.map vB)))(j:∀x∈b,x<256)(u:b.length≤1000000)(k:∀f w',Hp E w' (ao 1 f ((ints (syms b)).map vI)::F)→K f w'):Cl Zf [kS] 141 ⟨[.slice s.base s.len s.cap]⟩ w K:=by refine Ob.ok _ _ _ ?_;refine Ma h λw h=>Rw (r:=0) h bW.range i j Ze λl w h a e=>Nw.mk h λv w h=>?_;refine aA.q h Sk (o9 a.len) uQ λw h=>Ld.xw h (o9 a.len) ?_;refine aau h a e λd w h=>?_;have g:=h.aP;have m:=(h.at 2).aP;have y:(ez (Zs 256) 0 b).1.length+(ez (Zs 256) 0 b).2.2≤b.length:=by{have:∀(b L:Q I)(r:I),(ez L r b).1.length+(ez L r b).2.2≤r+b.length:=by{intro b;induction b with|nil=>intro L r;simp[ez]|cons c b o=>intro L r;rw[ez];split;{grind};have:=o (cX L (L.idxOf c)) 0;have:=B9 r;simp only[Zg,Zp];omega};simpa using this b (Zs 256) 0};have p:=B9 (ez (Zs 256) 0 b).2.2;simp only[ints,Zq,ZB,Zg,ZP]at g m;refine aS (s:=l) (ys:=(ints (da (ez (Zs 256) 0 b).2.2++[257])).map vI) (n:=d.len) mM Zb (.inl ⟨3,Zc⟩) (h.at 2) (.inl ⟨d.base,d.len,d.cap,U,U,h.an ad.own⟩) (by simp[ints,←g]) Ed Za Za λt w h _=>k t w ?_;rw[show(ints (syms b)).map vI=(ints (ez (Zs 256) 0 b).1).map vI++(ints (da (ez (Zs 256) 0 b).2.2++[257])).map vI by unfold syms dn;simp[ints]];exact h.um
end
end
section
open Go Go.Vc
set_option maxRecDepth 100000
def FL.ok(a:(XV X6))(b:(XU XQ))(c:Sl)(R:H→G→Prop) w(h:Nw 172 b w λe d=>Ld (.arr 258) ⟨e,0,Z⟩ d λf=>Cl Pg [kI,kI] 217 ⟨[(.agg f),(ag c)]⟩ d λ(h:H)(i:H) g=>aI (λ(k:G)=>Ld (.arr 258) ⟨e,0,Z⟩ k λl=>Cl Pg [(.arr 258),kI] 218 ⟨[(.agg l)]⟩ k λn(o:H) m=>Nw 262 ⟨Zi 258 (.int .u32 0)⟩ m λq p=>aA 258 ⟨q,0,Z⟩ n p λr=>ec 0 r λs t(u:H) v=>aa (K (u<(c.len:H))) (ax c u 1 λx=>Ld kI x v λ(y:H)=>aB v λz=>aH ⟨q,0,Z⟩ 258 y 1 λB=>Ld (au .u32) B z λ(C:H)=>aH ⟨e,0,Z⟩ 258 y 1 λD=>Ld (au .u8) D z λ(E:H)=>Cl Pg [kB] 216 ⟨[(.pointer a),(.int .u32 C),(ni (i64 E))]⟩ z λ(F:XS) A=>s (i64 (u+1)) A∧t (i64 (u+1)) A<t u v) (R 0 v)) λj=>aa (ZH (a:XV X6)) (R 2 g) (aa (i !=0) (R 2 g) (j g))):Cl Pg [kI] 147 ⟨[(.pointer a),(.agg b),(ag c)]⟩ w R:=co Tryz.f147 [(4,[]),(14,[(32,kI)])] h
def DA.ok(a:(XU XQ))(b:Sl)(R:H→H→G→Prop) w(h:Nw 172 a w λd c=>Ld (.arr 258) ⟨d,0,Z⟩ c λe=>Cl Pg [kB] 295 ⟨[(.agg e)]⟩ c λ(g:XS) f=>aa (! g) (R 0 2 f) (de 0 0 f λh i(j:H)(k:H) l=>aa (K (k<(b.len:H))) (ax b k 1 λm=>Ld kI m l λ(n:H)=>aa (K (n<0)) (R 0 2 l) (aa (K (n≥258)) (R 0 2 l) (aH ⟨d,0,Z⟩ 258 n 1 λo=>Ld (au .u8) o l λ(p:H)=>aa (p==0) (R 0 2 l) (aH ⟨d,0,Z⟩ 258 n 1 λq=>Ld (au .u8) q l λ(r:H)=>h (i64 (j+(i64 r))) (i64 (k+1)) l∧i (i64 (j+(i64 r))) (i64 (k+1)) l<i j k l)))) (R j 0 l))):Cl Pg [kI,kI] 217 ⟨[(.agg a),(ag b)]⟩ w R:=co Tryz.f217 [(10,[(4,kI),(13,kI)])] h
def FN.ok(R:(XV X6)→G→Prop) w(h:Nw 311 ⟨[(.slice Z 0 0),(ni 0)]⟩ w λb a=>R (O ⟨b,0,Z⟩) a):Cl Pg [kP] 145 ⟨[]⟩ w R:=co Tryz.f145 [] h
def rl.ok(a:(XV X6))(R:Sl→G→Prop) w(h:aa (ZH (a:XV X6)) (R (⟨Z,0,0⟩:Sl) w) (af a λb=>Ld kS (b.add 0) w λ(c:Sl)=>Cl Pg [kS] 51 ⟨[(ag c)]⟩ w λ(e:Sl) d=>R e d)):Cl Pg [kS] 148 ⟨[(.pointer a)]⟩ w R:=co Tryz.f148 [] h
def sQ.ok(a:(XV X6))(b:H)(c:H)(R:XS→G→Prop) w(h:Nw 242 ⟨[(.pointer a)]⟩ w λe d=>Ld kP ⟨e,0,Z⟩ d λf=>aa (ZH (f:XV X6)) (R V d) (Cl Pg [kB] 292 ⟨[(.int .u32 b),(ni c)]⟩ d λ(h:XS) g=>aa (! h) (R V g) (Cl Pg [kV] 293 ⟨[(.int .u32 b),(ni c)]⟩ g λj i=>gJ Pg j [(au .u8)] i (λ(k:I)(l:I→Obj)(p:H)(m:G)(n o:G→Prop)=>pF k l m λq=>Ld kP ⟨e,0,Z⟩ q λr=>Cl Pg [] 294 ⟨[(.pointer r),(.int .u8 p)]⟩ q λs=>kZ k l s n) (λt u=>ij (t::[]:Q I) u λv=>R J v) λx y=>ij (x::[]:Q I) y λz=>R V z))):Cl Pg [kB] 216 ⟨[(.pointer a),(.int .u32 b),(ni c)]⟩ w R:=wH Tryz.f216 (.s .o (.s (.s .o (.c (.s .o .o) .o)) (.s (.s .o (.b (.r [(au .u8)] .o (.b .o)))) (.s .o .o)))) h
def Di.ok(a:H)(b:H)(R:XS→G→Prop) w(h:aa (K (b≥0)) (aa (K (b≤32)) (0≤b∧R ((aG .u64 (u64 a) b)==0) w) (R V w)) (R V w)):Cl Pg [kB] 292 ⟨[(.int .u32 a),(ni b)]⟩ w R:=co Tryz.f292 [] h
def DN.ok(a:H)(b:H)(R:XQ→G→Prop) w(h:Nw 112 ⟨[(.int .u32 a)]⟩ w λd c=>Nw 3 ⟨[(ni b)]⟩ c λf e=>R (.func (.func 347) ⟨[]⟩ ⟨[(.pointer (O ⟨f,0,Z⟩)),(.pointer (O ⟨d,0,Z⟩))]⟩) e):Cl Pg [kV] 293 ⟨[(.int .u32 a),(ni b)]⟩ w R:=co Tryz.f293 [] h
def sW.ok(a:(XV X6))(b:H)(R:G→Prop) w(h:af a λc=>Ld kI (c.add 1) w λ(d:H)=>aa ((cd .i64 d 7)==0) (af a λe=>Ld kS (e.add 0) w λ(f:Sl)=>Nw 5 ⟨[(.int .u8 0)]⟩ w λh g=>av Pg (ZC #[24,24] 24 ⟨[(ag f),(ag (⟨O ⟨h,0,Z⟩,1,1⟩:Sl))]⟩) kS g λ(j:Sl) i=>af a λk=>St (k.add 0) (ag j) i λl=>aB l λm=>af a λn=>Ld kS (n.add 0) m λ(o:Sl)=>af a λp=>Ld kI (p.add 1) m λ(q:H)=>0≤(3:H)∧ax o (aG .i64 q (3:H)) 1 λr=>Ld (au .u8) r m λ(s:H)=>af a λt=>Ld kI (t.add 1) m λ(u:H)=>0≤(i64 ((7:H)-(cd .i64 u 7)))∧ax o (aG .i64 q (3:H)) 1 λv=>St v (.int .u8 (ic .u8 s (bq .u8 b (i64 ((7:H)-(cd .i64 u 7)))))) m λx=>af a λy=>Ld kI (y.add 1) x λ(z:H)=>af a λF=>St (F.add 1) (ni (i64 (z+1))) x λI=>R I) (aB w λA=>af a λK=>Ld kS (K.add 0) A λ(B:Sl)=>af a λL=>Ld kI (L.add 1) A λ(C:H)=>0≤(3:H)∧ax B (aG .i64 C (3:H)) 1 λM=>Ld (au .u8) M A λ(N:H)=>af a λP=>Ld kI (P.add 1) A λ(D:H)=>0≤(i64 ((7:H)-(cd .i64 D 7)))∧ax B (aG .i64 C (3:H)) 1 λQ=>St Q (.int .u8 (ic .u8 N (bq .u8 b (i64 ((7:H)-(cd .i64 D 7)))))) A λE=>af a λS=>Ld kI (S.add 1) E λ(T:H)=>af a λW=>St (W.add 1) (ni (i64 (T+1))) E λX=>R X)):Cl Pg [] 294 ⟨[(.pointer a),(.int .u8 b)]⟩ w R:=co Tryz.f294 [] h
def zt.ok(a:XQ)(b:X6)(c:X6)(R:G→Prop) w(h:Ld kI b w λ(d:H)=>∃(e:H→G→Prop)(f:H→G→I),e ((i64 (d-1))) w∧∀(g:H),∀(h:G),e g h→aa (K (g≥0)) (Ld (au .u32) c h λ(i:H)=>0≤g∧me Pg a [kB] [(.int .u8 (cd .u8 (u8 (aG .u32 i g)) 1))] h λ(k:XS) j=>aa (! k) (R j) (([]:Q I)=([]:Q I)∧e (i64 (g-1)) j∧f (i64 (g-1)) j<f g h)) (R h)):Cl Pg [] 347 ⟨[a,(.pointer (O b)),(.pointer (O c))]⟩ w R:=wH Tryz.f347 (.s .o (.b (.l [(4,kI)] (.s (.s .o (.c .o .o)) (.s (.b (.s .o (.c .o .o))) .o))))) h
end
end Go.Proofs.Q9
namespace Go.Srt
section
def sh(l:Q I)(s:I):I:=2^(15-l.getD s 0)
def start(l a:Q I)(i:I):I:=((a.take i).map (sh l)).sum
def uf{l a:Q I}{i:I}(h:i<a.length):start l a (i+1)=start l a i+sh l a[i]:=by unfold start;rw[ZE,ZD,YH,Zh h];simp only[XV.toList,ZN,YK,Xe,Q.sum_nil,Zr]
def HO(l:Q I)(s:I):0<sh l s:=Yk _
def Nz{l ys:Q I}{i j:I}(h:i≤j):start l ys i≤start l ys j:=by unfold start;have:=Zt i (ys.take j);rw[Q.take_take,Xc h]at this;have a:=X3 (λb=>(b.map (sh l)).sum) this;simp only[ZD,YH]at a;omega
def fH{l:Q I}{s:I}:s∈used l↔s<l.length∧0<l.getD s 0:=by unfold used;rw[Q.mem_filter,Xb];simp
def ES(l:Q I):bB l=((used l).map λs=>wt (l.getD s 0)).sum:=by have a:∀k,k≤l.length→bB (l.take k)=(((Zs k).filter λs=>decide (0<l.getD s 0)).map λs=>wt (l.getD s 0)).sum:=by{intro k;induction k with|zero=>intro _;simp[bB]|succ k b=>intro c;rw[wL Za,b Za,YM,Xh,ZD,YH];have d:l.getD k 0=l[k]:=by{rw[Zn,Zh Za];rfl};by_cases h:0<l.getD k 0;{grind};rw[Q.filter_cons_of_neg Ze];have:l[k]=0:=by{omega};rw[this];rfl};have:=a l.length (Zx _);rw[Ye]at this;exact this
def iN{l:Q I}(b:bB l≤32768)(s:I):l.getD s 0≤15:=by rw[Zn];cases h:l[s]? with|none=>simp|some x=>have:=abL (Y3 h);unfold wt at this;simp only[YC];(rcases Z9 15 x with a|a);{grind};exact a
def PL{l a:Q I}(b:bB l≤32768)(h:cP l a):start l a a.length=bB l:=by unfold start;rw[Ye,ES,(h.1.map (sh l)).sum_nat];congr 1;refine Z2 λs c=>?_;have d:=(fH.1 c).2;have e:=iN b s;unfold sh wt;rw[XR Za,XR Za]
def RS{l ys:Q I}(a:bB l≤32768)(h:cP l ys){i:I}(b:i≤ys.length):start l ys i≤32768:=by have:=Nz (l:=l) (ys:=ys) b;rw[PL a h]at this;omega
def Mh{l a:Q I}(h:cP l a){i j:I}(b:j<a.length)(c:i≤j):l.getD (a[i]' Za) 0≤l.getD a[j] 0:=by by_cases e:i=j;{grind};have:=(List.pairwise_iff_getElem.1 h.2) i j Za b Za;omega
def Em{l a:Q I}(h:cP l a){i:I}(b:i<a.length):∀k,k≤i→sh l a[i]∣start l a k|0,_=>by simp[start]|k+1,c=>by rw[uf Za];refine I.dvd_add (Em h b k Za) ?_;have:=Mh h b (show k≤i by omega);unfold sh;exact I.pow_dvd_pow 2 Za
def iU(l a:Q I)(i:I):I:=start l a i/sh l (a.getD i 0)
def getD_at{a:Q I}{i:I}(b:i<a.length):a.getD i 0=a[i]:=Ze
def ti{l a:Q I}(h:cP l a){i:I}(b:i<a.length):iU l a i*sh l a[i]=start l a i:=by unfold iU;rw[getD_at b];exact I.div_mul_cancel (Em h b i (Zx _))
def Q6{l:Q I}(a:bB l≤32768)(s:I):2^l.getD s 0*sh l s=32768:=by unfold sh;rw[←I.pow_add,show l.getD s 0+(15-l.getD s 0)=15 by have:=iN a s;omega]
def Qn{l a:Q I}(b:bB l≤32768)(h:cP l a){i:I}(c:i<a.length):iU l a i<2^l.getD a[i] 0:=by have g:=ti h c;have d:=RS b h (show i+1≤a.length by omega);rw[uf c]at d;have j:=Q6 b a[i];have e:=HO l a[i];have f:(iU l a i+1)*sh l a[i]≤2^l.getD a[i] 0*sh l a[i]:=by{rw[Yd];omega};exact I.le_of_mul_le_mul_right f e
def eX(l a:Q I):I→Q I|0=>Zi 258 0|i+1=>(eX l a i).set (a.getD i 0) (iU l a i)
def eM(l a:Q I):∀i,(eX l a i).length=258|0=>ZY|i+1=>by rw[eX,Q.length_set,eM l a i]
def abU{l a:Q I}(h:cP l a){i j:I}(c:j<a.length)(b:i<j):a[i]' Za≠a[j]:=by have:=(List.pairwise_iff_getElem.1 h.2) i j Za c b;intro e;rw[e]at this;omega
def Bv{l a:Q I}(h:cP l a)(b:∀s∈a,s<258):∀(i:I),i≤a.length→∀j(d:j<a.length),j<i→(eX l a i).getD a[j] 0=iU l a j|0,_,_,_,f=>Za|i+1,m,j,d,f=>by have c:i<a.length:=Za;rw[eX,getD_at c];by_cases e:j=i;{subst e;have:a[j]<(eX l a j).length:=by{rw[eM];exact b _ (Zu d)};rw[Zn,Q.getElem?_set_self this];rfl};have g:=abU h c (show j<i by omega);rw[Zn,Q.getElem?_set_ne λk=>g k.symm,←Zn];exact Bv h b i Za j d Za
def many(l:Q I)(n:I):I:=if n=0 then 0 else l.count n
def fst(l:Q I):I→I|0=>0|n+1=>2*(fst l n+many l n)
def low(l:Q I):I→I|0=>0|n+1=>low l n+many l n*2^(15-n)
def Ds(l:Q I):∀n,n≤15→fst l n*2^(15-n)=low l n|0,_=>by simp[fst,low]|n+1,h=>by have a:=Ds l n Za;have e:2^(15-n)=2*2^(15-(n+1)):=by{rw[show 15-n=(15-(n+1))+1 by omega,Yu,Yi]};rw[fst,low,←a,←YW,e,Yi 2 (fst l n+many l n),XB]
def LI(n:I):low [] n=0:=by induction n with|zero=>rfl|succ n a=>rw[low,a];simp[many]
def CE(l:Q I)(x:I):∀n,low (l++[x]) n=low l n+if 0<x∧x<n then 2^(15-x)else 0|0=>by simp[low]|n+1=>by rw[low,low,CE l x n];unfold many;rw[Q.count_append,Q.count_singleton];by_cases h0:n=0;{subst h0;rw[XT U,XT U,XR Za,XR Za]};rw[XR h0,XR h0];by_cases hx:x=n;{subst hx;rw[XR Za,XT Zd,XT Za,YW];omega};rw[XR (show¬(x==n)=J by simpa using hx)];by_cases h:0<x∧x<n;{rw[XT h,XT Za,Zr];omega};rw[XR h,XR Za,Zr,Zr,Zr]
def IU(l:Q I){n m:I}(h:n≤m):low l n≤low l m:=by induction m with|zero=>have:n=0:=Za;subst this;exact Zx _|succ m a=>by_cases e:n=m+1;{grind};have:=a Za;rw[low];omega
def aaY:∀(k:I)(l:Q I),l.length=k→(∀x∈l,x≤15)→low l 16=bB l:=by intro k;induction k with|zero=>intro l h _;have:l=[]:=List.length_eq_zero_iff.1 h;subst this;simp[LI,bB]|succ k c=>intro l d h;have a:l≠[]:=by{intro e;subst e;simp at d};obtain⟨b,x,rfl⟩:∃b x,l=b++[x]:=⟨l.dropLast,l.getLast a,(Q.dropLast_concat_getLast a).symm⟩;rw[CE,c b Ze λy f=>h y (by simp[f])];unfold bB;rw[ZD,YH];unfold wt;by_cases h0:x=0;{grind};grind
def Uq{l:Q I}(a:bB l≤32768):low l 16=bB l:=aaY _ l rfl λx b=>by obtain⟨i,c,rfl⟩:=ZS b;have:=iN a i;rwa [Zn,Zh c]at this
def jW(l:Q I)(s:I):I:=(l.take s).count (l.getD s 0)
def code(l:Q I)(s:I):I:=fst l (l.getD s 0)+jW l s
def pos(l:Q I)(s:I):I:=low l (l.getD s 0)+jW l s*2^(15-l.getD s 0)
def uB{l:Q I}(a:bB l≤32768)(s:I):code l s*2^(15-l.getD s 0)=pos l s:=by unfold code pos;rw[YW,Ds l _ (iN a s)]
def eH{l:Q I}{i:I}(h:i<l.length):l.getD i 0=l[i]:=by rw[Zn,Zh h];rfl
def kT(l:Q I)(k x:I):(l.take k).count x≤l.count x:=(Q.take_sublist k l).count_le x
def fa{l:Q I}{k:I}(h:k<l.length)(x:I):(l.take (k+1)).count x=(l.take k).count x+if l[k]=x then 1 else 0:=by rw[ZE,Zh h,Q.count_append];simp only[XV.toList,Q.count_singleton,Wd]
def qt{l:Q I}{i j:I}(h:i≤j)(x:I):(l.take i).count x≤(l.take j).count x:=by have:(l.take i)=(l.take j).take i:=by{rw[Q.take_take,Xc h]};rw[this];exact kT _ _ _
def KS{l:Q I}{s:I}(a:s<l.length)(c:0<l.getD s 0):jW l s<many l (l.getD s 0):=by unfold jW many;rw[XR Za];have b:=fa a (l.getD s 0);rw[eH a,XT U]at b;have d:=kT l (s+1) (l[s]);rw[eH a];omega
def Gx{l:Q I}{s:I}(a:s<l.length)(b:0<l.getD s 0):pos l s+2^(15-l.getD s 0)≤low l (l.getD s 0+1):=by have:=KS a b;unfold pos;rw[low,Yp,←Yd];exact I.add_le_add_left (ZR _ this) _
def qo{l:Q I}{s t:I}(b:s<l.length)(g:t<l.length)(c:0<l.getD s 0)(d:s≠t)(h:l.getD s 0<l.getD t 0∨(l.getD s 0=l.getD t 0∧s<t)):pos l s+2^(15-l.getD s 0)≤pos l t:=by(rcases h with h|⟨h,e⟩);{have a:=Gx b c;have f:=IU l (show l.getD s 0+1≤l.getD t 0 by omega);unfold pos at a⊢;omega};have a:=fa b (l.getD t 0);rw[XT Ze]at a;have f:=qt (l:=l) (show s+1≤t by omega) (l.getD t 0);unfold pos jW;rw[h,Yp,←Yd];exact I.add_le_add_left (ZR _ Za) _
def Su{l:Q I}{s t x:I}(a:s<l.length)(b:t<l.length)(c:0<l.getD s 0)(d:0<l.getD t 0)(j:pos l s≤x)(f:x<pos l s+2^(15-l.getD s 0))(k:pos l t≤x)(g:x<pos l t+2^(15-l.getD t 0)):s=t:=by by_cases e:s=t;{exact e};(rcases I.lt_trichotomy (l.getD s 0) (l.getD t 0)with h|h|h);{have:=qo a b c e (.inl h);omega};{(rcases Z9 s t with i|i);{have:=qo a b c e (.inr ⟨h,i⟩);omega};have:=qo b a d (Ne.symm e) (.inr ⟨h.symm,Za⟩);omega};have:=qo b a d (Ne.symm e) (.inl h);omega
def abv(l:Q I)(n:I):∀p,p<l.count n→∃s,s<l.length∧l.getD s 0=n∧jW l s=p:=by intro p d;have a:∀k,k≤l.length→p<(l.take k).count n→∃s,s<k∧l.getD s 0=n∧jW l s=p:=by{intro k;induction k with|zero=>intro _ h;simp at h|succ k e=>intro f h;by_cases b:p<(l.take k).count n;{grind};have c:=fa (l:=l) (k:=k) Za n;by_cases h4:l[k]=n;{rw[XT h4]at c;refine⟨k,Za,by rw[eH Za,h4],?_⟩;unfold jW;rw[eH Za,h4];omega};grind};obtain⟨s,g,b⟩:=a l.length (Zx _) Ze;exact⟨s,Za,b⟩
def HM{l:Q I}{s t:I}(c:s<l.length)(d:t<l.length)(h:l.getD s 0=l.getD t 0)(a:jW l s=jW l t):s=t:=by have b:∀{s t:I},s<l.length→t<l.length→l.getD s 0=l.getD t 0→jW l s=jW l t→¬s<t:=by{intro s t c d h a f;have e:=fa c (l.getD t 0);rw[XT Ze]at e;have g:=qt (l:=l) (show s+1≤t by omega) (l.getD t 0);unfold jW at a;rw[h]at a;omega};have e:=b c d h a;have g:=b d c h.symm a.symm;omega
def LU(l:Q I)(n s t:I):XS:=K (0<l.getD t 0)&&K (l.getD t 0<n∨(l.getD t 0=n∧t<s))
def Cg(l:Q I)(n s:I)(j:0<n):∀k,k≤l.length→(((Zs k).filter (LU l n s)).map (sh l)).sum=low (l.take k) n+((l.take k).take s).count n*2^(15-n)|0,_=>by simp[LI]|k+1,p=>by have c:k<l.length:=Za;rw[YM,Xh,ZD,YH,Cg l n s j k Za];have m:l.take (k+1)=l.take k++[l[k]]:=by{rw[ZE,Zh c];rfl};rw[m,CE];have d:=eH c;have e:(l.take k).length=k:=by{simp;omega};have g:0<l[k]→(l[k]<n∨(l[k]=n∧k<s))→LU l n s k=J:=λa b=>by{unfold LU;rw[d,ZG,Wg,Wg];exact⟨a,b⟩};have f:¬(0<l[k]∧(l[k]<n∨(l[k]=n∧k<s)))→¬LU l n s k=J:=λh=>by{unfold LU;rw[d,ZG,Wg,Wg];exact h};by_cases hks:k<s;{have i:(l.take k++[l[k]]).take s=l.take k++[l[k]]:=Zv (by rw[Zg,e];simp;omega);have o:(l.take k).take s=l.take k:=Zv Za;rw[i,o,Q.count_append,Q.count_singleton];by_cases a:0<l[k]∧l[k]<n;{rw[Q.filter_cons_of_pos (g a.1 (.inl a.2)),XT a,XR (by rw[Wd];omega)];simp only[Q.filter_nil,ZN,YK,Xe,Q.sum_nil,sh,d,Zr];omega};rw[XR a];by_cases b:l[k]=n;{rw[Q.filter_cons_of_pos (g Za (.inr ⟨b,hks⟩)),XT (by simpa using b),YW];simp only[Q.filter_nil,ZN,YK,Xe,Q.sum_nil,sh,d,b];omega};rw[Q.filter_cons_of_neg (f Za),XR (by simpa using b)];simp};have i:(l.take k++[l[k]]).take s=(l.take k).take s:=by{rw[Q.take_append_of_le_length Za]};rw[i];by_cases a:0<l[k]∧l[k]<n;{rw[Q.filter_cons_of_pos (g a.1 (.inl a.2)),XT a];simp only[Q.filter_nil,ZN,YK,Xe,Q.sum_nil,sh,d,Zr];omega};rw[XR a,Q.filter_cons_of_neg (f Za)];simp
def P3{l b:Q I}(h:cP l b){i:I}(d:i<b.length):start l b i=pos l b[i]:=by have k:=fH.1 (h.1.mem_iff.1 (Zu d));let p:I→XS:=λt=>decide (l.getD t 0<l.getD b[i] 0∨(l.getD t 0=l.getD b[i] 0∧t<b[i]));have c:=List.pairwise_iff_getElem.1 h.2;have m:b.filter p=b.take i:=by{(conv=>lhs;rw[←Zt i b]);rw[Xh,List.filter_eq_self.2,List.filter_eq_nil_iff.2,ZF];{intro a f;obtain⟨j,g,rfl⟩:=ZS f;rw[ZA]at g;rw[Xk];by_cases e:j=0;{subst e;simp only[p,Zr,Wg];omega};have:=c i (i+j) d Za Za;simp only[p,Wg];omega};intro a f;obtain⟨j,g,rfl⟩:=ZS f;rw[Zz]at g;rw[YS];have:=c j i Za d Za;simp only[p,Wg];omega};have n:((b.take i).map (sh l)).sum=(((used l).filter p).map (sh l)).sum:=by{rw[←m];exact((h.1.filter p).map (sh l)).sum_nat};unfold start;rw[n];have o:(used l).filter p=(Zs l.length).filter (LU l (l.getD b[i] 0) b[i]):=by{unfold used;rw[Q.filter_filter];congr 1;funext t;rw[XS.and_comm];rfl};rw[o];have:=Cg l (l.getD b[i] 0) b[i] k.2 l.length (Zx _);rw[Ye]at this;exact this
def KF{l a:Q I}(d:bB l≤32768)(h:cP l a){i:I}(b:i<a.length):iU l a i=code l a[i]:=by have c:=ti h b;rw[P3 h b,←uB d]at c;exact I.eq_of_mul_eq_mul_right (HO l a[i]) c
def MO{l a:Q I}(j:l.length=258)(e:bB l≤32768)(h:cP l a){s:I}(d:s<258)(f:0<l.getD s 0):(eX l a a.length).getD s 0=code l s:=by have b:∀s∈a,s<258:=λs d=>by{have:=(fH.1 (h.1.mem_iff.1 d)).1;omega};have g:s∈a:=h.1.mem_iff.2 (fH.2 ⟨Za,f⟩);obtain⟨i,c,rfl⟩:=ZS g;rw[Bv h b _ (Zx _) i c c,KF e h c]
def Dr{l:Q I}(f:l.length=258)(a:bB l≤32768){s:I}(g:s<258)(b:0<l.getD s 0):code l s<2^l.getD s 0:=by have h:=uB a s;have i:=Gx Za b;have c:=IU l (show l.getD s 0+1≤16 by have:=iN a s;omega);rw[Uq a]at c;have d:=Q6 a s;unfold sh at d;have e:(code l s+1)*2^(15-l.getD s 0)≤2^l.getD s 0*2^(15-l.getD s 0):=by{rw[Yd];omega};exact I.le_of_mul_le_mul_right e (Yk _)
end
end Go.Srt
namespace Go.Bits
section
def bZ(b:Q I)(i:I):I:=(b.getD (i/8) 0/2^(7-i%8))%2
def val(b:Q I)(a:I):I→I|0=>0|n+1=>2*val b a n+bZ b (a+n)
def pJ(b:Q I)(i:I):bZ b i<2:=Xm _ Zb
def jN(b:Q I)(a:I):∀n,val b a n<2^n|0=>by simp[val]|n+1=>by have:=jN b a n;have:=pJ b (a+n);simp only[val,Yu];omega
def val_add(b:Q I)(a n:I):∀m,val b a (n+m)=val b a n*2^m+val b (a+n) m|0=>by simp[val]|m+1=>by rw[←Yp];simp only[val,val_add b a n m,Yu,Yp];rw[I.mul_add,Yi (2^m) 2,I.mul_left_comm];omega
def aao(b:Q I)(a n k:I)(h:k<n):val b a n/2^(n-1-k)%2=bZ b (a+k):=by have c:=val_add b a (k+1) (n-1-k);rw[show k+1+(n-1-k)=n by omega]at c;have d:=jN b (a+(k+1)) (n-1-k);rw[c,Yi,I.mul_add_div (Yk _),Y8 d,Zr];simp only[val];have:=pJ b (a+k);omega
def N9(b:Q I)(j i:I):bZ (b.drop j) i=bZ b (8*j+i):=by unfold bZ;have a:(8*j+i)/8=j+i/8:=Za;have c:(8*j+i)%8=i%8:=Za;rw[a,c];simp only[Zn,Q.getElem?_drop]
def Iq(b:Q I)(j a:I):∀n,val (b.drop j) a n=val b (8*j+a) n|0=>rfl|n+1=>by simp only[val,Iq b j a n,N9,Yp]
def H6(b c:Q I)(i:I)(h:i<8*b.length):bZ (b++c) i=bZ b i:=by unfold bZ;congr 2;simp only[Zn];rw[ZO Za]
def oG(b c:Q I)(a:I):∀n,a+n≤8*b.length→val (b++c) a n=val b a n|0,_=>rfl|n+1,h=>by simp only[val];rw[oG b c a n Za,H6 b c _ Za]
def I5(b:Q I)(j:I)(h:b.getD j 0<256):val b (8*j) 8=b.getD j 0:=by have e:∀i,i<8→bZ b (8*j+i)=b.getD j 0/2^(7-i)%2:=by{intro i a;unfold bZ;rw[show(8*j+i)/8=j by omega,show(8*j+i)%8=i by omega]};simp only[val];rw[e 0 Zb,e 1 Zb,e 2 Zb,e 3 Zb,e 4 Zb,e 5 Zb,e 6 Zb,e 7 Zb];generalize b.getD j 0=x at h;simp only[I.reduceSub,I.reducePow];omega
def OR(b:Q I)(m:I)(h:b.getD m 0<256):val b 0 (8*(m+1))=val b 0 (8*m)*256+b.getD m 0:=by rw[show 8*(m+1)=8*m+8 by omega,val_add,Zj,I5 b m h]
def aaZ{b:Q I}(h:∀x∈b,x<256)(m:I):b.getD m 0<256:=by rw[Zn];cases hh:b[m]? with|none=>simp|some x=>simpa using h x (Y3 hh)
def VW(b:Q I)(a w k:I):val b 0 (a+w+k)/2^k%2^w=val b a w:=by rw[val_add b 0 (a+w) k,val_add b 0 a w,Zj,Yi _ (2^k),I.mul_add_div (Yk _),Zj,Y8 (jN b _ k),Zr,Yi,I.mul_add_mod,Y7 (jN b a w)]
def aax(a c:I)(h:c<256):a*256|||c=a*256+c:=by have:=YV (i:=8) (b:=c) h a;rw[Yi]at this;rw[←this]
def Gt(a w:I):a&&&(2^w-1)=a%2^w:=XD a w
end
end Go.Bits
namespace Go.Srt
section
open Go.Bits
def nJ(b:Q I)(j:I):I:=b.getD (8*j) 0*128+b.getD (8*j+1) 0*64+b.getD (8*j+2) 0*32+b.getD (8*j+3) 0*16+b.getD (8*j+4) 0*8+b.getD (8*j+5) 0*4+b.getD (8*j+6) 0*2+b.getD (8*j+7) 0
def kv(b:Q I)(m:I):Q I:=(Zs m).map (nJ b)
def pack(b:Q I):Q I:=kv b ((b.length+7)/8)
def Bits(b:Q I):Prop:=∀x∈b,x≤1
def Bits.getD{b:Q I}(h:Bits b)(i:I):b.getD i 0≤1:=by rw[Zn];cases hx:b[i]? with|none=>simp|some x=>exact h x (Y3 hx)
def Bits.app{a b:Q I}(c:Bits a)(d:Bits b):Bits (a++b):=λx e=>by(rcases List.mem_append.1 e with h|h);{exact c x h};exact d x h
def s9(b:Q I)(m:I):(kv b m).length=m:=by simp[kv]
def BN{b:Q I}{m j:I}(h:j<m):(kv b m).getD j 0=nJ b j:=by unfold kv;rw[Zn,Z0,Yx h];rfl
def QF{b:Q I}(h:Bits b)(j:I):nJ b j<256:=by unfold nJ;have a:=h.getD (8*j);have c:=h.getD (8*j+1);have d:=h.getD (8*j+2);have e:=h.getD (8*j+3);have f:=h.getD (8*j+4);have g:=h.getD (8*j+5);have i:=h.getD (8*j+6);have k:=h.getD (8*j+7);omega
def PC{b:Q I}(h:Bits b)(m:I):∀y∈kv b m,y<256:=λy a=>by obtain⟨j,_,rfl⟩:=List.mem_map.1 a;exact QF h j
def ja{b:Q I}{i:I}(h:b.length≤i):b.getD i 0=0:=by rw[Zn,Yb h];rfl
def EZ(b:Q I)(x i:I):(b++[x]).getD i 0=b.getD i 0+if i=b.length then x else 0:=Ze
def Jg(b:Q I)(x j:I):nJ (b++[x]) j=nJ b j+if j=b.length/8 then x*2^(7-b.length%8)else 0:=by unfold nJ;simp only[EZ];by_cases hj:j=b.length/8;{rw[XT hj];have a:b.length=8*j+b.length%8:=by{omega};have c:b.length%8<8:=Xm _ Zb;generalize b.length%8=r at a c;rw[a];have:r=0∨r=1∨r=2∨r=3∨r=4∨r=5∨r=6∨r=7:=by{omega};rcases this with rfl|rfl|rfl|rfl|rfl|rfl|rfl|rfl<;>simp<;>omega};rw[XR hj,XR Za,XR Za,XR Za,XR Za,XR Za,XR Za,XR Za,XR Za];omega
def aaL{b:Q I}{j:I}(h:b.length≤8*j):nJ b j=0:=by unfold nJ;rw[ja h,ja Za,ja Za,ja Za,ja Za,ja Za,ja Za,ja Za]
def aae(b:Q I):2^(8-b.length%8)∣nJ b (b.length/8):=by have a:b.length=8*(b.length/8)+b.length%8:=Za;have c:b.length%8<8:=Xm _ Zb;generalize e:b.length/8=j at a;generalize b.length%8=r at a c;unfold nJ;have g:∀i,r≤i→b.getD (8*j+i) 0=0:=λi f=>ja Za;have:r=0∨r=1∨r=2∨r=3∨r=4∨r=5∨r=6∨r=7:=Za;have d:=g 0;have h:=g 1;have k:=g 2;have l:=g 3;have m:=g 4;have n:=g 5;have o:=g 6;have p:=g 7;simp only[Zr]at d;rcases this with rfl|rfl|rfl|rfl|rfl|rfl|rfl|rfl<;>simp only[I.reduceSub,I.reducePow]<;>omega
def aaB{a r x:I}(d:r<8)(c:2^(8-r)∣a)(e:x≤1):a|||x*2^(7-r)=a+x*2^(7-r):=by obtain⟨q,rfl⟩:=c;have f:2^(8-r)=2*2^(7-r):=by{rw[show 8-r=(7-r)+1 by omega,Yu,Yi]};have b:=Yk (7-r);refine(YV ?_ q).symm;have:x=0∨x=1:=Za;rcases this with rfl|rfl<;>omega
def room(b:Q I):Q I:=kv b (b.length/8+1)
def LR(b:Q I):room b=if b.length%8=0 then pack b++[0]else pack b:=by unfold room pack;split;{rename_i h;rw[show(b.length+7)/8=b.length/8 by omega];unfold kv;rw[YM,ZD];simp;rw[aaL Za]};grind
def Ps(b:Q I)(x:I):pack (b++[x])=(room b).set (b.length/8) (nJ b (b.length/8)+x*2^(7-b.length%8)):=by unfold pack room;rw[Zg,ZP,show(b.length+1+7)/8=b.length/8+1 by omega];refine YT λi=>?_;unfold kv;simp only[Z0,Zq,YN];by_cases hi:i<b.length/8+1;{rw[Yx hi];simp only[YA];rw[Jg];by_cases e:b.length/8=i;{grind};grind};grind
def H3{b:Q I}(h:Bits b){m i:I}(d:i<8*m):bZ (kv b m) i=b.getD i 0:=by unfold bZ;rw[BN Za];have a:i=8*(i/8)+i%8:=Za;have c:i%8<8:=Xm _ Zb;generalize i/8=j at a;generalize i%8=r at a c;subst a;unfold nJ;have e:=h.getD (8*j);have f:=h.getD (8*j+1);have g:=h.getD (8*j+2);have k:=h.getD (8*j+3);have l:=h.getD (8*j+4);have n:=h.getD (8*j+5);have o:=h.getD (8*j+6);have p:=h.getD (8*j+7);have:r=0∨r=1∨r=2∨r=3∨r=4∨r=5∨r=6∨r=7:=Za;rcases this with rfl|rfl|rfl|rfl|rfl|rfl|rfl|rfl<;>simp only[I.reduceSub,I.reducePow,Zr]<;>omega
def mR(b:Q I):(pack b).length=(b.length+7)/8:=s9 _ _
def bn:I→I→Q I|0,_=>[]|n+1,v=>bn n (v/2)++[v%2]
def pT:∀n v,(bn n v).length=n|0,_=>rfl|n+1,v=>by rw[bn,Zg,pT n];rfl
def Lq:∀n v,Bits (bn n v)|0,_=>(λx a=>by cases a)|n+1,v=>(Lq n _).app λx a=>by have:x=v%2:=by{simpa using a};omega
def BF:∀n v i,i<n→(bn n v).getD i 0=v/2^(n-1-i)%2|0,_,_,h=>Za|n+1,v,i,h=>by rw[bn,EZ,pT];by_cases e:i=n;{subst e;rw[XT U,ja (by rw[pT];exact Zx _),show i+1-1-i=0 by omega];simp};rw[XR e,BF n _ i Za,Zr,I.div_div_eq_div_mul];congr 2;rw[show n+1-1-i=(n-1-i)+1 by omega,Yu,Yi]
def js(l:Q I)(s:I):Prop:=s<258∧0<l.getD s 0
def DP(l:Q I)(s:I):Q I:=bn (l.getD s 0) (code l s)
def enc(l:Q I)(a:Q I):Q I:=a.flatMap (DP l)
def TO(l:Q I)(a:Q I):Bits (enc l a):=λx b=>by obtain⟨s,_,h⟩:=List.mem_flatMap.1 b;exact Lq _ _ x h
def abg(l a b:Q I):enc l (a++b)=enc l a++enc l b:=YQ
def Ay(l:Q I)(s:I)(b:Q I):enc l (s::b)=DP l s++enc l b:=Z6
def cY(l:Q I)(c n:I):XV I:=(Zs 258).find? λs=>decide (0<l.getD s 0)&&(l.getD s 0==n)&&(code l s==c)
def uA{l:Q I}{c n s:I}(h:cY l c n=O s):js l s∧l.getD s 0=n∧code l s=c:=by unfold cY at h;have a:=Q.find?_some h;have b:=Q.mem_of_find?_eq_some h;simp only[ZG,Wg,Wd]at a;exact⟨⟨by simpa using b,a.1.1⟩,a.1.2,a.2⟩
def MQ{l:Q I}{c n:I}(h:cY l c n=Z){s:I}(a:js l s):¬(l.getD s 0=n∧code l s=c):=by unfold cY at h;have:=List.find?_eq_none.1 h s (by simpa using a.1);simp only[ZG,Wg,Wd]at this;exactλb=>this ⟨⟨a.2,b.1⟩,b.2⟩
def TM{l:Q I}(e:l.length=258){s t:I}(c:js l s)(d:js l t)(a:l.getD s 0=l.getD t 0)(b:code l s=code l t):s=t:=by have f:=c.1;have g:=d.1;refine HM Za Za a ?_;unfold code at b;rw[a]at b;omega
def uc{l:Q I}(b:l.length=258){s:I}(a:js l s):cY l (code l s) (l.getD s 0)=O s:=by cases h:cY l (code l s) (l.getD s 0)with|none=>exact X8 ⟨U,U⟩ (MQ h a)|some t=>obtain⟨c,d,e⟩:=uA h;rw[TM b c a d e]
def D3{l:Q I}(u:l.length=258)(c:bB l≤32768){s m:I}(f:js l s)(v:m<l.getD s 0):cY l (code l s/2^(l.getD s 0-m)) m=Z:=by cases h:cY l (code l s/2^(l.getD s 0-m)) m with|none=>rfl|some t=>exfalso;obtain⟨g,i,k⟩:=uA h;have n:=iN c s;have j:=uB c s;have d:=uB c t;rw[i,k]at d;have e:2^(15-m)=2^(l.getD s 0-m)*2^(15-l.getD s 0):=by{rw[←I.pow_add];congr 1;omega};have o:=I.div_mul_le_self (code l s) (2^(l.getD s 0-m));have p:=I.lt_div_mul_add (a:=code l s) (b:=2^(l.getD s 0-m)) (Yk _);have q:pos l t≤pos l s:=by{rw[←j,←d,e,←XB];exact ZR _ o};have r:pos l s<pos l t+2^(15-l.getD t 0):=by{rw[i,←j,←d,e,←XB,←YW];exact I.mul_lt_mul_of_pos_right p (Yk _)};have w:=f.1;have y:=g.1;have:s=t:=Su (x:=pos l s) Za Za f.2 g.2 (Zx _) Ze q r;subst this;omega
def ze(l:Q I):Q I→I→I→Q I→XV (Q I)|[],_,n,acc=>if n=0 then O acc else Z|x::bs,c,n,acc=>match cY l (2*c+x) (n+1)with|some s=>ze l bs 0 0 (acc++[s])|none=>if 15<n+1 then Z else ze l bs (2*c+x) (n+1) acc
def bitsOf(b:Q I)(n:I):Q I:=(Zs n).map (bZ b)
def Ol(b:Q I)(n:I):(bitsOf b n).length=n:=by simp[bitsOf]
end
end Go.Srt
namespace Go.Proofs.Q9
section
open Go Go.Vc Go.Srt Go.Bits
def Wr(b:I)(bits:Q I):HP:=λf=>∃s:Sl,(Srt.Bits bits∧bits.length≤cJ)∧Sat [ah b (.cells ⟨[.slice s.base s.len s.cap,.int .i64 (bits.length:H)]⟩ 311 (0,0)),ao 1 s ((pack bits).map vB)] f
section
variable{E w:G}{F A:Q HP}{b:I}{bits:Q I}
theorem Wr.bU(h:Hp E w (Wr b bits::F)):∃s:Sl,Srt.Bits bits∧bits.length≤cJ∧Hp E w (ah b (.cells ⟨[.slice s.base s.len s.cap,.int .i64 (bits.length:H)]⟩ 311 (0,0))::ao 1 s ((pack bits).map vB)::F):=by obtain⟨s,⟨a,c⟩,h⟩:=h.FO (X:=λ_:Sl=>Srt.Bits bits∧bits.length≤cJ) (L:=λs=>[ah b (.cells ⟨[.slice s.base s.len s.cap,.int .i64 (bits.length:H)]⟩ 311 (0,0)),ao 1 s ((pack bits).map vB)]) λf d=>d;exact⟨s,a,c,h⟩
theorem Wr.shut{s:Sl}(a:Srt.Bits bits)(c:bits.length≤cJ)(h:Hp E w (ah b (.cells ⟨[.slice s.base s.len s.cap,.int .i64 (bits.length:H)]⟩ 311 (0,0))::ao 1 s ((pack bits).map vB)::F)):Hp E w (Wr b bits::F):=Hp.FX (l:=[_,_]) (λf d=>⟨s,⟨a,c⟩,d⟩) h
theorem acI{K:XV X6→G→Prop}(h:Hp E w F)(a:∀b w',Hp E w' (Wr b []::F)→K (O ⟨b,0,Z⟩) w'):Cl Zf [kP] 145 ⟨[]⟩ w K:=by refine FN.ok _ _ ?_;exact Nw.mk h λb c d=>a b c (Wr.shut (s:=⟨Z,0,0⟩) (λx e=>by cases e) (Z5 _) ((d.aQ 1).p1))
theorem TF{v a:I}{K:XS→G→Prop}(f:a≤32)(c:v<2^a)(d:v≤4294967295)(e:K J w):Cl Zf [kB] 292 ⟨[.int .u32 (v:H),.int .i64 (a:H)]⟩ w K:=by refine Di.ok _ _ _ _ ?_;refine aa.t (X5 Za) (aa.t (X5 Za) ⟨Za,?_⟩);rw[jE Za,cr (by have:Wc.bits .u64=64:=U;omega),Y8 c];exact e
theorem tq:cF Zf 24 5 1 1:=cF.of Zc Zc
theorem KY{x:I}(c:x≤1):Srt.Bits [x]:=λy a=>by have:y=x:=by{simpa using a};omega
theorem IE{x:I}:∀y∈[vB x],aC y=J:=λy a=>by have:y=vB x:=by{simpa using a};subst this;rfl
theorem acs(n:I)(h:n≤cJ):cd .i64 (n:H) 7=((n%8:I):H):=by have a:YO .i64=9223372036854775807:=U;rw[aJ]at h;rw[show(7:H)=((7:I):H)from U,fI Za Za,show(7:I)=2^3-1 from U,XD]
theorem aeH{x:I}{K:G→Prop}(h:Hp E w (Wr b bits::F))(D:x≤1)(r:bits.length+1≤cJ)(Y:∀w',Hp E w' (Wr b (bits++[x])::F)→K w'):Cl Zf [] 294 ⟨[.pointer (O ⟨b,0,Z⟩),.int .u8 (x:H)]⟩ w K:=by refine sW.ok _ _ _ _ ?_;simp only[aq,aj,Zj];obtain⟨s,W,L,z⟩:=Wr.bU h;have M:=r;rw[aJ]at M L;have N:bits.length%8<8:=Xm _ Zb;refine Ld.aw (s:=.int .i64) z (bits.length:H) U ?_;rw[acs _ (by rw[aJ];omega)];have i:∀(f:Sl)(B:G),Hp E B (ah b (.cells ⟨[.slice f.base f.len f.cap,.int .i64 (bits.length:H)]⟩ 311 (0,0))::ao 1 f ((room bits).map vB)::F)→aB B λ(a:G)=>Ld kS (⟨b,0,Z⟩:X6) a λ(t:Sl)=>Ld kI (⟨b,1,Z⟩:X6) a λ(c:H)=>0≤(3:H)∧ax t (aG .i64 c 3) 1 λ(P:X6)=>Ld (au .u8) P a λ(R:H)=>Ld kI (⟨b,1,Z⟩:X6) a λ(d:H)=>0≤((i64 ((7:H)-(cd .i64 d 7))):H)∧ax t (aG .i64 c 3) 1 λ(S:X6)=>St S (.int .u8 (ic .u8 R (bq .u8 (x:H) (i64 ((7:H)-(cd .i64 d 7)))))) a λ(k:G)=>Ld kI (⟨b,1,Z⟩:X6) k λ(g:H)=>St (⟨b,1,Z⟩:X6) (.int .i64 (i64 (g+1))) k λ(u:G)=>K u:=by{intro f B v;refine aB.mk v λw3 l=>Ld.aw (s:=.sl) l f U (Ld.aw (s:=.int .i64) l (bits.length:H) U ⟨Zb,?_⟩);have o:=l.p1.aP;have T:(room bits).length=bits.length/8+1:=s9 _ _;rw[Zq,T,ZB]at o;have e3:aG .i64 (bits.length:H) 3=((bits.length/8:I):H):=by{rw[show(3:H)=((3:I):H)from U,cr Zb]};rw[e3];refine ax.rd (l.an (ad.cons ad.own)) Za Za λq hq hc=>?_;have hby:((room bits).map vB)[((bits.length/8:I):H).toNat]' hq=.int .u8 (nJ bits (bits.length/8):H):=by{rw[Q.getElem_map];have:=BN (b:=bits) (m:=bits.length/8+1) (j:=bits.length/8) Za;rw[eH (by rw[s9];omega)]at this;show vB _=_;unfold vB;rw[←this];rfl};refine Ld.sc (s:=.int .u8) (nJ bits (bits.length/8):H) Ze (Ld.aw (s:=.int .i64) l (bits.length:H) U ?_);rw[acs _ (by rw[aJ];omega),ae (x:=(7:H)-((bits.length%8:I):H)) Za,show(7:H)-((bits.length%8:I):H)=((7-bits.length%8:I):H) by omega];have y:=QF (W.app (KY D)) (bits.length/8);rw[Jg,XT U]at y;have hm8:YO .u8=255:=U;have e4:bq .u8 (x:H) ((7-bits.length%8:I):H)=((x*2^(7-bits.length%8):I):H):=dq (by have:Wc.bits .u8=8:=U;omega) Za;have e5:=aaB N (aae bits) D;rw[e4,ly Za Za Ze,e5];refine⟨Za,?_⟩;refine St.own l.p1 Za Za U λX C=>?_;refine Ld.aw (s:=.int .i64) C.p1 (bits.length:H) U ?_;rw[ae Za];refine St.aw C.p1 (show 1<2 by decide) U λw5 h5=>Y w5 (Wr.shut (s:=f) (W.app (KY D)) Ze ?_);rw[Ps];have:((room bits).set (bits.length/8) (nJ bits (bits.length/8)+x*2^(7-bits.length%8))).map vB=((room bits).map vB).set ((bits.length/8:I):H).toNat (.int .u8 ((nJ bits (bits.length/8)+x*2^(7-bits.length%8):I):H)):=by{rw[Zl,Xu];rfl};rw[this,Zg,ZP];exact h5};refine aa.mk (λp=>?_) λp=>?_;{have p:bits.length%8=0:=by{rw[Wd]at p;omega};refine Ld.aw (s:=.sl) z s U (Nw.mk z λb8 B v=>?_);have o:=v.p2.aP;rw[Zq,mR,ZB]at o;refine aS (ys:=[vB 0]) (n:=1) tq Zb (.inl ⟨5,Zc⟩) v.p2 (.inl ⟨O ⟨b8,0,Z⟩,1,1,U,U,v.an (ad.aw U U)⟩) U IE Za Za λf w3 l hs'=>?_;refine St.aw l.p2 (show 0<2 by decide) U λX C=>?_;refine i f X ?_;have e:(room bits).map vB=(pack bits).map vB++[vB 0]:=by{rw[LR,XT p,ZD];rfl};rw[e];exact C.p2.drop};have p:bits.length%8≠0:=by{have:=beq_eq_false_iff_ne.1 p;omega};refine i s w ?_;rw[LR,XR p];exact z
theorem S8{K:Sl→G→Prop}(h:Hp E w (Wr b bits::F))(k:∀s w',Hp E w' (ao 1 s ((pack bits).map vB)::Wr b bits::F)→K s w'):Cl Zf [kS] 148 ⟨[.pointer (O ⟨b,0,Z⟩)]⟩ w K:=by refine rl.ok _ _ _ ?_;simp only[aq,aj,Zj];obtain⟨s,l,a,d⟩:=Wr.bU h;refine aa.f rfl (Ld.aw (s:=.sl) d s rfl (zb.ok _ _ _ ?_));have g:=d.p1.aP;have o:=mR bits;rw[Zq,ZB]at g;rw[aJ]at a;refine aa.mk (λi=>?_) λi=>?_;{have i:s.base=Z:=by{simpa using i};(obtain⟨rfl,m,e⟩|⟨B,p,q,t,j,_⟩:=d.p1.xN);{refine k _ w ?_;rw[m];refine Hp.aQ (Wr.shut (s:=⟨Z,0,0⟩) l (by rw[aJ];exact a) ?_) 1;rw[m];exact(e.aQ 1).p1};grind};refine Nw.mk d λr u e=>?_;have v:=e.pz (n:=0) (sz:=1) rfl;have c:aD 1 s ((pack bits).map vB) u:=e.an (ad.cons (ad.cons ad.own));refine aS (s:=⟨O ⟨r,0,Z⟩,0,0⟩) (ys:=(pack bits).map vB) (n:=s.len) tq Zb (.inl ⟨5,Zc⟩) v (.inl ⟨s.base,s.len,s.cap,rfl,rfl,c⟩) Ze dC Ze Ze λx y z _=>?_;exact k x y (Wr.shut (s:=s) l (by rw[aJ];exact a) z.q2).p1
theorem Rh{v a g j:I}(x:a≤32)(y:v≤4294967295):Iter Zf E (.func (.func 347) ⟨[]⟩ ⟨[.pointer (O ⟨j,0,Z⟩),.pointer (O ⟨g,0,Z⟩)]⟩) a (λi=>[Ki.enc (au .u8) ((v/2^(a-1-i)%2:I):H)]) (ah j (.cells ⟨[.int .i64 (a:H)]⟩ 3 (0,0))::ah g (.cells ⟨[.int .u32 (v:H)]⟩ 112 (0,0))::A):=by intro p C G w K q h r l;refine qC.mk Zc (zt.ok p ⟨j,0,Z⟩ ⟨g,0,Z⟩ K w ?_);have n:=h.perm (List.perm_middle.trans (XG _ Y6));refine Ld.aw (s:=.int .i64) n (a:H) U ?_;refine⟨λi w'=>∃k:I,i=(a:H)-1-(k:H)∧k≤a∧Hp E w' (ah j (.cells ⟨[.int .i64 (a:H)]⟩ 3 (0,0))::ah g (.cells ⟨[.int .u32 (v:H)]⟩ 112 (0,0))::(C k++A)),λi _=>(i+1).toNat,⟨0,by rw[ae Za];omega,Za,n⟩,?_⟩;rintro i u ⟨k,rfl,hk,h1⟩;refine aa.mk (λd=>?_) λc=>?_;{have c:k<a:=by{have:=X0 d;omega};refine Ld.aw (s:=.int .u32) h1.p1 (v:H) U ⟨Za,?_⟩;have z:v/2^(a-1-k)≤v:=I.div_le_self _ _;have e:cd .u8 (u8 (aG .u32 (v:H) ((a:H)-1-(k:H)))) 1=((v/2^(a-1-k)%2:I):H):=by{have B:YO .u8=255:=U;rw[show(a:H)-1-(k:H)=((a-1-k:I):H) by omega,cr (by have:Wc.bits .u32=32:=U;omega),xE,show(((v/2^(a-1-k):I):H)%256)=((v/2^(a-1-k)%256:I):H) by omega,show(1:H)=((1:I):H)from U,fI Za Za,I.and_one_is_mod];omega};rw[e];refine q k c (ah j (.cells ⟨[.int .i64 (a:H)]⟩ 3 (0,0))::ah g (.cells ⟨[.int .u32 (v:H)]⟩ 112 (0,0))::A) u _ (h1.perm ((XG _ List.perm_middle.symm).trans List.perm_middle.symm)) (λo m=>?_) λo m=>?_;{refine aa.f U ⟨U,⟨k+1,by rw[ae Za];omega,Za,m.perm (List.perm_middle.trans (XG _ Y6))⟩,by dsimp only;rw[ae Za];omega⟩};exact aa.t U (l k o c m)};have d:k=a:=by{have:=XX c;omega};subst d;exact r _ (h1.perm ((XG _ List.perm_middle.symm).trans List.perm_middle.symm))
theorem OM{v width:I}{K:XS→G→Prop}(h:Hp E w (Wr b bits::F))(r:width≤32)(L:v<2^width)(c:v≤4294967295)(t:bits.length+width≤cJ)(M:∀w',Hp E w' (Wr b (bits++bn width v)::F)→K J w'):Cl Zf [kB] 216 ⟨[.pointer (O ⟨b,0,Z⟩),.int .u32 (v:H),.int .i64 (width:H)]⟩ w K:=by refine sQ.ok _ _ _ _ _ ?_;refine Nw.mk h λg T u=>Ld.aw (s:=.ptr) u (O ⟨b,0,Z⟩) U (aa.f U (TF r L c (aa.f U (DN.ok _ _ _ _ ?_))));refine Nw.mk u λy W N=>Nw.mk N λz P o=>?_;have o:Hp E P ([ah g (.cells ⟨[.pointer (O ⟨b,0,Z⟩)]⟩ 242 (0,0)),Wr b (bits++(bn width v).take 0)]++(ah z (.cells ⟨[.int .i64 (width:H)]⟩ 3 (0,0))::ah y (.cells ⟨[.int .u32 (v:H)]⟩ 112 (0,0))::F)):=by{rw[Y0,ZF];exact o.p3.p3};have d:=pT width v;refine gJ.yG (k:=au .u8) (x:=λi=>((v/2^(width-1-i)%2:I):H)) (n:=width) (λi=>[ah g (.cells ⟨[.pointer (O ⟨b,0,Z⟩)]⟩ 242 (0,0)),Wr b (bits++(bn width v).take i)]) (λ_=>[CV]) o (Rh r c) ?_ ?_ ?_;{intro Q p i A j X Y l a q _;have a:Hp E j (ah Q (p 0)::ah g (.cells ⟨[.pointer (O ⟨b,0,Z⟩)]⟩ 242 (0,0))::Wr b (bits++(bn width v).take i)::A):=a;refine pF.mk a λB m=>Ld.aw (s:=.ptr) m.p1 (O ⟨b,0,Z⟩) U ?_;refine aeH m.p2 Za Ze λw7 R=>kZ.mk R.p1 λS C=>q S ?_;have e:(bits++(bn width v).take i)++[v/2^(width-1-i)%2]=bits++(bn width v).take (i+1):=by{rw[Zm,ZE,Zh (by rw[d];exact l),←BF width v i l,eH (by rw[d];exact l)];rfl};rw[e]at C;exact C.p2.p1};{intro D j a;have a:Hp E j (ah D (.deferred (O []))::ah g (.cells ⟨[.pointer (O ⟨b,0,Z⟩)]⟩ 242 (0,0))::Wr b (bits++(bn width v).take width)::ah z (.cells ⟨[.int .i64 (width:H)]⟩ 3 (0,0))::ah y (.cells ⟨[.int .u32 (v:H)]⟩ 112 (0,0))::F):=a;rw[Zv Za]at a;exact ij.yG a λB m=>M B m.drop.p1.drop.p1.drop};intro i D j l a;exact(Hp.HR a).elim
end
end
section
open Go Go.Vc Go.Srt
section
variable{E w:G}{F:Q HP}
theorem U8{l:Q I}{K:XU XQ→H→G→Prop}(h:Hp E w F)(r:l.length=258)(C:¬bB l≤32768→∀w',Hp E w' F→K (ai .u32 (Zi 258 0)) 2 w')(D:bB l≤32768→∀c w',cP l c→Hp E w' F→K (ai .u32 (eX l c c.length)) 0 w'):Cl Zf [.arr 258,kI] 218 ⟨[.agg (ai .u8 l)]⟩ w K:=by refine B5.ok _ _ _ ?_;rw[DH];refine Nw.mk h λX w1 L=>Nw.mk L λY w2 A=>Ld.arr A.p1 (by rw[ba,r]) (zu A r λw3 g=>?_);refine aa.mk (λf=>?_) λf=>?_;{have f:¬bB l≤32768:=by{simpa using f};refine Ld.arr g (by rw[ba];simp) (aA.aw g (by rw[ba];simp) (by rw[ba];simp) nH λw4 t=>Ld.arr t (by rw[ba];simp) (C f w4 t.drop.drop))};have f:bB l≤32768:=by{simpa using f};refine Ld.arr g.p1 (by rw[ba,r]) (abj g r (λM=>X8 f M) λ_ c s w4 e t=>?_);have N:=t.aP;simp only[ints,Zq,ZB]at N;have P:∀s∈c,s<258∧0<l.getD s 0:=λs hs=>by{have:=fH.1 (e.1.mem_iff.1 hs);rw[r]at this;exact this};have hlen:c.length≤258:=by{rw[e.1.length_eq,←r];have:=Q.length_filter_le (λs=>decide (0<l.getD s 0)) (Zs l.length);simpa[used]using this};refine⟨λnx la i w'=>∃k n a:I,i=(k:H)∧nx=(n:H)∧la=(a:H)∧k≤c.length∧n*2^(15-a)=Srt.start l c k∧a≤15∧(∀j(R:j<c.length),k≤j→a≤l.getD c[j] 0)∧Hp E w' (ao 1 s ((ints c).map vI)::ah Y (.cells (ai .u32 (eX l c k)) 262 (0,0))::ah X (.cells (ai .u8 l) 172 (0,0))::F),λ_ _ i _=>c.length-i.toNat,⟨0,0,0,U,U,U,Za,by simp[Srt.start],Za,λj R _=>Z5 _,t⟩,?_⟩;intro nx la i w' hI;obtain⟨k,n,a,hi,M,S,hk,T,ha15,m,u⟩:=hI;subst hi;subst M;subst S;refine aa.mk (λd=>?_) λo=>?_;{have d:k<c.length:=by{have:=X0 d;omega};have v:=P _ (Zu d);have p:c[k]<l.length:=by{omega};have B:l.getD c[k] 0=l[c[k]]:=by{rw[Zn,Zh p];rfl};refine Gw u Za (x:=(c[k]:H)) (by simp[ints,d]) ?_;refine aH.rd (s:=.int .u8) u.p2 Za Za (l[c[k]]:H) (by rw[Zl];exact iV p) ?_;have S:=m k d (Zx _);have y:=iN f c[k];rw[B]at S y v;rw[j8 Za];refine⟨Za,?_⟩;have hd:Hp E {w' with drawn:=w'.drawn+1} _:=u.drew;refine⟨λw'=>∃cs,Hp E w' (ao 1 s ((ints c).map vI)::ah Y (.cells cs 262 (0,0))::ah X (.cells (ai .u8 l) 172 (0,0))::F),⟨_,hd⟩,Za,Za,(l[c[k]]:H),?_,?_⟩;{rintro w2 ⟨cs,A⟩;rw[aj,A.p2.cell,Zl,Zj,ZB];exact iV p};have W:=uf (l:=l) d;have z:=ti e d;have hcl:=Qn f e d;have hp15:2^l.getD c[k] 0≤2^15:=ZU Zb (iN f _);have q:n*2^(l[c[k]]-a)=iU l c k:=by{have L:n*2^(l[c[k]]-a)*sh l c[k]=iU l c k*sh l c[k]:=by{rw[z,←T];unfold sh;rw[B,XB,←I.pow_add];congr 2;omega};exact I.eq_of_mul_eq_mul_right (HO l c[k]) L};have e1:bq .u32 (n:H) ((l[c[k]]:H)-(a:H))=(iU l c k:H):=by{have hmx:YO .u32=4294967295:=U;have:=dq (k:=.u32) (a:=n) (b:=l[c[k]]-a) (by have:Wc.bits .u32=32:=U;omega) Ze;rw[q]at this;rw[←this];congr 1;omega};rw[e1];refine aH.wr hd.p1 Za Za (by rw[ba,eM]) U λw3 g=>?_;rw[Zl,He]at g;refine⟨⟨_,g.p1⟩,?_⟩;rw[jI Za,ae Za];refine⟨⟨k+1,iU l c k+1,l[c[k]],U,U,U,Za,?_,y,λj R hkj=>?_,?_⟩,by dsimp only;omega⟩;{rw[W,←z];unfold sh;rw[B,Yd]};{rw[←B];exact Mh e R Za};have:eX l c (k+1)=(eX l c k).set c[k] (iU l c k):=by{rw[eX,getD_at d]};rw[this];exact g.p1};have o:k=c.length:=by{have:=XX o;omega};subst o;refine Ld.arr u.p1 (by rw[ba,eM]) (aA.aw u.p1 (by rw[ba,eM]) (by rw[ba,eM]) nH λw5 h5=>Ld.arr h5 (by rw[ba,eM]) (D f c w5 e h5.drop.drop.drop))
end
def ac2{l a:Q I}(b:l.length=258)(h:cP l a):∀s∈a,s<258∧0<l.getD s 0:=λs c=>by have:=fH.1 (h.1.mem_iff.1 c);rw[b]at this;exact this
def adf{l a:Q I}(b:l.length=258)(h:cP l a):a.length≤258:=by rw[h.1.length_eq,←b];have:=Q.length_filter_le (λs=>decide (0<l.getD s 0)) (Zs l.length);simpa[used]using this
def Ss{l c zs:Q I}(h:cP l c)(d:cP l zs):c=zs:=by refine Q.Perm.eq_of_pairwise (le:=λa b=>l.getD a 0<l.getD b 0∨(l.getD a 0=l.getD b 0∧a<b)) ?_ h.2 d.2 (h.1.trans d.1.symm);intro a b _ _ e f;omega
def Uf{l:Q I}{i:I}{k:Wc}(h:i<l.length):(ai k l)[((i:I):H).toNat]?=O (Sc.enc (.int k) (l.getD i 0:H)):=by rw[Zl,iV h,Zn,Zh h];rfl
end
section
open Go Go.Vc
set_option maxRecDepth 100000
def Fx.ok(a:(XU XQ))(R:(XU XQ)→H→G→Prop) w(h:Nw 172 a w λc b=>Nw 176 ⟨Zi 258 (.int .u8 0)++[(ni 0),(ni 0)]⟩ b λe d=>Ld (.arr 258) ⟨c,0,Z⟩ d λf=>Cl Pg [kB] 290 ⟨[(.agg f)]⟩ d λ(h:XS) g=>aa (! h) (dc Pg 176 [] λi=>aA 260 ⟨e,0,Z⟩ i g λj=>Ld (.arr 260) ⟨e,0,Z⟩ j λk=>R k 2 j) (Ld (.arr 258) ⟨c,0,Z⟩ g λl=>dc Pg 176 [(0,(.agg l))] λm=>aA 260 ⟨e,0,Z⟩ m g λn=>Ld (.arr 260) ⟨e,0,Z⟩ n λo=>R o 0 n)):Cl Pg [(.arr 260),kI] 225 ⟨[(.agg a)]⟩ w R:=co Tryz.f225 [] h
def Dc.ok(a:(XU XQ))(b:H)(R:(XU XQ)→H→XS→G→Prop) w(h:Nw 176 a w λd c=>Nw 176 ⟨Zi 258 (.int .u8 0)++[(ni 0),(ni 0)]⟩ c λf e=>aI (λ(q:G)=>Ld (.arr 258) (Zk ⟨d,0,Z⟩ 0) q λr=>Ld kI (Zk ⟨d,0,Z⟩ 258) q λ(s:H)=>0≤(1:H)∧Ld kI (Zk ⟨d,0,Z⟩ 259) q λ(t:H)=>dc Pg 176 [(0,(.agg r)),(1,(ni (ic .i64 (bq .i64 s (1:H)) b))),(2,(ni (i64 (t+1))))] λu=>aA 260 ⟨f,0,Z⟩ u q λv=>Ld (.arr 258) (Zk ⟨f,0,Z⟩ 0) v λx=>Ld kI (Zk ⟨f,0,Z⟩ 259) v λ(y:H)=>Cl Pg [kI,kI] 306 ⟨[(.agg x),(ni y)]⟩ v λ(B:H)(N:H) z=>Ld kI (Zk ⟨f,0,Z⟩ 258) z λ(P:H)=>aa (K (P≥(i64 (B+N)))) (Ld (.arr 260) ⟨f,0,Z⟩ z λQ=>aA 260 ⟨f,0,Z⟩ Q z λC=>Ld (.arr 260) ⟨f,0,Z⟩ C λS=>R S 0 V C) (aB z λA=>Ld (.arr 258) (Zk ⟨f,0,Z⟩ 0) A λD=>Ld kI (Zk ⟨f,0,Z⟩ 259) A λ(E:H)=>Ld kI (Zk ⟨f,0,Z⟩ 258) A λ(F:H)=>(Ld (.arr 258) (Zk ⟨d,0,Z⟩ 0) A λT=>dc Pg 176 [(0,(.agg T))] λW=>Cl Pg [kI] 307 ⟨[(.agg D),(ni E),(ni (i64 (F-B)))]⟩ A λ(X:H) Y=>aA 260 ⟨f,0,Z⟩ W Y λI=>Ld (.arr 260) ⟨f,0,Z⟩ I λp1=>R p1 X J I)∧(Cl Pg [kI] 307 ⟨[(.agg D),(ni E),(ni (i64 (F-B)))]⟩ A λ(r1:H) L=>Ld (.arr 258) (Zk ⟨d,0,Z⟩ 0) L λs1=>dc Pg 176 [(0,(.agg s1))] λt1=>aA 260 ⟨f,0,Z⟩ t1 L λM=>Ld (.arr 260) ⟨f,0,Z⟩ M λv1=>R v1 r1 J M))) λg=>0≤(1:H)∧aa ((aG .i64 b (1:H)) !=0) (Ld (.arr 260) ⟨d,0,Z⟩ e λh=>aA 260 ⟨f,0,Z⟩ h e λi=>Ld (.arr 260) ⟨f,0,Z⟩ i λj=>R j 0 V i) (Ld (.arr 260) ⟨d,0,Z⟩ e λk=>Cl Pg [kB] 305 ⟨[(.agg k)]⟩ e λ(m:XS) l=>aa (! m) (Ld (.arr 260) ⟨d,0,Z⟩ l λn=>aA 260 ⟨f,0,Z⟩ n l λo=>Ld (.arr 260) ⟨f,0,Z⟩ o λp=>R p 0 V o) (g l))):Cl Pg [(.arr 260),kI,kB] 227 ⟨[(.agg a),(ni b)]⟩ w R:=co Tryz.f227 [(2,[]),(17,[])] h
def Bk.ok(a:(XU XQ))(R:XS→G→Prop) w(h:Nw 176 a w λc b=>aI (λ(m:G)=>Ld (.arr 258) (Zk ⟨c,0,Z⟩ 0) m λn=>Ld kI (Zk ⟨c,0,Z⟩ 259) m λ(o:H)=>Cl Pg [kI,kI] 306 ⟨[(.agg n),(ni o)]⟩ m λ(q:H)(r:H) p=>Ld kI (Zk ⟨c,0,Z⟩ 258) p λ(s:H)=>R (K (s≥(i64 (q+r)))) p) λd=>Ld (.arr 258) (Zk ⟨c,0,Z⟩ 0) b λe=>Cl Pg [kB] 290 ⟨[(.agg e)]⟩ b λ(g:XS) f=>aa (! g) (R V f) (Ld kI (Zk ⟨c,0,Z⟩ 259) f λ(h:H)=>aa (K (h<0)) (R V f) (Ld kI (Zk ⟨c,0,Z⟩ 259) f λ(i:H)=>aa (K (i≥15)) (R V f) (Ld kI (Zk ⟨c,0,Z⟩ 258) f λ(j:H)=>aa (K (j<0)) (R V f) (Ld kI (Zk ⟨c,0,Z⟩ 258) f λ(k:H)=>Ld kI (Zk ⟨c,0,Z⟩ 259) f λ(l:H)=>0≤l∧aa ((aG .i64 k l) !=0) (R V f) (d f)))))):Cl Pg [kB] 305 ⟨[(.agg a)]⟩ w R:=co Tryz.f305 [(2,[])] h
def Bo.ok(a:(XU XQ))(b:H)(R:H→H→G→Prop) w(h:Nw 172 a w λd c=>Ld (.arr 258) ⟨d,0,Z⟩ c λe=>Cl Pg [(.st QS)] 359 ⟨[(.agg e)]⟩ c λg f=>Nw 442 ⟨Zi 16 (ni 0)⟩ f λi h=>ak ⟨i,0,Z⟩ [(ni g.1),(ni g.2.1),(ni g.2.2.1),(ni g.2.2.2.1),(ni g.2.2.2.2.1),(ni g.2.2.2.2.2.1),(ni g.2.2.2.2.2.2.1),(ni g.2.2.2.2.2.2.2.1),(ni g.2.2.2.2.2.2.2.2.1),(ni g.2.2.2.2.2.2.2.2.2.1),(ni g.2.2.2.2.2.2.2.2.2.2.1),(ni g.2.2.2.2.2.2.2.2.2.2.2.1),(ni g.2.2.2.2.2.2.2.2.2.2.2.2.1),(ni g.2.2.2.2.2.2.2.2.2.2.2.2.2.1),(ni g.2.2.2.2.2.2.2.2.2.2.2.2.2.2.1),(ni g.2.2.2.2.2.2.2.2.2.2.2.2.2.2.2.1)] 0 h λj=>aH ⟨i,0,Z⟩ 16 0 1 λk=>St k (ni 0) j λl=>de 0 1 l λm n(o:H)(p:H) q=>aa (K (p≤b)) (aH ⟨i,0,Z⟩ 16 (i64 (p-1)) 1 λr=>Ld kI r q λ(s:H)=>0≤(1:H)∧m (bq .i64 (i64 (o+s)) (1:H)) (i64 (p+1)) q∧n (bq .i64 (i64 (o+s)) (1:H)) (i64 (p+1)) q<n o p q) (aB q λt=>aH ⟨i,0,Z⟩ 16 b 1 λu=>Ld kI u t λ(v:H)=>R o v t)):Cl Pg [kI,kI] 306 ⟨[(.agg a),(ni b)]⟩ w R:=co Tryz.f306 [(9,[(4,kI),(7,kI)])] h
def Jo.ok(a:(XU XQ))(b:H)(c:H)(R:H→G→Prop) w(h:Nw 172 a w λe d=>Ld (.arr 258) ⟨e,0,Z⟩ d λf=>de c 0 d λg h(i:H)(j:H) k=>aa (K (j<258)) (fg (.int .u8) f 258 j λ(l:H)=>aa ((i64 l) !=b) (g i (i64 (j+1)) k∧h i (i64 (j+1)) k<h i j k) (aa (i==0) (R j k) (g (i64 (i-1)) (i64 (j+1)) k∧h (i64 (i-1)) (i64 (j+1)) k<h i j k))) (R 0 k)):Cl Pg [kI] 307 ⟨[(.agg a),(ni b),(ni c)]⟩ w R:=co Tryz.f307 [(5,[(2,kI),(10,kI)])] h
end
end Go.Proofs.Q9
namespace Go.Srt
section
def dH(l:Q I):XS:=K (bB l=32768)&&K (0<l.getD 257 0)
def oP{l:Q I}:dH l=J↔bB l=32768∧0<l.getD 257 0:=by simp[dH]
def Cf(l:Q I)(n p:I):I:=((Zs l.length).find? λs=>(l.getD s 0==n)&&(jW l s==p)).getD 0
def Hi{l:Q I}{n p:I}(h:p<l.count n):Cf l n p<l.length∧l.getD (Cf l n p) 0=n∧jW l (Cf l n p)=p:=by obtain⟨s,e,b,c⟩:=abv l n p h;unfold Cf;cases hf:(Zs l.length).find? λs=>(l.getD s 0==n)&&(jW l s==p)with|none=>have:=List.find?_eq_none.1 hf s Ze;simp only[ZG,Wd]at this;exact X8 ⟨b,c⟩ this|some t=>have a:=Q.find?_some hf;have d:=Q.mem_of_find?_eq_some hf;simp only[ZG,Wd]at a;exact⟨by simpa using d,a⟩
def nF(l:Q I)(c b:I):Prop:=dH l=J∧b<15∧c<2^b∧fst l b+many l b≤c
def iC(l:Q I)(c b x:I):(I×I)×XV I:=if fst l (b+1)+many l (b+1)≤2*c+x then((2*c+x,b+1),Z)else((0,0),O (Cf l (b+1) (2*c+x-fst l (b+1))))
def nF.zero{l:Q I}(h:dH l=J):nF l 0 0:=⟨h,Zb,Zb,by simp[fst,many]⟩
def nF.ge{l:Q I}{c b:I}(h:nF l c b):fst l (b+1)≤2*c:=by rw[fst];have:=h.2.2.2;omega
def aeE{l:Q I}(h:dH l=J):fst l 15+many l 15=32768:=by have b:=Ds l 15 Zb;have a:=Uq (l:=l) (by rw[(oP.1 h).1];decide);rw[(oP.1 h).1]at a;rw[low]at a;omega
def nF.next{l:Q I}{c b x:I}(h:nF l c b)(e:x≤1):nF l (iC l c b x).1.1 (iC l c b x).1.2:=by unfold iC;split;{rename_i a;have f:(2:I)^(b+1)=2*2^b:=by{rw[Yu,Yi]};have g:=h.2.2.1;refine⟨h.1,?_,by show 2*c+x<2^(b+1);omega,a⟩;(rcases Z9 (b+1) 15 with d|d);{exact d};have:b=14:=by{have:=h.2.1;omega};subst this;have:=aeE h.1;have:(2:I)^14=16384:=by{decide};simp only[Z1]at a;omega};exact nF.zero h.1
def tN{l:Q I}{c b x s:I}(j:l.length=258)(h:nF l c b)(k:x≤1)(a:(iC l c b x).2=O s):s<258∧l.getD s 0=b+1∧code l s=2*c+x∧b<15:=by unfold iC at a;split at a;{cases a};rename_i m;have f:s=Cf l (b+1) (2*c+x-fst l (b+1)):=by{injection a with a;exact a.symm};have g:=h.ge;have o:many l (b+1)=l.count (b+1):=by{unfold many;rw[XR Za]};obtain⟨i,d,e⟩:=Hi (l:=l) (n:=b+1) (p:=2*c+x-fst l (b+1)) Za;rw[←f]at i d e;refine⟨Za,d,?_,h.2.1⟩;unfold code;rw[d,e];omega
def SR{l:Q I}{c b x:I}(a:(iC l c b x).2=Z):(iC l c b x).1=(2*c+x,b+1):=by unfold iC at a⊢;split;{rfl};grind
def S4{l:Q I}{c b x s:I}(a:(iC l c b x).2=O s):(iC l c b x).1=(0,0):=by unfold iC at a⊢;split;{grind};rfl
def Bl{l:Q I}(a:l.length≤258):∀n,fst l n+516≤516*2^n|0=>by simp[fst]|n+1=>by have:=Bl a n;have b:many l n≤258:=by{unfold many;split;{omega};grind};rw[fst,Yu];omega
def Du{l:Q I}(a:l.length≤258)(n:I):many l n≤258:=by unfold many;split;{omega};grind
end
end Go.Srt
namespace Go.Proofs.Q9
section
open Go Go.Vc Go.Srt
section
variable{E w:G}{F:Q HP}
theorem Gg{l:Q I}{i:I}{k:Wc}(h:i<l.length):(ai k l)[((i:I):H).toNat]?=O (Sc.enc (.int k) (l.getD i 0:H)):=by rw[Zl,iV h,eH h]
theorem N2{l:Q I}{K:XS→G→Prop}(h:Hp E w F)(a:l.length=258)(d:∀w',Hp E w' F→K (We (bB l=32768)) w'):Cl Zf [kB] 345 ⟨[.agg (ai .u8 l)]⟩ w K:=by refine Dk.ok _ _ _ ?_;refine Nw.mk h λb f c=>Ld.arr c (by rw[ba,a]) (Co c a λg e=>?_);have:((bB l:H)==32768)=We (bB l=32768):=by{rw[Yy];simp;omega};rw[this];exact d _ e.drop
theorem yg{l:Q I}{K:XS→G→Prop}(h:Hp E w F)(d:l.length=258)(e:∀w',Hp E w' F→K (dH l) w'):Cl Zf [kB] 290 ⟨[.agg (ai .u8 l)]⟩ w K:=by refine JY.ok _ _ _ ?_;refine Nw.mk h λb g f=>Ld.arr f (by rw[ba,d]) (N2 f d λj a=>aa.mk (λc=>?_) λc=>?_);{refine aH.rd (s:=.int .u8) a Zb Zb (l.getD 257 0:H) (Gg (i:=257) Za) ?_;have:We ((l.getD 257 0:H)>0)=dH l:=by{unfold dH;rw[c,XS.true_and,Yy,Wg,Wg];omega};rw[this];exact e _ a.drop};have:V=dH l:=by{unfold dH;rw[c,XS.false_and]};rw[this];exact e _ a.drop
abbrev UI:Q Sc:=[.int .i64,.int .i64,.int .i64,.int .i64,.int .i64,.int .i64,.int .i64,.int .i64,.int .i64,.int .i64,.int .i64,.int .i64,.int .i64,.int .i64,.int .i64,.int .i64]
def t16(f:I→H):TT UI:=(f 0,f 1,f 2,f 3,f 4,f 5,f 6,f 7,f 8,f 9,f 10,f 11,f 12,f 13,f 14,f 15,())
theorem aev(f:I→H):eO 16 f=⟨aV UI (t16 f)⟩:=U
theorem acR(f:I→H):∀v∈[(.int .i64 (f 0):XQ),.int .i64 (f 1),.int .i64 (f 2),.int .i64 (f 3),.int .i64 (f 4),.int .i64 (f 5),.int .i64 (f 6),.int .i64 (f 7),.int .i64 (f 8),.int .i64 (f 9),.int .i64 (f 10),.int .i64 (f 11),.int .i64 (f 12),.int .i64 (f 13),.int .i64 (f 14),.int .i64 (f 15)],aC v=J:=by intro v a;simp only[Xs,Q.not_mem_nil,or_false]at a;rcases a with rfl|rfl|rfl|rfl|rfl|rfl|rfl|rfl|rfl|rfl|rfl|rfl|rfl|rfl|rfl|rfl<;>rfl
theorem B6:(⟨Zi 16 (.int .i64 0)⟩:XU XQ)=eO 16 λ_=>0:=U
theorem Sw{l:Q I}{K:TT UI→G→Prop}(h:Hp E w F)(o:l.length=258)(m:∀x∈l,x≤15)(q:∀w',Hp E w' F→K (t16 λj=>(l.count j:H)) w'):Cl Zf [.st UI] 359 ⟨[.agg (ai .u8 l)]⟩ w K:=by refine IV.ok _ _ _ ?_;rw[B6];refine Nw.mk h λb z r=>Nw.mk r λu A p=>Ld.arr p.p1 (by rw[ba,o]) ?_;refine⟨λi w'=>∃k:I,i=(k:H)∧k≤258∧Hp E w' (ah u (.cells (eO 16 λj=>((l.take k).count j:H)) 442 (0,0))::F),λi _=>258-i.toNat,⟨0,U,Za,?_⟩,?_⟩;{have:=p.p1.drop;rwa [iH (g:=λj=>((l.take 0).count j:H)) λi _=>Zd]at this};rintro i w' ⟨k,rfl,hk,hh⟩;refine aa.mk (λf=>?_) λa=>?_;{have f:k<258:=by{have:=X0 f;omega};have c:k<l.length:=by{omega};have n:∀x,(l.take k).count x≤258:=λx=>Yj Q.count_le_length Ze;refine fg.rd (s:=.int .u8) Za Za (l[k]:H) (by rw[Zl];exact iV c) ?_;have v:=m _ (Zu c);rw[ae (x:=(l[k]:H)) Za];refine aa.t (X5 Za) ?_;refine aH.rd (s:=.int .i64) hh Za Za ((l.take k).count l[k]:H) (by rw[Zl];exact zL Za) ?_;have:=n l[k];refine aH.wr hh Za Za eT U λy d=>?_;rw[ae Za,Zl,ue]at d;rw[ae Za];refine⟨⟨k+1,U,Za,?_⟩,by dsimp only;omega⟩;rw[iH (g:=λj=>((l.take (k+1)).count j:H))]at d;{exact d};intro j B;rw[fa c];by_cases e:j=l[k];{grind};grind};have a:k=258:=by{have:=XX a;omega};subst a;rw[←o,Ye]at hh;refine Ld.FY hh (t16 λj=>(l.count j:H)) (aev _) (ak.aw hh (by rw[eT];rfl) (acR λj=>(l.count j:H)) λy d=>?_);exact Ld.FY d (t16 λj=>(l.count j:H)) U (q _ d.drop)
theorem Ee{l:Q I}{n:I}{K:H→H→G→Prop}(h:Hp E w F)(r:l.length=258)(p:∀x∈l,x≤15)(D:n≤15)(A:∀w',Hp E w' F→K (Srt.fst l n:H) (many l n:H) w'):Cl Zf [kI,kI] 306 ⟨[.agg (ai .u8 l),.int .i64 (n:H)]⟩ w K:=by refine Bo.ok _ _ _ _ ?_;refine Nw.mk h λb L q=>Ld.arr q (by rw[ba,r]) (Sw q.drop r p λM t=>?_);rw[B6];refine Nw.mk t λu N v=>ak.aw v (by rw[eT];rfl) (acR λj=>(l.count j:H)) λB o=>?_;have o:Hp E B (ah u (.cells (eO 16 λj=>(l.count j:H)) 442 (0,0))::F):=o;refine aH.wr o Zb Zb eT U λP y=>?_;rw[show(0:H).toNat=0 from U,ue,iH (g:=λj=>(many l j:H)) λi _=>by unfold many;by_cases e:i=0<;>simp[e]]at y;refine⟨λc m w'=>∃k:I,m=(k:H)+1∧k≤n∧c=(Srt.fst l k:H)∧Hp E w' (ah u (.cells (eO 16 λj=>(many l j:H)) 442 (0,0))::F),λ_ m _=>18-m.toNat,⟨0,U,Za,U,y⟩,?_⟩;rintro c m w' ⟨k,rfl,hk,rfl,hh⟩;refine aa.mk (λf=>?_) λd=>?_;{have f:k<n:=by{have:=X0 f;omega};rw[ae (x:=(k:H)+1-1) Za,show(k:H)+1-1=(k:H) by omega];refine aH.rd (s:=.int .i64) hh Za Za (many l k:H) (by rw[Zl];exact zL Za) ?_;have q:=Bl (l:=l) Za k;have t:=Du (l:=l) Za k;have v:(2:I)^k≤2^15:=ZU Zb Za;have o:(2:I)^15=32768:=by{decide};rw[ae (x:=(Srt.fst l k:H)+(many l k:H)) Za,ae (x:=(k:H)+1+1) Za];have e:=dq (k:=.i64) (a:=Srt.fst l k+many l k) (b:=1) Zb (by have:YO .i64=9223372036854775807:=U;omega);have C:bq .i64 ((Srt.fst l k:H)+(many l k:H)) 1=(Srt.fst l (k+1):H):=by{rw[show(Srt.fst l k:H)+(many l k:H)=((Srt.fst l k+many l k:I):H) by omega,show(1:H)=((1:I):H)from U,e,Srt.fst];omega};rw[C];exact⟨Zb,⟨k+1,Za,Za,U,hh⟩,by dsimp only;omega⟩};have d:k=n:=by{have:=XX d;omega};subst d;refine aB.mk hh λR z=>aH.rd (s:=.int .i64) z Za Za (many l k:H) (by rw[Zl];exact zL Za) (A _ z.drop)
theorem acQ{l:Q I}{n p:I}{K:H→G→Prop}(h:Hp E w F)(r:l.length=258)(j:∀x∈l,x≤15)(t:p<l.count n)(u:∀w',Hp E w' F→K (Cf l n p:H) w'):Cl Zf [kI] 307 ⟨[.agg (ai .u8 l),.int .i64 (n:H),.int .i64 (p:H)]⟩ w K:=by refine Jo.ok _ _ _ _ _ ?_;have m:=Hi t;refine Nw.mk h λb A o=>Ld.arr o (by rw[ba,r]) ?_;have v:l.count n≤258:=Yj Q.count_le_length Za;refine⟨λq i w'=>∃k:I,i=(k:H)∧k≤258∧(l.take k).count n≤p∧q=(p:H)-((l.take k).count n:H)∧Hp E w' F,λ_ i _=>258-i.toNat,⟨0,U,Za,Zd,Zd,o.drop⟩,?_⟩;rintro q i w' ⟨k,rfl,hk,hc,rfl,hh⟩;refine aa.mk (λf=>?_) λy=>?_;{have f:k<258:=by{have:=X0 f;omega};have a:k<l.length:=by{omega};have z:=j _ (Zu a);have g:=fa a n;refine fg.rd (s:=.int .u8) Za Za (l[k]:H) (by rw[Zl];exact iV a) ?_;rw[ae (x:=(l[k]:H)) Za,ae (x:=(k:H)+1) Za];refine aa.mk (λc=>?_) λd=>aa.mk (λe=>?_) λe=>?_;{have c:l[k]≠n:=by{rw[bne_iff_ne]at c;omega};rw[XR c]at g;exact⟨⟨k+1,U,Za,Za,Za,hh⟩,by dsimp only;omega⟩};{have d:l[k]=n:=by{have:=bne_eq_false_iff_eq.1 d;omega};have e:(l.take k).count n=p:=by{rw[Wd]at e;omega};have:k=Cf l n p:=by{refine HM a m.1 Ze ?_;rw[m.2.2];unfold jW;rw[eH a,d,e]};rw[this];exact u _ hh};have d:l[k]=n:=by{have:=bne_eq_false_iff_eq.1 d;omega};have e:(l.take k).count n≠p:=by{have:=beq_eq_false_iff_ne.1 e;omega};rw[XT d]at g;rw[ae Za];exact⟨⟨k+1,U,Za,Za,Za,hh⟩,by dsimp only;omega⟩};grind
def fz(l:Q I)(c b:I):XU XQ:=⟨(l.map λ(n:I)=>Yw .u8 (n:H))++[.int .i64 (c:H),.int .i64 (b:H)]⟩
theorem cG{l:Q I}{c b:I}(a:l.length=258):(fz l c b).size=260:=by simp[fz,a]
theorem fu{l:Q I}{c b:I}:∀v∈(fz l c b).toList,aC v=J:=by intro v a;unfold fz at a;simp only[Xl,Q.mem_map,Xs,Q.not_mem_nil,or_false]at a;rcases a with⟨n,_,rfl⟩|rfl|rfl<;>rfl
theorem gq(l:Q I)(c b:I):fz l c b=⟨[]++(l.map λ(n:I)=>Yw .u8 (n:H))++[.int .i64 (c:H),.int .i64 (b:H)]⟩:=U
theorem xH{l:Q I}{c b:I}(a:l.length=258):(fz l c b)[258]?=O (Sc.enc (.int .i64) (c:H)):=by unfold fz;rw[Q.getElem?_toArray,ZJ (by simp[a])];simp[a]
theorem tf{l:Q I}{c b:I}(a:l.length=258):(fz l c b)[259]?=O (Sc.enc (.int .i64) (b:H)):=by unfold fz;rw[Q.getElem?_toArray,ZJ (by simp[a])];simp[a]
theorem Ir:(⟨Zi 258 (.int .u8 0)++[.int .i64 0,.int .i64 0]⟩:XU XQ)=fz (Zi 258 0) 0 0:=by unfold fz;rw[Q.map_replicate];rfl
theorem zV(a:Q (I×XQ)):Tryz.prog.built 176 a=YL (#[(0,258),(258,1),(259,1)][·]?) ⟨Zi 258 (.int .u8 0)++[.int .i64 0,.int .i64 0]⟩ a:=Zc
theorem Ih{l:Q I}(a:l.length=258)(rest:Q (I×XQ)):YL (#[(0,258),(258,1),(259,1)][·]?) ⟨Zi 258 (.int .u8 0)++[.int .i64 0,.int .i64 0]⟩ ((0,.agg (ai .u8 l))::rest)=YL (#[(0,258),(258,1),(259,1)][·]?) (fz l 0 0) rest:=by have:=jG (place:=(#[(0,258),(258,1),(259,1)][·]?)) (i:=0) (v:=.agg (ai .u8 l)) (rest:=rest) (pre:=[]) (aM:=Zi 258 (.int .u8 0)) (post:=[.int .i64 0,.int .i64 0]) U U ZY (by show(ai .u8 l).size=_;rw[ba,a]);exact this
theorem acH{l:Q I}{c a b:I}(d:l.length=258)(rest:Q (I×XQ)):YL (#[(0,258),(258,1),(259,1)][·]?) (fz l a b) ((1,.int .i64 (c:H))::rest)=YL (#[(0,258),(258,1),(259,1)][·]?) (fz l c b) rest:=by have:=jG (place:=(#[(0,258),(258,1),(259,1)][·]?)) (i:=1) (v:=.int .i64 (c:H)) (rest:=rest) (pre:=l.map λ(n:I)=>Yw .u8 (n:H)) (aM:=[.int .i64 (a:H)]) (post:=[.int .i64 (b:H)]) U (by simp[d]) U U;unfold fz;rw[show(l.map λ(n:I)=>Yw .u8 (n:H))++[.int .i64 (a:H),.int .i64 (b:H)]=(l.map λ(n:I)=>Yw .u8 (n:H))++[.int .i64 (a:H)]++[.int .i64 (b:H)] by simp,this];congr 2;simp[XQ.cells]
theorem acX{l:Q I}{c a b:I}(d:l.length=258)(rest:Q (I×XQ)):YL (#[(0,258),(258,1),(259,1)][·]?) (fz l c a) ((2,.int .i64 (b:H))::rest)=YL (#[(0,258),(258,1),(259,1)][·]?) (fz l c b) rest:=by have:=jG (place:=(#[(0,258),(258,1),(259,1)][·]?)) (i:=2) (v:=.int .i64 (b:H)) (rest:=rest) (pre:=(l.map λ(n:I)=>Yw .u8 (n:H))++[.int .i64 (c:H)]) (aM:=[.int .i64 (a:H)]) (post:=[]) U (by simp[d]) U U;unfold fz;rw[show(l.map λ(n:I)=>Yw .u8 (n:H))++[.int .i64 (c:H),.int .i64 (a:H)]=(l.map λ(n:I)=>Yw .u8 (n:H))++[.int .i64 (c:H)]++[.int .i64 (a:H)]++[] by simp,this];congr 2;simp[XQ.cells]
theorem dc.st0{l:Q I}{K:XU XQ→Prop}(a:l.length=258)(b:K (fz l 0 0)):dc Zf 176 [(0,.agg (ai .u8 l))] K:=⟨fz l 0 0,by rw[zV,Ih a];rfl,b⟩
theorem dc.st3{l:Q I}{c b:I}{K:XU XQ→Prop}(a:l.length=258)(d:K (fz l c b)):dc Zf 176 [(0,.agg (ai .u8 l)),(1,.int .i64 (c:H)),(2,.int .i64 (b:H))] K:=⟨fz l c b,by rw[zV,Ih a,acH a,acX a];rfl,d⟩
theorem dc.stZ{K:XU XQ→Prop}(a:K (fz (Zi 258 0) 0 0)):dc Zf 176 [] K:=⟨_,zV [],by rw[Ir];exact a⟩
theorem ad3{l:Q I}{K:XU XQ→H→G→Prop}(h:Hp E w F)(a:l.length=258)(e:dH l=V→∀w',Hp E w' F→K (fz (Zi 258 0) 0 0) 2 w')(f:dH l=J→∀w',Hp E w' F→K (fz l 0 0) 0 w'):Cl Zf [.arr 260,kI] 225 ⟨[.agg (ai .u8 l)]⟩ w K:=by refine Fx.ok _ _ _ ?_;rw[Ir];have d:(fz (Zi 258 0) 0 0).size=260:=cG ZY;refine Nw.mk h λb n k=>Nw.mk k λo p j=>Ld.arr j.p1 (by rw[ba,a]) (yg j a λq g=>aa.mk (λi=>?_) λi=>?_);{exact dc.stZ (aA.aw g d d fu λm c=>Ld.arr c d (e (by simpa using i) _ c.drop.drop))};exact Ld.arr g.p1 (by rw[ba,a]) (dc.st0 a (aA.aw g d (cG a) fu λm c=>Ld.arr c (cG a) (f (by simpa using i) _ c.drop.drop)))
theorem acm{l:Q I}(h:dH l=J):∀x∈l,x≤15:=λx a=>by obtain⟨i,b,rfl⟩:=ZS a;have:=iN (l:=l) (by rw[(oP.1 h).1];decide) i;rwa [eH b]at this
theorem Q8{l:Q I}{c b:I}{K:XS→G→Prop}(h:Hp E w F)(d:l.length=258)(q:b<15)(o:c<2^b)(j:∀w',Hp E w' F→K (dH l&&We (Srt.fst l b+many l b≤c)) w'):Cl Zf [kB] 305 ⟨[.agg (fz l c b)]⟩ w K:=by refine Bk.ok _ _ _ ?_;simp only[bg,aj,Zj];refine Nw.mk h λr t k=>?_;rw[gq]at k;have i:(l.map λ(n:I)=>Yw .u8 (n:H)).length=258:=by{simp[d]};refine Ld.sub k U i (yg k d λu a=>aa.mk (λg=>?_) λg=>?_);{have g:dH l=V:=by{simpa using g};rw[g,XS.false_and]at j;exact j _ a.drop};have g:dH l=J:=by{simpa using g};rw[g,XS.true_and]at j;rw[←gq]at a;have v:(2:I)^b≤2^15:=ZU Zb Za;have p:(2:I)^15=32768:=Zb;refine Ld.aw (s:=.int .i64) a (b:H) (tf d) (aa.f (X4 Za) ?_);refine Ld.aw (s:=.int .i64) a (b:H) (tf d) (aa.f (X4 Za) ?_);refine Ld.aw (s:=.int .i64) a (c:H) (xH d) (aa.f (X4 Za) ?_);refine Ld.aw (s:=.int .i64) a (c:H) (xH d) (Ld.aw (s:=.int .i64) a (b:H) (tf d) ⟨Za,?_⟩);rw[cr (by have:Wc.bits .i64=64:=U;omega),Y8 o];refine aa.f Zb ?_;rw[gq]at a;refine Ld.sub a U i ?_;rw[←gq]at a;refine Ld.aw (s:=.int .i64) a (b:H) (tf d) (Ee a d (acm g) Za λx m=>Ld.aw (s:=.int .i64) m (c:H) (xH d) ?_);have k:=Bl (l:=l) Za b;have a:=Du (l:=l) Za b;rw[ae Za];have e:We ((c:H)≥(Srt.fst l b:H)+(many l b:H))=We (Srt.fst l b+many l b≤c):=by{rw[Yy,Wg,Wg];omega};rw[e];exact j _ m.drop
theorem Pu{c x:I}(f:x≤1)(g:c<16384):ic .i64 (bq .i64 (c:H) 1) (x:H)=((2*c+x:I):H):=by have h:YO .i64=9223372036854775807:=U;have e:=dq (k:=.i64) (a:=c) (b:=1) Zb Za;have d:c*2^1|||x=2*c+x:=by{have:=YV (i:=1) (b:=x) Za c;rw[Yi c,←this,Yi]};rw[show(1:H)=((1:I):H)from U,e,ly Za Za Ze,d]
theorem adT{l:Q I}{c b x:I}{K:XU XQ→H→XS→G→Prop}(h:Hp E w F)(a:l.length=258)(j:nF l c b)(B:x≤1)(m:∀w',Hp E w' F→K (fz l (iC l c b x).1.1 (iC l c b x).1.2) (((iC l c b x).2.getD 0:I):H) (iC l c b x).2.isSome w'):Cl Zf [.arr 260,kI,kB] 227 ⟨[.agg (fz l c b),.int .i64 (x:H)]⟩ w K:=by refine Dc.ok _ _ _ _ ?_;simp only[bg,aj,Zj];rw[Ir];have C:(fz (Zi 258 0) 0 0).size=260:=cG ZY;have d:(l.map λ(n:I)=>Yw .u8 (n:H)).length=258:=by{simp[a]};have hp:(2:I)^b≤2^14:=ZU Zb (by have:=j.2.1;omega);have D:(2:I)^14=16384:=Zb;have L:=j.2.2.1;have M:=j.2.1;have k:=acm j.1;refine Nw.mk h λb4 w1 N=>Nw.mk N λb6 w2 A=>?_;have P:aG .i64 (x:H) 1=0:=by{rw[show(1:H)=((1:I):H)from U,cr Zb];omega};rw[P];refine⟨Zb,aa.f Zb ?_⟩;refine Ld.arr A.p1 (cG a) (Q8 A a M L λw3 u=>?_);refine aa.f (by rw[j.1,X5 j.2.2.2];rfl) ?_;have o:=u.p1;rw[gq l c b]at o;refine Ld.sub o U d (Ld.aw (s:=.int .i64) u.p1 (c:H) (xH a) ⟨Zb,Ld.aw (s:=.int .i64) u.p1 (b:H) (tf a) ?_⟩);rw[Pu B Za,ae (x:=(b:H)+1) Za];refine dc.st3 (b:=b+1) a (aA.aw u C (cG a) fu λw4 z=>?_);have p:=z;rw[gq l (2*c+x) (b+1)]at p;refine Ld.sub p U d (Ld.aw (s:=.int .i64) z ((b+1:I):H) (tf a) (Ee z a k Za λw5 v=>Ld.aw (s:=.int .i64) v ((2*c+x:I):H) (xH a) ?_));have hf:=Bl (l:=l) Za (b+1);have hm:=Du (l:=l) Za (b+1);have R:(2:I)^(b+1)=2*2^b:=by{rw[Yu,Yi]};rw[ae Za];by_cases hcase:Srt.fst l (b+1)+many l (b+1)≤2*c+x;{refine aa.t (X5 Za) (Ld.arr v (cG a) (aA.aw v (cG a) (cG a) fu λS i=>Ld.arr i (cG a) ?_));have e:iC l c b x=((2*c+x,b+1),Z):=by{unfold iC;rw[XT hcase]};rw[e]at m;exact m _ i.drop.drop};refine aa.f (X4 Za) ?_;have e:iC l c b x=((0,0),O (Cf l (b+1) (2*c+x-Srt.fst l (b+1)))):=by{unfold iC;rw[XR hcase]};rw[e]at m;have T:=j.ge;have W:many l (b+1)=l.count (b+1):=by{unfold many;rw[XR Za]};refine aB.mk v λS i=>?_;have q:=i;rw[gq l (2*c+x) (b+1)]at q;refine Ld.sub q U d (Ld.aw (s:=.int .i64) i ((b+1:I):H) (tf a) (Ld.aw (s:=.int .i64) i ((2*c+x:I):H) (xH a) ?_));rw[ae (x:=((2*c+x:I):H)-(Srt.fst l (b+1):H)) Za,show((2*c+x:I):H)-(Srt.fst l (b+1):H)=((2*c+x-Srt.fst l (b+1):I):H) by omega];constructor;{have g:=i.p1;rw[gq l c b]at g;refine Ld.sub g U d (dc.st0 a (acQ i a k Za λX y=>?_));exact aA.aw y (cG a) (cG a) fu λY r=>Ld.arr r (cG a) (m _ r.drop.drop)};refine acQ i a k Za λX y=>?_;have g:=y.p1;rw[gq l c b]at g;refine Ld.sub g U d (dc.st0 a ?_);exact aA.aw y (cG a) (cG a) fu λY r=>Ld.arr r (cG a) (m _ r.drop.drop)
end
end
end Go.Proofs.Q9
namespace Go.Srt
section
def nu(l:Q I)(z:H):XS:=K (0≤z)&&K (z<258)&&K (0<l.getD z.toNat 0)
def n9(l:Q I)(zs:Q H):XS:=zs.all (nu l)
def lT(l:Q I)(zs:Q H):Q I:=enc l (zs.map H.toNat)
def xr{l:Q I}{z:H}:nu l z=J↔0≤z∧z<258∧0<l.getD z.toNat 0:=by simp[nu,and_assoc]
def Ha{l:Q I}{zs:Q H}(h:n9 l zs=J){z:H}(a:z∈zs):nu l z=J:=List.all_eq_true.1 h z a
def Tk{l:Q I}{zs:Q H}{k:I}(a:k<zs.length)(h:nu l zs[k]=V):n9 l zs=V:=by cases ha:n9 l zs with|false=>rfl|true=>have:=Ha ha (Zu a);rw[h]at this;cases this
def ET{zs:Q H}{k:I}(a:k<zs.length):zs.take (k+1)=zs.take k++[zs[k]]:=by rw[ZE,Zh a];rfl
def PO{l:Q I}{zs:Q H}{k:I}(a:k<zs.length)(h:n9 l (zs.take k)=J)(b:nu l zs[k]=J):n9 l (zs.take (k+1))=J:=by unfold n9 at h⊢;rw[ET a,Q.all_append,h];simp[b]
def Fa{l:Q I}{zs:Q H}{k:I}(a:k<zs.length):lT l (zs.take (k+1))=lT l (zs.take k)++DP l zs[k].toNat:=by unfold lT;rw[ET a,ZD,abg];congr 1;simp[enc]
def Jw(l:Q I)(s:I):(DP l s).length=l.getD s 0:=pT _ _
def oI{l:Q I}(a:bB l≤32768):∀zs:Q H,(lT l zs).length≤15*zs.length|[]=>by simp[lT,enc]|z::zs=>by have:=oI a zs;have b:=iN a z.toNat;unfold lT at this⊢;rw[ZN,Ay,Zg,Jw,Zp];omega
end
end Go.Srt
namespace Go.Proofs.Q9
section
open Go Go.Vc Go.Srt Go.Bits
section
variable{E w:G}{F:Q HP}
theorem adh{l:Q I}{s:Sl}{zs:Q H}{K:H→H→G→Prop}(h:Hp E w F)(y:l.length=258)(z:ad F (aD 1 s (zs.map vI)))(N:zs.length≤100000)(o:¬(bB l≤32768∧n9 l zs=J)→∀w',Hp E w' F→K 0 2 w')(t:bB l≤32768→n9 l zs=J→∀w',Hp E w' F→K ((lT l zs).length:H) 0 w'):Cl Zf [kI,kI] 217 ⟨[.agg (ai .u8 l),.slice s.base s.len s.cap]⟩ w K:=by refine DA.ok _ _ _ _ ?_;have u:=(h.an z).1;simp only[Zq,ZB]at u;refine Nw.mk h λb P d=>Ld.arr d (by rw[ba,y]) (zu d y λB A=>aa.mk (λe=>o (λa=>by simp[a.1]at e) B A.drop) λe=>?_);have e:bB l≤32768:=by{simpa using e};refine⟨λn i w'=>∃k:I,i=(k:H)∧k≤zs.length∧n=((lT l (zs.take k)).length:H)∧n9 l (zs.take k)=J∧Hp E w' (ah b (.cells (ai .u8 l) 172 (0,0))::F),λ_ i _=>zs.length-i.toNat,⟨0,U,Za,U,U,A⟩,?_⟩;rintro n i w' ⟨k,rfl,hk,rfl,hg,a⟩;refine aa.mk (λc=>?_) λf=>?_;{have c:k<zs.length:=by{have:=X0 c;omega};have g:nu l zs[k]=V→K 0 2 w':=λC=>o (λa=>by rw[Tk c C]at a;exact X8 a.2 Zb) w' a.drop;refine ax.rd (a.an (ad.cons z)) Za Za λq R D=>Ld.sc (s:=.int .i64) zs[k] (by rw[D];simp[vI,Sc.enc]) ?_;refine aa.mk (λr=>g ?_) λr=>aa.mk (λd=>g ?_) λd=>?_;{have:=X0 r;unfold nu;rw[X4 (show¬0≤zs[k] by omega)];rfl};{have:=X0 d;unfold nu;rw[X4 (show¬zs[k]<258 by omega)];simp};have r:=XX r;have d:=XX d;obtain⟨m,L⟩:∃m:I,zs[k]=(m:H):=⟨zs[k].toNat,Za⟩;have j:zs[k].toNat=m:=by{omega};rw[L];refine aH.rd (s:=.int .u8) a Za Za (l.getD m 0:H) (Gg Za) (aa.mk (λp=>g ?_) λp=>?_);{have:l.getD m 0=0:=by{rw[Wd]at p;omega};unfold nu;rw[j,this];simp};have p:0<l.getD m 0:=by{have:=beq_eq_false_iff_ne.1 p;omega};refine aH.rd (s:=.int .u8) a Za Za (l.getD m 0:H) (Gg Za) ?_;have M:=iN e m;have v:=oI e (zs.take k);rw[Zz]at v;rw[ae (x:=(l.getD m 0:H)) Za,ae (x:=((lT l (zs.take k)).length:H)+(l.getD m 0:H)) Za,ae Za];refine⟨⟨k+1,U,Za,?_,PO c hg (xr.2 ⟨Za,Za,by rw[j];exact p⟩),a⟩,by dsimp only;omega⟩;rw[Fa c,Zg,Jw,j];omega};have f:k=zs.length:=by{have:=XX f;omega};subst f;rw[Ye]at hg⊢;exact t e hg w' a.drop
theorem ack{l:Q I}{s:Sl}{zs:Q H}{b:I}{a:Q I}{K:H→G→Prop}(h:Hp E w (Wr b a::F))(g:l.length=258)(r:ad F (aD 1 s (zs.map vI)))(W:zs.length≤100000)(P:a.length≤100000000)(u:¬(bB l≤32768∧n9 l zs=J)→∀w',Hp E w' (Wr b a::F)→K 2 w')(v:bB l≤32768→n9 l zs=J→∀w',Hp E w' (Wr b (a++lT l zs)::F)→K 0 w'):Cl Zf [kI] 147 ⟨[.pointer (O ⟨b,0,Z⟩),.agg (ai .u8 l),.slice s.base s.len s.cap]⟩ w K:=by refine FL.ok _ _ _ _ _ ?_;simp only[bg];have y:=(h.an (ad.cons r)).1;simp only[Zq,ZB]at y;rw[DH];refine Nw.mk h λX w1 R=>Ld.arr R (by rw[ba,g]) (adh R g (ad.cons (ad.cons r)) W (λz S o=>?_) λj T S o=>?_);{exact aa.f U (aa.t Zb (u z S o.drop))};refine aa.f U (aa.f Zb (Ld.arr o (by rw[ba,g]) (U8 o g (λz=>X8 j z) λ_ p w3 A Y=>?_)));refine Nw.mk Y λB w4 h4=>aA.aw h4 (by rw[ba];simp) (by rw[ba,eM]) nH λw5 h5=>?_;refine⟨λi w'=>∃k:I,i=(k:H)∧k≤zs.length∧Hp E w' (Wr b (a++lT l (zs.take k))::ah B (.cells (ai .u32 (eX l p p.length)) 262 (0,0))::ah X (.cells (ai .u8 l) 172 (0,0))::F),λi _=>zs.length-i.toNat,⟨0,U,Za,?_⟩,?_⟩;{rw[Y0];have e:lT l []=[]:=U;rw[e,ZF];exact h5.p2};rintro i w' ⟨k,rfl,hk,hh⟩;refine aa.mk (λc=>?_) λd=>?_;{have c:k<zs.length:=by{have:=X0 c;omega};refine ax.rd (hh.an (ad.cons (ad.cons (ad.cons r)))) Za Za λq hq hc=>Ld.sc (s:=.int .i64) zs[k] (by rw[hc];simp[vI,Sc.enc]) ?_;obtain⟨g1,g2,C⟩:=xr.1 (Ha T (Zu c));obtain⟨m,hm⟩:∃m:I,zs[k]=(m:H):=⟨zs[k].toNat,Za⟩;have n:zs[k].toNat=m:=by{omega};rw[n]at C;rw[hm];refine aB.mk hh λw6 D=>?_;refine aH.rd (s:=.int .u32) D.p1 Za Za ((eX l p p.length).getD m 0:H) (Gg (by rw[eM];omega)) ?_;refine aH.rd (s:=.int .u8) D.p2 Za Za (l.getD m 0:H) (Gg Za) ?_;have L:=iN j m;rw[ae (x:=(l.getD m 0:H)) Za,MO g j A Za C,ae (x:=(k:H)+1) Za];have M:=Dr g j Za C;have hp:2^l.getD m 0≤2^15:=ZU Zb L;have hp2:(2:I)^15=32768:=by{decide};have N:=oI j (zs.take k);rw[Zz]at N;refine OM D Za M Za (by rw[Zg,aJ];omega) λw7 h7=>⟨⟨k+1,Za,Za,?_⟩,by dsimp only;omega⟩;rw[Fa c,n,←Zm];exact h7};have d:k=zs.length:=by{have:=XX d;omega};subst d;rw[Ye]at hh;exact v j T w' (hh.p1.drop.p1.drop)
end
end
end Go.Proofs.Q9
namespace Go.ah
section
open Go.Inc Go.Srt Go.Sym Go.Bits
structure CS where
 c:I
 n:I
 d:DS
 acc:Q I
def fO(l:Q I)(s:CS)(x:I):vU CS (Q I) I:=match cY l (2*s.c+x) (s.n+1)with|none=>.more ⟨2*s.c+x,s.n+1,s.d,s.acc⟩|some y=>match ck s.d y with|none=>.bad 160|some (_,t,true)=>.fin (s.acc++t)|some (a,t,false)=>.more ⟨0,0,a,s.acc++t⟩
def Cz{l:Q I}{s:CS}{x:I}(h:cY l (2*s.c+x) (s.n+1)=Z):fO l s x=.more ⟨2*s.c+x,s.n+1,s.d,s.acc⟩:=by unfold fO;rw[h]
def Dw{l:Q I}{s:CS}{x y:I}(h:cY l (2*s.c+x) (s.n+1)=O y):fO l s x=match ck s.d y with|none=>.bad 160|some (_,t,true)=>.fin (s.acc++t)|some (a,t,false)=>.more ⟨0,0,a,s.acc++t⟩:=by unfold fO;rw[h]
section
variable{l:Q I}
theorem Mb(g:l.length=258)(i:bB l≤32768){s:I}(j:js l s)(a acc:Q I)(d:DS):∀k m,m+k=l.getD s 0→0<k→run (fO l) ⟨code l s/2^(l.getD s 0-m),m,d,acc⟩ ((bn (l.getD s 0) (code l s)).drop m++a)=(match ck d s with|none=>.bad 160|some (_,t,true)=>.fin (acc++t) a|some (q,t,false)=>run (fO l) ⟨0,0,q,acc++t⟩ a)|0,_,_,h=>Za|k+1,m,x,_=>by have u:=iN i s;have r:=pT (l.getD s 0) (code l s);have f:m<(bn (l.getD s 0) (code l s)).length:=Za;rw[Zy f,ZK];have v:(bn (l.getD s 0) (code l s))[m]=code l s/2^(l.getD s 0-1-m)%2:=by{rw[←BF _ _ _ Za,eH f]};have n:2*(code l s/2^(l.getD s 0-m))+(bn (l.getD s 0) (code l s))[m]=code l s/2^(l.getD s 0-(m+1)):=by{rw[v,show l.getD s 0-m=(l.getD s 0-1-m)+1 by omega,Yu,←I.div_div_eq_div_mul,show l.getD s 0-(m+1)=l.getD s 0-1-m by omega];omega};by_cases e:k=0;{subst e;have w:m+1=l.getD s 0:=by{omega};have o:cY l (2*(code l s/2^(l.getD s 0-m))+(bn (l.getD s 0) (code l s))[m]) (m+1)=O s:=by{rw[n,w,Xo,I.pow_zero,I.div_one,uc g j]};have c:=Dw (s:=⟨code l s/2^(l.getD s 0-m),m,d,acc⟩) o;rw[cK,c,ZW Za,ZT];cases hd:ck d s with|none=>rfl|some p=>obtain⟨q,t,b⟩:=p;cases b<;>rfl};have o:cY l (2*(code l s/2^(l.getD s 0-m))+(bn (l.getD s 0) (code l s))[m]) (m+1)=Z:=by{rw[n,D3 g i j Za]};have c:=Cz (s:=⟨code l s/2^(l.getD s 0-m),m,d,acc⟩) o;rw[dK c];simp only;rw[n];exact Mb g i j a acc d k (m+1) Za Za
theorem abQ(c:l.length=258)(e:bB l≤32768){s:I}(b:js l s)(a acc:Q I)(d:DS):run (fO l) ⟨0,0,d,acc⟩ (DP l s++a)=match ck d s with|none=>.bad 160|some (_,t,true)=>.fin (acc++t) a|some (f,t,false)=>run (fO l) ⟨0,0,f,acc++t⟩ a:=by have h:=Mb c e b a acc d (l.getD s 0) 0 Za b.2;have g:=Dr c e b.1 b.2;rw[YY,Y8 g,Yq]at h;exact h
theorem Pp(g:l.length=258)(i:bB l≤32768):∀(c a acc:Q I)(d:DS),(∀s∈c,js l s)→run (fO l) ⟨0,0,d,acc⟩ (enc l c++a)=(match run j9 (d,acc) c with|.bad e=>.bad e|.fin t r=>.fin t (enc l r++a)|.short (f,acc')=>run (fO l) ⟨0,0,f,acc'⟩ a)|[],a,acc,d,_=>rfl|s::c,a,acc,d,h=>by rw[Ay,Zm,abQ g i (h s Zd),cK];cases hd:ck d s with|none=>rw[MF hd]|some p=>obtain⟨f,t,b⟩:=p;cases b with|true=>rw[C4 hd]|false=>rw[ux hd];exact Pp g i c a _ f λt j=>h t (by simp[j])
end
end
end Go.ah
namespace Go.Tab
section
open Go.Inc
structure TS where
 l:Q I
 bits:I
 now:I
 way:I
def t0:TS:=⟨[],0,0,0⟩
def bD(ok:Q I→XS)(s:TS)(b:I):vU TS (Q I) I:=if s.bits<4 then .more ⟨s.l,s.bits+1,2*s.now+b,s.way⟩else if s.bits=4 then if b=0 then if s.l.length+1<258 then .more ⟨s.l++[s.now],4,s.now,0⟩else if ok (s.l++[s.now])then .fin (s.l++[s.now])else .bad 100 else .more ⟨s.l,5,s.now,s.way⟩else if b=0 then if s.way≠2∧s.now<15 then .more ⟨s.l,4,s.now+1,1⟩else .bad 100 else if s.way≠1∧0<s.now then .more ⟨s.l,4,s.now-1,2⟩else .bad 100
def qh:I→Q I|0=>[]|k+1=>1::0::qh k
def jl:I→Q I|0=>[]|k+1=>1::1::jl k
def eB(a b:I):Q I:=(if b<a then jl (a-b)else qh (b-a))++[0]
def eN:I→Q I→Q I|_,[]=>[]|was,n::l=>eB was n++eN n l
def four(n:I):Q I:=[n/8%2,n/4%2,n/2%2,n%2]
def fW(l:Q I):Q I:=four (l.headD 0)++eN (l.headD 0) l
section
variable{ok:Q I→XS}
theorem KK:∀(k:I)(l:Q I)(a b:I)(r:Q I),b≠2→a+k≤15→∃c,run (bD ok) ⟨l,4,a,b⟩ (qh k++r)=run (bD ok) ⟨l,4,a+k,c⟩ r|0,l,a,b,r,_,_=>⟨b,U⟩|k+1,l,a,b,r,d,g=>by obtain⟨c,h⟩:=KK k l (a+1) 1 r Zb Za;refine⟨c,?_⟩;have e:bD ok ⟨l,4,a,b⟩ 1=.more ⟨l,5,a,b⟩:=U;have f:bD ok ⟨l,5,a,b⟩ 0=.more ⟨l,4,a+1,1⟩:=by{simp only[bD];rw[XR Zb,XR Zb,XT trivial,XT ⟨d,Za⟩]};show run (bD ok) ⟨l,4,a,b⟩ (1::0::(qh k++r))=_;rw[dK e,dK f,h,show a+1+k=a+(k+1) by omega]
theorem Eb:∀(k:I)(l:Q I)(a b:I)(r:Q I),b≠1→k≤a→∃c,run (bD ok) ⟨l,4,a,b⟩ (jl k++r)=run (bD ok) ⟨l,4,a-k,c⟩ r|0,l,a,b,r,_,_=>⟨b,U⟩|k+1,l,a,b,r,d,g=>by obtain⟨c,h⟩:=Eb k l (a-1) 2 r Zb Za;refine⟨c,?_⟩;have e:bD ok ⟨l,4,a,b⟩ 1=.more ⟨l,5,a,b⟩:=U;have f:bD ok ⟨l,5,a,b⟩ 1=.more ⟨l,4,a-1,2⟩:=by{simp only[bD];rw[XR Zb,XR Zb,XR Zb,XT ⟨d,Za⟩]};show run (bD ok) ⟨l,4,a,b⟩ (1::1::(jl k++r))=_;rw[dK e,dK f,h,show a-1-k=a-(k+1) by omega]
theorem aaO(l:Q I)(a n:I)(r:Q I)(c:a≤15)(d:n≤15):∃b,run (bD ok) ⟨l,4,a,0⟩ (eB a n++r)=run (bD ok) ⟨l,4,n,b⟩ (0::r):=by unfold eB;rw[Zm];split;{obtain⟨b,h⟩:=Eb (ok:=ok) (a-n) l a 0 ([0]++r) Zb Za;exact⟨b,by rw[h,show a-(a-n)=n by omega];rfl⟩};obtain⟨b,h⟩:=KK (ok:=ok) (n-a) l a 0 ([0]++r) Zb Za;exact⟨b,by rw[h,show a+(n-a)=n by omega];rfl⟩
theorem GJ:∀(m:Q I)(l:Q I)(a:I)(r:Q I),m≠[]→a≤15→(∀x∈m,x≤15)→l.length+m.length=258→ok (l++m)=J→run (bD ok) ⟨l,4,a,0⟩ (eN a m++r)=.fin (l++m) r|[],_,_,_,h,_,_,_,_=>X8 U h|n::m,l,a,r,_,hw,hm,hl,hok=>by rw[eN,Zm];obtain⟨b,h⟩:=aaO (ok:=ok) l a n (eN n m++r) hw (hm n ZI);rw[h];cases m with|nil=>refine Dg ?_;simp only[Zp,ZM]at hl;simp only[bD];rw[XR Zb,XT trivial,XT trivial,XR Za,XT hok]|cons x m=>simp only[Zp]at hl;have c:bD ok ⟨l,4,n,b⟩ 0=.more ⟨l++[n],4,n,0⟩:=by{simp only[bD];rw[XR Zb,XT trivial,XT trivial,XT Za]};rw[dK c,GJ (x::m) (l++[n]) n r Zd (hm n ZI) (λy d=>hm y (Zw _ d)) Ze Ze,Zm];rfl
theorem EG{l:Q I}(r:Q I)(d:l.length=258)(b:∀x∈l,x≤15)(a:ok l=J):run (bD ok) t0 (fW l++r)=.fin l r:=by unfold fW;rw[Zm];have c:l.headD 0≤15:=by{cases l with|nil=>simp at d|cons x l=>exact b x ZI};have f:run (bD ok) t0 (four (l.headD 0)++(eN (l.headD 0) l++r))=run (bD ok) ⟨[],4,l.headD 0,0⟩ (eN (l.headD 0) l++r):=by{generalize l.headD 0=n at c⊢;have e:2*(2*(2*(2*0+n/8%2)+n/4%2)+n/2%2)+n%2=n:=by{omega};show run (bD ok) ⟨[],4,2*(2*(2*(2*0+n/8%2)+n/4%2)+n/2%2)+n%2,0⟩ _=_;rw[e];rfl};rw[f];exact GJ l [] (l.headD 0) r Ze c b Ze a
end
end
end Go.Tab
namespace Go.ah
section
open Go.Inc Go.Srt Go.Sym Go.Bits Go.Tab Go.Hd Go.Crc Go.Bw
def aZ(b:Q I):Q I:=bitsOf b (8*b.length)
def cp(b:Q I):(aZ b).length=8*b.length:=Ol _ _
def rn(a b:Q I):aZ (a++b)=aZ a++aZ b:=by unfold aZ bitsOf;rw[Zg,I.mul_add,Q.range_add,ZD];congr 1;{refine Z2 λi c=>?_;rw[Xb]at c;unfold bZ;rw[YF,YF,ZO Za]};rw[YD];refine Z2 λi c=>?_;simp only[XK];unfold bZ;rw[YF,YF,ZJ Za,show(8*a.length+i)/8-a.length=i/8 by omega,show(8*a.length+i)%8=i%8 by omega]
def fJ(b:Q I):I:=8*((b.length+7)/8)-b.length
def Dh(b:Q I):fJ b<8:=by unfold fJ;omega
def xA{b:Q I}(h:Bits b):aZ (pack b)=b++Zi (fJ b) 0:=by unfold aZ bitsOf fJ;rw[mR];refine YT λi=>?_;rw[Z0];by_cases hi:i<8*((b.length+7)/8);{rw[Yx hi,YA];unfold pack;rw[H3 h hi];by_cases hb:i<b.length;{grind};grind};grind
def body(l a:Q I):Q I:=fW l++enc l (syms a)
def mh(l x:Q I):Q I:=lk x.length (bH x.reverse) (bQ x)++pack (body l (aR x.reverse))
def mr(left:Q I):XS:=(left.take (left.length%8)).all (·==0)
def mS(M:I)(a:Q I):Except I (Q I×Q I):=match run (bD dH) t0 a with|.short _=>.error 50|.bad e=>.error e|.fin l more=>match run (fO l) ⟨0,0,⟨Zs 256,M,0,0⟩,[]⟩ more with|.short _=>.error 50|.bad e=>.error e|.fin last left=>.ok (last,left)
def cN(P b:I)(a:Q I):Except I (Q I):=if okB a P then(if bQ (dy a P).reverse=b then .ok (dy a P).reverse else .error 250)else .error 170
def di(n:I)(b:Q I):Except I (Q I×Q I):=match run (aO n) dW b with|.short _=>.error 50|.bad e=>.error e|.fin (.tail _) _=>.error 242|.fin (.aw M P sum) rest=>match mS M (aZ rest)with|.error e=>.error e|.ok (last,left)=>if mr left then(match cN P sum last with|.error e=>.error e|.ok x=>.ok (x,rest.drop (rest.length-left.length/8)))else .error 160
def Gn:∀k,Bits (qh k)|0=>(λx a=>by cases a)|k+1=>λx a=>by(rcases List.mem_cons.1 a with h|h);{omega};(rcases List.mem_cons.1 h with h|h);{omega};exact Gn k x h
def AV:∀k,Bits (jl k)|0=>(λx a=>by cases a)|k+1=>λx a=>by(rcases List.mem_cons.1 a with h|h);{omega};(rcases List.mem_cons.1 h with h|h);{omega};exact AV k x h
def TC(a b:I):Bits (eB a b):=by unfold eB;refine Bits.app ?_ (λx c=>by rw[ZL]at c;omega);split;{exact AV _};exact Gn _
def Fi:∀(m:Q I)(a:I),Bits (eN a m)|[],_=>(λx b=>by cases b)|n::m,a=>Bits.app (TC a n) (Fi m n)
def Fj(l:Q I):Bits (fW l):=Bits.app (λx a=>by simp[four]at a;omega) (Fi _ _)
def xg(l a:Q I):Bits (body l a):=Bits.app (Fj l) (TO _ _)
section
variable{l:Q I}
structure pR (l last:Q I):Prop where
 len:l.length=258
 ok:dH l=J
 good:∀s∈syms last,js l s
theorem pR.v{a:Q I}(h:pR l a):bB l≤32768:=by rw[(oP.1 h.ok).1];decide
theorem BY(h:dH l=J):∀x∈l,x≤15:=λx a=>by obtain⟨i,b,rfl⟩:=List.mem_iff_getElem.1 a;have:=iN (l:=l) (by rw[(oP.1 h).1];decide) i;rwa [eH b]at this
theorem aa2{a:Q I}(b:pR l a)(c:∀x∈a,x<256)(r:Q I):run (fO l) ⟨0,0,⟨Zs 256,a.length,0,0⟩,[]⟩ (enc l (syms a)++r)=.fin a r:=by rw[Pp b.len b.v _ _ _ _ b.good];have:=EX c [];rw[ZF]at this;rw[this];simp[enc]
theorem O2{a:Q I}(b:pR l a)(c:∀x∈a,x<256)(r:Q I):mS a.length (body l a++r)=.ok (a,r):=by unfold mS body;rw[Zm,EG _ b.len (BY b.ok) b.ok];simp only;rw[aa2 b c]
theorem J8{n M P b:I}(c:0<M)(d:M≤n)(f:0<P)(g:P≤M)(h:b<4294967296)(a:Q I):di n (lk M P b++a)=match mS M (aZ a)with|.error e=>.error e|.ok (last,left)=>if mr left then(match cN P b last with|.error e=>.error e|.ok x=>.ok (x,a.drop (a.length-left.length/8)))else .error 160:=by unfold di;rw[xe c d f g h]
theorem EJ(b:Q I)(z:Q I):mr (Zi (fJ b) 0++aZ z)=J:=by unfold mr;have:=Dh b;rw[Zg,ZY,cp,show(fJ b+8*z.length)%8=fJ b by omega,Q.take_append_of_le_length Zd,Zv Zd];simp
theorem J2{n P sum:I}{a:Q I}(b:pR l a)(c:∀x∈a,x<256)(d:0<a.length)(f:a.length≤n)(g:0<P)(h:P≤a.length)(i:sum<4294967296)(z:Q I):di n (lk a.length P sum++pack (body l a)++z)=match cN P sum a with|.error e=>.error e|.ok x=>.ok (x,z):=by rw[Zm,J8 d f g h i,rn,xA (xg _ _),Zm,O2 b c];simp only;rw[XT (EJ _ z)];have:=Dh (body l a);have e:(pack (body l a)++z).drop ((pack (body l a)++z).length-(Zi (fJ (body l a)) 0++aZ z).length/8)=z:=by{rw[Zg,Zg,ZY,cp,show(fJ (body l a)+8*z.length)/8=z.length by omega,I.add_sub_cancel,Q.drop_left]};rw[e]
theorem rU{t:Q I}(h:0<t.length):0<bH t∧bH t≤t.length:=by refine⟨?_,mT t⟩;(rcases Z8 (bH t)with e|e);{have:=sq (t:=t) (i:=0) (k:=t.length) Za Za (by rw[Ls];exact e);omega};exact e
theorem KH(x:Q I):cN (bH x.reverse) (bQ x) (aR x.reverse)=.ok x:=by obtain⟨a,b⟩:=QP x.reverse;unfold cN;rw[XT a,b,Q.reverse_reverse,XT U]
theorem MV{n:I}{x:Q I}(b:pR l (aR x.reverse))(c:∀y∈aR x.reverse,y<256)(d:∀y∈x,y<256)(f:0<x.length)(g:x.length≤n)(z:Q I):di n (mh l x++z)=.ok (x,z):=by have e:(aR x.reverse).length=x.length:=by{rw[c8,Z3]};have a:=rU (t:=x.reverse) Ze;rw[Z3]at a;have:=J2 (n:=n) (P:=bH x.reverse) (sum:=bQ x) b c Za Za a.1 Za (kx d) z;rw[e,KH]at this;exact this
end
end
end Go.ah
namespace Go.Stm
section
open Go.Inc Go.Srt Go.Sym Go.Bits Go.Tab Go.Hd Go.Crc Go.Bw Go.ah
def rb(n:I)(x:Q I):Q (Q I):=if _h:x=[]∨n=0 then[]else x.take n::rb n (x.drop n)
termination_by x.length
decreasing_by have a:x≠[]:=λe=>_h (.inl e);have b:n≠0:=λe=>_h (.inr e);have:=List.length_pos_iff.2 a;rw[ZA];omega
def bj(n:I)(a:Q (Q I)):Q (Q I):=a.flatMap (rb n)
def uz(n:I):rb n []=[]:=by rw[rb];simp
def Au{n:I}{x:Q I}(h:x≠[])(a:0<n):rb n x=x.take n::rb n (x.drop n):=by rw[rb,dif_neg Ze]
def OS{n:I}(a:0<n)(x:Q I):(rb n x).flatten=x:=by induction hk:x.length using ZV generalizing x with|ind k b=>by_cases h:x=[];{rw[h,uz];rfl};have:=List.length_pos_iff.2 h;rw[Au h a,Yc,b (x.drop n).length Ze (x.drop n) U,Zt]
def SE{n:I}(b:0<n)(x:Q I):∀y∈rb n x,0<y.length∧y.length≤n∧∀c∈y,c∈x:=by induction hk:x.length using ZV generalizing x with|ind k d=>by_cases h:x=[];{rw[h,uz];intro y a;cases a};have:=List.length_pos_iff.2 h;rw[Au h b];intro y a;(rcases List.mem_cons.1 a with h|h);{grind};grind
def qD{n:I}(b:0<n)(a:Q (Q I)):(bj n a).flatten=a.flatten:=by induction a with|nil=>rfl|cons x l c=>rw[bj,Z6,XC,OS b,Yc];exact X3 _ c
def Gv{n:I}(d:0<n){a:Q (Q I)}:∀y∈bj n a,0<y.length∧y.length≤n∧∀c∈y,c∈a.flatten:=by intro y b;obtain⟨x,e,b⟩:=List.mem_flatMap.1 b;obtain⟨f,g,h⟩:=SE d x y b;exact⟨f,g,λc i=>List.mem_flatten.2 ⟨x,e,h c i⟩⟩
section
variable(L:Q I→Q I)
def nX(x:Q I):Q I:=mh (L x) x
def blocks(l:Q (Q I)):Q I:=l.flatMap (nX L)
def dN(n:I)(a:Q (Q I)):Q I:=pQ n++(blocks L (bj n a)++gX (bQ a.flatten))
def eA:Prop:=∀x:Q I,0<x.length→(∀c∈x,c<256)→pR (L x) (aR x.reverse)
end
def gb(n:I):I→Q I→Q (Q I)→Q (Q I)×I|0,_,acc=>(acc,50)|k+1,b,acc=>match run (aO n) dW b with|.short _=>(acc,50)|.bad e=>(acc,e)|.fin (.tail s) rest=>(acc,if s≠bQ acc.flatten then 260 else if rest≠[]then 261 else 0)|.fin (.aw _ _ _) _=>match di n b with|.error e=>(acc,e)|.ok (x,behind)=>gb n k behind (acc++[x])
def jr(c:Q I):Q (Q I)×I:=match run bh ⟨0,0⟩ c with|.short _=>([],50)|.bad e=>([],e)|.fin n rest=>gb n (rest.length+1) rest []
def E4{n:I}{b d:Q I}{m:Mk}(h:run (aO n) dW b=.fin m d):d.length<b.length:=by obtain⟨a,c,f,e,_,_⟩:=qu h;rw[e];simp;omega
def qZ{n:I}{b x a:Q I}(h:di n b=.ok (x,a)):a.length<b.length:=by unfold di at h;cases hr:run (aO n) dW b with|short s=>(rw[hr]at h;cases h)|bad e=>(rw[hr]at h;cases h)|fin m r=>have c:=E4 hr;rw[hr]at h;cases m with|tail s=>(cases h)|aw M P s=>simp only at h;cases hc:mS M (aZ r)with|error e=>(rw[hc]at h;cases h)|ok p=>rw[hc]at h;simp only at h;split at h;{grind};cases h
def Fe(n:I):∀(k m:I)(b:Q I)(acc:Q (Q I)),b.length<k→b.length<m→gb n k b acc=gb n m b acc|0,_,_,_,h,_=>Za|_,0,_,_,_,h=>Za|k+1,m+1,b,acc,a,c=>by unfold gb;cases run (aO n) dW b with|short s=>rfl|bad e=>rfl|fin mk r=>cases mk with|tail s=>rfl|aw M P s=>simp only;cases hu:di n b with|error e=>rfl|ok p=>have:=qZ hu;exact Fe n k m p.2 _ Za Za
def nq(n:I)(b:Q I)(acc:Q (Q I)):Q (Q I)×I:=gb n (b.length+1) b acc
def HJ(n:I)(b:Q I)(acc:Q (Q I)):nq n b acc=match run (aO n) dW b with|.short _=>(acc,50)|.bad e=>(acc,e)|.fin (.tail s) rest=>(acc,if s≠bQ acc.flatten then 260 else if rest≠[]then 261 else 0)|.fin (.aw _ _ _) _=>match di n b with|.error e=>(acc,e)|.ok (x,behind)=>nq n behind (acc++[x]):=by unfold nq;rw[gb];cases run (aO n) dW b with|short s=>rfl|bad e=>rfl|fin mk r=>cases mk with|tail s=>rfl|aw M P s=>simp only;cases hu:di n b with|error e=>rfl|ok p=>have:=qZ hu;exact Fe n _ _ p.2 _ Za Za
def Ts(c:Q I):jr c=match run bh ⟨0,0⟩ c with|.short _=>([],50)|.bad e=>([],e)|.fin n rest=>nq n rest []:=U
section
variable{L:Q I→Q I}{n:I}
theorem Pq(f:eA L){x:Q I}(a:0<x.length)(e:x.length≤n)(b:∀c∈x,c<256)(g:∀y∈aR x.reverse,y<256)(r:Q I)(acc:Q (Q I)):nq n (nX L x++r) acc=nq n r (acc++[x]):=by have d:=rU (t:=x.reverse) Ze;rw[Z3]at d;rw[HJ];have h:run (aO n) dW (nX L x++r)=.fin (.aw x.length (bH x.reverse) (bQ x)) (pack (body (L x) (aR x.reverse))++r):=by{unfold nX mh;rw[Zm,xe a e d.1 d.2 (kx b)]};rw[h];simp only;have:=MV (n:=n) (f x a b) g b a e r;unfold nX;rw[this]
theorem vV(a:eA L)(b:∀x:Q I,(∀c∈x,c<256)→∀y∈aR x.reverse,y<256):∀(l:Q (Q I))(r:Q I)(acc:Q (Q I)),(∀x∈l,0<x.length∧x.length≤n∧∀c∈x,c<256)→nq n (blocks L l++r) acc=nq n r (acc++l)|[],r,acc,_=>by simp[blocks]|x::l,r,acc,h=>by obtain⟨e,f,d⟩:=h x ZI;rw[blocks,Z6,Zm,Pq a e f d (b x d)];have:=vV a b l r (acc++[x]) λy g=>h y (Zw _ g);unfold blocks at this;rw[this,Zm];rfl
theorem Qj{s:I}(a:s<4294967296)(r:Q I)(acc:Q (Q I)):nq n (gX s++r) acc=(acc,if s≠bQ acc.flatten then 260 else if r≠[]then 261 else 0):=by rw[HJ,ED a]
theorem M4{x:Q I}(a:∀c∈x,c<256):∀y∈aR x.reverse,y<256:=yf λy b=>a y (List.mem_reverse.1 b)
theorem mK(b:0<n){a:Q (Q I)}(d:∀c∈a.flatten,c<256):∀x∈bj n a,0<x.length∧x.length≤n∧∀c∈x,c<256:=λx e=>by obtain⟨f,g,h⟩:=Gv b x e;exact⟨f,g,λc i=>d c (h c i)⟩
theorem Po(b:eA L)(d:0<n)(a:n≤65536){l:Q (Q I)}(e:∀x∈l,0<x.length∧x.length≤n∧∀c∈x,c<256)(r:Q I):jr (pQ n++(blocks L l++r))=nq n r l:=by rw[Ts,Qb d a];simp only;rw[vV b (λx f=>M4 f) l r [] e];rfl
theorem Px(e:eA L)(a:0<n)(b:n≤65536){parts:Q (Q I)}(d:∀c∈parts.flatten,c<256)(r:Q I):jr (dN L n parts++r)=(bj n parts,if r≠[]then 261 else 0):=by unfold dN;rw[Zm,Zm,Po e a b (mK a d),Qj (kx d),qD a];simp
end
end
end Go.Stm
namespace Go.Vc
section
open Go
def aT(t:Q H):XU XQ:=⟨t.map vI⟩
def fA{t:Q H}:(aT t).size=t.length:=by simp[aT]
def Gm{t:Q H}{i:I}(h:i<t.length):(aT t)[i]?=O (Sc.enc (.int .i64) (t.getD i 0)):=by simp[aT,h,vI,YF]
def lI{t:Q H}:∀v∈(aT t).toList,aC v=J:=by intro v a;simp only[aT,Q.mem_map]at a;obtain⟨x,_,rfl⟩:=a;rfl
def acK{t:Q H}{i:I}{x:H}:(aT t).setIfInBounds i (.int .i64 x)=aT (t.set i x):=by unfold aT;apply Xr;simp[Xu,vI]
def Ml{n:I}:(⟨Zi n (.int .i64 0)⟩:XU XQ)=aT (Zi n 0):=by unfold aT;simp[vI]
def AR.aT{n:I}{a b:Q H}{K:XS→Prop}(c:a.length=n)(d:b.length=n)(h:K (a==b)):AR .i64 n (aT a) (aT b) K:=⟨a,b,U,U,c,d,h⟩
def SU{l:Q H}{i j:I}{x:H}(a:i<l.length):(l.set i x).getD j 0=if j=i then x else l.getD j 0:=Ze
section
variable{E w:G}{F:Q HP}
theorem aH.aT{b n:I}{t:Q H}{a:XY}{c:I×I}{i:H}{j:I}{K:H→Prop}(h:Hp E w (ah b (.cells (Vc.aT t) a c)::F))(d:i=(j:H))(f:t.length=n)(g:j<n)(e:K (t.getD j 0)):aH ⟨b,0,Z⟩ n i 1 λq=>Ld kI q w K:=by subst d;exact aH.rd (s:=.int .i64) h Za Za _ (by rw[Zl];exact Gm Za) e
theorem aH.aes{b n:I}{t:Q H}{a:XY}{i:H}{j:I}{v:H}{K:G→Prop}(h:Hp E w (ah b (.cells (Vc.aT t) a (0,0))::F))(c:i=(j:H))(d:t.length=n)(f:j<n)(e:∀w',Hp E w' (ah b (.cells (Vc.aT (t.set j v)) a (0,0))::F)→K w'):aH ⟨b,0,Z⟩ n i 1 λq=>St q (.int .i64 v) w K:=by subst c;exact aH.wr h Za Za (by rw[fA,d]) U (by rw[Zl,acK];exact e)
theorem fg.aT{n:I}{t:Q H}{i:H}{j:I}{K:H→Prop}(a:i=(j:H))(c:t.length=n)(d:j<n)(b:K (t.getD j 0)):fg (.int .i64) (Vc.aT t) n i K:=by subst a;exact fg.rd (s:=.int .i64) Za Za _ (by rw[Zl];exact Gm Za) b
theorem ax.nI{s:Sl}{zs:Q H}{i:H}{j:I}{K:H→Prop}(a:aD 1 s (zs.map vI) w)(b:i=(j:H))(c:j<zs.length)(d:K (zs.getD j 0)):ax s i 1 λq=>Ld kI q w K:=by subst b;have e:=a.1;simp only[Zq,ZB]at e;refine ax.rd a Za Za λp g f=>Ld.sc (s:=.int .i64) _ ?_ d;rw[f];simp[vI,YF,c]
theorem ax.afc{s:Sl}{a:Q I}{i:H}{j x:I}{K:G→Prop}(b:Hp E w (ao 1 s (a.map vB)::F))(d:i=(j:H))(f:j<a.length)(h:∀w',Hp E w' (ao 1 s ((a.set j x).map vB)::F)→K w'):ax s i 1 λq=>St q (.int .u8 (x:H)) w K:=by subst d;have e:=b.aP;rw[Zq,ZB]at e;refine St.own b Za Za U λw' c=>h w' ?_;rw[Zl]at c;rw[Xu];exact c
end
end
end Go.Vc
namespace Go.Hs
section
open Go Go.Vc
def ch(t:Q H):XS:=t.all λx=>decide (0≤x)&&K (x≤2147483647)
def kd{t:Q H}:ch t=J↔∀i,i<t.length→0≤t.getD i 0∧t.getD i 0≤2147483647:=by unfold ch;rw[Q.all_eq_true];constructor;{intro h i a;have:=h t[i] (Zu a);simpa[YF,a]using this};intro h x b;obtain⟨i,a,rfl⟩:=ZS b;simpa[YF,a]using h i a
def Tr{t:Q H}{i:I}(a:i<t.length)(h:¬(0≤t.getD i 0∧t.getD i 0≤2147483647)):ch t=V:=by cases hv:ch t with|false=>rfl|true=>exact X8 (kd.1 hv i a) h
def oc(z:H):XS:=K (0≤z)&&K (z<258)
def sy{z:H}:oc z=J↔0≤z∧z<258:=by simp[oc]
def inc(t:Q H)(z:H):Q H:=t.set z.toNat (t.getD z.toNat 0+1)
def iS(t:Q H)(zs:Q H):Q H:=zs.foldl inc t
def CR(t:Q H)(z:H):(inc t z).length=t.length:=Q.length_set ..
def rR:∀(zs t:Q H),(iS t zs).length=t.length|[],_=>rfl|z::zs,t=>by show(iS (inc t z) zs).length=_;rw[rR zs,CR]
def IB(t zs:Q H)(z:H):iS t (zs++[z])=inc (iS t zs) z:=by simp[iS]
def KW{t:Q H}{z:H}(a:oc z=J)(b:t.length=258)(i:I):(inc t z).getD i 0=t.getD i 0+if z=(i:H)then 1 else 0:=by rw[sy]at a;unfold inc;rw[SU Za];by_cases h:z=(i:H);{grind};grind
def yj:∀{zs t:Q H},zs.all oc=J→t.length=258→∀i:I,(iS t zs).getD i 0=t.getD i 0+(zs.count (i:H):H)|[],t,_,_,i=>by simp[iS]|z::zs,t,h,ht,i=>by rw[Q.all_cons,ZG]at h;show(iS (inc t z) zs).getD i 0=_;rw[yj h.2 (by rw[CR,ht]),KW h.1 ht,Q.count_cons];by_cases e:z=(i:H);{rw[XT e,XT (by simp[e])];omega};rw[XR e,XR (by simp[e])];omega
def iL(t zs:Q H):XV (Q H):=if ch t&&zs.all oc&&ch (iS t zs)then O (iS t zs)else Z
def erO(o:XV (Q H)):H:=if o.isSome then 0 else 2
def Io{t zs:Q H}(h:ch t=V):iL t zs=Z:=by simp[iL,h]
def Tz{t zs:Q H}{k:I}(a:k<zs.length)(h:oc (zs.getD k 0)=V):iL t zs=Z:=by unfold iL;rw[XR];intro b;simp only[ZG]at b;have:=List.all_eq_true.1 b.1.2 zs[k] (Zu a);simp[YF,a,this]at h
def kT(zs:Q H)(z:H)(k:I):(zs.take k).count z≤zs.count z:=by have:zs.count z=(zs.take k).count z+(zs.drop k).count z:=by{rw[←Q.count_append,Zt]};omega
def PN{t zs:Q H}{k:I}(b:t.length=258)(c:k<zs.length)(f:(zs.take k).all oc=J)(g:oc (zs.getD k 0)=J)(h:2147483647≤(iS t (zs.take k)).getD (zs.getD k 0).toNat 0):iL t zs=Z:=by unfold iL;rw[XR];intro a;simp only[ZG]at a;have i:=sy.1 g;have d:=kd.1 a.2 (zs.getD k 0).toNat (by rw[rR];omega);rw[yj a.1.2 b]at d;rw[yj f b]at h;have e:(((zs.getD k 0).toNat:I):H)=zs.getD k 0:=Za;rw[e]at d h;have j:=kT zs (zs.getD k 0) (k+1);have l:(zs.take (k+1)).count (zs.getD k 0)=(zs.take k).count (zs.getD k 0)+1:=by{rw[ZE,Zh c,Q.count_append];simp[YF,c]};omega
def uV{zs:Q H}{k:I}(a:k<zs.length):zs.take (k+1)=zs.take k++[zs.getD k 0]:=by rw[ZE,Zh a];simp[YF,a]
def Jz{t zs:Q H}(a:ch t=J)(b:zs.all oc=J)(c:ch (iS t zs)=J):iL t zs=O (iS t zs):=by simp[iL,a,b,c]
def Py{t zs u:Q H}(h:iL t zs=O u):ch t=J∧zs.all oc=J∧u=iS t zs∧ch u=J:=by unfold iL at h;split at h;{grind};cases h
end
end Go.Hs
namespace Go.Proofs.Q9
section
open Go Go.Vc
set_option maxRecDepth 100000
def uW.ok(a:(XU XQ))(b:H)(R:(XU XQ)→H→G→Prop) w(h:Nw 237 a w λd c=>Nw 172 ⟨Zi 258 (.int .u8 0)⟩ c λf e=>Ld (.arr 258) ⟨d,0,Z⟩ e λg=>Cl Pg [kS] 211 ⟨[(.agg g)]⟩ e λ(i:Sl) h=>aI (λ(P:G)=>aa ((i.len:H)==1) (ax i 0 1 λb1=>Ld kI b1 P λ(c1:H)=>aH ⟨f,0,Z⟩ 258 c1 1 λd1=>St d1 (.int .u8 1) P λW=>Ld (.arr 258) ⟨f,0,Z⟩ W λf1=>aA 258 ⟨f,0,Z⟩ f1 W λX=>Ld (.arr 258) ⟨f,0,Z⟩ X λh1=>R h1 0 X) (Ld (.arr 258) ⟨d,0,Z⟩ P λi1=>Cl Pg [kS] 213 ⟨[(.agg i1),(ag i)]⟩ P λ(k1:Sl) j1=>Nw 304 ⟨[(ag k1)]⟩ j1 λm1 l1=>de (⟨O ⟨m1,0,Z⟩,1,1⟩:Sl) 1 l1 λn1 Y(F:Sl)(I:H) S=>aa (K (I<b)) (dI S λL t1=>ax F 0 1 λu1=>ay kS u1 L λ(v1:Sl)=>ax F (i64 (I-1)) 1 λx1=>ay kS x1 L λ(y1:Sl)=>Cl Pg [kS] 214 ⟨[(ag v1),(ag y1)]⟩ t1 λ(a2:Sl) z1=>L z1∧Nw 304 ⟨[(ag a2)]⟩ z1 λc2 b2=>L b2∧av Pg (ZC #[306,306] 306 ⟨[(ag F),(ag (⟨O ⟨c2,0,Z⟩,1,1⟩:Sl))]⟩) kS b2 λ(e2:Sl) T=>L T∧n1 e2 (i64 (I+1)) T∧Y e2 (i64 (I+1)) T<Y F I S) (de (i64 ((i64 ((2:H)*(i.len:H)))-2)) (i64 (b-1)) S λf2 g2(M:H)(N:H) C=>aI (λ(r2:G)=>ax F N 1 λs2=>Ld kS s2 r2 λ(t2:Sl)=>bV t2 0 M (t2).cap 2 λu2=>de 0 0 r2 λv2 Q(A:H)(B:H) D=>aa (K (B<(u2.len:H))) (ax u2 B 2 λb3=>Ld (.st [.int .i64,.bool]) b3 D λc3=>Nw 309 ⟨[(ni 0),(.bool V)]⟩ D λe3 d3=>ak ⟨e3,0,Z⟩ [(ni c3.1),(.bool c3.2.1)] 0 d3 λE=>Ld kB (Zk ⟨e3,0,Z⟩ 1) E λ(g3:XS)=>aa g3 (ax i A 1 λh3=>Ld kI h3 E λ(i3:H)=>aH ⟨f,0,Z⟩ 258 i3 1 λj3=>Ld (au .u8) j3 E λ(k3:H)=>aH ⟨f,0,Z⟩ 258 i3 1 λl3=>St l3 (.int .u8 (u8 (k3+1))) E λm3=>v2 (i64 (A+1)) (i64 (B+1)) m3∧Q (i64 (A+1)) (i64 (B+1)) m3<Q A B D) (v2 A (i64 (B+1)) E∧Q A (i64 (B+1)) E<Q A B D)) (f2 (i64 ((2:H)*(i64 (M-A)))) (i64 (N-1)) D∧g2 (i64 ((2:H)*(i64 (M-A)))) (i64 (N-1)) D<g2 M N C)) λk2=>aa (K (N≥0)) (aa (K (M>0)) (k2 C) (Ld (.arr 258) ⟨f,0,Z⟩ C λl2=>aA 258 ⟨f,0,Z⟩ l2 C λm2=>Ld (.arr 258) ⟨f,0,Z⟩ m2 λn2=>R n2 0 m2)) (Ld (.arr 258) ⟨f,0,Z⟩ C λo2=>aA 258 ⟨f,0,Z⟩ o2 C λp2=>Ld (.arr 258) ⟨f,0,Z⟩ p2 λq2=>R q2 0 p2)))) λj=>Ld (.arr 258) ⟨d,0,Z⟩ h λk=>Cl Pg [kB] 212 ⟨[(.agg k)]⟩ h λ(m:XS) l=>aa (! m) (Ld (.arr 258) ⟨f,0,Z⟩ l λn=>aA 258 ⟨f,0,Z⟩ n l λo=>Ld (.arr 258) ⟨f,0,Z⟩ o λp=>R p 2 o) (aa (K (b<1)) (Ld (.arr 258) ⟨f,0,Z⟩ l λq=>aA 258 ⟨f,0,Z⟩ q l λr=>Ld (.arr 258) ⟨f,0,Z⟩ r λs=>R s 2 r) (aa (K (b>15)) (Ld (.arr 258) ⟨f,0,Z⟩ l λt=>aA 258 ⟨f,0,Z⟩ t l λu=>Ld (.arr 258) ⟨f,0,Z⟩ u λv=>R v 2 u) (0≤(u64 b)∧aa (K ((i.len:H)>(bq .i64 (1:H) (u64 b)))) (Ld (.arr 258) ⟨f,0,Z⟩ l λx=>aA 258 ⟨f,0,Z⟩ x l λy=>Ld (.arr 258) ⟨f,0,Z⟩ y λz=>R z 2 y) (j l))))):Cl Pg [(.arr 258),kI] 144 ⟨[(.agg a),(ni b)]⟩ w R:=co Tryz.f144 [(4,[]),(21,[(7,kS),(8,kI)]),(33,[(9,kI),(10,kI)]),(34,[]),(43,[(11,kI),(86,kI)])] h
def wO.ok(a:(XU XQ))(R:Sl→G→Prop) w(h:Nw 237 a w λc b=>Ld (.arr 258) ⟨c,0,Z⟩ b λd=>Cl Pg [kB] 212 ⟨[(.agg d)]⟩ b λ(f:XS) e=>aa (! f) (R (⟨Z,0,0⟩:Sl) e) (Ld (.arr 258) ⟨c,0,Z⟩ e λg=>de (⟨Z,0,0⟩:Sl) 0 e λh i(j:Sl)(k:H) l=>aa (K (k<258)) (fg (.int .i64) g 258 k λ(m:H)=>aa (K (m>0)) (Nw 3 ⟨[(ni k)]⟩ l λo n=>av Pg (ZC #[25,25] 25 ⟨[(ag j),(ag (⟨O ⟨o,0,Z⟩,1,1⟩:Sl))]⟩) kS n λ(q:Sl) p=>h q (i64 (k+1)) p∧i q (i64 (k+1)) p<i j k l) (h j (i64 (k+1)) l∧i j (i64 (k+1)) l<i j k l)) (Cl Pg [] 287 ⟨[(ag j),(.func (.func 288) ⟨[]⟩ ⟨[(.pointer (O ⟨c,0,Z⟩))]⟩)]⟩ l λr=>R j r))):Cl Pg [kS] 211 ⟨[(.agg a)]⟩ w R:=co Tryz.f211 [(10,[(2,kS),(9,kI)])] h
def xv.ok(a:(XU XQ))(R:XS→G→Prop) w(h:Nw 237 a w λc b=>bV (⟨O ⟨c,0,Z⟩,258,258⟩:Sl) 0 258 258 1 λd=>Cl Pg [kB] 61 ⟨[(ag d),(.func (.func 289) ⟨[]⟩ ⟨[]⟩)]⟩ b λ(f:XS) e=>R (! f) e):Cl Pg [kB] 212 ⟨[(.agg a)]⟩ w R:=co Tryz.f212 [] h
def vJ.ok(a:(XU XQ))(b:Sl)(R:Sl→G→Prop) w(h:Nw 237 a w λd c=>de (⟨Z,0,0⟩:Sl) 0 c λe f(g:Sl)(h:H) i=>aa (K (h<(b.len:H))) (ax b h 1 λj=>Ld kI j i λ(k:H)=>aH ⟨d,0,Z⟩ 258 k 1 λl=>Ld kI l i λ(m:H)=>Nw 309 ⟨[(ni m),(.bool J)]⟩ i λo n=>av Pg (ZC #[304,304] 304 ⟨[(ag g),(ag (⟨O ⟨o,0,Z⟩,1,1⟩:Sl))]⟩) kS n λ(q:Sl) p=>e q (i64 (h+1)) p∧f q (i64 (h+1)) p<f g h i) (R g i)):Cl Pg [kS] 213 ⟨[(.agg a),(ag b)]⟩ w R:=co Tryz.f213 [(5,[(4,kS),(9,kI)])] h
def yu.ok(a:Sl)(b:Sl)(R:Sl→G→Prop) w(h:LS (⟨Z,0,0⟩:Sl) 0 0 w λc d(e:Sl)(f:H)(g:H) h=>aa (K ((i64 (g+1))<(b.len:H))) (dI h λi j=>ax b g 2 λk=>ay kI (k.add 0) i λ(l:H)=>ax b (i64 (g+1)) 2 λm=>ay kI (m.add 0) i λ(n:H)=>Nw 309 ⟨[(ni 0),(.bool V)]⟩ j λp o=>i o∧ak ⟨p,0,Z⟩ [(ni (i64 (l+n))),(.bool V)] 0 o λq=>i q∧de e f q λr s(t:Sl)(u:H) v=>aB v λx=>aa (K (u<(a.len:H))) (ax a u 2 λy=>Ld kI (y.add 0) x λ(z:H)=>Ld kI (Zk ⟨p,0,Z⟩ 0) x λ(N:H)=>aa (K (z≤N)) (ax a u 2 λP=>Ld (.st [.int .i64,.bool]) P x λA=>Nw 309 ⟨[(ni A.1),(.bool A.2.1)]⟩ x λQ S=>av Pg (ZC #[304,304] 304 ⟨[(ag t),(ag (⟨O ⟨Q,0,Z⟩,1,1⟩:Sl))]⟩) kS S λ(B:Sl) C=>r B (i64 (u+1)) C∧s B (i64 (u+1)) C<s t u v) (Ld (.st [.int .i64,.bool]) ⟨p,0,Z⟩ x λD=>Nw 309 ⟨[(ni D.1),(.bool D.2.1)]⟩ x λT W=>av Pg (ZC #[304,304] 304 ⟨[(ag t),(ag (⟨O ⟨T,0,Z⟩,1,1⟩:Sl))]⟩) kS W λ(E:Sl) F=>c E u (i64 (g+2)) F∧d E u (i64 (g+2)) F<d e f g h)) (Ld (.st [.int .i64,.bool]) ⟨p,0,Z⟩ x λI=>Nw 309 ⟨[(ni I.1),(.bool I.2.1)]⟩ x λX Y=>av Pg (ZC #[304,304] 304 ⟨[(ag t),(ag (⟨O ⟨X,0,Z⟩,1,1⟩:Sl))]⟩) kS Y λ(L:Sl) M=>c L u (i64 (g+2)) M∧d L u (i64 (g+2)) M<d e f g h)) (bV a f (a).len (a).cap 2 λr1=>av Pg (ZC #[304,304] 304 ⟨[(ag e),(ag r1)]⟩) kS h λ(t1:Sl) s1=>R t1 s1)):Cl Pg [kS] 214 ⟨[(ag a),(ag b)]⟩ w R:=co Tryz.f214 [(7,[(4,kS),(5,kI),(6,kI)]),(15,[(4,kS),(5,kI)])] h
def uF.ok(a:H)(b:H)(c:X6)(R:H→G→Prop) w(h:aB w λd=>aH c 258 a 1 λe=>Ld kI e d λ(f:H)=>aH c 258 b 1 λg=>Ld kI g d λ(h:H)=>Cl Pg [kI] 256 ⟨[(ni f),(ni h)]⟩ d λ(j:H) i=>R j i):Cl Pg [kI] 288 ⟨[(ni a),(ni b),(.pointer (O c))]⟩ w R:=co Tryz.f288 [] h
def tp.ok(a:H)(R:XS→G→Prop) w(h:aa (K (a<0)) (R J w) (R (K (a>2147483647)) w)):Cl Pg [kB] 289 ⟨[(ni a)]⟩ w R:=co Tryz.f289 [] h
end
end Go.Proofs.Q9
namespace Go.Pm
section
abbrev It:=I×XS
def mB(l:Q It):I:=(l.map (·.1)).sum
def bP(l:Q It):I:=(l.filter (·.2)).length
def Up(l:Q It):Prop:=l.Pairwise λa b=>a.1≤b.1
def bX:Q It→Q It|a::b::l=>(a.1+b.1,V)::bX l|_=>[]
def jv(A:Q It):Q It→Q It|[]=>A|p::B=>A.takeWhile (λa=>decide (a.1≤p.1))++p::jv (A.dropWhile λa=>decide (a.1≤p.1)) B
def CJ{A:Q It}:jv A []=A:=U
def sI:∀{B:Q It},jv [] B=B|[]=>rfl|p::B=>by simp[jv,sI]
def GM{a p:It}{A B:Q It}(h:a.1≤p.1):jv (a::A) (p::B)=a::jv A (p::B):=by simp[jv,h]
def Hq{a p:It}{A B:Q It}(h:¬a.1≤p.1):jv (a::A) (p::B)=p::jv (a::A) B:=by simp[jv,h]
def xW{P:Q It→Q It→Prop}(b:∀B,P [] B)(c:∀a A,P (a::A) [])(d:∀a A p B,a.1≤p.1→P A (p::B)→P (a::A) (p::B))(e:∀a A p B,¬a.1≤p.1→P (a::A) B→P (a::A) (p::B)):∀A B,P A B|[],B=>b B|a::A,[]=>c a A|a::A,p::B=>if h:a.1≤p.1 then d a A p B h (xW b c d e A (p::B))else e a A p B h (xW b c d e (a::A) B)
def H8:∀A B,(jv A B).Perm (A++B):=by refine xW (λB=>by rw[sI];exact .refl _) (λa A=>by rw[CJ];simp) (λa A p B h b=>?_) λa A p B h b=>?_;{rw[GM h];exact b.cons a};rw[Hq h];exact(b.cons p).trans (List.perm_middle.symm)
def LV(A B:Q It):(jv A B).length=A.length+B.length:=by rw[(H8 A B).length_eq,Zg]
def KP:∀A B,Up A→∀m,m≤A.length+B.length→∃a b,a+b=m∧a≤A.length∧b≤B.length∧((jv A B).take m).Perm (A.take a++B.take b)∧∀x∈B.take b,∀y∈A.drop a,x.1<y.1:=by refine xW (λB _ m c=>?_) (λa A _ m c=>?_) (λa A p B h g e m c=>?_) λa A p B h g e m c=>?_;{exact⟨0,m,Za,Zx _,by simpa using c,by rw[sI];simp,Zd⟩};{exact⟨m,0,rfl,by simpa using c,Zx _,by rw[CJ];simp,Zd⟩};{cases m with|zero=>exact⟨0,0,rfl,Z5 _,Z5 _,Zd,Zd⟩|succ m=>obtain⟨x,y,n,i,j,k,l⟩:=g (List.pairwise_cons.1 e).2 m (by simp at c⊢;omega);refine⟨x+1,y,Za,by simpa using i,j,?_,by simpa using l⟩;rw[GM h,Yf,Yf];exact k.cons a};cases m with|zero=>exact⟨0,0,rfl,Z5 _,Z5 _,Zd,Zd⟩|succ m=>obtain⟨x,y,n,i,j,k,l⟩:=g e m (by simp at c⊢;omega);refine⟨x,y+1,Za,i,by simpa using j,?_,?_⟩;{rw[Hq h,Yf,Yf];exact(k.cons p).trans List.perm_middle.symm};intro u f v d;rw[Yf]at f;(rcases List.mem_cons.1 f with rfl|f);{have d:v∈a::A:=YI d;(rcases List.mem_cons.1 d with rfl|d);{omega};have:=(List.pairwise_cons.1 e).1 v d;omega};exact l u f v d
def zo(a:It)(l:Q It):mB (a::l)=a.1+mB l:=by simp[mB]
def NR(l a:Q It):mB (l++a)=mB l+mB a:=by simp[mB]
def Rx{l a:Q It}(h:l.Perm a):mB l=mB a:=(h.map _).sum_nat
def pf(l a:Q It):bP (l++a)=bP l+bP a:=by simp[bP]
def Bf{l a:Q It}(h:l.Perm a):bP l=bP a:=(h.filter _).length_eq
def gd:∀l:Q It,(bX l).length=l.length/2|[]=>rfl|[_]=>by simp[bX]|_::_::l=>by simp only[bX,Zp,gd l];omega
def ua:∀(l:Q It)(x:It),x∈bX l→x.2=V|[],_,h=>by simp[bX]at h|[_],_,h=>by simp[bX]at h|a::b::l,x,h=>by rw[bX]at h;(rcases List.mem_cons.1 h with rfl|h);{rfl};exact ua l x h
def BJ:∀(l:Q It)(b:I),2*b≤l.length→mB ((bX l).take b)=mB (l.take (2*b))|_,0,_=>by simp[mB]|[],b+1,h=>by simp at h|[_],b+1,h=>by simp only[ZP]at h;omega|x::y::l,b+1,h=>by rw[bX,Yf,zo,show 2*(b+1)=(2*b+1)+1 by omega,Yf,Yf,zo,zo,BJ l b (by simp only[Zp]at h;omega)];omega
def Jr:∀(l:Q It)(b:I)(x:It),2*b≤l.length→x∈l.take (2*b)→∃p∈(bX l).take b,x.1≤p.1|_,0,_,_,h=>by simp at h|[],b+1,_,h,_=>by simp at h|[_],b+1,_,h,_=>by simp only[ZP]at h;omega|u::v::l,b+1,x,h,a=>by rw[show 2*(b+1)=(2*b+1)+1 by omega,Yf,Yf]at a;rw[bX,Yf];(rcases List.mem_cons.1 a with rfl|a);{exact⟨_,ZI,Zd⟩};(rcases List.mem_cons.1 a with rfl|a);{exact⟨_,ZI,Zd⟩};obtain⟨p,c,d⟩:=Jr l b x (by simp only[Zp]at h;omega) a;exact⟨p,Zw _ c,d⟩
def kl(a:Q I):Q It:=a.map λw=>(w,J)
def row(a:Q I):I→Q It|0=>kl a|k+1=>jv (kl a) (bX (row a k))
def xB(a:Q I):Prop:=a.Pairwise (·≤·)
def QX{a:Q I}(h:xB a):Up (kl a):=Q.Pairwise.map _ (λ_ _ h=>h) h
def eZ(a:Q I):(kl a).length=a.length:=Zq _
def il(a:Q I)(k:I):(row a (k+1)).length=a.length+(row a k).length/2:=by rw[row,LV,eZ,gd]
def Lx(a:Q I):mB (kl a)=a.sum:=by unfold mB kl;rw[YD];congr 1;exact Q.map_id _
def mO(b:Q I)(a:I):(kl b).take a=kl (b.take a):=List.map_take.symm
def xj(a:Q I):bP (kl a)=a.length:=by unfold bP kl;rw[List.filter_eq_self.2];{simp};grind
def HN{l:Q It}(h:∀x∈l,x.2=V):bP l=0:=by unfold bP;rw[Q.length_eq_zero_iff,Q.filter_eq_nil_iff];intro x a;simp[h x a]
def BL{ws:Q I}:∀k,ws.length≤2^(k+1)→2*ws.length-2≤(row ws k).length:=by have a:∀k c,2^k*c≥ws.length→1≤c→2*ws.length≤(row ws k).length+c:=by{intro k;induction k with|zero=>intro c h _;simp only[row,eZ];omega|succ k b=>intro c h d;have:=b (2*c) Ze Za;rw[il];omega};intro k h;have:=a k 2 Ze Za;omega
def oU{c:Q I}(h:xB c)(k m:I)(j:m≤(row c (k+1)).length):bP ((row c (k+1)).take m)≤m∧bP ((row c (k+1)).take m)≤c.length∧2*(m-bP ((row c (k+1)).take m))≤(row c k).length∧mB ((row c (k+1)).take m)=(c.take (bP ((row c (k+1)).take m))).sum+mB ((row c k).take (2*(m-bP ((row c (k+1)).take m))))∧(∀x∈(row c k).take (2*(m-bP ((row c (k+1)).take m))),∀y∈c.drop (bP ((row c (k+1)).take m)),x.1<y):=by have l:=il c k;obtain⟨a,b,t,g,n,i,o⟩:=KP (kl c) (bX (row c k)) (QX h) m (by rw[eZ,gd,←l];exact j);rw[eZ]at g;rw[gd]at n;have d:bP ((row c (k+1)).take m)=a:=by{rw[row,Bf i,pf,mO,xj,HN λx e=>ua _ x (Yl e),Zz];omega};rw[d];have q:m-a=b:=Za;rw[q];refine⟨Za,g,Za,?_,?_⟩;{rw[row,Rx i,NR,mO,Lx,BJ _ _ Za]};intro x e y r;obtain⟨p,s,f⟩:=Jr _ _ _ Za e;have:=o p s (y,J) (by unfold kl;rw[←Q.map_drop];exact Q.mem_map_of_mem r);exact I.lt_of_le_of_lt f this
def zE{ws:Q I}(m:I)(a:m≤ws.length):bP ((row ws 0).take m)=m∧mB ((row ws 0).take m)=(ws.take m).sum:=by rw[row,mO];exact⟨by rw[xj,Zz];omega,Lx _⟩
def whole(a:Q I)(k m:I):I:=bP ((row a k).take m)
def lv(a:Q I):I→I→I→I|0,m,i=>if i<whole a 0 m then 1 else 0|k+1,m,i=>(if i<whole a (k+1) m then 1 else 0)+lv a k (2*(m-whole a (k+1) m)) i
def nested{ws:Q I}(h:xB ws)(k m:I)(p:m≤(row ws (k+1)).length):whole ws k (2*(m-whole ws (k+1) m))≤whole ws (k+1) m:=by obtain⟨q,r,c,s,l⟩:=oU h k m p;generalize n:whole ws (k+1) m=a;unfold whole at n;rw[n]at q r c s l;(rcases Z9 a (whole ws k (2*(m-a)))with e|f);{exfalso;have d:∀i,i<whole ws k (2*(m-a))→∃(b:i<ws.length),(ws[i],J)∈(row ws k).take (2*(m-a)):=by{cases k with|zero=>intro i b;have t:=zE (ws:=ws) (2*(m-a)) (by rw[row,eZ]at c;exact c);unfold whole at b;rw[t.1]at b;rw[row,eZ]at c;refine⟨Za,?_⟩;rw[row,mO];unfold kl;refine Q.mem_map_of_mem ?_;rw[Q.mem_iff_getElem];exact⟨i,by rw[Zz];omega,Zd⟩|succ k=>intro i b;obtain⟨u,w,y,v,z,o,A⟩:=KP (kl ws) (bX (row ws k)) (QX h) (2*(m-a)) (by rw[eZ,gd,←il];exact c);rw[eZ]at v;have g:whole ws (k+1) (2*(m-a))=u:=by{unfold whole;rw[row,Bf o,pf,mO,xj,HN λx j=>ua _ x (Yl j),Zz];omega};rw[g]at b;refine⟨Za,?_⟩;rw[row,o.mem_iff,Xl];left;rw[mO];unfold kl;refine Q.mem_map_of_mem ?_;rw[Q.mem_iff_getElem];exact⟨i,by rw[Zz];omega,Zd⟩};obtain⟨b,j⟩:=d a e;have:=l _ j ws[a] (by rw[Q.mem_iff_getElem];exact⟨0,by rw[ZA];omega,Zd⟩);simp at this};exact f
def CU{a:Q I}(h:xB a):∀(k m i:I),m≤(row a k).length→whole a k m≤i→lv a k m i=0|0,m,i,_,c=>by unfold lv;rw[XR Za]|k+1,m,i,b,c=>by have d:=nested h k m b;unfold lv;rw[XR Za,Zj];exact CU h k _ i (oU h k m b).2.2.1 Za
def F1(a:Q I):∀(k m i:I),lv a k m i≤k+1|0,m,i=>by unfold lv;split<;>omega|k+1,m,i=>by have:=F1 a k (2*(m-whole a (k+1) m)) i;unfold lv;split<;>omega
def over(n:I)(f:I→I):I:=((Zs n).map f).sum
def gf(n:I)(f:I→I):over (n+1) f=over n f+f n:=by unfold over;rw[YM,ZD,YH];simp
def Js(n:I)(f g:I→I):over n (λi=>f i+g i)=over n f+over n g:=by induction n with|zero=>rfl|succ n a=>rw[gf,gf,gf,a];omega
def oq{n:I}{f g:I→I}(h:∀i,i<n→f i=g i):over n f=over n g:=by unfold over;congr 1;exact Z2 λi a=>h i (List.mem_range.1 a)
def Oh(n c:I):over n (λ_=>c)=n*c:=by induction n with|zero=>simp[over]|succ n a=>rw[gf,a,Yd]
def RO(n c:I)(f:I→I):over n (λi=>c*f i)=c*over n f:=by induction n with|zero=>rfl|succ n a=>rw[gf,gf,a,I.mul_add]
def Ci(n a:I)(d:a≤n)(c:I):over n (λi=>(if i<a then 1 else 0)*c)=a*c:=by have b:∀n,over n (λi=>(if i<a then 1 else 0)*c)=Ws n a*c:=by{intro n;induction n with|zero=>simp[over]|succ n e=>rw[gf,e];by_cases hna:n<a;{grind};grind};rw[b,I.min_eq_right d]
def lw(a:Q I):I→I→I→I|0,m,i=>if i<whole a 0 m then 1 else 0|k+1,m,i=>(if i<whole a (k+1) m then 1 else 0)*2^(k+1)+lw a k (2*(m-whole a (k+1) m)) i
def Rl{ws:Q I}(h:xB ws):∀(k m:I),m≤(row ws k).length→over ws.length (lw ws k m)=m*2^k|0,m,b=>by have a:m≤ws.length:=by{rw[row,eZ]at b;exact b};have e:=zE (ws:=ws) m a;have:=Ci ws.length m a 1;have d:over ws.length (lw ws 0 m)=over ws.length (λi=>(if i<m then 1 else 0)*1):=oq λi _=>by{unfold lw whole;rw[e.1,ZB]};rw[d,this]|k+1,m,b=>by obtain⟨f,g,j,o,p⟩:=oU h k m b;have l:=Rl h k (2*(m-whole ws (k+1) m)) j;have e:over ws.length (lw ws (k+1) m)=over ws.length (λi=>(if i<whole ws (k+1) m then 1 else 0)*2^(k+1)+lw ws k (2*(m-whole ws (k+1) m)) i):=U;have n:whole ws (k+1) m≤m:=f;have c:whole ws (k+1) m≤ws.length:=g;rw[e,Js,Ci _ _ c,l,Yi 2,XB,←I.pow_succ',←YW];congr 1;omega
def UB{a:Q I}(h:xB a):∀(k m i:I),m≤(row a k).length→lw a k m i+2^(k+1-lv a k m i)=2^(k+1)|0,m,i,_=>by unfold lw lv;split<;>rfl|k+1,m,i,b=>by have c:=(oU h k m b).2.2.1;have d:=UB h k (2*(m-whole a (k+1) m)) i c;have e:=F1 a k (2*(m-whole a (k+1) m)) i;have g:=Yu (n:=2) (m:=k+1);unfold lw lv;by_cases hi:i<whole a (k+1) m;{rw[XT hi,I.one_mul,show k+1+1-(1+lv a k (2*(m-whole a (k+1) m)) i)=k+1-lv a k (2*(m-whole a (k+1) m)) i by omega];omega};have j:=nested h k m b;have f:=CU h k (2*(m-whole a (k+1) m)) i c Za;rw[f]at d⊢;rw[XR hi];simp only[I.zero_mul,Zj,YY]at d⊢;omega
def Ht{ws:Q I}(h:xB ws)(k:I)(e:2≤ws.length)(b:ws.length≤2^(k+1)):over ws.length (λi=>2^(k+1-lv ws k (2*ws.length-2) i))=2^(k+1):=by have a:=BL (ws:=ws) k b;have c:=Rl h k _ a;have d:=Js ws.length (lw ws k (2*ws.length-2)) λi=>2^(k+1-lv ws k (2*ws.length-2) i);rw[oq (g:=λ_=>2^(k+1)) λi _=>UB h k _ i a,Oh,c]at d;have f:(2*ws.length-2)*2^k+2^(k+1)=ws.length*2^(k+1):=by{have:2*ws.length-2=2*(ws.length-1):=by{omega};rw[this,Yi 2,XB,←I.pow_succ'];have:ws.length=ws.length-1+1:=by{omega};conv=>rhs;rw[this,Yd]};omega
def Kl{n:I}{f:I→I}{i:I}(a:i<n):f i≤over n f:=by induction n with|zero=>omega|succ n b=>rw[gf];by_cases h:i=n;{subst h;omega};grind
def Ja{n:I}{f:I→I}{i j:I}(b:i<n)(c:j<n)(a:i<j):f i+f j≤over n f:=by induction n with|zero=>omega|succ n d=>rw[gf];by_cases h:j=n;{subst h;have:=Kl (f:=f) a;omega};grind
def ado{a:Q I}(h:xB a)(k:I)(g:2≤a.length)(l:a.length≤2^(k+1)){i:I}(c:i<a.length):1≤lv a k (2*a.length-2) i:=by have m:=Ht h k g l;(rcases Z8 (lv a k (2*a.length-2) i)with b|b);{exfalso;have d:∀j,0<2^(k+1-lv a k (2*a.length-2) j):=λj=>Yk _;have e:2^(k+1-lv a k (2*a.length-2) i)=2^(k+1):=by{rw[b,YY]};by_cases hi0:i=0;{subst hi0;have:=Ja (f:=λi=>2^(k+1-lv a k (2*a.length-2) i)) c (show 1<a.length by omega) Za;have:=d 1;omega};have:=Ja (f:=λi=>2^(k+1-lv a k (2*a.length-2) i)) (show 0<a.length by omega) c Za;have:=d 0;omega};exact b
def width(S:I→Q I):I→I|0=>(S 0).length|k+1=>(S (k+1)).length*2^(k+1)+width S k
def RP(a:Q I)(L:I):I:=if a.length≤1 then a.sum else mB ((row a (L-1)).take (2*a.length-2))
def lenOf(a:Q I)(L i:I):I:=if a.length=1 then 1 else lv a (L-1) (2*a.length-2) i
def SV{a:Q I}{L:I}(b:xB a)(e:1≤L)(c:a.length≤2^L){i:I}(d:i<a.length):1≤lenOf a L i∧lenOf a L i≤L:=by unfold lenOf;split;{grind};obtain⟨K,rfl⟩:∃K,L=K+1:=⟨L-1,Za⟩;exact⟨ado b K Za c d,F1 ..⟩
end
end Go.Pm
namespace Go.Srt
section
def ch(t:Q H):XS:=t.all λx=>decide (0≤x)&&K (x≤2147483647)
def q8(l:Q I):Prop:=∀x∈l,x≤2147483647
def bm(l a:Q I):Q I:=a.map λs=>l.getD s 0
end
end Go.Srt
namespace Go.Proofs.Q9
section
open Go Go.Vc Go.Srt Go.Pm
section
variable{E w:G}{F:Q HP}
def aT(t:Q H):XU XQ:=⟨t.map vI⟩
theorem fA{t:Q H}:(aT t).size=t.length:=by simp[aT]
theorem Gm{t:Q H}{i:I}(h:i<t.length):(aT t)[i]?=O (Sc.enc (.int .i64) t[i]):=by simp[aT,h,vI]
theorem Lz{l:Q I}:aT (ints l)=ai .i64 l:=by unfold aT ints ai;rw[YD];rfl
theorem Nh{t:Q H}(h:ch t=J):∃l:Q I,t=ints l∧q8 l:=by have h:=List.all_eq_true.1 h;have b:∀x∈t,0≤x∧x≤2147483647:=λx a=>by{have:=h x a;simpa using this};refine⟨t.map H.toNat,?_,λy c=>?_⟩;{unfold ints;rw[YD];refine(Q.map_id t).symm.trans (Z2 λx a=>?_);have:=b x a;simp;omega};grind
theorem uG{l:Q I}(h:q8 l):ch (ints l)=J:=by refine List.all_eq_true.2 λx a=>?_;obtain⟨y,b,rfl⟩:=List.mem_map.1 a;have:=h y b;simp;omega
theorem iK{l:Q I}:(ints l).length=l.length:=Zq _
theorem ad2{x:H}{K:XS→G→Prop}(a:K (!(decide (0≤x)&&We (x≤2147483647))) w):cW Zf (.func (.func 289) ⟨[]⟩ ⟨[]⟩) [kB] [.int .i64 x] w K:=by refine cW.mk Zc (tp.ok x K w ?_);refine aa.mk (λh=>?_) λh=>?_;{grind};have h:=XX h;have e:(!(decide (0≤x)&&We (x≤2147483647)))=We (x>2147483647):=Ze;rw[e]at a;exact a
theorem xi{t:Q H}{K:XS→G→Prop}(h:Hp E w F)(p:t.length=258)(j:∀w',Hp E w' F→K (ch t) w'):Cl Zf [kB] 212 ⟨[.agg (aT t)]⟩ w K:=by refine xv.ok _ _ _ ?_;refine Nw.mk h λb r m=>?_;refine bV.whole Zb U U ?_;refine iB.ok _ _ _ _ ?_;refine jM.ok _ _ _ _ ?_;refine⟨λi w'=>∃k:I,i=(k:H)∧k≤258∧ch (t.take k)=J∧Hp E w' (ah b (.cells (aT t) 237 (0,0))::F),λi _=>258-i.toNat,⟨0,U,Za,U,m⟩,?_⟩;rintro i w' ⟨k,rfl,hk,hv,hh⟩;refine aa.mk (λd=>?_) λc=>?_;{have d:k<258:=by{have:=X0 d;simp only at this;omega};have e:k<t.length:=by{omega};have f:aD 1 ⟨O ⟨b,0,Z⟩,258,258⟩ (t.map vI) w':=hh.an (ad.aw (by simp[aT]) Ze);refine ax.rd f Za Ze λq u n=>Ld.sc (s:=.int .i64) t[k] (by rw[n];simp[vI]) (ad2 ?_);have l:ch (t.take (k+1))=(ch (t.take k)&&(decide (0≤t[k])&&We (t[k]≤2147483647))):=by{unfold ch;rw[ZE,Q.all_append,Zh e];simp};rw[hv,XS.true_and]at l;rw[←l];refine aa.mk (λa=>?_) λa=>?_;{have a:ch (t.take (k+1))=V:=by{simpa using a};have o:ch t=V:=by{have:=Zt (k+1) t;rw[←this];unfold ch at a⊢;rw[Q.all_append,a,XS.false_and]};have g:We ((k:H)≥0)=J:=by{simp};show K (! We ((k:H)≥0)) w';rw[g];have:=j w' hh.drop;rw[o]at this;exact this};have a:ch (t.take (k+1))=J:=by{simpa using a};rw[ae Za];exact⟨⟨k+1,U,Za,a,hh⟩,by dsimp only;omega⟩};have c:k=258:=by{have:=XX c;simp only at this;omega};subst c;have g:We ((-1:H)≥0)=V:=Zb;show K (! We ((-1:H)≥0)) w';rw[g];have:=j w' hh.drop;rw[Zv Za]at hv;rw[hv]at this;exact this
theorem T8{x y:H}{K:H→G→Prop}(a:∀z:H,(z<0↔x<y)→K z w):Cl Zf [kI] 256 ⟨[.int .i64 x,.int .i64 y]⟩ w K:=by refine cmp_Compare_int.ok _ _ _ _ ?_;refine cmp_isNaN_int.ok _ _ _ (cmp_isNaN_int.ok _ _ _ ?_);refine aa.f Zd (aa.f Zd (aa.mk (λh=>a _ ?_) λh=>aa.mk (λb=>a _ ?_) λb=>a _ ?_));{grind};{have:=XX h;omega};have:=XX h;omega
theorem UE{l:Q I}{i:I}{k:Wc}(h:i<l.length):(ai k l)[i]?=O (Sc.enc (.int k) (l.getD i 0:H)):=by rw[iV h,Zn,Zh h];rfl
theorem aeD{l:Q I}{b:I}{t:XY}(j:l.length=258):xT E (ah b (.cells (ai .i64 l) t (0,0))::F) (.func (.func 288) ⟨[]⟩ ⟨[.pointer (O ⟨b,0,Z⟩)]⟩) (zx l) (λx=>0≤x∧x<258):=by rintro A w y x K h ⟨c,k⟩ ⟨d,m⟩ f;refine cW.mk Zc ?_;refine uF.ok y x ⟨b,0,Z⟩ K w ?_;refine aB.mk h λg e=>?_;have a:=e.perm ZX;refine aH.rd (s:=.int .i64) a d Za _ (UE Za) ?_;refine aH.rd (s:=.int .i64) a c Za _ (UE Za) ?_;refine T8 λz i=>f z g ?_ e;rw[i];rfl
theorem O8{t:Q H}{K:Sl→G→Prop}(h:Hp E w F)(f:t.length=258)(v:ch t=V→∀w',Hp E w' F→K ⟨Z,0,0⟩ w')(z:∀l,t=ints l→q8 l→l.length=258→∀ys s w',cP l ys→Hp E w' (ao 1 s ((ints ys).map vI)::F)→K s w'):Cl Zf [kS] 211 ⟨[.agg (aT t)]⟩ w K:=by refine wO.ok _ _ _ ?_;refine Nw.mk h λb w1 C=>Ld.arr C (by rw[fA,f]) (xi C f λN q=>?_);refine aa.mk (λr=>v Ze N q.drop) λr=>?_;have r:ch t=J:=by{simpa using r};obtain⟨l,rfl,P⟩:=Nh r;rw[iK]at f;rw[Lz]at q;refine Ld.arr q (by rw[ba,f]) ?_;refine⟨λo i w'=>∃k:I,i=(k:H)∧k≤258∧Hp E w' (ao 1 o ((ints (gV l k)).map vI)::ah b (.cells (ai .i64 l) 237 (0,0))::F),λ_ i _=>258-i.toNat,⟨0,rfl,Za,q.aQ 1⟩,?_⟩;intro o i w' R;obtain⟨k,S,hk,u⟩:=R;subst S;refine aa.mk (λj=>?_) λg=>?_;{have j:k<258:=by{have:=X0 j;omega};have A:k<l.length:=by{omega};refine fg.rd (s:=.int .i64) Za Za _ (Uf A) ?_;refine aa.mk (λc=>?_) λc=>?_;{have c:0<l.getD k 0:=by{have:=X0 c;omega};refine Nw.mk u λT L m=>?_;have W:=u.aP;have hu:=om l k;simp only[Zq,ints,ZB]at W;refine aS (ys:=[vI (k:H)]) (n:=1) mM Zb (.inl ⟨3,Zc⟩) m.p1 (.inl ⟨O ⟨T,0,Z⟩,1,1,rfl,rfl,m.an (ad.aw rfl rfl)⟩) rfl Bd Za Za λs' w4 X Y=>?_;rw[ae Za];refine⟨⟨k+1,rfl,Za,?_⟩,by dsimp only;omega⟩;rw[nj,XT c,IC,ZD];exact X.p1.drop};have c:¬0<l.getD k 0:=by{have:=XX c;omega};rw[ae Za];refine⟨⟨k+1,rfl,Za,?_⟩,by dsimp only;omega⟩;rw[nj,XR c,ZF];exact u};have g:k=258:=by{have:=XX g;omega};subst g;have B:∀x∈gV l 258,x<258:=λx p=>by{have:=(List.mem_filter.1 p).1;simpa using this};refine xu (key:=zx l) (D:=λx=>0≤x∧x<258) u (by have:=om l 258;rw[aJ];simp only[ints,Zq];omega) (aeD f) (λx p=>?_) ?_ λys L c M m=>?_;{obtain⟨y,hy,rfl⟩:=List.mem_map.1 p;have:=B y hy;omega};{unfold ints;refine Q.Pairwise.map _ (λa b d=>Int.ofNat_lt.2 d) ?_;exact Q.Pairwise.filter _ Q.pairwise_lt_range};have hU:gV l 258=used l:=by{unfold gV used;rw[f]};rw[hU]at c;have e:ys=ints (ys.map H.toNat):=by{unfold ints;rw[YD];refine(Q.map_id ys).symm.trans (Z2 λx p=>?_);obtain⟨y,_,rfl⟩:=List.mem_map.1 (c.mem_iff.1 p);simp};have pN:(ys.map H.toNat).Perm (used l):=by{have:=c.map H.toNat;refine this.trans ?_;unfold ints;rw[YD];refine Q.Perm.of_eq ((Z2 λx _=>?_).trans (Q.map_id _));simp};rw[e]at m M;refine z l rfl P f (ys.map H.toNat) _ L ⟨pN,?_⟩ m.p1.drop;refine(List.pairwise_map.1 M).imp λ{a b} d=>?_;unfold Ky zx at d;simp only[Zl]at d;omega
def gU(x:It):Q XQ:=[.int .i64 (x.1:H),.bool x.2]
theorem eG:∀x,(gU x).length=2:=λ_=>rfl
theorem pI:∀x,∀y∈gU x,aC y=J:=by intro x y a;simp only[gU,Xs,Q.not_mem_nil,or_false]at a;rcases a with rfl|rfl<;>rfl
theorem ny:cF Zf 304 309 2 16:=cF.of Zc Zc
theorem Td{a:Q I}{k:I}(h:k<a.length):kl (a.take (k+1))=kl (a.take k)++[(a[k],J)]:=by unfold kl;rw[ZE,ZD,Zh h];rfl
theorem PD{s:Sl}{a:Q I}{i:I}{K:H→Prop}(b:aD 1 s ((ints a).map vI) w)(f:i<a.length)(c:K (a[i]:H)):ax s (i:H) 1 λq=>Ld kI q w K:=by have d:=b.1;simp only[Zq,ints,ZB]at d;refine ax.rd b Za Za λq g e=>Ld.sc (s:=.int .i64) (a[i]:H) ?_ c;rw[e];simp[vI,ints]
theorem RE{l a:Q I}{s:Sl}{K:Sl→G→Prop}(h:Hp E w F)(v:l.length=258)(m:ad F (aD 1 s ((ints a).map vI)))(e:∀x∈a,x<258)(n:a.length≤258)(p:∀f w',Hp E w' (ao 2 f ((kl (bm l a)).flatMap gU)::F)→K f w'):Cl Zf [kS] 213 ⟨[.agg (ai .i64 l),.slice s.base s.len s.cap]⟩ w K:=by refine vJ.ok _ _ _ _ ?_;have j:=(h.an m).1;simp only[Zq,ints,ZB]at j;have q:(bm l a).length=a.length:=Zq _;refine Nw.mk h λb y r=>⟨λo i w'=>∃k:I,i=(k:H)∧k≤a.length∧Hp E w' (ao 2 o ((kl ((bm l a).take k)).flatMap gU)::ah b (.cells (ai .i64 l) 237 (0,0))::F),λ_ i _=>a.length-i.toNat,⟨0,U,Za,by simpa[kl]using r.aQ 2⟩,?_⟩;rintro o i w' ⟨k,rfl,hk,hh⟩;refine aa.mk (λc=>?_) λd=>?_;{have c:k<a.length:=by{have:=X0 c;omega};have z:=e _ (Zu c);refine PD (hh.drop.drop.an m) c ?_;refine aH.rd (s:=.int .i64) hh.p1 Za Za _ (Uf Za) ?_;have t:(bm l a)[k]' Za=l.getD a[k] 0:=by{simp[bm]};refine wv (g:=gU) (x:=(l.getD a[k] 0,J)) ny eG Zb U (pI _) hh (by rw[eZ,Zz];omega) (by rw[eZ,Zz];omega) λf A u _=>?_;rw[ae Za];refine⟨⟨k+1,U,Za,?_⟩,by dsimp only;omega⟩;rw[Td Za,t];exact u};have d:k=a.length:=by{have:=XX d;omega};subst d;rw[Zv Za]at hh;exact p _ _ hh.p1.drop
end
end
end Go.Proofs.Q9
namespace Go.Srt
section
def gK(a:Q I)(f:I→I):Q I:=(Zs 258).map λs=>if s∈a then f (a.idxOf s)else 0
def je(a:Q I)(f:I→I):(gK a f).length=258:=by simp[gK]
def QG{a:Q I}{f:I→I}{s:I}(b:s<258):(gK a f).getD s 0=if s∈a then f (a.idxOf s)else 0:=by unfold gK;rw[Zn,Z0,Yx b];rfl
def AZ:∀{a:Q I}(_:a.Nodup){i:I}(d:i<a.length),a.idxOf a[i]=i|y::a,h,0,_=>by simp[Q.idxOf_cons]|y::a,h,i+1,d=>by obtain⟨f,g⟩:=List.nodup_cons.1 h;have b:i<a.length:=by{simpa using d};have c:¬y=a[i]:=λe=>f (e▸Zu b);have:=AZ g b;have e:(y==a[i])=V:=by{simpa using c};simp only[Xa,Q.idxOf_cons,this,e,cond_false]
def DK{a:Q I}{f:I→I}(d:a.Nodup)(b:∀s∈a,s<258){i:I}(c:i<a.length):(gK a f).getD a[i] 0=f i:=by rw[QG (b _ (Zu c)),XT (Zu c),AZ d c]
def wZ{a:Q I}{f g:I→I}(h:∀i,i<a.length→f i=g i):gK a f=gK a g:=by unfold gK;refine Z2 λs _=>?_;by_cases hs:s∈a;{grind};grind
def KL{a:Q I}{f:I→I}{i v:I}(c:a.Nodup)(d:i<a.length):(gK a f).set a[i] v=gK a (λj=>if j=i then v else f j):=by refine YG (by simp[gK]) λs g b=>?_;have h:s<258:=by{rw[je]at b;exact b};rw[Q.getElem_set];unfold gK;simp only[Q.getElem_map,Q.getElem_range];by_cases e:a[i]=s;{grind};grind
def T0(a:Q I):gK a (λ_=>0)=Zi 258 0:=by refine List.eq_replicate_iff.2 ⟨je ..,λx b=>?_⟩;obtain⟨s,_,rfl⟩:=List.mem_map.1 b;split<;>rfl
def wP{l c:Q I}(h:cP l c):c.Nodup:=h.2.imp λ{a b} d e=>by subst e;omega
def CN{l d:Q I}(h:cP l d):Pm.xB (bm l d):=Q.Pairwise.map _ (λ_ _ c=>c) (h.2.imp λ{a b} c=>Za)
end
end Go.Srt
namespace Go.Proofs.Q9
section
open Go Go.Vc Go.Srt Go.Pm
section
variable{E w:G}{F:Q HP}
theorem RY{R:Q It}{j:I}(h:2*j+1<R.length):bX (R.drop (2*j))=((R[2*j]' Za).1+R[2*j+1].1,V)::bX (R.drop (2*(j+1))):=by rw[Zy (show 2*j<R.length by omega),Zy (show 2*j+1<R.length by omega),bX];rfl
theorem PZ{R:Q It}{j:I}(h:¬2*j+1<R.length):bX (R.drop (2*j))=[]:=by have:(bX (R.drop (2*j))).length=0:=by{rw[gd,ZA];omega};exact List.length_eq_zero_iff.1 this
theorem adA{y P:Sl}{A R:Q It}{K:Sl→G→Prop}(h:Hp E w F)(S:ad F (aD 2 y (A.flatMap gU)))(T:ad F (aD 2 P (R.flatMap gU)))(hcap:y.len≤y.cap)(hb:∀x∈R,x.1≤2^60)(hlA:A.length≤2^20)(hlR:R.length≤2^20)(hK:∀z w',Hp E w' (ao 2 z ((jv A (bX R)).flatMap gU)::F)→K z w'):Cl Zf [kS] 214 ⟨[.slice y.base y.len y.cap,.slice P.base P.len P.cap]⟩ w K:=by refine yu.ok _ _ _ _ ?_;have la:=aD.len eG Zb (h.an S);have lr:=aD.len eG Zb (h.an T);have W:=gd R;have htl:(jv A (bX R)).length=A.length+R.length/2:=by{rw[LV,W]};have B:∀o X:Q It,o++X=jv A (bX R)→o.length≤2^21:=λo X e=>Ze;refine⟨λo k i w'=>∃(a j:I)(l:Q It),k=(a:H)∧i=((2*j:I):H)∧a≤A.length∧2*j≤R.length∧l++jv (A.drop a) (bX (R.drop (2*j)))=jv A (bX R)∧Hp E w' (ao 2 o (l.flatMap gU)::F),λ_ _ i _=>R.length-i.toNat,⟨0,0,[],U,U,Za,Za,Zd,h.aQ 2⟩,?_⟩;rintro o k i w' ⟨a,j,l,rfl,rfl,ha,hj,heq,hh⟩;have Y:=B _ _ heq;rw[ae (x:=((2*j:I):H)+1) Za];refine aa.mk (λd=>?_) λt=>?_;{have d:2*j+1<R.length:=by{have:=X0 d;omega};rw[RY d]at heq;have hx1:=hb _ (Zu (show 2*j<R.length by omega));have mD:=hb _ (Zu d);have u:Hp E {w' with drawn:=w'.drawn+1} (ao 2 o (l.flatMap gU)::F):=hh.drew;refine⟨mf E F,mf.yG u,?_⟩;refine ax.elT (n:=2*j) eG Zb u.drop T U Za λp C=>?_;refine ay.sc (s:=.int .i64) ((R[2*j]' Za).1:H) (λw2 D=>(D.an (C 0 Zb)).trans (by simp[gU])) ?_;refine ax.elT (n:=2*j+1) eG Zb u.drop T Za d λq hq=>?_;refine ay.sc (s:=.int .i64) (R[2*j+1].1:H) (λw2 D=>(D.an (hq 0 Zb)).trans (by simp[gU])) ?_;rw[ae (x:=((R[2*j]' Za).1:H)+(R[2*j+1].1:H)) Za];generalize hp1:(R[2*j]' Za).1+R[2*j+1].1=p1 at heq;have L:((R[2*j]' Za).1:H)+(R[2*j+1].1:H)=(p1:H):=by{omega};rw[L];refine Nw.mk u λb w3 h3=>⟨mf.mk2 h3,?_⟩;refine ak.aw h3 U (pI (p1,V)) λw4 h4=>⟨mf.mk2 h4,?_⟩;refine⟨λo k w'=>∃(a:I)(l:Q It),k=(a:H)∧a≤A.length∧l++jv (A.drop a) ((p1,V)::bX (R.drop (2*(j+1))))=jv A (bX R)∧Hp E w' (ao 2 o (l.flatMap gU)::ah b (.cells ⟨gU (p1,V)⟩ 309 (0,0))::F),λ_ k _=>A.length-k.toNat,⟨a,l,U,ha,heq,h4.p1⟩,?_⟩;rintro o k w5 ⟨a,l,rfl,ha,heq,hh⟩;have Y:=B _ _ heq;refine aB.mk hh λw6 m=>?_;rw[ae (x:=((2*j:I):H)+2) Za];have r:A.drop a=[]∨(∃(_:a<A.length),¬A[a].1≤p1)→(l++[(p1,V)])++jv (A.drop a) (bX (R.drop (2*(j+1))))=jv A (bX R):=by{rintro(e|⟨M,f⟩);{rw[e,sI]at heq;rw[e,sI,←heq];simp};rw[Zy M,Hq f]at heq;rw[Zy M,←heq];simp};refine aa.mk (λc=>?_) λc=>?_;{have c:a<A.length:=by{have:=X0 c;omega};refine ax.el (n:=a) eG Zb (m.drop.drop.an S) U c λp C=>?_;refine Ld.sc (s:=.int .i64) (A[a].1:H) (by rw[C 0 Zb];simp[gU]) ?_;rw[aj];refine Ld.aw m.p1 (p1:H) (by simp[gU]) ?_;refine aa.mk (λv=>?_) λf=>?_;{have v:A[a].1≤p1:=by{have:=X0 v;omega};rw[Zy c,GM v]at heq;refine ax.el (n:=a) eG Zb (m.drop.drop.an S) U c λp C=>?_;refine Ld.st (ks:=[.int .i64,.bool]) ((A[a].1:H),A[a].2,()) (λj hj=>C j hj) ?_;refine wv (g:=gU) (x:=A[a]) ny eG Zb U (pI _) m Za Za λz w7 N _=>?_;rw[ae Za];refine⟨⟨a+1,l++[A[a]],U,Za,?_,N⟩,by dsimp only;omega⟩;rw[←heq];simp};have f:¬A[a].1≤p1:=by{have:=XX f;omega};refine Ld.FY (ks:=[.int .i64,.bool]) m.p1 ((p1:H),V,()) U ?_;refine wv (g:=gU) (x:=(p1,V)) ny eG Zb U (pI _) m Za Za λz w7 N _=>?_;exact⟨⟨a,j+1,l++[(p1,V)],U,Za,ha,Za,r (.inr ⟨c,f⟩),N.p1.drop⟩,by dsimp only;omega⟩};have c:A.drop a=[]:=by{grind};refine Ld.FY (ks:=[.int .i64,.bool]) m.p1 ((p1:H),V,()) U ?_;refine wv (g:=gU) (x:=(p1,V)) ny eG Zb U (pI _) m Za Za λz w7 N _=>?_;exact⟨⟨a,j+1,l++[(p1,V)],U,Za,ha,Za,r (.inl c),N.p1.drop⟩,by dsimp only;omega⟩};have t:¬2*j+1<R.length:=by{have:=XX t;omega};rw[PZ t,CJ]at heq;refine bV.el (a:=a) (b:=A.length) (l:=A) eG la U (by rw[la]) ha (Zx _) Za (H.le_refl _) λz hs' hl' _=>?_;have u:=hs' w' (hh.drop.an S);rw[Zv Ze]at u;have hdl:(A.drop a).length≤2^20:=by{rw[ZA];omega};refine afk (g:=gU) ny eG Zb pI hh u Za Za λs2 w2 D _=>hK s2 w2 ?_;rw[←heq];exact D
end
end
end Go.Proofs.Q9
namespace Go.Pm
section
def yY{M:I}:∀{l:Q It},(∀x∈l,x.1≤M)→∀x∈bX l,x.1≤2*M|[],_,x,h=>by simp[bX]at h|[_],_,x,h=>by simp[bX]at h|a::b::l,hl,x,h=>by rw[bX]at h;(rcases List.mem_cons.1 h with rfl|h);{have:=hl a Zd;have:=hl b Zd;simp only;omega};exact yY (λy c=>hl y (by simp[c])) x h
def E1{c:Q I}{M:I}(h:∀x∈c,x≤M):∀k,∀x∈row c k,x.1≤M*2^k|0,x,a=>by{obtain⟨y,b,rfl⟩:=List.mem_map.1 a;simpa using h y b}|k+1,x,a=>by(rcases List.mem_append.1 ((H8 _ _).mem_iff.1 a)with a|a);{obtain⟨y,b,rfl⟩:=List.mem_map.1 a;have:=h y b;have:=I.le_mul_of_pos_right M (Yk (k+1));simp only;omega};have:=yY (E1 h k) x a;rw[Yu];rw[←XB];omega
def tF(a:Q I):∀k,(row a k).length≤2*a.length|0=>by rw[row,eZ];omega|k+1=>by have:=tF a k;rw[il];omega
def NM{l:Q It}{j:I}(h:j<l.length):bP (l.take (j+1))=bP (l.take j)+if l[j].2=J then 1 else 0:=by unfold bP;rw[ZE,Xh,Zg,Zh h];congr 1;by_cases e:l[j].2=J;{rw[XT e];simp[e]};rw[XR e];simp[e]
def Bj{l:Q It}{a b:I}(h:a≤b):bP (l.take a)≤bP (l.take b):=by have:=Zt a (l.take b);rw[Q.take_take,Xc h]at this;have c:=X3 bP this;rw[pf]at c;omega
def TP(a:Q I){L:I}(b:1≤L)(i:I):lenOf a L i≤L:=by unfold lenOf;split;{exact b};have:=F1 a (L-1) (2*a.length-2) i;omega
def QZ{a:Q I}(h:xB a)(k m:I)(b:m≤(row a k).length):bP ((row a k).take m)≤a.length:=by cases k with|zero=>rw[row,eZ]at b;rw[(zE m b).1];exact b|succ k=>exact(oU h k m b).2.1
end
end Go.Pm
namespace Go.Proofs.Q9
section
open Go Go.Vc Go.Srt Go.Pm
section
variable{E w:G}{F:Q HP}
theorem uu{b:I}{t:XY}{l:Q I}{K:XU XQ→G→Prop}(h:Hp E w (ah b (.cells (ai .u8 l) t (0,0))::F))(a:l.length=258)(e:∀w',Hp E w' (ah b (.cells (ai .u8 l) t (0,0))::F)→K (ai .u8 l) w'):Ld (.arr 258) ⟨b,0,Z⟩ w λx=>aA 258 ⟨b,0,Z⟩ x w λc=>Ld (.arr 258) ⟨b,0,Z⟩ c λr=>K r c:=Ld.arr h (by rw[ba,a]) (aA.aw h (by rw[ba,a]) (by rw[ba,a]) nH λc d=>Ld.arr d (by rw[ba,a]) (e c d))
def qJ(s:Sl):Q XQ:=[.slice s.base s.len s.cap]
theorem sr:∀x,(qJ x).length=1:=λ_=>rfl
theorem acZ:∀x,∀y∈qJ x,aC y=J:=by intro x y a;have:y=.slice x.base x.len x.cap:=by{simpa[qJ]using a};rw[this];rfl
theorem aba:cF Zf 306 304 1 24:=cF.of Zc Zc
def Cu(b:Q I)(a:Q Sl)(G:Q HP):Prop:=∀j(c:j<a.length),ad G (aD 2 a[j] ((row b j).flatMap gU))∧a[j].len≤a[j].cap
theorem Cu.more{c:Q I}{b:Q Sl}{G:Q HP}{s:Sl}(h:Cu c b G)(d:s.len≤s.cap):Cu c (b++[s]) (ao 2 s ((row c b.length).flatMap gU)::G):=by intro j e;(rcases Z9 j b.length with a|f);{rw[Q.getElem_append_left a];exact⟨(h j a).1.cons,(h j a).2⟩};have:j=b.length:=by{simp at e;omega};subst this;simp only[Q.getElem_append_right (Zx _),Xo,Z4];exact⟨ad.own,d⟩
theorem abz{L:I}(c:L≤15):bq .i64 1 (u64 (L:H))=((2^L:I):H)∧(0:H)≤u64 (L:H):=by rw[jE Za];have d:2^L≤2^15:=ZU Zb c;have e:YO .i64=9223372036854775807:=U;have:=dq (k:=.i64) (a:=1) (b:=L) (by have:Wc.bits .i64=64:=U;omega) Ze;rw[I.one_mul]at this;exact⟨this,Za⟩
theorem Ns{l ys:Q I}(a:q8 l):∀x∈bm l ys,x≤2147483647:=by intro x b;obtain⟨s,_,rfl⟩:=List.mem_map.1 b;rw[Zn];cases h:l[s]? with|none=>simp|some y=>exact a y (Y3 h)
theorem adX{l ys:Q I}(a:q8 l){k:I}(b:k≤15):∀x∈row (bm l ys) k,x.1≤2^60:=by intro x c;have e:=E1 (Ns (ys:=ys) a) k x c;have d:2^k≤2^15:=ZU Zb b;have:=I.mul_le_mul_left 2147483647 d;omega
theorem J0{t:Q H}{L:H}{K:XU XQ→H→Wa→Prop}(h:Hp E w F)(hl:t.length=258)(Y:(ch t=V∨L<1∨15<L∨∃l,t=ints l∧(2:H)^L.toNat<(used l).length)→∀w',Hp E w' F→K (ai .u8 (Zi 258 0)) 2 w')(hK2:∀l ys w',t=ints l→q8 l→cP l ys→1≤L→L≤15→ys.length≤2^L.toNat→Hp E w' F→K (ai .u8 (gK ys (lenOf (bm l ys) L.toNat))) 0 w'):Cl Zf [.arr 258,kI] 144 ⟨[.agg (aT t),.int .i64 L]⟩ w K:=by refine uW.ok _ _ _ _ ?_;rw[DH];simp only[bg];refine Nw.mk h λb4 w1 h1=>Nw.mk h1 λb6 w2 h2=>Ld.arr h2.p1 (by rw[fA,hl]) (O8 h2 hl (λhv w3 h3=>?_) λl hte hm hll ys s w3 A h3=>?_);{refine Ld.arr h3.p1 (by rw[fA,hl]) (xi h3 hl λw4 D=>aa.t Ze (uu D Zd λw5 u=>Y (.inl hv) w5 u.drop.drop))};subst hte;have hlen:=adf hll A;have hin:=ac2 hll A;have hsl:s.len=ys.length:=by{have:=(h3.an ad.own).1;simp only[Zq,ints,ZB]at this;exact this.symm};refine Ld.arr h3.p2 (by rw[fA,hl]) (xi h3 hl λw4 D=>aa.f (by rw[uG hm];rfl) ?_);refine aa.mk (λhlt=>uu D.p1 Zd λw5 u=>Y (.inr (.inl (X0 hlt))) w5 u.drop.drop.drop) λM=>?_;have M:=XX M;refine aa.mk (λhgt=>uu D.p1 Zd λw5 u=>Y (.inr (.inr (.inl Ze))) w5 u.drop.drop.drop) λhle=>?_;have hle:=XX hle;obtain⟨N,rfl⟩:=H.eq_ofNat_of_zero_le (show 0≤L by omega);have hN:N≤15:=Za;have hN1:1≤N:=Za;obtain⟨e1,e2⟩:=abz hN;rw[e1];refine⟨e2,aa.mk (λhgt=>uu D.p1 Zd λw5 u=>Y (.inr (.inr (.inr ⟨l,rfl,?_⟩))) w5 u.drop.drop.drop) λhle2=>?_⟩;{have hgt:=X0 hgt;rw[Zl,←A.1.length_eq,←hsl];rw[show(2:H)^N=((2^N:I):H) by norm_cast];exact hgt};have hle2:ys.length≤2^N:=by{have:=XX hle2;omega};have P:=CN A;have hwl:(bm l ys).length=ys.length:=Zq _;have hnd:=wP A;have z:∀s∈ys,s<258:=λs hs=>(hin s hs).1;have R:∀w',Hp E w' F→K (ai .u8 (gK ys (lenOf (bm l ys) N))) 0 w':=λw' h'=>hK2 l ys w' rfl hm A Za Za Ze h';rw[←T0 ys]at D;refine aa.mk (λh1=>?_) λh1=>?_;{have h1:ys.length=1:=by{have:(s.len:H)=1:=by{simpa using h1};omega};refine PD (i:=0) (D.an ad.own) Za ?_;have hx:=z _ (Zu (show 0<ys.length by omega));refine aH.wr D.p1 Za Za (by rw[ba,je]) rfl λw5 u=>?_;rw[Zl]at u;have e:=He (k:=.u8) (l:=gK ys λ_=>0) (i:=ys[0]) (x:=1);rw[show(Yw .u8 1)=.int .u8 ((1:I):H)from rfl,e,KL hnd Za]at u;have e3:gK ys (λj=>if j=0 then 1 else 0)=gK ys (lenOf (bm l ys) N):=wZ λi S=>by{have:i=0:=by{omega};subst this;unfold lenOf;rw[XT rfl,XT Za]};rw[e3]at u;exact uu u (je ..) λw6 h6=>R w6 h6.drop.drop.drop};have h1:ys.length≠1:=Ze;rw[Lz]at D;refine Ld.arr D.p2 (by rw[ba,hll]) (RE D hll ad.own z hlen λs0 w5 u=>Nw.mk u λb38 w6 h6=>?_);have hc0:=u.jY;refine⟨λo k w'=>∃(g:Q Sl)(G:Q HP),k=(g.length:H)∧1≤g.length∧g.length≤N∧Cu (bm l ys) g G∧Hp E w' (ao 1 o (g.flatMap qJ)::ah b6 (.cells (ai .u8 (gK ys λ_=>0)) 172 (0,0))::ao 1 s ((ints ys).map vI)::ah b4 (.cells (ai .i64 l) 237 (0,0))::(G++F)),λ_ k _=>N-k.toNat,⟨[s0],[ao 2 s0 ((kl (bm l ys)).flatMap gU)],rfl,Zx _,hN1,?_,?_⟩,?_⟩;{intro j hj;have:j=0:=by{simp at hj;omega};subst this;exact⟨ad.own,hc0⟩};{exact((h6.pz (sz:=1) (n:=1) rfl).p1.q4).p2.p1};rintro o k w7 ⟨g,G,rfl,hr1,hrN,hrs,C⟩;have hrl:=aD.len sr Zb (C.an ad.own);refine aa.mk (λhlt=>?_) λM=>?_;{have hlt:g.length<N:=by{have:=X0 hlt;omega};have hd:Hp E {w7 with drawn:=w7.drawn+1} _:=C.drew;have hrd:∀w',Hp E w' (ao 1 o (g.flatMap qJ)::ah b6 (.cells (ai .u8 (gK ys λ_=>0)) 172 (0,0))::ao 1 s ((ints ys).map vI)::ah b4 (.cells (ai .i64 l) 237 (0,0))::(G++F))→aD 1 o (g.flatMap qJ) w':=λw' h'=>h'.an ad.own;have key:∀(i:I)(S:i<g.length){K:X6→Prop},(∀p,(∀w,aD 1 o (g.flatMap qJ) w→w.cell? p=O (.slice g[i].base g[i].len g[i].cap))→K p)→ax o (i:H) 1 K:=by{intro i S K hK;obtain⟨p,hp,_⟩:=(hrd _ hd).2 i (by rw[cO sr];omega);refine⟨p,hp,Za,Za,hK _ λw2 h2=>?_⟩;obtain⟨q,hq,hc⟩:=h2.2 i (by rw[cO sr];omega);have:q=p:=XN (hq.symm.trans hp);subst this;rw[Zl,ZB,hc];have:=kC sr g i 0 S Zb;rw[ZB,Zr]at this;rw[←Zh,this];rfl};have hr0:=hrs 0 Za;have hrk:=hrs (g.length-1) Za;refine⟨aD 1 o (g.flatMap qJ),hrd _ hd,?_⟩;refine key 0 Za λp hp=>ay.sc (s:=.sl) g[0] hp ?_;rw[show i64 ((g.length:H)-1)=((g.length-1:I):H) by rw[ae Za];omega];refine key (g.length-1) Za λq hq=>ay.sc (s:=.sl) g[g.length-1] hq ?_;have hlr:=tF (bm l ys) (g.length-1);refine adA hd (ad.cons (ad.cons (ad.cons (ad.cons hr0.1.N3)))) (ad.cons (ad.cons (ad.cons (ad.cons hrk.1.N3)))) hr0.2 (adX hm Za) (by rw[row,eZ];omega) Za λs' w8 h8=>?_;have hcs:=h8.jY;refine⟨hrd _ h8.drop,Nw.mk h8 λb53 w9 h9=>⟨hrd _ h9.drop.drop,?_⟩⟩;refine yV (ys:=qJ s') (n:=1) aba Zb (.inl ⟨304,Zc⟩) h9.p2 (.inl ⟨_,_,_,rfl,rfl,h9.an (ad.aw rfl rfl)⟩) rfl (acZ s') Za Za λs2 w10 h10 _ hold=>⟨hold,?_⟩;have e:g.length-1+1=g.length:=by{omega};have er:jv (row (bm l ys) 0) (bX (row (bm l ys) (g.length-1)))=row (bm l ys) g.length:=by{(conv=>rhs;rw[←e,row]);rfl};rw[er]at h10;rw[ae Za];refine⟨⟨g++[s'],ao 2 s' ((row (bm l ys) g.length).flatMap gU)::G,Zd,Zd,by simp;omega,hrs.more hcs,?_⟩,by dsimp only;omega⟩;have h11:=h10.p1.drop;rw[YQ,show[s'].flatMap qJ=qJ s' by simp];exact h11.p1.q4};have M:g.length=N:=by{have:=XX M;omega};have tot15:∀i,lenOf (bm l ys) N i≤15:=λi=>Yj (TP _ hN1 i) hN;have htot:∀i,lenOf (bm l ys) N i=lv (bm l ys) (N-1) (2*ys.length-2) i:=λi=>by{unfold lenOf;rw[XR Za,hwl]};refine⟨λT k w'=>∃f:I→I,(((k=-1∨T≤0)∧-1≤k∧k<N∧∀i,i<ys.length→f i=lenOf (bm l ys) N i)∨(∃c m:I,k=(c:H)∧c<N∧T=(m:H)∧m≤(row (bm l ys) c).length∧∀i,i<ys.length→f i+lv (bm l ys) c m i=lenOf (bm l ys) N i))∧Hp E w' (ah b6 (.cells (ai .u8 (gK ys f)) 172 (0,0))::ao 1 o (g.flatMap qJ)::ao 1 s ((ints ys).map vI)::ah b4 (.cells (ai .i64 l) 237 (0,0))::(G++F)),λ_ k _=>(k+1).toNat,⟨λ_=>0,?_,C.p1⟩,?_⟩;{rw[ae (x:=2*(s.len:H)) Za,ae (x:=2*(s.len:H)-2) Za,ae Za];(rcases Z8 ys.length with h0|h0);{grind};refine .inr ⟨N-1,2*ys.length-2,Za,Za,Za,?_,λi _=>by rw[htot,Zj]⟩;rw[←hwl];exact BL (N-1) Ze};rintro T k w8 ⟨f,X,C⟩;have done:(∀i,i<ys.length→f i=lenOf (bm l ys) N i)→Hp E w8 (ah b6 (.cells (ai .u8 (gK ys (lenOf (bm l ys) N))) 172 (0,0))::ao 1 o (g.flatMap qJ)::ao 1 s ((ints ys).map vI)::ah b4 (.cells (ai .i64 l) 237 (0,0))::(G++F)):=λS=>by{rw[←wZ S];exact C};refine aa.mk (λhk=>?_) λhk=>?_;{have hk:=X0 hk;refine aa.mk (λr=>?_) λr=>?_;{have r:=X0 r;(rcases X with⟨h0,_⟩|⟨c,m,rfl,hkN,rfl,B,X⟩);{omega};have hrk:=hrs c Za;have hlr:=tF (bm l ys) c;refine ax.el (n:=c) sr Zb (C.p1.an ad.own) rfl Za λp hp=>?_;refine Ld.sc (s:=.sl) g[c] (by have:=hp 0 Zb;rw[add_zero]at this;rw[this];rfl) ?_;have hrt:ad (G++F) (aD 2 g[c] ((row (bm l ys) c).flatMap gU)):=hrk.1.N3;have hrl2:=aD.len eG Zb (C.drop.drop.drop.drop.an hrt);refine bV.el (a:=0) (b:=m) (l:=row (bm l ys) c) eG hrl2 rfl rfl Za B Za (H.le_refl _) λsm hsm hsml _=>?_;have hsm2:ad (G++F) (aD 2 sm (((row (bm l ys) c).take m).flatMap gU)):=hrt.imp λw' hw'=>by{simpa using hsm w' hw'};refine⟨λwh j w'=>∃d:I,j=(d:H)∧d≤m∧wh=(bP ((row (bm l ys) c).take d):H)∧Hp E w' (ah b6 (.cells (ai .u8 (gK ys λi=>f i+if i<bP ((row (bm l ys) c).take d)then 1 else 0)) 172 (0,0))::ao 1 o (g.flatMap qJ)::ao 1 s ((ints ys).map vI)::ah b4 (.cells (ai .i64 l) 237 (0,0))::(G++F)),λ_ j _=>m-j.toNat,⟨0,rfl,Za,rfl,C⟩,?_⟩;rintro wh j w9 ⟨d,rfl,hj,rfl,C⟩;have hlfm:=Bj (l:=row (bm l ys) c) (show d≤m from hj);have hlfn:=QZ P c m B;refine aa.mk (λv=>?_) λv=>?_;{have v:d<m:=by{have:=X0 v;omega};have hjr:d<(row (bm l ys) c).length:=by{omega};have y:=NM hjr;have hlfm2:=Bj (l:=row (bm l ys) c) (show d+1≤m from v);refine ax.el (n:=d) eG Zb (C.drop.drop.drop.drop.an hsm2) rfl Ze λp hp=>?_;rw[YS]at hp;refine Ld.st (ks:=[.int .i64,.bool]) (((row (bm l ys) c)[d].1:H),(row (bm l ys) c)[d].2,()) (λj hj=>hp j hj) ?_;refine Nw.mk C λb80 w10 h10=>ak.aw h10 rfl (pI (row (bm l ys) c)[d]) λw11 h11=>?_;rw[aj];refine Ld.aw h11 (row (bm l ys) c)[d].2 Ze ?_;have h12:=h11.drop;refine aa.mk (λhlf=>?_) λhlf=>?_;{rw[XT hlf]at y;have W:bP ((row (bm l ys) c).take d)<ys.length:=by{omega};have hx:=z _ (Zu W);have hfi:=X _ W;have h15:=tot15 (bP ((row (bm l ys) c).take d));have hlv:1≤lv (bm l ys) c m (bP ((row (bm l ys) c).take d)):=by{cases c with|zero=>unfold lv whole;rw[XT Za];exact Zx _|succ c=>unfold lv whole;rw[XT Za];omega};refine PD (h12.p2.an ad.own) W ?_;refine aH.rd (s:=.int .u8) h12 Za Za _ (Uf (by rw[je];omega)) ?_;rw[DK hnd z W,XR Za,Zr];refine aH.wr h12 Za Za (by rw[ba,je]) rfl λw13 h13=>?_;rw[Zl,j8 Za,show((f (bP ((row (bm l ys) c).take d)):H)+1)=((f (bP ((row (bm l ys) c).take d))+1:I):H) by omega,He,KL hnd W]at h13;rw[ae (x:=(bP ((row (bm l ys) c).take d):H)+1) Za,ae Za];refine⟨⟨d+1,rfl,Za,Za,?_⟩,by dsimp only;omega⟩;rw[y];have e:gK ys (λi=>f i+if i<bP ((row (bm l ys) c).take d)+1 then 1 else 0)=gK ys (λj=>if j=bP ((row (bm l ys) c).take d)then f (bP ((row (bm l ys) c).take d))+1 else f j+if j<bP ((row (bm l ys) c).take d)then 1 else 0):=wZ λi _=>Ze;rw[e];exact h13};rw[XR Ze]at y;have y:bP ((row (bm l ys) c).take (d+1))=bP ((row (bm l ys) c).take d):=y;rw[ae Za];refine⟨⟨d+1,rfl,Za,by rw[y],?_⟩,by dsimp only;omega⟩;rw[y];exact h12};have v:d=m:=by{have:=XX v;omega};subst v;have hlj:bP ((row (bm l ys) c).take d)≤d:=by{unfold bP;have:=Q.length_filter_le (λx:It=>x.2) ((row (bm l ys) c).take d);rw[Zz]at this;omega};rw[ae (x:=(d:H)-_) Za,ae (x:=2*_) Za,ae Za];refine⟨⟨_,?_,C⟩,by dsimp only;omega⟩;cases c with|zero=>refine .inl ⟨.inl Za,Za,Za,λi S=>?_⟩;have:=X i S;unfold lv whole at this;exact this|succ c=>refine .inr ⟨c,2*(d-whole (bm l ys) (c+1) d),Za,Za,?_,(oU P c d B).2.2.1,λi S=>?_⟩;{show 2*((d:H)-(whole (bm l ys) (c+1) d:H))=_;have:whole (bm l ys) (c+1) d≤d:=hlj;omega};have:=X i S;rw[lv]at this;rw[←this];unfold whole;omega};have r:=XX r;refine uu (done ?_) (je ..) λw9 h9=>R w9 h9.drop.drop.drop.drop.yn;(rcases X with⟨_,_,_,h0⟩|⟨c,m,rfl,hkN,rfl,B,X⟩);{exact h0};intro i S;have h0:=X i S;have hm0:m=0:=by{omega};subst hm0;rw[CU P c 0 i B (by simp[whole,bP]),Zr]at h0;exact h0};have hk:=XX hk;refine uu (done ?_) (je ..) λw9 h9=>R w9 h9.drop.drop.drop.drop.yn;(rcases X with⟨_,_,_,h0⟩|⟨c,m,rfl,hkN,rfl,B,X⟩);{exact h0};omega
end
end
end Go.Proofs.Q9
namespace Go.Pm
section
structure RIt where
 w:I
 sym:H
 one:I
 two:I
end
end Go.Pm
namespace Go.Proofs.Q9
section
open Go Go.Vc Go.Srt Go.Pm
section
variable{E w:G}{F:Q HP}
abbrev RK:Q Sc:=[.int .i64,.int .i64,.int .i64,.int .i64]
def tR(x:RIt):TT RK:=((x.w:H),x.sym,(x.one:H),(x.two:H),())
end
end
end Go.Proofs.Q9
namespace Go.Srt
section
def BM(l:Q I):∃ys,cP l ys:=by have f:∀a b c:I,K (l.getD a 0<l.getD b 0∨(l.getD a 0=l.getD b 0∧a≤b))=J→K (l.getD b 0<l.getD c 0∨(l.getD b 0=l.getD c 0∧b≤c))=J→K (l.getD a 0<l.getD c 0∨(l.getD a 0=l.getD c 0∧a≤c))=J:=Ze;have g:∀a b:I,(decide (l.getD a 0<l.getD b 0∨(l.getD a 0=l.getD b 0∧a≤b))||K (l.getD b 0<l.getD a 0∨(l.getD b 0=l.getD a 0∧b≤a)))=J:=Ze;have i:=Q.pairwise_mergeSort (le:=λa b=>decide (l.getD a 0<l.getD b 0∨(l.getD a 0=l.getD b 0∧a≤b))) f g (used l);have e:=Q.mergeSort_perm (used l) λa b=>decide (l.getD a 0<l.getD b 0∨(l.getD a 0=l.getD b 0∧a≤b));have j:(used l).Nodup:=Q.Pairwise.filter _ (Q.nodup_range (n:=l.length));have d:=e.nodup_iff.2 j;exact⟨_,e,(i.and d).imp λ{a b} h=>by have:=X0 h.1;have:=h.2;omega⟩
structure eA (t:Q H) (L:H) (u ys:Q I) (N:I):Prop where
 eq:t=Proofs.Q9.ints u
 max:q8 u
 len:u.length=258
 ord:cP u ys
 lim:L=(N:H)
 one:1≤N
 top:N≤15
 few:ys.length≤2^N
def Jm{u v:Q I}(h:Proofs.Q9.ints u=Proofs.Q9.ints v):u=v:=(Q.map_inj_right λx y h=>by have h:(x:H)=(y:H):=h;omega).1 h
end
end Go.Srt
namespace Go.Proofs.Q9
section
open Go Go.Vc Go.Srt Go.Pm
section
variable{E w:G}{F:Q HP}
theorem aaq{t:Q H}{L:H}{u ys:Q I}{N:I}(b:eA t L u ys N):¬(ch t=V∨L<1∨15<L∨∃l,t=ints l∧(2:H)^L.toNat<(used l).length):=by obtain⟨rfl,c,e,a,rfl,f,g,i⟩:=b;rintro(h|h|h|⟨l,h,d⟩);{rw[uG c]at h;cases h};{omega};{omega};obtain rfl:=Jm h;rw[←a.1.length_eq,Zl,show(2:H)^N=((2^N:I):H) by norm_cast]at d;omega
def jK(u ys:Q I)(N:I):Q I:=gK ys (lenOf (bm u ys) N)
theorem Oo(u ys:Q I)(N:I):(jK u ys N).length=258:=je ..
theorem R5{t:Q H}{L:H}{u ys:Q I}{N:I}{K:XU XQ→H→G→Prop}(a:eA t L u ys N)(h:Hp E w F)(c:∀w',Hp E w' F→K (ai .u8 (jK u ys N)) 0 w'):Cl Zf [.arr 258,kI] 144 ⟨[.agg (aT t),.int .i64 L]⟩ w K:=by refine J0 h (by rw[a.eq,iK,a.len]) (λd=>X8 d (aaq a)) λl zs w' e i b j k m f=>?_;have:l=u:=Jm (e.symm.trans a.eq);subst this;obtain rfl:=Ss b a.ord;have g:=c w' f;rw[a.lim,Zl];exact g
end
end
end Go.Proofs.Q9
namespace Go.Srt
section
open Go.Pm
def Rr(ys:Q I)(g:I→I):(ys.map g).sum=over ys.length λi=>g (ys.getD i 0):=by unfold over;congr 1;refine YG Zd λi a c=>?_;have b:i<ys.length:=by{simpa using a};simp[b]
def PA{u ys:Q I}{f:I→I}(c:u.length=258)(b:cP u ys)(d:∀i,i<ys.length→1≤f i):used (gK ys f)=used u:=by unfold used;rw[je,c];refine Q.filter_congr λs a=>?_;have a:s<258:=by{simpa using a};rw[QG a];have e:s∈ys↔0<u.getD s 0:=by{rw[b.1.mem_iff,fH,c];exact⟨λh=>h.2,λh=>⟨a,h⟩⟩};by_cases h:s∈ys;{grind};grind
def Rf{u ys:Q I}{f:I→I}(e:u.length=258)(a:cP u ys)(d:∀i,i<ys.length→1≤f i∧f i≤15):bB (gK ys f)=over ys.length λi=>2^(15-f i):=by have c:∀s∈ys,s<258:=λs g=>by{have:=(fH.1 (a.1.mem_iff.1 g)).1;omega};rw[ES,PA e a λi b=>(d i b).1,←(a.1.map _).sum_nat,Rr];refine oq λi b=>?_;rw[getD_at b,DK (wP a) c b];have:=d i b;unfold wt;rw[XR Za,XR Za]
section
variable{t:Q H}{L:H}{u ys:Q I}{N:I}
theorem eA.wl(a:eA t L u ys N):(bm u ys).length=ys.length:=Zq _
theorem eA.MX(a:eA t L u ys N){i:I}(b:i<ys.length):1≤lenOf (bm u ys) N i∧lenOf (bm u ys) N i≤N:=SV (CN a.ord) a.one (by rw[a.wl];exact a.few) (by rw[a.wl];exact b)
theorem p15:2^15=32768:=Zb
theorem eA.afu(a:eA t L u ys N)(d:2≤ys.length):bB (Proofs.Q9.jK u ys N)=32768:=by have j:=a.top;have k:=a.one;have e:=Rf (f:=lenOf (bm u ys) N) a.len a.ord λi b=>by{have:=a.MX b;omega};have c:=Ht (CN a.ord) (N-1) (by rw[a.wl];exact d) (by rw[a.wl,show N-1+1=N by omega];exact a.few);rw[a.wl,show N-1+1=N by omega]at c;unfold Proofs.Q9.jK;rw[e,oq (g:=λi=>2^(15-N)*2^(N-lv (bm u ys) (N-1) (2*ys.length-2) i)) λi b=>by have:=a.MX b;have h:lenOf (bm u ys) N i=lv (bm u ys) (N-1) (2*ys.length-2) i:=by{unfold lenOf;rw[XR (by rw[a.wl];omega),a.wl]};rw[h]at this⊢;rw[←I.pow_add,show 15-N+(N-lv (bm u ys) (N-1) (2*ys.length-2) i)=15-lv (bm u ys) (N-1) (2*ys.length-2) i by omega],RO,c,←I.pow_add,show 15-N+N=15 by omega,p15]
theorem eA.bytes(a:eA t L u ys N):∀y∈Proofs.Q9.jK u ys N,y<256:=by intro y b;obtain⟨s,_,rfl⟩:=List.mem_map.1 b;have c:=a.top;split;{rename_i h;have:=a.MX (Q.idxOf_lt_length_of_mem h);omega};decide
theorem eA.at(a:eA t L u ys N){i:I}(b:i<ys.length):(Proofs.Q9.jK u ys N).getD ys[i] 0=lenOf (bm u ys) N i:=DK (wP a.ord) (λs c=>by have:=(fH.1 (a.ord.1.mem_iff.1 c)).1;have:=a.len;omega) b
end
end
end Go.Srt
namespace Go.Sym
section
def wA:∀(b L:Q I)(r:I),bW L→(∀x∈b,x<256)→(b≠[]∨0<r)→∃s∈dn L r b,s<257|[],L,r,_,_,h=>by have a:0<r:=by{(rcases h with h|h);{exact X8 U h};exact h};rw[l7,oO a];exact⟨(r-1)%2,Zd,Za⟩|c::b,L,r,hL,hb,_=>by by_cases h0:L.idxOf c=0;{rw[kW h0];exact wA b _ _ (hL.take Zb) (λx d=>hb x (Zw _ d)) (.inr Za)};rw[mz h0];have:=hL.idx (hb c ZI);exact⟨L.idxOf c+1,Zd,Za⟩
def Sa{b:Q I}(h:b≠[])(a:∀x∈b,x<256):∃s∈syms b,s<257:=wA b _ 0 bW.range a (.inl h)
def Sv(b:Q I):257∈syms b:=by unfold syms dn;simp
def Lm(n:I):(da n).length≤n:=by induction n using ZV with|ind n a=>by_cases h:n=0;{subst h;rw[pk];exact Zx _};rw[oO Za,Zp];have:=a ((n-1)/2) Za;omega
def pG:∀(b L:Q I)(r:I),(dn L r b).length≤r+b.length+1|[],L,r=>by rw[l7,Zg];have:=Lm r;simp;omega|c::b,L,r=>by by_cases h0:L.idxOf c=0;{rw[kW h0];have:=pG b (cX L 0) (r+1);rw[Zp];omega};rw[mz h0,Zg,Zp,Zp];have:=pG b (cX L (L.idxOf c)) 0;have:=Lm r;omega
def ud(b:Q I):(syms b).length≤b.length+1:=by have:=pG b (Zs 256) 0;unfold syms;omega
end
end Go.Sym
namespace Go.ah
section
open Go.Inc Go.Srt Go.Sym Go.Bits Go.Tab Go.Bw Go.Pm
def lu(a:Q I):Q I:=(Zs 258).map λs=>a.count s
def mI(a:Q I):(lu a).length=258:=by unfold lu;simp
def Mz(a:Q I){s:I}(h:s<258):(lu a).getD s 0=a.count s:=by unfold lu;rw[Zn,Z0,Yx h];rfl
def De{ss:Q I}(h:ss.length≤2147483647):q8 (lu ss):=λx a=>by obtain⟨s,_,rfl⟩:=List.mem_map.1 a;exact Yj Q.count_le_length h
def fH{u:Q I}{s:I}:s∈used u↔s<u.length∧0<u.getD s 0:=by unfold used;rw[Q.mem_filter,Xb,Ww]
def Df{u a:Q I}(h:cP u a){s:I}:s∈a↔s<u.length∧0<u.getD s 0:=by rw[h.1.mem_iff,fH]
def UX{u a:Q I}(b:u.length=258)(h:cP u a):a.length≤258:=by rw[h.1.length_eq,←b];unfold used;exact Yj (Q.length_filter_le ..) Zd
def KU{u b:Q I}(c:u.length=258)(d:q8 u)(a:cP u b):eA (Proofs.Q9.ints u) 15 u b 15 where eq:=U;max:=d;len:=c;ord:=a;lim:=U;one:=Zb;top:=Zb;few:=Yj (UX c a) Zb
def L4{u d b:Q I}(q:u.length=258)(r:q8 u)(c:cP u d)(f:0<u.getD 257 0)(t:∃s,s<257∧0<u.getD s 0)(v:∀s∈syms b,0<u.getD s 0)(w:∀x∈b,x<256):pR (Proofs.Q9.jK u d 15) b:=by have g:=KU q r c;have j:∀s,s<258→0<u.getD s 0→0<(Proofs.Q9.jK u d 15).getD s 0:=by{intro s y l;have k:s∈d:=(Df c).2 ⟨Za,l⟩;obtain⟨i,p,e⟩:=List.mem_iff_getElem.1 k;have m:=g.at p;have z:=(g.MX p).1;rw[e]at m;omega};have l:2≤d.length:=by{obtain⟨s,y,m⟩:=t;have n:s∈d:=(Df c).2 ⟨Za,m⟩;have o:257∈d:=(Df c).2 ⟨Za,f⟩;match d,n,o with|[a],n,o=>rw[ZL]at n o;omega|_::_::_,_,_=>simp};refine⟨Proofs.Q9.Oo _ _ _,oP.2 ⟨g.afu l,j 257 Zb f⟩,λs h=>?_⟩;have:=xI w s h;exact⟨Za,j s Za (v s h)⟩
noncomputable def CI(u:Q I):Q I:=Classical.choose (BM u)
def Dz(u:Q I):cP u (CI u):=Classical.choose_spec (BM u)
noncomputable def adZ(a:Q I):Q I:=Proofs.Q9.jK (lu a) (CI (lu a)) 15
noncomputable def iM(x:Q I):Q I:=adZ (syms (aR x.reverse))
def Nx{a:Q I}(h:a.length≤2147483647):eA (Proofs.Q9.ints (lu a)) 15 (lu a) (CI (lu a)) 15:=KU (mI a) (De h) (Dz _)
def oD{x:Q I}(k:0<x.length)(l:x.length≤1000000)(g:∀c∈x,c<256):pR (iM x) (aR x.reverse):=by have b:=Stm.M4 g;have i:aR x.reverse≠[]:=by{intro e;have:=X3 Yg e;rw[c8,Z3,ZM]at this;omega};have a:(syms (aR x.reverse)).length≤2147483647:=by{have:=ud (aR x.reverse);rw[c8,Z3]at this;omega};have d:∀s∈syms (aR x.reverse),0<(lu (syms (aR x.reverse))).getD s 0:=by{intro s h;have:=xI b s h;rw[Mz _ Za];exact List.count_pos_iff.2 h};obtain⟨s,j,f⟩:=Sa i b;exact L4 (mI _) (De a) (Dz _) (d 257 (Sv _)) ⟨s,f,d s j⟩ d b
def VR{a:Q I}(h:∀s∈a,s≤257):Hs.iS (Zi 258 0) (Proofs.Q9.ints a)=Proofs.Q9.ints (lu a):=by have b:(Proofs.Q9.ints a).all Hs.oc=J:=by{refine List.all_eq_true.2 λz e=>?_;obtain⟨s,f,rfl⟩:=List.mem_map.1 e;have:=h s f;exact Hs.sy.2 Za};refine YT λi=>?_;have k:(Hs.iS (Zi 258 0) (Proofs.Q9.ints a)).length=258:=by{rw[Hs.rR];simp};by_cases hi:i<258;{have c:=Hs.yj (zs:=Proofs.Q9.ints a) (t:=Zi 258 0) b Zd i;rw[Zn,Zh Za]at c;rw[Zh Za];have d:=Mz a hi;rw[Zn,Zh (by rw[mI];exact hi)]at d;have g:(Proofs.Q9.ints (lu a))[i]?=O (((lu a)[i]'(by rw[mI];exact hi):I):H):=by{unfold Proofs.Q9.ints;rw[Z0,Zh (by rw[mI];exact hi)];rfl};rw[g];simp only[YC]at c d;rw[c,d];have j:((Proofs.Q9.ints a).count (i:H))=a.count i:=by{unfold Proofs.Q9.ints;rw[Q.count_eq_countP,Q.countP_map,Q.count_eq_countP];refine Q.countP_congr λx _=>?_;simp only[XK,Wd];omega};rw[j,Zn,Q.getElem?_replicate,XT hi];simp};rw[Yb Za,Yb (by rw[Proofs.Q9.iK,mI];omega)]
end
end Go.ah
namespace Go.Vc
section
def qP(l:Q I)(i:I):Q I:=(Zs l.length).map λp=>if p<i∨l.length-i≤p then l.getD (l.length-1-p) 0 else l.getD p 0
def oM(l:Q I)(i:I):(qP l i).length=l.length:=by unfold qP;simp
def sJ{l:Q I}{i p:I}(h:p<l.length):(qP l i)[p]?=O (if p<i∨l.length-i≤p then l.getD (l.length-1-p) 0 else l.getD p 0):=by unfold qP;rw[Z0,Yx h];rfl
def SJ(l:Q I):qP l 0=l:=by refine YT λp=>?_;by_cases h:p<l.length;{rw[sJ h,XR Za,Zh h,Zn,Zh h];rfl};rw[Yb (by rw[oM];omega),Yb Za]
def RT{l:Q I}{i:I}(h:2*i+1<l.length):((qP l i).set i (l.getD (l.length-1-i) 0)).set (l.length-1-i) (l.getD i 0)=qP l (i+1):=by refine YT λp=>?_;by_cases hp:p<l.length;{rw[sJ hp,Q.getElem?_set,Q.getElem?_set,sJ hp];by_cases h1:l.length-1-i=p;{subst h1;rw[XT U,XT (by rw[Q.length_set,oM];omega),XT Za,show l.length-1-(l.length-1-i)=i by omega]};rw[XR h1];by_cases h2:i=p;{subst h2;rw[XT U,XT (by rw[oM];omega),XT Za]};grind};rw[Yb (by rw[Q.length_set,Q.length_set,oM];omega),Yb (by rw[oM];omega)]
def aa8{l:Q I}{i:I}(h:l.length≤2*i+1):qP l i=l.reverse:=by refine YT λp=>?_;by_cases hp:p<l.length;{rw[sJ hp,Q.getElem?_reverse hp];have e:∀q,q<l.length→l[q]?=O (l.getD q 0):=λq a=>by{rw[Zn,Zh a];rfl};rw[e _ Za];by_cases h3:p<i∨l.length-i≤p;{rw[XT h3]};grind};rw[Yb (by rw[oM];omega),Yb Ze]
end
end Go.Vc
namespace Go.Proofs.Q9
section
open Go Go.Vc
section
variable{E w:G}{F:Q HP}
theorem Oy{s:Sl}{l:Q I}{K:G→Prop}(h:Hp E w (ao 1 s (l.map vB)::F))(a:l.length≤cJ)(f:∀w',Hp E w' (ao 1 s (l.reverse.map vB)::F)→K w'):Cl Zf [] 269 ⟨[.slice s.base s.len s.cap]⟩ w K:=by refine pH.ok _ _ _ ?_;have b:=h.aP;rw[Zq,ZB]at b;rw[aJ]at a;rw[ae Za];refine⟨λi j w'=>∃k:I,i=(k:H)∧j=(l.length:H)-1-(k:H)∧k≤l.length∧Hp E w' (ao 1 s ((qP l k).map vB)::F),λi _ _=>l.length-i.toNat,⟨0,U,Za,Za,by rw[SJ];exact h⟩,?_⟩;rintro i j w ⟨k,rfl,rfl,hk,h⟩;refine aa.dm (λg=>?_) λm=>?_;{have x:∀p,(e:p<l.length)→((qP l k).map vB)[p]?=O (vB (if p<k∨l.length-k≤p then l.getD (l.length-1-p) 0 else l.getD p 0)):=λp e=>by{rw[Z0,sJ e];rfl};have n:((l.length:H)-1-(k:H)).toNat=l.length-1-k:=by{omega};refine aB.mk h λw h=>?_;refine ax.rd (h.an ad.own) Za Za λq o r=>?_;have t:((qP l k).map vB)[((l.length:H)-1-(k:H)).toNat]' o=vB (l.getD (l.length-1-k) 0):=by{grind};refine Ld.sc (s:=.int .u8) (l.getD (l.length-1-k) 0:H) (by rw[r,t];rfl) ?_;refine ax.rd (h.an ad.own) Za Za λy c d=>?_;have u:((qP l k).map vB)[((k:H)).toNat]' c=vB (l.getD k 0):=by{grind};refine Ld.sc (s:=.int .u8) (l.getD k 0:H) (by rw[d,u];rfl) ?_;refine St.own h Za Za U λw h=>?_;refine St.own h Za Za U λw h=>?_;rw[ae Za,ae Za];refine⟨⟨k+1,Za,Za,Za,?_⟩,by first|omega|(dsimp only;omega)⟩;rw[n,Zl]at h;have v:(((qP l k).map vB).set k (.int .u8 (l.getD (l.length-1-k) 0:H))).set (l.length-1-k) (.int .u8 (l.getD k 0:H))=(qP l (k+1)).map vB:=by{rw[←RT Za,Xu,Xu];rfl};rw[v]at h;exact h};rw[aa8 Za]at h;exact f _ h
end
end
section
open Go Go.Vc Go.Hd
section
variable{E w:G}{F:Q HP}
theorem adL{n:I}{K:Sl→H→G→Prop}(h:Hp E w F)(k:n≤65536)(o:∀s w',Hp E w' (ao 1 s ((fS n).map vB)::F)→K s 0 w'):Cl Zf [kS,kI] 270 ⟨[.int .i64 (n:H)]⟩ w K:=by refine NO.ok _ _ _ ?_;refine aa.df Za (aa.df Za ?_);have v:YO .i64=9223372036854775807:=U;have a:∀m:I,m≤65536→cd .i64 (m:H) 127=((m%128:I):H):=λm h=>by{rw[show(127:H)=((127:I):H)from U,fI Za Za,show(127:I)=2^7-1 from U,XD]};have c:∀m:I,aG .i64 (m:H) 7=((m/128:I):H):=λm=>by{rw[show(7:H)=((7:I):H)from U,cr Zb]};rw[a n k,j8 Za];refine Nw.mk h λp w h=>?_;refine aS (s:=⟨Z,0,0⟩) (ys:=[vB (n%128)]) (n:=1) tq Zb (.inl ⟨5,Zc⟩) (h.aQ 1) (.inl ⟨O ⟨p,0,Z⟩,1,1,U,U,h.an (ad.aw U U)⟩) U IE Zb Zb λs w h _=>?_;refine⟨Zb,?_⟩;rw[c];refine⟨λx s w'=>∃(m:I)(l:Q I),x=(m:H)∧m≤512∧l.length+m≤513∧qL m++l.reverse=fS n∧Hp E w' (ao 1 s (l.map vB)::F),λx _ _=>x.toNat,⟨n/128,[n%128],U,Za,by simp;omega,U,h.p1.drop⟩,?_⟩;rintro x s w ⟨m,l,rfl,hm5,hl,hv,h⟩;refine aa.dm (λq=>?_) λr=>?_;{have d:0<m:=by{omega};have f:ic .u8 ((m%128:I):H) 128=((128+m%128:I):H):=by{have t:YO .u8=255:=U;have e:=YV (i:=7) (b:=m%128) Za 1;have u:m%128|||128=128+m%128:=by{rw[I.or_comm];exact e.symm};rw[show(128:H)=((128:I):H)from U,ly Za Za Ze,u]};rw[a m Za,j8 Za,f];have g:=h.aP;rw[Zq,ZB]at g;refine Nw.mk h λj w h=>?_;refine aS (ys:=[vB (128+m%128)]) (n:=1) tq Zb (.inl ⟨5,Zc⟩) h.p1 (.inl ⟨O ⟨j,0,Z⟩,1,1,U,U,h.an (ad.aw U U)⟩) U IE Za Za λs w h _=>?_;refine⟨Zb,?_⟩;rw[c];refine⟨⟨m/128,l++[128+m%128],U,Za,by rw[Zg,ZP];omega,?_,by rw[ZD];exact h.p1.drop⟩,by first|omega|(dsimp only;omega)⟩;rw[Q.reverse_append,←hv,oN d];simp};have d:m=0:=Za;subst d;rw[mF,ZT]at hv;refine Oy h (by rw[aJ];omega) λw h=>o s w ?_;rw[hv]at h;exact h
end
end
section
open Go Go.Vc
set_option maxRecDepth 100000
def TG.ok(a:H)(b:Sl)(R:H→G→Prop) w(h:Cl Pg [(.arr 256)] 149 ⟨[]⟩ w λd c=>Nw 246 ⟨Zi 256 (.int .u32 0)⟩ c λf e=>aA 256 ⟨f,0,Z⟩ d e λg=>de (jR .u32 (if Wc.signed .u32 then-1 else YO .u32) a) 0 g λh i(j:H)(k:H) l=>aa (K (k<(b.len:H))) (ax b k 1 λm=>Ld kS m l λ(n:Sl)=>de j 0 l λo p(q:H)(r:H) s=>aa (K (r<(n.len:H))) (ax n r 1 λt=>Ld (au .u8) t s λ(u:H)=>aH ⟨f,0,Z⟩ 256 (jR .u8 (u8 q) u) 1 λv=>Ld (au .u32) v s λ(x:H)=>0≤(8:H)∧o (jR .u32 x (aG .u32 q (8:H))) (i64 (r+1)) s∧p (jR .u32 x (aG .u32 q (8:H))) (i64 (r+1)) s<p q r s) (h q (i64 (k+1)) s∧i q (i64 (k+1)) s<i j k l)) (R (jR .u32 (if Wc.signed .u32 then-1 else YO .u32) j) l)):Cl Pg [(au .u32)] 95 ⟨[(.int .u32 a),(ag b)]⟩ w R:=co Tryz.f95 [(9,[(0,(au .u32)),(15,kI)]),(18,[(0,(au .u32)),(21,kI)])] h
def OT.ok(R:(XU XQ)→G→Prop) w(h:Nw 246 ⟨Zi 256 (.int .u32 0)⟩ w λb a=>ec 0 a λc d(e:H) f=>aa (K (e<256)) (Cl Pg [(au .u32)] 219 ⟨[(.int .u8 (u8 e))]⟩ f λ(h:H) g=>aH ⟨b,0,Z⟩ 256 e 1 λi=>St i (.int .u32 h) g λj=>c (i64 (e+1)) j∧d (i64 (e+1)) j<d e f) (Ld (.arr 256) ⟨b,0,Z⟩ f λk=>aA 256 ⟨b,0,Z⟩ k f λl=>Ld (.arr 256) ⟨b,0,Z⟩ l λm=>R m l)):Cl Pg [(.arr 256)] 149 ⟨[]⟩ w R:=co Tryz.f149 [(5,[(2,kI)])] h
def aan.ok(a:H)(R:Sl→G→Prop) w(h:Nw 316 ⟨[(.int .u8 0),(.int .u8 0),(.int .u8 0),(.int .u8 0)]⟩ w λc b=>ec 0 b λd e(f:H) g=>aa (K (f<4)) (0≤(i64 ((24:H)-(i64 ((8:H)*f))))∧aH ⟨c,0,Z⟩ 4 f 1 λh=>St h (.int .u8 (u8 (aG .u32 a (i64 ((24:H)-(i64 ((8:H)*f))))))) g λi=>d (i64 (f+1)) i∧e (i64 (f+1)) i<e f g) (bV (⟨O ⟨c,0,Z⟩,4,4⟩:Sl) 0 4 4 1 λj=>R j g)):Cl Pg [kS] 151 ⟨[(.int .u32 a)]⟩ w R:=co Tryz.f151 [(7,[(5,kI)])] h
def aaC.ok(a:H)(R:H→G→Prop) w(h:de (u32 a) 0 w λb c(d:H)(e:H) f=>aa (K (e<8)) (0≤(1:H)∧b (jR .u32 (aG .u32 d (1:H)) (u32 ((3988292384:H)*(cd .u32 d 1)))) (i64 (e+1)) f∧c (jR .u32 (aG .u32 d (1:H)) (u32 ((3988292384:H)*(cd .u32 d 1)))) (i64 (e+1)) f<c d e f) (R d f)):Cl Pg [(au .u32)] 219 ⟨[(.int .u8 a)]⟩ w R:=co Tryz.f219 [(7,[(3,(au .u32)),(6,kI)])] h
end
end Go.Proofs.Q9
namespace Go.Crc
section
def T3(c:I):(c/2)^^^(3988292384*(c%2))=half c:=by unfold half;(rcases I.mod_two_eq_zero_or_one c with e|e);{rw[e];rfl};rw[e];rfl
def gO:I→I→I|0,c=>c|k+1,c=>half (gO k c)
def DT:∀(k c:I),c<4294967296→gO k c<4294967296|0,_,h=>h|k+1,c,h=>jc (DT k c h)
end
end Go.Crc
namespace Go.Proofs.Q9
section
open Go Go.Vc Go.Crc
section
variable{E w:G}{F:Q HP}
theorem ab0{b:I}{K:H→G→Prop}(d:b<256)(e:K (row b:H) w):Cl Zf [au .u32] 219 ⟨[.int .u8 (b:H)]⟩ w K:=by refine aaC.ok _ _ _ ?_;refine⟨λc i w'=>w'=w∧∃k:I,i=(k:H)∧k≤8∧c=(gO k b:H),λ_ i _=>8-i.toNat,⟨U,0,U,Za,by rw[jI Za];rfl⟩,?_⟩;rintro c i w' ⟨rfl,k,rfl,hk,rfl⟩;refine aa.dm (λa=>?_) λf=>?_;{have a:k<8:=by{omega};have d:=DT k b Za;have n:YO .u32=4294967295:=U;have o:=jc d;have g:aG .u32 (gO k b:H) 1=((gO k b/2:I):H):=by{rw[show(1:H)=((1:I):H)from U,cr Zb]};have h:cd .u32 (gO k b:H) 1=((gO k b%2:I):H):=by{rw[show(1:H)=((1:I):H)from U,fI Za Za,I.and_one_is_mod]};have j:u32 ((3988292384:H)*((gO k b%2:I):H))=((3988292384*(gO k b%2):I):H):=by{rw[jI Za];omega};have l:jR .u32 ((gO k b/2:I):H) ((3988292384*(gO k b%2):I):H)=(gO (k+1) b:H):=by{have m:=T3 (gO k b);rw[ui Za Za Ze,m];rfl};rw[g,h,j,l,ae Za];exact⟨Zb,⟨U,k+1,U,Za,U⟩,by dsimp only;omega⟩};have:k=8:=Za;subst this;exact e
def gB:Q I:=(Zs 256).map row
theorem pd:gB.length=256:=by unfold gB;simp
theorem GX{b:I}(h:b<256):gB[b]?=O (row b):=by unfold gB;rw[Z0,Yx h];rfl
abbrev kG(l:Q I):Q XQ:=l.map λ(n:I)=>Yw .u32 (n:H)
theorem Cr{l:Q I}:(kG l).all aC=J:=by unfold kG;rw[Q.all_map];exact List.all_eq_true.2 λ_ _=>rfl
theorem aci{K:XU XQ→G→Prop}(h:Hp E w F)(f:∀w',Hp E w' F→K ⟨kG gB⟩ w'):Cl Zf [.arr 256] 149 ⟨[]⟩ w K:=by refine OT.ok _ _ ?_;refine Nw.mk h λg w h=>?_;have b:∀k,k≤256→(kG (gB.take k++Zi (256-k) 0)).length=256:=λk j=>by{simp[pd];omega};refine⟨λi w'=>∃k:I,i=(k:H)∧k≤256∧Hp E w' (ah g (.cells ⟨kG (gB.take k++Zi (256-k) 0)⟩ 246 (0,0))::F),λi _=>256-i.toNat,⟨0,U,Za,by have:(⟨kG (gB.take 0++Zi (256-0) 0)⟩:XU XQ)=⟨Zi 256 (.int .u32 0)⟩:=by{simp};rw[this];exact h⟩,?_⟩;rintro i w ⟨k,rfl,j,h⟩;refine aa.dm (λa=>?_) λl=>?_;{have a:k<256:=by{omega};rw[j8 Za];refine ab0 a ?_;refine⟨Za,Za,?_⟩;rw[show((k:H)).toNat*1=k by omega];simp only[aj,Zj];have n:=b k Za;refine St.xb h (by show k<(kG (gB.take k++Zi (256-k) 0)).length;omega) U λw h=>?_;rw[ae Za];refine⟨⟨k+1,U,Za,?_⟩,by first|omega|(dsimp only;omega)⟩;have e:(⟨kG (gB.take k++Zi (256-k) 0)⟩:XU XQ).setIfInBounds k (.int .u32 (row k:H))=⟨kG (gB.take (k+1)++Zi (256-(k+1)) 0)⟩:=by{apply Xr;rw[Yo];have:(kG (gB.take k++Zi (256-k) 0)).set k (.int .u32 (row k:H))=kG ((gB.take k++Zi (256-k) 0).set k (row k)):=by{rw[kG,kG,Xu]};have o:(gB.take k).length=k:=by{rw[Zz,pd];omega};rw[this,Q.set_append_right _ _ Za,o,Xo];obtain⟨m,p⟩:∃m,256-k=m+1:=⟨255-k,Za⟩;rw[p,Q.replicate_succ,Q.set_cons_zero,ZE,GX a,show 256-(k+1)=m by omega];simp};rw[e]at h;exact h};have d:k=256:=Za;subst d;have e:(⟨kG (gB.take 256++Zi (256-256) 0)⟩:XU XQ)=⟨kG gB⟩:=by{rw[Zv (by rw[pd];omega)];simp};rw[e]at h;have c:(⟨kG gB⟩:XU XQ).size=256:=by{simp[pd]};refine Ld.xw h c ?_;refine aA.q h c c Cr λw h=>?_;exact Ld.xw h c (f _ h.tl)
theorem aem:(if Wc.signed .u32 then(-1:H)else YO .u32)=((4294967295:I):H):=U
theorem Ut{c:I}(h:c<4294967296):jR .u32 (if Wc.signed .u32 then(-1:H)else YO .u32) (c:H)=((c^^^4294967295:I):H):=by have a:YO .u32=4294967295:=U;have b:4294967295^^^c<2^32:=Xj Zb Za;rw[aem,ui Za Za Za,I.xor_comm]
theorem Ta{c x:I}(a:c<4294967296)(b:x<256):jR .u8 (u8 (c:H)) (x:H)=((c%256^^^x:I):H):=by have d:YO .u8=255:=U;have e:c%256^^^x<2^8:=Xj Za Za;rw[xE,show((c:H)%256)=((c%256:I):H) by omega,ui Za Za Za]
theorem CZ{c x:I}(a:x<256):c%256^^^x<256:=by have:c%256^^^x<2^8:=Xj Za Za;omega
theorem Qc{c x:I}(b:c<4294967296)(a:x<256):jR .u32 (row (c%256^^^x):H) (aG .u32 (c:H) 8)=(Crc.step c x:H):=by have e:YO .u32=4294967295:=U;have f:=OP (c:=c%256^^^x) (by have:=CZ (c:=c) a;omega);have d:=MA b a;unfold Crc.step at d⊢;rw[show(8:H)=((8:I):H)from U,cr Zb,show(2:I)^8=256 from U,ui Za Za Za]
end
end
section
open Go Go.Vc Go.Bits
section
variable{E w:G}{F:Q HP}
theorem Pt{a:Q (Q I)}{k:I}(h:k<a.length):(a.take (k+1)).flatten=(a.take k).flatten++a.getD k []:=by rw[ZE,XC];congr 1;simp[h]
theorem aee{b:I}(h:b<256):(⟨kG gB⟩:XU XQ)[b]?=O (Sc.enc (.int .u32) (Crc.row b:H)):=by rw[Q.getElem?_toArray,kG,Z0,GX h];rfl
theorem Db{c:I}{K:H→G→Prop}{s:Sl}{cs:Q Sl}{bs:Q (Q I)}(h:Hp E w F)(u:c<4294967296)(R:ad F (aD 1 s (cs.map λx=>.slice x.base x.len x.cap)))(hl:cs.length=bs.length)(D:cs.length≤cJ)(Y:∀i(h:i<cs.length),ad F (aD 1 cs[i] ((bs.getD i []).map vB)))(g:∀b∈bs,∀y∈b,y<256)(v:∀b∈bs,b.length≤cJ)(hK:∀w',Hp E w' F→K ((Crc.feed (c^^^4294967295) bs.flatten^^^4294967295:I):H) w'):Cl Zf [au .u32] 95 ⟨[.int .u32 (c:H),.slice s.base s.len s.cap]⟩ w K:=by refine TG.ok _ _ _ _ ?_;have S:s.len=cs.length:=by{have:=(h.an R).1;simpa using this.symm};have l:∀y∈bs.flatten,y<256:=λy a=>by{obtain⟨b,m,o⟩:=List.mem_flatten.1 a;exact g b m y o};have z:c^^^4294967295<4294967296:=Xj (n:=32) u Zb;rw[aJ]at D;refine aci h λw h=>Nw.mk h λT w h=>?_;have hn:(⟨kG gB⟩:XU XQ).size=256:=by{simp[pd]};refine aA.q h Zd hn Cr λw h=>?_;rw[Ut u];refine⟨λx i w'=>∃k:I,i=(k:H)∧k≤cs.length∧x=(Crc.feed (c^^^4294967295) (bs.take k).flatten:H)∧Hp E w' (ah T (.cells ⟨kG gB⟩ 246 (0,0))::F),λ_ i _=>cs.length-i.toNat,⟨0,U,Za,U,h⟩,?_⟩;rintro x i w ⟨k,rfl,hk,rfl,h⟩;refine aa.dm (λA=>?_) λhge=>?_;{have A:k<cs.length:=by{omega};have p:k<bs.length:=by{omega};refine ax.rd (h.tl.an R) Za Za λq hi L=>?_;have M:w.cell? q=O (Sc.sl.enc cs[k]):=by{simpa using L};refine Ld.sc _ M ?_;have B:bs.getD k []=bs[k]:=by{rw[Zn,Zh p];rfl};have r:=Y k A;rw[B]at r;have f:=Zu p;have t:=v _ f;rw[aJ]at t;have N:=(h.tl.an r).1;simp only[Zq,ZB]at N;refine⟨λx i w'=>∃j:I,i=(j:H)∧j≤bs[k].length∧x=(Crc.feed (c^^^4294967295) ((bs.take k).flatten++bs[k].take j):H)∧Hp E w' (ah T (.cells ⟨kG gB⟩ 246 (0,0))::F),λ_ i _=>bs[k].length-i.toNat,⟨0,U,Za,Zd,h⟩,?_⟩;rintro x i w ⟨j,rfl,hj,rfl,h⟩;have C:∀y∈(bs.take k).flatten++bs[k].take j,y<256:=λy a=>by{(rcases List.mem_append.1 a with a|a);{obtain⟨b,m,o⟩:=List.mem_flatten.1 a;exact g b (Yl m) y o};grind};have d:=Crc.xG _ _ z C;refine aa.dm (λW=>?_) λX=>?_;{have e:j<bs[k].length:=by{omega};have a:=g _ f _ (Zu e);refine ax.rd (h.tl.an r) Za Za λq hi L=>?_;refine Ld.sc (s:=.int .u8) (bs[k][j]:H) (by simpa[vB]using L) ?_;rw[Ta d a];refine aH.rd (s:=.int .u32) h Za (by have:=CZ (c:=Crc.feed (c^^^4294967295) ((bs.take k).flatten++bs[k].take j)) a;omega) (Crc.row (Crc.feed (c^^^4294967295) ((bs.take k).flatten++bs[k].take j)%256^^^bs[k][j]):H) ?_ ?_;{rw[Zl];exact aee (CZ (c:=Crc.feed (c^^^4294967295) ((bs.take k).flatten++bs[k].take j)) a)};rw[Qc d a,ae Za];refine⟨Zb,⟨j+1,U,Za,?_,h⟩,by first|omega|(dsimp only;omega)⟩;rw[ZE,Zh e,←Zm,Crc.IN ((bs.take k).flatten++bs[k].take j)];rfl};have e:j=bs[k].length:=by{omega};subst e;rw[ae Za,Ye];exact⟨⟨k+1,U,Za,by rw[Pt p,B],h⟩,by first|omega|(dsimp only;omega)⟩};have P:k=bs.length:=Za;subst P;rw[Ye];have d:=Crc.xG _ _ z l;rw[Ut d];exact hK _ h.tl
theorem aar{c k:I}(a:k<4):(Hd.gH c)[k]?=O (c/2^(24-8*k)%256):=by match k,a with|0,_=>rfl|1,_=>rfl|2,_=>rfl|3,_=>simp[Hd.gH]
theorem OE{c:I}{K:Sl→G→Prop}(h:Hp E w F)(t:c<4294967296)(f:∀s w',Hp E w' (ao 1 s ((Hd.gH c).map vB)::F)→K s w'):Cl Zf [kS] 151 ⟨[.int .u32 (c:H)]⟩ w K:=by refine aan.ok _ _ _ ?_;refine Nw.mk h λg w h=>?_;have a:∀k,k≤4→(((Hd.gH c).take k++Zi (4-k) 0).map vB).length=4:=λk j=>by{rw[Zq,Zg,Zz,ZY,show(Hd.gH c).length=4 from U];omega};refine⟨λi w'=>∃k:I,i=(k:H)∧k≤4∧Hp E w' (ah g (.cells ⟨((Hd.gH c).take k++Zi (4-k) 0).map vB⟩ 316 (0,0))::F),λi _=>4-i.toNat,⟨0,U,Za,h⟩,?_⟩;rintro i w ⟨k,rfl,j,h⟩;refine aa.dm (λb=>?_) λl=>?_;{have b:k<4:=by{omega};rw[ae (x:=(8:H)*(k:H)) Za,ae Za,show(24:H)-8*(k:H)=((24-8*k:I):H) by omega,cr (by have:Wc.bits .u32=32:=U;omega),xE,ae Za];refine⟨Za,Za,Za,?_⟩;rw[show((k:H)).toNat*1=k by omega];simp only[aj,Zj];have o:=a k Za;refine St.xb h Ze U λw h=>?_;refine⟨⟨k+1,U,Za,?_⟩,by first|omega|(dsimp only;omega)⟩;have e:(⟨((Hd.gH c).take k++Zi (4-k) 0).map vB⟩:XU XQ).setIfInBounds k (.int .u8 (((c/2^(24-8*k):I):H)%256))=⟨((Hd.gH c).take (k+1)++Zi (4-(k+1)) 0).map vB⟩:=by{apply Xr;rw[Yo];have p:(Yw .u8 (((c/2^(24-8*k):I):H)%256))=vB (c/2^(24-8*k)%256):=by{unfold vB;congr 1};have q:((Hd.gH c).take k).length=k:=by{rw[Zz,show(Hd.gH c).length=4 from U];omega};obtain⟨m,r⟩:∃m,4-k=m+1:=⟨3-k,Za⟩;show(((Hd.gH c).take k++Zi (4-k) 0).map vB).set k _=_;rw[p,←Xu,Q.set_append_right _ _ Za,q,Xo,r,Q.replicate_succ,Q.set_cons_zero,ZE,aar b,show 4-(k+1)=m by omega];simp};rw[e]at h;exact h};have d:k=4:=Za;subst d;rw[Zv (Zx 4:(Hd.gH c).length≤4),Xo,Q.replicate_zero,ZF]at h;refine bV.whole Zb U U ?_;refine f _ w (h.pz (n:=4) (sz:=1) U)
end
end
end Go.Proofs.Q9
end
