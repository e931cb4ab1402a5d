/- Texts packed together by program; spaces struck by program. Conditions: as each theorem states. -/
import Derived.MapKept
import Derived.Test.YtdpadhpcgkjdiaaGreatDoorQwb
set_option linter.all false
set_option maxRecDepth 20000
open _root_ renaming Array→Xi,Array.replicate→YW,Array.toList_setIfInBounds→Yq,Bool→Xg,Bool.and_eq_true→ZK,Bool.eq_iff_iff→Yu,Bool.false→J,Bool.or_eq_true→YD,Bool.true→O,ByteArray→Xl,ByteArray.mk→ZC,Decidable.decide→K,Decidable.decide→XE,DecidableEq→XP,Go.Addr→Xr,Go.Addr.add→Zp,Go.Builtin→Xz,Go.Builtin.append_→ZH,Go.Instr.fill→YL,Go.Instr.lookup→Yp,Go.Instr.makeMap→Ya,Go.Instr.mapUpdate→Zi,Go.IntKind→Xy,Go.IntKind.max→YN,Go.Op.equalIn→Yo,Go.Oper→XC,Go.Program→Xk,Go.Proofs.Tryz.prog→Zf,Go.Region.ready→Z1,Go.Result.andThen_ok→Z7,Go.Sem.run_bind→Yc,Go.TypeId→Xn,Go.Value→Xe,Go.Value.int→Yy,Go.World→G,Go.World→Xx,Go.convert→XH,Go.run_underlying→Xs,Go.undef→Xv,Go.zeroValue→XG,Int→H,Int.toNat_natCast→Zn,List→Q,List→XF,List.append_assoc→Zm,List.append_nil→ZG,List.cons_append→ZO,List.drop_drop→Yr,List.drop_eq_getElem_cons→ZA,List.drop_of_length_le→ZZ,List.drop_zero→Yn,List.ext_getElem→YS,List.ext_getElem?→YV,List.flatMap_cons→Z6,List.flatten_cons→Yf,List.getD→YH,List.getD_eq_getElem?_getD→Zo,List.getElem?_append_left→ZR,List.getElem?_append_right→ZM,List.getElem?_eq_getElem→Zh,List.getElem?_eq_none→Ye,List.getElem?_map→Z0,List.getElem?_range→Yz,List.getElem_cons_succ→Xb,List.getElem_cons_zero→Z5,List.getElem_mem→Zu,List.getElem_of_mem→ZY,List.getElem_take→YU,List.length→Z8,List.length_append→Zg,List.length_cons→Zk,List.length_drop→ZD,List.length_map→Zq,List.length_nil→Zs,List.length_range→YM,List.length_replicate→ZX,List.length_reverse→Z3,List.length_singleton→ZL,List.length_take→Zz,List.map_append→ZF,List.map_congr_left→Z2,List.map_cons→ZP,List.map_map→YK,List.map_nil→YF,List.mem_append→YQ,List.mem_cons→YT,List.mem_cons_of_mem→Zv,List.mem_cons_self→ZJ,List.mem_of_getElem?→Y5,List.mem_of_mem_drop→YJ,List.mem_of_mem_take→Yi,List.mem_singleton→ZI,List.nil_append→ZU,List.perm_append_comm→ZW,List.perm_middle→Y8,List.range→Zt,List.range_succ→YP,List.replicate→Zj,List.sum_append→YO,List.take_add_one→ZB,List.take_append_drop→Zw,List.take_length→ZQ,List.take_of_length_le→Zx,List.take_succ_cons→Yh,List.take_zero→Y4,Min.min→XO,Nat→I,Nat→XM,Nat.add_assoc→Yw,Nat.add_mul→YY,Nat.add_zero→Zr,Nat.beq→Y3,Nat.div_eq_of_lt→Y9,Nat.eq_of_beq_eq_true→Yj,Nat.eq_zero_or_pos→Z9,Nat.le_of_ble_eq_true→Y7,Nat.le_refl→Zy,Nat.le_trans→Yl,Nat.lt_or_ge→Yg,Nat.min_eq_left→Y0,Nat.mod_eq_of_lt→YR,Nat.mul_comm→Yk,Nat.mul_le_mul_right→ZS,Nat.mul_one→ZE,Nat.pow_le_pow_right→ZV,Nat.pow_succ→YC,Nat.reduceAdd→Z4,Nat.strongRecOn→ZT,Nat.sub_zero→YZ,Nat.succ_mul→Yb,Nat.two_pow_add_eq_or_of_lt→YX,Nat.two_pow_pos→Ym,Nat.zero_add→Zl,Nat.zero_le→Yd,Option→Xj,Option.getD_some→YE,Option.isNone→ZN,Option.map_some→YA,Option.none→U,Option.some→V,Prod→XQ,Pure.pure→XD,absurd→Xu,beq_iff_eq→XB,congrArg→Xp,decide_eq_false→Xq,decide_eq_true→Xt,decide_eq_true_eq→XA,decide_eq_true_iff→XL,if_neg→Xf,if_pos→Xh,of_decide_eq_false→Xm,of_decide_eq_true→Xo,rfl→Z
noncomputable section
namespace Go.Hd
section
open Go.Inc
def qZ(n:I):Q I:=if _h:n=0 then[]else qZ (n/128)++[128+n%128]
termination_by n
decreasing_by omega
def gu(n:I):Q I:=qZ (n/128)++[n%128]
def nj:qZ 0=[]:=by rw[qZ];simp
def pw{n:I}(h:0<n):qZ n=qZ (n/128)++[128+n%128]:=by rw[qZ,dif_neg Za]
def ads(n:I):∀x∈qZ n,x<256:=by induction n using ZT with|ind n b=>(rcases Z9 n with e|e);{rw[e,nj];simp};{rw[pw e];intro x a;(rcases List.mem_append.1 a with h|h);{grind};{grind}}
def IV(n:I):∀x∈gu n,x<256:=by intro x a;(rcases List.mem_append.1 a with h|h);{exact ads _ x h};{grind}
def grow(a v c:I):Xj (I×Xg):=if v=0∧c=128 then U else if 128*v+c%128≤a∧(c<128→0<128*v+c%128)then V (128*v+c%128,K (c<128))else U
def CU{a n:I}(b:0<n)(h:n≤a):grow a (n/128) (128+n%128)=V (n,J):=by unfold grow;have e:128*(n/128)+(128+n%128)%128=n:=Za;rw[Xf Za,e,Xh ⟨h,λ_=>b⟩,Xq Za]
def grow_end{a n:I}(b:0<n)(h:n≤a):grow a (n/128) (n%128)=V (n,O):=by unfold grow;have e:128*(n/128)+n%128%128=n:=Za;rw[Xf Za,e,Xh ⟨h,λ_=>b⟩,Xt Za]
def iF{a v c n:I}{d:Xg}(b:c<256)(h:grow a v c=V (n,d)):n≤a∧0<n∧n=128*v+c%128∧d=K (c<128):=by unfold grow at h;split at h;{cases h};{grind}
structure HS where
 at_:Nat
 v:Nat
deriving DecidableEq
def DE(i:I):I:=if i=0 then 0x57 else if i=1 then 0x50 else 1
def bZ(s:HS)(c:I):xP HS I I:=if s.at_<3 then if c=DE s.at_ then .more ⟨s.at_+1,0⟩else .bad (if s.at_=2 then 241 else 240)else match grow 65536 s.v c with|none=>.bad 242|some (n,true)=>.fin n|some (n,false)=>.more ⟨3,n⟩
def pY(n:I):Q I:=[0x57,0x50,1]++gu n
def ae0{n:I}(h:n≤65536):run bZ ⟨3,0⟩ (qZ n)=.short ⟨3,n⟩:=by induction n using ZT with|ind n a=>(rcases Z9 n with e|e);{rw[e,nj];rfl};{rw[pw e,me (a (n/128) Za Za)];refine dZ ?_;simp only[bZ];rw[Xf Zb,CU e h]}
def QD{n:I}(a:0<n)(h:n≤65536)(r:Q I):run bZ ⟨0,0⟩ (pY n++r)=.fin n r:=by unfold pY gu;rw[Zm,Zm];show run bZ ⟨3,0⟩ (qZ (n/128)++([n%128]++r))=_;rw[me (ae0 Za)];refine DQ ?_;simp only[bZ];rw[Xf Zb,grow_end a h]
structure MS where
 at_:Nat
 v:Nat
 M:Nat
 P:Nat
 sum:Nat
 many:Nat
deriving DecidableEq
inductive Mk where
 |ax (M P sum:Nat)|tail (sum:Nat)
deriving DecidableEq
def eA:MS:=⟨0,0,0,0,0,0⟩
def aS(n:I)(s:MS)(c:I):xP MS Mk I:=if s.at_=0 then if c=0 then .more ⟨5,0,0,0,0,0⟩else if c=1 then .more ⟨1,0,0,0,0,0⟩else .bad 242 else if s.at_=1 then match grow n s.v c with|none=>.bad 242|some (m,true)=>.more ⟨2,0,m,0,0,0⟩|some (m,false)=>.more ⟨1,m,0,0,0,0⟩else if s.at_=2 then match grow s.M s.v c with|none=>.bad 242|some (p,true)=>.more ⟨3,0,s.M,p,0,0⟩|some (p,false)=>.more ⟨2,p,s.M,0,0,0⟩else if s.many=3 then if s.at_=3 then .fin (.ax s.M s.P (256*s.sum+c))else .fin (.tail (256*s.sum+c))else .more {s with sum:=256*s.sum+c,many:=s.many+1}
def ik(s:I):Q I:=[s/16777216%256,s/65536%256,s/256%256,s%256]
def UN(s:I):∀x∈ik s,x<256:=by intro x a;simp[ik]at a;omega
def lz(M P a:I):Q I:=1::(gu M++gu P++ik a)
def iE(a:I):Q I:=0::ik a
def adM{n v:I}(h:v≤n):run (aS n) ⟨1,0,0,0,0,0⟩ (qZ v)=.short ⟨1,v,0,0,0,0⟩:=by induction v using ZT with|ind v a=>(rcases Z9 v with e|e);{rw[e,nj];rfl};{rw[pw e,me (a (v/128) Za Za)];refine dZ ?_;simp only[aS];rw[Xf Zb,Xh trivial,CU e h]}
def adO{n M v:I}(h:v≤M):run (aS n) ⟨2,0,M,0,0,0⟩ (qZ v)=.short ⟨2,v,M,0,0,0⟩:=by induction v using ZT with|ind v a=>(rcases Z9 v with e|e);{rw[e,nj];rfl};{rw[pw e,me (a (v/128) Za Za)];refine dZ ?_;simp only[aS];rw[Xf Zb,Xf Zb,Xh trivial,CU e h]}
def aaH{n M:I}(a:0<M)(h:M≤n)(r:Q I):run (aS n) ⟨1,0,0,0,0,0⟩ (gu M++r)=run (aS n) ⟨2,0,M,0,0,0⟩ r:=by unfold gu;rw[Zm,me (adM Za)];refine dZ ?_;simp only[aS];rw[Xf Zb,Xh trivial,grow_end a h]
def aa5{n M P:I}(a:0<P)(h:P≤M)(r:Q I):run (aS n) ⟨2,0,M,0,0,0⟩ (gu P++r)=run (aS n) ⟨3,0,M,P,0,0⟩ r:=by unfold gu;rw[Zm,me (adO Za)];refine dZ ?_;simp only[aS];rw[Xf Zb,Xf Zb,Xh trivial,grow_end a h]
def QT{s:I}(h:s<4294967296):256*(256*(256*(256*0+s/16777216%256)+s/65536%256)+s/256%256)+s%256=s:=Za
def aaf{n M P s:I}(h:s<4294967296)(r:Q I):run (aS n) ⟨3,0,M,P,0,0⟩ (ik s++r)=.fin (.ax M P s) r:=by show Ran.fin (Mk.ax M P (256*(256*(256*(256*0+s/16777216%256)+s/65536%256)+s/256%256)+s%256)) r=_;rw[QT h]
def aca{n s:I}(h:s<4294967296)(r:Q I):run (aS n) ⟨5,0,0,0,0,0⟩ (ik s++r)=.fin (.tail s) r:=by show Ran.fin (Mk.tail (256*(256*(256*(256*0+s/16777216%256)+s/65536%256)+s/256%256)+s%256)) r=_;rw[QT h]
def wC{n M P s:I}(a:0<M)(b:M≤n)(c:0<P)(d:P≤M)(e:s<4294967296)(r:Q I):run (aS n) eA (lz M P s++r)=.fin (.ax M P s) r:=by show run (aS n) ⟨1,0,0,0,0,0⟩ (gu M++gu P++ik s++r)=_;rw[Zm,Zm,aaH a b,aa5 c d,aaf e]
def EG{n s:I}(a:s<4294967296)(r:Q I):run (aS n) eA (iE s++r)=.fin (.tail s) r:=by show run (aS n) ⟨5,0,0,0,0,0⟩ (ik s++r)=_;rw[aca a]
end
end Go.Hd
namespace Go.Vc
section
open Go
structure mB (P:Xk) {α:Type} [XP α] (kt:Xn) (ke:α→Xe):Prop where
 und:∃d,P.underlying kt=V d∧∀a b,Instr.sameNow d (ke a) (ke b)=U∨Instr.sameNow d (ke a) (ke b)=V (K (a=b))
 check:∀e a w,(Instr.checkKey e 10000 kt (ke a)).run P w=.ok () w
 eq:∀a b w,(Op.equal kt (ke a) (ke b)).run P w=.ok (K (a=b)) w
 same:∀a,Instr.sameBits 10000 (ke a) (ke a)=O
section
variable{P:Xk}{α β:Type}[XP α]{ke:α→Xe}{ve:β→Xe}{kt:Xn}
def ir(ke:α→Xe)(ve:β→Xe)(a:Q MapEntry)(l:Q (α×β)):Prop:=a.map (λe=>(e.key,e.val))=l.map λp=>(ke p.1,ve p.2)
def findAt(a:α):Q (α×β)→I→Xj (I×β)|[],_=>U|p::l,i=>if a=p.1 then V (i,p.2)else findAt a l (i+1)
theorem qY{e:MapEntry}{b:Q MapEntry}{l:Q (α×β)}(h:ir ke ve (e::b) l):∃p a,l=p::a∧e.key=ke p.1∧e.val=ve p.2∧ir ke ve b a:=by unfold ir at h;cases l with|nil=>simp at h|cons p a=>simp only[ZP,Q.cons.injEq,XQ.mk.injEq]at h;exact⟨p,a,Z,h.1.1,h.1.2,h.2⟩
theorem A8(c:mB P kt ke)(a:α)(w:G):∀(b:Q MapEntry)(l:Q (α×β))(i:I),ir ke ve b l→(Instr.findAsking kt (ke a) b i).run P w=.ok ((findAt a l i).map λq=>(q.1,ve q.2)) w|[],l,i,h=>by have:l=[]:=by{unfold ir at h;cases l<;>simp at h⊢};subst this;simp[Instr.findAsking,findAt]|e::b,l,i,h=>by obtain⟨p,d,rfl,f,g,j⟩:=qY h;simp only[Instr.findAsking,Yc,f,c.eq,Z7,findAt];by_cases hq:a=p.1;{simp[hq,g]};{simp[hq,A8 c a w b d (i+1) j]}
theorem OQ{d:TypeDesc}(g:∀a b,Instr.sameNow d (ke a) (ke b)=U∨Instr.sameNow d (ke a) (ke b)=V (K (a=b)))(a:α):∀(c:Q MapEntry)(l:Q (α×β))(i:I),ir ke ve c l→Instr.findNow d (ke a) c i=U∨Instr.findNow d (ke a) c i=V ((findAt a l i).map λq=>(q.1,ve q.2))|[],l,i,h=>by have:l=[]:=by{unfold ir at h;cases l<;>simp at h⊢};subst this;exact .inr rfl|e::c,l,i,h=>by obtain⟨p,j,rfl,k,n,o⟩:=qY h;unfold Instr.findNow;rw[k];(rcases g a p.1 with f|f);{rw[f];exact .inl rfl};{rw[f];by_cases hq:a=p.1;{right;simp[findAt,hq,n]};{simp only[hq,decide_false,findAt,if_false];exact OQ g a c j (i+1) o}}
theorem rT(e:mB P kt ke)(a:α)(w:G)(b:Q MapEntry)(l:Q (α×β))(h:ir ke ve b l):(Instr.findKey kt (ke a) b).run P w=.ok ((findAt a l 0).map λq=>(q.1,ve q.2)) w:=by obtain⟨d,f,g⟩:=e.und;simp only[Instr.findKey,Yc,Xs f,Z7];(rcases OQ (ve:=ve) g a b l 0 h with c|c);{rw[c];exact A8 e a w b l 0 h};{rw[c];rfl}
def eI(a:α)(b:β):Q (α×β)→Q (α×β)|[]=>[(a,b)]|p::l=>if a=p.1 then(a,b)::l else p::eI a b l
theorem xD{a:α}:∀{l:Q (α×β)}{i j:I}{v:β},findAt a l i=V (j,v)→i≤j|[],i,j,v,h=>by simp[findAt]at h|p::l,i,j,v,h=>by unfold findAt at h;split at h;{simp at h;omega};{have:=xD h;omega}
theorem GQ{a:α}{b:β}{f:MapEntry→MapEntry}(g:∀e,e.key=ke a→(f e).key=ke a∧(f e).val=ve b):∀{c:Q MapEntry}{l:Q (α×β)}{i j:I}{v:β},ir ke ve c l→findAt a l i=V (i+j,v)→ir ke ve (c.modify j f) (eI a b l)|[],l,i,j,v,h,hf2=>by have:l=[]:=by{unfold ir at h;cases l<;>simp at h⊢};subst this;simp[findAt]at hf2|e::c,l,i,j,v,h,hf2=>by obtain⟨p,x,rfl,k,o,d⟩:=qY h;unfold findAt at hf2;unfold eI;by_cases hq:a=p.1;{rw[Xh hq]at hf2⊢;have:j=0:=by{simp at hf2;omega};subst this;obtain⟨q,r⟩:=g e (by rw[k,hq]);unfold ir at d⊢;simp[Q.modify,q,r,d]};{rw[Xf hq]at hf2⊢;have s:=xD hf2;obtain⟨j,rfl⟩:∃u,j=u+1:=⟨j-1,Za⟩;have n:=GQ (f:=f) g (i:=i+1) (j:=j) (v:=v) d (by rw[hf2];congr 2;omega);unfold ir at n⊢;simp only[Q.modify_succ_cons,ZP,n,k,o]}
theorem I8{a:α}:∀{b:Q MapEntry}{l:Q (α×β)}{i j:I}{v:β},ir ke ve b l→findAt a l i=V (i+j,v)→∃e,b[j]?=V e∧e.key=ke a|[],l,i,j,v,h,hf2=>by have:l=[]:=by{unfold ir at h;cases l<;>simp at h⊢};subst this;simp[findAt]at hf2|e::b,l,i,j,v,h,hf2=>by obtain⟨p,q,rfl,c,r,d⟩:=qY h;unfold findAt at hf2;by_cases hq:a=p.1;{rw[Xh hq]at hf2;have:j=0:=by{simp at hf2;omega};subst this;exact⟨e,rfl,by rw[c,hq]⟩};{rw[Xf hq]at hf2;have f:=xD hf2;obtain⟨j,rfl⟩:∃g,j=g+1:=⟨j-1,Za⟩;obtain⟨k,n,o⟩:=I8 (i:=i+1) (j:=j) (v:=v) d (by rw[hf2];congr 2;omega);exact⟨k,by simpa using n,o⟩}
theorem EF{a:α}{b:β}:∀{l:Q (α×β)}{i:I},findAt a l i=U→eI a b l=l++[(a,b)]|[],_,_=>rfl|p::l,i,h=>by unfold findAt at h;unfold eI;by_cases hq:a=p.1;{rw[Xh hq]at h;cases h};{rw[Xf hq]at h⊢;rw[EF h];rfl}
end
def iX{α β:Type}(ke:α→Xe)(ve:β→Xe)(m:Xj I)(l:Q (α×β)):HP:=λf=>∃b c a,m=V b∧ir ke ve c.toList l∧f=aQ.one b (.map c a)
section
variable{P:Xk}{α β:Type}[XP α]{ke:α→Xe}{ve:β→Xe}{kt vt t:Xn}{E w:G}{F:Q HP}{m:Xj I}{l:Q (α×β)}
theorem Hp.C8(h:Hp E w (iX ke ve m l::F)):∃b d c,m=V b∧ir ke ve d.toList l∧Hp E w (ag b (.map d c)::F):=by obtain⟨f,a,g,k,i,e,⟨b,d,c,j,n,o⟩,p⟩:=h.frag;exact⟨b,d,c,j,n,h.os,h.output,h.tape,f,a,g,k,i,e,o,p⟩
theorem Hp.L7{b a:I}{c:Xi MapEntry}(h:Hp E w (ag b (.map c a)::F))(d:ir ke ve c.toList l):Hp E w (iX ke ve (V b) l::F):=h.Uu λ_ e=>⟨b,c,a,Z,d,e⟩
theorem run_makeMap{K:Xj I→G→Prop}(h:Hp E w F)(a:∀m w',Hp E w' (iX ke ve m []::F)→K m w'):au P (Ya t U) kM w K:=by unfold au;have e:(Ya t U).run P w=.ok (.map (V w.heap.size)) (w.alloc (.map #[] 0)):=Z;rw[e];exact a _ _ (Hp.L7 (h.alloc _) Z)
theorem bR(s:mB P kt ke)(z:P.underlying t=V (.map kt vt)){a:α}{b:β}{K:Xe→G→Prop}(h:Hp E w (iX ke ve m l::F))(B:∀w',Hp E w' (iX ke ve m (eI a b l)::F)→K Xv w'):au P (do Zi t (.map m) (ke a) (ve b);XD Xv) kV w K:=by obtain⟨r,k,c,rfl,n,A⟩:=h.C8;have u:=A.ax;have f:=rT (ve:=ve) s a w k.toList l n;have key:∀g d,(do Zi t (.map (V r)) (ke a) (ve b);XD Xv:Sem Xe).run P w=.ok Xv {w with heap:=w.heap.setIfInBounds r (.map g d)}→ir ke ve g.toList (eI a b l)→au P (do Zi t (.map (V r)) (ke a) (ve b);XD Xv) kV w K:=by{intro g d C D;unfold au;rw[C];exact B _ (Hp.L7 (A.setObj rfl rfl rfl rfl) D)};cases hf:findAt a l 0 with|none=>rw[hf]at f;refine key (k.push ⟨ke a,ve b,c⟩) (c+1) ?_ ?_;{simp[Zi,Xs z,MapKept.run_getObj_map u,s.check,f,MapKept.run_setObj_map _ u]};{rw[EF hf];unfold ir at n⊢;simp[n]}|some q=>obtain⟨j,v⟩:=q;rw[hf]at f;have o:(Instr.findKey kt (ke a) k.toList).run P w=.ok (V (j,ve v)) w:=f;have p:((k[j]?).map (·.key)).getD (ke a)=ke a:=by{obtain⟨e,x,y⟩:=I8 (ke:=ke) (ve:=ve) n (i:=0) (j:=j) (v:=v) (by simpa using hf);have:k[j]?=V e:=by{simpa using x};rw[this];exact y};refine key (k.modify j λe=>{e with key:=ke a,val:=ve b}) c ?_ ?_;{simp[Zi,Xs z,MapKept.run_getObj_map u,s.check,o,p,Instr.keyThatStays,s.same,MapKept.run_setObj_map _ u]};{rw[Xi.toList_modify];exact GQ (ke:=ke) (ve:=ve) (a:=a) (b:=b) (λe _=>⟨rfl,rfl⟩) n (i:=0) (j:=j) (v:=v) (by simpa using hf)}
theorem B8(c:mB P kt ke)(e:P.underlying t=V (.map kt vt)){a:α}{z:Xe}(g:∀w,(XG vt).run P w=.ok z w)(h:Hp E w (iX ke ve m l::F)):(Yp t (.map m) (ke a) O).run P w=.ok (.tuple #[(match findAt a l 0 with|some q=>ve q.2|none=>z),.bool (findAt a l 0).isSome]) w:=by obtain⟨r,i,d,rfl,j,k⟩:=h.C8;have f:=k.ax;have b:=rT (ve:=ve) c a w i.toList l j;cases hf:findAt a l 0 with|none=>rw[hf]at b;simp[Yp,Xs e,MapKept.run_getObj_map f,c.check,b,g]|some q=>rw[hf]at b;simp[Yp,Xs e,MapKept.run_getObj_map f,c.check,b]
end
section
variable{P:Xk}{α β:Type}[XP α]{ke:α→Xe}{ve:β→Xe}{kt vt t ty:Xn}{E w:G}{F:Q HP}{m:Xj I}{l:Q (α×β)}
theorem KG(c:mB P kt ke)(e:P.underlying t=V (.map kt vt)){a:α}{z:Xe}(g:∀w,(XG vt).run P w=.ok z w)(h:Hp E w (iX ke ve m l::F)):(Yp t (.map m) (ke a) J).run P w=.ok (match findAt a l 0 with|some q=>ve q.2|none=>z) w:=by obtain⟨r,i,d,rfl,j,k⟩:=h.C8;have f:=k.ax;have b:=rT (ve:=ve) c a w i.toList l j;cases hf:findAt a l 0 with|none=>rw[hf]at b;simp[Yp,Xs e,MapKept.run_getObj_map f,c.check,b,g]|some q=>rw[hf]at b;simp[Yp,Xs e,MapKept.run_getObj_map f,c.check,b]
end
end
section
def adx{v c:I}(g:v<16777216)(h:c<256):iw .u32 (bx .u32 (v:H) 8) (u32 (c:H))=((256*v+c:I):H):=by have d:YN .u32=4294967295:=Z;have e:bx .u32 (v:H) 8=((v*256:I):H):=by{have:=dJ (k:=.u32) (a:=v) (b:=8) Zb (by rw[d];omega);simpa using this};have f:v*256|||c=256*v+c:=by{rw[Yk v 256];exact(YX (i:=8) Za v).symm};rw[e,kf Za,mf (by rw[d];omega) (by rw[d];omega) Ze,f]
end
end Go.Vc
namespace Go.Hd
section
open Go.Inc Go.Srt
def zN(s:HS):Prop:=s.at_≤3∧(s.at_<3→s.v=0)∧s.v≤65536
def jC(n:I)(m:MS):Prop:=(m.at_=0∧m=eA)∨(m.at_=1∧m.v≤n∧m.M=0∧m.P=0∧m.sum=0∧m.many=0)∨(m.at_=2∧1≤m.M∧m.M≤n∧m.v≤m.M∧m.P=0∧m.sum=0∧m.many=0)∨(m.at_=3∧1≤m.M∧m.M≤n∧1≤m.P∧m.P≤m.M∧m.v=0∧m.many≤3∧m.sum<256^m.many)∨(m.at_=5∧m.M=0∧m.P=0∧m.v=0∧m.many≤3∧m.sum<256^m.many)
def An{s b:HS}{c:I}(h:zN s)(d:c<256)(a:bZ s c=.more b):zN b:=by unfold bZ at a;split at a;{split at a;{cases a;exact⟨by dsimp only;omega,λ_=>rfl,by dsimp only;omega⟩};{cases a}};{split at a;{cases a};{cases a};{rename_i n e;cases a;exact⟨by dsimp only;omega,λh=>by dsimp only at h;omega,(iF d e).1⟩}}
def Fz{s:HS}{c n:I}(b:c<256)(a:bZ s c=.fin n):1≤n∧n≤65536:=by unfold bZ at a;split at a;{grind};{split at a;{cases a};{rename_i n d;cases a;have:=iF b d;omega};{cases a}}
def ur{n:I}{s g:MS}{c:I}(h:jC n s)(f:c<256)(a:aS n s c=.more g):jC n g:=by obtain⟨i,v,M,P,e,b⟩:=s;unfold jC at h;unfold aS at a;dsimp only at h a;split at a;{split at a;{cases a;right;right;right;right;simp};{split at a;{cases a;right;left;simp};{cases a}}};{split at a;{split at a;{cases a};{rename_i m d;have:=iF f d;cases a;right;right;left;simp;omega};{rename_i m d;have:=iF f d;cases a;right;left;simp;omega}};{split at a;{split at a;{cases a};{rename_i m d;have:=iF f d;cases a;right;right;right;left;simp;omega};{rename_i m d;have:=iF f d;cases a;right;right;left;simp;omega}};{split at a;{grind};{cases a;rename_i k;(rcases h with⟨h,_⟩|⟨h,_⟩|⟨h,_⟩|⟨h,j⟩|⟨h,j⟩);{omega};{omega};{omega};{right;right;right;left;simp only;have:256*e+c<256^(b+1):=by{rw[YC];omega};refine⟨h,?_⟩;omega};{right;right;right;right;simp only;have:256*e+c<256^(b+1):=by{rw[YC];omega};refine⟨h,?_⟩;omega}}}}}
def qX{n:I}{s:MS}{c:I}{M P u:I}(h:jC n s)(a:aS n s c=.fin (.ax M P u)):1≤M∧M≤n∧1≤P∧P≤M:=by obtain⟨d,v,f,g,e,b⟩:=s;unfold jC at h;unfold aS at a;dsimp only at h a;split at a;{grind};{split at a;{split at a<;>cases a};{split at a;{grind};{grind}}}
end
end Go.Hd
namespace Go.Proofs.Q9
section
open Go Go.Vc Go.Srt Go.Inc Go.Hd
abbrev T2:=H×H×Unit
abbrev hsT(s:HS):H×H×H×H×Unit:=((s.at_:H),(s.v:H),(vm s.v:H),0,())
abbrev msT(m:MS):H×H×H×H×H×H×H×Unit:=((m.at_:H),(m.v:H),(vm m.v:H),(m.M:H),(m.P:H),(m.sum:H),(m.many:H),())
section
variable{E w:G}{F:Q HP}
theorem abk:Tryz.prog.underlying 3=V (.int .i64):=Zc
theorem pq:mB Zf (α:=H) 3 (λn=>Yy .i64 n)where und:=⟨_,abk,λa b=>.inr Z⟩;check:=λe a w=>by{have:∀(e:Xg)(c:H)(w:G),(Instr.checkKey e 10000 3 (.int .i64 c)).run Zf w=.ok () w:=λe c w=>Zc;exact this e a w};eq:=λa b w=>by{exact(run_equalIn_int w 9999 _ _ _ _ _ abk).trans (by rw[show(a==b)=K (a=b)from Z])};same:=λa=>by simp[Instr.sameBits]
theorem fj{a b c:H}{K:Xg→G→Prop}(e:K (XE (b≤a∧a≤c)) w):Cl Zf [kB] 187 ⟨[.int .i64 a,.int .i64 b,.int .i64 c]⟩ w K:=by refine FZ.ok _ _ _ _ _ ?_;(first|refine aa.dm (λd=>?_) (λd=>?_)|refine aa.em (λd=>?_) (λd=>?_)|refine aa.nm (λd=>?_) (λd=>?_)|refine aa.mk (λd=>?_) λd=>?_);{grind};{grind}
theorem D3{v:I}{a:H}{K:Xg→G→Prop}(h:Hp E w F)(c:v≤65536)(d:(v:H)≤a)(e:∀w',Hp E w' F→K O w'):Cl Zf [kB] 331 ⟨[.agg ⟨[.int .i64 (v:H),.int .i64 (vm v:H)]⟩,.int .i64 a]⟩ w K:=by refine H8.ok ((v:H),(vm v:H),()) _ _ _ ?_;(try simp only[aj,Zr]);(with_reducible repeat first|refine Nw.mk h λb w h=>?_|refine Ld.xt h Z ?_);refine GV h c λw h=>?_;(with_reducible repeat first|refine Ld.xb h Z ?_|refine aa.yes ?_);exact gC (Xt d) (e _ h.tl)
theorem HT{v c most:I}{K:T2→Xg→Xg→G→Prop}(h:Hp E w F)(j:v≤most)(l:most≤65536)(g:c<256)(a:grow most v c=U→∀o d w',Hp E w' F→K o d J w')(i:∀n d,grow most v c=V (n,d)→∀k w',(d=J→k=(vm n:H))→Hp E w' F→K ((n:H),k,()) d O w'):Cl Zf [.st [.int .i64,.int .i64],kB,kB] 258 ⟨[.agg ⟨[.int .i64 (v:H),.int .i64 (vm v:H)]⟩,.int .u8 (c:H),.int .i64 (most:H)]⟩ w K:=by refine JW.ok ((v:H),(vm v:H),()) _ _ _ _ ?_;(try simp only[aj,Zr]);(with_reducible repeat first|refine Nw.mk h λb w h=>?_|refine Ld.xt h rfl ?_);refine Vd h Za g (λf w h=>?_) λf w h=>?_;{(with_reducible repeat first|refine Ld.xt h rfl ?_|refine ak.xw h rfl rfl λw h=>?_|refine aa.no ?_);exact a (by unfold grow;rw[Xh f]) _ _ _ h.tl};{(with_reducible repeat first|refine Ld.xb h rfl ?_|refine Ld.xt h rfl ?_|refine ak.xw h rfl rfl λw h=>?_|refine aa.yes ?_);by_cases hc1:c<128;{rw[Xt hc1];by_cases hle:128*v+c%128≤most;{(with_reducible repeat first|refine Ld.xb h rfl ?_|refine Ld.xt h rfl ?_|refine ak.xw h rfl rfl λw h=>?_|refine aa.no ?_|refine aa.yes ?_);(try simp only[]);(skip);by_cases h0:0<128*v+c%128;{refine gC (Xt Za) (i _ O ?_ _ _ (λe=>by cases e) h.tl);unfold grow;rw[Xf f,Xh ⟨hle,λ_=>h0⟩,Xt hc1]};{refine gC (Xq Za) (a ?_ _ _ _ h.tl);unfold grow;rw[Xf f,Xf λe=>h0 (e.2 hc1)]}};{(with_reducible repeat first|refine Ld.xt h rfl ?_|refine ak.xw h rfl rfl λw h=>?_|refine aa.no ?_);refine a ?_ _ _ _ h.tl;unfold grow;rw[Xf f,Xf λe=>hle e.1]}};{rw[Xq hc1];by_cases hle:128*v+c%128≤most;{(with_reducible repeat first|refine Ld.xt h rfl ?_|refine ak.xw h rfl rfl λw h=>?_|refine aa.yes ?_);(try simp only[]);(skip);refine i _ J ?_ _ _ (λ_=>by rw[Wy Za Za g f]) h.tl;unfold grow;rw[Xf f,Xh ⟨hle,λe=>Xu e hc1⟩,Xq hc1]};{(with_reducible repeat first|refine Ld.xt h rfl ?_|refine ak.xw h rfl rfl λw h=>?_|refine aa.no ?_);refine a ?_ _ _ _ h.tl;unfold grow;rw[Xf f,Xf λe=>hle e.1]}}}
theorem Tb{s:HS}{K:Xg→G→Prop}(h:Hp E w F)(f:zN s)(c:∀w',Hp E w' F→K O w'):Cl Zf [kB] 257 ⟨[.agg ⟨[.int .i64 (s.at_:H),.int .i64 (s.v:H),.int .i64 (vm s.v:H),.int .i64 0]⟩]⟩ w K:=by obtain⟨a,v⟩:=s;obtain⟨g,d,e⟩:=f;dsimp only at g d e⊢;refine GK.ok ((a:H),(v:H),(vm v:H),0,()) _ _ ?_;(try simp only[aj,Zl,Zr]);(with_reducible repeat first|refine Nw.mk h λb w h=>?_|refine Ld.xb h Z ?_);by_cases ha:a=3;{subst ha;(with_reducible repeat first|refine Ld.xt h Z ?_|refine aa.yes ?_);refine D3 h e Za λw h=>?_;(with_reducible repeat first|refine Ld.xb h Z ?_|refine aa.yes ?_);exact c _ h.tl};{(with_reducible repeat first|refine Ld.xb h Z ?_|refine aa.no ?_);refine fj ?_;(with_reducible repeat first|refine Ld.xb h Z ?_|refine Ld.xt h Z ?_|refine aa.yes ?_);have:=d Za;subst this;refine gC ?_ (c _ h.tl);simp[vm]}
theorem Ws{s:HS}{c:I}{K:H×H×H×H×Unit→Xg→H→G→Prop}(h:Hp E w F)(q:zN s)(r:c<256)(l:∀m w',bZ s c=.more m→Hp E w' F→K (hsT m) J 0 w')(t:∀n w',bZ s c=.fin n→Hp E w' F→K (4,0,0,(n:H),()) O 0 w')(g:∀e o w',bZ s c=.bad e→Hp E w' F→K o J (e:H) w'):Cl Zf [.st [.int .i64,.int .i64,.int .i64,.int .i64],kB,kI] 186 ⟨[.agg ⟨[.int .i64 (s.at_:H),.int .i64 (s.v:H),.int .i64 (vm s.v:H),.int .i64 0]⟩,.int .u8 (c:H)]⟩ w K:=by obtain⟨a,v⟩:=s;obtain⟨p,i,j⟩:=q;dsimp only at p i j⊢;refine Kn.ok ((a:H),(v:H),(vm v:H),0,()) _ _ _ ?_;(try simp only[bz,aj,Zl,Zr,eu]);(with_reducible repeat first|refine Nw.mk h λb w h=>?_|refine Ld.xt h rfl ?_);refine Tb (s:=⟨a,v⟩) h ⟨p,i,j⟩ λw h=>?_;(try simp only[Xg.not_true,ct]);(with_reducible repeat first|refine Ld.xb h rfl ?_|refine aa.no ?_);by_cases ha:a<3;{have:=i ha;subst this;have u:((ll (ZC #[87,80,1]) ((a:H)).toNat:H))=((DE a:I):H):=by{rw[Zn];have:a=0∨a=1∨a=2:=by{omega};rcases this with rfl|rfl|rfl<;>rfl};(with_reducible repeat first|refine Ld.xb h rfl ?_|refine aa.yes ?_|refine⟨by first|omega|decide,?_⟩);rw[u];refine⟨by have:(((ZC #[87,80,1]).size:I):H)=3:=rfl;omega,?_⟩;by_cases hcm:c=DE a;{refine aa.et Za ?_;(with_reducible repeat first|refine Ld.xb h rfl ?_|refine Ld.xt h rfl ?_|refine ak.xw h rfl rfl λw h=>?_);rw[ae Za];exact l ⟨a+1,0⟩ _ (by unfold bZ;dsimp only;rw[Xh ha,Xh hcm]) h.tl};{refine aa.ef Za ?_;(with_reducible refine Ld.xb h rfl ?_);by_cases ha2:a=2;{(with_reducible repeat first|refine Ld.xb h rfl ?_|refine Ld.xt h rfl ?_|refine ak.xw h rfl rfl λw h=>?_|refine aa.yes ?_|refine aa.no ?_);exact g 241 _ _ (by unfold bZ;dsimp only;rw[Xh ha,Xf hcm,Xh ha2]) h.tl};{(with_reducible repeat first|refine Ld.xt h rfl ?_|refine ak.xw h rfl rfl λw h=>?_|refine aa.yes ?_);exact g 240 _ _ (by unfold bZ;dsimp only;rw[Xh ha,Xf hcm,Xf ha2]) h.tl}}};{(with_reducible repeat first|refine Ld.xb h rfl ?_|refine Ld.xt h rfl ?_|refine aa.no ?_);refine HT (most:=65536) h j Za r (λf o d w h=>?_) λn d f k w x h=>?_;{(with_reducible repeat first|refine Nw.mk h λb w h=>?_|refine Ld.xt h rfl ?_|refine ak.xw h rfl rfl λw h=>?_|refine aa.yes ?_);(try simp only[]);(skip);exact g 242 _ _ (by unfold bZ;dsimp only;rw[Xf ha,f]) h.tl};{cases d;{have:=x rfl;subst this;(with_reducible repeat first|refine Nw.mk h λb w h=>?_|refine Ld.xt h rfl ?_|refine ak.xw h rfl rfl λw h=>?_|refine aa.no ?_);(try simp only[]);(skip);exact l ⟨3,n⟩ _ (by unfold bZ;dsimp only;rw[Xf ha,f]) h.tl};{(with_reducible repeat first|refine Nw.mk h λb w h=>?_|refine Ld.xb h rfl ?_|refine Ld.xt h rfl ?_|refine ak.xw h rfl rfl λw h=>?_|refine aa.no ?_|refine aa.yes ?_);(try simp only[]);(skip);exact t n _ (by unfold bZ;dsimp only;rw[Xf ha,f]) h.tl}}}
theorem Rb{s m:I}{K:Xg→G→Prop}(c:m≤3)(a:s<256^m)(b:K O w):Cl Zf [kB] 333 ⟨[.int .u32 (s:H),.int .i64 (m:H)]⟩ w K:=by refine Ka.ok _ _ _ _ ?_;refine fj ?_;(with_reducible refine aa.yes ?_);rw[ae Za];refine⟨Za,gC ?_ b⟩;rw[show(8*(m:H))=((8*m:I):H) by omega,jP (by have:m=0∨m=1∨m=2∨m=3:=by{omega};rcases this with rfl|rfl|rfl|rfl<;>simp at a<;>omega),cC (by have:Xy.bits .u64=64:=rfl;omega),I.pow_mul,Y9 Ze];rfl
theorem Uo{n:I}{m:MS}{K:Xg→G→Prop}(h:Hp E w F)(s:1≤n)(q:n≤65536)(k:jC n m)(f:∀w',Hp E w' F→K O w'):Cl Zf [kB] 263 ⟨[.int .i64 (n:H),.agg ⟨[.int .i64 (m.at_:H),.int .i64 (m.v:H),.int .i64 (vm m.v:H),.int .i64 (m.M:H),.int .i64 (m.P:H),.int .u32 (m.sum:H),.int .i64 (m.many:H)]⟩]⟩ w K:=by obtain⟨l,v,M,P,o,g⟩:=m;unfold jC at k;dsimp only at k⊢;refine zH.ok _ ((l:H),(v:H),(vm v:H),(M:H),(P:H),(o:H),(g:H),()) _ _ ?_;(try simp only[bz,aj,Zl,Zr,ct]);(with_reducible repeat first|refine Nw.mk h λb w h=>?_|refine Ld.xb h rfl ?_|refine Ld.xt h rfl ?_|refine ak.xw h rfl rfl λw h=>?_);refine fj ?_;(rcases k with⟨a,d⟩|⟨a,d,i,j,e,c⟩|⟨a,d,i,j,e,c,p⟩|⟨a,d,i,j,e,c,p,r⟩|⟨a,d,i,j,e,c⟩);{cases d;(with_reducible refine aa.no ?_);refine fj ?_;(with_reducible repeat first|refine Ld.xb h rfl ?_|refine Ld.xt h rfl ?_|refine aa.yes ?_|refine aa.no ?_);exact f _ h.tl};{subst a i j e c;(with_reducible refine aa.no ?_);refine fj ?_;(with_reducible repeat first|refine Ld.xb h rfl ?_|refine Ld.xt h rfl ?_|refine aa.yes ?_|refine aa.no ?_);refine D3 h Za Za λw h=>?_;(with_reducible repeat first|refine Ld.xt h rfl ?_|refine aa.yes ?_);refine gC ?_ (f _ h.tl);simp};{subst a e c p;(with_reducible repeat first|refine Ld.xb h rfl ?_|refine aa.yes ?_);refine fj ?_;(skip);refine fj ?_;(with_reducible repeat first|refine Ld.xb h rfl ?_|refine aa.yes ?_|refine aa.no ?_);refine fj ?_;(with_reducible repeat first|refine Ld.xb h rfl ?_|refine Ld.xt h rfl ?_|refine aa.yes ?_);refine D3 h Za Za λw h=>?_;(with_reducible repeat first|refine Ld.xb h rfl ?_|refine Ld.xt h rfl ?_|refine aa.yes ?_);refine gC ?_ (f _ h.tl);simp};{subst a c;(with_reducible repeat first|refine Ld.xb h rfl ?_|refine aa.yes ?_);refine fj ?_;rw[Xt (show 1≤(P:H)∧(P:H)≤(M:H) by omega)];refine fj ?_;(with_reducible repeat first|refine Ld.xb h rfl ?_|refine aa.yes ?_|refine aa.no ?_);refine Rb p r ?_;(with_reducible repeat first|refine Ld.xt h rfl ?_|refine aa.yes ?_);exact f _ h.tl};{subst a d i j;(with_reducible refine aa.no ?_);refine fj ?_;(with_reducible repeat first|refine Ld.xb h rfl ?_|refine aa.yes ?_|refine aa.no ?_);refine Rb e c ?_;(with_reducible repeat first|refine Ld.xb h rfl ?_|refine Ld.xt h rfl ?_|refine aa.yes ?_);refine gC ?_ (f _ h.tl);simp[vm]}
end
end
end Go.Proofs.Q9
namespace Go.Vc
section
open Go
section
variable{P:Xk}{α β:Type}[XP α]{ke:α→Xe}{ve:β→Xe}{kt vt t:Xn}{E w:G}{F:Q HP}{m:Xj I}{l:Q (α×β)}
theorem nL.fn{t:Fn}{a b:Xi Xe}{K:Xg→Prop}(h:K J):nL (.func t a b) K:=h
theorem au.found(b:mB P kt ke)(c:P.underlying t=V (.map kt vt)){a:α}{q:I×β}{z:Xe}{k:Ki}{x:k.T}{K:k.T→G→Prop}(d:∀w,(XG vt).run P w=.ok z w)(h:Hp E w (iX ke ve m l::F))(e:findAt a l 0=V q)(f:ve q.2=k.enc x)(g:K x w):au P (Yp t (.map m) (ke a) J) k w K:=by unfold au;rw[KG b c d h,e];dsimp only;rw[f];exact Ki.pg.2 g
end
end
end Go.Vc
namespace Go.Proofs.Q9
section
open Go Go.Vc Go.Srt Go.Inc Go.Hd
abbrev rq:=H×H×H×H×H×H×H×Unit
section
variable{E w:G}{F:Q HP}
def Pj(n:I)(m:MS)(c:I)(E:G)(F:Q HP)(K:rq→Xg→G→Prop):Prop:=(∀a w',aS n m c=.more a→a.at_≠4→a.at_≠6→Hp E w' F→K (msT a) O w')∧(∀M P u w',aS n m c=.fin (.ax M P u)→Hp E w' F→K (4,0,0,(M:H),(P:H),(u:H),4,()) O w')∧(∀u w',aS n m c=.fin (.tail u)→Hp E w' F→K (6,0,0,0,0,(u:H),4,()) O w')∧(∀e o w',aS n m c=.bad e→e=242→Hp E w' F→K o J w')
theorem aba{n:I}{c:I}{K:rq→Xg→G→Prop}(h:Hp E w F)(f:c<256)(d:Pj n eA c E F K):Cl Zf [.st [.int .i64,.int .i64,.int .i64,.int .i64,.int .i64,.int .u32,.int .i64],kB] 259 ⟨[.int .i64 (n:H),.agg ⟨[.int .i64 0,.int .i64 0,.int .i64 0,.int .i64 0,.int .i64 0,.int .u32 0,.int .i64 0]⟩,.int .u8 (c:H)]⟩ w K:=by obtain⟨a,_,_,e⟩:=d;refine KC.ok _ (0,0,0,0,0,0,0,()) _ _ _ ?_;(try simp only[aj,Zr]);(with_reducible repeat first|refine Nw.mk h λb w h=>?_|(refine St.xs h rfl rfl λw h=>?_;dsimp only[aY,over]at h));by_cases h0:c=0;{subst h0;(with_reducible repeat first|refine Ld.xt h rfl ?_|refine ak.xw h rfl rfl λw h=>?_|(refine St.xs h rfl rfl λw h=>?_;dsimp only[aY,over]at h)|refine aa.yes ?_);exact a ⟨5,0,0,0,0,0⟩ _ rfl (by dsimp only;decide) (by dsimp only;decide) h.tl};{(with_reducible repeat first|refine Ld.xt h rfl ?_|refine ak.xw h rfl rfl λw h=>?_|refine aa.no ?_);by_cases h1:c=1;{subst h1;exact a ⟨1,0,0,0,0,0⟩ _ rfl (by dsimp only;decide) (by dsimp only;decide) h.tl};{refine gC (Xq Za) (e 242 _ _ ?_ rfl h.tl);unfold aS eA;simp[h0,h1]}}
theorem aav{n v:I}{c:I}{K:rq→Xg→G→Prop}(h:Hp E w F)(g:n≤65536)(i:v≤n)(j:c<256)(p:Pj n ⟨1,v,0,0,0,0⟩ c E F K):Cl Zf [.st [.int .i64,.int .i64,.int .i64,.int .i64,.int .i64,.int .u32,.int .i64],kB] 260 ⟨[.int .i64 (n:H),.agg ⟨[.int .i64 1,.int .i64 (v:H),.int .i64 (vm v:H),.int .i64 0,.int .i64 0,.int .u32 0,.int .i64 0]⟩,.int .u8 (c:H)]⟩ w K:=by obtain⟨e,_,_,f⟩:=p;refine KL.ok _ (1,(v:H),(vm v:H),0,0,0,0,()) _ _ _ ?_;(try simp only[aj,Zl,Zr]);(with_reducible repeat first|refine Nw.mk h λb w h=>?_|refine Ld.xt h rfl ?_);refine HT h i g j (λa o d w h=>?_) λm d a k w q h=>?_;{(with_reducible repeat first|refine Nw.mk h λb w h=>?_|refine Ld.xt h rfl ?_|refine ak.xw h rfl rfl λw h=>?_|(refine ak.xs h rfl rfl λw h=>?_;dsimp only[aY,over]at h));cases d;{(with_reducible repeat first|refine Ld.xt h rfl ?_|refine ak.xw h rfl rfl λw h=>?_|refine aa.no ?_);exact f 242 _ _ (by unfold aS;simp[a]) rfl h.tl};{(with_reducible repeat first|refine Ld.xb h rfl ?_|refine Ld.xt h rfl ?_|refine ak.xw h rfl rfl λw h=>?_|refine aa.yes ?_);exact f 242 _ _ (by unfold aS;simp[a]) rfl h.tl}};{cases d;{have:=q rfl;subst this;(with_reducible repeat first|refine Nw.mk h λb w h=>?_|refine Ld.xt h rfl ?_|refine ak.xw h rfl rfl λw h=>?_|(refine ak.xs h rfl rfl λw h=>?_;dsimp only[aY,over]at h)|refine aa.no ?_);exact e ⟨1,m,0,0,0,0⟩ _ (by unfold aS;simp[a]) (by dsimp only;decide) (by dsimp only;decide) h.tl};{(with_reducible repeat first|refine Nw.mk h λb w h=>?_|refine Ld.xb h rfl ?_|refine Ld.xt h rfl ?_|refine ak.xw h rfl rfl λw h=>?_|(refine ak.xs h rfl rfl λw h=>?_;dsimp only[aY,over]at h)|refine aa.yes ?_);exact e ⟨2,0,m,0,0,0⟩ _ (by unfold aS;simp[a]) (by dsimp only;decide) (by dsimp only;decide) h.tl}}
theorem Wb{n v M:I}{c:I}{K:rq→Xg→G→Prop}(h:Hp E w F)(g:M≤65536)(i:v≤M)(j:c<256)(p:Pj n ⟨2,v,M,0,0,0⟩ c E F K):Cl Zf [.st [.int .i64,.int .i64,.int .i64,.int .i64,.int .i64,.int .u32,.int .i64],kB] 261 ⟨[.int .i64 (n:H),.agg ⟨[.int .i64 2,.int .i64 (v:H),.int .i64 (vm v:H),.int .i64 (M:H),.int .i64 0,.int .u32 0,.int .i64 0]⟩,.int .u8 (c:H)]⟩ w K:=by obtain⟨e,_,_,f⟩:=p;refine IM.ok _ (2,(v:H),(vm v:H),(M:H),0,0,0,()) _ _ _ ?_;(try simp only[aj,Zl,Zr]);(with_reducible repeat first|refine Nw.mk h λb w h=>?_|refine Ld.xb h rfl ?_|refine Ld.xt h rfl ?_);refine HT h i g j (λa o d w h=>?_) λm d a k w q h=>?_;{(with_reducible repeat first|refine Nw.mk h λb w h=>?_|refine Ld.xt h rfl ?_|refine ak.xw h rfl rfl λw h=>?_|(refine ak.xs h rfl rfl λw h=>?_;dsimp only[aY,over]at h));cases d;{(with_reducible repeat first|refine Ld.xt h rfl ?_|refine ak.xw h rfl rfl λw h=>?_|refine aa.no ?_);exact f 242 _ _ (by unfold aS;simp[a]) rfl h.tl};{(with_reducible repeat first|refine Ld.xb h rfl ?_|refine Ld.xt h rfl ?_|refine ak.xw h rfl rfl λw h=>?_|refine aa.yes ?_);exact f 242 _ _ (by unfold aS;simp[a]) rfl h.tl}};{cases d;{have:=q rfl;subst this;(with_reducible repeat first|refine Nw.mk h λb w h=>?_|refine Ld.xt h rfl ?_|refine ak.xw h rfl rfl λw h=>?_|(refine ak.xs h rfl rfl λw h=>?_;dsimp only[aY,over]at h)|refine aa.no ?_);exact e ⟨2,m,M,0,0,0⟩ _ (by unfold aS;simp[a]) (by dsimp only;decide) (by dsimp only;decide) h.tl};{(with_reducible repeat first|refine Nw.mk h λb w h=>?_|refine Ld.xb h rfl ?_|refine Ld.xt h rfl ?_|refine ak.xw h rfl rfl λw h=>?_|(refine ak.xs h rfl rfl λw h=>?_;dsimp only[aY,over]at h)|refine aa.yes ?_);exact e ⟨3,0,M,m,0,0⟩ _ (by unfold aS;simp[a]) (by dsimp only;decide) (by dsimp only;decide) h.tl}}
theorem Uy{n a M P e d:I}{c:I}{K:rq→Xg→G→Prop}(h:Hp E w F)(g:a=3∨(a=5∧M=0∧P=0))(i:d≤3)(r:e<256^d)(j:c<256)(k:Pj n ⟨a,0,M,P,e,d⟩ c E F K):Cl Zf [.st [.int .i64,.int .i64,.int .i64,.int .i64,.int .i64,.int .u32,.int .i64],kB] 262 ⟨[.int .i64 (n:H),.agg ⟨[.int .i64 (a:H),.int .i64 0,.int .i64 0,.int .i64 (M:H),.int .i64 (P:H),.int .u32 (e:H),.int .i64 (d:H)]⟩,.int .u8 (c:H)]⟩ w K:=by obtain⟨o,p,q,s⟩:=k;have f:e<16777216:=by{have:256^d≤256^3:=ZV Zb i;omega};refine N0.ok _ ((a:H),0,0,(M:H),(P:H),(e:H),(d:H),()) _ _ _ ?_;(try simp only[aj,Zl,Zr,Z4]);(with_reducible repeat first|refine Nw.mk h λb w h=>?_|refine Ld.xb h rfl ?_|(refine St.xs h rfl rfl λw h=>?_;dsimp only[aY,over]at h)|refine⟨by first|omega|decide,?_⟩);rw[ae (x:=(d:H)+1) Za]at h⊢;rw[adx f j]at h;by_cases hm3:d=3;{subst hm3;(with_reducible repeat first|refine Ld.xb h rfl ?_|refine Ld.xt h rfl ?_|refine ak.xw h rfl rfl λw h=>?_|(refine St.xs h rfl rfl λw h=>?_;dsimp only[aY,over]at h)|refine aa.yes ?_);rw[ae Za]at h⊢;(rcases g with rfl|⟨rfl,rfl,rfl⟩);{exact p M P (256*e+c) _ (by unfold aS;simp) h.tl};{exact q (256*e+c) _ (by unfold aS;simp) h.tl}};{(with_reducible repeat first|refine Ld.xt h rfl ?_|refine ak.xw h rfl rfl λw h=>?_|refine aa.no ?_);refine o ⟨a,0,M,P,256*e+c,d+1⟩ _ ?_ ?_ ?_ h.tl;{unfold aS;rcases g with rfl|⟨rfl,rfl,rfl⟩<;>simp[hm3]};{dsimp only;omega};{dsimp only;omega}}
theorem yk:Tryz.prog.underlying 364=V (.map 3 365):=Zc
theorem Qh(w:G):(XG 365).run Zf w=.ok .nilFunc w:=Zc
abbrev fv(i:I):Xe:=.func (.func i) ⟨[]⟩ ⟨[]⟩
theorem LK{n:I}{m:MS}{c:I}{K:rq→Xg→H→G→Prop}(h:Hp E w F)(hn:1≤n)(L:n≤65536)(Y:jC n m)(N:c<256)(p:∀A w',aS n m c=.more A→Hp E w' F→K (msT A) J 0 w')(R:∀M P u w',aS n m c=.fin (.ax M P u)→Hp E w' F→K (4,0,0,(M:H),(P:H),(u:H),4,()) O 0 w')(r:∀u w',aS n m c=.fin (.tail u)→Hp E w' F→K (6,0,0,0,0,(u:H),4,()) O 0 w')(S:∀e o w',aS n m c=.bad e→Hp E w' F→K o J (e:H) w'):Cl Zf [.st [.int .i64,.int .i64,.int .i64,.int .i64,.int .i64,.int .u32,.int .i64],kB,kI] 188 ⟨[.int .i64 (n:H),.agg ⟨[.int .i64 (m.at_:H),.int .i64 (m.v:H),.int .i64 (vm m.v:H),.int .i64 (m.M:H),.int .i64 (m.P:H),.int .u32 (m.sum:H),.int .i64 (m.many:H)]⟩,.int .u8 (c:H)]⟩ w K:=by have d:∀(q:I)(i:I),findAt (m.at_:H) [((0:H),fv 259),(1,fv 260),(2,fv 261),(3,fv 262),(5,fv 262)] 0=V (q,fv i)→oy Zf i=O→(∀(s:Q HP)(w:G)(K':rq→Xg→G→Prop),Hp E w s→Pj n m c E s K'→Cl Zf [.st [.int .i64,.int .i64,.int .i64,.int .i64,.int .i64,.int .u32,.int .i64],kB] i ⟨[.int .i64 (n:H),.agg ⟨[.int .i64 (m.at_:H),.int .i64 (m.v:H),.int .i64 (vm m.v:H),.int .i64 (m.M:H),.int .i64 (m.P:H),.int .u32 (m.sum:H),.int .i64 (m.many:H)]⟩,.int .u8 (c:H)]⟩ w K')→Cl Zf [.st [.int .i64,.int .i64,.int .i64,.int .i64,.int .i64,.int .u32,.int .i64],kB,kI] 188 ⟨[.int .i64 (n:H),.agg ⟨[.int .i64 (m.at_:H),.int .i64 (m.v:H),.int .i64 (vm m.v:H),.int .i64 (m.M:H),.int .i64 (m.P:H),.int .u32 (m.sum:H),.int .i64 (m.many:H)]⟩,.int .u8 (c:H)]⟩ w K:=by{intro q i hq T y;refine Bm.ok _ (msT m) _ _ _ ?_;(try simp only[aj,Zr]);refine Nw.mk h λW w h=>Nw.mk h λb7 w h=>?_;refine run_makeMap (ke:=λn:H=>Yy .i64 n) (ve:=λv:Xe=>v) h λmp w h=>?_;refine bR (ke:=λn:H=>Yy .i64 n) (ve:=λv:Xe=>v) (l:=_) pq yk (a:=0) (b:=fv 259) h λw h=>?_;refine bR (ke:=λn:H=>Yy .i64 n) (ve:=λv:Xe=>v) (l:=_) pq yk (a:=1) (b:=fv 260) h λw h=>?_;refine bR (ke:=λn:H=>Yy .i64 n) (ve:=λv:Xe=>v) (l:=_) pq yk (a:=2) (b:=fv 261) h λw h=>?_;refine bR (ke:=λn:H=>Yy .i64 n) (ve:=λv:Xe=>v) (l:=_) pq yk (a:=3) (b:=fv 262) h λw h=>?_;refine bR (ke:=λn:H=>Yy .i64 n) (ve:=λv:Xe=>v) (l:=_) pq yk (a:=5) (b:=fv 262) h λw h=>?_;rw[show eI (5:H) (fv 262) (eI 3 (fv 262) (eI 2 (fv 261) (eI 1 (fv 260) (eI 0 (fv 259) []))))=[((0:H),fv 259),(1,fv 260),(2,fv 261),(3,fv 262),(5,fv 262)]from rfl]at h;(with_reducible refine Ld.xb h rfl ?_);refine au.found (ke:=λn:H=>Yy .i64 n) (ve:=λv:Xe=>v) pq yk (a:=(m.at_:H)) (x:=fv i) Qh h hq rfl ?_;refine nL.fn ?_;have h:=h.drop;(with_reducible repeat first|refine Ld.xt h rfl ?_|refine aa.no ?_);refine Uo h hn L Y λw h=>?_;(with_reducible repeat first|refine Ld.xt h rfl ?_|refine aa.no ?_);refine dj.mk T (y _ _ _ h ⟨λA w f g B h=>?_,λM P u w f h=>?_,λu w f h=>?_,λe o w f g h=>?_⟩);{(with_reducible repeat first|refine ak.xw h rfl rfl λw h=>?_|refine aa.no ?_);have h:=h.drew (n:=w.drawn+1);refine⟨bT W _ _ _,h.hb,?_⟩;(with_reducible repeat first|refine aA.xb (λ_ h=>h) rfl ?_|refine aA.xt (λ_ h=>h) rfl ?_);refine aa.ef (show¬(A.at_:H)=4 by omega) ?_;(with_reducible repeat first|refine Ld.xt h rfl ?_|refine aA.xb (λ_ h=>h) rfl ?_|refine⟨h.hb,?_⟩|refine ak.xw h rfl rfl λw h=>?_);have e6:((A.at_:H)==6)=J:=beq_eq_false_iff_ne.2 Za;have j:=p A _ f h.tl;rw[←e6]at j;exact j};{(with_reducible repeat first|refine ak.xw h rfl rfl λw h=>?_|refine aa.no ?_);have h:=h.drew (n:=w.drawn+1);refine⟨bT W _ _ _,h.hb,?_⟩;(with_reducible repeat first|refine Ld.xt h rfl ?_|refine aA.xb (λ_ h=>h) rfl ?_|refine aA.xt (λ_ h=>h) rfl ?_|refine⟨h.hb,?_⟩|refine ak.xw h rfl rfl λw h=>?_|refine aa.yes ?_);exact R M P u _ f h.tl};{(with_reducible repeat first|refine ak.xw h rfl rfl λw h=>?_|refine aa.no ?_);have h:=h.drew (n:=w.drawn+1);refine⟨bT W _ _ _,h.hb,?_⟩;(with_reducible repeat first|refine Ld.xt h rfl ?_|refine aA.xb (λ_ h=>h) rfl ?_|refine aA.xt (λ_ h=>h) rfl ?_|refine⟨h.hb,?_⟩|refine ak.xw h rfl rfl λw h=>?_|refine aa.no ?_);exact r u _ f h.tl};{(with_reducible repeat first|refine Ld.xt h rfl ?_|refine ak.xw h rfl rfl λw h=>?_|refine aa.yes ?_);subst g;exact S 242 _ _ f h.tl}};obtain⟨at_,v,M,P,sum,many⟩:=m;have z:=Y;unfold jC at z;dsimp only at z;(rcases z with⟨f,g⟩|⟨f,g,B,C,D,j⟩|⟨f,g,B,C,D,j,X⟩|⟨f,g,B,C,D,j,X,h8⟩|⟨f,g,B,C,D,j⟩);{cases g;exact d 0 259 rfl Zc λs w K' h k=>aba h N k};{subst f B C D j;exact d 1 260 rfl Zc λs w K' h k=>aav h L g N k};{subst f D j X;exact d 2 261 rfl Zc λs w K' h k=>Wb (M:=M) h Za C N k};{subst f j;exact d 3 262 rfl Zc λs w K' h k=>Uy h (.inl rfl) X h8 N k};{subst f g B C;exact d 4 262 rfl Zc λs w K' h k=>Uy h (.inr ⟨rfl,rfl,rfl⟩) D j N k}
end
end
end Go.Proofs.Q9
namespace Go.Pol
section
def layout(n side mode:I):Q I:=if side=1 then(if mode=3 then[n,n,4*XO (n+1) 1024]else[n])else if mode=3 then[n,4*(n+1)]else if mode=2 then[n,1024*(n/1024)]else[n,1024*(n/8192)]
def vE(n side mode:I):Prop:=(side=1∨side=2)∧1≤mode∧mode≤3∧1≤n∧n≤65536
instance(n side mode:I):Decidable (vE n side mode):=by unfold vE;infer_instance
def bu(n side mode:I):I:=(layout n side mode).sum
def aE(a n side:I):I:=if bu n side 3≤a then 3 else if bu n side 2≤a then 2 else if bu n side 1≤a then 1 else 0
def rn{budget n side:I}(h:aE budget n side≠0):bu n side (aE budget n side)≤budget∧1≤aE budget n side∧aE budget n side≤3:=by unfold aE at h⊢;by_cases h3:bu n side 3≤budget;{grind};{grind}
def places:I→Q I→Q (I×I)|_,[]=>[]|a,k::l=>(a,k)::places (a+k) l
end
end Go.Pol
namespace Go.Vc
section
open Go
def oN{α β:Type}[XP α]{a k:α}{b:β}:∀(l:Q (α×β))(i:I),(findAt k (eI a b l) i).map (·.2)=if k=a then V b else(findAt k l i).map (·.2)|[],i=>by unfold eI findAt;by_cases h:k=a;{rw[Xh h,Xh h];rfl};{rw[Xf h,Xf h];rfl}|p::l,i=>by unfold eI;by_cases h:a=p.1;{rw[Xh h];unfold findAt;by_cases hk:k=a;{rw[Xh hk,Xh (by rw[hk])];rfl};{rw[Xf hk,Xf (by first|exact hk|(rw[←h];exact hk)),Xf (by rw[←h];exact hk)]}};{rw[Xf h];unfold findAt;by_cases hk:k=p.1;{rw[Xh hk,Xh hk];by_cases hka:k=a;{exact Xu (hka.symm.trans hk) h};{rw[Xf hka]}};{rw[Xf hk,Xf hk];exact oN l (i+1)}}
end
end Go.Vc
namespace Go.Proofs.Q9
section
open Go Go.Vc Go.Pol
set_option maxRecDepth 100000
abbrev N4:Xn:=225
def rE:Xi XC:=P9 (wW (Tryz.f135.body.getD .skip) [O,O,J])
def Mc(j:I):I:=[3,6,8,10,12,14].getD j 0
def Ah(j:I):H×H:=[((1:H),(1:H)),(1,2),(1,3),(2,1),(2,2),(2,3)].getD j (0,0)
def fnP(j:I):I:=[195,195,196,197,198,199].getD j 0
def vP(j:I):Xe:=.func (.func (fnP j)) ⟨[]⟩ ⟨[]⟩
def qz(a:H×H):Xe:=.agg ⟨[.int .u8 a.1,.int .u8 a.2]⟩
def gP(T r:I):Xg:=I.blt r 15&&(match[3,6,8,10,12,14].findIdx? (Y3 r)with|some j=>Y3 (T/2^j%2) 1|none=>O)
def LP(T:I):Xi Xg:=⟨(Zt 17).map (gP T)⟩
def M6(T:I):Q I:=((Zt 6).filter λj=>Y3 (T/2^j%2) 0).map Mc
def IG(T:I):I:=((Zt 6).filter λj=>Y3 (T/2^j%2) 0).length
def abH(T:I):Xg:=(Z1 .any rE (LP T)==M6 T)&&((M6 T).find? (l9 Pg rE (LP T))).isNone&&((Zt 6).all λj=>Y3 (T/2^j%2) 1||(((LP T).setIfInBounds (Mc j) O).toList==(LP (T+2^j)).toList&&Y3 (IG (T+2^j)+1) (IG T)&&I.blt (T+2^j) 64&&(Zt 6).all λi=>Y3 i j||(Y3 ((T+2^j)/2^i%2) 1==Y3 (T/2^i%2) 1)))
def XV:((Zt 63).all abH)=O:=Zc
def f0P:AF:=aN (aN (lp [] 12) 0 (V (.map U))) 1 (V (.func (.func 195) ⟨[]⟩ ⟨[]⟩))
def Ek(m:Xj I):AF:=aN (aN (aN (aN (aN (aN (aN (aN (aN f0P 3 (V (qz (1,1)))) 4 (V (vP 0))) 5 (V (qz (1,2)))) 6 (V (vP 0))) 7 (V (qz (1,3)))) 8 (V (qz (2,1)))) 9 (V (qz (2,2)))) 10 (V (qz (2,3)))) 2 (V (.map m))
structure My (T:I) (l:Q ((H×H)×Xe)):Prop where
 has:∀i,i<6→(findAt (Ah i) l 0).map (·.2)=if T/2^i%2=1 then V (vP i)else U
 no:∀k,(∀i,i<6→k≠Ah i)→(findAt k l 0).map (·.2)=U
def abB:∀i,i<6→∀j,j<6→Ah i=Ah j→i=j:=Zb
structure StP (T j:I):Prop where
 set:(LP T).setIfInBounds (Mc j) O=LP (T+2^j)
 cz:IG (T+2^j)+1=IG T
 lt:T+2^j<64
 bit:∀i,i<6→i≠j→((T+2^j)/2^i%2=1↔T/2^i%2=1)
 one:(T+2^j)/2^j%2=1
def W4{T:I}(r:T<63):Z1 .any rE (LP T)=M6 T∧(M6 T).find? (l9 Pg rE (LP T))=U∧∀j,j<6→T/2^j%2=0→StP T j:=by have c:=List.all_eq_true.1 XV T Ze;unfold abH at c;simp only[ZK]at c;obtain⟨⟨f,g⟩,k⟩:=c;refine⟨eq_of_beq f,Option.isNone_iff_eq_none.1 g,λj s l=>?_⟩;have h:=List.all_eq_true.1 k j Ze;rw[l]at h;simp only[YD,ZK]at h;obtain⟨⟨⟨m,n⟩,o⟩,p⟩:=h.resolve_left Zb;refine⟨Xi.ext' (eq_of_beq m),Yj n,Y7 o,λi t d=>?_,?_⟩;{have:=List.all_eq_true.1 p i Ze;simp only[YD]at this;have:=eq_of_beq (this.resolve_left λq=>d (Yj q));have e:∀a b:I,Y3 a b=O↔a=b:=λa b=>⟨Yj,λh=>by rw[h];exact I.beq_refl b⟩;have:=Xp (·=O) this;simp only[eq_iff_iff,e]at this;exact this};{rw[I.add_div_right _ (Ym j)];omega}
def My.aN{T j:I}{l:Q ((H×H)×Xe)}(h:My T l)(d:j<6)(f:StP T j):My (T+2^j) (eI (Ah j) (vP j) l):=by refine⟨λi c=>?_,λk a=>?_⟩;{rw[oN];by_cases e:i=j;{subst e;rw[Xh Z,Xh f.one]};{rw[Xf λa=>e (abB i c j d a),h.has i c];have:=f.bit i c e;by_cases b:T/2^i%2=1;{grind};{grind}}};{rw[oN,Xf (a j d)];exact h.no k a}
def Vz{T r:I}(h:r∈M6 T):∃j,j<6∧T/2^j%2=0∧r=Mc j:=by obtain⟨j,a,rfl⟩:=List.mem_map.1 h;obtain⟨b,c⟩:=List.mem_filter.1 a;exact⟨j,by simpa using b,Yj c,rfl⟩
def abj:((Zt 63).all λT=>!(M6 T).isEmpty)=O:=Zc
def XS:((Zt 64).all λT=>Y3 T 63||I.blt 0 (IG T))=O:=Zc
section
variable{E w:G}{F:Q HP}
theorem acp:Tryz.prog.underlying N4=V (.map 228 223):=Zc
theorem Ij:mB Zf (α:=H×H) 228 qz where und:=⟨_,Z,λa b=>.inl Z⟩;check:=λe a w=>by{have:∀(e:Xg)(c d:H)(w:G),(Instr.checkKey e 10000 228 (.agg ⟨[.int .u8 c,.int .u8 d]⟩)).run Zf w=.ok () w:=λe c d w=>Zc;exact this e a.1 a.2 w};eq:=λa b w=>by{have f:∀c n d m:H,qJ Zf 8 228 (.agg ⟨[.int .u8 c,.int .u8 n]⟩) (.agg ⟨[.int .u8 d,.int .u8 m]⟩) (λr=>r=((c==d)&&(n==m))):=λc n d m=>by{have e:qJ Zf 8 228 (.agg ⟨[.int .u8 c,.int .u8 n]⟩) (.agg ⟨[.int .u8 d,.int .u8 m]⟩) (λr=>r=((c==d)&&(n==m)))=(((c==d)&&(n==m))=((c==d)&&(n==m))):=by{kernel_rfl};rw[e]};obtain⟨r,g,h⟩:=lT 8 _ _ _ _ (f a.1 a.2 b.1 b.2);have:=g 10000 Zb w;have e:K (a=b)=((a.1==b.1)&&(a.2==b.2)):=by{rw[Yu];simp[XQ.ext_iff]};rw[e,←h];exact this};same:=λa=>by unfold qz Instr.sameBits;simp[Instr.sameBits]
theorem aeU{S:G→Prop}{J:Xi Xg→AF→G→Prop}{L:Xi Xg}{m:Xj I}:∀j,j<6→bB Pg rE S J L (Ek m) w (Mc j)=au Pg (do Zi N4 (.map m) (qz (Ah j)) (vP j);XD Xv) kV w λ_ w'=>S w'∧J (L.setIfInBounds (Mc j) O) (Ek m) w'|0,_=>Zc|1,_=>Zc|2,_=>Zc|3,_=>Zc|4,_=>Zc|5,_=>Zc|j+6,h=>Za
theorem aff{S:G→Prop}{K:AF→G→Prop}{m:Xj I}:aG Pg rE S K 2 (LP 63) (Ek m) w=K (aN (aN (Ek m) 11 (V (.map m))) 0 (V (.map m))) w:=Zc
theorem ae1{K:AF→G→Prop}{m:Xj I}:∀(n T:I)(l:Q ((H×H)×Xe))(w:G),IG T=n→T<64→My T l→Hp E w (iX qz (λv:Xe=>v) m l::F)→(∀k w',My 63 k→Hp E w' (iX qz (λv:Xe=>v) m k::F)→K (aN (aN (Ek m) 11 (V (.map m))) 0 (V (.map m))) w')→aG Pg rE (λ_=>True) K (n+2) (LP T) (Ek m) w:=by intro n;induction n with|zero=>intro T l w b o c h d;have f:T=63:=by{have:=List.all_eq_true.1 XS T Ze;rw[b]at this;simp only[YD]at this;exact Yj (this.resolve_right Zb)};subst f;rw[aff];exact d l w c h|succ n p=>intro T l w b o c h d;have g:T<63:=by{(rcases Yg T 63 with q|q);{exact q};{have:T=63:=by{omega};subst this;exact Xu b (by rw[show IG 63=0 from Zb];omega)}};obtain⟨s,t,u⟩:=W4 g;refine bK (Ae s (λe=>?_) t λr x=>?_);{have:=List.all_eq_true.1 abj T Ze;rw[e]at this;exact Xu this Zb};{obtain⟨j,i,y,rfl⟩:=Vz x;have a:=u j i y;rw[aeU j i,a.set];refine bR (ke:=qz) (ve:=λv:Xe=>v) Ij acp h λw h=>⟨trivial,p _ _ _ (by have:=a.cz;omega) a.lt (c.aN i a) h d⟩}
theorem ac3{S:G→Prop}{K:AF→G→Prop}:aG Pg rE S K 17 (YW 17 J) f0P w=au Pg (Ya N4 U) kM w λm w'=>S w'∧aG Pg rE S K 8 (LP 0) (Ek m) w':=Zc
theorem PM{K:Xj I→G→Prop}(h:Hp E w F)(a:∀m l w',My 63 l→Hp E w' (iX qz (λv:Xe=>v) m l::F)→K m w'):Cl Zf [kM] 135 ⟨[]⟩ w K:=by refine rF Tryz.mix (F:=dS w λS w'=>aG Pg rE S (λf w=>zV Pg [.tmp 0] [kM] K .ret f w) 17 (YW 17 J) f0P w') Tryz.f135 [] [kM] K 12 [.tmp 0] Zc Zc Zc Zc Zc (.s .o (.s .o (.s .o .o))) Zc ?_;have h:=h.drew (n:=w.drawn+1);refine⟨λ_=>True,trivial,?_⟩;dsimp only;rw[ac3];refine run_makeMap (ke:=qz) (ve:=λv:Xe=>v) h λm w h=>⟨trivial,?_⟩;refine ae1 6 0 [] w Z Zb ⟨λi c=>?_,λk d=>rfl⟩ h λl w b h=>?_;{rw[I.zero_div,Xf Zb];rfl};{have e:zV Pg [.tmp 0] [kM] K .ret (aN (aN (Ek m) 11 (V (.map m))) 0 (V (.map m))) w=K m w:=by{kernel_rfl};rw[e];exact a m l w b h}
end
end
section
open Go Go.Vc
set_option maxRecDepth 100000
def AP.ok(a:(Xi Xe))(R:(Xi Xe)→H→G→Prop) w(h:Nw 172 a w λc b=>Nw 262 ⟨Zj 258 (.int .u32 0)⟩ b λe d=>Ld (.arr 258) ⟨c,0,U⟩ d λf=>Cl Pg [kB] 295 ⟨[(.agg f)]⟩ d λ(h:Xg) g=>aa (! h) (Ld (.arr 258) ⟨e,0,U⟩ g λi=>aB 258 ⟨e,0,U⟩ i g λj=>Ld (.arr 258) ⟨e,0,U⟩ j λk=>R k 2 j) (Ld (.arr 258) ⟨c,0,U⟩ g λl=>Cl Pg [kS] 296 ⟨[(.agg l)]⟩ g λ(n:Sl) m=>Jq 0 0 0 m λo p(q:H)(r:H)(s:H) t=>aa (K (s<(n.len:H))) (ay n s 1 λu=>Ld kI u t λ(v:H)=>aK ⟨c,0,U⟩ 258 v 1 λx=>Ld (av .u8) x t λ(y:H)=>0≤(u8 (y-r))∧dS t λz D=>aK ⟨c,0,U⟩ 258 v 1 λE=>aA (av .u8) E z λ(B:H)=>aK ⟨e,0,U⟩ 258 v 1 λF=>St F (.int .u32 (bx .u32 q (u8 (y-r)))) D λA=>z A∧o (u32 ((bx .u32 q (u8 (y-r)))+1)) B (i64 (s+1)) A∧p (u32 ((bx .u32 q (u8 (y-r)))+1)) B (i64 (s+1)) A<p q r s t) (Ld (.arr 258) ⟨e,0,U⟩ t λI=>aB 258 ⟨e,0,U⟩ I t λC=>Ld (.arr 258) ⟨e,0,U⟩ C λL=>R L 0 C))):Cl Pg [(.arr 258),kI] 218 ⟨[(.agg a)]⟩ w R:=co Tryz.f218 [(12,[(4,(av .u32)),(5,(av .u8)),(15,kI)])] h
def BA.ok(a:(Xi Xe))(R:Xg→G→Prop) w(h:Nw 172 a w λc b=>Ld (.arr 258) ⟨c,0,U⟩ b λd=>Cl Pg [kB] 348 ⟨[(.agg d)]⟩ b λ(f:Xg) e=>R f e):Cl Pg [kB] 295 ⟨[(.agg a)]⟩ w R:=co Tryz.f295 [] h
def Bn.ok(a:(Xi Xe))(R:Sl→G→Prop) w(h:Nw 172 a w λc b=>Ld (.arr 258) ⟨c,0,U⟩ b λd=>Cl Pg [kB] 295 ⟨[(.agg d)]⟩ b λ(f:Xg) e=>aa (! f) (R (⟨U,0,0⟩:Sl) e) (Ld (.arr 258) ⟨c,0,U⟩ e λg=>dE (⟨U,0,0⟩:Sl) 0 e λh i(j:Sl)(k:H) l=>aa (K (k<258)) (fL (.int .u8) g 258 k λ(m:H)=>aa (K (m>0)) (Nw 3 ⟨[(ni k)]⟩ l λo n=>au Pg (ZH #[25,25] 25 ⟨[(ah j),(ah (⟨V ⟨o,0,U⟩,1,1⟩:Sl))]⟩) kS n λ(q:Sl) p=>h q (i64 (k+1)) p∧i q (i64 (k+1)) p<i j k l) (h j (i64 (k+1)) l∧i j (i64 (k+1)) l<i j k l)) (Cl Pg [] 287 ⟨[(ah j),(.func (.func 349) ⟨[]⟩ ⟨[(.pointer (V ⟨c,0,U⟩))]⟩)]⟩ l λr=>R j r))):Cl Pg [kS] 296 ⟨[(.agg a)]⟩ w R:=co Tryz.f296 [(10,[(2,kS),(9,kI)])] h
def yO.ok(a:H)(b:H)(c:Xr)(R:H→G→Prop) w(h:aC w λd=>aK c 258 a 1 λe=>Ld (av .u8) e d λ(f:H)=>aK c 258 b 1 λg=>Ld (av .u8) g d λ(h:H)=>Cl Pg [kI] 350 ⟨[(.int .u8 f),(.int .u8 h)]⟩ d λ(j:H) i=>R j i):Cl Pg [kI] 349 ⟨[(ni a),(ni b),(.pointer (V c))]⟩ w R:=co Tryz.f349 [] h
def cmp_Compare_int.ok(a:H)(b:H)(R:H→G→Prop) w(h:Cl Pg [kB] 330 ⟨[(ni a)]⟩ w λ(d:Xg) c=>Cl Pg [kB] 330 ⟨[(ni b)]⟩ c λ(f:Xg) e=>aa d (aa f (R 0 e) (R (-1) e)) (aa f (R 1 e) (aa (K (a<b)) (R (-1) e) (aa (K (a>b)) (R 1 e) (R 0 e))))):Cl Pg [kI] 256 ⟨[(ni a),(ni b)]⟩ w R:=co Tryz.f256 [] h
def cmp_isNaN_int.ok(a:H)(R:Xg→G→Prop) w(h:R (a !=a) w):Cl Pg [kB] 330 ⟨[(ni a)]⟩ w R:=co Tryz.f330 [] h
def yK.ok(a:H)(b:H)(R:H→G→Prop) w(h:Cl Pg [kB] 385 ⟨[(.int .u8 a)]⟩ w λ(d:Xg) c=>Cl Pg [kB] 385 ⟨[(.int .u8 b)]⟩ c λ(f:Xg) e=>aa d (aa f (R 0 e) (R (-1) e)) (aa f (R 1 e) (aa (K (a<b)) (R (-1) e) (aa (K (a>b)) (R 1 e) (R 0 e))))):Cl Pg [kI] 350 ⟨[(.int .u8 a),(.int .u8 b)]⟩ w R:=co Tryz.f350 [] h
def qL.ok(a:H)(R:Xg→G→Prop) w(h:R (a !=a) w):Cl Pg [kB] 385 ⟨[(.int .u8 a)]⟩ w R:=co Tryz.f385 [] h
def JZ.ok(a:(Xi Xe))(R:Xg→G→Prop) w(h:Nw 172 a w λc b=>Ld (.arr 258) ⟨c,0,U⟩ b λd=>Cl Pg [kB] 345 ⟨[(.agg d)]⟩ b λ(f:Xg) e=>aa f (aK ⟨c,0,U⟩ 258 257 1 λg=>Ld (av .u8) g e λ(h:H)=>R (K (h>0)) e) (R J e)):Cl Pg [kB] 290 ⟨[(.agg a)]⟩ w R:=co Tryz.f290 [] h
def CJ.ok(a:(Xi Xe))(R:Xg→G→Prop) w(h:Nw 172 a w λc b=>Ld (.arr 258) ⟨c,0,U⟩ b λd=>Cl Pg [kI] 384 ⟨[(.agg d)]⟩ b λ(f:H) e=>R (f==32768) e):Cl Pg [kB] 345 ⟨[(.agg a)]⟩ w R:=co Tryz.f345 [] h
def OL.ok(a:(Xi Xe))(R:Xg→G→Prop) w(h:Nw 172 a w λc b=>Ld (.arr 258) ⟨c,0,U⟩ b λd=>Cl Pg [kI] 384 ⟨[(.agg d)]⟩ b λ(f:H) e=>R (K (f≤32768)) e):Cl Pg [kB] 348 ⟨[(.agg a)]⟩ w R:=co Tryz.f348 [] h
def IA.ok(a:(Xi Xe))(R:(TT QH)→G→Prop) w(h:Nw 172 a w λc b=>Nw 442 ⟨Zj 16 (ni 0)⟩ b λe d=>Ld (.arr 258) ⟨c,0,U⟩ d λf=>eT 0 d λg h(i:H) j=>aa (K (i<258)) (fL (.int .u8) f 258 i λ(k:H)=>aa (K ((i64 k)<16)) (aK ⟨e,0,U⟩ 16 k 1 λl=>Ld kI l j λ(m:H)=>aK ⟨e,0,U⟩ 16 k 1 λn=>St n (ni (i64 (m+1))) j λo=>g (i64 (i+1)) o∧h (i64 (i+1)) o<h i j) (g (i64 (i+1)) j∧h (i64 (i+1)) j<h i j)) (Ld (.st QH) ⟨e,0,U⟩ j λp=>ak ⟨e,0,U⟩ [(ni p.1),(ni p.2.1),(ni p.2.2.1),(ni p.2.2.2.1),(ni p.2.2.2.2.1),(ni p.2.2.2.2.2.1),(ni p.2.2.2.2.2.2.1),(ni p.2.2.2.2.2.2.2.1),(ni p.2.2.2.2.2.2.2.2.1),(ni p.2.2.2.2.2.2.2.2.2.1),(ni p.2.2.2.2.2.2.2.2.2.2.1),(ni p.2.2.2.2.2.2.2.2.2.2.2.1),(ni p.2.2.2.2.2.2.2.2.2.2.2.2.1),(ni p.2.2.2.2.2.2.2.2.2.2.2.2.2.1),(ni p.2.2.2.2.2.2.2.2.2.2.2.2.2.2.1),(ni p.2.2.2.2.2.2.2.2.2.2.2.2.2.2.2.1)] 0 j λq=>Ld (.st QH) ⟨e,0,U⟩ q λr=>R r q)):Cl Pg [(.st QH)] 359 ⟨[(.agg a)]⟩ w R:=co Tryz.f359 [(5,[(6,kI)])] h
def Pv.ok(a:(Xi Xe))(R:H→G→Prop) w(h:Nw 172 a w λc b=>Ld (.arr 258) ⟨c,0,U⟩ b λd=>dE 0 0 b λe f(g:H)(h:H) i=>aa (K (h<258)) (fL (.int .u8) d 258 h λ(j:H)=>Cl Pg [kI] 397 ⟨[(.int .u8 j)]⟩ i λ(l:H) k=>e (i64 (g+l)) (i64 (h+1)) k∧f (i64 (g+l)) (i64 (h+1)) k<f g h i) (R g i)):Cl Pg [kI] 384 ⟨[(.agg a)]⟩ w R:=co Tryz.f384 [(5,[(2,kI),(6,kI)])] h
def J9.ok(a:H)(R:H→G→Prop) w(h:aa (a==0) (R 0 w) (aa (K (a>15)) (R 32769 w) (0≤a∧R (aJ .i64 (32768:H) a) w))):Cl Pg [kI] 397 ⟨[(.int .u8 a)]⟩ w R:=co Tryz.f397 [] h
end
end Go.Proofs.Q9
namespace Go.Srt
section
inductive Ck (key:H→H) (sz:I):Q H→Q H→Prop where|nil:Ck key sz [] []|last (A B:Q H) (h1:A.length<sz) (h2:B.Perm A) (h3:Sd key B):Ck key sz A B|cons (A B X Y:Q H) (h1:A.length=sz) (h2:B.Perm A) (h3:Sd key B) (h4:Ck key sz X Y):Ck key sz (A++X) (B++Y)
def Ck.len{a:H→H}{c:I}{X Y:Q H}(h:Ck a c X Y):Y.length=X.length:=by induction h with|nil=>rfl|last A B d b e=>exact b.length_eq|cons A B X Y d b e g f=>simp[b.length_eq,f]
def Ck.one{a:H→H}{d:I}{X Y:Q H}(h:Ck a d X Y)(f:X.length≤d):Y.Perm X∧Sd a Y:=by cases h with|nil=>exact⟨Q.Perm.refl _,Q.Pairwise.nil⟩|last _ _ g b c=>exact⟨b,c⟩|cons A B X Y g b c i=>rw[Zg]at f;have e:X=[]:=List.length_eq_zero_iff.1 Za;have j:Y=[]:=List.length_eq_zero_iff.1 (by rw[i.len,e];rfl);subst e;subst j;simpa using⟨b,c⟩
def Ck.first{a:H→H}{b:I}{X Y:Q H}(h:Ck a b X Y)(i:b≤X.length)(k:0<b):∃A B c d,X=A++c∧Y=B++d∧A.length=b∧B.Perm A∧Sd a B∧Ck a b c d:=by cases h with|nil=>simp at i;omega|last _ _ e f g=>omega|cons A B X Y e f g j=>exact⟨A,B,X,Y,Z,Z,e,f,g,j⟩
end
end Go.Srt
namespace Go.Proofs.Q9
section
open Go Go.Vc Go.Srt
section
variable{E w:G}{F:Q HP}
theorem Qt{a b c d:Q H}(h:(a++b).Pairwise (·<·))(e:c.Perm a)(f:d.Perm b):∀x∈c,∀y∈d,x<y:=λx g y i=>(List.pairwise_append.1 h).2.2 x (e.mem_iff.1 g) y (f.mem_iff.1 i)
theorem RV{s:Sl}{xs:XF H}{fv:Xe}{key:H→H}{D:H→Prop}{n:H}{K:G→Prop}(h:Hp E w (ao 1 s (xs.map vI)::F))(N:xs.length≤cT)(hc:yj E F fv key D)(hD:∀x∈xs,D x)(hL:xs.Pairwise (·<·))(hn:n=(xs.length:H))(hK:∀i w',i.Perm xs→Sd key i→Hp E w' (ao 1 s (i.map vI)::F)→K w'):Cl Zf [] 344 ⟨[.slice s.base s.len s.cap,.int .i64 n,fv]⟩ w K:=by subst hn;refine pP.ok _ _ _ _ _ ?_;have hbg:=N;rw[aL]at N;refine⟨λa b w'=>∃f Z X:XF H,a=(f.length:H)∧b=((f.length+20:I):H)∧xs=f++X∧Z.length=f.length∧(∀o p,Ck key 20 o p→Ck key 20 (f++o) (Z++p))∧Hp E w' (ao 1 s ((Z++X).map vI)::F),λa _ _=>xs.length-a.toNat,⟨[],[],xs,rfl,rfl,rfl,rfl,λo p h=>h,h⟩,?_⟩;rintro a b w' ⟨f,Z,X,rfl,rfl,hxs,hZ,c,hh⟩;have j:xs.length=f.length+X.length:=by{rw[hxs,Zg]};have hX:∀x∈X,x∈xs:=λx k=>by{rw[hxs];exact XF.mem_append_right _ k};have d:X.Pairwise (·<·):=by{rw[hxs]at hL;exact(List.pairwise_append.1 hL).2.1};refine aa.mk (λq=>?_) λr=>?_;{have q:=Xo q;have e:X.take 20++X.drop 20=X:=Zw _ _;have l1:(X.take 20).length=20:=by{simp;omega};generalize X.take 20=A at e l1;generalize X.drop 20=X2 at e;subst e;rw[Zg]at j;refine zc (P:=Z) (L:=A) (Q:=X2) (key:=key) (D:=D) (by simpa only[Zm]using hh) (by rw[aL];simp only[Zg];omega) hc (λx k=>hD x (hX x (XF.mem_append_left _ k))) (List.pairwise_append.1 d).1 Za (by simp only[Zg];omega) λM S m t T=>?_;rw[ae Za];refine⟨⟨f++A,Z++M,X2,by simp only[Zg];omega,by simp only[Zg];omega,by rw[hxs,Zm],by simp only[Zg];rw[m.length_eq];omega,λo p hk=>?_,T⟩,by dsimp only;omega⟩;rw[Zm,Zm];exact c _ _ (.cons A M o p l1 m t hk)};{have r:=Xm r;refine zc (P:=Z) (L:=X) (Q:=[]) (key:=key) (D:=D) (by simpa using hh) (by rw[aL];simp only[Zg,Zs];omega) hc (λx k=>hD x (hX x k)) d Za (by simp only[Zg];omega) λM S m t T=>?_;have c:=c _ _ (.last X M Za m t);rw[←hxs]at c;refine⟨λbs w'=>∃(g:I)(i:XF H),bs=(g:H)∧20≤g∧g≤2*cT∧Ck key g xs i∧Hp E w' (ao 1 s (i.map vI)::F),λbs _=>xs.length-bs.toNat,⟨20,Z++M,rfl,Za,by rw[aL];omega,c,by simpa using T⟩,?_⟩;rintro bs w' ⟨g,i,rfl,hsz,hszb,c,hh⟩;rw[aL]at hszb;refine aa.mk (λhlt=>?_) λhge=>?_;{have hlt:=Xo hlt;have hlt:g<xs.length:=by{omega};refine⟨λa b w'=>∃f Z X Y:XF H,a=(f.length:H)∧b=((f.length+2*g:I):H)∧xs=f++X∧Z.length=f.length∧Ck key g X Y∧(∀o p,Ck key (2*g) o p→Ck key (2*g) (f++o) (Z++p))∧Hp E w' (ao 1 s ((Z++Y).map vI)::F),λa _ _=>xs.length-a.toNat,⟨[],[],xs,i,rfl,?_,rfl,rfl,c,λo p h=>h,hh⟩,?_⟩;{rw[ae Za];simp};rintro a b w' ⟨f,Z,X,Y,rfl,rfl,hxs,hZ,c,hco,hh⟩;have j:xs.length=f.length+X.length:=by{rw[hxs,Zg]};have hX:∀x∈X,x∈xs:=λx k=>by{rw[hxs];exact XF.mem_append_right _ k};have d:X.Pairwise (·<·):=by{rw[hxs]at hL;exact(List.pairwise_append.1 hL).2.1};rw[ae (x:=(f.length:H)+(g:H)) Za,ae (x:=(g:H)*2) Za];(have next:∀(S:G)(i:XF H),Ck key (2*g) xs i→Hp E S (ao 1 s (i.map vI)::F)→(∃(l:I)(i:XF H),(g:H)*2=(l:H)∧20≤l∧l≤2*cT∧Ck key l xs i∧Hp E S (ao 1 s (i.map vI)::F))∧xs.length-((g:H)*2).toNat<xs.length-((g:H)).toNat:=λS i h1 T=>⟨⟨2*g,i,Za,Za,by rw[aL];omega,h1,T⟩,Za⟩);refine aa.mk (λq=>?_) λr=>?_;{have q:=Xo q;obtain⟨A1,B1,X1,Y1,rfl,rfl,a1,z,c1,u⟩:=c.first Za Za;rw[Zg]at j;obtain⟨A2,B2,X2,Y2,rfl,rfl,a2,B,c2,W⟩:=u.first Za Za;rw[Zg]at j;have C:(A1++A2).Pairwise (·<·):=by{rw[←Zm]at d;exact(List.pairwise_append.1 d).1};have v:=z.length_eq;have y:=B.length_eq;have lY2:=W.len;rw[ae (x:=2*(g:H)) Za,ae Za];refine o7 hc (B1.length+B2.length) (P:=Z) (L:=B1) (R:=B2) (Q:=Y2) (Zy _) (by simpa only[Zm]using hh) (by rw[aL];simp only[Zg];omega) (λe=>by rw[e]at v;simp at v;omega) (λe=>by rw[e]at y;simp at y;omega) c1 c2 (Qt C z B) (λx k=>hD x (hX x (by simp[z.mem_iff.1 k]))) (λx k=>hD x (hX x (by simp[B.mem_iff.1 k]))) Za Za Za λM S m t T=>?_;have pM:M.Perm (A1++A2):=m.trans (XF.Perm.append z B);refine⟨⟨f++(A1++A2),Z++M,X2,Y2,by simp only[Zg];omega,by simp only[Zg];omega,by rw[hxs];simp only[Zm],by simp only[Zg];rw[pM.length_eq,Zg];omega,W,λo p hk=>?_,T⟩,by dsimp only;omega⟩;rw[Zm f,Zm Z];exact hco _ _ (.cons (A1++A2) M o p (by rw[Zg];omega) pM t hk)};{have r:=Xm r;refine aa.mk (λhm=>?_) λhm=>?_;{have hm:=Xo hm;obtain⟨A1,B1,X1,Y1,rfl,rfl,a1,z,c1,u⟩:=c.first Za Za;rw[Zg]at j;obtain⟨B,c2⟩:=u.one Za;have v:=z.length_eq;have y:=B.length_eq;refine o7 hc (B1.length+Y1.length) (P:=Z) (L:=B1) (R:=Y1) (Q:=[]) (Zy _) (by simpa using hh) (by rw[aL];simp only[Zg,Zs];omega) (λe=>by rw[e]at v;simp at v;omega) (λe=>by rw[e]at y;simp at y;omega) c1 c2 (Qt d z B) (λx k=>hD x (hX x (by simp[z.mem_iff.1 k]))) (λx k=>hD x (hX x (by simp[B.mem_iff.1 k]))) Za Za Za λM S m t T=>?_;have pM:M.Perm (A1++X1):=m.trans (XF.Perm.append z B);(refine next S (Z++M) ?_ Ze);rw[hxs];exact hco _ _ (.last _ M (by rw[Zg];omega) pM t)};{have hm:=Xm hm;obtain⟨m,t⟩:=c.one Za;(refine next w' (Z++Y) ?_ hh);rw[hxs];exact hco _ _ (.last _ Y Za m t)}}};{have hge:=Xm hge;obtain⟨m,t⟩:=c.one Za;exact hK i w' m t hh}}
theorem xW{s:Sl}{xs:Q H}{c:Xe}{key:H→H}{D:H→Prop}{K:G→Prop}(h:Hp E w (ao 1 s (xs.map vI)::F))(a:xs.length≤cT)(d:yj E F c key D)(e:∀x∈xs,D x)(f:xs.Pairwise (·<·))(g:∀b w',b.Perm xs→Sd key b→Hp E w' (ao 1 s (b.map vI)::F)→K w'):Cl Zf [] 287 ⟨[.slice s.base s.len s.cap,c]⟩ w K:=by refine mU.ok _ _ _ _ ?_;have i:=h.aV;simp only[Zq,ZE]at i;exact RV h a d e f Za g
end
end
end Go.Proofs.Q9
namespace Go.Srt
section
def wt(n:I):I:=if n=0 then 0 else if n>15 then 32769 else 2^(15-n)
def bD(l:Q I):I:=(l.map wt).sum
def adi(n:I):wt n≤32769:=by unfold wt;split;{omega};{split;{omega};{have:2^(15-n)≤2^15:=ZV Zb Za;omega}}
def LG:∀l:Q I,bD l≤32769*l.length|[]=>by simp[bD]|x::l=>by have:=LG l;have:=adi x;simp only[bD,ZP,Q.sum_cons,Zk]at*;omega
def xz{l:Q I}{k:I}(h:k<l.length):bD (l.take (k+1))=bD (l.take k)+wt l[k]:=by unfold bD;rw[ZB,ZF,YO,Zh h];simp only[Xj.toList,ZP,YF,Q.sum_cons,Q.sum_nil,Zr]
def El{l:Q I}{k:I}:bD (l.take k)≤bD l:=by have:=Xp bD (Zw k l);unfold bD at this⊢;rw[ZF,YO]at this;omega
def ab6{l:Q I}{x:I}(h:x∈l):wt x≤bD l:=by obtain⟨i,a,rfl⟩:=ZY h;have:=xz a;have:=El (l:=l) (k:=i+1);omega
def used(l:Q I):Q I:=(Zt l.length).filter λs=>decide (0<l.getD s 0)
def AJ(l:Q I)(i:H):H:=(l.getD i.toNat 0:H)
def da(l c:Q I):Prop:=c.Perm (used l)∧c.Pairwise λa b=>l.getD a 0<l.getD b 0∨(l.getD a 0=l.getD b 0∧a<b)
end
end Go.Srt
namespace Go.Proofs.Q9
section
open Go Go.Vc Go.Srt
section
variable{E w:G}{F:Q HP}
theorem X9{n:I}{K:H→G→Prop}(d:K (wt n:H) w):Cl Zf [kI] 397 ⟨[.int .u8 (n:H)]⟩ w K:=by refine J9.ok _ _ _ ?_;unfold wt at d;refine aa.mk (λh=>?_) λh=>aa.mk (λc=>?_) λc=>⟨Za,?_⟩;{grind};{grind};{have h:n≠0:=by{have:=Xm h;omega};have c:¬n>15:=by{have:=Xm c;omega};rw[Xf h,Xf c]at d;have e:=cC (k:=.i64) (a:=32768) (b:=n) (by have:Xy.bits .i64=64:=Z;omega);rw[show(32768:H)=((32768:I):H)from Z,e];have:32768/2^n=2^(15-n):=by{have f:(2:I)^15=32768:=by{decide};have g:=I.pow_sub_mul_pow 2 (show n≤15 by omega);rw[f]at g;exact I.div_eq_of_eq_mul_left (Ym n) g.symm};rw[this];exact d}
theorem Bz{l:Q I}{K:H→G→Prop}(h:Hp E w F)(g:l.length=258)(q:∀w',Hp E w' F→K (bD l:H) w'):Cl Zf [kI] 384 ⟨[.agg (ai .u8 l)]⟩ w K:=by refine Pv.ok _ _ _ ?_;refine Nw.mk h λb r d=>Ld.arr d (by rw[bq,g]) ?_;have t:=LG l;refine⟨λf i w'=>∃k:I,i=(k:H)∧k≤258∧f=(bD (l.take k):H)∧Hp E w' F,λ_ i _=>258-i.toNat,⟨0,Z,Za,by simp[bD],d.drop⟩,?_⟩;intro f i w' j;obtain⟨k,m,u,n,o⟩:=j;subst m;subst n;refine aa.mk (λa=>?_) λp=>?_;{have a:k<258:=by{have:=Xo a;omega};have c:k<l.length:=by{omega};refine fL.rd (s:=.int .u8) Za Za (l[k]:H) (by rw[Zn];exact jr c) (X9 ?_);have e:=xz c;have:=El (l:=l) (k:=k+1);rw[ae (x:=(bD (l.take k):H)+(wt l[k]:H)) Za,ae Za];exact⟨⟨k+1,Z,Za,by rw[e];rfl,o⟩,by dsimp only;omega⟩};{grind}
theorem abJ{l:Q I}{K:Xg→G→Prop}(h:Hp E w F)(a:l.length=258)(d:∀w',Hp E w' F→K (XE (bD l≤32768)) w'):Cl Zf [kB] 348 ⟨[.agg (ai .u8 l)]⟩ w K:=by refine OL.ok _ _ _ ?_;refine Nw.mk h λb f c=>Ld.arr c (by rw[bq,a]) (Bz c a λg e=>?_);have:XE ((bD l:H)≤32768)=XE (bD l≤32768):=by{rw[Yu];simp;omega};rw[this];exact d _ e.drop
theorem zM{l:Q I}{K:Xg→G→Prop}(h:Hp E w F)(a:l.length=258)(d:∀w',Hp E w' F→K (XE (bD l≤32768)) w'):Cl Zf [kB] 295 ⟨[.agg (ai .u8 l)]⟩ w K:=by refine BA.ok _ _ _ ?_;exact Nw.mk h λb f c=>Ld.arr c (by rw[bq,a]) (abJ c a λg e=>d _ e.drop)
theorem VW{x y:H}{K:H→G→Prop}(a:∀z:H,(z<0↔x<y)→K z w):Cl Zf [kI] 350 ⟨[.int .u8 x,.int .u8 y]⟩ w K:=by refine yK.ok _ _ _ _ ?_;refine qL.ok _ _ _ (qL.ok _ _ _ ?_);refine aa.f Zd (aa.f Zd (aa.mk (λh=>a _ ?_) λh=>aa.mk (λb=>a _ ?_) λb=>a _ ?_));{grind};{have:=Xm h;omega};{have:=Xm h;omega}
theorem abX{l:Q I}{b:I}{t:Xn}(m:l.length=258):yj E (ag b (.cells (ai .u8 l) t (0,0))::F) (.func (.func 349) ⟨[]⟩ ⟨[.pointer (V ⟨b,0,U⟩)]⟩) (AJ l) (λx=>0≤x∧x<258):=by rintro A w y x K h ⟨e,n⟩ ⟨f,o⟩ i;refine dj.mk Zc ?_;refine yO.ok y x ⟨b,0,U⟩ K w ?_;have p:=h.perm ZW;have a:x.toNat<l.length:=Za;have c:y.toNat<l.length:=Za;refine aC.mk h λj g=>?_;have d:=g.perm ZW;refine aK.rd (s:=.int .u8) d f Za (l[y.toNat]:H) (jr c) ?_;refine aK.rd (s:=.int .u8) d e Za (l[x.toNat]:H) (jr a) ?_;refine VW λz k=>i z j ?_ g;rw[k];unfold AJ;rw[Zo,Zo,Zh a,Zh c];rfl
theorem mW:cF Zf 25 3 1 8:=cF.of Zc Zc
def iH(l:Q I)(k:I):Q I:=(Zt k).filter λs=>decide (0<l.getD s 0)
theorem nN{l:Q I}{k:I}:iH l (k+1)=iH l k++if 0<l.getD k 0 then[k]else[]:=by unfold iH;rw[YP,Q.filter_append];congr 1;by_cases h:0<l.getD k 0;{grind};{grind}
theorem Cr{z:H}:∀y∈[vI z],aD y=O:=by intro y a;have:y=vI z:=by{simpa using a};rw[this];rfl
theorem oQ(l:Q I)(k:I):(iH l k).length≤k:=by have:=Q.length_filter_le (λs=>decide (0<l.getD s 0)) (Zt k);simpa[iH]using this
def ints(l:Q I):Q H:=l.map λ(x:I)=>(x:H)
theorem IE{a b:Q I}:ints (a++b)=ints a++ints b:=ZF
theorem W0{l:Q I}{K:Sl→G→Prop}(h:Hp E w F)(g:l.length=258)(u:¬bD l≤32768→∀w',Hp E w' F→K ⟨U,0,0⟩ w')(v:bD l≤32768→∀ys s w',da l ys→Hp E w' (ao 1 s ((ints ys).map vI)::F)→K s w'):Cl Zf [kS] 296 ⟨[.agg (ai .u8 l)]⟩ w K:=by refine Bn.ok _ _ _ ?_;refine Nw.mk h λb w1 B=>Ld.arr B (by rw[bq,g]) (zM B g λN z=>?_);refine aa.mk (λr=>u Ze N z.drop) λr=>?_;have r:bD l≤32768:=by{simpa using r};refine Ld.arr z (by rw[bq,g]) ?_;refine⟨λo i w'=>∃k:I,i=(k:H)∧k≤258∧Hp E w' (ao 1 o ((ints (iH l k)).map vI)::ag b (.cells (ai .u8 l) 172 (0,0))::F),λ_ i _=>258-i.toNat,⟨0,rfl,Za,z.aU 1⟩,?_⟩;intro o i w' P;obtain⟨k,R,hk,t⟩:=P;subst R;refine aa.mk (λj=>?_) λf=>?_;{have j:k<258:=by{have:=Xo j;omega};have m:k<l.length:=by{omega};have C:l.getD k 0=l[k]:=by{rw[Zo,Zh m];rfl};refine fL.rd (s:=.int .u8) Za Za (l[k]:H) (by rw[Zn];exact jr m) ?_;refine aa.mk (λc=>?_) λc=>?_;{have c:0<l[k]:=by{have:=Xo c;omega};refine Nw.mk t λS L p=>?_;have T:=t.aV;have hu:=oQ l k;simp only[Zq,ints,ZE]at T;refine bg (ys:=[vI (k:H)]) (n:=1) mW Zb (.inl ⟨3,Zc⟩) p.p1 (.inl ⟨V ⟨S,0,U⟩,1,1,rfl,rfl,p.an (ad.ax rfl rfl)⟩) rfl Cr Za Za λs' w4 W X=>?_;rw[ae Za];refine⟨⟨k+1,rfl,Za,?_⟩,by dsimp only;omega⟩;rw[nN,C,Xh c,IE,ZF];exact W.p1.drop};{have c:¬0<l[k]:=by{have:=Xm c;omega};rw[ae Za];refine⟨⟨k+1,rfl,Za,?_⟩,by dsimp only;omega⟩;rw[nN,C,Xf c,ZG];exact t}};{have f:k=258:=by{have:=Xm f;omega};subst f;have A:∀x∈iH l 258,x<258:=λx q=>by{have:=(List.mem_filter.1 q).1;simpa using this};refine xW (key:=AJ l) (D:=λx=>0≤x∧x<258) t (by have:=oQ l 258;rw[aL];simp only[ints,Zq];omega) (abX g) (λx q=>?_) ?_ λys L c M p=>?_;{obtain⟨y,Y,rfl⟩:=List.mem_map.1 q;have:=A y Y;omega};{unfold ints;refine Q.Pairwise.map _ (λa b d=>Int.ofNat_lt.2 d) ?_;exact Q.Pairwise.filter _ Q.pairwise_lt_range};{have hU:iH l 258=used l:=by{unfold iH used;rw[g]};rw[hU]at c;have e:ys=ints (ys.map H.toNat):=by{unfold ints;rw[YK];refine(Q.map_id ys).symm.trans (Z2 λx q=>?_);obtain⟨y,_,rfl⟩:=List.mem_map.1 (c.mem_iff.1 q);simp};have pN:(ys.map H.toNat).Perm (used l):=by{have:=c.map H.toNat;refine this.trans ?_;unfold ints;rw[YK];refine Q.Perm.of_eq ((Z2 λx _=>?_).trans (Q.map_id _));simp};rw[e]at p M;refine v r (ys.map H.toNat) _ L ⟨pN,?_⟩ p.p1.drop;refine(List.pairwise_map.1 M).imp λ{a b} d=>?_;unfold Ky AJ at d;simp only[Zn]at d;omega}}
end
end
section
open Go Go.Vc Go.Pol Go.Srt
section
variable{E w:G}{F:Q HP}
end
set_option maxRecDepth 100000
section
variable{E w:G}{F:Q HP}
def Ux(a:I):Prop:=∀{E w:G}{F:Q HP}{n:H}{side mode:I}{K:Sl→H→G→Prop},Hp E w F→(∀m:I,n=(m:H)→vE m side mode→∀s w',Hp E w' (ao 1 s ((ints (layout m side mode)).map vI)::F)→K s 0 w')→(¬(0≤n∧vE n.toNat side mode)→∀w',Hp E w' F→K ⟨U,0,0⟩ 2 w')→Cl Zf [kS,kI] a ⟨[.int .i64 n,.int .u8 (side:H),.int .u8 (mode:H)]⟩ w K
theorem jD.lkV{P:Xk}{s:Sem Xe}{w:G}{K:Xe→Xg→G→Prop}(x:Xe)(b:Xg)(h:s.run P w=.ok (.tuple #[x,.bool b]) w)(a:K x b w):jD P s [kV,kB] w K:=by unfold jD;rw[h];exact a
theorem Wu(w:G):(XG 223).run Zf w=.ok .nilFunc w:=Zc
theorem nu{b:I}{l:Q I}{t:Xn}{vs:Q Xe}(h:Hp E w (ag b (.cells ⟨vs⟩ t (0,0))::F))(a:vs=(ints l).map vI):Hp E w (ao 1 ⟨V ⟨b,0,U⟩,vs.length,vs.length⟩ ((ints l).map vI)::F):=by subst a;exact h.sN (sz:=1) Zd
theorem V4{j m:I}{K:Sl→G→Prop}(g:j<6)(h:Hp E w F)(n:1≤m)(i:m≤65536)(c:∀s w',Hp E w' (ao 1 s ((ints (layout m (j/3+1) (j%3+1))).map vI)::F)→K s w'):dj Zf (vP j) [kS] [.int .i64 (m:H)] w K:=by have l:YN .i64=9223372036854775807:=Z;have d:aJ .i64 (m:H) 13=((m/8192:I):H):=cC (k:=.i64) (a:=m) (b:=13) Zb;have f:aJ .i64 (m:H) 10=((m/1024:I):H):=cC (k:=.i64) (a:=m) (b:=10) Zb;match j,g with|0,_=>refine dj.mk Zc (qq.ok _ _ _ (Nw.mk h λb w h=>c _ _ (nu h ?_)));simp[layout,ints,vI]|1,_=>refine dj.mk Zc (qq.ok _ _ _ (Nw.mk h λb w h=>c _ _ (nu h ?_)));simp[layout,ints,vI]|2,_=>refine dj.mk Zc (AB.ok _ _ _ (Nw.mk h λb w h=>c _ _ (nu h ?_)));have e:(i64 (4*(if(1024:H)<i64 ((m:H)+1)then(1024:H)else i64 ((m:H)+1))))=((4*XO (m+1) 1024:I):H):=by{rw[ae (x:=(m:H)+1) Za,ae Ze];split<;>omega};simp only[layout,ints,vI,ni];rw[e];rfl|3,_=>refine dj.mk Zc (Ai.ok _ _ _ ⟨Zb,Nw.mk h λb w h=>c _ _ (nu h ?_)⟩);rw[d,ae Za];rfl|4,_=>refine dj.mk Zc (zD.ok _ _ _ ⟨Zb,Nw.mk h λb w h=>c _ _ (nu h ?_)⟩);rw[f,ae Za];rfl|5,_=>refine dj.mk Zc (Ax.ok _ _ _ (Nw.mk h λb w h=>c _ _ (nu h ?_)));rw[ae (x:=(m:H)+1) Za,ae Za];rfl
theorem ad5:∀i,i<6→63/2^i%2=1:=Zb
theorem U0{j:I}(a:j<6):Ah j=(((j/3+1:I):H),((j%3+1:I):H)):=by match j,a with|0,_=>rfl|1,_=>rfl|2,_=>rfl|3,_=>rfl|4,_=>rfl|5,_=>rfl
theorem NL:Ux 91:=by intro E w F n side mode K h d b;refine F7.ok _ _ _ _ _ (PM h λm l w x h=>?_);have c:=B8 (ke:=qz) (ve:=λv:Xe=>v) Ij acp (a:=((side:H),(mode:H))) Wu h;by_cases hs:(side=1∨side=2)∧1≤mode∧mode≤3;{obtain⟨j,o,rfl,rfl⟩:∃j,j<6∧side=j/3+1∧mode=j%3+1:=⟨3*(side-1)+(mode-1),Za,Za,Za⟩;have p:=x.has j o;rw[Xh (ad5 j o),U0 o]at p;obtain⟨q,r,u⟩:=Option.map_eq_some_iff.1 p;rw[r]at c;refine jD.lkV _ _ c (aa.f rfl ?_);dsimp only;rw[u];refine aa.dm (λy=>b (λg=>by have:=g.2.2.2.2.1;omega) _ h.drop) λz=>aa.dm (λA=>b (λg=>by have:=g.2.2.2.2.2;omega) _ h.drop) λB=>?_;obtain⟨k,rfl⟩:∃k:I,n=(k:H):=⟨n.toNat,Za⟩;exact V4 o h Za Za λs w h=>d k rfl ⟨hs.1,hs.2.1,hs.2.2,Za,Za⟩ s w (h.no 1)};{have p:=x.no ((side:H),(mode:H)) (λi C e=>by rw[U0 C]at e;injection e with D G;exact hs ⟨Za,Za,Za⟩);have r:findAt ((side:H),(mode:H)) l 0=U:=by{grind};rw[r]at c;exact jD.lkV _ _ c (aa.t rfl (b (λg=>hs ⟨g.2.1,g.2.2.1,g.2.2.2.1⟩) _ h.drop))}
end
end
end Go.Proofs.Q9
namespace Go.Pol
section
def cp(a n:H)(side:I):I×I:=if¬(1≤n∧n≤65536)∨¬(1≤a∧a≤1048576)then(0,2)else if aE a.toNat n.toNat side=0 then(0,230)else(aE a.toNat n.toNat side,0)
def LU{n side mode:I}(h:n≤65536):bu n side mode≤400000:=by unfold bu layout;split;{split<;>simp<;>omega};{grind}
def afa(mode:I):I:=if mode=1 then 8192 else if mode=2 then 1024 else 1
def bound(n mode:I):I:=8300+15*(n+1)+(2*n+1)*XO n (afa mode)
end
end Go.Pol
namespace Go.Proofs.Q9
section
open Go Go.Vc Go.Pol Go.Srt
section
variable{E w:G}{F:Q HP}
end
set_option maxRecDepth 100000
section
variable{E w:G}{F:Q HP}
def abp(a:I):Prop:=∀{E w:G}{F:Q HP}{n:H}{side mode:I}{K:H→H→G→Prop},Hp E w F→(∀m:I,n=(m:H)→vE m side mode→∀w',Hp E w' F→K (bu m side mode:H) 0 w')→(¬(0≤n∧vE n.toNat side mode)→∀w',Hp E w' F→K 0 2 w')→Cl Zf [kI,kI] a ⟨[.int .i64 n,.int .u8 (side:H),.int .u8 (mode:H)]⟩ w K
theorem Ag{l:Q I}{k:I}(a:k<l.length):(l.take (k+1)).sum=(l.take k).sum+l[k]:=by rw[ZB,YO,Zh a];simp
theorem nT(l:Q I)(k:I):(l.take k).sum≤l.sum:=by have:=Xp Q.sum (Zw k l);rw[YO]at this;omega
theorem adJ{t:XM}(y:Ux t){n:H}{side mode:XM}{K:H→H→G→Prop}(h:Hp E w F)(c:∀m:XM,n=(m:H)→vE m side mode→∀w',Hp E w' F→K (bu m side mode:H) 0 w')(d:¬(0≤n∧vE n.toNat side mode)→∀w',Hp E w' F→K 0 2 w'):Cl Zf [kS,kI] t ⟨[.int .i64 n,.int .u8 (side:H),.int .u8 (mode:H)]⟩ w λ(s:Sl)(e:H) w=>dE 0 0 w λI m(a:H)(i:H) w=>aa (XE (i<(s.len:H))) (ay s i 1 λq=>Ld kI q w λ(x:H)=>I (i64 (a+x)) (i64 (i+1)) w∧m (i64 (a+x)) (i64 (i+1)) w<m a i w) (K a e w):=by refine y h (λm z u s w h=>?_) λj w h=>?_;{have f:=LU (side:=side) (mode:=mode) u.2.2.2.2;unfold bu at f;have b:=h.aV;rw[Zq,ZE,show(ints (layout m side mode)).length=(layout m side mode).length from Zq ..]at b;have o:(layout m side mode).length≤3:=by{unfold layout;split<;>(try split)<;>(try split)<;>simp};generalize A:layout m side mode=l at f h b o;refine⟨λa i w=>∃k:XM,i=(k:H)∧k≤l.length∧a=((l.take k).sum:H)∧Hp E w (ao 1 s ((ints l).map vI)::F),λ_ i _=>l.length-i.toNat,⟨0,Z,Za,Zd,h⟩,?_⟩;rintro a i w ⟨k,rfl,hk,rfl,h⟩;have B:=nT l k;refine aa.dm (λg=>?_) λC=>?_;{have g:k<l.length:=by{omega};have p:=Ag g;have v:=nT l (k+1);refine ay.rd (h.an ad.own) Za Za λq _ D=>?_;refine Ld.sc (s:=.int .i64) (l[k]:H) (by rw[D];simp[Sc.enc,vI,ints]) ?_;rw[ae Za,ae Za];exact⟨⟨k+1,Za,Za,by rw[p];omega,h⟩,by first|omega|(dsimp only;omega)⟩};{have r:k=l.length:=by{omega};subst r;rw[Zx (Zy _)];have:=c m z u w h.drop;unfold bu at this;rw[A]at this;exact this}};{exact⟨λa i w=>a=0∧i=0∧Hp E w F,λ_ _ _=>0,⟨Z,Z,h⟩,λa i w⟨L,M,h⟩=>by subst L;subst M;exact aa.df Zb (d j _ h)⟩}
theorem OT:abp 79:=by intro E w F n side mode K h a b;exact KH.ok _ _ _ _ _ (adJ NL h a b)
theorem VL{n:H}{side:I}{K:H→H→G→Prop}(h:Hp E w F)(a:∀m:I,n=(m:H)→vE m side 1→∀w',Hp E w' F→K (bu m side 1:H) 0 w')(b:¬(0≤n∧vE n.toNat side 1)→∀w',Hp E w' F→K 0 2 w'):Cl Zf [kI,kI] 134 ⟨[.int .i64 n,.int .u8 (side:H)]⟩ w K:=Hl.ok _ _ _ _ (OT (mode:=1) h a b)
theorem O9{a n:H}{side:I}{K:H→H→G→Prop}(h:Hp E w F)(r:side=1∨side=2)(d:∀w',Hp E w' F→K ((cp a n side).1:H) ((cp a n side).2:H) w'):Cl Zf [av .u8,kI] 90 ⟨[.int .i64 a,.int .i64 n,.int .u8 (side:H)]⟩ w K:=by refine Ks.ok _ _ _ _ _ (nq (λs=>∀(m:I) w,n=(m:H)→vE m side 1→(1≤a∧a≤1048576)→Hp E w F→s w) ?_ λs q=>?_);{rintro m w rfl c ⟨hb1,hb2⟩ h;obtain⟨b,rfl⟩:∃b:I,a=(b:H):=⟨a.toNat,Za⟩;have u:cp (b:H) (m:H) side=if aE b m side=0 then(0,230)else(aE b m side,0):=by{have:=c.2.2.2;unfold cp;rw[Xf Za];rfl};rw[u]at d;have p:∀mode,1≤mode→mode≤3→vE m side mode:=λmode l o=>⟨r,l,o,c.2.2.2.1,c.2.2.2.2⟩;refine⟨λmode w=>∃k:I,mode=(k:H)∧k≤3∧(∀j,k<j→j≤3→b<bu m side j)∧Hp E w F,λmode _=>mode.toNat,⟨3,rfl,Za,λj l o=>Za,h⟩,?_⟩;rintro mode w ⟨k,rfl,hk,hlo,h⟩;refine aa.dm (λt=>?_) λA=>?_;{refine OT h (λv e _ w h=>?_) λf=>Xu ⟨Za,p k Za hk⟩ f;obtain rfl:m=v:=by{omega};refine aa.dm (λx=>?_) λy=>?_;{have g:aE b m side=k:=by{unfold aE;have:k=1∨k=2∨k=3:=by{omega};(rcases this with rfl|rfl|rfl);{grind};{grind};{rw[Xh Za]}};rw[g,Xf Za]at d;exact d w h};{obtain⟨i,rfl⟩:∃i,k=i+1:=⟨k-1,Za⟩;rw[im Za];refine⟨⟨i,Za,Za,λj l o=>?_,h⟩,by first|omega|(dsimp only;omega)⟩;by_cases e:j=i+1;{subst e;omega};{grind}}};{obtain rfl:k=0:=by{omega};have g:aE b m side=0:=by{unfold aE;have l:=hlo 1 Za Za;have o:=hlo 2 Za Za;have B:=hlo 3 Za Za;rw[Xf Za,Xf Za,Xf Za]};rw[g,Xh rfl]at d;exact d w h}};{refine VL h (λm z c w h=>?_) λf w h=>?_;{refine aa.nf rfl (aa.dm (λl=>?_) λl=>aa.dm (λo=>?_) λo=>q m w z c Za h);{have:=d w h;rw[show cp a n side=(0,2) by unfold cp;rw[Xh Za]]at this;exact this};{have:=d w h;rw[show cp a n side=(0,2) by unfold cp;rw[Xh Za]]at this;exact this}};{refine aa.nt Zb ?_;have:=d w h;rw[show cp a n side=(0,2) by unfold cp;rw[Xh];refine .inl λC=>f ⟨Za,r,Za,Za,Za,Za⟩]at this;exact this}}
end
end
end Go.Proofs.Q9
namespace Go.Crc
section
def half(c:I):I:=(c/2)^^^(if c%2=1 then 3988292384 else 0)
def row(c:I):I:=half (half (half (half (half (half (half (half c)))))))
def step(c b:I):I:=row ((c%256)^^^b)^^^(c/256)
def feed(c:I)(b:Q I):I:=b.foldl step c
def bQ(b:Q I):I:=feed 4294967295 b^^^4294967295
def jz{c:I}(h:c<4294967296):half c<4294967296:=by unfold half;exact I.xor_lt_two_pow (n:=32) Za Ze
def QP{c:I}(h:c<4294967296):row c<4294967296:=jz (jz (jz (jz (jz (jz (jz (jz h)))))))
def MK{c b:I}(h:c<4294967296)(a:b<256):step c b<4294967296:=by unfold step;have d:(c%256)^^^b<256:=I.xor_lt_two_pow (n:=8) Za a;exact I.xor_lt_two_pow (n:=32) (QP Za) Za
def yd:∀(b:Q I)(c:I),c<4294967296→(∀x∈b,x<256)→feed c b<4294967296|[],_,h,_=>h|x::b,c,h,hb=>by rw[feed,Q.foldl_cons];exact yd b _ (MK h (hb x ZJ)) λy a=>hb y (Zv _ a)
def Jb(a b:Q I)(c:I):feed c (a++b)=feed (feed c a) b:=Q.foldl_append
def kR{b:Q I}(a:∀x∈b,x<256):bQ b<4294967296:=I.xor_lt_two_pow (n:=32) (yd b _ Zb a) Zb
end
end Go.Crc
namespace Go.Vc
section
open Go
def lB(f:I→I)(L i:I):I→I:=λj=>if j<L∧(j<i∨L≤j+i)then f (L-1-j)else f j
def RE(f:I→I)(L:I):lB f L 0=f:=by funext j;unfold lB;rw[Xf Za]
def Qe{f:I→I}{L i k:I}(e:i+k+1=L)(a:i<k):dh (dh (lB f L i) i (lB f L i k)) k (lB f L i i)=lB f L (i+1):=by funext j;have c:lB f L i k=f k:=by{unfold lB;rw[Xf Za]};have d:lB f L i i=f i:=by{unfold lB;rw[Xf Za]};rw[c,d];simp only[dh,lB];by_cases h1:j=k;{grind};{grind}
def SL{f:I→I}{L i:I}(h:L≤2*i+1):bj (lB f L i) 0 L=(bj f 0 L).reverse:=by apply YS;{rw[Z3,bG,bG]};{intro j a c;rw[bG]at a;rw[eJ a,Q.getElem_reverse];simp only[bG];rw[eJ Za];simp only[lB,Zl];by_cases h3:j<L∧(j<i∨L≤j+i);{rw[Xh h3]};{grind}}
end
end Go.Vc
namespace Go.Pol
section
def fq(n mode:I):Q (I×I):=places 0 (layout n 1 mode)
def RT{n mode:I}:∃r,fq n mode=(0,n)::r:=by unfold fq layout;rw[Xh Z];split<;>exact⟨_,Z⟩
def Tz(n:I):fq n 3=[(0,n),(n,n),(n+n,4*XO (n+1) 1024)]:=by unfold fq layout;rw[Xh Z,Xh Z];simp[places]
end
end Go.Pol
namespace Go.Proofs.Q9
section
open Go Go.Vc Go.Bw Go.Pol Go.Srt
structure EC where
 n:I
 mode:I
 A:AS
 held:Q I
 all:Q I
 begun:Xg
 closed:Xg
structure lE (C:EC):Prop where
 n1:1≤C.n
 n2:C.n≤65536
 m1:1≤C.mode
 m3:C.mode≤3
 live:bu C.n 1 C.mode=C.A.live
 len:C.held.length≤C.n
 hb:∀x∈C.held,x<256
 ab:∀x∈C.all,x<256
def dV(p:I×I):Q Xe:=[.int .i64 (p.1:H),.int .i64 (p.2:H)]
def dQ(p:I×I):(dV p).length=2:=Z
abbrev iU(b:I)(C:EC)(sp:Sl):HP:=ag b (.cells ⟨[.int .i64 (C.n:H),.int .i64 (C.held.length:H),.int .u8 (C.mode:H),pA C.A,.slice sp.base sp.len sp.cap,.int .u32 (Crc.bQ C.held:H),.int .u32 (Crc.bQ C.all:H),.bool C.begun,.bool C.closed]⟩ 154 (0,0))
abbrev iT(C:EC)(sp:Sl):HP:=ao 2 sp ((fq C.n C.mode).flatMap dV)
abbrev pE(b:I):Xe:=.pointer (V ⟨b,0,U⟩)
section
variable{E w:G}{F:Q HP}{b:I}{C:EC}{sp:Sl}{f:I→I}
theorem G6{a:Q (I×I)}{i:I}{G:Q HP}{K:H×H×Unit→Prop}(h:Hp E w G)(d:ad G (aI 2 sp (a.flatMap dV)))(e:i<a.length)(g:K ((a[i].1:H),(a[i].2:H),())):ay sp (i:H) 2 λq=>Ld (.st [.int .i64,.int .i64]) q w K:=by refine ay.el dQ Zb (h.an d) Z e λp k=>Ld.st (ks:=[.int .i64,.int .i64]) ((a[i].1:H),(a[i].2:H),()) (λj c=>?_) g;have c:j<2:=c;rw[k j c];match j,c with|0,_=>rfl|1,_=>rfl
theorem sq{i:I}{K:H×H×Unit→G→Prop}(h:Hp E w (iU b C sp::iT C sp::F))(a:i<(fq C.n C.mode).length)(c:∀w',Hp E w' (iU b C sp::iT C sp::F)→K ((((fq C.n C.mode)[i]).1:H),(C.held.length:H),()) w'):Cl Zf [.st [.int .i64,.int .i64]] 202 ⟨[pE b,.int .i64 (i:H)]⟩ w K:=by refine tI.ok _ _ _ _ ?_;refine Nw.mk h λd w h=>aC.mk h λw h=>?_;(try simp only[aq,aj,Zl]);refine Ld.xb (b:=b) (x:=sp) h Z ?_;refine ay.el dQ Zb (h.an (ad.at 2 ad.own)) Z a λp e=>?_;refine Ld.sc (s:=.int .i64) (((fq C.n C.mode)[i]).1:H) (by have:=e 0 Zb;simpa[dV,Sc.enc]using this) ?_;refine Ld.xb (b:=b) h Z ?_;(with_reducible refine ak.xw h Z Z λw h=>?_);exact Ld.xt (b:=d) h Z (c w (h.no 0))
theorem Gw{n mode:I}:∃h:0<(fq n mode).length,(fq n mode)[0]=(0,n):=by obtain⟨r,e⟩:=RT (n:=n) (mode:=mode);exact⟨by rw[e];simp,by simp[e]⟩
theorem lE.Ge(a:lE C):C.n≤C.A.live:=by rw[←a.live];unfold bu layout;rw[Xh Z];split<;>simp
theorem U8{K:G→Prop}(m:lE C)(h:Hp E w (iU b C sp::iT C sp::Ar C.A f::F))(v:∀g w',bj g 0 C.held.length=(bj f 0 C.held.length).reverse→Hp E w' (iU b C sp::iT C sp::Ar C.A g::F)→K w'):Cl Zf [] 139 ⟨[pE b]⟩ w K:=by refine tW.ok _ _ _ ?_;have y:=m.n2;have c:=m.len;have o:=m.Ge;obtain⟨z,B⟩:=Gw (n:=C.n) (mode:=C.mode);(try simp only[aq,aj,Zl]);refine Ld.xb (b:=b) (x:=sp) h rfl ?_;refine G6 (i:=0) h (ad.at 1 ad.own) z ?_;rw[B];refine Nw.mk h λe w h=>?_;(with_reducible refine ak.xw h rfl rfl λw h=>?_);refine aC.mk h λw h=>?_;(skip);refine Ld.xb (b:=b) h rfl ?_;rw[ae Za];generalize u:C.held.length=L at c;have D:=u;refine⟨λi k w=>∃d:I,i=(d:H)∧k=(L:H)-1-(d:H)∧2*d≤L+1∧Hp E w (Ar C.A (lB f L d)::ag e (.cells ⟨[.int .i64 ((0:I):H),.int .i64 (C.n:H)]⟩ 156 (0,0))::iU b C sp::iT C sp::F),λi _ _=>L-i.toNat,⟨0,rfl,Za,Za,by rw[RE];exact h.at 3⟩,?_⟩;rintro i k w ⟨d,rfl,rfl,hd,h⟩;refine aa.dm (λM=>?_) λN=>?_;{obtain⟨k,P⟩:∃k:I,(L:H)-1-(d:H)=(k:H):=⟨L-1-d,Za⟩;rw[P];have r:d+k+1=L:=by{omega};have s:d<k:=by{omega};obtain⟨l,_⟩:=Ar.bS h;refine aC.mk h λw h=>?_;(try simp only[]);refine Ld.xb (b:=b) h rfl (Ld.xt (b:=e) h rfl ?_);refine gd (p:=0) (q:=C.n) h Za (λj Q t w h=>?_) λa=>Xu ⟨Za,Za⟩ a;obtain rfl:d=j:=by{omega};refine aC.mk h λw h=>?_;(try simp only[Zl]);refine Ld.xb (b:=b) h rfl (Ld.xt (b:=e) h rfl ?_);refine gd (p:=0) (q:=C.n) h Za (λj Q t w h=>?_) λa=>Xu ⟨Za,Za⟩ a;obtain rfl:k=j:=by{omega};refine aC.mk h λw h=>?_;(try simp only[Zl]);refine Ld.xb (b:=b) h rfl (Ld.xt (b:=e) h rfl ?_);refine kU (p:=0) (q:=C.n) h Za Za (l.byt _) λw h=>?_;refine aC.mk h λw h=>?_;(skip);refine Ld.xb (b:=b) h rfl (Ld.xt (b:=e) h rfl ?_);refine kU (p:=0) (q:=C.n) h Za Za (l.byt _) λw h=>?_;rw[ae Za,ae Za];refine⟨⟨d+1,Za,Za,Za,?_⟩,by first|omega|(dsimp only;omega)⟩;simp only[Zl]at h;rw[Qe r s]at h;exact h};{refine v (lB f L d) w (by rw[u];exact SL Za) ?_;exact(((h.no 1).at 2).at 2)}
theorem Tu{K:H×H×Unit→H→G→Prop}(a:lE C)(r:1≤C.held.length)(h:Hp E w (iU b C sp::iT C sp::Ar C.A f::F))(k:∀g w',bj g 0 C.held.length=aW (bj f 0 C.held.length)→Hp E w' (iU b C sp::iT C sp::Ar C.A g::F)→K (((0:I):H),(C.held.length:H),()) (bJ (bj f 0 C.held.length):H) w'):Cl Zf [.st [.int .i64,.int .i64],kI] 137 ⟨[pE b]⟩ w K:=by refine sQ.ok _ _ _ ?_;have l:=a.n2;have d:=a.len;have c:=a.Ge;obtain⟨e,j⟩:=Gw (n:=C.n) (mode:=C.mode);refine Nw.mk h λm w h=>?_;have h:=h.drew (n:=w.drawn+1);(try simp only[aq,aj,Zl]);refine⟨bT b _ _ (0,0),h.hb,aA.xb (λ_ h=>h) Z ?_⟩;refine sq (i:=0) ((h.at 2).at 2) e λw h=>⟨h.hb,?_⟩;rw[j];refine Tw (p:=0) (q:=C.held.length) (h.at 3) Za Za Za λg s w o _ h=>⟨h.hb,?_⟩;refine sq (i:=0) ((h.at 2).at 2) e λw h=>?_;rw[j];(with_reducible refine ak.xw h Z Z λw h=>?_);exact Ld.xt (b:=m) h Z (k g w o (h.no 3))
theorem yh{a:Q (I×I)}{i:I}{S:G→Prop}{K:H×H×Unit→Prop}(h:aI 2 sp (a.flatMap dV) w)(l:∀w',S w'→aI 2 sp (a.flatMap dV) w')(m:i<a.length)(n:K ((a[i].1:H),(a[i].2:H),())):ay sp (i:H) 2 λq=>aA (.st [.int .i64,.int .i64]) q S K:=by have o:=h.1;rw[dC dQ]at o;obtain⟨p,k,_⟩:=h.2 0 (by rw[dC dQ];omega);refine ay.mk k Za Za (A5 (ks:=[.int .i64,.int .i64]) ((a[i].1:H),(a[i].2:H),()) (λw' r j c=>?_) n);have c:j<2:=c;have s:=l w' r;obtain⟨d,g,t⟩:=s.2 (i*2+j) (by rw[dC dQ];omega);obtain rfl:d=p:=Xj.some.inj (g.symm.trans k);rw[Zl,Zn,show(d.add (i*2)).add j=d.add (i*2+j) by unfold Zp;by_cases e1:i*2=0<;>by_cases e2:j=0<;>simp[e1,e2,Yw],t];have e:=mv dQ a i j m c;rw[Zh (by rw[dC dQ];omega)]at e;rw[e];have:j=0∨j=1:=Za;rcases this with rfl|rfl<;>rfl
theorem VB{K:H×H×Unit→H→Xx→Prop}(d:lE C)(p:1≤C.held.length)(k:C.mode=3)(h:Hp E w (iU b C sp::iT C sp::Ar C.A f::F))(q:∀g w',bj g C.n C.held.length=aW (bj f 0 C.held.length)→Hp E w' (iU b C sp::iT C sp::Ar C.A g::F)→K ((C.n:H),(C.held.length:H),()) (bJ (bj f 0 C.held.length):H) w'):Cl Zf [.st [.int .i64,.int .i64],kI] 138 ⟨[pE b]⟩ w K:=by refine ud.ok _ _ _ ?_;have r:=d.n1;have t:=d.n2;have l:=d.len;have c:fq C.n C.mode=[(0,C.n),(C.n,C.n),(C.n+C.n,4*XO (C.n+1) 1024)]:=by{rw[k];exact Tz _};have e:C.n+C.n+4*XO (C.n+1) 1024≤C.A.live:=by{rw[←d.live,k];unfold bu layout;rw[Xh Z,Xh Z];simp;omega};refine Nw.mk h λu w h=>?_;have h:=h.drew (n:=w.drawn+1);(try simp only[aq,aj,Zl]);have a:∀{w:Xx}{G:Q HP},Hp E w (iU b C sp::iT C sp::G)→bT b _ _ (0,0) w∧aI 2 sp ((fq C.n C.mode).flatMap dV) w:=λ{w G} h=>⟨h.hb,h.an (ad.at 1 ad.own)⟩;have j:=(h.at 2).at 2;have o:∀h,(fq C.n C.mode)[1]' h=(C.n,C.n):=by{rw[c];intro h;rfl};have v:∀h,(fq C.n C.mode)[2]' h=(C.n+C.n,4*XO (C.n+1) 1024):=by{rw[c];intro h;rfl};have y:(fq C.n C.mode).length=3:=by{rw[c];rfl};obtain⟨z,B⟩:=Gw (n:=C.n) (mode:=C.mode);refine⟨λw=>bT b _ _ (0,0) w∧aI 2 sp ((fq C.n C.mode).flatMap dV) w,a j,aA.xb (λ_ h=>h.1) Z (aA.xb (x:=sp) (λ_ h=>h.1) Z ?_)⟩;refine yh (i:=2) (a j).2 (λ_ h=>h.2) Za ?_;rw[v];refine sq (i:=0) j z λw h=>⟨a h,?_⟩;rw[B];refine sq (i:=1) h Za λw h=>⟨a h,?_⟩;rw[o];refine Th (pt:=0) (m:=C.held.length) (pc:=C.n) (pr:=C.n+C.n) (R:=XO (C.n+1) 1024) (h.at 3) Za Za Za p Za Za Za Za Za Za λg s w D h=>?_;have h:=(h.at 2).at 2;refine⟨a h,sq (i:=1) h Za λw h=>?_⟩;rw[o];(with_reducible refine ak.xw h Z Z λw h=>?_);exact Ld.xt (b:=u) h Z (q g w D (h.no 3))
end
def xg:Prop:=∀{E w:G}{F:Q HP}{b:I}{C:EC}{sp:Sl}{f:I→I}{K:H×H×Unit→H→G→Prop},lE C→1≤C.held.length→C.mode=3→Hp E w (iU b C sp::iT C sp::Ar C.A f::F)→(∀g w',bj g C.n C.held.length=aW (bj f 0 C.held.length)→Hp E w' (iU b C sp::iT C sp::Ar C.A g::F)→K ((C.n:H),(C.held.length:H),()) (bJ (bj f 0 C.held.length):H) w')→Cl Zf [.st [.int .i64,.int .i64],kI] 138 ⟨[pE b]⟩ w K
def aal:xg:=λa c d h e=>VB a c d h e
end
section
open Go Go.Vc
set_option maxRecDepth 100000
def Ov.ok(a:Sl)(R:Sl→G→Prop) w(h:Cl Pg [(.arr 257)] 208 ⟨[]⟩ w λc b=>Cl Pg [(.arr 257),kS,kI] 207 ⟨[(.agg c),(ah a)]⟩ b λe(f:Sl)(g:H) d=>Nw 296 ⟨Zj 256 (.int .u8 0)++[(ni 0)]⟩ d λi h=>aB 257 ⟨i,0,U⟩ e h λj=>Ld (.arr 257) ⟨i,0,U⟩ j λk=>Cl Pg [kS,kI] 209 ⟨[(.agg k)]⟩ j λ(m:Sl)(n:H) l=>au Pg (ZH #[25,25] 25 ⟨[(ah f),(ah m)]⟩) kS l λ(p:Sl) o=>R p o):Cl Pg [kS] 141 ⟨[(ah a)]⟩ w R:=co Tryz.f141 [] h
def KB.ok(a:(Xi Xe))(b:Sl)(R:(Xi Xe)→Sl→H→G→Prop) w(h:Nw 296 a w λd c=>Nw 296 ⟨Zj 256 (.int .u8 0)++[(ni 0)]⟩ c λf e=>aO (λ(r:G)=>dE (⟨U,0,0⟩:Sl) 0 r λs t(u:Sl)(v:H) x=>aa (K (v<(b.len:H))) (ay b v 1 λy=>Ld (av .u8) y x λ(z:H)=>Ld (.arr 256) (Zp ⟨d,0,U⟩ 0) x λI=>Cl Pg [(.arr 256),kI] 282 ⟨[(.agg I),(.int .u8 z)]⟩ x λL(B:H) M=>aB 256 (Zp ⟨d,0,U⟩ 0) L M λA=>aa (B==0) (Ld kI (Zp ⟨d,0,U⟩ 256) A λ(N:H)=>St (Zp ⟨d,0,U⟩ 256) (ni (i64 (N+1))) A λC=>s u (i64 (v+1)) C∧t u (i64 (v+1)) C<t u v x) (Ld kI (Zp ⟨d,0,U⟩ 256) A λ(P:H)=>Cl Pg [kS,kI] 283 ⟨[(ni P)]⟩ A λ(Q:Sl)(k1:H) S=>au Pg (ZH #[25,25] 25 ⟨[(ah u),(ah Q)]⟩) kS S λ(T:Sl) W=>Nw 3 ⟨[(ni (i64 (B+1)))]⟩ W λX Y=>au Pg (ZH #[25,25] 25 ⟨[(ah T),(ah (⟨V ⟨X,0,U⟩,1,1⟩:Sl))]⟩) kS Y λ(D:Sl) p1=>St (Zp ⟨d,0,U⟩ 256) (ni 0) p1 λE=>s D (i64 (v+1)) E∧t D (i64 (v+1)) E<t u v x)) (Ld (.arr 257) ⟨d,0,U⟩ x λs1=>aB 257 ⟨f,0,U⟩ s1 x λF=>Ld (.arr 257) ⟨f,0,U⟩ F λu1=>R u1 u 0 F)) λg=>Ld (.arr 257) ⟨d,0,U⟩ e λh=>Cl Pg [kB] 281 ⟨[(.agg h)]⟩ e λ(j:Xg) i=>aa (! j) (Ld (.arr 257) ⟨d,0,U⟩ i λk=>aB 257 ⟨f,0,U⟩ k i λl=>Ld (.arr 257) ⟨f,0,U⟩ l λm=>R m (⟨U,0,0⟩:Sl) 2 l) (Ld kI (Zp ⟨d,0,U⟩ 256) i λ(n:H)=>aa (K ((b.len:H)>(i64 ((2147483647:H)-n)))) (Ld (.arr 257) ⟨d,0,U⟩ i λo=>aB 257 ⟨f,0,U⟩ o i λp=>Ld (.arr 257) ⟨f,0,U⟩ p λq=>R q (⟨U,0,0⟩:Sl) 2 p) (g i))):Cl Pg [(.arr 257),kS,kI] 207 ⟨[(.agg a),(ah b)]⟩ w R:=co Tryz.f207 [(2,[]),(14,[(7,kS),(27,kI)])] h
def Ng.ok(R:(Xi Xe)→G→Prop) w(h:Nw 296 ⟨Zj 256 (.int .u8 0)++[(ni 0)]⟩ w λb a=>Cl Pg [(.arr 256)] 284 ⟨[]⟩ a λd c=>dr Pg 296 [(0,(.agg d))] λe=>aB 257 ⟨b,0,U⟩ e c λf=>Ld (.arr 257) ⟨b,0,U⟩ f λg=>R g f):Cl Pg [(.arr 257)] 208 ⟨[]⟩ w R:=co Tryz.f208 [] h
def OG.ok(a:(Xi Xe))(R:Sl→H→G→Prop) w(h:Nw 296 a w λc b=>Ld (.arr 257) ⟨c,0,U⟩ b λd=>Cl Pg [kB] 281 ⟨[(.agg d)]⟩ b λ(f:Xg) e=>aa (! f) (R (⟨U,0,0⟩:Sl) 2 e) (Ld kI (Zp ⟨c,0,U⟩ 256) e λ(g:H)=>Cl Pg [kS,kI] 283 ⟨[(ni g)]⟩ e λ(i:Sl)(j:H) h=>Nw 3 ⟨[(ni 257)]⟩ h λl k=>au Pg (ZH #[25,25] 25 ⟨[(ah i),(ah (⟨V ⟨l,0,U⟩,1,1⟩:Sl))]⟩) kS k λ(n:Sl) m=>R n 0 m)):Cl Pg [kS,kI] 209 ⟨[(.agg a)]⟩ w R:=co Tryz.f209 [] h
def JD.ok(a:(Xi Xe))(R:Xg→G→Prop) w(h:Nw 296 a w λc b=>dS b λd e=>aA (.arr 257) ⟨c,0,U⟩ d λf=>Cl Pg [(.arr 257)] 208 ⟨[]⟩ e λh g=>d g∧wu Pg 296 f h λi=>aa i (R O g) (aA kI (Zp ⟨c,0,U⟩ 256) d λ(j:H)=>aa (K (j≥0)) (aA kI (Zp ⟨c,0,U⟩ 256) d λ(k:H)=>aa (K (k≤2147483647)) (aA (.arr 256) (Zp ⟨c,0,U⟩ 0) d λl=>Cl Pg [kB] 340 ⟨[(.agg l)]⟩ g λ(n:Xg) m=>d m∧R n m) (R J g)) (R J g))):Cl Pg [kB] 281 ⟨[(.agg a)]⟩ w R:=co Tryz.f281 [] h
def VU.ok(a:(Xi Xe))(b:H)(R:(Xi Xe)→H→G→Prop) w(h:Nw 178 a w λd c=>Nw 178 ⟨Zj 256 (.int .u8 0)⟩ c λf e=>cu (⟨V ⟨d,0,U⟩,256,256⟩:Sl) 0 256 256 1 λg=>Cl Pg [kI] 341 ⟨[(ah g),(.int .u8 b)]⟩ e λ(i:H) h=>Ld (.arr 256) ⟨d,0,U⟩ h λj=>Cl Pg [(.arr 256),(av .u8),kB] 342 ⟨[(.agg j),(ni i)]⟩ h λl(m:H)(n:Xg) k=>aB 256 ⟨f,0,U⟩ l k λo=>Ld (.arr 256) ⟨f,0,U⟩ o λp=>aB 256 ⟨f,0,U⟩ p o λq=>Ld (.arr 256) ⟨f,0,U⟩ q λr=>R r i q):Cl Pg [(.arr 256),kI] 282 ⟨[(.agg a),(.int .u8 b)]⟩ w R:=co Tryz.f282 [] h
def VH.ok(R:(Xi Xe)→G→Prop) w(h:Nw 178 ⟨Zj 256 (.int .u8 0)⟩ w λb a=>eT 0 a λc d(e:H) f=>aa (K (e<256)) (aK ⟨b,0,U⟩ 256 e 1 λg=>St g (.int .u8 (u8 e)) f λh=>c (i64 (e+1)) h∧d (i64 (e+1)) h<d e f) (Ld (.arr 256) ⟨b,0,U⟩ f λi=>aB 256 ⟨b,0,U⟩ i f λj=>Ld (.arr 256) ⟨b,0,U⟩ j λk=>R k j)):Cl Pg [(.arr 256)] 284 ⟨[]⟩ w R:=co Tryz.f284 [(5,[(2,kI)])] h
def P6.ok(a:(Xi Xe))(R:Xg→G→Prop) w(h:Nw 178 a w λc b=>Nw 343 ⟨Zj 256 (ni 0)⟩ b λe d=>Ld (.arr 256) ⟨c,0,U⟩ d λf=>eT 0 d λg h(i:H) j=>aa (K (i<256)) (fL (.int .u8) f 256 i λ(k:H)=>aK ⟨e,0,U⟩ 256 k 1 λl=>St l (ni 1) j λm=>g (i64 (i+1)) m∧h (i64 (i+1)) m<h i j) (dS j λn o=>aA (.arr 256) ⟨e,0,U⟩ n λp=>Cl Pg [(.arr 256)] 379 ⟨[]⟩ o λr q=>n q∧CH .i64 256 p r λs=>R s q)):Cl Pg [kB] 340 ⟨[(.agg a)]⟩ w R:=co Tryz.f340 [(7,[(7,kI)])] h
def T1.ok(a:(Xi Xe))(b:H)(R:(Xi Xe)→H→Xg→G→Prop) w(h:Nw 178 a w λd c=>Nw 178 ⟨Zj 256 (.int .u8 0)⟩ c λf e=>aa (K (b<0)) (Ld (.arr 256) ⟨d,0,U⟩ e λg=>aB 256 ⟨f,0,U⟩ g e λh=>Ld (.arr 256) ⟨f,0,U⟩ h λi=>R i 0 J h) (aa (K (b≥256)) (Ld (.arr 256) ⟨d,0,U⟩ e λj=>aB 256 ⟨f,0,U⟩ j e λk=>Ld (.arr 256) ⟨f,0,U⟩ k λl=>R l 0 J k) (aC e λm=>Ld (.arr 256) ⟨d,0,U⟩ m λn=>aK ⟨d,0,U⟩ 256 b 1 λo=>Ld (av .u8) o m λ(p:H)=>aB 256 ⟨f,0,U⟩ n m λq=>aC q λr=>cu (⟨V ⟨f,0,U⟩,256,256⟩:Sl) 1 (i64 (b+1)) 256 1 λs=>cu (⟨V ⟨d,0,U⟩,256,256⟩:Sl) 0 b 256 1 λt=>au Pg (Xz.copy_ #[24,24] 3 ⟨[(ah s),(ah t)]⟩) kI r λ(v:H) u=>aK ⟨f,0,U⟩ 256 0 1 λx=>St x (.int .u8 p) u λy=>Ld (.arr 256) ⟨f,0,U⟩ y λz=>aB 256 ⟨f,0,U⟩ z y λA=>Ld (.arr 256) ⟨f,0,U⟩ A λB=>R B p O A))):Cl Pg [(.arr 256),(av .u8),kB] 342 ⟨[(.agg a),(ni b)]⟩ w R:=co Tryz.f342 [] h
def TX.ok(R:(Xi Xe)→G→Prop) w(h:Nw 343 ⟨Zj 256 (ni 0)⟩ w λb a=>eT 0 a λc d(e:H) f=>aa (K (e<256)) (aK ⟨b,0,U⟩ 256 e 1 λg=>St g (ni 1) f λh=>c (i64 (e+1)) h∧d (i64 (e+1)) h<d e f) (Ld (.arr 256) ⟨b,0,U⟩ f λi=>aB 256 ⟨b,0,U⟩ i f λj=>Ld (.arr 256) ⟨b,0,U⟩ j λk=>R k j)):Cl Pg [(.arr 256)] 379 ⟨[]⟩ w R:=co Tryz.f379 [(5,[(2,kI)])] h
def D4.ok(a:H)(R:Sl→H→G→Prop) w(h:Nw 25 ⟨[(.slice U 0 0)]⟩ w λc b=>aa (K (a<0)) (St ⟨c,0,U⟩ (.slice U 0 0) b λd=>Ld kS ⟨c,0,U⟩ d λ(e:Sl)=>R e 2 d) (aa (K (a>2147483647)) (St ⟨c,0,U⟩ (.slice U 0 0) b λf=>Ld kS ⟨c,0,U⟩ f λ(g:Sl)=>R g 2 f) (Cl Pg [kV] 343 ⟨[(ni a)]⟩ b λi h=>ga Pg i [kI] h (λ(j:I)(k:I→Obj)(o:H)(l:G)(m n:G→Prop)=>qE j k l λp=>Ld kS ⟨c,0,U⟩ p λ(q:Sl)=>Nw 3 ⟨[(ni o)]⟩ p λs r=>au Pg (ZH #[25,25] 25 ⟨[(ah q),(ah (⟨V ⟨s,0,U⟩,1,1⟩:Sl))]⟩) kS r λ(u:Sl) t=>St ⟨c,0,U⟩ (ah u) t λv=>lG j k v m) (λx y=>Ld kS ⟨c,0,U⟩ y λ(z:Sl)=>St ⟨c,0,U⟩ (ah z) y λC=>iI (x::[]:Q I) C λA=>Ld kS ⟨c,0,U⟩ A λ(D:Sl)=>R D 0 A) λE F=>iI (E::[]:Q I) F λB=>Ld kS ⟨c,0,U⟩ B λ(L:Sl)=>R L 0 B))):Cl Pg [kS,kI] 283 ⟨[(ni a)]⟩ w R:=wL Tryz.f283 (.s .o (.s (.s .o (.c (.s .o .o) .o)) (.s (.s .o (.b (.r [kI] .o (.b .o)))) (.s .o .o)))) h
def HE.ok(a:H)(R:Xe→G→Prop) w(h:Nw 3 ⟨[(ni a)]⟩ w λc b=>R (.func (.func 381) ⟨[]⟩ ⟨[(.pointer (V ⟨c,0,U⟩))]⟩) b):Cl Pg [kV] 343 ⟨[(ni a)]⟩ w R:=co Tryz.f343 [] h
def J4.ok(a:H)(b:H)(c:H)(R:H→H→G→Prop) w(h:aO (λ(e:G)=>0≤b∧aa (K ((i64 (a+(bx .i64 (i64 ((1:H)+c)) b)))>2147483647)) (R 0 2 e) (R (i64 (a+(bx .i64 (i64 ((1:H)+c)) b))) 0 e)) λd=>aa (K (a<0)) (R 0 2 w) (aa (K (a>2147483647)) (R 0 2 w) (aa (K (b<0)) (R 0 2 w) (aa (K (b>30)) (R 0 2 w) (aa (c !=0) (aa (c !=1) (R 0 2 w) (d w)) (d w)))))):Cl Pg [kI,kI] 360 ⟨[(ni a),(ni b),(ni c)]⟩ w R:=co Tryz.f360 [(2,[])] h
def CL.ok(a:Xe)(b:Xr)(R:G→Prop) w(h:∃(c:G→Prop)(d:G→I),c w∧∀(e:G),c e→Ld kI b e λ(f:H)=>aa (K (f>0)) (Ld kI b e λ(g:H)=>mO Pg a [kB] [(ni (cd .i64 (i64 (g-1)) 1))] e λ(i:Xg) h=>aa (! i) (R h) (Ld kI b h λ(j:H)=>0≤(1:H)∧St b (ni (aJ .i64 (i64 (j-1)) (1:H))) h λk=>([]:Q I)=([]:Q I)∧c k∧d k<d e)) (R e)):Cl Pg [] 381 ⟨[a,(.pointer (V b))]⟩ w R:=wL Tryz.f381 (.b (.l [] (.s (.s .o (.c .o .o)) (.s (.b (.s .o (.c .o .o))) .o)))) h
end
end Go.Proofs.Q9
namespace Go.Sym
section
open Go.Inc
def dk(L:Q I)(p:I):Q I:=L.getD p 0::L.eraseIdx p
def Cm{L:Q I}{p:I}(a:p<L.length):(dk L p).Perm L:=by unfold dk;have e:L.getD p 0=L[p]:=by{simp[YH,a]};rw[e];rw[Q.eraseIdx_eq_take_drop_succ];have b:L.take p++L[p]::L.drop (p+1)=L:=by{rw[Q.getElem_cons_drop,Zw]};exact List.perm_middle.symm.trans (Q.Perm.of_eq b)
def Rp{L:Q I}{p:I}(a:p<L.length):(dk L p).length=L.length:=(Cm a).length_eq
def bV(L:Q I):Prop:=L.Perm (Zt 256)
def bV.len{L:Q I}(h:bV L):L.length=256:=by rw[h.length_eq,YM]
def bV.mem{L:Q I}(h:bV L){c:I}:c∈L↔c<256:=by rw[h.mem_iff,Q.mem_range]
def bV.nodup{L:Q I}(h:bV L):L.Nodup:=h.nodup_iff.2 Q.nodup_range
def bV.take{L:Q I}(h:bV L){p:I}(a:p<256):bV (dk L p):=(Cm (by rw[h.len];exact a)).trans h
def bV.range:bV (Zt 256):=Q.Perm.refl _
def bV.get{L:Q I}(h:bV L){p:I}(a:p<256):L.getD p 0<256:=by have b:=h.len;have:L.getD p 0=L[p]:=by{simp[YH,b,a]};rw[this];exact h.mem.1 (Zu _)
def bV.idx{L:Q I}(h:bV L){c:I}(b:c<256):L.idxOf c<256∧L.getD (L.idxOf c) 0=c:=by have d:=h.mem.2 b;have e:=h.len;have a:=Q.idxOf_lt_length_of_mem d;refine⟨Za,?_⟩;rw[YH,Zh a,Q.getElem_idxOf a];rfl
def bV.AW{L:Q I}(h:bV L){p:I}(a:p<256):L.idxOf (L.getD p 0)=p:=by have b:=h.len;have e:L.getD p 0=L[p]:=by{simp[YH,b,a]};have d:=h.idx (h.get a);have c:L[L.idxOf (L.getD p 0)]' Za=L[p]:=Ze;exact(Q.getElem_inj h.nodup).1 c
def dy(n:I):Q I:=if _h:n=0 then[]else(n-1)%2::dy ((n-1)/2)
termination_by n
decreasing_by omega
def ql:dy 0=[]:=by rw[dy];simp
def px{n:I}(h:0<n):dy n=(n-1)%2::dy ((n-1)/2):=by rw[dy,dif_neg Za]
def MZ(n:I):∀d∈dy n,d<2:=by induction n using ZT with|ind n b=>(rcases Z9 n with e|e);{rw[e,ql];simp};{rw[px e];intro d a;(rcases List.mem_cons.1 a with h|h);{omega};{grind}}
def eO:List Nat→Nat→List Nat→List Nat×List Nat×Nat
 |L,r,[]=>([],L,r)
 |L,r,c::b=>
  if L.idxOf c=0 then eO (dk L 0) (r+1) b
  else
   let x:=eO (dk L (L.idxOf c)) 0 b
   (dy r++(L.idxOf c+1)::x.1,x.2)
def dI(L:Q I)(r:I)(b:Q I):Q I:=(eO L r b).1++dy (eO L r b).2.2++[257]
def syms(b:Q I):Q I:=dI (Zt 256) 0 b
def mo(L:Q I)(r:I):dI L r []=dy r++[257]:=by simp[dI,eO]
def lf{L:Q I}{r c:I}{b:Q I}(h:L.idxOf c=0):dI L r (c::b)=dI (dk L 0) (r+1) b:=by unfold dI;rw[eO,Xh h]
def mJ{L:Q I}{r c:I}{b:Q I}(h:L.idxOf c≠0):dI L r (c::b)=dy r++(L.idxOf c+1)::dI (dk L (L.idxOf c)) 0 b:=by unfold dI;rw[eO,Xf h];simp
structure DS where
 L:Q I
 left:I
 run:I
 digits:I
def ck(d:DS)(s:I):Xj (DS×Q I×Xg):=if s<2 then if d.run+(1+s)*2^d.digits≤d.left then V (⟨d.L,d.left,d.run+(1+s)*2^d.digits,d.digits+1⟩,[],J)else U else if s=257 then if d.run=d.left then V (⟨d.L,0,0,0⟩,Zj d.run (d.L.getD 0 0),O)else U else if d.run=d.left then U else V (⟨dk d.L (s-1),d.left-(d.run+1),0,0⟩,Zj d.run (d.L.getD 0 0)++[d.L.getD (s-1) 0],J)
def ky(d:DS×Q I)(s:I):xP (DS×Q I) (Q I) I:=match ck d.1 s with|none=>.bad 160|some (_,t,true)=>.fin (d.2++t)|some (a,t,false)=>.more (a,d.2++t)
def uB{d a:DS}{acc t:Q I}{s:I}(h:ck d s=V (a,t,J)):ky (d,acc) s=.more (a,acc++t):=by unfold ky;rw[h]
def Dv{d a:DS}{acc t:Q I}{s:I}(h:ck d s=V (a,t,O)):ky (d,acc) s=.fin (acc++t):=by unfold ky;rw[h]
def Lq{d:DS}{acc:Q I}{s:I}(h:ck d s=U):ky (d,acc) s=.bad 160:=by unfold ky;rw[h]
def Jc(L:Q I)(left:I)(acc a:Q I):∀(n q k:I),q+n*2^k≤left→∃b,run ky (⟨L,left,q,k⟩,acc) (dy n++a)=run ky (⟨L,left,q+n*2^k,b⟩,acc) a:=by intro n;induction n using ZT with|ind n c=>intro q k d;(rcases Z9 n with e|e);{subst e;exact⟨k,by rw[ql];simp⟩};{rw[px e];have g:(1+(n-1)%2)*2^k+(n-1)/2*2^(k+1)=n*2^k:=by{rw[YC,Yk (2^k) 2,←I.mul_assoc,←YY];congr 1;omega};obtain⟨b,h⟩:=c ((n-1)/2) Za (q+(1+(n-1)%2)*2^k) (k+1) Za;refine⟨b,?_⟩;have f:ck ⟨L,left,q,k⟩ ((n-1)%2)=V (⟨L,left,q+(1+(n-1)%2)*2^k,k+1⟩,[],J):=by{unfold ck;simp only;rw[Xh Za,Xh Za]};rw[ZO,dZ (uB f),ZG,h];congr 3;omega}
def uW{L:Q I}(a:bV L){c:I}(b:c<256)(h:L.idxOf c=0):L.getD 0 0=c∧dk L 0=L:=by have:=(a.idx b).2;rw[h]at this;refine⟨this,?_⟩;unfold dk;cases L with|nil=>have:=a.len;simp at this|cons x L=>rfl
def wJ:∀(b L:Q I)(r left:I)(acc a:Q I),bV L→(∀x∈b,x<256)→left=r+b.length→run ky (⟨L,left,0,0⟩,acc) (dI L r b++a)=.fin (acc++Zj r (L.getD 0 0)++b) a|[],L,r,left,acc,a,hL,_,hl=>by{rw[mo,Zm];obtain⟨e,h⟩:=Jc L left acc ([257]++a) r 0 0 (by simp at hl;omega);rw[h];have f:ck ⟨L,left,0+r*2^0,e⟩ 257=V (⟨L,0,0,0⟩,Zj r (L.getD 0 0),O):=by{unfold ck;simp only[Zl,I.pow_zero,ZE];rw[Xf Zb,Xh trivial,Xh (by simp at hl;omega)]};show run ky _ (257::a)=_;rw[DQ (Dv f)];simp}|c::b,L,r,left,acc,a,hL,hb,hl=>by have g:=hb c ZJ;have d:∀x∈b,x<256:=λx i=>hb x (Zv _ i);simp only[Zk]at hl;by_cases h0:L.idxOf c=0;{obtain⟨j,k⟩:=uW hL g h0;rw[lf h0,k,wJ b L (r+1) left acc a hL d Za,j,Q.replicate_succ'];simp};{obtain⟨l,m⟩:=hL.idx g;rw[mJ h0,Zm];obtain⟨e,h⟩:=Jc L left acc ((L.idxOf c+1)::dI (dk L (L.idxOf c)) 0 b++a) r 0 0 Za;rw[h];have f:ck ⟨L,left,0+r*2^0,e⟩ (L.idxOf c+1)=V (⟨dk L (L.idxOf c),left-(r+1),0,0⟩,Zj r (L.getD 0 0)++[c],J):=by{unfold ck;simp only[Zl,I.pow_zero,ZE,I.add_sub_cancel,m];rw[Xf Za,Xf Za,Xf Za]};rw[ZO,dZ (uB f)];rw[wJ b (dk L (L.idxOf c)) 0 (left-(r+1)) _ a (hL.take l) d Za];simp}
def Fg{b:Q I}(c:∀x∈b,x<256)(a:Q I):run ky (⟨Zt 256,b.length,0,0⟩,[]) (syms b++a)=.fin b a:=by unfold syms;rw[wJ b _ 0 b.length [] a bV.range c Za];simp
def rC:∀(b L:Q I)(r:I),bV L→(∀x∈b,x<256)→∀s∈dI L r b,s≤257|[],L,r,_,_=>λs a=>by rw[mo]at a;(rcases List.mem_append.1 a with h|h);{have:=MZ _ s h;omega};{rw[ZI]at h;omega}|c::b,L,r,hL,hb=>λs a=>by have e:=hb c ZJ;have d:∀x∈b,x<256:=λx f=>hb x (Zv _ f);obtain⟨g,_⟩:=hL.idx e;by_cases h0:L.idxOf c=0;{rw[lf h0]at a;exact rC b _ (r+1) (hL.take Zb) d s a};{rw[mJ h0]at a;(rcases List.mem_append.1 a with h|h);{have:=MZ _ s h;omega};{(rcases List.mem_cons.1 h with h|h);{omega};{exact rC b _ 0 (hL.take g) d s h}}}
def ym{b:Q I}(a:∀x∈b,x<256):∀s∈syms b,s≤257:=rC b _ 0 bV.range a
end
end Go.Sym
namespace Go.Vc
section
def JX{n:I}{f:I→H}:(fw n f).toList.all aD=O:=by unfold fw;rw[Q.all_map];exact List.all_eq_true.2 λ_ _=>rfl
def Ff{n:I}:fw n (λ_=>0)=⟨Zj n (.int .i64 0)⟩:=by unfold fw;rw[Q.map_const',YM]
def CH.row{n:I}{f g:I→H}{K:Xg→Prop}(a:K (((Zt n).map f)==((Zt n).map g))):CH .i64 n (fw n f) (fw n g) K:=⟨(Zt n).map f,(Zt n).map g,by simp[fw],by simp[fw],Zd,Zd,a⟩
end
end Go.Vc
namespace Go.Proofs.Q9
section
open Go Go.Vc Go.Inc Go.Sym
abbrev cy(l:Q I):Q Xe:=l.map λ(n:I)=>Yy .u8 (n:H)
def jx{L:Q I}(h:L.length=256):(cy L).length=256:=by simp[h]
def fk{l:Q I}:(cy l).all aD=O:=by unfold cy;rw[Q.all_map];exact List.all_eq_true.2 λ_ _=>rfl
section
variable{E w:G}{F:Q HP}
theorem WR:Tryz.prog.underlying 24=V (.slice 5):=Zc
theorem aan:(Tryz.prog.info? 5).map (·.size)=V 1:=Zc
theorem Q3{K:Xi Xe→G→Prop}(h:Hp E w F)(g:∀w',Hp E w' F→K ⟨cy (Zt 256)⟩ w'):Cl Zf [.arr 256] 284 ⟨[]⟩ w K:=by refine VH.ok _ _ ?_;(skip);refine Nw.mk h λj w h=>?_;have b:∀k,k≤256→(cy (Zt k++Zj (256-k) 0)).length=256:=λk f=>by{simp;omega};refine⟨λi w'=>∃k:I,i=(k:H)∧k≤256∧Hp E w' (ag j (.cells ⟨cy (Zt k++Zj (256-k) 0)⟩ 178 (0,0))::F),λi _=>256-i.toNat,⟨0,Z,Za,by have:(⟨cy (Zt 0++Zj (256-0) 0)⟩:Xi Xe)=⟨Zj 256 (.int .u8 0)⟩:=by{simp};rw[this];exact h⟩,?_⟩;rintro i w ⟨k,rfl,f,h⟩;(first|refine aa.dm (λa=>?_) (λa=>?_)|refine aa.em (λa=>?_) (λa=>?_)|refine aa.nm (λa=>?_) (λa=>?_)|refine aa.mk (λa=>?_) λa=>?_);{refine⟨Za,Za,?_⟩;rw[show((k:H)).toNat*1=k by omega];(try simp only[aj,Zl]);have f:=b k Za;refine St.xb h (by simp;omega) Z λw h=>?_;rw[ae Za];refine⟨⟨k+1,Z,Za,?_⟩,Za⟩;have e:(⟨cy (Zt k++Zj (256-k) 0)⟩:Xi Xe).setIfInBounds k (.int .u8 (u8 (k:H)))=⟨cy (Zt (k+1)++Zj (256-(k+1)) 0)⟩:=by{rw[im Za];apply Xi.ext';rw[Yq];have:(cy (Zt k++Zj (256-k) 0)).set k (.int .u8 (k:H))=cy ((Zt k++Zj (256-k) 0).set k k):=by{rw[cy,cy,Q.map_set]};rw[this,Q.set_append_right _ _ Zd,YM,I.sub_self];obtain⟨m,l⟩:∃m,256-k=m+1:=⟨255-k,Za⟩;rw[l,Q.replicate_succ,Q.set_cons_zero,YP,show 256-(k+1)=m by omega];simp};rw[e]at h;exact h};{have d:k=256:=by{omega};subst d;have e:(⟨cy (Zt 256++Zj (256-256) 0)⟩:Xi Xe)=⟨cy (Zt 256)⟩:=by{simp};rw[e]at h;have c:(⟨cy (Zt 256)⟩:Xi Xe).size=256:=by{simp};refine Ld.xw h c ?_;refine aB.q h c c fk λw h=>?_;exact Ld.xw h c (g _ h.tl)}
theorem aaY{K:Xi Xe→G→Prop}(h:Hp E w F)(c:∀w',Hp E w' F→K (fw 256 λ_=>1) w'):Cl Zf [.arr 256] 379 ⟨[]⟩ w K:=by refine TX.ok _ _ ?_;(skip);refine Nw.mk h λd w h=>?_;refine⟨λi w'=>∃k:I,i=(k:H)∧k≤256∧Hp E w' (ag d (.cells (fw 256 λj=>if j<k then 1 else 0) 343 (0,0))::F),λi _=>256-i.toNat,⟨0,Z,Za,by rw[je (g:=λ_=>0) λi _=>Zd,Ff];exact h⟩,?_⟩;rintro i w ⟨k,rfl,hk,h⟩;(first|refine aa.dm (λa=>?_) (λa=>?_)|refine aa.em (λa=>?_) (λa=>?_)|refine aa.nm (λa=>?_) (λa=>?_)|refine aa.mk (λa=>?_) λa=>?_);{refine⟨Za,Za,?_⟩;rw[show((k:H)).toNat*1=k by omega];(try simp only[aj,Zl]);refine St.xb h (by rw[fp];omega) Z λw h=>?_;rw[ae Za];refine⟨⟨k+1,Z,Za,?_⟩,Za⟩;rw[vl]at h;rw[je (g:=λj=>if j<k+1 then 1 else 0) λi _=>by by_cases h1:i=k;{subst h1;simp};{by_cases h2:i<k;{simp[h1,h2];omega};{simp[h1,h2];omega}}]at h;exact h};{have b:k=256:=by{omega};subst b;rw[je (g:=λ_=>1) λi e=>by simp[e]]at h;refine Ld.xw h fp ?_;refine aB.q h fp fp JX λw h=>?_;exact Ld.xw h fp (c _ h.tl)}
theorem Fl{L:Q I}{K:Xg→G→Prop}(h:Hp E w F)(d:bV L)(o:∀w',Hp E w' F→K O w'):Cl Zf [kB] 340 ⟨[.agg ⟨cy L⟩]⟩ w K:=by have p:=d.len;have e:∀x∈L,x<256:=λx l=>by{simpa using d.mem_iff.1 l};refine P6.ok _ _ _ ?_;(skip);have q:(⟨cy L⟩:Xi Xe).size=256:=by{simp[p]};refine Nw.mk h λr w h=>Nw.mk h λm w h=>Ld.xw h q ?_;refine⟨λi w'=>∃k:I,i=(k:H)∧k≤256∧Hp E w' (ag m (.cells (fw 256 λj=>if j∈L.take k then 1 else 0) 343 (0,0))::ag r (.cells ⟨cy L⟩ 178 (0,0))::F),λi _=>256-i.toNat,⟨0,Z,Za,by rw[je (g:=λ_=>0) λi _=>Zd,Ff];exact h⟩,?_⟩;rintro i w ⟨k,rfl,hk,h⟩;(first|refine aa.dm (λb=>?_) (λb=>?_)|refine aa.em (λb=>?_) (λb=>?_)|refine aa.nm (λb=>?_) (λb=>?_)|refine aa.mk (λb=>?_) λb=>?_);{have c:k<L.length:=by{omega};refine fL.rd (s:=.int .u8) Za Za (L[k]:H) ?_ ?_;{simp[c]};have l:=e _ (Zu c);refine⟨Za,Za,?_⟩;rw[show((L[k]:H)).toNat*1=L[k] by omega];(try simp only[aj,Zl]);refine St.xb h (by rw[fp];omega) Z λw h=>?_;rw[ae Za];refine⟨⟨k+1,Z,Za,?_⟩,Za⟩;rw[vl]at h;rw[je (g:=λj=>if j∈L.take (k+1)then 1 else 0) λi _=>by have a:i∈L.take (k+1)↔i∈L.take k∨i=L[k]:=by{rw[ZB,Zh c,YQ];exact or_congr Iff.rfl ZI};by_cases h1:i=L[k];{rw[Xh h1,Xh (a.2 (.inr h1))]};{rw[Xf h1];by_cases h2:i∈L.take k;{rw[Xh h2,Xh (a.2 (.inl h2))]};{rw[Xf h2,Xf λt=>(a.1 t).elim h2 h1]}}]at h;exact h};{have f:k=256:=by{omega};subst f;rw[je (g:=λ_=>1) λi u=>by rw[Zx Za,Xh];exact d.mem_iff.2 (by simpa using u)]at h;have h:=h.drew (n:=w.drawn+1);refine⟨bT m _ _ _,h.hb,?_⟩;dsimp only;refine aA.xw (λ_ h=>h) fp ?_;refine aaY h λw h=>⟨h.hb,?_⟩;refine CH.row ?_;rw[beq_self_eq_true];exact o _ h.tl}
theorem TM{L:Q I}{p:I}(b:L.length=256)(d:p<256):((cy L).take 1++((cy (L.take p)).take p++(cy L).drop (1+XO (cy (L.take p)).length p))).set 0 (.int .u8 (L.getD p 0:H))=cy (dk L p):=by have c:(cy (L.take p)).length=p:=by{simp;omega};rw[c,I.min_self,Zx (l:=cy (L.take p)) Za,I.add_comm 1 p];unfold dk;rw[Q.eraseIdx_eq_take_drop_succ];cases L with|nil=>simp at b|cons a L=>simp[cy,Q.map_take,Q.map_drop]
theorem Lf{L:Q I}{p:I}{K:Xi Xe→H→Xg→G→Prop}(h:Hp E w F)(c:L.length=256)(g:p<256)(j:∀w',Hp E w' F→K ⟨cy (dk L p)⟩ (L.getD p 0:H) O w'):Cl Zf [.arr 256,av .u8,kB] 342 ⟨[.agg ⟨cy L⟩,.int .i64 (p:H)]⟩ w K:=by refine T1.ok _ _ _ _ ?_;(skip);have d:(⟨cy L⟩:Xi Xe).size=256:=by{simp[c]};have k:(⟨Zj 256 (.int .u8 0)⟩:Xi Xe).size=256:=Zd;have l:p<L.length:=Za;refine Nw.mk h λf w h=>Nw.mk h λn w h=>?_;(with_reducible repeat first|refine aC.mk h λw h=>?_|refine aa.no ?_);refine Ld.xw h d ?_;refine⟨Za,Za,?_⟩;rw[show((p:H)).toNat*1=p by omega];(try simp only[aj,Zl]);refine Ld.xb (x:=(L.getD p 0:H)) h ?_ ?_;{grind};refine aB.q h k d fk λw h=>aC.mk h λw h=>?_;rw[ae Za];refine⟨Za,Za,Za,Zd,?_⟩;rw[Xf Zd,show(1:H).toNat*1=1 by decide,show((p:H)+1).toNat-(1:H).toNat=p by omega,show(256:H).toNat-(1:H).toNat=255 by decide];refine⟨Za,Za,Za,Zd,?_⟩;rw[Xf Zb,show(0:H).toNat*1=0 by decide,show((p:H)).toNat-(0:H).toNat=p by omega,show(256:H).toNat-(0:H).toNat=256 by decide];simp only[YA,aj,Zl];have a:aI 1 ⟨V ⟨f,0,U⟩,p,256⟩ (cy (L.take p)) w:=by{refine⟨by simp;omega,λi m=>⟨⟨f,0,U⟩,Z,?_⟩⟩;rw[aj,h.fc];simp at m⊢;simp[show i<L.length by omega]};refine og (ys:=cy (L.take p)) WR aan h a (List.all_eq_true.1 fk) Ze λw h=>?_;refine⟨Za,Za,?_⟩;rw[show((0:H)).toNat*1=0 by decide];(try simp only[aj,Zr]);refine St.xb h (by simp;omega) Z λw h=>?_;have e:(⟨(⟨cy L⟩:Xi Xe).toList.take 1++((cy (L.take p)).take p++(⟨cy L⟩:Xi Xe).toList.drop (1+XO (cy (L.take p)).length p))⟩:Xi Xe).setIfInBounds 0 (.int .u8 (L.getD p 0:H))=⟨cy (dk L p)⟩:=by{apply Xi.ext';rw[Yq];exact TM c g};rw[e]at h;have b:(⟨cy (dk L p)⟩:Xi Xe).size=256:=Ze;refine Ld.xw h b ?_;refine aB.q h b b fk λw h=>?_;exact Ld.xw h b (j _ h.tl)
theorem abI{n a d:I}{K:H→H→G→Prop}(h:n≤65536)(c:a≤16)(i:d≤1)(j:K ((n+(1+d)*2^a:I):H) 0 w):Cl Zf [kI,kI] 360 ⟨[.int .i64 (n:H),.int .i64 (a:H),.int .i64 (d:H)]⟩ w K:=by have e:2^a≤65536:=ZV (n:=2) Zb c;have f:=Ym a;have l:(1+d)*2^a≤131072:=by{have:=I.mul_le_mul (show 1+d≤2 by omega) e;omega};refine J4.ok _ _ _ _ _ ?_;have b:0≤(a:H)∧aa (XE (i64 ((n:H)+bx .i64 (i64 (1+(d:H))) (a:H))>2147483647)) (K 0 2 w) (K (i64 ((n:H)+bx .i64 (i64 (1+(d:H))) (a:H))) 0 w):=by{refine⟨Za,?_⟩;have g:YN .i64=9223372036854775807:=Z;rw[ae (x:=1+(d:H)) Za,show 1+(d:H)=((1+d:I):H) by omega,dJ (k:=.i64) (by have:Xy.bits .i64=64:=Z;omega) Ze,ae Za];exact aa.df Za Ze};(try simp only[bz]);refine aa.df Za (aa.df Za (aa.df Za (aa.df Za ?_)));by_cases h0:d=0;{exact aa.nf Za b};{exact aa.nt Za (aa.nf Za b)}
end
end
end Go.Proofs.Q9
namespace Go.Vc
section
open Go
def mN(b:I)(w:G):I:=match w.cell? ⟨b,0,U⟩with|some (.int _ v)=>v.toNat|_=>0
def nw{E w:G}{l:Q HP}{b:I}{c:Xi Xe}{t:Xn}{d:I×I}{a:Obj→Q HP}[bP b l c t d a]{k:Xy}{v:H}(h:Hp E w l)(e:c[0]?=V (.int k v)):mN b w=v.toNat:=by unfold mN;rw[h.fc,e]
end
end Go.Vc
namespace Go.Proofs.Q9
section
open Go Go.Vc
section
variable{E w:G}{F:Q HP}
abbrev bI(b:I)(n:I):HP:=ag b (.cells ⟨[.int .i64 (n:H)]⟩ 3 (0,0))
abbrev xI(s:Sl):Xe:=.slice s.base s.len s.cap
abbrev iY(b:I)(xs:Q I):HP:=zp (λ(_:Sl)=>True) λs=>[ag b (.cells ⟨[xI s]⟩ 25 (0,0)),ao 1 s ((ints xs).map vI)]
theorem iY.shut{b:I}{s:Sl}{xs:Q I}(h:Hp E w (ag b (.cells ⟨[xI s]⟩ 25 (0,0))::ao 1 s ((ints xs).map vI)::F)):Hp E w (iY b xs::F):=Hp.tQ s trivial h
theorem iY.put{b d:I}{s:Sl}{xs:Q I}{x:I}{i:Xn}{l:Q HP}{K:G→Prop}(h:Hp E w (l++ag d (.cells ⟨[.int .i64 (x:H)]⟩ i (0,0))::ag b (.cells ⟨[xI s]⟩ 25 (0,0))::ao 1 s ((ints xs).map vI)::F))(m:xs.length≤1000000)(j:∀w',Hp E w' (iY b (xs++[x])::F)→K w'):au Zf (ZH #[25,25] 25 ⟨[xI s,.slice (V ⟨d,0,U⟩) 1 1]⟩) kS w λe a=>St (⟨b,0,U⟩:Xr) (xI e) a λc=>K c:=by have h:=h.yl;have f:=(h.at 2).aV;simp only[ints,Zq,ZE]at f;refine bg (ys:=[vI (x:H)]) (n:=1) mW Zb (.inl ⟨3,Zc⟩) (h.at 2) (.inl ⟨V ⟨d,0,U⟩,1,1,Z,Z,h.an (ad.ax Z Z)⟩) Z (by intro y g;rw[ZI]at g;rw[g];rfl) Za Za λk w' h _=>?_;refine St.xs h Z Z λw h=>j w ?_;dsimp only[aY,over]at h;have h:=(h.no 1).p1;refine iY.shut (s:=k) ?_;rw[show(ints (xs++[x])).map vI=(ints xs).map vI++[vI (x:H)] by simp[ints]];exact h
theorem KP{s:Sl}{b:Q I}(c:aI 1 s (b.map vB) w):(Extern.Bytes.bytesOf (.slice s.base s.len s.cap)).run Zf w=.ok (strOf b) w:=by have e:=c.1;simp only[Zq,ZE]at e;cases hb:s.base with|none=>have:b=[]:=by{cases b with|nil=>rfl|cons x b=>obtain⟨p,f,_⟩:=c.2 0 Zd;rw[hb]at f;cases f};subst this;rfl|some p=>have:=Lib.run_loadBytesX (P:=Zf) w (b.map λ(x:I)=>(x:H)) p .empty (λj x a=>by rw[Z0]at a;cases hj:b[j]? with|none=>(rw[hj]at a;cases a)|some y=>rw[hj]at a;obtain rfl:=Xj.some.inj a;obtain⟨h,d⟩:=List.getElem?_eq_some_iff.1 hj;obtain⟨q,g,i⟩:=c.2 j Ze;rw[hb]at g;obtain rfl:=Xj.some.inj g;rw[i];simp[vB,d]);rw[Zq,e]at this;show(Extern.Bytes.loadBytes p s.len .empty).run Zf w=_;rw[this];congr 1;unfold strOf strOfNums Lib.bytesOf;simp[Xl.empty,Xl.emptyWithCapacity];try rfl
end
end
section
open Go Go.Vc Go.Inc Go.Sym
section
variable{E w:G}{F:Q HP}
theorem adV {L:List Nat} {s:Sl} {c:Nat} {K:Int→World→Prop} (hL:bV L) (hc:c<256) (hs:aI 1 s (L.map vB) w) (hK:K (L.idxOf c:Int) w):
  Ext Tryz.prog 380 ⟨[.slice s.base s.len s.cap,.int .u8 (c:Int)]⟩ [kI] w K:=by
 have hi:=hL.idx hc
 have hll:=hL.len
 have hsz:(strOf L).size=256:=by
  have:=congrArg List.length (bN L)
  rw [List.length_map,hll] at this
  simpa using this
 have hget: ∀i,i<256→(strOf L)[i]! =UInt8.ofNat (L.getD i 0):=fun i h=>by
  have h1:=bN L
  have h2:(strOf L).data.toList[i]? =some (UInt8.ofNat (L.getD i 0)):=by grind
  have h3:i<(strOf L).size:=by omega
  rw [getElem!_pos (strOf L) i h3]
  rw [Array.getElem?_toList] at h2
  have h4:i<(strOf L).data.size:=h3
  rw [Array.getElem?_eq_getElem h4] at h2
  exact Option.some.inj h2
 have hf:(List.range (strOf L).size).find? (fun i=>(strOf L)[i]! ==UInt8.ofNat c)=some (L.idxOf c):=by
  rw [hsz,List.find?_range_eq_some]
  refine ⟨?_,List.mem_range.2 hi.1,fun j hj=> ?_⟩
  ·grind
  ·rw [hget j (by omega)]
   have hjl:=hL.get (p:=j) (by omega)
   have hne:L.getD j 0≠c:=fun e=>by
    have:=hL.AW (p:=j) (by omega)
    rw [e] at this;omega
   simp only [Bool.not_eq_true',beq_eq_false_iff_ne,ne_eq]
   intro e
   have:=congrArg UInt8.toNat e
   simp only [UInt8.toNat_ofNat'] at this
   omega
 have hr:(Extern.BytealgIndexByte.indexByte #[.slice s.base s.len s.cap,.int .u8 (c:Int)]).run Tryz.prog w= .ok (.int .i64 (L.idxOf c:Int)) w:=by
  show Sem.run _ (do
   let x←Extern.Bytes.bytesOf (.slice s.base s.len s.cap)
   let y←Extern.Bytes.asByte (.int .u8 (c:Int))
   match (List.range x.size).find? fun i=>x[i]! ==y with
   |some i=>pure (goInt i)
   |none=>pure (goInt (-1))) w=_
  have hb:(Extern.Bytes.asByte (.int .u8 (c:Int))).run Tryz.prog w= .ok (UInt8.ofNat c) w:=rfl
  simp only [Sem.run_bind,KP hs,hb,Result.andThen_ok]
  rw [hf]
  rfl
 have hx:(callFunc 380 #[.slice s.base s.len s.cap,.int .u8 (c:Int)]).run Tryz.prog w= .ok (.value (.int .i64 (L.idxOf c:Int))) w:=by
  rw [run_callFunc_extern Tryz.func380 (by kernel_rfl) (by kernel_rfl) (by kernel_rfl) (e:=Extern.BytealgIndexByte.indexByte) (by kernel_rfl),hr];rfl
 unfold Ext
 rw [show (⟨[.slice s.base s.len s.cap,.int .u8 (c:Int)]⟩:Array Value)= #[.slice s.base s.len s.cap,.int .u8 (c:Int)] from rfl,hx]
 exact hK
theorem aah{L:Q I}{c:I}{K:Xi Xe→H→G→Prop}(h:Hp E w F)(b:bV L)(e:c<256)(g:∀w',Hp E w' F→K ⟨cy (dk L (L.idxOf c))⟩ (L.idxOf c:H) w'):Cl Zf [.arr 256,kI] 282 ⟨[.agg ⟨cy L⟩,.int .u8 (c:H)]⟩ w K:=by refine VU.ok _ _ _ _ ?_;have d:=b.len;have f:=b.idx e;have i:(⟨cy L⟩:Xi Xe).size=256:=by{simp[d]};have j:(⟨Zj 256 (.int .u8 0)⟩:Xi Xe).size=256:=Zd;have a:(⟨cy (dk L (L.idxOf c))⟩:Xi Xe).size=256:=by{simp[(b.take f.1).len]};refine Nw.mk h λk w h=>Nw.mk h λl w h=>cu.whole Zb Z Z ?_;refine BO.ok _ _ _ _ ?_;refine adV b e (s:=⟨V ⟨k,0,U⟩,256,256⟩) (h.an (ad.cons (ad.ax (n:=256) (m:=256) (sz:=1) Z (by simp[d])))) ?_;refine Ld.xw h i ?_;refine Lf h d f.1 λw h=>?_;refine aB.q h j a fk λw h=>Ld.xw h a ?_;refine aB.q h a a fk λw h=>Ld.xw h a (g w h.tl)
theorem Nb{n b:I}(q:n≤2147483647):tG Zf E (.func (.func 381) ⟨[]⟩ ⟨[.pointer (V ⟨b,0,U⟩)]⟩) (dy n).length (λi=>[Ki.enc kI (((dy n).getD i 0:I):H)]) [bI b n] (λ_=>True):=by intro r C G w K M s h u j;refine qW.mk Zc (CL.ok r ⟨b,0,U⟩ K w ?_);have h:Hp E w (bI b n::C 0):=h;refine⟨λw=>∃k m:I,m≤2147483647∧(dy n).drop k=dy m∧k≤(dy n).length∧Hp E w (bI b m::C k),λw=>mN b w,⟨0,n,q,Z,Yd _,h⟩,?_⟩;rintro w ⟨k,m,N,d,P,h⟩;refine Ld.xb (x:=(m:H)) h Z (aa.dm (λa=>?_) λy=>?_);{have c:0<m:=by{omega};rw[px c]at d;have a:k<(dy n).length:=by{grind};have z:(dy n).getD k 0=(m-1)%2:=by{rw[ZA a]at d;injection d with e _;rw[Zo,Zh a,YE,e]};have l:(dy n).drop (k+1)=dy ((m-1)/2):=by{rw[←Yr,d];rfl};refine Ld.xb (x:=(m:H)) h Z ?_;have A:YN .i64=9223372036854775807:=Z;have o:i64 ((m:H)-1)=((m-1:I):H):=by{rw[ae Za];omega};have B:cd .i64 ((m-1:I):H) 1=(((m-1)%2:I):H):=by{rw[show(1:H)=((1:I):H)from Z,fX Za Za,I.and_one_is_mod]};have D:aJ .i64 ((m-1:I):H) 1=(((m-1)/2:I):H):=by{rw[show(1:H)=((1:I):H)from Z,cC Zb]};rw[o,B];have L:[Yy .i64 (((m-1)%2:I):H)]=[Ki.enc kI (((dy n).getD k 0:I):H)]:=by{rw[z]};rw[L];refine s k a [bI b m] w _ (h.perm (ZW (l₁:=[bI b m]))) (λw h=>?_) λw h=>?_;{have h:Hp E w (bI b m::C (k+1)):=h.perm (ZW (l₂:=[bI b m]));refine aa.f Z (Ld.xb (x:=(m:H)) h Z ⟨Zb,?_⟩);rw[o,D];refine St.xb h Zd Z λp g=>?_;have g:Hp E p (bI b ((m-1)/2)::C (k+1)):=g;refine⟨Z,⟨k+1,(m-1)/2,Za,l,Za,g⟩,?_⟩;show mN b p<mN b _;rw[nw (v:=(((m-1)/2:I):H)) g Z,nw (v:=(m:H)) (by assumption) Z];omega};{exact aa.t Z (j k w a (h.perm (ZW (l₂:=[bI b m]))).drop)}};{have c:m=0:=by{omega};subst c;rw[ql]at d;have:k=(dy n).length:=by{have:=Xp Z8 d;rw[ZD,Zs]at this;omega};subst this;exact u w h.drop}
theorem QV{n:I}{K:Sl→H→G→Prop}(h:Hp E w F)(g:n≤2147483647)(q:(dy n).length≤1000000)(j:∀s w',Hp E w' (ao 1 s ((ints (dy n)).map vI)::F)→K s 0 w'):Cl Zf [kS,kI] 283 ⟨[.int .i64 (n:H)]⟩ w K:=by refine D4.ok _ _ _ ?_;refine Nw.mk h λa w h=>aa.df Za (aa.df Za ?_);refine HE.ok _ _ _ ?_;refine Nw.mk h λb w h=>?_;have m:Hp E w (iY a []::bI b n::F):=iY.shut (s:=⟨U,0,0⟩) ((h.aU 1).at 2);refine ga.Un (E:=E) (k:=kI) (x:=λi=>(((dy n).getD i 0:I):H)) (n:=(dy n).length) (λi=>iY a ((dy n).take i)::F) (λ_=>[DD]) (A:=[bI b n]) m.p1 (λ_=>ad.const trivial) (Nb g) ?_ ?_ ?_;{intro o c i A w r t d h f _;refine qE.mk h λw h=>?_;obtain⟨s,_,h⟩:=(h.p1).ex;have h:Hp E w (ag a (.cells ⟨[xI s]⟩ 25 (0,0))::ao 1 s ((ints ((dy n).take i)).map vI)::ag o (c 1)::(F++A)):=h;refine Ld.xb (x:=s) h Z (Nw.mk h λp w h=>?_);refine iY.put (l:=[]) h Ze λw h=>lG.mk h.p1 λw h=>f w ?_;have e:(dy n).take i++[(dy n).getD i 0]=(dy n).take (i+1):=by{rw[ZB,Zh d,Zo,Zh d];rfl};rw[e]at h;exact h};{intro D w h;rw[Zx (Zy _)]at h;obtain⟨s,_,h⟩:=(h.p1).ex;have h:Hp E w (ag a (.cells ⟨[xI s]⟩ 25 (0,0))::ao 1 s ((ints (dy n)).map vI)::ag D (.deferred (V []))::F):=h;refine Ld.xb (x:=s) h Z (St.xs h Z Z λw h=>?_);dsimp only[aY,over]at h;refine iI.qu (h.at 2) λw h=>Ld.xb (x:=s) h Z (j s w h.drop)};{intro i D w d h;exact(Hp.GI h).elim}
end
end
end Go.Proofs.Q9
namespace Go.Vc
section
open Go
section
variable{E w:G}{F:Q HP}
theorem Eo{P:Xk}{t e:Xn}{n:I}{k:Xy}{g:TypeInfo}(j:P.underlying t=V (.array n e))(c:P.underlying e=V (.int k))(h:P.info? e=V g)(l:g.size=1){a b:Q H}(f:a.length=n)(i:b.length=n)(D:I)(m:2≤D)(w:G):(Yo D t (.agg ⟨a.map (.int k)⟩) (.agg ⟨b.map (.int k)⟩)).run P w=.ok (a==b) w:=by obtain⟨D,rfl⟩:∃d,D=d+1+1:=⟨D-2,Za⟩;rw[run_equalIn_array w (D+1) _ _ j h,pL h,l,←f,lI c (f.trans i.symm) _ Zd,all_eq (f.trans i.symm)]
theorem oY{P:Xk}{t:Xn}{it:TypeInfo}{b:Q Xe}{a:I}{K:Xj Xe→Prop}(c:jq P t=V O)(d:P.info? t=V it)(h:K (V (.agg ⟨(b.drop a).take it.size⟩))):gI P t b a K:=by unfold gI;rw[c,d];exact h
theorem fS{P:Xk}{t:Xn}{it:TypeInfo}{b:Q Xe}{a:I}{v:Xe}{K:Xj Xe→Prop}(c:jq P t=V J)(d:P.info? t=V it)(e:b[a]?=V v)(h:K (V v)):gI P t b a K:=by unfold gI;rw[c,d,e];exact h
end
end
end Go.Vc
namespace Go.Proofs.Q9
section
open Go Go.Vc
def MY:∃a,Tryz.prog.info? 3=V a:=by have:(Tryz.prog.info? 3).isSome=O:=Zc;exact Option.isSome_iff_exists.1 this
def Wg:∃a,Tryz.prog.info? 172=V a∧a.size=258:=by have h:(Tryz.prog.info? 172).map (·.size)=V 258:=Zc;obtain⟨a,b,c⟩:=Option.map_eq_some_iff.1 h;exact⟨a,b,c⟩
def Rh:∃a,Tryz.prog.info? 5=V a∧a.size=1:=by have h:(Tryz.prog.info? 5).map (·.size)=V 1:=Zc;obtain⟨a,b,c⟩:=Option.map_eq_some_iff.1 h;exact⟨a,b,c⟩
def abF:Tryz.prog.underlying 172=V (.array 258 5):=Zc
def US:Tryz.prog.underlying 5=V (.int .u8):=Zc
def Px:Tryz.prog.underlying 3=V (.int .i64):=Zc
end
end Go.Proofs.Q9
namespace Go.Vc
section
open Go
def qc{P:Xk}{E w:G}{F:Q HP}{t e:Xn}{C:Xi Xe}{b n c:I}{K:Sl→G→Prop}(j:P.underlying t=V (.slice e))(k:P.underlying e=V (.int .u8))(h:Hp E w (ag b (.cells C e (0,0))::F))(l:∀w',Hp E w' (ag b (.cells C e (C.size,C.size+1))::F)→K ⟨V ⟨b,0,U⟩,n,c⟩ w'):au P (XH t t (.slice (V ⟨b,0,U⟩) n c)) kS w K:=by have a:=h.ax;have d:b<w.heap.size:=Ze;have f:w.shape? b=V (e,C.size):=by{unfold G.shape?;rw[a]};have g:(XH t t (.slice (V ⟨b,0,U⟩) n c)).run P w=.ok (.slice (V ⟨b,0,U⟩) n c) (w.freeze ⟨b,C.size,U⟩ 1):=by{simp[XH,Xs j,Xs k,markStringish,f]};unfold au;rw[g];refine l _ (h.setObj ?_ Z Z Z);unfold G.freeze;rw[Xf Zb];have m:w.heap[b]=.cells C e (0,0):=by{rw[Xi.getElem?_eq_getElem d]at a;exact Xj.some.inj a};apply Xi.ext_getElem?;intro i;rw[Xi.set!_eq_setIfInBounds];by_cases hi:b=i;{grind};{grind}
section
variable{E w:G}{F:Q HP}{sz:I}{s:Sl}{xs ys:Q Xe}
theorem Hp.uQ{A:HP}{l F:Q HP}[a:pR l F](h:Hp E w (A::l)):Hp E w (A::F):=by obtain⟨p,e⟩:=a.sub;subst e;exact(h.perm List.perm_middle.symm).yl
theorem vC{P:Xk}{t p W e:Xn}{a n:I}{x:Xe}{K:Sl→G→Prop}(X:cF P t e sz a)(hx:(∃Y,P.underlying p=V (.slice Y))∨P.underlying p=V .string)(r:Hp E w F)(k:ad F (aI sz s xs))(hfit:s.cap<s.len+n)(hs:ad F (Src sz n x ys))(l:ys.length=n*sz)(hb:(2*(s.len+n)+1024)*a≤2^48)(hb2:s.len+n<2^62)(h:∀u w',Hp E w' (ao sz u (xs++ys)::F)→u.len=s.len+n→K u w'):au P (ZH #[t,p] W ⟨[.slice s.base s.len s.cap,x]⟩) kS w K:=by obtain⟨q,z,v,y,A,B,C⟩:=X.info;obtain⟨hs1,D⟩:=(r.an hs).run (P:=P);have b:xs.length=s.len*sz:=(r.an k).1;have L:(sizeOf e).run P w=.ok sz w:=by{rw[di v,y]};have d:(xs++ys).length=(s.len+n)*sz:=by{rw[Zg,b,l,YY]};have f:¬Xz.nextslicecap (s.len+n) s.cap*q.bytes>2^48:=by{have:=CQ (n:=s.len+n) (c:=s.cap) Za;have h2:Xz.nextslicecap (s.len+n) s.cap*q.bytes≤(2*(s.len+n)+1024)*a:=by{rw[A];exact ZS _ this};omega};have g:¬s.len+n≤s.cap:=Za;generalize hq:Question.cut (.appendCap (s.len+n) s.cap e) (w.tape w.drawn (.appendCap (s.len+n) s.cap e))=newCap;have M:s.len+n≤newCap:=by{rw[←hq];exact I.le_add_right _ _};have N:Hp E w.drew F:=r.drew (n:=w.drawn+1);have i:(Xz.firstCells sz s.len (.slice s.base s.len s.cap)).run P w.drew=.ok xs.toArray w.drew:=by{have:Src sz s.len (.slice s.base s.len s.cap) xs w.drew:=.inl ⟨s.base,s.len,s.cap,Z,Z,N.an k⟩;exact(this.run (P:=P)).1};have m:(Xz.firstCells sz n x).run P w.drew=.ok ys.toArray w.drew:=((N.an hs).run (P:=P)).1;have hA:=N.alloc (.cells (xs.toArray++ys.toArray++Xz.zeroCells z.cells (newCap-(s.len+n))) e);have R:∀w:G,(XG e).run P w=.ok z w:=by{intro w;simp[XG,typeInfo,v,B]};have S:∀w:G,(typeInfo e).run P w=.ok q w:=by{intro w;simp[typeInfo,v]};have j:¬(9223372036854775807<(s.len:H)+(n:H)∧q.bytes=0):=Za;have T:Question.forced (.appendCap (s.len+n) s.cap e)=J:=Z;have o:(ZH #[t,p] W ⟨[.slice s.base s.len s.cap,x]⟩).run P w=.ok (.slice (V ⟨w.heap.size,0,U⟩) (s.len+n) newCap) (w.drew.alloc (.cells (xs.toArray++ys.toArray++Xz.zeroCells z.cells (newCap-(s.len+n))) e)):=by{(rcases hx with⟨Y,hd⟩|hd<;>simp[ZH,Xs X.und,L,Xs hd,D,g,j,S,f,T,hq,i,m,R,newRow]);all_goals rw[←Xi.append_assoc,show xs.toArray++ys.toArray=(xs++ys).toArray by simp]};unfold au;rw[o];refine h ⟨V ⟨w.heap.size,0,U⟩,s.len+n,newCap⟩ _ (Hp.lL hA d Z M ?_ ?_) Z;{simp only[Xi.size_append,Q.size_toArray,mY,C,b,l];have:newCap*sz=(s.len+n)*sz+(newCap-(s.len+n))*sz:=by{rw[←YY];congr 1;omega};rw[this,YY];omega};{grind}
end
end
end Go.Vc
namespace Go.Proofs.Q9
section
open Go Go.Vc
section
variable{E w:G}{F:Q HP}
set_option maxRecDepth 200000 in
theorem Te{C:Xi Xe}{b n c:I}{K:Sl→G→Prop}(h:Hp E w (ag b (.cells C 5 (0,0))::F))(a:∀w',Hp E w' (ag b (.cells C 5 (C.size,C.size+1))::F)→K ⟨V ⟨b,0,U⟩,n,c⟩ w'):au Zf (XH 24 24 (.slice (V ⟨b,0,U⟩) n c)) kS w K:=qc Zc Zc h a
end
end
end Go.Proofs.Q9
namespace Go.Sym
section
def AO(n:I):(dy n).length≤n:=by induction n using ZT with|ind n a=>(rcases Z9 n with h|h);{rw[h,ql];exact Zy _};{rw[px h,Zk];have:=a ((n-1)/2) Za;omega}
end
end Go.Sym
namespace Go.Proofs.Q9
section
open Go Go.Vc Go.Inc Go.Sym
abbrev mi(L:Q I)(r:H):Xi Xe:=⟨cy L++[.int .i64 r]⟩
def qy{L:Q I}{r:H}(h:L.length=256):(mi L r).size=257:=by simp[h]
def uZ{L:Q I}{r:H}:(mi L r).toList.all aD=O:=by unfold mi;rw[Q.all_append,fk];rfl
section
variable{E w:G}{F:Q HP}
theorem SE:(Tryz.prog.fieldsOf 296).toList.map (λf=>(f.name== "_",f.type,f.offset))=[(J,178,0),(J,3,256)]:=Zc
theorem ac6:Tryz.prog.underlying 296=V (.struct (Tryz.prog.fieldsOf 296)):=Zc
theorem X8:∃a,Tryz.prog.info? 178=V a∧a.size=256:=by have h:(Tryz.prog.info? 178).map (·.size)=V 256:=Zc;obtain⟨a,b,c⟩:=Option.map_eq_some_iff.1 h;exact⟨a,b,c⟩
theorem acK:Tryz.prog.underlying 178=V (.array 256 5):=Zc
theorem wu.es{L m:Q I}{r l:H}{K:Xg→Prop}(g:L.length=256)(n:m.length=256)(B:∀b,K b):wu Zf 296 (mi L r) (mi m l) K:=by obtain⟨it,i⟩:=MY;obtain⟨z,j,o⟩:=X8;obtain⟨M,p,q⟩:=Rh;obtain⟨e,f,s,a,c⟩:∃e f,(Tryz.prog.fieldsOf 296).toList=[e,f]∧(e.name== "_",e.type,e.offset)=(J,178,0)∧(f.name== "_",f.type,f.offset)=(J,3,256):=by{have h:=SE;generalize(Tryz.prog.fieldsOf 296).toList=fs at h;match fs,h with|[],h=>simp at h|[_],h=>simp at h|_::_::_::_,h=>simp at h|[e,f],h=>simp only[ZP,YF,Q.cons.injEq,and_true]at h;exact⟨e,f,rfl,h.1,h.2⟩};simp only[XQ.mk.injEq]at a c;have A:∀{L:Q I}{r:H},L.length=256→(((mi L r).toList.drop 0).take 256)=(L.map λ(x:I)=>(x:H)).map (.int .u8):=λ{L r} g=>by{unfold mi;rw[Yn,Q.take_append_of_le_length (by simp[g]),Zx (by simp[g]),YK];rfl};have N:∀{L:Q I}{r:H},L.length=256→(mi L r)[256]?=V (.int .i64 r):=λ{L r} g=>Ze;obtain⟨b,C,u⟩:=mr (P:=Zf) (d:=9) (rec:=λt x y K=>∃b,(∀D,9≤D→∀w,(Yo D t x y).run Zf w=.ok b w)∧K b) (λt x y K h=>h) (xs:=mi L r) (ys:=mi m l) (fs:=[e,f]) (K:=K) (by unfold lA;rw[a.1];refine oY (it:=z) (by rw[a.2.1];kernel_rfl) (by rw[a.2.1];exact j) (oY (it:=z) (by rw[a.2.1];kernel_rfl) (by rw[a.2.1];exact j) ?_);rw[a.2.2,o,a.2.1,A g,A n];refine⟨_,λD G w=>Eo acK US p q Ze Ze D Za w,?_⟩;unfold lA;rw[c.1];refine fS (it:=it) (v:=.int .i64 r) (by rw[c.2.1];kernel_rfl) (by rw[c.2.1];exact i) Ze (fS (it:=it) (v:=.int .i64 l) (by rw[c.2.1];kernel_rfl) (by rw[c.2.1];exact i) Ze ?_);rw[c.2.1];exact⟨r==l,λD G w=>by obtain⟨D,rfl⟩:∃k,D=k+1:=⟨D-1,Za⟩;exact run_equalIn_int w D _ _ _ _ _ Px,B _⟩);refine⟨b,λw=>?_,u⟩;rw[run_equalIn_struct w 9999 _ _ _ ac6 Zc,s];exact C 9999 Zb w
abbrev esP:I→Xj (I×I):=(#[(0,256),(256,1)][·]?)
theorem S3(a:Q (I×Xe)):Tryz.prog.built 296 a=YL esP ⟨Zj 256 (.int .u8 0)++[.int .i64 0]⟩ a:=Zc
theorem dr.es{L:Q I}{K:Xi Xe→Prop}(a:L.length=256)(b:K (mi L 0)):dr Zf 296 [(0,.agg ⟨cy L⟩)] K:=by refine⟨_,?_,b⟩;rw[S3];have:=jY (place:=esP) (i:=0) (v:=.agg ⟨cy L⟩) (rest:=[]) (pre:=[]) (aP:=Zj 256 (.int .u8 0)) (post:=[.int .i64 0]) Z Z ZX (by show(⟨cy L⟩:Xi Xe).size=_;simp[a]);exact this
abbrev esZ:Xi Xe:=⟨Zj 256 (Yy .u8 0)++[Yy .i64 0]⟩
theorem TP:(⟨Zj 256 (.int .u8 0)++[.int .i64 0]⟩:Xi Xe).size=257:=Zd
theorem MV{K:Xi Xe→G→Prop}(h:Hp E w F)(b:∀w',Hp E w' F→K (mi (Zt 256) 0) w'):Cl Zf [.arr 257] 208 ⟨[]⟩ w K:=by refine Ng.ok _ _ ?_;refine Nw.mk h λc w h=>Q3 h λw h=>dr.es Zd ?_;have a:(mi (Zt 256) 0).size=257:=qy Zd;refine aB.q h TP a uZ λw h=>?_;exact Ld.xw h a (b _ h.tl)
theorem Ep{L:Q I}{r:I}{K:Xg→G→Prop}(h:Hp E w F)(c:bV L)(f:r≤2147483647)(d:∀w',Hp E w' F→K O w'):Cl Zf [kB] 281 ⟨[.agg (mi L (r:H))]⟩ w K:=by refine JD.ok _ _ _ ?_;have a:=jx c.len;refine Nw.mk h λe w h=>?_;have h:=h.drew (n:=w.drawn+1);refine⟨bT e _ _ _,h.hb,?_⟩;refine aA.qw (λ_ h=>h) a Z ?_;refine MV h λw h=>⟨h.hb,?_⟩;refine wu.es c.len Zd λb=>?_;refine aa.mk (λ_=>d _ h.tl) λ_=>?_;(try simp only[aj,Zl,Zr]);refine aA.q (λ_ h=>h) a Z Z (aa.dt Za ?_);refine aA.q (λ_ h=>h) a Z Z (aa.dt Za ?_);refine aA.p (λ_ h=>h) a ?_;exact Fl h c λw h=>⟨h.hb,d _ h.tl⟩
theorem SX{L:Q I}{r:I}{s:Sl}{b:Q I}{K:Xi Xe→Sl→H→G→Prop}(h:Hp E w F)(t:bV L)(C:ad F (aI 1 s (b.map vB)))(W:∀x∈b,x<256)(hr:r+b.length≤1000000)(u:∀D w',Hp E w' (ao 1 D ((ints (eO L r b).1).map vI)::F)→bV (eO L r b).2.1→(eO L r b).2.2≤1000000→K (mi (eO L r b).2.1 ((eO L r b).2.2:H)) D 0 w'):Cl Zf [.arr 257,kS,kI] 207 ⟨[.agg (mi L (r:H)),.slice s.base s.len s.cap]⟩ w K:=by refine KB.ok _ _ _ _ ?_;have l:=jx t.len;have M:b.length=s.len:=by{have:=(h.an C).1;simpa using this};(try simp only[bz,aj,Zl,Zr]);refine Nw.mk h λz w h=>Nw.mk h λN w h=>?_;refine Ld.qw h l Z (Ep h t Za λw h=>?_);(with_reducible refine aa.Qv ?_);refine Ld.q h l Z Z ?_;rw[ae Za];refine aa.df Za ?_;refine⟨λo i w=>∃(k:I)(d:Q I)(e:I)(a:Q I),i=(k:H)∧k≤b.length∧bV d∧a.length+e≤r+k∧eO L r b=(a++(eO d e (b.drop k)).1,(eO d e (b.drop k)).2)∧Hp E w (ao 1 o ((ints a).map vI)::ag N (.cells esZ 296 (0,0))::ag z (.cells (mi d (e:H)) 296 (0,0))::F),λ_ i _=>b.length-i.toNat,⟨0,L,r,[],Z,Za,t,Zd,Zd,h.aU 1⟩,?_⟩;rintro o i w ⟨k,d,e,a,rfl,hk,hL',hlo,he,h⟩;have f:=jx hL'.len;refine aa.dm (λj=>?_) λX=>?_;{have j:k<b.length:=by{omega};have P:=W _ (Zu j);have R:=hL'.idx P;refine ay.rd ((h.tl:Hp E w F).an C) Za Za λq _ Y=>?_;refine Ld.sc (s:=.int .u8) (b[k]:H) (by rw[Y];simp[Sc.enc,vB]) ?_;refine Ld.p h f (aah h hL' P λw h=>?_);have hm:(⟨cy (dk d (d.idxOf b[k]))⟩:Xi Xe).size=256:=by{simp[(hL'.take R.1).len]};have g:=hL'.take R.1;have c:=jx g.len;refine aB.xm (pre:=[]) (aP:=cy d) (post:=[.int .i64 (e:H)]) h Z Z f hm (λv hv=>List.all_eq_true.1 fk v hv) λw h=>?_;have h:Hp E w (ao 1 o ((ints a).map vI)::ag N (.cells esZ 296 (0,0))::ag z (.cells (mi (dk d (d.idxOf b[k])) (e:H)) 296 (0,0))::F):=h;rw[ZA j]at he;rw[ae (x:=(k:H)+1) Za];by_cases h0:d.idxOf b[k]=0;{rw[eO,Xh h0]at he;rw[h0]at h g c⊢;refine aa.et Z (Ld.q h c Z Z ?_);rw[ae Za];refine St.q h c Z Z Z λw h=>?_;dsimp only[aY,over]at h;rw[show(e:H)+1=((e+1:I):H) by omega]at h;exact⟨⟨k+1,_,e+1,a,Za,Za,g,Za,he,h⟩,by first|omega|(dsimp only;omega)⟩};{rw[eO,Xf h0]at he;refine aa.ef Za (Ld.q h c Z Z ?_);have hdl:=AO e;refine QV h Za Za λm w h=>?_;have S:=h.aV;have l2:=(h.at 1).aV;simp only[ints,Zq,ZE]at S l2;refine bg (s:=o) (ys:=(ints (dy e)).map vI) (n:=m.len) mW Zb (.inl ⟨3,Zc⟩) (h.at 1) (.inl ⟨m.base,m.len,m.cap,Z,Z,h.an ad.own⟩) (by simp[ints,S]) Eh Za Za λs2 w h hl2=>?_;have h:=h.no 1;refine Nw.mk h λA w h=>?_;rw[ae Za]at h;refine bg (s:=s2) (ys:=[vI ((d.idxOf b[k]:H)+1)]) (n:=1) mW Zb (.inl ⟨3,Zc⟩) (h.at 1) (.inl ⟨V ⟨A,0,U⟩,1,1,Z,Z,h.an (ad.ax Z Z)⟩) Z (by intro y T;rw[ZI]at T;rw[T];rfl) Za Za λs3 w h _=>?_;have h:=h.no 1;refine St.q (b:=z) h c Z Z Z λw h=>?_;dsimp only[aY,over]at h;refine⟨⟨k+1,_,0,a++(dy e++[d.idxOf b[k]+1]),Za,Za,g,?_,?_,?_⟩,by first|omega|(dsimp only;omega)⟩;{grind};{rw[he];simp};{rw[show(ints (a++(dy e++[d.idxOf b[k]+1]))).map vI=(ints a).map vI++(ints (dy e)).map vI++[vI ((d.idxOf b[k]:H)+1)] by simp[ints]];exact h}}};{have B:k=b.length:=by{omega};subst B;rw[ZZ (Zy _),eO,ZG]at he;rw[he]at u;dsimp only at u;refine Ld.qw h f Z ?_;refine aB.q h TP (qy hL'.len) uZ λw h=>Ld.xw h (qy hL'.len) (u o w h.uQ hL' Za)}
theorem Vm{L:Q I}{r:I}{K:Sl→H→G→Prop}(h:Hp E w F)(c:bV L)(l:r≤1000000)(f:∀d w',Hp E w' (ao 1 d ((ints (dy r++[257])).map vI)::F)→K d 0 w'):Cl Zf [kS,kI] 209 ⟨[.agg (mi L (r:H))]⟩ w K:=by refine OG.ok _ _ _ ?_;have a:=jx c.len;(try simp only[aj,Zl]);refine Nw.mk h λm w h=>Ld.qw h a Z (Ep h c Za λw h=>?_);(with_reducible refine aa.Qv ?_);have g:=AO r;refine Ld.q h a Z Z (QV h Za Za λi w h=>Nw.mk h λb w h=>?_);have j:=(h.at 1).aV;simp only[ints,Zq,ZE]at j;refine bg (s:=i) (ys:=[vI 257]) (n:=1) mW Zb (.inl ⟨3,Zc⟩) (h.at 1) (.inl ⟨V ⟨b,0,U⟩,1,1,Z,Z,h.an (ad.ax Z Z)⟩) Z (by intro y e;rw[ZI]at e;rw[e];rfl) Za Za λk w h _=>f k w ?_;rw[show(ints (dy r++[257])).map vI=(ints (dy r)).map vI++[vI 257] by simp[ints]];exact h.uQ
theorem Vy{s:Sl}{b:Q I}{K:Sl→G→Prop}(h:Hp E w F)(i:ad F (aI 1 s (b.map vB)))(j:∀x∈b,x<256)(u:b.length≤1000000)(k:∀f w',Hp E w' (ao 1 f ((ints (syms b)).map vI)::F)→K f w'):Cl Zf [kS] 141 ⟨[.slice s.base s.len s.cap]⟩ w K:=by refine Ov.ok _ _ _ ?_;refine MV h λw h=>SX (r:=0) h bV.range i j Ze λl w h a e=>Nw.mk h λv w h=>?_;refine aB.q h TP (qy a.len) uZ λw h=>Ld.xw h (qy a.len) ?_;refine Vm h a e λd w h=>?_;have g:=h.aV;have m:=(h.at 2).aV;have y:(eO (Zt 256) 0 b).1.length+(eO (Zt 256) 0 b).2.2≤b.length:=by{have:∀(b L:Q I)(r:I),(eO L r b).1.length+(eO L r b).2.2≤r+b.length:=by{intro b;induction b with|nil=>intro L r;simp[eO]|cons c b o=>intro L r;rw[eO];split;{grind};{have:=o (dk L (L.idxOf c)) 0;have:=AO r;simp only[Zg,Zk];omega}};simpa using this b (Zt 256) 0};have p:=AO (eO (Zt 256) 0 b).2.2;simp only[ints,Zq,ZE,Zg,ZL]at g m;refine bg (s:=l) (ys:=(ints (dy (eO (Zt 256) 0 b).2.2++[257])).map vI) (n:=d.len) mW Zb (.inl ⟨3,Zc⟩) (h.at 2) (.inl ⟨d.base,d.len,d.cap,Z,Z,h.an ad.own⟩) (by simp[ints,←g]) Eh Za Za λt w h _=>k t w ?_;rw[show(ints (syms b)).map vI=(ints (eO (Zt 256) 0 b).1).map vI++(ints (dy (eO (Zt 256) 0 b).2.2++[257])).map vI by unfold syms dI;simp[ints]];exact h.uQ
end
end
section
open Go Go.Vc
set_option maxRecDepth 100000
def F3.ok(a:(Xj Xr))(b:(Xi Xe))(c:Sl)(R:H→G→Prop) w(h:Nw 172 b w λe d=>Ld (.arr 258) ⟨e,0,U⟩ d λf=>Cl Pg [kI,kI] 217 ⟨[(.agg f),(ah c)]⟩ d λ(h:H)(i:H) g=>aO (λ(k:G)=>Ld (.arr 258) ⟨e,0,U⟩ k λl=>Cl Pg [(.arr 258),kI] 218 ⟨[(.agg l)]⟩ k λn(o:H) m=>Nw 262 ⟨Zj 258 (.int .u32 0)⟩ m λq p=>aB 258 ⟨q,0,U⟩ n p λr=>eT 0 r λs t(u:H) v=>aa (K (u<(c.len:H))) (ay c u 1 λx=>Ld kI x v λ(y:H)=>aC v λz=>aK ⟨q,0,U⟩ 258 y 1 λB=>Ld (av .u32) B z λ(C:H)=>aK ⟨e,0,U⟩ 258 y 1 λD=>Ld (av .u8) D z λ(E:H)=>Cl Pg [kB] 216 ⟨[(.pointer a),(.int .u32 C),(ni (i64 E))]⟩ z λ(F:Xg) A=>s (i64 (u+1)) A∧t (i64 (u+1)) A<t u v) (R 0 v)) λj=>aa (ZN (a:Xj Xr)) (R 2 g) (aa (i !=0) (R 2 g) (j g))):Cl Pg [kI] 147 ⟨[(.pointer a),(.agg b),(ah c)]⟩ w R:=co Tryz.f147 [(4,[]),(14,[(32,kI)])] h
def CN.ok(a:(Xi Xe))(b:Sl)(R:H→H→G→Prop) w(h:Nw 172 a w λd c=>Ld (.arr 258) ⟨d,0,U⟩ c λe=>Cl Pg [kB] 295 ⟨[(.agg e)]⟩ c λ(g:Xg) f=>aa (! g) (R 0 2 f) (dE 0 0 f λh i(j:H)(k:H) l=>aa (K (k<(b.len:H))) (ay b k 1 λm=>Ld kI m l λ(n:H)=>aa (K (n<0)) (R 0 2 l) (aa (K (n≥258)) (R 0 2 l) (aK ⟨d,0,U⟩ 258 n 1 λo=>Ld (av .u8) o l λ(p:H)=>aa (p==0) (R 0 2 l) (aK ⟨d,0,U⟩ 258 n 1 λq=>Ld (av .u8) q l λ(r:H)=>h (i64 (j+(i64 r))) (i64 (k+1)) l∧i (i64 (j+(i64 r))) (i64 (k+1)) l<i j k l)))) (R j 0 l))):Cl Pg [kI,kI] 217 ⟨[(.agg a),(ah b)]⟩ w R:=co Tryz.f217 [(10,[(4,kI),(13,kI)])] h
def F6.ok(R:(Xj Xr)→G→Prop) w(h:Nw 311 ⟨[(.slice U 0 0),(ni 0)]⟩ w λb a=>R (V ⟨b,0,U⟩) a):Cl Pg [kP] 145 ⟨[]⟩ w R:=co Tryz.f145 [] h
def rz.ok(a:(Xj Xr))(R:Sl→G→Prop) w(h:aa (ZN (a:Xj Xr)) (R (⟨U,0,0⟩:Sl) w) (af a λb=>Ld kS (b.add 0) w λ(c:Sl)=>Cl Pg [kS] 51 ⟨[(ah c)]⟩ w λ(e:Sl) d=>R e d)):Cl Pg [kS] 148 ⟨[(.pointer a)]⟩ w R:=co Tryz.f148 [] h
def uY.ok(a:(Xj Xr))(b:H)(c:H)(R:Xg→G→Prop) w(h:Nw 242 ⟨[(.pointer a)]⟩ w λe d=>Ld kP ⟨e,0,U⟩ d λf=>aa (ZN (f:Xj Xr)) (R J d) (Cl Pg [kB] 292 ⟨[(.int .u32 b),(ni c)]⟩ d λ(h:Xg) g=>aa (! h) (R J g) (Cl Pg [kV] 293 ⟨[(.int .u32 b),(ni c)]⟩ g λj i=>ga Pg j [(av .u8)] i (λ(k:I)(l:I→Obj)(p:H)(m:G)(n o:G→Prop)=>qE k l m λq=>Ld kP ⟨e,0,U⟩ q λr=>Cl Pg [] 294 ⟨[(.pointer r),(.int .u8 p)]⟩ q λs=>lG k l s n) (λt u=>iI (t::[]:Q I) u λv=>R O v) λx y=>iI (x::[]:Q I) y λz=>R J z))):Cl Pg [kB] 216 ⟨[(.pointer a),(.int .u32 b),(ni c)]⟩ w R:=wL Tryz.f216 (.s .o (.s (.s .o (.c (.s .o .o) .o)) (.s (.s .o (.b (.r [(av .u8)] .o (.b .o)))) (.s .o .o)))) h
def DG.ok(a:H)(b:H)(R:Xg→G→Prop) w(h:aa (K (b≥0)) (aa (K (b≤32)) (0≤b∧R ((aJ .u64 (u64 a) b)==0) w) (R J w)) (R J w)):Cl Pg [kB] 292 ⟨[(.int .u32 a),(ni b)]⟩ w R:=co Tryz.f292 [] h
def Dp.ok(a:H)(b:H)(R:Xe→G→Prop) w(h:Nw 112 ⟨[(.int .u32 a)]⟩ w λd c=>Nw 3 ⟨[(ni b)]⟩ c λf e=>R (.func (.func 347) ⟨[]⟩ ⟨[(.pointer (V ⟨f,0,U⟩)),(.pointer (V ⟨d,0,U⟩))]⟩) e):Cl Pg [kV] 293 ⟨[(.int .u32 a),(ni b)]⟩ w R:=co Tryz.f293 [] h
def uw.ok(a:(Xj Xr))(b:H)(R:G→Prop) w(h:af a λc=>Ld kI (c.add 1) w λ(d:H)=>aa ((cd .i64 d 7)==0) (af a λe=>Ld kS (e.add 0) w λ(f:Sl)=>Nw 5 ⟨[(.int .u8 0)]⟩ w λh g=>au Pg (ZH #[24,24] 24 ⟨[(ah f),(ah (⟨V ⟨h,0,U⟩,1,1⟩:Sl))]⟩) kS g λ(j:Sl) i=>af a λk=>St (k.add 0) (ah j) i λl=>aC l λm=>af a λn=>Ld kS (n.add 0) m λ(o:Sl)=>af a λp=>Ld kI (p.add 1) m λ(q:H)=>0≤(3:H)∧ay o (aJ .i64 q (3:H)) 1 λr=>Ld (av .u8) r m λ(s:H)=>af a λt=>Ld kI (t.add 1) m λ(u:H)=>0≤(i64 ((7:H)-(cd .i64 u 7)))∧ay o (aJ .i64 q (3:H)) 1 λv=>St v (.int .u8 (iw .u8 s (bx .u8 b (i64 ((7:H)-(cd .i64 u 7)))))) m λx=>af a λy=>Ld kI (y.add 1) x λ(z:H)=>af a λF=>St (F.add 1) (ni (i64 (z+1))) x λI=>R I) (aC w λA=>af a λK=>Ld kS (K.add 0) A λ(B:Sl)=>af a λL=>Ld kI (L.add 1) A λ(C:H)=>0≤(3:H)∧ay B (aJ .i64 C (3:H)) 1 λM=>Ld (av .u8) M A λ(N:H)=>af a λP=>Ld kI (P.add 1) A λ(D:H)=>0≤(i64 ((7:H)-(cd .i64 D 7)))∧ay B (aJ .i64 C (3:H)) 1 λQ=>St Q (.int .u8 (iw .u8 N (bx .u8 b (i64 ((7:H)-(cd .i64 D 7)))))) A λE=>af a λS=>Ld kI (S.add 1) E λ(T:H)=>af a λW=>St (W.add 1) (ni (i64 (T+1))) E λX=>R X)):Cl Pg [] 294 ⟨[(.pointer a),(.int .u8 b)]⟩ w R:=co Tryz.f294 [] h
def zF.ok(a:Xe)(b:Xr)(c:Xr)(R:G→Prop) w(h:Ld kI b w λ(d:H)=>∃(e:H→G→Prop)(f:H→G→I),e ((i64 (d-1))) w∧∀(g:H),∀(h:G),e g h→aa (K (g≥0)) (Ld (av .u32) c h λ(i:H)=>0≤g∧mO Pg a [kB] [(.int .u8 (cd .u8 (u8 (aJ .u32 i g)) 1))] h λ(k:Xg) j=>aa (! k) (R j) (([]:Q I)=([]:Q I)∧e (i64 (g-1)) j∧f (i64 (g-1)) j<f g h)) (R h)):Cl Pg [] 347 ⟨[a,(.pointer (V b)),(.pointer (V c))]⟩ w R:=wL Tryz.f347 (.s .o (.b (.l [(4,kI)] (.s (.s .o (.c .o .o)) (.s (.b (.s .o (.c .o .o))) .o))))) h
end
end Go.Proofs.Q9
namespace Go.Srt
section
def sh(l:Q I)(s:I):I:=2^(15-l.getD s 0)
def start(l a:Q I)(i:I):I:=((a.take i).map (sh l)).sum
def uS{l a:Q I}{i:I}(h:i<a.length):start l a (i+1)=start l a i+sh l a[i]:=by unfold start;rw[ZB,ZF,YO,Zh h];simp only[Xj.toList,ZP,YF,Q.sum_cons,Q.sum_nil,Zr]
def Iz(l:Q I)(s:I):0<sh l s:=Ym _
def Oz{l ys:Q I}{i j:I}(h:i≤j):start l ys i≤start l ys j:=by unfold start;have:=Zw i (ys.take j);rw[Q.take_take,Y0 h]at this;have a:=Xp (λb=>(b.map (sh l)).sum) this;simp only[ZF,YO]at a;omega
def gh{l:Q I}{s:I}:s∈used l↔s<l.length∧0<l.getD s 0:=by unfold used;rw[Q.mem_filter,Q.mem_range];simp
def E0(l:Q I):bD l=((used l).map λs=>wt (l.getD s 0)).sum:=by have a:∀k,k≤l.length→bD (l.take k)=(((Zt k).filter λs=>decide (0<l.getD s 0)).map λs=>wt (l.getD s 0)).sum:=by{intro k;induction k with|zero=>intro _;simp[bD]|succ k b=>intro c;rw[xz Za,b Za,YP,Q.filter_append,ZF,YO];have d:l.getD k 0=l[k]:=by{rw[Zo,Zh Za];rfl};by_cases h:0<l.getD k 0;{grind};{rw[Q.filter_cons_of_neg Ze];have:l[k]=0:=by{omega};rw[this];rfl}};have:=a l.length (Zy _);rw[ZQ]at this;exact this
def jm{l:Q I}(b:bD l≤32768)(s:I):l.getD s 0≤15:=by rw[Zo];cases h:l[s]? with|none=>simp|some x=>have:=ab6 (Y5 h);unfold wt at this;simp only[YE];(rcases Yg 15 x with a|a);{grind};{exact a}
def OV{l a:Q I}(b:bD l≤32768)(h:da l a):start l a a.length=bD l:=by unfold start;rw[ZQ,E0,(h.1.map (sh l)).sum_nat];congr 1;refine Z2 λs c=>?_;have d:=(gh.1 c).2;have e:=jm b s;unfold sh wt;rw[Xf Za,Xf Za]
def SK{l ys:Q I}(a:bD l≤32768)(h:da l ys){i:I}(b:i≤ys.length):start l ys i≤32768:=by have:=Oz (l:=l) (ys:=ys) b;rw[OV a h]at this;omega
def LR{l a:Q I}(h:da l a){i j:I}(b:j<a.length)(c:i≤j):l.getD (a[i]' Za) 0≤l.getD a[j] 0:=by by_cases e:i=j;{grind};{have:=(List.pairwise_iff_getElem.1 h.2) i j Za b Za;omega}
def Ee{l a:Q I}(h:da l a){i:I}(b:i<a.length):∀k,k≤i→sh l a[i]∣start l a k|0,_=>by simp[start]|k+1,c=>by rw[uS Za];refine I.dvd_add (Ee h b k Za) ?_;have:=LR h b (show k≤i by omega);unfold sh;exact I.pow_dvd_pow 2 Za
def jo(l a:Q I)(i:I):I:=start l a i/sh l (a.getD i 0)
def getD_at{a:Q I}{i:I}(b:i<a.length):a.getD i 0=a[i]:=Ze
def uq{l a:Q I}(h:da l a){i:I}(b:i<a.length):jo l a i*sh l a[i]=start l a i:=by unfold jo;rw[getD_at b];exact I.div_mul_cancel (Ee h b i (Zy _))
def Qp{l:Q I}(a:bD l≤32768)(s:I):2^l.getD s 0*sh l s=32768:=by unfold sh;rw[←I.pow_add,show l.getD s 0+(15-l.getD s 0)=15 by have:=jm a s;omega]
def Py{l a:Q I}(b:bD l≤32768)(h:da l a){i:I}(c:i<a.length):jo l a i<2^l.getD a[i] 0:=by have g:=uq h c;have d:=SK b h (show i+1≤a.length by omega);rw[uS c]at d;have j:=Qp b a[i];have e:=Iz l a[i];have f:(jo l a i+1)*sh l a[i]≤2^l.getD a[i] 0*sh l a[i]:=by{rw[Yb];omega};exact I.le_of_mul_le_mul_right f e
def fD(l a:Q I):I→Q I|0=>Zj 258 0|i+1=>(fD l a i).set (a.getD i 0) (jo l a i)
def fm(l a:Q I):∀i,(fD l a i).length=258|0=>ZX|i+1=>by rw[fD,Q.length_set,fm l a i]
def abO{l a:Q I}(h:da l a){i j:I}(c:j<a.length)(b:i<j):a[i]' Za≠a[j]:=by have:=(List.pairwise_iff_getElem.1 h.2) i j Za c b;intro e;rw[e]at this;omega
def AQ{l a:Q I}(h:da l a)(b:∀s∈a,s<258):∀(i:I),i≤a.length→∀j(d:j<a.length),j<i→(fD l a i).getD a[j] 0=jo l a j|0,_,_,_,f=>Za|i+1,m,j,d,f=>by have c:i<a.length:=Za;rw[fD,getD_at c];by_cases e:j=i;{subst e;have:a[j]<(fD l a j).length:=by{rw[fm];exact b _ (Zu d)};rw[Zo,Q.getElem?_set_self this];rfl};{have g:=abO h c (show j<i by omega);rw[Zo,Q.getElem?_set_ne λk=>g k.symm,←Zo];exact AQ h b i Za j d Za}
def many(l:Q I)(n:I):I:=if n=0 then 0 else l.count n
def fst(l:Q I):I→I|0=>0|n+1=>2*(fst l n+many l n)
def low(l:Q I):I→I|0=>0|n+1=>low l n+many l n*2^(15-n)
def C3(l:Q I):∀n,n≤15→fst l n*2^(15-n)=low l n|0,_=>by simp[fst,low]|n+1,h=>by have a:=C3 l n Za;have e:2^(15-n)=2*2^(15-(n+1)):=by{rw[show 15-n=(15-(n+1))+1 by omega,YC,Yk]};rw[fst,low,←a,←YY,e,Yk 2 (fst l n+many l n),I.mul_assoc]
def Ll(n:I):low [] n=0:=by induction n with|zero=>rfl|succ n a=>rw[low,a];simp[many]
def Dy(l:Q I)(x:I):∀n,low (l++[x]) n=low l n+if 0<x∧x<n then 2^(15-x)else 0|0=>by simp[low]|n+1=>by rw[low,low,Dy l x n];unfold many;rw[Q.count_append,Q.count_singleton];by_cases h0:n=0;{subst h0;rw[Xh Z,Xh Z,Xf Za,Xf Za]};{rw[Xf h0,Xf h0];by_cases hx:x=n;{subst hx;rw[Xf Za,Xh Zd,Xh Za,YY];omega};{rw[Xf (show¬(x==n)=O by simpa using hx)];by_cases h:0<x∧x<n;{rw[Xh h,Xh Za,Zr];omega};{rw[Xf h,Xf Za,Zr,Zr,Zr]}}}
def Jw(l:Q I){n m:I}(h:n≤m):low l n≤low l m:=by induction m with|zero=>have:n=0:=Za;subst this;exact Zy _|succ m a=>by_cases e:n=m+1;{grind};{have:=a Za;rw[low];omega}
def Wz:∀(k:I)(l:Q I),l.length=k→(∀x∈l,x≤15)→low l 16=bD l:=by intro k;induction k with|zero=>intro l h _;have:l=[]:=List.length_eq_zero_iff.1 h;subst this;simp[Ll,bD]|succ k c=>intro l d h;have a:l≠[]:=by{intro e;subst e;simp at d};obtain⟨b,x,rfl⟩:∃b x,l=b++[x]:=⟨l.dropLast,l.getLast a,(Q.dropLast_concat_getLast a).symm⟩;rw[Dy,c b Ze λy f=>h y (by simp[f])];unfold bD;rw[ZF,YO];unfold wt;by_cases h0:x=0;{grind};{grind}
def UB{l:Q I}(a:bD l≤32768):low l 16=bD l:=Wz _ l rfl λx b=>by obtain⟨i,c,rfl⟩:=ZY b;have:=jm a i;rwa [Zo,Zh c]at this
def kr(l:Q I)(s:I):I:=(l.take s).count (l.getD s 0)
def code(l:Q I)(s:I):I:=fst l (l.getD s 0)+kr l s
def pos(l:Q I)(s:I):I:=low l (l.getD s 0)+kr l s*2^(15-l.getD s 0)
def vn{l:Q I}(a:bD l≤32768)(s:I):code l s*2^(15-l.getD s 0)=pos l s:=by unfold code pos;rw[YY,C3 l _ (jm a s)]
def fe{l:Q I}{i:I}(h:i<l.length):l.getD i 0=l[i]:=by rw[Zo,Zh h];rfl
def lk(l:Q I)(k x:I):(l.take k).count x≤l.count x:=(Q.take_sublist k l).count_le x
def fA{l:Q I}{k:I}(h:k<l.length)(x:I):(l.take (k+1)).count x=(l.take k).count x+if l[k]=x then 1 else 0:=by rw[ZB,Zh h,Q.count_append];simp only[Xj.toList,Q.count_singleton,XB]
def qK{l:Q I}{i j:I}(h:i≤j)(x:I):(l.take i).count x≤(l.take j).count x:=by have:(l.take i)=(l.take j).take i:=by{rw[Q.take_take,Y0 h]};rw[this];exact lk _ _ _
def LX{l:Q I}{s:I}(a:s<l.length)(c:0<l.getD s 0):kr l s<many l (l.getD s 0):=by unfold kr many;rw[Xf Za];have b:=fA a (l.getD s 0);rw[fe a,Xh Z]at b;have d:=lk l (s+1) (l[s]);rw[fe a];omega
def HN{l:Q I}{s:I}(a:s<l.length)(b:0<l.getD s 0):pos l s+2^(15-l.getD s 0)≤low l (l.getD s 0+1):=by have:=LX a b;unfold pos;rw[low,Yw,←Yb];exact I.add_le_add_left (ZS _ this) _
def rb{l:Q I}{s t:I}(b:s<l.length)(g:t<l.length)(c:0<l.getD s 0)(d:s≠t)(h:l.getD s 0<l.getD t 0∨(l.getD s 0=l.getD t 0∧s<t)):pos l s+2^(15-l.getD s 0)≤pos l t:=by(rcases h with h|⟨h,e⟩);{have a:=HN b c;have f:=Jw l (show l.getD s 0+1≤l.getD t 0 by omega);unfold pos at a⊢;omega};{have a:=fA b (l.getD t 0);rw[Xh Ze]at a;have f:=qK (l:=l) (show s+1≤t by omega) (l.getD t 0);unfold pos kr;rw[h,Yw,←Yb];exact I.add_le_add_left (ZS _ Za) _}
def To{l:Q I}{s t x:I}(a:s<l.length)(b:t<l.length)(c:0<l.getD s 0)(d:0<l.getD t 0)(j:pos l s≤x)(f:x<pos l s+2^(15-l.getD s 0))(k:pos l t≤x)(g:x<pos l t+2^(15-l.getD t 0)):s=t:=by by_cases e:s=t;{exact e};{(rcases I.lt_trichotomy (l.getD s 0) (l.getD t 0)with h|h|h);{have:=rb a b c e (.inl h);omega};{(rcases Yg s t with i|i);{have:=rb a b c e (.inr ⟨h,i⟩);omega};{have:=rb b a d (Ne.symm e) (.inr ⟨h.symm,Za⟩);omega}};{have:=rb b a d (Ne.symm e) (.inl h);omega}}
def WW(l:Q I)(n:I):∀p,p<l.count n→∃s,s<l.length∧l.getD s 0=n∧kr l s=p:=by intro p d;have a:∀k,k≤l.length→p<(l.take k).count n→∃s,s<k∧l.getD s 0=n∧kr l s=p:=by{intro k;induction k with|zero=>intro _ h;simp at h|succ k e=>intro f h;by_cases b:p<(l.take k).count n;{grind};{have c:=fA (l:=l) (k:=k) Za n;by_cases h4:l[k]=n;{rw[Xh h4]at c;refine⟨k,Za,by rw[fe Za,h4],?_⟩;unfold kr;rw[fe Za,h4];omega};{grind}}};obtain⟨s,g,b⟩:=a l.length (Zy _) Ze;exact⟨s,Za,b⟩
def Ir{l:Q I}{s t:I}(c:s<l.length)(d:t<l.length)(h:l.getD s 0=l.getD t 0)(a:kr l s=kr l t):s=t:=by have b:∀{s t:I},s<l.length→t<l.length→l.getD s 0=l.getD t 0→kr l s=kr l t→¬s<t:=by{intro s t c d h a f;have e:=fA c (l.getD t 0);rw[Xh Ze]at e;have g:=qK (l:=l) (show s+1≤t by omega) (l.getD t 0);unfold kr at a;rw[h]at a;omega};have e:=b c d h a;have g:=b d c h.symm a.symm;omega
def Mz(l:Q I)(n s t:I):Xg:=K (0<l.getD t 0)&&K (l.getD t 0<n∨(l.getD t 0=n∧t<s))
def BF(l:Q I)(n s:I)(j:0<n):∀k,k≤l.length→(((Zt k).filter (Mz l n s)).map (sh l)).sum=low (l.take k) n+((l.take k).take s).count n*2^(15-n)|0,_=>by simp[Ll]|k+1,p=>by have c:k<l.length:=Za;rw[YP,Q.filter_append,ZF,YO,BF l n s j k Za];have m:l.take (k+1)=l.take k++[l[k]]:=by{rw[ZB,Zh c];rfl};rw[m,Dy];have d:=fe c;have e:(l.take k).length=k:=by{simp;omega};have g:0<l[k]→(l[k]<n∨(l[k]=n∧k<s))→Mz l n s k=O:=λa b=>by{unfold Mz;rw[d,ZK,XA,XA];exact⟨a,b⟩};have f:¬(0<l[k]∧(l[k]<n∨(l[k]=n∧k<s)))→¬Mz l n s k=O:=λh=>by{unfold Mz;rw[d,ZK,XA,XA];exact h};by_cases hks:k<s;{have i:(l.take k++[l[k]]).take s=l.take k++[l[k]]:=Zx (by rw[Zg,e];simp;omega);have o:(l.take k).take s=l.take k:=Zx Za;rw[i,o,Q.count_append,Q.count_singleton];by_cases a:0<l[k]∧l[k]<n;{rw[Q.filter_cons_of_pos (g a.1 (.inl a.2)),Xh a,Xf (by rw[XB];omega)];simp only[Q.filter_nil,ZP,YF,Q.sum_cons,Q.sum_nil,sh,d,Zr];omega};{rw[Xf a];by_cases b:l[k]=n;{rw[Q.filter_cons_of_pos (g Za (.inr ⟨b,hks⟩)),Xh (by simpa using b),YY];simp only[Q.filter_nil,ZP,YF,Q.sum_cons,Q.sum_nil,sh,d,b];omega};{rw[Q.filter_cons_of_neg (f Za),Xf (by simpa using b)];simp}}};{have i:(l.take k++[l[k]]).take s=(l.take k).take s:=by{rw[Q.take_append_of_le_length Za]};rw[i];by_cases a:0<l[k]∧l[k]<n;{rw[Q.filter_cons_of_pos (g a.1 (.inl a.2)),Xh a];simp only[Q.filter_nil,ZP,YF,Q.sum_cons,Q.sum_nil,sh,d,Zr];omega};{rw[Xf a,Q.filter_cons_of_neg (f Za)];simp}}
def QA{l b:Q I}(h:da l b){i:I}(d:i<b.length):start l b i=pos l b[i]:=by have k:=gh.1 (h.1.mem_iff.1 (Zu d));let p:I→Xg:=λt=>decide (l.getD t 0<l.getD b[i] 0∨(l.getD t 0=l.getD b[i] 0∧t<b[i]));have c:=List.pairwise_iff_getElem.1 h.2;have m:b.filter p=b.take i:=by{(conv=>lhs;rw[←Zw i b]);rw[Q.filter_append,List.filter_eq_self.2,List.filter_eq_nil_iff.2,ZG];{intro a f;obtain⟨j,g,rfl⟩:=ZY f;rw[ZD]at g;rw[Q.getElem_drop];by_cases e:j=0;{subst e;simp only[p,Zr,XA];omega};{have:=c i (i+j) d Za Za;simp only[p,XA];omega}};{intro a f;obtain⟨j,g,rfl⟩:=ZY f;rw[Zz]at g;rw[YU];have:=c j i Za d Za;simp only[p,XA];omega}};have n:((b.take i).map (sh l)).sum=(((used l).filter p).map (sh l)).sum:=by{rw[←m];exact((h.1.filter p).map (sh l)).sum_nat};unfold start;rw[n];have o:(used l).filter p=(Zt l.length).filter (Mz l (l.getD b[i] 0) b[i]):=by{unfold used;rw[Q.filter_filter];congr 1;funext t;rw[Xg.and_comm];rfl};rw[o];have:=BF l (l.getD b[i] 0) b[i] k.2 l.length (Zy _);rw[ZQ]at this;exact this
def J1{l a:Q I}(d:bD l≤32768)(h:da l a){i:I}(b:i<a.length):jo l a i=code l a[i]:=by have c:=uq h b;rw[QA h b,←vn d]at c;exact I.eq_of_mul_eq_mul_right (Iz l a[i]) c
def Ou{l a:Q I}(j:l.length=258)(e:bD l≤32768)(h:da l a){s:I}(d:s<258)(f:0<l.getD s 0):(fD l a a.length).getD s 0=code l s:=by have b:∀s∈a,s<258:=λs d=>by{have:=(gh.1 (h.1.mem_iff.1 d)).1;omega};have g:s∈a:=h.1.mem_iff.2 (gh.2 ⟨Za,f⟩);obtain⟨i,c,rfl⟩:=ZY g;rw[AQ h b _ (Zy _) i c c,J1 e h c]
def C7{l:Q I}(f:l.length=258)(a:bD l≤32768){s:I}(g:s<258)(b:0<l.getD s 0):code l s<2^l.getD s 0:=by have h:=vn a s;have i:=HN Za b;have c:=Jw l (show l.getD s 0+1≤16 by have:=jm a s;omega);rw[UB a]at c;have d:=Qp a s;unfold sh at d;have e:(code l s+1)*2^(15-l.getD s 0)≤2^l.getD s 0*2^(15-l.getD s 0):=by{rw[Yb];omega};exact I.le_of_mul_le_mul_right e (Ym _)
end
end Go.Srt
namespace Go.Bits
section
def cf(b:Q I)(i:I):I:=(b.getD (i/8) 0/2^(7-i%8))%2
def val(b:Q I)(a:I):I→I|0=>0|n+1=>2*val b a n+cf b (a+n)
def qf(b:Q I)(i:I):cf b i<2:=I.mod_lt _ Zb
def jN(b:Q I)(a:I):∀n,val b a n<2^n|0=>by simp[val]|n+1=>by have:=jN b a n;have:=qf b (a+n);simp only[val,YC];omega
def val_add(b:Q I)(a n:I):∀m,val b a (n+m)=val b a n*2^m+val b (a+n) m|0=>by simp[val]|m+1=>by rw[←Yw];simp only[val,val_add b a n m,YC,Yw];rw[I.mul_add,Yk (2^m) 2,I.mul_left_comm];omega
def Wk(b:Q I)(a n k:I)(h:k<n):val b a n/2^(n-1-k)%2=cf b (a+k):=by have c:=val_add b a (k+1) (n-1-k);rw[show k+1+(n-1-k)=n by omega]at c;have d:=jN b (a+(k+1)) (n-1-k);rw[c,Yk,I.mul_add_div (Ym _),Y9 d,Zr];simp only[val];have:=qf b (a+k);omega
def Ot(b:Q I)(j i:I):cf (b.drop j) i=cf b (8*j+i):=by unfold cf;have a:(8*j+i)/8=j+i/8:=Za;have c:(8*j+i)%8=i%8:=Za;rw[a,c];simp only[Zo,Q.getElem?_drop]
def Iw(b:Q I)(j a:I):∀n,val (b.drop j) a n=val b (8*j+a) n|0=>rfl|n+1=>by simp only[val,Iw b j a n,Ot,Yw]
def HH(b c:Q I)(i:I)(h:i<8*b.length):cf (b++c) i=cf b i:=by unfold cf;congr 2;simp only[Zo];rw[ZR Za]
def oP(b c:Q I)(a:I):∀n,a+n≤8*b.length→val (b++c) a n=val b a n|0,_=>rfl|n+1,h=>by simp only[val];rw[oP b c a n Za,HH b c _ Za]
def Iv(b:Q I)(j:I)(h:b.getD j 0<256):val b (8*j) 8=b.getD j 0:=by have e:∀i,i<8→cf b (8*j+i)=b.getD j 0/2^(7-i)%2:=by{intro i a;unfold cf;rw[show(8*j+i)/8=j by omega,show(8*j+i)%8=i by omega]};simp only[val];rw[e 0 Zb,e 1 Zb,e 2 Zb,e 3 Zb,e 4 Zb,e 5 Zb,e 6 Zb,e 7 Zb];generalize b.getD j 0=x at h;simp only[I.reduceSub,I.reducePow];omega
def Re(b:Q I)(m:I)(h:b.getD m 0<256):val b 0 (8*(m+1))=val b 0 (8*m)*256+b.getD m 0:=by rw[show 8*(m+1)=8*m+8 by omega,val_add,Zl,Iv b m h]
def W9{b:Q I}(h:∀x∈b,x<256)(m:I):b.getD m 0<256:=by rw[Zo];cases hh:b[m]? with|none=>simp|some x=>simpa using h x (Y5 hh)
def Va(b:Q I)(a w k:I):val b 0 (a+w+k)/2^k%2^w=val b a w:=by rw[val_add b 0 (a+w) k,val_add b 0 a w,Zl,Yk _ (2^k),I.mul_add_div (Ym _),Zl,Y9 (jN b _ k),Zr,Yk,I.mul_add_mod,YR (jN b a w)]
def Vq(a c:I)(h:c<256):a*256|||c=a*256+c:=by have:=YX (i:=8) (b:=c) h a;rw[Yk]at this;rw[←this]
def Hq(a w:I):a&&&(2^w-1)=a%2^w:=I.and_two_pow_sub_one_eq_mod a w
end
end Go.Bits
namespace Go.Srt
section
open Go.Bits
def nZ(b:Q I)(j:I):I:=b.getD (8*j) 0*128+b.getD (8*j+1) 0*64+b.getD (8*j+2) 0*32+b.getD (8*j+3) 0*16+b.getD (8*j+4) 0*8+b.getD (8*j+5) 0*4+b.getD (8*j+6) 0*2+b.getD (8*j+7) 0
def kY(b:Q I)(m:I):Q I:=(Zt m).map (nZ b)
def pack(b:Q I):Q I:=kY b ((b.length+7)/8)
def Bits(b:Q I):Prop:=∀x∈b,x≤1
def Bits.getD{b:Q I}(h:Bits b)(i:I):b.getD i 0≤1:=by rw[Zo];cases hx:b[i]? with|none=>simp|some x=>exact h x (Y5 hx)
def Bits.app{a b:Q I}(c:Bits a)(d:Bits b):Bits (a++b):=λx e=>by(rcases List.mem_append.1 e with h|h);{exact c x h};{exact d x h}
def tE(b:Q I)(m:I):(kY b m).length=m:=by simp[kY]
def Bq{b:Q I}{m j:I}(h:j<m):(kY b m).getD j 0=nZ b j:=by unfold kY;rw[Zo,Z0,Yz h];rfl
def PX{b:Q I}(h:Bits b)(j:I):nZ b j<256:=by unfold nZ;have a:=h.getD (8*j);have c:=h.getD (8*j+1);have d:=h.getD (8*j+2);have e:=h.getD (8*j+3);have f:=h.getD (8*j+4);have g:=h.getD (8*j+5);have i:=h.getD (8*j+6);have k:=h.getD (8*j+7);omega
def Q8{b:Q I}(h:Bits b)(m:I):∀y∈kY b m,y<256:=λy a=>by obtain⟨j,_,rfl⟩:=List.mem_map.1 a;exact PX h j
def jy{b:Q I}{i:I}(h:b.length≤i):b.getD i 0=0:=by rw[Zo,Ye h];rfl
def ED(b:Q I)(x i:I):(b++[x]).getD i 0=b.getD i 0+if i=b.length then x else 0:=Ze
def Io(b:Q I)(x j:I):nZ (b++[x]) j=nZ b j+if j=b.length/8 then x*2^(7-b.length%8)else 0:=by unfold nZ;simp only[ED];by_cases hj:j=b.length/8;{rw[Xh hj];have a:b.length=8*j+b.length%8:=by{omega};have c:b.length%8<8:=I.mod_lt _ Zb;generalize b.length%8=r at a c;rw[a];have:r=0∨r=1∨r=2∨r=3∨r=4∨r=5∨r=6∨r=7:=by{omega};rcases this with rfl|rfl|rfl|rfl|rfl|rfl|rfl|rfl<;>simp<;>omega};{rw[Xf hj,Xf Za,Xf Za,Xf Za,Xf Za,Xf Za,Xf Za,Xf Za,Xf Za];omega}
def WL{b:Q I}{j:I}(h:b.length≤8*j):nZ b j=0:=by unfold nZ;rw[jy h,jy Za,jy Za,jy Za,jy Za,jy Za,jy Za,jy Za]
def Ve(b:Q I):2^(8-b.length%8)∣nZ b (b.length/8):=by have a:b.length=8*(b.length/8)+b.length%8:=Za;have c:b.length%8<8:=I.mod_lt _ Zb;generalize e:b.length/8=j at a;generalize b.length%8=r at a c;unfold nZ;have g:∀i,r≤i→b.getD (8*j+i) 0=0:=λi f=>jy Za;have:r=0∨r=1∨r=2∨r=3∨r=4∨r=5∨r=6∨r=7:=Za;have d:=g 0;have h:=g 1;have k:=g 2;have l:=g 3;have m:=g 4;have n:=g 5;have o:=g 6;have p:=g 7;simp only[Zr]at d;rcases this with rfl|rfl|rfl|rfl|rfl|rfl|rfl|rfl<;>simp only[I.reduceSub,I.reducePow]<;>omega
def WC{a r x:I}(d:r<8)(c:2^(8-r)∣a)(e:x≤1):a|||x*2^(7-r)=a+x*2^(7-r):=by obtain⟨q,rfl⟩:=c;have f:2^(8-r)=2*2^(7-r):=by{rw[show 8-r=(7-r)+1 by omega,YC,Yk]};have b:=Ym (7-r);refine(YX ?_ q).symm;have:x=0∨x=1:=Za;rcases this with rfl|rfl<;>omega
def room(b:Q I):Q I:=kY b (b.length/8+1)
def L9(b:Q I):room b=if b.length%8=0 then pack b++[0]else pack b:=by unfold room pack;split;{rename_i h;rw[show(b.length+7)/8=b.length/8 by omega];unfold kY;rw[YP,ZF];simp;rw[WL Za]};{grind}
def Pc(b:Q I)(x:I):pack (b++[x])=(room b).set (b.length/8) (nZ b (b.length/8)+x*2^(7-b.length%8)):=by unfold pack room;rw[Zg,ZL,show(b.length+1+7)/8=b.length/8+1 by omega];refine YV λi=>?_;unfold kY;simp only[Z0,Zq,YM];by_cases hi:i<b.length/8+1;{rw[Yz hi];simp only[YA];rw[Io];by_cases e:b.length/8=i;{grind};{grind}};{grind}
def Ha{b:Q I}(h:Bits b){m i:I}(d:i<8*m):cf (kY b m) i=b.getD i 0:=by unfold cf;rw[Bq Za];have a:i=8*(i/8)+i%8:=Za;have c:i%8<8:=I.mod_lt _ Zb;generalize i/8=j at a;generalize i%8=r at a c;subst a;unfold nZ;have e:=h.getD (8*j);have f:=h.getD (8*j+1);have g:=h.getD (8*j+2);have k:=h.getD (8*j+3);have l:=h.getD (8*j+4);have n:=h.getD (8*j+5);have o:=h.getD (8*j+6);have p:=h.getD (8*j+7);have:r=0∨r=1∨r=2∨r=3∨r=4∨r=5∨r=6∨r=7:=Za;rcases this with rfl|rfl|rfl|rfl|rfl|rfl|rfl|rfl<;>simp only[I.reduceSub,I.reducePow,Zr]<;>omega
def nG(b:Q I):(pack b).length=(b.length+7)/8:=tE _ _
def bn:I→I→Q I|0,_=>[]|n+1,v=>bn n (v/2)++[v%2]
def pH:∀n v,(bn n v).length=n|0,_=>rfl|n+1,v=>by rw[bn,Zg,pH n];rfl
def Mp:∀n v,Bits (bn n v)|0,_=>(λx a=>by cases a)|n+1,v=>(Mp n _).app λx a=>by have:x=v%2:=by{simpa using a};omega
def Bp:∀n v i,i<n→(bn n v).getD i 0=v/2^(n-1-i)%2|0,_,_,h=>Za|n+1,v,i,h=>by rw[bn,ED,pH];by_cases e:i=n;{subst e;rw[Xh Z,jy (by rw[pH];exact Zy _),show i+1-1-i=0 by omega];simp};{rw[Xf e,Bp n _ i Za,Zr,I.div_div_eq_div_mul];congr 2;rw[show n+1-1-i=(n-1-i)+1 by omega,YC,Yk]}
def jK(l:Q I)(s:I):Prop:=s<258∧0<l.getD s 0
def Dw(l:Q I)(s:I):Q I:=bn (l.getD s 0) (code l s)
def enc(l:Q I)(a:Q I):Q I:=a.flatMap (Dw l)
def Ud(l:Q I)(a:Q I):Bits (enc l a):=λx b=>by obtain⟨s,_,h⟩:=List.mem_flatMap.1 b;exact Mp _ _ x h
def V1(l a b:Q I):enc l (a++b)=enc l a++enc l b:=Q.flatMap_append
def AM(l:Q I)(s:I)(b:Q I):enc l (s::b)=Dw l s++enc l b:=Z6
def dw(l:Q I)(c n:I):Xj I:=(Zt 258).find? λs=>decide (0<l.getD s 0)&&(l.getD s 0==n)&&(code l s==c)
def uD{l:Q I}{c n s:I}(h:dw l c n=V s):jK l s∧l.getD s 0=n∧code l s=c:=by unfold dw at h;have a:=Q.find?_some h;have b:=Q.mem_of_find?_eq_some h;simp only[ZK,XA,XB]at a;exact⟨⟨by simpa using b,a.1.1⟩,a.1.2,a.2⟩
def Nv{l:Q I}{c n:I}(h:dw l c n=U){s:I}(a:jK l s):¬(l.getD s 0=n∧code l s=c):=by unfold dw at h;have:=List.find?_eq_none.1 h s (by simpa using a.1);simp only[ZK,XA,XB]at this;exactλb=>this ⟨⟨a.2,b.1⟩,b.2⟩
def Uc{l:Q I}(e:l.length=258){s t:I}(c:jK l s)(d:jK l t)(a:l.getD s 0=l.getD t 0)(b:code l s=code l t):s=t:=by have f:=c.1;have g:=d.1;refine Ir Za Za a ?_;unfold code at b;rw[a]at b;omega
def uk{l:Q I}(b:l.length=258){s:I}(a:jK l s):dw l (code l s) (l.getD s 0)=V s:=by cases h:dw l (code l s) (l.getD s 0)with|none=>exact Xu ⟨Z,Z⟩ (Nv h a)|some t=>obtain⟨c,d,e⟩:=uD h;rw[Uc b c a d e]
def EY{l:Q I}(u:l.length=258)(c:bD l≤32768){s m:I}(f:jK l s)(v:m<l.getD s 0):dw l (code l s/2^(l.getD s 0-m)) m=U:=by cases h:dw l (code l s/2^(l.getD s 0-m)) m with|none=>rfl|some t=>exfalso;obtain⟨g,i,k⟩:=uD h;have n:=jm c s;have j:=vn c s;have d:=vn c t;rw[i,k]at d;have e:2^(15-m)=2^(l.getD s 0-m)*2^(15-l.getD s 0):=by{rw[←I.pow_add];congr 1;omega};have o:=I.div_mul_le_self (code l s) (2^(l.getD s 0-m));have p:=I.lt_div_mul_add (a:=code l s) (b:=2^(l.getD s 0-m)) (Ym _);have q:pos l t≤pos l s:=by{rw[←j,←d,e,←I.mul_assoc];exact ZS _ o};have r:pos l s<pos l t+2^(15-l.getD t 0):=by{rw[i,←j,←d,e,←I.mul_assoc,←YY];exact I.mul_lt_mul_of_pos_right p (Ym _)};have w:=f.1;have y:=g.1;have:s=t:=To (x:=pos l s) Za Za f.2 g.2 (Zy _) Ze q r;subst this;omega
def zn(l:Q I):Q I→I→I→Q I→Xj (Q I)|[],_,n,acc=>if n=0 then V acc else U|x::bs,c,n,acc=>match dw l (2*c+x) (n+1)with|some s=>zn l bs 0 0 (acc++[s])|none=>if 15<n+1 then U else zn l bs (2*c+x) (n+1) acc
def bitsOf(b:Q I)(n:I):Q I:=(Zt n).map (cf b)
def N9(b:Q I)(n:I):(bitsOf b n).length=n:=by simp[bitsOf]
end
end Go.Srt
namespace Go.Proofs.Q9
section
open Go Go.Vc Go.Srt Go.Bits
def Wr(b:I)(bits:Q I):HP:=λf=>∃s:Sl,(Srt.Bits bits∧bits.length≤cT)∧Sat [ag b (.cells ⟨[.slice s.base s.len s.cap,.int .i64 (bits.length:H)]⟩ 311 (0,0)),ao 1 s ((pack bits).map vB)] f
section
variable{E w:G}{F A:Q HP}{b:I}{bits:Q I}
theorem Wr.bS(h:Hp E w (Wr b bits::F)):∃s:Sl,Srt.Bits bits∧bits.length≤cT∧Hp E w (ag b (.cells ⟨[.slice s.base s.len s.cap,.int .i64 (bits.length:H)]⟩ 311 (0,0))::ao 1 s ((pack bits).map vB)::F):=by obtain⟨s,⟨a,c⟩,h⟩:=h.Gd (X:=λ_:Sl=>Srt.Bits bits∧bits.length≤cT) (L:=λs=>[ag b (.cells ⟨[.slice s.base s.len s.cap,.int .i64 (bits.length:H)]⟩ 311 (0,0)),ao 1 s ((pack bits).map vB)]) λf d=>d;exact⟨s,a,c,h⟩
theorem Wr.shut{s:Sl}(a:Srt.Bits bits)(c:bits.length≤cT)(h:Hp E w (ag b (.cells ⟨[.slice s.base s.len s.cap,.int .i64 (bits.length:H)]⟩ 311 (0,0))::ao 1 s ((pack bits).map vB)::F)):Hp E w (Wr b bits::F):=Hp.Gi (l:=[_,_]) (λf d=>⟨s,⟨a,c⟩,d⟩) h
theorem abr{K:Xj Xr→G→Prop}(h:Hp E w F)(a:∀b w',Hp E w' (Wr b []::F)→K (V ⟨b,0,U⟩) w'):Cl Zf [kP] 145 ⟨[]⟩ w K:=by refine F6.ok _ _ ?_;exact Nw.mk h λb c d=>a b c (Wr.shut (s:=⟨U,0,0⟩) (λx e=>by cases e) (Yd _) ((d.aU 1).p1))
theorem Sx{v a:I}{K:Xg→G→Prop}(f:a≤32)(c:v<2^a)(d:v≤4294967295)(e:K O w):Cl Zf [kB] 292 ⟨[.int .u32 (v:H),.int .i64 (a:H)]⟩ w K:=by refine DG.ok _ _ _ _ ?_;refine aa.t (Xt Za) (aa.t (Xt Za) ⟨Za,?_⟩);rw[jP Za,cC (by have:Xy.bits .u64=64:=Z;omega),Y9 c];exact e
theorem vv:cF Zf 24 5 1 1:=cF.of Zc Zc
theorem LQ{x:I}(c:x≤1):Srt.Bits [x]:=λy a=>by have:y=x:=by{simpa using a};omega
theorem IX{x:I}:∀y∈[vB x],aD y=O:=λy a=>by have:y=vB x:=by{simpa using a};subst this;rfl
theorem abQ(n:I)(h:n≤cT):cd .i64 (n:H) 7=((n%8:I):H):=by have a:YN .i64=9223372036854775807:=Z;rw[aL]at h;rw[show(7:H)=((7:I):H)from Z,fX Za Za,show(7:I)=2^3-1 from Z,I.and_two_pow_sub_one_eq_mod]
theorem adq{x:I}{K:G→Prop}(h:Hp E w (Wr b bits::F))(D:x≤1)(r:bits.length+1≤cT)(Y:∀w',Hp E w' (Wr b (bits++[x])::F)→K w'):Cl Zf [] 294 ⟨[.pointer (V ⟨b,0,U⟩),.int .u8 (x:H)]⟩ w K:=by refine uw.ok _ _ _ _ ?_;simp only[aq,aj,Zl];obtain⟨s,W,L,z⟩:=Wr.bS h;have M:=r;rw[aL]at M L;have N:bits.length%8<8:=I.mod_lt _ Zb;refine Ld.ax (s:=.int .i64) z (bits.length:H) Z ?_;rw[abQ _ (by rw[aL];omega)];have i:∀(f:Sl)(B:G),Hp E B (ag b (.cells ⟨[.slice f.base f.len f.cap,.int .i64 (bits.length:H)]⟩ 311 (0,0))::ao 1 f ((room bits).map vB)::F)→aC B λ(a:G)=>Ld kS (⟨b,0,U⟩:Xr) a λ(t:Sl)=>Ld kI (⟨b,1,U⟩:Xr) a λ(c:H)=>0≤(3:H)∧ay t (aJ .i64 c 3) 1 λ(P:Xr)=>Ld (av .u8) P a λ(R:H)=>Ld kI (⟨b,1,U⟩:Xr) a λ(d:H)=>0≤((i64 ((7:H)-(cd .i64 d 7))):H)∧ay t (aJ .i64 c 3) 1 λ(S:Xr)=>St S (.int .u8 (iw .u8 R (bx .u8 (x:H) (i64 ((7:H)-(cd .i64 d 7)))))) a λ(k:G)=>Ld kI (⟨b,1,U⟩:Xr) k λ(g:H)=>St (⟨b,1,U⟩:Xr) (.int .i64 (i64 (g+1))) k λ(u:G)=>K u:=by{intro f B v;refine aC.mk v λw3 l=>Ld.ax (s:=.sl) l f Z (Ld.ax (s:=.int .i64) l (bits.length:H) Z ⟨Zb,?_⟩);have o:=l.p1.aV;have T:(room bits).length=bits.length/8+1:=tE _ _;rw[Zq,T,ZE]at o;have e3:aJ .i64 (bits.length:H) 3=((bits.length/8:I):H):=by{rw[show(3:H)=((3:I):H)from Z,cC Zb]};rw[e3];refine ay.rd (l.an (ad.cons ad.own)) Za Za λq hq hc=>?_;have hby:((room bits).map vB)[((bits.length/8:I):H).toNat]' hq=.int .u8 (nZ bits (bits.length/8):H):=by{rw[Q.getElem_map];have:=Bq (b:=bits) (m:=bits.length/8+1) (j:=bits.length/8) Za;rw[fe (by rw[tE];omega)]at this;show vB _=_;unfold vB;rw[←this];rfl};refine Ld.sc (s:=.int .u8) (nZ bits (bits.length/8):H) Ze (Ld.ax (s:=.int .i64) l (bits.length:H) Z ?_);rw[abQ _ (by rw[aL];omega),ae (x:=(7:H)-((bits.length%8:I):H)) Za,show(7:H)-((bits.length%8:I):H)=((7-bits.length%8:I):H) by omega];have y:=PX (W.app (LQ D)) (bits.length/8);rw[Io,Xh Z]at y;have hm8:YN .u8=255:=Z;have e4:bx .u8 (x:H) ((7-bits.length%8:I):H)=((x*2^(7-bits.length%8):I):H):=dJ (by have:Xy.bits .u8=8:=Z;omega) Za;have e5:=WC N (Ve bits) D;rw[e4,mf Za Za Ze,e5];refine⟨Za,?_⟩;refine St.own l.p1 Za Za Z λX C=>?_;refine Ld.ax (s:=.int .i64) C.p1 (bits.length:H) Z ?_;rw[ae Za];refine St.ax C.p1 (show 1<2 by decide) Z λw5 h5=>Y w5 (Wr.shut (s:=f) (W.app (LQ D)) Ze ?_);rw[Pc];have:((room bits).set (bits.length/8) (nZ bits (bits.length/8)+x*2^(7-bits.length%8))).map vB=((room bits).map vB).set ((bits.length/8:I):H).toNat (.int .u8 ((nZ bits (bits.length/8)+x*2^(7-bits.length%8):I):H)):=by{rw[Zn,Q.map_set];rfl};rw[this,Zg,ZL];exact h5};refine aa.mk (λp=>?_) λp=>?_;{have p:bits.length%8=0:=by{rw[XB]at p;omega};refine Ld.ax (s:=.sl) z s Z (Nw.mk z λb8 B v=>?_);have o:=v.p2.aV;rw[Zq,nG,ZE]at o;refine bg (ys:=[vB 0]) (n:=1) vv Zb (.inl ⟨5,Zc⟩) v.p2 (.inl ⟨V ⟨b8,0,U⟩,1,1,Z,Z,v.an (ad.ax Z Z)⟩) Z IX Za Za λf w3 l hs'=>?_;refine St.ax l.p2 (show 0<2 by decide) Z λX C=>?_;refine i f X ?_;have e:(room bits).map vB=(pack bits).map vB++[vB 0]:=by{rw[L9,Xh p,ZF];rfl};rw[e];exact C.p2.drop};{have p:bits.length%8≠0:=by{have:=beq_eq_false_iff_ne.1 p;omega};refine i s w ?_;rw[L9,Xf p];exact z}
theorem Uj{K:Sl→G→Prop}(h:Hp E w (Wr b bits::F))(k:∀s w',Hp E w' (ao 1 s ((pack bits).map vB)::Wr b bits::F)→K s w'):Cl Zf [kS] 148 ⟨[.pointer (V ⟨b,0,U⟩)]⟩ w K:=by refine rz.ok _ _ _ ?_;simp only[aq,aj,Zl];obtain⟨s,l,a,d⟩:=Wr.bS h;refine aa.f rfl (Ld.ax (s:=.sl) d s rfl (yX.ok _ _ _ ?_));have g:=d.p1.aV;have o:=nG bits;rw[Zq,ZE]at g;rw[aL]at a;refine aa.mk (λi=>?_) λi=>?_;{have i:s.base=U:=by{simpa using i};(obtain⟨rfl,m,e⟩|⟨B,p,q,t,j,_⟩:=d.p1.yb);{refine k _ w ?_;rw[m];refine Hp.aU (Wr.shut (s:=⟨U,0,0⟩) l (by rw[aL];exact a) ?_) 1;rw[m];exact(e.aU 1).p1};{grind}};{refine Nw.mk d λr u e=>?_;have v:=e.sN (n:=0) (sz:=1) rfl;have c:aI 1 s ((pack bits).map vB) u:=e.an (ad.cons (ad.cons ad.own));refine bg (s:=⟨V ⟨r,0,U⟩,0,0⟩) (ys:=(pack bits).map vB) (n:=s.len) vv Zb (.inl ⟨5,Zc⟩) v (.inl ⟨s.base,s.len,s.cap,rfl,rfl,c⟩) Ze ep Ze Ze λx y z _=>?_;exact k x y (Wr.shut (s:=s) l (by rw[aL];exact a) z.q2).p1}
theorem QC{v a g j:I}(x:a≤32)(y:v≤4294967295):Iter Zf E (.func (.func 347) ⟨[]⟩ ⟨[.pointer (V ⟨j,0,U⟩),.pointer (V ⟨g,0,U⟩)]⟩) a (λi=>[Ki.enc (av .u8) ((v/2^(a-1-i)%2:I):H)]) (ag j (.cells ⟨[.int .i64 (a:H)]⟩ 3 (0,0))::ag g (.cells ⟨[.int .u32 (v:H)]⟩ 112 (0,0))::A):=by intro p C G w K q h r l;refine qW.mk Zc (zF.ok p ⟨j,0,U⟩ ⟨g,0,U⟩ K w ?_);have n:=h.perm (List.perm_middle.trans (Q.Perm.cons _ Y8));refine Ld.ax (s:=.int .i64) n (a:H) Z ?_;refine⟨λi w'=>∃k:I,i=(a:H)-1-(k:H)∧k≤a∧Hp E w' (ag j (.cells ⟨[.int .i64 (a:H)]⟩ 3 (0,0))::ag g (.cells ⟨[.int .u32 (v:H)]⟩ 112 (0,0))::(C k++A)),λi _=>(i+1).toNat,⟨0,by rw[ae Za];omega,Za,n⟩,?_⟩;rintro i u ⟨k,rfl,hk,h1⟩;refine aa.mk (λd=>?_) λc=>?_;{have c:k<a:=by{have:=Xo d;omega};refine Ld.ax (s:=.int .u32) h1.p1 (v:H) Z ⟨Za,?_⟩;have z:v/2^(a-1-k)≤v:=I.div_le_self _ _;have e:cd .u8 (u8 (aJ .u32 (v:H) ((a:H)-1-(k:H)))) 1=((v/2^(a-1-k)%2:I):H):=by{have B:YN .u8=255:=Z;rw[show(a:H)-1-(k:H)=((a-1-k:I):H) by omega,cC (by have:Xy.bits .u32=32:=Z;omega),xj,show(((v/2^(a-1-k):I):H)%256)=((v/2^(a-1-k)%256:I):H) by omega,show(1:H)=((1:I):H)from Z,fX Za Za,I.and_one_is_mod];omega};rw[e];refine q k c (ag j (.cells ⟨[.int .i64 (a:H)]⟩ 3 (0,0))::ag g (.cells ⟨[.int .u32 (v:H)]⟩ 112 (0,0))::A) u _ (h1.perm ((Q.Perm.cons _ List.perm_middle.symm).trans List.perm_middle.symm)) (λo m=>?_) λo m=>?_;{refine aa.f Z ⟨Z,⟨k+1,by rw[ae Za];omega,Za,m.perm (List.perm_middle.trans (Q.Perm.cons _ Y8))⟩,by dsimp only;rw[ae Za];omega⟩};{exact aa.t Z (l k o c m)}};{have d:k=a:=by{have:=Xm c;omega};subst d;exact r _ (h1.perm ((Q.Perm.cons _ List.perm_middle.symm).trans List.perm_middle.symm))}
theorem QR{v width:I}{K:Xg→G→Prop}(h:Hp E w (Wr b bits::F))(r:width≤32)(L:v<2^width)(c:v≤4294967295)(t:bits.length+width≤cT)(M:∀w',Hp E w' (Wr b (bits++bn width v)::F)→K O w'):Cl Zf [kB] 216 ⟨[.pointer (V ⟨b,0,U⟩),.int .u32 (v:H),.int .i64 (width:H)]⟩ w K:=by refine uY.ok _ _ _ _ _ ?_;refine Nw.mk h λg T u=>Ld.ax (s:=.ptr) u (V ⟨b,0,U⟩) Z (aa.f Z (Sx r L c (aa.f Z (Dp.ok _ _ _ _ ?_))));refine Nw.mk u λy W N=>Nw.mk N λz P o=>?_;have o:Hp E P ([ag g (.cells ⟨[.pointer (V ⟨b,0,U⟩)]⟩ 242 (0,0)),Wr b (bits++(bn width v).take 0)]++(ag z (.cells ⟨[.int .i64 (width:H)]⟩ 3 (0,0))::ag y (.cells ⟨[.int .u32 (v:H)]⟩ 112 (0,0))::F)):=by{rw[Y4,ZG];exact o.p3.p3};have d:=pH width v;refine ga.qu (k:=av .u8) (x:=λi=>((v/2^(width-1-i)%2:I):H)) (n:=width) (λi=>[ag g (.cells ⟨[.pointer (V ⟨b,0,U⟩)]⟩ 242 (0,0)),Wr b (bits++(bn width v).take i)]) (λ_=>[DD]) o (QC r c) ?_ ?_ ?_;{intro Q p i A j X Y l a q _;have a:Hp E j (ag Q (p 0)::ag g (.cells ⟨[.pointer (V ⟨b,0,U⟩)]⟩ 242 (0,0))::Wr b (bits++(bn width v).take i)::A):=a;refine qE.mk a λB m=>Ld.ax (s:=.ptr) m.p1 (V ⟨b,0,U⟩) Z ?_;refine adq m.p2 Za Ze λw7 R=>lG.mk R.p1 λS C=>q S ?_;have e:(bits++(bn width v).take i)++[v/2^(width-1-i)%2]=bits++(bn width v).take (i+1):=by{rw[Zm,ZB,Zh (by rw[d];exact l),←Bp width v i l,fe (by rw[d];exact l)];rfl};rw[e]at C;exact C.p2.p1};{intro D j a;have a:Hp E j (ag D (.deferred (V []))::ag g (.cells ⟨[.pointer (V ⟨b,0,U⟩)]⟩ 242 (0,0))::Wr b (bits++(bn width v).take width)::ag z (.cells ⟨[.int .i64 (width:H)]⟩ 3 (0,0))::ag y (.cells ⟨[.int .u32 (v:H)]⟩ 112 (0,0))::F):=a;rw[Zx Za]at a;exact iI.qu a λB m=>M B m.drop.p1.drop.p1.drop};{intro i D j l a;exact(Hp.GI a).elim}
end
end
section
open Go Go.Vc Go.Srt
section
variable{E w:G}{F:Q HP}
theorem Ww{l:Q I}{K:Xi Xe→H→G→Prop}(h:Hp E w F)(r:l.length=258)(C:¬bD l≤32768→∀w',Hp E w' F→K (ai .u32 (Zj 258 0)) 2 w')(D:bD l≤32768→∀c w',da l c→Hp E w' F→K (ai .u32 (fD l c c.length)) 0 w'):Cl Zf [.arr 258,kI] 218 ⟨[.agg (ai .u8 l)]⟩ w K:=by refine AP.ok _ _ _ ?_;rw[C1];refine Nw.mk h λX w1 L=>Nw.mk L λY w2 A=>Ld.arr A.p1 (by rw[bq,r]) (zM A r λw3 g=>?_);refine aa.mk (λf=>?_) λf=>?_;{have f:¬bD l≤32768:=by{simpa using f};refine Ld.arr g (by rw[bq];simp) (aB.ax g (by rw[bq];simp) (by rw[bq];simp) oo λw4 t=>Ld.arr t (by rw[bq];simp) (C f w4 t.drop.drop))};{have f:bD l≤32768:=by{simpa using f};refine Ld.arr g.p1 (by rw[bq,r]) (W0 g r (λM=>Xu f M) λ_ c s w4 e t=>?_);have N:=t.aV;simp only[ints,Zq,ZE]at N;have P:∀s∈c,s<258∧0<l.getD s 0:=λs hs=>by{have:=gh.1 (e.1.mem_iff.1 hs);rw[r]at this;exact this};have hlen:c.length≤258:=by{rw[e.1.length_eq,←r];have:=Q.length_filter_le (λs=>decide (0<l.getD s 0)) (Zt l.length);simpa[used]using this};refine⟨λnx la i w'=>∃k n a:I,i=(k:H)∧nx=(n:H)∧la=(a:H)∧k≤c.length∧n*2^(15-a)=Srt.start l c k∧a≤15∧(∀j(R:j<c.length),k≤j→a≤l.getD c[j] 0)∧Hp E w' (ao 1 s ((ints c).map vI)::ag Y (.cells (ai .u32 (fD l c k)) 262 (0,0))::ag X (.cells (ai .u8 l) 172 (0,0))::F),λ_ _ i _=>c.length-i.toNat,⟨0,0,0,Z,Z,Z,Za,by simp[Srt.start],Za,λj R _=>Yd _,t⟩,?_⟩;intro nx la i w' hI;obtain⟨k,n,a,hi,M,S,hk,T,ha15,m,u⟩:=hI;subst hi;subst M;subst S;refine aa.mk (λd=>?_) λo=>?_;{have d:k<c.length:=by{have:=Xo d;omega};have v:=P _ (Zu d);have p:c[k]<l.length:=by{omega};have B:l.getD c[k] 0=l[c[k]]:=by{rw[Zo,Zh p];rfl};refine I5 u Za (x:=(c[k]:H)) (by simp[ints,d]) ?_;refine aK.rd (s:=.int .u8) u.p2 Za Za (l[c[k]]:H) (by rw[Zn];exact jr p) ?_;have S:=m k d (Zy _);have y:=jm f c[k];rw[B]at S y v;rw[im Za];refine⟨Za,?_⟩;have hd:Hp E {w' with drawn:=w'.drawn+1} _:=u.drew;refine⟨λw'=>∃cs,Hp E w' (ao 1 s ((ints c).map vI)::ag Y (.cells cs 262 (0,0))::ag X (.cells (ai .u8 l) 172 (0,0))::F),⟨_,hd⟩,Za,Za,(l[c[k]]:H),?_,?_⟩;{rintro w2 ⟨cs,A⟩;rw[aj,A.p2.cell,Zn,Zl,ZE];exact jr p};{have W:=uS (l:=l) d;have z:=uq e d;have hcl:=Py f e d;have hp15:2^l.getD c[k] 0≤2^15:=ZV Zb (jm f _);have q:n*2^(l[c[k]]-a)=jo l c k:=by{have L:n*2^(l[c[k]]-a)*sh l c[k]=jo l c k*sh l c[k]:=by{rw[z,←T];unfold sh;rw[B,I.mul_assoc,←I.pow_add];congr 2;omega};exact I.eq_of_mul_eq_mul_right (Iz l c[k]) L};have e1:bx .u32 (n:H) ((l[c[k]]:H)-(a:H))=(jo l c k:H):=by{have hmx:YN .u32=4294967295:=Z;have:=dJ (k:=.u32) (a:=n) (b:=l[c[k]]-a) (by have:Xy.bits .u32=32:=Z;omega) Ze;rw[q]at this;rw[←this];congr 1;omega};rw[e1];refine aK.wr hd.p1 Za Za (by rw[bq,fm]) Z λw3 g=>?_;rw[Zn,IT]at g;refine⟨⟨_,g.p1⟩,?_⟩;rw[kf Za,ae Za];refine⟨⟨k+1,jo l c k+1,l[c[k]],Z,Z,Z,Za,?_,y,λj R hkj=>?_,?_⟩,by dsimp only;omega⟩;{rw[W,←z];unfold sh;rw[B,Yb]};{rw[←B];exact LR e R Za};{have:fD l c (k+1)=(fD l c k).set c[k] (jo l c k):=by{rw[fD,getD_at d]};rw[this];exact g.p1}}};{have o:k=c.length:=by{have:=Xm o;omega};subst o;refine Ld.arr u.p1 (by rw[bq,fm]) (aB.ax u.p1 (by rw[bq,fm]) (by rw[bq,fm]) oo λw5 h5=>Ld.arr h5 (by rw[bq,fm]) (D f c w5 e h5.drop.drop.drop))}}
end
def abt{l a:Q I}(b:l.length=258)(h:da l a):∀s∈a,s<258∧0<l.getD s 0:=λs c=>by have:=gh.1 (h.1.mem_iff.1 c);rw[b]at this;exact this
def aa3{l a:Q I}(b:l.length=258)(h:da l a):a.length≤258:=by rw[h.1.length_eq,←b];have:=Q.length_filter_le (λs=>decide (0<l.getD s 0)) (Zt l.length);simpa[used]using this
def RR{l c zs:Q I}(h:da l c)(d:da l zs):c=zs:=by refine Q.Perm.eq_of_pairwise (le:=λa b=>l.getD a 0<l.getD b 0∨(l.getD a 0=l.getD b 0∧a<b)) ?_ h.2 d.2 (h.1.trans d.1.symm);intro a b _ _ e f;omega
def Tq{l:Q I}{i:I}{k:Xy}(h:i<l.length):(ai k l)[((i:I):H).toNat]?=V (Sc.enc (.int k) (l.getD i 0:H)):=by rw[Zn,jr h,Zo,Zh h];rfl
end
section
open Go Go.Vc
set_option maxRecDepth 100000
def FM.ok(a:(Xi Xe))(R:(Xi Xe)→H→G→Prop) w(h:Nw 172 a w λc b=>Nw 176 ⟨Zj 258 (.int .u8 0)++[(ni 0),(ni 0)]⟩ b λe d=>Ld (.arr 258) ⟨c,0,U⟩ d λf=>Cl Pg [kB] 290 ⟨[(.agg f)]⟩ d λ(h:Xg) g=>aa (! h) (dr Pg 176 [] λi=>aB 260 ⟨e,0,U⟩ i g λj=>Ld (.arr 260) ⟨e,0,U⟩ j λk=>R k 2 j) (Ld (.arr 258) ⟨c,0,U⟩ g λl=>dr Pg 176 [(0,(.agg l))] λm=>aB 260 ⟨e,0,U⟩ m g λn=>Ld (.arr 260) ⟨e,0,U⟩ n λo=>R o 0 n)):Cl Pg [(.arr 260),kI] 225 ⟨[(.agg a)]⟩ w R:=co Tryz.f225 [] h
def Ea.ok(a:(Xi Xe))(b:H)(R:(Xi Xe)→H→Xg→G→Prop) w(h:Nw 176 a w λd c=>Nw 176 ⟨Zj 258 (.int .u8 0)++[(ni 0),(ni 0)]⟩ c λf e=>aO (λ(q:G)=>Ld (.arr 258) (Zp ⟨d,0,U⟩ 0) q λr=>Ld kI (Zp ⟨d,0,U⟩ 258) q λ(s:H)=>0≤(1:H)∧Ld kI (Zp ⟨d,0,U⟩ 259) q λ(t:H)=>dr Pg 176 [(0,(.agg r)),(1,(ni (iw .i64 (bx .i64 s (1:H)) b))),(2,(ni (i64 (t+1))))] λu=>aB 260 ⟨f,0,U⟩ u q λv=>Ld (.arr 258) (Zp ⟨f,0,U⟩ 0) v λx=>Ld kI (Zp ⟨f,0,U⟩ 259) v λ(y:H)=>Cl Pg [kI,kI] 306 ⟨[(.agg x),(ni y)]⟩ v λ(B:H)(N:H) z=>Ld kI (Zp ⟨f,0,U⟩ 258) z λ(P:H)=>aa (K (P≥(i64 (B+N)))) (Ld (.arr 260) ⟨f,0,U⟩ z λQ=>aB 260 ⟨f,0,U⟩ Q z λC=>Ld (.arr 260) ⟨f,0,U⟩ C λS=>R S 0 J C) (aC z λA=>Ld (.arr 258) (Zp ⟨f,0,U⟩ 0) A λD=>Ld kI (Zp ⟨f,0,U⟩ 259) A λ(E:H)=>Ld kI (Zp ⟨f,0,U⟩ 258) A λ(F:H)=>(Ld (.arr 258) (Zp ⟨d,0,U⟩ 0) A λT=>dr Pg 176 [(0,(.agg T))] λW=>Cl Pg [kI] 307 ⟨[(.agg D),(ni E),(ni (i64 (F-B)))]⟩ A λ(X:H) Y=>aB 260 ⟨f,0,U⟩ W Y λI=>Ld (.arr 260) ⟨f,0,U⟩ I λp1=>R p1 X O I)∧(Cl Pg [kI] 307 ⟨[(.agg D),(ni E),(ni (i64 (F-B)))]⟩ A λ(r1:H) L=>Ld (.arr 258) (Zp ⟨d,0,U⟩ 0) L λs1=>dr Pg 176 [(0,(.agg s1))] λt1=>aB 260 ⟨f,0,U⟩ t1 L λM=>Ld (.arr 260) ⟨f,0,U⟩ M λv1=>R v1 r1 O M))) λg=>0≤(1:H)∧aa ((aJ .i64 b (1:H)) !=0) (Ld (.arr 260) ⟨d,0,U⟩ e λh=>aB 260 ⟨f,0,U⟩ h e λi=>Ld (.arr 260) ⟨f,0,U⟩ i λj=>R j 0 J i) (Ld (.arr 260) ⟨d,0,U⟩ e λk=>Cl Pg [kB] 305 ⟨[(.agg k)]⟩ e λ(m:Xg) l=>aa (! m) (Ld (.arr 260) ⟨d,0,U⟩ l λn=>aB 260 ⟨f,0,U⟩ n l λo=>Ld (.arr 260) ⟨f,0,U⟩ o λp=>R p 0 J o) (g l))):Cl Pg [(.arr 260),kI,kB] 227 ⟨[(.agg a),(ni b)]⟩ w R:=co Tryz.f227 [(2,[]),(17,[])] h
def Cd.ok(a:(Xi Xe))(R:Xg→G→Prop) w(h:Nw 176 a w λc b=>aO (λ(m:G)=>Ld (.arr 258) (Zp ⟨c,0,U⟩ 0) m λn=>Ld kI (Zp ⟨c,0,U⟩ 259) m λ(o:H)=>Cl Pg [kI,kI] 306 ⟨[(.agg n),(ni o)]⟩ m λ(q:H)(r:H) p=>Ld kI (Zp ⟨c,0,U⟩ 258) p λ(s:H)=>R (K (s≥(i64 (q+r)))) p) λd=>Ld (.arr 258) (Zp ⟨c,0,U⟩ 0) b λe=>Cl Pg [kB] 290 ⟨[(.agg e)]⟩ b λ(g:Xg) f=>aa (! g) (R J f) (Ld kI (Zp ⟨c,0,U⟩ 259) f λ(h:H)=>aa (K (h<0)) (R J f) (Ld kI (Zp ⟨c,0,U⟩ 259) f λ(i:H)=>aa (K (i≥15)) (R J f) (Ld kI (Zp ⟨c,0,U⟩ 258) f λ(j:H)=>aa (K (j<0)) (R J f) (Ld kI (Zp ⟨c,0,U⟩ 258) f λ(k:H)=>Ld kI (Zp ⟨c,0,U⟩ 259) f λ(l:H)=>0≤l∧aa ((aJ .i64 k l) !=0) (R J f) (d f)))))):Cl Pg [kB] 305 ⟨[(.agg a)]⟩ w R:=co Tryz.f305 [(2,[])] h
def BR.ok(a:(Xi Xe))(b:H)(R:H→H→G→Prop) w(h:Nw 172 a w λd c=>Ld (.arr 258) ⟨d,0,U⟩ c λe=>Cl Pg [(.st QH)] 359 ⟨[(.agg e)]⟩ c λg f=>Nw 442 ⟨Zj 16 (ni 0)⟩ f λi h=>ak ⟨i,0,U⟩ [(ni g.1),(ni g.2.1),(ni g.2.2.1),(ni g.2.2.2.1),(ni g.2.2.2.2.1),(ni g.2.2.2.2.2.1),(ni g.2.2.2.2.2.2.1),(ni g.2.2.2.2.2.2.2.1),(ni g.2.2.2.2.2.2.2.2.1),(ni g.2.2.2.2.2.2.2.2.2.1),(ni g.2.2.2.2.2.2.2.2.2.2.1),(ni g.2.2.2.2.2.2.2.2.2.2.2.1),(ni g.2.2.2.2.2.2.2.2.2.2.2.2.1),(ni g.2.2.2.2.2.2.2.2.2.2.2.2.2.1),(ni g.2.2.2.2.2.2.2.2.2.2.2.2.2.2.1),(ni g.2.2.2.2.2.2.2.2.2.2.2.2.2.2.2.1)] 0 h λj=>aK ⟨i,0,U⟩ 16 0 1 λk=>St k (ni 0) j λl=>dE 0 1 l λm n(o:H)(p:H) q=>aa (K (p≤b)) (aK ⟨i,0,U⟩ 16 (i64 (p-1)) 1 λr=>Ld kI r q λ(s:H)=>0≤(1:H)∧m (bx .i64 (i64 (o+s)) (1:H)) (i64 (p+1)) q∧n (bx .i64 (i64 (o+s)) (1:H)) (i64 (p+1)) q<n o p q) (aC q λt=>aK ⟨i,0,U⟩ 16 b 1 λu=>Ld kI u t λ(v:H)=>R o v t)):Cl Pg [kI,kI] 306 ⟨[(.agg a),(ni b)]⟩ w R:=co Tryz.f306 [(9,[(4,kI),(7,kI)])] h
def GC.ok(a:(Xi Xe))(b:H)(c:H)(R:H→G→Prop) w(h:Nw 172 a w λe d=>Ld (.arr 258) ⟨e,0,U⟩ d λf=>dE c 0 d λg h(i:H)(j:H) k=>aa (K (j<258)) (fL (.int .u8) f 258 j λ(l:H)=>aa ((i64 l) !=b) (g i (i64 (j+1)) k∧h i (i64 (j+1)) k<h i j k) (aa (i==0) (R j k) (g (i64 (i-1)) (i64 (j+1)) k∧h (i64 (i-1)) (i64 (j+1)) k<h i j k))) (R 0 k)):Cl Pg [kI] 307 ⟨[(.agg a),(ni b),(ni c)]⟩ w R:=co Tryz.f307 [(5,[(2,kI),(10,kI)])] h
end
end Go.Proofs.Q9
namespace Go.Srt
section
def dW(l:Q I):Xg:=K (bD l=32768)&&K (0<l.getD 257 0)
def pn{l:Q I}:dW l=O↔bD l=32768∧0<l.getD 257 0:=by simp[dW]
def Bu(l:Q I)(n p:I):I:=((Zt l.length).find? λs=>(l.getD s 0==n)&&(kr l s==p)).getD 0
def HK{l:Q I}{n p:I}(h:p<l.count n):Bu l n p<l.length∧l.getD (Bu l n p) 0=n∧kr l (Bu l n p)=p:=by obtain⟨s,e,b,c⟩:=WW l n p h;unfold Bu;cases hf:(Zt l.length).find? λs=>(l.getD s 0==n)&&(kr l s==p)with|none=>have:=List.find?_eq_none.1 hf s Ze;simp only[ZK,XB]at this;exact Xu ⟨b,c⟩ this|some t=>have a:=Q.find?_some hf;have d:=Q.mem_of_find?_eq_some hf;simp only[ZK,XB]at a;exact⟨by simpa using d,a⟩
def ot(l:Q I)(c b:I):Prop:=dW l=O∧b<15∧c<2^b∧fst l b+many l b≤c
def iQ(l:Q I)(c b x:I):(I×I)×Xj I:=if fst l (b+1)+many l (b+1)≤2*c+x then((2*c+x,b+1),U)else((0,0),V (Bu l (b+1) (2*c+x-fst l (b+1))))
def ot.zero{l:Q I}(h:dW l=O):ot l 0 0:=⟨h,Zb,Zb,by simp[fst,many]⟩
def ot.ge{l:Q I}{c b:I}(h:ot l c b):fst l (b+1)≤2*c:=by rw[fst];have:=h.2.2.2;omega
def adE{l:Q I}(h:dW l=O):fst l 15+many l 15=32768:=by have b:=C3 l 15 Zb;have a:=UB (l:=l) (by rw[(pn.1 h).1];decide);rw[(pn.1 h).1]at a;rw[low]at a;omega
def ot.next{l:Q I}{c b x:I}(h:ot l c b)(e:x≤1):ot l (iQ l c b x).1.1 (iQ l c b x).1.2:=by unfold iQ;split;{rename_i a;have f:(2:I)^(b+1)=2*2^b:=by{rw[YC,Yk]};have g:=h.2.2.1;refine⟨h.1,?_,by show 2*c+x<2^(b+1);omega,a⟩;(rcases Yg (b+1) 15 with d|d);{exact d};{have:b=14:=by{have:=h.2.1;omega};subst this;have:=adE h.1;have:(2:I)^14=16384:=by{decide};simp only[Z4]at a;omega}};{exact ot.zero h.1}
def um{l:Q I}{c b x s:I}(j:l.length=258)(h:ot l c b)(k:x≤1)(a:(iQ l c b x).2=V s):s<258∧l.getD s 0=b+1∧code l s=2*c+x∧b<15:=by unfold iQ at a;split at a;{cases a};{rename_i m;have f:s=Bu l (b+1) (2*c+x-fst l (b+1)):=by{injection a with a;exact a.symm};have g:=h.ge;have o:many l (b+1)=l.count (b+1):=by{unfold many;rw[Xf Za]};obtain⟨i,d,e⟩:=HK (l:=l) (n:=b+1) (p:=2*c+x-fst l (b+1)) Za;rw[←f]at i d e;refine⟨Za,d,?_,h.2.1⟩;unfold code;rw[d,e];omega}
def Sy{l:Q I}{c b x:I}(a:(iQ l c b x).2=U):(iQ l c b x).1=(2*c+x,b+1):=by unfold iQ at a⊢;split;{rfl};{grind}
def RZ{l:Q I}{c b x s:I}(a:(iQ l c b x).2=V s):(iQ l c b x).1=(0,0):=by unfold iQ at a⊢;split;{grind};{rfl}
def AX{l:Q I}(a:l.length≤258):∀n,fst l n+516≤516*2^n|0=>by simp[fst]|n+1=>by have:=AX a n;have b:many l n≤258:=by{unfold many;split;{omega};{grind}};rw[fst,YC];omega
def DI{l:Q I}(a:l.length≤258)(n:I):many l n≤258:=by unfold many;split;{omega};{grind}
end
end Go.Srt
namespace Go.Proofs.Q9
section
open Go Go.Vc Go.Srt
section
variable{E w:G}{F:Q HP}
theorem JQ{l:Q I}{i:I}{k:Xy}(h:i<l.length):(ai k l)[((i:I):H).toNat]?=V (Sc.enc (.int k) (l.getD i 0:H)):=by rw[Zn,jr h,fe h]
theorem OH{l:Q I}{K:Xg→G→Prop}(h:Hp E w F)(a:l.length=258)(d:∀w',Hp E w' F→K (XE (bD l=32768)) w'):Cl Zf [kB] 345 ⟨[.agg (ai .u8 l)]⟩ w K:=by refine CJ.ok _ _ _ ?_;refine Nw.mk h λb f c=>Ld.arr c (by rw[bq,a]) (Bz c a λg e=>?_);have:((bD l:H)==32768)=XE (bD l=32768):=by{rw[Yu];simp;omega};rw[this];exact d _ e.drop
theorem yF{l:Q I}{K:Xg→G→Prop}(h:Hp E w F)(d:l.length=258)(e:∀w',Hp E w' F→K (dW l) w'):Cl Zf [kB] 290 ⟨[.agg (ai .u8 l)]⟩ w K:=by refine JZ.ok _ _ _ ?_;refine Nw.mk h λb g f=>Ld.arr f (by rw[bq,d]) (OH f d λj a=>aa.mk (λc=>?_) λc=>?_);{refine aK.rd (s:=.int .u8) a Zb Zb (l.getD 257 0:H) (JQ (i:=257) Za) ?_;have:XE ((l.getD 257 0:H)>0)=dW l:=by{unfold dW;rw[c,Xg.true_and,Yu,XA,XA];omega};rw[this];exact e _ a.drop};{have:J=dW l:=by{unfold dW;rw[c,Xg.false_and]};rw[this];exact e _ a.drop}
abbrev UL:Q Sc:=[.int .i64,.int .i64,.int .i64,.int .i64,.int .i64,.int .i64,.int .i64,.int .i64,.int .i64,.int .i64,.int .i64,.int .i64,.int .i64,.int .i64,.int .i64,.int .i64]
def t16(f:I→H):TT UL:=(f 0,f 1,f 2,f 3,f 4,f 5,f 6,f 7,f 8,f 9,f 10,f 11,f 12,f 13,f 14,f 15,())
theorem adB(f:I→H):fw 16 f=⟨aZ UL (t16 f)⟩:=Z
theorem aag(f:I→H):∀v∈[(.int .i64 (f 0):Xe),.int .i64 (f 1),.int .i64 (f 2),.int .i64 (f 3),.int .i64 (f 4),.int .i64 (f 5),.int .i64 (f 6),.int .i64 (f 7),.int .i64 (f 8),.int .i64 (f 9),.int .i64 (f 10),.int .i64 (f 11),.int .i64 (f 12),.int .i64 (f 13),.int .i64 (f 14),.int .i64 (f 15)],aD v=O:=by intro v a;simp only[YT,Q.not_mem_nil,or_false]at a;rcases a with rfl|rfl|rfl|rfl|rfl|rfl|rfl|rfl|rfl|rfl|rfl|rfl|rfl|rfl|rfl|rfl<;>rfl
theorem Bg:(⟨Zj 16 (.int .i64 0)⟩:Xi Xe)=fw 16 λ_=>0:=Z
theorem TQ{l:Q I}{K:TT UL→G→Prop}(h:Hp E w F)(o:l.length=258)(m:∀x∈l,x≤15)(q:∀w',Hp E w' F→K (t16 λj=>(l.count j:H)) w'):Cl Zf [.st UL] 359 ⟨[.agg (ai .u8 l)]⟩ w K:=by refine IA.ok _ _ _ ?_;rw[Bg];refine Nw.mk h λb z r=>Nw.mk r λu A p=>Ld.arr p.p1 (by rw[bq,o]) ?_;refine⟨λi w'=>∃k:I,i=(k:H)∧k≤258∧Hp E w' (ag u (.cells (fw 16 λj=>((l.take k).count j:H)) 442 (0,0))::F),λi _=>258-i.toNat,⟨0,Z,Za,?_⟩,?_⟩;{have:=p.p1.drop;rwa [je (g:=λj=>((l.take 0).count j:H)) λi _=>Zd]at this};rintro i w' ⟨k,rfl,hk,hh⟩;refine aa.mk (λf=>?_) λa=>?_;{have f:k<258:=by{have:=Xo f;omega};have c:k<l.length:=by{omega};have n:∀x,(l.take k).count x≤258:=λx=>Yl Q.count_le_length Ze;refine fL.rd (s:=.int .u8) Za Za (l[k]:H) (by rw[Zn];exact jr c) ?_;have v:=m _ (Zu c);rw[ae (x:=(l[k]:H)) Za];refine aa.t (Xt Za) ?_;refine aK.rd (s:=.int .i64) hh Za Za ((l.take k).count l[k]:H) (by rw[Zn];exact Ab Za) ?_;have:=n l[k];refine aK.wr hh Za Za fp Z λy d=>?_;rw[ae Za,Zn,vl]at d;rw[ae Za];refine⟨⟨k+1,Z,Za,?_⟩,by dsimp only;omega⟩;rw[je (g:=λj=>((l.take (k+1)).count j:H))]at d;{exact d};{intro j B;rw[fA c];by_cases e:j=l[k];{grind};{grind}}};{have a:k=258:=by{have:=Xm a;omega};subst a;rw[←o,ZQ]at hh;refine Ld.Gy hh (t16 λj=>(l.count j:H)) (adB _) (ak.ax hh (by rw[fp];rfl) (aag λj=>(l.count j:H)) λy d=>?_);exact Ld.Gy d (t16 λj=>(l.count j:H)) Z (q _ d.drop)}
theorem Fy{l:Q I}{n:I}{K:H→H→G→Prop}(h:Hp E w F)(r:l.length=258)(p:∀x∈l,x≤15)(D:n≤15)(A:∀w',Hp E w' F→K (Srt.fst l n:H) (many l n:H) w'):Cl Zf [kI,kI] 306 ⟨[.agg (ai .u8 l),.int .i64 (n:H)]⟩ w K:=by refine BR.ok _ _ _ _ ?_;refine Nw.mk h λb L q=>Ld.arr q (by rw[bq,r]) (TQ q.drop r p λM t=>?_);rw[Bg];refine Nw.mk t λu N v=>ak.ax v (by rw[fp];rfl) (aag λj=>(l.count j:H)) λB o=>?_;have o:Hp E B (ag u (.cells (fw 16 λj=>(l.count j:H)) 442 (0,0))::F):=o;refine aK.wr o Zb Zb fp Z λP y=>?_;rw[show(0:H).toNat=0 from Z,vl,je (g:=λj=>(many l j:H)) λi _=>by unfold many;by_cases e:i=0<;>simp[e]]at y;refine⟨λc m w'=>∃k:I,m=(k:H)+1∧k≤n∧c=(Srt.fst l k:H)∧Hp E w' (ag u (.cells (fw 16 λj=>(many l j:H)) 442 (0,0))::F),λ_ m _=>18-m.toNat,⟨0,Z,Za,Z,y⟩,?_⟩;rintro c m w' ⟨k,rfl,hk,rfl,hh⟩;refine aa.mk (λf=>?_) λd=>?_;{have f:k<n:=by{have:=Xo f;omega};rw[ae (x:=(k:H)+1-1) Za,show(k:H)+1-1=(k:H) by omega];refine aK.rd (s:=.int .i64) hh Za Za (many l k:H) (by rw[Zn];exact Ab Za) ?_;have q:=AX (l:=l) Za k;have t:=DI (l:=l) Za k;have v:(2:I)^k≤2^15:=ZV Zb Za;have o:(2:I)^15=32768:=by{decide};rw[ae (x:=(Srt.fst l k:H)+(many l k:H)) Za,ae (x:=(k:H)+1+1) Za];have e:=dJ (k:=.i64) (a:=Srt.fst l k+many l k) (b:=1) Zb (by have:YN .i64=9223372036854775807:=Z;omega);have C:bx .i64 ((Srt.fst l k:H)+(many l k:H)) 1=(Srt.fst l (k+1):H):=by{rw[show(Srt.fst l k:H)+(many l k:H)=((Srt.fst l k+many l k:I):H) by omega,show(1:H)=((1:I):H)from Z,e,Srt.fst];omega};rw[C];exact⟨Zb,⟨k+1,Za,Za,Z,hh⟩,by dsimp only;omega⟩};{have d:k=n:=by{have:=Xm d;omega};subst d;refine aC.mk hh λR z=>aK.rd (s:=.int .i64) z Za Za (many l k:H) (by rw[Zn];exact Ab Za) (A _ z.drop)}
theorem ac0{l:Q I}{n p:I}{K:H→G→Prop}(h:Hp E w F)(r:l.length=258)(j:∀x∈l,x≤15)(t:p<l.count n)(u:∀w',Hp E w' F→K (Bu l n p:H) w'):Cl Zf [kI] 307 ⟨[.agg (ai .u8 l),.int .i64 (n:H),.int .i64 (p:H)]⟩ w K:=by refine GC.ok _ _ _ _ _ ?_;have m:=HK t;refine Nw.mk h λb A o=>Ld.arr o (by rw[bq,r]) ?_;have v:l.count n≤258:=Yl Q.count_le_length Za;refine⟨λq i w'=>∃k:I,i=(k:H)∧k≤258∧(l.take k).count n≤p∧q=(p:H)-((l.take k).count n:H)∧Hp E w' F,λ_ i _=>258-i.toNat,⟨0,Z,Za,Zd,Zd,o.drop⟩,?_⟩;rintro q i w' ⟨k,rfl,hk,hc,rfl,hh⟩;refine aa.mk (λf=>?_) λy=>?_;{have f:k<258:=by{have:=Xo f;omega};have a:k<l.length:=by{omega};have z:=j _ (Zu a);have g:=fA a n;refine fL.rd (s:=.int .u8) Za Za (l[k]:H) (by rw[Zn];exact jr a) ?_;rw[ae (x:=(l[k]:H)) Za,ae (x:=(k:H)+1) Za];refine aa.mk (λc=>?_) λd=>aa.mk (λe=>?_) λe=>?_;{have c:l[k]≠n:=by{rw[bne_iff_ne]at c;omega};rw[Xf c]at g;exact⟨⟨k+1,Z,Za,Za,Za,hh⟩,by dsimp only;omega⟩};{have d:l[k]=n:=by{have:=bne_eq_false_iff_eq.1 d;omega};have e:(l.take k).count n=p:=by{rw[XB]at e;omega};have:k=Bu l n p:=by{refine Ir a m.1 Ze ?_;rw[m.2.2];unfold kr;rw[fe a,d,e]};rw[this];exact u _ hh};{have d:l[k]=n:=by{have:=bne_eq_false_iff_eq.1 d;omega};have e:(l.take k).count n≠p:=by{have:=beq_eq_false_iff_ne.1 e;omega};rw[Xh d]at g;rw[ae Za];exact⟨⟨k+1,Z,Za,Za,Za,hh⟩,by dsimp only;omega⟩}};{grind}
def fF(l:Q I)(c b:I):Xi Xe:=⟨(l.map λ(n:I)=>Yy .u8 (n:H))++[.int .i64 (c:H),.int .i64 (b:H)]⟩
theorem cQ{l:Q I}{c b:I}(a:l.length=258):(fF l c b).size=260:=by simp[fF,a]
theorem fN{l:Q I}{c b:I}:∀v∈(fF l c b).toList,aD v=O:=by intro v a;unfold fF at a;simp only[YQ,Q.mem_map,YT,Q.not_mem_nil,or_false]at a;rcases a with⟨n,_,rfl⟩|rfl|rfl<;>rfl
theorem gO(l:Q I)(c b:I):fF l c b=⟨[]++(l.map λ(n:I)=>Yy .u8 (n:H))++[.int .i64 (c:H),.int .i64 (b:H)]⟩:=Z
theorem yr{l:Q I}{c b:I}(a:l.length=258):(fF l c b)[258]?=V (Sc.enc (.int .i64) (c:H)):=by unfold fF;rw[Q.getElem?_toArray,ZM (by simp[a])];simp[a]
theorem uI{l:Q I}{c b:I}(a:l.length=258):(fF l c b)[259]?=V (Sc.enc (.int .i64) (b:H)):=by unfold fF;rw[Q.getElem?_toArray,ZM (by simp[a])];simp[a]
theorem IH:(⟨Zj 258 (.int .u8 0)++[.int .i64 0,.int .i64 0]⟩:Xi Xe)=fF (Zj 258 0) 0 0:=by unfold fF;rw[Q.map_replicate];rfl
theorem uA(a:Q (I×Xe)):Tryz.prog.built 176 a=YL (#[(0,258),(258,1),(259,1)][·]?) ⟨Zj 258 (.int .u8 0)++[.int .i64 0,.int .i64 0]⟩ a:=Zc
theorem zL{l:Q I}(a:l.length=258)(rest:Q (I×Xe)):YL (#[(0,258),(258,1),(259,1)][·]?) ⟨Zj 258 (.int .u8 0)++[.int .i64 0,.int .i64 0]⟩ ((0,.agg (ai .u8 l))::rest)=YL (#[(0,258),(258,1),(259,1)][·]?) (fF l 0 0) rest:=by have:=jY (place:=(#[(0,258),(258,1),(259,1)][·]?)) (i:=0) (v:=.agg (ai .u8 l)) (rest:=rest) (pre:=[]) (aP:=Zj 258 (.int .u8 0)) (post:=[.int .i64 0,.int .i64 0]) Z Z ZX (by show(ai .u8 l).size=_;rw[bq,a]);exact this
theorem aa9{l:Q I}{c a b:I}(d:l.length=258)(rest:Q (I×Xe)):YL (#[(0,258),(258,1),(259,1)][·]?) (fF l a b) ((1,.int .i64 (c:H))::rest)=YL (#[(0,258),(258,1),(259,1)][·]?) (fF l c b) rest:=by have:=jY (place:=(#[(0,258),(258,1),(259,1)][·]?)) (i:=1) (v:=.int .i64 (c:H)) (rest:=rest) (pre:=l.map λ(n:I)=>Yy .u8 (n:H)) (aP:=[.int .i64 (a:H)]) (post:=[.int .i64 (b:H)]) Z (by simp[d]) Z Z;unfold fF;rw[show(l.map λ(n:I)=>Yy .u8 (n:H))++[.int .i64 (a:H),.int .i64 (b:H)]=(l.map λ(n:I)=>Yy .u8 (n:H))++[.int .i64 (a:H)]++[.int .i64 (b:H)] by simp,this];congr 2;simp[Xe.cells]
theorem QE{l:Q I}{c a b:I}(d:l.length=258)(rest:Q (I×Xe)):YL (#[(0,258),(258,1),(259,1)][·]?) (fF l c a) ((2,.int .i64 (b:H))::rest)=YL (#[(0,258),(258,1),(259,1)][·]?) (fF l c b) rest:=by have:=jY (place:=(#[(0,258),(258,1),(259,1)][·]?)) (i:=2) (v:=.int .i64 (b:H)) (rest:=rest) (pre:=(l.map λ(n:I)=>Yy .u8 (n:H))++[.int .i64 (c:H)]) (aP:=[.int .i64 (a:H)]) (post:=[]) Z (by simp[d]) Z Z;unfold fF;rw[show(l.map λ(n:I)=>Yy .u8 (n:H))++[.int .i64 (c:H),.int .i64 (a:H)]=(l.map λ(n:I)=>Yy .u8 (n:H))++[.int .i64 (c:H)]++[.int .i64 (a:H)]++[] by simp,this];congr 2;simp[Xe.cells]
theorem dr.st0{l:Q I}{K:Xi Xe→Prop}(a:l.length=258)(b:K (fF l 0 0)):dr Zf 176 [(0,.agg (ai .u8 l))] K:=⟨fF l 0 0,by rw[uA,zL a];rfl,b⟩
theorem dr.st2{l:Q I}{b:I}{K:Xi Xe→Prop}(a:l.length=258)(c:K (fF l 0 b)):dr Zf 176 [(0,.agg (ai .u8 l)),(2,.int .i64 (b:H))] K:=⟨fF l 0 b,by rw[uA,zL a,QE a];rfl,c⟩
theorem dr.st3{l:Q I}{c b:I}{K:Xi Xe→Prop}(a:l.length=258)(d:K (fF l c b)):dr Zf 176 [(0,.agg (ai .u8 l)),(1,.int .i64 (c:H)),(2,.int .i64 (b:H))] K:=⟨fF l c b,by rw[uA,zL a,aa9 a,QE a];rfl,d⟩
theorem dr.stZ{K:Xi Xe→Prop}(a:K (fF (Zj 258 0) 0 0)):dr Zf 176 [] K:=⟨_,uA [],by rw[IH];exact a⟩
theorem ad0{l:Q I}{K:Xi Xe→H→G→Prop}(h:Hp E w F)(a:l.length=258)(e:dW l=J→∀w',Hp E w' F→K (fF (Zj 258 0) 0 0) 2 w')(f:dW l=O→∀w',Hp E w' F→K (fF l 0 0) 0 w'):Cl Zf [.arr 260,kI] 225 ⟨[.agg (ai .u8 l)]⟩ w K:=by refine FM.ok _ _ _ ?_;rw[IH];have d:(fF (Zj 258 0) 0 0).size=260:=cQ ZX;refine Nw.mk h λb n k=>Nw.mk k λo p j=>Ld.arr j.p1 (by rw[bq,a]) (yF j a λq g=>aa.mk (λi=>?_) λi=>?_);{exact dr.stZ (aB.ax g d d fN λm c=>Ld.arr c d (e (by simpa using i) _ c.drop.drop))};{exact Ld.arr g.p1 (by rw[bq,a]) (dr.st0 a (aB.ax g d (cQ a) fN λm c=>Ld.arr c (cQ a) (f (by simpa using i) _ c.drop.drop)))}
theorem aaP{l:Q I}(h:dW l=O):∀x∈l,x≤15:=λx a=>by obtain⟨i,b,rfl⟩:=ZY a;have:=jm (l:=l) (by rw[(pn.1 h).1];decide) i;rwa [fe b]at this
theorem Pk{l:Q I}{c b:I}{K:Xg→G→Prop}(h:Hp E w F)(d:l.length=258)(q:b<15)(o:c<2^b)(j:∀w',Hp E w' F→K (dW l&&XE (Srt.fst l b+many l b≤c)) w'):Cl Zf [kB] 305 ⟨[.agg (fF l c b)]⟩ w K:=by refine Cd.ok _ _ _ ?_;simp only[bz,aj,Zl];refine Nw.mk h λr t k=>?_;rw[gO]at k;have i:(l.map λ(n:I)=>Yy .u8 (n:H)).length=258:=by{simp[d]};refine Ld.sub k Z i (yF k d λu a=>aa.mk (λg=>?_) λg=>?_);{have g:dW l=J:=by{simpa using g};rw[g,Xg.false_and]at j;exact j _ a.drop};have g:dW l=O:=by{simpa using g};rw[g,Xg.true_and]at j;rw[←gO]at a;have v:(2:I)^b≤2^15:=ZV Zb Za;have p:(2:I)^15=32768:=Zb;refine Ld.ax (s:=.int .i64) a (b:H) (uI d) (aa.f (Xq Za) ?_);refine Ld.ax (s:=.int .i64) a (b:H) (uI d) (aa.f (Xq Za) ?_);refine Ld.ax (s:=.int .i64) a (c:H) (yr d) (aa.f (Xq Za) ?_);refine Ld.ax (s:=.int .i64) a (c:H) (yr d) (Ld.ax (s:=.int .i64) a (b:H) (uI d) ⟨Za,?_⟩);rw[cC (by have:Xy.bits .i64=64:=Z;omega),Y9 o];refine aa.f Zb ?_;rw[gO]at a;refine Ld.sub a Z i ?_;rw[←gO]at a;refine Ld.ax (s:=.int .i64) a (b:H) (uI d) (Fy a d (aaP g) Za λx m=>Ld.ax (s:=.int .i64) m (c:H) (yr d) ?_);have k:=AX (l:=l) Za b;have a:=DI (l:=l) Za b;rw[ae Za];have e:XE ((c:H)≥(Srt.fst l b:H)+(many l b:H))=XE (Srt.fst l b+many l b≤c):=by{rw[Yu,XA,XA];omega};rw[e];exact j _ m.drop
theorem OU{c x:I}(f:x≤1)(g:c<16384):iw .i64 (bx .i64 (c:H) 1) (x:H)=((2*c+x:I):H):=by have h:YN .i64=9223372036854775807:=Z;have e:=dJ (k:=.i64) (a:=c) (b:=1) Zb Za;have d:c*2^1|||x=2*c+x:=by{have:=YX (i:=1) (b:=x) Za c;rw[Yk c,←this,Yk]};rw[show(1:H)=((1:I):H)from Z,e,mf Za Za Ze,d]
theorem acL{l:Q I}{c b x:I}{K:Xi Xe→H→Xg→G→Prop}(h:Hp E w F)(a:l.length=258)(j:ot l c b)(B:x≤1)(m:∀w',Hp E w' F→K (fF l (iQ l c b x).1.1 (iQ l c b x).1.2) (((iQ l c b x).2.getD 0:I):H) (iQ l c b x).2.isSome w'):Cl Zf [.arr 260,kI,kB] 227 ⟨[.agg (fF l c b),.int .i64 (x:H)]⟩ w K:=by refine Ea.ok _ _ _ _ ?_;simp only[bz,aj,Zl];rw[IH];have C:(fF (Zj 258 0) 0 0).size=260:=cQ ZX;have d:(l.map λ(n:I)=>Yy .u8 (n:H)).length=258:=by{simp[a]};have hp:(2:I)^b≤2^14:=ZV Zb (by have:=j.2.1;omega);have D:(2:I)^14=16384:=Zb;have L:=j.2.2.1;have M:=j.2.1;have k:=aaP j.1;refine Nw.mk h λb4 w1 N=>Nw.mk N λb6 w2 A=>?_;have P:aJ .i64 (x:H) 1=0:=by{rw[show(1:H)=((1:I):H)from Z,cC Zb];omega};rw[P];refine⟨Zb,aa.f Zb ?_⟩;refine Ld.arr A.p1 (cQ a) (Pk A a M L λw3 u=>?_);refine aa.f (by rw[j.1,Xt j.2.2.2];rfl) ?_;have o:=u.p1;rw[gO l c b]at o;refine Ld.sub o Z d (Ld.ax (s:=.int .i64) u.p1 (c:H) (yr a) ⟨Zb,Ld.ax (s:=.int .i64) u.p1 (b:H) (uI a) ?_⟩);rw[OU B Za,ae (x:=(b:H)+1) Za];refine dr.st3 (b:=b+1) a (aB.ax u C (cQ a) fN λw4 z=>?_);have p:=z;rw[gO l (2*c+x) (b+1)]at p;refine Ld.sub p Z d (Ld.ax (s:=.int .i64) z ((b+1:I):H) (uI a) (Fy z a k Za λw5 v=>Ld.ax (s:=.int .i64) v ((2*c+x:I):H) (yr a) ?_));have hf:=AX (l:=l) Za (b+1);have hm:=DI (l:=l) Za (b+1);have R:(2:I)^(b+1)=2*2^b:=by{rw[YC,Yk]};rw[ae Za];by_cases hcase:Srt.fst l (b+1)+many l (b+1)≤2*c+x;{refine aa.t (Xt Za) (Ld.arr v (cQ a) (aB.ax v (cQ a) (cQ a) fN λS i=>Ld.arr i (cQ a) ?_));have e:iQ l c b x=((2*c+x,b+1),U):=by{unfold iQ;rw[Xh hcase]};rw[e]at m;exact m _ i.drop.drop};{refine aa.f (Xq Za) ?_;have e:iQ l c b x=((0,0),V (Bu l (b+1) (2*c+x-Srt.fst l (b+1)))):=by{unfold iQ;rw[Xf hcase]};rw[e]at m;have T:=j.ge;have W:many l (b+1)=l.count (b+1):=by{unfold many;rw[Xf Za]};refine aC.mk v λS i=>?_;have q:=i;rw[gO l (2*c+x) (b+1)]at q;refine Ld.sub q Z d (Ld.ax (s:=.int .i64) i ((b+1:I):H) (uI a) (Ld.ax (s:=.int .i64) i ((2*c+x:I):H) (yr a) ?_));rw[ae (x:=((2*c+x:I):H)-(Srt.fst l (b+1):H)) Za,show((2*c+x:I):H)-(Srt.fst l (b+1):H)=((2*c+x-Srt.fst l (b+1):I):H) by omega];constructor;{have g:=i.p1;rw[gO l c b]at g;refine Ld.sub g Z d (dr.st0 a (ac0 i a k Za λX y=>?_));exact aB.ax y (cQ a) (cQ a) fN λY r=>Ld.arr r (cQ a) (m _ r.drop.drop)};{refine ac0 i a k Za λX y=>?_;have g:=y.p1;rw[gO l c b]at g;refine Ld.sub g Z d (dr.st0 a ?_);exact aB.ax y (cQ a) (cQ a) fN λY r=>Ld.arr r (cQ a) (m _ r.drop.drop)}}
end
end
end Go.Proofs.Q9
namespace Go.Srt
section
def nR(l:Q I)(z:H):Xg:=K (0≤z)&&K (z<258)&&K (0<l.getD z.toNat 0)
def oB(l:Q I)(zs:Q H):Xg:=zs.all (nR l)
def mF(l:Q I)(zs:Q H):Q I:=enc l (zs.map H.toNat)
def wE{l:Q I}{z:H}:nR l z=O↔0≤z∧z<258∧0<l.getD z.toNat 0:=by simp[nR,and_assoc]
def Ix{l:Q I}{zs:Q H}(h:oB l zs=O){z:H}(a:z∈zs):nR l z=O:=List.all_eq_true.1 h z a
def Ub{l:Q I}{zs:Q H}{k:I}(a:k<zs.length)(h:nR l zs[k]=J):oB l zs=J:=by cases ha:oB l zs with|false=>rfl|true=>have:=Ix ha (Zu a);rw[h]at this;cases this
def Fb{zs:Q H}{k:I}(a:k<zs.length):zs.take (k+1)=zs.take k++[zs[k]]:=by rw[ZB,Zh a];rfl
def Ph{l:Q I}{zs:Q H}{k:I}(a:k<zs.length)(h:oB l (zs.take k)=O)(b:nR l zs[k]=O):oB l (zs.take (k+1))=O:=by unfold oB at h⊢;rw[Fb a,Q.all_append,h];simp[b]
def Ef{l:Q I}{zs:Q H}{k:I}(a:k<zs.length):mF l (zs.take (k+1))=mF l (zs.take k)++Dw l zs[k].toNat:=by unfold mF;rw[Fb a,ZF,V1];congr 1;simp[enc]
def Ho(l:Q I)(s:I):(Dw l s).length=l.getD s 0:=pH _ _
def ph{l:Q I}(a:bD l≤32768):∀zs:Q H,(mF l zs).length≤15*zs.length|[]=>by simp[mF,enc]|z::zs=>by have:=ph a zs;have b:=jm a z.toNat;unfold mF at this⊢;rw[ZP,AM,Zg,Ho,Zk];omega
end
end Go.Srt
namespace Go.Proofs.Q9
section
open Go Go.Vc Go.Srt Go.Bits
section
variable{E w:G}{F:Q HP}
theorem aaj{l:Q I}{s:Sl}{zs:Q H}{K:H→H→G→Prop}(h:Hp E w F)(y:l.length=258)(z:ad F (aI 1 s (zs.map vI)))(N:zs.length≤100000)(o:¬(bD l≤32768∧oB l zs=O)→∀w',Hp E w' F→K 0 2 w')(t:bD l≤32768→oB l zs=O→∀w',Hp E w' F→K ((mF l zs).length:H) 0 w'):Cl Zf [kI,kI] 217 ⟨[.agg (ai .u8 l),.slice s.base s.len s.cap]⟩ w K:=by refine CN.ok _ _ _ _ ?_;have u:=(h.an z).1;simp only[Zq,ZE]at u;refine Nw.mk h λb P d=>Ld.arr d (by rw[bq,y]) (zM d y λB A=>aa.mk (λe=>o (λa=>by simp[a.1]at e) B A.drop) λe=>?_);have e:bD l≤32768:=by{simpa using e};refine⟨λn i w'=>∃k:I,i=(k:H)∧k≤zs.length∧n=((mF l (zs.take k)).length:H)∧oB l (zs.take k)=O∧Hp E w' (ag b (.cells (ai .u8 l) 172 (0,0))::F),λ_ i _=>zs.length-i.toNat,⟨0,Z,Za,Z,Z,A⟩,?_⟩;rintro n i w' ⟨k,rfl,hk,rfl,hg,a⟩;refine aa.mk (λc=>?_) λf=>?_;{have c:k<zs.length:=by{have:=Xo c;omega};have g:nR l zs[k]=J→K 0 2 w':=λC=>o (λa=>by rw[Ub c C]at a;exact Xu a.2 Zb) w' a.drop;refine ay.rd (a.an (ad.cons z)) Za Za λq R D=>Ld.sc (s:=.int .i64) zs[k] (by rw[D];simp[vI,Sc.enc]) ?_;refine aa.mk (λr=>g ?_) λr=>aa.mk (λd=>g ?_) λd=>?_;{have:=Xo r;unfold nR;rw[Xq (show¬0≤zs[k] by omega)];rfl};{have:=Xo d;unfold nR;rw[Xq (show¬zs[k]<258 by omega)];simp};have r:=Xm r;have d:=Xm d;obtain⟨m,L⟩:∃m:I,zs[k]=(m:H):=⟨zs[k].toNat,Za⟩;have j:zs[k].toNat=m:=by{omega};rw[L];refine aK.rd (s:=.int .u8) a Za Za (l.getD m 0:H) (JQ Za) (aa.mk (λp=>g ?_) λp=>?_);{have:l.getD m 0=0:=by{rw[XB]at p;omega};unfold nR;rw[j,this];simp};have p:0<l.getD m 0:=by{have:=beq_eq_false_iff_ne.1 p;omega};refine aK.rd (s:=.int .u8) a Za Za (l.getD m 0:H) (JQ Za) ?_;have M:=jm e m;have v:=ph e (zs.take k);rw[Zz]at v;rw[ae (x:=(l.getD m 0:H)) Za,ae (x:=((mF l (zs.take k)).length:H)+(l.getD m 0:H)) Za,ae Za];refine⟨⟨k+1,Z,Za,?_,Ph c hg (wE.2 ⟨Za,Za,by rw[j];exact p⟩),a⟩,by dsimp only;omega⟩;rw[Ef c,Zg,Ho,j];omega};{have f:k=zs.length:=by{have:=Xm f;omega};subst f;rw[ZQ]at hg⊢;exact t e hg w' a.drop}
theorem abC{l:Q I}{s:Sl}{zs:Q H}{b:I}{a:Q I}{K:H→G→Prop}(h:Hp E w (Wr b a::F))(g:l.length=258)(r:ad F (aI 1 s (zs.map vI)))(W:zs.length≤100000)(P:a.length≤100000000)(u:¬(bD l≤32768∧oB l zs=O)→∀w',Hp E w' (Wr b a::F)→K 2 w')(v:bD l≤32768→oB l zs=O→∀w',Hp E w' (Wr b (a++mF l zs)::F)→K 0 w'):Cl Zf [kI] 147 ⟨[.pointer (V ⟨b,0,U⟩),.agg (ai .u8 l),.slice s.base s.len s.cap]⟩ w K:=by refine F3.ok _ _ _ _ _ ?_;simp only[bz];have y:=(h.an (ad.cons r)).1;simp only[Zq,ZE]at y;rw[C1];refine Nw.mk h λX w1 R=>Ld.arr R (by rw[bq,g]) (aaj R g (ad.cons (ad.cons r)) W (λz S o=>?_) λj T S o=>?_);{exact aa.f Z (aa.t Zb (u z S o.drop))};refine aa.f Z (aa.f Zb (Ld.arr o (by rw[bq,g]) (Ww o g (λz=>Xu j z) λ_ p w3 A Y=>?_)));refine Nw.mk Y λB w4 h4=>aB.ax h4 (by rw[bq];simp) (by rw[bq,fm]) oo λw5 h5=>?_;refine⟨λi w'=>∃k:I,i=(k:H)∧k≤zs.length∧Hp E w' (Wr b (a++mF l (zs.take k))::ag B (.cells (ai .u32 (fD l p p.length)) 262 (0,0))::ag X (.cells (ai .u8 l) 172 (0,0))::F),λi _=>zs.length-i.toNat,⟨0,Z,Za,?_⟩,?_⟩;{rw[Y4];have e:mF l []=[]:=Z;rw[e,ZG];exact h5.p2};rintro i w' ⟨k,rfl,hk,hh⟩;refine aa.mk (λc=>?_) λd=>?_;{have c:k<zs.length:=by{have:=Xo c;omega};refine ay.rd (hh.an (ad.cons (ad.cons (ad.cons r)))) Za Za λq hq hc=>Ld.sc (s:=.int .i64) zs[k] (by rw[hc];simp[vI,Sc.enc]) ?_;obtain⟨g1,g2,C⟩:=wE.1 (Ix T (Zu c));obtain⟨m,hm⟩:∃m:I,zs[k]=(m:H):=⟨zs[k].toNat,Za⟩;have n:zs[k].toNat=m:=by{omega};rw[n]at C;rw[hm];refine aC.mk hh λw6 D=>?_;refine aK.rd (s:=.int .u32) D.p1 Za Za ((fD l p p.length).getD m 0:H) (JQ (by rw[fm];omega)) ?_;refine aK.rd (s:=.int .u8) D.p2 Za Za (l.getD m 0:H) (JQ Za) ?_;have L:=jm j m;rw[ae (x:=(l.getD m 0:H)) Za,Ou g j A Za C,ae (x:=(k:H)+1) Za];have M:=C7 g j Za C;have hp:2^l.getD m 0≤2^15:=ZV Zb L;have hp2:(2:I)^15=32768:=by{decide};have N:=ph j (zs.take k);rw[Zz]at N;refine QR D Za M Za (by rw[Zg,aL];omega) λw7 h7=>⟨⟨k+1,Za,Za,?_⟩,by dsimp only;omega⟩;rw[Ef c,n,←Zm];exact h7};{have d:k=zs.length:=by{have:=Xm d;omega};subst d;rw[ZQ]at hh;exact v j T w' (hh.p1.drop.p1.drop)}
end
end
end Go.Proofs.Q9
namespace Go.ag
section
open Go.Inc Go.Srt Go.Sym Go.Bits
structure CS where
 c:I
 n:I
 d:DS
 acc:Q I
def gm(l:Q I)(s:CS)(x:I):xP CS (Q I) I:=match dw l (2*s.c+x) (s.n+1)with|none=>.more ⟨2*s.c+x,s.n+1,s.d,s.acc⟩|some y=>match ck s.d y with|none=>.bad 160|some (_,t,true)=>.fin (s.acc++t)|some (a,t,false)=>.more ⟨0,0,a,s.acc++t⟩
def Da{l:Q I}{s:CS}{x:I}(h:dw l (2*s.c+x) (s.n+1)=U):gm l s x=.more ⟨2*s.c+x,s.n+1,s.d,s.acc⟩:=by unfold gm;rw[h]
def CW{l:Q I}{s:CS}{x y:I}(h:dw l (2*s.c+x) (s.n+1)=V y):gm l s x=match ck s.d y with|none=>.bad 160|some (_,t,true)=>.fin (s.acc++t)|some (a,t,false)=>.more ⟨0,0,a,s.acc++t⟩:=by unfold gm;rw[h]
section
variable{l:Q I}
theorem Lr(g:l.length=258)(i:bD l≤32768){s:I}(j:jK l s)(a acc:Q I)(d:DS):∀k m,m+k=l.getD s 0→0<k→run (gm l) ⟨code l s/2^(l.getD s 0-m),m,d,acc⟩ ((bn (l.getD s 0) (code l s)).drop m++a)=(match ck d s with|none=>.bad 160|some (_,t,true)=>.fin (acc++t) a|some (q,t,false)=>run (gm l) ⟨0,0,q,acc++t⟩ a)|0,_,_,h=>Za|k+1,m,x,_=>by have u:=jm i s;have r:=pH (l.getD s 0) (code l s);have f:m<(bn (l.getD s 0) (code l s)).length:=Za;rw[ZA f,ZO];have v:(bn (l.getD s 0) (code l s))[m]=code l s/2^(l.getD s 0-1-m)%2:=by{rw[←Bp _ _ _ Za,fe f]};have n:2*(code l s/2^(l.getD s 0-m))+(bn (l.getD s 0) (code l s))[m]=code l s/2^(l.getD s 0-(m+1)):=by{rw[v,show l.getD s 0-m=(l.getD s 0-1-m)+1 by omega,YC,←I.div_div_eq_div_mul,show l.getD s 0-(m+1)=l.getD s 0-1-m by omega];omega};by_cases e:k=0;{subst e;have w:m+1=l.getD s 0:=by{omega};have o:dw l (2*(code l s/2^(l.getD s 0-m))+(bn (l.getD s 0) (code l s))[m]) (m+1)=V s:=by{rw[n,w,I.sub_self,I.pow_zero,I.div_one,uk g j]};have c:=CW (s:=⟨code l s/2^(l.getD s 0-m),m,d,acc⟩) o;rw[de,c,ZZ Za,ZU];cases hd:ck d s with|none=>rfl|some p=>obtain⟨q,t,b⟩:=p;cases b<;>rfl};{have o:dw l (2*(code l s/2^(l.getD s 0-m))+(bn (l.getD s 0) (code l s))[m]) (m+1)=U:=by{rw[n,EY g i j Za]};have c:=Da (s:=⟨code l s/2^(l.getD s 0-m),m,d,acc⟩) o;rw[dZ c];simp only;rw[n];exact Lr g i j a acc d k (m+1) Za Za}
theorem acT(c:l.length=258)(e:bD l≤32768){s:I}(b:jK l s)(a acc:Q I)(d:DS):run (gm l) ⟨0,0,d,acc⟩ (Dw l s++a)=match ck d s with|none=>.bad 160|some (_,t,true)=>.fin (acc++t) a|some (f,t,false)=>run (gm l) ⟨0,0,f,acc++t⟩ a:=by have h:=Lr c e b a acc d (l.getD s 0) 0 Za b.2;have g:=C7 c e b.1 b.2;rw[YZ,Y9 g,Yn]at h;exact h
theorem PL(g:l.length=258)(i:bD l≤32768):∀(c a acc:Q I)(d:DS),(∀s∈c,jK l s)→run (gm l) ⟨0,0,d,acc⟩ (enc l c++a)=(match run ky (d,acc) c with|.bad e=>.bad e|.fin t r=>.fin t (enc l r++a)|.short (f,acc')=>run (gm l) ⟨0,0,f,acc'⟩ a)|[],a,acc,d,_=>rfl|s::c,a,acc,d,h=>by rw[AM,Zm,acT g i (h s Zd),de];cases hd:ck d s with|none=>rw[Lq hd]|some p=>obtain⟨f,t,b⟩:=p;cases b with|true=>rw[Dv hd]|false=>rw[uB hd];exact PL g i c a _ f λt j=>h t (by simp[j])
end
end
end Go.ag
namespace Go.Tab
section
open Go.Inc
structure TS where
 l:Q I
 bits:I
 now:I
 way:I
def t0:TS:=⟨[],0,0,0⟩
def bF(ok:Q I→Xg)(s:TS)(b:I):xP TS (Q I) I:=if s.bits<4 then .more ⟨s.l,s.bits+1,2*s.now+b,s.way⟩else if s.bits=4 then if b=0 then if s.l.length+1<258 then .more ⟨s.l++[s.now],4,s.now,0⟩else if ok (s.l++[s.now])then .fin (s.l++[s.now])else .bad 100 else .more ⟨s.l,5,s.now,s.way⟩else if b=0 then if s.way≠2∧s.now<15 then .more ⟨s.l,4,s.now+1,1⟩else .bad 100 else if s.way≠1∧0<s.now then .more ⟨s.l,4,s.now-1,2⟩else .bad 100
def q0:I→Q I|0=>[]|k+1=>1::0::q0 k
def jL:I→Q I|0=>[]|k+1=>1::1::jL k
def eV(a b:I):Q I:=(if b<a then jL (a-b)else q0 (b-a))++[0]
def fx:I→Q I→Q I|_,[]=>[]|was,n::l=>eV was n++fx n l
def four(n:I):Q I:=[n/8%2,n/4%2,n/2%2,n%2]
def gz(l:Q I):Q I:=four (l.headD 0)++fx (l.headD 0) l
section
variable{ok:Q I→Xg}
theorem MH:∀(k:I)(l:Q I)(a b:I)(r:Q I),b≠2→a+k≤15→∃c,run (bF ok) ⟨l,4,a,b⟩ (q0 k++r)=run (bF ok) ⟨l,4,a+k,c⟩ r|0,l,a,b,r,_,_=>⟨b,Z⟩|k+1,l,a,b,r,d,g=>by obtain⟨c,h⟩:=MH k l (a+1) 1 r Zb Za;refine⟨c,?_⟩;have e:bF ok ⟨l,4,a,b⟩ 1=.more ⟨l,5,a,b⟩:=Z;have f:bF ok ⟨l,5,a,b⟩ 0=.more ⟨l,4,a+1,1⟩:=by{simp only[bF];rw[Xf Zb,Xf Zb,Xh trivial,Xh ⟨d,Za⟩]};show run (bF ok) ⟨l,4,a,b⟩ (1::0::(q0 k++r))=_;rw[dZ e,dZ f,h,show a+1+k=a+(k+1) by omega]
theorem Fv:∀(k:I)(l:Q I)(a b:I)(r:Q I),b≠1→k≤a→∃c,run (bF ok) ⟨l,4,a,b⟩ (jL k++r)=run (bF ok) ⟨l,4,a-k,c⟩ r|0,l,a,b,r,_,_=>⟨b,Z⟩|k+1,l,a,b,r,d,g=>by obtain⟨c,h⟩:=Fv k l (a-1) 2 r Zb Za;refine⟨c,?_⟩;have e:bF ok ⟨l,4,a,b⟩ 1=.more ⟨l,5,a,b⟩:=Z;have f:bF ok ⟨l,5,a,b⟩ 1=.more ⟨l,4,a-1,2⟩:=by{simp only[bF];rw[Xf Zb,Xf Zb,Xf Zb,Xh ⟨d,Za⟩]};show run (bF ok) ⟨l,4,a,b⟩ (1::1::(jL k++r))=_;rw[dZ e,dZ f,h,show a-1-k=a-(k+1) by omega]
theorem Vo(l:Q I)(a n:I)(r:Q I)(c:a≤15)(d:n≤15):∃b,run (bF ok) ⟨l,4,a,0⟩ (eV a n++r)=run (bF ok) ⟨l,4,n,b⟩ (0::r):=by unfold eV;rw[Zm];split;{obtain⟨b,h⟩:=Fv (ok:=ok) (a-n) l a 0 ([0]++r) Zb Za;exact⟨b,by rw[h,show a-(a-n)=n by omega];rfl⟩};{obtain⟨b,h⟩:=MH (ok:=ok) (n-a) l a 0 ([0]++r) Zb Za;exact⟨b,by rw[h,show a+(n-a)=n by omega];rfl⟩}
theorem HB:∀(m:Q I)(l:Q I)(a:I)(r:Q I),m≠[]→a≤15→(∀x∈m,x≤15)→l.length+m.length=258→ok (l++m)=O→run (bF ok) ⟨l,4,a,0⟩ (fx a m++r)=.fin (l++m) r|[],_,_,_,h,_,_,_,_=>Xu Z h|n::m,l,a,r,_,hw,hm,hl,hok=>by rw[fx,Zm];obtain⟨b,h⟩:=Vo (ok:=ok) l a n (fx n m++r) hw (hm n ZJ);rw[h];cases m with|nil=>refine DQ ?_;simp only[Zk,Zs]at hl;simp only[bF];rw[Xf Zb,Xh trivial,Xh trivial,Xf Za,Xh hok]|cons x m=>simp only[Zk]at hl;have c:bF ok ⟨l,4,n,b⟩ 0=.more ⟨l++[n],4,n,0⟩:=by{simp only[bF];rw[Xf Zb,Xh trivial,Xh trivial,Xh Za]};rw[dZ c,HB (x::m) (l++[n]) n r Zd (hm n ZJ) (λy d=>hm y (Zv _ d)) Ze Ze,Zm];rfl
theorem EE{l:Q I}(r:Q I)(d:l.length=258)(b:∀x∈l,x≤15)(a:ok l=O):run (bF ok) t0 (gz l++r)=.fin l r:=by unfold gz;rw[Zm];have c:l.headD 0≤15:=by{cases l with|nil=>simp at d|cons x l=>exact b x ZJ};have f:run (bF ok) t0 (four (l.headD 0)++(fx (l.headD 0) l++r))=run (bF ok) ⟨[],4,l.headD 0,0⟩ (fx (l.headD 0) l++r):=by{generalize l.headD 0=n at c⊢;have e:2*(2*(2*(2*0+n/8%2)+n/4%2)+n/2%2)+n%2=n:=by{omega};show run (bF ok) ⟨[],4,2*(2*(2*(2*0+n/8%2)+n/4%2)+n/2%2)+n%2,0⟩ _=_;rw[e];rfl};rw[f];exact HB l [] (l.headD 0) r Ze c b Ze a
end
end
end Go.Tab
namespace Go.ag
section
open Go.Inc Go.Srt Go.Sym Go.Bits Go.Tab Go.Hd Go.Crc Go.Bw
def bm(b:Q I):Q I:=bitsOf b (8*b.length)
def cA(b:Q I):(bm b).length=8*b.length:=N9 _ _
def rV(a b:Q I):bm (a++b)=bm a++bm b:=by unfold bm bitsOf;rw[Zg,I.mul_add,Q.range_add,ZF];congr 1;{refine Z2 λi c=>?_;rw[Q.mem_range]at c;unfold cf;rw[YH,YH,ZR Za]};{rw[YK];refine Z2 λi c=>?_;simp only[Function.comp];unfold cf;rw[YH,YH,ZM Za,show(8*a.length+i)/8-a.length=i/8 by omega,show(8*a.length+i)%8=i%8 by omega]}
def fY(b:Q I):I:=8*((b.length+7)/8)-b.length
def D0(b:Q I):fY b<8:=by unfold fY;omega
def xR{b:Q I}(h:Bits b):bm (pack b)=b++Zj (fY b) 0:=by unfold bm bitsOf fY;rw[nG];refine YV λi=>?_;rw[Z0];by_cases hi:i<8*((b.length+7)/8);{rw[Yz hi,YA];unfold pack;rw[Ha h hi];by_cases hb:i<b.length;{grind};{grind}};{grind}
def body(l a:Q I):Q I:=gz l++enc l (syms a)
def mC(l x:Q I):Q I:=lz x.length (bJ x.reverse) (bQ x)++pack (body l (aW x.reverse))
def mA(left:Q I):Xg:=(left.take (left.length%8)).all (·==0)
def nD(M:I)(a:Q I):Except I (Q I×Q I):=match run (bF dW) t0 a with|.short _=>.error 50|.bad e=>.error e|.fin l more=>match run (gm l) ⟨0,0,⟨Zt 256,M,0,0⟩,[]⟩ more with|.short _=>.error 50|.bad e=>.error e|.fin last left=>.ok (last,left)
def cZ(P b:I)(a:Q I):Except I (Q I):=if okB a P then(if bQ (dM a P).reverse=b then .ok (dM a P).reverse else .error 250)else .error 170
def dG(n:I)(b:Q I):Except I (Q I×Q I):=match run (aS n) eA b with|.short _=>.error 50|.bad e=>.error e|.fin (.tail _) _=>.error 242|.fin (.ax M P sum) rest=>match nD M (bm rest)with|.error e=>.error e|.ok (last,left)=>if mA left then(match cZ P sum last with|.error e=>.error e|.ok x=>.ok (x,rest.drop (rest.length-left.length/8)))else .error 160
def Hw:∀k,Bits (q0 k)|0=>(λx a=>by cases a)|k+1=>λx a=>by(rcases List.mem_cons.1 a with h|h);{omega};{(rcases List.mem_cons.1 h with h|h);{omega};{exact Hw k x h}}
def AT:∀k,Bits (jL k)|0=>(λx a=>by cases a)|k+1=>λx a=>by(rcases List.mem_cons.1 a with h|h);{omega};{(rcases List.mem_cons.1 h with h|h);{omega};{exact AT k x h}}
def Ti(a b:I):Bits (eV a b):=by unfold eV;refine Bits.app ?_ (λx c=>by rw[ZI]at c;omega);split;{exact AT _};{exact Hw _}
def E3:∀(m:Q I)(a:I),Bits (fx a m)|[],_=>(λx b=>by cases b)|n::m,a=>Bits.app (Ti a n) (E3 m n)
def E5(l:Q I):Bits (gz l):=Bits.app (λx a=>by simp[four]at a;omega) (E3 _ _)
def wP(l a:Q I):Bits (body l a):=Bits.app (E5 l) (Ud _ _)
section
variable{l:Q I}
structure qg (l last:Q I):Prop where
 len:l.length=258
 ok:dW l=O
 good:∀s∈syms last,jK l s
theorem qg.v{a:Q I}(h:qg l a):bD l≤32768:=by rw[(pn.1 h.ok).1];decide
theorem A0(h:dW l=O):∀x∈l,x≤15:=λx a=>by obtain⟨i,b,rfl⟩:=List.mem_iff_getElem.1 a;have:=jm (l:=l) (by rw[(pn.1 h).1];decide) i;rwa [fe b]at this
theorem Vp{a:Q I}(b:qg l a)(c:∀x∈a,x<256)(r:Q I):run (gm l) ⟨0,0,⟨Zt 256,a.length,0,0⟩,[]⟩ (enc l (syms a)++r)=.fin a r:=by rw[PL b.len b.v _ _ _ _ b.good];have:=Fg c [];rw[ZG]at this;rw[this];simp[enc]
theorem Qj{a:Q I}(b:qg l a)(c:∀x∈a,x<256)(r:Q I):nD a.length (body l a++r)=.ok (a,r):=by unfold nD body;rw[Zm,EE _ b.len (A0 b.ok) b.ok];simp only;rw[Vp b c]
theorem KX{n M P b:I}(c:0<M)(d:M≤n)(f:0<P)(g:P≤M)(h:b<4294967296)(a:Q I):dG n (lz M P b++a)=match nD M (bm a)with|.error e=>.error e|.ok (last,left)=>if mA left then(match cZ P b last with|.error e=>.error e|.ok x=>.ok (x,a.drop (a.length-left.length/8)))else .error 160:=by unfold dG;rw[wC c d f g h]
theorem E8(b:Q I)(z:Q I):mA (Zj (fY b) 0++bm z)=O:=by unfold mA;have:=D0 b;rw[Zg,ZX,cA,show(fY b+8*z.length)%8=fY b by omega,Q.take_append_of_le_length Zd,Zx Zd];simp
theorem KE{n P sum:I}{a:Q I}(b:qg l a)(c:∀x∈a,x<256)(d:0<a.length)(f:a.length≤n)(g:0<P)(h:P≤a.length)(i:sum<4294967296)(z:Q I):dG n (lz a.length P sum++pack (body l a)++z)=match cZ P sum a with|.error e=>.error e|.ok x=>.ok (x,z):=by rw[Zm,KX d f g h i,rV,xR (wP _ _),Zm,Qj b c];simp only;rw[Xh (E8 _ z)];have:=D0 (body l a);have e:(pack (body l a)++z).drop ((pack (body l a)++z).length-(Zj (fY (body l a)) 0++bm z).length/8)=z:=by{rw[Zg,Zg,ZX,cA,show(fY (body l a)+8*z.length)/8=z.length by omega,I.add_sub_cancel,Q.drop_left]};rw[e]
theorem rZ{t:Q I}(h:0<t.length):0<bJ t∧bJ t≤t.length:=by refine⟨?_,nH t⟩;(rcases Z9 (bJ t)with e|e);{have:=sY (t:=t) (i:=0) (k:=t.length) Za Za (by rw[LW];exact e);omega};{exact e}
theorem Kg(x:Q I):cZ (bJ x.reverse) (bQ x) (aW x.reverse)=.ok x:=by obtain⟨a,b⟩:=Qm x.reverse;unfold cZ;rw[Xh a,b,Q.reverse_reverse,Xh Z]
theorem Oq{n:I}{x:Q I}(b:qg l (aW x.reverse))(c:∀y∈aW x.reverse,y<256)(d:∀y∈x,y<256)(f:0<x.length)(g:x.length≤n)(z:Q I):dG n (mC l x++z)=.ok (x,z):=by have e:(aW x.reverse).length=x.length:=by{rw[dz,Z3]};have a:=rZ (t:=x.reverse) Ze;rw[Z3]at a;have:=KE (n:=n) (P:=bJ x.reverse) (sum:=bQ x) b c Za Za a.1 Za (kR d) z;rw[e,Kg]at this;exact this
end
end
end Go.ag
namespace Go.Stm
section
open Go.Inc Go.Srt Go.Sym Go.Bits Go.Tab Go.Hd Go.Crc Go.Bw Go.ag
def rX(n:I)(x:Q I):Q (Q I):=if _h:x=[]∨n=0 then[]else x.take n::rX n (x.drop n)
termination_by x.length
decreasing_by have a:x≠[]:=λe=>_h (.inl e);have b:n≠0:=λe=>_h (.inr e);have:=List.length_pos_iff.2 a;rw[ZD];omega
def aX(n:I)(a:Q (Q I)):Q (Q I):=a.flatMap (rX n)
def uK(n:I):rX n []=[]:=by rw[rX];simp
def zz{n:I}{x:Q I}(h:x≠[])(a:0<n):rX n x=x.take n::rX n (x.drop n):=by rw[rX,dif_neg Ze]
def O0{n:I}(a:0<n)(x:Q I):(rX n x).flatten=x:=by induction hk:x.length using ZT generalizing x with|ind k b=>by_cases h:x=[];{rw[h,uK];rfl};{have:=List.length_pos_iff.2 h;rw[zz h a,Yf,b (x.drop n).length Ze (x.drop n) Z,Zw]}
def RO{n:I}(b:0<n)(x:Q I):∀y∈rX n x,0<y.length∧y.length≤n∧∀c∈y,c∈x:=by induction hk:x.length using ZT generalizing x with|ind k d=>by_cases h:x=[];{rw[h,uK];intro y a;cases a};{have:=List.length_pos_iff.2 h;rw[zz h b];intro y a;(rcases List.mem_cons.1 a with h|h);{grind};{grind}}
def rh{n:I}(b:0<n)(a:Q (Q I)):(aX n a).flatten=a.flatten:=by induction a with|nil=>rfl|cons x l c=>rw[aX,Z6,Q.flatten_append,O0 b,Yf];exact Xp _ c
def Il{n:I}(d:0<n){a:Q (Q I)}:∀y∈aX n a,0<y.length∧y.length≤n∧∀c∈y,c∈a.flatten:=by intro y b;obtain⟨x,e,b⟩:=List.mem_flatMap.1 b;obtain⟨f,g,h⟩:=RO d x y b;exact⟨f,g,λc i=>List.mem_flatten.2 ⟨x,e,h c i⟩⟩
section
variable(L:Q I→Q I)
def oE(x:Q I):Q I:=mC (L x) x
def blocks(l:Q (Q I)):Q I:=l.flatMap (oE L)
def ed(n:I)(a:Q (Q I)):Q I:=pY n++(blocks L (aX n a)++iE (bQ a.flatten))
def eS:Prop:=∀x:Q I,0<x.length→(∀c∈x,c<256)→qg (L x) (aW x.reverse)
end
def gE(n:I):I→Q I→Q (Q I)→Q (Q I)×I|0,_,acc=>(acc,50)|k+1,b,acc=>match run (aS n) eA b with|.short _=>(acc,50)|.bad e=>(acc,e)|.fin (.tail s) rest=>(acc,if s≠bQ acc.flatten then 260 else if rest≠[]then 261 else 0)|.fin (.ax _ _ _) _=>match dG n b with|.error e=>(acc,e)|.ok (x,behind)=>gE n k behind (acc++[x])
def mu(c:Q I):Q (Q I)×I:=match run bZ ⟨0,0⟩ c with|.short _=>([],50)|.bad e=>([],e)|.fin n rest=>gE n (rest.length+1) rest []
def Eb{n:I}{b d:Q I}{m:Mk}(h:run (aS n) eA b=.fin m d):d.length<b.length:=by obtain⟨a,c,f,e,_,_⟩:=qS h;rw[e];simp;omega
def rD{n:I}{b x a:Q I}(h:dG n b=.ok (x,a)):a.length<b.length:=by unfold dG at h;cases hr:run (aS n) eA b with|short s=>(rw[hr]at h;cases h)|bad e=>(rw[hr]at h;cases h)|fin m r=>have c:=Eb hr;rw[hr]at h;cases m with|tail s=>(cases h)|ax M P s=>simp only at h;cases hc:nD M (bm r)with|error e=>(rw[hc]at h;cases h)|ok p=>rw[hc]at h;simp only at h;split at h;{grind};{cases h}
def ER(n:I):∀(k m:I)(b:Q I)(acc:Q (Q I)),b.length<k→b.length<m→gE n k b acc=gE n m b acc|0,_,_,_,h,_=>Za|_,0,_,_,_,h=>Za|k+1,m+1,b,acc,a,c=>by unfold gE;cases run (aS n) eA b with|short s=>rfl|bad e=>rfl|fin mk r=>cases mk with|tail s=>rfl|ax M P s=>simp only;cases hu:dG n b with|error e=>rfl|ok p=>have:=rD hu;exact ER n k m p.2 _ Za Za
def nK(n:I)(b:Q I)(acc:Q (Q I)):Q (Q I)×I:=gE n (b.length+1) b acc
def Gz(n:I)(b:Q I)(acc:Q (Q I)):nK n b acc=match run (aS n) eA b with|.short _=>(acc,50)|.bad e=>(acc,e)|.fin (.tail s) rest=>(acc,if s≠bQ acc.flatten then 260 else if rest≠[]then 261 else 0)|.fin (.ax _ _ _) _=>match dG n b with|.error e=>(acc,e)|.ok (x,behind)=>nK n behind (acc++[x]):=by unfold nK;rw[gE];cases run (aS n) eA b with|short s=>rfl|bad e=>rfl|fin mk r=>cases mk with|tail s=>rfl|ax M P s=>simp only;cases hu:dG n b with|error e=>rfl|ok p=>have:=rD hu;exact ER n _ _ p.2 _ Za Za
def R3(c:Q I):mu c=match run bZ ⟨0,0⟩ c with|.short _=>([],50)|.bad e=>([],e)|.fin n rest=>nK n rest []:=Z
section
variable{L:Q I→Q I}{n:I}
theorem RA(f:eS L){x:Q I}(a:0<x.length)(e:x.length≤n)(b:∀c∈x,c<256)(g:∀y∈aW x.reverse,y<256)(r:Q I)(acc:Q (Q I)):nK n (oE L x++r) acc=nK n r (acc++[x]):=by have d:=rZ (t:=x.reverse) Ze;rw[Z3]at d;rw[Gz];have h:run (aS n) eA (oE L x++r)=.fin (.ax x.length (bJ x.reverse) (bQ x)) (pack (body (L x) (aW x.reverse))++r):=by{unfold oE mC;rw[Zm,wC a e d.1 d.2 (kR b)]};rw[h];simp only;have:=Oq (n:=n) (f x a b) g b a e r;unfold oE;rw[this]
theorem wq(a:eS L)(b:∀x:Q I,(∀c∈x,c<256)→∀y∈aW x.reverse,y<256):∀(l:Q (Q I))(r:Q I)(acc:Q (Q I)),(∀x∈l,0<x.length∧x.length≤n∧∀c∈x,c<256)→nK n (blocks L l++r) acc=nK n r (acc++l)|[],r,acc,_=>by simp[blocks]|x::l,r,acc,h=>by obtain⟨e,f,d⟩:=h x ZJ;rw[blocks,Z6,Zm,RA a e f d (b x d)];have:=wq a b l r (acc++[x]) λy g=>h y (Zv _ g);unfold blocks at this;rw[this,Zm];rfl
theorem QL{s:I}(a:s<4294967296)(r:Q I)(acc:Q (Q I)):nK n (iE s++r) acc=(acc,if s≠bQ acc.flatten then 260 else if r≠[]then 261 else 0):=by rw[Gz,EG a]
theorem Oj{x:Q I}(a:∀c∈x,c<256):∀y∈aW x.reverse,y<256:=yA λy b=>a y (List.mem_reverse.1 b)
theorem nh(b:0<n){a:Q (Q I)}(d:∀c∈a.flatten,c<256):∀x∈aX n a,0<x.length∧x.length≤n∧∀c∈x,c<256:=λx e=>by obtain⟨f,g,h⟩:=Il b x e;exact⟨f,g,λc i=>d c (h c i)⟩
theorem Q9(b:eS L)(d:0<n)(a:n≤65536){l:Q (Q I)}(e:∀x∈l,0<x.length∧x.length≤n∧∀c∈x,c<256)(r:Q I):mu (pY n++(blocks L l++r))=nK n r l:=by rw[R3,QD d a];simp only;rw[wq b (λx f=>Oj f) l r [] e];rfl
theorem Q0(e:eS L)(a:0<n)(b:n≤65536){parts:Q (Q I)}(d:∀c∈parts.flatten,c<256)(r:Q I):mu (ed L n parts++r)=(aX n parts,if r≠[]then 261 else 0):=by unfold ed;rw[Zm,Zm,Q9 e a b (nh a d),QL (kR d),rh a];simp
end
end
end Go.Stm
namespace Go.Vc
section
open Go
def aT(t:Q H):Xi Xe:=⟨t.map vI⟩
def fT{t:Q H}:(aT t).size=t.length:=by simp[aT]
def IW{t:Q H}{i:I}(h:i<t.length):(aT t)[i]?=V (Sc.enc (.int .i64) (t.getD i 0)):=by simp[aT,h,vI,YH]
def lN{t:Q H}:∀v∈(aT t).toList,aD v=O:=by intro v a;simp only[aT,Q.mem_map]at a;obtain⟨x,_,rfl⟩:=a;rfl
def acB{t:Q H}{i:I}{x:H}:(aT t).setIfInBounds i (.int .i64 x)=aT (t.set i x):=by unfold aT;apply Xi.ext';simp[Q.map_set,vI]
def L0{n:I}:(⟨Zj n (.int .i64 0)⟩:Xi Xe)=aT (Zj n 0):=by unfold aT;simp[vI]
def CH.aT{n:I}{a b:Q H}{K:Xg→Prop}(c:a.length=n)(d:b.length=n)(h:K (a==b)):CH .i64 n (aT a) (aT b) K:=⟨a,b,Z,Z,c,d,h⟩
def Tp{l:Q H}{i j:I}{x:H}(a:i<l.length):(l.set i x).getD j 0=if j=i then x else l.getD j 0:=Ze
section
variable{E w:G}{F:Q HP}
theorem aK.aT{b n:I}{t:Q H}{a:Xn}{c:I×I}{i:H}{j:I}{K:H→Prop}(h:Hp E w (ag b (.cells (Vc.aT t) a c)::F))(d:i=(j:H))(f:t.length=n)(g:j<n)(e:K (t.getD j 0)):aK ⟨b,0,U⟩ n i 1 λq=>Ld kI q w K:=by subst d;exact aK.rd (s:=.int .i64) h Za Za _ (by rw[Zn];exact IW Za) e
theorem aK.adS{b n:I}{t:Q H}{a:Xn}{i:H}{j:I}{v:H}{K:G→Prop}(h:Hp E w (ag b (.cells (Vc.aT t) a (0,0))::F))(c:i=(j:H))(d:t.length=n)(f:j<n)(e:∀w',Hp E w' (ag b (.cells (Vc.aT (t.set j v)) a (0,0))::F)→K w'):aK ⟨b,0,U⟩ n i 1 λq=>St q (.int .i64 v) w K:=by subst c;exact aK.wr h Za Za (by rw[fT,d]) Z (by rw[Zn,acB];exact e)
theorem fL.aT{n:I}{t:Q H}{i:H}{j:I}{K:H→Prop}(a:i=(j:H))(c:t.length=n)(d:j<n)(b:K (t.getD j 0)):fL (.int .i64) (Vc.aT t) n i K:=by subst a;exact fL.rd (s:=.int .i64) Za Za _ (by rw[Zn];exact IW Za) b
theorem ay.nI{s:Sl}{zs:Q H}{i:H}{j:I}{K:H→Prop}(a:aI 1 s (zs.map vI) w)(b:i=(j:H))(c:j<zs.length)(d:K (zs.getD j 0)):ay s i 1 λq=>Ld kI q w K:=by subst b;have e:=a.1;simp only[Zq,ZE]at e;refine ay.rd a Za Za λp g f=>Ld.sc (s:=.int .i64) _ ?_ d;rw[f];simp[vI,YH,c]
theorem ay.ae6{s:Sl}{a:Q I}{i:H}{j x:I}{K:G→Prop}(b:Hp E w (ao 1 s (a.map vB)::F))(d:i=(j:H))(f:j<a.length)(h:∀w',Hp E w' (ao 1 s ((a.set j x).map vB)::F)→K w'):ay s i 1 λq=>St q (.int .u8 (x:H)) w K:=by subst d;have e:=b.aV;rw[Zq,ZE]at e;refine St.own b Za Za Z λw' c=>h w' ?_;rw[Zn]at c;rw[Q.map_set];exact c
end
end
end Go.Vc
namespace Go.Hs
section
open Go Go.Vc
def cj(t:Q H):Xg:=t.all λx=>decide (0≤x)&&K (x≤2147483647)
def kx{t:Q H}:cj t=O↔∀i,i<t.length→0≤t.getD i 0∧t.getD i 0≤2147483647:=by unfold cj;rw[Q.all_eq_true];constructor;{intro h i a;have:=h t[i] (Zu a);simpa[YH,a]using this};{intro h x b;obtain⟨i,a,rfl⟩:=ZY b;simpa[YH,a]using h i a}
def Tt{t:Q H}{i:I}(a:i<t.length)(h:¬(0≤t.getD i 0∧t.getD i 0≤2147483647)):cj t=J:=by cases hv:cj t with|false=>rfl|true=>exact Xu (kx.1 hv i a) h
def oH(z:H):Xg:=K (0≤z)&&K (z<258)
def sS{z:H}:oH z=O↔0≤z∧z<258:=by simp[oH]
def inc(t:Q H)(z:H):Q H:=t.set z.toNat (t.getD z.toNat 0+1)
def js(t:Q H)(zs:Q H):Q H:=zs.foldl inc t
def Dq(t:Q H)(z:H):(inc t z).length=t.length:=Q.length_set ..
def sJ:∀(zs t:Q H),(js t zs).length=t.length|[],_=>rfl|z::zs,t=>by show(js (inc t z) zs).length=_;rw[sJ zs,Dq]
def Ia(t zs:Q H)(z:H):js t (zs++[z])=inc (js t zs) z:=by simp[js]
def Ln{t:Q H}{z:H}(a:oH z=O)(b:t.length=258)(i:I):(inc t z).getD i 0=t.getD i 0+if z=(i:H)then 1 else 0:=by rw[sS]at a;unfold inc;rw[Tp Za];by_cases h:z=(i:H);{grind};{grind}
def yz:∀{zs t:Q H},zs.all oH=O→t.length=258→∀i:I,(js t zs).getD i 0=t.getD i 0+(zs.count (i:H):H)|[],t,_,_,i=>by simp[js]|z::zs,t,h,ht,i=>by rw[Q.all_cons,ZK]at h;show(js (inc t z) zs).getD i 0=_;rw[yz h.2 (by rw[Dq,ht]),Ln h.1 ht,Q.count_cons];by_cases e:z=(i:H);{rw[Xh e,Xh (by simp[e])];omega};{rw[Xf e,Xf (by simp[e])];omega}
def iZ(t zs:Q H):Xj (Q H):=if cj t&&zs.all oH&&cj (js t zs)then V (js t zs)else U
def erO(o:Xj (Q H)):H:=if o.isSome then 0 else 2
def II{t zs:Q H}(h:cj t=J):iZ t zs=U:=by simp[iZ,h]
def TH{t zs:Q H}{k:I}(a:k<zs.length)(h:oH (zs.getD k 0)=J):iZ t zs=U:=by unfold iZ;rw[Xf];intro b;simp only[ZK]at b;have:=List.all_eq_true.1 b.1.2 zs[k] (Zu a);simp[YH,a,this]at h
def lk(zs:Q H)(z:H)(k:I):(zs.take k).count z≤zs.count z:=by have:zs.count z=(zs.take k).count z+(zs.drop k).count z:=by{rw[←Q.count_append,Zw]};omega
def Ql{t zs:Q H}{k:I}(b:t.length=258)(c:k<zs.length)(f:(zs.take k).all oH=O)(g:oH (zs.getD k 0)=O)(h:2147483647≤(js t (zs.take k)).getD (zs.getD k 0).toNat 0):iZ t zs=U:=by unfold iZ;rw[Xf];intro a;simp only[ZK]at a;have i:=sS.1 g;have d:=kx.1 a.2 (zs.getD k 0).toNat (by rw[sJ];omega);rw[yz a.1.2 b]at d;rw[yz f b]at h;have e:(((zs.getD k 0).toNat:I):H)=zs.getD k 0:=Za;rw[e]at d h;have j:=lk zs (zs.getD k 0) (k+1);have l:(zs.take (k+1)).count (zs.getD k 0)=(zs.take k).count (zs.getD k 0)+1:=by{rw[ZB,Zh c,Q.count_append];simp[YH,c]};omega
def tY{zs:Q H}{k:I}(a:k<zs.length):zs.take (k+1)=zs.take k++[zs.getD k 0]:=by rw[ZB,Zh a];simp[YH,a]
def GU{t zs:Q H}(a:cj t=O)(b:zs.all oH=O)(c:cj (js t zs)=O):iZ t zs=V (js t zs):=by simp[iZ,a,b,c]
def QX{t zs u:Q H}(h:iZ t zs=V u):cj t=O∧zs.all oH=O∧u=js t zs∧cj u=O:=by unfold iZ at h;split at h;{grind};{cases h}
end
end Go.Hs
namespace Go.Proofs.Q9
section
open Go Go.Vc
set_option maxRecDepth 100000
def uE.ok(a:(Xi Xe))(b:H)(R:(Xi Xe)→H→G→Prop) w(h:Nw 237 a w λd c=>Nw 172 ⟨Zj 258 (.int .u8 0)⟩ c λf e=>Ld (.arr 258) ⟨d,0,U⟩ e λg=>Cl Pg [kS] 211 ⟨[(.agg g)]⟩ e λ(i:Sl) h=>aO (λ(P:G)=>aa ((i.len:H)==1) (ay i 0 1 λb1=>Ld kI b1 P λ(c1:H)=>aK ⟨f,0,U⟩ 258 c1 1 λd1=>St d1 (.int .u8 1) P λW=>Ld (.arr 258) ⟨f,0,U⟩ W λf1=>aB 258 ⟨f,0,U⟩ f1 W λX=>Ld (.arr 258) ⟨f,0,U⟩ X λh1=>R h1 0 X) (Ld (.arr 258) ⟨d,0,U⟩ P λi1=>Cl Pg [kS] 213 ⟨[(.agg i1),(ah i)]⟩ P λ(k1:Sl) j1=>Nw 304 ⟨[(ah k1)]⟩ j1 λm1 l1=>dE (⟨V ⟨m1,0,U⟩,1,1⟩:Sl) 1 l1 λn1 Y(F:Sl)(I:H) S=>aa (K (I<b)) (dS S λL t1=>ay F 0 1 λu1=>aA kS u1 L λ(v1:Sl)=>ay F (i64 (I-1)) 1 λx1=>aA kS x1 L λ(y1:Sl)=>Cl Pg [kS] 214 ⟨[(ah v1),(ah y1)]⟩ t1 λ(a2:Sl) z1=>L z1∧Nw 304 ⟨[(ah a2)]⟩ z1 λc2 b2=>L b2∧au Pg (ZH #[306,306] 306 ⟨[(ah F),(ah (⟨V ⟨c2,0,U⟩,1,1⟩:Sl))]⟩) kS b2 λ(e2:Sl) T=>L T∧n1 e2 (i64 (I+1)) T∧Y e2 (i64 (I+1)) T<Y F I S) (dE (i64 ((i64 ((2:H)*(i.len:H)))-2)) (i64 (b-1)) S λf2 g2(M:H)(N:H) C=>aO (λ(r2:G)=>ay F N 1 λs2=>Ld kS s2 r2 λ(t2:Sl)=>cu t2 0 M (t2).cap 2 λu2=>dE 0 0 r2 λv2 Q(A:H)(B:H) D=>aa (K (B<(u2.len:H))) (ay u2 B 2 λb3=>Ld (.st [.int .i64,.bool]) b3 D λc3=>Nw 309 ⟨[(ni 0),(.bool J)]⟩ D λe3 d3=>ak ⟨e3,0,U⟩ [(ni c3.1),(.bool c3.2.1)] 0 d3 λE=>Ld kB (Zp ⟨e3,0,U⟩ 1) E λ(g3:Xg)=>aa g3 (ay i A 1 λh3=>Ld kI h3 E λ(i3:H)=>aK ⟨f,0,U⟩ 258 i3 1 λj3=>Ld (av .u8) j3 E λ(k3:H)=>aK ⟨f,0,U⟩ 258 i3 1 λl3=>St l3 (.int .u8 (u8 (k3+1))) E λm3=>v2 (i64 (A+1)) (i64 (B+1)) m3∧Q (i64 (A+1)) (i64 (B+1)) m3<Q A B D) (v2 A (i64 (B+1)) E∧Q A (i64 (B+1)) E<Q A B D)) (f2 (i64 ((2:H)*(i64 (M-A)))) (i64 (N-1)) D∧g2 (i64 ((2:H)*(i64 (M-A)))) (i64 (N-1)) D<g2 M N C)) λk2=>aa (K (N≥0)) (aa (K (M>0)) (k2 C) (Ld (.arr 258) ⟨f,0,U⟩ C λl2=>aB 258 ⟨f,0,U⟩ l2 C λm2=>Ld (.arr 258) ⟨f,0,U⟩ m2 λn2=>R n2 0 m2)) (Ld (.arr 258) ⟨f,0,U⟩ C λo2=>aB 258 ⟨f,0,U⟩ o2 C λp2=>Ld (.arr 258) ⟨f,0,U⟩ p2 λq2=>R q2 0 p2)))) λj=>Ld (.arr 258) ⟨d,0,U⟩ h λk=>Cl Pg [kB] 212 ⟨[(.agg k)]⟩ h λ(m:Xg) l=>aa (! m) (Ld (.arr 258) ⟨f,0,U⟩ l λn=>aB 258 ⟨f,0,U⟩ n l λo=>Ld (.arr 258) ⟨f,0,U⟩ o λp=>R p 2 o) (aa (K (b<1)) (Ld (.arr 258) ⟨f,0,U⟩ l λq=>aB 258 ⟨f,0,U⟩ q l λr=>Ld (.arr 258) ⟨f,0,U⟩ r λs=>R s 2 r) (aa (K (b>15)) (Ld (.arr 258) ⟨f,0,U⟩ l λt=>aB 258 ⟨f,0,U⟩ t l λu=>Ld (.arr 258) ⟨f,0,U⟩ u λv=>R v 2 u) (0≤(u64 b)∧aa (K ((i.len:H)>(bx .i64 (1:H) (u64 b)))) (Ld (.arr 258) ⟨f,0,U⟩ l λx=>aB 258 ⟨f,0,U⟩ x l λy=>Ld (.arr 258) ⟨f,0,U⟩ y λz=>R z 2 y) (j l))))):Cl Pg [(.arr 258),kI] 144 ⟨[(.agg a),(ni b)]⟩ w R:=co Tryz.f144 [(4,[]),(21,[(7,kS),(8,kI)]),(33,[(9,kI),(10,kI)]),(34,[]),(43,[(11,kI),(86,kI)])] h
def xr.ok(a:(Xi Xe))(R:Sl→G→Prop) w(h:Nw 237 a w λc b=>Ld (.arr 258) ⟨c,0,U⟩ b λd=>Cl Pg [kB] 212 ⟨[(.agg d)]⟩ b λ(f:Xg) e=>aa (! f) (R (⟨U,0,0⟩:Sl) e) (Ld (.arr 258) ⟨c,0,U⟩ e λg=>dE (⟨U,0,0⟩:Sl) 0 e λh i(j:Sl)(k:H) l=>aa (K (k<258)) (fL (.int .i64) g 258 k λ(m:H)=>aa (K (m>0)) (Nw 3 ⟨[(ni k)]⟩ l λo n=>au Pg (ZH #[25,25] 25 ⟨[(ah j),(ah (⟨V ⟨o,0,U⟩,1,1⟩:Sl))]⟩) kS n λ(q:Sl) p=>h q (i64 (k+1)) p∧i q (i64 (k+1)) p<i j k l) (h j (i64 (k+1)) l∧i j (i64 (k+1)) l<i j k l)) (Cl Pg [] 287 ⟨[(ah j),(.func (.func 288) ⟨[]⟩ ⟨[(.pointer (V ⟨c,0,U⟩))]⟩)]⟩ l λr=>R j r))):Cl Pg [kS] 211 ⟨[(.agg a)]⟩ w R:=co Tryz.f211 [(10,[(2,kS),(9,kI)])] h
def wV.ok(a:(Xi Xe))(R:Xg→G→Prop) w(h:Nw 237 a w λc b=>cu (⟨V ⟨c,0,U⟩,258,258⟩:Sl) 0 258 258 1 λd=>Cl Pg [kB] 61 ⟨[(ah d),(.func (.func 289) ⟨[]⟩ ⟨[]⟩)]⟩ b λ(f:Xg) e=>R (! f) e):Cl Pg [kB] 212 ⟨[(.agg a)]⟩ w R:=co Tryz.f212 [] h
def vY.ok(a:(Xi Xe))(b:Sl)(R:Sl→G→Prop) w(h:Nw 237 a w λd c=>dE (⟨U,0,0⟩:Sl) 0 c λe f(g:Sl)(h:H) i=>aa (K (h<(b.len:H))) (ay b h 1 λj=>Ld kI j i λ(k:H)=>aK ⟨d,0,U⟩ 258 k 1 λl=>Ld kI l i λ(m:H)=>Nw 309 ⟨[(ni m),(.bool O)]⟩ i λo n=>au Pg (ZH #[304,304] 304 ⟨[(ah g),(ah (⟨V ⟨o,0,U⟩,1,1⟩:Sl))]⟩) kS n λ(q:Sl) p=>e q (i64 (h+1)) p∧f q (i64 (h+1)) p<f g h i) (R g i)):Cl Pg [kS] 213 ⟨[(.agg a),(ah b)]⟩ w R:=co Tryz.f213 [(5,[(4,kS),(9,kI)])] h
def yL.ok(a:Sl)(b:Sl)(R:Sl→G→Prop) w(h:Jq (⟨U,0,0⟩:Sl) 0 0 w λc d(e:Sl)(f:H)(g:H) h=>aa (K ((i64 (g+1))<(b.len:H))) (dS h λi j=>ay b g 2 λk=>aA kI (k.add 0) i λ(l:H)=>ay b (i64 (g+1)) 2 λm=>aA kI (m.add 0) i λ(n:H)=>Nw 309 ⟨[(ni 0),(.bool J)]⟩ j λp o=>i o∧ak ⟨p,0,U⟩ [(ni (i64 (l+n))),(.bool J)] 0 o λq=>i q∧dE e f q λr s(t:Sl)(u:H) v=>aC v λx=>aa (K (u<(a.len:H))) (ay a u 2 λy=>Ld kI (y.add 0) x λ(z:H)=>Ld kI (Zp ⟨p,0,U⟩ 0) x λ(N:H)=>aa (K (z≤N)) (ay a u 2 λP=>Ld (.st [.int .i64,.bool]) P x λA=>Nw 309 ⟨[(ni A.1),(.bool A.2.1)]⟩ x λQ S=>au Pg (ZH #[304,304] 304 ⟨[(ah t),(ah (⟨V ⟨Q,0,U⟩,1,1⟩:Sl))]⟩) kS S λ(B:Sl) C=>r B (i64 (u+1)) C∧s B (i64 (u+1)) C<s t u v) (Ld (.st [.int .i64,.bool]) ⟨p,0,U⟩ x λD=>Nw 309 ⟨[(ni D.1),(.bool D.2.1)]⟩ x λT W=>au Pg (ZH #[304,304] 304 ⟨[(ah t),(ah (⟨V ⟨T,0,U⟩,1,1⟩:Sl))]⟩) kS W λ(E:Sl) F=>c E u (i64 (g+2)) F∧d E u (i64 (g+2)) F<d e f g h)) (Ld (.st [.int .i64,.bool]) ⟨p,0,U⟩ x λI=>Nw 309 ⟨[(ni I.1),(.bool I.2.1)]⟩ x λX Y=>au Pg (ZH #[304,304] 304 ⟨[(ah t),(ah (⟨V ⟨X,0,U⟩,1,1⟩:Sl))]⟩) kS Y λ(L:Sl) M=>c L u (i64 (g+2)) M∧d L u (i64 (g+2)) M<d e f g h)) (cu a f (a).len (a).cap 2 λr1=>au Pg (ZH #[304,304] 304 ⟨[(ah e),(ah r1)]⟩) kS h λ(t1:Sl) s1=>R t1 s1)):Cl Pg [kS] 214 ⟨[(ah a),(ah b)]⟩ w R:=co Tryz.f214 [(7,[(4,kS),(5,kI),(6,kI)]),(15,[(4,kS),(5,kI)])] h
def uF.ok(a:H)(b:H)(c:Xr)(R:H→G→Prop) w(h:aC w λd=>aK c 258 a 1 λe=>Ld kI e d λ(f:H)=>aK c 258 b 1 λg=>Ld kI g d λ(h:H)=>Cl Pg [kI] 256 ⟨[(ni f),(ni h)]⟩ d λ(j:H) i=>R j i):Cl Pg [kI] 288 ⟨[(ni a),(ni b),(.pointer (V c))]⟩ w R:=co Tryz.f288 [] h
def tJ.ok(a:H)(R:Xg→G→Prop) w(h:aa (K (a<0)) (R O w) (R (K (a>2147483647)) w)):Cl Pg [kB] 289 ⟨[(ni a)]⟩ w R:=co Tryz.f289 [] h
end
end Go.Proofs.Q9
namespace Go.Pm
section
abbrev It:=I×Xg
def om(l:Q It):I:=(l.map (·.1)).sum
def bO(l:Q It):I:=(l.filter (·.2)).length
def Up(l:Q It):Prop:=l.Pairwise λa b=>a.1≤b.1
def bW:Q It→Q It|a::b::l=>(a.1+b.1,J)::bW l|_=>[]
def jH(A:Q It):Q It→Q It|[]=>A|p::B=>A.takeWhile (λa=>decide (a.1≤p.1))++p::jH (A.dropWhile λa=>decide (a.1≤p.1)) B
def CT{A:Q It}:jH A []=A:=Z
def tk:∀{B:Q It},jH [] B=B|[]=>rfl|p::B=>by simp[jH,tk]
def Hu{a p:It}{A B:Q It}(h:a.1≤p.1):jH (a::A) (p::B)=a::jH A (p::B):=by simp[jH,h]
def JB{a p:It}{A B:Q It}(h:¬a.1≤p.1):jH (a::A) (p::B)=p::jH (a::A) B:=by simp[jH,h]
def yc{P:Q It→Q It→Prop}(b:∀B,P [] B)(c:∀a A,P (a::A) [])(d:∀a A p B,a.1≤p.1→P A (p::B)→P (a::A) (p::B))(e:∀a A p B,¬a.1≤p.1→P (a::A) B→P (a::A) (p::B)):∀A B,P A B|[],B=>b B|a::A,[]=>c a A|a::A,p::B=>if h:a.1≤p.1 then d a A p B h (yc b c d e A (p::B))else e a A p B h (yc b c d e (a::A) B)
def IF:∀A B,(jH A B).Perm (A++B):=by refine yc (λB=>by rw[tk];exact .refl _) (λa A=>by rw[CT];simp) (λa A p B h b=>?_) λa A p B h b=>?_;{rw[Hu h];exact b.cons a};{rw[JB h];exact(b.cons p).trans (List.perm_middle.symm)}
def Lp(A B:Q It):(jH A B).length=A.length+B.length:=by rw[(IF A B).length_eq,Zg]
def Mu:∀A B,Up A→∀m,m≤A.length+B.length→∃a b,a+b=m∧a≤A.length∧b≤B.length∧((jH A B).take m).Perm (A.take a++B.take b)∧∀x∈B.take b,∀y∈A.drop a,x.1<y.1:=by refine yc (λB _ m c=>?_) (λa A _ m c=>?_) (λa A p B h g e m c=>?_) λa A p B h g e m c=>?_;{exact⟨0,m,Za,Zy _,by simpa using c,by rw[tk];simp,Zd⟩};{exact⟨m,0,rfl,by simpa using c,Zy _,by rw[CT];simp,Zd⟩};{cases m with|zero=>exact⟨0,0,rfl,Yd _,Yd _,Zd,Zd⟩|succ m=>obtain⟨x,y,n,i,j,k,l⟩:=g (List.pairwise_cons.1 e).2 m (by simp at c⊢;omega);refine⟨x+1,y,Za,by simpa using i,j,?_,by simpa using l⟩;rw[Hu h,Yh,Yh];exact k.cons a};{cases m with|zero=>exact⟨0,0,rfl,Yd _,Yd _,Zd,Zd⟩|succ m=>obtain⟨x,y,n,i,j,k,l⟩:=g e m (by simp at c⊢;omega);refine⟨x,y+1,Za,i,by simpa using j,?_,?_⟩;{rw[JB h,Yh,Yh];exact(k.cons p).trans List.perm_middle.symm};{intro u f v d;rw[Yh]at f;(rcases List.mem_cons.1 f with rfl|f);{have d:v∈a::A:=YJ d;(rcases List.mem_cons.1 d with rfl|d);{omega};{have:=(List.pairwise_cons.1 e).1 v d;omega}};{exact l u f v d}}}
def Aa(a:It)(l:Q It):om (a::l)=a.1+om l:=by simp[om]
def ON(l a:Q It):om (l++a)=om l+om a:=by simp[om]
def SG{l a:Q It}(h:l.Perm a):om l=om a:=(h.map _).sum_nat
def p8(l a:Q It):bO (l++a)=bO l+bO a:=by simp[bO]
def CD{l a:Q It}(h:l.Perm a):bO l=bO a:=(h.filter _).length_eq
def gT:∀l:Q It,(bW l).length=l.length/2|[]=>rfl|[_]=>by simp[bW]|_::_::l=>by simp only[bW,Zk,gT l];omega
def vh:∀(l:Q It)(x:It),x∈bW l→x.2=J|[],_,h=>by simp[bW]at h|[_],_,h=>by simp[bW]at h|a::b::l,x,h=>by rw[bW]at h;(rcases List.mem_cons.1 h with rfl|h);{rfl};{exact vh l x h}
def A7:∀(l:Q It)(b:I),2*b≤l.length→om ((bW l).take b)=om (l.take (2*b))|_,0,_=>by simp[om]|[],b+1,h=>by simp at h|[_],b+1,h=>by simp only[ZL]at h;omega|x::y::l,b+1,h=>by rw[bW,Yh,Aa,show 2*(b+1)=(2*b+1)+1 by omega,Yh,Yh,Aa,Aa,A7 l b (by simp only[Zk]at h;omega)];omega
def HJ:∀(l:Q It)(b:I)(x:It),2*b≤l.length→x∈l.take (2*b)→∃p∈(bW l).take b,x.1≤p.1|_,0,_,_,h=>by simp at h|[],b+1,_,h,_=>by simp at h|[_],b+1,_,h,_=>by simp only[ZL]at h;omega|u::v::l,b+1,x,h,a=>by rw[show 2*(b+1)=(2*b+1)+1 by omega,Yh,Yh]at a;rw[bW,Yh];(rcases List.mem_cons.1 a with rfl|a);{exact⟨_,ZJ,Zd⟩};{(rcases List.mem_cons.1 a with rfl|a);{exact⟨_,ZJ,Zd⟩};{obtain⟨p,c,d⟩:=HJ l b x (by simp only[Zk]at h;omega) a;exact⟨p,Zv _ c,d⟩}}
def kG(a:Q I):Q It:=a.map λw=>(w,O)
def row(a:Q I):I→Q It|0=>kG a|k+1=>jH (kG a) (bW (row a k))
def wo(a:Q I):Prop:=a.Pairwise (·≤·)
def PK{a:Q I}(h:wo a):Up (kG a):=Q.Pairwise.map _ (λ_ _ h=>h) h
def fB(a:Q I):(kG a).length=a.length:=Zq _
def iu(a:Q I)(k:I):(row a (k+1)).length=a.length+(row a k).length/2:=by rw[row,Lp,fB,gT]
def Lw(a:Q I):om (kG a)=a.sum:=by unfold om kG;rw[YK];congr 1;exact Q.map_id _
def ns(b:Q I)(a:I):(kG b).take a=kG (b.take a):=List.map_take.symm
def xf(a:Q I):bO (kG a)=a.length:=by unfold bO kG;rw[List.filter_eq_self.2];{simp};{grind}
def G4{l:Q It}(h:∀x∈l,x.2=J):bO l=0:=by unfold bO;rw[Q.length_eq_zero_iff,Q.filter_eq_nil_iff];intro x a;simp[h x a]
def Bo{ws:Q I}:∀k,ws.length≤2^(k+1)→2*ws.length-2≤(row ws k).length:=by have a:∀k c,2^k*c≥ws.length→1≤c→2*ws.length≤(row ws k).length+c:=by{intro k;induction k with|zero=>intro c h _;simp only[row,fB];omega|succ k b=>intro c h d;have:=b (2*c) Ze Za;rw[iu];omega};intro k h;have:=a k 2 Ze Za;omega
def pf{c:Q I}(h:wo c)(k m:I)(j:m≤(row c (k+1)).length):bO ((row c (k+1)).take m)≤m∧bO ((row c (k+1)).take m)≤c.length∧2*(m-bO ((row c (k+1)).take m))≤(row c k).length∧om ((row c (k+1)).take m)=(c.take (bO ((row c (k+1)).take m))).sum+om ((row c k).take (2*(m-bO ((row c (k+1)).take m))))∧(∀x∈(row c k).take (2*(m-bO ((row c (k+1)).take m))),∀y∈c.drop (bO ((row c (k+1)).take m)),x.1<y):=by have l:=iu c k;obtain⟨a,b,t,g,n,i,o⟩:=Mu (kG c) (bW (row c k)) (PK h) m (by rw[fB,gT,←l];exact j);rw[fB]at g;rw[gT]at n;have d:bO ((row c (k+1)).take m)=a:=by{rw[row,CD i,p8,ns,xf,G4 λx e=>vh _ x (Yi e),Zz];omega};rw[d];have q:m-a=b:=Za;rw[q];refine⟨Za,g,Za,?_,?_⟩;{rw[row,SG i,ON,ns,Lw,A7 _ _ Za]};{intro x e y r;obtain⟨p,s,f⟩:=HJ _ _ _ Za e;have:=o p s (y,O) (by unfold kG;rw[←Q.map_drop];exact Q.mem_map_of_mem r);exact I.lt_of_le_of_lt f this}
def zY{ws:Q I}(m:I)(a:m≤ws.length):bO ((row ws 0).take m)=m∧om ((row ws 0).take m)=(ws.take m).sum:=by rw[row,ns];exact⟨by rw[xf,Zz];omega,Lw _⟩
def whole(a:Q I)(k m:I):I:=bO ((row a k).take m)
def lv(a:Q I):I→I→I→I|0,m,i=>if i<whole a 0 m then 1 else 0|k+1,m,i=>(if i<whole a (k+1) m then 1 else 0)+lv a k (2*(m-whole a (k+1) m)) i
def nested{ws:Q I}(h:wo ws)(k m:I)(p:m≤(row ws (k+1)).length):whole ws k (2*(m-whole ws (k+1) m))≤whole ws (k+1) m:=by obtain⟨q,r,c,s,l⟩:=pf h k m p;generalize n:whole ws (k+1) m=a;unfold whole at n;rw[n]at q r c s l;(rcases Yg a (whole ws k (2*(m-a)))with e|f);{exfalso;have d:∀i,i<whole ws k (2*(m-a))→∃(b:i<ws.length),(ws[i],O)∈(row ws k).take (2*(m-a)):=by{cases k with|zero=>intro i b;have t:=zY (ws:=ws) (2*(m-a)) (by rw[row,fB]at c;exact c);unfold whole at b;rw[t.1]at b;rw[row,fB]at c;refine⟨Za,?_⟩;rw[row,ns];unfold kG;refine Q.mem_map_of_mem ?_;rw[Q.mem_iff_getElem];exact⟨i,by rw[Zz];omega,Zd⟩|succ k=>intro i b;obtain⟨u,w,y,v,z,o,A⟩:=Mu (kG ws) (bW (row ws k)) (PK h) (2*(m-a)) (by rw[fB,gT,←iu];exact c);rw[fB]at v;have g:whole ws (k+1) (2*(m-a))=u:=by{unfold whole;rw[row,CD o,p8,ns,xf,G4 λx j=>vh _ x (Yi j),Zz];omega};rw[g]at b;refine⟨Za,?_⟩;rw[row,o.mem_iff,YQ];left;rw[ns];unfold kG;refine Q.mem_map_of_mem ?_;rw[Q.mem_iff_getElem];exact⟨i,by rw[Zz];omega,Zd⟩};obtain⟨b,j⟩:=d a e;have:=l _ j ws[a] (by rw[Q.mem_iff_getElem];exact⟨0,by rw[ZD];omega,Zd⟩);simp at this};{exact f}
def Df{a:Q I}(h:wo a):∀(k m i:I),m≤(row a k).length→whole a k m≤i→lv a k m i=0|0,m,i,_,c=>by unfold lv;rw[Xf Za]|k+1,m,i,b,c=>by have d:=nested h k m b;unfold lv;rw[Xf Za,Zl];exact Df h k _ i (pf h k m b).2.2.1 Za
def Gh(a:Q I):∀(k m i:I),lv a k m i≤k+1|0,m,i=>by unfold lv;split<;>omega|k+1,m,i=>by have:=Gh a k (2*(m-whole a (k+1) m)) i;unfold lv;split<;>omega
def over(n:I)(f:I→I):I:=((Zt n).map f).sum
def gN(n:I)(f:I→I):over (n+1) f=over n f+f n:=by unfold over;rw[YP,ZF,YO];simp
def HO(n:I)(f g:I→I):over n (λi=>f i+g i)=over n f+over n g:=by induction n with|zero=>rfl|succ n a=>rw[gN,gN,gN,a];omega
def oV{n:I}{f g:I→I}(h:∀i,i<n→f i=g i):over n f=over n g:=by unfold over;congr 1;exact Z2 λi a=>h i (List.mem_range.1 a)
def NH(n c:I):over n (λ_=>c)=n*c:=by induction n with|zero=>simp[over]|succ n a=>rw[gN,a,Yb]
def TL(n c:I)(f:I→I):over n (λi=>c*f i)=c*over n f:=by induction n with|zero=>rfl|succ n a=>rw[gN,gN,a,I.mul_add]
def Cg(n a:I)(d:a≤n)(c:I):over n (λi=>(if i<a then 1 else 0)*c)=a*c:=by have b:∀n,over n (λi=>(if i<a then 1 else 0)*c)=XO n a*c:=by{intro n;induction n with|zero=>simp[over]|succ n e=>rw[gN,e];by_cases hna:n<a;{grind};{grind}};rw[b,I.min_eq_right d]
def lw(a:Q I):I→I→I→I|0,m,i=>if i<whole a 0 m then 1 else 0|k+1,m,i=>(if i<whole a (k+1) m then 1 else 0)*2^(k+1)+lw a k (2*(m-whole a (k+1) m)) i
def Qc{ws:Q I}(h:wo ws):∀(k m:I),m≤(row ws k).length→over ws.length (lw ws k m)=m*2^k|0,m,b=>by have a:m≤ws.length:=by{rw[row,fB]at b;exact b};have e:=zY (ws:=ws) m a;have:=Cg ws.length m a 1;have d:over ws.length (lw ws 0 m)=over ws.length (λi=>(if i<m then 1 else 0)*1):=oV λi _=>by{unfold lw whole;rw[e.1,ZE]};rw[d,this]|k+1,m,b=>by obtain⟨f,g,j,o,p⟩:=pf h k m b;have l:=Qc h k (2*(m-whole ws (k+1) m)) j;have e:over ws.length (lw ws (k+1) m)=over ws.length (λi=>(if i<whole ws (k+1) m then 1 else 0)*2^(k+1)+lw ws k (2*(m-whole ws (k+1) m)) i):=Z;have n:whole ws (k+1) m≤m:=f;have c:whole ws (k+1) m≤ws.length:=g;rw[e,HO,Cg _ _ c,l,Yk 2,I.mul_assoc,←I.pow_succ',←YY];congr 1;omega
def UY{a:Q I}(h:wo a):∀(k m i:I),m≤(row a k).length→lw a k m i+2^(k+1-lv a k m i)=2^(k+1)|0,m,i,_=>by unfold lw lv;split<;>rfl|k+1,m,i,b=>by have c:=(pf h k m b).2.2.1;have d:=UY h k (2*(m-whole a (k+1) m)) i c;have e:=Gh a k (2*(m-whole a (k+1) m)) i;have g:=YC (n:=2) (m:=k+1);unfold lw lv;by_cases hi:i<whole a (k+1) m;{rw[Xh hi,I.one_mul,show k+1+1-(1+lv a k (2*(m-whole a (k+1) m)) i)=k+1-lv a k (2*(m-whole a (k+1) m)) i by omega];omega};{have j:=nested h k m b;have f:=Df h k (2*(m-whole a (k+1) m)) i c Za;rw[f]at d⊢;rw[Xf hi];simp only[I.zero_mul,Zl,YZ]at d⊢;omega}
def Hy{ws:Q I}(h:wo ws)(k:I)(e:2≤ws.length)(b:ws.length≤2^(k+1)):over ws.length (λi=>2^(k+1-lv ws k (2*ws.length-2) i))=2^(k+1):=by have a:=Bo (ws:=ws) k b;have c:=Qc h k _ a;have d:=HO ws.length (lw ws k (2*ws.length-2)) λi=>2^(k+1-lv ws k (2*ws.length-2) i);rw[oV (g:=λ_=>2^(k+1)) λi _=>UY h k _ i a,NH,c]at d;have f:(2*ws.length-2)*2^k+2^(k+1)=ws.length*2^(k+1):=by{have:2*ws.length-2=2*(ws.length-1):=by{omega};rw[this,Yk 2,I.mul_assoc,←I.pow_succ'];have:ws.length=ws.length-1+1:=by{omega};conv=>rhs;rw[this,Yb]};omega
def KR{n:I}{f:I→I}{i:I}(a:i<n):f i≤over n f:=by induction n with|zero=>omega|succ n b=>rw[gN];by_cases h:i=n;{subst h;omega};{grind}
def Is{n:I}{f:I→I}{i j:I}(b:i<n)(c:j<n)(a:i<j):f i+f j≤over n f:=by induction n with|zero=>omega|succ n d=>rw[gN];by_cases h:j=n;{subst h;have:=KR (f:=f) a;omega};{grind}
def aai{a:Q I}(h:wo a)(k:I)(g:2≤a.length)(l:a.length≤2^(k+1)){i:I}(c:i<a.length):1≤lv a k (2*a.length-2) i:=by have m:=Hy h k g l;(rcases Z9 (lv a k (2*a.length-2) i)with b|b);{exfalso;have d:∀j,0<2^(k+1-lv a k (2*a.length-2) j):=λj=>Ym _;have e:2^(k+1-lv a k (2*a.length-2) i)=2^(k+1):=by{rw[b,YZ]};by_cases hi0:i=0;{subst hi0;have:=Is (f:=λi=>2^(k+1-lv a k (2*a.length-2) i)) c (show 1<a.length by omega) Za;have:=d 1;omega};{have:=Is (f:=λi=>2^(k+1-lv a k (2*a.length-2) i)) (show 0<a.length by omega) c Za;have:=d 0;omega}};{exact b}
def width(S:I→Q I):I→I|0=>(S 0).length|k+1=>(S (k+1)).length*2^(k+1)+width S k
def lenOf(a:Q I)(L i:I):I:=if a.length=1 then 1 else lv a (L-1) (2*a.length-2) i
def TW{a:Q I}{L:I}(b:wo a)(e:1≤L)(c:a.length≤2^L){i:I}(d:i<a.length):1≤lenOf a L i∧lenOf a L i≤L:=by unfold lenOf;split;{grind};{obtain⟨K,rfl⟩:∃K,L=K+1:=⟨L-1,Za⟩;exact⟨aai b K Za c d,Gh ..⟩}
end
end Go.Pm
namespace Go.Srt
section
def cj(t:Q H):Xg:=t.all λx=>decide (0≤x)&&K (x≤2147483647)
def rO(l:Q I):Prop:=∀x∈l,x≤2147483647
def br(l a:Q I):Q I:=a.map λs=>l.getD s 0
end
end Go.Srt
namespace Go.Proofs.Q9
section
open Go Go.Vc Go.Srt Go.Pm
section
variable{E w:G}{F:Q HP}
def aT(t:Q H):Xi Xe:=⟨t.map vI⟩
theorem fT{t:Q H}:(aT t).size=t.length:=by simp[aT]
theorem IW{t:Q H}{i:I}(h:i<t.length):(aT t)[i]?=V (Sc.enc (.int .i64) t[i]):=by simp[aT,h,vI]
theorem MP{l:Q I}:aT (ints l)=ai .i64 l:=by unfold aT ints ai;rw[YK];rfl
theorem Oy{t:Q H}(h:cj t=O):∃l:Q I,t=ints l∧rO l:=by have h:=List.all_eq_true.1 h;have b:∀x∈t,0≤x∧x≤2147483647:=λx a=>by{have:=h x a;simpa using this};refine⟨t.map H.toNat,?_,λy c=>?_⟩;{unfold ints;rw[YK];refine(Q.map_id t).symm.trans (Z2 λx a=>?_);have:=b x a;simp;omega};{grind}
theorem uj{l:Q I}(h:rO l):cj (ints l)=O:=by refine List.all_eq_true.2 λx a=>?_;obtain⟨y,b,rfl⟩:=List.mem_map.1 a;have:=h y b;simp;omega
theorem ji{l:Q I}:(ints l).length=l.length:=Zq _
theorem adH{x:H}{K:Xg→G→Prop}(a:K (!(decide (0≤x)&&XE (x≤2147483647))) w):dj Zf (.func (.func 289) ⟨[]⟩ ⟨[]⟩) [kB] [.int .i64 x] w K:=by refine dj.mk Zc (tJ.ok x K w ?_);refine aa.mk (λh=>?_) λh=>?_;{grind};{have h:=Xm h;have e:(!(decide (0≤x)&&XE (x≤2147483647)))=XE (x>2147483647):=by{grind};rw[e]at a;exact a}
theorem xN{t:Q H}{K:Xg→G→Prop}(h:Hp E w F)(p:t.length=258)(j:∀w',Hp E w' F→K (cj t) w'):Cl Zf [kB] 212 ⟨[.agg (aT t)]⟩ w K:=by refine wV.ok _ _ _ ?_;refine Nw.mk h λb r m=>?_;refine cu.whole Zb Z Z ?_;refine iR.ok _ _ _ _ ?_;refine jV.ok _ _ _ _ ?_;refine⟨λi w'=>∃k:I,i=(k:H)∧k≤258∧cj (t.take k)=O∧Hp E w' (ag b (.cells (aT t) 237 (0,0))::F),λi _=>258-i.toNat,⟨0,Z,Za,Z,m⟩,?_⟩;rintro i w' ⟨k,rfl,hk,hv,hh⟩;refine aa.mk (λd=>?_) λc=>?_;{have d:k<258:=by{have:=Xo d;simp only at this;omega};have e:k<t.length:=by{omega};have f:aI 1 ⟨V ⟨b,0,U⟩,258,258⟩ (t.map vI) w':=hh.an (ad.ax (by simp[aT]) Ze);refine ay.rd f Za Ze λq u n=>Ld.sc (s:=.int .i64) t[k] (by rw[n];simp[vI]) (adH ?_);have l:cj (t.take (k+1))=(cj (t.take k)&&(decide (0≤t[k])&&XE (t[k]≤2147483647))):=by{unfold cj;rw[ZB,Q.all_append,Zh e];simp};rw[hv,Xg.true_and]at l;rw[←l];refine aa.mk (λa=>?_) λa=>?_;{have a:cj (t.take (k+1))=J:=by{simpa using a};have o:cj t=J:=by{have:=Zw (k+1) t;rw[←this];unfold cj at a⊢;rw[Q.all_append,a,Xg.false_and]};have g:XE ((k:H)≥0)=O:=by{simp};show K (! XE ((k:H)≥0)) w';rw[g];have:=j w' hh.drop;rw[o]at this;exact this};{have a:cj (t.take (k+1))=O:=by{simpa using a};rw[ae Za];exact⟨⟨k+1,Z,Za,a,hh⟩,by dsimp only;omega⟩}};{have c:k=258:=by{have:=Xm c;simp only at this;omega};subst c;have g:XE ((-1:H)≥0)=J:=by{decide};show K (! XE ((-1:H)≥0)) w';rw[g];have:=j w' hh.drop;rw[Zx Za]at hv;rw[hv]at this;exact this}
theorem T9{x y:H}{K:H→G→Prop}(a:∀z:H,(z<0↔x<y)→K z w):Cl Zf [kI] 256 ⟨[.int .i64 x,.int .i64 y]⟩ w K:=by refine cmp_Compare_int.ok _ _ _ _ ?_;refine cmp_isNaN_int.ok _ _ _ (cmp_isNaN_int.ok _ _ _ ?_);refine aa.f Zd (aa.f Zd (aa.mk (λh=>a _ ?_) λh=>aa.mk (λb=>a _ ?_) λb=>a _ ?_));{grind};{have:=Xm h;omega};{have:=Xm h;omega}
theorem UT{l:Q I}{i:I}{k:Xy}(h:i<l.length):(ai k l)[i]?=V (Sc.enc (.int k) (l.getD i 0:H)):=by rw[jr h,Zo,Zh h];rfl
theorem ad4{l:Q I}{b:I}{t:Xn}(j:l.length=258):yj E (ag b (.cells (ai .i64 l) t (0,0))::F) (.func (.func 288) ⟨[]⟩ ⟨[.pointer (V ⟨b,0,U⟩)]⟩) (AJ l) (λx=>0≤x∧x<258):=by rintro A w y x K h ⟨c,k⟩ ⟨d,m⟩ f;refine dj.mk Zc ?_;refine uF.ok y x ⟨b,0,U⟩ K w ?_;refine aC.mk h λg e=>?_;have a:=e.perm ZW;refine aK.rd (s:=.int .i64) a d Za _ (UT Za) ?_;refine aK.rd (s:=.int .i64) a c Za _ (UT Za) ?_;refine T9 λz i=>f z g ?_ e;rw[i];rfl
theorem Qq{t:Q H}{K:Sl→G→Prop}(h:Hp E w F)(f:t.length=258)(v:cj t=J→∀w',Hp E w' F→K ⟨U,0,0⟩ w')(z:∀l,t=ints l→rO l→l.length=258→∀ys s w',da l ys→Hp E w' (ao 1 s ((ints ys).map vI)::F)→K s w'):Cl Zf [kS] 211 ⟨[.agg (aT t)]⟩ w K:=by refine xr.ok _ _ _ ?_;refine Nw.mk h λb w1 C=>Ld.arr C (by rw[fT,f]) (xN C f λN q=>?_);refine aa.mk (λr=>v Ze N q.drop) λr=>?_;have r:cj t=O:=by{simpa using r};obtain⟨l,rfl,P⟩:=Oy r;rw[ji]at f;rw[MP]at q;refine Ld.arr q (by rw[bq,f]) ?_;refine⟨λo i w'=>∃k:I,i=(k:H)∧k≤258∧Hp E w' (ao 1 o ((ints (iH l k)).map vI)::ag b (.cells (ai .i64 l) 237 (0,0))::F),λ_ i _=>258-i.toNat,⟨0,rfl,Za,q.aU 1⟩,?_⟩;intro o i w' R;obtain⟨k,S,hk,u⟩:=R;subst S;refine aa.mk (λj=>?_) λg=>?_;{have j:k<258:=by{have:=Xo j;omega};have A:k<l.length:=by{omega};refine fL.rd (s:=.int .i64) Za Za _ (Tq A) ?_;refine aa.mk (λc=>?_) λc=>?_;{have c:0<l.getD k 0:=by{have:=Xo c;omega};refine Nw.mk u λT L m=>?_;have W:=u.aV;have hu:=oQ l k;simp only[Zq,ints,ZE]at W;refine bg (ys:=[vI (k:H)]) (n:=1) mW Zb (.inl ⟨3,Zc⟩) m.p1 (.inl ⟨V ⟨T,0,U⟩,1,1,rfl,rfl,m.an (ad.ax rfl rfl)⟩) rfl Cr Za Za λs' w4 X Y=>?_;rw[ae Za];refine⟨⟨k+1,rfl,Za,?_⟩,by dsimp only;omega⟩;rw[nN,Xh c,IE,ZF];exact X.p1.drop};{have c:¬0<l.getD k 0:=by{have:=Xm c;omega};rw[ae Za];refine⟨⟨k+1,rfl,Za,?_⟩,by dsimp only;omega⟩;rw[nN,Xf c,ZG];exact u}};{have g:k=258:=by{have:=Xm g;omega};subst g;have B:∀x∈iH l 258,x<258:=λx p=>by{have:=(List.mem_filter.1 p).1;simpa using this};refine xW (key:=AJ l) (D:=λx=>0≤x∧x<258) u (by have:=oQ l 258;rw[aL];simp only[ints,Zq];omega) (ad4 f) (λx p=>?_) ?_ λys L c M m=>?_;{obtain⟨y,hy,rfl⟩:=List.mem_map.1 p;have:=B y hy;omega};{unfold ints;refine Q.Pairwise.map _ (λa b d=>Int.ofNat_lt.2 d) ?_;exact Q.Pairwise.filter _ Q.pairwise_lt_range};{have hU:iH l 258=used l:=by{unfold iH used;rw[f]};rw[hU]at c;have e:ys=ints (ys.map H.toNat):=by{unfold ints;rw[YK];refine(Q.map_id ys).symm.trans (Z2 λx p=>?_);obtain⟨y,_,rfl⟩:=List.mem_map.1 (c.mem_iff.1 p);simp};have pN:(ys.map H.toNat).Perm (used l):=by{have:=c.map H.toNat;refine this.trans ?_;unfold ints;rw[YK];refine Q.Perm.of_eq ((Z2 λx _=>?_).trans (Q.map_id _));simp};rw[e]at m M;refine z l rfl P f (ys.map H.toNat) _ L ⟨pN,?_⟩ m.p1.drop;refine(List.pairwise_map.1 M).imp λ{a b} d=>?_;unfold Ky AJ at d;simp only[Zn]at d;omega}}
def iv(x:It):Q Xe:=[.int .i64 (x.1:H),.bool x.2]
theorem eY:∀x,(iv x).length=2:=λ_=>rfl
theorem pQ:∀x,∀y∈iv x,aD y=O:=by intro x y a;simp only[iv,YT,Q.not_mem_nil,or_false]at a;rcases a with rfl|rfl<;>rfl
theorem oe:cF Zf 304 309 2 16:=cF.of Zc Zc
theorem SH{a:Q I}{k:I}(h:k<a.length):kG (a.take (k+1))=kG (a.take k)++[(a[k],O)]:=by unfold kG;rw[ZB,ZF,Zh h];rfl
theorem RD{s:Sl}{a:Q I}{i:I}{K:H→Prop}(b:aI 1 s ((ints a).map vI) w)(f:i<a.length)(c:K (a[i]:H)):ay s (i:H) 1 λq=>Ld kI q w K:=by have d:=b.1;simp only[Zq,ints,ZE]at d;refine ay.rd b Za Za λq g e=>Ld.sc (s:=.int .i64) (a[i]:H) ?_ c;rw[e];simp[vI,ints]
theorem RS{l a:Q I}{s:Sl}{K:Sl→G→Prop}(h:Hp E w F)(v:l.length=258)(m:ad F (aI 1 s ((ints a).map vI)))(e:∀x∈a,x<258)(n:a.length≤258)(p:∀f w',Hp E w' (ao 2 f ((kG (br l a)).flatMap iv)::F)→K f w'):Cl Zf [kS] 213 ⟨[.agg (ai .i64 l),.slice s.base s.len s.cap]⟩ w K:=by refine vY.ok _ _ _ _ ?_;have j:=(h.an m).1;simp only[Zq,ints,ZE]at j;have q:(br l a).length=a.length:=Zq _;refine Nw.mk h λb y r=>⟨λo i w'=>∃k:I,i=(k:H)∧k≤a.length∧Hp E w' (ao 2 o ((kG ((br l a).take k)).flatMap iv)::ag b (.cells (ai .i64 l) 237 (0,0))::F),λ_ i _=>a.length-i.toNat,⟨0,Z,Za,by simpa[kG]using r.aU 2⟩,?_⟩;rintro o i w' ⟨k,rfl,hk,hh⟩;refine aa.mk (λc=>?_) λd=>?_;{have c:k<a.length:=by{have:=Xo c;omega};have z:=e _ (Zu c);refine RD (hh.drop.drop.an m) c ?_;refine aK.rd (s:=.int .i64) hh.p1 Za Za _ (Tq Za) ?_;have t:(br l a)[k]' Za=l.getD a[k] 0:=by{simp[br]};refine xi (g:=iv) (x:=(l.getD a[k] 0,O)) oe eY Zb Z (pQ _) hh (by rw[fB,Zz];omega) (by rw[fB,Zz];omega) λf A u _=>?_;rw[ae Za];refine⟨⟨k+1,Z,Za,?_⟩,by dsimp only;omega⟩;rw[SH Za,t];exact u};{have d:k=a.length:=by{have:=Xm d;omega};subst d;rw[Zx Za]at hh;exact p _ _ hh.p1.drop}
end
end
end Go.Proofs.Q9
namespace Go.Srt
section
def ic(a:Q I)(f:I→I):Q I:=(Zt 258).map λs=>if s∈a then f (a.idxOf s)else 0
def jB(a:Q I)(f:I→I):(ic a f).length=258:=by simp[ic]
def Pp{a:Q I}{f:I→I}{s:I}(b:s<258):(ic a f).getD s 0=if s∈a then f (a.idxOf s)else 0:=by unfold ic;rw[Zo,Z0,Yz b];rfl
def AW:∀{a:Q I}(_:a.Nodup){i:I}(d:i<a.length),a.idxOf a[i]=i|y::a,h,0,_=>by simp[Q.idxOf_cons]|y::a,h,i+1,d=>by obtain⟨f,g⟩:=List.nodup_cons.1 h;have b:i<a.length:=by{simpa using d};have c:¬y=a[i]:=λe=>f (e▸Zu b);have:=AW g b;have e:(y==a[i])=J:=by{simpa using c};simp only[Xb,Q.idxOf_cons,this,e,cond_false]
def DN{a:Q I}{f:I→I}(d:a.Nodup)(b:∀s∈a,s<258){i:I}(c:i<a.length):(ic a f).getD a[i] 0=f i:=by rw[Pp (b _ (Zu c)),Xh (Zu c),AW d c]
def xK{a:Q I}{f g:I→I}(h:∀i,i<a.length→f i=g i):ic a f=ic a g:=by unfold ic;refine Z2 λs _=>?_;by_cases hs:s∈a;{grind};{grind}
def K8{a:Q I}{f:I→I}{i v:I}(c:a.Nodup)(d:i<a.length):(ic a f).set a[i] v=ic a (λj=>if j=i then v else f j):=by refine YS (by simp[ic]) λs g b=>?_;have h:s<258:=by{rw[jB]at b;exact b};rw[Q.getElem_set];unfold ic;simp only[Q.getElem_map,Q.getElem_range];by_cases e:a[i]=s;{grind};{grind}
def S9(a:Q I):ic a (λ_=>0)=Zj 258 0:=by refine List.eq_replicate_iff.2 ⟨jB ..,λx b=>?_⟩;obtain⟨s,_,rfl⟩:=List.mem_map.1 b;split<;>rfl
def xh{l c:Q I}(h:da l c):c.Nodup:=h.2.imp λ{a b} d e=>by subst e;omega
def DY{l d:Q I}(h:da l d):Pm.wo (br l d):=Q.Pairwise.map _ (λ_ _ c=>c) (h.2.imp λ{a b} c=>Za)
end
end Go.Srt
namespace Go.Proofs.Q9
section
open Go Go.Vc Go.Srt Go.Pm
section
variable{E w:G}{F:Q HP}
theorem TR{R:Q It}{j:I}(h:2*j+1<R.length):bW (R.drop (2*j))=((R[2*j]' Za).1+R[2*j+1].1,J)::bW (R.drop (2*(j+1))):=by rw[ZA (show 2*j<R.length by omega),ZA (show 2*j+1<R.length by omega),bW];rfl
theorem PZ{R:Q It}{j:I}(h:¬2*j+1<R.length):bW (R.drop (2*j))=[]:=by have:(bW (R.drop (2*j))).length=0:=by{rw[gT,ZD];omega};exact List.length_eq_zero_iff.1 this
theorem aaJ{y P:Sl}{A R:Q It}{K:Sl→G→Prop}(h:Hp E w F)(S:ad F (aI 2 y (A.flatMap iv)))(T:ad F (aI 2 P (R.flatMap iv)))(hcap:y.len≤y.cap)(hb:∀x∈R,x.1≤2^60)(hlA:A.length≤2^20)(hlR:R.length≤2^20)(hK:∀z w',Hp E w' (ao 2 z ((jH A (bW R)).flatMap iv)::F)→K z w'):Cl Zf [kS] 214 ⟨[.slice y.base y.len y.cap,.slice P.base P.len P.cap]⟩ w K:=by refine yL.ok _ _ _ _ ?_;have la:=aI.len eY Zb (h.an S);have lr:=aI.len eY Zb (h.an T);have W:=gT R;have htl:(jH A (bW R)).length=A.length+R.length/2:=by{rw[Lp,W]};have B:∀o X:Q It,o++X=jH A (bW R)→o.length≤2^21:=λo X e=>Ze;refine⟨λo k i w'=>∃(a j:I)(l:Q It),k=(a:H)∧i=((2*j:I):H)∧a≤A.length∧2*j≤R.length∧l++jH (A.drop a) (bW (R.drop (2*j)))=jH A (bW R)∧Hp E w' (ao 2 o (l.flatMap iv)::F),λ_ _ i _=>R.length-i.toNat,⟨0,0,[],Z,Z,Za,Za,Zd,h.aU 2⟩,?_⟩;rintro o k i w' ⟨a,j,l,rfl,rfl,ha,hj,heq,hh⟩;have Y:=B _ _ heq;rw[ae (x:=((2*j:I):H)+1) Za];refine aa.mk (λd=>?_) λt=>?_;{have d:2*j+1<R.length:=by{have:=Xo d;omega};rw[TR d]at heq;have hx1:=hb _ (Zu (show 2*j<R.length by omega));have mR:=hb _ (Zu d);have u:Hp E {w' with drawn:=w'.drawn+1} (ao 2 o (l.flatMap iv)::F):=hh.drew;refine⟨gv E F,gv.qu u,?_⟩;refine ay.UK (n:=2*j) eY Zb u.drop T Z Za λp C=>?_;refine aA.sc (s:=.int .i64) ((R[2*j]' Za).1:H) (λw2 D=>(D.an (C 0 Zb)).trans (by simp[iv])) ?_;refine ay.UK (n:=2*j+1) eY Zb u.drop T Za d λq hq=>?_;refine aA.sc (s:=.int .i64) (R[2*j+1].1:H) (λw2 D=>(D.an (hq 0 Zb)).trans (by simp[iv])) ?_;rw[ae (x:=((R[2*j]' Za).1:H)+(R[2*j+1].1:H)) Za];generalize hp1:(R[2*j]' Za).1+R[2*j+1].1=p1 at heq;have L:((R[2*j]' Za).1:H)+(R[2*j+1].1:H)=(p1:H):=by{omega};rw[L];refine Nw.mk u λb w3 h3=>⟨gv.mk2 h3,?_⟩;refine ak.ax h3 Z (pQ (p1,J)) λw4 h4=>⟨gv.mk2 h4,?_⟩;refine⟨λo k w'=>∃(a:I)(l:Q It),k=(a:H)∧a≤A.length∧l++jH (A.drop a) ((p1,J)::bW (R.drop (2*(j+1))))=jH A (bW R)∧Hp E w' (ao 2 o (l.flatMap iv)::ag b (.cells ⟨iv (p1,J)⟩ 309 (0,0))::F),λ_ k _=>A.length-k.toNat,⟨a,l,Z,ha,heq,h4.p1⟩,?_⟩;rintro o k w5 ⟨a,l,rfl,ha,heq,hh⟩;have Y:=B _ _ heq;refine aC.mk hh λw6 m=>?_;rw[ae (x:=((2*j:I):H)+2) Za];have r:A.drop a=[]∨(∃(_:a<A.length),¬A[a].1≤p1)→(l++[(p1,J)])++jH (A.drop a) (bW (R.drop (2*(j+1))))=jH A (bW R):=by{rintro(e|⟨M,f⟩);{rw[e,tk]at heq;rw[e,tk,←heq];simp};{rw[ZA M,JB f]at heq;rw[ZA M,←heq];simp}};refine aa.mk (λc=>?_) λc=>?_;{have c:a<A.length:=by{have:=Xo c;omega};refine ay.el (n:=a) eY Zb (m.drop.drop.an S) Z c λp C=>?_;refine Ld.sc (s:=.int .i64) (A[a].1:H) (by rw[C 0 Zb];simp[iv]) ?_;rw[aj];refine Ld.ax m.p1 (p1:H) (by simp[iv]) ?_;refine aa.mk (λv=>?_) λf=>?_;{have v:A[a].1≤p1:=by{have:=Xo v;omega};rw[ZA c,Hu v]at heq;refine ay.el (n:=a) eY Zb (m.drop.drop.an S) Z c λp C=>?_;refine Ld.st (ks:=[.int .i64,.bool]) ((A[a].1:H),A[a].2,()) (λj hj=>C j hj) ?_;refine xi (g:=iv) (x:=A[a]) oe eY Zb Z (pQ _) m Za Za λz w7 N _=>?_;rw[ae Za];refine⟨⟨a+1,l++[A[a]],Z,Za,?_,N⟩,by dsimp only;omega⟩;rw[←heq];simp};{have f:¬A[a].1≤p1:=by{have:=Xm f;omega};refine Ld.Gy (ks:=[.int .i64,.bool]) m.p1 ((p1:H),J,()) Z ?_;refine xi (g:=iv) (x:=(p1,J)) oe eY Zb Z (pQ _) m Za Za λz w7 N _=>?_;exact⟨⟨a,j+1,l++[(p1,J)],Z,Za,ha,Za,r (.inr ⟨c,f⟩),N.p1.drop⟩,by dsimp only;omega⟩}};{have c:A.drop a=[]:=by{grind};refine Ld.Gy (ks:=[.int .i64,.bool]) m.p1 ((p1:H),J,()) Z ?_;refine xi (g:=iv) (x:=(p1,J)) oe eY Zb Z (pQ _) m Za Za λz w7 N _=>?_;exact⟨⟨a,j+1,l++[(p1,J)],Z,Za,ha,Za,r (.inl c),N.p1.drop⟩,by dsimp only;omega⟩}};{have t:¬2*j+1<R.length:=by{have:=Xm t;omega};rw[PZ t,CT]at heq;refine cu.el (a:=a) (b:=A.length) (l:=A) eY la Z (by rw[la]) ha (Zy _) Za (H.le_refl _) λz hs' hl' _=>?_;have u:=hs' w' (hh.drop.an S);rw[Zx Ze]at u;have hdl:(A.drop a).length≤2^20:=by{rw[ZD];omega};refine aeQ (g:=iv) oe eY Zb pQ hh u Za Za λs2 w2 D _=>hK s2 w2 ?_;rw[←heq];exact D}
end
end
end Go.Proofs.Q9
namespace Go.Pm
section
def zf{M:I}:∀{l:Q It},(∀x∈l,x.1≤M)→∀x∈bW l,x.1≤2*M|[],_,x,h=>by simp[bW]at h|[_],_,x,h=>by simp[bW]at h|a::b::l,hl,x,h=>by rw[bW]at h;(rcases List.mem_cons.1 h with rfl|h);{have:=hl a Zd;have:=hl b Zd;simp only;omega};{exact zf (λy c=>hl y (by simp[c])) x h}
def Fa{c:Q I}{M:I}(h:∀x∈c,x≤M):∀k,∀x∈row c k,x.1≤M*2^k|0,x,a=>by{obtain⟨y,b,rfl⟩:=List.mem_map.1 a;simpa using h y b}|k+1,x,a=>by(rcases List.mem_append.1 ((IF _ _).mem_iff.1 a)with a|a);{obtain⟨y,b,rfl⟩:=List.mem_map.1 a;have:=h y b;have:=I.le_mul_of_pos_right M (Ym (k+1));simp only;omega};{have:=zf (Fa h k) x a;rw[YC];rw[←I.mul_assoc];omega}
def uP(a:Q I):∀k,(row a k).length≤2*a.length|0=>by rw[row,fB];omega|k+1=>by have:=uP a k;rw[iu];omega
def M7{l:Q It}{j:I}(h:j<l.length):bO (l.take (j+1))=bO (l.take j)+if l[j].2=O then 1 else 0:=by unfold bO;rw[ZB,Q.filter_append,Zg,Zh h];congr 1;by_cases e:l[j].2=O;{rw[Xh e];simp[e]};{rw[Xf e];simp[e]}
def Cu{l:Q It}{a b:I}(h:a≤b):bO (l.take a)≤bO (l.take b):=by have:=Zw a (l.take b);rw[Q.take_take,Y0 h]at this;have c:=Xp bO this;rw[p8]at c;omega
def TC(a:Q I){L:I}(b:1≤L)(i:I):lenOf a L i≤L:=by unfold lenOf;split;{exact b};{have:=Gh a (L-1) (2*a.length-2) i;omega}
def Rf{a:Q I}(h:wo a)(k m:I)(b:m≤(row a k).length):bO ((row a k).take m)≤a.length:=by cases k with|zero=>rw[row,fB]at b;rw[(zY m b).1];exact b|succ k=>exact(pf h k m b).2.1
end
end Go.Pm
namespace Go.Proofs.Q9
section
open Go Go.Vc Go.Srt Go.Pm
section
variable{E w:G}{F:Q HP}
theorem uc{b:I}{t:Xn}{l:Q I}{K:Xi Xe→G→Prop}(h:Hp E w (ag b (.cells (ai .u8 l) t (0,0))::F))(a:l.length=258)(e:∀w',Hp E w' (ag b (.cells (ai .u8 l) t (0,0))::F)→K (ai .u8 l) w'):Ld (.arr 258) ⟨b,0,U⟩ w λx=>aB 258 ⟨b,0,U⟩ x w λc=>Ld (.arr 258) ⟨b,0,U⟩ c λr=>K r c:=Ld.arr h (by rw[bq,a]) (aB.ax h (by rw[bq,a]) (by rw[bq,a]) oo λc d=>Ld.arr d (by rw[bq,a]) (e c d))
def qQ(s:Sl):Q Xe:=[.slice s.base s.len s.cap]
theorem ta:∀x,(qQ x).length=1:=λ_=>rfl
theorem acv:∀x,∀y∈qQ x,aD y=O:=by intro x y a;have:y=.slice x.base x.len x.cap:=by{simpa[qQ]using a};rw[this];rfl
theorem Vr:cF Zf 306 304 1 24:=cF.of Zc Zc
def BM(b:Q I)(a:Q Sl)(G:Q HP):Prop:=∀j(c:j<a.length),ad G (aI 2 a[j] ((row b j).flatMap iv))∧a[j].len≤a[j].cap
theorem BM.more{c:Q I}{b:Q Sl}{G:Q HP}{s:Sl}(h:BM c b G)(d:s.len≤s.cap):BM c (b++[s]) (ao 2 s ((row c b.length).flatMap iv)::G):=by intro j e;(rcases Yg j b.length with a|f);{rw[Q.getElem_append_left a];exact⟨(h j a).1.cons,(h j a).2⟩};{have:j=b.length:=by{simp at e;omega};subst this;simp only[Q.getElem_append_right (Zy _),I.sub_self,Z5];exact⟨ad.own,d⟩}
theorem VP{L:I}(c:L≤15):bx .i64 1 (u64 (L:H))=((2^L:I):H)∧(0:H)≤u64 (L:H):=by rw[jP Za];have d:2^L≤2^15:=ZV Zb c;have e:YN .i64=9223372036854775807:=Z;have:=dJ (k:=.i64) (a:=1) (b:=L) (by have:Xy.bits .i64=64:=Z;omega) Ze;rw[I.one_mul]at this;exact⟨this,Za⟩
theorem NV{l ys:Q I}(a:rO l):∀x∈br l ys,x≤2147483647:=by intro x b;obtain⟨s,_,rfl⟩:=List.mem_map.1 b;rw[Zo];cases h:l[s]? with|none=>simp|some y=>exact a y (Y5 h)
theorem adZ{l ys:Q I}(a:rO l){k:I}(b:k≤15):∀x∈row (br l ys) k,x.1≤2^60:=by intro x c;have e:=Fa (NV (ys:=ys) a) k x c;have d:2^k≤2^15:=ZV Zb b;have:=I.mul_le_mul_left 2147483647 d;omega
theorem KM{t:Q H}{L:H}{K:Xi Xe→H→Xx→Prop}(h:Hp E w F)(hl:t.length=258)(Y:(cj t=J∨L<1∨15<L∨∃l,t=ints l∧(2:H)^L.toNat<(used l).length)→∀w',Hp E w' F→K (ai .u8 (Zj 258 0)) 2 w')(hK2:∀l ys w',t=ints l→rO l→da l ys→1≤L→L≤15→ys.length≤2^L.toNat→Hp E w' F→K (ai .u8 (ic ys (lenOf (br l ys) L.toNat))) 0 w'):Cl Zf [.arr 258,kI] 144 ⟨[.agg (aT t),.int .i64 L]⟩ w K:=by refine uE.ok _ _ _ _ ?_;rw[C1];simp only[bz];refine Nw.mk h λb4 w1 h1=>Nw.mk h1 λb6 w2 h2=>Ld.arr h2.p1 (by rw[fT,hl]) (Qq h2 hl (λhv w3 h3=>?_) λl hte hm hll ys s w3 A h3=>?_);{refine Ld.arr h3.p1 (by rw[fT,hl]) (xN h3 hl λw4 D=>aa.t Ze (uc D Zd λw5 u=>Y (.inl hv) w5 u.drop.drop))};{subst hte;have hlen:=aa3 hll A;have hin:=abt hll A;have hsl:s.len=ys.length:=by{have:=(h3.an ad.own).1;simp only[Zq,ints,ZE]at this;exact this.symm};refine Ld.arr h3.p2 (by rw[fT,hl]) (xN h3 hl λw4 D=>aa.f (by rw[uj hm];rfl) ?_);refine aa.mk (λhlt=>uc D.p1 Zd λw5 u=>Y (.inr (.inl (Xo hlt))) w5 u.drop.drop.drop) λM=>?_;have M:=Xm M;refine aa.mk (λhgt=>uc D.p1 Zd λw5 u=>Y (.inr (.inr (.inl Ze))) w5 u.drop.drop.drop) λhle=>?_;have hle:=Xm hle;obtain⟨N,rfl⟩:=H.eq_ofNat_of_zero_le (show 0≤L by omega);have hN:N≤15:=by{omega};have hN1:1≤N:=by{omega};obtain⟨e1,e2⟩:=VP hN;rw[e1];refine⟨e2,aa.mk (λhgt=>uc D.p1 Zd λw5 u=>Y (.inr (.inr (.inr ⟨l,rfl,?_⟩))) w5 u.drop.drop.drop) λhle2=>?_⟩;{have hgt:=Xo hgt;rw[Zn,←A.1.length_eq,←hsl];rw[show(2:H)^N=((2^N:I):H) by norm_cast];exact hgt};have hle2:ys.length≤2^N:=by{have:=Xm hle2;omega};have P:=DY A;have hwl:(br l ys).length=ys.length:=Zq _;have hnd:=xh A;have z:∀s∈ys,s<258:=λs hs=>(hin s hs).1;have R:∀w',Hp E w' F→K (ai .u8 (ic ys (lenOf (br l ys) N))) 0 w':=λw' h'=>hK2 l ys w' rfl hm A Za Za Ze h';rw[←S9 ys]at D;refine aa.mk (λh1=>?_) λh1=>?_;{have h1:ys.length=1:=by{have:(s.len:H)=1:=by{simpa using h1};omega};refine RD (i:=0) (D.an ad.own) Za ?_;have hx:=z _ (Zu (show 0<ys.length by omega));refine aK.wr D.p1 Za Za (by rw[bq,jB]) rfl λw5 u=>?_;rw[Zn]at u;have e:=IT (k:=.u8) (l:=ic ys λ_=>0) (i:=ys[0]) (x:=1);rw[show(Yy .u8 1)=.int .u8 ((1:I):H)from rfl,e,K8 hnd Za]at u;have e3:ic ys (λj=>if j=0 then 1 else 0)=ic ys (lenOf (br l ys) N):=xK λi S=>by{have:i=0:=by{omega};subst this;unfold lenOf;rw[Xh rfl,Xh Za]};rw[e3]at u;exact uc u (jB ..) λw6 h6=>R w6 h6.drop.drop.drop};{have h1:ys.length≠1:=by{grind};rw[MP]at D;refine Ld.arr D.p2 (by rw[bq,hll]) (RS D hll ad.own z hlen λs0 w5 u=>Nw.mk u λb38 w6 h6=>?_);have hc0:=u.ko;refine⟨λo k w'=>∃(g:Q Sl)(G:Q HP),k=(g.length:H)∧1≤g.length∧g.length≤N∧BM (br l ys) g G∧Hp E w' (ao 1 o (g.flatMap qQ)::ag b6 (.cells (ai .u8 (ic ys λ_=>0)) 172 (0,0))::ao 1 s ((ints ys).map vI)::ag b4 (.cells (ai .i64 l) 237 (0,0))::(G++F)),λ_ k _=>N-k.toNat,⟨[s0],[ao 2 s0 ((kG (br l ys)).flatMap iv)],rfl,Zy _,hN1,?_,?_⟩,?_⟩;{intro j hj;have:j=0:=by{simp at hj;omega};subst this;exact⟨ad.own,hc0⟩};{exact((h6.sN (sz:=1) (n:=1) rfl).p1.q4).p2.p1};rintro o k w7 ⟨g,G,rfl,hr1,hrN,hrs,C⟩;have hrl:=aI.len ta Zb (C.an ad.own);refine aa.mk (λhlt=>?_) λM=>?_;{have hlt:g.length<N:=by{have:=Xo hlt;omega};have hd:Hp E {w7 with drawn:=w7.drawn+1} _:=C.drew;have hrd:∀w',Hp E w' (ao 1 o (g.flatMap qQ)::ag b6 (.cells (ai .u8 (ic ys λ_=>0)) 172 (0,0))::ao 1 s ((ints ys).map vI)::ag b4 (.cells (ai .i64 l) 237 (0,0))::(G++F))→aI 1 o (g.flatMap qQ) w':=λw' h'=>h'.an ad.own;have key:∀(i:I)(S:i<g.length){K:Xr→Prop},(∀p,(∀w,aI 1 o (g.flatMap qQ) w→w.cell? p=V (.slice g[i].base g[i].len g[i].cap))→K p)→ay o (i:H) 1 K:=by{intro i S K hK;obtain⟨p,hp,_⟩:=(hrd _ hd).2 i (by rw[dC ta];omega);refine⟨p,hp,Za,Za,hK _ λw2 h2=>?_⟩;obtain⟨q,hq,hc⟩:=h2.2 i (by rw[dC ta];omega);have:q=p:=Xj.some.inj (hq.symm.trans hp);subst this;rw[Zn,ZE,hc];have:=mv ta g i 0 S Zb;rw[ZE,Zr]at this;rw[←Zh,this];rfl};have hr0:=hrs 0 Za;have hrk:=hrs (g.length-1) Za;refine⟨aI 1 o (g.flatMap qQ),hrd _ hd,?_⟩;refine key 0 Za λp hp=>aA.sc (s:=.sl) g[0] hp ?_;rw[show i64 ((g.length:H)-1)=((g.length-1:I):H) by rw[ae Za];omega];refine key (g.length-1) Za λq hq=>aA.sc (s:=.sl) g[g.length-1] hq ?_;have hlr:=uP (br l ys) (g.length-1);refine aaJ hd (ad.cons (ad.cons (ad.cons (ad.cons hr0.1.NU)))) (ad.cons (ad.cons (ad.cons (ad.cons hrk.1.NU)))) hr0.2 (adZ hm Za) (by rw[row,fB];omega) Za λs' w8 h8=>?_;have hcs:=h8.ko;refine⟨hrd _ h8.drop,Nw.mk h8 λb53 w9 h9=>⟨hrd _ h9.drop.drop,?_⟩⟩;refine zq (ys:=qQ s') (n:=1) Vr Zb (.inl ⟨304,Zc⟩) h9.p2 (.inl ⟨_,_,_,rfl,rfl,h9.an (ad.ax rfl rfl)⟩) rfl (acv s') Za Za λs2 w10 h10 _ hold=>⟨hold,?_⟩;have e:g.length-1+1=g.length:=by{omega};have er:jH (row (br l ys) 0) (bW (row (br l ys) (g.length-1)))=row (br l ys) g.length:=by{(conv=>rhs;rw[←e,row]);rfl};rw[er]at h10;rw[ae Za];refine⟨⟨g++[s'],ao 2 s' ((row (br l ys) g.length).flatMap iv)::G,Zd,Zd,by simp;omega,hrs.more hcs,?_⟩,by dsimp only;omega⟩;have h11:=h10.p1.drop;rw[Q.flatMap_append,show[s'].flatMap qQ=qQ s' by simp];exact h11.p1.q4};{have M:g.length=N:=by{have:=Xm M;omega};have tot15:∀i,lenOf (br l ys) N i≤15:=λi=>Yl (TC _ hN1 i) hN;have htot:∀i,lenOf (br l ys) N i=lv (br l ys) (N-1) (2*ys.length-2) i:=λi=>by{unfold lenOf;rw[Xf Za,hwl]};refine⟨λT k w'=>∃f:I→I,(((k=-1∨T≤0)∧-1≤k∧k<N∧∀i,i<ys.length→f i=lenOf (br l ys) N i)∨(∃c m:I,k=(c:H)∧c<N∧T=(m:H)∧m≤(row (br l ys) c).length∧∀i,i<ys.length→f i+lv (br l ys) c m i=lenOf (br l ys) N i))∧Hp E w' (ag b6 (.cells (ai .u8 (ic ys f)) 172 (0,0))::ao 1 o (g.flatMap qQ)::ao 1 s ((ints ys).map vI)::ag b4 (.cells (ai .i64 l) 237 (0,0))::(G++F)),λ_ k _=>(k+1).toNat,⟨λ_=>0,?_,C.p1⟩,?_⟩;{rw[ae (x:=2*(s.len:H)) Za,ae (x:=2*(s.len:H)-2) Za,ae Za];(rcases Z9 ys.length with h0|h0);{grind};{refine .inr ⟨N-1,2*ys.length-2,Za,Za,Za,?_,λi _=>by rw[htot,Zl]⟩;rw[←hwl];exact Bo (N-1) Ze}};rintro T k w8 ⟨f,X,C⟩;have done:(∀i,i<ys.length→f i=lenOf (br l ys) N i)→Hp E w8 (ag b6 (.cells (ai .u8 (ic ys (lenOf (br l ys) N))) 172 (0,0))::ao 1 o (g.flatMap qQ)::ao 1 s ((ints ys).map vI)::ag b4 (.cells (ai .i64 l) 237 (0,0))::(G++F)):=λS=>by{rw[←xK S];exact C};refine aa.mk (λhk=>?_) λhk=>?_;{have hk:=Xo hk;refine aa.mk (λr=>?_) λr=>?_;{have r:=Xo r;(rcases X with⟨h0,_⟩|⟨c,m,rfl,hkN,rfl,B,X⟩);{omega};have hrk:=hrs c Za;have hlr:=uP (br l ys) c;refine ay.el (n:=c) ta Zb (C.p1.an ad.own) rfl Za λp hp=>?_;refine Ld.sc (s:=.sl) g[c] (by have:=hp 0 Zb;rw[add_zero]at this;rw[this];rfl) ?_;have hrt:ad (G++F) (aI 2 g[c] ((row (br l ys) c).flatMap iv)):=hrk.1.NU;have hrl2:=aI.len eY Zb (C.drop.drop.drop.drop.an hrt);refine cu.el (a:=0) (b:=m) (l:=row (br l ys) c) eY hrl2 rfl rfl Za B Za (H.le_refl _) λsm hsm hsml _=>?_;have hsm2:ad (G++F) (aI 2 sm (((row (br l ys) c).take m).flatMap iv)):=hrt.imp λw' hw'=>by{simpa using hsm w' hw'};refine⟨λwh j w'=>∃d:I,j=(d:H)∧d≤m∧wh=(bO ((row (br l ys) c).take d):H)∧Hp E w' (ag b6 (.cells (ai .u8 (ic ys λi=>f i+if i<bO ((row (br l ys) c).take d)then 1 else 0)) 172 (0,0))::ao 1 o (g.flatMap qQ)::ao 1 s ((ints ys).map vI)::ag b4 (.cells (ai .i64 l) 237 (0,0))::(G++F)),λ_ j _=>m-j.toNat,⟨0,rfl,Za,rfl,C⟩,?_⟩;rintro wh j w9 ⟨d,rfl,hj,rfl,C⟩;have hlfm:=Cu (l:=row (br l ys) c) (show d≤m from hj);have hlfn:=Rf P c m B;refine aa.mk (λv=>?_) λv=>?_;{have v:d<m:=by{have:=Xo v;omega};have hjr:d<(row (br l ys) c).length:=by{omega};have y:=M7 hjr;have hlfm2:=Cu (l:=row (br l ys) c) (show d+1≤m from v);refine ay.el (n:=d) eY Zb (C.drop.drop.drop.drop.an hsm2) rfl Ze λp hp=>?_;rw[YU]at hp;refine Ld.st (ks:=[.int .i64,.bool]) (((row (br l ys) c)[d].1:H),(row (br l ys) c)[d].2,()) (λj hj=>hp j hj) ?_;refine Nw.mk C λb80 w10 h10=>ak.ax h10 rfl (pQ (row (br l ys) c)[d]) λw11 h11=>?_;rw[aj];refine Ld.ax h11 (row (br l ys) c)[d].2 Ze ?_;have h12:=h11.drop;refine aa.mk (λhlf=>?_) λhlf=>?_;{rw[Xh hlf]at y;have W:bO ((row (br l ys) c).take d)<ys.length:=by{omega};have hx:=z _ (Zu W);have hfi:=X _ W;have h15:=tot15 (bO ((row (br l ys) c).take d));have hlv:1≤lv (br l ys) c m (bO ((row (br l ys) c).take d)):=by{cases c with|zero=>unfold lv whole;rw[Xh Za];exact Zy _|succ c=>unfold lv whole;rw[Xh Za];omega};refine RD (h12.p2.an ad.own) W ?_;refine aK.rd (s:=.int .u8) h12 Za Za _ (Tq (by rw[jB];omega)) ?_;rw[DN hnd z W,Xf Za,Zr];refine aK.wr h12 Za Za (by rw[bq,jB]) rfl λw13 h13=>?_;rw[Zn,im Za,show((f (bO ((row (br l ys) c).take d)):H)+1)=((f (bO ((row (br l ys) c).take d))+1:I):H) by omega,IT,K8 hnd W]at h13;rw[ae (x:=(bO ((row (br l ys) c).take d):H)+1) Za,ae Za];refine⟨⟨d+1,rfl,Za,Za,?_⟩,by dsimp only;omega⟩;rw[y];have e:ic ys (λi=>f i+if i<bO ((row (br l ys) c).take d)+1 then 1 else 0)=ic ys (λj=>if j=bO ((row (br l ys) c).take d)then f (bO ((row (br l ys) c).take d))+1 else f j+if j<bO ((row (br l ys) c).take d)then 1 else 0):=xK λi _=>Ze;rw[e];exact h13};{rw[Xf Ze]at y;have y:bO ((row (br l ys) c).take (d+1))=bO ((row (br l ys) c).take d):=y;rw[ae Za];refine⟨⟨d+1,rfl,Za,by rw[y],?_⟩,by dsimp only;omega⟩;rw[y];exact h12}};{have v:d=m:=by{have:=Xm v;omega};subst v;have hlj:bO ((row (br l ys) c).take d)≤d:=by{unfold bO;have:=Q.length_filter_le (λx:It=>x.2) ((row (br l ys) c).take d);rw[Zz]at this;omega};rw[ae (x:=(d:H)-_) Za,ae (x:=2*_) Za,ae Za];refine⟨⟨_,?_,C⟩,by dsimp only;omega⟩;cases c with|zero=>refine .inl ⟨.inl Za,Za,Za,λi S=>?_⟩;have:=X i S;unfold lv whole at this;exact this|succ c=>refine .inr ⟨c,2*(d-whole (br l ys) (c+1) d),Za,Za,?_,(pf P c d B).2.2.1,λi S=>?_⟩;{show 2*((d:H)-(whole (br l ys) (c+1) d:H))=_;have:whole (br l ys) (c+1) d≤d:=hlj;omega};{have:=X i S;rw[lv]at this;rw[←this];unfold whole;omega}}};{have r:=Xm r;refine uc (done ?_) (jB ..) λw9 h9=>R w9 h9.drop.drop.drop.drop.yl;(rcases X with⟨_,_,_,h0⟩|⟨c,m,rfl,hkN,rfl,B,X⟩);{exact h0};{intro i S;have h0:=X i S;have hm0:m=0:=by{omega};subst hm0;rw[Df P c 0 i B (by simp[whole,bO]),Zr]at h0;exact h0}}};{have hk:=Xm hk;refine uc (done ?_) (jB ..) λw9 h9=>R w9 h9.drop.drop.drop.drop.yl;(rcases X with⟨_,_,_,h0⟩|⟨c,m,rfl,hkN,rfl,B,X⟩);{exact h0};{omega}}}}}
end
end
end Go.Proofs.Q9
namespace Go.Pm
section
structure RIt where
 w:I
 sym:H
 one:I
 two:I
end
end Go.Pm
namespace Go.Proofs.Q9
section
open Go Go.Vc Go.Srt Go.Pm
section
variable{E w:G}{F:Q HP}
abbrev RK:Q Sc:=[.int .i64,.int .i64,.int .i64,.int .i64]
def tR(x:RIt):TT RK:=((x.w:H),x.sym,(x.one:H),(x.two:H),())
end
end
end Go.Proofs.Q9
namespace Go.Srt
section
def Cf(l:Q I):∃ys,da l ys:=by have f:∀a b c:I,K (l.getD a 0<l.getD b 0∨(l.getD a 0=l.getD b 0∧a≤b))=O→K (l.getD b 0<l.getD c 0∨(l.getD b 0=l.getD c 0∧b≤c))=O→K (l.getD a 0<l.getD c 0∨(l.getD a 0=l.getD c 0∧a≤c))=O:=Ze;have g:∀a b:I,(decide (l.getD a 0<l.getD b 0∨(l.getD a 0=l.getD b 0∧a≤b))||K (l.getD b 0<l.getD a 0∨(l.getD b 0=l.getD a 0∧b≤a)))=O:=Ze;have i:=Q.pairwise_mergeSort (le:=λa b=>decide (l.getD a 0<l.getD b 0∨(l.getD a 0=l.getD b 0∧a≤b))) f g (used l);have e:=Q.mergeSort_perm (used l) λa b=>decide (l.getD a 0<l.getD b 0∨(l.getD a 0=l.getD b 0∧a≤b));have j:(used l).Nodup:=Q.Pairwise.filter _ (Q.nodup_range (n:=l.length));have d:=e.nodup_iff.2 j;exact⟨_,e,(i.and d).imp λ{a b} h=>by have:=Xo h.1;have:=h.2;omega⟩
structure eS (t:Q H) (L:H) (u ys:Q I) (N:I):Prop where
 eq:t=Proofs.Q9.ints u
 max:rO u
 len:u.length=258
 ord:da u ys
 lim:L=(N:H)
 one:1≤N
 top:N≤15
 few:ys.length≤2^N
def H0{u v:Q I}(h:Proofs.Q9.ints u=Proofs.Q9.ints v):u=v:=(Q.map_inj_right λx y h=>by have h:(x:H)=(y:H):=h;omega).1 h
end
end Go.Srt
namespace Go.Proofs.Q9
section
open Go Go.Vc Go.Srt Go.Pm
section
variable{E w:G}{F:Q HP}
theorem W1{t:Q H}{L:H}{u ys:Q I}{N:I}(b:eS t L u ys N):¬(cj t=J∨L<1∨15<L∨∃l,t=ints l∧(2:H)^L.toNat<(used l).length):=by obtain⟨rfl,c,e,a,rfl,f,g,i⟩:=b;rintro(h|h|h|⟨l,h,d⟩);{rw[uj c]at h;cases h};{omega};{omega};{obtain rfl:=H0 h;rw[←a.1.length_eq,Zn,show(2:H)^N=((2^N:I):H) by norm_cast]at d;omega}
def jQ(u ys:Q I)(N:I):Q I:=ic ys (lenOf (br u ys) N)
theorem M9(u ys:Q I)(N:I):(jQ u ys N).length=258:=jB ..
theorem TJ{t:Q H}{L:H}{u ys:Q I}{N:I}{K:Xi Xe→H→G→Prop}(a:eS t L u ys N)(h:Hp E w F)(c:∀w',Hp E w' F→K (ai .u8 (jQ u ys N)) 0 w'):Cl Zf [.arr 258,kI] 144 ⟨[.agg (aT t),.int .i64 L]⟩ w K:=by refine KM h (by rw[a.eq,ji,a.len]) (λd=>Xu d (W1 a)) λl zs w' e i b j k m f=>?_;have:l=u:=H0 (e.symm.trans a.eq);subst this;obtain rfl:=RR b a.ord;have g:=c w' f;rw[a.lim,Zn];exact g
end
end
end Go.Proofs.Q9
namespace Go.Srt
section
open Go.Pm
def Ty(ys:Q I)(g:I→I):(ys.map g).sum=over ys.length λi=>g (ys.getD i 0):=by unfold over;congr 1;refine YS Zd λi a c=>?_;have b:i<ys.length:=by{simpa using a};simp[b]
def Pd{u ys:Q I}{f:I→I}(c:u.length=258)(b:da u ys)(d:∀i,i<ys.length→1≤f i):used (ic ys f)=used u:=by unfold used;rw[jB,c];refine Q.filter_congr λs a=>?_;have a:s<258:=by{simpa using a};rw[Pp a];have e:s∈ys↔0<u.getD s 0:=by{rw[b.1.mem_iff,gh,c];exact⟨λh=>h.2,λh=>⟨a,h⟩⟩};by_cases h:s∈ys;{grind};{grind}
def Rn{u ys:Q I}{f:I→I}(e:u.length=258)(a:da u ys)(d:∀i,i<ys.length→1≤f i∧f i≤15):bD (ic ys f)=over ys.length λi=>2^(15-f i):=by have c:∀s∈ys,s<258:=λs g=>by{have:=(gh.1 (a.1.mem_iff.1 g)).1;omega};rw[E0,Pd e a λi b=>(d i b).1,←(a.1.map _).sum_nat,Ty];refine oV λi b=>?_;rw[getD_at b,DN (xh a) c b];have:=d i b;unfold wt;rw[Xf Za,Xf Za]
section
variable{t:Q H}{L:H}{u ys:Q I}{N:I}
theorem eS.wl(a:eS t L u ys N):(br u ys).length=ys.length:=Zq _
theorem eS.No(a:eS t L u ys N){i:I}(b:i<ys.length):1≤lenOf (br u ys) N i∧lenOf (br u ys) N i≤N:=TW (DY a.ord) a.one (by rw[a.wl];exact a.few) (by rw[a.wl];exact b)
theorem p15:2^15=32768:=Zb
theorem eS.aeV(a:eS t L u ys N)(d:2≤ys.length):bD (Proofs.Q9.jQ u ys N)=32768:=by have j:=a.top;have k:=a.one;have e:=Rn (f:=lenOf (br u ys) N) a.len a.ord λi b=>by{have:=a.No b;omega};have c:=Hy (DY a.ord) (N-1) (by rw[a.wl];exact d) (by rw[a.wl,show N-1+1=N by omega];exact a.few);rw[a.wl,show N-1+1=N by omega]at c;unfold Proofs.Q9.jQ;rw[e,oV (g:=λi=>2^(15-N)*2^(N-lv (br u ys) (N-1) (2*ys.length-2) i)) λi b=>by have:=a.No b;have h:lenOf (br u ys) N i=lv (br u ys) (N-1) (2*ys.length-2) i:=by{unfold lenOf;rw[Xf (by rw[a.wl];omega),a.wl]};rw[h]at this⊢;rw[←I.pow_add,show 15-N+(N-lv (br u ys) (N-1) (2*ys.length-2) i)=15-lv (br u ys) (N-1) (2*ys.length-2) i by omega],TL,c,←I.pow_add,show 15-N+N=15 by omega,p15]
theorem eS.bytes(a:eS t L u ys N):∀y∈Proofs.Q9.jQ u ys N,y<256:=by intro y b;obtain⟨s,_,rfl⟩:=List.mem_map.1 b;have c:=a.top;split;{rename_i h;have:=a.No (Q.idxOf_lt_length_of_mem h);omega};{decide}
theorem eS.at(a:eS t L u ys N){i:I}(b:i<ys.length):(Proofs.Q9.jQ u ys N).getD ys[i] 0=lenOf (br u ys) N i:=DN (xh a.ord) (λs c=>by have:=(gh.1 (a.ord.1.mem_iff.1 c)).1;have:=a.len;omega) b
end
end
end Go.Srt
namespace Go.Sym
section
def xV:∀(b L:Q I)(r:I),bV L→(∀x∈b,x<256)→(b≠[]∨0<r)→∃s∈dI L r b,s<257|[],L,r,_,_,h=>by have a:0<r:=by{(rcases h with h|h);{exact Xu Z h};{exact h}};rw[mo,px a];exact⟨(r-1)%2,Zd,Za⟩|c::b,L,r,hL,hb,_=>by by_cases h0:L.idxOf c=0;{rw[lf h0];exact xV b _ _ (hL.take Zb) (λx d=>hb x (Zv _ d)) (.inr Za)};{rw[mJ h0];have:=hL.idx (hb c ZJ);exact⟨L.idxOf c+1,Zd,Za⟩}
def Sg{b:Q I}(h:b≠[])(a:∀x∈b,x<256):∃s∈syms b,s<257:=xV b _ 0 bV.range a (.inl h)
def Tv(b:Q I):257∈syms b:=by unfold syms dI;simp
def Mh(n:I):(dy n).length≤n:=by induction n using ZT with|ind n a=>by_cases h:n=0;{subst h;rw[ql];exact Zy _};{rw[px Za,Zk];have:=a ((n-1)/2) Za;omega}
def qC:∀(b L:Q I)(r:I),(dI L r b).length≤r+b.length+1|[],L,r=>by rw[mo,Zg];have:=Mh r;simp;omega|c::b,L,r=>by by_cases h0:L.idxOf c=0;{rw[lf h0];have:=qC b (dk L 0) (r+1);rw[Zk];omega};{rw[mJ h0,Zg,Zk,Zk];have:=qC b (dk L (L.idxOf c)) 0;have:=Mh r;omega}
def vg(b:Q I):(syms b).length≤b.length+1:=by have:=qC b (Zt 256) 0;unfold syms;omega
end
end Go.Sym
namespace Go.ag
section
open Go.Inc Go.Srt Go.Sym Go.Bits Go.Tab Go.Bw Go.Pm
def mg(a:Q I):Q I:=(Zt 258).map λs=>a.count s
def nC(a:Q I):(mg a).length=258:=by unfold mg;simp
def MW(a:Q I){s:I}(h:s<258):(mg a).getD s 0=a.count s:=by unfold mg;rw[Zo,Z0,Yz h];rfl
def Dr{ss:Q I}(h:ss.length≤2147483647):rO (mg ss):=λx a=>by obtain⟨s,_,rfl⟩:=List.mem_map.1 a;exact Yl Q.count_le_length h
def gh{u:Q I}{s:I}:s∈used u↔s<u.length∧0<u.getD s 0:=by unfold used;rw[Q.mem_filter,Q.mem_range,XL]
def C2{u a:Q I}(h:da u a){s:I}:s∈a↔s<u.length∧0<u.getD s 0:=by rw[h.1.mem_iff,gh]
def X7{u a:Q I}(b:u.length=258)(h:da u a):a.length≤258:=by rw[h.1.length_eq,←b];unfold used;exact Yl (Q.length_filter_le ..) Zd
def Mn{u b:Q I}(c:u.length=258)(d:rO u)(a:da u b):eS (Proofs.Q9.ints u) 15 u b 15 where eq:=Z;max:=d;len:=c;ord:=a;lim:=Z;one:=Zb;top:=Zb;few:=Yl (X7 c a) Zb
def MJ{u d b:Q I}(q:u.length=258)(r:rO u)(c:da u d)(f:0<u.getD 257 0)(t:∃s,s<257∧0<u.getD s 0)(v:∀s∈syms b,0<u.getD s 0)(w:∀x∈b,x<256):qg (Proofs.Q9.jQ u d 15) b:=by have g:=Mn q r c;have j:∀s,s<258→0<u.getD s 0→0<(Proofs.Q9.jQ u d 15).getD s 0:=by{intro s y l;have k:s∈d:=(C2 c).2 ⟨Za,l⟩;obtain⟨i,p,e⟩:=List.mem_iff_getElem.1 k;have m:=g.at p;have z:=(g.No p).1;rw[e]at m;omega};have l:2≤d.length:=by{obtain⟨s,y,m⟩:=t;have n:s∈d:=(C2 c).2 ⟨Za,m⟩;have o:257∈d:=(C2 c).2 ⟨Za,f⟩;match d,n,o with|[a],n,o=>rw[ZI]at n o;omega|_::_::_,_,_=>simp};refine⟨Proofs.Q9.M9 _ _ _,pn.2 ⟨g.aeV l,j 257 Zb f⟩,λs h=>?_⟩;have:=ym w s h;exact⟨Za,j s Za (v s h)⟩
noncomputable def Dt(u:Q I):Q I:=Classical.choose (Cf u)
def D7(u:Q I):da u (Dt u):=Classical.choose_spec (Cf u)
noncomputable def adX(a:Q I):Q I:=Proofs.Q9.jQ (mg a) (Dt (mg a)) 15
noncomputable def jh(x:Q I):Q I:=adX (syms (aW x.reverse))
def N3{a:Q I}(h:a.length≤2147483647):eS (Proofs.Q9.ints (mg a)) 15 (mg a) (Dt (mg a)) 15:=Mn (nC a) (Dr h) (D7 _)
def oU{x:Q I}(k:0<x.length)(l:x.length≤1000000)(g:∀c∈x,c<256):qg (jh x) (aW x.reverse):=by have b:=Stm.Oj g;have i:aW x.reverse≠[]:=by{intro e;have:=Xp Z8 e;rw[dz,Z3,Zs]at this;omega};have a:(syms (aW x.reverse)).length≤2147483647:=by{have:=vg (aW x.reverse);rw[dz,Z3]at this;omega};have d:∀s∈syms (aW x.reverse),0<(mg (syms (aW x.reverse))).getD s 0:=by{intro s h;have:=ym b s h;rw[MW _ Za];exact List.count_pos_iff.2 h};obtain⟨s,j,f⟩:=Sg i b;exact MJ (nC _) (Dr a) (D7 _) (d 257 (Tv _)) ⟨s,f,d s j⟩ d b
def Wc{a:Q I}(h:∀s∈a,s≤257):Hs.js (Zj 258 0) (Proofs.Q9.ints a)=Proofs.Q9.ints (mg a):=by have b:(Proofs.Q9.ints a).all Hs.oH=O:=by{refine List.all_eq_true.2 λz e=>?_;obtain⟨s,f,rfl⟩:=List.mem_map.1 e;have:=h s f;exact Hs.sS.2 Za};refine YV λi=>?_;have k:(Hs.js (Zj 258 0) (Proofs.Q9.ints a)).length=258:=by{rw[Hs.sJ];simp};by_cases hi:i<258;{have c:=Hs.yz (zs:=Proofs.Q9.ints a) (t:=Zj 258 0) b Zd i;rw[Zo,Zh Za]at c;rw[Zh Za];have d:=MW a hi;rw[Zo,Zh (by rw[nC];exact hi)]at d;have g:(Proofs.Q9.ints (mg a))[i]?=V (((mg a)[i]'(by rw[nC];exact hi):I):H):=by{unfold Proofs.Q9.ints;rw[Z0,Zh (by rw[nC];exact hi)];rfl};rw[g];simp only[YE]at c d;rw[c,d];have j:((Proofs.Q9.ints a).count (i:H))=a.count i:=by{unfold Proofs.Q9.ints;rw[Q.count_eq_countP,Q.countP_map,Q.count_eq_countP];refine Q.countP_congr λx _=>?_;simp only[Function.comp,XB];omega};rw[j,Zo,Q.getElem?_replicate,Xh hi];simp};{rw[Ye Za,Ye (by rw[Proofs.Q9.ji,nC];omega)]}
end
end Go.ag
namespace Go.Vc
section
def qO(l:Q I)(i:I):Q I:=(Zt l.length).map λp=>if p<i∨l.length-i≤p then l.getD (l.length-1-p) 0 else l.getD p 0
def pd(l:Q I)(i:I):(qO l i).length=l.length:=by unfold qO;simp
def sU{l:Q I}{i p:I}(h:p<l.length):(qO l i)[p]?=V (if p<i∨l.length-i≤p then l.getD (l.length-1-p) 0 else l.getD p 0):=by unfold qO;rw[Z0,Yz h];rfl
def RJ(l:Q I):qO l 0=l:=by refine YV λp=>?_;by_cases h:p<l.length;{rw[sU h,Xf Za,Zh h,Zo,Zh h];rfl};{rw[Ye (by rw[pd];omega),Ye Za]}
def R9{l:Q I}{i:I}(h:2*i+1<l.length):((qO l i).set i (l.getD (l.length-1-i) 0)).set (l.length-1-i) (l.getD i 0)=qO l (i+1):=by refine YV λp=>?_;by_cases hp:p<l.length;{rw[sU hp,Q.getElem?_set,Q.getElem?_set,sU hp];by_cases h1:l.length-1-i=p;{subst h1;rw[Xh Z,Xh (by rw[Q.length_set,pd];omega),Xh Za,show l.length-1-(l.length-1-i)=i by omega]};{rw[Xf h1];by_cases h2:i=p;{subst h2;rw[Xh Z,Xh (by rw[pd];omega),Xh Za]};{grind}}};{rw[Ye (by rw[Q.length_set,Q.length_set,pd];omega),Ye (by rw[pd];omega)]}
def aaa{l:Q I}{i:I}(h:l.length≤2*i+1):qO l i=l.reverse:=by refine YV λp=>?_;by_cases hp:p<l.length;{rw[sU hp,Q.getElem?_reverse hp];have e:∀q,q<l.length→l[q]?=V (l.getD q 0):=λq a=>by{rw[Zo,Zh a];rfl};rw[e _ Za];by_cases h3:p<i∨l.length-i≤p;{rw[Xh h3]};{grind}};{rw[Ye (by rw[pd];omega),Ye Ze]}
end
end Go.Vc
namespace Go.Proofs.Q9
section
open Go Go.Vc
section
variable{E w:G}{F:Q HP}
theorem Pu{s:Sl}{l:Q I}{K:G→Prop}(h:Hp E w (ao 1 s (l.map vB)::F))(a:l.length≤cT)(f:∀w',Hp E w' (ao 1 s (l.reverse.map vB)::F)→K w'):Cl Zf [] 269 ⟨[.slice s.base s.len s.cap]⟩ w K:=by refine pO.ok _ _ _ ?_;have b:=h.aV;rw[Zq,ZE]at b;rw[aL]at a;rw[ae Za];refine⟨λi j w'=>∃k:I,i=(k:H)∧j=(l.length:H)-1-(k:H)∧k≤l.length∧Hp E w' (ao 1 s ((qO l k).map vB)::F),λi _ _=>l.length-i.toNat,⟨0,Z,Za,Za,by rw[RJ];exact h⟩,?_⟩;rintro i j w ⟨k,rfl,rfl,hk,h⟩;refine aa.dm (λg=>?_) λm=>?_;{have x:∀p,(e:p<l.length)→((qO l k).map vB)[p]?=V (vB (if p<k∨l.length-k≤p then l.getD (l.length-1-p) 0 else l.getD p 0)):=λp e=>by{rw[Z0,sU e];rfl};have n:((l.length:H)-1-(k:H)).toNat=l.length-1-k:=by{omega};refine aC.mk h λw h=>?_;refine ay.rd (h.an ad.own) Za Za λq o r=>?_;have t:((qO l k).map vB)[((l.length:H)-1-(k:H)).toNat]' o=vB (l.getD (l.length-1-k) 0):=by{grind};refine Ld.sc (s:=.int .u8) (l.getD (l.length-1-k) 0:H) (by rw[r,t];rfl) ?_;refine ay.rd (h.an ad.own) Za Za λy c d=>?_;have u:((qO l k).map vB)[((k:H)).toNat]' c=vB (l.getD k 0):=by{grind};refine Ld.sc (s:=.int .u8) (l.getD k 0:H) (by rw[d,u];rfl) ?_;refine St.own h Za Za Z λw h=>?_;refine St.own h Za Za Z λw h=>?_;rw[ae Za,ae Za];refine⟨⟨k+1,Za,Za,Za,?_⟩,by first|omega|(dsimp only;omega)⟩;rw[n,Zn]at h;have v:(((qO l k).map vB).set k (.int .u8 (l.getD (l.length-1-k) 0:H))).set (l.length-1-k) (.int .u8 (l.getD k 0:H))=(qO l (k+1)).map vB:=by{rw[←R9 Za,Q.map_set,Q.map_set];rfl};rw[v]at h;exact h};{rw[aaa Za]at h;exact f _ h}
end
end
section
open Go Go.Vc Go.Hd
section
variable{E w:G}{F:Q HP}
theorem abb{n:I}{K:Sl→H→G→Prop}(h:Hp E w F)(k:n≤65536)(o:∀s w',Hp E w' (ao 1 s ((gu n).map vB)::F)→K s 0 w'):Cl Zf [kS,kI] 270 ⟨[.int .i64 (n:H)]⟩ w K:=by refine NZ.ok _ _ _ ?_;refine aa.df Za (aa.df Za ?_);have v:YN .i64=9223372036854775807:=Z;have a:∀m:I,m≤65536→cd .i64 (m:H) 127=((m%128:I):H):=λm h=>by{rw[show(127:H)=((127:I):H)from Z,fX Za Za,show(127:I)=2^7-1 from Z,I.and_two_pow_sub_one_eq_mod]};have c:∀m:I,aJ .i64 (m:H) 7=((m/128:I):H):=λm=>by{rw[show(7:H)=((7:I):H)from Z,cC Zb]};rw[a n k,im Za];refine Nw.mk h λp w h=>?_;refine bg (s:=⟨U,0,0⟩) (ys:=[vB (n%128)]) (n:=1) vv Zb (.inl ⟨5,Zc⟩) (h.aU 1) (.inl ⟨V ⟨p,0,U⟩,1,1,Z,Z,h.an (ad.ax Z Z)⟩) Z IX Zb Zb λs w h _=>?_;refine⟨Zb,?_⟩;rw[c];refine⟨λx s w'=>∃(m:I)(l:Q I),x=(m:H)∧m≤512∧l.length+m≤513∧qZ m++l.reverse=gu n∧Hp E w' (ao 1 s (l.map vB)::F),λx _ _=>x.toNat,⟨n/128,[n%128],Z,Za,by simp;omega,Z,h.p1.drop⟩,?_⟩;rintro x s w ⟨m,l,rfl,hm5,hl,hv,h⟩;refine aa.dm (λq=>?_) λr=>?_;{have d:0<m:=by{omega};have f:iw .u8 ((m%128:I):H) 128=((128+m%128:I):H):=by{have t:YN .u8=255:=Z;have e:=YX (i:=7) (b:=m%128) Za 1;have u:m%128|||128=128+m%128:=by{rw[I.or_comm];exact e.symm};rw[show(128:H)=((128:I):H)from Z,mf Za Za Ze,u]};rw[a m Za,im Za,f];have g:=h.aV;rw[Zq,ZE]at g;refine Nw.mk h λj w h=>?_;refine bg (ys:=[vB (128+m%128)]) (n:=1) vv Zb (.inl ⟨5,Zc⟩) h.p1 (.inl ⟨V ⟨j,0,U⟩,1,1,Z,Z,h.an (ad.ax Z Z)⟩) Z IX Za Za λs w h _=>?_;refine⟨Zb,?_⟩;rw[c];refine⟨⟨m/128,l++[128+m%128],Z,Za,by rw[Zg,ZL];omega,?_,by rw[ZF];exact h.p1.drop⟩,by first|omega|(dsimp only;omega)⟩;rw[Q.reverse_append,←hv,pw d];simp};{have d:m=0:=by{omega};subst d;rw[nj,ZU]at hv;refine Pu h (by rw[aL];omega) λw h=>o s w ?_;rw[hv]at h;exact h}
end
end
section
open Go Go.Vc
set_option maxRecDepth 100000
def Us.ok(a:H)(b:Sl)(R:H→G→Prop) w(h:Cl Pg [(.arr 256)] 149 ⟨[]⟩ w λd c=>Nw 246 ⟨Zj 256 (.int .u32 0)⟩ c λf e=>aB 256 ⟨f,0,U⟩ d e λg=>dE (jW .u32 (if Xy.signed .u32 then-1 else YN .u32) a) 0 g λh i(j:H)(k:H) l=>aa (K (k<(b.len:H))) (ay b k 1 λm=>Ld kS m l λ(n:Sl)=>dE j 0 l λo p(q:H)(r:H) s=>aa (K (r<(n.len:H))) (ay n r 1 λt=>Ld (av .u8) t s λ(u:H)=>aK ⟨f,0,U⟩ 256 (jW .u8 (u8 q) u) 1 λv=>Ld (av .u32) v s λ(x:H)=>0≤(8:H)∧o (jW .u32 x (aJ .u32 q (8:H))) (i64 (r+1)) s∧p (jW .u32 x (aJ .u32 q (8:H))) (i64 (r+1)) s<p q r s) (h q (i64 (k+1)) s∧i q (i64 (k+1)) s<i j k l)) (R (jW .u32 (if Xy.signed .u32 then-1 else YN .u32) j) l)):Cl Pg [(av .u32)] 95 ⟨[(.int .u32 a),(ah b)]⟩ w R:=co Tryz.f95 [(9,[(0,(av .u32)),(15,kI)]),(18,[(0,(av .u32)),(21,kI)])] h
def Qu.ok(R:(Xi Xe)→G→Prop) w(h:Nw 246 ⟨Zj 256 (.int .u32 0)⟩ w λb a=>eT 0 a λc d(e:H) f=>aa (K (e<256)) (Cl Pg [(av .u32)] 219 ⟨[(.int .u8 (u8 e))]⟩ f λ(h:H) g=>aK ⟨b,0,U⟩ 256 e 1 λi=>St i (.int .u32 h) g λj=>c (i64 (e+1)) j∧d (i64 (e+1)) j<d e f) (Ld (.arr 256) ⟨b,0,U⟩ f λk=>aB 256 ⟨b,0,U⟩ k f λl=>Ld (.arr 256) ⟨b,0,U⟩ l λm=>R m l)):Cl Pg [(.arr 256)] 149 ⟨[]⟩ w R:=co Tryz.f149 [(5,[(2,kI)])] h
def Wa.ok(a:H)(R:Sl→G→Prop) w(h:Nw 316 ⟨[(.int .u8 0),(.int .u8 0),(.int .u8 0),(.int .u8 0)]⟩ w λc b=>eT 0 b λd e(f:H) g=>aa (K (f<4)) (0≤(i64 ((24:H)-(i64 ((8:H)*f))))∧aK ⟨c,0,U⟩ 4 f 1 λh=>St h (.int .u8 (u8 (aJ .u32 a (i64 ((24:H)-(i64 ((8:H)*f))))))) g λi=>d (i64 (f+1)) i∧e (i64 (f+1)) i<e f g) (cu (⟨V ⟨c,0,U⟩,4,4⟩:Sl) 0 4 4 1 λj=>R j g)):Cl Pg [kS] 151 ⟨[(.int .u32 a)]⟩ w R:=co Tryz.f151 [(7,[(5,kI)])] h
def Wi.ok(a:H)(R:H→G→Prop) w(h:dE (u32 a) 0 w λb c(d:H)(e:H) f=>aa (K (e<8)) (0≤(1:H)∧b (jW .u32 (aJ .u32 d (1:H)) (u32 ((3988292384:H)*(cd .u32 d 1)))) (i64 (e+1)) f∧c (jW .u32 (aJ .u32 d (1:H)) (u32 ((3988292384:H)*(cd .u32 d 1)))) (i64 (e+1)) f<c d e f) (R d f)):Cl Pg [(av .u32)] 219 ⟨[(.int .u8 a)]⟩ w R:=co Tryz.f219 [(7,[(3,(av .u32)),(6,kI)])] h
end
end Go.Proofs.Q9
namespace Go.Crc
section
def Sp(c:I):(c/2)^^^(3988292384*(c%2))=half c:=by unfold half;(rcases I.mod_two_eq_zero_or_one c with e|e);{rw[e];rfl};{rw[e];rfl}
def iA:I→I→I|0,c=>c|k+1,c=>half (iA k c)
def EL:∀(k c:I),c<4294967296→iA k c<4294967296|0,_,h=>h|k+1,c,h=>jz (EL k c h)
end
end Go.Crc
namespace Go.Proofs.Q9
section
open Go Go.Vc Go.Crc
section
variable{E w:G}{F:Q HP}
theorem aap{b:I}{K:H→G→Prop}(d:b<256)(e:K (row b:H) w):Cl Zf [av .u32] 219 ⟨[.int .u8 (b:H)]⟩ w K:=by refine Wi.ok _ _ _ ?_;refine⟨λc i w'=>w'=w∧∃k:I,i=(k:H)∧k≤8∧c=(iA k b:H),λ_ i _=>8-i.toNat,⟨Z,0,Z,Za,by rw[kf Za];rfl⟩,?_⟩;rintro c i w' ⟨rfl,k,rfl,hk,rfl⟩;refine aa.dm (λa=>?_) λf=>?_;{have a:k<8:=by{omega};have d:=EL k b Za;have n:YN .u32=4294967295:=Z;have o:=jz d;have g:aJ .u32 (iA k b:H) 1=((iA k b/2:I):H):=by{rw[show(1:H)=((1:I):H)from Z,cC Zb]};have h:cd .u32 (iA k b:H) 1=((iA k b%2:I):H):=by{rw[show(1:H)=((1:I):H)from Z,fX Za Za,I.and_one_is_mod]};have j:u32 ((3988292384:H)*((iA k b%2:I):H))=((3988292384*(iA k b%2):I):H):=by{rw[kf Za];omega};have l:jW .u32 ((iA k b/2:I):H) ((3988292384*(iA k b%2):I):H)=(iA (k+1) b:H):=by{have m:=Sp (iA k b);rw[tU Za Za Ze,m];rfl};rw[g,h,j,l,ae Za];exact⟨Zb,⟨Z,k+1,Z,Za,Z⟩,by dsimp only;omega⟩};{have:k=8:=by{omega};subst this;exact e}
def gX:Q I:=(Zt 256).map row
theorem pZ:gX.length=256:=by unfold gX;simp
theorem Ig{b:I}(h:b<256):gX[b]?=V (row b):=by unfold gX;rw[Z0,Yz h];rfl
abbrev kT(l:Q I):Q Xe:=l.map λ(n:I)=>Yy .u32 (n:H)
theorem A4{l:Q I}:(kT l).all aD=O:=by unfold kT;rw[Q.all_map];exact List.all_eq_true.2 λ_ _=>rfl
theorem acs{K:Xi Xe→G→Prop}(h:Hp E w F)(f:∀w',Hp E w' F→K ⟨kT gX⟩ w'):Cl Zf [.arr 256] 149 ⟨[]⟩ w K:=by refine Qu.ok _ _ ?_;refine Nw.mk h λg w h=>?_;have b:∀k,k≤256→(kT (gX.take k++Zj (256-k) 0)).length=256:=λk j=>by{simp[pZ];omega};refine⟨λi w'=>∃k:I,i=(k:H)∧k≤256∧Hp E w' (ag g (.cells ⟨kT (gX.take k++Zj (256-k) 0)⟩ 246 (0,0))::F),λi _=>256-i.toNat,⟨0,Z,Za,by have:(⟨kT (gX.take 0++Zj (256-0) 0)⟩:Xi Xe)=⟨Zj 256 (.int .u32 0)⟩:=by{simp};rw[this];exact h⟩,?_⟩;rintro i w ⟨k,rfl,j,h⟩;refine aa.dm (λa=>?_) λl=>?_;{have a:k<256:=by{omega};rw[im Za];refine aap a ?_;refine⟨Za,Za,?_⟩;rw[show((k:H)).toNat*1=k by omega];simp only[aj,Zl];have n:=b k Za;refine St.xb h (by show k<(kT (gX.take k++Zj (256-k) 0)).length;omega) Z λw h=>?_;rw[ae Za];refine⟨⟨k+1,Z,Za,?_⟩,by first|omega|(dsimp only;omega)⟩;have e:(⟨kT (gX.take k++Zj (256-k) 0)⟩:Xi Xe).setIfInBounds k (.int .u32 (row k:H))=⟨kT (gX.take (k+1)++Zj (256-(k+1)) 0)⟩:=by{apply Xi.ext';rw[Yq];have:(kT (gX.take k++Zj (256-k) 0)).set k (.int .u32 (row k:H))=kT ((gX.take k++Zj (256-k) 0).set k (row k)):=by{rw[kT,kT,Q.map_set]};have o:(gX.take k).length=k:=by{rw[Zz,pZ];omega};rw[this,Q.set_append_right _ _ Za,o,I.sub_self];obtain⟨m,p⟩:∃m,256-k=m+1:=⟨255-k,Za⟩;rw[p,Q.replicate_succ,Q.set_cons_zero,ZB,Ig a,show 256-(k+1)=m by omega];simp};rw[e]at h;exact h};{have d:k=256:=by{omega};subst d;have e:(⟨kT (gX.take 256++Zj (256-256) 0)⟩:Xi Xe)=⟨kT gX⟩:=by{rw[Zx (by rw[pZ];omega)];simp};rw[e]at h;have c:(⟨kT gX⟩:Xi Xe).size=256:=by{simp[pZ]};refine Ld.xw h c ?_;refine aB.q h c c A4 λw h=>?_;exact Ld.xw h c (f _ h.tl)}
theorem adF:(if Xy.signed .u32 then(-1:H)else YN .u32)=((4294967295:I):H):=Z
theorem U6{c:I}(h:c<4294967296):jW .u32 (if Xy.signed .u32 then(-1:H)else YN .u32) (c:H)=((c^^^4294967295:I):H):=by have a:YN .u32=4294967295:=Z;have b:4294967295^^^c<2^32:=I.xor_lt_two_pow Zb Za;rw[adF,tU Za Za Za,I.xor_comm]
theorem SI{c x:I}(a:c<4294967296)(b:x<256):jW .u8 (u8 (c:H)) (x:H)=((c%256^^^x:I):H):=by have d:YN .u8=255:=Z;have e:c%256^^^x<2^8:=I.xor_lt_two_pow Za Za;rw[xj,show((c:H)%256)=((c%256:I):H) by omega,tU Za Za Za]
theorem DM{c x:I}(a:x<256):c%256^^^x<256:=by have:c%256^^^x<2^8:=I.xor_lt_two_pow Za Za;omega
theorem O2{c x:I}(b:c<4294967296)(a:x<256):jW .u32 (row (c%256^^^x):H) (aJ .u32 (c:H) 8)=(Crc.step c x:H):=by have e:YN .u32=4294967295:=Z;have f:=QP (c:=c%256^^^x) (by have:=DM (c:=c) a;omega);have d:=MK b a;unfold Crc.step at d⊢;rw[show(8:H)=((8:I):H)from Z,cC Zb,show(2:I)^8=256 from Z,tU Za Za Za]
end
end
section
open Go Go.Vc Go.Bits
section
variable{E w:G}{F:Q HP}
theorem QJ{a:Q (Q I)}{k:I}(h:k<a.length):(a.take (k+1)).flatten=(a.take k).flatten++a.getD k []:=by rw[ZB,Q.flatten_append];congr 1;simp[h]
theorem adT{b:I}(h:b<256):(⟨kT gX⟩:Xi Xe)[b]?=V (Sc.enc (.int .u32) (Crc.row b:H)):=by rw[Q.getElem?_toArray,kT,Z0,Ig h];rfl
theorem DR{c:I}{K:H→G→Prop}{s:Sl}{cs:Q Sl}{bs:Q (Q I)}(h:Hp E w F)(u:c<4294967296)(R:ad F (aI 1 s (cs.map λx=>.slice x.base x.len x.cap)))(hl:cs.length=bs.length)(D:cs.length≤cT)(Y:∀i(h:i<cs.length),ad F (aI 1 cs[i] ((bs.getD i []).map vB)))(g:∀b∈bs,∀y∈b,y<256)(v:∀b∈bs,b.length≤cT)(hK:∀w',Hp E w' F→K ((Crc.feed (c^^^4294967295) bs.flatten^^^4294967295:I):H) w'):Cl Zf [av .u32] 95 ⟨[.int .u32 (c:H),.slice s.base s.len s.cap]⟩ w K:=by refine Us.ok _ _ _ _ ?_;have S:s.len=cs.length:=by{have:=(h.an R).1;simpa using this.symm};have l:∀y∈bs.flatten,y<256:=λy a=>by{obtain⟨b,m,o⟩:=List.mem_flatten.1 a;exact g b m y o};have z:c^^^4294967295<4294967296:=I.xor_lt_two_pow (n:=32) u Zb;rw[aL]at D;refine acs h λw h=>Nw.mk h λT w h=>?_;have hn:(⟨kT gX⟩:Xi Xe).size=256:=by{simp[pZ]};refine aB.q h Zd hn A4 λw h=>?_;rw[U6 u];refine⟨λx i w'=>∃k:I,i=(k:H)∧k≤cs.length∧x=(Crc.feed (c^^^4294967295) (bs.take k).flatten:H)∧Hp E w' (ag T (.cells ⟨kT gX⟩ 246 (0,0))::F),λ_ i _=>cs.length-i.toNat,⟨0,Z,Za,Z,h⟩,?_⟩;rintro x i w ⟨k,rfl,hk,rfl,h⟩;refine aa.dm (λA=>?_) λhge=>?_;{have A:k<cs.length:=by{omega};have p:k<bs.length:=by{omega};refine ay.rd (h.tl.an R) Za Za λq hi L=>?_;have M:w.cell? q=V (Sc.sl.enc cs[k]):=by{simpa using L};refine Ld.sc _ M ?_;have B:bs.getD k []=bs[k]:=by{rw[Zo,Zh p];rfl};have r:=Y k A;rw[B]at r;have f:=Zu p;have t:=v _ f;rw[aL]at t;have N:=(h.tl.an r).1;simp only[Zq,ZE]at N;refine⟨λx i w'=>∃j:I,i=(j:H)∧j≤bs[k].length∧x=(Crc.feed (c^^^4294967295) ((bs.take k).flatten++bs[k].take j):H)∧Hp E w' (ag T (.cells ⟨kT gX⟩ 246 (0,0))::F),λ_ i _=>bs[k].length-i.toNat,⟨0,Z,Za,Zd,h⟩,?_⟩;rintro x i w ⟨j,rfl,hj,rfl,h⟩;have C:∀y∈(bs.take k).flatten++bs[k].take j,y<256:=λy a=>by{(rcases List.mem_append.1 a with a|a);{obtain⟨b,m,o⟩:=List.mem_flatten.1 a;exact g b (Yi m) y o};{grind}};have d:=Crc.yd _ _ z C;refine aa.dm (λW=>?_) λX=>?_;{have e:j<bs[k].length:=by{omega};have a:=g _ f _ (Zu e);refine ay.rd (h.tl.an r) Za Za λq hi L=>?_;refine Ld.sc (s:=.int .u8) (bs[k][j]:H) (by simpa[vB]using L) ?_;rw[SI d a];refine aK.rd (s:=.int .u32) h Za (by have:=DM (c:=Crc.feed (c^^^4294967295) ((bs.take k).flatten++bs[k].take j)) a;omega) (Crc.row (Crc.feed (c^^^4294967295) ((bs.take k).flatten++bs[k].take j)%256^^^bs[k][j]):H) ?_ ?_;{rw[Zn];exact adT (DM (c:=Crc.feed (c^^^4294967295) ((bs.take k).flatten++bs[k].take j)) a)};rw[O2 d a,ae Za];refine⟨Zb,⟨j+1,Z,Za,?_,h⟩,by first|omega|(dsimp only;omega)⟩;rw[ZB,Zh e,←Zm,Crc.Jb ((bs.take k).flatten++bs[k].take j)];rfl};{have e:j=bs[k].length:=by{omega};subst e;rw[ae Za,ZQ];exact⟨⟨k+1,Z,Za,by rw[QJ p,B],h⟩,by first|omega|(dsimp only;omega)⟩}};{have P:k=bs.length:=by{omega};subst P;rw[ZQ];have d:=Crc.yd _ _ z l;rw[U6 d];exact hK _ h.tl}
theorem Wv{c k:I}(a:k<4):(Hd.ik c)[k]?=V (c/2^(24-8*k)%256):=by match k,a with|0,_=>rfl|1,_=>rfl|2,_=>rfl|3,_=>simp[Hd.ik]
theorem O3{c:I}{K:Sl→G→Prop}(h:Hp E w F)(t:c<4294967296)(f:∀s w',Hp E w' (ao 1 s ((Hd.ik c).map vB)::F)→K s w'):Cl Zf [kS] 151 ⟨[.int .u32 (c:H)]⟩ w K:=by refine Wa.ok _ _ _ ?_;refine Nw.mk h λg w h=>?_;have a:∀k,k≤4→(((Hd.ik c).take k++Zj (4-k) 0).map vB).length=4:=λk j=>by{rw[Zq,Zg,Zz,ZX,show(Hd.ik c).length=4 from Z];omega};refine⟨λi w'=>∃k:I,i=(k:H)∧k≤4∧Hp E w' (ag g (.cells ⟨((Hd.ik c).take k++Zj (4-k) 0).map vB⟩ 316 (0,0))::F),λi _=>4-i.toNat,⟨0,Z,Za,h⟩,?_⟩;rintro i w ⟨k,rfl,j,h⟩;refine aa.dm (λb=>?_) λl=>?_;{have b:k<4:=by{omega};rw[ae (x:=(8:H)*(k:H)) Za,ae Za,show(24:H)-8*(k:H)=((24-8*k:I):H) by omega,cC (by have:Xy.bits .u32=32:=Z;omega),xj,ae Za];refine⟨Za,Za,Za,?_⟩;rw[show((k:H)).toNat*1=k by omega];simp only[aj,Zl];have o:=a k Za;refine St.xb h Ze Z λw h=>?_;refine⟨⟨k+1,Z,Za,?_⟩,by first|omega|(dsimp only;omega)⟩;have e:(⟨((Hd.ik c).take k++Zj (4-k) 0).map vB⟩:Xi Xe).setIfInBounds k (.int .u8 (((c/2^(24-8*k):I):H)%256))=⟨((Hd.ik c).take (k+1)++Zj (4-(k+1)) 0).map vB⟩:=by{apply Xi.ext';rw[Yq];have p:(Yy .u8 (((c/2^(24-8*k):I):H)%256))=vB (c/2^(24-8*k)%256):=by{unfold vB;congr 1};have q:((Hd.ik c).take k).length=k:=by{rw[Zz,show(Hd.ik c).length=4 from Z];omega};obtain⟨m,r⟩:∃m,4-k=m+1:=⟨3-k,Za⟩;show(((Hd.ik c).take k++Zj (4-k) 0).map vB).set k _=_;rw[p,←Q.map_set,Q.set_append_right _ _ Za,q,I.sub_self,r,Q.replicate_succ,Q.set_cons_zero,ZB,Wv b,show 4-(k+1)=m by omega];simp};rw[e]at h;exact h};{have d:k=4:=by{omega};subst d;rw[Zx (Zy 4:(Hd.ik c).length≤4),I.sub_self,Q.replicate_zero,ZG]at h;refine cu.whole Zb Z Z ?_;refine f _ w (h.sN (n:=4) (sz:=1) Z)}
end
end
section
open Go Go.Vc Go.Srt Go.Inc Go.Hd
def gg{n:I}(h:n≤65536):(gu n).length≤4:=by unfold gu;have:∀k m:I,m<128^k→(qZ m).length≤k:=by{intro k;induction k with|zero=>intro m a;have:m=0:=by{simpa using a};rw[this,nj];exact Zy _|succ k b=>intro m a;(rcases Z9 m with e|e);{grind};{rw[pw e,Zg,ZL];have:=b (m/128) Ze;omega}};have:=this 3 (n/128) Za;rw[Zg,ZL];omega
section
variable{E w:G}{F:Q HP}
theorem xk{n:I}{a:H}{K:Sl→Xg→G→Prop}(h:Hp E w F)(b:n≤65536)(c:∀s w',Hp E w' (ao 1 s ((gu n).map vB)::F)→K s (XE (1≤(n:H)∧(n:H)≤a)) w'):Cl Zf [kS,kB] 200 ⟨[.int .i64 (n:H),.int .i64 a]⟩ w K:=by refine FO.ok _ _ _ _ ?_;exact abb h b λs w h=>fj (c _ _ h)
theorem acx{n:I}{K:Sl→H→G→Prop}(h:Hp E w F)(a:n≤65536)(f:0<n)(c:∀s w',Hp E w' (ao 1 s ((pY n).map vB)::F)→K s 0 w'):Cl Zf [kS,kI] 136 ⟨[.agg ⟨[.int .i64 (n:H)]⟩]⟩ w K:=by refine NC.ok ((n:H),()) _ _ ?_;(try simp only[aj,Zr]);(with_reducible repeat first|refine Nw.mk h λb w h=>?_|refine Ld.xb h Z ?_);refine xk h a λs w h=>?_;rw[Xt (show 1≤(n:H)∧(n:H)≤65536 by omega)];(with_reducible repeat first|refine Nw.mk h λb w h=>?_|refine aa.no ?_);refine Te h λw h=>?_;have d:=(h.at 1).aV;rw[Zq,ZE]at d;have g:=gg a;refine vC (s:=⟨V ⟨_,0,U⟩,3,3⟩) (xs:=([87,80,1]:Q I).map vB) pK (.inl ⟨5,Zc⟩) h (ad.ax Z Z) (n:=s.len) ?_ ((ad.at 1 ad.own).imp λw e=>.inl ⟨s.base,s.len,s.cap,Z,Z,e⟩) Ze (by simp only;omega) (by simp only;omega) λi w' h _=>?_;{have:0<(gu n).length:=by{unfold gu;simp};simp only;omega};{refine c _ _ ?_;rw[←ZF]at h;exact h.uQ}
theorem ab1{c:I}{K:Sl→G→Prop}(h:Hp E w F)(a:c<4294967296)(d:∀s w',Hp E w' (ao 1 s ((iE c).map vB)::F)→K s w'):Cl Zf [kS] 97 ⟨[.int .u32 (c:H)]⟩ w K:=by refine FI.ok _ _ _ ?_;(skip);(with_reducible refine Nw.mk h λb w h=>?_);refine O3 h a λs w h=>?_;have e:=h.aV;rw[Zq,ZE]at e;have g:(ik c).length=4:=Z;refine vC (s:=⟨V ⟨_,0,U⟩,1,1⟩) (xs:=([0]:Q I).map vB) pK (.inl ⟨5,Zc⟩) h (ad.cons (ad.ax Z Z)) (n:=s.len) (by simp only;omega) (ad.own.imp λw f=>.inl ⟨s.base,s.len,s.cap,Z,Z,f⟩) Ze (by simp only;omega) (by simp only;omega) λi w' h _=>?_;refine d _ _ ?_;rw[←ZF]at h;exact h.uQ
theorem QM{n:H}{M P u:I}{K:Sl→H→G→Prop}(h:Hp E w F)(f:M≤65536)(g:P≤65536)(j:u<4294967296)(c:1≤n→n≤65536→1≤M→(M:H)≤n→1≤P→P≤M→∀s w',Hp E w' (ao 1 s ((lz M P u).map vB)::F)→K s 0 w')(a:¬(1≤n∧n≤65536∧1≤M∧(M:H)≤n∧1≤P∧P≤M)→∀w',Hp E w' F→K ⟨U,0,0⟩ 2 w'):Cl Zf [kS,kI] 140 ⟨[.int .i64 n,.agg ⟨[.int .i64 (M:H),.int .i64 (P:H),.int .u32 (u:H)]⟩]⟩ w K:=by refine Cn.ok _ ((M:H),(P:H),(u:H),()) _ _ ?_;(try simp only[aj,Zl,Zr]);(with_reducible repeat first|refine Nw.mk h λb w h=>?_|refine Ld.xb h Z ?_);refine xk h f λk w h=>?_;(with_reducible repeat refine Ld.xb h Z ?_);refine xk h g λl w h=>fj ?_;by_cases hn:1≤n∧n≤65536;{refine aa.I3 hn ?_;by_cases hm:1≤(M:H)∧(M:H)≤n;{refine aa.I3 hm ?_;by_cases hp:1≤(P:H)∧(P:H)≤(M:H);{refine aa.I3 hp ?_;(with_reducible repeat first|refine Nw.mk h λb w h=>?_|refine Ld.xb h Z ?_);refine O3 h j λm w h=>Nw.mk h λd w h=>?_;have p:=gg f;have q:=gg g;refine Sk (s:=⟨V ⟨d,0,U⟩,4,4⟩) (cs:=[⟨V ⟨b,0,U⟩,1,1⟩,k,l,m]) (bs:=[[1],gu M,gu P,ik u]) h (ad.ax Z Z) Z (by rw[aL];simp) ?_ ?_ λs w h=>?_;{intro i o;match i,o with|0,_=>exact ad.at 2 (ad.ax Z Z)|1,_=>exact ad.at 4 ad.own|2,_=>exact ad.at 3 ad.own|3,_=>exact ad.at 1 ad.own};{rw[aL];simp[ik];omega};{refine c hn.1 hn.2 Za hm.2 Za Za s w ?_;have e:[[1],gu M,gu P,ik u].flatten=lz M P u:=by{simp[lz]};rw[e]at h;exact h.uQ}};{exact aa.ndf hp (a Za _ h.tl)}};{exact aa.ndf hm (a Za _ h.tl)}};{exact aa.ndf hn (a Za _ h.tl)}
end
end
end Go.Proofs.Q9
end
