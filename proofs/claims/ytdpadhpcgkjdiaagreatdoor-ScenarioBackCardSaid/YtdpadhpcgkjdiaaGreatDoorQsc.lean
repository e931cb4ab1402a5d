/- Texts packed together by program; spaces struck by program. Conditions: as each theorem states. -/
import Derived.MapKept
import Derived.Test.YtdpadhpcgkjdiaaGreatDoorQsb
set_option linter.all false
set_option maxRecDepth 20000
open _root_ renaming Array→Xi,Array.replicate→YS,Array.toList_setIfInBounds→Yp,Bool→Xg,Bool.and_eq_true→ZG,Bool.eq_iff_iff→Yz,Bool.false→U,Bool.or_eq_true→YC,Bool.true→H,ByteArray→Xl,ByteArray.mk→ZP,Decidable.decide→K,Decidable.decide→XB,DecidableEq→XP,Go.Addr→Xr,Go.Addr.add→Zl,Go.Builtin→Xz,Go.Builtin.append_→ZD,Go.Instr.fill→YK,Go.Instr.lookup→Yo,Go.Instr.makeMap→Z7,Go.Instr.mapUpdate→Zi,Go.IntKind→Xy,Go.IntKind.max→YN,Go.Op.equalIn→Yn,Go.Oper→XC,Go.Program→Xk,Go.Proofs.Tryz.prog→Zf,Go.Region.ready→Z0,Go.Result.andThen_ok→Z5,Go.Sem.run_bind→Z8,Go.TypeId→Xn,Go.Value→Xe,Go.Value.int→Yx,Go.World→G,Go.World→Xx,Go.convert→XF,Go.run_underlying→Xs,Go.undef→Xv,Go.zeroValue→XI,Int→J,Int.tdiv→YI,Int.toNat_natCast→Zm,List→Q,List→XG,List.Perm.cons→Xa,List.append_assoc→Zn,List.append_nil→ZF,List.cons_append→ZJ,List.drop_drop→Yr,List.drop_eq_getElem_cons→Zw,List.drop_of_length_le→ZV,List.drop_zero→Yq,List.ext_getElem→YP,List.ext_getElem?→YR,List.flatMap_cons→Yg,List.flatten_cons→Yb,List.getD→YF,List.getD_eq_getElem?_getD→Zo,List.getElem?_append_left→ZM,List.getElem?_append_right→ZI,List.getElem?_eq_getElem→Zh,List.getElem?_eq_none→Ya,List.getElem?_map→ZZ,List.getElem?_range→Yy,List.getElem_cons_succ→Y7,List.getElem_cons_zero→Z4,List.getElem_mem→Zv,List.getElem_of_mem→ZY,List.getElem_take→YQ,List.length→Yh,List.length_append→Zg,List.length_cons→Zq,List.length_drop→ZA,List.length_map→Zp,List.length_nil→ZN,List.length_range→YM,List.length_replicate→ZX,List.length_reverse→Z3,List.length_singleton→ZO,List.length_take→Zz,List.map_append→ZE,List.map_congr_left→Z2,List.map_cons→ZT,List.map_map→YH,List.map_nil→YJ,List.mem_cons_of_mem→Zy,List.mem_cons_self→ZK,List.mem_of_getElem?→YY,List.mem_of_mem_drop→YG,List.mem_of_mem_take→Ym,List.mem_range→Y9,List.mem_singleton→ZL,List.nil_append→ZR,List.perm_append_comm→ZW,List.perm_middle→Y3,List.range→Zs,List.range_succ→YO,List.replicate→Zj,List.sum_append→YL,List.take_add_one→ZC,List.take_append_drop→Zt,List.take_length→Ye,List.take_of_length_le→Zu,List.take_succ_cons→Yf,List.take_zero→YX,Min.min→XO,Nat→I,Nat→XM,Nat.add_assoc→Yv,Nat.add_mul→YU,Nat.add_zero→Zr,Nat.beq→YW,Nat.div_eq_of_lt→Y5,Nat.eq_of_beq_eq_true→Yi,Nat.eq_zero_or_pos→Z6,Nat.le_of_ble_eq_true→Y0,Nat.le_refl→Zx,Nat.le_trans→Yk,Nat.lt_or_ge→Yd,Nat.min_eq_left→Xb,Nat.mod_eq_of_lt→Y4,Nat.mul_comm→Yj,Nat.mul_le_mul_right→ZQ,Nat.mul_one→ZB,Nat.pow_le_pow_right→ZS,Nat.pow_succ→Yu,Nat.reduceAdd→Z1,Nat.strongRecOn→ZU,Nat.sub_zero→YV,Nat.succ_mul→Yc,Nat.two_pow_add_eq_or_of_lt→YT,Nat.two_pow_pos→Yl,Nat.zero_add→Zk,Nat.zero_le→Z9,Option→Xj,Option.getD_some→YD,Option.isNone→ZH,Option.map_some→YB,Option.none→V,Option.some→Z,Prod→XQ,Pure.pure→XD,absurd→Xu,beq_iff_eq→XA,congrArg→Xp,decide_eq_false→Xq,decide_eq_true→Xt,decide_eq_true_eq→XE,if_neg→Xf,if_pos→Xh,of_decide_eq_false→Xm,of_decide_eq_true→Xo,rfl→O
noncomputable section
namespace Go.Hd
section
open Go.Inc
def qu(n:I):Q I:=if _h:n=0 then[]else qu (n/128)++[128+n%128]
termination_by n
decreasing_by omega
def fY(n:I):Q I:=qu (n/128)++[n%128]
def mI:qu 0=[]:=by rw[qu];simp
def oX{n:I}(h:0<n):qu n=qu (n/128)++[128+n%128]:=by rw[qu,dif_neg Za]
def ach(n:I):∀x∈qu n,x<256:=by induction n using ZU with|ind n b=>(rcases Z6 n with e|e);{rw[e,mI];simp};{rw[oX e];intro x a;(rcases List.mem_append.1 a with h|h);{grind};{grind}}
def Gb(n:I):∀x∈fY n,x<256:=by intro x a;(rcases List.mem_append.1 a with h|h);{exact ach _ x h};{grind}
def grow(a v c:I):Xj (I×Xg):=if v=0∧c=128 then V else if 128*v+c%128≤a∧(c<128→0<128*v+c%128)then Z (128*v+c%128,K (c<128))else V
def Cb{a n:I}(b:0<n)(h:n≤a):grow a (n/128) (128+n%128)=Z (n,U):=by unfold grow;have e:128*(n/128)+(128+n%128)%128=n:=Za;rw[Xf Za,e,Xh ⟨h,λ_=>b⟩,Xq Za]
def grow_end{a n:I}(b:0<n)(h:n≤a):grow a (n/128) (n%128)=Z (n,H):=by unfold grow;have e:128*(n/128)+n%128%128=n:=Za;rw[Xf Za,e,Xh ⟨h,λ_=>b⟩,Xt Za]
def iq{a v c n:I}{d:Xg}(b:c<256)(h:grow a v c=Z (n,d)):n≤a∧0<n∧n=128*v+c%128∧d=K (c<128):=by unfold grow at h;split at h;{cases h};{grind}
structure HS where
 at_:Nat
 v:Nat
deriving DecidableEq
def mK(i:I):I:=if i=0 then 0x57 else if i=1 then 0x50 else 1
def bu(s:HS)(c:I):xk HS I I:=if s.at_<3 then if c=mK s.at_ then .more ⟨s.at_+1,0⟩else .bad (if s.at_=2 then 241 else 240)else match grow 65536 s.v c with|none=>.bad 242|some (n,true)=>.fin n|some (n,false)=>.more ⟨3,n⟩
def pV(n:I):Q I:=[0x57,0x50,1]++fY n
def adQ{n:I}(h:n≤65536):run bu ⟨3,0⟩ (qu n)=.short ⟨3,n⟩:=by induction n using ZU with|ind n a=>(rcases Z6 n with e|e);{rw[e,mI];rfl};{rw[oX e,lC (a (n/128) Za Za)];refine dQ ?_;simp only[bu];rw[Xf Zb,Cb e h]}
def Pl{n:I}(a:0<n)(h:n≤65536)(r:Q I):run bu ⟨0,0⟩ (pV n++r)=.fin n r:=by unfold pV fY;rw[Zn,Zn];show run bu ⟨3,0⟩ (qu (n/128)++([n%128]++r))=_;rw[lC (adQ Za)];refine Da ?_;simp only[bu];rw[Xf Zb,grow_end a h]
structure MS where
 at_:Nat
 v:Nat
 M:Nat
 P:Nat
 sum:Nat
 many:Nat
deriving DecidableEq
inductive Mk where
 |ax (M P sum:Nat)|tail (sum:Nat)
deriving DecidableEq
def dX:MS:=⟨0,0,0,0,0,0⟩
def aP(n:I)(s:MS)(c:I):xk MS Mk I:=if s.at_=0 then if c=0 then .more ⟨5,0,0,0,0,0⟩else if c=1 then .more ⟨1,0,0,0,0,0⟩else .bad 242 else if s.at_=1 then match grow n s.v c with|none=>.bad 242|some (m,true)=>.more ⟨2,0,m,0,0,0⟩|some (m,false)=>.more ⟨1,m,0,0,0,0⟩else if s.at_=2 then match grow s.M s.v c with|none=>.bad 242|some (p,true)=>.more ⟨3,0,s.M,p,0,0⟩|some (p,false)=>.more ⟨2,p,s.M,0,0,0⟩else if s.many=3 then if s.at_=3 then .fin (.ax s.M s.P (256*s.sum+c))else .fin (.tail (256*s.sum+c))else .more {s with sum:=256*s.sum+c,many:=s.many+1}
def gK(s:I):Q I:=[s/16777216%256,s/65536%256,s/256%256,s%256]
def TX(s:I):∀x∈gK s,x<256:=by intro x a;simp[gK]at a;omega
def lf(M P a:I):Q I:=1::(fY M++fY P++gK a)
def ij(a:I):Q I:=0::gK a
def acK{n v:I}(h:v≤n):run (aP n) ⟨1,0,0,0,0,0⟩ (qu v)=.short ⟨1,v,0,0,0,0⟩:=by induction v using ZU with|ind v a=>(rcases Z6 v with e|e);{rw[e,mI];rfl};{rw[oX e,lC (a (v/128) Za Za)];refine dQ ?_;simp only[aP];rw[Xf Zb,Xh trivial,Cb e h]}
def acs{n M v:I}(h:v≤M):run (aP n) ⟨2,0,M,0,0,0⟩ (qu v)=.short ⟨2,v,M,0,0,0⟩:=by induction v using ZU with|ind v a=>(rcases Z6 v with e|e);{rw[e,mI];rfl};{rw[oX e,lC (a (v/128) Za Za)];refine dQ ?_;simp only[aP];rw[Xf Zb,Xf Zb,Xh trivial,Cb e h]}
def aa5{n M:I}(a:0<M)(h:M≤n)(r:Q I):run (aP n) ⟨1,0,0,0,0,0⟩ (fY M++r)=run (aP n) ⟨2,0,M,0,0,0⟩ r:=by unfold fY;rw[Zn,lC (acK Za)];refine dQ ?_;simp only[aP];rw[Xf Zb,Xh trivial,grow_end a h]
def WL{n M P:I}(a:0<P)(h:P≤M)(r:Q I):run (aP n) ⟨2,0,M,0,0,0⟩ (fY P++r)=run (aP n) ⟨3,0,M,P,0,0⟩ r:=by unfold fY;rw[Zn,lC (acs Za)];refine dQ ?_;simp only[aP];rw[Xf Zb,Xf Zb,Xh trivial,grow_end a h]
def Qm{s:I}(h:s<4294967296):256*(256*(256*(256*0+s/16777216%256)+s/65536%256)+s/256%256)+s%256=s:=Za
def aaD{n M P s:I}(h:s<4294967296)(r:Q I):run (aP n) ⟨3,0,M,P,0,0⟩ (gK s++r)=.fin (.ax M P s) r:=by show Ran.fin (Mk.ax M P (256*(256*(256*(256*0+s/16777216%256)+s/65536%256)+s/256%256)+s%256)) r=_;rw[Qm h]
def aaT{n s:I}(h:s<4294967296)(r:Q I):run (aP n) ⟨5,0,0,0,0,0⟩ (gK s++r)=.fin (.tail s) r:=by show Ran.fin (Mk.tail (256*(256*(256*(256*0+s/16777216%256)+s/65536%256)+s/256%256)+s%256)) r=_;rw[Qm h]
def vD{n M P s:I}(a:0<M)(b:M≤n)(c:0<P)(d:P≤M)(e:s<4294967296)(r:Q I):run (aP n) dX (lf M P s++r)=.fin (.ax M P s) r:=by show run (aP n) ⟨1,0,0,0,0,0⟩ (fY M++fY P++gK s++r)=_;rw[Zn,Zn,aa5 a b,WL c d,aaD e]
def DB{n s:I}(a:s<4294967296)(r:Q I):run (aP n) dX (ij s++r)=.fin (.tail s) r:=by show run (aP n) ⟨5,0,0,0,0,0⟩ (gK s++r)=_;rw[aaT a]
end
end Go.Hd
namespace Go.Vc
section
open Go
structure l0 (P:Xk) {α:Type} [XP α] (kt:Xn) (ke:α→Xe):Prop where
 und:∃d,P.underlying kt=Z d∧∀a b,Instr.sameNow d (ke a) (ke b)=V∨Instr.sameNow d (ke a) (ke b)=Z (K (a=b))
 check:∀e a w,(Instr.checkKey e 10000 kt (ke a)).run P w=.ok () w
 eq:∀a b w,(Op.equal kt (ke a) (ke b)).run P w=.ok (K (a=b)) w
 same:∀a,Instr.sameBits 10000 (ke a) (ke a)=H
section
variable{P:Xk}{α β:Type}[XP α]{ke:α→Xe}{ve:β→Xe}{kt:Xn}
def gT(ke:α→Xe)(ve:β→Xe)(a:Q MapEntry)(l:Q (α×β)):Prop:=a.map (λe=>(e.key,e.val))=l.map λp=>(ke p.1,ve p.2)
def findAt(a:α):Q (α×β)→I→Xj (I×β)|[],_=>V|p::l,i=>if a=p.1 then Z (i,p.2)else findAt a l (i+1)
theorem qi{e:MapEntry}{b:Q MapEntry}{l:Q (α×β)}(h:gT ke ve (e::b) l):∃p a,l=p::a∧e.key=ke p.1∧e.val=ve p.2∧gT ke ve b a:=by unfold gT at h;cases l with|nil=>simp at h|cons p a=>simp only[ZT,Q.cons.injEq,XQ.mk.injEq]at h;exact⟨p,a,O,h.1.1,h.1.2,h.2⟩
theorem Bh(c:l0 P kt ke)(a:α)(w:G):∀(b:Q MapEntry)(l:Q (α×β))(i:I),gT ke ve b l→(Instr.findAsking kt (ke a) b i).run P w=.ok ((findAt a l i).map λq=>(q.1,ve q.2)) w|[],l,i,h=>by have:l=[]:=by{unfold gT at h;cases l<;>simp at h⊢};subst this;simp[Instr.findAsking,findAt]|e::b,l,i,h=>by obtain⟨p,d,rfl,f,g,j⟩:=qi h;simp only[Instr.findAsking,Z8,f,c.eq,Z5,findAt];by_cases hq:a=p.1;{simp[hq,g]};{simp[hq,Bh c a w b d (i+1) j]}
theorem P4{d:TypeDesc}(g:∀a b,Instr.sameNow d (ke a) (ke b)=V∨Instr.sameNow d (ke a) (ke b)=Z (K (a=b)))(a:α):∀(c:Q MapEntry)(l:Q (α×β))(i:I),gT ke ve c l→Instr.findNow d (ke a) c i=V∨Instr.findNow d (ke a) c i=Z ((findAt a l i).map λq=>(q.1,ve q.2))|[],l,i,h=>by have:l=[]:=by{unfold gT at h;cases l<;>simp at h⊢};subst this;exact .inr rfl|e::c,l,i,h=>by obtain⟨p,j,rfl,k,n,o⟩:=qi h;unfold Instr.findNow;rw[k];(rcases g a p.1 with f|f);{rw[f];exact .inl rfl};{rw[f];by_cases hq:a=p.1;{right;simp[findAt,hq,n]};{simp only[hq,decide_false,findAt,if_false];exact P4 g a c j (i+1) o}}
theorem re(e:l0 P kt ke)(a:α)(w:G)(b:Q MapEntry)(l:Q (α×β))(h:gT ke ve b l):(Instr.findKey kt (ke a) b).run P w=.ok ((findAt a l 0).map λq=>(q.1,ve q.2)) w:=by obtain⟨d,f,g⟩:=e.und;simp only[Instr.findKey,Z8,Xs f,Z5];(rcases P4 (ve:=ve) g a b l 0 h with c|c);{rw[c];exact Bh e a w b l 0 h};{rw[c];rfl}
def eo(a:α)(b:β):Q (α×β)→Q (α×β)|[]=>[(a,b)]|p::l=>if a=p.1 then(a,b)::l else p::eo a b l
theorem wX{a:α}:∀{l:Q (α×β)}{i j:I}{v:β},findAt a l i=Z (j,v)→i≤j|[],i,j,v,h=>by simp[findAt]at h|p::l,i,j,v,h=>by unfold findAt at h;split at h;{simp at h;omega};{have:=wX h;omega}
theorem Hj{a:α}{b:β}{f:MapEntry→MapEntry}(g:∀e,e.key=ke a→(f e).key=ke a∧(f e).val=ve b):∀{c:Q MapEntry}{l:Q (α×β)}{i j:I}{v:β},gT ke ve c l→findAt a l i=Z (i+j,v)→gT ke ve (c.modify j f) (eo a b l)|[],l,i,j,v,h,hf2=>by have:l=[]:=by{unfold gT at h;cases l<;>simp at h⊢};subst this;simp[findAt]at hf2|e::c,l,i,j,v,h,hf2=>by obtain⟨p,x,rfl,k,o,d⟩:=qi h;unfold findAt at hf2;unfold eo;by_cases hq:a=p.1;{rw[Xh hq]at hf2⊢;have:j=0:=by{simp at hf2;omega};subst this;obtain⟨q,r⟩:=g e (by rw[k,hq]);unfold gT at d⊢;simp[Q.modify,q,r,d]};{rw[Xf hq]at hf2⊢;have s:=wX hf2;obtain⟨j,rfl⟩:∃u,j=u+1:=⟨j-1,Za⟩;have n:=Hj (f:=f) g (i:=i+1) (j:=j) (v:=v) d (by rw[hf2];congr 2;omega);unfold gT at n⊢;simp only[Q.modify_succ_cons,ZT,n,k,o]}
theorem FR{a:α}:∀{b:Q MapEntry}{l:Q (α×β)}{i j:I}{v:β},gT ke ve b l→findAt a l i=Z (i+j,v)→∃e,b[j]?=Z e∧e.key=ke a|[],l,i,j,v,h,hf2=>by have:l=[]:=by{unfold gT at h;cases l<;>simp at h⊢};subst this;simp[findAt]at hf2|e::b,l,i,j,v,h,hf2=>by obtain⟨p,q,rfl,c,r,d⟩:=qi h;unfold findAt at hf2;by_cases hq:a=p.1;{rw[Xh hq]at hf2;have:j=0:=by{simp at hf2;omega};subst this;exact⟨e,rfl,by rw[c,hq]⟩};{rw[Xf hq]at hf2;have f:=wX hf2;obtain⟨j,rfl⟩:∃g,j=g+1:=⟨j-1,Za⟩;obtain⟨k,n,o⟩:=FR (i:=i+1) (j:=j) (v:=v) d (by rw[hf2];congr 2;omega);exact⟨k,by simpa using n,o⟩}
theorem ED{a:α}{b:β}:∀{l:Q (α×β)}{i:I},findAt a l i=V→eo a b l=l++[(a,b)]|[],_,_=>rfl|p::l,i,h=>by unfold findAt at h;unfold eo;by_cases hq:a=p.1;{rw[Xh hq]at h;cases h};{rw[Xf hq]at h⊢;rw[ED h];rfl}
end
def iL{α β:Type}(ke:α→Xe)(ve:β→Xe)(m:Xj I)(l:Q (α×β)):HP:=λf=>∃b c a,m=Z b∧gT ke ve c.toList l∧f=aO.one b (.map c a)
section
variable{P:Xk}{α β:Type}[XP α]{ke:α→Xe}{ve:β→Xe}{kt vt t:Xn}{E w:G}{F:Q HP}{m:Xj I}{l:Q (α×β)}
theorem Hp.Ct(h:Hp E w (iL ke ve m l::F)):∃b d c,m=Z b∧gT ke ve d.toList l∧Hp E w (ag b (.map d c)::F):=by obtain⟨f,a,g,k,i,e,⟨b,d,c,j,n,o⟩,p⟩:=h.frag;exact⟨b,d,c,j,n,h.os,h.output,h.tape,f,a,g,k,i,e,o,p⟩
theorem Hp.KV{b a:I}{c:Xi MapEntry}(h:Hp E w (ag b (.map c a)::F))(d:gT ke ve c.toList l):Hp E w (iL ke ve (Z b) l::F):=h.Tv λ_ e=>⟨b,c,a,O,d,e⟩
theorem run_makeMap{K:Xj I→G→Prop}(h:Hp E w F)(a:∀m w',Hp E w' (iL ke ve m []::F)→K m w'):ar P (Z7 t V) kM w K:=by unfold ar;have e:(Z7 t V).run P w=.ok (.map (Z w.heap.size)) (w.alloc (.map #[] 0)):=O;rw[e];exact a _ _ (Hp.KV (h.alloc _) O)
theorem bT(s:l0 P kt ke)(z:P.underlying t=Z (.map kt vt)){a:α}{b:β}{K:Xe→G→Prop}(h:Hp E w (iL ke ve m l::F))(B:∀w',Hp E w' (iL ke ve m (eo a b l)::F)→K Xv w'):ar P (do Zi t (.map m) (ke a) (ve b);XD Xv) kV w K:=by obtain⟨r,k,c,rfl,n,A⟩:=h.Ct;have u:=A.ax;have f:=re (ve:=ve) s a w k.toList l n;have key:∀g d,(do Zi t (.map (Z r)) (ke a) (ve b);XD Xv:Sem Xe).run P w=.ok Xv {w with heap:=w.heap.setIfInBounds r (.map g d)}→gT ke ve g.toList (eo a b l)→ar P (do Zi t (.map (Z r)) (ke a) (ve b);XD Xv) kV w K:=by{intro g d C D;unfold ar;rw[C];exact B _ (Hp.KV (A.setObj rfl rfl rfl rfl) D)};cases hf:findAt a l 0 with|none=>rw[hf]at f;refine key (k.push ⟨ke a,ve b,c⟩) (c+1) ?_ ?_;{simp[Zi,Xs z,MapKept.run_getObj_map u,s.check,f,MapKept.run_setObj_map _ u]};{rw[ED hf];unfold gT at n⊢;simp[n]}|some q=>obtain⟨j,v⟩:=q;rw[hf]at f;have o:(Instr.findKey kt (ke a) k.toList).run P w=.ok (Z (j,ve v)) w:=f;have p:((k[j]?).map (·.key)).getD (ke a)=ke a:=by{obtain⟨e,x,y⟩:=FR (ke:=ke) (ve:=ve) n (i:=0) (j:=j) (v:=v) (by simpa using hf);have:k[j]?=Z e:=by{simpa using x};rw[this];exact y};refine key (k.modify j λe=>{e with key:=ke a,val:=ve b}) c ?_ ?_;{simp[Zi,Xs z,MapKept.run_getObj_map u,s.check,o,p,Instr.keyThatStays,s.same,MapKept.run_setObj_map _ u]};{rw[Xi.toList_modify];exact Hj (ke:=ke) (ve:=ve) (a:=a) (b:=b) (λe _=>⟨rfl,rfl⟩) n (i:=0) (j:=j) (v:=v) (by simpa using hf)}
theorem B5(c:l0 P kt ke)(e:P.underlying t=Z (.map kt vt)){a:α}{z:Xe}(g:∀w,(XI vt).run P w=.ok z w)(h:Hp E w (iL ke ve m l::F)):(Yo t (.map m) (ke a) H).run P w=.ok (.tuple #[(match findAt a l 0 with|some q=>ve q.2|none=>z),.bool (findAt a l 0).isSome]) w:=by obtain⟨r,i,d,rfl,j,k⟩:=h.Ct;have f:=k.ax;have b:=re (ve:=ve) c a w i.toList l j;cases hf:findAt a l 0 with|none=>rw[hf]at b;simp[Yo,Xs e,MapKept.run_getObj_map f,c.check,b,g]|some q=>rw[hf]at b;simp[Yo,Xs e,MapKept.run_getObj_map f,c.check,b]
end
section
variable{P:Xk}{α β:Type}[XP α]{ke:α→Xe}{ve:β→Xe}{kt vt t ty:Xn}{E w:G}{F:Q HP}{m:Xj I}{l:Q (α×β)}
theorem Jy(c:l0 P kt ke)(e:P.underlying t=Z (.map kt vt)){a:α}{z:Xe}(g:∀w,(XI vt).run P w=.ok z w)(h:Hp E w (iL ke ve m l::F)):(Yo t (.map m) (ke a) U).run P w=.ok (match findAt a l 0 with|some q=>ve q.2|none=>z) w:=by obtain⟨r,i,d,rfl,j,k⟩:=h.Ct;have f:=k.ax;have b:=re (ve:=ve) c a w i.toList l j;cases hf:findAt a l 0 with|none=>rw[hf]at b;simp[Yo,Xs e,MapKept.run_getObj_map f,c.check,b,g]|some q=>rw[hf]at b;simp[Yo,Xs e,MapKept.run_getObj_map f,c.check,b]
end
end
section
def ac5{v c:I}(g:v<16777216)(h:c<256):gO .u32 (br .u32 (v:J) 8) (u32 (c:J))=((256*v+c:I):J):=by have d:YN .u32=4294967295:=O;have e:br .u32 (v:J) 8=((v*256:I):J):=by{have:=dv (k:=.u32) (a:=v) (b:=8) Zb (by rw[d];omega);simpa using this};have f:v*256|||c=256*v+c:=by{rw[Yj v 256];exact(YT (i:=8) Za v).symm};rw[e,jE Za,lp (by rw[d];omega) (by rw[d];omega) Ze,f]
end
end Go.Vc
namespace Go.Hd
section
open Go.Inc Go.Srt
def uf(s:HS):Prop:=s.at_≤3∧(s.at_<3→s.v=0)∧s.v≤65536
def jh(n:I)(m:MS):Prop:=(m.at_=0∧m=dX)∨(m.at_=1∧m.v≤n∧m.M=0∧m.P=0∧m.sum=0∧m.many=0)∨(m.at_=2∧1≤m.M∧m.M≤n∧m.v≤m.M∧m.P=0∧m.sum=0∧m.many=0)∨(m.at_=3∧1≤m.M∧m.M≤n∧1≤m.P∧m.P≤m.M∧m.v=0∧m.many≤3∧m.sum<256^m.many)∨(m.at_=5∧m.M=0∧m.P=0∧m.v=0∧m.many≤3∧m.sum<256^m.many)
def tC{s b:HS}{c:I}(h:uf s)(d:c<256)(a:bu s c=.more b):uf b:=by unfold bu at a;split at a;{split at a;{cases a;exact⟨by dsimp only;omega,λ_=>rfl,by dsimp only;omega⟩};{cases a}};{split at a;{cases a};{cases a};{rename_i n e;cases a;exact⟨by dsimp only;omega,λh=>by dsimp only at h;omega,(iq d e).1⟩}}
def DT{s:HS}{c n:I}(b:c<256)(a:bu s c=.fin n):1≤n∧n≤65536:=by unfold bu at a;split at a;{grind};{split at a;{cases a};{rename_i n d;cases a;have:=iq b d;omega};{cases a}}
def ta{n:I}{s g:MS}{c:I}(h:jh n s)(f:c<256)(a:aP n s c=.more g):jh n g:=by obtain⟨i,v,M,P,e,b⟩:=s;unfold jh at h;unfold aP at a;dsimp only at h a;split at a;{split at a;{cases a;right;right;right;right;simp};{split at a;{cases a;right;left;simp};{cases a}}};{split at a;{split at a;{cases a};{rename_i m d;have:=iq f d;cases a;right;right;left;simp;omega};{rename_i m d;have:=iq f d;cases a;right;left;simp;omega}};{split at a;{split at a;{cases a};{rename_i m d;have:=iq f d;cases a;right;right;right;left;simp;omega};{rename_i m d;have:=iq f d;cases a;right;right;left;simp;omega}};{split at a;{grind};{cases a;rename_i k;(rcases h with⟨h,_⟩|⟨h,_⟩|⟨h,_⟩|⟨h,j⟩|⟨h,j⟩);{omega};{omega};{omega};{right;right;right;left;simp only;have:256*e+c<256^(b+1):=by{rw[Yu];omega};refine⟨h,?_⟩;omega};{right;right;right;right;simp only;have:256*e+c<256^(b+1):=by{rw[Yu];omega};refine⟨h,?_⟩;omega}}}}}
def qB{n:I}{s:MS}{c:I}{M P u:I}(h:jh n s)(a:aP n s c=.fin (.ax M P u)):1≤M∧M≤n∧1≤P∧P≤M:=by obtain⟨d,v,f,g,e,b⟩:=s;unfold jh at h;unfold aP at a;dsimp only at h a;split at a;{grind};{split at a;{split at a<;>cases a};{split at a;{grind};{grind}}}
end
end Go.Hd
namespace Go.Proofs.Q9
section
open Go Go.Vc Go.Srt Go.Inc Go.Hd
abbrev T2:=J×J×Unit
abbrev hsT(s:HS):J×J×J×J×Unit:=((s.at_:J),(s.v:J),(vm s.v:J),0,())
abbrev msT(m:MS):J×J×J×J×J×J×J×Unit:=((m.at_:J),(m.v:J),(vm m.v:J),(m.M:J),(m.P:J),(m.sum:J),(m.many:J),())
section
variable{E w:G}{F:Q HP}
theorem aar:Tryz.prog.underlying 3=Z (.int .i64):=Zc
theorem oH:l0 Zf (α:=J) 3 (λn=>Yx .i64 n)where und:=⟨_,aar,λa b=>.inr O⟩;check:=λe a w=>by{have:∀(e:Xg)(c:J)(w:G),(Instr.checkKey e 10000 3 (.int .i64 c)).run Zf w=.ok () w:=λe c w=>Zc;exact this e a w};eq:=λa b w=>by{exact(run_equalIn_int w 9999 _ _ _ _ _ aar).trans (by rw[show(a==b)=K (a=b)from O])};same:=λa=>by simp[Instr.sameBits]
theorem eJ{a b c:J}{K:Xg→G→Prop}(e:K (XB (b≤a∧a≤c)) w):Cl Zf [kB] 187 ⟨[.int .i64 a,.int .i64 b,.int .i64 c]⟩ w K:=by refine Fl.ok _ _ _ _ _ ?_;(first|refine aa.dm (λd=>?_) (λd=>?_)|refine aa.em (λd=>?_) (λd=>?_)|refine aa.nm (λd=>?_) (λd=>?_)|refine aa.mk (λd=>?_) λd=>?_);{grind};{grind}
theorem C1{v:I}{a:J}{K:Xg→G→Prop}(h:Hp E w F)(c:v≤65536)(d:(v:J)≤a)(e:∀w',Hp E w' F→K H w'):Cl Zf [kB] 331 ⟨[.agg ⟨[.int .i64 (v:J),.int .i64 (vm v:J)]⟩,.int .i64 a]⟩ w K:=by refine GY.ok ((v:J),(vm v:J),()) _ _ _ ?_;(try simp only[aj,Zr]);(with_reducible repeat first|refine Nw.mk h λb w h=>?_|refine Ld.xt h O ?_);refine Ir h c λw h=>?_;(with_reducible repeat first|refine Ld.xb h O ?_|refine aa.yes ?_);exact fT (Xt d) (e _ h.tl)
theorem Hy{v c most:I}{K:T2→Xg→Xg→G→Prop}(h:Hp E w F)(j:v≤most)(l:most≤65536)(g:c<256)(a:grow most v c=V→∀o d w',Hp E w' F→K o d U w')(i:∀n d,grow most v c=Z (n,d)→∀k w',(d=U→k=(vm n:J))→Hp E w' F→K ((n:J),k,()) d H w'):Cl Zf [.st [.int .i64,.int .i64],kB,kB] 258 ⟨[.agg ⟨[.int .i64 (v:J),.int .i64 (vm v:J)]⟩,.int .u8 (c:J),.int .i64 (most:J)]⟩ w K:=by refine JG.ok ((v:J),(vm v:J),()) _ _ _ _ ?_;(try simp only[aj,Zr]);(with_reducible repeat first|refine Nw.mk h λb w h=>?_|refine Ld.xt h rfl ?_);refine Vu h Za g (λf w h=>?_) λf w h=>?_;{(with_reducible repeat first|refine Ld.xt h rfl ?_|refine ak.xw h rfl rfl λw h=>?_|refine aa.no ?_);exact a (by unfold grow;rw[Xh f]) _ _ _ h.tl};{(with_reducible repeat first|refine Ld.xb h rfl ?_|refine Ld.xt h rfl ?_|refine ak.xw h rfl rfl λw h=>?_|refine aa.yes ?_);by_cases hc1:c<128;{rw[Xt hc1];by_cases hle:128*v+c%128≤most;{(with_reducible repeat first|refine Ld.xb h rfl ?_|refine Ld.xt h rfl ?_|refine ak.xw h rfl rfl λw h=>?_|refine aa.no ?_|refine aa.yes ?_);(try simp only[]);(skip);by_cases h0:0<128*v+c%128;{refine fT (Xt Za) (i _ H ?_ _ _ (λe=>by cases e) h.tl);unfold grow;rw[Xf f,Xh ⟨hle,λ_=>h0⟩,Xt hc1]};{refine fT (Xq Za) (a ?_ _ _ _ h.tl);unfold grow;rw[Xf f,Xf λe=>h0 (e.2 hc1)]}};{(with_reducible repeat first|refine Ld.xt h rfl ?_|refine ak.xw h rfl rfl λw h=>?_|refine aa.no ?_);refine a ?_ _ _ _ h.tl;unfold grow;rw[Xf f,Xf λe=>hle e.1]}};{rw[Xq hc1];by_cases hle:128*v+c%128≤most;{(with_reducible repeat first|refine Ld.xt h rfl ?_|refine ak.xw h rfl rfl λw h=>?_|refine aa.yes ?_);(try simp only[]);(skip);refine i _ U ?_ _ _ (λ_=>by rw[KF Za Za g f]) h.tl;unfold grow;rw[Xf f,Xh ⟨hle,λe=>Xu e hc1⟩,Xq hc1]};{(with_reducible repeat first|refine Ld.xt h rfl ?_|refine ak.xw h rfl rfl λw h=>?_|refine aa.no ?_);refine a ?_ _ _ _ h.tl;unfold grow;rw[Xf f,Xf λe=>hle e.1]}}}
theorem TD{s:HS}{K:Xg→G→Prop}(h:Hp E w F)(f:uf s)(c:∀w',Hp E w' F→K H w'):Cl Zf [kB] 257 ⟨[.agg ⟨[.int .i64 (s.at_:J),.int .i64 (s.v:J),.int .i64 (vm s.v:J),.int .i64 0]⟩]⟩ w K:=by obtain⟨a,v⟩:=s;obtain⟨g,d,e⟩:=f;dsimp only at g d e⊢;refine Hg.ok ((a:J),(v:J),(vm v:J),0,()) _ _ ?_;(try simp only[aj,Zk,Zr]);(with_reducible repeat first|refine Nw.mk h λb w h=>?_|refine Ld.xb h O ?_);by_cases ha:a=3;{subst ha;(with_reducible repeat first|refine Ld.xt h O ?_|refine aa.yes ?_);refine C1 h e Za λw h=>?_;(with_reducible repeat first|refine Ld.xb h O ?_|refine aa.yes ?_);exact c _ h.tl};{(with_reducible repeat first|refine Ld.xb h O ?_|refine aa.no ?_);refine eJ ?_;(with_reducible repeat first|refine Ld.xb h O ?_|refine Ld.xt h O ?_|refine aa.yes ?_);have:=d Za;subst this;refine fT ?_ (c _ h.tl);simp[vm]}
theorem VL{s:HS}{c:I}{K:J×J×J×J×Unit→Xg→J→G→Prop}(h:Hp E w F)(q:uf s)(r:c<256)(l:∀m w',bu s c=.more m→Hp E w' F→K (hsT m) U 0 w')(t:∀n w',bu s c=.fin n→Hp E w' F→K (4,0,0,(n:J),()) H 0 w')(g:∀e o w',bu s c=.bad e→Hp E w' F→K o U (e:J) w'):Cl Zf [.st [.int .i64,.int .i64,.int .i64,.int .i64],kB,kI] 186 ⟨[.agg ⟨[.int .i64 (s.at_:J),.int .i64 (s.v:J),.int .i64 (vm s.v:J),.int .i64 0]⟩,.int .u8 (c:J)]⟩ w K:=by obtain⟨a,v⟩:=s;obtain⟨p,i,j⟩:=q;dsimp only at p i j⊢;refine JI.ok ((a:J),(v:J),(vm v:J),0,()) _ _ _ ?_;(try simp only[aZ,aj,Zk,Zr,db]);(with_reducible repeat first|refine Nw.mk h λb w h=>?_|refine Ld.xt h rfl ?_);refine TD (s:=⟨a,v⟩) h ⟨p,i,j⟩ λw h=>?_;(try simp only[Xg.not_true,bX]);(with_reducible repeat first|refine Ld.xb h rfl ?_|refine aa.no ?_);by_cases ha:a<3;{have:=i ha;subst this;have u:((lR (ZP #[87,80,1]) ((a:J)).toNat:J))=((mK a:I):J):=by{rw[Zm];have:a=0∨a=1∨a=2:=by{omega};rcases this with rfl|rfl|rfl<;>rfl};(with_reducible repeat first|refine Ld.xb h rfl ?_|refine aa.yes ?_|refine⟨by first|omega|decide,?_⟩);rw[u];refine⟨by have:(((ZP #[87,80,1]).size:I):J)=3:=rfl;omega,?_⟩;by_cases hcm:c=mK a;{refine aa.et Za ?_;(with_reducible repeat first|refine Ld.xb h rfl ?_|refine Ld.xt h rfl ?_|refine ak.xw h rfl rfl λw h=>?_);rw[ae Za];exact l ⟨a+1,0⟩ _ (by unfold bu;dsimp only;rw[Xh ha,Xh hcm]) h.tl};{refine aa.ef Za ?_;(with_reducible refine Ld.xb h rfl ?_);by_cases ha2:a=2;{(with_reducible repeat first|refine Ld.xb h rfl ?_|refine Ld.xt h rfl ?_|refine ak.xw h rfl rfl λw h=>?_|refine aa.yes ?_|refine aa.no ?_);exact g 241 _ _ (by unfold bu;dsimp only;rw[Xh ha,Xf hcm,Xh ha2]) h.tl};{(with_reducible repeat first|refine Ld.xt h rfl ?_|refine ak.xw h rfl rfl λw h=>?_|refine aa.yes ?_);exact g 240 _ _ (by unfold bu;dsimp only;rw[Xh ha,Xf hcm,Xf ha2]) h.tl}}};{(with_reducible repeat first|refine Ld.xb h rfl ?_|refine Ld.xt h rfl ?_|refine aa.no ?_);refine Hy (most:=65536) h j Za r (λf o d w h=>?_) λn d f k w x h=>?_;{(with_reducible repeat first|refine Nw.mk h λb w h=>?_|refine Ld.xt h rfl ?_|refine ak.xw h rfl rfl λw h=>?_|refine aa.yes ?_);(try simp only[]);(skip);exact g 242 _ _ (by unfold bu;dsimp only;rw[Xf ha,f]) h.tl};{cases d;{have:=x rfl;subst this;(with_reducible repeat first|refine Nw.mk h λb w h=>?_|refine Ld.xt h rfl ?_|refine ak.xw h rfl rfl λw h=>?_|refine aa.no ?_);(try simp only[]);(skip);exact l ⟨3,n⟩ _ (by unfold bu;dsimp only;rw[Xf ha,f]) h.tl};{(with_reducible repeat first|refine Nw.mk h λb w h=>?_|refine Ld.xb h rfl ?_|refine Ld.xt h rfl ?_|refine ak.xw h rfl rfl λw h=>?_|refine aa.no ?_|refine aa.yes ?_);(try simp only[]);(skip);exact t n _ (by unfold bu;dsimp only;rw[Xf ha,f]) h.tl}}}
theorem Ph{s m:I}{K:Xg→G→Prop}(c:m≤3)(a:s<256^m)(b:K H w):Cl Zf [kB] 333 ⟨[.int .u32 (s:J),.int .i64 (m:J)]⟩ w K:=by refine Jq.ok _ _ _ _ ?_;refine eJ ?_;(with_reducible refine aa.yes ?_);rw[ae Za];refine⟨Za,fT ?_ b⟩;rw[show(8*(m:J))=((8*m:I):J) by omega,jM (by have:m=0∨m=1∨m=2∨m=3:=by{omega};rcases this with rfl|rfl|rfl|rfl<;>simp at a<;>omega),cw (by have:Xy.bits .u64=64:=rfl;omega),I.pow_mul,Y5 Ze];rfl
theorem TB{n:I}{m:MS}{K:Xg→G→Prop}(h:Hp E w F)(s:1≤n)(q:n≤65536)(k:jh n m)(f:∀w',Hp E w' F→K H w'):Cl Zf [kB] 263 ⟨[.int .i64 (n:J),.agg ⟨[.int .i64 (m.at_:J),.int .i64 (m.v:J),.int .i64 (vm m.v:J),.int .i64 (m.M:J),.int .i64 (m.P:J),.int .u32 (m.sum:J),.int .i64 (m.many:J)]⟩]⟩ w K:=by obtain⟨l,v,M,P,o,g⟩:=m;unfold jh at k;dsimp only at k⊢;refine zf.ok _ ((l:J),(v:J),(vm v:J),(M:J),(P:J),(o:J),(g:J),()) _ _ ?_;(try simp only[aZ,aj,Zk,Zr,bX]);(with_reducible repeat first|refine Nw.mk h λb w h=>?_|refine Ld.xb h rfl ?_|refine Ld.xt h rfl ?_|refine ak.xw h rfl rfl λw h=>?_);refine eJ ?_;(rcases k with⟨a,d⟩|⟨a,d,i,j,e,c⟩|⟨a,d,i,j,e,c,p⟩|⟨a,d,i,j,e,c,p,r⟩|⟨a,d,i,j,e,c⟩);{cases d;(with_reducible refine aa.no ?_);refine eJ ?_;(with_reducible repeat first|refine Ld.xb h rfl ?_|refine Ld.xt h rfl ?_|refine aa.yes ?_|refine aa.no ?_);exact f _ h.tl};{subst a i j e c;(with_reducible refine aa.no ?_);refine eJ ?_;(with_reducible repeat first|refine Ld.xb h rfl ?_|refine Ld.xt h rfl ?_|refine aa.yes ?_|refine aa.no ?_);refine C1 h Za Za λw h=>?_;(with_reducible repeat first|refine Ld.xt h rfl ?_|refine aa.yes ?_);refine fT ?_ (f _ h.tl);simp};{subst a e c p;(with_reducible repeat first|refine Ld.xb h rfl ?_|refine aa.yes ?_);refine eJ ?_;(skip);refine eJ ?_;(with_reducible repeat first|refine Ld.xb h rfl ?_|refine aa.yes ?_|refine aa.no ?_);refine eJ ?_;(with_reducible repeat first|refine Ld.xb h rfl ?_|refine Ld.xt h rfl ?_|refine aa.yes ?_);refine C1 h Za Za λw h=>?_;(with_reducible repeat first|refine Ld.xb h rfl ?_|refine Ld.xt h rfl ?_|refine aa.yes ?_);refine fT ?_ (f _ h.tl);simp};{subst a c;(with_reducible repeat first|refine Ld.xb h rfl ?_|refine aa.yes ?_);refine eJ ?_;rw[Xt (show 1≤(P:J)∧(P:J)≤(M:J) by omega)];refine eJ ?_;(with_reducible repeat first|refine Ld.xb h rfl ?_|refine aa.yes ?_|refine aa.no ?_);refine Ph p r ?_;(with_reducible repeat first|refine Ld.xt h rfl ?_|refine aa.yes ?_);exact f _ h.tl};{subst a d i j;(with_reducible refine aa.no ?_);refine eJ ?_;(with_reducible repeat first|refine Ld.xb h rfl ?_|refine aa.yes ?_|refine aa.no ?_);refine Ph e c ?_;(with_reducible repeat first|refine Ld.xb h rfl ?_|refine Ld.xt h rfl ?_|refine aa.yes ?_);refine fT ?_ (f _ h.tl);simp[vm]}
end
end
end Go.Proofs.Q9
namespace Go.Vc
section
open Go
section
variable{P:Xk}{α β:Type}[XP α]{ke:α→Xe}{ve:β→Xe}{kt vt t:Xn}{E w:G}{F:Q HP}{m:Xj I}{l:Q (α×β)}
theorem nv.fn{t:Fn}{a b:Xi Xe}{K:Xg→Prop}(h:K U):nv (.func t a b) K:=h
theorem ar.found(b:l0 P kt ke)(c:P.underlying t=Z (.map kt vt)){a:α}{q:I×β}{z:Xe}{k:Ki}{x:k.T}{K:k.T→G→Prop}(d:∀w,(XI vt).run P w=.ok z w)(h:Hp E w (iL ke ve m l::F))(e:findAt a l 0=Z q)(f:ve q.2=k.enc x)(g:K x w):ar P (Yo t (.map m) (ke a) U) k w K:=by unfold ar;rw[Jy b c d h,e];dsimp only;rw[f];exact Ki.oK.2 g
end
end
end Go.Vc
namespace Go.Proofs.Q9
section
open Go Go.Vc Go.Srt Go.Inc Go.Hd
abbrev qy:=J×J×J×J×J×J×J×Unit
section
variable{E w:G}{F:Q HP}
def PK(n:I)(m:MS)(c:I)(E:G)(F:Q HP)(K:qy→Xg→G→Prop):Prop:=(∀a w',aP n m c=.more a→a.at_≠4→a.at_≠6→Hp E w' F→K (msT a) H w')∧(∀M P u w',aP n m c=.fin (.ax M P u)→Hp E w' F→K (4,0,0,(M:J),(P:J),(u:J),4,()) H w')∧(∀u w',aP n m c=.fin (.tail u)→Hp E w' F→K (6,0,0,0,0,(u:J),4,()) H w')∧(∀e o w',aP n m c=.bad e→e=242→Hp E w' F→K o U w')
theorem WQ{n:I}{c:I}{K:qy→Xg→G→Prop}(h:Hp E w F)(f:c<256)(d:PK n dX c E F K):Cl Zf [.st [.int .i64,.int .i64,.int .i64,.int .i64,.int .i64,.int .u32,.int .i64],kB] 259 ⟨[.int .i64 (n:J),.agg ⟨[.int .i64 0,.int .i64 0,.int .i64 0,.int .i64 0,.int .i64 0,.int .u32 0,.int .i64 0]⟩,.int .u8 (c:J)]⟩ w K:=by obtain⟨a,_,_,e⟩:=d;refine Jl.ok _ (0,0,0,0,0,0,0,()) _ _ _ ?_;(try simp only[aj,Zr]);(with_reducible repeat first|refine Nw.mk h λb w h=>?_|(refine St.xs h rfl rfl λw h=>?_;dsimp only[aQ,over]at h));by_cases h0:c=0;{subst h0;(with_reducible repeat first|refine Ld.xt h rfl ?_|refine ak.xw h rfl rfl λw h=>?_|(refine St.xs h rfl rfl λw h=>?_;dsimp only[aQ,over]at h)|refine aa.yes ?_);exact a ⟨5,0,0,0,0,0⟩ _ rfl (by dsimp only;decide) (by dsimp only;decide) h.tl};{(with_reducible repeat first|refine Ld.xt h rfl ?_|refine ak.xw h rfl rfl λw h=>?_|refine aa.no ?_);by_cases h1:c=1;{subst h1;exact a ⟨1,0,0,0,0,0⟩ _ rfl (by dsimp only;decide) (by dsimp only;decide) h.tl};{refine fT (Xq Za) (e 242 _ _ ?_ rfl h.tl);unfold aP dX;simp[h0,h1]}}
theorem WM{n v:I}{c:I}{K:qy→Xg→G→Prop}(h:Hp E w F)(g:n≤65536)(i:v≤n)(j:c<256)(p:PK n ⟨1,v,0,0,0,0⟩ c E F K):Cl Zf [.st [.int .i64,.int .i64,.int .i64,.int .i64,.int .i64,.int .u32,.int .i64],kB] 260 ⟨[.int .i64 (n:J),.agg ⟨[.int .i64 1,.int .i64 (v:J),.int .i64 (vm v:J),.int .i64 0,.int .i64 0,.int .u32 0,.int .i64 0]⟩,.int .u8 (c:J)]⟩ w K:=by obtain⟨e,_,_,f⟩:=p;refine Jw.ok _ (1,(v:J),(vm v:J),0,0,0,0,()) _ _ _ ?_;(try simp only[aj,Zk,Zr]);(with_reducible repeat first|refine Nw.mk h λb w h=>?_|refine Ld.xt h rfl ?_);refine Hy h i g j (λa o d w h=>?_) λm d a k w q h=>?_;{(with_reducible repeat first|refine Nw.mk h λb w h=>?_|refine Ld.xt h rfl ?_|refine ak.xw h rfl rfl λw h=>?_|(refine ak.xs h rfl rfl λw h=>?_;dsimp only[aQ,over]at h));cases d;{(with_reducible repeat first|refine Ld.xt h rfl ?_|refine ak.xw h rfl rfl λw h=>?_|refine aa.no ?_);exact f 242 _ _ (by unfold aP;simp[a]) rfl h.tl};{(with_reducible repeat first|refine Ld.xb h rfl ?_|refine Ld.xt h rfl ?_|refine ak.xw h rfl rfl λw h=>?_|refine aa.yes ?_);exact f 242 _ _ (by unfold aP;simp[a]) rfl h.tl}};{cases d;{have:=q rfl;subst this;(with_reducible repeat first|refine Nw.mk h λb w h=>?_|refine Ld.xt h rfl ?_|refine ak.xw h rfl rfl λw h=>?_|(refine ak.xs h rfl rfl λw h=>?_;dsimp only[aQ,over]at h)|refine aa.no ?_);exact e ⟨1,m,0,0,0,0⟩ _ (by unfold aP;simp[a]) (by dsimp only;decide) (by dsimp only;decide) h.tl};{(with_reducible repeat first|refine Nw.mk h λb w h=>?_|refine Ld.xb h rfl ?_|refine Ld.xt h rfl ?_|refine ak.xw h rfl rfl λw h=>?_|(refine ak.xs h rfl rfl λw h=>?_;dsimp only[aQ,over]at h)|refine aa.yes ?_);exact e ⟨2,0,m,0,0,0⟩ _ (by unfold aP;simp[a]) (by dsimp only;decide) (by dsimp only;decide) h.tl}}
theorem VR{n v M:I}{c:I}{K:qy→Xg→G→Prop}(h:Hp E w F)(g:M≤65536)(i:v≤M)(j:c<256)(p:PK n ⟨2,v,M,0,0,0⟩ c E F K):Cl Zf [.st [.int .i64,.int .i64,.int .i64,.int .i64,.int .i64,.int .u32,.int .i64],kB] 261 ⟨[.int .i64 (n:J),.agg ⟨[.int .i64 2,.int .i64 (v:J),.int .i64 (vm v:J),.int .i64 (M:J),.int .i64 0,.int .u32 0,.int .i64 0]⟩,.int .u8 (c:J)]⟩ w K:=by obtain⟨e,_,_,f⟩:=p;refine II.ok _ (2,(v:J),(vm v:J),(M:J),0,0,0,()) _ _ _ ?_;(try simp only[aj,Zk,Zr]);(with_reducible repeat first|refine Nw.mk h λb w h=>?_|refine Ld.xb h rfl ?_|refine Ld.xt h rfl ?_);refine Hy h i g j (λa o d w h=>?_) λm d a k w q h=>?_;{(with_reducible repeat first|refine Nw.mk h λb w h=>?_|refine Ld.xt h rfl ?_|refine ak.xw h rfl rfl λw h=>?_|(refine ak.xs h rfl rfl λw h=>?_;dsimp only[aQ,over]at h));cases d;{(with_reducible repeat first|refine Ld.xt h rfl ?_|refine ak.xw h rfl rfl λw h=>?_|refine aa.no ?_);exact f 242 _ _ (by unfold aP;simp[a]) rfl h.tl};{(with_reducible repeat first|refine Ld.xb h rfl ?_|refine Ld.xt h rfl ?_|refine ak.xw h rfl rfl λw h=>?_|refine aa.yes ?_);exact f 242 _ _ (by unfold aP;simp[a]) rfl h.tl}};{cases d;{have:=q rfl;subst this;(with_reducible repeat first|refine Nw.mk h λb w h=>?_|refine Ld.xt h rfl ?_|refine ak.xw h rfl rfl λw h=>?_|(refine ak.xs h rfl rfl λw h=>?_;dsimp only[aQ,over]at h)|refine aa.no ?_);exact e ⟨2,m,M,0,0,0⟩ _ (by unfold aP;simp[a]) (by dsimp only;decide) (by dsimp only;decide) h.tl};{(with_reducible repeat first|refine Nw.mk h λb w h=>?_|refine Ld.xb h rfl ?_|refine Ld.xt h rfl ?_|refine ak.xw h rfl rfl λw h=>?_|(refine ak.xs h rfl rfl λw h=>?_;dsimp only[aQ,over]at h)|refine aa.yes ?_);exact e ⟨3,0,M,m,0,0⟩ _ (by unfold aP;simp[a]) (by dsimp only;decide) (by dsimp only;decide) h.tl}}
theorem T6{n a M P e d:I}{c:I}{K:qy→Xg→G→Prop}(h:Hp E w F)(g:a=3∨(a=5∧M=0∧P=0))(i:d≤3)(r:e<256^d)(j:c<256)(k:PK n ⟨a,0,M,P,e,d⟩ c E F K):Cl Zf [.st [.int .i64,.int .i64,.int .i64,.int .i64,.int .i64,.int .u32,.int .i64],kB] 262 ⟨[.int .i64 (n:J),.agg ⟨[.int .i64 (a:J),.int .i64 0,.int .i64 0,.int .i64 (M:J),.int .i64 (P:J),.int .u32 (e:J),.int .i64 (d:J)]⟩,.int .u8 (c:J)]⟩ w K:=by obtain⟨o,p,q,s⟩:=k;have f:e<16777216:=by{have:256^d≤256^3:=ZS Zb i;omega};refine MH.ok _ ((a:J),0,0,(M:J),(P:J),(e:J),(d:J),()) _ _ _ ?_;(try simp only[aj,Zk,Zr,Z1]);(with_reducible repeat first|refine Nw.mk h λb w h=>?_|refine Ld.xb h rfl ?_|(refine St.xs h rfl rfl λw h=>?_;dsimp only[aQ,over]at h)|refine⟨by first|omega|decide,?_⟩);rw[ae (x:=(d:J)+1) Za]at h⊢;rw[ac5 f j]at h;by_cases hm3:d=3;{subst hm3;(with_reducible repeat first|refine Ld.xb h rfl ?_|refine Ld.xt h rfl ?_|refine ak.xw h rfl rfl λw h=>?_|(refine St.xs h rfl rfl λw h=>?_;dsimp only[aQ,over]at h)|refine aa.yes ?_);rw[ae Za]at h⊢;(rcases g with rfl|⟨rfl,rfl,rfl⟩);{exact p M P (256*e+c) _ (by unfold aP;simp) h.tl};{exact q (256*e+c) _ (by unfold aP;simp) h.tl}};{(with_reducible repeat first|refine Ld.xt h rfl ?_|refine ak.xw h rfl rfl λw h=>?_|refine aa.no ?_);refine o ⟨a,0,M,P,256*e+c,d+1⟩ _ ?_ ?_ ?_ h.tl;{unfold aP;rcases g with rfl|⟨rfl,rfl,rfl⟩<;>simp[hm3]};{dsimp only;omega};{dsimp only;omega}}
theorem xF:Tryz.prog.underlying 364=Z (.map 3 365):=Zc
theorem OO(w:G):(XI 365).run Zf w=.ok .nilFunc w:=Zc
abbrev fv(i:I):Xe:=.func (.func i) ⟨[]⟩ ⟨[]⟩
theorem LX{n:I}{m:MS}{c:I}{K:qy→Xg→J→G→Prop}(h:Hp E w F)(hn:1≤n)(L:n≤65536)(Y:jh n m)(N:c<256)(p:∀A w',aP n m c=.more A→Hp E w' F→K (msT A) U 0 w')(R:∀M P u w',aP n m c=.fin (.ax M P u)→Hp E w' F→K (4,0,0,(M:J),(P:J),(u:J),4,()) H 0 w')(r:∀u w',aP n m c=.fin (.tail u)→Hp E w' F→K (6,0,0,0,0,(u:J),4,()) H 0 w')(S:∀e o w',aP n m c=.bad e→Hp E w' F→K o U (e:J) w'):Cl Zf [.st [.int .i64,.int .i64,.int .i64,.int .i64,.int .i64,.int .u32,.int .i64],kB,kI] 188 ⟨[.int .i64 (n:J),.agg ⟨[.int .i64 (m.at_:J),.int .i64 (m.v:J),.int .i64 (vm m.v:J),.int .i64 (m.M:J),.int .i64 (m.P:J),.int .u32 (m.sum:J),.int .i64 (m.many:J)]⟩,.int .u8 (c:J)]⟩ w K:=by have d:∀(q:I)(i:I),findAt (m.at_:J) [((0:J),fv 259),(1,fv 260),(2,fv 261),(3,fv 262),(5,fv 262)] 0=Z (q,fv i)→nX Zf i=H→(∀(s:Q HP)(w:G)(K':qy→Xg→G→Prop),Hp E w s→PK n m c E s K'→Cl Zf [.st [.int .i64,.int .i64,.int .i64,.int .i64,.int .i64,.int .u32,.int .i64],kB] i ⟨[.int .i64 (n:J),.agg ⟨[.int .i64 (m.at_:J),.int .i64 (m.v:J),.int .i64 (vm m.v:J),.int .i64 (m.M:J),.int .i64 (m.P:J),.int .u32 (m.sum:J),.int .i64 (m.many:J)]⟩,.int .u8 (c:J)]⟩ w K')→Cl Zf [.st [.int .i64,.int .i64,.int .i64,.int .i64,.int .i64,.int .u32,.int .i64],kB,kI] 188 ⟨[.int .i64 (n:J),.agg ⟨[.int .i64 (m.at_:J),.int .i64 (m.v:J),.int .i64 (vm m.v:J),.int .i64 (m.M:J),.int .i64 (m.P:J),.int .u32 (m.sum:J),.int .i64 (m.many:J)]⟩,.int .u8 (c:J)]⟩ w K:=by{intro q i hq T y;refine BB.ok _ (msT m) _ _ _ ?_;(try simp only[aj,Zr]);refine Nw.mk h λW w h=>Nw.mk h λb7 w h=>?_;refine run_makeMap (ke:=λn:J=>Yx .i64 n) (ve:=λv:Xe=>v) h λmp w h=>?_;refine bT (ke:=λn:J=>Yx .i64 n) (ve:=λv:Xe=>v) (l:=_) oH xF (a:=0) (b:=fv 259) h λw h=>?_;refine bT (ke:=λn:J=>Yx .i64 n) (ve:=λv:Xe=>v) (l:=_) oH xF (a:=1) (b:=fv 260) h λw h=>?_;refine bT (ke:=λn:J=>Yx .i64 n) (ve:=λv:Xe=>v) (l:=_) oH xF (a:=2) (b:=fv 261) h λw h=>?_;refine bT (ke:=λn:J=>Yx .i64 n) (ve:=λv:Xe=>v) (l:=_) oH xF (a:=3) (b:=fv 262) h λw h=>?_;refine bT (ke:=λn:J=>Yx .i64 n) (ve:=λv:Xe=>v) (l:=_) oH xF (a:=5) (b:=fv 262) h λw h=>?_;rw[show eo (5:J) (fv 262) (eo 3 (fv 262) (eo 2 (fv 261) (eo 1 (fv 260) (eo 0 (fv 259) []))))=[((0:J),fv 259),(1,fv 260),(2,fv 261),(3,fv 262),(5,fv 262)]from rfl]at h;(with_reducible refine Ld.xb h rfl ?_);refine ar.found (ke:=λn:J=>Yx .i64 n) (ve:=λv:Xe=>v) oH xF (a:=(m.at_:J)) (x:=fv i) OO h hq rfl ?_;refine nv.fn ?_;have h:=h.drop;(with_reducible repeat first|refine Ld.xt h rfl ?_|refine aa.no ?_);refine TB h hn L Y λw h=>?_;(with_reducible repeat first|refine Ld.xt h rfl ?_|refine aa.no ?_);refine cW.mk T (y _ _ _ h ⟨λA w f g B h=>?_,λM P u w f h=>?_,λu w f h=>?_,λe o w f g h=>?_⟩);{(with_reducible repeat first|refine ak.xw h rfl rfl λw h=>?_|refine aa.no ?_);have h:=h.drew (n:=w.drawn+1);refine⟨bO W _ _ _,h.hb,?_⟩;(with_reducible repeat first|refine aw.xb (λ_ h=>h) rfl ?_|refine aw.xt (λ_ h=>h) rfl ?_);refine aa.ef (show¬(A.at_:J)=4 by omega) ?_;(with_reducible repeat first|refine Ld.xt h rfl ?_|refine aw.xb (λ_ h=>h) rfl ?_|refine⟨h.hb,?_⟩|refine ak.xw h rfl rfl λw h=>?_);have e6:((A.at_:J)==6)=U:=beq_eq_false_iff_ne.2 Za;have j:=p A _ f h.tl;rw[←e6]at j;exact j};{(with_reducible repeat first|refine ak.xw h rfl rfl λw h=>?_|refine aa.no ?_);have h:=h.drew (n:=w.drawn+1);refine⟨bO W _ _ _,h.hb,?_⟩;(with_reducible repeat first|refine Ld.xt h rfl ?_|refine aw.xb (λ_ h=>h) rfl ?_|refine aw.xt (λ_ h=>h) rfl ?_|refine⟨h.hb,?_⟩|refine ak.xw h rfl rfl λw h=>?_|refine aa.yes ?_);exact R M P u _ f h.tl};{(with_reducible repeat first|refine ak.xw h rfl rfl λw h=>?_|refine aa.no ?_);have h:=h.drew (n:=w.drawn+1);refine⟨bO W _ _ _,h.hb,?_⟩;(with_reducible repeat first|refine Ld.xt h rfl ?_|refine aw.xb (λ_ h=>h) rfl ?_|refine aw.xt (λ_ h=>h) rfl ?_|refine⟨h.hb,?_⟩|refine ak.xw h rfl rfl λw h=>?_|refine aa.no ?_);exact r u _ f h.tl};{(with_reducible repeat first|refine Ld.xt h rfl ?_|refine ak.xw h rfl rfl λw h=>?_|refine aa.yes ?_);subst g;exact S 242 _ _ f h.tl}};obtain⟨at_,v,M,P,sum,many⟩:=m;have z:=Y;unfold jh at z;dsimp only at z;(rcases z with⟨f,g⟩|⟨f,g,B,C,D,j⟩|⟨f,g,B,C,D,j,X⟩|⟨f,g,B,C,D,j,X,h8⟩|⟨f,g,B,C,D,j⟩);{cases g;exact d 0 259 rfl Zc λs w K' h k=>WQ h N k};{subst f B C D j;exact d 1 260 rfl Zc λs w K' h k=>WM h L g N k};{subst f D j X;exact d 2 261 rfl Zc λs w K' h k=>VR (M:=M) h Za C N k};{subst f j;exact d 3 262 rfl Zc λs w K' h k=>T6 h (.inl rfl) X h8 N k};{subst f g B C;exact d 4 262 rfl Zc λs w K' h k=>T6 h (.inr ⟨rfl,rfl,rfl⟩) D j N k}
end
end
end Go.Proofs.Q9
namespace Go.Pol
section
def layout(n side mode:I):Q I:=if side=1 then(if mode=3 then[n,n,4*XO (n+1) 1024]else[n])else if mode=3 then[n,4*(n+1)]else if mode=2 then[n,1024*(n/1024)]else[n,1024*(n/8192)]
def nN(n side mode:I):Prop:=(side=1∨side=2)∧1≤mode∧mode≤3∧1≤n∧n≤65536
instance(n side mode:I):Decidable (nN n side mode):=by unfold nN;infer_instance
def aV(n side mode:I):I:=(layout n side mode).sum
def aB(a n side:I):I:=if aV n side 3≤a then 3 else if aV n side 2≤a then 2 else if aV n side 1≤a then 1 else 0
def lK{budget n side:I}(h:aB budget n side≠0):aV n side (aB budget n side)≤budget∧1≤aB budget n side∧aB budget n side≤3:=by unfold aB at h⊢;by_cases h3:aV n side 3≤budget;{grind};{grind}
def Nf(n side:I)(a:side=1∨side=2):aV n side 1≤aV n side 2∧aV n side 2≤aV n side 3:=by(rcases a with rfl|rfl);{simp[aV,layout]};{simp[aV,layout];omega}
def Oc{budget n side:I}(a:side=1∨side=2):aB budget n side=0↔budget<aV n side 1:=by have:=Nf n side a;unfold aB;constructor;{grind};{grind}
def places:I→Q I→Q (I×I)|_,[]=>[]|a,k::l=>(a,k)::places (a+k) l
end
end Go.Pol
namespace Go.Vc
section
open Go
def oA{α β:Type}[XP α]{a k:α}{b:β}:∀(l:Q (α×β))(i:I),(findAt k (eo a b l) i).map (·.2)=if k=a then Z b else(findAt k l i).map (·.2)|[],i=>by unfold eo findAt;by_cases h:k=a;{rw[Xh h,Xh h];rfl};{rw[Xf h,Xf h];rfl}|p::l,i=>by unfold eo;by_cases h:a=p.1;{rw[Xh h];unfold findAt;by_cases hk:k=a;{rw[Xh hk,Xh (by rw[hk])];rfl};{rw[Xf hk,Xf (by first|exact hk|(rw[←h];exact hk)),Xf (by rw[←h];exact hk)]}};{rw[Xf h];unfold findAt;by_cases hk:k=p.1;{rw[Xh hk,Xh hk];by_cases hka:k=a;{exact Xu (hka.symm.trans hk) h};{rw[Xf hka]}};{rw[Xf hk,Xf hk];exact oA l (i+1)}}
end
end Go.Vc
namespace Go.Proofs.Q9
section
open Go Go.Vc Go.Pol
set_option maxRecDepth 100000
abbrev Na:Xn:=225
def rb:Xi XC:=OT (wN (Tryz.f135.body.getD .skip) [H,H,U])
def Lw(j:I):I:=[3,6,8,10,12,14].getD j 0
def zK(j:I):J×J:=[((1:J),(1:J)),(1,2),(1,3),(2,1),(2,2),(2,3)].getD j (0,0)
def fnP(j:I):I:=[195,195,196,197,198,199].getD j 0
def vP(j:I):Xe:=.func (.func (fnP j)) ⟨[]⟩ ⟨[]⟩
def pL(a:J×J):Xe:=.agg ⟨[.int .u8 a.1,.int .u8 a.2]⟩
def gP(T r:I):Xg:=I.blt r 15&&(match[3,6,8,10,12,14].findIdx? (YW r)with|some j=>YW (T/2^j%2) 1|none=>H)
def LP(T:I):Xi Xg:=⟨(Zs 17).map (gP T)⟩
def Lb(T:I):Q I:=((Zs 6).filter λj=>YW (T/2^j%2) 0).map Lw
def Gw(T:I):I:=((Zs 6).filter λj=>YW (T/2^j%2) 0).length
def abJ(T:I):Xg:=(Z0 .any rb (LP T)==Lb T)&&((Lb T).find? (lL Pg rb (LP T))).isNone&&((Zs 6).all λj=>YW (T/2^j%2) 1||(((LP T).setIfInBounds (Lw j) H).toList==(LP (T+2^j)).toList&&YW (Gw (T+2^j)+1) (Gw T)&&I.blt (T+2^j) 64&&(Zs 6).all λi=>YW i j||(YW ((T+2^j)/2^i%2) 1==YW (T/2^i%2) 1)))
def U8:((Zs 63).all abJ)=H:=Zc
def WZ:AF:=aM (aM (kK [] 12) 0 (Z (.map V))) 1 (Z (.func (.func 195) ⟨[]⟩ ⟨[]⟩))
def Et(m:Xj I):AF:=aM (aM (aM (aM (aM (aM (aM (aM (aM WZ 3 (Z (pL (1,1)))) 4 (Z (vP 0))) 5 (Z (pL (1,2)))) 6 (Z (vP 0))) 7 (Z (pL (1,3)))) 8 (Z (pL (2,1)))) 9 (Z (pL (2,2)))) 10 (Z (pL (2,3)))) 2 (Z (.map m))
structure KZ (T:I) (l:Q ((J×J)×Xe)):Prop where
 has:∀i,i<6→(findAt (zK i) l 0).map (·.2)=if T/2^i%2=1 then Z (vP i)else V
 no:∀k,(∀i,i<6→k≠zK i)→(findAt k l 0).map (·.2)=V
def aa8:∀i,i<6→∀j,j<6→zK i=zK j→i=j:=Zb
structure StP (T j:I):Prop where
 set:(LP T).setIfInBounds (Lw j) H=LP (T+2^j)
 cz:Gw (T+2^j)+1=Gw T
 lt:T+2^j<64
 bit:∀i,i<6→i≠j→((T+2^j)/2^i%2=1↔T/2^i%2=1)
 one:(T+2^j)/2^j%2=1
def Vq{T:I}(r:T<63):Z0 .any rb (LP T)=Lb T∧(Lb T).find? (lL Pg rb (LP T))=V∧∀j,j<6→T/2^j%2=0→StP T j:=by have c:=List.all_eq_true.1 U8 T Ze;unfold abJ at c;simp only[ZG]at c;obtain⟨⟨f,g⟩,k⟩:=c;refine⟨eq_of_beq f,Option.isNone_iff_eq_none.1 g,λj s l=>?_⟩;have h:=List.all_eq_true.1 k j Ze;rw[l]at h;simp only[YC,ZG]at h;obtain⟨⟨⟨m,n⟩,o⟩,p⟩:=h.resolve_left Zb;refine⟨Xi.ext' (eq_of_beq m),Yi n,Y0 o,λi t d=>?_,?_⟩;{have:=List.all_eq_true.1 p i Ze;simp only[YC]at this;have:=eq_of_beq (this.resolve_left λq=>d (Yi q));have e:∀a b:I,YW a b=H↔a=b:=λa b=>⟨Yi,λh=>by rw[h];exact I.beq_refl b⟩;have:=Xp (·=H) this;simp only[eq_iff_iff,e]at this;exact this};{rw[I.add_div_right _ (Yl j)];omega}
def KZ.aM{T j:I}{l:Q ((J×J)×Xe)}(h:KZ T l)(d:j<6)(f:StP T j):KZ (T+2^j) (eo (zK j) (vP j) l):=by refine⟨λi c=>?_,λk a=>?_⟩;{rw[oA];by_cases e:i=j;{subst e;rw[Xh O,Xh f.one]};{rw[Xf λa=>e (aa8 i c j d a),h.has i c];have:=f.bit i c e;by_cases b:T/2^i%2=1;{grind};{grind}}};{rw[oA,Xf (a j d)];exact h.no k a}
def Vh{T r:I}(h:r∈Lb T):∃j,j<6∧T/2^j%2=0∧r=Lw j:=by obtain⟨j,a,rfl⟩:=List.mem_map.1 h;obtain⟨b,c⟩:=List.mem_filter.1 a;exact⟨j,by simpa using b,Yi c,rfl⟩
def aaX:((Zs 63).all λT=>!(Lb T).isEmpty)=H:=Zc
def Ve:((Zs 64).all λT=>YW T 63||I.blt 0 (Gw T))=H:=Zc
section
variable{E w:G}{F:Q HP}
theorem WW:Tryz.prog.underlying Na=Z (.map 228 223):=Zc
theorem I1:l0 Zf (α:=J×J) 228 pL where und:=⟨_,O,λa b=>.inl O⟩;check:=λe a w=>by{have:∀(e:Xg)(c d:J)(w:G),(Instr.checkKey e 10000 228 (.agg ⟨[.int .u8 c,.int .u8 d]⟩)).run Zf w=.ok () w:=λe c d w=>Zc;exact this e a.1 a.2 w};eq:=λa b w=>by{have f:∀c n d m:J,qM Zf 8 228 (.agg ⟨[.int .u8 c,.int .u8 n]⟩) (.agg ⟨[.int .u8 d,.int .u8 m]⟩) (λr=>r=((c==d)&&(n==m))):=λc n d m=>by{have e:qM Zf 8 228 (.agg ⟨[.int .u8 c,.int .u8 n]⟩) (.agg ⟨[.int .u8 d,.int .u8 m]⟩) (λr=>r=((c==d)&&(n==m)))=(((c==d)&&(n==m))=((c==d)&&(n==m))):=by{kernel_rfl};rw[e]};obtain⟨r,g,h⟩:=ll 8 _ _ _ _ (f a.1 a.2 b.1 b.2);have:=g 10000 Zb w;have e:K (a=b)=((a.1==b.1)&&(a.2==b.2)):=by{rw[Yz];simp[XQ.ext_iff]};rw[e,←h];exact this};same:=λa=>by unfold pL Instr.sameBits;simp[Instr.sameBits]
theorem ad9{S:G→Prop}{J:Xi Xg→AF→G→Prop}{L:Xi Xg}{m:Xj I}:∀j,j<6→bx Pg rb S J L (Et m) w (Lw j)=ar Pg (do Zi Na (.map m) (pL (zK j)) (vP j);XD Xv) kV w λ_ w'=>S w'∧J (L.setIfInBounds (Lw j) H) (Et m) w'|0,_=>Zc|1,_=>Zc|2,_=>Zc|3,_=>Zc|4,_=>Zc|5,_=>Zc|j+6,h=>Za
theorem adZ{S:G→Prop}{K:AF→G→Prop}{m:Xj I}:aG Pg rb S K 2 (LP 63) (Et m) w=K (aM (aM (Et m) 11 (Z (.map m))) 0 (Z (.map m))) w:=Zc
theorem adH{K:AF→G→Prop}{m:Xj I}:∀(n T:I)(l:Q ((J×J)×Xe))(w:G),Gw T=n→T<64→KZ T l→Hp E w (iL pL (λv:Xe=>v) m l::F)→(∀k w',KZ 63 k→Hp E w' (iL pL (λv:Xe=>v) m k::F)→K (aM (aM (Et m) 11 (Z (.map m))) 0 (Z (.map m))) w')→aG Pg rb (λ_=>True) K (n+2) (LP T) (Et m) w:=by intro n;induction n with|zero=>intro T l w b o c h d;have f:T=63:=by{have:=List.all_eq_true.1 Ve T Ze;rw[b]at this;simp only[YC]at this;exact Yi (this.resolve_right Zb)};subst f;rw[adZ];exact d l w c h|succ n p=>intro T l w b o c h d;have g:T<63:=by{(rcases Yd T 63 with q|q);{exact q};{have:T=63:=by{omega};subst this;exact Xu b (by rw[show Gw 63=0 from Zb];omega)}};obtain⟨s,t,u⟩:=Vq g;refine bL (zH s (λe=>?_) t λr x=>?_);{have:=List.all_eq_true.1 aaX T Ze;rw[e]at this;exact Xu this Zb};{obtain⟨j,i,y,rfl⟩:=Vh x;have a:=u j i y;rw[ad9 j i,a.set];refine bT (ke:=pL) (ve:=λv:Xe=>v) I1 WW h λw h=>⟨trivial,p _ _ _ (by have:=a.cz;omega) a.lt (c.aM i a) h d⟩}
theorem aa7{S:G→Prop}{K:AF→G→Prop}:aG Pg rb S K 17 (YS 17 U) WZ w=ar Pg (Z7 Na V) kM w λm w'=>S w'∧aG Pg rb S K 8 (LP 0) (Et m) w':=Zc
theorem O5{K:Xj I→G→Prop}(h:Hp E w F)(a:∀m l w',KZ 63 l→Hp E w' (iL pL (λv:Xe=>v) m l::F)→K m w'):Cl Zf [kM] 135 ⟨[]⟩ w K:=by refine rj Tryz.mix (F:=dw w λS w'=>aG Pg rb S (λf w=>zJ Pg [.tmp 0] [kM] K .ret f w) 17 (YS 17 U) WZ w') Tryz.f135 [] [kM] K 12 [.tmp 0] Zc Zc Zc Zc Zc (.s .o (.s .o (.s .o .o))) Zc ?_;have h:=h.drew (n:=w.drawn+1);refine⟨λ_=>True,trivial,?_⟩;dsimp only;rw[aa7];refine run_makeMap (ke:=pL) (ve:=λv:Xe=>v) h λm w h=>⟨trivial,?_⟩;refine adH 6 0 [] w O Zb ⟨λi c=>?_,λk d=>rfl⟩ h λl w b h=>?_;{rw[I.zero_div,Xf Zb];rfl};{have e:zJ Pg [.tmp 0] [kM] K .ret (aM (aM (Et m) 11 (Z (.map m))) 0 (Z (.map m))) w=K m w:=by{kernel_rfl};rw[e];exact a m l w b h}
end
end
section
open Go Go.Vc
set_option maxRecDepth 100000
def JP.ok(a:J)(b:J)(R:J→J→G→Prop) w(h:Cl Pg [kI,kI] 34 ⟨[(ni a),(.int .u8 b),(.int .u8 1)]⟩ w λ(d:J)(e:J) c=>R d e c):Cl Pg [kI,kI] 14 ⟨[(ni a),(.int .u8 b)]⟩ w R:=co Tryz.f14 [] h
def Mv.ok(a:J)(b:J)(c:J)(R:J→J→G→Prop) w(h:Cl Pg [kI,kI] 14 ⟨[(ni b),(.int .u8 c)]⟩ w λ(e:J)(f:J) d=>aK (λ(h:G)=>aa (K (a<e)) (R 0 230 h) (dn 1 1 h λi j(k:J)(l:J) m=>aa (K (l≤3)) (Cl Pg [kI,kI] 34 ⟨[(ni b),(.int .u8 c),(.int .u8 l)]⟩ m λ(o:J)(p:J) n=>aa (K (o≤a)) (i l (u8 (l+1)) n∧j l (u8 (l+1)) n<j k l m) (i k (u8 (l+1)) n∧j k (u8 (l+1)) n<j k l m)) (R k 0 m))) λg=>aa (f !=0) (R 0 2 d) (aa (K (a<1)) (R 0 2 d) (aa (K (a>1048576)) (R 0 2 d) (g d)))):Cl Pg [(av .u8),kI] 23 ⟨[(ni a),(ni b),(.int .u8 c)]⟩ w R:=co Tryz.f23 [(4,[]),(19,[(10,(av .u8)),(11,(av .u8))])] h
def NG.ok(a:J)(b:J)(c:J)(R:J→J→G→Prop) w(h:Cl Pg [kS,kI] 69 ⟨[(ni a),(.int .u8 b),(.int .u8 c)]⟩ w λ(e:Sl)(f:J) d=>dn 0 0 d λg h(i:J)(j:J) k=>aa (K (j<(e.len:J))) (ay e j 1 λl=>Ld kI l k λ(m:J)=>g (i64 (i+m)) (i64 (j+1)) k∧h (i64 (i+m)) (i64 (j+1)) k<h i j k) (R i f k)):Cl Pg [kI,kI] 34 ⟨[(ni a),(.int .u8 b),(.int .u8 c)]⟩ w R:=co Tryz.f34 [(9,[(10,kI),(11,kI)])] h
def Ib.ok(a:J)(b:J)(c:J)(R:Sl→J→G→Prop) w(h:aK (λ(e:G)=>aa (b==1) (aa (c==3) (Nw 3 ⟨[(ni a),(ni a),(ni (i64 ((4:J)*(if(1024:J)<(i64 (a+1))then(1024:J)else(i64 (a+1))))))]⟩ e λg f=>R (⟨Z ⟨g,0,V⟩,3,3⟩:Sl) 0 f) (Nw 3 ⟨[(ni a)]⟩ e λi h=>R (⟨Z ⟨i,0,V⟩,1,1⟩:Sl) 0 h)) (aa (c==1) ((8192:J)≠0∧Nw 3 ⟨[(ni a),(ni (i64 ((1024:J)*(i64 (YI a (8192:J))))))]⟩ e λk j=>R (⟨Z ⟨k,0,V⟩,2,2⟩:Sl) 0 j) (aa (c==2) ((1024:J)≠0∧Nw 3 ⟨[(ni a),(ni (i64 ((1024:J)*(i64 (YI a (1024:J))))))]⟩ e λm l=>R (⟨Z ⟨m,0,V⟩,2,2⟩:Sl) 0 l) (Nw 3 ⟨[(ni a),(ni (i64 ((4:J)*(i64 (a+1)))))]⟩ e λo n=>R (⟨Z ⟨o,0,V⟩,2,2⟩:Sl) 0 n)))) λd=>aa (K (a<1)) (R (⟨V,0,0⟩:Sl) 2 w) (aa (K (a>65536)) (R (⟨V,0,0⟩:Sl) 2 w) (aa (b !=1) (aa (b !=2) (R (⟨V,0,0⟩:Sl) 2 w) (aa (K (c<1)) (R (⟨V,0,0⟩:Sl) 2 w) (aa (K (c>3)) (R (⟨V,0,0⟩:Sl) 2 w) (d w)))) (aa (K (c<1)) (R (⟨V,0,0⟩:Sl) 2 w) (aa (K (c>3)) (R (⟨V,0,0⟩:Sl) 2 w) (d w)))))):Cl Pg [kS,kI] 69 ⟨[(ni a),(.int .u8 b),(.int .u8 c)]⟩ w R:=co Tryz.f69 [(2,[])] h
def Bg.ok(a:(Xi Xe))(R:(Xi Xe)→J→G→Prop) w(h:Nw 172 a w λc b=>Nw 262 ⟨Zj 258 (.int .u32 0)⟩ b λe d=>Ld (.arr 258) ⟨c,0,V⟩ d λf=>Cl Pg [kB] 295 ⟨[(.agg f)]⟩ d λ(h:Xg) g=>aa (! h) (Ld (.arr 258) ⟨e,0,V⟩ g λi=>aA 258 ⟨e,0,V⟩ i g λj=>Ld (.arr 258) ⟨e,0,V⟩ j λk=>R k 2 j) (Ld (.arr 258) ⟨c,0,V⟩ g λl=>Cl Pg [kS] 296 ⟨[(.agg l)]⟩ g λ(n:Sl) m=>Lq 0 0 0 m λo p(q:J)(r:J)(s:J) t=>aa (K (s<(n.len:J))) (ay n s 1 λu=>Ld kI u t λ(v:J)=>aF ⟨c,0,V⟩ 258 v 1 λx=>Ld (av .u8) x t λ(y:J)=>0≤(u8 (y-r))∧dw t λz D=>aF ⟨c,0,V⟩ 258 v 1 λE=>aw (av .u8) E z λ(B:J)=>aF ⟨e,0,V⟩ 258 v 1 λF=>St F (.int .u32 (br .u32 q (u8 (y-r)))) D λA=>z A∧o (u32 ((br .u32 q (u8 (y-r)))+1)) B (i64 (s+1)) A∧p (u32 ((br .u32 q (u8 (y-r)))+1)) B (i64 (s+1)) A<p q r s t) (Ld (.arr 258) ⟨e,0,V⟩ t λI=>aA 258 ⟨e,0,V⟩ I t λC=>Ld (.arr 258) ⟨e,0,V⟩ C λL=>R L 0 C))):Cl Pg [(.arr 258),kI] 218 ⟨[(.agg a)]⟩ w R:=co Tryz.f218 [(12,[(4,(av .u32)),(5,(av .u8)),(15,kI)])] h
def BK.ok(a:(Xi Xe))(R:Xg→G→Prop) w(h:Nw 172 a w λc b=>Ld (.arr 258) ⟨c,0,V⟩ b λd=>Cl Pg [kB] 348 ⟨[(.agg d)]⟩ b λ(f:Xg) e=>R f e):Cl Pg [kB] 295 ⟨[(.agg a)]⟩ w R:=co Tryz.f295 [] h
def AK.ok(a:(Xi Xe))(R:Sl→G→Prop) w(h:Nw 172 a w λc b=>Ld (.arr 258) ⟨c,0,V⟩ b λd=>Cl Pg [kB] 295 ⟨[(.agg d)]⟩ b λ(f:Xg) e=>aa (! f) (R (⟨V,0,0⟩:Sl) e) (Ld (.arr 258) ⟨c,0,V⟩ e λg=>dn (⟨V,0,0⟩:Sl) 0 e λh i(j:Sl)(k:J) l=>aa (K (k<258)) (fq (.int .u8) g 258 k λ(m:J)=>aa (K (m>0)) (Nw 3 ⟨[(ni k)]⟩ l λo n=>ar Pg (ZD #[25,25] 25 ⟨[(ah j),(ah (⟨Z ⟨o,0,V⟩,1,1⟩:Sl))]⟩) kS n λ(q:Sl) p=>h q (i64 (k+1)) p∧i q (i64 (k+1)) p<i j k l) (h j (i64 (k+1)) l∧i j (i64 (k+1)) l<i j k l)) (Cl Pg [] 287 ⟨[(ah j),(.func (.func 349) ⟨[]⟩ ⟨[(.pointer (Z ⟨c,0,V⟩))]⟩)]⟩ l λr=>R j r))):Cl Pg [kS] 296 ⟨[(.agg a)]⟩ w R:=co Tryz.f296 [(10,[(2,kS),(9,kI)])] h
def yf.ok(a:J)(b:J)(c:Xr)(R:J→G→Prop) w(h:aC w λd=>aF c 258 a 1 λe=>Ld (av .u8) e d λ(f:J)=>aF c 258 b 1 λg=>Ld (av .u8) g d λ(h:J)=>Cl Pg [kI] 350 ⟨[(.int .u8 f),(.int .u8 h)]⟩ d λ(j:J) i=>R j i):Cl Pg [kI] 349 ⟨[(ni a),(ni b),(.pointer (Z c))]⟩ w R:=co Tryz.f349 [] h
def cmp_Compare_int.ok(a:J)(b:J)(R:J→G→Prop) w(h:Cl Pg [kB] 330 ⟨[(ni a)]⟩ w λ(d:Xg) c=>Cl Pg [kB] 330 ⟨[(ni b)]⟩ c λ(f:Xg) e=>aa d (aa f (R 0 e) (R (-1) e)) (aa f (R 1 e) (aa (K (a<b)) (R (-1) e) (aa (K (a>b)) (R 1 e) (R 0 e))))):Cl Pg [kI] 256 ⟨[(ni a),(ni b)]⟩ w R:=co Tryz.f256 [] h
def cmp_isNaN_int.ok(a:J)(R:Xg→G→Prop) w(h:R (a !=a) w):Cl Pg [kB] 330 ⟨[(ni a)]⟩ w R:=co Tryz.f330 [] h
def yg.ok(a:J)(b:J)(R:J→G→Prop) w(h:Cl Pg [kB] 385 ⟨[(.int .u8 a)]⟩ w λ(d:Xg) c=>Cl Pg [kB] 385 ⟨[(.int .u8 b)]⟩ c λ(f:Xg) e=>aa d (aa f (R 0 e) (R (-1) e)) (aa f (R 1 e) (aa (K (a<b)) (R (-1) e) (aa (K (a>b)) (R 1 e) (R 0 e))))):Cl Pg [kI] 350 ⟨[(.int .u8 a),(.int .u8 b)]⟩ w R:=co Tryz.f350 [] h
def qL.ok(a:J)(R:Xg→G→Prop) w(h:R (a !=a) w):Cl Pg [kB] 385 ⟨[(.int .u8 a)]⟩ w R:=co Tryz.f385 [] h
def JO.ok(a:(Xi Xe))(R:Xg→G→Prop) w(h:Nw 172 a w λc b=>Ld (.arr 258) ⟨c,0,V⟩ b λd=>Cl Pg [kB] 345 ⟨[(.agg d)]⟩ b λ(f:Xg) e=>aa f (aF ⟨c,0,V⟩ 258 257 1 λg=>Ld (av .u8) g e λ(h:J)=>R (K (h>0)) e) (R U e)):Cl Pg [kB] 290 ⟨[(.agg a)]⟩ w R:=co Tryz.f290 [] h
def C2.ok(a:(Xi Xe))(R:Xg→G→Prop) w(h:Nw 172 a w λc b=>Ld (.arr 258) ⟨c,0,V⟩ b λd=>Cl Pg [kI] 384 ⟨[(.agg d)]⟩ b λ(f:J) e=>R (f==32768) e):Cl Pg [kB] 345 ⟨[(.agg a)]⟩ w R:=co Tryz.f345 [] h
def L8.ok(a:(Xi Xe))(R:Xg→G→Prop) w(h:Nw 172 a w λc b=>Ld (.arr 258) ⟨c,0,V⟩ b λd=>Cl Pg [kI] 384 ⟨[(.agg d)]⟩ b λ(f:J) e=>R (K (f≤32768)) e):Cl Pg [kB] 348 ⟨[(.agg a)]⟩ w R:=co Tryz.f348 [] h
def GO.ok(a:(Xi Xe))(R:(TT Pa)→G→Prop) w(h:Nw 172 a w λc b=>Nw 442 ⟨Zj 16 (ni 0)⟩ b λe d=>Ld (.arr 258) ⟨c,0,V⟩ d λf=>eE 0 d λg h(i:J) j=>aa (K (i<258)) (fq (.int .u8) f 258 i λ(k:J)=>aa (K ((i64 k)<16)) (aF ⟨e,0,V⟩ 16 k 1 λl=>Ld kI l j λ(m:J)=>aF ⟨e,0,V⟩ 16 k 1 λn=>St n (ni (i64 (m+1))) j λo=>g (i64 (i+1)) o∧h (i64 (i+1)) o<h i j) (g (i64 (i+1)) j∧h (i64 (i+1)) j<h i j)) (Ld (.st Pa) ⟨e,0,V⟩ j λp=>ak ⟨e,0,V⟩ [(ni p.1),(ni p.2.1),(ni p.2.2.1),(ni p.2.2.2.1),(ni p.2.2.2.2.1),(ni p.2.2.2.2.2.1),(ni p.2.2.2.2.2.2.1),(ni p.2.2.2.2.2.2.2.1),(ni p.2.2.2.2.2.2.2.2.1),(ni p.2.2.2.2.2.2.2.2.2.1),(ni p.2.2.2.2.2.2.2.2.2.2.1),(ni p.2.2.2.2.2.2.2.2.2.2.2.1),(ni p.2.2.2.2.2.2.2.2.2.2.2.2.1),(ni p.2.2.2.2.2.2.2.2.2.2.2.2.2.1),(ni p.2.2.2.2.2.2.2.2.2.2.2.2.2.2.1),(ni p.2.2.2.2.2.2.2.2.2.2.2.2.2.2.2.1)] 0 j λq=>Ld (.st Pa) ⟨e,0,V⟩ q λr=>R r q)):Cl Pg [(.st Pa)] 359 ⟨[(.agg a)]⟩ w R:=co Tryz.f359 [(5,[(6,kI)])] h
def OL.ok(a:(Xi Xe))(R:J→G→Prop) w(h:Nw 172 a w λc b=>Ld (.arr 258) ⟨c,0,V⟩ b λd=>dn 0 0 b λe f(g:J)(h:J) i=>aa (K (h<258)) (fq (.int .u8) d 258 h λ(j:J)=>Cl Pg [kI] 397 ⟨[(.int .u8 j)]⟩ i λ(l:J) k=>e (i64 (g+l)) (i64 (h+1)) k∧f (i64 (g+l)) (i64 (h+1)) k<f g h i) (R g i)):Cl Pg [kI] 384 ⟨[(.agg a)]⟩ w R:=co Tryz.f384 [(5,[(2,kI),(6,kI)])] h
def Jx.ok(a:J)(R:J→G→Prop) w(h:aa (a==0) (R 0 w) (aa (K (a>15)) (R 32769 w) (0≤a∧R (aJ .i64 (32768:J) a) w))):Cl Pg [kI] 397 ⟨[(.int .u8 a)]⟩ w R:=co Tryz.f397 [] h
end
end Go.Proofs.Q9
namespace Go.Srt
section
inductive Ck (key:J→J) (sz:I):Q J→Q J→Prop where|nil:Ck key sz [] []|last (A B:Q J) (h1:A.length<sz) (h2:B.Perm A) (h3:Sd key B):Ck key sz A B|cons (A B X Y:Q J) (h1:A.length=sz) (h2:B.Perm A) (h3:Sd key B) (h4:Ck key sz X Y):Ck key sz (A++X) (B++Y)
def Ck.len{a:J→J}{c:I}{X Y:Q J}(h:Ck a c X Y):Y.length=X.length:=by induction h with|nil=>rfl|last A B d b e=>exact b.length_eq|cons A B X Y d b e g f=>simp[b.length_eq,f]
def Ck.one{a:J→J}{d:I}{X Y:Q J}(h:Ck a d X Y)(f:X.length≤d):Y.Perm X∧Sd a Y:=by cases h with|nil=>exact⟨Q.Perm.refl _,Q.Pairwise.nil⟩|last _ _ g b c=>exact⟨b,c⟩|cons A B X Y g b c i=>rw[Zg]at f;have e:X=[]:=List.length_eq_zero_iff.1 Za;have j:Y=[]:=List.length_eq_zero_iff.1 (by rw[i.len,e];rfl);subst e;subst j;simpa using⟨b,c⟩
def Ck.first{a:J→J}{b:I}{X Y:Q J}(h:Ck a b X Y)(i:b≤X.length)(k:0<b):∃A B c d,X=A++c∧Y=B++d∧A.length=b∧B.Perm A∧Sd a B∧Ck a b c d:=by cases h with|nil=>simp at i;omega|last _ _ e f g=>omega|cons A B X Y e f g j=>exact⟨A,B,X,Y,O,O,e,f,g,j⟩
end
end Go.Srt
namespace Go.Proofs.Q9
section
open Go Go.Vc Go.Srt
section
variable{E w:G}{F:Q HP}
theorem OX{a b c d:Q J}(h:(a++b).Pairwise (·<·))(e:c.Perm a)(f:d.Perm b):∀x∈c,∀y∈d,x<y:=λx g y i=>(List.pairwise_append.1 h).2.2 x (e.mem_iff.1 g) y (f.mem_iff.1 i)
theorem Tk{s:Sl}{xs:XG J}{fv:Xe}{key:J→J}{D:J→Prop}{n:J}{K:G→Prop}(h:Hp E w (ao 1 s (xs.map vI)::F))(N:xs.length≤cK)(hc:xv E F fv key D)(hD:∀x∈xs,D x)(hL:xs.Pairwise (·<·))(hn:n=(xs.length:J))(hK:∀i w',i.Perm xs→Sd key i→Hp E w' (ao 1 s (i.map vI)::F)→K w'):Cl Zf [] 344 ⟨[.slice s.base s.len s.cap,.int .i64 n,fv]⟩ w K:=by subst hn;refine o8.ok _ _ _ _ _ ?_;have hbg:=N;rw[aL]at N;refine⟨λa b w'=>∃f Z X:XG J,a=(f.length:J)∧b=((f.length+20:I):J)∧xs=f++X∧Z.length=f.length∧(∀o p,Ck key 20 o p→Ck key 20 (f++o) (Z++p))∧Hp E w' (ao 1 s ((Z++X).map vI)::F),λa _ _=>xs.length-a.toNat,⟨[],[],xs,rfl,rfl,rfl,rfl,λo p h=>h,h⟩,?_⟩;rintro a b w' ⟨f,Z,X,rfl,rfl,hxs,hZ,c,hh⟩;have j:xs.length=f.length+X.length:=by{rw[hxs,Zg]};have hX:∀x∈X,x∈xs:=λx k=>by{rw[hxs];exact XG.mem_append_right _ k};have d:X.Pairwise (·<·):=by{rw[hxs]at hL;exact(List.pairwise_append.1 hL).2.1};refine aa.mk (λq=>?_) λr=>?_;{have q:=Xo q;have e:X.take 20++X.drop 20=X:=Zt _ _;have l1:(X.take 20).length=20:=by{simp;omega};generalize X.take 20=A at e l1;generalize X.drop 20=X2 at e;subst e;rw[Zg]at j;refine yA (P:=Z) (L:=A) (Q:=X2) (key:=key) (D:=D) (by simpa only[Zn]using hh) (by rw[aL];simp only[Zg];omega) hc (λx k=>hD x (hX x (XG.mem_append_left _ k))) (List.pairwise_append.1 d).1 Za (by simp only[Zg];omega) λM S m t T=>?_;rw[ae Za];refine⟨⟨f++A,Z++M,X2,by simp only[Zg];omega,by simp only[Zg];omega,by rw[hxs,Zn],by simp only[Zg];rw[m.length_eq];omega,λo p hk=>?_,T⟩,by dsimp only;omega⟩;rw[Zn,Zn];exact c _ _ (.cons A M o p l1 m t hk)};{have r:=Xm r;refine yA (P:=Z) (L:=X) (Q:=[]) (key:=key) (D:=D) (by simpa using hh) (by rw[aL];simp only[Zg,ZN];omega) hc (λx k=>hD x (hX x k)) d Za (by simp only[Zg];omega) λM S m t T=>?_;have c:=c _ _ (.last X M Za m t);rw[←hxs]at c;refine⟨λbs w'=>∃(g:I)(i:XG J),bs=(g:J)∧20≤g∧g≤2*cK∧Ck key g xs i∧Hp E w' (ao 1 s (i.map vI)::F),λbs _=>xs.length-bs.toNat,⟨20,Z++M,rfl,Za,by rw[aL];omega,c,by simpa using T⟩,?_⟩;rintro bs w' ⟨g,i,rfl,hsz,hszb,c,hh⟩;rw[aL]at hszb;refine aa.mk (λhlt=>?_) λhge=>?_;{have hlt:=Xo hlt;have hlt:g<xs.length:=by{omega};refine⟨λa b w'=>∃f Z X Y:XG J,a=(f.length:J)∧b=((f.length+2*g:I):J)∧xs=f++X∧Z.length=f.length∧Ck key g X Y∧(∀o p,Ck key (2*g) o p→Ck key (2*g) (f++o) (Z++p))∧Hp E w' (ao 1 s ((Z++Y).map vI)::F),λa _ _=>xs.length-a.toNat,⟨[],[],xs,i,rfl,?_,rfl,rfl,c,λo p h=>h,hh⟩,?_⟩;{rw[ae Za];simp};rintro a b w' ⟨f,Z,X,Y,rfl,rfl,hxs,hZ,c,hco,hh⟩;have j:xs.length=f.length+X.length:=by{rw[hxs,Zg]};have hX:∀x∈X,x∈xs:=λx k=>by{rw[hxs];exact XG.mem_append_right _ k};have d:X.Pairwise (·<·):=by{rw[hxs]at hL;exact(List.pairwise_append.1 hL).2.1};rw[ae (x:=(f.length:J)+(g:J)) Za,ae (x:=(g:J)*2) Za];(have next:∀(S:G)(i:XG J),Ck key (2*g) xs i→Hp E S (ao 1 s (i.map vI)::F)→(∃(l:I)(i:XG J),(g:J)*2=(l:J)∧20≤l∧l≤2*cK∧Ck key l xs i∧Hp E S (ao 1 s (i.map vI)::F))∧xs.length-((g:J)*2).toNat<xs.length-((g:J)).toNat:=λS i h1 T=>⟨⟨2*g,i,Za,Za,by rw[aL];omega,h1,T⟩,Za⟩);refine aa.mk (λq=>?_) λr=>?_;{have q:=Xo q;obtain⟨A1,B1,X1,Y1,rfl,rfl,a1,z,c1,u⟩:=c.first Za Za;rw[Zg]at j;obtain⟨A2,B2,X2,Y2,rfl,rfl,a2,B,c2,W⟩:=u.first Za Za;rw[Zg]at j;have C:(A1++A2).Pairwise (·<·):=by{rw[←Zn]at d;exact(List.pairwise_append.1 d).1};have v:=z.length_eq;have y:=B.length_eq;have lY2:=W.len;rw[ae (x:=2*(g:J)) Za,ae Za];refine ou hc (B1.length+B2.length) (P:=Z) (L:=B1) (R:=B2) (Q:=Y2) (Zx _) (by simpa only[Zn]using hh) (by rw[aL];simp only[Zg];omega) (λe=>by rw[e]at v;simp at v;omega) (λe=>by rw[e]at y;simp at y;omega) c1 c2 (OX C z B) (λx k=>hD x (hX x (by simp[z.mem_iff.1 k]))) (λx k=>hD x (hX x (by simp[B.mem_iff.1 k]))) Za Za Za λM S m t T=>?_;have pM:M.Perm (A1++A2):=m.trans (XG.Perm.append z B);refine⟨⟨f++(A1++A2),Z++M,X2,Y2,by simp only[Zg];omega,by simp only[Zg];omega,by rw[hxs];simp only[Zn],by simp only[Zg];rw[pM.length_eq,Zg];omega,W,λo p hk=>?_,T⟩,by dsimp only;omega⟩;rw[Zn f,Zn Z];exact hco _ _ (.cons (A1++A2) M o p (by rw[Zg];omega) pM t hk)};{have r:=Xm r;refine aa.mk (λhm=>?_) λhm=>?_;{have hm:=Xo hm;obtain⟨A1,B1,X1,Y1,rfl,rfl,a1,z,c1,u⟩:=c.first Za Za;rw[Zg]at j;obtain⟨B,c2⟩:=u.one Za;have v:=z.length_eq;have y:=B.length_eq;refine ou hc (B1.length+Y1.length) (P:=Z) (L:=B1) (R:=Y1) (Q:=[]) (Zx _) (by simpa using hh) (by rw[aL];simp only[Zg,ZN];omega) (λe=>by rw[e]at v;simp at v;omega) (λe=>by rw[e]at y;simp at y;omega) c1 c2 (OX d z B) (λx k=>hD x (hX x (by simp[z.mem_iff.1 k]))) (λx k=>hD x (hX x (by simp[B.mem_iff.1 k]))) Za Za Za λM S m t T=>?_;have pM:M.Perm (A1++X1):=m.trans (XG.Perm.append z B);(refine next S (Z++M) ?_ Ze);rw[hxs];exact hco _ _ (.last _ M (by rw[Zg];omega) pM t)};{have hm:=Xm hm;obtain⟨m,t⟩:=c.one Za;(refine next w' (Z++Y) ?_ hh);rw[hxs];exact hco _ _ (.last _ Y Za m t)}}};{have hge:=Xm hge;obtain⟨m,t⟩:=c.one Za;exact hK i w' m t hh}}
theorem wH{s:Sl}{xs:Q J}{c:Xe}{key:J→J}{D:J→Prop}{K:G→Prop}(h:Hp E w (ao 1 s (xs.map vI)::F))(a:xs.length≤cK)(d:xv E F c key D)(e:∀x∈xs,D x)(f:xs.Pairwise (·<·))(g:∀b w',b.Perm xs→Sd key b→Hp E w' (ao 1 s (b.map vI)::F)→K w'):Cl Zf [] 287 ⟨[.slice s.base s.len s.cap,c]⟩ w K:=by refine mA.ok _ _ _ _ ?_;have i:=h.aS;simp only[Zp,ZB]at i;exact Tk h a d e f Za g
end
end
end Go.Proofs.Q9
namespace Go.Srt
section
def wt(n:I):I:=if n=0 then 0 else if n>15 then 32769 else 2^(15-n)
def bB(l:Q I):I:=(l.map wt).sum
def ab9(n:I):wt n≤32769:=by unfold wt;split;{omega};{split;{omega};{have:2^(15-n)≤2^15:=ZS Zb Za;omega}}
def Kh:∀l:Q I,bB l≤32769*l.length|[]=>by simp[bB]|x::l=>by have:=Kh l;have:=ab9 x;simp only[bB,ZT,Q.sum_cons,Zq]at*;omega
def vX{l:Q I}{k:I}(h:k<l.length):bB (l.take (k+1))=bB (l.take k)+wt l[k]:=by unfold bB;rw[ZC,ZE,YL,Zh h];simp only[Xj.toList,ZT,YJ,Q.sum_cons,Q.sum_nil,Zr]
def Ds{l:Q I}{k:I}:bB (l.take k)≤bB l:=by have:=Xp bB (Zt k l);unfold bB at this⊢;rw[ZE,YL]at this;omega
def W0{l:Q I}{x:I}(h:x∈l):wt x≤bB l:=by obtain⟨i,a,rfl⟩:=ZY h;have:=vX a;have:=Ds (l:=l) (k:=i+1);omega
def used(l:Q I):Q I:=(Zs l.length).filter λs=>decide (0<l.getD s 0)
def zq(l:Q I)(i:J):J:=(l.getD i.toNat 0:J)
def cP(l c:Q I):Prop:=c.Perm (used l)∧c.Pairwise λa b=>l.getD a 0<l.getD b 0∨(l.getD a 0=l.getD b 0∧a<b)
end
end Go.Srt
namespace Go.Proofs.Q9
section
open Go Go.Vc Go.Srt
section
variable{E w:G}{F:Q HP}
theorem U1{n:I}{K:J→G→Prop}(d:K (wt n:J) w):Cl Zf [kI] 397 ⟨[.int .u8 (n:J)]⟩ w K:=by refine Jx.ok _ _ _ ?_;unfold wt at d;refine aa.mk (λh=>?_) λh=>aa.mk (λc=>?_) λc=>⟨Za,?_⟩;{grind};{grind};{have h:n≠0:=by{have:=Xm h;omega};have c:¬n>15:=by{have:=Xm c;omega};rw[Xf h,Xf c]at d;have e:=cw (k:=.i64) (a:=32768) (b:=n) (by have:Xy.bits .i64=64:=O;omega);rw[show(32768:J)=((32768:I):J)from O,e];have:32768/2^n=2^(15-n):=by{have f:(2:I)^15=32768:=by{decide};have g:=I.pow_sub_mul_pow 2 (show n≤15 by omega);rw[f]at g;exact I.div_eq_of_eq_mul_left (Yl n) g.symm};rw[this];exact d}
theorem AJ{l:Q I}{K:J→G→Prop}(h:Hp E w F)(g:l.length=258)(q:∀w',Hp E w' F→K (bB l:J) w'):Cl Zf [kI] 384 ⟨[.agg (ai .u8 l)]⟩ w K:=by refine OL.ok _ _ _ ?_;refine Nw.mk h λb r d=>Ld.arr d (by rw[bm,g]) ?_;have t:=Kh l;refine⟨λf i w'=>∃k:I,i=(k:J)∧k≤258∧f=(bB (l.take k):J)∧Hp E w' F,λ_ i _=>258-i.toNat,⟨0,O,Za,by simp[bB],d.drop⟩,?_⟩;intro f i w' j;obtain⟨k,m,u,n,o⟩:=j;subst m;subst n;refine aa.mk (λa=>?_) λp=>?_;{have a:k<258:=by{have:=Xo a;omega};have c:k<l.length:=by{omega};refine fq.rd (s:=.int .u8) Za Za (l[k]:J) (by rw[Zm];exact iV c) (U1 ?_);have e:=vX c;have:=Ds (l:=l) (k:=k+1);rw[ae (x:=(bB (l.take k):J)+(wt l[k]:J)) Za,ae Za];exact⟨⟨k+1,O,Za,by rw[e];rfl,o⟩,by dsimp only;omega⟩};{grind}
theorem X3{l:Q I}{K:Xg→G→Prop}(h:Hp E w F)(a:l.length=258)(d:∀w',Hp E w' F→K (XB (bB l≤32768)) w'):Cl Zf [kB] 348 ⟨[.agg (ai .u8 l)]⟩ w K:=by refine L8.ok _ _ _ ?_;refine Nw.mk h λb f c=>Ld.arr c (by rw[bm,a]) (AJ c a λg e=>?_);have:XB ((bB l:J)≤32768)=XB (bB l≤32768):=by{rw[Yz];simp;omega};rw[this];exact d _ e.drop
theorem zw{l:Q I}{K:Xg→G→Prop}(h:Hp E w F)(a:l.length=258)(d:∀w',Hp E w' F→K (XB (bB l≤32768)) w'):Cl Zf [kB] 295 ⟨[.agg (ai .u8 l)]⟩ w K:=by refine BK.ok _ _ _ ?_;exact Nw.mk h λb f c=>Ld.arr c (by rw[bm,a]) (X3 c a λg e=>d _ e.drop)
theorem Uz{x y:J}{K:J→G→Prop}(a:∀z:J,(z<0↔x<y)→K z w):Cl Zf [kI] 350 ⟨[.int .u8 x,.int .u8 y]⟩ w K:=by refine yg.ok _ _ _ _ ?_;refine qL.ok _ _ _ (qL.ok _ _ _ ?_);refine aa.f Zd (aa.f Zd (aa.mk (λh=>a _ ?_) λh=>aa.mk (λb=>a _ ?_) λb=>a _ ?_));{grind};{have:=Xm h;omega};{have:=Xm h;omega}
theorem X8{l:Q I}{b:I}{t:Xn}(m:l.length=258):xv E (ag b (.cells (ai .u8 l) t (0,0))::F) (.func (.func 349) ⟨[]⟩ ⟨[.pointer (Z ⟨b,0,V⟩)]⟩) (zq l) (λx=>0≤x∧x<258):=by rintro A w y x K h ⟨e,n⟩ ⟨f,o⟩ i;refine cW.mk Zc ?_;refine yf.ok y x ⟨b,0,V⟩ K w ?_;have p:=h.perm ZW;have a:x.toNat<l.length:=Za;have c:y.toNat<l.length:=Za;refine aC.mk h λj g=>?_;have d:=g.perm ZW;refine aF.rd (s:=.int .u8) d f Za (l[y.toNat]:J) (iV c) ?_;refine aF.rd (s:=.int .u8) d e Za (l[x.toNat]:J) (iV a) ?_;refine Uz λz k=>i z j ?_ g;rw[k];unfold zq;rw[Zo,Zo,Zh a,Zh c];rfl
theorem mW:cF Zf 25 3 1 8:=cF.of Zc Zc
def il(l:Q I)(k:I):Q I:=(Zs k).filter λs=>decide (0<l.getD s 0)
theorem nj{l:Q I}{k:I}:il l (k+1)=il l k++if 0<l.getD k 0 then[k]else[]:=by unfold il;rw[YO,Q.filter_append];congr 1;by_cases h:0<l.getD k 0;{grind};{grind}
theorem AL{z:J}:∀y∈[vI z],aD y=H:=by intro y a;have:y=vI z:=by{simpa using a};rw[this];rfl
theorem oE(l:Q I)(k:I):(il l k).length≤k:=by have:=Q.length_filter_le (λs=>decide (0<l.getD s 0)) (Zs k);simpa[il]using this
def ints(l:Q I):Q J:=l.map λ(x:I)=>(x:J)
theorem HO{a b:Q I}:ints (a++b)=ints a++ints b:=ZE
theorem Wv{l:Q I}{K:Sl→G→Prop}(h:Hp E w F)(g:l.length=258)(u:¬bB l≤32768→∀w',Hp E w' F→K ⟨V,0,0⟩ w')(v:bB l≤32768→∀ys s w',cP l ys→Hp E w' (ao 1 s ((ints ys).map vI)::F)→K s w'):Cl Zf [kS] 296 ⟨[.agg (ai .u8 l)]⟩ w K:=by refine AK.ok _ _ _ ?_;refine Nw.mk h λb w1 B=>Ld.arr B (by rw[bm,g]) (zw B g λN z=>?_);refine aa.mk (λr=>u Ze N z.drop) λr=>?_;have r:bB l≤32768:=by{simpa using r};refine Ld.arr z (by rw[bm,g]) ?_;refine⟨λo i w'=>∃k:I,i=(k:J)∧k≤258∧Hp E w' (ao 1 o ((ints (il l k)).map vI)::ag b (.cells (ai .u8 l) 172 (0,0))::F),λ_ i _=>258-i.toNat,⟨0,rfl,Za,z.aR 1⟩,?_⟩;intro o i w' P;obtain⟨k,R,hk,t⟩:=P;subst R;refine aa.mk (λj=>?_) λf=>?_;{have j:k<258:=by{have:=Xo j;omega};have m:k<l.length:=by{omega};have C:l.getD k 0=l[k]:=by{rw[Zo,Zh m];rfl};refine fq.rd (s:=.int .u8) Za Za (l[k]:J) (by rw[Zm];exact iV m) ?_;refine aa.mk (λc=>?_) λc=>?_;{have c:0<l[k]:=by{have:=Xo c;omega};refine Nw.mk t λS L p=>?_;have T:=t.aS;have hu:=oE l k;simp only[Zp,ints,ZB]at T;refine aX (ys:=[vI (k:J)]) (n:=1) mW Zb (.inl ⟨3,Zc⟩) p.p1 (.inl ⟨Z ⟨S,0,V⟩,1,1,rfl,rfl,p.an (ad.ax rfl rfl)⟩) rfl AL Za Za λs' w4 W X=>?_;rw[ae Za];refine⟨⟨k+1,rfl,Za,?_⟩,by dsimp only;omega⟩;rw[nj,C,Xh c,HO,ZE];exact W.p1.drop};{have c:¬0<l[k]:=by{have:=Xm c;omega};rw[ae Za];refine⟨⟨k+1,rfl,Za,?_⟩,by dsimp only;omega⟩;rw[nj,C,Xf c,ZF];exact t}};{have f:k=258:=by{have:=Xm f;omega};subst f;have A:∀x∈il l 258,x<258:=λx q=>by{have:=(List.mem_filter.1 q).1;simpa using this};refine wH (key:=zq l) (D:=λx=>0≤x∧x<258) t (by have:=oE l 258;rw[aL];simp only[ints,Zp];omega) (X8 g) (λx q=>?_) ?_ λys L c M p=>?_;{obtain⟨y,Y,rfl⟩:=List.mem_map.1 q;have:=A y Y;omega};{unfold ints;refine Q.Pairwise.map _ (λa b d=>Int.ofNat_lt.2 d) ?_;exact Q.Pairwise.filter _ Q.pairwise_lt_range};{have hU:il l 258=used l:=by{unfold il used;rw[g]};rw[hU]at c;have e:ys=ints (ys.map J.toNat):=by{unfold ints;rw[YH];refine(Q.map_id ys).symm.trans (Z2 λx q=>?_);obtain⟨y,_,rfl⟩:=List.mem_map.1 (c.mem_iff.1 q);simp};have pN:(ys.map J.toNat).Perm (used l):=by{have:=c.map J.toNat;refine this.trans ?_;unfold ints;rw[YH];refine Q.Perm.of_eq ((Z2 λx _=>?_).trans (Q.map_id _));simp};rw[e]at p M;refine v r (ys.map J.toNat) _ L ⟨pN,?_⟩ p.p1.drop;refine(List.pairwise_map.1 M).imp λ{a b} d=>?_;unfold Ky zq at d;simp only[Zm]at d;omega}}
end
end
section
open Go Go.Vc Go.Pol Go.Srt
section
variable{E w:G}{F:Q HP}
end
set_option maxRecDepth 100000
section
variable{E w:G}{F:Q HP}
def MJ(a:I):Prop:=∀{E w:G}{F:Q HP}{n:J}{side mode:I}{K:Sl→J→G→Prop},Hp E w F→(∀m:I,n=(m:J)→nN m side mode→∀s w',Hp E w' (ao 1 s ((ints (layout m side mode)).map vI)::F)→K s 0 w')→(¬(0≤n∧nN n.toNat side mode)→∀w',Hp E w' F→K ⟨V,0,0⟩ 2 w')→Cl Zf [kS,kI] a ⟨[.int .i64 n,.int .u8 (side:J),.int .u8 (mode:J)]⟩ w K
theorem jg.lkV{P:Xk}{s:Sem Xe}{w:G}{K:Xe→Xg→G→Prop}(x:Xe)(b:Xg)(h:s.run P w=.ok (.tuple #[x,.bool b]) w)(a:K x b w):jg P s [kV,kB] w K:=by unfold jg;rw[h];exact a
theorem UQ(w:G):(XI 223).run Zf w=.ok .nilFunc w:=Zc
theorem fG{b:I}{l:Q I}{t:Xn}{vs:Q Xe}(h:Hp E w (ag b (.cells ⟨vs⟩ t (0,0))::F))(a:vs=(ints l).map vI):Hp E w (ao 1 ⟨Z ⟨b,0,V⟩,vs.length,vs.length⟩ ((ints l).map vI)::F):=by subst a;exact h.pU (sz:=1) Zd
theorem Wg{j m:I}{K:Sl→G→Prop}(g:j<6)(h:Hp E w F)(n:1≤m)(i:m≤65536)(c:∀s w',Hp E w' (ao 1 s ((ints (layout m (j/3+1) (j%3+1))).map vI)::F)→K s w'):cW Zf (vP j) [kS] [.int .i64 (m:J)] w K:=by have l:YN .i64=9223372036854775807:=O;have d:aJ .i64 (m:J) 13=((m/8192:I):J):=cw (k:=.i64) (a:=m) (b:=13) Zb;have f:aJ .i64 (m:J) 10=((m/1024:I):J):=cw (k:=.i64) (a:=m) (b:=10) Zb;match j,g with|0,_=>refine cW.mk Zc (qb.ok _ _ _ (Nw.mk h λb w h=>c _ _ (fG h ?_)));simp[layout,ints,vI]|1,_=>refine cW.mk Zc (qb.ok _ _ _ (Nw.mk h λb w h=>c _ _ (fG h ?_)));simp[layout,ints,vI]|2,_=>refine cW.mk Zc (zN.ok _ _ _ (Nw.mk h λb w h=>c _ _ (fG h ?_)));have e:(i64 (4*(if(1024:J)<i64 ((m:J)+1)then(1024:J)else i64 ((m:J)+1))))=((4*XO (m+1) 1024:I):J):=by{rw[ae (x:=(m:J)+1) Za,ae Ze];split<;>omega};simp only[layout,ints,vI,ni];rw[e];rfl|3,_=>refine cW.mk Zc (zP.ok _ _ _ ⟨Zb,Nw.mk h λb w h=>c _ _ (fG h ?_)⟩);rw[d,ae Za];rfl|4,_=>refine cW.mk Zc (Af.ok _ _ _ ⟨Zb,Nw.mk h λb w h=>c _ _ (fG h ?_)⟩);rw[f,ae Za];rfl|5,_=>refine cW.mk Zc (zW.ok _ _ _ (Nw.mk h λb w h=>c _ _ (fG h ?_)));rw[ae (x:=(m:J)+1) Za,ae Za];rfl
theorem acr:∀i,i<6→63/2^i%2=1:=Zb
theorem TE{j:I}(a:j<6):zK j=(((j/3+1:I):J),((j%3+1:I):J)):=by match j,a with|0,_=>rfl|1,_=>rfl|2,_=>rfl|3,_=>rfl|4,_=>rfl|5,_=>rfl
theorem M9:MJ 91:=by intro E w F n side mode K h d b;refine Fg.ok _ _ _ _ _ (O5 h λm l w x h=>?_);have c:=B5 (ke:=pL) (ve:=λv:Xe=>v) I1 WW (a:=((side:J),(mode:J))) UQ h;by_cases hs:(side=1∨side=2)∧1≤mode∧mode≤3;{obtain⟨j,o,rfl,rfl⟩:∃j,j<6∧side=j/3+1∧mode=j%3+1:=⟨3*(side-1)+(mode-1),Za,Za,Za⟩;have p:=x.has j o;rw[Xh (acr j o),TE o]at p;obtain⟨q,r,u⟩:=Option.map_eq_some_iff.1 p;rw[r]at c;refine jg.lkV _ _ c (aa.f rfl ?_);dsimp only;rw[u];refine aa.dm (λy=>b (λg=>by have:=g.2.2.2.2.1;omega) _ h.drop) λz=>aa.dm (λA=>b (λg=>by have:=g.2.2.2.2.2;omega) _ h.drop) λB=>?_;obtain⟨k,rfl⟩:∃k:I,n=(k:J):=⟨n.toNat,Za⟩;exact Wg o h Za Za λs w h=>d k rfl ⟨hs.1,hs.2.1,hs.2.2,Za,Za⟩ s w (h.no 1)};{have p:=x.no ((side:J),(mode:J)) (λi C e=>by rw[TE C]at e;injection e with D G;exact hs ⟨Za,Za,Za⟩);have r:findAt ((side:J),(mode:J)) l 0=V:=by{grind};rw[r]at c;exact jg.lkV _ _ c (aa.t rfl (b (λg=>hs ⟨g.2.1,g.2.2.1,g.2.2.2.1⟩) _ h.drop))}
theorem XV:MJ 69:=by intro E w F n side mode K h a c;refine Ib.ok _ _ _ _ _ (iK (λl=>∀m:I,n=(m:J)→nN m side mode→l w) ?_ λl o=>?_);{intro m y p;subst y;obtain⟨q,r,g,i,z⟩:=p;have d:nN m side mode:=⟨q,r,g,i,z⟩;refine aa.em (λs=>aa.em (λt=>?_) λt=>?_) λs=>aa.em (λu=>⟨Zb,?_⟩) λu=>aa.em (λv=>⟨Zb,?_⟩) λv=>?_;{refine Nw.mk h λb w h=>a m rfl d _ _ (fG h ?_);have e:(i64 (4*(if(1024:J)<i64 ((m:J)+1)then(1024:J)else i64 ((m:J)+1))))=((4*XO (m+1) 1024:I):J):=by{rw[ae (x:=(m:J)+1) Za,ae (by split<;>omega)];split<;>omega};obtain rfl:side=1:=by{omega};obtain rfl:mode=3:=by{omega};rw[e];rfl};{refine Nw.mk h λb w h=>a m rfl d _ _ (fG h ?_);obtain rfl:side=1:=by{omega};unfold layout;rw[Xh rfl,Xf Za];rfl};{refine Nw.mk h λb w h=>a m rfl d _ _ (fG h ?_);obtain rfl:side=2:=by{omega};obtain rfl:mode=1:=by{omega};rw[show YI (m:J) 8192=((m/8192:I):J)from rfl,ae (x:=((m/8192:I):J)) Za,ae Za];rfl};{refine Nw.mk h λb w h=>a m rfl d _ _ (fG h ?_);obtain rfl:side=2:=by{omega};obtain rfl:mode=2:=by{omega};rw[show YI (m:J) 1024=((m/1024:I):J)from rfl,ae (x:=((m/1024:I):J)) Za,ae Za];rfl};{refine Nw.mk h λb w h=>a m rfl d _ _ (fG h ?_);obtain rfl:side=2:=by{omega};obtain rfl:mode=3:=by{omega};rw[ae (x:=(m:J)+1) Za,ae Za];rfl}};{refine aa.dm (λq=>c (λf=>by have:=f.2.2.2.2.1;omega) _ h) λq=>aa.dm (λr=>c (λf=>by have:=f.2.2.2.2.2;omega) _ h) λr=>?_;obtain⟨m,rfl⟩:∃k:I,n=(k:J):=⟨n.toNat,Za⟩;have j:(side=1∨side=2)→aa (XB ((mode:J)<1)) (K ⟨V,0,0⟩ 2 w) (aa (XB ((mode:J)>3)) (K ⟨V,0,0⟩ 2 w) (l w)):=λp=>aa.dm (λg=>c (λf=>by have:=f.2.2.1;omega) _ h) λg=>aa.dm (λi=>c (λf=>by have:=f.2.2.2.1;omega) _ h) λi=>o m rfl ⟨p,Za,Za,Za,Za⟩;refine aa.nm (λg=>aa.nm (λi=>c (λf=>by have:=f.2.1;omega) _ h) λi=>j Za) λg=>j Za}
end
end
end Go.Proofs.Q9
namespace Go.Pol
section
def bE(a n:J)(side:I):I×I:=if¬(1≤n∧n≤65536)∨¬(1≤a∧a≤1048576)then(0,2)else if aB a.toNat n.toNat side=0 then(0,230)else(aB a.toNat n.toNat side,0)
def KJ{n side mode:I}(h:n≤65536):aV n side mode≤400000:=by unfold aV layout;split;{split<;>simp<;>omega};{grind}
def ad4(mode:I):I:=if mode=1 then 8192 else if mode=2 then 1024 else 1
def bound(n mode:I):I:=8300+15*(n+1)+(2*n+1)*XO n (ad4 mode)
end
end Go.Pol
namespace Go.Proofs.Q9
section
open Go Go.Vc Go.Pol Go.Srt
section
variable{E w:G}{F:Q HP}
end
set_option maxRecDepth 100000
section
variable{E w:G}{F:Q HP}
def QE(a:I):Prop:=∀{E w:G}{F:Q HP}{n:J}{side mode:I}{K:J→J→G→Prop},Hp E w F→(∀m:I,n=(m:J)→nN m side mode→∀w',Hp E w' F→K (aV m side mode:J) 0 w')→(¬(0≤n∧nN n.toNat side mode)→∀w',Hp E w' F→K 0 2 w')→Cl Zf [kI,kI] a ⟨[.int .i64 n,.int .u8 (side:J),.int .u8 (mode:J)]⟩ w K
theorem Ac{l:Q I}{k:I}(a:k<l.length):(l.take (k+1)).sum=(l.take k).sum+l[k]:=by rw[ZC,YL,Zh a];simp
theorem np(l:Q I)(k:I):(l.take k).sum≤l.sum:=by have:=Xp Q.sum (Zt k l);rw[YL]at this;omega
theorem T8{t:XM}(y:MJ t){n:J}{side mode:XM}{K:J→J→G→Prop}(h:Hp E w F)(c:∀m:XM,n=(m:J)→nN m side mode→∀w',Hp E w' F→K (aV m side mode:J) 0 w')(d:¬(0≤n∧nN n.toNat side mode)→∀w',Hp E w' F→K 0 2 w'):Cl Zf [kS,kI] t ⟨[.int .i64 n,.int .u8 (side:J),.int .u8 (mode:J)]⟩ w λ(s:Sl)(e:J) w=>dn 0 0 w λI m(a:J)(i:J) w=>aa (XB (i<(s.len:J))) (ay s i 1 λq=>Ld kI q w λ(x:J)=>I (i64 (a+x)) (i64 (i+1)) w∧m (i64 (a+x)) (i64 (i+1)) w<m a i w) (K a e w):=by refine y h (λm z u s w h=>?_) λj w h=>?_;{have f:=KJ (side:=side) (mode:=mode) u.2.2.2.2;unfold aV at f;have b:=h.aS;rw[Zp,ZB,show(ints (layout m side mode)).length=(layout m side mode).length from Zp ..]at b;have o:(layout m side mode).length≤3:=by{unfold layout;split<;>(try split)<;>(try split)<;>simp};generalize A:layout m side mode=l at f h b o;refine⟨λa i w=>∃k:XM,i=(k:J)∧k≤l.length∧a=((l.take k).sum:J)∧Hp E w (ao 1 s ((ints l).map vI)::F),λ_ i _=>l.length-i.toNat,⟨0,O,Za,Zd,h⟩,?_⟩;rintro a i w ⟨k,rfl,hk,rfl,h⟩;have B:=np l k;refine aa.dm (λg=>?_) λC=>?_;{have g:k<l.length:=by{omega};have p:=Ac g;have v:=np l (k+1);refine ay.rd (h.an ad.own) Za Za λq _ D=>?_;refine Ld.sc (s:=.int .i64) (l[k]:J) (by rw[D];simp[Sc.enc,vI,ints]) ?_;rw[ae Za,ae Za];exact⟨⟨k+1,Za,Za,by rw[p];omega,h⟩,by first|omega|(dsimp only;omega)⟩};{have r:k=l.length:=by{omega};subst r;rw[Zu (Zx _)];have:=c m z u w h.drop;unfold aV at this;rw[A]at this;exact this}};{exact⟨λa i w=>a=0∧i=0∧Hp E w F,λ_ _ _=>0,⟨O,O,h⟩,λa i w⟨L,M,h⟩=>by subst L;subst M;exact aa.df Zb (d j _ h)⟩}
theorem Qb:QE 79:=by intro E w F n side mode K h a b;exact JS.ok _ _ _ _ _ (T8 M9 h a b)
theorem Ko:QE 34:=by intro E w F n side mode K h a b;exact NG.ok _ _ _ _ _ (T8 XV h a b)
theorem VD{n:J}{side:I}{K:J→J→G→Prop}(h:Hp E w F)(a:∀m:I,n=(m:J)→nN m side 1→∀w',Hp E w' F→K (aV m side 1:J) 0 w')(b:¬(0≤n∧nN n.toNat side 1)→∀w',Hp E w' F→K 0 2 w'):Cl Zf [kI,kI] 134 ⟨[.int .i64 n,.int .u8 (side:J)]⟩ w K:=FM.ok _ _ _ _ (Qb (mode:=1) h a b)
theorem Sn{n:J}{side:I}{K:J→J→G→Prop}(h:Hp E w F)(a:∀m:I,n=(m:J)→nN m side 1→∀w',Hp E w' F→K (aV m side 1:J) 0 w')(b:¬(0≤n∧nN n.toNat side 1)→∀w',Hp E w' F→K 0 2 w'):Cl Zf [kI,kI] 14 ⟨[.int .i64 n,.int .u8 (side:J)]⟩ w K:=JP.ok _ _ _ _ (Ko (mode:=1) h a b)
theorem Pe{a n:J}{side:I}{K:J→J→G→Prop}(h:Hp E w F)(r:side=1∨side=2)(d:∀w',Hp E w' F→K ((bE a n side).1:J) ((bE a n side).2:J) w'):Cl Zf [av .u8,kI] 90 ⟨[.int .i64 a,.int .i64 n,.int .u8 (side:J)]⟩ w K:=by refine Jf.ok _ _ _ _ _ (iK (λs=>∀(m:I) w,n=(m:J)→nN m side 1→(1≤a∧a≤1048576)→Hp E w F→s w) ?_ λs q=>?_);{rintro m w rfl c ⟨hb1,hb2⟩ h;obtain⟨b,rfl⟩:∃b:I,a=(b:J):=⟨a.toNat,Za⟩;have u:bE (b:J) (m:J) side=if aB b m side=0 then(0,230)else(aB b m side,0):=by{have:=c.2.2.2;unfold bE;rw[Xf Za];rfl};rw[u]at d;have p:∀mode,1≤mode→mode≤3→nN m side mode:=λmode l o=>⟨r,l,o,c.2.2.2.1,c.2.2.2.2⟩;refine⟨λmode w=>∃k:I,mode=(k:J)∧k≤3∧(∀j,k<j→j≤3→b<aV m side j)∧Hp E w F,λmode _=>mode.toNat,⟨3,rfl,Za,λj l o=>Za,h⟩,?_⟩;rintro mode w ⟨k,rfl,hk,hlo,h⟩;refine aa.dm (λt=>?_) λA=>?_;{refine Qb h (λv e _ w h=>?_) λf=>Xu ⟨Za,p k Za hk⟩ f;obtain rfl:m=v:=by{omega};refine aa.dm (λx=>?_) λy=>?_;{have g:aB b m side=k:=by{unfold aB;have:k=1∨k=2∨k=3:=by{omega};(rcases this with rfl|rfl|rfl);{grind};{grind};{rw[Xh Za]}};rw[g,Xf Za]at d;exact d w h};{obtain⟨i,rfl⟩:∃i,k=i+1:=⟨k-1,Za⟩;rw[jY Za];refine⟨⟨i,Za,Za,λj l o=>?_,h⟩,by first|omega|(dsimp only;omega)⟩;by_cases e:j=i+1;{subst e;omega};{grind}}};{obtain rfl:k=0:=by{omega};have g:aB b m side=0:=by{unfold aB;have l:=hlo 1 Za Za;have o:=hlo 2 Za Za;have B:=hlo 3 Za Za;rw[Xf Za,Xf Za,Xf Za]};rw[g,Xh rfl]at d;exact d w h}};{refine VD h (λm z c w h=>?_) λf w h=>?_;{refine aa.nf rfl (aa.dm (λl=>?_) λl=>aa.dm (λo=>?_) λo=>q m w z c Za h);{have:=d w h;rw[show bE a n side=(0,2) by unfold bE;rw[Xh Za]]at this;exact this};{have:=d w h;rw[show bE a n side=(0,2) by unfold bE;rw[Xh Za]]at this;exact this}};{refine aa.nt Zb ?_;have:=d w h;rw[show bE a n side=(0,2) by unfold bE;rw[Xh];refine .inl λC=>f ⟨Za,r,Za,Za,Za,Za⟩]at this;exact this}}
theorem KS{budget n:J}{side:I}{K:J→J→G→Prop}(h:Hp E w F)(p:side=1∨side=2)(a:∀w',Hp E w' F→K ((bE budget n side).1:J) ((bE budget n side).2:J) w'):Cl Zf [av .u8,kI] 23 ⟨[.int .i64 budget,.int .i64 n,.int .u8 (side:J)]⟩ w K:=by refine Mv.ok _ _ _ _ _ (Sn h (λm y d w h=>?_) λf w h=>?_);{subst y;refine iK (λt=>∀w,(1≤budget∧budget≤1048576)→Hp E w F→t w) ?_ λt q=>?_;{rintro w ⟨z,A⟩ h;obtain⟨b,rfl⟩:∃b:I,budget=(b:J):=⟨budget.toNat,Za⟩;have B:bE (b:J) (m:J) side=if aB b m side=0 then(0,230)else(aB b m side,0):=by{have:=d.2.2.2;unfold bE;rw[Xf Za];rfl};rw[B]at a;have o:∀mode,1≤mode→mode≤3→nN m side mode:=λmode i l=>⟨p,i,l,d.2.2.2.1,d.2.2.2.2⟩;have u:=Oc (budget:=b) (n:=m) p;refine aa.dm (λC=>?_) λD=>?_;{rw[Xh (u.2 Za)]at a;exact a w h};{have r:aB b m side≠0:=λe=>by{have:=u.1 e;omega};rw[Xf r]at a;refine⟨λc mode w=>∃k g:I,mode=(k:J)∧c=(g:J)∧1≤k∧k≤4∧1≤g∧(g=1∨g<k)∧aV m side g≤b∧(∀j,g<j→j<k→b<aV m side j)∧Hp E w F,λ_ mode _=>4-mode.toNat,⟨1,1,rfl,rfl,Za,Za,Za,.inl rfl,Za,λj i l=>Za,h⟩,?_⟩;rintro c mode w ⟨k,g,rfl,rfl,hk1,hk4,hg1,hgk,hgn,hlo,h⟩;refine aa.dm (λL=>?_) λM=>?_;{refine Ko h (λN e _ w h=>?_) λf=>Xu ⟨Za,o k Za Za⟩ f;obtain rfl:m=N:=by{omega};rw[jY Za];refine aa.dm (λv=>?_) λx=>?_;{exact⟨⟨k+1,k,Za,rfl,Za,Za,Za,.inr Za,Za,λj i l=>Za,h⟩,by first|omega|(dsimp only;omega)⟩};{refine⟨⟨k+1,g,Za,rfl,Za,Za,hg1,Za,hgn,λj i l=>?_,h⟩,by first|omega|(dsimp only;omega)⟩;by_cases e:j=k;{subst e;omega};{exact hlo j i Za}}};{have s:aB b m side=g:=by{unfold aB;have:g=1∨g=2∨g=3:=by{omega};(rcases this with rfl|rfl|rfl);{have l:=hlo 2 Za Za;have P:=hlo 3 Za Za;rw[Xf Za,Xf Za,Xh Za]};{have P:=hlo 3 Za Za;rw[Xf Za,Xh Za]};{rw[Xh Za]}};rw[s]at a;exact a w h}}};{refine aa.nf rfl (aa.dm (λi=>?_) λi=>aa.dm (λl=>?_) λl=>q w Za h);{have:=a w h;rw[show bE budget (m:J) side=(0,2) by unfold bE;rw[Xh Za]]at this;exact this};{have:=a w h;rw[show bE budget (m:J) side=(0,2) by unfold bE;rw[Xh Za]]at this;exact this}}};{have a:=a w h;rw[show bE budget n side=(0,2) by unfold bE;rw[Xh];refine .inl λQ=>f ⟨Za,p,Za,Za,Za,Za⟩]at a;refine iK (λ_=>True) trivial λ_ _=>aa.nt Zb ?_;exact a}
end
end
end Go.Proofs.Q9
namespace Go.Crc
section
def half(c:I):I:=(c/2)^^^(if c%2=1 then 3988292384 else 0)
def row(c:I):I:=half (half (half (half (half (half (half (half c)))))))
def step(c b:I):I:=row ((c%256)^^^b)^^^(c/256)
def feed(c:I)(b:Q I):I:=b.foldl step c
def bS(b:Q I):I:=feed 4294967295 b^^^4294967295
def ja{c:I}(h:c<4294967296):half c<4294967296:=by unfold half;exact I.xor_lt_two_pow (n:=32) Za Ze
def Qt{c:I}(h:c<4294967296):row c<4294967296:=ja (ja (ja (ja (ja (ja (ja (ja h)))))))
def K6{c b:I}(h:c<4294967296)(a:b<256):step c b<4294967296:=by unfold step;have d:(c%256)^^^b<256:=I.xor_lt_two_pow (n:=8) Za a;exact I.xor_lt_two_pow (n:=32) (Qt Za) Za
def xT:∀(b:Q I)(c:I),c<4294967296→(∀x∈b,x<256)→feed c b<4294967296|[],_,h,_=>h|x::b,c,h,hb=>by rw[feed,Q.foldl_cons];exact xT b _ (K6 h (hb x ZK)) λy a=>hb y (Zy _ a)
def IP(a b:Q I)(c:I):feed c (a++b)=feed (feed c a) b:=Q.foldl_append
def kq{b:Q I}(a:∀x∈b,x<256):bS b<4294967296:=I.xor_lt_two_pow (n:=32) (xT b _ Zb a) Zb
end
end Go.Crc
namespace Go.Vc
section
open Go
def kY(f:I→I)(L i:I):I→I:=λj=>if j<L∧(j<i∨L≤j+i)then f (L-1-j)else f j
def Oe(f:I→I)(L:I):kY f L 0=f:=by funext j;unfold kY;rw[Xf Za]
def O4{f:I→I}{L i k:I}(e:i+k+1=L)(a:i<k):cT (cT (kY f L i) i (kY f L i k)) k (kY f L i i)=kY f L (i+1):=by funext j;have c:kY f L i k=f k:=by{unfold kY;rw[Xf Za]};have d:kY f L i i=f i:=by{unfold kY;rw[Xf Za]};rw[c,d];simp only[cT,kY];by_cases h1:j=k;{grind};{grind}
def Sk{f:I→I}{L i:I}(h:L≤2*i+1):bh (kY f L i) 0 L=(bh f 0 L).reverse:=by apply YP;{rw[Z3,bK,bK]};{intro j a c;rw[bK]at a;rw[eh a,Q.getElem_reverse];simp only[bK];rw[eh Za];simp only[kY,Zk];by_cases h3:j<L∧(j<i∨L≤j+i);{rw[Xh h3]};{grind}}
end
end Go.Vc
namespace Go.Pol
section
def eW(n mode:I):Q (I×I):=places 0 (layout n 1 mode)
def RH{n mode:I}:∃r,eW n mode=(0,n)::r:=by unfold eW layout;rw[Xh O];split<;>exact⟨_,O⟩
def SK(n:I):eW n 3=[(0,n),(n,n),(n+n,4*XO (n+1) 1024)]:=by unfold eW layout;rw[Xh O,Xh O];simp[places]
end
end Go.Pol
namespace Go.Proofs.Q9
section
open Go Go.Vc Go.Bw Go.Pol Go.Srt
structure EC where
 n:I
 mode:I
 A:AS
 held:Q I
 all:Q I
 begun:Xg
 closed:Xg
structure k7 (C:EC):Prop where
 n1:1≤C.n
 n2:C.n≤65536
 m1:1≤C.mode
 m3:C.mode≤3
 live:aV C.n 1 C.mode=C.A.live
 len:C.held.length≤C.n
 hb:∀x∈C.held,x<256
 ab:∀x∈C.all,x<256
def dJ(p:I×I):Q Xe:=[.int .i64 (p.1:J),.int .i64 (p.2:J)]
def dI(p:I×I):(dJ p).length=2:=O
abbrev iC(b:I)(C:EC)(sp:Sl):HP:=ag b (.cells ⟨[.int .i64 (C.n:J),.int .i64 (C.held.length:J),.int .u8 (C.mode:J),pA C.A,.slice sp.base sp.len sp.cap,.int .u32 (Crc.bS C.held:J),.int .u32 (Crc.bS C.all:J),.bool C.begun,.bool C.closed]⟩ 154 (0,0))
abbrev iz(C:EC)(sp:Sl):HP:=ao 2 sp ((eW C.n C.mode).flatMap dJ)
abbrev pE(b:I):Xe:=.pointer (Z ⟨b,0,V⟩)
section
variable{E w:G}{F:Q HP}{b:I}{C:EC}{sp:Sl}{f:I→I}
theorem IM{a:Q (I×I)}{i:I}{G:Q HP}{K:J×J×Unit→Prop}(h:Hp E w G)(d:ad G (aH 2 sp (a.flatMap dJ)))(e:i<a.length)(g:K ((a[i].1:J),(a[i].2:J),())):ay sp (i:J) 2 λq=>Ld (.st [.int .i64,.int .i64]) q w K:=by refine ay.el dI Zb (h.an d) O e λp k=>Ld.st (ks:=[.int .i64,.int .i64]) ((a[i].1:J),(a[i].2:J),()) (λj c=>?_) g;have c:j<2:=c;rw[k j c];match j,c with|0,_=>rfl|1,_=>rfl
theorem rI{i:I}{K:J×J×Unit→G→Prop}(h:Hp E w (iC b C sp::iz C sp::F))(a:i<(eW C.n C.mode).length)(c:∀w',Hp E w' (iC b C sp::iz C sp::F)→K ((((eW C.n C.mode)[i]).1:J),(C.held.length:J),()) w'):Cl Zf [.st [.int .i64,.int .i64]] 202 ⟨[pE b,.int .i64 (i:J)]⟩ w K:=by refine sU.ok _ _ _ _ ?_;refine Nw.mk h λd w h=>aC.mk h λw h=>?_;(try simp only[aq,aj,Zk]);refine Ld.xb (b:=b) (x:=sp) h O ?_;refine ay.el dI Zb (h.an (ad.at 2 ad.own)) O a λp e=>?_;refine Ld.sc (s:=.int .i64) (((eW C.n C.mode)[i]).1:J) (by have:=e 0 Zb;simpa[dJ,Sc.enc]using this) ?_;refine Ld.xb (b:=b) h O ?_;(with_reducible refine ak.xw h O O λw h=>?_);exact Ld.xt (b:=d) h O (c w (h.no 0))
theorem Fy{n mode:I}:∃h:0<(eW n mode).length,(eW n mode)[0]=(0,n):=by obtain⟨r,e⟩:=RH (n:=n) (mode:=mode);exact⟨by rw[e];simp,by simp[e]⟩
theorem k7.FE(a:k7 C):C.n≤C.A.live:=by rw[←a.live];unfold aV layout;rw[Xh O];split<;>simp
theorem VA{K:G→Prop}(m:k7 C)(h:Hp E w (iC b C sp::iz C sp::Ar C.A f::F))(v:∀g w',bh g 0 C.held.length=(bh f 0 C.held.length).reverse→Hp E w' (iC b C sp::iz C sp::Ar C.A g::F)→K w'):Cl Zf [] 139 ⟨[pE b]⟩ w K:=by refine um.ok _ _ _ ?_;have y:=m.n2;have c:=m.len;have o:=m.FE;obtain⟨z,B⟩:=Fy (n:=C.n) (mode:=C.mode);(try simp only[aq,aj,Zk]);refine Ld.xb (b:=b) (x:=sp) h rfl ?_;refine IM (i:=0) h (ad.at 1 ad.own) z ?_;rw[B];refine Nw.mk h λe w h=>?_;(with_reducible refine ak.xw h rfl rfl λw h=>?_);refine aC.mk h λw h=>?_;(skip);refine Ld.xb (b:=b) h rfl ?_;rw[ae Za];generalize u:C.held.length=L at c;have D:=u;refine⟨λi k w=>∃d:I,i=(d:J)∧k=(L:J)-1-(d:J)∧2*d≤L+1∧Hp E w (Ar C.A (kY f L d)::ag e (.cells ⟨[.int .i64 ((0:I):J),.int .i64 (C.n:J)]⟩ 156 (0,0))::iC b C sp::iz C sp::F),λi _ _=>L-i.toNat,⟨0,rfl,Za,Za,by rw[Oe];exact h.at 3⟩,?_⟩;rintro i k w ⟨d,rfl,rfl,hd,h⟩;refine aa.dm (λM=>?_) λN=>?_;{obtain⟨k,P⟩:∃k:I,(L:J)-1-(d:J)=(k:J):=⟨L-1-d,Za⟩;rw[P];have r:d+k+1=L:=by{omega};have s:d<k:=by{omega};obtain⟨l,_⟩:=Ar.bV h;refine aC.mk h λw h=>?_;(try simp only[]);refine Ld.xb (b:=b) h rfl (Ld.xt (b:=e) h rfl ?_);refine fK (p:=0) (q:=C.n) h Za (λj Q t w h=>?_) λa=>Xu ⟨Za,Za⟩ a;obtain rfl:d=j:=by{omega};refine aC.mk h λw h=>?_;(try simp only[Zk]);refine Ld.xb (b:=b) h rfl (Ld.xt (b:=e) h rfl ?_);refine fK (p:=0) (q:=C.n) h Za (λj Q t w h=>?_) λa=>Xu ⟨Za,Za⟩ a;obtain rfl:k=j:=by{omega};refine aC.mk h λw h=>?_;(try simp only[Zk]);refine Ld.xb (b:=b) h rfl (Ld.xt (b:=e) h rfl ?_);refine kx (p:=0) (q:=C.n) h Za Za (l.byt _) λw h=>?_;refine aC.mk h λw h=>?_;(skip);refine Ld.xb (b:=b) h rfl (Ld.xt (b:=e) h rfl ?_);refine kx (p:=0) (q:=C.n) h Za Za (l.byt _) λw h=>?_;rw[ae Za,ae Za];refine⟨⟨d+1,Za,Za,Za,?_⟩,by first|omega|(dsimp only;omega)⟩;simp only[Zk]at h;rw[O4 r s]at h;exact h};{refine v (kY f L d) w (by rw[u];exact Sk Za) ?_;exact(((h.no 1).at 2).at 2)}
theorem QW{K:J×J×Unit→J→G→Prop}(a:k7 C)(r:1≤C.held.length)(h:Hp E w (iC b C sp::iz C sp::Ar C.A f::F))(k:∀g w',bh g 0 C.held.length=aU (bh f 0 C.held.length)→Hp E w' (iC b C sp::iz C sp::Ar C.A g::F)→K (((0:I):J),(C.held.length:J),()) (bJ (bh f 0 C.held.length):J) w'):Cl Zf [.st [.int .i64,.int .i64],kI] 137 ⟨[pE b]⟩ w K:=by refine rB.ok _ _ _ ?_;have l:=a.n2;have d:=a.len;have c:=a.FE;obtain⟨e,j⟩:=Fy (n:=C.n) (mode:=C.mode);refine Nw.mk h λm w h=>?_;have h:=h.drew (n:=w.drawn+1);(try simp only[aq,aj,Zk]);refine⟨bO b _ _ (0,0),h.hb,aw.xb (λ_ h=>h) O ?_⟩;refine rI (i:=0) ((h.at 2).at 2) e λw h=>⟨h.hb,?_⟩;rw[j];refine QK (p:=0) (q:=C.held.length) (h.at 3) Za Za Za λg s w o _ h=>⟨h.hb,?_⟩;refine rI (i:=0) ((h.at 2).at 2) e λw h=>?_;rw[j];(with_reducible refine ak.xw h O O λw h=>?_);exact Ld.xt (b:=m) h O (k g w o (h.no 3))
theorem xY{a:Q (I×I)}{i:I}{S:G→Prop}{K:J×J×Unit→Prop}(h:aH 2 sp (a.flatMap dJ) w)(l:∀w',S w'→aH 2 sp (a.flatMap dJ) w')(m:i<a.length)(n:K ((a[i].1:J),(a[i].2:J),())):ay sp (i:J) 2 λq=>aw (.st [.int .i64,.int .i64]) q S K:=by have o:=h.1;rw[de dI]at o;obtain⟨p,k,_⟩:=h.2 0 (by rw[de dI];omega);refine ay.mk k Za Za (Be (ks:=[.int .i64,.int .i64]) ((a[i].1:J),(a[i].2:J),()) (λw' r j c=>?_) n);have c:j<2:=c;have s:=l w' r;obtain⟨d,g,t⟩:=s.2 (i*2+j) (by rw[de dI];omega);obtain rfl:d=p:=Xj.some.inj (g.symm.trans k);rw[Zk,Zm,show(d.add (i*2)).add j=d.add (i*2+j) by unfold Zl;by_cases e1:i*2=0<;>by_cases e2:j=0<;>simp[e1,e2,Yv],t];have e:=lS dI a i j m c;rw[Zh (by rw[de dI];omega)]at e;rw[e];have:j=0∨j=1:=Za;rcases this with rfl|rfl<;>rfl
theorem UF{K:J×J×Unit→J→Xx→Prop}(d:k7 C)(p:1≤C.held.length)(k:C.mode=3)(h:Hp E w (iC b C sp::iz C sp::Ar C.A f::F))(q:∀g w',bh g C.n C.held.length=aU (bh f 0 C.held.length)→Hp E w' (iC b C sp::iz C sp::Ar C.A g::F)→K ((C.n:J),(C.held.length:J),()) (bJ (bh f 0 C.held.length):J) w'):Cl Zf [.st [.int .i64,.int .i64],kI] 138 ⟨[pE b]⟩ w K:=by refine uG.ok _ _ _ ?_;have r:=d.n1;have t:=d.n2;have l:=d.len;have c:eW C.n C.mode=[(0,C.n),(C.n,C.n),(C.n+C.n,4*XO (C.n+1) 1024)]:=by{rw[k];exact SK _};have e:C.n+C.n+4*XO (C.n+1) 1024≤C.A.live:=by{rw[←d.live,k];unfold aV layout;rw[Xh O,Xh O];simp;omega};refine Nw.mk h λu w h=>?_;have h:=h.drew (n:=w.drawn+1);(try simp only[aq,aj,Zk]);have a:∀{w:Xx}{G:Q HP},Hp E w (iC b C sp::iz C sp::G)→bO b _ _ (0,0) w∧aH 2 sp ((eW C.n C.mode).flatMap dJ) w:=λ{w G} h=>⟨h.hb,h.an (ad.at 1 ad.own)⟩;have j:=(h.at 2).at 2;have o:∀h,(eW C.n C.mode)[1]' h=(C.n,C.n):=by{rw[c];intro h;rfl};have v:∀h,(eW C.n C.mode)[2]' h=(C.n+C.n,4*XO (C.n+1) 1024):=by{rw[c];intro h;rfl};have y:(eW C.n C.mode).length=3:=by{rw[c];rfl};obtain⟨z,B⟩:=Fy (n:=C.n) (mode:=C.mode);refine⟨λw=>bO b _ _ (0,0) w∧aH 2 sp ((eW C.n C.mode).flatMap dJ) w,a j,aw.xb (λ_ h=>h.1) O (aw.xb (x:=sp) (λ_ h=>h.1) O ?_)⟩;refine xY (i:=2) (a j).2 (λ_ h=>h.2) Za ?_;rw[v];refine rI (i:=0) j z λw h=>⟨a h,?_⟩;rw[B];refine rI (i:=1) h Za λw h=>⟨a h,?_⟩;rw[o];refine Su (pt:=0) (m:=C.held.length) (pc:=C.n) (pr:=C.n+C.n) (R:=XO (C.n+1) 1024) (h.at 3) Za Za Za p Za Za Za Za Za Za λg s w D h=>?_;have h:=(h.at 2).at 2;refine⟨a h,rI (i:=1) h Za λw h=>?_⟩;rw[o];(with_reducible refine ak.xw h O O λw h=>?_);exact Ld.xt (b:=u) h O (q g w D (h.no 3))
end
def wJ:Prop:=∀{E w:G}{F:Q HP}{b:I}{C:EC}{sp:Sl}{f:I→I}{K:J×J×Unit→J→G→Prop},k7 C→1≤C.held.length→C.mode=3→Hp E w (iC b C sp::iz C sp::Ar C.A f::F)→(∀g w',bh g C.n C.held.length=aU (bh f 0 C.held.length)→Hp E w' (iC b C sp::iz C sp::Ar C.A g::F)→K ((C.n:J),(C.held.length:J),()) (bJ (bh f 0 C.held.length):J) w')→Cl Zf [.st [.int .i64,.int .i64],kI] 138 ⟨[pE b]⟩ w K
def abE:wJ:=λa c d h e=>UF a c d h e
end
section
open Go Go.Vc
set_option maxRecDepth 100000
def MF.ok(a:Sl)(R:Sl→G→Prop) w(h:Cl Pg [(.arr 257)] 208 ⟨[]⟩ w λc b=>Cl Pg [(.arr 257),kS,kI] 207 ⟨[(.agg c),(ah a)]⟩ b λe(f:Sl)(g:J) d=>Nw 296 ⟨Zj 256 (.int .u8 0)++[(ni 0)]⟩ d λi h=>aA 257 ⟨i,0,V⟩ e h λj=>Ld (.arr 257) ⟨i,0,V⟩ j λk=>Cl Pg [kS,kI] 209 ⟨[(.agg k)]⟩ j λ(m:Sl)(n:J) l=>ar Pg (ZD #[25,25] 25 ⟨[(ah f),(ah m)]⟩) kS l λ(p:Sl) o=>R p o):Cl Pg [kS] 141 ⟨[(ah a)]⟩ w R:=co Tryz.f141 [] h
def JE.ok(a:(Xi Xe))(b:Sl)(R:(Xi Xe)→Sl→J→G→Prop) w(h:Nw 296 a w λd c=>Nw 296 ⟨Zj 256 (.int .u8 0)++[(ni 0)]⟩ c λf e=>aK (λ(r:G)=>dn (⟨V,0,0⟩:Sl) 0 r λs t(u:Sl)(v:J) x=>aa (K (v<(b.len:J))) (ay b v 1 λy=>Ld (av .u8) y x λ(z:J)=>Ld (.arr 256) (Zl ⟨d,0,V⟩ 0) x λI=>Cl Pg [(.arr 256),kI] 282 ⟨[(.agg I),(.int .u8 z)]⟩ x λL(B:J) M=>aA 256 (Zl ⟨d,0,V⟩ 0) L M λA=>aa (B==0) (Ld kI (Zl ⟨d,0,V⟩ 256) A λ(N:J)=>St (Zl ⟨d,0,V⟩ 256) (ni (i64 (N+1))) A λC=>s u (i64 (v+1)) C∧t u (i64 (v+1)) C<t u v x) (Ld kI (Zl ⟨d,0,V⟩ 256) A λ(P:J)=>Cl Pg [kS,kI] 283 ⟨[(ni P)]⟩ A λ(Q:Sl)(k1:J) S=>ar Pg (ZD #[25,25] 25 ⟨[(ah u),(ah Q)]⟩) kS S λ(T:Sl) W=>Nw 3 ⟨[(ni (i64 (B+1)))]⟩ W λX Y=>ar Pg (ZD #[25,25] 25 ⟨[(ah T),(ah (⟨Z ⟨X,0,V⟩,1,1⟩:Sl))]⟩) kS Y λ(D:Sl) p1=>St (Zl ⟨d,0,V⟩ 256) (ni 0) p1 λE=>s D (i64 (v+1)) E∧t D (i64 (v+1)) E<t u v x)) (Ld (.arr 257) ⟨d,0,V⟩ x λs1=>aA 257 ⟨f,0,V⟩ s1 x λF=>Ld (.arr 257) ⟨f,0,V⟩ F λu1=>R u1 u 0 F)) λg=>Ld (.arr 257) ⟨d,0,V⟩ e λh=>Cl Pg [kB] 281 ⟨[(.agg h)]⟩ e λ(j:Xg) i=>aa (! j) (Ld (.arr 257) ⟨d,0,V⟩ i λk=>aA 257 ⟨f,0,V⟩ k i λl=>Ld (.arr 257) ⟨f,0,V⟩ l λm=>R m (⟨V,0,0⟩:Sl) 2 l) (Ld kI (Zl ⟨d,0,V⟩ 256) i λ(n:J)=>aa (K ((b.len:J)>(i64 ((2147483647:J)-n)))) (Ld (.arr 257) ⟨d,0,V⟩ i λo=>aA 257 ⟨f,0,V⟩ o i λp=>Ld (.arr 257) ⟨f,0,V⟩ p λq=>R q (⟨V,0,0⟩:Sl) 2 p) (g i))):Cl Pg [(.arr 257),kS,kI] 207 ⟨[(.agg a),(ah b)]⟩ w R:=co Tryz.f207 [(2,[]),(14,[(7,kS),(27,kI)])] h
def Mf.ok(R:(Xi Xe)→G→Prop) w(h:Nw 296 ⟨Zj 256 (.int .u8 0)++[(ni 0)]⟩ w λb a=>Cl Pg [(.arr 256)] 284 ⟨[]⟩ a λd c=>c8 Pg 296 [(0,(.agg d))] λe=>aA 257 ⟨b,0,V⟩ e c λf=>Ld (.arr 257) ⟨b,0,V⟩ f λg=>R g f):Cl Pg [(.arr 257)] 208 ⟨[]⟩ w R:=co Tryz.f208 [] h
def Mo.ok(a:(Xi Xe))(R:Sl→J→G→Prop) w(h:Nw 296 a w λc b=>Ld (.arr 257) ⟨c,0,V⟩ b λd=>Cl Pg [kB] 281 ⟨[(.agg d)]⟩ b λ(f:Xg) e=>aa (! f) (R (⟨V,0,0⟩:Sl) 2 e) (Ld kI (Zl ⟨c,0,V⟩ 256) e λ(g:J)=>Cl Pg [kS,kI] 283 ⟨[(ni g)]⟩ e λ(i:Sl)(j:J) h=>Nw 3 ⟨[(ni 257)]⟩ h λl k=>ar Pg (ZD #[25,25] 25 ⟨[(ah i),(ah (⟨Z ⟨l,0,V⟩,1,1⟩:Sl))]⟩) kS k λ(n:Sl) m=>R n 0 m)):Cl Pg [kS,kI] 209 ⟨[(.agg a)]⟩ w R:=co Tryz.f209 [] h
def Iz.ok(a:(Xi Xe))(R:Xg→G→Prop) w(h:Nw 296 a w λc b=>dw b λd e=>aw (.arr 257) ⟨c,0,V⟩ d λf=>Cl Pg [(.arr 257)] 208 ⟨[]⟩ e λh g=>d g∧vK Pg 296 f h λi=>aa i (R H g) (aw kI (Zl ⟨c,0,V⟩ 256) d λ(j:J)=>aa (K (j≥0)) (aw kI (Zl ⟨c,0,V⟩ 256) d λ(k:J)=>aa (K (k≤2147483647)) (aw (.arr 256) (Zl ⟨c,0,V⟩ 0) d λl=>Cl Pg [kB] 340 ⟨[(.agg l)]⟩ g λ(n:Xg) m=>d m∧R n m) (R U g)) (R U g))):Cl Pg [kB] 281 ⟨[(.agg a)]⟩ w R:=co Tryz.f281 [] h
def Vi.ok(a:(Xi Xe))(b:J)(R:(Xi Xe)→J→G→Prop) w(h:Nw 178 a w λd c=>Nw 178 ⟨Zj 256 (.int .u8 0)⟩ c λf e=>cj (⟨Z ⟨d,0,V⟩,256,256⟩:Sl) 0 256 256 1 λg=>Cl Pg [kI] 341 ⟨[(ah g),(.int .u8 b)]⟩ e λ(i:J) h=>Ld (.arr 256) ⟨d,0,V⟩ h λj=>Cl Pg [(.arr 256),(av .u8),kB] 342 ⟨[(.agg j),(ni i)]⟩ h λl(m:J)(n:Xg) k=>aA 256 ⟨f,0,V⟩ l k λo=>Ld (.arr 256) ⟨f,0,V⟩ o λp=>aA 256 ⟨f,0,V⟩ p o λq=>Ld (.arr 256) ⟨f,0,V⟩ q λr=>R r i q):Cl Pg [(.arr 256),kI] 282 ⟨[(.agg a),(.int .u8 b)]⟩ w R:=co Tryz.f282 [] h
def VS.ok(R:(Xi Xe)→G→Prop) w(h:Nw 178 ⟨Zj 256 (.int .u8 0)⟩ w λb a=>eE 0 a λc d(e:J) f=>aa (K (e<256)) (aF ⟨b,0,V⟩ 256 e 1 λg=>St g (.int .u8 (u8 e)) f λh=>c (i64 (e+1)) h∧d (i64 (e+1)) h<d e f) (Ld (.arr 256) ⟨b,0,V⟩ f λi=>aA 256 ⟨b,0,V⟩ i f λj=>Ld (.arr 256) ⟨b,0,V⟩ j λk=>R k j)):Cl Pg [(.arr 256)] 284 ⟨[]⟩ w R:=co Tryz.f284 [(5,[(2,kI)])] h
def PC.ok(a:(Xi Xe))(R:Xg→G→Prop) w(h:Nw 178 a w λc b=>Nw 343 ⟨Zj 256 (ni 0)⟩ b λe d=>Ld (.arr 256) ⟨c,0,V⟩ d λf=>eE 0 d λg h(i:J) j=>aa (K (i<256)) (fq (.int .u8) f 256 i λ(k:J)=>aF ⟨e,0,V⟩ 256 k 1 λl=>St l (ni 1) j λm=>g (i64 (i+1)) m∧h (i64 (i+1)) m<h i j) (dw j λn o=>aw (.arr 256) ⟨e,0,V⟩ n λp=>Cl Pg [(.arr 256)] 379 ⟨[]⟩ o λr q=>n q∧BE .i64 256 p r λs=>R s q)):Cl Pg [kB] 340 ⟨[(.agg a)]⟩ w R:=co Tryz.f340 [(7,[(7,kI)])] h
def Sy.ok(a:(Xi Xe))(b:J)(R:(Xi Xe)→J→Xg→G→Prop) w(h:Nw 178 a w λd c=>Nw 178 ⟨Zj 256 (.int .u8 0)⟩ c λf e=>aa (K (b<0)) (Ld (.arr 256) ⟨d,0,V⟩ e λg=>aA 256 ⟨f,0,V⟩ g e λh=>Ld (.arr 256) ⟨f,0,V⟩ h λi=>R i 0 U h) (aa (K (b≥256)) (Ld (.arr 256) ⟨d,0,V⟩ e λj=>aA 256 ⟨f,0,V⟩ j e λk=>Ld (.arr 256) ⟨f,0,V⟩ k λl=>R l 0 U k) (aC e λm=>Ld (.arr 256) ⟨d,0,V⟩ m λn=>aF ⟨d,0,V⟩ 256 b 1 λo=>Ld (av .u8) o m λ(p:J)=>aA 256 ⟨f,0,V⟩ n m λq=>aC q λr=>cj (⟨Z ⟨f,0,V⟩,256,256⟩:Sl) 1 (i64 (b+1)) 256 1 λs=>cj (⟨Z ⟨d,0,V⟩,256,256⟩:Sl) 0 b 256 1 λt=>ar Pg (Xz.copy_ #[24,24] 3 ⟨[(ah s),(ah t)]⟩) kI r λ(v:J) u=>aF ⟨f,0,V⟩ 256 0 1 λx=>St x (.int .u8 p) u λy=>Ld (.arr 256) ⟨f,0,V⟩ y λz=>aA 256 ⟨f,0,V⟩ z y λA=>Ld (.arr 256) ⟨f,0,V⟩ A λB=>R B p H A))):Cl Pg [(.arr 256),(av .u8),kB] 342 ⟨[(.agg a),(ni b)]⟩ w R:=co Tryz.f342 [] h
def SJ.ok(R:(Xi Xe)→G→Prop) w(h:Nw 343 ⟨Zj 256 (ni 0)⟩ w λb a=>eE 0 a λc d(e:J) f=>aa (K (e<256)) (aF ⟨b,0,V⟩ 256 e 1 λg=>St g (ni 1) f λh=>c (i64 (e+1)) h∧d (i64 (e+1)) h<d e f) (Ld (.arr 256) ⟨b,0,V⟩ f λi=>aA 256 ⟨b,0,V⟩ i f λj=>Ld (.arr 256) ⟨b,0,V⟩ j λk=>R k j)):Cl Pg [(.arr 256)] 379 ⟨[]⟩ w R:=co Tryz.f379 [(5,[(2,kI)])] h
def Dn.ok(a:J)(R:Sl→J→G→Prop) w(h:Nw 25 ⟨[(.slice V 0 0)]⟩ w λc b=>aa (K (a<0)) (St ⟨c,0,V⟩ (.slice V 0 0) b λd=>Ld kS ⟨c,0,V⟩ d λ(e:Sl)=>R e 2 d) (aa (K (a>2147483647)) (St ⟨c,0,V⟩ (.slice V 0 0) b λf=>Ld kS ⟨c,0,V⟩ f λ(g:Sl)=>R g 2 f) (Cl Pg [kV] 343 ⟨[(ni a)]⟩ b λi h=>fI Pg i [kI] h (λ(j:I)(k:I→Obj)(o:J)(l:G)(m n:G→Prop)=>p8 j k l λp=>Ld kS ⟨c,0,V⟩ p λ(q:Sl)=>Nw 3 ⟨[(ni o)]⟩ p λs r=>ar Pg (ZD #[25,25] 25 ⟨[(ah q),(ah (⟨Z ⟨s,0,V⟩,1,1⟩:Sl))]⟩) kS r λ(u:Sl) t=>St ⟨c,0,V⟩ (ah u) t λv=>kT j k v m) (λx y=>Ld kS ⟨c,0,V⟩ y λ(z:Sl)=>St ⟨c,0,V⟩ (ah z) y λC=>ig (x::[]:Q I) C λA=>Ld kS ⟨c,0,V⟩ A λ(D:Sl)=>R D 0 A) λE F=>ig (E::[]:Q I) F λB=>Ld kS ⟨c,0,V⟩ B λ(L:Sl)=>R L 0 B))):Cl Pg [kS,kI] 283 ⟨[(ni a)]⟩ w R:=xi Tryz.f283 (.s .o (.s (.s .o (.c (.s .o .o) .o)) (.s (.s .o (.b (.r [kI] .o (.b .o)))) (.s .o .o)))) h
def H9.ok(a:J)(R:Xe→G→Prop) w(h:Nw 3 ⟨[(ni a)]⟩ w λc b=>R (.func (.func 381) ⟨[]⟩ ⟨[(.pointer (Z ⟨c,0,V⟩))]⟩) b):Cl Pg [kV] 343 ⟨[(ni a)]⟩ w R:=co Tryz.f343 [] h
def Jk.ok(a:J)(b:J)(c:J)(R:J→J→G→Prop) w(h:aK (λ(e:G)=>0≤b∧aa (K ((i64 (a+(br .i64 (i64 ((1:J)+c)) b)))>2147483647)) (R 0 2 e) (R (i64 (a+(br .i64 (i64 ((1:J)+c)) b))) 0 e)) λd=>aa (K (a<0)) (R 0 2 w) (aa (K (a>2147483647)) (R 0 2 w) (aa (K (b<0)) (R 0 2 w) (aa (K (b>30)) (R 0 2 w) (aa (c !=0) (aa (c !=1) (R 0 2 w) (d w)) (d w)))))):Cl Pg [kI,kI] 360 ⟨[(ni a),(ni b),(ni c)]⟩ w R:=co Tryz.f360 [(2,[])] h
def Dp.ok(a:Xe)(b:Xr)(R:G→Prop) w(h:∃(c:G→Prop)(d:G→I),c w∧∀(e:G),c e→Ld kI b e λ(f:J)=>aa (K (f>0)) (Ld kI b e λ(g:J)=>mi Pg a [kB] [(ni (cg .i64 (i64 (g-1)) 1))] e λ(i:Xg) h=>aa (! i) (R h) (Ld kI b h λ(j:J)=>0≤(1:J)∧St b (ni (aJ .i64 (i64 (j-1)) (1:J))) h λk=>([]:Q I)=([]:Q I)∧c k∧d k<d e)) (R e)):Cl Pg [] 381 ⟨[a,(.pointer (Z b))]⟩ w R:=xi Tryz.f381 (.b (.l [] (.s (.s .o (.c .o .o)) (.s (.b (.s .o (.c .o .o))) .o)))) h
end
end Go.Proofs.Q9
namespace Go.Sym
section
open Go.Inc
def cX(L:Q I)(p:I):Q I:=L.getD p 0::L.eraseIdx p
def AI{L:Q I}{p:I}(a:p<L.length):(cX L p).Perm L:=by unfold cX;have e:L.getD p 0=L[p]:=by{simp[YF,a]};rw[e];rw[Q.eraseIdx_eq_take_drop_succ];have b:L.take p++L[p]::L.drop (p+1)=L:=by{rw[Q.getElem_cons_drop,Zt]};exact List.perm_middle.symm.trans (Q.Perm.of_eq b)
def Qa{L:Q I}{p:I}(a:p<L.length):(cX L p).length=L.length:=(AI a).length_eq
def bY(L:Q I):Prop:=L.Perm (Zs 256)
def bY.len{L:Q I}(h:bY L):L.length=256:=by rw[h.length_eq,YM]
def bY.mem{L:Q I}(h:bY L){c:I}:c∈L↔c<256:=by rw[h.mem_iff,Y9]
def bY.nodup{L:Q I}(h:bY L):L.Nodup:=h.nodup_iff.2 Q.nodup_range
def bY.take{L:Q I}(h:bY L){p:I}(a:p<256):bY (cX L p):=(AI (by rw[h.len];exact a)).trans h
def bY.range:bY (Zs 256):=Q.Perm.refl _
def bY.get{L:Q I}(h:bY L){p:I}(a:p<256):L.getD p 0<256:=by have b:=h.len;have:L.getD p 0=L[p]:=by{simp[YF,b,a]};rw[this];exact h.mem.1 (Zv _)
def bY.idx{L:Q I}(h:bY L){c:I}(b:c<256):L.idxOf c<256∧L.getD (L.idxOf c) 0=c:=by have d:=h.mem.2 b;have e:=h.len;have a:=Q.idxOf_lt_length_of_mem d;refine⟨Za,?_⟩;rw[YF,Zh a,Q.getElem_idxOf a];rfl
def bY.AD{L:Q I}(h:bY L){p:I}(a:p<256):L.idxOf (L.getD p 0)=p:=by have b:=h.len;have e:L.getD p 0=L[p]:=by{simp[YF,b,a]};have d:=h.idx (h.get a);have c:L[L.idxOf (L.getD p 0)]' Za=L[p]:=Ze;exact(Q.getElem_inj h.nodup).1 c
def di(n:I):Q I:=if _h:n=0 then[]else(n-1)%2::di ((n-1)/2)
termination_by n
decreasing_by omega
def oY:di 0=[]:=by rw[di];simp
def oU{n:I}(h:0<n):di n=(n-1)%2::di ((n-1)/2):=by rw[di,dif_neg Za]
def LS(n:I):∀d∈di n,d<2:=by induction n using ZU with|ind n b=>(rcases Z6 n with e|e);{rw[e,oY];simp};{rw[oU e];intro d a;(rcases List.mem_cons.1 a with h|h);{omega};{grind}}
def ez:List Nat→Nat→List Nat→List Nat×List Nat×Nat
 |L,r,[]=>([],L,r)
 |L,r,c::b=>
  if L.idxOf c=0 then ez (cX L 0) (r+1) b
  else
   let x:=ez (cX L (L.idxOf c)) 0 b
   (di r++(L.idxOf c+1)::x.1,x.2)
def dy(L:Q I)(r:I)(b:Q I):Q I:=(ez L r b).1++di (ez L r b).2.2++[257]
def syms(b:Q I):Q I:=dy (Zs 256) 0 b
def mv(L:Q I)(r:I):dy L r []=di r++[257]:=by simp[dy,ez]
def kH{L:Q I}{r c:I}{b:Q I}(h:L.idxOf c=0):dy L r (c::b)=dy (cX L 0) (r+1) b:=by unfold dy;rw[ez,Xh h]
def lX{L:Q I}{r c:I}{b:Q I}(h:L.idxOf c≠0):dy L r (c::b)=di r++(L.idxOf c+1)::dy (cX L (L.idxOf c)) 0 b:=by unfold dy;rw[ez,Xf h];simp
structure DS where
 L:Q I
 left:I
 run:I
 digits:I
def cm(d:DS)(s:I):Xj (DS×Q I×Xg):=if s<2 then if d.run+(1+s)*2^d.digits≤d.left then Z (⟨d.L,d.left,d.run+(1+s)*2^d.digits,d.digits+1⟩,[],U)else V else if s=257 then if d.run=d.left then Z (⟨d.L,0,0,0⟩,Zj d.run (d.L.getD 0 0),H)else V else if d.run=d.left then V else Z (⟨cX d.L (s-1),d.left-(d.run+1),0,0⟩,Zj d.run (d.L.getD 0 0)++[d.L.getD (s-1) 0],U)
def jZ(d:DS×Q I)(s:I):xk (DS×Q I) (Q I) I:=match cm d.1 s with|none=>.bad 160|some (_,t,true)=>.fin (d.2++t)|some (a,t,false)=>.more (a,d.2++t)
def ur{d a:DS}{acc t:Q I}{s:I}(h:cm d s=Z (a,t,U)):jZ (d,acc) s=.more (a,acc++t):=by unfold jZ;rw[h]
def Cw{d a:DS}{acc t:Q I}{s:I}(h:cm d s=Z (a,t,H)):jZ (d,acc) s=.fin (acc++t):=by unfold jZ;rw[h]
def Lp{d:DS}{acc:Q I}{s:I}(h:cm d s=V):jZ (d,acc) s=.bad 160:=by unfold jZ;rw[h]
def Gq(L:Q I)(left:I)(acc a:Q I):∀(n q k:I),q+n*2^k≤left→∃b,run jZ (⟨L,left,q,k⟩,acc) (di n++a)=run jZ (⟨L,left,q+n*2^k,b⟩,acc) a:=by intro n;induction n using ZU with|ind n c=>intro q k d;(rcases Z6 n with e|e);{subst e;exact⟨k,by rw[oY];simp⟩};{rw[oU e];have g:(1+(n-1)%2)*2^k+(n-1)/2*2^(k+1)=n*2^k:=by{rw[Yu,Yj (2^k) 2,←I.mul_assoc,←YU];congr 1;omega};obtain⟨b,h⟩:=c ((n-1)/2) Za (q+(1+(n-1)%2)*2^k) (k+1) Za;refine⟨b,?_⟩;have f:cm ⟨L,left,q,k⟩ ((n-1)%2)=Z (⟨L,left,q+(1+(n-1)%2)*2^k,k+1⟩,[],U):=by{unfold cm;simp only;rw[Xh Za,Xh Za]};rw[ZJ,dQ (ur f),ZF,h];congr 3;omega}
def tY{L:Q I}(a:bY L){c:I}(b:c<256)(h:L.idxOf c=0):L.getD 0 0=c∧cX L 0=L:=by have:=(a.idx b).2;rw[h]at this;refine⟨this,?_⟩;unfold cX;cases L with|nil=>have:=a.len;simp at this|cons x L=>rfl
def wi:∀(b L:Q I)(r left:I)(acc a:Q I),bY L→(∀x∈b,x<256)→left=r+b.length→run jZ (⟨L,left,0,0⟩,acc) (dy L r b++a)=.fin (acc++Zj r (L.getD 0 0)++b) a|[],L,r,left,acc,a,hL,_,hl=>by{rw[mv,Zn];obtain⟨e,h⟩:=Gq L left acc ([257]++a) r 0 0 (by simp at hl;omega);rw[h];have f:cm ⟨L,left,0+r*2^0,e⟩ 257=Z (⟨L,0,0,0⟩,Zj r (L.getD 0 0),H):=by{unfold cm;simp only[Zk,I.pow_zero,ZB];rw[Xf Zb,Xh trivial,Xh (by simp at hl;omega)]};show run jZ _ (257::a)=_;rw[Da (Cw f)];simp}|c::b,L,r,left,acc,a,hL,hb,hl=>by have g:=hb c ZK;have d:∀x∈b,x<256:=λx i=>hb x (Zy _ i);simp only[Zq]at hl;by_cases h0:L.idxOf c=0;{obtain⟨j,k⟩:=tY hL g h0;rw[kH h0,k,wi b L (r+1) left acc a hL d Za,j,Q.replicate_succ'];simp};{obtain⟨l,m⟩:=hL.idx g;rw[lX h0,Zn];obtain⟨e,h⟩:=Gq L left acc ((L.idxOf c+1)::dy (cX L (L.idxOf c)) 0 b++a) r 0 0 Za;rw[h];have f:cm ⟨L,left,0+r*2^0,e⟩ (L.idxOf c+1)=Z (⟨cX L (L.idxOf c),left-(r+1),0,0⟩,Zj r (L.getD 0 0)++[c],U):=by{unfold cm;simp only[Zk,I.pow_zero,ZB,I.add_sub_cancel,m];rw[Xf Za,Xf Za,Xf Za]};rw[ZJ,dQ (ur f)];rw[wi b (cX L (L.idxOf c)) 0 (left-(r+1)) _ a (hL.take l) d Za];simp}
def Dr{b:Q I}(c:∀x∈b,x<256)(a:Q I):run jZ (⟨Zs 256,b.length,0,0⟩,[]) (syms b++a)=.fin b a:=by unfold syms;rw[wi b _ 0 b.length [] a bY.range c Za];simp
def qX:∀(b L:Q I)(r:I),bY L→(∀x∈b,x<256)→∀s∈dy L r b,s≤257|[],L,r,_,_=>λs a=>by rw[mv]at a;(rcases List.mem_append.1 a with h|h);{have:=LS _ s h;omega};{rw[ZL]at h;omega}|c::b,L,r,hL,hb=>λs a=>by have e:=hb c ZK;have d:∀x∈b,x<256:=λx f=>hb x (Zy _ f);obtain⟨g,_⟩:=hL.idx e;by_cases h0:L.idxOf c=0;{rw[kH h0]at a;exact qX b _ (r+1) (hL.take Zb) d s a};{rw[lX h0]at a;(rcases List.mem_append.1 a with h|h);{have:=LS _ s h;omega};{(rcases List.mem_cons.1 h with h|h);{omega};{exact qX b _ 0 (hL.take g) d s h}}}
def xI{b:Q I}(a:∀x∈b,x<256):∀s∈syms b,s≤257:=qX b _ 0 bY.range a
end
end Go.Sym
namespace Go.Vc
section
def J1{n:I}{f:I→J}:(eT n f).toList.all aD=H:=by unfold eT;rw[Q.all_map];exact List.all_eq_true.2 λ_ _=>rfl
def Ez{n:I}:eT n (λ_=>0)=⟨Zj n (.int .i64 0)⟩:=by unfold eT;rw[Q.map_const',YM]
def BE.row{n:I}{f g:I→J}{K:Xg→Prop}(a:K (((Zs n).map f)==((Zs n).map g))):BE .i64 n (eT n f) (eT n g) K:=⟨(Zs n).map f,(Zs n).map g,by simp[eT],by simp[eT],Zd,Zd,a⟩
end
end Go.Vc
namespace Go.Proofs.Q9
section
open Go Go.Vc Go.Inc Go.Sym
abbrev cr(l:Q I):Q Xe:=l.map λ(n:I)=>Yx .u8 (n:J)
def iZ{L:Q I}(h:L.length=256):(cr L).length=256:=by simp[h]
def eN{l:Q I}:(cr l).all aD=H:=by unfold cr;rw[Q.all_map];exact List.all_eq_true.2 λ_ _=>rfl
section
variable{E w:G}{F:Q HP}
theorem UN:Tryz.prog.underlying 24=Z (.slice 5):=Zc
theorem abF:(Tryz.prog.info? 5).map (·.size)=Z 1:=Zc
theorem Oy{K:Xi Xe→G→Prop}(h:Hp E w F)(g:∀w',Hp E w' F→K ⟨cr (Zs 256)⟩ w'):Cl Zf [.arr 256] 284 ⟨[]⟩ w K:=by refine VS.ok _ _ ?_;(skip);refine Nw.mk h λj w h=>?_;have b:∀k,k≤256→(cr (Zs k++Zj (256-k) 0)).length=256:=λk f=>by{simp;omega};refine⟨λi w'=>∃k:I,i=(k:J)∧k≤256∧Hp E w' (ag j (.cells ⟨cr (Zs k++Zj (256-k) 0)⟩ 178 (0,0))::F),λi _=>256-i.toNat,⟨0,O,Za,by have:(⟨cr (Zs 0++Zj (256-0) 0)⟩:Xi Xe)=⟨Zj 256 (.int .u8 0)⟩:=by{simp};rw[this];exact h⟩,?_⟩;rintro i w ⟨k,rfl,f,h⟩;(first|refine aa.dm (λa=>?_) (λa=>?_)|refine aa.em (λa=>?_) (λa=>?_)|refine aa.nm (λa=>?_) (λa=>?_)|refine aa.mk (λa=>?_) λa=>?_);{refine⟨Za,Za,?_⟩;rw[show((k:J)).toNat*1=k by omega];(try simp only[aj,Zk]);have f:=b k Za;refine St.xb h (by simp;omega) O λw h=>?_;rw[ae Za];refine⟨⟨k+1,O,Za,?_⟩,Za⟩;have e:(⟨cr (Zs k++Zj (256-k) 0)⟩:Xi Xe).setIfInBounds k (.int .u8 (u8 (k:J)))=⟨cr (Zs (k+1)++Zj (256-(k+1)) 0)⟩:=by{rw[jY Za];apply Xi.ext';rw[Yp];have:(cr (Zs k++Zj (256-k) 0)).set k (.int .u8 (k:J))=cr ((Zs k++Zj (256-k) 0).set k k):=by{rw[cr,cr,Q.map_set]};rw[this,Q.set_append_right _ _ Zd,YM,I.sub_self];obtain⟨m,l⟩:∃m,256-k=m+1:=⟨255-k,Za⟩;rw[l,Q.replicate_succ,Q.set_cons_zero,YO,show 256-(k+1)=m by omega];simp};rw[e]at h;exact h};{have d:k=256:=by{omega};subst d;have e:(⟨cr (Zs 256++Zj (256-256) 0)⟩:Xi Xe)=⟨cr (Zs 256)⟩:=by{simp};rw[e]at h;have c:(⟨cr (Zs 256)⟩:Xi Xe).size=256:=by{simp};refine Ld.xw h c ?_;refine aA.q h c c eN λw h=>?_;exact Ld.xw h c (g _ h.tl)}
theorem aaE{K:Xi Xe→G→Prop}(h:Hp E w F)(c:∀w',Hp E w' F→K (eT 256 λ_=>1) w'):Cl Zf [.arr 256] 379 ⟨[]⟩ w K:=by refine SJ.ok _ _ ?_;(skip);refine Nw.mk h λd w h=>?_;refine⟨λi w'=>∃k:I,i=(k:J)∧k≤256∧Hp E w' (ag d (.cells (eT 256 λj=>if j<k then 1 else 0) 343 (0,0))::F),λi _=>256-i.toNat,⟨0,O,Za,by rw[iI (g:=λ_=>0) λi _=>Zd,Ez];exact h⟩,?_⟩;rintro i w ⟨k,rfl,hk,h⟩;(first|refine aa.dm (λa=>?_) (λa=>?_)|refine aa.em (λa=>?_) (λa=>?_)|refine aa.nm (λa=>?_) (λa=>?_)|refine aa.mk (λa=>?_) λa=>?_);{refine⟨Za,Za,?_⟩;rw[show((k:J)).toNat*1=k by omega];(try simp only[aj,Zk]);refine St.xb h (by rw[eV];omega) O λw h=>?_;rw[ae Za];refine⟨⟨k+1,O,Za,?_⟩,Za⟩;rw[sW]at h;rw[iI (g:=λj=>if j<k+1 then 1 else 0) λi _=>by by_cases h1:i=k;{subst h1;simp};{by_cases h2:i<k;{simp[h1,h2];omega};{simp[h1,h2];omega}}]at h;exact h};{have b:k=256:=by{omega};subst b;rw[iI (g:=λ_=>1) λi e=>by simp[e]]at h;refine Ld.xw h eV ?_;refine aA.q h eV eV J1 λw h=>?_;exact Ld.xw h eV (c _ h.tl)}
theorem EP{L:Q I}{K:Xg→G→Prop}(h:Hp E w F)(d:bY L)(o:∀w',Hp E w' F→K H w'):Cl Zf [kB] 340 ⟨[.agg ⟨cr L⟩]⟩ w K:=by have p:=d.len;have e:∀x∈L,x<256:=λx l=>by{simpa using d.mem_iff.1 l};refine PC.ok _ _ _ ?_;(skip);have q:(⟨cr L⟩:Xi Xe).size=256:=by{simp[p]};refine Nw.mk h λr w h=>Nw.mk h λm w h=>Ld.xw h q ?_;refine⟨λi w'=>∃k:I,i=(k:J)∧k≤256∧Hp E w' (ag m (.cells (eT 256 λj=>if j∈L.take k then 1 else 0) 343 (0,0))::ag r (.cells ⟨cr L⟩ 178 (0,0))::F),λi _=>256-i.toNat,⟨0,O,Za,by rw[iI (g:=λ_=>0) λi _=>Zd,Ez];exact h⟩,?_⟩;rintro i w ⟨k,rfl,hk,h⟩;(first|refine aa.dm (λb=>?_) (λb=>?_)|refine aa.em (λb=>?_) (λb=>?_)|refine aa.nm (λb=>?_) (λb=>?_)|refine aa.mk (λb=>?_) λb=>?_);{have c:k<L.length:=by{omega};refine fq.rd (s:=.int .u8) Za Za (L[k]:J) ?_ ?_;{simp[c]};have l:=e _ (Zv c);refine⟨Za,Za,?_⟩;rw[show((L[k]:J)).toNat*1=L[k] by omega];(try simp only[aj,Zk]);refine St.xb h (by rw[eV];omega) O λw h=>?_;rw[ae Za];refine⟨⟨k+1,O,Za,?_⟩,Za⟩;rw[sW]at h;rw[iI (g:=λj=>if j∈L.take (k+1)then 1 else 0) λi _=>by have a:i∈L.take (k+1)↔i∈L.take k∨i=L[k]:=by{rw[ZC,Zh c,Q.mem_append];exact or_congr Iff.rfl ZL};by_cases h1:i=L[k];{rw[Xh h1,Xh (a.2 (.inr h1))]};{rw[Xf h1];by_cases h2:i∈L.take k;{rw[Xh h2,Xh (a.2 (.inl h2))]};{rw[Xf h2,Xf λt=>(a.1 t).elim h2 h1]}}]at h;exact h};{have f:k=256:=by{omega};subst f;rw[iI (g:=λ_=>1) λi u=>by rw[Zu Za,Xh];exact d.mem_iff.2 (by simpa using u)]at h;have h:=h.drew (n:=w.drawn+1);refine⟨bO m _ _ _,h.hb,?_⟩;dsimp only;refine aw.xw (λ_ h=>h) eV ?_;refine aaE h λw h=>⟨h.hb,?_⟩;refine BE.row ?_;rw[beq_self_eq_true];exact o _ h.tl}
theorem Tu{L:Q I}{p:I}(b:L.length=256)(d:p<256):((cr L).take 1++((cr (L.take p)).take p++(cr L).drop (1+XO (cr (L.take p)).length p))).set 0 (.int .u8 (L.getD p 0:J))=cr (cX L p):=by have c:(cr (L.take p)).length=p:=by{simp;omega};rw[c,I.min_self,Zu (l:=cr (L.take p)) Za,I.add_comm 1 p];unfold cX;rw[Q.eraseIdx_eq_take_drop_succ];cases L with|nil=>simp at b|cons a L=>simp[cr,Q.map_take,Q.map_drop]
theorem Kg{L:Q I}{p:I}{K:Xi Xe→J→Xg→G→Prop}(h:Hp E w F)(c:L.length=256)(g:p<256)(j:∀w',Hp E w' F→K ⟨cr (cX L p)⟩ (L.getD p 0:J) H w'):Cl Zf [.arr 256,av .u8,kB] 342 ⟨[.agg ⟨cr L⟩,.int .i64 (p:J)]⟩ w K:=by refine Sy.ok _ _ _ _ ?_;(skip);have d:(⟨cr L⟩:Xi Xe).size=256:=by{simp[c]};have k:(⟨Zj 256 (.int .u8 0)⟩:Xi Xe).size=256:=Zd;have l:p<L.length:=Za;refine Nw.mk h λf w h=>Nw.mk h λn w h=>?_;(with_reducible repeat first|refine aC.mk h λw h=>?_|refine aa.no ?_);refine Ld.xw h d ?_;refine⟨Za,Za,?_⟩;rw[show((p:J)).toNat*1=p by omega];(try simp only[aj,Zk]);refine Ld.xb (x:=(L.getD p 0:J)) h ?_ ?_;{grind};refine aA.q h k d eN λw h=>aC.mk h λw h=>?_;rw[ae Za];refine⟨Za,Za,Za,Zd,?_⟩;rw[Xf Zd,show(1:J).toNat*1=1 by decide,show((p:J)+1).toNat-(1:J).toNat=p by omega,show(256:J).toNat-(1:J).toNat=255 by decide];refine⟨Za,Za,Za,Zd,?_⟩;rw[Xf Zb,show(0:J).toNat*1=0 by decide,show((p:J)).toNat-(0:J).toNat=p by omega,show(256:J).toNat-(0:J).toNat=256 by decide];simp only[YB,aj,Zk];have a:aH 1 ⟨Z ⟨f,0,V⟩,p,256⟩ (cr (L.take p)) w:=by{refine⟨by simp;omega,λi m=>⟨⟨f,0,V⟩,O,?_⟩⟩;rw[aj,h.fc];simp at m⊢;simp[show i<L.length by omega]};refine nP (ys:=cr (L.take p)) UN abF h a (List.all_eq_true.1 eN) Ze λw h=>?_;refine⟨Za,Za,?_⟩;rw[show((0:J)).toNat*1=0 by decide];(try simp only[aj,Zr]);refine St.xb h (by simp;omega) O λw h=>?_;have e:(⟨(⟨cr L⟩:Xi Xe).toList.take 1++((cr (L.take p)).take p++(⟨cr L⟩:Xi Xe).toList.drop (1+XO (cr (L.take p)).length p))⟩:Xi Xe).setIfInBounds 0 (.int .u8 (L.getD p 0:J))=⟨cr (cX L p)⟩:=by{apply Xi.ext';rw[Yp];exact Tu c g};rw[e]at h;have b:(⟨cr (cX L p)⟩:Xi Xe).size=256:=Ze;refine Ld.xw h b ?_;refine aA.q h b b eN λw h=>?_;exact Ld.xw h b (j _ h.tl)
theorem W6{n a d:I}{K:J→J→G→Prop}(h:n≤65536)(c:a≤16)(i:d≤1)(j:K ((n+(1+d)*2^a:I):J) 0 w):Cl Zf [kI,kI] 360 ⟨[.int .i64 (n:J),.int .i64 (a:J),.int .i64 (d:J)]⟩ w K:=by have e:2^a≤65536:=ZS (n:=2) Zb c;have f:=Yl a;have l:(1+d)*2^a≤131072:=by{have:=I.mul_le_mul (show 1+d≤2 by omega) e;omega};refine Jk.ok _ _ _ _ _ ?_;have b:0≤(a:J)∧aa (XB (i64 ((n:J)+br .i64 (i64 (1+(d:J))) (a:J))>2147483647)) (K 0 2 w) (K (i64 ((n:J)+br .i64 (i64 (1+(d:J))) (a:J))) 0 w):=by{refine⟨Za,?_⟩;have g:YN .i64=9223372036854775807:=O;rw[ae (x:=1+(d:J)) Za,show 1+(d:J)=((1+d:I):J) by omega,dv (k:=.i64) (by have:Xy.bits .i64=64:=O;omega) Ze,ae Za];exact aa.df Za Ze};(try simp only[aZ]);refine aa.df Za (aa.df Za (aa.df Za (aa.df Za ?_)));by_cases h0:d=0;{exact aa.nf Za b};{exact aa.nt Za (aa.nf Za b)}
end
end
end Go.Proofs.Q9
namespace Go.Vc
section
open Go
def mh(b:I)(w:G):I:=match w.cell? ⟨b,0,V⟩with|some (.int _ v)=>v.toNat|_=>0
def nc{E w:G}{l:Q HP}{b:I}{c:Xi Xe}{t:Xn}{d:I×I}{a:Obj→Q HP}[bR b l c t d a]{k:Xy}{v:J}(h:Hp E w l)(e:c[0]?=Z (.int k v)):mh b w=v.toNat:=by unfold mh;rw[h.fc,e]
end
end Go.Vc
namespace Go.Proofs.Q9
section
open Go Go.Vc
section
variable{E w:G}{F:Q HP}
abbrev bI(b:I)(n:I):HP:=ag b (.cells ⟨[.int .i64 (n:J)]⟩ 3 (0,0))
abbrev wD(s:Sl):Xe:=.slice s.base s.len s.cap
abbrev iJ(b:I)(xs:Q I):HP:=yG (λ(_:Sl)=>True) λs=>[ag b (.cells ⟨[wD s]⟩ 25 (0,0)),ao 1 s ((ints xs).map vI)]
theorem iJ.shut{b:I}{s:Sl}{xs:Q I}(h:Hp E w (ag b (.cells ⟨[wD s]⟩ 25 (0,0))::ao 1 s ((ints xs).map vI)::F)):Hp E w (iJ b xs::F):=Hp.tF s trivial h
theorem iJ.put{b d:I}{s:Sl}{xs:Q I}{x:I}{i:Xn}{l:Q HP}{K:G→Prop}(h:Hp E w (l++ag d (.cells ⟨[.int .i64 (x:J)]⟩ i (0,0))::ag b (.cells ⟨[wD s]⟩ 25 (0,0))::ao 1 s ((ints xs).map vI)::F))(m:xs.length≤1000000)(j:∀w',Hp E w' (iJ b (xs++[x])::F)→K w'):ar Zf (ZD #[25,25] 25 ⟨[wD s,.slice (Z ⟨d,0,V⟩) 1 1]⟩) kS w λe a=>St (⟨b,0,V⟩:Xr) (wD e) a λc=>K c:=by have h:=h.xR;have f:=(h.at 2).aS;simp only[ints,Zp,ZB]at f;refine aX (ys:=[vI (x:J)]) (n:=1) mW Zb (.inl ⟨3,Zc⟩) (h.at 2) (.inl ⟨Z ⟨d,0,V⟩,1,1,O,O,h.an (ad.ax O O)⟩) O (by intro y g;rw[ZL]at g;rw[g];rfl) Za Za λk w' h _=>?_;refine St.xs h O O λw h=>j w ?_;dsimp only[aQ,over]at h;have h:=(h.no 1).p1;refine iJ.shut (s:=k) ?_;rw[show(ints (xs++[x])).map vI=(ints xs).map vI++[vI (x:J)] by simp[ints]];exact h
theorem J5{s:Sl}{b:Q I}(c:aH 1 s (b.map vB) w):(Extern.Bytes.bytesOf (.slice s.base s.len s.cap)).run Zf w=.ok (strOf b) w:=by have e:=c.1;simp only[Zp,ZB]at e;cases hb:s.base with|none=>have:b=[]:=by{cases b with|nil=>rfl|cons x b=>obtain⟨p,f,_⟩:=c.2 0 Zd;rw[hb]at f;cases f};subst this;rfl|some p=>have:=Lib.run_loadBytesX (P:=Zf) w (b.map λ(x:I)=>(x:J)) p .empty (λj x a=>by rw[ZZ]at a;cases hj:b[j]? with|none=>(rw[hj]at a;cases a)|some y=>rw[hj]at a;obtain rfl:=Xj.some.inj a;obtain⟨h,d⟩:=List.getElem?_eq_some_iff.1 hj;obtain⟨q,g,i⟩:=c.2 j Ze;rw[hb]at g;obtain rfl:=Xj.some.inj g;rw[i];simp[vB,d]);rw[Zp,e]at this;show(Extern.Bytes.loadBytes p s.len .empty).run Zf w=_;rw[this];congr 1;unfold strOf strOfNums Lib.bytesOf;simp[Xl.empty,Xl.emptyWithCapacity];try rfl
end
end
section
open Go Go.Vc Go.Inc Go.Sym
section
variable{E w:G}{F:Q HP}
theorem acS {L:List Nat} {s:Sl} {c:Nat} {K:Int→World→Prop} (hL:bY L) (hc:c<256) (hs:aH 1 s (L.map vB) w) (hK:K (L.idxOf c:Int) w):
  Ext Tryz.prog 380 ⟨[.slice s.base s.len s.cap,.int .u8 (c:Int)]⟩ [kI] w K:=by
 have hi:=hL.idx hc
 have hll:=hL.len
 have hsz:(strOf L).size=256:=by
  have:=congrArg List.length (bP L)
  rw [List.length_map,hll] at this
  simpa using this
 have hget: ∀i,i<256→(strOf L)[i]! =UInt8.ofNat (L.getD i 0):=fun i h=>by
  have h1:=bP L
  have h2:(strOf L).data.toList[i]? =some (UInt8.ofNat (L.getD i 0)):=by grind
  have h3:i<(strOf L).size:=by omega
  rw [getElem!_pos (strOf L) i h3]
  rw [Array.getElem?_toList] at h2
  have h4:i<(strOf L).data.size:=h3
  rw [Array.getElem?_eq_getElem h4] at h2
  exact Option.some.inj h2
 have hf:(List.range (strOf L).size).find? (fun i=>(strOf L)[i]! ==UInt8.ofNat c)=some (L.idxOf c):=by
  rw [hsz,List.find?_range_eq_some]
  refine ⟨?_,List.mem_range.2 hi.1,fun j hj=> ?_⟩
  ·grind
  ·rw [hget j (by omega)]
   have hjl:=hL.get (p:=j) (by omega)
   have hne:L.getD j 0≠c:=fun e=>by
    have:=hL.AD (p:=j) (by omega)
    rw [e] at this;omega
   simp only [Bool.not_eq_true',beq_eq_false_iff_ne,ne_eq]
   intro e
   have:=congrArg UInt8.toNat e
   simp only [UInt8.toNat_ofNat'] at this
   omega
 have hr:(Extern.BytealgIndexByte.indexByte #[.slice s.base s.len s.cap,.int .u8 (c:Int)]).run Tryz.prog w= .ok (.int .i64 (L.idxOf c:Int)) w:=by
  show Sem.run _ (do
   let x←Extern.Bytes.bytesOf (.slice s.base s.len s.cap)
   let y←Extern.Bytes.asByte (.int .u8 (c:Int))
   match (List.range x.size).find? fun i=>x[i]! ==y with
   |some i=>pure (goInt i)
   |none=>pure (goInt (-1))) w=_
  have hb:(Extern.Bytes.asByte (.int .u8 (c:Int))).run Tryz.prog w= .ok (UInt8.ofNat c) w:=rfl
  simp only [Sem.run_bind,J5 hs,hb,Result.andThen_ok]
  rw [hf]
  rfl
 have hx:(callFunc 380 #[.slice s.base s.len s.cap,.int .u8 (c:Int)]).run Tryz.prog w= .ok (.value (.int .i64 (L.idxOf c:Int))) w:=by
  rw [run_callFunc_extern Tryz.func380 (by kernel_rfl) (by kernel_rfl) (by kernel_rfl) (e:=Extern.BytealgIndexByte.indexByte) (by kernel_rfl),hr];rfl
 unfold Ext
 rw [show (⟨[.slice s.base s.len s.cap,.int .u8 (c:Int)]⟩:Array Value)= #[.slice s.base s.len s.cap,.int .u8 (c:Int)] from rfl,hx]
 exact hK
theorem ab8{L:Q I}{c:I}{K:Xi Xe→J→G→Prop}(h:Hp E w F)(b:bY L)(e:c<256)(g:∀w',Hp E w' F→K ⟨cr (cX L (L.idxOf c))⟩ (L.idxOf c:J) w'):Cl Zf [.arr 256,kI] 282 ⟨[.agg ⟨cr L⟩,.int .u8 (c:J)]⟩ w K:=by refine Vi.ok _ _ _ _ ?_;have d:=b.len;have f:=b.idx e;have i:(⟨cr L⟩:Xi Xe).size=256:=by{simp[d]};have j:(⟨Zj 256 (.int .u8 0)⟩:Xi Xe).size=256:=Zd;have a:(⟨cr (cX L (L.idxOf c))⟩:Xi Xe).size=256:=by{simp[(b.take f.1).len]};refine Nw.mk h λk w h=>Nw.mk h λl w h=>cj.whole Zb O O ?_;refine Ba.ok _ _ _ _ ?_;refine acS b e (s:=⟨Z ⟨k,0,V⟩,256,256⟩) (h.an (ad.cons (ad.ax (n:=256) (m:=256) (sz:=1) O (by simp[d])))) ?_;refine Ld.xw h i ?_;refine Kg h d f.1 λw h=>?_;refine aA.q h j a eN λw h=>Ld.xw h a ?_;refine aA.q h a a eN λw h=>Ld.xw h a (g w h.tl)
theorem MI{n b:I}(q:n≤2147483647):tD Zf E (.func (.func 381) ⟨[]⟩ ⟨[.pointer (Z ⟨b,0,V⟩)]⟩) (di n).length (λi=>[Ki.enc kI (((di n).getD i 0:I):J)]) [bI b n] (λ_=>True):=by intro r C G w K M s h u j;refine qj.mk Zc (Dp.ok r ⟨b,0,V⟩ K w ?_);have h:Hp E w (bI b n::C 0):=h;refine⟨λw=>∃k m:I,m≤2147483647∧(di n).drop k=di m∧k≤(di n).length∧Hp E w (bI b m::C k),λw=>mh b w,⟨0,n,q,O,Z9 _,h⟩,?_⟩;rintro w ⟨k,m,N,d,P,h⟩;refine Ld.xb (x:=(m:J)) h O (aa.dm (λa=>?_) λy=>?_);{have c:0<m:=by{omega};rw[oU c]at d;have a:k<(di n).length:=by{grind};have z:(di n).getD k 0=(m-1)%2:=by{rw[Zw a]at d;injection d with e _;rw[Zo,Zh a,YD,e]};have l:(di n).drop (k+1)=di ((m-1)/2):=by{rw[←Yr,d];rfl};refine Ld.xb (x:=(m:J)) h O ?_;have A:YN .i64=9223372036854775807:=O;have o:i64 ((m:J)-1)=((m-1:I):J):=by{rw[ae Za];omega};have B:cg .i64 ((m-1:I):J) 1=(((m-1)%2:I):J):=by{rw[show(1:J)=((1:I):J)from O,fO Za Za,I.and_one_is_mod]};have D:aJ .i64 ((m-1:I):J) 1=(((m-1)/2:I):J):=by{rw[show(1:J)=((1:I):J)from O,cw Zb]};rw[o,B];have L:[Yx .i64 (((m-1)%2:I):J)]=[Ki.enc kI (((di n).getD k 0:I):J)]:=by{rw[z]};rw[L];refine s k a [bI b m] w _ (h.perm (ZW (l₁:=[bI b m]))) (λw h=>?_) λw h=>?_;{have h:Hp E w (bI b m::C (k+1)):=h.perm (ZW (l₂:=[bI b m]));refine aa.f O (Ld.xb (x:=(m:J)) h O ⟨Zb,?_⟩);rw[o,D];refine St.xb h Zd O λp g=>?_;have g:Hp E p (bI b ((m-1)/2)::C (k+1)):=g;refine⟨O,⟨k+1,(m-1)/2,Za,l,Za,g⟩,?_⟩;show mh b p<mh b _;rw[nc (v:=(((m-1)/2:I):J)) g O,nc (v:=(m:J)) (by assumption) O];omega};{exact aa.t O (j k w a (h.perm (ZW (l₂:=[bI b m]))).drop)}};{have c:m=0:=by{omega};subst c;rw[oY]at d;have:k=(di n).length:=by{have:=Xp Yh d;rw[ZA,ZN]at this;omega};subst this;exact u w h.drop}
theorem OW{n:I}{K:Sl→J→G→Prop}(h:Hp E w F)(g:n≤2147483647)(q:(di n).length≤1000000)(j:∀s w',Hp E w' (ao 1 s ((ints (di n)).map vI)::F)→K s 0 w'):Cl Zf [kS,kI] 283 ⟨[.int .i64 (n:J)]⟩ w K:=by refine Dn.ok _ _ _ ?_;refine Nw.mk h λa w h=>aa.df Za (aa.df Za ?_);refine H9.ok _ _ _ ?_;refine Nw.mk h λb w h=>?_;have m:Hp E w (iJ a []::bI b n::F):=iJ.shut (s:=⟨V,0,0⟩) ((h.aR 1).at 2);refine fI.R0 (E:=E) (k:=kI) (x:=λi=>(((di n).getD i 0:I):J)) (n:=(di n).length) (λi=>iJ a ((di n).take i)::F) (λ_=>[Cs]) (A:=[bI b n]) m.p1 (λ_=>ad.const trivial) (MI g) ?_ ?_ ?_;{intro o c i A w r t d h f _;refine p8.mk h λw h=>?_;obtain⟨s,_,h⟩:=(h.p1).ex;have h:Hp E w (ag a (.cells ⟨[wD s]⟩ 25 (0,0))::ao 1 s ((ints ((di n).take i)).map vI)::ag o (c 1)::(F++A)):=h;refine Ld.xb (x:=s) h O (Nw.mk h λp w h=>?_);refine iJ.put (l:=[]) h Ze λw h=>kT.mk h.p1 λw h=>f w ?_;have e:(di n).take i++[(di n).getD i 0]=(di n).take (i+1):=by{rw[ZC,Zh d,Zo,Zh d];rfl};rw[e]at h;exact h};{intro D w h;rw[Zu (Zx _)]at h;obtain⟨s,_,h⟩:=(h.p1).ex;have h:Hp E w (ag a (.cells ⟨[wD s]⟩ 25 (0,0))::ao 1 s ((ints (di n)).map vI)::ag D (.deferred (Z []))::F):=h;refine Ld.xb (x:=s) h O (St.xs h O O λw h=>?_);dsimp only[aQ,over]at h;refine ig.yH (h.at 2) λw h=>Ld.xb (x:=s) h O (j s w h.drop)};{intro i D w d h;exact(Hp.H2 h).elim}
end
end
end Go.Proofs.Q9
namespace Go.Vc
section
open Go
section
variable{E w:G}{F:Q HP}
theorem DG{P:Xk}{t e:Xn}{n:I}{k:Xy}{g:TypeInfo}(j:P.underlying t=Z (.array n e))(c:P.underlying e=Z (.int k))(h:P.info? e=Z g)(l:g.size=1){a b:Q J}(f:a.length=n)(i:b.length=n)(D:I)(m:2≤D)(w:G):(Yn D t (.agg ⟨a.map (.int k)⟩) (.agg ⟨b.map (.int k)⟩)).run P w=.ok (a==b) w:=by obtain⟨D,rfl⟩:∃d,D=d+1+1:=⟨D-2,Za⟩;rw[run_equalIn_array w (D+1) _ _ j h,pw h,l,←f,k8 c (f.trans i.symm) _ Zd,all_eq (f.trans i.symm)]
theorem oh{P:Xk}{t:Xn}{it:TypeInfo}{b:Q Xe}{a:I}{K:Xj Xe→Prop}(c:iX P t=Z H)(d:P.info? t=Z it)(h:K (Z (.agg ⟨(b.drop a).take it.size⟩))):gu P t b a K:=by unfold gu;rw[c,d];exact h
theorem fC{P:Xk}{t:Xn}{it:TypeInfo}{b:Q Xe}{a:I}{v:Xe}{K:Xj Xe→Prop}(c:iX P t=Z U)(d:P.info? t=Z it)(e:b[a]?=Z v)(h:K (Z v)):gu P t b a K:=by unfold gu;rw[c,d,e];exact h
end
end
end Go.Vc
namespace Go.Proofs.Q9
section
open Go Go.Vc
def Kn:∃a,Tryz.prog.info? 3=Z a:=by have:(Tryz.prog.info? 3).isSome=H:=Zc;exact Option.isSome_iff_exists.1 this
def Uv:∃a,Tryz.prog.info? 172=Z a∧a.size=258:=by have h:(Tryz.prog.info? 172).map (·.size)=Z 258:=Zc;obtain⟨a,b,c⟩:=Option.map_eq_some_iff.1 h;exact⟨a,b,c⟩
def N1:∃a,Tryz.prog.info? 5=Z a∧a.size=1:=by have h:(Tryz.prog.info? 5).map (·.size)=Z 1:=Zc;obtain⟨a,b,c⟩:=Option.map_eq_some_iff.1 h;exact⟨a,b,c⟩
def abi:Tryz.prog.underlying 172=Z (.array 258 5):=Zc
def TM:Tryz.prog.underlying 5=Z (.int .u8):=Zc
def Qy:Tryz.prog.underlying 3=Z (.int .i64):=Zc
end
end Go.Proofs.Q9
namespace Go.Vc
section
open Go
def pH{P:Xk}{E w:G}{F:Q HP}{t e:Xn}{C:Xi Xe}{b n c:I}{K:Sl→G→Prop}(j:P.underlying t=Z (.slice e))(k:P.underlying e=Z (.int .u8))(h:Hp E w (ag b (.cells C e (0,0))::F))(l:∀w',Hp E w' (ag b (.cells C e (C.size,C.size+1))::F)→K ⟨Z ⟨b,0,V⟩,n,c⟩ w'):ar P (XF t t (.slice (Z ⟨b,0,V⟩) n c)) kS w K:=by have a:=h.ax;have d:b<w.heap.size:=Ze;have f:w.shape? b=Z (e,C.size):=by{unfold G.shape?;rw[a]};have g:(XF t t (.slice (Z ⟨b,0,V⟩) n c)).run P w=.ok (.slice (Z ⟨b,0,V⟩) n c) (w.freeze ⟨b,C.size,V⟩ 1):=by{simp[XF,Xs j,Xs k,markStringish,f]};unfold ar;rw[g];refine l _ (h.setObj ?_ O O O);unfold G.freeze;rw[Xf Zb];have m:w.heap[b]=.cells C e (0,0):=by{rw[Xi.getElem?_eq_getElem d]at a;exact Xj.some.inj a};apply Xi.ext_getElem?;intro i;rw[Xi.set!_eq_setIfInBounds];by_cases hi:b=i;{grind};{grind}
section
variable{E w:G}{F:Q HP}{sz:I}{s:Sl}{xs ys:Q Xe}
theorem Hp.tu{A:HP}{l F:Q HP}[a:pG l F](h:Hp E w (A::l)):Hp E w (A::F):=by obtain⟨p,e⟩:=a.sub;subst e;exact(h.perm List.perm_middle.symm).xR
theorem uU{P:Xk}{t p W e:Xn}{a n:I}{x:Xe}{K:Sl→G→Prop}(X:cF P t e sz a)(hx:(∃Y,P.underlying p=Z (.slice Y))∨P.underlying p=Z .string)(r:Hp E w F)(k:ad F (aH sz s xs))(hfit:s.cap<s.len+n)(hs:ad F (Src sz n x ys))(l:ys.length=n*sz)(hb:(2*(s.len+n)+1024)*a≤2^48)(hb2:s.len+n<2^62)(h:∀u w',Hp E w' (ao sz u (xs++ys)::F)→u.len=s.len+n→K u w'):ar P (ZD #[t,p] W ⟨[.slice s.base s.len s.cap,x]⟩) kS w K:=by obtain⟨q,z,v,y,A,B,C⟩:=X.info;obtain⟨hs1,D⟩:=(r.an hs).run (P:=P);have b:xs.length=s.len*sz:=(r.an k).1;have L:(sizeOf e).run P w=.ok sz w:=by{rw[cV v,y]};have d:(xs++ys).length=(s.len+n)*sz:=by{rw[Zg,b,l,YU]};have f:¬Xz.nextslicecap (s.len+n) s.cap*q.bytes>2^48:=by{have:=CP (n:=s.len+n) (c:=s.cap) Za;have h2:Xz.nextslicecap (s.len+n) s.cap*q.bytes≤(2*(s.len+n)+1024)*a:=by{rw[A];exact ZQ _ this};omega};have g:¬s.len+n≤s.cap:=Za;generalize hq:Question.cut (.appendCap (s.len+n) s.cap e) (w.tape w.drawn (.appendCap (s.len+n) s.cap e))=newCap;have M:s.len+n≤newCap:=by{rw[←hq];exact I.le_add_right _ _};have N:Hp E w.drew F:=r.drew (n:=w.drawn+1);have i:(Xz.firstCells sz s.len (.slice s.base s.len s.cap)).run P w.drew=.ok xs.toArray w.drew:=by{have:Src sz s.len (.slice s.base s.len s.cap) xs w.drew:=.inl ⟨s.base,s.len,s.cap,O,O,N.an k⟩;exact(this.run (P:=P)).1};have m:(Xz.firstCells sz n x).run P w.drew=.ok ys.toArray w.drew:=((N.an hs).run (P:=P)).1;have hA:=N.alloc (.cells (xs.toArray++ys.toArray++Xz.zeroCells z.cells (newCap-(s.len+n))) e);have R:∀w:G,(XI e).run P w=.ok z w:=by{intro w;simp[XI,typeInfo,v,B]};have S:∀w:G,(typeInfo e).run P w=.ok q w:=by{intro w;simp[typeInfo,v]};have j:¬(9223372036854775807<(s.len:J)+(n:J)∧q.bytes=0):=Za;have T:Question.forced (.appendCap (s.len+n) s.cap e)=U:=O;have o:(ZD #[t,p] W ⟨[.slice s.base s.len s.cap,x]⟩).run P w=.ok (.slice (Z ⟨w.heap.size,0,V⟩) (s.len+n) newCap) (w.drew.alloc (.cells (xs.toArray++ys.toArray++Xz.zeroCells z.cells (newCap-(s.len+n))) e)):=by{(rcases hx with⟨Y,hd⟩|hd<;>simp[ZD,Xs X.und,L,Xs hd,D,g,j,S,f,T,hq,i,m,R,newRow]);all_goals rw[←Xi.append_assoc,show xs.toArray++ys.toArray=(xs++ys).toArray by simp]};unfold ar;rw[o];refine h ⟨Z ⟨w.heap.size,0,V⟩,s.len+n,newCap⟩ _ (Hp.lB hA d O M ?_ ?_) O;{simp only[Xi.size_append,Q.size_toArray,mT,C,b,l];have:newCap*sz=(s.len+n)*sz+(newCap-(s.len+n))*sz:=by{rw[←YU];congr 1;omega};rw[this,YU];omega};{grind}
end
end
end Go.Vc
namespace Go.Proofs.Q9
section
open Go Go.Vc
section
variable{E w:G}{F:Q HP}
set_option maxRecDepth 200000 in
theorem RZ{C:Xi Xe}{b n c:I}{K:Sl→G→Prop}(h:Hp E w (ag b (.cells C 5 (0,0))::F))(a:∀w',Hp E w' (ag b (.cells C 5 (C.size,C.size+1))::F)→K ⟨Z ⟨b,0,V⟩,n,c⟩ w'):ar Zf (XF 24 24 (.slice (Z ⟨b,0,V⟩) n c)) kS w K:=pH Zc Zc h a
end
end
end Go.Proofs.Q9
namespace Go.Sym
section
def BH(n:I):(di n).length≤n:=by induction n using ZU with|ind n a=>(rcases Z6 n with h|h);{rw[h,oY];exact Zx _};{rw[oU h,Zq];have:=a ((n-1)/2) Za;omega}
end
end Go.Sym
namespace Go.Proofs.Q9
section
open Go Go.Vc Go.Inc Go.Sym
abbrev lZ(L:Q I)(r:J):Xi Xe:=⟨cr L++[.int .i64 r]⟩
def px{L:Q I}{r:J}(h:L.length=256):(lZ L r).size=257:=by simp[h]
def sY{L:Q I}{r:J}:(lZ L r).toList.all aD=H:=by unfold lZ;rw[Q.all_append,eN];rfl
section
variable{E w:G}{F:Q HP}
theorem Tl:(Tryz.prog.fieldsOf 296).toList.map (λf=>(f.name== "_",f.type,f.offset))=[(U,178,0),(U,3,256)]:=Zc
theorem acG:Tryz.prog.underlying 296=Z (.struct (Tryz.prog.fieldsOf 296)):=Zc
theorem UT:∃a,Tryz.prog.info? 178=Z a∧a.size=256:=by have h:(Tryz.prog.info? 178).map (·.size)=Z 256:=Zc;obtain⟨a,b,c⟩:=Option.map_eq_some_iff.1 h;exact⟨a,b,c⟩
theorem WG:Tryz.prog.underlying 178=Z (.array 256 5):=Zc
theorem vK.es{L m:Q I}{r l:J}{K:Xg→Prop}(g:L.length=256)(n:m.length=256)(B:∀b,K b):vK Zf 296 (lZ L r) (lZ m l) K:=by obtain⟨it,i⟩:=Kn;obtain⟨z,j,o⟩:=UT;obtain⟨M,p,q⟩:=N1;obtain⟨e,f,s,a,c⟩:∃e f,(Tryz.prog.fieldsOf 296).toList=[e,f]∧(e.name== "_",e.type,e.offset)=(U,178,0)∧(f.name== "_",f.type,f.offset)=(U,3,256):=by{have h:=Tl;generalize(Tryz.prog.fieldsOf 296).toList=fs at h;match fs,h with|[],h=>simp at h|[_],h=>simp at h|_::_::_::_,h=>simp at h|[e,f],h=>simp only[ZT,YJ,Q.cons.injEq,and_true]at h;exact⟨e,f,rfl,h.1,h.2⟩};simp only[XQ.mk.injEq]at a c;have A:∀{L:Q I}{r:J},L.length=256→(((lZ L r).toList.drop 0).take 256)=(L.map λ(x:I)=>(x:J)).map (.int .u8):=λ{L r} g=>by{unfold lZ;rw[Yq,Q.take_append_of_le_length (by simp[g]),Zu (by simp[g]),YH];rfl};have N:∀{L:Q I}{r:J},L.length=256→(lZ L r)[256]?=Z (.int .i64 r):=λ{L r} g=>Ze;obtain⟨b,C,u⟩:=mf (P:=Zf) (d:=9) (rec:=λt x y K=>∃b,(∀D,9≤D→∀w,(Yn D t x y).run Zf w=.ok b w)∧K b) (λt x y K h=>h) (xs:=lZ L r) (ys:=lZ m l) (fs:=[e,f]) (K:=K) (by unfold kX;rw[a.1];refine oh (it:=z) (by rw[a.2.1];kernel_rfl) (by rw[a.2.1];exact j) (oh (it:=z) (by rw[a.2.1];kernel_rfl) (by rw[a.2.1];exact j) ?_);rw[a.2.2,o,a.2.1,A g,A n];refine⟨_,λD G w=>DG WG TM p q Ze Ze D Za w,?_⟩;unfold kX;rw[c.1];refine fC (it:=it) (v:=.int .i64 r) (by rw[c.2.1];kernel_rfl) (by rw[c.2.1];exact i) Ze (fC (it:=it) (v:=.int .i64 l) (by rw[c.2.1];kernel_rfl) (by rw[c.2.1];exact i) Ze ?_);rw[c.2.1];exact⟨r==l,λD G w=>by obtain⟨D,rfl⟩:∃k,D=k+1:=⟨D-1,Za⟩;exact run_equalIn_int w D _ _ _ _ _ Qy,B _⟩);refine⟨b,λw=>?_,u⟩;rw[run_equalIn_struct w 9999 _ _ _ acG Zc,s];exact C 9999 Zb w
abbrev esP:I→Xj (I×I):=(#[(0,256),(256,1)][·]?)
theorem S3(a:Q (I×Xe)):Tryz.prog.built 296 a=YK esP ⟨Zj 256 (.int .u8 0)++[.int .i64 0]⟩ a:=Zc
theorem c8.es{L:Q I}{K:Xi Xe→Prop}(a:L.length=256)(b:K (lZ L 0)):c8 Zf 296 [(0,.agg ⟨cr L⟩)] K:=by refine⟨_,?_,b⟩;rw[S3];have:=jT (place:=esP) (i:=0) (v:=.agg ⟨cr L⟩) (rest:=[]) (pre:=[]) (aN:=Zj 256 (.int .u8 0)) (post:=[.int .i64 0]) O O ZX (by show(⟨cr L⟩:Xi Xe).size=_;simp[a]);exact this
abbrev esZ:Xi Xe:=⟨Zj 256 (Yx .u8 0)++[Yx .i64 0]⟩
theorem R5:(⟨Zj 256 (.int .u8 0)++[.int .i64 0]⟩:Xi Xe).size=257:=Zd
theorem K0{K:Xi Xe→G→Prop}(h:Hp E w F)(b:∀w',Hp E w' F→K (lZ (Zs 256) 0) w'):Cl Zf [.arr 257] 208 ⟨[]⟩ w K:=by refine Mf.ok _ _ ?_;refine Nw.mk h λc w h=>Oy h λw h=>c8.es Zd ?_;have a:(lZ (Zs 256) 0).size=257:=px Zd;refine aA.q h R5 a sY λw h=>?_;exact Ld.xw h a (b _ h.tl)
theorem Dv{L:Q I}{r:I}{K:Xg→G→Prop}(h:Hp E w F)(c:bY L)(f:r≤2147483647)(d:∀w',Hp E w' F→K H w'):Cl Zf [kB] 281 ⟨[.agg (lZ L (r:J))]⟩ w K:=by refine Iz.ok _ _ _ ?_;have a:=iZ c.len;refine Nw.mk h λe w h=>?_;have h:=h.drew (n:=w.drawn+1);refine⟨bO e _ _ _,h.hb,?_⟩;refine aw.qw (λ_ h=>h) a O ?_;refine K0 h λw h=>⟨h.hb,?_⟩;refine vK.es c.len Zd λb=>?_;refine aa.mk (λ_=>d _ h.tl) λ_=>?_;(try simp only[aj,Zk,Zr]);refine aw.q (λ_ h=>h) a O O (aa.dt Za ?_);refine aw.q (λ_ h=>h) a O O (aa.dt Za ?_);refine aw.p (λ_ h=>h) a ?_;exact EP h c λw h=>⟨h.hb,d _ h.tl⟩
theorem SF{L:Q I}{r:I}{s:Sl}{b:Q I}{K:Xi Xe→Sl→J→G→Prop}(h:Hp E w F)(t:bY L)(C:ad F (aH 1 s (b.map vB)))(W:∀x∈b,x<256)(hr:r+b.length≤1000000)(u:∀D w',Hp E w' (ao 1 D ((ints (ez L r b).1).map vI)::F)→bY (ez L r b).2.1→(ez L r b).2.2≤1000000→K (lZ (ez L r b).2.1 ((ez L r b).2.2:J)) D 0 w'):Cl Zf [.arr 257,kS,kI] 207 ⟨[.agg (lZ L (r:J)),.slice s.base s.len s.cap]⟩ w K:=by refine JE.ok _ _ _ _ ?_;have l:=iZ t.len;have M:b.length=s.len:=by{have:=(h.an C).1;simpa using this};(try simp only[aZ,aj,Zk,Zr]);refine Nw.mk h λz w h=>Nw.mk h λN w h=>?_;refine Ld.qw h l O (Dv h t Za λw h=>?_);(with_reducible refine aa.IB ?_);refine Ld.q h l O O ?_;rw[ae Za];refine aa.df Za ?_;refine⟨λo i w=>∃(k:I)(d:Q I)(e:I)(a:Q I),i=(k:J)∧k≤b.length∧bY d∧a.length+e≤r+k∧ez L r b=(a++(ez d e (b.drop k)).1,(ez d e (b.drop k)).2)∧Hp E w (ao 1 o ((ints a).map vI)::ag N (.cells esZ 296 (0,0))::ag z (.cells (lZ d (e:J)) 296 (0,0))::F),λ_ i _=>b.length-i.toNat,⟨0,L,r,[],O,Za,t,Zd,Zd,h.aR 1⟩,?_⟩;rintro o i w ⟨k,d,e,a,rfl,hk,hL',hlo,he,h⟩;have f:=iZ hL'.len;refine aa.dm (λj=>?_) λX=>?_;{have j:k<b.length:=by{omega};have P:=W _ (Zv j);have R:=hL'.idx P;refine ay.rd ((h.tl:Hp E w F).an C) Za Za λq _ Y=>?_;refine Ld.sc (s:=.int .u8) (b[k]:J) (by rw[Y];simp[Sc.enc,vB]) ?_;refine Ld.p h f (ab8 h hL' P λw h=>?_);have hm:(⟨cr (cX d (d.idxOf b[k]))⟩:Xi Xe).size=256:=by{simp[(hL'.take R.1).len]};have g:=hL'.take R.1;have c:=iZ g.len;refine aA.xm (pre:=[]) (aN:=cr d) (post:=[.int .i64 (e:J)]) h O O f hm (λv hv=>List.all_eq_true.1 eN v hv) λw h=>?_;have h:Hp E w (ao 1 o ((ints a).map vI)::ag N (.cells esZ 296 (0,0))::ag z (.cells (lZ (cX d (d.idxOf b[k])) (e:J)) 296 (0,0))::F):=h;rw[Zw j]at he;rw[ae (x:=(k:J)+1) Za];by_cases h0:d.idxOf b[k]=0;{rw[ez,Xh h0]at he;rw[h0]at h g c⊢;refine aa.et O (Ld.q h c O O ?_);rw[ae Za];refine St.q h c O O O λw h=>?_;dsimp only[aQ,over]at h;rw[show(e:J)+1=((e+1:I):J) by omega]at h;exact⟨⟨k+1,_,e+1,a,Za,Za,g,Za,he,h⟩,by first|omega|(dsimp only;omega)⟩};{rw[ez,Xf h0]at he;refine aa.ef Za (Ld.q h c O O ?_);have hdl:=BH e;refine OW h Za Za λm w h=>?_;have S:=h.aS;have l2:=(h.at 1).aS;simp only[ints,Zp,ZB]at S l2;refine aX (s:=o) (ys:=(ints (di e)).map vI) (n:=m.len) mW Zb (.inl ⟨3,Zc⟩) (h.at 1) (.inl ⟨m.base,m.len,m.cap,O,O,h.an ad.own⟩) (by simp[ints,S]) D0 Za Za λs2 w h hl2=>?_;have h:=h.no 1;refine Nw.mk h λA w h=>?_;rw[ae Za]at h;refine aX (s:=s2) (ys:=[vI ((d.idxOf b[k]:J)+1)]) (n:=1) mW Zb (.inl ⟨3,Zc⟩) (h.at 1) (.inl ⟨Z ⟨A,0,V⟩,1,1,O,O,h.an (ad.ax O O)⟩) O (by intro y T;rw[ZL]at T;rw[T];rfl) Za Za λs3 w h _=>?_;have h:=h.no 1;refine St.q (b:=z) h c O O O λw h=>?_;dsimp only[aQ,over]at h;refine⟨⟨k+1,_,0,a++(di e++[d.idxOf b[k]+1]),Za,Za,g,?_,?_,?_⟩,by first|omega|(dsimp only;omega)⟩;{grind};{rw[he];simp};{rw[show(ints (a++(di e++[d.idxOf b[k]+1]))).map vI=(ints a).map vI++(ints (di e)).map vI++[vI ((d.idxOf b[k]:J)+1)] by simp[ints]];exact h}}};{have B:k=b.length:=by{omega};subst B;rw[ZV (Zx _),ez,ZF]at he;rw[he]at u;dsimp only at u;refine Ld.qw h f O ?_;refine aA.q h R5 (px hL'.len) sY λw h=>Ld.xw h (px hL'.len) (u o w h.tu hL' Za)}
theorem Vj{L:Q I}{r:I}{K:Sl→J→G→Prop}(h:Hp E w F)(c:bY L)(l:r≤1000000)(f:∀d w',Hp E w' (ao 1 d ((ints (di r++[257])).map vI)::F)→K d 0 w'):Cl Zf [kS,kI] 209 ⟨[.agg (lZ L (r:J))]⟩ w K:=by refine Mo.ok _ _ _ ?_;have a:=iZ c.len;(try simp only[aj,Zk]);refine Nw.mk h λm w h=>Ld.qw h a O (Dv h c Za λw h=>?_);(with_reducible refine aa.IB ?_);have g:=BH r;refine Ld.q h a O O (OW h Za Za λi w h=>Nw.mk h λb w h=>?_);have j:=(h.at 1).aS;simp only[ints,Zp,ZB]at j;refine aX (s:=i) (ys:=[vI 257]) (n:=1) mW Zb (.inl ⟨3,Zc⟩) (h.at 1) (.inl ⟨Z ⟨b,0,V⟩,1,1,O,O,h.an (ad.ax O O)⟩) O (by intro y e;rw[ZL]at e;rw[e];rfl) Za Za λk w h _=>f k w ?_;rw[show(ints (di r++[257])).map vI=(ints (di r)).map vI++[vI 257] by simp[ints]];exact h.tu
theorem Wh{s:Sl}{b:Q I}{K:Sl→G→Prop}(h:Hp E w F)(i:ad F (aH 1 s (b.map vB)))(j:∀x∈b,x<256)(u:b.length≤1000000)(k:∀f w',Hp E w' (ao 1 f ((ints (syms b)).map vI)::F)→K f w'):Cl Zf [kS] 141 ⟨[.slice s.base s.len s.cap]⟩ w K:=by refine MF.ok _ _ _ ?_;refine K0 h λw h=>SF (r:=0) h bY.range i j Ze λl w h a e=>Nw.mk h λv w h=>?_;refine aA.q h R5 (px a.len) sY λw h=>Ld.xw h (px a.len) ?_;refine Vj h a e λd w h=>?_;have g:=h.aS;have m:=(h.at 2).aS;have y:(ez (Zs 256) 0 b).1.length+(ez (Zs 256) 0 b).2.2≤b.length:=by{have:∀(b L:Q I)(r:I),(ez L r b).1.length+(ez L r b).2.2≤r+b.length:=by{intro b;induction b with|nil=>intro L r;simp[ez]|cons c b o=>intro L r;rw[ez];split;{grind};{have:=o (cX L (L.idxOf c)) 0;have:=BH r;simp only[Zg,Zq];omega}};simpa using this b (Zs 256) 0};have p:=BH (ez (Zs 256) 0 b).2.2;simp only[ints,Zp,ZB,Zg,ZO]at g m;refine aX (s:=l) (ys:=(ints (di (ez (Zs 256) 0 b).2.2++[257])).map vI) (n:=d.len) mW Zb (.inl ⟨3,Zc⟩) (h.at 2) (.inl ⟨d.base,d.len,d.cap,O,O,h.an ad.own⟩) (by simp[ints,←g]) D0 Za Za λt w h _=>k t w ?_;rw[show(ints (syms b)).map vI=(ints (ez (Zs 256) 0 b).1).map vI++(ints (di (ez (Zs 256) 0 b).2.2++[257])).map vI by unfold syms dy;simp[ints]];exact h.tu
end
end
section
open Go Go.Vc
set_option maxRecDepth 100000
def Fm.ok(a:(Xj Xr))(b:(Xi Xe))(c:Sl)(R:J→G→Prop) w(h:Nw 172 b w λe d=>Ld (.arr 258) ⟨e,0,V⟩ d λf=>Cl Pg [kI,kI] 217 ⟨[(.agg f),(ah c)]⟩ d λ(h:J)(i:J) g=>aK (λ(k:G)=>Ld (.arr 258) ⟨e,0,V⟩ k λl=>Cl Pg [(.arr 258),kI] 218 ⟨[(.agg l)]⟩ k λn(o:J) m=>Nw 262 ⟨Zj 258 (.int .u32 0)⟩ m λq p=>aA 258 ⟨q,0,V⟩ n p λr=>eE 0 r λs t(u:J) v=>aa (K (u<(c.len:J))) (ay c u 1 λx=>Ld kI x v λ(y:J)=>aC v λz=>aF ⟨q,0,V⟩ 258 y 1 λB=>Ld (av .u32) B z λ(C:J)=>aF ⟨e,0,V⟩ 258 y 1 λD=>Ld (av .u8) D z λ(E:J)=>Cl Pg [kB] 216 ⟨[(.pointer a),(.int .u32 C),(ni (i64 E))]⟩ z λ(F:Xg) A=>s (i64 (u+1)) A∧t (i64 (u+1)) A<t u v) (R 0 v)) λj=>aa (ZH (a:Xj Xr)) (R 2 g) (aa (i !=0) (R 2 g) (j g))):Cl Pg [kI] 147 ⟨[(.pointer a),(.agg b),(ah c)]⟩ w R:=co Tryz.f147 [(4,[]),(14,[(32,kI)])] h
def C9.ok(a:(Xi Xe))(b:Sl)(R:J→J→G→Prop) w(h:Nw 172 a w λd c=>Ld (.arr 258) ⟨d,0,V⟩ c λe=>Cl Pg [kB] 295 ⟨[(.agg e)]⟩ c λ(g:Xg) f=>aa (! g) (R 0 2 f) (dn 0 0 f λh i(j:J)(k:J) l=>aa (K (k<(b.len:J))) (ay b k 1 λm=>Ld kI m l λ(n:J)=>aa (K (n<0)) (R 0 2 l) (aa (K (n≥258)) (R 0 2 l) (aF ⟨d,0,V⟩ 258 n 1 λo=>Ld (av .u8) o l λ(p:J)=>aa (p==0) (R 0 2 l) (aF ⟨d,0,V⟩ 258 n 1 λq=>Ld (av .u8) q l λ(r:J)=>h (i64 (j+(i64 r))) (i64 (k+1)) l∧i (i64 (j+(i64 r))) (i64 (k+1)) l<i j k l)))) (R j 0 l))):Cl Pg [kI,kI] 217 ⟨[(.agg a),(ah b)]⟩ w R:=co Tryz.f217 [(10,[(4,kI),(13,kI)])] h
def E0.ok(R:(Xj Xr)→G→Prop) w(h:Nw 311 ⟨[(.slice V 0 0),(ni 0)]⟩ w λb a=>R (Z ⟨b,0,V⟩) a):Cl Pg [kP] 145 ⟨[]⟩ w R:=co Tryz.f145 [] h
def rz.ok(a:(Xj Xr))(R:Sl→G→Prop) w(h:aa (ZH (a:Xj Xr)) (R (⟨V,0,0⟩:Sl) w) (af a λb=>Ld kS (b.add 0) w λ(c:Sl)=>Cl Pg [kS] 51 ⟨[(ah c)]⟩ w λ(e:Sl) d=>R e d)):Cl Pg [kS] 148 ⟨[(.pointer a)]⟩ w R:=co Tryz.f148 [] h
def uw.ok(a:(Xj Xr))(b:J)(c:J)(R:Xg→G→Prop) w(h:Nw 242 ⟨[(.pointer a)]⟩ w λe d=>Ld kP ⟨e,0,V⟩ d λf=>aa (ZH (f:Xj Xr)) (R U d) (Cl Pg [kB] 292 ⟨[(.int .u32 b),(ni c)]⟩ d λ(h:Xg) g=>aa (! h) (R U g) (Cl Pg [kV] 293 ⟨[(.int .u32 b),(ni c)]⟩ g λj i=>fI Pg j [(av .u8)] i (λ(k:I)(l:I→Obj)(p:J)(m:G)(n o:G→Prop)=>p8 k l m λq=>Ld kP ⟨e,0,V⟩ q λr=>Cl Pg [] 294 ⟨[(.pointer r),(.int .u8 p)]⟩ q λs=>kT k l s n) (λt u=>ig (t::[]:Q I) u λv=>R H v) λx y=>ig (x::[]:Q I) y λz=>R U z))):Cl Pg [kB] 216 ⟨[(.pointer a),(.int .u32 b),(ni c)]⟩ w R:=xi Tryz.f216 (.s .o (.s (.s .o (.c (.s .o .o) .o)) (.s (.s .o (.b (.r [(av .u8)] .o (.b .o)))) (.s .o .o)))) h
def CI.ok(a:J)(b:J)(R:Xg→G→Prop) w(h:aa (K (b≥0)) (aa (K (b≤32)) (0≤b∧R ((aJ .u64 (u64 a) b)==0) w) (R U w)) (R U w)):Cl Pg [kB] 292 ⟨[(.int .u32 a),(ni b)]⟩ w R:=co Tryz.f292 [] h
def Dc.ok(a:J)(b:J)(R:Xe→G→Prop) w(h:Nw 112 ⟨[(.int .u32 a)]⟩ w λd c=>Nw 3 ⟨[(ni b)]⟩ c λf e=>R (.func (.func 347) ⟨[]⟩ ⟨[(.pointer (Z ⟨f,0,V⟩)),(.pointer (Z ⟨d,0,V⟩))]⟩) e):Cl Pg [kV] 293 ⟨[(.int .u32 a),(ni b)]⟩ w R:=co Tryz.f293 [] h
def sP.ok(a:(Xj Xr))(b:J)(R:G→Prop) w(h:af a λc=>Ld kI (c.add 1) w λ(d:J)=>aa ((cg .i64 d 7)==0) (af a λe=>Ld kS (e.add 0) w λ(f:Sl)=>Nw 5 ⟨[(.int .u8 0)]⟩ w λh g=>ar Pg (ZD #[24,24] 24 ⟨[(ah f),(ah (⟨Z ⟨h,0,V⟩,1,1⟩:Sl))]⟩) kS g λ(j:Sl) i=>af a λk=>St (k.add 0) (ah j) i λl=>aC l λm=>af a λn=>Ld kS (n.add 0) m λ(o:Sl)=>af a λp=>Ld kI (p.add 1) m λ(q:J)=>0≤(3:J)∧ay o (aJ .i64 q (3:J)) 1 λr=>Ld (av .u8) r m λ(s:J)=>af a λt=>Ld kI (t.add 1) m λ(u:J)=>0≤(i64 ((7:J)-(cg .i64 u 7)))∧ay o (aJ .i64 q (3:J)) 1 λv=>St v (.int .u8 (gO .u8 s (br .u8 b (i64 ((7:J)-(cg .i64 u 7)))))) m λx=>af a λy=>Ld kI (y.add 1) x λ(z:J)=>af a λF=>St (F.add 1) (ni (i64 (z+1))) x λI=>R I) (aC w λA=>af a λK=>Ld kS (K.add 0) A λ(B:Sl)=>af a λL=>Ld kI (L.add 1) A λ(C:J)=>0≤(3:J)∧ay B (aJ .i64 C (3:J)) 1 λM=>Ld (av .u8) M A λ(N:J)=>af a λP=>Ld kI (P.add 1) A λ(D:J)=>0≤(i64 ((7:J)-(cg .i64 D 7)))∧ay B (aJ .i64 C (3:J)) 1 λQ=>St Q (.int .u8 (gO .u8 N (br .u8 b (i64 ((7:J)-(cg .i64 D 7)))))) A λE=>af a λS=>Ld kI (S.add 1) E λ(T:J)=>af a λW=>St (W.add 1) (ni (i64 (T+1))) E λX=>R X)):Cl Pg [] 294 ⟨[(.pointer a),(.int .u8 b)]⟩ w R:=co Tryz.f294 [] h
def yU.ok(a:Xe)(b:Xr)(c:Xr)(R:G→Prop) w(h:Ld kI b w λ(d:J)=>∃(e:J→G→Prop)(f:J→G→I),e ((i64 (d-1))) w∧∀(g:J),∀(h:G),e g h→aa (K (g≥0)) (Ld (av .u32) c h λ(i:J)=>0≤g∧mi Pg a [kB] [(.int .u8 (cg .u8 (u8 (aJ .u32 i g)) 1))] h λ(k:Xg) j=>aa (! k) (R j) (([]:Q I)=([]:Q I)∧e (i64 (g-1)) j∧f (i64 (g-1)) j<f g h)) (R h)):Cl Pg [] 347 ⟨[a,(.pointer (Z b)),(.pointer (Z c))]⟩ w R:=xi Tryz.f347 (.s .o (.b (.l [(4,kI)] (.s (.s .o (.c .o .o)) (.s (.b (.s .o (.c .o .o))) .o))))) h
end
end Go.Proofs.Q9
namespace Go.Srt
section
def sh(l:Q I)(s:I):I:=2^(15-l.getD s 0)
def start(l a:Q I)(i:I):I:=((a.take i).map (sh l)).sum
def uq{l a:Q I}{i:I}(h:i<a.length):start l a (i+1)=start l a i+sh l a[i]:=by unfold start;rw[ZC,ZE,YL,Zh h];simp only[Xj.toList,ZT,YJ,Q.sum_cons,Q.sum_nil,Zr]
def FZ(l:Q I)(s:I):0<sh l s:=Yl _
def NB{l ys:Q I}{i j:I}(h:i≤j):start l ys i≤start l ys j:=by unfold start;have:=Zt i (ys.take j);rw[Q.take_take,Xb h]at this;have a:=Xp (λb=>(b.map (sh l)).sum) this;simp only[ZE,YL]at a;omega
def fL{l:Q I}{s:I}:s∈used l↔s<l.length∧0<l.getD s 0:=by unfold used;rw[Q.mem_filter,Y9];simp
def DR(l:Q I):bB l=((used l).map λs=>wt (l.getD s 0)).sum:=by have a:∀k,k≤l.length→bB (l.take k)=(((Zs k).filter λs=>decide (0<l.getD s 0)).map λs=>wt (l.getD s 0)).sum:=by{intro k;induction k with|zero=>intro _;simp[bB]|succ k b=>intro c;rw[vX Za,b Za,YO,Q.filter_append,ZE,YL];have d:l.getD k 0=l[k]:=by{rw[Zo,Zh Za];rfl};by_cases h:0<l.getD k 0;{grind};{rw[Q.filter_cons_of_neg Ze];have:l[k]=0:=by{omega};rw[this];rfl}};have:=a l.length (Zx _);rw[Ye]at this;exact this
def iE{l:Q I}(b:bB l≤32768)(s:I):l.getD s 0≤15:=by rw[Zo];cases h:l[s]? with|none=>simp|some x=>have:=W0 (YY h);unfold wt at this;simp only[YD];(rcases Yd 15 x with a|a);{grind};{exact a}
def OD{l a:Q I}(b:bB l≤32768)(h:cP l a):start l a a.length=bB l:=by unfold start;rw[Ye,DR,(h.1.map (sh l)).sum_nat];congr 1;refine Z2 λs c=>?_;have d:=(fL.1 c).2;have e:=iE b s;unfold sh wt;rw[Xf Za,Xf Za]
def QR{l ys:Q I}(a:bB l≤32768)(h:cP l ys){i:I}(b:i≤ys.length):start l ys i≤32768:=by have:=NB (l:=l) (ys:=ys) b;rw[OD a h]at this;omega
def KW{l a:Q I}(h:cP l a){i j:I}(b:j<a.length)(c:i≤j):l.getD (a[i]' Za) 0≤l.getD a[j] 0:=by by_cases e:i=j;{grind};{have:=(List.pairwise_iff_getElem.1 h.2) i j Za b Za;omega}
def Dt{l a:Q I}(h:cP l a){i:I}(b:i<a.length):∀k,k≤i→sh l a[i]∣start l a k|0,_=>by simp[start]|k+1,c=>by rw[uq Za];refine I.dvd_add (Dt h b k Za) ?_;have:=KW h b (show k≤i by omega);unfold sh;exact I.pow_dvd_pow 2 Za
def iT(l a:Q I)(i:I):I:=start l a i/sh l (a.getD i 0)
def getD_at{a:Q I}{i:I}(b:i<a.length):a.getD i 0=a[i]:=Ze
def uL{l a:Q I}(h:cP l a){i:I}(b:i<a.length):iT l a i*sh l a[i]=start l a i:=by unfold iT;rw[getD_at b];exact I.div_mul_cancel (Dt h b i (Zx _))
def Po{l:Q I}(a:bB l≤32768)(s:I):2^l.getD s 0*sh l s=32768:=by unfold sh;rw[←I.pow_add,show l.getD s 0+(15-l.getD s 0)=15 by have:=iE a s;omega]
def Ov{l a:Q I}(b:bB l≤32768)(h:cP l a){i:I}(c:i<a.length):iT l a i<2^l.getD a[i] 0:=by have g:=uL h c;have d:=QR b h (show i+1≤a.length by omega);rw[uq c]at d;have j:=Po b a[i];have e:=FZ l a[i];have f:(iT l a i+1)*sh l a[i]≤2^l.getD a[i] 0*sh l a[i]:=by{rw[Yc];omega};exact I.le_of_mul_le_mul_right f e
def eZ(l a:Q I):I→Q I|0=>Zj 258 0|i+1=>(eZ l a i).set (a.getD i 0) (iT l a i)
def eO(l a:Q I):∀i,(eZ l a i).length=258|0=>ZX|i+1=>by rw[eZ,Q.length_set,eO l a i]
def W5{l a:Q I}(h:cP l a){i j:I}(c:j<a.length)(b:i<j):a[i]' Za≠a[j]:=by have:=(List.pairwise_iff_getElem.1 h.2) i j Za c b;intro e;rw[e]at this;omega
def A8{l a:Q I}(h:cP l a)(b:∀s∈a,s<258):∀(i:I),i≤a.length→∀j(d:j<a.length),j<i→(eZ l a i).getD a[j] 0=iT l a j|0,_,_,_,f=>Za|i+1,m,j,d,f=>by have c:i<a.length:=Za;rw[eZ,getD_at c];by_cases e:j=i;{subst e;have:a[j]<(eZ l a j).length:=by{rw[eO];exact b _ (Zv d)};rw[Zo,Q.getElem?_set_self this];rfl};{have g:=W5 h c (show j<i by omega);rw[Zo,Q.getElem?_set_ne λk=>g k.symm,←Zo];exact A8 h b i Za j d Za}
def many(l:Q I)(n:I):I:=if n=0 then 0 else l.count n
def fst(l:Q I):I→I|0=>0|n+1=>2*(fst l n+many l n)
def low(l:Q I):I→I|0=>0|n+1=>low l n+many l n*2^(15-n)
def Ci(l:Q I):∀n,n≤15→fst l n*2^(15-n)=low l n|0,_=>by simp[fst,low]|n+1,h=>by have a:=Ci l n Za;have e:2^(15-n)=2*2^(15-(n+1)):=by{rw[show 15-n=(15-(n+1))+1 by omega,Yu,Yj]};rw[fst,low,←a,←YU,e,Yj 2 (fst l n+many l n),I.mul_assoc]
def LF(n:I):low [] n=0:=by induction n with|zero=>rfl|succ n a=>rw[low,a];simp[many]
def Cc(l:Q I)(x:I):∀n,low (l++[x]) n=low l n+if 0<x∧x<n then 2^(15-x)else 0|0=>by simp[low]|n+1=>by rw[low,low,Cc l x n];unfold many;rw[Q.count_append,Q.count_singleton];by_cases h0:n=0;{subst h0;rw[Xh O,Xh O,Xf Za,Xf Za]};{rw[Xf h0,Xf h0];by_cases hx:x=n;{subst hx;rw[Xf Za,Xh Zd,Xh Za,YU];omega};{rw[Xf (show¬(x==n)=H by simpa using hx)];by_cases h:0<x∧x<n;{rw[Xh h,Xh Za,Zr];omega};{rw[Xf h,Xf Za,Zr,Zr,Zr]}}}
def Hc(l:Q I){n m:I}(h:n≤m):low l n≤low l m:=by induction m with|zero=>have:n=0:=Za;subst this;exact Zx _|succ m a=>by_cases e:n=m+1;{grind};{have:=a Za;rw[low];omega}
def Un:∀(k:I)(l:Q I),l.length=k→(∀x∈l,x≤15)→low l 16=bB l:=by intro k;induction k with|zero=>intro l h _;have:l=[]:=List.length_eq_zero_iff.1 h;subst this;simp[LF,bB]|succ k c=>intro l d h;have a:l≠[]:=by{intro e;subst e;simp at d};obtain⟨b,x,rfl⟩:∃b x,l=b++[x]:=⟨l.dropLast,l.getLast a,(Q.dropLast_concat_getLast a).symm⟩;rw[Cc,c b Ze λy f=>h y (by simp[f])];unfold bB;rw[ZE,YL];unfold wt;by_cases h0:x=0;{grind};{grind}
def TJ{l:Q I}(a:bB l≤32768):low l 16=bB l:=Un _ l rfl λx b=>by obtain⟨i,c,rfl⟩:=ZY b;have:=iE a i;rwa [Zo,Zh c]at this
def jN(l:Q I)(s:I):I:=(l.take s).count (l.getD s 0)
def code(l:Q I)(s:I):I:=fst l (l.getD s 0)+jN l s
def pos(l:Q I)(s:I):I:=low l (l.getD s 0)+jN l s*2^(15-l.getD s 0)
def tI{l:Q I}(a:bB l≤32768)(s:I):code l s*2^(15-l.getD s 0)=pos l s:=by unfold code pos;rw[YU,Ci l _ (iE a s)]
def eF{l:Q I}{i:I}(h:i<l.length):l.getD i 0=l[i]:=by rw[Zo,Zh h];rfl
def kD(l:Q I)(k x:I):(l.take k).count x≤l.count x:=(Q.take_sublist k l).count_le x
def fe{l:Q I}{k:I}(h:k<l.length)(x:I):(l.take (k+1)).count x=(l.take k).count x+if l[k]=x then 1 else 0:=by rw[ZC,Zh h,Q.count_append];simp only[Xj.toList,Q.count_singleton,XA]
def qk{l:Q I}{i j:I}(h:i≤j)(x:I):(l.take i).count x≤(l.take j).count x:=by have:(l.take i)=(l.take j).take i:=by{rw[Q.take_take,Xb h]};rw[this];exact kD _ _ _
def Ly{l:Q I}{s:I}(a:s<l.length)(c:0<l.getD s 0):jN l s<many l (l.getD s 0):=by unfold jN many;rw[Xf Za];have b:=fe a (l.getD s 0);rw[eF a,Xh O]at b;have d:=kD l (s+1) (l[s]);rw[eF a];omega
def Gs{l:Q I}{s:I}(a:s<l.length)(b:0<l.getD s 0):pos l s+2^(15-l.getD s 0)≤low l (l.getD s 0+1):=by have:=Ly a b;unfold pos;rw[low,Yv,←Yc];exact I.add_le_add_left (ZQ _ this) _
def qN{l:Q I}{s t:I}(b:s<l.length)(g:t<l.length)(c:0<l.getD s 0)(d:s≠t)(h:l.getD s 0<l.getD t 0∨(l.getD s 0=l.getD t 0∧s<t)):pos l s+2^(15-l.getD s 0)≤pos l t:=by(rcases h with h|⟨h,e⟩);{have a:=Gs b c;have f:=Hc l (show l.getD s 0+1≤l.getD t 0 by omega);unfold pos at a⊢;omega};{have a:=fe b (l.getD t 0);rw[Xh Ze]at a;have f:=qk (l:=l) (show s+1≤t by omega) (l.getD t 0);unfold pos jN;rw[h,Yv,←Yc];exact I.add_le_add_left (ZQ _ Za) _}
def S6{l:Q I}{s t x:I}(a:s<l.length)(b:t<l.length)(c:0<l.getD s 0)(d:0<l.getD t 0)(j:pos l s≤x)(f:x<pos l s+2^(15-l.getD s 0))(k:pos l t≤x)(g:x<pos l t+2^(15-l.getD t 0)):s=t:=by by_cases e:s=t;{exact e};{(rcases I.lt_trichotomy (l.getD s 0) (l.getD t 0)with h|h|h);{have:=qN a b c e (.inl h);omega};{(rcases Yd s t with i|i);{have:=qN a b c e (.inr ⟨h,i⟩);omega};{have:=qN b a d (Ne.symm e) (.inr ⟨h.symm,Za⟩);omega}};{have:=qN b a d (Ne.symm e) (.inl h);omega}}
def VG(l:Q I)(n:I):∀p,p<l.count n→∃s,s<l.length∧l.getD s 0=n∧jN l s=p:=by intro p d;have a:∀k,k≤l.length→p<(l.take k).count n→∃s,s<k∧l.getD s 0=n∧jN l s=p:=by{intro k;induction k with|zero=>intro _ h;simp at h|succ k e=>intro f h;by_cases b:p<(l.take k).count n;{grind};{have c:=fe (l:=l) (k:=k) Za n;by_cases h4:l[k]=n;{rw[Xh h4]at c;refine⟨k,Za,by rw[eF Za,h4],?_⟩;unfold jN;rw[eF Za,h4];omega};{grind}}};obtain⟨s,g,b⟩:=a l.length (Zx _) Ze;exact⟨s,Za,b⟩
def IY{l:Q I}{s t:I}(c:s<l.length)(d:t<l.length)(h:l.getD s 0=l.getD t 0)(a:jN l s=jN l t):s=t:=by have b:∀{s t:I},s<l.length→t<l.length→l.getD s 0=l.getD t 0→jN l s=jN l t→¬s<t:=by{intro s t c d h a f;have e:=fe c (l.getD t 0);rw[Xh Ze]at e;have g:=qk (l:=l) (show s+1≤t by omega) (l.getD t 0);unfold jN at a;rw[h]at a;omega};have e:=b c d h a;have g:=b d c h.symm a.symm;omega
def Kx(l:Q I)(n s t:I):Xg:=K (0<l.getD t 0)&&K (l.getD t 0<n∨(l.getD t 0=n∧t<s))
def Au(l:Q I)(n s:I)(j:0<n):∀k,k≤l.length→(((Zs k).filter (Kx l n s)).map (sh l)).sum=low (l.take k) n+((l.take k).take s).count n*2^(15-n)|0,_=>by simp[LF]|k+1,p=>by have c:k<l.length:=Za;rw[YO,Q.filter_append,ZE,YL,Au l n s j k Za];have m:l.take (k+1)=l.take k++[l[k]]:=by{rw[ZC,Zh c];rfl};rw[m,Cc];have d:=eF c;have e:(l.take k).length=k:=by{simp;omega};have g:0<l[k]→(l[k]<n∨(l[k]=n∧k<s))→Kx l n s k=H:=λa b=>by{unfold Kx;rw[d,ZG,XE,XE];exact⟨a,b⟩};have f:¬(0<l[k]∧(l[k]<n∨(l[k]=n∧k<s)))→¬Kx l n s k=H:=λh=>by{unfold Kx;rw[d,ZG,XE,XE];exact h};by_cases hks:k<s;{have i:(l.take k++[l[k]]).take s=l.take k++[l[k]]:=Zu (by rw[Zg,e];simp;omega);have o:(l.take k).take s=l.take k:=Zu Za;rw[i,o,Q.count_append,Q.count_singleton];by_cases a:0<l[k]∧l[k]<n;{rw[Q.filter_cons_of_pos (g a.1 (.inl a.2)),Xh a,Xf (by rw[XA];omega)];simp only[Q.filter_nil,ZT,YJ,Q.sum_cons,Q.sum_nil,sh,d,Zr];omega};{rw[Xf a];by_cases b:l[k]=n;{rw[Q.filter_cons_of_pos (g Za (.inr ⟨b,hks⟩)),Xh (by simpa using b),YU];simp only[Q.filter_nil,ZT,YJ,Q.sum_cons,Q.sum_nil,sh,d,b];omega};{rw[Q.filter_cons_of_neg (f Za),Xf (by simpa using b)];simp}}};{have i:(l.take k++[l[k]]).take s=(l.take k).take s:=by{rw[Q.take_append_of_le_length Za]};rw[i];by_cases a:0<l[k]∧l[k]<n;{rw[Q.filter_cons_of_pos (g a.1 (.inl a.2)),Xh a];simp only[Q.filter_nil,ZT,YJ,Q.sum_cons,Q.sum_nil,sh,d,Zr];omega};{rw[Xf a,Q.filter_cons_of_neg (f Za)];simp}}
def OQ{l b:Q I}(h:cP l b){i:I}(d:i<b.length):start l b i=pos l b[i]:=by have k:=fL.1 (h.1.mem_iff.1 (Zv d));let p:I→Xg:=λt=>decide (l.getD t 0<l.getD b[i] 0∨(l.getD t 0=l.getD b[i] 0∧t<b[i]));have c:=List.pairwise_iff_getElem.1 h.2;have m:b.filter p=b.take i:=by{(conv=>lhs;rw[←Zt i b]);rw[Q.filter_append,List.filter_eq_self.2,List.filter_eq_nil_iff.2,ZF];{intro a f;obtain⟨j,g,rfl⟩:=ZY f;rw[ZA]at g;rw[Q.getElem_drop];by_cases e:j=0;{subst e;simp only[p,Zr,XE];omega};{have:=c i (i+j) d Za Za;simp only[p,XE];omega}};{intro a f;obtain⟨j,g,rfl⟩:=ZY f;rw[Zz]at g;rw[YQ];have:=c j i Za d Za;simp only[p,XE];omega}};have n:((b.take i).map (sh l)).sum=(((used l).filter p).map (sh l)).sum:=by{rw[←m];exact((h.1.filter p).map (sh l)).sum_nat};unfold start;rw[n];have o:(used l).filter p=(Zs l.length).filter (Kx l (l.getD b[i] 0) b[i]):=by{unfold used;rw[Q.filter_filter];congr 1;funext t;rw[Xg.and_comm];rfl};rw[o];have:=Au l (l.getD b[i] 0) b[i] k.2 l.length (Zx _);rw[Ye]at this;exact this
def J3{l a:Q I}(d:bB l≤32768)(h:cP l a){i:I}(b:i<a.length):iT l a i=code l a[i]:=by have c:=uL h b;rw[OQ h b,←tI d]at c;exact I.eq_of_mul_eq_mul_right (FZ l a[i]) c
def Ml{l a:Q I}(j:l.length=258)(e:bB l≤32768)(h:cP l a){s:I}(d:s<258)(f:0<l.getD s 0):(eZ l a a.length).getD s 0=code l s:=by have b:∀s∈a,s<258:=λs d=>by{have:=(fL.1 (h.1.mem_iff.1 d)).1;omega};have g:s∈a:=h.1.mem_iff.2 (fL.2 ⟨Za,f⟩);obtain⟨i,c,rfl⟩:=ZY g;rw[A8 h b _ (Zx _) i c c,J3 e h c]
def Dh{l:Q I}(f:l.length=258)(a:bB l≤32768){s:I}(g:s<258)(b:0<l.getD s 0):code l s<2^l.getD s 0:=by have h:=tI a s;have i:=Gs Za b;have c:=Hc l (show l.getD s 0+1≤16 by have:=iE a s;omega);rw[TJ a]at c;have d:=Po a s;unfold sh at d;have e:(code l s+1)*2^(15-l.getD s 0)≤2^l.getD s 0*2^(15-l.getD s 0):=by{rw[Yc];omega};exact I.le_of_mul_le_mul_right e (Yl _)
end
end Go.Srt
namespace Go.Bits
section
def cf(b:Q I)(i:I):I:=(b.getD (i/8) 0/2^(7-i%8))%2
def val(b:Q I)(a:I):I→I|0=>0|n+1=>2*val b a n+cf b (a+n)
def o9(b:Q I)(i:I):cf b i<2:=I.mod_lt _ Zb
def jF(b:Q I)(a:I):∀n,val b a n<2^n|0=>by simp[val]|n+1=>by have:=jF b a n;have:=o9 b (a+n);simp only[val,Yu];omega
def val_add(b:Q I)(a n:I):∀m,val b a (n+m)=val b a n*2^m+val b (a+n) m|0=>by simp[val]|m+1=>by rw[←Yv];simp only[val,val_add b a n m,Yu,Yv];rw[I.mul_add,Yj (2^m) 2,I.mul_left_comm];omega
def Vd(b:Q I)(a n k:I)(h:k<n):val b a n/2^(n-1-k)%2=cf b (a+k):=by have c:=val_add b a (k+1) (n-1-k);rw[show k+1+(n-1-k)=n by omega]at c;have d:=jF b (a+(k+1)) (n-1-k);rw[c,Yj,I.mul_add_div (Yl _),Y5 d,Zr];simp only[val];have:=o9 b (a+k);omega
def MK(b:Q I)(j i:I):cf (b.drop j) i=cf b (8*j+i):=by unfold cf;have a:(8*j+i)/8=j+i/8:=Za;have c:(8*j+i)%8=i%8:=Za;rw[a,c];simp only[Zo,Q.getElem?_drop]
def Gx(b:Q I)(j a:I):∀n,val (b.drop j) a n=val b (8*j+a) n|0=>rfl|n+1=>by simp only[val,Gx b j a n,MK,Yv]
def Ia(b c:Q I)(i:I)(h:i<8*b.length):cf (b++c) i=cf b i:=by unfold cf;congr 2;simp only[Zo];rw[ZM Za]
def oz(b c:Q I)(a:I):∀n,a+n≤8*b.length→val (b++c) a n=val b a n|0,_=>rfl|n+1,h=>by simp only[val];rw[oz b c a n Za,Ia b c _ Za]
def FT(b:Q I)(j:I)(h:b.getD j 0<256):val b (8*j) 8=b.getD j 0:=by have e:∀i,i<8→cf b (8*j+i)=b.getD j 0/2^(7-i)%2:=by{intro i a;unfold cf;rw[show(8*j+i)/8=j by omega,show(8*j+i)%8=i by omega]};simp only[val];rw[e 0 Zb,e 1 Zb,e 2 Zb,e 3 Zb,e 4 Zb,e 5 Zb,e 6 Zb,e 7 Zb];generalize b.getD j 0=x at h;simp only[I.reduceSub,I.reducePow];omega
def Oj(b:Q I)(m:I)(h:b.getD m 0<256):val b 0 (8*(m+1))=val b 0 (8*m)*256+b.getD m 0:=by rw[show 8*(m+1)=8*m+8 by omega,val_add,Zk,FT b m h]
def U2{b:Q I}(h:∀x∈b,x<256)(m:I):b.getD m 0<256:=by rw[Zo];cases hh:b[m]? with|none=>simp|some x=>simpa using h x (YY hh)
def UH(b:Q I)(a w k:I):val b 0 (a+w+k)/2^k%2^w=val b a w:=by rw[val_add b 0 (a+w) k,val_add b 0 a w,Zk,Yj _ (2^k),I.mul_add_div (Yl _),Zk,Y5 (jF b _ k),Zr,Yj,I.mul_add_mod,Y4 (jF b a w)]
def Wi(a c:I)(h:c<256):a*256|||c=a*256+c:=by have:=YT (i:=8) (b:=c) h a;rw[Yj]at this;rw[←this]
def HD(a w:I):a&&&(2^w-1)=a%2^w:=I.and_two_pow_sub_one_eq_mod a w
end
end Go.Bits
namespace Go.Srt
section
open Go.Bits
def nT(b:Q I)(j:I):I:=b.getD (8*j) 0*128+b.getD (8*j+1) 0*64+b.getD (8*j+2) 0*32+b.getD (8*j+3) 0*16+b.getD (8*j+4) 0*8+b.getD (8*j+5) 0*4+b.getD (8*j+6) 0*2+b.getD (8*j+7) 0
def kv(b:Q I)(m:I):Q I:=(Zs m).map (nT b)
def pack(b:Q I):Q I:=kv b ((b.length+7)/8)
def Bits(b:Q I):Prop:=∀x∈b,x≤1
def Bits.getD{b:Q I}(h:Bits b)(i:I):b.getD i 0≤1:=by rw[Zo];cases hx:b[i]? with|none=>simp|some x=>exact h x (YY hx)
def Bits.app{a b:Q I}(c:Bits a)(d:Bits b):Bits (a++b):=λx e=>by(rcases List.mem_append.1 e with h|h);{exact c x h};{exact d x h}
def uB(b:Q I)(m:I):(kv b m).length=m:=by simp[kv]
def Aj{b:Q I}{m j:I}(h:j<m):(kv b m).getD j 0=nT b j:=by unfold kv;rw[Zo,ZZ,Yy h];rfl
def NW{b:Q I}(h:Bits b)(j:I):nT b j<256:=by unfold nT;have a:=h.getD (8*j);have c:=h.getD (8*j+1);have d:=h.getD (8*j+2);have e:=h.getD (8*j+3);have f:=h.getD (8*j+4);have g:=h.getD (8*j+5);have i:=h.getD (8*j+6);have k:=h.getD (8*j+7);omega
def Ql{b:Q I}(h:Bits b)(m:I):∀y∈kv b m,y<256:=λy a=>by obtain⟨j,_,rfl⟩:=List.mem_map.1 a;exact NW h j
def je{b:Q I}{i:I}(h:b.length≤i):b.getD i 0=0:=by rw[Zo,Ya h];rfl
def El(b:Q I)(x i:I):(b++[x]).getD i 0=b.getD i 0+if i=b.length then x else 0:=Ze
def FJ(b:Q I)(x j:I):nT (b++[x]) j=nT b j+if j=b.length/8 then x*2^(7-b.length%8)else 0:=by unfold nT;simp only[El];by_cases hj:j=b.length/8;{rw[Xh hj];have a:b.length=8*j+b.length%8:=by{omega};have c:b.length%8<8:=I.mod_lt _ Zb;generalize b.length%8=r at a c;rw[a];have:r=0∨r=1∨r=2∨r=3∨r=4∨r=5∨r=6∨r=7:=by{omega};rcases this with rfl|rfl|rfl|rfl|rfl|rfl|rfl|rfl<;>simp<;>omega};{rw[Xf hj,Xf Za,Xf Za,Xf Za,Xf Za,Xf Za,Xf Za,Xf Za,Xf Za];omega}
def Wp{b:Q I}{j:I}(h:b.length≤8*j):nT b j=0:=by unfold nT;rw[je h,je Za,je Za,je Za,je Za,je Za,je Za,je Za]
def VZ(b:Q I):2^(8-b.length%8)∣nT b (b.length/8):=by have a:b.length=8*(b.length/8)+b.length%8:=Za;have c:b.length%8<8:=I.mod_lt _ Zb;generalize e:b.length/8=j at a;generalize b.length%8=r at a c;unfold nT;have g:∀i,r≤i→b.getD (8*j+i) 0=0:=λi f=>je Za;have:r=0∨r=1∨r=2∨r=3∨r=4∨r=5∨r=6∨r=7:=Za;have d:=g 0;have h:=g 1;have k:=g 2;have l:=g 3;have m:=g 4;have n:=g 5;have o:=g 6;have p:=g 7;simp only[Zr]at d;rcases this with rfl|rfl|rfl|rfl|rfl|rfl|rfl|rfl<;>simp only[I.reduceSub,I.reducePow]<;>omega
def UD{a r x:I}(d:r<8)(c:2^(8-r)∣a)(e:x≤1):a|||x*2^(7-r)=a+x*2^(7-r):=by obtain⟨q,rfl⟩:=c;have f:2^(8-r)=2*2^(7-r):=by{rw[show 8-r=(7-r)+1 by omega,Yu,Yj]};have b:=Yl (7-r);refine(YT ?_ q).symm;have:x=0∨x=1:=Za;rcases this with rfl|rfl<;>omega
def room(b:Q I):Q I:=kv b (b.length/8+1)
def LJ(b:Q I):room b=if b.length%8=0 then pack b++[0]else pack b:=by unfold room pack;split;{rename_i h;rw[show(b.length+7)/8=b.length/8 by omega];unfold kv;rw[YO,ZE];simp;rw[Wp Za]};{grind}
def P5(b:Q I)(x:I):pack (b++[x])=(room b).set (b.length/8) (nT b (b.length/8)+x*2^(7-b.length%8)):=by unfold pack room;rw[Zg,ZO,show(b.length+1+7)/8=b.length/8+1 by omega];refine YR λi=>?_;unfold kv;simp only[ZZ,Zp,YM];by_cases hi:i<b.length/8+1;{rw[Yy hi];simp only[YB];rw[FJ];by_cases e:b.length/8=i;{grind};{grind}};{grind}
def Hm{b:Q I}(h:Bits b){m i:I}(d:i<8*m):cf (kv b m) i=b.getD i 0:=by unfold cf;rw[Aj Za];have a:i=8*(i/8)+i%8:=Za;have c:i%8<8:=I.mod_lt _ Zb;generalize i/8=j at a;generalize i%8=r at a c;subst a;unfold nT;have e:=h.getD (8*j);have f:=h.getD (8*j+1);have g:=h.getD (8*j+2);have k:=h.getD (8*j+3);have l:=h.getD (8*j+4);have n:=h.getD (8*j+5);have o:=h.getD (8*j+6);have p:=h.getD (8*j+7);have:r=0∨r=1∨r=2∨r=3∨r=4∨r=5∨r=6∨r=7:=Za;rcases this with rfl|rfl|rfl|rfl|rfl|rfl|rfl|rfl<;>simp only[I.reduceSub,I.reducePow,Zr]<;>omega
def mL(b:Q I):(pack b).length=(b.length+7)/8:=uB _ _
def bn:I→I→Q I|0,_=>[]|n+1,v=>bn n (v/2)++[v%2]
def pI:∀n v,(bn n v).length=n|0,_=>rfl|n+1,v=>by rw[bn,Zg,pI n];rfl
def L6:∀n v,Bits (bn n v)|0,_=>(λx a=>by cases a)|n+1,v=>(L6 n _).app λx a=>by have:x=v%2:=by{simpa using a};omega
def Bs:∀n v i,i<n→(bn n v).getD i 0=v/2^(n-1-i)%2|0,_,_,h=>Za|n+1,v,i,h=>by rw[bn,El,pI];by_cases e:i=n;{subst e;rw[Xh O,je (by rw[pI];exact Zx _),show i+1-1-i=0 by omega];simp};{rw[Xf e,Bs n _ i Za,Zr,I.div_div_eq_div_mul];congr 2;rw[show n+1-1-i=(n-1-i)+1 by omega,Yu,Yj]}
def ju(l:Q I)(s:I):Prop:=s<258∧0<l.getD s 0
def Ce(l:Q I)(s:I):Q I:=bn (l.getD s 0) (code l s)
def enc(l:Q I)(a:Q I):Q I:=a.flatMap (Ce l)
def SY(l:Q I)(a:Q I):Bits (enc l a):=λx b=>by obtain⟨s,_,h⟩:=List.mem_flatMap.1 b;exact L6 _ _ x h
def Wd(l a b:Q I):enc l (a++b)=enc l a++enc l b:=Q.flatMap_append
def zF(l:Q I)(s:I)(b:Q I):enc l (s::b)=Ce l s++enc l b:=Yg
def dc(l:Q I)(c n:I):Xj I:=(Zs 258).find? λs=>decide (0<l.getD s 0)&&(l.getD s 0==n)&&(code l s==c)
def tZ{l:Q I}{c n s:I}(h:dc l c n=Z s):ju l s∧l.getD s 0=n∧code l s=c:=by unfold dc at h;have a:=Q.find?_some h;have b:=Q.mem_of_find?_eq_some h;simp only[ZG,XE,XA]at a;exact⟨⟨by simpa using b,a.1.1⟩,a.1.2,a.2⟩
def ML{l:Q I}{c n:I}(h:dc l c n=V){s:I}(a:ju l s):¬(l.getD s 0=n∧code l s=c):=by unfold dc at h;have:=List.find?_eq_none.1 h s (by simpa using a.1);simp only[ZG,XE,XA]at this;exactλb=>this ⟨⟨a.2,b.1⟩,b.2⟩
def S9{l:Q I}(e:l.length=258){s t:I}(c:ju l s)(d:ju l t)(a:l.getD s 0=l.getD t 0)(b:code l s=code l t):s=t:=by have f:=c.1;have g:=d.1;refine IY Za Za a ?_;unfold code at b;rw[a]at b;omega
def uA{l:Q I}(b:l.length=258){s:I}(a:ju l s):dc l (code l s) (l.getD s 0)=Z s:=by cases h:dc l (code l s) (l.getD s 0)with|none=>exact Xu ⟨O,O⟩ (ML h a)|some t=>obtain⟨c,d,e⟩:=tZ h;rw[S9 b c a d e]
def Eu{l:Q I}(u:l.length=258)(c:bB l≤32768){s m:I}(f:ju l s)(v:m<l.getD s 0):dc l (code l s/2^(l.getD s 0-m)) m=V:=by cases h:dc l (code l s/2^(l.getD s 0-m)) m with|none=>rfl|some t=>exfalso;obtain⟨g,i,k⟩:=tZ h;have n:=iE c s;have j:=tI c s;have d:=tI c t;rw[i,k]at d;have e:2^(15-m)=2^(l.getD s 0-m)*2^(15-l.getD s 0):=by{rw[←I.pow_add];congr 1;omega};have o:=I.div_mul_le_self (code l s) (2^(l.getD s 0-m));have p:=I.lt_div_mul_add (a:=code l s) (b:=2^(l.getD s 0-m)) (Yl _);have q:pos l t≤pos l s:=by{rw[←j,←d,e,←I.mul_assoc];exact ZQ _ o};have r:pos l s<pos l t+2^(15-l.getD t 0):=by{rw[i,←j,←d,e,←I.mul_assoc,←YU];exact I.mul_lt_mul_of_pos_right p (Yl _)};have w:=f.1;have y:=g.1;have:s=t:=S6 (x:=pos l s) Za Za f.2 g.2 (Zx _) Ze q r;subst this;omega
def yq(l:Q I):Q I→I→I→Q I→Xj (Q I)|[],_,n,acc=>if n=0 then Z acc else V|x::bs,c,n,acc=>match dc l (2*c+x) (n+1)with|some s=>yq l bs 0 0 (acc++[s])|none=>if 15<n+1 then V else yq l bs (2*c+x) (n+1) acc
def bitsOf(b:Q I)(n:I):Q I:=(Zs n).map (cf b)
def Mt(b:Q I)(n:I):(bitsOf b n).length=n:=by simp[bitsOf]
end
end Go.Srt
namespace Go.Proofs.Q9
section
open Go Go.Vc Go.Srt Go.Bits
def Wr(b:I)(bits:Q I):HP:=λf=>∃s:Sl,(Srt.Bits bits∧bits.length≤cK)∧Sat [ag b (.cells ⟨[.slice s.base s.len s.cap,.int .i64 (bits.length:J)]⟩ 311 (0,0)),ao 1 s ((pack bits).map vB)] f
section
variable{E w:G}{F A:Q HP}{b:I}{bits:Q I}
theorem Wr.bV(h:Hp E w (Wr b bits::F)):∃s:Sl,Srt.Bits bits∧bits.length≤cK∧Hp E w (ag b (.cells ⟨[.slice s.base s.len s.cap,.int .i64 (bits.length:J)]⟩ 311 (0,0))::ao 1 s ((pack bits).map vB)::F):=by obtain⟨s,⟨a,c⟩,h⟩:=h.FA (X:=λ_:Sl=>Srt.Bits bits∧bits.length≤cK) (L:=λs=>[ag b (.cells ⟨[.slice s.base s.len s.cap,.int .i64 (bits.length:J)]⟩ 311 (0,0)),ao 1 s ((pack bits).map vB)]) λf d=>d;exact⟨s,a,c,h⟩
theorem Wr.shut{s:Sl}(a:Srt.Bits bits)(c:bits.length≤cK)(h:Hp E w (ag b (.cells ⟨[.slice s.base s.len s.cap,.int .i64 (bits.length:J)]⟩ 311 (0,0))::ao 1 s ((pack bits).map vB)::F)):Hp E w (Wr b bits::F):=Hp.Fs (l:=[_,_]) (λf d=>⟨s,⟨a,c⟩,d⟩) h
theorem aaa{K:Xj Xr→G→Prop}(h:Hp E w F)(a:∀b w',Hp E w' (Wr b []::F)→K (Z ⟨b,0,V⟩) w'):Cl Zf [kP] 145 ⟨[]⟩ w K:=by refine E0.ok _ _ ?_;exact Nw.mk h λb c d=>a b c (Wr.shut (s:=⟨V,0,0⟩) (λx e=>by cases e) (Z9 _) ((d.aR 1).p1))
theorem Tb{v a:I}{K:Xg→G→Prop}(f:a≤32)(c:v<2^a)(d:v≤4294967295)(e:K H w):Cl Zf [kB] 292 ⟨[.int .u32 (v:J),.int .i64 (a:J)]⟩ w K:=by refine CI.ok _ _ _ _ ?_;refine aa.t (Xt Za) (aa.t (Xt Za) ⟨Za,?_⟩);rw[jM Za,cw (by have:Xy.bits .u64=64:=O;omega),Y5 c];exact e
theorem uH:cF Zf 24 5 1 1:=cF.of Zc Zc
theorem LG{x:I}(c:x≤1):Srt.Bits [x]:=λy a=>by have:y=x:=by{simpa using a};omega
theorem GF{x:I}:∀y∈[vB x],aD y=H:=λy a=>by have:y=vB x:=by{simpa using a};subst this;rfl
theorem abG(n:I)(h:n≤cK):cg .i64 (n:J) 7=((n%8:I):J):=by have a:YN .i64=9223372036854775807:=O;rw[aL]at h;rw[show(7:J)=((7:I):J)from O,fO Za Za,show(7:I)=2^3-1 from O,I.and_two_pow_sub_one_eq_mod]
theorem acM{x:I}{K:G→Prop}(h:Hp E w (Wr b bits::F))(D:x≤1)(r:bits.length+1≤cK)(Y:∀w',Hp E w' (Wr b (bits++[x])::F)→K w'):Cl Zf [] 294 ⟨[.pointer (Z ⟨b,0,V⟩),.int .u8 (x:J)]⟩ w K:=by refine sP.ok _ _ _ _ ?_;simp only[aq,aj,Zk];obtain⟨s,W,L,z⟩:=Wr.bV h;have M:=r;rw[aL]at M L;have N:bits.length%8<8:=I.mod_lt _ Zb;refine Ld.ax (s:=.int .i64) z (bits.length:J) O ?_;rw[abG _ (by rw[aL];omega)];have i:∀(f:Sl)(B:G),Hp E B (ag b (.cells ⟨[.slice f.base f.len f.cap,.int .i64 (bits.length:J)]⟩ 311 (0,0))::ao 1 f ((room bits).map vB)::F)→aC B λ(a:G)=>Ld kS (⟨b,0,V⟩:Xr) a λ(t:Sl)=>Ld kI (⟨b,1,V⟩:Xr) a λ(c:J)=>0≤(3:J)∧ay t (aJ .i64 c 3) 1 λ(P:Xr)=>Ld (av .u8) P a λ(R:J)=>Ld kI (⟨b,1,V⟩:Xr) a λ(d:J)=>0≤((i64 ((7:J)-(cg .i64 d 7))):J)∧ay t (aJ .i64 c 3) 1 λ(S:Xr)=>St S (.int .u8 (gO .u8 R (br .u8 (x:J) (i64 ((7:J)-(cg .i64 d 7)))))) a λ(k:G)=>Ld kI (⟨b,1,V⟩:Xr) k λ(g:J)=>St (⟨b,1,V⟩:Xr) (.int .i64 (i64 (g+1))) k λ(u:G)=>K u:=by{intro f B v;refine aC.mk v λw3 l=>Ld.ax (s:=.sl) l f O (Ld.ax (s:=.int .i64) l (bits.length:J) O ⟨Zb,?_⟩);have o:=l.p1.aS;have T:(room bits).length=bits.length/8+1:=uB _ _;rw[Zp,T,ZB]at o;have e3:aJ .i64 (bits.length:J) 3=((bits.length/8:I):J):=by{rw[show(3:J)=((3:I):J)from O,cw Zb]};rw[e3];refine ay.rd (l.an (ad.cons ad.own)) Za Za λq hq hc=>?_;have hby:((room bits).map vB)[((bits.length/8:I):J).toNat]' hq=.int .u8 (nT bits (bits.length/8):J):=by{rw[Q.getElem_map];have:=Aj (b:=bits) (m:=bits.length/8+1) (j:=bits.length/8) Za;rw[eF (by rw[uB];omega)]at this;show vB _=_;unfold vB;rw[←this];rfl};refine Ld.sc (s:=.int .u8) (nT bits (bits.length/8):J) Ze (Ld.ax (s:=.int .i64) l (bits.length:J) O ?_);rw[abG _ (by rw[aL];omega),ae (x:=(7:J)-((bits.length%8:I):J)) Za,show(7:J)-((bits.length%8:I):J)=((7-bits.length%8:I):J) by omega];have y:=NW (W.app (LG D)) (bits.length/8);rw[FJ,Xh O]at y;have hm8:YN .u8=255:=O;have e4:br .u8 (x:J) ((7-bits.length%8:I):J)=((x*2^(7-bits.length%8):I):J):=dv (by have:Xy.bits .u8=8:=O;omega) Za;have e5:=UD N (VZ bits) D;rw[e4,lp Za Za Ze,e5];refine⟨Za,?_⟩;refine St.own l.p1 Za Za O λX C=>?_;refine Ld.ax (s:=.int .i64) C.p1 (bits.length:J) O ?_;rw[ae Za];refine St.ax C.p1 (show 1<2 by decide) O λw5 h5=>Y w5 (Wr.shut (s:=f) (W.app (LG D)) Ze ?_);rw[P5];have:((room bits).set (bits.length/8) (nT bits (bits.length/8)+x*2^(7-bits.length%8))).map vB=((room bits).map vB).set ((bits.length/8:I):J).toNat (.int .u8 ((nT bits (bits.length/8)+x*2^(7-bits.length%8):I):J)):=by{rw[Zm,Q.map_set];rfl};rw[this,Zg,ZO];exact h5};refine aa.mk (λp=>?_) λp=>?_;{have p:bits.length%8=0:=by{rw[XA]at p;omega};refine Ld.ax (s:=.sl) z s O (Nw.mk z λb8 B v=>?_);have o:=v.p2.aS;rw[Zp,mL,ZB]at o;refine aX (ys:=[vB 0]) (n:=1) uH Zb (.inl ⟨5,Zc⟩) v.p2 (.inl ⟨Z ⟨b8,0,V⟩,1,1,O,O,v.an (ad.ax O O)⟩) O GF Za Za λf w3 l hs'=>?_;refine St.ax l.p2 (show 0<2 by decide) O λX C=>?_;refine i f X ?_;have e:(room bits).map vB=(pack bits).map vB++[vB 0]:=by{rw[LJ,Xh p,ZE];rfl};rw[e];exact C.p2.drop};{have p:bits.length%8≠0:=by{have:=beq_eq_false_iff_ne.1 p;omega};refine i s w ?_;rw[LJ,Xf p];exact z}
theorem Ru{K:Sl→G→Prop}(h:Hp E w (Wr b bits::F))(k:∀s w',Hp E w' (ao 1 s ((pack bits).map vB)::Wr b bits::F)→K s w'):Cl Zf [kS] 148 ⟨[.pointer (Z ⟨b,0,V⟩)]⟩ w K:=by refine rz.ok _ _ _ ?_;simp only[aq,aj,Zk];obtain⟨s,l,a,d⟩:=Wr.bV h;refine aa.f rfl (Ld.ax (s:=.sl) d s rfl (yw.ok _ _ _ ?_));have g:=d.p1.aS;have o:=mL bits;rw[Zp,ZB]at g;rw[aL]at a;refine aa.mk (λi=>?_) λi=>?_;{have i:s.base=V:=by{simpa using i};(obtain⟨rfl,m,e⟩|⟨B,p,q,t,j,_⟩:=d.p1.xV);{refine k _ w ?_;rw[m];refine Hp.aR (Wr.shut (s:=⟨V,0,0⟩) l (by rw[aL];exact a) ?_) 1;rw[m];exact(e.aR 1).p1};{grind}};{refine Nw.mk d λr u e=>?_;have v:=e.pU (n:=0) (sz:=1) rfl;have c:aH 1 s ((pack bits).map vB) u:=e.an (ad.cons (ad.cons ad.own));refine aX (s:=⟨Z ⟨r,0,V⟩,0,0⟩) (ys:=(pack bits).map vB) (n:=s.len) uH Zb (.inl ⟨5,Zc⟩) v (.inl ⟨s.base,s.len,s.cap,rfl,rfl,c⟩) Ze dC Ze Ze λx y z _=>?_;exact k x y (Wr.shut (s:=s) l (by rw[aL];exact a) z.q2).p1}
theorem NU{v a g j:I}(x:a≤32)(y:v≤4294967295):Iter Zf E (.func (.func 347) ⟨[]⟩ ⟨[.pointer (Z ⟨j,0,V⟩),.pointer (Z ⟨g,0,V⟩)]⟩) a (λi=>[Ki.enc (av .u8) ((v/2^(a-1-i)%2:I):J)]) (ag j (.cells ⟨[.int .i64 (a:J)]⟩ 3 (0,0))::ag g (.cells ⟨[.int .u32 (v:J)]⟩ 112 (0,0))::A):=by intro p C G w K q h r l;refine qj.mk Zc (yU.ok p ⟨j,0,V⟩ ⟨g,0,V⟩ K w ?_);have n:=h.perm (List.perm_middle.trans (Xa _ Y3));refine Ld.ax (s:=.int .i64) n (a:J) O ?_;refine⟨λi w'=>∃k:I,i=(a:J)-1-(k:J)∧k≤a∧Hp E w' (ag j (.cells ⟨[.int .i64 (a:J)]⟩ 3 (0,0))::ag g (.cells ⟨[.int .u32 (v:J)]⟩ 112 (0,0))::(C k++A)),λi _=>(i+1).toNat,⟨0,by rw[ae Za];omega,Za,n⟩,?_⟩;rintro i u ⟨k,rfl,hk,h1⟩;refine aa.mk (λd=>?_) λc=>?_;{have c:k<a:=by{have:=Xo d;omega};refine Ld.ax (s:=.int .u32) h1.p1 (v:J) O ⟨Za,?_⟩;have z:v/2^(a-1-k)≤v:=I.div_le_self _ _;have e:cg .u8 (u8 (aJ .u32 (v:J) ((a:J)-1-(k:J)))) 1=((v/2^(a-1-k)%2:I):J):=by{have B:YN .u8=255:=O;rw[show(a:J)-1-(k:J)=((a-1-k:I):J) by omega,cw (by have:Xy.bits .u32=32:=O;omega),wZ,show(((v/2^(a-1-k):I):J)%256)=((v/2^(a-1-k)%256:I):J) by omega,show(1:J)=((1:I):J)from O,fO Za Za,I.and_one_is_mod];omega};rw[e];refine q k c (ag j (.cells ⟨[.int .i64 (a:J)]⟩ 3 (0,0))::ag g (.cells ⟨[.int .u32 (v:J)]⟩ 112 (0,0))::A) u _ (h1.perm ((Xa _ List.perm_middle.symm).trans List.perm_middle.symm)) (λo m=>?_) λo m=>?_;{refine aa.f O ⟨O,⟨k+1,by rw[ae Za];omega,Za,m.perm (List.perm_middle.trans (Xa _ Y3))⟩,by dsimp only;rw[ae Za];omega⟩};{exact aa.t O (l k o c m)}};{have d:k=a:=by{have:=Xm c;omega};subst d;exact r _ (h1.perm ((Xa _ List.perm_middle.symm).trans List.perm_middle.symm))}
theorem PD{v width:I}{K:Xg→G→Prop}(h:Hp E w (Wr b bits::F))(r:width≤32)(L:v<2^width)(c:v≤4294967295)(t:bits.length+width≤cK)(M:∀w',Hp E w' (Wr b (bits++bn width v)::F)→K H w'):Cl Zf [kB] 216 ⟨[.pointer (Z ⟨b,0,V⟩),.int .u32 (v:J),.int .i64 (width:J)]⟩ w K:=by refine uw.ok _ _ _ _ _ ?_;refine Nw.mk h λg T u=>Ld.ax (s:=.ptr) u (Z ⟨b,0,V⟩) O (aa.f O (Tb r L c (aa.f O (Dc.ok _ _ _ _ ?_))));refine Nw.mk u λy W N=>Nw.mk N λz P o=>?_;have o:Hp E P ([ag g (.cells ⟨[.pointer (Z ⟨b,0,V⟩)]⟩ 242 (0,0)),Wr b (bits++(bn width v).take 0)]++(ag z (.cells ⟨[.int .i64 (width:J)]⟩ 3 (0,0))::ag y (.cells ⟨[.int .u32 (v:J)]⟩ 112 (0,0))::F)):=by{rw[YX,ZF];exact o.p3.p3};have d:=pI width v;refine fI.yH (k:=av .u8) (x:=λi=>((v/2^(width-1-i)%2:I):J)) (n:=width) (λi=>[ag g (.cells ⟨[.pointer (Z ⟨b,0,V⟩)]⟩ 242 (0,0)),Wr b (bits++(bn width v).take i)]) (λ_=>[Cs]) o (NU r c) ?_ ?_ ?_;{intro Q p i A j X Y l a q _;have a:Hp E j (ag Q (p 0)::ag g (.cells ⟨[.pointer (Z ⟨b,0,V⟩)]⟩ 242 (0,0))::Wr b (bits++(bn width v).take i)::A):=a;refine p8.mk a λB m=>Ld.ax (s:=.ptr) m.p1 (Z ⟨b,0,V⟩) O ?_;refine acM m.p2 Za Ze λw7 R=>kT.mk R.p1 λS C=>q S ?_;have e:(bits++(bn width v).take i)++[v/2^(width-1-i)%2]=bits++(bn width v).take (i+1):=by{rw[Zn,ZC,Zh (by rw[d];exact l),←Bs width v i l,eF (by rw[d];exact l)];rfl};rw[e]at C;exact C.p2.p1};{intro D j a;have a:Hp E j (ag D (.deferred (Z []))::ag g (.cells ⟨[.pointer (Z ⟨b,0,V⟩)]⟩ 242 (0,0))::Wr b (bits++(bn width v).take width)::ag z (.cells ⟨[.int .i64 (width:J)]⟩ 3 (0,0))::ag y (.cells ⟨[.int .u32 (v:J)]⟩ 112 (0,0))::F):=a;rw[Zu Za]at a;exact ig.yH a λB m=>M B m.drop.p1.drop.p1.drop};{intro i D j l a;exact(Hp.H2 a).elim}
end
end
section
open Go Go.Vc Go.Srt
section
variable{E w:G}{F:Q HP}
theorem UP{l:Q I}{K:Xi Xe→J→G→Prop}(h:Hp E w F)(r:l.length=258)(C:¬bB l≤32768→∀w',Hp E w' F→K (ai .u32 (Zj 258 0)) 2 w')(D:bB l≤32768→∀c w',cP l c→Hp E w' F→K (ai .u32 (eZ l c c.length)) 0 w'):Cl Zf [.arr 258,kI] 218 ⟨[.agg (ai .u8 l)]⟩ w K:=by refine Bg.ok _ _ _ ?_;rw[Cv];refine Nw.mk h λX w1 L=>Nw.mk L λY w2 A=>Ld.arr A.p1 (by rw[bm,r]) (zw A r λw3 g=>?_);refine aa.mk (λf=>?_) λf=>?_;{have f:¬bB l≤32768:=by{simpa using f};refine Ld.arr g (by rw[bm];simp) (aA.ax g (by rw[bm];simp) (by rw[bm];simp) nB λw4 t=>Ld.arr t (by rw[bm];simp) (C f w4 t.drop.drop))};{have f:bB l≤32768:=by{simpa using f};refine Ld.arr g.p1 (by rw[bm,r]) (Wv g r (λM=>Xu f M) λ_ c s w4 e t=>?_);have N:=t.aS;simp only[ints,Zp,ZB]at N;have P:∀s∈c,s<258∧0<l.getD s 0:=λs hs=>by{have:=fL.1 (e.1.mem_iff.1 hs);rw[r]at this;exact this};have hlen:c.length≤258:=by{rw[e.1.length_eq,←r];have:=Q.length_filter_le (λs=>decide (0<l.getD s 0)) (Zs l.length);simpa[used]using this};refine⟨λnx la i w'=>∃k n a:I,i=(k:J)∧nx=(n:J)∧la=(a:J)∧k≤c.length∧n*2^(15-a)=Srt.start l c k∧a≤15∧(∀j(R:j<c.length),k≤j→a≤l.getD c[j] 0)∧Hp E w' (ao 1 s ((ints c).map vI)::ag Y (.cells (ai .u32 (eZ l c k)) 262 (0,0))::ag X (.cells (ai .u8 l) 172 (0,0))::F),λ_ _ i _=>c.length-i.toNat,⟨0,0,0,O,O,O,Za,by simp[Srt.start],Za,λj R _=>Z9 _,t⟩,?_⟩;intro nx la i w' hI;obtain⟨k,n,a,hi,M,S,hk,T,ha15,m,u⟩:=hI;subst hi;subst M;subst S;refine aa.mk (λd=>?_) λo=>?_;{have d:k<c.length:=by{have:=Xo d;omega};have v:=P _ (Zv d);have p:c[k]<l.length:=by{omega};have B:l.getD c[k] 0=l[c[k]]:=by{rw[Zo,Zh p];rfl};refine I3 u Za (x:=(c[k]:J)) (by simp[ints,d]) ?_;refine aF.rd (s:=.int .u8) u.p2 Za Za (l[c[k]]:J) (by rw[Zm];exact iV p) ?_;have S:=m k d (Zx _);have y:=iE f c[k];rw[B]at S y v;rw[jY Za];refine⟨Za,?_⟩;have hd:Hp E {w' with drawn:=w'.drawn+1} _:=u.drew;refine⟨λw'=>∃cs,Hp E w' (ao 1 s ((ints c).map vI)::ag Y (.cells cs 262 (0,0))::ag X (.cells (ai .u8 l) 172 (0,0))::F),⟨_,hd⟩,Za,Za,(l[c[k]]:J),?_,?_⟩;{rintro w2 ⟨cs,A⟩;rw[aj,A.p2.cell,Zm,Zk,ZB];exact iV p};{have W:=uq (l:=l) d;have z:=uL e d;have hcl:=Ov f e d;have hp15:2^l.getD c[k] 0≤2^15:=ZS Zb (iE f _);have q:n*2^(l[c[k]]-a)=iT l c k:=by{have L:n*2^(l[c[k]]-a)*sh l c[k]=iT l c k*sh l c[k]:=by{rw[z,←T];unfold sh;rw[B,I.mul_assoc,←I.pow_add];congr 2;omega};exact I.eq_of_mul_eq_mul_right (FZ l c[k]) L};have e1:br .u32 (n:J) ((l[c[k]]:J)-(a:J))=(iT l c k:J):=by{have hmx:YN .u32=4294967295:=O;have:=dv (k:=.u32) (a:=n) (b:=l[c[k]]-a) (by have:Xy.bits .u32=32:=O;omega) Ze;rw[q]at this;rw[←this];congr 1;omega};rw[e1];refine aF.wr hd.p1 Za Za (by rw[bm,eO]) O λw3 g=>?_;rw[Zm,G5]at g;refine⟨⟨_,g.p1⟩,?_⟩;rw[jE Za,ae Za];refine⟨⟨k+1,iT l c k+1,l[c[k]],O,O,O,Za,?_,y,λj R hkj=>?_,?_⟩,by dsimp only;omega⟩;{rw[W,←z];unfold sh;rw[B,Yc]};{rw[←B];exact KW e R Za};{have:eZ l c (k+1)=(eZ l c k).set c[k] (iT l c k):=by{rw[eZ,getD_at d]};rw[this];exact g.p1}}};{have o:k=c.length:=by{have:=Xm o;omega};subst o;refine Ld.arr u.p1 (by rw[bm,eO]) (aA.ax u.p1 (by rw[bm,eO]) (by rw[bm,eO]) nB λw5 h5=>Ld.arr h5 (by rw[bm,eO]) (D f c w5 e h5.drop.drop.drop))}}
end
def abS{l a:Q I}(b:l.length=258)(h:cP l a):∀s∈a,s<258∧0<l.getD s 0:=λs c=>by have:=fL.1 (h.1.mem_iff.1 c);rw[b]at this;exact this
def ab2{l a:Q I}(b:l.length=258)(h:cP l a):a.length≤258:=by rw[h.1.length_eq,←b];have:=Q.length_filter_le (λs=>decide (0<l.getD s 0)) (Zs l.length);simpa[used]using this
def Rp{l c zs:Q I}(h:cP l c)(d:cP l zs):c=zs:=by refine Q.Perm.eq_of_pairwise (le:=λa b=>l.getD a 0<l.getD b 0∨(l.getD a 0=l.getD b 0∧a<b)) ?_ h.2 d.2 (h.1.trans d.1.symm);intro a b _ _ e f;omega
def Q3{l:Q I}{i:I}{k:Xy}(h:i<l.length):(ai k l)[((i:I):J).toNat]?=Z (Sc.enc (.int k) (l.getD i 0:J)):=by rw[Zm,iV h,Zo,Zh h];rfl
end
section
open Go Go.Vc
set_option maxRecDepth 100000
def E9.ok(a:(Xi Xe))(R:(Xi Xe)→J→G→Prop) w(h:Nw 172 a w λc b=>Nw 176 ⟨Zj 258 (.int .u8 0)++[(ni 0),(ni 0)]⟩ b λe d=>Ld (.arr 258) ⟨c,0,V⟩ d λf=>Cl Pg [kB] 290 ⟨[(.agg f)]⟩ d λ(h:Xg) g=>aa (! h) (c8 Pg 176 [] λi=>aA 260 ⟨e,0,V⟩ i g λj=>Ld (.arr 260) ⟨e,0,V⟩ j λk=>R k 2 j) (Ld (.arr 258) ⟨c,0,V⟩ g λl=>c8 Pg 176 [(0,(.agg l))] λm=>aA 260 ⟨e,0,V⟩ m g λn=>Ld (.arr 260) ⟨e,0,V⟩ n λo=>R o 0 n)):Cl Pg [(.arr 260),kI] 225 ⟨[(.agg a)]⟩ w R:=co Tryz.f225 [] h
def CH.ok(a:(Xi Xe))(b:J)(R:(Xi Xe)→J→Xg→G→Prop) w(h:Nw 176 a w λd c=>Nw 176 ⟨Zj 258 (.int .u8 0)++[(ni 0),(ni 0)]⟩ c λf e=>aK (λ(q:G)=>Ld (.arr 258) (Zl ⟨d,0,V⟩ 0) q λr=>Ld kI (Zl ⟨d,0,V⟩ 258) q λ(s:J)=>0≤(1:J)∧Ld kI (Zl ⟨d,0,V⟩ 259) q λ(t:J)=>c8 Pg 176 [(0,(.agg r)),(1,(ni (gO .i64 (br .i64 s (1:J)) b))),(2,(ni (i64 (t+1))))] λu=>aA 260 ⟨f,0,V⟩ u q λv=>Ld (.arr 258) (Zl ⟨f,0,V⟩ 0) v λx=>Ld kI (Zl ⟨f,0,V⟩ 259) v λ(y:J)=>Cl Pg [kI,kI] 306 ⟨[(.agg x),(ni y)]⟩ v λ(B:J)(N:J) z=>Ld kI (Zl ⟨f,0,V⟩ 258) z λ(P:J)=>aa (K (P≥(i64 (B+N)))) (Ld (.arr 260) ⟨f,0,V⟩ z λQ=>aA 260 ⟨f,0,V⟩ Q z λC=>Ld (.arr 260) ⟨f,0,V⟩ C λS=>R S 0 U C) (aC z λA=>Ld (.arr 258) (Zl ⟨f,0,V⟩ 0) A λD=>Ld kI (Zl ⟨f,0,V⟩ 259) A λ(E:J)=>Ld kI (Zl ⟨f,0,V⟩ 258) A λ(F:J)=>(Ld (.arr 258) (Zl ⟨d,0,V⟩ 0) A λT=>c8 Pg 176 [(0,(.agg T))] λW=>Cl Pg [kI] 307 ⟨[(.agg D),(ni E),(ni (i64 (F-B)))]⟩ A λ(X:J) Y=>aA 260 ⟨f,0,V⟩ W Y λI=>Ld (.arr 260) ⟨f,0,V⟩ I λp1=>R p1 X H I)∧(Cl Pg [kI] 307 ⟨[(.agg D),(ni E),(ni (i64 (F-B)))]⟩ A λ(r1:J) L=>Ld (.arr 258) (Zl ⟨d,0,V⟩ 0) L λs1=>c8 Pg 176 [(0,(.agg s1))] λt1=>aA 260 ⟨f,0,V⟩ t1 L λM=>Ld (.arr 260) ⟨f,0,V⟩ M λv1=>R v1 r1 H M))) λg=>0≤(1:J)∧aa ((aJ .i64 b (1:J)) !=0) (Ld (.arr 260) ⟨d,0,V⟩ e λh=>aA 260 ⟨f,0,V⟩ h e λi=>Ld (.arr 260) ⟨f,0,V⟩ i λj=>R j 0 U i) (Ld (.arr 260) ⟨d,0,V⟩ e λk=>Cl Pg [kB] 305 ⟨[(.agg k)]⟩ e λ(m:Xg) l=>aa (! m) (Ld (.arr 260) ⟨d,0,V⟩ l λn=>aA 260 ⟨f,0,V⟩ n l λo=>Ld (.arr 260) ⟨f,0,V⟩ o λp=>R p 0 U o) (g l))):Cl Pg [(.arr 260),kI,kB] 227 ⟨[(.agg a),(ni b)]⟩ w R:=co Tryz.f227 [(2,[]),(17,[])] h
def Ak.ok(a:(Xi Xe))(R:Xg→G→Prop) w(h:Nw 176 a w λc b=>aK (λ(m:G)=>Ld (.arr 258) (Zl ⟨c,0,V⟩ 0) m λn=>Ld kI (Zl ⟨c,0,V⟩ 259) m λ(o:J)=>Cl Pg [kI,kI] 306 ⟨[(.agg n),(ni o)]⟩ m λ(q:J)(r:J) p=>Ld kI (Zl ⟨c,0,V⟩ 258) p λ(s:J)=>R (K (s≥(i64 (q+r)))) p) λd=>Ld (.arr 258) (Zl ⟨c,0,V⟩ 0) b λe=>Cl Pg [kB] 290 ⟨[(.agg e)]⟩ b λ(g:Xg) f=>aa (! g) (R U f) (Ld kI (Zl ⟨c,0,V⟩ 259) f λ(h:J)=>aa (K (h<0)) (R U f) (Ld kI (Zl ⟨c,0,V⟩ 259) f λ(i:J)=>aa (K (i≥15)) (R U f) (Ld kI (Zl ⟨c,0,V⟩ 258) f λ(j:J)=>aa (K (j<0)) (R U f) (Ld kI (Zl ⟨c,0,V⟩ 258) f λ(k:J)=>Ld kI (Zl ⟨c,0,V⟩ 259) f λ(l:J)=>0≤l∧aa ((aJ .i64 k l) !=0) (R U f) (d f)))))):Cl Pg [kB] 305 ⟨[(.agg a)]⟩ w R:=co Tryz.f305 [(2,[])] h
def BX.ok(a:(Xi Xe))(b:J)(R:J→J→G→Prop) w(h:Nw 172 a w λd c=>Ld (.arr 258) ⟨d,0,V⟩ c λe=>Cl Pg [(.st Pa)] 359 ⟨[(.agg e)]⟩ c λg f=>Nw 442 ⟨Zj 16 (ni 0)⟩ f λi h=>ak ⟨i,0,V⟩ [(ni g.1),(ni g.2.1),(ni g.2.2.1),(ni g.2.2.2.1),(ni g.2.2.2.2.1),(ni g.2.2.2.2.2.1),(ni g.2.2.2.2.2.2.1),(ni g.2.2.2.2.2.2.2.1),(ni g.2.2.2.2.2.2.2.2.1),(ni g.2.2.2.2.2.2.2.2.2.1),(ni g.2.2.2.2.2.2.2.2.2.2.1),(ni g.2.2.2.2.2.2.2.2.2.2.2.1),(ni g.2.2.2.2.2.2.2.2.2.2.2.2.1),(ni g.2.2.2.2.2.2.2.2.2.2.2.2.2.1),(ni g.2.2.2.2.2.2.2.2.2.2.2.2.2.2.1),(ni g.2.2.2.2.2.2.2.2.2.2.2.2.2.2.2.1)] 0 h λj=>aF ⟨i,0,V⟩ 16 0 1 λk=>St k (ni 0) j λl=>dn 0 1 l λm n(o:J)(p:J) q=>aa (K (p≤b)) (aF ⟨i,0,V⟩ 16 (i64 (p-1)) 1 λr=>Ld kI r q λ(s:J)=>0≤(1:J)∧m (br .i64 (i64 (o+s)) (1:J)) (i64 (p+1)) q∧n (br .i64 (i64 (o+s)) (1:J)) (i64 (p+1)) q<n o p q) (aC q λt=>aF ⟨i,0,V⟩ 16 b 1 λu=>Ld kI u t λ(v:J)=>R o v t)):Cl Pg [kI,kI] 306 ⟨[(.agg a),(ni b)]⟩ w R:=co Tryz.f306 [(9,[(4,kI),(7,kI)])] h
def F1.ok(a:(Xi Xe))(b:J)(c:J)(R:J→G→Prop) w(h:Nw 172 a w λe d=>Ld (.arr 258) ⟨e,0,V⟩ d λf=>dn c 0 d λg h(i:J)(j:J) k=>aa (K (j<258)) (fq (.int .u8) f 258 j λ(l:J)=>aa ((i64 l) !=b) (g i (i64 (j+1)) k∧h i (i64 (j+1)) k<h i j k) (aa (i==0) (R j k) (g (i64 (i-1)) (i64 (j+1)) k∧h (i64 (i-1)) (i64 (j+1)) k<h i j k))) (R 0 k)):Cl Pg [kI] 307 ⟨[(.agg a),(ni b),(ni c)]⟩ w R:=co Tryz.f307 [(5,[(2,kI),(10,kI)])] h
end
end Go.Proofs.Q9
namespace Go.Srt
section
def dM(l:Q I):Xg:=K (bB l=32768)&&K (0<l.getD 257 0)
def oP{l:Q I}:dM l=H↔bB l=32768∧0<l.getD 257 0:=by simp[dM]
def Av(l:Q I)(n p:I):I:=((Zs l.length).find? λs=>(l.getD s 0==n)&&(jN l s==p)).getD 0
def IK{l:Q I}{n p:I}(h:p<l.count n):Av l n p<l.length∧l.getD (Av l n p) 0=n∧jN l (Av l n p)=p:=by obtain⟨s,e,b,c⟩:=VG l n p h;unfold Av;cases hf:(Zs l.length).find? λs=>(l.getD s 0==n)&&(jN l s==p)with|none=>have:=List.find?_eq_none.1 hf s Ze;simp only[ZG,XA]at this;exact Xu ⟨b,c⟩ this|some t=>have a:=Q.find?_some hf;have d:=Q.mem_of_find?_eq_some hf;simp only[ZG,XA]at a;exact⟨by simpa using d,a⟩
def nD(l:Q I)(c b:I):Prop:=dM l=H∧b<15∧c<2^b∧fst l b+many l b≤c
def iD(l:Q I)(c b x:I):(I×I)×Xj I:=if fst l (b+1)+many l (b+1)≤2*c+x then((2*c+x,b+1),V)else((0,0),Z (Av l (b+1) (2*c+x-fst l (b+1))))
def nD.zero{l:Q I}(h:dM l=H):nD l 0 0:=⟨h,Zb,Zb,by simp[fst,many]⟩
def nD.ge{l:Q I}{c b:I}(h:nD l c b):fst l (b+1)≤2*c:=by rw[fst];have:=h.2.2.2;omega
def acE{l:Q I}(h:dM l=H):fst l 15+many l 15=32768:=by have b:=Ci l 15 Zb;have a:=TJ (l:=l) (by rw[(oP.1 h).1];decide);rw[(oP.1 h).1]at a;rw[low]at a;omega
def nD.next{l:Q I}{c b x:I}(h:nD l c b)(e:x≤1):nD l (iD l c b x).1.1 (iD l c b x).1.2:=by unfold iD;split;{rename_i a;have f:(2:I)^(b+1)=2*2^b:=by{rw[Yu,Yj]};have g:=h.2.2.1;refine⟨h.1,?_,by show 2*c+x<2^(b+1);omega,a⟩;(rcases Yd (b+1) 15 with d|d);{exact d};{have:b=14:=by{have:=h.2.1;omega};subst this;have:=acE h.1;have:(2:I)^14=16384:=by{decide};simp only[Z1]at a;omega}};{exact nD.zero h.1}
def tW{l:Q I}{c b x s:I}(j:l.length=258)(h:nD l c b)(k:x≤1)(a:(iD l c b x).2=Z s):s<258∧l.getD s 0=b+1∧code l s=2*c+x∧b<15:=by unfold iD at a;split at a;{cases a};{rename_i m;have f:s=Av l (b+1) (2*c+x-fst l (b+1)):=by{injection a with a;exact a.symm};have g:=h.ge;have o:many l (b+1)=l.count (b+1):=by{unfold many;rw[Xf Za]};obtain⟨i,d,e⟩:=IK (l:=l) (n:=b+1) (p:=2*c+x-fst l (b+1)) Za;rw[←f]at i d e;refine⟨Za,d,?_,h.2.1⟩;unfold code;rw[d,e];omega}
def Sw{l:Q I}{c b x:I}(a:(iD l c b x).2=V):(iD l c b x).1=(2*c+x,b+1):=by unfold iD at a⊢;split;{rfl};{grind}
def Tf{l:Q I}{c b x s:I}(a:(iD l c b x).2=Z s):(iD l c b x).1=(0,0):=by unfold iD at a⊢;split;{grind};{rfl}
def Bf{l:Q I}(a:l.length≤258):∀n,fst l n+516≤516*2^n|0=>by simp[fst]|n+1=>by have:=Bf a n;have b:many l n≤258:=by{unfold many;split;{omega};{grind}};rw[fst,Yu];omega
def Ca{l:Q I}(a:l.length≤258)(n:I):many l n≤258:=by unfold many;split;{omega};{grind}
end
end Go.Srt
namespace Go.Proofs.Q9
section
open Go Go.Vc Go.Srt
section
variable{E w:G}{F:Q HP}
theorem GR{l:Q I}{i:I}{k:Xy}(h:i<l.length):(ai k l)[((i:I):J).toNat]?=Z (Sc.enc (.int k) (l.getD i 0:J)):=by rw[Zm,iV h,eF h]
theorem NC{l:Q I}{K:Xg→G→Prop}(h:Hp E w F)(a:l.length=258)(d:∀w',Hp E w' F→K (XB (bB l=32768)) w'):Cl Zf [kB] 345 ⟨[.agg (ai .u8 l)]⟩ w K:=by refine C2.ok _ _ _ ?_;refine Nw.mk h λb f c=>Ld.arr c (by rw[bm,a]) (AJ c a λg e=>?_);have:((bB l:J)==32768)=XB (bB l=32768):=by{rw[Yz];simp;omega};rw[this];exact d _ e.drop
theorem xG{l:Q I}{K:Xg→G→Prop}(h:Hp E w F)(d:l.length=258)(e:∀w',Hp E w' F→K (dM l) w'):Cl Zf [kB] 290 ⟨[.agg (ai .u8 l)]⟩ w K:=by refine JO.ok _ _ _ ?_;refine Nw.mk h λb g f=>Ld.arr f (by rw[bm,d]) (NC f d λj a=>aa.mk (λc=>?_) λc=>?_);{refine aF.rd (s:=.int .u8) a Zb Zb (l.getD 257 0:J) (GR (i:=257) Za) ?_;have:XB ((l.getD 257 0:J)>0)=dM l:=by{unfold dM;rw[c,Xg.true_and,Yz,XE,XE];omega};rw[this];exact e _ a.drop};{have:U=dM l:=by{unfold dM;rw[c,Xg.false_and]};rw[this];exact e _ a.drop}
abbrev T9:Q Sc:=[.int .i64,.int .i64,.int .i64,.int .i64,.int .i64,.int .i64,.int .i64,.int .i64,.int .i64,.int .i64,.int .i64,.int .i64,.int .i64,.int .i64,.int .i64,.int .i64]
def t16(f:I→J):TT T9:=(f 0,f 1,f 2,f 3,f 4,f 5,f 6,f 7,f 8,f 9,f 10,f 11,f 12,f 13,f 14,f 15,())
theorem acx(f:I→J):eT 16 f=⟨ba T9 (t16 f)⟩:=O
theorem abR(f:I→J):∀v∈[(.int .i64 (f 0):Xe),.int .i64 (f 1),.int .i64 (f 2),.int .i64 (f 3),.int .i64 (f 4),.int .i64 (f 5),.int .i64 (f 6),.int .i64 (f 7),.int .i64 (f 8),.int .i64 (f 9),.int .i64 (f 10),.int .i64 (f 11),.int .i64 (f 12),.int .i64 (f 13),.int .i64 (f 14),.int .i64 (f 15)],aD v=H:=by intro v a;simp only[Q.mem_cons,Q.not_mem_nil,or_false]at a;rcases a with rfl|rfl|rfl|rfl|rfl|rfl|rfl|rfl|rfl|rfl|rfl|rfl|rfl|rfl|rfl|rfl<;>rfl
theorem Ap:(⟨Zj 16 (.int .i64 0)⟩:Xi Xe)=eT 16 λ_=>0:=O
theorem Rr{l:Q I}{K:TT T9→G→Prop}(h:Hp E w F)(o:l.length=258)(m:∀x∈l,x≤15)(q:∀w',Hp E w' F→K (t16 λj=>(l.count j:J)) w'):Cl Zf [.st T9] 359 ⟨[.agg (ai .u8 l)]⟩ w K:=by refine GO.ok _ _ _ ?_;rw[Ap];refine Nw.mk h λb z r=>Nw.mk r λu A p=>Ld.arr p.p1 (by rw[bm,o]) ?_;refine⟨λi w'=>∃k:I,i=(k:J)∧k≤258∧Hp E w' (ag u (.cells (eT 16 λj=>((l.take k).count j:J)) 442 (0,0))::F),λi _=>258-i.toNat,⟨0,O,Za,?_⟩,?_⟩;{have:=p.p1.drop;rwa [iI (g:=λj=>((l.take 0).count j:J)) λi _=>Zd]at this};rintro i w' ⟨k,rfl,hk,hh⟩;refine aa.mk (λf=>?_) λa=>?_;{have f:k<258:=by{have:=Xo f;omega};have c:k<l.length:=by{omega};have n:∀x,(l.take k).count x≤258:=λx=>Yk Q.count_le_length Ze;refine fq.rd (s:=.int .u8) Za Za (l[k]:J) (by rw[Zm];exact iV c) ?_;have v:=m _ (Zv c);rw[ae (x:=(l[k]:J)) Za];refine aa.t (Xt Za) ?_;refine aF.rd (s:=.int .i64) hh Za Za ((l.take k).count l[k]:J) (by rw[Zm];exact yZ Za) ?_;have:=n l[k];refine aF.wr hh Za Za eV O λy d=>?_;rw[ae Za,Zm,sW]at d;rw[ae Za];refine⟨⟨k+1,O,Za,?_⟩,by dsimp only;omega⟩;rw[iI (g:=λj=>((l.take (k+1)).count j:J))]at d;{exact d};{intro j B;rw[fe c];by_cases e:j=l[k];{grind};{grind}}};{have a:k=258:=by{have:=Xm a;omega};subst a;rw[←o,Ye]at hh;refine Ld.Fq hh (t16 λj=>(l.count j:J)) (acx _) (ak.ax hh (by rw[eV];rfl) (abR λj=>(l.count j:J)) λy d=>?_);exact Ld.Fq d (t16 λj=>(l.count j:J)) O (q _ d.drop)}
theorem EM{l:Q I}{n:I}{K:J→J→G→Prop}(h:Hp E w F)(r:l.length=258)(p:∀x∈l,x≤15)(D:n≤15)(A:∀w',Hp E w' F→K (Srt.fst l n:J) (many l n:J) w'):Cl Zf [kI,kI] 306 ⟨[.agg (ai .u8 l),.int .i64 (n:J)]⟩ w K:=by refine BX.ok _ _ _ _ ?_;refine Nw.mk h λb L q=>Ld.arr q (by rw[bm,r]) (Rr q.drop r p λM t=>?_);rw[Ap];refine Nw.mk t λu N v=>ak.ax v (by rw[eV];rfl) (abR λj=>(l.count j:J)) λB o=>?_;have o:Hp E B (ag u (.cells (eT 16 λj=>(l.count j:J)) 442 (0,0))::F):=o;refine aF.wr o Zb Zb eV O λP y=>?_;rw[show(0:J).toNat=0 from O,sW,iI (g:=λj=>(many l j:J)) λi _=>by unfold many;by_cases e:i=0<;>simp[e]]at y;refine⟨λc m w'=>∃k:I,m=(k:J)+1∧k≤n∧c=(Srt.fst l k:J)∧Hp E w' (ag u (.cells (eT 16 λj=>(many l j:J)) 442 (0,0))::F),λ_ m _=>18-m.toNat,⟨0,O,Za,O,y⟩,?_⟩;rintro c m w' ⟨k,rfl,hk,rfl,hh⟩;refine aa.mk (λf=>?_) λd=>?_;{have f:k<n:=by{have:=Xo f;omega};rw[ae (x:=(k:J)+1-1) Za,show(k:J)+1-1=(k:J) by omega];refine aF.rd (s:=.int .i64) hh Za Za (many l k:J) (by rw[Zm];exact yZ Za) ?_;have q:=Bf (l:=l) Za k;have t:=Ca (l:=l) Za k;have v:(2:I)^k≤2^15:=ZS Zb Za;have o:(2:I)^15=32768:=by{decide};rw[ae (x:=(Srt.fst l k:J)+(many l k:J)) Za,ae (x:=(k:J)+1+1) Za];have e:=dv (k:=.i64) (a:=Srt.fst l k+many l k) (b:=1) Zb (by have:YN .i64=9223372036854775807:=O;omega);have C:br .i64 ((Srt.fst l k:J)+(many l k:J)) 1=(Srt.fst l (k+1):J):=by{rw[show(Srt.fst l k:J)+(many l k:J)=((Srt.fst l k+many l k:I):J) by omega,show(1:J)=((1:I):J)from O,e,Srt.fst];omega};rw[C];exact⟨Zb,⟨k+1,Za,Za,O,hh⟩,by dsimp only;omega⟩};{have d:k=n:=by{have:=Xm d;omega};subst d;refine aC.mk hh λR z=>aF.rd (s:=.int .i64) z Za Za (many l k:J) (by rw[Zm];exact yZ Za) (A _ z.drop)}
theorem abx{l:Q I}{n p:I}{K:J→G→Prop}(h:Hp E w F)(r:l.length=258)(j:∀x∈l,x≤15)(t:p<l.count n)(u:∀w',Hp E w' F→K (Av l n p:J) w'):Cl Zf [kI] 307 ⟨[.agg (ai .u8 l),.int .i64 (n:J),.int .i64 (p:J)]⟩ w K:=by refine F1.ok _ _ _ _ _ ?_;have m:=IK t;refine Nw.mk h λb A o=>Ld.arr o (by rw[bm,r]) ?_;have v:l.count n≤258:=Yk Q.count_le_length Za;refine⟨λq i w'=>∃k:I,i=(k:J)∧k≤258∧(l.take k).count n≤p∧q=(p:J)-((l.take k).count n:J)∧Hp E w' F,λ_ i _=>258-i.toNat,⟨0,O,Za,Zd,Zd,o.drop⟩,?_⟩;rintro q i w' ⟨k,rfl,hk,hc,rfl,hh⟩;refine aa.mk (λf=>?_) λy=>?_;{have f:k<258:=by{have:=Xo f;omega};have a:k<l.length:=by{omega};have z:=j _ (Zv a);have g:=fe a n;refine fq.rd (s:=.int .u8) Za Za (l[k]:J) (by rw[Zm];exact iV a) ?_;rw[ae (x:=(l[k]:J)) Za,ae (x:=(k:J)+1) Za];refine aa.mk (λc=>?_) λd=>aa.mk (λe=>?_) λe=>?_;{have c:l[k]≠n:=by{rw[bne_iff_ne]at c;omega};rw[Xf c]at g;exact⟨⟨k+1,O,Za,Za,Za,hh⟩,by dsimp only;omega⟩};{have d:l[k]=n:=by{have:=bne_eq_false_iff_eq.1 d;omega};have e:(l.take k).count n=p:=by{rw[XA]at e;omega};have:k=Av l n p:=by{refine IY a m.1 Ze ?_;rw[m.2.2];unfold jN;rw[eF a,d,e]};rw[this];exact u _ hh};{have d:l[k]=n:=by{have:=bne_eq_false_iff_eq.1 d;omega};have e:(l.take k).count n≠p:=by{have:=beq_eq_false_iff_ne.1 e;omega};rw[Xh d]at g;rw[ae Za];exact⟨⟨k+1,O,Za,Za,Za,hh⟩,by dsimp only;omega⟩}};{grind}
def fg(l:Q I)(c b:I):Xi Xe:=⟨(l.map λ(n:I)=>Yx .u8 (n:J))++[.int .i64 (c:J),.int .i64 (b:J)]⟩
theorem cG{l:Q I}{c b:I}(a:l.length=258):(fg l c b).size=260:=by simp[fg,a]
theorem fw{l:Q I}{c b:I}:∀v∈(fg l c b).toList,aD v=H:=by intro v a;unfold fg at a;simp only[Q.mem_append,Q.mem_map,Q.mem_cons,Q.not_mem_nil,or_false]at a;rcases a with⟨n,_,rfl⟩|rfl|rfl<;>rfl
theorem gh(l:Q I)(c b:I):fg l c b=⟨[]++(l.map λ(n:I)=>Yx .u8 (n:J))++[.int .i64 (c:J),.int .i64 (b:J)]⟩:=O
theorem xy{l:Q I}{c b:I}(a:l.length=258):(fg l c b)[258]?=Z (Sc.enc (.int .i64) (c:J)):=by unfold fg;rw[Q.getElem?_toArray,ZI (by simp[a])];simp[a]
theorem tg{l:Q I}{c b:I}(a:l.length=258):(fg l c b)[259]?=Z (Sc.enc (.int .i64) (b:J)):=by unfold fg;rw[Q.getElem?_toArray,ZI (by simp[a])];simp[a]
theorem HL:(⟨Zj 258 (.int .u8 0)++[.int .i64 0,.int .i64 0]⟩:Xi Xe)=fg (Zj 258 0) 0 0:=by unfold fg;rw[Q.map_replicate];rfl
theorem sM(a:Q (I×Xe)):Tryz.prog.built 176 a=YK (#[(0,258),(258,1),(259,1)][·]?) ⟨Zj 258 (.int .u8 0)++[.int .i64 0,.int .i64 0]⟩ a:=Zc
theorem za{l:Q I}(a:l.length=258)(rest:Q (I×Xe)):YK (#[(0,258),(258,1),(259,1)][·]?) ⟨Zj 258 (.int .u8 0)++[.int .i64 0,.int .i64 0]⟩ ((0,.agg (ai .u8 l))::rest)=YK (#[(0,258),(258,1),(259,1)][·]?) (fg l 0 0) rest:=by have:=jT (place:=(#[(0,258),(258,1),(259,1)][·]?)) (i:=0) (v:=.agg (ai .u8 l)) (rest:=rest) (pre:=[]) (aN:=Zj 258 (.int .u8 0)) (post:=[.int .i64 0,.int .i64 0]) O O ZX (by show(ai .u8 l).size=_;rw[bm,a]);exact this
theorem aaO{l:Q I}{c a b:I}(d:l.length=258)(rest:Q (I×Xe)):YK (#[(0,258),(258,1),(259,1)][·]?) (fg l a b) ((1,.int .i64 (c:J))::rest)=YK (#[(0,258),(258,1),(259,1)][·]?) (fg l c b) rest:=by have:=jT (place:=(#[(0,258),(258,1),(259,1)][·]?)) (i:=1) (v:=.int .i64 (c:J)) (rest:=rest) (pre:=l.map λ(n:I)=>Yx .u8 (n:J)) (aN:=[.int .i64 (a:J)]) (post:=[.int .i64 (b:J)]) O (by simp[d]) O O;unfold fg;rw[show(l.map λ(n:I)=>Yx .u8 (n:J))++[.int .i64 (a:J),.int .i64 (b:J)]=(l.map λ(n:I)=>Yx .u8 (n:J))++[.int .i64 (a:J)]++[.int .i64 (b:J)] by simp,this];congr 2;simp[Xe.cells]
theorem N4{l:Q I}{c a b:I}(d:l.length=258)(rest:Q (I×Xe)):YK (#[(0,258),(258,1),(259,1)][·]?) (fg l c a) ((2,.int .i64 (b:J))::rest)=YK (#[(0,258),(258,1),(259,1)][·]?) (fg l c b) rest:=by have:=jT (place:=(#[(0,258),(258,1),(259,1)][·]?)) (i:=2) (v:=.int .i64 (b:J)) (rest:=rest) (pre:=(l.map λ(n:I)=>Yx .u8 (n:J))++[.int .i64 (c:J)]) (aN:=[.int .i64 (a:J)]) (post:=[]) O (by simp[d]) O O;unfold fg;rw[show(l.map λ(n:I)=>Yx .u8 (n:J))++[.int .i64 (c:J),.int .i64 (a:J)]=(l.map λ(n:I)=>Yx .u8 (n:J))++[.int .i64 (c:J)]++[.int .i64 (a:J)]++[] by simp,this];congr 2;simp[Xe.cells]
theorem c8.st0{l:Q I}{K:Xi Xe→Prop}(a:l.length=258)(b:K (fg l 0 0)):c8 Zf 176 [(0,.agg (ai .u8 l))] K:=⟨fg l 0 0,by rw[sM,za a];rfl,b⟩
theorem c8.st2{l:Q I}{b:I}{K:Xi Xe→Prop}(a:l.length=258)(c:K (fg l 0 b)):c8 Zf 176 [(0,.agg (ai .u8 l)),(2,.int .i64 (b:J))] K:=⟨fg l 0 b,by rw[sM,za a,N4 a];rfl,c⟩
theorem c8.st3{l:Q I}{c b:I}{K:Xi Xe→Prop}(a:l.length=258)(d:K (fg l c b)):c8 Zf 176 [(0,.agg (ai .u8 l)),(1,.int .i64 (c:J)),(2,.int .i64 (b:J))] K:=⟨fg l c b,by rw[sM,za a,aaO a,N4 a];rfl,d⟩
theorem c8.stZ{K:Xi Xe→Prop}(a:K (fg (Zj 258 0) 0 0)):c8 Zf 176 [] K:=⟨_,sM [],by rw[HL];exact a⟩
theorem aci{l:Q I}{K:Xi Xe→J→G→Prop}(h:Hp E w F)(a:l.length=258)(e:dM l=U→∀w',Hp E w' F→K (fg (Zj 258 0) 0 0) 2 w')(f:dM l=H→∀w',Hp E w' F→K (fg l 0 0) 0 w'):Cl Zf [.arr 260,kI] 225 ⟨[.agg (ai .u8 l)]⟩ w K:=by refine E9.ok _ _ _ ?_;rw[HL];have d:(fg (Zj 258 0) 0 0).size=260:=cG ZX;refine Nw.mk h λb n k=>Nw.mk k λo p j=>Ld.arr j.p1 (by rw[bm,a]) (xG j a λq g=>aa.mk (λi=>?_) λi=>?_);{exact c8.stZ (aA.ax g d d fw λm c=>Ld.arr c d (e (by simpa using i) _ c.drop.drop))};{exact Ld.arr g.p1 (by rw[bm,a]) (c8.st0 a (aA.ax g d (cG a) fw λm c=>Ld.arr c (cG a) (f (by simpa using i) _ c.drop.drop)))}
theorem abz{l:Q I}(h:dM l=H):∀x∈l,x≤15:=λx a=>by obtain⟨i,b,rfl⟩:=ZY a;have:=iE (l:=l) (by rw[(oP.1 h).1];decide) i;rwa [eF b]at this
theorem Oh{l:Q I}{c b:I}{K:Xg→G→Prop}(h:Hp E w F)(d:l.length=258)(q:b<15)(o:c<2^b)(j:∀w',Hp E w' F→K (dM l&&XB (Srt.fst l b+many l b≤c)) w'):Cl Zf [kB] 305 ⟨[.agg (fg l c b)]⟩ w K:=by refine Ak.ok _ _ _ ?_;simp only[aZ,aj,Zk];refine Nw.mk h λr t k=>?_;rw[gh]at k;have i:(l.map λ(n:I)=>Yx .u8 (n:J)).length=258:=by{simp[d]};refine Ld.sub k O i (xG k d λu a=>aa.mk (λg=>?_) λg=>?_);{have g:dM l=U:=by{simpa using g};rw[g,Xg.false_and]at j;exact j _ a.drop};have g:dM l=H:=by{simpa using g};rw[g,Xg.true_and]at j;rw[←gh]at a;have v:(2:I)^b≤2^15:=ZS Zb Za;have p:(2:I)^15=32768:=Zb;refine Ld.ax (s:=.int .i64) a (b:J) (tg d) (aa.f (Xq Za) ?_);refine Ld.ax (s:=.int .i64) a (b:J) (tg d) (aa.f (Xq Za) ?_);refine Ld.ax (s:=.int .i64) a (c:J) (xy d) (aa.f (Xq Za) ?_);refine Ld.ax (s:=.int .i64) a (c:J) (xy d) (Ld.ax (s:=.int .i64) a (b:J) (tg d) ⟨Za,?_⟩);rw[cw (by have:Xy.bits .i64=64:=O;omega),Y5 o];refine aa.f Zb ?_;rw[gh]at a;refine Ld.sub a O i ?_;rw[←gh]at a;refine Ld.ax (s:=.int .i64) a (b:J) (tg d) (EM a d (abz g) Za λx m=>Ld.ax (s:=.int .i64) m (c:J) (xy d) ?_);have k:=Bf (l:=l) Za b;have a:=Ca (l:=l) Za b;rw[ae Za];have e:XB ((c:J)≥(Srt.fst l b:J)+(many l b:J))=XB (Srt.fst l b+many l b≤c):=by{rw[Yz,XE,XE];omega};rw[e];exact j _ m.drop
theorem P9{c x:I}(f:x≤1)(g:c<16384):gO .i64 (br .i64 (c:J) 1) (x:J)=((2*c+x:I):J):=by have h:YN .i64=9223372036854775807:=O;have e:=dv (k:=.i64) (a:=c) (b:=1) Zb Za;have d:c*2^1|||x=2*c+x:=by{have:=YT (i:=1) (b:=x) Za c;rw[Yj c,←this,Yj]};rw[show(1:J)=((1:I):J)from O,e,lp Za Za Ze,d]
theorem WD{l:Q I}{c b x:I}{K:Xi Xe→J→Xg→G→Prop}(h:Hp E w F)(a:l.length=258)(j:nD l c b)(B:x≤1)(m:∀w',Hp E w' F→K (fg l (iD l c b x).1.1 (iD l c b x).1.2) (((iD l c b x).2.getD 0:I):J) (iD l c b x).2.isSome w'):Cl Zf [.arr 260,kI,kB] 227 ⟨[.agg (fg l c b),.int .i64 (x:J)]⟩ w K:=by refine CH.ok _ _ _ _ ?_;simp only[aZ,aj,Zk];rw[HL];have C:(fg (Zj 258 0) 0 0).size=260:=cG ZX;have d:(l.map λ(n:I)=>Yx .u8 (n:J)).length=258:=by{simp[a]};have hp:(2:I)^b≤2^14:=ZS Zb (by have:=j.2.1;omega);have D:(2:I)^14=16384:=Zb;have L:=j.2.2.1;have M:=j.2.1;have k:=abz j.1;refine Nw.mk h λb4 w1 N=>Nw.mk N λb6 w2 A=>?_;have P:aJ .i64 (x:J) 1=0:=by{rw[show(1:J)=((1:I):J)from O,cw Zb];omega};rw[P];refine⟨Zb,aa.f Zb ?_⟩;refine Ld.arr A.p1 (cG a) (Oh A a M L λw3 u=>?_);refine aa.f (by rw[j.1,Xt j.2.2.2];rfl) ?_;have o:=u.p1;rw[gh l c b]at o;refine Ld.sub o O d (Ld.ax (s:=.int .i64) u.p1 (c:J) (xy a) ⟨Zb,Ld.ax (s:=.int .i64) u.p1 (b:J) (tg a) ?_⟩);rw[P9 B Za,ae (x:=(b:J)+1) Za];refine c8.st3 (b:=b+1) a (aA.ax u C (cG a) fw λw4 z=>?_);have p:=z;rw[gh l (2*c+x) (b+1)]at p;refine Ld.sub p O d (Ld.ax (s:=.int .i64) z ((b+1:I):J) (tg a) (EM z a k Za λw5 v=>Ld.ax (s:=.int .i64) v ((2*c+x:I):J) (xy a) ?_));have hf:=Bf (l:=l) Za (b+1);have hm:=Ca (l:=l) Za (b+1);have R:(2:I)^(b+1)=2*2^b:=by{rw[Yu,Yj]};rw[ae Za];by_cases hcase:Srt.fst l (b+1)+many l (b+1)≤2*c+x;{refine aa.t (Xt Za) (Ld.arr v (cG a) (aA.ax v (cG a) (cG a) fw λS i=>Ld.arr i (cG a) ?_));have e:iD l c b x=((2*c+x,b+1),V):=by{unfold iD;rw[Xh hcase]};rw[e]at m;exact m _ i.drop.drop};{refine aa.f (Xq Za) ?_;have e:iD l c b x=((0,0),Z (Av l (b+1) (2*c+x-Srt.fst l (b+1)))):=by{unfold iD;rw[Xf hcase]};rw[e]at m;have T:=j.ge;have W:many l (b+1)=l.count (b+1):=by{unfold many;rw[Xf Za]};refine aC.mk v λS i=>?_;have q:=i;rw[gh l (2*c+x) (b+1)]at q;refine Ld.sub q O d (Ld.ax (s:=.int .i64) i ((b+1:I):J) (tg a) (Ld.ax (s:=.int .i64) i ((2*c+x:I):J) (xy a) ?_));rw[ae (x:=((2*c+x:I):J)-(Srt.fst l (b+1):J)) Za,show((2*c+x:I):J)-(Srt.fst l (b+1):J)=((2*c+x-Srt.fst l (b+1):I):J) by omega];constructor;{have g:=i.p1;rw[gh l c b]at g;refine Ld.sub g O d (c8.st0 a (abx i a k Za λX y=>?_));exact aA.ax y (cG a) (cG a) fw λY r=>Ld.arr r (cG a) (m _ r.drop.drop)};{refine abx i a k Za λX y=>?_;have g:=y.p1;rw[gh l c b]at g;refine Ld.sub g O d (c8.st0 a ?_);exact aA.ax y (cG a) (cG a) fw λY r=>Ld.arr r (cG a) (m _ r.drop.drop)}}
end
end
end Go.Proofs.Q9
namespace Go.Srt
section
def ny(l:Q I)(z:J):Xg:=K (0≤z)&&K (z<258)&&K (0<l.getD z.toNat 0)
def n9(l:Q I)(zs:Q J):Xg:=zs.all (ny l)
def mc(l:Q I)(zs:Q J):Q I:=enc l (zs.map J.toNat)
def wK{l:Q I}{z:J}:ny l z=H↔0≤z∧z<258∧0<l.getD z.toNat 0:=by simp[ny,and_assoc]
def GW{l:Q I}{zs:Q J}(h:n9 l zs=H){z:J}(a:z∈zs):ny l z=H:=List.all_eq_true.1 h z a
def Q4{l:Q I}{zs:Q J}{k:I}(a:k<zs.length)(h:ny l zs[k]=U):n9 l zs=U:=by cases ha:n9 l zs with|false=>rfl|true=>have:=GW ha (Zv a);rw[h]at this;cases this
def Ey{zs:Q J}{k:I}(a:k<zs.length):zs.take (k+1)=zs.take k++[zs[k]]:=by rw[ZC,Zh a];rfl
def QF{l:Q I}{zs:Q J}{k:I}(a:k<zs.length)(h:n9 l (zs.take k)=H)(b:ny l zs[k]=H):n9 l (zs.take (k+1))=H:=by unfold n9 at h⊢;rw[Ey a,Q.all_append,h];simp[b]
def Ee{l:Q I}{zs:Q J}{k:I}(a:k<zs.length):mc l (zs.take (k+1))=mc l (zs.take k)++Ce l zs[k].toNat:=by unfold mc;rw[Ey a,ZE,Wd];congr 1;simp[enc]
def Ig(l:Q I)(s:I):(Ce l s).length=l.getD s 0:=pI _ _
def oR{l:Q I}(a:bB l≤32768):∀zs:Q J,(mc l zs).length≤15*zs.length|[]=>by simp[mc,enc]|z::zs=>by have:=oR a zs;have b:=iE a z.toNat;unfold mc at this⊢;rw[ZT,zF,Zg,Ig,Zq];omega
end
end Go.Srt
namespace Go.Proofs.Q9
section
open Go Go.Vc Go.Srt Go.Bits
section
variable{E w:G}{F:Q HP}
theorem aaw{l:Q I}{s:Sl}{zs:Q J}{K:J→J→G→Prop}(h:Hp E w F)(y:l.length=258)(z:ad F (aH 1 s (zs.map vI)))(N:zs.length≤100000)(o:¬(bB l≤32768∧n9 l zs=H)→∀w',Hp E w' F→K 0 2 w')(t:bB l≤32768→n9 l zs=H→∀w',Hp E w' F→K ((mc l zs).length:J) 0 w'):Cl Zf [kI,kI] 217 ⟨[.agg (ai .u8 l),.slice s.base s.len s.cap]⟩ w K:=by refine C9.ok _ _ _ _ ?_;have u:=(h.an z).1;simp only[Zp,ZB]at u;refine Nw.mk h λb P d=>Ld.arr d (by rw[bm,y]) (zw d y λB A=>aa.mk (λe=>o (λa=>by simp[a.1]at e) B A.drop) λe=>?_);have e:bB l≤32768:=by{simpa using e};refine⟨λn i w'=>∃k:I,i=(k:J)∧k≤zs.length∧n=((mc l (zs.take k)).length:J)∧n9 l (zs.take k)=H∧Hp E w' (ag b (.cells (ai .u8 l) 172 (0,0))::F),λ_ i _=>zs.length-i.toNat,⟨0,O,Za,O,O,A⟩,?_⟩;rintro n i w' ⟨k,rfl,hk,rfl,hg,a⟩;refine aa.mk (λc=>?_) λf=>?_;{have c:k<zs.length:=by{have:=Xo c;omega};have g:ny l zs[k]=U→K 0 2 w':=λC=>o (λa=>by rw[Q4 c C]at a;exact Xu a.2 Zb) w' a.drop;refine ay.rd (a.an (ad.cons z)) Za Za λq R D=>Ld.sc (s:=.int .i64) zs[k] (by rw[D];simp[vI,Sc.enc]) ?_;refine aa.mk (λr=>g ?_) λr=>aa.mk (λd=>g ?_) λd=>?_;{have:=Xo r;unfold ny;rw[Xq (show¬0≤zs[k] by omega)];rfl};{have:=Xo d;unfold ny;rw[Xq (show¬zs[k]<258 by omega)];simp};have r:=Xm r;have d:=Xm d;obtain⟨m,L⟩:∃m:I,zs[k]=(m:J):=⟨zs[k].toNat,Za⟩;have j:zs[k].toNat=m:=by{omega};rw[L];refine aF.rd (s:=.int .u8) a Za Za (l.getD m 0:J) (GR Za) (aa.mk (λp=>g ?_) λp=>?_);{have:l.getD m 0=0:=by{rw[XA]at p;omega};unfold ny;rw[j,this];simp};have p:0<l.getD m 0:=by{have:=beq_eq_false_iff_ne.1 p;omega};refine aF.rd (s:=.int .u8) a Za Za (l.getD m 0:J) (GR Za) ?_;have M:=iE e m;have v:=oR e (zs.take k);rw[Zz]at v;rw[ae (x:=(l.getD m 0:J)) Za,ae (x:=((mc l (zs.take k)).length:J)+(l.getD m 0:J)) Za,ae Za];refine⟨⟨k+1,O,Za,?_,QF c hg (wK.2 ⟨Za,Za,by rw[j];exact p⟩),a⟩,by dsimp only;omega⟩;rw[Ee c,Zg,Ig,j];omega};{have f:k=zs.length:=by{have:=Xm f;omega};subst f;rw[Ye]at hg⊢;exact t e hg w' a.drop}
theorem ab1{l:Q I}{s:Sl}{zs:Q J}{b:I}{a:Q I}{K:J→G→Prop}(h:Hp E w (Wr b a::F))(g:l.length=258)(r:ad F (aH 1 s (zs.map vI)))(W:zs.length≤100000)(P:a.length≤100000000)(u:¬(bB l≤32768∧n9 l zs=H)→∀w',Hp E w' (Wr b a::F)→K 2 w')(v:bB l≤32768→n9 l zs=H→∀w',Hp E w' (Wr b (a++mc l zs)::F)→K 0 w'):Cl Zf [kI] 147 ⟨[.pointer (Z ⟨b,0,V⟩),.agg (ai .u8 l),.slice s.base s.len s.cap]⟩ w K:=by refine Fm.ok _ _ _ _ _ ?_;simp only[aZ];have y:=(h.an (ad.cons r)).1;simp only[Zp,ZB]at y;rw[Cv];refine Nw.mk h λX w1 R=>Ld.arr R (by rw[bm,g]) (aaw R g (ad.cons (ad.cons r)) W (λz S o=>?_) λj T S o=>?_);{exact aa.f O (aa.t Zb (u z S o.drop))};refine aa.f O (aa.f Zb (Ld.arr o (by rw[bm,g]) (UP o g (λz=>Xu j z) λ_ p w3 A Y=>?_)));refine Nw.mk Y λB w4 h4=>aA.ax h4 (by rw[bm];simp) (by rw[bm,eO]) nB λw5 h5=>?_;refine⟨λi w'=>∃k:I,i=(k:J)∧k≤zs.length∧Hp E w' (Wr b (a++mc l (zs.take k))::ag B (.cells (ai .u32 (eZ l p p.length)) 262 (0,0))::ag X (.cells (ai .u8 l) 172 (0,0))::F),λi _=>zs.length-i.toNat,⟨0,O,Za,?_⟩,?_⟩;{rw[YX];have e:mc l []=[]:=O;rw[e,ZF];exact h5.p2};rintro i w' ⟨k,rfl,hk,hh⟩;refine aa.mk (λc=>?_) λd=>?_;{have c:k<zs.length:=by{have:=Xo c;omega};refine ay.rd (hh.an (ad.cons (ad.cons (ad.cons r)))) Za Za λq hq hc=>Ld.sc (s:=.int .i64) zs[k] (by rw[hc];simp[vI,Sc.enc]) ?_;obtain⟨g1,g2,C⟩:=wK.1 (GW T (Zv c));obtain⟨m,hm⟩:∃m:I,zs[k]=(m:J):=⟨zs[k].toNat,Za⟩;have n:zs[k].toNat=m:=by{omega};rw[n]at C;rw[hm];refine aC.mk hh λw6 D=>?_;refine aF.rd (s:=.int .u32) D.p1 Za Za ((eZ l p p.length).getD m 0:J) (GR (by rw[eO];omega)) ?_;refine aF.rd (s:=.int .u8) D.p2 Za Za (l.getD m 0:J) (GR Za) ?_;have L:=iE j m;rw[ae (x:=(l.getD m 0:J)) Za,Ml g j A Za C,ae (x:=(k:J)+1) Za];have M:=Dh g j Za C;have hp:2^l.getD m 0≤2^15:=ZS Zb L;have hp2:(2:I)^15=32768:=by{decide};have N:=oR j (zs.take k);rw[Zz]at N;refine PD D Za M Za (by rw[Zg,aL];omega) λw7 h7=>⟨⟨k+1,Za,Za,?_⟩,by dsimp only;omega⟩;rw[Ee c,n,←Zn];exact h7};{have d:k=zs.length:=by{have:=Xm d;omega};subst d;rw[Ye]at hh;exact v j T w' (hh.p1.drop.p1.drop)}
end
end
end Go.Proofs.Q9
namespace Go.ag
section
open Go.Inc Go.Srt Go.Sym Go.Bits
structure CS where
 c:I
 n:I
 d:DS
 acc:Q I
def fR(l:Q I)(s:CS)(x:I):xk CS (Q I) I:=match dc l (2*s.c+x) (s.n+1)with|none=>.more ⟨2*s.c+x,s.n+1,s.d,s.acc⟩|some y=>match cm s.d y with|none=>.bad 160|some (_,t,true)=>.fin (s.acc++t)|some (a,t,false)=>.more ⟨0,0,a,s.acc++t⟩
def CA{l:Q I}{s:CS}{x:I}(h:dc l (2*s.c+x) (s.n+1)=V):fR l s x=.more ⟨2*s.c+x,s.n+1,s.d,s.acc⟩:=by unfold fR;rw[h]
def CW{l:Q I}{s:CS}{x y:I}(h:dc l (2*s.c+x) (s.n+1)=Z y):fR l s x=match cm s.d y with|none=>.bad 160|some (_,t,true)=>.fin (s.acc++t)|some (a,t,false)=>.more ⟨0,0,a,s.acc++t⟩:=by unfold fR;rw[h]
section
variable{l:Q I}
theorem Kp(g:l.length=258)(i:bB l≤32768){s:I}(j:ju l s)(a acc:Q I)(d:DS):∀k m,m+k=l.getD s 0→0<k→run (fR l) ⟨code l s/2^(l.getD s 0-m),m,d,acc⟩ ((bn (l.getD s 0) (code l s)).drop m++a)=(match cm d s with|none=>.bad 160|some (_,t,true)=>.fin (acc++t) a|some (q,t,false)=>run (fR l) ⟨0,0,q,acc++t⟩ a)|0,_,_,h=>Za|k+1,m,x,_=>by have u:=iE i s;have r:=pI (l.getD s 0) (code l s);have f:m<(bn (l.getD s 0) (code l s)).length:=Za;rw[Zw f,ZJ];have v:(bn (l.getD s 0) (code l s))[m]=code l s/2^(l.getD s 0-1-m)%2:=by{rw[←Bs _ _ _ Za,eF f]};have n:2*(code l s/2^(l.getD s 0-m))+(bn (l.getD s 0) (code l s))[m]=code l s/2^(l.getD s 0-(m+1)):=by{rw[v,show l.getD s 0-m=(l.getD s 0-1-m)+1 by omega,Yu,←I.div_div_eq_div_mul,show l.getD s 0-(m+1)=l.getD s 0-1-m by omega];omega};by_cases e:k=0;{subst e;have w:m+1=l.getD s 0:=by{omega};have o:dc l (2*(code l s/2^(l.getD s 0-m))+(bn (l.getD s 0) (code l s))[m]) (m+1)=Z s:=by{rw[n,w,I.sub_self,I.pow_zero,I.div_one,uA g j]};have c:=CW (s:=⟨code l s/2^(l.getD s 0-m),m,d,acc⟩) o;rw[cM,c,ZV Za,ZR];cases hd:cm d s with|none=>rfl|some p=>obtain⟨q,t,b⟩:=p;cases b<;>rfl};{have o:dc l (2*(code l s/2^(l.getD s 0-m))+(bn (l.getD s 0) (code l s))[m]) (m+1)=V:=by{rw[n,Eu g i j Za]};have c:=CA (s:=⟨code l s/2^(l.getD s 0-m),m,d,acc⟩) o;rw[dQ c];simp only;rw[n];exact Kp g i j a acc d k (m+1) Za Za}
theorem Wz(c:l.length=258)(e:bB l≤32768){s:I}(b:ju l s)(a acc:Q I)(d:DS):run (fR l) ⟨0,0,d,acc⟩ (Ce l s++a)=match cm d s with|none=>.bad 160|some (_,t,true)=>.fin (acc++t) a|some (f,t,false)=>run (fR l) ⟨0,0,f,acc++t⟩ a:=by have h:=Kp c e b a acc d (l.getD s 0) 0 Za b.2;have g:=Dh c e b.1 b.2;rw[YV,Y5 g,Yq]at h;exact h
theorem Pj(g:l.length=258)(i:bB l≤32768):∀(c a acc:Q I)(d:DS),(∀s∈c,ju l s)→run (fR l) ⟨0,0,d,acc⟩ (enc l c++a)=(match run jZ (d,acc) c with|.bad e=>.bad e|.fin t r=>.fin t (enc l r++a)|.short (f,acc')=>run (fR l) ⟨0,0,f,acc'⟩ a)|[],a,acc,d,_=>rfl|s::c,a,acc,d,h=>by rw[zF,Zn,Wz g i (h s Zd),cM];cases hd:cm d s with|none=>rw[Lp hd]|some p=>obtain⟨f,t,b⟩:=p;cases b with|true=>rw[Cw hd]|false=>rw[ur hd];exact Pj g i c a _ f λt j=>h t (by simp[j])
end
end
end Go.ag
namespace Go.Tab
section
open Go.Inc
structure TS where
 l:Q I
 bits:I
 now:I
 way:I
def t0:TS:=⟨[],0,0,0⟩
def bD(ok:Q I→Xg)(s:TS)(b:I):xk TS (Q I) I:=if s.bits<4 then .more ⟨s.l,s.bits+1,2*s.now+b,s.way⟩else if s.bits=4 then if b=0 then if s.l.length+1<258 then .more ⟨s.l++[s.now],4,s.now,0⟩else if ok (s.l++[s.now])then .fin (s.l++[s.now])else .bad 100 else .more ⟨s.l,5,s.now,s.way⟩else if b=0 then if s.way≠2∧s.now<15 then .more ⟨s.l,4,s.now+1,1⟩else .bad 100 else if s.way≠1∧0<s.now then .more ⟨s.l,4,s.now-1,2⟩else .bad 100
def qH:I→Q I|0=>[]|k+1=>1::0::qH k
def jq:I→Q I|0=>[]|k+1=>1::1::jq k
def eB(a b:I):Q I:=(if b<a then jq (a-b)else qH (b-a))++[0]
def eQ:I→Q I→Q I|_,[]=>[]|was,n::l=>eB was n++eQ n l
def four(n:I):Q I:=[n/8%2,n/4%2,n/2%2,n%2]
def fV(l:Q I):Q I:=four (l.headD 0)++eQ (l.headD 0) l
section
variable{ok:Q I→Xg}
theorem Kz:∀(k:I)(l:Q I)(a b:I)(r:Q I),b≠2→a+k≤15→∃c,run (bD ok) ⟨l,4,a,b⟩ (qH k++r)=run (bD ok) ⟨l,4,a+k,c⟩ r|0,l,a,b,r,_,_=>⟨b,O⟩|k+1,l,a,b,r,d,g=>by obtain⟨c,h⟩:=Kz k l (a+1) 1 r Zb Za;refine⟨c,?_⟩;have e:bD ok ⟨l,4,a,b⟩ 1=.more ⟨l,5,a,b⟩:=O;have f:bD ok ⟨l,5,a,b⟩ 0=.more ⟨l,4,a+1,1⟩:=by{simp only[bD];rw[Xf Zb,Xf Zb,Xh trivial,Xh ⟨d,Za⟩]};show run (bD ok) ⟨l,4,a,b⟩ (1::0::(qH k++r))=_;rw[dQ e,dQ f,h,show a+1+k=a+(k+1) by omega]
theorem D3:∀(k:I)(l:Q I)(a b:I)(r:Q I),b≠1→k≤a→∃c,run (bD ok) ⟨l,4,a,b⟩ (jq k++r)=run (bD ok) ⟨l,4,a-k,c⟩ r|0,l,a,b,r,_,_=>⟨b,O⟩|k+1,l,a,b,r,d,g=>by obtain⟨c,h⟩:=D3 k l (a-1) 2 r Zb Za;refine⟨c,?_⟩;have e:bD ok ⟨l,4,a,b⟩ 1=.more ⟨l,5,a,b⟩:=O;have f:bD ok ⟨l,5,a,b⟩ 1=.more ⟨l,4,a-1,2⟩:=by{simp only[bD];rw[Xf Zb,Xf Zb,Xf Zb,Xh ⟨d,Za⟩]};show run (bD ok) ⟨l,4,a,b⟩ (1::1::(jq k++r))=_;rw[dQ e,dQ f,h,show a-1-k=a-(k+1) by omega]
theorem Wn(l:Q I)(a n:I)(r:Q I)(c:a≤15)(d:n≤15):∃b,run (bD ok) ⟨l,4,a,0⟩ (eB a n++r)=run (bD ok) ⟨l,4,n,b⟩ (0::r):=by unfold eB;rw[Zn];split;{obtain⟨b,h⟩:=D3 (ok:=ok) (a-n) l a 0 ([0]++r) Zb Za;exact⟨b,by rw[h,show a-(a-n)=n by omega];rfl⟩};{obtain⟨b,h⟩:=Kz (ok:=ok) (n-a) l a 0 ([0]++r) Zb Za;exact⟨b,by rw[h,show a+(n-a)=n by omega];rfl⟩}
theorem Iv:∀(m:Q I)(l:Q I)(a:I)(r:Q I),m≠[]→a≤15→(∀x∈m,x≤15)→l.length+m.length=258→ok (l++m)=H→run (bD ok) ⟨l,4,a,0⟩ (eQ a m++r)=.fin (l++m) r|[],_,_,_,h,_,_,_,_=>Xu O h|n::m,l,a,r,_,hw,hm,hl,hok=>by rw[eQ,Zn];obtain⟨b,h⟩:=Wn (ok:=ok) l a n (eQ n m++r) hw (hm n ZK);rw[h];cases m with|nil=>refine Da ?_;simp only[Zq,ZN]at hl;simp only[bD];rw[Xf Zb,Xh trivial,Xh trivial,Xf Za,Xh hok]|cons x m=>simp only[Zq]at hl;have c:bD ok ⟨l,4,n,b⟩ 0=.more ⟨l++[n],4,n,0⟩:=by{simp only[bD];rw[Xf Zb,Xh trivial,Xh trivial,Xh Za]};rw[dQ c,Iv (x::m) (l++[n]) n r Zd (hm n ZK) (λy d=>hm y (Zy _ d)) Ze Ze,Zn];rfl
theorem DN{l:Q I}(r:Q I)(d:l.length=258)(b:∀x∈l,x≤15)(a:ok l=H):run (bD ok) t0 (fV l++r)=.fin l r:=by unfold fV;rw[Zn];have c:l.headD 0≤15:=by{cases l with|nil=>simp at d|cons x l=>exact b x ZK};have f:run (bD ok) t0 (four (l.headD 0)++(eQ (l.headD 0) l++r))=run (bD ok) ⟨[],4,l.headD 0,0⟩ (eQ (l.headD 0) l++r):=by{generalize l.headD 0=n at c⊢;have e:2*(2*(2*(2*0+n/8%2)+n/4%2)+n/2%2)+n%2=n:=by{omega};show run (bD ok) ⟨[],4,2*(2*(2*(2*0+n/8%2)+n/4%2)+n/2%2)+n%2,0⟩ _=_;rw[e];rfl};rw[f];exact Iv l [] (l.headD 0) r Ze c b Ze a
end
end
end Go.Tab
namespace Go.ag
section
open Go.Inc Go.Srt Go.Sym Go.Bits Go.Tab Go.Hd Go.Crc Go.Bw
def bj(b:Q I):Q I:=bitsOf b (8*b.length)
def ct(b:Q I):(bj b).length=8*b.length:=Mt _ _
def ra(a b:Q I):bj (a++b)=bj a++bj b:=by unfold bj bitsOf;rw[Zg,I.mul_add,Q.range_add,ZE];congr 1;{refine Z2 λi c=>?_;rw[Y9]at c;unfold cf;rw[YF,YF,ZM Za]};{rw[YH];refine Z2 λi c=>?_;simp only[Function.comp];unfold cf;rw[YF,YF,ZI Za,show(8*a.length+i)/8-a.length=i/8 by omega,show(8*a.length+i)%8=i%8 by omega]}
def fN(b:Q I):I:=8*((b.length+7)/8)-b.length
def Cg(b:Q I):fN b<8:=by unfold fN;omega
def xn{b:Q I}(h:Bits b):bj (pack b)=b++Zj (fN b) 0:=by unfold bj bitsOf fN;rw[mL];refine YR λi=>?_;rw[ZZ];by_cases hi:i<8*((b.length+7)/8);{rw[Yy hi,YB];unfold pack;rw[Hm h hi];by_cases hb:i<b.length;{grind};{grind}};{grind}
def body(l a:Q I):Q I:=fV l++enc l (syms a)
def lW(l x:Q I):Q I:=lf x.length (bJ x.reverse) (bS x)++pack (body l (aU x.reverse))
def mz(left:Q I):Xg:=(left.take (left.length%8)).all (·==0)
def mU(M:I)(a:Q I):Except I (Q I×Q I):=match run (bD dM) t0 a with|.short _=>.error 50|.bad e=>.error e|.fin l more=>match run (fR l) ⟨0,0,⟨Zs 256,M,0,0⟩,[]⟩ more with|.short _=>.error 50|.bad e=>.error e|.fin last left=>.ok (last,left)
def cO(P b:I)(a:Q I):Except I (Q I):=if okB a P then(if bS (dG a P).reverse=b then .ok (dG a P).reverse else .error 250)else .error 170
def dp(n:I)(b:Q I):Except I (Q I×Q I):=match run (aP n) dX b with|.short _=>.error 50|.bad e=>.error e|.fin (.tail _) _=>.error 242|.fin (.ax M P sum) rest=>match mU M (bj rest)with|.error e=>.error e|.ok (last,left)=>if mz left then(match cO P sum last with|.error e=>.error e|.ok x=>.ok (x,rest.drop (rest.length-left.length/8)))else .error 160
def Ge:∀k,Bits (qH k)|0=>(λx a=>by cases a)|k+1=>λx a=>by(rcases List.mem_cons.1 a with h|h);{omega};{(rcases List.mem_cons.1 h with h|h);{omega};{exact Ge k x h}}
def AT:∀k,Bits (jq k)|0=>(λx a=>by cases a)|k+1=>λx a=>by(rcases List.mem_cons.1 a with h|h);{omega};{(rcases List.mem_cons.1 h with h|h);{omega};{exact AT k x h}}
def RE(a b:I):Bits (eB a b):=by unfold eB;refine Bits.app ?_ (λx c=>by rw[ZL]at c;omega);split;{exact AT _};{exact Ge _}
def EF:∀(m:Q I)(a:I),Bits (eQ a m)|[],_=>(λx b=>by cases b)|n::m,a=>Bits.app (RE a n) (EF m n)
def Ew(l:Q I):Bits (fV l):=Bits.app (λx a=>by simp[four]at a;omega) (EF _ _)
def wz(l a:Q I):Bits (body l a):=Bits.app (Ew l) (SY _ _)
section
variable{l:Q I}
structure pQ (l last:Q I):Prop where
 len:l.length=258
 ok:dM l=H
 good:∀s∈syms last,ju l s
theorem pQ.v{a:Q I}(h:pQ l a):bB l≤32768:=by rw[(oP.1 h.ok).1];decide
theorem Bi(h:dM l=H):∀x∈l,x≤15:=λx a=>by obtain⟨i,b,rfl⟩:=List.mem_iff_getElem.1 a;have:=iE (l:=l) (by rw[(oP.1 h).1];decide) i;rwa [eF b]at this
theorem Us{a:Q I}(b:pQ l a)(c:∀x∈a,x<256)(r:Q I):run (fR l) ⟨0,0,⟨Zs 256,a.length,0,0⟩,[]⟩ (enc l (syms a)++r)=.fin a r:=by rw[Pj b.len b.v _ _ _ _ b.good];have:=Dr c [];rw[ZF]at this;rw[this];simp[enc]
theorem Qj{a:Q I}(b:pQ l a)(c:∀x∈a,x<256)(r:Q I):mU a.length (body l a++r)=.ok (a,r):=by unfold mU body;rw[Zn,DN _ b.len (Bi b.ok) b.ok];simp only;rw[Us b c]
theorem JB{n M P b:I}(c:0<M)(d:M≤n)(f:0<P)(g:P≤M)(h:b<4294967296)(a:Q I):dp n (lf M P b++a)=match mU M (bj a)with|.error e=>.error e|.ok (last,left)=>if mz left then(match cO P b last with|.error e=>.error e|.ok x=>.ok (x,a.drop (a.length-left.length/8)))else .error 160:=by unfold dp;rw[vD c d f g h]
theorem Em(b:Q I)(z:Q I):mz (Zj (fN b) 0++bj z)=H:=by unfold mz;have:=Cg b;rw[Zg,ZX,ct,show(fN b+8*z.length)%8=fN b by omega,Q.take_append_of_le_length Zd,Zu Zd];simp
theorem Jb{n P sum:I}{a:Q I}(b:pQ l a)(c:∀x∈a,x<256)(d:0<a.length)(f:a.length≤n)(g:0<P)(h:P≤a.length)(i:sum<4294967296)(z:Q I):dp n (lf a.length P sum++pack (body l a)++z)=match cO P sum a with|.error e=>.error e|.ok x=>.ok (x,z):=by rw[Zn,JB d f g h i,ra,xn (wz _ _),Zn,Qj b c];simp only;rw[Xh (Em _ z)];have:=Cg (body l a);have e:(pack (body l a)++z).drop ((pack (body l a)++z).length-(Zj (fN (body l a)) 0++bj z).length/8)=z:=by{rw[Zg,Zg,ZX,ct,show(fN (body l a)+8*z.length)/8=z.length by omega,I.add_sub_cancel,Q.drop_left]};rw[e]
theorem rF{t:Q I}(h:0<t.length):0<bJ t∧bJ t≤t.length:=by refine⟨?_,mS t⟩;(rcases Z6 (bJ t)with e|e);{have:=rZ (t:=t) (i:=0) (k:=t.length) Za Za (by rw[Km];exact e);omega};{exact e}
theorem J4(x:Q I):cO (bJ x.reverse) (bS x) (aU x.reverse)=.ok x:=by obtain⟨a,b⟩:=Pz x.reverse;unfold cO;rw[Xh a,b,Q.reverse_reverse,Xh O]
theorem Ns{n:I}{x:Q I}(b:pQ l (aU x.reverse))(c:∀y∈aU x.reverse,y<256)(d:∀y∈x,y<256)(f:0<x.length)(g:x.length≤n)(z:Q I):dp n (lW l x++z)=.ok (x,z):=by have e:(aU x.reverse).length=x.length:=by{rw[dh,Z3]};have a:=rF (t:=x.reverse) Ze;rw[Z3]at a;have:=Jb (n:=n) (P:=bJ x.reverse) (sum:=bS x) b c Za Za a.1 Za (kq d) z;rw[e,J4]at this;exact this
end
end
end Go.ag
namespace Go.Stm
section
open Go.Inc Go.Srt Go.Sym Go.Bits Go.Tab Go.Hd Go.Crc Go.Bw Go.ag
def qS(n:I)(x:Q I):Q (Q I):=if _h:x=[]∨n=0 then[]else x.take n::qS n (x.drop n)
termination_by x.length
decreasing_by have a:x≠[]:=λe=>_h (.inl e);have b:n≠0:=λe=>_h (.inr e);have:=List.length_pos_iff.2 a;rw[ZA];omega
def bG(n:I)(a:Q (Q I)):Q (Q I):=a.flatMap (qS n)
def uF(n:I):qS n []=[]:=by rw[qS];simp
def zr{n:I}{x:Q I}(h:x≠[])(a:0<n):qS n x=x.take n::qS n (x.drop n):=by rw[qS,dif_neg Ze]
def O6{n:I}(a:0<n)(x:Q I):(qS n x).flatten=x:=by induction hk:x.length using ZU generalizing x with|ind k b=>by_cases h:x=[];{rw[h,uF];rfl};{have:=List.length_pos_iff.2 h;rw[zr h a,Yb,b (x.drop n).length Ze (x.drop n) O,Zt]}
def SU{n:I}(b:0<n)(x:Q I):∀y∈qS n x,0<y.length∧y.length≤n∧∀c∈y,c∈x:=by induction hk:x.length using ZU generalizing x with|ind k d=>by_cases h:x=[];{rw[h,uF];intro y a;cases a};{have:=List.length_pos_iff.2 h;rw[zr h b];intro y a;(rcases List.mem_cons.1 a with h|h);{grind};{grind}}
def qP{n:I}(b:0<n)(a:Q (Q I)):(bG n a).flatten=a.flatten:=by induction a with|nil=>rfl|cons x l c=>rw[bG,Yg,Q.flatten_append,O6 b,Yb];exact Xp _ c
def Gp{n:I}(d:0<n){a:Q (Q I)}:∀y∈bG n a,0<y.length∧y.length≤n∧∀c∈y,c∈a.flatten:=by intro y b;obtain⟨x,e,b⟩:=List.mem_flatMap.1 b;obtain⟨f,g,h⟩:=SU d x y b;exact⟨f,g,λc i=>List.mem_flatten.2 ⟨x,e,h c i⟩⟩
section
variable(L:Q I→Q I)
def ob(x:Q I):Q I:=lW (L x) x
def blocks(l:Q (Q I)):Q I:=l.flatMap (ob L)
def dS(n:I)(a:Q (Q I)):Q I:=pV n++(blocks L (bG n a)++ij (bS a.flatten))
def eA:Prop:=∀x:Q I,0<x.length→(∀c∈x,c<256)→pQ (L x) (aU x.reverse)
end
def gv(n:I):I→Q I→Q (Q I)→Q (Q I)×I|0,_,acc=>(acc,50)|k+1,b,acc=>match run (aP n) dX b with|.short _=>(acc,50)|.bad e=>(acc,e)|.fin (.tail s) rest=>(acc,if s≠bS acc.flatten then 260 else if rest≠[]then 261 else 0)|.fin (.ax _ _ _) _=>match dp n b with|.error e=>(acc,e)|.ok (x,behind)=>gv n k behind (acc++[x])
def l8(c:Q I):Q (Q I)×I:=match run bu ⟨0,0⟩ c with|.short _=>([],50)|.bad e=>([],e)|.fin n rest=>gv n (rest.length+1) rest []
def DV{n:I}{b d:Q I}{m:Mk}(h:run (aP n) dX b=.fin m d):d.length<b.length:=by obtain⟨a,c,f,e,_,_⟩:=qz h;rw[e];simp;omega
def ri{n:I}{b x a:Q I}(h:dp n b=.ok (x,a)):a.length<b.length:=by unfold dp at h;cases hr:run (aP n) dX b with|short s=>(rw[hr]at h;cases h)|bad e=>(rw[hr]at h;cases h)|fin m r=>have c:=DV hr;rw[hr]at h;cases m with|tail s=>(cases h)|ax M P s=>simp only at h;cases hc:mU M (bj r)with|error e=>(rw[hc]at h;cases h)|ok p=>rw[hc]at h;simp only at h;split at h;{grind};{cases h}
def Dq(n:I):∀(k m:I)(b:Q I)(acc:Q (Q I)),b.length<k→b.length<m→gv n k b acc=gv n m b acc|0,_,_,_,h,_=>Za|_,0,_,_,_,h=>Za|k+1,m+1,b,acc,a,c=>by unfold gv;cases run (aP n) dX b with|short s=>rfl|bad e=>rfl|fin mk r=>cases mk with|tail s=>rfl|ax M P s=>simp only;cases hu:dp n b with|error e=>rfl|ok p=>have:=ri hu;exact Dq n k m p.2 _ Za Za
def nh(n:I)(b:Q I)(acc:Q (Q I)):Q (Q I)×I:=gv n (b.length+1) b acc
def F6(n:I)(b:Q I)(acc:Q (Q I)):nh n b acc=match run (aP n) dX b with|.short _=>(acc,50)|.bad e=>(acc,e)|.fin (.tail s) rest=>(acc,if s≠bS acc.flatten then 260 else if rest≠[]then 261 else 0)|.fin (.ax _ _ _) _=>match dp n b with|.error e=>(acc,e)|.ok (x,behind)=>nh n behind (acc++[x]):=by unfold nh;rw[gv];cases run (aP n) dX b with|short s=>rfl|bad e=>rfl|fin mk r=>cases mk with|tail s=>rfl|ax M P s=>simp only;cases hu:dp n b with|error e=>rfl|ok p=>have:=ri hu;exact Dq n _ _ p.2 _ Za Za
def Rn(c:Q I):l8 c=match run bu ⟨0,0⟩ c with|.short _=>([],50)|.bad e=>([],e)|.fin n rest=>nh n rest []:=O
section
variable{L:Q I→Q I}{n:I}
theorem PB(f:eA L){x:Q I}(a:0<x.length)(e:x.length≤n)(b:∀c∈x,c<256)(g:∀y∈aU x.reverse,y<256)(r:Q I)(acc:Q (Q I)):nh n (ob L x++r) acc=nh n r (acc++[x]):=by have d:=rF (t:=x.reverse) Ze;rw[Z3]at d;rw[F6];have h:run (aP n) dX (ob L x++r)=.fin (.ax x.length (bJ x.reverse) (bS x)) (pack (body (L x) (aU x.reverse))++r):=by{unfold ob lW;rw[Zn,vD a e d.1 d.2 (kq b)]};rw[h];simp only;have:=Ns (n:=n) (f x a b) g b a e r;unfold ob;rw[this]
theorem vZ(a:eA L)(b:∀x:Q I,(∀c∈x,c<256)→∀y∈aU x.reverse,y<256):∀(l:Q (Q I))(r:Q I)(acc:Q (Q I)),(∀x∈l,0<x.length∧x.length≤n∧∀c∈x,c<256)→nh n (blocks L l++r) acc=nh n r (acc++l)|[],r,acc,_=>by simp[blocks]|x::l,r,acc,h=>by obtain⟨e,f,d⟩:=h x ZK;rw[blocks,Yg,Zn,PB a e f d (b x d)];have:=vZ a b l r (acc++[x]) λy g=>h y (Zy _ g);unfold blocks at this;rw[this,Zn];rfl
theorem Oa{s:I}(a:s<4294967296)(r:Q I)(acc:Q (Q I)):nh n (ij s++r) acc=(acc,if s≠bS acc.flatten then 260 else if r≠[]then 261 else 0):=by rw[F6,DB a]
theorem Nc{x:Q I}(a:∀c∈x,c<256):∀y∈aU x.reverse,y<256:=xE λy b=>a y (List.mem_reverse.1 b)
theorem mQ(b:0<n){a:Q (Q I)}(d:∀c∈a.flatten,c<256):∀x∈bG n a,0<x.length∧x.length≤n∧∀c∈x,c<256:=λx e=>by obtain⟨f,g,h⟩:=Gp b x e;exact⟨f,g,λc i=>d c (h c i)⟩
theorem Oo(b:eA L)(d:0<n)(a:n≤65536){l:Q (Q I)}(e:∀x∈l,0<x.length∧x.length≤n∧∀c∈x,c<256)(r:Q I):l8 (pV n++(blocks L l++r))=nh n r l:=by rw[Rn,Pl d a];simp only;rw[vZ b (λx f=>Nc f) l r [] e];rfl
theorem N3(e:eA L)(a:0<n)(b:n≤65536){parts:Q (Q I)}(d:∀c∈parts.flatten,c<256)(r:Q I):l8 (dS L n parts++r)=(bG n parts,if r≠[]then 261 else 0):=by unfold dS;rw[Zn,Zn,Oo e a b (mQ a d),Oa (kq d),qP a];simp
end
end
end Go.Stm
namespace Go.Vc
section
open Go
def aT(t:Q J):Xi Xe:=⟨t.map vI⟩
def fD{t:Q J}:(aT t).size=t.length:=by simp[aT]
def Ix{t:Q J}{i:I}(h:i<t.length):(aT t)[i]?=Z (Sc.enc (.int .i64) (t.getD i 0)):=by simp[aT,h,vI,YF]
def lg{t:Q J}:∀v∈(aT t).toList,aD v=H:=by intro v a;simp only[aT,Q.mem_map]at a;obtain⟨x,_,rfl⟩:=a;rfl
def abM{t:Q J}{i:I}{x:J}:(aT t).setIfInBounds i (.int .i64 x)=aT (t.set i x):=by unfold aT;apply Xi.ext';simp[Q.map_set,vI]
def LD{n:I}:(⟨Zj n (.int .i64 0)⟩:Xi Xe)=aT (Zj n 0):=by unfold aT;simp[vI]
def BE.aT{n:I}{a b:Q J}{K:Xg→Prop}(c:a.length=n)(d:b.length=n)(h:K (a==b)):BE .i64 n (aT a) (aT b) K:=⟨a,b,O,O,c,d,h⟩
def Re{l:Q J}{i j:I}{x:J}(a:i<l.length):(l.set i x).getD j 0=if j=i then x else l.getD j 0:=Ze
section
variable{E w:G}{F:Q HP}
theorem aF.aT{b n:I}{t:Q J}{a:Xn}{c:I×I}{i:J}{j:I}{K:J→Prop}(h:Hp E w (ag b (.cells (Vc.aT t) a c)::F))(d:i=(j:J))(f:t.length=n)(g:j<n)(e:K (t.getD j 0)):aF ⟨b,0,V⟩ n i 1 λq=>Ld kI q w K:=by subst d;exact aF.rd (s:=.int .i64) h Za Za _ (by rw[Zm];exact Ix Za) e
theorem aF.acT{b n:I}{t:Q J}{a:Xn}{i:J}{j:I}{v:J}{K:G→Prop}(h:Hp E w (ag b (.cells (Vc.aT t) a (0,0))::F))(c:i=(j:J))(d:t.length=n)(f:j<n)(e:∀w',Hp E w' (ag b (.cells (Vc.aT (t.set j v)) a (0,0))::F)→K w'):aF ⟨b,0,V⟩ n i 1 λq=>St q (.int .i64 v) w K:=by subst c;exact aF.wr h Za Za (by rw[fD,d]) O (by rw[Zm,abM];exact e)
theorem fq.aT{n:I}{t:Q J}{i:J}{j:I}{K:J→Prop}(a:i=(j:J))(c:t.length=n)(d:j<n)(b:K (t.getD j 0)):fq (.int .i64) (Vc.aT t) n i K:=by subst a;exact fq.rd (s:=.int .i64) Za Za _ (by rw[Zm];exact Ix Za) b
theorem ay.nI{s:Sl}{zs:Q J}{i:J}{j:I}{K:J→Prop}(a:aH 1 s (zs.map vI) w)(b:i=(j:J))(c:j<zs.length)(d:K (zs.getD j 0)):ay s i 1 λq=>Ld kI q w K:=by subst b;have e:=a.1;simp only[Zp,ZB]at e;refine ay.rd a Za Za λp g f=>Ld.sc (s:=.int .i64) _ ?_ d;rw[f];simp[vI,YF,c]
theorem ay.ad0{s:Sl}{a:Q I}{i:J}{j x:I}{K:G→Prop}(b:Hp E w (ao 1 s (a.map vB)::F))(d:i=(j:J))(f:j<a.length)(h:∀w',Hp E w' (ao 1 s ((a.set j x).map vB)::F)→K w'):ay s i 1 λq=>St q (.int .u8 (x:J)) w K:=by subst d;have e:=b.aS;rw[Zp,ZB]at e;refine St.own b Za Za O λw' c=>h w' ?_;rw[Zm]at c;rw[Q.map_set];exact c
end
end
end Go.Vc
namespace Go.Hs
section
open Go Go.Vc
def ch(t:Q J):Xg:=t.all λx=>decide (0≤x)&&K (x≤2147483647)
def kc{t:Q J}:ch t=H↔∀i,i<t.length→0≤t.getD i 0∧t.getD i 0≤2147483647:=by unfold ch;rw[Q.all_eq_true];constructor;{intro h i a;have:=h t[i] (Zv a);simpa[YF,a]using this};{intro h x b;obtain⟨i,a,rfl⟩:=ZY b;simpa[YF,a]using h i a}
def Ta{t:Q J}{i:I}(a:i<t.length)(h:¬(0≤t.getD i 0∧t.getD i 0≤2147483647)):ch t=U:=by cases hv:ch t with|false=>rfl|true=>exact Xu (kc.1 hv i a) h
def od(z:J):Xg:=K (0≤z)&&K (z<258)
def sC{z:J}:od z=H↔0≤z∧z<258:=by simp[od]
def inc(t:Q J)(z:J):Q J:=t.set z.toNat (t.getD z.toNat 0+1)
def iU(t:Q J)(zs:Q J):Q J:=zs.foldl inc t
def Db(t:Q J)(z:J):(inc t z).length=t.length:=Q.length_set ..
def sD:∀(zs t:Q J),(iU t zs).length=t.length|[],_=>rfl|z::zs,t=>by show(iU (inc t z) zs).length=_;rw[sD zs,Db]
def HA(t zs:Q J)(z:J):iU t (zs++[z])=inc (iU t zs) z:=by simp[iU]
def LK{t:Q J}{z:J}(a:od z=H)(b:t.length=258)(i:I):(inc t z).getD i 0=t.getD i 0+if z=(i:J)then 1 else 0:=by rw[sC]at a;unfold inc;rw[Re Za];by_cases h:z=(i:J);{grind};{grind}
def ya:∀{zs t:Q J},zs.all od=H→t.length=258→∀i:I,(iU t zs).getD i 0=t.getD i 0+(zs.count (i:J):J)|[],t,_,_,i=>by simp[iU]|z::zs,t,h,ht,i=>by rw[Q.all_cons,ZG]at h;show(iU (inc t z) zs).getD i 0=_;rw[ya h.2 (by rw[Db,ht]),LK h.1 ht,Q.count_cons];by_cases e:z=(i:J);{rw[Xh e,Xh (by simp[e])];omega};{rw[Xf e,Xf (by simp[e])];omega}
def iP(t zs:Q J):Xj (Q J):=if ch t&&zs.all od&&ch (iU t zs)then Z (iU t zs)else V
def erO(o:Xj (Q J)):J:=if o.isSome then 0 else 2
def HG{t zs:Q J}(h:ch t=U):iP t zs=V:=by simp[iP,h]
def RF{t zs:Q J}{k:I}(a:k<zs.length)(h:od (zs.getD k 0)=U):iP t zs=V:=by unfold iP;rw[Xf];intro b;simp only[ZG]at b;have:=List.all_eq_true.1 b.1.2 zs[k] (Zv a);simp[YF,a,this]at h
def kD(zs:Q J)(z:J)(k:I):(zs.take k).count z≤zs.count z:=by have:zs.count z=(zs.take k).count z+(zs.drop k).count z:=by{rw[←Q.count_append,Zt]};omega
def PO{t zs:Q J}{k:I}(b:t.length=258)(c:k<zs.length)(f:(zs.take k).all od=H)(g:od (zs.getD k 0)=H)(h:2147483647≤(iU t (zs.take k)).getD (zs.getD k 0).toNat 0):iP t zs=V:=by unfold iP;rw[Xf];intro a;simp only[ZG]at a;have i:=sC.1 g;have d:=kc.1 a.2 (zs.getD k 0).toNat (by rw[sD];omega);rw[ya a.1.2 b]at d;rw[ya f b]at h;have e:(((zs.getD k 0).toNat:I):J)=zs.getD k 0:=Za;rw[e]at d h;have j:=kD zs (zs.getD k 0) (k+1);have l:(zs.take (k+1)).count (zs.getD k 0)=(zs.take k).count (zs.getD k 0)+1:=by{rw[ZC,Zh c,Q.count_append];simp[YF,c]};omega
def tP{zs:Q J}{k:I}(a:k<zs.length):zs.take (k+1)=zs.take k++[zs.getD k 0]:=by rw[ZC,Zh a];simp[YF,a]
def GG{t zs:Q J}(a:ch t=H)(b:zs.all od=H)(c:ch (iU t zs)=H):iP t zs=Z (iU t zs):=by simp[iP,a,b,c]
def Pp{t zs u:Q J}(h:iP t zs=Z u):ch t=H∧zs.all od=H∧u=iU t zs∧ch u=H:=by unfold iP at h;split at h;{grind};{cases h}
end
end Go.Hs
namespace Go.Proofs.Q9
section
open Go Go.Vc
set_option maxRecDepth 100000
def ui.ok(a:(Xi Xe))(b:J)(R:(Xi Xe)→J→G→Prop) w(h:Nw 237 a w λd c=>Nw 172 ⟨Zj 258 (.int .u8 0)⟩ c λf e=>Ld (.arr 258) ⟨d,0,V⟩ e λg=>Cl Pg [kS] 211 ⟨[(.agg g)]⟩ e λ(i:Sl) h=>aK (λ(P:G)=>aa ((i.len:J)==1) (ay i 0 1 λb1=>Ld kI b1 P λ(c1:J)=>aF ⟨f,0,V⟩ 258 c1 1 λd1=>St d1 (.int .u8 1) P λW=>Ld (.arr 258) ⟨f,0,V⟩ W λf1=>aA 258 ⟨f,0,V⟩ f1 W λX=>Ld (.arr 258) ⟨f,0,V⟩ X λh1=>R h1 0 X) (Ld (.arr 258) ⟨d,0,V⟩ P λi1=>Cl Pg [kS] 213 ⟨[(.agg i1),(ah i)]⟩ P λ(k1:Sl) j1=>Nw 304 ⟨[(ah k1)]⟩ j1 λm1 l1=>dn (⟨Z ⟨m1,0,V⟩,1,1⟩:Sl) 1 l1 λn1 Y(F:Sl)(I:J) S=>aa (K (I<b)) (dw S λL t1=>ay F 0 1 λu1=>aw kS u1 L λ(v1:Sl)=>ay F (i64 (I-1)) 1 λx1=>aw kS x1 L λ(y1:Sl)=>Cl Pg [kS] 214 ⟨[(ah v1),(ah y1)]⟩ t1 λ(a2:Sl) z1=>L z1∧Nw 304 ⟨[(ah a2)]⟩ z1 λc2 b2=>L b2∧ar Pg (ZD #[306,306] 306 ⟨[(ah F),(ah (⟨Z ⟨c2,0,V⟩,1,1⟩:Sl))]⟩) kS b2 λ(e2:Sl) T=>L T∧n1 e2 (i64 (I+1)) T∧Y e2 (i64 (I+1)) T<Y F I S) (dn (i64 ((i64 ((2:J)*(i.len:J)))-2)) (i64 (b-1)) S λf2 g2(M:J)(N:J) C=>aK (λ(r2:G)=>ay F N 1 λs2=>Ld kS s2 r2 λ(t2:Sl)=>cj t2 0 M (t2).cap 2 λu2=>dn 0 0 r2 λv2 Q(A:J)(B:J) D=>aa (K (B<(u2.len:J))) (ay u2 B 2 λb3=>Ld (.st [.int .i64,.bool]) b3 D λc3=>Nw 309 ⟨[(ni 0),(.bool U)]⟩ D λe3 d3=>ak ⟨e3,0,V⟩ [(ni c3.1),(.bool c3.2.1)] 0 d3 λE=>Ld kB (Zl ⟨e3,0,V⟩ 1) E λ(g3:Xg)=>aa g3 (ay i A 1 λh3=>Ld kI h3 E λ(i3:J)=>aF ⟨f,0,V⟩ 258 i3 1 λj3=>Ld (av .u8) j3 E λ(k3:J)=>aF ⟨f,0,V⟩ 258 i3 1 λl3=>St l3 (.int .u8 (u8 (k3+1))) E λm3=>v2 (i64 (A+1)) (i64 (B+1)) m3∧Q (i64 (A+1)) (i64 (B+1)) m3<Q A B D) (v2 A (i64 (B+1)) E∧Q A (i64 (B+1)) E<Q A B D)) (f2 (i64 ((2:J)*(i64 (M-A)))) (i64 (N-1)) D∧g2 (i64 ((2:J)*(i64 (M-A)))) (i64 (N-1)) D<g2 M N C)) λk2=>aa (K (N≥0)) (aa (K (M>0)) (k2 C) (Ld (.arr 258) ⟨f,0,V⟩ C λl2=>aA 258 ⟨f,0,V⟩ l2 C λm2=>Ld (.arr 258) ⟨f,0,V⟩ m2 λn2=>R n2 0 m2)) (Ld (.arr 258) ⟨f,0,V⟩ C λo2=>aA 258 ⟨f,0,V⟩ o2 C λp2=>Ld (.arr 258) ⟨f,0,V⟩ p2 λq2=>R q2 0 p2)))) λj=>Ld (.arr 258) ⟨d,0,V⟩ h λk=>Cl Pg [kB] 212 ⟨[(.agg k)]⟩ h λ(m:Xg) l=>aa (! m) (Ld (.arr 258) ⟨f,0,V⟩ l λn=>aA 258 ⟨f,0,V⟩ n l λo=>Ld (.arr 258) ⟨f,0,V⟩ o λp=>R p 2 o) (aa (K (b<1)) (Ld (.arr 258) ⟨f,0,V⟩ l λq=>aA 258 ⟨f,0,V⟩ q l λr=>Ld (.arr 258) ⟨f,0,V⟩ r λs=>R s 2 r) (aa (K (b>15)) (Ld (.arr 258) ⟨f,0,V⟩ l λt=>aA 258 ⟨f,0,V⟩ t l λu=>Ld (.arr 258) ⟨f,0,V⟩ u λv=>R v 2 u) (0≤(u64 b)∧aa (K ((i.len:J)>(br .i64 (1:J) (u64 b)))) (Ld (.arr 258) ⟨f,0,V⟩ l λx=>aA 258 ⟨f,0,V⟩ x l λy=>Ld (.arr 258) ⟨f,0,V⟩ y λz=>R z 2 y) (j l))))):Cl Pg [(.arr 258),kI] 144 ⟨[(.agg a),(ni b)]⟩ w R:=co Tryz.f144 [(4,[]),(21,[(7,kS),(8,kI)]),(33,[(9,kI),(10,kI)]),(34,[]),(43,[(11,kI),(86,kI)])] h
def wu.ok(a:(Xi Xe))(R:Sl→G→Prop) w(h:Nw 237 a w λc b=>Ld (.arr 258) ⟨c,0,V⟩ b λd=>Cl Pg [kB] 212 ⟨[(.agg d)]⟩ b λ(f:Xg) e=>aa (! f) (R (⟨V,0,0⟩:Sl) e) (Ld (.arr 258) ⟨c,0,V⟩ e λg=>dn (⟨V,0,0⟩:Sl) 0 e λh i(j:Sl)(k:J) l=>aa (K (k<258)) (fq (.int .i64) g 258 k λ(m:J)=>aa (K (m>0)) (Nw 3 ⟨[(ni k)]⟩ l λo n=>ar Pg (ZD #[25,25] 25 ⟨[(ah j),(ah (⟨Z ⟨o,0,V⟩,1,1⟩:Sl))]⟩) kS n λ(q:Sl) p=>h q (i64 (k+1)) p∧i q (i64 (k+1)) p<i j k l) (h j (i64 (k+1)) l∧i j (i64 (k+1)) l<i j k l)) (Cl Pg [] 287 ⟨[(ah j),(.func (.func 288) ⟨[]⟩ ⟨[(.pointer (Z ⟨c,0,V⟩))]⟩)]⟩ l λr=>R j r))):Cl Pg [kS] 211 ⟨[(.agg a)]⟩ w R:=co Tryz.f211 [(10,[(2,kS),(9,kI)])] h
def wv.ok(a:(Xi Xe))(R:Xg→G→Prop) w(h:Nw 237 a w λc b=>cj (⟨Z ⟨c,0,V⟩,258,258⟩:Sl) 0 258 258 1 λd=>Cl Pg [kB] 61 ⟨[(ah d),(.func (.func 289) ⟨[]⟩ ⟨[]⟩)]⟩ b λ(f:Xg) e=>R (! f) e):Cl Pg [kB] 212 ⟨[(.agg a)]⟩ w R:=co Tryz.f212 [] h
def vk.ok(a:(Xi Xe))(b:Sl)(R:Sl→G→Prop) w(h:Nw 237 a w λd c=>dn (⟨V,0,0⟩:Sl) 0 c λe f(g:Sl)(h:J) i=>aa (K (h<(b.len:J))) (ay b h 1 λj=>Ld kI j i λ(k:J)=>aF ⟨d,0,V⟩ 258 k 1 λl=>Ld kI l i λ(m:J)=>Nw 309 ⟨[(ni m),(.bool H)]⟩ i λo n=>ar Pg (ZD #[304,304] 304 ⟨[(ah g),(ah (⟨Z ⟨o,0,V⟩,1,1⟩:Sl))]⟩) kS n λ(q:Sl) p=>e q (i64 (h+1)) p∧f q (i64 (h+1)) p<f g h i) (R g i)):Cl Pg [kS] 213 ⟨[(.agg a),(ah b)]⟩ w R:=co Tryz.f213 [(5,[(4,kS),(9,kI)])] h
def yc.ok(a:Sl)(b:Sl)(R:Sl→G→Prop) w(h:Lq (⟨V,0,0⟩:Sl) 0 0 w λc d(e:Sl)(f:J)(g:J) h=>aa (K ((i64 (g+1))<(b.len:J))) (dw h λi j=>ay b g 2 λk=>aw kI (k.add 0) i λ(l:J)=>ay b (i64 (g+1)) 2 λm=>aw kI (m.add 0) i λ(n:J)=>Nw 309 ⟨[(ni 0),(.bool U)]⟩ j λp o=>i o∧ak ⟨p,0,V⟩ [(ni (i64 (l+n))),(.bool U)] 0 o λq=>i q∧dn e f q λr s(t:Sl)(u:J) v=>aC v λx=>aa (K (u<(a.len:J))) (ay a u 2 λy=>Ld kI (y.add 0) x λ(z:J)=>Ld kI (Zl ⟨p,0,V⟩ 0) x λ(N:J)=>aa (K (z≤N)) (ay a u 2 λP=>Ld (.st [.int .i64,.bool]) P x λA=>Nw 309 ⟨[(ni A.1),(.bool A.2.1)]⟩ x λQ S=>ar Pg (ZD #[304,304] 304 ⟨[(ah t),(ah (⟨Z ⟨Q,0,V⟩,1,1⟩:Sl))]⟩) kS S λ(B:Sl) C=>r B (i64 (u+1)) C∧s B (i64 (u+1)) C<s t u v) (Ld (.st [.int .i64,.bool]) ⟨p,0,V⟩ x λD=>Nw 309 ⟨[(ni D.1),(.bool D.2.1)]⟩ x λT W=>ar Pg (ZD #[304,304] 304 ⟨[(ah t),(ah (⟨Z ⟨T,0,V⟩,1,1⟩:Sl))]⟩) kS W λ(E:Sl) F=>c E u (i64 (g+2)) F∧d E u (i64 (g+2)) F<d e f g h)) (Ld (.st [.int .i64,.bool]) ⟨p,0,V⟩ x λI=>Nw 309 ⟨[(ni I.1),(.bool I.2.1)]⟩ x λX Y=>ar Pg (ZD #[304,304] 304 ⟨[(ah t),(ah (⟨Z ⟨X,0,V⟩,1,1⟩:Sl))]⟩) kS Y λ(L:Sl) M=>c L u (i64 (g+2)) M∧d L u (i64 (g+2)) M<d e f g h)) (cj a f (a).len (a).cap 2 λr1=>ar Pg (ZD #[304,304] 304 ⟨[(ah e),(ah r1)]⟩) kS h λ(t1:Sl) s1=>R t1 s1)):Cl Pg [kS] 214 ⟨[(ah a),(ah b)]⟩ w R:=co Tryz.f214 [(7,[(4,kS),(5,kI),(6,kI)]),(15,[(4,kS),(5,kI)])] h
def sZ.ok(a:J)(b:J)(c:Xr)(R:J→G→Prop) w(h:aC w λd=>aF c 258 a 1 λe=>Ld kI e d λ(f:J)=>aF c 258 b 1 λg=>Ld kI g d λ(h:J)=>Cl Pg [kI] 256 ⟨[(ni f),(ni h)]⟩ d λ(j:J) i=>R j i):Cl Pg [kI] 288 ⟨[(ni a),(ni b),(.pointer (Z c))]⟩ w R:=co Tryz.f288 [] h
def s9.ok(a:J)(R:Xg→G→Prop) w(h:aa (K (a<0)) (R H w) (R (K (a>2147483647)) w)):Cl Pg [kB] 289 ⟨[(ni a)]⟩ w R:=co Tryz.f289 [] h
end
end Go.Proofs.Q9
namespace Go.Pm
section
abbrev It:=I×Xg
def mB(l:Q It):I:=(l.map (·.1)).sum
def bQ(l:Q It):I:=(l.filter (·.2)).length
def Up(l:Q It):Prop:=l.Pairwise λa b=>a.1≤b.1
def bW:Q It→Q It|a::b::l=>(a.1+b.1,U)::bW l|_=>[]
def jw(A:Q It):Q It→Q It|[]=>A|p::B=>A.takeWhile (λa=>decide (a.1≤p.1))++p::jw (A.dropWhile λa=>decide (a.1≤p.1)) B
def Di{A:Q It}:jw A []=A:=O
def sF:∀{B:Q It},jw [] B=B|[]=>rfl|p::B=>by simp[jw,sF]
def GA{a p:It}{A B:Q It}(h:a.1≤p.1):jw (a::A) (p::B)=a::jw A (p::B):=by simp[jw,h]
def GI{a p:It}{A B:Q It}(h:¬a.1≤p.1):jw (a::A) (p::B)=p::jw (a::A) B:=by simp[jw,h]
def xN{P:Q It→Q It→Prop}(b:∀B,P [] B)(c:∀a A,P (a::A) [])(d:∀a A p B,a.1≤p.1→P A (p::B)→P (a::A) (p::B))(e:∀a A p B,¬a.1≤p.1→P (a::A) B→P (a::A) (p::B)):∀A B,P A B|[],B=>b B|a::A,[]=>c a A|a::A,p::B=>if h:a.1≤p.1 then d a A p B h (xN b c d e A (p::B))else e a A p B h (xN b c d e (a::A) B)
def FK:∀A B,(jw A B).Perm (A++B):=by refine xN (λB=>by rw[sF];exact .refl _) (λa A=>by rw[Di];simp) (λa A p B h b=>?_) λa A p B h b=>?_;{rw[GA h];exact b.cons a};{rw[GI h];exact(b.cons p).trans (List.perm_middle.symm)}
def KY(A B:Q It):(jw A B).length=A.length+B.length:=by rw[(FK A B).length_eq,Zg]
def Lh:∀A B,Up A→∀m,m≤A.length+B.length→∃a b,a+b=m∧a≤A.length∧b≤B.length∧((jw A B).take m).Perm (A.take a++B.take b)∧∀x∈B.take b,∀y∈A.drop a,x.1<y.1:=by refine xN (λB _ m c=>?_) (λa A _ m c=>?_) (λa A p B h g e m c=>?_) λa A p B h g e m c=>?_;{exact⟨0,m,Za,Zx _,by simpa using c,by rw[sF];simp,Zd⟩};{exact⟨m,0,rfl,by simpa using c,Zx _,by rw[Di];simp,Zd⟩};{cases m with|zero=>exact⟨0,0,rfl,Z9 _,Z9 _,Zd,Zd⟩|succ m=>obtain⟨x,y,n,i,j,k,l⟩:=g (List.pairwise_cons.1 e).2 m (by simp at c⊢;omega);refine⟨x+1,y,Za,by simpa using i,j,?_,by simpa using l⟩;rw[GA h,Yf,Yf];exact k.cons a};{cases m with|zero=>exact⟨0,0,rfl,Z9 _,Z9 _,Zd,Zd⟩|succ m=>obtain⟨x,y,n,i,j,k,l⟩:=g e m (by simp at c⊢;omega);refine⟨x,y+1,Za,i,by simpa using j,?_,?_⟩;{rw[GI h,Yf,Yf];exact(k.cons p).trans List.perm_middle.symm};{intro u f v d;rw[Yf]at f;(rcases List.mem_cons.1 f with rfl|f);{have d:v∈a::A:=YG d;(rcases List.mem_cons.1 d with rfl|d);{omega};{have:=(List.pairwise_cons.1 e).1 v d;omega}};{exact l u f v d}}}
def z6(a:It)(l:Q It):mB (a::l)=a.1+mB l:=by simp[mB]
def Np(l a:Q It):mB (l++a)=mB l+mB a:=by simp[mB]
def Rb{l a:Q It}(h:l.Perm a):mB l=mB a:=(h.map _).sum_nat
def qc(l a:Q It):bQ (l++a)=bQ l+bQ a:=by simp[bQ]
def AR{l a:Q It}(h:l.Perm a):bQ l=bQ a:=(h.filter _).length_eq
def gn:∀l:Q It,(bW l).length=l.length/2|[]=>rfl|[_]=>by simp[bW]|_::_::l=>by simp only[bW,Zq,gn l];omega
def uu:∀(l:Q It)(x:It),x∈bW l→x.2=U|[],_,h=>by simp[bW]at h|[_],_,h=>by simp[bW]at h|a::b::l,x,h=>by rw[bW]at h;(rcases List.mem_cons.1 h with rfl|h);{rfl};{exact uu l x h}
def BR:∀(l:Q It)(b:I),2*b≤l.length→mB ((bW l).take b)=mB (l.take (2*b))|_,0,_=>by simp[mB]|[],b+1,h=>by simp at h|[_],b+1,h=>by simp only[ZO]at h;omega|x::y::l,b+1,h=>by rw[bW,Yf,z6,show 2*(b+1)=(2*b+1)+1 by omega,Yf,Yf,z6,z6,BR l b (by simp only[Zq]at h;omega)];omega
def HI:∀(l:Q It)(b:I)(x:It),2*b≤l.length→x∈l.take (2*b)→∃p∈(bW l).take b,x.1≤p.1|_,0,_,_,h=>by simp at h|[],b+1,_,h,_=>by simp at h|[_],b+1,_,h,_=>by simp only[ZO]at h;omega|u::v::l,b+1,x,h,a=>by rw[show 2*(b+1)=(2*b+1)+1 by omega,Yf,Yf]at a;rw[bW,Yf];(rcases List.mem_cons.1 a with rfl|a);{exact⟨_,ZK,Zd⟩};{(rcases List.mem_cons.1 a with rfl|a);{exact⟨_,ZK,Zd⟩};{obtain⟨p,c,d⟩:=HI l b x (by simp only[Zq]at h;omega) a;exact⟨p,Zy _ c,d⟩}}
def kg(a:Q I):Q It:=a.map λw=>(w,H)
def row(a:Q I):I→Q It|0=>kg a|k+1=>jw (kg a) (bW (row a k))
def xh(a:Q I):Prop:=a.Pairwise (·≤·)
def ON{a:Q I}(h:xh a):Up (kg a):=Q.Pairwise.map _ (λ_ _ h=>h) h
def eY(a:Q I):(kg a).length=a.length:=Zp _
def gZ(a:Q I)(k:I):(row a (k+1)).length=a.length+(row a k).length/2:=by rw[row,KY,eY,gn]
def Kv(a:Q I):mB (kg a)=a.sum:=by unfold mB kg;rw[YH];congr 1;exact Q.map_id _
def mP(b:Q I)(a:I):(kg b).take a=kg (b.take a):=List.map_take.symm
def vH(a:Q I):bQ (kg a)=a.length:=by unfold bQ kg;rw[List.filter_eq_self.2];{simp};{grind}
def F0{l:Q It}(h:∀x∈l,x.2=U):bQ l=0:=by unfold bQ;rw[Q.length_eq_zero_iff,Q.filter_eq_nil_iff];intro x a;simp[h x a]
def AQ{ws:Q I}:∀k,ws.length≤2^(k+1)→2*ws.length-2≤(row ws k).length:=by have a:∀k c,2^k*c≥ws.length→1≤c→2*ws.length≤(row ws k).length+c:=by{intro k;induction k with|zero=>intro c h _;simp only[row,eY];omega|succ k b=>intro c h d;have:=b (2*c) Ze Za;rw[gZ];omega};intro k h;have:=a k 2 Ze Za;omega
def oJ{c:Q I}(h:xh c)(k m:I)(j:m≤(row c (k+1)).length):bQ ((row c (k+1)).take m)≤m∧bQ ((row c (k+1)).take m)≤c.length∧2*(m-bQ ((row c (k+1)).take m))≤(row c k).length∧mB ((row c (k+1)).take m)=(c.take (bQ ((row c (k+1)).take m))).sum+mB ((row c k).take (2*(m-bQ ((row c (k+1)).take m))))∧(∀x∈(row c k).take (2*(m-bQ ((row c (k+1)).take m))),∀y∈c.drop (bQ ((row c (k+1)).take m)),x.1<y):=by have l:=gZ c k;obtain⟨a,b,t,g,n,i,o⟩:=Lh (kg c) (bW (row c k)) (ON h) m (by rw[eY,gn,←l];exact j);rw[eY]at g;rw[gn]at n;have d:bQ ((row c (k+1)).take m)=a:=by{rw[row,AR i,qc,mP,vH,F0 λx e=>uu _ x (Ym e),Zz];omega};rw[d];have q:m-a=b:=Za;rw[q];refine⟨Za,g,Za,?_,?_⟩;{rw[row,Rb i,Np,mP,Kv,BR _ _ Za]};{intro x e y r;obtain⟨p,s,f⟩:=HI _ _ _ Za e;have:=o p s (y,H) (by unfold kg;rw[←Q.map_drop];exact Q.mem_map_of_mem r);exact I.lt_of_le_of_lt f this}
def Ad{ws:Q I}(m:I)(a:m≤ws.length):bQ ((row ws 0).take m)=m∧mB ((row ws 0).take m)=(ws.take m).sum:=by rw[row,mP];exact⟨by rw[vH,Zz];omega,Kv _⟩
def whole(a:Q I)(k m:I):I:=bQ ((row a k).take m)
def lv(a:Q I):I→I→I→I|0,m,i=>if i<whole a 0 m then 1 else 0|k+1,m,i=>(if i<whole a (k+1) m then 1 else 0)+lv a k (2*(m-whole a (k+1) m)) i
def nested{ws:Q I}(h:xh ws)(k m:I)(p:m≤(row ws (k+1)).length):whole ws k (2*(m-whole ws (k+1) m))≤whole ws (k+1) m:=by obtain⟨q,r,c,s,l⟩:=oJ h k m p;generalize n:whole ws (k+1) m=a;unfold whole at n;rw[n]at q r c s l;(rcases Yd a (whole ws k (2*(m-a)))with e|f);{exfalso;have d:∀i,i<whole ws k (2*(m-a))→∃(b:i<ws.length),(ws[i],H)∈(row ws k).take (2*(m-a)):=by{cases k with|zero=>intro i b;have t:=Ad (ws:=ws) (2*(m-a)) (by rw[row,eY]at c;exact c);unfold whole at b;rw[t.1]at b;rw[row,eY]at c;refine⟨Za,?_⟩;rw[row,mP];unfold kg;refine Q.mem_map_of_mem ?_;rw[Q.mem_iff_getElem];exact⟨i,by rw[Zz];omega,Zd⟩|succ k=>intro i b;obtain⟨u,w,y,v,z,o,A⟩:=Lh (kg ws) (bW (row ws k)) (ON h) (2*(m-a)) (by rw[eY,gn,←gZ];exact c);rw[eY]at v;have g:whole ws (k+1) (2*(m-a))=u:=by{unfold whole;rw[row,AR o,qc,mP,vH,F0 λx j=>uu _ x (Ym j),Zz];omega};rw[g]at b;refine⟨Za,?_⟩;rw[row,o.mem_iff,Q.mem_append];left;rw[mP];unfold kg;refine Q.mem_map_of_mem ?_;rw[Q.mem_iff_getElem];exact⟨i,by rw[Zz];omega,Zd⟩};obtain⟨b,j⟩:=d a e;have:=l _ j ws[a] (by rw[Q.mem_iff_getElem];exact⟨0,by rw[ZA];omega,Zd⟩);simp at this};{exact f}
def Dm{a:Q I}(h:xh a):∀(k m i:I),m≤(row a k).length→whole a k m≤i→lv a k m i=0|0,m,i,_,c=>by unfold lv;rw[Xf Za]|k+1,m,i,b,c=>by have d:=nested h k m b;unfold lv;rw[Xf Za,Zk];exact Dm h k _ i (oJ h k m b).2.2.1 Za
def Ft(a:Q I):∀(k m i:I),lv a k m i≤k+1|0,m,i=>by unfold lv;split<;>omega|k+1,m,i=>by have:=Ft a k (2*(m-whole a (k+1) m)) i;unfold lv;split<;>omega
def over(n:I)(f:I→I):I:=((Zs n).map f).sum
def gw(n:I)(f:I→I):over (n+1) f=over n f+f n:=by unfold over;rw[YO,ZE,YL];simp
def Hi(n:I)(f g:I→I):over n (λi=>f i+g i)=over n f+over n g:=by induction n with|zero=>rfl|succ n a=>rw[gw,gw,gw,a];omega
def oo{n:I}{f g:I→I}(h:∀i,i<n→f i=g i):over n f=over n g:=by unfold over;congr 1;exact Z2 λi a=>h i (List.mem_range.1 a)
def L7(n c:I):over n (λ_=>c)=n*c:=by induction n with|zero=>simp[over]|succ n a=>rw[gw,a,Yc]
def Sf(n c:I)(f:I→I):over n (λi=>c*f i)=c*over n f:=by induction n with|zero=>rfl|succ n a=>rw[gw,gw,a,I.mul_add]
def Bd(n a:I)(d:a≤n)(c:I):over n (λi=>(if i<a then 1 else 0)*c)=a*c:=by have b:∀n,over n (λi=>(if i<a then 1 else 0)*c)=XO n a*c:=by{intro n;induction n with|zero=>simp[over]|succ n e=>rw[gw,e];by_cases hna:n<a;{grind};{grind}};rw[b,I.min_eq_right d]
def lw(a:Q I):I→I→I→I|0,m,i=>if i<whole a 0 m then 1 else 0|k+1,m,i=>(if i<whole a (k+1) m then 1 else 0)*2^(k+1)+lw a k (2*(m-whole a (k+1) m)) i
def PA{ws:Q I}(h:xh ws):∀(k m:I),m≤(row ws k).length→over ws.length (lw ws k m)=m*2^k|0,m,b=>by have a:m≤ws.length:=by{rw[row,eY]at b;exact b};have e:=Ad (ws:=ws) m a;have:=Bd ws.length m a 1;have d:over ws.length (lw ws 0 m)=over ws.length (λi=>(if i<m then 1 else 0)*1):=oo λi _=>by{unfold lw whole;rw[e.1,ZB]};rw[d,this]|k+1,m,b=>by obtain⟨f,g,j,o,p⟩:=oJ h k m b;have l:=PA h k (2*(m-whole ws (k+1) m)) j;have e:over ws.length (lw ws (k+1) m)=over ws.length (λi=>(if i<whole ws (k+1) m then 1 else 0)*2^(k+1)+lw ws k (2*(m-whole ws (k+1) m)) i):=O;have n:whole ws (k+1) m≤m:=f;have c:whole ws (k+1) m≤ws.length:=g;rw[e,Hi,Bd _ _ c,l,Yj 2,I.mul_assoc,←I.pow_succ',←YU];congr 1;omega
def TF{a:Q I}(h:xh a):∀(k m i:I),m≤(row a k).length→lw a k m i+2^(k+1-lv a k m i)=2^(k+1)|0,m,i,_=>by unfold lw lv;split<;>rfl|k+1,m,i,b=>by have c:=(oJ h k m b).2.2.1;have d:=TF h k (2*(m-whole a (k+1) m)) i c;have e:=Ft a k (2*(m-whole a (k+1) m)) i;have g:=Yu (n:=2) (m:=k+1);unfold lw lv;by_cases hi:i<whole a (k+1) m;{rw[Xh hi,I.one_mul,show k+1+1-(1+lv a k (2*(m-whole a (k+1) m)) i)=k+1-lv a k (2*(m-whole a (k+1) m)) i by omega];omega};{have j:=nested h k m b;have f:=Dm h k (2*(m-whole a (k+1) m)) i c Za;rw[f]at d⊢;rw[Xf hi];simp only[I.zero_mul,Zk,YV]at d⊢;omega}
def Ii{ws:Q I}(h:xh ws)(k:I)(e:2≤ws.length)(b:ws.length≤2^(k+1)):over ws.length (λi=>2^(k+1-lv ws k (2*ws.length-2) i))=2^(k+1):=by have a:=AQ (ws:=ws) k b;have c:=PA h k _ a;have d:=Hi ws.length (lw ws k (2*ws.length-2)) λi=>2^(k+1-lv ws k (2*ws.length-2) i);rw[oo (g:=λ_=>2^(k+1)) λi _=>TF h k _ i a,L7,c]at d;have f:(2*ws.length-2)*2^k+2^(k+1)=ws.length*2^(k+1):=by{have:2*ws.length-2=2*(ws.length-1):=by{omega};rw[this,Yj 2,I.mul_assoc,←I.pow_succ'];have:ws.length=ws.length-1+1:=by{omega};conv=>rhs;rw[this,Yc]};omega
def Jg{n:I}{f:I→I}{i:I}(a:i<n):f i≤over n f:=by induction n with|zero=>omega|succ n b=>rw[gw];by_cases h:i=n;{subst h;omega};{grind}
def GQ{n:I}{f:I→I}{i j:I}(b:i<n)(c:j<n)(a:i<j):f i+f j≤over n f:=by induction n with|zero=>omega|succ n d=>rw[gw];by_cases h:j=n;{subst h;have:=Jg (f:=f) a;omega};{grind}
def aaj{a:Q I}(h:xh a)(k:I)(g:2≤a.length)(l:a.length≤2^(k+1)){i:I}(c:i<a.length):1≤lv a k (2*a.length-2) i:=by have m:=Ii h k g l;(rcases Z6 (lv a k (2*a.length-2) i)with b|b);{exfalso;have d:∀j,0<2^(k+1-lv a k (2*a.length-2) j):=λj=>Yl _;have e:2^(k+1-lv a k (2*a.length-2) i)=2^(k+1):=by{rw[b,YV]};by_cases hi0:i=0;{subst hi0;have:=GQ (f:=λi=>2^(k+1-lv a k (2*a.length-2) i)) c (show 1<a.length by omega) Za;have:=d 1;omega};{have:=GQ (f:=λi=>2^(k+1-lv a k (2*a.length-2) i)) (show 0<a.length by omega) c Za;have:=d 0;omega}};{exact b}
def width(S:I→Q I):I→I|0=>(S 0).length|k+1=>(S (k+1)).length*2^(k+1)+width S k
def RJ(a:Q I)(L:I):I:=if a.length≤1 then a.sum else mB ((row a (L-1)).take (2*a.length-2))
def lenOf(a:Q I)(L i:I):I:=if a.length=1 then 1 else lv a (L-1) (2*a.length-2) i
def QU{a:Q I}{L:I}(b:xh a)(e:1≤L)(c:a.length≤2^L){i:I}(d:i<a.length):1≤lenOf a L i∧lenOf a L i≤L:=by unfold lenOf;split;{grind};{obtain⟨K,rfl⟩:∃K,L=K+1:=⟨L-1,Za⟩;exact⟨aaj b K Za c d,Ft ..⟩}
end
end Go.Pm
namespace Go.Srt
section
def ch(t:Q J):Xg:=t.all λx=>decide (0≤x)&&K (x≤2147483647)
def qW(l:Q I):Prop:=∀x∈l,x≤2147483647
def bq(l a:Q I):Q I:=a.map λs=>l.getD s 0
end
end Go.Srt
namespace Go.Proofs.Q9
section
open Go Go.Vc Go.Srt Go.Pm
section
variable{E w:G}{F:Q HP}
def aT(t:Q J):Xi Xe:=⟨t.map vI⟩
theorem fD{t:Q J}:(aT t).size=t.length:=by simp[aT]
theorem Ix{t:Q J}{i:I}(h:i<t.length):(aT t)[i]?=Z (Sc.enc (.int .i64) t[i]):=by simp[aT,h,vI]
theorem LV{l:Q I}:aT (ints l)=ai .i64 l:=by unfold aT ints ai;rw[YH];rfl
theorem MY{t:Q J}(h:ch t=H):∃l:Q I,t=ints l∧qW l:=by have h:=List.all_eq_true.1 h;have b:∀x∈t,0≤x∧x≤2147483647:=λx a=>by{have:=h x a;simpa using this};refine⟨t.map J.toNat,?_,λy c=>?_⟩;{unfold ints;rw[YH];refine(Q.map_id t).symm.trans (Z2 λx a=>?_);have:=b x a;simp;omega};{grind}
theorem tH{l:Q I}(h:qW l):ch (ints l)=H:=by refine List.all_eq_true.2 λx a=>?_;obtain⟨y,b,rfl⟩:=List.mem_map.1 a;have:=h y b;simp;omega
theorem iO{l:Q I}:(ints l).length=l.length:=Zp _
theorem ack{x:J}{K:Xg→G→Prop}(a:K (!(decide (0≤x)&&XB (x≤2147483647))) w):cW Zf (.func (.func 289) ⟨[]⟩ ⟨[]⟩) [kB] [.int .i64 x] w K:=by refine cW.mk Zc (s9.ok x K w ?_);refine aa.mk (λh=>?_) λh=>?_;{grind};{have h:=Xm h;have e:(!(decide (0≤x)&&XB (x≤2147483647)))=XB (x>2147483647):=by{grind};rw[e]at a;exact a}
theorem vG{t:Q J}{K:Xg→G→Prop}(h:Hp E w F)(p:t.length=258)(j:∀w',Hp E w' F→K (ch t) w'):Cl Zf [kB] 212 ⟨[.agg (aT t)]⟩ w K:=by refine wv.ok _ _ _ ?_;refine Nw.mk h λb r m=>?_;refine cj.whole Zb O O ?_;refine iA.ok _ _ _ _ ?_;refine jO.ok _ _ _ _ ?_;refine⟨λi w'=>∃k:I,i=(k:J)∧k≤258∧ch (t.take k)=H∧Hp E w' (ag b (.cells (aT t) 237 (0,0))::F),λi _=>258-i.toNat,⟨0,O,Za,O,m⟩,?_⟩;rintro i w' ⟨k,rfl,hk,hv,hh⟩;refine aa.mk (λd=>?_) λc=>?_;{have d:k<258:=by{have:=Xo d;simp only at this;omega};have e:k<t.length:=by{omega};have f:aH 1 ⟨Z ⟨b,0,V⟩,258,258⟩ (t.map vI) w':=hh.an (ad.ax (by simp[aT]) Ze);refine ay.rd f Za Ze λq u n=>Ld.sc (s:=.int .i64) t[k] (by rw[n];simp[vI]) (ack ?_);have l:ch (t.take (k+1))=(ch (t.take k)&&(decide (0≤t[k])&&XB (t[k]≤2147483647))):=by{unfold ch;rw[ZC,Q.all_append,Zh e];simp};rw[hv,Xg.true_and]at l;rw[←l];refine aa.mk (λa=>?_) λa=>?_;{have a:ch (t.take (k+1))=U:=by{simpa using a};have o:ch t=U:=by{have:=Zt (k+1) t;rw[←this];unfold ch at a⊢;rw[Q.all_append,a,Xg.false_and]};have g:XB ((k:J)≥0)=H:=by{simp};show K (! XB ((k:J)≥0)) w';rw[g];have:=j w' hh.drop;rw[o]at this;exact this};{have a:ch (t.take (k+1))=H:=by{simpa using a};rw[ae Za];exact⟨⟨k+1,O,Za,a,hh⟩,by dsimp only;omega⟩}};{have c:k=258:=by{have:=Xm c;simp only at this;omega};subst c;have g:XB ((-1:J)≥0)=U:=by{decide};show K (! XB ((-1:J)≥0)) w';rw[g];have:=j w' hh.drop;rw[Zu Za]at hv;rw[hv]at this;exact this}
theorem Rv{x y:J}{K:J→G→Prop}(a:∀z:J,(z<0↔x<y)→K z w):Cl Zf [kI] 256 ⟨[.int .i64 x,.int .i64 y]⟩ w K:=by refine cmp_Compare_int.ok _ _ _ _ ?_;refine cmp_isNaN_int.ok _ _ _ (cmp_isNaN_int.ok _ _ _ ?_);refine aa.f Zd (aa.f Zd (aa.mk (λh=>a _ ?_) λh=>aa.mk (λb=>a _ ?_) λb=>a _ ?_));{grind};{have:=Xm h;omega};{have:=Xm h;omega}
theorem Ue{l:Q I}{i:I}{k:Xy}(h:i<l.length):(ai k l)[i]?=Z (Sc.enc (.int k) (l.getD i 0:J)):=by rw[iV h,Zo,Zh h];rfl
theorem ac9{l:Q I}{b:I}{t:Xn}(j:l.length=258):xv E (ag b (.cells (ai .i64 l) t (0,0))::F) (.func (.func 288) ⟨[]⟩ ⟨[.pointer (Z ⟨b,0,V⟩)]⟩) (zq l) (λx=>0≤x∧x<258):=by rintro A w y x K h ⟨c,k⟩ ⟨d,m⟩ f;refine cW.mk Zc ?_;refine sZ.ok y x ⟨b,0,V⟩ K w ?_;refine aC.mk h λg e=>?_;have a:=e.perm ZW;refine aF.rd (s:=.int .i64) a d Za _ (Ue Za) ?_;refine aF.rd (s:=.int .i64) a c Za _ (Ue Za) ?_;refine Rv λz i=>f z g ?_ e;rw[i];rfl
theorem Pn{t:Q J}{K:Sl→G→Prop}(h:Hp E w F)(f:t.length=258)(v:ch t=U→∀w',Hp E w' F→K ⟨V,0,0⟩ w')(z:∀l,t=ints l→qW l→l.length=258→∀ys s w',cP l ys→Hp E w' (ao 1 s ((ints ys).map vI)::F)→K s w'):Cl Zf [kS] 211 ⟨[.agg (aT t)]⟩ w K:=by refine wu.ok _ _ _ ?_;refine Nw.mk h λb w1 C=>Ld.arr C (by rw[fD,f]) (vG C f λN q=>?_);refine aa.mk (λr=>v Ze N q.drop) λr=>?_;have r:ch t=H:=by{simpa using r};obtain⟨l,rfl,P⟩:=MY r;rw[iO]at f;rw[LV]at q;refine Ld.arr q (by rw[bm,f]) ?_;refine⟨λo i w'=>∃k:I,i=(k:J)∧k≤258∧Hp E w' (ao 1 o ((ints (il l k)).map vI)::ag b (.cells (ai .i64 l) 237 (0,0))::F),λ_ i _=>258-i.toNat,⟨0,rfl,Za,q.aR 1⟩,?_⟩;intro o i w' R;obtain⟨k,S,hk,u⟩:=R;subst S;refine aa.mk (λj=>?_) λg=>?_;{have j:k<258:=by{have:=Xo j;omega};have A:k<l.length:=by{omega};refine fq.rd (s:=.int .i64) Za Za _ (Q3 A) ?_;refine aa.mk (λc=>?_) λc=>?_;{have c:0<l.getD k 0:=by{have:=Xo c;omega};refine Nw.mk u λT L m=>?_;have W:=u.aS;have hu:=oE l k;simp only[Zp,ints,ZB]at W;refine aX (ys:=[vI (k:J)]) (n:=1) mW Zb (.inl ⟨3,Zc⟩) m.p1 (.inl ⟨Z ⟨T,0,V⟩,1,1,rfl,rfl,m.an (ad.ax rfl rfl)⟩) rfl AL Za Za λs' w4 X Y=>?_;rw[ae Za];refine⟨⟨k+1,rfl,Za,?_⟩,by dsimp only;omega⟩;rw[nj,Xh c,HO,ZE];exact X.p1.drop};{have c:¬0<l.getD k 0:=by{have:=Xm c;omega};rw[ae Za];refine⟨⟨k+1,rfl,Za,?_⟩,by dsimp only;omega⟩;rw[nj,Xf c,ZF];exact u}};{have g:k=258:=by{have:=Xm g;omega};subst g;have B:∀x∈il l 258,x<258:=λx p=>by{have:=(List.mem_filter.1 p).1;simpa using this};refine wH (key:=zq l) (D:=λx=>0≤x∧x<258) u (by have:=oE l 258;rw[aL];simp only[ints,Zp];omega) (ac9 f) (λx p=>?_) ?_ λys L c M m=>?_;{obtain⟨y,hy,rfl⟩:=List.mem_map.1 p;have:=B y hy;omega};{unfold ints;refine Q.Pairwise.map _ (λa b d=>Int.ofNat_lt.2 d) ?_;exact Q.Pairwise.filter _ Q.pairwise_lt_range};{have hU:il l 258=used l:=by{unfold il used;rw[f]};rw[hU]at c;have e:ys=ints (ys.map J.toNat):=by{unfold ints;rw[YH];refine(Q.map_id ys).symm.trans (Z2 λx p=>?_);obtain⟨y,_,rfl⟩:=List.mem_map.1 (c.mem_iff.1 p);simp};have pN:(ys.map J.toNat).Perm (used l):=by{have:=c.map J.toNat;refine this.trans ?_;unfold ints;rw[YH];refine Q.Perm.of_eq ((Z2 λx _=>?_).trans (Q.map_id _));simp};rw[e]at m M;refine z l rfl P f (ys.map J.toNat) _ L ⟨pN,?_⟩ m.p1.drop;refine(List.pairwise_map.1 M).imp λ{a b} d=>?_;unfold Ky zq at d;simp only[Zm]at d;omega}}
def ib(x:It):Q Xe:=[.int .i64 (x.1:J),.bool x.2]
theorem eI:∀x,(ib x).length=2:=λ_=>rfl
theorem pZ:∀x,∀y∈ib x,aD y=H:=by intro x y a;simp only[ib,Q.mem_cons,Q.not_mem_nil,or_false]at a;rcases a with rfl|rfl<;>rfl
theorem nG:cF Zf 304 309 2 16:=cF.of Zc Zc
theorem QM{a:Q I}{k:I}(h:k<a.length):kg (a.take (k+1))=kg (a.take k)++[(a[k],H)]:=by unfold kg;rw[ZC,ZE,Zh h];rfl
theorem Px{s:Sl}{a:Q I}{i:I}{K:J→Prop}(b:aH 1 s ((ints a).map vI) w)(f:i<a.length)(c:K (a[i]:J)):ay s (i:J) 1 λq=>Ld kI q w K:=by have d:=b.1;simp only[Zp,ints,ZB]at d;refine ay.rd b Za Za λq g e=>Ld.sc (s:=.int .i64) (a[i]:J) ?_ c;rw[e];simp[vI,ints]
theorem RL{l a:Q I}{s:Sl}{K:Sl→G→Prop}(h:Hp E w F)(v:l.length=258)(m:ad F (aH 1 s ((ints a).map vI)))(e:∀x∈a,x<258)(n:a.length≤258)(p:∀f w',Hp E w' (ao 2 f ((kg (bq l a)).flatMap ib)::F)→K f w'):Cl Zf [kS] 213 ⟨[.agg (ai .i64 l),.slice s.base s.len s.cap]⟩ w K:=by refine vk.ok _ _ _ _ ?_;have j:=(h.an m).1;simp only[Zp,ints,ZB]at j;have q:(bq l a).length=a.length:=Zp _;refine Nw.mk h λb y r=>⟨λo i w'=>∃k:I,i=(k:J)∧k≤a.length∧Hp E w' (ao 2 o ((kg ((bq l a).take k)).flatMap ib)::ag b (.cells (ai .i64 l) 237 (0,0))::F),λ_ i _=>a.length-i.toNat,⟨0,O,Za,by simpa[kg]using r.aR 2⟩,?_⟩;rintro o i w' ⟨k,rfl,hk,hh⟩;refine aa.mk (λc=>?_) λd=>?_;{have c:k<a.length:=by{have:=Xo c;omega};have z:=e _ (Zv c);refine Px (hh.drop.drop.an m) c ?_;refine aF.rd (s:=.int .i64) hh.p1 Za Za _ (Q3 Za) ?_;have t:(bq l a)[k]' Za=l.getD a[k] 0:=by{simp[bq]};refine wU (g:=ib) (x:=(l.getD a[k] 0,H)) nG eI Zb O (pZ _) hh (by rw[eY,Zz];omega) (by rw[eY,Zz];omega) λf A u _=>?_;rw[ae Za];refine⟨⟨k+1,O,Za,?_⟩,by dsimp only;omega⟩;rw[QM Za,t];exact u};{have d:k=a.length:=by{have:=Xm d;omega};subst d;rw[Zu Za]at hh;exact p _ _ hh.p1.drop}
end
end
end Go.Proofs.Q9
namespace Go.Srt
section
def gJ(a:Q I)(f:I→I):Q I:=(Zs 258).map λs=>if s∈a then f (a.idxOf s)else 0
def jf(a:Q I)(f:I→I):(gJ a f).length=258:=by simp[gJ]
def Ot{a:Q I}{f:I→I}{s:I}(b:s<258):(gJ a f).getD s 0=if s∈a then f (a.idxOf s)else 0:=by unfold gJ;rw[Zo,ZZ,Yy b];rfl
def AD:∀{a:Q I}(_:a.Nodup){i:I}(d:i<a.length),a.idxOf a[i]=i|y::a,h,0,_=>by simp[Q.idxOf_cons]|y::a,h,i+1,d=>by obtain⟨f,g⟩:=List.nodup_cons.1 h;have b:i<a.length:=by{simpa using d};have c:¬y=a[i]:=λe=>f (e▸Zv b);have:=AD g b;have e:(y==a[i])=U:=by{simpa using c};simp only[Y7,Q.idxOf_cons,this,e,cond_false]
def CC{a:Q I}{f:I→I}(d:a.Nodup)(b:∀s∈a,s<258){i:I}(c:i<a.length):(gJ a f).getD a[i] 0=f i:=by rw[Ot (b _ (Zv c)),Xh (Zv c),AD d c]
def wg{a:Q I}{f g:I→I}(h:∀i,i<a.length→f i=g i):gJ a f=gJ a g:=by unfold gJ;refine Z2 λs _=>?_;by_cases hs:s∈a;{grind};{grind}
def LO{a:Q I}{f:I→I}{i v:I}(c:a.Nodup)(d:i<a.length):(gJ a f).set a[i] v=gJ a (λj=>if j=i then v else f j):=by refine YP (by simp[gJ]) λs g b=>?_;have h:s<258:=by{rw[jf]at b;exact b};rw[Q.getElem_set];unfold gJ;simp only[Q.getElem_map,Q.getElem_range];by_cases e:a[i]=s;{grind};{grind}
def RO(a:Q I):gJ a (λ_=>0)=Zj 258 0:=by refine List.eq_replicate_iff.2 ⟨jf ..,λx b=>?_⟩;obtain⟨s,_,rfl⟩:=List.mem_map.1 b;split<;>rfl
def wo{l c:Q I}(h:cP l c):c.Nodup:=h.2.imp λ{a b} d e=>by subst e;omega
def CE{l d:Q I}(h:cP l d):Pm.xh (bq l d):=Q.Pairwise.map _ (λ_ _ c=>c) (h.2.imp λ{a b} c=>Za)
end
end Go.Srt
namespace Go.Proofs.Q9
section
open Go Go.Vc Go.Srt Go.Pm
section
variable{E w:G}{F:Q HP}
theorem Q1{R:Q It}{j:I}(h:2*j+1<R.length):bW (R.drop (2*j))=((R[2*j]' Za).1+R[2*j+1].1,U)::bW (R.drop (2*(j+1))):=by rw[Zw (show 2*j<R.length by omega),Zw (show 2*j+1<R.length by omega),bW];rfl
theorem PW{R:Q It}{j:I}(h:¬2*j+1<R.length):bW (R.drop (2*j))=[]:=by have:(bW (R.drop (2*j))).length=0:=by{rw[gn,ZA];omega};exact List.length_eq_zero_iff.1 this
theorem abm{y P:Sl}{A R:Q It}{K:Sl→G→Prop}(h:Hp E w F)(S:ad F (aH 2 y (A.flatMap ib)))(T:ad F (aH 2 P (R.flatMap ib)))(hcap:y.len≤y.cap)(hb:∀x∈R,x.1≤2^60)(hlA:A.length≤2^20)(hlR:R.length≤2^20)(hK:∀z w',Hp E w' (ao 2 z ((jw A (bW R)).flatMap ib)::F)→K z w'):Cl Zf [kS] 214 ⟨[.slice y.base y.len y.cap,.slice P.base P.len P.cap]⟩ w K:=by refine yc.ok _ _ _ _ ?_;have la:=aH.len eI Zb (h.an S);have lr:=aH.len eI Zb (h.an T);have W:=gn R;have htl:(jw A (bW R)).length=A.length+R.length/2:=by{rw[KY,W]};have B:∀o X:Q It,o++X=jw A (bW R)→o.length≤2^21:=λo X e=>Ze;refine⟨λo k i w'=>∃(a j:I)(l:Q It),k=(a:J)∧i=((2*j:I):J)∧a≤A.length∧2*j≤R.length∧l++jw (A.drop a) (bW (R.drop (2*j)))=jw A (bW R)∧Hp E w' (ao 2 o (l.flatMap ib)::F),λ_ _ i _=>R.length-i.toNat,⟨0,0,[],O,O,Za,Za,Zd,h.aR 2⟩,?_⟩;rintro o k i w' ⟨a,j,l,rfl,rfl,ha,hj,heq,hh⟩;have Y:=B _ _ heq;rw[ae (x:=((2*j:I):J)+1) Za];refine aa.mk (λd=>?_) λt=>?_;{have d:2*j+1<R.length:=by{have:=Xo d;omega};rw[Q1 d]at heq;have hx1:=hb _ (Zv (show 2*j<R.length by omega));have mC:=hb _ (Zv d);have u:Hp E {w' with drawn:=w'.drawn+1} (ao 2 o (l.flatMap ib)::F):=hh.drew;refine⟨me E F,me.yH u,?_⟩;refine ay.elT (n:=2*j) eI Zb u.drop T O Za λp C=>?_;refine aw.sc (s:=.int .i64) ((R[2*j]' Za).1:J) (λw2 D=>(D.an (C 0 Zb)).trans (by simp[ib])) ?_;refine ay.elT (n:=2*j+1) eI Zb u.drop T Za d λq hq=>?_;refine aw.sc (s:=.int .i64) (R[2*j+1].1:J) (λw2 D=>(D.an (hq 0 Zb)).trans (by simp[ib])) ?_;rw[ae (x:=((R[2*j]' Za).1:J)+(R[2*j+1].1:J)) Za];generalize hp1:(R[2*j]' Za).1+R[2*j+1].1=p1 at heq;have L:((R[2*j]' Za).1:J)+(R[2*j+1].1:J)=(p1:J):=by{omega};rw[L];refine Nw.mk u λb w3 h3=>⟨me.mk2 h3,?_⟩;refine ak.ax h3 O (pZ (p1,U)) λw4 h4=>⟨me.mk2 h4,?_⟩;refine⟨λo k w'=>∃(a:I)(l:Q It),k=(a:J)∧a≤A.length∧l++jw (A.drop a) ((p1,U)::bW (R.drop (2*(j+1))))=jw A (bW R)∧Hp E w' (ao 2 o (l.flatMap ib)::ag b (.cells ⟨ib (p1,U)⟩ 309 (0,0))::F),λ_ k _=>A.length-k.toNat,⟨a,l,O,ha,heq,h4.p1⟩,?_⟩;rintro o k w5 ⟨a,l,rfl,ha,heq,hh⟩;have Y:=B _ _ heq;refine aC.mk hh λw6 m=>?_;rw[ae (x:=((2*j:I):J)+2) Za];have r:A.drop a=[]∨(∃(_:a<A.length),¬A[a].1≤p1)→(l++[(p1,U)])++jw (A.drop a) (bW (R.drop (2*(j+1))))=jw A (bW R):=by{rintro(e|⟨M,f⟩);{rw[e,sF]at heq;rw[e,sF,←heq];simp};{rw[Zw M,GI f]at heq;rw[Zw M,←heq];simp}};refine aa.mk (λc=>?_) λc=>?_;{have c:a<A.length:=by{have:=Xo c;omega};refine ay.el (n:=a) eI Zb (m.drop.drop.an S) O c λp C=>?_;refine Ld.sc (s:=.int .i64) (A[a].1:J) (by rw[C 0 Zb];simp[ib]) ?_;rw[aj];refine Ld.ax m.p1 (p1:J) (by simp[ib]) ?_;refine aa.mk (λv=>?_) λf=>?_;{have v:A[a].1≤p1:=by{have:=Xo v;omega};rw[Zw c,GA v]at heq;refine ay.el (n:=a) eI Zb (m.drop.drop.an S) O c λp C=>?_;refine Ld.st (ks:=[.int .i64,.bool]) ((A[a].1:J),A[a].2,()) (λj hj=>C j hj) ?_;refine wU (g:=ib) (x:=A[a]) nG eI Zb O (pZ _) m Za Za λz w7 N _=>?_;rw[ae Za];refine⟨⟨a+1,l++[A[a]],O,Za,?_,N⟩,by dsimp only;omega⟩;rw[←heq];simp};{have f:¬A[a].1≤p1:=by{have:=Xm f;omega};refine Ld.Fq (ks:=[.int .i64,.bool]) m.p1 ((p1:J),U,()) O ?_;refine wU (g:=ib) (x:=(p1,U)) nG eI Zb O (pZ _) m Za Za λz w7 N _=>?_;exact⟨⟨a,j+1,l++[(p1,U)],O,Za,ha,Za,r (.inr ⟨c,f⟩),N.p1.drop⟩,by dsimp only;omega⟩}};{have c:A.drop a=[]:=by{grind};refine Ld.Fq (ks:=[.int .i64,.bool]) m.p1 ((p1:J),U,()) O ?_;refine wU (g:=ib) (x:=(p1,U)) nG eI Zb O (pZ _) m Za Za λz w7 N _=>?_;exact⟨⟨a,j+1,l++[(p1,U)],O,Za,ha,Za,r (.inl c),N.p1.drop⟩,by dsimp only;omega⟩}};{have t:¬2*j+1<R.length:=by{have:=Xm t;omega};rw[PW t,Di]at heq;refine cj.el (a:=a) (b:=A.length) (l:=A) eI la O (by rw[la]) ha (Zx _) Za (J.le_refl _) λz hs' hl' _=>?_;have u:=hs' w' (hh.drop.an S);rw[Zu Ze]at u;have hdl:(A.drop a).length≤2^20:=by{rw[ZA];omega};refine aek (g:=ib) nG eI Zb pZ hh u Za Za λs2 w2 D _=>hK s2 w2 ?_;rw[←heq];exact D}
end
end
end Go.Proofs.Q9
namespace Go.Pm
section
def yM{M:I}:∀{l:Q It},(∀x∈l,x.1≤M)→∀x∈bW l,x.1≤2*M|[],_,x,h=>by simp[bW]at h|[_],_,x,h=>by simp[bW]at h|a::b::l,hl,x,h=>by rw[bW]at h;(rcases List.mem_cons.1 h with rfl|h);{have:=hl a Zd;have:=hl b Zd;simp only;omega};{exact yM (λy c=>hl y (by simp[c])) x h}
def DO{c:Q I}{M:I}(h:∀x∈c,x≤M):∀k,∀x∈row c k,x.1≤M*2^k|0,x,a=>by{obtain⟨y,b,rfl⟩:=List.mem_map.1 a;simpa using h y b}|k+1,x,a=>by(rcases List.mem_append.1 ((FK _ _).mem_iff.1 a)with a|a);{obtain⟨y,b,rfl⟩:=List.mem_map.1 a;have:=h y b;have:=I.le_mul_of_pos_right M (Yl (k+1));simp only;omega};{have:=yM (DO h k) x a;rw[Yu];rw[←I.mul_assoc];omega}
def uv(a:Q I):∀k,(row a k).length≤2*a.length|0=>by rw[row,eY];omega|k+1=>by have:=uv a k;rw[gZ];omega
def M4{l:Q It}{j:I}(h:j<l.length):bQ (l.take (j+1))=bQ (l.take j)+if l[j].2=H then 1 else 0:=by unfold bQ;rw[ZC,Q.filter_append,Zg,Zh h];congr 1;by_cases e:l[j].2=H;{rw[Xh e];simp[e]};{rw[Xf e];simp[e]}
def Bp{l:Q It}{a b:I}(h:a≤b):bQ (l.take a)≤bQ (l.take b):=by have:=Zt a (l.take b);rw[Q.take_take,Xb h]at this;have c:=Xp bQ this;rw[qc]at c;omega
def RA(a:Q I){L:I}(b:1≤L)(i:I):lenOf a L i≤L:=by unfold lenOf;split;{exact b};{have:=Ft a (L-1) (2*a.length-2) i;omega}
def NY{a:Q I}(h:xh a)(k m:I)(b:m≤(row a k).length):bQ ((row a k).take m)≤a.length:=by cases k with|zero=>rw[row,eY]at b;rw[(Ad m b).1];exact b|succ k=>exact(oJ h k m b).2.1
end
end Go.Pm
namespace Go.Proofs.Q9
section
open Go Go.Vc Go.Srt Go.Pm
section
variable{E w:G}{F:Q HP}
theorem ti{b:I}{t:Xn}{l:Q I}{K:Xi Xe→G→Prop}(h:Hp E w (ag b (.cells (ai .u8 l) t (0,0))::F))(a:l.length=258)(e:∀w',Hp E w' (ag b (.cells (ai .u8 l) t (0,0))::F)→K (ai .u8 l) w'):Ld (.arr 258) ⟨b,0,V⟩ w λx=>aA 258 ⟨b,0,V⟩ x w λc=>Ld (.arr 258) ⟨b,0,V⟩ c λr=>K r c:=Ld.arr h (by rw[bm,a]) (aA.ax h (by rw[bm,a]) (by rw[bm,a]) nB λc d=>Ld.arr d (by rw[bm,a]) (e c d))
def qE(s:Sl):Q Xe:=[.slice s.base s.len s.cap]
theorem rM:∀x,(qE x).length=1:=λ_=>rfl
theorem WH:∀x,∀y∈qE x,aD y=H:=by intro x y a;have:y=.slice x.base x.len x.cap:=by{simpa[qE]using a};rw[this];rfl
theorem VM:cF Zf 306 304 1 24:=cF.of Zc Zc
def BW(b:Q I)(a:Q Sl)(G:Q HP):Prop:=∀j(c:j<a.length),ad G (aH 2 a[j] ((row b j).flatMap ib))∧a[j].len≤a[j].cap
theorem BW.more{c:Q I}{b:Q Sl}{G:Q HP}{s:Sl}(h:BW c b G)(d:s.len≤s.cap):BW c (b++[s]) (ao 2 s ((row c b.length).flatMap ib)::G):=by intro j e;(rcases Yd j b.length with a|f);{rw[Q.getElem_append_left a];exact⟨(h j a).1.cons,(h j a).2⟩};{have:j=b.length:=by{simp at e;omega};subst this;simp only[Q.getElem_append_right (Zx _),I.sub_self,Z4];exact⟨ad.own,d⟩}
theorem VH{L:I}(c:L≤15):br .i64 1 (u64 (L:J))=((2^L:I):J)∧(0:J)≤u64 (L:J):=by rw[jM Za];have d:2^L≤2^15:=ZS Zb c;have e:YN .i64=9223372036854775807:=O;have:=dv (k:=.i64) (a:=1) (b:=L) (by have:Xy.bits .i64=64:=O;omega) Ze;rw[I.one_mul]at this;exact⟨this,Za⟩
theorem Nq{l ys:Q I}(a:qW l):∀x∈bq l ys,x≤2147483647:=by intro x b;obtain⟨s,_,rfl⟩:=List.mem_map.1 b;rw[Zo];cases h:l[s]? with|none=>simp|some y=>exact a y (YY h)
theorem ac2{l ys:Q I}(a:qW l){k:I}(b:k≤15):∀x∈row (bq l ys) k,x.1≤2^60:=by intro x c;have e:=DO (Nq (ys:=ys) a) k x c;have d:2^k≤2^15:=ZS Zb b;have:=I.mul_le_mul_left 2147483647 d;omega
theorem JH{t:Q J}{L:J}{K:Xi Xe→J→Xx→Prop}(h:Hp E w F)(hl:t.length=258)(Y:(ch t=U∨L<1∨15<L∨∃l,t=ints l∧(2:J)^L.toNat<(used l).length)→∀w',Hp E w' F→K (ai .u8 (Zj 258 0)) 2 w')(hK2:∀l ys w',t=ints l→qW l→cP l ys→1≤L→L≤15→ys.length≤2^L.toNat→Hp E w' F→K (ai .u8 (gJ ys (lenOf (bq l ys) L.toNat))) 0 w'):Cl Zf [.arr 258,kI] 144 ⟨[.agg (aT t),.int .i64 L]⟩ w K:=by refine ui.ok _ _ _ _ ?_;rw[Cv];simp only[aZ];refine Nw.mk h λb4 w1 h1=>Nw.mk h1 λb6 w2 h2=>Ld.arr h2.p1 (by rw[fD,hl]) (Pn h2 hl (λhv w3 h3=>?_) λl hte hm hll ys s w3 A h3=>?_);{refine Ld.arr h3.p1 (by rw[fD,hl]) (vG h3 hl λw4 D=>aa.t Ze (ti D Zd λw5 u=>Y (.inl hv) w5 u.drop.drop))};{subst hte;have hlen:=ab2 hll A;have hin:=abS hll A;have hsl:s.len=ys.length:=by{have:=(h3.an ad.own).1;simp only[Zp,ints,ZB]at this;exact this.symm};refine Ld.arr h3.p2 (by rw[fD,hl]) (vG h3 hl λw4 D=>aa.f (by rw[tH hm];rfl) ?_);refine aa.mk (λhlt=>ti D.p1 Zd λw5 u=>Y (.inr (.inl (Xo hlt))) w5 u.drop.drop.drop) λM=>?_;have M:=Xm M;refine aa.mk (λhgt=>ti D.p1 Zd λw5 u=>Y (.inr (.inr (.inl Ze))) w5 u.drop.drop.drop) λhle=>?_;have hle:=Xm hle;obtain⟨N,rfl⟩:=J.eq_ofNat_of_zero_le (show 0≤L by omega);have hN:N≤15:=by{omega};have hN1:1≤N:=by{omega};obtain⟨e1,e2⟩:=VH hN;rw[e1];refine⟨e2,aa.mk (λhgt=>ti D.p1 Zd λw5 u=>Y (.inr (.inr (.inr ⟨l,rfl,?_⟩))) w5 u.drop.drop.drop) λhle2=>?_⟩;{have hgt:=Xo hgt;rw[Zm,←A.1.length_eq,←hsl];rw[show(2:J)^N=((2^N:I):J) by norm_cast];exact hgt};have hle2:ys.length≤2^N:=by{have:=Xm hle2;omega};have P:=CE A;have hwl:(bq l ys).length=ys.length:=Zp _;have hnd:=wo A;have z:∀s∈ys,s<258:=λs hs=>(hin s hs).1;have R:∀w',Hp E w' F→K (ai .u8 (gJ ys (lenOf (bq l ys) N))) 0 w':=λw' h'=>hK2 l ys w' rfl hm A Za Za Ze h';rw[←RO ys]at D;refine aa.mk (λh1=>?_) λh1=>?_;{have h1:ys.length=1:=by{have:(s.len:J)=1:=by{simpa using h1};omega};refine Px (i:=0) (D.an ad.own) Za ?_;have hx:=z _ (Zv (show 0<ys.length by omega));refine aF.wr D.p1 Za Za (by rw[bm,jf]) rfl λw5 u=>?_;rw[Zm]at u;have e:=G5 (k:=.u8) (l:=gJ ys λ_=>0) (i:=ys[0]) (x:=1);rw[show(Yx .u8 1)=.int .u8 ((1:I):J)from rfl,e,LO hnd Za]at u;have e3:gJ ys (λj=>if j=0 then 1 else 0)=gJ ys (lenOf (bq l ys) N):=wg λi S=>by{have:i=0:=by{omega};subst this;unfold lenOf;rw[Xh rfl,Xh Za]};rw[e3]at u;exact ti u (jf ..) λw6 h6=>R w6 h6.drop.drop.drop};{have h1:ys.length≠1:=by{grind};rw[LV]at D;refine Ld.arr D.p2 (by rw[bm,hll]) (RL D hll ad.own z hlen λs0 w5 u=>Nw.mk u λb38 w6 h6=>?_);have hc0:=u.jA;refine⟨λo k w'=>∃(g:Q Sl)(G:Q HP),k=(g.length:J)∧1≤g.length∧g.length≤N∧BW (bq l ys) g G∧Hp E w' (ao 1 o (g.flatMap qE)::ag b6 (.cells (ai .u8 (gJ ys λ_=>0)) 172 (0,0))::ao 1 s ((ints ys).map vI)::ag b4 (.cells (ai .i64 l) 237 (0,0))::(G++F)),λ_ k _=>N-k.toNat,⟨[s0],[ao 2 s0 ((kg (bq l ys)).flatMap ib)],rfl,Zx _,hN1,?_,?_⟩,?_⟩;{intro j hj;have:j=0:=by{simp at hj;omega};subst this;exact⟨ad.own,hc0⟩};{exact((h6.pU (sz:=1) (n:=1) rfl).p1.q4).p2.p1};rintro o k w7 ⟨g,G,rfl,hr1,hrN,hrs,C⟩;have hrl:=aH.len rM Zb (C.an ad.own);refine aa.mk (λhlt=>?_) λM=>?_;{have hlt:g.length<N:=by{have:=Xo hlt;omega};have hd:Hp E {w7 with drawn:=w7.drawn+1} _:=C.drew;have hrd:∀w',Hp E w' (ao 1 o (g.flatMap qE)::ag b6 (.cells (ai .u8 (gJ ys λ_=>0)) 172 (0,0))::ao 1 s ((ints ys).map vI)::ag b4 (.cells (ai .i64 l) 237 (0,0))::(G++F))→aH 1 o (g.flatMap qE) w':=λw' h'=>h'.an ad.own;have key:∀(i:I)(S:i<g.length){K:Xr→Prop},(∀p,(∀w,aH 1 o (g.flatMap qE) w→w.cell? p=Z (.slice g[i].base g[i].len g[i].cap))→K p)→ay o (i:J) 1 K:=by{intro i S K hK;obtain⟨p,hp,_⟩:=(hrd _ hd).2 i (by rw[de rM];omega);refine⟨p,hp,Za,Za,hK _ λw2 h2=>?_⟩;obtain⟨q,hq,hc⟩:=h2.2 i (by rw[de rM];omega);have:q=p:=Xj.some.inj (hq.symm.trans hp);subst this;rw[Zm,ZB,hc];have:=lS rM g i 0 S Zb;rw[ZB,Zr]at this;rw[←Zh,this];rfl};have hr0:=hrs 0 Za;have hrk:=hrs (g.length-1) Za;refine⟨aH 1 o (g.flatMap qE),hrd _ hd,?_⟩;refine key 0 Za λp hp=>aw.sc (s:=.sl) g[0] hp ?_;rw[show i64 ((g.length:J)-1)=((g.length-1:I):J) by rw[ae Za];omega];refine key (g.length-1) Za λq hq=>aw.sc (s:=.sl) g[g.length-1] hq ?_;have hlr:=uv (bq l ys) (g.length-1);refine abm hd (ad.cons (ad.cons (ad.cons (ad.cons hr0.1.Mu)))) (ad.cons (ad.cons (ad.cons (ad.cons hrk.1.Mu)))) hr0.2 (ac2 hm Za) (by rw[row,eY];omega) Za λs' w8 h8=>?_;have hcs:=h8.jA;refine⟨hrd _ h8.drop,Nw.mk h8 λb53 w9 h9=>⟨hrd _ h9.drop.drop,?_⟩⟩;refine yF (ys:=qE s') (n:=1) VM Zb (.inl ⟨304,Zc⟩) h9.p2 (.inl ⟨_,_,_,rfl,rfl,h9.an (ad.ax rfl rfl)⟩) rfl (WH s') Za Za λs2 w10 h10 _ hold=>⟨hold,?_⟩;have e:g.length-1+1=g.length:=by{omega};have er:jw (row (bq l ys) 0) (bW (row (bq l ys) (g.length-1)))=row (bq l ys) g.length:=by{(conv=>rhs;rw[←e,row]);rfl};rw[er]at h10;rw[ae Za];refine⟨⟨g++[s'],ao 2 s' ((row (bq l ys) g.length).flatMap ib)::G,Zd,Zd,by simp;omega,hrs.more hcs,?_⟩,by dsimp only;omega⟩;have h11:=h10.p1.drop;rw[Q.flatMap_append,show[s'].flatMap qE=qE s' by simp];exact h11.p1.q4};{have M:g.length=N:=by{have:=Xm M;omega};have tot15:∀i,lenOf (bq l ys) N i≤15:=λi=>Yk (RA _ hN1 i) hN;have htot:∀i,lenOf (bq l ys) N i=lv (bq l ys) (N-1) (2*ys.length-2) i:=λi=>by{unfold lenOf;rw[Xf Za,hwl]};refine⟨λT k w'=>∃f:I→I,(((k=-1∨T≤0)∧-1≤k∧k<N∧∀i,i<ys.length→f i=lenOf (bq l ys) N i)∨(∃c m:I,k=(c:J)∧c<N∧T=(m:J)∧m≤(row (bq l ys) c).length∧∀i,i<ys.length→f i+lv (bq l ys) c m i=lenOf (bq l ys) N i))∧Hp E w' (ag b6 (.cells (ai .u8 (gJ ys f)) 172 (0,0))::ao 1 o (g.flatMap qE)::ao 1 s ((ints ys).map vI)::ag b4 (.cells (ai .i64 l) 237 (0,0))::(G++F)),λ_ k _=>(k+1).toNat,⟨λ_=>0,?_,C.p1⟩,?_⟩;{rw[ae (x:=2*(s.len:J)) Za,ae (x:=2*(s.len:J)-2) Za,ae Za];(rcases Z6 ys.length with h0|h0);{grind};{refine .inr ⟨N-1,2*ys.length-2,Za,Za,Za,?_,λi _=>by rw[htot,Zk]⟩;rw[←hwl];exact AQ (N-1) Ze}};rintro T k w8 ⟨f,X,C⟩;have done:(∀i,i<ys.length→f i=lenOf (bq l ys) N i)→Hp E w8 (ag b6 (.cells (ai .u8 (gJ ys (lenOf (bq l ys) N))) 172 (0,0))::ao 1 o (g.flatMap qE)::ao 1 s ((ints ys).map vI)::ag b4 (.cells (ai .i64 l) 237 (0,0))::(G++F)):=λS=>by{rw[←wg S];exact C};refine aa.mk (λhk=>?_) λhk=>?_;{have hk:=Xo hk;refine aa.mk (λr=>?_) λr=>?_;{have r:=Xo r;(rcases X with⟨h0,_⟩|⟨c,m,rfl,hkN,rfl,B,X⟩);{omega};have hrk:=hrs c Za;have hlr:=uv (bq l ys) c;refine ay.el (n:=c) rM Zb (C.p1.an ad.own) rfl Za λp hp=>?_;refine Ld.sc (s:=.sl) g[c] (by have:=hp 0 Zb;rw[add_zero]at this;rw[this];rfl) ?_;have hrt:ad (G++F) (aH 2 g[c] ((row (bq l ys) c).flatMap ib)):=hrk.1.Mu;have hrl2:=aH.len eI Zb (C.drop.drop.drop.drop.an hrt);refine cj.el (a:=0) (b:=m) (l:=row (bq l ys) c) eI hrl2 rfl rfl Za B Za (J.le_refl _) λsm hsm hsml _=>?_;have hsm2:ad (G++F) (aH 2 sm (((row (bq l ys) c).take m).flatMap ib)):=hrt.imp λw' hw'=>by{simpa using hsm w' hw'};refine⟨λwh j w'=>∃d:I,j=(d:J)∧d≤m∧wh=(bQ ((row (bq l ys) c).take d):J)∧Hp E w' (ag b6 (.cells (ai .u8 (gJ ys λi=>f i+if i<bQ ((row (bq l ys) c).take d)then 1 else 0)) 172 (0,0))::ao 1 o (g.flatMap qE)::ao 1 s ((ints ys).map vI)::ag b4 (.cells (ai .i64 l) 237 (0,0))::(G++F)),λ_ j _=>m-j.toNat,⟨0,rfl,Za,rfl,C⟩,?_⟩;rintro wh j w9 ⟨d,rfl,hj,rfl,C⟩;have hlfm:=Bp (l:=row (bq l ys) c) (show d≤m from hj);have hlfn:=NY P c m B;refine aa.mk (λv=>?_) λv=>?_;{have v:d<m:=by{have:=Xo v;omega};have hjr:d<(row (bq l ys) c).length:=by{omega};have y:=M4 hjr;have hlfm2:=Bp (l:=row (bq l ys) c) (show d+1≤m from v);refine ay.el (n:=d) eI Zb (C.drop.drop.drop.drop.an hsm2) rfl Ze λp hp=>?_;rw[YQ]at hp;refine Ld.st (ks:=[.int .i64,.bool]) (((row (bq l ys) c)[d].1:J),(row (bq l ys) c)[d].2,()) (λj hj=>hp j hj) ?_;refine Nw.mk C λb80 w10 h10=>ak.ax h10 rfl (pZ (row (bq l ys) c)[d]) λw11 h11=>?_;rw[aj];refine Ld.ax h11 (row (bq l ys) c)[d].2 Ze ?_;have h12:=h11.drop;refine aa.mk (λhlf=>?_) λhlf=>?_;{rw[Xh hlf]at y;have W:bQ ((row (bq l ys) c).take d)<ys.length:=by{omega};have hx:=z _ (Zv W);have hfi:=X _ W;have h15:=tot15 (bQ ((row (bq l ys) c).take d));have hlv:1≤lv (bq l ys) c m (bQ ((row (bq l ys) c).take d)):=by{cases c with|zero=>unfold lv whole;rw[Xh Za];exact Zx _|succ c=>unfold lv whole;rw[Xh Za];omega};refine Px (h12.p2.an ad.own) W ?_;refine aF.rd (s:=.int .u8) h12 Za Za _ (Q3 (by rw[jf];omega)) ?_;rw[CC hnd z W,Xf Za,Zr];refine aF.wr h12 Za Za (by rw[bm,jf]) rfl λw13 h13=>?_;rw[Zm,jY Za,show((f (bQ ((row (bq l ys) c).take d)):J)+1)=((f (bQ ((row (bq l ys) c).take d))+1:I):J) by omega,G5,LO hnd W]at h13;rw[ae (x:=(bQ ((row (bq l ys) c).take d):J)+1) Za,ae Za];refine⟨⟨d+1,rfl,Za,Za,?_⟩,by dsimp only;omega⟩;rw[y];have e:gJ ys (λi=>f i+if i<bQ ((row (bq l ys) c).take d)+1 then 1 else 0)=gJ ys (λj=>if j=bQ ((row (bq l ys) c).take d)then f (bQ ((row (bq l ys) c).take d))+1 else f j+if j<bQ ((row (bq l ys) c).take d)then 1 else 0):=wg λi _=>Ze;rw[e];exact h13};{rw[Xf Ze]at y;have y:bQ ((row (bq l ys) c).take (d+1))=bQ ((row (bq l ys) c).take d):=y;rw[ae Za];refine⟨⟨d+1,rfl,Za,by rw[y],?_⟩,by dsimp only;omega⟩;rw[y];exact h12}};{have v:d=m:=by{have:=Xm v;omega};subst v;have hlj:bQ ((row (bq l ys) c).take d)≤d:=by{unfold bQ;have:=Q.length_filter_le (λx:It=>x.2) ((row (bq l ys) c).take d);rw[Zz]at this;omega};rw[ae (x:=(d:J)-_) Za,ae (x:=2*_) Za,ae Za];refine⟨⟨_,?_,C⟩,by dsimp only;omega⟩;cases c with|zero=>refine .inl ⟨.inl Za,Za,Za,λi S=>?_⟩;have:=X i S;unfold lv whole at this;exact this|succ c=>refine .inr ⟨c,2*(d-whole (bq l ys) (c+1) d),Za,Za,?_,(oJ P c d B).2.2.1,λi S=>?_⟩;{show 2*((d:J)-(whole (bq l ys) (c+1) d:J))=_;have:whole (bq l ys) (c+1) d≤d:=hlj;omega};{have:=X i S;rw[lv]at this;rw[←this];unfold whole;omega}}};{have r:=Xm r;refine ti (done ?_) (jf ..) λw9 h9=>R w9 h9.drop.drop.drop.drop.xR;(rcases X with⟨_,_,_,h0⟩|⟨c,m,rfl,hkN,rfl,B,X⟩);{exact h0};{intro i S;have h0:=X i S;have hm0:m=0:=by{omega};subst hm0;rw[Dm P c 0 i B (by simp[whole,bQ]),Zr]at h0;exact h0}}};{have hk:=Xm hk;refine ti (done ?_) (jf ..) λw9 h9=>R w9 h9.drop.drop.drop.drop.xR;(rcases X with⟨_,_,_,h0⟩|⟨c,m,rfl,hkN,rfl,B,X⟩);{exact h0};{omega}}}}}
end
end
end Go.Proofs.Q9
namespace Go.Pm
section
structure RIt where
 w:I
 sym:J
 one:I
 two:I
end
end Go.Pm
namespace Go.Proofs.Q9
section
open Go Go.Vc Go.Srt Go.Pm
section
variable{E w:G}{F:Q HP}
abbrev RK:Q Sc:=[.int .i64,.int .i64,.int .i64,.int .i64]
def tR(x:RIt):TT RK:=((x.w:J),x.sym,(x.one:J),(x.two:J),())
end
end
end Go.Proofs.Q9
namespace Go.Srt
section
def By(l:Q I):∃ys,cP l ys:=by have f:∀a b c:I,K (l.getD a 0<l.getD b 0∨(l.getD a 0=l.getD b 0∧a≤b))=H→K (l.getD b 0<l.getD c 0∨(l.getD b 0=l.getD c 0∧b≤c))=H→K (l.getD a 0<l.getD c 0∨(l.getD a 0=l.getD c 0∧a≤c))=H:=Ze;have g:∀a b:I,(decide (l.getD a 0<l.getD b 0∨(l.getD a 0=l.getD b 0∧a≤b))||K (l.getD b 0<l.getD a 0∨(l.getD b 0=l.getD a 0∧b≤a)))=H:=Ze;have i:=Q.pairwise_mergeSort (le:=λa b=>decide (l.getD a 0<l.getD b 0∨(l.getD a 0=l.getD b 0∧a≤b))) f g (used l);have e:=Q.mergeSort_perm (used l) λa b=>decide (l.getD a 0<l.getD b 0∨(l.getD a 0=l.getD b 0∧a≤b));have j:(used l).Nodup:=Q.Pairwise.filter _ (Q.nodup_range (n:=l.length));have d:=e.nodup_iff.2 j;exact⟨_,e,(i.and d).imp λ{a b} h=>by have:=Xo h.1;have:=h.2;omega⟩
structure eA (t:Q J) (L:J) (u ys:Q I) (N:I):Prop where
 eq:t=Proofs.Q9.ints u
 max:qW u
 len:u.length=258
 ord:cP u ys
 lim:L=(N:J)
 one:1≤N
 top:N≤15
 few:ys.length≤2^N
def Iy{u v:Q I}(h:Proofs.Q9.ints u=Proofs.Q9.ints v):u=v:=(Q.map_inj_right λx y h=>by have h:(x:J)=(y:J):=h;omega).1 h
end
end Go.Srt
namespace Go.Proofs.Q9
section
open Go Go.Vc Go.Srt Go.Pm
section
variable{E w:G}{F:Q HP}
theorem VV{t:Q J}{L:J}{u ys:Q I}{N:I}(b:eA t L u ys N):¬(ch t=U∨L<1∨15<L∨∃l,t=ints l∧(2:J)^L.toNat<(used l).length):=by obtain⟨rfl,c,e,a,rfl,f,g,i⟩:=b;rintro(h|h|h|⟨l,h,d⟩);{rw[tH c]at h;cases h};{omega};{omega};{obtain rfl:=Iy h;rw[←a.1.length_eq,Zm,show(2:J)^N=((2^N:I):J) by norm_cast]at d;omega}
def jV(u ys:Q I)(N:I):Q I:=gJ ys (lenOf (bq u ys) N)
theorem Ng(u ys:Q I)(N:I):(jV u ys N).length=258:=jf ..
theorem SZ{t:Q J}{L:J}{u ys:Q I}{N:I}{K:Xi Xe→J→G→Prop}(a:eA t L u ys N)(h:Hp E w F)(c:∀w',Hp E w' F→K (ai .u8 (jV u ys N)) 0 w'):Cl Zf [.arr 258,kI] 144 ⟨[.agg (aT t),.int .i64 L]⟩ w K:=by refine JH h (by rw[a.eq,iO,a.len]) (λd=>Xu d (VV a)) λl zs w' e i b j k m f=>?_;have:l=u:=Iy (e.symm.trans a.eq);subst this;obtain rfl:=Rp b a.ord;have g:=c w' f;rw[a.lim,Zm];exact g
end
end
end Go.Proofs.Q9
namespace Go.Srt
section
open Go.Pm
def Sv(ys:Q I)(g:I→I):(ys.map g).sum=over ys.length λi=>g (ys.getD i 0):=by unfold over;congr 1;refine YP Zd λi a c=>?_;have b:i<ys.length:=by{simpa using a};simp[b]
def Pv{u ys:Q I}{f:I→I}(c:u.length=258)(b:cP u ys)(d:∀i,i<ys.length→1≤f i):used (gJ ys f)=used u:=by unfold used;rw[jf,c];refine Q.filter_congr λs a=>?_;have a:s<258:=by{simpa using a};rw[Ot a];have e:s∈ys↔0<u.getD s 0:=by{rw[b.1.mem_iff,fL,c];exact⟨λh=>h.2,λh=>⟨a,h⟩⟩};by_cases h:s∈ys;{grind};{grind}
def NS{u ys:Q I}{f:I→I}(e:u.length=258)(a:cP u ys)(d:∀i,i<ys.length→1≤f i∧f i≤15):bB (gJ ys f)=over ys.length λi=>2^(15-f i):=by have c:∀s∈ys,s<258:=λs g=>by{have:=(fL.1 (a.1.mem_iff.1 g)).1;omega};rw[DR,Pv e a λi b=>(d i b).1,←(a.1.map _).sum_nat,Sv];refine oo λi b=>?_;rw[getD_at b,CC (wo a) c b];have:=d i b;unfold wt;rw[Xf Za,Xf Za]
section
variable{t:Q J}{L:J}{u ys:Q I}{N:I}
theorem eA.wl(a:eA t L u ys N):(bq u ys).length=ys.length:=Zp _
theorem eA.Mc(a:eA t L u ys N){i:I}(b:i<ys.length):1≤lenOf (bq u ys) N i∧lenOf (bq u ys) N i≤N:=QU (CE a.ord) a.one (by rw[a.wl];exact a.few) (by rw[a.wl];exact b)
theorem p15:2^15=32768:=Zb
theorem eA.adS(a:eA t L u ys N)(d:2≤ys.length):bB (Proofs.Q9.jV u ys N)=32768:=by have j:=a.top;have k:=a.one;have e:=NS (f:=lenOf (bq u ys) N) a.len a.ord λi b=>by{have:=a.Mc b;omega};have c:=Ii (CE a.ord) (N-1) (by rw[a.wl];exact d) (by rw[a.wl,show N-1+1=N by omega];exact a.few);rw[a.wl,show N-1+1=N by omega]at c;unfold Proofs.Q9.jV;rw[e,oo (g:=λi=>2^(15-N)*2^(N-lv (bq u ys) (N-1) (2*ys.length-2) i)) λi b=>by have:=a.Mc b;have h:lenOf (bq u ys) N i=lv (bq u ys) (N-1) (2*ys.length-2) i:=by{unfold lenOf;rw[Xf (by rw[a.wl];omega),a.wl]};rw[h]at this⊢;rw[←I.pow_add,show 15-N+(N-lv (bq u ys) (N-1) (2*ys.length-2) i)=15-lv (bq u ys) (N-1) (2*ys.length-2) i by omega],Sf,c,←I.pow_add,show 15-N+N=15 by omega,p15]
theorem eA.bytes(a:eA t L u ys N):∀y∈Proofs.Q9.jV u ys N,y<256:=by intro y b;obtain⟨s,_,rfl⟩:=List.mem_map.1 b;have c:=a.top;split;{rename_i h;have:=a.Mc (Q.idxOf_lt_length_of_mem h);omega};{decide}
theorem eA.at(a:eA t L u ys N){i:I}(b:i<ys.length):(Proofs.Q9.jV u ys N).getD ys[i] 0=lenOf (bq u ys) N i:=CC (wo a.ord) (λs c=>by have:=(fL.1 (a.ord.1.mem_iff.1 c)).1;have:=a.len;omega) b
end
end
end Go.Srt
namespace Go.Sym
section
def wL:∀(b L:Q I)(r:I),bY L→(∀x∈b,x<256)→(b≠[]∨0<r)→∃s∈dy L r b,s<257|[],L,r,_,_,h=>by have a:0<r:=by{(rcases h with h|h);{exact Xu O h};{exact h}};rw[mv,oU a];exact⟨(r-1)%2,Zd,Za⟩|c::b,L,r,hL,hb,_=>by by_cases h0:L.idxOf c=0;{rw[kH h0];exact wL b _ _ (hL.take Zb) (λx d=>hb x (Zy _ d)) (.inr Za)};{rw[lX h0];have:=hL.idx (hb c ZK);exact⟨L.idxOf c+1,Zd,Za⟩}
def Tt{b:Q I}(h:b≠[])(a:∀x∈b,x<256):∃s∈syms b,s<257:=wL b _ 0 bY.range a (.inl h)
def S5(b:Q I):257∈syms b:=by unfold syms dy;simp
def Ll(n:I):(di n).length≤n:=by induction n using ZU with|ind n a=>by_cases h:n=0;{subst h;rw[oY];exact Zx _};{rw[oU Za,Zq];have:=a ((n-1)/2) Za;omega}
def py:∀(b L:Q I)(r:I),(dy L r b).length≤r+b.length+1|[],L,r=>by rw[mv,Zg];have:=Ll r;simp;omega|c::b,L,r=>by by_cases h0:L.idxOf c=0;{rw[kH h0];have:=py b (cX L 0) (r+1);rw[Zq];omega};{rw[lX h0,Zg,Zq,Zq];have:=py b (cX L (L.idxOf c)) 0;have:=Ll r;omega}
def ub(b:Q I):(syms b).length≤b.length+1:=by have:=py b (Zs 256) 0;unfold syms;omega
end
end Go.Sym
namespace Go.ag
section
open Go.Inc Go.Srt Go.Sym Go.Bits Go.Tab Go.Bw Go.Pm
def lu(a:Q I):Q I:=(Zs 258).map λs=>a.count s
def mH(a:Q I):(lu a).length=258:=by unfold lu;simp
def Kq(a:Q I){s:I}(h:s<258):(lu a).getD s 0=a.count s:=by unfold lu;rw[Zo,ZZ,Yy h];rfl
def CR{ss:Q I}(h:ss.length≤2147483647):qW (lu ss):=λx a=>by obtain⟨s,_,rfl⟩:=List.mem_map.1 a;exact Yk Q.count_le_length h
def fL{u:Q I}{s:I}:s∈used u↔s<u.length∧0<u.getD s 0:=by unfold used;rw[Q.mem_filter,Y9,decide_eq_true_iff]
def CK{u a:Q I}(h:cP u a){s:I}:s∈a↔s<u.length∧0<u.getD s 0:=by rw[h.1.mem_iff,fL]
def UA{u a:Q I}(b:u.length=258)(h:cP u a):a.length≤258:=by rw[h.1.length_eq,←b];unfold used;exact Yk (Q.length_filter_le ..) Zd
def Ln{u b:Q I}(c:u.length=258)(d:qW u)(a:cP u b):eA (Proofs.Q9.ints u) 15 u b 15 where eq:=O;max:=d;len:=c;ord:=a;lim:=O;one:=Zb;top:=Zb;few:=Yk (UA c a) Zb
def KC{u d b:Q I}(q:u.length=258)(r:qW u)(c:cP u d)(f:0<u.getD 257 0)(t:∃s,s<257∧0<u.getD s 0)(v:∀s∈syms b,0<u.getD s 0)(w:∀x∈b,x<256):pQ (Proofs.Q9.jV u d 15) b:=by have g:=Ln q r c;have j:∀s,s<258→0<u.getD s 0→0<(Proofs.Q9.jV u d 15).getD s 0:=by{intro s y l;have k:s∈d:=(CK c).2 ⟨Za,l⟩;obtain⟨i,p,e⟩:=List.mem_iff_getElem.1 k;have m:=g.at p;have z:=(g.Mc p).1;rw[e]at m;omega};have l:2≤d.length:=by{obtain⟨s,y,m⟩:=t;have n:s∈d:=(CK c).2 ⟨Za,m⟩;have o:257∈d:=(CK c).2 ⟨Za,f⟩;match d,n,o with|[a],n,o=>rw[ZL]at n o;omega|_::_::_,_,_=>simp};refine⟨Proofs.Q9.Ng _ _ _,oP.2 ⟨g.adS l,j 257 Zb f⟩,λs h=>?_⟩;have:=xI w s h;exact⟨Za,j s Za (v s h)⟩
noncomputable def CY(u:Q I):Q I:=Classical.choose (By u)
def Cr(u:Q I):cP u (CY u):=Classical.choose_spec (By u)
noncomputable def acJ(a:Q I):Q I:=Proofs.Q9.jV (lu a) (CY (lu a)) 15
noncomputable def iR(x:Q I):Q I:=acJ (syms (aU x.reverse))
def Nt{a:Q I}(h:a.length≤2147483647):eA (Proofs.Q9.ints (lu a)) 15 (lu a) (CY (lu a)) 15:=Ln (mH a) (CR h) (Cr _)
def ox{x:Q I}(k:0<x.length)(l:x.length≤1000000)(g:∀c∈x,c<256):pQ (iR x) (aU x.reverse):=by have b:=Stm.Nc g;have i:aU x.reverse≠[]:=by{intro e;have:=Xp Yh e;rw[dh,Z3,ZN]at this;omega};have a:(syms (aU x.reverse)).length≤2147483647:=by{have:=ub (aU x.reverse);rw[dh,Z3]at this;omega};have d:∀s∈syms (aU x.reverse),0<(lu (syms (aU x.reverse))).getD s 0:=by{intro s h;have:=xI b s h;rw[Kq _ Za];exact List.count_pos_iff.2 h};obtain⟨s,j,f⟩:=Tt i b;exact KC (mH _) (CR a) (Cr _) (d 257 (S5 _)) ⟨s,f,d s j⟩ d b
def U6{a:Q I}(h:∀s∈a,s≤257):Hs.iU (Zj 258 0) (Proofs.Q9.ints a)=Proofs.Q9.ints (lu a):=by have b:(Proofs.Q9.ints a).all Hs.od=H:=by{refine List.all_eq_true.2 λz e=>?_;obtain⟨s,f,rfl⟩:=List.mem_map.1 e;have:=h s f;exact Hs.sC.2 Za};refine YR λi=>?_;have k:(Hs.iU (Zj 258 0) (Proofs.Q9.ints a)).length=258:=by{rw[Hs.sD];simp};by_cases hi:i<258;{have c:=Hs.ya (zs:=Proofs.Q9.ints a) (t:=Zj 258 0) b Zd i;rw[Zo,Zh Za]at c;rw[Zh Za];have d:=Kq a hi;rw[Zo,Zh (by rw[mH];exact hi)]at d;have g:(Proofs.Q9.ints (lu a))[i]?=Z (((lu a)[i]'(by rw[mH];exact hi):I):J):=by{unfold Proofs.Q9.ints;rw[ZZ,Zh (by rw[mH];exact hi)];rfl};rw[g];simp only[YD]at c d;rw[c,d];have j:((Proofs.Q9.ints a).count (i:J))=a.count i:=by{unfold Proofs.Q9.ints;rw[Q.count_eq_countP,Q.countP_map,Q.count_eq_countP];refine Q.countP_congr λx _=>?_;simp only[Function.comp,XA];omega};rw[j,Zo,Q.getElem?_replicate,Xh hi];simp};{rw[Ya Za,Ya (by rw[Proofs.Q9.iO,mH];omega)]}
end
end Go.ag
namespace Go.Vc
section
def qF(l:Q I)(i:I):Q I:=(Zs l.length).map λp=>if p<i∨l.length-i≤p then l.getD (l.length-1-p) 0 else l.getD p 0
def oW(l:Q I)(i:I):(qF l i).length=l.length:=by unfold qF;simp
def sJ{l:Q I}{i p:I}(h:p<l.length):(qF l i)[p]?=Z (if p<i∨l.length-i≤p then l.getD (l.length-1-p) 0 else l.getD p 0):=by unfold qF;rw[ZZ,Yy h];rfl
def Q0(l:Q I):qF l 0=l:=by refine YR λp=>?_;by_cases h:p<l.length;{rw[sJ h,Xf Za,Zh h,Zo,Zh h];rfl};{rw[Ya (by rw[oW];omega),Ya Za]}
def Tr{l:Q I}{i:I}(h:2*i+1<l.length):((qF l i).set i (l.getD (l.length-1-i) 0)).set (l.length-1-i) (l.getD i 0)=qF l (i+1):=by refine YR λp=>?_;by_cases hp:p<l.length;{rw[sJ hp,Q.getElem?_set,Q.getElem?_set,sJ hp];by_cases h1:l.length-1-i=p;{subst h1;rw[Xh O,Xh (by rw[Q.length_set,oW];omega),Xh Za,show l.length-1-(l.length-1-i)=i by omega]};{rw[Xf h1];by_cases h2:i=p;{subst h2;rw[Xh O,Xh (by rw[oW];omega),Xh Za]};{grind}}};{rw[Ya (by rw[Q.length_set,Q.length_set,oW];omega),Ya (by rw[oW];omega)]}
def Wt{l:Q I}{i:I}(h:l.length≤2*i+1):qF l i=l.reverse:=by refine YR λp=>?_;by_cases hp:p<l.length;{rw[sJ hp,Q.getElem?_reverse hp];have e:∀q,q<l.length→l[q]?=Z (l.getD q 0):=λq a=>by{rw[Zo,Zh a];rfl};rw[e _ Za];by_cases h3:p<i∨l.length-i≤p;{rw[Xh h3]};{grind}};{rw[Ya (by rw[oW];omega),Ya Ze]}
end
end Go.Vc
namespace Go.Proofs.Q9
section
open Go Go.Vc
section
variable{E w:G}{F:Q HP}
theorem PY{s:Sl}{l:Q I}{K:G→Prop}(h:Hp E w (ao 1 s (l.map vB)::F))(a:l.length≤cK)(f:∀w',Hp E w' (ao 1 s (l.reverse.map vB)::F)→K w'):Cl Zf [] 269 ⟨[.slice s.base s.len s.cap]⟩ w K:=by refine po.ok _ _ _ ?_;have b:=h.aS;rw[Zp,ZB]at b;rw[aL]at a;rw[ae Za];refine⟨λi j w'=>∃k:I,i=(k:J)∧j=(l.length:J)-1-(k:J)∧k≤l.length∧Hp E w' (ao 1 s ((qF l k).map vB)::F),λi _ _=>l.length-i.toNat,⟨0,O,Za,Za,by rw[Q0];exact h⟩,?_⟩;rintro i j w ⟨k,rfl,rfl,hk,h⟩;refine aa.dm (λg=>?_) λm=>?_;{have x:∀p,(e:p<l.length)→((qF l k).map vB)[p]?=Z (vB (if p<k∨l.length-k≤p then l.getD (l.length-1-p) 0 else l.getD p 0)):=λp e=>by{rw[ZZ,sJ e];rfl};have n:((l.length:J)-1-(k:J)).toNat=l.length-1-k:=by{omega};refine aC.mk h λw h=>?_;refine ay.rd (h.an ad.own) Za Za λq o r=>?_;have t:((qF l k).map vB)[((l.length:J)-1-(k:J)).toNat]' o=vB (l.getD (l.length-1-k) 0):=by{grind};refine Ld.sc (s:=.int .u8) (l.getD (l.length-1-k) 0:J) (by rw[r,t];rfl) ?_;refine ay.rd (h.an ad.own) Za Za λy c d=>?_;have u:((qF l k).map vB)[((k:J)).toNat]' c=vB (l.getD k 0):=by{grind};refine Ld.sc (s:=.int .u8) (l.getD k 0:J) (by rw[d,u];rfl) ?_;refine St.own h Za Za O λw h=>?_;refine St.own h Za Za O λw h=>?_;rw[ae Za,ae Za];refine⟨⟨k+1,Za,Za,Za,?_⟩,by first|omega|(dsimp only;omega)⟩;rw[n,Zm]at h;have v:(((qF l k).map vB).set k (.int .u8 (l.getD (l.length-1-k) 0:J))).set (l.length-1-k) (.int .u8 (l.getD k 0:J))=(qF l (k+1)).map vB:=by{rw[←Tr Za,Q.map_set,Q.map_set];rfl};rw[v]at h;exact h};{rw[Wt Za]at h;exact f _ h}
end
end
section
open Go Go.Vc Go.Hd
section
variable{E w:G}{F:Q HP}
theorem ab7{n:I}{K:Sl→J→G→Prop}(h:Hp E w F)(k:n≤65536)(o:∀s w',Hp E w' (ao 1 s ((fY n).map vB)::F)→K s 0 w'):Cl Zf [kS,kI] 270 ⟨[.int .i64 (n:J)]⟩ w K:=by refine NJ.ok _ _ _ ?_;refine aa.df Za (aa.df Za ?_);have v:YN .i64=9223372036854775807:=O;have a:∀m:I,m≤65536→cg .i64 (m:J) 127=((m%128:I):J):=λm h=>by{rw[show(127:J)=((127:I):J)from O,fO Za Za,show(127:I)=2^7-1 from O,I.and_two_pow_sub_one_eq_mod]};have c:∀m:I,aJ .i64 (m:J) 7=((m/128:I):J):=λm=>by{rw[show(7:J)=((7:I):J)from O,cw Zb]};rw[a n k,jY Za];refine Nw.mk h λp w h=>?_;refine aX (s:=⟨V,0,0⟩) (ys:=[vB (n%128)]) (n:=1) uH Zb (.inl ⟨5,Zc⟩) (h.aR 1) (.inl ⟨Z ⟨p,0,V⟩,1,1,O,O,h.an (ad.ax O O)⟩) O GF Zb Zb λs w h _=>?_;refine⟨Zb,?_⟩;rw[c];refine⟨λx s w'=>∃(m:I)(l:Q I),x=(m:J)∧m≤512∧l.length+m≤513∧qu m++l.reverse=fY n∧Hp E w' (ao 1 s (l.map vB)::F),λx _ _=>x.toNat,⟨n/128,[n%128],O,Za,by simp;omega,O,h.p1.drop⟩,?_⟩;rintro x s w ⟨m,l,rfl,hm5,hl,hv,h⟩;refine aa.dm (λq=>?_) λr=>?_;{have d:0<m:=by{omega};have f:gO .u8 ((m%128:I):J) 128=((128+m%128:I):J):=by{have t:YN .u8=255:=O;have e:=YT (i:=7) (b:=m%128) Za 1;have u:m%128|||128=128+m%128:=by{rw[I.or_comm];exact e.symm};rw[show(128:J)=((128:I):J)from O,lp Za Za Ze,u]};rw[a m Za,jY Za,f];have g:=h.aS;rw[Zp,ZB]at g;refine Nw.mk h λj w h=>?_;refine aX (ys:=[vB (128+m%128)]) (n:=1) uH Zb (.inl ⟨5,Zc⟩) h.p1 (.inl ⟨Z ⟨j,0,V⟩,1,1,O,O,h.an (ad.ax O O)⟩) O GF Za Za λs w h _=>?_;refine⟨Zb,?_⟩;rw[c];refine⟨⟨m/128,l++[128+m%128],O,Za,by rw[Zg,ZO];omega,?_,by rw[ZE];exact h.p1.drop⟩,by first|omega|(dsimp only;omega)⟩;rw[Q.reverse_append,←hv,oX d];simp};{have d:m=0:=by{omega};subst d;rw[mI,ZR]at hv;refine PY h (by rw[aL];omega) λw h=>o s w ?_;rw[hv]at h;exact h}
end
end
section
open Go Go.Vc
set_option maxRecDepth 100000
def Ra.ok(a:J)(b:Sl)(R:J→G→Prop) w(h:Cl Pg [(.arr 256)] 149 ⟨[]⟩ w λd c=>Nw 246 ⟨Zj 256 (.int .u32 0)⟩ c λf e=>aA 256 ⟨f,0,V⟩ d e λg=>dn (jR .u32 (if Xy.signed .u32 then-1 else YN .u32) a) 0 g λh i(j:J)(k:J) l=>aa (K (k<(b.len:J))) (ay b k 1 λm=>Ld kS m l λ(n:Sl)=>dn j 0 l λo p(q:J)(r:J) s=>aa (K (r<(n.len:J))) (ay n r 1 λt=>Ld (av .u8) t s λ(u:J)=>aF ⟨f,0,V⟩ 256 (jR .u8 (u8 q) u) 1 λv=>Ld (av .u32) v s λ(x:J)=>0≤(8:J)∧o (jR .u32 x (aJ .u32 q (8:J))) (i64 (r+1)) s∧p (jR .u32 x (aJ .u32 q (8:J))) (i64 (r+1)) s<p q r s) (h q (i64 (k+1)) s∧i q (i64 (k+1)) s<i j k l)) (R (jR .u32 (if Xy.signed .u32 then-1 else YN .u32) j) l)):Cl Pg [(av .u32)] 95 ⟨[(.int .u32 a),(ah b)]⟩ w R:=co Tryz.f95 [(9,[(0,(av .u32)),(15,kI)]),(18,[(0,(av .u32)),(21,kI)])] h
def Qk.ok(R:(Xi Xe)→G→Prop) w(h:Nw 246 ⟨Zj 256 (.int .u32 0)⟩ w λb a=>eE 0 a λc d(e:J) f=>aa (K (e<256)) (Cl Pg [(av .u32)] 219 ⟨[(.int .u8 (u8 e))]⟩ f λ(h:J) g=>aF ⟨b,0,V⟩ 256 e 1 λi=>St i (.int .u32 h) g λj=>c (i64 (e+1)) j∧d (i64 (e+1)) j<d e f) (Ld (.arr 256) ⟨b,0,V⟩ f λk=>aA 256 ⟨b,0,V⟩ k f λl=>Ld (.arr 256) ⟨b,0,V⟩ l λm=>R m l)):Cl Pg [(.arr 256)] 149 ⟨[]⟩ w R:=co Tryz.f149 [(5,[(2,kI)])] h
def V1.ok(a:J)(R:Sl→G→Prop) w(h:Nw 316 ⟨[(.int .u8 0),(.int .u8 0),(.int .u8 0),(.int .u8 0)]⟩ w λc b=>eE 0 b λd e(f:J) g=>aa (K (f<4)) (0≤(i64 ((24:J)-(i64 ((8:J)*f))))∧aF ⟨c,0,V⟩ 4 f 1 λh=>St h (.int .u8 (u8 (aJ .u32 a (i64 ((24:J)-(i64 ((8:J)*f))))))) g λi=>d (i64 (f+1)) i∧e (i64 (f+1)) i<e f g) (cj (⟨Z ⟨c,0,V⟩,4,4⟩:Sl) 0 4 4 1 λj=>R j g)):Cl Pg [kS] 151 ⟨[(.int .u32 a)]⟩ w R:=co Tryz.f151 [(7,[(5,kI)])] h
def Uy.ok(a:J)(R:J→G→Prop) w(h:dn (u32 a) 0 w λb c(d:J)(e:J) f=>aa (K (e<8)) (0≤(1:J)∧b (jR .u32 (aJ .u32 d (1:J)) (u32 ((3988292384:J)*(cg .u32 d 1)))) (i64 (e+1)) f∧c (jR .u32 (aJ .u32 d (1:J)) (u32 ((3988292384:J)*(cg .u32 d 1)))) (i64 (e+1)) f<c d e f) (R d f)):Cl Pg [(av .u32)] 219 ⟨[(.int .u8 a)]⟩ w R:=co Tryz.f219 [(7,[(3,(av .u32)),(6,kI)])] h
end
end Go.Proofs.Q9
namespace Go.Crc
section
def SL(c:I):(c/2)^^^(3988292384*(c%2))=half c:=by unfold half;(rcases I.mod_two_eq_zero_or_one c with e|e);{rw[e];rfl};{rw[e];rfl}
def gY:I→I→I|0,c=>c|k+1,c=>half (gY k c)
def Ex:∀(k c:I),c<4294967296→gY k c<4294967296|0,_,h=>h|k+1,c,h=>ja (Ex k c h)
end
end Go.Crc
namespace Go.Proofs.Q9
section
open Go Go.Vc Go.Crc
section
variable{E w:G}{F:Q HP}
theorem XT{b:I}{K:J→G→Prop}(d:b<256)(e:K (row b:J) w):Cl Zf [av .u32] 219 ⟨[.int .u8 (b:J)]⟩ w K:=by refine Uy.ok _ _ _ ?_;refine⟨λc i w'=>w'=w∧∃k:I,i=(k:J)∧k≤8∧c=(gY k b:J),λ_ i _=>8-i.toNat,⟨O,0,O,Za,by rw[jE Za];rfl⟩,?_⟩;rintro c i w' ⟨rfl,k,rfl,hk,rfl⟩;refine aa.dm (λa=>?_) λf=>?_;{have a:k<8:=by{omega};have d:=Ex k b Za;have n:YN .u32=4294967295:=O;have o:=ja d;have g:aJ .u32 (gY k b:J) 1=((gY k b/2:I):J):=by{rw[show(1:J)=((1:I):J)from O,cw Zb]};have h:cg .u32 (gY k b:J) 1=((gY k b%2:I):J):=by{rw[show(1:J)=((1:I):J)from O,fO Za Za,I.and_one_is_mod]};have j:u32 ((3988292384:J)*((gY k b%2:I):J))=((3988292384*(gY k b%2):I):J):=by{rw[jE Za];omega};have l:jR .u32 ((gY k b/2:I):J) ((3988292384*(gY k b%2):I):J)=(gY (k+1) b:J):=by{have m:=SL (gY k b);rw[uN Za Za Ze,m];rfl};rw[g,h,j,l,ae Za];exact⟨Zb,⟨O,k+1,O,Za,O⟩,by dsimp only;omega⟩};{have:k=8:=by{omega};subst this;exact e}
def gz:Q I:=(Zs 256).map row
theorem pF:gz.length=256:=by unfold gz;simp
theorem Is{b:I}(h:b<256):gz[b]?=Z (row b):=by unfold gz;rw[ZZ,Yy h];rfl
abbrev kA(l:Q I):Q Xe:=l.map λ(n:I)=>Yx .u32 (n:J)
theorem A4{l:Q I}:(kA l).all aD=H:=by unfold kA;rw[Q.all_map];exact List.all_eq_true.2 λ_ _=>rfl
theorem aaG{K:Xi Xe→G→Prop}(h:Hp E w F)(f:∀w',Hp E w' F→K ⟨kA gz⟩ w'):Cl Zf [.arr 256] 149 ⟨[]⟩ w K:=by refine Qk.ok _ _ ?_;refine Nw.mk h λg w h=>?_;have b:∀k,k≤256→(kA (gz.take k++Zj (256-k) 0)).length=256:=λk j=>by{simp[pF];omega};refine⟨λi w'=>∃k:I,i=(k:J)∧k≤256∧Hp E w' (ag g (.cells ⟨kA (gz.take k++Zj (256-k) 0)⟩ 246 (0,0))::F),λi _=>256-i.toNat,⟨0,O,Za,by have:(⟨kA (gz.take 0++Zj (256-0) 0)⟩:Xi Xe)=⟨Zj 256 (.int .u32 0)⟩:=by{simp};rw[this];exact h⟩,?_⟩;rintro i w ⟨k,rfl,j,h⟩;refine aa.dm (λa=>?_) λl=>?_;{have a:k<256:=by{omega};rw[jY Za];refine XT a ?_;refine⟨Za,Za,?_⟩;rw[show((k:J)).toNat*1=k by omega];simp only[aj,Zk];have n:=b k Za;refine St.xb h (by show k<(kA (gz.take k++Zj (256-k) 0)).length;omega) O λw h=>?_;rw[ae Za];refine⟨⟨k+1,O,Za,?_⟩,by first|omega|(dsimp only;omega)⟩;have e:(⟨kA (gz.take k++Zj (256-k) 0)⟩:Xi Xe).setIfInBounds k (.int .u32 (row k:J))=⟨kA (gz.take (k+1)++Zj (256-(k+1)) 0)⟩:=by{apply Xi.ext';rw[Yp];have:(kA (gz.take k++Zj (256-k) 0)).set k (.int .u32 (row k:J))=kA ((gz.take k++Zj (256-k) 0).set k (row k)):=by{rw[kA,kA,Q.map_set]};have o:(gz.take k).length=k:=by{rw[Zz,pF];omega};rw[this,Q.set_append_right _ _ Za,o,I.sub_self];obtain⟨m,p⟩:∃m,256-k=m+1:=⟨255-k,Za⟩;rw[p,Q.replicate_succ,Q.set_cons_zero,ZC,Is a,show 256-(k+1)=m by omega];simp};rw[e]at h;exact h};{have d:k=256:=by{omega};subst d;have e:(⟨kA (gz.take 256++Zj (256-256) 0)⟩:Xi Xe)=⟨kA gz⟩:=by{rw[Zu (by rw[pF];omega)];simp};rw[e]at h;have c:(⟨kA gz⟩:Xi Xe).size=256:=by{simp[pF]};refine Ld.xw h c ?_;refine aA.q h c c A4 λw h=>?_;exact Ld.xw h c (f _ h.tl)}
theorem ada:(if Xy.signed .u32 then(-1:J)else YN .u32)=((4294967295:I):J):=O
theorem TY{c:I}(h:c<4294967296):jR .u32 (if Xy.signed .u32 then(-1:J)else YN .u32) (c:J)=((c^^^4294967295:I):J):=by have a:YN .u32=4294967295:=O;have b:4294967295^^^c<2^32:=I.xor_lt_two_pow Zb Za;rw[ada,uN Za Za Za,I.xor_comm]
theorem Rq{c x:I}(a:c<4294967296)(b:x<256):jR .u8 (u8 (c:J)) (x:J)=((c%256^^^x:I):J):=by have d:YN .u8=255:=O;have e:c%256^^^x<2^8:=I.xor_lt_two_pow Za Za;rw[wZ,show((c:J)%256)=((c%256:I):J) by omega,uN Za Za Za]
theorem C8{c x:I}(a:x<256):c%256^^^x<256:=by have:c%256^^^x<2^8:=I.xor_lt_two_pow Za Za;omega
theorem Qp{c x:I}(b:c<4294967296)(a:x<256):jR .u32 (row (c%256^^^x):J) (aJ .u32 (c:J) 8)=(Crc.step c x:J):=by have e:YN .u32=4294967295:=O;have f:=Qt (c:=c%256^^^x) (by have:=C8 (c:=c) a;omega);have d:=K6 b a;unfold Crc.step at d⊢;rw[show(8:J)=((8:I):J)from O,cw Zb,show(2:I)^8=256 from O,uN Za Za Za]
end
end
section
open Go Go.Vc Go.Bits
section
variable{E w:G}{F:Q HP}
theorem QG{a:Q (Q I)}{k:I}(h:k<a.length):(a.take (k+1)).flatten=(a.take k).flatten++a.getD k []:=by rw[ZC,Q.flatten_append];congr 1;simp[h]
theorem acV{b:I}(h:b<256):(⟨kA gz⟩:Xi Xe)[b]?=Z (Sc.enc (.int .u32) (Crc.row b:J)):=by rw[Q.getElem?_toArray,kA,ZZ,Is h];rfl
theorem CU{c:I}{K:J→G→Prop}{s:Sl}{cs:Q Sl}{bs:Q (Q I)}(h:Hp E w F)(u:c<4294967296)(R:ad F (aH 1 s (cs.map λx=>.slice x.base x.len x.cap)))(hl:cs.length=bs.length)(D:cs.length≤cK)(Y:∀i(h:i<cs.length),ad F (aH 1 cs[i] ((bs.getD i []).map vB)))(g:∀b∈bs,∀y∈b,y<256)(v:∀b∈bs,b.length≤cK)(hK:∀w',Hp E w' F→K ((Crc.feed (c^^^4294967295) bs.flatten^^^4294967295:I):J) w'):Cl Zf [av .u32] 95 ⟨[.int .u32 (c:J),.slice s.base s.len s.cap]⟩ w K:=by refine Ra.ok _ _ _ _ ?_;have S:s.len=cs.length:=by{have:=(h.an R).1;simpa using this.symm};have l:∀y∈bs.flatten,y<256:=λy a=>by{obtain⟨b,m,o⟩:=List.mem_flatten.1 a;exact g b m y o};have z:c^^^4294967295<4294967296:=I.xor_lt_two_pow (n:=32) u Zb;rw[aL]at D;refine aaG h λw h=>Nw.mk h λT w h=>?_;have hn:(⟨kA gz⟩:Xi Xe).size=256:=by{simp[pF]};refine aA.q h Zd hn A4 λw h=>?_;rw[TY u];refine⟨λx i w'=>∃k:I,i=(k:J)∧k≤cs.length∧x=(Crc.feed (c^^^4294967295) (bs.take k).flatten:J)∧Hp E w' (ag T (.cells ⟨kA gz⟩ 246 (0,0))::F),λ_ i _=>cs.length-i.toNat,⟨0,O,Za,O,h⟩,?_⟩;rintro x i w ⟨k,rfl,hk,rfl,h⟩;refine aa.dm (λA=>?_) λhge=>?_;{have A:k<cs.length:=by{omega};have p:k<bs.length:=by{omega};refine ay.rd (h.tl.an R) Za Za λq hi L=>?_;have M:w.cell? q=Z (Sc.sl.enc cs[k]):=by{simpa using L};refine Ld.sc _ M ?_;have B:bs.getD k []=bs[k]:=by{rw[Zo,Zh p];rfl};have r:=Y k A;rw[B]at r;have f:=Zv p;have t:=v _ f;rw[aL]at t;have N:=(h.tl.an r).1;simp only[Zp,ZB]at N;refine⟨λx i w'=>∃j:I,i=(j:J)∧j≤bs[k].length∧x=(Crc.feed (c^^^4294967295) ((bs.take k).flatten++bs[k].take j):J)∧Hp E w' (ag T (.cells ⟨kA gz⟩ 246 (0,0))::F),λ_ i _=>bs[k].length-i.toNat,⟨0,O,Za,Zd,h⟩,?_⟩;rintro x i w ⟨j,rfl,hj,rfl,h⟩;have C:∀y∈(bs.take k).flatten++bs[k].take j,y<256:=λy a=>by{(rcases List.mem_append.1 a with a|a);{obtain⟨b,m,o⟩:=List.mem_flatten.1 a;exact g b (Ym m) y o};{grind}};have d:=Crc.xT _ _ z C;refine aa.dm (λW=>?_) λX=>?_;{have e:j<bs[k].length:=by{omega};have a:=g _ f _ (Zv e);refine ay.rd (h.tl.an r) Za Za λq hi L=>?_;refine Ld.sc (s:=.int .u8) (bs[k][j]:J) (by simpa[vB]using L) ?_;rw[Rq d a];refine aF.rd (s:=.int .u32) h Za (by have:=C8 (c:=Crc.feed (c^^^4294967295) ((bs.take k).flatten++bs[k].take j)) a;omega) (Crc.row (Crc.feed (c^^^4294967295) ((bs.take k).flatten++bs[k].take j)%256^^^bs[k][j]):J) ?_ ?_;{rw[Zm];exact acV (C8 (c:=Crc.feed (c^^^4294967295) ((bs.take k).flatten++bs[k].take j)) a)};rw[Qp d a,ae Za];refine⟨Zb,⟨j+1,O,Za,?_,h⟩,by first|omega|(dsimp only;omega)⟩;rw[ZC,Zh e,←Zn,Crc.IP ((bs.take k).flatten++bs[k].take j)];rfl};{have e:j=bs[k].length:=by{omega};subst e;rw[ae Za,Ye];exact⟨⟨k+1,O,Za,by rw[QG p,B],h⟩,by first|omega|(dsimp only;omega)⟩}};{have P:k=bs.length:=by{omega};subst P;rw[Ye];have d:=Crc.xT _ _ z l;rw[TY d];exact hK _ h.tl}
end
end
end Go.Proofs.Q9
end
