/- Texts packed together by program; spaces struck by program. Conditions: as each theorem states. -/
import Derived.MapKept
import Derived.Test.YtjnhljphfgcamaaGreatDoorQrb
set_option linter.all false
set_option maxRecDepth 20000
set_option maxHeartbeats 1000000
open _root_ renaming Array->X5,Array.ext'->XG,Array.replicate->Y6,Array.toList_setIfInBounds->Yt,Bool->X4,Bool.and_eq_true->ZI,Bool.eq_iff_iff->Yj,Bool.false->U,Bool.or_eq_true->YJ,Bool.true->J,ByteArray->Wc,ByteArray.mk->ZO,Decidable->WI,Decidable.decide->We,DecidableEq->WC,Function.comp->XV,Go.Addr->Wg,Go.Addr.add->YD,Go.Builtin->Wq,Go.Builtin.append_->ZE,Go.Builtin.nextslicecap->XU,Go.Builtin.zeroCells->XL,Go.Instr.fill->YU,Go.Instr.lookup->Yi,Go.Instr.makeMap->YW,Go.Instr.mapUpdate->Zp,Go.Instr.sameBits->Xz,Go.IntKind->Wl,Go.IntKind.max->YR,Go.MapKept.run_getObj_map->Xq,Go.Op.equalIn->Ys,Go.Oper->Wp,Go.Program->X6,Go.Proofs.Tryz.prog->Zj,Go.Region.ready->Z2,Go.Result.andThen_ok->Ya,Go.Sem.run_bind->Ye,Go.TypeId->Wb,Go.Value->G,Go.Value->Ws,Go.Value.int->Yv,Go.World->X0,Go.convert->WD,Go.run_underlying->Wh,Go.undef->Wk,Go.zeroValue->Wv,Int->H,Int.toNat_natCast->Zi,List->Q,List->Wu,List.Perm.cons->XK,List.all_append->XY,List.all_eq_true->XQ,List.append_assoc->Zm,List.append_nil->ZF,List.cons_append->ZR,List.count_append->XN,List.drop_drop->Yr,List.drop_eq_getElem_cons->Zu,List.drop_of_length_le->ZU,List.drop_zero->YM,List.ext_getElem->Yu,List.ext_getElem?->YH,List.filter_append->Y9,List.flatMap_append->Xm,List.flatMap_cons->Yn,List.flatten_append->Xl,List.flatten_cons->Yf,List.getD->Yl,List.getD_eq_getElem?_getD->Zn,List.getElem?_append_left->ZQ,List.getElem?_append_right->ZN,List.getElem?_eq_getElem->Zg,List.getElem?_eq_none->Z8,List.getElem?_map->ZZ,List.getElem?_range->Yh,List.getElem_cons_succ->YF,List.getElem_cons_zero->ZH,List.getElem_drop->Xy,List.getElem_map->Xr,List.getElem_mem->Zs,List.getElem_of_mem->ZY,List.getElem_take->Y4,List.length->Z3,List.length_append->Zf,List.length_cons->Zo,List.length_drop->ZB,List.length_map->Zl,List.length_nil->ZG,List.length_range->YP,List.length_replicate->ZP,List.length_reverse->Z7,List.length_set->YV,List.length_singleton->ZJ,List.length_take->Zy,List.map_append->ZD,List.map_congr_left->ZX,List.map_cons->ZV,List.map_drop->XH,List.map_map->YC,List.map_nil->YY,List.map_set->XB,List.mem_append->XA,List.mem_append_left->XM,List.mem_cons->YT,List.mem_cons_of_mem->Zz,List.mem_cons_self->ZM,List.mem_of_getElem?->YO,List.mem_of_mem_drop->Yo,List.mem_of_mem_take->Z6,List.mem_range->YS,List.mem_singleton->ZC,List.nil_append->ZS,List.not_mem_nil->Xf,List.perm_append_comm->Z1,List.perm_middle->Xe,List.range->Zt,List.range_succ->Y3,List.replicate->Zh,List.sum_append->YN,List.sum_cons->XP,List.take_add_one->Zx,List.take_append_drop->Zv,List.take_length->Z0,List.take_of_length_le->Zr,List.take_succ_cons->YB,List.take_zero->XJ,Min.min->WE,Nat->I,Nat->WA,Nat.add_assoc->Yy,Nat.add_mul->Y8,Nat.add_zero->Zq,Nat.and_two_pow_sub_one_eq_mod->Xp,Nat.beq->Xb,Nat.div_eq_of_lt->Xi,Nat.eq_of_beq_eq_true->Yk,Nat.eq_zero_or_pos->Yd,Nat.le_of_ble_eq_true->YX,Nat.le_refl->ZA,Nat.le_trans->Z9,Nat.lt_or_ge->Yc,Nat.min_eq_left->Y0,Nat.mod_eq_of_lt->Xh,Nat.mod_lt->Xg,Nat.mul_assoc->Xs,Nat.mul_comm->Yb,Nat.mul_le_mul->Xx,Nat.mul_le_mul_right->ZL,Nat.mul_one->Zw,Nat.pow_le_pow_right->ZT,Nat.pow_succ->Yx,Nat.reduceAdd->Z5,Nat.strongRecOn->ZW,Nat.sub_self->XD,Nat.sub_zero->Xn,Nat.succ_mul->Yg,Nat.two_pow_add_eq_or_of_lt->Y7,Nat.two_pow_pos->Ym,Nat.xor_lt_two_pow->Xw,Nat.zero_add->Zk,Nat.zero_le->Z4,Option->X7,Option.getD_some->YK,Option.isNone->ZK,Option.map_some->Yq,Option.none->V,Option.some->Z,Option.some.inj->XE,Prod.mk.injEq->YL,Pure.pure->Wt,absurd->Wi,beq_iff_eq->Wn,congrArg->Wm,decide_eq_false->Wf,decide_eq_true->Wd,decide_eq_true_eq->Wo,decide_eq_true_iff->Ww,if_neg->K,if_neg->Wa,if_pos->X3,of_decide_eq_false->X8,of_decide_eq_true->X9,rfl->O
noncomputable section
namespace Go.Vc
section
open Go
structure l8 (P:X6) {α:Type} [WC α] (kt:Wb) (ke:α->G):Prop where
 und:∃d,P.underlying kt=Z d/\∀a b,Instr.sameNow d (ke a) (ke b)=V\/Instr.sameNow d (ke a) (ke b)=Z (We (a=b))
 check:∀e a w,(Instr.checkKey e 10000 kt (ke a)).run P w=.ok () w
 eq:∀a b w,(Op.equal kt (ke a) (ke b)).run P w=.ok (We (a=b)) w
 same:∀a,Xz 10000 (ke a) (ke a)=J
section
variable{P:X6}{α β:Type}[WC α]{ke:α->G}{ve:β->G}{kt:Wb}
def iU(ke:α->G)(ve:β->G)(a:Q MapEntry)(l:Q (α×β)):Prop:=a.map (λe=>(e.key,e.val))=l.map λp=>(ke p.1,ve p.2)
def findAt(a:α):Q (α×β)->I->X7 (I×β)|[],_=>V|p::l,i=>if a=p.1 then Z (i,p.2)else findAt a l (i+1)
def sF{e:MapEntry}{b:Q MapEntry}{l:Q (α×β)}(h:iU ke ve (e::b) l):∃p a,l=p::a/\e.key=ke p.1/\e.val=ve p.2/\iU ke ve b a:=by unfold iU at h;cases l with|nil=>simp at h|cons p a=>simp only[ZV,Q.cons.injEq,YL]at h;exact⟨p,a,O,h.1.1,h.1.2,h.2⟩
theorem Dj(c:l8 P kt ke)(a:α)(w:X0):∀(b:Q MapEntry)(l:Q (α×β))(i:I),iU ke ve b l->(Instr.findAsking kt (ke a) b i).run P w=.ok ((findAt a l i).map λq=>(q.1,ve q.2)) w|[],l,i,h=>by have:l=[]:=by{unfold iU at h;cases l<;>simp at h⊢};subst this;simp[Instr.findAsking,findAt]|e::b,l,i,h=>by obtain⟨p,d,rfl,f,g,j⟩:=sF h;simp only[Instr.findAsking,Ye,f,c.eq,Ya,findAt];by_cases hq:a=p.1;{simp[hq,g]};simp[hq,Dj c a w b d (i+1) j]
theorem QP{d:TypeDesc}(g:∀a b,Instr.sameNow d (ke a) (ke b)=V\/Instr.sameNow d (ke a) (ke b)=Z (We (a=b)))(a:α):∀(c:Q MapEntry)(l:Q (α×β))(i:I),iU ke ve c l->Instr.findNow d (ke a) c i=V\/Instr.findNow d (ke a) c i=Z ((findAt a l i).map λq=>(q.1,ve q.2))|[],l,i,h=>by have:l=[]:=by{unfold iU at h;cases l<;>simp at h⊢};subst this;exact .inr rfl|e::c,l,i,h=>by obtain⟨p,j,rfl,k,n,o⟩:=sF h;unfold Instr.findNow;rw[k];(rcases g a p.1 with f|f);{rw[f];exact .inl rfl};rw[f];by_cases hq:a=p.1;{right;simp[findAt,hq,n]};simp only[hq,decide_false,findAt,if_false];exact QP g a c j (i+1) o
def tg(e:l8 P kt ke)(a:α)(w:X0)(b:Q MapEntry)(l:Q (α×β))(h:iU ke ve b l):(Instr.findKey kt (ke a) b).run P w=.ok ((findAt a l 0).map λq=>(q.1,ve q.2)) w:=by obtain⟨d,f,g⟩:=e.und;simp only[Instr.findKey,Ye,Wh f,Ya];(rcases QP (ve:=ve) g a b l 0 h with c|c);{rw[c];exact Dj e a w b l 0 h};rw[c];rfl
def fj(a:α)(b:β):Q (α×β)->Q (α×β)|[]=>[(a,b)]|p::l=>if a=p.1 then(a,b)::l else p::fj a b l
theorem yq{a:α}:∀{l:Q (α×β)}{i j:I}{v:β},findAt a l i=Z (j,v)->i<=j|[],i,j,v,h=>by simp[findAt]at h|p::l,i,j,v,h=>by unfold findAt at h;split at h;{simp at h;omega};have:=yq h;omega
theorem IL{a:α}{b:β}{f:MapEntry->MapEntry}(g:∀e,e.key=ke a->(f e).key=ke a/\(f e).val=ve b):∀{c:Q MapEntry}{l:Q (α×β)}{i j:I}{v:β},iU ke ve c l->findAt a l i=Z (i+j,v)->iU ke ve (c.modify j f) (fj a b l)|[],l,i,j,v,h,hf2=>by have:l=[]:=by{unfold iU at h;cases l<;>simp at h⊢};subst this;simp[findAt]at hf2|e::c,l,i,j,v,h,hf2=>by obtain⟨p,x,rfl,k,o,d⟩:=sF h;unfold findAt at hf2;unfold fj;by_cases hq:a=p.1;{rw[X3 hq]at hf2⊢;have:j=0:=by{simp at hf2;omega};subst this;obtain⟨q,r⟩:=g e (by rw[k,hq]);unfold iU at d⊢;simp[Q.modify,q,r,d]};rw[K hq]at hf2⊢;have s:=yq hf2;obtain⟨j,rfl⟩:∃u,j=u+1:=⟨j-1,Za⟩;have n:=IL (f:=f) g (i:=i+1) (j:=j) (v:=v) d (by rw[hf2];congr 2;omega);unfold iU at n⊢;simp only[Q.modify_succ_cons,ZV,n,k,o]
theorem Jo{a:α}:∀{b:Q MapEntry}{l:Q (α×β)}{i j:I}{v:β},iU ke ve b l->findAt a l i=Z (i+j,v)->∃e,b[j]?=Z e/\e.key=ke a|[],l,i,j,v,h,hf2=>by have:l=[]:=by{unfold iU at h;cases l<;>simp at h⊢};subst this;simp[findAt]at hf2|e::b,l,i,j,v,h,hf2=>by obtain⟨p,q,rfl,c,r,d⟩:=sF h;unfold findAt at hf2;by_cases hq:a=p.1;{rw[X3 hq]at hf2;have:j=0:=by{simp at hf2;omega};subst this;exact⟨e,rfl,by rw[c,hq]⟩};rw[K hq]at hf2;have f:=yq hf2;obtain⟨j,rfl⟩:∃g,j=g+1:=⟨j-1,Za⟩;obtain⟨k,n,o⟩:=Jo (i:=i+1) (j:=j) (v:=v) d (by rw[hf2];congr 2;omega);exact⟨k,by simpa using n,o⟩
theorem xU{a:α}{b:β}:∀{l:Q (α×β)}{i:I},findAt a l i=V->fj a b l=l++[(a,b)]|[],_,_=>rfl|p::l,i,h=>by unfold findAt at h;unfold fj;by_cases hq:a=p.1;{rw[X3 hq]at h;cases h};rw[K hq]at h⊢;rw[xU h];rfl
end
def gE{α β:Type}(ke:α->G)(ve:β->G)(m:X7 I)(l:Q (α×β)):HP:=λf=>∃b c a,m=Z b/\iU ke ve c.toList l/\f=bA.one b (.map c a)
section
variable{P:X6}{α β:Type}[WC α]{ke:α->G}{ve:β->G}{kt vt t:Wb}{E w:X0}{F:Q HP}{m:X7 I}{l:Q (α×β)}
def Hp.zi(h:Hp E w (gE ke ve m l::F)):∃b d c,m=Z b/\iU ke ve d.toList l/\Hp E w (aq b (.map d c)::F):=by obtain⟨f,a,g,k,i,e,⟨b,d,c,j,n,o⟩,p⟩:=h.frag;exact⟨b,d,c,j,n,h.os,h.output,h.tape,f,a,g,k,i,e,o,p⟩
def Hp.OA{b a:I}{c:X5 MapEntry}(h:Hp E w (aq b (.map c a)::F))(d:iU ke ve c.toList l):Hp E w (gE ke ve (Z b) l::F):=h.aaK λ_ e=>⟨b,c,a,O,d,e⟩
def run_makeMap{K:X7 I->ad}(h:Hp E w F)(a:∀m w',Hp E w' (gE ke ve m []::F)->K m w'):aC P (YW t V) kM w K:=by unfold aC;have e:(YW t V).run P w=.ok (.map (Z w.heap.size)) (w.alloc (.map #[] 0)):=O;rw[e];exact a _ _ (Hp.OA (h.alloc _) O)
def ct(s:l8 P kt ke)(z:P.underlying t=Z (.map kt vt)){a:α}{b:β}{K:G->ad}(h:Hp E w (gE ke ve m l::F))(B:bu E (gE ke ve m (fj a b l)::F) (K Wk)):aC P (do Zp t (.map m) (ke a) (ve b);Wt Wk) kV w K:=by obtain⟨r,k,c,rfl,n,A⟩:=h.zi;have u:=A.aF;have f:=tg (ve:=ve) s a w k.toList l n;have key:∀g d,(do Zp t (.map (Z r)) (ke a) (ve b);Wt Wk:Sem G).run P w=.ok Wk {w with heap:=w.heap.setIfInBounds r (.map g d)}->iU ke ve g.toList (fj a b l)->aC P (do Zp t (.map (Z r)) (ke a) (ve b);Wt Wk) kV w K:=by{intro g d C D;unfold aC;rw[C];exact B _ (Hp.OA (A.setObj rfl rfl rfl rfl) D)};cases hf:findAt a l 0 with|none=>rw[hf]at f;refine key (k.push ⟨ke a,ve b,c⟩) (c+1) ?_ ?_;{simp[Zp,Wh z,Xq u,s.check,f,MapKept.run_setObj_map _ u]};rw[xU hf];unfold iU at n⊢;simp[n]|some q=>obtain⟨j,v⟩:=q;rw[hf]at f;have o:(Instr.findKey kt (ke a) k.toList).run P w=.ok (Z (j,ve v)) w:=f;have p:((k[j]?).map (·.key)).getD (ke a)=ke a:=by{obtain⟨e,x,y⟩:=Jo (ke:=ke) (ve:=ve) n (i:=0) (j:=j) (v:=v) (by simpa using hf);have:k[j]?=Z e:=by{simpa using x};rw[this];exact y};refine key (k.modify j λe=>{e with key:=ke a,val:=ve b}) c ?_ ?_;{simp[Zp,Wh z,Xq u,s.check,o,p,Instr.keyThatStays,s.same,MapKept.run_setObj_map _ u]};rw[X5.toList_modify];exact IL (ke:=ke) (ve:=ve) (a:=a) (b:=b) (λe _=>⟨rfl,rfl⟩) n (i:=0) (j:=j) (v:=v) (by simpa using hf)
theorem vC(c:l8 P kt ke)(e:P.underlying t=Z (.map kt vt)){a:α}{z:G}(g:∀w,(Wv vt).run P w=.ok z w)(h:Hp E w (gE ke ve m l::F)):(Yi t (.map m) (ke a) J).run P w=.ok (.tuple #[(match findAt a l 0 with|some q=>ve q.2|none=>z),.bool (findAt a l 0).isSome]) w:=by obtain⟨r,i,d,rfl,j,k⟩:=h.zi;have f:=k.aF;have b:=tg (ve:=ve) c a w i.toList l j;cases hf:findAt a l 0 with|none=>rw[hf]at b;simp[Yi,Wh e,Xq f,c.check,b,g]|some q=>rw[hf]at b;simp[Yi,Wh e,Xq f,c.check,b]
end
section
variable{P:X6}{α β:Type}[WC α]{ke:α->G}{ve:β->G}{kt vt t ty:Wb}{E w:X0}{F:Q HP}{m:X7 I}{l:Q (α×β)}
def abc{a:Q MapEntry}(h:iU ke ve a l):a.length=l.length:=by have:=Wm Z3 h;simpa using this
theorem Ah(c:l8 P kt ke)(e:P.underlying t=Z (.map kt vt)){a:α}{z:G}(g:∀w,(Wv vt).run P w=.ok z w)(h:Hp E w (gE ke ve m l::F)):(Yi t (.map m) (ke a) U).run P w=.ok (match findAt a l 0 with|some q=>ve q.2|none=>z) w:=by obtain⟨r,i,d,rfl,j,k⟩:=h.zi;have f:=k.aF;have b:=tg (ve:=ve) c a w i.toList l j;cases hf:findAt a l 0 with|none=>rw[hf]at b;simp[Yi,Wh e,Xq f,c.check,b,g]|some q=>rw[hf]at b;simp[Yi,Wh e,Xq f,c.check,b]
def Ix(b:P.underlying t=Z (.map kt vt)){K:H->ad}(h:Hp E w (gE ke ve m l::F))(c:K (l.length:H) w):aC P (Wq.len_ #[t] ty ⟨[.map m]⟩) kI w K:=by obtain⟨r,i,a,rfl,d,e⟩:=h.zi;have f:=e.aF;have g:=abc d;unfold aC;have:(Wq.len_ #[t] ty ⟨[.map (Z r)]⟩).run P w=.ok (ni (l.length:H)) w:=by{simp[Wq.len_,Wh b,Xq f,goInt,<-g]};rw[this];exact c
end
end
section
def agW{v c:I}(g:v<16777216)(h:c<256):js .u32 (bH .u32 (v:H) 8) (u32 (c:H))=((256*v+c:I):H):=by have d:YR .u32=4294967295:=O;have e:bH .u32 (v:H) 8=((v*256:I):H):=by{have:=dO (k:=.u32) (a:=v) (b:=8) Zb (by rw[d];omega);simpa using this};have f:v*256|||c=256*v+c:=by{rw[Yb v 256];exact(Y7 (i:=8) Za v).symm};rw[e,ly Za,mM (by rw[d];omega) (by rw[d];omega) Ze,f]
end
end Go.Vc
namespace Go.Hd
section
open Go.Inc Go.Srt
def zb(s:HS):Prop:=s.at_<=3/\(s.at_<3->s.v=0)/\s.v<=65536
def jZ(n:I)(m:MS):Prop:=(m.at_=0/\m=dP)\/(m.at_=1/\m.v<=n/\m.M=0/\m.P=0/\m.sum=0/\m.many=0)\/(m.at_=2/\1<=m.M/\m.M<=n/\m.v<=m.M/\m.P=0/\m.sum=0/\m.many=0)\/(m.at_=3/\1<=m.M/\m.M<=n/\1<=m.P/\m.P<=m.M/\m.v=0/\m.many<=3/\m.sum<256^m.many)\/(m.at_=5/\m.M=0/\m.P=0/\m.v=0/\m.many<=3/\m.sum<256^m.many)
def xg{s b:HS}{c:I}(h:zb s)(d:c<256)(a:cf s c=.more b):zb b:=by unfold cf at a;split at a;{split at a;{cases a;exact⟨by dsimp only;omega,λ_=>rfl,by dsimp only;omega⟩};cases a};split at a;{cases a};{cases a};rename_i n e;cases a;exact⟨by dsimp only;omega,λh=>by dsimp only at h;omega,(jr d e).1⟩
def GL{s:HS}{c n:I}(b:c<256)(a:cf s c=.fin n):1<=n/\n<=65536:=by unfold cf at a;split at a;{grind};split at a;{cases a};{rename_i n d;cases a;have:=jr b d;omega};cases a
def ri{n:I}{s g:MS}{c:I}(h:jZ n s)(f:c<256)(a:bq n s c=.more g):jZ n g:=by obtain⟨i,v,M,P,e,b⟩:=s;unfold jZ at h;unfold bq at a;dsimp only at h a;split at a;{split at a;{cases a;right;right;right;right;simp};split at a;{cases a;right;left;simp};cases a};split at a;{split at a;{cases a};{rename_i m d;have:=jr f d;cases a;right;right;left;simp;omega};rename_i m d;have:=jr f d;cases a;right;left;simp;omega};split at a;{split at a;{cases a};{rename_i m d;have:=jr f d;cases a;right;right;right;left;simp;omega};rename_i m d;have:=jr f d;cases a;right;right;left;simp;omega};split at a;{grind};cases a;rename_i k;(rcases h with⟨h,_⟩|⟨h,_⟩|⟨h,_⟩|⟨h,j⟩|⟨h,j⟩);{omega};{omega};{omega};{right;right;right;left;simp only;have:256*e+c<256^(b+1):=by{rw[Yx];omega};refine⟨h,?_⟩;omega};right;right;right;right;simp only;have:256*e+c<256^(b+1):=by{rw[Yx];omega};refine⟨h,?_⟩;omega
def sg{n:I}{s:MS}{c:I}{M P u:I}(h:jZ n s)(a:bq n s c=.fin (.aF M P u)):1<=M/\M<=n/\1<=P/\P<=M:=by obtain⟨d,v,f,g,e,b⟩:=s;unfold jZ at h;unfold bq at a;dsimp only at h a;split at a;{grind};split at a;{split at a<;>cases a};split at a;{grind};grind
end
end Go.Hd
namespace Go.Proofs.Q9
section
open Go Go.Vc Go.Srt Go.Inc Go.Hd
abbrev T2:=H×H×Unit
abbrev hsT(s:HS):H×H×H×H×Unit:=((s.at_:H),(s.v:H),(vm s.v:H),0,())
abbrev msT(m:MS):H×H×H×H×H×H×H×Unit:=((m.at_:H),(m.v:H),(vm m.v:H),(m.M:H),(m.P:H),(m.sum:H),(m.many:H),())
section
variable{E w:X0}{F:Q HP}
def aft:Tryz.prog.underlying 3=Z (.int .i64):=Zc
def qP:l8 Zj (α:=H) 3 (λn=>Yv .i64 n)where und:=⟨_,aft,λa b=>.inr O⟩;check:=λe a w=>by{have:∀(e:X4)(c:H)(w:X0),(Instr.checkKey e 10000 3 (ni c)).run Zj w=.ok () w:=λe c w=>Zc;exact this e a w};eq:=λa b w=>by{exact(run_equalIn_int w 9999 _ _ _ _ _ aft).trans (by rw[show(a==b)=We (a=b)from O])};same:=λa=>by simp[Xz]
theorem eQ{a b c:H}{K:X4->ad}(e:K (We (b<=a/\a<=c)) w):aD 171 [ni a,ni b,ni c] w K:=by refine GW.ok _ _ _ _ _ ?_;(first|refine aa.dm (λd=>?_) (λd=>?_)|refine aa.em (λd=>?_) (λd=>?_)|refine aa.nm (λd=>?_) (λd=>?_)|refine aa.mk (λd=>?_) λd=>?_);{grind};grind
def Ek{v:I}{a:H}{K:X4->ad}(h:Hp E w F)(c:v<=65536)(d:(v:H)<=a)(e:bu E F (K J)):aD 309 [.agg ⟨[ni (v:H),ni (vm v:H)]⟩,ni a] w K:=by refine JA.ok ((v:H),(vm v:H),()) _ _ _ ?_;(try simp only[ao,Zq]);(with_reducible repeat first|refine Nw.mk h λb w h=>?_|refine Ld.xt h O ?_);refine Kv h c λw h=>?_;(with_reducible repeat first|refine Ld.xb h O ?_|refine aa.yes ?_);exact iA (Wd d) (e _ h.tl)
def JU{v c most:I}{K:T2->X4->X4->ad}(h:Hp E w F)(j:v<=most)(l:most<=65536)(g:c<256)(a:grow most v c=V->∀o d w',Hp E w' F->K o d U w')(i:∀n d,grow most v c=Z (n,d)->∀k w',(d=U->k=(vm n:H))->Hp E w' F->K ((n:H),k,()) d J w'):ah [.st [iQ,iQ],kB,kB] 240 [.agg ⟨[ni (v:H),ni (vm v:H)]⟩,au (c:H),ni (most:H)] w K:=by refine L9.ok ((v:H),(vm v:H),()) _ _ _ _ ?_;(try simp only[ao,Zq]);(with_reducible repeat first|refine Nw.mk h λb w h=>?_|refine Ld.xt h rfl ?_);refine adF h Za g (λf w h=>?_) λf w h=>?_;{(with_reducible repeat first|refine Ld.xt h rfl ?_|refine aB.xw h rfl rfl λw h=>?_|refine aa.no ?_);exact a (by unfold grow;rw[X3 f]) _ _ _ h.tl};(with_reducible repeat first|refine Ld.xb h rfl ?_|refine Ld.xt h rfl ?_|refine aB.xw h rfl rfl λw h=>?_|refine aa.yes ?_);by_cases hc1:c<128;{rw[Wd hc1];by_cases hle:128*v+c%128<=most;{(with_reducible repeat first|refine Ld.xb h rfl ?_|refine Ld.xt h rfl ?_|refine aB.xw h rfl rfl λw h=>?_|refine aa.no ?_|refine aa.yes ?_);(try simp only[]);(skip);by_cases h0:0<128*v+c%128;{refine iA (Wd Za) (i _ J ?_ _ _ (λe=>by cases e) h.tl);unfold grow;rw[Wa f,X3 ⟨hle,λ_=>h0⟩,Wd hc1]};refine iA (Wf Za) (a ?_ _ _ _ h.tl);unfold grow;rw[Wa f,Wa λe=>h0 (e.2 hc1)]};(with_reducible repeat first|refine Ld.xt h rfl ?_|refine aB.xw h rfl rfl λw h=>?_|refine aa.no ?_);refine a ?_ _ _ _ h.tl;unfold grow;rw[Wa f,Wa λe=>hle e.1]};rw[Wf hc1];by_cases hle:128*v+c%128<=most;{(with_reducible repeat first|refine Ld.xt h rfl ?_|refine aB.xw h rfl rfl λw h=>?_|refine aa.yes ?_);(try simp only[]);(skip);refine i _ U ?_ _ _ (λ_=>by rw[aek Za Za g f]) h.tl;unfold grow;rw[Wa f,X3 ⟨hle,λe=>Wi e hc1⟩,Wf hc1]};(with_reducible repeat first|refine Ld.xt h rfl ?_|refine aB.xw h rfl rfl λw h=>?_|refine aa.no ?_);refine a ?_ _ _ _ h.tl;unfold grow;rw[Wa f,Wa λe=>hle e.1]
def T6{s:HS}{K:X4->ad}(h:Hp E w F)(f:zb s)(c:bu E F (K J)):aD 239 [.agg ⟨[ni (s.at_:H),ni (s.v:H),ni (vm s.v:H),ni 0]⟩] w K:=by obtain⟨a,v⟩:=s;obtain⟨g,d,e⟩:=f;dsimp only at g d e⊢;refine Lb.ok ((a:H),(v:H),(vm v:H),0,()) _ _ ?_;(try simp only[ao,Zk,Zq]);(with_reducible repeat first|refine Nw.mk h λb w h=>?_|refine Ld.xb h O ?_);by_cases ha:a=3;{subst ha;(with_reducible repeat first|refine Ld.xt h O ?_|refine aa.yes ?_);refine Ek h e Za λw h=>?_;(with_reducible repeat first|refine Ld.xb h O ?_|refine aa.yes ?_);exact c _ h.tl};(with_reducible repeat first|refine Ld.xb h O ?_|refine aa.no ?_);refine eQ ?_;(with_reducible repeat first|refine Ld.xb h O ?_|refine Ld.xt h O ?_|refine aa.yes ?_);have:=d Za;subst this;refine iA ?_ (c _ h.tl);simp[vm]
def NA{s:HS}{c:I}{K:H×H×H×H×Unit->X4->H->ad}(h:Hp E w F)(q:zb s)(r:c<256)(l:∀m w',cf s c=.more m->Hp E w' F->K (hsT m) U 0 w')(t:∀n w',cf s c=.fin n->Hp E w' F->K (4,0,0,(n:H),()) J 0 w')(g:∀e o w',cf s c=.bad e->Hp E w' F->K o U (e:H) w'):ah [.st ew,kB,kI] 170 [.agg ⟨[ni (s.at_:H),ni (s.v:H),ni (vm s.v:H),ni 0]⟩,au (c:H)] w K:=by obtain⟨a,v⟩:=s;obtain⟨p,i,j⟩:=q;dsimp only at p i j⊢;refine Ly.ok ((a:H),(v:H),(vm v:H),0,()) _ _ _ ?_;(try simp only[bN,ao,Zk,Zq,fC]);(with_reducible repeat first|refine Nw.mk h λb w h=>?_|refine Ld.xt h rfl ?_);refine T6 (s:=⟨a,v⟩) h ⟨p,i,j⟩ λw h=>?_;(try simp only[X4.not_true,de]);(with_reducible repeat first|refine Ld.xb h rfl ?_|refine aa.no ?_);by_cases ha:a<3;{have:=i ha;subst this;have u:((ey (ZO #[87,80,1]) ((a:H)).toNat:H))=((ED a:I):H):=by{rw[Zi];have:a=0\/a=1\/a=2:=by{omega};rcases this with rfl|rfl|rfl<;>rfl};(with_reducible repeat first|refine Ld.xb h rfl ?_|refine aa.yes ?_|refine⟨by first|omega|decide,?_⟩);rw[u];refine⟨by have:(((ZO #[87,80,1]).size:I):H)=3:=rfl;omega,?_⟩;by_cases hcm:c=ED a;{refine aa.et Za ?_;(with_reducible repeat first|refine Ld.xb h rfl ?_|refine Ld.xt h rfl ?_|refine aB.xw h rfl rfl λw h=>?_);rw[af Za];exact l ⟨a+1,0⟩ _ (by unfold cf;dsimp only;rw[X3 ha,X3 hcm]) h.tl};refine aa.ef Za ?_;(with_reducible refine Ld.xb h rfl ?_);by_cases ha2:a=2;{(with_reducible repeat first|refine Ld.xb h rfl ?_|refine Ld.xt h rfl ?_|refine aB.xw h rfl rfl λw h=>?_|refine aa.yes ?_|refine aa.no ?_);exact g 241 _ _ (by unfold cf;dsimp only;rw[X3 ha,Wa hcm,X3 ha2]) h.tl};(with_reducible repeat first|refine Ld.xt h rfl ?_|refine aB.xw h rfl rfl λw h=>?_|refine aa.yes ?_);exact g 240 _ _ (by unfold cf;dsimp only;rw[X3 ha,Wa hcm,Wa ha2]) h.tl};(with_reducible repeat first|refine Ld.xb h rfl ?_|refine Ld.xt h rfl ?_|refine aa.no ?_);refine JU (most:=65536) h j Za r (λf o d w h=>?_) λn d f k w x h=>?_;{(with_reducible repeat first|refine Nw.mk h λb w h=>?_|refine Ld.xt h rfl ?_|refine aB.xw h rfl rfl λw h=>?_|refine aa.yes ?_);(try simp only[]);(skip);exact g 242 _ _ (by unfold cf;dsimp only;rw[Wa ha,f]) h.tl};cases d;{have:=x rfl;subst this;(with_reducible repeat first|refine Nw.mk h λb w h=>?_|refine Ld.xt h rfl ?_|refine aB.xw h rfl rfl λw h=>?_|refine aa.no ?_);(try simp only[]);(skip);exact l ⟨3,n⟩ _ (by unfold cf;dsimp only;rw[Wa ha,f]) h.tl};(with_reducible repeat first|refine Nw.mk h λb w h=>?_|refine Ld.xb h rfl ?_|refine Ld.xt h rfl ?_|refine aB.xw h rfl rfl λw h=>?_|refine aa.no ?_|refine aa.yes ?_);(try simp only[]);(skip);exact t n _ (by unfold cf;dsimp only;rw[Wa ha,f]) h.tl
theorem Q3{s m:I}{K:X4->ad}(c:m<=3)(a:s<256^m)(b:K J w):aD 311 [.int .u32 (s:H),ni (m:H)] w K:=by refine L5.ok _ _ _ _ (eQ ?_);(with_reducible refine aa.yes ?_);rw[af Za];refine⟨Za,iA ?_ b⟩;rw[show(8*(m:H))=((8*m:I):H) by omega,iJ (by have:m=0\/m=1\/m=2\/m=3:=by{omega};rcases this with rfl|rfl|rfl|rfl<;>simp at a<;>omega),cJ (by have:Wl.bits .u64=64:=rfl;omega),I.pow_mul,Xi Ze];rfl
theorem VK{n:I}{m:MS}{K:X4->X0->Prop}(h:Hp E w F)(s:1<=n)(q:n<=65536)(k:jZ n m)(f:∀w',Hp E w' F->K J w'):Cl Zj [kB] 245 ⟨[.int .i64 (n:H),.agg ⟨[.int .i64 (m.at_:H),.int .i64 (m.v:H),.int .i64 (vm m.v:H),.int .i64 (m.M:H),.int .i64 (m.P:H),.int .u32 (m.sum:H),.int .i64 (m.many:H)]⟩]⟩ w K:=by obtain⟨l,v,M,P,o,g⟩:=m;unfold jZ at k;dsimp only at k⊢;refine AY.ok _ ((l:H),(v:H),(vm v:H),(M:H),(P:H),(o:H),(g:H),()) _ _ ?_;(try simp only[bN,ao,Zk,Zq,de]);(with_reducible repeat first|refine Nw.mk h λb w h=>?_|refine Ld.xb h rfl ?_|refine Ld.xt h rfl ?_|refine aB.xw h rfl rfl λw h=>?_);refine eQ ?_;(rcases k with⟨a,d⟩|⟨a,d,i,j,e,c⟩|⟨a,d,i,j,e,c,p⟩|⟨a,d,i,j,e,c,p,r⟩|⟨a,d,i,j,e,c⟩);{cases d;(with_reducible refine aa.no ?_);refine eQ ?_;(with_reducible repeat first|refine Ld.xb h rfl ?_|refine Ld.xt h rfl ?_|refine aa.yes ?_|refine aa.no ?_);exact f _ h.tl};{subst a i j e c;(with_reducible refine aa.no ?_);refine eQ ?_;(with_reducible repeat first|refine Ld.xb h rfl ?_|refine Ld.xt h rfl ?_|refine aa.yes ?_|refine aa.no ?_);refine Ek h Za Za λw h=>?_;(with_reducible repeat first|refine Ld.xt h rfl ?_|refine aa.yes ?_);refine iA ?_ (f _ h.tl);simp};{subst a e c p;(with_reducible repeat first|refine Ld.xb h rfl ?_|refine aa.yes ?_);refine eQ ?_;(skip);refine eQ ?_;(with_reducible repeat first|refine Ld.xb h rfl ?_|refine aa.yes ?_|refine aa.no ?_);refine eQ ?_;(with_reducible repeat first|refine Ld.xb h rfl ?_|refine Ld.xt h rfl ?_|refine aa.yes ?_);refine Ek h Za Za λw h=>?_;(with_reducible repeat first|refine Ld.xb h rfl ?_|refine Ld.xt h rfl ?_|refine aa.yes ?_);refine iA ?_ (f _ h.tl);simp};{subst a c;(with_reducible repeat first|refine Ld.xb h rfl ?_|refine aa.yes ?_);refine eQ ?_;rw[Wd (show 1<=(P:H)/\(P:H)<=(M:H) by omega)];refine eQ ?_;(with_reducible repeat first|refine Ld.xb h rfl ?_|refine aa.yes ?_|refine aa.no ?_);refine Q3 p r ?_;(with_reducible repeat first|refine Ld.xt h rfl ?_|refine aa.yes ?_);exact f _ h.tl};subst a d i j;(with_reducible refine aa.no ?_);refine eQ ?_;(with_reducible repeat first|refine Ld.xb h rfl ?_|refine aa.yes ?_|refine aa.no ?_);refine Q3 e c ?_;(with_reducible repeat first|refine Ld.xb h rfl ?_|refine Ld.xt h rfl ?_|refine aa.yes ?_);refine iA ?_ (f _ h.tl);simp[vm]
end
end
end Go.Proofs.Q9
namespace Go.Vc
section
open Go
section
variable{P:X6}{α β:Type}[WC α]{ke:α->G}{ve:β->G}{kt vt t:Wb}{E w:X0}{F:Q HP}{m:X7 I}{l:Q (α×β)}
def oT.fn{t:Fn}{a b:X5 G}{K:X4->Prop}(h:K U):oT (.func t a b) K:=h
def aC.found(b:l8 P kt ke)(c:P.underlying t=Z (.map kt vt)){a:α}{q:I×β}{z:G}{k:Ki}{x:k.T}{K:k.T->ad}(d:∀w,(Wv vt).run P w=.ok z w)(h:Hp E w (gE ke ve m l::F))(e:findAt a l 0=Z q)(f:ve q.2=k.enc x)(g:K x w):aC P (Yi t (.map m) (ke a) U) k w K:=by unfold aC;rw[Ah b c d h,e];dsimp only;rw[f];exact Ki.qH.2 g
end
end
end Go.Vc
namespace Go.Proofs.Q9
section
open Go Go.Vc Go.Srt Go.Inc Go.Hd
abbrev nF:=H×H×H×H×H×H×H×Unit
section
variable{E w:X0}{F:Q HP}
def QS(n:I)(m:MS)(c:I)(E:X0)(F:Q HP)(K:nF->X4->ad):Prop:=(∀a w',bq n m c=.more a->a.at_≠4->a.at_≠6->Hp E w' F->K (msT a) J w')/\(∀M P u w',bq n m c=.fin (.aF M P u)->Hp E w' F->K (4,0,0,(M:H),(P:H),(u:H),4,()) J w')/\(∀u w',bq n m c=.fin (.tail u)->Hp E w' F->K (6,0,0,0,0,(u:H),4,()) J w')/\(∀e o w',bq n m c=.bad e->e=242->Hp E w' F->K o U w')
def aeB{n:I}{c:I}{K:nF->X4->ad}(h:Hp E w F)(f:c<256)(d:QS n dP c E F K):ah [.st bz,kB] 241 [ni (n:H),.agg ⟨[ni 0,ni 0,ni 0,ni 0,ni 0,.int .u32 0,ni 0]⟩,au (c:H)] w K:=by obtain⟨a,_,_,e⟩:=d;refine MM.ok _ (0,0,0,0,0,0,0,()) _ _ _ ?_;(try simp only[ao,Zq]);(with_reducible repeat first|refine Nw.mk h λb w h=>?_|(refine St.xs h rfl rfl λw h=>?_;dsimp only[cm,over]at h));by_cases h0:c=0;{subst h0;(with_reducible repeat first|refine Ld.xt h rfl ?_|refine aB.xw h rfl rfl λw h=>?_|(refine St.xs h rfl rfl λw h=>?_;dsimp only[cm,over]at h)|refine aa.yes ?_);exact a ⟨5,0,0,0,0,0⟩ _ rfl (by dsimp only;decide) (by dsimp only;decide) h.tl};(with_reducible repeat first|refine Ld.xt h rfl ?_|refine aB.xw h rfl rfl λw h=>?_|refine aa.no ?_);by_cases h1:c=1;{subst h1;exact a ⟨1,0,0,0,0,0⟩ _ rfl (by dsimp only;decide) (by dsimp only;decide) h.tl};refine iA (Wf Za) (e 242 _ _ ?_ rfl h.tl);unfold bq dP;simp[h0,h1]
def afT{n v:I}{c:I}{K:nF->X4->ad}(h:Hp E w F)(g:n<=65536)(i:v<=n)(j:c<256)(p:QS n ⟨1,v,0,0,0,0⟩ c E F K):ah [.st bz,kB] 242 [ni (n:H),.agg ⟨[ni 1,ni (v:H),ni (vm v:H),ni 0,ni 0,.int .u32 0,ni 0]⟩,au (c:H)] w K:=by obtain⟨e,_,_,f⟩:=p;refine MI.ok _ (1,(v:H),(vm v:H),0,0,0,0,()) _ _ _ ?_;(try simp only[ao,Zk,Zq]);(with_reducible repeat first|refine Nw.mk h λb w h=>?_|refine Ld.xt h rfl ?_);refine JU h i g j (λa o d w h=>?_) λm d a k w q h=>?_;{(with_reducible repeat first|refine Nw.mk h λb w h=>?_|refine Ld.xt h rfl ?_|refine aB.xw h rfl rfl λw h=>?_|(refine aB.xs h rfl rfl λw h=>?_;dsimp only[cm,over]at h));cases d;{(with_reducible repeat first|refine Ld.xt h rfl ?_|refine aB.xw h rfl rfl λw h=>?_|refine aa.no ?_);exact f 242 _ _ (by unfold bq;simp[a]) rfl h.tl};(with_reducible repeat first|refine Ld.xb h rfl ?_|refine Ld.xt h rfl ?_|refine aB.xw h rfl rfl λw h=>?_|refine aa.yes ?_);exact f 242 _ _ (by unfold bq;simp[a]) rfl h.tl};cases d;{have:=q rfl;subst this;(with_reducible repeat first|refine Nw.mk h λb w h=>?_|refine Ld.xt h rfl ?_|refine aB.xw h rfl rfl λw h=>?_|(refine aB.xs h rfl rfl λw h=>?_;dsimp only[cm,over]at h)|refine aa.no ?_);exact e ⟨1,m,0,0,0,0⟩ _ (by unfold bq;simp[a]) (by dsimp only;decide) (by dsimp only;decide) h.tl};(with_reducible repeat first|refine Nw.mk h λb w h=>?_|refine Ld.xb h rfl ?_|refine Ld.xt h rfl ?_|refine aB.xw h rfl rfl λw h=>?_|(refine aB.xs h rfl rfl λw h=>?_;dsimp only[cm,over]at h)|refine aa.yes ?_);exact e ⟨2,0,m,0,0,0⟩ _ (by unfold bq;simp[a]) (by dsimp only;decide) (by dsimp only;decide) h.tl
def adg{n v M:I}{c:I}{K:nF->X4->ad}(h:Hp E w F)(g:M<=65536)(i:v<=M)(j:c<256)(p:QS n ⟨2,v,M,0,0,0⟩ c E F K):ah [.st bz,kB] 243 [ni (n:H),.agg ⟨[ni 2,ni (v:H),ni (vm v:H),ni (M:H),ni 0,.int .u32 0,ni 0]⟩,au (c:H)] w K:=by obtain⟨e,_,_,f⟩:=p;refine JM.ok _ (2,(v:H),(vm v:H),(M:H),0,0,0,()) _ _ _ ?_;(try simp only[ao,Zk,Zq]);(with_reducible repeat first|refine Nw.mk h λb w h=>?_|refine Ld.xb h rfl ?_|refine Ld.xt h rfl ?_);refine JU h i g j (λa o d w h=>?_) λm d a k w q h=>?_;{(with_reducible repeat first|refine Nw.mk h λb w h=>?_|refine Ld.xt h rfl ?_|refine aB.xw h rfl rfl λw h=>?_|(refine aB.xs h rfl rfl λw h=>?_;dsimp only[cm,over]at h));cases d;{(with_reducible repeat first|refine Ld.xt h rfl ?_|refine aB.xw h rfl rfl λw h=>?_|refine aa.no ?_);exact f 242 _ _ (by unfold bq;simp[a]) rfl h.tl};(with_reducible repeat first|refine Ld.xb h rfl ?_|refine Ld.xt h rfl ?_|refine aB.xw h rfl rfl λw h=>?_|refine aa.yes ?_);exact f 242 _ _ (by unfold bq;simp[a]) rfl h.tl};cases d;{have:=q rfl;subst this;(with_reducible repeat first|refine Nw.mk h λb w h=>?_|refine Ld.xt h rfl ?_|refine aB.xw h rfl rfl λw h=>?_|(refine aB.xs h rfl rfl λw h=>?_;dsimp only[cm,over]at h)|refine aa.no ?_);exact e ⟨2,m,M,0,0,0⟩ _ (by unfold bq;simp[a]) (by dsimp only;decide) (by dsimp only;decide) h.tl};(with_reducible repeat first|refine Nw.mk h λb w h=>?_|refine Ld.xb h rfl ?_|refine Ld.xt h rfl ?_|refine aB.xw h rfl rfl λw h=>?_|(refine aB.xs h rfl rfl λw h=>?_;dsimp only[cm,over]at h)|refine aa.yes ?_);exact e ⟨3,0,M,m,0,0⟩ _ (by unfold bq;simp[a]) (by dsimp only;decide) (by dsimp only;decide) h.tl
def abJ{n a M P e d:I}{c:I}{K:nF->X4->ad}(h:Hp E w F)(g:a=3\/(a=5/\M=0/\P=0))(i:d<=3)(r:e<256^d)(j:c<256)(k:QS n ⟨a,0,M,P,e,d⟩ c E F K):ah [.st bz,kB] 244 [ni (n:H),.agg ⟨[ni (a:H),ni 0,ni 0,ni (M:H),ni (P:H),.int .u32 (e:H),ni (d:H)]⟩,au (c:H)] w K:=by obtain⟨o,p,q,s⟩:=k;have f:e<16777216:=by{have:256^d<=256^3:=ZT Zb i;omega};refine Pk.ok _ ((a:H),0,0,(M:H),(P:H),(e:H),(d:H),()) _ _ _ ?_;(try simp only[ao,Zk,Zq,Z5]);(with_reducible repeat first|refine Nw.mk h λb w h=>?_|refine Ld.xb h rfl ?_|(refine St.xs h rfl rfl λw h=>?_;dsimp only[cm,over]at h)|refine⟨by first|omega|decide,?_⟩);rw[af (x:=(d:H)+1) Za]at h⊢;rw[agW f j]at h;by_cases hm3:d=3;{subst hm3;(with_reducible repeat first|refine Ld.xb h rfl ?_|refine Ld.xt h rfl ?_|refine aB.xw h rfl rfl λw h=>?_|(refine St.xs h rfl rfl λw h=>?_;dsimp only[cm,over]at h)|refine aa.yes ?_);rw[af Za]at h⊢;(rcases g with rfl|⟨rfl,rfl,rfl⟩);{exact p M P (256*e+c) _ (by unfold bq;simp) h.tl};exact q (256*e+c) _ (by unfold bq;simp) h.tl};(with_reducible repeat first|refine Ld.xt h rfl ?_|refine aB.xw h rfl rfl λw h=>?_|refine aa.no ?_);refine o ⟨a,0,M,P,256*e+c,d+1⟩ _ ?_ ?_ ?_ h.tl;{unfold bq;rcases g with rfl|⟨rfl,rfl,rfl⟩<;>simp[hm3]};{dsimp only;omega};dsimp only;omega
def zo:Tryz.prog.underlying 345=Z (.map 3 346):=Zc
def TO(w:X0):(Wv 346).run Zj w=.ok .nilFunc w:=Zc
abbrev fv(i:I):G:=.func (.func i) ⟨[]⟩ ⟨[]⟩
def Ew{n:I}{m:MS}{c:I}{K:nF->X4->H->ad}(h:Hp E w F)(hn:1<=n)(L:n<=65536)(Y:jZ n m)(N:c<256)(p:∀A w',bq n m c=.more A->Hp E w' F->K (msT A) U 0 w')(R:∀M P u w',bq n m c=.fin (.aF M P u)->Hp E w' F->K (4,0,0,(M:H),(P:H),(u:H),4,()) J 0 w')(r:∀u w',bq n m c=.fin (.tail u)->Hp E w' F->K (6,0,0,0,0,(u:H),4,()) J 0 w')(S:∀e o w',bq n m c=.bad e->Hp E w' F->K o U (e:H) w'):ah [.st bz,kB,kI] 172 [ni (n:H),.agg ⟨[ni (m.at_:H),ni (m.v:H),ni (vm m.v:H),ni (m.M:H),ni (m.P:H),.int .u32 (m.sum:H),ni (m.many:H)]⟩,au (c:H)] w K:=by have d:∀(q:I)(i:I),findAt (m.at_:H) [((0:H),fv 241),(1,fv 242),(2,fv 243),(3,fv 244),(5,fv 244)] 0=Z (q,fv i)->n9 Zj i=J->(∀(s:Q HP)(w:X0)(K':nF->X4->ad),Hp E w s->QS n m c E s K'->ah [.st bz,kB] i [ni (n:H),.agg ⟨[ni (m.at_:H),ni (m.v:H),ni (vm m.v:H),ni (m.M:H),ni (m.P:H),.int .u32 (m.sum:H),ni (m.many:H)]⟩,au (c:H)] w K')->ah [.st bz,kB,kI] 172 [ni (n:H),.agg ⟨[ni (m.at_:H),ni (m.v:H),ni (vm m.v:H),ni (m.M:H),ni (m.P:H),.int .u32 (m.sum:H),ni (m.many:H)]⟩,au (c:H)] w K:=by{intro q i hq T y;refine B9.ok _ (msT m) _ _ _ ?_;(try simp only[ao,Zq]);refine Nw.mk h λW w h=>Nw.mk h λb7 w h=>run_makeMap (ke:=λn:H=>Yv .i64 n) (ve:=λv:G=>v) h λmp w h=>ct (ke:=λn:H=>Yv .i64 n) (ve:=λv:G=>v) (l:=_) qP zo (a:=0) (b:=fv 241) h λw h=>ct (ke:=λn:H=>Yv .i64 n) (ve:=λv:G=>v) (l:=_) qP zo (a:=1) (b:=fv 242) h λw h=>ct (ke:=λn:H=>Yv .i64 n) (ve:=λv:G=>v) (l:=_) qP zo (a:=2) (b:=fv 243) h λw h=>ct (ke:=λn:H=>Yv .i64 n) (ve:=λv:G=>v) (l:=_) qP zo (a:=3) (b:=fv 244) h λw h=>ct (ke:=λn:H=>Yv .i64 n) (ve:=λv:G=>v) (l:=_) qP zo (a:=5) (b:=fv 244) h λw h=>?_;rw[show fj (5:H) (fv 244) (fj 3 (fv 244) (fj 2 (fv 243) (fj 1 (fv 242) (fj 0 (fv 241) []))))=[((0:H),fv 241),(1,fv 242),(2,fv 243),(3,fv 244),(5,fv 244)]from rfl]at h;(with_reducible refine Ld.xb h rfl ?_);refine aC.found (ke:=λn:H=>Yv .i64 n) (ve:=λv:G=>v) qP zo (a:=(m.at_:H)) (x:=fv i) TO h hq rfl (oT.fn ?_);have h:=h.drop;(with_reducible repeat first|refine Ld.xt h rfl ?_|refine aa.no ?_);refine VK h hn L Y λw h=>?_;(with_reducible repeat first|refine Ld.xt h rfl ?_|refine aa.no ?_);refine dQ.mk T (y _ _ _ h ⟨λA w f g B h=>?_,λM P u w f h=>?_,λu w f h=>?_,λe o w f g h=>?_⟩);{(with_reducible repeat first|refine aB.xw h rfl rfl λw h=>?_|refine aa.no ?_);have h:=h.drew (n:=w.drawn+1);refine⟨cj W _ _ _,h.hb,?_⟩;(with_reducible repeat first|refine aO.xb (λ_ h=>h) rfl ?_|refine aO.xt (λ_ h=>h) rfl ?_);refine aa.ef (show¬(A.at_:H)=4 by omega) ?_;(with_reducible repeat first|refine Ld.xt h rfl ?_|refine aO.xb (λ_ h=>h) rfl ?_|refine⟨h.hb,?_⟩|refine aB.xw h rfl rfl λw h=>?_);have e6:((A.at_:H)==6)=U:=beq_eq_false_iff_ne.2 Za;have j:=p A _ f h.tl;rw[<-e6]at j;exact j};{(with_reducible repeat first|refine aB.xw h rfl rfl λw h=>?_|refine aa.no ?_);have h:=h.drew (n:=w.drawn+1);refine⟨cj W _ _ _,h.hb,?_⟩;(with_reducible repeat first|refine Ld.xt h rfl ?_|refine aO.xb (λ_ h=>h) rfl ?_|refine aO.xt (λ_ h=>h) rfl ?_|refine⟨h.hb,?_⟩|refine aB.xw h rfl rfl λw h=>?_|refine aa.yes ?_);exact R M P u _ f h.tl};{(with_reducible repeat first|refine aB.xw h rfl rfl λw h=>?_|refine aa.no ?_);have h:=h.drew (n:=w.drawn+1);refine⟨cj W _ _ _,h.hb,?_⟩;(with_reducible repeat first|refine Ld.xt h rfl ?_|refine aO.xb (λ_ h=>h) rfl ?_|refine aO.xt (λ_ h=>h) rfl ?_|refine⟨h.hb,?_⟩|refine aB.xw h rfl rfl λw h=>?_|refine aa.no ?_);exact r u _ f h.tl};(with_reducible repeat first|refine Ld.xt h rfl ?_|refine aB.xw h rfl rfl λw h=>?_|refine aa.yes ?_);subst g;exact S 242 _ _ f h.tl};obtain⟨at_,v,M,P,sum,many⟩:=m;have z:=Y;unfold jZ at z;dsimp only at z;(rcases z with⟨f,g⟩|⟨f,g,B,C,D,j⟩|⟨f,g,B,C,D,j,X⟩|⟨f,g,B,C,D,j,X,h8⟩|⟨f,g,B,C,D,j⟩);{cases g;exact d 0 241 rfl Zc λs w K' h k=>aeB h N k};{subst f B C D j;exact d 1 242 rfl Zc λs w K' h k=>afT h L g N k};{subst f D j X;exact d 2 243 rfl Zc λs w K' h k=>adg (M:=M) h Za C N k};{subst f j;exact d 3 244 rfl Zc λs w K' h k=>abJ h (.inl rfl) X h8 N k};subst f g B C;exact d 4 244 rfl Zc λs w K' h k=>abJ h (.inr ⟨rfl,rfl,rfl⟩) D j N k
end
end
end Go.Proofs.Q9
namespace Go.Pol
section
def layout(n side mode:I):Q I:=if side=1 then(if mode=3 then[n,n,4*WE (n+1) 1024]else[n])else if mode=3 then[n,4*(n+1)]else if mode=2 then[n,1024*(n/1024)]else[n,1024*(n/8192)]
def sy(n side mode:I):Prop:=(side=1\/side=2)/\1<=mode/\mode<=3/\1<=n/\n<=65536
instance(n side mode:I):WI (sy n side mode):=by unfold sy;infer_instance
def bF(n side mode:I):I:=(layout n side mode).sum
def aR(a n side:I):I:=if bF n side 3<=a then 3 else if bF n side 2<=a then 2 else if bF n side 1<=a then 1 else 0
def V3{n mode:I}(h:mode≠3):bF n 1 mode=n:=by simp[bF,layout,h]
def mZ{budget n side:I}(h:aR budget n side≠0):bF n side (aR budget n side)<=budget/\1<=aR budget n side/\aR budget n side<=3:=by unfold aR at h⊢;by_cases h3:bF n side 3<=budget;{grind};grind
def Ql(n side:I)(a:side=1\/side=2):bF n side 1<=bF n side 2/\bF n side 2<=bF n side 3:=by(rcases a with rfl|rfl);{simp[bF,layout]};simp[bF,layout];omega
def To{budget n side:I}(a:side=1\/side=2):aR budget n side=0↔budget<bF n side 1:=by have:=Ql n side a;unfold aR;constructor;{grind};grind
def aaC{budget n:I}:(aR budget n 1≠0↔n<=budget):=by have:=To (budget:=budget) (n:=n) (.inl O);rw[V3 Zb]at this;omega
def places:I->Q I->Q (I×I)|_,[]=>[]|a,k::l=>(a,k)::places (a+k) l
end
end Go.Pol
namespace Go.Vc
section
open Go
def qj{α β:Type}[WC α]{a k:α}{b:β}:∀(l:Q (α×β))(i:I),(findAt k (fj a b l) i).map (·.2)=if k=a then Z b else(findAt k l i).map (·.2)|[],i=>by unfold fj findAt;by_cases h:k=a;{rw[X3 h,X3 h];rfl};rw[K h,K h];rfl|p::l,i=>by unfold fj;by_cases h:a=p.1;{rw[X3 h];unfold findAt;by_cases hk:k=a;{rw[X3 hk,X3 (by rw[hk])];rfl};rw[K hk,K (by first|exact hk|(rw[<-h];exact hk)),K (by rw[<-h];exact hk)]};rw[K h];unfold findAt;by_cases hk:k=p.1;{rw[X3 hk,X3 hk];by_cases hka:k=a;{exact Wi (hka.symm.trans hk) h};rw[K hka]};rw[K hk,K hk];exact qj l (i+1)
end
end Go.Vc
namespace Go.Proofs.Q9
section
open Go Go.Vc Go.Pol
set_option maxRecDepth 100000
abbrev P5:Wb:=219
def tE:X5 Wp:=QU (yj (Tryz.f127.body.getD .skip) [J,J,U])
def NM(j:I):I:=[3,6,8,10,12,14].getD j 0
def BW(j:I):H×H:=[((1:H),(1:H)),(1,2),(1,3),(2,1),(2,2),(2,3)].getD j (0,0)
def fnP(j:I):I:=[187,187,188,189,190,191].getD j 0
def vP(j:I):G:=.func (.func (fnP j)) ⟨[]⟩ ⟨[]⟩
def rM(a:H×H):G:=.agg ⟨[au a.1,au a.2]⟩
def gP(T r:I):X4:=I.blt r 15&&(match[3,6,8,10,12,14].findIdx? (Xb r)with|some j=>Xb (T/2^j%2) 1|none=>J)
def LP(T:I):X5 X4:=⟨(Zt 17).map (gP T)⟩
def OL(T:I):Q I:=((Zt 6).filter λj=>Xb (T/2^j%2) 0).map NM
def Lg(T:I):I:=((Zt 6).filter λj=>Xb (T/2^j%2) 0).length
def agm(T:I):X4:=(Z2 .any tE (LP T)==OL T)&&((OL T).find? (jL Pg tE (LP T))).isNone&&((Zt 6).all λj=>Xb (T/2^j%2) 1||(((LP T).setIfInBounds (NM j) J).toList==(LP (T+2^j)).toList&&Xb (Lg (T+2^j)+1) (Lg T)&&I.blt (T+2^j) 64&&(Zt 6).all λi=>Xb i j||(Xb ((T+2^j)/2^i%2) 1==Xb (T/2^i%2) 1)))
def adO:((Zt 63).all agm)=J:=Zc
def f0P:AF:=bT (bT (eH [] 12) 0 (Z (.map V))) 1 (Z (.func (.func 187) ⟨[]⟩ ⟨[]⟩))
def FT(m:X7 I):AF:=bT (bT (bT (bT (bT (bT (bT (bT (bT f0P 3 (Z (rM (1,1)))) 4 (Z (vP 0))) 5 (Z (rM (1,2)))) 6 (Z (vP 0))) 7 (Z (rM (1,3)))) 8 (Z (rM (2,1)))) 9 (Z (rM (2,2)))) 10 (Z (rM (2,3)))) 2 (Z (.map m))
structure Nr (T:I) (l:Q ((H×H)×G)):Prop where
 has:∀i,i<6->(findAt (BW i) l 0).map (·.2)=if T/2^i%2=1 then Z (vP i)else V
 no:∀k,(∀i,i<6->k≠BW i)->(findAt k l 0).map (·.2)=V
def agi:∀i,i<6->∀j,j<6->BW i=BW j->i=j:=Zb
structure StP (T j:I):Prop where
 set:(LP T).setIfInBounds (NM j) J=LP (T+2^j)
 cz:Lg (T+2^j)+1=Lg T
 lt:T+2^j<64
 bit:∀i,i<6->i≠j->((T+2^j)/2^i%2=1↔T/2^i%2=1)
 one:(T+2^j)/2^j%2=1
def adC{T:I}(r:T<63):Z2 .any tE (LP T)=OL T/\(OL T).find? (jL Pg tE (LP T))=V/\∀j,j<6->T/2^j%2=0->StP T j:=by have c:=List.all_eq_true.1 adO T Ze;unfold agm at c;simp only[ZI]at c;obtain⟨⟨f,g⟩,k⟩:=c;refine⟨eq_of_beq f,Option.isNone_iff_eq_none.1 g,λj s l=>?_⟩;have h:=List.all_eq_true.1 k j Ze;rw[l]at h;simp only[YJ,ZI]at h;obtain⟨⟨⟨m,n⟩,o⟩,p⟩:=h.resolve_left Zb;refine⟨XG (eq_of_beq m),Yk n,YX o,λi t d=>?_,?_⟩;{have:=List.all_eq_true.1 p i Ze;simp only[YJ]at this;have:=eq_of_beq (this.resolve_left λq=>d (Yk q));have e:∀a b:I,Xb a b=J↔a=b:=λa b=>⟨Yk,λh=>by rw[h];exact I.beq_refl b⟩;have:=Wm (·=J) this;simp only[eq_iff_iff,e]at this;exact this};rw[I.add_div_right _ (Ym j)];omega
def Nr.bT{T j:I}{l:Q ((H×H)×G)}(h:Nr T l)(d:j<6)(f:StP T j):Nr (T+2^j) (fj (BW j) (vP j) l):=by refine⟨λi c=>?_,λk a=>?_⟩;{rw[qj];by_cases e:i=j;{subst e;rw[X3 O,X3 f.one]};rw[K λa=>e (agi i c j d a),h.has i c];have:=f.bit i c e;by_cases b:T/2^i%2=1;{grind};grind};rw[qj,K (a j d)];exact h.no k a
def adm{T r:I}(h:r∈OL T):∃j,j<6/\T/2^j%2=0/\r=NM j:=by obtain⟨j,a,rfl⟩:=List.mem_map.1 h;obtain⟨b,c⟩:=List.mem_filter.1 a;exact⟨j,by simpa using b,Yk c,rfl⟩
def aeo:((Zt 63).all λT=>!(OL T).isEmpty)=J:=Zc
def acA:((Zt 64).all λT=>Xb T 63||WA.blt 0 (Lg T))=J:=Zc
section
variable{E w:X0}{F:Q HP}
def afJ:Tryz.prog.underlying P5=Z (.map 222 217):=Zc
def Ke:l8 Zj (α:=H×H) 222 rM where und:=⟨_,O,λa b=>.inl O⟩;check:=λe a w=>by{have:∀(e:X4)(c d:H)(w:X0),(Instr.checkKey e 10000 222 (.agg ⟨[au c,au d]⟩)).run Zj w=.ok () w:=λe c d w=>Zc;exact this e a.1 a.2 w};eq:=λa b w=>by{have f:∀c n d m:H,pT Zj 8 222 (.agg ⟨[au c,au n]⟩) (.agg ⟨[au d,au m]⟩) (λr=>r=((c==d)&&(n==m))):=λc n d m=>by{have e:pT Zj 8 222 (.agg ⟨[au c,au n]⟩) (.agg ⟨[au d,au m]⟩) (λr=>r=((c==d)&&(n==m)))=(((c==d)&&(n==m))=((c==d)&&(n==m))):=by{kernel_rfl};rw[e]};obtain⟨r,g,h⟩:=lu 8 _ _ _ _ (f a.1 a.2 b.1 b.2);have:=g 10000 Zb w;have e:We (a=b)=((a.1==b.1)&&(a.2==b.2)):=by{rw[Yj];simp[Prod.ext_iff]};rw[e,<-h];exact this};same:=λa=>by unfold rM Xz;simp[Xz]
theorem ah0{S:ad}{J:X5 X4->AF->ad}{L:X5 X4}{m:X7 I}:∀j,j<6->Fg Pg tE S J L (FT m) w (NM j)=aC Pg (do Zp P5 (.map m) (rM (BW j)) (vP j);Wt Wk) kV w λ_ w'=>S w'/\J (L.setIfInBounds (NM j) true) (FT m) w'|0,_=>Zc|1,_=>Zc|2,_=>Zc|3,_=>Zc|4,_=>Zc|5,_=>Zc|j+6,h=>Za
def ahZ{S:ad}{K:AF->ad}{m:X7 I}:bM Pg tE S K 2 (LP 63) (FT m) w=K (bT (bT (FT m) 11 (Z (.map m))) 0 (Z (.map m))) w:=Zc
theorem ahY{K:AF->ad}{m:X7 I}:∀(n T:I)(l:Q ((H×H)×G))(w:X0),Lg T=n->T<64->Nr T l->Hp E w (gE rM (λv:G=>v) m l::F)->(∀k w',Nr 63 k->Hp E w' (gE rM (λv:G=>v) m k::F)->K (bT (bT (FT m) 11 (Z (.map m))) 0 (Z (.map m))) w')->bM Pg tE (λ_=>True) K (n+2) (LP T) (FT m) w:=by intro n;induction n with|zero=>intro T l w b o c h d;have f:T=63:=by{have:=List.all_eq_true.1 acA T Ze;rw[b]at this;simp only[YJ]at this;exact Yk (this.resolve_right Zb)};subst f;rw[ahZ];exact d l w c h|succ n p=>intro T l w b o c h d;have g:T<63:=by{(rcases Yc T 63 with q|q);{exact q};have:T=63:=by{omega};subst this;exact Wi b (by rw[show Lg 63=0 from Zb];omega)};obtain⟨s,t,u⟩:=adC g;refine iX (Br s (λe=>?_) t λr x=>?_);{have:=List.all_eq_true.1 aeo T Ze;rw[e]at this;exact Wi this Zb};obtain⟨j,i,y,rfl⟩:=adm x;have a:=u j i y;rw[ah0 j i,a.set];refine ct (ke:=rM) (ve:=λv:G=>v) Ke afJ h λw h=>⟨trivial,p _ _ _ (by have:=a.cz;omega) a.lt (c.bT i a) h d⟩
def aeZ{S:ad}{K:AF->ad}:bM Pg tE S K 17 (Y6 17 U) f0P w=aC Pg (YW P5 V) kM w λm w'=>S w'/\bM Pg tE S K 8 (LP 0) (FT m) w':=Zc
def Rp{K:X7 I->ad}(h:Hp E w F)(a:∀m l w',Nr 63 l->Hp E w' (gE rM (λv:G=>v) m l::F)->K m w'):ah [kM] 127 [] w K:=by refine tH Tryz.mix (F:=dw w λS w'=>bM Pg tE S (λf w=>wJ Pg [.tmp 0] [kM] K .ret f w) 17 (Y6 17 U) f0P w') Tryz.f127 [] [kM] K 12 [.tmp 0] Zc Zc Zc Zc Zc (.s .o (.s .o (.s .o .o))) Zc ?_;have h:=h.drew (n:=w.drawn+1);refine⟨λ_=>True,trivial,?_⟩;dsimp only;rw[aeZ];refine run_makeMap (ke:=rM) (ve:=λv:G=>v) h λm w h=>⟨trivial,?_⟩;refine ahY 6 0 [] w O Zb ⟨λi c=>?_,λk d=>rfl⟩ h λl w b h=>?_;{rw[I.zero_div,Wa Zb];rfl};have e:wJ Pg [.tmp 0] [kM] K .ret (bT (bT (FT m) 11 (Z (.map m))) 0 (Z (.map m))) w=K m w:=Zc;rw[e];exact a m l w b h
end
end
section
open Go Go.Vc
set_option maxRecDepth 100000
def CT.ok(a:(X5 G))(R:(X5 G)->H->ad) w(h:Nw 166 a w λc b=>Nw 256 ⟨Zh 258 (.int .u32 0)⟩ b λe d=>aQ 258 c 0 d λf=>aD 287 [(.agg f)] d λh g=>aa (! h) (aQ 258 e 0 g λi=>aH 258 (av e 0) i g λj=>aQ 258 e 0 j λk=>R k 2 j) (aQ 258 c 0 g λl=>bS 288 [(.agg l)] g λn m=>xh 0 0 0 m λo p(q:H)(r:H)(s:H) t=>aw (s<(n.len:H)) (ay n s 1 λu=>bh u t λv=>aX (av c 0) 258 v 1 λx=>fw x t λy=>0<=(u8 (y-r))/\dw t λz D=>aX (av c 0) 258 v 1 λE=>aO (aG .u8) E z λ(B:H)=>aX (av e 0) 258 v 1 λF=>St F (.int .u32 (bH .u32 q (u8 (y-r)))) D λA=>z A/\o (u32 ((bH .u32 q (u8 (y-r)))+1)) B (i64 (s+1)) A/\p (u32 ((bH .u32 q (u8 (y-r)))+1)) B (i64 (s+1)) A<p q r s t) (aQ 258 e 0 t λI=>aH 258 (av e 0) I t λC=>aQ 258 e 0 C λK=>R K 0 C))):ah [(.arr 258),kI] 210 [(.agg a)] w R:=co Tryz.f210 [(12,[(4,(aG .u32)),(5,(aG .u8)),(15,kI)])] h
def Dw.ok(a:(X5 G))(R:X4->ad) w(h:Nw 166 a w λc b=>aQ 258 c 0 b λd=>aD 340 [(.agg d)] b λf e=>R f e):aD 287 [(.agg a)] w R:=co Tryz.f287 [] h
def CH.ok(a:(X5 G))(R:Sl->ad) w(h:Nw 166 a w λc b=>aQ 258 c 0 b λd=>aD 287 [(.agg d)] b λf e=>aa (! f) (R (⟨V,0,0⟩:Sl) e) (aQ 258 c 0 e λg=>dK (⟨V,0,0⟩:Sl) 0 e λh i(j:Sl)(k:H) l=>aw (k<258) (gu (.int .u8) g 258 k λ(m:H)=>aw (m>0) (aI 3 [(ni k)] l λo n=>aC Pg (ZE #[25,25] 25 ⟨[(aj j),(cL o 1)]⟩) kS n λ(q:Sl) p=>h q (i64 (k+1)) p/\i q (i64 (k+1)) p<i j k l) (h j (i64 (k+1)) l/\i j (i64 (k+1)) l<i j k l)) (cH 279 [(aj j),(.func (.func 341) ⟨[]⟩ ⟨[(bU c)]⟩)] l λr=>R j r))):bS 288 [(.agg a)] w R:=co Tryz.f288 [(10,[(2,kS),(9,kI)])] h
def Aa.ok(a:H)(b:H)(c:Wg)(R:H->ad) w(h:aM w λd=>aX c 258 a 1 λe=>fw e d λf=>aX c 258 b 1 λg=>fw g d λh=>bE 342 [(au f),(au h)] d λj i=>R j i):bE 341 [(ni a),(ni b),(ar (Z c))] w R:=co Tryz.f341 [] h
def Py.ok(a:Sl)(R:H->ad) w(h:dG 0 w λb c(d:H) e=>aw (d<(a.len:H)) (ay a d 1 λf=>bh f e λg=>aa (g !=0) (R g e) (b (i64 (d+1)) e/\c (i64 (d+1)) e<c d e)) (R 0 e)):bE 237 [(aj a)] w R:=co Tryz.f237 [(7,[(8,kI)])] h
def sU.ok(a:H)(b:H)(R:H->ad) w(h:aD 308 [(ni a)] w λd c=>aD 308 [(ni b)] c λf e=>aa d (aa f (R 0 e) (R (-1) e)) (aa f (R 1 e) (aw (a<b) (R (-1) e) (aw (a>b) (R 1 e) (R 0 e))))):bE 238 [(ni a),(ni b)] w R:=co Tryz.f238 [] h
def cmp_isNaN_int.ok(a:H)(R:X4->ad) w(h:R (a !=a) w):aD 308 [(ni a)] w R:=co Tryz.f308 [] h
def z7.ok(a:H)(b:H)(R:H->ad) w(h:aD 377 [(au a)] w λd c=>aD 377 [(au b)] c λf e=>aa d (aa f (R 0 e) (R (-1) e)) (aa f (R 1 e) (aw (a<b) (R (-1) e) (aw (a>b) (R 1 e) (R 0 e))))):bE 342 [(au a),(au b)] w R:=co Tryz.f342 [] h
def r8.ok(a:H)(R:X4->ad) w(h:R (a !=a) w):aD 377 [(au a)] w R:=co Tryz.f377 [] h
def MC.ok(a:(X5 G))(R:X4->ad) w(h:Nw 166 a w λc b=>aQ 258 c 0 b λd=>aD 337 [(.agg d)] b λf e=>aa f (aX (av c 0) 258 257 1 λg=>fw g e λh=>R (We (h>0)) e) (R U e)):aD 282 [(.agg a)] w R:=co Tryz.f282 [] h
def E2.ok(a:(X5 G))(R:X4->ad) w(h:Nw 166 a w λc b=>aQ 258 c 0 b λd=>bE 376 [(.agg d)] b λf e=>R (f==32768) e):aD 337 [(.agg a)] w R:=co Tryz.f337 [] h
def Ph.ok(a:(X5 G))(R:X4->ad) w(h:Nw 166 a w λc b=>aQ 258 c 0 b λd=>bE 376 [(.agg d)] b λf e=>R (We (f<=32768)) e):aD 340 [(.agg a)] w R:=co Tryz.f340 [] h
def KO.ok(a:(X5 G))(R:(TT Fw)->ad) w(h:Nw 166 a w λc b=>Nw 436 ⟨Zh 16 (ni 0)⟩ b λe d=>aQ 258 c 0 d λf=>dG 0 d λg h(i:H) j=>aw (i<258) (gu (.int .u8) f 258 i λ(k:H)=>aw ((i64 k)<16) (aX (av e 0) 16 k 1 λl=>bh l j λm=>aX (av e 0) 16 k 1 λn=>St n (ni (i64 (m+1))) j λo=>g (i64 (i+1)) o/\h (i64 (i+1)) o<h i j) (g (i64 (i+1)) j/\h (i64 (i+1)) j<h i j)) (aP Fw e 0 j λp=>aS e 0 (aA Fw p) j λq=>aP Fw e 0 q λr=>R r q)):ah [(.st Fw)] 351 [(.agg a)] w R:=co Tryz.f351 [(5,[(6,kI)])] h
def RU.ok(a:(X5 G))(R:H->ad) w(h:Nw 166 a w λc b=>aQ 258 c 0 b λd=>dK 0 0 b λe f(g:H)(h:H) i=>aw (h<258) (gu (.int .u8) d 258 h λ(j:H)=>bE 389 [(au j)] i λl k=>e (i64 (g+l)) (i64 (h+1)) k/\f (i64 (g+l)) (i64 (h+1)) k<f g h i) (R g i)):bE 376 [(.agg a)] w R:=co Tryz.f376 [(5,[(2,kI),(6,kI)])] h
def Mw.ok(a:H)(R:H->ad) w(h:aa (a==0) (R 0 w) (aw (a>15) (R 32769 w) (0<=a/\R (aZ .i64 (32768:H) a) w))):bE 389 [(au a)] w R:=co Tryz.f389 [] h
end
end Go.Proofs.Q9
namespace Go.Srt
section
inductive Ck (key:H->H) (sz:I):Q H->Q H->Prop where|nil:Ck key sz [] []|last (A B:Q H) (h1:A.length<sz) (h2:B.Perm A) (h3:Sd key B):Ck key sz A B|cons (A B X Y:Q H) (h1:A.length=sz) (h2:B.Perm A) (h3:Sd key B) (h4:Ck key sz X Y):Ck key sz (A++X) (B++Y)
def Ck.len{a:H->H}{sz:I}{X Y:Q H}(h:Ck a sz X Y):Y.length=X.length:=by induction h with|nil=>rfl|last A B c b d=>exact b.length_eq|cons A B X Y c b d f e=>simp[b.length_eq,e]
def Ck.one{a:H->H}{sz:I}{X Y:Q H}(h:Ck a sz X Y)(e:X.length<=sz):Y.Perm X/\Sd a Y:=by cases h with|nil=>exact⟨Q.Perm.refl _,Q.Pairwise.nil⟩|last _ _ f b c=>exact⟨b,c⟩|cons A B X Y f b c g=>rw[Zf]at e;have d:X=[]:=List.length_eq_zero_iff.1 Za;have i:Y=[]:=List.length_eq_zero_iff.1 (by rw[g.len,d];rfl);subst d;subst i;simpa using⟨b,c⟩
def Ck.first{a:H->H}{sz:I}{X Y:Q H}(h:Ck a sz X Y)(g:sz<=X.length)(j:0<sz):∃A B b c,X=A++b/\Y=B++c/\A.length=sz/\B.Perm A/\Sd a B/\Ck a sz b c:=by cases h with|nil=>simp at g;omega|last _ _ d e f=>omega|cons A B X Y d e f i=>exact⟨A,B,X,Y,O,O,d,e,f,i⟩
end
end Go.Srt
namespace Go.Proofs.Q9
section
open Go Go.Vc Go.Srt
section
variable{E w:X0}{F:Q HP}
def Q0{a b c d:Q H}(h:(a++b).Pairwise (·<·))(e:c.Perm a)(f:d.Perm b):∀x∈c,∀y∈d,x<y:=λx g y i=>(List.pairwise_append.1 h).2.2 x (e.mem_iff.1 g) y (f.mem_iff.1 i)
theorem aab{s:Sl}{xs:Wu H}{fv:G}{key:H->H}{D:H->Prop}{n:H}{K:ad}(h:Hp E w (an 1 s (xs.map vI)::F))(C:xs.length<=cP)(hc:zL E F fv key D)(hD:∀x∈xs,D x)(hL:xs.Pairwise (·<·))(hn:n=(xs.length:H))(hK:∀g w',g.Perm xs->Sd key g->Hp E w' (an 1 s (g.map vI)::F)->K w'):cH 336 [aj s,ni n,fv] w K:=by subst hn;refine ry.ok _ _ _ _ _ ?_;have hbg:=C;rw[aK]at C;refine⟨λa b w'=>∃f Z X:Wu H,a=(f.length:H)/\b=((f.length+20:I):H)/\xs=f++X/\Z.length=f.length/\(∀m o,Ck key 20 m o->Ck key 20 (f++m) (Z++o))/\Hp E w' (an 1 s ((Z++X).map vI)::F),λa _ _=>xs.length-a.toNat,⟨[],[],xs,rfl,rfl,rfl,rfl,λm o h=>h,h⟩,?_⟩;rintro a b w' ⟨f,Z,X,rfl,rfl,hxs,hZ,c,hh⟩;have i:xs.length=f.length+X.length:=by{rw[hxs,Zf]};have W:∀x∈X,x∈xs:=λx j=>by{rw[hxs];exact Wu.mem_append_right _ j};have d:X.Pairwise (·<·):=by{rw[hxs]at hL;exact(List.pairwise_append.1 hL).2.1};refine aa.mk (λp=>?_) λq=>?_;{have p:=X9 p;have e:X.take 20++X.drop 20=X:=Zv _ _;have l1:(X.take 20).length=20:=by{simp;omega};generalize X.take 20=A at e l1;generalize X.drop 20=X2 at e;subst e;rw[Zf]at i;refine An (P:=Z) (L:=A) (Q:=X2) (key:=key) (D:=D) (by simpa only[Zm]using hh) (by rw[aK];simp only[Zf];omega) hc (λx j=>hD x (W x (XM _ j))) (List.pairwise_append.1 d).1 Za (by simp only[Zf];omega) λM N l r S=>?_;rw[af Za];refine⟨⟨f++A,Z++M,X2,by simp only[Zf];omega,by simp only[Zf];omega,by rw[hxs,Zm],by simp only[Zf];rw[l.length_eq];omega,λm o hk=>?_,S⟩,by dsimp only;omega⟩;rw[Zm,Zm];exact c _ _ (.cons A M m o l1 l r hk)};have q:=X8 q;refine An (P:=Z) (L:=X) (Q:=[]) (key:=key) (D:=D) (by simpa using hh) (by rw[aK];simp only[Zf,ZG];omega) hc (λx j=>hD x (W x j)) d Za (by simp only[Zf];omega) λM N l r S=>?_;have c:=c _ _ (.last X M Za l r);rw[<-hxs]at c;refine⟨λbs w'=>∃(sz:I)(g:Wu H),bs=(sz:H)/\20<=sz/\sz<=2*cP/\Ck key sz xs g/\Hp E w' (an 1 s (g.map vI)::F),λbs _=>xs.length-bs.toNat,⟨20,Z++M,rfl,Za,by rw[aK];omega,c,by simpa using S⟩,?_⟩;rintro bs w' ⟨sz,g,rfl,hsz,hszb,c,hh⟩;rw[aK]at hszb;refine aa.mk (λhlt=>?_) λhge=>?_;{have hlt:=X9 hlt;have hlt:sz<xs.length:=by{omega};refine⟨λa b w'=>∃f Z X Y:Wu H,a=(f.length:H)/\b=((f.length+2*sz:I):H)/\xs=f++X/\Z.length=f.length/\Ck key sz X Y/\(∀m o,Ck key (2*sz) m o->Ck key (2*sz) (f++m) (Z++o))/\Hp E w' (an 1 s ((Z++Y).map vI)::F),λa _ _=>xs.length-a.toNat,⟨[],[],xs,g,rfl,?_,rfl,rfl,c,λm o h=>h,hh⟩,?_⟩;{rw[af Za];simp};rintro a b w' ⟨f,Z,X,Y,rfl,rfl,hxs,hZ,c,hco,hh⟩;have i:xs.length=f.length+X.length:=by{rw[hxs,Zf]};have W:∀x∈X,x∈xs:=λx j=>by{rw[hxs];exact Wu.mem_append_right _ j};have d:X.Pairwise (·<·):=by{rw[hxs]at hL;exact(List.pairwise_append.1 hL).2.1};rw[af (x:=(f.length:H)+(sz:H)) Za,af (x:=(sz:H)*2) Za];(have next:∀(N:X0)(g:Wu H),Ck key (2*sz) xs g->Hp E N (an 1 s (g.map vI)::F)->(∃(k:I)(g:Wu H),(sz:H)*2=(k:H)/\20<=k/\k<=2*cP/\Ck key k xs g/\Hp E N (an 1 s (g.map vI)::F))/\xs.length-((sz:H)*2).toNat<xs.length-((sz:H)).toNat:=λN g h1 S=>⟨⟨2*sz,g,Za,Za,by rw[aK];omega,h1,S⟩,Za⟩);refine aa.mk (λp=>?_) λq=>?_;{have p:=X9 p;obtain⟨A1,B1,X1,Y1,rfl,rfl,a1,y,c1,t⟩:=c.first Za Za;rw[Zf]at i;obtain⟨A2,B2,X2,Y2,rfl,rfl,a2,z,c2,T⟩:=t.first Za Za;rw[Zf]at i;have B:(A1++A2).Pairwise (·<·):=by{rw[<-Zm]at d;exact(List.pairwise_append.1 d).1};have u:=y.length_eq;have v:=z.length_eq;have lY2:=T.len;rw[af (x:=2*(sz:H)) Za,af Za];refine pZ hc (B1.length+B2.length) (P:=Z) (L:=B1) (R:=B2) (Q:=Y2) (ZA _) (by simpa only[Zm]using hh) (by rw[aK];simp only[Zf];omega) (λe=>by rw[e]at u;simp at u;omega) (λe=>by rw[e]at v;simp at v;omega) c1 c2 (Q0 B y z) (λx j=>hD x (W x (by simp[y.mem_iff.1 j]))) (λx j=>hD x (W x (by simp[z.mem_iff.1 j]))) Za Za Za λM N l r S=>?_;have pM:M.Perm (A1++A2):=l.trans (Wu.Perm.append y z);refine⟨⟨f++(A1++A2),Z++M,X2,Y2,by simp only[Zf];omega,by simp only[Zf];omega,by rw[hxs];simp only[Zm],by simp only[Zf];rw[pM.length_eq,Zf];omega,T,λm o hk=>?_,S⟩,by dsimp only;omega⟩;rw[Zm f,Zm Z];exact hco _ _ (.cons (A1++A2) M m o (by rw[Zf];omega) pM r hk)};have q:=X8 q;refine aa.mk (λhm=>?_) λhm=>?_;{have hm:=X9 hm;obtain⟨A1,B1,X1,Y1,rfl,rfl,a1,y,c1,t⟩:=c.first Za Za;rw[Zf]at i;obtain⟨z,c2⟩:=t.one Za;have u:=y.length_eq;have v:=z.length_eq;refine pZ hc (B1.length+Y1.length) (P:=Z) (L:=B1) (R:=Y1) (Q:=[]) (ZA _) (by simpa using hh) (by rw[aK];simp only[Zf,ZG];omega) (λe=>by rw[e]at u;simp at u;omega) (λe=>by rw[e]at v;simp at v;omega) c1 c2 (Q0 d y z) (λx j=>hD x (W x (by simp[y.mem_iff.1 j]))) (λx j=>hD x (W x (by simp[z.mem_iff.1 j]))) Za Za Za λM N l r S=>?_;have pM:M.Perm (A1++X1):=l.trans (Wu.Perm.append y z);(refine next N (Z++M) ?_ Ze);rw[hxs];exact hco _ _ (.last _ M (by rw[Zf];omega) pM r)};have hm:=X8 hm;obtain⟨l,r⟩:=c.one Za;(refine next w' (Z++Y) ?_ hh);rw[hxs];exact hco _ _ (.last _ Y Za l r)};have hge:=X8 hge;obtain⟨l,r⟩:=c.one Za;exact hK g w' l r hh
def yC{s:Sl}{xs:Q H}{c:G}{key:H->H}{D:H->Prop}{K:ad}(h:Hp E w (an 1 s (xs.map vI)::F))(a:xs.length<=cP)(d:zL E F c key D)(e:∀x∈xs,D x)(f:xs.Pairwise (·<·))(g:∀b w',b.Perm xs->Sd key b->Hp E w' (an 1 s (b.map vI)::F)->K w'):cH 279 [aj s,c] w K:=by refine od.ok _ _ _ _ ?_;have i:=h.aU;simp only[Zl,Zw]at i;exact aab h a d e f Za g
end
end
end Go.Proofs.Q9
namespace Go.Srt
section
def wt(n:I):I:=if n=0 then 0 else if n>15 then 32769 else 2^(15-n)
def cc(l:Q I):I:=(l.map wt).sum
def agx(n:I):wt n<=32769:=by unfold wt;split;{omega};split;{omega};have:2^(15-n)<=2^15:=ZT Zb Za;omega
def Oj:∀l:Q I,cc l<=32769*l.length|[]=>by simp[cc]|x::l=>by have:=Oj l;have:=agx x;simp only[cc,ZV,XP,Zo]at*;omega
def zg{l:Q I}{k:I}(h:k<l.length):cc (l.take (k+1))=cc (l.take k)+wt l[k]:=by unfold cc;rw[Zx,ZD,YN,Zg h];simp only[X7.toList,ZV,YY,XP,Q.sum_nil,Zq]
def Gs{l:Q I}{k:I}:cc (l.take k)<=cc l:=by have:=Wm cc (Zv k l);unfold cc at this⊢;rw[ZD,YN]at this;omega
def afL{l:Q I}{x:I}(h:x∈l):wt x<=cc l:=by obtain⟨i,a,rfl⟩:=ZY h;have:=zg a;have:=Gs (l:=l) (k:=i+1);omega
def used(l:Q I):Q I:=(Zt l.length).filter λs=>decide (0<l.getD s 0)
def BL(l:Q I)(i:H):H:=(l.getD i.toNat 0:H)
def dI(l c:Q I):Prop:=c.Perm (used l)/\c.Pairwise λa b=>l.getD a 0<l.getD b 0\/(l.getD a 0=l.getD b 0/\a<b)
end
end Go.Srt
namespace Go.Proofs.Q9
section
open Go Go.Vc Go.Srt
section
variable{E w:X0}{F:Q HP}
theorem acn{n:I}{K:H->ad}(d:K (wt n:H) w):bE 389 [au (n:H)] w K:=by refine Mw.ok _ _ _ ?_;unfold wt at d;refine aa.mk (λh=>?_) λh=>aa.mk (λc=>?_) λc=>⟨Za,?_⟩;{grind};{grind};have h:n≠0:=by{have:=X8 h;omega};have c:¬n>15:=by{have:=X8 c;omega};rw[Wa h,Wa c]at d;have e:=cJ (k:=.i64) (a:=32768) (b:=n) (by have:Wl.bits .i64=64:=O;omega);rw[show(32768:H)=((32768:I):H)from O,e];have:32768/2^n=2^(15-n):=by{have f:(2:I)^15=32768:=by{decide};have g:=I.pow_sub_mul_pow 2 (show n<=15 by omega);rw[f]at g;exact I.div_eq_of_eq_mul_left (Ym n) g.symm};rw[this];exact d
theorem Cr{l:Q I}{K:H->ad}(h:Hp E w F)(g:l.length=258)(q:bu E F (K (cc l:H))):bE 376 [.agg (ai .u8 l)] w K:=by refine RU.ok _ _ _ (Nw.mk h λb r d=>Ld.arr d (by rw[bG,g]) ?_);have t:=Oj l;refine⟨λf i w'=>∃k:I,i=(k:H)/\k<=258/\f=(cc (l.take k):H)/\Hp E w' F,λ_ i _=>258-i.toNat,⟨0,O,Za,by simp[cc],d.drop⟩,?_⟩;intro f i w' j;obtain⟨k,m,u,n,o⟩:=j;subst m;subst n;refine aa.mk (λa=>?_) λp=>?_;{have a:k<258:=by{have:=X9 a;omega};have c:k<l.length:=by{omega};refine gu.rd (s:=.int .u8) Za Za (l[k]:H) (by rw[Zi];exact j9 c) (acn ?_);have e:=zg c;have:=Gs (l:=l) (k:=k+1);rw[af (x:=(cc (l.take k):H)+(wt l[k]:H)) Za,af Za];exact⟨⟨k+1,O,Za,by rw[e];rfl,o⟩,by dsimp only;omega⟩};grind
def afh{l:Q I}{K:X4->ad}(h:Hp E w F)(a:l.length=258)(d:bu E F (K (We (cc l<=32768)))):aD 340 [.agg (ai .u8 l)] w K:=by refine Ph.ok _ _ _ (Nw.mk h λb f c=>Ld.arr c (by rw[bG,a]) (Cr c a λg e=>?_));have:We ((cc l:H)<=32768)=We (cc l<=32768):=by{rw[Yj];simp;omega};rw[this];exact d _ e.drop
def AX{l:Q I}{K:X4->ad}(h:Hp E w F)(a:l.length=258)(d:bu E F (K (We (cc l<=32768)))):aD 287 [.agg (ai .u8 l)] w K:=by refine Dw.ok _ _ _ (Nw.mk h λb f c=>Ld.arr c (by rw[bG,a]) (afh c a λg e=>d _ e.drop))
theorem adv{x y:H}{K:H->ad}(a:∀z:H,(z<0↔x<y)->K z w):bE 342 [au x,au y] w K:=by refine z7.ok _ _ _ _ (r8.ok _ _ _ (r8.ok _ _ _ ?_));refine aa.f Zd (aa.f Zd (aa.mk (λh=>a _ ?_) λh=>aa.mk (λb=>a _ ?_) λb=>a _ ?_));{grind};{have:=X8 h;omega};have:=X8 h;omega
def afk{l:Q I}{b:I}{t:Wb}(m:l.length=258):zL E (aq b (.cells (ai .u8 l) t (0,0))::F) (.func (.func 341) ⟨[]⟩ ⟨[bU b]⟩) (BL l) (λx=>0<=x/\x<258):=by rintro A w y x K h ⟨e,n⟩ ⟨f,o⟩ i;refine dQ.mk Zc ?_;refine Aa.ok y x ⟨b,0,V⟩ K w ?_;have p:=h.perm Z1;have a:x.toNat<l.length:=Za;have c:y.toNat<l.length:=Za;refine aM.mk h λj g=>?_;have d:=g.perm Z1;refine aX.rd (s:=.int .u8) d f Za (l[y.toNat]:H) (j9 c) ?_;refine aX.rd (s:=.int .u8) d e Za (l[x.toNat]:H) (j9 a) ?_;refine adv λz k=>i z j ?_ g;rw[k];unfold BL;rw[Zn,Zn,Zg a,Zg c];rfl
def mP:cN Zj 25 3 1 8:=cN.of Zc Zc
def jq(l:Q I)(k:I):Q I:=(Zt k).filter λs=>decide (0<l.getD s 0)
theorem oS{l:Q I}{k:I}:jq l (k+1)=jq l k++if 0<l.getD k 0 then[k]else[]:=by unfold jq;rw[Y3,Y9];congr 1;by_cases h:0<l.getD k 0;{grind};grind
def DH{z:H}:∀y∈[vI z],aL y=J:=by intro y a;have:y=vI z:=by{simpa using a};rw[this];rfl
def qg(l:Q I)(k:I):(jq l k).length<=k:=by have:=Q.length_filter_le (λs=>decide (0<l.getD s 0)) (Zt k);simpa[jq]using this
def ints(l:Q I):Q H:=l.map λ(x:I)=>(x:H)
def J2{a b:Q I}:ints (a++b)=ints a++ints b:=ZD
theorem acG{l:Q I}{K:Sl->ad}(h:Hp E w F)(g:l.length=258)(u:¬cc l<=32768->∀w',Hp E w' F->K ⟨V,0,0⟩ w')(v:cc l<=32768->∀ys s w',dI l ys->Hp E w' (an 1 s ((ints ys).map vI)::F)->K s w'):bS 288 [.agg (ai .u8 l)] w K:=by refine CH.ok _ _ _ (Nw.mk h λb w1 B=>Ld.arr B (by rw[bG,g]) (AX B g λM z=>?_));refine aa.mk (λr=>u Ze M z.drop) λr=>?_;have r:cc l<=32768:=by{simpa using r};refine Ld.arr z (by rw[bG,g]) ?_;refine⟨λo i w'=>∃k:I,i=(k:H)/\k<=258/\Hp E w' (an 1 o ((ints (jq l k)).map vI)::aq b (.cells (ai .u8 l) 166 (0,0))::F),λ_ i _=>258-i.toNat,⟨0,rfl,Za,z.aV 1⟩,?_⟩;intro o i w' N;obtain⟨k,P,hk,t⟩:=N;subst P;refine aa.mk (λj=>?_) λf=>?_;{have j:k<258:=by{have:=X9 j;omega};have m:k<l.length:=by{omega};have C:l.getD k 0=l[k]:=by{rw[Zn,Zg m];rfl};refine gu.rd (s:=.int .u8) Za Za (l[k]:H) (by rw[Zi];exact j9 m) ?_;refine aa.mk (λc=>?_) λc=>?_;{have c:0<l[k]:=by{have:=X9 c;omega};refine Nw.mk t λR G p=>?_;have S:=t.aU;have hu:=qg l k;simp only[Zl,ints,Zw]at S;refine bj (ys:=[vI (k:H)]) (n:=1) mP Zb (.inl ⟨3,Zc⟩) p.p1 (.inl ⟨Z ⟨R,0,V⟩,1,1,rfl,rfl,p.ak (ae.aF rfl rfl)⟩) rfl DH Za Za λs' w4 T W=>?_;rw[af Za];refine⟨⟨k+1,rfl,Za,?_⟩,by dsimp only;omega⟩;rw[oS,C,X3 c,J2,ZD];exact T.p1.drop};have c:¬0<l[k]:=by{have:=X8 c;omega};rw[af Za];refine⟨⟨k+1,rfl,Za,?_⟩,by dsimp only;omega⟩;rw[oS,C,Wa c,ZF];exact t};have f:k=258:=by{have:=X8 f;omega};subst f;have A:∀x∈jq l 258,x<258:=λx q=>by{have:=(List.mem_filter.1 q).1;simpa using this};refine yC (key:=BL l) (D:=λx=>0<=x/\x<258) t (by have:=qg l 258;rw[aK];simp only[ints,Zl];omega) (afk g) (λx q=>?_) ?_ λys G c L p=>?_;{obtain⟨y,X,rfl⟩:=List.mem_map.1 q;have:=A y X;omega};{unfold ints;refine Q.Pairwise.map _ (λa b d=>Int.ofNat_lt.2 d) (Q.Pairwise.filter _ Q.pairwise_lt_range)};have Y:jq l 258=used l:=by{unfold jq used;rw[g]};rw[Y]at c;have e:ys=ints (ys.map H.toNat):=by{unfold ints;rw[YC];refine(Q.map_id ys).symm.trans (ZX λx q=>?_);obtain⟨y,_,rfl⟩:=List.mem_map.1 (c.mem_iff.1 q);simp};have pN:(ys.map H.toNat).Perm (used l):=by{have:=c.map H.toNat;refine this.trans ?_;unfold ints;rw[YC];refine Q.Perm.of_eq ((ZX λx _=>?_).trans (Q.map_id _));simp};rw[e]at p L;refine v r (ys.map H.toNat) _ G ⟨pN,?_⟩ p.p1.drop;refine(List.pairwise_map.1 L).imp λ{a b} d=>?_;unfold Ky BL at d;simp only[Zi]at d;omega
end
end
section
open Go Go.Vc Go.Pol Go.Srt
section
variable{E w:X0}{F:Q HP}
end
set_option maxRecDepth 100000
section
variable{E w:X0}{F:Q HP}
def abA(a:I):Prop:=∀{E w:X0}{F:Q HP}{n:H}{side mode:I}{K:Sl->H->ad},Hp E w F->(∀m:I,n=(m:H)->sy m side mode->∀s w',Hp E w' (an 1 s ((ints (layout m side mode)).map vI)::F)->K s 0 w')->(¬(0<=n/\sy n.toNat side mode)->∀w',Hp E w' F->K ⟨V,0,0⟩ 2 w')->ah [kS,kI] a [ni n,au (side:H),au (mode:H)] w K
def gC.lkV{P:X6}{s:Sem G}{w:X0}{K:G->X4->ad}(x:G)(b:X4)(h:s.run P w=.ok (.tuple #[x,.bool b]) w)(a:K x b w):gC P s [kV,kB] w K:=by unfold gC;rw[h];exact a
def ab1(w:X0):(Wv 217).run Zj w=.ok .nilFunc w:=Zc
def ow{b:I}{l:Q I}{t:Wb}{vs:Q G}(h:Hp E w (bm b vs t::F))(a:vs=(ints l).map vI):Hp E w (an 1 ⟨Z ⟨b,0,V⟩,vs.length,vs.length⟩ ((ints l).map vI)::F):=by subst a;exact h.nw (sz:=1) Zd
theorem acM{j m:I}{K:Sl->ad}(g:j<6)(h:Hp E w F)(n:1<=m)(i:m<=65536)(c:∀s w',Hp E w' (an 1 s ((ints (layout m (j/3+1) (j%3+1))).map vI)::F)->K s w'):dQ Zj (vP j) [kS] [ni (m:H)] w K:=by have l:YR .i64=9223372036854775807:=O;have d:aZ .i64 (m:H) 13=((m/8192:I):H):=cJ (k:=.i64) (a:=m) (b:=13) Zb;have f:aZ .i64 (m:H) 10=((m/1024:I):H):=cJ (k:=.i64) (a:=m) (b:=10) Zb;match j,g with|0,_=>refine dQ.mk Zc (rb.ok _ _ _ (Nw.mk h λb w h=>c _ _ (ow h ?_)));simp[layout,ints,vI]|1,_=>refine dQ.mk Zc (rb.ok _ _ _ (Nw.mk h λb w h=>c _ _ (ow h ?_)));simp[layout,ints,vI]|2,_=>refine dQ.mk Zc (Bj.ok _ _ _ (Nw.mk h λb w h=>c _ _ (ow h ?_)));have e:(i64 (4*(if(1024:H)<i64 ((m:H)+1)then(1024:H)else i64 ((m:H)+1))))=((4*WE (m+1) 1024:I):H):=by{rw[af (x:=(m:H)+1) Za,af Ze];split<;>omega};simp only[layout,ints,vI,ni];rw[e];rfl|3,_=>refine dQ.mk Zc (A8.ok _ _ _ ⟨Zb,Nw.mk h λb w h=>c _ _ (ow h ?_)⟩);rw[d,af Za];rfl|4,_=>refine dQ.mk Zc (AW.ok _ _ _ ⟨Zb,Nw.mk h λb w h=>c _ _ (ow h ?_)⟩);rw[f,af Za];rfl|5,_=>refine dQ.mk Zc (AG.ok _ _ _ (Nw.mk h λb w h=>c _ _ (ow h ?_)));rw[af (x:=(m:H)+1) Za,af Za];rfl
def agw:∀i,i<6->63/2^i%2=1:=Zb
def abD{j:I}(a:j<6):BW j=(((j/3+1:I):H),((j%3+1:I):H)):=by match j,a with|0,_=>rfl|1,_=>rfl|2,_=>rfl|3,_=>rfl|4,_=>rfl|5,_=>rfl
theorem Hi:abA 83:=by intro E w F n side mode K h d b;refine GQ.ok _ _ _ _ _ (Rp h λm l w x h=>?_);have c:=vC (ke:=rM) (ve:=λv:G=>v) Ke afJ (a:=((side:H),(mode:H))) ab1 h;by_cases hs:(side=1\/side=2)/\1<=mode/\mode<=3;{obtain⟨j,o,rfl,rfl⟩:∃j,j<6/\side=j/3+1/\mode=j%3+1:=⟨3*(side-1)+(mode-1),Za,Za,Za⟩;have p:=x.has j o;rw[X3 (agw j o),abD o]at p;obtain⟨q,r,u⟩:=Option.map_eq_some_iff.1 p;rw[r]at c;refine gC.lkV _ _ c (aa.f rfl ?_);dsimp only;rw[u];refine aa.dm (λy=>b (λg=>by have:=g.2.2.2.2.1;omega) _ h.drop) λz=>aa.dm (λA=>b (λg=>by have:=g.2.2.2.2.2;omega) _ h.drop) λB=>?_;obtain⟨k,rfl⟩:∃k:I,n=(k:H):=⟨n.toNat,Za⟩;exact acM o h Za Za λs w h=>d k rfl ⟨hs.1,hs.2.1,hs.2.2,Za,Za⟩ s w (h.no 1)};have p:=x.no ((side:H),(mode:H)) (λi C e=>by rw[abD C]at e;injection e with D L;exact hs ⟨Za,Za,Za⟩);have r:findAt ((side:H),(mode:H)) l 0=V:=Ze;rw[r]at c;exact gC.lkV _ _ c (aa.t rfl (b (λg=>hs ⟨g.2.1,g.2.2.1,g.2.2.2.1⟩) _ h.drop))
end
end
end Go.Proofs.Q9
namespace Go.Pol
section
def da(a n:H)(side:I):I×I:=if¬(1<=n/\n<=65536)\/¬(1<=a/\a<=1048576)then(0,2)else if aR a.toNat n.toNat side=0 then(0,230)else(aR a.toNat n.toNat side,0)
def OD{n side mode:I}(h:n<=65536):bF n side mode<=400000:=by unfold bF layout;split;{split<;>simp<;>omega};grind
def Lt(mode:I):I:=if mode=1 then 8192 else if mode=2 then 1024 else 1
def bound(n mode:I):I:=8300+15*(n+1)+(2*n+1)*WE n (Lt mode)
end
end Go.Pol
namespace Go.Proofs.Q9
section
open Go Go.Vc Go.Pol Go.Srt
section
variable{E w:X0}{F:Q HP}
end
set_option maxRecDepth 100000
section
variable{E w:X0}{F:Q HP}
def aeU(a:I):Prop:=∀{E w:X0}{F:Q HP}{n:H}{side mode:I}{K:H->H->ad},Hp E w F->(∀m:I,n=(m:H)->sy m side mode->∀w',Hp E w' F->K (bF m side mode:H) 0 w')->(¬(0<=n/\sy n.toNat side mode)->∀w',Hp E w' F->K 0 2 w')->ah [kI,kI] a [ni n,au (side:H),au (mode:H)] w K
def A0{l:Q I}{k:I}(a:k<l.length):(l.take (k+1)).sum=(l.take k).sum+l[k]:=by rw[Zx,YN,Zg a];simp
def oQ(l:Q I)(k:I):(l.take k).sum<=l.sum:=by have:=Wm Q.sum (Zv k l);rw[YN]at this;omega
def agP{t:WA}(y:abA t){n:H}{side mode:WA}{K:H->H->ad}(h:Hp E w F)(c:∀m:WA,n=(m:H)->sy m side mode->∀w',Hp E w' F->K (bF m side mode:H) 0 w')(d:¬(0<=n/\sy n.toNat side mode)->∀w',Hp E w' F->K 0 2 w'):ah [kS,kI] t [ni n,au (side:H),au (mode:H)] w λ(s:Sl)(e:H) w=>dK 0 0 w λI m(a:H)(i:H) w=>aa (We (i<(s.len:H))) (ay s i 1 λq=>Ld kI q w λ(x:H)=>I (i64 (a+x)) (i64 (i+1)) w/\m (i64 (a+x)) (i64 (i+1)) w<m a i w) (K a e w):=by refine y h (λm z u s w h=>?_) λj w h=>?_;{have f:=OD (side:=side) (mode:=mode) u.2.2.2.2;unfold bF at f;have b:=h.aU;rw[Zl,Zw,show(ints (layout m side mode)).length=(layout m side mode).length from Zl ..]at b;have o:(layout m side mode).length<=3:=by{unfold layout;split<;>(try split)<;>(try split)<;>simp};generalize A:layout m side mode=l at f h b o;refine⟨λa i w=>∃k:WA,i=(k:H)/\k<=l.length/\a=((l.take k).sum:H)/\Hp E w (an 1 s ((ints l).map vI)::F),λ_ i _=>l.length-i.toNat,⟨0,O,Za,Zd,h⟩,?_⟩;rintro a i w ⟨k,rfl,hk,rfl,h⟩;have B:=oQ l k;refine aa.dm (λg=>?_) λC=>?_;{have g:k<l.length:=by{omega};have p:=A0 g;have v:=oQ l (k+1);refine ay.rd (h.ak ae.own) Za Za λq _ D=>?_;refine Ld.sc (s:=.int .i64) (l[k]:H) (by rw[D];simp[Sc.enc,vI,ints]) ?_;rw[af Za,af Za];exact⟨⟨k+1,Za,Za,by rw[p];omega,h⟩,by first|omega|(dsimp only;omega)⟩};have r:k=l.length:=by{omega};subst r;rw[Zr (ZA _)];have:=c m z u w h.drop;unfold bF at this;rw[A]at this;exact this};exact⟨λa i w=>a=0/\i=0/\Hp E w F,λ_ _ _=>0,⟨O,O,h⟩,λa i w⟨G,L,h⟩=>by subst G;subst L;exact aa.df Zb (d j _ h)⟩
def Iy:aeU 65:=by intro E w F n side mode K h a b;exact ML.ok _ _ _ _ _ (agP Hi h a b)
def ac6{n:H}{side:I}{K:H->H->ad}(h:Hp E w F)(a:∀m:I,n=(m:H)->sy m side 1->∀w',Hp E w' F->K (bF m side 1:H) 0 w')(b:¬(0<=n/\sy n.toNat side 1)->∀w',Hp E w' F->K 0 2 w'):ah [kI,kI] 126 [ni n,au (side:H)] w K:=Ji.ok _ _ _ _ (Iy (mode:=1) h a b)
theorem TF{a n:H}{side:I}{K:H->H->ad}(h:Hp E w F)(r:side=1\/side=2)(d:bu E F (K ((da a n side).1:H) ((da a n side).2:H))):ah [aG .u8,kI] 82 [ni a,ni n,au (side:H)] w K:=by refine LR.ok _ _ _ _ _ (oD (λs=>∀(m:I) w,n=(m:H)->sy m side 1->(1<=a/\a<=1048576)->Hp E w F->s w) ?_ λs q=>?_);{rintro m w rfl c ⟨hb1,hb2⟩ h;obtain⟨b,rfl⟩:∃b:I,a=(b:H):=⟨a.toNat,Za⟩;have u:da (b:H) (m:H) side=if aR b m side=0 then(0,230)else(aR b m side,0):=by{have:=c.2.2.2;unfold da;rw[Wa Za];rfl};rw[u]at d;have p:∀mode,1<=mode->mode<=3->sy m side mode:=λmode l o=>⟨r,l,o,c.2.2.2.1,c.2.2.2.2⟩;refine⟨λmode w=>∃k:I,mode=(k:H)/\k<=3/\(∀j,k<j->j<=3->b<bF m side j)/\Hp E w F,λmode _=>mode.toNat,⟨3,rfl,Za,λj l o=>Za,h⟩,?_⟩;rintro mode w ⟨k,rfl,hk,hlo,h⟩;refine aa.dm (λt=>?_) λA=>?_;{refine Iy h (λv e _ w h=>?_) λf=>Wi ⟨Za,p k Za hk⟩ f;obtain rfl:m=v:=by{omega};refine aa.dm (λx=>?_) λy=>?_;{have g:aR b m side=k:=by{unfold aR;have:k=1\/k=2\/k=3:=by{omega};(rcases this with rfl|rfl|rfl);{grind};{grind};rw[X3 Za]};rw[g,Wa Za]at d;exact d w h};obtain⟨i,rfl⟩:∃i,k=i+1:=⟨k-1,Za⟩;rw[jh Za];refine⟨⟨i,Za,Za,λj l o=>?_,h⟩,by first|omega|(dsimp only;omega)⟩;by_cases e:j=i+1;{subst e;omega};grind};obtain rfl:k=0:=by{omega};have g:aR b m side=0:=by{unfold aR;have l:=hlo 1 Za Za;have o:=hlo 2 Za Za;have B:=hlo 3 Za Za;rw[Wa Za,Wa Za,Wa Za]};rw[g,X3 rfl]at d;exact d w h};refine ac6 h (λm z c w h=>?_) λf w h=>?_;{refine aa.nf rfl (aa.dm (λl=>?_) λl=>aa.dm (λo=>?_) λo=>q m w z c Za h);{have:=d w h;rw[show da a n side=(0,2) by unfold da;rw[X3 Za]]at this;exact this};have:=d w h;rw[show da a n side=(0,2) by unfold da;rw[X3 Za]]at this;exact this};refine aa.nt Zb ?_;have:=d w h;rw[show da a n side=(0,2) by unfold da;rw[X3];refine .inl λC=>f ⟨Za,r,Za,Za,Za,Za⟩]at this;exact this
end
end
end Go.Proofs.Q9
namespace Go.Crc
section
def half(c:I):I:=(c/2)^^^(if c%2=1 then 3988292384 else 0)
def row(c:I):I:=half (half (half (half (half (half (half (half c)))))))
def step(c b:I):I:=row ((c%256)^^^b)^^^(c/256)
def feed(c:I)(b:Q I):I:=b.foldl step c
def cF(b:Q I):I:=feed 4294967295 b^^^4294967295
def kr{c:I}(h:c<4294967296):half c<4294967296:=by unfold half;exact Xw (n:=32) Za Ze
def Te{c:I}(h:c<4294967296):row c<4294967296:=kr (kr (kr (kr (kr (kr (kr (kr h)))))))
def M8{c b:I}(h:c<4294967296)(a:b<256):step c b<4294967296:=by unfold step;have d:(c%256)^^^b<256:=Xw (n:=8) Za a;exact Xw (n:=32) (Te Za) Za
def zt:∀(b:Q I)(c:I),c<4294967296->(bP b)->feed c b<4294967296|[],_,h,_=>h|x::b,c,h,hb=>by rw[feed,Q.foldl_cons];exact zt b _ (M8 h (hb x ZM)) λy a=>hb y (Zz _ a)
def Jt(a b:Q I)(c:I):feed c (a++b)=feed (feed c a) b:=Q.foldl_append
def pj{b:Q I}(a:bP b):cF b<4294967296:=Xw (n:=32) (zt b _ Zb a) Zb
end
end Go.Crc
namespace Go.Vc
section
open Go
def mv(f:I->I)(L i:I):I->I:=λj=>if j<L/\(j<i\/L<=j+i)then f (L-1-j)else f j
def R4(f:I->I)(L:I):mv f L 0=f:=by funext j;unfold mv;rw[K Za]
def Rt{f:I->I}{L i k:I}(e:i+k+1=L)(a:i<k):dM (dM (mv f L i) i (mv f L i k)) k (mv f L i i)=mv f L (i+1):=by funext j;have c:mv f L i k=f k:=by{unfold mv;rw[K Za]};have d:mv f L i i=f i:=by{unfold mv;rw[K Za]};rw[c,d];simp only[dM,mv];by_cases h1:j=k;{grind};grind
def T7{f:I->I}{L i:I}(h:L<=2*i+1):bL (mv f L i) 0 L=(bL f 0 L).reverse:=by apply Yu;{rw[Z7,cg,cg]};intro j a c;rw[cg]at a;rw[fg a,Q.getElem_reverse];simp only[cg];rw[fg Za];simp only[mv,Zk];by_cases h3:j<L/\(j<i\/L<=j+i);{rw[X3 h3]};grind
end
end Go.Vc
namespace Go.Pol
section
def fV(n mode:I):Q (I×I):=places 0 (layout n 1 mode)
def aa4{n mode:I}:∃r,fV n mode=(0,n)::r:=by unfold fV layout;rw[X3 O];split<;>exact⟨_,O⟩
def VI(n:I):fV n 3=[(0,n),(n,n),(n+n,4*WE (n+1) 1024)]:=by unfold fV layout;rw[X3 O,X3 O];simp[places]
end
end Go.Pol
namespace Go.Proofs.Q9
section
open Go Go.Vc Go.Bw Go.Pol Go.Srt
structure EC where
 n:I
 mode:I
 A:AS
 held:Q I
 all:Q I
 begun:X4
 closed:X4
structure mF (C:EC):Prop where
 n1:1<=C.n
 n2:C.n<=65536
 m1:1<=C.mode
 m3:C.mode<=3
 live:bF C.n 1 C.mode=C.A.live
 len:C.held.length<=C.n
 hb:∀x∈C.held,x<256
 ab:∀x∈C.all,x<256
def eN(p:I×I):Q G:=[ni (p.1:H),ni (p.2:H)]
def eM(p:I×I):(eN p).length=2:=O
abbrev jJ(b:I)(C:EC)(sp:Sl):HP:=bm b [ni (C.n:H),ni (C.held.length:H),au (C.mode:H),pA C.A,aj sp,.int .u32 (Crc.cF C.held:H),.int .u32 (Crc.cF C.all:H),.bool C.begun,.bool C.closed] 148
abbrev jO(C:EC)(sp:Sl):HP:=an 2 sp ((fV C.n C.mode).flatMap eN)
abbrev pE(b:I):G:=bU b
section
variable{E w:X0}{F:Q HP}{b:I}{C:EC}{sp:Sl}{f:I->I}
def Ia{a:Q (I×I)}{i:I}{G:Q HP}{K:H×H×Unit->Prop}(h:Hp E w G)(d:ae G (aN 2 sp (a.flatMap eN)))(e:i<a.length)(g:K ((a[i].1:H),(a[i].2:H),())):ay sp (i:H) 2 λq=>Ld (.st [iQ,iQ]) q w K:=by refine ay.el eM Zb (h.ak d) O e λp k=>Ld.st (ks:=[iQ,iQ]) ((a[i].1:H),(a[i].2:H),()) (λj c=>?_) g;have c:j<2:=c;rw[k j c];match j,c with|0,_=>rfl|1,_=>rfl
def ua{i:I}{K:H×H×Unit->ad}(h:Hp E w (jJ b C sp::jO C sp::F))(a:i<(fV C.n C.mode).length)(c:∀w',Hp E w' (jJ b C sp::jO C sp::F)->K ((((fV C.n C.mode)[i]).1:H),(C.held.length:H),()) w'):ah [.st [iQ,iQ]] 194 [pE b,ni (i:H)] w K:=by refine vT.ok _ _ _ _ (Nw.mk h λe w h=>aM.mk h λw h=>?_);(try simp only[ax,ao,Zk]);refine Ld.xb (x:=sp) h O (ay.el eM Zb (h.ak (ae.at 2 ae.own)) O a λp d=>?_);refine Ld.sc (s:=.int .i64) (((fV C.n C.mode)[i]).1:H) (by have:=d 0 Zb;simpa[eN,Sc.enc]using this) ?_;refine Ld.xb h O ?_;(with_reducible refine aB.xw h O O λw h=>?_);exact Ld.xt h O (c w (h.no 0))
def Hm{n mode:I}:∃h:0<(fV n mode).length,(fV n mode)[0]=(0,n):=by obtain⟨r,e⟩:=aa4 (n:=n) (mode:=mode);exact⟨by rw[e];simp,by simp[e]⟩
def mF.Ho(a:mF C):C.n<=C.A.live:=by rw[<-a.live];unfold bF layout;rw[X3 O];split<;>simp
def ab5{K:ad}(l:mF C)(h:Hp E w (jJ b C sp::jO C sp::Ar C.A f::F))(u:∀g w',bL g 0 C.held.length=(bL f 0 C.held.length).reverse->Hp E w' (jJ b C sp::jO C sp::Ar C.A g::F)->K w'):cH 131 [pE b] w K:=by refine vE.ok _ _ _ ?_;have v:=l.n2;have c:=l.len;have m:=l.Ho;obtain⟨y,z⟩:=Hm (n:=C.n) (mode:=C.mode);(try simp only[ax,ao,Zk]);refine Ld.xb (x:=sp) h rfl (Ia (i:=0) h (ae.at 1 ae.own) y ?_);rw[z];refine Nw.mk h λB w h=>?_;(with_reducible refine aB.xw h rfl rfl λw h=>?_);refine aM.mk h λw h=>?_;(skip);refine Ld.xb h rfl ?_;rw[af Za];generalize t:C.held.length=L at c;have D:=t;refine⟨λi k w=>∃d:I,i=(d:H)/\k=(L:H)-1-(d:H)/\2*d<=L+1/\Hp E w (Ar C.A (mv f L d)::bm B [ni ((0:I):H),ni (C.n:H)] 150::jJ b C sp::jO C sp::F),λi _ _=>L-i.toNat,⟨0,rfl,Za,Za,by rw[R4];exact h.at 3⟩,?_⟩;rintro i k w ⟨d,rfl,rfl,hd,h⟩;refine aa.dm (λG=>?_) λM=>?_;{obtain⟨k,N⟩:∃k:I,(L:H)-1-(d:H)=(k:H):=⟨L-1-d,Za⟩;rw[N];have o:d+k+1=L:=by{omega};have r:d<k:=by{omega};obtain⟨e,_⟩:=Ar.cC h;refine aM.mk h λw h=>?_;(try simp only[]);refine Ld.xb h rfl (Ld.xt h rfl ?_);refine gT (p:=0) (q:=C.n) h Za (λj P s w h=>?_) λa=>Wi ⟨Za,Za⟩ a;obtain rfl:d=j:=by{omega};refine aM.mk h λw h=>?_;(try simp only[Zk]);refine Ld.xb h rfl (Ld.xt h rfl ?_);refine gT (p:=0) (q:=C.n) h Za (λj P s w h=>?_) λa=>Wi ⟨Za,Za⟩ a;obtain rfl:k=j:=by{omega};refine aM.mk h λw h=>?_;(try simp only[Zk]);refine Ld.xb h rfl (Ld.xt h rfl ?_);refine lX (p:=0) (q:=C.n) h Za Za (e.byt _) λw h=>?_;refine aM.mk h λw h=>?_;(skip);refine Ld.xb h rfl (Ld.xt h rfl ?_);refine lX (p:=0) (q:=C.n) h Za Za (e.byt _) λw h=>?_;rw[af Za,af Za];refine⟨⟨d+1,Za,Za,Za,?_⟩,by first|omega|(dsimp only;omega)⟩;simp only[Zk]at h;rw[Rt o r]at h;exact h};refine u (mv f L d) w (by rw[t];exact T7 Za) ?_;exact(((h.no 1).at 2).at 2)
def UL{K:H×H×Unit->H->ad}(a:mF C)(o:1<=C.held.length)(h:Hp E w (jJ b C sp::jO C sp::Ar C.A f::F))(k:∀g w',bL g 0 C.held.length=bC (bL f 0 C.held.length)->Hp E w' (jJ b C sp::jO C sp::Ar C.A g::F)->K (((0:I):H),(C.held.length:H),()) (bY (bL f 0 C.held.length):H) w'):ah [.st [iQ,iQ],kI] 129 [pE b] w K:=by refine uG.ok _ _ _ ?_;have l:=a.n2;have d:=a.len;have c:=a.Ho;obtain⟨e,j⟩:=Hm (n:=C.n) (mode:=C.mode);refine Nw.mk h λr w h=>?_;have h:=h.drew (n:=w.drawn+1);(try simp only[ax,ao,Zk]);refine⟨cj b _ _ (0,0),h.hb,aO.xb (λ_ h=>h) O ?_⟩;refine ua (i:=0) ((h.at 2).at 2) e λw h=>⟨h.hb,?_⟩;rw[j];refine Um (p:=0) (q:=C.held.length) (h.at 3) Za Za Za λg s w m _ h=>⟨h.hb,?_⟩;refine ua (i:=0) ((h.at 2).at 2) e λw h=>?_;rw[j];(with_reducible refine aB.xw h O O λw h=>?_);exact Ld.xt h O (k g w m (h.no 3))
def zv{a:Q (I×I)}{i:I}{S:ad}{K:H×H×Unit->Prop}(h:aN 2 sp (a.flatMap eN) w)(l:∀w',S w'->aN 2 sp (a.flatMap eN) w')(m:i<a.length)(n:K ((a[i].1:H),(a[i].2:H),())):ay sp (i:H) 2 λq=>aO (.st [iQ,iQ]) q S K:=by have o:=h.1;rw[cS eM]at o;obtain⟨p,k,_⟩:=h.2 0 (by rw[cS eM];omega);refine ay.mk k Za Za (B3 (ks:=[iQ,iQ]) ((a[i].1:H),(a[i].2:H),()) (λw' r j c=>?_) n);have c:j<2:=c;have s:=l w' r;obtain⟨d,g,t⟩:=s.2 (i*2+j) (by rw[cS eM];omega);obtain rfl:d=p:=XE (g.symm.trans k);rw[Zk,Zi,show(d.add (i*2)).add j=d.add (i*2+j) by unfold YD;by_cases e1:i*2=0<;>by_cases e2:j=0<;>simp[e1,e2,Yy],t];have e:=jC eM a i j m c;rw[Zg (by rw[cS eM];omega)]at e;rw[e];have:j=0\/j=1:=Za;rcases this with rfl|rfl<;>rfl
def acJ{K:H×H×Unit->H->ad}(d:mF C)(p:1<=C.held.length)(k:C.mode=3)(h:Hp E w (jJ b C sp::jO C sp::Ar C.A f::F))(q:∀g w',bL g C.n C.held.length=bC (bL f 0 C.held.length)->Hp E w' (jJ b C sp::jO C sp::Ar C.A g::F)->K ((C.n:H),(C.held.length:H),()) (bY (bL f 0 C.held.length):H) w'):ah [.st [iQ,iQ],kI] 130 [pE b] w K:=by refine uZ.ok _ _ _ ?_;have r:=d.n1;have t:=d.n2;have l:=d.len;have c:fV C.n C.mode=[(0,C.n),(C.n,C.n),(C.n+C.n,4*WE (C.n+1) 1024)]:=by{rw[k];exact VI _};have e:C.n+C.n+4*WE (C.n+1) 1024<=C.A.live:=by{rw[<-d.live,k];unfold bF layout;rw[X3 O,X3 O];simp;omega};refine Nw.mk h λD w h=>?_;have h:=h.drew (n:=w.drawn+1);(try simp only[ax,ao,Zk]);have a:∀{w:X0}{G:Q HP},Hp E w (jJ b C sp::jO C sp::G)->cj b _ _ (0,0) w/\aN 2 sp ((fV C.n C.mode).flatMap eN) w:=λ{w G} h=>⟨h.hb,h.ak (ae.at 1 ae.own)⟩;have j:=(h.at 2).at 2;have o:∀h,(fV C.n C.mode)[1]' h=(C.n,C.n):=by{rw[c];intro h;rfl};have u:∀h,(fV C.n C.mode)[2]' h=(C.n+C.n,4*WE (C.n+1) 1024):=by{rw[c];intro h;rfl};have v:(fV C.n C.mode).length=3:=by{rw[c];rfl};obtain⟨y,z⟩:=Hm (n:=C.n) (mode:=C.mode);refine⟨λw=>cj b _ _ (0,0) w/\aN 2 sp ((fV C.n C.mode).flatMap eN) w,a j,aO.xb (λ_ h=>h.1) O (aO.xb (x:=sp) (λ_ h=>h.1) O ?_)⟩;refine zv (i:=2) (a j).2 (λ_ h=>h.2) Za ?_;rw[u];refine ua (i:=0) j y λw h=>⟨a h,?_⟩;rw[z];refine ua (i:=1) h Za λw h=>⟨a h,?_⟩;rw[o];refine VG (pt:=0) (m:=C.held.length) (pc:=C.n) (pr:=C.n+C.n) (R:=WE (C.n+1) 1024) (h.at 3) Za Za Za p Za Za Za Za Za Za λg s w B h=>?_;have h:=(h.at 2).at 2;refine⟨a h,ua (i:=1) h Za λw h=>?_⟩;rw[o];(with_reducible refine aB.xw h O O λw h=>?_);exact Ld.xt h O (q g w B (h.no 3))
end
def uQ:Prop:=∀{E w:X0}{F:Q HP}{b:I}{C:EC}{sp:Sl}{f:I->I}{K:H×H×Unit->H->ad},mF C->1<=C.held.length->C.mode=3->Hp E w (jJ b C sp::jO C sp::Ar C.A f::F)->(∀g w',bL g C.n C.held.length=bC (bL f 0 C.held.length)->Hp E w' (jJ b C sp::jO C sp::Ar C.A g::F)->K ((C.n:H),(C.held.length:H),()) (bY (bL f 0 C.held.length):H) w')->ah [.st [iQ,iQ],kI] 130 [pE b] w K
def agq:uQ:=λa c d h e=>acJ a c d h e
end
section
open Go Go.Vc
set_option maxRecDepth 100000
def P9.ok(a:Sl)(R:Sl->ad) w(h:ah [(.arr 257)] 200 [] w λc b=>ah [(.arr 257),kS,kI] 199 [(.agg c),(aj a)] b λe(f:Sl)(g:H) d=>Nw 290 ⟨Zh 256 (au 0)++[(ni 0)]⟩ d λi h=>aH 257 (av i 0) e h λj=>aQ 257 i 0 j λk=>ah [kS,kI] 201 [(.agg k)] j λ(m:Sl)(n:H) l=>nX 25 f m l λp o=>R p o):bS 133 [(aj a)] w R:=co Tryz.f133 [] h
def Mg.ok(a:(X5 G))(b:Sl)(R:(X5 G)->Sl->H->ad) w(h:Nw 290 a w λd c=>Nw 290 ⟨Zh 256 (au 0)++[(ni 0)]⟩ c λf e=>a8 (λ(r:X0)=>dK (⟨V,0,0⟩:Sl) 0 r λs t(u:Sl)(v:H) x=>aw (v<(b.len:H)) (ay b v 1 λy=>fw y x λz=>aQ 256 d 0 x λI=>ah [(.arr 256),kI] 274 [(.agg I),(au z)] x λK(B:H) L=>aH 256 (av d 0) K L λA=>aa (B==0) (aJ d 256 A λM=>cQ d 256 (ni (i64 (M+1))) A λC=>s u (i64 (v+1)) C/\t u (i64 (v+1)) C<t u v x) (aJ d 256 A λN=>ah [kS,kI] 275 [(ni N)] A λ(P:Sl)(k1:H) Q=>nX 25 u P Q λS T=>aI 3 [(ni (i64 (B+1)))] T λW X=>aC Pg (ZE #[25,25] 25 ⟨[(aj S),(cL W 1)]⟩) kS X λ(D:Sl) Y=>cQ d 256 (ni 0) Y λE=>s D (i64 (v+1)) E/\t D (i64 (v+1)) E<t u v x)) (aQ 257 d 0 x λs1=>aH 257 (av f 0) s1 x λF=>aQ 257 f 0 F λu1=>R u1 u 0 F)) λg=>aQ 257 d 0 e λh=>aD 273 [(.agg h)] e λj i=>aa (! j) (aQ 257 d 0 i λk=>aH 257 (av f 0) k i λl=>aQ 257 f 0 l λm=>R m (⟨V,0,0⟩:Sl) 2 l) (aJ d 256 i λn=>aw ((b.len:H)>(i64 ((2147483647:H)-n))) (aQ 257 d 0 i λo=>aH 257 (av f 0) o i λp=>aQ 257 f 0 p λq=>R q (⟨V,0,0⟩:Sl) 2 p) (g i))):ah [(.arr 257),kS,kI] 199 [(.agg a),(aj b)] w R:=co Tryz.f199 [(2,[]),(14,[(7,kS),(27,kI)])] h
def Pl.ok(R:(X5 G)->ad) w(h:Nw 290 ⟨Zh 256 (au 0)++[(ni 0)]⟩ w λb a=>ah [(.arr 256)] 276 [] a λd c=>eu Pg 290 [(0,(.agg d))] λe=>aH 257 (av b 0) e c λf=>aQ 257 b 0 f λg=>R g f):ah [(.arr 257)] 200 [] w R:=co Tryz.f200 [] h
def PQ.ok(a:(X5 G))(R:Sl->H->ad) w(h:Nw 290 a w λc b=>aQ 257 c 0 b λd=>aD 273 [(.agg d)] b λf e=>aa (! f) (R (⟨V,0,0⟩:Sl) 2 e) (aJ c 256 e λg=>ah [kS,kI] 275 [(ni g)] e λ(i:Sl)(j:H) h=>aI 3 [(ni 257)] h λl k=>aC Pg (ZE #[25,25] 25 ⟨[(aj i),(cL l 1)]⟩) kS k λ(n:Sl) m=>R n 0 m)):ah [kS,kI] 201 [(.agg a)] w R:=co Tryz.f201 [] h
def K1.ok(a:(X5 G))(R:X4->ad) w(h:Nw 290 a w λc b=>dw b λd e=>aO (.arr 257) (av c 0) d λf=>ah [(.arr 257)] 200 [] e λh g=>d g/\zd Pg 290 f h λi=>aa i (R J g) (jc (av c 256) d λj=>aw (j>=0) (jc (av c 256) d λk=>aw (k<=2147483647) (aO (.arr 256) (av c 0) d λl=>aD 332 [(.agg l)] g λn m=>d m/\R n m) (R U g)) (R U g))):aD 273 [(.agg a)] w R:=co Tryz.f273 [] h
def ac4.ok(a:(X5 G))(b:H)(R:(X5 G)->H->ad) w(h:Nw 172 a w λd c=>Nw 172 ⟨Zh 256 (au 0)⟩ c λf e=>cn (⟨Z ⟨d,0,V⟩,256,256⟩:Sl) 0 256 256 1 λg=>bE 333 [(aj g),(au b)] e λi h=>aQ 256 d 0 h λj=>ah [(.arr 256),(aG .u8),kB] 334 [(.agg j),(ni i)] h λl(m:H)(n:X4) k=>aH 256 (av f 0) l k λo=>aQ 256 f 0 o λp=>aH 256 (av f 0) p o λq=>aQ 256 f 0 q λr=>R r i q):ah [(.arr 256),kI] 274 [(.agg a),(au b)] w R:=co Tryz.f274 [] h
def ab3.ok(R:(X5 G)->ad) w(h:Nw 172 ⟨Zh 256 (au 0)⟩ w λb a=>dG 0 a λc d(e:H) f=>aw (e<256) (aX (av b 0) 256 e 1 λg=>St g (au (u8 e)) f λh=>c (i64 (e+1)) h/\d (i64 (e+1)) h<d e f) (aQ 256 b 0 f λi=>aH 256 (av b 0) i f λj=>aQ 256 b 0 j λk=>R k j)):ah [(.arr 256)] 276 [] w R:=co Tryz.f276 [(5,[(2,kI)])] h
def RQ.ok(a:(X5 G))(R:X4->ad) w(h:Nw 172 a w λc b=>Nw 337 ⟨Zh 256 (ni 0)⟩ b λe d=>aQ 256 c 0 d λf=>dG 0 d λg h(i:H) j=>aw (i<256) (gu (.int .u8) f 256 i λ(k:H)=>aX (av e 0) 256 k 1 λl=>St l (ni 1) j λm=>g (i64 (i+1)) m/\h (i64 (i+1)) m<h i j) (dw j λn o=>aO (.arr 256) (av e 0) n λp=>ah [(.arr 256)] 371 [] o λr q=>n q/\CM .i64 256 p r λs=>R s q)):aD 332 [(.agg a)] w R:=co Tryz.f332 [(7,[(7,kI)])] h
def UA.ok(a:(X5 G))(b:H)(R:(X5 G)->H->X4->ad) w(h:Nw 172 a w λd c=>Nw 172 ⟨Zh 256 (au 0)⟩ c λf e=>aw (b<0) (aQ 256 d 0 e λg=>aH 256 (av f 0) g e λh=>aQ 256 f 0 h λi=>R i 0 U h) (aw (b>=256) (aQ 256 d 0 e λj=>aH 256 (av f 0) j e λk=>aQ 256 f 0 k λl=>R l 0 U k) (aM e λm=>aQ 256 d 0 m λn=>aX (av d 0) 256 b 1 λo=>fw o m λp=>aH 256 (av f 0) n m λq=>aM q λr=>cn (⟨Z ⟨f,0,V⟩,256,256⟩:Sl) 1 (i64 (b+1)) 256 1 λs=>cn (⟨Z ⟨d,0,V⟩,256,256⟩:Sl) 0 b 256 1 λt=>aC Pg (Wq.copy_ #[24,24] 3 ⟨[(aj s),(aj t)]⟩) kI r λ(v:H) u=>aX (av f 0) 256 0 1 λx=>St x (au p) u λy=>aQ 256 f 0 y λz=>aH 256 (av f 0) z y λA=>aQ 256 f 0 A λB=>R B p J A))):ah [(.arr 256),(aG .u8),kB] 334 [(.agg a),(ni b)] w R:=co Tryz.f334 [] h
def aa9.ok(R:(X5 G)->ad) w(h:Nw 337 ⟨Zh 256 (ni 0)⟩ w λb a=>dG 0 a λc d(e:H) f=>aw (e<256) (aX (av b 0) 256 e 1 λg=>St g (ni 1) f λh=>c (i64 (e+1)) h/\d (i64 (e+1)) h<d e f) (aQ 256 b 0 f λi=>aH 256 (av b 0) i f λj=>aQ 256 b 0 j λk=>R k j)):ah [(.arr 256)] 371 [] w R:=co Tryz.f371 [(5,[(2,kI)])] h
def En.ok(a:H)(R:Sl->H->ad) w(h:aI 25 [(.slice V 0 0)] w λc b=>aw (a<0) (cQ c 0 (.slice V 0 0) b λd=>eD c 0 d λe=>R e 2 d) (aw (a>2147483647) (cQ c 0 (.slice V 0 0) b λf=>eD c 0 f λg=>R g 2 f) (ah [kV] 335 [(ni a)] b λi h=>jb Pg i [kI] h (λ(j:I)(k:I->Obj)(o:H)(l:X0)(m n:ad)=>rz j k l λp=>eD c 0 p λq=>aI 3 [(ni o)] p λs r=>aC Pg (ZE #[25,25] 25 ⟨[(aj q),(cL s 1)]⟩) kS r λ(u:Sl) t=>cQ c 0 (aj u) t λv=>mC j k v m) (λx y=>eD c 0 y λz=>cQ c 0 (aj z) y λC=>jy (x::[]:Q I) C λA=>eD c 0 A λD=>R D 0 A) λE F=>jy (E::[]:Q I) F λB=>eD c 0 B λG=>R G 0 B))):ah [kS,kI] 275 [(ni a)] w R:=yH Tryz.f275 (.s .o (.s (.s .o (.c (.s .o .o) .o)) (.s (.s .o (.b (.r [kI] .o (.b .o)))) (.s .o .o)))) h
def Is.ok(a:H)(R:G->ad) w(h:aI 3 [(ni a)] w λc b=>R (.func (.func 373) ⟨[]⟩ ⟨[(bU c)]⟩) b):ah [kV] 335 [(ni a)] w R:=co Tryz.f335 [] h
def LV.ok(a:H)(b:H)(c:H)(R:H->H->ad) w(h:a8 (λ(e:X0)=>0<=b/\aw ((i64 (a+(bH .i64 (i64 ((1:H)+c)) b)))>2147483647) (R 0 2 e) (R (i64 (a+(bH .i64 (i64 ((1:H)+c)) b))) 0 e)) λd=>aw (a<0) (R 0 2 w) (aw (a>2147483647) (R 0 2 w) (aw (b<0) (R 0 2 w) (aw (b>30) (R 0 2 w) (aa (c !=0) (aa (c !=1) (R 0 2 w) (d w)) (d w)))))):ah [kI,kI] 352 [(ni a),(ni b),(ni c)] w R:=co Tryz.f352 [(2,[])] h
def Ey.ok(a:G)(b:Wg)(R:ad) w(h:∃(c:ad)(d:X0->I),c w/\∀(e:X0),c e->bh b e λf=>aw (f>0) (bh b e λg=>nR Pg a [kB] [(ni (cG .i64 (i64 (g-1)) 1))] e λ(i:X4) h=>aa (! i) (R h) (bh b h λj=>0<=(1:H)/\St b (ni (aZ .i64 (i64 (j-1)) (1:H))) h λk=>([]:Q I)=([]:Q I)/\c k/\d k<d e)) (R e)):cH 373 [a,(ar (Z b))] w R:=yH Tryz.f373 (.b (.l [] (.s (.s .o (.c .o .o)) (.s (.b (.s .o (.c .o .o))) .o)))) h
end
end Go.Proofs.Q9
namespace Go.Sym
section
open Go.Inc
def dX(L:Q I)(p:I):Q I:=L.getD p 0::L.eraseIdx p
def C5{L:Q I}{p:I}(a:p<L.length):(dX L p).Perm L:=by unfold dX;have e:L.getD p 0=L[p]:=by{simp[Yl,a]};rw[e];rw[Q.eraseIdx_eq_take_drop_succ];have b:L.take p++L[p]::L.drop (p+1)=L:=by{rw[Q.getElem_cons_drop,Zv]};exact List.perm_middle.symm.trans (Q.Perm.of_eq b)
def Tc{L:Q I}{p:I}(a:p<L.length):(dX L p).length=L.length:=(C5 a).length_eq
def cI(L:Q I):Prop:=L.Perm (Zt 256)
def cI.len{L:Q I}(h:cI L):L.length=256:=by rw[h.length_eq,YP]
def cI.mem{L:Q I}(h:cI L){c:I}:c∈L↔c<256:=by rw[h.mem_iff,YS]
def cI.nodup{L:Q I}(h:cI L):L.Nodup:=h.nodup_iff.2 Q.nodup_range
def cI.take{L:Q I}(h:cI L){p:I}(a:p<256):cI (dX L p):=(C5 (by rw[h.len];exact a)).trans h
def cI.range:cI (Zt 256):=Wu.Perm.refl _
def cI.get{L:Q I}(h:cI L){p:I}(a:p<256):L.getD p 0<256:=by have b:=h.len;have:L.getD p 0=L[p]:=by{simp[Yl,b,a]};rw[this];exact h.mem.1 (Zs _)
def cI.idx{L:Q I}(h:cI L){c:I}(b:c<256):L.idxOf c<256/\L.getD (L.idxOf c) 0=c:=by have d:=h.mem.2 b;have e:=h.len;have a:=Q.idxOf_lt_length_of_mem d;refine⟨Za,?_⟩;rw[Yl,Zg a,Q.getElem_idxOf a];rfl
def cI.Dp{L:Q I}(h:cI L){p:I}(a:p<256):L.idxOf (L.getD p 0)=p:=by have b:=h.len;have e:L.getD p 0=L[p]:=by{simp[Yl,b,a]};have d:=h.idx (h.get a);have c:L[L.idxOf (L.getD p 0)]' Za=L[p]:=Ze;exact(Q.getElem_inj h.nodup).1 c
def ed(n:I):Q I:=if _h:n=0 then[]else(n-1)%2::ed ((n-1)/2)
termination_by n
decreasing_by omega
def qY:ed 0=[]:=by rw[ed];simp
def qx{n:I}(h:0<n):ed n=(n-1)%2::ed ((n-1)/2):=by rw[ed,dif_neg Za]
def M4(n:I):∀d∈ed n,d<2:=by induction n using ZW with|ind n b=>(rcases Yd n with e|e);{rw[e,qY];simp};rw[qx e];intro d a;(rcases List.mem_cons.1 a with h|h);{omega};grind
def fy:List Nat->Nat->List Nat->List Nat×List Nat×Nat
 |L,r,[]=>([],L,r)
 |L,r,c::b=>
  if L.idxOf c=0 then fy (dX L 0) (r+1) b
  else
   let x:=fy (dX L (L.idxOf c)) 0 b
   (ed r++(L.idxOf c+1)::x.1,x.2)
def eB(L:Q I)(r:I)(b:Q I):Q I:=(fy L r b).1++ed (fy L r b).2.2++[257]
def syms(b:Q I):Q I:=eB (Zt 256) 0 b
def oc(L:Q I)(r:I):eB L r []=ed r++[257]:=by simp[eB,fy]
def mc{L:Q I}{r c:I}{b:Q I}(h:L.idxOf c=0):eB L r (c::b)=eB (dX L 0) (r+1) b:=by unfold eB;rw[fy,X3 h]
def nK{L:Q I}{r c:I}{b:Q I}(h:L.idxOf c≠0):eB L r (c::b)=ed r++(L.idxOf c+1)::eB (dX L (L.idxOf c)) 0 b:=by unfold eB;rw[fy,K h];simp
structure DS where
 L:Q I
 left:I
 run:I
 digits:I
def dj(d:DS)(s:I):X7 (DS×Q I×X4):=if s<2 then if d.run+(1+s)*2^d.digits<=d.left then Z (⟨d.L,d.left,d.run+(1+s)*2^d.digits,d.digits+1⟩,[],U)else V else if s=257 then if d.run=d.left then Z (⟨d.L,0,0,0⟩,Zh d.run (d.L.getD 0 0),J)else V else if d.run=d.left then V else Z (⟨dX d.L (s-1),d.left-(d.run+1),0,0⟩,Zh d.run (d.L.getD 0 0)++[d.L.getD (s-1) 0],U)
def mh(d:DS×Q I)(s:I):ui (DS×Q I) (Q I) I:=match dj d.1 s with|none=>.bad 160|some (_,t,true)=>.fin (d.2++t)|some (a,t,false)=>.more (a,d.2++t)
def BA{d a:DS}{acc t:Q I}{s:I}(h:dj d s=Z (a,t,U)):mh (d,acc) s=.more (a,acc++t):=by unfold mh;rw[h]
def M5{d a:DS}{acc t:Q I}{s:I}(h:dj d s=Z (a,t,J)):mh (d,acc) s=.fin (acc++t):=by unfold mh;rw[h]
def adN{d:DS}{acc:Q I}{s:I}(h:dj d s=V):mh (d,acc) s=.bad 160:=by unfold mh;rw[h]
def JO(L:Q I)(left:I)(acc a:Q I):∀(n q k:I),q+n*2^k<=left->∃b,run mh (⟨L,left,q,k⟩,acc) (ed n++a)=run mh (⟨L,left,q+n*2^k,b⟩,acc) a:=by intro n;induction n using ZW with|ind n c=>intro q k d;(rcases Yd n with e|e);{subst e;exact⟨k,by rw[qY];simp⟩};rw[qx e];have g:(1+(n-1)%2)*2^k+(n-1)/2*2^(k+1)=n*2^k:=by{rw[Yx,Yb (2^k) 2,<-Xs,<-Y8];congr 1;omega};obtain⟨b,h⟩:=c ((n-1)/2) Za (q+(1+(n-1)%2)*2^k) (k+1) Za;refine⟨b,?_⟩;have f:dj ⟨L,left,q,k⟩ ((n-1)%2)=Z (⟨L,left,q+(1+(n-1)%2)*2^k,k+1⟩,[],U):=by{unfold dj;simp only;rw[X3 Za,X3 Za]};rw[ZR,dv (BA f),ZF,h];congr 3;omega
def wO{L:Q I}(a:cI L){c:I}(b:c<256)(h:L.idxOf c=0):L.getD 0 0=c/\dX L 0=L:=by have:=(a.idx b).2;rw[h]at this;refine⟨this,?_⟩;unfold dX;cases L with|nil=>have:=a.len;simp at this|cons x L=>rfl
def yp:∀(b L:Q I)(r left:I)(acc a:Q I),cI L->(bP b)->left=r+b.length->run mh (⟨L,left,0,0⟩,acc) (eB L r b++a)=.fin (acc++Zh r (L.getD 0 0)++b) a|[],L,r,left,acc,a,hL,_,hl=>by{rw[oc,Zm];obtain⟨e,h⟩:=JO L left acc ([257]++a) r 0 0 (by simp at hl;omega);rw[h];have f:dj ⟨L,left,0+r*2^0,e⟩ 257=Z (⟨L,0,0,0⟩,Zh r (L.getD 0 0),J):=by{unfold dj;simp only[Zk,I.pow_zero,Zw];rw[K Zb,X3 trivial,X3 (by simp at hl;omega)]};show run mh _ (257::a)=_;rw[mK (M5 f)];simp}|c::b,L,r,left,acc,a,hL,hb,hl=>by have g:=hb c ZM;have d:bP b:=λx i=>hb x (Zz _ i);simp only[Zo]at hl;by_cases h0:L.idxOf c=0;{obtain⟨j,k⟩:=wO hL g h0;rw[mc h0,k,yp b L (r+1) left acc a hL d Za,j,Q.replicate_succ'];simp};obtain⟨l,m⟩:=hL.idx g;rw[nK h0,Zm];obtain⟨e,h⟩:=JO L left acc ((L.idxOf c+1)::eB (dX L (L.idxOf c)) 0 b++a) r 0 0 Za;rw[h];have f:dj ⟨L,left,0+r*2^0,e⟩ (L.idxOf c+1)=Z (⟨dX L (L.idxOf c),left-(r+1),0,0⟩,Zh r (L.getD 0 0)++[c],U):=by{unfold dj;simp only[Zk,I.pow_zero,Zw,I.add_sub_cancel,m];rw[K Za,K Za,K Za]};rw[ZR,dv (BA f)];rw[yp b (dX L (L.idxOf c)) 0 (left-(r+1)) _ a (hL.take l) d Za];simp
def Sx{b:Q I}(c:bP b)(a:Q I):run mh (⟨Zt 256,b.length,0,0⟩,[]) (syms b++a)=.fin b a:=by unfold syms;rw[yp b _ 0 b.length [] a cI.range c Za];simp
def tm:∀(b L:Q I)(r:I),cI L->(bP b)->∀s∈eB L r b,s<=257|[],L,r,_,_=>λs a=>by rw[oc]at a;(rcases List.mem_append.1 a with h|h);{have:=M4 _ s h;omega};rw[ZC]at h;omega|c::b,L,r,hL,hb=>λs a=>by have e:=hb c ZM;have d:bP b:=λx f=>hb x (Zz _ f);obtain⟨g,_⟩:=hL.idx e;by_cases h0:L.idxOf c=0;{rw[mc h0]at a;exact tm b _ (r+1) (hL.take Zb) d s a};rw[nK h0]at a;(rcases List.mem_append.1 a with h|h);{have:=M4 _ s h;omega};(rcases List.mem_cons.1 h with h|h);{omega};exact tm b _ 0 (hL.take g) d s h
def zS{b:Q I}(a:bP b):∀s∈syms b,s<=257:=tm b _ 0 cI.range a
end
end Go.Sym
namespace Go.Vc
section
def LW{n:I}{f:I->H}:(fZ n f).toList.all aL=J:=by unfold fZ;rw[Q.all_map];exact List.all_eq_true.2 λ_ _=>rfl
def FF{n:I}:fZ n (λ_=>0)=⟨Zh n (ni 0)⟩:=by unfold fZ;rw[Q.map_const',YP]
def CM.row{n:I}{f g:I->H}{K:X4->Prop}(a:K (((Zt n).map f)==((Zt n).map g))):CM .i64 n (fZ n f) (fZ n g) K:=⟨(Zt n).map f,(Zt n).map g,by simp[fZ],by simp[fZ],Zd,Zd,a⟩
end
end Go.Vc
namespace Go.Proofs.Q9
section
open Go Go.Vc Go.Inc Go.Sym
abbrev cZ(l:Q I):Q G:=l.map λ(n:I)=>Yv .u8 (n:H)
def kn{L:Q I}(h:L.length=256):(cZ L).length=256:=by simp[h]
def fT{l:Q I}:(cZ l).all aL=J:=by unfold cZ;rw[Q.all_map];exact List.all_eq_true.2 λ_ _=>rfl
section
variable{E w:X0}{F:Q HP}
def adb:Tryz.prog.underlying 24=Z (.slice 5):=Zc
def afI:(Tryz.prog.info? 5).map (·.size)=Z 1:=Zc
def SA{K:X5 G->ad}(h:Hp E w F)(g:∀w',Hp E w' F->K ⟨cZ (Zt 256)⟩ w'):ah [.arr 256] 276 [] w K:=by refine ab3.ok _ _ ?_;(skip);refine Nw.mk h λj w h=>?_;have b:∀k,k<=256->(cZ (Zt k++Zh (256-k) 0)).length=256:=λk f=>by{simp;omega};refine⟨λi w'=>∃k:I,i=(k:H)/\k<=256/\Hp E w' (aq j (.cells ⟨cZ (Zt k++Zh (256-k) 0)⟩ 172 (0,0))::F),λi _=>256-i.toNat,⟨0,O,Za,by have:(⟨cZ (Zt 0++Zh (256-0) 0)⟩:X5 G)=⟨Zh 256 (au 0)⟩:=by{simp};rw[this];exact h⟩,?_⟩;rintro i w ⟨k,rfl,f,h⟩;(first|refine aa.dm (λa=>?_) (λa=>?_)|refine aa.em (λa=>?_) (λa=>?_)|refine aa.nm (λa=>?_) (λa=>?_)|refine aa.mk (λa=>?_) λa=>?_);{refine⟨Za,Za,?_⟩;rw[show((k:H)).toNat*1=k by omega];(try simp only[ao,Zk]);have f:=b k Za;refine St.xb h (by simp;omega) O λw h=>?_;rw[af Za];refine⟨⟨k+1,O,Za,?_⟩,Za⟩;have e:(⟨cZ (Zt k++Zh (256-k) 0)⟩:X5 G).setIfInBounds k (au (u8 (k:H)))=⟨cZ (Zt (k+1)++Zh (256-(k+1)) 0)⟩:=by{rw[jh Za];apply XG;rw[Yt];have:(cZ (Zt k++Zh (256-k) 0)).set k (au (k:H))=cZ ((Zt k++Zh (256-k) 0).set k k):=by{rw[cZ,cZ,XB]};rw[this,Wu.set_append_right _ _ Zd,YP,XD];obtain⟨m,l⟩:∃m,256-k=m+1:=⟨255-k,Za⟩;rw[l,Wu.replicate_succ,Wu.set_cons_zero,Y3,show 256-(k+1)=m by omega];simp};rw[e]at h;exact h};have d:k=256:=Za;subst d;have e:(⟨cZ (Zt 256++Zh (256-256) 0)⟩:X5 G)=⟨cZ (Zt 256)⟩:=Zd;rw[e]at h;have c:(⟨cZ (Zt 256)⟩:X5 G).size=256:=Zd;refine Ld.xw h c (aH.q h c c fT λw h=>?_);exact Ld.xw h c (g _ h.tl)
def afF{K:X5 G->ad}(h:Hp E w F)(c:bu E F (K (fZ 256 λ_=>1))):ah [.arr 256] 371 [] w K:=by refine aa9.ok _ _ ?_;(skip);refine Nw.mk h λd w h=>?_;refine⟨λi w'=>∃k:I,i=(k:H)/\k<=256/\Hp E w' (aq d (.cells (fZ 256 λj=>if j<k then 1 else 0) 337 (0,0))::F),λi _=>256-i.toNat,⟨0,O,Za,by rw[jT (g:=λ_=>0) λi _=>Zd,FF];exact h⟩,?_⟩;rintro i w ⟨k,rfl,hk,h⟩;(first|refine aa.dm (λa=>?_) (λa=>?_)|refine aa.em (λa=>?_) (λa=>?_)|refine aa.nm (λa=>?_) (λa=>?_)|refine aa.mk (λa=>?_) λa=>?_);{refine⟨Za,Za,?_⟩;rw[show((k:H)).toNat*1=k by omega];(try simp only[ao,Zk]);refine St.xb h (by rw[ga];omega) O λw h=>?_;rw[af Za];refine⟨⟨k+1,O,Za,?_⟩,Za⟩;rw[wU]at h;rw[jT (g:=λj=>if j<k+1 then 1 else 0) λi _=>by by_cases h1:i=k;{subst h1;simp};{by_cases h2:i<k;{simp[h1,h2];omega};{simp[h1,h2];omega}}]at h;exact h};have b:k=256:=Za;subst b;rw[jT (g:=λ_=>1) λi e=>by simp[e]]at h;refine Ld.xw h ga (aH.q h ga ga LW λw h=>?_);exact Ld.xw h ga (c _ h.tl)
def Fs{L:Q I}{K:X4->ad}(h:Hp E w F)(d:cI L)(o:bu E F (K J)):aD 332 [.agg ⟨cZ L⟩] w K:=by have p:=d.len;have e:bP L:=λx l=>by{simpa using d.mem_iff.1 l};refine RQ.ok _ _ _ ?_;(skip);have q:(⟨cZ L⟩:X5 G).size=256:=by{simp[p]};refine Nw.mk h λr w h=>Nw.mk h λm w h=>Ld.xw h q ?_;refine⟨λi w'=>∃k:I,i=(k:H)/\k<=256/\Hp E w' (aq m (.cells (fZ 256 λj=>if j∈L.take k then 1 else 0) 337 (0,0))::aq r (.cells ⟨cZ L⟩ 172 (0,0))::F),λi _=>256-i.toNat,⟨0,O,Za,by rw[jT (g:=λ_=>0) λi _=>Zd,FF];exact h⟩,?_⟩;rintro i w ⟨k,rfl,hk,h⟩;(first|refine aa.dm (λb=>?_) (λb=>?_)|refine aa.em (λb=>?_) (λb=>?_)|refine aa.nm (λb=>?_) (λb=>?_)|refine aa.mk (λb=>?_) λb=>?_);{have c:k<L.length:=by{omega};refine gu.rd (s:=.int .u8) Za Za (L[k]:H) ?_ ?_;{simp[c]};have l:=e _ (Zs c);refine⟨Za,Za,?_⟩;rw[show((L[k]:H)).toNat*1=L[k] by omega];(try simp only[ao,Zk]);refine St.xb h (by rw[ga];omega) O λw h=>?_;rw[af Za];refine⟨⟨k+1,O,Za,?_⟩,Za⟩;rw[wU]at h;rw[jT (g:=λj=>if j∈L.take (k+1)then 1 else 0) λi _=>by have a:i∈L.take (k+1)↔i∈L.take k\/i=L[k]:=by{rw[Zx,Zg c,XA];exact or_congr Iff.rfl ZC};by_cases h1:i=L[k];{rw[X3 h1,X3 (a.2 (.inr h1))]};{rw[Wa h1];by_cases h2:i∈L.take k;{rw[X3 h2,X3 (a.2 (.inl h2))]};{rw[Wa h2,Wa λt=>(a.1 t).elim h2 h1]}}]at h;exact h};have f:k=256:=Za;subst f;rw[jT (g:=λ_=>1) λi u=>by rw[Zr Za,X3];exact d.mem_iff.2 (by simpa using u)]at h;have h:=h.drew (n:=w.drawn+1);refine⟨cj m _ _ _,h.hb,?_⟩;refine aO.xw (λ_ h=>h) ga (afF h λw h=>⟨h.hb,?_⟩);refine CM.row ?_;rw[beq_self_eq_true];exact o _ h.tl
def Uv{L:Q I}{p:I}(b:L.length=256)(d:p<256):((cZ L).take 1++((cZ (L.take p)).take p++(cZ L).drop (1+WE (cZ (L.take p)).length p))).set 0 (au (L.getD p 0:H))=cZ (dX L p):=by have c:(cZ (L.take p)).length=p:=by{simp;omega};rw[c,I.min_self,Zr (l:=cZ (L.take p)) Za,I.add_comm 1 p];unfold dX;rw[Q.eraseIdx_eq_take_drop_succ];cases L with|nil=>simp at b|cons a L=>simp[cZ,Q.map_take,XH]
theorem Ow{L:Q I}{p:I}{K:X5 G->H->X4->ad}(h:Hp E w F)(c:L.length=256)(g:p<256)(j:∀w',Hp E w' F->K ⟨cZ (dX L p)⟩ (L.getD p 0:H) J w'):ah [.arr 256,aG .u8,kB] 334 [.agg ⟨cZ L⟩,ni (p:H)] w K:=by refine UA.ok _ _ _ _ ?_;(skip);have d:(⟨cZ L⟩:X5 G).size=256:=by{simp[c]};have k:(⟨Zh 256 (au 0)⟩:X5 G).size=256:=Zd;have l:p<L.length:=Za;refine Nw.mk h λf w h=>Nw.mk h λn w h=>?_;(with_reducible repeat first|refine aM.mk h λw h=>?_|refine aa.no ?_);refine Ld.xw h d (⟨Za,Za,?_⟩);rw[show((p:H)).toNat*1=p by omega];(try simp only[ao,Zk]);refine Ld.xb (x:=(L.getD p 0:H)) h ?_ ?_;{grind};refine aH.q h k d fT λw h=>aM.mk h λw h=>?_;rw[af Za];refine⟨Za,Za,Za,Zd,?_⟩;rw[Wa Zd,show(1:H).toNat*1=1 by decide,show((p:H)+1).toNat-(1:H).toNat=p by omega,show(256:H).toNat-(1:H).toNat=255 by decide];refine⟨Za,Za,Za,Zd,?_⟩;rw[Wa Zb,show(0:H).toNat*1=0 by decide,show((p:H)).toNat-(0:H).toNat=p by omega,show(256:H).toNat-(0:H).toNat=256 by decide];simp only[Yq,ao,Zk];have a:aN 1 ⟨Z ⟨f,0,V⟩,p,256⟩ (cZ (L.take p)) w:=by{refine⟨by simp;omega,λi m=>⟨⟨f,0,V⟩,O,?_⟩⟩;rw[ao,h.fc];simp at m⊢;simp[show i<L.length by omega]};refine o8 (ys:=cZ (L.take p)) adb afI h a (List.all_eq_true.1 fT) Ze λw h=>?_;refine⟨Za,Za,?_⟩;rw[show((0:H)).toNat*1=0 by decide];(try simp only[ao,Zq]);refine St.xb h (by simp;omega) O λw h=>?_;have e:(⟨(⟨cZ L⟩:X5 G).toList.take 1++((cZ (L.take p)).take p++(⟨cZ L⟩:X5 G).toList.drop (1+WE (cZ (L.take p)).length p))⟩:X5 G).setIfInBounds 0 (au (L.getD p 0:H))=⟨cZ (dX L p)⟩:=by{apply XG;rw[Yt];exact Uv c g};rw[e]at h;have b:(⟨cZ (dX L p)⟩:X5 G).size=256:=Ze;refine Ld.xw h b (aH.q h b b fT λw h=>?_);exact Ld.xw h b (j _ h.tl)
theorem aeY{n a d:I}{K:H->H->ad}(h:n<=65536)(c:a<=16)(i:d<=1)(j:K ((n+(1+d)*2^a:I):H) 0 w):ah [kI,kI] 352 [ni (n:H),ni (a:H),ni (d:H)] w K:=by have e:2^a<=65536:=ZT (n:=2) Zb c;have f:=Ym a;have l:(1+d)*2^a<=131072:=by{have:=Xx (show 1+d<=2 by omega) e;omega};refine LV.ok _ _ _ _ _ ?_;have b:0<=(a:H)/\aa (We (i64 ((n:H)+bH .i64 (i64 (1+(d:H))) (a:H))>2147483647)) (K 0 2 w) (K (i64 ((n:H)+bH .i64 (i64 (1+(d:H))) (a:H))) 0 w):=by{refine⟨Za,?_⟩;have g:YR .i64=9223372036854775807:=O;rw[af (x:=1+(d:H)) Za,show 1+(d:H)=((1+d:I):H) by omega,dO (k:=.i64) (by have:Wl.bits .i64=64:=O;omega) Ze,af Za];exact aa.df Za Ze};(try simp only[bN]);refine aa.df Za (aa.df Za (aa.df Za (aa.df Za ?_)));by_cases h0:d=0;{exact aa.nf Za b};exact aa.nt Za (aa.nf Za b)
end
end
end Go.Proofs.Q9
namespace Go.Vc
section
open Go
def nT(b:I)(w:X0):I:=match w.cell? ⟨b,0,V⟩with|some (.int _ v)=>v.toNat|_=>0
def oI{E w:X0}{l:Q HP}{b:I}{c:X5 G}{t:Wb}{d:I×I}{a:Obj->Q HP}[cA b l c t d a]{k:Wl}{v:H}(h:Hp E w l)(e:c[0]?=Z (.int k v)):nT b w=v.toNat:=by unfold nT;rw[h.fc,e]
end
end Go.Vc
namespace Go.Proofs.Q9
section
open Go Go.Vc
section
variable{E w:X0}{F:Q HP}
abbrev bI(b:I)(n:I):HP:=bm b [ni (n:H)] 3
abbrev yT(s:Sl):G:=aj s
abbrev jU(b:I)(xs:Q I):HP:=Ac (λ(_:Sl)=>True) λs=>[bm b [yT s] 25,an 1 s ((ints xs).map vI)]
def jU.shut{b:I}{s:Sl}{xs:Q I}(h:Hp E w (bm b [yT s] 25::an 1 s ((ints xs).map vI)::F)):Hp E w (jU b xs::F):=Hp.xd s trivial h
def jU.put{b d:I}{s:Sl}{xs:Q I}{x:I}{i:Wb}{l:Q HP}{K:ad}(h:Hp E w (l++bm d [ni (x:H)] i::bm b [yT s] 25::an 1 s ((ints xs).map vI)::F))(m:xs.length<=1000000)(j:bu E (jU b (xs++[x])::F) K):aC Zj (ZE #[25,25] 25 ⟨[yT s,cL d 1]⟩) kS w λe a=>St (⟨b,0,V⟩:Wg) (yT e) a λc=>K c:=by have h:=h.rY;have f:=(h.at 2).aU;simp only[ints,Zl,Zw]at f;refine bj (ys:=[vI (x:H)]) (n:=1) mP Zb (.inl ⟨3,Zc⟩) (h.at 2) (.inl ⟨Z ⟨d,0,V⟩,1,1,O,O,h.ak (ae.aF O O)⟩) O (by intro y g;rw[ZC]at g;rw[g];rfl) Za Za λk w' h _=>?_;refine St.xs h O O λw h=>j w ?_;have h:=(h.no 1).p1;refine jU.shut (s:=k) ?_;rw[show(ints (xs++[x])).map vI=(ints xs).map vI++[vI (x:H)] by simp[ints]];exact h
theorem L3{s:Sl}{b:Q I}(c:aN 1 s (b.map vB) w):(Extern.Bytes.bytesOf (.slice s.base s.len s.cap)).run Zj w=.ok (strOf b) w:=by have e:=c.1;simp only[Zl,Zw]at e;cases hb:s.base with|none=>have:b=[]:=by{cases b with|nil=>rfl|cons x b=>obtain⟨p,f,_⟩:=c.2 0 Zd;rw[hb]at f;cases f};subst this;rfl|some p=>have:=Lib.run_loadBytesX (P:=Zj) w (b.map λ(x:I)=>(x:H)) p .empty (λj x a=>by rw[ZZ]at a;cases hj:b[j]? with|none=>(rw[hj]at a;cases a)|some y=>rw[hj]at a;obtain rfl:=XE a;obtain⟨h,d⟩:=List.getElem?_eq_some_iff.1 hj;obtain⟨q,g,i⟩:=c.2 j Ze;rw[hb]at g;obtain rfl:=XE g;rw[i];simp[vB,d]);rw[Zl,e]at this;show(Extern.Bytes.loadBytes p s.len .empty).run Zj w=_;rw[this];congr 1;unfold strOf strOfNums Lib.bytesOf;simp[Wc.empty,Wc.emptyWithCapacity];try rfl
end
end
section
open Go Go.Vc Go.Inc Go.Sym
section
variable{E w:X0}{F:Q HP}
theorem ag7 {L:List Nat} {s:Sl} {c:Nat} {K:Int->ad} (hL:cI L) (hc:c<256) (hs:aN 1 s (L.map vB) w) (hK:K (L.idxOf c:Int) w):
  Ext Tryz.prog 372 ⟨[aj s,au (c:Int)]⟩ [kI] w K:=by
 have hi:=hL.idx hc
 have hll:=hL.len
 have hsz:(strOf L).size=256:=by
  have:=congrArg List.length (cp L)
  rw [List.length_map,hll] at this
  simpa using this
 have hget: ∀i,i<256->(strOf L)[i]! =UInt8.ofNat (L.getD i 0):=fun i h=>by
  have h1:=cp L
  have h2:(strOf L).data.toList[i]? =some (UInt8.ofNat (L.getD i 0)):=by grind
  have h3:i<(strOf L).size:=by omega
  rw [getElem!_pos (strOf L) i h3]
  rw [Array.getElem?_toList] at h2
  have h4:i<(strOf L).data.size:=h3
  rw [Array.getElem?_eq_getElem h4] at h2
  exact Option.some.inj h2
 have hf:(List.range (strOf L).size).find? (fun i=>(strOf L)[i]! ==UInt8.ofNat c)=some (L.idxOf c):=by
  rw [hsz,List.find?_range_eq_some]
  refine ⟨?_,List.mem_range.2 hi.1,fun j hj=> ?_⟩
  ·grind
  ·rw [hget j (by omega)]
   have hjl:=hL.get (p:=j) (by omega)
   have hne:L.getD j 0≠c:=fun e=>by
    have:=hL.Dp (p:=j) (by omega)
    rw [e] at this;omega
   simp only [Bool.not_eq_true',beq_eq_false_iff_ne,ne_eq]
   intro e
   have:=congrArg UInt8.toNat e
   simp only [UInt8.toNat_ofNat'] at this
   omega
 have hr:(Extern.BytealgIndexByte.indexByte #[aj s,au (c:Int)]).run Tryz.prog w= .ok (ni (L.idxOf c:Int)) w:=by
  show Sem.run _ (do
   let x<-Extern.Bytes.bytesOf (aj s)
   let y<-Extern.Bytes.asByte (au (c:Int))
   match (List.range x.size).find? fun i=>x[i]! ==y with
   |some i=>pure (goInt i)
   |none=>pure (goInt (-1))) w=_
  have hb:(Extern.Bytes.asByte (au (c:Int))).run Tryz.prog w= .ok (UInt8.ofNat c) w:=rfl
  simp only [Sem.run_bind,L3 hs,hb,Result.andThen_ok]
  rw [hf]
  rfl
 have hx:(callFunc 372 #[aj s,au (c:Int)]).run Tryz.prog w= .ok (.value (ni (L.idxOf c:Int))) w:=by
  rw [run_callFunc_extern Tryz.func372 (by kernel_rfl) (by kernel_rfl) (by kernel_rfl) (e:=Extern.BytealgIndexByte.indexByte) (by kernel_rfl),hr];rfl
 unfold Ext
 rw [show (⟨[aj s,au (c:Int)]⟩:Array Value)= #[aj s,au (c:Int)] from rfl,hx]
 exact hK
def agp{L:Q I}{c:I}{K:X5 G->H->ad}(h:Hp E w F)(b:cI L)(e:c<256)(g:∀w',Hp E w' F->K ⟨cZ (dX L (L.idxOf c))⟩ (L.idxOf c:H) w'):ah [.arr 256,kI] 274 [.agg ⟨cZ L⟩,au (c:H)] w K:=by refine ac4.ok _ _ _ _ ?_;have d:=b.len;have f:=b.idx e;have i:(⟨cZ L⟩:X5 G).size=256:=by{simp[d]};have j:(⟨Zh 256 (au 0)⟩:X5 G).size=256:=Zd;have a:(⟨cZ (dX L (L.idxOf c))⟩:X5 G).size=256:=by{simp[(b.take f.1).len]};refine Nw.mk h λk w h=>Nw.mk h λl w h=>cn.whole Zb O O ?_;refine C6.ok _ _ _ _ (ag7 b e (s:=(kh k 256)) (h.ak (ae.cons (ae.aF (n:=256) (m:=256) (sz:=1) O (by simp[d])))) ?_);refine Ld.xw h i (Ow h d f.1 λw h=>?_);refine aH.q h j a fT λw h=>Ld.xw h a (aH.q h a a fT λw h=>Ld.xw h a (g w h.tl))
theorem P7{n b:I}(q:n<=2147483647):uX Zj E (.func (.func 373) ⟨[]⟩ ⟨[bU b]⟩) (ed n).length (λi=>[Ki.enc kI (((ed n).getD i 0:I):H)]) [bI b n] (λ_=>True):=by intro r C G w K L s h u j;refine sf.mk Zc (Ey.ok r ⟨b,0,V⟩ K w ?_);refine⟨λw=>∃k m:I,m<=2147483647/\(ed n).drop k=ed m/\k<=(ed n).length/\Hp E w (bI b m::C k),λw=>nT b w,⟨0,n,q,O,Z4 _,h⟩,?_⟩;rintro w ⟨k,m,M,d,N,h⟩;refine Ld.xb h O (aa.dm (λa=>?_) λx=>?_);{have c:0<m:=by{omega};rw[qx c]at d;have a:k<(ed n).length:=by{grind};have y:(ed n).getD k 0=(m-1)%2:=by{rw[Zu a]at d;injection d with e _;rw[Zn,Zg a,YK,e]};have l:(ed n).drop (k+1)=ed ((m-1)/2):=by{rw[<-Yr,d];rfl};refine Ld.xb h O ?_;have z:YR .i64=9223372036854775807:=O;have o:i64 ((m:H)-1)=((m-1:I):H):=by{rw[af Za];omega};have A:cG .i64 ((m-1:I):H) 1=(((m-1)%2:I):H):=by{rw[show(1:H)=((1:I):H)from O,fK Za Za,I.and_one_is_mod]};have B:aZ .i64 ((m-1:I):H) 1=(((m-1)/2:I):H):=by{rw[show(1:H)=((1:I):H)from O,cJ Zb]};rw[o,A];have D:[Yv .i64 (((m-1)%2:I):H)]=[Ki.enc kI (((ed n).getD k 0:I):H)]:=by{rw[y]};rw[D];refine s k a [bI b m] w _ (h.perm (Z1 (l₁:=[bI b m]))) (λw h=>?_) λw h=>?_;{have h:Hp E w (bI b m::C (k+1)):=h.perm (Z1 (l₂:=[bI b m]));refine aa.f O (Ld.xb h O ⟨Zb,?_⟩);rw[o,B];refine St.xb h Zd O λp g=>?_;have g:Hp E p (bI b ((m-1)/2)::C (k+1)):=g;refine⟨O,⟨k+1,(m-1)/2,Za,l,Za,g⟩,?_⟩;show nT b p<nT b _;rw[oI (v:=(((m-1)/2:I):H)) g O,oI (v:=(m:H)) (by assumption) O];omega};exact aa.t O (j k w a (h.perm (Z1 (l₂:=[bI b m]))).drop)};have c:m=0:=Za;subst c;rw[qY]at d;have:k=(ed n).length:=by{have:=Wm Z3 d;rw[ZB,ZG]at this;omega};subst this;exact u w h.drop
theorem TG{n:I}{K:Sl->H->ad}(h:Hp E w F)(g:n<=2147483647)(q:(ed n).length<=1000000)(j:∀s w',Hp E w' (an 1 s ((ints (ed n)).map vI)::F)->K s 0 w'):ah [kS,kI] 275 [ni (n:H)] w K:=by refine En.ok _ _ _ ?_;refine Nw.mk h λa w h=>aa.df Za (aa.df Za ?_);refine Is.ok _ _ _ ?_;refine Nw.mk h λb w h=>?_;have m:Hp E w (jU a []::bI b n::F):=jU.shut (s:=⟨V,0,0⟩) ((h.aV 1).at 2);refine jb.TU (E:=E) (k:=kI) (x:=λi=>(((ed n).getD i 0:I):H)) (n:=(ed n).length) (λi=>jU a ((ed n).take i)::F) (λ_=>[DW]) (A:=[bI b n]) m.p1 (λ_=>ae.const trivial) (P7 g) ?_ ?_ ?_;{intro o c i A w r t d h f _;refine rz.mk h λw h=>?_;obtain⟨s,_,h⟩:=(h.p1).ex;have h:Hp E w (bm a [yT s] 25::an 1 s ((ints ((ed n).take i)).map vI)::aq o (c 1)::(F++A)):=h;refine Ld.xb (x:=s) h O (Nw.mk h λp w h=>?_);refine jU.put (l:=[]) h Ze λw h=>mC.mk h.p1 λw h=>f w ?_;have e:(ed n).take i++[(ed n).getD i 0]=(ed n).take (i+1):=by{rw[Zx,Zg d,Zn,Zg d];rfl};rw[e]at h;exact h};{intro D w h;rw[Zr (ZA _)]at h;obtain⟨s,_,h⟩:=(h.p1).ex;have h:Hp E w (bm a [yT s] 25::an 1 s ((ints (ed n)).map vI)::aq D (.deferred (Z []))::F):=h;refine Ld.xb (x:=s) h O (St.xs h O O λw h=>?_);dsimp only[cm,over]at h;refine jy.xr (h.at 2) λw h=>Ld.xb (x:=s) h O (j s w h.drop)};intro i D w d h;exact(Hp.Jf h).elim
end
end
end Go.Proofs.Q9
namespace Go.Vc
section
open Go
section
variable{E w:X0}{F:Q HP}
def Gk{P:X6}{t e:Wb}{n:I}{k:Wl}{g:TypeInfo}(j:P.underlying t=Z (.array n e))(c:P.underlying e=Z (.int k))(h:P.info? e=Z g)(l:g.size=1){a b:Q H}(f:a.length=n)(i:b.length=n)(D:I)(m:2<=D)(w:X0):(Ys D t (.agg ⟨a.map (.int k)⟩) (.agg ⟨b.map (.int k)⟩)).run P w=.ok (a==b) w:=by obtain⟨D,rfl⟩:∃d,D=d+1+1:=⟨D-2,Za⟩;rw[run_equalIn_array w (D+1) _ _ j h,rA h,l,<-f,mB c (f.trans i.symm) _ Zd,all_eq (f.trans i.symm)]
def qk{P:X6}{t:Wb}{it:TypeInfo}{b:Q G}{a:I}{K:X7 G->Prop}(c:kj P t=Z J)(d:P.info? t=Z it)(h:K (Z (.agg ⟨(b.drop a).take it.size⟩))):iN P t b a K:=by unfold iN;rw[c,d];exact h
def gJ{P:X6}{t:Wb}{it:TypeInfo}{b:Q G}{a:I}{v:G}{K:X7 G->Prop}(c:kj P t=Z U)(d:P.info? t=Z it)(e:b[a]?=Z v)(h:K (Z v)):iN P t b a K:=by unfold iN;rw[c,d,e];exact h
end
end
end Go.Vc
namespace Go.Proofs.Q9
section
open Go Go.Vc
def M3:∃a,Tryz.prog.info? 3=Z a:=by have:(Tryz.prog.info? 3).isSome=J:=Zc;exact Option.isSome_iff_exists.1 this
def adr:∃a,Tryz.prog.info? 166=Z a/\a.size=258:=by have h:(Tryz.prog.info? 166).map (·.size)=Z 258:=Zc;obtain⟨a,b,c⟩:=Option.map_eq_some_iff.1 h;exact⟨a,b,c⟩
def TL:∃a,Tryz.prog.info? 5=Z a/\a.size=1:=by have h:(Tryz.prog.info? 5).map (·.size)=Z 1:=Zc;obtain⟨a,b,c⟩:=Option.map_eq_some_iff.1 h;exact⟨a,b,c⟩
def afm:Tryz.prog.underlying 166=Z (.array 258 5):=Zc
def abG:Tryz.prog.underlying 5=Z (.int .u8):=Zc
def TB:Tryz.prog.underlying 3=Z (.int .i64):=Zc
end
end Go.Proofs.Q9
namespace Go.Vc
section
open Go
def Ii{P:X6}{E w:X0}{F:Q HP}{t e:Wb}{C:X5 G}{b n c:I}{K:Sl->ad}(j:P.underlying t=Z (.slice e))(k:P.underlying e=Z (.int .u8))(h:Hp E w (aq b (.cells C e (0,0))::F))(l:∀w',Hp E w' (aq b (.cells C e (C.size,C.size+1))::F)->K ⟨Z ⟨b,0,V⟩,n,c⟩ w'):aC P (WD t t (.slice (Z ⟨b,0,V⟩) n c)) kS w K:=by have a:=h.aF;have d:b<w.heap.size:=Ze;have f:w.shape? b=Z (e,C.size):=by{unfold X0.shape?;rw[a]};have g:(WD t t (.slice (Z ⟨b,0,V⟩) n c)).run P w=.ok (.slice (Z ⟨b,0,V⟩) n c) (w.freeze ⟨b,C.size,V⟩ 1):=by{simp[WD,Wh j,Wh k,markStringish,f]};unfold aC;rw[g];refine l _ (h.setObj ?_ O O O);unfold X0.freeze;rw[Wa Zb];have m:w.heap[b]=.cells C e (0,0):=by{rw[X5.getElem?_eq_getElem d]at a;exact XE a};apply X5.ext_getElem?;intro i;rw[X5.set!_eq_setIfInBounds];by_cases hi:b=i;{grind};grind
section
variable{E w:X0}{F:Q HP}{sz:I}{s:Sl}{xs ys:Q G}
def Hp.nA{A:HP}{l F:Q HP}[a:px l F](h:Hp E w (A::l)):Hp E w (A::F):=by obtain⟨p,e⟩:=a.sub;subst e;exact(h.perm List.perm_middle.symm).rY
def Hp.ag1{A B:HP}{l F:Q HP}[a:px l F](h:Hp E w (A::B::l)):Hp E w (A::B::F):=by obtain⟨p,e⟩:=a.sub;subst e;exact(h.perm ((XK A List.perm_middle.symm).trans List.perm_middle.symm)).rY
theorem xn{P:X6}{t p T e:Wb}{a n:I}{x:G}{K:Sl->ad}(W:cN P t e sz a)(hx:(∃X,P.underlying p=Z (.slice X))\/P.underlying p=Z .string)(r:Hp E w F)(k:ae F (aN sz s xs))(Y:s.cap<s.len+n)(hs:ae F (Src sz n x ys))(l:ys.length=n*sz)(hb:(2*(s.len+n)+1024)*a<=2^48)(hb2:s.len+n<2^62)(h:∀u w',Hp E w' (an sz u (xs++ys)::F)->u.len=s.len+n->K u w'):aC P (ZE #[t,p] T ⟨[aj s,x]⟩) kS w K:=by obtain⟨q,z,v,y,A,B,C⟩:=W.info;obtain⟨hs1,D⟩:=(r.ak hs).run (P:=P);have b:xs.length=s.len*sz:=(r.ak k).1;have L:(sizeOf e).run P w=.ok sz w:=by{rw[dN v,y]};have d:(xs++ys).length=(s.len+n)*sz:=by{rw[Zf,b,l,Y8]};have f:¬XU (s.len+n) s.cap*q.bytes>2^48:=by{have:=DP (n:=s.len+n) (c:=s.cap) Za;have h2:XU (s.len+n) s.cap*q.bytes<=(2*(s.len+n)+1024)*a:=by{rw[A];exact ZL _ this};omega};have g:¬s.len+n<=s.cap:=Za;generalize hq:Question.cut (.appendCap (s.len+n) s.cap e) (w.tape w.drawn (.appendCap (s.len+n) s.cap e))=newCap;have M:s.len+n<=newCap:=by{rw[<-hq];exact I.le_add_right _ _};have N:Hp E w.drew F:=r.drew (n:=w.drawn+1);have i:(Wq.firstCells sz s.len (aj s)).run P w.drew=.ok xs.toArray w.drew:=by{have:Src sz s.len (aj s) xs w.drew:=.inl ⟨s.base,s.len,s.cap,O,O,N.ak k⟩;exact(this.run (P:=P)).1};have m:(Wq.firstCells sz n x).run P w.drew=.ok ys.toArray w.drew:=((N.ak hs).run (P:=P)).1;have hA:=N.alloc (.cells (xs.toArray++ys.toArray++XL z.cells (newCap-(s.len+n))) e);have Q:∀w:X0,(Wv e).run P w=.ok z w:=by{intro w;simp[Wv,typeInfo,v,B]};have R:∀w:X0,(typeInfo e).run P w=.ok q w:=by{intro w;simp[typeInfo,v]};have j:¬(9223372036854775807<(s.len:H)+(n:H)/\q.bytes=0):=Za;have S:Question.forced (.appendCap (s.len+n) s.cap e)=U:=O;have o:(ZE #[t,p] T ⟨[aj s,x]⟩).run P w=.ok (.slice (Z ⟨w.heap.size,0,V⟩) (s.len+n) newCap) (w.drew.alloc (.cells (xs.toArray++ys.toArray++XL z.cells (newCap-(s.len+n))) e)):=by{(rcases hx with⟨X,hd⟩|hd<;>simp[ZE,Wh W.und,L,Wh hd,D,g,j,R,f,S,hq,i,m,Q,newRow]);all_goals rw[<-X5.append_assoc,show xs.toArray++ys.toArray=(xs++ys).toArray by simp]};unfold aC;rw[o];refine h ⟨Z ⟨w.heap.size,0,V⟩,s.len+n,newCap⟩ _ (Hp.lJ hA d O M ?_ ?_) O;{simp only[X5.size_append,Wu.size_toArray,ou,C,b,l];have:newCap*sz=(s.len+n)*sz+(newCap-(s.len+n))*sz:=by{rw[<-Y8];congr 1;omega};rw[this,Y8];omega};grind
end
end
end Go.Vc
namespace Go.Proofs.Q9
section
open Go Go.Vc
section
variable{E w:X0}{F:Q HP}
set_option maxRecDepth 200000 in
def wG{C:X5 G}{b n c:I}{K:Sl->ad}(h:Hp E w (aq b (.cells C 5 (0,0))::F))(a:∀w',Hp E w' (aq b (.cells C 5 (C.size,C.size+1))::F)->K ⟨Z ⟨b,0,V⟩,n,c⟩ w'):aC Zj (WD 24 24 (.slice (Z ⟨b,0,V⟩) n c)) kS w K:=Ii Zc Zc h a
end
end
end Go.Proofs.Q9
namespace Go.Sym
section
def Ci(n:I):(ed n).length<=n:=by induction n using ZW with|ind n a=>(rcases Yd n with h|h);{rw[h,qY];exact ZA _};rw[qx h,Zo];have:=a ((n-1)/2) Za;omega
end
end Go.Sym
namespace Go.Proofs.Q9
section
open Go Go.Vc Go.Inc Go.Sym
abbrev oe(L:Q I)(r:H):X5 G:=⟨cZ L++[ni r]⟩
def rJ{L:Q I}{r:H}(h:L.length=256):(oe L r).size=257:=by simp[h]
def wC{L:Q I}{r:H}:(oe L r).toList.all aL=J:=by unfold oe;rw[XY,fT];rfl
section
variable{E w:X0}{F:Q HP}
def aaO:(Tryz.prog.fieldsOf 290).toList.map (λf=>(f.name== "_",f.type,f.offset))=[(U,172,0),(U,3,256)]:=Zc
def agE:Tryz.prog.underlying 290=Z (.struct (Tryz.prog.fieldsOf 290)):=Zc
def abZ:∃a,Tryz.prog.info? 172=Z a/\a.size=256:=by have h:(Tryz.prog.info? 172).map (·.size)=Z 256:=Zc;obtain⟨a,b,c⟩:=Option.map_eq_some_iff.1 h;exact⟨a,b,c⟩
def aff:Tryz.prog.underlying 172=Z (.array 256 5):=Zc
theorem zd.es{L m:Q I}{r l:H}{K:X4->Prop}(g:L.length=256)(n:m.length=256)(B:∀b,K b):zd Zj 290 (oe L r) (oe m l) K:=by obtain⟨it,i⟩:=M3;obtain⟨z,j,o⟩:=abZ;obtain⟨M,p,q⟩:=TL;obtain⟨e,f,s,a,c⟩:∃e f,(Tryz.prog.fieldsOf 290).toList=[e,f]/\(e.name== "_",e.type,e.offset)=(U,172,0)/\(f.name== "_",f.type,f.offset)=(U,3,256):=by{have h:=aaO;generalize(Tryz.prog.fieldsOf 290).toList=fs at h;match fs,h with|[],h=>simp at h|[_],h=>simp at h|_::_::_::_,h=>simp at h|[e,f],h=>simp only[ZV,YY,Q.cons.injEq,and_true]at h;exact⟨e,f,rfl,h.1,h.2⟩};simp only[YL]at a c;have A:∀{L:Q I}{r:H},L.length=256->(((oe L r).toList.drop 0).take 256)=(L.map λ(x:I)=>(x:H)).map (.int .u8):=λ{L r} g=>by{unfold oe;rw[YM,Q.take_append_of_le_length (by simp[g]),Zr (by simp[g]),YC];rfl};have N:∀{L:Q I}{r:H},L.length=256->(oe L r)[256]?=Z (ni r):=λ{L r} g=>Ze;obtain⟨b,C,u⟩:=nM (P:=Zj) (d:=9) (rec:=λt x y K=>∃b,(∀D,9<=D->∀w,(Ys D t x y).run Zj w=.ok b w)/\K b) (λt x y K h=>h) (xs:=oe L r) (ys:=oe m l) (fs:=[e,f]) (K:=K) (by unfold mD;rw[a.1];refine qk (it:=z) (by rw[a.2.1];kernel_rfl) (by rw[a.2.1];exact j) (qk (it:=z) (by rw[a.2.1];kernel_rfl) (by rw[a.2.1];exact j) ?_);rw[a.2.2,o,a.2.1,A g,A n];refine⟨_,λD G w=>Gk aff abG p q Ze Ze D Za w,?_⟩;unfold mD;rw[c.1];refine gJ (it:=it) (v:=ni r) (by rw[c.2.1];kernel_rfl) (by rw[c.2.1];exact i) Ze (gJ (it:=it) (v:=ni l) (by rw[c.2.1];kernel_rfl) (by rw[c.2.1];exact i) Ze ?_);rw[c.2.1];exact⟨r==l,λD G w=>by obtain⟨D,rfl⟩:∃k,D=k+1:=⟨D-1,Za⟩;exact run_equalIn_int w D _ _ _ _ _ TB,B _⟩);refine⟨b,λw=>?_,u⟩;rw[run_equalIn_struct w 9999 _ _ _ agE Zc,s];exact C 9999 Zb w
abbrev esP:I->X7 (I×I):=(#[(0,256),(256,1)][·]?)
def aap(a:Q (I×G)):Tryz.prog.built 290 a=YU esP ⟨Zh 256 (au 0)++[ni 0]⟩ a:=Zc
def eu.es{L:Q I}{K:X5 G->Prop}(a:L.length=256)(b:K (oe L 0)):eu Zj 290 [(0,.agg ⟨cZ L⟩)] K:=by refine⟨_,?_,b⟩;rw[aap];have:=lg (place:=esP) (i:=0) (v:=.agg ⟨cZ L⟩) (rest:=[]) (pre:=[]) (bx:=Zh 256 (au 0)) (post:=[ni 0]) O O ZP (by show(⟨cZ L⟩:X5 G).size=_;simp[a]);exact this
abbrev esZ:X5 G:=⟨Zh 256 (Yv .u8 0)++[Yv .i64 0]⟩
def aaD:(⟨Zh 256 (au 0)++[ni 0]⟩:X5 G).size=257:=Zd
def Nt{K:X5 G->ad}(h:Hp E w F)(b:bu E F (K (oe (Zt 256) 0))):ah [.arr 257] 200 [] w K:=by refine Pl.ok _ _ (Nw.mk h λc w h=>SA h λw h=>eu.es Zd ?_);have a:(oe (Zt 256) 0).size=257:=rJ Zd;refine aH.q h aaD a wC λw h=>Ld.xw h a (b _ h.tl)
def Gh{L:Q I}{r:I}{K:X4->ad}(h:Hp E w F)(c:cI L)(f:r<=2147483647)(d:bu E F (K J)):aD 273 [.agg (oe L (r:H))] w K:=by refine K1.ok _ _ _ ?_;have a:=kn c.len;refine Nw.mk h λe w h=>?_;have h:=h.drew (n:=w.drawn+1);refine⟨cj e _ _ _,h.hb,?_⟩;refine aO.qw (λ_ h=>h) a O (Nt h λw h=>⟨h.hb,?_⟩);refine zd.es c.len Zd λb=>?_;refine aa.mk (λ_=>d _ h.tl) λ_=>?_;(try simp only[ao,Zk,Zq]);refine aO.q (λ_ h=>h) a O O (aa.dt Za ?_);refine aO.q (λ_ h=>h) a O O (aa.dt Za ?_);refine aO.p (λ_ h=>h) a (Fs h c λw h=>⟨h.hb,d _ h.tl⟩)
theorem abf{L:Q I}{r:I}{s:Sl}{b:Q I}{K:X5 G->Sl->H->ad}(h:Hp E w F)(t:cI L)(B:ae F (aN 1 s (b.map vB)))(T:bP b)(hr:r+b.length<=1000000)(u:∀C w',Hp E w' (an 1 C ((ints (fy L r b).1).map vI)::F)->cI (fy L r b).2.1->(fy L r b).2.2<=1000000->K (oe (fy L r b).2.1 ((fy L r b).2.2:H)) C 0 w'):ah [.arr 257,kS,kI] 199 [.agg (oe L (r:H)),aj s] w K:=by refine Mg.ok _ _ _ _ ?_;have l:=kn t.len;have D:b.length=s.len:=by{have:=(h.ak B).1;simpa using this};(try simp only[bN,ao,Zk,Zq]);refine Nw.mk h λM w h=>Nw.mk h λW w h=>Ld.qw h l O (Gh h t Za λw h=>?_);(with_reducible refine aa.JC ?_);refine Ld.q h l O O ?_;rw[af Za];refine aa.df Za ?_;refine⟨λo i w=>∃(k:I)(e:Q I)(d:I)(a:Q I),i=(k:H)/\k<=b.length/\cI e/\a.length+d<=r+k/\fy L r b=(a++(fy e d (b.drop k)).1,(fy e d (b.drop k)).2)/\Hp E w (an 1 o ((ints a).map vI)::aq W (.cells esZ 290 (0,0))::aq M (.cells (oe e (d:H)) 290 (0,0))::F),λ_ i _=>b.length-i.toNat,⟨0,L,r,[],O,Za,t,Zd,Zd,h.aV 1⟩,?_⟩;rintro o i w ⟨k,e,d,a,rfl,hk,hL',hlo,he,h⟩;have f:=kn hL'.len;refine aa.dm (λj=>?_) λX=>?_;{have j:k<b.length:=by{omega};have N:=T _ (Zs j);have P:=hL'.idx N;refine ay.rd ((h.tl:Hp E w F).ak B) Za Za λq _ Y=>?_;refine Ld.sc (s:=.int .u8) (b[k]:H) (by rw[Y];simp[Sc.enc,vB]) ?_;refine Ld.p h f (agp h hL' N λw h=>?_);have hm:(⟨cZ (dX e (e.idxOf b[k]))⟩:X5 G).size=256:=by{simp[(hL'.take P.1).len]};have g:=hL'.take P.1;have c:=kn g.len;refine aH.xm (pre:=[]) (bx:=cZ e) (post:=[ni (d:H)]) h O O f hm (λv hv=>List.all_eq_true.1 fT v hv) λw h=>?_;rw[Zu j]at he;rw[af (x:=(k:H)+1) Za];by_cases h0:e.idxOf b[k]=0;{rw[fy,X3 h0]at he;rw[h0]at h g c⊢;refine aa.et O (Ld.q h c O O ?_);rw[af Za];refine St.q h c O O O λw h=>?_;rw[show(d:H)+1=((d+1:I):H) by omega]at h;exact⟨⟨k+1,_,d+1,a,Za,Za,g,Za,he,h⟩,by first|omega|(dsimp only;omega)⟩};rw[fy,Wa h0]at he;refine aa.ef Za (Ld.q h c O O ?_);have hdl:=Ci d;refine TG h Za Za λm w h=>?_;have R:=h.aU;have l2:=(h.at 1).aU;simp only[ints,Zl,Zw]at R l2;refine bj (s:=o) (ys:=(ints (ed d)).map vI) (n:=m.len) mP Zb (.inl ⟨3,Zc⟩) (h.at 1) (.inl ⟨m.base,m.len,m.cap,O,O,h.ak ae.own⟩) (by simp[ints,R]) Fp Za Za λs2 w h hl2=>?_;have h:=h.no 1;refine Nw.mk h λz w h=>?_;rw[af Za]at h;refine bj (s:=s2) (ys:=[vI ((e.idxOf b[k]:H)+1)]) (n:=1) mP Zb (.inl ⟨3,Zc⟩) (h.at 1) (.inl ⟨Z ⟨z,0,V⟩,1,1,O,O,h.ak (ae.aF O O)⟩) O (by intro y S;rw[ZC]at S;rw[S];rfl) Za Za λs3 w h _=>?_;have h:=h.no 1;refine St.q (b:=M) h c O O O λw h=>⟨⟨k+1,_,0,a++(ed d++[e.idxOf b[k]+1]),Za,Za,g,?_,?_,?_⟩,by first|omega|(dsimp only;omega)⟩;{grind};{rw[he];simp};rw[show(ints (a++(ed d++[e.idxOf b[k]+1]))).map vI=(ints a).map vI++(ints (ed d)).map vI++[vI ((e.idxOf b[k]:H)+1)] by simp[ints]];exact h};have A:k=b.length:=Za;subst A;rw[ZU (ZA _),fy,ZF]at he;rw[he]at u;dsimp only at u;refine Ld.qw h f O (aH.q h aaD (rJ hL'.len) wC λw h=>Ld.xw h (rJ hL'.len) (u o w h.nA hL' Za))
def adS{L:Q I}{r:I}{K:Sl->H->ad}(h:Hp E w F)(c:cI L)(l:r<=1000000)(f:∀d w',Hp E w' (an 1 d ((ints (ed r++[257])).map vI)::F)->K d 0 w'):ah [kS,kI] 201 [.agg (oe L (r:H))] w K:=by refine PQ.ok _ _ _ ?_;have a:=kn c.len;(try simp only[ao,Zk]);refine Nw.mk h λm w h=>Ld.qw h a O (Gh h c Za λw h=>?_);(with_reducible refine aa.JC ?_);have g:=Ci r;refine Ld.q h a O O (TG h Za Za λi w h=>Nw.mk h λb w h=>?_);have j:=(h.at 1).aU;simp only[ints,Zl,Zw]at j;refine bj (s:=i) (ys:=[vI 257]) (n:=1) mP Zb (.inl ⟨3,Zc⟩) (h.at 1) (.inl ⟨Z ⟨b,0,V⟩,1,1,O,O,h.ak (ae.aF O O)⟩) O (by intro y e;rw[ZC]at e;rw[e];rfl) Za Za λk w h _=>f k w ?_;rw[show(ints (ed r++[257])).map vI=(ints (ed r)).map vI++[vI 257] by simp[ints]];exact h.nA
theorem ab7{s:Sl}{b:Q I}{K:Sl->ad}(h:Hp E w F)(i:ae F (aN 1 s (b.map vB)))(j:bP b)(u:b.length<=1000000)(k:∀f w',Hp E w' (an 1 f ((ints (syms b)).map vI)::F)->K f w'):bS 133 [aj s] w K:=by refine P9.ok _ _ _ (Nt h λw h=>abf (r:=0) h cI.range i j Ze λl w h a e=>Nw.mk h λv w h=>?_);refine aH.q h aaD (rJ a.len) wC λw h=>Ld.xw h (rJ a.len) (adS h a e λd w h=>?_);have g:=h.aU;have m:=(h.at 2).aU;have x:(fy (Zt 256) 0 b).1.length+(fy (Zt 256) 0 b).2.2<=b.length:=by{have:∀(b L:Q I)(r:I),(fy L r b).1.length+(fy L r b).2.2<=r+b.length:=by{intro b;induction b with|nil=>intro L r;simp[fy]|cons c b o=>intro L r;rw[fy];split;{grind};have:=o (dX L (L.idxOf c)) 0;have:=Ci r;simp only[Zf,Zo];omega};simpa using this b (Zt 256) 0};have p:=Ci (fy (Zt 256) 0 b).2.2;simp only[ints,Zl,Zw,Zf,ZJ]at g m;refine bj (s:=l) (ys:=(ints (ed (fy (Zt 256) 0 b).2.2++[257])).map vI) (n:=d.len) mP Zb (.inl ⟨3,Zc⟩) (h.at 2) (.inl ⟨d.base,d.len,d.cap,O,O,h.ak ae.own⟩) (by simp[ints,<-g]) Fp Za Za λt w h _=>k t w ?_;rw[show(ints (syms b)).map vI=(ints (fy (Zt 256) 0 b).1).map vI++(ints (ed (fy (Zt 256) 0 b).2.2++[257])).map vI by unfold syms eB;simp[ints]];exact h.nA
end
end
section
open Go Go.Vc
set_option maxRecDepth 100000
def Hf.ok(a:(X7 Wg))(b:(X5 G))(c:Sl)(R:H->ad) w(h:Nw 166 b w λe d=>aQ 258 e 0 d λf=>ah [kI,kI] 209 [(.agg f),(aj c)] d λ(h:H)(i:H) g=>a8 (λ(k:X0)=>aQ 258 e 0 k λl=>ah [(.arr 258),kI] 210 [(.agg l)] k λn(o:H) m=>Nw 256 ⟨Zh 258 (.int .u32 0)⟩ m λq p=>aH 258 (av q 0) n p λr=>dG 0 r λs t(u:H) v=>aw (u<(c.len:H)) (ay c u 1 λx=>bh x v λy=>aM v λz=>aX (av q 0) 258 y 1 λB=>Ld (aG .u32) B z λ(C:H)=>aX (av e 0) 258 y 1 λD=>fw D z λE=>aD 208 [(ar a),(.int .u32 C),(ni (i64 E))] z λF A=>s (i64 (u+1)) A/\t (i64 (u+1)) A<t u v) (R 0 v)) λj=>aa (ZK a) (R 2 g) (aa (i !=0) (R 2 g) (j g))):bE 139 [(ar a),(.agg b),(aj c)] w R:=co Tryz.f139 [(4,[]),(14,[(32,kI)])] h
def EN.ok(a:(X5 G))(b:Sl)(R:H->H->ad) w(h:Nw 166 a w λd c=>aQ 258 d 0 c λe=>aD 287 [(.agg e)] c λg f=>aa (! g) (R 0 2 f) (dK 0 0 f λh i(j:H)(k:H) l=>aw (k<(b.len:H)) (ay b k 1 λm=>bh m l λn=>aw (n<0) (R 0 2 l) (aw (n>=258) (R 0 2 l) (aX (av d 0) 258 n 1 λo=>fw o l λp=>aa (p==0) (R 0 2 l) (aX (av d 0) 258 n 1 λq=>fw q l λr=>h (i64 (j+(i64 r))) (i64 (k+1)) l/\i (i64 (j+(i64 r))) (i64 (k+1)) l<i j k l)))) (R j 0 l))):ah [kI,kI] 209 [(.agg a),(aj b)] w R:=co Tryz.f209 [(10,[(4,kI),(13,kI)])] h
def GY.ok(R:(X7 Wg)->ad) w(h:aI 305 [(.slice V 0 0),(ni 0)] w λb a=>R (Z ⟨b,0,V⟩) a):ah [kP] 137 [] w R:=co Tryz.f137 [] h
def tq.ok(a:(X7 Wg))(R:Sl->ad) w(h:aa (ZK a) (R (⟨V,0,0⟩:Sl) w) (ag a λb=>fa (b.add 0) w λc=>bS 43 [(aj c)] w λe d=>R e d)):bS 140 [(ar a)] w R:=co Tryz.f140 [] h
def Ic.ok(a:Sl)(R:Sl->ad) w(h:dK (⟨V,0,0⟩:Sl) 0 w λb c(d:Sl)(e:H) f=>aw (e<(i64 ((8:H)*(a.len:H)))) (ah [(aG .u8)] 246 [(aj a),(ni e)] f λ(h:H) g=>aI 3 [(ni (i64 h))] g λj i=>aC Pg (ZE #[25,25] 25 ⟨[(aj d),(cL j 1)]⟩) kS i λ(l:Sl) k=>b l (i64 (e+1)) k/\c l (i64 (e+1)) k<c d e f) (R d f)):bS 173 [(aj a)] w R:=co Tryz.f173 [(5,[(2,kS),(7,kI)])] h
def vQ.ok(a:(X7 Wg))(b:H)(c:H)(R:X4->ad) w(h:aI 236 [(ar a)] w λe d=>Ld kP (av e 0) d λf=>aa (ZK f) (R U d) (aD 284 [(.int .u32 b),(ni c)] d λh g=>aa (! h) (R U g) (ah [kV] 285 [(.int .u32 b),(ni c)] g λj i=>jb Pg j [(aG .u8)] i (λ(k:I)(l:I->Obj)(p:H)(m:X0)(n o:ad)=>rz k l m λq=>Ld kP (av e 0) q λr=>cH 286 [(ar r),(au p)] q λs=>mC k l s n) (λt u=>jy (t::[]:Q I) u λv=>R J v) λx y=>jy (x::[]:Q I) y λz=>R U z))):aD 208 [(ar a),(.int .u32 b),(ni c)] w R:=yH Tryz.f208 (.s .o (.s (.s .o (.c (.s .o .o) .o)) (.s (.s .o (.b (.r [(aG .u8)] .o (.b .o)))) (.s .o .o)))) h
def GX.ok(a:Sl)(b:H)(R:H->ad) w(h:0<=(3:H)/\ay a (aZ .i64 b (3:H)) 1 λc=>fw c w λd=>0<=(i64 ((7:H)-(cG .i64 b 7)))/\R (cG .u8 (aZ .u8 d (i64 ((7:H)-(cG .i64 b 7)))) 1) w):ah [(aG .u8)] 246 [(aj a),(ni b)] w R:=co Tryz.f246 [] h
def DN.ok(a:H)(b:H)(R:X4->ad) w(h:aw (b>=0) (aw (b<=32) (0<=b/\R ((aZ .u64 (u64 a) b)==0) w) (R U w)) (R U w)):aD 284 [(.int .u32 a),(ni b)] w R:=co Tryz.f284 [] h
def ES.ok(a:H)(b:H)(R:G->ad) w(h:aI 105 [(.int .u32 a)] w λd c=>aI 3 [(ni b)] c λf e=>R (.func (.func 339) ⟨[]⟩ ⟨[(bU f),(bU d)]⟩) e):ah [kV] 285 [(.int .u32 a),(ni b)] w R:=co Tryz.f285 [] h
def wA.ok(a:(X7 Wg))(b:H)(R:ad) w(h:ag a λc=>bh (c.add 1) w λd=>aa ((cG .i64 d 7)==0) (ag a λe=>fa (e.add 0) w λf=>aI 5 [(au 0)] w λh g=>aC Pg (ZE #[24,24] 24 ⟨[(aj f),(cL h 1)]⟩) kS g λ(j:Sl) i=>ag a λk=>St (k.add 0) (aj j) i λl=>aM l λm=>ag a λn=>fa (n.add 0) m λo=>ag a λp=>bh (p.add 1) m λq=>0<=(3:H)/\ay o (aZ .i64 q (3:H)) 1 λr=>fw r m λs=>ag a λt=>bh (t.add 1) m λu=>0<=(i64 ((7:H)-(cG .i64 u 7)))/\ay o (aZ .i64 q (3:H)) 1 λv=>St v (au (js .u8 s (bH .u8 b (i64 ((7:H)-(cG .i64 u 7)))))) m λx=>ag a λy=>bh (y.add 1) x λz=>ag a λF=>St (F.add 1) (ni (i64 (z+1))) x λG=>R G) (aM w λA=>ag a λI=>fa (I.add 0) A λB=>ag a λK=>bh (K.add 1) A λC=>0<=(3:H)/\ay B (aZ .i64 C (3:H)) 1 λL=>fw L A λM=>ag a λN=>bh (N.add 1) A λD=>0<=(i64 ((7:H)-(cG .i64 D 7)))/\ay B (aZ .i64 C (3:H)) 1 λP=>St P (au (js .u8 M (bH .u8 b (i64 ((7:H)-(cG .i64 D 7)))))) A λE=>ag a λQ=>bh (Q.add 1) E λS=>ag a λT=>St (T.add 1) (ni (i64 (S+1))) E λW=>R W)):cH 286 [(ar a),(au b)] w R:=co Tryz.f286 [] h
def Bx.ok(a:G)(b:Wg)(c:Wg)(R:ad) w(h:bh b w λd=>∃(e:H->ad)(f:H->X0->I),e ((i64 (d-1))) w/\∀(g:H),∀(h:X0),e g h->aw (g>=0) (Ld (aG .u32) c h λ(i:H)=>0<=g/\nR Pg a [kB] [(au (cG .u8 (u8 (aZ .u32 i g)) 1))] h λ(k:X4) j=>aa (! k) (R j) (([]:Q I)=([]:Q I)/\e (i64 (g-1)) j/\f (i64 (g-1)) j<f g h)) (R h)):cH 339 [a,(ar (Z b)),(ar (Z c))] w R:=yH Tryz.f339 (.s .o (.b (.l [(4,kI)] (.s (.s .o (.c .o .o)) (.s (.b (.s .o (.c .o .o))) .o))))) h
end
end Go.Proofs.Q9
namespace Go.Srt
section
def sh(l:Q I)(s:I):I:=2^(15-l.getD s 0)
def start(l a:Q I)(i:I):I:=((a.take i).map (sh l)).sum
def wS{l a:Q I}{i:I}(h:i<a.length):start l a (i+1)=start l a i+sh l a[i]:=by unfold start;rw[Zx,ZD,YN,Zg h];simp only[X7.toList,ZV,YY,XP,Q.sum_nil,Zq]
def Jp(l:Q I)(s:I):0<sh l s:=Ym _
def Qe{l ys:Q I}{i j:I}(h:i<=j):start l ys i<=start l ys j:=by unfold start;have:=Zv i (ys.take j);rw[Q.take_take,Y0 h]at this;have a:=Wm (λb=>(b.map (sh l)).sum) this;simp only[ZD,YN]at a;omega
def gY{l:Q I}{s:I}:s∈used l↔s<l.length/\0<l.getD s 0:=by unfold used;rw[Q.mem_filter,YS];simp
def GB(l:Q I):cc l=((used l).map λs=>wt (l.getD s 0)).sum:=by have a:∀k,k<=l.length->cc (l.take k)=(((Zt k).filter λs=>decide (0<l.getD s 0)).map λs=>wt (l.getD s 0)).sum:=by{intro k;induction k with|zero=>intro _;simp[cc]|succ k b=>intro c;rw[zg Za,b Za,Y3,Y9,ZD,YN];have d:l.getD k 0=l[k]:=by{rw[Zn,Zg Za];rfl};by_cases h:0<l.getD k 0;{grind};rw[Q.filter_cons_of_neg Ze];have:l[k]=0:=by{omega};rw[this];rfl};have:=a l.length (ZA _);rw[Z0]at this;exact this
def kz{l:Q I}(b:cc l<=32768)(s:I):l.getD s 0<=15:=by rw[Zn];cases h:l[s]? with|none=>simp|some x=>have:=afL (YO h);unfold wt at this;simp only[YK];(rcases Yc 15 x with a|a);{grind};exact a
def QN{l a:Q I}(b:cc l<=32768)(h:dI l a):start l a a.length=cc l:=by unfold start;rw[Z0,GB,(h.1.map (sh l)).sum_nat];congr 1;refine ZX λs c=>?_;have d:=(gY.1 c).2;have e:=kz b s;unfold sh wt;rw[K Za,K Za]
def aaz{l ys:Q I}(a:cc l<=32768)(h:dI l ys){i:I}(b:i<=ys.length):start l ys i<=32768:=by have:=Qe (l:=l) (ys:=ys) b;rw[QN a h]at this;omega
def M6{l a:Q I}(h:dI l a){i j:I}(b:j<a.length)(c:i<=j):l.getD (a[i]' Za) 0<=l.getD a[j] 0:=by by_cases e:i=j;{grind};have:=(List.pairwise_iff_getElem.1 h.2) i j Za b Za;omega
def GC{l a:Q I}(h:dI l a){i:I}(b:i<a.length):∀k,k<=i->sh l a[i]∣start l a k|0,_=>by simp[start]|k+1,c=>by rw[wS Za];refine I.dvd_add (GC h b k Za) ?_;have:=M6 h b (show k<=i by omega);unfold sh;exact I.pow_dvd_pow 2 Za
def kc(l a:Q I)(i:I):I:=start l a i/sh l (a.getD i 0)
def getD_at{a:Q I}{i:I}(b:i<a.length):a.getD i 0=a[i]:=Ze
def wu{l a:Q I}(h:dI l a){i:I}(b:i<a.length):kc l a i*sh l a[i]=start l a i:=by unfold kc;rw[getD_at b];exact I.div_mul_cancel (GC h b i (ZA _))
def QA{l:Q I}(a:cc l<=32768)(s:I):2^l.getD s 0*sh l s=32768:=by unfold sh;rw[<-I.pow_add,show l.getD s 0+(15-l.getD s 0)=15 by have:=kz a s;omega]
def TC{l a:Q I}(b:cc l<=32768)(h:dI l a){i:I}(c:i<a.length):kc l a i<2^l.getD a[i] 0:=by have g:=wu h c;have d:=aaz b h (show i+1<=a.length by omega);rw[wS c]at d;have j:=QA b a[i];have e:=Jp l a[i];have f:(kc l a i+1)*sh l a[i]<=2^l.getD a[i] 0*sh l a[i]:=by{rw[Yg];omega};exact I.le_of_mul_le_mul_right f e
def gn(l a:Q I):I->Q I|0=>Zh 258 0|i+1=>(gn l a i).set (a.getD i 0) (kc l a i)
def fR(l a:Q I):∀i,(gn l a i).length=258|0=>ZP|i+1=>by rw[gn,YV,fR l a i]
def afz{l a:Q I}(h:dI l a){i j:I}(c:j<a.length)(b:i<j):a[i]' Za≠a[j]:=by have:=(List.pairwise_iff_getElem.1 h.2) i j Za c b;intro e;rw[e]at this;omega
def Cy{l a:Q I}(h:dI l a)(b:∀s∈a,s<258):∀(i:I),i<=a.length->∀j(d:j<a.length),j<i->(gn l a i).getD a[j] 0=kc l a j|0,_,_,_,f=>Za|i+1,m,j,d,f=>by have c:i<a.length:=Za;rw[gn,getD_at c];by_cases e:j=i;{subst e;have:a[j]<(gn l a j).length:=by{rw[fR];exact b _ (Zs d)};rw[Zn,Q.getElem?_set_self this];rfl};have g:=afz h c (show j<i by omega);rw[Zn,Q.getElem?_set_ne λk=>g k.symm,<-Zn];exact Cy h b i Za j d Za
def many(l:Q I)(n:I):I:=if n=0 then 0 else l.count n
def fst(l:Q I):I->I|0=>0|n+1=>2*(fst l n+many l n)
def low(l:Q I):I->I|0=>0|n+1=>low l n+many l n*2^(15-n)
def EP(l:Q I):∀n,n<=15->fst l n*2^(15-n)=low l n|0,_=>by simp[fst,low]|n+1,h=>by have a:=EP l n Za;have e:2^(15-n)=2*2^(15-(n+1)):=by{rw[show 15-n=(15-(n+1))+1 by omega,Yx,Yb]};rw[fst,low,<-a,<-Y8,e,Yb 2 (fst l n+many l n),Xs]
def N1(n:I):low [] n=0:=by induction n with|zero=>rfl|succ n a=>rw[low,a];simp[many]
def Es(l:Q I)(x:I):∀n,low (l++[x]) n=low l n+if 0<x/\x<n then 2^(15-x)else 0|0=>by simp[low]|n+1=>by rw[low,low,Es l x n];unfold many;rw[XN,Q.count_singleton];by_cases h0:n=0;{subst h0;rw[X3 O,X3 O,K Za,K Za]};rw[K h0,K h0];by_cases hx:x=n;{subst hx;rw[K Za,X3 Zd,X3 Za,Y8];omega};rw[K (show¬(x==n)=J by simpa using hx)];by_cases h:0<x/\x<n;{rw[X3 h,X3 Za,Zq];omega};rw[K h,K Za,Zq,Zq,Zq]
def Ll(l:Q I){n m:I}(h:n<=m):low l n<=low l m:=by induction m with|zero=>have:n=0:=Za;subst this;exact ZA _|succ m a=>by_cases e:n=m+1;{grind};have:=a Za;rw[low];omega
def ad6:∀(k:I)(l:Q I),l.length=k->(∀x∈l,x<=15)->low l 16=cc l:=by intro k;induction k with|zero=>intro l h _;have:l=[]:=List.length_eq_zero_iff.1 h;subst this;simp[N1,cc]|succ k c=>intro l d h;have a:l≠[]:=by{intro e;subst e;simp at d};obtain⟨b,x,rfl⟩:∃b x,l=b++[x]:=⟨l.dropLast,l.getLast a,(Q.dropLast_concat_getLast a).symm⟩;rw[Es,c b Ze λy f=>h y (by simp[f])];unfold cc;rw[ZD,YN];unfold wt;by_cases h0:x=0;{grind};grind
def abr{l:Q I}(a:cc l<=32768):low l 16=cc l:=ad6 _ l rfl λx b=>by obtain⟨i,c,rfl⟩:=ZY b;have:=kz a i;rwa [Zn,Zg c]at this
def lf(l:Q I)(s:I):I:=(l.take s).count (l.getD s 0)
def code(l:Q I)(s:I):I:=fst l (l.getD s 0)+lf l s
def pos(l:Q I)(s:I):I:=low l (l.getD s 0)+lf l s*2^(15-l.getD s 0)
def vl{l:Q I}(a:cc l<=32768)(s:I):code l s*2^(15-l.getD s 0)=pos l s:=by unfold code pos;rw[Y8,EP l _ (kz a s)]
def fN{l:Q I}{i:I}(h:i<l.length):l.getD i 0=l[i]:=by rw[Zn,Zg h];rfl
def mg(l:Q I)(k x:I):(l.take k).count x<=l.count x:=(Q.take_sublist k l).count_le x
def gj{l:Q I}{k:I}(h:k<l.length)(x:I):(l.take (k+1)).count x=(l.take k).count x+if l[k]=x then 1 else 0:=by rw[Zx,Zg h,XN];simp only[X7.toList,Q.count_singleton,Wn]
def sG{l:Q I}{i j:I}(h:i<=j)(x:I):(l.take i).count x<=(l.take j).count x:=by have:(l.take i)=(l.take j).take i:=by{rw[Q.take_take,Y0 h]};rw[this];exact mg _ _ _
def NW{l:Q I}{s:I}(a:s<l.length)(c:0<l.getD s 0):lf l s<many l (l.getD s 0):=by unfold lf many;rw[K Za];have b:=gj a (l.getD s 0);rw[fN a,X3 O]at b;have d:=mg l (s+1) (l[s]);rw[fN a];omega
def KS{l:Q I}{s:I}(a:s<l.length)(b:0<l.getD s 0):pos l s+2^(15-l.getD s 0)<=low l (l.getD s 0+1):=by have:=NW a b;unfold pos;rw[low,Yy,<-Yg];exact I.add_le_add_left (ZL _ this) _
def sr{l:Q I}{s t:I}(b:s<l.length)(g:t<l.length)(c:0<l.getD s 0)(d:s≠t)(h:l.getD s 0<l.getD t 0\/(l.getD s 0=l.getD t 0/\s<t)):pos l s+2^(15-l.getD s 0)<=pos l t:=by(rcases h with h|⟨h,e⟩);{have a:=KS b c;have f:=Ll l (show l.getD s 0+1<=l.getD t 0 by omega);unfold pos at a⊢;omega};have a:=gj b (l.getD t 0);rw[X3 Ze]at a;have f:=sG (l:=l) (show s+1<=t by omega) (l.getD t 0);unfold pos lf;rw[h,Yy,<-Yg];exact I.add_le_add_left (ZL _ Za) _
def abg{l:Q I}{s t x:I}(a:s<l.length)(b:t<l.length)(c:0<l.getD s 0)(d:0<l.getD t 0)(j:pos l s<=x)(f:x<pos l s+2^(15-l.getD s 0))(k:pos l t<=x)(g:x<pos l t+2^(15-l.getD t 0)):s=t:=by by_cases e:s=t;{exact e};(rcases I.lt_trichotomy (l.getD s 0) (l.getD t 0)with h|h|h);{have:=sr a b c e (.inl h);omega};{(rcases Yc s t with i|i);{have:=sr a b c e (.inr ⟨h,i⟩);omega};have:=sr b a d (Ne.symm e) (.inr ⟨h.symm,Za⟩);omega};have:=sr b a d (Ne.symm e) (.inl h);omega
def adU(l:Q I)(n:I):∀p,p<l.count n->∃s,s<l.length/\l.getD s 0=n/\lf l s=p:=by intro p d;have a:∀k,k<=l.length->p<(l.take k).count n->∃s,s<k/\l.getD s 0=n/\lf l s=p:=by{intro k;induction k with|zero=>intro _ h;simp at h|succ k e=>intro f h;by_cases b:p<(l.take k).count n;{grind};have c:=gj (l:=l) (k:=k) Za n;by_cases h4:l[k]=n;{rw[X3 h4]at c;refine⟨k,Za,by rw[fN Za,h4],?_⟩;unfold lf;rw[fN Za,h4];omega};grind};obtain⟨s,g,b⟩:=a l.length (ZA _) Ze;exact⟨s,Za,b⟩
def I3{l:Q I}{s t:I}(c:s<l.length)(d:t<l.length)(h:l.getD s 0=l.getD t 0)(a:lf l s=lf l t):s=t:=by have b:∀{s t:I},s<l.length->t<l.length->l.getD s 0=l.getD t 0->lf l s=lf l t->¬s<t:=by{intro s t c d h a f;have e:=gj c (l.getD t 0);rw[X3 Ze]at e;have g:=sG (l:=l) (show s+1<=t by omega) (l.getD t 0);unfold lf at a;rw[h]at a;omega};have e:=b c d h a;have g:=b d c h.symm a.symm;omega
def OH(l:Q I)(n s t:I):X4:=We (0<l.getD t 0)&&We (l.getD t 0<n\/(l.getD t 0=n/\t<s))
def CJ(l:Q I)(n s:I)(j:0<n):∀k,k<=l.length->(((Zt k).filter (OH l n s)).map (sh l)).sum=low (l.take k) n+((l.take k).take s).count n*2^(15-n)|0,_=>by simp[N1]|k+1,p=>by have c:k<l.length:=Za;rw[Y3,Y9,ZD,YN,CJ l n s j k Za];have m:l.take (k+1)=l.take k++[l[k]]:=by{rw[Zx,Zg c];rfl};rw[m,Es];have d:=fN c;have e:(l.take k).length=k:=by{simp;omega};have g:0<l[k]->(l[k]<n\/(l[k]=n/\k<s))->OH l n s k=J:=λa b=>by{unfold OH;rw[d,ZI,Wo,Wo];exact⟨a,b⟩};have f:¬(0<l[k]/\(l[k]<n\/(l[k]=n/\k<s)))->¬OH l n s k=J:=λh=>by{unfold OH;rw[d,ZI,Wo,Wo];exact h};by_cases hks:k<s;{have i:(l.take k++[l[k]]).take s=l.take k++[l[k]]:=Zr (by rw[Zf,e];simp;omega);have o:(l.take k).take s=l.take k:=Zr Za;rw[i,o,XN,Q.count_singleton];by_cases a:0<l[k]/\l[k]<n;{rw[Q.filter_cons_of_pos (g a.1 (.inl a.2)),X3 a,K (by rw[Wn];omega)];simp only[Q.filter_nil,ZV,YY,XP,Q.sum_nil,sh,d,Zq];omega};rw[K a];by_cases b:l[k]=n;{rw[Q.filter_cons_of_pos (g Za (.inr ⟨b,hks⟩)),X3 (by simpa using b),Y8];simp only[Q.filter_nil,ZV,YY,XP,Q.sum_nil,sh,d,b];omega};rw[Q.filter_cons_of_neg (f Za),K (by simpa using b)];simp};have i:(l.take k++[l[k]]).take s=(l.take k).take s:=by{rw[Q.take_append_of_le_length Za]};rw[i];by_cases a:0<l[k]/\l[k]<n;{rw[Q.filter_cons_of_pos (g a.1 (.inl a.2)),X3 a];simp only[Q.filter_nil,ZV,YY,XP,Q.sum_nil,sh,d,Zq];omega};rw[K a,Q.filter_cons_of_neg (f Za)];simp
def TK{l b:Q I}(h:dI l b){i:I}(d:i<b.length):start l b i=pos l b[i]:=by have k:=gY.1 (h.1.mem_iff.1 (Zs d));let p:I->X4:=λt=>decide (l.getD t 0<l.getD b[i] 0\/(l.getD t 0=l.getD b[i] 0/\t<b[i]));have c:=List.pairwise_iff_getElem.1 h.2;have m:b.filter p=b.take i:=by{(conv=>lhs;rw[<-Zv i b]);rw[Y9,List.filter_eq_self.2,List.filter_eq_nil_iff.2,ZF];{intro a f;obtain⟨j,g,rfl⟩:=ZY f;rw[ZB]at g;rw[Xy];by_cases e:j=0;{subst e;simp only[p,Zq,Wo];omega};have:=c i (i+j) d Za Za;simp only[p,Wo];omega};intro a f;obtain⟨j,g,rfl⟩:=ZY f;rw[Zy]at g;rw[Y4];have:=c j i Za d Za;simp only[p,Wo];omega};have n:((b.take i).map (sh l)).sum=(((used l).filter p).map (sh l)).sum:=by{rw[<-m];exact((h.1.filter p).map (sh l)).sum_nat};unfold start;rw[n];have o:(used l).filter p=(Zt l.length).filter (OH l (l.getD b[i] 0) b[i]):=by{unfold used;rw[Q.filter_filter];congr 1;funext t;rw[X4.and_comm];rfl};rw[o];have:=CJ l (l.getD b[i] 0) b[i] k.2 l.length (ZA _);rw[Z0]at this;exact this
def Mx{l a:Q I}(d:cc l<=32768)(h:dI l a){i:I}(b:i<a.length):kc l a i=code l a[i]:=by have c:=wu h b;rw[TK h b,<-vl d]at c;exact I.eq_of_mul_eq_mul_right (Jp l a[i]) c
def Qq{l a:Q I}(j:l.length=258)(e:cc l<=32768)(h:dI l a){s:I}(d:s<258)(f:0<l.getD s 0):(gn l a a.length).getD s 0=code l s:=by have b:∀s∈a,s<258:=λs d=>by{have:=(gY.1 (h.1.mem_iff.1 d)).1;omega};have g:s∈a:=h.1.mem_iff.2 (gY.2 ⟨Za,f⟩);obtain⟨i,c,rfl⟩:=ZY g;rw[Cy h b _ (ZA _) i c c,Mx e h c]
def MU{l:Q I}(f:l.length=258)(a:cc l<=32768){s:I}(g:s<258)(b:0<l.getD s 0):code l s<2^l.getD s 0:=by have h:=vl a s;have i:=KS Za b;have c:=Ll l (show l.getD s 0+1<=16 by have:=kz a s;omega);rw[abr a]at c;have d:=QA a s;unfold sh at d;have e:(code l s+1)*2^(15-l.getD s 0)<=2^l.getD s 0*2^(15-l.getD s 0):=by{rw[Yg];omega};exact I.le_of_mul_le_mul_right e (Ym _)
end
end Go.Srt
namespace Go.Bits
section
def cq(b:Q I)(i:I):I:=(b.getD (i/8) 0/2^(7-i%8))%2
def val(b:Q I)(a:I):I->I|0=>0|n+1=>2*val b a n+cq b (a+n)
def my(b:Q I)(i:I):cq b i<2:=Xg _ Zb
def kU(b:Q I)(a:I):∀n,val b a n<2^n|0=>by simp[val]|n+1=>by have:=kU b a n;have:=my b (a+n);simp only[val,Yx];omega
def val_add(b:Q I)(a n:I):∀m,val b a (n+m)=val b a n*2^m+val b (a+n) m|0=>by simp[val]|m+1=>by rw[<-Yy];simp only[val,val_add b a n m,Yx,Yy];rw[I.mul_add,Yb (2^m) 2,I.mul_left_comm];omega
def adM(b:Q I)(a n k:I)(h:k<n):val b a n/2^(n-1-k)%2=cq b (a+k):=by have c:=val_add b a (k+1) (n-1-k);rw[show k+1+(n-1-k)=n by omega]at c;have d:=kU b (a+(k+1)) (n-1-k);rw[c,Yb,I.mul_add_div (Ym _),Xi d,Zq];simp only[val];have:=my b (a+k);omega
def Pe(b:Q I)(j i:I):cq (b.drop j) i=cq b (8*j+i):=by unfold cq;have a:(8*j+i)/8=j+i/8:=Za;have c:(8*j+i)%8=i%8:=Za;rw[a,c];simp only[Zn,Q.getElem?_drop]
def Li(b:Q I)(j a:I):∀n,val (b.drop j) a n=val b (8*j+a) n|0=>rfl|n+1=>by simp only[val,Li b j a n,Pe,Yy]
def JD(b c:Q I)(i:I)(h:i<8*b.length):cq (b++c) i=cq b i:=by unfold cq;congr 2;simp only[Zn];rw[ZQ Za]
def pY(b c:Q I)(a:I):∀n,a+n<=8*b.length->val (b++c) a n=val b a n|0,_=>rfl|n+1,h=>by simp only[val];rw[pY b c a n Za,JD b c _ Za]
def KY(b:Q I)(j:I)(h:b.getD j 0<256):val b (8*j) 8=b.getD j 0:=by have e:∀i,i<8->cq b (8*j+i)=b.getD j 0/2^(7-i)%2:=by{intro i a;unfold cq;rw[show(8*j+i)/8=j by omega,show(8*j+i)%8=i by omega]};simp only[val];rw[e 0 Zb,e 1 Zb,e 2 Zb,e 3 Zb,e 4 Zb,e 5 Zb,e 6 Zb,e 7 Zb];generalize b.getD j 0=x at h;simp only[I.reduceSub,I.reducePow];omega
def RV(b:Q I)(m:I)(h:b.getD m 0<256):val b 0 (8*(m+1))=val b 0 (8*m)*256+b.getD m 0:=by rw[show 8*(m+1)=8*m+8 by omega,val_add,Zk,KY b m h]
def ack{b:Q I}(h:bP b)(m:I):b.getD m 0<256:=by rw[Zn];cases hh:b[m]? with|none=>simp|some x=>simpa using h x (YO hh)
def adl(b:Q I)(a w k:I):val b 0 (a+w+k)/2^k%2^w=val b a w:=by rw[val_add b 0 (a+w) k,val_add b 0 a w,Zk,Yb _ (2^k),I.mul_add_div (Ym _),Zk,Xi (kU b _ k),Zq,Yb,I.mul_add_mod,Xh (kU b a w)]
def ad8(a c:I)(h:c<256):a*256|||c=a*256+c:=by have:=Y7 (i:=8) (b:=c) h a;rw[Yb]at this;rw[<-this]
def IV(a w:I):a&&&(2^w-1)=a%2^w:=Xp a w
end
end Go.Bits
namespace Go.Srt
section
open Go.Bits
def py(b:Q I)(j:I):I:=b.getD (8*j) 0*128+b.getD (8*j+1) 0*64+b.getD (8*j+2) 0*32+b.getD (8*j+3) 0*16+b.getD (8*j+4) 0*8+b.getD (8*j+5) 0*4+b.getD (8*j+6) 0*2+b.getD (8*j+7) 0
def lQ(b:Q I)(m:I):Q I:=(Zt m).map (py b)
def pack(b:Q I):Q I:=lQ b ((b.length+7)/8)
def Bits(b:Q I):Prop:=∀x∈b,x<=1
def Bits.getD{b:Q I}(h:Bits b)(i:I):b.getD i 0<=1:=by rw[Zn];cases hx:b[i]? with|none=>simp|some x=>exact h x (YO hx)
def Bits.app{a b:Q I}(c:Bits a)(d:Bits b):Bits (a++b):=λx e=>by(rcases List.mem_append.1 e with h|h);{exact c x h};exact d x h
def vW(b:Q I)(m:I):(lQ b m).length=m:=by simp[lQ]
def CF{b:Q I}{m j:I}(h:j<m):(lQ b m).getD j 0=py b j:=by unfold lQ;rw[Zn,ZZ,Yh h];rfl
def Ss{b:Q I}(h:Bits b)(j:I):py b j<256:=by unfold py;have a:=h.getD (8*j);have c:=h.getD (8*j+1);have d:=h.getD (8*j+2);have e:=h.getD (8*j+3);have f:=h.getD (8*j+4);have g:=h.getD (8*j+5);have i:=h.getD (8*j+6);have k:=h.getD (8*j+7);omega
def Sr{b:Q I}(h:Bits b)(m:I):∀y∈lQ b m,y<256:=λy a=>by obtain⟨j,_,rfl⟩:=List.mem_map.1 a;exact Ss h j
def kl{b:Q I}{i:I}(h:b.length<=i):b.getD i 0=0:=by rw[Zn,Z8 h];rfl
def F6(b:Q I)(x i:I):(b++[x]).getD i 0=b.getD i 0+if i=b.length then x else 0:=Ze
def Ks(b:Q I)(x j:I):py (b++[x]) j=py b j+if j=b.length/8 then x*2^(7-b.length%8)else 0:=by unfold py;simp only[F6];by_cases hj:j=b.length/8;{rw[X3 hj];have a:b.length=8*j+b.length%8:=by{omega};have c:b.length%8<8:=Xg _ Zb;generalize b.length%8=r at a c;rw[a];have:r=0\/r=1\/r=2\/r=3\/r=4\/r=5\/r=6\/r=7:=by{omega};rcases this with rfl|rfl|rfl|rfl|rfl|rfl|rfl|rfl<;>simp<;>omega};rw[K hj,K Za,K Za,K Za,K Za,K Za,K Za,K Za,K Za];omega
def ac3{b:Q I}{j:I}(h:b.length<=8*j):py b j=0:=by unfold py;rw[kl h,kl Za,kl Za,kl Za,kl Za,kl Za,kl Za,kl Za]
def aed(b:Q I):2^(8-b.length%8)∣py b (b.length/8):=by have a:b.length=8*(b.length/8)+b.length%8:=Za;have c:b.length%8<8:=Xg _ Zb;generalize e:b.length/8=j at a;generalize b.length%8=r at a c;unfold py;have g:∀i,r<=i->b.getD (8*j+i) 0=0:=λi f=>kl Za;have:r=0\/r=1\/r=2\/r=3\/r=4\/r=5\/r=6\/r=7:=Za;have d:=g 0;have h:=g 1;have k:=g 2;have l:=g 3;have m:=g 4;have n:=g 5;have o:=g 6;have p:=g 7;simp only[Zq]at d;rcases this with rfl|rfl|rfl|rfl|rfl|rfl|rfl|rfl<;>simp only[I.reduceSub,I.reducePow]<;>omega
def adI{a r x:I}(d:r<8)(c:2^(8-r)∣a)(e:x<=1):a|||x*2^(7-r)=a+x*2^(7-r):=by obtain⟨q,rfl⟩:=c;have f:2^(8-r)=2*2^(7-r):=by{rw[show 8-r=(7-r)+1 by omega,Yx,Yb]};have b:=Ym (7-r);refine(Y7 ?_ q).symm;have:x=0\/x=1:=Za;rcases this with rfl|rfl<;>omega
def room(b:Q I):Q I:=lQ b (b.length/8+1)
def Og(b:Q I):room b=if b.length%8=0 then pack b++[0]else pack b:=by unfold room pack;split;{rename_i h;rw[show(b.length+7)/8=b.length/8 by omega];unfold lQ;rw[Y3,ZD];simp;rw[ac3 Za]};grind
def RW(b:Q I)(x:I):pack (b++[x])=(room b).set (b.length/8) (py b (b.length/8)+x*2^(7-b.length%8)):=by unfold pack room;rw[Zf,ZJ,show(b.length+1+7)/8=b.length/8+1 by omega];refine YH λi=>?_;unfold lQ;simp only[ZZ,Zl,YP];by_cases hi:i<b.length/8+1;{rw[Yh hi];simp only[Yq];rw[Ks];by_cases e:b.length/8=i;{grind};grind};grind
def Ja{b:Q I}(h:Bits b){m i:I}(d:i<8*m):cq (lQ b m) i=b.getD i 0:=by unfold cq;rw[CF Za];have a:i=8*(i/8)+i%8:=Za;have c:i%8<8:=Xg _ Zb;generalize i/8=j at a;generalize i%8=r at a c;subst a;unfold py;have e:=h.getD (8*j);have f:=h.getD (8*j+1);have g:=h.getD (8*j+2);have k:=h.getD (8*j+3);have l:=h.getD (8*j+4);have n:=h.getD (8*j+5);have o:=h.getD (8*j+6);have p:=h.getD (8*j+7);have:r=0\/r=1\/r=2\/r=3\/r=4\/r=5\/r=6\/r=7:=Za;rcases this with rfl|rfl|rfl|rfl|rfl|rfl|rfl|rfl<;>simp only[I.reduceSub,I.reducePow,Zq]<;>omega
def ot(b:Q I):(pack b).length=(b.length+7)/8:=vW _ _
def bn:I->I->Q I|0,_=>[]|n+1,v=>bn n (v/2)++[v%2]
def uy:∀n v,(bn n v).length=n|0,_=>rfl|n+1,v=>by rw[bn,Zf,uy n];rfl
def Oh:∀n v,Bits (bn n v)|0,_=>(λx a=>by cases a)|n+1,v=>(Oh n _).app λx a=>by have:x=v%2:=by{simpa using a};omega
def Lr:∀n v i,i<n->(bn n v).getD i 0=v/2^(n-1-i)%2|0,_,_,h=>Za|n+1,v,i,h=>by rw[bn,F6,uy];by_cases e:i=n;{subst e;rw[X3 O,kl (by rw[uy];exact ZA _),show i+1-1-i=0 by omega];simp};rw[K e,Lr n _ i Za,Zq,I.div_div_eq_div_mul];congr 2;rw[show n+1-1-i=(n-1-i)+1 by omega,Yx,Yb]
def nJ(l:Q I)(s:I):Prop:=s<258/\0<l.getD s 0
def HZ(l:Q I)(s:I):Q I:=bn (l.getD s 0) (code l s)
def enc(l:Q I)(a:Q I):Q I:=a.flatMap (HZ l)
def V8(l:Q I)(a:Q I):Bits (enc l a):=λx b=>by obtain⟨s,_,h⟩:=List.mem_flatMap.1 b;exact Oh _ _ x h
def adx(l a b:Q I):enc l (a++b)=enc l a++enc l b:=Xm
def IG(l:Q I)(s:I)(b:Q I):enc l (s::b)=HZ l s++enc l b:=Yn
def eW(l:Q I)(c n:I):X7 I:=(Zt 258).find? λs=>decide (0<l.getD s 0)&&(l.getD s 0==n)&&(code l s==c)
def wY{l:Q I}{c n s:I}(h:eW l c n=Z s):nJ l s/\l.getD s 0=n/\code l s=c:=by unfold eW at h;have a:=Q.find?_some h;have b:=Q.mem_of_find?_eq_some h;simp only[ZI,Wo,Wn]at a;exact⟨⟨by simpa using b,a.1.1⟩,a.1.2,a.2⟩
def PE{l:Q I}{c n:I}(h:eW l c n=V){s:I}(a:nJ l s):¬(l.getD s 0=n/\code l s=c):=by unfold eW at h;have:=List.find?_eq_none.1 h s (by simpa using a.1);simp only[ZI,Wo,Wn]at this;exactλb=>this ⟨⟨a.2,b.1⟩,b.2⟩
def Ue{l:Q I}(e:l.length=258){s t:I}(c:nJ l s)(d:nJ l t)(a:l.getD s 0=l.getD t 0)(b:code l s=code l t):s=t:=by have f:=c.1;have g:=d.1;refine I3 Za Za a ?_;unfold code at b;rw[a]at b;omega
def Cb{l:Q I}(b:l.length=258){s:I}(a:nJ l s):eW l (code l s) (l.getD s 0)=Z s:=by cases h:eW l (code l s) (l.getD s 0)with|none=>exact Wi ⟨O,O⟩ (PE h a)|some t=>obtain⟨c,d,e⟩:=wY h;rw[Ue b c a d e]
def S9{l:Q I}(u:l.length=258)(c:cc l<=32768){s m:I}(f:nJ l s)(v:m<l.getD s 0):eW l (code l s/2^(l.getD s 0-m)) m=V:=by cases h:eW l (code l s/2^(l.getD s 0-m)) m with|none=>rfl|some t=>exfalso;obtain⟨g,i,k⟩:=wY h;have n:=kz c s;have j:=vl c s;have d:=vl c t;rw[i,k]at d;have e:2^(15-m)=2^(l.getD s 0-m)*2^(15-l.getD s 0):=by{rw[<-I.pow_add];congr 1;omega};have o:=I.div_mul_le_self (code l s) (2^(l.getD s 0-m));have p:=I.lt_div_mul_add (a:=code l s) (b:=2^(l.getD s 0-m)) (Ym _);have q:pos l t<=pos l s:=by{rw[<-j,<-d,e,<-Xs];exact ZL _ o};have r:pos l s<pos l t+2^(15-l.getD t 0):=by{rw[i,<-j,<-d,e,<-Xs,<-Y8];exact I.mul_lt_mul_of_pos_right p (Ym _)};have w:=f.1;have y:=g.1;have:s=t:=abg (x:=pos l s) Za Za f.2 g.2 (ZA _) Ze q r;subst this;omega
def np(l:Q I):Q I->I->I->Q I->X7 (Q I)|[],_,n,acc=>if n=0 then Z acc else V|x::bs,c,n,acc=>match eW l (2*c+x) (n+1)with|some s=>np l bs 0 0 (acc++[s])|none=>if 15<n+1 then V else np l bs (2*c+x) (n+1) acc
def bitsOf(b:Q I)(n:I):Q I:=(Zt n).map (cq b)
def Ps(b:Q I)(n:I):(bitsOf b n).length=n:=by simp[bitsOf]
def Mb(b:Q I)(n:I):Bits (bitsOf b n):=λx a=>by obtain⟨i,_,rfl⟩:=List.mem_map.1 a;have:=my b i;omega
end
end Go.Srt
namespace Go.Proofs.Q9
section
open Go Go.Vc Go.Srt Go.Bits
def Wr(b:I)(bits:Q I):HP:=λf=>∃s:Sl,(Srt.Bits bits/\bits.length<=cP)/\Sat [bm b [aj s,ni (bits.length:H)] 305,an 1 s ((pack bits).map vB)] f
section
variable{E w:X0}{F A:Q HP}{b:I}{bits:Q I}
def Wr.cC(h:Hp E w (Wr b bits::F)):∃s:Sl,Srt.Bits bits/\bits.length<=cP/\Hp E w (bm b [aj s,ni (bits.length:H)] 305::an 1 s ((pack bits).map vB)::F):=by obtain⟨s,⟨a,c⟩,h⟩:=h.HD (X:=λ_:Sl=>Srt.Bits bits/\bits.length<=cP) (L:=λs=>[bm b [aj s,ni (bits.length:H)] 305,an 1 s ((pack bits).map vB)]) λf d=>d;exact⟨s,a,c,h⟩
def Wr.shut{s:Sl}(a:Srt.Bits bits)(c:bits.length<=cP)(h:Hp E w (bm b [aj s,ni (bits.length:H)] 305::an 1 s ((pack bits).map vB)::F)):Hp E w (Wr b bits::F):=Hp.Hz (l:=[_,_]) (λf d=>⟨s,⟨a,c⟩,d⟩) h
def afO{K:X7 Wg->ad}(h:Hp E w F)(a:∀b w',Hp E w' (Wr b []::F)->K (Z ⟨b,0,V⟩) w'):ah [kP] 137 [] w K:=by refine GY.ok _ _ (Nw.mk h λb c d=>a b c (Wr.shut (s:=⟨V,0,0⟩) (λx e=>by cases e) (Z4 _) ((d.aV 1).p1)))
def VQ{v a:I}{K:X4->ad}(f:a<=32)(c:v<2^a)(d:v<=4294967295)(e:K J w):aD 284 [.int .u32 (v:H),ni (a:H)] w K:=by refine DN.ok _ _ _ _ (aa.t (Wd Za) (aa.t (Wd Za) ⟨Za,?_⟩));rw[iJ Za,cJ (by have:Wl.bits .u64=64:=O;omega),Xi c];exact e
def vR:cN Zj 24 5 1 1:=cN.of Zc Zc
def Ox{x:I}(c:x<=1):Srt.Bits [x]:=λy a=>by have:y=x:=by{simpa using a};omega
def Jq{x:I}:∀y∈[vB x],aL y=J:=λy a=>by have:y=vB x:=by{simpa using a};subst this;rfl
def afx(n:I)(h:n<=cP):cG .i64 (n:H) 7=((n%8:I):H):=by have a:YR .i64=9223372036854775807:=O;rw[aK]at h;rw[show(7:H)=((7:I):H)from O,fK Za Za,show(7:I)=2^3-1 from O,Xp]
theorem agC{x:I}{K:ad}(h:Hp E w (Wr b bits::F))(D:x<=1)(r:bits.length+1<=cP)(W:bu E (Wr b (bits++[x])::F) K):cH 286 [bU b,au (x:H)] w K:=by refine wA.ok _ _ _ _ ?_;simp only[ax,ao,Zk];obtain⟨s,S,G,z⟩:=Wr.cC h;have L:=r;rw[aK]at L G;have M:bits.length%8<8:=Xg _ Zb;refine Ld.aF (s:=.int .i64) z (bits.length:H) O ?_;rw[afx _ (by rw[aK];omega)];have i:∀(f:Sl)(B:X0),Hp E B (bm b [.slice f.base f.len f.cap,ni (bits.length:H)] 305::an 1 f ((room bits).map vB)::F)->aM B λ(a:X0)=>Ld kS (⟨b,0,V⟩:Wg) a λ(t:Sl)=>Ld kI (⟨b,1,V⟩:Wg) a λ(c:H)=>0<=(3:H)/\ay t (aZ .i64 c 3) 1 λ(N:Wg)=>Ld (aG .u8) N a λ(P:H)=>Ld kI (⟨b,1,V⟩:Wg) a λ(d:H)=>0<=((i64 ((7:H)-(cG .i64 d 7))):H)/\ay t (aZ .i64 c 3) 1 λ(Q:Wg)=>St Q (au (js .u8 P (bH .u8 (x:H) (i64 ((7:H)-(cG .i64 d 7)))))) a λ(k:X0)=>Ld kI (⟨b,1,V⟩:Wg) k λ(g:H)=>St (⟨b,1,V⟩:Wg) (ni (i64 (g+1))) k λ(u:X0)=>K u:=by{intro f B v;refine aM.mk v λX l=>Ld.aF (s:=.sl) l f O (Ld.aF (s:=.int .i64) l (bits.length:H) O ⟨Zb,?_⟩);have o:=l.p1.aU;have R:(room bits).length=bits.length/8+1:=vW _ _;rw[Zl,R,Zw]at o;have Y:aZ .i64 (bits.length:H) 3=((bits.length/8:I):H):=by{rw[show(3:H)=((3:I):H)from O,cJ Zb]};rw[Y];refine ay.rd (l.ak (ae.cons ae.own)) Za Za λq hq hc=>?_;have hby:((room bits).map vB)[((bits.length/8:I):H).toNat]' hq=au (py bits (bits.length/8):H):=by{rw[Xr];have:=CF (b:=bits) (m:=bits.length/8+1) (j:=bits.length/8) Za;rw[fN (by rw[vW];omega)]at this;show vB _=_;unfold vB;rw[<-this];rfl};refine Ld.sc (s:=.int .u8) (py bits (bits.length/8):H) Ze (Ld.aF (s:=.int .i64) l (bits.length:H) O ?_);rw[afx _ (by rw[aK];omega),af (x:=(7:H)-((bits.length%8:I):H)) Za,show(7:H)-((bits.length%8:I):H)=((7-bits.length%8:I):H) by omega];have y:=Ss (S.app (Ox D)) (bits.length/8);rw[Ks,X3 O]at y;have hm8:YR .u8=255:=O;have e4:bH .u8 (x:H) ((7-bits.length%8:I):H)=((x*2^(7-bits.length%8):I):H):=dO (by have:Wl.bits .u8=8:=O;omega) Za;have e5:=adI M (aed bits) D;rw[e4,mM Za Za Ze,e5];refine⟨Za,?_⟩;refine St.own l.p1 Za Za O λT C=>?_;refine Ld.aF (s:=.int .i64) C.p1 (bits.length:H) O ?_;rw[af Za];refine St.aF C.p1 (show 1<2 by decide) O λw5 h5=>W w5 (Wr.shut (s:=f) (S.app (Ox D)) Ze ?_);rw[RW];have:((room bits).set (bits.length/8) (py bits (bits.length/8)+x*2^(7-bits.length%8))).map vB=((room bits).map vB).set ((bits.length/8:I):H).toNat (au ((py bits (bits.length/8)+x*2^(7-bits.length%8):I):H)):=by{rw[Zi,XB];rfl};rw[this,Zf,ZJ];exact h5};refine aa.mk (λp=>?_) λp=>?_;{have p:bits.length%8=0:=by{rw[Wn]at p;omega};refine Ld.aF (s:=.sl) z s O (Nw.mk z λb8 B v=>?_);have o:=v.p2.aU;rw[Zl,ot,Zw]at o;refine bj (ys:=[vB 0]) (n:=1) vR Zb (.inl ⟨5,Zc⟩) v.p2 (.inl ⟨Z ⟨b8,0,V⟩,1,1,O,O,v.ak (ae.aF O O)⟩) O Jq Za Za λf X l hs'=>?_;refine St.aF l.p2 (show 0<2 by decide) O λT C=>?_;refine i f T ?_;have e:(room bits).map vB=(pack bits).map vB++[vB 0]:=by{rw[Og,X3 p,ZD];rfl};rw[e];exact C.p2.drop};have p:bits.length%8≠0:=by{have:=beq_eq_false_iff_ne.1 p;omega};refine i s w ?_;rw[Og,Wa p];exact z
theorem VT{K:Sl->ad}(h:Hp E w (Wr b bits::F))(k:∀s w',Hp E w' (an 1 s ((pack bits).map vB)::Wr b bits::F)->K s w'):bS 140 [bU b] w K:=by refine tq.ok _ _ _ ?_;simp only[ax,ao,Zk];obtain⟨s,l,a,d⟩:=Wr.cC h;refine aa.f rfl (Ld.aF (s:=.sl) d s rfl (Ag.ok _ _ _ ?_));have g:=d.p1.aU;have o:=ot bits;rw[Zl,Zw]at g;rw[aK]at a;refine aa.mk (λi=>?_) λi=>?_;{have i:s.base=V:=by{simpa using i};(obtain⟨rfl,m,e⟩|⟨B,p,q,t,j,_⟩:=d.p1.qL);{refine k _ w ?_;rw[m];refine Hp.aV (Wr.shut (s:=⟨V,0,0⟩) l (by rw[aK];exact a) ?_) 1;rw[m];exact(e.aV 1).p1};grind};refine Nw.mk d λr u e=>?_;have v:=e.nw (n:=0) (sz:=1) rfl;have c:aN 1 s ((pack bits).map vB) u:=e.ak (ae.cons (ae.cons ae.own));refine bj (s:=(kh r 0)) (ys:=(pack bits).map vB) (n:=s.len) vR Zb (.inl ⟨5,Zc⟩) v (.inl ⟨s.base,s.len,s.cap,rfl,rfl,c⟩) Ze dy Ze Ze λx y z _=>?_;exact k x y (Wr.shut (s:=s) l (by rw[aK];exact a) z.q2).p1
def RA{v a g j:I}(x:a<=32)(y:v<=4294967295):Iter Zj E (.func (.func 339) ⟨[]⟩ ⟨[bU j,bU g]⟩) a (λi=>[Ki.enc (aG .u8) ((v/2^(a-1-i)%2:I):H)]) (bm j [ni (a:H)] 3::bm g [.int .u32 (v:H)] 105::A):=by intro p C G w K q h r l;refine sf.mk Zc (Bx.ok p ⟨j,0,V⟩ ⟨g,0,V⟩ K w ?_);have n:=h.perm (List.perm_middle.trans (XK _ Xe));refine Ld.aF (s:=.int .i64) n (a:H) O (⟨λi w'=>∃k:I,i=(a:H)-1-(k:H)/\k<=a/\Hp E w' (bm j [ni (a:H)] 3::bm g [.int .u32 (v:H)] 105::(C k++A)),λi _=>(i+1).toNat,⟨0,by rw[af Za];omega,Za,n⟩,?_⟩);rintro i u ⟨k,rfl,hk,h1⟩;refine aa.mk (λd=>?_) λc=>?_;{have c:k<a:=by{have:=X9 d;omega};refine Ld.aF (s:=.int .u32) h1.p1 (v:H) O ⟨Za,?_⟩;have z:v/2^(a-1-k)<=v:=I.div_le_self _ _;have e:cG .u8 (u8 (aZ .u32 (v:H) ((a:H)-1-(k:H)))) 1=((v/2^(a-1-k)%2:I):H):=by{have B:YR .u8=255:=O;rw[show(a:H)-1-(k:H)=((a-1-k:I):H) by omega,cJ (by have:Wl.bits .u32=32:=O;omega),ye,show(((v/2^(a-1-k):I):H)%256)=((v/2^(a-1-k)%256:I):H) by omega,show(1:H)=((1:I):H)from O,fK Za Za,I.and_one_is_mod];omega};rw[e];refine q k c (bm j [ni (a:H)] 3::bm g [.int .u32 (v:H)] 105::A) u _ (h1.perm ((XK _ List.perm_middle.symm).trans List.perm_middle.symm)) (λo m=>?_) λo m=>?_;{refine aa.f O ⟨O,⟨k+1,by rw[af Za];omega,Za,m.perm (List.perm_middle.trans (XK _ Xe))⟩,by dsimp only;rw[af Za];omega⟩};exact aa.t O (l k o c m)};have d:k=a:=by{have:=X8 c;omega};subst d;exact r _ (h1.perm ((XK _ List.perm_middle.symm).trans List.perm_middle.symm))
theorem QD{v width:I}{K:X4->ad}(h:Hp E w (Wr b bits::F))(r:width<=32)(G:v<2^width)(c:v<=4294967295)(t:bits.length+width<=cP)(L:bu E (Wr b (bits++bn width v)::F) (K J)):aD 208 [bU b,.int .u32 (v:H),ni (width:H)] w K:=by refine vQ.ok _ _ _ _ _ (Nw.mk h λg S u=>Ld.aF (s:=.ptr) u (Z ⟨b,0,V⟩) O (aa.f O (VQ r G c (aa.f O (ES.ok _ _ _ _ ?_)))));refine Nw.mk u λy T M=>Nw.mk M λz N o=>?_;have o:Hp E N ([bm g [bU b] 236,Wr b (bits++(bn width v).take 0)]++(bm z [ni (width:H)] 3::bm y [.int .u32 (v:H)] 105::F)):=by{rw[XJ,ZF];exact o.p3.p3};have d:=uy width v;refine jb.xr (k:=aG .u8) (x:=λi=>((v/2^(width-1-i)%2:I):H)) (n:=width) (λi=>[bm g [bU b] 236,Wr b (bits++(bn width v).take i)]) (λ_=>[DW]) o (RA r c) ?_ ?_ ?_;{intro P p i A j W X l a q _;have a:Hp E j (aq P (p 0)::bm g [bU b] 236::Wr b (bits++(bn width v).take i)::A):=a;refine rz.mk a λB m=>Ld.aF (s:=.ptr) m.p1 (Z ⟨b,0,V⟩) O (agC m.p2 Za Ze λY Q=>mC.mk Q.p1 λR C=>q R ?_);have e:(bits++(bn width v).take i)++[v/2^(width-1-i)%2]=bits++(bn width v).take (i+1):=by{rw[Zm,Zx,Zg (by rw[d];exact l),<-Lr width v i l,fN (by rw[d];exact l)];rfl};rw[e]at C;exact C.p2.p1};{intro D j a;have a:Hp E j (aq D (.deferred (Z []))::bm g [bU b] 236::Wr b (bits++(bn width v).take width)::bm z [ni (width:H)] 3::bm y [.int .u32 (v:H)] 105::F):=a;rw[Zr Za]at a;exact jy.xr a λB m=>L B m.drop.p1.drop.p1.drop};intro i D j l a;exact(Hp.Jf a).elim
end
end
section
open Go Go.Vc Go.Srt
section
variable{E w:X0}{F:Q HP}
theorem acH{l:Q I}{K:X5 G->H->ad}(h:Hp E w F)(r:l.length=258)(C:¬cc l<=32768->∀w',Hp E w' F->K (ai .u32 (Zh 258 0)) 2 w')(D:cc l<=32768->∀c w',dI l c->Hp E w' F->K (ai .u32 (gn l c c.length)) 0 w'):ah [.arr 258,kI] 210 [.agg (ai .u8 l)] w K:=by refine CT.ok _ _ _ ?_;rw[Ec];refine Nw.mk h λX w1 L=>Nw.mk L λY w2 A=>Ld.arr A.p1 (by rw[bG,r]) (AX A r λw3 g=>?_);refine aa.mk (λf=>?_) λf=>?_;{have f:¬cc l<=32768:=by{simpa using f};refine Ld.arr g (by rw[bG];simp) (aH.aF g (by rw[bG];simp) (by rw[bG];simp) kK λw4 t=>Ld.arr t (by rw[bG];simp) (C f w4 t.drop.drop))};have f:cc l<=32768:=by{simpa using f};refine Ld.arr g.p1 (by rw[bG,r]) (acG g r (λM=>Wi f M) λ_ c s w4 e t=>?_);have N:=t.aU;simp only[ints,Zl,Zw]at N;have P:∀s∈c,s<258/\0<l.getD s 0:=λs hs=>by{have:=gY.1 (e.1.mem_iff.1 hs);rw[r]at this;exact this};have hlen:c.length<=258:=by{rw[e.1.length_eq,<-r];have:=Q.length_filter_le (λs=>decide (0<l.getD s 0)) (Zt l.length);simpa[used]using this};refine⟨λnx la i w'=>∃k n a:I,i=(k:H)/\nx=(n:H)/\la=(a:H)/\k<=c.length/\n*2^(15-a)=Srt.start l c k/\a<=15/\(∀j(R:j<c.length),k<=j->a<=l.getD c[j] 0)/\Hp E w' (an 1 s ((ints c).map vI)::aq Y (.cells (ai .u32 (gn l c k)) 256 (0,0))::aq X (.cells (ai .u8 l) 166 (0,0))::F),λ_ _ i _=>c.length-i.toNat,⟨0,0,0,O,O,O,Za,by simp[Srt.start],Za,λj R _=>Z4 _,t⟩,?_⟩;intro nx la i w' hI;obtain⟨k,n,a,hi,M,S,hk,T,ha15,m,u⟩:=hI;subst hi;subst M;subst S;refine aa.mk (λd=>?_) λo=>?_;{have d:k<c.length:=by{have:=X9 d;omega};have v:=P _ (Zs d);have p:c[k]<l.length:=by{omega};have B:l.getD c[k] 0=l[c[k]]:=by{rw[Zn,Zg p];rfl};refine HW u Za (x:=(c[k]:H)) (by simp[ints,d]) ?_;refine aX.rd (s:=.int .u8) u.p2 Za Za (l[c[k]]:H) (by rw[Zi];exact j9 p) ?_;have S:=m k d (ZA _);have y:=kz f c[k];rw[B]at S y v;rw[jh Za];refine⟨Za,?_⟩;have hd:Hp E {w' with drawn:=w'.drawn+1} _:=u.drew;refine⟨λw'=>∃cs,Hp E w' (an 1 s ((ints c).map vI)::aq Y (.cells cs 256 (0,0))::aq X (.cells (ai .u8 l) 166 (0,0))::F),⟨_,hd⟩,Za,Za,(l[c[k]]:H),?_,?_⟩;{rintro w2 ⟨cs,A⟩;rw[ao,A.p2.cell,Zi,Zk,Zw];exact j9 p};have W:=wS (l:=l) d;have z:=wu e d;have hcl:=TC f e d;have hp15:2^l.getD c[k] 0<=2^15:=ZT Zb (kz f _);have q:n*2^(l[c[k]]-a)=kc l c k:=by{have L:n*2^(l[c[k]]-a)*sh l c[k]=kc l c k*sh l c[k]:=by{rw[z,<-T];unfold sh;rw[B,Xs,<-I.pow_add];congr 2;omega};exact I.eq_of_mul_eq_mul_right (Jp l c[k]) L};have e1:bH .u32 (n:H) ((l[c[k]]:H)-(a:H))=(kc l c k:H):=by{have hmx:YR .u32=4294967295:=O;have:=dO (k:=.u32) (a:=n) (b:=l[c[k]]-a) (by have:Wl.bits .u32=32:=O;omega) Ze;rw[q]at this;rw[<-this];congr 1;omega};rw[e1];refine aX.wr hd.p1 Za Za (by rw[bG,fR]) O λw3 g=>?_;rw[Zi,Ik]at g;refine⟨⟨_,g.p1⟩,?_⟩;rw[ly Za,af Za];refine⟨⟨k+1,kc l c k+1,l[c[k]],O,O,O,Za,?_,y,λj R hkj=>?_,?_⟩,by dsimp only;omega⟩;{rw[W,<-z];unfold sh;rw[B,Yg]};{rw[<-B];exact M6 e R Za};have:gn l c (k+1)=(gn l c k).set c[k] (kc l c k):=by{rw[gn,getD_at d]};rw[this];exact g.p1};have o:k=c.length:=by{have:=X8 o;omega};subst o;refine Ld.arr u.p1 (by rw[bG,fR]) (aH.aF u.p1 (by rw[bG,fR]) (by rw[bG,fR]) kK λw5 h5=>Ld.arr h5 (by rw[bG,fR]) (D f c w5 e h5.drop.drop.drop))
end
def afN{l a:Q I}(b:l.length=258)(h:dI l a):∀s∈a,s<258/\0<l.getD s 0:=λs c=>by have:=gY.1 (h.1.mem_iff.1 c);rw[b]at this;exact this
def aey{l a:Q I}(b:l.length=258)(h:dI l a):a.length<=258:=by rw[h.1.length_eq,<-b];have:=Q.length_filter_le (λs=>decide (0<l.getD s 0)) (Zt l.length);simpa[used]using this
def aas{l c zs:Q I}(h:dI l c)(d:dI l zs):c=zs:=by refine Q.Perm.eq_of_pairwise (le:=λa b=>l.getD a 0<l.getD b 0\/(l.getD a 0=l.getD b 0/\a<b)) ?_ h.2 d.2 (h.1.trans d.1.symm);intro a b _ _ e f;omega
def UR{l:Q I}{i:I}{k:Wl}(h:i<l.length):(ai k l)[((i:I):H).toNat]?=Z (Sc.enc (.int k) (l.getD i 0:H)):=by rw[Zi,j9 h,Zn,Zg h];rfl
end
section
open Go Go.Vc
set_option maxRecDepth 100000
def G4.ok(a:(X5 G))(R:(X5 G)->H->ad) w(h:Nw 166 a w λc b=>Nw 170 ⟨Zh 258 (au 0)++[(ni 0),(ni 0)]⟩ b λe d=>aQ 258 c 0 d λf=>aD 282 [(.agg f)] d λh g=>aa (! h) (eu Pg 170 [] λi=>aH 260 (av e 0) i g λj=>aQ 260 e 0 j λk=>R k 2 j) (aQ 258 c 0 g λl=>eu Pg 170 [(0,(.agg l))] λm=>aH 260 (av e 0) m g λn=>aQ 260 e 0 n λo=>R o 0 n)):ah [(.arr 260),kI] 217 [(.agg a)] w R:=co Tryz.f217 [] h
def D6.ok(a:(X5 G))(b:H)(R:(X5 G)->H->X4->ad) w(h:Nw 170 a w λd c=>Nw 170 ⟨Zh 258 (au 0)++[(ni 0),(ni 0)]⟩ c λf e=>a8 (λ(q:X0)=>aQ 258 d 0 q λr=>aJ d 258 q λs=>0<=(1:H)/\aJ d 259 q λt=>eu Pg 170 [(0,(.agg r)),(1,(ni (js .i64 (bH .i64 s (1:H)) b))),(2,(ni (i64 (t+1))))] λu=>aH 260 (av f 0) u q λv=>aQ 258 f 0 v λx=>aJ f 259 v λy=>ah [kI,kI] 298 [(.agg x),(ni y)] v λ(B:H)(M:H) z=>aJ f 258 z λN=>aw (N>=(i64 (B+M))) (aQ 260 f 0 z λP=>aH 260 (av f 0) P z λC=>aQ 260 f 0 C λQ=>R Q 0 U C) (aM z λA=>aQ 258 f 0 A λD=>aJ f 259 A λE=>aJ f 258 A λF=>(aQ 258 d 0 A λS=>eu Pg 170 [(0,(.agg S))] λT=>bE 299 [(.agg D),(ni E),(ni (i64 (F-B)))] A λW X=>aH 260 (av f 0) T X λI=>aQ 260 f 0 I λY=>R Y W J I)/\(bE 299 [(.agg D),(ni E),(ni (i64 (F-B)))] A λr1 K=>aQ 258 d 0 K λs1=>eu Pg 170 [(0,(.agg s1))] λt1=>aH 260 (av f 0) t1 K λL=>aQ 260 f 0 L λv1=>R v1 r1 J L))) λg=>0<=(1:H)/\aa ((aZ .i64 b (1:H)) !=0) (aQ 260 d 0 e λh=>aH 260 (av f 0) h e λi=>aQ 260 f 0 i λj=>R j 0 U i) (aQ 260 d 0 e λk=>aD 297 [(.agg k)] e λm l=>aa (! m) (aQ 260 d 0 l λn=>aH 260 (av f 0) n l λo=>aQ 260 f 0 o λp=>R p 0 U o) (g l))):ah [(.arr 260),kI,kB] 219 [(.agg a),(ni b)] w R:=co Tryz.f219 [(2,[]),(17,[])] h
def Dh.ok(a:(X5 G))(R:X4->ad) w(h:Nw 170 a w λc b=>a8 (λ(m:X0)=>aQ 258 c 0 m λn=>aJ c 259 m λo=>ah [kI,kI] 298 [(.agg n),(ni o)] m λ(q:H)(r:H) p=>aJ c 258 p λs=>R (We (s>=(i64 (q+r)))) p) λd=>aQ 258 c 0 b λe=>aD 282 [(.agg e)] b λg f=>aa (! g) (R U f) (aJ c 259 f λh=>aw (h<0) (R U f) (aJ c 259 f λi=>aw (i>=15) (R U f) (aJ c 258 f λj=>aw (j<0) (R U f) (aJ c 258 f λk=>aJ c 259 f λl=>0<=l/\aa ((aZ .i64 k l) !=0) (R U f) (d f)))))):aD 297 [(.agg a)] w R:=co Tryz.f297 [(2,[])] h
def CZ.ok(a:(X5 G))(b:H)(R:H->H->ad) w(h:Nw 166 a w λd c=>aQ 258 d 0 c λe=>ah [(.st Fw)] 351 [(.agg e)] c λg f=>Nw 436 ⟨Zh 16 (ni 0)⟩ f λi h=>aS i 0 (aA Fw g) h λj=>aX (av i 0) 16 0 1 λk=>St k (ni 0) j λl=>dK 0 1 l λm n(o:H)(p:H) q=>aw (p<=b) (aX (av i 0) 16 (i64 (p-1)) 1 λr=>bh r q λs=>0<=(1:H)/\m (bH .i64 (i64 (o+s)) (1:H)) (i64 (p+1)) q/\n (bH .i64 (i64 (o+s)) (1:H)) (i64 (p+1)) q<n o p q) (aM q λt=>aX (av i 0) 16 b 1 λu=>bh u t λv=>R o v t)):ah [kI,kI] 298 [(.agg a),(ni b)] w R:=co Tryz.f298 [(9,[(4,kI),(7,kI)])] h
def HI.ok(a:(X5 G))(b:H)(c:H)(R:H->ad) w(h:Nw 166 a w λe d=>aQ 258 e 0 d λf=>dK c 0 d λg h(i:H)(j:H) k=>aw (j<258) (gu (.int .u8) f 258 j λ(l:H)=>aa ((i64 l) !=b) (g i (i64 (j+1)) k/\h i (i64 (j+1)) k<h i j k) (aa (i==0) (R j k) (g (i64 (i-1)) (i64 (j+1)) k/\h (i64 (i-1)) (i64 (j+1)) k<h i j k))) (R 0 k)):bE 299 [(.agg a),(ni b),(ni c)] w R:=co Tryz.f299 [(5,[(2,kI),(10,kI)])] h
end
end Go.Proofs.Q9
namespace Go.Srt
section
def dH(l:Q I):X4:=We (cc l=32768)&&We (0<l.getD 257 0)
def qJ{l:Q I}:dH l=J↔cc l=32768/\0<l.getD 257 0:=by simp[dH]
def DI(l:Q I)(n p:I):I:=((Zt l.length).find? λs=>(l.getD s 0==n)&&(lf l s==p)).getD 0
def Iu{l:Q I}{n p:I}(h:p<l.count n):DI l n p<l.length/\l.getD (DI l n p) 0=n/\lf l (DI l n p)=p:=by obtain⟨s,e,b,c⟩:=adU l n p h;unfold DI;cases hf:(Zt l.length).find? λs=>(l.getD s 0==n)&&(lf l s==p)with|none=>have:=List.find?_eq_none.1 hf s Ze;simp only[ZI,Wn]at this;exact Wi ⟨b,c⟩ this|some t=>have a:=Q.find?_some hf;have d:=Q.mem_of_find?_eq_some hf;simp only[ZI,Wn]at a;exact⟨by simpa using d,a⟩
def nv(l:Q I)(c b:I):Prop:=dH l=J/\b<15/\c<2^b/\fst l b+many l b<=c
def gX(l:Q I)(c b x:I):(I×I)×X7 I:=if fst l (b+1)+many l (b+1)<=2*c+x then((2*c+x,b+1),V)else((0,0),Z (DI l (b+1) (2*c+x-fst l (b+1))))
def nv.zero{l:Q I}(h:dH l=J):nv l 0 0:=⟨h,Zb,Zb,by simp[fst,many]⟩
def nv.ge{l:Q I}{c b:I}(h:nv l c b):fst l (b+1)<=2*c:=by rw[fst];have:=h.2.2.2;omega
def agY{l:Q I}(h:dH l=J):fst l 15+many l 15=32768:=by have b:=EP l 15 Zb;have a:=abr (l:=l) (by rw[(qJ.1 h).1];decide);rw[(qJ.1 h).1]at a;rw[low]at a;omega
def nv.next{l:Q I}{c b x:I}(h:nv l c b)(e:x<=1):nv l (gX l c b x).1.1 (gX l c b x).1.2:=by unfold gX;split;{rename_i a;have f:(2:I)^(b+1)=2*2^b:=by{rw[Yx,Yb]};have g:=h.2.2.1;refine⟨h.1,?_,by show 2*c+x<2^(b+1);omega,a⟩;(rcases Yc (b+1) 15 with d|d);{exact d};have:b=14:=by{have:=h.2.1;omega};subst this;have:=agY h.1;have:(2:I)^14=16384:=by{decide};simp only[Z5]at a;omega};exact nv.zero h.1
def q8{l:Q I}{c b x s:I}(j:l.length=258)(h:nv l c b)(k:x<=1)(a:(gX l c b x).2=Z s):s<258/\l.getD s 0=b+1/\code l s=2*c+x/\b<15:=by unfold gX at a;split at a;{cases a};rename_i m;have f:s=DI l (b+1) (2*c+x-fst l (b+1)):=by{injection a with a;exact a.symm};have g:=h.ge;have o:many l (b+1)=l.count (b+1):=by{unfold many;rw[K Za]};obtain⟨i,d,e⟩:=Iu (l:=l) (n:=b+1) (p:=2*c+x-fst l (b+1)) Za;rw[<-f]at i d e;refine⟨Za,d,?_,h.2.1⟩;unfold code;rw[d,e];omega
def VS{l:Q I}{c b x:I}(a:(gX l c b x).2=V):(gX l c b x).1=(2*c+x,b+1):=by unfold gX at a⊢;split;{rfl};grind
def TR{l:Q I}{c b x s:I}(a:(gX l c b x).2=Z s):(gX l c b x).1=(0,0):=by unfold gX at a⊢;split;{grind};rfl
def B7{l:Q I}(a:l.length<=258):∀n,fst l n+516<=516*2^n|0=>by simp[fst]|n+1=>by have:=B7 a n;have b:many l n<=258:=by{unfold many;split;{omega};grind};rw[fst,Yx];omega
def DV{l:Q I}(a:l.length<=258)(n:I):many l n<=258:=by unfold many;split;{omega};grind
end
end Go.Srt
namespace Go.Proofs.Q9
section
open Go Go.Vc Go.Srt
section
variable{E w:X0}{F:Q HP}
def IW{l:Q I}{i:I}{k:Wl}(h:i<l.length):(ai k l)[((i:I):H).toNat]?=Z (Sc.enc (.int k) (l.getD i 0:H)):=by rw[Zi,j9 h,fN h]
def Qo{l:Q I}{K:X4->ad}(h:Hp E w F)(a:l.length=258)(d:bu E F (K (We (cc l=32768)))):aD 337 [.agg (ai .u8 l)] w K:=by refine E2.ok _ _ _ (Nw.mk h λb f c=>Ld.arr c (by rw[bG,a]) (Cr c a λg e=>?_));have:((cc l:H)==32768)=We (cc l=32768):=by{rw[Yj];simp;omega};rw[this];exact d _ e.drop
def zP{l:Q I}{K:X4->ad}(h:Hp E w F)(d:l.length=258)(e:bu E F (K (dH l))):aD 282 [.agg (ai .u8 l)] w K:=by refine MC.ok _ _ _ (Nw.mk h λb g f=>Ld.arr f (by rw[bG,d]) (Qo f d λj a=>aa.mk (λc=>?_) λc=>?_));{refine aX.rd (s:=.int .u8) a Zb Zb (l.getD 257 0:H) (IW (i:=257) Za) ?_;have:We ((l.getD 257 0:H)>0)=dH l:=by{unfold dH;rw[c,X4.true_and,Yj,Wo,Wo];omega};rw[this];exact e _ a.drop};have:U=dH l:=by{unfold dH;rw[c,X4.false_and]};rw[this];exact e _ a.drop
abbrev k16:Q Sc:=Fw
def t16(f:I->H):TT k16:=(f 0,f 1,f 2,f 3,f 4,f 5,f 6,f 7,f 8,f 9,f 10,f 11,f 12,f 13,f 14,f 15,())
def ahe(f:I->H):fZ 16 f=⟨aA k16 (t16 f)⟩:=O
def agd(f:I->H):∀v∈[(ni (f 0):G),ni (f 1),ni (f 2),ni (f 3),ni (f 4),ni (f 5),ni (f 6),ni (f 7),ni (f 8),ni (f 9),ni (f 10),ni (f 11),ni (f 12),ni (f 13),ni (f 14),ni (f 15)],aL v=J:=by intro v a;simp only[YT,Xf,or_false]at a;rcases a with rfl|rfl|rfl|rfl|rfl|rfl|rfl|rfl|rfl|rfl|rfl|rfl|rfl|rfl|rfl|rfl<;>rfl
def DA:(⟨Zh 16 (ni 0)⟩:X5 G)=fZ 16 λ_=>0:=O
theorem UF{l:Q I}{K:TT k16->ad}(h:Hp E w F)(o:l.length=258)(m:∀x∈l,x<=15)(q:bu E F (K (t16 λj=>(l.count j:H)))):ah [.st k16] 351 [.agg (ai .u8 l)] w K:=by refine KO.ok _ _ _ ?_;rw[DA];refine Nw.mk h λb z r=>Nw.mk r λu A p=>Ld.arr p.p1 (by rw[bG,o]) ?_;refine⟨λi w'=>∃k:I,i=(k:H)/\k<=258/\Hp E w' (aq u (.cells (fZ 16 λj=>((l.take k).count j:H)) 436 (0,0))::F),λi _=>258-i.toNat,⟨0,O,Za,?_⟩,?_⟩;{have:=p.p1.drop;rwa [jT (g:=λj=>((l.take 0).count j:H)) λi _=>Zd]at this};rintro i w' ⟨k,rfl,hk,hh⟩;refine aa.mk (λf=>?_) λa=>?_;{have f:k<258:=by{have:=X9 f;omega};have c:k<l.length:=by{omega};have n:∀x,(l.take k).count x<=258:=λx=>Z9 Q.count_le_length Ze;refine gu.rd (s:=.int .u8) Za Za (l[k]:H) (by rw[Zi];exact j9 c) ?_;have v:=m _ (Zs c);rw[af (x:=(l[k]:H)) Za];refine aa.t (Wd Za) ?_;refine aX.rd (s:=.int .i64) hh Za Za ((l.take k).count l[k]:H) (by rw[Zi];exact AN Za) ?_;have:=n l[k];refine aX.wr hh Za Za ga O λy d=>?_;rw[af Za,Zi,wU]at d;rw[af Za];refine⟨⟨k+1,O,Za,?_⟩,by dsimp only;omega⟩;rw[jT (g:=λj=>((l.take (k+1)).count j:H))]at d;{exact d};intro j B;rw[gj c];by_cases e:j=l[k];{grind};grind};have a:k=258:=by{have:=X8 a;omega};subst a;rw[<-o,Z0]at hh;refine Ld.wc hh (t16 λj=>(l.count j:H)) (ahe _) (aB.aF hh (by rw[ga];rfl) (agd λj=>(l.count j:H)) λy d=>?_);exact Ld.wc d (t16 λj=>(l.count j:H)) O (q _ d.drop)
def FX{l:Q I}{n:I}{K:H->H->ad}(h:Hp E w F)(r:l.length=258)(p:∀x∈l,x<=15)(D:n<=15)(A:bu E F (K (Srt.fst l n:H) (many l n:H))):ah [kI,kI] 298 [.agg (ai .u8 l),ni (n:H)] w K:=by refine CZ.ok _ _ _ _ (Nw.mk h λb G q=>Ld.arr q (by rw[bG,r]) (UF q.drop r p λL t=>?_));rw[DA];refine Nw.mk t λu M v=>aB.aF v (by rw[ga];rfl) (agd λj=>(l.count j:H)) λB o=>?_;have o:Hp E B (aq u (.cells (fZ 16 λj=>(l.count j:H)) 436 (0,0))::F):=o;refine aX.wr o Zb Zb ga O λN y=>?_;rw[show(0:H).toNat=0 from O,wU,jT (g:=λj=>(many l j:H)) λi _=>by unfold many;by_cases e:i=0<;>simp[e]]at y;refine⟨λc m w'=>∃k:I,m=(k:H)+1/\k<=n/\c=(Srt.fst l k:H)/\Hp E w' (aq u (.cells (fZ 16 λj=>(many l j:H)) 436 (0,0))::F),λ_ m _=>18-m.toNat,⟨0,O,Za,O,y⟩,?_⟩;rintro c m w' ⟨k,rfl,hk,rfl,hh⟩;refine aa.mk (λf=>?_) λd=>?_;{have f:k<n:=by{have:=X9 f;omega};rw[af (x:=(k:H)+1-1) Za,show(k:H)+1-1=(k:H) by omega];refine aX.rd (s:=.int .i64) hh Za Za (many l k:H) (by rw[Zi];exact AN Za) ?_;have q:=B7 (l:=l) Za k;have t:=DV (l:=l) Za k;have v:(2:I)^k<=2^15:=ZT Zb Za;have o:(2:I)^15=32768:=by{decide};rw[af (x:=(Srt.fst l k:H)+(many l k:H)) Za,af (x:=(k:H)+1+1) Za];have e:=dO (k:=.i64) (a:=Srt.fst l k+many l k) (b:=1) Zb (by have:YR .i64=9223372036854775807:=O;omega);have C:bH .i64 ((Srt.fst l k:H)+(many l k:H)) 1=(Srt.fst l (k+1):H):=by{rw[show(Srt.fst l k:H)+(many l k:H)=((Srt.fst l k+many l k:I):H) by omega,show(1:H)=((1:I):H)from O,e,Srt.fst];omega};rw[C];exact⟨Zb,⟨k+1,Za,Za,O,hh⟩,by dsimp only;omega⟩};have d:k=n:=by{have:=X8 d;omega};subst d;refine aM.mk hh λP z=>aX.rd (s:=.int .i64) z Za Za (many l k:H) (by rw[Zi];exact AN Za) (A _ z.drop)
theorem afX{l:Q I}{n p:I}{K:H->ad}(h:Hp E w F)(r:l.length=258)(j:∀x∈l,x<=15)(t:p<l.count n)(u:bu E F (K (DI l n p:H))):bE 299 [.agg (ai .u8 l),ni (n:H),ni (p:H)] w K:=by refine HI.ok _ _ _ _ _ ?_;have m:=Iu t;refine Nw.mk h λb A o=>Ld.arr o (by rw[bG,r]) ?_;have v:l.count n<=258:=Z9 Q.count_le_length Za;refine⟨λq i w'=>∃k:I,i=(k:H)/\k<=258/\(l.take k).count n<=p/\q=(p:H)-((l.take k).count n:H)/\Hp E w' F,λ_ i _=>258-i.toNat,⟨0,O,Za,Zd,Zd,o.drop⟩,?_⟩;rintro q i w' ⟨k,rfl,hk,hc,rfl,hh⟩;refine aa.mk (λf=>?_) λy=>?_;{have f:k<258:=by{have:=X9 f;omega};have a:k<l.length:=by{omega};have z:=j _ (Zs a);have g:=gj a n;refine gu.rd (s:=.int .u8) Za Za (l[k]:H) (by rw[Zi];exact j9 a) ?_;rw[af (x:=(l[k]:H)) Za,af (x:=(k:H)+1) Za];refine aa.mk (λc=>?_) λd=>aa.mk (λe=>?_) λe=>?_;{have c:l[k]≠n:=by{rw[bne_iff_ne]at c;omega};rw[Wa c]at g;exact⟨⟨k+1,O,Za,Za,Za,hh⟩,by dsimp only;omega⟩};{have d:l[k]=n:=by{have:=bne_eq_false_iff_eq.1 d;omega};have e:(l.take k).count n=p:=by{rw[Wn]at e;omega};have:k=DI l n p:=by{refine I3 a m.1 Ze ?_;rw[m.2.2];unfold lf;rw[fN a,d,e]};rw[this];exact u _ hh};have d:l[k]=n:=by{have:=bne_eq_false_iff_eq.1 d;omega};have e:(l.take k).count n≠p:=by{have:=beq_eq_false_iff_ne.1 e;omega};rw[X3 d]at g;rw[af Za];exact⟨⟨k+1,O,Za,Za,Za,hh⟩,by dsimp only;omega⟩};grind
def fD(l:Q I)(c b:I):X5 G:=⟨(l.map λ(n:I)=>Yv .u8 (n:H))++[ni (c:H),ni (b:H)]⟩
def dp{l:Q I}{c b:I}(a:l.length=258):(fD l c b).size=260:=by simp[fD,a]
def ez{l:Q I}{c b:I}:∀v∈(fD l c b).toList,aL v=J:=by intro v a;unfold fD at a;simp only[XA,Q.mem_map,YT,Xf,or_false]at a;rcases a with⟨n,_,rfl⟩|rfl|rfl<;>rfl
def iB(l:Q I)(c b:I):fD l c b=⟨[]++(l.map λ(n:I)=>Yv .u8 (n:H))++[ni (c:H),ni (b:H)]⟩:=O
def zR{l:Q I}{c b:I}(a:l.length=258):(fD l c b)[258]?=Z (Sc.enc (.int .i64) (c:H)):=by unfold fD;rw[Q.getElem?_toArray,ZN (by simp[a])];simp[a]
def wN{l:Q I}{c b:I}(a:l.length=258):(fD l c b)[259]?=Z (Sc.enc (.int .i64) (b:H)):=by unfold fD;rw[Q.getElem?_toArray,ZN (by simp[a])];simp[a]
def Kq:(⟨Zh 258 (au 0)++[ni 0,ni 0]⟩:X5 G)=fD (Zh 258 0) 0 0:=by unfold fD;rw[Q.map_replicate];rfl
def Bn(a:Q (I×G)):Tryz.prog.built 170 a=YU (#[(0,258),(258,1),(259,1)][·]?) ⟨Zh 258 (au 0)++[ni 0,ni 0]⟩ a:=Zc
def KW{l:Q I}(a:l.length=258)(rest:Q (I×G)):YU (#[(0,258),(258,1),(259,1)][·]?) ⟨Zh 258 (au 0)++[ni 0,ni 0]⟩ ((0,.agg (ai .u8 l))::rest)=YU (#[(0,258),(258,1),(259,1)][·]?) (fD l 0 0) rest:=by have:=lg (place:=(#[(0,258),(258,1),(259,1)][·]?)) (i:=0) (v:=.agg (ai .u8 l)) (rest:=rest) (pre:=[]) (bx:=Zh 258 (au 0)) (post:=[ni 0,ni 0]) O O ZP (by show(ai .u8 l).size=_;rw[bG,a]);exact this
def afe{l:Q I}{c a b:I}(d:l.length=258)(rest:Q (I×G)):YU (#[(0,258),(258,1),(259,1)][·]?) (fD l a b) ((1,ni (c:H))::rest)=YU (#[(0,258),(258,1),(259,1)][·]?) (fD l c b) rest:=by have:=lg (place:=(#[(0,258),(258,1),(259,1)][·]?)) (i:=1) (v:=ni (c:H)) (rest:=rest) (pre:=l.map λ(n:I)=>Yv .u8 (n:H)) (bx:=[ni (a:H)]) (post:=[ni (b:H)]) O (by simp[d]) O O;unfold fD;rw[show(l.map λ(n:I)=>Yv .u8 (n:H))++[ni (a:H),ni (b:H)]=(l.map λ(n:I)=>Yv .u8 (n:H))++[ni (a:H)]++[ni (b:H)] by simp,this];congr 2;simp[G.cells]
def afA{l:Q I}{c a b:I}(d:l.length=258)(rest:Q (I×G)):YU (#[(0,258),(258,1),(259,1)][·]?) (fD l c a) ((2,ni (b:H))::rest)=YU (#[(0,258),(258,1),(259,1)][·]?) (fD l c b) rest:=by have:=lg (place:=(#[(0,258),(258,1),(259,1)][·]?)) (i:=2) (v:=ni (b:H)) (rest:=rest) (pre:=(l.map λ(n:I)=>Yv .u8 (n:H))++[ni (c:H)]) (bx:=[ni (a:H)]) (post:=[]) O (by simp[d]) O O;unfold fD;rw[show(l.map λ(n:I)=>Yv .u8 (n:H))++[ni (c:H),ni (a:H)]=(l.map λ(n:I)=>Yv .u8 (n:H))++[ni (c:H)]++[ni (a:H)]++[] by simp,this];congr 2;simp[G.cells]
def eu.st0{l:Q I}{K:X5 G->Prop}(a:l.length=258)(b:K (fD l 0 0)):eu Zj 170 [(0,.agg (ai .u8 l))] K:=⟨fD l 0 0,by rw[Bn,KW a];rfl,b⟩
def eu.st3{l:Q I}{c b:I}{K:X5 G->Prop}(a:l.length=258)(d:K (fD l c b)):eu Zj 170 [(0,.agg (ai .u8 l)),(1,ni (c:H)),(2,ni (b:H))] K:=⟨fD l c b,by rw[Bn,KW a,afe a,afA a];rfl,d⟩
def eu.stZ{K:X5 G->Prop}(a:K (fD (Zh 258 0) 0 0)):eu Zj 170 [] K:=⟨_,Bn [],by rw[Kq];exact a⟩
def abO{l:Q I}{K:X5 G->H->ad}(h:Hp E w F)(a:l.length=258)(e:dH l=U->∀w',Hp E w' F->K (fD (Zh 258 0) 0 0) 2 w')(f:dH l=J->∀w',Hp E w' F->K (fD l 0 0) 0 w'):ah [.arr 260,kI] 217 [.agg (ai .u8 l)] w K:=by refine G4.ok _ _ _ ?_;rw[Kq];have d:(fD (Zh 258 0) 0 0).size=260:=dp ZP;refine Nw.mk h λb n k=>Nw.mk k λo p j=>Ld.arr j.p1 (by rw[bG,a]) (zP j a λq g=>aa.mk (λi=>?_) λi=>?_);{exact eu.stZ (aH.aF g d d ez λm c=>Ld.arr c d (e (by simpa using i) _ c.drop.drop))};exact Ld.arr g.p1 (by rw[bG,a]) (eu.st0 a (aH.aF g d (dp a) ez λm c=>Ld.arr c (dp a) (f (by simpa using i) _ c.drop.drop)))
def af9{l:Q I}(h:dH l=J):∀x∈l,x<=15:=λx a=>by obtain⟨i,b,rfl⟩:=ZY a;have:=kz (l:=l) (by rw[(qJ.1 h).1];decide) i;rwa [fN b]at this
def SK{l:Q I}{c b:I}{K:X4->ad}(h:Hp E w F)(d:l.length=258)(q:b<15)(o:c<2^b)(j:bu E F (K (dH l&&We (Srt.fst l b+many l b<=c)))):aD 297 [.agg (fD l c b)] w K:=by refine Dh.ok _ _ _ ?_;simp only[bN,ao,Zk];refine Nw.mk h λr t k=>?_;rw[iB]at k;have i:(l.map λ(n:I)=>Yv .u8 (n:H)).length=258:=by{simp[d]};refine Ld.sub k O i (zP k d λu a=>aa.mk (λg=>?_) λg=>?_);{have g:dH l=U:=by{simpa using g};rw[g,X4.false_and]at j;exact j _ a.drop};have g:dH l=J:=by{simpa using g};rw[g,X4.true_and]at j;rw[<-iB]at a;have v:(2:I)^b<=2^15:=ZT Zb Za;have p:(2:I)^15=32768:=Zb;refine Ld.aF (s:=.int .i64) a (b:H) (wN d) (aa.f (Wf Za) ?_);refine Ld.aF (s:=.int .i64) a (b:H) (wN d) (aa.f (Wf Za) ?_);refine Ld.aF (s:=.int .i64) a (c:H) (zR d) (aa.f (Wf Za) ?_);refine Ld.aF (s:=.int .i64) a (c:H) (zR d) (Ld.aF (s:=.int .i64) a (b:H) (wN d) ⟨Za,?_⟩);rw[cJ (by have:Wl.bits .i64=64:=O;omega),Xi o];refine aa.f Zb ?_;rw[iB]at a;refine Ld.sub a O i ?_;rw[<-iB]at a;refine Ld.aF (s:=.int .i64) a (b:H) (wN d) (FX a d (af9 g) Za λx m=>Ld.aF (s:=.int .i64) m (c:H) (zR d) ?_);have k:=B7 (l:=l) Za b;have a:=DV (l:=l) Za b;rw[af Za];have e:We ((c:H)>=(Srt.fst l b:H)+(many l b:H))=We (Srt.fst l b+many l b<=c):=by{rw[Yj,Wo,Wo];omega};rw[e];exact j _ m.drop
theorem SX{c x:I}(f:x<=1)(g:c<16384):js .i64 (bH .i64 (c:H) 1) (x:H)=((2*c+x:I):H):=by have h:YR .i64=9223372036854775807:=O;have e:=dO (k:=.i64) (a:=c) (b:=1) Zb Za;have d:c*2^1|||x=2*c+x:=by{have:=Y7 (i:=1) (b:=x) Za c;rw[Yb c,<-this,Yb]};rw[show(1:H)=((1:I):H)from O,e,mM Za Za Ze,d]
def JW{l:Q I}{c b x:I}{K:X5 G->H->X4->ad}(h:Hp E w F)(a:l.length=258)(j:nv l c b)(B:x<=1)(m:∀w',Hp E w' F->K (fD l (gX l c b x).1.1 (gX l c b x).1.2) (((gX l c b x).2.getD 0:I):H) (gX l c b x).2.isSome w'):ah [.arr 260,kI,kB] 219 [.agg (fD l c b),ni (x:H)] w K:=by refine D6.ok _ _ _ _ ?_;simp only[bN,ao,Zk];rw[Kq];have C:(fD (Zh 258 0) 0 0).size=260:=dp ZP;have d:(l.map λ(n:I)=>Yv .u8 (n:H)).length=258:=by{simp[a]};have hp:(2:I)^b<=2^14:=ZT Zb (by have:=j.2.1;omega);have D:(2:I)^14=16384:=Zb;have L:=j.2.2.1;have M:=j.2.1;have k:=af9 j.1;refine Nw.mk h λb4 w1 N=>Nw.mk N λb6 w2 A=>?_;have P:aZ .i64 (x:H) 1=0:=by{rw[show(1:H)=((1:I):H)from O,cJ Zb];omega};rw[P];refine⟨Zb,aa.f Zb ?_⟩;refine Ld.arr A.p1 (dp a) (SK A a M L λw3 u=>?_);refine aa.f (by rw[j.1,Wd j.2.2.2];rfl) ?_;have o:=u.p1;rw[iB l c b]at o;refine Ld.sub o O d (Ld.aF (s:=.int .i64) u.p1 (c:H) (zR a) ⟨Zb,Ld.aF (s:=.int .i64) u.p1 (b:H) (wN a) ?_⟩);rw[SX B Za,af (x:=(b:H)+1) Za];refine eu.st3 (b:=b+1) a (aH.aF u C (dp a) ez λw4 z=>?_);have p:=z;rw[iB l (2*c+x) (b+1)]at p;refine Ld.sub p O d (Ld.aF (s:=.int .i64) z ((b+1:I):H) (wN a) (FX z a k Za λw5 v=>Ld.aF (s:=.int .i64) v ((2*c+x:I):H) (zR a) ?_));have hf:=B7 (l:=l) Za (b+1);have hm:=DV (l:=l) Za (b+1);have R:(2:I)^(b+1)=2*2^b:=by{rw[Yx,Yb]};rw[af Za];by_cases hcase:Srt.fst l (b+1)+many l (b+1)<=2*c+x;{refine aa.t (Wd Za) (Ld.arr v (dp a) (aH.aF v (dp a) (dp a) ez λS i=>Ld.arr i (dp a) ?_));have e:gX l c b x=((2*c+x,b+1),V):=by{unfold gX;rw[X3 hcase]};rw[e]at m;exact m _ i.drop.drop};refine aa.f (Wf Za) ?_;have e:gX l c b x=((0,0),Z (DI l (b+1) (2*c+x-Srt.fst l (b+1)))):=by{unfold gX;rw[Wa hcase]};rw[e]at m;have T:=j.ge;have W:many l (b+1)=l.count (b+1):=by{unfold many;rw[Wa Za]};refine aM.mk v λS i=>?_;have q:=i;rw[iB l (2*c+x) (b+1)]at q;refine Ld.sub q O d (Ld.aF (s:=.int .i64) i ((b+1:I):H) (wN a) (Ld.aF (s:=.int .i64) i ((2*c+x:I):H) (zR a) ?_));rw[af (x:=((2*c+x:I):H)-(Srt.fst l (b+1):H)) Za,show((2*c+x:I):H)-(Srt.fst l (b+1):H)=((2*c+x-Srt.fst l (b+1):I):H) by omega];constructor;{have g:=i.p1;rw[iB l c b]at g;refine Ld.sub g O d (eu.st0 a (afX i a k Za λX y=>?_));exact aH.aF y (dp a) (dp a) ez λY r=>Ld.arr r (dp a) (m _ r.drop.drop)};refine afX i a k Za λX y=>?_;have g:=y.p1;rw[iB l c b]at g;refine Ld.sub g O d (eu.st0 a ?_);exact aH.aF y (dp a) (dp a) ez λY r=>Ld.arr r (dp a) (m _ r.drop.drop)
end
end
end Go.Proofs.Q9
namespace Go.Srt
section
def oV(l:Q I)(z:H):X4:=We (0<=z)&&We (z<258)&&We (0<l.getD z.toNat 0)
def pO(l:Q I)(zs:Q H):X4:=zs.all (oV l)
def nu(l:Q I)(zs:Q H):Q I:=enc l (zs.map H.toNat)
def ze{l:Q I}{z:H}:oV l z=J↔0<=z/\z<258/\0<l.getD z.toNat 0:=by simp[oV,and_assoc]
def Js{l:Q I}{zs:Q H}(h:pO l zs=J){z:H}(a:z∈zs):oV l z=J:=List.all_eq_true.1 h z a
def T0{l:Q I}{zs:Q H}{k:I}(a:k<zs.length)(h:oV l zs[k]=U):pO l zs=U:=by cases ha:pO l zs with|false=>rfl|true=>have:=Js ha (Zs a);rw[h]at this;cases this
def GH{zs:Q H}{k:I}(a:k<zs.length):zs.take (k+1)=zs.take k++[zs[k]]:=by rw[Zx,Zg a];rfl
def SY{l:Q I}{zs:Q H}{k:I}(a:k<zs.length)(h:pO l (zs.take k)=J)(b:oV l zs[k]=J):pO l (zs.take (k+1))=J:=by unfold pO at h⊢;rw[GH a,XY,h];simp[b]
def FI{l:Q I}{zs:Q H}{k:I}(a:k<zs.length):nu l (zs.take (k+1))=nu l (zs.take k)++HZ l zs[k].toNat:=by unfold nu;rw[GH a,ZD,adx];congr 1;simp[enc]
def JN(l:Q I)(s:I):(HZ l s).length=l.getD s 0:=uy _ _
def qu{l:Q I}(a:cc l<=32768):∀zs:Q H,(nu l zs).length<=15*zs.length|[]=>by simp[nu,enc]|z::zs=>by have:=qu a zs;have b:=kz a z.toNat;unfold nu at this⊢;rw[ZV,IG,Zf,JN,Zo];omega
end
end Go.Srt
namespace Go.Proofs.Q9
section
open Go Go.Vc Go.Srt Go.Bits
section
variable{E w:X0}{F:Q HP}
def afU{l:Q I}{s:Sl}{zs:Q H}{K:H->H->ad}(h:Hp E w F)(y:l.length=258)(z:ae F (aN 1 s (zs.map vI)))(M:zs.length<=100000)(o:¬(cc l<=32768/\pO l zs=J)->∀w',Hp E w' F->K 0 2 w')(t:cc l<=32768->pO l zs=J->∀w',Hp E w' F->K ((nu l zs).length:H) 0 w'):ah [kI,kI] 209 [.agg (ai .u8 l),aj s] w K:=by refine EN.ok _ _ _ _ ?_;have u:=(h.ak z).1;simp only[Zl,Zw]at u;refine Nw.mk h λb N d=>Ld.arr d (by rw[bG,y]) (AX d y λB A=>aa.mk (λe=>o (λa=>by simp[a.1]at e) B A.drop) λe=>?_);have e:cc l<=32768:=by{simpa using e};refine⟨λn i w'=>∃k:I,i=(k:H)/\k<=zs.length/\n=((nu l (zs.take k)).length:H)/\pO l (zs.take k)=J/\Hp E w' (aq b (.cells (ai .u8 l) 166 (0,0))::F),λ_ i _=>zs.length-i.toNat,⟨0,O,Za,O,O,A⟩,?_⟩;rintro n i w' ⟨k,rfl,hk,rfl,hg,a⟩;refine aa.mk (λc=>?_) λf=>?_;{have c:k<zs.length:=by{have:=X9 c;omega};have g:oV l zs[k]=U->K 0 2 w':=λC=>o (λa=>by rw[T0 c C]at a;exact Wi a.2 Zb) w' a.drop;refine ay.rd (a.ak (ae.cons z)) Za Za λq P D=>Ld.sc (s:=.int .i64) zs[k] (by rw[D];simp[vI,Sc.enc]) ?_;refine aa.mk (λr=>g ?_) λr=>aa.mk (λd=>g ?_) λd=>?_;{have:=X9 r;unfold oV;rw[Wf (show¬0<=zs[k] by omega)];rfl};{have:=X9 d;unfold oV;rw[Wf (show¬zs[k]<258 by omega)];simp};have r:=X8 r;have d:=X8 d;obtain⟨m,G⟩:∃m:I,zs[k]=(m:H):=⟨zs[k].toNat,Za⟩;have j:zs[k].toNat=m:=by{omega};rw[G];refine aX.rd (s:=.int .u8) a Za Za (l.getD m 0:H) (IW Za) (aa.mk (λp=>g ?_) λp=>?_);{have:l.getD m 0=0:=by{rw[Wn]at p;omega};unfold oV;rw[j,this];simp};have p:0<l.getD m 0:=by{have:=beq_eq_false_iff_ne.1 p;omega};refine aX.rd (s:=.int .u8) a Za Za (l.getD m 0:H) (IW Za) ?_;have L:=kz e m;have v:=qu e (zs.take k);rw[Zy]at v;rw[af (x:=(l.getD m 0:H)) Za,af (x:=((nu l (zs.take k)).length:H)+(l.getD m 0:H)) Za,af Za];refine⟨⟨k+1,O,Za,?_,SY c hg (ze.2 ⟨Za,Za,by rw[j];exact p⟩),a⟩,by dsimp only;omega⟩;rw[FI c,Zf,JN,j];omega};have f:k=zs.length:=by{have:=X8 f;omega};subst f;rw[Z0]at hg⊢;exact t e hg w' a.drop
def afn{l:Q I}{s:Sl}{zs:Q H}{b:I}{a:Q I}{K:H->ad}(h:Hp E w (Wr b a::F))(g:l.length=258)(r:ae F (aN 1 s (zs.map vI)))(T:zs.length<=100000)(N:a.length<=100000000)(u:¬(cc l<=32768/\pO l zs=J)->∀w',Hp E w' (Wr b a::F)->K 2 w')(v:cc l<=32768->pO l zs=J->∀w',Hp E w' (Wr b (a++nu l zs)::F)->K 0 w'):bE 139 [bU b,.agg (ai .u8 l),aj s] w K:=by refine Hf.ok _ _ _ _ _ ?_;simp only[bN];have y:=(h.ak (ae.cons r)).1;simp only[Zl,Zw]at y;rw[Ec];refine Nw.mk h λW w1 P=>Ld.arr P (by rw[bG,g]) (afU P g (ae.cons (ae.cons r)) T (λz R o=>?_) λj S R o=>?_);{exact aa.f O (aa.t Zb (u z R o.drop))};refine aa.f O (aa.f Zb (Ld.arr o (by rw[bG,g]) (acH o g (λz=>Wi j z) λ_ p w3 A X=>?_)));refine Nw.mk X λB w4 Y=>aH.aF Y (by rw[bG];simp) (by rw[bG,fR]) kK λw5 h5=>?_;refine⟨λi w'=>∃k:I,i=(k:H)/\k<=zs.length/\Hp E w' (Wr b (a++nu l (zs.take k))::aq B (.cells (ai .u32 (gn l p p.length)) 256 (0,0))::aq W (.cells (ai .u8 l) 166 (0,0))::F),λi _=>zs.length-i.toNat,⟨0,O,Za,?_⟩,?_⟩;{rw[XJ];have e:nu l []=[]:=O;rw[e,ZF];exact h5.p2};rintro i w' ⟨k,rfl,hk,hh⟩;refine aa.mk (λc=>?_) λd=>?_;{have c:k<zs.length:=by{have:=X9 c;omega};refine ay.rd (hh.ak (ae.cons (ae.cons (ae.cons r)))) Za Za λq hq hc=>Ld.sc (s:=.int .i64) zs[k] (by rw[hc];simp[vI,Sc.enc]) ?_;obtain⟨g1,g2,C⟩:=ze.1 (Js S (Zs c));obtain⟨m,hm⟩:∃m:I,zs[k]=(m:H):=⟨zs[k].toNat,Za⟩;have n:zs[k].toNat=m:=by{omega};rw[n]at C;rw[hm];refine aM.mk hh λw6 D=>aX.rd (s:=.int .u32) D.p1 Za Za ((gn l p p.length).getD m 0:H) (IW (by rw[fR];omega)) ?_;refine aX.rd (s:=.int .u8) D.p2 Za Za (l.getD m 0:H) (IW Za) ?_;have G:=kz j m;rw[af (x:=(l.getD m 0:H)) Za,Qq g j A Za C,af (x:=(k:H)+1) Za];have L:=MU g j Za C;have hp:2^l.getD m 0<=2^15:=ZT Zb G;have hp2:(2:I)^15=32768:=by{decide};have M:=qu j (zs.take k);rw[Zy]at M;refine QD D Za L Za (by rw[Zf,aK];omega) λw7 h7=>⟨⟨k+1,Za,Za,?_⟩,by dsimp only;omega⟩;rw[FI c,n,<-Zm];exact h7};have d:k=zs.length:=by{have:=X8 d;omega};subst d;rw[Z0]at hh;exact v j S w' (hh.p1.drop.p1.drop)
end
end
end Go.Proofs.Q9
namespace Go.aq
section
open Go.Inc Go.Srt Go.Sym Go.Bits
structure CS where
 c:I
 n:I
 d:DS
 acc:Q I
def eI(l:Q I)(s:CS)(x:I):ui CS (Q I) I:=match eW l (2*s.c+x) (s.n+1)with|none=>.more ⟨2*s.c+x,s.n+1,s.d,s.acc⟩|some y=>match dj s.d y with|none=>.bad 160|some (_,t,true)=>.fin (s.acc++t)|some (a,t,false)=>.more ⟨0,0,a,s.acc++t⟩
def zQ{l:Q I}{s:CS}{x:I}(h:eW l (2*s.c+x) (s.n+1)=V):eI l s x=.more ⟨2*s.c+x,s.n+1,s.d,s.acc⟩:=by unfold eI;rw[h]
def zy{l:Q I}{s:CS}{x y:I}(h:eW l (2*s.c+x) (s.n+1)=Z y):eI l s x=match dj s.d y with|none=>.bad 160|some (_,t,true)=>.fin (s.acc++t)|some (a,t,false)=>.more ⟨0,0,a,s.acc++t⟩:=by unfold eI;rw[h]
section
variable{l:Q I}
theorem NP(g:l.length=258)(i:cc l<=32768){s:I}(j:nJ l s)(a acc:Q I)(d:DS):∀k m,m+k=l.getD s 0->0<k->run (eI l) ⟨code l s/2^(l.getD s 0-m),m,d,acc⟩ ((bn (l.getD s 0) (code l s)).drop m++a)=(match dj d s with|none=>.bad 160|some (_,t,true)=>.fin (acc++t) a|some (q,t,false)=>run (eI l) ⟨0,0,q,acc++t⟩ a)|0,_,_,h=>Za|k+1,m,x,_=>by have u:=kz i s;have r:=uy (l.getD s 0) (code l s);have f:m<(bn (l.getD s 0) (code l s)).length:=Za;rw[Zu f,ZR];have v:(bn (l.getD s 0) (code l s))[m]=code l s/2^(l.getD s 0-1-m)%2:=by{rw[<-Lr _ _ _ Za,fN f]};have n:2*(code l s/2^(l.getD s 0-m))+(bn (l.getD s 0) (code l s))[m]=code l s/2^(l.getD s 0-(m+1)):=by{rw[v,show l.getD s 0-m=(l.getD s 0-1-m)+1 by omega,Yx,<-I.div_div_eq_div_mul,show l.getD s 0-(m+1)=l.getD s 0-1-m by omega];omega};by_cases e:k=0;{subst e;have w:m+1=l.getD s 0:=by{omega};have o:eW l (2*(code l s/2^(l.getD s 0-m))+(bn (l.getD s 0) (code l s))[m]) (m+1)=Z s:=by{rw[n,w,XD,I.pow_zero,I.div_one,Cb g j]};have c:=zy (s:=⟨code l s/2^(l.getD s 0-m),m,d,acc⟩) o;rw[du,c,ZU Za,ZS];cases hd:dj d s with|none=>rfl|some p=>obtain⟨q,t,b⟩:=p;cases b<;>rfl};have o:eW l (2*(code l s/2^(l.getD s 0-m))+(bn (l.getD s 0) (code l s))[m]) (m+1)=V:=by{rw[n,S9 g i j Za]};have c:=zQ (s:=⟨code l s/2^(l.getD s 0-m),m,d,acc⟩) o;rw[dv c];simp only;rw[n];exact NP g i j a acc d k (m+1) Za Za
theorem aeF(c:l.length=258)(e:cc l<=32768){s:I}(b:nJ l s)(a acc:Q I)(d:DS):run (eI l) ⟨0,0,d,acc⟩ (HZ l s++a)=match dj d s with|none=>.bad 160|some (_,t,true)=>.fin (acc++t) a|some (f,t,false)=>run (eI l) ⟨0,0,f,acc++t⟩ a:=by have h:=NP c e b a acc d (l.getD s 0) 0 Za b.2;have g:=MU c e b.1 b.2;rw[Xn,Xi g,YM]at h;exact h
theorem Rn(g:l.length=258)(i:cc l<=32768):∀(c a acc:Q I)(d:DS),(∀s∈c,nJ l s)->run (eI l) ⟨0,0,d,acc⟩ (enc l c++a)=(match run mh (d,acc) c with|.bad e=>.bad e|.fin t r=>.fin t (enc l r++a)|.short (f,acc')=>run (eI l) ⟨0,0,f,acc'⟩ a)|[],a,acc,d,_=>rfl|s::c,a,acc,d,h=>by rw[IG,Zm,aeF g i (h s Zd),du];cases hd:dj d s with|none=>rw[adN hd]|some p=>obtain⟨f,t,b⟩:=p;cases b with|true=>rw[M5 hd]|false=>rw[BA hd];exact Rn g i c a _ f λt j=>h t (by simp[j])
end
end
end Go.aq
namespace Go.Tab
section
open Go.Inc
structure TS where
 l:Q I
 bits:I
 now:I
 way:I
def t0:TS:=⟨[],0,0,0⟩
def bQ(ok:Q I->X4)(s:TS)(b:I):ui TS (Q I) I:=if s.bits<4 then .more ⟨s.l,s.bits+1,2*s.now+b,s.way⟩else if s.bits=4 then if b=0 then if s.l.length+1<258 then .more ⟨s.l++[s.now],4,s.now,0⟩else if ok (s.l++[s.now])then .fin (s.l++[s.now])else .bad 100 else .more ⟨s.l,5,s.now,s.way⟩else if b=0 then if s.way≠2/\s.now<15 then .more ⟨s.l,4,s.now+1,1⟩else .bad 100 else if s.way≠1/\0<s.now then .more ⟨s.l,4,s.now-1,2⟩else .bad 100
def sa:I->Q I|0=>[]|k+1=>1::0::sa k
def kE:I->Q I|0=>[]|k+1=>1::1::kE k
def fF(a b:I):Q I:=(if b<a then kE (a-b)else sa (b-a))++[0]
def fY:I->Q I->Q I|_,[]=>[]|was,n::l=>fF was n++fY n l
def four(n:I):Q I:=[n/8%2,n/4%2,n/2%2,n%2]
def iP(l:Q I):Q I:=four (l.headD 0)++fY (l.headD 0) l
section
variable{ok:Q I->X4}
theorem NV:∀(k:I)(l:Q I)(a b:I)(r:Q I),b≠2->a+k<=15->∃c,run (bQ ok) ⟨l,4,a,b⟩ (sa k++r)=run (bQ ok) ⟨l,4,a+k,c⟩ r|0,l,a,b,r,_,_=>⟨b,O⟩|k+1,l,a,b,r,d,g=>by obtain⟨c,h⟩:=NV k l (a+1) 1 r Zb Za;refine⟨c,?_⟩;have e:bQ ok ⟨l,4,a,b⟩ 1=.more ⟨l,5,a,b⟩:=O;have f:bQ ok ⟨l,5,a,b⟩ 0=.more ⟨l,4,a+1,1⟩:=by{simp only[bQ];rw[K Zb,K Zb,X3 trivial,X3 ⟨d,Za⟩]};show run (bQ ok) ⟨l,4,a,b⟩ (1::0::(sa k++r))=_;rw[dv e,dv f,h,show a+1+k=a+(k+1) by omega]
theorem GF:∀(k:I)(l:Q I)(a b:I)(r:Q I),b≠1->k<=a->∃c,run (bQ ok) ⟨l,4,a,b⟩ (kE k++r)=run (bQ ok) ⟨l,4,a-k,c⟩ r|0,l,a,b,r,_,_=>⟨b,O⟩|k+1,l,a,b,r,d,g=>by obtain⟨c,h⟩:=GF k l (a-1) 2 r Zb Za;refine⟨c,?_⟩;have e:bQ ok ⟨l,4,a,b⟩ 1=.more ⟨l,5,a,b⟩:=O;have f:bQ ok ⟨l,5,a,b⟩ 1=.more ⟨l,4,a-1,2⟩:=by{simp only[bQ];rw[K Zb,K Zb,K Zb,X3 ⟨d,Za⟩]};show run (bQ ok) ⟨l,4,a,b⟩ (1::1::(kE k++r))=_;rw[dv e,dv f,h,show a-1-k=a-(k+1) by omega]
def acI(l:Q I)(a n:I)(r:Q I)(c:a<=15)(d:n<=15):∃b,run (bQ ok) ⟨l,4,a,0⟩ (fF a n++r)=run (bQ ok) ⟨l,4,n,b⟩ (0::r):=by unfold fF;rw[Zm];split;{obtain⟨b,h⟩:=GF (ok:=ok) (a-n) l a 0 ([0]++r) Zb Za;exact⟨b,by rw[h,show a-(a-n)=n by omega];rfl⟩};obtain⟨b,h⟩:=NV (ok:=ok) (n-a) l a 0 ([0]++r) Zb Za;exact⟨b,by rw[h,show a+(n-a)=n by omega];rfl⟩
theorem Lm:∀(m:Q I)(l:Q I)(a:I)(r:Q I),m≠[]->a<=15->(∀x∈m,x<=15)->l.length+m.length=258->ok (l++m)=J->run (bQ ok) ⟨l,4,a,0⟩ (fY a m++r)=.fin (l++m) r|[],_,_,_,h,_,_,_,_=>Wi O h|n::m,l,a,r,_,hw,hm,hl,hok=>by rw[fY,Zm];obtain⟨b,h⟩:=acI (ok:=ok) l a n (fY n m++r) hw (hm n ZM);rw[h];cases m with|nil=>refine mK ?_;simp only[Zo,ZG]at hl;simp only[bQ];rw[K Zb,X3 trivial,X3 trivial,K Za,X3 hok]|cons x m=>simp only[Zo]at hl;have c:bQ ok ⟨l,4,n,b⟩ 0=.more ⟨l++[n],4,n,0⟩:=by{simp only[bQ];rw[K Zb,X3 trivial,X3 trivial,X3 Za]};rw[dv c,Lm (x::m) (l++[n]) n r Zd (hm n ZM) (λy d=>hm y (Zz _ d)) Ze Ze,Zm];rfl
theorem Rv{l:Q I}(r:Q I)(d:l.length=258)(b:∀x∈l,x<=15)(a:ok l=J):run (bQ ok) t0 (iP l++r)=.fin l r:=by unfold iP;rw[Zm];have c:l.headD 0<=15:=by{cases l with|nil=>simp at d|cons x l=>exact b x ZM};have f:run (bQ ok) t0 (four (l.headD 0)++(fY (l.headD 0) l++r))=run (bQ ok) ⟨[],4,l.headD 0,0⟩ (fY (l.headD 0) l++r):=by{generalize l.headD 0=n at c⊢;have e:2*(2*(2*(2*0+n/8%2)+n/4%2)+n/2%2)+n%2=n:=by{omega};show run (bQ ok) ⟨[],4,2*(2*(2*(2*0+n/8%2)+n/4%2)+n/2%2)+n%2,0⟩ _=_;rw[e];rfl};rw[f];exact Lm l [] (l.headD 0) r Ze c b Ze a
end
end
end Go.Tab
namespace Go.aq
section
open Go.Inc Go.Srt Go.Sym Go.Bits Go.Tab Go.Hd Go.Crc Go.Bw
def br(b:Q I):Q I:=bitsOf b (8*b.length)
def cU(b:Q I):(br b).length=8*b.length:=Ps _ _
def AB(a b:Q I):br (a++b)=br a++br b:=by unfold br bitsOf;rw[Zf,I.mul_add,Q.range_add,ZD];congr 1;{refine ZX λi c=>?_;rw[YS]at c;unfold cq;rw[Yl,Yl,ZQ Za]};rw[YC];refine ZX λi c=>?_;simp only[XV];unfold cq;rw[Yl,Yl,ZN Za,show(8*a.length+i)/8-a.length=i/8 by omega,show(8*a.length+i)%8=i%8 by omega]
def kx(b:Q I):I:=8*((b.length+7)/8)-b.length
def N5(b:Q I):kx b<8:=by unfold kx;omega
def IM{b:Q I}(h:Bits b):br (pack b)=b++Zh (kx b) 0:=by unfold br bitsOf kx;rw[ot];refine YH λi=>?_;rw[ZZ];by_cases hi:i<8*((b.length+7)/8);{rw[Yh hi,Yq];unfold pack;rw[Ja h hi];by_cases hb:i<b.length;{grind};grind};grind
def body(l a:Q I):Q I:=iP l++enc l (syms a)
def pI(l x:Q I):Q I:=oy x.length (bY x.reverse) (cF x)++pack (body l (bC x.reverse))
def lG(left:Q I):X4:=(left.take (left.length%8)).all (·==0)
def nU(M:I)(a:Q I):Except I (Q I×Q I):=match run (bQ dH) t0 a with|.short _=>.error 50|.bad e=>.error e|.fin l more=>match run (eI l) ⟨0,0,⟨Zt 256,M,0,0⟩,[]⟩ more with|.short _=>.error 50|.bad e=>.error e|.fin last left=>.ok (last,left)
def dz(P b:I)(a:Q I):Except I (Q I):=if okB a P then(if cF (di a P).reverse=b then .ok (di a P).reverse else .error 250)else .error 170
def dC(n:I)(b:Q I):Except I (Q I×Q I):=match run (bq n) dP b with|.short _=>.error 50|.bad e=>.error e|.fin (.tail _) _=>.error 242|.fin (.aF M P sum) rest=>match nU M (br rest)with|.error e=>.error e|.ok (last,left)=>if lG left then(match dz P sum last with|.error e=>.error e|.ok x=>.ok (x,rest.drop (rest.length-left.length/8)))else .error 160
def H2:∀k,Bits (sa k)|0=>(λx a=>by cases a)|k+1=>λx a=>by(rcases List.mem_cons.1 a with h|h);{omega};(rcases List.mem_cons.1 h with h|h);{omega};exact H2 k x h
def CL:∀k,Bits (kE k)|0=>(λx a=>by cases a)|k+1=>λx a=>by(rcases List.mem_cons.1 a with h|h);{omega};(rcases List.mem_cons.1 h with h|h);{omega};exact CL k x h
def aaA(a b:I):Bits (fF a b):=by unfold fF;refine Bits.app ?_ (λx c=>by rw[ZC]at c;omega);split;{exact CL _};exact H2 _
def FV:∀(m:Q I)(a:I),Bits (fY a m)|[],_=>(λx b=>by cases b)|n::m,a=>Bits.app (aaA a n) (FV m n)
def Gx(l:Q I):Bits (iP l):=Bits.app (λx a=>by simp[four]at a;omega) (FV _ _)
def Gz(l a:Q I):Bits (body l a):=Bits.app (Gx l) (V8 _ _)
section
variable{l:Q I}
structure ta (l last:Q I):Prop where
 len:l.length=258
 ok:dH l=J
 good:∀s∈syms last,nJ l s
def ta.v{a:Q I}(h:ta l a):cc l<=32768:=by rw[(qJ.1 h.ok).1];decide
def JV(h:dH l=J):∀x∈l,x<=15:=λx a=>by obtain⟨i,b,rfl⟩:=List.mem_iff_getElem.1 a;have:=kz (l:=l) (by rw[(qJ.1 h).1];decide) i;rwa [fN b]at this
def aci{a:Q I}(b:ta l a)(c:bP a)(r:Q I):run (eI l) ⟨0,0,⟨Zt 256,a.length,0,0⟩,[]⟩ (enc l (syms a)++r)=.fin a r:=by rw[Rn b.len b.v _ _ _ _ b.good];have:=Sx c [];rw[ZF]at this;rw[this];simp[enc]
def Rr{a:Q I}(b:ta l a)(c:bP a)(r:Q I):nU a.length (body l a++r)=.ok (a,r):=by unfold nU body;rw[Zm,Rv _ b.len (JV b.ok) b.ok];simp only;rw[aci b c]
theorem L7{n M P b:I}(c:0<M)(d:M<=n)(f:0<P)(g:P<=M)(h:b<4294967296)(a:Q I):dC n (oy M P b++a)=match nU M (br a)with|.error e=>.error e|.ok (last,left)=>if lG left then(match dz P b last with|.error e=>.error e|.ok x=>.ok (x,a.drop (a.length-left.length/8)))else .error 160:=by unfold dC;rw[FU c d f g h]
def SF(b:Q I)(z:Q I):lG (Zh (kx b) 0++br z)=J:=by unfold lG;have:=N5 b;rw[Zf,ZP,cU,show(kx b+8*z.length)%8=kx b by omega,Q.take_append_of_le_length Zd,Zr Zd];simp
theorem MK{n P sum:I}{a:Q I}(b:ta l a)(c:bP a)(d:0<a.length)(f:a.length<=n)(g:0<P)(h:P<=a.length)(i:sum<4294967296)(z:Q I):dC n (oy a.length P sum++pack (body l a)++z)=match dz P sum a with|.error e=>.error e|.ok x=>.ok (x,z):=by rw[Zm,L7 d f g h i,AB,IM (Gz _ _),Zm,Rr b c];simp only;rw[X3 (SF _ z)];have:=N5 (body l a);have e:(pack (body l a)++z).drop ((pack (body l a)++z).length-(Zh (kx (body l a)) 0++br z).length/8)=z:=by{rw[Zf,Zf,ZP,cU,show(kx (body l a)+8*z.length)/8=z.length by omega,I.add_sub_cancel,Q.drop_left]};rw[e]
def yF{t:Q I}(h:0<t.length):0<bY t/\bY t<=t.length:=by refine⟨?_,mI t⟩;(rcases Yd (bY t)with e|e);{have:=qz (t:=t) (i:=0) (k:=t.length) Za Za (by rw[Oc];exact e);omega};exact e
def Mj(x:Q I):dz (bY x.reverse) (cF x) (bC x.reverse)=.ok x:=by obtain⟨a,b⟩:=SC x.reverse;unfold dz;rw[X3 a,b,Q.reverse_reverse,X3 O]
theorem PR{n:I}{x:Q I}(b:ta l (bC x.reverse))(c:∀y∈bC x.reverse,y<256)(d:bP x)(f:0<x.length)(g:x.length<=n)(z:Q I):dC n (pI l x++z)=.ok (x,z):=by have e:(bC x.reverse).length=x.length:=by{rw[eK,Z7]};have a:=yF (t:=x.reverse) Ze;rw[Z7]at a;have:=MK (n:=n) (P:=bY x.reverse) (sum:=cF x) b c Za Za a.1 Za (pj d) z;rw[e,Mj]at this;exact this
end
end
end Go.aq
namespace Go.Stm
section
open Go.Inc Go.Srt Go.Sym Go.Bits Go.Tab Go.Hd Go.Crc Go.Bw Go.aq
def nP(n:I)(x:Q I):Q (Q I):=if _h:x=[]\/n=0 then[]else x.take n::nP n (x.drop n)
termination_by x.length
decreasing_by have a:x≠[]:=λe=>_h (.inl e);have b:n≠0:=λe=>_h (.inr e);have:=List.length_pos_iff.2 a;rw[ZB];omega
def bO(n:I)(a:Q (Q I)):Q (Q I):=a.flatMap (nP n)
def qQ(n:I):nP n []=[]:=by rw[nP];simp
def A3{n:I}{x:Q I}(h:x≠[])(a:0<n):nP n x=x.take n::nP n (x.drop n):=by rw[nP,dif_neg Ze]
def Rl{n:I}(a:0<n)(x:Q I):(nP n x).flatten=x:=by induction hk:x.length using ZW generalizing x with|ind k b=>by_cases h:x=[];{rw[h,qQ];rfl};have:=List.length_pos_iff.2 h;rw[A3 h a,Yf,b (x.drop n).length Ze (x.drop n) O,Zv]
def aac{n:I}(b:0<n)(x:Q I):∀y∈nP n x,0<y.length/\y.length<=n/\∀c∈y,c∈x:=by induction hk:x.length using ZW generalizing x with|ind k d=>by_cases h:x=[];{rw[h,qQ];intro y a;cases a};have:=List.length_pos_iff.2 h;rw[A3 h b];intro y a;(rcases List.mem_cons.1 a with h|h);{grind};grind
def sI{n:I}(b:0<n)(a:Q (Q I)):(bO n a).flatten=a.flatten:=by induction a with|nil=>rfl|cons x l c=>rw[bO,Yn,Xl,Rl b,Yf];exact Wm _ c
def IK{n:I}(d:0<n){a:Q (Q I)}:∀y∈bO n a,0<y.length/\y.length<=n/\∀c∈y,c∈a.flatten:=by intro y b;obtain⟨x,e,b⟩:=List.mem_flatMap.1 b;obtain⟨f,g,h⟩:=aac d x y b;exact⟨f,g,λc i=>List.mem_flatten.2 ⟨x,e,h c i⟩⟩
section
variable(L:Q I->Q I)
def wQ(x:Q I):Q I:=pI (L x) x
def blocks(l:Q (Q I)):Q I:=l.flatMap (wQ L)
def dV(n:I)(a:Q (Q I)):Q I:=pH n++(blocks L (bO n a)++oo (cF a.flatten))
def gm:Prop:=∀x:Q I,0<x.length->(bP x)->ta (L x) (bC x.reverse)
end
def iD(n:I):I->Q I->Q (Q I)->Q (Q I)×I|0,_,acc=>(acc,50)|k+1,b,acc=>match run (bq n) dP b with|.short _=>(acc,50)|.bad e=>(acc,e)|.fin (.tail s) rest=>(acc,if s≠cF acc.flatten then 260 else if rest≠[]then 261 else 0)|.fin (.aF _ _ _) _=>match dC n b with|.error e=>(acc,e)|.ok (x,behind)=>iD n k behind (acc++[x])
def fA(c:Q I):Q (Q I)×I:=match run cf ⟨0,0⟩ c with|.short _=>([],50)|.bad e=>([],e)|.fin n rest=>iD n (rest.length+1) rest []
def F3{n:I}{b d:Q I}{m:Mk}(h:run (bq n) dP b=.fin m d):d.length<b.length:=by obtain⟨a,c,f,e,_,_⟩:=sH h;rw[e];simp;omega
def oY{n:I}{b x a:Q I}(h:dC n b=.ok (x,a)):a.length<b.length:=by unfold dC at h;cases hr:run (bq n) dP b with|short s=>(rw[hr]at h;cases h)|bad e=>(rw[hr]at h;cases h)|fin m r=>have c:=F3 hr;rw[hr]at h;cases m with|tail s=>(cases h)|aF M P s=>simp only at h;cases hc:nU M (br r)with|error e=>(rw[hc]at h;cases h)|ok p=>rw[hc]at h;simp only at h;split at h;{grind};cases h
def Fm(n:I):∀(k m:I)(b:Q I)(acc:Q (Q I)),b.length<k->b.length<m->iD n k b acc=iD n m b acc|0,_,_,_,h,_=>Za|_,0,_,_,_,h=>Za|k+1,m+1,b,acc,a,c=>by unfold iD;cases run (bq n) dP b with|short s=>rfl|bad e=>rfl|fin mk r=>cases mk with|tail s=>rfl|aF M P s=>simp only;cases hu:dC n b with|error e=>rfl|ok p=>have:=oY hu;exact Fm n k m p.2 _ Za Za
def l7(n:I)(b:Q I)(acc:Q (Q I)):Q (Q I)×I:=iD n (b.length+1) b acc
def AU(n:I)(b:Q I)(acc:Q (Q I)):l7 n b acc=match run (bq n) dP b with|.short _=>(acc,50)|.bad e=>(acc,e)|.fin (.tail s) rest=>(acc,if s≠cF acc.flatten then 260 else if rest≠[]then 261 else 0)|.fin (.aF _ _ _) _=>match dC n b with|.error e=>(acc,e)|.ok (x,behind)=>l7 n behind (acc++[x]):=by unfold l7;rw[iD];cases run (bq n) dP b with|short s=>rfl|bad e=>rfl|fin mk r=>cases mk with|tail s=>rfl|aF M P s=>simp only;cases hu:dC n b with|error e=>rfl|ok p=>have:=oY hu;exact Fm n _ _ p.2 _ Za Za
def wF(c:Q I):fA c=match run cf ⟨0,0⟩ c with|.short _=>([],50)|.bad e=>([],e)|.fin n rest=>l7 n rest []:=O
section
variable{L:Q I->Q I}{n:I}
theorem Tv(e:gm L){x:Q I}(a:0<x.length)(d:x.length<=n)(b:bP x)(f:∀y∈bC x.reverse,y<256)(r:Q I)(acc:Q (Q I)):l7 n (wQ L x++r) acc=l7 n r (acc++[x]):=by have c:=yF (t:=x.reverse) Ze;rw[Z7]at c;rw[AU];have g:run (bq n) dP (wQ L x++r)=.fin (.aF x.length (bY x.reverse) (cF x)) (pack (body (L x) (bC x.reverse))++r):=by{unfold wQ pI;rw[Zm,FU a d c.1 c.2 (pj b)]};rw[g];simp only;have:=PR (n:=n) (e x a b) f b a d r;unfold wQ;rw[this]
theorem za(a:gm L)(b:∀x:Q I,(bP x)->∀y∈bC x.reverse,y<256):∀(l:Q (Q I))(r:Q I)(acc:Q (Q I)),(∀x∈l,0<x.length/\x.length<=n/\∀c∈x,c<256)->l7 n (blocks L l++r) acc=l7 n r (acc++l)|[],r,acc,_=>by simp[blocks]|x::l,r,acc,h=>by obtain⟨e,f,d⟩:=h x ZM;rw[blocks,Yn,Zm,Tv a e f d (b x d)];have:=za a b l r (acc++[x]) λy g=>h y (Zz _ g);unfold blocks at this;rw[this,Zm];rfl
def S6{s:I}(a:s<4294967296)(r:Q I)(acc:Q (Q I)):l7 n (oo s++r) acc=(acc,if s≠cF acc.flatten then 260 else if r≠[]then 261 else 0):=by rw[AU,Tf a]
def abV{x:Q I}(a:bP x):∀y∈bC x.reverse,y<256:=zm λy b=>a y (List.mem_reverse.1 b)
def jB(b:0<n){a:Q (Q I)}(d:∀c∈a.flatten,c<256):∀x∈bO n a,0<x.length/\x.length<=n/\∀c∈x,c<256:=λx e=>by obtain⟨f,g,h⟩:=IK b x e;exact⟨f,g,λc i=>d c (h c i)⟩
def Sh(b:gm L)(d:0<n)(a:n<=65536){l:Q (Q I)}(e:∀x∈l,0<x.length/\x.length<=n/\∀c∈x,c<256)(r:Q I):fA (pH n++(blocks L l++r))=l7 n r l:=by rw[wF,Rb d a];simp only;rw[za b (λx f=>abV f) l r [] e];rfl
def TM(f:gm L)(b:0<n)(d:n<=65536){a:Q (Q I)}(e:∀c∈a.flatten,c<256)(r:Q I):fA (dV L n a++r)=(bO n a,if r≠[]then 261 else 0):=by unfold dV;rw[Zm,Zm,Sh f b d (jB b e),S6 (pj e),sI b];simp
end
end
end Go.Stm
namespace Go.Vc
section
open Go
def aT(t:Q H):X5 G:=⟨t.map vI⟩
def zl(l:Q I):Q H:=l.map λ(x:I)=>(x:H)
def Kn(l:Q I):(zl l).length=l.length:=Zl ..
def gO{t:Q H}:(aT t).size=t.length:=by simp[aT]
def IS{t:Q H}{i:I}(h:i<t.length):(aT t)[i]?=Z (Sc.enc (.int .i64) (t.getD i 0)):=by simp[aT,h,vI,Yl]
def mQ{t:Q H}:∀v∈(aT t).toList,aL v=J:=by intro v a;simp only[aT,Q.mem_map]at a;obtain⟨x,_,rfl⟩:=a;rfl
def aez{t:Q H}{i:I}{x:H}:(aT t).setIfInBounds i (ni x)=aT (t.set i x):=by unfold aT;apply XG;simp[XB,vI]
def Ef{n:I}:(⟨Zh n (ni 0)⟩:X5 G)=aT (Zh n 0):=by unfold aT;simp[vI]
def CM.aT{n:I}{a b:Q H}{K:X4->Prop}(c:a.length=n)(d:b.length=n)(h:K (a==b)):CM .i64 n (aT a) (aT b) K:=⟨a,b,O,O,c,d,h⟩
def kR{l:Q H}{i j:I}{x:H}(a:i<l.length):(l.set i x).getD j 0=if j=i then x else l.getD j 0:=Ze
section
variable{E w:X0}{F:Q HP}
def aX.aT{b n:I}{t:Q H}{a:Wb}{c:I×I}{i:H}{j:I}{K:H->Prop}(h:Hp E w (aq b (.cells (Vc.aT t) a c)::F))(d:i=(j:H))(f:t.length=n)(g:j<n)(e:K (t.getD j 0)):aX ⟨b,0,V⟩ n i 1 λq=>Ld kI q w K:=by subst d;exact aX.rd (s:=.int .i64) h Za Za _ (by rw[Zi];exact IS Za) e
def aX.Hq{b n:I}{t:Q H}{a:Wb}{i:H}{j:I}{v:H}{K:ad}(h:Hp E w (aq b (.cells (Vc.aT t) a (0,0))::F))(c:i=(j:H))(d:t.length=n)(f:j<n)(e:bu E (aq b (.cells (Vc.aT (t.set j v)) a (0,0))::F) K):aX ⟨b,0,V⟩ n i 1 λq=>St q (ni v) w K:=by subst c;exact aX.wr h Za Za (by rw[gO,d]) O (by rw[Zi,aez];exact e)
def gu.aT{n:I}{t:Q H}{i:H}{j:I}{K:H->Prop}(a:i=(j:H))(c:t.length=n)(d:j<n)(b:K (t.getD j 0)):gu (.int .i64) (Vc.aT t) n i K:=by subst a;exact gu.rd (s:=.int .i64) Za Za _ (by rw[Zi];exact IS Za) b
def ay.nI{s:Sl}{zs:Q H}{i:H}{j:I}{K:H->Prop}(a:aN 1 s (zs.map vI) w)(b:i=(j:H))(c:j<zs.length)(d:K (zs.getD j 0)):ay s i 1 λq=>Ld kI q w K:=by subst b;have e:=a.1;simp only[Zl,Zw]at e;refine ay.rd a Za Za λp g f=>Ld.sc (s:=.int .i64) _ ?_ d;rw[f];simp[vI,Yl,c]
def ay.nB{s:Sl}{a:Q I}{i:H}{j:I}{K:H->Prop}(b:aN 1 s (a.map vB) w)(c:i=(j:H))(d:j<a.length)(e:K (a.getD j 0:H)):ay s i 1 λq=>Ld (aG .u8) q w K:=by subst c;have f:=b.1;simp only[Zl,Zw]at f;refine ay.rd b Za Za λp h g=>Ld.sc (s:=.int .u8) (a.getD j 0:H) ?_ e;rw[g];simp[vB,Yl,d]
def ay.aeL{s:Sl}{zs:Q H}{i:H}{j:I}{x:H}{K:ad}(a:Hp E w (an 1 s (zs.map vI)::F))(c:i=(j:H))(e:j<zs.length)(h:bu E (an 1 s ((zs.set j x).map vI)::F) K):ay s i 1 λq=>St q (ni x) w K:=by subst c;have d:=a.aU;rw[Zl,Zw]at d;refine St.own a Za Za O λw' b=>h w' ?_;rw[Zi]at b;rw[XB];exact b
def ay.afd{s:Sl}{a:Q I}{i:H}{j x:I}{K:ad}(b:Hp E w (an 1 s (a.map vB)::F))(d:i=(j:H))(f:j<a.length)(h:bu E (an 1 s ((a.set j x).map vB)::F) K):ay s i 1 λq=>St q (au (x:H)) w K:=by subst d;have e:=b.aU;rw[Zl,Zw]at e;refine St.own b Za Za O λw' c=>h w' ?_;rw[Zi]at c;rw[XB];exact c
def agv{P:X6}{t l e m:Wb}{s:Sl}{zs:Q H}{x:H}{d:X5 G}{K:Sl->ad}(f:cN P t e 1 8)(c:d=⟨[vI x]⟩)(g:Hp E w (an 1 s (zs.map vI)::F))(o:zs.length<=cP)(h:∀a w',Hp E w' (an 1 a ((zs++[x]).map vI)::F)->a.len=zs.length+1->K a w'):Nw m d w λb i=>aC P (ZE #[t,t] l ⟨[aj s,cL b 1]⟩) kS i K:=by have p:=g.aU;rw[Zl,Zw]at p;rw[aK]at o;refine Nw.mk g λb i j=>bj (ys:=[vI x]) (n:=1) f Zb (.inl ⟨e,f.und⟩) j.p1 (.inl ⟨Z ⟨b,0,V⟩,1,1,O,O,j.ak (ae.aF (by rw[c]) O)⟩) O (λy k=>by rw[ZC]at k;subst k;rfl) Za Za λa q r u=>h a q ?_ Za;rw[ZD];exact r.p1.drop
end
end
end Go.Vc
namespace Go.Hs
section
open Go Go.Vc
def cT(t:Q H):X4:=t.all λx=>decide (0<=x)&&We (x<=2147483647)
def lI{t:Q H}:cT t=J↔∀i,i<t.length->0<=t.getD i 0/\t.getD i 0<=2147483647:=by unfold cT;rw[XQ];constructor;{intro h i a;have:=h t[i] (Zs a);simpa[Yl,a]using this};intro h x b;obtain⟨i,a,rfl⟩:=ZY b;simpa[Yl,a]using h i a
def U0{t:Q H}{i:I}(a:i<t.length)(h:¬(0<=t.getD i 0/\t.getD i 0<=2147483647)):cT t=U:=by cases hv:cT t with|false=>rfl|true=>exact Wi (lI.1 hv i a) h
def pP(z:H):X4:=We (0<=z)&&We (z<258)
def uM{z:H}:pP z=J↔0<=z/\z<258:=by simp[pP]
def inc(t:Q H)(z:H):Q H:=t.set z.toNat (t.getD z.toNat 0+1)
def kf(t:Q H)(zs:Q H):Q H:=zs.foldl inc t
def EE(t:Q H)(z:H):(inc t z).length=t.length:=YV ..
def uB:∀(zs t:Q H),(kf t zs).length=t.length|[],_=>rfl|z::zs,t=>by show(kf (inc t z) zs).length=_;rw[uB zs,EE]
def ID(t zs:Q H)(z:H):kf t (zs++[z])=inc (kf t zs) z:=by simp[kf]
def MW{t:Q H}{z:H}(a:pP z=J)(b:t.length=258)(i:I):(inc t z).getD i 0=t.getD i 0+if z=(i:H)then 1 else 0:=by rw[uM]at a;unfold inc;rw[kR Za];by_cases h:z=(i:H);{grind};grind
def zz:∀{zs t:Q H},zs.all pP=J->t.length=258->∀i:I,(kf t zs).getD i 0=t.getD i 0+(zs.count (i:H):H)|[],t,_,_,i=>by simp[kf]|z::zs,t,h,ht,i=>by rw[Q.all_cons,ZI]at h;show(kf (inc t z) zs).getD i 0=_;rw[zz h.2 (by rw[EE,ht]),MW h.1 ht,Q.count_cons];by_cases e:z=(i:H);{rw[X3 e,X3 (by simp[e])];omega};rw[K e,K (by simp[e])];omega
def jS(t zs:Q H):X7 (Q H):=if cT t&&zs.all pP&&cT (kf t zs)then Z (kf t zs)else V
def erO(o:X7 (Q H)):H:=if o.isSome then 0 else 2
def La{t zs:Q H}(h:cT t=U):jS t zs=V:=by simp[jS,h]
def aaU{t zs:Q H}{k:I}(a:k<zs.length)(h:pP (zs.getD k 0)=U):jS t zs=V:=by unfold jS;rw[K];intro b;simp only[ZI]at b;have:=List.all_eq_true.1 b.1.2 zs[k] (Zs a);simp[Yl,a,this]at h
def mg(zs:Q H)(z:H)(k:I):(zs.take k).count z<=zs.count z:=by have:zs.count z=(zs.take k).count z+(zs.drop k).count z:=by{rw[<-XN,Zv]};omega
def S8{t zs:Q H}{k:I}(b:t.length=258)(c:k<zs.length)(f:(zs.take k).all pP=J)(g:pP (zs.getD k 0)=J)(h:2147483647<=(kf t (zs.take k)).getD (zs.getD k 0).toNat 0):jS t zs=V:=by unfold jS;rw[K];intro a;simp only[ZI]at a;have i:=uM.1 g;have d:=lI.1 a.2 (zs.getD k 0).toNat (by rw[uB];omega);rw[zz a.1.2 b]at d;rw[zz f b]at h;have e:(((zs.getD k 0).toNat:I):H)=zs.getD k 0:=Za;rw[e]at d h;have j:=mg zs (zs.getD k 0) (k+1);have l:(zs.take (k+1)).count (zs.getD k 0)=(zs.take k).count (zs.getD k 0)+1:=by{rw[Zx,Zg c,XN];simp[Yl,c]};omega
def vF{zs:Q H}{k:I}(a:k<zs.length):zs.take (k+1)=zs.take k++[zs.getD k 0]:=by rw[Zx,Zg a];simp[Yl,a]
def Jw{t zs:Q H}(a:cT t=J)(b:zs.all pP=J)(c:cT (kf t zs)=J):jS t zs=Z (kf t zs):=by simp[jS,a,b,c]
def RE{t zs u:Q H}(h:jS t zs=Z u):cT t=J/\zs.all pP=J/\u=kf t zs/\cT u=J:=by unfold jS at h;split at h;{grind};cases h
end
end Go.Hs
namespace Go.Proofs.Q9
section
open Go Go.Vc
set_option maxRecDepth 100000
def vg.ok(a:(X5 G))(b:H)(R:(X5 G)->H->X0->Prop) w(h:Nw 231 a w λd c=>Nw 166 ⟨Zh 258 (.int .u8 0)⟩ c λf e=>Ld (.arr 258) ⟨d,0,V⟩ e λg=>Cl Pg [kS] 203 ⟨[(.agg g)]⟩ e λ(i:Sl) h=>a8 (λ(N:X0)=>aa ((i.len:H)==1) (ay i 0 1 λb1=>Ld kI b1 N λ(c1:H)=>aX ⟨f,0,V⟩ 258 c1 1 λd1=>St d1 (.int .u8 1) N λT=>Ld (.arr 258) ⟨f,0,V⟩ T λf1=>aH 258 ⟨f,0,V⟩ f1 T λW=>Ld (.arr 258) ⟨f,0,V⟩ W λh1=>R h1 0 W) (Ld (.arr 258) ⟨d,0,V⟩ N λi1=>Cl Pg [kS] 205 ⟨[(.agg i1),(aj i)]⟩ N λ(k1:Sl) j1=>Nw 298 ⟨[(aj k1)]⟩ j1 λm1 l1=>dK (⟨Z ⟨m1,0,V⟩,1,1⟩:Sl) 1 l1 λn1 X(F:Sl)(I:H) Q=>aa (We (I<b)) (dw Q λK t1=>ay F 0 1 λu1=>aO kS u1 K λ(v1:Sl)=>ay F (i64 (I-1)) 1 λx1=>aO kS x1 K λ(y1:Sl)=>Cl Pg [kS] 206 ⟨[(aj v1),(aj y1)]⟩ t1 λ(a2:Sl) Y=>K Y/\Nw 298 ⟨[(aj a2)]⟩ Y λc2 b2=>K b2/\aC Pg (ZE #[300,300] 300 ⟨[(aj F),(aj (⟨Z ⟨c2,0,V⟩,1,1⟩:Sl))]⟩) kS b2 λ(e2:Sl) S=>K S/\n1 e2 (i64 (I+1)) S/\X e2 (i64 (I+1)) S<X F I Q) (dK (i64 ((i64 ((2:H)*(i.len:H)))-2)) (i64 (b-1)) Q λf2 g2(L:H)(M:H) C=>a8 (λ(r2:X0)=>ay F M 1 λs2=>Ld kS s2 r2 λ(t2:Sl)=>cn t2 0 L (t2).cap 2 λu2=>dK 0 0 r2 λv2 P(A:H)(B:H) D=>aa (We (B<(u2.len:H))) (ay u2 B 2 λb3=>Ld (.st [.int .i64,.bool]) b3 D λc3=>Nw 303 ⟨[(ni 0),(.bool U)]⟩ D λe3 d3=>aB ⟨e3,0,V⟩ [(ni c3.1),(.bool c3.2.1)] 0 d3 λE=>Ld kB (YD ⟨e3,0,V⟩ 1) E λ(g3:X4)=>aa g3 (ay i A 1 λh3=>Ld kI h3 E λ(i3:H)=>aX ⟨f,0,V⟩ 258 i3 1 λj3=>Ld (aG .u8) j3 E λ(k3:H)=>aX ⟨f,0,V⟩ 258 i3 1 λl3=>St l3 (.int .u8 (u8 (k3+1))) E λm3=>v2 (i64 (A+1)) (i64 (B+1)) m3/\P (i64 (A+1)) (i64 (B+1)) m3<P A B D) (v2 A (i64 (B+1)) E/\P A (i64 (B+1)) E<P A B D)) (f2 (i64 ((2:H)*(i64 (L-A)))) (i64 (M-1)) D/\g2 (i64 ((2:H)*(i64 (L-A)))) (i64 (M-1)) D<g2 L M C)) λk2=>aa (We (M>=0)) (aa (We (L>0)) (k2 C) (Ld (.arr 258) ⟨f,0,V⟩ C λl2=>aH 258 ⟨f,0,V⟩ l2 C λm2=>Ld (.arr 258) ⟨f,0,V⟩ m2 λn2=>R n2 0 m2)) (Ld (.arr 258) ⟨f,0,V⟩ C λo2=>aH 258 ⟨f,0,V⟩ o2 C λp2=>Ld (.arr 258) ⟨f,0,V⟩ p2 λq2=>R q2 0 p2)))) λj=>Ld (.arr 258) ⟨d,0,V⟩ h λk=>Cl Pg [kB] 204 ⟨[(.agg k)]⟩ h λ(m:X4) l=>aa (! m) (Ld (.arr 258) ⟨f,0,V⟩ l λn=>aH 258 ⟨f,0,V⟩ n l λo=>Ld (.arr 258) ⟨f,0,V⟩ o λp=>R p 2 o) (aa (We (b<1)) (Ld (.arr 258) ⟨f,0,V⟩ l λq=>aH 258 ⟨f,0,V⟩ q l λr=>Ld (.arr 258) ⟨f,0,V⟩ r λs=>R s 2 r) (aa (We (b>15)) (Ld (.arr 258) ⟨f,0,V⟩ l λt=>aH 258 ⟨f,0,V⟩ t l λu=>Ld (.arr 258) ⟨f,0,V⟩ u λv=>R v 2 u) (0<=(u64 b)/\aa (We ((i.len:H)>(bH .i64 (1:H) (u64 b)))) (Ld (.arr 258) ⟨f,0,V⟩ l λx=>aH 258 ⟨f,0,V⟩ x l λy=>Ld (.arr 258) ⟨f,0,V⟩ y λz=>R z 2 y) (j l))))):Cl Pg [(.arr 258),kI] 136 ⟨[(.agg a),(ni b)]⟩ w R:=co Tryz.f136 [(4,[]),(21,[(7,kS),(8,kI)]),(33,[(9,kI),(10,kI)]),(34,[]),(43,[(11,kI),(86,kI)])] h
def yL.ok(a:(X5 G))(R:Sl->ad) w(h:Nw 231 a w λc b=>aQ 258 c 0 b λd=>aD 204 [(.agg d)] b λf e=>aa (! f) (R (⟨V,0,0⟩:Sl) e) (aQ 258 c 0 e λg=>dK (⟨V,0,0⟩:Sl) 0 e λh i(j:Sl)(k:H) l=>aw (k<258) (gu (.int .i64) g 258 k λ(m:H)=>aw (m>0) (aI 3 [(ni k)] l λo n=>aC Pg (ZE #[25,25] 25 ⟨[(aj j),(cL o 1)]⟩) kS n λ(q:Sl) p=>h q (i64 (k+1)) p/\i q (i64 (k+1)) p<i j k l) (h j (i64 (k+1)) l/\i j (i64 (k+1)) l<i j k l)) (cH 279 [(aj j),(.func (.func 280) ⟨[]⟩ ⟨[(bU c)]⟩)] l λr=>R j r))):bS 203 [(.agg a)] w R:=co Tryz.f203 [(10,[(2,kS),(9,kI)])] h
def yy.ok(a:(X5 G))(R:X4->ad) w(h:Nw 231 a w λc b=>cn (⟨Z ⟨c,0,V⟩,258,258⟩:Sl) 0 258 258 1 λd=>aD 53 [(aj d),(.func (.func 281) ⟨[]⟩ ⟨[]⟩)] b λf e=>R (! f) e):aD 204 [(.agg a)] w R:=co Tryz.f204 [] h
def xH.ok(a:(X5 G))(b:Sl)(R:Sl->ad) w(h:Nw 231 a w λd c=>dK (⟨V,0,0⟩:Sl) 0 c λe f(g:Sl)(h:H) i=>aw (h<(b.len:H)) (ay b h 1 λj=>bh j i λk=>aX (av d 0) 258 k 1 λl=>bh l i λm=>aI 303 [(ni m),(.bool J)] i λo n=>aC Pg (ZE #[298,298] 298 ⟨[(aj g),(cL o 1)]⟩) kS n λ(q:Sl) p=>e q (i64 (h+1)) p/\f q (i64 (h+1)) p<f g h i) (R g i)):bS 205 [(.agg a),(aj b)] w R:=co Tryz.f205 [(5,[(4,kS),(9,kI)])] h
def zZ.ok(a:Sl)(b:Sl)(R:Sl->ad) w(h:xh (⟨V,0,0⟩:Sl) 0 0 w λc d(e:Sl)(f:H)(g:H) h=>aa (We ((i64 (g+1))<(b.len:H))) (dw h λi j=>ay b g 2 λk=>aO kI (k.add 0) i λ(l:H)=>ay b (i64 (g+1)) 2 λm=>aO kI (m.add 0) i λ(n:H)=>Nw 303 ⟨[(ni 0),(.bool U)]⟩ j λp o=>i o/\aB ⟨p,0,V⟩ [(ni (i64 (l+n))),(.bool U)] 0 o λq=>i q/\dK e f q λr s(t:Sl)(u:H) v=>aM v λx=>aa (We (u<(a.len:H))) (ay a u 2 λy=>Ld kI (y.add 0) x λ(z:H)=>Ld kI (YD ⟨p,0,V⟩ 0) x λ(L:H)=>aa (We (z<=L)) (ay a u 2 λM=>Ld (.st [iQ,.bool]) M x λA=>Nw 303 ⟨[(ni A.1),(.bool A.2.1)]⟩ x λN P=>aC Pg (ZE #[298,298] 298 ⟨[(aj t),(aj (⟨Z ⟨N,0,V⟩,1,1⟩:Sl))]⟩) kS P λ(B:Sl) C=>r B (i64 (u+1)) C/\s B (i64 (u+1)) C<s t u v) (Ld (.st [iQ,.bool]) ⟨p,0,V⟩ x λD=>Nw 303 ⟨[(ni D.1),(.bool D.2.1)]⟩ x λQ S=>aC Pg (ZE #[298,298] 298 ⟨[(aj t),(aj (⟨Z ⟨Q,0,V⟩,1,1⟩:Sl))]⟩) kS S λ(E:Sl) F=>c E u (i64 (g+2)) F/\d E u (i64 (g+2)) F<d e f g h)) (Ld (.st [iQ,.bool]) ⟨p,0,V⟩ x λG=>Nw 303 ⟨[(ni G.1),(.bool G.2.1)]⟩ x λT W=>aC Pg (ZE #[298,298] 298 ⟨[(aj t),(aj (⟨Z ⟨T,0,V⟩,1,1⟩:Sl))]⟩) kS W λ(I:Sl) K=>c I u (i64 (g+2)) K/\d I u (i64 (g+2)) K<d e f g h)) (cn a f (a).len (a).cap 2 λX=>aC Pg (ZE #[298,298] 298 ⟨[(aj e),(aj X)]⟩) kS h λ(Y:Sl) s1=>R Y s1)):Cl Pg [kS] 206 ⟨[(aj a),(aj b)]⟩ w R:=co Tryz.f206 [(7,[(4,kS),(5,kI),(6,kI)]),(15,[(4,kS),(5,kI)])] h
def vn.ok(a:H)(b:H)(c:Wg)(R:H->ad) w(h:aM w λd=>aX c 258 a 1 λe=>bh e d λf=>aX c 258 b 1 λg=>bh g d λh=>bE 238 [(ni f),(ni h)] d λj i=>R j i):bE 280 [(ni a),(ni b),(ar (Z c))] w R:=co Tryz.f280 [] h
def wW.ok(a:H)(R:X4->ad) w(h:aw (a<0) (R J w) (R (We (a>2147483647)) w)):aD 281 [(ni a)] w R:=co Tryz.f281 [] h
end
end Go.Proofs.Q9
namespace Go.Pm
section
abbrev It:=I×X4
def pg(l:Q It):I:=(l.map (·.1)).sum
def cB(l:Q It):I:=(l.filter (·.2)).length
def Up(l:Q It):Prop:=l.Pairwise λa b=>a.1<=b.1
def bB:Q It->Q It|a::b::l=>(a.1+b.1,U)::bB l|_=>[]
def kA(A:Q It):Q It->Q It|[]=>A|p::B=>A.takeWhile (λa=>decide (a.1<=p.1))++p::kA (A.dropWhile λa=>decide (a.1<=p.1)) B
def E0{A:Q It}:kA A []=A:=O
def uO:∀{B:Q It},kA [] B=B|[]=>rfl|p::B=>by simp[kA,uO]
def KX{a p:It}{A B:Q It}(h:a.1<=p.1):kA (a::A) (p::B)=a::kA A (p::B):=by simp[kA,h]
def KE{a p:It}{A B:Q It}(h:¬a.1<=p.1):kA (a::A) (p::B)=p::kA (a::A) B:=by simp[kA,h]
def zI{P:Q It->Q It->Prop}(b:∀B,P [] B)(c:∀a A,P (a::A) [])(d:∀a A p B,a.1<=p.1->P A (p::B)->P (a::A) (p::B))(e:∀a A p B,¬a.1<=p.1->P (a::A) B->P (a::A) (p::B)):∀A B,P A B|[],B=>b B|a::A,[]=>c a A|a::A,p::B=>if h:a.1<=p.1 then d a A p B h (zI b c d e A (p::B))else e a A p B h (zI b c d e (a::A) B)
def KD:∀A B,(kA A B).Perm (A++B):=by refine zI (λB=>by rw[uO];exact .refl _) (λa A=>by rw[E0];simp) (λa A p B h b=>?_) λa A p B h b=>?_;{rw[KX h];exact b.cons a};rw[KE h];exact(b.cons p).trans (List.perm_middle.symm)
def Oa(A B:Q It):(kA A B).length=A.length+B.length:=by rw[(KD A B).length_eq,Zf]
def OM:∀A B,Up A->∀m,m<=A.length+B.length->∃a b,a+b=m/\a<=A.length/\b<=B.length/\((kA A B).take m).Perm (A.take a++B.take b)/\∀x∈B.take b,∀y∈A.drop a,x.1<y.1:=by refine zI (λB _ m c=>?_) (λa A _ m c=>?_) (λa A p B h g e m c=>?_) λa A p B h g e m c=>?_;{exact⟨0,m,Za,ZA _,by simpa using c,by rw[uO];simp,Zd⟩};{exact⟨m,0,rfl,by simpa using c,ZA _,by rw[E0];simp,Zd⟩};{cases m with|zero=>exact⟨0,0,rfl,Z4 _,Z4 _,Zd,Zd⟩|succ m=>obtain⟨x,y,n,i,j,k,l⟩:=g (List.pairwise_cons.1 e).2 m (by simp at c⊢;omega);refine⟨x+1,y,Za,by simpa using i,j,?_,by simpa using l⟩;rw[KX h,YB,YB];exact k.cons a};cases m with|zero=>exact⟨0,0,rfl,Z4 _,Z4 _,Zd,Zd⟩|succ m=>obtain⟨x,y,n,i,j,k,l⟩:=g e m (by simp at c⊢;omega);refine⟨x,y+1,Za,i,by simpa using j,?_,?_⟩;{rw[KE h,YB,YB];exact(k.cons p).trans List.perm_middle.symm};intro u f v d;rw[YB]at f;(rcases List.mem_cons.1 f with rfl|f);{have d:v∈a::A:=Yo d;(rcases List.mem_cons.1 d with rfl|d);{omega};have:=(List.pairwise_cons.1 e).1 v d;omega};exact l u f v d
def AL(a:It)(l:Q It):pg (a::l)=a.1+pg l:=by simp[pg]
def Qj(l a:Q It):pg (l++a)=pg l+pg a:=by simp[pg]
def T8{l a:Q It}(h:l.Perm a):pg l=pg a:=(h.map _).sum_nat
def rL(l a:Q It):cB (l++a)=cB l+cB a:=by simp[cB]
def C7{l a:Q It}(h:l.Perm a):cB l=cB a:=(h.filter _).length_eq
def fo:∀l:Q It,(bB l).length=l.length/2|[]=>rfl|[_]=>by simp[bB]|_::_::l=>by simp only[bB,Zo,fo l];omega
def vG:∀(l:Q It)(x:It),x∈bB l->x.2=U|[],_,h=>by simp[bB]at h|[_],_,h=>by simp[bB]at h|a::b::l,x,h=>by rw[bB]at h;(rcases List.mem_cons.1 h with rfl|h);{rfl};exact vG l x h
def B5:∀(l:Q It)(b:I),2*b<=l.length->pg ((bB l).take b)=pg (l.take (2*b))|_,0,_=>by simp[pg]|[],b+1,h=>by simp at h|[_],b+1,h=>by simp only[ZJ]at h;omega|x::y::l,b+1,h=>by rw[bB,YB,AL,show 2*(b+1)=(2*b+1)+1 by omega,YB,YB,AL,AL,B5 l b (by simp only[Zo]at h;omega)];omega
def Ih:∀(l:Q It)(b:I)(x:It),2*b<=l.length->x∈l.take (2*b)->∃p∈(bB l).take b,x.1<=p.1|_,0,_,_,h=>by simp at h|[],b+1,_,h,_=>by simp at h|[_],b+1,_,h,_=>by simp only[ZJ]at h;omega|u::v::l,b+1,x,h,a=>by rw[show 2*(b+1)=(2*b+1)+1 by omega,YB,YB]at a;rw[bB,YB];(rcases List.mem_cons.1 a with rfl|a);{exact⟨_,ZM,Zd⟩};(rcases List.mem_cons.1 a with rfl|a);{exact⟨_,ZM,Zd⟩};obtain⟨p,c,d⟩:=Ih l b x (by simp only[Zo]at h;omega) a;exact⟨p,Zz _ c,d⟩
def lN(a:Q I):Q It:=a.map λw=>(w,J)
def row(a:Q I):I->Q It|0=>lN a|k+1=>kA (lN a) (bB (row a k))
def yQ(a:Q I):Prop:=a.Pairwise (·<=·)
def R7{a:Q I}(h:yQ a):Up (lN a):=Q.Pairwise.map _ (λ_ _ h=>h) h
def gk(a:Q I):(lN a).length=a.length:=Zl _
def eU(a:Q I)(k:I):(row a (k+1)).length=a.length+(row a k).length/2:=by rw[row,Oa,gk,fo]
def No(a:Q I):pg (lN a)=a.sum:=by unfold pg lN;rw[YC];congr 1;exact Q.map_id _
def oA(b:Q I)(a:I):(lN b).take a=lN (b.take a):=List.map_take.symm
def yS(a:Q I):cB (lN a)=a.length:=by unfold cB lN;rw[List.filter_eq_self.2];{simp};grind
def HU{l:Q It}(h:∀x∈l,x.2=U):cB l=0:=by unfold cB;rw[Q.length_eq_zero_iff,Q.filter_eq_nil_iff];intro x a;simp[h x a]
def CI{ws:Q I}:∀k,ws.length<=2^(k+1)->2*ws.length-2<=(row ws k).length:=by have a:∀k c,2^k*c>=ws.length->1<=c->2*ws.length<=(row ws k).length+c:=by{intro k;induction k with|zero=>intro c h _;simp only[row,gk];omega|succ k b=>intro c h d;have:=b (2*c) Ze Za;rw[eU];omega};intro k h;have:=a k 2 Ze Za;omega
def qv{c:Q I}(h:yQ c)(k m:I)(j:m<=(row c (k+1)).length):cB ((row c (k+1)).take m)<=m/\cB ((row c (k+1)).take m)<=c.length/\2*(m-cB ((row c (k+1)).take m))<=(row c k).length/\pg ((row c (k+1)).take m)=(c.take (cB ((row c (k+1)).take m))).sum+pg ((row c k).take (2*(m-cB ((row c (k+1)).take m))))/\(∀x∈(row c k).take (2*(m-cB ((row c (k+1)).take m))),∀y∈c.drop (cB ((row c (k+1)).take m)),x.1<y):=by have l:=eU c k;obtain⟨a,b,t,g,n,i,o⟩:=OM (lN c) (bB (row c k)) (R7 h) m (by rw[gk,fo,<-l];exact j);rw[gk]at g;rw[fo]at n;have d:cB ((row c (k+1)).take m)=a:=by{rw[row,C7 i,rL,oA,yS,HU λx e=>vG _ x (Z6 e),Zy];omega};rw[d];have q:m-a=b:=Za;rw[q];refine⟨Za,g,Za,?_,?_⟩;{rw[row,T8 i,Qj,oA,No,B5 _ _ Za]};intro x e y r;obtain⟨p,s,f⟩:=Ih _ _ _ Za e;have:=o p s (y,J) (by unfold lN;rw[<-XH];exact Q.mem_map_of_mem r);exact I.lt_of_le_of_lt f this
def A6{ws:Q I}(m:I)(a:m<=ws.length):cB ((row ws 0).take m)=m/\pg ((row ws 0).take m)=(ws.take m).sum:=by rw[row,oA];exact⟨by rw[yS,Zy];omega,No _⟩
def whole(a:Q I)(k m:I):I:=cB ((row a k).take m)
def lv(a:Q I):I->I->I->I|0,m,i=>if i<whole a 0 m then 1 else 0|k+1,m,i=>(if i<whole a (k+1) m then 1 else 0)+lv a k (2*(m-whole a (k+1) m)) i
def nested{ws:Q I}(h:yQ ws)(k m:I)(p:m<=(row ws (k+1)).length):whole ws k (2*(m-whole ws (k+1) m))<=whole ws (k+1) m:=by obtain⟨q,r,c,s,l⟩:=qv h k m p;generalize n:whole ws (k+1) m=a;unfold whole at n;rw[n]at q r c s l;(rcases Yc a (whole ws k (2*(m-a)))with e|f);{exfalso;have d:∀i,i<whole ws k (2*(m-a))->∃(b:i<ws.length),(ws[i],J)∈(row ws k).take (2*(m-a)):=by{cases k with|zero=>intro i b;have t:=A6 (ws:=ws) (2*(m-a)) (by rw[row,gk]at c;exact c);unfold whole at b;rw[t.1]at b;rw[row,gk]at c;refine⟨Za,?_⟩;rw[row,oA];unfold lN;refine Q.mem_map_of_mem ?_;rw[Q.mem_iff_getElem];exact⟨i,by rw[Zy];omega,Zd⟩|succ k=>intro i b;obtain⟨u,w,y,v,z,o,A⟩:=OM (lN ws) (bB (row ws k)) (R7 h) (2*(m-a)) (by rw[gk,fo,<-eU];exact c);rw[gk]at v;have g:whole ws (k+1) (2*(m-a))=u:=by{unfold whole;rw[row,C7 o,rL,oA,yS,HU λx j=>vG _ x (Z6 j),Zy];omega};rw[g]at b;refine⟨Za,?_⟩;rw[row,o.mem_iff,XA];left;rw[oA];unfold lN;refine Q.mem_map_of_mem ?_;rw[Q.mem_iff_getElem];exact⟨i,by rw[Zy];omega,Zd⟩};obtain⟨b,j⟩:=d a e;have:=l _ j ws[a] (by rw[Q.mem_iff_getElem];exact⟨0,by rw[ZB];omega,Zd⟩);simp at this};exact f
def EK{a:Q I}(h:yQ a):∀(k m i:I),m<=(row a k).length->whole a k m<=i->lv a k m i=0|0,m,i,_,c=>by unfold lv;rw[K Za]|k+1,m,i,b,c=>by have d:=nested h k m b;unfold lv;rw[K Za,Zk];exact EK h k _ i (qv h k m b).2.2.1 Za
def HA(a:Q I):∀(k m i:I),lv a k m i<=k+1|0,m,i=>by unfold lv;split<;>omega|k+1,m,i=>by have:=HA a k (2*(m-whole a (k+1) m)) i;unfold lv;split<;>omega
def over(n:I)(f:I->I):I:=((Zt n).map f).sum
def iI(n:I)(f:I->I):over (n+1) f=over n f+f n:=by unfold over;rw[Y3,ZD,YN];simp
def Kp(n:I)(f g:I->I):over n (λi=>f i+g i)=over n f+over n g:=by induction n with|zero=>rfl|succ n a=>rw[iI,iI,iI,a];omega
def qo{n:I}{f g:I->I}(h:∀i,i<n->f i=g i):over n f=over n g:=by unfold over;congr 1;exact ZX λi a=>h i (List.mem_range.1 a)
def OR(n c:I):over n (λ_=>c)=n*c:=by induction n with|zero=>simp[over]|succ n a=>rw[iI,a,Yg]
def aai(n c:I)(f:I->I):over n (λi=>c*f i)=c*over n f:=by induction n with|zero=>rfl|succ n a=>rw[iI,iI,a,I.mul_add]
def CQ(n a:I)(d:a<=n)(c:I):over n (λi=>(if i<a then 1 else 0)*c)=a*c:=by have b:∀n,over n (λi=>(if i<a then 1 else 0)*c)=WE n a*c:=by{intro n;induction n with|zero=>simp[over]|succ n e=>rw[iI,e];by_cases hna:n<a;{grind};grind};rw[b,I.min_eq_right d]
def lw(a:Q I):I->I->I->I|0,m,i=>if i<whole a 0 m then 1 else 0|k+1,m,i=>(if i<whole a (k+1) m then 1 else 0)*2^(k+1)+lw a k (2*(m-whole a (k+1) m)) i
def RM{ws:Q I}(h:yQ ws):∀(k m:I),m<=(row ws k).length->over ws.length (lw ws k m)=m*2^k|0,m,b=>by have a:m<=ws.length:=by{rw[row,gk]at b;exact b};have e:=A6 (ws:=ws) m a;have:=CQ ws.length m a 1;have d:over ws.length (lw ws 0 m)=over ws.length (λi=>(if i<m then 1 else 0)*1):=qo λi _=>by{unfold lw whole;rw[e.1,Zw]};rw[d,this]|k+1,m,b=>by obtain⟨f,g,j,o,p⟩:=qv h k m b;have l:=RM h k (2*(m-whole ws (k+1) m)) j;have e:over ws.length (lw ws (k+1) m)=over ws.length (λi=>(if i<whole ws (k+1) m then 1 else 0)*2^(k+1)+lw ws k (2*(m-whole ws (k+1) m)) i):=O;have n:whole ws (k+1) m<=m:=f;have c:whole ws (k+1) m<=ws.length:=g;rw[e,Kp,CQ _ _ c,l,Yb 2,Xs,<-I.pow_succ',<-Y8];congr 1;omega
def abu{a:Q I}(h:yQ a):∀(k m i:I),m<=(row a k).length->lw a k m i+2^(k+1-lv a k m i)=2^(k+1)|0,m,i,_=>by unfold lw lv;split<;>rfl|k+1,m,i,b=>by have c:=(qv h k m b).2.2.1;have d:=abu h k (2*(m-whole a (k+1) m)) i c;have e:=HA a k (2*(m-whole a (k+1) m)) i;have g:=Yx (n:=2) (m:=k+1);unfold lw lv;by_cases hi:i<whole a (k+1) m;{rw[X3 hi,I.one_mul,show k+1+1-(1+lv a k (2*(m-whole a (k+1) m)) i)=k+1-lv a k (2*(m-whole a (k+1) m)) i by omega];omega};have j:=nested h k m b;have f:=EK h k (2*(m-whole a (k+1) m)) i c Za;rw[f]at d⊢;rw[K hi];simp only[I.zero_mul,Zk,Xn]at d⊢;omega
def K8{ws:Q I}(h:yQ ws)(k:I)(e:2<=ws.length)(b:ws.length<=2^(k+1)):over ws.length (λi=>2^(k+1-lv ws k (2*ws.length-2) i))=2^(k+1):=by have a:=CI (ws:=ws) k b;have c:=RM h k _ a;have d:=Kp ws.length (lw ws k (2*ws.length-2)) λi=>2^(k+1-lv ws k (2*ws.length-2) i);rw[qo (g:=λ_=>2^(k+1)) λi _=>abu h k _ i a,OR,c]at d;have f:(2*ws.length-2)*2^k+2^(k+1)=ws.length*2^(k+1):=by{have:2*ws.length-2=2*(ws.length-1):=by{omega};rw[this,Yb 2,Xs,<-I.pow_succ'];have:ws.length=ws.length-1+1:=by{omega};conv=>rhs;rw[this,Yg]};omega
def Ms{n:I}{f:I->I}{i:I}(a:i<n):f i<=over n f:=by induction n with|zero=>omega|succ n b=>rw[iI];by_cases h:i=n;{subst h;omega};grind
def J6{n:I}{f:I->I}{i j:I}(b:i<n)(c:j<n)(a:i<j):f i+f j<=over n f:=by induction n with|zero=>omega|succ n d=>rw[iI];by_cases h:j=n;{subst h;have:=Ms (f:=f) a;omega};grind
def ael{a:Q I}(h:yQ a)(k:I)(g:2<=a.length)(l:a.length<=2^(k+1)){i:I}(c:i<a.length):1<=lv a k (2*a.length-2) i:=by have m:=K8 h k g l;(rcases Yd (lv a k (2*a.length-2) i)with b|b);{exfalso;have d:∀j,0<2^(k+1-lv a k (2*a.length-2) j):=λj=>Ym _;have e:2^(k+1-lv a k (2*a.length-2) i)=2^(k+1):=by{rw[b,Xn]};by_cases hi0:i=0;{subst hi0;have:=J6 (f:=λi=>2^(k+1-lv a k (2*a.length-2) i)) c (show 1<a.length by omega) Za;have:=d 1;omega};have:=J6 (f:=λi=>2^(k+1-lv a k (2*a.length-2) i)) (show 0<a.length by omega) c Za;have:=d 0;omega};exact b
def width(S:I->Q I):I->I|0=>(S 0).length|k+1=>(S (k+1)).length*2^(k+1)+width S k
def lenOf(a:Q I)(L i:I):I:=if a.length=1 then 1 else lv a (L-1) (2*a.length-2) i
def TV{a:Q I}{L:I}(b:yQ a)(e:1<=L)(c:a.length<=2^L){i:I}(d:i<a.length):1<=lenOf a L i/\lenOf a L i<=L:=by unfold lenOf;split;{grind};obtain⟨K,rfl⟩:∃K,L=K+1:=⟨L-1,Za⟩;exact⟨ael b K Za c d,HA ..⟩
end
end Go.Pm
namespace Go.Srt
section
def cT(t:Q H):X4:=t.all λx=>decide (0<=x)&&We (x<=2147483647)
def tF(l:Q I):Prop:=∀x∈l,x<=2147483647
def bR(l a:Q I):Q I:=a.map λs=>l.getD s 0
end
end Go.Srt
namespace Go.Proofs.Q9
section
open Go Go.Vc Go.Srt Go.Pm
section
variable{E w:X0}{F:Q HP}
def aT(t:Q H):X5 G:=⟨t.map vI⟩
def gO{t:Q H}:(aT t).size=t.length:=by simp[aT]
def IS{t:Q H}{i:I}(h:i<t.length):(aT t)[i]?=Z (Sc.enc (.int .i64) t[i]):=by simp[aT,h,vI]
def N7{l:Q I}:aT (ints l)=ai .i64 l:=by unfold aT ints ai;rw[YC];rfl
theorem PA{t:Q H}(h:cT t=J):∃l:Q I,t=ints l/\tF l:=by have h:=List.all_eq_true.1 h;have b:∀x∈t,0<=x/\x<=2147483647:=λx a=>by{have:=h x a;simpa using this};refine⟨t.map H.toNat,?_,λy c=>?_⟩;{unfold ints;rw[YC];refine(Q.map_id t).symm.trans (ZX λx a=>?_);have:=b x a;simp;omega};grind
def xc{l:Q I}(h:tF l):cT (ints l)=J:=by refine List.all_eq_true.2 λx a=>?_;obtain⟨y,b,rfl⟩:=List.mem_map.1 a;have:=h y b;simp;omega
def jQ{l:Q I}:(ints l).length=l.length:=Zl _
theorem agL{x:H}{K:X4->ad}(a:K (!(decide (0<=x)&&We (x<=2147483647))) w):dQ Zj (.func (.func 281) ⟨[]⟩ ⟨[]⟩) [kB] [ni x] w K:=by refine dQ.mk Zc (wW.ok x K w ?_);refine aa.mk (λh=>?_) λh=>?_;{grind};have h:=X8 h;have e:(!(decide (0<=x)&&We (x<=2147483647)))=We (x>2147483647):=Ze;rw[e]at a;exact a
theorem xT{t:Q H}{K:X4->ad}(h:Hp E w F)(p:t.length=258)(j:bu E F (K (cT t))):aD 204 [.agg (aT t)] w K:=by refine yy.ok _ _ _ (Nw.mk h λb r m=>?_);refine cn.whole Zb O O ?_;refine jP.ok _ _ _ _ (lp.ok _ _ _ _ ?_);refine⟨λi w'=>∃k:I,i=(k:H)/\k<=258/\cT (t.take k)=J/\Hp E w' (aq b (.cells (aT t) 231 (0,0))::F),λi _=>258-i.toNat,⟨0,O,Za,O,m⟩,?_⟩;rintro i w' ⟨k,rfl,hk,hv,hh⟩;refine aa.mk (λd=>?_) λc=>?_;{have d:k<258:=by{have:=X9 d;simp only at this;omega};have e:k<t.length:=by{omega};have f:aN 1 (kh b 258) (t.map vI) w':=hh.ak (ae.aF (by simp[aT]) Ze);refine ay.rd f Za Ze λq u n=>Ld.sc (s:=.int .i64) t[k] (by rw[n];simp[vI]) (agL ?_);have l:cT (t.take (k+1))=(cT (t.take k)&&(decide (0<=t[k])&&We (t[k]<=2147483647))):=by{unfold cT;rw[Zx,XY,Zg e];simp};rw[hv,X4.true_and]at l;rw[<-l];refine aa.mk (λa=>?_) λa=>?_;{have a:cT (t.take (k+1))=U:=by{simpa using a};have o:cT t=U:=by{have:=Zv (k+1) t;rw[<-this];unfold cT at a⊢;rw[XY,a,X4.false_and]};have g:We ((k:H)>=0)=J:=by{simp};show K (! We ((k:H)>=0)) w';rw[g];have:=j w' hh.drop;rw[o]at this;exact this};have a:cT (t.take (k+1))=J:=by{simpa using a};rw[af Za];exact⟨⟨k+1,O,Za,a,hh⟩,by dsimp only;omega⟩};have c:k=258:=by{have:=X8 c;simp only at this;omega};subst c;have g:We ((-1:H)>=0)=U:=Zb;show K (! We ((-1:H)>=0)) w';rw[g];have:=j w' hh.drop;rw[Zr Za]at hv;rw[hv]at this;exact this
theorem VV{x y:H}{K:H->ad}(a:∀z:H,(z<0↔x<y)->K z w):bE 238 [ni x,ni y] w K:=by refine sU.ok _ _ _ _ (cmp_isNaN_int.ok _ _ _ (cmp_isNaN_int.ok _ _ _ ?_));refine aa.f Zd (aa.f Zd (aa.mk (λh=>a _ ?_) λh=>aa.mk (λb=>a _ ?_) λb=>a _ ?_));{grind};{have:=X8 h;omega};have:=X8 h;omega
def abM{l:Q I}{i:I}{k:Wl}(h:i<l.length):(ai k l)[i]?=Z (Sc.enc (.int k) (l.getD i 0:H)):=by rw[j9 h,Zn,Zg h];rfl
def agy{l:Q I}{b:I}{t:Wb}(j:l.length=258):zL E (aq b (.cells (ai .i64 l) t (0,0))::F) (.func (.func 280) ⟨[]⟩ ⟨[bU b]⟩) (BL l) (λx=>0<=x/\x<258):=by rintro A w y x K h ⟨c,k⟩ ⟨d,m⟩ f;refine dQ.mk Zc ?_;refine vn.ok y x ⟨b,0,V⟩ K w (aM.mk h λg e=>?_);have a:=e.perm Z1;refine aX.rd (s:=.int .i64) a d Za _ (abM Za) ?_;refine aX.rd (s:=.int .i64) a c Za _ (abM Za) ?_;refine VV λz i=>f z g ?_ e;rw[i];rfl
theorem Si{t:Q H}{K:Sl->ad}(h:Hp E w F)(f:t.length=258)(v:cT t=U->∀w',Hp E w' F->K ⟨V,0,0⟩ w')(z:∀l,t=ints l->tF l->l.length=258->∀ys s w',dI l ys->Hp E w' (an 1 s ((ints ys).map vI)::F)->K s w'):bS 203 [.agg (aT t)] w K:=by refine yL.ok _ _ _ (Nw.mk h λb w1 C=>Ld.arr C (by rw[gO,f]) (xT C f λM q=>?_));refine aa.mk (λr=>v Ze M q.drop) λr=>?_;have r:cT t=J:=by{simpa using r};obtain⟨l,rfl,N⟩:=PA r;rw[jQ]at f;rw[N7]at q;refine Ld.arr q (by rw[bG,f]) ?_;refine⟨λo i w'=>∃k:I,i=(k:H)/\k<=258/\Hp E w' (an 1 o ((ints (jq l k)).map vI)::aq b (.cells (ai .i64 l) 231 (0,0))::F),λ_ i _=>258-i.toNat,⟨0,rfl,Za,q.aV 1⟩,?_⟩;intro o i w' P;obtain⟨k,R,hk,u⟩:=P;subst R;refine aa.mk (λj=>?_) λg=>?_;{have j:k<258:=by{have:=X9 j;omega};have A:k<l.length:=by{omega};refine gu.rd (s:=.int .i64) Za Za _ (UR A) ?_;refine aa.mk (λc=>?_) λc=>?_;{have c:0<l.getD k 0:=by{have:=X9 c;omega};refine Nw.mk u λS G m=>?_;have T:=u.aU;have hu:=qg l k;simp only[Zl,ints,Zw]at T;refine bj (ys:=[vI (k:H)]) (n:=1) mP Zb (.inl ⟨3,Zc⟩) m.p1 (.inl ⟨Z ⟨S,0,V⟩,1,1,rfl,rfl,m.ak (ae.aF rfl rfl)⟩) rfl DH Za Za λs' w4 W X=>?_;rw[af Za];refine⟨⟨k+1,rfl,Za,?_⟩,by dsimp only;omega⟩;rw[oS,X3 c,J2,ZD];exact W.p1.drop};have c:¬0<l.getD k 0:=by{have:=X8 c;omega};rw[af Za];refine⟨⟨k+1,rfl,Za,?_⟩,by dsimp only;omega⟩;rw[oS,Wa c,ZF];exact u};have g:k=258:=by{have:=X8 g;omega};subst g;have B:∀x∈jq l 258,x<258:=λx p=>by{have:=(List.mem_filter.1 p).1;simpa using this};refine yC (key:=BL l) (D:=λx=>0<=x/\x<258) u (by have:=qg l 258;rw[aK];simp only[ints,Zl];omega) (agy f) (λx p=>?_) ?_ λys G c L m=>?_;{obtain⟨y,Y,rfl⟩:=List.mem_map.1 p;have:=B y Y;omega};{unfold ints;refine Q.Pairwise.map _ (λa b d=>Int.ofNat_lt.2 d) (Q.Pairwise.filter _ Q.pairwise_lt_range)};have hU:jq l 258=used l:=by{unfold jq used;rw[f]};rw[hU]at c;have e:ys=ints (ys.map H.toNat):=by{unfold ints;rw[YC];refine(Q.map_id ys).symm.trans (ZX λx p=>?_);obtain⟨y,_,rfl⟩:=List.mem_map.1 (c.mem_iff.1 p);simp};have pN:(ys.map H.toNat).Perm (used l):=by{have:=c.map H.toNat;refine this.trans ?_;unfold ints;rw[YC];refine Q.Perm.of_eq ((ZX λx _=>?_).trans (Q.map_id _));simp};rw[e]at m L;refine z l rfl N f (ys.map H.toNat) _ G ⟨pN,?_⟩ m.p1.drop;refine(List.pairwise_map.1 L).imp λ{a b} d=>?_;unfold Ky BL at d;simp only[Zi]at d;omega
def jF(x:It):Q G:=[ni (x.1:H),.bool x.2]
def fJ:∀x,(jF x).length=2:=λ_=>rfl
def rN:∀x,∀y∈jF x,aL y=J:=by intro x y a;simp only[jF,YT,Xf,or_false]at a;rcases a with rfl|rfl<;>rfl
def ph:cN Zj 298 303 2 16:=cN.of Zc Zc
def Uc{a:Q I}{k:I}(h:k<a.length):lN (a.take (k+1))=lN (a.take k)++[(a[k],J)]:=by unfold lN;rw[Zx,ZD,Zg h];rfl
def Rm{s:Sl}{a:Q I}{i:I}{K:H->Prop}(b:aN 1 s ((ints a).map vI) w)(f:i<a.length)(c:K (a[i]:H)):ay s (i:H) 1 λq=>Ld kI q w K:=by have d:=b.1;simp only[Zl,ints,Zw]at d;refine ay.rd b Za Za λq g e=>Ld.sc (s:=.int .i64) (a[i]:H) ?_ c;rw[e];simp[vI,ints]
def Uq{l a:Q I}{s:Sl}{K:Sl->ad}(h:Hp E w F)(v:l.length=258)(m:ae F (aN 1 s ((ints a).map vI)))(e:∀x∈a,x<258)(n:a.length<=258)(p:∀f w',Hp E w' (an 2 f ((lN (bR l a)).flatMap jF)::F)->K f w'):bS 205 [.agg (ai .i64 l),aj s] w K:=by refine xH.ok _ _ _ _ ?_;have j:=(h.ak m).1;simp only[Zl,ints,Zw]at j;have q:(bR l a).length=a.length:=Zl _;refine Nw.mk h λb y r=>⟨λo i w'=>∃k:I,i=(k:H)/\k<=a.length/\Hp E w' (an 2 o ((lN ((bR l a).take k)).flatMap jF)::aq b (.cells (ai .i64 l) 231 (0,0))::F),λ_ i _=>a.length-i.toNat,⟨0,O,Za,by simpa[lN]using r.aV 2⟩,?_⟩;rintro o i w' ⟨k,rfl,hk,hh⟩;refine aa.mk (λc=>?_) λd=>?_;{have c:k<a.length:=by{have:=X9 c;omega};have z:=e _ (Zs c);refine Rm (hh.drop.drop.ak m) c (aX.rd (s:=.int .i64) hh.p1 Za Za _ (UR Za) ?_);have t:(bR l a)[k]' Za=l.getD a[k] 0:=by{simp[bR]};refine rE (g:=jF) (x:=(l.getD a[k] 0,J)) ph fJ Zb O (rN _) hh (by rw[gk,Zy];omega) (by rw[gk,Zy];omega) λf A u _=>?_;rw[af Za];refine⟨⟨k+1,O,Za,?_⟩,by dsimp only;omega⟩;rw[Uc Za,t];exact u};have d:k=a.length:=by{have:=X8 d;omega};subst d;rw[Zr Za]at hh;exact p _ _ hh.p1.drop
end
end
end Go.Proofs.Q9
namespace Go.Srt
section
def je(a:Q I)(f:I->I):Q I:=(Zt 258).map λs=>if s∈a then f (a.idxOf s)else 0
def kq(a:Q I)(f:I->I):(je a f).length=258:=by simp[je]
def RJ{a:Q I}{f:I->I}{s:I}(b:s<258):(je a f).getD s 0=if s∈a then f (a.idxOf s)else 0:=by unfold je;rw[Zn,ZZ,Yh b];rfl
def Dp:∀{a:Q I}(_:a.Nodup){i:I}(d:i<a.length),a.idxOf a[i]=i|y::a,h,0,_=>by simp[Q.idxOf_cons]|y::a,h,i+1,d=>by obtain⟨f,g⟩:=List.nodup_cons.1 h;have b:i<a.length:=by{simpa using d};have c:¬y=a[i]:=λe=>f (e▸Zs b);have:=Dp g b;have e:(y==a[i])=U:=by{simpa using c};simp only[YF,Q.idxOf_cons,this,e,cond_false]
def Fb{a:Q I}{f:I->I}(d:a.Nodup)(b:∀s∈a,s<258){i:I}(c:i<a.length):(je a f).getD a[i] 0=f i:=by rw[RJ (b _ (Zs c)),X3 (Zs c),Dp d c]
def yI{a:Q I}{f g:I->I}(h:∀i,i<a.length->f i=g i):je a f=je a g:=by unfold je;refine ZX λs _=>?_;by_cases hs:s∈a;{grind};grind
def Of{a:Q I}{f:I->I}{i v:I}(c:a.Nodup)(d:i<a.length):(je a f).set a[i] v=je a (λj=>if j=i then v else f j):=by refine Yu (by simp[je]) λs g b=>?_;have h:s<258:=by{rw[kq]at b;exact b};rw[Q.getElem_set];unfold je;simp only[Xr,Q.getElem_range];by_cases e:a[i]=s;{grind};grind
def VJ(a:Q I):je a (λ_=>0)=Zh 258 0:=by refine List.eq_replicate_iff.2 ⟨kq ..,λx b=>?_⟩;obtain⟨s,_,rfl⟩:=List.mem_map.1 b;split<;>rfl
def yK{l c:Q I}(h:dI l c):c.Nodup:=h.2.imp λ{a b} d e=>by subst e;omega
def E1{l d:Q I}(h:dI l d):Pm.yQ (bR l d):=Q.Pairwise.map _ (λ_ _ c=>c) (h.2.imp λ{a b} c=>Za)
end
end Go.Srt
namespace Go.Proofs.Q9
section
open Go Go.Vc Go.Srt Go.Pm
section
variable{E w:X0}{F:Q HP}
def TY{R:Q It}{j:I}(h:2*j+1<R.length):bB (R.drop (2*j))=((R[2*j]' Za).1+R[2*j+1].1,U)::bB (R.drop (2*(j+1))):=by rw[Zu (show 2*j<R.length by omega),Zu (show 2*j+1<R.length by omega),bB];rfl
def TE{R:Q It}{j:I}(h:¬2*j+1<R.length):bB (R.drop (2*j))=[]:=by have:(bB (R.drop (2*j))).length=0:=by{rw[fo,ZB];omega};exact List.length_eq_zero_iff.1 this
theorem afZ{y N:Sl}{A R:Q It}{K:Sl->X0->Prop}(h:Hp E w F)(P:ae F (aN 2 y (A.flatMap jF)))(S:ae F (aN 2 N (R.flatMap jF)))(hcap:y.len<=y.cap)(hb:∀x∈R,x.1<=2^60)(hlA:A.length<=2^20)(hlR:R.length<=2^20)(hK:∀z w',Hp E w' (an 2 z ((kA A (bB R)).flatMap jF)::F)->K z w'):Cl Zj [kS] 206 ⟨[.slice y.base y.len y.cap,.slice N.base N.len N.cap]⟩ w K:=by refine zZ.ok _ _ _ _ ?_;have la:=aN.len fJ Zb (h.ak P);have lr:=aN.len fJ Zb (h.ak S);have T:=fo R;have htl:(kA A (bB R)).length=A.length+R.length/2:=by{rw[Oa,T]};have B:∀o X:Q It,o++X=kA A (bB R)->o.length<=2^21:=λo X e=>Ze;refine⟨λo k i w'=>∃(a j:I)(l:Q It),k=(a:H)/\i=((2*j:I):H)/\a<=A.length/\2*j<=R.length/\l++kA (A.drop a) (bB (R.drop (2*j)))=kA A (bB R)/\Hp E w' (an 2 o (l.flatMap jF)::F),λ_ _ i _=>R.length-i.toNat,⟨0,0,[],O,O,Za,Za,Zd,h.aV 2⟩,?_⟩;rintro o k i w' ⟨a,j,l,rfl,rfl,ha,hj,heq,hh⟩;have W:=B _ _ heq;rw[af (x:=((2*j:I):H)+1) Za];refine aa.mk (λd=>?_) λt=>?_;{have d:2*j+1<R.length:=by{have:=X9 d;omega};rw[TY d]at heq;have hx1:=hb _ (Zs (show 2*j<R.length by omega));have pQ:=hb _ (Zs d);have u:Hp E {w' with drawn:=w'.drawn+1} (an 2 o (l.flatMap jF)::F):=hh.drew;refine⟨gF E F,gF.xr u,?_⟩;refine ay.elT (n:=2*j) fJ Zb u.drop S O Za λp C=>?_;refine aO.sc (s:=.int .i64) ((R[2*j]' Za).1:H) (λY D=>(D.ak (C 0 Zb)).trans (by simp[jF])) ?_;refine ay.elT (n:=2*j+1) fJ Zb u.drop S Za d λq hq=>?_;refine aO.sc (s:=.int .i64) (R[2*j+1].1:H) (λY D=>(D.ak (hq 0 Zb)).trans (by simp[jF])) ?_;rw[af (x:=((R[2*j]' Za).1:H)+(R[2*j+1].1:H)) Za];generalize hp1:(R[2*j]' Za).1+R[2*j+1].1=p1 at heq;have G:((R[2*j]' Za).1:H)+(R[2*j+1].1:H)=(p1:H):=by{omega};rw[G];refine Nw.mk u λb w3 h3=>⟨gF.mk2 h3,?_⟩;refine aB.aF h3 O (rN (p1,U)) λw4 h4=>⟨gF.mk2 h4,?_⟩;refine⟨λo k w'=>∃(a:I)(l:Q It),k=(a:H)/\a<=A.length/\l++kA (A.drop a) ((p1,U)::bB (R.drop (2*(j+1))))=kA A (bB R)/\Hp E w' (an 2 o (l.flatMap jF)::aq b (.cells ⟨jF (p1,U)⟩ 303 (0,0))::F),λ_ k _=>A.length-k.toNat,⟨a,l,O,ha,heq,h4.p1⟩,?_⟩;rintro o k w5 ⟨a,l,rfl,ha,heq,hh⟩;have W:=B _ _ heq;refine aM.mk hh λw6 m=>?_;rw[af (x:=((2*j:I):H)+2) Za];have r:A.drop a=[]\/(∃(_:a<A.length),¬A[a].1<=p1)->(l++[(p1,U)])++kA (A.drop a) (bB (R.drop (2*(j+1))))=kA A (bB R):=by{rintro(e|⟨L,f⟩);{rw[e,uO]at heq;rw[e,uO,<-heq];simp};rw[Zu L,KE f]at heq;rw[Zu L,<-heq];simp};refine aa.mk (λc=>?_) λc=>?_;{have c:a<A.length:=by{have:=X9 c;omega};refine ay.el (n:=a) fJ Zb (m.drop.drop.ak P) O c λp C=>?_;refine Ld.sc (s:=.int .i64) (A[a].1:H) (by rw[C 0 Zb];simp[jF]) ?_;rw[ao];refine Ld.aF m.p1 (p1:H) (by simp[jF]) ?_;refine aa.mk (λv=>?_) λf=>?_;{have v:A[a].1<=p1:=by{have:=X9 v;omega};rw[Zu c,KX v]at heq;refine ay.el (n:=a) fJ Zb (m.drop.drop.ak P) O c λp C=>?_;refine Ld.st (ks:=[.int .i64,.bool]) ((A[a].1:H),A[a].2,()) (λj hj=>C j hj) ?_;refine rE (g:=jF) (x:=A[a]) ph fJ Zb O (rN _) m Za Za λz w7 M _=>?_;rw[af Za];refine⟨⟨a+1,l++[A[a]],O,Za,?_,M⟩,by dsimp only;omega⟩;rw[<-heq];simp};have f:¬A[a].1<=p1:=by{have:=X8 f;omega};refine Ld.wc (ks:=[.int .i64,.bool]) m.p1 ((p1:H),U,()) O ?_;refine rE (g:=jF) (x:=(p1,U)) ph fJ Zb O (rN _) m Za Za λz w7 M _=>?_;exact⟨⟨a,j+1,l++[(p1,U)],O,Za,ha,Za,r (.inr ⟨c,f⟩),M.p1.drop⟩,by dsimp only;omega⟩};have c:A.drop a=[]:=by{grind};refine Ld.wc (ks:=[.int .i64,.bool]) m.p1 ((p1:H),U,()) O ?_;refine rE (g:=jF) (x:=(p1,U)) ph fJ Zb O (rN _) m Za Za λz w7 M _=>?_;exact⟨⟨a,j+1,l++[(p1,U)],O,Za,ha,Za,r (.inl c),M.p1.drop⟩,by dsimp only;omega⟩};have t:¬2*j+1<R.length:=by{have:=X8 t;omega};rw[TE t,E0]at heq;refine cn.el (a:=a) (b:=A.length) (l:=A) fJ la O (by rw[la]) ha (ZA _) Za (H.le_refl _) λz hs' hl' _=>?_;have u:=hs' w' (hh.drop.ak P);rw[Zr Ze]at u;have hdl:(A.drop a).length<=2^20:=by{rw[ZB];omega};refine afw (g:=jF) ph fJ Zb rN hh u Za Za λs2 Y D _=>hK s2 Y ?_;rw[<-heq];exact D
end
end
end Go.Proofs.Q9
namespace Go.Pm
section
def Ao{M:I}:∀{l:Q It},(∀x∈l,x.1<=M)->∀x∈bB l,x.1<=2*M|[],_,x,h=>by simp[bB]at h|[_],_,x,h=>by simp[bB]at h|a::b::l,hl,x,h=>by rw[bB]at h;(rcases List.mem_cons.1 h with rfl|h);{have:=hl a Zd;have:=hl b Zd;simp only;omega};exact Ao (λy c=>hl y (by simp[c])) x h
def FP{c:Q I}{M:I}(h:∀x∈c,x<=M):∀k,∀x∈row c k,x.1<=M*2^k|0,x,a=>by{obtain⟨y,b,rfl⟩:=List.mem_map.1 a;simpa using h y b}|k+1,x,a=>by(rcases List.mem_append.1 ((KD _ _).mem_iff.1 a)with a|a);{obtain⟨y,b,rfl⟩:=List.mem_map.1 a;have:=h y b;have:=I.le_mul_of_pos_right M (Ym (k+1));simp only;omega};have:=Ao (FP h k) x a;rw[Yx];rw[<-Xs];omega
def uY(a:Q I):∀k,(row a k).length<=2*a.length|0=>by rw[row,gk];omega|k+1=>by have:=uY a k;rw[eU];omega
def P8{l:Q It}{j:I}(h:j<l.length):cB (l.take (j+1))=cB (l.take j)+if l[j].2=J then 1 else 0:=by unfold cB;rw[Zx,Y9,Zf,Zg h];congr 1;by_cases e:l[j].2=J;{rw[X3 e];simp[e]};rw[K e];simp[e]
def CD{l:Q It}{a b:I}(h:a<=b):cB (l.take a)<=cB (l.take b):=by have:=Zv a (l.take b);rw[Q.take_take,Y0 h]at this;have c:=Wm cB this;rw[rL]at c;omega
def T1(a:Q I){L:I}(b:1<=L)(i:I):lenOf a L i<=L:=by unfold lenOf;split;{exact b};have:=HA a (L-1) (2*a.length-2) i;omega
def Tn{a:Q I}(h:yQ a)(k m:I)(b:m<=(row a k).length):cB ((row a k).take m)<=a.length:=by cases k with|zero=>rw[row,gk]at b;rw[(A6 m b).1];exact b|succ k=>exact(qv h k m b).2.1
end
end Go.Pm
namespace Go.Proofs.Q9
section
open Go Go.Vc Go.Srt Go.Pm
section
variable{E w:X0}{F:Q HP}
def vA{b:I}{t:Wb}{l:Q I}{K:X5 G->ad}(h:Hp E w (aq b (.cells (ai .u8 l) t (0,0))::F))(a:l.length=258)(e:bu E (aq b (.cells (ai .u8 l) t (0,0))::F) (K (ai .u8 l))):Ld (.arr 258) ⟨b,0,V⟩ w λx=>aH 258 ⟨b,0,V⟩ x w λc=>Ld (.arr 258) ⟨b,0,V⟩ c λr=>K r c:=Ld.arr h (by rw[bG,a]) (aH.aF h (by rw[bG,a]) (by rw[bG,a]) kK λc d=>Ld.arr d (by rw[bG,a]) (e c d))
def sM(s:Sl):Q G:=[aj s]
def uC:∀x,(sM x).length=1:=λ_=>rfl
def ae0:∀x,∀y∈sM x,aL y=J:=by intro x y a;have:y=aj x:=by{simpa[sM]using a};rw[this];rfl
def acx:cN Zj 300 298 1 24:=cN.of Zc Zc
def DE(b:Q I)(a:Q Sl)(G:Q HP):Prop:=∀j(c:j<a.length),ae G (aN 2 a[j] ((row b j).flatMap jF))/\a[j].len<=a[j].cap
def DE.more{c:Q I}{b:Q Sl}{G:Q HP}{s:Sl}(h:DE c b G)(d:s.len<=s.cap):DE c (b++[s]) (an 2 s ((row c b.length).flatMap jF)::G):=by intro j e;(rcases Yc j b.length with a|f);{rw[Q.getElem_append_left a];exact⟨(h j a).1.cons,(h j a).2⟩};have:j=b.length:=by{simp at e;omega};subst this;simp only[Q.getElem_append_right (ZA _),XD,ZH];exact⟨ae.own,d⟩
theorem adE{L:I}(c:L<=15):bH .i64 1 (u64 (L:H))=((2^L:I):H)/\(0:H)<=u64 (L:H):=by rw[iJ Za];have d:2^L<=2^15:=ZT Zb c;have e:YR .i64=9223372036854775807:=O;have:=dO (k:=.i64) (a:=1) (b:=L) (by have:Wl.bits .i64=64:=O;omega) Ze;rw[I.one_mul]at this;exact⟨this,Za⟩
def P0{l ys:Q I}(a:tF l):∀x∈bR l ys,x<=2147483647:=by intro x b;obtain⟨s,_,rfl⟩:=List.mem_map.1 b;rw[Zn];cases h:l[s]? with|none=>simp|some y=>exact a y (YO h)
def agR{l ys:Q I}(a:tF l){k:I}(b:k<=15):∀x∈row (bR l ys) k,x.1<=2^60:=by intro x c;have e:=FP (P0 (ys:=ys) a) k x c;have d:2^k<=2^15:=ZT Zb b;have:=I.mul_le_mul_left 2147483647 d;omega
theorem Mr{t:Q H}{L:H}{K:X5 Ws->H->X0->Prop}(h:Hp E w F)(hl:t.length=258)(Y:(cT t=U\/L<1\/15<L\/∃l,t=ints l/\(2:H)^L.toNat<(used l).length)->∀w',Hp E w' F->K (ai .u8 (Zh 258 0)) 2 w')(hK2:∀l ys w',t=ints l->tF l->dI l ys->1<=L->L<=15->ys.length<=2^L.toNat->Hp E w' F->K (ai .u8 (je ys (lenOf (bR l ys) L.toNat))) 0 w'):Cl Zj [.arr 258,kI] 136 ⟨[.agg (aT t),.int .i64 L]⟩ w K:=by refine vg.ok _ _ _ _ ?_;rw[Ec];simp only[bN];refine Nw.mk h λb4 w1 h1=>Nw.mk h1 λb6 w2 h2=>Ld.arr h2.p1 (by rw[gO,hl]) (Si h2 hl (λhv w3 h3=>?_) λl hte hm hll ys s w3 A h3=>?_);{refine Ld.arr h3.p1 (by rw[gO,hl]) (xT h3 hl λw4 D=>aa.t Ze (vA D Zd λw5 u=>Y (.inl hv) w5 u.drop.drop))};subst hte;have hlen:=aey hll A;have hin:=afN hll A;have hsl:s.len=ys.length:=by{have:=(h3.ak ae.own).1;simp only[Zl,ints,Zw]at this;exact this.symm};refine Ld.arr h3.p2 (by rw[gO,hl]) (xT h3 hl λw4 D=>aa.f (by rw[xc hm];rfl) ?_);refine aa.mk (λhlt=>vA D.p1 Zd λw5 u=>Y (.inr (.inl (X9 hlt))) w5 u.drop.drop.drop) λM=>?_;have M:=X8 M;refine aa.mk (λhgt=>vA D.p1 Zd λw5 u=>Y (.inr (.inr (.inl Ze))) w5 u.drop.drop.drop) λhle=>?_;have hle:=X8 hle;obtain⟨N,rfl⟩:=H.eq_ofNat_of_zero_le (show 0<=L by omega);have hN:N<=15:=Za;have hN1:1<=N:=Za;obtain⟨e1,e2⟩:=adE hN;rw[e1];refine⟨e2,aa.mk (λhgt=>vA D.p1 Zd λw5 u=>Y (.inr (.inr (.inr ⟨l,rfl,?_⟩))) w5 u.drop.drop.drop) λhle2=>?_⟩;{have hgt:=X9 hgt;rw[Zi,<-A.1.length_eq,<-hsl];rw[show(2:H)^N=((2^N:I):H) by norm_cast];exact hgt};have hle2:ys.length<=2^N:=by{have:=X8 hle2;omega};have P:=E1 A;have hwl:(bR l ys).length=ys.length:=Zl _;have hnd:=yK A;have z:∀s∈ys,s<258:=λs hs=>(hin s hs).1;have R:∀w',Hp E w' F->K (ai .u8 (je ys (lenOf (bR l ys) N))) 0 w':=λw' h'=>hK2 l ys w' rfl hm A Za Za Ze h';rw[<-VJ ys]at D;refine aa.mk (λh1=>?_) λh1=>?_;{have h1:ys.length=1:=by{have:(s.len:H)=1:=by{simpa using h1};omega};refine Rm (i:=0) (D.ak ae.own) Za ?_;have hx:=z _ (Zs (show 0<ys.length by omega));refine aX.wr D.p1 Za Za (by rw[bG,kq]) rfl λw5 u=>?_;rw[Zi]at u;have e:=Ik (k:=.u8) (l:=je ys λ_=>0) (i:=ys[0]) (x:=1);rw[show(Yv .u8 1)=.int .u8 ((1:I):H)from rfl,e,Of hnd Za]at u;have e3:je ys (λj=>if j=0 then 1 else 0)=je ys (lenOf (bR l ys) N):=yI λi S=>by{have:i=0:=by{omega};subst this;unfold lenOf;rw[X3 rfl,X3 Za]};rw[e3]at u;exact vA u (kq ..) λw6 h6=>R w6 h6.drop.drop.drop};have h1:ys.length≠1:=Ze;rw[N7]at D;refine Ld.arr D.p2 (by rw[bG,hll]) (Uq D hll ae.own z hlen λs0 w5 u=>Nw.mk u λb38 w6 h6=>?_);have hc0:=u.gA;refine⟨λo k w'=>∃(g:Q Sl)(G:Q HP),k=(g.length:H)/\1<=g.length/\g.length<=N/\DE (bR l ys) g G/\Hp E w' (an 1 o (g.flatMap sM)::aq b6 (.cells (ai .u8 (je ys λ_=>0)) 166 (0,0))::an 1 s ((ints ys).map vI)::aq b4 (.cells (ai .i64 l) 231 (0,0))::(G++F)),λ_ k _=>N-k.toNat,⟨[s0],[an 2 s0 ((lN (bR l ys)).flatMap jF)],rfl,ZA _,hN1,?_,?_⟩,?_⟩;{intro j hj;have:j=0:=by{simp at hj;omega};subst this;exact⟨ae.own,hc0⟩};{exact((h6.nw (sz:=1) (n:=1) rfl).p1.q4).p2.p1};rintro o k w7 ⟨g,G,rfl,hr1,hrN,hrs,C⟩;have hrl:=aN.len uC Zb (C.ak ae.own);refine aa.mk (λhlt=>?_) λM=>?_;{have hlt:g.length<N:=by{have:=X9 hlt;omega};have hd:Hp E {w7 with drawn:=w7.drawn+1} _:=C.drew;have hrd:∀w',Hp E w' (an 1 o (g.flatMap sM)::aq b6 (.cells (ai .u8 (je ys λ_=>0)) 166 (0,0))::an 1 s ((ints ys).map vI)::aq b4 (.cells (ai .i64 l) 231 (0,0))::(G++F))->aN 1 o (g.flatMap sM) w':=λw' h'=>h'.ak ae.own;have key:∀(i:I)(S:i<g.length){K:Wg->Prop},(∀p,(∀w,aN 1 o (g.flatMap sM) w->w.cell? p=Z (.slice g[i].base g[i].len g[i].cap))->K p)->ay o (i:H) 1 K:=by{intro i S K hK;obtain⟨p,hp,_⟩:=(hrd _ hd).2 i (by rw[cS uC];omega);refine⟨p,hp,Za,Za,hK _ λw2 h2=>?_⟩;obtain⟨q,hq,hc⟩:=h2.2 i (by rw[cS uC];omega);have:q=p:=XE (hq.symm.trans hp);subst this;rw[Zi,Zw,hc];have:=jC uC g i 0 S Zb;rw[Zw,Zq]at this;rw[<-Zg,this];rfl};have hr0:=hrs 0 Za;have hrk:=hrs (g.length-1) Za;refine⟨aN 1 o (g.flatMap sM),hrd _ hd,?_⟩;refine key 0 Za λp hp=>aO.sc (s:=.sl) g[0] hp ?_;rw[show i64 ((g.length:H)-1)=((g.length-1:I):H) by rw[af Za];omega];refine key (g.length-1) Za λq hq=>aO.sc (s:=.sl) g[g.length-1] hq ?_;have hlr:=uY (bR l ys) (g.length-1);refine afZ hd (ae.cons (ae.cons (ae.cons (ae.cons hr0.1.O1)))) (ae.cons (ae.cons (ae.cons (ae.cons hrk.1.O1)))) hr0.2 (agR hm Za) (by rw[row,gk];omega) Za λs' w8 h8=>?_;have hcs:=h8.gA;refine⟨hrd _ h8.drop,Nw.mk h8 λb53 w9 h9=>⟨hrd _ h9.drop.drop,?_⟩⟩;refine Az (ys:=sM s') (n:=1) acx Zb (.inl ⟨298,Zc⟩) h9.p2 (.inl ⟨_,_,_,rfl,rfl,h9.ak (ae.aF rfl rfl)⟩) rfl (ae0 s') Za Za λs2 w10 h10 _ hold=>⟨hold,?_⟩;have e:g.length-1+1=g.length:=by{omega};have er:kA (row (bR l ys) 0) (bB (row (bR l ys) (g.length-1)))=row (bR l ys) g.length:=by{(conv=>rhs;rw[<-e,row]);rfl};rw[er]at h10;rw[af Za];refine⟨⟨g++[s'],an 2 s' ((row (bR l ys) g.length).flatMap jF)::G,Zd,Zd,by simp;omega,hrs.more hcs,?_⟩,by dsimp only;omega⟩;have h11:=h10.p1.drop;rw[Xm,show[s'].flatMap sM=sM s' by simp];exact h11.p1.q4};have M:g.length=N:=by{have:=X8 M;omega};have tot15:∀i,lenOf (bR l ys) N i<=15:=λi=>Z9 (T1 _ hN1 i) hN;have htot:∀i,lenOf (bR l ys) N i=lv (bR l ys) (N-1) (2*ys.length-2) i:=λi=>by{unfold lenOf;rw[Wa Za,hwl]};refine⟨λT k w'=>∃f:I->I,(((k=-1\/T<=0)/\-1<=k/\k<N/\∀i,i<ys.length->f i=lenOf (bR l ys) N i)\/(∃c m:I,k=(c:H)/\c<N/\T=(m:H)/\m<=(row (bR l ys) c).length/\∀i,i<ys.length->f i+lv (bR l ys) c m i=lenOf (bR l ys) N i))/\Hp E w' (aq b6 (.cells (ai .u8 (je ys f)) 166 (0,0))::an 1 o (g.flatMap sM)::an 1 s ((ints ys).map vI)::aq b4 (.cells (ai .i64 l) 231 (0,0))::(G++F)),λ_ k _=>(k+1).toNat,⟨λ_=>0,?_,C.p1⟩,?_⟩;{rw[af (x:=2*(s.len:H)) Za,af (x:=2*(s.len:H)-2) Za,af Za];(rcases Yd ys.length with h0|h0);{grind};refine .inr ⟨N-1,2*ys.length-2,Za,Za,Za,?_,λi _=>by rw[htot,Zk]⟩;rw[<-hwl];exact CI (N-1) Ze};rintro T k w8 ⟨f,X,C⟩;have done:(∀i,i<ys.length->f i=lenOf (bR l ys) N i)->Hp E w8 (aq b6 (.cells (ai .u8 (je ys (lenOf (bR l ys) N))) 166 (0,0))::an 1 o (g.flatMap sM)::an 1 s ((ints ys).map vI)::aq b4 (.cells (ai .i64 l) 231 (0,0))::(G++F)):=λS=>by{rw[<-yI S];exact C};refine aa.mk (λhk=>?_) λhk=>?_;{have hk:=X9 hk;refine aa.mk (λr=>?_) λr=>?_;{have r:=X9 r;(rcases X with⟨h0,_⟩|⟨c,m,rfl,hkN,rfl,B,X⟩);{omega};have hrk:=hrs c Za;have hlr:=uY (bR l ys) c;refine ay.el (n:=c) uC Zb (C.p1.ak ae.own) rfl Za λp hp=>?_;refine Ld.sc (s:=.sl) g[c] (by have:=hp 0 Zb;rw[add_zero]at this;rw[this];rfl) ?_;have hrt:ae (G++F) (aN 2 g[c] ((row (bR l ys) c).flatMap jF)):=hrk.1.O1;have hrl2:=aN.len fJ Zb (C.drop.drop.drop.drop.ak hrt);refine cn.el (a:=0) (b:=m) (l:=row (bR l ys) c) fJ hrl2 rfl rfl Za B Za (H.le_refl _) λsm hsm hsml _=>?_;have hsm2:ae (G++F) (aN 2 sm (((row (bR l ys) c).take m).flatMap jF)):=hrt.imp λw' hw'=>by{simpa using hsm w' hw'};refine⟨λwh j w'=>∃d:I,j=(d:H)/\d<=m/\wh=(cB ((row (bR l ys) c).take d):H)/\Hp E w' (aq b6 (.cells (ai .u8 (je ys λi=>f i+if i<cB ((row (bR l ys) c).take d)then 1 else 0)) 166 (0,0))::an 1 o (g.flatMap sM)::an 1 s ((ints ys).map vI)::aq b4 (.cells (ai .i64 l) 231 (0,0))::(G++F)),λ_ j _=>m-j.toNat,⟨0,rfl,Za,rfl,C⟩,?_⟩;rintro wh j w9 ⟨d,rfl,hj,rfl,C⟩;have hlfm:=CD (l:=row (bR l ys) c) (show d<=m from hj);have hlfn:=Tn P c m B;refine aa.mk (λv=>?_) λv=>?_;{have v:d<m:=by{have:=X9 v;omega};have hjr:d<(row (bR l ys) c).length:=by{omega};have y:=P8 hjr;have hlfm2:=CD (l:=row (bR l ys) c) (show d+1<=m from v);refine ay.el (n:=d) fJ Zb (C.drop.drop.drop.drop.ak hsm2) rfl Ze λp hp=>?_;rw[Y4]at hp;refine Ld.st (ks:=[.int .i64,.bool]) (((row (bR l ys) c)[d].1:H),(row (bR l ys) c)[d].2,()) (λj hj=>hp j hj) ?_;refine Nw.mk C λb80 w10 h10=>aB.aF h10 rfl (rN (row (bR l ys) c)[d]) λw11 h11=>?_;rw[ao];refine Ld.aF h11 (row (bR l ys) c)[d].2 Ze ?_;have h12:=h11.drop;refine aa.mk (λhlf=>?_) λhlf=>?_;{rw[X3 hlf]at y;have W:cB ((row (bR l ys) c).take d)<ys.length:=by{omega};have hx:=z _ (Zs W);have hfi:=X _ W;have h15:=tot15 (cB ((row (bR l ys) c).take d));have hlv:1<=lv (bR l ys) c m (cB ((row (bR l ys) c).take d)):=by{cases c with|zero=>unfold lv whole;rw[X3 Za];exact ZA _|succ c=>unfold lv whole;rw[X3 Za];omega};refine Rm (h12.p2.ak ae.own) W ?_;refine aX.rd (s:=.int .u8) h12 Za Za _ (UR (by rw[kq];omega)) ?_;rw[Fb hnd z W,Wa Za,Zq];refine aX.wr h12 Za Za (by rw[bG,kq]) rfl λw13 h13=>?_;rw[Zi,jh Za,show((f (cB ((row (bR l ys) c).take d)):H)+1)=((f (cB ((row (bR l ys) c).take d))+1:I):H) by omega,Ik,Of hnd W]at h13;rw[af (x:=(cB ((row (bR l ys) c).take d):H)+1) Za,af Za];refine⟨⟨d+1,rfl,Za,Za,?_⟩,by dsimp only;omega⟩;rw[y];have e:je ys (λi=>f i+if i<cB ((row (bR l ys) c).take d)+1 then 1 else 0)=je ys (λj=>if j=cB ((row (bR l ys) c).take d)then f (cB ((row (bR l ys) c).take d))+1 else f j+if j<cB ((row (bR l ys) c).take d)then 1 else 0):=yI λi _=>Ze;rw[e];exact h13};rw[Wa Ze]at y;have y:cB ((row (bR l ys) c).take (d+1))=cB ((row (bR l ys) c).take d):=y;rw[af Za];refine⟨⟨d+1,rfl,Za,by rw[y],?_⟩,by dsimp only;omega⟩;rw[y];exact h12};have v:d=m:=by{have:=X8 v;omega};subst v;have hlj:cB ((row (bR l ys) c).take d)<=d:=by{unfold cB;have:=Q.length_filter_le (λx:It=>x.2) ((row (bR l ys) c).take d);rw[Zy]at this;omega};rw[af (x:=(d:H)-_) Za,af (x:=2*_) Za,af Za];refine⟨⟨_,?_,C⟩,by dsimp only;omega⟩;cases c with|zero=>refine .inl ⟨.inl Za,Za,Za,λi S=>?_⟩;have:=X i S;unfold lv whole at this;exact this|succ c=>refine .inr ⟨c,2*(d-whole (bR l ys) (c+1) d),Za,Za,?_,(qv P c d B).2.2.1,λi S=>?_⟩;{show 2*((d:H)-(whole (bR l ys) (c+1) d:H))=_;have:whole (bR l ys) (c+1) d<=d:=hlj;omega};have:=X i S;rw[lv]at this;rw[<-this];unfold whole;omega};have r:=X8 r;refine vA (done ?_) (kq ..) λw9 h9=>R w9 h9.drop.drop.drop.drop.rY;(rcases X with⟨_,_,_,h0⟩|⟨c,m,rfl,hkN,rfl,B,X⟩);{exact h0};intro i S;have h0:=X i S;have hm0:m=0:=by{omega};subst hm0;rw[EK P c 0 i B (by simp[whole,cB]),Zq]at h0;exact h0};have hk:=X8 hk;refine vA (done ?_) (kq ..) λw9 h9=>R w9 h9.drop.drop.drop.drop.rY;(rcases X with⟨_,_,_,h0⟩|⟨c,m,rfl,hkN,rfl,B,X⟩);{exact h0};omega
end
end
end Go.Proofs.Q9
namespace Go.Pm
section
structure RIt where
 w:I
 sym:H
 one:I
 two:I
end
end Go.Pm
namespace Go.Proofs.Q9
section
open Go Go.Vc Go.Srt Go.Pm
section
variable{E w:X0}{F:Q HP}
abbrev RK:Q Sc:=ew
def tR(x:RIt):TT RK:=((x.w:H),x.sym,(x.one:H),(x.two:H),())
end
end
end Go.Proofs.Q9
namespace Go.Srt
section
def Cz(l:Q I):∃ys,dI l ys:=by have f:∀a b c:I,We (l.getD a 0<l.getD b 0\/(l.getD a 0=l.getD b 0/\a<=b))=J->We (l.getD b 0<l.getD c 0\/(l.getD b 0=l.getD c 0/\b<=c))=J->We (l.getD a 0<l.getD c 0\/(l.getD a 0=l.getD c 0/\a<=c))=J:=Ze;have g:∀a b:I,(decide (l.getD a 0<l.getD b 0\/(l.getD a 0=l.getD b 0/\a<=b))||We (l.getD b 0<l.getD a 0\/(l.getD b 0=l.getD a 0/\b<=a)))=J:=Ze;have i:=Q.pairwise_mergeSort (le:=λa b=>decide (l.getD a 0<l.getD b 0\/(l.getD a 0=l.getD b 0/\a<=b))) f g (used l);have e:=Q.mergeSort_perm (used l) λa b=>decide (l.getD a 0<l.getD b 0\/(l.getD a 0=l.getD b 0/\a<=b));have j:(used l).Nodup:=Q.Pairwise.filter _ (Q.nodup_range (n:=l.length));have d:=e.nodup_iff.2 j;exact⟨_,e,(i.and d).imp λ{a b} h=>by have:=X9 h.1;have:=h.2;omega⟩
structure gm (t:Q H) (L:H) (u ys:Q I) (N:I):Prop where
 eq:t=Proofs.Q9.ints u
 max:tF u
 len:u.length=258
 ord:dI u ys
 lim:L=(N:H)
 one:1<=N
 top:N<=15
 few:ys.length<=2^N
def J3{u v:Q I}(h:Proofs.Q9.ints u=Proofs.Q9.ints v):u=v:=(Q.map_inj_right λx y h=>by have h:(x:H)=(y:H):=h;omega).1 h
end
end Go.Srt
namespace Go.Proofs.Q9
section
open Go Go.Vc Go.Srt Go.Pm
section
variable{E w:X0}{F:Q HP}
def acU{t:Q H}{L:H}{u ys:Q I}{N:I}(b:gm t L u ys N):¬(cT t=U\/L<1\/15<L\/∃l,t=ints l/\(2:H)^L.toNat<(used l).length):=by obtain⟨rfl,c,e,a,rfl,f,g,i⟩:=b;rintro(h|h|h|⟨l,h,d⟩);{rw[xc c]at h;cases h};{omega};{omega};obtain rfl:=J3 h;rw[<-a.1.length_eq,Zi,show(2:H)^N=((2^N:I):H) by norm_cast]at d;omega
def kO(u ys:Q I)(N:I):Q I:=je ys (lenOf (bR u ys) N)
def PN(u ys:Q I)(N:I):(kO u ys N).length=258:=kq ..
def Uh{t:Q H}{L:H}{u ys:Q I}{N:I}{K:X5 G->H->ad}(a:gm t L u ys N)(h:Hp E w F)(c:bu E F (K (ai .u8 (kO u ys N)) 0)):ah [.arr 258,kI] 136 [.agg (aT t),ni L] w K:=by refine Mr h (by rw[a.eq,jQ,a.len]) (λd=>Wi d (acU a)) λl zs w' e i b j k m f=>?_;have:l=u:=J3 (e.symm.trans a.eq);subst this;obtain rfl:=aas b a.ord;have g:=c w' f;rw[a.lim,Zi];exact g
end
end
end Go.Proofs.Q9
namespace Go.Srt
section
open Go.Pm
def VR(ys:Q I)(g:I->I):(ys.map g).sum=over ys.length λi=>g (ys.getD i 0):=by unfold over;congr 1;refine Yu Zd λi a c=>?_;have b:i<ys.length:=by{simpa using a};simp[b]
def Q1{u ys:Q I}{f:I->I}(c:u.length=258)(b:dI u ys)(d:∀i,i<ys.length->1<=f i):used (je ys f)=used u:=by unfold used;rw[kq,c];refine Q.filter_congr λs a=>?_;have a:s<258:=by{simpa using a};rw[RJ a];have e:s∈ys↔0<u.getD s 0:=by{rw[b.1.mem_iff,gY,c];exact⟨λh=>h.2,λh=>⟨a,h⟩⟩};by_cases h:s∈ys;{grind};grind
def Sn{u ys:Q I}{f:I->I}(e:u.length=258)(a:dI u ys)(d:∀i,i<ys.length->1<=f i/\f i<=15):cc (je ys f)=over ys.length λi=>2^(15-f i):=by have c:∀s∈ys,s<258:=λs g=>by{have:=(gY.1 (a.1.mem_iff.1 g)).1;omega};rw[GB,Q1 e a λi b=>(d i b).1,<-(a.1.map _).sum_nat,VR];refine qo λi b=>?_;rw[getD_at b,Fb (yK a) c b];have:=d i b;unfold wt;rw[K Za,K Za]
section
variable{t:Q H}{L:H}{u ys:Q I}{N:I}
def gm.wl(a:gm t L u ys N):(bR u ys).length=ys.length:=Zl _
def gm.Qn(a:gm t L u ys N){i:I}(b:i<ys.length):1<=lenOf (bR u ys) N i/\lenOf (bR u ys) N i<=N:=TV (E1 a.ord) a.one (by rw[a.wl];exact a.few) (by rw[a.wl];exact b)
def p15:2^15=32768:=Zb
def gm.ahS(a:gm t L u ys N)(d:2<=ys.length):cc (Proofs.Q9.kO u ys N)=32768:=by have j:=a.top;have k:=a.one;have e:=Sn (f:=lenOf (bR u ys) N) a.len a.ord λi b=>by{have:=a.Qn b;omega};have c:=K8 (E1 a.ord) (N-1) (by rw[a.wl];exact d) (by rw[a.wl,show N-1+1=N by omega];exact a.few);rw[a.wl,show N-1+1=N by omega]at c;unfold Proofs.Q9.kO;rw[e,qo (g:=λi=>2^(15-N)*2^(N-lv (bR u ys) (N-1) (2*ys.length-2) i)) λi b=>by have:=a.Qn b;have h:lenOf (bR u ys) N i=lv (bR u ys) (N-1) (2*ys.length-2) i:=by{unfold lenOf;rw[K (by rw[a.wl];omega),a.wl]};rw[h]at this⊢;rw[<-WA.pow_add,show 15-N+(N-lv (bR u ys) (N-1) (2*ys.length-2) i)=15-lv (bR u ys) (N-1) (2*ys.length-2) i by omega],aai,c,<-WA.pow_add,show 15-N+N=15 by omega,p15]
def gm.bytes(a:gm t L u ys N):∀y∈Proofs.Q9.kO u ys N,y<256:=by intro y b;obtain⟨s,_,rfl⟩:=List.mem_map.1 b;have c:=a.top;split;{rename_i h;have:=a.Qn (Q.idxOf_lt_length_of_mem h);omega};decide
def gm.at(a:gm t L u ys N){i:I}(b:i<ys.length):(Proofs.Q9.kO u ys N).getD ys[i] 0=lenOf (bR u ys) N i:=Fb (yK a.ord) (λs c=>by have:=(gY.1 (a.ord.1.mem_iff.1 c)).1;have:=a.len;omega) b
end
end
end Go.Srt
namespace Go.Sym
section
def yY:∀(b L:Q I)(r:I),cI L->(bP b)->(b≠[]\/0<r)->∃s∈eB L r b,s<257|[],L,r,_,_,h=>by have a:0<r:=by{(rcases h with h|h);{exact Wi O h};exact h};rw[oc,qx a];exact⟨(r-1)%2,Zd,Za⟩|c::b,L,r,hL,hb,_=>by by_cases h0:L.idxOf c=0;{rw[mc h0];exact yY b _ _ (hL.take Zb) (λx d=>hb x (Zz _ d)) (.inr Za)};rw[nK h0];have:=hL.idx (hb c ZM);exact⟨L.idxOf c+1,Zd,Za⟩
def UZ{b:Q I}(h:b≠[])(a:bP b):∃s∈syms b,s<257:=yY b _ 0 cI.range a (.inl h)
def aa8(b:Q I):257∈syms b:=by unfold syms eB;simp
def OC(n:I):(ed n).length<=n:=by induction n using ZW with|ind n a=>by_cases h:n=0;{subst h;rw[qY];exact ZA _};rw[qx Za,Zo];have:=a ((n-1)/2) Za;omega
def rK:∀(b L:Q I)(r:I),(eB L r b).length<=r+b.length+1|[],L,r=>by rw[oc,Zf];have:=OC r;simp;omega|c::b,L,r=>by by_cases h0:L.idxOf c=0;{rw[mc h0];have:=rK b (dX L 0) (r+1);rw[Zo];omega};rw[nK h0,Zf,Zo,Zo];have:=rK b (dX L (L.idxOf c)) 0;have:=OC r;omega
def vJ(b:Q I):(syms b).length<=b.length+1:=by have:=rK b (Zt 256) 0;unfold syms;omega
end
end Go.Sym
namespace Go.aq
section
open Go.Inc Go.Srt Go.Sym Go.Bits Go.Tab Go.Bw Go.Pm
def mJ(a:Q I):Q I:=(Zt 258).map λs=>a.count s
def oz(a:Q I):(mJ a).length=258:=by unfold mJ;simp
def Oo(a:Q I){s:I}(h:s<258):(mJ a).getD s 0=a.count s:=by unfold mJ;rw[Zn,ZZ,Yh h];rfl
def Eb{ss:Q I}(h:ss.length<=2147483647):tF (mJ ss):=λx a=>by obtain⟨s,_,rfl⟩:=List.mem_map.1 a;exact Z9 Q.count_le_length h
def gY{u:Q I}{s:I}:s∈used u↔s<u.length/\0<u.getD s 0:=by unfold used;rw[Q.mem_filter,YS,Ww]
def E7{u a:Q I}(h:dI u a){s:I}:s∈a↔s<u.length/\0<u.getD s 0:=by rw[h.1.mem_iff,gY]
def ach{u a:Q I}(b:u.length=258)(h:dI u a):a.length<=258:=by rw[h.1.length_eq,<-b];unfold used;exact Z9 (Q.length_filter_le ..) Zd
def Np{u b:Q I}(c:u.length=258)(d:tF u)(a:dI u b):gm (Proofs.Q9.ints u) 15 u b 15 where eq:=O;max:=d;len:=c;ord:=a;lim:=O;one:=Zb;top:=Zb;few:=Z9 (ach c a) Zb
def Ot{u d b:Q I}(q:u.length=258)(r:tF u)(c:dI u d)(f:0<u.getD 257 0)(t:∃s,s<257/\0<u.getD s 0)(v:∀s∈syms b,0<u.getD s 0)(w:bP b):ta (Proofs.Q9.kO u d 15) b:=by have g:=Np q r c;have j:∀s,s<258->0<u.getD s 0->0<(Proofs.Q9.kO u d 15).getD s 0:=by{intro s x l;have k:s∈d:=(E7 c).2 ⟨Za,l⟩;obtain⟨i,p,e⟩:=List.mem_iff_getElem.1 k;have m:=g.at p;have y:=(g.Qn p).1;rw[e]at m;omega};have l:2<=d.length:=by{obtain⟨s,x,m⟩:=t;have n:s∈d:=(E7 c).2 ⟨Za,m⟩;have o:257∈d:=(E7 c).2 ⟨Za,f⟩;match d,n,o with|[a],n,o=>rw[ZC]at n o;omega|_::_::_,_,_=>simp};refine⟨Proofs.Q9.PN _ _ _,qJ.2 ⟨g.ahS l,j 257 Zb f⟩,λs h=>?_⟩;have:=zS w s h;exact⟨Za,j s Za (v s h)⟩
noncomputable def EA(u:Q I):Q I:=Classical.choose (Cz u)
def EO(u:Q I):dI u (EA u):=Classical.choose_spec (Cz u)
noncomputable def ahk(a:Q I):Q I:=Proofs.Q9.kO (mJ a) (EA (mJ a)) 15
noncomputable def jX(x:Q I):Q I:=ahk (syms (bC x.reverse))
def Pb{a:Q I}(h:a.length<=2147483647):gm (Proofs.Q9.ints (mJ a)) 15 (mJ a) (EA (mJ a)) 15:=Np (oz a) (Eb h) (EO _)
def pV{x:Q I}(j:0<x.length)(k:x.length<=1000000)(f:bP x):ta (jX x) (bC x.reverse):=by have b:=Stm.abV f;have g:bC x.reverse≠[]:=by{intro e;have:=Wm Z3 e;rw[eK,Z7,ZG]at this;omega};have a:(syms (bC x.reverse)).length<=2147483647:=by{have:=vJ (bC x.reverse);rw[eK,Z7]at this;omega};have c:∀s∈syms (bC x.reverse),0<(mJ (syms (bC x.reverse))).getD s 0:=by{intro s h;have:=zS b s h;rw[Oo _ Za];exact List.count_pos_iff.2 h};obtain⟨s,i,d⟩:=UZ g b;exact Ot (oz _) (Eb a) (EO _) (c 257 (aa8 _)) ⟨s,d,c s i⟩ c b
def ace{a:Q I}(h:∀s∈a,s<=257):Hs.kf (Zh 258 0) (Proofs.Q9.ints a)=Proofs.Q9.ints (mJ a):=by have b:(Proofs.Q9.ints a).all Hs.pP=J:=by{refine List.all_eq_true.2 λz e=>?_;obtain⟨s,f,rfl⟩:=List.mem_map.1 e;have:=h s f;exact Hs.uM.2 Za};refine YH λi=>?_;have k:(Hs.kf (Zh 258 0) (Proofs.Q9.ints a)).length=258:=by{rw[Hs.uB];simp};by_cases hi:i<258;{have c:=Hs.zz (zs:=Proofs.Q9.ints a) (t:=Zh 258 0) b Zd i;rw[Zn,Zg Za]at c;rw[Zg Za];have d:=Oo a hi;rw[Zn,Zg (by rw[oz];exact hi)]at d;have g:(Proofs.Q9.ints (mJ a))[i]?=Z (((mJ a)[i]'(by rw[oz];exact hi):I):H):=by{unfold Proofs.Q9.ints;rw[ZZ,Zg (by rw[oz];exact hi)];rfl};rw[g];simp only[YK]at c d;rw[c,d];have j:((Proofs.Q9.ints a).count (i:H))=a.count i:=by{unfold Proofs.Q9.ints;rw[Q.count_eq_countP,Q.countP_map,Q.count_eq_countP];refine Q.countP_congr λx _=>?_;simp only[XV,Wn];omega};rw[j,Zn,Q.getElem?_replicate,X3 hi];simp};rw[Z8 Za,Z8 (by rw[Proofs.Q9.jQ,oz];omega)]
end
end Go.aq
namespace Go.Vc
section
def sV(l:Q I)(i:I):Q I:=(Zt l.length).map λp=>if p<i\/l.length-i<=p then l.getD (l.length-1-p) 0 else l.getD p 0
def qE(l:Q I)(i:I):(sV l i).length=l.length:=by unfold sV;simp
def uV{l:Q I}{i p:I}(h:p<l.length):(sV l i)[p]?=Z (if p<i\/l.length-i<=p then l.getD (l.length-1-p) 0 else l.getD p 0):=by unfold sV;rw[ZZ,Yh h];rfl
def UX(l:Q I):sV l 0=l:=by refine YH λp=>?_;by_cases h:p<l.length;{rw[uV h,K Za,Zg h,Zn,Zg h];rfl};rw[Z8 (by rw[qE];omega),Z8 Za]
def V7{l:Q I}{i:I}(h:2*i+1<l.length):((sV l i).set i (l.getD (l.length-1-i) 0)).set (l.length-1-i) (l.getD i 0)=sV l (i+1):=by refine YH λp=>?_;by_cases hp:p<l.length;{rw[uV hp,Q.getElem?_set,Q.getElem?_set,uV hp];by_cases h1:l.length-1-i=p;{subst h1;rw[X3 O,X3 (by rw[YV,qE];omega),X3 Za,show l.length-1-(l.length-1-i)=i by omega]};rw[K h1];by_cases h2:i=p;{subst h2;rw[X3 O,X3 (by rw[qE];omega),X3 Za]};grind};rw[Z8 (by rw[YV,YV,qE];omega),Z8 (by rw[qE];omega)]
def ab2{l:Q I}{i:I}(h:l.length<=2*i+1):sV l i=l.reverse:=by refine YH λp=>?_;by_cases hp:p<l.length;{rw[uV hp,Q.getElem?_reverse hp];have e:∀q,q<l.length->l[q]?=Z (l.getD q 0):=λq a=>by{rw[Zn,Zg a];rfl};rw[e _ Za];by_cases h3:p<i\/l.length-i<=p;{rw[X3 h3]};grind};rw[Z8 (by rw[qE];omega),Z8 Ze]
end
end Go.Vc
namespace Go.Proofs.Q9
section
open Go Go.Vc
section
variable{E w:X0}{F:Q HP}
theorem GA{s:Sl}{l:Q I}{K:ad}(h:Hp E w (an 1 s (l.map vB)::F))(a:l.length<=cP)(f:bu E (an 1 s (l.reverse.map vB)::F) K):cH 251 [aj s] w K:=by refine q9.ok _ _ _ ?_;have b:=h.aU;rw[Zl,Zw]at b;rw[aK]at a;rw[af Za];refine⟨λi j w'=>∃k:I,i=(k:H)/\j=(l.length:H)-1-(k:H)/\k<=l.length/\Hp E w' (an 1 s ((sV l k).map vB)::F),λi _ _=>l.length-i.toNat,⟨0,O,Za,Za,by rw[UX];exact h⟩,?_⟩;rintro i j w ⟨k,rfl,rfl,hk,h⟩;refine aa.dm (λg=>?_) λm=>?_;{have x:∀p,(e:p<l.length)->((sV l k).map vB)[p]?=Z (vB (if p<k\/l.length-k<=p then l.getD (l.length-1-p) 0 else l.getD p 0)):=λp e=>by{rw[ZZ,uV e];rfl};have n:((l.length:H)-1-(k:H)).toNat=l.length-1-k:=by{omega};refine aM.mk h λw h=>ay.rd (h.ak ae.own) Za Za λq o r=>?_;have t:((sV l k).map vB)[((l.length:H)-1-(k:H)).toNat]' o=vB (l.getD (l.length-1-k) 0):=by{grind};refine Ld.sc (s:=.int .u8) (l.getD (l.length-1-k) 0:H) (by rw[r,t];rfl) ?_;refine ay.rd (h.ak ae.own) Za Za λy c d=>?_;have u:((sV l k).map vB)[((k:H)).toNat]' c=vB (l.getD k 0):=by{grind};refine Ld.sc (s:=.int .u8) (l.getD k 0:H) (by rw[d,u];rfl) ?_;refine St.own h Za Za O λw h=>?_;refine St.own h Za Za O λw h=>?_;rw[af Za,af Za];refine⟨⟨k+1,Za,Za,Za,?_⟩,by first|omega|(dsimp only;omega)⟩;rw[n,Zi]at h;have v:(((sV l k).map vB).set k (au (l.getD (l.length-1-k) 0:H))).set (l.length-1-k) (au (l.getD k 0:H))=(sV l (k+1)).map vB:=by{rw[<-V7 Za,XB,XB];rfl};rw[v]at h;exact h};rw[ab2 Za]at h;exact f _ h
end
end
section
open Go Go.Vc Go.Hd
section
variable{E w:X0}{F:Q HP}
theorem af7{n:I}{K:Sl->H->ad}(h:Hp E w F)(k:n<=65536)(o:∀s w',Hp E w' (an 1 s ((iu n).map vB)::F)->K s 0 w'):ah [kS,kI] 262 [ni (n:H)] w K:=by refine ON.ok _ _ _ (aa.df Za (aa.df Za ?_));have v:YR .i64=9223372036854775807:=O;have a:∀m:I,m<=65536->cG .i64 (m:H) 127=((m%128:I):H):=λm h=>by{rw[show(127:H)=((127:I):H)from O,fK Za Za,show(127:I)=2^7-1 from O,Xp]};have c:∀m:I,aZ .i64 (m:H) 7=((m/128:I):H):=λm=>by{rw[show(7:H)=((7:I):H)from O,cJ Zb]};rw[a n k,jh Za];refine Nw.mk h λp w h=>bj (s:=⟨V,0,0⟩) (ys:=[vB (n%128)]) (n:=1) vR Zb (.inl ⟨5,Zc⟩) (h.aV 1) (.inl ⟨Z ⟨p,0,V⟩,1,1,O,O,h.ak (ae.aF O O)⟩) O Jq Zb Zb λs w h _=>?_;refine⟨Zb,?_⟩;rw[c];refine⟨λx s w'=>∃(m:I)(l:Q I),x=(m:H)/\m<=512/\l.length+m<=513/\rX m++l.reverse=iu n/\Hp E w' (an 1 s (l.map vB)::F),λx _ _=>x.toNat,⟨n/128,[n%128],O,Za,by simp;omega,O,h.p1.drop⟩,?_⟩;rintro x s w ⟨m,l,rfl,hm5,hl,hv,h⟩;refine aa.dm (λq=>?_) λr=>?_;{have d:0<m:=by{omega};have f:js .u8 ((m%128:I):H) 128=((128+m%128:I):H):=by{have t:YR .u8=255:=O;have e:=Y7 (i:=7) (b:=m%128) Za 1;have u:m%128|||128=128+m%128:=by{rw[I.or_comm];exact e.symm};rw[show(128:H)=((128:I):H)from O,mM Za Za Ze,u]};rw[a m Za,jh Za,f];have g:=h.aU;rw[Zl,Zw]at g;refine Nw.mk h λj w h=>bj (ys:=[vB (128+m%128)]) (n:=1) vR Zb (.inl ⟨5,Zc⟩) h.p1 (.inl ⟨Z ⟨j,0,V⟩,1,1,O,O,h.ak (ae.aF O O)⟩) O Jq Za Za λs w h _=>?_;refine⟨Zb,?_⟩;rw[c];refine⟨⟨m/128,l++[128+m%128],O,Za,by rw[Zf,ZJ];omega,?_,by rw[ZD];exact h.p1.drop⟩,by first|omega|(dsimp only;omega)⟩;rw[Q.reverse_append,<-hv,qO d];simp};have d:m=0:=Za;subst d;rw[ox,ZS]at hv;refine GA h (by rw[aK];omega) λw h=>o s w ?_;rw[hv]at h;exact h
end
end
section
open Go Go.Vc
set_option maxRecDepth 100000
def aa1.ok(a:H)(b:Sl)(R:H->ad) w(h:ah [(.arr 256)] 141 [] w λd c=>Nw 240 ⟨Zh 256 (.int .u32 0)⟩ c λf e=>aH 256 (av f 0) d e λg=>dK (kY .u32 (if Wl.signed .u32 then-1 else YR .u32) a) 0 g λh i(j:H)(k:H) l=>aw (k<(b.len:H)) (ay b k 1 λm=>fa m l λn=>dK j 0 l λo p(q:H)(r:H) s=>aw (r<(n.len:H)) (ay n r 1 λt=>fw t s λu=>aX (av f 0) 256 (kY .u8 (u8 q) u) 1 λv=>Ld (aG .u32) v s λ(x:H)=>0<=(8:H)/\o (kY .u32 x (aZ .u32 q (8:H))) (i64 (r+1)) s/\p (kY .u32 x (aZ .u32 q (8:H))) (i64 (r+1)) s<p q r s) (h q (i64 (k+1)) s/\i q (i64 (k+1)) s<i j k l)) (R (kY .u32 (if Wl.signed .u32 then-1 else YR .u32) j) l)):ah [(aG .u32)] 87 [(.int .u32 a),(aj b)] w R:=co Tryz.f87 [(9,[(0,(aG .u32)),(15,kI)]),(18,[(0,(aG .u32)),(21,kI)])] h
def afB.ok(a:Sl)(R:H->ad) w(h:ah [(aG .u32)] 87 [(.int .u32 0),(aj a)] w λ(c:H) b=>R c b):ah [(aG .u32)] 113 [(aj a)] w R:=co Tryz.f113 [] h
def Tj.ok(R:(X5 G)->ad) w(h:Nw 240 ⟨Zh 256 (.int .u32 0)⟩ w λb a=>dG 0 a λc d(e:H) f=>aw (e<256) (ah [(aG .u32)] 211 [(au (u8 e))] f λ(h:H) g=>aX (av b 0) 256 e 1 λi=>St i (.int .u32 h) g λj=>c (i64 (e+1)) j/\d (i64 (e+1)) j<d e f) (aQ 256 b 0 f λk=>aH 256 (av b 0) k f λl=>aQ 256 b 0 l λm=>R m l)):ah [(.arr 256)] 141 [] w R:=co Tryz.f141 [(5,[(2,kI)])] h
def adL.ok(a:H)(R:Sl->ad) w(h:aI 310 [(au 0),(au 0),(au 0),(au 0)] w λc b=>dG 0 b λd e(f:H) g=>aw (f<4) (0<=(i64 ((24:H)-(i64 ((8:H)*f))))/\aX (av c 0) 4 f 1 λh=>St h (au (u8 (aZ .u32 a (i64 ((24:H)-(i64 ((8:H)*f))))))) g λi=>d (i64 (f+1)) i/\e (i64 (f+1)) i<e f g) (cn (⟨Z ⟨c,0,V⟩,4,4⟩:Sl) 0 4 4 1 λj=>R j g)):bS 143 [(.int .u32 a)] w R:=co Tryz.f143 [(7,[(5,kI)])] h
def ad9.ok(a:H)(R:H->ad) w(h:dK (u32 a) 0 w λb c(d:H)(e:H) f=>aw (e<8) (0<=(1:H)/\b (kY .u32 (aZ .u32 d (1:H)) (u32 ((3988292384:H)*(cG .u32 d 1)))) (i64 (e+1)) f/\c (kY .u32 (aZ .u32 d (1:H)) (u32 ((3988292384:H)*(cG .u32 d 1)))) (i64 (e+1)) f<c d e f) (R d f)):ah [(aG .u32)] 211 [(au a)] w R:=co Tryz.f211 [(7,[(3,(aG .u32)),(6,kI)])] h
end
end Go.Proofs.Q9
namespace Go.Crc
section
def aak(c:I):(c/2)^^^(3988292384*(c%2))=half c:=by unfold half;(rcases I.mod_two_eq_zero_or_one c with e|e);{rw[e];rfl};rw[e];rfl
def jA:I->I->I|0,c=>c|k+1,c=>half (jA k c)
def Gb:∀(k c:I),c<4294967296->jA k c<4294967296|0,_,h=>h|k+1,c,h=>kr (Gb k c h)
end
end Go.Crc
namespace Go.Proofs.Q9
section
open Go Go.Vc Go.Crc
section
variable{E w:X0}{F:Q HP}
theorem ae3{b:I}{K:H->ad}(d:b<256)(e:K (row b:H) w):ah [aG .u32] 211 [au (b:H)] w K:=by refine ad9.ok _ _ _ (⟨λc i w'=>w'=w/\∃k:I,i=(k:H)/\k<=8/\c=(jA k b:H),λ_ i _=>8-i.toNat,⟨O,0,O,Za,by rw[ly Za];rfl⟩,?_⟩);rintro c i w' ⟨rfl,k,rfl,hk,rfl⟩;refine aa.dm (λa=>?_) λf=>?_;{have a:k<8:=by{omega};have d:=Gb k b Za;have n:YR .u32=4294967295:=O;have o:=kr d;have g:aZ .u32 (jA k b:H) 1=((jA k b/2:I):H):=by{rw[show(1:H)=((1:I):H)from O,cJ Zb]};have h:cG .u32 (jA k b:H) 1=((jA k b%2:I):H):=by{rw[show(1:H)=((1:I):H)from O,fK Za Za,I.and_one_is_mod]};have j:u32 ((3988292384:H)*((jA k b%2:I):H))=((3988292384*(jA k b%2):I):H):=by{rw[ly Za];omega};have l:kY .u32 ((jA k b/2:I):H) ((3988292384*(jA k b%2):I):H)=(jA (k+1) b:H):=by{have m:=aak (jA k b);rw[vf Za Za Ze,m];rfl};rw[g,h,j,l,af Za];exact⟨Zb,⟨O,k+1,O,Za,O⟩,by dsimp only;omega⟩};have:k=8:=Za;subst this;exact e
def iT:Q I:=(Zt 256).map row
def re:iT.length=256:=by unfold iT;simp
def HQ{b:I}(h:b<256):iT[b]?=Z (row b):=by unfold iT;rw[ZZ,Yh h];rfl
abbrev lV(l:Q I):Q G:=l.map λ(n:I)=>Yv .u32 (n:H)
def DG{l:Q I}:(lV l).all aL=J:=by unfold lV;rw[Q.all_map];exact List.all_eq_true.2 λ_ _=>rfl
def ago{K:X5 G->ad}(h:Hp E w F)(f:∀w',Hp E w' F->K ⟨lV iT⟩ w'):ah [.arr 256] 141 [] w K:=by refine Tj.ok _ _ (Nw.mk h λg w h=>?_);have b:∀k,k<=256->(lV (iT.take k++Zh (256-k) 0)).length=256:=λk j=>by{simp[re];omega};refine⟨λi w'=>∃k:I,i=(k:H)/\k<=256/\Hp E w' (aq g (.cells ⟨lV (iT.take k++Zh (256-k) 0)⟩ 240 (0,0))::F),λi _=>256-i.toNat,⟨0,O,Za,by have:(⟨lV (iT.take 0++Zh (256-0) 0)⟩:X5 G)=⟨Zh 256 (.int .u32 0)⟩:=by{simp};rw[this];exact h⟩,?_⟩;rintro i w ⟨k,rfl,j,h⟩;refine aa.dm (λa=>?_) λl=>?_;{have a:k<256:=by{omega};rw[jh Za];refine ae3 a (⟨Za,Za,?_⟩);rw[show((k:H)).toNat*1=k by omega];simp only[ao,Zk];have n:=b k Za;refine St.xb h (by show k<(lV (iT.take k++Zh (256-k) 0)).length;omega) O λw h=>?_;rw[af Za];refine⟨⟨k+1,O,Za,?_⟩,by first|omega|(dsimp only;omega)⟩;have e:(⟨lV (iT.take k++Zh (256-k) 0)⟩:X5 G).setIfInBounds k (.int .u32 (row k:H))=⟨lV (iT.take (k+1)++Zh (256-(k+1)) 0)⟩:=by{apply XG;rw[Yt];have:(lV (iT.take k++Zh (256-k) 0)).set k (.int .u32 (row k:H))=lV ((iT.take k++Zh (256-k) 0).set k (row k)):=by{rw[lV,lV,XB]};have o:(iT.take k).length=k:=by{rw[Zy,re];omega};rw[this,Wu.set_append_right _ _ Za,o,XD];obtain⟨m,p⟩:∃m,256-k=m+1:=⟨255-k,Za⟩;rw[p,Wu.replicate_succ,Wu.set_cons_zero,Zx,HQ a,show 256-(k+1)=m by omega];simp};rw[e]at h;exact h};have d:k=256:=Za;subst d;have e:(⟨lV (iT.take 256++Zh (256-256) 0)⟩:X5 G)=⟨lV iT⟩:=by{rw[Zr (by rw[re];omega)];simp};rw[e]at h;have c:(⟨lV iT⟩:X5 G).size=256:=by{simp[re]};refine Ld.xw h c (aH.q h c c DG λw h=>?_);exact Ld.xw h c (f _ h.tl)
def agD:(if Wl.signed .u32 then(-1:H)else YR .u32)=((4294967295:I):H):=O
def aby{c:I}(h:c<4294967296):kY .u32 (if Wl.signed .u32 then(-1:H)else YR .u32) (c:H)=((c^^^4294967295:I):H):=by have a:YR .u32=4294967295:=O;have b:4294967295^^^c<2^32:=Xw Zb Za;rw[agD,vf Za Za Za,I.xor_comm]
def aae{c x:I}(a:c<4294967296)(b:x<256):kY .u8 (u8 (c:H)) (x:H)=((c%256^^^x:I):H):=by have d:YR .u8=255:=O;have e:c%256^^^x<2^8:=Xw Za Za;rw[ye,show((c:H)%256)=((c%256:I):H) by omega,vf Za Za Za]
def DY{c x:I}(a:x<256):c%256^^^x<256:=by have:c%256^^^x<2^8:=Xw Za Za;omega
def Sv{c x:I}(b:c<4294967296)(a:x<256):kY .u32 (row (c%256^^^x):H) (aZ .u32 (c:H) 8)=(Crc.step c x:H):=by have e:YR .u32=4294967295:=O;have f:=Te (c:=c%256^^^x) (by have:=DY (c:=c) a;omega);have d:=M8 b a;unfold Crc.step at d⊢;rw[show(8:H)=((8:I):H)from O,cJ Zb,show(2:I)^8=256 from O,vf Za Za Za]
end
end
section
open Go Go.Vc Go.Bits
section
variable{E w:X0}{F:Q HP}
def SZ{a:Q (Q I)}{k:I}(h:k<a.length):(a.take (k+1)).flatten=(a.take k).flatten++a.getD k []:=by rw[Zx,Xl];congr 1;simp[h]
def ahc{b:I}(h:b<256):(⟨lV iT⟩:X5 G)[b]?=Z (Sc.enc (.int .u32) (Crc.row b:H)):=by rw[Wu.getElem?_toArray,lV,ZZ,HQ h];rfl
theorem zM{c:I}{K:H->ad}{s:Sl}{cs:Q Sl}{bs:Q (Q I)}(h:Hp E w F)(u:c<4294967296)(R:ae F (aN 1 s (cs.map λx=>aj x)))(hl:cs.length=bs.length)(D:cs.length<=cP)(Y:∀i(h:i<cs.length),ae F (aN 1 cs[i] ((bs.getD i []).map vB)))(g:∀b∈bs,∀y∈b,y<256)(v:∀b∈bs,b.length<=cP)(hK:∀w',Hp E w' F->K ((Crc.feed (c^^^4294967295) bs.flatten^^^4294967295:I):H) w'):ah [aG .u32] 87 [.int .u32 (c:H),aj s] w K:=by refine aa1.ok _ _ _ _ ?_;have S:s.len=cs.length:=by{have:=(h.ak R).1;simpa using this.symm};have l:∀y∈bs.flatten,y<256:=λy a=>by{obtain⟨b,m,o⟩:=List.mem_flatten.1 a;exact g b m y o};have z:c^^^4294967295<4294967296:=Xw (n:=32) u Zb;rw[aK]at D;refine ago h λw h=>Nw.mk h λT w h=>?_;have hn:(⟨lV iT⟩:X5 G).size=256:=by{simp[re]};refine aH.q h Zd hn DG λw h=>?_;rw[aby u];refine⟨λx i w'=>∃k:I,i=(k:H)/\k<=cs.length/\x=(Crc.feed (c^^^4294967295) (bs.take k).flatten:H)/\Hp E w' (aq T (.cells ⟨lV iT⟩ 240 (0,0))::F),λ_ i _=>cs.length-i.toNat,⟨0,O,Za,O,h⟩,?_⟩;rintro x i w ⟨k,rfl,hk,rfl,h⟩;refine aa.dm (λA=>?_) λhge=>?_;{have A:k<cs.length:=by{omega};have p:k<bs.length:=by{omega};refine ay.rd (h.tl.ak R) Za Za λq hi L=>?_;have M:w.cell? q=Z (Sc.sl.enc cs[k]):=by{simpa using L};refine Ld.sc _ M ?_;have B:bs.getD k []=bs[k]:=by{rw[Zn,Zg p];rfl};have r:=Y k A;rw[B]at r;have f:=Zs p;have t:=v _ f;rw[aK]at t;have N:=(h.tl.ak r).1;simp only[Zl,Zw]at N;refine⟨λx i w'=>∃j:I,i=(j:H)/\j<=bs[k].length/\x=(Crc.feed (c^^^4294967295) ((bs.take k).flatten++bs[k].take j):H)/\Hp E w' (aq T (.cells ⟨lV iT⟩ 240 (0,0))::F),λ_ i _=>bs[k].length-i.toNat,⟨0,O,Za,Zd,h⟩,?_⟩;rintro x i w ⟨j,rfl,hj,rfl,h⟩;have C:∀y∈(bs.take k).flatten++bs[k].take j,y<256:=λy a=>by{(rcases List.mem_append.1 a with a|a);{obtain⟨b,m,o⟩:=List.mem_flatten.1 a;exact g b (Z6 m) y o};grind};have d:=Crc.zt _ _ z C;refine aa.dm (λW=>?_) λX=>?_;{have e:j<bs[k].length:=by{omega};have a:=g _ f _ (Zs e);refine ay.rd (h.tl.ak r) Za Za λq hi L=>?_;refine Ld.sc (s:=.int .u8) (bs[k][j]:H) (by simpa[vB]using L) ?_;rw[aae d a];refine aX.rd (s:=.int .u32) h Za (by have:=DY (c:=Crc.feed (c^^^4294967295) ((bs.take k).flatten++bs[k].take j)) a;omega) (Crc.row (Crc.feed (c^^^4294967295) ((bs.take k).flatten++bs[k].take j)%256^^^bs[k][j]):H) ?_ ?_;{rw[Zi];exact ahc (DY (c:=Crc.feed (c^^^4294967295) ((bs.take k).flatten++bs[k].take j)) a)};rw[Sv d a,af Za];refine⟨Zb,⟨j+1,O,Za,?_,h⟩,by first|omega|(dsimp only;omega)⟩;rw[Zx,Zg e,<-Zm,Crc.Jt ((bs.take k).flatten++bs[k].take j)];rfl};have e:j=bs[k].length:=by{omega};subst e;rw[af Za,Z0];exact⟨⟨k+1,O,Za,by rw[SZ p,B],h⟩,by first|omega|(dsimp only;omega)⟩};have P:k=bs.length:=Za;subst P;rw[Z0];have d:=Crc.zt _ _ z l;rw[aby d];exact hK _ h.tl
def abX{c k:I}(a:k<4):(Hd.jg c)[k]?=Z (c/2^(24-8*k)%256):=by match k,a with|0,_=>rfl|1,_=>rfl|2,_=>rfl|3,_=>simp[Hd.jg]
theorem Q5{c:I}{K:Sl->X0->Prop}(h:Hp E w F)(t:c<4294967296)(f:∀s w',Hp E w' (an 1 s ((Hd.jg c).map vB)::F)->K s w'):Cl Zj [kS] 143 ⟨[.int .u32 (c:H)]⟩ w K:=by refine adL.ok _ _ _ ?_;refine Nw.mk h λg w h=>?_;have a:∀k,k<=4->(((Hd.jg c).take k++Zh (4-k) 0).map vB).length=4:=λk j=>by{rw[Zl,Zf,Zy,ZP,show(Hd.jg c).length=4 from O];omega};refine⟨λi w'=>∃k:I,i=(k:H)/\k<=4/\Hp E w' (aq g (.cells ⟨((Hd.jg c).take k++Zh (4-k) 0).map vB⟩ 310 (0,0))::F),λi _=>4-i.toNat,⟨0,O,Za,h⟩,?_⟩;rintro i w ⟨k,rfl,j,h⟩;refine aa.dm (λb=>?_) λl=>?_;{have b:k<4:=by{omega};rw[af (x:=(8:H)*(k:H)) Za,af Za,show(24:H)-8*(k:H)=((24-8*k:I):H) by omega,cJ (by have:Wl.bits .u32=32:=O;omega),ye,af Za];refine⟨Za,Za,Za,?_⟩;rw[show((k:H)).toNat*1=k by omega];simp only[ao,Zk];have o:=a k Za;refine St.xb h Ze O λw h=>?_;refine⟨⟨k+1,O,Za,?_⟩,by first|omega|(dsimp only;omega)⟩;have e:(⟨((Hd.jg c).take k++Zh (4-k) 0).map vB⟩:X5 G).setIfInBounds k (.int .u8 (((c/2^(24-8*k):I):H)%256))=⟨((Hd.jg c).take (k+1)++Zh (4-(k+1)) 0).map vB⟩:=by{apply XG;rw[Yt];have p:(Yv .u8 (((c/2^(24-8*k):I):H)%256))=vB (c/2^(24-8*k)%256):=by{unfold vB;congr 1};have q:((Hd.jg c).take k).length=k:=by{rw[Zy,show(Hd.jg c).length=4 from O];omega};obtain⟨m,r⟩:∃m,4-k=m+1:=⟨3-k,Za⟩;show(((Hd.jg c).take k++Zh (4-k) 0).map vB).set k _=_;rw[p,<-XB,Q.set_append_right _ _ Za,q,XD,r,Q.replicate_succ,Q.set_cons_zero,Zx,abX b,show 4-(k+1)=m by omega];simp};rw[e]at h;exact h};have d:k=4:=Za;subst d;rw[Zr (ZA 4:(Hd.jg c).length<=4),XD,Q.replicate_zero,ZF]at h;refine cn.whole Zb O O ?_;refine f _ w (h.nw (n:=4) (sz:=1) O)
end
end
section
open Go Go.Vc Go.Srt Go.Inc Go.Hd
def gw{n:I}(h:n<=65536):(iu n).length<=4:=by unfold iu;have:∀k m:I,m<128^k->(rX m).length<=k:=by{intro k;induction k with|zero=>intro m a;have:m=0:=by{simpa using a};rw[this,ox];exact ZA _|succ k b=>intro m a;(rcases Yd m with e|e);{grind};rw[qO e,Zf,ZJ];have:=b (m/128) Ze;omega};have:=this 3 (n/128) Za;rw[Zf,ZJ];omega
section
variable{E w:X0}{F:Q HP}
def yr{n:I}{a:H}{K:Sl->X4->ad}(h:Hp E w F)(b:n<=65536)(c:∀s w',Hp E w' (an 1 s ((iu n).map vB)::F)->K s (We (1<=(n:H)/\(n:H)<=a)) w'):ah [kS,kB] 192 [ni (n:H),ni a] w K:=by refine GP.ok _ _ _ _ (af7 h b λs w h=>eQ (c _ _ h))
theorem ae2{n:I}{K:Sl->H->ad}(h:Hp E w F)(a:n<=65536)(f:0<n)(c:∀s w',Hp E w' (an 1 s ((pH n).map vB)::F)->K s 0 w'):ah [kS,kI] 128 [.agg ⟨[ni (n:H)]⟩] w K:=by refine OZ.ok ((n:H),()) _ _ ?_;(try simp only[ao,Zq]);(with_reducible repeat first|refine Nw.mk h λb w h=>?_|refine Ld.xb h O ?_);refine yr h a λs w h=>?_;rw[Wd (show 1<=(n:H)/\(n:H)<=65536 by omega)];(with_reducible repeat first|refine Nw.mk h λb w h=>?_|refine aa.no ?_);refine wG h λw h=>?_;have d:=(h.at 1).aU;rw[Zl,Zw]at d;have g:=gw a;refine xn (s:=(kh _ 3)) (xs:=([87,80,1]:Q I).map vB) mw (.inl ⟨5,Zc⟩) h (ae.aF O O) (n:=s.len) ?_ ((ae.at 1 ae.own).imp λw e=>.inl ⟨s.base,s.len,s.cap,O,O,e⟩) Ze (by simp only;omega) (by simp only;omega) λi w' h _=>?_;{have:0<(iu n).length:=by{unfold iu;simp};simp only;omega};refine c _ _ ?_;rw[<-ZD]at h;exact h.nA
theorem aew{c:I}{K:Sl->ad}(h:Hp E w F)(a:c<4294967296)(d:∀s w',Hp E w' (an 1 s ((oo c).map vB)::F)->K s w'):bS 89 [.int .u32 (c:H)] w K:=by refine GR.ok _ _ _ ?_;(skip);(with_reducible refine Nw.mk h λb w h=>?_);refine Q5 h a λs w h=>?_;have e:=h.aU;rw[Zl,Zw]at e;have g:(jg c).length=4:=O;refine xn (s:=(kh _ 1)) (xs:=([0]:Q I).map vB) mw (.inl ⟨5,Zc⟩) h (ae.cons (ae.aF O O)) (n:=s.len) (by simp only;omega) (ae.own.imp λw f=>.inl ⟨s.base,s.len,s.cap,O,O,f⟩) Ze (by simp only;omega) (by simp only;omega) λi w' h _=>?_;refine d _ _ ?_;rw[<-ZD]at h;exact h.nA
def SS{n:H}{M P u:I}{K:Sl->H->ad}(h:Hp E w F)(f:M<=65536)(g:P<=65536)(j:u<4294967296)(c:1<=n->n<=65536->1<=M->(M:H)<=n->1<=P->P<=M->∀s w',Hp E w' (an 1 s ((oy M P u).map vB)::F)->K s 0 w')(a:¬(1<=n/\n<=65536/\1<=M/\(M:H)<=n/\1<=P/\P<=M)->∀w',Hp E w' F->K ⟨V,0,0⟩ 2 w'):ah [kS,kI] 132 [ni n,.agg ⟨[ni (M:H),ni (P:H),.int .u32 (u:H)]⟩] w K:=by refine C4.ok _ ((M:H),(P:H),(u:H),()) _ _ ?_;(try simp only[ao,Zk,Zq]);(with_reducible repeat first|refine Nw.mk h λb w h=>?_|refine Ld.xb h O ?_);refine yr h f λk w h=>?_;(with_reducible repeat refine Ld.xb h O ?_);refine yr h g λl w h=>eQ ?_;by_cases hn:1<=n/\n<=65536;{refine aa.Fk hn ?_;by_cases hm:1<=(M:H)/\(M:H)<=n;{refine aa.Fk hm ?_;by_cases hp:1<=(P:H)/\(P:H)<=(M:H);{refine aa.Fk hp ?_;(with_reducible repeat first|refine Nw.mk h λb w h=>?_|refine Ld.xb h O ?_);refine Q5 h j λm w h=>Nw.mk h λd w h=>?_;have p:=gw f;have q:=gw g;refine aa5 (s:=(kh d 4)) (cs:=[(kh b 1),k,l,m]) (bs:=[[1],iu M,iu P,jg u]) h (ae.aF O O) O (by rw[aK];simp) ?_ ?_ λs w h=>?_;{intro i o;match i,o with|0,_=>exact ae.at 2 (ae.aF O O)|1,_=>exact ae.at 4 ae.own|2,_=>exact ae.at 3 ae.own|3,_=>exact ae.at 1 ae.own};{rw[aK];simp[jg];omega};refine c hn.1 hn.2 Za hm.2 Za Za s w ?_;have e:[[1],iu M,iu P,jg u].flatten=oy M P u:=by{simp[oy]};rw[e]at h;exact h.nA};exact aa.ndf hp (a Za _ h.tl)};exact aa.ndf hm (a Za _ h.tl)};exact aa.ndf hn (a Za _ h.tl)
end
end
section
open Go Go.Vc
set_option maxRecDepth 100000
def Cn.ok(a:(X7 Wg))(b:(X5 G))(R:H->ad) w(h:Nw 166 b w λd c=>aQ 258 d 0 c λe=>ah [kS,kI] 207 [(.agg e)] c λ(g:Sl)(h:H) f=>aa (h !=0) (R 2 f) (aa (ZK a) (R 2 f) (dG 0 f λi j(k:H) l=>aw (k<(g.len:H)) (ay g k 1 λm=>bh m l λn=>aD 208 [(ar a),(.int .u32 (u32 n)),(ni 1)] l λp o=>i (i64 (k+1)) o/\j (i64 (k+1)) o<j k l) (R 0 l)))):bE 138 [(ar a),(.agg b)] w R:=co Tryz.f138 [(12,[(22,kI)])] h
def BP.ok(a:Sl)(R:(X5 G)->H->H->ad) w(h:Nw 166 ⟨Zh 258 (au 0)⟩ w λc b=>Nw 168 ⟨Zh 258 (au 0)++[(ni 0),(ni 0),(ni 0),(ni 0)]⟩ b λe d=>dG 0 d λf g(h:H) i=>aw (h<(a.len:H)) (ay a h 1 λj=>bh j i λk=>0<=(1:H)/\aa ((aZ .i64 k (1:H)) !=0) (aQ 258 c 0 i λl=>aH 258 (av c 0) l i λm=>aQ 258 c 0 m λn=>R n 0 2 m) (aQ 262 e 0 i λo=>ah [(.arr 262),kB] 247 [(.agg o),(ni k)] i λq(r:X4) p=>Nw 168 ⟨Zh 258 (au 0)++[(ni 0),(ni 0),(ni 0),(ni 0)]⟩ p λt s=>aH 262 (av t 0) q s λu=>aa (! r) (aQ 258 c 0 u λv=>aH 258 (av c 0) v u λx=>aQ 258 c 0 x λy=>R y 0 100 x) (aQ 262 t 0 u λz=>aH 262 (av e 0) z u λA=>aJ e 258 A λD=>aa (D==258) (aQ 258 e 0 A λE=>aH 258 (av c 0) E A λB=>aQ 258 c 0 B λF=>R F (i64 (h+1)) 0 B) (f (i64 (h+1)) A/\g (i64 (h+1)) A<g h i)))) (aQ 258 c 0 i λI=>aH 258 (av c 0) I i λC=>aQ 258 c 0 C λK=>R K 0 50 C)):ah [(.arr 258),kI,kI] 174 [(aj a)] w R:=co Tryz.f174 [(7,[(12,kI)])] h
def EF.ok(a:(X5 G))(R:Sl->H->ad) w(h:Nw 166 a w λc b=>aI 25 [(.slice V 0 0)] b λe d=>aQ 258 c 0 d λf=>aD 282 [(.agg f)] d λh g=>aa (! h) (cQ e 0 (.slice V 0 0) g λi=>eD e 0 i λj=>R j 2 i) (aX (av c 0) 258 0 1 λk=>fw k g λl=>∃(m:H->ad)(n:H->X0->I),m (0) g/\∀(o:H),∀(p:X0),m o p->aw (o<4) (aM p λq=>0<=(i64 ((3:H)-o))/\(eD e 0 q λr=>aI 3 [(ni (cG .i64 (aZ .i64 (i64 l) (i64 ((3:H)-o))) 1))] q λt s=>aC Pg (ZE #[25,25] 25 ⟨[(aj r),(cL t 1)]⟩) kS s λ(v:Sl) u=>cQ e 0 (aj v) u λx=>([]:Q I)=([]:Q I)/\m (i64 (o+1)) x/\n (i64 (o+1)) x<n o p)/\(aI 3 [(ni (cG .i64 (aZ .i64 (i64 l) (i64 ((3:H)-o))) 1))] q λz y=>eD e 0 y λX=>aC Pg (ZE #[25,25] 25 ⟨[(aj X),(cL z 1)]⟩) kS y λ(Y:Sl) b1=>cQ e 0 (aj Y) b1 λK=>([]:Q I)=([]:Q I)/\m (i64 (o+1)) K/\n (i64 (o+1)) K<n o p)) (aQ 258 c 0 p λe1=>∃(D:Q I->H->H->ad)(L:H->H->X0->I),D ([]:Q I) ((i64 l)) (0) p/\∀(C:Q I),∀(E:H)(A:H),∀(B:X0),D C E A B->aw (A<258) (gu (.int .u8) e1 258 A λ(F:H)=>ah [kV] 283 [(ni E),(ni (i64 F))] B λn1 m1=>jb Pg n1 [kI] m1 (λ(M:I)(N:I->Obj)(t1:H)(q1:X0)(r1 s1:ad)=>rz M N q1 λP=>eD e 0 P λv1=>aI 3 [(ni t1)] P λy1 x1=>aC Pg (ZE #[25,25] 25 ⟨[(aj v1),(cL y1 1)]⟩) kS x1 λ(a2:Sl) z1=>cQ e 0 (aj a2) z1 λb2=>mC M N b2 r1) (λc2 S=>D (c2::C:Q I) (i64 F) (i64 (A+1)) S/\L (i64 F) (i64 (A+1)) S<L E A B) λe2 f2=>jy (e2::C:Q I) f2 λT=>eD e 0 T λh2=>R h2 0 T) (eD e 0 B λi2=>cQ e 0 (aj i2) B λj2=>jy (C:Q I) j2 λW=>eD e 0 W λl2=>R l2 0 W)))):ah [kS,kI] 207 [(.agg a)] w R:=yH Tryz.f207 (.s .o (.s (.s .o (.c (.s .o .o) .o)) (.s .o (.s (.s .o (.b (.l [(15,kI)] (.s .o (.s (.c .o .o) (.s (.b (.s .o (.b .o))) .o)))))) (.s (.s .o (.b (.l [(4,kI),(28,kI)] (.s .o (.s (.c .o .o) (.s (.b (.s .o (.s (.s .o (.b (.r [kI] .o (.b .o)))) .o))) .o)))))) (.s .o .o)))))) h
def Bz.ok(a:(X5 G))(b:H)(R:(X5 G)->X4->H->ad) w(h:Nw 168 a w λd c=>Nw 168 ⟨Zh 258 (au 0)++[(ni 0),(ni 0),(ni 0),(ni 0)]⟩ c λf e=>a8 (λ(u:X0)=>aQ 262 d 0 u λv=>ah [(.arr 262),kB] 247 [(.agg v),(ni b)] u λy(z:X4) x=>aH 262 (av d 0) y x λA=>aa (! z) (aQ 262 f 0 A λE=>aH 262 (av f 0) E A λD=>aQ 262 f 0 D λF=>R F U 100 D) (dw A λB I=>aO (.arr 262) (av d 0) B λK=>jc (av d 258) B λL=>aH 262 (av f 0) K I λC=>B C/\aQ 262 f 0 C λM=>R M (L==258) 0 C)) λg=>aQ 262 d 0 e λh=>aD 296 [(.agg h)] e λj i=>aa (! j) (aQ 262 f 0 i λk=>aH 262 (av f 0) k i λl=>aQ 262 f 0 l λm=>R m U 2 l) (aJ d 258 i λn=>aa (n==258) (aQ 262 f 0 i λo=>aH 262 (av f 0) o i λp=>aQ 262 f 0 p λq=>R q U 2 p) (0<=(1:H)/\aa ((aZ .i64 b (1:H)) !=0) (aQ 262 f 0 i λr=>aH 262 (av f 0) r i λs=>aQ 262 f 0 s λt=>R t U 2 s) (g i)))):ah [(.arr 262),kB,kI] 216 [(.agg a),(ni b)] w R:=co Tryz.f216 [(2,[])] h
def A4.ok(a:(X5 G))(b:H)(R:(X5 G)->X4->ad) w(h:Nw 168 a w λd c=>Nw 168 ⟨Zh 258 (au 0)++[(ni 0),(ni 0),(ni 0),(ni 0)]⟩ c λf e=>aJ d 259 e λg=>aw (g<4) (aJ d 260 e λh=>0<=(1:H)/\aJ d 259 e λi=>cQ d 260 (ni (js .i64 (bH .i64 h (1:H)) b)) e λj=>cQ d 259 (ni (i64 (i+1))) j λk=>aQ 262 d 0 k λl=>aH 262 (av f 0) l k λm=>aQ 262 f 0 m λn=>R n J m) (a8 (λ(q:X4)(r:X0)=>aa q (aJ d 258 r λs=>aJ d 260 r λt=>aX (av d 0) 258 s 1 λu=>St u (au (u8 t)) r λv=>aJ d 258 v λx=>cQ d 258 (ni (i64 (x+1))) v λy=>cQ d 261 (ni 0) y λz=>dw z λA D=>aO (.arr 262) (av d 0) A λE=>jc (av d 258) A λX=>aw (X<258) (aH 262 (av f 0) E D λB=>A B/\aQ 262 f 0 B λY=>R Y J B) (aO (.arr 258) (av d 0) A λg1=>aD 282 [(.agg g1)] D λi1 F=>A F/\aH 262 (av f 0) E F λC=>A C/\aQ 262 f 0 C λk1=>R k1 i1 C)) (aJ d 259 r λl1=>aa (l1==4) (cQ d 259 (ni 5) r λI=>aQ 262 d 0 I λn1=>aH 262 (av f 0) n1 I λK=>aQ 262 f 0 K λp1=>R p1 J K) (aa (b==0) (aJ d 261 r λq1=>aa (q1 !=2) (aJ d 260 r λr1=>aJ d 260 r λs1=>cQ d 260 (ni (i64 (s1+1))) r λt1=>cQ d 261 (ni 1) t1 λu1=>cQ d 259 (ni 4) u1 λL=>aQ 262 d 0 L λx1=>aH 262 (av f 0) x1 L λM=>aQ 262 f 0 M λz1=>R z1 (We (r1<15)) M) (aJ d 260 r λa2=>cQ d 260 (ni (i64 (a2+1))) r λb2=>cQ d 261 (ni 1) b2 λc2=>cQ d 259 (ni 4) c2 λN=>aQ 262 d 0 N λe2=>aH 262 (av f 0) e2 N λP=>aQ 262 f 0 P λg2=>R g2 U P)) (aJ d 261 r λh2=>aa (h2 !=1) (aJ d 260 r λi2=>aJ d 260 r λj2=>cQ d 260 (ni (i64 (j2-1))) r λk2=>cQ d 261 (ni 2) k2 λl2=>cQ d 259 (ni 4) l2 λQ=>aQ 262 d 0 Q λn2=>aH 262 (av f 0) n2 Q λS=>aQ 262 f 0 S λp2=>R p2 (We (i2>0)) S) (aJ d 260 r λq2=>cQ d 260 (ni (i64 (q2-1))) r λr2=>cQ d 261 (ni 2) r2 λs2=>cQ d 259 (ni 4) s2 λT=>aQ 262 d 0 T λu2=>aH 262 (av f 0) u2 T λW=>aQ 262 f 0 W λx2=>R x2 U W))))) λo=>aJ d 259 e λp=>aa (p==4) (o (b==0) e) (o U e))):ah [(.arr 262),kB] 247 [(.agg a),(ni b)] w R:=co Tryz.f247 [(6,[(38,kB)])] h
def xL.ok(a:H)(b:H)(R:G->ad) w(h:aI 3 [(ni a)] w λd c=>aI 3 [(ni b)] c λf e=>R (.func (.func 338) ⟨[]⟩ ⟨[(bU f),(bU d)]⟩) e):ah [kV] 283 [(ni a),(ni b)] w R:=co Tryz.f283 [] h
def z8.ok(a:(X5 G))(R:X4->ad) w(h:Nw 168 a w λc b=>aQ 262 c 0 b λd=>aD 347 [(.agg d)] b λf e=>aa f (R J e) (a8 (λ(x:X0)=>aJ c 258 x λy=>aa (y==0) (aJ c 261 x λz=>aa (z==0) (R J x) (aJ c 261 x λC=>aa (C==1) (aJ c 260 x λD=>aw (D>0) (R J x) (aJ c 261 x λE=>aa (E==2) (aJ c 260 x λF=>R (We (F<15)) x) (R U x))) (aJ c 261 x λH=>aa (H==2) (aJ c 260 x λI=>R (We (I<15)) x) (R U x)))) (aa (y==258) (aM x λA=>aJ c 259 A λK=>aa (K==4) (aJ c 261 A λL=>aa (L==0) (aJ c 260 A λM=>aJ c 258 A λN=>aX (av c 0) 258 (i64 (N-1)) 1 λP=>fw P A λQ=>aa (M==(i64 Q)) (aQ 258 c 0 A λS=>aD 282 [(.agg S)] A λT W=>R T W) (R U A)) (R U A)) (R U A)) (aM x λB=>aJ c 258 B λX=>aX (av c 0) 258 (i64 (X-1)) 1 λY=>fw Y B λt1=>aJ c 260 B λu1=>aJ c 261 B λv1=>aD 350 [(ni (i64 t1)),(ni u1),(ni v1)] B λy1 x1=>R y1 x1))) λg=>aJ c 259 e λh=>aD 348 [(ni h),(ni 4),(ni 5)] e λj i=>aa (! j) (R U i) (aJ c 258 i λk=>aD 348 [(ni k),(ni 0),(ni 258)] i λm l=>aa (! m) (R U l) (aJ c 260 l λn=>aD 348 [(ni n),(ni 0),(ni 15)] l λp o=>aa (! p) (R U o) (aJ c 261 o λq=>aD 348 [(ni q),(ni 0),(ni 2)] o λs r=>aa (! s) (R U r) (aQ 262 c 0 r λt=>aD 349 [(.agg t)] r λv u=>aa (! v) (R U u) (g u))))))):aD 296 [(.agg a)] w R:=co Tryz.f296 [(7,[])] h
def uj.ok(a:G)(b:Wg)(c:Wg)(R:ad) w(h:bh b w λd=>bh c w λe=>aw (d<e) (∃(f:ad)(g:X0->I),f w/\∀(h:X0),f h->bh c h λi=>bh b h λj=>aa (i !=j) (nR Pg a [kB] [(ni 1)] h λ(l:X4) k=>aa (! l) (R k) (nR Pg a [kB] [(ni 1)] k λ(n:X4) m=>aa (! n) (R m) (bh c m λo=>St c (ni (i64 (o+(i64 ((1:H)-(i64 ((2:H)*1))))))) m λp=>([]:Q I)=([]:Q I)/\f p/\g p<g h))) (nR Pg a [kB] [(ni 0)] h λ(r:X4) q=>R q)) (∃(s:ad)(t:X0->I),s w/\∀(u:X0),s u->bh c u λv=>bh b u λx=>aa (v !=x) (nR Pg a [kB] [(ni 1)] u λ(z:X4) y=>aa (! z) (R y) (nR Pg a [kB] [(ni 0)] y λ(C:X4) A=>aa (! C) (R A) (bh c A λD=>St c (ni (i64 (D+(i64 ((1:H)-(i64 ((2:H)*0))))))) A λB=>([]:Q I)=([]:Q I)/\s B/\t B<t u))) (nR Pg a [kB] [(ni 0)] u λ(F:X4) E=>R E))):cH 338 [a,(ar (Z b)),(ar (Z c))] w R:=yH Tryz.f338 (.s .o (.s (.s .o (.c .o .o)) (.s (.b (.l [] (.s (.s .o (.c .o .o)) (.s (.b (.s .o (.c .o .o))) .o)))) .o))) h
def mS.ok(a:(X5 G))(R:X4->ad) w(h:Nw 168 a w λc b=>dw b λd e=>jc (av c 259) d λf=>aD 348 [(ni f),(ni 0),(ni 3)] e λh g=>d g/\aa h (jc (av c 260) d λi=>jc (av c 259) d λj=>0<=j/\aD 348 [(ni i),(ni 0),(ni (i64 ((bH .i64 (1:H) j)-1)))] g λl k=>d k/\aa l (aO (.arr 262) (av c 0) d λm=>jc (av c 259) d λn=>jc (av c 260) d λo=>eu Pg 168 [(2,(ni n)),(3,(ni o))] λp=>zd Pg 168 m p λq=>R q k) (R U k)) (R U g)):aD 347 [(.agg a)] w R:=co Tryz.f347 [] h
def xY.ok(a:H)(b:H)(c:H)(R:X4->ad) w(h:aw (a>=b) (R (We (a<=c)) w) (R U w)):aD 348 [(ni a),(ni b),(ni c)] w R:=co Tryz.f348 [] h
def zY.ok(a:(X5 G))(R:X4->ad) w(h:Nw 168 a w λc b=>aQ 258 c 0 b λd=>dG 0 b λe f(g:H) h=>aw (g<258) (gu (.int .u8) d 258 g λ(i:H)=>aw (i>15) (R U h) (aJ c 258 h λj=>aw (g>=j) (aw (i>0) (R U h) (e (i64 (g+1)) h/\f (i64 (g+1)) h<f g h)) (e (i64 (g+1)) h/\f (i64 (g+1)) h<f g h))) (R J h)):aD 349 [(.agg a)] w R:=co Tryz.f349 [(5,[(7,kI)])] h
def yX.ok(a:H)(b:H)(c:H)(R:X4->ad) w(h:aa (c==0) (R (a==b) w) (aa (c==1) (R (We (a<b)) w) (R (We (a>b)) w))):aD 350 [(ni a),(ni b),(ni c)] w R:=co Tryz.f350 [] h
end
end Go.Proofs.Q9
namespace Go.Tab
section
open Go.Inc
def pw(l:Q I)(b a:I):Prop:=if l=[]then a=0\/(a=1/\0<b)\/(a=2/\b<15)else(a=0/\l.getLastD 0=b)\/(a=1/\l.getLastD 0<b)\/(a=2/\b<l.getLastD 0)
def gq(t:TS):Prop:=(t.bits<4/\t.l=[]/\t.now<2^t.bits/\t.way=0)\/((t.bits=4\/t.bits=5)/\t.l.length<258/\t.now<=15/\(∀x∈t.l,x<=15)/\pw t.l t.now t.way)
def gq.zero:gq t0:=.inl ⟨Zb,O,Zb,O⟩
def rj{m:Q I->X4}{t j:TS}{b:I}(h:gq t)(q:b<=1)(a:bQ m t b=.more j):gq j:=by obtain⟨l,d,n,o⟩:=t;unfold gq at h;unfold bQ at a;dsimp only at h a;(rcases h with⟨k,e,i,f⟩|⟨k,e,i,f,g⟩);{rw[X3 k]at a;cases a;subst e f;by_cases h:d=3;{subst h;right;refine⟨.inl O,Zd,by simp at i;dsimp only;omega,Zd,?_⟩;simp[pw]};left;refine⟨by dsimp only;omega,O,?_,O⟩;dsimp only;rw[Yx];omega};rw[K Za]at a;split at a;{split at a;{split at a;{cases a;right;refine⟨.inl O,by simp;omega,i,?_,?_⟩;{grind};unfold pw;dsimp only;rw[K Zd];left;simp};grind};cases a;right;exact⟨.inr O,e,i,f,g⟩};split at a;{split at a;{rename_i p;cases a;right;refine⟨.inl O,e,by dsimp only;omega,f,?_⟩;unfold pw at g⊢;dsimp only;split at g;{rename_i c;rw[X3 c];omega};rename_i c;rw[K c];omega};cases a};split at a;{rename_i p;cases a;right;refine⟨.inl O,e,by dsimp only;omega,f,?_⟩;unfold pw at g⊢;dsimp only;split at g;{rename_i c;rw[X3 c];omega};rename_i c;rw[K c];omega};cases a
def pz{c:Q I->X4}{t:TS}{b:I}{l:Q I}(h:gq t)(a:bQ c t b=.fin l):l.length=258/\c l=J:=by obtain⟨g,d,e,f⟩:=t;unfold gq at h;unfold bQ at a;dsimp only at h a;split at a;{cases a};grind
def pad(l:Q I):Q I:=l++Zh (258-l.length) 0
def cW{l:Q I}(h:l.length<=258):(pad l).length=258:=by simp[pad];omega
def Un{l:Q I}(h:l.length=258):pad l=l:=by simp[pad,h]
def acy{l:Q I}{x:I}(h:l.length<258):(pad l).set l.length x=pad (l++[x]):=by unfold pad;rw[Q.set_append_right _ _ (ZA _),XD];obtain⟨m,a⟩:∃m,258-l.length=m+1:=⟨257-l.length,Za⟩;rw[a,Q.replicate_succ,Q.set_cons_zero,Zf,ZJ,show 258-(l.length+1)=m by omega];simp
def aaf{l:Q I}(h:l≠[])(b:l.length<=258):(pad l)[l.length-1]?=Z (l.getLastD 0):=by unfold pad;have:0<l.length:=List.length_pos_iff.2 h;rw[ZQ Za,Zg Za];cases l with|nil=>exact Wi O h|cons a l=>simp[Q.getLastD,Q.getLast_eq_getElem]
def afo{l:Q I}{i:I}(a:l.length<=i):(pad l).getD i 0=0:=by unfold pad;rw[Zn,ZN a,Q.getElem?_replicate];split<;>rfl
def ae9{l:Q I}(h:∀x∈l,x<=15):∀x∈pad l,x<=15:=by intro x a;(rcases List.mem_append.1 a with a|a);{exact h x a};grind
end
end Go.Tab
namespace Go.Proofs.Q9
section
open Go Go.Vc Go.Srt Go.Inc Go.Tab
abbrev Fi(l:Q I):Q G:=l.map λ(n:I)=>Yv .u8 (n:H)
abbrev gV(l:Q I)(s b n a:H):X5 G:=⟨Fi l++[ni s,ni b,ni n,ni a]⟩
def gQ{l:Q I}(h:l.length=258):(Fi l).length=258:=by simp[h]
section
variable{E w:X0}{F:Q HP}
def aag:(Tryz.prog.fieldsOf 168).toList.map (λf=>(f.name== "_",f.type,f.offset))=[(U,166,0),(U,3,258),(U,3,259),(U,3,260),(U,3,261)]:=Zc
def ahj:Tryz.prog.underlying 168=Z (.struct (Tryz.prog.fieldsOf 168)):=Zc
def aet:Tryz.prog.stoodInHeld 168=U:=Zc
def zd.tb{l:Q I}{s b n m:H}{K:X4->Prop}(C:l.length=258)(T:K J):zd Zj 168 (gV l s b n m) (gV l s b n m) K:=by obtain⟨it,g⟩:=M3;obtain⟨S,B,G⟩:=adr;obtain⟨kt,L,M⟩:=TL;obtain⟨o,p,q,u,z,N,i,a,c,e,f⟩:∃o p q u z,(Tryz.prog.fieldsOf 168).toList=[o,p,q,u,z]/\(o.name== "_",o.type,o.offset)=(U,166,0)/\(p.name== "_",p.type,p.offset)=(U,3,258)/\(q.name== "_",q.type,q.offset)=(U,3,259)/\(u.name== "_",u.type,u.offset)=(U,3,260)/\(z.name== "_",z.type,z.offset)=(U,3,261):=by{have h:=aag;generalize(Tryz.prog.fieldsOf 168).toList=fs at h;match fs,h with|[],h=>simp at h|[_],h=>simp at h|[_,_],h=>simp at h|[_,_,_],h=>simp at h|[_,_,_,_],h=>simp at h|_::_::_::_::_::_::_,h=>simp at h|[o,p,q,u,z],h=>simp only[ZV,YY,Q.cons.injEq,and_true]at h;exact⟨o,p,q,u,z,rfl,h.1,h.2.1,h.2.2.1,h.2.2.2.1,h.2.2.2.2⟩};simp only[YL]at i a c e f;have A:=gQ C;have W:(((gV l s b n m).toList.drop 0).take 258)=(l.map λ(x:I)=>(x:H)).map (.int .u8):=by{rw[YM,Q.take_append_of_le_length Za,Zr Za,YC];rfl};have j:∀(x:H)(D:I)(_:9<=D)(w:X0),(Ys D 3 (ni x) (ni x)).run Zj w=.ok J w:=λx D X w=>by{obtain⟨D,rfl⟩:∃k,D=k+1:=⟨D-1,Za⟩;rw[run_equalIn_int w D _ _ _ _ _ TB];simp};obtain⟨r,Y,R⟩:=nM (P:=Zj) (d:=9) (rec:=λt x y K=>∃b,(∀D,9<=D->∀w,(Ys D t x y).run Zj w=.ok b w)/\K b) (λt x y K h=>h) (xs:=gV l s b n m) (ys:=gV l s b n m) (fs:=[o,p,q,u,z]) (K:=K) (by unfold mD;rw[i.1];refine qk (it:=S) (by rw[i.2.1];kernel_rfl) (by rw[i.2.1];exact B) (qk (it:=S) (by rw[i.2.1];kernel_rfl) (by rw[i.2.1];exact B) ?_);rw[i.2.2,G,i.2.1,W];refine⟨_,λD X w=>Gk afm abG L M (by simpa using C) (by simpa using C) D Za w,?_⟩;unfold mD;rw[a.1];refine gJ (it:=it) (v:=ni s) (by rw[a.2.1];kernel_rfl) (by rw[a.2.1];exact g) (by rw[a.2.2];exact ny (k:=0) A) (gJ (it:=it) (v:=ni s) (by rw[a.2.1];kernel_rfl) (by rw[a.2.1];exact g) (by rw[a.2.2];exact ny (k:=0) A) ?_);rw[a.2.1];refine⟨J,j s,?_⟩;unfold mD;rw[c.1];refine gJ (it:=it) (v:=ni b) (by rw[c.2.1];kernel_rfl) (by rw[c.2.1];exact g) (by rw[c.2.2];exact ny (k:=1) A) (gJ (it:=it) (v:=ni b) (by rw[c.2.1];kernel_rfl) (by rw[c.2.1];exact g) (by rw[c.2.2];exact ny (k:=1) A) ?_);rw[c.2.1];refine⟨J,j b,?_⟩;unfold mD;rw[e.1];refine gJ (it:=it) (v:=ni n) (by rw[e.2.1];kernel_rfl) (by rw[e.2.1];exact g) (by rw[e.2.2];exact ny (k:=2) A) (gJ (it:=it) (v:=ni n) (by rw[e.2.1];kernel_rfl) (by rw[e.2.1];exact g) (by rw[e.2.2];exact ny (k:=2) A) ?_);rw[e.2.1];refine⟨J,j n,?_⟩;unfold mD;rw[f.1];refine gJ (it:=it) (v:=ni m) (by rw[f.2.1];kernel_rfl) (by rw[f.2.1];exact g) (by rw[f.2.2];exact ny (k:=3) A) (gJ (it:=it) (v:=ni m) (by rw[f.2.1];kernel_rfl) (by rw[f.2.1];exact g) (by rw[f.2.2];exact ny (k:=3) A) ?_);rw[f.2.1];refine⟨J,j m,?_⟩;simpa using T);refine⟨r,λw=>?_,R⟩;rw[run_equalIn_struct w 9999 _ _ _ ahj aet,N];exact Y 9999 Zb w
end
end
end Go.Proofs.Q9
end
