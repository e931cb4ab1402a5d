/- Texts packed together by program; spaces struck by program. Conditions: as each theorem states. -/
import Derived.Test.YtjnhljphfgcamaaGreatDoorQpb
set_option linter.all false
set_option maxRecDepth 20000
set_option maxHeartbeats 1000000
open _root_ renaming Array->X4,Array.ext'->Xw,Array.replicate->YY,Array.toList_setIfInBounds->Yv,Bool->X3,Bool.and_eq_true->ZH,Bool.eq_iff_iff->Ye,Bool.false->U,Bool.or_eq_true->YH,Bool.true->J,ByteArray->Wc,Decidable->Wz,Decidable.decide->Wb,DecidableEq->WE,Function.comp->XQ,Go.Addr->Wg,Go.Addr.add->ZZ,Go.Builtin->Wq,Go.Builtin.append_->ZD,Go.Builtin.nextslicecap->XO,Go.Builtin.zeroCells->XA,Go.Instr.fill->YM,Go.Instr.lookup->Yu,Go.Instr.makeMap->YX,Go.Instr.mapUpdate->Zo,Go.IntKind->Wl,Go.IntKind.max->YJ,Go.Op.equalIn->Yt,Go.Oper->Wo,Go.Program->X6,Go.Proofs.Tryz.prog->Zj,Go.Region.ready->Z0,Go.TypeId->Wa,Go.Value->G,Go.Value->Wp,Go.Value.int->Yx,Go.World->XZ,Go.convert->Wy,Go.run_underlying->Wf,Go.undef->Wj,Go.zeroValue->Wv,Int->H,Int.tdiv->Yh,Int.toNat_natCast->Zk,List->Q,List->Wu,List.Perm.cons->Xp,List.all_eq_true->XJ,List.append_assoc->Zm,List.append_nil->ZG,List.cons_append->ZL,List.drop_drop->Ys,List.drop_eq_getElem_cons->Zu,List.drop_eq_nil_of_le->Xt,List.drop_left->XN,List.drop_of_length_le->ZT,List.drop_zero->Yr,List.ext_getElem->YW,List.ext_getElem?->YO,List.filter_append->Y5,List.filter_cons_of_pos->XM,List.flatMap_append->Xq,List.flatMap_cons->Yn,List.flatten_append->Xf,List.flatten_cons->Yc,List.getD->YB,List.getD_eq_getElem?_getD->Zl,List.getElem?_append_left->ZJ,List.getElem?_append_right->ZK,List.getElem?_drop->XR,List.getElem?_eq_getElem->Zg,List.getElem?_eq_none->Z6,List.getElem?_map->ZR,List.getElem?_range->Yq,List.getElem_cons_succ->Xe,List.getElem_cons_zero->Z7,List.getElem_drop->Xo,List.getElem_map->XI,List.getElem_mem->Zs,List.getElem_of_mem->Z1,List.getElem_take->YN,List.length->Yo,List.length_append->Zf,List.length_cons->Zp,List.length_drop->ZA,List.length_map->Zn,List.length_nil->ZP,List.length_range->Yj,List.length_replicate->ZO,List.length_reverse->ZY,List.length_set->XW,List.length_singleton->ZN,List.length_take->Zx,List.map_append->ZC,List.map_congr_left->Z3,List.map_cons->ZX,List.map_map->YF,List.map_nil->YL,List.map_set->Xz,List.mem_append->Xi,List.mem_append_left->XF,List.mem_cons->Xx,List.mem_cons_of_mem->ZB,List.mem_cons_self->ZM,List.mem_of_getElem?->YP,List.mem_of_mem_drop->YK,List.mem_of_mem_take->Yg,List.mem_range->YV,List.mem_singleton->ZE,List.nil_append->ZW,List.perm_append_comm->ZV,List.perm_middle->YU,List.range->Zr,List.range_succ->YA,List.replicate->Zh,List.sum_append->YS,List.take_add_one->Zz,List.take_append_drop->Zv,List.take_length->Z4,List.take_of_length_le->Zt,List.take_succ_cons->Ym,List.take_zero->Y7,Min.min->WD,Nat->I,Nat->WA,Nat.add_assoc->Yw,Nat.add_comm->XV,Nat.add_mul->YR,Nat.add_zero->Zq,Nat.and_two_pow_sub_one_eq_mod->XH,Nat.beq->Y6,Nat.div_eq_of_lt->Xb,Nat.eq_of_beq_eq_true->Yp,Nat.eq_of_mul_eq_mul_right->Xs,Nat.eq_zero_or_pos->Z5,Nat.le_of_ble_eq_true->Y9,Nat.le_refl->Zw,Nat.le_trans->Yl,Nat.lt_or_ge->Yk,Nat.min_eq_left->Y4,Nat.mod_eq_of_lt->Xa,Nat.mod_lt->Xr,Nat.mul_assoc->Y0,Nat.mul_comm->Yb,Nat.mul_le_mul->Xy,Nat.mul_le_mul_right->ZQ,Nat.mul_one->Zy,Nat.pow_le_pow_right->ZF,Nat.pow_succ->Z8,Nat.reduceAdd->Z2,Nat.strongRecOn->ZU,Nat.sub_self->Y3,Nat.sub_zero->YT,Nat.succ_mul->Yf,Nat.two_pow_add_eq_or_of_lt->YZ,Nat.two_pow_pos->Yd,Nat.xor_lt_two_pow->YQ,Nat.zero_add->Zi,Nat.zero_le->Ya,Option->X7,Option.getD_some->YE,Option.isNone->ZI,Option.map_some->YD,Option.none->Z,Option.some->V,Option.some.inj->Xu,Prod.mk.injEq->Xn,Pure.pure->Ws,absurd->Wh,beq_iff_eq->Wk,congrArg->Wn,decide_eq_false->Wd,decide_eq_true->We,decide_eq_true_eq->Wm,decide_eq_true_iff->Wx,if_neg->K,if_neg->X8,if_pos->X0,of_decide_eq_false->X5,of_decide_eq_true->X9,rfl->O
noncomputable section
namespace Go.Proofs.Q9
section
open Go Go.Vc Go.Srt Go.Inc Go.Hd
section
variable{E w:XZ}{F:Q HP}
theorem QG{s m:I}{K:X3->ad}(c:m<=3)(a:s<256^m)(b:K J w):aE 311 [.int .u32 (s:H),ni (m:H)] w K:=by refine L9.ok _ _ _ _ (fI ?_);(with_reducible refine aa.yes ?_);rw[af Za];refine⟨Za,gI ?_ b⟩;rw[show(8*(m:H))=((8*m:I):H) by omega,iq (by have:m=0\/m=1\/m=2\/m=3:=by{omega};rcases this with rfl|rfl|rfl|rfl<;>simp at a<;>omega),db (by have:Wl.bits .u64=64:=rfl;omega),I.pow_mul,Xb Ze];rfl
theorem Uo{n:I}{m:MS}{K:X3->XZ->Prop}(h:Hp E w F)(s:1<=n)(q:n<=65536)(k:ij n m)(f:∀w',Hp E w' F->K J w'):Cl Zj [kB] 245 ⟨[.int .i64 (n:H),.agg ⟨[.int .i64 (m.at_:H),.int .i64 (m.v:H),.int .i64 (vm m.v:H),.int .i64 (m.M:H),.int .i64 (m.P:H),.int .u32 (m.sum:H),.int .i64 (m.many:H)]⟩]⟩ w K:=by obtain⟨l,v,M,P,o,g⟩:=m;unfold ij at k;dsimp only at k⊢;refine BB.ok _ ((l:H),(v:H),(vm v:H),(M:H),(P:H),(o:H),(g:H),()) _ _ ?_;(try simp only[bK,aj,Zi,Zq,cX]);(with_reducible repeat first|refine Nw.mk h λb w h=>?_|refine Ld.xb h rfl ?_|refine Ld.xt h rfl ?_|refine ax.xw h rfl rfl λw h=>?_);refine fI ?_;(rcases k with⟨a,d⟩|⟨a,d,i,j,e,c⟩|⟨a,d,i,j,e,c,p⟩|⟨a,d,i,j,e,c,p,r⟩|⟨a,d,i,j,e,c⟩);{cases d;(with_reducible refine aa.no ?_);refine fI ?_;(with_reducible repeat first|refine Ld.xb h rfl ?_|refine Ld.xt h rfl ?_|refine aa.yes ?_|refine aa.no ?_);exact f _ h.tl};{subst a i j e c;(with_reducible refine aa.no ?_);refine fI ?_;(with_reducible repeat first|refine Ld.xb h rfl ?_|refine Ld.xt h rfl ?_|refine aa.yes ?_|refine aa.no ?_);refine Em h Za Za λw h=>?_;(with_reducible repeat first|refine Ld.xt h rfl ?_|refine aa.yes ?_);refine gI ?_ (f _ h.tl);simp};{subst a e c p;(with_reducible repeat first|refine Ld.xb h rfl ?_|refine aa.yes ?_);refine fI ?_;(skip);refine fI ?_;(with_reducible repeat first|refine Ld.xb h rfl ?_|refine aa.yes ?_|refine aa.no ?_);refine fI ?_;(with_reducible repeat first|refine Ld.xb h rfl ?_|refine Ld.xt h rfl ?_|refine aa.yes ?_);refine Em h Za Za λw h=>?_;(with_reducible repeat first|refine Ld.xb h rfl ?_|refine Ld.xt h rfl ?_|refine aa.yes ?_);refine gI ?_ (f _ h.tl);simp};{subst a c;(with_reducible repeat first|refine Ld.xb h rfl ?_|refine aa.yes ?_);refine fI ?_;rw[We (show 1<=(P:H)/\(P:H)<=(M:H) by omega)];refine fI ?_;(with_reducible repeat first|refine Ld.xb h rfl ?_|refine aa.yes ?_|refine aa.no ?_);refine QG p r ?_;(with_reducible repeat first|refine Ld.xt h rfl ?_|refine aa.yes ?_);exact f _ h.tl};subst a d i j;(with_reducible refine aa.no ?_);refine fI ?_;(with_reducible repeat first|refine Ld.xb h rfl ?_|refine aa.yes ?_|refine aa.no ?_);refine QG e c ?_;(with_reducible repeat first|refine Ld.xb h rfl ?_|refine Ld.xt h rfl ?_|refine aa.yes ?_);refine gI ?_ (f _ h.tl);simp[vm]
end
end
end Go.Proofs.Q9
namespace Go.Vc
section
open Go
section
variable{P:X6}{α β:Type}[WE α]{ke:α->G}{ve:β->G}{kt vt t:Wa}{E w:XZ}{F:Q HP}{m:X7 I}{l:Q (α×β)}
def ou.fn{t:Fn}{a b:X4 G}{K:X3->Prop}(h:K U):ou (.func t a b) K:=h
def aG.found(b:nK P kt ke)(c:P.underlying t=V (.map kt vt)){a:α}{q:I×β}{z:G}{k:Ki}{x:k.T}{K:k.T->ad}(d:∀w,(Wv vt).run P w=.ok z w)(h:Hp E w (jK ke ve m l::F))(e:findAt a l 0=V q)(f:ve q.2=k.enc x)(g:K x w):aG P (Yu t (.map m) (ke a) U) k w K:=by unfold aG;rw[KN b c d h,e];dsimp only;rw[f];exact Ki.qa.2 g
end
end
end Go.Vc
namespace Go.Proofs.Q9
section
open Go Go.Vc Go.Srt Go.Inc Go.Hd
abbrev gU:=H×H×H×H×H×H×H×Unit
section
variable{E w:XZ}{F:Q HP}
def N2(n:I)(m:MS)(c:I)(E:XZ)(F:Q HP)(K:gU->X3->ad):Prop:=(∀a w',aQ n m c=.more a->a.at_≠4->a.at_≠6->Hp E w' F->K (msT a) J w')/\(∀M P u w',aQ n m c=.fin (.aH M P u)->Hp E w' F->K (4,0,0,(M:H),(P:H),(u:H),4,()) J w')/\(∀u w',aQ n m c=.fin (.tail u)->Hp E w' F->K (6,0,0,0,0,(u:H),4,()) J w')/\(∀e o w',aQ n m c=.bad e->e=242->Hp E w' F->K o U w')
def adM{n:I}{c:I}{K:gU->X3->ad}(h:Hp E w F)(f:c<256)(d:N2 n dN c E F K):ah [.st aS,kB] 241 [ni (n:H),.agg ⟨[ni 0,ni 0,ni 0,ni 0,ni 0,.int .u32 0,ni 0]⟩,ao (c:H)] w K:=by obtain⟨a,_,_,e⟩:=d;refine LV.ok _ (0,0,0,0,0,0,0,()) _ _ _ ?_;(try simp only[aj,Zq]);(with_reducible repeat first|refine Nw.mk h λb w h=>?_|(refine St.xs h rfl rfl λw h=>?_;dsimp only[bJ,over]at h));by_cases h0:c=0;{subst h0;(with_reducible repeat first|refine Ld.xt h rfl ?_|refine ax.xw h rfl rfl λw h=>?_|(refine St.xs h rfl rfl λw h=>?_;dsimp only[bJ,over]at h)|refine aa.yes ?_);exact a ⟨5,0,0,0,0,0⟩ _ rfl (by dsimp only;decide) (by dsimp only;decide) h.tl};(with_reducible repeat first|refine Ld.xt h rfl ?_|refine ax.xw h rfl rfl λw h=>?_|refine aa.no ?_);by_cases h1:c=1;{subst h1;exact a ⟨1,0,0,0,0,0⟩ _ rfl (by dsimp only;decide) (by dsimp only;decide) h.tl};refine gI (Wd Za) (e 242 _ _ ?_ rfl h.tl);unfold aQ dN;simp[h0,h1]
def aen{n v:I}{c:I}{K:gU->X3->ad}(h:Hp E w F)(g:n<=65536)(i:v<=n)(j:c<256)(p:N2 n ⟨1,v,0,0,0,0⟩ c E F K):ah [.st aS,kB] 242 [ni (n:H),.agg ⟨[ni 1,ni (v:H),ni (vm v:H),ni 0,ni 0,.int .u32 0,ni 0]⟩,ao (c:H)] w K:=by obtain⟨e,_,_,f⟩:=p;refine Ma.ok _ (1,(v:H),(vm v:H),0,0,0,0,()) _ _ _ ?_;(try simp only[aj,Zi,Zq]);(with_reducible repeat first|refine Nw.mk h λb w h=>?_|refine Ld.xt h rfl ?_);refine I9 h i g j (λa o d w h=>?_) λm d a k w q h=>?_;{(with_reducible repeat first|refine Nw.mk h λb w h=>?_|refine Ld.xt h rfl ?_|refine ax.xw h rfl rfl λw h=>?_|(refine ax.xs h rfl rfl λw h=>?_;dsimp only[bJ,over]at h));cases d;{(with_reducible repeat first|refine Ld.xt h rfl ?_|refine ax.xw h rfl rfl λw h=>?_|refine aa.no ?_);exact f 242 _ _ (by unfold aQ;simp[a]) rfl h.tl};(with_reducible repeat first|refine Ld.xb h rfl ?_|refine Ld.xt h rfl ?_|refine ax.xw h rfl rfl λw h=>?_|refine aa.yes ?_);exact f 242 _ _ (by unfold aQ;simp[a]) rfl h.tl};cases d;{have:=q rfl;subst this;(with_reducible repeat first|refine Nw.mk h λb w h=>?_|refine Ld.xt h rfl ?_|refine ax.xw h rfl rfl λw h=>?_|(refine ax.xs h rfl rfl λw h=>?_;dsimp only[bJ,over]at h)|refine aa.no ?_);exact e ⟨1,m,0,0,0,0⟩ _ (by unfold aQ;simp[a]) (by dsimp only;decide) (by dsimp only;decide) h.tl};(with_reducible repeat first|refine Nw.mk h λb w h=>?_|refine Ld.xb h rfl ?_|refine Ld.xt h rfl ?_|refine ax.xw h rfl rfl λw h=>?_|(refine ax.xs h rfl rfl λw h=>?_;dsimp only[bJ,over]at h)|refine aa.yes ?_);exact e ⟨2,0,m,0,0,0⟩ _ (by unfold aQ;simp[a]) (by dsimp only;decide) (by dsimp only;decide) h.tl
def acy{n v M:I}{c:I}{K:gU->X3->ad}(h:Hp E w F)(g:M<=65536)(i:v<=M)(j:c<256)(p:N2 n ⟨2,v,M,0,0,0⟩ c E F K):ah [.st aS,kB] 243 [ni (n:H),.agg ⟨[ni 2,ni (v:H),ni (vm v:H),ni (M:H),ni 0,.int .u32 0,ni 0]⟩,ao (c:H)] w K:=by obtain⟨e,_,_,f⟩:=p;refine HM.ok _ (2,(v:H),(vm v:H),(M:H),0,0,0,()) _ _ _ ?_;(try simp only[aj,Zi,Zq]);(with_reducible repeat first|refine Nw.mk h λb w h=>?_|refine Ld.xb h rfl ?_|refine Ld.xt h rfl ?_);refine I9 h i g j (λa o d w h=>?_) λm d a k w q h=>?_;{(with_reducible repeat first|refine Nw.mk h λb w h=>?_|refine Ld.xt h rfl ?_|refine ax.xw h rfl rfl λw h=>?_|(refine ax.xs h rfl rfl λw h=>?_;dsimp only[bJ,over]at h));cases d;{(with_reducible repeat first|refine Ld.xt h rfl ?_|refine ax.xw h rfl rfl λw h=>?_|refine aa.no ?_);exact f 242 _ _ (by unfold aQ;simp[a]) rfl h.tl};(with_reducible repeat first|refine Ld.xb h rfl ?_|refine Ld.xt h rfl ?_|refine ax.xw h rfl rfl λw h=>?_|refine aa.yes ?_);exact f 242 _ _ (by unfold aQ;simp[a]) rfl h.tl};cases d;{have:=q rfl;subst this;(with_reducible repeat first|refine Nw.mk h λb w h=>?_|refine Ld.xt h rfl ?_|refine ax.xw h rfl rfl λw h=>?_|(refine ax.xs h rfl rfl λw h=>?_;dsimp only[bJ,over]at h)|refine aa.no ?_);exact e ⟨2,m,M,0,0,0⟩ _ (by unfold aQ;simp[a]) (by dsimp only;decide) (by dsimp only;decide) h.tl};(with_reducible repeat first|refine Nw.mk h λb w h=>?_|refine Ld.xb h rfl ?_|refine Ld.xt h rfl ?_|refine ax.xw h rfl rfl λw h=>?_|(refine ax.xs h rfl rfl λw h=>?_;dsimp only[bJ,over]at h)|refine aa.yes ?_);exact e ⟨3,0,M,m,0,0⟩ _ (by unfold aQ;simp[a]) (by dsimp only;decide) (by dsimp only;decide) h.tl
def aba{n a M P e d:I}{c:I}{K:gU->X3->ad}(h:Hp E w F)(g:a=3\/(a=5/\M=0/\P=0))(i:d<=3)(r:e<256^d)(j:c<256)(k:N2 n ⟨a,0,M,P,e,d⟩ c E F K):ah [.st aS,kB] 244 [ni (n:H),.agg ⟨[ni (a:H),ni 0,ni 0,ni (M:H),ni (P:H),.int .u32 (e:H),ni (d:H)]⟩,ao (c:H)] w K:=by obtain⟨o,p,q,s⟩:=k;have f:e<16777216:=by{have:256^d<=256^3:=ZF Zb i;omega};refine Pc.ok _ ((a:H),0,0,(M:H),(P:H),(e:H),(d:H),()) _ _ _ ?_;(try simp only[aj,Zi,Zq,Z2]);(with_reducible repeat first|refine Nw.mk h λb w h=>?_|refine Ld.xb h rfl ?_|(refine St.xs h rfl rfl λw h=>?_;dsimp only[bJ,over]at h)|refine⟨by first|omega|decide,?_⟩);rw[af (x:=(d:H)+1) Za]at h⊢;rw[af9 f j]at h;by_cases hm3:d=3;{subst hm3;(with_reducible repeat first|refine Ld.xb h rfl ?_|refine Ld.xt h rfl ?_|refine ax.xw h rfl rfl λw h=>?_|(refine St.xs h rfl rfl λw h=>?_;dsimp only[bJ,over]at h)|refine aa.yes ?_);rw[af Za]at h⊢;(rcases g with rfl|⟨rfl,rfl,rfl⟩);{exact p M P (256*e+c) _ (by unfold aQ;simp) h.tl};exact q (256*e+c) _ (by unfold aQ;simp) h.tl};(with_reducible repeat first|refine Ld.xt h rfl ?_|refine ax.xw h rfl rfl λw h=>?_|refine aa.no ?_);refine o ⟨a,0,M,P,256*e+c,d+1⟩ _ ?_ ?_ ?_ h.tl;{unfold aQ;rcases g with rfl|⟨rfl,rfl,rfl⟩<;>simp[hm3]};{dsimp only;omega};dsimp only;omega
def yR:Tryz.prog.underlying 345=V (.map 3 346):=Zc
def Ss(w:XZ):(Wv 346).run Zj w=.ok .nilFunc w:=Zc
abbrev fv(i:I):G:=.func (.func i) ⟨[]⟩ ⟨[]⟩
def Nu{n:I}{m:MS}{c:I}{K:gU->X3->H->ad}(h:Hp E w F)(hn:1<=n)(L:n<=65536)(Y:ij n m)(N:c<256)(p:∀A w',aQ n m c=.more A->Hp E w' F->K (msT A) U 0 w')(R:∀M P u w',aQ n m c=.fin (.aH M P u)->Hp E w' F->K (4,0,0,(M:H),(P:H),(u:H),4,()) J 0 w')(r:∀u w',aQ n m c=.fin (.tail u)->Hp E w' F->K (6,0,0,0,0,(u:H),4,()) J 0 w')(S:∀e o w',aQ n m c=.bad e->Hp E w' F->K o U (e:H) w'):ah [.st aS,kB,kI] 172 [ni (n:H),.agg ⟨[ni (m.at_:H),ni (m.v:H),ni (vm m.v:H),ni (m.M:H),ni (m.P:H),.int .u32 (m.sum:H),ni (m.many:H)]⟩,ao (c:H)] w K:=by have d:∀(q:I)(i:I),findAt (m.at_:H) [((0:H),fv 241),(1,fv 242),(2,fv 243),(3,fv 244),(5,fv 244)] 0=V (q,fv i)->oK Zj i=J->(∀(s:Q HP)(w:XZ)(K':gU->X3->ad),Hp E w s->N2 n m c E s K'->ah [.st aS,kB] i [ni (n:H),.agg ⟨[ni (m.at_:H),ni (m.v:H),ni (vm m.v:H),ni (m.M:H),ni (m.P:H),.int .u32 (m.sum:H),ni (m.many:H)]⟩,ao (c:H)] w K')->ah [.st aS,kB,kI] 172 [ni (n:H),.agg ⟨[ni (m.at_:H),ni (m.v:H),ni (vm m.v:H),ni (m.M:H),ni (m.P:H),.int .u32 (m.sum:H),ni (m.many:H)]⟩,ao (c:H)] w K:=by{intro q i hq T y;refine C1.ok _ (msT m) _ _ _ ?_;(try simp only[aj,Zq]);refine Nw.mk h λW w h=>Nw.mk h λb7 w h=>run_makeMap (ke:=λn:H=>Yx .i64 n) (ve:=λv:G=>v) h λmp w h=>cH (ke:=λn:H=>Yx .i64 n) (ve:=λv:G=>v) (l:=_) qi yR (a:=0) (b:=fv 241) h λw h=>cH (ke:=λn:H=>Yx .i64 n) (ve:=λv:G=>v) (l:=_) qi yR (a:=1) (b:=fv 242) h λw h=>cH (ke:=λn:H=>Yx .i64 n) (ve:=λv:G=>v) (l:=_) qi yR (a:=2) (b:=fv 243) h λw h=>cH (ke:=λn:H=>Yx .i64 n) (ve:=λv:G=>v) (l:=_) qi yR (a:=3) (b:=fv 244) h λw h=>cH (ke:=λn:H=>Yx .i64 n) (ve:=λv:G=>v) (l:=_) qi yR (a:=5) (b:=fv 244) h λw h=>?_;rw[show fp (5:H) (fv 244) (fp 3 (fv 244) (fp 2 (fv 243) (fp 1 (fv 242) (fp 0 (fv 241) []))))=[((0:H),fv 241),(1,fv 242),(2,fv 243),(3,fv 244),(5,fv 244)]from rfl]at h;(with_reducible refine Ld.xb h rfl ?_);refine aG.found (ke:=λn:H=>Yx .i64 n) (ve:=λv:G=>v) qi yR (a:=(m.at_:H)) (x:=fv i) Ss h hq rfl (ou.fn ?_);have h:=h.drop;(with_reducible repeat first|refine Ld.xt h rfl ?_|refine aa.no ?_);refine Uo h hn L Y λw h=>?_;(with_reducible repeat first|refine Ld.xt h rfl ?_|refine aa.no ?_);refine dS.mk T (y _ _ _ h ⟨λA w f g B h=>?_,λM P u w f h=>?_,λu w f h=>?_,λe o w f g h=>?_⟩);{(with_reducible repeat first|refine ax.xw h rfl rfl λw h=>?_|refine aa.no ?_);have h:=h.drew (n:=w.drawn+1);refine⟨cf W _ _ _,h.hb,?_⟩;(with_reducible repeat first|refine aM.xb (λ_ h=>h) rfl ?_|refine aM.xt (λ_ h=>h) rfl ?_);refine aa.ef (show¬(A.at_:H)=4 by omega) ?_;(with_reducible repeat first|refine Ld.xt h rfl ?_|refine aM.xb (λ_ h=>h) rfl ?_|refine⟨h.hb,?_⟩|refine ax.xw h rfl rfl λw h=>?_);have e6:((A.at_:H)==6)=U:=beq_eq_false_iff_ne.2 Za;have j:=p A _ f h.tl;rw[<-e6]at j;exact j};{(with_reducible repeat first|refine ax.xw h rfl rfl λw h=>?_|refine aa.no ?_);have h:=h.drew (n:=w.drawn+1);refine⟨cf W _ _ _,h.hb,?_⟩;(with_reducible repeat first|refine Ld.xt h rfl ?_|refine aM.xb (λ_ h=>h) rfl ?_|refine aM.xt (λ_ h=>h) rfl ?_|refine⟨h.hb,?_⟩|refine ax.xw h rfl rfl λw h=>?_|refine aa.yes ?_);exact R M P u _ f h.tl};{(with_reducible repeat first|refine ax.xw h rfl rfl λw h=>?_|refine aa.no ?_);have h:=h.drew (n:=w.drawn+1);refine⟨cf W _ _ _,h.hb,?_⟩;(with_reducible repeat first|refine Ld.xt h rfl ?_|refine aM.xb (λ_ h=>h) rfl ?_|refine aM.xt (λ_ h=>h) rfl ?_|refine⟨h.hb,?_⟩|refine ax.xw h rfl rfl λw h=>?_|refine aa.no ?_);exact r u _ f h.tl};(with_reducible repeat first|refine Ld.xt h rfl ?_|refine ax.xw h rfl rfl λw h=>?_|refine aa.yes ?_);subst g;exact S 242 _ _ f h.tl};obtain⟨at_,v,M,P,sum,many⟩:=m;have z:=Y;unfold ij at z;dsimp only at z;(rcases z with⟨f,g⟩|⟨f,g,B,C,D,j⟩|⟨f,g,B,C,D,j,X⟩|⟨f,g,B,C,D,j,X,h8⟩|⟨f,g,B,C,D,j⟩);{cases g;exact d 0 241 rfl Zc λs w K' h k=>adM h N k};{subst f B C D j;exact d 1 242 rfl Zc λs w K' h k=>aen h L g N k};{subst f D j X;exact d 2 243 rfl Zc λs w K' h k=>acy (M:=M) h Za C N k};{subst f j;exact d 3 244 rfl Zc λs w K' h k=>aba h (.inl rfl) X h8 N k};subst f g B C;exact d 4 244 rfl Zc λs w K' h k=>aba h (.inr ⟨rfl,rfl,rfl⟩) D j N k
end
end
end Go.Proofs.Q9
namespace Go.Pol
section
def layout(n side mode:I):Q I:=if side=1 then(if mode=3 then[n,n,4*WD (n+1) 1024]else[n])else if mode=3 then[n,4*(n+1)]else if mode=2 then[n,1024*(n/1024)]else[n,1024*(n/8192)]
def oT(n side mode:I):Prop:=(side=1\/side=2)/\1<=mode/\mode<=3/\1<=n/\n<=65536
instance(n side mode:I):Wz (oT n side mode):=by unfold oT;infer_instance
def bA(n side mode:I):I:=(layout n side mode).sum
def aL(a n side:I):I:=if bA n side 3<=a then 3 else if bA n side 2<=a then 2 else if bA n side 1<=a then 1 else 0
def oM{budget n side:I}(h:aL budget n side≠0):bA n side (aL budget n side)<=budget/\1<=aL budget n side/\aL budget n side<=3:=by unfold aL at h⊢;by_cases h3:bA n side 3<=budget;{grind};grind
def Pp(n side:I)(a:side=1\/side=2):bA n side 1<=bA n side 2/\bA n side 2<=bA n side 3:=by(rcases a with rfl|rfl);{simp[bA,layout]};simp[bA,layout];omega
def QI{budget n side:I}(a:side=1\/side=2):aL budget n side=0↔budget<bA n side 1:=by have:=Pp n side a;unfold aL;constructor;{grind};grind
def places:I->Q I->Q (I×I)|_,[]=>[]|a,k::l=>(a,k)::places (a+k) l
end
end Go.Pol
namespace Go.Vc
section
open Go
def pL{α β:Type}[WE α]{a k:α}{b:β}:∀(l:Q (α×β))(i:I),(findAt k (fp a b l) i).map (·.2)=if k=a then V b else(findAt k l i).map (·.2)|[],i=>by unfold fp findAt;by_cases h:k=a;{rw[X0 h,X0 h];rfl};rw[K h,K h];rfl|p::l,i=>by unfold fp;by_cases h:a=p.1;{rw[X0 h];unfold findAt;by_cases hk:k=a;{rw[X0 hk,X0 (by rw[hk])];rfl};rw[K hk,K (by first|exact hk|(rw[<-h];exact hk)),K (by rw[<-h];exact hk)]};rw[K h];unfold findAt;by_cases hk:k=p.1;{rw[X0 hk,X0 hk];by_cases hka:k=a;{exact Wh (hka.symm.trans hk) h};rw[K hka]};rw[K hk,K hk];exact pL l (i+1)
end
end Go.Vc
namespace Go.Proofs.Q9
section
open Go Go.Vc Go.Pol
set_option maxRecDepth 100000
abbrev P5:Wa:=219
def sD:X4 Wo:=R6 (xh (Tryz.f127.body.getD .skip) [J,J,U])
def M8(j:I):I:=[3,6,8,10,12,14].getD j 0
def Au(j:I):H×H:=[((1:H),(1:H)),(1,2),(1,3),(2,1),(2,2),(2,3)].getD j (0,0)
def fnP(j:I):I:=[187,187,188,189,190,191].getD j 0
def vP(j:I):G:=.func (.func (fnP j)) ⟨[]⟩ ⟨[]⟩
def qC(a:H×H):G:=.agg ⟨[ao a.1,ao a.2]⟩
def gP(T r:I):X3:=I.blt r 15&&(match[3,6,8,10,12,14].findIdx? (Y6 r)with|some j=>Y6 (T/2^j%2) 1|none=>J)
def LP(T:I):X4 X3:=⟨(Zr 17).map (gP T)⟩
def Nk(T:I):Q I:=((Zr 6).filter λj=>Y6 (T/2^j%2) 0).map M8
def I6(T:I):I:=((Zr 6).filter λj=>Y6 (T/2^j%2) 0).length
def afq(T:I):X3:=(Z0 .any sD (LP T)==Nk T)&&((Nk T).find? (jC Pg sD (LP T))).isNone&&((Zr 6).all λj=>Y6 (T/2^j%2) 1||(((LP T).setIfInBounds (M8 j) J).toList==(LP (T+2^j)).toList&&Y6 (I6 (T+2^j)+1) (I6 T)&&I.blt (T+2^j) 64&&(Zr 6).all λi=>Y6 i j||(Y6 ((T+2^j)/2^i%2) 1==Y6 (T/2^i%2) 1)))
def adv:((Zr 63).all afq)=J:=Zc
def f0P:AF:=bW (bW (lT [] 12) 0 (V (.map Z))) 1 (V (.func (.func 187) ⟨[]⟩ ⟨[]⟩))
def Gf(m:X7 I):AF:=bW (bW (bW (bW (bW (bW (bW (bW (bW f0P 3 (V (qC (1,1)))) 4 (V (vP 0))) 5 (V (qC (1,2)))) 6 (V (vP 0))) 7 (V (qC (1,3)))) 8 (V (qC (2,1)))) 9 (V (qC (2,2)))) 10 (V (qC (2,3)))) 2 (V (.map m))
structure NZ (T:I) (l:Q ((H×H)×G)):Prop where
 has:∀i,i<6->(findAt (Au i) l 0).map (·.2)=if T/2^i%2=1 then V (vP i)else Z
 no:∀k,(∀i,i<6->k≠Au i)->(findAt k l 0).map (·.2)=Z
def aeg:∀i,i<6->∀j,j<6->Au i=Au j->i=j:=Zb
structure StP (T j:I):Prop where
 set:(LP T).setIfInBounds (M8 j) J=LP (T+2^j)
 cz:I6 (T+2^j)+1=I6 T
 lt:T+2^j<64
 bit:∀i,i<6->i≠j->((T+2^j)/2^i%2=1↔T/2^i%2=1)
 one:(T+2^j)/2^j%2=1
def adk{T:I}(r:T<63):Z0 .any sD (LP T)=Nk T/\(Nk T).find? (jC Pg sD (LP T))=Z/\∀j,j<6->T/2^j%2=0->StP T j:=by have c:=List.all_eq_true.1 adv T Ze;unfold afq at c;simp only[ZH]at c;obtain⟨⟨f,g⟩,k⟩:=c;refine⟨eq_of_beq f,Option.isNone_iff_eq_none.1 g,λj s l=>?_⟩;have h:=List.all_eq_true.1 k j Ze;rw[l]at h;simp only[YH,ZH]at h;obtain⟨⟨⟨m,n⟩,o⟩,p⟩:=h.resolve_left Zb;refine⟨Xw (eq_of_beq m),Yp n,Y9 o,λi t d=>?_,?_⟩;{have:=List.all_eq_true.1 p i Ze;simp only[YH]at this;have:=eq_of_beq (this.resolve_left λq=>d (Yp q));have e:∀a b:I,Y6 a b=J↔a=b:=λa b=>⟨Yp,λh=>by rw[h];exact I.beq_refl b⟩;have:=Wn (·=J) this;simp only[eq_iff_iff,e]at this;exact this};rw[I.add_div_right _ (Yd j)];omega
def NZ.bW{T j:I}{l:Q ((H×H)×G)}(h:NZ T l)(d:j<6)(f:StP T j):NZ (T+2^j) (fp (Au j) (vP j) l):=by refine⟨λi c=>?_,λk a=>?_⟩;{rw[pL];by_cases e:i=j;{subst e;rw[X0 O,X0 f.one]};rw[K λa=>e (aeg i c j d a),h.has i c];have:=f.bit i c e;by_cases b:T/2^i%2=1;{grind};grind};rw[pL,K (a j d)];exact h.no k a
def adD{T r:I}(h:r∈Nk T):∃j,j<6/\T/2^j%2=0/\r=M8 j:=by obtain⟨j,a,rfl⟩:=List.mem_map.1 h;obtain⟨b,c⟩:=List.mem_filter.1 a;exact⟨j,by simpa using b,Yp c,rfl⟩
def aey:((Zr 63).all λT=>!(Nk T).isEmpty)=J:=Zc
def adi:((Zr 64).all λT=>Y6 T 63||WA.blt 0 (I6 T))=J:=Zc
section
variable{E w:XZ}{F:Q HP}
def aeh:Tryz.prog.underlying P5=V (.map 222 217):=Zc
def IY:nK Zj (α:=H×H) 222 qC where und:=⟨_,O,λa b=>.inl O⟩;check:=λe a w=>by{have:∀(e:X3)(c d:H)(w:XZ),(Instr.checkKey e 10000 222 (.agg ⟨[ao c,ao d]⟩)).run Zj w=.ok () w:=λe c d w=>Zc;exact this e a.1 a.2 w};eq:=λa b w=>by{have f:∀c n d m:H,rW Zj 8 222 (.agg ⟨[ao c,ao n]⟩) (.agg ⟨[ao d,ao m]⟩) (λr=>r=((c==d)&&(n==m))):=λc n d m=>by{have e:rW Zj 8 222 (.agg ⟨[ao c,ao n]⟩) (.agg ⟨[ao d,ao m]⟩) (λr=>r=((c==d)&&(n==m)))=(((c==d)&&(n==m))=((c==d)&&(n==m))):=by{kernel_rfl};rw[e]};obtain⟨r,g,h⟩:=mJ 8 _ _ _ _ (f a.1 a.2 b.1 b.2);have:=g 10000 Zb w;have e:Wb (a=b)=((a.1==b.1)&&(a.2==b.2)):=by{rw[Ye];simp[Prod.ext_iff]};rw[e,<-h];exact this};same:=λa=>by unfold qC Instr.sameBits;simp[Instr.sameBits]
theorem ahS{S:ad}{J:X4 X3->AF->ad}{L:X4 X3}{m:X7 I}:∀j,j<6->Ec Pg sD S J L (Gf m) w (M8 j)=aG Pg (do Zo P5 (.map m) (qC (Au j)) (vP j);Ws Wj) kV w λ_ w'=>S w'/\J (L.setIfInBounds (M8 j) true) (Gf m) w'|0,_=>Zc|1,_=>Zc|2,_=>Zc|3,_=>Zc|4,_=>Zc|5,_=>Zc|j+6,h=>Za
def ahF{S:ad}{K:AF->ad}{m:X7 I}:bS Pg sD S K 2 (LP 63) (Gf m) w=K (bW (bW (Gf m) 11 (V (.map m))) 0 (V (.map m))) w:=Zc
theorem ahv{K:AF->ad}{m:X7 I}:∀(n T:I)(l:Q ((H×H)×G))(w:XZ),I6 T=n->T<64->NZ T l->Hp E w (jK qC (λv:G=>v) m l::F)->(∀k w',NZ 63 k->Hp E w' (jK qC (λv:G=>v) m k::F)->K (bW (bW (Gf m) 11 (V (.map m))) 0 (V (.map m))) w')->bS Pg sD (λ_=>True) K (n+2) (LP T) (Gf m) w:=by intro n;induction n with|zero=>intro T l w b o c h d;have f:T=63:=by{have:=List.all_eq_true.1 adi T Ze;rw[b]at this;simp only[YH]at this;exact Yp (this.resolve_right Zb)};subst f;rw[ahF];exact d l w c h|succ n p=>intro T l w b o c h d;have g:T<63:=by{(rcases Yk T 63 with q|q);{exact q};have:T=63:=by{omega};subst this;exact Wh b (by rw[show I6 63=0 from Zb];omega)};obtain⟨s,t,u⟩:=adk g;refine iM (AH s (λe=>?_) t λr x=>?_);{have:=List.all_eq_true.1 aey T Ze;rw[e]at this;exact Wh this Zb};obtain⟨j,i,y,rfl⟩:=adD x;have a:=u j i y;rw[ahS j i,a.set];refine cH (ke:=qC) (ve:=λv:G=>v) IY aeh h λw h=>⟨trivial,p _ _ _ (by have:=a.cz;omega) a.lt (c.bW i a) h d⟩
def aem{S:ad}{K:AF->ad}:bS Pg sD S K 17 (YY 17 U) f0P w=aG Pg (YX P5 Z) kM w λm w'=>S w'/\bS Pg sD S K 8 (LP 0) (Gf m) w':=Zc
def QD{K:X7 I->ad}(h:Hp E w F)(a:∀m l w',NZ 63 l->Hp E w' (jK qC (λv:G=>v) m l::F)->K m w'):ah [kM] 127 [] w K:=by refine sB Tryz.mix (F:=di w λS w'=>bS Pg sD S (λf w=>AA Pg [.tmp 0] [kM] K .ret f w) 17 (YY 17 U) f0P w') Tryz.f127 [] [kM] K 12 [.tmp 0] Zc Zc Zc Zc Zc (.s .o (.s .o (.s .o .o))) Zc ?_;have h:=h.drew (n:=w.drawn+1);refine⟨λ_=>True,trivial,?_⟩;dsimp only;rw[aem];refine run_makeMap (ke:=qC) (ve:=λv:G=>v) h λm w h=>⟨trivial,?_⟩;refine ahv 6 0 [] w O Zb ⟨λi c=>?_,λk d=>rfl⟩ h λl w b h=>?_;{rw[I.zero_div,X8 Zb];rfl};have e:AA Pg [.tmp 0] [kM] K .ret (bW (bW (Gf m) 11 (V (.map m))) 0 (V (.map m))) w=K m w:=Zc;rw[e];exact a m l w b h
end
end
section
open Go Go.Vc
set_option maxRecDepth 100000
def LQ.ok(a:H)(b:H)(R:H->H->ad) w(h:ah [kI,kI] 29 [(ni a),(ao b),(ao 1)] w λ(d:H)(e:H) c=>R d e c):ah [kI,kI] 10 [(ni a),(ao b)] w R:=co Tryz.f10 [] h
def Ps.ok(a:H)(b:H)(c:H)(R:H->H->ad) w(h:ah [kI,kI] 10 [(ni b),(ao c)] w λ(e:H)(f:H) d=>aZ (λ(h:XZ)=>aw (a<e) (R 0 230 h) (cY 1 1 h λi j(k:H)(l:H) m=>aw (l<=3) (ah [kI,kI] 29 [(ni b),(ao c),(ao l)] m λ(o:H)(p:H) n=>aw (o<=a) (i l (u8 (l+1)) n/\j l (u8 (l+1)) n<j k l m) (i k (u8 (l+1)) n/\j k (u8 (l+1)) n<j k l m)) (R k 0 m))) λg=>aa (f !=0) (R 0 2 d) (aw (a<1) (R 0 2 d) (aw (a>1048576) (R 0 2 d) (g d)))):ah [(aC .u8),kI] 17 [(ni a),(ni b),(ao c)] w R:=co Tryz.f17 [(4,[]),(19,[(10,(aC .u8)),(11,(aC .u8))])] h
def Pe.ok(a:H)(b:H)(c:H)(R:H->H->ad) w(h:ah [kS,kI] 61 [(ni a),(ao b),(ao c)] w λ(e:Sl)(f:H) d=>cY 0 0 d λg h(i:H)(j:H) k=>aw (j<(e.len:H)) (aB e j 1 λl=>bj l k λm=>g (i64 (i+m)) (i64 (j+1)) k/\h (i64 (i+m)) (i64 (j+1)) k<h i j k) (R i f k)):ah [kI,kI] 29 [(ni a),(ao b),(ao c)] w R:=co Tryz.f29 [(9,[(10,kI),(11,kI)])] h
def Iy.ok(a:H)(b:H)(c:H)(R:Sl->H->ad) w(h:aZ (λ(e:XZ)=>aa (b==1) (aa (c==3) (aJ 3 [(ni a),(ni a),(ni (i64 ((4:H)*(if(1024:H)<(i64 (a+1))then(1024:H)else(i64 (a+1))))))] e λg f=>R (⟨V ⟨g,0,Z⟩,3,3⟩:Sl) 0 f) (aJ 3 [(ni a)] e λi h=>R (⟨V ⟨i,0,Z⟩,1,1⟩:Sl) 0 h)) (aa (c==1) ((8192:H)≠0/\aJ 3 [(ni a),(ni (i64 ((1024:H)*(i64 (Yh a (8192:H))))))] e λk j=>R (⟨V ⟨k,0,Z⟩,2,2⟩:Sl) 0 j) (aa (c==2) ((1024:H)≠0/\aJ 3 [(ni a),(ni (i64 ((1024:H)*(i64 (Yh a (1024:H))))))] e λm l=>R (⟨V ⟨m,0,Z⟩,2,2⟩:Sl) 0 l) (aJ 3 [(ni a),(ni (i64 ((4:H)*(i64 (a+1)))))] e λo n=>R (⟨V ⟨o,0,Z⟩,2,2⟩:Sl) 0 n)))) λd=>aw (a<1) (R (⟨Z,0,0⟩:Sl) 2 w) (aw (a>65536) (R (⟨Z,0,0⟩:Sl) 2 w) (aa (b !=1) (aa (b !=2) (R (⟨Z,0,0⟩:Sl) 2 w) (aw (c<1) (R (⟨Z,0,0⟩:Sl) 2 w) (aw (c>3) (R (⟨Z,0,0⟩:Sl) 2 w) (d w)))) (aw (c<1) (R (⟨Z,0,0⟩:Sl) 2 w) (aw (c>3) (R (⟨Z,0,0⟩:Sl) 2 w) (d w)))))):ah [kS,kI] 61 [(ni a),(ao b),(ao c)] w R:=co Tryz.f61 [(2,[])] h
def Dq.ok(a:(X4 G))(R:(X4 G)->H->ad) w(h:Nw 166 a w λc b=>Nw 256 ⟨Zh 258 (.int .u32 0)⟩ b λe d=>aI 258 c 0 d λf=>aE 287 [(.agg f)] d λh g=>aa (! h) (aI 258 e 0 g λi=>az 258 (ar e 0) i g λj=>aI 258 e 0 j λk=>R k 2 j) (aI 258 c 0 g λl=>cm 288 [(.agg l)] g λn m=>Da 0 0 0 m λo p(q:H)(r:H)(s:H) t=>aw (s<(n.len:H)) (aB n s 1 λu=>bj u t λv=>aK (ar c 0) 258 v 1 λx=>dD x t λy=>0<=(u8 (y-r))/\di t λz D=>aK (ar c 0) 258 v 1 λE=>aM (aC .u8) E z λ(B:H)=>aK (ar e 0) 258 v 1 λF=>St F (.int .u32 (bT .u32 q (u8 (y-r)))) D λA=>z A/\o (u32 ((bT .u32 q (u8 (y-r)))+1)) B (i64 (s+1)) A/\p (u32 ((bT .u32 q (u8 (y-r)))+1)) B (i64 (s+1)) A<p q r s t) (aI 258 e 0 t λI=>az 258 (ar e 0) I t λC=>aI 258 e 0 C λK=>R K 0 C))):ah [(.arr 258),kI] 210 [(.agg a)] w R:=co Tryz.f210 [(12,[(4,(aC .u32)),(5,(aC .u8)),(15,kI)])] h
def CA.ok(a:(X4 G))(R:X3->ad) w(h:Nw 166 a w λc b=>aI 258 c 0 b λd=>aE 340 [(.agg d)] b λf e=>R f e):aE 287 [(.agg a)] w R:=co Tryz.f287 [] h
def De.ok(a:(X4 G))(R:Sl->ad) w(h:Nw 166 a w λc b=>aI 258 c 0 b λd=>aE 287 [(.agg d)] b λf e=>aa (! f) (R (⟨Z,0,0⟩:Sl) e) (aI 258 c 0 e λg=>cY (⟨Z,0,0⟩:Sl) 0 e λh i(j:Sl)(k:H) l=>aw (k<258) (fZ (.int .u8) g 258 k λ(m:H)=>aw (m>0) (aJ 3 [(ni k)] l λo n=>aG Pg (ZD #[25,25] 25 ⟨[(ak j),(cE o 1)]⟩) kS n λ(q:Sl) p=>h q (i64 (k+1)) p/\i q (i64 (k+1)) p<i j k l) (h j (i64 (k+1)) l/\i j (i64 (k+1)) l<i j k l)) (cP 279 [(ak j),(.func (.func 341) ⟨[]⟩ ⟨[(bX c)]⟩)] l λr=>R j r))):cm 288 [(.agg a)] w R:=co Tryz.f288 [(10,[(2,kS),(9,kI)])] h
def zE.ok(a:H)(b:H)(c:Wg)(R:H->ad) w(h:aP w λd=>aK c 258 a 1 λe=>dD e d λf=>aK c 258 b 1 λg=>dD g d λh=>bP 342 [(ao f),(ao h)] d λj i=>R j i):bP 341 [(ni a),(ni b),(au (V c))] w R:=co Tryz.f341 [] h
def CX.ok(a:H)(b:H)(R:H->ad) w(h:aE 308 [(ni a)] w λd c=>aE 308 [(ni b)] c λf e=>aa d (aa f (R 0 e) (R (-1) e)) (aa f (R 1 e) (aw (a<b) (R (-1) e) (aw (a>b) (R 1 e) (R 0 e))))):bP 238 [(ni a),(ni b)] w R:=co Tryz.f238 [] h
def cmp_isNaN_int.ok(a:H)(R:X3->ad) w(h:R (a !=a) w):aE 308 [(ni a)] w R:=co Tryz.f308 [] h
def zK.ok(a:H)(b:H)(R:H->ad) w(h:aE 377 [(ao a)] w λd c=>aE 377 [(ao b)] c λf e=>aa d (aa f (R 0 e) (R (-1) e)) (aa f (R 1 e) (aw (a<b) (R (-1) e) (aw (a>b) (R 1 e) (R 0 e))))):bP 342 [(ao a),(ao b)] w R:=co Tryz.f342 [] h
def ry.ok(a:H)(R:X3->ad) w(h:R (a !=a) w):aE 377 [(ao a)] w R:=co Tryz.f377 [] h
def Lu.ok(a:(X4 G))(R:X3->ad) w(h:Nw 166 a w λc b=>aI 258 c 0 b λd=>aE 337 [(.agg d)] b λf e=>aa f (aK (ar c 0) 258 257 1 λg=>dD g e λh=>R (Wb (h>0)) e) (R U e)):aE 282 [(.agg a)] w R:=co Tryz.f282 [] h
def Dz.ok(a:(X4 G))(R:X3->ad) w(h:Nw 166 a w λc b=>aI 258 c 0 b λd=>bP 376 [(.agg d)] b λf e=>R (f==32768) e):aE 337 [(.agg a)] w R:=co Tryz.f337 [] h
def PO.ok(a:(X4 G))(R:X3->ad) w(h:Nw 166 a w λc b=>aI 258 c 0 b λd=>bP 376 [(.agg d)] b λf e=>R (Wb (f<=32768)) e):aE 340 [(.agg a)] w R:=co Tryz.f340 [] h
def Iz.ok(a:(X4 G))(R:(TT F9)->ad) w(h:Nw 166 a w λc b=>Nw 436 ⟨Zh 16 (ni 0)⟩ b λe d=>aI 258 c 0 d λf=>dX 0 d λg h(i:H) j=>aw (i<258) (fZ (.int .u8) f 258 i λ(k:H)=>aw ((i64 k)<16) (aK (ar e 0) 16 k 1 λl=>bj l j λm=>aK (ar e 0) 16 k 1 λn=>St n (ni (i64 (m+1))) j λo=>g (i64 (i+1)) o/\h (i64 (i+1)) o<h i j) (g (i64 (i+1)) j/\h (i64 (i+1)) j<h i j)) (bg F9 e 0 j λp=>aR e 0 (aF F9 p) j λq=>bg F9 e 0 q λr=>R r q)):ah [(.st F9)] 351 [(.agg a)] w R:=co Tryz.f351 [(5,[(6,kI)])] h
def Sw.ok(a:(X4 G))(R:H->ad) w(h:Nw 166 a w λc b=>aI 258 c 0 b λd=>cY 0 0 b λe f(g:H)(h:H) i=>aw (h<258) (fZ (.int .u8) d 258 h λ(j:H)=>bP 389 [(ao j)] i λl k=>e (i64 (g+l)) (i64 (h+1)) k/\f (i64 (g+l)) (i64 (h+1)) k<f g h i) (R g i)):bP 376 [(.agg a)] w R:=co Tryz.f376 [(5,[(2,kI),(6,kI)])] h
def Lh.ok(a:H)(R:H->ad) w(h:aa (a==0) (R 0 w) (aw (a>15) (R 32769 w) (0<=a/\R (ba .i64 (32768:H) a) w))):bP 389 [(ao a)] w R:=co Tryz.f389 [] h
end
end Go.Proofs.Q9
namespace Go.Srt
section
inductive Ck (key:H->H) (sz:I):Q H->Q H->Prop where|nil:Ck key sz [] []|last (A B:Q H) (h1:A.length<sz) (h2:B.Perm A) (h3:Sd key B):Ck key sz A B|cons (A B X Y:Q H) (h1:A.length=sz) (h2:B.Perm A) (h3:Sd key B) (h4:Ck key sz X Y):Ck key sz (A++X) (B++Y)
def Ck.len{a:H->H}{c:I}{X Y:Q H}(h:Ck a c X Y):Y.length=X.length:=by induction h with|nil=>rfl|last A B d b e=>exact b.length_eq|cons A B X Y d b e g f=>simp[b.length_eq,f]
def Ck.one{a:H->H}{d:I}{X Y:Q H}(h:Ck a d X Y)(f:X.length<=d):Y.Perm X/\Sd a Y:=by cases h with|nil=>exact⟨Q.Perm.refl _,Q.Pairwise.nil⟩|last _ _ g b c=>exact⟨b,c⟩|cons A B X Y g b c i=>rw[Zf]at f;have e:X=[]:=List.length_eq_zero_iff.1 Za;have j:Y=[]:=List.length_eq_zero_iff.1 (by rw[i.len,e];rfl);subst e;subst j;simpa using⟨b,c⟩
def Ck.first{a:H->H}{b:I}{X Y:Q H}(h:Ck a b X Y)(i:b<=X.length)(k:0<b):∃A B c d,X=A++c/\Y=B++d/\A.length=b/\B.Perm A/\Sd a B/\Ck a b c d:=by cases h with|nil=>simp at i;omega|last _ _ e f g=>omega|cons A B X Y e f g j=>exact⟨A,B,X,Y,O,O,e,f,g,j⟩
end
end Go.Srt
namespace Go.Proofs.Q9
section
open Go Go.Vc Go.Srt
section
variable{E w:XZ}{F:Q HP}
def SP{a b c d:Q H}(h:(a++b).Pairwise (·<·))(e:c.Perm a)(f:d.Perm b):∀x∈c,∀y∈d,x<y:=λx g y i=>(List.pairwise_append.1 h).2.2 x (e.mem_iff.1 g) y (f.mem_iff.1 i)
theorem T0{s:Sl}{xs:Wu H}{fv:G}{key:H->H}{D:H->Prop}{n:H}{K:ad}(h:Hp E w (av 1 s (xs.map vI)::F))(N:xs.length<=c8)(hc:zp E F fv key D)(hD:∀x∈xs,D x)(hL:xs.Pairwise (·<·))(hn:n=(xs.length:H))(hK:∀i w',i.Perm xs->Sd key i->Hp E w' (av 1 s (i.map vI)::F)->K w'):cP 336 [ak s,ni n,fv] w K:=by subst hn;refine qP.ok _ _ _ _ _ ?_;have hbg:=N;rw[aU]at N;refine⟨λa b w'=>∃f Z X:Wu H,a=(f.length:H)/\b=((f.length+20:I):H)/\xs=f++X/\Z.length=f.length/\(∀o p,Ck key 20 o p->Ck key 20 (f++o) (Z++p))/\Hp E w' (av 1 s ((Z++X).map vI)::F),λa _ _=>xs.length-a.toNat,⟨[],[],xs,rfl,rfl,rfl,rfl,λo p h=>h,h⟩,?_⟩;rintro a b w' ⟨f,Z,X,rfl,rfl,hxs,hZ,c,hh⟩;have j:xs.length=f.length+X.length:=by{rw[hxs,Zf]};have hX:∀x∈X,x∈xs:=λx k=>by{rw[hxs];exact Wu.mem_append_right _ k};have d:X.Pairwise (·<·):=by{rw[hxs]at hL;exact(List.pairwise_append.1 hL).2.1};refine aa.mk (λq=>?_) λr=>?_;{have q:=X9 q;have e:X.take 20++X.drop 20=X:=Zv _ _;have l1:(X.take 20).length=20:=by{simp;omega};generalize X.take 20=A at e l1;generalize X.drop 20=X2 at e;subst e;rw[Zf]at j;refine zS (P:=Z) (L:=A) (Q:=X2) (key:=key) (D:=D) (by simpa only[Zm]using hh) (by rw[aU];simp only[Zf];omega) hc (λx k=>hD x (hX x (XF _ k))) (List.pairwise_append.1 d).1 Za (by simp only[Zf];omega) λM S m t T=>?_;rw[af Za];refine⟨⟨f++A,Z++M,X2,by simp only[Zf];omega,by simp only[Zf];omega,by rw[hxs,Zm],by simp only[Zf];rw[m.length_eq];omega,λo p hk=>?_,T⟩,by dsimp only;omega⟩;rw[Zm,Zm];exact c _ _ (.cons A M o p l1 m t hk)};have r:=X5 r;refine zS (P:=Z) (L:=X) (Q:=[]) (key:=key) (D:=D) (by simpa using hh) (by rw[aU];simp only[Zf,ZP];omega) hc (λx k=>hD x (hX x k)) d Za (by simp only[Zf];omega) λM S m t T=>?_;have c:=c _ _ (.last X M Za m t);rw[<-hxs]at c;refine⟨λbs w'=>∃(g:I)(i:Wu H),bs=(g:H)/\20<=g/\g<=2*c8/\Ck key g xs i/\Hp E w' (av 1 s (i.map vI)::F),λbs _=>xs.length-bs.toNat,⟨20,Z++M,rfl,Za,by rw[aU];omega,c,by simpa using T⟩,?_⟩;rintro bs w' ⟨g,i,rfl,hsz,hszb,c,hh⟩;rw[aU]at hszb;refine aa.mk (λhlt=>?_) λhge=>?_;{have hlt:=X9 hlt;have hlt:g<xs.length:=by{omega};refine⟨λa b w'=>∃f Z X Y:Wu H,a=(f.length:H)/\b=((f.length+2*g:I):H)/\xs=f++X/\Z.length=f.length/\Ck key g X Y/\(∀o p,Ck key (2*g) o p->Ck key (2*g) (f++o) (Z++p))/\Hp E w' (av 1 s ((Z++Y).map vI)::F),λa _ _=>xs.length-a.toNat,⟨[],[],xs,i,rfl,?_,rfl,rfl,c,λo p h=>h,hh⟩,?_⟩;{rw[af Za];simp};rintro a b w' ⟨f,Z,X,Y,rfl,rfl,hxs,hZ,c,hco,hh⟩;have j:xs.length=f.length+X.length:=by{rw[hxs,Zf]};have hX:∀x∈X,x∈xs:=λx k=>by{rw[hxs];exact Wu.mem_append_right _ k};have d:X.Pairwise (·<·):=by{rw[hxs]at hL;exact(List.pairwise_append.1 hL).2.1};rw[af (x:=(f.length:H)+(g:H)) Za,af (x:=(g:H)*2) Za];(have next:∀(S:XZ)(i:Wu H),Ck key (2*g) xs i->Hp E S (av 1 s (i.map vI)::F)->(∃(l:I)(i:Wu H),(g:H)*2=(l:H)/\20<=l/\l<=2*c8/\Ck key l xs i/\Hp E S (av 1 s (i.map vI)::F))/\xs.length-((g:H)*2).toNat<xs.length-((g:H)).toNat:=λS i h1 T=>⟨⟨2*g,i,Za,Za,by rw[aU];omega,h1,T⟩,Za⟩);refine aa.mk (λq=>?_) λr=>?_;{have q:=X9 q;obtain⟨A1,B1,X1,Y1,rfl,rfl,a1,z,c1,u⟩:=c.first Za Za;rw[Zf]at j;obtain⟨A2,B2,X2,Y2,rfl,rfl,a2,B,c2,W⟩:=u.first Za Za;rw[Zf]at j;have C:(A1++A2).Pairwise (·<·):=by{rw[<-Zm]at d;exact(List.pairwise_append.1 d).1};have v:=z.length_eq;have y:=B.length_eq;have lY2:=W.len;rw[af (x:=2*(g:H)) Za,af Za];refine pP hc (B1.length+B2.length) (P:=Z) (L:=B1) (R:=B2) (Q:=Y2) (Zw _) (by simpa only[Zm]using hh) (by rw[aU];simp only[Zf];omega) (λe=>by rw[e]at v;simp at v;omega) (λe=>by rw[e]at y;simp at y;omega) c1 c2 (SP C z B) (λx k=>hD x (hX x (by simp[z.mem_iff.1 k]))) (λx k=>hD x (hX x (by simp[B.mem_iff.1 k]))) Za Za Za λM S m t T=>?_;have pM:M.Perm (A1++A2):=m.trans (Wu.Perm.append z B);refine⟨⟨f++(A1++A2),Z++M,X2,Y2,by simp only[Zf];omega,by simp only[Zf];omega,by rw[hxs];simp only[Zm],by simp only[Zf];rw[pM.length_eq,Zf];omega,W,λo p hk=>?_,T⟩,by dsimp only;omega⟩;rw[Zm f,Zm Z];exact hco _ _ (.cons (A1++A2) M o p (by rw[Zf];omega) pM t hk)};have r:=X5 r;refine aa.mk (λhm=>?_) λhm=>?_;{have hm:=X9 hm;obtain⟨A1,B1,X1,Y1,rfl,rfl,a1,z,c1,u⟩:=c.first Za Za;rw[Zf]at j;obtain⟨B,c2⟩:=u.one Za;have v:=z.length_eq;have y:=B.length_eq;refine pP hc (B1.length+Y1.length) (P:=Z) (L:=B1) (R:=Y1) (Q:=[]) (Zw _) (by simpa using hh) (by rw[aU];simp only[Zf,ZP];omega) (λe=>by rw[e]at v;simp at v;omega) (λe=>by rw[e]at y;simp at y;omega) c1 c2 (SP d z B) (λx k=>hD x (hX x (by simp[z.mem_iff.1 k]))) (λx k=>hD x (hX x (by simp[B.mem_iff.1 k]))) Za Za Za λM S m t T=>?_;have pM:M.Perm (A1++X1):=m.trans (Wu.Perm.append z B);(refine next S (Z++M) ?_ Ze);rw[hxs];exact hco _ _ (.last _ M (by rw[Zf];omega) pM t)};have hm:=X5 hm;obtain⟨m,t⟩:=c.one Za;(refine next w' (Z++Y) ?_ hh);rw[hxs];exact hco _ _ (.last _ Y Za m t)};have hge:=X5 hge;obtain⟨m,t⟩:=c.one Za;exact hK i w' m t hh
def xC{s:Sl}{xs:Q H}{c:G}{key:H->H}{D:H->Prop}{K:ad}(h:Hp E w (av 1 s (xs.map vI)::F))(a:xs.length<=c8)(d:zp E F c key D)(e:∀x∈xs,D x)(f:xs.Pairwise (·<·))(g:∀b w',b.Perm xs->Sd key b->Hp E w' (av 1 s (b.map vI)::F)->K w'):cP 279 [ak s,c] w K:=by refine nL.ok _ _ _ _ ?_;have i:=h.br;simp only[Zn,Zy]at i;exact T0 h a d e f Za g
end
end
end Go.Proofs.Q9
namespace Go.Srt
section
def wt(n:I):I:=if n=0 then 0 else if n>15 then 32769 else 2^(15-n)
def bF(l:Q I):I:=(l.map wt).sum
def agj(n:I):wt n<=32769:=by unfold wt;split;{omega};split;{omega};have:2^(15-n)<=2^15:=ZF Zb Za;omega
def zu:∀l:Q I,bF l<=32769*l.length|[]=>by simp[bF]|x::l=>by have:=zu l;have:=agj x;simp only[bF,ZX,Q.sum_cons,Zp]at*;omega
def oO{l:Q I}{k:I}(h:k<l.length):bF (l.take (k+1))=bF (l.take k)+wt l[k]:=by unfold bF;rw[Zz,ZC,YS,Zg h];simp only[X7.toList,ZX,YL,Q.sum_cons,Q.sum_nil,Zq]
def rE{l:Q I}{k:I}:bF (l.take k)<=bF l:=by have:=Wn bF (Zv k l);unfold bF at this⊢;rw[ZC,YS]at this;omega
def afj{l:Q I}{x:I}(h:x∈l):wt x<=bF l:=by obtain⟨i,a,rfl⟩:=Z1 h;have:=oO a;have:=rE (l:=l) (k:=i+1);omega
def used(l:Q I):Q I:=(Zr l.length).filter λs=>decide (0<l.getD s 0)
def BD(l:Q I)(i:H):H:=(l.getD i.toNat 0:H)
def dq(l c:Q I):Prop:=c.Perm (used l)/\c.Pairwise λa b=>l.getD a 0<l.getD b 0\/(l.getD a 0=l.getD b 0/\a<b)
end
end Go.Srt
namespace Go.Proofs.Q9
section
open Go Go.Vc Go.Srt
section
variable{E w:XZ}{F:Q HP}
theorem acK{n:I}{K:H->ad}(d:K (wt n:H) w):bP 389 [ao (n:H)] w K:=by refine Lh.ok _ _ _ ?_;unfold wt at d;refine aa.mk (λh=>?_) λh=>aa.mk (λc=>?_) λc=>⟨Za,?_⟩;{grind};{grind};have h:n≠0:=by{have:=X5 h;omega};have c:¬n>15:=by{have:=X5 c;omega};rw[X8 h,X8 c]at d;have e:=db (k:=.i64) (a:=32768) (b:=n) (by have:Wl.bits .i64=64:=O;omega);rw[show(32768:H)=((32768:I):H)from O,e];have:32768/2^n=2^(15-n):=by{have f:(2:I)^15=32768:=by{decide};have g:=I.pow_sub_mul_pow 2 (show n<=15 by omega);rw[f]at g;exact I.div_eq_of_eq_mul_left (Yd n) g.symm};rw[this];exact d
theorem B9{l:Q I}{K:H->ad}(h:Hp E w F)(g:l.length=258)(q:bz E F (K (bF l:H))):bP 376 [.agg (ai .u8 l)] w K:=by refine Sw.ok _ _ _ (Nw.mk h λb r d=>Ld.arr d (by rw[bC,g]) ?_);have t:=zu l;refine⟨λf i w'=>∃k:I,i=(k:H)/\k<=258/\f=(bF (l.take k):H)/\Hp E w' F,λ_ i _=>258-i.toNat,⟨0,O,Za,by simp[bF],d.drop⟩,?_⟩;intro f i w' j;obtain⟨k,m,u,n,o⟩:=j;subst m;subst n;refine aa.mk (λa=>?_) λp=>?_;{have a:k<258:=by{have:=X9 a;omega};have c:k<l.length:=by{omega};refine fZ.rd (s:=.int .u8) Za Za (l[k]:H) (by rw[Zk];exact iu c) (acK ?_);have e:=oO c;have:=rE (l:=l) (k:=k+1);rw[af (x:=(bF (l.take k):H)+(wt l[k]:H)) Za,af Za];exact⟨⟨k+1,O,Za,by rw[e];rfl,o⟩,by dsimp only;omega⟩};grind
def aeO{l:Q I}{K:X3->ad}(h:Hp E w F)(a:l.length=258)(d:bz E F (K (Wb (bF l<=32768)))):aE 340 [.agg (ai .u8 l)] w K:=by refine PO.ok _ _ _ (Nw.mk h λb f c=>Ld.arr c (by rw[bC,a]) (B9 c a λg e=>?_));have:Wb ((bF l:H)<=32768)=Wb (bF l<=32768):=by{rw[Ye];simp;omega};rw[this];exact d _ e.drop
def Bo{l:Q I}{K:X3->ad}(h:Hp E w F)(a:l.length=258)(d:bz E F (K (Wb (bF l<=32768)))):aE 287 [.agg (ai .u8 l)] w K:=by refine CA.ok _ _ _ (Nw.mk h λb f c=>Ld.arr c (by rw[bC,a]) (aeO c a λg e=>d _ e.drop))
theorem adu{x y:H}{K:H->ad}(a:∀z:H,(z<0↔x<y)->K z w):bP 342 [ao x,ao y] w K:=by refine zK.ok _ _ _ _ (ry.ok _ _ _ (ry.ok _ _ _ ?_));refine aa.f Zd (aa.f Zd (aa.mk (λh=>a _ ?_) λh=>aa.mk (λb=>a _ ?_) λb=>a _ ?_));{grind};{have:=X5 h;omega};have:=X5 h;omega
def afC{l:Q I}{b:I}{t:Wa}(m:l.length=258):zp E (an b (.cells (ai .u8 l) t (0,0))::F) (.func (.func 341) ⟨[]⟩ ⟨[bX b]⟩) (BD l) (λx=>0<=x/\x<258):=by rintro A w y x K h ⟨e,n⟩ ⟨f,o⟩ i;refine dS.mk Zc ?_;refine zE.ok y x ⟨b,0,Z⟩ K w ?_;have p:=h.perm ZV;have a:x.toNat<l.length:=Za;have c:y.toNat<l.length:=Za;refine aP.mk h λj g=>?_;have d:=g.perm ZV;refine aK.rd (s:=.int .u8) d f Za (l[y.toNat]:H) (iu c) ?_;refine aK.rd (s:=.int .u8) d e Za (l[x.toNat]:H) (iu a) ?_;refine adu λz k=>i z j ?_ g;rw[k];unfold BD;rw[Zl,Zl,Zg a,Zg c];rfl
def jx:cR Zj 25 3 1 8:=cR.of Zc Zc
def jr(l:Q I)(k:I):Q I:=(Zr k).filter λs=>decide (0<l.getD s 0)
theorem ox{l:Q I}{k:I}:jr l (k+1)=jr l k++if 0<l.getD k 0 then[k]else[]:=by unfold jr;rw[YA,Y5];congr 1;by_cases h:0<l.getD k 0;{grind};grind
def uU{z:H}:∀y∈[vI z],aN y=J:=by intro y a;have:y=vI z:=by{simpa using a};rw[this];rfl
def pF(l:Q I)(k:I):(jr l k).length<=k:=by have:=Q.length_filter_le (λs=>decide (0<l.getD s 0)) (Zr k);simpa[jr]using this
def ints(l:Q I):Q H:=l.map λ(x:I)=>(x:H)
def AB{a b:Q I}:ints (a++b)=ints a++ints b:=ZC
theorem abf{l:Q I}{K:Sl->ad}(h:Hp E w F)(g:l.length=258)(u:¬bF l<=32768->∀w',Hp E w' F->K ⟨Z,0,0⟩ w')(v:bF l<=32768->∀ys s w',dq l ys->Hp E w' (av 1 s ((ints ys).map vI)::F)->K s w'):cm 288 [.agg (ai .u8 l)] w K:=by refine De.ok _ _ _ (Nw.mk h λb w1 B=>Ld.arr B (by rw[bC,g]) (Bo B g λM z=>?_));refine aa.mk (λr=>u Ze M z.drop) λr=>?_;have r:bF l<=32768:=by{simpa using r};refine Ld.arr z (by rw[bC,g]) ?_;refine⟨λo i w'=>∃k:I,i=(k:H)/\k<=258/\Hp E w' (av 1 o ((ints (jr l k)).map vI)::an b (.cells (ai .u8 l) 166 (0,0))::F),λ_ i _=>258-i.toNat,⟨0,rfl,Za,z.bm 1⟩,?_⟩;intro o i w' N;obtain⟨k,P,hk,t⟩:=N;subst P;refine aa.mk (λj=>?_) λf=>?_;{have j:k<258:=by{have:=X9 j;omega};have m:k<l.length:=by{omega};have C:l.getD k 0=l[k]:=by{rw[Zl,Zg m];rfl};refine fZ.rd (s:=.int .u8) Za Za (l[k]:H) (by rw[Zk];exact iu m) ?_;refine aa.mk (λc=>?_) λc=>?_;{have c:0<l[k]:=by{have:=X9 c;omega};refine Nw.mk t λR G p=>?_;have S:=t.br;have hu:=pF l k;simp only[Zn,ints,Zy]at S;refine bu (ys:=[vI (k:H)]) (n:=1) jx Zb (.inl ⟨3,Zc⟩) p.p1 (.inl ⟨V ⟨R,0,Z⟩,1,1,rfl,rfl,p.aq (ae.aH rfl rfl)⟩) rfl uU Za Za λs' w4 T W=>?_;rw[af Za];refine⟨⟨k+1,rfl,Za,?_⟩,by dsimp only;omega⟩;rw[ox,C,X0 c,AB,ZC];exact T.p1.drop};have c:¬0<l[k]:=by{have:=X5 c;omega};rw[af Za];refine⟨⟨k+1,rfl,Za,?_⟩,by dsimp only;omega⟩;rw[ox,C,X8 c,ZG];exact t};have f:k=258:=by{have:=X5 f;omega};subst f;have A:∀x∈jr l 258,x<258:=λx q=>by{have:=(List.mem_filter.1 q).1;simpa using this};refine xC (key:=BD l) (D:=λx=>0<=x/\x<258) t (by have:=pF l 258;rw[aU];simp only[ints,Zn];omega) (afC g) (λx q=>?_) ?_ λys G c L p=>?_;{obtain⟨y,X,rfl⟩:=List.mem_map.1 q;have:=A y X;omega};{unfold ints;refine Q.Pairwise.map _ (λa b d=>Int.ofNat_lt.2 d) (Q.Pairwise.filter _ Q.pairwise_lt_range)};have Y:jr l 258=used l:=by{unfold jr used;rw[g]};rw[Y]at c;have e:ys=ints (ys.map H.toNat):=by{unfold ints;rw[YF];refine(Q.map_id ys).symm.trans (Z3 λx q=>?_);obtain⟨y,_,rfl⟩:=List.mem_map.1 (c.mem_iff.1 q);simp};have pN:(ys.map H.toNat).Perm (used l):=by{have:=c.map H.toNat;refine this.trans ?_;unfold ints;rw[YF];refine Q.Perm.of_eq ((Z3 λx _=>?_).trans (Q.map_id _));simp};rw[e]at p L;refine v r (ys.map H.toNat) _ G ⟨pN,?_⟩ p.p1.drop;refine(List.pairwise_map.1 L).imp λ{a b} d=>?_;unfold Ky BD at d;simp only[Zk]at d;omega
end
end
section
open Go Go.Vc Go.Pol Go.Srt
section
variable{E w:XZ}{F:Q HP}
end
set_option maxRecDepth 100000
section
variable{E w:XZ}{F:Q HP}
def OZ(a:I):Prop:=∀{E w:XZ}{F:Q HP}{n:H}{side mode:I}{K:Sl->H->ad},Hp E w F->(∀m:I,n=(m:H)->oT m side mode->∀s w',Hp E w' (av 1 s ((ints (layout m side mode)).map vI)::F)->K s 0 w')->(¬(0<=n/\oT n.toNat side mode)->∀w',Hp E w' F->K ⟨Z,0,0⟩ 2 w')->ah [kS,kI] a [ni n,ao (side:H),ao (mode:H)] w K
def kf.lkV{P:X6}{s:Sem G}{w:XZ}{K:G->X3->ad}(x:G)(b:X3)(h:s.run P w=.ok (.tuple #[x,.bool b]) w)(a:K x b w):kf P s [kV,kB] w K:=by unfold kf;rw[h];exact a
def adr(w:XZ):(Wv 217).run Zj w=.ok .nilFunc w:=Zc
def gF{b:I}{l:Q I}{t:Wa}{vs:Q G}(h:Hp E w (bq b vs t::F))(a:vs=(ints l).map vI):Hp E w (av 1 ⟨V ⟨b,0,Z⟩,vs.length,vs.length⟩ ((ints l).map vI)::F):=by subst a;exact h.nC (sz:=1) Zd
theorem acT{j m:I}{K:Sl->ad}(g:j<6)(h:Hp E w F)(n:1<=m)(i:m<=65536)(c:∀s w',Hp E w' (av 1 s ((ints (layout m (j/3+1) (j%3+1))).map vI)::F)->K s w'):dS Zj (vP j) [kS] [ni (m:H)] w K:=by have l:YJ .i64=9223372036854775807:=O;have d:ba .i64 (m:H) 13=((m/8192:I):H):=db (k:=.i64) (a:=m) (b:=13) Zb;have f:ba .i64 (m:H) 10=((m/1024:I):H):=db (k:=.i64) (a:=m) (b:=10) Zb;match j,g with|0,_=>refine dS.mk Zc (qR.ok _ _ _ (Nw.mk h λb w h=>c _ _ (gF h ?_)));simp[layout,ints,vI]|1,_=>refine dS.mk Zc (qR.ok _ _ _ (Nw.mk h λb w h=>c _ _ (gF h ?_)));simp[layout,ints,vI]|2,_=>refine dS.mk Zc (BF.ok _ _ _ (Nw.mk h λb w h=>c _ _ (gF h ?_)));have e:(i64 (4*(if(1024:H)<i64 ((m:H)+1)then(1024:H)else i64 ((m:H)+1))))=((4*WD (m+1) 1024:I):H):=by{rw[af (x:=(m:H)+1) Za,af Ze];split<;>omega};simp only[layout,ints,vI,ni];rw[e];rfl|3,_=>refine dS.mk Zc (Bl.ok _ _ _ ⟨Zb,Nw.mk h λb w h=>c _ _ (gF h ?_)⟩);rw[d,af Za];rfl|4,_=>refine dS.mk Zc (Bv.ok _ _ _ ⟨Zb,Nw.mk h λb w h=>c _ _ (gF h ?_)⟩);rw[f,af Za];rfl|5,_=>refine dS.mk Zc (AL.ok _ _ _ (Nw.mk h λb w h=>c _ _ (gF h ?_)));rw[af (x:=(m:H)+1) Za,af Za];rfl
def agO:∀i,i<6->63/2^i%2=1:=Zb
def aaC{j:I}(a:j<6):Au j=(((j/3+1:I):H),((j%3+1:I):H)):=by match j,a with|0,_=>rfl|1,_=>rfl|2,_=>rfl|3,_=>rfl|4,_=>rfl|5,_=>rfl
theorem OL:OZ 83:=by intro E w F n side mode K h d b;refine GA.ok _ _ _ _ _ (QD h λm l w x h=>?_);have c:=Ce (ke:=qC) (ve:=λv:G=>v) IY aeh (a:=((side:H),(mode:H))) adr h;by_cases hs:(side=1\/side=2)/\1<=mode/\mode<=3;{obtain⟨j,o,rfl,rfl⟩:∃j,j<6/\side=j/3+1/\mode=j%3+1:=⟨3*(side-1)+(mode-1),Za,Za,Za⟩;have p:=x.has j o;rw[X0 (agO j o),aaC o]at p;obtain⟨q,r,u⟩:=Option.map_eq_some_iff.1 p;rw[r]at c;refine kf.lkV _ _ c (aa.f rfl ?_);dsimp only;rw[u];refine aa.dm (λy=>b (λg=>by have:=g.2.2.2.2.1;omega) _ h.drop) λz=>aa.dm (λA=>b (λg=>by have:=g.2.2.2.2.2;omega) _ h.drop) λB=>?_;obtain⟨k,rfl⟩:∃k:I,n=(k:H):=⟨n.toNat,Za⟩;exact acT o h Za Za λs w h=>d k rfl ⟨hs.1,hs.2.1,hs.2.2,Za,Za⟩ s w (h.no 1)};have p:=x.no ((side:H),(mode:H)) (λi C e=>by rw[aaC C]at e;injection e with D L;exact hs ⟨Za,Za,Za⟩);have r:findAt ((side:H),(mode:H)) l 0=Z:=Ze;rw[r]at c;exact kf.lkV _ _ c (aa.t rfl (b (λg=>hs ⟨g.2.1,g.2.2.1,g.2.2.2.1⟩) _ h.drop))
def afh:OZ 61:=by intro E w F n side mode K h a c;refine Iy.ok _ _ _ _ _ (jL (λl=>∀m:I,n=(m:H)->oT m side mode->l w) ?_ λl o=>?_);{intro m y p;subst y;obtain⟨q,r,g,i,z⟩:=p;have d:oT m side mode:=⟨q,r,g,i,z⟩;refine aa.em (λs=>aa.em (λt=>?_) λt=>?_) λs=>aa.em (λu=>⟨Zb,?_⟩) λu=>aa.em (λv=>⟨Zb,?_⟩) λv=>?_;{refine Nw.mk h λb w h=>a m rfl d _ _ (gF h ?_);have e:(i64 (4*(if(1024:H)<i64 ((m:H)+1)then(1024:H)else i64 ((m:H)+1))))=((4*WD (m+1) 1024:I):H):=by{rw[af (x:=(m:H)+1) Za,af (by split<;>omega)];split<;>omega};obtain rfl:side=1:=by{omega};obtain rfl:mode=3:=by{omega};rw[e];rfl};{refine Nw.mk h λb w h=>a m rfl d _ _ (gF h ?_);obtain rfl:side=1:=by{omega};unfold layout;rw[X0 rfl,X8 Za];rfl};{refine Nw.mk h λb w h=>a m rfl d _ _ (gF h ?_);obtain rfl:side=2:=by{omega};obtain rfl:mode=1:=by{omega};rw[show Yh (m:H) 8192=((m/8192:I):H)from rfl,af (x:=((m/8192:I):H)) Za,af Za];rfl};{refine Nw.mk h λb w h=>a m rfl d _ _ (gF h ?_);obtain rfl:side=2:=by{omega};obtain rfl:mode=2:=by{omega};rw[show Yh (m:H) 1024=((m/1024:I):H)from rfl,af (x:=((m/1024:I):H)) Za,af Za];rfl};refine Nw.mk h λb w h=>a m rfl d _ _ (gF h ?_);obtain rfl:side=2:=by{omega};obtain rfl:mode=3:=by{omega};rw[af (x:=(m:H)+1) Za,af Za];rfl};refine aa.dm (λq=>c (λf=>by have:=f.2.2.2.2.1;omega) _ h) λq=>aa.dm (λr=>c (λf=>by have:=f.2.2.2.2.2;omega) _ h) λr=>?_;obtain⟨m,rfl⟩:∃k:I,n=(k:H):=⟨n.toNat,Za⟩;have j:(side=1\/side=2)->aa (Wb ((mode:H)<1)) (K ⟨Z,0,0⟩ 2 w) (aa (Wb ((mode:H)>3)) (K ⟨Z,0,0⟩ 2 w) (l w)):=λp=>aa.dm (λg=>c (λf=>by have:=f.2.2.1;omega) _ h) λg=>aa.dm (λi=>c (λf=>by have:=f.2.2.2.1;omega) _ h) λi=>o m rfl ⟨p,Za,Za,Za,Za⟩;refine aa.nm (λg=>aa.nm (λi=>c (λf=>by have:=f.2.1;omega) _ h) λi=>j Za) λg=>j Za
end
end
end Go.Proofs.Q9
namespace Go.Pol
section
def cg(a n:H)(side:I):I×I:=if¬(1<=n/\n<=65536)\/¬(1<=a/\a<=1048576)then(0,2)else if aL a.toNat n.toNat side=0 then(0,230)else(aL a.toNat n.toNat side,0)
def M5{n side mode:I}(h:n<=65536):bA n side mode<=400000:=by unfold bA layout;split;{split<;>simp<;>omega};grind
def ahM(mode:I):I:=if mode=1 then 8192 else if mode=2 then 1024 else 1
def bound(n mode:I):I:=8300+15*(n+1)+(2*n+1)*WD n (ahM mode)
end
end Go.Pol
namespace Go.Proofs.Q9
section
open Go Go.Vc Go.Pol Go.Srt
section
variable{E w:XZ}{F:Q HP}
end
set_option maxRecDepth 100000
section
variable{E w:XZ}{F:Q HP}
def Q3(a:I):Prop:=∀{E w:XZ}{F:Q HP}{n:H}{side mode:I}{K:H->H->ad},Hp E w F->(∀m:I,n=(m:H)->oT m side mode->∀w',Hp E w' F->K (bA m side mode:H) 0 w')->(¬(0<=n/\oT n.toNat side mode)->∀w',Hp E w' F->K 0 2 w')->ah [kI,kI] a [ni n,ao (side:H),ao (mode:H)] w K
def AU{l:Q I}{k:I}(a:k<l.length):(l.take (k+1)).sum=(l.take k).sum+l[k]:=by rw[Zz,YS,Zg a];simp
def oD(l:Q I)(k:I):(l.take k).sum<=l.sum:=by have:=Wn Q.sum (Zv k l);rw[YS]at this;omega
def aaE{t:WA}(y:OZ t){n:H}{side mode:WA}{K:H->H->ad}(h:Hp E w F)(c:∀m:WA,n=(m:H)->oT m side mode->∀w',Hp E w' F->K (bA m side mode:H) 0 w')(d:¬(0<=n/\oT n.toNat side mode)->∀w',Hp E w' F->K 0 2 w'):ah [kS,kI] t [ni n,ao (side:H),ao (mode:H)] w λ(s:Sl)(e:H) w=>cY 0 0 w λI m(a:H)(i:H) w=>aa (Wb (i<(s.len:H))) (aB s i 1 λq=>Ld kI q w λ(x:H)=>I (i64 (a+x)) (i64 (i+1)) w/\m (i64 (a+x)) (i64 (i+1)) w<m a i w) (K a e w):=by refine y h (λm z u s w h=>?_) λj w h=>?_;{have f:=M5 (side:=side) (mode:=mode) u.2.2.2.2;unfold bA at f;have b:=h.br;rw[Zn,Zy,show(ints (layout m side mode)).length=(layout m side mode).length from Zn ..]at b;have o:(layout m side mode).length<=3:=by{unfold layout;split<;>(try split)<;>(try split)<;>simp};generalize A:layout m side mode=l at f h b o;refine⟨λa i w=>∃k:WA,i=(k:H)/\k<=l.length/\a=((l.take k).sum:H)/\Hp E w (av 1 s ((ints l).map vI)::F),λ_ i _=>l.length-i.toNat,⟨0,O,Za,Zd,h⟩,?_⟩;rintro a i w ⟨k,rfl,hk,rfl,h⟩;have B:=oD l k;refine aa.dm (λg=>?_) λC=>?_;{have g:k<l.length:=by{omega};have p:=AU g;have v:=oD l (k+1);refine aB.rd (h.aq ae.own) Za Za λq _ D=>?_;refine Ld.sc (s:=.int .i64) (l[k]:H) (by rw[D];simp[Sc.enc,vI,ints]) ?_;rw[af Za,af Za];exact⟨⟨k+1,Za,Za,by rw[p];omega,h⟩,by first|omega|(dsimp only;omega)⟩};have r:k=l.length:=by{omega};subst r;rw[Zt (Zw _)];have:=c m z u w h.drop;unfold bA at this;rw[A]at this;exact this};exact⟨λa i w=>a=0/\i=0/\Hp E w F,λ_ _ _=>0,⟨O,O,h⟩,λa i w⟨G,L,h⟩=>by subst G;subst L;exact aa.df Zb (d j _ h)⟩
def S7:Q3 65:=by intro E w F n side mode K h a b;exact LZ.ok _ _ _ _ _ (aaE OL h a b)
def NN:Q3 29:=by intro E w F n side mode K h a b;exact Pe.ok _ _ _ _ _ (aaE afh h a b)
def acb{n:H}{side:I}{K:H->H->ad}(h:Hp E w F)(a:∀m:I,n=(m:H)->oT m side 1->∀w',Hp E w' F->K (bA m side 1:H) 0 w')(b:¬(0<=n/\oT n.toNat side 1)->∀w',Hp E w' F->K 0 2 w'):ah [kI,kI] 126 [ni n,ao (side:H)] w K:=HZ.ok _ _ _ _ (S7 (mode:=1) h a b)
def IK{n:H}{side:I}{K:H->H->ad}(h:Hp E w F)(a:∀m:I,n=(m:H)->oT m side 1->∀w',Hp E w' F->K (bA m side 1:H) 0 w')(b:¬(0<=n/\oT n.toNat side 1)->∀w',Hp E w' F->K 0 2 w'):ah [kI,kI] 10 [ni n,ao (side:H)] w K:=LQ.ok _ _ _ _ (NN (mode:=1) h a b)
theorem QL{a n:H}{side:I}{K:H->H->ad}(h:Hp E w F)(r:side=1\/side=2)(d:bz E F (K ((cg a n side).1:H) ((cg a n side).2:H))):ah [aC .u8,kI] 82 [ni a,ni n,ao (side:H)] w K:=by refine LK.ok _ _ _ _ _ (jL (λs=>∀(m:I) w,n=(m:H)->oT m side 1->(1<=a/\a<=1048576)->Hp E w F->s w) ?_ λs q=>?_);{rintro m w rfl c ⟨hb1,hb2⟩ h;obtain⟨b,rfl⟩:∃b:I,a=(b:H):=⟨a.toNat,Za⟩;have u:cg (b:H) (m:H) side=if aL b m side=0 then(0,230)else(aL b m side,0):=by{have:=c.2.2.2;unfold cg;rw[X8 Za];rfl};rw[u]at d;have p:∀mode,1<=mode->mode<=3->oT m side mode:=λmode l o=>⟨r,l,o,c.2.2.2.1,c.2.2.2.2⟩;refine⟨λmode w=>∃k:I,mode=(k:H)/\k<=3/\(∀j,k<j->j<=3->b<bA m side j)/\Hp E w F,λmode _=>mode.toNat,⟨3,rfl,Za,λj l o=>Za,h⟩,?_⟩;rintro mode w ⟨k,rfl,hk,hlo,h⟩;refine aa.dm (λt=>?_) λA=>?_;{refine S7 h (λv e _ w h=>?_) λf=>Wh ⟨Za,p k Za hk⟩ f;obtain rfl:m=v:=by{omega};refine aa.dm (λx=>?_) λy=>?_;{have g:aL b m side=k:=by{unfold aL;have:k=1\/k=2\/k=3:=by{omega};(rcases this with rfl|rfl|rfl);{grind};{grind};rw[X0 Za]};rw[g,X8 Za]at d;exact d w h};obtain⟨i,rfl⟩:∃i,k=i+1:=⟨k-1,Za⟩;rw[gW Za];refine⟨⟨i,Za,Za,λj l o=>?_,h⟩,by first|omega|(dsimp only;omega)⟩;by_cases e:j=i+1;{subst e;omega};grind};obtain rfl:k=0:=by{omega};have g:aL b m side=0:=by{unfold aL;have l:=hlo 1 Za Za;have o:=hlo 2 Za Za;have B:=hlo 3 Za Za;rw[X8 Za,X8 Za,X8 Za]};rw[g,X0 rfl]at d;exact d w h};refine acb h (λm z c w h=>?_) λf w h=>?_;{refine aa.nf rfl (aa.dm (λl=>?_) λl=>aa.dm (λo=>?_) λo=>q m w z c Za h);{have:=d w h;rw[show cg a n side=(0,2) by unfold cg;rw[X0 Za]]at this;exact this};have:=d w h;rw[show cg a n side=(0,2) by unfold cg;rw[X0 Za]]at this;exact this};refine aa.nt Zb ?_;have:=d w h;rw[show cg a n side=(0,2) by unfold cg;rw[X0];refine .inl λC=>f ⟨Za,r,Za,Za,Za,Za⟩]at this;exact this
def Na{budget n:H}{side:I}{K:H->H->ad}(h:Hp E w F)(p:side=1\/side=2)(a:bz E F (K ((cg budget n side).1:H) ((cg budget n side).2:H))):ah [aC .u8,kI] 17 [ni budget,ni n,ao (side:H)] w K:=by refine Ps.ok _ _ _ _ _ (IK h (λm y d w h=>?_) λf w h=>?_);{subst y;refine jL (λt=>∀w,(1<=budget/\budget<=1048576)->Hp E w F->t w) ?_ λt q=>?_;{rintro w ⟨z,A⟩ h;obtain⟨b,rfl⟩:∃b:I,budget=(b:H):=⟨budget.toNat,Za⟩;have B:cg (b:H) (m:H) side=if aL b m side=0 then(0,230)else(aL b m side,0):=by{have:=d.2.2.2;unfold cg;rw[X8 Za];rfl};rw[B]at a;have o:∀mode,1<=mode->mode<=3->oT m side mode:=λmode i l=>⟨p,i,l,d.2.2.2.1,d.2.2.2.2⟩;have u:=QI (budget:=b) (n:=m) p;refine aa.dm (λC=>?_) λD=>?_;{rw[X0 (u.2 Za)]at a;exact a w h};have r:aL b m side≠0:=λe=>by{have:=u.1 e;omega};rw[X8 r]at a;refine⟨λc mode w=>∃k g:I,mode=(k:H)/\c=(g:H)/\1<=k/\k<=4/\1<=g/\(g=1\/g<k)/\bA m side g<=b/\(∀j,g<j->j<k->b<bA m side j)/\Hp E w F,λ_ mode _=>4-mode.toNat,⟨1,1,rfl,rfl,Za,Za,Za,.inl rfl,Za,λj i l=>Za,h⟩,?_⟩;rintro c mode w ⟨k,g,rfl,rfl,hk1,hk4,hg1,hgk,hgn,hlo,h⟩;refine aa.dm (λG=>?_) λL=>?_;{refine NN h (λM e _ w h=>?_) λf=>Wh ⟨Za,o k Za Za⟩ f;obtain rfl:m=M:=by{omega};rw[gW Za];refine aa.dm (λv=>?_) λx=>?_;{exact⟨⟨k+1,k,Za,rfl,Za,Za,Za,.inr Za,Za,λj i l=>Za,h⟩,by first|omega|(dsimp only;omega)⟩};refine⟨⟨k+1,g,Za,rfl,Za,Za,hg1,Za,hgn,λj i l=>?_,h⟩,by first|omega|(dsimp only;omega)⟩;by_cases e:j=k;{subst e;omega};exact hlo j i Za};have s:aL b m side=g:=by{unfold aL;have:g=1\/g=2\/g=3:=by{omega};(rcases this with rfl|rfl|rfl);{have l:=hlo 2 Za Za;have N:=hlo 3 Za Za;rw[X8 Za,X8 Za,X0 Za]};{have N:=hlo 3 Za Za;rw[X8 Za,X0 Za]};rw[X0 Za]};rw[s]at a;exact a w h};refine aa.nf rfl (aa.dm (λi=>?_) λi=>aa.dm (λl=>?_) λl=>q w Za h);{have:=a w h;rw[show cg budget (m:H) side=(0,2) by unfold cg;rw[X0 Za]]at this;exact this};have:=a w h;rw[show cg budget (m:H) side=(0,2) by unfold cg;rw[X0 Za]]at this;exact this};have a:=a w h;rw[show cg budget n side=(0,2) by unfold cg;rw[X0];refine .inl λP=>f ⟨Za,p,Za,Za,Za,Za⟩]at a;refine jL (λ_=>True) trivial λ_ _=>aa.nt Zb ?_;exact a
end
end
end Go.Proofs.Q9
namespace Go.Crc
section
def half(c:I):I:=(c/2)^^^(if c%2=1 then 3988292384 else 0)
def row(c:I):I:=half (half (half (half (half (half (half (half c)))))))
def step(c b:I):I:=row ((c%256)^^^b)^^^(c/256)
def feed(c:I)(b:Q I):I:=b.foldl step c
def cB(b:Q I):I:=feed 4294967295 b^^^4294967295
def ju{c:I}(h:c<4294967296):half c<4294967296:=by unfold half;exact YQ (n:=32) Za Ze
def Iq{c:I}(h:c<4294967296):row c<4294967296:=ju (ju (ju (ju (ju (ju (ju (ju h)))))))
def EA{c b:I}(h:c<4294967296)(a:b<256):step c b<4294967296:=by unfold step;have d:(c%256)^^^b<256:=YQ (n:=8) Za a;exact YQ (n:=32) (Iq Za) Za
def qb:∀(b:Q I)(c:I),c<4294967296->(cd b)->feed c b<4294967296|[],_,h,_=>h|x::b,c,h,hb=>by rw[feed,Q.foldl_cons];exact qb b _ (EA h (hb x ZM)) λy a=>hb y (ZB _ a)
def Aw(a b:Q I)(c:I):feed c (a++b)=feed (feed c a) b:=Q.foldl_append
def lH{b:Q I}(a:cd b):cB b<4294967296:=YQ (n:=32) (qb b _ Zb a) Zb
end
end Go.Crc
namespace Go.Vc
section
open Go
def mf(f:I->I)(L i:I):I->I:=λj=>if j<L/\(j<i\/L<=j+i)then f (L-1-j)else f j
def Tb(f:I->I)(L:I):mf f L 0=f:=by funext j;unfold mf;rw[K Za]
def Rv{f:I->I}{L i k:I}(e:i+k+1=L)(a:i<k):dP (dP (mf f L i) i (mf f L i k)) k (mf f L i i)=mf f L (i+1):=by funext j;have c:mf f L i k=f k:=by{unfold mf;rw[K Za]};have d:mf f L i i=f i:=by{unfold mf;rw[K Za]};rw[c,d];simp only[dP,mf];by_cases h1:j=k;{grind};grind
def T1{f:I->I}{L i:I}(h:L<=2*i+1):bR (mf f L i) 0 L=(bR f 0 L).reverse:=by apply YW;{rw[ZY,ck,ck]};intro j a c;rw[ck]at a;rw[fk a,Q.getElem_reverse];simp only[ck];rw[fk Za];simp only[mf,Zi];by_cases h3:j<L/\(j<i\/L<=j+i);{rw[X0 h3]};grind
end
end Go.Vc
namespace Go.Pol
section
def fK(n mode:I):Q (I×I):=places 0 (layout n 1 mode)
def UY{n mode:I}:∃r,fK n mode=(0,n)::r:=by unfold fK layout;rw[X0 O];split<;>exact⟨_,O⟩
def UF(n:I):fK n 3=[(0,n),(n,n),(n+n,4*WD (n+1) 1024)]:=by unfold fK layout;rw[X0 O,X0 O];simp[places]
end
end Go.Pol
namespace Go.Proofs.Q9
section
open Go Go.Vc Go.Bw Go.Pol Go.Srt
structure EC where
 n:I
 mode:I
 A:AS
 held:Q I
 all:Q I
 begun:X3
 closed:X3
structure mr (C:EC):Prop where
 n1:1<=C.n
 n2:C.n<=65536
 m1:1<=C.mode
 m3:C.mode<=3
 live:bA C.n 1 C.mode=C.A.live
 len:C.held.length<=C.n
 hb:∀x∈C.held,x<256
 ab:∀x∈C.all,x<256
def eN(p:I×I):Q G:=[ni (p.1:H),ni (p.2:H)]
def eJ(p:I×I):(eN p).length=2:=O
abbrev jH(b:I)(C:EC)(sp:Sl):HP:=bq b [ni (C.n:H),ni (C.held.length:H),ao (C.mode:H),pA C.A,ak sp,.int .u32 (Crc.cB C.held:H),.int .u32 (Crc.cB C.all:H),.bool C.begun,.bool C.closed] 148
abbrev jG(C:EC)(sp:Sl):HP:=av 2 sp ((fK C.n C.mode).flatMap eN)
abbrev pE(b:I):G:=bX b
section
variable{E w:XZ}{F:Q HP}{b:I}{C:EC}{sp:Sl}{f:I->I}
def Kp{a:Q (I×I)}{i:I}{G:Q HP}{K:H×H×Unit->Prop}(h:Hp E w G)(d:ae G (aO 2 sp (a.flatMap eN)))(e:i<a.length)(g:K ((a[i].1:H),(a[i].2:H),())):aB sp (i:H) 2 λq=>Ld (.st [iQ,iQ]) q w K:=by refine aB.el eJ Zb (h.aq d) O e λp k=>Ld.st (ks:=[iQ,iQ]) ((a[i].1:H),(a[i].2:H),()) (λj c=>?_) g;have c:j<2:=c;rw[k j c];match j,c with|0,_=>rfl|1,_=>rfl
def uf{i:I}{K:H×H×Unit->ad}(h:Hp E w (jH b C sp::jG C sp::F))(a:i<(fK C.n C.mode).length)(c:∀w',Hp E w' (jH b C sp::jG C sp::F)->K ((((fK C.n C.mode)[i]).1:H),(C.held.length:H),()) w'):ah [.st [iQ,iQ]] 194 [pE b,ni (i:H)] w K:=by refine uo.ok _ _ _ _ (Nw.mk h λe w h=>aP.mk h λw h=>?_);(try simp only[ay,aj,Zi]);refine Ld.xb (x:=sp) h O (aB.el eJ Zb (h.aq (ae.at 2 ae.own)) O a λp d=>?_);refine Ld.sc (s:=.int .i64) (((fK C.n C.mode)[i]).1:H) (by have:=d 0 Zb;simpa[eN,Sc.enc]using this) ?_;refine Ld.xb h O ?_;(with_reducible refine ax.xw h O O λw h=>?_);exact Ld.xt h O (c w (h.no 0))
def Ha{n mode:I}:∃h:0<(fK n mode).length,(fK n mode)[0]=(0,n):=by obtain⟨r,e⟩:=UY (n:=n) (mode:=mode);exact⟨by rw[e];simp,by simp[e]⟩
def mr.G5(a:mr C):C.n<=C.A.live:=by rw[<-a.live];unfold bA layout;rw[X0 O];split<;>simp
def abQ{K:ad}(l:mr C)(h:Hp E w (jH b C sp::jG C sp::Ar C.A f::F))(u:∀g w',bR g 0 C.held.length=(bR f 0 C.held.length).reverse->Hp E w' (jH b C sp::jG C sp::Ar C.A g::F)->K w'):cP 131 [pE b] w K:=by refine uC.ok _ _ _ ?_;have v:=l.n2;have c:=l.len;have m:=l.G5;obtain⟨y,z⟩:=Ha (n:=C.n) (mode:=C.mode);(try simp only[ay,aj,Zi]);refine Ld.xb (x:=sp) h rfl (Kp (i:=0) h (ae.at 1 ae.own) y ?_);rw[z];refine Nw.mk h λB w h=>?_;(with_reducible refine ax.xw h rfl rfl λw h=>?_);refine aP.mk h λw h=>?_;(skip);refine Ld.xb h rfl ?_;rw[af Za];generalize t:C.held.length=L at c;have D:=t;refine⟨λi k w=>∃d:I,i=(d:H)/\k=(L:H)-1-(d:H)/\2*d<=L+1/\Hp E w (Ar C.A (mf f L d)::bq B [ni ((0:I):H),ni (C.n:H)] 150::jH b C sp::jG C sp::F),λi _ _=>L-i.toNat,⟨0,rfl,Za,Za,by rw[Tb];exact h.at 3⟩,?_⟩;rintro i k w ⟨d,rfl,rfl,hd,h⟩;refine aa.dm (λG=>?_) λM=>?_;{obtain⟨k,N⟩:∃k:I,(L:H)-1-(d:H)=(k:H):=⟨L-1-d,Za⟩;rw[N];have o:d+k+1=L:=by{omega};have r:d<k:=by{omega};obtain⟨e,_⟩:=Ar.cK h;refine aP.mk h λw h=>?_;(try simp only[]);refine Ld.xb h rfl (Ld.xt h rfl ?_);refine gO (p:=0) (q:=C.n) h Za (λj P s w h=>?_) λa=>Wh ⟨Za,Za⟩ a;obtain rfl:d=j:=by{omega};refine aP.mk h λw h=>?_;(try simp only[Zi]);refine Ld.xb h rfl (Ld.xt h rfl ?_);refine gO (p:=0) (q:=C.n) h Za (λj P s w h=>?_) λa=>Wh ⟨Za,Za⟩ a;obtain rfl:k=j:=by{omega};refine aP.mk h λw h=>?_;(try simp only[Zi]);refine Ld.xb h rfl (Ld.xt h rfl ?_);refine lN (p:=0) (q:=C.n) h Za Za (e.byt _) λw h=>?_;refine aP.mk h λw h=>?_;(skip);refine Ld.xb h rfl (Ld.xt h rfl ?_);refine lN (p:=0) (q:=C.n) h Za Za (e.byt _) λw h=>?_;rw[af Za,af Za];refine⟨⟨d+1,Za,Za,Za,?_⟩,by first|omega|(dsimp only;omega)⟩;simp only[Zi]at h;rw[Rv o r]at h;exact h};refine u (mf f L d) w (by rw[t];exact T1 Za) ?_;exact(((h.no 1).at 2).at 2)
def Uq{K:H×H×Unit->H->ad}(a:mr C)(o:1<=C.held.length)(h:Hp E w (jH b C sp::jG C sp::Ar C.A f::F))(k:∀g w',bR g 0 C.held.length=bH (bR f 0 C.held.length)->Hp E w' (jH b C sp::jG C sp::Ar C.A g::F)->K (((0:I):H),(C.held.length:H),()) (cj (bR f 0 C.held.length):H) w'):ah [.st [iQ,iQ],kI] 129 [pE b] w K:=by refine ua.ok _ _ _ ?_;have l:=a.n2;have d:=a.len;have c:=a.G5;obtain⟨e,j⟩:=Ha (n:=C.n) (mode:=C.mode);refine Nw.mk h λr w h=>?_;have h:=h.drew (n:=w.drawn+1);(try simp only[ay,aj,Zi]);refine⟨cf b _ _ (0,0),h.hb,aM.xb (λ_ h=>h) O ?_⟩;refine uf (i:=0) ((h.at 2).at 2) e λw h=>⟨h.hb,?_⟩;rw[j];refine VL (p:=0) (q:=C.held.length) (h.at 3) Za Za Za λg s w m _ h=>⟨h.hb,?_⟩;refine uf (i:=0) ((h.at 2).at 2) e λw h=>?_;rw[j];(with_reducible refine ax.xw h O O λw h=>?_);exact Ld.xt h O (k g w m (h.no 3))
def zv{a:Q (I×I)}{i:I}{S:ad}{K:H×H×Unit->Prop}(h:aO 2 sp (a.flatMap eN) w)(l:∀w',S w'->aO 2 sp (a.flatMap eN) w')(m:i<a.length)(n:K ((a[i].1:H),(a[i].2:H),())):aB sp (i:H) 2 λq=>aM (.st [iQ,iQ]) q S K:=by have o:=h.1;rw[dY eJ]at o;obtain⟨p,k,_⟩:=h.2 0 (by rw[dY eJ];omega);refine aB.mk k Za Za (Dp (ks:=[iQ,iQ]) ((a[i].1:H),(a[i].2:H),()) (λw' r j c=>?_) n);have c:j<2:=c;have s:=l w' r;obtain⟨d,g,t⟩:=s.2 (i*2+j) (by rw[dY eJ];omega);obtain rfl:d=p:=Xu (g.symm.trans k);rw[Zi,Zk,show(d.add (i*2)).add j=d.add (i*2+j) by unfold ZZ;by_cases e1:i*2=0<;>by_cases e2:j=0<;>simp[e1,e2,Yw],t];have e:=mY eJ a i j m c;rw[Zg (by rw[dY eJ];omega)]at e;rw[e];have:j=0\/j=1:=Za;rcases this with rfl|rfl<;>rfl
def acJ{K:H×H×Unit->H->ad}(d:mr C)(p:1<=C.held.length)(k:C.mode=3)(h:Hp E w (jH b C sp::jG C sp::Ar C.A f::F))(q:∀g w',bR g C.n C.held.length=bH (bR f 0 C.held.length)->Hp E w' (jH b C sp::jG C sp::Ar C.A g::F)->K ((C.n:H),(C.held.length:H),()) (cj (bR f 0 C.held.length):H) w'):ah [.st [iQ,iQ],kI] 130 [pE b] w K:=by refine vA.ok _ _ _ ?_;have r:=d.n1;have t:=d.n2;have l:=d.len;have c:fK C.n C.mode=[(0,C.n),(C.n,C.n),(C.n+C.n,4*WD (C.n+1) 1024)]:=by{rw[k];exact UF _};have e:C.n+C.n+4*WD (C.n+1) 1024<=C.A.live:=by{rw[<-d.live,k];unfold bA layout;rw[X0 O,X0 O];simp;omega};refine Nw.mk h λD w h=>?_;have h:=h.drew (n:=w.drawn+1);(try simp only[ay,aj,Zi]);have a:∀{w:XZ}{G:Q HP},Hp E w (jH b C sp::jG C sp::G)->cf b _ _ (0,0) w/\aO 2 sp ((fK C.n C.mode).flatMap eN) w:=λ{w G} h=>⟨h.hb,h.aq (ae.at 1 ae.own)⟩;have j:=(h.at 2).at 2;have o:∀h,(fK C.n C.mode)[1]' h=(C.n,C.n):=by{rw[c];intro h;rfl};have u:∀h,(fK C.n C.mode)[2]' h=(C.n+C.n,4*WD (C.n+1) 1024):=by{rw[c];intro h;rfl};have v:(fK C.n C.mode).length=3:=by{rw[c];rfl};obtain⟨y,z⟩:=Ha (n:=C.n) (mode:=C.mode);refine⟨λw=>cf b _ _ (0,0) w/\aO 2 sp ((fK C.n C.mode).flatMap eN) w,a j,aM.xb (λ_ h=>h.1) O (aM.xb (x:=sp) (λ_ h=>h.1) O ?_)⟩;refine zv (i:=2) (a j).2 (λ_ h=>h.2) Za ?_;rw[u];refine uf (i:=0) j y λw h=>⟨a h,?_⟩;rw[z];refine uf (i:=1) h Za λw h=>⟨a h,?_⟩;rw[o];refine aah (pt:=0) (m:=C.held.length) (pc:=C.n) (pr:=C.n+C.n) (R:=WD (C.n+1) 1024) (h.at 3) Za Za Za p Za Za Za Za Za Za λg s w B h=>?_;have h:=(h.at 2).at 2;refine⟨a h,uf (i:=1) h Za λw h=>?_⟩;rw[o];(with_reducible refine ax.xw h O O λw h=>?_);exact Ld.xt h O (q g w B (h.no 3))
end
def ym:Prop:=∀{E w:XZ}{F:Q HP}{b:I}{C:EC}{sp:Sl}{f:I->I}{K:H×H×Unit->H->ad},mr C->1<=C.held.length->C.mode=3->Hp E w (jH b C sp::jG C sp::Ar C.A f::F)->(∀g w',bR g C.n C.held.length=bH (bR f 0 C.held.length)->Hp E w' (jH b C sp::jG C sp::Ar C.A g::F)->K ((C.n:H),(C.held.length:H),()) (cj (bR f 0 C.held.length):H) w')->ah [.st [iQ,iQ],kI] 130 [pE b] w K
def afy:ym:=λa c d h e=>acJ a c d h e
end
section
open Go Go.Vc
set_option maxRecDepth 100000
def P3.ok(a:Sl)(R:Sl->ad) w(h:ah [(.arr 257)] 200 [] w λc b=>ah [(.arr 257),kS,kI] 199 [(.agg c),(ak a)] b λe(f:Sl)(g:H) d=>Nw 290 ⟨Zh 256 (ao 0)++[(ni 0)]⟩ d λi h=>az 257 (ar i 0) e h λj=>aI 257 i 0 j λk=>ah [kS,kI] 201 [(.agg k)] j λ(m:Sl)(n:H) l=>pq 25 f m l λp o=>R p o):cm 133 [(ak a)] w R:=co Tryz.f133 [] h
def L0.ok(a:(X4 G))(b:Sl)(R:(X4 G)->Sl->H->ad) w(h:Nw 290 a w λd c=>Nw 290 ⟨Zh 256 (ao 0)++[(ni 0)]⟩ c λf e=>aZ (λ(r:XZ)=>cY (⟨Z,0,0⟩:Sl) 0 r λs t(u:Sl)(v:H) x=>aw (v<(b.len:H)) (aB b v 1 λy=>dD y x λz=>aI 256 d 0 x λI=>ah [(.arr 256),kI] 274 [(.agg I),(ao z)] x λK(B:H) L=>az 256 (ar d 0) K L λA=>aa (B==0) (aA d 256 A λM=>cS d 256 (ni (i64 (M+1))) A λC=>s u (i64 (v+1)) C/\t u (i64 (v+1)) C<t u v x) (aA d 256 A λN=>ah [kS,kI] 275 [(ni N)] A λ(P:Sl)(k1:H) Q=>pq 25 u P Q λS T=>aJ 3 [(ni (i64 (B+1)))] T λW X=>aG Pg (ZD #[25,25] 25 ⟨[(ak S),(cE W 1)]⟩) kS X λ(D:Sl) Y=>cS d 256 (ni 0) Y λE=>s D (i64 (v+1)) E/\t D (i64 (v+1)) E<t u v x)) (aI 257 d 0 x λs1=>az 257 (ar f 0) s1 x λF=>aI 257 f 0 F λu1=>R u1 u 0 F)) λg=>aI 257 d 0 e λh=>aE 273 [(.agg h)] e λj i=>aa (! j) (aI 257 d 0 i λk=>az 257 (ar f 0) k i λl=>aI 257 f 0 l λm=>R m (⟨Z,0,0⟩:Sl) 2 l) (aA d 256 i λn=>aw ((b.len:H)>(i64 ((2147483647:H)-n))) (aI 257 d 0 i λo=>az 257 (ar f 0) o i λp=>aI 257 f 0 p λq=>R q (⟨Z,0,0⟩:Sl) 2 p) (g i))):ah [(.arr 257),kS,kI] 199 [(.agg a),(ak b)] w R:=co Tryz.f199 [(2,[]),(14,[(7,kS),(27,kI)])] h
def OX.ok(R:(X4 G)->ad) w(h:Nw 290 ⟨Zh 256 (ao 0)++[(ni 0)]⟩ w λb a=>ah [(.arr 256)] 276 [] a λd c=>cZ Pg 290 [(0,(.agg d))] λe=>az 257 (ar b 0) e c λf=>aI 257 b 0 f λg=>R g f):ah [(.arr 257)] 200 [] w R:=co Tryz.f200 [] h
def N9.ok(a:(X4 G))(R:Sl->H->ad) w(h:Nw 290 a w λc b=>aI 257 c 0 b λd=>aE 273 [(.agg d)] b λf e=>aa (! f) (R (⟨Z,0,0⟩:Sl) 2 e) (aA c 256 e λg=>ah [kS,kI] 275 [(ni g)] e λ(i:Sl)(j:H) h=>aJ 3 [(ni 257)] h λl k=>aG Pg (ZD #[25,25] 25 ⟨[(ak i),(cE l 1)]⟩) kS k λ(n:Sl) m=>R n 0 m)):ah [kS,kI] 201 [(.agg a)] w R:=co Tryz.f201 [] h
def Hr.ok(a:(X4 G))(R:X3->ad) w(h:Nw 290 a w λc b=>di b λd e=>aM (.arr 257) (ar c 0) d λf=>ah [(.arr 257)] 200 [] e λh g=>d g/\xu Pg 290 f h λi=>aa i (R J g) (gp (ar c 256) d λj=>aw (j>=0) (gp (ar c 256) d λk=>aw (k<=2147483647) (aM (.arr 256) (ar c 0) d λl=>aE 332 [(.agg l)] g λn m=>d m/\R n m) (R U g)) (R U g))):aE 273 [(.agg a)] w R:=co Tryz.f273 [] h
def abG.ok(a:(X4 G))(b:H)(R:(X4 G)->H->ad) w(h:Nw 172 a w λd c=>Nw 172 ⟨Zh 256 (ao 0)⟩ c λf e=>cG (⟨V ⟨d,0,Z⟩,256,256⟩:Sl) 0 256 256 1 λg=>bP 333 [(ak g),(ao b)] e λi h=>aI 256 d 0 h λj=>ah [(.arr 256),(aC .u8),kB] 334 [(.agg j),(ni i)] h λl(m:H)(n:X3) k=>az 256 (ar f 0) l k λo=>aI 256 f 0 o λp=>az 256 (ar f 0) p o λq=>aI 256 f 0 q λr=>R r i q):ah [(.arr 256),kI] 274 [(.agg a),(ao b)] w R:=co Tryz.f274 [] h
def abJ.ok(R:(X4 G)->ad) w(h:Nw 172 ⟨Zh 256 (ao 0)⟩ w λb a=>dX 0 a λc d(e:H) f=>aw (e<256) (aK (ar b 0) 256 e 1 λg=>St g (ao (u8 e)) f λh=>c (i64 (e+1)) h/\d (i64 (e+1)) h<d e f) (aI 256 b 0 f λi=>az 256 (ar b 0) i f λj=>aI 256 b 0 j λk=>R k j)):ah [(.arr 256)] 276 [] w R:=co Tryz.f276 [(5,[(2,kI)])] h
def SL.ok(a:(X4 G))(R:X3->ad) w(h:Nw 172 a w λc b=>Nw 337 ⟨Zh 256 (ni 0)⟩ b λe d=>aI 256 c 0 d λf=>dX 0 d λg h(i:H) j=>aw (i<256) (fZ (.int .u8) f 256 i λ(k:H)=>aK (ar e 0) 256 k 1 λl=>St l (ni 1) j λm=>g (i64 (i+1)) m/\h (i64 (i+1)) m<h i j) (di j λn o=>aM (.arr 256) (ar e 0) n λp=>ah [(.arr 256)] 371 [] o λr q=>n q/\B5 .i64 256 p r λs=>R s q)):aE 332 [(.agg a)] w R:=co Tryz.f332 [(7,[(7,kI)])] h
def V7.ok(a:(X4 G))(b:H)(R:(X4 G)->H->X3->ad) w(h:Nw 172 a w λd c=>Nw 172 ⟨Zh 256 (ao 0)⟩ c λf e=>aw (b<0) (aI 256 d 0 e λg=>az 256 (ar f 0) g e λh=>aI 256 f 0 h λi=>R i 0 U h) (aw (b>=256) (aI 256 d 0 e λj=>az 256 (ar f 0) j e λk=>aI 256 f 0 k λl=>R l 0 U k) (aP e λm=>aI 256 d 0 m λn=>aK (ar d 0) 256 b 1 λo=>dD o m λp=>az 256 (ar f 0) n m λq=>aP q λr=>cG (⟨V ⟨f,0,Z⟩,256,256⟩:Sl) 1 (i64 (b+1)) 256 1 λs=>cG (⟨V ⟨d,0,Z⟩,256,256⟩:Sl) 0 b 256 1 λt=>aG Pg (Wq.copy_ #[24,24] 3 ⟨[(ak s),(ak t)]⟩) kI r λ(v:H) u=>aK (ar f 0) 256 0 1 λx=>St x (ao p) u λy=>aI 256 f 0 y λz=>az 256 (ar f 0) z y λA=>aI 256 f 0 A λB=>R B p J A))):ah [(.arr 256),(aC .u8),kB] 334 [(.agg a),(ni b)] w R:=co Tryz.f334 [] h
def VW.ok(R:(X4 G)->ad) w(h:Nw 337 ⟨Zh 256 (ni 0)⟩ w λb a=>dX 0 a λc d(e:H) f=>aw (e<256) (aK (ar b 0) 256 e 1 λg=>St g (ni 1) f λh=>c (i64 (e+1)) h/\d (i64 (e+1)) h<d e f) (aI 256 b 0 f λi=>az 256 (ar b 0) i f λj=>aI 256 b 0 j λk=>R k j)):ah [(.arr 256)] 371 [] w R:=co Tryz.f371 [(5,[(2,kI)])] h
def EP.ok(a:H)(R:Sl->H->ad) w(h:aJ 25 [(.slice Z 0 0)] w λc b=>aw (a<0) (cS c 0 (.slice Z 0 0) b λd=>dG c 0 d λe=>R e 2 d) (aw (a>2147483647) (cS c 0 (.slice Z 0 0) b λf=>dG c 0 f λg=>R g 2 f) (ah [kV] 335 [(ni a)] b λi h=>iP Pg i [kI] h (λ(j:I)(k:I->Obj)(o:H)(l:XZ)(m n:ad)=>qQ j k l λp=>dG c 0 p λq=>aJ 3 [(ni o)] p λs r=>aG Pg (ZD #[25,25] 25 ⟨[(ak q),(cE s 1)]⟩) kS r λ(u:Sl) t=>cS c 0 (ak u) t λv=>me j k v m) (λx y=>dG c 0 y λz=>cS c 0 (ak z) y λC=>jm (x::[]:Q I) C λA=>dG c 0 A λD=>R D 0 A) λE F=>jm (E::[]:Q I) F λB=>dG c 0 B λG=>R G 0 B))):ah [kS,kI] 275 [(ni a)] w R:=yd Tryz.f275 (.s .o (.s (.s .o (.c (.s .o .o) .o)) (.s (.s .o (.b (.r [kI] .o (.b .o)))) (.s .o .o)))) h
def Kk.ok(a:H)(R:G->ad) w(h:aJ 3 [(ni a)] w λc b=>R (.func (.func 373) ⟨[]⟩ ⟨[(bX c)]⟩) b):ah [kV] 335 [(ni a)] w R:=co Tryz.f335 [] h
def KT.ok(a:H)(b:H)(c:H)(R:H->H->ad) w(h:aZ (λ(e:XZ)=>0<=b/\aw ((i64 (a+(bT .i64 (i64 ((1:H)+c)) b)))>2147483647) (R 0 2 e) (R (i64 (a+(bT .i64 (i64 ((1:H)+c)) b))) 0 e)) λd=>aw (a<0) (R 0 2 w) (aw (a>2147483647) (R 0 2 w) (aw (b<0) (R 0 2 w) (aw (b>30) (R 0 2 w) (aa (c !=0) (aa (c !=1) (R 0 2 w) (d w)) (d w)))))):ah [kI,kI] 352 [(ni a),(ni b),(ni c)] w R:=co Tryz.f352 [(2,[])] h
def Et.ok(a:G)(b:Wg)(R:ad) w(h:∃(c:ad)(d:XZ->I),c w/\∀(e:XZ),c e->bj b e λf=>aw (f>0) (bj b e λg=>nd Pg a [kB] [(ni (cU .i64 (i64 (g-1)) 1))] e λ(i:X3) h=>aa (! i) (R h) (bj b h λj=>0<=(1:H)/\St b (ni (ba .i64 (i64 (j-1)) (1:H))) h λk=>([]:Q I)=([]:Q I)/\c k/\d k<d e)) (R e)):cP 373 [a,(au (V b))] w R:=yd Tryz.f373 (.b (.l [] (.s (.s .o (.c .o .o)) (.s (.b (.s .o (.c .o .o))) .o)))) h
end
end Go.Proofs.Q9
namespace Go.Sym
section
open Go.Inc
def dk(L:Q I)(p:I):Q I:=L.getD p 0::L.eraseIdx p
def uL{L:Q I}{p:I}(a:p<L.length):(dk L p).Perm L:=by unfold dk;have e:L.getD p 0=L[p]:=by{simp[YB,a]};rw[e];rw[Q.eraseIdx_eq_take_drop_succ];have b:L.take p++L[p]::L.drop (p+1)=L:=by{rw[Q.getElem_cons_drop,Zv]};exact List.perm_middle.symm.trans (Q.Perm.of_eq b)
def Qg{L:Q I}{p:I}(a:p<L.length):(dk L p).length=L.length:=(uL a).length_eq
def cL(L:Q I):Prop:=L.Perm (Zr 256)
def cL.len{L:Q I}(h:cL L):L.length=256:=by rw[h.length_eq,Yj]
def cL.mem{L:Q I}(h:cL L){c:I}:c∈L↔c<256:=by rw[h.mem_iff,YV]
def cL.nodup{L:Q I}(h:cL L):L.Nodup:=h.nodup_iff.2 Q.nodup_range
def cL.take{L:Q I}(h:cL L){p:I}(a:p<256):cL (dk L p):=(uL (by rw[h.len];exact a)).trans h
def cL.range:cL (Zr 256):=Wu.Perm.refl _
def cL.get{L:Q I}(h:cL L){p:I}(a:p<256):L.getD p 0<256:=by have b:=h.len;have:L.getD p 0=L[p]:=by{simp[YB,b,a]};rw[this];exact h.mem.1 (Zs _)
def cL.idx{L:Q I}(h:cL L){c:I}(b:c<256):L.idxOf c<256/\L.getD (L.idxOf c) 0=c:=by have d:=h.mem.2 b;have e:=h.len;have a:=Q.idxOf_lt_length_of_mem d;refine⟨Za,?_⟩;rw[YB,Zg a,Q.getElem_idxOf a];rfl
def cL.tC{L:Q I}(h:cL L){p:I}(a:p<256):L.idxOf (L.getD p 0)=p:=by have b:=h.len;have e:L.getD p 0=L[p]:=by{simp[YB,b,a]};have d:=h.idx (h.get a);have c:L[L.idxOf (L.getD p 0)]' Za=L[p]:=Ze;exact(Q.getElem_inj h.nodup).1 c
def de(n:I):Q I:=if _h:n=0 then[]else(n-1)%2::de ((n-1)/2)
termination_by n
decreasing_by omega
def kz:de 0=[]:=by rw[de];simp
def lq{n:I}(h:0<n):de n=(n-1)%2::de ((n-1)/2):=by rw[de,dif_neg Za]
def Dw(n:I):∀d∈de n,d<2:=by induction n using ZU with|ind n b=>(rcases Z5 n with e|e);{rw[e,kz];simp};rw[lq e];intro d a;(rcases List.mem_cons.1 a with h|h);{omega};grind
def fx:List Nat->Nat->List Nat->List Nat×List Nat×Nat
 |L,r,[]=>([],L,r)
 |L,r,c::b=>
  if L.idxOf c=0 then fx (dk L 0) (r+1) b
  else
   let x:=fx (dk L (L.idxOf c)) 0 b
   (de r++(L.idxOf c+1)::x.1,x.2)
def ez(L:Q I)(r:I)(b:Q I):Q I:=(fx L r b).1++de (fx L r b).2.2++[257]
def syms(b:Q I):Q I:=ez (Zr 256) 0 b
def nJ(L:Q I)(r:I):ez L r []=de r++[257]:=by simp[ez,fx]
def l8{L:Q I}{r c:I}{b:Q I}(h:L.idxOf c=0):ez L r (c::b)=ez (dk L 0) (r+1) b:=by unfold ez;rw[fx,X0 h]
def mW{L:Q I}{r c:I}{b:Q I}(h:L.idxOf c≠0):ez L r (c::b)=de r++(L.idxOf c+1)::ez (dk L (L.idxOf c)) 0 b:=by unfold ez;rw[fx,K h];simp
structure DS where
 L:Q I
 left:I
 run:I
 digits:I
def cu(d:DS)(s:I):X7 (DS×Q I×X3):=if s<2 then if d.run+(1+s)*2^d.digits<=d.left then V (⟨d.L,d.left,d.run+(1+s)*2^d.digits,d.digits+1⟩,[],U)else Z else if s=257 then if d.run=d.left then V (⟨d.L,0,0,0⟩,Zh d.run (d.L.getD 0 0),J)else Z else if d.run=d.left then Z else V (⟨dk d.L (s-1),d.left-(d.run+1),0,0⟩,Zh d.run (d.L.getD 0 0)++[d.L.getD (s-1) 0],U)
def k9(d:DS×Q I)(s:I):tT (DS×Q I) (Q I) I:=match cu d.1 s with|none=>.bad 160|some (_,t,true)=>.fin (d.2++t)|some (a,t,false)=>.more (a,d.2++t)
def vZ{d a:DS}{acc t:Q I}{s:I}(h:cu d s=V (a,t,U)):k9 (d,acc) s=.more (a,acc++t):=by unfold k9;rw[h]
def DR{d a:DS}{acc t:Q I}{s:I}(h:cu d s=V (a,t,J)):k9 (d,acc) s=.fin (acc++t):=by unfold k9;rw[h]
def MQ{d:DS}{acc:Q I}{s:I}(h:cu d s=Z):k9 (d,acc) s=.bad 160:=by unfold k9;rw[h]
def Kl(L:Q I)(left:I)(acc a:Q I):∀(n q k:I),q+n*2^k<=left->∃b,run k9 (⟨L,left,q,k⟩,acc) (de n++a)=run k9 (⟨L,left,q+n*2^k,b⟩,acc) a:=by intro n;induction n using ZU with|ind n c=>intro q k d;(rcases Z5 n with e|e);{subst e;exact⟨k,by rw[kz];simp⟩};rw[lq e];have g:(1+(n-1)%2)*2^k+(n-1)/2*2^(k+1)=n*2^k:=by{rw[Z8,Yb (2^k) 2,<-Y0,<-YR];congr 1;omega};obtain⟨b,h⟩:=c ((n-1)/2) Za (q+(1+(n-1)%2)*2^k) (k+1) Za;refine⟨b,?_⟩;have f:cu ⟨L,left,q,k⟩ ((n-1)%2)=V (⟨L,left,q+(1+(n-1)%2)*2^k,k+1⟩,[],U):=by{unfold cu;simp only;rw[X0 Za,X0 Za]};rw[ZL,dF (vZ f),ZG,h];congr 3;omega
def uT{L:Q I}(a:cL L){c:I}(b:c<256)(h:L.idxOf c=0):L.getD 0 0=c/\dk L 0=L:=by have:=(a.idx b).2;rw[h]at this;refine⟨this,?_⟩;unfold dk;cases L with|nil=>have:=a.len;simp at this|cons x L=>rfl
def xz:∀(b L:Q I)(r left:I)(acc a:Q I),cL L->(cd b)->left=r+b.length->run k9 (⟨L,left,0,0⟩,acc) (ez L r b++a)=.fin (acc++Zh r (L.getD 0 0)++b) a|[],L,r,left,acc,a,hL,_,hl=>by{rw[nJ,Zm];obtain⟨e,h⟩:=Kl L left acc ([257]++a) r 0 0 (by simp at hl;omega);rw[h];have f:cu ⟨L,left,0+r*2^0,e⟩ 257=V (⟨L,0,0,0⟩,Zh r (L.getD 0 0),J):=by{unfold cu;simp only[Zi,I.pow_zero,Zy];rw[K Zb,X0 trivial,X0 (by simp at hl;omega)]};show run k9 _ (257::a)=_;rw[qj (DR f)];simp}|c::b,L,r,left,acc,a,hL,hb,hl=>by have g:=hb c ZM;have d:cd b:=λx i=>hb x (ZB _ i);simp only[Zp]at hl;by_cases h0:L.idxOf c=0;{obtain⟨j,k⟩:=uT hL g h0;rw[l8 h0,k,xz b L (r+1) left acc a hL d Za,j,Q.replicate_succ'];simp};obtain⟨l,m⟩:=hL.idx g;rw[mW h0,Zm];obtain⟨e,h⟩:=Kl L left acc ((L.idxOf c+1)::ez (dk L (L.idxOf c)) 0 b++a) r 0 0 Za;rw[h];have f:cu ⟨L,left,0+r*2^0,e⟩ (L.idxOf c+1)=V (⟨dk L (L.idxOf c),left-(r+1),0,0⟩,Zh r (L.getD 0 0)++[c],U):=by{unfold cu;simp only[Zi,I.pow_zero,Zy,I.add_sub_cancel,m];rw[K Za,K Za,K Za]};rw[ZL,dF (vZ f)];rw[xz b (dk L (L.idxOf c)) 0 (left-(r+1)) _ a (hL.take l) d Za];simp
def FU{b:Q I}(c:cd b)(a:Q I):run k9 (⟨Zr 256,b.length,0,0⟩,[]) (syms b++a)=.fin b a:=by unfold syms;rw[xz b _ 0 b.length [] a cL.range c Za];simp
def se:∀(b L:Q I)(r:I),cL L->(cd b)->∀s∈ez L r b,s<=257|[],L,r,_,_=>λs a=>by rw[nJ]at a;(rcases List.mem_append.1 a with h|h);{have:=Dw _ s h;omega};rw[ZE]at h;omega|c::b,L,r,hL,hb=>λs a=>by have e:=hb c ZM;have d:cd b:=λx f=>hb x (ZB _ f);obtain⟨g,_⟩:=hL.idx e;by_cases h0:L.idxOf c=0;{rw[l8 h0]at a;exact se b _ (r+1) (hL.take Zb) d s a};rw[mW h0]at a;(rcases List.mem_append.1 a with h|h);{have:=Dw _ s h;omega};(rcases List.mem_cons.1 h with h|h);{omega};exact se b _ 0 (hL.take g) d s h
def yX{b:Q I}(a:cd b):∀s∈syms b,s<=257:=se b _ 0 cL.range a
end
end Go.Sym
namespace Go.Vc
section
def KU{n:I}{f:I->H}:(fN n f).toList.all aN=J:=by unfold fN;rw[Q.all_map];exact List.all_eq_true.2 λ_ _=>rfl
def Gq{n:I}:fN n (λ_=>0)=⟨Zh n (ni 0)⟩:=by unfold fN;rw[Q.map_const',Yj]
def B5.row{n:I}{f g:I->H}{K:X3->Prop}(a:K (((Zr n).map f)==((Zr n).map g))):B5 .i64 n (fN n f) (fN n g) K:=⟨(Zr n).map f,(Zr n).map g,by simp[fN],by simp[fN],Zd,Zd,a⟩
end
end Go.Vc
namespace Go.Proofs.Q9
section
open Go Go.Vc Go.Inc Go.Sym
abbrev cr(l:Q I):Q G:=l.map λ(n:I)=>Yx .u8 (n:H)
def ik{L:Q I}(h:L.length=256):(cr L).length=256:=by simp[h]
def eu{l:Q I}:(cr l).all aN=J:=by unfold cr;rw[Q.all_map];exact List.all_eq_true.2 λ_ _=>rfl
section
variable{E w:XZ}{F:Q HP}
def adE:Tryz.prog.underlying 24=V (.slice 5):=Zc
def aei:(Tryz.prog.info? 5).map (·.size)=V 1:=Zc
def Rt{K:X4 G->ad}(h:Hp E w F)(g:∀w',Hp E w' F->K ⟨cr (Zr 256)⟩ w'):ah [.arr 256] 276 [] w K:=by refine abJ.ok _ _ ?_;(skip);refine Nw.mk h λj w h=>?_;have b:∀k,k<=256->(cr (Zr k++Zh (256-k) 0)).length=256:=λk f=>by{simp;omega};refine⟨λi w'=>∃k:I,i=(k:H)/\k<=256/\Hp E w' (an j (.cells ⟨cr (Zr k++Zh (256-k) 0)⟩ 172 (0,0))::F),λi _=>256-i.toNat,⟨0,O,Za,by have:(⟨cr (Zr 0++Zh (256-0) 0)⟩:X4 G)=⟨Zh 256 (ao 0)⟩:=by{simp};rw[this];exact h⟩,?_⟩;rintro i w ⟨k,rfl,f,h⟩;(first|refine aa.dm (λa=>?_) (λa=>?_)|refine aa.em (λa=>?_) (λa=>?_)|refine aa.nm (λa=>?_) (λa=>?_)|refine aa.mk (λa=>?_) λa=>?_);{refine⟨Za,Za,?_⟩;rw[show((k:H)).toNat*1=k by omega];(try simp only[aj,Zi]);have f:=b k Za;refine St.xb h (by simp;omega) O λw h=>?_;rw[af Za];refine⟨⟨k+1,O,Za,?_⟩,Za⟩;have e:(⟨cr (Zr k++Zh (256-k) 0)⟩:X4 G).setIfInBounds k (ao (u8 (k:H)))=⟨cr (Zr (k+1)++Zh (256-(k+1)) 0)⟩:=by{rw[gW Za];apply Xw;rw[Yv];have:(cr (Zr k++Zh (256-k) 0)).set k (ao (k:H))=cr ((Zr k++Zh (256-k) 0).set k k):=by{rw[cr,cr,Xz]};rw[this,Wu.set_append_right _ _ Zd,Yj,Y3];obtain⟨m,l⟩:∃m,256-k=m+1:=⟨255-k,Za⟩;rw[l,Wu.replicate_succ,Wu.set_cons_zero,YA,show 256-(k+1)=m by omega];simp};rw[e]at h;exact h};have d:k=256:=Za;subst d;have e:(⟨cr (Zr 256++Zh (256-256) 0)⟩:X4 G)=⟨cr (Zr 256)⟩:=Zd;rw[e]at h;have c:(⟨cr (Zr 256)⟩:X4 G).size=256:=Zd;refine Ld.xw h c (az.q h c c eu λw h=>?_);exact Ld.xw h c (g _ h.tl)
def afF{K:X4 G->ad}(h:Hp E w F)(c:bz E F (K (fN 256 λ_=>1))):ah [.arr 256] 371 [] w K:=by refine VW.ok _ _ ?_;(skip);refine Nw.mk h λd w h=>?_;refine⟨λi w'=>∃k:I,i=(k:H)/\k<=256/\Hp E w' (an d (.cells (fN 256 λj=>if j<k then 1 else 0) 337 (0,0))::F),λi _=>256-i.toNat,⟨0,O,Za,by rw[jX (g:=λ_=>0) λi _=>Zd,Gq];exact h⟩,?_⟩;rintro i w ⟨k,rfl,hk,h⟩;(first|refine aa.dm (λa=>?_) (λa=>?_)|refine aa.em (λa=>?_) (λa=>?_)|refine aa.nm (λa=>?_) (λa=>?_)|refine aa.mk (λa=>?_) λa=>?_);{refine⟨Za,Za,?_⟩;rw[show((k:H)).toNat*1=k by omega];(try simp only[aj,Zi]);refine St.xb h (by rw[fO];omega) O λw h=>?_;rw[af Za];refine⟨⟨k+1,O,Za,?_⟩,Za⟩;rw[uw]at h;rw[jX (g:=λj=>if j<k+1 then 1 else 0) λi _=>by by_cases h1:i=k;{subst h1;simp};{by_cases h2:i<k;{simp[h1,h2];omega};{simp[h1,h2];omega}}]at h;exact h};have b:k=256:=Za;subst b;rw[jX (g:=λ_=>1) λi e=>by simp[e]]at h;refine Ld.xw h fO (az.q h fO fO KU λw h=>?_);exact Ld.xw h fO (c _ h.tl)
def EW{L:Q I}{K:X3->ad}(h:Hp E w F)(d:cL L)(o:bz E F (K J)):aE 332 [.agg ⟨cr L⟩] w K:=by have p:=d.len;have e:cd L:=λx l=>by{simpa using d.mem_iff.1 l};refine SL.ok _ _ _ ?_;(skip);have q:(⟨cr L⟩:X4 G).size=256:=by{simp[p]};refine Nw.mk h λr w h=>Nw.mk h λm w h=>Ld.xw h q ?_;refine⟨λi w'=>∃k:I,i=(k:H)/\k<=256/\Hp E w' (an m (.cells (fN 256 λj=>if j∈L.take k then 1 else 0) 337 (0,0))::an r (.cells ⟨cr L⟩ 172 (0,0))::F),λi _=>256-i.toNat,⟨0,O,Za,by rw[jX (g:=λ_=>0) λi _=>Zd,Gq];exact h⟩,?_⟩;rintro i w ⟨k,rfl,hk,h⟩;(first|refine aa.dm (λb=>?_) (λb=>?_)|refine aa.em (λb=>?_) (λb=>?_)|refine aa.nm (λb=>?_) (λb=>?_)|refine aa.mk (λb=>?_) λb=>?_);{have c:k<L.length:=by{omega};refine fZ.rd (s:=.int .u8) Za Za (L[k]:H) ?_ ?_;{simp[c]};have l:=e _ (Zs c);refine⟨Za,Za,?_⟩;rw[show((L[k]:H)).toNat*1=L[k] by omega];(try simp only[aj,Zi]);refine St.xb h (by rw[fO];omega) O λw h=>?_;rw[af Za];refine⟨⟨k+1,O,Za,?_⟩,Za⟩;rw[uw]at h;rw[jX (g:=λj=>if j∈L.take (k+1)then 1 else 0) λi _=>by have a:i∈L.take (k+1)↔i∈L.take k\/i=L[k]:=by{rw[Zz,Zg c,Xi];exact or_congr Iff.rfl ZE};by_cases h1:i=L[k];{rw[X0 h1,X0 (a.2 (.inr h1))]};{rw[X8 h1];by_cases h2:i∈L.take k;{rw[X0 h2,X0 (a.2 (.inl h2))]};{rw[X8 h2,X8 λt=>(a.1 t).elim h2 h1]}}]at h;exact h};have f:k=256:=Za;subst f;rw[jX (g:=λ_=>1) λi u=>by rw[Zt Za,X0];exact d.mem_iff.2 (by simpa using u)]at h;have h:=h.drew (n:=w.drawn+1);refine⟨cf m _ _ _,h.hb,?_⟩;refine aM.xw (λ_ h=>h) fO (afF h λw h=>⟨h.hb,?_⟩);refine B5.row ?_;rw[beq_self_eq_true];exact o _ h.tl
def TU{L:Q I}{p:I}(b:L.length=256)(d:p<256):((cr L).take 1++((cr (L.take p)).take p++(cr L).drop (1+WD (cr (L.take p)).length p))).set 0 (ao (L.getD p 0:H))=cr (dk L p):=by have c:(cr (L.take p)).length=p:=by{simp;omega};rw[c,I.min_self,Zt (l:=cr (L.take p)) Za,XV 1 p];unfold dk;rw[Q.eraseIdx_eq_take_drop_succ];cases L with|nil=>simp at b|cons a L=>simp[cr,Q.map_take,Q.map_drop]
theorem NA{L:Q I}{p:I}{K:X4 G->H->X3->ad}(h:Hp E w F)(c:L.length=256)(g:p<256)(j:∀w',Hp E w' F->K ⟨cr (dk L p)⟩ (L.getD p 0:H) J w'):ah [.arr 256,aC .u8,kB] 334 [.agg ⟨cr L⟩,ni (p:H)] w K:=by refine V7.ok _ _ _ _ ?_;(skip);have d:(⟨cr L⟩:X4 G).size=256:=by{simp[c]};have k:(⟨Zh 256 (ao 0)⟩:X4 G).size=256:=Zd;have l:p<L.length:=Za;refine Nw.mk h λf w h=>Nw.mk h λn w h=>?_;(with_reducible repeat first|refine aP.mk h λw h=>?_|refine aa.no ?_);refine Ld.xw h d (⟨Za,Za,?_⟩);rw[show((p:H)).toNat*1=p by omega];(try simp only[aj,Zi]);refine Ld.xb (x:=(L.getD p 0:H)) h ?_ ?_;{grind};refine az.q h k d eu λw h=>aP.mk h λw h=>?_;rw[af Za];refine⟨Za,Za,Za,Zd,?_⟩;rw[X8 Zd,show(1:H).toNat*1=1 by decide,show((p:H)+1).toNat-(1:H).toNat=p by omega,show(256:H).toNat-(1:H).toNat=255 by decide];refine⟨Za,Za,Za,Zd,?_⟩;rw[X8 Zb,show(0:H).toNat*1=0 by decide,show((p:H)).toNat-(0:H).toNat=p by omega,show(256:H).toNat-(0:H).toNat=256 by decide];simp only[YD,aj,Zi];have a:aO 1 ⟨V ⟨f,0,Z⟩,p,256⟩ (cr (L.take p)) w:=by{refine⟨by simp;omega,λi m=>⟨⟨f,0,Z⟩,O,?_⟩⟩;rw[aj,h.fc];simp at m⊢;simp[show i<L.length by omega]};refine o0 (ys:=cr (L.take p)) adE aei h a (List.all_eq_true.1 eu) Ze λw h=>?_;refine⟨Za,Za,?_⟩;rw[show((0:H)).toNat*1=0 by decide];(try simp only[aj,Zq]);refine St.xb h (by simp;omega) O λw h=>?_;have e:(⟨(⟨cr L⟩:X4 G).toList.take 1++((cr (L.take p)).take p++(⟨cr L⟩:X4 G).toList.drop (1+WD (cr (L.take p)).length p))⟩:X4 G).setIfInBounds 0 (ao (L.getD p 0:H))=⟨cr (dk L p)⟩:=by{apply Xw;rw[Yv];exact TU c g};rw[e]at h;have b:(⟨cr (dk L p)⟩:X4 G).size=256:=Ze;refine Ld.xw h b (az.q h b b eu λw h=>?_);exact Ld.xw h b (j _ h.tl)
theorem aeb{n a d:I}{K:H->H->ad}(h:n<=65536)(c:a<=16)(i:d<=1)(j:K ((n+(1+d)*2^a:I):H) 0 w):ah [kI,kI] 352 [ni (n:H),ni (a:H),ni (d:H)] w K:=by have e:2^a<=65536:=ZF (n:=2) Zb c;have f:=Yd a;have l:(1+d)*2^a<=131072:=by{have:=Xy (show 1+d<=2 by omega) e;omega};refine KT.ok _ _ _ _ _ ?_;have b:0<=(a:H)/\aa (Wb (i64 ((n:H)+bT .i64 (i64 (1+(d:H))) (a:H))>2147483647)) (K 0 2 w) (K (i64 ((n:H)+bT .i64 (i64 (1+(d:H))) (a:H))) 0 w):=by{refine⟨Za,?_⟩;have g:YJ .i64=9223372036854775807:=O;rw[af (x:=1+(d:H)) Za,show 1+(d:H)=((1+d:I):H) by omega,dZ (k:=.i64) (by have:Wl.bits .i64=64:=O;omega) Ze,af Za];exact aa.df Za Ze};(try simp only[bK]);refine aa.df Za (aa.df Za (aa.df Za (aa.df Za ?_)));by_cases h0:d=0;{exact aa.nf Za b};exact aa.nt Za (aa.nf Za b)
end
end
end Go.Proofs.Q9
namespace Go.Vc
section
open Go
def nj(b:I)(w:XZ):I:=match w.cell? ⟨b,0,Z⟩with|some (.int _ v)=>v.toNat|_=>0
def nR{E w:XZ}{l:Q HP}{b:I}{c:X4 G}{t:Wa}{d:I×I}{a:Obj->Q HP}[cF b l c t d a]{k:Wl}{v:H}(h:Hp E w l)(e:c[0]?=V (.int k v)):nj b w=v.toNat:=by unfold nj;rw[h.fc,e]
end
end Go.Vc
namespace Go.Proofs.Q9
section
open Go Go.Vc
section
variable{E w:XZ}{F:Q HP}
abbrev bI(b:I)(n:I):HP:=bq b [ni (n:H)] 3
abbrev yJ(s:Sl):G:=ak s
abbrev jR(b:I)(xs:Q I):HP:=Ah (λ(_:Sl)=>True) λs=>[bq b [yJ s] 25,av 1 s ((ints xs).map vI)]
def jR.shut{b:I}{s:Sl}{xs:Q I}(h:Hp E w (bq b [yJ s] 25::av 1 s ((ints xs).map vI)::F)):Hp E w (jR b xs::F):=Hp.uY s trivial h
def jR.put{b d:I}{s:Sl}{xs:Q I}{x:I}{i:Wa}{l:Q HP}{K:ad}(h:Hp E w (l++bq d [ni (x:H)] i::bq b [yJ s] 25::av 1 s ((ints xs).map vI)::F))(m:xs.length<=1000000)(j:bz E (jR b (xs++[x])::F) K):aG Zj (ZD #[25,25] 25 ⟨[yJ s,cE d 1]⟩) kS w λe a=>St (⟨b,0,Z⟩:Wg) (yJ e) a λc=>K c:=by have h:=h.rO;have f:=(h.at 2).br;simp only[ints,Zn,Zy]at f;refine bu (ys:=[vI (x:H)]) (n:=1) jx Zb (.inl ⟨3,Zc⟩) (h.at 2) (.inl ⟨V ⟨d,0,Z⟩,1,1,O,O,h.aq (ae.aH O O)⟩) O (by intro y g;rw[ZE]at g;rw[g];rfl) Za Za λk w' h _=>?_;refine St.xs h O O λw h=>j w ?_;have h:=(h.no 1).p1;refine jR.shut (s:=k) ?_;rw[show(ints (xs++[x])).map vI=(ints xs).map vI++[vI (x:H)] by simp[ints]];exact h
theorem LA{s:Sl}{b:Q I}(c:aO 1 s (b.map vB) w):(Extern.Bytes.bytesOf (.slice s.base s.len s.cap)).run Zj w=.ok (strOf b) w:=by have e:=c.1;simp only[Zn,Zy]at e;cases hb:s.base with|none=>have:b=[]:=by{cases b with|nil=>rfl|cons x b=>obtain⟨p,f,_⟩:=c.2 0 Zd;rw[hb]at f;cases f};subst this;rfl|some p=>have:=Lib.run_loadBytesX (P:=Zj) w (b.map λ(x:I)=>(x:H)) p .empty (λj x a=>by rw[ZR]at a;cases hj:b[j]? with|none=>(rw[hj]at a;cases a)|some y=>rw[hj]at a;obtain rfl:=Xu a;obtain⟨h,d⟩:=List.getElem?_eq_some_iff.1 hj;obtain⟨q,g,i⟩:=c.2 j Ze;rw[hb]at g;obtain rfl:=Xu g;rw[i];simp[vB,d]);rw[Zn,e]at this;show(Extern.Bytes.loadBytes p s.len .empty).run Zj w=_;rw[this];congr 1;unfold strOf strOfNums Lib.bytesOf;simp[Wc.empty,Wc.emptyWithCapacity];try rfl
end
end
section
open Go Go.Vc Go.Inc Go.Sym
section
variable{E w:XZ}{F:Q HP}
theorem agA {L:List Nat} {s:Sl} {c:Nat} {K:Int->ad} (hL:cL L) (hc:c<256) (hs:aO 1 s (L.map vB) w) (hK:K (L.idxOf c:Int) w):
  Ext Tryz.prog 372 ⟨[ak s,ao (c:Int)]⟩ [kI] w K:=by
 have hi:=hL.idx hc
 have hll:=hL.len
 have hsz:(strOf L).size=256:=by
  have:=congrArg List.length (cA L)
  rw [List.length_map,hll] at this
  simpa using this
 have hget: ∀i,i<256->(strOf L)[i]! =UInt8.ofNat (L.getD i 0):=fun i h=>by
  have h1:=cA L
  have h2:(strOf L).data.toList[i]? =some (UInt8.ofNat (L.getD i 0)):=by grind
  have h3:i<(strOf L).size:=by omega
  rw [getElem!_pos (strOf L) i h3]
  rw [Array.getElem?_toList] at h2
  have h4:i<(strOf L).data.size:=h3
  rw [Array.getElem?_eq_getElem h4] at h2
  exact Option.some.inj h2
 have hf:(List.range (strOf L).size).find? (fun i=>(strOf L)[i]! ==UInt8.ofNat c)=some (L.idxOf c):=by
  rw [hsz,List.find?_range_eq_some]
  refine ⟨?_,List.mem_range.2 hi.1,fun j hj=> ?_⟩
  ·grind
  ·rw [hget j (by omega)]
   have hjl:=hL.get (p:=j) (by omega)
   have hne:L.getD j 0≠c:=fun e=>by
    have:=hL.tC (p:=j) (by omega)
    rw [e] at this;omega
   simp only [Bool.not_eq_true',beq_eq_false_iff_ne,ne_eq]
   intro e
   have:=congrArg UInt8.toNat e
   simp only [UInt8.toNat_ofNat'] at this
   omega
 have hr:(Extern.BytealgIndexByte.indexByte #[ak s,ao (c:Int)]).run Tryz.prog w= .ok (ni (L.idxOf c:Int)) w:=by
  show Sem.run _ (do
   let x<-Extern.Bytes.bytesOf (ak s)
   let y<-Extern.Bytes.asByte (ao (c:Int))
   match (List.range x.size).find? fun i=>x[i]! ==y with
   |some i=>pure (goInt i)
   |none=>pure (goInt (-1))) w=_
  have hb:(Extern.Bytes.asByte (ao (c:Int))).run Tryz.prog w= .ok (UInt8.ofNat c) w:=rfl
  simp only [Sem.run_bind,LA hs,hb,Result.andThen_ok]
  rw [hf]
  rfl
 have hx:(callFunc 372 #[ak s,ao (c:Int)]).run Tryz.prog w= .ok (.value (ni (L.idxOf c:Int))) w:=by
  rw [run_callFunc_extern Tryz.func372 (by kernel_rfl) (by kernel_rfl) (by kernel_rfl) (e:=Extern.BytealgIndexByte.indexByte) (by kernel_rfl),hr];rfl
 unfold Ext
 rw [show (⟨[ak s,ao (c:Int)]⟩:Array Value)= #[ak s,ao (c:Int)] from rfl,hx]
 exact hK
def ae9{L:Q I}{c:I}{K:X4 G->H->ad}(h:Hp E w F)(b:cL L)(e:c<256)(g:∀w',Hp E w' F->K ⟨cr (dk L (L.idxOf c))⟩ (L.idxOf c:H) w'):ah [.arr 256,kI] 274 [.agg ⟨cr L⟩,ao (c:H)] w K:=by refine abG.ok _ _ _ _ ?_;have d:=b.len;have f:=b.idx e;have i:(⟨cr L⟩:X4 G).size=256:=by{simp[d]};have j:(⟨Zh 256 (ao 0)⟩:X4 G).size=256:=Zd;have a:(⟨cr (dk L (L.idxOf c))⟩:X4 G).size=256:=by{simp[(b.take f.1).len]};refine Nw.mk h λk w h=>Nw.mk h λl w h=>cG.whole Zb O O ?_;refine BV.ok _ _ _ _ (agA b e (s:=(jD k 256)) (h.aq (ae.cons (ae.aH (n:=256) (m:=256) (sz:=1) O (by simp[d])))) ?_);refine Ld.xw h i (NA h d f.1 λw h=>?_);refine az.q h j a eu λw h=>Ld.xw h a (az.q h a a eu λw h=>Ld.xw h a (g w h.tl))
theorem Oj{n b:I}(q:n<=2147483647):wc Zj E (.func (.func 373) ⟨[]⟩ ⟨[bX b]⟩) (de n).length (λi=>[Ki.enc kI (((de n).getD i 0:I):H)]) [bI b n] (λ_=>True):=by intro r C G w K L s h u j;refine rQ.mk Zc (Et.ok r ⟨b,0,Z⟩ K w ?_);refine⟨λw=>∃k m:I,m<=2147483647/\(de n).drop k=de m/\k<=(de n).length/\Hp E w (bI b m::C k),λw=>nj b w,⟨0,n,q,O,Ya _,h⟩,?_⟩;rintro w ⟨k,m,M,d,N,h⟩;refine Ld.xb h O (aa.dm (λa=>?_) λx=>?_);{have c:0<m:=by{omega};rw[lq c]at d;have a:k<(de n).length:=by{grind};have y:(de n).getD k 0=(m-1)%2:=by{rw[Zu a]at d;injection d with e _;rw[Zl,Zg a,YE,e]};have l:(de n).drop (k+1)=de ((m-1)/2):=by{rw[<-Ys,d];rfl};refine Ld.xb h O ?_;have z:YJ .i64=9223372036854775807:=O;have o:i64 ((m:H)-1)=((m-1:I):H):=by{rw[af Za];omega};have A:cU .i64 ((m-1:I):H) 1=(((m-1)%2:I):H):=by{rw[show(1:H)=((1:I):H)from O,gH Za Za,I.and_one_is_mod]};have B:ba .i64 ((m-1:I):H) 1=(((m-1)/2:I):H):=by{rw[show(1:H)=((1:I):H)from O,db Zb]};rw[o,A];have D:[Yx .i64 (((m-1)%2:I):H)]=[Ki.enc kI (((de n).getD k 0:I):H)]:=by{rw[y]};rw[D];refine s k a [bI b m] w _ (h.perm (ZV (l₁:=[bI b m]))) (λw h=>?_) λw h=>?_;{have h:Hp E w (bI b m::C (k+1)):=h.perm (ZV (l₂:=[bI b m]));refine aa.f O (Ld.xb h O ⟨Zb,?_⟩);rw[o,B];refine St.xb h Zd O λp g=>?_;have g:Hp E p (bI b ((m-1)/2)::C (k+1)):=g;refine⟨O,⟨k+1,(m-1)/2,Za,l,Za,g⟩,?_⟩;show nj b p<nj b _;rw[nR (v:=(((m-1)/2:I):H)) g O,nR (v:=(m:H)) (by assumption) O];omega};exact aa.t O (j k w a (h.perm (ZV (l₂:=[bI b m]))).drop)};have c:m=0:=Za;subst c;rw[kz]at d;have:k=(de n).length:=by{have:=Wn Yo d;rw[ZA,ZP]at this;omega};subst this;exact u w h.drop
theorem Qv{n:I}{K:Sl->H->ad}(h:Hp E w F)(g:n<=2147483647)(q:(de n).length<=1000000)(j:∀s w',Hp E w' (av 1 s ((ints (de n)).map vI)::F)->K s 0 w'):ah [kS,kI] 275 [ni (n:H)] w K:=by refine EP.ok _ _ _ ?_;refine Nw.mk h λa w h=>aa.df Za (aa.df Za ?_);refine Kk.ok _ _ _ ?_;refine Nw.mk h λb w h=>?_;have m:Hp E w (jR a []::bI b n::F):=jR.shut (s:=⟨Z,0,0⟩) ((h.bm 1).at 2);refine iP.V1 (E:=E) (k:=kI) (x:=λi=>(((de n).getD i 0:I):H)) (n:=(de n).length) (λi=>jR a ((de n).take i)::F) (λ_=>[DA]) (A:=[bI b n]) m.p1 (λ_=>ae.const trivial) (Oj g) ?_ ?_ ?_;{intro o c i A w r t d h f _;refine qQ.mk h λw h=>?_;obtain⟨s,_,h⟩:=(h.p1).ex;have h:Hp E w (bq a [yJ s] 25::av 1 s ((ints ((de n).take i)).map vI)::an o (c 1)::(F++A)):=h;refine Ld.xb (x:=s) h O (Nw.mk h λp w h=>?_);refine jR.put (l:=[]) h Ze λw h=>me.mk h.p1 λw h=>f w ?_;have e:(de n).take i++[(de n).getD i 0]=(de n).take (i+1):=by{rw[Zz,Zg d,Zl,Zg d];rfl};rw[e]at h;exact h};{intro D w h;rw[Zt (Zw _)]at h;obtain⟨s,_,h⟩:=(h.p1).ex;have h:Hp E w (bq a [yJ s] 25::av 1 s ((ints (de n)).map vI)::an D (.deferred (V []))::F):=h;refine Ld.xb (x:=s) h O (St.xs h O O λw h=>?_);dsimp only[bJ,over]at h;refine jm.z6 (h.at 2) λw h=>Ld.xb (x:=s) h O (j s w h.drop)};intro i D w d h;exact(Hp.Kx h).elim
end
end
end Go.Proofs.Q9
namespace Go.Vc
section
open Go
section
variable{E w:XZ}{F:Q HP}
def FR{P:X6}{t e:Wa}{n:I}{k:Wl}{g:TypeInfo}(j:P.underlying t=V (.array n e))(c:P.underlying e=V (.int k))(h:P.info? e=V g)(l:g.size=1){a b:Q H}(f:a.length=n)(i:b.length=n)(D:I)(m:2<=D)(w:XZ):(Yt D t (.agg ⟨a.map (.int k)⟩) (.agg ⟨b.map (.int k)⟩)).run P w=.ok (a==b) w:=by obtain⟨D,rfl⟩:∃d,D=d+1+1:=⟨D-2,Za⟩;rw[run_equalIn_array w (D+1) _ _ j h,qY h,l,<-f,l9 c (f.trans i.symm) _ Zd,all_eq (f.trans i.symm)]
def pH{P:X6}{t:Wa}{it:TypeInfo}{b:Q G}{a:I}{K:X7 G->Prop}(c:j7 P t=V J)(d:P.info? t=V it)(h:K (V (.agg ⟨(b.drop a).take it.size⟩))):iD P t b a K:=by unfold iD;rw[c,d];exact h
def gq{P:X6}{t:Wa}{it:TypeInfo}{b:Q G}{a:I}{v:G}{K:X7 G->Prop}(c:j7 P t=V U)(d:P.info? t=V it)(e:b[a]?=V v)(h:K (V v)):iD P t b a K:=by unfold iD;rw[c,d,e];exact h
end
end
end Go.Vc
namespace Go.Proofs.Q9
section
open Go Go.Vc
def MY:∃a,Tryz.prog.info? 3=V a:=by have:(Tryz.prog.info? 3).isSome=J:=Zc;exact Option.isSome_iff_exists.1 this
def acG:∃a,Tryz.prog.info? 166=V a/\a.size=258:=by have h:(Tryz.prog.info? 166).map (·.size)=V 258:=Zc;obtain⟨a,b,c⟩:=Option.map_eq_some_iff.1 h;exact⟨a,b,c⟩
def Qk:∃a,Tryz.prog.info? 5=V a/\a.size=1:=by have h:(Tryz.prog.info? 5).map (·.size)=V 1:=Zc;obtain⟨a,b,c⟩:=Option.map_eq_some_iff.1 h;exact⟨a,b,c⟩
def aeY:Tryz.prog.underlying 166=V (.array 258 5):=Zc
def abe:Tryz.prog.underlying 5=V (.int .u8):=Zc
def Sr:Tryz.prog.underlying 3=V (.int .i64):=Zc
end
end Go.Proofs.Q9
namespace Go.Vc
section
open Go
def qL{P:X6}{E w:XZ}{F:Q HP}{t e:Wa}{C:X4 G}{b n c:I}{K:Sl->ad}(j:P.underlying t=V (.slice e))(k:P.underlying e=V (.int .u8))(h:Hp E w (an b (.cells C e (0,0))::F))(l:∀w',Hp E w' (an b (.cells C e (C.size,C.size+1))::F)->K ⟨V ⟨b,0,Z⟩,n,c⟩ w'):aG P (Wy t t (.slice (V ⟨b,0,Z⟩) n c)) kS w K:=by have a:=h.aH;have d:b<w.heap.size:=Ze;have f:w.shape? b=V (e,C.size):=by{unfold XZ.shape?;rw[a]};have g:(Wy t t (.slice (V ⟨b,0,Z⟩) n c)).run P w=.ok (.slice (V ⟨b,0,Z⟩) n c) (w.freeze ⟨b,C.size,Z⟩ 1):=by{simp[Wy,Wf j,Wf k,markStringish,f]};unfold aG;rw[g];refine l _ (h.setObj ?_ O O O);unfold XZ.freeze;rw[X8 Zb];have m:w.heap[b]=.cells C e (0,0):=by{rw[X4.getElem?_eq_getElem d]at a;exact Xu a};apply X4.ext_getElem?;intro i;rw[X4.set!_eq_setIfInBounds];by_cases hi:b=i;{grind};grind
section
variable{E w:XZ}{F:Q HP}{sz:I}{s:Sl}{xs ys:Q G}
def Hp.iV{A:HP}{l F:Q HP}[a:nD l F](h:Hp E w (A::l)):Hp E w (A::F):=by obtain⟨p,e⟩:=a.sub;subst e;exact(h.perm List.perm_middle.symm).rO
def Hp.agY{A B:HP}{l F:Q HP}[a:nD l F](h:Hp E w (A::B::l)):Hp E w (A::B::F):=by obtain⟨p,e⟩:=a.sub;subst e;exact(h.perm ((Xp A List.perm_middle.symm).trans List.perm_middle.symm)).rO
theorem wD{P:X6}{t p W e:Wa}{a n:I}{x:G}{K:Sl->ad}(X:cR P t e sz a)(hx:(∃Y,P.underlying p=V (.slice Y))\/P.underlying p=V .string)(r:Hp E w F)(k:ae F (aO sz s xs))(hfit:s.cap<s.len+n)(hs:ae F (Src sz n x ys))(l:ys.length=n*sz)(hb:(2*(s.len+n)+1024)*a<=2^48)(hb2:s.len+n<2^62)(h:∀u w',Hp E w' (av sz u (xs++ys)::F)->u.len=s.len+n->K u w'):aG P (ZD #[t,p] W ⟨[ak s,x]⟩) kS w K:=by obtain⟨q,z,v,y,A,B,C⟩:=X.info;obtain⟨hs1,D⟩:=(r.aq hs).run (P:=P);have b:xs.length=s.len*sz:=(r.aq k).1;have L:(sizeOf e).run P w=.ok sz w:=by{rw[dQ v,y]};have d:(xs++ys).length=(s.len+n)*sz:=by{rw[Zf,b,l,YR]};have f:¬XO (s.len+n) s.cap*q.bytes>2^48:=by{have:=Ew (n:=s.len+n) (c:=s.cap) Za;have h2:XO (s.len+n) s.cap*q.bytes<=(2*(s.len+n)+1024)*a:=by{rw[A];exact ZQ _ this};omega};have g:¬s.len+n<=s.cap:=Za;generalize hq:Question.cut (.appendCap (s.len+n) s.cap e) (w.tape w.drawn (.appendCap (s.len+n) s.cap e))=newCap;have M:s.len+n<=newCap:=by{rw[<-hq];exact I.le_add_right _ _};have N:Hp E w.drew F:=r.drew (n:=w.drawn+1);have i:(Wq.firstCells sz s.len (ak s)).run P w.drew=.ok xs.toArray w.drew:=by{have:Src sz s.len (ak s) xs w.drew:=.inl ⟨s.base,s.len,s.cap,O,O,N.aq k⟩;exact(this.run (P:=P)).1};have m:(Wq.firstCells sz n x).run P w.drew=.ok ys.toArray w.drew:=((N.aq hs).run (P:=P)).1;have hA:=N.alloc (.cells (xs.toArray++ys.toArray++XA z.cells (newCap-(s.len+n))) e);have R:∀w:XZ,(Wv e).run P w=.ok z w:=by{intro w;simp[Wv,typeInfo,v,B]};have S:∀w:XZ,(typeInfo e).run P w=.ok q w:=by{intro w;simp[typeInfo,v]};have j:¬(9223372036854775807<(s.len:H)+(n:H)/\q.bytes=0):=Za;have T:Question.forced (.appendCap (s.len+n) s.cap e)=U:=O;have o:(ZD #[t,p] W ⟨[ak s,x]⟩).run P w=.ok (.slice (V ⟨w.heap.size,0,Z⟩) (s.len+n) newCap) (w.drew.alloc (.cells (xs.toArray++ys.toArray++XA z.cells (newCap-(s.len+n))) e)):=by{(rcases hx with⟨Y,hd⟩|hd<;>simp[ZD,Wf X.und,L,Wf hd,D,g,j,S,f,T,hq,i,m,R,newRow]);all_goals rw[<-X4.append_assoc,show xs.toArray++ys.toArray=(xs++ys).toArray by simp]};unfold aG;rw[o];refine h ⟨V ⟨w.heap.size,0,Z⟩,s.len+n,newCap⟩ _ (Hp.mF hA d O M ?_ ?_) O;{simp only[X4.size_append,Q.size_toArray,nZ,C,b,l];have:newCap*sz=(s.len+n)*sz+(newCap-(s.len+n))*sz:=by{rw[<-YR];congr 1;omega};rw[this,YR];omega};grind
end
end
end Go.Vc
namespace Go.Proofs.Q9
section
open Go Go.Vc
section
variable{E w:XZ}{F:Q HP}
set_option maxRecDepth 200000 in
def VT{C:X4 G}{b n c:I}{K:Sl->ad}(h:Hp E w (an b (.cells C 5 (0,0))::F))(a:∀w',Hp E w' (an b (.cells C 5 (C.size,C.size+1))::F)->K ⟨V ⟨b,0,Z⟩,n,c⟩ w'):aG Zj (Wy 24 24 (.slice (V ⟨b,0,Z⟩) n c)) kS w K:=qL Zc Zc h a
end
end
end Go.Proofs.Q9
namespace Go.Sym
section
def CF(n:I):(de n).length<=n:=by induction n using ZU with|ind n a=>(rcases Z5 n with h|h);{rw[h,kz];exact Zw _};rw[lq h,Zp];have:=a ((n-1)/2) Za;omega
end
end Go.Sym
namespace Go.Proofs.Q9
section
open Go Go.Vc Go.Inc Go.Sym
abbrev nO(L:Q I)(r:H):X4 G:=⟨cr L++[ni r]⟩
def qA{L:Q I}{r:H}(h:L.length=256):(nO L r).size=257:=by simp[h]
def ur{L:Q I}{r:H}:(nO L r).toList.all aN=J:=by unfold nO;rw[Q.all_append,eu];rfl
section
variable{E w:XZ}{F:Q HP}
def aar:(Tryz.prog.fieldsOf 290).toList.map (λf=>(f.name== "_",f.type,f.offset))=[(U,172,0),(U,3,256)]:=Zc
def agI:Tryz.prog.underlying 290=V (.struct (Tryz.prog.fieldsOf 290)):=Zc
def ab8:∃a,Tryz.prog.info? 172=V a/\a.size=256:=by have h:(Tryz.prog.info? 172).map (·.size)=V 256:=Zc;obtain⟨a,b,c⟩:=Option.map_eq_some_iff.1 h;exact⟨a,b,c⟩
def adT:Tryz.prog.underlying 172=V (.array 256 5):=Zc
theorem xu.es{L m:Q I}{r l:H}{K:X3->Prop}(g:L.length=256)(n:m.length=256)(B:∀b,K b):xu Zj 290 (nO L r) (nO m l) K:=by obtain⟨it,i⟩:=MY;obtain⟨z,j,o⟩:=ab8;obtain⟨M,p,q⟩:=Qk;obtain⟨e,f,s,a,c⟩:∃e f,(Tryz.prog.fieldsOf 290).toList=[e,f]/\(e.name== "_",e.type,e.offset)=(U,172,0)/\(f.name== "_",f.type,f.offset)=(U,3,256):=by{have h:=aar;generalize(Tryz.prog.fieldsOf 290).toList=fs at h;match fs,h with|[],h=>simp at h|[_],h=>simp at h|_::_::_::_,h=>simp at h|[e,f],h=>simp only[ZX,YL,Q.cons.injEq,and_true]at h;exact⟨e,f,rfl,h.1,h.2⟩};simp only[Xn]at a c;have A:∀{L:Q I}{r:H},L.length=256->(((nO L r).toList.drop 0).take 256)=(L.map λ(x:I)=>(x:H)).map (.int .u8):=λ{L r} g=>by{unfold nO;rw[Yr,Q.take_append_of_le_length (by simp[g]),Zt (by simp[g]),YF];rfl};have N:∀{L:Q I}{r:H},L.length=256->(nO L r)[256]?=V (ni r):=λ{L r} g=>Ze;obtain⟨b,C,u⟩:=mU (P:=Zj) (d:=9) (rec:=λt x y K=>∃b,(∀D,9<=D->∀w,(Yt D t x y).run Zj w=.ok b w)/\K b) (λt x y K h=>h) (xs:=nO L r) (ys:=nO m l) (fs:=[e,f]) (K:=K) (by unfold mg;rw[a.1];refine pH (it:=z) (by rw[a.2.1];kernel_rfl) (by rw[a.2.1];exact j) (pH (it:=z) (by rw[a.2.1];kernel_rfl) (by rw[a.2.1];exact j) ?_);rw[a.2.2,o,a.2.1,A g,A n];refine⟨_,λD G w=>FR adT abe p q Ze Ze D Za w,?_⟩;unfold mg;rw[c.1];refine gq (it:=it) (v:=ni r) (by rw[c.2.1];kernel_rfl) (by rw[c.2.1];exact i) Ze (gq (it:=it) (v:=ni l) (by rw[c.2.1];kernel_rfl) (by rw[c.2.1];exact i) Ze ?_);rw[c.2.1];exact⟨r==l,λD G w=>by obtain⟨D,rfl⟩:∃k,D=k+1:=⟨D-1,Za⟩;exact run_equalIn_int w D _ _ _ _ _ Sr,B _⟩);refine⟨b,λw=>?_,u⟩;rw[run_equalIn_struct w 9999 _ _ _ agI Zc,s];exact C 9999 Zb w
abbrev esP:I->X7 (I×I):=(#[(0,256),(256,1)][·]?)
def aaa(a:Q (I×G)):Tryz.prog.built 290 a=YM esP ⟨Zh 256 (ao 0)++[ni 0]⟩ a:=Zc
def cZ.es{L:Q I}{K:X4 G->Prop}(a:L.length=256)(b:K (nO L 0)):cZ Zj 290 [(0,.agg ⟨cr L⟩)] K:=by refine⟨_,?_,b⟩;rw[aaa];have:=kC (place:=esP) (i:=0) (v:=.agg ⟨cr L⟩) (rest:=[]) (pre:=[]) (bB:=Zh 256 (ao 0)) (post:=[ni 0]) O O ZO (by show(⟨cr L⟩:X4 G).size=_;simp[a]);exact this
abbrev esZ:X4 G:=⟨Zh 256 (Yx .u8 0)++[Yx .i64 0]⟩
def Tw:(⟨Zh 256 (ao 0)++[ni 0]⟩:X4 G).size=257:=Zd
def ML{K:X4 G->ad}(h:Hp E w F)(b:bz E F (K (nO (Zr 256) 0))):ah [.arr 257] 200 [] w K:=by refine OX.ok _ _ (Nw.mk h λc w h=>Rt h λw h=>cZ.es Zd ?_);have a:(nO (Zr 256) 0).size=257:=qA Zd;refine az.q h Tw a ur λw h=>Ld.xw h a (b _ h.tl)
def Gm{L:Q I}{r:I}{K:X3->ad}(h:Hp E w F)(c:cL L)(f:r<=2147483647)(d:bz E F (K J)):aE 273 [.agg (nO L (r:H))] w K:=by refine Hr.ok _ _ _ ?_;have a:=ik c.len;refine Nw.mk h λe w h=>?_;have h:=h.drew (n:=w.drawn+1);refine⟨cf e _ _ _,h.hb,?_⟩;refine aM.qw (λ_ h=>h) a O (ML h λw h=>⟨h.hb,?_⟩);refine xu.es c.len Zd λb=>?_;refine aa.mk (λ_=>d _ h.tl) λ_=>?_;(try simp only[aj,Zi,Zq]);refine aM.q (λ_ h=>h) a O O (aa.dt Za ?_);refine aM.q (λ_ h=>h) a O O (aa.dt Za ?_);refine aM.p (λ_ h=>h) a (EW h c λw h=>⟨h.hb,d _ h.tl⟩)
theorem UE{L:Q I}{r:I}{s:Sl}{b:Q I}{K:X4 G->Sl->H->ad}(h:Hp E w F)(t:cL L)(B:ae F (aO 1 s (b.map vB)))(T:cd b)(hr:r+b.length<=1000000)(u:∀C w',Hp E w' (av 1 C ((ints (fx L r b).1).map vI)::F)->cL (fx L r b).2.1->(fx L r b).2.2<=1000000->K (nO (fx L r b).2.1 ((fx L r b).2.2:H)) C 0 w'):ah [.arr 257,kS,kI] 199 [.agg (nO L (r:H)),ak s] w K:=by refine L0.ok _ _ _ _ ?_;have l:=ik t.len;have D:b.length=s.len:=by{have:=(h.aq B).1;simpa using this};(try simp only[bK,aj,Zi,Zq]);refine Nw.mk h λM w h=>Nw.mk h λW w h=>Ld.qw h l O (Gm h t Za λw h=>?_);(with_reducible refine aa.Ct ?_);refine Ld.q h l O O ?_;rw[af Za];refine aa.df Za ?_;refine⟨λo i w=>∃(k:I)(e:Q I)(d:I)(a:Q I),i=(k:H)/\k<=b.length/\cL e/\a.length+d<=r+k/\fx L r b=(a++(fx e d (b.drop k)).1,(fx e d (b.drop k)).2)/\Hp E w (av 1 o ((ints a).map vI)::an W (.cells esZ 290 (0,0))::an M (.cells (nO e (d:H)) 290 (0,0))::F),λ_ i _=>b.length-i.toNat,⟨0,L,r,[],O,Za,t,Zd,Zd,h.bm 1⟩,?_⟩;rintro o i w ⟨k,e,d,a,rfl,hk,hL',hlo,he,h⟩;have f:=ik hL'.len;refine aa.dm (λj=>?_) λX=>?_;{have j:k<b.length:=by{omega};have N:=T _ (Zs j);have P:=hL'.idx N;refine aB.rd ((h.tl:Hp E w F).aq B) Za Za λq _ Y=>?_;refine Ld.sc (s:=.int .u8) (b[k]:H) (by rw[Y];simp[Sc.enc,vB]) ?_;refine Ld.p h f (ae9 h hL' N λw h=>?_);have hm:(⟨cr (dk e (e.idxOf b[k]))⟩:X4 G).size=256:=by{simp[(hL'.take P.1).len]};have g:=hL'.take P.1;have c:=ik g.len;refine az.xm (pre:=[]) (bB:=cr e) (post:=[ni (d:H)]) h O O f hm (λv hv=>List.all_eq_true.1 eu v hv) λw h=>?_;rw[Zu j]at he;rw[af (x:=(k:H)+1) Za];by_cases h0:e.idxOf b[k]=0;{rw[fx,X0 h0]at he;rw[h0]at h g c⊢;refine aa.et O (Ld.q h c O O ?_);rw[af Za];refine St.q h c O O O λw h=>?_;rw[show(d:H)+1=((d+1:I):H) by omega]at h;exact⟨⟨k+1,_,d+1,a,Za,Za,g,Za,he,h⟩,by first|omega|(dsimp only;omega)⟩};rw[fx,X8 h0]at he;refine aa.ef Za (Ld.q h c O O ?_);have hdl:=CF d;refine Qv h Za Za λm w h=>?_;have R:=h.br;have l2:=(h.at 1).br;simp only[ints,Zn,Zy]at R l2;refine bu (s:=o) (ys:=(ints (de d)).map vI) (n:=m.len) jx Zb (.inl ⟨3,Zc⟩) (h.at 1) (.inl ⟨m.base,m.len,m.cap,O,O,h.aq ae.own⟩) (by simp[ints,R]) rN Za Za λs2 w h hl2=>?_;have h:=h.no 1;refine Nw.mk h λz w h=>?_;rw[af Za]at h;refine bu (s:=s2) (ys:=[vI ((e.idxOf b[k]:H)+1)]) (n:=1) jx Zb (.inl ⟨3,Zc⟩) (h.at 1) (.inl ⟨V ⟨z,0,Z⟩,1,1,O,O,h.aq (ae.aH O O)⟩) O (by intro y S;rw[ZE]at S;rw[S];rfl) Za Za λs3 w h _=>?_;have h:=h.no 1;refine St.q (b:=M) h c O O O λw h=>⟨⟨k+1,_,0,a++(de d++[e.idxOf b[k]+1]),Za,Za,g,?_,?_,?_⟩,by first|omega|(dsimp only;omega)⟩;{grind};{rw[he];simp};rw[show(ints (a++(de d++[e.idxOf b[k]+1]))).map vI=(ints a).map vI++(ints (de d)).map vI++[vI ((e.idxOf b[k]:H)+1)] by simp[ints]];exact h};have A:k=b.length:=Za;subst A;rw[ZT (Zw _),fx,ZG]at he;rw[he]at u;dsimp only at u;refine Ld.qw h f O (az.q h Tw (qA hL'.len) ur λw h=>Ld.xw h (qA hL'.len) (u o w h.iV hL' Za))
def acq{L:Q I}{r:I}{K:Sl->H->ad}(h:Hp E w F)(c:cL L)(l:r<=1000000)(f:∀d w',Hp E w' (av 1 d ((ints (de r++[257])).map vI)::F)->K d 0 w'):ah [kS,kI] 201 [.agg (nO L (r:H))] w K:=by refine N9.ok _ _ _ ?_;have a:=ik c.len;(try simp only[aj,Zi]);refine Nw.mk h λm w h=>Ld.qw h a O (Gm h c Za λw h=>?_);(with_reducible refine aa.Ct ?_);have g:=CF r;refine Ld.q h a O O (Qv h Za Za λi w h=>Nw.mk h λb w h=>?_);have j:=(h.at 1).br;simp only[ints,Zn,Zy]at j;refine bu (s:=i) (ys:=[vI 257]) (n:=1) jx Zb (.inl ⟨3,Zc⟩) (h.at 1) (.inl ⟨V ⟨b,0,Z⟩,1,1,O,O,h.aq (ae.aH O O)⟩) O (by intro y e;rw[ZE]at e;rw[e];rfl) Za Za λk w h _=>f k w ?_;rw[show(ints (de r++[257])).map vI=(ints (de r)).map vI++[vI 257] by simp[ints]];exact h.iV
theorem abt{s:Sl}{b:Q I}{K:Sl->ad}(h:Hp E w F)(i:ae F (aO 1 s (b.map vB)))(j:cd b)(u:b.length<=1000000)(k:∀f w',Hp E w' (av 1 f ((ints (syms b)).map vI)::F)->K f w'):cm 133 [ak s] w K:=by refine P3.ok _ _ _ (ML h λw h=>UE (r:=0) h cL.range i j Ze λl w h a e=>Nw.mk h λv w h=>?_);refine az.q h Tw (qA a.len) ur λw h=>Ld.xw h (qA a.len) (acq h a e λd w h=>?_);have g:=h.br;have m:=(h.at 2).br;have x:(fx (Zr 256) 0 b).1.length+(fx (Zr 256) 0 b).2.2<=b.length:=by{have:∀(b L:Q I)(r:I),(fx L r b).1.length+(fx L r b).2.2<=r+b.length:=by{intro b;induction b with|nil=>intro L r;simp[fx]|cons c b o=>intro L r;rw[fx];split;{grind};have:=o (dk L (L.idxOf c)) 0;have:=CF r;simp only[Zf,Zp];omega};simpa using this b (Zr 256) 0};have p:=CF (fx (Zr 256) 0 b).2.2;simp only[ints,Zn,Zy,Zf,ZN]at g m;refine bu (s:=l) (ys:=(ints (de (fx (Zr 256) 0 b).2.2++[257])).map vI) (n:=d.len) jx Zb (.inl ⟨3,Zc⟩) (h.at 2) (.inl ⟨d.base,d.len,d.cap,O,O,h.aq ae.own⟩) (by simp[ints,<-g]) rN Za Za λt w h _=>k t w ?_;rw[show(ints (syms b)).map vI=(ints (fx (Zr 256) 0 b).1).map vI++(ints (de (fx (Zr 256) 0 b).2.2++[257])).map vI by unfold syms ez;simp[ints]];exact h.iV
end
end
section
open Go Go.Vc
set_option maxRecDepth 100000
def GB.ok(a:(X7 Wg))(b:(X4 G))(c:Sl)(R:H->ad) w(h:Nw 166 b w λe d=>aI 258 e 0 d λf=>ah [kI,kI] 209 [(.agg f),(ak c)] d λ(h:H)(i:H) g=>aZ (λ(k:XZ)=>aI 258 e 0 k λl=>ah [(.arr 258),kI] 210 [(.agg l)] k λn(o:H) m=>Nw 256 ⟨Zh 258 (.int .u32 0)⟩ m λq p=>az 258 (ar q 0) n p λr=>dX 0 r λs t(u:H) v=>aw (u<(c.len:H)) (aB c u 1 λx=>bj x v λy=>aP v λz=>aK (ar q 0) 258 y 1 λB=>Ld (aC .u32) B z λ(C:H)=>aK (ar e 0) 258 y 1 λD=>dD D z λE=>aE 208 [(au a),(.int .u32 C),(ni (i64 E))] z λF A=>s (i64 (u+1)) A/\t (i64 (u+1)) A<t u v) (R 0 v)) λj=>aa (ZI a) (R 2 g) (aa (i !=0) (R 2 g) (j g))):bP 139 [(au a),(.agg b),(ak c)] w R:=co Tryz.f139 [(4,[]),(14,[(32,kI)])] h
def ED.ok(a:(X4 G))(b:Sl)(R:H->H->ad) w(h:Nw 166 a w λd c=>aI 258 d 0 c λe=>aE 287 [(.agg e)] c λg f=>aa (! g) (R 0 2 f) (cY 0 0 f λh i(j:H)(k:H) l=>aw (k<(b.len:H)) (aB b k 1 λm=>bj m l λn=>aw (n<0) (R 0 2 l) (aw (n>=258) (R 0 2 l) (aK (ar d 0) 258 n 1 λo=>dD o l λp=>aa (p==0) (R 0 2 l) (aK (ar d 0) 258 n 1 λq=>dD q l λr=>h (i64 (j+(i64 r))) (i64 (k+1)) l/\i (i64 (j+(i64 r))) (i64 (k+1)) l<i j k l)))) (R j 0 l))):ah [kI,kI] 209 [(.agg a),(ak b)] w R:=co Tryz.f209 [(10,[(4,kI),(13,kI)])] h
def Gu.ok(R:(X7 Wg)->ad) w(h:aJ 305 [(.slice Z 0 0),(ni 0)] w λb a=>R (V ⟨b,0,Z⟩) a):ah [kP] 137 [] w R:=co Tryz.f137 [] h
def sL.ok(a:(X7 Wg))(R:Sl->ad) w(h:aa (ZI a) (R (⟨Z,0,0⟩:Sl) w) (ag a λb=>eT (b.add 0) w λc=>cm 43 [(ak c)] w λe d=>R e d)):cm 140 [(au a)] w R:=co Tryz.f140 [] h
def vv.ok(a:(X7 Wg))(b:H)(c:H)(R:X3->ad) w(h:aJ 236 [(au a)] w λe d=>Ld kP (ar e 0) d λf=>aa (ZI f) (R U d) (aE 284 [(.int .u32 b),(ni c)] d λh g=>aa (! h) (R U g) (ah [kV] 285 [(.int .u32 b),(ni c)] g λj i=>iP Pg j [(aC .u8)] i (λ(k:I)(l:I->Obj)(p:H)(m:XZ)(n o:ad)=>qQ k l m λq=>Ld kP (ar e 0) q λr=>cP 286 [(au r),(ao p)] q λs=>me k l s n) (λt u=>jm (t::[]:Q I) u λv=>R J v) λx y=>jm (x::[]:Q I) y λz=>R U z))):aE 208 [(au a),(.int .u32 b),(ni c)] w R:=yd Tryz.f208 (.s .o (.s (.s .o (.c (.s .o .o) .o)) (.s (.s .o (.b (.r [(aC .u8)] .o (.b .o)))) (.s .o .o)))) h
def DE.ok(a:H)(b:H)(R:X3->ad) w(h:aw (b>=0) (aw (b<=32) (0<=b/\R ((ba .u64 (u64 a) b)==0) w) (R U w)) (R U w)):aE 284 [(.int .u32 a),(ni b)] w R:=co Tryz.f284 [] h
def D3.ok(a:H)(b:H)(R:G->ad) w(h:aJ 105 [(.int .u32 a)] w λd c=>aJ 3 [(ni b)] c λf e=>R (.func (.func 339) ⟨[]⟩ ⟨[(bX f),(bX d)]⟩) e):ah [kV] 285 [(.int .u32 a),(ni b)] w R:=co Tryz.f285 [] h
def uP.ok(a:(X7 Wg))(b:H)(R:ad) w(h:ag a λc=>bj (c.add 1) w λd=>aa ((cU .i64 d 7)==0) (ag a λe=>eT (e.add 0) w λf=>aJ 5 [(ao 0)] w λh g=>aG Pg (ZD #[24,24] 24 ⟨[(ak f),(cE h 1)]⟩) kS g λ(j:Sl) i=>ag a λk=>St (k.add 0) (ak j) i λl=>aP l λm=>ag a λn=>eT (n.add 0) m λo=>ag a λp=>bj (p.add 1) m λq=>0<=(3:H)/\aB o (ba .i64 q (3:H)) 1 λr=>dD r m λs=>ag a λt=>bj (t.add 1) m λu=>0<=(i64 ((7:H)-(cU .i64 u 7)))/\aB o (ba .i64 q (3:H)) 1 λv=>St v (ao (jv .u8 s (bT .u8 b (i64 ((7:H)-(cU .i64 u 7)))))) m λx=>ag a λy=>bj (y.add 1) x λz=>ag a λF=>St (F.add 1) (ni (i64 (z+1))) x λG=>R G) (aP w λA=>ag a λI=>eT (I.add 0) A λB=>ag a λK=>bj (K.add 1) A λC=>0<=(3:H)/\aB B (ba .i64 C (3:H)) 1 λL=>dD L A λM=>ag a λN=>bj (N.add 1) A λD=>0<=(i64 ((7:H)-(cU .i64 D 7)))/\aB B (ba .i64 C (3:H)) 1 λP=>St P (ao (jv .u8 M (bT .u8 b (i64 ((7:H)-(cU .i64 D 7)))))) A λE=>ag a λQ=>bj (Q.add 1) E λS=>ag a λT=>St (T.add 1) (ni (i64 (S+1))) E λW=>R W)):cP 286 [(au a),(ao b)] w R:=co Tryz.f286 [] h
def AV.ok(a:G)(b:Wg)(c:Wg)(R:ad) w(h:bj b w λd=>∃(e:H->ad)(f:H->XZ->I),e ((i64 (d-1))) w/\∀(g:H),∀(h:XZ),e g h->aw (g>=0) (Ld (aC .u32) c h λ(i:H)=>0<=g/\nd Pg a [kB] [(ao (cU .u8 (u8 (ba .u32 i g)) 1))] h λ(k:X3) j=>aa (! k) (R j) (([]:Q I)=([]:Q I)/\e (i64 (g-1)) j/\f (i64 (g-1)) j<f g h)) (R h)):cP 339 [a,(au (V b)),(au (V c))] w R:=yd Tryz.f339 (.s .o (.b (.l [(4,kI)] (.s (.s .o (.c .o .o)) (.s (.b (.s .o (.c .o .o))) .o))))) h
end
end Go.Proofs.Q9
namespace Go.Srt
section
def sh(l:Q I)(s:I):I:=2^(15-l.getD s 0)
def start(l a:Q I)(i:I):I:=((a.take i).map (sh l)).sum
def pI{l a:Q I}{i:I}(h:i<a.length):start l a (i+1)=start l a i+sh l a[i]:=by unfold start;rw[Zz,ZC,YS,Zg h];simp only[X7.toList,ZX,YL,Q.sum_cons,Q.sum_nil,Zq]
def Cs(l:Q I)(s:I):0<sh l s:=Yd _
def OY{l ys:Q I}{i j:I}(h:i<=j):start l ys i<=start l ys j:=by unfold start;have:=Zv i (ys.take j);rw[Q.take_take,Y4 h]at this;have a:=Wn (λb=>(b.map (sh l)).sum) this;simp only[ZC,YS]at a;omega
def gb{l:Q I}{s:I}:s∈used l↔s<l.length/\0<l.getD s 0:=by unfold used;rw[Q.mem_filter,YV];simp
def Fe(l:Q I):bF l=((used l).map λs=>wt (l.getD s 0)).sum:=by have a:∀k,k<=l.length->bF (l.take k)=(((Zr k).filter λs=>decide (0<l.getD s 0)).map λs=>wt (l.getD s 0)).sum:=by{intro k;induction k with|zero=>intro _;simp[bF]|succ k b=>intro c;rw[oO Za,b Za,YA,Y5,ZC,YS];have d:l.getD k 0=l[k]:=by{rw[Zl,Zg Za];rfl};by_cases h:0<l.getD k 0;{grind};rw[Q.filter_cons_of_neg Ze];have:l[k]=0:=by{omega};rw[this];rfl};have:=a l.length (Zw _);rw[Z4]at this;exact this
def gk{l:Q I}(b:bF l<=32768)(s:I):l.getD s 0<=15:=by rw[Zl];cases h:l[s]? with|none=>simp|some x=>have:=afj (YP h);unfold wt at this;simp only[YE];(rcases Yk 15 x with a|a);{grind};exact a
def SS{l a:Q I}(b:bF l<=32768)(h:dq l a):start l a a.length=bF l:=by unfold start;rw[Z4,Fe,(h.1.map (sh l)).sum_nat];congr 1;refine Z3 λs c=>?_;have d:=(gb.1 c).2;have e:=gk b s;unfold sh wt;rw[K Za,K Za]
def TZ{l ys:Q I}(a:bF l<=32768)(h:dq l ys){i:I}(b:i<=ys.length):start l ys i<=32768:=by have:=OY (l:=l) (ys:=ys) b;rw[SS a h]at this;omega
def Ez{l a:Q I}(h:dq l a){i j:I}(b:j<a.length)(c:i<=j):l.getD (a[i]' Za) 0<=l.getD a[j] 0:=by by_cases e:i=j;{grind};have:=(List.pairwise_iff_getElem.1 h.2) i j Za b Za;omega
def Gg{l a:Q I}(h:dq l a){i:I}(b:i<a.length):∀k,k<=i->sh l a[i]∣start l a k|0,_=>by simp[start]|k+1,c=>by rw[pI Za];refine I.dvd_add (Gg h b k Za) ?_;have:=Ez h b (show k<=i by omega);unfold sh;exact I.pow_dvd_pow 2 Za
def ey(l a:Q I)(i:I):I:=start l a i/sh l (a.getD i 0)
def getD_at{a:Q I}{i:I}(b:i<a.length):a.getD i 0=a[i]:=Ze
def nv{l a:Q I}(h:dq l a){i:I}(b:i<a.length):ey l a i*sh l a[i]=start l a i:=by unfold ey;rw[getD_at b];exact I.div_mul_cancel (Gg h b i (Zw _))
def Rf{l:Q I}(a:bF l<=32768)(s:I):2^l.getD s 0*sh l s=32768:=by unfold sh;rw[<-I.pow_add,show l.getD s 0+(15-l.getD s 0)=15 by have:=gk a s;omega]
def xG{l a:Q I}(b:bF l<=32768)(h:dq l a){i:I}(c:i<a.length):ey l a i<2^l.getD a[i] 0:=by have g:=nv h c;have d:=TZ b h (show i+1<=a.length by omega);rw[pI c]at d;have j:=Rf b a[i];have e:=Cs l a[i];have f:(ey l a i+1)*sh l a[i]<=2^l.getD a[i] 0*sh l a[i]:=by{rw[Yf];omega};exact I.le_of_mul_le_mul_right f e
def cy(l a:Q I):I->Q I|0=>Zh 258 0|i+1=>(cy l a i).set (a.getD i 0) (ey l a i)
def dJ(l a:Q I):∀i,(cy l a i).length=258|0=>ZO|i+1=>by rw[cy,XW,dJ l a i]
def adZ{l a:Q I}(h:dq l a){i j:I}(c:j<a.length)(b:i<j):a[i]' Za≠a[j]:=by have:=(List.pairwise_iff_getElem.1 h.2) i j Za c b;intro e;rw[e]at this;omega
def vX{l a:Q I}(h:dq l a)(b:∀s∈a,s<258):∀(i:I),i<=a.length->∀j(d:j<a.length),j<i->(cy l a i).getD a[j] 0=ey l a j|0,_,_,_,f=>Za|i+1,m,j,d,f=>by have c:i<a.length:=Za;rw[cy,getD_at c];by_cases e:j=i;{subst e;have:a[j]<(cy l a j).length:=by{rw[dJ];exact b _ (Zs d)};rw[Zl,Q.getElem?_set_self this];rfl};have g:=adZ h c (show j<i by omega);rw[Zl,Q.getElem?_set_ne λk=>g k.symm,<-Zl];exact vX h b i Za j d Za
def many(l:Q I)(n:I):I:=if n=0 then 0 else l.count n
def fst(l:Q I):I->I|0=>0|n+1=>2*(fst l n+many l n)
def low(l:Q I):I->I|0=>0|n+1=>low l n+many l n*2^(15-n)
def Ee(l:Q I):∀n,n<=15->fst l n*2^(15-n)=low l n|0,_=>by simp[fst,low]|n+1,h=>by have a:=Ee l n Za;have e:2^(15-n)=2*2^(15-(n+1)):=by{rw[show 15-n=(15-(n+1))+1 by omega,Z8,Yb]};rw[fst,low,<-a,<-YR,e,Yb 2 (fst l n+many l n),Y0]
def MA(n:I):low [] n=0:=by induction n with|zero=>rfl|succ n a=>rw[low,a];simp[many]
def DK(l:Q I)(x:I):∀n,low (l++[x]) n=low l n+if 0<x/\x<n then 2^(15-x)else 0|0=>by simp[low]|n+1=>by rw[low,low,DK l x n];unfold many;rw[Q.count_append,Q.count_singleton];by_cases h0:n=0;{subst h0;rw[X0 O,X0 O,K Za,K Za]};rw[K h0,K h0];by_cases hx:x=n;{subst hx;rw[K Za,X0 Zd,X0 Za,YR];omega};rw[K (show¬(x==n)=J by simpa using hx)];by_cases h:0<x/\x<n;{rw[X0 h,X0 Za,Zq];omega};rw[K h,K Za,Zq,Zq,Zq]
def Jl(l:Q I){n m:I}(h:n<=m):low l n<=low l m:=by induction m with|zero=>have:n=0:=Za;subst this;exact Zw _|succ m a=>by_cases e:n=m+1;{grind};have:=a Za;rw[low];omega
def adx:∀(k:I)(l:Q I),l.length=k->(∀x∈l,x<=15)->low l 16=bF l:=by intro k;induction k with|zero=>intro l h _;have:l=[]:=List.length_eq_zero_iff.1 h;subst this;simp[MA,bF]|succ k c=>intro l d h;have a:l≠[]:=by{intro e;subst e;simp at d};obtain⟨b,x,rfl⟩:∃b x,l=b++[x]:=⟨l.dropLast,l.getLast a,(Q.dropLast_concat_getLast a).symm⟩;rw[DK,c b Ze λy f=>h y (by simp[f])];unfold bF;rw[ZC,YS];unfold wt;by_cases h0:x=0;{grind};grind
def aa5{l:Q I}(a:bF l<=32768):low l 16=bF l:=adx _ l rfl λx b=>by obtain⟨i,c,rfl⟩:=Z1 b;have:=gk a i;rwa [Zl,Zg c]at this
def kF(l:Q I)(s:I):I:=(l.take s).count (l.getD s 0)
def code(l:Q I)(s:I):I:=fst l (l.getD s 0)+kF l s
def pos(l:Q I)(s:I):I:=low l (l.getD s 0)+kF l s*2^(15-l.getD s 0)
def vM{l:Q I}(a:bF l<=32768)(s:I):code l s*2^(15-l.getD s 0)=pos l s:=by unfold code pos;rw[YR,Ee l _ (gk a s)]
def ee{l:Q I}{i:I}(h:i<l.length):l.getD i 0=l[i]:=by rw[Zl,Zg h];rfl
def lV(l:Q I)(k x:I):(l.take k).count x<=l.count x:=(Q.take_sublist k l).count_le x
def fV{l:Q I}{k:I}(h:k<l.length)(x:I):(l.take (k+1)).count x=(l.take k).count x+if l[k]=x then 1 else 0:=by rw[Zz,Zg h,Q.count_append];simp only[X7.toList,Q.count_singleton,Wk]
def rn{l:Q I}{i j:I}(h:i<=j)(x:I):(l.take i).count x<=(l.take j).count x:=by have:(l.take i)=(l.take j).take i:=by{rw[Q.take_take,Y4 h]};rw[this];exact lV _ _ _
def Mm{l:Q I}{s:I}(a:s<l.length)(c:0<l.getD s 0):kF l s<many l (l.getD s 0):=by unfold kF many;rw[K Za];have b:=fV a (l.getD s 0);rw[ee a,X0 O]at b;have d:=lV l (s+1) (l[s]);rw[ee a];omega
def HC{l:Q I}{s:I}(a:s<l.length)(b:0<l.getD s 0):pos l s+2^(15-l.getD s 0)<=low l (l.getD s 0+1):=by have:=Mm a b;unfold pos;rw[low,Yw,<-Yf];exact I.add_le_add_left (ZQ _ this) _
def rJ{l:Q I}{s t:I}(b:s<l.length)(g:t<l.length)(c:0<l.getD s 0)(d:s≠t)(h:l.getD s 0<l.getD t 0\/(l.getD s 0=l.getD t 0/\s<t)):pos l s+2^(15-l.getD s 0)<=pos l t:=by(rcases h with h|⟨h,e⟩);{have a:=HC b c;have f:=Jl l (show l.getD s 0+1<=l.getD t 0 by omega);unfold pos at a⊢;omega};have a:=fV b (l.getD t 0);rw[X0 Ze]at a;have f:=rn (l:=l) (show s+1<=t by omega) (l.getD t 0);unfold pos kF;rw[h,Yw,<-Yf];exact I.add_le_add_left (ZQ _ Za) _
def Us{l:Q I}{s t x:I}(a:s<l.length)(b:t<l.length)(c:0<l.getD s 0)(d:0<l.getD t 0)(j:pos l s<=x)(f:x<pos l s+2^(15-l.getD s 0))(k:pos l t<=x)(g:x<pos l t+2^(15-l.getD t 0)):s=t:=by by_cases e:s=t;{exact e};(rcases I.lt_trichotomy (l.getD s 0) (l.getD t 0)with h|h|h);{have:=rJ a b c e (.inl h);omega};{(rcases Yk s t with i|i);{have:=rJ a b c e (.inr ⟨h,i⟩);omega};have:=rJ b a d (Ne.symm e) (.inr ⟨h.symm,Za⟩);omega};have:=rJ b a d (Ne.symm e) (.inl h);omega
def adn(l:Q I)(n:I):∀p,p<l.count n->∃s,s<l.length/\l.getD s 0=n/\kF l s=p:=by intro p d;have a:∀k,k<=l.length->p<(l.take k).count n->∃s,s<k/\l.getD s 0=n/\kF l s=p:=by{intro k;induction k with|zero=>intro _ h;simp at h|succ k e=>intro f h;by_cases b:p<(l.take k).count n;{grind};have c:=fV (l:=l) (k:=k) Za n;by_cases h4:l[k]=n;{rw[X0 h4]at c;refine⟨k,Za,by rw[ee Za,h4],?_⟩;unfold kF;rw[ee Za,h4];omega};grind};obtain⟨s,g,b⟩:=a l.length (Zw _) Ze;exact⟨s,Za,b⟩
def Kg{l:Q I}{s t:I}(c:s<l.length)(d:t<l.length)(h:l.getD s 0=l.getD t 0)(a:kF l s=kF l t):s=t:=by have b:∀{s t:I},s<l.length->t<l.length->l.getD s 0=l.getD t 0->kF l s=kF l t->¬s<t:=by{intro s t c d h a f;have e:=fV c (l.getD t 0);rw[X0 Ze]at e;have g:=rn (l:=l) (show s+1<=t by omega) (l.getD t 0);unfold kF at a;rw[h]at a;omega};have e:=b c d h a;have g:=b d c h.symm a.symm;omega
def Ml(l:Q I)(n s t:I):X3:=Wb (0<l.getD t 0)&&Wb (l.getD t 0<n\/(l.getD t 0=n/\t<s))
def BT(l:Q I)(n s:I)(j:0<n):∀k,k<=l.length->(((Zr k).filter (Ml l n s)).map (sh l)).sum=low (l.take k) n+((l.take k).take s).count n*2^(15-n)|0,_=>by simp[MA]|k+1,p=>by have c:k<l.length:=Za;rw[YA,Y5,ZC,YS,BT l n s j k Za];have m:l.take (k+1)=l.take k++[l[k]]:=by{rw[Zz,Zg c];rfl};rw[m,DK];have d:=ee c;have e:(l.take k).length=k:=by{simp;omega};have g:0<l[k]->(l[k]<n\/(l[k]=n/\k<s))->Ml l n s k=J:=λa b=>by{unfold Ml;rw[d,ZH,Wm,Wm];exact⟨a,b⟩};have f:¬(0<l[k]/\(l[k]<n\/(l[k]=n/\k<s)))->¬Ml l n s k=J:=λh=>by{unfold Ml;rw[d,ZH,Wm,Wm];exact h};by_cases hks:k<s;{have i:(l.take k++[l[k]]).take s=l.take k++[l[k]]:=Zt (by rw[Zf,e];simp;omega);have o:(l.take k).take s=l.take k:=Zt Za;rw[i,o,Q.count_append,Q.count_singleton];by_cases a:0<l[k]/\l[k]<n;{rw[XM (g a.1 (.inl a.2)),X0 a,K (by rw[Wk];omega)];simp only[Q.filter_nil,ZX,YL,Q.sum_cons,Q.sum_nil,sh,d,Zq];omega};rw[K a];by_cases b:l[k]=n;{rw[XM (g Za (.inr ⟨b,hks⟩)),X0 (by simpa using b),YR];simp only[Q.filter_nil,ZX,YL,Q.sum_cons,Q.sum_nil,sh,d,b];omega};rw[Q.filter_cons_of_neg (f Za),K (by simpa using b)];simp};have i:(l.take k++[l[k]]).take s=(l.take k).take s:=by{rw[Q.take_append_of_le_length Za]};rw[i];by_cases a:0<l[k]/\l[k]<n;{rw[XM (g a.1 (.inl a.2)),X0 a];simp only[Q.filter_nil,ZX,YL,Q.sum_cons,Q.sum_nil,sh,d,Zq];omega};rw[K a,Q.filter_cons_of_neg (f Za)];simp
def Qo{l b:Q I}(h:dq l b){i:I}(d:i<b.length):start l b i=pos l b[i]:=by have k:=gb.1 (h.1.mem_iff.1 (Zs d));let p:I->X3:=λt=>decide (l.getD t 0<l.getD b[i] 0\/(l.getD t 0=l.getD b[i] 0/\t<b[i]));have c:=List.pairwise_iff_getElem.1 h.2;have m:b.filter p=b.take i:=by{(conv=>lhs;rw[<-Zv i b]);rw[Y5,List.filter_eq_self.2,List.filter_eq_nil_iff.2,ZG];{intro a f;obtain⟨j,g,rfl⟩:=Z1 f;rw[ZA]at g;rw[Xo];by_cases e:j=0;{subst e;simp only[p,Zq,Wm];omega};have:=c i (i+j) d Za Za;simp only[p,Wm];omega};intro a f;obtain⟨j,g,rfl⟩:=Z1 f;rw[Zx]at g;rw[YN];have:=c j i Za d Za;simp only[p,Wm];omega};have n:((b.take i).map (sh l)).sum=(((used l).filter p).map (sh l)).sum:=by{rw[<-m];exact((h.1.filter p).map (sh l)).sum_nat};unfold start;rw[n];have o:(used l).filter p=(Zr l.length).filter (Ml l (l.getD b[i] 0) b[i]):=by{unfold used;rw[Q.filter_filter];congr 1;funext t;rw[X3.and_comm];rfl};rw[o];have:=BT l (l.getD b[i] 0) b[i] k.2 l.length (Zw _);rw[Z4]at this;exact this
def Lr{l a:Q I}(d:bF l<=32768)(h:dq l a){i:I}(b:i<a.length):ey l a i=code l a[i]:=by have c:=nv h b;rw[Qo h b,<-vM d]at c;exact Xs (Cs l a[i]) c
def Ds{l a:Q I}(j:l.length=258)(e:bF l<=32768)(h:dq l a){s:I}(d:s<258)(f:0<l.getD s 0):(cy l a a.length).getD s 0=code l s:=by have b:∀s∈a,s<258:=λs d=>by{have:=(gb.1 (h.1.mem_iff.1 d)).1;omega};have g:s∈a:=h.1.mem_iff.2 (gb.2 ⟨Za,f⟩);obtain⟨i,c,rfl⟩:=Z1 g;rw[vX h b _ (Zw _) i c c,Lr e h c]
def DZ{l:Q I}(f:l.length=258)(a:bF l<=32768){s:I}(g:s<258)(b:0<l.getD s 0):code l s<2^l.getD s 0:=by have h:=vM a s;have i:=HC Za b;have c:=Jl l (show l.getD s 0+1<=16 by have:=gk a s;omega);rw[aa5 a]at c;have d:=Rf a s;unfold sh at d;have e:(code l s+1)*2^(15-l.getD s 0)<=2^l.getD s 0*2^(15-l.getD s 0):=by{rw[Yf];omega};exact I.le_of_mul_le_mul_right e (Yd _)
end
end Go.Srt
namespace Go.Bits
section
def cQ(b:Q I)(i:I):I:=(b.getD (i/8) 0/2^(7-i%8))%2
def val(b:Q I)(a:I):I->I|0=>0|n+1=>2*val b a n+cQ b (a+n)
def ob(b:Q I)(i:I):cQ b i<2:=Xr _ Zb
def kT(b:Q I)(a:I):∀n,val b a n<2^n|0=>by simp[val]|n+1=>by have:=kT b a n;have:=ob b (a+n);simp only[val,Z8];omega
def val_add(b:Q I)(a n:I):∀m,val b a (n+m)=val b a n*2^m+val b (a+n) m|0=>by simp[val]|m+1=>by rw[<-Yw];simp only[val,val_add b a n m,Z8,Yw];rw[I.mul_add,Yb (2^m) 2,I.mul_left_comm];omega
def adq(b:Q I)(a n k:I)(h:k<n):val b a n/2^(n-1-k)%2=cQ b (a+k):=by have c:=val_add b a (k+1) (n-1-k);rw[show k+1+(n-1-k)=n by omega]at c;have d:=kT b (a+(k+1)) (n-1-k);rw[c,Yb,I.mul_add_div (Yd _),Xb d,Zq];simp only[val];have:=ob b (a+k);omega
def OR(b:Q I)(j i:I):cQ (b.drop j) i=cQ b (8*j+i):=by unfold cQ;have a:(8*j+i)/8=j+i/8:=Za;have c:(8*j+i)%8=i%8:=Za;rw[a,c];simp only[Zl,XR]
def J0(b:Q I)(j a:I):∀n,val (b.drop j) a n=val b (8*j+a) n|0=>rfl|n+1=>by simp only[val,J0 b j a n,OR,Yw]
def JP(b c:Q I)(i:I)(h:i<8*b.length):cQ (b++c) i=cQ b i:=by unfold cQ;congr 2;simp only[Zl];rw[ZJ Za]
def pX(b c:Q I)(a:I):∀n,a+n<=8*b.length->val (b++c) a n=val b a n|0,_=>rfl|n+1,h=>by simp only[val];rw[pX b c a n Za,JP b c _ Za]
def Js(b:Q I)(j:I)(h:b.getD j 0<256):val b (8*j) 8=b.getD j 0:=by have e:∀i,i<8->cQ b (8*j+i)=b.getD j 0/2^(7-i)%2:=by{intro i a;unfold cQ;rw[show(8*j+i)/8=j by omega,show(8*j+i)%8=i by omega]};simp only[val];rw[e 0 Zb,e 1 Zb,e 2 Zb,e 3 Zb,e 4 Zb,e 5 Zb,e 6 Zb,e 7 Zb];generalize b.getD j 0=x at h;simp only[I.reduceSub,I.reducePow];omega
def RT(b:Q I)(m:I)(h:b.getD m 0<256):val b 0 (8*(m+1))=val b 0 (8*m)*256+b.getD m 0:=by rw[show 8*(m+1)=8*m+8 by omega,val_add,Zi,Js b m h]
def ac7{b:Q I}(h:cd b)(m:I):b.getD m 0<256:=by rw[Zl];cases hh:b[m]? with|none=>simp|some x=>simpa using h x (YP hh)
def ade(b:Q I)(a w k:I):val b 0 (a+w+k)/2^k%2^w=val b a w:=by rw[val_add b 0 (a+w) k,val_add b 0 a w,Zi,Yb _ (2^k),I.mul_add_div (Yd _),Zi,Xb (kT b _ k),Zq,Yb,I.mul_add_mod,Xa (kT b a w)]
def ab2(a c:I)(h:c<256):a*256|||c=a*256+c:=by have:=YZ (i:=8) (b:=c) h a;rw[Yb]at this;rw[<-this]
def Hw(a w:I):a&&&(2^w-1)=a%2^w:=XH a w
end
end Go.Bits
namespace Go.Srt
section
open Go.Bits
def oW(b:Q I)(j:I):I:=b.getD (8*j) 0*128+b.getD (8*j+1) 0*64+b.getD (8*j+2) 0*32+b.getD (8*j+3) 0*16+b.getD (8*j+4) 0*8+b.getD (8*j+5) 0*4+b.getD (8*j+6) 0*2+b.getD (8*j+7) 0
def lK(b:Q I)(m:I):Q I:=(Zr m).map (oW b)
def pack(b:Q I):Q I:=lK b ((b.length+7)/8)
def Bits(b:Q I):Prop:=∀x∈b,x<=1
def Bits.getD{b:Q I}(h:Bits b)(i:I):b.getD i 0<=1:=by rw[Zl];cases hx:b[i]? with|none=>simp|some x=>exact h x (YP hx)
def Bits.app{a b:Q I}(c:Bits a)(d:Bits b):Bits (a++b):=λx e=>by(rcases List.mem_append.1 e with h|h);{exact c x h};exact d x h
def vw(b:Q I)(m:I):(lK b m).length=m:=by simp[lK]
def Dm{b:Q I}{m j:I}(h:j<m):(lK b m).getD j 0=oW b j:=by unfold lK;rw[Zl,ZR,Yq h];rfl
def Sf{b:Q I}(h:Bits b)(j:I):oW b j<256:=by unfold oW;have a:=h.getD (8*j);have c:=h.getD (8*j+1);have d:=h.getD (8*j+2);have e:=h.getD (8*j+3);have f:=h.getD (8*j+4);have g:=h.getD (8*j+5);have i:=h.getD (8*j+6);have k:=h.getD (8*j+7);omega
def Ti{b:Q I}(h:Bits b)(m:I):∀y∈lK b m,y<256:=λy a=>by obtain⟨j,_,rfl⟩:=List.mem_map.1 a;exact Sf h j
def kc{b:Q I}{i:I}(h:b.length<=i):b.getD i 0=0:=by rw[Zl,Z6 h];rfl
def F3(b:Q I)(x i:I):(b++[x]).getD i 0=b.getD i 0+if i=b.length then x else 0:=Ze
def Ja(b:Q I)(x j:I):oW (b++[x]) j=oW b j+if j=b.length/8 then x*2^(7-b.length%8)else 0:=by unfold oW;simp only[F3];by_cases hj:j=b.length/8;{rw[X0 hj];have a:b.length=8*j+b.length%8:=by{omega};have c:b.length%8<8:=Xr _ Zb;generalize b.length%8=r at a c;rw[a];have:r=0\/r=1\/r=2\/r=3\/r=4\/r=5\/r=6\/r=7:=by{omega};rcases this with rfl|rfl|rfl|rfl|rfl|rfl|rfl|rfl<;>simp<;>omega};rw[K hj,K Za,K Za,K Za,K Za,K Za,K Za,K Za,K Za];omega
def abx{b:Q I}{j:I}(h:b.length<=8*j):oW b j=0:=by unfold oW;rw[kc h,kc Za,kc Za,kc Za,kc Za,kc Za,kc Za,kc Za]
def abB(b:Q I):2^(8-b.length%8)∣oW b (b.length/8):=by have a:b.length=8*(b.length/8)+b.length%8:=Za;have c:b.length%8<8:=Xr _ Zb;generalize e:b.length/8=j at a;generalize b.length%8=r at a c;unfold oW;have g:∀i,r<=i->b.getD (8*j+i) 0=0:=λi f=>kc Za;have:r=0\/r=1\/r=2\/r=3\/r=4\/r=5\/r=6\/r=7:=Za;have d:=g 0;have h:=g 1;have k:=g 2;have l:=g 3;have m:=g 4;have n:=g 5;have o:=g 6;have p:=g 7;simp only[Zq]at d;rcases this with rfl|rfl|rfl|rfl|rfl|rfl|rfl|rfl<;>simp only[I.reduceSub,I.reducePow]<;>omega
def abF{a r x:I}(d:r<8)(c:2^(8-r)∣a)(e:x<=1):a|||x*2^(7-r)=a+x*2^(7-r):=by obtain⟨q,rfl⟩:=c;have f:2^(8-r)=2*2^(7-r):=by{rw[show 8-r=(7-r)+1 by omega,Z8,Yb]};have b:=Yd (7-r);refine(YZ ?_ q).symm;have:x=0\/x=1:=Za;rcases this with rfl|rfl<;>omega
def room(b:Q I):Q I:=lK b (b.length/8+1)
def NL(b:Q I):room b=if b.length%8=0 then pack b++[0]else pack b:=by unfold room pack;split;{rename_i h;rw[show(b.length+7)/8=b.length/8 by omega];unfold lK;rw[YA,ZC];simp;rw[abx Za]};grind
def Q5(b:Q I)(x:I):pack (b++[x])=(room b).set (b.length/8) (oW b (b.length/8)+x*2^(7-b.length%8)):=by unfold pack room;rw[Zf,ZN,show(b.length+1+7)/8=b.length/8+1 by omega];refine YO λi=>?_;unfold lK;simp only[ZR,Zn,Yj];by_cases hi:i<b.length/8+1;{rw[Yq hi];simp only[YD];rw[Ja];by_cases e:b.length/8=i;{grind};grind};grind
def I8{b:Q I}(h:Bits b){m i:I}(d:i<8*m):cQ (lK b m) i=b.getD i 0:=by unfold cQ;rw[Dm Za];have a:i=8*(i/8)+i%8:=Za;have c:i%8<8:=Xr _ Zb;generalize i/8=j at a;generalize i%8=r at a c;subst a;unfold oW;have e:=h.getD (8*j);have f:=h.getD (8*j+1);have g:=h.getD (8*j+2);have k:=h.getD (8*j+3);have l:=h.getD (8*j+4);have n:=h.getD (8*j+5);have o:=h.getD (8*j+6);have p:=h.getD (8*j+7);have:r=0\/r=1\/r=2\/r=3\/r=4\/r=5\/r=6\/r=7:=Za;rcases this with rfl|rfl|rfl|rfl|rfl|rfl|rfl|rfl<;>simp only[I.reduceSub,I.reducePow,Zq]<;>omega
def nP(b:Q I):(pack b).length=(b.length+7)/8:=vw _ _
def bn:I->I->Q I|0,_=>[]|n+1,v=>bn n (v/2)++[v%2]
def jY:∀n v,(bn n v).length=n|0,_=>rfl|n+1,v=>by rw[bn,Zf,jY n];rfl
def Ng:∀n v,Bits (bn n v)|0,_=>(λx a=>by cases a)|n+1,v=>(Ng n _).app λx a=>by have:x=v%2:=by{simpa using a};omega
def yl:∀n v i,i<n->(bn n v).getD i 0=v/2^(n-1-i)%2|0,_,_,h=>Za|n+1,v,i,h=>by rw[bn,F3,jY];by_cases e:i=n;{subst e;rw[X0 O,kc (by rw[jY];exact Zw _),show i+1-1-i=0 by omega];simp};rw[K e,yl n _ i Za,Zq,WA.div_div_eq_div_mul];congr 2;rw[show n+1-1-i=(n-1-i)+1 by omega,Z8,Yb]
def iB(l:Q I)(s:I):Prop:=s<258/\0<l.getD s 0
def DO(l:Q I)(s:I):Q I:=bn (l.getD s 0) (code l s)
def enc(l:Q I)(a:Q I):Q I:=a.flatMap (DO l)
def TL(l:Q I)(a:Q I):Bits (enc l a):=λx b=>by obtain⟨s,_,h⟩:=List.mem_flatMap.1 b;exact Ng _ _ x h
def abZ(l a b:Q I):enc l (a++b)=enc l a++enc l b:=Xq
def BE(l:Q I)(s:I)(b:Q I):enc l (s::b)=DO l s++enc l b:=Yn
def dh(l:Q I)(c n:I):X7 I:=(Zr 258).find? λs=>decide (0<l.getD s 0)&&(l.getD s 0==n)&&(code l s==c)
def nc{l:Q I}{c n s:I}(h:dh l c n=V s):iB l s/\l.getD s 0=n/\code l s=c:=by unfold dh at h;have a:=Q.find?_some h;have b:=Q.mem_of_find?_eq_some h;simp only[ZH,Wm,Wk]at a;exact⟨⟨by simpa using b,a.1.1⟩,a.1.2,a.2⟩
def Oe{l:Q I}{c n:I}(h:dh l c n=Z){s:I}(a:iB l s):¬(l.getD s 0=n/\code l s=c):=by unfold dh at h;have:=List.find?_eq_none.1 h s (by simpa using a.1);simp only[ZH,Wm,Wk]at this;exactλb=>this ⟨⟨a.2,b.1⟩,b.2⟩
def U3{l:Q I}(e:l.length=258){s t:I}(c:iB l s)(d:iB l t)(a:l.getD s 0=l.getD t 0)(b:code l s=code l t):s=t:=by have f:=c.1;have g:=d.1;refine Kg Za Za a ?_;unfold code at b;rw[a]at b;omega
def pT{l:Q I}(b:l.length=258){s:I}(a:iB l s):dh l (code l s) (l.getD s 0)=V s:=by cases h:dh l (code l s) (l.getD s 0)with|none=>exact Wh ⟨O,O⟩ (Oe h a)|some t=>obtain⟨c,d,e⟩:=nc h;rw[U3 b c a d e]
def Fh{l:Q I}(u:l.length=258)(c:bF l<=32768){s m:I}(f:iB l s)(v:m<l.getD s 0):dh l (code l s/2^(l.getD s 0-m)) m=Z:=by cases h:dh l (code l s/2^(l.getD s 0-m)) m with|none=>rfl|some t=>exfalso;obtain⟨g,i,k⟩:=nc h;have n:=gk c s;have j:=vM c s;have d:=vM c t;rw[i,k]at d;have e:2^(15-m)=2^(l.getD s 0-m)*2^(15-l.getD s 0):=by{rw[<-I.pow_add];congr 1;omega};have o:=I.div_mul_le_self (code l s) (2^(l.getD s 0-m));have p:=I.lt_div_mul_add (a:=code l s) (b:=2^(l.getD s 0-m)) (Yd _);have q:pos l t<=pos l s:=by{rw[<-j,<-d,e,<-Y0];exact ZQ _ o};have r:pos l s<pos l t+2^(15-l.getD t 0):=by{rw[i,<-j,<-d,e,<-Y0,<-YR];exact I.mul_lt_mul_of_pos_right p (Yd _)};have w:=f.1;have y:=g.1;have:s=t:=Us (x:=pos l s) Za Za f.2 g.2 (Zw _) Ze q r;subst this;omega
def zR(l:Q I):Q I->I->I->Q I->X7 (Q I)|[],_,n,acc=>if n=0 then V acc else Z|x::bs,c,n,acc=>match dh l (2*c+x) (n+1)with|some s=>zR l bs 0 0 (acc++[s])|none=>if 15<n+1 then Z else zR l bs (2*c+x) (n+1) acc
def bitsOf(b:Q I)(n:I):Q I:=(Zr n).map (cQ b)
def Po(b:Q I)(n:I):(bitsOf b n).length=n:=by simp[bitsOf]
def KV(b:Q I)(n:I):Bits (bitsOf b n):=λx a=>by obtain⟨i,_,rfl⟩:=List.mem_map.1 a;have:=ob b i;omega
end
end Go.Srt
namespace Go.Proofs.Q9
section
open Go Go.Vc Go.Srt Go.Bits
def Wr(b:I)(bits:Q I):HP:=λf=>∃s:Sl,(Srt.Bits bits/\bits.length<=c8)/\Sat [bq b [ak s,ni (bits.length:H)] 305,av 1 s ((pack bits).map vB)] f
section
variable{E w:XZ}{F A:Q HP}{b:I}{bits:Q I}
def Wr.cK(h:Hp E w (Wr b bits::F)):∃s:Sl,Srt.Bits bits/\bits.length<=c8/\Hp E w (bq b [ak s,ni (bits.length:H)] 305::av 1 s ((pack bits).map vB)::F):=by obtain⟨s,⟨a,c⟩,h⟩:=h.G1 (X:=λ_:Sl=>Srt.Bits bits/\bits.length<=c8) (L:=λs=>[bq b [ak s,ni (bits.length:H)] 305,av 1 s ((pack bits).map vB)]) λf d=>d;exact⟨s,a,c,h⟩
def Wr.shut{s:Sl}(a:Srt.Bits bits)(c:bits.length<=c8)(h:Hp E w (bq b [ak s,ni (bits.length:H)] 305::av 1 s ((pack bits).map vB)::F)):Hp E w (Wr b bits::F):=Hp.G8 (l:=[_,_]) (λf d=>⟨s,⟨a,c⟩,d⟩) h
def ae6{K:X7 Wg->ad}(h:Hp E w F)(a:∀b w',Hp E w' (Wr b []::F)->K (V ⟨b,0,Z⟩) w'):ah [kP] 137 [] w K:=by refine Gu.ok _ _ (Nw.mk h λb c d=>a b c (Wr.shut (s:=⟨Z,0,0⟩) (λx e=>by cases e) (Ya _) ((d.bm 1).p1)))
def UC{v a:I}{K:X3->ad}(f:a<=32)(c:v<2^a)(d:v<=4294967295)(e:K J w):aE 284 [.int .u32 (v:H),ni (a:H)] w K:=by refine DE.ok _ _ _ _ (aa.t (We Za) (aa.t (We Za) ⟨Za,?_⟩));rw[iq Za,db (by have:Wl.bits .u64=64:=O;omega),Xb c];exact e
def uO:cR Zj 24 5 1 1:=cR.of Zc Zc
def Mu{x:I}(c:x<=1):Srt.Bits [x]:=λy a=>by have:y=x:=by{simpa using a};omega
def IA{x:I}:∀y∈[vB x],aN y=J:=λy a=>by have:y=vB x:=by{simpa using a};subst this;rfl
def ael(n:I)(h:n<=c8):cU .i64 (n:H) 7=((n%8:I):H):=by have a:YJ .i64=9223372036854775807:=O;rw[aU]at h;rw[show(7:H)=((7:I):H)from O,gH Za Za,show(7:I)=2^3-1 from O,XH]
theorem agM{x:I}{K:ad}(h:Hp E w (Wr b bits::F))(D:x<=1)(r:bits.length+1<=c8)(W:bz E (Wr b (bits++[x])::F) K):cP 286 [bX b,ao (x:H)] w K:=by refine uP.ok _ _ _ _ ?_;simp only[ay,aj,Zi];obtain⟨s,S,G,z⟩:=Wr.cK h;have L:=r;rw[aU]at L G;have M:bits.length%8<8:=Xr _ Zb;refine Ld.aH (s:=.int .i64) z (bits.length:H) O ?_;rw[ael _ (by rw[aU];omega)];have i:∀(f:Sl)(B:XZ),Hp E B (bq b [.slice f.base f.len f.cap,ni (bits.length:H)] 305::av 1 f ((room bits).map vB)::F)->aP B λ(a:XZ)=>Ld kS (⟨b,0,Z⟩:Wg) a λ(t:Sl)=>Ld kI (⟨b,1,Z⟩:Wg) a λ(c:H)=>0<=(3:H)/\aB t (ba .i64 c 3) 1 λ(N:Wg)=>Ld (aC .u8) N a λ(P:H)=>Ld kI (⟨b,1,Z⟩:Wg) a λ(d:H)=>0<=((i64 ((7:H)-(cU .i64 d 7))):H)/\aB t (ba .i64 c 3) 1 λ(Q:Wg)=>St Q (ao (jv .u8 P (bT .u8 (x:H) (i64 ((7:H)-(cU .i64 d 7)))))) a λ(k:XZ)=>Ld kI (⟨b,1,Z⟩:Wg) k λ(g:H)=>St (⟨b,1,Z⟩:Wg) (ni (i64 (g+1))) k λ(u:XZ)=>K u:=by{intro f B v;refine aP.mk v λX l=>Ld.aH (s:=.sl) l f O (Ld.aH (s:=.int .i64) l (bits.length:H) O ⟨Zb,?_⟩);have o:=l.p1.br;have R:(room bits).length=bits.length/8+1:=vw _ _;rw[Zn,R,Zy]at o;have Y:ba .i64 (bits.length:H) 3=((bits.length/8:I):H):=by{rw[show(3:H)=((3:I):H)from O,db Zb]};rw[Y];refine aB.rd (l.aq (ae.cons ae.own)) Za Za λq hq hc=>?_;have hby:((room bits).map vB)[((bits.length/8:I):H).toNat]' hq=ao (oW bits (bits.length/8):H):=by{rw[XI];have:=Dm (b:=bits) (m:=bits.length/8+1) (j:=bits.length/8) Za;rw[ee (by rw[vw];omega)]at this;show vB _=_;unfold vB;rw[<-this];rfl};refine Ld.sc (s:=.int .u8) (oW bits (bits.length/8):H) Ze (Ld.aH (s:=.int .i64) l (bits.length:H) O ?_);rw[ael _ (by rw[aU];omega),af (x:=(7:H)-((bits.length%8:I):H)) Za,show(7:H)-((bits.length%8:I):H)=((7-bits.length%8:I):H) by omega];have y:=Sf (S.app (Mu D)) (bits.length/8);rw[Ja,X0 O]at y;have hm8:YJ .u8=255:=O;have e4:bT .u8 (x:H) ((7-bits.length%8:I):H)=((x*2^(7-bits.length%8):I):H):=dZ (by have:Wl.bits .u8=8:=O;omega) Za;have e5:=abF M (abB bits) D;rw[e4,mO Za Za Ze,e5];refine⟨Za,?_⟩;refine St.own l.p1 Za Za O λT C=>?_;refine Ld.aH (s:=.int .i64) C.p1 (bits.length:H) O ?_;rw[af Za];refine St.aH C.p1 (show 1<2 by decide) O λw5 h5=>W w5 (Wr.shut (s:=f) (S.app (Mu D)) Ze ?_);rw[Q5];have:((room bits).set (bits.length/8) (oW bits (bits.length/8)+x*2^(7-bits.length%8))).map vB=((room bits).map vB).set ((bits.length/8:I):H).toNat (ao ((oW bits (bits.length/8)+x*2^(7-bits.length%8):I):H)):=by{rw[Zk,Xz];rfl};rw[this,Zf,ZN];exact h5};refine aa.mk (λp=>?_) λp=>?_;{have p:bits.length%8=0:=by{rw[Wk]at p;omega};refine Ld.aH (s:=.sl) z s O (Nw.mk z λb8 B v=>?_);have o:=v.p2.br;rw[Zn,nP,Zy]at o;refine bu (ys:=[vB 0]) (n:=1) uO Zb (.inl ⟨5,Zc⟩) v.p2 (.inl ⟨V ⟨b8,0,Z⟩,1,1,O,O,v.aq (ae.aH O O)⟩) O IA Za Za λf X l hs'=>?_;refine St.aH l.p2 (show 0<2 by decide) O λT C=>?_;refine i f T ?_;have e:(room bits).map vB=(pack bits).map vB++[vB 0]:=by{rw[NL,X0 p,ZC];rfl};rw[e];exact C.p2.drop};have p:bits.length%8≠0:=by{have:=beq_eq_false_iff_ne.1 p;omega};refine i s w ?_;rw[NL,X8 p];exact z
theorem UH{K:Sl->ad}(h:Hp E w (Wr b bits::F))(k:∀s w',Hp E w' (av 1 s ((pack bits).map vB)::Wr b bits::F)->K s w'):cm 140 [bX b] w K:=by refine sL.ok _ _ _ ?_;simp only[ay,aj,Zi];obtain⟨s,l,a,d⟩:=Wr.cK h;refine aa.f rfl (Ld.aH (s:=.sl) d s rfl (zW.ok _ _ _ ?_));have g:=d.p1.br;have o:=nP bits;rw[Zn,Zy]at g;rw[aU]at a;refine aa.mk (λi=>?_) λi=>?_;{have i:s.base=Z:=by{simpa using i};(obtain⟨rfl,m,e⟩|⟨B,p,q,t,j,_⟩:=d.p1.zk);{refine k _ w ?_;rw[m];refine Hp.bm (Wr.shut (s:=⟨Z,0,0⟩) l (by rw[aU];exact a) ?_) 1;rw[m];exact(e.bm 1).p1};grind};refine Nw.mk d λr u e=>?_;have v:=e.nC (n:=0) (sz:=1) rfl;have c:aO 1 s ((pack bits).map vB) u:=e.aq (ae.cons (ae.cons ae.own));refine bu (s:=(jD r 0)) (ys:=(pack bits).map vB) (n:=s.len) uO Zb (.inl ⟨5,Zc⟩) v (.inl ⟨s.base,s.len,s.cap,rfl,rfl,c⟩) Ze eH Ze Ze λx y z _=>?_;exact k x y (Wr.shut (s:=s) l (by rw[aU];exact a) z.q2).p1
def RM{v a g j:I}(x:a<=32)(y:v<=4294967295):Iter Zj E (.func (.func 339) ⟨[]⟩ ⟨[bX j,bX g]⟩) a (λi=>[Ki.enc (aC .u8) ((v/2^(a-1-i)%2:I):H)]) (bq j [ni (a:H)] 3::bq g [.int .u32 (v:H)] 105::A):=by intro p C G w K q h r l;refine rQ.mk Zc (AV.ok p ⟨j,0,Z⟩ ⟨g,0,Z⟩ K w ?_);have n:=h.perm (List.perm_middle.trans (Xp _ YU));refine Ld.aH (s:=.int .i64) n (a:H) O (⟨λi w'=>∃k:I,i=(a:H)-1-(k:H)/\k<=a/\Hp E w' (bq j [ni (a:H)] 3::bq g [.int .u32 (v:H)] 105::(C k++A)),λi _=>(i+1).toNat,⟨0,by rw[af Za];omega,Za,n⟩,?_⟩);rintro i u ⟨k,rfl,hk,h1⟩;refine aa.mk (λd=>?_) λc=>?_;{have c:k<a:=by{have:=X9 d;omega};refine Ld.aH (s:=.int .u32) h1.p1 (v:H) O ⟨Za,?_⟩;have z:v/2^(a-1-k)<=v:=I.div_le_self _ _;have e:cU .u8 (u8 (ba .u32 (v:H) ((a:H)-1-(k:H)))) 1=((v/2^(a-1-k)%2:I):H):=by{have B:YJ .u8=255:=O;rw[show(a:H)-1-(k:H)=((a-1-k:I):H) by omega,db (by have:Wl.bits .u32=32:=O;omega),yE,show(((v/2^(a-1-k):I):H)%256)=((v/2^(a-1-k)%256:I):H) by omega,show(1:H)=((1:I):H)from O,gH Za Za,I.and_one_is_mod];omega};rw[e];refine q k c (bq j [ni (a:H)] 3::bq g [.int .u32 (v:H)] 105::A) u _ (h1.perm ((Xp _ List.perm_middle.symm).trans List.perm_middle.symm)) (λo m=>?_) λo m=>?_;{refine aa.f O ⟨O,⟨k+1,by rw[af Za];omega,Za,m.perm (List.perm_middle.trans (Xp _ YU))⟩,by dsimp only;rw[af Za];omega⟩};exact aa.t O (l k o c m)};have d:k=a:=by{have:=X5 c;omega};subst d;exact r _ (h1.perm ((Xp _ List.perm_middle.symm).trans List.perm_middle.symm))
theorem QV{v width:I}{K:X3->ad}(h:Hp E w (Wr b bits::F))(r:width<=32)(G:v<2^width)(c:v<=4294967295)(t:bits.length+width<=c8)(L:bz E (Wr b (bits++bn width v)::F) (K J)):aE 208 [bX b,.int .u32 (v:H),ni (width:H)] w K:=by refine vv.ok _ _ _ _ _ (Nw.mk h λg S u=>Ld.aH (s:=.ptr) u (V ⟨b,0,Z⟩) O (aa.f O (UC r G c (aa.f O (D3.ok _ _ _ _ ?_)))));refine Nw.mk u λy T M=>Nw.mk M λz N o=>?_;have o:Hp E N ([bq g [bX b] 236,Wr b (bits++(bn width v).take 0)]++(bq z [ni (width:H)] 3::bq y [.int .u32 (v:H)] 105::F)):=by{rw[Y7,ZG];exact o.p3.p3};have d:=jY width v;refine iP.z6 (k:=aC .u8) (x:=λi=>((v/2^(width-1-i)%2:I):H)) (n:=width) (λi=>[bq g [bX b] 236,Wr b (bits++(bn width v).take i)]) (λ_=>[DA]) o (RM r c) ?_ ?_ ?_;{intro P p i A j W X l a q _;have a:Hp E j (an P (p 0)::bq g [bX b] 236::Wr b (bits++(bn width v).take i)::A):=a;refine qQ.mk a λB m=>Ld.aH (s:=.ptr) m.p1 (V ⟨b,0,Z⟩) O (agM m.p2 Za Ze λY Q=>me.mk Q.p1 λR C=>q R ?_);have e:(bits++(bn width v).take i)++[v/2^(width-1-i)%2]=bits++(bn width v).take (i+1):=by{rw[Zm,Zz,Zg (by rw[d];exact l),<-yl width v i l,ee (by rw[d];exact l)];rfl};rw[e]at C;exact C.p2.p1};{intro D j a;have a:Hp E j (an D (.deferred (V []))::bq g [bX b] 236::Wr b (bits++(bn width v).take width)::bq z [ni (width:H)] 3::bq y [.int .u32 (v:H)] 105::F):=a;rw[Zt Za]at a;exact jm.z6 a λB m=>L B m.drop.p1.drop.p1.drop};intro i D j l a;exact(Hp.Kx a).elim
end
end
section
open Go Go.Vc Go.Srt
section
variable{E w:XZ}{F:Q HP}
theorem adw{l:Q I}{K:X4 G->H->ad}(h:Hp E w F)(r:l.length=258)(C:¬bF l<=32768->∀w',Hp E w' F->K (ai .u32 (Zh 258 0)) 2 w')(D:bF l<=32768->∀c w',dq l c->Hp E w' F->K (ai .u32 (cy l c c.length)) 0 w'):ah [.arr 258,kI] 210 [.agg (ai .u8 l)] w K:=by refine Dq.ok _ _ _ ?_;rw[zc];refine Nw.mk h λX w1 L=>Nw.mk L λY w2 A=>Ld.arr A.p1 (by rw[bC,r]) (Bo A r λw3 g=>?_);refine aa.mk (λf=>?_) λf=>?_;{have f:¬bF l<=32768:=by{simpa using f};refine Ld.arr g (by rw[bC];simp) (az.aH g (by rw[bC];simp) (by rw[bC];simp) gu λw4 t=>Ld.arr t (by rw[bC];simp) (C f w4 t.drop.drop))};have f:bF l<=32768:=by{simpa using f};refine Ld.arr g.p1 (by rw[bC,r]) (abf g r (λM=>Wh f M) λ_ c s w4 e t=>?_);have N:=t.br;simp only[ints,Zn,Zy]at N;have P:∀s∈c,s<258/\0<l.getD s 0:=λs hs=>by{have:=gb.1 (e.1.mem_iff.1 hs);rw[r]at this;exact this};have hlen:c.length<=258:=by{rw[e.1.length_eq,<-r];have:=Q.length_filter_le (λs=>decide (0<l.getD s 0)) (Zr l.length);simpa[used]using this};refine⟨λnx la i w'=>∃k n a:I,i=(k:H)/\nx=(n:H)/\la=(a:H)/\k<=c.length/\n*2^(15-a)=Srt.start l c k/\a<=15/\(∀j(R:j<c.length),k<=j->a<=l.getD c[j] 0)/\Hp E w' (av 1 s ((ints c).map vI)::an Y (.cells (ai .u32 (cy l c k)) 256 (0,0))::an X (.cells (ai .u8 l) 166 (0,0))::F),λ_ _ i _=>c.length-i.toNat,⟨0,0,0,O,O,O,Za,by simp[Srt.start],Za,λj R _=>Ya _,t⟩,?_⟩;intro nx la i w' hI;obtain⟨k,n,a,hi,M,S,hk,T,ha15,m,u⟩:=hI;subst hi;subst M;subst S;refine aa.mk (λd=>?_) λo=>?_;{have d:k<c.length:=by{have:=X9 d;omega};have v:=P _ (Zs d);have p:c[k]<l.length:=by{omega};have B:l.getD c[k] 0=l[c[k]]:=by{rw[Zl,Zg p];rfl};refine HV u Za (x:=(c[k]:H)) (by simp[ints,d]) ?_;refine aK.rd (s:=.int .u8) u.p2 Za Za (l[c[k]]:H) (by rw[Zk];exact iu p) ?_;have S:=m k d (Zw _);have y:=gk f c[k];rw[B]at S y v;rw[gW Za];refine⟨Za,?_⟩;have hd:Hp E {w' with drawn:=w'.drawn+1} _:=u.drew;refine⟨λw'=>∃cs,Hp E w' (av 1 s ((ints c).map vI)::an Y (.cells cs 256 (0,0))::an X (.cells (ai .u8 l) 166 (0,0))::F),⟨_,hd⟩,Za,Za,(l[c[k]]:H),?_,?_⟩;{rintro w2 ⟨cs,A⟩;rw[aj,A.p2.cell,Zk,Zi,Zy];exact iu p};have W:=pI (l:=l) d;have z:=nv e d;have hcl:=xG f e d;have hp15:2^l.getD c[k] 0<=2^15:=ZF Zb (gk f _);have q:n*2^(l[c[k]]-a)=ey l c k:=by{have L:n*2^(l[c[k]]-a)*sh l c[k]=ey l c k*sh l c[k]:=by{rw[z,<-T];unfold sh;rw[B,Y0,<-I.pow_add];congr 2;omega};exact Xs (Cs l c[k]) L};have e1:bT .u32 (n:H) ((l[c[k]]:H)-(a:H))=(ey l c k:H):=by{have hmx:YJ .u32=4294967295:=O;have:=dZ (k:=.u32) (a:=n) (b:=l[c[k]]-a) (by have:Wl.bits .u32=32:=O;omega) Ze;rw[q]at this;rw[<-this];congr 1;omega};rw[e1];refine aK.wr hd.p1 Za Za (by rw[bC,dJ]) O λw3 g=>?_;rw[Zk,BN]at g;refine⟨⟨_,g.p1⟩,?_⟩;rw[eo Za,af Za];refine⟨⟨k+1,ey l c k+1,l[c[k]],O,O,O,Za,?_,y,λj R hkj=>?_,?_⟩,by dsimp only;omega⟩;{rw[W,<-z];unfold sh;rw[B,Yf]};{rw[<-B];exact Ez e R Za};have:cy l c (k+1)=(cy l c k).set c[k] (ey l c k):=by{rw[cy,getD_at d]};rw[this];exact g.p1};have o:k=c.length:=by{have:=X5 o;omega};subst o;refine Ld.arr u.p1 (by rw[bC,dJ]) (az.aH u.p1 (by rw[bC,dJ]) (by rw[bC,dJ]) gu λw5 h5=>Ld.arr h5 (by rw[bC,dJ]) (D f c w5 e h5.drop.drop.drop))
end
def CK{l a:Q I}(b:l.length=258)(h:dq l a):∀s∈a,s<258/\0<l.getD s 0:=λs c=>by have:=gb.1 (h.1.mem_iff.1 c);rw[b]at this;exact this
def S6{l a:Q I}(b:l.length=258)(h:dq l a):a.length<=258:=by rw[h.1.length_eq,<-b];have:=Q.length_filter_le (λs=>decide (0<l.getD s 0)) (Zr l.length);simpa[used]using this
def Tx{l c zs:Q I}(h:dq l c)(d:dq l zs):c=zs:=by refine Q.Perm.eq_of_pairwise (le:=λa b=>l.getD a 0<l.getD b 0\/(l.getD a 0=l.getD b 0/\a<b)) ?_ h.2 d.2 (h.1.trans d.1.symm);intro a b _ _ e f;omega
def Um{l:Q I}{i:I}{k:Wl}(h:i<l.length):(ai k l)[((i:I):H).toNat]?=V (Sc.enc (.int k) (l.getD i 0:H)):=by rw[Zk,iu h,Zl,Zg h];rfl
end
section
open Go Go.Vc
set_option maxRecDepth 100000
def Gv.ok(a:(X4 G))(R:(X4 G)->H->ad) w(h:Nw 166 a w λc b=>Nw 170 ⟨Zh 258 (ao 0)++[(ni 0),(ni 0)]⟩ b λe d=>aI 258 c 0 d λf=>aE 282 [(.agg f)] d λh g=>aa (! h) (cZ Pg 170 [] λi=>az 260 (ar e 0) i g λj=>aI 260 e 0 j λk=>R k 2 j) (aI 258 c 0 g λl=>cZ Pg 170 [(0,(.agg l))] λm=>az 260 (ar e 0) m g λn=>aI 260 e 0 n λo=>R o 0 n)):ah [(.arr 260),kI] 217 [(.agg a)] w R:=co Tryz.f217 [] h
def EE.ok(a:(X4 G))(b:H)(R:(X4 G)->H->X3->ad) w(h:Nw 170 a w λd c=>Nw 170 ⟨Zh 258 (ao 0)++[(ni 0),(ni 0)]⟩ c λf e=>aZ (λ(q:XZ)=>aI 258 d 0 q λr=>aA d 258 q λs=>0<=(1:H)/\aA d 259 q λt=>cZ Pg 170 [(0,(.agg r)),(1,(ni (jv .i64 (bT .i64 s (1:H)) b))),(2,(ni (i64 (t+1))))] λu=>az 260 (ar f 0) u q λv=>aI 258 f 0 v λx=>aA f 259 v λy=>ah [kI,kI] 298 [(.agg x),(ni y)] v λ(B:H)(M:H) z=>aA f 258 z λN=>aw (N>=(i64 (B+M))) (aI 260 f 0 z λP=>az 260 (ar f 0) P z λC=>aI 260 f 0 C λQ=>R Q 0 U C) (aP z λA=>aI 258 f 0 A λD=>aA f 259 A λE=>aA f 258 A λF=>(aI 258 d 0 A λS=>cZ Pg 170 [(0,(.agg S))] λT=>bP 299 [(.agg D),(ni E),(ni (i64 (F-B)))] A λW X=>az 260 (ar f 0) T X λI=>aI 260 f 0 I λY=>R Y W J I)/\(bP 299 [(.agg D),(ni E),(ni (i64 (F-B)))] A λr1 K=>aI 258 d 0 K λs1=>cZ Pg 170 [(0,(.agg s1))] λt1=>az 260 (ar f 0) t1 K λL=>aI 260 f 0 L λv1=>R v1 r1 J L))) λg=>0<=(1:H)/\aa ((ba .i64 b (1:H)) !=0) (aI 260 d 0 e λh=>az 260 (ar f 0) h e λi=>aI 260 f 0 i λj=>R j 0 U i) (aI 260 d 0 e λk=>aE 297 [(.agg k)] e λm l=>aa (! m) (aI 260 d 0 l λn=>az 260 (ar f 0) n l λo=>aI 260 f 0 o λp=>R p 0 U o) (g l))):ah [(.arr 260),kI,kB] 219 [(.agg a),(ni b)] w R:=co Tryz.f219 [(2,[]),(17,[])] h
def Di.ok(a:(X4 G))(R:X3->ad) w(h:Nw 170 a w λc b=>aZ (λ(m:XZ)=>aI 258 c 0 m λn=>aA c 259 m λo=>ah [kI,kI] 298 [(.agg n),(ni o)] m λ(q:H)(r:H) p=>aA c 258 p λs=>R (Wb (s>=(i64 (q+r)))) p) λd=>aI 258 c 0 b λe=>aE 282 [(.agg e)] b λg f=>aa (! g) (R U f) (aA c 259 f λh=>aw (h<0) (R U f) (aA c 259 f λi=>aw (i>=15) (R U f) (aA c 258 f λj=>aw (j<0) (R U f) (aA c 258 f λk=>aA c 259 f λl=>0<=l/\aa ((ba .i64 k l) !=0) (R U f) (d f)))))):aE 297 [(.agg a)] w R:=co Tryz.f297 [(2,[])] h
def BH.ok(a:(X4 G))(b:H)(R:H->H->ad) w(h:Nw 166 a w λd c=>aI 258 d 0 c λe=>ah [(.st F9)] 351 [(.agg e)] c λg f=>Nw 436 ⟨Zh 16 (ni 0)⟩ f λi h=>aR i 0 (aF F9 g) h λj=>aK (ar i 0) 16 0 1 λk=>St k (ni 0) j λl=>cY 0 1 l λm n(o:H)(p:H) q=>aw (p<=b) (aK (ar i 0) 16 (i64 (p-1)) 1 λr=>bj r q λs=>0<=(1:H)/\m (bT .i64 (i64 (o+s)) (1:H)) (i64 (p+1)) q/\n (bT .i64 (i64 (o+s)) (1:H)) (i64 (p+1)) q<n o p q) (aP q λt=>aK (ar i 0) 16 b 1 λu=>bj u t λv=>R o v t)):ah [kI,kI] 298 [(.agg a),(ni b)] w R:=co Tryz.f298 [(9,[(4,kI),(7,kI)])] h
def IX.ok(a:(X4 G))(b:H)(c:H)(R:H->ad) w(h:Nw 166 a w λe d=>aI 258 e 0 d λf=>cY c 0 d λg h(i:H)(j:H) k=>aw (j<258) (fZ (.int .u8) f 258 j λ(l:H)=>aa ((i64 l) !=b) (g i (i64 (j+1)) k/\h i (i64 (j+1)) k<h i j k) (aa (i==0) (R j k) (g (i64 (i-1)) (i64 (j+1)) k/\h (i64 (i-1)) (i64 (j+1)) k<h i j k))) (R 0 k)):bP 299 [(.agg a),(ni b),(ni c)] w R:=co Tryz.f299 [(5,[(2,kI),(10,kI)])] h
end
end Go.Proofs.Q9
namespace Go.Srt
section
def cT(l:Q I):X3:=Wb (bF l=32768)&&Wb (0<l.getD 257 0)
def mB{l:Q I}:cT l=J↔bF l=32768/\0<l.getD 257 0:=by simp[cT]
def CE(l:Q I)(n p:I):I:=((Zr l.length).find? λs=>(l.getD s 0==n)&&(kF l s==p)).getD 0
def KD{l:Q I}{n p:I}(h:p<l.count n):CE l n p<l.length/\l.getD (CE l n p) 0=n/\kF l (CE l n p)=p:=by obtain⟨s,e,b,c⟩:=adn l n p h;unfold CE;cases hf:(Zr l.length).find? λs=>(l.getD s 0==n)&&(kF l s==p)with|none=>have:=List.find?_eq_none.1 hf s Ze;simp only[ZH,Wk]at this;exact Wh ⟨b,c⟩ this|some t=>have a:=Q.find?_some hf;have d:=Q.mem_of_find?_eq_some hf;simp only[ZH,Wk]at a;exact⟨by simpa using d,a⟩
def nH(l:Q I)(c b:I):Prop:=cT l=J/\b<15/\c<2^b/\fst l b+many l b<=c
def jI(l:Q I)(c b x:I):(I×I)×X7 I:=if fst l (b+1)+many l (b+1)<=2*c+x then((2*c+x,b+1),Z)else((0,0),V (CE l (b+1) (2*c+x-fst l (b+1))))
def nH.zero{l:Q I}(h:cT l=J):nH l 0 0:=⟨h,Zb,Zb,by simp[fst,many]⟩
def nH.ge{l:Q I}{c b:I}(h:nH l c b):fst l (b+1)<=2*c:=by rw[fst];have:=h.2.2.2;omega
def agz{l:Q I}(h:cT l=J):fst l 15+many l 15=32768:=by have b:=Ee l 15 Zb;have a:=aa5 (l:=l) (by rw[(mB.1 h).1];decide);rw[(mB.1 h).1]at a;rw[low]at a;omega
def nH.next{l:Q I}{c b x:I}(h:nH l c b)(e:x<=1):nH l (jI l c b x).1.1 (jI l c b x).1.2:=by unfold jI;split;{rename_i a;have f:(2:I)^(b+1)=2*2^b:=by{rw[Z8,Yb]};have g:=h.2.2.1;refine⟨h.1,?_,by show 2*c+x<2^(b+1);omega,a⟩;(rcases Yk (b+1) 15 with d|d);{exact d};have:b=14:=by{have:=h.2.1;omega};subst this;have:=agz h.1;have:(2:I)^14=16384:=by{decide};simp only[Z2]at a;omega};exact nH.zero h.1
def uN{l:Q I}{c b x s:I}(j:l.length=258)(h:nH l c b)(k:x<=1)(a:(jI l c b x).2=V s):s<258/\l.getD s 0=b+1/\code l s=2*c+x/\b<15:=by unfold jI at a;split at a;{cases a};rename_i m;have f:s=CE l (b+1) (2*c+x-fst l (b+1)):=by{injection a with a;exact a.symm};have g:=h.ge;have o:many l (b+1)=l.count (b+1):=by{unfold many;rw[K Za]};obtain⟨i,d,e⟩:=KD (l:=l) (n:=b+1) (p:=2*c+x-fst l (b+1)) Za;rw[<-f]at i d e;refine⟨Za,d,?_,h.2.1⟩;unfold code;rw[d,e];omega
def Ui{l:Q I}{c b x:I}(a:(jI l c b x).2=Z):(jI l c b x).1=(2*c+x,b+1):=by unfold jI at a⊢;split;{rfl};grind
def Tu{l:Q I}{c b x s:I}(a:(jI l c b x).2=V s):(jI l c b x).1=(0,0):=by unfold jI at a⊢;split;{grind};rfl
def CY{l:Q I}(a:l.length<=258):∀n,fst l n+516<=516*2^n|0=>by simp[fst]|n+1=>by have:=CY a n;have b:many l n<=258:=by{unfold many;split;{omega};grind};rw[fst,Z8];omega
def Eu{l:Q I}(a:l.length<=258)(n:I):many l n<=258:=by unfold many;split;{omega};grind
end
end Go.Srt
namespace Go.Proofs.Q9
section
open Go Go.Vc Go.Srt
section
variable{E w:XZ}{F:Q HP}
def o7{l:Q I}{i:I}{k:Wl}(h:i<l.length):(ai k l)[((i:I):H).toNat]?=V (Sc.enc (.int k) (l.getD i 0:H)):=by rw[Zk,iu h,ee h]
def Oo{l:Q I}{K:X3->ad}(h:Hp E w F)(a:l.length=258)(d:bz E F (K (Wb (bF l=32768)))):aE 337 [.agg (ai .u8 l)] w K:=by refine Dz.ok _ _ _ (Nw.mk h λb f c=>Ld.arr c (by rw[bC,a]) (B9 c a λg e=>?_));have:((bF l:H)==32768)=Wb (bF l=32768):=by{rw[Ye];simp;omega};rw[this];exact d _ e.drop
def zl{l:Q I}{K:X3->ad}(h:Hp E w F)(d:l.length=258)(e:bz E F (K (cT l))):aE 282 [.agg (ai .u8 l)] w K:=by refine Lu.ok _ _ _ (Nw.mk h λb g f=>Ld.arr f (by rw[bC,d]) (Oo f d λj a=>aa.mk (λc=>?_) λc=>?_));{refine aK.rd (s:=.int .u8) a Zb Zb (l.getD 257 0:H) (o7 (i:=257) Za) ?_;have:Wb ((l.getD 257 0:H)>0)=cT l:=by{unfold cT;rw[c,X3.true_and,Ye,Wm,Wm];omega};rw[this];exact e _ a.drop};have:U=cT l:=by{unfold cT;rw[c,X3.false_and]};rw[this];exact e _ a.drop
abbrev k16:Q Sc:=F9
def t16(f:I->H):TT k16:=(f 0,f 1,f 2,f 3,f 4,f 5,f 6,f 7,f 8,f 9,f 10,f 11,f 12,f 13,f 14,f 15,())
def agG(f:I->H):fN 16 f=⟨aF k16 (t16 f)⟩:=O
def aeH(f:I->H):∀v∈[(ni (f 0):G),ni (f 1),ni (f 2),ni (f 3),ni (f 4),ni (f 5),ni (f 6),ni (f 7),ni (f 8),ni (f 9),ni (f 10),ni (f 11),ni (f 12),ni (f 13),ni (f 14),ni (f 15)],aN v=J:=by intro v a;simp only[Xx,Wu.not_mem_nil,or_false]at a;rcases a with rfl|rfl|rfl|rfl|rfl|rfl|rfl|rfl|rfl|rfl|rfl|rfl|rfl|rfl|rfl|rfl<;>rfl
def Db:(⟨Zh 16 (ni 0)⟩:X4 G)=fN 16 λ_=>0:=O
theorem Uc{l:Q I}{K:TT k16->ad}(h:Hp E w F)(o:l.length=258)(m:∀x∈l,x<=15)(q:bz E F (K (t16 λj=>(l.count j:H)))):ah [.st k16] 351 [.agg (ai .u8 l)] w K:=by refine Iz.ok _ _ _ ?_;rw[Db];refine Nw.mk h λb z r=>Nw.mk r λu A p=>Ld.arr p.p1 (by rw[bC,o]) ?_;refine⟨λi w'=>∃k:I,i=(k:H)/\k<=258/\Hp E w' (an u (.cells (fN 16 λj=>((l.take k).count j:H)) 436 (0,0))::F),λi _=>258-i.toNat,⟨0,O,Za,?_⟩,?_⟩;{have:=p.p1.drop;rwa [jX (g:=λj=>((l.take 0).count j:H)) λi _=>Zd]at this};rintro i w' ⟨k,rfl,hk,hh⟩;refine aa.mk (λf=>?_) λa=>?_;{have f:k<258:=by{have:=X9 f;omega};have c:k<l.length:=by{omega};have n:∀x,(l.take k).count x<=258:=λx=>Yl Q.count_le_length Ze;refine fZ.rd (s:=.int .u8) Za Za (l[k]:H) (by rw[Zk];exact iu c) ?_;have v:=m _ (Zs c);rw[af (x:=(l[k]:H)) Za];refine aa.t (We Za) ?_;refine aK.rd (s:=.int .i64) hh Za Za ((l.take k).count l[k]:H) (by rw[Zk];exact Bx Za) ?_;have:=n l[k];refine aK.wr hh Za Za fO O λy d=>?_;rw[af Za,Zk,uw]at d;rw[af Za];refine⟨⟨k+1,O,Za,?_⟩,by dsimp only;omega⟩;rw[jX (g:=λj=>((l.take (k+1)).count j:H))]at d;{exact d};intro j B;rw[fV c];by_cases e:j=l[k];{grind};grind};have a:k=258:=by{have:=X5 a;omega};subst a;rw[<-o,Z4]at hh;refine Ld.GW hh (t16 λj=>(l.count j:H)) (agG _) (ax.aH hh (by rw[fO];rfl) (aeH λj=>(l.count j:H)) λy d=>?_);exact Ld.GW d (t16 λj=>(l.count j:H)) O (q _ d.drop)
def F4{l:Q I}{n:I}{K:H->H->ad}(h:Hp E w F)(r:l.length=258)(p:∀x∈l,x<=15)(D:n<=15)(A:bz E F (K (Srt.fst l n:H) (many l n:H))):ah [kI,kI] 298 [.agg (ai .u8 l),ni (n:H)] w K:=by refine BH.ok _ _ _ _ (Nw.mk h λb G q=>Ld.arr q (by rw[bC,r]) (Uc q.drop r p λL t=>?_));rw[Db];refine Nw.mk t λu M v=>ax.aH v (by rw[fO];rfl) (aeH λj=>(l.count j:H)) λB o=>?_;have o:Hp E B (an u (.cells (fN 16 λj=>(l.count j:H)) 436 (0,0))::F):=o;refine aK.wr o Zb Zb fO O λN y=>?_;rw[show(0:H).toNat=0 from O,uw,jX (g:=λj=>(many l j:H)) λi _=>by unfold many;by_cases e:i=0<;>simp[e]]at y;refine⟨λc m w'=>∃k:I,m=(k:H)+1/\k<=n/\c=(Srt.fst l k:H)/\Hp E w' (an u (.cells (fN 16 λj=>(many l j:H)) 436 (0,0))::F),λ_ m _=>18-m.toNat,⟨0,O,Za,O,y⟩,?_⟩;rintro c m w' ⟨k,rfl,hk,rfl,hh⟩;refine aa.mk (λf=>?_) λd=>?_;{have f:k<n:=by{have:=X9 f;omega};rw[af (x:=(k:H)+1-1) Za,show(k:H)+1-1=(k:H) by omega];refine aK.rd (s:=.int .i64) hh Za Za (many l k:H) (by rw[Zk];exact Bx Za) ?_;have q:=CY (l:=l) Za k;have t:=Eu (l:=l) Za k;have v:(2:I)^k<=2^15:=ZF Zb Za;have o:(2:I)^15=32768:=by{decide};rw[af (x:=(Srt.fst l k:H)+(many l k:H)) Za,af (x:=(k:H)+1+1) Za];have e:=dZ (k:=.i64) (a:=Srt.fst l k+many l k) (b:=1) Zb (by have:YJ .i64=9223372036854775807:=O;omega);have C:bT .i64 ((Srt.fst l k:H)+(many l k:H)) 1=(Srt.fst l (k+1):H):=by{rw[show(Srt.fst l k:H)+(many l k:H)=((Srt.fst l k+many l k:I):H) by omega,show(1:H)=((1:I):H)from O,e,Srt.fst];omega};rw[C];exact⟨Zb,⟨k+1,Za,Za,O,hh⟩,by dsimp only;omega⟩};have d:k=n:=by{have:=X5 d;omega};subst d;refine aP.mk hh λP z=>aK.rd (s:=.int .i64) z Za Za (many l k:H) (by rw[Zk];exact Bx Za) (A _ z.drop)
theorem ad2{l:Q I}{n p:I}{K:H->ad}(h:Hp E w F)(r:l.length=258)(j:∀x∈l,x<=15)(t:p<l.count n)(u:bz E F (K (CE l n p:H))):bP 299 [.agg (ai .u8 l),ni (n:H),ni (p:H)] w K:=by refine IX.ok _ _ _ _ _ ?_;have m:=KD t;refine Nw.mk h λb A o=>Ld.arr o (by rw[bC,r]) ?_;have v:l.count n<=258:=Yl Q.count_le_length Za;refine⟨λq i w'=>∃k:I,i=(k:H)/\k<=258/\(l.take k).count n<=p/\q=(p:H)-((l.take k).count n:H)/\Hp E w' F,λ_ i _=>258-i.toNat,⟨0,O,Za,Zd,Zd,o.drop⟩,?_⟩;rintro q i w' ⟨k,rfl,hk,hc,rfl,hh⟩;refine aa.mk (λf=>?_) λy=>?_;{have f:k<258:=by{have:=X9 f;omega};have a:k<l.length:=by{omega};have z:=j _ (Zs a);have g:=fV a n;refine fZ.rd (s:=.int .u8) Za Za (l[k]:H) (by rw[Zk];exact iu a) ?_;rw[af (x:=(l[k]:H)) Za,af (x:=(k:H)+1) Za];refine aa.mk (λc=>?_) λd=>aa.mk (λe=>?_) λe=>?_;{have c:l[k]≠n:=by{rw[bne_iff_ne]at c;omega};rw[X8 c]at g;exact⟨⟨k+1,O,Za,Za,Za,hh⟩,by dsimp only;omega⟩};{have d:l[k]=n:=by{have:=bne_eq_false_iff_eq.1 d;omega};have e:(l.take k).count n=p:=by{rw[Wk]at e;omega};have:k=CE l n p:=by{refine Kg a m.1 Ze ?_;rw[m.2.2];unfold kF;rw[ee a,d,e]};rw[this];exact u _ hh};have d:l[k]=n:=by{have:=bne_eq_false_iff_eq.1 d;omega};have e:(l.take k).count n≠p:=by{have:=beq_eq_false_iff_ne.1 e;omega};rw[X0 d]at g;rw[af Za];exact⟨⟨k+1,O,Za,Za,Za,hh⟩,by dsimp only;omega⟩};grind
def gv(l:Q I)(c b:I):X4 G:=⟨(l.map λ(n:I)=>Yx .u8 (n:H))++[ni (c:H),ni (b:H)]⟩
def dw{l:Q I}{c b:I}(a:l.length=258):(gv l c b).size=260:=by simp[gv,a]
def gm{l:Q I}{c b:I}:∀v∈(gv l c b).toList,aN v=J:=by intro v a;unfold gv at a;simp only[Xi,Q.mem_map,Xx,Q.not_mem_nil,or_false]at a;rcases a with⟨n,_,rfl⟩|rfl|rfl<;>rfl
def iG(l:Q I)(c b:I):gv l c b=⟨[]++(l.map λ(n:I)=>Yx .u8 (n:H))++[ni (c:H),ni (b:H)]⟩:=O
def zd{l:Q I}{c b:I}(a:l.length=258):(gv l c b)[258]?=V (Sc.enc (.int .i64) (c:H)):=by unfold gv;rw[Q.getElem?_toArray,ZK (by simp[a])];simp[a]
def uE{l:Q I}{c b:I}(a:l.length=258):(gv l c b)[259]?=V (Sc.enc (.int .i64) (b:H)):=by unfold gv;rw[Q.getElem?_toArray,ZK (by simp[a])];simp[a]
def Ie:(⟨Zh 258 (ao 0)++[ni 0,ni 0]⟩:X4 G)=gv (Zh 258 0) 0 0:=by unfold gv;rw[Q.map_replicate];rfl
def Ao(a:Q (I×G)):Tryz.prog.built 170 a=YM (#[(0,258),(258,1),(259,1)][·]?) ⟨Zh 258 (ao 0)++[ni 0,ni 0]⟩ a:=Zc
def H9{l:Q I}(a:l.length=258)(rest:Q (I×G)):YM (#[(0,258),(258,1),(259,1)][·]?) ⟨Zh 258 (ao 0)++[ni 0,ni 0]⟩ ((0,.agg (ai .u8 l))::rest)=YM (#[(0,258),(258,1),(259,1)][·]?) (gv l 0 0) rest:=by have:=kC (place:=(#[(0,258),(258,1),(259,1)][·]?)) (i:=0) (v:=.agg (ai .u8 l)) (rest:=rest) (pre:=[]) (bB:=Zh 258 (ao 0)) (post:=[ni 0,ni 0]) O O ZO (by show(ai .u8 l).size=_;rw[bC,a]);exact this
def aev{l:Q I}{c a b:I}(d:l.length=258)(rest:Q (I×G)):YM (#[(0,258),(258,1),(259,1)][·]?) (gv l a b) ((1,ni (c:H))::rest)=YM (#[(0,258),(258,1),(259,1)][·]?) (gv l c b) rest:=by have:=kC (place:=(#[(0,258),(258,1),(259,1)][·]?)) (i:=1) (v:=ni (c:H)) (rest:=rest) (pre:=l.map λ(n:I)=>Yx .u8 (n:H)) (bB:=[ni (a:H)]) (post:=[ni (b:H)]) O (by simp[d]) O O;unfold gv;rw[show(l.map λ(n:I)=>Yx .u8 (n:H))++[ni (a:H),ni (b:H)]=(l.map λ(n:I)=>Yx .u8 (n:H))++[ni (a:H)]++[ni (b:H)] by simp,this];congr 2;simp[G.cells]
def afR{l:Q I}{c a b:I}(d:l.length=258)(rest:Q (I×G)):YM (#[(0,258),(258,1),(259,1)][·]?) (gv l c a) ((2,ni (b:H))::rest)=YM (#[(0,258),(258,1),(259,1)][·]?) (gv l c b) rest:=by have:=kC (place:=(#[(0,258),(258,1),(259,1)][·]?)) (i:=2) (v:=ni (b:H)) (rest:=rest) (pre:=(l.map λ(n:I)=>Yx .u8 (n:H))++[ni (c:H)]) (bB:=[ni (a:H)]) (post:=[]) O (by simp[d]) O O;unfold gv;rw[show(l.map λ(n:I)=>Yx .u8 (n:H))++[ni (c:H),ni (a:H)]=(l.map λ(n:I)=>Yx .u8 (n:H))++[ni (c:H)]++[ni (a:H)]++[] by simp,this];congr 2;simp[G.cells]
def cZ.st0{l:Q I}{K:X4 G->Prop}(a:l.length=258)(b:K (gv l 0 0)):cZ Zj 170 [(0,.agg (ai .u8 l))] K:=⟨gv l 0 0,by rw[Ao,H9 a];rfl,b⟩
def cZ.st3{l:Q I}{c b:I}{K:X4 G->Prop}(a:l.length=258)(d:K (gv l c b)):cZ Zj 170 [(0,.agg (ai .u8 l)),(1,ni (c:H)),(2,ni (b:H))] K:=⟨gv l c b,by rw[Ao,H9 a,aev a,afR a];rfl,d⟩
def cZ.stZ{K:X4 G->Prop}(a:K (gv (Zh 258 0) 0 0)):cZ Zj 170 [] K:=⟨_,Ao [],by rw[Ie];exact a⟩
def agc{l:Q I}{K:X4 G->H->ad}(h:Hp E w F)(a:l.length=258)(e:cT l=U->∀w',Hp E w' F->K (gv (Zh 258 0) 0 0) 2 w')(f:cT l=J->∀w',Hp E w' F->K (gv l 0 0) 0 w'):ah [.arr 260,kI] 217 [.agg (ai .u8 l)] w K:=by refine Gv.ok _ _ _ ?_;rw[Ie];have d:(gv (Zh 258 0) 0 0).size=260:=dw ZO;refine Nw.mk h λb n k=>Nw.mk k λo p j=>Ld.arr j.p1 (by rw[bC,a]) (zl j a λq g=>aa.mk (λi=>?_) λi=>?_);{exact cZ.stZ (az.aH g d d gm λm c=>Ld.arr c d (e (by simpa using i) _ c.drop.drop))};exact Ld.arr g.p1 (by rw[bC,a]) (cZ.st0 a (az.aH g d (dw a) gm λm c=>Ld.arr c (dw a) (f (by simpa using i) _ c.drop.drop)))
def aeB{l:Q I}(h:cT l=J):∀x∈l,x<=15:=λx a=>by obtain⟨i,b,rfl⟩:=Z1 a;have:=gk (l:=l) (by rw[(mB.1 h).1];decide) i;rwa [ee b]at this
def Qq{l:Q I}{c b:I}{K:X3->ad}(h:Hp E w F)(d:l.length=258)(q:b<15)(o:c<2^b)(j:bz E F (K (cT l&&Wb (Srt.fst l b+many l b<=c)))):aE 297 [.agg (gv l c b)] w K:=by refine Di.ok _ _ _ ?_;simp only[bK,aj,Zi];refine Nw.mk h λr t k=>?_;rw[iG]at k;have i:(l.map λ(n:I)=>Yx .u8 (n:H)).length=258:=by{simp[d]};refine Ld.sub k O i (zl k d λu a=>aa.mk (λg=>?_) λg=>?_);{have g:cT l=U:=by{simpa using g};rw[g,X3.false_and]at j;exact j _ a.drop};have g:cT l=J:=by{simpa using g};rw[g,X3.true_and]at j;rw[<-iG]at a;have v:(2:I)^b<=2^15:=ZF Zb Za;have p:(2:I)^15=32768:=Zb;refine Ld.aH (s:=.int .i64) a (b:H) (uE d) (aa.f (Wd Za) ?_);refine Ld.aH (s:=.int .i64) a (b:H) (uE d) (aa.f (Wd Za) ?_);refine Ld.aH (s:=.int .i64) a (c:H) (zd d) (aa.f (Wd Za) ?_);refine Ld.aH (s:=.int .i64) a (c:H) (zd d) (Ld.aH (s:=.int .i64) a (b:H) (uE d) ⟨Za,?_⟩);rw[db (by have:Wl.bits .i64=64:=O;omega),Xb o];refine aa.f Zb ?_;rw[iG]at a;refine Ld.sub a O i ?_;rw[<-iG]at a;refine Ld.aH (s:=.int .i64) a (b:H) (uE d) (F4 a d (aeB g) Za λx m=>Ld.aH (s:=.int .i64) m (c:H) (zd d) ?_);have k:=CY (l:=l) Za b;have a:=Eu (l:=l) Za b;rw[af Za];have e:Wb ((c:H)>=(Srt.fst l b:H)+(many l b:H))=Wb (Srt.fst l b+many l b<=c):=by{rw[Ye,Wm,Wm];omega};rw[e];exact j _ m.drop
theorem Rw{c x:I}(f:x<=1)(g:c<16384):jv .i64 (bT .i64 (c:H) 1) (x:H)=((2*c+x:I):H):=by have h:YJ .i64=9223372036854775807:=O;have e:=dZ (k:=.i64) (a:=c) (b:=1) Zb Za;have d:c*2^1|||x=2*c+x:=by{have:=YZ (i:=1) (b:=x) Za c;rw[Yb c,<-this,Yb]};rw[show(1:H)=((1:I):H)from O,e,mO Za Za Ze,d]
def afT{l:Q I}{c b x:I}{K:X4 G->H->X3->ad}(h:Hp E w F)(a:l.length=258)(j:nH l c b)(B:x<=1)(m:∀w',Hp E w' F->K (gv l (jI l c b x).1.1 (jI l c b x).1.2) (((jI l c b x).2.getD 0:I):H) (jI l c b x).2.isSome w'):ah [.arr 260,kI,kB] 219 [.agg (gv l c b),ni (x:H)] w K:=by refine EE.ok _ _ _ _ ?_;simp only[bK,aj,Zi];rw[Ie];have C:(gv (Zh 258 0) 0 0).size=260:=dw ZO;have d:(l.map λ(n:I)=>Yx .u8 (n:H)).length=258:=by{simp[a]};have hp:(2:I)^b<=2^14:=ZF Zb (by have:=j.2.1;omega);have D:(2:I)^14=16384:=Zb;have L:=j.2.2.1;have M:=j.2.1;have k:=aeB j.1;refine Nw.mk h λb4 w1 N=>Nw.mk N λb6 w2 A=>?_;have P:ba .i64 (x:H) 1=0:=by{rw[show(1:H)=((1:I):H)from O,db Zb];omega};rw[P];refine⟨Zb,aa.f Zb ?_⟩;refine Ld.arr A.p1 (dw a) (Qq A a M L λw3 u=>?_);refine aa.f (by rw[j.1,We j.2.2.2];rfl) ?_;have o:=u.p1;rw[iG l c b]at o;refine Ld.sub o O d (Ld.aH (s:=.int .i64) u.p1 (c:H) (zd a) ⟨Zb,Ld.aH (s:=.int .i64) u.p1 (b:H) (uE a) ?_⟩);rw[Rw B Za,af (x:=(b:H)+1) Za];refine cZ.st3 (b:=b+1) a (az.aH u C (dw a) gm λw4 z=>?_);have p:=z;rw[iG l (2*c+x) (b+1)]at p;refine Ld.sub p O d (Ld.aH (s:=.int .i64) z ((b+1:I):H) (uE a) (F4 z a k Za λw5 v=>Ld.aH (s:=.int .i64) v ((2*c+x:I):H) (zd a) ?_));have hf:=CY (l:=l) Za (b+1);have hm:=Eu (l:=l) Za (b+1);have R:(2:I)^(b+1)=2*2^b:=by{rw[Z8,Yb]};rw[af Za];by_cases hcase:Srt.fst l (b+1)+many l (b+1)<=2*c+x;{refine aa.t (We Za) (Ld.arr v (dw a) (az.aH v (dw a) (dw a) gm λS i=>Ld.arr i (dw a) ?_));have e:jI l c b x=((2*c+x,b+1),Z):=by{unfold jI;rw[X0 hcase]};rw[e]at m;exact m _ i.drop.drop};refine aa.f (Wd Za) ?_;have e:jI l c b x=((0,0),V (CE l (b+1) (2*c+x-Srt.fst l (b+1)))):=by{unfold jI;rw[X8 hcase]};rw[e]at m;have T:=j.ge;have W:many l (b+1)=l.count (b+1):=by{unfold many;rw[X8 Za]};refine aP.mk v λS i=>?_;have q:=i;rw[iG l (2*c+x) (b+1)]at q;refine Ld.sub q O d (Ld.aH (s:=.int .i64) i ((b+1:I):H) (uE a) (Ld.aH (s:=.int .i64) i ((2*c+x:I):H) (zd a) ?_));rw[af (x:=((2*c+x:I):H)-(Srt.fst l (b+1):H)) Za,show((2*c+x:I):H)-(Srt.fst l (b+1):H)=((2*c+x-Srt.fst l (b+1):I):H) by omega];constructor;{have g:=i.p1;rw[iG l c b]at g;refine Ld.sub g O d (cZ.st0 a (ad2 i a k Za λX y=>?_));exact az.aH y (dw a) (dw a) gm λY r=>Ld.arr r (dw a) (m _ r.drop.drop)};refine ad2 i a k Za λX y=>?_;have g:=y.p1;rw[iG l c b]at g;refine Ld.sub g O d (cZ.st0 a ?_);exact az.aH y (dw a) (dw a) gm λY r=>Ld.arr r (dw a) (m _ r.drop.drop)
end
end
end Go.Proofs.Q9
namespace Go.Srt
section
def oC(l:Q I)(z:H):X3:=Wb (0<=z)&&Wb (z<258)&&Wb (0<l.getD z.toNat 0)
def o8(l:Q I)(zs:Q H):X3:=zs.all (oC l)
def nq(l:Q I)(zs:Q H):Q I:=enc l (zs.map H.toNat)
def yi{l:Q I}{z:H}:oC l z=J↔0<=z/\z<258/\0<l.getD z.toNat 0:=by simp[oC,and_assoc]
def H8{l:Q I}{zs:Q H}(h:o8 l zs=J){z:H}(a:z∈zs):oC l z=J:=List.all_eq_true.1 h z a
def T7{l:Q I}{zs:Q H}{k:I}(a:k<zs.length)(h:oC l zs[k]=U):o8 l zs=U:=by cases ha:o8 l zs with|false=>rfl|true=>have:=H8 ha (Zs a);rw[h]at this;cases this
def FN{zs:Q H}{k:I}(a:k<zs.length):zs.take (k+1)=zs.take k++[zs[k]]:=by rw[Zz,Zg a];rfl
def Qs{l:Q I}{zs:Q H}{k:I}(a:k<zs.length)(h:o8 l (zs.take k)=J)(b:oC l zs[k]=J):o8 l (zs.take (k+1))=J:=by unfold o8 at h⊢;rw[FN a,Q.all_append,h];simp[b]
def F2{l:Q I}{zs:Q H}{k:I}(a:k<zs.length):nq l (zs.take (k+1))=nq l (zs.take k)++DO l zs[k].toNat:=by unfold nq;rw[FN a,ZC,abZ];congr 1;simp[enc]
def HQ(l:Q I)(s:I):(DO l s).length=l.getD s 0:=jY _ _
def qd{l:Q I}(a:bF l<=32768):∀zs:Q H,(nq l zs).length<=15*zs.length|[]=>by simp[nq,enc]|z::zs=>by have:=qd a zs;have b:=gk a z.toNat;unfold nq at this⊢;rw[ZX,BE,Zf,HQ,Zp];omega
end
end Go.Srt
namespace Go.Proofs.Q9
section
open Go Go.Vc Go.Srt Go.Bits
section
variable{E w:XZ}{F:Q HP}
def af0{l:Q I}{s:Sl}{zs:Q H}{K:H->H->ad}(h:Hp E w F)(y:l.length=258)(z:ae F (aO 1 s (zs.map vI)))(M:zs.length<=100000)(o:¬(bF l<=32768/\o8 l zs=J)->∀w',Hp E w' F->K 0 2 w')(t:bF l<=32768->o8 l zs=J->∀w',Hp E w' F->K ((nq l zs).length:H) 0 w'):ah [kI,kI] 209 [.agg (ai .u8 l),ak s] w K:=by refine ED.ok _ _ _ _ ?_;have u:=(h.aq z).1;simp only[Zn,Zy]at u;refine Nw.mk h λb N d=>Ld.arr d (by rw[bC,y]) (Bo d y λB A=>aa.mk (λe=>o (λa=>by simp[a.1]at e) B A.drop) λe=>?_);have e:bF l<=32768:=by{simpa using e};refine⟨λn i w'=>∃k:I,i=(k:H)/\k<=zs.length/\n=((nq l (zs.take k)).length:H)/\o8 l (zs.take k)=J/\Hp E w' (an b (.cells (ai .u8 l) 166 (0,0))::F),λ_ i _=>zs.length-i.toNat,⟨0,O,Za,O,O,A⟩,?_⟩;rintro n i w' ⟨k,rfl,hk,rfl,hg,a⟩;refine aa.mk (λc=>?_) λf=>?_;{have c:k<zs.length:=by{have:=X9 c;omega};have g:oC l zs[k]=U->K 0 2 w':=λC=>o (λa=>by rw[T7 c C]at a;exact Wh a.2 Zb) w' a.drop;refine aB.rd (a.aq (ae.cons z)) Za Za λq P D=>Ld.sc (s:=.int .i64) zs[k] (by rw[D];simp[vI,Sc.enc]) ?_;refine aa.mk (λr=>g ?_) λr=>aa.mk (λd=>g ?_) λd=>?_;{have:=X9 r;unfold oC;rw[Wd (show¬0<=zs[k] by omega)];rfl};{have:=X9 d;unfold oC;rw[Wd (show¬zs[k]<258 by omega)];simp};have r:=X5 r;have d:=X5 d;obtain⟨m,G⟩:∃m:I,zs[k]=(m:H):=⟨zs[k].toNat,Za⟩;have j:zs[k].toNat=m:=by{omega};rw[G];refine aK.rd (s:=.int .u8) a Za Za (l.getD m 0:H) (o7 Za) (aa.mk (λp=>g ?_) λp=>?_);{have:l.getD m 0=0:=by{rw[Wk]at p;omega};unfold oC;rw[j,this];simp};have p:0<l.getD m 0:=by{have:=beq_eq_false_iff_ne.1 p;omega};refine aK.rd (s:=.int .u8) a Za Za (l.getD m 0:H) (o7 Za) ?_;have L:=gk e m;have v:=qd e (zs.take k);rw[Zx]at v;rw[af (x:=(l.getD m 0:H)) Za,af (x:=((nq l (zs.take k)).length:H)+(l.getD m 0:H)) Za,af Za];refine⟨⟨k+1,O,Za,?_,Qs c hg (yi.2 ⟨Za,Za,by rw[j];exact p⟩),a⟩,by dsimp only;omega⟩;rw[F2 c,Zf,HQ,j];omega};have f:k=zs.length:=by{have:=X5 f;omega};subst f;rw[Z4]at hg⊢;exact t e hg w' a.drop
def ad5{l:Q I}{s:Sl}{zs:Q H}{b:I}{a:Q I}{K:H->ad}(h:Hp E w (Wr b a::F))(g:l.length=258)(r:ae F (aO 1 s (zs.map vI)))(T:zs.length<=100000)(N:a.length<=100000000)(u:¬(bF l<=32768/\o8 l zs=J)->∀w',Hp E w' (Wr b a::F)->K 2 w')(v:bF l<=32768->o8 l zs=J->∀w',Hp E w' (Wr b (a++nq l zs)::F)->K 0 w'):bP 139 [bX b,.agg (ai .u8 l),ak s] w K:=by refine GB.ok _ _ _ _ _ ?_;simp only[bK];have y:=(h.aq (ae.cons r)).1;simp only[Zn,Zy]at y;rw[zc];refine Nw.mk h λW w1 P=>Ld.arr P (by rw[bC,g]) (af0 P g (ae.cons (ae.cons r)) T (λz R o=>?_) λj S R o=>?_);{exact aa.f O (aa.t Zb (u z R o.drop))};refine aa.f O (aa.f Zb (Ld.arr o (by rw[bC,g]) (adw o g (λz=>Wh j z) λ_ p w3 A X=>?_)));refine Nw.mk X λB w4 Y=>az.aH Y (by rw[bC];simp) (by rw[bC,dJ]) gu λw5 h5=>?_;refine⟨λi w'=>∃k:I,i=(k:H)/\k<=zs.length/\Hp E w' (Wr b (a++nq l (zs.take k))::an B (.cells (ai .u32 (cy l p p.length)) 256 (0,0))::an W (.cells (ai .u8 l) 166 (0,0))::F),λi _=>zs.length-i.toNat,⟨0,O,Za,?_⟩,?_⟩;{rw[Y7];have e:nq l []=[]:=O;rw[e,ZG];exact h5.p2};rintro i w' ⟨k,rfl,hk,hh⟩;refine aa.mk (λc=>?_) λd=>?_;{have c:k<zs.length:=by{have:=X9 c;omega};refine aB.rd (hh.aq (ae.cons (ae.cons (ae.cons r)))) Za Za λq hq hc=>Ld.sc (s:=.int .i64) zs[k] (by rw[hc];simp[vI,Sc.enc]) ?_;obtain⟨g1,g2,C⟩:=yi.1 (H8 S (Zs c));obtain⟨m,hm⟩:∃m:I,zs[k]=(m:H):=⟨zs[k].toNat,Za⟩;have n:zs[k].toNat=m:=by{omega};rw[n]at C;rw[hm];refine aP.mk hh λw6 D=>aK.rd (s:=.int .u32) D.p1 Za Za ((cy l p p.length).getD m 0:H) (o7 (by rw[dJ];omega)) ?_;refine aK.rd (s:=.int .u8) D.p2 Za Za (l.getD m 0:H) (o7 Za) ?_;have G:=gk j m;rw[af (x:=(l.getD m 0:H)) Za,Ds g j A Za C,af (x:=(k:H)+1) Za];have L:=DZ g j Za C;have hp:2^l.getD m 0<=2^15:=ZF Zb G;have hp2:(2:I)^15=32768:=by{decide};have M:=qd j (zs.take k);rw[Zx]at M;refine QV D Za L Za (by rw[Zf,aU];omega) λw7 h7=>⟨⟨k+1,Za,Za,?_⟩,by dsimp only;omega⟩;rw[F2 c,n,<-Zm];exact h7};have d:k=zs.length:=by{have:=X5 d;omega};subst d;rw[Z4]at hh;exact v j S w' (hh.p1.drop.p1.drop)
end
end
end Go.Proofs.Q9
namespace Go.an
section
open Go.Inc Go.Srt Go.Sym Go.Bits
structure CS where
 c:I
 n:I
 d:DS
 acc:Q I
def eE(l:Q I)(s:CS)(x:I):tT CS (Q I) I:=match dh l (2*s.c+x) (s.n+1)with|none=>.more ⟨2*s.c+x,s.n+1,s.d,s.acc⟩|some y=>match cu s.d y with|none=>.bad 160|some (_,t,true)=>.fin (s.acc++t)|some (a,t,false)=>.more ⟨0,0,a,s.acc++t⟩
def s9{l:Q I}{s:CS}{x:I}(h:dh l (2*s.c+x) (s.n+1)=Z):eE l s x=.more ⟨2*s.c+x,s.n+1,s.d,s.acc⟩:=by unfold eE;rw[h]
def zo{l:Q I}{s:CS}{x y:I}(h:dh l (2*s.c+x) (s.n+1)=V y):eE l s x=match cu s.d y with|none=>.bad 160|some (_,t,true)=>.fin (s.acc++t)|some (a,t,false)=>.more ⟨0,0,a,s.acc++t⟩:=by unfold eE;rw[h]
section
variable{l:Q I}
theorem MI(g:l.length=258)(i:bF l<=32768){s:I}(j:iB l s)(a acc:Q I)(d:DS):∀k m,m+k=l.getD s 0->0<k->run (eE l) ⟨code l s/2^(l.getD s 0-m),m,d,acc⟩ ((bn (l.getD s 0) (code l s)).drop m++a)=(match cu d s with|none=>.bad 160|some (_,t,true)=>.fin (acc++t) a|some (q,t,false)=>run (eE l) ⟨0,0,q,acc++t⟩ a)|0,_,_,h=>Za|k+1,m,x,_=>by have u:=gk i s;have r:=jY (l.getD s 0) (code l s);have f:m<(bn (l.getD s 0) (code l s)).length:=Za;rw[Zu f,ZL];have v:(bn (l.getD s 0) (code l s))[m]=code l s/2^(l.getD s 0-1-m)%2:=by{rw[<-yl _ _ _ Za,ee f]};have n:2*(code l s/2^(l.getD s 0-m))+(bn (l.getD s 0) (code l s))[m]=code l s/2^(l.getD s 0-(m+1)):=by{rw[v,show l.getD s 0-m=(l.getD s 0-1-m)+1 by omega,Z8,<-I.div_div_eq_div_mul,show l.getD s 0-(m+1)=l.getD s 0-1-m by omega];omega};by_cases e:k=0;{subst e;have w:m+1=l.getD s 0:=by{omega};have o:dh l (2*(code l s/2^(l.getD s 0-m))+(bn (l.getD s 0) (code l s))[m]) (m+1)=V s:=by{rw[n,w,Y3,I.pow_zero,I.div_one,pT g j]};have c:=zo (s:=⟨code l s/2^(l.getD s 0-m),m,d,acc⟩) o;rw[da,c,ZT Za,ZW];cases hd:cu d s with|none=>rfl|some p=>obtain⟨q,t,b⟩:=p;cases b<;>rfl};have o:dh l (2*(code l s/2^(l.getD s 0-m))+(bn (l.getD s 0) (code l s))[m]) (m+1)=Z:=by{rw[n,Fh g i j Za]};have c:=s9 (s:=⟨code l s/2^(l.getD s 0-m),m,d,acc⟩) o;rw[dF c];simp only;rw[n];exact MI g i j a acc d k (m+1) Za Za
theorem aeq(c:l.length=258)(e:bF l<=32768){s:I}(b:iB l s)(a acc:Q I)(d:DS):run (eE l) ⟨0,0,d,acc⟩ (DO l s++a)=match cu d s with|none=>.bad 160|some (_,t,true)=>.fin (acc++t) a|some (f,t,false)=>run (eE l) ⟨0,0,f,acc++t⟩ a:=by have h:=MI c e b a acc d (l.getD s 0) 0 Za b.2;have g:=DZ c e b.1 b.2;rw[YT,Xb g,Yr]at h;exact h
theorem Qi(g:l.length=258)(i:bF l<=32768):∀(c a acc:Q I)(d:DS),(∀s∈c,iB l s)->run (eE l) ⟨0,0,d,acc⟩ (enc l c++a)=(match run k9 (d,acc) c with|.bad e=>.bad e|.fin t r=>.fin t (enc l r++a)|.short (f,acc')=>run (eE l) ⟨0,0,f,acc'⟩ a)|[],a,acc,d,_=>rfl|s::c,a,acc,d,h=>by rw[BE,Zm,aeq g i (h s Zd),da];cases hd:cu d s with|none=>rw[MQ hd]|some p=>obtain⟨f,t,b⟩:=p;cases b with|true=>rw[DR hd]|false=>rw[vZ hd];exact Qi g i c a _ f λt j=>h t (by simp[j])
end
end
end Go.an
namespace Go.Tab
section
open Go.Inc
structure TS where
 l:Q I
 bits:I
 now:I
 way:I
def t0:TS:=⟨[],0,0,0⟩
def bM(ok:Q I->X3)(s:TS)(b:I):tT TS (Q I) I:=if s.bits<4 then .more ⟨s.l,s.bits+1,2*s.now+b,s.way⟩else if s.bits=4 then if b=0 then if s.l.length+1<258 then .more ⟨s.l++[s.now],4,s.now,0⟩else if ok (s.l++[s.now])then .fin (s.l++[s.now])else .bad 100 else .more ⟨s.l,5,s.now,s.way⟩else if b=0 then if s.way≠2/\s.now<15 then .more ⟨s.l,4,s.now+1,1⟩else .bad 100 else if s.way≠1/\0<s.now then .more ⟨s.l,4,s.now-1,2⟩else .bad 100
def rl:I->Q I|0=>[]|k+1=>1::0::rl k
def kn:I->Q I|0=>[]|k+1=>1::1::kn k
def fB(a b:I):Q I:=(if b<a then kn (a-b)else rl (b-a))++[0]
def fL:I->Q I->Q I|_,[]=>[]|was,n::l=>fB was n++fL n l
def four(n:I):Q I:=[n/8%2,n/4%2,n/2%2,n%2]
def ic(l:Q I):Q I:=four (l.headD 0)++fL (l.headD 0) l
section
variable{ok:Q I->X3}
theorem MF:∀(k:I)(l:Q I)(a b:I)(r:Q I),b≠2->a+k<=15->∃c,run (bM ok) ⟨l,4,a,b⟩ (rl k++r)=run (bM ok) ⟨l,4,a+k,c⟩ r|0,l,a,b,r,_,_=>⟨b,O⟩|k+1,l,a,b,r,d,g=>by obtain⟨c,h⟩:=MF k l (a+1) 1 r Zb Za;refine⟨c,?_⟩;have e:bM ok ⟨l,4,a,b⟩ 1=.more ⟨l,5,a,b⟩:=O;have f:bM ok ⟨l,5,a,b⟩ 0=.more ⟨l,4,a+1,1⟩:=by{simp only[bM];rw[K Zb,K Zb,X0 trivial,X0 ⟨d,Za⟩]};show run (bM ok) ⟨l,4,a,b⟩ (1::0::(rl k++r))=_;rw[dF e,dF f,h,show a+1+k=a+(k+1) by omega]
theorem Fs:∀(k:I)(l:Q I)(a b:I)(r:Q I),b≠1->k<=a->∃c,run (bM ok) ⟨l,4,a,b⟩ (kn k++r)=run (bM ok) ⟨l,4,a-k,c⟩ r|0,l,a,b,r,_,_=>⟨b,O⟩|k+1,l,a,b,r,d,g=>by obtain⟨c,h⟩:=Fs k l (a-1) 2 r Zb Za;refine⟨c,?_⟩;have e:bM ok ⟨l,4,a,b⟩ 1=.more ⟨l,5,a,b⟩:=O;have f:bM ok ⟨l,5,a,b⟩ 1=.more ⟨l,4,a-1,2⟩:=by{simp only[bM];rw[K Zb,K Zb,K Zb,X0 ⟨d,Za⟩]};show run (bM ok) ⟨l,4,a,b⟩ (1::1::(kn k++r))=_;rw[dF e,dF f,h,show a-1-k=a-(k+1) by omega]
def adj(l:Q I)(a n:I)(r:Q I)(c:a<=15)(d:n<=15):∃b,run (bM ok) ⟨l,4,a,0⟩ (fB a n++r)=run (bM ok) ⟨l,4,n,b⟩ (0::r):=by unfold fB;rw[Zm];split;{obtain⟨b,h⟩:=Fs (ok:=ok) (a-n) l a 0 ([0]++r) Zb Za;exact⟨b,by rw[h,show a-(a-n)=n by omega];rfl⟩};obtain⟨b,h⟩:=MF (ok:=ok) (n-a) l a 0 ([0]++r) Zb Za;exact⟨b,by rw[h,show a+(n-a)=n by omega];rfl⟩
theorem H3:∀(m:Q I)(l:Q I)(a:I)(r:Q I),m≠[]->a<=15->(∀x∈m,x<=15)->l.length+m.length=258->ok (l++m)=J->run (bM ok) ⟨l,4,a,0⟩ (fL a m++r)=.fin (l++m) r|[],_,_,_,h,_,_,_,_=>Wh O h|n::m,l,a,r,_,hw,hm,hl,hok=>by rw[fL,Zm];obtain⟨b,h⟩:=adj (ok:=ok) l a n (fL n m++r) hw (hm n ZM);rw[h];cases m with|nil=>refine qj ?_;simp only[Zp,ZP]at hl;simp only[bM];rw[K Zb,X0 trivial,X0 trivial,K Za,X0 hok]|cons x m=>simp only[Zp]at hl;have c:bM ok ⟨l,4,n,b⟩ 0=.more ⟨l++[n],4,n,0⟩:=by{simp only[bM];rw[K Zb,X0 trivial,X0 trivial,X0 Za]};rw[dF c,H3 (x::m) (l++[n]) n r Zd (hm n ZM) (λy d=>hm y (ZB _ d)) Ze Ze,Zm];rfl
theorem Gj{l:Q I}(r:Q I)(d:l.length=258)(b:∀x∈l,x<=15)(a:ok l=J):run (bM ok) t0 (ic l++r)=.fin l r:=by unfold ic;rw[Zm];have c:l.headD 0<=15:=by{cases l with|nil=>simp at d|cons x l=>exact b x ZM};have f:run (bM ok) t0 (four (l.headD 0)++(fL (l.headD 0) l++r))=run (bM ok) ⟨[],4,l.headD 0,0⟩ (fL (l.headD 0) l++r):=by{generalize l.headD 0=n at c⊢;have e:2*(2*(2*(2*0+n/8%2)+n/4%2)+n/2%2)+n%2=n:=by{omega};show run (bM ok) ⟨[],4,2*(2*(2*(2*0+n/8%2)+n/4%2)+n/2%2)+n%2,0⟩ _=_;rw[e];rfl};rw[f];exact H3 l [] (l.headD 0) r Ze c b Ze a
end
end
end Go.Tab
namespace Go.an
section
open Go.Inc Go.Srt Go.Sym Go.Bits Go.Tab Go.Hd Go.Crc Go.Bw
def aX(b:Q I):Q I:=bitsOf b (8*b.length)
def cJ(b:Q I):(aX b).length=8*b.length:=Po _ _
def oA(a b:Q I):aX (a++b)=aX a++aX b:=by unfold aX bitsOf;rw[Zf,I.mul_add,Q.range_add,ZC];congr 1;{refine Z3 λi c=>?_;rw[YV]at c;unfold cQ;rw[YB,YB,ZJ Za]};rw[YF];refine Z3 λi c=>?_;simp only[XQ];unfold cQ;rw[YB,YB,ZK Za,show(8*a.length+i)/8-a.length=i/8 by omega,show(8*a.length+i)%8=i%8 by omega]
def gN(b:Q I):I:=8*((b.length+7)/8)-b.length
def EB(b:Q I):gN b<8:=by unfold gN;omega
def xA{b:Q I}(h:Bits b):aX (pack b)=b++Zh (gN b) 0:=by unfold aX bitsOf gN;rw[nP];refine YO λi=>?_;rw[ZR];by_cases hi:i<8*((b.length+7)/8);{rw[Yq hi,YD];unfold pack;rw[I8 h hi];by_cases hb:i<b.length;{grind};grind};grind
def body(l a:Q I):Q I:=ic l++enc l (syms a)
def ng(l x:Q I):Q I:=mc x.length (cj x.reverse) (cB x)++pack (body l (bH x.reverse))
def lz(left:Q I):X3:=(left.take (left.length%8)).all (·==0)
def mX(M:I)(a:Q I):Except I (Q I×Q I):=match run (bM cT) t0 a with|.short _=>.error 50|.bad e=>.error e|.fin l more=>match run (eE l) ⟨0,0,⟨Zr 256,M,0,0⟩,[]⟩ more with|.short _=>.error 50|.bad e=>.error e|.fin last left=>.ok (last,left)
def dz(P b:I)(a:Q I):Except I (Q I):=if okB a P then(if cB (dn a P).reverse=b then .ok (dn a P).reverse else .error 250)else .error 170
def dv(n:I)(b:Q I):Except I (Q I×Q I):=match run (aQ n) dN b with|.short _=>.error 50|.bad e=>.error e|.fin (.tail _) _=>.error 242|.fin (.aH M P sum) rest=>match mX M (aX rest)with|.error e=>.error e|.ok (last,left)=>if lz left then(match dz P sum last with|.error e=>.error e|.ok x=>.ok (x,rest.drop (rest.length-left.length/8)))else .error 160
def Ka:∀k,Bits (rl k)|0=>(λx a=>by cases a)|k+1=>λx a=>by(rcases List.mem_cons.1 a with h|h);{omega};(rcases List.mem_cons.1 h with h|h);{omega};exact Ka k x h
def CM:∀k,Bits (kn k)|0=>(λx a=>by cases a)|k+1=>λx a=>by(rcases List.mem_cons.1 a with h|h);{omega};(rcases List.mem_cons.1 h with h|h);{omega};exact CM k x h
def Ur(a b:I):Bits (fB a b):=by unfold fB;refine Bits.app ?_ (λx c=>by rw[ZE]at c;omega);split;{exact CM _};exact Ka _
def EY:∀(m:Q I)(a:I),Bits (fL a m)|[],_=>(λx b=>by cases b)|n::m,a=>Bits.app (Ur a n) (EY m n)
def E3(l:Q I):Bits (ic l):=Bits.app (λx a=>by simp[four]at a;omega) (EY _ _)
def xR(l a:Q I):Bits (body l a):=Bits.app (E3 l) (TL _ _)
section
variable{l:Q I}
structure ra (l last:Q I):Prop where
 len:l.length=258
 ok:cT l=J
 good:∀s∈syms last,iB l s
def ra.v{a:Q I}(h:ra l a):bF l<=32768:=by rw[(mB.1 h.ok).1];decide
def xV(h:cT l=J):∀x∈l,x<=15:=λx a=>by obtain⟨i,b,rfl⟩:=List.mem_iff_getElem.1 a;have:=gk (l:=l) (by rw[(mB.1 h).1];decide) i;rwa [ee b]at this
def acm{a:Q I}(b:ra l a)(c:cd a)(r:Q I):run (eE l) ⟨0,0,⟨Zr 256,a.length,0,0⟩,[]⟩ (enc l (syms a)++r)=.fin a r:=by rw[Qi b.len b.v _ _ _ _ b.good];have:=FU c [];rw[ZG]at this;rw[this];simp[enc]
def SK{a:Q I}(b:ra l a)(c:cd a)(r:Q I):mX a.length (body l a++r)=.ok (a,r):=by unfold mX body;rw[Zm,Gj _ b.len (xV b.ok) b.ok];simp only;rw[acm b c]
theorem Lm{n M P b:I}(c:0<M)(d:M<=n)(f:0<P)(g:P<=M)(h:b<4294967296)(a:Q I):dv n (mc M P b++a)=match mX M (aX a)with|.error e=>.error e|.ok (last,left)=>if lz left then(match dz P b last with|.error e=>.error e|.ok x=>.ok (x,a.drop (a.length-left.length/8)))else .error 160:=by unfold dv;rw[yz c d f g h]
def Fx(b:Q I)(z:Q I):lz (Zh (gN b) 0++aX z)=J:=by unfold lz;have:=EB b;rw[Zf,ZO,cJ,show(gN b+8*z.length)%8=gN b by omega,Q.take_append_of_le_length Zd,Zt Zd];simp
theorem K8{n P sum:I}{a:Q I}(b:ra l a)(c:cd a)(d:0<a.length)(f:a.length<=n)(g:0<P)(h:P<=a.length)(i:sum<4294967296)(z:Q I):dv n (mc a.length P sum++pack (body l a)++z)=match dz P sum a with|.error e=>.error e|.ok x=>.ok (x,z):=by rw[Zm,Lm d f g h i,oA,xA (xR _ _),Zm,SK b c];simp only;rw[X0 (Fx _ z)];have:=EB (body l a);have e:(pack (body l a)++z).drop ((pack (body l a)++z).length-(Zh (gN (body l a)) 0++aX z).length/8)=z:=by{rw[Zf,Zf,ZO,cJ,show(gN (body l a)+8*z.length)/8=z.length by omega,I.add_sub_cancel,XN]};rw[e]
def sX{t:Q I}(h:0<t.length):0<cj t/\cj t<=t.length:=by refine⟨?_,oo t⟩;(rcases Z5 (cj t)with e|e);{have:=tQ (t:=t) (i:=0) (k:=t.length) Za Za (by rw[Mh];exact e);omega};exact e
def K5(x:Q I):dz (cj x.reverse) (cB x) (bH x.reverse)=.ok x:=by obtain⟨a,b⟩:=S4 x.reverse;unfold dz;rw[X0 a,b,Q.reverse_reverse,X0 O]
theorem PD{n:I}{x:Q I}(b:ra l (bH x.reverse))(c:∀y∈bH x.reverse,y<256)(d:cd x)(f:0<x.length)(g:x.length<=n)(z:Q I):dv n (ng l x++z)=.ok (x,z):=by have e:(bH x.reverse).length=x.length:=by{rw[ed,ZY]};have a:=sX (t:=x.reverse) Ze;rw[ZY]at a;have:=K8 (n:=n) (P:=cj x.reverse) (sum:=cB x) b c Za Za a.1 Za (lH d) z;rw[e,K5]at this;exact this
end
end
end Go.an
namespace Go.Stm
section
open Go.Inc Go.Srt Go.Sym Go.Bits Go.Tab Go.Hd Go.Crc Go.Bw Go.an
def sK(n:I)(x:Q I):Q (Q I):=if _h:x=[]\/n=0 then[]else x.take n::sK n (x.drop n)
termination_by x.length
decreasing_by have a:x≠[]:=λe=>_h (.inl e);have b:n≠0:=λe=>_h (.inr e);have:=List.length_pos_iff.2 a;rw[ZA];omega
def cn(n:I)(a:Q (Q I)):Q (Q I):=a.flatMap (sK n)
def vQ(n:I):sK n []=[]:=by rw[sK];simp
def Bn{n:I}{x:Q I}(h:x≠[])(a:0<n):sK n x=x.take n::sK n (x.drop n):=by rw[sK,dif_neg Ze]
def S3{n:I}(a:0<n)(x:Q I):(sK n x).flatten=x:=by induction hk:x.length using ZU generalizing x with|ind k b=>by_cases h:x=[];{rw[h,vQ];rfl};have:=List.length_pos_iff.2 h;rw[Bn h a,Yc,b (x.drop n).length Ze (x.drop n) O,Zv]
def VO{n:I}(b:0<n)(x:Q I):∀y∈sK n x,0<y.length/\y.length<=n/\∀c∈y,c∈x:=by induction hk:x.length using ZU generalizing x with|ind k d=>by_cases h:x=[];{rw[h,vQ];intro y a;cases a};have:=List.length_pos_iff.2 h;rw[Bn h b];intro y a;(rcases List.mem_cons.1 a with h|h);{grind};grind
def r8{n:I}(b:0<n)(a:Q (Q I)):(cn n a).flatten=a.flatten:=by induction a with|nil=>rfl|cons x l c=>rw[cn,Yn,Xf,S3 b,Yc];exact Wn _ c
def HI{n:I}(d:0<n){a:Q (Q I)}:∀y∈cn n a,0<y.length/\y.length<=n/\∀c∈y,c∈a.flatten:=by intro y b;obtain⟨x,e,b⟩:=List.mem_flatMap.1 b;obtain⟨f,g,h⟩:=VO d x y b;exact⟨f,g,λc i=>List.mem_flatten.2 ⟨x,e,h c i⟩⟩
section
variable(L:Q I->Q I)
def pg(x:Q I):Q I:=ng (L x) x
def blocks(l:Q (Q I)):Q I:=l.flatMap (pg L)
def eQ(n:I)(a:Q (Q I)):Q I:=qM n++(blocks L (cn n a)++jc (cB a.flatten))
def fz:Prop:=∀x:Q I,0<x.length->(cd x)->ra (L x) (bH x.reverse)
end
def fU(n:I):I->Q I->Q (Q I)->Q (Q I)×I|0,_,acc=>(acc,50)|k+1,b,acc=>match run (aQ n) dN b with|.short _=>(acc,50)|.bad e=>(acc,e)|.fin (.tail s) rest=>(acc,if s≠cB acc.flatten then 260 else if rest≠[]then 261 else 0)|.fin (.aH _ _ _) _=>match dv n b with|.error e=>(acc,e)|.ok (x,behind)=>fU n k behind (acc++[x])
def eP(c:Q I):Q (Q I)×I:=match run bU ⟨0,0⟩ c with|.short _=>([],50)|.bad e=>([],e)|.fin n rest=>fU n (rest.length+1) rest []
def F0{n:I}{b d:Q I}{m:Mk}(h:run (aQ n) dN b=.fin m d):d.length<b.length:=by obtain⟨a,c,f,e,_,_⟩:=r0 h;rw[e];simp;omega
def oE{n:I}{b x a:Q I}(h:dv n b=.ok (x,a)):a.length<b.length:=by unfold dv at h;cases hr:run (aQ n) dN b with|short s=>(rw[hr]at h;cases h)|bad e=>(rw[hr]at h;cases h)|fin m r=>have c:=F0 hr;rw[hr]at h;cases m with|tail s=>(cases h)|aH M P s=>simp only at h;cases hc:mX M (aX r)with|error e=>(rw[hc]at h;cases h)|ok p=>rw[hc]at h;simp only at h;split at h;{grind};cases h
def FY(n:I):∀(k m:I)(b:Q I)(acc:Q (Q I)),b.length<k->b.length<m->fU n k b acc=fU n m b acc|0,_,_,_,h,_=>Za|_,0,_,_,_,h=>Za|k+1,m+1,b,acc,a,c=>by unfold fU;cases run (aQ n) dN b with|short s=>rfl|bad e=>rfl|fin mk r=>cases mk with|tail s=>rfl|aH M P s=>simp only;cases hu:dv n b with|error e=>rfl|ok p=>have:=oE hu;exact FY n k m p.2 _ Za Za
def lW(n:I)(b:Q I)(acc:Q (Q I)):Q (Q I)×I:=fU n (b.length+1) b acc
def AN(n:I)(b:Q I)(acc:Q (Q I)):lW n b acc=match run (aQ n) dN b with|.short _=>(acc,50)|.bad e=>(acc,e)|.fin (.tail s) rest=>(acc,if s≠cB acc.flatten then 260 else if rest≠[]then 261 else 0)|.fin (.aH _ _ _) _=>match dv n b with|.error e=>(acc,e)|.ok (x,behind)=>lW n behind (acc++[x]):=by unfold lW;rw[fU];cases run (aQ n) dN b with|short s=>rfl|bad e=>rfl|fin mk r=>cases mk with|tail s=>rfl|aH M P s=>simp only;cases hu:dv n b with|error e=>rfl|ok p=>have:=oE hu;exact FY n _ _ p.2 _ Za Za
def u6(c:Q I):eP c=match run bU ⟨0,0⟩ c with|.short _=>([],50)|.bad e=>([],e)|.fin n rest=>lW n rest []:=O
section
variable{L:Q I->Q I}{n:I}
theorem Sa(e:fz L){x:Q I}(a:0<x.length)(d:x.length<=n)(b:cd x)(f:∀y∈bH x.reverse,y<256)(r:Q I)(acc:Q (Q I)):lW n (pg L x++r) acc=lW n r (acc++[x]):=by have c:=sX (t:=x.reverse) Ze;rw[ZY]at c;rw[AN];have g:run (aQ n) dN (pg L x++r)=.fin (.aH x.length (cj x.reverse) (cB x)) (pack (body (L x) (bH x.reverse))++r):=by{unfold pg ng;rw[Zm,yz a d c.1 c.2 (lH b)]};rw[g];simp only;have:=PD (n:=n) (e x a b) f b a d r;unfold pg;rw[this]
theorem xj(a:fz L)(b:∀x:Q I,(cd x)->∀y∈bH x.reverse,y<256):∀(l:Q (Q I))(r:Q I)(acc:Q (Q I)),(∀x∈l,0<x.length/\x.length<=n/\∀c∈x,c<256)->lW n (blocks L l++r) acc=lW n r (acc++l)|[],r,acc,_=>by simp[blocks]|x::l,r,acc,h=>by obtain⟨e,f,d⟩:=h x ZM;rw[blocks,Yn,Zm,Sa a e f d (b x d)];have:=xj a b l r (acc++[x]) λy g=>h y (ZB _ g);unfold blocks at this;rw[this,Zm];rfl
def RO{s:I}(a:s<4294967296)(r:Q I)(acc:Q (Q I)):lW n (jc s++r) acc=(acc,if s≠cB acc.flatten then 260 else if r≠[]then 261 else 0):=by rw[AN,Fb a]
def OV{x:Q I}(a:cd x):∀y∈bH x.reverse,y<256:=yQ λy b=>a y (List.mem_reverse.1 b)
def n9(b:0<n){a:Q (Q I)}(d:∀c∈a.flatten,c<256):∀x∈cn n a,0<x.length/\x.length<=n/\∀c∈x,c<256:=λx e=>by obtain⟨f,g,h⟩:=HI b x e;exact⟨f,g,λc i=>d c (h c i)⟩
def QC(b:fz L)(d:0<n)(a:n<=65536){l:Q (Q I)}(e:∀x∈l,0<x.length/\x.length<=n/\∀c∈x,c<256)(r:Q I):eP (qM n++(blocks L l++r))=lW n r l:=by rw[u6,Tg d a];simp only;rw[xj b (λx f=>OV f) l r [] e];rfl
def QW(e:fz L)(a:0<n)(b:n<=65536){parts:Q (Q I)}(d:∀c∈parts.flatten,c<256)(r:Q I):eP (eQ L n parts++r)=(cn n parts,if r≠[]then 261 else 0):=by unfold eQ;rw[Zm,Zm,QC e a b (n9 a d),RO (lH d),r8 a];simp
end
end
end Go.Stm
namespace Go.Vc
section
open Go
def aT(t:Q H):X4 G:=⟨t.map vI⟩
def gC{t:Q H}:(aT t).size=t.length:=by simp[aT]
def Cz{t:Q H}{i:I}(h:i<t.length):(aT t)[i]?=V (Sc.enc (.int .i64) (t.getD i 0)):=by simp[aT,h,vI,YB]
def mE{t:Q H}:∀v∈(aT t).toList,aN v=J:=by intro v a;simp only[aT,Q.mem_map]at a;obtain⟨x,_,rfl⟩:=a;rfl
def aer{t:Q H}{i:I}{x:H}:(aT t).setIfInBounds i (ni x)=aT (t.set i x):=by unfold aT;apply Xw;simp[Xz,vI]
def D7{n:I}:(⟨Zh n (ni 0)⟩:X4 G)=aT (Zh n 0):=by unfold aT;simp[vI]
def B5.aT{n:I}{a b:Q H}{K:X3->Prop}(c:a.length=n)(d:b.length=n)(h:K (a==b)):B5 .i64 n (aT a) (aT b) K:=⟨a,b,O,O,c,d,h⟩
def Bi{l:Q H}{i j:I}{x:H}(a:i<l.length):(l.set i x).getD j 0=if j=i then x else l.getD j 0:=Ze
section
variable{E w:XZ}{F:Q HP}
def aK.aT{b n:I}{t:Q H}{a:Wa}{c:I×I}{i:H}{j:I}{K:H->Prop}(h:Hp E w (an b (.cells (Vc.aT t) a c)::F))(d:i=(j:H))(f:t.length=n)(g:j<n)(e:K (t.getD j 0)):aK ⟨b,0,Z⟩ n i 1 λq=>Ld kI q w K:=by subst d;exact aK.rd (s:=.int .i64) h Za Za _ (by rw[Zk];exact Cz Za) e
def aK.aTS{S:ad}{b n:I}{t:Q H}{a:Wa}{c:I×I}{i:H}{j:I}{K:H->Prop}(d:∀w,S w->∃G,Hp E w (an b (.cells (Vc.aT t) a c)::G))(e:i=(j:H))(g:t.length=n)(h:j<n)(f:K (t.getD j 0)):aK ⟨b,0,Z⟩ n i 1 λq=>aM kI q S K:=by subst e;refine⟨Za,Za,?_⟩;rw[aj];exact aM.aH (s:=.int .i64) d _ (by rw[Zk,Zy,Zi];exact Cz Za) f
def aK.Oz{b n:I}{t:Q H}{a:Wa}{i:H}{j:I}{v:H}{K:ad}(h:Hp E w (an b (.cells (Vc.aT t) a (0,0))::F))(c:i=(j:H))(d:t.length=n)(f:j<n)(e:bz E (an b (.cells (Vc.aT (t.set j v)) a (0,0))::F) K):aK ⟨b,0,Z⟩ n i 1 λq=>St q (ni v) w K:=by subst c;exact aK.wr h Za Za (by rw[gC,d]) O (by rw[Zk,aer];exact e)
def fZ.aT{n:I}{t:Q H}{i:H}{j:I}{K:H->Prop}(a:i=(j:H))(c:t.length=n)(d:j<n)(b:K (t.getD j 0)):fZ (.int .i64) (Vc.aT t) n i K:=by subst a;exact fZ.rd (s:=.int .i64) Za Za _ (by rw[Zk];exact Cz Za) b
def aB.nI{s:Sl}{zs:Q H}{i:H}{j:I}{K:H->Prop}(a:aO 1 s (zs.map vI) w)(b:i=(j:H))(c:j<zs.length)(d:K (zs.getD j 0)):aB s i 1 λq=>Ld kI q w K:=by subst b;have e:=a.1;simp only[Zn,Zy]at e;refine aB.rd a Za Za λp g f=>Ld.sc (s:=.int .i64) _ ?_ d;rw[f];simp[vI,YB,c]
def aB.nB{s:Sl}{a:Q I}{i:H}{j:I}{K:H->Prop}(b:aO 1 s (a.map vB) w)(c:i=(j:H))(d:j<a.length)(e:K (a.getD j 0:H)):aB s i 1 λq=>Ld (aC .u8) q w K:=by subst c;have f:=b.1;simp only[Zn,Zy]at f;refine aB.rd b Za Za λp h g=>Ld.sc (s:=.int .u8) (a.getD j 0:H) ?_ e;rw[g];simp[vB,YB,d]
def aB.ahN{s:Sl}{a:Q I}{i:H}{j x:I}{K:ad}(b:Hp E w (av 1 s (a.map vB)::F))(d:i=(j:H))(f:j<a.length)(h:bz E (av 1 s ((a.set j x).map vB)::F) K):aB s i 1 λq=>St q (ao (x:H)) w K:=by subst d;have e:=b.br;rw[Zn,Zy]at e;refine St.own b Za Za O λw' c=>h w' ?_;rw[Zk]at c;rw[Xz];exact c
end
end
end Go.Vc
namespace Go.Hs
section
open Go Go.Vc
def cV(t:Q H):X3:=t.all λx=>decide (0<=x)&&Wb (x<=2147483647)
def lu{t:Q H}:cV t=J↔∀i,i<t.length->0<=t.getD i 0/\t.getD i 0<=2147483647:=by unfold cV;rw[XJ];constructor;{intro h i a;have:=h t[i] (Zs a);simpa[YB,a]using this};intro h x b;obtain⟨i,a,rfl⟩:=Z1 b;simpa[YB,a]using h i a
def aaz{t:Q H}{i:I}(a:i<t.length)(h:¬(0<=t.getD i 0/\t.getD i 0<=2147483647)):cV t=U:=by cases hv:cV t with|false=>rfl|true=>exact Wh (lu.1 hv i a) h
def pw(z:H):X3:=Wb (0<=z)&&Wb (z<258)
def tm{z:H}:pw z=J↔0<=z/\z<258:=by simp[pw]
def inc(t:Q H)(z:H):Q H:=t.set z.toNat (t.getD z.toNat 0+1)
def j0(t:Q H)(zs:Q H):Q H:=zs.foldl inc t
def DG(t:Q H)(z:H):(inc t z).length=t.length:=XW ..
def tz:∀(zs t:Q H),(j0 t zs).length=t.length|[],_=>rfl|z::zs,t=>by show(j0 (inc t z) zs).length=_;rw[tz zs,DG]
def JZ(t zs:Q H)(z:H):j0 t (zs++[z])=inc (j0 t zs) z:=by simp[j0]
def Mx{t:Q H}{z:H}(a:pw z=J)(b:t.length=258)(i:I):(inc t z).getD i 0=t.getD i 0+if z=(i:H)then 1 else 0:=by rw[tm]at a;unfold inc;rw[Bi Za];by_cases h:z=(i:H);{grind};grind
def zy:∀{zs t:Q H},zs.all pw=J->t.length=258->∀i:I,(j0 t zs).getD i 0=t.getD i 0+(zs.count (i:H):H)|[],t,_,_,i=>by simp[j0]|z::zs,t,h,ht,i=>by rw[Q.all_cons,ZH]at h;show(j0 (inc t z) zs).getD i 0=_;rw[zy h.2 (by rw[DG,ht]),Mx h.1 ht,Q.count_cons];by_cases e:z=(i:H);{rw[X0 e,X0 (by simp[e])];omega};rw[K e,K (by simp[e])];omega
def jM(t zs:Q H):X7 (Q H):=if cV t&&zs.all pw&&cV (j0 t zs)then V (j0 t zs)else Z
def erO(o:X7 (Q H)):H:=if o.isSome then 0 else 2
def JH{t zs:Q H}(h:cV t=U):jM t zs=Z:=by simp[jM,h]
def TP{t zs:Q H}{k:I}(a:k<zs.length)(h:pw (zs.getD k 0)=U):jM t zs=Z:=by unfold jM;rw[K];intro b;simp only[ZH]at b;have:=List.all_eq_true.1 b.1.2 zs[k] (Zs a);simp[YB,a,this]at h
def lV(zs:Q H)(z:H)(k:I):(zs.take k).count z<=zs.count z:=by have:zs.count z=(zs.take k).count z+(zs.drop k).count z:=by{rw[<-Q.count_append,Zv]};omega
def Rc{t zs:Q H}{k:I}(b:t.length=258)(c:k<zs.length)(f:(zs.take k).all pw=J)(g:pw (zs.getD k 0)=J)(h:2147483647<=(j0 t (zs.take k)).getD (zs.getD k 0).toNat 0):jM t zs=Z:=by unfold jM;rw[K];intro a;simp only[ZH]at a;have i:=tm.1 g;have d:=lu.1 a.2 (zs.getD k 0).toNat (by rw[tz];omega);rw[zy a.1.2 b]at d;rw[zy f b]at h;have e:(((zs.getD k 0).toNat:I):H)=zs.getD k 0:=Za;rw[e]at d h;have j:=lV zs (zs.getD k 0) (k+1);have l:(zs.take (k+1)).count (zs.getD k 0)=(zs.take k).count (zs.getD k 0)+1:=by{rw[Zz,Zg c,Q.count_append];simp[YB,c]};omega
def uD{zs:Q H}{k:I}(a:k<zs.length):zs.take (k+1)=zs.take k++[zs.getD k 0]:=by rw[Zz,Zg a];simp[YB,a]
def Ju{t zs:Q H}(a:cV t=J)(b:zs.all pw=J)(c:cV (j0 t zs)=J):jM t zs=V (j0 t zs):=by simp[jM,a,b,c]
def Sm{t zs u:Q H}(h:jM t zs=V u):cV t=J/\zs.all pw=J/\u=j0 t zs/\cV u=J:=by unfold jM at h;split at h;{grind};cases h
end
end Go.Hs
namespace Go.Proofs.Q9
section
open Go Go.Vc
set_option maxRecDepth 100000
def RN.ok(a:(X4 G))(R:H->ad) w(h:Nw 166 a w λc b=>cY 0 0 b λd e(f:H)(g:H) h=>aw (g<258) (aK (ar c 0) 258 g 1 λi=>dD i h λj=>aw (j>15) (R 32769 h) (aK (ar c 0) 258 g 1 λk=>dD k h λl=>aw (l>0) (aK (ar c 0) 258 g 1 λm=>dD m h λn=>0<=(u64 (i64 ((15:H)-(i64 n))))/\d (i64 (f+(bT .i64 (1:H) (u64 (i64 ((15:H)-(i64 n))))))) (i64 (g+1)) h/\e (i64 (f+(bT .i64 (1:H) (u64 (i64 ((15:H)-(i64 n))))))) (i64 (g+1)) h<e f g h) (d f (i64 (g+1)) h/\e f (i64 (g+1)) h<e f g h))) (R f h)):bP 304 [(.agg a)] w R:=co Tryz.f304 [(7,[(3,kI),(4,kI)])] h
def vE.ok(a:(X4 G))(b:H)(R:(X4 G)->H->XZ->Prop) w(h:Nw 231 a w λd c=>Nw 166 ⟨Zh 258 (.int .u8 0)⟩ c λf e=>Ld (.arr 258) ⟨d,0,Z⟩ e λg=>Cl Pg [kS] 203 ⟨[(.agg g)]⟩ e λ(i:Sl) h=>aZ (λ(N:XZ)=>aa ((i.len:H)==1) (aB i 0 1 λb1=>Ld kI b1 N λ(c1:H)=>aK ⟨f,0,Z⟩ 258 c1 1 λd1=>St d1 (.int .u8 1) N λT=>Ld (.arr 258) ⟨f,0,Z⟩ T λf1=>az 258 ⟨f,0,Z⟩ f1 T λW=>Ld (.arr 258) ⟨f,0,Z⟩ W λh1=>R h1 0 W) (Ld (.arr 258) ⟨d,0,Z⟩ N λi1=>Cl Pg [kS] 205 ⟨[(.agg i1),(ak i)]⟩ N λ(k1:Sl) j1=>Nw 298 ⟨[(ak k1)]⟩ j1 λm1 l1=>cY (⟨V ⟨m1,0,Z⟩,1,1⟩:Sl) 1 l1 λn1 X(F:Sl)(I:H) Q=>aa (Wb (I<b)) (di Q λK t1=>aB F 0 1 λu1=>aM kS u1 K λ(v1:Sl)=>aB F (i64 (I-1)) 1 λx1=>aM kS x1 K λ(y1:Sl)=>Cl Pg [kS] 206 ⟨[(ak v1),(ak y1)]⟩ t1 λ(a2:Sl) Y=>K Y/\Nw 298 ⟨[(ak a2)]⟩ Y λc2 b2=>K b2/\aG Pg (ZD #[300,300] 300 ⟨[(ak F),(ak (⟨V ⟨c2,0,Z⟩,1,1⟩:Sl))]⟩) kS b2 λ(e2:Sl) S=>K S/\n1 e2 (i64 (I+1)) S/\X e2 (i64 (I+1)) S<X F I Q) (cY (i64 ((i64 ((2:H)*(i.len:H)))-2)) (i64 (b-1)) Q λf2 g2(L:H)(M:H) C=>aZ (λ(r2:XZ)=>aB F M 1 λs2=>Ld kS s2 r2 λ(t2:Sl)=>cG t2 0 L (t2).cap 2 λu2=>cY 0 0 r2 λv2 P(A:H)(B:H) D=>aa (Wb (B<(u2.len:H))) (aB u2 B 2 λb3=>Ld (.st [.int .i64,.bool]) b3 D λc3=>Nw 303 ⟨[(ni 0),(.bool U)]⟩ D λe3 d3=>ax ⟨e3,0,Z⟩ [(ni c3.1),(.bool c3.2.1)] 0 d3 λE=>Ld kB (ZZ ⟨e3,0,Z⟩ 1) E λ(g3:X3)=>aa g3 (aB i A 1 λh3=>Ld kI h3 E λ(i3:H)=>aK ⟨f,0,Z⟩ 258 i3 1 λj3=>Ld (aC .u8) j3 E λ(k3:H)=>aK ⟨f,0,Z⟩ 258 i3 1 λl3=>St l3 (.int .u8 (u8 (k3+1))) E λm3=>v2 (i64 (A+1)) (i64 (B+1)) m3/\P (i64 (A+1)) (i64 (B+1)) m3<P A B D) (v2 A (i64 (B+1)) E/\P A (i64 (B+1)) E<P A B D)) (f2 (i64 ((2:H)*(i64 (L-A)))) (i64 (M-1)) D/\g2 (i64 ((2:H)*(i64 (L-A)))) (i64 (M-1)) D<g2 L M C)) λk2=>aa (Wb (M>=0)) (aa (Wb (L>0)) (k2 C) (Ld (.arr 258) ⟨f,0,Z⟩ C λl2=>az 258 ⟨f,0,Z⟩ l2 C λm2=>Ld (.arr 258) ⟨f,0,Z⟩ m2 λn2=>R n2 0 m2)) (Ld (.arr 258) ⟨f,0,Z⟩ C λo2=>az 258 ⟨f,0,Z⟩ o2 C λp2=>Ld (.arr 258) ⟨f,0,Z⟩ p2 λq2=>R q2 0 p2)))) λj=>Ld (.arr 258) ⟨d,0,Z⟩ h λk=>Cl Pg [kB] 204 ⟨[(.agg k)]⟩ h λ(m:X3) l=>aa (! m) (Ld (.arr 258) ⟨f,0,Z⟩ l λn=>az 258 ⟨f,0,Z⟩ n l λo=>Ld (.arr 258) ⟨f,0,Z⟩ o λp=>R p 2 o) (aa (Wb (b<1)) (Ld (.arr 258) ⟨f,0,Z⟩ l λq=>az 258 ⟨f,0,Z⟩ q l λr=>Ld (.arr 258) ⟨f,0,Z⟩ r λs=>R s 2 r) (aa (Wb (b>15)) (Ld (.arr 258) ⟨f,0,Z⟩ l λt=>az 258 ⟨f,0,Z⟩ t l λu=>Ld (.arr 258) ⟨f,0,Z⟩ u λv=>R v 2 u) (0<=(u64 b)/\aa (Wb ((i.len:H)>(bT .i64 (1:H) (u64 b)))) (Ld (.arr 258) ⟨f,0,Z⟩ l λx=>az 258 ⟨f,0,Z⟩ x l λy=>Ld (.arr 258) ⟨f,0,Z⟩ y λz=>R z 2 y) (j l))))):Cl Pg [(.arr 258),kI] 136 ⟨[(.agg a),(ni b)]⟩ w R:=co Tryz.f136 [(4,[]),(21,[(7,kS),(8,kI)]),(33,[(9,kI),(10,kI)]),(34,[]),(43,[(11,kI),(86,kI)])] h
def yu.ok(a:(X4 G))(R:Sl->ad) w(h:Nw 231 a w λc b=>aI 258 c 0 b λd=>aE 204 [(.agg d)] b λf e=>aa (! f) (R (⟨Z,0,0⟩:Sl) e) (aI 258 c 0 e λg=>cY (⟨Z,0,0⟩:Sl) 0 e λh i(j:Sl)(k:H) l=>aw (k<258) (fZ (.int .i64) g 258 k λ(m:H)=>aw (m>0) (aJ 3 [(ni k)] l λo n=>aG Pg (ZD #[25,25] 25 ⟨[(ak j),(cE o 1)]⟩) kS n λ(q:Sl) p=>h q (i64 (k+1)) p/\i q (i64 (k+1)) p<i j k l) (h j (i64 (k+1)) l/\i j (i64 (k+1)) l<i j k l)) (cP 279 [(ak j),(.func (.func 280) ⟨[]⟩ ⟨[(bX c)]⟩)] l λr=>R j r))):cm 203 [(.agg a)] w R:=co Tryz.f203 [(10,[(2,kS),(9,kI)])] h
def yj.ok(a:(X4 G))(R:X3->ad) w(h:Nw 231 a w λc b=>cG (⟨V ⟨c,0,Z⟩,258,258⟩:Sl) 0 258 258 1 λd=>aE 53 [(ak d),(.func (.func 281) ⟨[]⟩ ⟨[]⟩)] b λf e=>R (! f) e):aE 204 [(.agg a)] w R:=co Tryz.f204 [] h
def wN.ok(a:(X4 G))(b:Sl)(R:Sl->ad) w(h:Nw 231 a w λd c=>cY (⟨Z,0,0⟩:Sl) 0 c λe f(g:Sl)(h:H) i=>aw (h<(b.len:H)) (aB b h 1 λj=>bj j i λk=>aK (ar d 0) 258 k 1 λl=>bj l i λm=>aJ 303 [(ni m),(.bool J)] i λo n=>aG Pg (ZD #[298,298] 298 ⟨[(ak g),(cE o 1)]⟩) kS n λ(q:Sl) p=>e q (i64 (h+1)) p/\f q (i64 (h+1)) p<f g h i) (R g i)):cm 205 [(.agg a),(ak b)] w R:=co Tryz.f205 [(5,[(4,kS),(9,kI)])] h
def zG.ok(a:Sl)(b:Sl)(R:Sl->ad) w(h:Da (⟨Z,0,0⟩:Sl) 0 0 w λc d(e:Sl)(f:H)(g:H) h=>aa (Wb ((i64 (g+1))<(b.len:H))) (di h λi j=>aB b g 2 λk=>aM kI (k.add 0) i λ(l:H)=>aB b (i64 (g+1)) 2 λm=>aM kI (m.add 0) i λ(n:H)=>Nw 303 ⟨[(ni 0),(.bool U)]⟩ j λp o=>i o/\ax ⟨p,0,Z⟩ [(ni (i64 (l+n))),(.bool U)] 0 o λq=>i q/\cY e f q λr s(t:Sl)(u:H) v=>aP v λx=>aa (Wb (u<(a.len:H))) (aB a u 2 λy=>Ld kI (y.add 0) x λ(z:H)=>Ld kI (ZZ ⟨p,0,Z⟩ 0) x λ(L:H)=>aa (Wb (z<=L)) (aB a u 2 λM=>Ld (.st [iQ,.bool]) M x λA=>Nw 303 ⟨[(ni A.1),(.bool A.2.1)]⟩ x λN P=>aG Pg (ZD #[298,298] 298 ⟨[(ak t),(ak (⟨V ⟨N,0,Z⟩,1,1⟩:Sl))]⟩) kS P λ(B:Sl) C=>r B (i64 (u+1)) C/\s B (i64 (u+1)) C<s t u v) (Ld (.st [iQ,.bool]) ⟨p,0,Z⟩ x λD=>Nw 303 ⟨[(ni D.1),(.bool D.2.1)]⟩ x λQ S=>aG Pg (ZD #[298,298] 298 ⟨[(ak t),(ak (⟨V ⟨Q,0,Z⟩,1,1⟩:Sl))]⟩) kS S λ(E:Sl) F=>c E u (i64 (g+2)) F/\d E u (i64 (g+2)) F<d e f g h)) (Ld (.st [iQ,.bool]) ⟨p,0,Z⟩ x λG=>Nw 303 ⟨[(ni G.1),(.bool G.2.1)]⟩ x λT W=>aG Pg (ZD #[298,298] 298 ⟨[(ak t),(ak (⟨V ⟨T,0,Z⟩,1,1⟩:Sl))]⟩) kS W λ(I:Sl) K=>c I u (i64 (g+2)) K/\d I u (i64 (g+2)) K<d e f g h)) (cG a f (a).len (a).cap 2 λX=>aG Pg (ZD #[298,298] 298 ⟨[(ak e),(ak X)]⟩) kS h λ(Y:Sl) s1=>R Y s1)):Cl Pg [kS] 206 ⟨[(ak a),(ak b)]⟩ w R:=co Tryz.f206 [(7,[(4,kS),(5,kI),(6,kI)]),(15,[(4,kS),(5,kI)])] h
def uB.ok(a:H)(b:H)(c:Wg)(R:H->ad) w(h:aP w λd=>aK c 258 a 1 λe=>bj e d λf=>aK c 258 b 1 λg=>bj g d λh=>bP 238 [(ni f),(ni h)] d λj i=>R j i):bP 280 [(ni a),(ni b),(au (V c))] w R:=co Tryz.f280 [] h
def vR.ok(a:H)(R:X3->ad) w(h:aw (a<0) (R J w) (R (Wb (a>2147483647)) w)):aE 281 [(ni a)] w R:=co Tryz.f281 [] h
end
end Go.Proofs.Q9
namespace Go.Pm
section
abbrev It:=I×X3
def nM(l:Q It):I:=(l.map (·.1)).sum
def cD(l:Q It):I:=(l.filter (·.2)).length
def Up(l:Q It):Prop:=l.Pairwise λa b=>a.1<=b.1
def cN:Q It->Q It|a::b::l=>(a.1+b.1,U)::cN l|_=>[]
def ku(A:Q It):Q It->Q It|[]=>A|p::B=>A.takeWhile (λa=>decide (a.1<=p.1))++p::ku (A.dropWhile λa=>decide (a.1<=p.1)) B
def Ed{A:Q It}:ku A []=A:=O
def uh:∀{B:Q It},ku [] B=B|[]=>rfl|p::B=>by simp[ku,uh]
def Jm{a p:It}{A B:Q It}(h:a.1<=p.1):ku (a::A) (p::B)=a::ku A (p::B):=by simp[ku,h]
def Kq{a p:It}{A B:Q It}(h:¬a.1<=p.1):ku (a::A) (p::B)=p::ku (a::A) B:=by simp[ku,h]
def yS{P:Q It->Q It->Prop}(b:∀B,P [] B)(c:∀a A,P (a::A) [])(d:∀a A p B,a.1<=p.1->P A (p::B)->P (a::A) (p::B))(e:∀a A p B,¬a.1<=p.1->P (a::A) B->P (a::A) (p::B)):∀A B,P A B|[],B=>b B|a::A,[]=>c a A|a::A,p::B=>if h:a.1<=p.1 then d a A p B h (yS b c d e A (p::B))else e a A p B h (yS b c d e (a::A) B)
def Jg:∀A B,(ku A B).Perm (A++B):=by refine yS (λB=>by rw[uh];exact .refl _) (λa A=>by rw[Ed];simp) (λa A p B h b=>?_) λa A p B h b=>?_;{rw[Jm h];exact b.cons a};rw[Kq h];exact(b.cons p).trans (List.perm_middle.symm)
def MD(A B:Q It):(ku A B).length=A.length+B.length:=by rw[(Jg A B).length_eq,Zf]
def N4:∀A B,Up A->∀m,m<=A.length+B.length->∃a b,a+b=m/\a<=A.length/\b<=B.length/\((ku A B).take m).Perm (A.take a++B.take b)/\∀x∈B.take b,∀y∈A.drop a,x.1<y.1:=by refine yS (λB _ m c=>?_) (λa A _ m c=>?_) (λa A p B h g e m c=>?_) λa A p B h g e m c=>?_;{exact⟨0,m,Za,Zw _,by simpa using c,by rw[uh];simp,Zd⟩};{exact⟨m,0,rfl,by simpa using c,Zw _,by rw[Ed];simp,Zd⟩};{cases m with|zero=>exact⟨0,0,rfl,Ya _,Ya _,Zd,Zd⟩|succ m=>obtain⟨x,y,n,i,j,k,l⟩:=g (List.pairwise_cons.1 e).2 m (by simp at c⊢;omega);refine⟨x+1,y,Za,by simpa using i,j,?_,by simpa using l⟩;rw[Jm h,Ym,Ym];exact k.cons a};cases m with|zero=>exact⟨0,0,rfl,Ya _,Ya _,Zd,Zd⟩|succ m=>obtain⟨x,y,n,i,j,k,l⟩:=g e m (by simp at c⊢;omega);refine⟨x,y+1,Za,i,by simpa using j,?_,?_⟩;{rw[Kq h,Ym,Ym];exact(k.cons p).trans List.perm_middle.symm};intro u f v d;rw[Ym]at f;(rcases List.mem_cons.1 f with rfl|f);{have d:v∈a::A:=YK d;(rcases List.mem_cons.1 d with rfl|d);{omega};have:=(List.pairwise_cons.1 e).1 v d;omega};exact l u f v d
def AJ(a:It)(l:Q It):nM (a::l)=a.1+nM l:=by simp[nM]
def OK(l a:Q It):nM (l++a)=nM l+nM a:=by simp[nM]
def TG{l a:Q It}(h:l.Perm a):nM l=nM a:=(h.map _).sum_nat
def qX(l a:Q It):cD (l++a)=cD l+cD a:=by simp[cD]
def Cy{l a:Q It}(h:l.Perm a):cD l=cD a:=(h.filter _).length_eq
def iA:∀l:Q It,(cN l).length=l.length/2|[]=>rfl|[_]=>by simp[cN]|_::_::l=>by simp only[cN,Zp,iA l];omega
def uj:∀(l:Q It)(x:It),x∈cN l->x.2=U|[],_,h=>by simp[cN]at h|[_],_,h=>by simp[cN]at h|a::b::l,x,h=>by rw[cN]at h;(rcases List.mem_cons.1 h with rfl|h);{rfl};exact uj l x h
def Co:∀(l:Q It)(b:I),2*b<=l.length->nM ((cN l).take b)=nM (l.take (2*b))|_,0,_=>by simp[nM]|[],b+1,h=>by simp at h|[_],b+1,h=>by simp only[ZN]at h;omega|x::y::l,b+1,h=>by rw[cN,Ym,AJ,show 2*(b+1)=(2*b+1)+1 by omega,Ym,Ym,AJ,AJ,Co l b (by simp only[Zp]at h;omega)];omega
def JQ:∀(l:Q It)(b:I)(x:It),2*b<=l.length->x∈l.take (2*b)->∃p∈(cN l).take b,x.1<=p.1|_,0,_,_,h=>by simp at h|[],b+1,_,h,_=>by simp at h|[_],b+1,_,h,_=>by simp only[ZN]at h;omega|u::v::l,b+1,x,h,a=>by rw[show 2*(b+1)=(2*b+1)+1 by omega,Ym,Ym]at a;rw[cN,Ym];(rcases List.mem_cons.1 a with rfl|a);{exact⟨_,ZM,Zd⟩};(rcases List.mem_cons.1 a with rfl|a);{exact⟨_,ZM,Zd⟩};obtain⟨p,c,d⟩:=JQ l b x (by simp only[Zp]at h;omega) a;exact⟨p,ZB _ c,d⟩
def lC(a:Q I):Q It:=a.map λw=>(w,J)
def row(a:Q I):I->Q It|0=>lC a|k+1=>ku (lC a) (cN (row a k))
def yL(a:Q I):Prop:=a.Pairwise (·<=·)
def Qf{a:Q I}(h:yL a):Up (lC a):=Q.Pairwise.map _ (λ_ _ h=>h) h
def fW(a:Q I):(lC a).length=a.length:=Zn _
def jw(a:Q I)(k:I):(row a (k+1)).length=a.length+(row a k).length/2:=by rw[row,MD,fW,iA]
def M9(a:Q I):nM (lC a)=a.sum:=by unfold nM lC;rw[YF];congr 1;exact Q.map_id _
def om(b:Q I)(a:I):(lC b).take a=lC (b.take a):=List.map_take.symm
def yh(a:Q I):cD (lC a)=a.length:=by unfold cD lC;rw[List.filter_eq_self.2];{simp};grind
def H6{l:Q It}(h:∀x∈l,x.2=U):cD l=0:=by unfold cD;rw[Q.length_eq_zero_iff,Q.filter_eq_nil_iff];intro x a;simp[h x a]
def Cn{ws:Q I}:∀k,ws.length<=2^(k+1)->2*ws.length-2<=(row ws k).length:=by have a:∀k c,2^k*c>=ws.length->1<=c->2*ws.length<=(row ws k).length+c:=by{intro k;induction k with|zero=>intro c h _;simp only[row,fW];omega|succ k b=>intro c h d;have:=b (2*c) Ze Za;rw[jw];omega};intro k h;have:=a k 2 Ze Za;omega
def qg{c:Q I}(h:yL c)(k m:I)(j:m<=(row c (k+1)).length):cD ((row c (k+1)).take m)<=m/\cD ((row c (k+1)).take m)<=c.length/\2*(m-cD ((row c (k+1)).take m))<=(row c k).length/\nM ((row c (k+1)).take m)=(c.take (cD ((row c (k+1)).take m))).sum+nM ((row c k).take (2*(m-cD ((row c (k+1)).take m))))/\(∀x∈(row c k).take (2*(m-cD ((row c (k+1)).take m))),∀y∈c.drop (cD ((row c (k+1)).take m)),x.1<y):=by have l:=jw c k;obtain⟨a,b,t,g,n,i,o⟩:=N4 (lC c) (cN (row c k)) (Qf h) m (by rw[fW,iA,<-l];exact j);rw[fW]at g;rw[iA]at n;have d:cD ((row c (k+1)).take m)=a:=by{rw[row,Cy i,qX,om,yh,H6 λx e=>uj _ x (Yg e),Zx];omega};rw[d];have q:m-a=b:=Za;rw[q];refine⟨Za,g,Za,?_,?_⟩;{rw[row,TG i,OK,om,M9,Co _ _ Za]};intro x e y r;obtain⟨p,s,f⟩:=JQ _ _ _ Za e;have:=o p s (y,J) (by unfold lC;rw[<-Q.map_drop];exact Q.mem_map_of_mem r);exact I.lt_of_le_of_lt f this
def Ax{ws:Q I}(m:I)(a:m<=ws.length):cD ((row ws 0).take m)=m/\nM ((row ws 0).take m)=(ws.take m).sum:=by rw[row,om];exact⟨by rw[yh,Zx];omega,M9 _⟩
def whole(a:Q I)(k m:I):I:=cD ((row a k).take m)
def lv(a:Q I):I->I->I->I|0,m,i=>if i<whole a 0 m then 1 else 0|k+1,m,i=>(if i<whole a (k+1) m then 1 else 0)+lv a k (2*(m-whole a (k+1) m)) i
def nested{ws:Q I}(h:yL ws)(k m:I)(p:m<=(row ws (k+1)).length):whole ws k (2*(m-whole ws (k+1) m))<=whole ws (k+1) m:=by obtain⟨q,r,c,s,l⟩:=qg h k m p;generalize n:whole ws (k+1) m=a;unfold whole at n;rw[n]at q r c s l;(rcases Yk a (whole ws k (2*(m-a)))with e|f);{exfalso;have d:∀i,i<whole ws k (2*(m-a))->∃(b:i<ws.length),(ws[i],J)∈(row ws k).take (2*(m-a)):=by{cases k with|zero=>intro i b;have t:=Ax (ws:=ws) (2*(m-a)) (by rw[row,fW]at c;exact c);unfold whole at b;rw[t.1]at b;rw[row,fW]at c;refine⟨Za,?_⟩;rw[row,om];unfold lC;refine Q.mem_map_of_mem ?_;rw[Q.mem_iff_getElem];exact⟨i,by rw[Zx];omega,Zd⟩|succ k=>intro i b;obtain⟨u,w,y,v,z,o,A⟩:=N4 (lC ws) (cN (row ws k)) (Qf h) (2*(m-a)) (by rw[fW,iA,<-jw];exact c);rw[fW]at v;have g:whole ws (k+1) (2*(m-a))=u:=by{unfold whole;rw[row,Cy o,qX,om,yh,H6 λx j=>uj _ x (Yg j),Zx];omega};rw[g]at b;refine⟨Za,?_⟩;rw[row,o.mem_iff,Xi];left;rw[om];unfold lC;refine Q.mem_map_of_mem ?_;rw[Q.mem_iff_getElem];exact⟨i,by rw[Zx];omega,Zd⟩};obtain⟨b,j⟩:=d a e;have:=l _ j ws[a] (by rw[Q.mem_iff_getElem];exact⟨0,by rw[ZA];omega,Zd⟩);simp at this};exact f
def EF{a:Q I}(h:yL a):∀(k m i:I),m<=(row a k).length->whole a k m<=i->lv a k m i=0|0,m,i,_,c=>by unfold lv;rw[K Za]|k+1,m,i,b,c=>by have d:=nested h k m b;unfold lv;rw[K Za,Zi];exact EF h k _ i (qg h k m b).2.2.1 Za
def GV(a:Q I):∀(k m i:I),lv a k m i<=k+1|0,m,i=>by unfold lv;split<;>omega|k+1,m,i=>by have:=GV a k (2*(m-whole a (k+1) m)) i;unfold lv;split<;>omega
def over(n:I)(f:I->I):I:=((Zr n).map f).sum
def iv(n:I)(f:I->I):over (n+1) f=over n f+f n:=by unfold over;rw[YA,ZC,YS];simp
def KH(n:I)(f g:I->I):over n (λi=>f i+g i)=over n f+over n g:=by induction n with|zero=>rfl|succ n a=>rw[iv,iv,iv,a];omega
def pQ{n:I}{f g:I->I}(h:∀i,i<n->f i=g i):over n f=over n g:=by unfold over;congr 1;exact Z3 λi a=>h i (List.mem_range.1 a)
def Ob(n c:I):over n (λ_=>c)=n*c:=by induction n with|zero=>simp[over]|succ n a=>rw[iv,a,Yf]
def Tj(n c:I)(f:I->I):over n (λi=>c*f i)=c*over n f:=by induction n with|zero=>rfl|succ n a=>rw[iv,iv,a,I.mul_add]
def CT(n a:I)(d:a<=n)(c:I):over n (λi=>(if i<a then 1 else 0)*c)=a*c:=by have b:∀n,over n (λi=>(if i<a then 1 else 0)*c)=WD n a*c:=by{intro n;induction n with|zero=>simp[over]|succ n e=>rw[iv,e];by_cases hna:n<a;{grind};grind};rw[b,I.min_eq_right d]
def lw(a:Q I):I->I->I->I|0,m,i=>if i<whole a 0 m then 1 else 0|k+1,m,i=>(if i<whole a (k+1) m then 1 else 0)*2^(k+1)+lw a k (2*(m-whole a (k+1) m)) i
def Sn{ws:Q I}(h:yL ws):∀(k m:I),m<=(row ws k).length->over ws.length (lw ws k m)=m*2^k|0,m,b=>by have a:m<=ws.length:=by{rw[row,fW]at b;exact b};have e:=Ax (ws:=ws) m a;have:=CT ws.length m a 1;have d:over ws.length (lw ws 0 m)=over ws.length (λi=>(if i<m then 1 else 0)*1):=pQ λi _=>by{unfold lw whole;rw[e.1,Zy]};rw[d,this]|k+1,m,b=>by obtain⟨f,g,j,o,p⟩:=qg h k m b;have l:=Sn h k (2*(m-whole ws (k+1) m)) j;have e:over ws.length (lw ws (k+1) m)=over ws.length (λi=>(if i<whole ws (k+1) m then 1 else 0)*2^(k+1)+lw ws k (2*(m-whole ws (k+1) m)) i):=O;have n:whole ws (k+1) m<=m:=f;have c:whole ws (k+1) m<=ws.length:=g;rw[e,KH,CT _ _ c,l,Yb 2,Y0,<-I.pow_succ',<-YR];congr 1;omega
def aaD{a:Q I}(h:yL a):∀(k m i:I),m<=(row a k).length->lw a k m i+2^(k+1-lv a k m i)=2^(k+1)|0,m,i,_=>by unfold lw lv;split<;>rfl|k+1,m,i,b=>by have c:=(qg h k m b).2.2.1;have d:=aaD h k (2*(m-whole a (k+1) m)) i c;have e:=GV a k (2*(m-whole a (k+1) m)) i;have g:=Z8 (n:=2) (m:=k+1);unfold lw lv;by_cases hi:i<whole a (k+1) m;{rw[X0 hi,I.one_mul,show k+1+1-(1+lv a k (2*(m-whole a (k+1) m)) i)=k+1-lv a k (2*(m-whole a (k+1) m)) i by omega];omega};have j:=nested h k m b;have f:=EF h k (2*(m-whole a (k+1) m)) i c Za;rw[f]at d⊢;rw[K hi];simp only[I.zero_mul,Zi,YT]at d⊢;omega
def IU{ws:Q I}(h:yL ws)(k:I)(e:2<=ws.length)(b:ws.length<=2^(k+1)):over ws.length (λi=>2^(k+1-lv ws k (2*ws.length-2) i))=2^(k+1):=by have a:=Cn (ws:=ws) k b;have c:=Sn h k _ a;have d:=KH ws.length (lw ws k (2*ws.length-2)) λi=>2^(k+1-lv ws k (2*ws.length-2) i);rw[pQ (g:=λ_=>2^(k+1)) λi _=>aaD h k _ i a,Ob,c]at d;have f:(2*ws.length-2)*2^k+2^(k+1)=ws.length*2^(k+1):=by{have:2*ws.length-2=2*(ws.length-1):=by{omega};rw[this,Yb 2,Y0,<-I.pow_succ'];have:ws.length=ws.length-1+1:=by{omega};conv=>rhs;rw[this,Yf]};omega
def LG{n:I}{f:I->I}{i:I}(a:i<n):f i<=over n f:=by induction n with|zero=>omega|succ n b=>rw[iv];by_cases h:i=n;{subst h;omega};grind
def KK{n:I}{f:I->I}{i j:I}(b:i<n)(c:j<n)(a:i<j):f i+f j<=over n f:=by induction n with|zero=>omega|succ n d=>rw[iv];by_cases h:j=n;{subst h;have:=LG (f:=f) a;omega};grind
def aed{a:Q I}(h:yL a)(k:I)(g:2<=a.length)(l:a.length<=2^(k+1)){i:I}(c:i<a.length):1<=lv a k (2*a.length-2) i:=by have m:=IU h k g l;(rcases Z5 (lv a k (2*a.length-2) i)with b|b);{exfalso;have d:∀j,0<2^(k+1-lv a k (2*a.length-2) j):=λj=>Yd _;have e:2^(k+1-lv a k (2*a.length-2) i)=2^(k+1):=by{rw[b,YT]};by_cases hi0:i=0;{subst hi0;have:=KK (f:=λi=>2^(k+1-lv a k (2*a.length-2) i)) c (show 1<a.length by omega) Za;have:=d 1;omega};have:=KK (f:=λi=>2^(k+1-lv a k (2*a.length-2) i)) (show 0<a.length by omega) c Za;have:=d 0;omega};exact b
def width(S:I->Q I):I->I|0=>(S 0).length|k+1=>(S (k+1)).length*2^(k+1)+width S k
def U8(a:Q I)(L:I):I:=if a.length<=1 then a.sum else nM ((row a (L-1)).take (2*a.length-2))
def lenOf(a:Q I)(L i:I):I:=if a.length=1 then 1 else lv a (L-1) (2*a.length-2) i
def VS{a:Q I}{L:I}(b:yL a)(e:1<=L)(c:a.length<=2^L){i:I}(d:i<a.length):1<=lenOf a L i/\lenOf a L i<=L:=by unfold lenOf;split;{grind};obtain⟨K,rfl⟩:∃K,L=K+1:=⟨L-1,Za⟩;exact⟨aed b K Za c d,GV ..⟩
end
end Go.Pm
namespace Go.Srt
section
def cV(t:Q H):X3:=t.all λx=>decide (0<=x)&&Wb (x<=2147483647)
def sr(l:Q I):Prop:=∀x∈l,x<=2147483647
def bV(l a:Q I):Q I:=a.map λs=>l.getD s 0
end
end Go.Srt
namespace Go.Proofs.Q9
section
open Go Go.Vc Go.Srt Go.Pm
section
variable{E w:XZ}{F:Q HP}
def aT(t:Q H):X4 G:=⟨t.map vI⟩
def gC{t:Q H}:(aT t).size=t.length:=by simp[aT]
def Cz{t:Q H}{i:I}(h:i<t.length):(aT t)[i]?=V (Sc.enc (.int .i64) t[i]):=by simp[aT,h,vI]
def NI{l:Q I}:aT (ints l)=ai .i64 l:=by unfold aT ints ai;rw[YF];rfl
theorem Pa{t:Q H}(h:cV t=J):∃l:Q I,t=ints l/\sr l:=by have h:=List.all_eq_true.1 h;have b:∀x∈t,0<=x/\x<=2147483647:=λx a=>by{have:=h x a;simpa using this};refine⟨t.map H.toNat,?_,λy c=>?_⟩;{unfold ints;rw[YF];refine(Q.map_id t).symm.trans (Z3 λx a=>?_);have:=b x a;simp;omega};grind
def vj{l:Q I}(h:sr l):cV (ints l)=J:=by refine List.all_eq_true.2 λx a=>?_;obtain⟨y,b,rfl⟩:=List.mem_map.1 a;have:=h y b;simp;omega
def jV{l:Q I}:(ints l).length=l.length:=Zn _
theorem agX{x:H}{K:X3->ad}(a:K (!(decide (0<=x)&&Wb (x<=2147483647))) w):dS Zj (.func (.func 281) ⟨[]⟩ ⟨[]⟩) [kB] [ni x] w K:=by refine dS.mk Zc (vR.ok x K w ?_);refine aa.mk (λh=>?_) λh=>?_;{grind};have h:=X5 h;have e:(!(decide (0<=x)&&Wb (x<=2147483647)))=Wb (x>2147483647):=Ze;rw[e]at a;exact a
theorem yB{t:Q H}{K:X3->ad}(h:Hp E w F)(p:t.length=258)(j:bz E F (K (cV t))):aE 204 [.agg (aT t)] w K:=by refine yj.ok _ _ _ (Nw.mk h λb r m=>?_);refine cG.whole Zb O O ?_;refine jE.ok _ _ _ _ (kE.ok _ _ _ _ ?_);refine⟨λi w'=>∃k:I,i=(k:H)/\k<=258/\cV (t.take k)=J/\Hp E w' (an b (.cells (aT t) 231 (0,0))::F),λi _=>258-i.toNat,⟨0,O,Za,O,m⟩,?_⟩;rintro i w' ⟨k,rfl,hk,hv,hh⟩;refine aa.mk (λd=>?_) λc=>?_;{have d:k<258:=by{have:=X9 d;simp only at this;omega};have e:k<t.length:=by{omega};have f:aO 1 (jD b 258) (t.map vI) w':=hh.aq (ae.aH (by simp[aT]) Ze);refine aB.rd f Za Ze λq u n=>Ld.sc (s:=.int .i64) t[k] (by rw[n];simp[vI]) (agX ?_);have l:cV (t.take (k+1))=(cV (t.take k)&&(decide (0<=t[k])&&Wb (t[k]<=2147483647))):=by{unfold cV;rw[Zz,Q.all_append,Zg e];simp};rw[hv,X3.true_and]at l;rw[<-l];refine aa.mk (λa=>?_) λa=>?_;{have a:cV (t.take (k+1))=U:=by{simpa using a};have o:cV t=U:=by{have:=Zv (k+1) t;rw[<-this];unfold cV at a⊢;rw[Q.all_append,a,X3.false_and]};have g:Wb ((k:H)>=0)=J:=by{simp};show K (! Wb ((k:H)>=0)) w';rw[g];have:=j w' hh.drop;rw[o]at this;exact this};have a:cV (t.take (k+1))=J:=by{simpa using a};rw[af Za];exact⟨⟨k+1,O,Za,a,hh⟩,by dsimp only;omega⟩};have c:k=258:=by{have:=X5 c;simp only at this;omega};subst c;have g:Wb ((-1:H)>=0)=U:=Zb;show K (! Wb ((-1:H)>=0)) w';rw[g];have:=j w' hh.drop;rw[Zt Za]at hv;rw[hv]at this;exact this
theorem Uj{x y:H}{K:H->ad}(a:∀z:H,(z<0↔x<y)->K z w):bP 238 [ni x,ni y] w K:=by refine CX.ok _ _ _ _ (cmp_isNaN_int.ok _ _ _ (cmp_isNaN_int.ok _ _ _ ?_));refine aa.f Zd (aa.f Zd (aa.mk (λh=>a _ ?_) λh=>aa.mk (λb=>a _ ?_) λb=>a _ ?_));{grind};{have:=X5 h;omega};have:=X5 h;omega
def aaO{l:Q I}{i:I}{k:Wl}(h:i<l.length):(ai k l)[i]?=V (Sc.enc (.int k) (l.getD i 0:H)):=by rw[iu h,Zl,Zg h];rfl
def agx{l:Q I}{b:I}{t:Wa}(j:l.length=258):zp E (an b (.cells (ai .i64 l) t (0,0))::F) (.func (.func 280) ⟨[]⟩ ⟨[bX b]⟩) (BD l) (λx=>0<=x/\x<258):=by rintro A w y x K h ⟨c,k⟩ ⟨d,m⟩ f;refine dS.mk Zc ?_;refine uB.ok y x ⟨b,0,Z⟩ K w (aP.mk h λg e=>?_);have a:=e.perm ZV;refine aK.rd (s:=.int .i64) a d Za _ (aaO Za) ?_;refine aK.rd (s:=.int .i64) a c Za _ (aaO Za) ?_;refine Uj λz i=>f z g ?_ e;rw[i];rfl
theorem R9{t:Q H}{K:Sl->ad}(h:Hp E w F)(f:t.length=258)(v:cV t=U->∀w',Hp E w' F->K ⟨Z,0,0⟩ w')(z:∀l,t=ints l->sr l->l.length=258->∀ys s w',dq l ys->Hp E w' (av 1 s ((ints ys).map vI)::F)->K s w'):cm 203 [.agg (aT t)] w K:=by refine yu.ok _ _ _ (Nw.mk h λb w1 C=>Ld.arr C (by rw[gC,f]) (yB C f λM q=>?_));refine aa.mk (λr=>v Ze M q.drop) λr=>?_;have r:cV t=J:=by{simpa using r};obtain⟨l,rfl,N⟩:=Pa r;rw[jV]at f;rw[NI]at q;refine Ld.arr q (by rw[bC,f]) ?_;refine⟨λo i w'=>∃k:I,i=(k:H)/\k<=258/\Hp E w' (av 1 o ((ints (jr l k)).map vI)::an b (.cells (ai .i64 l) 231 (0,0))::F),λ_ i _=>258-i.toNat,⟨0,rfl,Za,q.bm 1⟩,?_⟩;intro o i w' P;obtain⟨k,R,hk,u⟩:=P;subst R;refine aa.mk (λj=>?_) λg=>?_;{have j:k<258:=by{have:=X9 j;omega};have A:k<l.length:=by{omega};refine fZ.rd (s:=.int .i64) Za Za _ (Um A) ?_;refine aa.mk (λc=>?_) λc=>?_;{have c:0<l.getD k 0:=by{have:=X9 c;omega};refine Nw.mk u λS G m=>?_;have T:=u.br;have hu:=pF l k;simp only[Zn,ints,Zy]at T;refine bu (ys:=[vI (k:H)]) (n:=1) jx Zb (.inl ⟨3,Zc⟩) m.p1 (.inl ⟨V ⟨S,0,Z⟩,1,1,rfl,rfl,m.aq (ae.aH rfl rfl)⟩) rfl uU Za Za λs' w4 W X=>?_;rw[af Za];refine⟨⟨k+1,rfl,Za,?_⟩,by dsimp only;omega⟩;rw[ox,X0 c,AB,ZC];exact W.p1.drop};have c:¬0<l.getD k 0:=by{have:=X5 c;omega};rw[af Za];refine⟨⟨k+1,rfl,Za,?_⟩,by dsimp only;omega⟩;rw[ox,X8 c,ZG];exact u};have g:k=258:=by{have:=X5 g;omega};subst g;have B:∀x∈jr l 258,x<258:=λx p=>by{have:=(List.mem_filter.1 p).1;simpa using this};refine xC (key:=BD l) (D:=λx=>0<=x/\x<258) u (by have:=pF l 258;rw[aU];simp only[ints,Zn];omega) (agx f) (λx p=>?_) ?_ λys G c L m=>?_;{obtain⟨y,Y,rfl⟩:=List.mem_map.1 p;have:=B y Y;omega};{unfold ints;refine Q.Pairwise.map _ (λa b d=>Int.ofNat_lt.2 d) (Q.Pairwise.filter _ Q.pairwise_lt_range)};have hU:jr l 258=used l:=by{unfold jr used;rw[f]};rw[hU]at c;have e:ys=ints (ys.map H.toNat):=by{unfold ints;rw[YF];refine(Q.map_id ys).symm.trans (Z3 λx p=>?_);obtain⟨y,_,rfl⟩:=List.mem_map.1 (c.mem_iff.1 p);simp};have pN:(ys.map H.toNat).Perm (used l):=by{have:=c.map H.toNat;refine this.trans ?_;unfold ints;rw[YF];refine Q.Perm.of_eq ((Z3 λx _=>?_).trans (Q.map_id _));simp};rw[e]at m L;refine z l rfl N f (ys.map H.toNat) _ G ⟨pN,?_⟩ m.p1.drop;refine(List.pairwise_map.1 L).imp λ{a b} d=>?_;unfold Ky BD at d;simp only[Zk]at d;omega
def je(x:It):Q G:=[ni (x.1:H),.bool x.2]
def fJ:∀x,(je x).length=2:=λ_=>rfl
def qD:∀x,∀y∈je x,aN y=J:=by intro x y a;simp only[je,Xx,Wu.not_mem_nil,or_false]at a;rcases a with rfl|rfl<;>rfl
def oF:cR Zj 298 303 2 16:=cR.of Zc Zc
def aay{a:Q I}{k:I}(h:k<a.length):lC (a.take (k+1))=lC (a.take k)++[(a[k],J)]:=by unfold lC;rw[Zz,ZC,Zg h];rfl
def Ru{s:Sl}{a:Q I}{i:I}{K:H->Prop}(b:aO 1 s ((ints a).map vI) w)(f:i<a.length)(c:K (a[i]:H)):aB s (i:H) 1 λq=>Ld kI q w K:=by have d:=b.1;simp only[Zn,ints,Zy]at d;refine aB.rd b Za Za λq g e=>Ld.sc (s:=.int .i64) (a[i]:H) ?_ c;rw[e];simp[vI,ints]
def UW{l a:Q I}{s:Sl}{K:Sl->ad}(h:Hp E w F)(v:l.length=258)(m:ae F (aO 1 s ((ints a).map vI)))(e:∀x∈a,x<258)(n:a.length<=258)(p:∀f w',Hp E w' (av 2 f ((lC (bV l a)).flatMap je)::F)->K f w'):cm 205 [.agg (ai .i64 l),ak s] w K:=by refine wN.ok _ _ _ _ ?_;have j:=(h.aq m).1;simp only[Zn,ints,Zy]at j;have q:(bV l a).length=a.length:=Zn _;refine Nw.mk h λb y r=>⟨λo i w'=>∃k:I,i=(k:H)/\k<=a.length/\Hp E w' (av 2 o ((lC ((bV l a).take k)).flatMap je)::an b (.cells (ai .i64 l) 231 (0,0))::F),λ_ i _=>a.length-i.toNat,⟨0,O,Za,by simpa[lC]using r.bm 2⟩,?_⟩;rintro o i w' ⟨k,rfl,hk,hh⟩;refine aa.mk (λc=>?_) λd=>?_;{have c:k<a.length:=by{have:=X9 c;omega};have z:=e _ (Zs c);refine Ru (hh.drop.drop.aq m) c (aK.rd (s:=.int .i64) hh.p1 Za Za _ (Um Za) ?_);have t:(bV l a)[k]' Za=l.getD a[k] 0:=by{simp[bV]};refine xN (g:=je) (x:=(l.getD a[k] 0,J)) oF fJ Zb O (qD _) hh (by rw[fW,Zx];omega) (by rw[fW,Zx];omega) λf A u _=>?_;rw[af Za];refine⟨⟨k+1,O,Za,?_⟩,by dsimp only;omega⟩;rw[aay Za,t];exact u};have d:k=a.length:=by{have:=X5 d;omega};subst d;rw[Zt Za]at hh;exact p _ _ hh.p1.drop
end
end
end Go.Proofs.Q9
namespace Go.Srt
section
def iS(a:Q I)(f:I->I):Q I:=(Zr 258).map λs=>if s∈a then f (a.idxOf s)else 0
def j8(a:Q I)(f:I->I):(iS a f).length=258:=by simp[iS]
def SV{a:Q I}{f:I->I}{s:I}(b:s<258):(iS a f).getD s 0=if s∈a then f (a.idxOf s)else 0:=by unfold iS;rw[Zl,ZR,Yq b];rfl
def tC:∀{a:Q I}(_:a.Nodup){i:I}(d:i<a.length),a.idxOf a[i]=i|y::a,h,0,_=>by simp[Q.idxOf_cons]|y::a,h,i+1,d=>by obtain⟨f,g⟩:=List.nodup_cons.1 h;have b:i<a.length:=by{simpa using d};have c:¬y=a[i]:=λe=>f (e▸Zs b);have:=tC g b;have e:(y==a[i])=U:=by{simpa using c};simp only[Xe,Q.idxOf_cons,this,e,cond_false]
def DY{a:Q I}{f:I->I}(d:a.Nodup)(b:∀s∈a,s<258){i:I}(c:i<a.length):(iS a f).getD a[i] 0=f i:=by rw[SV (b _ (Zs c)),X0 (Zs c),tC d c]
def xK{a:Q I}{f g:I->I}(h:∀i,i<a.length->f i=g i):iS a f=iS a g:=by unfold iS;refine Z3 λs _=>?_;by_cases hs:s∈a;{grind};grind
def MU{a:Q I}{f:I->I}{i v:I}(c:a.Nodup)(d:i<a.length):(iS a f).set a[i] v=iS a (λj=>if j=i then v else f j):=by refine YW (by simp[iS]) λs g b=>?_;have h:s<258:=by{rw[j8]at b;exact b};rw[Q.getElem_set];unfold iS;simp only[XI,Q.getElem_range];by_cases e:a[i]=s;{grind};grind
def Tl(a:Q I):iS a (λ_=>0)=Zh 258 0:=by refine List.eq_replicate_iff.2 ⟨j8 ..,λx b=>?_⟩;obtain⟨s,_,rfl⟩:=List.mem_map.1 b;split<;>rfl
def yC{l c:Q I}(h:dq l c):c.Nodup:=h.2.imp λ{a b} d e=>by subst e;omega
def DN{l d:Q I}(h:dq l d):Pm.yL (bV l d):=Q.Pairwise.map _ (λ_ _ c=>c) (h.2.imp λ{a b} c=>Za)
end
end Go.Srt
namespace Go.Proofs.Q9
section
open Go Go.Vc Go.Srt Go.Pm
section
variable{E w:XZ}{F:Q HP}
def Uk{R:Q It}{j:I}(h:2*j+1<R.length):cN (R.drop (2*j))=((R[2*j]' Za).1+R[2*j+1].1,U)::cN (R.drop (2*(j+1))):=by rw[Zu (show 2*j<R.length by omega),Zu (show 2*j+1<R.length by omega),cN];rfl
def QF{R:Q It}{j:I}(h:¬2*j+1<R.length):cN (R.drop (2*j))=[]:=by have:(cN (R.drop (2*j))).length=0:=by{rw[iA,ZA];omega};exact List.length_eq_zero_iff.1 this
theorem afo{y N:Sl}{A R:Q It}{K:Sl->XZ->Prop}(h:Hp E w F)(P:ae F (aO 2 y (A.flatMap je)))(S:ae F (aO 2 N (R.flatMap je)))(hcap:y.len<=y.cap)(hb:∀x∈R,x.1<=2^60)(hlA:A.length<=2^20)(hlR:R.length<=2^20)(hK:∀z w',Hp E w' (av 2 z ((ku A (cN R)).flatMap je)::F)->K z w'):Cl Zj [kS] 206 ⟨[.slice y.base y.len y.cap,.slice N.base N.len N.cap]⟩ w K:=by refine zG.ok _ _ _ _ ?_;have la:=aO.len fJ Zb (h.aq P);have lr:=aO.len fJ Zb (h.aq S);have T:=iA R;have htl:(ku A (cN R)).length=A.length+R.length/2:=by{rw[MD,T]};have B:∀o X:Q It,o++X=ku A (cN R)->o.length<=2^21:=λo X e=>Ze;refine⟨λo k i w'=>∃(a j:I)(l:Q It),k=(a:H)/\i=((2*j:I):H)/\a<=A.length/\2*j<=R.length/\l++ku (A.drop a) (cN (R.drop (2*j)))=ku A (cN R)/\Hp E w' (av 2 o (l.flatMap je)::F),λ_ _ i _=>R.length-i.toNat,⟨0,0,[],O,O,Za,Za,Zd,h.bm 2⟩,?_⟩;rintro o k i w' ⟨a,j,l,rfl,rfl,ha,hj,heq,hh⟩;have W:=B _ _ heq;rw[af (x:=((2*j:I):H)+1) Za];refine aa.mk (λd=>?_) λt=>?_;{have d:2*j+1<R.length:=by{have:=X9 d;omega};rw[Uk d]at heq;have hx1:=hb _ (Zs (show 2*j<R.length by omega));have nN:=hb _ (Zs d);have u:Hp E {w' with drawn:=w'.drawn+1} (av 2 o (l.flatMap je)::F):=hh.drew;refine⟨ia E F,ia.z6 u,?_⟩;refine aB.elT (n:=2*j) fJ Zb u.drop S O Za λp C=>?_;refine aM.sc (s:=.int .i64) ((R[2*j]' Za).1:H) (λY D=>(D.aq (C 0 Zb)).trans (by simp[je])) ?_;refine aB.elT (n:=2*j+1) fJ Zb u.drop S Za d λq hq=>?_;refine aM.sc (s:=.int .i64) (R[2*j+1].1:H) (λY D=>(D.aq (hq 0 Zb)).trans (by simp[je])) ?_;rw[af (x:=((R[2*j]' Za).1:H)+(R[2*j+1].1:H)) Za];generalize hp1:(R[2*j]' Za).1+R[2*j+1].1=p1 at heq;have G:((R[2*j]' Za).1:H)+(R[2*j+1].1:H)=(p1:H):=by{omega};rw[G];refine Nw.mk u λb w3 h3=>⟨ia.mk2 h3,?_⟩;refine ax.aH h3 O (qD (p1,U)) λw4 h4=>⟨ia.mk2 h4,?_⟩;refine⟨λo k w'=>∃(a:I)(l:Q It),k=(a:H)/\a<=A.length/\l++ku (A.drop a) ((p1,U)::cN (R.drop (2*(j+1))))=ku A (cN R)/\Hp E w' (av 2 o (l.flatMap je)::an b (.cells ⟨je (p1,U)⟩ 303 (0,0))::F),λ_ k _=>A.length-k.toNat,⟨a,l,O,ha,heq,h4.p1⟩,?_⟩;rintro o k w5 ⟨a,l,rfl,ha,heq,hh⟩;have W:=B _ _ heq;refine aP.mk hh λw6 m=>?_;rw[af (x:=((2*j:I):H)+2) Za];have r:A.drop a=[]\/(∃(_:a<A.length),¬A[a].1<=p1)->(l++[(p1,U)])++ku (A.drop a) (cN (R.drop (2*(j+1))))=ku A (cN R):=by{rintro(e|⟨L,f⟩);{rw[e,uh]at heq;rw[e,uh,<-heq];simp};rw[Zu L,Kq f]at heq;rw[Zu L,<-heq];simp};refine aa.mk (λc=>?_) λc=>?_;{have c:a<A.length:=by{have:=X9 c;omega};refine aB.el (n:=a) fJ Zb (m.drop.drop.aq P) O c λp C=>?_;refine Ld.sc (s:=.int .i64) (A[a].1:H) (by rw[C 0 Zb];simp[je]) ?_;rw[aj];refine Ld.aH m.p1 (p1:H) (by simp[je]) ?_;refine aa.mk (λv=>?_) λf=>?_;{have v:A[a].1<=p1:=by{have:=X9 v;omega};rw[Zu c,Jm v]at heq;refine aB.el (n:=a) fJ Zb (m.drop.drop.aq P) O c λp C=>?_;refine Ld.st (ks:=[.int .i64,.bool]) ((A[a].1:H),A[a].2,()) (λj hj=>C j hj) ?_;refine xN (g:=je) (x:=A[a]) oF fJ Zb O (qD _) m Za Za λz w7 M _=>?_;rw[af Za];refine⟨⟨a+1,l++[A[a]],O,Za,?_,M⟩,by dsimp only;omega⟩;rw[<-heq];simp};have f:¬A[a].1<=p1:=by{have:=X5 f;omega};refine Ld.GW (ks:=[.int .i64,.bool]) m.p1 ((p1:H),U,()) O ?_;refine xN (g:=je) (x:=(p1,U)) oF fJ Zb O (qD _) m Za Za λz w7 M _=>?_;exact⟨⟨a,j+1,l++[(p1,U)],O,Za,ha,Za,r (.inr ⟨c,f⟩),M.p1.drop⟩,by dsimp only;omega⟩};have c:A.drop a=[]:=by{grind};refine Ld.GW (ks:=[.int .i64,.bool]) m.p1 ((p1:H),U,()) O ?_;refine xN (g:=je) (x:=(p1,U)) oF fJ Zb O (qD _) m Za Za λz w7 M _=>?_;exact⟨⟨a,j+1,l++[(p1,U)],O,Za,ha,Za,r (.inl c),M.p1.drop⟩,by dsimp only;omega⟩};have t:¬2*j+1<R.length:=by{have:=X5 t;omega};rw[QF t,Ed]at heq;refine cG.el (a:=a) (b:=A.length) (l:=A) fJ la O (by rw[la]) ha (Zw _) Za (H.le_refl _) λz hs' hl' _=>?_;have u:=hs' w' (hh.drop.aq P);rw[Zt Ze]at u;have hdl:(A.drop a).length<=2^20:=by{rw[ZA];omega};refine ahq (g:=je) oF fJ Zb qD hh u Za Za λs2 Y D _=>hK s2 Y ?_;rw[<-heq];exact D
end
end
end Go.Proofs.Q9
namespace Go.Pm
section
def Ae{M:I}:∀{l:Q It},(∀x∈l,x.1<=M)->∀x∈cN l,x.1<=2*M|[],_,x,h=>by simp[cN]at h|[_],_,x,h=>by simp[cN]at h|a::b::l,hl,x,h=>by rw[cN]at h;(rcases List.mem_cons.1 h with rfl|h);{have:=hl a Zd;have:=hl b Zd;simp only;omega};exact Ae (λy c=>hl y (by simp[c])) x h
def E0{c:Q I}{M:I}(h:∀x∈c,x<=M):∀k,∀x∈row c k,x.1<=M*2^k|0,x,a=>by{obtain⟨y,b,rfl⟩:=List.mem_map.1 a;simpa using h y b}|k+1,x,a=>by(rcases List.mem_append.1 ((Jg _ _).mem_iff.1 a)with a|a);{obtain⟨y,b,rfl⟩:=List.mem_map.1 a;have:=h y b;have:=I.le_mul_of_pos_right M (Yd (k+1));simp only;omega};have:=Ae (E0 h k) x a;rw[Z8];rw[<-Y0];omega
def uA(a:Q I):∀k,(row a k).length<=2*a.length|0=>by rw[row,fW];omega|k+1=>by have:=uA a k;rw[jw];omega
def Py{l:Q It}{j:I}(h:j<l.length):cD (l.take (j+1))=cD (l.take j)+if l[j].2=J then 1 else 0:=by unfold cD;rw[Zz,Y5,Zf,Zg h];congr 1;by_cases e:l[j].2=J;{rw[X0 e];simp[e]};rw[K e];simp[e]
def Cx{l:Q It}{a b:I}(h:a<=b):cD (l.take a)<=cD (l.take b):=by have:=Zv a (l.take b);rw[Q.take_take,Y4 h]at this;have c:=Wn cD this;rw[qX]at c;omega
def aau(a:Q I){L:I}(b:1<=L)(i:I):lenOf a L i<=L:=by unfold lenOf;split;{exact b};have:=GV a (L-1) (2*a.length-2) i;omega
def RY{a:Q I}(h:yL a)(k m:I)(b:m<=(row a k).length):cD ((row a k).take m)<=a.length:=by cases k with|zero=>rw[row,fW]at b;rw[(Ax m b).1];exact b|succ k=>exact(qg h k m b).2.1
end
end Go.Pm
namespace Go.Proofs.Q9
section
open Go Go.Vc Go.Srt Go.Pm
section
variable{E w:XZ}{F:Q HP}
def uu{b:I}{t:Wa}{l:Q I}{K:X4 G->ad}(h:Hp E w (an b (.cells (ai .u8 l) t (0,0))::F))(a:l.length=258)(e:bz E (an b (.cells (ai .u8 l) t (0,0))::F) (K (ai .u8 l))):Ld (.arr 258) ⟨b,0,Z⟩ w λx=>az 258 ⟨b,0,Z⟩ x w λc=>Ld (.arr 258) ⟨b,0,Z⟩ c λr=>K r c:=Ld.arr h (by rw[bC,a]) (az.aH h (by rw[bC,a]) (by rw[bC,a]) gu λc d=>Ld.arr d (by rw[bC,a]) (e c d))
def rj(s:Sl):Q G:=[ak s]
def ue:∀x,(rj x).length=1:=λ_=>rfl
def adY:∀x,∀y∈rj x,aN y=J:=by intro x y a;have:y=ak x:=by{simpa[rj]using a};rw[this];rfl
def adb:cR Zj 300 298 1 24:=cR.of Zc Zc
def B6(b:Q I)(a:Q Sl)(G:Q HP):Prop:=∀j(c:j<a.length),ae G (aO 2 a[j] ((row b j).flatMap je))/\a[j].len<=a[j].cap
def B6.more{c:Q I}{b:Q Sl}{G:Q HP}{s:Sl}(h:B6 c b G)(d:s.len<=s.cap):B6 c (b++[s]) (av 2 s ((row c b.length).flatMap je)::G):=by intro j e;(rcases Yk j b.length with a|f);{rw[Q.getElem_append_left a];exact⟨(h j a).1.cons,(h j a).2⟩};have:j=b.length:=by{simp at e;omega};subst this;simp only[Q.getElem_append_right (Zw _),Y3,Z7];exact⟨ae.own,d⟩
theorem abU{L:I}(c:L<=15):bT .i64 1 (u64 (L:H))=((2^L:I):H)/\(0:H)<=u64 (L:H):=by rw[iq Za];have d:2^L<=2^15:=ZF Zb c;have e:YJ .i64=9223372036854775807:=O;have:=dZ (k:=.i64) (a:=1) (b:=L) (by have:Wl.bits .i64=64:=O;omega) Ze;rw[I.one_mul]at this;exact⟨this,Za⟩
def PY{l ys:Q I}(a:sr l):∀x∈bV l ys,x<=2147483647:=by intro x b;obtain⟨s,_,rfl⟩:=List.mem_map.1 b;rw[Zl];cases h:l[s]? with|none=>simp|some y=>exact a y (YP h)
def agN{l ys:Q I}(a:sr l){k:I}(b:k<=15):∀x∈row (bV l ys) k,x.1<=2^60:=by intro x c;have e:=E0 (PY (ys:=ys) a) k x c;have d:2^k<=2^15:=ZF Zb b;have:=I.mul_le_mul_left 2147483647 d;omega
theorem KM{t:Q H}{L:H}{K:X4 Wp->H->XZ->Prop}(h:Hp E w F)(hl:t.length=258)(Y:(cV t=U\/L<1\/15<L\/∃l,t=ints l/\(2:H)^L.toNat<(used l).length)->∀w',Hp E w' F->K (ai .u8 (Zh 258 0)) 2 w')(hK2:∀l ys w',t=ints l->sr l->dq l ys->1<=L->L<=15->ys.length<=2^L.toNat->Hp E w' F->K (ai .u8 (iS ys (lenOf (bV l ys) L.toNat))) 0 w'):Cl Zj [.arr 258,kI] 136 ⟨[.agg (aT t),.int .i64 L]⟩ w K:=by refine vE.ok _ _ _ _ ?_;rw[zc];simp only[bK];refine Nw.mk h λb4 w1 h1=>Nw.mk h1 λb6 w2 h2=>Ld.arr h2.p1 (by rw[gC,hl]) (R9 h2 hl (λhv w3 h3=>?_) λl hte hm hll ys s w3 A h3=>?_);{refine Ld.arr h3.p1 (by rw[gC,hl]) (yB h3 hl λw4 D=>aa.t Ze (uu D Zd λw5 u=>Y (.inl hv) w5 u.drop.drop))};subst hte;have hlen:=S6 hll A;have hin:=CK hll A;have hsl:s.len=ys.length:=by{have:=(h3.aq ae.own).1;simp only[Zn,ints,Zy]at this;exact this.symm};refine Ld.arr h3.p2 (by rw[gC,hl]) (yB h3 hl λw4 D=>aa.f (by rw[vj hm];rfl) ?_);refine aa.mk (λhlt=>uu D.p1 Zd λw5 u=>Y (.inr (.inl (X9 hlt))) w5 u.drop.drop.drop) λM=>?_;have M:=X5 M;refine aa.mk (λhgt=>uu D.p1 Zd λw5 u=>Y (.inr (.inr (.inl Ze))) w5 u.drop.drop.drop) λhle=>?_;have hle:=X5 hle;obtain⟨N,rfl⟩:=H.eq_ofNat_of_zero_le (show 0<=L by omega);have hN:N<=15:=Za;have hN1:1<=N:=Za;obtain⟨e1,e2⟩:=abU hN;rw[e1];refine⟨e2,aa.mk (λhgt=>uu D.p1 Zd λw5 u=>Y (.inr (.inr (.inr ⟨l,rfl,?_⟩))) w5 u.drop.drop.drop) λhle2=>?_⟩;{have hgt:=X9 hgt;rw[Zk,<-A.1.length_eq,<-hsl];rw[show(2:H)^N=((2^N:I):H) by norm_cast];exact hgt};have hle2:ys.length<=2^N:=by{have:=X5 hle2;omega};have P:=DN A;have hwl:(bV l ys).length=ys.length:=Zn _;have hnd:=yC A;have z:∀s∈ys,s<258:=λs hs=>(hin s hs).1;have R:∀w',Hp E w' F->K (ai .u8 (iS ys (lenOf (bV l ys) N))) 0 w':=λw' h'=>hK2 l ys w' rfl hm A Za Za Ze h';rw[<-Tl ys]at D;refine aa.mk (λh1=>?_) λh1=>?_;{have h1:ys.length=1:=by{have:(s.len:H)=1:=by{simpa using h1};omega};refine Ru (i:=0) (D.aq ae.own) Za ?_;have hx:=z _ (Zs (show 0<ys.length by omega));refine aK.wr D.p1 Za Za (by rw[bC,j8]) rfl λw5 u=>?_;rw[Zk]at u;have e:=BN (k:=.u8) (l:=iS ys λ_=>0) (i:=ys[0]) (x:=1);rw[show(Yx .u8 1)=.int .u8 ((1:I):H)from rfl,e,MU hnd Za]at u;have e3:iS ys (λj=>if j=0 then 1 else 0)=iS ys (lenOf (bV l ys) N):=xK λi S=>by{have:i=0:=by{omega};subst this;unfold lenOf;rw[X0 rfl,X0 Za]};rw[e3]at u;exact uu u (j8 ..) λw6 h6=>R w6 h6.drop.drop.drop};have h1:ys.length≠1:=Ze;rw[NI]at D;refine Ld.arr D.p2 (by rw[bC,hll]) (UW D hll ae.own z hlen λs0 w5 u=>Nw.mk u λb38 w6 h6=>?_);have hc0:=u.iF;refine⟨λo k w'=>∃(g:Q Sl)(G:Q HP),k=(g.length:H)/\1<=g.length/\g.length<=N/\B6 (bV l ys) g G/\Hp E w' (av 1 o (g.flatMap rj)::an b6 (.cells (ai .u8 (iS ys λ_=>0)) 166 (0,0))::av 1 s ((ints ys).map vI)::an b4 (.cells (ai .i64 l) 231 (0,0))::(G++F)),λ_ k _=>N-k.toNat,⟨[s0],[av 2 s0 ((lC (bV l ys)).flatMap je)],rfl,Zw _,hN1,?_,?_⟩,?_⟩;{intro j hj;have:j=0:=by{simp at hj;omega};subst this;exact⟨ae.own,hc0⟩};{exact((h6.nC (sz:=1) (n:=1) rfl).p1.q4).p2.p1};rintro o k w7 ⟨g,G,rfl,hr1,hrN,hrs,C⟩;have hrl:=aO.len ue Zb (C.aq ae.own);refine aa.mk (λhlt=>?_) λM=>?_;{have hlt:g.length<N:=by{have:=X9 hlt;omega};have hd:Hp E {w7 with drawn:=w7.drawn+1} _:=C.drew;have hrd:∀w',Hp E w' (av 1 o (g.flatMap rj)::an b6 (.cells (ai .u8 (iS ys λ_=>0)) 166 (0,0))::av 1 s ((ints ys).map vI)::an b4 (.cells (ai .i64 l) 231 (0,0))::(G++F))->aO 1 o (g.flatMap rj) w':=λw' h'=>h'.aq ae.own;have key:∀(i:I)(S:i<g.length){K:Wg->Prop},(∀p,(∀w,aO 1 o (g.flatMap rj) w->w.cell? p=V (.slice g[i].base g[i].len g[i].cap))->K p)->aB o (i:H) 1 K:=by{intro i S K hK;obtain⟨p,hp,_⟩:=(hrd _ hd).2 i (by rw[dY ue];omega);refine⟨p,hp,Za,Za,hK _ λw2 h2=>?_⟩;obtain⟨q,hq,hc⟩:=h2.2 i (by rw[dY ue];omega);have:q=p:=Xu (hq.symm.trans hp);subst this;rw[Zk,Zy,hc];have:=mY ue g i 0 S Zb;rw[Zy,Zq]at this;rw[<-Zg,this];rfl};have hr0:=hrs 0 Za;have hrk:=hrs (g.length-1) Za;refine⟨aO 1 o (g.flatMap rj),hrd _ hd,?_⟩;refine key 0 Za λp hp=>aM.sc (s:=.sl) g[0] hp ?_;rw[show i64 ((g.length:H)-1)=((g.length-1:I):H) by rw[af Za];omega];refine key (g.length-1) Za λq hq=>aM.sc (s:=.sl) g[g.length-1] hq ?_;have hlr:=uA (bV l ys) (g.length-1);refine afo hd (ae.cons (ae.cons (ae.cons (ae.cons hr0.1.Pu)))) (ae.cons (ae.cons (ae.cons (ae.cons hrk.1.Pu)))) hr0.2 (agN hm Za) (by rw[row,fW];omega) Za λs' w8 h8=>?_;have hcs:=h8.iF;refine⟨hrd _ h8.drop,Nw.mk h8 λb53 w9 h9=>⟨hrd _ h9.drop.drop,?_⟩⟩;refine zZ (ys:=rj s') (n:=1) adb Zb (.inl ⟨298,Zc⟩) h9.p2 (.inl ⟨_,_,_,rfl,rfl,h9.aq (ae.aH rfl rfl)⟩) rfl (adY s') Za Za λs2 w10 h10 _ hold=>⟨hold,?_⟩;have e:g.length-1+1=g.length:=by{omega};have er:ku (row (bV l ys) 0) (cN (row (bV l ys) (g.length-1)))=row (bV l ys) g.length:=by{(conv=>rhs;rw[<-e,row]);rfl};rw[er]at h10;rw[af Za];refine⟨⟨g++[s'],av 2 s' ((row (bV l ys) g.length).flatMap je)::G,Zd,Zd,by simp;omega,hrs.more hcs,?_⟩,by dsimp only;omega⟩;have h11:=h10.p1.drop;rw[Xq,show[s'].flatMap rj=rj s' by simp];exact h11.p1.q4};have M:g.length=N:=by{have:=X5 M;omega};have tot15:∀i,lenOf (bV l ys) N i<=15:=λi=>Yl (aau _ hN1 i) hN;have htot:∀i,lenOf (bV l ys) N i=lv (bV l ys) (N-1) (2*ys.length-2) i:=λi=>by{unfold lenOf;rw[X8 Za,hwl]};refine⟨λT k w'=>∃f:I->I,(((k=-1\/T<=0)/\-1<=k/\k<N/\∀i,i<ys.length->f i=lenOf (bV l ys) N i)\/(∃c m:I,k=(c:H)/\c<N/\T=(m:H)/\m<=(row (bV l ys) c).length/\∀i,i<ys.length->f i+lv (bV l ys) c m i=lenOf (bV l ys) N i))/\Hp E w' (an b6 (.cells (ai .u8 (iS ys f)) 166 (0,0))::av 1 o (g.flatMap rj)::av 1 s ((ints ys).map vI)::an b4 (.cells (ai .i64 l) 231 (0,0))::(G++F)),λ_ k _=>(k+1).toNat,⟨λ_=>0,?_,C.p1⟩,?_⟩;{rw[af (x:=2*(s.len:H)) Za,af (x:=2*(s.len:H)-2) Za,af Za];(rcases Z5 ys.length with h0|h0);{grind};refine .inr ⟨N-1,2*ys.length-2,Za,Za,Za,?_,λi _=>by rw[htot,Zi]⟩;rw[<-hwl];exact Cn (N-1) Ze};rintro T k w8 ⟨f,X,C⟩;have done:(∀i,i<ys.length->f i=lenOf (bV l ys) N i)->Hp E w8 (an b6 (.cells (ai .u8 (iS ys (lenOf (bV l ys) N))) 166 (0,0))::av 1 o (g.flatMap rj)::av 1 s ((ints ys).map vI)::an b4 (.cells (ai .i64 l) 231 (0,0))::(G++F)):=λS=>by{rw[<-xK S];exact C};refine aa.mk (λhk=>?_) λhk=>?_;{have hk:=X9 hk;refine aa.mk (λr=>?_) λr=>?_;{have r:=X9 r;(rcases X with⟨h0,_⟩|⟨c,m,rfl,hkN,rfl,B,X⟩);{omega};have hrk:=hrs c Za;have hlr:=uA (bV l ys) c;refine aB.el (n:=c) ue Zb (C.p1.aq ae.own) rfl Za λp hp=>?_;refine Ld.sc (s:=.sl) g[c] (by have:=hp 0 Zb;rw[add_zero]at this;rw[this];rfl) ?_;have hrt:ae (G++F) (aO 2 g[c] ((row (bV l ys) c).flatMap je)):=hrk.1.Pu;have hrl2:=aO.len fJ Zb (C.drop.drop.drop.drop.aq hrt);refine cG.el (a:=0) (b:=m) (l:=row (bV l ys) c) fJ hrl2 rfl rfl Za B Za (H.le_refl _) λsm hsm hsml _=>?_;have hsm2:ae (G++F) (aO 2 sm (((row (bV l ys) c).take m).flatMap je)):=hrt.imp λw' hw'=>by{simpa using hsm w' hw'};refine⟨λwh j w'=>∃d:I,j=(d:H)/\d<=m/\wh=(cD ((row (bV l ys) c).take d):H)/\Hp E w' (an b6 (.cells (ai .u8 (iS ys λi=>f i+if i<cD ((row (bV l ys) c).take d)then 1 else 0)) 166 (0,0))::av 1 o (g.flatMap rj)::av 1 s ((ints ys).map vI)::an b4 (.cells (ai .i64 l) 231 (0,0))::(G++F)),λ_ j _=>m-j.toNat,⟨0,rfl,Za,rfl,C⟩,?_⟩;rintro wh j w9 ⟨d,rfl,hj,rfl,C⟩;have hlfm:=Cx (l:=row (bV l ys) c) (show d<=m from hj);have hlfn:=RY P c m B;refine aa.mk (λv=>?_) λv=>?_;{have v:d<m:=by{have:=X9 v;omega};have hjr:d<(row (bV l ys) c).length:=by{omega};have y:=Py hjr;have hlfm2:=Cx (l:=row (bV l ys) c) (show d+1<=m from v);refine aB.el (n:=d) fJ Zb (C.drop.drop.drop.drop.aq hsm2) rfl Ze λp hp=>?_;rw[YN]at hp;refine Ld.st (ks:=[.int .i64,.bool]) (((row (bV l ys) c)[d].1:H),(row (bV l ys) c)[d].2,()) (λj hj=>hp j hj) ?_;refine Nw.mk C λb80 w10 h10=>ax.aH h10 rfl (qD (row (bV l ys) c)[d]) λw11 h11=>?_;rw[aj];refine Ld.aH h11 (row (bV l ys) c)[d].2 Ze ?_;have h12:=h11.drop;refine aa.mk (λhlf=>?_) λhlf=>?_;{rw[X0 hlf]at y;have W:cD ((row (bV l ys) c).take d)<ys.length:=by{omega};have hx:=z _ (Zs W);have hfi:=X _ W;have h15:=tot15 (cD ((row (bV l ys) c).take d));have hlv:1<=lv (bV l ys) c m (cD ((row (bV l ys) c).take d)):=by{cases c with|zero=>unfold lv whole;rw[X0 Za];exact Zw _|succ c=>unfold lv whole;rw[X0 Za];omega};refine Ru (h12.p2.aq ae.own) W ?_;refine aK.rd (s:=.int .u8) h12 Za Za _ (Um (by rw[j8];omega)) ?_;rw[DY hnd z W,X8 Za,Zq];refine aK.wr h12 Za Za (by rw[bC,j8]) rfl λw13 h13=>?_;rw[Zk,gW Za,show((f (cD ((row (bV l ys) c).take d)):H)+1)=((f (cD ((row (bV l ys) c).take d))+1:I):H) by omega,BN,MU hnd W]at h13;rw[af (x:=(cD ((row (bV l ys) c).take d):H)+1) Za,af Za];refine⟨⟨d+1,rfl,Za,Za,?_⟩,by dsimp only;omega⟩;rw[y];have e:iS ys (λi=>f i+if i<cD ((row (bV l ys) c).take d)+1 then 1 else 0)=iS ys (λj=>if j=cD ((row (bV l ys) c).take d)then f (cD ((row (bV l ys) c).take d))+1 else f j+if j<cD ((row (bV l ys) c).take d)then 1 else 0):=xK λi _=>Ze;rw[e];exact h13};rw[X8 Ze]at y;have y:cD ((row (bV l ys) c).take (d+1))=cD ((row (bV l ys) c).take d):=y;rw[af Za];refine⟨⟨d+1,rfl,Za,by rw[y],?_⟩,by dsimp only;omega⟩;rw[y];exact h12};have v:d=m:=by{have:=X5 v;omega};subst v;have hlj:cD ((row (bV l ys) c).take d)<=d:=by{unfold cD;have:=Q.length_filter_le (λx:It=>x.2) ((row (bV l ys) c).take d);rw[Zx]at this;omega};rw[af (x:=(d:H)-_) Za,af (x:=2*_) Za,af Za];refine⟨⟨_,?_,C⟩,by dsimp only;omega⟩;cases c with|zero=>refine .inl ⟨.inl Za,Za,Za,λi S=>?_⟩;have:=X i S;unfold lv whole at this;exact this|succ c=>refine .inr ⟨c,2*(d-whole (bV l ys) (c+1) d),Za,Za,?_,(qg P c d B).2.2.1,λi S=>?_⟩;{show 2*((d:H)-(whole (bV l ys) (c+1) d:H))=_;have:whole (bV l ys) (c+1) d<=d:=hlj;omega};have:=X i S;rw[lv]at this;rw[<-this];unfold whole;omega};have r:=X5 r;refine uu (done ?_) (j8 ..) λw9 h9=>R w9 h9.drop.drop.drop.drop.rO;(rcases X with⟨_,_,_,h0⟩|⟨c,m,rfl,hkN,rfl,B,X⟩);{exact h0};intro i S;have h0:=X i S;have hm0:m=0:=by{omega};subst hm0;rw[EF P c 0 i B (by simp[whole,cD]),Zq]at h0;exact h0};have hk:=X5 hk;refine uu (done ?_) (j8 ..) λw9 h9=>R w9 h9.drop.drop.drop.drop.rO;(rcases X with⟨_,_,_,h0⟩|⟨c,m,rfl,hkN,rfl,B,X⟩);{exact h0};omega
end
end
end Go.Proofs.Q9
namespace Go.Pm
section
structure RIt where
 w:I
 sym:H
 one:I
 two:I
end
end Go.Pm
namespace Go.Proofs.Q9
section
open Go Go.Vc Go.Srt Go.Pm
section
variable{E w:XZ}{F:Q HP}
abbrev RK:Q Sc:=ch
def tR(x:RIt):TT RK:=((x.w:H),x.sym,(x.one:H),(x.two:H),())
end
end
end Go.Proofs.Q9
namespace Go.Srt
section
def Dl(l:Q I):∃ys,dq l ys:=by have f:∀a b c:I,Wb (l.getD a 0<l.getD b 0\/(l.getD a 0=l.getD b 0/\a<=b))=J->Wb (l.getD b 0<l.getD c 0\/(l.getD b 0=l.getD c 0/\b<=c))=J->Wb (l.getD a 0<l.getD c 0\/(l.getD a 0=l.getD c 0/\a<=c))=J:=Ze;have g:∀a b:I,(decide (l.getD a 0<l.getD b 0\/(l.getD a 0=l.getD b 0/\a<=b))||Wb (l.getD b 0<l.getD a 0\/(l.getD b 0=l.getD a 0/\b<=a)))=J:=Ze;have i:=Q.pairwise_mergeSort (le:=λa b=>decide (l.getD a 0<l.getD b 0\/(l.getD a 0=l.getD b 0/\a<=b))) f g (used l);have e:=Q.mergeSort_perm (used l) λa b=>decide (l.getD a 0<l.getD b 0\/(l.getD a 0=l.getD b 0/\a<=b));have j:(used l).Nodup:=Q.Pairwise.filter _ (Q.nodup_range (n:=l.length));have d:=e.nodup_iff.2 j;exact⟨_,e,(i.and d).imp λ{a b} h=>by have:=X9 h.1;have:=h.2;omega⟩
structure fz (t:Q H) (L:H) (u ys:Q I) (N:I):Prop where
 eq:t=Proofs.Q9.ints u
 max:sr u
 len:u.length=258
 ord:dq u ys
 lim:L=(N:H)
 one:1<=N
 top:N<=15
 few:ys.length<=2^N
def Ho{u v:Q I}(h:Proofs.Q9.ints u=Proofs.Q9.ints v):u=v:=(Q.map_inj_right λx y h=>by have h:(x:H)=(y:H):=h;omega).1 h
end
end Go.Srt
namespace Go.Proofs.Q9
section
open Go Go.Vc Go.Srt Go.Pm
section
variable{E w:XZ}{F:Q HP}
def acM{t:Q H}{L:H}{u ys:Q I}{N:I}(b:fz t L u ys N):¬(cV t=U\/L<1\/15<L\/∃l,t=ints l/\(2:H)^L.toNat<(used l).length):=by obtain⟨rfl,c,e,a,rfl,f,g,i⟩:=b;rintro(h|h|h|⟨l,h,d⟩);{rw[vj c]at h;cases h};{omega};{omega};obtain rfl:=Ho h;rw[<-a.1.length_eq,Zk,show(2:H)^N=((2^N:I):H) by norm_cast]at d;omega
def kD(u ys:Q I)(N:I):Q I:=iS ys (lenOf (bV u ys) N)
def Pt(u ys:Q I)(N:I):(kD u ys N).length=258:=j8 ..
def VN{t:Q H}{L:H}{u ys:Q I}{N:I}{K:X4 G->H->ad}(a:fz t L u ys N)(h:Hp E w F)(c:bz E F (K (ai .u8 (kD u ys N)) 0)):ah [.arr 258,kI] 136 [.agg (aT t),ni L] w K:=by refine KM h (by rw[a.eq,jV,a.len]) (λd=>Wh d (acM a)) λl zs w' e i b j k m f=>?_;have:l=u:=Ho (e.symm.trans a.eq);subst this;obtain rfl:=Tx b a.ord;have g:=c w' f;rw[a.lim,Zk];exact g
end
end
end Go.Proofs.Q9
namespace Go.Srt
section
open Go.Pm
def TW(ys:Q I)(g:I->I):(ys.map g).sum=over ys.length λi=>g (ys.getD i 0):=by unfold over;congr 1;refine YW Zd λi a c=>?_;have b:i<ys.length:=by{simpa using a};simp[b]
def RR{u ys:Q I}{f:I->I}(c:u.length=258)(b:dq u ys)(d:∀i,i<ys.length->1<=f i):used (iS ys f)=used u:=by unfold used;rw[j8,c];refine Q.filter_congr λs a=>?_;have a:s<258:=by{simpa using a};rw[SV a];have e:s∈ys↔0<u.getD s 0:=by{rw[b.1.mem_iff,gb,c];exact⟨λh=>h.2,λh=>⟨a,h⟩⟩};by_cases h:s∈ys;{grind};grind
def QA{u ys:Q I}{f:I->I}(e:u.length=258)(a:dq u ys)(d:∀i,i<ys.length->1<=f i/\f i<=15):bF (iS ys f)=over ys.length λi=>2^(15-f i):=by have c:∀s∈ys,s<258:=λs g=>by{have:=(gb.1 (a.1.mem_iff.1 g)).1;omega};rw[Fe,RR e a λi b=>(d i b).1,<-(a.1.map _).sum_nat,TW];refine pQ λi b=>?_;rw[getD_at b,DY (yC a) c b];have:=d i b;unfold wt;rw[K Za,K Za]
section
variable{t:Q H}{L:H}{u ys:Q I}{N:I}
def fz.wl(a:fz t L u ys N):(bV u ys).length=ys.length:=Zn _
def fz.OC(a:fz t L u ys N){i:I}(b:i<ys.length):1<=lenOf (bV u ys) N i/\lenOf (bV u ys) N i<=N:=VS (DN a.ord) a.one (by rw[a.wl];exact a.few) (by rw[a.wl];exact b)
def p15:2^15=32768:=Zb
def fz.ahV(a:fz t L u ys N)(d:2<=ys.length):bF (Proofs.Q9.kD u ys N)=32768:=by have j:=a.top;have k:=a.one;have e:=QA (f:=lenOf (bV u ys) N) a.len a.ord λi b=>by{have:=a.OC b;omega};have c:=IU (DN a.ord) (N-1) (by rw[a.wl];exact d) (by rw[a.wl,show N-1+1=N by omega];exact a.few);rw[a.wl,show N-1+1=N by omega]at c;unfold Proofs.Q9.kD;rw[e,pQ (g:=λi=>2^(15-N)*2^(N-lv (bV u ys) (N-1) (2*ys.length-2) i)) λi b=>by have:=a.OC b;have h:lenOf (bV u ys) N i=lv (bV u ys) (N-1) (2*ys.length-2) i:=by{unfold lenOf;rw[K (by rw[a.wl];omega),a.wl]};rw[h]at this⊢;rw[<-WA.pow_add,show 15-N+(N-lv (bV u ys) (N-1) (2*ys.length-2) i)=15-lv (bV u ys) (N-1) (2*ys.length-2) i by omega],Tj,c,<-WA.pow_add,show 15-N+N=15 by omega,p15]
def fz.bytes(a:fz t L u ys N):∀y∈Proofs.Q9.kD u ys N,y<256:=by intro y b;obtain⟨s,_,rfl⟩:=List.mem_map.1 b;have c:=a.top;split;{rename_i h;have:=a.OC (Q.idxOf_lt_length_of_mem h);omega};decide
def fz.at(a:fz t L u ys N){i:I}(b:i<ys.length):(Proofs.Q9.kD u ys N).getD ys[i] 0=lenOf (bV u ys) N i:=DY (yC a.ord) (λs c=>by have:=(gb.1 (a.ord.1.mem_iff.1 c)).1;have:=a.len;omega) b
end
end
end Go.Srt
namespace Go.Sym
section
def xF:∀(b L:Q I)(r:I),cL L->(cd b)->(b≠[]\/0<r)->∃s∈ez L r b,s<257|[],L,r,_,_,h=>by have a:0<r:=by{(rcases h with h|h);{exact Wh O h};exact h};rw[nJ,lq a];exact⟨(r-1)%2,Zd,Za⟩|c::b,L,r,hL,hb,_=>by by_cases h0:L.idxOf c=0;{rw[l8 h0];exact xF b _ _ (hL.take Zb) (λx d=>hb x (ZB _ d)) (.inr Za)};rw[mW h0];have:=hL.idx (hb c ZM);exact⟨L.idxOf c+1,Zd,Za⟩
def Uw{b:Q I}(h:b≠[])(a:cd b):∃s∈syms b,s<257:=xF b _ 0 cL.range a (.inl h)
def VY(b:Q I):257∈syms b:=by unfold syms ez;simp
def MH(n:I):(de n).length<=n:=by induction n using ZU with|ind n a=>by_cases h:n=0;{subst h;rw[kz];exact Zw _};rw[lq Za,Zp];have:=a ((n-1)/2) Za;omega
def qN:∀(b L:Q I)(r:I),(ez L r b).length<=r+b.length+1|[],L,r=>by rw[nJ,Zf];have:=MH r;simp;omega|c::b,L,r=>by by_cases h0:L.idxOf c=0;{rw[l8 h0];have:=qN b (dk L 0) (r+1);rw[Zp];omega};rw[mW h0,Zf,Zp,Zp];have:=qN b (dk L (L.idxOf c)) 0;have:=MH r;omega
def vV(b:Q I):(syms b).length<=b.length+1:=by have:=qN b (Zr 256) 0;unfold syms;omega
end
end Go.Sym
namespace Go.an
section
open Go.Inc Go.Srt Go.Sym Go.Bits Go.Tab Go.Bw Go.Pm
def mD(a:Q I):Q I:=(Zr 258).map λs=>a.count s
def nT(a:Q I):(mD a).length=258:=by unfold mD;simp
def MR(a:Q I){s:I}(h:s<258):(mD a).getD s 0=a.count s:=by unfold mD;rw[Zl,ZR,Yq h];rfl
def DI{ss:Q I}(h:ss.length<=2147483647):sr (mD ss):=λx a=>by obtain⟨s,_,rfl⟩:=List.mem_map.1 a;exact Yl Q.count_le_length h
def gb{u:Q I}{s:I}:s∈used u↔s<u.length/\0<u.getD s 0:=by unfold used;rw[Q.mem_filter,YV,Wx]
def DB{u a:Q I}(h:dq u a){s:I}:s∈a↔s<u.length/\0<u.getD s 0:=by rw[h.1.mem_iff,gb]
def abm{u a:Q I}(b:u.length=258)(h:dq u a):a.length<=258:=by rw[h.1.length_eq,<-b];unfold used;exact Yl (Q.length_filter_le ..) Zd
def Mi{u b:Q I}(c:u.length=258)(d:sr u)(a:dq u b):fz (Proofs.Q9.ints u) 15 u b 15 where eq:=O;max:=d;len:=c;ord:=a;lim:=O;one:=Zb;top:=Zb;few:=Yl (abm c a) Zb
def Ms{u d b:Q I}(q:u.length=258)(r:sr u)(c:dq u d)(f:0<u.getD 257 0)(t:∃s,s<257/\0<u.getD s 0)(v:∀s∈syms b,0<u.getD s 0)(w:cd b):ra (Proofs.Q9.kD u d 15) b:=by have g:=Mi q r c;have j:∀s,s<258->0<u.getD s 0->0<(Proofs.Q9.kD u d 15).getD s 0:=by{intro s x l;have k:s∈d:=(DB c).2 ⟨Za,l⟩;obtain⟨i,p,e⟩:=List.mem_iff_getElem.1 k;have m:=g.at p;have y:=(g.OC p).1;rw[e]at m;omega};have l:2<=d.length:=by{obtain⟨s,x,m⟩:=t;have n:s∈d:=(DB c).2 ⟨Za,m⟩;have o:257∈d:=(DB c).2 ⟨Za,f⟩;match d,n,o with|[a],n,o=>rw[ZE]at n o;omega|_::_::_,_,_=>simp};refine⟨Proofs.Q9.Pt _ _ _,mB.2 ⟨g.ahV l,j 257 Zb f⟩,λs h=>?_⟩;have:=yX w s h;exact⟨Za,j s Za (v s h)⟩
noncomputable def js(u:Q I):Q I:=Classical.choose (Dl u)
def Ea(u:Q I):dq u (js u):=Classical.choose_spec (Dl u)
noncomputable def ago(a:Q I):Q I:=Proofs.Q9.kD (mD a) (js (mD a)) 15
noncomputable def jS(x:Q I):Q I:=ago (syms (bH x.reverse))
def Pn{a:Q I}(h:a.length<=2147483647):fz (Proofs.Q9.ints (mD a)) 15 (mD a) (js (mD a)) 15:=Mi (nT a) (DI h) (Ea _)
def pC{x:Q I}(j:0<x.length)(k:x.length<=1000000)(f:cd x):ra (jS x) (bH x.reverse):=by have b:=Stm.OV f;have g:bH x.reverse≠[]:=by{intro e;have:=Wn Yo e;rw[ed,ZY,ZP]at this;omega};have a:(syms (bH x.reverse)).length<=2147483647:=by{have:=vV (bH x.reverse);rw[ed,ZY]at this;omega};have c:∀s∈syms (bH x.reverse),0<(mD (syms (bH x.reverse))).getD s 0:=by{intro s h;have:=yX b s h;rw[MR _ Za];exact List.count_pos_iff.2 h};obtain⟨s,i,d⟩:=Uw g b;exact Ms (nT _) (DI a) (Ea _) (c 257 (VY _)) ⟨s,d,c s i⟩ c b
def abq{a:Q I}(h:∀s∈a,s<=257):Hs.j0 (Zh 258 0) (Proofs.Q9.ints a)=Proofs.Q9.ints (mD a):=by have b:(Proofs.Q9.ints a).all Hs.pw=J:=by{refine List.all_eq_true.2 λz e=>?_;obtain⟨s,f,rfl⟩:=List.mem_map.1 e;have:=h s f;exact Hs.tm.2 Za};refine YO λi=>?_;have k:(Hs.j0 (Zh 258 0) (Proofs.Q9.ints a)).length=258:=by{rw[Hs.tz];simp};by_cases hi:i<258;{have c:=Hs.zy (zs:=Proofs.Q9.ints a) (t:=Zh 258 0) b Zd i;rw[Zl,Zg Za]at c;rw[Zg Za];have d:=MR a hi;rw[Zl,Zg (by rw[nT];exact hi)]at d;have g:(Proofs.Q9.ints (mD a))[i]?=V (((mD a)[i]'(by rw[nT];exact hi):I):H):=by{unfold Proofs.Q9.ints;rw[ZR,Zg (by rw[nT];exact hi)];rfl};rw[g];simp only[YE]at c d;rw[c,d];have j:((Proofs.Q9.ints a).count (i:H))=a.count i:=by{unfold Proofs.Q9.ints;rw[Q.count_eq_countP,Q.countP_map,Q.count_eq_countP];refine Q.countP_congr λx _=>?_;simp only[XQ,Wk];omega};rw[j,Zl,Q.getElem?_replicate,X0 hi];simp};rw[Z6 Za,Z6 (by rw[Proofs.Q9.jV,nT];omega)]
end
end Go.an
namespace Go.Vc
section
def rT(l:Q I)(i:I):Q I:=(Zr l.length).map λp=>if p<i\/l.length-i<=p then l.getD (l.length-1-p) 0 else l.getD p 0
def qo(l:Q I)(i:I):(rT l i).length=l.length:=by unfold rT;simp
def tP{l:Q I}{i p:I}(h:p<l.length):(rT l i)[p]?=V (if p<i\/l.length-i<=p then l.getD (l.length-1-p) 0 else l.getD p 0):=by unfold rT;rw[ZR,Yq h];rfl
def Uv(l:Q I):rT l 0=l:=by refine YO λp=>?_;by_cases h:p<l.length;{rw[tP h,K Za,Zg h,Zl,Zg h];rfl};rw[Z6 (by rw[qo];omega),Z6 Za]
def aav{l:Q I}{i:I}(h:2*i+1<l.length):((rT l i).set i (l.getD (l.length-1-i) 0)).set (l.length-1-i) (l.getD i 0)=rT l (i+1):=by refine YO λp=>?_;by_cases hp:p<l.length;{rw[tP hp,Q.getElem?_set,Q.getElem?_set,tP hp];by_cases h1:l.length-1-i=p;{subst h1;rw[X0 O,X0 (by rw[XW,qo];omega),X0 Za,show l.length-1-(l.length-1-i)=i by omega]};rw[K h1];by_cases h2:i=p;{subst h2;rw[X0 O,X0 (by rw[qo];omega),X0 Za]};grind};rw[Z6 (by rw[XW,XW,qo];omega),Z6 (by rw[qo];omega)]
def ack{l:Q I}{i:I}(h:l.length<=2*i+1):rT l i=l.reverse:=by refine YO λp=>?_;by_cases hp:p<l.length;{rw[tP hp,Q.getElem?_reverse hp];have e:∀q,q<l.length->l[q]?=V (l.getD q 0):=λq a=>by{rw[Zl,Zg a];rfl};rw[e _ Za];by_cases h3:p<i\/l.length-i<=p;{rw[X0 h3]};grind};rw[Z6 (by rw[qo];omega),Z6 Ze]
end
end Go.Vc
namespace Go.Proofs.Q9
section
open Go Go.Vc
section
variable{E w:XZ}{F:Q HP}
theorem R8{s:Sl}{l:Q I}{K:ad}(h:Hp E w (av 1 s (l.map vB)::F))(a:l.length<=c8)(f:bz E (av 1 s (l.reverse.map vB)::F) K):cP 251 [ak s] w K:=by refine qU.ok _ _ _ ?_;have b:=h.br;rw[Zn,Zy]at b;rw[aU]at a;rw[af Za];refine⟨λi j w'=>∃k:I,i=(k:H)/\j=(l.length:H)-1-(k:H)/\k<=l.length/\Hp E w' (av 1 s ((rT l k).map vB)::F),λi _ _=>l.length-i.toNat,⟨0,O,Za,Za,by rw[Uv];exact h⟩,?_⟩;rintro i j w ⟨k,rfl,rfl,hk,h⟩;refine aa.dm (λg=>?_) λm=>?_;{have x:∀p,(e:p<l.length)->((rT l k).map vB)[p]?=V (vB (if p<k\/l.length-k<=p then l.getD (l.length-1-p) 0 else l.getD p 0)):=λp e=>by{rw[ZR,tP e];rfl};have n:((l.length:H)-1-(k:H)).toNat=l.length-1-k:=by{omega};refine aP.mk h λw h=>aB.rd (h.aq ae.own) Za Za λq o r=>?_;have t:((rT l k).map vB)[((l.length:H)-1-(k:H)).toNat]' o=vB (l.getD (l.length-1-k) 0):=by{grind};refine Ld.sc (s:=.int .u8) (l.getD (l.length-1-k) 0:H) (by rw[r,t];rfl) ?_;refine aB.rd (h.aq ae.own) Za Za λy c d=>?_;have u:((rT l k).map vB)[((k:H)).toNat]' c=vB (l.getD k 0):=by{grind};refine Ld.sc (s:=.int .u8) (l.getD k 0:H) (by rw[d,u];rfl) ?_;refine St.own h Za Za O λw h=>?_;refine St.own h Za Za O λw h=>?_;rw[af Za,af Za];refine⟨⟨k+1,Za,Za,Za,?_⟩,by first|omega|(dsimp only;omega)⟩;rw[n,Zk]at h;have v:(((rT l k).map vB).set k (ao (l.getD (l.length-1-k) 0:H))).set (l.length-1-k) (ao (l.getD k 0:H))=(rT l (k+1)).map vB:=by{rw[<-aav Za,Xz,Xz];rfl};rw[v]at h;exact h};rw[ack Za]at h;exact f _ h
end
end
section
open Go Go.Vc Go.Hd
section
variable{E w:XZ}{F:Q HP}
theorem adW{n:I}{K:Sl->H->ad}(h:Hp E w F)(k:n<=65536)(o:∀s w',Hp E w' (av 1 s ((gZ n).map vB)::F)->K s 0 w'):ah [kS,kI] 262 [ni (n:H)] w K:=by refine Pv.ok _ _ _ (aa.df Za (aa.df Za ?_));have v:YJ .i64=9223372036854775807:=O;have a:∀m:I,m<=65536->cU .i64 (m:H) 127=((m%128:I):H):=λm h=>by{rw[show(127:H)=((127:I):H)from O,gH Za Za,show(127:I)=2^7-1 from O,XH]};have c:∀m:I,ba .i64 (m:H) 7=((m/128:I):H):=λm=>by{rw[show(7:H)=((7:I):H)from O,db Zb]};rw[a n k,gW Za];refine Nw.mk h λp w h=>bu (s:=⟨Z,0,0⟩) (ys:=[vB (n%128)]) (n:=1) uO Zb (.inl ⟨5,Zc⟩) (h.bm 1) (.inl ⟨V ⟨p,0,Z⟩,1,1,O,O,h.aq (ae.aH O O)⟩) O IA Zb Zb λs w h _=>?_;refine⟨Zb,?_⟩;rw[c];refine⟨λx s w'=>∃(m:I)(l:Q I),x=(m:H)/\m<=512/\l.length+m<=513/\rr m++l.reverse=gZ n/\Hp E w' (av 1 s (l.map vB)::F),λx _ _=>x.toNat,⟨n/128,[n%128],O,Za,by simp;omega,O,h.p1.drop⟩,?_⟩;rintro x s w ⟨m,l,rfl,hm5,hl,hv,h⟩;refine aa.dm (λq=>?_) λr=>?_;{have d:0<m:=by{omega};have f:jv .u8 ((m%128:I):H) 128=((128+m%128:I):H):=by{have t:YJ .u8=255:=O;have e:=YZ (i:=7) (b:=m%128) Za 1;have u:m%128|||128=128+m%128:=by{rw[I.or_comm];exact e.symm};rw[show(128:H)=((128:I):H)from O,mO Za Za Ze,u]};rw[a m Za,gW Za,f];have g:=h.br;rw[Zn,Zy]at g;refine Nw.mk h λj w h=>bu (ys:=[vB (128+m%128)]) (n:=1) uO Zb (.inl ⟨5,Zc⟩) h.p1 (.inl ⟨V ⟨j,0,Z⟩,1,1,O,O,h.aq (ae.aH O O)⟩) O IA Za Za λs w h _=>?_;refine⟨Zb,?_⟩;rw[c];refine⟨⟨m/128,l++[128+m%128],O,Za,by rw[Zf,ZN];omega,?_,by rw[ZC];exact h.p1.drop⟩,by first|omega|(dsimp only;omega)⟩;rw[Q.reverse_append,<-hv,p9 d];simp};have d:m=0:=Za;subst d;rw[nW,ZW]at hv;refine R8 h (by rw[aU];omega) λw h=>o s w ?_;rw[hv]at h;exact h
end
end
section
open Go Go.Vc
set_option maxRecDepth 100000
def TQ.ok(a:H)(b:Sl)(R:H->ad) w(h:ah [(.arr 256)] 141 [] w λd c=>Nw 240 ⟨Zh 256 (.int .u32 0)⟩ c λf e=>az 256 (ar f 0) d e λg=>cY (ga .u32 (if Wl.signed .u32 then-1 else YJ .u32) a) 0 g λh i(j:H)(k:H) l=>aw (k<(b.len:H)) (aB b k 1 λm=>eT m l λn=>cY j 0 l λo p(q:H)(r:H) s=>aw (r<(n.len:H)) (aB n r 1 λt=>dD t s λu=>aK (ar f 0) 256 (ga .u8 (u8 q) u) 1 λv=>Ld (aC .u32) v s λ(x:H)=>0<=(8:H)/\o (ga .u32 x (ba .u32 q (8:H))) (i64 (r+1)) s/\p (ga .u32 x (ba .u32 q (8:H))) (i64 (r+1)) s<p q r s) (h q (i64 (k+1)) s/\i q (i64 (k+1)) s<i j k l)) (R (ga .u32 (if Wl.signed .u32 then-1 else YJ .u32) j) l)):ah [(aC .u32)] 87 [(.int .u32 a),(ak b)] w R:=co Tryz.f87 [(9,[(0,(aC .u32)),(15,kI)]),(18,[(0,(aC .u32)),(21,kI)])] h
def Rr.ok(R:(X4 G)->ad) w(h:Nw 240 ⟨Zh 256 (.int .u32 0)⟩ w λb a=>dX 0 a λc d(e:H) f=>aw (e<256) (ah [(aC .u32)] 211 [(ao (u8 e))] f λ(h:H) g=>aK (ar b 0) 256 e 1 λi=>St i (.int .u32 h) g λj=>c (i64 (e+1)) j/\d (i64 (e+1)) j<d e f) (aI 256 b 0 f λk=>az 256 (ar b 0) k f λl=>aI 256 b 0 l λm=>R m l)):ah [(.arr 256)] 141 [] w R:=co Tryz.f141 [(5,[(2,kI)])] h
def acZ.ok(a:H)(R:Sl->ad) w(h:aJ 310 [(ao 0),(ao 0),(ao 0),(ao 0)] w λc b=>dX 0 b λd e(f:H) g=>aw (f<4) (0<=(i64 ((24:H)-(i64 ((8:H)*f))))/\aK (ar c 0) 4 f 1 λh=>St h (ao (u8 (ba .u32 a (i64 ((24:H)-(i64 ((8:H)*f))))))) g λi=>d (i64 (f+1)) i/\e (i64 (f+1)) i<e f g) (cG (⟨V ⟨c,0,Z⟩,4,4⟩:Sl) 0 4 4 1 λj=>R j g)):cm 143 [(.int .u32 a)] w R:=co Tryz.f143 [(7,[(5,kI)])] h
def acV.ok(a:H)(R:H->ad) w(h:cY (u32 a) 0 w λb c(d:H)(e:H) f=>aw (e<8) (0<=(1:H)/\b (ga .u32 (ba .u32 d (1:H)) (u32 ((3988292384:H)*(cU .u32 d 1)))) (i64 (e+1)) f/\c (ga .u32 (ba .u32 d (1:H)) (u32 ((3988292384:H)*(cU .u32 d 1)))) (i64 (e+1)) f<c d e f) (R d f)):ah [(aC .u32)] 211 [(ao a)] w R:=co Tryz.f211 [(7,[(3,(aC .u32)),(6,kI)])] h
end
end Go.Proofs.Q9
namespace Go.Crc
section
def Tp(c:I):(c/2)^^^(3988292384*(c%2))=half c:=by unfold half;(rcases I.mod_two_eq_zero_or_one c with e|e);{rw[e];rfl};rw[e];rfl
def dC:I->I->I|0,c=>c|k+1,c=>half (dC k c)
def xD:∀(k c:I),c<4294967296->dC k c<4294967296|0,_,h=>h|k+1,c,h=>ju (xD k c h)
end
end Go.Crc
namespace Go.Proofs.Q9
section
open Go Go.Vc Go.Crc
section
variable{E w:XZ}{F:Q HP}
theorem afI{b:I}{K:H->ad}(d:b<256)(e:K (row b:H) w):ah [aC .u32] 211 [ao (b:H)] w K:=by refine acV.ok _ _ _ (⟨λc i w'=>w'=w/\∃k:I,i=(k:H)/\k<=8/\c=(dC k b:H),λ_ i _=>8-i.toNat,⟨O,0,O,Za,by rw[eo Za];rfl⟩,?_⟩);rintro c i w' ⟨rfl,k,rfl,hk,rfl⟩;refine aa.dm (λa=>?_) λf=>?_;{have a:k<8:=by{omega};have d:=xD k b Za;have n:YJ .u32=4294967295:=O;have o:=ju d;have g:ba .u32 (dC k b:H) 1=((dC k b/2:I):H):=by{rw[show(1:H)=((1:I):H)from O,db Zb]};have h:cU .u32 (dC k b:H) 1=((dC k b%2:I):H):=by{rw[show(1:H)=((1:I):H)from O,gH Za Za,I.and_one_is_mod]};have j:u32 ((3988292384:H)*((dC k b%2:I):H))=((3988292384*(dC k b%2):I):H):=by{rw[eo Za];omega};have l:ga .u32 ((dC k b/2:I):H) ((3988292384*(dC k b%2):I):H)=(dC (k+1) b:H):=by{have m:=Tp (dC k b);rw[kx Za Za Ze,m];rfl};rw[g,h,j,l,af Za];exact⟨Zb,⟨O,k+1,O,Za,O⟩,by dsimp only;omega⟩};have:k=8:=Za;subst this;exact e
def iJ:Q I:=(Zr 256).map row
def qF:iJ.length=256:=by unfold iJ;simp
def Jh{b:I}(h:b<256):iJ[b]?=V (row b):=by unfold iJ;rw[ZR,Yq h];rfl
abbrev lG(l:Q I):Q G:=l.map λ(n:I)=>Yx .u32 (n:H)
def BG{l:Q I}:(lG l).all aN=J:=by unfold lG;rw[Q.all_map];exact List.all_eq_true.2 λ_ _=>rfl
def adJ{K:X4 G->ad}(h:Hp E w F)(f:∀w',Hp E w' F->K ⟨lG iJ⟩ w'):ah [.arr 256] 141 [] w K:=by refine Rr.ok _ _ (Nw.mk h λg w h=>?_);have b:∀k,k<=256->(lG (iJ.take k++Zh (256-k) 0)).length=256:=λk j=>by{simp[qF];omega};refine⟨λi w'=>∃k:I,i=(k:H)/\k<=256/\Hp E w' (an g (.cells ⟨lG (iJ.take k++Zh (256-k) 0)⟩ 240 (0,0))::F),λi _=>256-i.toNat,⟨0,O,Za,by have:(⟨lG (iJ.take 0++Zh (256-0) 0)⟩:X4 G)=⟨Zh 256 (.int .u32 0)⟩:=by{simp};rw[this];exact h⟩,?_⟩;rintro i w ⟨k,rfl,j,h⟩;refine aa.dm (λa=>?_) λl=>?_;{have a:k<256:=by{omega};rw[gW Za];refine afI a (⟨Za,Za,?_⟩);rw[show((k:H)).toNat*1=k by omega];simp only[aj,Zi];have n:=b k Za;refine St.xb h (by show k<(lG (iJ.take k++Zh (256-k) 0)).length;omega) O λw h=>?_;rw[af Za];refine⟨⟨k+1,O,Za,?_⟩,by first|omega|(dsimp only;omega)⟩;have e:(⟨lG (iJ.take k++Zh (256-k) 0)⟩:X4 G).setIfInBounds k (.int .u32 (row k:H))=⟨lG (iJ.take (k+1)++Zh (256-(k+1)) 0)⟩:=by{apply Xw;rw[Yv];have:(lG (iJ.take k++Zh (256-k) 0)).set k (.int .u32 (row k:H))=lG ((iJ.take k++Zh (256-k) 0).set k (row k)):=by{rw[lG,lG,Xz]};have o:(iJ.take k).length=k:=by{rw[Zx,qF];omega};rw[this,Wu.set_append_right _ _ Za,o,Y3];obtain⟨m,p⟩:∃m,256-k=m+1:=⟨255-k,Za⟩;rw[p,Wu.replicate_succ,Wu.set_cons_zero,Zz,Jh a,show 256-(k+1)=m by omega];simp};rw[e]at h;exact h};have d:k=256:=Za;subst d;have e:(⟨lG (iJ.take 256++Zh (256-256) 0)⟩:X4 G)=⟨lG iJ⟩:=by{rw[Zt (by rw[qF];omega)];simp};rw[e]at h;have c:(⟨lG iJ⟩:X4 G).size=256:=by{simp[qF]};refine Ld.xw h c (az.q h c c BG λw h=>?_);exact Ld.xw h c (f _ h.tl)
def agJ:(if Wl.signed .u32 then(-1:H)else YJ .u32)=((4294967295:I):H):=O
def aaU{c:I}(h:c<4294967296):ga .u32 (if Wl.signed .u32 then(-1:H)else YJ .u32) (c:H)=((c^^^4294967295:I):H):=by have a:YJ .u32=4294967295:=O;have b:4294967295^^^c<2^32:=YQ Zb Za;rw[agJ,kx Za Za Za,I.xor_comm]
def VI{c x:I}(a:c<4294967296)(b:x<256):ga .u8 (u8 (c:H)) (x:H)=((c%256^^^x:I):H):=by have d:YJ .u8=255:=O;have e:c%256^^^x<2^8:=YQ Za Za;rw[yE,show((c:H)%256)=((c%256:I):H) by omega,kx Za Za Za]
def zi{c x:I}(a:x<256):c%256^^^x<256:=by have:c%256^^^x<2^8:=YQ Za Za;omega
def Q8{c x:I}(b:c<4294967296)(a:x<256):ga .u32 (row (c%256^^^x):H) (ba .u32 (c:H) 8)=(Crc.step c x:H):=by have e:YJ .u32=4294967295:=O;have f:=Iq (c:=c%256^^^x) (by have:=zi (c:=c) a;omega);have d:=EA b a;unfold Crc.step at d⊢;rw[show(8:H)=((8:I):H)from O,db Zb,show(2:I)^8=256 from O,kx Za Za Za]
end
end
section
open Go Go.Vc Go.Bits
section
variable{E w:XZ}{F:Q HP}
def FL{a:Q (Q I)}{k:I}(h:k<a.length):(a.take (k+1)).flatten=(a.take k).flatten++a.getD k []:=by rw[Zz,Xf];congr 1;simp[h]
def agn{b:I}(h:b<256):(⟨lG iJ⟩:X4 G)[b]?=V (Sc.enc (.int .u32) (Crc.row b:H)):=by rw[Wu.getElem?_toArray,lG,ZR,Jh h];rfl
theorem DU{c:I}{K:H->ad}{s:Sl}{cs:Q Sl}{bs:Q (Q I)}(h:Hp E w F)(u:c<4294967296)(R:ae F (aO 1 s (cs.map λx=>ak x)))(hl:cs.length=bs.length)(D:cs.length<=c8)(Y:∀i(h:i<cs.length),ae F (aO 1 cs[i] ((bs.getD i []).map vB)))(g:∀b∈bs,∀y∈b,y<256)(v:∀b∈bs,b.length<=c8)(hK:∀w',Hp E w' F->K ((Crc.feed (c^^^4294967295) bs.flatten^^^4294967295:I):H) w'):ah [aC .u32] 87 [.int .u32 (c:H),ak s] w K:=by refine TQ.ok _ _ _ _ ?_;have S:s.len=cs.length:=by{have:=(h.aq R).1;simpa using this.symm};have l:∀y∈bs.flatten,y<256:=λy a=>by{obtain⟨b,m,o⟩:=List.mem_flatten.1 a;exact g b m y o};have z:c^^^4294967295<4294967296:=YQ (n:=32) u Zb;rw[aU]at D;refine adJ h λw h=>Nw.mk h λT w h=>?_;have hn:(⟨lG iJ⟩:X4 G).size=256:=by{simp[qF]};refine az.q h Zd hn BG λw h=>?_;rw[aaU u];refine⟨λx i w'=>∃k:I,i=(k:H)/\k<=cs.length/\x=(Crc.feed (c^^^4294967295) (bs.take k).flatten:H)/\Hp E w' (an T (.cells ⟨lG iJ⟩ 240 (0,0))::F),λ_ i _=>cs.length-i.toNat,⟨0,O,Za,O,h⟩,?_⟩;rintro x i w ⟨k,rfl,hk,rfl,h⟩;refine aa.dm (λA=>?_) λhge=>?_;{have A:k<cs.length:=by{omega};have p:k<bs.length:=by{omega};refine aB.rd (h.tl.aq R) Za Za λq hi L=>?_;have M:w.cell? q=V (Sc.sl.enc cs[k]):=by{simpa using L};refine Ld.sc _ M ?_;have B:bs.getD k []=bs[k]:=by{rw[Zl,Zg p];rfl};have r:=Y k A;rw[B]at r;have f:=Zs p;have t:=v _ f;rw[aU]at t;have N:=(h.tl.aq r).1;simp only[Zn,Zy]at N;refine⟨λx i w'=>∃j:I,i=(j:H)/\j<=bs[k].length/\x=(Crc.feed (c^^^4294967295) ((bs.take k).flatten++bs[k].take j):H)/\Hp E w' (an T (.cells ⟨lG iJ⟩ 240 (0,0))::F),λ_ i _=>bs[k].length-i.toNat,⟨0,O,Za,Zd,h⟩,?_⟩;rintro x i w ⟨j,rfl,hj,rfl,h⟩;have C:∀y∈(bs.take k).flatten++bs[k].take j,y<256:=λy a=>by{(rcases List.mem_append.1 a with a|a);{obtain⟨b,m,o⟩:=List.mem_flatten.1 a;exact g b (Yg m) y o};grind};have d:=Crc.qb _ _ z C;refine aa.dm (λW=>?_) λX=>?_;{have e:j<bs[k].length:=by{omega};have a:=g _ f _ (Zs e);refine aB.rd (h.tl.aq r) Za Za λq hi L=>?_;refine Ld.sc (s:=.int .u8) (bs[k][j]:H) (by simpa[vB]using L) ?_;rw[VI d a];refine aK.rd (s:=.int .u32) h Za (by have:=zi (c:=Crc.feed (c^^^4294967295) ((bs.take k).flatten++bs[k].take j)) a;omega) (Crc.row (Crc.feed (c^^^4294967295) ((bs.take k).flatten++bs[k].take j)%256^^^bs[k][j]):H) ?_ ?_;{rw[Zk];exact agn (zi (c:=Crc.feed (c^^^4294967295) ((bs.take k).flatten++bs[k].take j)) a)};rw[Q8 d a,af Za];refine⟨Zb,⟨j+1,O,Za,?_,h⟩,by first|omega|(dsimp only;omega)⟩;rw[Zz,Zg e,<-Zm,Crc.Aw ((bs.take k).flatten++bs[k].take j)];rfl};have e:j=bs[k].length:=by{omega};subst e;rw[af Za,Z4];exact⟨⟨k+1,O,Za,by rw[FL p,B],h⟩,by first|omega|(dsimp only;omega)⟩};have P:k=bs.length:=Za;subst P;rw[Z4];have d:=Crc.qb _ _ z l;rw[aaU d];exact hK _ h.tl
def acC{c k:I}(a:k<4):(Hd.iR c)[k]?=V (c/2^(24-8*k)%256):=by match k,a with|0,_=>rfl|1,_=>rfl|2,_=>rfl|3,_=>simp[Hd.iR]
theorem SF{c:I}{K:Sl->XZ->Prop}(h:Hp E w F)(t:c<4294967296)(f:∀s w',Hp E w' (av 1 s ((Hd.iR c).map vB)::F)->K s w'):Cl Zj [kS] 143 ⟨[.int .u32 (c:H)]⟩ w K:=by refine acZ.ok _ _ _ ?_;refine Nw.mk h λg w h=>?_;have a:∀k,k<=4->(((Hd.iR c).take k++Zh (4-k) 0).map vB).length=4:=λk j=>by{rw[Zn,Zf,Zx,ZO,show(Hd.iR c).length=4 from O];omega};refine⟨λi w'=>∃k:I,i=(k:H)/\k<=4/\Hp E w' (an g (.cells ⟨((Hd.iR c).take k++Zh (4-k) 0).map vB⟩ 310 (0,0))::F),λi _=>4-i.toNat,⟨0,O,Za,h⟩,?_⟩;rintro i w ⟨k,rfl,j,h⟩;refine aa.dm (λb=>?_) λl=>?_;{have b:k<4:=by{omega};rw[af (x:=(8:H)*(k:H)) Za,af Za,show(24:H)-8*(k:H)=((24-8*k:I):H) by omega,db (by have:Wl.bits .u32=32:=O;omega),yE,af Za];refine⟨Za,Za,Za,?_⟩;rw[show((k:H)).toNat*1=k by omega];simp only[aj,Zi];have o:=a k Za;refine St.xb h Ze O λw h=>?_;refine⟨⟨k+1,O,Za,?_⟩,by first|omega|(dsimp only;omega)⟩;have e:(⟨((Hd.iR c).take k++Zh (4-k) 0).map vB⟩:X4 G).setIfInBounds k (.int .u8 (((c/2^(24-8*k):I):H)%256))=⟨((Hd.iR c).take (k+1)++Zh (4-(k+1)) 0).map vB⟩:=by{apply Xw;rw[Yv];have p:(Yx .u8 (((c/2^(24-8*k):I):H)%256))=vB (c/2^(24-8*k)%256):=by{unfold vB;congr 1};have q:((Hd.iR c).take k).length=k:=by{rw[Zx,show(Hd.iR c).length=4 from O];omega};obtain⟨m,r⟩:∃m,4-k=m+1:=⟨3-k,Za⟩;show(((Hd.iR c).take k++Zh (4-k) 0).map vB).set k _=_;rw[p,<-Xz,Q.set_append_right _ _ Za,q,Y3,r,Q.replicate_succ,Q.set_cons_zero,Zz,acC b,show 4-(k+1)=m by omega];simp};rw[e]at h;exact h};have d:k=4:=Za;subst d;rw[Zt (Zw 4:(Hd.iR c).length<=4),Y3,Q.replicate_zero,ZG]at h;refine cG.whole Zb O O ?_;refine f _ w (h.nC (n:=4) (sz:=1) O)
end
end
section
open Go Go.Vc Go.Srt Go.Inc Go.Hd
def gG{n:I}(h:n<=65536):(gZ n).length<=4:=by unfold gZ;have:∀k m:I,m<128^k->(rr m).length<=k:=by{intro k;induction k with|zero=>intro m a;have:m=0:=by{simpa using a};rw[this,nW];exact Zw _|succ k b=>intro m a;(rcases Z5 m with e|e);{grind};rw[p9 e,Zf,ZN];have:=b (m/128) Ze;omega};have:=this 3 (n/128) Za;rw[Zf,ZN];omega
section
variable{E w:XZ}{F:Q HP}
def xk{n:I}{a:H}{K:Sl->X3->ad}(h:Hp E w F)(b:n<=65536)(c:∀s w',Hp E w' (av 1 s ((gZ n).map vB)::F)->K s (Wb (1<=(n:H)/\(n:H)<=a)) w'):ah [kS,kB] 192 [ni (n:H),ni a] w K:=by refine Gy.ok _ _ _ _ (adW h b λs w h=>fI (c _ _ h))
theorem ae0{n:I}{K:Sl->H->ad}(h:Hp E w F)(a:n<=65536)(f:0<n)(c:∀s w',Hp E w' (av 1 s ((qM n).map vB)::F)->K s 0 w'):ah [kS,kI] 128 [.agg ⟨[ni (n:H)]⟩] w K:=by refine Oh.ok ((n:H),()) _ _ ?_;(try simp only[aj,Zq]);(with_reducible repeat first|refine Nw.mk h λb w h=>?_|refine Ld.xb h O ?_);refine xk h a λs w h=>?_;rw[We (show 1<=(n:H)/\(n:H)<=65536 by omega)];(with_reducible repeat first|refine Nw.mk h λb w h=>?_|refine aa.no ?_);refine VT h λw h=>?_;have d:=(h.at 1).br;rw[Zn,Zy]at d;have g:=gG a;refine wD (s:=(jD _ 3)) (xs:=([87,80,1]:Q I).map vB) o9 (.inl ⟨5,Zc⟩) h (ae.aH O O) (n:=s.len) ?_ ((ae.at 1 ae.own).imp λw e=>.inl ⟨s.base,s.len,s.cap,O,O,e⟩) Ze (by simp only;omega) (by simp only;omega) λi w' h _=>?_;{have:0<(gZ n).length:=by{unfold gZ;simp};simp only;omega};refine c _ _ ?_;rw[<-ZC]at h;exact h.iV
theorem aeX{c:I}{K:Sl->ad}(h:Hp E w F)(a:c<4294967296)(d:∀s w',Hp E w' (av 1 s ((jc c).map vB)::F)->K s w'):cm 89 [.int .u32 (c:H)] w K:=by refine GR.ok _ _ _ ?_;(skip);(with_reducible refine Nw.mk h λb w h=>?_);refine SF h a λs w h=>?_;have e:=h.br;rw[Zn,Zy]at e;have g:(iR c).length=4:=O;refine wD (s:=(jD _ 1)) (xs:=([0]:Q I).map vB) o9 (.inl ⟨5,Zc⟩) h (ae.cons (ae.aH O O)) (n:=s.len) (by simp only;omega) (ae.own.imp λw f=>.inl ⟨s.base,s.len,s.cap,O,O,f⟩) Ze (by simp only;omega) (by simp only;omega) λi w' h _=>?_;refine d _ _ ?_;rw[<-ZC]at h;exact h.iV
def R3{n:H}{M P u:I}{K:Sl->H->ad}(h:Hp E w F)(f:M<=65536)(g:P<=65536)(j:u<4294967296)(c:1<=n->n<=65536->1<=M->(M:H)<=n->1<=P->P<=M->∀s w',Hp E w' (av 1 s ((mc M P u).map vB)::F)->K s 0 w')(a:¬(1<=n/\n<=65536/\1<=M/\(M:H)<=n/\1<=P/\P<=M)->∀w',Hp E w' F->K ⟨Z,0,0⟩ 2 w'):ah [kS,kI] 132 [ni n,.agg ⟨[ni (M:H),ni (P:H),.int .u32 (u:H)]⟩] w K:=by refine C5.ok _ ((M:H),(P:H),(u:H),()) _ _ ?_;(try simp only[aj,Zi,Zq]);(with_reducible repeat first|refine Nw.mk h λb w h=>?_|refine Ld.xb h O ?_);refine xk h f λk w h=>?_;(with_reducible repeat refine Ld.xb h O ?_);refine xk h g λl w h=>fI ?_;by_cases hn:1<=n/\n<=65536;{refine aa.KE hn ?_;by_cases hm:1<=(M:H)/\(M:H)<=n;{refine aa.KE hm ?_;by_cases hp:1<=(P:H)/\(P:H)<=(M:H);{refine aa.KE hp ?_;(with_reducible repeat first|refine Nw.mk h λb w h=>?_|refine Ld.xb h O ?_);refine SF h j λm w h=>Nw.mk h λd w h=>?_;have p:=gG f;have q:=gG g;refine TN (s:=(jD d 4)) (cs:=[(jD b 1),k,l,m]) (bs:=[[1],gZ M,gZ P,iR u]) h (ae.aH O O) O (by rw[aU];simp) ?_ ?_ λs w h=>?_;{intro i o;match i,o with|0,_=>exact ae.at 2 (ae.aH O O)|1,_=>exact ae.at 4 ae.own|2,_=>exact ae.at 3 ae.own|3,_=>exact ae.at 1 ae.own};{rw[aU];simp[iR];omega};refine c hn.1 hn.2 Za hm.2 Za Za s w ?_;have e:[[1],gZ M,gZ P,iR u].flatten=mc M P u:=by{simp[mc]};rw[e]at h;exact h.iV};exact aa.ndf hp (a Za _ h.tl)};exact aa.ndf hm (a Za _ h.tl)};exact aa.ndf hn (a Za _ h.tl)
end
end
section
open Go Go.Vc
set_option maxRecDepth 100000
def BW.ok(a:(X7 Wg))(b:(X4 G))(R:H->ad) w(h:Nw 166 b w λd c=>aI 258 d 0 c λe=>ah [kS,kI] 207 [(.agg e)] c λ(g:Sl)(h:H) f=>aa (h !=0) (R 2 f) (aa (ZI a) (R 2 f) (dX 0 f λi j(k:H) l=>aw (k<(g.len:H)) (aB g k 1 λm=>bj m l λn=>aE 208 [(au a),(.int .u32 (u32 n)),(ni 1)] l λp o=>i (i64 (k+1)) o/\j (i64 (k+1)) o<j k l) (R 0 l)))):bP 138 [(au a),(.agg b)] w R:=co Tryz.f138 [(12,[(22,kI)])] h
def Ei.ok(a:(X4 G))(R:Sl->H->ad) w(h:Nw 166 a w λc b=>aJ 25 [(.slice Z 0 0)] b λe d=>aI 258 c 0 d λf=>aE 282 [(.agg f)] d λh g=>aa (! h) (cS e 0 (.slice Z 0 0) g λi=>dG e 0 i λj=>R j 2 i) (aK (ar c 0) 258 0 1 λk=>dD k g λl=>∃(m:H->ad)(n:H->XZ->I),m (0) g/\∀(o:H),∀(p:XZ),m o p->aw (o<4) (aP p λq=>0<=(i64 ((3:H)-o))/\(dG e 0 q λr=>aJ 3 [(ni (cU .i64 (ba .i64 (i64 l) (i64 ((3:H)-o))) 1))] q λt s=>aG Pg (ZD #[25,25] 25 ⟨[(ak r),(cE t 1)]⟩) kS s λ(v:Sl) u=>cS e 0 (ak v) u λx=>([]:Q I)=([]:Q I)/\m (i64 (o+1)) x/\n (i64 (o+1)) x<n o p)/\(aJ 3 [(ni (cU .i64 (ba .i64 (i64 l) (i64 ((3:H)-o))) 1))] q λz y=>dG e 0 y λX=>aG Pg (ZD #[25,25] 25 ⟨[(ak X),(cE z 1)]⟩) kS y λ(Y:Sl) b1=>cS e 0 (ak Y) b1 λK=>([]:Q I)=([]:Q I)/\m (i64 (o+1)) K/\n (i64 (o+1)) K<n o p)) (aI 258 c 0 p λe1=>∃(D:Q I->H->H->ad)(L:H->H->XZ->I),D ([]:Q I) ((i64 l)) (0) p/\∀(C:Q I),∀(E:H)(A:H),∀(B:XZ),D C E A B->aw (A<258) (fZ (.int .u8) e1 258 A λ(F:H)=>ah [kV] 283 [(ni E),(ni (i64 F))] B λn1 m1=>iP Pg n1 [kI] m1 (λ(M:I)(N:I->Obj)(t1:H)(q1:XZ)(r1 s1:ad)=>qQ M N q1 λP=>dG e 0 P λv1=>aJ 3 [(ni t1)] P λy1 x1=>aG Pg (ZD #[25,25] 25 ⟨[(ak v1),(cE y1 1)]⟩) kS x1 λ(a2:Sl) z1=>cS e 0 (ak a2) z1 λb2=>me M N b2 r1) (λc2 S=>D (c2::C:Q I) (i64 F) (i64 (A+1)) S/\L (i64 F) (i64 (A+1)) S<L E A B) λe2 f2=>jm (e2::C:Q I) f2 λT=>dG e 0 T λh2=>R h2 0 T) (dG e 0 B λi2=>cS e 0 (ak i2) B λj2=>jm (C:Q I) j2 λW=>dG e 0 W λl2=>R l2 0 W)))):ah [kS,kI] 207 [(.agg a)] w R:=yd Tryz.f207 (.s .o (.s (.s .o (.c (.s .o .o) .o)) (.s .o (.s (.s .o (.b (.l [(15,kI)] (.s .o (.s (.c .o .o) (.s (.b (.s .o (.b .o))) .o)))))) (.s (.s .o (.b (.l [(4,kI),(28,kI)] (.s .o (.s (.c .o .o) (.s (.b (.s .o (.s (.s .o (.b (.r [kI] .o (.b .o)))) .o))) .o)))))) (.s .o .o)))))) h
def AE.ok(a:(X4 G))(b:H)(R:(X4 G)->X3->H->ad) w(h:Nw 168 a w λd c=>Nw 168 ⟨Zh 258 (ao 0)++[(ni 0),(ni 0),(ni 0),(ni 0)]⟩ c λf e=>aZ (λ(u:XZ)=>aI 262 d 0 u λv=>ah [(.arr 262),kB] 247 [(.agg v),(ni b)] u λy(z:X3) x=>az 262 (ar d 0) y x λA=>aa (! z) (aI 262 f 0 A λE=>az 262 (ar f 0) E A λD=>aI 262 f 0 D λF=>R F U 100 D) (di A λB I=>aM (.arr 262) (ar d 0) B λK=>gp (ar d 258) B λL=>az 262 (ar f 0) K I λC=>B C/\aI 262 f 0 C λM=>R M (L==258) 0 C)) λg=>aI 262 d 0 e λh=>aE 296 [(.agg h)] e λj i=>aa (! j) (aI 262 f 0 i λk=>az 262 (ar f 0) k i λl=>aI 262 f 0 l λm=>R m U 2 l) (aA d 258 i λn=>aa (n==258) (aI 262 f 0 i λo=>az 262 (ar f 0) o i λp=>aI 262 f 0 p λq=>R q U 2 p) (0<=(1:H)/\aa ((ba .i64 b (1:H)) !=0) (aI 262 f 0 i λr=>az 262 (ar f 0) r i λs=>aI 262 f 0 s λt=>R t U 2 s) (g i)))):ah [(.arr 262),kB,kI] 216 [(.agg a),(ni b)] w R:=co Tryz.f216 [(2,[])] h
def AT.ok(a:(X4 G))(b:H)(R:(X4 G)->X3->ad) w(h:Nw 168 a w λd c=>Nw 168 ⟨Zh 258 (ao 0)++[(ni 0),(ni 0),(ni 0),(ni 0)]⟩ c λf e=>aA d 259 e λg=>aw (g<4) (aA d 260 e λh=>0<=(1:H)/\aA d 259 e λi=>cS d 260 (ni (jv .i64 (bT .i64 h (1:H)) b)) e λj=>cS d 259 (ni (i64 (i+1))) j λk=>aI 262 d 0 k λl=>az 262 (ar f 0) l k λm=>aI 262 f 0 m λn=>R n J m) (aZ (λ(q:X3)(r:XZ)=>aa q (aA d 258 r λs=>aA d 260 r λt=>aK (ar d 0) 258 s 1 λu=>St u (ao (u8 t)) r λv=>aA d 258 v λx=>cS d 258 (ni (i64 (x+1))) v λy=>cS d 261 (ni 0) y λz=>di z λA D=>aM (.arr 262) (ar d 0) A λE=>gp (ar d 258) A λX=>aw (X<258) (az 262 (ar f 0) E D λB=>A B/\aI 262 f 0 B λY=>R Y J B) (aM (.arr 258) (ar d 0) A λg1=>aE 282 [(.agg g1)] D λi1 F=>A F/\az 262 (ar f 0) E F λC=>A C/\aI 262 f 0 C λk1=>R k1 i1 C)) (aA d 259 r λl1=>aa (l1==4) (cS d 259 (ni 5) r λI=>aI 262 d 0 I λn1=>az 262 (ar f 0) n1 I λK=>aI 262 f 0 K λp1=>R p1 J K) (aa (b==0) (aA d 261 r λq1=>aa (q1 !=2) (aA d 260 r λr1=>aA d 260 r λs1=>cS d 260 (ni (i64 (s1+1))) r λt1=>cS d 261 (ni 1) t1 λu1=>cS d 259 (ni 4) u1 λL=>aI 262 d 0 L λx1=>az 262 (ar f 0) x1 L λM=>aI 262 f 0 M λz1=>R z1 (Wb (r1<15)) M) (aA d 260 r λa2=>cS d 260 (ni (i64 (a2+1))) r λb2=>cS d 261 (ni 1) b2 λc2=>cS d 259 (ni 4) c2 λN=>aI 262 d 0 N λe2=>az 262 (ar f 0) e2 N λP=>aI 262 f 0 P λg2=>R g2 U P)) (aA d 261 r λh2=>aa (h2 !=1) (aA d 260 r λi2=>aA d 260 r λj2=>cS d 260 (ni (i64 (j2-1))) r λk2=>cS d 261 (ni 2) k2 λl2=>cS d 259 (ni 4) l2 λQ=>aI 262 d 0 Q λn2=>az 262 (ar f 0) n2 Q λS=>aI 262 f 0 S λp2=>R p2 (Wb (i2>0)) S) (aA d 260 r λq2=>cS d 260 (ni (i64 (q2-1))) r λr2=>cS d 261 (ni 2) r2 λs2=>cS d 259 (ni 4) s2 λT=>aI 262 d 0 T λu2=>az 262 (ar f 0) u2 T λW=>aI 262 f 0 W λx2=>R x2 U W))))) λo=>aA d 259 e λp=>aa (p==4) (o (b==0) e) (o U e))):ah [(.arr 262),kB] 247 [(.agg a),(ni b)] w R:=co Tryz.f247 [(6,[(38,kB)])] h
def wM.ok(a:H)(b:H)(R:G->ad) w(h:aJ 3 [(ni a)] w λd c=>aJ 3 [(ni b)] c λf e=>R (.func (.func 338) ⟨[]⟩ ⟨[(bX f),(bX d)]⟩) e):ah [kV] 283 [(ni a),(ni b)] w R:=co Tryz.f283 [] h
def zF.ok(a:(X4 G))(R:X3->ad) w(h:Nw 168 a w λc b=>aI 262 c 0 b λd=>aE 347 [(.agg d)] b λf e=>aa f (R J e) (aZ (λ(x:XZ)=>aA c 258 x λy=>aa (y==0) (aA c 261 x λz=>aa (z==0) (R J x) (aA c 261 x λC=>aa (C==1) (aA c 260 x λD=>aw (D>0) (R J x) (aA c 261 x λE=>aa (E==2) (aA c 260 x λF=>R (Wb (F<15)) x) (R U x))) (aA c 261 x λH=>aa (H==2) (aA c 260 x λI=>R (Wb (I<15)) x) (R U x)))) (aa (y==258) (aP x λA=>aA c 259 A λK=>aa (K==4) (aA c 261 A λL=>aa (L==0) (aA c 260 A λM=>aA c 258 A λN=>aK (ar c 0) 258 (i64 (N-1)) 1 λP=>dD P A λQ=>aa (M==(i64 Q)) (aI 258 c 0 A λS=>aE 282 [(.agg S)] A λT W=>R T W) (R U A)) (R U A)) (R U A)) (aP x λB=>aA c 258 B λX=>aK (ar c 0) 258 (i64 (X-1)) 1 λY=>dD Y B λt1=>aA c 260 B λu1=>aA c 261 B λv1=>aE 350 [(ni (i64 t1)),(ni u1),(ni v1)] B λy1 x1=>R y1 x1))) λg=>aA c 259 e λh=>aE 348 [(ni h),(ni 4),(ni 5)] e λj i=>aa (! j) (R U i) (aA c 258 i λk=>aE 348 [(ni k),(ni 0),(ni 258)] i λm l=>aa (! m) (R U l) (aA c 260 l λn=>aE 348 [(ni n),(ni 0),(ni 15)] l λp o=>aa (! p) (R U o) (aA c 261 o λq=>aE 348 [(ni q),(ni 0),(ni 2)] o λs r=>aa (! s) (R U r) (aI 262 c 0 r λt=>aE 349 [(.agg t)] r λv u=>aa (! v) (R U u) (g u))))))):aE 296 [(.agg a)] w R:=co Tryz.f296 [(7,[])] h
def ud.ok(a:G)(b:Wg)(c:Wg)(R:ad) w(h:bj b w λd=>bj c w λe=>aw (d<e) (∃(f:ad)(g:XZ->I),f w/\∀(h:XZ),f h->bj c h λi=>bj b h λj=>aa (i !=j) (nd Pg a [kB] [(ni 1)] h λ(l:X3) k=>aa (! l) (R k) (nd Pg a [kB] [(ni 1)] k λ(n:X3) m=>aa (! n) (R m) (bj c m λo=>St c (ni (i64 (o+(i64 ((1:H)-(i64 ((2:H)*1))))))) m λp=>([]:Q I)=([]:Q I)/\f p/\g p<g h))) (nd Pg a [kB] [(ni 0)] h λ(r:X3) q=>R q)) (∃(s:ad)(t:XZ->I),s w/\∀(u:XZ),s u->bj c u λv=>bj b u λx=>aa (v !=x) (nd Pg a [kB] [(ni 1)] u λ(z:X3) y=>aa (! z) (R y) (nd Pg a [kB] [(ni 0)] y λ(C:X3) A=>aa (! C) (R A) (bj c A λD=>St c (ni (i64 (D+(i64 ((1:H)-(i64 ((2:H)*0))))))) A λB=>([]:Q I)=([]:Q I)/\s B/\t B<t u))) (nd Pg a [kB] [(ni 0)] u λ(F:X3) E=>R E))):cP 338 [a,(au (V b)),(au (V c))] w R:=yd Tryz.f338 (.s .o (.s (.s .o (.c .o .o)) (.s (.b (.l [] (.s (.s .o (.c .o .o)) (.s (.b (.s .o (.c .o .o))) .o)))) .o))) h
def my.ok(a:(X4 G))(R:X3->ad) w(h:Nw 168 a w λc b=>di b λd e=>gp (ar c 259) d λf=>aE 348 [(ni f),(ni 0),(ni 3)] e λh g=>d g/\aa h (gp (ar c 260) d λi=>gp (ar c 259) d λj=>0<=j/\aE 348 [(ni i),(ni 0),(ni (i64 ((bT .i64 (1:H) j)-1)))] g λl k=>d k/\aa l (aM (.arr 262) (ar c 0) d λm=>gp (ar c 259) d λn=>gp (ar c 260) d λo=>cZ Pg 168 [(2,(ni n)),(3,(ni o))] λp=>xu Pg 168 m p λq=>R q k) (R U k)) (R U g)):aE 347 [(.agg a)] w R:=co Tryz.f347 [] h
def yN.ok(a:H)(b:H)(c:H)(R:X3->ad) w(h:aw (a>=b) (R (Wb (a<=c)) w) (R U w)):aE 348 [(ni a),(ni b),(ni c)] w R:=co Tryz.f348 [] h
def zH.ok(a:(X4 G))(R:X3->ad) w(h:Nw 168 a w λc b=>aI 258 c 0 b λd=>dX 0 b λe f(g:H) h=>aw (g<258) (fZ (.int .u8) d 258 g λ(i:H)=>aw (i>15) (R U h) (aA c 258 h λj=>aw (g>=j) (aw (i>0) (R U h) (e (i64 (g+1)) h/\f (i64 (g+1)) h<f g h)) (e (i64 (g+1)) h/\f (i64 (g+1)) h<f g h))) (R J h)):aE 349 [(.agg a)] w R:=co Tryz.f349 [(5,[(7,kI)])] h
def xU.ok(a:H)(b:H)(c:H)(R:X3->ad) w(h:aa (c==0) (R (a==b) w) (aa (c==1) (R (Wb (a<b)) w) (R (Wb (a>b)) w))):aE 350 [(ni a),(ni b),(ni c)] w R:=co Tryz.f350 [] h
end
end Go.Proofs.Q9
namespace Go.Tab
section
open Go.Inc
def oS(l:Q I)(b a:I):Prop:=if l=[]then a=0\/(a=1/\0<b)\/(a=2/\b<15)else(a=0/\l.getLastD 0=b)\/(a=1/\l.getLastD 0<b)\/(a=2/\b<l.getLastD 0)
def fy(t:TS):Prop:=(t.bits<4/\t.l=[]/\t.now<2^t.bits/\t.way=0)\/((t.bits=4\/t.bits=5)/\t.l.length<258/\t.now<=15/\(∀x∈t.l,x<=15)/\oS t.l t.now t.way)
def fy.zero:fy t0:=.inl ⟨Zb,O,Zb,O⟩
def mh{m:Q I->X3}{t j:TS}{b:I}(h:fy t)(q:b<=1)(a:bM m t b=.more j):fy j:=by obtain⟨l,d,n,o⟩:=t;unfold fy at h;unfold bM at a;dsimp only at h a;(rcases h with⟨k,e,i,f⟩|⟨k,e,i,f,g⟩);{rw[X0 k]at a;cases a;subst e f;by_cases h:d=3;{subst h;right;refine⟨.inl O,Zd,by simp at i;dsimp only;omega,Zd,?_⟩;simp[oS]};left;refine⟨by dsimp only;omega,O,?_,O⟩;dsimp only;rw[Z8];omega};rw[K Za]at a;split at a;{split at a;{split at a;{cases a;right;refine⟨.inl O,by simp;omega,i,?_,?_⟩;{grind};unfold oS;dsimp only;rw[K Zd];left;simp};grind};cases a;right;exact⟨.inr O,e,i,f,g⟩};split at a;{split at a;{rename_i p;cases a;right;refine⟨.inl O,e,by dsimp only;omega,f,?_⟩;unfold oS at g⊢;dsimp only;split at g;{rename_i c;rw[X0 c];omega};rename_i c;rw[K c];omega};cases a};split at a;{rename_i p;cases a;right;refine⟨.inl O,e,by dsimp only;omega,f,?_⟩;unfold oS at g⊢;dsimp only;split at g;{rename_i c;rw[X0 c];omega};rename_i c;rw[K c];omega};cases a
def eV{c:Q I->X3}{t:TS}{b:I}{l:Q I}(h:fy t)(a:bM c t b=.fin l):l.length=258/\c l=J:=by obtain⟨g,d,e,f⟩:=t;unfold fy at h;unfold bM at a;dsimp only at h a;split at a;{cases a};grind
def pad(l:Q I):Q I:=l++Zh (258-l.length) 0
def bO{l:Q I}(h:l.length<=258):(pad l).length=258:=by simp[pad];omega
def Kc{l:Q I}(h:l.length=258):pad l=l:=by simp[pad,h]
def Mj{l:Q I}{x:I}(h:l.length<258):(pad l).set l.length x=pad (l++[x]):=by unfold pad;rw[Q.set_append_right _ _ (Zw _),Y3];obtain⟨m,a⟩:∃m,258-l.length=m+1:=⟨257-l.length,Za⟩;rw[a,Q.replicate_succ,Q.set_cons_zero,Zf,ZN,show 258-(l.length+1)=m by omega];simp
def Tm{l:Q I}(h:l≠[])(b:l.length<=258):(pad l)[l.length-1]?=V (l.getLastD 0):=by unfold pad;have:0<l.length:=List.length_pos_iff.2 h;rw[ZJ Za,Zg Za];cases l with|nil=>exact Wh O h|cons a l=>simp[Q.getLastD,Q.getLast_eq_getElem]
def ad1{l:Q I}{i:I}(a:l.length<=i):(pad l).getD i 0=0:=by unfold pad;rw[Zl,ZK a,Q.getElem?_replicate];split<;>rfl
def af1{l:Q I}(h:∀x∈l,x<=15):∀x∈pad l,x<=15:=by intro x a;(rcases List.mem_append.1 a with a|a);{exact h x a};grind
end
end Go.Tab
namespace Go.Proofs.Q9
section
open Go Go.Vc Go.Srt Go.Inc Go.Tab
abbrev Fi(l:Q I):Q G:=l.map λ(n:I)=>Yx .u8 (n:H)
abbrev eB(l:Q I)(s b n a:H):X4 G:=⟨Fi l++[ni s,ni b,ni n,ni a]⟩
def fD{l:Q I}(h:l.length=258):(Fi l).length=258:=by simp[h]
section
variable{E w:XZ}{F:Q HP}
def UP:(Tryz.prog.fieldsOf 168).toList.map (λf=>(f.name== "_",f.type,f.offset))=[(U,166,0),(U,3,258),(U,3,259),(U,3,260),(U,3,261)]:=Zc
def agy:Tryz.prog.underlying 168=V (.struct (Tryz.prog.fieldsOf 168)):=Zc
def afv:Tryz.prog.stoodInHeld 168=U:=Zc
def xu.tb{l:Q I}{s b n m:H}{K:X3->Prop}(C:l.length=258)(T:K J):xu Zj 168 (eB l s b n m) (eB l s b n m) K:=by obtain⟨it,g⟩:=MY;obtain⟨S,B,G⟩:=acG;obtain⟨kt,L,M⟩:=Qk;obtain⟨o,p,q,u,z,N,i,a,c,e,f⟩:∃o p q u z,(Tryz.prog.fieldsOf 168).toList=[o,p,q,u,z]/\(o.name== "_",o.type,o.offset)=(U,166,0)/\(p.name== "_",p.type,p.offset)=(U,3,258)/\(q.name== "_",q.type,q.offset)=(U,3,259)/\(u.name== "_",u.type,u.offset)=(U,3,260)/\(z.name== "_",z.type,z.offset)=(U,3,261):=by{have h:=UP;generalize(Tryz.prog.fieldsOf 168).toList=fs at h;match fs,h with|[],h=>simp at h|[_],h=>simp at h|[_,_],h=>simp at h|[_,_,_],h=>simp at h|[_,_,_,_],h=>simp at h|_::_::_::_::_::_::_,h=>simp at h|[o,p,q,u,z],h=>simp only[ZX,YL,Q.cons.injEq,and_true]at h;exact⟨o,p,q,u,z,rfl,h.1,h.2.1,h.2.2.1,h.2.2.2.1,h.2.2.2.2⟩};simp only[Xn]at i a c e f;have A:=fD C;have W:(((eB l s b n m).toList.drop 0).take 258)=(l.map λ(x:I)=>(x:H)).map (.int .u8):=by{rw[Yr,Q.take_append_of_le_length Za,Zt Za,YF];rfl};have j:∀(x:H)(D:I)(_:9<=D)(w:XZ),(Yt D 3 (ni x) (ni x)).run Zj w=.ok J w:=λx D X w=>by{obtain⟨D,rfl⟩:∃k,D=k+1:=⟨D-1,Za⟩;rw[run_equalIn_int w D _ _ _ _ _ Sr];simp};obtain⟨r,Y,R⟩:=mU (P:=Zj) (d:=9) (rec:=λt x y K=>∃b,(∀D,9<=D->∀w,(Yt D t x y).run Zj w=.ok b w)/\K b) (λt x y K h=>h) (xs:=eB l s b n m) (ys:=eB l s b n m) (fs:=[o,p,q,u,z]) (K:=K) (by unfold mg;rw[i.1];refine pH (it:=S) (by rw[i.2.1];kernel_rfl) (by rw[i.2.1];exact B) (pH (it:=S) (by rw[i.2.1];kernel_rfl) (by rw[i.2.1];exact B) ?_);rw[i.2.2,G,i.2.1,W];refine⟨_,λD X w=>FR aeY abe L M (by simpa using C) (by simpa using C) D Za w,?_⟩;unfold mg;rw[a.1];refine gq (it:=it) (v:=ni s) (by rw[a.2.1];kernel_rfl) (by rw[a.2.1];exact g) (by rw[a.2.2];exact ns (k:=0) A) (gq (it:=it) (v:=ni s) (by rw[a.2.1];kernel_rfl) (by rw[a.2.1];exact g) (by rw[a.2.2];exact ns (k:=0) A) ?_);rw[a.2.1];refine⟨J,j s,?_⟩;unfold mg;rw[c.1];refine gq (it:=it) (v:=ni b) (by rw[c.2.1];kernel_rfl) (by rw[c.2.1];exact g) (by rw[c.2.2];exact ns (k:=1) A) (gq (it:=it) (v:=ni b) (by rw[c.2.1];kernel_rfl) (by rw[c.2.1];exact g) (by rw[c.2.2];exact ns (k:=1) A) ?_);rw[c.2.1];refine⟨J,j b,?_⟩;unfold mg;rw[e.1];refine gq (it:=it) (v:=ni n) (by rw[e.2.1];kernel_rfl) (by rw[e.2.1];exact g) (by rw[e.2.2];exact ns (k:=2) A) (gq (it:=it) (v:=ni n) (by rw[e.2.1];kernel_rfl) (by rw[e.2.1];exact g) (by rw[e.2.2];exact ns (k:=2) A) ?_);rw[e.2.1];refine⟨J,j n,?_⟩;unfold mg;rw[f.1];refine gq (it:=it) (v:=ni m) (by rw[f.2.1];kernel_rfl) (by rw[f.2.1];exact g) (by rw[f.2.2];exact ns (k:=3) A) (gq (it:=it) (v:=ni m) (by rw[f.2.1];kernel_rfl) (by rw[f.2.1];exact g) (by rw[f.2.2];exact ns (k:=3) A) ?_);rw[f.2.1];refine⟨J,j m,?_⟩;simpa using T);refine⟨r,λw=>?_,R⟩;rw[run_equalIn_struct w 9999 _ _ _ agy afv,N];exact Y 9999 Zb w
end
end
section
open Go Go.Vc Go.Srt Go.Inc Go.Tab Go.Bits
section
variable{E w:XZ}{F:Q HP}
theorem JN{c b g n:I}(u:c<=255)(s:b<=255):wc Zj E (.func (.func 338) ⟨[]⟩ ⟨[bX n,bX g]⟩) (fB c b).length (λi=>[Ki.enc kI (((fB c b).getD i 0:I):H)]) [bI n b,bI g c] (λ_=>True):=by intro T C G w K hg hy h hK o;refine rQ.mk Zc (ud.ok T ⟨n,0,Z⟩ ⟨g,0,Z⟩ K w ?_);have h:Hp E w (bI n b::bI g c::C 0):=h;have p:∀(k x:I)(y:Q I)(a:I)(w:XZ)(S:X3->ad),(fB c b).drop k=x::y->Hp E w (bI n b::bI g a::C k)->(∀w',Hp E w' (bI n b::bI g a::C (k+1))->S J w')->(∀w',k<(fB c b).length->Hp E w' (G k)->S U w')->nd Zj T [kB] [ni (x:H)] w S:=by{intro k x y a w S l h W hf;have m:k<(fB c b).length:=by{(rcases Yk k (fB c b).length with q|q);{exact q};rw[Xt q]at l;cases l};have hx:(fB c b).getD k 0=x:=by{rw[Zu m]at l;injection l with e _;rw[Zl,Zg m,YE,e]};have X:[Yx .i64 (x:H)]=[Ki.enc kI (((fB c b).getD k 0:I):H)]:=by{rw[hx]};rw[X];refine hy k m [bI n b,bI g a] w _ (h.perm (ZV (l₁:=[bI n b,bI g a]))) (λw h=>?_) λw h=>?_;{exact W w (h.perm (ZV (l₂:=[bI n b,bI g a])))};exact hf w m (h.perm (ZV (l₂:=[bI n b,bI g a]))).drop.drop};have z:∀(k a:I)(w:XZ),(fB c b).drop k=[0]->Hp E w (bI n b::bI g a::C k)->nd Zj T [kB] [ni 0] w λ_ w=>K w:=by{intro k a w l h;have L:(fB c b).length=k+1:=by{have:=Wn Yo l;simp at this;omega};refine p k 0 [] a w _ l h (λw h=>?_) λw W h=>o k w W h;rw[<-L]at h;exact hK w h.drop.drop};have M:∀j,kn (j+1)=1::1::kn j:=λ_=>rfl;have N:∀j,rl (j+1)=1::0::rl j:=λ_=>rfl;refine Ld.xb (x:=(b:H)) h O (Ld.xb (x:=(c:H)) h O (aa.dm (λm=>?_) λhge=>?_));{have m:b<c:=by{omega};refine⟨λw=>∃k a:I,b<=a/\a<=c/\(fB c b).drop k=kn (a-b)++[0]/\k+2*(a-b)+1=(fB c b).length/\Hp E w (bI n b::bI g a::C k),λw=>nj g w,⟨0,c,Za,Za,?_,?_,h⟩,?_⟩;{unfold fB;rw[X0 m];rfl};{unfold fB;rw[X0 m];have:∀j,(kn j).length=2*j:=λj=>by{induction j with|zero=>rfl|succ j Y=>rw[M,Zp,Zp,Y];omega};simp[this]};rintro w ⟨k,a,h3,h4,l,hkl,h⟩;refine Ld.xb (x:=(a:H)) h O (Ld.xb (x:=(b:H)) h O (aa.nm (λhne=>?_) λX=>?_));{obtain⟨j,hj⟩:∃j,a-b=j+1:=⟨a-b-1,Za⟩;rw[hj,M]at l;have r:(fB c b).drop (k+1)=1::(kn j++[0]):=by{rw[<-Ys,l];rfl};have hd3:(fB c b).drop (k+2)=kn j++[0]:=by{rw[show k+2=(k+1)+1 by omega,<-Ys,r];rfl};refine p k 1 _ a w _ l h (λA u=>?_) λA B u=>aa.t O (o k A B u);refine aa.f O ?_;refine p (k+1) 1 _ a A _ r u (λP s=>?_) λP D s=>aa.t O (o (k+1) P D s);refine aa.f O ?_;refine Ld.xb (x:=(a:H)) s O ?_;rw[af (x:=(2:H)*1) Za,af (x:=(1:H)-2*1) Za,af Za];refine St.xb s Zd O λR d=>?_;rw[show(a:H)+(1-2*1)=((a-1:I):H) by omega]at d;have d:Hp E R (bI n b::bI g (a-1)::C (k+2)):=d;refine⟨O,⟨k+2,a-1,Za,Za,?_,Za,d⟩,?_⟩;{grind};show nj g R<nj g w;rw[nR (v:=((a-1:I):H)) d O,nR (v:=(a:H)) h O];omega};have e:a-b=0:=by{omega};rw[e]at l;exact z k a w l h};refine⟨λw=>∃k a:I,a<=b/\c<=a/\(fB c b).drop k=rl (b-a)++[0]/\k+2*(b-a)+1=(fB c b).length/\Hp E w (bI n b::bI g a::C k),λw=>255-nj g w,⟨0,c,Za,Za,?_,?_,h⟩,?_⟩;{unfold fB;rw[X8 Za];rfl};{unfold fB;rw[X8 Za];have:∀j,(rl j).length=2*j:=λj=>by{induction j with|zero=>rfl|succ j Y=>rw[N,Zp,Zp,Y];omega};simp[this]};rintro w ⟨k,a,h3,h4,l,hkl,h⟩;refine Ld.xb (x:=(a:H)) h O (Ld.xb (x:=(b:H)) h O (aa.nm (λhne=>?_) λX=>?_));{obtain⟨j,hj⟩:∃j,b-a=j+1:=⟨b-a-1,Za⟩;rw[hj,N]at l;have r:(fB c b).drop (k+1)=0::(rl j++[0]):=by{rw[<-Ys,l];rfl};have hd3:(fB c b).drop (k+2)=rl j++[0]:=by{rw[show k+2=(k+1)+1 by omega,<-Ys,r];rfl};refine p k 1 _ a w _ l h (λA u=>?_) λA B u=>aa.t O (o k A B u);refine aa.f O ?_;refine p (k+1) 0 _ a A _ r u (λP s=>?_) λP D s=>aa.t O (o (k+1) P D s);refine aa.f O ?_;refine Ld.xb (x:=(a:H)) s O ?_;rw[af (x:=(2:H)*0) Za,af (x:=(1:H)-2*0) Za,af Za];refine St.xb s Zd O λR d=>?_;rw[show(a:H)+(1-2*0)=((a+1:I):H) by omega]at d;have d:Hp E R (bI n b::bI g (a+1)::C (k+2)):=d;refine⟨O,⟨k+2,a+1,Za,Za,?_,Za,d⟩,?_⟩;{grind};show 255-nj g R<255-nj g w;rw[nR (v:=((a+1:I):H)) d O,nR (v:=(a:H)) h O];omega};have e:b-a=0:=Za;rw[e]at l;exact z k a w l h
theorem Fu:∀(m:Q I)(a n:I),fL a (m++[n])=fL a m++fB (m.getLastD a) n|[],a,n=>by simp[fL]|x::m,a,n=>by rw[ZL,fL,fL,Fu m x n,Zm];congr 2;cases m<;>rfl
def MO{a b:I}(f:a<=15)(g:b<=15):(fB a b).length<=31:=by have d:∀j,(kn j).length=2*j:=λj=>by{induction j with|zero=>rfl|succ j c=>rw[show kn (j+1)=1::1::kn j from O,Zp,Zp,c];omega};have e:∀j,(rl j).length=2*j:=λj=>by{induction j with|zero=>rfl|succ j c=>rw[show rl (j+1)=1::0::rl j from O,Zp,Zp,c];omega};unfold fB;rw[Zf,ZN];split;{rw[d];omega};rw[e];omega
theorem A8:∀(m:Q I)(a:I),a<=15->(∀x∈m,x<=15)->(fL a m).length<=31*m.length|[],_,_,_=>by simp[fL]|x::m,a,h,hm=>by have b:=hm x ZM;have d:=MO h b;have e:=A8 m x b λy c=>hm y (ZB _ c);rw[fL,Zf,Zp];omega
def TX{x k:I}(b:x<=15)(a:k<4):(four x)[k]?=V (x/2^(3-k)%2):=by match k,a with|0,_=>rfl|1,_=>rfl|2,_=>rfl|3,_=>simp[four]
theorem agw{l:Q I}{K:Sl->H->ad}(h:Hp E w F)(M:l.length=258)(r:cT l=U->∀w',Hp E w' F->K ⟨Z,0,0⟩ 2 w')(hK:cT l=J->∀s w',Hp E w' (av 1 s ((ints (ic l)).map vI)::F)->K s 0 w'):ah [kS,kI] 207 [.agg (ai .u8 l)] w K:=by refine Ei.ok _ _ _ ?_;(try simp only[]);have u:(ai .u8 l).size=258:=by{rw[bC,M]};refine Nw.mk h λd w h=>Nw.mk h λg w h=>Ld.xw h u (zl h M λw h=>?_);by_cases hok:cT l=J;{rw[hok];refine aa.f rfl ?_;have j:=an.xV hok;obtain⟨x,m,rfl⟩:∃x m,l=x::m:=by{cases l with|nil=>simp at M|cons x m=>exact⟨x,m,rfl⟩};have b:=j x ZM;refine⟨Zb,Zb,Ld.xb (x:=(x:H)) h rfl ?_⟩;rw[af Za];have h0:Hp E w (jR g []::an d (.cells (ai .u8 (x::m)) 166 (0,0))::F):=jR.shut (s:=⟨Z,0,0⟩) ((h.bm 1).p1);refine⟨λi w=>∃k:I,i=(k:H)/\k<=4/\Hp E w (jR g ((four x).take k)::an d (.cells (ai .u8 (x::m)) 166 (0,0))::F),λi _=>4-i.toNat,⟨0,rfl,Za,h0⟩,?_⟩;rintro i w ⟨k,rfl,hk,h⟩;refine aa.dm (λo=>?_) λN=>?_;{have o:k<4:=by{omega};refine aP.mk h λw h=>?_;have v:cU .i64 (ba .i64 (x:H) (i64 (3-(k:H)))) 1=((x/2^(3-k)%2:I):H):=by{have hmx:YJ .i64=9223372036854775807:=rfl;have hd:x/2^(3-k)<=x:=I.div_le_self _ _;rw[af Za,show(3:H)-(k:H)=((3-k:I):H) by omega,db (by have:Wl.bits .i64=64:=rfl;omega),show(1:H)=((1:I):H)from rfl,gH Za Za,I.and_one_is_mod]};rw[v];have e4:(four x).take k++[x/2^(3-k)%2]=(four x).take (k+1):=by{rw[Zz,TX b o];rfl};have z:((four x).take k).length<=1000000:=by{rw[Zx];simp[four];omega};rw[af (x:=(3:H)-(k:H)) Za,af (x:=(k:H)+1) Za];have B:∀w',Hp E w' (jR g ((four x).take k++[x/2^(3-k)%2])::an d (.cells (ai .u8 (x::m)) 166 (0,0))::F)->True/\(∃P:I,(k:H)+1=(P:H)/\P<=4/\Hp E w' (jR g ((four x).take P)::an d (.cells (ai .u8 (x::m)) 166 (0,0))::F))/\4-((k:H)+1).toNat<4-((k:H)).toNat:=λw' h=>by{rw[e4]at h;exact⟨trivial,⟨k+1,Za,Za,h⟩,Za⟩};obtain⟨s,_,h⟩:=h.ex;have h:Hp E w (bq g [yJ s] 25::av 1 s ((ints ((four x).take k)).map vI)::an d (.cells (ai .u8 (x::m)) 166 (0,0))::F):=h;refine⟨Za,?_,?_⟩;{refine Ld.xb (x:=s) h rfl (Nw.mk h λR w h=>?_);exact jR.put (l:=[]) h z B};refine Nw.mk h λR w h=>Ld.xb (x:=s) h rfl ?_;exact jR.put (l:=[]) h z B};have S:k=4:=by{omega};subst S;refine Ld.xw h u ?_;have e0:(four x).take 4=four x++fL x ((x::m).take 0):=by{simp[four,fL]};rw[e0]at h;refine⟨λms a i w=>∃k:I,i=(k:H)/\k<=258/\a=((((x::m).take k).getLastD x:I):H)/\Hp E w (jR g (four x++fL x ((x::m).take k))::an d (.cells (ai .u8 (x::m)) 166 (0,0))::(ms.map (λD=>an D (.deferred (V [])))++F)),λ_ i _=>258-i.toNat,⟨0,rfl,Za,rfl,h⟩,?_⟩;rintro ms a i w ⟨k,rfl,hk,rfl,h⟩;refine aa.dm (λo=>?_) λN=>?_;{have o:k<258:=by{omega};have c:k<(x::m).length:=by{omega};have p:=j _ (Zs c);have q:((x::m).take k).getLastD x<=15:=by{cases hc:((x::m).take k).getLast? with|none=>rw[Q.getLastD_eq_getLast?,hc];exact b|some y=>rw[Q.getLastD_eq_getLast?,hc];exact j y (Yg (Q.mem_of_getLast? hc))};have C:((x::m).take k++[(x::m)[k]])=(x::m).take (k+1):=by{rw[Zz,Zg c];rfl};have htl:(four x++fL x ((x::m).take k)).length<=9000:=by{have:=A8 ((x::m).take k) x b λy hy=>j y (Yg hy);rw[Zf,show(four x).length=4 from rfl];rw[Zx]at this;omega};generalize G:((x::m).take k).getLastD x=a at q h⊢;generalize L:(x::m)[k]=now at p C;refine⟨Za,Za,(now:H),by rw[show((k:H)).toNat=k by omega,iu c,L],?_⟩;dsimp only;rw[af (x:=(now:H)) Za,af (x:=(k:H)+1) Za];refine wM.ok _ _ _ _ ?_;refine Nw.mk h λb4 w h=>Nw.mk h λb6 w h=>?_;have hcl:=MO q p;refine iP.V1 (E:=E) (k:=kI) (x:=λi=>(((fB a now).getD i 0:I):H)) (n:=(fB a now).length) (λi=>jR g (four x++fL x ((x::m).take k)++(fB a now).take i)::an d (.cells (ai .u8 (x::m)) 166 (0,0))::(ms.map (λD=>an D (.deferred (V [])))++F)) (λ_=>[DA]) (A:=[bI b6 now,bI b4 a]) ?_ (λ_=>ae.const trivial) (JN Za Za) ?_ ?_ ?_;{grind};{intro lr T i A w Kt Kf W h X _;refine qQ.mk h λw h=>?_;obtain⟨s,_,h⟩:=(h.p1).ex;have h:Hp E w (bq g [yJ s] 25::av 1 s ((ints (four x++fL x ((x::m).take k)++(fB a now).take i)).map vI)::an lr (T 1)::an d (.cells (ai .u8 (x::m)) 166 (0,0))::((ms.map (λD=>an D (.deferred (V [])))++F)++A)):=h;refine Ld.xb (x:=s) h rfl (Nw.mk h λb49 w h=>?_);refine jR.put (l:=[]) h Ze λw h=>me.mk h.p1 λw h=>X w ?_;have e:four x++fL x ((x::m).take k)++(fB a now).take i++[(fB a now).getD i 0]=four x++fL x ((x::m).take k)++(fB a now).take (i+1):=by{rw[Zm,Zz,Zg W,Zl,Zg W];rfl};rw[e]at h;exact h};{intro D w h;rw[Zt (Zw _),Zm,<-G,<-Fu,C]at h;refine⟨⟨k+1,Za,Za,?_,?_⟩,by first|omega|(dsimp only;omega)⟩;{grind};exact h.q2};intro i D w W h;exact(Hp.Kx h).elim};have Y:k=258:=by{omega};subst Y;rw[Zt Za]at h;obtain⟨s,_,h⟩:=h.ex;have h:Hp E w (bq g [yJ s] 25::av 1 s ((ints (four x++fL x (x::m))).map vI)::an d (.cells (ai .u8 (x::m)) 166 (0,0))::(ms.map (λD=>an D (.deferred (V [])))++F)):=h;refine Ld.xb (x:=s) h rfl (St.xs h rfl rfl λw h=>?_);dsimp only[bJ,over]at h;refine jm.mk (ms:=ms) (F:=bq g [yJ s] 25::av 1 s ((ints (four x++fL x (x::m))).map vI)::an d (.cells (ai .u8 (x::m)) 166 (0,0))::F) (h.perm (Q.perm_append_comm_assoc [_,_,_] _ _)) λw h=>Ld.xb (x:=s) h rfl (hK hok s w ?_);exact h.drop.iV};rw[show cT l=U by simpa using hok];refine aa.t rfl (St.xs h rfl rfl λw h=>?_);dsimp only[bJ,over]at h;exact Ld.xb (x:=⟨Z,0,0⟩) h rfl (r Ze w h.tl)
def nw{l:Q I}(c:l.length=258)(b:cT l=J):(ic l).length<=9000:=by have a:=an.xV b;have d:l.headD 0<=15:=by{cases l with|nil=>simp at c|cons x l=>exact a x ZM};have:=A8 l (l.headD 0) d a;unfold ic;rw[Zf,show(four (l.headD 0)).length=4 from O];omega
theorem abT{l:Q I}{b:I}{a:Q I}{K:H->ad}(h:Hp E w (Wr b a::F))(j:l.length=258)(d:cT l=J)(o:a.length<=1000000)(p:bz E (Wr b (a++ic l)::F) (K 0)):bP 138 [bX b,.agg (ai .u8 l)] w K:=by refine BW.ok _ _ _ _ ?_;have m:(ai .u8 l).size=258:=by{rw[bC,j]};refine Nw.mk h λz w h=>Ld.xw h m (agw h j (λA=>Wh d Ze) λ_ s w h=>aa.f rfl (aa.f rfl ?_));have g:=(h.br);simp only[ints,Zn,Zy]at g;have r:=an.E3 l;have t:=nw j d;refine⟨λi w=>∃k:I,i=(k:H)/\k<=(ic l).length/\Hp E w (av 1 s ((ints (ic l)).map vI)::Wr b (a++(ic l).take k)::F),λi _=>(ic l).length-i.toNat,⟨0,rfl,Za,by rw[Y7,ZG];exact h.no 1⟩,?_⟩;rintro i w ⟨k,rfl,hk,h⟩;refine aa.dm (λc=>?_) λu=>?_;{have c:k<(ic l).length:=by{omega};have v:=r _ (Zs c);refine aB.rd (h.aq ae.own) Za Za λq B y=>?_;refine Ld.sc (s:=.int .i64) ((ic l)[k]:H) (by rw[y];simp[Sc.enc,vI,ints]) ?_;rw[eo Za];refine QV (width:=1) h.p1 Zb Za Za (by rw[Zf,Zx,aU];omega) λw h=>?_;rw[af Za];refine⟨⟨k+1,rfl,Za,?_⟩,by first|omega|(dsimp only;omega)⟩;have e:a++(ic l).take k++bn 1 (ic l)[k]=a++(ic l).take (k+1):=by{rw[Zm,Zz,Zg c];congr 2;generalize(ic l)[k]=x at v;have:x=0\/x=1:=by{omega};rcases this with rfl|rfl<;>rfl};rw[e]at h;exact h.p1};have n:k=(ic l).length:=Za;subst n;rw[Zt (Zw _)]at h;exact p w h.drop
end
end
section
open Go Go.Vc Go.Srt Go.Inc Go.Sym Go.Tab Go.Hd Go.Bw Go.Bits Go.an Go.Crc
def V6{x:Q I}(c:cd x):∀y∈syms (bH x.reverse),y<=257:=λy a=>by have:=Sym.yX (b:=bH x.reverse) (yQ λy a=>c y (List.mem_reverse.1 a)) y a;omega
def rL(l a:Q I):nq l (ints a)=enc l a:=by unfold nq ints;rw[YF];congr 1;exact(Z3 λx _=>Zd).trans (Q.map_id _)
def Qy{l a:Q I}(h:∀s∈a,iB l s)(c:∀s∈a,s<=257):o8 l (ints a)=J:=by refine List.all_eq_true.2 λz d=>?_;obtain⟨y,b,rfl⟩:=List.mem_map.1 d;have:=h y b;have:=c y b;exact yi.2 ⟨Za,Za,by simpa using(h y b).2⟩
end
end Go.Proofs.Q9
namespace Go.an
section
open Go.Inc Go.Srt Go.Sym Go.Bits Go.Tab Go.Hd Go.Crc Go.Bw Go.Proofs.Q9
def rH{x:Q I}(c:0<x.length)(d:cd x)(g:x.length<=65536):(ng (jS x) x).length<=200000:=by have b:=pC c Za d;have h:=gG (n:=x.length) Za;have a:=sX (t:=x.reverse) Ze;rw[ZY]at a;have i:=gG (n:=cj x.reverse) Za;have j:=nw b.len b.ok;have e:=qd b.v (ints (syms (bH x.reverse)));rw[rL,jV]at e;have f:=vV (bH x.reverse);rw[ed,ZY]at f;unfold ng mc body;rw[Zf,nP,Zf,Zp,Zf,Zf,show(iR (cB x)).length=4 from O];omega
end
end Go.an
namespace Go.Proofs.Q9
section
open Go Go.Vc
set_option maxRecDepth 100000
def Je.ok(a:Sl)(R:(X4 G)->H->ad) w(h:Nw 231 ⟨Zh 258 (ni 0)⟩ w λc b=>cZ Pg 231 [] λd=>ah [(.arr 258),kI] 202 [(.agg d),(ak a)] b λf(g:H) e=>az 258 (ar c 0) f e λh=>aI 258 c 0 h λi=>R i g h):ah [(.arr 258),kI] 135 [(ak a)] w R:=co Tryz.f135 [] h
def Gr.ok(a:(X4 G))(b:Sl)(R:(X4 G)->H->ad) w(h:Nw 231 a w λd c=>Nw 231 ⟨Zh 258 (ni 0)⟩ c λf e=>aI 258 d 0 e λg=>aE 277 [(.agg g)] e λi h=>aa (! i) (aI 258 d 0 h λj=>az 258 (ar f 0) j h λk=>aI 258 f 0 k λl=>R l 2 k) (aI 258 d 0 h λm=>Nw 231 ⟨Zh 258 (ni 0)⟩ h λo n=>az 258 (ar o 0) m n λp=>dX 0 p λq r(s:H) t=>aw (s<(b.len:H)) (aB b s 1 λu=>bj u t λv=>aE 278 [(ni v)] t λy x=>aa (! y) (aI 258 o 0 x λz=>az 258 (ar f 0) z x λA=>aI 258 f 0 A λE=>R E 2 A) (aK (ar d 0) 258 v 1 λF=>bj F x λI=>aa (I==2147483647) (aI 258 o 0 x λK=>az 258 (ar f 0) K x λB=>aI 258 f 0 B λL=>R L 2 B) (aK (ar d 0) 258 v 1 λM=>bj M x λN=>aK (ar d 0) 258 v 1 λP=>St P (ni (i64 (N+1))) x λC=>q (i64 (s+1)) C/\r (i64 (s+1)) C<r s t))) (aI 258 d 0 t λQ=>az 258 (ar f 0) Q t λD=>aI 258 f 0 D λS=>R S 0 D))):ah [(.arr 258),kI] 202 [(.agg a),(ak b)] w R:=co Tryz.f202 [(12,[(16,kI)])] h
def BZ.ok(a:(X4 G))(R:X3->ad) w(h:Nw 231 a w λc b=>aI 258 c 0 b λd=>dX 0 b λe f(g:H) h=>aw (g<258) (fZ (.int .i64) d 258 g λ(i:H)=>aw (i<0) (R U h) (aw (i>2147483647) (R U h) (e (i64 (g+1)) h/\f (i64 (g+1)) h<f g h))) (R J h)):aE 277 [(.agg a)] w R:=co Tryz.f277 [(5,[(6,kI)])] h
def Kv.ok(a:H)(R:X3->ad) w(h:aw (a>=0) (R (Wb (a<258)) w) (R U w)):aE 278 [(ni a)] w R:=co Tryz.f278 [] h
end
end Go.Proofs.Q9
end
