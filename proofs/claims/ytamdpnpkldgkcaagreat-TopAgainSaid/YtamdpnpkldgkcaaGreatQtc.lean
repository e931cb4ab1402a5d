/- Texts packed together by program; spaces struck by program. Conditions: as each theorem states. -/
import Derived.Test.YtamdpnpkldgkcaaGreatQtb
set_option linter.all false
set_option maxRecDepth 20000
open _root_ renaming Array→Xe,Array.toList_setIfInBounds→Yd,Bool→Xf,Bool.and_eq_true→ZM,Bool.eq_iff_iff→YI,Bool.false→J,Bool.or_eq_true→Ys,Bool.true→U,ByteArray→Xz,Decidable.decide→K,Decidable.decide→XC,DecidableEq→XN,Go.Addr→Xn,Go.Addr.add→Zo,Go.Builtin→Xu,Go.Builtin.append_→ZB,Go.Instr.fill→YB,Go.Instr.lookup→Ya,Go.Instr.makeMap→Z0,Go.Instr.mapUpdate→Zr,Go.Instr.sameBits→Y3,Go.IntKind→Xt,Go.IntKind.max→YA,Go.Op.equalIn→Yc,Go.Oper→Xy,Go.Program→Xi,Go.Proofs.Tryz.prog→Zf,Go.Region.ready→ZS,Go.TypeId→Xl,Go.Value→Q,Go.Value.int→Yk,Go.World→G,Go.World→Xs,Go.convert→XE,Go.run_underlying→Xm,Go.undef→Xw,Go.zeroValue→XD,Int→H,Int.toNat_natCast→Zj,List→S,List→XG,List.append_assoc→Zn,List.append_nil→ZF,List.cons_append→ZT,List.drop_drop→Yn,List.drop_eq_getElem_cons→Zx,List.drop_of_length_le→ZP,List.ext_getElem→Yh,List.ext_getElem?→Yq,List.flatMap_append→Xc,List.flatMap_cons→Yp,List.flatten_append→Xb,List.flatten_cons→YD,List.getD→Z8,List.getD_eq_getElem?_getD→Zl,List.getElem?_append_left→ZG,List.getElem?_append_right→ZD,List.getElem?_eq_getElem→Zg,List.getElem?_eq_none→ZX,List.getElem?_map→ZN,List.getElem?_range→Z3,List.getElem_mem→Zu,List.getElem_of_mem→ZR,List.getElem_take→Y0,List.length_append→Zh,List.length_cons→Zw,List.length_drop→ZE,List.length_map→Zm,List.length_nil→Yj,List.length_range→Yx,List.length_replicate→ZK,List.length_reverse→ZQ,List.length_set→YH,List.length_singleton→Z6,List.length_take→Zz,List.map_append→ZJ,List.map_congr_left→ZU,List.map_cons→Yt,List.map_map→YF,List.map_set→Xa,List.mem_append→Y9,List.mem_cons→YU,List.mem_cons_of_mem→ZC,List.mem_cons_self→ZW,List.mem_of_getElem?→Yw,List.mem_of_mem_take→Z1,List.mem_range→YC,List.mem_singleton→ZI,List.nil_append→ZV,List.perm_append_comm→ZY,List.range→Zq,List.range_succ→Y8,List.replicate→Zi,List.sum_append→Y7,List.take_add_one→Zv,List.take_append_drop→Zy,List.take_length→Yo,List.take_of_length_le→Zp,List.take_succ_cons→Yg,List.take_zero→YZ,Min.min→XL,Nat→I,Nat→XK,Nat.add_assoc→Yl,Nat.add_mul→YK,Nat.add_zero→Zs,Nat.and_two_pow_sub_one_eq_mod→YS,Nat.beq→YP,Nat.div_eq_of_lt→YQ,Nat.eq_of_beq_eq_true→Z7,Nat.eq_zero_or_pos→Yz,Nat.le_of_ble_eq_true→YE,Nat.le_refl→ZA,Nat.le_trans→Yf,Nat.lt_or_ge→Z9,Nat.min_eq_left→YN,Nat.mul_comm→Z5,Nat.mul_le_mul_right→ZH,Nat.mul_one→Zt,Nat.pow_le_pow_right→ZO,Nat.pow_succ→Yy,Nat.reduceAdd→YM,Nat.strongRecOn→Z4,Nat.sub_zero→YW,Nat.succ_mul→Ye,Nat.two_pow_add_eq_or_of_lt→YJ,Nat.two_pow_pos→Yb,Nat.xor_lt_two_pow→YY,Nat.zero_add→Zk,Nat.zero_le→Yv,Option→Xg,Option.isNone→ZL,Option.map_some→Yu,Option.none→V,Option.some→O,Prod.mk.injEq→YG,Pure.pure→XF,absurd→Xr,beq_iff_eq→XA,congrArg→Xx,decide_eq_false→Xp,decide_eq_true→Xo,decide_eq_true_eq→XB,if_neg→Xv,if_neg→y,if_pos→Xh,of_decide_eq_false→Xj,of_decide_eq_true→Xk,rfl→Z
noncomputable section
namespace Go.Vc
section
open Go
section
variable{P:Xi}{α β:Type}[XN α]{ke:α→Q}{ve:β→Q}{kt vt t:Xl}{E w:G}{F:S HP}{m:Xg I}{l:S (α×β)}
theorem lE.fn{t:Fn}{a b:Xe Q}{K:Xf→Prop}(h:K J):lE (.func t a b) K:=h
theorem av.found(b:kA P kt ke)(c:P.underlying t=O (.map kt vt)){a:α}{q:I×β}{z:Q}{k:Ki}{x:k.T}{K:k.T→G→Prop}(d:∀w,(XD vt).run P w=.ok z w)(h:Hp E w (fL ke ve m l::F))(e:findAt a l 0=O q)(f:ve q.2=k.enc x)(g:K x w):av P (Ya t (.map m) (ke a) J) k w K:=by unfold av;rw[uV b c d h,e];dsimp only;rw[f];exact Ki.mR.2 g
end
end
end Go.Vc
namespace Go.Proofs.Q9
section
open Go Go.Vc Go.Srt Go.Inc Go.Hd
abbrev kp:=H×H×H×H×H×H×H×Unit
section
variable{E w:G}{F:S HP}
def KN(n:I)(m:MS)(c:I)(E:G)(F:S HP)(K:kp→Xf→G→Prop):Prop:=(∀a w',aM n m c=.more a→a.at_≠4→a.at_≠6→Hp E w' F→K (SB a) U w')∧(∀M P u w',aM n m c=.fin (.ay M P u)→Hp E w' F→K (4,0,0,(M:H),(P:H),(u:H),4,()) U w')∧(∀u w',aM n m c=.fin (.tail u)→Hp E w' F→K (6,0,0,0,0,(u:H),4,()) U w')∧(∀e o w',aM n m c=.bad e→e=242→Hp E w' F→K o J w')
theorem TV{n:I}{c:I}{K:kp→Xf→G→Prop}(h:Hp E w F)(f:c<256)(d:KN n c8 c E F K):Cl Zf [.st [.int .i64,.int .i64,.int .i64,.int .i64,.int .i64,.int .u32,.int .i64],kB] 153 ⟨[.int .i64 (n:H),.agg ⟨[.int .i64 0,.int .i64 0,.int .i64 0,.int .i64 0,.int .i64 0,.int .u32 0,.int .i64 0]⟩,.int .u8 (c:H)]⟩ w K:=by obtain⟨a,_,_,e⟩:=d;refine F1.ok _ (0,0,0,0,0,0,0,()) _ _ _ ?_;(try simp only[ak,Zs]);(with_reducible repeat first|refine Nw.mk h λb w h=>?_|(refine St.xs h rfl rfl λw h=>?_;dsimp only[bf,aB]at h));by_cases h0:c=0;{subst h0;(with_reducible repeat first|refine Ld.xt h rfl ?_|refine an.xw h rfl rfl λw h=>?_|(refine St.xs h rfl rfl λw h=>?_;dsimp only[bf,aB]at h)|refine aa.yes ?_);exact a ⟨5,0,0,0,0,0⟩ _ rfl (by dsimp only;decide) (by dsimp only;decide) h.tl};{(with_reducible repeat first|refine Ld.xt h rfl ?_|refine an.xw h rfl rfl λw h=>?_|refine aa.no ?_);by_cases h1:c=1;{subst h1;exact a ⟨1,0,0,0,0,0⟩ _ rfl (by dsimp only;decide) (by dsimp only;decide) h.tl};{refine fP (Xp Za) (e 242 _ _ ?_ rfl h.tl);unfold aM c8;simp[h0,h1]}}
theorem Ty{n v:I}{c:I}{K:kp→Xf→G→Prop}(h:Hp E w F)(g:n≤65536)(i:v≤n)(j:c<256)(p:KN n ⟨1,v,0,0,0,0⟩ c E F K):Cl Zf [.st [.int .i64,.int .i64,.int .i64,.int .i64,.int .i64,.int .u32,.int .i64],kB] 154 ⟨[.int .i64 (n:H),.agg ⟨[.int .i64 1,.int .i64 (v:H),.int .i64 (vm v:H),.int .i64 0,.int .i64 0,.int .u32 0,.int .i64 0]⟩,.int .u8 (c:H)]⟩ w K:=by obtain⟨e,_,_,f⟩:=p;refine Gd.ok _ (1,(v:H),(vm v:H),0,0,0,0,()) _ _ _ ?_;(try simp only[ak,Zk,Zs]);(with_reducible repeat first|refine Nw.mk h λb w h=>?_|refine Ld.xt h rfl ?_);refine Dk h i g j (λa o d w h=>?_) λm d a k w q h=>?_;{(with_reducible repeat first|refine Nw.mk h λb w h=>?_|refine Ld.xt h rfl ?_|refine an.xw h rfl rfl λw h=>?_|(refine an.xs h rfl rfl λw h=>?_;dsimp only[bf,aB]at h));cases d;{(with_reducible repeat first|refine Ld.xt h rfl ?_|refine an.xw h rfl rfl λw h=>?_|refine aa.no ?_);exact f 242 _ _ (by unfold aM;simp[a]) rfl h.tl};{(with_reducible repeat first|refine Ld.xb h rfl ?_|refine Ld.xt h rfl ?_|refine an.xw h rfl rfl λw h=>?_|refine aa.yes ?_);exact f 242 _ _ (by unfold aM;simp[a]) rfl h.tl}};{cases d;{have:=q rfl;subst this;(with_reducible repeat first|refine Nw.mk h λb w h=>?_|refine Ld.xt h rfl ?_|refine an.xw h rfl rfl λw h=>?_|(refine an.xs h rfl rfl λw h=>?_;dsimp only[bf,aB]at h)|refine aa.no ?_);exact e ⟨1,m,0,0,0,0⟩ _ (by unfold aM;simp[a]) (by dsimp only;decide) (by dsimp only;decide) h.tl};{(with_reducible repeat first|refine Nw.mk h λb w h=>?_|refine Ld.xb h rfl ?_|refine Ld.xt h rfl ?_|refine an.xw h rfl rfl λw h=>?_|(refine an.xs h rfl rfl λw h=>?_;dsimp only[bf,aB]at h)|refine aa.yes ?_);exact e ⟨2,0,m,0,0,0⟩ _ (by unfold aM;simp[a]) (by dsimp only;decide) (by dsimp only;decide) h.tl}}
theorem QX{n v M:I}{c:I}{K:kp→Xf→G→Prop}(h:Hp E w F)(g:M≤65536)(i:v≤M)(j:c<256)(p:KN n ⟨2,v,M,0,0,0⟩ c E F K):Cl Zf [.st [.int .i64,.int .i64,.int .i64,.int .i64,.int .i64,.int .u32,.int .i64],kB] 155 ⟨[.int .i64 (n:H),.agg ⟨[.int .i64 2,.int .i64 (v:H),.int .i64 (vm v:H),.int .i64 (M:H),.int .i64 0,.int .u32 0,.int .i64 0]⟩,.int .u8 (c:H)]⟩ w K:=by obtain⟨e,_,_,f⟩:=p;refine EN.ok _ (2,(v:H),(vm v:H),(M:H),0,0,0,()) _ _ _ ?_;(try simp only[ak,Zk,Zs]);(with_reducible repeat first|refine Nw.mk h λb w h=>?_|refine Ld.xb h rfl ?_|refine Ld.xt h rfl ?_);refine Dk h i g j (λa o d w h=>?_) λm d a k w q h=>?_;{(with_reducible repeat first|refine Nw.mk h λb w h=>?_|refine Ld.xt h rfl ?_|refine an.xw h rfl rfl λw h=>?_|(refine an.xs h rfl rfl λw h=>?_;dsimp only[bf,aB]at h));cases d;{(with_reducible repeat first|refine Ld.xt h rfl ?_|refine an.xw h rfl rfl λw h=>?_|refine aa.no ?_);exact f 242 _ _ (by unfold aM;simp[a]) rfl h.tl};{(with_reducible repeat first|refine Ld.xb h rfl ?_|refine Ld.xt h rfl ?_|refine an.xw h rfl rfl λw h=>?_|refine aa.yes ?_);exact f 242 _ _ (by unfold aM;simp[a]) rfl h.tl}};{cases d;{have:=q rfl;subst this;(with_reducible repeat first|refine Nw.mk h λb w h=>?_|refine Ld.xt h rfl ?_|refine an.xw h rfl rfl λw h=>?_|(refine an.xs h rfl rfl λw h=>?_;dsimp only[bf,aB]at h)|refine aa.no ?_);exact e ⟨2,m,M,0,0,0⟩ _ (by unfold aM;simp[a]) (by dsimp only;decide) (by dsimp only;decide) h.tl};{(with_reducible repeat first|refine Nw.mk h λb w h=>?_|refine Ld.xb h rfl ?_|refine Ld.xt h rfl ?_|refine an.xw h rfl rfl λw h=>?_|(refine an.xs h rfl rfl λw h=>?_;dsimp only[bf,aB]at h)|refine aa.yes ?_);exact e ⟨3,0,M,m,0,0⟩ _ (by unfold aM;simp[a]) (by dsimp only;decide) (by dsimp only;decide) h.tl}}
theorem PE{n a M P e d:I}{c:I}{K:kp→Xf→G→Prop}(h:Hp E w F)(g:a=3∨(a=5∧M=0∧P=0))(i:d≤3)(r:e<256^d)(j:c<256)(k:KN n ⟨a,0,M,P,e,d⟩ c E F K):Cl Zf [.st [.int .i64,.int .i64,.int .i64,.int .i64,.int .i64,.int .u32,.int .i64],kB] 156 ⟨[.int .i64 (n:H),.agg ⟨[.int .i64 (a:H),.int .i64 0,.int .i64 0,.int .i64 (M:H),.int .i64 (P:H),.int .u32 (e:H),.int .i64 (d:H)]⟩,.int .u8 (c:H)]⟩ w K:=by obtain⟨o,p,q,s⟩:=k;have f:e<16777216:=by{have:256^d≤256^3:=ZO Zb i;omega};refine IT.ok _ ((a:H),0,0,(M:H),(P:H),(e:H),(d:H),()) _ _ _ ?_;(try simp only[ak,Zk,Zs,YM]);(with_reducible repeat first|refine Nw.mk h λb w h=>?_|refine Ld.xb h rfl ?_|(refine St.xs h rfl rfl λw h=>?_;dsimp only[bf,aB]at h)|refine⟨by first|omega|decide,?_⟩);rw[ae (x:=(d:H)+1) Za]at h⊢;rw[Vj f j]at h;by_cases hm3:d=3;{subst hm3;(with_reducible repeat first|refine Ld.xb h rfl ?_|refine Ld.xt h rfl ?_|refine an.xw h rfl rfl λw h=>?_|(refine St.xs h rfl rfl λw h=>?_;dsimp only[bf,aB]at h)|refine aa.yes ?_);rw[ae Za]at h⊢;(rcases g with rfl|⟨rfl,rfl,rfl⟩);{exact p M P (256*e+c) _ (by unfold aM;simp) h.tl};{exact q (256*e+c) _ (by unfold aM;simp) h.tl}};{(with_reducible repeat first|refine Ld.xt h rfl ?_|refine an.xw h rfl rfl λw h=>?_|refine aa.no ?_);refine o ⟨a,0,M,P,256*e+c,d+1⟩ _ ?_ ?_ ?_ h.tl;{unfold aM;rcases g with rfl|⟨rfl,rfl,rfl⟩<;>simp[hm3]};{dsimp only;omega};{dsimp only;omega}}
theorem ur:Tryz.prog.underlying 256=O (.map 3 257):=Zc
theorem LK(w:G):(XD 257).run Zf w=.ok .nilFunc w:=Zc
abbrev fv(i:I):Q:=.func (.func i) ⟨[]⟩ ⟨[]⟩
theorem yM{n:I}{m:MS}{c:I}{K:kp→Xf→H→G→Prop}(h:Hp E w F)(hn:1≤n)(L:n≤65536)(hm:gE n m)(N:c<256)(p:∀A w',aM n m c=.more A→Hp E w' F→K (SB A) J 0 w')(R:∀M P u w',aM n m c=.fin (.ay M P u)→Hp E w' F→K (4,0,0,(M:H),(P:H),(u:H),4,()) U 0 w')(r:∀u w',aM n m c=.fin (.tail u)→Hp E w' F→K (6,0,0,0,0,(u:H),4,()) U 0 w')(T:∀e o w',aM n m c=.bad e→Hp E w' F→K o J (e:H) w'):Cl Zf [.st [.int .i64,.int .i64,.int .i64,.int .i64,.int .i64,.int .u32,.int .i64],kB,kI] 102 ⟨[.int .i64 (n:H),.agg ⟨[.int .i64 (m.at_:H),.int .i64 (m.v:H),.int .i64 (vm m.v:H),.int .i64 (m.M:H),.int .i64 (m.P:H),.int .u32 (m.sum:H),.int .i64 (m.many:H)]⟩,.int .u8 (c:H)]⟩ w K:=by have d:∀(q:I)(i:I),findAt (m.at_:H) [((0:H),fv 153),(1,fv 154),(2,fv 155),(3,fv 156),(5,fv 156)] 0=O (q,fv i)→kf Zf i=U→(∀(s:S HP)(w:G)(K':kp→Xf→G→Prop),Hp E w s→KN n m c E s K'→Cl Zf [.st [.int .i64,.int .i64,.int .i64,.int .i64,.int .i64,.int .u32,.int .i64],kB] i ⟨[.int .i64 (n:H),.agg ⟨[.int .i64 (m.at_:H),.int .i64 (m.v:H),.int .i64 (vm m.v:H),.int .i64 (m.M:H),.int .i64 (m.P:H),.int .u32 (m.sum:H),.int .i64 (m.many:H)]⟩,.int .u8 (c:H)]⟩ w K')→Cl Zf [.st [.int .i64,.int .i64,.int .i64,.int .i64,.int .i64,.int .u32,.int .i64],kB,kI] 102 ⟨[.int .i64 (n:H),.agg ⟨[.int .i64 (m.at_:H),.int .i64 (m.v:H),.int .i64 (vm m.v:H),.int .i64 (m.M:H),.int .i64 (m.P:H),.int .u32 (m.sum:H),.int .i64 (m.many:H)]⟩,.int .u8 (c:H)]⟩ w K:=by{intro q i hq W y;refine yb.ok _ (SB m) _ _ _ ?_;(try simp only[ak,Zs]);refine Nw.mk h λX w h=>Nw.mk h λb7 w h=>?_;refine run_makeMap (ke:=λn:H=>Yk .i64 n) (ve:=λv:Q=>v) h λmp w h=>?_;refine bJ (ke:=λn:H=>Yk .i64 n) (ve:=λv:Q=>v) (l:=_) mS ur (a:=0) (b:=fv 153) h λw h=>?_;refine bJ (ke:=λn:H=>Yk .i64 n) (ve:=λv:Q=>v) (l:=_) mS ur (a:=1) (b:=fv 154) h λw h=>?_;refine bJ (ke:=λn:H=>Yk .i64 n) (ve:=λv:Q=>v) (l:=_) mS ur (a:=2) (b:=fv 155) h λw h=>?_;refine bJ (ke:=λn:H=>Yk .i64 n) (ve:=λv:Q=>v) (l:=_) mS ur (a:=3) (b:=fv 156) h λw h=>?_;refine bJ (ke:=λn:H=>Yk .i64 n) (ve:=λv:Q=>v) (l:=_) mS ur (a:=5) (b:=fv 156) h λw h=>?_;rw[show eI (5:H) (fv 156) (eI 3 (fv 156) (eI 2 (fv 155) (eI 1 (fv 154) (eI 0 (fv 153) []))))=[((0:H),fv 153),(1,fv 154),(2,fv 155),(3,fv 156),(5,fv 156)]from rfl]at h;(with_reducible refine Ld.xb h rfl ?_);refine av.found (ke:=λn:H=>Yk .i64 n) (ve:=λv:Q=>v) mS ur (a:=(m.at_:H)) (x:=fv i) LK h hq rfl ?_;refine lE.fn ?_;have h:=h.drop;(with_reducible repeat first|refine Ld.xt h rfl ?_|refine aa.no ?_);refine OV h hn L hm λw h=>?_;(with_reducible repeat first|refine Ld.xt h rfl ?_|refine aa.no ?_);refine c6.mk W (y _ _ _ h ⟨λA w f g B h=>?_,λM P u w f h=>?_,λu w f h=>?_,λe o w f g h=>?_⟩);{(with_reducible repeat first|refine an.xw h rfl rfl λw h=>?_|refine aa.no ?_);have h:=h.drew (n:=w.drawn+1);refine⟨bK X _ _ _,h.hb,?_⟩;(with_reducible repeat first|refine aA.xb (λ_ h=>h) rfl ?_|refine aA.xt (λ_ h=>h) rfl ?_);refine aa.ef (show¬(A.at_:H)=4 by omega) ?_;(with_reducible repeat first|refine Ld.xt h rfl ?_|refine aA.xb (λ_ h=>h) rfl ?_|refine⟨h.hb,?_⟩|refine an.xw h rfl rfl λw h=>?_);have e6:((A.at_:H)==6)=J:=beq_eq_false_iff_ne.2 Za;have j:=p A _ f h.tl;rw[←e6]at j;exact j};{(with_reducible repeat first|refine an.xw h rfl rfl λw h=>?_|refine aa.no ?_);have h:=h.drew (n:=w.drawn+1);refine⟨bK X _ _ _,h.hb,?_⟩;(with_reducible repeat first|refine Ld.xt h rfl ?_|refine aA.xb (λ_ h=>h) rfl ?_|refine aA.xt (λ_ h=>h) rfl ?_|refine⟨h.hb,?_⟩|refine an.xw h rfl rfl λw h=>?_|refine aa.yes ?_);exact R M P u _ f h.tl};{(with_reducible repeat first|refine an.xw h rfl rfl λw h=>?_|refine aa.no ?_);have h:=h.drew (n:=w.drawn+1);refine⟨bK X _ _ _,h.hb,?_⟩;(with_reducible repeat first|refine Ld.xt h rfl ?_|refine aA.xb (λ_ h=>h) rfl ?_|refine aA.xt (λ_ h=>h) rfl ?_|refine⟨h.hb,?_⟩|refine an.xw h rfl rfl λw h=>?_|refine aa.no ?_);exact r u _ f h.tl};{(with_reducible repeat first|refine Ld.xt h rfl ?_|refine an.xw h rfl rfl λw h=>?_|refine aa.yes ?_);subst g;exact T 242 _ _ f h.tl}};obtain⟨at_,v,M,P,sum,many⟩:=m;have z:=hm;unfold gE at z;dsimp only at z;(rcases z with⟨f,g⟩|⟨f,g,B,C,D,j⟩|⟨f,g,B,C,D,j,Y⟩|⟨f,g,B,C,D,j,Y,h8⟩|⟨f,g,B,C,D,j⟩);{cases g;exact d 0 153 rfl Zc λs w K' h k=>TV h N k};{subst f B C D j;exact d 1 154 rfl Zc λs w K' h k=>Ty h L g N k};{subst f D j Y;exact d 2 155 rfl Zc λs w K' h k=>QX (M:=M) h Za C N k};{subst f j;exact d 3 156 rfl Zc λs w K' h k=>PE h (.inl rfl) Y h8 N k};{subst f g B C;exact d 4 156 rfl Zc λs w K' h k=>PE h (.inr ⟨rfl,rfl,rfl⟩) D j N k}
end
end
end Go.Proofs.Q9
namespace Go.Pol
section
def layout(n side mode:I):S I:=if side=1 then(if mode=3 then[n,n,4*XL (n+1) 1024]else[n])else if mode=3 then[n,4*(n+1)]else if mode=2 then[n,1024*(n/1024)]else[n,1024*(n/8192)]
def oG(n side mode:I):Prop:=(side=1∨side=2)∧1≤mode∧mode≤3∧1≤n∧n≤65536
instance(n side mode:I):Decidable (oG n side mode):=by unfold oG;infer_instance
def bz(n side mode:I):I:=(layout n side mode).sum
def aY(a n side:I):I:=if bz n side 3≤a then 3 else if bz n side 2≤a then 2 else if bz n side 1≤a then 1 else 0
theorem Nf{n mode:I}(h:mode≠3):bz n 1 mode=n:=by simp[bz,layout,h]
theorem l7{budget n side:I}(h:aY budget n side≠0):bz n side (aY budget n side)≤budget∧1≤aY budget n side∧aY budget n side≤3:=by unfold aY at h⊢;by_cases h3:bz n side 3≤budget;{grind};{grind}
theorem Jq(n side:I)(a:side=1∨side=2):bz n side 1≤bz n side 2∧bz n side 2≤bz n side 3:=by(rcases a with rfl|rfl);{simp[bz,layout]};{simp[bz,layout];omega}
theorem Ml{budget n side:I}(a:side=1∨side=2):aY budget n side=0↔budget<bz n side 1:=by have:=Jq n side a;unfold aY;constructor;{grind};{grind}
theorem MV{budget n:I}:(aY budget n 1≠0↔n≤budget):=by have:=Ml (budget:=budget) (n:=n) (.inl Z);rw[Nf Zb]at this;omega
def cj:I→S I→S (I×I)|_,[]=>[]|a,k::l=>(a,k)::cj (a+k) l
end
end Go.Pol
namespace Go.Vc
section
open Go
theorem mw{α β:Type}[XN α]{a k:α}{b:β}:∀(l:S (α×β))(i:I),(findAt k (eI a b l) i).map (·.2)=if k=a then O b else(findAt k l i).map (·.2)|[],i=>by unfold eI findAt;by_cases h:k=a;{rw[Xh h,Xh h];rfl};{rw[y h,y h];rfl}|p::l,i=>by unfold eI;by_cases h:a=p.1;{rw[Xh h];unfold findAt;by_cases hk:k=a;{rw[Xh hk,Xh (by rw[hk])];rfl};{rw[y hk,y (by first|exact hk|(rw[←h];exact hk)),y (by rw[←h];exact hk)]}};{rw[y h];unfold findAt;by_cases hk:k=p.1;{rw[Xh hk,Xh hk];by_cases hka:k=a;{exact Xr (hka.symm.trans hk) h};{rw[y hka]}};{rw[y hk,y hk];exact mw l (i+1)}}
end
end Go.Vc
namespace Go.Proofs.Q9
section
open Go Go.Vc Go.Pol
set_option maxRecDepth 100000
abbrev JE:Xl:=214
def o5:Xe Xy:=K0 (sZ (Tryz.f118.body.getD .skip) [U,U,J])
def H3(j:I):I:=[3,6,8,10,12,14].getD j 0
def vn(j:I):H×H:=[((1:H),(1:H)),(1,2),(1,3),(2,1),(2,2),(2,3)].getD j (0,0)
def WM(j:I):I:=[169,169,170,171,172,173].getD j 0
def vP(j:I):Q:=.func (.func (WM j)) ⟨[]⟩ ⟨[]⟩
def nw(a:H×H):Q:=.agg ⟨[.int .u8 a.1,.int .u8 a.2]⟩
def gP(T r:I):Xf:=I.blt r 15&&(match[3,6,8,10,12,14].findIdx? (YP r)with|some j=>YP (T/2^j%2) 1|none=>U)
def LP(T:I):Xe Xf:=⟨(Zq 17).map (gP T)⟩
def G8(T:I):S I:=((Zq 6).filter λj=>YP (T/2^j%2) 0).map H3
def Fm(T:I):I:=((Zq 6).filter λj=>YP (T/2^j%2) 0).length
def Th(T:I):Xf:=(ZS .any o5 (LP T)==G8 T)&&((G8 T).find? (j0 Pg o5 (LP T))).isNone&&((Zq 6).all λj=>YP (T/2^j%2) 1||(((LP T).setIfInBounds (H3 j) U).toList==(LP (T+2^j)).toList&&YP (Fm (T+2^j)+1) (Fm T)&&I.blt (T+2^j) 64&&(Zq 6).all λi=>YP i j||(YP ((T+2^j)/2^i%2) 1==YP (T/2^i%2) 1)))
theorem Q7:((Zq 63).all Th)=U:=Zc
def S9:AF:=aP (aP (cX [] 12) 0 (O (.map V))) 1 (O (.func (.func 169) ⟨[]⟩ ⟨[]⟩))
def Bh(m:Xg I):AF:=aP (aP (aP (aP (aP (aP (aP (aP (aP S9 3 (O (nw (1,1)))) 4 (O (vP 0))) 5 (O (nw (1,2)))) 6 (O (vP 0))) 7 (O (nw (1,3)))) 8 (O (nw (2,1)))) 9 (O (nw (2,2)))) 10 (O (nw (2,3)))) 2 (O (.map m))
structure G5 (T:I) (l:S ((H×H)×Q)):Prop where
 has:∀i,i<6→(findAt (vn i) l 0).map (·.2)=if T/2^i%2=1 then O (vP i)else V
 no:∀k,(∀i,i<6→k≠vn i)→(findAt k l 0).map (·.2)=V
theorem Sk:∀i,i<6→∀j,j<6→vn i=vn j→i=j:=Zb
structure Vx (T j:I):Prop where
 set:(LP T).setIfInBounds (H3 j) U=LP (T+2^j)
 cz:Fm (T+2^j)+1=Fm T
 lt:T+2^j<64
 bit:∀i,i<6→i≠j→((T+2^j)/2^i%2=1↔T/2^i%2=1)
 one:(T+2^j)/2^j%2=1
theorem Qv{T:I}(r:T<63):ZS .any o5 (LP T)=G8 T∧(G8 T).find? (j0 Pg o5 (LP T))=V∧∀j,j<6→T/2^j%2=0→Vx T j:=by have c:=List.all_eq_true.1 Q7 T Ze;unfold Th at c;simp only[ZM]at c;obtain⟨⟨f,g⟩,k⟩:=c;refine⟨eq_of_beq f,Option.isNone_iff_eq_none.1 g,λj s l=>?_⟩;have h:=List.all_eq_true.1 k j Ze;rw[l]at h;simp only[Ys,ZM]at h;obtain⟨⟨⟨m,n⟩,o⟩,p⟩:=h.resolve_left Zb;refine⟨Xe.ext' (eq_of_beq m),Z7 n,YE o,λi t d=>?_,?_⟩;{have:=List.all_eq_true.1 p i Ze;simp only[Ys]at this;have:=eq_of_beq (this.resolve_left λq=>d (Z7 q));have e:∀a b:I,YP a b=U↔a=b:=λa b=>⟨Z7,λh=>by rw[h];exact I.beq_refl b⟩;have:=Xx (·=U) this;simp only[eq_iff_iff,e]at this;exact this};{rw[I.add_div_right _ (Yb j)];omega}
theorem G5.aP{T j:I}{l:S ((H×H)×Q)}(h:G5 T l)(d:j<6)(f:Vx T j):G5 (T+2^j) (eI (vn j) (vP j) l):=by refine⟨λi c=>?_,λk a=>?_⟩;{rw[mw];by_cases e:i=j;{subst e;rw[Xh Z,Xh f.one]};{rw[y λa=>e (Sk i c j d a),h.has i c];have:=f.bit i c e;by_cases b:T/2^i%2=1;{grind};{grind}}};{rw[mw,y (a j d)];exact h.no k a}
theorem Qh{T r:I}(h:r∈G8 T):∃j,j<6∧T/2^j%2=0∧r=H3 j:=by obtain⟨j,a,rfl⟩:=List.mem_map.1 h;obtain⟨b,c⟩:=List.mem_filter.1 a;exact⟨j,by simpa using b,Z7 c,rfl⟩
theorem Ul:((Zq 63).all λT=>!(G8 T).isEmpty)=U:=Zc
theorem Rw:((Zq 64).all λT=>YP T 63||I.blt 0 (Fm T))=U:=Zc
section
variable{E w:G}{F:S HP}
theorem Sy:Tryz.prog.underlying JE=O (.map 217 212):=Zc
theorem EX:kA Zf (α:=H×H) 217 nw where und:=⟨_,Z,λa b=>.inl Z⟩;check:=λe a w=>by{have:∀(e:Xf)(c d:H)(w:G),(Instr.checkKey e 10000 217 (.agg ⟨[.int .u8 c,.int .u8 d]⟩)).run Zf w=.ok () w:=λe c d w=>Zc;exact this e a.1 a.2 w};eq:=λa b w=>by{have f:∀c n d m:H,mg Zf 8 217 (.agg ⟨[.int .u8 c,.int .u8 n]⟩) (.agg ⟨[.int .u8 d,.int .u8 m]⟩) (λr=>r=((c==d)&&(n==m))):=λc n d m=>by{have e:mg Zf 8 217 (.agg ⟨[.int .u8 c,.int .u8 n]⟩) (.agg ⟨[.int .u8 d,.int .u8 m]⟩) (λr=>r=((c==d)&&(n==m)))=(((c==d)&&(n==m))=((c==d)&&(n==m))):=by{kernel_rfl};rw[e]};obtain⟨r,g,h⟩:=iF 8 _ _ _ _ (f a.1 a.2 b.1 b.2);have:=g 10000 Zb w;have e:K (a=b)=((a.1==b.1)&&(a.2==b.2)):=by{rw[YI];simp[Prod.ext_iff]};rw[e,←h];exact this};same:=λa=>by unfold nw Y3;simp[Y3]
theorem VO{S:G→Prop}{J:Xe Xf→AF→G→Prop}{L:Xe Xf}{m:Xg I}:∀j,j<6→bc Pg o5 S J L (Bh m) w (H3 j)=av Pg (do Zr JE (.map m) (nw (vn j)) (vP j);XF Xw) kV w λ_ w'=>S w'∧J (L.setIfInBounds (H3 j) U) (Bh m) w'|0,_=>Zc|1,_=>Zc|2,_=>Zc|3,_=>Zc|4,_=>Zc|5,_=>Zc|j+6,h=>Za
theorem Wk{S:G→Prop}{K:AF→G→Prop}{m:Xg I}:aH Pg o5 S K 2 (LP 63) (Bh m) w=K (aP (aP (Bh m) 11 (O (.map m))) 0 (O (.map m))) w:=Zc
theorem Wh{K:AF→G→Prop}{m:Xg I}:∀(n T:I)(l:S ((H×H)×Q))(w:G),Fm T=n→T<64→G5 T l→Hp E w (fL nw (λv:Q=>v) m l::F)→(∀k w',G5 63 k→Hp E w' (fL nw (λv:Q=>v) m k::F)→K (aP (aP (Bh m) 11 (O (.map m))) 0 (O (.map m))) w')→aH Pg o5 (λ_=>True) K (n+2) (LP T) (Bh m) w:=by intro n;induction n with|zero=>intro T l w b o c h d;have f:T=63:=by{have:=List.all_eq_true.1 Rw T Ze;rw[b]at this;simp only[Ys]at this;exact Z7 (this.resolve_right Zb)};subst f;rw[Wk];exact d l w c h|succ n p=>intro T l w b o c h d;have g:T<63:=by{(rcases Z9 T 63 with q|q);{exact q};{have:T=63:=by{omega};subst this;exact Xr b (by rw[show Fm 63=0 from Zb];omega)}};obtain⟨s,t,u⟩:=Qv g;refine bu (wz s (λe=>?_) t λr x=>?_);{have:=List.all_eq_true.1 Ul T Ze;rw[e]at this;exact Xr this Zb};{obtain⟨j,i,y,rfl⟩:=Qh x;have a:=u j i y;rw[VO j i,a.set];refine bJ (ke:=nw) (ve:=λv:Q=>v) EX Sy h λw h=>⟨trivial,p _ _ _ (by have:=a.cz;omega) a.lt (c.aP i a) h d⟩}
theorem Se{S:G→Prop}{K:AF→G→Prop}:aH Pg o5 S K 17 (Xe.replicate 17 J) S9 w=av Pg (Z0 JE V) kM w λm w'=>S w'∧aH Pg o5 S K 8 (LP 0) (Bh m) w':=Zc
theorem JY{K:Xg I→G→Prop}(h:Hp E w F)(a:∀m l w',G5 63 l→Hp E w' (fL nw (λv:Q=>v) m l::F)→K m w'):Cl Zf [kM] 118 ⟨[]⟩ w K:=by refine oM Tryz.mix (F:=cJ w λS w'=>aH Pg o5 S (λf w=>ru Pg [.tmp 0] [kM] K .ret f w) 17 (Xe.replicate 17 J) S9 w') Tryz.f118 [] [kM] K 12 [.tmp 0] Zc Zc Zc Zc Zc (.s .o (.s .o (.s .o .o))) Zc ?_;have h:=h.drew (n:=w.drawn+1);refine⟨λ_=>True,trivial,?_⟩;dsimp only;rw[Se];refine run_makeMap (ke:=nw) (ve:=λv:Q=>v) h λm w h=>⟨trivial,?_⟩;refine Wh 6 0 [] w Z Zb ⟨λi c=>?_,λk d=>rfl⟩ h λl w b h=>?_;{rw[I.zero_div,y Zb];rfl};{have e:ru Pg [.tmp 0] [kM] K .ret (aP (aP (Bh m) 11 (O (.map m))) 0 (O (.map m))) w=K m w:=by{kernel_rfl};rw[e];exact a m l w b h}
end
end
section
open Go Go.Vc
set_option maxRecDepth 100000
theorem ym.ok(a:(Xe Q))(R:(Xe Q)→H→G→Prop) w(h:Nw 50 a w λc b=>Nw 185 ⟨Zi 258 (.int .u32 0)⟩ b λe d=>Ld (.arr 258) ⟨c,0,V⟩ d λf=>Cl Pg [kB] 148 ⟨[(.agg f)]⟩ d λ(h:Xf) g=>aa (! h) (Ld (.arr 258) ⟨e,0,V⟩ g λi=>ar 258 ⟨e,0,V⟩ i g λj=>Ld (.arr 258) ⟨e,0,V⟩ j λk=>R k 2 j) (Ld (.arr 258) ⟨c,0,V⟩ g λl=>Cl Pg [kS] 149 ⟨[(.agg l)]⟩ g λ(n:Sl) m=>tN 0 0 0 m λo p(q:H)(r:H)(s:H) t=>aa (K (s<(n.len:H))) (au n s 1 λu=>Ld kI u t λ(v:H)=>aK ⟨c,0,V⟩ 258 v 1 λx=>Ld (aq .u8) x t λ(y:H)=>0≤(u8 (y-r))∧cJ t λz D=>aK ⟨c,0,V⟩ 258 v 1 λE=>aA (aq .u8) E z λ(B:H)=>aK ⟨e,0,V⟩ 258 v 1 λF=>St F (.int .u32 (a7 .u32 q (u8 (y-r)))) D λA=>z A∧o (u32 ((a7 .u32 q (u8 (y-r)))+1)) B (i64 (s+1)) A∧p (u32 ((a7 .u32 q (u8 (y-r)))+1)) B (i64 (s+1)) A<p q r s t) (Ld (.arr 258) ⟨e,0,V⟩ t λI=>ar 258 ⟨e,0,V⟩ I t λC=>Ld (.arr 258) ⟨e,0,V⟩ C λL=>R L 0 C))):Cl Pg [(.arr 258),kI] 98 ⟨[(.agg a)]⟩ w R:=co Tryz.f98 [(12,[(4,(aq .u32)),(5,(aq .u8)),(15,kI)])] h
theorem yE.ok(a:(Xe Q))(R:Xf→G→Prop) w(h:Nw 50 a w λc b=>Ld (.arr 258) ⟨c,0,V⟩ b λd=>Cl Pg [kB] 202 ⟨[(.agg d)]⟩ b λ(f:Xf) e=>R f e):Cl Pg [kB] 148 ⟨[(.agg a)]⟩ w R:=co Tryz.f148 [] h
theorem wP.ok(a:(Xe Q))(R:Sl→G→Prop) w(h:Nw 50 a w λc b=>Ld (.arr 258) ⟨c,0,V⟩ b λd=>Cl Pg [kB] 148 ⟨[(.agg d)]⟩ b λ(f:Xf) e=>aa (! f) (R (⟨V,0,0⟩:Sl) e) (Ld (.arr 258) ⟨c,0,V⟩ e λg=>de (⟨V,0,0⟩:Sl) 0 e λh i(j:Sl)(k:H) l=>aa (K (k<258)) (eA (.int .u8) g 258 k λ(m:H)=>aa (K (m>0)) (Nw 3 ⟨[(ni k)]⟩ l λo n=>av Pg (ZB #[44,44] 44 ⟨[(aj j),(aj (⟨O ⟨o,0,V⟩,1,1⟩:Sl))]⟩) kS n λ(q:Sl) p=>h q (i64 (k+1)) p∧i q (i64 (k+1)) p<i j k l) (h j (i64 (k+1)) l∧i j (i64 (k+1)) l<i j k l)) (Cl Pg [] 108 ⟨[(aj j),(.func (.func 203) ⟨[]⟩ ⟨[(.pointer (O ⟨c,0,V⟩))]⟩)]⟩ l λr=>R j r))):Cl Pg [kS] 149 ⟨[(.agg a)]⟩ w R:=co Tryz.f149 [(10,[(2,kS),(9,kI)])] h
theorem uK.ok(a:H)(b:H)(c:Xn)(R:H→G→Prop) w(h:aJ w λd=>aK c 258 a 1 λe=>Ld (aq .u8) e d λ(f:H)=>aK c 258 b 1 λg=>Ld (aq .u8) g d λ(h:H)=>Cl Pg [kI] 204 ⟨[(.int .u8 f),(.int .u8 h)]⟩ d λ(j:H) i=>R j i):Cl Pg [kI] 203 ⟨[(ni a),(ni b),(.pointer (O c))]⟩ w R:=co Tryz.f203 [] h
theorem ox.ok(a:H)(b:H)(R:H→G→Prop) w(h:Cl Pg [kB] 165 ⟨[(ni a)]⟩ w λ(d:Xf) c=>Cl Pg [kB] 165 ⟨[(ni b)]⟩ c λ(f:Xf) e=>aa d (aa f (R 0 e) (R (-1) e)) (aa f (R 1 e) (aa (K (a<b)) (R (-1) e) (aa (K (a>b)) (R 1 e) (R 0 e))))):Cl Pg [kI] 110 ⟨[(ni a),(ni b)]⟩ w R:=co Tryz.f110 [] h
theorem cmp_isNaN_int.ok(a:H)(R:Xf→G→Prop) w(h:R (a !=a) w):Cl Pg [kB] 165 ⟨[(ni a)]⟩ w R:=co Tryz.f165 [] h
theorem uM.ok(a:H)(b:H)(R:H→G→Prop) w(h:Cl Pg [kB] 232 ⟨[(.int .u8 a)]⟩ w λ(d:Xf) c=>Cl Pg [kB] 232 ⟨[(.int .u8 b)]⟩ c λ(f:Xf) e=>aa d (aa f (R 0 e) (R (-1) e)) (aa f (R 1 e) (aa (K (a<b)) (R (-1) e) (aa (K (a>b)) (R 1 e) (R 0 e))))):Cl Pg [kI] 204 ⟨[(.int .u8 a),(.int .u8 b)]⟩ w R:=co Tryz.f204 [] h
theorem Iw.ok(a:Sl)(R:H→G→Prop) w(h:da 0 w λb c(d:H) e=>aa (K (d<(a.len:H))) (au a d 1 λf=>Ld kI f e λ(g:H)=>aa (g !=0) (R g e) (b (i64 (d+1)) e∧c (i64 (d+1)) e<c d e)) (R 0 e)):Cl Pg [kI] 228 ⟨[(aj a)]⟩ w R:=co Tryz.f228 [(7,[(8,kI)])] h
theorem oy.ok(a:H)(R:Xf→G→Prop) w(h:R (a !=a) w):Cl Pg [kB] 232 ⟨[(.int .u8 a)]⟩ w R:=co Tryz.f232 [] h
theorem Gy.ok(a:(Xe Q))(R:Xf→G→Prop) w(h:Nw 50 a w λc b=>Ld (.arr 258) ⟨c,0,V⟩ b λd=>Cl Pg [kB] 60 ⟨[(.agg d)]⟩ b λ(f:Xf) e=>aa f (aK ⟨c,0,V⟩ 258 257 1 λg=>Ld (aq .u8) g e λ(h:H)=>R (K (h>0)) e) (R J e)):Cl Pg [kB] 23 ⟨[(.agg a)]⟩ w R:=co Tryz.f23 [] h
theorem zx.ok(a:(Xe Q))(R:Xf→G→Prop) w(h:Nw 50 a w λc b=>Ld (.arr 258) ⟨c,0,V⟩ b λd=>Cl Pg [kI] 114 ⟨[(.agg d)]⟩ b λ(f:H) e=>R (f==32768) e):Cl Pg [kB] 60 ⟨[(.agg a)]⟩ w R:=co Tryz.f60 [] h
theorem Ku.ok(a:(Xe Q))(R:H→G→Prop) w(h:Nw 50 a w λc b=>Ld (.arr 258) ⟨c,0,V⟩ b λd=>de 0 0 b λe f(g:H)(h:H) i=>aa (K (h<258)) (eA (.int .u8) d 258 h λ(j:H)=>Cl Pg [kI] 167 ⟨[(.int .u8 j)]⟩ i λ(l:H) k=>e (i64 (g+l)) (i64 (h+1)) k∧f (i64 (g+l)) (i64 (h+1)) k<f g h i) (R g i)):Cl Pg [kI] 114 ⟨[(.agg a)]⟩ w R:=co Tryz.f114 [(5,[(2,kI),(6,kI)])] h
theorem Gw.ok(a:H)(R:H→G→Prop) w(h:aa (a==0) (R 0 w) (aa (K (a>15)) (R 32769 w) (0≤a∧R (aI .i64 (32768:H) a) w))):Cl Pg [kI] 167 ⟨[(.int .u8 a)]⟩ w R:=co Tryz.f167 [] h
theorem EJ.ok(a:(Xe Q))(R:(TT KO)→G→Prop) w(h:Nw 50 a w λc b=>Nw 272 ⟨Zi 16 (ni 0)⟩ b λe d=>Ld (.arr 258) ⟨c,0,V⟩ d λf=>da 0 d λg h(i:H) j=>aa (K (i<258)) (eA (.int .u8) f 258 i λ(k:H)=>aa (K ((i64 k)<16)) (aK ⟨e,0,V⟩ 16 k 1 λl=>Ld kI l j λ(m:H)=>aK ⟨e,0,V⟩ 16 k 1 λn=>St n (ni (i64 (m+1))) j λo=>g (i64 (i+1)) o∧h (i64 (i+1)) o<h i j) (g (i64 (i+1)) j∧h (i64 (i+1)) j<h i j)) (Ld (.st KO) ⟨e,0,V⟩ j λp=>an ⟨e,0,V⟩ [(ni p.1),(ni p.2.1),(ni p.2.2.1),(ni p.2.2.2.1),(ni p.2.2.2.2.1),(ni p.2.2.2.2.2.1),(ni p.2.2.2.2.2.2.1),(ni p.2.2.2.2.2.2.2.1),(ni p.2.2.2.2.2.2.2.2.1),(ni p.2.2.2.2.2.2.2.2.2.1),(ni p.2.2.2.2.2.2.2.2.2.2.1),(ni p.2.2.2.2.2.2.2.2.2.2.2.1),(ni p.2.2.2.2.2.2.2.2.2.2.2.2.1),(ni p.2.2.2.2.2.2.2.2.2.2.2.2.2.1),(ni p.2.2.2.2.2.2.2.2.2.2.2.2.2.2.1),(ni p.2.2.2.2.2.2.2.2.2.2.2.2.2.2.2.1)] 0 j λq=>Ld (.st KO) ⟨e,0,V⟩ q λr=>R r q)):Cl Pg [(.st KO)] 168 ⟨[(.agg a)]⟩ w R:=co Tryz.f168 [(5,[(6,kI)])] h
theorem IC.ok(a:(Xe Q))(R:Xf→G→Prop) w(h:Nw 50 a w λc b=>Ld (.arr 258) ⟨c,0,V⟩ b λd=>Cl Pg [kI] 114 ⟨[(.agg d)]⟩ b λ(f:H) e=>R (K (f≤32768)) e):Cl Pg [kB] 202 ⟨[(.agg a)]⟩ w R:=co Tryz.f202 [] h
end
end Go.Proofs.Q9
namespace Go.Srt
section
inductive Ck (key:H→H) (sz:I):S H→S H→Prop where|nil:Ck key sz [] []|last (A B:S H) (h1:A.length<sz) (h2:B.Perm A) (h3:Sd key B):Ck key sz A B|cons (A B X Y:S H) (h1:A.length=sz) (h2:B.Perm A) (h3:Sd key B) (h4:Ck key sz X Y):Ck key sz (A++X) (B++Y)
theorem Ck.len{a:H→H}{sz:I}{X Y:S H}(h:Ck a sz X Y):Y.length=X.length:=by induction h with|nil=>rfl|last A B c b d=>exact b.length_eq|cons A B X Y c b d f e=>simp[b.length_eq,e]
theorem Ck.one{a:H→H}{sz:I}{X Y:S H}(h:Ck a sz X Y)(e:X.length≤sz):Y.Perm X∧Sd a Y:=by cases h with|nil=>exact⟨S.Perm.refl _,S.Pairwise.nil⟩|last _ _ f b c=>exact⟨b,c⟩|cons A B X Y f b c g=>rw[Zh]at e;have d:X=[]:=List.length_eq_zero_iff.1 Za;have i:Y=[]:=List.length_eq_zero_iff.1 (by rw[g.len,d];rfl);subst d;subst i;simpa using⟨b,c⟩
theorem Ck.first{a:H→H}{sz:I}{X Y:S H}(h:Ck a sz X Y)(g:sz≤X.length)(j:0<sz):∃A B b c,X=A++b∧Y=B++c∧A.length=sz∧B.Perm A∧Sd a B∧Ck a sz b c:=by cases h with|nil=>simp at g;omega|last _ _ d e f=>omega|cons A B X Y d e f i=>exact⟨A,B,X,Y,Z,Z,d,e,f,i⟩
end
end Go.Srt
namespace Go.Proofs.Q9
section
open Go Go.Vc Go.Srt
section
variable{E w:G}{F:S HP}
theorem KJ{a b c d:S H}(h:(a++b).Pairwise (·<·))(e:c.Perm a)(f:d.Perm b):∀x∈c,∀y∈d,x<y:=λx g y i=>(List.pairwise_append.1 h).2.2 x (e.mem_iff.1 g) y (f.mem_iff.1 i)
theorem OM{s:Sl}{xs:S H}{fv:Value}{key:H→H}{D:H→Prop}{n:H}{K:G→Prop}(h:Hp E w (ah 1 s (xs.map vI)::F))(C:xs.length≤bP)(hc:uA E F fv key D)(hD:∀x∈xs,D x)(hL:xs.Pairwise (·<·))(hn:n=(xs.length:H))(hK:∀g w',g.Perm xs→Sd key g→Hp E w' (ah 1 s (g.map vI)::F)→K w'):Cl Zf [] 164 ⟨[.slice s.base s.len s.cap,.int .i64 n,fv]⟩ w K:=by subst hn;refine nZ.ok _ _ _ _ _ ?_;have hbg:=C;rw[ax]at C;refine⟨λa b w'=>∃f Z X:S H,a=(f.length:H)∧b=((f.length+20:I):H)∧xs=f++X∧Z.length=f.length∧(∀m o,Ck key 20 m o→Ck key 20 (f++m) (Z++o))∧Hp E w' (ah 1 s ((Z++X).map vI)::F),λa _ _=>xs.length-a.toNat,⟨[],[],xs,rfl,rfl,rfl,rfl,λm o h=>h,h⟩,?_⟩;rintro a b w' ⟨f,Z,X,rfl,rfl,hxs,hZ,c,hh⟩;have i:xs.length=f.length+X.length:=by{rw[hxs,Zh]};have hX:∀x∈X,x∈xs:=λx j=>by{rw[hxs];exact S.mem_append_right _ j};have d:X.Pairwise (·<·):=by{rw[hxs]at hL;exact(List.pairwise_append.1 hL).2.1};refine aa.mk (λp=>?_) λq=>?_;{have p:=Xk p;have e:X.take 20++X.drop 20=X:=Zy _ _;have l1:(X.take 20).length=20:=by{simp;omega};generalize X.take 20=A at e l1;generalize X.drop 20=X2 at e;subst e;rw[Zh]at i;refine u9 (P:=Z) (L:=A) (Q:=X2) (key:=key) (D:=D) (by simpa only[Zn]using hh) (by rw[ax];simp only[Zh];omega) hc (λx j=>hD x (hX x (S.mem_append_left _ j))) (List.pairwise_append.1 d).1 Za (by simp only[Zh];omega) λM N l r T=>?_;rw[ae Za];refine⟨⟨f++A,Z++M,X2,by simp only[Zh];omega,by simp only[Zh];omega,by rw[hxs,Zn],by simp only[Zh];rw[l.length_eq];omega,λm o hk=>?_,T⟩,by dsimp only;omega⟩;rw[Zn,Zn];exact c _ _ (.cons A M m o l1 l r hk)};{have q:=Xj q;refine u9 (P:=Z) (L:=X) (Q:=[]) (key:=key) (D:=D) (by simpa using hh) (by rw[ax];simp only[Zh,Yj];omega) hc (λx j=>hD x (hX x j)) d Za (by simp only[Zh];omega) λM N l r T=>?_;have c:=c _ _ (.last X M Za l r);rw[←hxs]at c;refine⟨λbs w'=>∃(sz:I)(g:S H),bs=(sz:H)∧20≤sz∧sz≤2*bP∧Ck key sz xs g∧Hp E w' (ah 1 s (g.map vI)::F),λbs _=>xs.length-bs.toNat,⟨20,Z++M,rfl,Za,by rw[ax];omega,c,by simpa using T⟩,?_⟩;rintro bs w' ⟨sz,g,rfl,hsz,hszb,c,hh⟩;rw[ax]at hszb;refine aa.mk (λhlt=>?_) λhge=>?_;{have hlt:=Xk hlt;have hlt:sz<xs.length:=by{omega};refine⟨λa b w'=>∃f Z X Y:S H,a=(f.length:H)∧b=((f.length+2*sz:I):H)∧xs=f++X∧Z.length=f.length∧Ck key sz X Y∧(∀m o,Ck key (2*sz) m o→Ck key (2*sz) (f++m) (Z++o))∧Hp E w' (ah 1 s ((Z++Y).map vI)::F),λa _ _=>xs.length-a.toNat,⟨[],[],xs,g,rfl,?_,rfl,rfl,c,λm o h=>h,hh⟩,?_⟩;{rw[ae Za];simp};rintro a b w' ⟨f,Z,X,Y,rfl,rfl,hxs,hZ,c,hco,hh⟩;have i:xs.length=f.length+X.length:=by{rw[hxs,Zh]};have hX:∀x∈X,x∈xs:=λx j=>by{rw[hxs];exact S.mem_append_right _ j};have d:X.Pairwise (·<·):=by{rw[hxs]at hL;exact(List.pairwise_append.1 hL).2.1};rw[ae (x:=(f.length:H)+(sz:H)) Za,ae (x:=(sz:H)*2) Za];(have next:∀(N:G)(g:S H),Ck key (2*sz) xs g→Hp E N (ah 1 s (g.map vI)::F)→(∃(k:I)(g:S H),(sz:H)*2=(k:H)∧20≤k∧k≤2*bP∧Ck key k xs g∧Hp E N (ah 1 s (g.map vI)::F))∧xs.length-((sz:H)*2).toNat<xs.length-((sz:H)).toNat:=λN g h1 T=>⟨⟨2*sz,g,Za,Za,by rw[ax];omega,h1,T⟩,Za⟩);refine aa.mk (λp=>?_) λq=>?_;{have p:=Xk p;obtain⟨A1,B1,X1,Y1,rfl,rfl,a1,y,c1,t⟩:=c.first Za Za;rw[Zh]at i;obtain⟨A2,B2,X2,Y2,rfl,rfl,a2,z,c2,W⟩:=t.first Za Za;rw[Zh]at i;have B:(A1++A2).Pairwise (·<·):=by{rw[←Zn]at d;exact(List.pairwise_append.1 d).1};have u:=y.length_eq;have v:=z.length_eq;have lY2:=W.len;rw[ae (x:=2*(sz:H)) Za,ae Za];refine mB hc (B1.length+B2.length) (P:=Z) (L:=B1) (R:=B2) (Q:=Y2) (ZA _) (by simpa only[Zn]using hh) (by rw[ax];simp only[Zh];omega) (λe=>by rw[e]at u;simp at u;omega) (λe=>by rw[e]at v;simp at v;omega) c1 c2 (KJ B y z) (λx j=>hD x (hX x (by simp[y.mem_iff.1 j]))) (λx j=>hD x (hX x (by simp[z.mem_iff.1 j]))) Za Za Za λM N l r T=>?_;have pM:M.Perm (A1++A2):=l.trans (S.Perm.append y z);refine⟨⟨f++(A1++A2),Z++M,X2,Y2,by simp only[Zh];omega,by simp only[Zh];omega,by rw[hxs];simp only[Zn],by simp only[Zh];rw[pM.length_eq,Zh];omega,W,λm o hk=>?_,T⟩,by dsimp only;omega⟩;rw[Zn f,Zn Z];exact hco _ _ (.cons (A1++A2) M m o (by rw[Zh];omega) pM r hk)};{have q:=Xj q;refine aa.mk (λhm=>?_) λhm=>?_;{have hm:=Xk hm;obtain⟨A1,B1,X1,Y1,rfl,rfl,a1,y,c1,t⟩:=c.first Za Za;rw[Zh]at i;obtain⟨z,c2⟩:=t.one Za;have u:=y.length_eq;have v:=z.length_eq;refine mB hc (B1.length+Y1.length) (P:=Z) (L:=B1) (R:=Y1) (Q:=[]) (ZA _) (by simpa using hh) (by rw[ax];simp only[Zh,Yj];omega) (λe=>by rw[e]at u;simp at u;omega) (λe=>by rw[e]at v;simp at v;omega) c1 c2 (KJ d y z) (λx j=>hD x (hX x (by simp[y.mem_iff.1 j]))) (λx j=>hD x (hX x (by simp[z.mem_iff.1 j]))) Za Za Za λM N l r T=>?_;have pM:M.Perm (A1++X1):=l.trans (S.Perm.append y z);(refine next N (Z++M) ?_ Ze);rw[hxs];exact hco _ _ (.last _ M (by rw[Zh];omega) pM r)};{have hm:=Xj hm;obtain⟨l,r⟩:=c.one Za;(refine next w' (Z++Y) ?_ hh);rw[hxs];exact hco _ _ (.last _ Y Za l r)}}};{have hge:=Xj hge;obtain⟨l,r⟩:=c.one Za;exact hK g w' l r hh}}
theorem tY{s:Sl}{xs:S H}{c:Q}{key:H→H}{D:H→Prop}{K:G→Prop}(h:Hp E w (ah 1 s (xs.map vI)::F))(a:xs.length≤bP)(d:uA E F c key D)(e:∀x∈xs,D x)(f:xs.Pairwise (·<·))(g:∀b w',b.Perm xs→Sd key b→Hp E w' (ah 1 s (b.map vI)::F)→K w'):Cl Zf [] 108 ⟨[.slice s.base s.len s.cap,c]⟩ w K:=by refine kR.ok _ _ _ _ ?_;have i:=h.aL;simp only[Zm,Zt]at i;exact OM h a d e f Za g
end
end
end Go.Proofs.Q9
namespace Go.Srt
section
def wt(n:I):I:=if n=0 then 0 else if n>15 then 32769 else 2^(15-n)
def bl(l:S I):I:=(l.map wt).sum
theorem UR(n:I):wt n≤32769:=by unfold wt;split;{omega};{split;{omega};{have:2^(15-n)≤2^15:=ZO Zb Za;omega}}
theorem H6:∀l:S I,bl l≤32769*l.length|[]=>by simp[bl]|x::l=>by have:=H6 l;have:=UR x;simp only[bl,Yt,S.sum_cons,Zw]at*;omega
theorem tS{l:S I}{k:I}(h:k<l.length):bl (l.take (k+1))=bl (l.take k)+wt l[k]:=by unfold bl;rw[Zv,ZJ,Y7,Zg h];simp only[Xg.toList,Yt,S.map_nil,S.sum_cons,S.sum_nil,Zs]
theorem Ab{l:S I}{k:I}:bl (l.take k)≤bl l:=by have:=Xx bl (Zy k l);unfold bl at this⊢;rw[ZJ,Y7]at this;omega
theorem Tm{l:S I}{x:I}(h:x∈l):wt x≤bl l:=by obtain⟨i,a,rfl⟩:=ZR h;have:=tS a;have:=Ab (l:=l) (k:=i+1);omega
def used(l:S I):S I:=(Zq l.length).filter λs=>decide (0<l.getD s 0)
def wg(l:S I)(i:H):H:=(l.getD i.toNat 0:H)
def cB(l c:S I):Prop:=c.Perm (used l)∧c.Pairwise λa b=>l.getD a 0<l.getD b 0∨(l.getD a 0=l.getD b 0∧a<b)
end
end Go.Srt
namespace Go.Proofs.Q9
section
open Go Go.Vc Go.Srt
section
variable{E w:G}{F:S HP}
theorem Qz{n:I}{K:H→G→Prop}(d:K (wt n:H) w):Cl Zf [kI] 167 ⟨[.int .u8 (n:H)]⟩ w K:=by refine Gw.ok _ _ _ ?_;unfold wt at d;refine aa.mk (λh=>?_) λh=>aa.mk (λc=>?_) λc=>⟨Za,?_⟩;{grind};{grind};{have h:n≠0:=by{have:=Xj h;omega};have c:¬n>15:=by{have:=Xj c;omega};rw[y h,y c]at d;have e:=bT (k:=.i64) (a:=32768) (b:=n) (by have:Xt.bits .i64=64:=Z;omega);rw[show(32768:H)=((32768:I):H)from Z,e];have:32768/2^n=2^(15-n):=by{have f:(2:I)^15=32768:=by{decide};have g:=I.pow_sub_mul_pow 2 (show n≤15 by omega);rw[f]at g;exact I.div_eq_of_eq_mul_left (Yb n) g.symm};rw[this];exact d}
theorem yc{l:S I}{K:H→G→Prop}(h:Hp E w F)(g:l.length=258)(q:∀w',Hp E w' F→K (bl l:H) w'):Cl Zf [kI] 114 ⟨[.agg (ai .u8 l)]⟩ w K:=by refine Ku.ok _ _ _ ?_;refine Nw.mk h λb r d=>Ld.arr d (by rw[aW,g]) ?_;have t:=H6 l;refine⟨λf i w'=>∃k:I,i=(k:H)∧k≤258∧f=(bl (l.take k):H)∧Hp E w' F,λ_ i _=>258-i.toNat,⟨0,Z,Za,by simp[bl],d.drop⟩,?_⟩;intro f i w' j;obtain⟨k,m,u,n,o⟩:=j;subst m;subst n;refine aa.mk (λa=>?_) λp=>?_;{have a:k<258:=by{have:=Xk a;omega};have c:k<l.length:=by{omega};refine eA.rd (s:=.int .u8) Za Za (l[k]:H) (by rw[Zj];exact gH c) (Qz ?_);have e:=tS c;have:=Ab (l:=l) (k:=k+1);rw[ae (x:=(bl (l.take k):H)+(wt l[k]:H)) Za,ae Za];exact⟨⟨k+1,Z,Za,by rw[e];rfl,o⟩,by dsimp only;omega⟩};{grind}
theorem Uf{l:S I}{K:Xf→G→Prop}(h:Hp E w F)(a:l.length=258)(d:∀w',Hp E w' F→K (XC (bl l≤32768)) w'):Cl Zf [kB] 202 ⟨[.agg (ai .u8 l)]⟩ w K:=by refine IC.ok _ _ _ ?_;refine Nw.mk h λb f c=>Ld.arr c (by rw[aW,a]) (yc c a λg e=>?_);have:XC ((bl l:H)≤32768)=XC (bl l≤32768):=by{rw[YI];simp;omega};rw[this];exact d _ e.drop
theorem vU{l:S I}{K:Xf→G→Prop}(h:Hp E w F)(a:l.length=258)(d:∀w',Hp E w' F→K (XC (bl l≤32768)) w'):Cl Zf [kB] 148 ⟨[.agg (ai .u8 l)]⟩ w K:=by refine yE.ok _ _ _ ?_;exact Nw.mk h λb f c=>Ld.arr c (by rw[aW,a]) (Uf c a λg e=>d _ e.drop)
theorem P5{x y:H}{K:H→G→Prop}(a:∀z:H,(z<0↔x<y)→K z w):Cl Zf [kI] 204 ⟨[.int .u8 x,.int .u8 y]⟩ w K:=by refine uM.ok _ _ _ _ ?_;refine oy.ok _ _ _ (oy.ok _ _ _ ?_);refine aa.f Zd (aa.f Zd (aa.mk (λh=>a _ ?_) λh=>aa.mk (λb=>a _ ?_) λb=>a _ ?_));{grind};{have:=Xj h;omega};{have:=Xj h;omega}
theorem Ta{l:S I}{b:I}{t:Xl}(m:l.length=258):uA E (af b (.cells (ai .u8 l) t (0,0))::F) (.func (.func 203) ⟨[]⟩ ⟨[.pointer (O ⟨b,0,V⟩)]⟩) (wg l) (λx=>0≤x∧x<258):=by rintro A w y x K h ⟨e,n⟩ ⟨f,o⟩ i;refine c6.mk Zc ?_;refine uK.ok y x ⟨b,0,V⟩ K w ?_;have p:=h.perm ZY;have a:x.toNat<l.length:=Za;have c:y.toNat<l.length:=Za;refine aJ.mk h λj g=>?_;have d:=g.perm ZY;refine aK.rd (s:=.int .u8) d f Za (l[y.toNat]:H) (gH c) ?_;refine aK.rd (s:=.int .u8) d e Za (l[x.toNat]:H) (gH a) ?_;refine P5 λz k=>i z j ?_ g;rw[k];unfold wg;rw[Zl,Zl,Zg a,Zg c];rfl
theorem jZ:cH Zf 44 3 1 8:=cH.of Zc Zc
def gh(l:S I)(k:I):S I:=(Zq k).filter λs=>decide (0<l.getD s 0)
theorem lD{l:S I}{k:I}:gh l (k+1)=gh l k++if 0<l.getD k 0 then[k]else[]:=by unfold gh;rw[Y8,S.filter_append];congr 1;by_cases h:0<l.getD k 0;{grind};{grind}
theorem yF{z:H}:∀y∈[vI z],aC y=U:=by intro y a;have:y=vI z:=by{simpa using a};rw[this];rfl
theorem mv(l:S I)(k:I):(gh l k).length≤k:=by have:=S.length_filter_le (λs=>decide (0<l.getD s 0)) (Zq k);simpa[gh]using this
def ints(l:S I):S H:=l.map λ(x:I)=>(x:H)
theorem CE{a b:S I}:ints (a++b)=ints a++ints b:=ZJ
theorem PT{l:S I}{K:Sl→G→Prop}(h:Hp E w F)(g:l.length=258)(u:¬bl l≤32768→∀w',Hp E w' F→K ⟨V,0,0⟩ w')(v:bl l≤32768→∀ys s w',cB l ys→Hp E w' (ah 1 s ((ints ys).map vI)::F)→K s w'):Cl Zf [kS] 149 ⟨[.agg (ai .u8 l)]⟩ w K:=by refine wP.ok _ _ _ ?_;refine Nw.mk h λb w1 B=>Ld.arr B (by rw[aW,g]) (vU B g λN z=>?_);refine aa.mk (λr=>u Ze N z.drop) λr=>?_;have r:bl l≤32768:=by{simpa using r};refine Ld.arr z (by rw[aW,g]) ?_;refine⟨λo i w'=>∃k:I,i=(k:H)∧k≤258∧Hp E w' (ah 1 o ((ints (gh l k)).map vI)::af b (.cells (ai .u8 l) 50 (0,0))::F),λ_ i _=>258-i.toNat,⟨0,rfl,Za,z.aZ 1⟩,?_⟩;intro o i w' P;obtain⟨k,Q,hk,t⟩:=P;subst Q;refine aa.mk (λj=>?_) λf=>?_;{have j:k<258:=by{have:=Xk j;omega};have m:k<l.length:=by{omega};have C:l.getD k 0=l[k]:=by{rw[Zl,Zg m];rfl};refine eA.rd (s:=.int .u8) Za Za (l[k]:H) (by rw[Zj];exact gH m) ?_;refine aa.mk (λc=>?_) λc=>?_;{have c:0<l[k]:=by{have:=Xk c;omega};refine Nw.mk t λR L p=>?_;have T:=t.aL;have hu:=mv l k;simp only[Zm,ints,Zt]at T;refine aS (ys:=[vI (k:H)]) (n:=1) jZ Zb (.inl ⟨3,Zc⟩) p.p1 (.inl ⟨O ⟨R,0,V⟩,1,1,rfl,rfl,p.ao (ad.ay rfl rfl)⟩) rfl yF Za Za λs' w4 W X=>?_;rw[ae Za];refine⟨⟨k+1,rfl,Za,?_⟩,by dsimp only;omega⟩;rw[lD,C,Xh c,CE,ZJ];exact W.p1.drop};{have c:¬0<l[k]:=by{have:=Xj c;omega};rw[ae Za];refine⟨⟨k+1,rfl,Za,?_⟩,by dsimp only;omega⟩;rw[lD,C,Xv c,ZF];exact t}};{have f:k=258:=by{have:=Xj f;omega};subst f;have A:∀x∈gh l 258,x<258:=λx q=>by{have:=(List.mem_filter.1 q).1;simpa using this};refine tY (key:=wg l) (D:=λx=>0≤x∧x<258) t (by have:=mv l 258;rw[ax];simp only[ints,Zm];omega) (Ta g) (λx q=>?_) ?_ λys L c M p=>?_;{obtain⟨y,Y,rfl⟩:=List.mem_map.1 q;have:=A y Y;omega};{unfold ints;refine S.Pairwise.map _ (λa b d=>Int.ofNat_lt.2 d) ?_;exact S.Pairwise.filter _ S.pairwise_lt_range};{have hU:gh l 258=used l:=by{unfold gh used;rw[g]};rw[hU]at c;have e:ys=ints (ys.map H.toNat):=by{unfold ints;rw[YF];refine(S.map_id ys).symm.trans (ZU λx q=>?_);obtain⟨y,_,rfl⟩:=List.mem_map.1 (c.mem_iff.1 q);simp};have pN:(ys.map H.toNat).Perm (used l):=by{have:=c.map H.toNat;refine this.trans ?_;unfold ints;rw[YF];refine S.Perm.of_eq ((ZU λx _=>?_).trans (S.map_id _));simp};rw[e]at p M;refine v r (ys.map H.toNat) _ L ⟨pN,?_⟩ p.p1.drop;refine(List.pairwise_map.1 M).imp λ{a b} d=>?_;unfold Ky wg at d;simp only[Zj]at d;omega}}
end
end
section
open Go Go.Vc Go.Pol Go.Srt
section
variable{E w:G}{F:S HP}
end
set_option maxRecDepth 100000
section
variable{E w:G}{F:S HP}
def Pz(a:I):Prop:=∀{E w:G}{F:S HP}{n:H}{side mode:I}{K:Sl→H→G→Prop},Hp E w F→(∀m:I,n=(m:H)→oG m side mode→∀s w',Hp E w' (ah 1 s ((ints (layout m side mode)).map vI)::F)→K s 0 w')→(¬(0≤n∧oG n.toNat side mode)→∀w',Hp E w' F→K ⟨V,0,0⟩ 2 w')→Cl Zf [kS,kI] a ⟨[.int .i64 n,.int .u8 (side:H),.int .u8 (mode:H)]⟩ w K
theorem ib.Vy{P:Xi}{s:Sem Q}{w:G}{K:Q→Xf→G→Prop}(x:Q)(b:Xf)(h:s.run P w=.ok (.tuple #[x,.bool b]) w)(a:K x b w):ib P s [kV,kB] w K:=by unfold ib;rw[h];exact a
theorem P8(w:G):(XD 212).run Zf w=.ok .nilFunc w:=Zc
theorem ll{b:I}{l:S I}{t:Xl}{vs:S Q}(h:Hp E w (af b (.cells ⟨vs⟩ t (0,0))::F))(a:vs=(ints l).map vI):Hp E w (ah 1 ⟨O ⟨b,0,V⟩,vs.length,vs.length⟩ ((ints l).map vI)::F):=by subst a;exact h.kr (sz:=1) Zd
theorem RF{j m:I}{K:Sl→G→Prop}(g:j<6)(h:Hp E w F)(n:1≤m)(i:m≤65536)(c:∀s w',Hp E w' (ah 1 s ((ints (layout m (j/3+1) (j%3+1))).map vI)::F)→K s w'):c6 Zf (vP j) [kS] [.int .i64 (m:H)] w K:=by have l:YA .i64=9223372036854775807:=Z;have d:aI .i64 (m:H) 13=((m/8192:I):H):=bT (k:=.i64) (a:=m) (b:=13) Zb;have f:aI .i64 (m:H) 10=((m/1024:I):H):=bT (k:=.i64) (a:=m) (b:=10) Zb;match j,g with|0,_=>refine c6.mk Zc (nN.ok _ _ _ (Nw.mk h λb w h=>c _ _ (ll h ?_)));simp[layout,ints,vI]|1,_=>refine c6.mk Zc (nN.ok _ _ _ (Nw.mk h λb w h=>c _ _ (ll h ?_)));simp[layout,ints,vI]|2,_=>refine c6.mk Zc (vM.ok _ _ _ (Nw.mk h λb w h=>c _ _ (ll h ?_)));have e:(i64 (4*(if(1024:H)<i64 ((m:H)+1)then(1024:H)else i64 ((m:H)+1))))=((4*XL (m+1) 1024:I):H):=by{rw[ae (x:=(m:H)+1) Za,ae Ze];split<;>omega};simp only[layout,ints,vI,ni];rw[e];rfl|3,_=>refine c6.mk Zc (vN.ok _ _ _ ⟨Zb,Nw.mk h λb w h=>c _ _ (ll h ?_)⟩);rw[d,ae Za];rfl|4,_=>refine c6.mk Zc (vq.ok _ _ _ ⟨Zb,Nw.mk h λb w h=>c _ _ (ll h ?_)⟩);rw[f,ae Za];rfl|5,_=>refine c6.mk Zc (wA.ok _ _ _ (Nw.mk h λb w h=>c _ _ (ll h ?_)));rw[ae (x:=(m:H)+1) Za,ae Za];rfl
theorem Va:∀i,i<6→63/2^i%2=1:=Zb
theorem Ps{j:I}(a:j<6):vn j=(((j/3+1:I):H),((j%3+1:I):H)):=by match j,a with|0,_=>rfl|1,_=>rfl|2,_=>rfl|3,_=>rfl|4,_=>rfl|5,_=>rfl
theorem B0:Pz 68:=by intro E w F n side mode K h d b;refine BF.ok _ _ _ _ _ (JY h λm l w x h=>?_);have c:=yf (ke:=nw) (ve:=λv:Q=>v) EX Sy (a:=((side:H),(mode:H))) P8 h;by_cases hs:(side=1∨side=2)∧1≤mode∧mode≤3;{obtain⟨j,o,rfl,rfl⟩:∃j,j<6∧side=j/3+1∧mode=j%3+1:=⟨3*(side-1)+(mode-1),Za,Za,Za⟩;have p:=x.has j o;rw[Xh (Va j o),Ps o]at p;obtain⟨q,r,u⟩:=Option.map_eq_some_iff.1 p;rw[r]at c;refine ib.Vy _ _ c (aa.f rfl ?_);dsimp only;rw[u];refine aa.dm (λy=>b (λg=>by have:=g.2.2.2.2.1;omega) _ h.drop) λz=>aa.dm (λA=>b (λg=>by have:=g.2.2.2.2.2;omega) _ h.drop) λB=>?_;obtain⟨k,rfl⟩:∃k:I,n=(k:H):=⟨n.toNat,Za⟩;exact RF o h Za Za λs w h=>d k rfl ⟨hs.1,hs.2.1,hs.2.2,Za,Za⟩ s w (h.no 1)};{have p:=x.no ((side:H),(mode:H)) (λi C e=>by rw[Ps C]at e;injection e with D G;exact hs ⟨Za,Za,Za⟩);have r:findAt ((side:H),(mode:H)) l 0=V:=by{grind};rw[r]at c;exact ib.Vy _ _ c (aa.t rfl (b (λg=>hs ⟨g.2.1,g.2.2.1,g.2.2.2.1⟩) _ h.drop))}
end
end
end Go.Proofs.Q9
namespace Go.Pol
section
def eM(a n:H)(side:I):I×I:=if¬(1≤n∧n≤65536)∨¬(1≤a∧a≤1048576)then(0,2)else if aY a.toNat n.toNat side=0 then(0,230)else(aY a.toNat n.toNat side,0)
theorem Q8{n side mode:I}(h:n≤65536):bz n side mode≤400000:=by unfold bz layout;split;{split<;>simp<;>omega};{grind}
def Ey(mode:I):I:=if mode=1 then 8192 else if mode=2 then 1024 else 1
def bound(n mode:I):I:=8300+15*(n+1)+(2*n+1)*XL n (Ey mode)
end
end Go.Pol
namespace Go.Proofs.Q9
section
open Go Go.Vc Go.Pol Go.Srt
section
variable{E w:G}{F:S HP}
end
set_option maxRecDepth 100000
section
variable{E w:G}{F:S HP}
def RV(a:I):Prop:=∀{E w:G}{F:S HP}{n:H}{side mode:I}{K:H→H→G→Prop},Hp E w F→(∀m:I,n=(m:H)→oG m side mode→∀w',Hp E w' F→K (bz m side mode:H) 0 w')→(¬(0≤n∧oG n.toNat side mode)→∀w',Hp E w' F→K 0 2 w')→Cl Zf [kI,kI] a ⟨[.int .i64 n,.int .u8 (side:H),.int .u8 (mode:H)]⟩ w K
theorem wm{l:S I}{k:I}(a:k<l.length):(l.take (k+1)).sum=(l.take k).sum+l[k]:=by rw[Zv,Y7,Zg a];simp
theorem lC(l:S I)(k:I):(l.take k).sum≤l.sum:=by have:=Xx S.sum (Zy k l);rw[Y7]at this;omega
theorem UB{t:XK}(y:Pz t){n:H}{side mode:XK}{K:H→H→G→Prop}(h:Hp E w F)(c:∀m:XK,n=(m:H)→oG m side mode→∀w',Hp E w' F→K (bz m side mode:H) 0 w')(d:¬(0≤n∧oG n.toNat side mode)→∀w',Hp E w' F→K 0 2 w'):Cl Zf [kS,kI] t ⟨[.int .i64 n,.int .u8 (side:H),.int .u8 (mode:H)]⟩ w λ(s:Sl)(e:H) w=>de 0 0 w λI m(a:H)(i:H) w=>aa (XC (i<(s.len:H))) (au s i 1 λq=>Ld kI q w λ(x:H)=>I (i64 (a+x)) (i64 (i+1)) w∧m (i64 (a+x)) (i64 (i+1)) w<m a i w) (K a e w):=by refine y h (λm z u s w h=>?_) λj w h=>?_;{have f:=Q8 (side:=side) (mode:=mode) u.2.2.2.2;unfold bz at f;have b:=h.aL;rw[Zm,Zt,show(ints (layout m side mode)).length=(layout m side mode).length from Zm ..]at b;have o:(layout m side mode).length≤3:=by{unfold layout;split<;>(try split)<;>(try split)<;>simp};generalize A:layout m side mode=l at f h b o;refine⟨λa i w=>∃k:XK,i=(k:H)∧k≤l.length∧a=((l.take k).sum:H)∧Hp E w (ah 1 s ((ints l).map vI)::F),λ_ i _=>l.length-i.toNat,⟨0,Z,Za,Zd,h⟩,?_⟩;rintro a i w ⟨k,rfl,hk,rfl,h⟩;have B:=lC l k;refine aa.dm (λg=>?_) λC=>?_;{have g:k<l.length:=by{omega};have p:=wm g;have v:=lC l (k+1);refine au.rd (h.ao ad.own) Za Za λq _ D=>?_;refine Ld.sc (s:=.int .i64) (l[k]:H) (by rw[D];simp[Sc.enc,vI,ints]) ?_;rw[ae Za,ae Za];exact⟨⟨k+1,Za,Za,by rw[p];omega,h⟩,by first|omega|(dsimp only;omega)⟩};{have r:k=l.length:=by{omega};subst r;rw[Zp (ZA _)];have:=c m z u w h.drop;unfold bz at this;rw[A]at this;exact this}};{exact⟨λa i w=>a=0∧i=0∧Hp E w F,λ_ _ _=>0,⟨Z,Z,h⟩,λa i w⟨L,M,h⟩=>by subst L;subst M;exact aa.df Zb (d j _ h)⟩}
theorem Es:RV 33:=by intro E w F n side mode K h a b;exact F3.ok _ _ _ _ _ (UB B0 h a b)
theorem Ry{n:H}{side:I}{K:H→H→G→Prop}(h:Hp E w F)(a:∀m:I,n=(m:H)→oG m side 1→∀w',Hp E w' F→K (bz m side 1:H) 0 w')(b:¬(0≤n∧oG n.toNat side 1)→∀w',Hp E w' F→K 0 2 w'):Cl Zf [kI,kI] 30 ⟨[.int .i64 n,.int .u8 (side:H)]⟩ w K:=DT.ok _ _ _ _ (Es (mode:=1) h a b)
theorem LO{a n:H}{side:I}{K:H→H→G→Prop}(h:Hp E w F)(r:side=1∨side=2)(d:∀w',Hp E w' F→K ((eM a n side).1:H) ((eM a n side).2:H) w'):Cl Zf [aq .u8,kI] 66 ⟨[.int .i64 a,.int .i64 n,.int .u8 (side:H)]⟩ w K:=by refine Gu.ok _ _ _ _ _ (vi (λs=>∀(m:I) w,n=(m:H)→oG m side 1→(1≤a∧a≤1048576)→Hp E w F→s w) ?_ λs q=>?_);{rintro m w rfl c ⟨hb1,hb2⟩ h;obtain⟨b,rfl⟩:∃b:I,a=(b:H):=⟨a.toNat,Za⟩;have u:eM (b:H) (m:H) side=if aY b m side=0 then(0,230)else(aY b m side,0):=by{have:=c.2.2.2;unfold eM;rw[y Za];rfl};rw[u]at d;have p:∀mode,1≤mode→mode≤3→oG m side mode:=λmode l o=>⟨r,l,o,c.2.2.2.1,c.2.2.2.2⟩;refine⟨λmode w=>∃k:I,mode=(k:H)∧k≤3∧(∀j,k<j→j≤3→b<bz m side j)∧Hp E w F,λmode _=>mode.toNat,⟨3,rfl,Za,λj l o=>Za,h⟩,?_⟩;rintro mode w ⟨k,rfl,hk,hlo,h⟩;refine aa.dm (λt=>?_) λB=>?_;{refine Es h (λv e _ w h=>?_) λf=>Xr ⟨Za,p k Za hk⟩ f;obtain rfl:m=v:=by{omega};refine aa.dm (λx=>?_) λz=>?_;{have g:aY b m side=k:=by{unfold aY;have:k=1∨k=2∨k=3:=by{omega};(rcases this with rfl|rfl|rfl);{grind};{grind};{rw[Xh Za]}};rw[g,y Za]at d;exact d w h};{obtain⟨i,rfl⟩:∃i,k=i+1:=⟨k-1,Za⟩;rw[kh Za];refine⟨⟨i,Za,Za,λj l o=>?_,h⟩,by first|omega|(dsimp only;omega)⟩;by_cases e:j=i+1;{subst e;omega};{grind}}};{obtain rfl:k=0:=by{omega};have g:aY b m side=0:=by{unfold aY;have l:=hlo 1 Za Za;have o:=hlo 2 Za Za;have C:=hlo 3 Za Za;rw[y Za,y Za,y Za]};rw[g,Xh rfl]at d;exact d w h}};{refine Ry h (λm A c w h=>?_) λf w h=>?_;{refine aa.nf rfl (aa.dm (λl=>?_) λl=>aa.dm (λo=>?_) λo=>q m w A c Za h);{have:=d w h;rw[show eM a n side=(0,2) by unfold eM;rw[Xh Za]]at this;exact this};{have:=d w h;rw[show eM a n side=(0,2) by unfold eM;rw[Xh Za]]at this;exact this}};{refine aa.nt Zb ?_;have:=d w h;rw[show eM a n side=(0,2) by unfold eM;rw[Xh];refine .inl λD=>f ⟨Za,r,Za,Za,Za,Za⟩]at this;exact this}}
end
end
end Go.Proofs.Q9
namespace Go.Crc
section
def half(c:I):I:=(c/2)^^^(if c%2=1 then 3988292384 else 0)
def row(c:I):I:=half (half (half (half (half (half (half (half c)))))))
def step(c b:I):I:=row ((c%256)^^^b)^^^(c/256)
def feed(c:I)(b:S I):I:=b.foldl step c
def bH(b:S I):I:=feed 4294967295 b^^^4294967295
theorem gS{c:I}(h:c<4294967296):half c<4294967296:=by unfold half;exact YY (n:=32) Za Ze
theorem KX{c:I}(h:c<4294967296):row c<4294967296:=gS (gS (gS (gS (gS (gS (gS (gS h)))))))
theorem Hu{c b:I}(h:c<4294967296)(a:b<256):step c b<4294967296:=by unfold step;have d:(c%256)^^^b<256:=YY (n:=8) Za a;exact YY (n:=32) (KX Za) Za
theorem uo:∀(b:S I)(c:I),c<4294967296→(∀x∈b,x<256)→feed c b<4294967296|[],_,h,_=>h|x::b,c,h,hb=>by rw[feed,S.foldl_cons];exact uo b _ (Hu h (hb x ZW)) λy a=>hb y (ZC _ a)
theorem DN(a b:S I)(c:I):feed c (a++b)=feed (feed c a) b:=S.foldl_append
theorem jo{b:S I}(a:∀x∈b,x<256):bH b<4294967296:=YY (n:=32) (uo b _ Zb a) Zb
end
end Go.Crc
namespace Go.Vc
section
open Go
def jC(f:I→I)(L i:I):I→I:=λj=>if j<L∧(j<i∨L≤j+i)then f (L-1-j)else f j
theorem KU(f:I→I)(L:I):jC f L 0=f:=by funext j;unfold jC;rw[y Za]
theorem JP{f:I→I}{L i k:I}(e:i+k+1=L)(a:i<k):dG (dG (jC f L i) i (jC f L i k)) k (jC f L i i)=jC f L (i+1):=by funext j;have c:jC f L i k=f k:=by{unfold jC;rw[y Za]};have d:jC f L i i=f i:=by{unfold jC;rw[y Za]};rw[c,d];simp only[dG,jC];by_cases h1:j=k;{grind};{grind}
theorem NP{f:I→I}{L i:I}(h:L≤2*i+1):br (jC f L i) 0 L=(br f 0 L).reverse:=by apply Yh;{rw[ZQ,bC,bC]};{intro j a c;rw[bC]at a;rw[dP a,S.getElem_reverse];simp only[bC];rw[dP Za];simp only[jC,Zk];by_cases h3:j<L∧(j<i∨L≤j+i);{rw[Xh h3]};{grind}}
end
end Go.Vc
namespace Go.Pol
section
def ko(n mode:I):S (I×I):=cj 0 (layout n 1 mode)
theorem Mw{n mode:I}:∃r,ko n mode=(0,n)::r:=by unfold ko layout;rw[Xh Z];split<;>exact⟨_,Z⟩
end
end Go.Pol
namespace Go.Proofs.Q9
section
open Go Go.Vc Go.Bw Go.Pol Go.Srt
structure EC where
 n:I
 mode:I
 A:AS
 held:S I
 all:S I
 begun:Xf
 closed:Xf
structure kH (C:EC):Prop where
 n1:1≤C.n
 n2:C.n≤65536
 m1:1≤C.mode
 m3:C.mode≤3
 live:bz C.n 1 C.mode=C.A.live
 len:C.held.length≤C.n
 hb:∀x∈C.held,x<256
 ab:∀x∈C.all,x<256
def dn(p:I×I):S Q:=[.int .i64 (p.1:H),.int .i64 (p.2:H)]
theorem c9(p:I×I):(dn p).length=2:=Z
abbrev iQ(b:I)(C:EC)(sp:Sl):HP:=af b (.cells ⟨[.int .i64 (C.n:H),.int .i64 (C.held.length:H),.int .u8 (C.mode:H),pA C.A,.slice sp.base sp.len sp.cap,.int .u32 (Crc.bH C.held:H),.int .u32 (Crc.bH C.all:H),.bool C.begun,.bool C.closed]⟩ 145 (0,0))
abbrev iw(C:EC)(sp:Sl):HP:=ah 2 sp ((ko C.n C.mode).flatMap dn)
abbrev pE(b:I):Q:=.pointer (O ⟨b,0,V⟩)
section
variable{E w:G}{F:S HP}{b:I}{C:EC}{sp:Sl}{f:I→I}
theorem ED{a:S (I×I)}{i:I}{G:S HP}{K:H×H×Unit→Prop}(h:Hp E w G)(d:ad G (aD 2 sp (a.flatMap dn)))(e:i<a.length)(g:K ((a[i].1:H),(a[i].2:H),())):au sp (i:H) 2 λq=>Ld (.st [.int .i64,.int .i64]) q w K:=by refine au.el c9 Zb (h.ao d) Z e λp k=>Ld.st (ks:=[.int .i64,.int .i64]) ((a[i].1:H),(a[i].2:H),()) (λj c=>?_) g;have c:j<2:=c;rw[k j c];match j,c with|0,_=>rfl|1,_=>rfl
theorem Hl{i:I}{K:H×H×Unit→G→Prop}(h:Hp E w (iQ b C sp::iw C sp::F))(a:i<(ko C.n C.mode).length)(c:∀w',Hp E w' (iQ b C sp::iw C sp::F)→K ((((ko C.n C.mode)[i]).1:H),(C.held.length:H),()) w'):Cl Zf [.st [.int .i64,.int .i64]] 213 ⟨[pE b,.int .i64 (i:H)]⟩ w K:=by refine qH.ok _ _ _ _ ?_;refine Nw.mk h λd w h=>aJ.mk h λw h=>?_;(try simp only[aw,ak,Zk]);refine Ld.xb (b:=b) (x:=sp) h Z ?_;refine au.el c9 Zb (h.ao (ad.at 2 ad.own)) Z a λp e=>?_;refine Ld.sc (s:=.int .i64) (((ko C.n C.mode)[i]).1:H) (by have:=e 0 Zb;simpa[dn,Sc.enc]using this) ?_;refine Ld.xb (b:=b) h Z ?_;(with_reducible refine an.xw h Z Z λw h=>?_);exact Ld.xt (b:=d) h Z (c w (h.no 0))
theorem Je{n mode:I}:∃h:0<(ko n mode).length,(ko n mode)[0]=(0,n):=by obtain⟨r,e⟩:=Mw (n:=n) (mode:=mode);exact⟨by rw[e];simp,by simp[e]⟩
theorem kH.B5(a:kH C):C.n≤C.A.live:=by rw[←a.live];unfold bz layout;rw[Xh Z];split<;>simp
theorem Q5{K:G→Prop}(m:kH C)(h:Hp E w (iQ b C sp::iw C sp::Ar C.A f::F))(v:∀g w',br g 0 C.held.length=(br f 0 C.held.length).reverse→Hp E w' (iQ b C sp::iw C sp::Ar C.A g::F)→K w'):Cl Zf [] 178 ⟨[pE b]⟩ w K:=by refine qR.ok _ _ _ ?_;have y:=m.n2;have c:=m.len;have o:=m.B5;obtain⟨z,B⟩:=Je (n:=C.n) (mode:=C.mode);(try simp only[aw,ak,Zk]);refine Ld.xb (b:=b) (x:=sp) h rfl ?_;refine ED (i:=0) h (ad.at 1 ad.own) z ?_;rw[B];refine Nw.mk h λe w h=>?_;(with_reducible refine an.xw h rfl rfl λw h=>?_);refine aJ.mk h λw h=>?_;(skip);refine Ld.xb (b:=b) h rfl ?_;rw[ae Za];generalize u:C.held.length=L at c;have D:=u;refine⟨λi k w=>∃d:I,i=(d:H)∧k=(L:H)-1-(d:H)∧2*d≤L+1∧Hp E w (Ar C.A (jC f L d)::af e (.cells ⟨[.int .i64 ((0:I):H),.int .i64 (C.n:H)]⟩ 150 (0,0))::iQ b C sp::iw C sp::F),λi _ _=>L-i.toNat,⟨0,rfl,Za,Za,by rw[KU];exact h.at 3⟩,?_⟩;rintro i k w ⟨d,rfl,rfl,hd,h⟩;refine aa.dm (λM=>?_) λN=>?_;{obtain⟨k,P⟩:∃k:I,(L:H)-1-(d:H)=(k:H):=⟨L-1-d,Za⟩;rw[P];have r:d+k+1=L:=by{omega};have s:d<k:=by{omega};obtain⟨l,_⟩:=Ar.cE h;refine aJ.mk h λw h=>?_;(try simp only[]);refine Ld.xb (b:=b) h rfl (Ld.xt (b:=e) h rfl ?_);refine iB (p:=0) (q:=C.n) h Za (λj Q t w h=>?_) λa=>Xr ⟨Za,Za⟩ a;obtain rfl:d=j:=by{omega};refine aJ.mk h λw h=>?_;(try simp only[Zk]);refine Ld.xb (b:=b) h rfl (Ld.xt (b:=e) h rfl ?_);refine iB (p:=0) (q:=C.n) h Za (λj Q t w h=>?_) λa=>Xr ⟨Za,Za⟩ a;obtain rfl:k=j:=by{omega};refine aJ.mk h λw h=>?_;(try simp only[Zk]);refine Ld.xb (b:=b) h rfl (Ld.xt (b:=e) h rfl ?_);refine lA (p:=0) (q:=C.n) h Za Za (l.byt _) λw h=>?_;refine aJ.mk h λw h=>?_;(skip);refine Ld.xb (b:=b) h rfl (Ld.xt (b:=e) h rfl ?_);refine lA (p:=0) (q:=C.n) h Za Za (l.byt _) λw h=>?_;rw[ae Za,ae Za];refine⟨⟨d+1,Za,Za,Za,?_⟩,by first|omega|(dsimp only;omega)⟩;simp only[Zk]at h;rw[JP r s]at h;exact h};{refine v (jC f L d) w (by rw[u];exact NP Za) ?_;exact(((h.no 1).at 2).at 2)}
theorem NW{K:H×H×Unit→H→G→Prop}(a:kH C)(r:1≤C.held.length)(h:Hp E w (iQ b C sp::iw C sp::Ar C.A f::F))(k:∀g w',br g 0 C.held.length=aQ (br f 0 C.held.length)→Hp E w' (iQ b C sp::iw C sp::Ar C.A g::F)→K (((0:I):H),(C.held.length:H),()) (bh (br f 0 C.held.length):H) w'):Cl Zf [.st [.int .i64,.int .i64],kI] 176 ⟨[pE b]⟩ w K:=by refine pz.ok _ _ _ ?_;have l:=a.n2;have d:=a.len;have c:=a.B5;obtain⟨e,j⟩:=Je (n:=C.n) (mode:=C.mode);refine Nw.mk h λm w h=>?_;have h:=h.drew (n:=w.drawn+1);(try simp only[aw,ak,Zk]);refine⟨bK b _ _ (0,0),h.hb,aA.xb (λ_ h=>h) Z ?_⟩;refine Hl (i:=0) ((h.at 2).at 2) e λw h=>⟨h.hb,?_⟩;rw[j];refine NN (p:=0) (q:=C.held.length) (h.at 3) Za Za Za λg s w o _ h=>⟨h.hb,?_⟩;refine Hl (i:=0) ((h.at 2).at 2) e λw h=>?_;rw[j];(with_reducible refine an.xw h Z Z λw h=>?_);exact Ld.xt (b:=m) h Z (k g w o (h.no 3))
theorem zt{a:XG (I×I)}{i:I}{S:G→Prop}{K:H×H×Unit→Prop}(h:aD 2 sp (a.flatMap dn) w)(l:∀w',S w'→aD 2 sp (a.flatMap dn) w')(m:i<a.length)(n:K ((a[i].1:H),(a[i].2:H),())):au sp (i:H) 2 λq=>aA (.st [.int .i64,.int .i64]) q S K:=by have o:=h.1;rw[ck c9]at o;obtain⟨p,k,_⟩:=h.2 0 (by rw[ck c9];omega);refine au.mk k Za Za (ye (ks:=[.int .i64,.int .i64]) ((a[i].1:H),(a[i].2:H),()) (λw' r j c=>?_) n);have c:j<2:=c;have s:=l w' r;obtain⟨d,g,t⟩:=s.2 (i*2+j) (by rw[ck c9];omega);obtain rfl:d=p:=Xg.some.inj (g.symm.trans k);rw[Zk,Zj,show(d.add (i*2)).add j=d.add (i*2+j) by unfold Zo;by_cases e1:i*2=0<;>by_cases e2:j=0<;>simp[e1,e2,Yl],t];have e:=fW c9 a i j m c;rw[Zg (by rw[ck c9];omega)]at e;rw[e];have:j=0∨j=1:=Za;rcases this with rfl|rfl<;>rfl
end
def tX:Prop:=∀{E w:G}{F:S HP}{b:I}{C:EC}{sp:Sl}{f:I→I}{K:H×H×Unit→H→G→Prop},kH C→1≤C.held.length→C.mode=3→Hp E w (iQ b C sp::iw C sp::Ar C.A f::F)→(∀g w',br g C.n C.held.length=aQ (br f 0 C.held.length)→Hp E w' (iQ b C sp::iw C sp::Ar C.A g::F)→K ((C.n:H),(C.held.length:H),()) (bh (br f 0 C.held.length):H) w')→Cl Zf [.st [.int .i64,.int .i64],kI] 177 ⟨[pE b]⟩ w K
end
section
open Go Go.Vc
set_option maxRecDepth 100000
theorem Jm.ok(a:Sl)(R:Sl→G→Prop) w(h:Cl Pg [(.arr 257)] 94 ⟨[]⟩ w λc b=>Cl Pg [(.arr 257),kS,kI] 93 ⟨[(.agg c),(aj a)]⟩ b λe(f:Sl)(g:H) d=>Nw 175 ⟨Zi 256 (.int .u8 0)++[(ni 0)]⟩ d λi h=>ar 257 ⟨i,0,V⟩ e h λj=>Ld (.arr 257) ⟨i,0,V⟩ j λk=>Cl Pg [kS,kI] 95 ⟨[(.agg k)]⟩ j λ(m:Sl)(n:H) l=>av Pg (ZB #[44,44] 44 ⟨[(aj f),(aj m)]⟩) kS l λ(p:Sl) o=>R p o):Cl Pg [kS] 41 ⟨[(aj a)]⟩ w R:=co Tryz.f41 [] h
theorem F6.ok(a:(Xe Q))(b:Sl)(R:(Xe Q)→Sl→H→G→Prop) w(h:Nw 175 a w λd c=>Nw 175 ⟨Zi 256 (.int .u8 0)++[(ni 0)]⟩ c λf e=>ba (λ(r:G)=>de (⟨V,0,0⟩:Sl) 0 r λs t(u:Sl)(v:H) x=>aa (K (v<(b.len:H))) (au b v 1 λy=>Ld (aq .u8) y x λ(z:H)=>Ld (.arr 256) (Zo ⟨d,0,V⟩ 0) x λI=>Cl Pg [(.arr 256),kI] 142 ⟨[(.agg I),(.int .u8 z)]⟩ x λL(B:H) M=>ar 256 (Zo ⟨d,0,V⟩ 0) L M λA=>aa (B==0) (Ld kI (Zo ⟨d,0,V⟩ 256) A λ(N:H)=>St (Zo ⟨d,0,V⟩ 256) (ni (i64 (N+1))) A λC=>s u (i64 (v+1)) C∧t u (i64 (v+1)) C<t u v x) (Ld kI (Zo ⟨d,0,V⟩ 256) A λ(P:H)=>Cl Pg [kS,kI] 143 ⟨[(ni P)]⟩ A λ(S:Sl)(k1:H) T=>av Pg (ZB #[44,44] 44 ⟨[(aj u),(aj S)]⟩) kS T λ(W:Sl) X=>Nw 3 ⟨[(ni (i64 (B+1)))]⟩ X λY n1=>av Pg (ZB #[44,44] 44 ⟨[(aj W),(aj (⟨O ⟨Y,0,V⟩,1,1⟩:Sl))]⟩) kS n1 λ(D:Sl) p1=>St (Zo ⟨d,0,V⟩ 256) (ni 0) p1 λE=>s D (i64 (v+1)) E∧t D (i64 (v+1)) E<t u v x)) (Ld (.arr 257) ⟨d,0,V⟩ x λs1=>ar 257 ⟨f,0,V⟩ s1 x λF=>Ld (.arr 257) ⟨f,0,V⟩ F λu1=>R u1 u 0 F)) λg=>Ld (.arr 257) ⟨d,0,V⟩ e λh=>Cl Pg [kB] 141 ⟨[(.agg h)]⟩ e λ(j:Xf) i=>aa (! j) (Ld (.arr 257) ⟨d,0,V⟩ i λk=>ar 257 ⟨f,0,V⟩ k i λl=>Ld (.arr 257) ⟨f,0,V⟩ l λm=>R m (⟨V,0,0⟩:Sl) 2 l) (Ld kI (Zo ⟨d,0,V⟩ 256) i λ(n:H)=>aa (K ((b.len:H)>(i64 ((2147483647:H)-n)))) (Ld (.arr 257) ⟨d,0,V⟩ i λo=>ar 257 ⟨f,0,V⟩ o i λp=>Ld (.arr 257) ⟨f,0,V⟩ p λq=>R q (⟨V,0,0⟩:Sl) 2 p) (g i))):Cl Pg [(.arr 257),kS,kI] 93 ⟨[(.agg a),(aj b)]⟩ w R:=co Tryz.f93 [(2,[]),(14,[(7,kS),(27,kI)])] h
theorem Is.ok(R:(Xe Q)→G→Prop) w(h:Nw 175 ⟨Zi 256 (.int .u8 0)++[(ni 0)]⟩ w λb a=>Cl Pg [(.arr 256)] 144 ⟨[]⟩ a λd c=>cR Pg 175 [(0,(.agg d))] λe=>ar 257 ⟨b,0,V⟩ e c λf=>Ld (.arr 257) ⟨b,0,V⟩ f λg=>R g f):Cl Pg [(.arr 257)] 94 ⟨[]⟩ w R:=co Tryz.f94 [] h
theorem Jx.ok(a:(Xe Q))(R:Sl→H→G→Prop) w(h:Nw 175 a w λc b=>Ld (.arr 257) ⟨c,0,V⟩ b λd=>Cl Pg [kB] 141 ⟨[(.agg d)]⟩ b λ(f:Xf) e=>aa (! f) (R (⟨V,0,0⟩:Sl) 2 e) (Ld kI (Zo ⟨c,0,V⟩ 256) e λ(g:H)=>Cl Pg [kS,kI] 143 ⟨[(ni g)]⟩ e λ(i:Sl)(j:H) h=>Nw 3 ⟨[(ni 257)]⟩ h λl k=>av Pg (ZB #[44,44] 44 ⟨[(aj i),(aj (⟨O ⟨l,0,V⟩,1,1⟩:Sl))]⟩) kS k λ(n:Sl) m=>R n 0 m)):Cl Pg [kS,kI] 95 ⟨[(.agg a)]⟩ w R:=co Tryz.f95 [] h
theorem FB.ok(a:(Xe Q))(R:Xf→G→Prop) w(h:Nw 175 a w λc b=>cJ b λd e=>aA (.arr 257) ⟨c,0,V⟩ d λf=>Cl Pg [(.arr 257)] 94 ⟨[]⟩ e λh g=>d g∧sK Pg 175 f h λi=>aa i (R U g) (aA kI (Zo ⟨c,0,V⟩ 256) d λ(j:H)=>aa (K (j≥0)) (aA kI (Zo ⟨c,0,V⟩ 256) d λ(k:H)=>aa (K (k≤2147483647)) (aA (.arr 256) (Zo ⟨c,0,V⟩ 0) d λl=>Cl Pg [kB] 197 ⟨[(.agg l)]⟩ g λ(n:Xf) m=>d m∧R n m) (R J g)) (R J g))):Cl Pg [kB] 141 ⟨[(.agg a)]⟩ w R:=co Tryz.f141 [] h
theorem Rl.ok(a:(Xe Q))(b:H)(R:(Xe Q)→H→G→Prop) w(h:Nw 173 a w λd c=>Nw 173 ⟨Zi 256 (.int .u8 0)⟩ c λf e=>bG (⟨O ⟨d,0,V⟩,256,256⟩:Sl) 0 256 256 1 λg=>Cl Pg [kI] 198 ⟨[(aj g),(.int .u8 b)]⟩ e λ(i:H) h=>Ld (.arr 256) ⟨d,0,V⟩ h λj=>Cl Pg [(.arr 256),(aq .u8),kB] 199 ⟨[(.agg j),(ni i)]⟩ h λl(m:H)(n:Xf) k=>ar 256 ⟨f,0,V⟩ l k λo=>Ld (.arr 256) ⟨f,0,V⟩ o λp=>ar 256 ⟨f,0,V⟩ p o λq=>Ld (.arr 256) ⟨f,0,V⟩ q λr=>R r i q):Cl Pg [(.arr 256),kI] 142 ⟨[(.agg a),(.int .u8 b)]⟩ w R:=co Tryz.f142 [] h
theorem Ra.ok(R:(Xe Q)→G→Prop) w(h:Nw 173 ⟨Zi 256 (.int .u8 0)⟩ w λb a=>da 0 a λc d(e:H) f=>aa (K (e<256)) (aK ⟨b,0,V⟩ 256 e 1 λg=>St g (.int .u8 (u8 e)) f λh=>c (i64 (e+1)) h∧d (i64 (e+1)) h<d e f) (Ld (.arr 256) ⟨b,0,V⟩ f λi=>ar 256 ⟨b,0,V⟩ i f λj=>Ld (.arr 256) ⟨b,0,V⟩ j λk=>R k j)):Cl Pg [(.arr 256)] 144 ⟨[]⟩ w R:=co Tryz.f144 [(5,[(2,kI)])] h
theorem J6.ok(a:(Xe Q))(R:Xf→G→Prop) w(h:Nw 173 a w λc b=>Nw 336 ⟨Zi 256 (ni 0)⟩ b λe d=>Ld (.arr 256) ⟨c,0,V⟩ d λf=>da 0 d λg h(i:H) j=>aa (K (i<256)) (eA (.int .u8) f 256 i λ(k:H)=>aK ⟨e,0,V⟩ 256 k 1 λl=>St l (ni 1) j λm=>g (i64 (i+1)) m∧h (i64 (i+1)) m<h i j) (cJ j λn o=>aA (.arr 256) ⟨e,0,V⟩ n λp=>Cl Pg [(.arr 256)] 229 ⟨[]⟩ o λr q=>n q∧xO .i64 256 p r λs=>R s q)):Cl Pg [kB] 197 ⟨[(.agg a)]⟩ w R:=co Tryz.f197 [(7,[(7,kI)])] h
theorem NH.ok(a:(Xe Q))(b:H)(R:(Xe Q)→H→Xf→G→Prop) w(h:Nw 173 a w λd c=>Nw 173 ⟨Zi 256 (.int .u8 0)⟩ c λf e=>aa (K (b<0)) (Ld (.arr 256) ⟨d,0,V⟩ e λg=>ar 256 ⟨f,0,V⟩ g e λh=>Ld (.arr 256) ⟨f,0,V⟩ h λi=>R i 0 J h) (aa (K (b≥256)) (Ld (.arr 256) ⟨d,0,V⟩ e λj=>ar 256 ⟨f,0,V⟩ j e λk=>Ld (.arr 256) ⟨f,0,V⟩ k λl=>R l 0 J k) (aJ e λm=>Ld (.arr 256) ⟨d,0,V⟩ m λn=>aK ⟨d,0,V⟩ 256 b 1 λo=>Ld (aq .u8) o m λ(p:H)=>ar 256 ⟨f,0,V⟩ n m λq=>aJ q λr=>bG (⟨O ⟨f,0,V⟩,256,256⟩:Sl) 1 (i64 (b+1)) 256 1 λs=>bG (⟨O ⟨d,0,V⟩,256,256⟩:Sl) 0 b 256 1 λt=>av Pg (Xu.copy_ #[25,25] 3 ⟨[(aj s),(aj t)]⟩) kI r λ(v:H) u=>aK ⟨f,0,V⟩ 256 0 1 λx=>St x (.int .u8 p) u λy=>Ld (.arr 256) ⟨f,0,V⟩ y λz=>ar 256 ⟨f,0,V⟩ z y λA=>Ld (.arr 256) ⟨f,0,V⟩ A λB=>R B p U A))):Cl Pg [(.arr 256),(aq .u8),kB] 199 ⟨[(.agg a),(ni b)]⟩ w R:=co Tryz.f199 [] h
theorem M8.ok(R:(Xe Q)→G→Prop) w(h:Nw 336 ⟨Zi 256 (ni 0)⟩ w λb a=>da 0 a λc d(e:H) f=>aa (K (e<256)) (aK ⟨b,0,V⟩ 256 e 1 λg=>St g (ni 1) f λh=>c (i64 (e+1)) h∧d (i64 (e+1)) h<d e f) (Ld (.arr 256) ⟨b,0,V⟩ f λi=>ar 256 ⟨b,0,V⟩ i f λj=>Ld (.arr 256) ⟨b,0,V⟩ j λk=>R k j)):Cl Pg [(.arr 256)] 229 ⟨[]⟩ w R:=co Tryz.f229 [(5,[(2,kI)])] h
theorem yY.ok(a:H)(R:Sl→H→G→Prop) w(h:Nw 44 ⟨[(.slice V 0 0)]⟩ w λc b=>aa (K (a<0)) (St ⟨c,0,V⟩ (.slice V 0 0) b λd=>Ld kS ⟨c,0,V⟩ d λ(e:Sl)=>R e 2 d) (aa (K (a>2147483647)) (St ⟨c,0,V⟩ (.slice V 0 0) b λf=>Ld kS ⟨c,0,V⟩ f λ(g:Sl)=>R g 2 f) (Cl Pg [kV] 200 ⟨[(ni a)]⟩ b λi h=>fS Pg i [kI] h (λ(j:I)(k:I→Obj)(o:H)(l:G)(m n:G→Prop)=>td j k l λp=>Ld kS ⟨c,0,V⟩ p λ(q:Sl)=>Nw 3 ⟨[(ni o)]⟩ p λs r=>av Pg (ZB #[44,44] 44 ⟨[(aj q),(aj (⟨O ⟨s,0,V⟩,1,1⟩:Sl))]⟩) kS r λ(u:Sl) t=>St ⟨c,0,V⟩ (aj u) t λv=>nR j k v m) (λx y=>Ld kS ⟨c,0,V⟩ y λ(z:Sl)=>St ⟨c,0,V⟩ (aj z) y λC=>jW (x::[]:S I) C λA=>Ld kS ⟨c,0,V⟩ A λ(D:Sl)=>R D 0 A) λE F=>jW (E::[]:S I) F λB=>Ld kS ⟨c,0,V⟩ B λ(L:Sl)=>R L 0 B))):Cl Pg [kS,kI] 143 ⟨[(ni a)]⟩ w R:=Aa Tryz.f143 (.s .o (.s (.s .o (.c (.s .o .o) .o)) (.s (.s .o (.b (.r [kI] .o (.b .o)))) (.s .o .o)))) h
theorem Ea.ok(a:H)(R:Q→G→Prop) w(h:Nw 3 ⟨[(ni a)]⟩ w λc b=>R (.func (.func 231) ⟨[]⟩ ⟨[(.pointer (O ⟨c,0,V⟩))]⟩) b):Cl Pg [kV] 200 ⟨[(ni a)]⟩ w R:=co Tryz.f200 [] h
theorem zW.ok(a:Q)(b:Xn)(R:G→Prop) w(h:∃(c:G→Prop)(d:G→I),c w∧∀(e:G),c e→Ld kI b e λ(f:H)=>aa (K (f>0)) (Ld kI b e λ(g:H)=>kT Pg a [kB] [(ni (bS .i64 (i64 (g-1)) 1))] e λ(i:Xf) h=>aa (! i) (R h) (Ld kI b h λ(j:H)=>0≤(1:H)∧St b (ni (aI .i64 (i64 (j-1)) (1:H))) h λk=>([]:S I)=([]:S I)∧c k∧d k<d e)) (R e)):Cl Pg [] 231 ⟨[a,(.pointer (O b))]⟩ w R:=Aa Tryz.f231 (.b (.l [] (.s (.s .o (.c .o .o)) (.s (.b (.s .o (.c .o .o))) .o)))) h
theorem F9.ok(a:H)(b:H)(c:H)(R:H→H→G→Prop) w(h:ba (λ(e:G)=>0≤b∧aa (K ((i64 (a+(a7 .i64 (i64 ((1:H)+c)) b)))>2147483647)) (R 0 2 e) (R (i64 (a+(a7 .i64 (i64 ((1:H)+c)) b))) 0 e)) λd=>aa (K (a<0)) (R 0 2 w) (aa (K (a>2147483647)) (R 0 2 w) (aa (K (b<0)) (R 0 2 w) (aa (K (b>30)) (R 0 2 w) (aa (c !=0) (aa (c !=1) (R 0 2 w) (d w)) (d w)))))):Cl Pg [kI,kI] 234 ⟨[(ni a),(ni b),(ni c)]⟩ w R:=co Tryz.f234 [(2,[])] h
end
end Go.Proofs.Q9
namespace Go.Sym
section
open Go.Inc
def cI(L:S I)(p:I):S I:=L.getD p 0::L.eraseIdx p
theorem xC{L:S I}{p:I}(a:p<L.length):(cI L p).Perm L:=by unfold cI;have e:L.getD p 0=L[p]:=by{simp[Z8,a]};rw[e];rw[S.eraseIdx_eq_take_drop_succ];have b:L.take p++L[p]::L.drop (p+1)=L:=by{rw[S.getElem_cons_drop,Zy]};exact List.perm_middle.symm.trans (S.Perm.of_eq b)
theorem JT{L:S I}{p:I}(a:p<L.length):(cI L p).length=L.length:=(xC a).length_eq
def bM(L:S I):Prop:=L.Perm (Zq 256)
theorem bM.len{L:S I}(h:bM L):L.length=256:=by rw[h.length_eq,Yx]
theorem bM.mem{L:S I}(h:bM L){c:I}:c∈L↔c<256:=by rw[h.mem_iff,YC]
theorem bM.nodup{L:S I}(h:bM L):L.Nodup:=h.nodup_iff.2 S.nodup_range
theorem bM.take{L:S I}(h:bM L){p:I}(a:p<256):bM (cI L p):=(xC (by rw[h.len];exact a)).trans h
theorem bM.range:bM (Zq 256):=S.Perm.refl _
theorem bM.get{L:S I}(h:bM L){p:I}(a:p<256):L.getD p 0<256:=by have b:=h.len;have:L.getD p 0=L[p]:=by{simp[Z8,b,a]};rw[this];exact h.mem.1 (Zu _)
theorem bM.idx{L:S I}(h:bM L){c:I}(b:c<256):L.idxOf c<256∧L.getD (L.idxOf c) 0=c:=by have d:=h.mem.2 b;have e:=h.len;have a:=S.idxOf_lt_length_of_mem d;refine⟨Za,?_⟩;rw[Z8,Zg a,S.getElem_idxOf a];rfl
theorem bM.yh{L:S I}(h:bM L){p:I}(a:p<256):L.idxOf (L.getD p 0)=p:=by have b:=h.len;have e:L.getD p 0=L[p]:=by{simp[Z8,b,a]};have d:=h.idx (h.get a);have c:L[L.idxOf (L.getD p 0)]' Za=L[p]:=Ze;exact(S.getElem_inj h.nodup).1 c
def cM(n:I):S I:=if _h:n=0 then[]else(n-1)%2::cM ((n-1)/2)
termination_by n
decreasing_by omega
theorem nO:cM 0=[]:=by rw[cM];simp
theorem mN{n:I}(h:0<n):cM n=(n-1)%2::cM ((n-1)/2):=by rw[cM,dif_neg Za]
theorem HT(n:I):∀d∈cM n,d<2:=by induction n using Z4 with|ind n b=>(rcases Yz n with e|e);{rw[e,nO];simp};{rw[mN e];intro d a;(rcases List.mem_cons.1 a with h|h);{omega};{grind}}
def dE:List Nat→Nat→List Nat→List Nat×List Nat×Nat
 |L,r,[]=>([],L,r)
 |L,r,c::b=>
  if L.idxOf c=0 then dE (cI L 0) (r+1) b
  else
   let x:=dE (cI L (L.idxOf c)) 0 b
   (cM r++(L.idxOf c+1)::x.1,x.2)
def cT(L:S I)(r:I)(b:S I):S I:=(dE L r b).1++cM (dE L r b).2.2++[257]
def syms(b:S I):S I:=cT (Zq 256) 0 b
theorem kD(L:S I)(r:I):cT L r []=cM r++[257]:=by simp[cT,dE]
theorem ju{L:S I}{r c:I}{b:S I}(h:L.idxOf c=0):cT L r (c::b)=cT (cI L 0) (r+1) b:=by unfold cT;rw[dE,Xh h]
theorem kQ{L:S I}{r c:I}{b:S I}(h:L.idxOf c≠0):cT L r (c::b)=cM r++(L.idxOf c+1)::cT (cI L (L.idxOf c)) 0 b:=by unfold cT;rw[dE,y h];simp
structure DS where
 L:S I
 left:I
 run:I
 digits:I
def cq(d:DS)(s:I):Xg (DS×S I×Xf):=if s<2 then if d.run+(1+s)*2^d.digits≤d.left then O (⟨d.L,d.left,d.run+(1+s)*2^d.digits,d.digits+1⟩,[],J)else V else if s=257 then if d.run=d.left then O (⟨d.L,0,0,0⟩,Zi d.run (d.L.getD 0 0),U)else V else if d.run=d.left then V else O (⟨cI d.L (s-1),d.left-(d.run+1),0,0⟩,Zi d.run (d.L.getD 0 0)++[d.L.getD (s-1) 0],J)
def jx(d:DS×S I)(s:I):rX (DS×S I) (S I) I:=match cq d.1 s with|none=>.bad 160|some (_,t,true)=>.fin (d.2++t)|some (a,t,false)=>.more (a,d.2++t)
theorem vx{d a:DS}{acc t:S I}{s:I}(h:cq d s=O (a,t,J)):jx (d,acc) s=.more (a,acc++t):=by unfold jx;rw[h]
theorem HW{d a:DS}{acc t:S I}{s:I}(h:cq d s=O (a,t,U)):jx (d,acc) s=.fin (acc++t):=by unfold jx;rw[h]
theorem Q1{d:DS}{acc:S I}{s:I}(h:cq d s=V):jx (d,acc) s=.bad 160:=by unfold jx;rw[h]
theorem Dw(L:S I)(left:I)(acc a:S I):∀(n q k:I),q+n*2^k≤left→∃b,run jx (⟨L,left,q,k⟩,acc) (cM n++a)=run jx (⟨L,left,q+n*2^k,b⟩,acc) a:=by intro n;induction n using Z4 with|ind n c=>intro q k d;(rcases Yz n with e|e);{subst e;exact⟨k,by rw[nO];simp⟩};{rw[mN e];have g:(1+(n-1)%2)*2^k+(n-1)/2*2^(k+1)=n*2^k:=by{rw[Yy,Z5 (2^k) 2,←I.mul_assoc,←YK];congr 1;omega};obtain⟨b,h⟩:=c ((n-1)/2) Za (q+(1+(n-1)%2)*2^k) (k+1) Za;refine⟨b,?_⟩;have f:cq ⟨L,left,q,k⟩ ((n-1)%2)=O (⟨L,left,q+(1+(n-1)%2)*2^k,k+1⟩,[],J):=by{unfold cq;simp only;rw[Xh Za,Xh Za]};rw[ZT,cp (vx f),ZF,h];congr 3;omega}
theorem rv{L:S I}(a:bM L){c:I}(b:c<256)(h:L.idxOf c=0):L.getD 0 0=c∧cI L 0=L:=by have:=(a.idx b).2;rw[h]at this;refine⟨this,?_⟩;unfold cI;cases L with|nil=>have:=a.len;simp at this|cons x L=>rfl
theorem tE:∀(b L:S I)(r left:I)(acc a:S I),bM L→(∀x∈b,x<256)→left=r+b.length→run jx (⟨L,left,0,0⟩,acc) (cT L r b++a)=.fin (acc++Zi r (L.getD 0 0)++b) a|[],L,r,left,acc,a,hL,_,hl=>by{rw[kD,Zn];obtain⟨e,h⟩:=Dw L left acc ([257]++a) r 0 0 (by simp at hl;omega);rw[h];have f:cq ⟨L,left,0+r*2^0,e⟩ 257=O (⟨L,0,0,0⟩,Zi r (L.getD 0 0),U):=by{unfold cq;simp only[Zk,I.pow_zero,Zt];rw[y Zb,Xh trivial,Xh (by simp at hl;omega)]};show run jx _ (257::a)=_;rw[jO (HW f)];simp}|c::b,L,r,left,acc,a,hL,hb,hl=>by have g:=hb c ZW;have d:∀x∈b,x<256:=λx i=>hb x (ZC _ i);simp only[Zw]at hl;by_cases h0:L.idxOf c=0;{obtain⟨j,k⟩:=rv hL g h0;rw[ju h0,k,tE b L (r+1) left acc a hL d Za,j,S.replicate_succ'];simp};{obtain⟨l,m⟩:=hL.idx g;rw[kQ h0,Zn];obtain⟨e,h⟩:=Dw L left acc ((L.idxOf c+1)::cT (cI L (L.idxOf c)) 0 b++a) r 0 0 Za;rw[h];have f:cq ⟨L,left,0+r*2^0,e⟩ (L.idxOf c+1)=O (⟨cI L (L.idxOf c),left-(r+1),0,0⟩,Zi r (L.getD 0 0)++[c],J):=by{unfold cq;simp only[Zk,I.pow_zero,Zt,I.add_sub_cancel,m];rw[y Za,y Za,y Za]};rw[ZT,cp (vx f)];rw[tE b (cI L (L.idxOf c)) 0 (left-(r+1)) _ a (hL.take l) d Za];simp}
theorem Kw{b:S I}(c:∀x∈b,x<256)(a:S I):run jx (⟨Zq 256,b.length,0,0⟩,[]) (syms b++a)=.fin b a:=by unfold syms;rw[tE b _ 0 b.length [] a bM.range c Za];simp
theorem oS:∀(b L:S I)(r:I),bM L→(∀x∈b,x<256)→∀s∈cT L r b,s≤257|[],L,r,_,_=>λs a=>by rw[kD]at a;(rcases List.mem_append.1 a with h|h);{have:=HT _ s h;omega};{rw[ZI]at h;omega}|c::b,L,r,hL,hb=>λs a=>by have e:=hb c ZW;have d:∀x∈b,x<256:=λx f=>hb x (ZC _ f);obtain⟨g,_⟩:=hL.idx e;by_cases h0:L.idxOf c=0;{rw[ju h0]at a;exact oS b _ (r+1) (hL.take Zb) d s a};{rw[kQ h0]at a;(rcases List.mem_append.1 a with h|h);{have:=HT _ s h;omega};{(rcases List.mem_cons.1 h with h|h);{omega};{exact oS b _ 0 (hL.take g) d s h}}}
theorem uC{b:S I}(a:∀x∈b,x<256):∀s∈syms b,s≤257:=oS b _ 0 bM.range a
end
end Go.Sym
namespace Go.Vc
section
theorem Gh{n:I}{f:I→H}:(ed n f).toList.all aC=U:=by unfold ed;rw[S.all_map];exact List.all_eq_true.2 λ_ _=>rfl
theorem Be{n:I}:ed n (λ_=>0)=⟨Zi n (.int .i64 0)⟩:=by unfold ed;rw[S.map_const',Yx]
theorem xO.row{n:I}{f g:I→H}{K:Xf→Prop}(a:K (((Zq n).map f)==((Zq n).map g))):xO .i64 n (ed n f) (ed n g) K:=⟨(Zq n).map f,(Zq n).map g,by simp[ed],by simp[ed],Zd,Zd,a⟩
end
end Go.Vc
namespace Go.Proofs.Q9
section
open Go Go.Vc Go.Inc Go.Sym
abbrev bY(l:S I):S Q:=l.map λ(n:I)=>Yk .u8 (n:H)
theorem gU{L:S I}(h:L.length=256):(bY L).length=256:=by simp[h]
theorem ea{l:S I}:(bY l).all aC=U:=by unfold bY;rw[S.all_map];exact List.all_eq_true.2 λ_ _=>rfl
section
variable{E w:G}{F:S HP}
theorem QA:Tryz.prog.underlying 25=O (.slice 5):=Zc
theorem TZ:(Tryz.prog.info? 5).map (·.size)=O 1:=Zc
theorem Mg{K:Xe Q→G→Prop}(h:Hp E w F)(g:∀w',Hp E w' F→K ⟨bY (Zq 256)⟩ w'):Cl Zf [.arr 256] 144 ⟨[]⟩ w K:=by refine Ra.ok _ _ ?_;(skip);refine Nw.mk h λj w h=>?_;have b:∀k,k≤256→(bY (Zq k++Zi (256-k) 0)).length=256:=λk f=>by{simp;omega};refine⟨λi w'=>∃k:I,i=(k:H)∧k≤256∧Hp E w' (af j (.cells ⟨bY (Zq k++Zi (256-k) 0)⟩ 173 (0,0))::F),λi _=>256-i.toNat,⟨0,Z,Za,by have:(⟨bY (Zq 0++Zi (256-0) 0)⟩:Xe Q)=⟨Zi 256 (.int .u8 0)⟩:=by{simp};rw[this];exact h⟩,?_⟩;rintro i w ⟨k,rfl,f,h⟩;(first|refine aa.dm (λa=>?_) (λa=>?_)|refine aa.em (λa=>?_) (λa=>?_)|refine aa.nm (λa=>?_) (λa=>?_)|refine aa.mk (λa=>?_) λa=>?_);{refine⟨Za,Za,?_⟩;rw[show((k:H)).toNat*1=k by omega];(try simp only[ak,Zk]);have f:=b k Za;refine St.xb h (by simp;omega) Z λw h=>?_;rw[ae Za];refine⟨⟨k+1,Z,Za,?_⟩,Za⟩;have e:(⟨bY (Zq k++Zi (256-k) 0)⟩:Xe Q).setIfInBounds k (.int .u8 (u8 (k:H)))=⟨bY (Zq (k+1)++Zi (256-(k+1)) 0)⟩:=by{rw[kh Za];apply Xe.ext';rw[Yd];have:(bY (Zq k++Zi (256-k) 0)).set k (.int .u8 (k:H))=bY ((Zq k++Zi (256-k) 0).set k k):=by{rw[bY,bY,Xa]};rw[this,S.set_append_right _ _ Zd,Yx,I.sub_self];obtain⟨m,l⟩:∃m,256-k=m+1:=⟨255-k,Za⟩;rw[l,S.replicate_succ,S.set_cons_zero,Y8,show 256-(k+1)=m by omega];simp};rw[e]at h;exact h};{have d:k=256:=by{omega};subst d;have e:(⟨bY (Zq 256++Zi (256-256) 0)⟩:Xe Q)=⟨bY (Zq 256)⟩:=by{simp};rw[e]at h;have c:(⟨bY (Zq 256)⟩:Xe Q).size=256:=by{simp};refine Ld.xw h c ?_;refine ar.q h c c ea λw h=>?_;exact Ld.xw h c (g _ h.tl)}
theorem Uj{K:Xe Q→G→Prop}(h:Hp E w F)(c:∀w',Hp E w' F→K (ed 256 λ_=>1) w'):Cl Zf [.arr 256] 229 ⟨[]⟩ w K:=by refine M8.ok _ _ ?_;(skip);refine Nw.mk h λd w h=>?_;refine⟨λi w'=>∃k:I,i=(k:H)∧k≤256∧Hp E w' (af d (.cells (ed 256 λj=>if j<k then 1 else 0) 336 (0,0))::F),λi _=>256-i.toNat,⟨0,Z,Za,by rw[gw (g:=λ_=>0) λi _=>Zd,Be];exact h⟩,?_⟩;rintro i w ⟨k,rfl,hk,h⟩;(first|refine aa.dm (λa=>?_) (λa=>?_)|refine aa.em (λa=>?_) (λa=>?_)|refine aa.nm (λa=>?_) (λa=>?_)|refine aa.mk (λa=>?_) λa=>?_);{refine⟨Za,Za,?_⟩;rw[show((k:H)).toNat*1=k by omega];(try simp only[ak,Zk]);refine St.xb h (by rw[eh];omega) Z λw h=>?_;rw[ae Za];refine⟨⟨k+1,Z,Za,?_⟩,Za⟩;rw[qB]at h;rw[gw (g:=λj=>if j<k+1 then 1 else 0) λi _=>by by_cases h1:i=k;{subst h1;simp};{by_cases h2:i<k;{simp[h1,h2];omega};{simp[h1,h2];omega}}]at h;exact h};{have b:k=256:=by{omega};subst b;rw[gw (g:=λ_=>1) λi e=>by simp[e]]at h;refine Ld.xw h eh ?_;refine ar.q h eh eh Gh λw h=>?_;exact Ld.xw h eh (c _ h.tl)}
theorem AN{L:S I}{K:Xf→G→Prop}(h:Hp E w F)(d:bM L)(o:∀w',Hp E w' F→K U w'):Cl Zf [kB] 197 ⟨[.agg ⟨bY L⟩]⟩ w K:=by have p:=d.len;have e:∀x∈L,x<256:=λx l=>by{simpa using d.mem_iff.1 l};refine J6.ok _ _ _ ?_;(skip);have q:(⟨bY L⟩:Xe Q).size=256:=by{simp[p]};refine Nw.mk h λr w h=>Nw.mk h λm w h=>Ld.xw h q ?_;refine⟨λi w'=>∃k:I,i=(k:H)∧k≤256∧Hp E w' (af m (.cells (ed 256 λj=>if j∈L.take k then 1 else 0) 336 (0,0))::af r (.cells ⟨bY L⟩ 173 (0,0))::F),λi _=>256-i.toNat,⟨0,Z,Za,by rw[gw (g:=λ_=>0) λi _=>Zd,Be];exact h⟩,?_⟩;rintro i w ⟨k,rfl,hk,h⟩;(first|refine aa.dm (λb=>?_) (λb=>?_)|refine aa.em (λb=>?_) (λb=>?_)|refine aa.nm (λb=>?_) (λb=>?_)|refine aa.mk (λb=>?_) λb=>?_);{have c:k<L.length:=by{omega};refine eA.rd (s:=.int .u8) Za Za (L[k]:H) ?_ ?_;{simp[c]};have l:=e _ (Zu c);refine⟨Za,Za,?_⟩;rw[show((L[k]:H)).toNat*1=L[k] by omega];(try simp only[ak,Zk]);refine St.xb h (by rw[eh];omega) Z λw h=>?_;rw[ae Za];refine⟨⟨k+1,Z,Za,?_⟩,Za⟩;rw[qB]at h;rw[gw (g:=λj=>if j∈L.take (k+1)then 1 else 0) λi _=>by have a:i∈L.take (k+1)↔i∈L.take k∨i=L[k]:=by{rw[Zv,Zg c,Y9];exact or_congr Iff.rfl ZI};by_cases h1:i=L[k];{rw[Xh h1,Xh (a.2 (.inr h1))]};{rw[y h1];by_cases h2:i∈L.take k;{rw[Xh h2,Xh (a.2 (.inl h2))]};{rw[y h2,y λt=>(a.1 t).elim h2 h1]}}]at h;exact h};{have f:k=256:=by{omega};subst f;rw[gw (g:=λ_=>1) λi u=>by rw[Zp Za,Xh];exact d.mem_iff.2 (by simpa using u)]at h;have h:=h.drew (n:=w.drawn+1);refine⟨bK m _ _ _,h.hb,?_⟩;dsimp only;refine aA.xw (λ_ h=>h) eh ?_;refine Uj h λw h=>⟨h.hb,?_⟩;refine xO.row ?_;rw[beq_self_eq_true];exact o _ h.tl}
theorem ML{L:S I}{p:I}(b:L.length=256)(d:p<256):((bY L).take 1++((bY (L.take p)).take p++(bY L).drop (1+XL (bY (L.take p)).length p))).set 0 (.int .u8 (L.getD p 0:H))=bY (cI L p):=by have c:(bY (L.take p)).length=p:=by{simp;omega};rw[c,I.min_self,Zp (l:=bY (L.take p)) Za,I.add_comm 1 p];unfold cI;rw[S.eraseIdx_eq_take_drop_succ];cases L with|nil=>simp at b|cons a L=>simp[bY,S.map_take,S.map_drop]
theorem Hg{L:S I}{p:I}{K:Xe Q→H→Xf→G→Prop}(h:Hp E w F)(c:L.length=256)(g:p<256)(j:∀w',Hp E w' F→K ⟨bY (cI L p)⟩ (L.getD p 0:H) U w'):Cl Zf [.arr 256,aq .u8,kB] 199 ⟨[.agg ⟨bY L⟩,.int .i64 (p:H)]⟩ w K:=by refine NH.ok _ _ _ _ ?_;(skip);have d:(⟨bY L⟩:Xe Q).size=256:=by{simp[c]};have k:(⟨Zi 256 (.int .u8 0)⟩:Xe Q).size=256:=Zd;have l:p<L.length:=Za;refine Nw.mk h λf w h=>Nw.mk h λn w h=>?_;(with_reducible repeat first|refine aJ.mk h λw h=>?_|refine aa.no ?_);refine Ld.xw h d ?_;refine⟨Za,Za,?_⟩;rw[show((p:H)).toNat*1=p by omega];(try simp only[ak,Zk]);refine Ld.xb (x:=(L.getD p 0:H)) h ?_ ?_;{grind};refine ar.q h k d ea λw h=>aJ.mk h λw h=>?_;rw[ae Za];refine⟨Za,Za,Za,Zd,?_⟩;rw[y Zd,show(1:H).toNat*1=1 by decide,show((p:H)+1).toNat-(1:H).toNat=p by omega,show(256:H).toNat-(1:H).toNat=255 by decide];refine⟨Za,Za,Za,Zd,?_⟩;rw[y Zb,show(0:H).toNat*1=0 by decide,show((p:H)).toNat-(0:H).toNat=p by omega,show(256:H).toNat-(0:H).toNat=256 by decide];simp only[Yu,ak,Zk];have a:aD 1 ⟨O ⟨f,0,V⟩,p,256⟩ (bY (L.take p)) w:=by{refine⟨by simp;omega,λi m=>⟨⟨f,0,V⟩,Z,?_⟩⟩;rw[ak,h.fc];simp at m⊢;simp[show i<L.length by omega]};refine lS (ys:=bY (L.take p)) QA TZ h a (List.all_eq_true.1 ea) Ze λw h=>?_;refine⟨Za,Za,?_⟩;rw[show((0:H)).toNat*1=0 by decide];(try simp only[ak,Zs]);refine St.xb h (by simp;omega) Z λw h=>?_;have e:(⟨(⟨bY L⟩:Xe Q).toList.take 1++((bY (L.take p)).take p++(⟨bY L⟩:Xe Q).toList.drop (1+XL (bY (L.take p)).length p))⟩:Xe Q).setIfInBounds 0 (.int .u8 (L.getD p 0:H))=⟨bY (cI L p)⟩:=by{apply Xe.ext';rw[Yd];exact ML c g};rw[e]at h;have b:(⟨bY (cI L p)⟩:Xe Q).size=256:=Ze;refine Ld.xw h b ?_;refine ar.q h b b ea λw h=>?_;exact Ld.xw h b (j _ h.tl)
theorem S7{n a d:I}{K:H→H→G→Prop}(h:n≤65536)(c:a≤16)(i:d≤1)(j:K ((n+(1+d)*2^a:I):H) 0 w):Cl Zf [kI,kI] 234 ⟨[.int .i64 (n:H),.int .i64 (a:H),.int .i64 (d:H)]⟩ w K:=by have e:2^a≤65536:=ZO (n:=2) Zb c;have f:=Yb a;have l:(1+d)*2^a≤131072:=by{have:=I.mul_le_mul (show 1+d≤2 by omega) e;omega};refine F9.ok _ _ _ _ _ ?_;have b:0≤(a:H)∧aa (XC (i64 ((n:H)+a7 .i64 (i64 (1+(d:H))) (a:H))>2147483647)) (K 0 2 w) (K (i64 ((n:H)+a7 .i64 (i64 (1+(d:H))) (a:H))) 0 w):=by{refine⟨Za,?_⟩;have g:YA .i64=9223372036854775807:=Z;rw[ae (x:=1+(d:H)) Za,show 1+(d:H)=((1+d:I):H) by omega,cO (k:=.i64) (by have:Xt.bits .i64=64:=Z;omega) Ze,ae Za];exact aa.df Za Ze};(try simp only[bq]);refine aa.df Za (aa.df Za (aa.df Za (aa.df Za ?_)));by_cases h0:d=0;{exact aa.nf Za b};{exact aa.nt Za (aa.nf Za b)}
end
end
end Go.Proofs.Q9
namespace Go.Vc
section
open Go
def kx(b:I)(w:G):I:=match w.cell? ⟨b,0,V⟩with|some (.int _ v)=>v.toNat|_=>0
theorem k8{E w:G}{l:S HP}{b:I}{c:Xe Q}{t:Xl}{d:I×I}{a:Obj→S HP}[bL b l c t d a]{k:Xt}{v:H}(h:Hp E w l)(e:c[0]?=O (.int k v)):kx b w=v.toNat:=by unfold kx;rw[h.fc,e]
end
end Go.Vc
namespace Go.Proofs.Q9
section
open Go Go.Vc
section
variable{E w:G}{F:S HP}
abbrev bI(b:I)(n:I):HP:=af b (.cells ⟨[.int .i64 (n:H)]⟩ 3 (0,0))
abbrev mf(s:Sl):Q:=.slice s.base s.len s.cap
abbrev gu(b:I)(xs:S I):HP:=Dz (λ(_:Sl)=>True) λs=>[af b (.cells ⟨[mf s]⟩ 44 (0,0)),ah 1 s ((ints xs).map vI)]
theorem gu.shut{b:I}{s:Sl}{xs:S I}(h:Hp E w (af b (.cells ⟨[mf s]⟩ 44 (0,0))::ah 1 s ((ints xs).map vI)::F)):Hp E w (gu b xs::F):=Hp.Ft s trivial h
theorem gu.put{b d:I}{s:Sl}{xs:S I}{x:I}{i:Xl}{l:S HP}{K:G→Prop}(h:Hp E w (l++af d (.cells ⟨[.int .i64 (x:H)]⟩ i (0,0))::af b (.cells ⟨[mf s]⟩ 44 (0,0))::ah 1 s ((ints xs).map vI)::F))(m:xs.length≤1000000)(j:∀w',Hp E w' (gu b (xs++[x])::F)→K w'):av Zf (ZB #[44,44] 44 ⟨[mf s,.slice (O ⟨d,0,V⟩) 1 1]⟩) kS w λe a=>St (⟨b,0,V⟩:Xn) (mf e) a λc=>K c:=by have h:=h.qx;have f:=(h.at 2).aL;simp only[ints,Zm,Zt]at f;refine aS (ys:=[vI (x:H)]) (n:=1) jZ Zb (.inl ⟨3,Zc⟩) (h.at 2) (.inl ⟨O ⟨d,0,V⟩,1,1,Z,Z,h.ao (ad.ay Z Z)⟩) Z (by intro y g;rw[ZI]at g;rw[g];rfl) Za Za λk w' h _=>?_;refine St.xs h Z Z λw h=>j w ?_;dsimp only[bf,aB]at h;have h:=(h.no 1).p1;refine gu.shut (s:=k) ?_;rw[show(ints (xs++[x])).map vI=(ints xs).map vI++[vI (x:H)] by simp[ints]];exact h
theorem FZ{s:Sl}{b:S I}(c:aD 1 s (b.map vB) w):(Extern.Bytes.bytesOf (.slice s.base s.len s.cap)).run Zf w=.ok (strOf b) w:=by have e:=c.1;simp only[Zm,Zt]at e;cases hb:s.base with|none=>have:b=[]:=by{cases b with|nil=>rfl|cons x b=>obtain⟨p,f,_⟩:=c.2 0 Zd;rw[hb]at f;cases f};subst this;rfl|some p=>have:=Lib.run_loadBytesX (P:=Zf) w (b.map λ(x:I)=>(x:H)) p .empty (λj x a=>by rw[ZN]at a;cases hj:b[j]? with|none=>(rw[hj]at a;cases a)|some y=>rw[hj]at a;obtain rfl:=Xg.some.inj a;obtain⟨h,d⟩:=List.getElem?_eq_some_iff.1 hj;obtain⟨q,g,i⟩:=c.2 j Ze;rw[hb]at g;obtain rfl:=Xg.some.inj g;rw[i];simp[vB,d]);rw[Zm,e]at this;show(Extern.Bytes.loadBytes p s.len .empty).run Zf w=_;rw[this];congr 1;unfold strOf strOfNums Lib.bytesOf;simp[Xz.empty,Xz.emptyWithCapacity];try rfl
end
end
section
open Go Go.Vc Go.Inc Go.Sym
section
variable{E w:G}{F:S HP}
theorem UN {L:List Nat} {s:Sl} {c:Nat} {K:Int→World→Prop} (hL:bM L) (hc:c<256) (hs:aD 1 s (L.map vB) w) (hK:K (L.idxOf c:Int) w):
  Ext Tryz.prog 230 ⟨[.slice s.base s.len s.cap,.int .u8 (c:Int)]⟩ [kI] w K:=by
 have hi:=hL.idx hc
 have hll:=hL.len
 have hsz:(strOf L).size=256:=by
  have:=congrArg List.length (kl L)
  rw [List.length_map,hll] at this
  simpa using this
 have hget: ∀i,i<256→(strOf L)[i]! =UInt8.ofNat (L.getD i 0):=fun i h=>by
  have h1:=kl L
  have h2:(strOf L).data.toList[i]? =some (UInt8.ofNat (L.getD i 0)):=by grind
  have h3:i<(strOf L).size:=by omega
  rw [getElem!_pos (strOf L) i h3]
  rw [Array.getElem?_toList] at h2
  have h4:i<(strOf L).data.size:=h3
  rw [Array.getElem?_eq_getElem h4] at h2
  exact Option.some.inj h2
 have hf:(List.range (strOf L).size).find? (fun i=>(strOf L)[i]! ==UInt8.ofNat c)=some (L.idxOf c):=by
  rw [hsz,List.find?_range_eq_some]
  refine ⟨?_,List.mem_range.2 hi.1,fun j hj=> ?_⟩
  ·grind
  ·rw [hget j (by omega)]
   have hjl:=hL.get (p:=j) (by omega)
   have hne:L.getD j 0≠c:=fun e=>by
    have:=hL.yh (p:=j) (by omega)
    rw [e] at this;omega
   simp only [Bool.not_eq_true',beq_eq_false_iff_ne,ne_eq]
   intro e
   have:=congrArg UInt8.toNat e
   simp only [UInt8.toNat_ofNat'] at this
   omega
 have hr:(Extern.BytealgIndexByte.indexByte #[.slice s.base s.len s.cap,.int .u8 (c:Int)]).run Tryz.prog w= .ok (.int .i64 (L.idxOf c:Int)) w:=by
  show Sem.run _ (do
   let x←Extern.Bytes.bytesOf (.slice s.base s.len s.cap)
   let y←Extern.Bytes.asByte (.int .u8 (c:Int))
   match (List.range x.size).find? fun i=>x[i]! ==y with
   |some i=>pure (goInt i)
   |none=>pure (goInt (-1))) w=_
  have hb:(Extern.Bytes.asByte (.int .u8 (c:Int))).run Tryz.prog w= .ok (UInt8.ofNat c) w:=rfl
  simp only [Sem.run_bind,FZ hs,hb,Result.andThen_ok]
  rw [hf]
  rfl
 have hx:(callFunc 230 #[.slice s.base s.len s.cap,.int .u8 (c:Int)]).run Tryz.prog w= .ok (.value (.int .i64 (L.idxOf c:Int))) w:=by
  rw [run_callFunc_extern Tryz.func230 (by kernel_rfl) (by kernel_rfl) (by kernel_rfl) (e:=Extern.BytealgIndexByte.indexByte) (by kernel_rfl),hr];rfl
 unfold Ext
 rw [show (⟨[.slice s.base s.len s.cap,.int .u8 (c:Int)]⟩:Array Value)= #[.slice s.base s.len s.cap,.int .u8 (c:Int)] from rfl,hx]
 exact hK
theorem SR{L:S I}{c:I}{K:Xe Q→H→G→Prop}(h:Hp E w F)(b:bM L)(e:c<256)(g:∀w',Hp E w' F→K ⟨bY (cI L (L.idxOf c))⟩ (L.idxOf c:H) w'):Cl Zf [.arr 256,kI] 142 ⟨[.agg ⟨bY L⟩,.int .u8 (c:H)]⟩ w K:=by refine Rl.ok _ _ _ _ ?_;have d:=b.len;have f:=b.idx e;have i:(⟨bY L⟩:Xe Q).size=256:=by{simp[d]};have j:(⟨Zi 256 (.int .u8 0)⟩:Xe Q).size=256:=Zd;have a:(⟨bY (cI L (L.idxOf c))⟩:Xe Q).size=256:=by{simp[(b.take f.1).len]};refine Nw.mk h λk w h=>Nw.mk h λl w h=>bG.whole Zb Z Z ?_;refine yx.ok _ _ _ _ ?_;refine UN b e (s:=⟨O ⟨k,0,V⟩,256,256⟩) (h.ao (ad.cons (ad.ay (n:=256) (m:=256) (sz:=1) Z (by simp[d])))) ?_;refine Ld.xw h i ?_;refine Hg h d f.1 λw h=>?_;refine ar.q h j a ea λw h=>Ld.xw h a ?_;refine ar.q h a a ea λw h=>Ld.xw h a (g w h.tl)
theorem Js{n b:I}(q:n≤2147483647):uv Zf E (.func (.func 231) ⟨[]⟩ ⟨[.pointer (O ⟨b,0,V⟩)]⟩) (cM n).length (λi=>[Ki.enc kI (((cM n).getD i 0:I):H)]) [bI b n] (λ_=>True):=by intro r C G w K M s h u j;refine pK.mk Zc (zW.ok r ⟨b,0,V⟩ K w ?_);have h:Hp E w (bI b n::C 0):=h;refine⟨λw=>∃k m:I,m≤2147483647∧(cM n).drop k=cM m∧k≤(cM n).length∧Hp E w (bI b m::C k),λw=>kx b w,⟨0,n,q,Z,Yv _,h⟩,?_⟩;rintro w ⟨k,m,N,d,P,h⟩;refine Ld.xb (x:=(m:H)) h Z (aa.dm (λa=>?_) λy=>?_);{have c:0<m:=by{omega};rw[mN c]at d;have a:k<(cM n).length:=by{grind};have z:(cM n).getD k 0=(m-1)%2:=by{rw[Zx a]at d;injection d with e _;rw[Zl,Zg a,Xg.getD_some,e]};have l:(cM n).drop (k+1)=cM ((m-1)/2):=by{rw[←Yn,d];rfl};refine Ld.xb (x:=(m:H)) h Z ?_;have A:YA .i64=9223372036854775807:=Z;have o:i64 ((m:H)-1)=((m-1:I):H):=by{rw[ae Za];omega};have B:bS .i64 ((m-1:I):H) 1=(((m-1)%2:I):H):=by{rw[show(1:H)=((1:I):H)from Z,eC Za Za,I.and_one_is_mod]};have D:aI .i64 ((m-1:I):H) 1=(((m-1)/2:I):H):=by{rw[show(1:H)=((1:I):H)from Z,bT Zb]};rw[o,B];have L:[Yk .i64 (((m-1)%2:I):H)]=[Ki.enc kI (((cM n).getD k 0:I):H)]:=by{rw[z]};rw[L];refine s k a [bI b m] w _ (h.perm (ZY (l₁:=[bI b m]))) (λw h=>?_) λw h=>?_;{have h:Hp E w (bI b m::C (k+1)):=h.perm (ZY (l₂:=[bI b m]));refine aa.f Z (Ld.xb (x:=(m:H)) h Z ⟨Zb,?_⟩);rw[o,D];refine St.xb h Zd Z λp g=>?_;have g:Hp E p (bI b ((m-1)/2)::C (k+1)):=g;refine⟨Z,⟨k+1,(m-1)/2,Za,l,Za,g⟩,?_⟩;show kx b p<kx b _;rw[k8 (v:=(((m-1)/2:I):H)) g Z,k8 (v:=(m:H)) (by assumption) Z];omega};{exact aa.t Z (j k w a (h.perm (ZY (l₂:=[bI b m]))).drop)}};{have c:m=0:=by{omega};subst c;rw[nO]at d;have:k=(cM n).length:=by{have:=Xx S.length d;rw[ZE,Yj]at this;omega};subst this;exact u w h.drop}
theorem Kz{n:I}{K:Sl→H→G→Prop}(h:Hp E w F)(g:n≤2147483647)(q:(cM n).length≤1000000)(j:∀s w',Hp E w' (ah 1 s ((ints (cM n)).map vI)::F)→K s 0 w'):Cl Zf [kS,kI] 143 ⟨[.int .i64 (n:H)]⟩ w K:=by refine yY.ok _ _ _ ?_;refine Nw.mk h λa w h=>aa.df Za (aa.df Za ?_);refine Ea.ok _ _ _ ?_;refine Nw.mk h λb w h=>?_;have m:Hp E w (gu a []::bI b n::F):=gu.shut (s:=⟨V,0,0⟩) ((h.aZ 1).at 2);refine fS.Ow (E:=E) (k:=kI) (x:=λi=>(((cM n).getD i 0:I):H)) (n:=(cM n).length) (λi=>gu a ((cM n).take i)::F) (λ_=>[FC]) (A:=[bI b n]) m.p1 (λ_=>ad.const trivial) (Js g) ?_ ?_ ?_;{intro o c i A w r t d h f _;refine td.mk h λw h=>?_;obtain⟨s,_,h⟩:=(h.p1).ex;have h:Hp E w (af a (.cells ⟨[mf s]⟩ 44 (0,0))::ah 1 s ((ints ((cM n).take i)).map vI)::af o (c 1)::(F++A)):=h;refine Ld.xb (x:=s) h Z (Nw.mk h λp w h=>?_);refine gu.put (l:=[]) h Ze λw h=>nR.mk h.p1 λw h=>f w ?_;have e:(cM n).take i++[(cM n).getD i 0]=(cM n).take (i+1):=by{rw[Zv,Zg d,Zl,Zg d];rfl};rw[e]at h;exact h};{intro D w h;rw[Zp (ZA _)]at h;obtain⟨s,_,h⟩:=(h.p1).ex;have h:Hp E w (af a (.cells ⟨[mf s]⟩ 44 (0,0))::ah 1 s ((ints (cM n)).map vI)::af D (.deferred (O []))::F):=h;refine Ld.xb (x:=s) h Z (St.xs h Z Z λw h=>?_);dsimp only[bf,aB]at h;refine jW.xc (h.at 2) λw h=>Ld.xb (x:=s) h Z (j s w h.drop)};{intro i D w d h;exact(Hp.I2 h).elim}
end
end
end Go.Proofs.Q9
namespace Go.Vc
section
open Go
section
variable{E w:G}{F:S HP}
theorem z8{P:Xi}{t e:Xl}{n:I}{k:Xt}{g:TypeInfo}(j:P.underlying t=O (.array n e))(c:P.underlying e=O (.int k))(h:P.info? e=O g)(l:g.size=1){a b:S H}(f:a.length=n)(i:b.length=n)(D:I)(m:2≤D)(w:G):(Yc D t (.agg ⟨a.map (.int k)⟩) (.agg ⟨b.map (.int k)⟩)).run P w=.ok (a==b) w:=by obtain⟨D,rfl⟩:∃d,D=d+1+1:=⟨D-2,Za⟩;rw[run_equalIn_array w (D+1) _ _ j h,nA h,l,←f,jI c (f.trans i.symm) _ Zd,all_eq (f.trans i.symm)]
theorem mC{P:Xi}{t:Xl}{it:TypeInfo}{b:S Q}{a:I}{K:Xg Q→Prop}(c:gI P t=O U)(d:P.info? t=O it)(h:K (O (.agg ⟨(b.drop a).take it.size⟩))):fy P t b a K:=by unfold fy;rw[c,d];exact h
theorem eO{P:Xi}{t:Xl}{it:TypeInfo}{b:S Q}{a:I}{v:Q}{K:Xg Q→Prop}(c:gI P t=O J)(d:P.info? t=O it)(e:b[a]?=O v)(h:K (O v)):fy P t b a K:=by unfold fy;rw[c,d,e];exact h
end
end
end Go.Vc
namespace Go.Proofs.Q9
section
open Go Go.Vc
theorem Ht:∃a,Tryz.prog.info? 3=O a:=by have:(Tryz.prog.info? 3).isSome=U:=Zc;exact Option.isSome_iff_exists.1 this
theorem Q6:∃a,Tryz.prog.info? 50=O a∧a.size=258:=by have h:(Tryz.prog.info? 50).map (·.size)=O 258:=Zc;obtain⟨a,b,c⟩:=Option.map_eq_some_iff.1 h;exact⟨a,b,c⟩
theorem Mc:∃a,Tryz.prog.info? 5=O a∧a.size=1:=by have h:(Tryz.prog.info? 5).map (·.size)=O 1:=Zc;obtain⟨a,b,c⟩:=Option.map_eq_some_iff.1 h;exact⟨a,b,c⟩
theorem Sh:Tryz.prog.underlying 50=O (.array 258 5):=Zc
theorem Pq:Tryz.prog.underlying 5=O (.int .u8):=Zc
theorem KC:Tryz.prog.underlying 3=O (.int .i64):=Zc
end
end Go.Proofs.Q9
namespace Go.Vc
section
open Go
theorem C4{P:Xi}{E w:G}{F:S HP}{t e:Xl}{C:Xe Q}{b n c:I}{K:Sl→G→Prop}(j:P.underlying t=O (.slice e))(k:P.underlying e=O (.int .u8))(h:Hp E w (af b (.cells C e (0,0))::F))(l:∀w',Hp E w' (af b (.cells C e (C.size,C.size+1))::F)→K ⟨O ⟨b,0,V⟩,n,c⟩ w'):av P (XE t t (.slice (O ⟨b,0,V⟩) n c)) kS w K:=by have a:=h.ay;have d:b<w.heap.size:=Ze;have f:w.shape? b=O (e,C.size):=by{unfold G.shape?;rw[a]};have g:(XE t t (.slice (O ⟨b,0,V⟩) n c)).run P w=.ok (.slice (O ⟨b,0,V⟩) n c) (w.freeze ⟨b,C.size,V⟩ 1):=by{simp[XE,Xm j,Xm k,markStringish,f]};unfold av;rw[g];refine l _ (h.setObj ?_ Z Z Z);unfold G.freeze;rw[y Zb];have m:w.heap[b]=.cells C e (0,0):=by{rw[Xe.getElem?_eq_getElem d]at a;exact Xg.some.inj a};apply Xe.ext_getElem?;intro i;rw[Xe.set!_eq_setIfInBounds];by_cases hi:b=i;{grind};{grind}
section
variable{E w:G}{F:S HP}{sz:I}{s:Sl}{xs ys:S Q}
theorem Hp.ic{A:HP}{l F:S HP}[a:lZ l F](h:Hp E w (A::l)):Hp E w (A::F):=by obtain⟨p,e⟩:=a.sub;subst e;exact(h.perm List.perm_middle.symm).qx
theorem Hp.U2{A B:HP}{l F:S HP}[a:lZ l F](h:Hp E w (A::B::l)):Hp E w (A::B::F):=by obtain⟨p,e⟩:=a.sub;subst e;exact(h.perm ((S.Perm.cons A List.perm_middle.symm).trans List.perm_middle.symm)).qx
theorem rZ{P:Xi}{t p X e:Xl}{a n:I}{x:Q}{K:Sl→G→Prop}(Y:cH P t e sz a)(hx:(∃e2,P.underlying p=O (.slice e2))∨P.underlying p=O .string)(r:Hp E w F)(k:ad F (aD sz s xs))(hfit:s.cap<s.len+n)(hs:ad F (Src sz n x ys))(l:ys.length=n*sz)(hb:(2*(s.len+n)+1024)*a≤2^48)(hb2:s.len+n<2^62)(h:∀u w',Hp E w' (ah sz u (xs++ys)::F)→u.len=s.len+n→K u w'):av P (ZB #[t,p] X ⟨[.slice s.base s.len s.cap,x]⟩) kS w K:=by obtain⟨q,z,v,y,A,B,C⟩:=Y.info;obtain⟨hs1,D⟩:=(r.ao hs).run (P:=P);have b:xs.length=s.len*sz:=(r.ao k).1;have L:(sizeOf e).run P w=.ok sz w:=by{rw[cF v,y]};have d:(xs++ys).length=(s.len+n)*sz:=by{rw[Zh,b,l,YK]};have f:¬Xu.nextslicecap (s.len+n) s.cap*q.bytes>2^48:=by{have:=yP (n:=s.len+n) (c:=s.cap) Za;have h2:Xu.nextslicecap (s.len+n) s.cap*q.bytes≤(2*(s.len+n)+1024)*a:=by{rw[A];exact ZH _ this};omega};have g:¬s.len+n≤s.cap:=Za;generalize hq:Question.cut (.appendCap (s.len+n) s.cap e) (w.tape w.drawn (.appendCap (s.len+n) s.cap e))=newCap;have M:s.len+n≤newCap:=by{rw[←hq];exact I.le_add_right _ _};have N:Hp E w.drew F:=r.drew (n:=w.drawn+1);have i:(Xu.firstCells sz s.len (.slice s.base s.len s.cap)).run P w.drew=.ok xs.toArray w.drew:=by{have:Src sz s.len (.slice s.base s.len s.cap) xs w.drew:=.inl ⟨s.base,s.len,s.cap,Z,Z,N.ao k⟩;exact(this.run (P:=P)).1};have m:(Xu.firstCells sz n x).run P w.drew=.ok ys.toArray w.drew:=((N.ao hs).run (P:=P)).1;have hA:=N.alloc (.cells (xs.toArray++ys.toArray++Xu.zeroCells z.cells (newCap-(s.len+n))) e);have R:∀w:G,(XD e).run P w=.ok z w:=by{intro w;simp[XD,typeInfo,v,B]};have T:∀w:G,(typeInfo e).run P w=.ok q w:=by{intro w;simp[typeInfo,v]};have j:¬(9223372036854775807<(s.len:H)+(n:H)∧q.bytes=0):=Za;have W:Question.forced (.appendCap (s.len+n) s.cap e)=J:=Z;have o:(ZB #[t,p] X ⟨[.slice s.base s.len s.cap,x]⟩).run P w=.ok (.slice (O ⟨w.heap.size,0,V⟩) (s.len+n) newCap) (w.drew.alloc (.cells (xs.toArray++ys.toArray++Xu.zeroCells z.cells (newCap-(s.len+n))) e)):=by{(rcases hx with⟨e2,hd⟩|hd<;>simp[ZB,Xm Y.und,L,Xm hd,D,g,j,T,f,W,hq,i,m,R,newRow]);all_goals rw[←Xe.append_assoc,show xs.toArray++ys.toArray=(xs++ys).toArray by simp]};unfold av;rw[o];refine h ⟨O ⟨w.heap.size,0,V⟩,s.len+n,newCap⟩ _ (Hp.iV hA d Z M ?_ ?_) Z;{simp only[Xe.size_append,S.size_toArray,lb,C,b,l];have:newCap*sz=(s.len+n)*sz+(newCap-(s.len+n))*sz:=by{rw[←YK];congr 1;omega};rw[this,YK];omega};{grind}
end
end
end Go.Vc
namespace Go.Proofs.Q9
section
open Go Go.Vc
section
variable{E w:G}{F:S HP}
set_option maxRecDepth 200000 in
theorem rU{C:Xe Q}{b n c:I}{K:Sl→G→Prop}(h:Hp E w (af b (.cells C 5 (0,0))::F))(a:∀w',Hp E w' (af b (.cells C 5 (C.size,C.size+1))::F)→K ⟨O ⟨b,0,V⟩,n,c⟩ w'):av Zf (XE 25 25 (.slice (O ⟨b,0,V⟩) n c)) kS w K:=C4 Zc Zc h a
end
end
end Go.Proofs.Q9
namespace Go.Sym
section
theorem xW(n:I):(cM n).length≤n:=by induction n using Z4 with|ind n a=>(rcases Yz n with h|h);{rw[h,nO];exact ZA _};{rw[mN h,Zw];have:=a ((n-1)/2) Za;omega}
end
end Go.Sym
namespace Go.Proofs.Q9
section
open Go Go.Vc Go.Inc Go.Sym
abbrev kO(L:S I)(r:H):Xe Q:=⟨bY L++[.int .i64 r]⟩
theorem nL{L:S I}{r:H}(h:L.length=256):(kO L r).size=257:=by simp[h]
theorem qQ{L:S I}{r:H}:(kO L r).toList.all aC=U:=by unfold kO;rw[S.all_append,ea];rfl
section
variable{E w:G}{F:S HP}
theorem MO:(Tryz.prog.fieldsOf 175).toList.map (λf=>(f.name== "_",f.type,f.offset))=[(J,173,0),(J,3,256)]:=Zc
theorem Vp:Tryz.prog.underlying 175=O (.struct (Tryz.prog.fieldsOf 175)):=Zc
theorem QE:∃a,Tryz.prog.info? 173=O a∧a.size=256:=by have h:(Tryz.prog.info? 173).map (·.size)=O 256:=Zc;obtain⟨a,b,c⟩:=Option.map_eq_some_iff.1 h;exact⟨a,b,c⟩
theorem RX:Tryz.prog.underlying 173=O (.array 256 5):=Zc
theorem sK.es{L m:S I}{r l:H}{K:Xf→Prop}(g:L.length=256)(n:m.length=256)(B:∀b,K b):sK Zf 175 (kO L r) (kO m l) K:=by obtain⟨it,i⟩:=Ht;obtain⟨z,j,o⟩:=QE;obtain⟨M,p,q⟩:=Mc;obtain⟨e,f,s,a,c⟩:∃e f,(Tryz.prog.fieldsOf 175).toList=[e,f]∧(e.name== "_",e.type,e.offset)=(J,173,0)∧(f.name== "_",f.type,f.offset)=(J,3,256):=by{have h:=MO;generalize(Tryz.prog.fieldsOf 175).toList=fs at h;match fs,h with|[],h=>simp at h|[_],h=>simp at h|_::_::_::_,h=>simp at h|[e,f],h=>simp only[Yt,S.map_nil,S.cons.injEq,and_true]at h;exact⟨e,f,rfl,h.1,h.2⟩};simp only[YG]at a c;have A:∀{L:S I}{r:H},L.length=256→(((kO L r).toList.drop 0).take 256)=(L.map λ(x:I)=>(x:H)).map (.int .u8):=λ{L r} g=>by{unfold kO;rw[S.drop_zero,S.take_append_of_le_length (by simp[g]),Zp (by simp[g]),YF];rfl};have N:∀{L:S I}{r:H},L.length=256→(kO L r)[256]?=O (.int .i64 r):=λ{L r} g=>Ze;obtain⟨b,C,u⟩:=kN (P:=Zf) (d:=9) (rec:=λt x y K=>∃b,(∀D,9≤D→∀w,(Yc D t x y).run Zf w=.ok b w)∧K b) (λt x y K h=>h) (xs:=kO L r) (ys:=kO m l) (fs:=[e,f]) (K:=K) (by unfold jF;rw[a.1];refine mC (it:=z) (by rw[a.2.1];kernel_rfl) (by rw[a.2.1];exact j) (mC (it:=z) (by rw[a.2.1];kernel_rfl) (by rw[a.2.1];exact j) ?_);rw[a.2.2,o,a.2.1,A g,A n];refine⟨_,λD G w=>z8 RX Pq p q Ze Ze D Za w,?_⟩;unfold jF;rw[c.1];refine eO (it:=it) (v:=.int .i64 r) (by rw[c.2.1];kernel_rfl) (by rw[c.2.1];exact i) Ze (eO (it:=it) (v:=.int .i64 l) (by rw[c.2.1];kernel_rfl) (by rw[c.2.1];exact i) Ze ?_);rw[c.2.1];exact⟨r==l,λD G w=>by obtain⟨D,rfl⟩:∃k,D=k+1:=⟨D-1,Za⟩;exact run_equalIn_int w D _ _ _ _ _ KC,B _⟩);refine⟨b,λw=>?_,u⟩;rw[run_equalIn_struct w 9999 _ _ _ Vp Zc,s];exact C 9999 Zb w
abbrev VK:I→Xg (I×I):=(#[(0,256),(256,1)][·]?)
theorem NC(a:S (I×Q)):Tryz.prog.built 175 a=YB VK ⟨Zi 256 (.int .u8 0)++[.int .i64 0]⟩ a:=Zc
theorem cR.es{L:S I}{K:Xe Q→Prop}(a:L.length=256)(b:K (kO L 0)):cR Zf 175 [(0,.agg ⟨bY L⟩)] K:=by refine⟨_,?_,b⟩;rw[NC];have:=iD (place:=VK) (i:=0) (v:=.agg ⟨bY L⟩) (rest:=[]) (pre:=[]) (aN:=Zi 256 (.int .u8 0)) (post:=[.int .i64 0]) Z Z ZK (by show(⟨bY L⟩:Xe Q).size=_;simp[a]);exact this
abbrev VI:Xe Q:=⟨Zi 256 (Yk .u8 0)++[Yk .i64 0]⟩
theorem OJ:(⟨Zi 256 (.int .u8 0)++[.int .i64 0]⟩:Xe Q).size=257:=Zd
theorem HD{K:Xe Q→G→Prop}(h:Hp E w F)(b:∀w',Hp E w' F→K (kO (Zq 256) 0) w'):Cl Zf [.arr 257] 94 ⟨[]⟩ w K:=by refine Is.ok _ _ ?_;refine Nw.mk h λc w h=>Mg h λw h=>cR.es Zd ?_;have a:(kO (Zq 256) 0).size=257:=nL Zd;refine ar.q h OJ a qQ λw h=>?_;exact Ld.xw h a (b _ h.tl)
theorem z7{L:S I}{r:I}{K:Xf→G→Prop}(h:Hp E w F)(c:bM L)(f:r≤2147483647)(d:∀w',Hp E w' F→K U w'):Cl Zf [kB] 141 ⟨[.agg (kO L (r:H))]⟩ w K:=by refine FB.ok _ _ _ ?_;have a:=gU c.len;refine Nw.mk h λe w h=>?_;have h:=h.drew (n:=w.drawn+1);refine⟨bK e _ _ _,h.hb,?_⟩;refine aA.qw (λ_ h=>h) a Z ?_;refine HD h λw h=>⟨h.hb,?_⟩;refine sK.es c.len Zd λb=>?_;refine aa.mk (λ_=>d _ h.tl) λ_=>?_;(try simp only[ak,Zk,Zs]);refine aA.q (λ_ h=>h) a Z Z (aa.dt Za ?_);refine aA.q (λ_ h=>h) a Z Z (aa.dt Za ?_);refine aA.p (λ_ h=>h) a ?_;exact AN h c λw h=>⟨h.hb,d _ h.tl⟩
theorem Pa{L:S I}{r:I}{s:Sl}{b:S I}{K:Xe Q→Sl→H→G→Prop}(h:Hp E w F)(t:bM L)(C:ad F (aD 1 s (b.map vB)))(X:∀x∈b,x<256)(hr:r+b.length≤1000000)(u:∀D w',Hp E w' (ah 1 D ((ints (dE L r b).1).map vI)::F)→bM (dE L r b).2.1→(dE L r b).2.2≤1000000→K (kO (dE L r b).2.1 ((dE L r b).2.2:H)) D 0 w'):Cl Zf [.arr 257,kS,kI] 93 ⟨[.agg (kO L (r:H)),.slice s.base s.len s.cap]⟩ w K:=by refine F6.ok _ _ _ _ ?_;have l:=gU t.len;have M:b.length=s.len:=by{have:=(h.ao C).1;simpa using this};(try simp only[bq,ak,Zk,Zs]);refine Nw.mk h λz w h=>Nw.mk h λN w h=>?_;refine Ld.qw h l Z (z7 h t Za λw h=>?_);(with_reducible refine aa.DJ ?_);refine Ld.q h l Z Z ?_;rw[ae Za];refine aa.df Za ?_;refine⟨λo i w=>∃(k:I)(d:S I)(e:I)(a:S I),i=(k:H)∧k≤b.length∧bM d∧a.length+e≤r+k∧dE L r b=(a++(dE d e (b.drop k)).1,(dE d e (b.drop k)).2)∧Hp E w (ah 1 o ((ints a).map vI)::af N (.cells VI 175 (0,0))::af z (.cells (kO d (e:H)) 175 (0,0))::F),λ_ i _=>b.length-i.toNat,⟨0,L,r,[],Z,Za,t,Zd,Zd,h.aZ 1⟩,?_⟩;rintro o i w ⟨k,d,e,a,rfl,hk,hL',hlo,he,h⟩;have f:=gU hL'.len;refine aa.dm (λj=>?_) λY=>?_;{have j:k<b.length:=by{omega};have P:=X _ (Zu j);have R:=hL'.idx P;refine au.rd ((h.tl:Hp E w F).ao C) Za Za λq _ hq=>?_;refine Ld.sc (s:=.int .u8) (b[k]:H) (by rw[hq];simp[Sc.enc,vB]) ?_;refine Ld.p h f (SR h hL' P λw h=>?_);have hm:(⟨bY (cI d (d.idxOf b[k]))⟩:Xe Q).size=256:=by{simp[(hL'.take R.1).len]};have g:=hL'.take R.1;have c:=gU g.len;refine ar.xm (pre:=[]) (aN:=bY d) (post:=[.int .i64 (e:H)]) h Z Z f hm (λv hv=>List.all_eq_true.1 ea v hv) λw h=>?_;have h:Hp E w (ah 1 o ((ints a).map vI)::af N (.cells VI 175 (0,0))::af z (.cells (kO (cI d (d.idxOf b[k])) (e:H)) 175 (0,0))::F):=h;rw[Zx j]at he;rw[ae (x:=(k:H)+1) Za];by_cases h0:d.idxOf b[k]=0;{rw[dE,Xh h0]at he;rw[h0]at h g c⊢;refine aa.et Z (Ld.q h c Z Z ?_);rw[ae Za];refine St.q h c Z Z Z λw h=>?_;dsimp only[bf,aB]at h;rw[show(e:H)+1=((e+1:I):H) by omega]at h;exact⟨⟨k+1,_,e+1,a,Za,Za,g,Za,he,h⟩,by first|omega|(dsimp only;omega)⟩};{rw[dE,Xv h0]at he;refine aa.ef Za (Ld.q h c Z Z ?_);have hdl:=xW e;refine Kz h Za Za λm w h=>?_;have T:=h.aL;have l2:=(h.at 1).aL;simp only[ints,Zm,Zt]at T l2;refine aS (s:=o) (ys:=(ints (cM e)).map vI) (n:=m.len) jZ Zb (.inl ⟨3,Zc⟩) (h.at 1) (.inl ⟨m.base,m.len,m.cap,Z,Z,h.ao ad.own⟩) (by simp[ints,T]) Aq Za Za λs2 w h hl2=>?_;have h:=h.no 1;refine Nw.mk h λA w h=>?_;rw[ae Za]at h;refine aS (s:=s2) (ys:=[vI ((d.idxOf b[k]:H)+1)]) (n:=1) jZ Zb (.inl ⟨3,Zc⟩) (h.at 1) (.inl ⟨O ⟨A,0,V⟩,1,1,Z,Z,h.ao (ad.ay Z Z)⟩) Z (by intro y W;rw[ZI]at W;rw[W];rfl) Za Za λs3 w h _=>?_;have h:=h.no 1;refine St.q (b:=z) h c Z Z Z λw h=>?_;dsimp only[bf,aB]at h;refine⟨⟨k+1,_,0,a++(cM e++[d.idxOf b[k]+1]),Za,Za,g,?_,?_,?_⟩,by first|omega|(dsimp only;omega)⟩;{grind};{rw[he];simp};{rw[show(ints (a++(cM e++[d.idxOf b[k]+1]))).map vI=(ints a).map vI++(ints (cM e)).map vI++[vI ((d.idxOf b[k]:H)+1)] by simp[ints]];exact h}}};{have B:k=b.length:=by{omega};subst B;rw[ZP (ZA _),dE,ZF]at he;rw[he]at u;dsimp only at u;refine Ld.qw h f Z ?_;refine ar.q h OJ (nL hL'.len) qQ λw h=>Ld.xw h (nL hL'.len) (u o w h.ic hL' Za)}
theorem Qo{L:S I}{r:I}{K:Sl→H→G→Prop}(h:Hp E w F)(c:bM L)(l:r≤1000000)(f:∀d w',Hp E w' (ah 1 d ((ints (cM r++[257])).map vI)::F)→K d 0 w'):Cl Zf [kS,kI] 95 ⟨[.agg (kO L (r:H))]⟩ w K:=by refine Jx.ok _ _ _ ?_;have a:=gU c.len;(try simp only[ak,Zk]);refine Nw.mk h λm w h=>Ld.qw h a Z (z7 h c Za λw h=>?_);(with_reducible refine aa.DJ ?_);have g:=xW r;refine Ld.q h a Z Z (Kz h Za Za λi w h=>Nw.mk h λb w h=>?_);have j:=(h.at 1).aL;simp only[ints,Zm,Zt]at j;refine aS (s:=i) (ys:=[vI 257]) (n:=1) jZ Zb (.inl ⟨3,Zc⟩) (h.at 1) (.inl ⟨O ⟨b,0,V⟩,1,1,Z,Z,h.ao (ad.ay Z Z)⟩) Z (by intro y e;rw[ZI]at e;rw[e];rfl) Za Za λk w h _=>f k w ?_;rw[show(ints (cM r++[257])).map vI=(ints (cM r)).map vI++[vI 257] by simp[ints]];exact h.ic
theorem HA{s:Sl}{b:S I}{K:Sl→G→Prop}(h:Hp E w F)(i:ad F (aD 1 s (b.map vB)))(j:∀x∈b,x<256)(u:b.length≤1000000)(k:∀f w',Hp E w' (ah 1 f ((ints (syms b)).map vI)::F)→K f w'):Cl Zf [kS] 41 ⟨[.slice s.base s.len s.cap]⟩ w K:=by refine Jm.ok _ _ _ ?_;refine HD h λw h=>Pa (r:=0) h bM.range i j Ze λl w h a e=>Nw.mk h λv w h=>?_;refine ar.q h OJ (nL a.len) qQ λw h=>Ld.xw h (nL a.len) ?_;refine Qo h a e λd w h=>?_;have g:=h.aL;have m:=(h.at 2).aL;have y:(dE (Zq 256) 0 b).1.length+(dE (Zq 256) 0 b).2.2≤b.length:=by{have:∀(b L:S I)(r:I),(dE L r b).1.length+(dE L r b).2.2≤r+b.length:=by{intro b;induction b with|nil=>intro L r;simp[dE]|cons c b o=>intro L r;rw[dE];split;{grind};{have:=o (cI L (L.idxOf c)) 0;have:=xW r;simp only[Zh,Zw];omega}};simpa using this b (Zq 256) 0};have p:=xW (dE (Zq 256) 0 b).2.2;simp only[ints,Zm,Zt,Zh,Z6]at g m;refine aS (s:=l) (ys:=(ints (cM (dE (Zq 256) 0 b).2.2++[257])).map vI) (n:=d.len) jZ Zb (.inl ⟨3,Zc⟩) (h.at 2) (.inl ⟨d.base,d.len,d.cap,Z,Z,h.ao ad.own⟩) (by simp[ints,←g]) Aq Za Za λt w h _=>k t w ?_;rw[show(ints (syms b)).map vI=(ints (dE (Zq 256) 0 b).1).map vI++(ints (cM (dE (Zq 256) 0 b).2.2++[257])).map vI by unfold syms cT;simp[ints]];exact h.ic
end
end
section
open Go Go.Vc
set_option maxRecDepth 100000
theorem BI.ok(a:(Xg Xn))(b:(Xe Q))(c:Sl)(R:H→G→Prop) w(h:Nw 50 b w λe d=>Ld (.arr 258) ⟨e,0,V⟩ d λf=>Cl Pg [kI,kI] 97 ⟨[(.agg f),(aj c)]⟩ d λ(h:H)(i:H) g=>ba (λ(k:G)=>Ld (.arr 258) ⟨e,0,V⟩ k λl=>Cl Pg [(.arr 258),kI] 98 ⟨[(.agg l)]⟩ k λn(o:H) m=>Nw 185 ⟨Zi 258 (.int .u32 0)⟩ m λq p=>ar 258 ⟨q,0,V⟩ n p λr=>da 0 r λs t(u:H) v=>aa (K (u<(c.len:H))) (au c u 1 λx=>Ld kI x v λ(y:H)=>aJ v λz=>aK ⟨q,0,V⟩ 258 y 1 λB=>Ld (aq .u32) B z λ(C:H)=>aK ⟨e,0,V⟩ 258 y 1 λD=>Ld (aq .u8) D z λ(E:H)=>Cl Pg [kB] 96 ⟨[(.pointer a),(.int .u32 C),(ni (i64 E))]⟩ z λ(F:Xf) A=>s (i64 (u+1)) A∧t (i64 (u+1)) A<t u v) (R 0 v)) λj=>aa (ZL (a:Xg Xn)) (R 2 g) (aa (i !=0) (R 2 g) (j g))):Cl Pg [kI] 45 ⟨[(.pointer a),(.agg b),(aj c)]⟩ w R:=co Tryz.f45 [(4,[]),(14,[(32,kI)])] h
theorem zX.ok(a:(Xe Q))(b:Sl)(R:H→H→G→Prop) w(h:Nw 50 a w λd c=>Ld (.arr 258) ⟨d,0,V⟩ c λe=>Cl Pg [kB] 148 ⟨[(.agg e)]⟩ c λ(g:Xf) f=>aa (! g) (R 0 2 f) (de 0 0 f λh i(j:H)(k:H) l=>aa (K (k<(b.len:H))) (au b k 1 λm=>Ld kI m l λ(n:H)=>aa (K (n<0)) (R 0 2 l) (aa (K (n≥258)) (R 0 2 l) (aK ⟨d,0,V⟩ 258 n 1 λo=>Ld (aq .u8) o l λ(p:H)=>aa (p==0) (R 0 2 l) (aK ⟨d,0,V⟩ 258 n 1 λq=>Ld (aq .u8) q l λ(r:H)=>h (i64 (j+(i64 r))) (i64 (k+1)) l∧i (i64 (j+(i64 r))) (i64 (k+1)) l<i j k l)))) (R j 0 l))):Cl Pg [kI,kI] 97 ⟨[(.agg a),(aj b)]⟩ w R:=co Tryz.f97 [(10,[(4,kI),(13,kI)])] h
theorem BC.ok(R:(Xg Xn)→G→Prop) w(h:Nw 181 ⟨[(.slice V 0 0),(ni 0)]⟩ w λb a=>R (O ⟨b,0,V⟩) a):Cl Pg [kP] 43 ⟨[]⟩ w R:=co Tryz.f43 [] h
theorem oO.ok(a:(Xg Xn))(R:Sl→G→Prop) w(h:aa (ZL (a:Xg Xn)) (R (⟨V,0,0⟩:Sl) w) (ag a λb=>Ld kS (b.add 0) w λ(c:Sl)=>Cl Pg [kS] 99 ⟨[(aj c)]⟩ w λ(e:Sl) d=>R e d)):Cl Pg [kS] 46 ⟨[(.pointer a)]⟩ w R:=co Tryz.f46 [] h
theorem re.ok(a:(Xg Xn))(b:H)(c:H)(R:Xf→G→Prop) w(h:Nw 98 ⟨[(.pointer a)]⟩ w λe d=>Ld kP ⟨e,0,V⟩ d λf=>aa (ZL (f:Xg Xn)) (R J d) (Cl Pg [kB] 145 ⟨[(.int .u32 b),(ni c)]⟩ d λ(h:Xf) g=>aa (! h) (R J g) (Cl Pg [kV] 146 ⟨[(.int .u32 b),(ni c)]⟩ g λj i=>fS Pg j [(aq .u8)] i (λ(k:I)(l:I→Obj)(p:H)(m:G)(n o:G→Prop)=>td k l m λq=>Ld kP ⟨e,0,V⟩ q λr=>Cl Pg [] 147 ⟨[(.pointer r),(.int .u8 p)]⟩ q λs=>nR k l s n) (λt u=>jW (t::[]:S I) u λv=>R U v) λx y=>jW (x::[]:S I) y λz=>R J z))):Cl Pg [kB] 96 ⟨[(.pointer a),(.int .u32 b),(ni c)]⟩ w R:=Aa Tryz.f96 (.s .o (.s (.s .o (.c (.s .o .o) .o)) (.s (.s .o (.b (.r [(aq .u8)] .o (.b .o)))) (.s .o .o)))) h
theorem DV.ok(a:Sl)(R:Sl→G→Prop) w(h:de (⟨V,0,0⟩:Sl) 0 w λb c(d:Sl)(e:H) f=>aa (K (e<(i64 ((8:H)*(a.len:H))))) (Cl Pg [(aq .u8)] 158 ⟨[(aj a),(ni e)]⟩ f λ(h:H) g=>Nw 3 ⟨[(ni (i64 h))]⟩ g λj i=>av Pg (ZB #[44,44] 44 ⟨[(aj d),(aj (⟨O ⟨j,0,V⟩,1,1⟩:Sl))]⟩) kS i λ(l:Sl) k=>b l (i64 (e+1)) k∧c l (i64 (e+1)) k<c d e f) (R d f)):Cl Pg [kS] 103 ⟨[(aj a)]⟩ w R:=co Tryz.f103 [(5,[(2,kS),(7,kI)])] h
theorem zm.ok(a:H)(b:H)(R:Xf→G→Prop) w(h:aa (K (b≥0)) (aa (K (b≤32)) (0≤b∧R ((aI .u64 (u64 a) b)==0) w) (R J w)) (R J w)):Cl Pg [kB] 145 ⟨[(.int .u32 a),(ni b)]⟩ w R:=co Tryz.f145 [] h
theorem zq.ok(a:H)(b:H)(R:Q→G→Prop) w(h:Nw 35 ⟨[(.int .u32 a)]⟩ w λd c=>Nw 3 ⟨[(ni b)]⟩ c λf e=>R (.func (.func 201) ⟨[]⟩ ⟨[(.pointer (O ⟨f,0,V⟩)),(.pointer (O ⟨d,0,V⟩))]⟩) e):Cl Pg [kV] 146 ⟨[(.int .u32 a),(ni b)]⟩ w R:=co Tryz.f146 [] h
theorem qF.ok(a:(Xg Xn))(b:H)(R:G→Prop) w(h:ag a λc=>Ld kI (c.add 1) w λ(d:H)=>aa ((bS .i64 d 7)==0) (ag a λe=>Ld kS (e.add 0) w λ(f:Sl)=>Nw 5 ⟨[(.int .u8 0)]⟩ w λh g=>av Pg (ZB #[25,25] 25 ⟨[(aj f),(aj (⟨O ⟨h,0,V⟩,1,1⟩:Sl))]⟩) kS g λ(j:Sl) i=>ag a λk=>St (k.add 0) (aj j) i λl=>aJ l λm=>ag a λn=>Ld kS (n.add 0) m λ(o:Sl)=>ag a λp=>Ld kI (p.add 1) m λ(q:H)=>0≤(3:H)∧au o (aI .i64 q (3:H)) 1 λr=>Ld (aq .u8) r m λ(s:H)=>ag a λt=>Ld kI (t.add 1) m λ(u:H)=>0≤(i64 ((7:H)-(bS .i64 u 7)))∧au o (aI .i64 q (3:H)) 1 λv=>St v (.int .u8 (gN .u8 s (a7 .u8 b (i64 ((7:H)-(bS .i64 u 7)))))) m λx=>ag a λy=>Ld kI (y.add 1) x λ(z:H)=>ag a λF=>St (F.add 1) (ni (i64 (z+1))) x λI=>R I) (aJ w λA=>ag a λK=>Ld kS (K.add 0) A λ(B:Sl)=>ag a λL=>Ld kI (L.add 1) A λ(C:H)=>0≤(3:H)∧au B (aI .i64 C (3:H)) 1 λM=>Ld (aq .u8) M A λ(N:H)=>ag a λP=>Ld kI (P.add 1) A λ(D:H)=>0≤(i64 ((7:H)-(bS .i64 D 7)))∧au B (aI .i64 C (3:H)) 1 λQ=>St Q (.int .u8 (gN .u8 N (a7 .u8 b (i64 ((7:H)-(bS .i64 D 7)))))) A λE=>ag a λS=>Ld kI (S.add 1) E λ(T:H)=>ag a λW=>St (W.add 1) (ni (i64 (T+1))) E λX=>R X)):Cl Pg [] 147 ⟨[(.pointer a),(.int .u8 b)]⟩ w R:=co Tryz.f147 [] h
theorem BQ.ok(a:Sl)(b:H)(R:H→G→Prop) w(h:0≤(3:H)∧au a (aI .i64 b (3:H)) 1 λc=>Ld (aq .u8) c w λ(d:H)=>0≤(i64 ((7:H)-(bS .i64 b 7)))∧R (bS .u8 (aI .u8 d (i64 ((7:H)-(bS .i64 b 7)))) 1) w):Cl Pg [(aq .u8)] 158 ⟨[(aj a),(ni b)]⟩ w R:=co Tryz.f158 [] h
theorem wE.ok(a:Q)(b:Xn)(c:Xn)(R:G→Prop) w(h:Ld kI b w λ(d:H)=>∃(e:H→G→Prop)(f:H→G→I),e ((i64 (d-1))) w∧∀(g:H),∀(h:G),e g h→aa (K (g≥0)) (Ld (aq .u32) c h λ(i:H)=>0≤g∧kT Pg a [kB] [(.int .u8 (bS .u8 (u8 (aI .u32 i g)) 1))] h λ(k:Xf) j=>aa (! k) (R j) (([]:S I)=([]:S I)∧e (i64 (g-1)) j∧f (i64 (g-1)) j<f g h)) (R h)):Cl Pg [] 201 ⟨[a,(.pointer (O b)),(.pointer (O c))]⟩ w R:=Aa Tryz.f201 (.s .o (.b (.l [(4,kI)] (.s (.s .o (.c .o .o)) (.s (.b (.s .o (.c .o .o))) .o))))) h
end
end Go.Proofs.Q9
namespace Go.Srt
section
def sh(l:S I)(s:I):I:=2^(15-l.getD s 0)
def start(l a:S I)(i:I):I:=((a.take i).map (sh l)).sum
theorem rN{l a:S I}{i:I}(h:i<a.length):start l a (i+1)=start l a i+sh l a[i]:=by unfold start;rw[Zv,ZJ,Y7,Zg h];simp only[Xg.toList,Yt,S.map_nil,S.sum_cons,S.sum_nil,Zs]
theorem Dr(l:S I)(s:I):0<sh l s:=Yb _
theorem IG{l ys:S I}{i j:I}(h:i≤j):start l ys i≤start l ys j:=by unfold start;have:=Zy i (ys.take j);rw[S.take_take,YN h]at this;have a:=Xx (λb=>(b.map (sh l)).sum) this;simp only[ZJ,Y7]at a;omega
theorem eW{l:S I}{s:I}:s∈used l↔s<l.length∧0<l.getD s 0:=by unfold used;rw[S.mem_filter,YC];simp
theorem A6(l:S I):bl l=((used l).map λs=>wt (l.getD s 0)).sum:=by have a:∀k,k≤l.length→bl (l.take k)=(((Zq k).filter λs=>decide (0<l.getD s 0)).map λs=>wt (l.getD s 0)).sum:=by{intro k;induction k with|zero=>intro _;simp[bl]|succ k b=>intro c;rw[tS Za,b Za,Y8,S.filter_append,ZJ,Y7];have d:l.getD k 0=l[k]:=by{rw[Zl,Zg Za];rfl};by_cases h:0<l.getD k 0;{grind};{rw[S.filter_cons_of_neg Ze];have:l[k]=0:=by{omega};rw[this];rfl}};have:=a l.length (ZA _);rw[Yo]at this;exact this
theorem ig{l:S I}(b:bl l≤32768)(s:I):l.getD s 0≤15:=by rw[Zl];cases h:l[s]? with|none=>simp|some x=>have:=Tm (Yw h);unfold wt at this;simp only[Xg.getD_some];(rcases Z9 15 x with a|a);{grind};{exact a}
theorem KW{l a:S I}(b:bl l≤32768)(h:cB l a):start l a a.length=bl l:=by unfold start;rw[Yo,A6,(h.1.map (sh l)).sum_nat];congr 1;refine ZU λs c=>?_;have d:=(eW.1 c).2;have e:=ig b s;unfold sh wt;rw[y Za,y Za]
theorem MD{l ys:S I}(a:bl l≤32768)(h:cB l ys){i:I}(b:i≤ys.length):start l ys i≤32768:=by have:=IG (l:=l) (ys:=ys) b;rw[KW a h]at this;omega
theorem G7{l a:S I}(h:cB l a){i j:I}(b:j<a.length)(c:i≤j):l.getD (a[i]' Za) 0≤l.getD a[j] 0:=by by_cases e:i=j;{grind};{have:=(List.pairwise_iff_getElem.1 h.2) i j Za b Za;omega}
theorem AR{l a:S I}(h:cB l a){i:I}(b:i<a.length):∀k,k≤i→sh l a[i]∣start l a k|0,_=>by simp[start]|k+1,c=>by rw[rN Za];refine I.dvd_add (AR h b k Za) ?_;have:=G7 h b (show k≤i by omega);unfold sh;exact I.pow_dvd_pow 2 Za
def gK(l a:S I)(i:I):I:=start l a i/sh l (a.getD i 0)
theorem uw{a:S I}{i:I}(b:i<a.length):a.getD i 0=a[i]:=Ze
theorem qI{l a:S I}(h:cB l a){i:I}(b:i<a.length):gK l a i*sh l a[i]=start l a i:=by unfold gK;rw[uw b];exact I.div_mul_cancel (AR h b i (ZA _))
theorem Mb{l:S I}(a:bl l≤32768)(s:I):2^l.getD s 0*sh l s=32768:=by unfold sh;rw[←I.pow_add,show l.getD s 0+(15-l.getD s 0)=15 by have:=ig a s;omega]
theorem Lp{l a:S I}(b:bl l≤32768)(h:cB l a){i:I}(c:i<a.length):gK l a i<2^l.getD a[i] 0:=by have g:=qI h c;have d:=MD b h (show i+1≤a.length by omega);rw[rN c]at d;have j:=Mb b a[i];have e:=Dr l a[i];have f:(gK l a i+1)*sh l a[i]≤2^l.getD a[i] 0*sh l a[i]:=by{rw[Ye];omega};exact I.le_of_mul_le_mul_right f e
def eo(l a:S I):I→S I|0=>Zi 258 0|i+1=>(eo l a i).set (a.getD i 0) (gK l a i)
theorem dZ(l a:S I):∀i,(eo l a i).length=258|0=>ZK|i+1=>by rw[eo,YH,dZ l a i]
theorem TF{l a:S I}(h:cB l a){i j:I}(c:j<a.length)(b:i<j):a[i]' Za≠a[j]:=by have:=(List.pairwise_iff_getElem.1 h.2) i j Za c b;intro e;rw[e]at this;omega
theorem xk{l a:S I}(h:cB l a)(b:∀s∈a,s<258):∀(i:I),i≤a.length→∀j(d:j<a.length),j<i→(eo l a i).getD a[j] 0=gK l a j|0,_,_,_,f=>Za|i+1,m,j,d,f=>by have c:i<a.length:=Za;rw[eo,uw c];by_cases e:j=i;{subst e;have:a[j]<(eo l a j).length:=by{rw[dZ];exact b _ (Zu d)};rw[Zl,S.getElem?_set_self this];rfl};{have g:=TF h c (show j<i by omega);rw[Zl,S.getElem?_set_ne λk=>g k.symm,←Zl];exact xk h b i Za j d Za}
def many(l:S I)(n:I):I:=if n=0 then 0 else l.count n
def fst(l:S I):I→I|0=>0|n+1=>2*(fst l n+many l n)
def low(l:S I):I→I|0=>0|n+1=>low l n+many l n*2^(15-n)
theorem zQ(l:S I):∀n,n≤15→fst l n*2^(15-n)=low l n|0,_=>by simp[fst,low]|n+1,h=>by have a:=zQ l n Za;have e:2^(15-n)=2*2^(15-(n+1)):=by{rw[show 15-n=(15-(n+1))+1 by omega,Yy,Z5]};rw[fst,low,←a,←YK,e,Z5 2 (fst l n+many l n),I.mul_assoc]
theorem GS(n:I):low [] n=0:=by induction n with|zero=>rfl|succ n a=>rw[low,a];simp[many]
theorem yR(l:S I)(x:I):∀n,low (l++[x]) n=low l n+if 0<x∧x<n then 2^(15-x)else 0|0=>by simp[low]|n+1=>by rw[low,low,yR l x n];unfold many;rw[S.count_append,S.count_singleton];by_cases h0:n=0;{subst h0;rw[Xh Z,Xh Z,y Za,y Za]};{rw[y h0,y h0];by_cases hx:x=n;{subst hx;rw[y Za,Xh Zd,Xh Za,YK];omega};{rw[y (show¬(x==n)=U by simpa using hx)];by_cases h:0<x∧x<n;{rw[Xh h,Xh Za,Zs];omega};{rw[y h,y Za,Zs,Zs,Zs]}}}
theorem Et(l:S I){n m:I}(h:n≤m):low l n≤low l m:=by induction m with|zero=>have:n=0:=Za;subst this;exact ZA _|succ m a=>by_cases e:n=m+1;{grind};{have:=a Za;rw[low];omega}
theorem RC:∀(k:I)(l:S I),l.length=k→(∀x∈l,x≤15)→low l 16=bl l:=by intro k;induction k with|zero=>intro l h _;have:l=[]:=List.length_eq_zero_iff.1 h;subst this;simp[GS,bl]|succ k c=>intro l d h;have a:l≠[]:=by{intro e;subst e;simp at d};obtain⟨b,x,rfl⟩:∃b x,l=b++[x]:=⟨l.dropLast,l.getLast a,(S.dropLast_concat_getLast a).symm⟩;rw[yR,c b Ze λy f=>h y (by simp[f])];unfold bl;rw[ZJ,Y7];unfold wt;by_cases h0:x=0;{grind};{grind}
theorem Pt{l:S I}(a:bl l≤32768):low l 16=bl l:=RC _ l rfl λx b=>by obtain⟨i,c,rfl⟩:=ZR b;have:=ig a i;rwa [Zl,Zg c]at this
def iA(l:S I)(s:I):I:=(l.take s).count (l.getD s 0)
def code(l:S I)(s:I):I:=fst l (l.getD s 0)+iA l s
def pos(l:S I)(s:I):I:=low l (l.getD s 0)+iA l s*2^(15-l.getD s 0)
theorem qK{l:S I}(a:bl l≤32768)(s:I):code l s*2^(15-l.getD s 0)=pos l s:=by unfold code pos;rw[YK,zQ l _ (ig a s)]
theorem dO{l:S I}{i:I}(h:i<l.length):l.getD i 0=l[i]:=by rw[Zl,Zg h];rfl
theorem jy(l:S I)(k x:I):(l.take k).count x≤l.count x:=(S.take_sublist k l).count_le x
theorem ey{l:S I}{k:I}(h:k<l.length)(x:I):(l.take (k+1)).count x=(l.take k).count x+if l[k]=x then 1 else 0:=by rw[Zv,Zg h,S.count_append];simp only[Xg.toList,S.count_singleton,XA]
theorem oF{l:S I}{i j:I}(h:i≤j)(x:I):(l.take i).count x≤(l.take j).count x:=by have:(l.take i)=(l.take j).take i:=by{rw[S.take_take,YN h]};rw[this];exact jy _ _ _
theorem HL{l:S I}{s:I}(a:s<l.length)(c:0<l.getD s 0):iA l s<many l (l.getD s 0):=by unfold iA many;rw[y Za];have b:=ey a (l.getD s 0);rw[dO a,Xh Z]at b;have d:=jy l (s+1) (l[s]);rw[dO a];omega
theorem EW{l:S I}{s:I}(a:s<l.length)(b:0<l.getD s 0):pos l s+2^(15-l.getD s 0)≤low l (l.getD s 0+1):=by have:=HL a b;unfold pos;rw[low,Yl,←Ye];exact I.add_le_add_left (ZH _ this) _
theorem ow{l:S I}{s t:I}(b:s<l.length)(g:t<l.length)(c:0<l.getD s 0)(d:s≠t)(h:l.getD s 0<l.getD t 0∨(l.getD s 0=l.getD t 0∧s<t)):pos l s+2^(15-l.getD s 0)≤pos l t:=by(rcases h with h|⟨h,e⟩);{have a:=EW b c;have f:=Et l (show l.getD s 0+1≤l.getD t 0 by omega);unfold pos at a⊢;omega};{have a:=ey b (l.getD t 0);rw[Xh Ze]at a;have f:=oF (l:=l) (show s+1≤t by omega) (l.getD t 0);unfold pos iA;rw[h,Yl,←Ye];exact I.add_le_add_left (ZH _ Za) _}
theorem Ov{l:S I}{s t x:I}(a:s<l.length)(b:t<l.length)(c:0<l.getD s 0)(d:0<l.getD t 0)(j:pos l s≤x)(f:x<pos l s+2^(15-l.getD s 0))(k:pos l t≤x)(g:x<pos l t+2^(15-l.getD t 0)):s=t:=by by_cases e:s=t;{exact e};{(rcases I.lt_trichotomy (l.getD s 0) (l.getD t 0)with h|h|h);{have:=ow a b c e (.inl h);omega};{(rcases Z9 s t with i|i);{have:=ow a b c e (.inr ⟨h,i⟩);omega};{have:=ow b a d (Ne.symm e) (.inr ⟨h.symm,Za⟩);omega}};{have:=ow b a d (Ne.symm e) (.inl h);omega}}
theorem QM(l:S I)(n:I):∀p,p<l.count n→∃s,s<l.length∧l.getD s 0=n∧iA l s=p:=by intro p d;have a:∀k,k≤l.length→p<(l.take k).count n→∃s,s<k∧l.getD s 0=n∧iA l s=p:=by{intro k;induction k with|zero=>intro _ h;simp at h|succ k e=>intro f h;by_cases b:p<(l.take k).count n;{grind};{have c:=ey (l:=l) (k:=k) Za n;by_cases h4:l[k]=n;{rw[Xh h4]at c;refine⟨k,Za,by rw[dO Za,h4],?_⟩;unfold iA;rw[dO Za,h4];omega};{grind}}};obtain⟨s,g,b⟩:=a l.length (ZA _) Ze;exact⟨s,Za,b⟩
theorem Eu{l:S I}{s t:I}(c:s<l.length)(d:t<l.length)(h:l.getD s 0=l.getD t 0)(a:iA l s=iA l t):s=t:=by have b:∀{s t:I},s<l.length→t<l.length→l.getD s 0=l.getD t 0→iA l s=iA l t→¬s<t:=by{intro s t c d h a f;have e:=ey c (l.getD t 0);rw[Xh Ze]at e;have g:=oF (l:=l) (show s+1≤t by omega) (l.getD t 0);unfold iA at a;rw[h]at a;omega};have e:=b c d h a;have g:=b d c h.symm a.symm;omega
def H4(l:S I)(n s t:I):Xf:=K (0<l.getD t 0)&&K (l.getD t 0<n∨(l.getD t 0=n∧t<s))
theorem wU(l:S I)(n s:I)(j:0<n):∀k,k≤l.length→(((Zq k).filter (H4 l n s)).map (sh l)).sum=low (l.take k) n+((l.take k).take s).count n*2^(15-n)|0,_=>by simp[GS]|k+1,p=>by have c:k<l.length:=Za;rw[Y8,S.filter_append,ZJ,Y7,wU l n s j k Za];have m:l.take (k+1)=l.take k++[l[k]]:=by{rw[Zv,Zg c];rfl};rw[m,yR];have d:=dO c;have e:(l.take k).length=k:=by{simp;omega};have g:0<l[k]→(l[k]<n∨(l[k]=n∧k<s))→H4 l n s k=U:=λa b=>by{unfold H4;rw[d,ZM,XB,XB];exact⟨a,b⟩};have f:¬(0<l[k]∧(l[k]<n∨(l[k]=n∧k<s)))→¬H4 l n s k=U:=λh=>by{unfold H4;rw[d,ZM,XB,XB];exact h};by_cases hks:k<s;{have i:(l.take k++[l[k]]).take s=l.take k++[l[k]]:=Zp (by rw[Zh,e];simp;omega);have o:(l.take k).take s=l.take k:=Zp Za;rw[i,o,S.count_append,S.count_singleton];by_cases a:0<l[k]∧l[k]<n;{rw[S.filter_cons_of_pos (g a.1 (.inl a.2)),Xh a,y (by rw[XA];omega)];simp only[S.filter_nil,Yt,S.map_nil,S.sum_cons,S.sum_nil,sh,d,Zs];omega};{rw[y a];by_cases b:l[k]=n;{rw[S.filter_cons_of_pos (g Za (.inr ⟨b,hks⟩)),Xh (by simpa using b),YK];simp only[S.filter_nil,Yt,S.map_nil,S.sum_cons,S.sum_nil,sh,d,b];omega};{rw[S.filter_cons_of_neg (f Za),y (by simpa using b)];simp}}};{have i:(l.take k++[l[k]]).take s=(l.take k).take s:=by{rw[S.take_append_of_le_length Za]};rw[i];by_cases a:0<l[k]∧l[k]<n;{rw[S.filter_cons_of_pos (g a.1 (.inl a.2)),Xh a];simp only[S.filter_nil,Yt,S.map_nil,S.sum_cons,S.sum_nil,sh,d,Zs];omega};{rw[y a,S.filter_cons_of_neg (f Za)];simp}}
theorem Ke{l b:S I}(h:cB l b){i:I}(d:i<b.length):start l b i=pos l b[i]:=by have k:=eW.1 (h.1.mem_iff.1 (Zu d));let p:I→Xf:=λt=>decide (l.getD t 0<l.getD b[i] 0∨(l.getD t 0=l.getD b[i] 0∧t<b[i]));have c:=List.pairwise_iff_getElem.1 h.2;have m:b.filter p=b.take i:=by{(conv=>lhs;rw[←Zy i b]);rw[S.filter_append,List.filter_eq_self.2,List.filter_eq_nil_iff.2,ZF];{intro a f;obtain⟨j,g,rfl⟩:=ZR f;rw[ZE]at g;rw[S.getElem_drop];by_cases e:j=0;{subst e;simp only[p,Zs,XB];omega};{have:=c i (i+j) d Za Za;simp only[p,XB];omega}};{intro a f;obtain⟨j,g,rfl⟩:=ZR f;rw[Zz]at g;rw[Y0];have:=c j i Za d Za;simp only[p,XB];omega}};have n:((b.take i).map (sh l)).sum=(((used l).filter p).map (sh l)).sum:=by{rw[←m];exact((h.1.filter p).map (sh l)).sum_nat};unfold start;rw[n];have o:(used l).filter p=(Zq l.length).filter (H4 l (l.getD b[i] 0) b[i]):=by{unfold used;rw[S.filter_filter];congr 1;funext t;rw[Xf.and_comm];rfl};rw[o];have:=wU l (l.getD b[i] 0) b[i] k.2 l.length (ZA _);rw[Yo]at this;exact this
theorem Gv{l a:S I}(d:bl l≤32768)(h:cB l a){i:I}(b:i<a.length):gK l a i=code l a[i]:=by have c:=qI h b;rw[Ke h b,←qK d]at c;exact I.eq_of_mul_eq_mul_right (Dr l a[i]) c
theorem Ju{l a:S I}(j:l.length=258)(e:bl l≤32768)(h:cB l a){s:I}(d:s<258)(f:0<l.getD s 0):(eo l a a.length).getD s 0=code l s:=by have b:∀s∈a,s<258:=λs d=>by{have:=(eW.1 (h.1.mem_iff.1 d)).1;omega};have g:s∈a:=h.1.mem_iff.2 (eW.2 ⟨Za,f⟩);obtain⟨i,c,rfl⟩:=ZR g;rw[xk h b _ (ZA _) i c c,Gv e h c]
theorem Hm{l:S I}(f:l.length=258)(a:bl l≤32768){s:I}(g:s<258)(b:0<l.getD s 0):code l s<2^l.getD s 0:=by have h:=qK a s;have i:=EW Za b;have c:=Et l (show l.getD s 0+1≤16 by have:=ig a s;omega);rw[Pt a]at c;have d:=Mb a s;unfold sh at d;have e:(code l s+1)*2^(15-l.getD s 0)≤2^l.getD s 0*2^(15-l.getD s 0):=by{rw[Ye];omega};exact I.le_of_mul_le_mul_right e (Yb _)
end
end Go.Srt
namespace Go.Bits
section
def bx(b:S I)(i:I):I:=(b.getD (i/8) 0/2^(7-i%8))%2
def val(b:S I)(a:I):I→I|0=>0|n+1=>2*val b a n+bx b (a+n)
theorem jB(b:S I)(i:I):bx b i<2:=I.mod_lt _ Zb
theorem iM(b:S I)(a:I):∀n,val b a n<2^n|0=>by simp[val]|n+1=>by have:=iM b a n;have:=jB b (a+n);simp only[val,Yy];omega
theorem val_add(b:S I)(a n:I):∀m,val b a (n+m)=val b a n*2^m+val b (a+n) m|0=>by simp[val]|m+1=>by rw[←Yl];simp only[val,val_add b a n m,Yy,Yl];rw[I.mul_add,Z5 (2^m) 2,I.mul_left_comm];omega
theorem PO(b:S I)(a n k:I)(h:k<n):val b a n/2^(n-1-k)%2=bx b (a+k):=by have c:=val_add b a (k+1) (n-1-k);rw[show k+1+(n-1-k)=n by omega]at c;have d:=iM b (a+(k+1)) (n-1-k);rw[c,Z5,I.mul_add_div (Yb _),YQ d,Zs];simp only[val];have:=jB b (a+k);omega
theorem Jd(b:S I)(j i:I):bx (b.drop j) i=bx b (8*j+i):=by unfold bx;have a:(8*j+i)/8=j+i/8:=Za;have c:(8*j+i)%8=i%8:=Za;rw[a,c];simp only[Zl,S.getElem?_drop]
theorem Ef(b:S I)(j a:I):∀n,val (b.drop j) a n=val b (8*j+a) n|0=>rfl|n+1=>by simp only[val,Ef b j a n,Jd,Yl]
theorem CU(b c:S I)(i:I)(h:i<8*b.length):bx (b++c) i=bx b i:=by unfold bx;congr 2;simp only[Zl];rw[ZG Za]
theorem mu(b c:S I)(a:I):∀n,a+n≤8*b.length→val (b++c) a n=val b a n|0,_=>rfl|n+1,h=>by simp only[val];rw[mu b c a n Za,CU b c _ Za]
theorem Fi(b:S I)(j:I)(h:b.getD j 0<256):val b (8*j) 8=b.getD j 0:=by have e:∀i,i<8→bx b (8*j+i)=b.getD j 0/2^(7-i)%2:=by{intro i a;unfold bx;rw[show(8*j+i)/8=j by omega,show(8*j+i)%8=i by omega]};simp only[val];rw[e 0 Zb,e 1 Zb,e 2 Zb,e 3 Zb,e 4 Zb,e 5 Zb,e 6 Zb,e 7 Zb];generalize b.getD j 0=x at h;simp only[I.reduceSub,I.reducePow];omega
theorem J5(b:S I)(m:I)(h:b.getD m 0<256):val b 0 (8*(m+1))=val b 0 (8*m)*256+b.getD m 0:=by rw[show 8*(m+1)=8*m+8 by omega,val_add,Zk,Fi b m h]
theorem Ro{b:S I}(h:∀x∈b,x<256)(m:I):b.getD m 0<256:=by rw[Zl];cases hh:b[m]? with|none=>simp|some x=>simpa using h x (Yw hh)
theorem Rb(b:S I)(a w k:I):val b 0 (a+w+k)/2^k%2^w=val b a w:=by rw[val_add b 0 (a+w) k,val_add b 0 a w,Zk,Z5 _ (2^k),I.mul_add_div (Yb _),Zk,YQ (iM b _ k),Zs,Z5,I.mul_add_mod,I.mod_eq_of_lt (iM b a w)]
theorem Qp(a c:I)(h:c<256):a*256|||c=a*256+c:=by have:=YJ (i:=8) (b:=c) h a;rw[Z5]at this;rw[←this]
theorem DP(a w:I):a&&&(2^w-1)=a%2^w:=YS a w
end
end Go.Bits
namespace Go.Srt
section
open Go.Bits
def lP(b:S I)(j:I):I:=b.getD (8*j) 0*128+b.getD (8*j+1) 0*64+b.getD (8*j+2) 0*32+b.getD (8*j+3) 0*16+b.getD (8*j+4) 0*8+b.getD (8*j+5) 0*4+b.getD (8*j+6) 0*2+b.getD (8*j+7) 0
def jk(b:S I)(m:I):S I:=(Zq m).map (lP b)
def pack(b:S I):S I:=jk b ((b.length+7)/8)
def Bits(b:S I):Prop:=∀x∈b,x≤1
theorem Bits.getD{b:S I}(h:Bits b)(i:I):b.getD i 0≤1:=by rw[Zl];cases hx:b[i]? with|none=>simp|some x=>exact h x (Yw hx)
theorem Bits.app{a b:S I}(c:Bits a)(d:Bits b):Bits (a++b):=λx e=>by(rcases List.mem_append.1 e with h|h);{exact c x h};{exact d x h}
theorem rE(b:S I)(m:I):(jk b m).length=m:=by simp[jk]
theorem xe{b:S I}{m j:I}(h:j<m):(jk b m).getD j 0=lP b j:=by unfold jk;rw[Zl,ZN,Z3 h];rfl
theorem JV{b:S I}(h:Bits b)(j:I):lP b j<256:=by unfold lP;have a:=h.getD (8*j);have c:=h.getD (8*j+1);have d:=h.getD (8*j+2);have e:=h.getD (8*j+3);have f:=h.getD (8*j+4);have g:=h.getD (8*j+5);have i:=h.getD (8*j+6);have k:=h.getD (8*j+7);omega
theorem Mo{b:S I}(h:Bits b)(m:I):∀y∈jk b m,y<256:=λy a=>by obtain⟨j,_,rfl⟩:=List.mem_map.1 a;exact JV h j
theorem gT{b:S I}{i:I}(h:b.length≤i):b.getD i 0=0:=by rw[Zl,ZX h];rfl
theorem AO(b:S I)(x i:I):(b++[x]).getD i 0=b.getD i 0+if i=b.length then x else 0:=Ze
theorem EK(b:S I)(x j:I):lP (b++[x]) j=lP b j+if j=b.length/8 then x*2^(7-b.length%8)else 0:=by unfold lP;simp only[AO];by_cases hj:j=b.length/8;{rw[Xh hj];have a:b.length=8*j+b.length%8:=by{omega};have c:b.length%8<8:=I.mod_lt _ Zb;generalize b.length%8=r at a c;rw[a];have:r=0∨r=1∨r=2∨r=3∨r=4∨r=5∨r=6∨r=7:=by{omega};rcases this with rfl|rfl|rfl|rfl|rfl|rfl|rfl|rfl<;>simp<;>omega};{rw[y hj,y Za,y Za,y Za,y Za,y Za,y Za,y Za,y Za];omega}
theorem Rq{b:S I}{j:I}(h:b.length≤8*j):lP b j=0:=by unfold lP;rw[gT h,gT Za,gT Za,gT Za,gT Za,gT Za,gT Za,gT Za]
theorem QU(b:S I):2^(8-b.length%8)∣lP b (b.length/8):=by have a:b.length=8*(b.length/8)+b.length%8:=Za;have c:b.length%8<8:=I.mod_lt _ Zb;generalize e:b.length/8=j at a;generalize b.length%8=r at a c;unfold lP;have g:∀i,r≤i→b.getD (8*j+i) 0=0:=λi f=>gT Za;have:r=0∨r=1∨r=2∨r=3∨r=4∨r=5∨r=6∨r=7:=Za;have d:=g 0;have h:=g 1;have k:=g 2;have l:=g 3;have m:=g 4;have n:=g 5;have o:=g 6;have p:=g 7;simp only[Zs]at d;rcases this with rfl|rfl|rfl|rfl|rfl|rfl|rfl|rfl<;>simp only[I.reduceSub,I.reducePow]<;>omega
theorem Qn{a r x:I}(d:r<8)(c:2^(8-r)∣a)(e:x≤1):a|||x*2^(7-r)=a+x*2^(7-r):=by obtain⟨q,rfl⟩:=c;have f:2^(8-r)=2*2^(7-r):=by{rw[show 8-r=(7-r)+1 by omega,Yy,Z5]};have b:=Yb (7-r);refine(YJ ?_ q).symm;have:x=0∨x=1:=Za;rcases this with rfl|rfl<;>omega
def room(b:S I):S I:=jk b (b.length/8+1)
theorem HI(b:S I):room b=if b.length%8=0 then pack b++[0]else pack b:=by unfold room pack;split;{rename_i h;rw[show(b.length+7)/8=b.length/8 by omega];unfold jk;rw[Y8,ZJ];simp;rw[Rq Za]};{grind}
theorem LI(b:S I)(x:I):pack (b++[x])=(room b).set (b.length/8) (lP b (b.length/8)+x*2^(7-b.length%8)):=by unfold pack room;rw[Zh,Z6,show(b.length+1+7)/8=b.length/8+1 by omega];refine Yq λi=>?_;unfold jk;simp only[ZN,Zm,Yx];by_cases hi:i<b.length/8+1;{rw[Z3 hi];simp only[Yu];rw[EK];by_cases e:b.length/8=i;{grind};{grind}};{grind}
theorem Fa{b:S I}(h:Bits b){m i:I}(d:i<8*m):bx (jk b m) i=b.getD i 0:=by unfold bx;rw[xe Za];have a:i=8*(i/8)+i%8:=Za;have c:i%8<8:=I.mod_lt _ Zb;generalize i/8=j at a;generalize i%8=r at a c;subst a;unfold lP;have e:=h.getD (8*j);have f:=h.getD (8*j+1);have g:=h.getD (8*j+2);have k:=h.getD (8*j+3);have l:=h.getD (8*j+4);have n:=h.getD (8*j+5);have o:=h.getD (8*j+6);have p:=h.getD (8*j+7);have:r=0∨r=1∨r=2∨r=3∨r=4∨r=5∨r=6∨r=7:=Za;rcases this with rfl|rfl|rfl|rfl|rfl|rfl|rfl|rfl<;>simp only[I.reduceSub,I.reducePow,Zs]<;>omega
theorem jH(b:S I):(pack b).length=(b.length+7)/8:=rE _ _
def bn:I→I→S I|0,_=>[]|n+1,v=>bn n (v/2)++[v%2]
theorem pk:∀n v,(bn n v).length=n|0,_=>rfl|n+1,v=>by rw[bn,Zh,pk n];rfl
theorem G2:∀n v,Bits (bn n v)|0,_=>(λx a=>by cases a)|n+1,v=>(G2 n _).app λx a=>by have:x=v%2:=by{simpa using a};omega
theorem C3:∀n v i,i<n→(bn n v).getD i 0=v/2^(n-1-i)%2|0,_,_,h=>Za|n+1,v,i,h=>by rw[bn,AO,pk];by_cases e:i=n;{subst e;rw[Xh Z,gT (by rw[pk];exact ZA _),show i+1-1-i=0 by omega];simp};{rw[y e,C3 n _ i Za,Zs,I.div_div_eq_div_mul];congr 2;rw[show n+1-1-i=(n-1-i)+1 by omega,Yy,Z5]}
def kc(l:S I)(s:I):Prop:=s<258∧0<l.getD s 0
def DM(l:S I)(s:I):S I:=bn (l.getD s 0) (code l s)
def enc(l:S I)(a:S I):S I:=a.flatMap (DM l)
theorem N6(l:S I)(a:S I):Bits (enc l a):=λx b=>by obtain⟨s,_,h⟩:=List.mem_flatMap.1 b;exact G2 _ _ x h
theorem Qj(l a b:S I):enc l (a++b)=enc l a++enc l b:=Xc
theorem Dc(l:S I)(s:I)(b:S I):enc l (s::b)=DM l s++enc l b:=Yp
def dH(l:S I)(c n:I):Xg I:=(Zq 258).find? λs=>decide (0<l.getD s 0)&&(l.getD s 0==n)&&(code l s==c)
theorem rf{l:S I}{c n s:I}(h:dH l c n=O s):kc l s∧l.getD s 0=n∧code l s=c:=by unfold dH at h;have a:=S.find?_some h;have b:=S.mem_of_find?_eq_some h;simp only[ZM,XB,XA]at a;exact⟨⟨by simpa using b,a.1.1⟩,a.1.2,a.2⟩
theorem Jc{l:S I}{c n:I}(h:dH l c n=V){s:I}(a:kc l s):¬(l.getD s 0=n∧code l s=c):=by unfold dH at h;have:=List.find?_eq_none.1 h s (by simpa using a.1);simp only[ZM,XB,XA]at this;exactλb=>this ⟨⟨a.2,b.1⟩,b.2⟩
theorem MI{l:S I}(e:l.length=258){s t:I}(c:kc l s)(d:kc l t)(a:l.getD s 0=l.getD t 0)(b:code l s=code l t):s=t:=by have f:=c.1;have g:=d.1;refine Eu Za Za a ?_;unfold code at b;rw[a]at b;omega
theorem yB{l:S I}(b:l.length=258){s:I}(a:kc l s):dH l (code l s) (l.getD s 0)=O s:=by cases h:dH l (code l s) (l.getD s 0)with|none=>exact Xr ⟨Z,Z⟩ (Jc h a)|some t=>obtain⟨c,d,e⟩:=rf h;rw[MI b c a d e]
theorem Mh{l:S I}(u:l.length=258)(c:bl l≤32768){s m:I}(f:kc l s)(v:m<l.getD s 0):dH l (code l s/2^(l.getD s 0-m)) m=V:=by cases h:dH l (code l s/2^(l.getD s 0-m)) m with|none=>rfl|some t=>exfalso;obtain⟨g,i,k⟩:=rf h;have n:=ig c s;have j:=qK c s;have d:=qK c t;rw[i,k]at d;have e:2^(15-m)=2^(l.getD s 0-m)*2^(15-l.getD s 0):=by{rw[←I.pow_add];congr 1;omega};have o:=I.div_mul_le_self (code l s) (2^(l.getD s 0-m));have p:=I.lt_div_mul_add (a:=code l s) (b:=2^(l.getD s 0-m)) (Yb _);have q:pos l t≤pos l s:=by{rw[←j,←d,e,←I.mul_assoc];exact ZH _ o};have r:pos l s<pos l t+2^(15-l.getD t 0):=by{rw[i,←j,←d,e,←I.mul_assoc,←YK];exact I.mul_lt_mul_of_pos_right p (Yb _)};have w:=f.1;have y:=g.1;have:s=t:=Ov (x:=pos l s) Za Za f.2 g.2 (ZA _) Ze q r;subst this;omega
def bitsOf(b:S I)(n:I):S I:=(Zq n).map (bx b)
theorem Jv(b:S I)(n:I):(bitsOf b n).length=n:=by simp[bitsOf]
theorem F2(b:S I)(n:I):Bits (bitsOf b n):=λx a=>by obtain⟨i,_,rfl⟩:=List.mem_map.1 a;have:=jB b i;omega
end
end Go.Srt
namespace Go.Proofs.Q9
section
open Go Go.Vc Go.Srt Go.Bits
def Wr(b:I)(bits:S I):HP:=λf=>∃s:Sl,(Srt.Bits bits∧bits.length≤bP)∧Sat [af b (.cells ⟨[.slice s.base s.len s.cap,.int .i64 (bits.length:H)]⟩ 181 (0,0)),ah 1 s ((pack bits).map vB)] f
section
variable{E w:G}{F A:S HP}{b:I}{bits:S I}
theorem Wr.cE(h:Hp E w (Wr b bits::F)):∃s:Sl,Srt.Bits bits∧bits.length≤bP∧Hp E w (af b (.cells ⟨[.slice s.base s.len s.cap,.int .i64 (bits.length:H)]⟩ 181 (0,0))::ah 1 s ((pack bits).map vB)::F):=by obtain⟨s,⟨a,c⟩,h⟩:=h.Cf (X:=λ_:Sl=>Srt.Bits bits∧bits.length≤bP) (L:=λs=>[af b (.cells ⟨[.slice s.base s.len s.cap,.int .i64 (bits.length:H)]⟩ 181 (0,0)),ah 1 s ((pack bits).map vB)]) λf d=>d;exact⟨s,a,c,h⟩
theorem Wr.shut{s:Sl}(a:Srt.Bits bits)(c:bits.length≤bP)(h:Hp E w (af b (.cells ⟨[.slice s.base s.len s.cap,.int .i64 (bits.length:H)]⟩ 181 (0,0))::ah 1 s ((pack bits).map vB)::F)):Hp E w (Wr b bits::F):=Hp.BV (l:=[_,_]) (λf d=>⟨s,⟨a,c⟩,d⟩) h
theorem KL{K:Xg Xn→G→Prop}(h:Hp E w F)(a:∀b w',Hp E w' (Wr b []::F)→K (O ⟨b,0,V⟩) w'):Cl Zf [kP] 43 ⟨[]⟩ w K:=by refine BC.ok _ _ ?_;exact Nw.mk h λb c d=>a b c (Wr.shut (s:=⟨V,0,0⟩) (λx e=>by cases e) (Yv _) ((d.aZ 1).p1))
theorem NF{v a:I}{K:Xf→G→Prop}(f:a≤32)(c:v<2^a)(d:v≤4294967295)(e:K U w):Cl Zf [kB] 145 ⟨[.int .u32 (v:H),.int .i64 (a:H)]⟩ w K:=by refine zm.ok _ _ _ _ ?_;refine aa.t (Xo Za) (aa.t (Xo Za) ⟨Za,?_⟩);rw[iO Za,bT (by have:Xt.bits .u64=64:=Z;omega),YQ c];exact e
theorem qN:cH Zf 25 5 1 1:=cH.of Zc Zc
theorem HH{x:I}(c:x≤1):Srt.Bits [x]:=λy a=>by have:y=x:=by{simpa using a};omega
theorem Fj{x:I}:∀y∈[vB x],aC y=U:=λy a=>by have:y=vB x:=by{simpa using a};subst this;rfl
theorem RO(n:I)(h:n≤bP):bS .i64 (n:H) 7=((n%8:I):H):=by have a:YA .i64=9223372036854775807:=Z;rw[ax]at h;rw[show(7:H)=((7:I):H)from Z,eC Za Za,show(7:I)=2^3-1 from Z,YS]
theorem UE{x:I}{K:G→Prop}(h:Hp E w (Wr b bits::F))(L:x≤1)(r:bits.length+1≤bP)(hK:∀w',Hp E w' (Wr b (bits++[x])::F)→K w'):Cl Zf [] 147 ⟨[.pointer (O ⟨b,0,V⟩),.int .u8 (x:H)]⟩ w K:=by refine qF.ok _ _ _ _ ?_;simp only[aw,ak,Zk];obtain⟨s,X,M,B⟩:=Wr.cE h;have N:=r;rw[ax]at N M;have P:bits.length%8<8:=I.mod_lt _ Zb;refine Ld.ay (s:=.int .i64) B (bits.length:H) Z ?_;rw[RO _ (by rw[ax];omega)];have i:∀(f:Sl)(C:G),Hp E C (af b (.cells ⟨[.slice f.base f.len f.cap,.int .i64 (bits.length:H)]⟩ 181 (0,0))::ah 1 f ((room bits).map vB)::F)→aJ C λ(a:G)=>Ld kS (⟨b,0,V⟩:Xn) a λ(t:Sl)=>Ld kI (⟨b,1,V⟩:Xn) a λ(c:H)=>0≤(3:H)∧au t (aI .i64 c 3) 1 λ(Q:Xn)=>Ld (aq .u8) Q a λ(R:H)=>Ld kI (⟨b,1,V⟩:Xn) a λ(d:H)=>0≤((i64 ((7:H)-(bS .i64 d 7))):H)∧au t (aI .i64 c 3) 1 λ(T:Xn)=>St T (.int .u8 (gN .u8 R (a7 .u8 (x:H) (i64 ((7:H)-(bS .i64 d 7)))))) a λ(k:G)=>Ld kI (⟨b,1,V⟩:Xn) k λ(g:H)=>St (⟨b,1,V⟩:Xn) (.int .i64 (i64 (g+1))) k λ(u:G)=>K u:=by{intro f C v;refine aJ.mk v λw3 l=>Ld.ay (s:=.sl) l f Z (Ld.ay (s:=.int .i64) l (bits.length:H) Z ⟨Zb,?_⟩);have o:=l.p1.aL;have W:(room bits).length=bits.length/8+1:=rE _ _;rw[Zm,W,Zt]at o;have e3:aI .i64 (bits.length:H) 3=((bits.length/8:I):H):=by{rw[show(3:H)=((3:I):H)from Z,bT Zb]};rw[e3];refine au.rd (l.ao (ad.cons ad.own)) Za Za λq hq hc=>?_;have hby:((room bits).map vB)[((bits.length/8:I):H).toNat]' hq=.int .u8 (lP bits (bits.length/8):H):=by{rw[S.getElem_map];have:=xe (b:=bits) (m:=bits.length/8+1) (j:=bits.length/8) Za;rw[dO (by rw[rE];omega)]at this;show vB _=_;unfold vB;rw[←this];rfl};refine Ld.sc (s:=.int .u8) (lP bits (bits.length/8):H) Ze (Ld.ay (s:=.int .i64) l (bits.length:H) Z ?_);rw[RO _ (by rw[ax];omega),ae (x:=(7:H)-((bits.length%8:I):H)) Za,show(7:H)-((bits.length%8:I):H)=((7-bits.length%8:I):H) by omega];have z:=JV (X.app (HH L)) (bits.length/8);rw[EK,Xh Z]at z;have hm8:YA .u8=255:=Z;have e4:a7 .u8 (x:H) ((7-bits.length%8:I):H)=((x*2^(7-bits.length%8):I):H):=cO (by have:Xt.bits .u8=8:=Z;omega) Za;have e5:=Qn P (QU bits) L;rw[e4,k7 Za Za Ze,e5];refine⟨Za,?_⟩;refine St.own l.p1 Za Za Z λY D=>?_;refine Ld.ay (s:=.int .i64) D.p1 (bits.length:H) Z ?_;rw[ae Za];refine St.ay D.p1 (show 1<2 by decide) Z λw5 h5=>hK w5 (Wr.shut (s:=f) (X.app (HH L)) Ze ?_);rw[LI];have:((room bits).set (bits.length/8) (lP bits (bits.length/8)+x*2^(7-bits.length%8))).map vB=((room bits).map vB).set ((bits.length/8:I):H).toNat (.int .u8 ((lP bits (bits.length/8)+x*2^(7-bits.length%8):I):H)):=by{rw[Zj,Xa];rfl};rw[this,Zh,Z6];exact h5};refine aa.mk (λp=>?_) λp=>?_;{have p:bits.length%8=0:=by{rw[XA]at p;omega};refine Ld.ay (s:=.sl) B s Z (Nw.mk B λb8 C v=>?_);have o:=v.p2.aL;rw[Zm,jH,Zt]at o;refine aS (ys:=[vB 0]) (n:=1) qN Zb (.inl ⟨5,Zc⟩) v.p2 (.inl ⟨O ⟨b8,0,V⟩,1,1,Z,Z,v.ao (ad.ay Z Z)⟩) Z Fj Za Za λf w3 l hs'=>?_;refine St.ay l.p2 (show 0<2 by decide) Z λY D=>?_;refine i f Y ?_;have e:(room bits).map vB=(pack bits).map vB++[vB 0]:=by{rw[HI,Xh p,ZJ];rfl};rw[e];exact D.p2.drop};{have p:bits.length%8≠0:=by{have:=beq_eq_false_iff_ne.1 p;omega};refine i s w ?_;rw[HI,y p];exact B}
theorem CN{K:Sl→G→Prop}(h:Hp E w (Wr b bits::F))(k:∀s w',Hp E w' (ah 1 s ((pack bits).map vB)::Wr b bits::F)→K s w'):Cl Zf [kS] 46 ⟨[.pointer (O ⟨b,0,V⟩)]⟩ w K:=by refine oO.ok _ _ _ ?_;simp only[aw,ak,Zk];obtain⟨s,l,a,d⟩:=Wr.cE h;refine aa.f rfl (Ld.ay (s:=.sl) d s rfl (uY.ok _ _ _ ?_));have g:=d.p1.aL;have o:=jH bits;rw[Zm,Zt]at g;rw[ax]at a;refine aa.mk (λi=>?_) λi=>?_;{have i:s.base=V:=by{simpa using i};(obtain⟨rfl,m,e⟩|⟨B,p,q,t,j,_⟩:=d.p1.mJ);{refine k _ w ?_;rw[m];refine Hp.aZ (Wr.shut (s:=⟨V,0,0⟩) l (by rw[ax];exact a) ?_) 1;rw[m];exact(e.aZ 1).p1};{grind}};{refine Nw.mk d λr u e=>?_;have v:=e.kr (n:=0) (sz:=1) rfl;have c:aD 1 s ((pack bits).map vB) u:=e.ao (ad.cons (ad.cons ad.own));refine aS (s:=⟨O ⟨r,0,V⟩,0,0⟩) (ys:=(pack bits).map vB) (n:=s.len) qN Zb (.inl ⟨5,Zc⟩) v (.inl ⟨s.base,s.len,s.cap,rfl,rfl,c⟩) Ze ct Ze Ze λx y z _=>?_;exact k x y (Wr.shut (s:=s) l (by rw[ax];exact a) z.q2).p1}
theorem J3{v a g j:I}(x:a≤32)(y:v≤4294967295):Iter Zf E (.func (.func 201) ⟨[]⟩ ⟨[.pointer (O ⟨j,0,V⟩),.pointer (O ⟨g,0,V⟩)]⟩) a (λi=>[Ki.enc (aq .u8) ((v/2^(a-1-i)%2:I):H)]) (af j (.cells ⟨[.int .i64 (a:H)]⟩ 3 (0,0))::af g (.cells ⟨[.int .u32 (v:H)]⟩ 35 (0,0))::A):=by intro p C G w K q h r l;refine pK.mk Zc (wE.ok p ⟨j,0,V⟩ ⟨g,0,V⟩ K w ?_);have n:=h.perm (List.perm_middle.trans (S.Perm.cons _ S.perm_middle));refine Ld.ay (s:=.int .i64) n (a:H) Z ?_;refine⟨λi w'=>∃k:I,i=(a:H)-1-(k:H)∧k≤a∧Hp E w' (af j (.cells ⟨[.int .i64 (a:H)]⟩ 3 (0,0))::af g (.cells ⟨[.int .u32 (v:H)]⟩ 35 (0,0))::(C k++A)),λi _=>(i+1).toNat,⟨0,by rw[ae Za];omega,Za,n⟩,?_⟩;rintro i u ⟨k,rfl,hk,h1⟩;refine aa.mk (λd=>?_) λc=>?_;{have c:k<a:=by{have:=Xk d;omega};refine Ld.ay (s:=.int .u32) h1.p1 (v:H) Z ⟨Za,?_⟩;have z:v/2^(a-1-k)≤v:=I.div_le_self _ _;have e:bS .u8 (u8 (aI .u32 (v:H) ((a:H)-1-(k:H)))) 1=((v/2^(a-1-k)%2:I):H):=by{have B:YA .u8=255:=Z;rw[show(a:H)-1-(k:H)=((a-1-k:I):H) by omega,bT (by have:Xt.bits .u32=32:=Z;omega),sV,show(((v/2^(a-1-k):I):H)%256)=((v/2^(a-1-k)%256:I):H) by omega,show(1:H)=((1:I):H)from Z,eC Za Za,I.and_one_is_mod];omega};rw[e];refine q k c (af j (.cells ⟨[.int .i64 (a:H)]⟩ 3 (0,0))::af g (.cells ⟨[.int .u32 (v:H)]⟩ 35 (0,0))::A) u _ (h1.perm ((S.Perm.cons _ List.perm_middle.symm).trans List.perm_middle.symm)) (λo m=>?_) λo m=>?_;{refine aa.f Z ⟨Z,⟨k+1,by rw[ae Za];omega,Za,m.perm (List.perm_middle.trans (S.Perm.cons _ S.perm_middle))⟩,by dsimp only;rw[ae Za];omega⟩};{exact aa.t Z (l k o c m)}};{have d:k=a:=by{have:=Xj c;omega};subst d;exact r _ (h1.perm ((S.Perm.cons _ List.perm_middle.symm).trans List.perm_middle.symm))}
theorem L9{v width:I}{K:Xf→G→Prop}(h:Hp E w (Wr b bits::F))(r:width≤32)(L:v<2^width)(c:v≤4294967295)(t:bits.length+width≤bP)(M:∀w',Hp E w' (Wr b (bits++bn width v)::F)→K U w'):Cl Zf [kB] 96 ⟨[.pointer (O ⟨b,0,V⟩),.int .u32 (v:H),.int .i64 (width:H)]⟩ w K:=by refine re.ok _ _ _ _ _ ?_;refine Nw.mk h λg T u=>Ld.ay (s:=.ptr) u (O ⟨b,0,V⟩) Z (aa.f Z (NF r L c (aa.f Z (zq.ok _ _ _ _ ?_))));refine Nw.mk u λy W N=>Nw.mk N λz P o=>?_;have o:Hp E P ([af g (.cells ⟨[.pointer (O ⟨b,0,V⟩)]⟩ 98 (0,0)),Wr b (bits++(bn width v).take 0)]++(af z (.cells ⟨[.int .i64 (width:H)]⟩ 3 (0,0))::af y (.cells ⟨[.int .u32 (v:H)]⟩ 35 (0,0))::F)):=by{rw[YZ,ZF];exact o.p3.p3};have d:=pk width v;refine fS.xc (k:=aq .u8) (x:=λi=>((v/2^(width-1-i)%2:I):H)) (n:=width) (λi=>[af g (.cells ⟨[.pointer (O ⟨b,0,V⟩)]⟩ 98 (0,0)),Wr b (bits++(bn width v).take i)]) (λ_=>[FC]) o (J3 r c) ?_ ?_ ?_;{intro Q p i A j X Y l a q _;have a:Hp E j (af Q (p 0)::af g (.cells ⟨[.pointer (O ⟨b,0,V⟩)]⟩ 98 (0,0))::Wr b (bits++(bn width v).take i)::A):=a;refine td.mk a λB m=>Ld.ay (s:=.ptr) m.p1 (O ⟨b,0,V⟩) Z ?_;refine UE m.p2 Za Ze λw7 R=>nR.mk R.p1 λS C=>q S ?_;have e:(bits++(bn width v).take i)++[v/2^(width-1-i)%2]=bits++(bn width v).take (i+1):=by{rw[Zn,Zv,Zg (by rw[d];exact l),←C3 width v i l,dO (by rw[d];exact l)];rfl};rw[e]at C;exact C.p2.p1};{intro D j a;have a:Hp E j (af D (.deferred (O []))::af g (.cells ⟨[.pointer (O ⟨b,0,V⟩)]⟩ 98 (0,0))::Wr b (bits++(bn width v).take width)::af z (.cells ⟨[.int .i64 (width:H)]⟩ 3 (0,0))::af y (.cells ⟨[.int .u32 (v:H)]⟩ 35 (0,0))::F):=a;rw[Zp Za]at a;exact jW.xc a λB m=>M B m.drop.p1.drop.p1.drop};{intro i D j l a;exact(Hp.I2 a).elim}
end
end
section
open Go Go.Vc Go.Srt
section
variable{E w:G}{F:S HP}
theorem P0{l:S I}{K:Xe Q→H→G→Prop}(h:Hp E w F)(r:l.length=258)(C:¬bl l≤32768→∀w',Hp E w' F→K (ai .u32 (Zi 258 0)) 2 w')(D:bl l≤32768→∀c w',cB l c→Hp E w' F→K (ai .u32 (eo l c c.length)) 0 w'):Cl Zf [.arr 258,kI] 98 ⟨[.agg (ai .u8 l)]⟩ w K:=by refine ym.ok _ _ _ ?_;rw[zo];refine Nw.mk h λY w1 L=>Nw.mk L λb5 w2 A=>Ld.arr A.p1 (by rw[aW,r]) (vU A r λw3 g=>?_);refine aa.mk (λf=>?_) λf=>?_;{have f:¬bl l≤32768:=by{simpa using f};refine Ld.arr g (by rw[aW];simp) (ar.ay g (by rw[aW];simp) (by rw[aW];simp) fC λw4 t=>Ld.arr t (by rw[aW];simp) (C f w4 t.drop.drop))};{have f:bl l≤32768:=by{simpa using f};refine Ld.arr g.p1 (by rw[aW,r]) (PT g r (λM=>Xr f M) λ_ c s w4 e t=>?_);have N:=t.aL;simp only[ints,Zm,Zt]at N;have P:∀s∈c,s<258∧0<l.getD s 0:=λs hs=>by{have:=eW.1 (e.1.mem_iff.1 hs);rw[r]at this;exact this};have hlen:c.length≤258:=by{rw[e.1.length_eq,←r];have:=S.length_filter_le (λs=>decide (0<l.getD s 0)) (Zq l.length);simpa[used]using this};refine⟨λnx la i w'=>∃k n a:I,i=(k:H)∧nx=(n:H)∧la=(a:H)∧k≤c.length∧n*2^(15-a)=Srt.start l c k∧a≤15∧(∀j(R:j<c.length),k≤j→a≤l.getD c[j] 0)∧Hp E w' (ah 1 s ((ints c).map vI)::af b5 (.cells (ai .u32 (eo l c k)) 185 (0,0))::af Y (.cells (ai .u8 l) 50 (0,0))::F),λ_ _ i _=>c.length-i.toNat,⟨0,0,0,Z,Z,Z,Za,by simp[Srt.start],Za,λj R _=>Yv _,t⟩,?_⟩;intro nx la i w' hI;obtain⟨k,n,a,hi,M,T,hk,W,ha15,m,u⟩:=hI;subst hi;subst M;subst T;refine aa.mk (λd=>?_) λo=>?_;{have d:k<c.length:=by{have:=Xk d;omega};have v:=P _ (Zu d);have p:c[k]<l.length:=by{omega};have B:l.getD c[k] 0=l[c[k]]:=by{rw[Zl,Zg p];rfl};refine DU u Za (x:=(c[k]:H)) (by simp[ints,d]) ?_;refine aK.rd (s:=.int .u8) u.p2 Za Za (l[c[k]]:H) (by rw[Zj];exact gH p) ?_;have T:=m k d (ZA _);have y:=ig f c[k];rw[B]at T y v;rw[kh Za];refine⟨Za,?_⟩;have hd:Hp E {w' with drawn:=w'.drawn+1} _:=u.drew;refine⟨λw'=>∃cs,Hp E w' (ah 1 s ((ints c).map vI)::af b5 (.cells cs 185 (0,0))::af Y (.cells (ai .u8 l) 50 (0,0))::F),⟨_,hd⟩,Za,Za,(l[c[k]]:H),?_,?_⟩;{rintro w2 ⟨cs,A⟩;rw[ak,A.p2.cell,Zj,Zk,Zt];exact gH p};{have X:=rN (l:=l) d;have z:=qI e d;have hcl:=Lp f e d;have hp15:2^l.getD c[k] 0≤2^15:=ZO Zb (ig f _);have q:n*2^(l[c[k]]-a)=gK l c k:=by{have L:n*2^(l[c[k]]-a)*sh l c[k]=gK l c k*sh l c[k]:=by{rw[z,←W];unfold sh;rw[B,I.mul_assoc,←I.pow_add];congr 2;omega};exact I.eq_of_mul_eq_mul_right (Dr l c[k]) L};have e1:a7 .u32 (n:H) ((l[c[k]]:H)-(a:H))=(gK l c k:H):=by{have hmx:YA .u32=4294967295:=Z;have:=cO (k:=.u32) (a:=n) (b:=l[c[k]]-a) (by have:Xt.bits .u32=32:=Z;omega) Ze;rw[q]at this;rw[←this];congr 1;omega};rw[e1];refine aK.wr hd.p1 Za Za (by rw[aW,dZ]) Z λw3 g=>?_;rw[Zj,ET]at g;refine⟨⟨_,g.p1⟩,?_⟩;rw[jf Za,ae Za];refine⟨⟨k+1,gK l c k+1,l[c[k]],Z,Z,Z,Za,?_,y,λj R hkj=>?_,?_⟩,by dsimp only;omega⟩;{rw[X,←z];unfold sh;rw[B,Ye]};{rw[←B];exact G7 e R Za};{have:eo l c (k+1)=(eo l c k).set c[k] (gK l c k):=by{rw[eo,uw d]};rw[this];exact g.p1}}};{have o:k=c.length:=by{have:=Xj o;omega};subst o;refine Ld.arr u.p1 (by rw[aW,dZ]) (ar.ay u.p1 (by rw[aW,dZ]) (by rw[aW,dZ]) fC λw5 h5=>Ld.arr h5 (by rw[aW,dZ]) (D f c w5 e h5.drop.drop.drop))}}
end
theorem Tp{l a:S I}(b:l.length=258)(h:cB l a):∀s∈a,s<258∧0<l.getD s 0:=λs c=>by have:=eW.1 (h.1.mem_iff.1 c);rw[b]at this;exact this
theorem T7{l a:S I}(b:l.length=258)(h:cB l a):a.length≤258:=by rw[h.1.length_eq,←b];have:=S.length_filter_le (λs=>decide (0<l.getD s 0)) (Zq l.length);simpa[used]using this
theorem N4{l c zs:S I}(h:cB l c)(d:cB l zs):c=zs:=by refine S.Perm.eq_of_pairwise (le:=λa b=>l.getD a 0<l.getD b 0∨(l.getD a 0=l.getD b 0∧a<b)) ?_ h.2 d.2 (h.1.trans d.1.symm);intro a b _ _ e f;omega
theorem Oq{l:S I}{i:I}{k:Xt}(h:i<l.length):(ai k l)[((i:I):H).toNat]?=O (Sc.enc (.int k) (l.getD i 0:H)):=by rw[Zj,gH h,Zl,Zg h];rfl
end
section
open Go Go.Vc
set_option maxRecDepth 100000
theorem BA.ok(a:(Xe Q))(R:(Xe Q)→H→G→Prop) w(h:Nw 50 a w λc b=>Nw 135 ⟨Zi 258 (.int .u8 0)++[(ni 0),(ni 0)]⟩ b λe d=>Ld (.arr 258) ⟨c,0,V⟩ d λf=>Cl Pg [kB] 23 ⟨[(.agg f)]⟩ d λ(h:Xf) g=>aa (! h) (cR Pg 135 [] λi=>ar 260 ⟨e,0,V⟩ i g λj=>Ld (.arr 260) ⟨e,0,V⟩ j λk=>R k 2 j) (Ld (.arr 258) ⟨c,0,V⟩ g λl=>cR Pg 135 [(0,(.agg l))] λm=>ar 260 ⟨e,0,V⟩ m g λn=>Ld (.arr 260) ⟨e,0,V⟩ n λo=>R o 0 n)):Cl Pg [(.arr 260),kI] 64 ⟨[(.agg a)]⟩ w R:=co Tryz.f64 [] h
theorem yN.ok(a:(Xe Q))(b:H)(R:(Xe Q)→H→Xf→G→Prop) w(h:Nw 135 a w λd c=>Nw 135 ⟨Zi 258 (.int .u8 0)++[(ni 0),(ni 0)]⟩ c λf e=>ba (λ(q:G)=>Ld (.arr 258) (Zo ⟨d,0,V⟩ 0) q λr=>Ld kI (Zo ⟨d,0,V⟩ 258) q λ(s:H)=>0≤(1:H)∧Ld kI (Zo ⟨d,0,V⟩ 259) q λ(t:H)=>cR Pg 135 [(0,(.agg r)),(1,(ni (gN .i64 (a7 .i64 s (1:H)) b))),(2,(ni (i64 (t+1))))] λu=>ar 260 ⟨f,0,V⟩ u q λv=>Ld (.arr 258) (Zo ⟨f,0,V⟩ 0) v λx=>Ld kI (Zo ⟨f,0,V⟩ 259) v λ(y:H)=>Cl Pg [kI,kI] 116 ⟨[(.agg x),(ni y)]⟩ v λ(B:H)(N:H) z=>Ld kI (Zo ⟨f,0,V⟩ 258) z λ(P:H)=>aa (K (P≥(i64 (B+N)))) (Ld (.arr 260) ⟨f,0,V⟩ z λS=>ar 260 ⟨f,0,V⟩ S z λC=>Ld (.arr 260) ⟨f,0,V⟩ C λT=>R T 0 J C) (aJ z λA=>Ld (.arr 258) (Zo ⟨f,0,V⟩ 0) A λD=>Ld kI (Zo ⟨f,0,V⟩ 259) A λ(E:H)=>Ld kI (Zo ⟨f,0,V⟩ 258) A λ(F:H)=>(Ld (.arr 258) (Zo ⟨d,0,V⟩ 0) A λW=>cR Pg 135 [(0,(.agg W))] λX=>Cl Pg [kI] 117 ⟨[(.agg D),(ni E),(ni (i64 (F-B)))]⟩ A λ(Y:H) m1=>ar 260 ⟨f,0,V⟩ X m1 λI=>Ld (.arr 260) ⟨f,0,V⟩ I λp1=>R p1 Y U I)∧(Cl Pg [kI] 117 ⟨[(.agg D),(ni E),(ni (i64 (F-B)))]⟩ A λ(r1:H) L=>Ld (.arr 258) (Zo ⟨d,0,V⟩ 0) L λs1=>cR Pg 135 [(0,(.agg s1))] λt1=>ar 260 ⟨f,0,V⟩ t1 L λM=>Ld (.arr 260) ⟨f,0,V⟩ M λv1=>R v1 r1 U M))) λg=>0≤(1:H)∧aa ((aI .i64 b (1:H)) !=0) (Ld (.arr 260) ⟨d,0,V⟩ e λh=>ar 260 ⟨f,0,V⟩ h e λi=>Ld (.arr 260) ⟨f,0,V⟩ i λj=>R j 0 J i) (Ld (.arr 260) ⟨d,0,V⟩ e λk=>Cl Pg [kB] 115 ⟨[(.agg k)]⟩ e λ(m:Xf) l=>aa (! m) (Ld (.arr 260) ⟨d,0,V⟩ l λn=>ar 260 ⟨f,0,V⟩ n l λo=>Ld (.arr 260) ⟨f,0,V⟩ o λp=>R p 0 J o) (g l))):Cl Pg [(.arr 260),kI,kB] 65 ⟨[(.agg a),(ni b)]⟩ w R:=co Tryz.f65 [(2,[]),(17,[])] h
theorem xI.ok(a:(Xe Q))(R:Xf→G→Prop) w(h:Nw 135 a w λc b=>ba (λ(m:G)=>Ld (.arr 258) (Zo ⟨c,0,V⟩ 0) m λn=>Ld kI (Zo ⟨c,0,V⟩ 259) m λ(o:H)=>Cl Pg [kI,kI] 116 ⟨[(.agg n),(ni o)]⟩ m λ(q:H)(r:H) p=>Ld kI (Zo ⟨c,0,V⟩ 258) p λ(s:H)=>R (K (s≥(i64 (q+r)))) p) λd=>Ld (.arr 258) (Zo ⟨c,0,V⟩ 0) b λe=>Cl Pg [kB] 23 ⟨[(.agg e)]⟩ b λ(g:Xf) f=>aa (! g) (R J f) (Ld kI (Zo ⟨c,0,V⟩ 259) f λ(h:H)=>aa (K (h<0)) (R J f) (Ld kI (Zo ⟨c,0,V⟩ 259) f λ(i:H)=>aa (K (i≥15)) (R J f) (Ld kI (Zo ⟨c,0,V⟩ 258) f λ(j:H)=>aa (K (j<0)) (R J f) (Ld kI (Zo ⟨c,0,V⟩ 258) f λ(k:H)=>Ld kI (Zo ⟨c,0,V⟩ 259) f λ(l:H)=>0≤l∧aa ((aI .i64 k l) !=0) (R J f) (d f)))))):Cl Pg [kB] 115 ⟨[(.agg a)]⟩ w R:=co Tryz.f115 [(2,[])] h
theorem yk.ok(a:(Xe Q))(b:H)(R:H→H→G→Prop) w(h:Nw 50 a w λd c=>Ld (.arr 258) ⟨d,0,V⟩ c λe=>Cl Pg [(.st KO)] 168 ⟨[(.agg e)]⟩ c λg f=>Nw 272 ⟨Zi 16 (ni 0)⟩ f λi h=>an ⟨i,0,V⟩ [(ni g.1),(ni g.2.1),(ni g.2.2.1),(ni g.2.2.2.1),(ni g.2.2.2.2.1),(ni g.2.2.2.2.2.1),(ni g.2.2.2.2.2.2.1),(ni g.2.2.2.2.2.2.2.1),(ni g.2.2.2.2.2.2.2.2.1),(ni g.2.2.2.2.2.2.2.2.2.1),(ni g.2.2.2.2.2.2.2.2.2.2.1),(ni g.2.2.2.2.2.2.2.2.2.2.2.1),(ni g.2.2.2.2.2.2.2.2.2.2.2.2.1),(ni g.2.2.2.2.2.2.2.2.2.2.2.2.2.1),(ni g.2.2.2.2.2.2.2.2.2.2.2.2.2.2.1),(ni g.2.2.2.2.2.2.2.2.2.2.2.2.2.2.2.1)] 0 h λj=>aK ⟨i,0,V⟩ 16 0 1 λk=>St k (ni 0) j λl=>de 0 1 l λm n(o:H)(p:H) q=>aa (K (p≤b)) (aK ⟨i,0,V⟩ 16 (i64 (p-1)) 1 λr=>Ld kI r q λ(s:H)=>0≤(1:H)∧m (a7 .i64 (i64 (o+s)) (1:H)) (i64 (p+1)) q∧n (a7 .i64 (i64 (o+s)) (1:H)) (i64 (p+1)) q<n o p q) (aJ q λt=>aK ⟨i,0,V⟩ 16 b 1 λu=>Ld kI u t λ(v:H)=>R o v t)):Cl Pg [kI,kI] 116 ⟨[(.agg a),(ni b)]⟩ w R:=co Tryz.f116 [(9,[(4,kI),(7,kI)])] h
theorem Fz.ok(a:(Xe Q))(b:H)(c:H)(R:H→G→Prop) w(h:Nw 50 a w λe d=>Ld (.arr 258) ⟨e,0,V⟩ d λf=>de c 0 d λg h(i:H)(j:H) k=>aa (K (j<258)) (eA (.int .u8) f 258 j λ(l:H)=>aa ((i64 l) !=b) (g i (i64 (j+1)) k∧h i (i64 (j+1)) k<h i j k) (aa (i==0) (R j k) (g (i64 (i-1)) (i64 (j+1)) k∧h (i64 (i-1)) (i64 (j+1)) k<h i j k))) (R 0 k)):Cl Pg [kI] 117 ⟨[(.agg a),(ni b),(ni c)]⟩ w R:=co Tryz.f117 [(5,[(2,kI),(10,kI)])] h
end
end Go.Proofs.Q9
namespace Go.Srt
section
def cA(l:S I):Xf:=K (bl l=32768)&&K (0<l.getD 257 0)
theorem mP{l:S I}:cA l=U↔bl l=32768∧0<l.getD 257 0:=by simp[cA]
def ya(l:S I)(n p:I):I:=((Zq l.length).find? λs=>(l.getD s 0==n)&&(iA l s==p)).getD 0
theorem Fc{l:S I}{n p:I}(h:p<l.count n):ya l n p<l.length∧l.getD (ya l n p) 0=n∧iA l (ya l n p)=p:=by obtain⟨s,e,b,c⟩:=QM l n p h;unfold ya;cases hf:(Zq l.length).find? λs=>(l.getD s 0==n)&&(iA l s==p)with|none=>have:=List.find?_eq_none.1 hf s Ze;simp only[ZM,XA]at this;exact Xr ⟨b,c⟩ this|some t=>have a:=S.find?_some hf;have d:=S.mem_of_find?_eq_some hf;simp only[ZM,XA]at a;exact⟨by simpa using d,a⟩
def kj(l:S I)(c b:I):Prop:=cA l=U∧b<15∧c<2^b∧fst l b+many l b≤c
def eV(l:S I)(c b x:I):(I×I)×Xg I:=if fst l (b+1)+many l (b+1)≤2*c+x then((2*c+x,b+1),V)else((0,0),O (ya l (b+1) (2*c+x-fst l (b+1))))
theorem kj.zero{l:S I}(h:cA l=U):kj l 0 0:=⟨h,Zb,Zb,by simp[fst,many]⟩
theorem kj.ge{l:S I}{c b:I}(h:kj l c b):fst l (b+1)≤2*c:=by rw[fst];have:=h.2.2.2;omega
theorem US{l:S I}(h:cA l=U):fst l 15+many l 15=32768:=by have b:=zQ l 15 Zb;have a:=Pt (l:=l) (by rw[(mP.1 h).1];decide);rw[(mP.1 h).1]at a;rw[low]at a;omega
theorem kj.next{l:S I}{c b x:I}(h:kj l c b)(e:x≤1):kj l (eV l c b x).1.1 (eV l c b x).1.2:=by unfold eV;split;{rename_i a;have f:(2:I)^(b+1)=2*2^b:=by{rw[Yy,Z5]};have g:=h.2.2.1;refine⟨h.1,?_,by show 2*c+x<2^(b+1);omega,a⟩;(rcases Z9 (b+1) 15 with d|d);{exact d};{have:b=14:=by{have:=h.2.1;omega};subst this;have:=US h.1;have:(2:I)^14=16384:=by{decide};simp only[YM]at a;omega}};{exact kj.zero h.1}
theorem nG{l:S I}{c b x s:I}(j:l.length=258)(h:kj l c b)(k:x≤1)(a:(eV l c b x).2=O s):s<258∧l.getD s 0=b+1∧code l s=2*c+x∧b<15:=by unfold eV at a;split at a;{cases a};{rename_i m;have f:s=ya l (b+1) (2*c+x-fst l (b+1)):=by{injection a with a;exact a.symm};have g:=h.ge;have o:many l (b+1)=l.count (b+1):=by{unfold many;rw[y Za]};obtain⟨i,d,e⟩:=Fc (l:=l) (n:=b+1) (p:=2*c+x-fst l (b+1)) Za;rw[←f]at i d e;refine⟨Za,d,?_,h.2.1⟩;unfold code;rw[d,e];omega}
theorem M7{l:S I}{c b x:I}(a:(eV l c b x).2=V):(eV l c b x).1=(2*c+x,b+1):=by unfold eV at a⊢;split;{rfl};{grind}
theorem O3{l:S I}{c b x s:I}(a:(eV l c b x).2=O s):(eV l c b x).1=(0,0):=by unfold eV at a⊢;split;{grind};{rfl}
theorem xi{l:S I}(a:l.length≤258):∀n,fst l n+516≤516*2^n|0=>by simp[fst]|n+1=>by have:=xi a n;have b:many l n≤258:=by{unfold many;split;{omega};{grind}};rw[fst,Yy];omega
theorem yI{l:S I}(a:l.length≤258)(n:I):many l n≤258:=by unfold many;split;{omega};{grind}
end
end Go.Srt
namespace Go.Proofs.Q9
section
open Go Go.Vc Go.Srt
section
variable{E w:G}{F:S HP}
theorem Ek{l:S I}{i:I}{k:Xt}(h:i<l.length):(ai k l)[((i:I):H).toNat]?=O (Sc.enc (.int k) (l.getD i 0:H)):=by rw[Zj,gH h,dO h]
theorem Iy{l:S I}{K:Xf→G→Prop}(h:Hp E w F)(a:l.length=258)(d:∀w',Hp E w' F→K (XC (bl l=32768)) w'):Cl Zf [kB] 60 ⟨[.agg (ai .u8 l)]⟩ w K:=by refine zx.ok _ _ _ ?_;refine Nw.mk h λb f c=>Ld.arr c (by rw[aW,a]) (yc c a λg e=>?_);have:((bl l:H)==32768)=XC (bl l=32768):=by{rw[YI];simp;omega};rw[this];exact d _ e.drop
theorem uz{l:S I}{K:Xf→G→Prop}(h:Hp E w F)(d:l.length=258)(e:∀w',Hp E w' F→K (cA l) w'):Cl Zf [kB] 23 ⟨[.agg (ai .u8 l)]⟩ w K:=by refine Gy.ok _ _ _ ?_;refine Nw.mk h λb g f=>Ld.arr f (by rw[aW,d]) (Iy f d λj a=>aa.mk (λc=>?_) λc=>?_);{refine aK.rd (s:=.int .u8) a Zb Zb (l.getD 257 0:H) (Ek (i:=257) Za) ?_;have:XC ((l.getD 257 0:H)>0)=cA l:=by{unfold cA;rw[c,Xf.true_and,YI,XB,XB];omega};rw[this];exact e _ a.drop};{have:J=cA l:=by{unfold cA;rw[c,Xf.false_and]};rw[this];exact e _ a.drop}
abbrev Pr:S Sc:=[.int .i64,.int .i64,.int .i64,.int .i64,.int .i64,.int .i64,.int .i64,.int .i64,.int .i64,.int .i64,.int .i64,.int .i64,.int .i64,.int .i64,.int .i64,.int .i64]
def t16(f:I→H):TT Pr:=(f 0,f 1,f 2,f 3,f 4,f 5,f 6,f 7,f 8,f 9,f 10,f 11,f 12,f 13,f 14,f 15,())
theorem Vh(f:I→H):ed 16 f=⟨gG Pr (t16 f)⟩:=Z
theorem SM(f:I→H):∀v∈[(.int .i64 (f 0):Q),.int .i64 (f 1),.int .i64 (f 2),.int .i64 (f 3),.int .i64 (f 4),.int .i64 (f 5),.int .i64 (f 6),.int .i64 (f 7),.int .i64 (f 8),.int .i64 (f 9),.int .i64 (f 10),.int .i64 (f 11),.int .i64 (f 12),.int .i64 (f 13),.int .i64 (f 14),.int .i64 (f 15)],aC v=U:=by intro v a;simp only[YU,S.not_mem_nil,or_false]at a;rcases a with rfl|rfl|rfl|rfl|rfl|rfl|rfl|rfl|rfl|rfl|rfl|rfl|rfl|rfl|rfl|rfl<;>rfl
theorem wN:(⟨Zi 16 (.int .i64 0)⟩:Xe Q)=ed 16 λ_=>0:=Z
theorem Oh{l:S I}{K:TT Pr→G→Prop}(h:Hp E w F)(o:l.length=258)(m:∀x∈l,x≤15)(q:∀w',Hp E w' F→K (t16 λj=>(l.count j:H)) w'):Cl Zf [.st Pr] 168 ⟨[.agg (ai .u8 l)]⟩ w K:=by refine EJ.ok _ _ _ ?_;rw[wN];refine Nw.mk h λb z r=>Nw.mk r λu A p=>Ld.arr p.p1 (by rw[aW,o]) ?_;refine⟨λi w'=>∃k:I,i=(k:H)∧k≤258∧Hp E w' (af u (.cells (ed 16 λj=>((l.take k).count j:H)) 272 (0,0))::F),λi _=>258-i.toNat,⟨0,Z,Za,?_⟩,?_⟩;{have:=p.p1.drop;rwa [gw (g:=λj=>((l.take 0).count j:H)) λi _=>Zd]at this};rintro i w' ⟨k,rfl,hk,hh⟩;refine aa.mk (λf=>?_) λa=>?_;{have f:k<258:=by{have:=Xk f;omega};have c:k<l.length:=by{omega};have n:∀x,(l.take k).count x≤258:=λx=>Yf S.count_le_length Ze;refine eA.rd (s:=.int .u8) Za Za (l[k]:H) (by rw[Zj];exact gH c) ?_;have v:=m _ (Zu c);rw[ae (x:=(l[k]:H)) Za];refine aa.t (Xo Za) ?_;refine aK.rd (s:=.int .i64) hh Za Za ((l.take k).count l[k]:H) (by rw[Zj];exact wD Za) ?_;have:=n l[k];refine aK.wr hh Za Za eh Z λy d=>?_;rw[ae Za,Zj,qB]at d;rw[ae Za];refine⟨⟨k+1,Z,Za,?_⟩,by dsimp only;omega⟩;rw[gw (g:=λj=>((l.take (k+1)).count j:H))]at d;{exact d};{intro j B;rw[ey c];by_cases e:j=l[k];{grind};{grind}}};{have a:k=258:=by{have:=Xj a;omega};subst a;rw[←o,Yo]at hh;refine Ld.rI hh (t16 λj=>(l.count j:H)) (Vh _) (an.ay hh (by rw[eh];rfl) (SM λj=>(l.count j:H)) λy d=>?_);exact Ld.rI d (t16 λj=>(l.count j:H)) Z (q _ d.drop)}
theorem AW{l:S I}{n:I}{K:H→H→G→Prop}(h:Hp E w F)(r:l.length=258)(p:∀x∈l,x≤15)(D:n≤15)(A:∀w',Hp E w' F→K (Srt.fst l n:H) (many l n:H) w'):Cl Zf [kI,kI] 116 ⟨[.agg (ai .u8 l),.int .i64 (n:H)]⟩ w K:=by refine yk.ok _ _ _ _ ?_;refine Nw.mk h λb L q=>Ld.arr q (by rw[aW,r]) (Oh q.drop r p λM t=>?_);rw[wN];refine Nw.mk t λu N v=>an.ay v (by rw[eh];rfl) (SM λj=>(l.count j:H)) λB o=>?_;have o:Hp E B (af u (.cells (ed 16 λj=>(l.count j:H)) 272 (0,0))::F):=o;refine aK.wr o Zb Zb eh Z λP y=>?_;rw[show(0:H).toNat=0 from Z,qB,gw (g:=λj=>(many l j:H)) λi _=>by unfold many;by_cases e:i=0<;>simp[e]]at y;refine⟨λc m w'=>∃k:I,m=(k:H)+1∧k≤n∧c=(Srt.fst l k:H)∧Hp E w' (af u (.cells (ed 16 λj=>(many l j:H)) 272 (0,0))::F),λ_ m _=>18-m.toNat,⟨0,Z,Za,Z,y⟩,?_⟩;rintro c m w' ⟨k,rfl,hk,rfl,hh⟩;refine aa.mk (λf=>?_) λd=>?_;{have f:k<n:=by{have:=Xk f;omega};rw[ae (x:=(k:H)+1-1) Za,show(k:H)+1-1=(k:H) by omega];refine aK.rd (s:=.int .i64) hh Za Za (many l k:H) (by rw[Zj];exact wD Za) ?_;have q:=xi (l:=l) Za k;have t:=yI (l:=l) Za k;have v:(2:I)^k≤2^15:=ZO Zb Za;have o:(2:I)^15=32768:=by{decide};rw[ae (x:=(Srt.fst l k:H)+(many l k:H)) Za,ae (x:=(k:H)+1+1) Za];have e:=cO (k:=.i64) (a:=Srt.fst l k+many l k) (b:=1) Zb (by have:YA .i64=9223372036854775807:=Z;omega);have C:a7 .i64 ((Srt.fst l k:H)+(many l k:H)) 1=(Srt.fst l (k+1):H):=by{rw[show(Srt.fst l k:H)+(many l k:H)=((Srt.fst l k+many l k:I):H) by omega,show(1:H)=((1:I):H)from Z,e,Srt.fst];omega};rw[C];exact⟨Zb,⟨k+1,Za,Za,Z,hh⟩,by dsimp only;omega⟩};{have d:k=n:=by{have:=Xj d;omega};subst d;refine aJ.mk hh λQ z=>aK.rd (s:=.int .i64) z Za Za (many l k:H) (by rw[Zj];exact wD Za) (A _ z.drop)}
theorem Sz{l:S I}{n p:I}{K:H→G→Prop}(h:Hp E w F)(r:l.length=258)(j:∀x∈l,x≤15)(t:p<l.count n)(u:∀w',Hp E w' F→K (ya l n p:H) w'):Cl Zf [kI] 117 ⟨[.agg (ai .u8 l),.int .i64 (n:H),.int .i64 (p:H)]⟩ w K:=by refine Fz.ok _ _ _ _ _ ?_;have m:=Fc t;refine Nw.mk h λb B o=>Ld.arr o (by rw[aW,r]) ?_;have v:l.count n≤258:=Yf S.count_le_length Za;refine⟨λq i w'=>∃k:I,i=(k:H)∧k≤258∧(l.take k).count n≤p∧q=(p:H)-((l.take k).count n:H)∧Hp E w' F,λ_ i _=>258-i.toNat,⟨0,Z,Za,Zd,Zd,o.drop⟩,?_⟩;rintro q i w' ⟨k,rfl,hk,hc,rfl,hh⟩;refine aa.mk (λf=>?_) λz=>?_;{have f:k<258:=by{have:=Xk f;omega};have a:k<l.length:=by{omega};have A:=j _ (Zu a);have g:=ey a n;refine eA.rd (s:=.int .u8) Za Za (l[k]:H) (by rw[Zj];exact gH a) ?_;rw[ae (x:=(l[k]:H)) Za,ae (x:=(k:H)+1) Za];refine aa.mk (λc=>?_) λd=>aa.mk (λe=>?_) λe=>?_;{have c:l[k]≠n:=by{rw[bne_iff_ne]at c;omega};rw[y c]at g;exact⟨⟨k+1,Z,Za,Za,Za,hh⟩,by dsimp only;omega⟩};{have d:l[k]=n:=by{have:=bne_eq_false_iff_eq.1 d;omega};have e:(l.take k).count n=p:=by{rw[XA]at e;omega};have:k=ya l n p:=by{refine Eu a m.1 Ze ?_;rw[m.2.2];unfold iA;rw[dO a,d,e]};rw[this];exact u _ hh};{have d:l[k]=n:=by{have:=bne_eq_false_iff_eq.1 d;omega};have e:(l.take k).count n≠p:=by{have:=beq_eq_false_iff_ne.1 e;omega};rw[Xh d]at g;rw[ae Za];exact⟨⟨k+1,Z,Za,Za,Za,hh⟩,by dsimp only;omega⟩}};{grind}
def dI(l:S I)(c b:I):Xe Q:=⟨(l.map λ(n:I)=>Yk .u8 (n:H))++[.int .i64 (c:H),.int .i64 (b:H)]⟩
theorem cg{l:S I}{c b:I}(a:l.length=258):(dI l c b).size=260:=by simp[dI,a]
theorem cS{l:S I}{c b:I}:∀v∈(dI l c b).toList,aC v=U:=by intro v a;unfold dI at a;simp only[Y9,S.mem_map,YU,S.not_mem_nil,or_false]at a;rcases a with⟨n,_,rfl⟩|rfl|rfl<;>rfl
theorem fG(l:S I)(c b:I):dI l c b=⟨[]++(l.map λ(n:I)=>Yk .u8 (n:H))++[.int .i64 (c:H),.int .i64 (b:H)]⟩:=Z
theorem uF{l:S I}{c b:I}(a:l.length=258):(dI l c b)[258]?=O (Sc.enc (.int .i64) (c:H)):=by unfold dI;rw[S.getElem?_toArray,ZD (by simp[a])];simp[a]
theorem rK{l:S I}{c b:I}(a:l.length=258):(dI l c b)[259]?=O (Sc.enc (.int .i64) (b:H)):=by unfold dI;rw[S.getElem?_toArray,ZD (by simp[a])];simp[a]
theorem E9:(⟨Zi 258 (.int .u8 0)++[.int .i64 0,.int .i64 0]⟩:Xe Q)=dI (Zi 258 0) 0 0:=by unfold dI;rw[S.map_replicate];rfl
theorem vp(a:S (I×Q)):Tryz.prog.built 135 a=YB (#[(0,258),(258,1),(259,1)][·]?) ⟨Zi 258 (.int .u8 0)++[.int .i64 0,.int .i64 0]⟩ a:=Zc
theorem Eb{l:S I}(a:l.length=258)(rest:S (I×Q)):YB (#[(0,258),(258,1),(259,1)][·]?) ⟨Zi 258 (.int .u8 0)++[.int .i64 0,.int .i64 0]⟩ ((0,.agg (ai .u8 l))::rest)=YB (#[(0,258),(258,1),(259,1)][·]?) (dI l 0 0) rest:=by have:=iD (place:=(#[(0,258),(258,1),(259,1)][·]?)) (i:=0) (v:=.agg (ai .u8 l)) (rest:=rest) (pre:=[]) (aN:=Zi 258 (.int .u8 0)) (post:=[.int .i64 0,.int .i64 0]) Z Z ZK (by show(ai .u8 l).size=_;rw[aW,a]);exact this
theorem SJ{l:S I}{c a b:I}(d:l.length=258)(rest:S (I×Q)):YB (#[(0,258),(258,1),(259,1)][·]?) (dI l a b) ((1,.int .i64 (c:H))::rest)=YB (#[(0,258),(258,1),(259,1)][·]?) (dI l c b) rest:=by have:=iD (place:=(#[(0,258),(258,1),(259,1)][·]?)) (i:=1) (v:=.int .i64 (c:H)) (rest:=rest) (pre:=l.map λ(n:I)=>Yk .u8 (n:H)) (aN:=[.int .i64 (a:H)]) (post:=[.int .i64 (b:H)]) Z (by simp[d]) Z Z;unfold dI;rw[show(l.map λ(n:I)=>Yk .u8 (n:H))++[.int .i64 (a:H),.int .i64 (b:H)]=(l.map λ(n:I)=>Yk .u8 (n:H))++[.int .i64 (a:H)]++[.int .i64 (b:H)] by simp,this];congr 2;simp[Q.cells]
theorem Sw{l:S I}{c a b:I}(d:l.length=258)(rest:S (I×Q)):YB (#[(0,258),(258,1),(259,1)][·]?) (dI l c a) ((2,.int .i64 (b:H))::rest)=YB (#[(0,258),(258,1),(259,1)][·]?) (dI l c b) rest:=by have:=iD (place:=(#[(0,258),(258,1),(259,1)][·]?)) (i:=2) (v:=.int .i64 (b:H)) (rest:=rest) (pre:=(l.map λ(n:I)=>Yk .u8 (n:H))++[.int .i64 (c:H)]) (aN:=[.int .i64 (a:H)]) (post:=[]) Z (by simp[d]) Z Z;unfold dI;rw[show(l.map λ(n:I)=>Yk .u8 (n:H))++[.int .i64 (c:H),.int .i64 (a:H)]=(l.map λ(n:I)=>Yk .u8 (n:H))++[.int .i64 (c:H)]++[.int .i64 (a:H)]++[] by simp,this];congr 2;simp[Q.cells]
theorem cR.Tv{l:S I}{K:Xe Q→Prop}(a:l.length=258)(b:K (dI l 0 0)):cR Zf 135 [(0,.agg (ai .u8 l))] K:=⟨dI l 0 0,by rw[vp,Eb a];rfl,b⟩
theorem cR.WL{l:S I}{c b:I}{K:Xe Q→Prop}(a:l.length=258)(d:K (dI l c b)):cR Zf 135 [(0,.agg (ai .u8 l)),(1,.int .i64 (c:H)),(2,.int .i64 (b:H))] K:=⟨dI l c b,by rw[vp,Eb a,SJ a,Sw a];rfl,d⟩
theorem cR.Wy{K:Xe Q→Prop}(a:K (dI (Zi 258 0) 0 0)):cR Zf 135 [] K:=⟨_,vp [],by rw[E9];exact a⟩
theorem Px{l:S I}{K:Xe Q→H→G→Prop}(h:Hp E w F)(a:l.length=258)(e:cA l=J→∀w',Hp E w' F→K (dI (Zi 258 0) 0 0) 2 w')(f:cA l=U→∀w',Hp E w' F→K (dI l 0 0) 0 w'):Cl Zf [.arr 260,kI] 64 ⟨[.agg (ai .u8 l)]⟩ w K:=by refine BA.ok _ _ _ ?_;rw[E9];have d:(dI (Zi 258 0) 0 0).size=260:=cg ZK;refine Nw.mk h λb n k=>Nw.mk k λo p j=>Ld.arr j.p1 (by rw[aW,a]) (uz j a λq g=>aa.mk (λi=>?_) λi=>?_);{exact cR.Wy (ar.ay g d d cS λm c=>Ld.arr c d (e (by simpa using i) _ c.drop.drop))};{exact Ld.arr g.p1 (by rw[aW,a]) (cR.Tv a (ar.ay g d (cg a) cS λm c=>Ld.arr c (cg a) (f (by simpa using i) _ c.drop.drop)))}
theorem TL{l:S I}(h:cA l=U):∀x∈l,x≤15:=λx a=>by obtain⟨i,b,rfl⟩:=ZR a;have:=ig (l:=l) (by rw[(mP.1 h).1];decide) i;rwa [dO b]at this
theorem JR{l:S I}{c b:I}{K:Xf→G→Prop}(h:Hp E w F)(d:l.length=258)(q:b<15)(o:c<2^b)(j:∀w',Hp E w' F→K (cA l&&XC (Srt.fst l b+many l b≤c)) w'):Cl Zf [kB] 115 ⟨[.agg (dI l c b)]⟩ w K:=by refine xI.ok _ _ _ ?_;simp only[bq,ak,Zk];refine Nw.mk h λr t k=>?_;rw[fG]at k;have i:(l.map λ(n:I)=>Yk .u8 (n:H)).length=258:=by{simp[d]};refine Ld.sub k Z i (uz k d λu a=>aa.mk (λg=>?_) λg=>?_);{have g:cA l=J:=by{simpa using g};rw[g,Xf.false_and]at j;exact j _ a.drop};have g:cA l=U:=by{simpa using g};rw[g,Xf.true_and]at j;rw[←fG]at a;have v:(2:I)^b≤2^15:=ZO Zb Za;have p:(2:I)^15=32768:=Zb;refine Ld.ay (s:=.int .i64) a (b:H) (rK d) (aa.f (Xp Za) ?_);refine Ld.ay (s:=.int .i64) a (b:H) (rK d) (aa.f (Xp Za) ?_);refine Ld.ay (s:=.int .i64) a (c:H) (uF d) (aa.f (Xp Za) ?_);refine Ld.ay (s:=.int .i64) a (c:H) (uF d) (Ld.ay (s:=.int .i64) a (b:H) (rK d) ⟨Za,?_⟩);rw[bT (by have:Xt.bits .i64=64:=Z;omega),YQ o];refine aa.f Zb ?_;rw[fG]at a;refine Ld.sub a Z i ?_;rw[←fG]at a;refine Ld.ay (s:=.int .i64) a (b:H) (rK d) (AW a d (TL g) Za λx m=>Ld.ay (s:=.int .i64) m (c:H) (uF d) ?_);have k:=xi (l:=l) Za b;have a:=yI (l:=l) Za b;rw[ae Za];have e:XC ((c:H)≥(Srt.fst l b:H)+(many l b:H))=XC (Srt.fst l b+many l b≤c):=by{rw[YI,XB,XB];omega};rw[e];exact j _ m.drop
theorem KQ{c x:I}(f:x≤1)(g:c<16384):gN .i64 (a7 .i64 (c:H) 1) (x:H)=((2*c+x:I):H):=by have h:YA .i64=9223372036854775807:=Z;have e:=cO (k:=.i64) (a:=c) (b:=1) Zb Za;have d:c*2^1|||x=2*c+x:=by{have:=YJ (i:=1) (b:=x) Za c;rw[Z5 c,←this,Z5]};rw[show(1:H)=((1:I):H)from Z,e,k7 Za Za Ze,d]
theorem DY{l:S I}{c b x:I}{K:Xe Q→H→Xf→G→Prop}(h:Hp E w F)(a:l.length=258)(j:kj l c b)(C:x≤1)(m:∀w',Hp E w' F→K (dI l (eV l c b x).1.1 (eV l c b x).1.2) (((eV l c b x).2.getD 0:I):H) (eV l c b x).2.isSome w'):Cl Zf [.arr 260,kI,kB] 65 ⟨[.agg (dI l c b),.int .i64 (x:H)]⟩ w K:=by refine yN.ok _ _ _ _ ?_;simp only[bq,ak,Zk];rw[E9];have D:(dI (Zi 258 0) 0 0).size=260:=cg ZK;have d:(l.map λ(n:I)=>Yk .u8 (n:H)).length=258:=by{simp[a]};have hp:(2:I)^b≤2^14:=ZO Zb (by have:=j.2.1;omega);have L:(2:I)^14=16384:=Zb;have M:=j.2.2.1;have N:=j.2.1;have k:=TL j.1;refine Nw.mk h λb4 w1 P=>Nw.mk P λb6 w2 B=>?_;have R:aI .i64 (x:H) 1=0:=by{rw[show(1:H)=((1:I):H)from Z,bT Zb];omega};rw[R];refine⟨Zb,aa.f Zb ?_⟩;refine Ld.arr B.p1 (cg a) (JR B a N M λw3 u=>?_);refine aa.f (by rw[j.1,Xo j.2.2.2];rfl) ?_;have o:=u.p1;rw[fG l c b]at o;refine Ld.sub o Z d (Ld.ay (s:=.int .i64) u.p1 (c:H) (uF a) ⟨Zb,Ld.ay (s:=.int .i64) u.p1 (b:H) (rK a) ?_⟩);rw[KQ C Za,ae (x:=(b:H)+1) Za];refine cR.WL (b:=b+1) a (ar.ay u D (cg a) cS λw4 A=>?_);have p:=A;rw[fG l (2*c+x) (b+1)]at p;refine Ld.sub p Z d (Ld.ay (s:=.int .i64) A ((b+1:I):H) (rK a) (AW A a k Za λw5 v=>Ld.ay (s:=.int .i64) v ((2*c+x:I):H) (uF a) ?_));have hf:=xi (l:=l) Za (b+1);have hm:=yI (l:=l) Za (b+1);have T:(2:I)^(b+1)=2*2^b:=by{rw[Yy,Z5]};rw[ae Za];by_cases hcase:Srt.fst l (b+1)+many l (b+1)≤2*c+x;{refine aa.t (Xo Za) (Ld.arr v (cg a) (ar.ay v (cg a) (cg a) cS λW i=>Ld.arr i (cg a) ?_));have e:eV l c b x=((2*c+x,b+1),V):=by{unfold eV;rw[Xh hcase]};rw[e]at m;exact m _ i.drop.drop};{refine aa.f (Xp Za) ?_;have e:eV l c b x=((0,0),O (ya l (b+1) (2*c+x-Srt.fst l (b+1)))):=by{unfold eV;rw[y hcase]};rw[e]at m;have X:=j.ge;have Y:many l (b+1)=l.count (b+1):=by{unfold many;rw[y Za]};refine aJ.mk v λW i=>?_;have q:=i;rw[fG l (2*c+x) (b+1)]at q;refine Ld.sub q Z d (Ld.ay (s:=.int .i64) i ((b+1:I):H) (rK a) (Ld.ay (s:=.int .i64) i ((2*c+x:I):H) (uF a) ?_));rw[ae (x:=((2*c+x:I):H)-(Srt.fst l (b+1):H)) Za,show((2*c+x:I):H)-(Srt.fst l (b+1):H)=((2*c+x-Srt.fst l (b+1):I):H) by omega];constructor;{have g:=i.p1;rw[fG l c b]at g;refine Ld.sub g Z d (cR.Tv a (Sz i a k Za λw7 z=>?_));exact ar.ay z (cg a) (cg a) cS λw8 r=>Ld.arr r (cg a) (m _ r.drop.drop)};{refine Sz i a k Za λw7 z=>?_;have g:=z.p1;rw[fG l c b]at g;refine Ld.sub g Z d (cR.Tv a ?_);exact ar.ay z (cg a) (cg a) cS λw8 r=>Ld.arr r (cg a) (m _ r.drop.drop)}}
end
end
end Go.Proofs.Q9
namespace Go.Srt
section
def lH(l:S I)(z:H):Xf:=K (0≤z)&&K (z<258)&&K (0<l.getD z.toNat 0)
def me(l:S I)(zs:S H):Xf:=zs.all (lH l)
def kC(l:S I)(zs:S H):S I:=enc l (zs.map H.toNat)
theorem ua{l:S I}{z:H}:lH l z=U↔0≤z∧z<258∧0<l.getD z.toNat 0:=by simp[lH,and_assoc]
theorem DK{l:S I}{zs:S H}(h:me l zs=U){z:H}(a:z∈zs):lH l z=U:=List.all_eq_true.1 h z a
theorem Np{l:S I}{zs:S H}{k:I}(a:k<zs.length)(h:lH l zs[k]=J):me l zs=J:=by cases ha:me l zs with|false=>rfl|true=>have:=DK ha (Zu a);rw[h]at this;cases this
theorem An{zs:S H}{k:I}(a:k<zs.length):zs.take (k+1)=zs.take k++[zs[k]]:=by rw[Zv,Zg a];rfl
theorem Kh{l:S I}{zs:S H}{k:I}(a:k<zs.length)(h:me l (zs.take k)=U)(b:lH l zs[k]=U):me l (zs.take (k+1))=U:=by unfold me at h⊢;rw[An a,S.all_append,h];simp[b]
theorem z6{l:S I}{zs:S H}{k:I}(a:k<zs.length):kC l (zs.take (k+1))=kC l (zs.take k)++DM l zs[k].toNat:=by unfold kC;rw[An a,ZJ,Qj];congr 1;simp[enc]
theorem CZ(l:S I)(s:I):(DM l s).length=l.getD s 0:=pk _ _
theorem lh{l:S I}(a:bl l≤32768):∀zs:S H,(kC l zs).length≤15*zs.length|[]=>by simp[kC,enc]|z::zs=>by have:=lh a zs;have b:=ig a z.toNat;unfold kC at this⊢;rw[Yt,Dc,Zh,CZ,Zw];omega
end
end Go.Srt
namespace Go.Proofs.Q9
section
open Go Go.Vc Go.Srt Go.Bits
section
variable{E w:G}{F:S HP}
theorem RM{l:S I}{s:Sl}{zs:S H}{K:H→H→G→Prop}(h:Hp E w F)(y:l.length=258)(z:ad F (aD 1 s (zs.map vI)))(N:zs.length≤100000)(o:¬(bl l≤32768∧me l zs=U)→∀w',Hp E w' F→K 0 2 w')(t:bl l≤32768→me l zs=U→∀w',Hp E w' F→K ((kC l zs).length:H) 0 w'):Cl Zf [kI,kI] 97 ⟨[.agg (ai .u8 l),.slice s.base s.len s.cap]⟩ w K:=by refine zX.ok _ _ _ _ ?_;have u:=(h.ao z).1;simp only[Zm,Zt]at u;refine Nw.mk h λb P d=>Ld.arr d (by rw[aW,y]) (vU d y λB A=>aa.mk (λe=>o (λa=>by simp[a.1]at e) B A.drop) λe=>?_);have e:bl l≤32768:=by{simpa using e};refine⟨λn i w'=>∃k:I,i=(k:H)∧k≤zs.length∧n=((kC l (zs.take k)).length:H)∧me l (zs.take k)=U∧Hp E w' (af b (.cells (ai .u8 l) 50 (0,0))::F),λ_ i _=>zs.length-i.toNat,⟨0,Z,Za,Z,Z,A⟩,?_⟩;rintro n i w' ⟨k,rfl,hk,rfl,hg,a⟩;refine aa.mk (λc=>?_) λf=>?_;{have c:k<zs.length:=by{have:=Xk c;omega};have g:lH l zs[k]=J→K 0 2 w':=λC=>o (λa=>by rw[Np c C]at a;exact Xr a.2 Zb) w' a.drop;refine au.rd (a.ao (ad.cons z)) Za Za λq Q D=>Ld.sc (s:=.int .i64) zs[k] (by rw[D];simp[vI,Sc.enc]) ?_;refine aa.mk (λr=>g ?_) λr=>aa.mk (λd=>g ?_) λd=>?_;{have:=Xk r;unfold lH;rw[Xp (show¬0≤zs[k] by omega)];rfl};{have:=Xk d;unfold lH;rw[Xp (show¬zs[k]<258 by omega)];simp};have r:=Xj r;have d:=Xj d;obtain⟨m,L⟩:∃m:I,zs[k]=(m:H):=⟨zs[k].toNat,Za⟩;have j:zs[k].toNat=m:=by{omega};rw[L];refine aK.rd (s:=.int .u8) a Za Za (l.getD m 0:H) (Ek Za) (aa.mk (λp=>g ?_) λp=>?_);{have:l.getD m 0=0:=by{rw[XA]at p;omega};unfold lH;rw[j,this];simp};have p:0<l.getD m 0:=by{have:=beq_eq_false_iff_ne.1 p;omega};refine aK.rd (s:=.int .u8) a Za Za (l.getD m 0:H) (Ek Za) ?_;have M:=ig e m;have v:=lh e (zs.take k);rw[Zz]at v;rw[ae (x:=(l.getD m 0:H)) Za,ae (x:=((kC l (zs.take k)).length:H)+(l.getD m 0:H)) Za,ae Za];refine⟨⟨k+1,Z,Za,?_,Kh c hg (ua.2 ⟨Za,Za,by rw[j];exact p⟩),a⟩,by dsimp only;omega⟩;rw[z6 c,Zh,CZ,j];omega};{have f:k=zs.length:=by{have:=Xj f;omega};subst f;rw[Yo]at hg⊢;exact t e hg w' a.drop}
theorem Lu{l:S I}{s:Sl}{zs:S H}{b:I}{a:S I}{K:H→G→Prop}(h:Hp E w (Wr b a::F))(g:l.length=258)(r:ad F (aD 1 s (zs.map vI)))(W:zs.length≤100000)(P:a.length≤100000000)(u:¬(bl l≤32768∧me l zs=U)→∀w',Hp E w' (Wr b a::F)→K 2 w')(v:bl l≤32768→me l zs=U→∀w',Hp E w' (Wr b (a++kC l zs)::F)→K 0 w'):Cl Zf [kI] 45 ⟨[.pointer (O ⟨b,0,V⟩),.agg (ai .u8 l),.slice s.base s.len s.cap]⟩ w K:=by refine BI.ok _ _ _ _ _ ?_;simp only[bq];have y:=(h.ao (ad.cons r)).1;simp only[Zm,Zt]at y;rw[zo];refine Nw.mk h λX w1 Q=>Ld.arr Q (by rw[aW,g]) (RM Q g (ad.cons (ad.cons r)) W (λz R o=>?_) λj T R o=>?_);{exact aa.f Z (aa.t Zb (u z R o.drop))};refine aa.f Z (aa.f Zb (Ld.arr o (by rw[aW,g]) (P0 o g (λz=>Xr j z) λ_ p w3 A Y=>?_)));refine Nw.mk Y λB w4 h4=>ar.ay h4 (by rw[aW];simp) (by rw[aW,dZ]) fC λw5 h5=>?_;refine⟨λi w'=>∃k:I,i=(k:H)∧k≤zs.length∧Hp E w' (Wr b (a++kC l (zs.take k))::af B (.cells (ai .u32 (eo l p p.length)) 185 (0,0))::af X (.cells (ai .u8 l) 50 (0,0))::F),λi _=>zs.length-i.toNat,⟨0,Z,Za,?_⟩,?_⟩;{rw[YZ];have e:kC l []=[]:=Z;rw[e,ZF];exact h5.p2};rintro i w' ⟨k,rfl,hk,hh⟩;refine aa.mk (λc=>?_) λd=>?_;{have c:k<zs.length:=by{have:=Xk c;omega};refine au.rd (hh.ao (ad.cons (ad.cons (ad.cons r)))) Za Za λq hq hc=>Ld.sc (s:=.int .i64) zs[k] (by rw[hc];simp[vI,Sc.enc]) ?_;obtain⟨g1,g2,C⟩:=ua.1 (DK T (Zu c));obtain⟨m,hm⟩:∃m:I,zs[k]=(m:H):=⟨zs[k].toNat,Za⟩;have n:zs[k].toNat=m:=by{omega};rw[n]at C;rw[hm];refine aJ.mk hh λw6 D=>?_;refine aK.rd (s:=.int .u32) D.p1 Za Za ((eo l p p.length).getD m 0:H) (Ek (by rw[dZ];omega)) ?_;refine aK.rd (s:=.int .u8) D.p2 Za Za (l.getD m 0:H) (Ek Za) ?_;have L:=ig j m;rw[ae (x:=(l.getD m 0:H)) Za,Ju g j A Za C,ae (x:=(k:H)+1) Za];have M:=Hm g j Za C;have hp:2^l.getD m 0≤2^15:=ZO Zb L;have hp2:(2:I)^15=32768:=by{decide};have N:=lh j (zs.take k);rw[Zz]at N;refine L9 D Za M Za (by rw[Zh,ax];omega) λw7 h7=>⟨⟨k+1,Za,Za,?_⟩,by dsimp only;omega⟩;rw[z6 c,n,←Zn];exact h7};{have d:k=zs.length:=by{have:=Xj d;omega};subst d;rw[Yo]at hh;exact v j T w' (hh.p1.drop.p1.drop)}
end
end
end Go.Proofs.Q9
namespace Go.af
section
open Go.Inc Go.Srt Go.Sym Go.Bits
structure CS where
 c:I
 n:I
 d:DS
 acc:S I
def dw(l:S I)(s:CS)(x:I):rX CS (S I) I:=match dH l (2*s.c+x) (s.n+1)with|none=>.more ⟨2*s.c+x,s.n+1,s.d,s.acc⟩|some y=>match cq s.d y with|none=>.bad 160|some (_,t,true)=>.fin (s.acc++t)|some (a,t,false)=>.more ⟨0,0,a,s.acc++t⟩
theorem zR{l:S I}{s:CS}{x:I}(h:dH l (2*s.c+x) (s.n+1)=V):dw l s x=.more ⟨2*s.c+x,s.n+1,s.d,s.acc⟩:=by unfold dw;rw[h]
theorem ze{l:S I}{s:CS}{x y:I}(h:dH l (2*s.c+x) (s.n+1)=O y):dw l s x=match cq s.d y with|none=>.bad 160|some (_,t,true)=>.fin (s.acc++t)|some (a,t,false)=>.more ⟨0,0,a,s.acc++t⟩:=by unfold dw;rw[h]
section
variable{l:S I}
theorem Hj(g:l.length=258)(i:bl l≤32768){s:I}(j:kc l s)(a acc:S I)(d:DS):∀k m,m+k=l.getD s 0→0<k→run (dw l) ⟨code l s/2^(l.getD s 0-m),m,d,acc⟩ ((bn (l.getD s 0) (code l s)).drop m++a)=(match cq d s with|none=>.bad 160|some (_,t,true)=>.fin (acc++t) a|some (q,t,false)=>run (dw l) ⟨0,0,q,acc++t⟩ a)|0,_,_,h=>Za|k+1,m,x,_=>by have u:=ig i s;have r:=pk (l.getD s 0) (code l s);have f:m<(bn (l.getD s 0) (code l s)).length:=Za;rw[Zx f,ZT];have v:(bn (l.getD s 0) (code l s))[m]=code l s/2^(l.getD s 0-1-m)%2:=by{rw[←C3 _ _ _ Za,dO f]};have n:2*(code l s/2^(l.getD s 0-m))+(bn (l.getD s 0) (code l s))[m]=code l s/2^(l.getD s 0-(m+1)):=by{rw[v,show l.getD s 0-m=(l.getD s 0-1-m)+1 by omega,Yy,←I.div_div_eq_div_mul,show l.getD s 0-(m+1)=l.getD s 0-1-m by omega];omega};by_cases e:k=0;{subst e;have w:m+1=l.getD s 0:=by{omega};have o:dH l (2*(code l s/2^(l.getD s 0-m))+(bn (l.getD s 0) (code l s))[m]) (m+1)=O s:=by{rw[n,w,I.sub_self,I.pow_zero,I.div_one,yB g j]};have c:=ze (s:=⟨code l s/2^(l.getD s 0-m),m,d,acc⟩) o;rw[cG,c,ZP Za,ZV];cases hd:cq d s with|none=>rfl|some p=>obtain⟨q,t,b⟩:=p;cases b<;>rfl};{have o:dH l (2*(code l s/2^(l.getD s 0-m))+(bn (l.getD s 0) (code l s))[m]) (m+1)=V:=by{rw[n,Mh g i j Za]};have c:=zR (s:=⟨code l s/2^(l.getD s 0-m),m,d,acc⟩) o;rw[cp c];simp only;rw[n];exact Hj g i j a acc d k (m+1) Za Za}
theorem Sg(c:l.length=258)(e:bl l≤32768){s:I}(b:kc l s)(a acc:S I)(d:DS):run (dw l) ⟨0,0,d,acc⟩ (DM l s++a)=match cq d s with|none=>.bad 160|some (_,t,true)=>.fin (acc++t) a|some (f,t,false)=>run (dw l) ⟨0,0,f,acc++t⟩ a:=by have h:=Hj c e b a acc d (l.getD s 0) 0 Za b.2;have g:=Hm c e b.1 b.2;rw[YW,YQ g,S.drop_zero]at h;exact h
theorem LA(g:l.length=258)(i:bl l≤32768):∀(c a acc:S I)(d:DS),(∀s∈c,kc l s)→run (dw l) ⟨0,0,d,acc⟩ (enc l c++a)=(match run jx (d,acc) c with|.bad e=>.bad e|.fin t r=>.fin t (enc l r++a)|.short (f,acc')=>run (dw l) ⟨0,0,f,acc'⟩ a)|[],a,acc,d,_=>rfl|s::c,a,acc,d,h=>by rw[Dc,Zn,Sg g i (h s Zd),cG];cases hd:cq d s with|none=>rw[Q1 hd]|some p=>obtain⟨f,t,b⟩:=p;cases b with|true=>rw[HW hd]|false=>rw[vx hd];exact LA g i c a _ f λt j=>h t (by simp[j])
end
end
end Go.af
namespace Go.Tab
section
open Go.Inc
structure TS where
 l:S I
 bits:I
 now:I
 way:I
def t0:TS:=⟨[],0,0,0⟩
def bb(ok:S I→Xf)(s:TS)(b:I):rX TS (S I) I:=if s.bits<4 then .more ⟨s.l,s.bits+1,2*s.now+b,s.way⟩else if s.bits=4 then if b=0 then if s.l.length+1<258 then .more ⟨s.l++[s.now],4,s.now,0⟩else if ok (s.l++[s.now])then .fin (s.l++[s.now])else .bad 100 else .more ⟨s.l,5,s.now,s.way⟩else if b=0 then if s.way≠2∧s.now<15 then .more ⟨s.l,4,s.now+1,1⟩else .bad 100 else if s.way≠1∧0<s.now then .more ⟨s.l,4,s.now-1,2⟩else .bad 100
def ob:I→S I|0=>[]|k+1=>1::0::ob k
def ik:I→S I|0=>[]|k+1=>1::1::ik k
def dM(a b:I):S I:=(if b<a then ik (a-b)else ob (b-a))++[0]
def eb:I→S I→S I|_,[]=>[]|was,n::l=>dM was n++eb n l
def four(n:I):S I:=[n/8%2,n/4%2,n/2%2,n%2]
def eY(l:S I):S I:=four (l.headD 0)++eb (l.headD 0) l
section
variable{ok:S I→Xf}
theorem HX:∀(k:I)(l:S I)(a b:I)(r:S I),b≠2→a+k≤15→∃c,run (bb ok) ⟨l,4,a,b⟩ (ob k++r)=run (bb ok) ⟨l,4,a+k,c⟩ r|0,l,a,b,r,_,_=>⟨b,Z⟩|k+1,l,a,b,r,d,g=>by obtain⟨c,h⟩:=HX k l (a+1) 1 r Zb Za;refine⟨c,?_⟩;have e:bb ok ⟨l,4,a,b⟩ 1=.more ⟨l,5,a,b⟩:=Z;have f:bb ok ⟨l,5,a,b⟩ 0=.more ⟨l,4,a+1,1⟩:=by{simp only[bb];rw[y Zb,y Zb,Xh trivial,Xh ⟨d,Za⟩]};show run (bb ok) ⟨l,4,a,b⟩ (1::0::(ob k++r))=_;rw[cp e,cp f,h,show a+1+k=a+(k+1) by omega]
theorem Ae:∀(k:I)(l:S I)(a b:I)(r:S I),b≠1→k≤a→∃c,run (bb ok) ⟨l,4,a,b⟩ (ik k++r)=run (bb ok) ⟨l,4,a-k,c⟩ r|0,l,a,b,r,_,_=>⟨b,Z⟩|k+1,l,a,b,r,d,g=>by obtain⟨c,h⟩:=Ae k l (a-1) 2 r Zb Za;refine⟨c,?_⟩;have e:bb ok ⟨l,4,a,b⟩ 1=.more ⟨l,5,a,b⟩:=Z;have f:bb ok ⟨l,5,a,b⟩ 1=.more ⟨l,4,a-1,2⟩:=by{simp only[bb];rw[y Zb,y Zb,y Zb,Xh ⟨d,Za⟩]};show run (bb ok) ⟨l,4,a,b⟩ (1::1::(ik k++r))=_;rw[cp e,cp f,h,show a-1-k=a-(k+1) by omega]
theorem Rh(l:S I)(a n:I)(r:S I)(c:a≤15)(d:n≤15):∃b,run (bb ok) ⟨l,4,a,0⟩ (dM a n++r)=run (bb ok) ⟨l,4,n,b⟩ (0::r):=by unfold dM;rw[Zn];split;{obtain⟨b,h⟩:=Ae (ok:=ok) (a-n) l a 0 ([0]++r) Zb Za;exact⟨b,by rw[h,show a-(a-n)=n by omega];rfl⟩};{obtain⟨b,h⟩:=HX (ok:=ok) (n-a) l a 0 ([0]++r) Zb Za;exact⟨b,by rw[h,show a+(n-a)=n by omega];rfl⟩}
theorem DW:∀(m:S I)(l:S I)(a:I)(r:S I),m≠[]→a≤15→(∀x∈m,x≤15)→l.length+m.length=258→ok (l++m)=U→run (bb ok) ⟨l,4,a,0⟩ (eb a m++r)=.fin (l++m) r|[],_,_,_,h,_,_,_,_=>Xr Z h|n::m,l,a,r,_,hw,hm,hl,hok=>by rw[eb,Zn];obtain⟨b,h⟩:=Rh (ok:=ok) l a n (eb n m++r) hw (hm n ZW);rw[h];cases m with|nil=>refine jO ?_;simp only[Zw,Yj]at hl;simp only[bb];rw[Xv Zb,Xh trivial,Xh trivial,Xv Za,Xh hok]|cons x m=>simp only[Zw]at hl;have c:bb ok ⟨l,4,n,b⟩ 0=.more ⟨l++[n],4,n,0⟩:=by{simp only[bb];rw[Xv Zb,Xh trivial,Xh trivial,Xh Za]};rw[cp c,DW (x::m) (l++[n]) n r Zd (hm n ZW) (λy d=>hm y (ZC _ d)) Ze Ze,Zn];rfl
theorem Kl{l:S I}(r:S I)(d:l.length=258)(b:∀x∈l,x≤15)(a:ok l=U):run (bb ok) t0 (eY l++r)=.fin l r:=by unfold eY;rw[Zn];have c:l.headD 0≤15:=by{cases l with|nil=>simp at d|cons x l=>exact b x ZW};have f:run (bb ok) t0 (four (l.headD 0)++(eb (l.headD 0) l++r))=run (bb ok) ⟨[],4,l.headD 0,0⟩ (eb (l.headD 0) l++r):=by{generalize l.headD 0=n at c⊢;have e:2*(2*(2*(2*0+n/8%2)+n/4%2)+n/2%2)+n%2=n:=by{omega};show run (bb ok) ⟨[],4,2*(2*(2*(2*0+n/8%2)+n/4%2)+n/2%2)+n%2,0⟩ _=_;rw[e];rfl};rw[f];exact DW l [] (l.headD 0) r Ze c b Ze a
end
end
end Go.Tab
namespace Go.af
section
open Go.Inc Go.Srt Go.Sym Go.Bits Go.Tab Go.Hd Go.Crc Go.Bw
def aO(b:S I):S I:=bitsOf b (8*b.length)
theorem bV(b:S I):(aO b).length=8*b.length:=Jv _ _
theorem uO(a b:S I):aO (a++b)=aO a++aO b:=by unfold aO bitsOf;rw[Zh,I.mul_add,S.range_add,ZJ];congr 1;{refine ZU λi c=>?_;rw[YC]at c;unfold bx;rw[Z8,Z8,ZG Za]};{rw[YF];refine ZU λi c=>?_;simp only[Function.comp];unfold bx;rw[Z8,Z8,ZD Za,show(8*a.length+i)/8-a.length=i/8 by omega,show(8*a.length+i)%8=i%8 by omega]}
def ia(b:S I):I:=8*((b.length+7)/8)-b.length
theorem Ig(b:S I):ia b<8:=by unfold ia;omega
theorem Eo{b:S I}(h:Bits b):aO (pack b)=b++Zi (ia b) 0:=by unfold aO bitsOf ia;rw[jH];refine Yq λi=>?_;rw[ZN];by_cases hi:i<8*((b.length+7)/8);{rw[Z3 hi,Yu];unfold pack;rw[Fa h hi];by_cases hb:i<b.length;{grind};{grind}};{grind}
def body(l a:S I):S I:=eY l++enc l (syms a)
def je(l x:S I):S I:=jc x.length (bh x.reverse) (bH x)++pack (body l (aQ x.reverse))
def iT(left:S I):Xf:=(left.take (left.length%8)).all (·==0)
def oN(M:I)(a:S I):Except I (S I×S I):=match run (bb cA) t0 a with|.short _=>.error 50|.bad e=>.error e|.fin l more=>match run (dw l) ⟨0,0,⟨Zq 256,M,0,0⟩,[]⟩ more with|.short _=>.error 50|.bad e=>.error e|.fin last left=>.ok (last,left)
def dK(P b:I)(a:S I):Except I (S I):=if okB a P then(if bH (cf a P).reverse=b then .ok (cf a P).reverse else .error 250)else .error 170
def dS(n:I)(b:S I):Except I (S I×S I):=match run (aM n) c8 b with|.short _=>.error 50|.bad e=>.error e|.fin (.tail _) _=>.error 242|.fin (.ay M P sum) rest=>match oN M (aO rest)with|.error e=>.error e|.ok (last,left)=>if iT left then(match dK P sum last with|.error e=>.error e|.ok x=>.ok (x,rest.drop (rest.length-left.length/8)))else .error 160
theorem Cy:∀k,Bits (ob k)|0=>(λx a=>by cases a)|k+1=>λx a=>by(rcases List.mem_cons.1 a with h|h);{omega};{(rcases List.mem_cons.1 h with h|h);{omega};{exact Cy k x h}}
theorem yC:∀k,Bits (ik k)|0=>(λx a=>by cases a)|k+1=>λx a=>by(rcases List.mem_cons.1 a with h|h);{omega};{(rcases List.mem_cons.1 h with h|h);{omega};{exact yC k x h}}
theorem Ox(a b:I):Bits (dM a b):=by unfold dM;refine Bits.app ?_ (λx c=>by rw[ZI]at c;omega);split;{exact yC _};{exact Cy _}
theorem zY:∀(m:S I)(a:I),Bits (eb a m)|[],_=>(λx b=>by cases b)|n::m,a=>Bits.app (Ox a n) (zY m n)
theorem Ba(l:S I):Bits (eY l):=Bits.app (λx a=>by simp[four]at a;omega) (zY _ _)
theorem AP(l a:S I):Bits (body l a):=Bits.app (Ba l) (N6 _ _)
section
variable{l:S I}
structure oX (l last:S I):Prop where
 len:l.length=258
 ok:cA l=U
 good:∀s∈syms last,kc l s
theorem oX.v{a:S I}(h:oX l a):bl l≤32768:=by rw[(mP.1 h.ok).1];decide
theorem CV(h:cA l=U):∀x∈l,x≤15:=λx a=>by obtain⟨i,b,rfl⟩:=List.mem_iff_getElem.1 a;have:=ig (l:=l) (by rw[(mP.1 h).1];decide) i;rwa [dO b]at this
theorem QV{a:S I}(b:oX l a)(c:∀x∈a,x<256)(r:S I):run (dw l) ⟨0,0,⟨Zq 256,a.length,0,0⟩,[]⟩ (enc l (syms a)++r)=.fin a r:=by rw[LA b.len b.v _ _ _ _ b.good];have:=Kw c [];rw[ZF]at this;rw[this];simp[enc]
theorem Lj{a:S I}(b:oX l a)(c:∀x∈a,x<256)(r:S I):oN a.length (body l a++r)=.ok (a,r):=by unfold oN body;rw[Zn,Kl _ b.len (CV b.ok) b.ok];simp only;rw[QV b c]
theorem FP{n M P b:I}(c:0<M)(d:M≤n)(f:0<P)(g:P≤M)(h:b<4294967296)(a:S I):dS n (jc M P b++a)=match oN M (aO a)with|.error e=>.error e|.ok (last,left)=>if iT left then(match dK P b last with|.error e=>.error e|.ok x=>.ok (x,a.drop (a.length-left.length/8)))else .error 160:=by unfold dS;rw[AA c d f g h]
theorem Mi(b:S I)(z:S I):iT (Zi (ia b) 0++aO z)=U:=by unfold iT;have:=Ig b;rw[Zh,ZK,bV,show(ia b+8*z.length)%8=ia b by omega,S.take_append_of_le_length Zd,Zp Zd];simp
theorem FQ{n P sum:I}{a:S I}(b:oX l a)(c:∀x∈a,x<256)(d:0<a.length)(f:a.length≤n)(g:0<P)(h:P≤a.length)(i:sum<4294967296)(z:S I):dS n (jc a.length P sum++pack (body l a)++z)=match dK P sum a with|.error e=>.error e|.ok x=>.ok (x,z):=by rw[Zn,FP d f g h i,uO,Eo (AP _ _),Zn,Lj b c];simp only;rw[Xh (Mi _ z)];have:=Ig (body l a);have e:(pack (body l a)++z).drop ((pack (body l a)++z).length-(Zi (ia (body l a)) 0++aO z).length/8)=z:=by{rw[Zh,Zh,ZK,bV,show(ia (body l a)+8*z.length)/8=z.length by omega,I.add_sub_cancel,S.drop_left]};rw[e]
theorem nC{t:S I}(h:0<t.length):0<bh t∧bh t≤t.length:=by refine⟨?_,lg t⟩;(rcases Yz (bh t)with e|e);{have:=mG (t:=t) (i:=0) (k:=t.length) Za Za (by rw[GH];exact e);omega};{exact e}
theorem FO(x:S I):dK (bh x.reverse) (bH x) (aQ x.reverse)=.ok x:=by obtain⟨a,b⟩:=LW x.reverse;unfold dK;rw[Xh a,b,S.reverse_reverse,Xh Z]
theorem I8{n:I}{x:S I}(b:oX l (aQ x.reverse))(c:∀y∈aQ x.reverse,y<256)(d:∀y∈x,y<256)(f:0<x.length)(g:x.length≤n)(z:S I):dS n (je l x++z)=.ok (x,z):=by have e:(aQ x.reverse).length=x.length:=by{rw[cP,ZQ]};have a:=nC (t:=x.reverse) Ze;rw[ZQ]at a;have:=FQ (n:=n) (P:=bh x.reverse) (sum:=bH x) b c Za Za a.1 Za (jo d) z;rw[e,FO]at this;exact this
end
end
end Go.af
namespace Go.Stm
section
open Go.Inc Go.Srt Go.Sym Go.Bits Go.Tab Go.Hd Go.Crc Go.Bw Go.af
def jG (n:Nat) (x:List Nat):List (List Nat):=if _h:x= []∨n=0 then [] else x.take n::jG n (x.drop n)
termination_by x.length
decreasing_by
 have h1:x≠ []:=fun e=>_h (.inl e)
 have h2:n≠0:=fun e=>_h (.inr e)
 have:=List.length_pos_iff.2 h1
 rw [List.length_drop];omega
def cc(n:I)(a:S (S I)):S (S I):=a.flatMap (jG n)
theorem jE(n:I):jG n []=[]:=by rw[jG];simp
theorem rT{n:I}{x:S I}(h:x≠[])(a:0<n):jG n x=x.take n::jG n (x.drop n):=by rw[jG,dif_neg Ze]
theorem Kd{n:I}(a:0<n)(x:S I):(jG n x).flatten=x:=by induction hk:x.length using Z4 generalizing x with|ind k b=>by_cases h:x=[];{rw[h,jE];rfl};{have:=List.length_pos_iff.2 h;rw[rT h a,YD,b (x.drop n).length Ze (x.drop n) Z,Zy]}
theorem Ot{n:I}(b:0<n)(x:S I):∀y∈jG n x,0<y.length∧y.length≤n∧∀c∈y,c∈x:=by induction hk:x.length using Z4 generalizing x with|ind k d=>by_cases h:x=[];{rw[h,jE];intro y a;cases a};{have:=List.length_pos_iff.2 h;rw[rT h b];intro y a;(rcases List.mem_cons.1 a with h|h);{grind};{grind}}
theorem lX{n:I}(b:0<n)(a:S (S I)):(cc n a).flatten=a.flatten:=by induction a with|nil=>rfl|cons x l c=>rw[cc,Yp,Xb,Kd b,YD];exact Xx _ c
theorem Fw{n:I}(d:0<n){a:S (S I)}:∀y∈cc n a,0<y.length∧y.length≤n∧∀c∈y,c∈a.flatten:=by intro y b;obtain⟨x,e,b⟩:=List.mem_flatMap.1 b;obtain⟨f,g,h⟩:=Ot d x y b;exact⟨f,g,λc i=>List.mem_flatten.2 ⟨x,e,h c i⟩⟩
section
variable(L:S I→S I)
def o8(x:S I):S I:=je (L x) x
def blocks(l:S (S I)):S I:=l.flatMap (o8 L)
def eH(n:I)(a:S (S I)):S I:=fN n++(blocks L (cc n a)++nc (bH a.flatten))
def eu:Prop:=∀x:S I,0<x.length→(∀c∈x,c<256)→oX (L x) (aQ x.reverse)
end
def j7(n:I):I→S I→S (S I)→S (S I)×I|0,_,acc=>(acc,50)|k+1,b,acc=>match run (aM n) c8 b with|.short _=>(acc,50)|.bad e=>(acc,e)|.fin (.tail s) rest=>(acc,if s≠bH acc.flatten then 260 else if rest≠[]then 261 else 0)|.fin (.ay _ _ _) _=>match dS n b with|.error e=>(acc,e)|.ok (x,behind)=>j7 n k behind (acc++[x])
def ek(c:S I):S (S I)×I:=match run bD ⟨0,0⟩ c with|.short _=>([],50)|.bad e=>([],e)|.fin n rest=>j7 n (rest.length+1) rest []
theorem Br{n:I}{b d:S I}{m:Mk}(h:run (aM n) c8 b=.fin m d):d.length<b.length:=by obtain⟨a,c,f,e,_,_⟩:=tO h;rw[e];simp;omega
theorem o0{n:I}{b x a:S I}(h:dS n b=.ok (x,a)):a.length<b.length:=by unfold dS at h;cases hr:run (aM n) c8 b with|short s=>(rw[hr]at h;cases h)|bad e=>(rw[hr]at h;cases h)|fin m r=>have c:=Br hr;rw[hr]at h;cases m with|tail s=>(cases h)|ay M P s=>simp only at h;cases hc:oN M (aO r)with|error e=>(rw[hc]at h;cases h)|ok p=>rw[hc]at h;simp only at h;split at h;{grind};{cases h}
theorem AI(n:I):∀(k m:I)(b:S I)(acc:S (S I)),b.length<k→b.length<m→j7 n k b acc=j7 n m b acc|0,_,_,_,h,_=>Za|_,0,_,_,_,h=>Za|k+1,m+1,b,acc,a,c=>by unfold j7;cases run (aM n) c8 b with|short s=>rfl|bad e=>rfl|fin mk r=>cases mk with|tail s=>rfl|ay M P s=>simp only;cases hu:dS n b with|error e=>rfl|ok p=>have:=o0 hu;exact AI n k m p.2 _ Za Za
def jz(n:I)(b:S I)(acc:S (S I)):S (S I)×I:=j7 n (b.length+1) b acc
theorem vJ(n:I)(b:S I)(acc:S (S I)):jz n b acc=match run (aM n) c8 b with|.short _=>(acc,50)|.bad e=>(acc,e)|.fin (.tail s) rest=>(acc,if s≠bH acc.flatten then 260 else if rest≠[]then 261 else 0)|.fin (.ay _ _ _) _=>match dS n b with|.error e=>(acc,e)|.ok (x,behind)=>jz n behind (acc++[x]):=by unfold jz;rw[j7];cases run (aM n) c8 b with|short s=>rfl|bad e=>rfl|fin mk r=>cases mk with|tail s=>rfl|ay M P s=>simp only;cases hu:dS n b with|error e=>rfl|ok p=>have:=o0 hu;exact AI n _ _ p.2 _ Za Za
theorem rh(c:S I):ek c=match run bD ⟨0,0⟩ c with|.short _=>([],50)|.bad e=>([],e)|.fin n rest=>jz n rest []:=Z
section
variable{L:S I→S I}{n:I}
theorem LV(f:eu L){x:S I}(a:0<x.length)(e:x.length≤n)(b:∀c∈x,c<256)(g:∀y∈aQ x.reverse,y<256)(r:S I)(acc:S (S I)):jz n (o8 L x++r) acc=jz n r (acc++[x]):=by have d:=nC (t:=x.reverse) Ze;rw[ZQ]at d;rw[vJ];have h:run (aM n) c8 (o8 L x++r)=.fin (.ay x.length (bh x.reverse) (bH x)) (pack (body (L x) (aQ x.reverse))++r):=by{unfold o8 je;rw[Zn,AA a e d.1 d.2 (jo b)]};rw[h];simp only;have:=I8 (n:=n) (f x a b) g b a e r;unfold o8;rw[this]
theorem tK(a:eu L)(b:∀x:S I,(∀c∈x,c<256)→∀y∈aQ x.reverse,y<256):∀(l:S (S I))(r:S I)(acc:S (S I)),(∀x∈l,0<x.length∧x.length≤n∧∀c∈x,c<256)→jz n (blocks L l++r) acc=jz n r (acc++l)|[],r,acc,_=>by simp[blocks]|x::l,r,acc,h=>by obtain⟨e,f,d⟩:=h x ZW;rw[blocks,Yp,Zn,LV a e f d (b x d)];have:=tK a b l r (acc++[x]) λy g=>h y (ZC _ g);unfold blocks at this;rw[this,Zn];rfl
theorem K5{s:I}(a:s<4294967296)(r:S I)(acc:S (S I)):jz n (nc s++r) acc=(acc,if s≠bH acc.flatten then 260 else if r≠[]then 261 else 0):=by rw[vJ,Lk a]
theorem Pf{x:S I}(a:∀c∈x,c<256):∀y∈aQ x.reverse,y<256:=pL λy b=>a y (List.mem_reverse.1 b)
theorem ga(b:0<n){a:S (S I)}(d:∀c∈a.flatten,c<256):∀x∈cc n a,0<x.length∧x.length≤n∧∀c∈x,c<256:=λx e=>by obtain⟨f,g,h⟩:=Fw b x e;exact⟨f,g,λc i=>d c (h c i)⟩
theorem LY(b:eu L)(d:0<n)(a:n≤65536){l:S (S I)}(e:∀x∈l,0<x.length∧x.length≤n∧∀c∈x,c<256)(r:S I):ek (fN n++(blocks L l++r))=jz n r l:=by rw[rh,LD d a];simp only;rw[tK b (λx f=>Pf f) l r [] e];rfl
theorem AT(e:eu L)(a:0<n)(b:n≤65536){parts:S (S I)}(d:∀c∈parts.flatten,c<256)(r:S I):ek (eH L n parts++r)=(cc n parts,if r≠[]then 261 else 0):=by unfold eH;rw[Zn,Zn,LY e a b (ga a d),K5 (jo d),lX a];simp
end
end
end Go.Stm
namespace Go.Vc
section
open Go
def aT(t:S H):Xe Q:=⟨t.map vI⟩
def zl(l:S I):S H:=l.map λ(x:I)=>(x:H)
theorem ES(l:S I):(zl l).length=l.length:=Zm ..
theorem ep{t:S H}:(aT t).size=t.length:=by simp[aT]
theorem Cz{t:S H}{i:I}(h:i<t.length):(aT t)[i]?=O (Sc.enc (.int .i64) (t.getD i 0)):=by simp[aT,h,vI,Z8]
theorem iz{t:S H}:∀v∈(aT t).toList,aC v=U:=by intro v a;simp only[aT,S.mem_map]at a;obtain⟨x,_,rfl⟩:=a;rfl
theorem SV{t:S H}{i:I}{x:H}:(aT t).setIfInBounds i (.int .i64 x)=aT (t.set i x):=by unfold aT;apply Xe.ext';simp[Xa,vI]
theorem zF{n:I}:(⟨Zi n (.int .i64 0)⟩:Xe Q)=aT (Zi n 0):=by unfold aT;simp[vI]
theorem xO.aT{n:I}{a b:S H}{K:Xf→Prop}(c:a.length=n)(d:b.length=n)(h:K (a==b)):xO .i64 n (aT a) (aT b) K:=⟨a,b,Z,Z,c,d,h⟩
theorem iE{l:S H}{i j:I}{x:H}(a:i<l.length):(l.set i x).getD j 0=if j=i then x else l.getD j 0:=Ze
section
variable{E w:G}{F:S HP}
theorem aK.aT{b n:I}{t:S H}{a:Xl}{c:I×I}{i:H}{j:I}{K:H→Prop}(h:Hp E w (af b (.cells (Vc.aT t) a c)::F))(d:i=(j:H))(f:t.length=n)(g:j<n)(e:K (t.getD j 0)):aK ⟨b,0,V⟩ n i 1 λq=>Ld kI q w K:=by subst d;exact aK.rd (s:=.int .i64) h Za Za _ (by rw[Zj];exact Cz Za) e
theorem aK.Cd{b n:I}{t:S H}{a:Xl}{i:H}{j:I}{v:H}{K:G→Prop}(h:Hp E w (af b (.cells (Vc.aT t) a (0,0))::F))(c:i=(j:H))(d:t.length=n)(f:j<n)(e:∀w',Hp E w' (af b (.cells (Vc.aT (t.set j v)) a (0,0))::F)→K w'):aK ⟨b,0,V⟩ n i 1 λq=>St q (.int .i64 v) w K:=by subst c;exact aK.wr h Za Za (by rw[ep,d]) Z (by rw[Zj,SV];exact e)
theorem eA.aT{n:I}{t:S H}{i:H}{j:I}{K:H→Prop}(a:i=(j:H))(c:t.length=n)(d:j<n)(b:K (t.getD j 0)):eA (.int .i64) (Vc.aT t) n i K:=by subst a;exact eA.rd (s:=.int .i64) Za Za _ (by rw[Zj];exact Cz Za) b
theorem au.nI{s:Sl}{zs:S H}{i:H}{j:I}{K:H→Prop}(a:aD 1 s (zs.map vI) w)(b:i=(j:H))(c:j<zs.length)(d:K (zs.getD j 0)):au s i 1 λq=>Ld kI q w K:=by subst b;have e:=a.1;simp only[Zm,Zt]at e;refine au.rd a Za Za λp g f=>Ld.sc (s:=.int .i64) _ ?_ d;rw[f];simp[vI,Z8,c]
theorem au.nB{s:Sl}{a:S I}{i:H}{j:I}{K:H→Prop}(b:aD 1 s (a.map vB) w)(c:i=(j:H))(d:j<a.length)(e:K (a.getD j 0:H)):au s i 1 λq=>Ld (aq .u8) q w K:=by subst c;have f:=b.1;simp only[Zm,Zt]at f;refine au.rd b Za Za λp h g=>Ld.sc (s:=.int .u8) (a.getD j 0:H) ?_ e;rw[g];simp[vB,Z8,d]
theorem au.T9{s:Sl}{zs:S H}{i:H}{j:I}{x:H}{K:G→Prop}(a:Hp E w (ah 1 s (zs.map vI)::F))(c:i=(j:H))(e:j<zs.length)(h:∀w',Hp E w' (ah 1 s ((zs.set j x).map vI)::F)→K w'):au s i 1 λq=>St q (.int .i64 x) w K:=by subst c;have d:=a.aL;rw[Zm,Zt]at d;refine St.own a Za Za Z λw' b=>h w' ?_;rw[Zj]at b;rw[Xa];exact b
theorem au.Wl{s:Sl}{a:S I}{i:H}{j x:I}{K:G→Prop}(b:Hp E w (ah 1 s (a.map vB)::F))(d:i=(j:H))(f:j<a.length)(h:∀w',Hp E w' (ah 1 s ((a.set j x).map vB)::F)→K w'):au s i 1 λq=>St q (.int .u8 (x:H)) w K:=by subst d;have e:=b.aL;rw[Zm,Zt]at e;refine St.own b Za Za Z λw' c=>h w' ?_;rw[Zj]at c;rw[Xa];exact c
theorem Us{P:Xi}{t l e m:Xl}{s:Sl}{zs:S H}{x:H}{d:Xe Q}{K:Sl→G→Prop}(f:cH P t e 1 8)(c:d=⟨[vI x]⟩)(g:Hp E w (ah 1 s (zs.map vI)::F))(o:zs.length≤bP)(h:∀a w',Hp E w' (ah 1 a ((zs++[x]).map vI)::F)→a.len=zs.length+1→K a w'):Nw m d w λb i=>av P (ZB #[t,t] l ⟨[.slice s.base s.len s.cap,.slice (O ⟨b,0,V⟩) 1 1]⟩) kS i K:=by have p:=g.aL;rw[Zm,Zt]at p;rw[ax]at o;refine Nw.mk g λb i j=>aS (ys:=[vI x]) (n:=1) f Zb (.inl ⟨e,f.und⟩) j.p1 (.inl ⟨O ⟨b,0,V⟩,1,1,Z,Z,j.ao (ad.ay (by rw[c]) Z)⟩) Z (λy k=>by rw[ZI]at k;subst k;rfl) Za Za λa q r u=>h a q ?_ Za;rw[ZJ];exact r.p1.drop
end
end
end Go.Vc
namespace Go.Hs
section
open Go Go.Vc
def bR(t:S H):Xf:=t.all λx=>decide (0≤x)&&K (x≤2147483647)
theorem iU{t:S H}:bR t=U↔∀i,i<t.length→0≤t.getD i 0∧t.getD i 0≤2147483647:=by unfold bR;rw[S.all_eq_true];constructor;{intro h i a;have:=h t[i] (Zu a);simpa[Z8,a]using this};{intro h x b;obtain⟨i,a,rfl⟩:=ZR b;simpa[Z8,a]using h i a}
theorem N2{t:S H}{i:I}(a:i<t.length)(h:¬(0≤t.getD i 0∧t.getD i 0≤2147483647)):bR t=J:=by cases hv:bR t with|false=>rfl|true=>exact Xr (iU.1 hv i a) h
def lV(z:H):Xf:=K (0≤z)&&K (z<258)
theorem mM{z:H}:lV z=U↔0≤z∧z<258:=by simp[lV]
def inc(t:S H)(z:H):S H:=t.set z.toNat (t.getD z.toNat 0+1)
def gO(t:S H)(zs:S H):S H:=zs.foldl inc t
theorem zU(t:S H)(z:H):(inc t z).length=t.length:=YH ..
theorem p6:∀(zs t:S H),(gO t zs).length=t.length|[],_=>rfl|z::zs,t=>by show(gO (inc t z) zs).length=_;rw[p6 zs,zU]
theorem CK(t zs:S H)(z:H):gO t (zs++[z])=inc (gO t zs) z:=by simp[gO]
theorem HC{t:S H}{z:H}(a:lV z=U)(b:t.length=258)(i:I):(inc t z).getD i 0=t.getD i 0+if z=(i:H)then 1 else 0:=by rw[mM]at a;unfold inc;rw[iE Za];by_cases h:z=(i:H);{grind};{grind}
theorem uf:∀{zs t:S H},zs.all lV=U→t.length=258→∀i:I,(gO t zs).getD i 0=t.getD i 0+(zs.count (i:H):H)|[],t,_,_,i=>by simp[gO]|z::zs,t,h,ht,i=>by rw[S.all_cons,ZM]at h;show(gO (inc t z) zs).getD i 0=_;rw[uf h.2 (by rw[zU,ht]),HC h.1 ht,S.count_cons];by_cases e:z=(i:H);{rw[Xh e,Xh (by simp[e])];omega};{rw[y e,y (by simp[e])];omega}
def gd(t zs:S H):Xg (S H):=if bR t&&zs.all lV&&bR (gO t zs)then O (gO t zs)else V
def VC(o:Xg (S H)):H:=if o.isSome then 0 else 2
theorem Fe{t zs:S H}(h:bR t=J):gd t zs=V:=by simp[gd,h]
theorem Nu{t zs:S H}{k:I}(a:k<zs.length)(h:lV (zs.getD k 0)=J):gd t zs=V:=by unfold gd;rw[y];intro b;simp only[ZM]at b;have:=List.all_eq_true.1 b.1.2 zs[k] (Zu a);simp[Z8,a,this]at h
theorem jy(zs:S H)(z:H)(k:I):(zs.take k).count z≤zs.count z:=by have:zs.count z=(zs.take k).count z+(zs.drop k).count z:=by{rw[←S.count_append,Zy]};omega
theorem KM{t zs:S H}{k:I}(b:t.length=258)(c:k<zs.length)(f:(zs.take k).all lV=U)(g:lV (zs.getD k 0)=U)(h:2147483647≤(gO t (zs.take k)).getD (zs.getD k 0).toNat 0):gd t zs=V:=by unfold gd;rw[y];intro a;simp only[ZM]at a;have i:=mM.1 g;have d:=iU.1 a.2 (zs.getD k 0).toNat (by rw[p6];omega);rw[uf a.1.2 b]at d;rw[uf f b]at h;have e:(((zs.getD k 0).toNat:I):H)=zs.getD k 0:=Za;rw[e]at d h;have j:=jy zs (zs.getD k 0) (k+1);have l:(zs.take (k+1)).count (zs.getD k 0)=(zs.take k).count (zs.getD k 0)+1:=by{rw[Zv,Zg c,S.count_append];simp[Z8,c]};omega
theorem qp{zs:S H}{k:I}(a:k<zs.length):zs.take (k+1)=zs.take k++[zs.getD k 0]:=by rw[Zv,Zg a];simp[Z8,a]
theorem wi{t zs:S H}(a:bR t=U)(b:zs.all lV=U)(c:bR (gO t zs)=U):gd t zs=O (gO t zs):=by simp[gd,a,b,c]
theorem JS{t zs u:S H}(h:gd t zs=O u):bR t=U∧zs.all lV=U∧u=gO t zs∧bR u=U:=by unfold gd at h;split at h;{grind};{cases h}
end
end Go.Hs
namespace Go.Proofs.Q9
section
open Go Go.Vc
set_option maxRecDepth 100000
theorem ra.ok(a:(Xe Q))(b:H)(R:(Xe Q)→H→G→Prop) w(h:Nw 46 a w λd c=>Nw 50 ⟨Zi 258 (.int .u8 0)⟩ c λf e=>Ld (.arr 258) ⟨d,0,V⟩ e λg=>Cl Pg [kS] 54 ⟨[(.agg g)]⟩ e λ(i:Sl) h=>ba (λ(P:G)=>aa ((i.len:H)==1) (au i 0 1 λb1=>Ld kI b1 P λ(c1:H)=>aK ⟨f,0,V⟩ 258 c1 1 λd1=>St d1 (.int .u8 1) P λX=>Ld (.arr 258) ⟨f,0,V⟩ X λf1=>ar 258 ⟨f,0,V⟩ f1 X λY=>Ld (.arr 258) ⟨f,0,V⟩ Y λh1=>R h1 0 Y) (Ld (.arr 258) ⟨d,0,V⟩ P λi1=>Cl Pg [kS] 56 ⟨[(.agg i1),(aj i)]⟩ P λ(k1:Sl) j1=>Nw 118 ⟨[(aj k1)]⟩ j1 λm1 l1=>de (⟨O ⟨m1,0,V⟩,1,1⟩:Sl) 1 l1 λn1 o1(F:Sl)(I:H) T=>aa (K (I<b)) (cJ T λL t1=>au F 0 1 λu1=>aA kS u1 L λ(v1:Sl)=>au F (i64 (I-1)) 1 λx1=>aA kS x1 L λ(y1:Sl)=>Cl Pg [kS] 57 ⟨[(aj v1),(aj y1)]⟩ t1 λ(a2:Sl) z1=>L z1∧Nw 118 ⟨[(aj a2)]⟩ z1 λc2 b2=>L b2∧av Pg (ZB #[120,120] 120 ⟨[(aj F),(aj (⟨O ⟨c2,0,V⟩,1,1⟩:Sl))]⟩) kS b2 λ(e2:Sl) W=>L W∧n1 e2 (i64 (I+1)) W∧o1 e2 (i64 (I+1)) W<o1 F I T) (de (i64 ((i64 ((2:H)*(i.len:H)))-2)) (i64 (b-1)) T λf2 g2(M:H)(N:H) C=>ba (λ(r2:G)=>au F N 1 λs2=>Ld kS s2 r2 λ(t2:Sl)=>bG t2 0 M (t2).cap 2 λu2=>de 0 0 r2 λv2 S(A:H)(B:H) D=>aa (K (B<(u2.len:H))) (au u2 B 2 λb3=>Ld (.st [.int .i64,.bool]) b3 D λc3=>Nw 123 ⟨[(ni 0),(.bool J)]⟩ D λe3 d3=>an ⟨e3,0,V⟩ [(ni c3.1),(.bool c3.2.1)] 0 d3 λE=>Ld kB (Zo ⟨e3,0,V⟩ 1) E λ(g3:Xf)=>aa g3 (au i A 1 λh3=>Ld kI h3 E λ(i3:H)=>aK ⟨f,0,V⟩ 258 i3 1 λj3=>Ld (aq .u8) j3 E λ(k3:H)=>aK ⟨f,0,V⟩ 258 i3 1 λl3=>St l3 (.int .u8 (u8 (k3+1))) E λm3=>v2 (i64 (A+1)) (i64 (B+1)) m3∧S (i64 (A+1)) (i64 (B+1)) m3<S A B D) (v2 A (i64 (B+1)) E∧S A (i64 (B+1)) E<S A B D)) (f2 (i64 ((2:H)*(i64 (M-A)))) (i64 (N-1)) D∧g2 (i64 ((2:H)*(i64 (M-A)))) (i64 (N-1)) D<g2 M N C)) λk2=>aa (K (N≥0)) (aa (K (M>0)) (k2 C) (Ld (.arr 258) ⟨f,0,V⟩ C λl2=>ar 258 ⟨f,0,V⟩ l2 C λm2=>Ld (.arr 258) ⟨f,0,V⟩ m2 λn2=>R n2 0 m2)) (Ld (.arr 258) ⟨f,0,V⟩ C λo2=>ar 258 ⟨f,0,V⟩ o2 C λp2=>Ld (.arr 258) ⟨f,0,V⟩ p2 λq2=>R q2 0 p2)))) λj=>Ld (.arr 258) ⟨d,0,V⟩ h λk=>Cl Pg [kB] 55 ⟨[(.agg k)]⟩ h λ(m:Xf) l=>aa (! m) (Ld (.arr 258) ⟨f,0,V⟩ l λn=>ar 258 ⟨f,0,V⟩ n l λo=>Ld (.arr 258) ⟨f,0,V⟩ o λp=>R p 2 o) (aa (K (b<1)) (Ld (.arr 258) ⟨f,0,V⟩ l λq=>ar 258 ⟨f,0,V⟩ q l λr=>Ld (.arr 258) ⟨f,0,V⟩ r λs=>R s 2 r) (aa (K (b>15)) (Ld (.arr 258) ⟨f,0,V⟩ l λt=>ar 258 ⟨f,0,V⟩ t l λu=>Ld (.arr 258) ⟨f,0,V⟩ u λv=>R v 2 u) (0≤(u64 b)∧aa (K ((i.len:H)>(a7 .i64 (1:H) (u64 b)))) (Ld (.arr 258) ⟨f,0,V⟩ l λx=>ar 258 ⟨f,0,V⟩ x l λy=>Ld (.arr 258) ⟨f,0,V⟩ y λz=>R z 2 y) (j l))))):Cl Pg [(.arr 258),kI] 20 ⟨[(.agg a),(ni b)]⟩ w R:=co Tryz.f20 [(4,[]),(21,[(7,kS),(8,kI)]),(33,[(9,kI),(10,kI)]),(34,[]),(43,[(11,kI),(86,kI)])] h
theorem sR.ok(a:(Xe Q))(R:Sl→G→Prop) w(h:Nw 46 a w λc b=>Ld (.arr 258) ⟨c,0,V⟩ b λd=>Cl Pg [kB] 55 ⟨[(.agg d)]⟩ b λ(f:Xf) e=>aa (! f) (R (⟨V,0,0⟩:Sl) e) (Ld (.arr 258) ⟨c,0,V⟩ e λg=>de (⟨V,0,0⟩:Sl) 0 e λh i(j:Sl)(k:H) l=>aa (K (k<258)) (eA (.int .i64) g 258 k λ(m:H)=>aa (K (m>0)) (Nw 3 ⟨[(ni k)]⟩ l λo n=>av Pg (ZB #[44,44] 44 ⟨[(aj j),(aj (⟨O ⟨o,0,V⟩,1,1⟩:Sl))]⟩) kS n λ(q:Sl) p=>h q (i64 (k+1)) p∧i q (i64 (k+1)) p<i j k l) (h j (i64 (k+1)) l∧i j (i64 (k+1)) l<i j k l)) (Cl Pg [] 108 ⟨[(aj j),(.func (.func 109) ⟨[]⟩ ⟨[(.pointer (O ⟨c,0,V⟩))]⟩)]⟩ l λr=>R j r))):Cl Pg [kS] 54 ⟨[(.agg a)]⟩ w R:=co Tryz.f54 [(10,[(2,kS),(9,kI)])] h
theorem sH.ok(a:(Xe Q))(R:Xf→G→Prop) w(h:Nw 46 a w λc b=>bG (⟨O ⟨c,0,V⟩,258,258⟩:Sl) 0 258 258 1 λd=>Cl Pg [kB] 111 ⟨[(aj d),(.func (.func 112) ⟨[]⟩ ⟨[]⟩)]⟩ b λ(f:Xf) e=>R (! f) e):Cl Pg [kB] 55 ⟨[(.agg a)]⟩ w R:=co Tryz.f55 [] h
theorem sy.ok(a:(Xe Q))(b:Sl)(R:Sl→G→Prop) w(h:Nw 46 a w λd c=>de (⟨V,0,0⟩:Sl) 0 c λe f(g:Sl)(h:H) i=>aa (K (h<(b.len:H))) (au b h 1 λj=>Ld kI j i λ(k:H)=>aK ⟨d,0,V⟩ 258 k 1 λl=>Ld kI l i λ(m:H)=>Nw 123 ⟨[(ni m),(.bool U)]⟩ i λo n=>av Pg (ZB #[118,118] 118 ⟨[(aj g),(aj (⟨O ⟨o,0,V⟩,1,1⟩:Sl))]⟩) kS n λ(q:Sl) p=>e q (i64 (h+1)) p∧f q (i64 (h+1)) p<f g h i) (R g i)):Cl Pg [kS] 56 ⟨[(.agg a),(aj b)]⟩ w R:=co Tryz.f56 [(5,[(4,kS),(9,kI)])] h
theorem uL.ok(a:Sl)(b:Sl)(R:Sl→G→Prop) w(h:tN (⟨V,0,0⟩:Sl) 0 0 w λc d(e:Sl)(f:H)(g:H) h=>aa (K ((i64 (g+1))<(b.len:H))) (cJ h λi j=>au b g 2 λk=>aA kI (k.add 0) i λ(l:H)=>au b (i64 (g+1)) 2 λm=>aA kI (m.add 0) i λ(n:H)=>Nw 123 ⟨[(ni 0),(.bool J)]⟩ j λp o=>i o∧an ⟨p,0,V⟩ [(ni (i64 (l+n))),(.bool J)] 0 o λq=>i q∧de e f q λr s(t:Sl)(u:H) v=>aJ v λx=>aa (K (u<(a.len:H))) (au a u 2 λy=>Ld kI (y.add 0) x λ(z:H)=>Ld kI (Zo ⟨p,0,V⟩ 0) x λ(N:H)=>aa (K (z≤N)) (au a u 2 λP=>Ld (.st [.int .i64,.bool]) P x λA=>Nw 123 ⟨[(ni A.1),(.bool A.2.1)]⟩ x λQ S=>av Pg (ZB #[118,118] 118 ⟨[(aj t),(aj (⟨O ⟨Q,0,V⟩,1,1⟩:Sl))]⟩) kS S λ(B:Sl) C=>r B (i64 (u+1)) C∧s B (i64 (u+1)) C<s t u v) (Ld (.st [.int .i64,.bool]) ⟨p,0,V⟩ x λD=>Nw 123 ⟨[(ni D.1),(.bool D.2.1)]⟩ x λT W=>av Pg (ZB #[118,118] 118 ⟨[(aj t),(aj (⟨O ⟨T,0,V⟩,1,1⟩:Sl))]⟩) kS W λ(E:Sl) F=>c E u (i64 (g+2)) F∧d E u (i64 (g+2)) F<d e f g h)) (Ld (.st [.int .i64,.bool]) ⟨p,0,V⟩ x λI=>Nw 123 ⟨[(ni I.1),(.bool I.2.1)]⟩ x λX Y=>av Pg (ZB #[118,118] 118 ⟨[(aj t),(aj (⟨O ⟨X,0,V⟩,1,1⟩:Sl))]⟩) kS Y λ(L:Sl) M=>c L u (i64 (g+2)) M∧d L u (i64 (g+2)) M<d e f g h)) (bG a f (a).len (a).cap 2 λr1=>av Pg (ZB #[118,118] 118 ⟨[(aj e),(aj r1)]⟩) kS h λ(t1:Sl) s1=>R t1 s1)):Cl Pg [kS] 57 ⟨[(aj a),(aj b)]⟩ w R:=co Tryz.f57 [(7,[(4,kS),(5,kI),(6,kI)]),(15,[(4,kS),(5,kI)])] h
theorem rC.ok(a:H)(b:H)(c:Xn)(R:H→G→Prop) w(h:aJ w λd=>aK c 258 a 1 λe=>Ld kI e d λ(f:H)=>aK c 258 b 1 λg=>Ld kI g d λ(h:H)=>Cl Pg [kI] 110 ⟨[(ni f),(ni h)]⟩ d λ(j:H) i=>R j i):Cl Pg [kI] 109 ⟨[(ni a),(ni b),(.pointer (O c))]⟩ w R:=co Tryz.f109 [] h
theorem qt.ok(a:H)(R:Xf→G→Prop) w(h:aa (K (a<0)) (R U w) (R (K (a>2147483647)) w)):Cl Pg [kB] 112 ⟨[(ni a)]⟩ w R:=co Tryz.f112 [] h
end
end Go.Proofs.Q9
namespace Go.Pm
section
abbrev It:=I×Xf
def lO(l:S It):I:=(l.map (·.1)).sum
def bF(l:S It):I:=(l.filter (·.2)).length
def Up(l:S It):Prop:=l.Pairwise λa b=>a.1≤b.1
def aR:S It→S It|a::b::l=>(a.1+b.1,J)::aR l|_=>[]
def ie(A:S It):S It→S It|[]=>A|p::B=>A.takeWhile (λa=>decide (a.1≤p.1))++p::ie (A.dropWhile λa=>decide (a.1≤p.1)) B
theorem zn{A:S It}:ie A []=A:=Z
theorem pH:∀{B:S It},ie [] B=B|[]=>rfl|p::B=>by simp[ie,pH]
theorem EV{a p:It}{A B:S It}(h:a.1≤p.1):ie (a::A) (p::B)=a::ie A (p::B):=by simp[ie,h]
theorem Er{a p:It}{A B:S It}(h:¬a.1≤p.1):ie (a::A) (p::B)=p::ie (a::A) B:=by simp[ie,h]
theorem ub{P:S It→S It→Prop}(b:∀B,P [] B)(c:∀a A,P (a::A) [])(d:∀a A p B,a.1≤p.1→P A (p::B)→P (a::A) (p::B))(e:∀a A p B,¬a.1≤p.1→P (a::A) B→P (a::A) (p::B)):∀A B,P A B|[],B=>b B|a::A,[]=>c a A|a::A,p::B=>if h:a.1≤p.1 then d a A p B h (ub b c d e A (p::B))else e a A p B h (ub b c d e (a::A) B)
theorem Fg:∀A B,(ie A B).Perm (A++B):=by refine ub (λB=>by rw[pH];exact .refl _) (λa A=>by rw[zn];simp) (λa A p B h b=>?_) λa A p B h b=>?_;{rw[EV h];exact b.cons a};{rw[Er h];exact(b.cons p).trans (List.perm_middle.symm)}
theorem Il(A B:S It):(ie A B).length=A.length+B.length:=by rw[(Fg A B).length_eq,Zh]
theorem GQ:∀A B,Up A→∀m,m≤A.length+B.length→∃a b,a+b=m∧a≤A.length∧b≤B.length∧((ie A B).take m).Perm (A.take a++B.take b)∧∀x∈B.take b,∀y∈A.drop a,x.1<y.1:=by refine ub (λB _ m c=>?_) (λa A _ m c=>?_) (λa A p B h g e m c=>?_) λa A p B h g e m c=>?_;{exact⟨0,m,Za,ZA _,by simpa using c,by rw[pH];simp,Zd⟩};{exact⟨m,0,rfl,by simpa using c,ZA _,by rw[zn];simp,Zd⟩};{cases m with|zero=>exact⟨0,0,rfl,Yv _,Yv _,Zd,Zd⟩|succ m=>obtain⟨x,y,n,i,j,k,l⟩:=g (List.pairwise_cons.1 e).2 m (by simp at c⊢;omega);refine⟨x+1,y,Za,by simpa using i,j,?_,by simpa using l⟩;rw[EV h,Yg,Yg];exact k.cons a};{cases m with|zero=>exact⟨0,0,rfl,Yv _,Yv _,Zd,Zd⟩|succ m=>obtain⟨x,y,n,i,j,k,l⟩:=g e m (by simp at c⊢;omega);refine⟨x,y+1,Za,i,by simpa using j,?_,?_⟩;{rw[Er h,Yg,Yg];exact(k.cons p).trans List.perm_middle.symm};{intro u f v d;rw[Yg]at f;(rcases List.mem_cons.1 f with rfl|f);{have d:v∈a::A:=S.mem_of_mem_drop d;(rcases List.mem_cons.1 d with rfl|d);{omega};{have:=(List.pairwise_cons.1 e).1 v d;omega}};{exact l u f v d}}}
theorem vw(a:It)(l:S It):lO (a::l)=a.1+lO l:=by simp[lO]
theorem IA(l a:S It):lO (l++a)=lO l+lO a:=by simp[lO]
theorem M9{l a:S It}(h:l.Perm a):lO l=lO a:=(h.map _).sum_nat
theorem nJ(l a:S It):bF (l++a)=bF l+bF a:=by simp[bF]
theorem wW{l a:S It}(h:l.Perm a):bF l=bF a:=(h.filter _).length_eq
theorem dz:∀l:S It,(aR l).length=l.length/2|[]=>rfl|[_]=>by simp[aR]|_::_::l=>by simp only[aR,Zw,dz l];omega
theorem qZ:∀(l:S It)(x:It),x∈aR l→x.2=J|[],_,h=>by simp[aR]at h|[_],_,h=>by simp[aR]at h|a::b::l,x,h=>by rw[aR]at h;(rcases List.mem_cons.1 h with rfl|h);{rfl};{exact qZ l x h}
theorem xD:∀(l:S It)(b:I),2*b≤l.length→lO ((aR l).take b)=lO (l.take (2*b))|_,0,_=>by simp[lO]|[],b+1,h=>by simp at h|[_],b+1,h=>by simp only[Z6]at h;omega|x::y::l,b+1,h=>by rw[aR,Yg,vw,show 2*(b+1)=(2*b+1)+1 by omega,Yg,Yg,vw,vw,xD l b (by simp only[Zw]at h;omega)];omega
theorem FA:∀(l:S It)(b:I)(x:It),2*b≤l.length→x∈l.take (2*b)→∃p∈(aR l).take b,x.1≤p.1|_,0,_,_,h=>by simp at h|[],b+1,_,h,_=>by simp at h|[_],b+1,_,h,_=>by simp only[Z6]at h;omega|u::v::l,b+1,x,h,a=>by rw[show 2*(b+1)=(2*b+1)+1 by omega,Yg,Yg]at a;rw[aR,Yg];(rcases List.mem_cons.1 a with rfl|a);{exact⟨_,ZW,Zd⟩};{(rcases List.mem_cons.1 a with rfl|a);{exact⟨_,ZW,Zd⟩};{obtain⟨p,c,d⟩:=FA l b x (by simp only[Zw]at h;omega) a;exact⟨p,ZC _ c,d⟩}}
def jb(a:S I):S It:=a.map λw=>(w,U)
def row(a:S I):I→S It|0=>jb a|k+1=>ie (jb a) (aR (row a k))
def sO(a:S I):Prop:=a.Pairwise (·≤·)
theorem L3{a:S I}(h:sO a):Up (jb a):=S.Pairwise.map _ (λ_ _ h=>h) h
theorem ew(a:S I):(jb a).length=a.length:=Zm _
theorem ug(a:S I)(k:I):(row a (k+1)).length=a.length+(row a k).length/2:=by rw[row,Il,ew,dz]
theorem HB(a:S I):lO (jb a)=a.sum:=by unfold lO jb;rw[YF];congr 1;exact S.map_id _
theorem kY(b:S I)(a:I):(jb b).take a=jb (b.take a):=List.map_take.symm
theorem tk(a:S I):bF (jb a)=a.length:=by unfold bF jb;rw[List.filter_eq_self.2];{simp};{grind}
theorem Cw{l:S It}(h:∀x∈l,x.2=J):bF l=0:=by unfold bF;rw[S.length_eq_zero_iff,S.filter_eq_nil_iff];intro x a;simp[h x a]
theorem xU{ws:S I}:∀k,ws.length≤2^(k+1)→2*ws.length-2≤(row ws k).length:=by have a:∀k c,2^k*c≥ws.length→1≤c→2*ws.length≤(row ws k).length+c:=by{intro k;induction k with|zero=>intro c h _;simp only[row,ew];omega|succ k b=>intro c h d;have:=b (2*c) Ze Za;rw[ug];omega};intro k h;have:=a k 2 Ze Za;omega
theorem mO{c:S I}(h:sO c)(k m:I)(j:m≤(row c (k+1)).length):bF ((row c (k+1)).take m)≤m∧bF ((row c (k+1)).take m)≤c.length∧2*(m-bF ((row c (k+1)).take m))≤(row c k).length∧lO ((row c (k+1)).take m)=(c.take (bF ((row c (k+1)).take m))).sum+lO ((row c k).take (2*(m-bF ((row c (k+1)).take m))))∧(∀x∈(row c k).take (2*(m-bF ((row c (k+1)).take m))),∀y∈c.drop (bF ((row c (k+1)).take m)),x.1<y):=by have l:=ug c k;obtain⟨a,b,t,g,n,i,o⟩:=GQ (jb c) (aR (row c k)) (L3 h) m (by rw[ew,dz,←l];exact j);rw[ew]at g;rw[dz]at n;have d:bF ((row c (k+1)).take m)=a:=by{rw[row,wW i,nJ,kY,tk,Cw λx e=>qZ _ x (Z1 e),Zz];omega};rw[d];have q:m-a=b:=Za;rw[q];refine⟨Za,g,Za,?_,?_⟩;{rw[row,M9 i,IA,kY,HB,xD _ _ Za]};{intro x e y r;obtain⟨p,s,f⟩:=FA _ _ _ Za e;have:=o p s (y,U) (by unfold jb;rw[←S.map_drop];exact S.mem_map_of_mem r);exact I.lt_of_le_of_lt f this}
theorem vK{ws:S I}(m:I)(a:m≤ws.length):bF ((row ws 0).take m)=m∧lO ((row ws 0).take m)=(ws.take m).sum:=by rw[row,kY];exact⟨by rw[tk,Zz];omega,HB _⟩
def whole(a:S I)(k m:I):I:=bF ((row a k).take m)
def lv(a:S I):I→I→I→I|0,m,i=>if i<whole a 0 m then 1 else 0|k+1,m,i=>(if i<whole a (k+1) m then 1 else 0)+lv a k (2*(m-whole a (k+1) m)) i
theorem nested{ws:S I}(h:sO ws)(k m:I)(p:m≤(row ws (k+1)).length):whole ws k (2*(m-whole ws (k+1) m))≤whole ws (k+1) m:=by obtain⟨q,r,c,s,l⟩:=mO h k m p;generalize n:whole ws (k+1) m=a;unfold whole at n;rw[n]at q r c s l;(rcases Z9 a (whole ws k (2*(m-a)))with e|f);{exfalso;have d:∀i,i<whole ws k (2*(m-a))→∃(b:i<ws.length),(ws[i],U)∈(row ws k).take (2*(m-a)):=by{cases k with|zero=>intro i b;have t:=vK (ws:=ws) (2*(m-a)) (by rw[row,ew]at c;exact c);unfold whole at b;rw[t.1]at b;rw[row,ew]at c;refine⟨Za,?_⟩;rw[row,kY];unfold jb;refine S.mem_map_of_mem ?_;rw[S.mem_iff_getElem];exact⟨i,by rw[Zz];omega,Zd⟩|succ k=>intro i b;obtain⟨u,w,y,v,z,o,A⟩:=GQ (jb ws) (aR (row ws k)) (L3 h) (2*(m-a)) (by rw[ew,dz,←ug];exact c);rw[ew]at v;have g:whole ws (k+1) (2*(m-a))=u:=by{unfold whole;rw[row,wW o,nJ,kY,tk,Cw λx j=>qZ _ x (Z1 j),Zz];omega};rw[g]at b;refine⟨Za,?_⟩;rw[row,o.mem_iff,Y9];left;rw[kY];unfold jb;refine S.mem_map_of_mem ?_;rw[S.mem_iff_getElem];exact⟨i,by rw[Zz];omega,Zd⟩};obtain⟨b,j⟩:=d a e;have:=l _ j ws[a] (by rw[S.mem_iff_getElem];exact⟨0,by rw[ZE];omega,Zd⟩);simp at this};{exact f}
theorem yZ{a:S I}(h:sO a):∀(k m i:I),m≤(row a k).length→whole a k m≤i→lv a k m i=0|0,m,i,_,c=>by unfold lv;rw[y Za]|k+1,m,i,b,c=>by have d:=nested h k m b;unfold lv;rw[y Za,Zk];exact yZ h k _ i (mO h k m b).2.2.1 Za
theorem Cg(a:S I):∀(k m i:I),lv a k m i≤k+1|0,m,i=>by unfold lv;split<;>omega|k+1,m,i=>by have:=Cg a k (2*(m-whole a (k+1) m)) i;unfold lv;split<;>omega
def aB(n:I)(f:I→I):I:=((Zq n).map f).sum
theorem fD(n:I)(f:I→I):aB (n+1) f=aB n f+f n:=by unfold aB;rw[Y8,ZJ,Y7];simp
theorem Cm(n:I)(f g:I→I):aB n (λi=>f i+g i)=aB n f+aB n g:=by induction n with|zero=>rfl|succ n a=>rw[fD,fD,fD,a];omega
theorem mE{n:I}{f g:I→I}(h:∀i,i<n→f i=g i):aB n f=aB n g:=by unfold aB;congr 1;exact ZU λi a=>h i (List.mem_range.1 a)
theorem IW(n c:I):aB n (λ_=>c)=n*c:=by induction n with|zero=>simp[aB]|succ n a=>rw[fD,a,Ye]
theorem Nr(n c:I)(f:I→I):aB n (λi=>c*f i)=c*aB n f:=by induction n with|zero=>rfl|succ n a=>rw[fD,fD,a,I.mul_add]
theorem xx(n a:I)(d:a≤n)(c:I):aB n (λi=>(if i<a then 1 else 0)*c)=a*c:=by have b:∀n,aB n (λi=>(if i<a then 1 else 0)*c)=XL n a*c:=by{intro n;induction n with|zero=>simp[aB]|succ n e=>rw[fD,e];by_cases hna:n<a;{grind};{grind}};rw[b,I.min_eq_right d]
def lw(a:S I):I→I→I→I|0,m,i=>if i<whole a 0 m then 1 else 0|k+1,m,i=>(if i<whole a (k+1) m then 1 else 0)*2^(k+1)+lw a k (2*(m-whole a (k+1) m)) i
theorem Lc{ws:S I}(h:sO ws):∀(k m:I),m≤(row ws k).length→aB ws.length (lw ws k m)=m*2^k|0,m,b=>by have a:m≤ws.length:=by{rw[row,ew]at b;exact b};have e:=vK (ws:=ws) m a;have:=xx ws.length m a 1;have d:aB ws.length (lw ws 0 m)=aB ws.length (λi=>(if i<m then 1 else 0)*1):=mE λi _=>by{unfold lw whole;rw[e.1,Zt]};rw[d,this]|k+1,m,b=>by obtain⟨f,g,j,o,p⟩:=mO h k m b;have l:=Lc h k (2*(m-whole ws (k+1) m)) j;have e:aB ws.length (lw ws (k+1) m)=aB ws.length (λi=>(if i<whole ws (k+1) m then 1 else 0)*2^(k+1)+lw ws k (2*(m-whole ws (k+1) m)) i):=Z;have n:whole ws (k+1) m≤m:=f;have c:whole ws (k+1) m≤ws.length:=g;rw[e,Cm,xx _ _ c,l,Z5 2,I.mul_assoc,←I.pow_succ',←YK];congr 1;omega
theorem PD{a:S I}(h:sO a):∀(k m i:I),m≤(row a k).length→lw a k m i+2^(k+1-lv a k m i)=2^(k+1)|0,m,i,_=>by unfold lw lv;split<;>rfl|k+1,m,i,b=>by have c:=(mO h k m b).2.2.1;have d:=PD h k (2*(m-whole a (k+1) m)) i c;have e:=Cg a k (2*(m-whole a (k+1) m)) i;have g:=Yy (n:=2) (m:=k+1);unfold lw lv;by_cases hi:i<whole a (k+1) m;{rw[Xh hi,I.one_mul,show k+1+1-(1+lv a k (2*(m-whole a (k+1) m)) i)=k+1-lv a k (2*(m-whole a (k+1) m)) i by omega];omega};{have j:=nested h k m b;have f:=yZ h k (2*(m-whole a (k+1) m)) i c Za;rw[f]at d⊢;rw[y hi];simp only[I.zero_mul,Zk,YW]at d⊢;omega}
theorem Du{ws:S I}(h:sO ws)(k:I)(e:2≤ws.length)(b:ws.length≤2^(k+1)):aB ws.length (λi=>2^(k+1-lv ws k (2*ws.length-2) i))=2^(k+1):=by have a:=xU (ws:=ws) k b;have c:=Lc h k _ a;have d:=Cm ws.length (lw ws k (2*ws.length-2)) λi=>2^(k+1-lv ws k (2*ws.length-2) i);rw[mE (g:=λ_=>2^(k+1)) λi _=>PD h k _ i a,IW,c]at d;have f:(2*ws.length-2)*2^k+2^(k+1)=ws.length*2^(k+1):=by{have:2*ws.length-2=2*(ws.length-1):=by{omega};rw[this,Z5 2,I.mul_assoc,←I.pow_succ'];have:ws.length=ws.length-1+1:=by{omega};conv=>rhs;rw[this,Ye]};omega
theorem F0{n:I}{f:I→I}{i:I}(a:i<n):f i≤aB n f:=by induction n with|zero=>omega|succ n b=>rw[fD];by_cases h:i=n;{subst h;omega};{grind}
theorem Cs{n:I}{f:I→I}{i j:I}(b:i<n)(c:j<n)(a:i<j):f i+f j≤aB n f:=by induction n with|zero=>omega|succ n d=>rw[fD];by_cases h:j=n;{subst h;have:=F0 (f:=f) a;omega};{grind}
theorem TR{a:S I}(h:sO a)(k:I)(g:2≤a.length)(l:a.length≤2^(k+1)){i:I}(c:i<a.length):1≤lv a k (2*a.length-2) i:=by have m:=Du h k g l;(rcases Yz (lv a k (2*a.length-2) i)with b|b);{exfalso;have d:∀j,0<2^(k+1-lv a k (2*a.length-2) j):=λj=>Yb _;have e:2^(k+1-lv a k (2*a.length-2) i)=2^(k+1):=by{rw[b,YW]};by_cases hi0:i=0;{subst hi0;have:=Cs (f:=λi=>2^(k+1-lv a k (2*a.length-2) i)) c (show 1<a.length by omega) Za;have:=d 1;omega};{have:=Cs (f:=λi=>2^(k+1-lv a k (2*a.length-2) i)) (show 0<a.length by omega) c Za;have:=d 0;omega}};{exact b}
def width(S:I→XG I):I→I|0=>(S 0).length|k+1=>(S (k+1)).length*2^(k+1)+width S k
def lenOf(a:S I)(L i:I):I:=if a.length=1 then 1 else lv a (L-1) (2*a.length-2) i
theorem Nl{a:S I}{L:I}(b:sO a)(e:1≤L)(c:a.length≤2^L){i:I}(d:i<a.length):1≤lenOf a L i∧lenOf a L i≤L:=by unfold lenOf;split;{grind};{obtain⟨K,rfl⟩:∃K,L=K+1:=⟨L-1,Za⟩;exact⟨TR b K Za c d,Cg ..⟩}
end
end Go.Pm
namespace Go.Srt
section
def bR(t:S H):Xf:=t.all λx=>decide (0≤x)&&K (x≤2147483647)
def oR(l:S I):Prop:=∀x∈l,x≤2147483647
def a8(l a:S I):S I:=a.map λs=>l.getD s 0
end
end Go.Srt
namespace Go.Proofs.Q9
section
open Go Go.Vc Go.Srt Go.Pm
section
variable{E w:G}{F:S HP}
def aT(t:S H):Xe Q:=⟨t.map vI⟩
theorem ep{t:S H}:(aT t).size=t.length:=by simp[aT]
theorem Cz{t:S H}{i:I}(h:i<t.length):(aT t)[i]?=O (Sc.enc (.int .i64) t[i]):=by simp[aT,h,vI]
theorem G1{l:S I}:aT (ints l)=ai .i64 l:=by unfold aT ints ai;rw[YF];rfl
theorem Jy{t:S H}(h:bR t=U):∃l:S I,t=ints l∧oR l:=by have h:=List.all_eq_true.1 h;have b:∀x∈t,0≤x∧x≤2147483647:=λx a=>by{have:=h x a;simpa using this};refine⟨t.map H.toNat,?_,λy c=>?_⟩;{unfold ints;rw[YF];refine(S.map_id t).symm.trans (ZU λx a=>?_);have:=b x a;simp;omega};{grind}
theorem mD{l:S I}(h:oR l):bR (ints l)=U:=by refine List.all_eq_true.2 λx a=>?_;obtain⟨y,b,rfl⟩:=List.mem_map.1 a;have:=h y b;simp;omega
theorem dU{l:S I}:(ints l).length=l.length:=Zm _
theorem Ut{x:H}{K:Xf→G→Prop}(a:K (!(decide (0≤x)&&XC (x≤2147483647))) w):c6 Zf (.func (.func 112) ⟨[]⟩ ⟨[]⟩) [kB] [.int .i64 x] w K:=by refine c6.mk Zc (qt.ok x K w ?_);refine aa.mk (λh=>?_) λh=>?_;{grind};{have h:=Xj h;have e:(!(decide (0≤x)&&XC (x≤2147483647)))=XC (x>2147483647):=by{grind};rw[e]at a;exact a}
theorem sC{t:S H}{K:Xf→G→Prop}(h:Hp E w F)(p:t.length=258)(j:∀w',Hp E w' F→K (bR t) w'):Cl Zf [kB] 55 ⟨[.agg (aT t)]⟩ w K:=by refine sH.ok _ _ _ ?_;refine Nw.mk h λb r m=>?_;refine bG.whole Zb Z Z ?_;refine lL.ok _ _ _ _ ?_;refine nh.ok _ _ _ _ ?_;refine⟨λi w'=>∃k:I,i=(k:H)∧k≤258∧bR (t.take k)=U∧Hp E w' (af b (.cells (aT t) 46 (0,0))::F),λi _=>258-i.toNat,⟨0,Z,Za,Z,m⟩,?_⟩;rintro i w' ⟨k,rfl,hk,hv,hh⟩;refine aa.mk (λd=>?_) λc=>?_;{have d:k<258:=by{have:=Xk d;simp only at this;omega};have e:k<t.length:=by{omega};have f:aD 1 ⟨O ⟨b,0,V⟩,258,258⟩ (t.map vI) w':=hh.ao (ad.ay (by simp[aT]) Ze);refine au.rd f Za Ze λq u n=>Ld.sc (s:=.int .i64) t[k] (by rw[n];simp[vI]) (Ut ?_);have l:bR (t.take (k+1))=(bR (t.take k)&&(decide (0≤t[k])&&XC (t[k]≤2147483647))):=by{unfold bR;rw[Zv,S.all_append,Zg e];simp};rw[hv,Xf.true_and]at l;rw[←l];refine aa.mk (λa=>?_) λa=>?_;{have a:bR (t.take (k+1))=J:=by{simpa using a};have o:bR t=J:=by{have:=Zy (k+1) t;rw[←this];unfold bR at a⊢;rw[S.all_append,a,Xf.false_and]};have g:XC ((k:H)≥0)=U:=by{simp};show K (! XC ((k:H)≥0)) w';rw[g];have:=j w' hh.drop;rw[o]at this;exact this};{have a:bR (t.take (k+1))=U:=by{simpa using a};rw[ae Za];exact⟨⟨k+1,Z,Za,a,hh⟩,by dsimp only;omega⟩}};{have c:k=258:=by{have:=Xj c;simp only at this;omega};subst c;have g:XC ((-1:H)≥0)=J:=by{decide};show K (! XC ((-1:H)≥0)) w';rw[g];have:=j w' hh.drop;rw[Zp Za]at hv;rw[hv]at this;exact this}
theorem N3{x y:H}{K:H→G→Prop}(a:∀z:H,(z<0↔x<y)→K z w):Cl Zf [kI] 110 ⟨[.int .i64 x,.int .i64 y]⟩ w K:=by refine ox.ok _ _ _ _ ?_;refine cmp_isNaN_int.ok _ _ _ (cmp_isNaN_int.ok _ _ _ ?_);refine aa.f Zd (aa.f Zd (aa.mk (λh=>a _ ?_) λh=>aa.mk (λb=>a _ ?_) λb=>a _ ?_));{grind};{have:=Xj h;omega};{have:=Xj h;omega}
theorem Pb{l:S I}{i:I}{k:Xt}(h:i<l.length):(ai k l)[i]?=O (Sc.enc (.int k) (l.getD i 0:H)):=by rw[gH h,Zl,Zg h];rfl
theorem UU{l:S I}{b:I}{t:Xl}(j:l.length=258):uA E (af b (.cells (ai .i64 l) t (0,0))::F) (.func (.func 109) ⟨[]⟩ ⟨[.pointer (O ⟨b,0,V⟩)]⟩) (wg l) (λx=>0≤x∧x<258):=by rintro A w y x K h ⟨c,k⟩ ⟨d,m⟩ f;refine c6.mk Zc ?_;refine rC.ok y x ⟨b,0,V⟩ K w ?_;refine aJ.mk h λg e=>?_;have a:=e.perm ZY;refine aK.rd (s:=.int .i64) a d Za _ (Pb Za) ?_;refine aK.rd (s:=.int .i64) a c Za _ (Pb Za) ?_;refine N3 λz i=>f z g ?_ e;rw[i];rfl
theorem LS{t:S H}{K:Sl→G→Prop}(h:Hp E w F)(f:t.length=258)(v:bR t=J→∀w',Hp E w' F→K ⟨V,0,0⟩ w')(z:∀l,t=ints l→oR l→l.length=258→∀ys s w',cB l ys→Hp E w' (ah 1 s ((ints ys).map vI)::F)→K s w'):Cl Zf [kS] 54 ⟨[.agg (aT t)]⟩ w K:=by refine sR.ok _ _ _ ?_;refine Nw.mk h λb w1 C=>Ld.arr C (by rw[ep,f]) (sC C f λN q=>?_);refine aa.mk (λr=>v Ze N q.drop) λr=>?_;have r:bR t=U:=by{simpa using r};obtain⟨l,rfl,P⟩:=Jy r;rw[dU]at f;rw[G1]at q;refine Ld.arr q (by rw[aW,f]) ?_;refine⟨λo i w'=>∃k:I,i=(k:H)∧k≤258∧Hp E w' (ah 1 o ((ints (gh l k)).map vI)::af b (.cells (ai .i64 l) 46 (0,0))::F),λ_ i _=>258-i.toNat,⟨0,rfl,Za,q.aZ 1⟩,?_⟩;intro o i w' Q;obtain⟨k,R,hk,u⟩:=Q;subst R;refine aa.mk (λj=>?_) λg=>?_;{have j:k<258:=by{have:=Xk j;omega};have A:k<l.length:=by{omega};refine eA.rd (s:=.int .i64) Za Za _ (Oq A) ?_;refine aa.mk (λc=>?_) λc=>?_;{have c:0<l.getD k 0:=by{have:=Xk c;omega};refine Nw.mk u λT L m=>?_;have W:=u.aL;have hu:=mv l k;simp only[Zm,ints,Zt]at W;refine aS (ys:=[vI (k:H)]) (n:=1) jZ Zb (.inl ⟨3,Zc⟩) m.p1 (.inl ⟨O ⟨T,0,V⟩,1,1,rfl,rfl,m.ao (ad.ay rfl rfl)⟩) rfl yF Za Za λs' w4 X Y=>?_;rw[ae Za];refine⟨⟨k+1,rfl,Za,?_⟩,by dsimp only;omega⟩;rw[lD,Xh c,CE,ZJ];exact X.p1.drop};{have c:¬0<l.getD k 0:=by{have:=Xj c;omega};rw[ae Za];refine⟨⟨k+1,rfl,Za,?_⟩,by dsimp only;omega⟩;rw[lD,Xv c,ZF];exact u}};{have g:k=258:=by{have:=Xj g;omega};subst g;have B:∀x∈gh l 258,x<258:=λx p=>by{have:=(List.mem_filter.1 p).1;simpa using this};refine tY (key:=wg l) (D:=λx=>0≤x∧x<258) u (by have:=mv l 258;rw[ax];simp only[ints,Zm];omega) (UU f) (λx p=>?_) ?_ λys L c M m=>?_;{obtain⟨y,hy,rfl⟩:=List.mem_map.1 p;have:=B y hy;omega};{unfold ints;refine S.Pairwise.map _ (λa b d=>Int.ofNat_lt.2 d) ?_;exact S.Pairwise.filter _ S.pairwise_lt_range};{have hU:gh l 258=used l:=by{unfold gh used;rw[f]};rw[hU]at c;have e:ys=ints (ys.map H.toNat):=by{unfold ints;rw[YF];refine(S.map_id ys).symm.trans (ZU λx p=>?_);obtain⟨y,_,rfl⟩:=List.mem_map.1 (c.mem_iff.1 p);simp};have pN:(ys.map H.toNat).Perm (used l):=by{have:=c.map H.toNat;refine this.trans ?_;unfold ints;rw[YF];refine S.Perm.of_eq ((ZU λx _=>?_).trans (S.map_id _));simp};rw[e]at m M;refine z l rfl P f (ys.map H.toNat) _ L ⟨pN,?_⟩ m.p1.drop;refine(List.pairwise_map.1 M).imp λ{a b} d=>?_;unfold Ky wg at d;simp only[Zj]at d;omega}}
def gf(x:It):S Q:=[.int .i64 (x.1:H),.bool x.2]
theorem dV:∀x,(gf x).length=2:=λ_=>rfl
theorem na:∀x,∀y∈gf x,aC y=U:=by intro x y a;simp only[gf,YU,S.not_mem_nil,or_false]at a;rcases a with rfl|rfl<;>rfl
theorem lR:cH Zf 118 123 2 16:=cH.of Zc Zc
theorem NI{a:S I}{k:I}(h:k<a.length):jb (a.take (k+1))=jb (a.take k)++[(a[k],U)]:=by unfold jb;rw[Zv,ZJ,Zg h];rfl
theorem J1{s:Sl}{a:S I}{i:I}{K:H→Prop}(b:aD 1 s ((ints a).map vI) w)(f:i<a.length)(c:K (a[i]:H)):au s (i:H) 1 λq=>Ld kI q w K:=by have d:=b.1;simp only[Zm,ints,Zt]at d;refine au.rd b Za Za λq g e=>Ld.sc (s:=.int .i64) (a[i]:H) ?_ c;rw[e];simp[vI,ints]
theorem Oc{l a:S I}{s:Sl}{K:Sl→G→Prop}(h:Hp E w F)(v:l.length=258)(m:ad F (aD 1 s ((ints a).map vI)))(e:∀x∈a,x<258)(n:a.length≤258)(p:∀f w',Hp E w' (ah 2 f ((jb (a8 l a)).flatMap gf)::F)→K f w'):Cl Zf [kS] 56 ⟨[.agg (ai .i64 l),.slice s.base s.len s.cap]⟩ w K:=by refine sy.ok _ _ _ _ ?_;have j:=(h.ao m).1;simp only[Zm,ints,Zt]at j;have q:(a8 l a).length=a.length:=Zm _;refine Nw.mk h λb y r=>⟨λo i w'=>∃k:I,i=(k:H)∧k≤a.length∧Hp E w' (ah 2 o ((jb ((a8 l a).take k)).flatMap gf)::af b (.cells (ai .i64 l) 46 (0,0))::F),λ_ i _=>a.length-i.toNat,⟨0,Z,Za,by simpa[jb]using r.aZ 2⟩,?_⟩;rintro o i w' ⟨k,rfl,hk,hh⟩;refine aa.mk (λc=>?_) λd=>?_;{have c:k<a.length:=by{have:=Xk c;omega};have z:=e _ (Zu c);refine J1 (hh.drop.drop.ao m) c ?_;refine aK.rd (s:=.int .i64) hh.p1 Za Za _ (Oq Za) ?_;have t:(a8 l a)[k]' Za=l.getD a[k] 0:=by{simp[a8]};refine Jz (g:=gf) (x:=(l.getD a[k] 0,U)) lR dV Zb Z (na _) hh (by rw[ew,Zz];omega) (by rw[ew,Zz];omega) λf A u _=>?_;rw[ae Za];refine⟨⟨k+1,Z,Za,?_⟩,by dsimp only;omega⟩;rw[NI Za,t];exact u};{have d:k=a.length:=by{have:=Xj d;omega};subst d;rw[Zp Za]at hh;exact p _ _ hh.p1.drop}
end
end
end Go.Proofs.Q9
namespace Go.Srt
section
def fQ(a:S I)(f:I→I):S I:=(Zq 258).map λs=>if s∈a then f (a.idxOf s)else 0
theorem gV(a:S I)(f:I→I):(fQ a f).length=258:=by simp[fQ]
theorem Kx{a:S I}{f:I→I}{s:I}(b:s<258):(fQ a f).getD s 0=if s∈a then f (a.idxOf s)else 0:=by unfold fQ;rw[Zl,ZN,Z3 b];rfl
theorem yh:∀{a:S I}(_:a.Nodup){i:I}(d:i<a.length),a.idxOf a[i]=i|y::a,h,0,_=>by simp[S.idxOf_cons]|y::a,h,i+1,d=>by obtain⟨f,g⟩:=List.nodup_cons.1 h;have b:i<a.length:=by{simpa using d};have c:¬y=a[i]:=λe=>f (e▸Zu b);have:=yh g b;have e:(y==a[i])=J:=by{simpa using c};simp only[S.getElem_cons_succ,S.idxOf_cons,this,e,cond_false]
theorem zG{a:S I}{f:I→I}(d:a.Nodup)(b:∀s∈a,s<258){i:I}(c:i<a.length):(fQ a f).getD a[i] 0=f i:=by rw[Kx (b _ (Zu c)),Xh (Zu c),yh d c]
theorem tW{a:S I}{f g:I→I}(h:∀i,i<a.length→f i=g i):fQ a f=fQ a g:=by unfold fQ;refine ZU λs _=>?_;by_cases hs:s∈a;{grind};{grind}
theorem HK{a:S I}{f:I→I}{i v:I}(c:a.Nodup)(d:i<a.length):(fQ a f).set a[i] v=fQ a (λj=>if j=i then v else f j):=by refine Yh (by simp[fQ]) λs g b=>?_;have h:s<258:=by{rw[gV]at b;exact b};rw[S.getElem_set];unfold fQ;simp only[S.getElem_map,S.getElem_range];by_cases e:a[i]=s;{grind};{grind}
theorem OQ(a:S I):fQ a (λ_=>0)=Zi 258 0:=by refine List.eq_replicate_iff.2 ⟨gV ..,λx b=>?_⟩;obtain⟨s,_,rfl⟩:=List.mem_map.1 b;split<;>rfl
theorem tv{l c:S I}(h:cB l c):c.Nodup:=h.2.imp λ{a b} d e=>by subst e;omega
theorem yJ{l d:S I}(h:cB l d):Pm.sO (a8 l d):=S.Pairwise.map _ (λ_ _ c=>c) (h.2.imp λ{a b} c=>Za)
end
end Go.Srt
namespace Go.Proofs.Q9
section
open Go Go.Vc Go.Srt Go.Pm
section
variable{E w:G}{F:S HP}
theorem OP{R:S It}{j:I}(h:2*j+1<R.length):aR (R.drop (2*j))=((R[2*j]' Za).1+R[2*j+1].1,J)::aR (R.drop (2*(j+1))):=by rw[Zx (show 2*j<R.length by omega),Zx (show 2*j+1<R.length by omega),aR];rfl
theorem K6{R:S It}{j:I}(h:¬2*j+1<R.length):aR (R.drop (2*j))=[]:=by have:(aR (R.drop (2*j))).length=0:=by{rw[dz,ZE];omega};exact List.length_eq_zero_iff.1 this
theorem Si{y P:Sl}{A R:S It}{K:Sl→G→Prop}(h:Hp E w F)(Q:ad F (aD 2 y (A.flatMap gf)))(T:ad F (aD 2 P (R.flatMap gf)))(hcap:y.len≤y.cap)(hb:∀x∈R,x.1≤2^60)(hlA:A.length≤2^20)(hlR:R.length≤2^20)(hK:∀z w',Hp E w' (ah 2 z ((ie A (aR R)).flatMap gf)::F)→K z w'):Cl Zf [kS] 57 ⟨[.slice y.base y.len y.cap,.slice P.base P.len P.cap]⟩ w K:=by refine uL.ok _ _ _ _ ?_;have la:=aD.len dV Zb (h.ao Q);have lr:=aD.len dV Zb (h.ao T);have W:=dz R;have htl:(ie A (aR R)).length=A.length+R.length/2:=by{rw[Il,W]};have B:∀o X:S It,o++X=ie A (aR R)→o.length≤2^21:=λo X e=>Ze;refine⟨λo k i w'=>∃(a j:I)(l:S It),k=(a:H)∧i=((2*j:I):H)∧a≤A.length∧2*j≤R.length∧l++ie (A.drop a) (aR (R.drop (2*j)))=ie A (aR R)∧Hp E w' (ah 2 o (l.flatMap gf)::F),λ_ _ i _=>R.length-i.toNat,⟨0,0,[],Z,Z,Za,Za,Zd,h.aZ 2⟩,?_⟩;rintro o k i w' ⟨a,j,l,rfl,rfl,ha,hj,heq,hh⟩;have Y:=B _ _ heq;rw[ae (x:=((2*j:I):H)+1) Za];refine aa.mk (λd=>?_) λt=>?_;{have d:2*j+1<R.length:=by{have:=Xk d;omega};rw[OP d]at heq;have hx1:=hb _ (Zu (show 2*j<R.length by omega));have hx2:=hb _ (Zu d);have u:Hp E {w' with drawn:=w'.drawn+1} (ah 2 o (l.flatMap gf)::F):=hh.drew;refine⟨eJ E F,eJ.xc u,?_⟩;refine au.Pj (n:=2*j) dV Zb u.drop T Z Za λp C=>?_;refine aA.sc (s:=.int .i64) ((R[2*j]' Za).1:H) (λw2 D=>(D.ao (C 0 Zb)).trans (by simp[gf])) ?_;refine au.Pj (n:=2*j+1) dV Zb u.drop T Za d λq hq=>?_;refine aA.sc (s:=.int .i64) (R[2*j+1].1:H) (λw2 D=>(D.ao (hq 0 Zb)).trans (by simp[gf])) ?_;rw[ae (x:=((R[2*j]' Za).1:H)+(R[2*j+1].1:H)) Za];generalize hp1:(R[2*j]' Za).1+R[2*j+1].1=p1 at heq;have L:((R[2*j]' Za).1:H)+(R[2*j+1].1:H)=(p1:H):=by{omega};rw[L];refine Nw.mk u λb w3 h3=>⟨eJ.Ts h3,?_⟩;refine an.ay h3 Z (na (p1,J)) λw4 h4=>⟨eJ.Ts h4,?_⟩;refine⟨λo k w'=>∃(a:I)(l:S It),k=(a:H)∧a≤A.length∧l++ie (A.drop a) ((p1,J)::aR (R.drop (2*(j+1))))=ie A (aR R)∧Hp E w' (ah 2 o (l.flatMap gf)::af b (.cells ⟨gf (p1,J)⟩ 123 (0,0))::F),λ_ k _=>A.length-k.toNat,⟨a,l,Z,ha,heq,h4.p1⟩,?_⟩;rintro o k w5 ⟨a,l,rfl,ha,heq,hh⟩;have Y:=B _ _ heq;refine aJ.mk hh λw6 m=>?_;rw[ae (x:=((2*j:I):H)+2) Za];have r:A.drop a=[]∨(∃(_:a<A.length),¬A[a].1≤p1)→(l++[(p1,J)])++ie (A.drop a) (aR (R.drop (2*(j+1))))=ie A (aR R):=by{rintro(e|⟨M,f⟩);{rw[e,pH]at heq;rw[e,pH,←heq];simp};{rw[Zx M,Er f]at heq;rw[Zx M,←heq];simp}};refine aa.mk (λc=>?_) λc=>?_;{have c:a<A.length:=by{have:=Xk c;omega};refine au.el (n:=a) dV Zb (m.drop.drop.ao Q) Z c λp C=>?_;refine Ld.sc (s:=.int .i64) (A[a].1:H) (by rw[C 0 Zb];simp[gf]) ?_;rw[ak];refine Ld.ay m.p1 (p1:H) (by simp[gf]) ?_;refine aa.mk (λv=>?_) λf=>?_;{have v:A[a].1≤p1:=by{have:=Xk v;omega};rw[Zx c,EV v]at heq;refine au.el (n:=a) dV Zb (m.drop.drop.ao Q) Z c λp C=>?_;refine Ld.st (ks:=[.int .i64,.bool]) ((A[a].1:H),A[a].2,()) (λj hj=>C j hj) ?_;refine Jz (g:=gf) (x:=A[a]) lR dV Zb Z (na _) m Za Za λz w7 N _=>?_;rw[ae Za];refine⟨⟨a+1,l++[A[a]],Z,Za,?_,N⟩,by dsimp only;omega⟩;rw[←heq];simp};{have f:¬A[a].1≤p1:=by{have:=Xj f;omega};refine Ld.rI (ks:=[.int .i64,.bool]) m.p1 ((p1:H),J,()) Z ?_;refine Jz (g:=gf) (x:=(p1,J)) lR dV Zb Z (na _) m Za Za λz w7 N _=>?_;exact⟨⟨a,j+1,l++[(p1,J)],Z,Za,ha,Za,r (.inr ⟨c,f⟩),N.p1.drop⟩,by dsimp only;omega⟩}};{have c:A.drop a=[]:=by{grind};refine Ld.rI (ks:=[.int .i64,.bool]) m.p1 ((p1:H),J,()) Z ?_;refine Jz (g:=gf) (x:=(p1,J)) lR dV Zb Z (na _) m Za Za λz w7 N _=>?_;exact⟨⟨a,j+1,l++[(p1,J)],Z,Za,ha,Za,r (.inl c),N.p1.drop⟩,by dsimp only;omega⟩}};{have t:¬2*j+1<R.length:=by{have:=Xj t;omega};rw[K6 t,zn]at heq;refine bG.el (a:=a) (b:=A.length) (l:=A) dV la Z (by rw[la]) ha (ZA _) Za (H.le_refl _) λz hs' hl' _=>?_;have u:=hs' w' (hh.drop.ao Q);rw[Zp Ze]at u;have hdl:(A.drop a).length≤2^20:=by{rw[ZE];omega};refine TQ (g:=gf) lR dV Zb na hh u Za Za λs2 w2 D _=>hK s2 w2 ?_;rw[←heq];exact D}
end
end
end Go.Proofs.Q9
namespace Go.Pm
section
theorem u7{M:I}:∀{l:S It},(∀x∈l,x.1≤M)→∀x∈aR l,x.1≤2*M|[],_,x,h=>by simp[aR]at h|[_],_,x,h=>by simp[aR]at h|a::b::l,hl,x,h=>by rw[aR]at h;(rcases List.mem_cons.1 h with rfl|h);{have:=hl a Zd;have:=hl b Zd;simp only;omega};{exact u7 (λy c=>hl y (by simp[c])) x h}
theorem Ac{c:S I}{M:I}(h:∀x∈c,x≤M):∀k,∀x∈row c k,x.1≤M*2^k|0,x,a=>by{obtain⟨y,b,rfl⟩:=List.mem_map.1 a;simpa using h y b}|k+1,x,a=>by(rcases List.mem_append.1 ((Fg _ _).mem_iff.1 a)with a|a);{obtain⟨y,b,rfl⟩:=List.mem_map.1 a;have:=h y b;have:=I.le_mul_of_pos_right M (Yb (k+1));simp only;omega};{have:=u7 (Ac h k) x a;rw[Yy];rw[←I.mul_assoc];omega}
theorem qW(a:S I):∀k,(row a k).length≤2*a.length|0=>by rw[row,ew];omega|k+1=>by have:=qW a k;rw[ug];omega
theorem I5{l:S It}{j:I}(h:j<l.length):bF (l.take (j+1))=bF (l.take j)+if l[j].2=U then 1 else 0:=by unfold bF;rw[Zv,S.filter_append,Zh,Zg h];congr 1;by_cases e:l[j].2=U;{rw[Xh e];simp[e]};{rw[y e];simp[e]}
theorem xJ{l:S It}{a b:I}(h:a≤b):bF (l.take a)≤bF (l.take b):=by have:=Zy a (l.take b);rw[S.take_take,YN h]at this;have c:=Xx bF this;rw[nJ]at c;omega
theorem O9(a:S I){L:I}(b:1≤L)(i:I):lenOf a L i≤L:=by unfold lenOf;split;{exact b};{have:=Cg a (L-1) (2*a.length-2) i;omega}
theorem Ly{a:S I}(h:sO a)(k m:I)(b:m≤(row a k).length):bF ((row a k).take m)≤a.length:=by cases k with|zero=>rw[row,ew]at b;rw[(vK m b).1];exact b|succ k=>exact(mO h k m b).2.1
end
end Go.Pm
namespace Go.Proofs.Q9
section
open Go Go.Vc Go.Srt Go.Pm
section
variable{E w:G}{F:S HP}
theorem qP{b:I}{t:Xl}{l:S I}{K:Xe Q→G→Prop}(h:Hp E w (af b (.cells (ai .u8 l) t (0,0))::F))(a:l.length=258)(e:∀w',Hp E w' (af b (.cells (ai .u8 l) t (0,0))::F)→K (ai .u8 l) w'):Ld (.arr 258) ⟨b,0,V⟩ w λx=>ar 258 ⟨b,0,V⟩ x w λc=>Ld (.arr 258) ⟨b,0,V⟩ c λr=>K r c:=Ld.arr h (by rw[aW,a]) (ar.ay h (by rw[aW,a]) (by rw[aW,a]) fC λc d=>Ld.arr d (by rw[aW,a]) (e c d))
def oA(s:Sl):S Q:=[.slice s.base s.len s.cap]
theorem px:∀x,(oA x).length=1:=λ_=>rfl
theorem TO:∀x,∀y∈oA x,aC y=U:=by intro x y a;have:y=.slice x.base x.len x.cap:=by{simpa[oA]using a};rw[this];rfl
theorem Rg:cH Zf 120 118 1 24:=cH.of Zc Zc
def yy(b:S I)(a:S Sl)(G:S HP):Prop:=∀j(c:j<a.length),ad G (aD 2 a[j] ((row b j).flatMap gf))∧a[j].len≤a[j].cap
theorem yy.more{c:S I}{b:S Sl}{G:S HP}{s:Sl}(h:yy c b G)(d:s.len≤s.cap):yy c (b++[s]) (ah 2 s ((row c b.length).flatMap gf)::G):=by intro j e;(rcases Z9 j b.length with a|f);{rw[S.getElem_append_left a];exact⟨(h j a).1.cons,(h j a).2⟩};{have:j=b.length:=by{simp at e;omega};subst this;simp only[S.getElem_append_right (ZA _),I.sub_self,S.getElem_cons_zero];exact⟨ad.own,d⟩}
theorem Qq{L:I}(c:L≤15):a7 .i64 1 (u64 (L:H))=((2^L:I):H)∧(0:H)≤u64 (L:H):=by rw[iO Za];have d:2^L≤2^15:=ZO Zb c;have e:YA .i64=9223372036854775807:=Z;have:=cO (k:=.i64) (a:=1) (b:=L) (by have:Xt.bits .i64=64:=Z;omega) Ze;rw[I.one_mul]at this;exact⟨this,Za⟩
theorem IL{l ys:S I}(a:oR l):∀x∈a8 l ys,x≤2147483647:=by intro x b;obtain⟨s,_,rfl⟩:=List.mem_map.1 b;rw[Zl];cases h:l[s]? with|none=>simp|some y=>exact a y (Yw h)
theorem U3{l ys:S I}(a:oR l){k:I}(b:k≤15):∀x∈row (a8 l ys) k,x.1≤2^60:=by intro x c;have e:=Ac (IL (ys:=ys) a) k x c;have d:2^k≤2^15:=ZO Zb b;have:=I.mul_le_mul_left 2147483647 d;omega
theorem FI{t:S H}{L:H}{K:Xe Q→H→Xs→Prop}(h:Hp E w F)(hl:t.length=258)(hK1:(bR t=J∨L<1∨15<L∨∃l,t=ints l∧(2:H)^L.toNat<(used l).length)→∀w',Hp E w' F→K (ai .u8 (Zi 258 0)) 2 w')(hK2:∀l ys w',t=ints l→oR l→cB l ys→1≤L→L≤15→ys.length≤2^L.toNat→Hp E w' F→K (ai .u8 (fQ ys (lenOf (a8 l ys) L.toNat))) 0 w'):Cl Zf [.arr 258,kI] 20 ⟨[.agg (aT t),.int .i64 L]⟩ w K:=by refine ra.ok _ _ _ _ ?_;rw[zo];simp only[bq];refine Nw.mk h λb4 w1 h1=>Nw.mk h1 λb6 w2 h2=>Ld.arr h2.p1 (by rw[ep,hl]) (LS h2 hl (λhv w3 h3=>?_) λl hte hm hll ys s w3 B h3=>?_);{refine Ld.arr h3.p1 (by rw[ep,hl]) (sC h3 hl λw4 M=>aa.t Ze (qP M Zd λw5 u=>hK1 (.inl hv) w5 u.drop.drop))};{subst hte;have hlen:=T7 hll B;have hin:=Tp hll B;have hsl:s.len=ys.length:=by{have:=(h3.ao ad.own).1;simp only[Zm,ints,Zt]at this;exact this.symm};refine Ld.arr h3.p2 (by rw[ep,hl]) (sC h3 hl λw4 M=>aa.f (by rw[mD hm];rfl) ?_);refine aa.mk (λhlt=>qP M.p1 Zd λw5 u=>hK1 (.inr (.inl (Xk hlt))) w5 u.drop.drop.drop) λP=>?_;have P:=Xj P;refine aa.mk (λhgt=>qP M.p1 Zd λw5 u=>hK1 (.inr (.inr (.inl Ze))) w5 u.drop.drop.drop) λhle=>?_;have hle:=Xj hle;obtain⟨N,rfl⟩:=H.eq_ofNat_of_zero_le (show 0≤L by omega);have hN:N≤15:=by{omega};have hN1:1≤N:=by{omega};obtain⟨e1,e2⟩:=Qq hN;rw[e1];refine⟨e2,aa.mk (λhgt=>qP M.p1 Zd λw5 u=>hK1 (.inr (.inr (.inr ⟨l,rfl,?_⟩))) w5 u.drop.drop.drop) λhle2=>?_⟩;{have hgt:=Xk hgt;rw[Zj,←B.1.length_eq,←hsl];rw[show(2:H)^N=((2^N:I):H) by norm_cast];exact hgt};have hle2:ys.length≤2^N:=by{have:=Xj hle2;omega};have R:=yJ B;have hwl:(a8 l ys).length=ys.length:=Zm _;have hnd:=tv B;have A:∀s∈ys,s<258:=λs hs=>(hin s hs).1;have T:∀w',Hp E w' F→K (ai .u8 (fQ ys (lenOf (a8 l ys) N))) 0 w':=λw' h'=>hK2 l ys w' rfl hm B Za Za Ze h';rw[←OQ ys]at M;refine aa.mk (λh1=>?_) λh1=>?_;{have h1:ys.length=1:=by{have:(s.len:H)=1:=by{simpa using h1};omega};refine J1 (i:=0) (M.ao ad.own) Za ?_;have hx:=A _ (Zu (show 0<ys.length by omega));refine aK.wr M.p1 Za Za (by rw[aW,gV]) rfl λw5 u=>?_;rw[Zj]at u;have e:=ET (k:=.u8) (l:=fQ ys λ_=>0) (i:=ys[0]) (x:=1);rw[show(Yk .u8 1)=.int .u8 ((1:I):H)from rfl,e,HK hnd Za]at u;have e3:fQ ys (λj=>if j=0 then 1 else 0)=fQ ys (lenOf (a8 l ys) N):=tW λi W=>by{have:i=0:=by{omega};subst this;unfold lenOf;rw[Xh rfl,Xh Za]};rw[e3]at u;exact qP u (gV ..) λw6 h6=>T w6 h6.drop.drop.drop};{have h1:ys.length≠1:=by{grind};rw[G1]at M;refine Ld.arr M.p2 (by rw[aW,hll]) (Oc M hll ad.own A hlen λs0 w5 u=>Nw.mk u λb38 w6 h6=>?_);have hc0:=u.fV;refine⟨λo k w'=>∃(g:S Sl)(G:S HP),k=(g.length:H)∧1≤g.length∧g.length≤N∧yy (a8 l ys) g G∧Hp E w' (ah 1 o (g.flatMap oA)::af b6 (.cells (ai .u8 (fQ ys λ_=>0)) 50 (0,0))::ah 1 s ((ints ys).map vI)::af b4 (.cells (ai .i64 l) 46 (0,0))::(G++F)),λ_ k _=>N-k.toNat,⟨[s0],[ah 2 s0 ((jb (a8 l ys)).flatMap gf)],rfl,ZA _,hN1,?_,?_⟩,?_⟩;{intro j hj;have:j=0:=by{simp at hj;omega};subst this;exact⟨ad.own,hc0⟩};{exact((h6.kr (sz:=1) (n:=1) rfl).p1.q4).p2.p1};rintro o k w7 ⟨g,G,rfl,hr1,hrN,hrs,D⟩;have hrl:=aD.len px Zb (D.ao ad.own);refine aa.mk (λhlt=>?_) λP=>?_;{have hlt:g.length<N:=by{have:=Xk hlt;omega};have hd:Hp E {w7 with drawn:=w7.drawn+1} _:=D.drew;have hrd:∀w',Hp E w' (ah 1 o (g.flatMap oA)::af b6 (.cells (ai .u8 (fQ ys λ_=>0)) 50 (0,0))::ah 1 s ((ints ys).map vI)::af b4 (.cells (ai .i64 l) 46 (0,0))::(G++F))→aD 1 o (g.flatMap oA) w':=λw' h'=>h'.ao ad.own;have key:∀(i:I)(W:i<g.length){K:Xn→Prop},(∀p,(∀w,aD 1 o (g.flatMap oA) w→w.cell? p=O (.slice g[i].base g[i].len g[i].cap))→K p)→au o (i:H) 1 K:=by{intro i W K hK;obtain⟨p,hp,_⟩:=(hrd _ hd).2 i (by rw[ck px];omega);refine⟨p,hp,Za,Za,hK _ λw2 h2=>?_⟩;obtain⟨q,hq,hc⟩:=h2.2 i (by rw[ck px];omega);have:q=p:=Xg.some.inj (hq.symm.trans hp);subst this;rw[Zj,Zt,hc];have:=fW px g i 0 W Zb;rw[Zt,Zs]at this;rw[←Zg,this];rfl};have hr0:=hrs 0 Za;have hrk:=hrs (g.length-1) Za;refine⟨aD 1 o (g.flatMap oA),hrd _ hd,?_⟩;refine key 0 Za λp hp=>aA.sc (s:=.sl) g[0] hp ?_;rw[show i64 ((g.length:H)-1)=((g.length-1:I):H) by rw[ae Za];omega];refine key (g.length-1) Za λq hq=>aA.sc (s:=.sl) g[g.length-1] hq ?_;have hlr:=qW (a8 l ys) (g.length-1);refine Si hd (ad.cons (ad.cons (ad.cons (ad.cons hr0.1.I7)))) (ad.cons (ad.cons (ad.cons (ad.cons hrk.1.I7)))) hr0.2 (U3 hm Za) (by rw[row,ew];omega) Za λs' w8 h8=>?_;have hcs:=h8.fV;refine⟨hrd _ h8.drop,Nw.mk h8 λb53 w9 h9=>⟨hrd _ h9.drop.drop,?_⟩⟩;refine uT (ys:=oA s') (n:=1) Rg Zb (.inl ⟨118,Zc⟩) h9.p2 (.inl ⟨_,_,_,rfl,rfl,h9.ao (ad.ay rfl rfl)⟩) rfl (TO s') Za Za λs2 w10 h10 _ hold=>⟨hold,?_⟩;have e:g.length-1+1=g.length:=by{omega};have er:ie (row (a8 l ys) 0) (aR (row (a8 l ys) (g.length-1)))=row (a8 l ys) g.length:=by{(conv=>rhs;rw[←e,row]);rfl};rw[er]at h10;rw[ae Za];refine⟨⟨g++[s'],ah 2 s' ((row (a8 l ys) g.length).flatMap gf)::G,Zd,Zd,by simp;omega,hrs.more hcs,?_⟩,by dsimp only;omega⟩;have h11:=h10.p1.drop;rw[Xc,show[s'].flatMap oA=oA s' by simp];exact h11.p1.q4};{have P:g.length=N:=by{have:=Xj P;omega};have tot15:∀i,lenOf (a8 l ys) N i≤15:=λi=>Yf (O9 _ hN1 i) hN;have htot:∀i,lenOf (a8 l ys) N i=lv (a8 l ys) (N-1) (2*ys.length-2) i:=λi=>by{unfold lenOf;rw[y Za,hwl]};refine⟨λX k w'=>∃f:I→I,(((k=-1∨X≤0)∧-1≤k∧k<N∧∀i,i<ys.length→f i=lenOf (a8 l ys) N i)∨(∃c m:I,k=(c:H)∧c<N∧X=(m:H)∧m≤(row (a8 l ys) c).length∧∀i,i<ys.length→f i+lv (a8 l ys) c m i=lenOf (a8 l ys) N i))∧Hp E w' (af b6 (.cells (ai .u8 (fQ ys f)) 50 (0,0))::ah 1 o (g.flatMap oA)::ah 1 s ((ints ys).map vI)::af b4 (.cells (ai .i64 l) 46 (0,0))::(G++F)),λ_ k _=>(k+1).toNat,⟨λ_=>0,?_,D.p1⟩,?_⟩;{rw[ae (x:=2*(s.len:H)) Za,ae (x:=2*(s.len:H)-2) Za,ae Za];(rcases Yz ys.length with h0|h0);{grind};{refine .inr ⟨N-1,2*ys.length-2,Za,Za,Za,?_,λi _=>by rw[htot,Zk]⟩;rw[←hwl];exact xU (N-1) Ze}};rintro X k w8 ⟨f,hf,D⟩;have done:(∀i,i<ys.length→f i=lenOf (a8 l ys) N i)→Hp E w8 (af b6 (.cells (ai .u8 (fQ ys (lenOf (a8 l ys) N))) 50 (0,0))::ah 1 o (g.flatMap oA)::ah 1 s ((ints ys).map vI)::af b4 (.cells (ai .i64 l) 46 (0,0))::(G++F)):=λW=>by{rw[←tW W];exact D};refine aa.mk (λhk=>?_) λhk=>?_;{have hk:=Xk hk;refine aa.mk (λr=>?_) λr=>?_;{have r:=Xk r;(rcases hf with⟨h0,_⟩|⟨c,m,rfl,hkN,rfl,C,hf⟩);{omega};have hrk:=hrs c Za;have hlr:=qW (a8 l ys) c;refine au.el (n:=c) px Zb (D.p1.ao ad.own) rfl Za λp hp=>?_;refine Ld.sc (s:=.sl) g[c] (by have:=hp 0 Zb;rw[add_zero]at this;rw[this];rfl) ?_;have hrt:ad (G++F) (aD 2 g[c] ((row (a8 l ys) c).flatMap gf)):=hrk.1.I7;have hrl2:=aD.len dV Zb (D.drop.drop.drop.drop.ao hrt);refine bG.el (a:=0) (b:=m) (l:=row (a8 l ys) c) dV hrl2 rfl rfl Za C Za (H.le_refl _) λsm hsm hsml _=>?_;have hsm2:ad (G++F) (aD 2 sm (((row (a8 l ys) c).take m).flatMap gf)):=hrt.imp λw' hw'=>by{simpa using hsm w' hw'};refine⟨λwh j w'=>∃d:I,j=(d:H)∧d≤m∧wh=(bF ((row (a8 l ys) c).take d):H)∧Hp E w' (af b6 (.cells (ai .u8 (fQ ys λi=>f i+if i<bF ((row (a8 l ys) c).take d)then 1 else 0)) 50 (0,0))::ah 1 o (g.flatMap oA)::ah 1 s ((ints ys).map vI)::af b4 (.cells (ai .i64 l) 46 (0,0))::(G++F)),λ_ j _=>m-j.toNat,⟨0,rfl,Za,rfl,D⟩,?_⟩;rintro wh j w9 ⟨d,rfl,hj,rfl,D⟩;have hlfm:=xJ (l:=row (a8 l ys) c) (show d≤m from hj);have hlfn:=Ly R c m C;refine aa.mk (λv=>?_) λv=>?_;{have v:d<m:=by{have:=Xk v;omega};have hjr:d<(row (a8 l ys) c).length:=by{omega};have z:=I5 hjr;have hlfm2:=xJ (l:=row (a8 l ys) c) (show d+1≤m from v);refine au.el (n:=d) dV Zb (D.drop.drop.drop.drop.ao hsm2) rfl Ze λp hp=>?_;rw[Y0]at hp;refine Ld.st (ks:=[.int .i64,.bool]) (((row (a8 l ys) c)[d].1:H),(row (a8 l ys) c)[d].2,()) (λj hj=>hp j hj) ?_;refine Nw.mk D λb80 w10 h10=>an.ay h10 rfl (na (row (a8 l ys) c)[d]) λw11 h11=>?_;rw[ak];refine Ld.ay h11 (row (a8 l ys) c)[d].2 Ze ?_;have h12:=h11.drop;refine aa.mk (λhlf=>?_) λhlf=>?_;{rw[Xh hlf]at z;have Y:bF ((row (a8 l ys) c).take d)<ys.length:=by{omega};have hx:=A _ (Zu Y);have hfi:=hf _ Y;have h15:=tot15 (bF ((row (a8 l ys) c).take d));have hlv:1≤lv (a8 l ys) c m (bF ((row (a8 l ys) c).take d)):=by{cases c with|zero=>unfold lv whole;rw[Xh Za];exact ZA _|succ c=>unfold lv whole;rw[Xh Za];omega};refine J1 (h12.p2.ao ad.own) Y ?_;refine aK.rd (s:=.int .u8) h12 Za Za _ (Oq (by rw[gV];omega)) ?_;rw[zG hnd A Y,y Za,Zs];refine aK.wr h12 Za Za (by rw[aW,gV]) rfl λw13 h13=>?_;rw[Zj,kh Za,show((f (bF ((row (a8 l ys) c).take d)):H)+1)=((f (bF ((row (a8 l ys) c).take d))+1:I):H) by omega,ET,HK hnd Y]at h13;rw[ae (x:=(bF ((row (a8 l ys) c).take d):H)+1) Za,ae Za];refine⟨⟨d+1,rfl,Za,Za,?_⟩,by dsimp only;omega⟩;rw[z];have e:fQ ys (λi=>f i+if i<bF ((row (a8 l ys) c).take d)+1 then 1 else 0)=fQ ys (λj=>if j=bF ((row (a8 l ys) c).take d)then f (bF ((row (a8 l ys) c).take d))+1 else f j+if j<bF ((row (a8 l ys) c).take d)then 1 else 0):=tW λi _=>Ze;rw[e];exact h13};{rw[y Ze]at z;have z:bF ((row (a8 l ys) c).take (d+1))=bF ((row (a8 l ys) c).take d):=z;rw[ae Za];refine⟨⟨d+1,rfl,Za,by rw[z],?_⟩,by dsimp only;omega⟩;rw[z];exact h12}};{have v:d=m:=by{have:=Xj v;omega};subst v;have hlj:bF ((row (a8 l ys) c).take d)≤d:=by{unfold bF;have:=S.length_filter_le (λx:It=>x.2) ((row (a8 l ys) c).take d);rw[Zz]at this;omega};rw[ae (x:=(d:H)-_) Za,ae (x:=2*_) Za,ae Za];refine⟨⟨_,?_,D⟩,by dsimp only;omega⟩;cases c with|zero=>refine .inl ⟨.inl Za,Za,Za,λi W=>?_⟩;have:=hf i W;unfold lv whole at this;exact this|succ c=>refine .inr ⟨c,2*(d-whole (a8 l ys) (c+1) d),Za,Za,?_,(mO R c d C).2.2.1,λi W=>?_⟩;{show 2*((d:H)-(whole (a8 l ys) (c+1) d:H))=_;have:whole (a8 l ys) (c+1) d≤d:=hlj;omega};{have:=hf i W;rw[lv]at this;rw[←this];unfold whole;omega}}};{have r:=Xj r;refine qP (done ?_) (gV ..) λw9 h9=>T w9 h9.drop.drop.drop.drop.qx;(rcases hf with⟨_,_,_,h0⟩|⟨c,m,rfl,hkN,rfl,C,hf⟩);{exact h0};{intro i W;have h0:=hf i W;have hm0:m=0:=by{omega};subst hm0;rw[yZ R c 0 i C (by simp[whole,bF]),Zs]at h0;exact h0}}};{have hk:=Xj hk;refine qP (done ?_) (gV ..) λw9 h9=>T w9 h9.drop.drop.drop.drop.qx;(rcases hf with⟨_,_,_,h0⟩|⟨c,m,rfl,hkN,rfl,C,hf⟩);{exact h0};{omega}}}}}
end
end
end Go.Proofs.Q9
namespace Go.Pm
section
structure WE where
 w:I
 sym:H
 one:I
 two:I
end
end Go.Pm
namespace Go.Proofs.Q9
section
open Go Go.Vc Go.Srt Go.Pm
section
variable{E w:G}{F:S HP}
abbrev RK:S Sc:=[.int .i64,.int .i64,.int .i64,.int .i64]
def tR(x:WE):TT RK:=((x.w:H),x.sym,(x.one:H),(x.two:H),())
end
end
end Go.Proofs.Q9
namespace Go.Srt
section
theorem yH(l:S I):∃ys,cB l ys:=by have f:∀a b c:I,K (l.getD a 0<l.getD b 0∨(l.getD a 0=l.getD b 0∧a≤b))=U→K (l.getD b 0<l.getD c 0∨(l.getD b 0=l.getD c 0∧b≤c))=U→K (l.getD a 0<l.getD c 0∨(l.getD a 0=l.getD c 0∧a≤c))=U:=Ze;have g:∀a b:I,(decide (l.getD a 0<l.getD b 0∨(l.getD a 0=l.getD b 0∧a≤b))||K (l.getD b 0<l.getD a 0∨(l.getD b 0=l.getD a 0∧b≤a)))=U:=Ze;have i:=S.pairwise_mergeSort (le:=λa b=>decide (l.getD a 0<l.getD b 0∨(l.getD a 0=l.getD b 0∧a≤b))) f g (used l);have e:=S.mergeSort_perm (used l) λa b=>decide (l.getD a 0<l.getD b 0∨(l.getD a 0=l.getD b 0∧a≤b));have j:(used l).Nodup:=S.Pairwise.filter _ (S.nodup_range (n:=l.length));have d:=e.nodup_iff.2 j;exact⟨_,e,(i.and d).imp λ{a b} h=>by have:=Xk h.1;have:=h.2;omega⟩
structure eu (t:S H) (L:H) (u ys:S I) (N:I):Prop where
 eq:t=Proofs.Q9.ints u
 max:oR u
 len:u.length=258
 ord:cB u ys
 lim:L=(N:H)
 one:1≤N
 top:N≤15
 few:ys.length≤2^N
theorem En{u v:S I}(h:Proofs.Q9.ints u=Proofs.Q9.ints v):u=v:=(S.map_inj_right λx y h=>by have h:(x:H)=(y:H):=h;omega).1 h
end
end Go.Srt
namespace Go.Proofs.Q9
section
open Go Go.Vc Go.Srt Go.Pm
section
variable{E w:G}{F:S HP}
theorem RH{t:S H}{L:H}{u ys:S I}{N:I}(b:eu t L u ys N):¬(bR t=J∨L<1∨15<L∨∃l,t=ints l∧(2:H)^L.toNat<(used l).length):=by obtain⟨rfl,c,e,a,rfl,f,g,i⟩:=b;rintro(h|h|h|⟨l,h,d⟩);{rw[mD c]at h;cases h};{omega};{omega};{obtain rfl:=En h;rw[←a.1.length_eq,Zj,show(2:H)^N=((2^N:I):H) by norm_cast]at d;omega}
def iP(u ys:S I)(N:I):S I:=fQ ys (lenOf (a8 u ys) N)
theorem xr(u ys:S I)(N:I):(iP u ys N).length=258:=gV ..
theorem Dn{t:S H}{L:H}{u ys:S I}{N:I}{K:Xe Q→H→G→Prop}(a:eu t L u ys N)(h:Hp E w F)(c:∀w',Hp E w' F→K (ai .u8 (iP u ys N)) 0 w'):Cl Zf [.arr 258,kI] 20 ⟨[.agg (aT t),.int .i64 L]⟩ w K:=by refine FI h (by rw[a.eq,dU,a.len]) (λd=>Xr d (RH a)) λl zs w' e i b j k m f=>?_;have:l=u:=En (e.symm.trans a.eq);subst this;obtain rfl:=N4 b a.ord;have g:=c w' f;rw[a.lim,Zj];exact g
end
end
end Go.Proofs.Q9
namespace Go.Srt
section
open Go.Pm
theorem OF(ys:S I)(g:I→I):(ys.map g).sum=aB ys.length λi=>g (ys.getD i 0):=by unfold aB;congr 1;refine Yh Zd λi a c=>?_;have b:i<ys.length:=by{simpa using a};simp[b]
theorem L5{u ys:S I}{f:I→I}(c:u.length=258)(b:cB u ys)(d:∀i,i<ys.length→1≤f i):used (fQ ys f)=used u:=by unfold used;rw[gV,c];refine S.filter_congr λs a=>?_;have a:s<258:=by{simpa using a};rw[Kx a];have e:s∈ys↔0<u.getD s 0:=by{rw[b.1.mem_iff,eW,c];exact⟨λh=>h.2,λh=>⟨a,h⟩⟩};by_cases h:s∈ys;{grind};{grind}
theorem KE{u ys:S I}{f:I→I}(e:u.length=258)(a:cB u ys)(d:∀i,i<ys.length→1≤f i∧f i≤15):bl (fQ ys f)=aB ys.length λi=>2^(15-f i):=by have c:∀s∈ys,s<258:=λs g=>by{have:=(eW.1 (a.1.mem_iff.1 g)).1;omega};rw[A6,L5 e a λi b=>(d i b).1,←(a.1.map _).sum_nat,OF];refine mE λi b=>?_;rw[uw b,zG (tv a) c b];have:=d i b;unfold wt;rw[y Za,y Za]
section
variable{t:S H}{L:H}{u ys:S I}{N:I}
theorem eu.wl(a:eu t L u ys N):(a8 u ys).length=ys.length:=Zm _
theorem eu.Jr(a:eu t L u ys N){i:I}(b:i<ys.length):1≤lenOf (a8 u ys) N i∧lenOf (a8 u ys) N i≤N:=Nl (yJ a.ord) a.one (by rw[a.wl];exact a.few) (by rw[a.wl];exact b)
theorem Ww:2^15=32768:=Zb
theorem eu.VQ(a:eu t L u ys N)(d:2≤ys.length):bl (Proofs.Q9.iP u ys N)=32768:=by have j:=a.top;have k:=a.one;have e:=KE (f:=lenOf (a8 u ys) N) a.len a.ord λi b=>by{have:=a.Jr b;omega};have c:=Du (yJ a.ord) (N-1) (by rw[a.wl];exact d) (by rw[a.wl,show N-1+1=N by omega];exact a.few);rw[a.wl,show N-1+1=N by omega]at c;unfold Proofs.Q9.iP;rw[e,mE (g:=λi=>2^(15-N)*2^(N-lv (a8 u ys) (N-1) (2*ys.length-2) i)) λi b=>by have:=a.Jr b;have h:lenOf (a8 u ys) N i=lv (a8 u ys) (N-1) (2*ys.length-2) i:=by{unfold lenOf;rw[y (by rw[a.wl];omega),a.wl]};rw[h]at this⊢;rw[←I.pow_add,show 15-N+(N-lv (a8 u ys) (N-1) (2*ys.length-2) i)=15-lv (a8 u ys) (N-1) (2*ys.length-2) i by omega],Nr,c,←I.pow_add,show 15-N+N=15 by omega,Ww]
theorem eu.bytes(a:eu t L u ys N):∀y∈Proofs.Q9.iP u ys N,y<256:=by intro y b;obtain⟨s,_,rfl⟩:=List.mem_map.1 b;have c:=a.top;split;{rename_i h;have:=a.Jr (S.idxOf_lt_length_of_mem h);omega};{decide}
theorem eu.at(a:eu t L u ys N){i:I}(b:i<ys.length):(Proofs.Q9.iP u ys N).getD ys[i] 0=lenOf (a8 u ys) N i:=zG (tv a.ord) (λs c=>by have:=(eW.1 (a.ord.1.mem_iff.1 c)).1;have:=a.len;omega) b
end
end
end Go.Srt
namespace Go.Sym
section
theorem sJ:∀(b L:S I)(r:I),bM L→(∀x∈b,x<256)→(b≠[]∨0<r)→∃s∈cT L r b,s<257|[],L,r,_,_,h=>by have a:0<r:=by{(rcases h with h|h);{exact Xr Z h};{exact h}};rw[kD,mN a];exact⟨(r-1)%2,Zd,Za⟩|c::b,L,r,hL,hb,_=>by by_cases h0:L.idxOf c=0;{rw[ju h0];exact sJ b _ _ (hL.take Zb) (λx d=>hb x (ZC _ d)) (.inr Za)};{rw[kQ h0];have:=hL.idx (hb c ZW);exact⟨L.idxOf c+1,Zd,Za⟩}
theorem M4{b:S I}(h:b≠[])(a:∀x∈b,x<256):∃s∈syms b,s<257:=sJ b _ 0 bM.range a (.inl h)
theorem N5(b:S I):257∈syms b:=by unfold syms cT;simp
theorem HJ(n:I):(cM n).length≤n:=by induction n using Z4 with|ind n a=>by_cases h:n=0;{subst h;rw[nO];exact ZA _};{rw[mN Za,Zw];have:=a ((n-1)/2) Za;omega}
theorem nF:∀(b L:S I)(r:I),(cT L r b).length≤r+b.length+1|[],L,r=>by rw[kD,Zh];have:=HJ r;simp;omega|c::b,L,r=>by by_cases h0:L.idxOf c=0;{rw[ju h0];have:=nF b (cI L 0) (r+1);rw[Zw];omega};{rw[kQ h0,Zh,Zw,Zw];have:=nF b (cI L (L.idxOf c)) 0;have:=HJ r;omega}
theorem ln(b:S I):(syms b).length≤b.length+1:=by have:=nF b (Zq 256) 0;unfold syms;omega
end
end Go.Sym
namespace Go.af
section
open Go.Inc Go.Srt Go.Sym Go.Bits Go.Tab Go.Bw Go.Pm
def ij(a:S I):S I:=(Zq 258).map λs=>a.count s
theorem jR(a:S I):(ij a).length=258:=by unfold ij;simp
theorem HG(a:S I){s:I}(h:s<258):(ij a).getD s 0=a.count s:=by unfold ij;rw[Zl,ZN,Z3 h];rfl
theorem uG{ss:S I}(h:ss.length≤2147483647):oR (ij ss):=λx a=>by obtain⟨s,_,rfl⟩:=List.mem_map.1 a;exact Yf S.count_le_length h
theorem eW{u:S I}{s:I}:s∈used u↔s<u.length∧0<u.getD s 0:=by unfold used;rw[S.mem_filter,YC,decide_eq_true_iff]
theorem zS{u a:S I}(h:cB u a){s:I}:s∈a↔s<u.length∧0<u.getD s 0:=by rw[h.1.mem_iff,eW]
theorem PV{u a:S I}(b:u.length=258)(h:cB u a):a.length≤258:=by rw[h.1.length_eq,←b];unfold used;exact Yf (S.length_filter_le ..) Zd
theorem HY{u b:S I}(c:u.length=258)(d:oR u)(a:cB u b):eu (Proofs.Q9.ints u) 15 u b 15 where eq:=Z;max:=d;len:=c;ord:=a;lim:=Z;one:=Zb;top:=Zb;few:=Yf (PV c a) Zb
theorem Ik{u d b:S I}(q:u.length=258)(r:oR u)(c:cB u d)(f:0<u.getD 257 0)(t:∃s,s<257∧0<u.getD s 0)(v:∀s∈syms b,0<u.getD s 0)(w:∀x∈b,x<256):oX (Proofs.Q9.iP u d 15) b:=by have g:=HY q r c;have j:∀s,s<258→0<u.getD s 0→0<(Proofs.Q9.iP u d 15).getD s 0:=by{intro s y l;have k:s∈d:=(zS c).2 ⟨Za,l⟩;obtain⟨i,p,e⟩:=List.mem_iff_getElem.1 k;have m:=g.at p;have z:=(g.Jr p).1;rw[e]at m;omega};have l:2≤d.length:=by{obtain⟨s,y,m⟩:=t;have n:s∈d:=(zS c).2 ⟨Za,m⟩;have o:257∈d:=(zS c).2 ⟨Za,f⟩;match d,n,o with|[a],n,o=>rw[ZI]at n o;omega|_::_::_,_,_=>simp};refine⟨Proofs.Q9.xr _ _ _,mP.2 ⟨g.VQ l,j 257 Zb f⟩,λs h=>?_⟩;have:=uC w s h;exact⟨Za,j s Za (v s h)⟩
noncomputable def zv(u:S I):S I:=Classical.choose (yH u)
theorem zc(u:S I):cB u (zv u):=Classical.choose_spec (yH u)
noncomputable def wX(a:S I):S I:=Proofs.Q9.iP (ij a) (zv (ij a)) 15
theorem KT(a:S I):(wX a).length=258:=Proofs.Q9.xr _ _ _
noncomputable def dp(x:S I):S I:=wX (syms (aQ x.reverse))
theorem xN{a:S I}(h:a.length≤2147483647):eu (Proofs.Q9.ints (ij a)) 15 (ij a) (zv (ij a)) 15:=HY (jR a) (uG h) (zc _)
theorem kK{x:S I}(k:0<x.length)(l:x.length≤1000000)(g:∀c∈x,c<256):oX (dp x) (aQ x.reverse):=by have b:=Stm.Pf g;have i:aQ x.reverse≠[]:=by{intro e;have:=Xx S.length e;rw[cP,ZQ,Yj]at this;omega};have a:(syms (aQ x.reverse)).length≤2147483647:=by{have:=ln (aQ x.reverse);rw[cP,ZQ]at this;omega};have d:∀s∈syms (aQ x.reverse),0<(ij (syms (aQ x.reverse))).getD s 0:=by{intro s h;have:=uC b s h;rw[HG _ Za];exact List.count_pos_iff.2 h};obtain⟨s,j,f⟩:=M4 i b;exact Ik (jR _) (uG a) (zc _) (d 257 (N5 _)) ⟨s,f,d s j⟩ d b
theorem GZ{a:S I}(h:∀s∈a,s≤257):Hs.gO (Zi 258 0) (Proofs.Q9.ints a)=Proofs.Q9.ints (ij a):=by have b:(Proofs.Q9.ints a).all Hs.lV=U:=by{refine List.all_eq_true.2 λz e=>?_;obtain⟨s,f,rfl⟩:=List.mem_map.1 e;have:=h s f;exact Hs.mM.2 Za};refine Yq λi=>?_;have k:(Hs.gO (Zi 258 0) (Proofs.Q9.ints a)).length=258:=by{rw[Hs.p6];simp};by_cases hi:i<258;{have c:=Hs.uf (zs:=Proofs.Q9.ints a) (t:=Zi 258 0) b Zd i;rw[Zl,Zg Za]at c;rw[Zg Za];have d:=HG a hi;rw[Zl,Zg (by rw[jR];exact hi)]at d;have g:(Proofs.Q9.ints (ij a))[i]?=O (((ij a)[i]'(by rw[jR];exact hi):I):H):=by{unfold Proofs.Q9.ints;rw[ZN,Zg (by rw[jR];exact hi)];rfl};rw[g];simp only[Xg.getD_some]at c d;rw[c,d];have j:((Proofs.Q9.ints a).count (i:H))=a.count i:=by{unfold Proofs.Q9.ints;rw[S.count_eq_countP,S.countP_map,S.count_eq_countP];refine S.countP_congr λx _=>?_;simp only[Function.comp,XA];omega};rw[j,Zl,S.getElem?_replicate,Xh hi];simp};{rw[ZX Za,ZX (by rw[Proofs.Q9.dU,jR];omega)]}
end
end Go.af
namespace Go.Vc
section
def oq(l:S I)(i:I):S I:=(Zq l.length).map λp=>if p<i∨l.length-i≤p then l.getD (l.length-1-p) 0 else l.getD p 0
theorem mK(l:S I)(i:I):(oq l i).length=l.length:=by unfold oq;simp
theorem pV{l:S I}{i p:I}(h:p<l.length):(oq l i)[p]?=O (if p<i∨l.length-i≤p then l.getD (l.length-1-p) 0 else l.getD p 0):=by unfold oq;rw[ZN,Z3 h];rfl
theorem NQ(l:S I):oq l 0=l:=by refine Yq λp=>?_;by_cases h:p<l.length;{rw[pV h,y Za,Zg h,Zl,Zg h];rfl};{rw[ZX (by rw[mK];omega),ZX Za]}
theorem N9{l:S I}{i:I}(h:2*i+1<l.length):((oq l i).set i (l.getD (l.length-1-i) 0)).set (l.length-1-i) (l.getD i 0)=oq l (i+1):=by refine Yq λp=>?_;by_cases hp:p<l.length;{rw[pV hp,S.getElem?_set,S.getElem?_set,pV hp];by_cases h1:l.length-1-i=p;{subst h1;rw[Xh Z,Xh (by rw[YH,mK];omega),Xh Za,show l.length-1-(l.length-1-i)=i by omega]};{rw[y h1];by_cases h2:i=p;{subst h2;rw[Xh Z,Xh (by rw[mK];omega),Xh Za]};{grind}}};{rw[ZX (by rw[YH,YH,mK];omega),ZX (by rw[mK];omega)]}
theorem PW{l:S I}{i:I}(h:l.length≤2*i+1):oq l i=l.reverse:=by refine Yq λp=>?_;by_cases hp:p<l.length;{rw[pV hp,S.getElem?_reverse hp];have e:∀q,q<l.length→l[q]?=O (l.getD q 0):=λq a=>by{rw[Zl,Zg a];rfl};rw[e _ Za];by_cases h3:p<i∨l.length-i≤p;{rw[Xh h3]};{grind}};{rw[ZX (by rw[mK];omega),ZX Ze]}
end
end Go.Vc
namespace Go.Proofs.Q9
section
open Go Go.Vc
section
variable{E w:G}{F:S HP}
theorem AJ{s:Sl}{l:S I}{K:G→Prop}(h:Hp E w (ah 1 s (l.map vB)::F))(a:l.length≤bP)(f:∀w',Hp E w' (ah 1 s (l.reverse.map vB)::F)→K w'):Cl Zf [] 139 ⟨[.slice s.base s.len s.cap]⟩ w K:=by refine nW.ok _ _ _ ?_;have b:=h.aL;rw[Zm,Zt]at b;rw[ax]at a;rw[ae Za];refine⟨λi j w'=>∃k:I,i=(k:H)∧j=(l.length:H)-1-(k:H)∧k≤l.length∧Hp E w' (ah 1 s ((oq l k).map vB)::F),λi _ _=>l.length-i.toNat,⟨0,Z,Za,Za,by rw[NQ];exact h⟩,?_⟩;rintro i j w ⟨k,rfl,rfl,hk,h⟩;refine aa.dm (λg=>?_) λm=>?_;{have x:∀p,(e:p<l.length)→((oq l k).map vB)[p]?=O (vB (if p<k∨l.length-k≤p then l.getD (l.length-1-p) 0 else l.getD p 0)):=λp e=>by{rw[ZN,pV e];rfl};have n:((l.length:H)-1-(k:H)).toNat=l.length-1-k:=by{omega};refine aJ.mk h λw h=>?_;refine au.rd (h.ao ad.own) Za Za λq o r=>?_;have t:((oq l k).map vB)[((l.length:H)-1-(k:H)).toNat]' o=vB (l.getD (l.length-1-k) 0):=by{grind};refine Ld.sc (s:=.int .u8) (l.getD (l.length-1-k) 0:H) (by rw[r,t];rfl) ?_;refine au.rd (h.ao ad.own) Za Za λy c d=>?_;have u:((oq l k).map vB)[((k:H)).toNat]' c=vB (l.getD k 0):=by{grind};refine Ld.sc (s:=.int .u8) (l.getD k 0:H) (by rw[d,u];rfl) ?_;refine St.own h Za Za Z λw h=>?_;refine St.own h Za Za Z λw h=>?_;rw[ae Za,ae Za];refine⟨⟨k+1,Za,Za,Za,?_⟩,by first|omega|(dsimp only;omega)⟩;rw[n,Zj]at h;have v:(((oq l k).map vB).set k (.int .u8 (l.getD (l.length-1-k) 0:H))).set (l.length-1-k) (.int .u8 (l.getD k 0:H))=(oq l (k+1)).map vB:=by{rw[←N9 Za,Xa,Xa];rfl};rw[v]at h;exact h};{rw[PW Za]at h;exact f _ h}
end
end
section
open Go Go.Vc Go.Hd
section
variable{E w:G}{F:S HP}
theorem R5{n:I}{K:Sl→H→G→Prop}(h:Hp E w F)(k:n≤65536)(o:∀s w',Hp E w' (ah 1 s ((fo n).map vB)::F)→K s 0 w'):Cl Zf [kS,kI] 89 ⟨[.int .i64 (n:H)]⟩ w K:=by refine IV.ok _ _ _ ?_;refine aa.df Za (aa.df Za ?_);have v:YA .i64=9223372036854775807:=Z;have a:∀m:I,m≤65536→bS .i64 (m:H) 127=((m%128:I):H):=λm h=>by{rw[show(127:H)=((127:I):H)from Z,eC Za Za,show(127:I)=2^7-1 from Z,YS]};have c:∀m:I,aI .i64 (m:H) 7=((m/128:I):H):=λm=>by{rw[show(7:H)=((7:I):H)from Z,bT Zb]};rw[a n k,kh Za];refine Nw.mk h λp w h=>?_;refine aS (s:=⟨V,0,0⟩) (ys:=[vB (n%128)]) (n:=1) qN Zb (.inl ⟨5,Zc⟩) (h.aZ 1) (.inl ⟨O ⟨p,0,V⟩,1,1,Z,Z,h.ao (ad.ay Z Z)⟩) Z Fj Zb Zb λs w h _=>?_;refine⟨Zb,?_⟩;rw[c];refine⟨λx s w'=>∃(m:I)(l:S I),x=(m:H)∧m≤512∧l.length+m≤513∧oH m++l.reverse=fo n∧Hp E w' (ah 1 s (l.map vB)::F),λx _ _=>x.toNat,⟨n/128,[n%128],Z,Za,by simp;omega,Z,h.p1.drop⟩,?_⟩;rintro x s w ⟨m,l,rfl,hm5,hl,hv,h⟩;refine aa.dm (λq=>?_) λr=>?_;{have d:0<m:=by{omega};have f:gN .u8 ((m%128:I):H) 128=((128+m%128:I):H):=by{have t:YA .u8=255:=Z;have e:=YJ (i:=7) (b:=m%128) Za 1;have u:m%128|||128=128+m%128:=by{rw[I.or_comm];exact e.symm};rw[show(128:H)=((128:I):H)from Z,k7 Za Za Ze,u]};rw[a m Za,kh Za,f];have g:=h.aL;rw[Zm,Zt]at g;refine Nw.mk h λj w h=>?_;refine aS (ys:=[vB (128+m%128)]) (n:=1) qN Zb (.inl ⟨5,Zc⟩) h.p1 (.inl ⟨O ⟨j,0,V⟩,1,1,Z,Z,h.ao (ad.ay Z Z)⟩) Z Fj Za Za λs w h _=>?_;refine⟨Zb,?_⟩;rw[c];refine⟨⟨m/128,l++[128+m%128],Z,Za,by rw[Zh,Z6];omega,?_,by rw[ZJ];exact h.p1.drop⟩,by first|omega|(dsimp only;omega)⟩;rw[S.reverse_append,←hv,mV d];simp};{have d:m=0:=by{omega};subst d;rw[lj,ZV]at hv;refine AJ h (by rw[ax];omega) λw h=>o s w ?_;rw[hv]at h;exact h}
end
end
section
open Go Go.Vc
set_option maxRecDepth 100000
theorem SC.ok(a:Sl)(R:H→G→Prop) w(h:Cl Pg [(aq .u32)] 48 ⟨[(.int .u32 0),(aj a)]⟩ w λ(c:H) b=>R c b):Cl Pg [(aq .u32)] 15 ⟨[(aj a)]⟩ w R:=co Tryz.f15 [] h
theorem QH.ok(a:H)(R:Sl→G→Prop) w(h:Nw 188 ⟨[(.int .u8 0),(.int .u8 0),(.int .u8 0),(.int .u8 0)]⟩ w λc b=>da 0 b λd e(f:H) g=>aa (K (f<4)) (0≤(i64 ((24:H)-(i64 ((8:H)*f))))∧aK ⟨c,0,V⟩ 4 f 1 λh=>St h (.int .u8 (u8 (aI .u32 a (i64 ((24:H)-(i64 ((8:H)*f))))))) g λi=>d (i64 (f+1)) i∧e (i64 (f+1)) i<e f g) (bG (⟨O ⟨c,0,V⟩,4,4⟩:Sl) 0 4 4 1 λj=>R j g)):Cl Pg [kS] 47 ⟨[(.int .u32 a)]⟩ w R:=co Tryz.f47 [(7,[(5,kI)])] h
theorem MX.ok(a:H)(b:Sl)(R:H→G→Prop) w(h:Cl Pg [(.arr 256)] 100 ⟨[]⟩ w λd c=>Nw 189 ⟨Zi 256 (.int .u32 0)⟩ c λf e=>ar 256 ⟨f,0,V⟩ d e λg=>de (iS .u32 (if Xt.signed .u32 then-1 else YA .u32) a) 0 g λh i(j:H)(k:H) l=>aa (K (k<(b.len:H))) (au b k 1 λm=>Ld kS m l λ(n:Sl)=>de j 0 l λo p(q:H)(r:H) s=>aa (K (r<(n.len:H))) (au n r 1 λt=>Ld (aq .u8) t s λ(u:H)=>aK ⟨f,0,V⟩ 256 (iS .u8 (u8 q) u) 1 λv=>Ld (aq .u32) v s λ(x:H)=>0≤(8:H)∧o (iS .u32 x (aI .u32 q (8:H))) (i64 (r+1)) s∧p (iS .u32 x (aI .u32 q (8:H))) (i64 (r+1)) s<p q r s) (h q (i64 (k+1)) s∧i q (i64 (k+1)) s<i j k l)) (R (iS .u32 (if Xt.signed .u32 then-1 else YA .u32) j) l)):Cl Pg [(aq .u32)] 48 ⟨[(.int .u32 a),(aj b)]⟩ w R:=co Tryz.f48 [(9,[(0,(aq .u32)),(15,kI)]),(18,[(0,(aq .u32)),(21,kI)])] h
theorem Lr.ok(R:(Xe Q)→G→Prop) w(h:Nw 189 ⟨Zi 256 (.int .u32 0)⟩ w λb a=>da 0 a λc d(e:H) f=>aa (K (e<256)) (Cl Pg [(aq .u32)] 150 ⟨[(.int .u8 (u8 e))]⟩ f λ(h:H) g=>aK ⟨b,0,V⟩ 256 e 1 λi=>St i (.int .u32 h) g λj=>c (i64 (e+1)) j∧d (i64 (e+1)) j<d e f) (Ld (.arr 256) ⟨b,0,V⟩ f λk=>ar 256 ⟨b,0,V⟩ k f λl=>Ld (.arr 256) ⟨b,0,V⟩ l λm=>R m l)):Cl Pg [(.arr 256)] 100 ⟨[]⟩ w R:=co Tryz.f100 [(5,[(2,kI)])] h
theorem PN.ok(a:H)(R:H→G→Prop) w(h:de (u32 a) 0 w λb c(d:H)(e:H) f=>aa (K (e<8)) (0≤(1:H)∧b (iS .u32 (aI .u32 d (1:H)) (u32 ((3988292384:H)*(bS .u32 d 1)))) (i64 (e+1)) f∧c (iS .u32 (aI .u32 d (1:H)) (u32 ((3988292384:H)*(bS .u32 d 1)))) (i64 (e+1)) f<c d e f) (R d f)):Cl Pg [(aq .u32)] 150 ⟨[(.int .u8 a)]⟩ w R:=co Tryz.f150 [(7,[(3,(aq .u32)),(6,kI)])] h
end
end Go.Proofs.Q9
namespace Go.Crc
section
theorem Om(c:I):(c/2)^^^(3988292384*(c%2))=half c:=by unfold half;(rcases I.mod_two_eq_zero_or_one c with e|e);{rw[e];rfl};{rw[e];rfl}
def fU:I→I→I|0,c=>c|k+1,c=>half (fU k c)
theorem A4:∀(k c:I),c<4294967296→fU k c<4294967296|0,_,h=>h|k+1,c,h=>gS (A4 k c h)
end
end Go.Crc
namespace Go.Proofs.Q9
section
open Go Go.Vc Go.Crc
section
variable{E w:G}{F:S HP}
theorem Sn{b:I}{K:H→G→Prop}(d:b<256)(e:K (row b:H) w):Cl Zf [aq .u32] 150 ⟨[.int .u8 (b:H)]⟩ w K:=by refine PN.ok _ _ _ ?_;refine⟨λc i w'=>w'=w∧∃k:I,i=(k:H)∧k≤8∧c=(fU k b:H),λ_ i _=>8-i.toNat,⟨Z,0,Z,Za,by rw[jf Za];rfl⟩,?_⟩;rintro c i w' ⟨rfl,k,rfl,hk,rfl⟩;refine aa.dm (λa=>?_) λf=>?_;{have a:k<8:=by{omega};have d:=A4 k b Za;have n:YA .u32=4294967295:=Z;have o:=gS d;have g:aI .u32 (fU k b:H) 1=((fU k b/2:I):H):=by{rw[show(1:H)=((1:I):H)from Z,bT Zb]};have h:bS .u32 (fU k b:H) 1=((fU k b%2:I):H):=by{rw[show(1:H)=((1:I):H)from Z,eC Za Za,I.and_one_is_mod]};have j:u32 ((3988292384:H)*((fU k b%2:I):H))=((3988292384*(fU k b%2):I):H):=by{rw[jf Za];omega};have l:iS .u32 ((fU k b/2:I):H) ((3988292384*(fU k b%2):I):H)=(fU (k+1) b:H):=by{have m:=Om (fU k b);rw[rq Za Za Ze,m];rfl};rw[g,h,j,l,ae Za];exact⟨Zb,⟨Z,k+1,Z,Za,Z⟩,by dsimp only;omega⟩};{have:k=8:=by{omega};subst this;exact e}
def fO:S I:=(Zq 256).map row
theorem nY:fO.length=256:=by unfold fO;simp
theorem C9{b:I}(h:b<256):fO[b]?=O (row b):=by unfold fO;rw[ZN,Z3 h];rfl
abbrev ji(l:S I):S Q:=l.map λ(n:I)=>Yk .u32 (n:H)
theorem yg{l:S I}:(ji l).all aC=U:=by unfold ji;rw[S.all_map];exact List.all_eq_true.2 λ_ _=>rfl
theorem TY{K:Xe Q→G→Prop}(h:Hp E w F)(f:∀w',Hp E w' F→K ⟨ji fO⟩ w'):Cl Zf [.arr 256] 100 ⟨[]⟩ w K:=by refine Lr.ok _ _ ?_;refine Nw.mk h λg w h=>?_;have b:∀k,k≤256→(ji (fO.take k++Zi (256-k) 0)).length=256:=λk j=>by{simp[nY];omega};refine⟨λi w'=>∃k:I,i=(k:H)∧k≤256∧Hp E w' (af g (.cells ⟨ji (fO.take k++Zi (256-k) 0)⟩ 189 (0,0))::F),λi _=>256-i.toNat,⟨0,Z,Za,by have:(⟨ji (fO.take 0++Zi (256-0) 0)⟩:Xe Q)=⟨Zi 256 (.int .u32 0)⟩:=by{simp};rw[this];exact h⟩,?_⟩;rintro i w ⟨k,rfl,j,h⟩;refine aa.dm (λa=>?_) λl=>?_;{have a:k<256:=by{omega};rw[kh Za];refine Sn a ?_;refine⟨Za,Za,?_⟩;rw[show((k:H)).toNat*1=k by omega];simp only[ak,Zk];have n:=b k Za;refine St.xb h (by show k<(ji (fO.take k++Zi (256-k) 0)).length;omega) Z λw h=>?_;rw[ae Za];refine⟨⟨k+1,Z,Za,?_⟩,by first|omega|(dsimp only;omega)⟩;have e:(⟨ji (fO.take k++Zi (256-k) 0)⟩:Xe Q).setIfInBounds k (.int .u32 (row k:H))=⟨ji (fO.take (k+1)++Zi (256-(k+1)) 0)⟩:=by{apply Xe.ext';rw[Yd];have:(ji (fO.take k++Zi (256-k) 0)).set k (.int .u32 (row k:H))=ji ((fO.take k++Zi (256-k) 0).set k (row k)):=by{rw[ji,ji,Xa]};have o:(fO.take k).length=k:=by{rw[Zz,nY];omega};rw[this,S.set_append_right _ _ Za,o,I.sub_self];obtain⟨m,p⟩:∃m,256-k=m+1:=⟨255-k,Za⟩;rw[p,S.replicate_succ,S.set_cons_zero,Zv,C9 a,show 256-(k+1)=m by omega];simp};rw[e]at h;exact h};{have d:k=256:=by{omega};subst d;have e:(⟨ji (fO.take 256++Zi (256-256) 0)⟩:Xe Q)=⟨ji fO⟩:=by{rw[Zp (by rw[nY];omega)];simp};rw[e]at h;have c:(⟨ji fO⟩:Xe Q).size=256:=by{simp[nY]};refine Ld.xw h c ?_;refine ar.q h c c yg λw h=>?_;exact Ld.xw h c (f _ h.tl)}
theorem Vk:(if Xt.signed .u32 then(-1:H)else YA .u32)=((4294967295:I):H):=Z
theorem PK{c:I}(h:c<4294967296):iS .u32 (if Xt.signed .u32 then(-1:H)else YA .u32) (c:H)=((c^^^4294967295:I):H):=by have a:YA .u32=4294967295:=Z;have b:4294967295^^^c<2^32:=YY Zb Za;rw[Vk,rq Za Za Za,I.xor_comm]
theorem Nb{c x:I}(a:c<4294967296)(b:x<256):iS .u8 (u8 (c:H)) (x:H)=((c%256^^^x:I):H):=by have d:YA .u8=255:=Z;have e:c%256^^^x<2^8:=YY Za Za;rw[sV,show((c:H)%256)=((c%256:I):H) by omega,rq Za Za Za]
theorem yV{c x:I}(a:x<256):c%256^^^x<256:=by have:c%256^^^x<2^8:=YY Za Za;omega
theorem LJ{c x:I}(b:c<4294967296)(a:x<256):iS .u32 (row (c%256^^^x):H) (aI .u32 (c:H) 8)=(Crc.step c x:H):=by have e:YA .u32=4294967295:=Z;have f:=KX (c:=c%256^^^x) (by have:=yV (c:=c) a;omega);have d:=Hu b a;unfold Crc.step at d⊢;rw[show(8:H)=((8:I):H)from Z,bT Zb,show(2:I)^8=256 from Z,rq Za Za Za]
end
end
section
open Go Go.Vc Go.Bits
section
variable{E w:G}{F:S HP}
theorem Lh{a:S (S I)}{k:I}(h:k<a.length):(a.take (k+1)).flatten=(a.take k).flatten++a.getD k []:=by rw[Zv,Xb];congr 1;simp[h]
theorem U6{b:I}(h:b<256):(⟨ji fO⟩:Xe Q)[b]?=O (Sc.enc (.int .u32) (Crc.row b:H)):=by rw[S.getElem?_toArray,ji,ZN,C9 h];rfl
theorem uj{c:I}{K:H→G→Prop}{s:Sl}{cs:S Sl}{bs:S (S I)}(h:Hp E w F)(u:c<4294967296)(R:ad F (aD 1 s (cs.map λx=>.slice x.base x.len x.cap)))(hl:cs.length=bs.length)(D:cs.length≤bP)(hc:∀i(h:i<cs.length),ad F (aD 1 cs[i] ((bs.getD i []).map vB)))(g:∀b∈bs,∀y∈b,y<256)(v:∀b∈bs,b.length≤bP)(hK:∀w',Hp E w' F→K ((Crc.feed (c^^^4294967295) bs.flatten^^^4294967295:I):H) w'):Cl Zf [aq .u32] 48 ⟨[.int .u32 (c:H),.slice s.base s.len s.cap]⟩ w K:=by refine MX.ok _ _ _ _ ?_;have T:s.len=cs.length:=by{have:=(h.ao R).1;simpa using this.symm};have l:∀y∈bs.flatten,y<256:=λy a=>by{obtain⟨b,m,o⟩:=List.mem_flatten.1 a;exact g b m y o};have z:c^^^4294967295<4294967296:=YY (n:=32) u Zb;rw[ax]at D;refine TY h λw h=>Nw.mk h λW w h=>?_;have hn:(⟨ji fO⟩:Xe Q).size=256:=by{simp[nY]};refine ar.q h Zd hn yg λw h=>?_;rw[PK u];refine⟨λx i w'=>∃k:I,i=(k:H)∧k≤cs.length∧x=(Crc.feed (c^^^4294967295) (bs.take k).flatten:H)∧Hp E w' (af W (.cells ⟨ji fO⟩ 189 (0,0))::F),λ_ i _=>cs.length-i.toNat,⟨0,Z,Za,Z,h⟩,?_⟩;rintro x i w ⟨k,rfl,hk,rfl,h⟩;refine aa.dm (λA=>?_) λhge=>?_;{have A:k<cs.length:=by{omega};have p:k<bs.length:=by{omega};refine au.rd (h.tl.ao R) Za Za λq hi L=>?_;have M:w.cell? q=O (Sc.sl.enc cs[k]):=by{simpa using L};refine Ld.sc _ M ?_;have B:bs.getD k []=bs[k]:=by{rw[Zl,Zg p];rfl};have r:=hc k A;rw[B]at r;have f:=Zu p;have t:=v _ f;rw[ax]at t;have N:=(h.tl.ao r).1;simp only[Zm,Zt]at N;refine⟨λx i w'=>∃j:I,i=(j:H)∧j≤bs[k].length∧x=(Crc.feed (c^^^4294967295) ((bs.take k).flatten++bs[k].take j):H)∧Hp E w' (af W (.cells ⟨ji fO⟩ 189 (0,0))::F),λ_ i _=>bs[k].length-i.toNat,⟨0,Z,Za,Zd,h⟩,?_⟩;rintro x i w ⟨j,rfl,hj,rfl,h⟩;have C:∀y∈(bs.take k).flatten++bs[k].take j,y<256:=λy a=>by{(rcases List.mem_append.1 a with a|a);{obtain⟨b,m,o⟩:=List.mem_flatten.1 a;exact g b (Z1 m) y o};{grind}};have d:=Crc.uo _ _ z C;refine aa.dm (λX=>?_) λY=>?_;{have e:j<bs[k].length:=by{omega};have a:=g _ f _ (Zu e);refine au.rd (h.tl.ao r) Za Za λq hi L=>?_;refine Ld.sc (s:=.int .u8) (bs[k][j]:H) (by simpa[vB]using L) ?_;rw[Nb d a];refine aK.rd (s:=.int .u32) h Za (by have:=yV (c:=Crc.feed (c^^^4294967295) ((bs.take k).flatten++bs[k].take j)) a;omega) (Crc.row (Crc.feed (c^^^4294967295) ((bs.take k).flatten++bs[k].take j)%256^^^bs[k][j]):H) ?_ ?_;{rw[Zj];exact U6 (yV (c:=Crc.feed (c^^^4294967295) ((bs.take k).flatten++bs[k].take j)) a)};rw[LJ d a,ae Za];refine⟨Zb,⟨j+1,Z,Za,?_,h⟩,by first|omega|(dsimp only;omega)⟩;rw[Zv,Zg e,←Zn,Crc.DN ((bs.take k).flatten++bs[k].take j)];rfl};{have e:j=bs[k].length:=by{omega};subst e;rw[ae Za,Yo];exact⟨⟨k+1,Z,Za,by rw[Lh p,B],h⟩,by first|omega|(dsimp only;omega)⟩}};{have P:k=bs.length:=by{omega};subst P;rw[Yo];have d:=Crc.uo _ _ z l;rw[PK d];exact hK _ h.tl}
theorem PR{c k:I}(a:k<4):(Hd.fz c)[k]?=O (c/2^(24-8*k)%256):=by match k,a with|0,_=>rfl|1,_=>rfl|2,_=>rfl|3,_=>simp[Hd.fz]
theorem Ms{c:I}{K:Sl→G→Prop}(h:Hp E w F)(t:c<4294967296)(f:∀s w',Hp E w' (ah 1 s ((Hd.fz c).map vB)::F)→K s w'):Cl Zf [kS] 47 ⟨[.int .u32 (c:H)]⟩ w K:=by refine QH.ok _ _ _ ?_;refine Nw.mk h λg w h=>?_;have a:∀k,k≤4→(((Hd.fz c).take k++Zi (4-k) 0).map vB).length=4:=λk j=>by{rw[Zm,Zh,Zz,ZK,show(Hd.fz c).length=4 from Z];omega};refine⟨λi w'=>∃k:I,i=(k:H)∧k≤4∧Hp E w' (af g (.cells ⟨((Hd.fz c).take k++Zi (4-k) 0).map vB⟩ 188 (0,0))::F),λi _=>4-i.toNat,⟨0,Z,Za,h⟩,?_⟩;rintro i w ⟨k,rfl,j,h⟩;refine aa.dm (λb=>?_) λl=>?_;{have b:k<4:=by{omega};rw[ae (x:=(8:H)*(k:H)) Za,ae Za,show(24:H)-8*(k:H)=((24-8*k:I):H) by omega,bT (by have:Xt.bits .u32=32:=Z;omega),sV,ae Za];refine⟨Za,Za,Za,?_⟩;rw[show((k:H)).toNat*1=k by omega];simp only[ak,Zk];have o:=a k Za;refine St.xb h Ze Z λw h=>?_;refine⟨⟨k+1,Z,Za,?_⟩,by first|omega|(dsimp only;omega)⟩;have e:(⟨((Hd.fz c).take k++Zi (4-k) 0).map vB⟩:Xe Q).setIfInBounds k (.int .u8 (((c/2^(24-8*k):I):H)%256))=⟨((Hd.fz c).take (k+1)++Zi (4-(k+1)) 0).map vB⟩:=by{apply Xe.ext';rw[Yd];have p:(Yk .u8 (((c/2^(24-8*k):I):H)%256))=vB (c/2^(24-8*k)%256):=by{unfold vB;congr 1};have q:((Hd.fz c).take k).length=k:=by{rw[Zz,show(Hd.fz c).length=4 from Z];omega};obtain⟨m,r⟩:∃m,4-k=m+1:=⟨3-k,Za⟩;show(((Hd.fz c).take k++Zi (4-k) 0).map vB).set k _=_;rw[p,←Xa,S.set_append_right _ _ Za,q,I.sub_self,r,S.replicate_succ,S.set_cons_zero,Zv,PR b,show 4-(k+1)=m by omega];simp};rw[e]at h;exact h};{have d:k=4:=by{omega};subst d;rw[Zp (ZA 4:(Hd.fz c).length≤4),I.sub_self,S.replicate_zero,ZF]at h;refine bG.whole Zb Z Z ?_;refine f _ w (h.kr (n:=4) (sz:=1) Z)}
end
end
section
open Go Go.Vc Go.Srt Go.Inc Go.Hd
theorem di{n:I}(h:n≤65536):(fo n).length≤4:=by unfold fo;have:∀k m:I,m<128^k→(oH m).length≤k:=by{intro k;induction k with|zero=>intro m a;have:m=0:=by{simpa using a};rw[this,lj];exact ZA _|succ k b=>intro m a;(rcases Yz m with e|e);{grind};{rw[mV e,Zh,Z6];have:=b (m/128) Ze;omega}};have:=this 3 (n/128) Za;rw[Zh,Z6];omega
section
variable{E w:G}{F:S HP}
theorem tH{n:I}{a:H}{K:Sl→Xf→G→Prop}(h:Hp E w F)(b:n≤65536)(c:∀s w',Hp E w' (ah 1 s ((fo n).map vB)::F)→K s (XC (1≤(n:H)∧(n:H)≤a)) w'):Cl Zf [kS,kB] 38 ⟨[.int .i64 (n:H),.int .i64 a]⟩ w K:=by refine BG.ok _ _ _ _ ?_;exact R5 h b λs w h=>dj (c _ _ h)
theorem Li{n:I}{K:Sl→H→G→Prop}(h:Hp E w F)(a:n≤65536)(f:0<n)(c:∀s w',Hp E w' (ah 1 s ((fN n).map vB)::F)→K s 0 w'):Cl Zf [kS,kI] 11 ⟨[.agg ⟨[.int .i64 (n:H)]⟩]⟩ w K:=by refine Iv.ok ((n:H),()) _ _ ?_;(try simp only[ak,Zs]);(with_reducible repeat first|refine Nw.mk h λb w h=>?_|refine Ld.xb h Z ?_);refine tH h a λs w h=>?_;rw[Xo (show 1≤(n:H)∧(n:H)≤65536 by omega)];(with_reducible repeat first|refine Nw.mk h λb w h=>?_|refine aa.no ?_);refine rU h λw h=>?_;have d:=(h.at 1).aL;rw[Zm,Zt]at d;have g:=di a;refine rZ (s:=⟨O ⟨_,0,V⟩,3,3⟩) (xs:=([87,80,1]:S I).map vB) iJ (.inl ⟨5,Zc⟩) h (ad.ay Z Z) (n:=s.len) ?_ ((ad.at 1 ad.own).imp λw e=>.inl ⟨s.base,s.len,s.cap,Z,Z,e⟩) Ze (by simp only;omega) (by simp only;omega) λi w' h _=>?_;{have:0<(fo n).length:=by{unfold fo;simp};simp only;omega};{refine c _ _ ?_;rw[←ZJ]at h;exact h.ic}
theorem JQ{c:I}{K:Sl→G→Prop}(h:Hp E w F)(a:c<4294967296)(d:∀s w',Hp E w' (ah 1 s ((nc c).map vB)::F)→K s w'):Cl Zf [kS] 14 ⟨[.int .u32 (c:H)]⟩ w K:=by refine BN.ok _ _ _ ?_;(skip);(with_reducible refine Nw.mk h λb w h=>?_);refine Ms h a λs w h=>?_;have e:=h.aL;rw[Zm,Zt]at e;have g:(fz c).length=4:=Z;refine rZ (s:=⟨O ⟨_,0,V⟩,1,1⟩) (xs:=([0]:S I).map vB) iJ (.inl ⟨5,Zc⟩) h (ad.cons (ad.ay Z Z)) (n:=s.len) (by simp only;omega) (ad.own.imp λw f=>.inl ⟨s.base,s.len,s.cap,Z,Z,f⟩) Ze (by simp only;omega) (by simp only;omega) λi w' h _=>?_;refine d _ _ ?_;rw[←ZJ]at h;exact h.ic
theorem Bq{n:H}{M P u:I}{K:Sl→H→G→Prop}(h:Hp E w F)(f:M≤65536)(g:P≤65536)(j:u<4294967296)(c:1≤n→n≤65536→1≤M→(M:H)≤n→1≤P→P≤M→∀s w',Hp E w' (ah 1 s ((jc M P u).map vB)::F)→K s 0 w')(a:¬(1≤n∧n≤65536∧1≤M∧(M:H)≤n∧1≤P∧P≤M)→∀w',Hp E w' F→K ⟨V,0,0⟩ 2 w'):Cl Zf [kS,kI] 40 ⟨[.int .i64 n,.agg ⟨[.int .i64 (M:H),.int .i64 (P:H),.int .u32 (u:H)]⟩]⟩ w K:=by refine yl.ok _ ((M:H),(P:H),(u:H),()) _ _ ?_;(try simp only[ak,Zk,Zs]);(with_reducible repeat first|refine Nw.mk h λb w h=>?_|refine Ld.xb h Z ?_);refine tH h f λk w h=>?_;(with_reducible repeat refine Ld.xb h Z ?_);refine tH h g λl w h=>dj ?_;by_cases hn:1≤n∧n≤65536;{refine aa.Ag hn ?_;by_cases hm:1≤(M:H)∧(M:H)≤n;{refine aa.Ag hm ?_;by_cases hp:1≤(P:H)∧(P:H)≤(M:H);{refine aa.Ag hp ?_;(with_reducible repeat first|refine Nw.mk h λb w h=>?_|refine Ld.xb h Z ?_);refine Ms h j λm w h=>Nw.mk h λd w h=>?_;have p:=di f;have q:=di g;refine NX (s:=⟨O ⟨d,0,V⟩,4,4⟩) (cs:=[⟨O ⟨b,0,V⟩,1,1⟩,k,l,m]) (bs:=[[1],fo M,fo P,fz u]) h (ad.ay Z Z) Z (by rw[ax];simp) ?_ ?_ λs w h=>?_;{intro i o;match i,o with|0,_=>exact ad.at 2 (ad.ay Z Z)|1,_=>exact ad.at 4 ad.own|2,_=>exact ad.at 3 ad.own|3,_=>exact ad.at 1 ad.own};{rw[ax];simp[fz];omega};{refine c hn.1 hn.2 Za hm.2 Za Za s w ?_;have e:[[1],fo M,fo P,fz u].flatten=jc M P u:=by{simp[jc]};rw[e]at h;exact h.ic}};{exact aa.Po hp (a Za _ h.tl)}};{exact aa.Po hm (a Za _ h.tl)}};{exact aa.Po hn (a Za _ h.tl)}
end
end
section
open Go Go.Vc
set_option maxRecDepth 100000
theorem zb.ok(a:(Xe Q))(R:Sl→H→G→Prop) w(h:Nw 50 a w λc b=>Nw 44 ⟨[(.slice V 0 0)]⟩ b λe d=>Ld (.arr 258) ⟨c,0,V⟩ d λf=>Cl Pg [kB] 23 ⟨[(.agg f)]⟩ d λ(h:Xf) g=>aa (! h) (St ⟨e,0,V⟩ (.slice V 0 0) g λi=>Ld kS ⟨e,0,V⟩ i λ(j:Sl)=>R j 2 i) (aK ⟨c,0,V⟩ 258 0 1 λk=>Ld (aq .u8) k g λ(l:H)=>∃(m:H→G→Prop)(n:H→G→I),m (0) g∧∀(o:H),∀(p:G),m o p→aa (K (o<4)) (aJ p λq=>0≤(i64 ((3:H)-o))∧(Ld kS ⟨e,0,V⟩ q λ(r:Sl)=>Nw 3 ⟨[(ni (bS .i64 (aI .i64 (i64 l) (i64 ((3:H)-o))) 1))]⟩ q λt s=>av Pg (ZB #[44,44] 44 ⟨[(aj r),(aj (⟨O ⟨t,0,V⟩,1,1⟩:Sl))]⟩) kS s λ(v:Sl) u=>St ⟨e,0,V⟩ (aj v) u λx=>([]:S I)=([]:S I)∧m (i64 (o+1)) x∧n (i64 (o+1)) x<n o p)∧(Nw 3 ⟨[(ni (bS .i64 (aI .i64 (i64 l) (i64 ((3:H)-o))) 1))]⟩ q λz y=>Ld kS ⟨e,0,V⟩ y λ(a1:Sl)=>av Pg (ZB #[44,44] 44 ⟨[(aj a1),(aj (⟨O ⟨z,0,V⟩,1,1⟩:Sl))]⟩) kS y λ(c1:Sl) b1=>St ⟨e,0,V⟩ (aj c1) b1 λL=>([]:S I)=([]:S I)∧m (i64 (o+1)) L∧n (i64 (o+1)) L<n o p)) (Ld (.arr 258) ⟨c,0,V⟩ p λe1=>∃(D:S I→H→H→G→Prop)(M:H→H→G→I),D ([]:S I) ((i64 l)) (0) p∧∀(C:S I),∀(E:H)(A:H),∀(B:G),D C E A B→aa (K (A<258)) (eA (.int .u8) e1 258 A λ(F:H)=>Cl Pg [kV] 58 ⟨[(ni E),(ni (i64 F))]⟩ B λn1 m1=>fS Pg n1 [kI] m1 (λ(N:I)(P:I→Obj)(t1:H)(q1:G)(r1 s1:G→Prop)=>td N P q1 λT=>Ld kS ⟨e,0,V⟩ T λ(v1:Sl)=>Nw 3 ⟨[(ni t1)]⟩ T λy1 x1=>av Pg (ZB #[44,44] 44 ⟨[(aj v1),(aj (⟨O ⟨y1,0,V⟩,1,1⟩:Sl))]⟩) kS x1 λ(a2:Sl) z1=>St ⟨e,0,V⟩ (aj a2) z1 λb2=>nR N P b2 r1) (λc2 W=>D (c2::C:S I) (i64 F) (i64 (A+1)) W∧M (i64 F) (i64 (A+1)) W<M E A B) λe2 f2=>jW (e2::C:S I) f2 λX=>Ld kS ⟨e,0,V⟩ X λ(h2:Sl)=>R h2 0 X) (Ld kS ⟨e,0,V⟩ B λ(i2:Sl)=>St ⟨e,0,V⟩ (aj i2) B λj2=>jW (C:S I) j2 λY=>Ld kS ⟨e,0,V⟩ Y λ(l2:Sl)=>R l2 0 Y)))):Cl Pg [kS,kI] 21 ⟨[(.agg a)]⟩ w R:=Aa Tryz.f21 (.s .o (.s (.s .o (.c (.s .o .o) .o)) (.s .o (.s (.s .o (.b (.l [(15,kI)] (.s .o (.s (.c .o .o) (.s (.b (.s .o (.b .o))) .o)))))) (.s (.s .o (.b (.l [(4,kI),(28,kI)] (.s .o (.s (.c .o .o) (.s (.b (.s .o (.s (.s .o (.b (.r [kI] .o (.b .o)))) .o))) .o)))))) (.s .o .o)))))) h
theorem wx.ok(a:Sl)(R:(Xe Q)→H→H→G→Prop) w(h:Nw 50 ⟨Zi 258 (.int .u8 0)⟩ w λc b=>Nw 131 ⟨Zi 258 (.int .u8 0)++[(ni 0),(ni 0),(ni 0),(ni 0)]⟩ b λe d=>da 0 d λf g(h:H) i=>aa (K (h<(a.len:H))) (au a h 1 λj=>Ld kI j i λ(k:H)=>0≤(1:H)∧aa ((aI .i64 k (1:H)) !=0) (Ld (.arr 258) ⟨c,0,V⟩ i λl=>ar 258 ⟨c,0,V⟩ l i λm=>Ld (.arr 258) ⟨c,0,V⟩ m λn=>R n 0 2 m) (Ld (.arr 262) ⟨e,0,V⟩ i λo=>Cl Pg [(.arr 262),kB] 63 ⟨[(.agg o),(ni k)]⟩ i λq(r:Xf) p=>Nw 131 ⟨Zi 258 (.int .u8 0)++[(ni 0),(ni 0),(ni 0),(ni 0)]⟩ p λt s=>ar 262 ⟨t,0,V⟩ q s λu=>aa (! r) (Ld (.arr 258) ⟨c,0,V⟩ u λv=>ar 258 ⟨c,0,V⟩ v u λx=>Ld (.arr 258) ⟨c,0,V⟩ x λy=>R y 0 100 x) (Ld (.arr 262) ⟨t,0,V⟩ u λz=>ar 262 ⟨e,0,V⟩ z u λA=>Ld kI (Zo ⟨e,0,V⟩ 258) A λ(D:H)=>aa (D==258) (Ld (.arr 258) (Zo ⟨e,0,V⟩ 0) A λE=>ar 258 ⟨c,0,V⟩ E A λB=>Ld (.arr 258) ⟨c,0,V⟩ B λF=>R F (i64 (h+1)) 0 B) (f (i64 (h+1)) A∧g (i64 (h+1)) A<g h i)))) (Ld (.arr 258) ⟨c,0,V⟩ i λI=>ar 258 ⟨c,0,V⟩ I i λC=>Ld (.arr 258) ⟨c,0,V⟩ C λL=>R L 0 50 C)):Cl Pg [(.arr 258),kI,kI] 27 ⟨[(aj a)]⟩ w R:=co Tryz.f27 [(7,[(12,kI)])] h
theorem yD.ok(a:(Xg Xn))(b:(Xe Q))(R:H→G→Prop) w(h:Nw 50 b w λd c=>Ld (.arr 258) ⟨d,0,V⟩ c λe=>Cl Pg [kS,kI] 21 ⟨[(.agg e)]⟩ c λ(g:Sl)(h:H) f=>aa (h !=0) (R 2 f) (aa (ZL (a:Xg Xn)) (R 2 f) (da 0 f λi j(k:H) l=>aa (K (k<(g.len:H))) (au g k 1 λm=>Ld kI m l λ(n:H)=>Cl Pg [kB] 96 ⟨[(.pointer a),(.int .u32 (u32 n)),(ni 1)]⟩ l λ(p:Xf) o=>i (i64 (k+1)) o∧j (i64 (k+1)) o<j k l) (R 0 l)))):Cl Pg [kI] 44 ⟨[(.pointer a),(.agg b)]⟩ w R:=co Tryz.f44 [(12,[(22,kI)])] h
theorem sv.ok(a:H)(b:H)(R:Q→G→Prop) w(h:Nw 3 ⟨[(ni a)]⟩ w λd c=>Nw 3 ⟨[(ni b)]⟩ c λf e=>R (.func (.func 113) ⟨[]⟩ ⟨[(.pointer (O ⟨f,0,V⟩)),(.pointer (O ⟨d,0,V⟩))]⟩) e):Cl Pg [kV] 58 ⟨[(ni a),(ni b)]⟩ w R:=co Tryz.f58 [] h
theorem wj.ok(a:(Xe Q))(b:H)(R:(Xe Q)→Xf→G→Prop) w(h:Nw 131 a w λd c=>Nw 131 ⟨Zi 258 (.int .u8 0)++[(ni 0),(ni 0),(ni 0),(ni 0)]⟩ c λf e=>Ld kI (Zo ⟨d,0,V⟩ 259) e λ(g:H)=>aa (K (g<4)) (Ld kI (Zo ⟨d,0,V⟩ 260) e λ(h:H)=>0≤(1:H)∧Ld kI (Zo ⟨d,0,V⟩ 259) e λ(i:H)=>St (Zo ⟨d,0,V⟩ 260) (ni (gN .i64 (a7 .i64 h (1:H)) b)) e λj=>St (Zo ⟨d,0,V⟩ 259) (ni (i64 (i+1))) j λk=>Ld (.arr 262) ⟨d,0,V⟩ k λl=>ar 262 ⟨f,0,V⟩ l k λm=>Ld (.arr 262) ⟨f,0,V⟩ m λn=>R n U m) (ba (λ(q:Xf)(r:G)=>aa q (Ld kI (Zo ⟨d,0,V⟩ 258) r λ(s:H)=>Ld kI (Zo ⟨d,0,V⟩ 260) r λ(t:H)=>aK (Zo ⟨d,0,V⟩ 0) 258 s 1 λu=>St u (.int .u8 (u8 t)) r λv=>Ld kI (Zo ⟨d,0,V⟩ 258) v λ(x:H)=>St (Zo ⟨d,0,V⟩ 258) (ni (i64 (x+1))) v λy=>St (Zo ⟨d,0,V⟩ 261) (ni 0) y λz=>cJ z λA D=>aA (.arr 262) ⟨d,0,V⟩ A λE=>aA kI (Zo ⟨d,0,V⟩ 258) A λ(d1:H)=>aa (K (d1<258)) (ar 262 ⟨f,0,V⟩ E D λB=>A B∧Ld (.arr 262) ⟨f,0,V⟩ B λf1=>R f1 U B) (aA (.arr 258) (Zo ⟨d,0,V⟩ 0) A λg1=>Cl Pg [kB] 23 ⟨[(.agg g1)]⟩ D λ(i1:Xf) F=>A F∧ar 262 ⟨f,0,V⟩ E F λC=>A C∧Ld (.arr 262) ⟨f,0,V⟩ C λk1=>R k1 i1 C)) (Ld kI (Zo ⟨d,0,V⟩ 259) r λ(l1:H)=>aa (l1==4) (St (Zo ⟨d,0,V⟩ 259) (ni 5) r λI=>Ld (.arr 262) ⟨d,0,V⟩ I λn1=>ar 262 ⟨f,0,V⟩ n1 I λL=>Ld (.arr 262) ⟨f,0,V⟩ L λp1=>R p1 U L) (aa (b==0) (Ld kI (Zo ⟨d,0,V⟩ 261) r λ(q1:H)=>aa (q1 !=2) (Ld kI (Zo ⟨d,0,V⟩ 260) r λ(r1:H)=>Ld kI (Zo ⟨d,0,V⟩ 260) r λ(s1:H)=>St (Zo ⟨d,0,V⟩ 260) (ni (i64 (s1+1))) r λt1=>St (Zo ⟨d,0,V⟩ 261) (ni 1) t1 λu1=>St (Zo ⟨d,0,V⟩ 259) (ni 4) u1 λM=>Ld (.arr 262) ⟨d,0,V⟩ M λx1=>ar 262 ⟨f,0,V⟩ x1 M λN=>Ld (.arr 262) ⟨f,0,V⟩ N λz1=>R z1 (K (r1<15)) N) (Ld kI (Zo ⟨d,0,V⟩ 260) r λ(a2:H)=>St (Zo ⟨d,0,V⟩ 260) (ni (i64 (a2+1))) r λb2=>St (Zo ⟨d,0,V⟩ 261) (ni 1) b2 λc2=>St (Zo ⟨d,0,V⟩ 259) (ni 4) c2 λP=>Ld (.arr 262) ⟨d,0,V⟩ P λe2=>ar 262 ⟨f,0,V⟩ e2 P λS=>Ld (.arr 262) ⟨f,0,V⟩ S λg2=>R g2 J S)) (Ld kI (Zo ⟨d,0,V⟩ 261) r λ(h2:H)=>aa (h2 !=1) (Ld kI (Zo ⟨d,0,V⟩ 260) r λ(i2:H)=>Ld kI (Zo ⟨d,0,V⟩ 260) r λ(j2:H)=>St (Zo ⟨d,0,V⟩ 260) (ni (i64 (j2-1))) r λk2=>St (Zo ⟨d,0,V⟩ 261) (ni 2) k2 λl2=>St (Zo ⟨d,0,V⟩ 259) (ni 4) l2 λT=>Ld (.arr 262) ⟨d,0,V⟩ T λn2=>ar 262 ⟨f,0,V⟩ n2 T λW=>Ld (.arr 262) ⟨f,0,V⟩ W λp2=>R p2 (K (i2>0)) W) (Ld kI (Zo ⟨d,0,V⟩ 260) r λ(q2:H)=>St (Zo ⟨d,0,V⟩ 260) (ni (i64 (q2-1))) r λr2=>St (Zo ⟨d,0,V⟩ 261) (ni 2) r2 λs2=>St (Zo ⟨d,0,V⟩ 259) (ni 4) s2 λX=>Ld (.arr 262) ⟨d,0,V⟩ X λu2=>ar 262 ⟨f,0,V⟩ u2 X λY=>Ld (.arr 262) ⟨f,0,V⟩ Y λx2=>R x2 J Y))))) λo=>Ld kI (Zo ⟨d,0,V⟩ 259) e λ(p:H)=>aa (p==4) (o (b==0) e) (o J e))):Cl Pg [(.arr 262),kB] 63 ⟨[(.agg a),(ni b)]⟩ w R:=co Tryz.f63 [(6,[(38,kB)])] h
theorem qf.ok(a:Q)(b:Xn)(c:Xn)(R:G→Prop) w(h:Ld kI b w λ(d:H)=>Ld kI c w λ(e:H)=>aa (K (d<e)) (∃(f:G→Prop)(g:G→I),f w∧∀(h:G),f h→Ld kI c h λ(i:H)=>Ld kI b h λ(j:H)=>aa (i !=j) (kT Pg a [kB] [(ni 1)] h λ(l:Xf) k=>aa (! l) (R k) (kT Pg a [kB] [(ni 1)] k λ(n:Xf) m=>aa (! n) (R m) (Ld kI c m λ(o:H)=>St c (ni (i64 (o+(i64 ((1:H)-(i64 ((2:H)*1))))))) m λp=>([]:S I)=([]:S I)∧f p∧g p<g h))) (kT Pg a [kB] [(ni 0)] h λ(r:Xf) q=>R q)) (∃(s:G→Prop)(t:G→I),s w∧∀(u:G),s u→Ld kI c u λ(v:H)=>Ld kI b u λ(x:H)=>aa (v !=x) (kT Pg a [kB] [(ni 1)] u λ(z:Xf) y=>aa (! z) (R y) (kT Pg a [kB] [(ni 0)] y λ(C:Xf) A=>aa (! C) (R A) (Ld kI c A λ(D:H)=>St c (ni (i64 (D+(i64 ((1:H)-(i64 ((2:H)*0))))))) A λB=>([]:S I)=([]:S I)∧s B∧t B<t u))) (kT Pg a [kB] [(ni 0)] u λ(F:Xf) E=>R E))):Cl Pg [] 113 ⟨[a,(.pointer (O b)),(.pointer (O c))]⟩ w R:=Aa Tryz.f113 (.s .o (.s (.s .o (.c .o .o)) (.s (.b (.l [] (.s (.s .o (.c .o .o)) (.s (.b (.s .o (.c .o .o))) .o)))) .o))) h
theorem vv.ok(a:(Xe Q))(b:H)(R:(Xe Q)→Xf→H→G→Prop) w(h:Nw 131 a w λd c=>Nw 131 ⟨Zi 258 (.int .u8 0)++[(ni 0),(ni 0),(ni 0),(ni 0)]⟩ c λf e=>ba (λ(u:G)=>Ld (.arr 262) ⟨d,0,V⟩ u λv=>Cl Pg [(.arr 262),kB] 63 ⟨[(.agg v),(ni b)]⟩ u λy(z:Xf) x=>ar 262 ⟨d,0,V⟩ y x λA=>aa (! z) (Ld (.arr 262) ⟨f,0,V⟩ A λE=>ar 262 ⟨f,0,V⟩ E A λD=>Ld (.arr 262) ⟨f,0,V⟩ D λF=>R F J 100 D) (cJ A λB I=>aA (.arr 262) ⟨d,0,V⟩ B λK=>aA kI (Zo ⟨d,0,V⟩ 258) B λ(L:H)=>ar 262 ⟨f,0,V⟩ K I λC=>B C∧Ld (.arr 262) ⟨f,0,V⟩ C λM=>R M (L==258) 0 C)) λg=>Ld (.arr 262) ⟨d,0,V⟩ e λh=>Cl Pg [kB] 253 ⟨[(.agg h)]⟩ e λ(j:Xf) i=>aa (! j) (Ld (.arr 262) ⟨f,0,V⟩ i λk=>ar 262 ⟨f,0,V⟩ k i λl=>Ld (.arr 262) ⟨f,0,V⟩ l λm=>R m J 2 l) (Ld kI (Zo ⟨d,0,V⟩ 258) i λ(n:H)=>aa (n==258) (Ld (.arr 262) ⟨f,0,V⟩ i λo=>ar 262 ⟨f,0,V⟩ o i λp=>Ld (.arr 262) ⟨f,0,V⟩ p λq=>R q J 2 p) (0≤(1:H)∧aa ((aI .i64 b (1:H)) !=0) (Ld (.arr 262) ⟨f,0,V⟩ i λr=>ar 262 ⟨f,0,V⟩ r i λs=>Ld (.arr 262) ⟨f,0,V⟩ s λt=>R t J 2 s) (g i)))):Cl Pg [(.arr 262),kB,kI] 221 ⟨[(.agg a),(ni b)]⟩ w R:=co Tryz.f221 [(2,[])] h
theorem uN.ok(a:(Xe Q))(R:Xf→G→Prop) w(h:Nw 131 a w λc b=>Ld (.arr 262) ⟨c,0,V⟩ b λd=>Cl Pg [kB] 268 ⟨[(.agg d)]⟩ b λ(f:Xf) e=>aa f (R U e) (ba (λ(x:G)=>Ld kI (Zo ⟨c,0,V⟩ 258) x λ(y:H)=>aa (y==0) (Ld kI (Zo ⟨c,0,V⟩ 261) x λ(z:H)=>aa (z==0) (R U x) (Ld kI (Zo ⟨c,0,V⟩ 261) x λ(C:H)=>aa (C==1) (Ld kI (Zo ⟨c,0,V⟩ 260) x λ(D:H)=>aa (K (D>0)) (R U x) (Ld kI (Zo ⟨c,0,V⟩ 261) x λ(E:H)=>aa (E==2) (Ld kI (Zo ⟨c,0,V⟩ 260) x λ(F:H)=>R (K (F<15)) x) (R J x))) (Ld kI (Zo ⟨c,0,V⟩ 261) x λ(I:H)=>aa (I==2) (Ld kI (Zo ⟨c,0,V⟩ 260) x λ(L:H)=>R (K (L<15)) x) (R J x)))) (aa (y==258) (aJ x λA=>Ld kI (Zo ⟨c,0,V⟩ 259) A λ(M:H)=>aa (M==4) (Ld kI (Zo ⟨c,0,V⟩ 261) A λ(N:H)=>aa (N==0) (Ld kI (Zo ⟨c,0,V⟩ 260) A λ(P:H)=>Ld kI (Zo ⟨c,0,V⟩ 258) A λ(S:H)=>aK (Zo ⟨c,0,V⟩ 0) 258 (i64 (S-1)) 1 λT=>Ld (aq .u8) T A λ(W:H)=>aa (P==(i64 W)) (Ld (.arr 258) (Zo ⟨c,0,V⟩ 0) A λX=>Cl Pg [kB] 23 ⟨[(.agg X)]⟩ A λ(Y:Xf) o1=>R Y o1) (R J A)) (R J A)) (R J A)) (aJ x λB=>Ld kI (Zo ⟨c,0,V⟩ 258) B λ(r1:H)=>aK (Zo ⟨c,0,V⟩ 0) 258 (i64 (r1-1)) 1 λs1=>Ld (aq .u8) s1 B λ(t1:H)=>Ld kI (Zo ⟨c,0,V⟩ 260) B λ(u1:H)=>Ld kI (Zo ⟨c,0,V⟩ 261) B λ(v1:H)=>Cl Pg [kB] 271 ⟨[(ni (i64 t1)),(ni u1),(ni v1)]⟩ B λ(y1:Xf) x1=>R y1 x1))) λg=>Ld kI (Zo ⟨c,0,V⟩ 259) e λ(h:H)=>Cl Pg [kB] 269 ⟨[(ni h),(ni 4),(ni 5)]⟩ e λ(j:Xf) i=>aa (! j) (R J i) (Ld kI (Zo ⟨c,0,V⟩ 258) i λ(k:H)=>Cl Pg [kB] 269 ⟨[(ni k),(ni 0),(ni 258)]⟩ i λ(m:Xf) l=>aa (! m) (R J l) (Ld kI (Zo ⟨c,0,V⟩ 260) l λ(n:H)=>Cl Pg [kB] 269 ⟨[(ni n),(ni 0),(ni 15)]⟩ l λ(p:Xf) o=>aa (! p) (R J o) (Ld kI (Zo ⟨c,0,V⟩ 261) o λ(q:H)=>Cl Pg [kB] 269 ⟨[(ni q),(ni 0),(ni 2)]⟩ o λ(s:Xf) r=>aa (! s) (R J r) (Ld (.arr 262) ⟨c,0,V⟩ r λt=>Cl Pg [kB] 270 ⟨[(.agg t)]⟩ r λ(v:Xf) u=>aa (! v) (R J u) (g u))))))):Cl Pg [kB] 253 ⟨[(.agg a)]⟩ w R:=co Tryz.f253 [(7,[])] h
theorem j4.ok(a:(Xe Q))(R:Xf→G→Prop) w(h:Nw 131 a w λc b=>cJ b λd e=>aA kI (Zo ⟨c,0,V⟩ 259) d λ(f:H)=>Cl Pg [kB] 269 ⟨[(ni f),(ni 0),(ni 3)]⟩ e λ(h:Xf) g=>d g∧aa h (aA kI (Zo ⟨c,0,V⟩ 260) d λ(i:H)=>aA kI (Zo ⟨c,0,V⟩ 259) d λ(j:H)=>0≤j∧Cl Pg [kB] 269 ⟨[(ni i),(ni 0),(ni (i64 ((a7 .i64 (1:H) j)-1)))]⟩ g λ(l:Xf) k=>d k∧aa l (aA (.arr 262) ⟨c,0,V⟩ d λm=>aA kI (Zo ⟨c,0,V⟩ 259) d λ(n:H)=>aA kI (Zo ⟨c,0,V⟩ 260) d λ(o:H)=>cR Pg 131 [(2,(ni n)),(3,(ni o))] λp=>sK Pg 131 m p λq=>R q k) (R J k)) (R J g)):Cl Pg [kB] 268 ⟨[(.agg a)]⟩ w R:=co Tryz.f268 [] h
theorem sI.ok(a:H)(b:H)(c:H)(R:Xf→G→Prop) w(h:aa (K (a≥b)) (R (K (a≤c)) w) (R J w)):Cl Pg [kB] 269 ⟨[(ni a),(ni b),(ni c)]⟩ w R:=co Tryz.f269 [] h
theorem uJ.ok(a:(Xe Q))(R:Xf→G→Prop) w(h:Nw 131 a w λc b=>Ld (.arr 258) (Zo ⟨c,0,V⟩ 0) b λd=>da 0 b λe f(g:H) h=>aa (K (g<258)) (eA (.int .u8) d 258 g λ(i:H)=>aa (K (i>15)) (R J h) (Ld kI (Zo ⟨c,0,V⟩ 258) h λ(j:H)=>aa (K (g≥j)) (aa (K (i>0)) (R J h) (e (i64 (g+1)) h∧f (i64 (g+1)) h<f g h)) (e (i64 (g+1)) h∧f (i64 (g+1)) h<f g h))) (R U h)):Cl Pg [kB] 270 ⟨[(.agg a)]⟩ w R:=co Tryz.f270 [(5,[(7,kI)])] h
theorem sS.ok(a:H)(b:H)(c:H)(R:Xf→G→Prop) w(h:aa (c==0) (R (a==b) w) (aa (c==1) (R (K (a<b)) w) (R (K (a>b)) w))):Cl Pg [kB] 271 ⟨[(ni a),(ni b),(ni c)]⟩ w R:=co Tryz.f271 [] h
end
end Go.Proofs.Q9
namespace Go.Tab
section
open Go.Inc
def lU(l:S I)(b a:I):Prop:=if l=[]then a=0∨(a=1∧0<b)∨(a=2∧b<15)else(a=0∧l.getLastD 0=b)∨(a=1∧l.getLastD 0<b)∨(a=2∧b<l.getLastD 0)
def eE(t:TS):Prop:=(t.bits<4∧t.l=[]∧t.now<2^t.bits∧t.way=0)∨((t.bits=4∨t.bits=5)∧t.l.length<258∧t.now≤15∧(∀x∈t.l,x≤15)∧lU t.l t.now t.way)
theorem eE.zero:eE t0:=.inl ⟨Zb,Z,Zb,Z⟩
theorem nz{m:S I→Xf}{t j:TS}{b:I}(h:eE t)(q:b≤1)(a:bb m t b=.more j):eE j:=by obtain⟨l,d,n,o⟩:=t;unfold eE at h;unfold bb at a;dsimp only at h a;(rcases h with⟨k,e,i,f⟩|⟨k,e,i,f,g⟩);{rw[Xh k]at a;cases a;subst e f;by_cases h:d=3;{subst h;right;refine⟨.inl Z,Zd,by simp at i;dsimp only;omega,Zd,?_⟩;simp[lU]};{left;refine⟨by dsimp only;omega,Z,?_,Z⟩;dsimp only;rw[Yy];omega}};{rw[y Za]at a;split at a;{split at a;{split at a;{cases a;right;refine⟨.inl Z,by simp;omega,i,?_,?_⟩;{grind};{unfold lU;dsimp only;rw[y Zd];left;simp}};{grind}};{cases a;right;exact⟨.inr Z,e,i,f,g⟩}};{split at a;{split at a;{rename_i p;cases a;right;refine⟨.inl Z,e,by dsimp only;omega,f,?_⟩;unfold lU at g⊢;dsimp only;split at g;{rename_i c;rw[Xh c];omega};{rename_i c;rw[y c];omega}};{cases a}};{split at a;{rename_i p;cases a;right;refine⟨.inl Z,e,by dsimp only;omega,f,?_⟩;unfold lU at g⊢;dsimp only;split at g;{rename_i c;rw[Xh c];omega};{rename_i c;rw[y c];omega}};{cases a}}}}
theorem lQ{c:S I→Xf}{t:TS}{b:I}{l:S I}(h:eE t)(a:bb c t b=.fin l):l.length=258∧c l=U:=by obtain⟨g,d,e,f⟩:=t;unfold eE at h;unfold bb at a;dsimp only at h a;split at a;{cases a};{grind}
def pad(l:S I):S I:=l++Zi (258-l.length) 0
theorem bW{l:S I}(h:l.length≤258):(pad l).length=258:=by simp[pad];omega
theorem OD{l:S I}(h:l.length=258):pad l=l:=by simp[pad,h]
theorem Rp{l:S I}{x:I}(h:l.length<258):(pad l).set l.length x=pad (l++[x]):=by unfold pad;rw[S.set_append_right _ _ (ZA _),I.sub_self];obtain⟨m,a⟩:∃m,258-l.length=m+1:=⟨257-l.length,Za⟩;rw[a,S.replicate_succ,S.set_cons_zero,Zh,Z6,show 258-(l.length+1)=m by omega];simp
theorem Ng{l:S I}(h:l≠[])(b:l.length≤258):(pad l)[l.length-1]?=O (l.getLastD 0):=by unfold pad;have:0<l.length:=List.length_pos_iff.2 h;rw[ZG Za,Zg Za];cases l with|nil=>exact Xr Z h|cons a l=>simp[S.getLastD,S.getLast_eq_getElem]
theorem SQ{l:S I}{i:I}(a:l.length≤i):(pad l).getD i 0=0:=by unfold pad;rw[Zl,ZD a,S.getElem?_replicate];split<;>rfl
theorem T3{l:S I}(h:∀x∈l,x≤15):∀x∈pad l,x≤15:=by intro x a;(rcases List.mem_append.1 a with a|a);{exact h x a};{grind}
end
end Go.Tab
namespace Go.Proofs.Q9
section
open Go Go.Vc Go.Srt Go.Inc Go.Tab
abbrev AX(l:S I):S Q:=l.map λ(n:I)=>Yk .u8 (n:H)
abbrev eX(l:S I)(s b n a:H):Xe Q:=⟨AX l++[.int .i64 s,.int .i64 b,.int .i64 n,.int .i64 a]⟩
theorem eS{l:S I}(h:l.length=258):(AX l).length=258:=by simp[h]
section
variable{E w:G}{F:S HP}
theorem ON:(Tryz.prog.fieldsOf 131).toList.map (λf=>(f.name== "_",f.type,f.offset))=[(J,50,0),(J,3,258),(J,3,259),(J,3,260),(J,3,261)]:=Zc
theorem UG:Tryz.prog.underlying 131=O (.struct (Tryz.prog.fieldsOf 131)):=Zc
theorem SA:Tryz.prog.stoodInHeld 131=J:=Zc
theorem sK.tb{l:S I}{s b n m:H}{K:Xf→Prop}(C:l.length=258)(W:K U):sK Zf 131 (eX l s b n m) (eX l s b n m) K:=by obtain⟨it,g⟩:=Ht;obtain⟨T,B,L⟩:=Q6;obtain⟨kt,M,N⟩:=Mc;obtain⟨o,p,q,u,z,Q,i,a,c,e,f⟩:∃o p q u z,(Tryz.prog.fieldsOf 131).toList=[o,p,q,u,z]∧(o.name== "_",o.type,o.offset)=(J,50,0)∧(p.name== "_",p.type,p.offset)=(J,3,258)∧(q.name== "_",q.type,q.offset)=(J,3,259)∧(u.name== "_",u.type,u.offset)=(J,3,260)∧(z.name== "_",z.type,z.offset)=(J,3,261):=by{have h:=ON;generalize(Tryz.prog.fieldsOf 131).toList=fs at h;match fs,h with|[],h=>simp at h|[_],h=>simp at h|[_,_],h=>simp at h|[_,_,_],h=>simp at h|[_,_,_,_],h=>simp at h|_::_::_::_::_::_::_,h=>simp at h|[o,p,q,u,z],h=>simp only[Yt,S.map_nil,S.cons.injEq,and_true]at h;exact⟨o,p,q,u,z,rfl,h.1,h.2.1,h.2.2.1,h.2.2.2.1,h.2.2.2.2⟩};simp only[YG]at i a c e f;have A:=eS C;have X:(((eX l s b n m).toList.drop 0).take 258)=(l.map λ(x:I)=>(x:H)).map (.int .u8):=by{rw[S.drop_zero,S.take_append_of_le_length Za,Zp Za,YF];rfl};have j:∀(x:H)(D:I)(_:9≤D)(w:G),(Yc D 3 (.int .i64 x) (.int .i64 x)).run Zf w=.ok U w:=λx D Y w=>by{obtain⟨D,rfl⟩:∃k,D=k+1:=⟨D-1,Za⟩;rw[run_equalIn_int w D _ _ _ _ _ KC];simp};obtain⟨r,hr,R⟩:=kN (P:=Zf) (d:=9) (rec:=λt x y K=>∃b,(∀D,9≤D→∀w,(Yc D t x y).run Zf w=.ok b w)∧K b) (λt x y K h=>h) (xs:=eX l s b n m) (ys:=eX l s b n m) (fs:=[o,p,q,u,z]) (K:=K) (by unfold jF;rw[i.1];refine mC (it:=T) (by rw[i.2.1];kernel_rfl) (by rw[i.2.1];exact B) (mC (it:=T) (by rw[i.2.1];kernel_rfl) (by rw[i.2.1];exact B) ?_);rw[i.2.2,L,i.2.1,X];refine⟨_,λD Y w=>z8 Sh Pq M N (by simpa using C) (by simpa using C) D Za w,?_⟩;unfold jF;rw[a.1];refine eO (it:=it) (v:=.int .i64 s) (by rw[a.2.1];kernel_rfl) (by rw[a.2.1];exact g) (by rw[a.2.2];exact j8 (k:=0) A) (eO (it:=it) (v:=.int .i64 s) (by rw[a.2.1];kernel_rfl) (by rw[a.2.1];exact g) (by rw[a.2.2];exact j8 (k:=0) A) ?_);rw[a.2.1];refine⟨U,j s,?_⟩;unfold jF;rw[c.1];refine eO (it:=it) (v:=.int .i64 b) (by rw[c.2.1];kernel_rfl) (by rw[c.2.1];exact g) (by rw[c.2.2];exact j8 (k:=1) A) (eO (it:=it) (v:=.int .i64 b) (by rw[c.2.1];kernel_rfl) (by rw[c.2.1];exact g) (by rw[c.2.2];exact j8 (k:=1) A) ?_);rw[c.2.1];refine⟨U,j b,?_⟩;unfold jF;rw[e.1];refine eO (it:=it) (v:=.int .i64 n) (by rw[e.2.1];kernel_rfl) (by rw[e.2.1];exact g) (by rw[e.2.2];exact j8 (k:=2) A) (eO (it:=it) (v:=.int .i64 n) (by rw[e.2.1];kernel_rfl) (by rw[e.2.1];exact g) (by rw[e.2.2];exact j8 (k:=2) A) ?_);rw[e.2.1];refine⟨U,j n,?_⟩;unfold jF;rw[f.1];refine eO (it:=it) (v:=.int .i64 m) (by rw[f.2.1];kernel_rfl) (by rw[f.2.1];exact g) (by rw[f.2.2];exact j8 (k:=3) A) (eO (it:=it) (v:=.int .i64 m) (by rw[f.2.1];kernel_rfl) (by rw[f.2.1];exact g) (by rw[f.2.2];exact j8 (k:=3) A) ?_);rw[f.2.1];refine⟨U,j m,?_⟩;simpa using W);refine⟨r,λw=>?_,R⟩;rw[run_equalIn_struct w 9999 _ _ _ UG SA,Q];exact hr 9999 Zb w
end
end
end Go.Proofs.Q9
end
