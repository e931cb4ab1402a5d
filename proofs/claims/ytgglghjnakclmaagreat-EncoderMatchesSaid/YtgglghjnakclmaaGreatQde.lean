/- Texts packed together by program; spaces struck by program. Conditions: as each theorem states. -/
import Derived.Carry
import Derived.OpenShut
import Derived.ProofKit
import Derived.SizedLaws
import Derived.Test.YtgglghjnakclmaaGreatQdd
set_option linter.unusedSimpArgs false
set_option linter.unusedVariables false
namespace Go.Proofs.YtgglghjnakclmaaGreat
open Go Go.Vc Go.Srt Go.Inc Go.Tab
section
variable {E w:World} {F:List HP}
theorem Km (b n:Int):(⟨List.replicate 258 (.int .u8 0)++ [.int .i64 0,.int .i64 b,.int .i64 n,.int .i64 0]⟩:Array Value)=yw (List.replicate 258 0) 0 b n 0:=by
 unfold yw Lz
 rw [List.map_replicate];rfl
theorem rl.tb {b n:Int} {K:Array Value→Prop} (hK:K (yw (List.replicate 258 0) 0 b n 0)):rl Tryz.prog 106 [(2,.int .i64 b),(3,.int .i64 n)] K:=by
 refine ⟨_,(by kernel_rfl:Tryz.prog.built 106 [(2,.int .i64 b),(3,.int .i64 n)]=some ⟨List.replicate 258 (.int .u8 0)++ [.int .i64 0,.int .i64 b,.int .i64 n,.int .i64 0]⟩),?_⟩
 rw [Km];exact hK
set_option maxRecDepth 20000
end
end Go.Proofs.YtgglghjnakclmaaGreat
namespace Go.Vc
end Go.Vc
namespace Go.Proofs.YtgglghjnakclmaaGreat
open Go Go.Vc Go.Srt Go.Inc Go.Tab Go.aS
section
variable {E w:World} {F:List HP}
set_option maxRecDepth 20000
theorem IE {s:Sl} {b x y:Nat} {t:TypeId} {xs:List Nat} {K:Sl→World→Prop} (h:Hp E w (af b (.cells ⟨[.int .i64 (x:Int),.int .i64 (y:Int)]⟩ t (0,0))::OI s xs::F)) (hl:xs.length≤10000000000) (hK: ∀s' w',Hp E w' (OI s' (xs++ [x,y])::F)→K s' w'):
  au Tryz.prog (Builtin.append_ #[142,142] 142 ⟨[.slice s.base s.len s.cap,.slice (some ⟨b,0,none⟩) 2 2]⟩) kS w K:=by
 have hol:=OI.len (h.at 1)
 refine aK (ys:= [vI (x:Int),vI (y:Int)]) (n:=2) eM (by decide) (.inl ⟨3,by kernel_rfl⟩) (h.at 1) (.inl ⟨some ⟨b,0,none⟩,2,2,rfl,rfl,h.ah (ad.aH rfl rfl)⟩) rfl (by
  intro z hz
  simp only [List.mem_cons,List.not_mem_nil,or_false] at hz
  rcases hz with rfl|rfl<;>rfl) (by omega) (by omega) fun s' w' h _=>hK s' w' ?_
 unfold OI
 rw [rZ]
 exact h.dv
theorem Hq {was now:Nat} {K:Sl→World→Prop} (h:Hp E w F) (h1:was≤255) (h2:now≤255) (hK: ∀s w',Hp E w' (OI s (cj was now)::F)→K s w'):Cl Tryz.prog [kS] ph ⟨[.int .i64 (was:Int),.int .i64 (now:Int)]⟩ w K:=by
 refine Ev.ok _ _ _ _ ?_
 refine ⟨fun m o w=> ∃(q:Nat) (l:List Nat),m=(q:Int)∧q≤255∧l.length≤2*(q+was)∧cj was now=l++cj q now∧Hp E w (OI o l::F),fun m _ _=>255 - m.toNat,⟨was,[],rfl,h1,by simp,rfl,h.a9 1⟩,?_⟩
 rintro m o w ⟨q,l,rfl,hq,hl,hc,h⟩
 refine aa.dm (fun hlt=> ?_) (fun hge=> ?_)
 ·refine Nw.mk h fun b w h=>IE (x:=1) (y:=0) h (by omega) fun s w h=> ?_
  rw [ae (by omega)]
  refine ⟨⟨q+1,l++ [1,0],rfl,by omega,by rw [List.length_append];simp;omega,?_,h⟩,by first|omega|(dsimp only;omega)⟩
  rw [hc]
  unfold cj
  rw [if_neg (by omega),if_neg (by omega)]
  obtain ⟨j,hj⟩: ∃j,now - q=j+1:=⟨now - q - 1,by omega⟩
  rw [hj,show now - (q+1)=j by omega,show ng (j+1)=1::0::ng j from rfl]
  simp
 ·refine ⟨fun m o w=> ∃(q:Nat) (l:List Nat),m=(q:Int)∧q≤255∧now≤q∧l.length≤2*(255 - q)+2000∧cj was now=l++cj q now∧Hp E w (OI o l::F),fun m _ _=>m.toNat,⟨q,l,rfl,hq,by omega,by omega,hc,h⟩,?_⟩
  rintro m o w ⟨q,l,rfl,hq,hnq,hl,hc,h⟩
  refine aa.dm (fun hlt=> ?_) (fun hge=> ?_)
  ·refine Nw.mk h fun b w h=>IE (x:=1) (y:=1) h (by omega) fun s w h=> ?_
   rw [ae (by omega),show (q:Int) - 1=((q - 1:Nat):Int) by omega]
   refine ⟨⟨q - 1,l++ [1,1],rfl,by omega,by omega,by rw [List.length_append];simp;omega,?_,h⟩,by first|omega|(dsimp only;omega)⟩
   rw [hc]
   obtain ⟨j,hj⟩: ∃j,q - now=j+1:=⟨q - now - 1,by omega⟩
   have e1:cj q now=1::1::(gM j++ [0]):=by
    unfold cj
    rw [if_pos (by omega),hj];rfl
   have e2:cj (q - 1) now=gM j++ [0]:=by
    unfold cj
    split
    ·rw [show q - 1 - now=j by omega]
    ·have:j=0:=by omega
     subst this
     rw [show now - (q - 1)=0 by omega];rfl
   rw [e1,e2];simp
  ·have e:q=now:=by omega
   subst e
   refine Nw.mk h fun b w h=>vv (x:=0) h (by omega) fun s w h=>hK s w ?_
   rw [hc,show cj q q= [0] by unfold cj;simp [ng]]
   exact h
theorem FZ {l:List Nat} {K:Sl→World→Prop} (h:Hp E w F) (hl:l.length=258) (h8: ∀x∈l,x≤15) (hK: ∀s w',Hp E w' (OI s (eF l)::F)→K s w'):Cl Tryz.prog [kS] n4 ⟨[.agg (ai .u8 l),.int .i64 (l.headD 0:Int)]⟩ w K:=by
 obtain ⟨x,m,rfl⟩: ∃x m,l=x::m:=by
  cases l with
  |nil=>simp at hl
  |cons x m=>exact ⟨x,m,rfl⟩
 have hx15:=h8 x List.mem_cons_self
 refine Ed.ok _ _ _ _ ?_
 show Nw _ _ _ _
 rw [show ((x::m).headD 0)=x from rfl]
 refine Nw.mk h fun b4 w h=>⟨by decide,by decide,by decide,by decide,by decide,by decide,by decide,?_⟩
 rw [show (8:Int)=((8:Nat):Int) from rfl,show (4:Int)=((4:Nat):Int) from rfl,show (2:Int)=((2:Nat):Int) from rfl,wg,wg,wg,wu,ae (x:=((x/8:Nat):Int)) (by omega),ae (x:=((x/4:Nat):Int)) (by omega),ae (x:=((x/2:Nat):Int)) (by omega),wu,wu,wu]
 refine Nw.mk h fun b6 w h=> ?_
 have h:=Hp.fz (n:=4) (sz:=1) h rfl
 have h:Hp E w (OI ⟨some ⟨b6,0,none⟩,4,4⟩ (four x++ep x ((x::m).take 0))::af b4 (.cells (ai .u8 (x::m)) 104 (0,0))::F):=h
 refine ⟨fun was o i w=> ∃k:Nat,i=(k:Int)∧k≤258∧was=((((x::m).take k).getLastD x:Nat):Int)∧Hp E w (OI o (four x++ep x ((x::m).take k))::af b4 (.cells (ai .u8 (x::m)) 104 (0,0))::F),fun _ _ i _=>258 - i.toNat,⟨0,rfl,by omega,rfl,h⟩,?_⟩
 rintro was o i w ⟨k,rfl,hk,rfl,h⟩
 refine aa.dm (fun hlt=> ?_) (fun hge=> ?_)
 ·have hlt:k<258:=by omega
  have hlt2:k<(x::m).length:=by omega
  have hn15:=h8 _ (List.getElem_mem hlt2)
  have hw15:((x::m).take k).getLastD x≤15:=by
   cases hc:((x::m).take k).getLast? with
   |none=>rw [List.getLastD_eq_getLast?,hc];exact hx15
   |some y=>
    rw [List.getLastD_eq_getLast?,hc]
    exact h8 y (List.mem_of_mem_take (List.mem_of_getLast? hc))
  have hk':((x::m).take k++ [(x::m)[k]])=(x::m).take (k+1):=by rw [List.take_add_one,List.getElem?_eq_getElem hlt2];rfl
  have htl:=qv ((x::m).take k) x hx15 fun y hy=>h8 y (List.mem_of_mem_take hy)
  rw [List.length_take] at htl
  have hcl:=wU hw15 hn15
  refine aw.rd (s:= .int .u8) (h.at 1) (by omega) (by omega) ((x::m)[k]:Int) (ez hlt2) ?_
  rw [ae (x:=((x::m)[k]:Int)) (by omega)]
  refine Hq h (by omega) (by omega) fun s16 w h=> ?_
  refine C8 (h.at 1) ad.own (by rw [List.length_append,show (four x).length=4 from rfl];omega) (by omega) fun s18 w h=> ?_
  refine aw.rd (s:= .int .u8) (h.at 2) (by omega) (by omega) ((x::m)[k]:Int) (ez hlt2) ?_
  rw [ae (x:=((x::m)[k]:Int)) (by omega),ae (x:=(k:Int)+1) (by omega)]
  refine ⟨⟨k+1,rfl,by omega,?_,?_⟩,by first|omega|(dsimp only;omega)⟩
  ·rw [←hk',List.getLastD_concat]
  ·rw [List.append_assoc,←sG,hk'] at h
   exact h.no 1
 ·have hk2:k=258:=by omega
  subst hk2
  rw [List.take_of_length_le (by omega)] at h
  exact hK o w h.dv
theorem J8 {l:List Nat} {K:Sl→Int→World→Prop} (h:Hp E w F) (hl:l.length=258) (h8: ∀x∈l,x≤255) (hbad:gG l=false→∀w',Hp E w' F→K ⟨none,0,0⟩ 2 w')
  (hK:gG l=true→∀s w',Hp E w' (OI s (eF l)::F)→K s 0 w'):Cl Tryz.prog [kS,kI] qX ⟨[.agg (ai .u8 l)]⟩ w K:=by
 refine GU.ok _ _ _ ?_
 have hsz:(ai .u8 l).size=258:=by rw [av,hl]
 refine Nw.mk h fun b3 w h=>Ld.xw h hsz (Gx h hl h8 fun w h=> ?_)
 by_cases hok:gG l=true
 ·rw [hok]
  have h15:=af.wC hok
  have h0:0<l.length:=by omega
  have hhd:l.headD 0=l[0]:=by
   cases l with
   |nil=>simp at h0
   |cons x m=>rfl
  refine aa.f rfl (Ld.xw h hsz (aw.rd (s:= .int .u8) h (by omega) (by omega) (l[0]:Int) (ez h0) ?_))
  have:=h15 _ (List.getElem_mem h0)
  rw [ae (by omega),←hhd]
  exact FZ h hl h15 fun s w h=>hK hok s w h.dv
 ·rw [show gG l=false by simpa using hok]
  exact aa.t rfl (hbad (by simpa using hok) w h.tl)
end
end Go.Proofs.YtgglghjnakclmaaGreat
namespace Go.Proofs.YtgglghjnakclmaaGreat
open Go Go.Vc
set_option maxRecDepth 100000
theorem EM.ok (a:Int) (R:Sl→Int→World→Prop) w (h:
 aa (decide (a<0))
 (R (⟨none,0,0⟩:Sl) 2 w)
 (aa (decide (a>2147483647))
 (R (⟨none,0,0⟩:Sl) 2 w)
 ((128:Int)≠0∧
 Nw 5 ⟨[(.int .u8 (u8 (Int.tmod a (128:Int))))]⟩ w fun c b=>
 (128:Int)≠0∧
 bq (i64 (Int.tdiv a (128:Int))) (⟨some ⟨c,0,none⟩,1,1⟩:Sl) b fun d e (f:Int) (g:Sl) h=>
 aa (decide (f>0))
 ((128:Int)≠0∧
 Nw 5 ⟨[(.int .u8 (u8 (i64 ((128:Int)+((Int.tmod f (128:Int)):Int)))))]⟩ h fun j i=>
 au Pg (Builtin.append_ #[26,26] 26 ⟨[(ag (⟨some ⟨j,0,none⟩,1,1⟩:Sl)),(ag g)]⟩) kS i fun (l:Sl) k=>
 (128:Int)≠0∧
 d (i64 (Int.tdiv f (128:Int))) l k∧e (i64 (Int.tdiv f (128:Int))) l k<e f g h)
 (R g 0 h)))):Cl Pg [kS,kI] iU ⟨[(ni a)]⟩ w R:=co Tryz.f124 [(12,[(0,kI),(4,kS)])] h
end Go.Proofs.YtgglghjnakclmaaGreat
namespace Go.Proofs.YtgglghjnakclmaaGreat
open Go Go.Vc
set_option maxRecDepth 100000
theorem EI.ok (a:(TT [.int .i64])) (R:Sl→Int→World→Prop) w (h:
 Nw 116 ⟨[(ni a.1)]⟩ w fun c b=>
 Ld kI (Addr.add ⟨c,0,none⟩ 0) b fun (d:Int)=>
 aa (decide (d<1))
 (R (⟨none,0,0⟩:Sl) 2 b)
 (Ld kI (Addr.add ⟨c,0,none⟩ 0) b fun (e:Int)=>
 aa (decide (e>65536))
 (R (⟨none,0,0⟩:Sl) 2 b)
 (Ld kI (Addr.add ⟨c,0,none⟩ 0) b fun (f:Int)=>
 Cl Pg [kS,kI] iU ⟨[(ni f)]⟩ b fun (h:Sl) (i:Int) g=>
 Nw 5 ⟨[(.int .u8 87),(.int .u8 80),(.int .u8 1)]⟩ g fun k j=>
 au Pg (Builtin.append_ #[26,26] 26 ⟨[(ag (⟨some ⟨k,0,none⟩,3,3⟩:Sl)),(ag h)]⟩) kS j fun (m:Sl) l=>
 R m 0 l))):Cl Pg [kS,kI] ll ⟨[(.agg ⟨[(ni a.1)]⟩)]⟩ w R:=co Tryz.f77 [] h
theorem Aa.ok (a:Int) (R:Sl→World→Prop) w (h:
 Nw 5 ⟨[(.int .u8 0)]⟩ w fun c b=>
 Cl Pg [kS] lg ⟨[(.int .u32 a)]⟩ b fun (e:Sl) d=>
 au Pg (Builtin.append_ #[26,26] 26 ⟨[(ag (⟨some ⟨c,0,none⟩,1,1⟩:Sl)),(ag e)]⟩) kS d fun (g:Sl) f=>
 R g f):Cl Pg [kS] iu ⟨[(.int .u32 a)]⟩ w R:=co Tryz.f79 [] h
theorem wX.ok (a:Int) (b:(TT [.int .i64,.int .i64,.int .u32])) (R:Sl→Int→World→Prop) w (h:
 Nw 25 ⟨[(ni b.1),(ni b.2.1),(.int .u32 b.2.2.1)]⟩ w fun d c=>
 a7 (fun (k:World)=>
 Ld kI (Addr.add ⟨d,0,none⟩ 0) k fun (l:Int)=>
 Cl Pg [kS,kI] iU ⟨[(ni l)]⟩ k fun (n:Sl) (o:Int) m=>
 Ld kI (Addr.add ⟨d,0,none⟩ 1) m fun (p:Int)=>
 Cl Pg [kS,kI] iU ⟨[(ni p)]⟩ m fun (r:Sl) (s:Int) q=>
 Nw 5 ⟨[(.int .u8 1)]⟩ q fun u t=>
 au Pg (Builtin.append_ #[26,26] 26 ⟨[(ag (⟨some ⟨u,0,none⟩,1,1⟩:Sl)),(ag n)]⟩) kS t fun (x:Sl) v=>
 au Pg (Builtin.append_ #[26,26] 26 ⟨[(ag x),(ag r)]⟩) kS v fun (z:Sl) y=>
 Ld (ar .u32) (Addr.add ⟨d,0,none⟩ 2) y fun (a1:Int)=>
 Cl Pg [kS] lg ⟨[(.int .u32 a1)]⟩ y fun (c1:Sl) b1=>
 au Pg (Builtin.append_ #[26,26] 26 ⟨[(ag z),(ag c1)]⟩) kS b1 fun (e1:Sl) d1=>
 R e1 0 d1) fun e=>
 aa (decide (a<1))
 (R (⟨none,0,0⟩:Sl) 2 c)
 (aa (decide (a>65536))
 (R (⟨none,0,0⟩:Sl) 2 c)
 (Ld kI (Addr.add ⟨d,0,none⟩ 0) c fun (f:Int)=>
 aa (decide (f<1))
 (R (⟨none,0,0⟩:Sl) 2 c)
 (Ld kI (Addr.add ⟨d,0,none⟩ 0) c fun (g:Int)=>
 aa (decide (g>a))
 (R (⟨none,0,0⟩:Sl) 2 c)
 (Ld kI (Addr.add ⟨d,0,none⟩ 1) c fun (h:Int)=>
 aa (decide (h<1))
 (R (⟨none,0,0⟩:Sl) 2 c)
 (Ld kI (Addr.add ⟨d,0,none⟩ 1) c fun (i:Int)=>
 Ld kI (Addr.add ⟨d,0,none⟩ 0) c fun (j:Int)=>
 aa (decide (i>j))
 (R (⟨none,0,0⟩:Sl) 2 c)
 (e c))))))):Cl Pg [kS,kI] jD ⟨[(ni a),(.agg ⟨[(ni b.1),(ni b.2.1),(.int .u32 b.2.2.1)]⟩)]⟩ w R:=co Tryz.f125 [(2,[])] h
end Go.Proofs.YtgglghjnakclmaaGreat
namespace Go.Proofs.YtgglghjnakclmaaGreat
open Go Go.Vc
set_option maxRecDepth 100000
theorem HM.ok (a:Sl) (R:Int→World→Prop) w (h:
 Cl Pg [(ar .u32)] nR ⟨[(.int .u32 0),(ag a)]⟩ w fun (c:Int) b=>
 R c b):Cl Pg [(ar .u32)] j0 ⟨[(ag a)]⟩ w R:=co Tryz.f80 [] h
theorem F1.ok (a:Int) (R:Sl→World→Prop) w (h:
 (16777216:Int)≠0∧
 (65536:Int)≠0∧
 (256:Int)≠0∧
 (256:Int)≠0∧
 (256:Int)≠0∧
 (256:Int)≠0∧
 Nw 5 ⟨[(.int .u8 (u8 (u32 (Int.tdiv a (16777216:Int))))),(.int .u8 (u8 (Int.tmod (u32 (Int.tdiv a (65536:Int))) (256:Int)))),(.int .u8 (u8 (Int.tmod (u32 (Int.tdiv a (256:Int))) (256:Int)))),(.int .u8 (u8 (Int.tmod a (256:Int))))]⟩ w fun c b=>
 R (⟨some ⟨c,0,none⟩,4,4⟩:Sl) b):Cl Pg [kS] lg ⟨[(.int .u32 a)]⟩ w R:=co Tryz.f131 [] h
theorem Dq.ok (a:Int) (b:Sl) (R:Int→World→Prop) w (h:
 bq (dJ .u32 a 4294967295) 0 w fun c d (e:Int) (f:Int) g=>
 aa (decide (f<(b.len:Int)))
 (bq e 0 g fun h i (j:Int) (k:Int) l=>
 an b f 1 fun m=>
 Ld kS m l fun (n:Sl)=>
 aa (decide (k<(n.len:Int)))
 (an b f 1 fun o=>
 Ld kS o l fun (p:Sl)=>
 an p k 1 fun q=>
 Ld (ar .u8) q l fun (r:Int)=>
 Cl Pg [(ar .u32)] oc ⟨[(.int .u32 j),(.int .u8 r)]⟩ l fun (t:Int) s=>
 h t (i64 (k+1)) s∧i t (i64 (k+1)) s<i j k l)
 (c j (i64 (f+1)) l∧d j (i64 (f+1)) l<d e f g))
 (R (dJ .u32 e 4294967295) g)):Cl Pg [(ar .u32)] nR ⟨[(.int .u32 a),(ag b)]⟩ w R:=co Tryz.f132 [(7,[(0,(ar .u32)),(5,kI)]),(14,[(0,(ar .u32)),(6,kI)])] h
theorem Dg.ok (a:Int) (b:Int) (R:Int→World→Prop) w (h:
 (256:Int)≠0∧
 Cl Pg [(ar .u32)] oW ⟨[(.int .u8 (dJ .u8 (u8 (Int.tmod a (256:Int))) b))]⟩ w fun (d:Int) c=>
 (256:Int)≠0∧
 R (dJ .u32 d (u32 (Int.tdiv a (256:Int)))) c):Cl Pg [(ar .u32)] oc ⟨[(.int .u32 a),(.int .u8 b)]⟩ w R:=co Tryz.f185 [] h
theorem FK.ok (a:Int) (R:Int→World→Prop) w (h:
 bq (u32 a) 0 w fun b c (d:Int) (e:Int) f=>
 aa (decide (e<8))
 ((2:Int)≠0∧
 (2:Int)≠0∧
 aa (((Int.tmod d (2:Int)):Int)==1)
 (b (dJ .u32 (u32 (Int.tdiv d (2:Int))) 3988292384) (i64 (e+1)) f∧c (dJ .u32 (u32 (Int.tdiv d (2:Int))) 3988292384) (i64 (e+1)) f<c d e f)
 (b (u32 (Int.tdiv d (2:Int))) (i64 (e+1)) f∧c (u32 (Int.tdiv d (2:Int))) (i64 (e+1)) f<c d e f))
 (R d f)):Cl Pg [(ar .u32)] oW ⟨[(.int .u8 a)]⟩ w R:=co Tryz.f251 [(7,[(3,(ar .u32)),(4,kI)])] h
end Go.Proofs.YtgglghjnakclmaaGreat
namespace Go.Proofs.YtgglghjnakclmaaGreat
open Go Go.Vc Go.aS Go.Crc
section
variable {E w:World} {F:List HP}
set_option maxRecDepth 20000
theorem nY (a b:Nat):Int.tmod (a:Int) (b:Int)=((a % b:Nat):Int):=rfl
theorem nQ (a b:Nat):Int.tdiv (a:Int) (b:Int)=((a/b:Nat):Int):=rfl
theorem Lx {b:Nat} {K:Int→World→Prop} (hb:b<256) (hK:K (row b:Int) w):Cl Tryz.prog [ar .u32] oW ⟨[.int .u8 (b:Int)]⟩ w K:=by
 refine FK.ok _ _ _ ?_
 refine ⟨fun c i w'=>w'=w∧∃k:Nat,i=(k:Int)∧k≤8∧c=(bT k b:Int),fun _ i _=>8 - i.toNat,⟨rfl,0,rfl,by omega,by rw [eP (by omega)];rfl⟩,?_⟩
 rintro c i w' ⟨rfl,k,rfl,hk,rfl⟩
 refine aa.dm (fun hlt=> ?_) (fun hge=> ?_)
 ·have hlt:k<8:=by omega
  have hb:=rS k b (by omega)
  have hm:IntKind.max .u32=4294967295:=rfl
  have h2:=fI hb
  have e1:u32 (Int.tdiv (bT k b:Int) 2)=((bT k b/2:Nat):Int):=by
   rw [show (2:Int)=((2:Nat):Int) from rfl,nQ,eP (by omega)]
  have e2:Int.tmod (bT k b:Int) 2=((bT k b % 2:Nat):Int):=nY _ 2
  rw [e1,e2,ae (by omega)]
  have hs:bT (k+1) b=half (bT k b):=rfl
  refine ⟨by decide,by decide,aa.mk (fun ho=> ?_) (fun he=> ?_)⟩
  ·have ho:bT k b % 2=1:=by rw [beq_iff_eq] at ho;omega
   have hh:bT k b/2^^^3988292384=bT (k+1) b:=by rw [hs];unfold half;rw [if_pos ho]
   refine ⟨⟨rfl,k+1,rfl,by omega,?_⟩,by first|omega|(dsimp only;omega)⟩
   rw [show (3988292384:Int)=((3988292384:Nat):Int) from rfl,hO (by omega) (by omega) (by rw [hh,hs];omega),hh]
  ·have ho: ¬bT k b % 2=1:=by rw [beq_eq_false_iff_ne] at he;omega
   have hh:bT k b/2=bT (k+1) b:=by rw [hs];unfold half;rw [if_neg ho,Nat.xor_zero]
   exact ⟨⟨rfl,k+1,rfl,by omega,by rw [hh]⟩,by first|omega|(dsimp only;omega)⟩
 ·have:k=8:=by omega
  subst this
  exact hK
theorem JN {c x:Nat} {K:Int→World→Prop} (hc:c<4294967296) (hx:x<256) (hK:K (Crc.step c x:Int) w):Cl Tryz.prog [ar .u32] oc ⟨[.int .u32 (c:Int),.int .u8 (x:Int)]⟩ w K:=by
 refine Dg.ok _ _ _ _ ?_
 have hm:IntKind.max .u32=4294967295:=rfl
 have hm8:IntKind.max .u8=255:=rfl
 have hi:=sY (c:=c) hx
 have hr:=Bp (c:=c % 256^^^x) (by omega)
 have hs:=xc hc hx
 have e1:dJ .u8 (u8 (Int.tmod (c:Int) 256)) (x:Int)=((c % 256^^^x:Nat):Int):=by
  rw [show (256:Int)=((256:Nat):Int) from rfl,nY,dE (by omega),hO (by omega) (by omega) (by omega)]
 rw [e1]
 refine ⟨by decide,Lx hi ⟨by decide,?_⟩⟩
 unfold Crc.step at hs hK
 rw [show (256:Int)=((256:Nat):Int) from rfl,nQ,eP (by omega),hO (by omega) (by omega) (by omega)]
 exact hK
theorem LH {c:Nat} (h:c<4294967296):dJ .u32 (c:Int) 4294967295=((c^^^4294967295:Nat):Int):=by
 have hm:IntKind.max .u32=4294967295:=rfl
 have hx:c^^^4294967295<2^32:=Nat.xor_lt_two_pow (by omega) (by decide)
 rw [show (4294967295:Int)=((4294967295:Nat):Int) from rfl,hO (by omega) (by omega) (by omega)]
theorem Jy {c:Nat} {K:Int→World→Prop} {s:Sl} {cs:List Sl} {bs:List (List Nat)} (h:Hp E w F) (hc0:c<4294967296)
  (hs:ad F (aD 1 s (cs.map fun x=> .slice x.base x.len x.cap))) (hl:cs.length=bs.length) (hcl:cs.length≤bO) (hc: ∀i (h:i<cs.length),ad F (aD 1 cs[i] ((bs.getD i []).map vB)))
  (hby: ∀b∈bs,∀y∈b,y<256) (hbig: ∀b∈bs,b.length≤bO)
  (hK:K ((Crc.feed (c^^^4294967295) bs.flatten^^^4294967295:Nat):Int) w):Cl Tryz.prog [ar .u32] nR ⟨[.int .u32 (c:Int),.slice s.base s.len s.cap]⟩ w K:=by
 refine Dq.ok _ _ _ _ ?_
 have hlen:s.len=cs.length:=by have:=(h.ah hs).1;simpa using this.symm
 have hflat: ∀y∈bs.flatten,y<256:=fun y hy=>by
  obtain ⟨b,hb1,hb2⟩:=List.mem_flatten.1 hy
  exact hby b hb1 y hb2
 have hc1:c^^^4294967295<4294967296:=Nat.xor_lt_two_pow (n:=32) hc0 (by decide)
 rw [aC] at hcl
 rw [LH hc0]
 refine ⟨fun x i w'=>w'=w∧∃k:Nat,i=(k:Int)∧k≤cs.length∧x=(Crc.feed (c^^^4294967295) (bs.take k).flatten:Int),fun _ i _=>cs.length - i.toNat,⟨rfl,0,rfl,by omega,rfl⟩,?_⟩
 rintro x i w ⟨rfl,k,rfl,hk,rfl⟩
 refine aa.dm (fun hlt=> ?_) (fun hge=> ?_)
 ·have hlt:k<cs.length:=by omega
  have hkb:k<bs.length:=by omega
  have hgd:bs.getD k []=bs[k]:=by rw [List.getD_eq_getElem?_getD,List.getElem?_eq_getElem hkb];rfl
  have hck:=hc k hlt
  rw [hgd] at hck
  have hmem:=List.getElem_mem hkb
  have hblen:=hbig _ hmem
  rw [aC] at hblen
  have hlk:=(h.ah hck).1
  simp only [List.length_map,Nat.mul_one] at hlk
  have rdp: ∀{G:Sl→Prop},G cs[k]→an s (k:Int) 1 fun q=>Ld kS q w G:=fun hG=>an.rd (h.ah hs) (by omega) (by omega) fun q hi hq=>Ld.sc _ (by simpa using hq:w.cell? q=some (Sc.sl.enc cs[k])) hG
  refine ⟨fun x i w'=>w'=w∧∃j:Nat,i=(j:Int)∧j≤bs[k].length∧x=(Crc.feed (c^^^4294967295) ((bs.take k).flatten++bs[k].take j):Int),fun _ i _=>bs[k].length - i.toNat,⟨rfl,0,rfl,by omega,by simp⟩,?_⟩
  rintro x i w' ⟨rfl,j,rfl,hj,rfl⟩
  have hpre: ∀y∈(bs.take k).flatten++bs[k].take j,y<256:=fun y hy=>by
   rcases List.mem_append.1 hy with hy|hy
   ·obtain ⟨b,hb1,hb2⟩:=List.mem_flatten.1 hy
    exact hby b (List.mem_of_mem_take hb1) y hb2
   ·exact hby _ hmem y (List.mem_of_mem_take hy)
  have hfl:=Crc.mX _ _ hc1 hpre
  refine rdp (aa.dm (fun hlt2=> ?_) (fun hge2=> ?_))
  ·have hjl:j<bs[k].length:=by omega
   have hy:=hby _ hmem _ (List.getElem_mem hjl)
   refine rdp (an.rd (h.ah hck) (by omega) (by omega) fun q hi hq=> ?_)
   refine Ld.sc (s:= .int .u8) (bs[k][j]:Int) (by simpa [vB] using hq) ?_
   refine JN hfl hy ?_
   rw [ae (by omega)]
   refine ⟨⟨rfl,j+1,rfl,by omega,?_⟩,by first|omega|(dsimp only;omega)⟩
   rw [List.take_add_one,List.getElem?_eq_getElem hjl,←List.append_assoc,Crc.uh ((bs.take k).flatten++bs[k].take j)];rfl
  ·have hjl:j=bs[k].length:=by omega
   subst hjl
   rw [ae (by omega),List.take_length]
   exact ⟨⟨rfl,k+1,rfl,by omega,by rw [yu hkb,hgd]⟩,by first|omega|(dsimp only;omega)⟩
 ·have hkl:k=bs.length:=by omega
  subst hkl
  rw [List.take_length]
  have hfl:=Crc.mX _ _ hc1 hflat
  rw [LH hfl]
  exact hK
theorem DT {K:Int→World→Prop} {s:Sl} {cs:List Sl} {bs:List (List Nat)} (h:Hp E w F)
  (hs:ad F (aD 1 s (cs.map fun x=> .slice x.base x.len x.cap))) (hl:cs.length=bs.length) (hcl:cs.length≤bO) (hc: ∀i (h:i<cs.length),ad F (aD 1 cs[i] ((bs.getD i []).map vB)))
  (hby: ∀b∈bs,∀y∈b,y<256) (hbig: ∀b∈bs,b.length≤bO)
  (hK:K (Crc.cT bs.flatten:Int) w):Cl Tryz.prog [ar .u32] j0 ⟨[.slice s.base s.len s.cap]⟩ w K:=by
 refine HM.ok _ _ _ ?_
 exact Jy (c:=0) h (by decide) hs hl hcl hc hby hbig hK
theorem F7 {c:Nat} {K:Sl→World→Prop} (h:Hp E w F) (hc:c<4294967296) (hK: ∀s w',Hp E w' (al 1 s ((Hd.fN c).map vB)::F)→K s w'):Cl Tryz.prog [kS] lg ⟨[.int .u32 (c:Int)]⟩ w K:=by
 refine F1.ok _ _ _ ?_
 refine ⟨by decide,by decide,by decide,by decide,by decide,by decide,?_⟩
 have e1:u8 (u32 (Int.tdiv (c:Int) 16777216))=((c/16777216 % 256:Nat):Int):=by
  rw [show (16777216:Int)=((16777216:Nat):Int) from rfl,nQ,eP (by omega),pq];omega
 have e2:u8 (Int.tmod (u32 (Int.tdiv (c:Int) 65536)) 256)=((c/65536 % 256:Nat):Int):=by
  rw [show (65536:Int)=((65536:Nat):Int) from rfl,nQ,eP (by omega),show (256:Int)=((256:Nat):Int) from rfl,nY,dE (by omega)]
 have e3:u8 (Int.tmod (u32 (Int.tdiv (c:Int) 256)) 256)=((c/256 % 256:Nat):Int):=by
  rw [show (256:Int)=((256:Nat):Int) from rfl,nQ,eP (by omega),nY,dE (by omega)]
 have e4:u8 (Int.tmod (c:Int) 256)=((c % 256:Nat):Int):=by
  rw [show (256:Int)=((256:Nat):Int) from rfl,nY,dE (by omega)]
 rw [e1,e2,e3,e4]
 exact Nw.mk h fun b3 w h=>hK _ w (h.fz (n:=4) (sz:=1) rfl)
end
end Go.Proofs.YtgglghjnakclmaaGreat
namespace Go.Proofs.YtgglghjnakclmaaGreat
open Go Go.Vc Go.Srt Go.Inc Go.Hd Go.Crc
section
variable {E w:World} {F:List HP}
set_option maxRecDepth 20000
theorem wG {n:Nat} {K:Sl→Int→World→Prop} (h:Hp E w F) (hn:n≤65536) (hK: ∀s w',Hp E w' (OB s (fR n)::F)→K s 0 w'):Cl Tryz.prog [kS,kI] iU ⟨[.int .i64 (n:Int)]⟩ w K:=by
 refine EM.ok _ _ _ ?_
 refine aa.df (by omega) (aa.df (by omega) ⟨by decide,?_⟩)
 have e128: ∀m:Nat,Int.tmod (m:Int) 128=((m % 128:Nat):Int):=fun _=>rfl
 have d128: ∀m:Nat,Int.tdiv (m:Int) 128=((m/128:Nat):Int):=fun _=>rfl
 rw [e128,d128,dE (by omega),ae (by omega)]
 refine Nw.mk h fun b3 w h=>⟨by decide,?_⟩
 have h:=Hp.fz (n:=1) (sz:=1) h rfl
 refine ⟨fun x s w'=> ∃(m:Nat) (l:List Nat),x=(m:Int)∧m≤512∧l.length+m≤513∧tQ m++l=fR n∧Hp E w' (OB s l::F),fun x _ _=>x.toNat,⟨n/128,[n % 128],rfl,by omega,by simp;omega,rfl,h⟩,?_⟩
 rintro x s w ⟨m,l,rfl,hm5,hl,hv,h⟩
 refine aa.dm (fun hlt=> ?_) (fun hge=> ?_)
 ·have hm0:0<m:=by omega
  rw [e128,d128,ae (x:=128+((m % 128:Nat):Int)) (by omega),dE (by omega),ae (by omega),show 128+((m % 128:Nat):Int)=((128+m % 128:Nat):Int) by omega]
  refine ⟨by decide,Nw.mk h fun b12 w h=>IT h (by omega) fun s w h=>⟨by decide,?_⟩⟩
  refine ⟨⟨m/128,(128+m % 128)::l,rfl,by omega,by rw [List.length_cons];omega,?_,h⟩,by first|omega|(dsimp only;omega)⟩
  rw [←hv,xe hm0]
  simp
 ·have hm0:m=0:=by omega
  subst hm0
  rw [qo,List.nil_append] at hv
  rw [hv] at h
  exact hK s w h
theorem Gd {n:Int} {M P u:Nat} {K:Sl→Int→World→Prop} (h:Hp E w F) (hM:M≤65536) (hP:P≤65536) (hu:u<4294967296)
  (hgood:1≤n→n≤65536→1≤M→(M:Int)≤n→1≤P→P≤M→∀s w',Hp E w' (OB s (kO M P u)::F)→K s 0 w')
  (hbad: ¬(1≤n∧n≤65536∧1≤M∧(M:Int)≤n∧1≤P∧P≤M)→∀w',Hp E w' F→K ⟨none,0,0⟩ 2 w'):
  Cl Tryz.prog [kS,kI] jD ⟨[.int .i64 n,.agg ⟨[.int .i64 (M:Int),.int .i64 (P:Int),.int .u32 (u:Int)]⟩]⟩ w K:=by
 refine wX.ok _ ((M:Int),(P:Int),(u:Int),()) _ _ ?_
 (try simp only [aq,aj,ak,Nat.zero_add,Nat.add_zero,Nat.reduceAdd,Bool.not_true,Bool.not_false,az,ay,Option.isNone])
 refine Nw.mk h fun b4 w h=> ?_
 refine aa.dm (fun h1=>hbad (by omega) _ h.tl) (fun h1=>aa.dm (fun h2=>hbad (by omega) _ h.tl) (fun h2=>Ld.xb h rfl (aa.dm (fun h3=>hbad (by omega) _ h.tl) (fun h3=>Ld.xb h rfl (aa.dm (fun h4=>hbad (by omega) _ h.tl) (fun h4=>Ld.xb h rfl (aa.dm (fun h5=>hbad (by omega) _ h.tl) (fun h5=>Ld.xb h rfl (Ld.xb h rfl (aa.dm (fun h6=>hbad (by omega) _ h.tl) (fun h6=> ?_)))))))))))
 refine Ld.xb h rfl (wG h hM fun s1 w h=>Ld.xb (b:=b4) h rfl (wG h hP fun s2 w h=>Nw.mk h fun b21 w h=> ?_))
 have l1:=cP hM
 have l2:=cP hP
 refine IT (h.at 2).p1 (by omega) fun s3 w h=>oV h ad.own (by rw [List.length_cons];omega) (by omega) fun s4 w h=>Ld.xb (b:=b4) h rfl (F7 h hu fun s5 w h=> ?_)
 refine oV (h.at 1) ad.own (by rw [List.length_append,List.length_cons];omega) (by simp [fN]) fun s6 w h=>hgood (by omega) (by omega) (by omega) (by omega) (by omega) (by omega) s6 w ?_
 have e:1::fR M++fR P++fN u=kO M P u:=by simp [kO]
 rw [e] at h
 exact h.dv
end
end Go.Proofs.YtgglghjnakclmaaGreat
namespace Go.Proofs.YtgglghjnakclmaaGreat
open Go Go.Vc
set_option maxRecDepth 100000
theorem G1.ok (a:Sl) (R:(Array Value)→Int→World→Prop) w (h:
 Nw 215 ⟨List.replicate 258 (ni 0)⟩ w fun c b=>
 rl Pg 215 [] fun d=>
 Cl Pg [(.arr 258),kI] oY ⟨[(.agg d),(ag a)]⟩ b fun f (g:Int) e=>
 ax 258 ⟨c,0,none⟩ f e fun h=>
 Ld (.arr 258) ⟨c,0,none⟩ h fun i=>
 R i g h):Cl Pg [(.arr 258),kI] qy ⟨[(ag a)]⟩ w R:=co Tryz.f180 [] h
theorem E6.ok (a:(Array Value)) (b:Sl) (R:(Array Value)→Int→World→Prop) w (h:
 Nw 215 a w fun d c=>
 Nw 215 ⟨List.replicate 258 (ni 0)⟩ c fun f e=>
 Ld (.arr 258) ⟨d,0,none⟩ e fun g=>
 Cl Pg [kB] jh ⟨[(.agg g)]⟩ e fun (i:Bool) h=>
 aa (!i)
 (Ld (.arr 258) ⟨d,0,none⟩ h fun j=>
 ax 258 ⟨f,0,none⟩ j h fun k=>
 Ld (.arr 258) ⟨f,0,none⟩ k fun l=>
 R l 2 k)
 (Ld (.arr 258) ⟨d,0,none⟩ h fun m=>
 Nw 215 ⟨List.replicate 258 (ni 0)⟩ h fun o n=>
 ax 258 ⟨o,0,none⟩ m n fun p=>
 c8 0 p fun q r (s:Int) t=>
 aa (decide (s<(b.len:Int)))
 (an b s 1 fun u=>
 Ld kI u t fun (v:Int)=>
 aa (decide (v<0))
 (Ld (.arr 258) ⟨d,0,none⟩ t fun x=>
 ax 258 ⟨f,0,none⟩ x t fun y=>
 Ld (.arr 258) ⟨f,0,none⟩ y fun z=>
 R z 2 y)
 (an b s 1 fun a1=>
 Ld kI a1 t fun (b1:Int)=>
 aa (decide (b1≥258))
 (Ld (.arr 258) ⟨d,0,none⟩ t fun c1=>
 ax 258 ⟨f,0,none⟩ c1 t fun d1=>
 Ld (.arr 258) ⟨f,0,none⟩ d1 fun e1=>
 R e1 2 d1)
 (an b s 1 fun f1=>
 Ld kI f1 t fun (g1:Int)=>
 aw ⟨o,0,none⟩ 258 g1 1 fun h1=>
 Ld kI h1 t fun (i1:Int)=>
 aw ⟨o,0,none⟩ 258 g1 1 fun j1=>
 St j1 (ni (i64 (i1+1))) t fun k1=>
 q (i64 (s+1)) k1∧r (i64 (s+1)) k1<r s t)))
 (Ld (.arr 258) ⟨o,0,none⟩ t fun l1=>
 Cl Pg [kB] jh ⟨[(.agg l1)]⟩ t fun (n1:Bool) m1=>
 aa (!n1)
 (Ld (.arr 258) ⟨d,0,none⟩ m1 fun o1=>
 ax 258 ⟨f,0,none⟩ o1 m1 fun p1=>
 Ld (.arr 258) ⟨f,0,none⟩ p1 fun q1=>
 R q1 2 p1)
 (Ld (.arr 258) ⟨o,0,none⟩ m1 fun r1=>
 ax 258 ⟨f,0,none⟩ r1 m1 fun s1=>
 Ld (.arr 258) ⟨f,0,none⟩ s1 fun t1=>
 R t1 0 s1)))):Cl Pg [(.arr 258),kI] oY ⟨[(.agg a),(ag b)]⟩ w R:=co Tryz.f241 [(12,[(7,kI)])] h
theorem BP.ok (a:(Array Value)) (R:Bool→World→Prop) w (h:
 Nw 215 a w fun c b=>
 c8 0 b fun d e (f:Int) g=>
 aa (decide (f<258))
 (aw ⟨c,0,none⟩ 258 f 1 fun h=>
 Ld kI h g fun (i:Int)=>
 aa (decide (i<0))
 (R false g)
 (aw ⟨c,0,none⟩ 258 f 1 fun j=>
 Ld kI j g fun (k:Int)=>
 aa (decide (k>2147483647))
 (R false g)
 (d (i64 (f+1)) g∧e (i64 (f+1)) g<e f g)))
 (R true g)):Cl Pg [kB] jh ⟨[(.agg a)]⟩ w R:=co Tryz.f293 [(5,[(3,kI)])] h
end Go.Proofs.YtgglghjnakclmaaGreat
set_option maxRecDepth 20000
namespace Go.Proofs.YtgglghjnakclmaaGreat
open Go Go.Vc Go.Hs
section
variable {E w:World} {F:List HP}
set_option maxRecDepth 20000 in
theorem yE {t:List Int} {K:Bool→World→Prop} (h:Hp E w F) (ht:t.length=258) (hK: ∀w',Hp E w' F→K (aR t) w'):Cl Tryz.prog [kB] jh ⟨[.agg (Vc.aT t)]⟩ w K:=by
 refine BP.ok _ _ _ ?_
 refine Nw.mk h fun b3 w1 h1=> ?_
 refine ⟨fun i w'=> ∃k:Nat,i=(k:Int)∧k≤258∧(∀j,j<k→0≤t.getD j 0∧t.getD j 0≤2147483647)∧Hp E w' (af b3 (.cells (Vc.aT t) 215 (0,0))::F),fun i _=>258 - i.toNat,⟨0,rfl,by omega,fun j hj=>by omega,h1⟩,?_⟩
 rintro i w2 ⟨k,rfl,hk,hg,hh⟩
 have bad: ∀hlt:k<258,¬(0≤t.getD k 0∧t.getD k 0≤2147483647)→K false w2:=fun hlt hb=>by
  have:=hK w2 hh.drop
  rwa [zT (by omega) hb] at this
 refine aa.mk (fun hlt=> ?_) (fun hge=> ?_)
 ·have hlt:k<258:=by have:=of_decide_eq_true hlt;omega
  refine aw.aT hh rfl ht hlt (aa.mk (fun h0=>bad hlt (by have:=of_decide_eq_true h0;omega)) (fun h0=> ?_))
  refine aw.aT hh rfl ht hlt (aa.mk (fun h9=>bad hlt (by have:=of_decide_eq_true h9;omega)) (fun h9=> ?_))
  have h0:=of_decide_eq_false h0
  have h9:=of_decide_eq_false h9
  rw [ae (by omega)]
  refine ⟨⟨k+1,by omega,by omega,fun j hj=> ?_,hh⟩,by dsimp only;omega⟩
  by_cases e:j=k
  ·subst e;omega
  ·exact hg j (by omega)
 ·have hge:k=258:=by have:=of_decide_eq_false hge;omega
  subst hge
  have:=hK w2 hh.drop
  rwa [eU.2 fun i hi=>hg i (by omega)] at this
set_option maxRecDepth 20000 in
theorem Ja {t zs:List Int} {s:Sl} {K:Array Value→Int→World→Prop} (h:Hp E w F) (ht:t.length=258) (hs:ad F (aD 1 s (zs.map vI))) (hn:zs.length≤bO)
  (hK: ∀w',Hp E w' F→K (Vc.aT ((cM t zs).getD t)) (IB (cM t zs)) w'):Cl Tryz.prog [.arr 258,kI] oY ⟨[.agg (Vc.aT t),.slice s.base s.len s.cap]⟩ w K:=by
 refine E6.ok _ _ _ _ ?_
 rw [Vc.tf]
 have hz:(Vc.aT (List.replicate 258 0)).size=258:=by rw [Vc.bE];exact List.length_replicate
 have hT: ∀{u:List Int},u.length=258→(Vc.aT u).size=258:=fun hu=>by rw [Vc.bE,hu]
 have hsl:=(h.ah hs).1
 simp only [List.length_map,Nat.mul_one] at hsl
 rw [aC] at hn
 have hKn:cM t zs=none→∀w',Hp E w' F→K (Vc.aT t) 2 w':=fun e w' h'=>by have:=hK w' h';rwa [e] at this
 refine Nw.mk h fun b4 w1 h1=>Nw.mk h1 fun b6 w2 h2=>Ld.arr h2.p1 (hT ht) (yE h2 ht fun w3 h3=> ?_)
 refine aa.mk (fun hv=> ?_) (fun hv=> ?_)
 ·have hv:aR t=false:=by simpa using hv
  exact Ld.arr h3.p1 (hT ht) (ax.aH h3 hz (hT ht) Vc.cJ fun w4 h4=>Ld.arr h4 (hT ht) (hKn (r8 hv) w4 h4.drop.drop))
 have hv:aR t=true:=by simpa using hv
 refine Ld.arr h3.p1 (hT ht) (Nw.mk h3 fun b15 w4 h4=>ax.aH h4 hz (hT ht) Vc.cJ fun w5 h5=> ?_)
 refine ⟨fun i w'=> ∃k:Nat,i=(k:Int)∧k≤zs.length∧(zs.take k).all j9=true∧Hp E w' (af b15 (.cells (Vc.aT (dQ t (zs.take k))) 215 (0,0))::af b6 (.cells (Vc.aT (List.replicate 258 0)) 215 (0,0))::af b4 (.cells (Vc.aT t) 215 (0,0))::F),fun i _=>zs.length - i.toNat,⟨0,rfl,by omega,rfl,h5⟩,?_⟩
 rintro i w6 ⟨k,rfl,hk,hg,hh⟩
 have bad:cM t zs=none→Ld (.arr 258) ⟨b4,0,none⟩ w6 fun x30=>ax 258 ⟨b6,0,none⟩ x30 w6 fun w31=>Ld (.arr 258) ⟨b6,0,none⟩ w31 fun res=>K res 2 w31:=fun e=>
  Ld.arr hh.p2 (hT ht) (ax.aH hh.p1 hz (hT ht) Vc.cJ fun w7 h7=>Ld.arr h7 (hT ht) (hKn e w7 h7.drop.drop.drop))
 have hcl:(dQ t (zs.take k)).length=258:=by rw [kZ,ht]
 have hSl:ad (af b15 (.cells (Vc.aT (dQ t (zs.take k))) 215 (0,0))::af b6 (.cells (Vc.aT (List.replicate 258 0)) 215 (0,0))::af b4 (.cells (Vc.aT t) 215 (0,0))::F) (aD 1 s (zs.map vI)):=ad.cons (ad.cons (ad.cons hs))
 refine aa.mk (fun hlt=> ?_) (fun hge=> ?_)
 ·have hlt:k<zs.length:=by have:=of_decide_eq_true hlt;omega
  refine an.nI (hh.ah hSl) rfl hlt (aa.mk (fun hb=>bad (tZ hlt ?_)) (fun h0=> ?_))
  ·have:=of_decide_eq_true hb
   rw [Bool.eq_false_iff,ne_eq,iw];omega
  refine an.nI (hh.ah hSl) rfl hlt (aa.mk (fun hb=>bad (tZ hlt ?_)) (fun h1=> ?_))
  ·have:=of_decide_eq_true hb
   rw [Bool.eq_false_iff,ne_eq,iw];omega
  have h0:=of_decide_eq_false h0
  have h1:=of_decide_eq_false h1
  have hb:j9 (zs.getD k 0)=true:=iw.2 (by omega)
  have hvz:=eU.1 hv (zs.getD k 0).toNat (by omega)
  have hc:=pT hg ht (zs.getD k 0).toNat
  have hcc:=List.count_le_length (a:=(((zs.getD k 0).toNat:Nat):Int)) (l:=zs.take k)
  rw [List.length_take] at hcc
  refine an.nI (hh.ah hSl) rfl hlt (aw.aT hh (j:=(zs.getD k 0).toNat) (by omega) hcl (by omega) ?_)
  rw [ae (x:=(dQ t (zs.take k)).getD (zs.getD k 0).toNat 0+1) (by omega),ae (by omega)]
  refine aw.IP hh (j:=(zs.getD k 0).toNat) (by omega) hcl (by omega) fun w7 h7=>⟨⟨k+1,by omega,by omega,?_,?_⟩,by dsimp only;omega⟩
  ·rw [kg hlt,List.all_append,hg,List.all_cons,hb];rfl
  ·rw [kg hlt,ui]
   exact h7
 ·have hge:k=zs.length:=by have:=of_decide_eq_false hge;omega
  subst hge
  rw [List.take_length] at hg hh hcl
  refine Ld.arr hh (hT hcl) (yE hh hcl fun w7 h7=>aa.mk (fun hb=> ?_) (fun hb=> ?_))
  ·have hb:aR (dQ t zs)=false:=by simpa using hb
   exact Ld.arr h7.p2 (hT ht) (ax.aH h7.p1 hz (hT ht) Vc.cJ fun w8 h8=>Ld.arr h8 (hT ht) (hKn (GM hb) w8 h8.drop.drop.drop))
  ·have hb:aR (dQ t zs)=true:=by simpa using hb
   refine Ld.arr h7 (hT hcl) (ax.aH h7.p1 hz (hT hcl) Vc.cJ fun w8 h8=>Ld.arr h8 (hT hcl) ?_)
   have:=hK w8 h8.drop.drop.drop
   rwa [qU hv hg hb] at this
theorem H5 (zs:List Int):((cM cn zs).getD cn).length=258:=by
 cases ha:cM cn zs with
 |none=>exact gn
 |some u=>
  obtain ⟨_,_,rfl,_⟩:=yI ha
  show (dQ cn zs).length=258
  rw [kZ,gn]
set_option maxRecDepth 20000 in
theorem Ko {zs:List Int} {s:Sl} {K:Array Value→Int→World→Prop} (h:Hp E w F) (hs:ad F (aD 1 s (zs.map vI))) (hn:zs.length≤bO)
  (hK: ∀w',Hp E w' F→K (Vc.aT ((cM cn zs).getD cn)) (IB (cM cn zs)) w'):Cl Tryz.prog [.arr 258,kI] qy ⟨[.slice s.base s.len s.cap]⟩ w K:=by
 refine G1.ok _ _ _ ?_
 rw [Vc.tf]
 have hl:=H5 zs
 refine Nw.mk h fun b3 w1 h1=>AX (Ja h1 gn (ad.cons hs) hn fun w2 h2=>ax.aH h2 (by rw [Vc.bE];exact List.length_replicate) (by rw [Vc.bE,hl]) Vc.cJ fun w3 h3=>Ld.arr h3 (by rw [Vc.bE,hl]) (hK w3 h3.drop))
end
end Go.Proofs.YtgglghjnakclmaaGreat
namespace Go.Proofs.YtgglghjnakclmaaGreat
open Go Go.Vc
set_option maxRecDepth 100000
theorem Cg.ok (a:(Array Value)) (R:(Array Value)→Int→World→Prop) w (h:
 Nw 104 a w fun c b=>
 Nw 237 ⟨List.replicate 258 (.int .u32 0)⟩ b fun e d=>
 Nw 237 ⟨List.replicate 258 (.int .u32 0)⟩ d fun g f=>
 Ld (.arr 258) ⟨c,0,none⟩ f fun h=>
 Cl Pg [kB] ji ⟨[(.agg h)]⟩ f fun (j:Bool) i=>
 aa (!j)
 (Ld (.arr 258) ⟨g,0,none⟩ i fun k=>
 ax 258 ⟨e,0,none⟩ k i fun l=>
 Ld (.arr 258) ⟨e,0,none⟩ l fun m=>
 R m 2 l)
 (Ld (.arr 258) ⟨c,0,none⟩ i fun n=>
 Cl Pg [kS] l5 ⟨[(.agg n)]⟩ i fun (p:Sl) o=>
 c8 1 o fun q r (s:Int) t=>
 aa (decide (s<(p.len:Int)))
 (an p (i64 (s - 1)) 1 fun u=>
 Ld kI u t fun (v:Int)=>
 aw ⟨g,0,none⟩ 258 v 1 fun x=>
 Ld (ar .u32) x t fun (y:Int)=>
 an p (i64 (s - 1)) 1 fun z=>
 Ld kI z t fun (a1:Int)=>
 aw ⟨c,0,none⟩ 258 a1 1 fun b1=>
 Ld (ar .u8) b1 t fun (c1:Int)=>
 bq (u32 (y+1)) c1 t fun d1 e1 (f1:Int) (g1:Int) h1=>
 an p s 1 fun i1=>
 Ld kI i1 h1 fun (j1:Int)=>
 aw ⟨c,0,none⟩ 258 j1 1 fun k1=>
 Ld (ar .u8) k1 h1 fun (l1:Int)=>
 aa (decide (g1<l1))
 (d1 (u32 ((2:Int)*f1)) (u8 (g1+1)) h1∧e1 (u32 ((2:Int)*f1)) (u8 (g1+1)) h1<e1 f1 g1 h1)
 (an p s 1 fun m1=>
 Ld kI m1 h1 fun (n1:Int)=>
 aw ⟨g,0,none⟩ 258 n1 1 fun o1=>
 St o1 (.int .u32 f1) h1 fun p1=>
 q (i64 (s+1)) p1∧r (i64 (s+1)) p1<r s t))
 (Ld (.arr 258) ⟨g,0,none⟩ t fun q1=>
 ax 258 ⟨e,0,none⟩ q1 t fun r1=>
 Ld (.arr 258) ⟨e,0,none⟩ r1 fun s1=>
 R s1 0 r1))):Cl Pg [(.arr 258),kI] ml ⟨[(.agg a)]⟩ w R:=co Tryz.f159 [(14,[(6,kI)]),(24,[(7,(ar .u32)),(8,(ar .u8))])] h
theorem B7.ok (a:(Array Value)) (R:Bool→World→Prop) w (h:
 Nw 104 a w fun c b=>
 Ld (.arr 258) ⟨c,0,none⟩ b fun d=>
 Cl Pg [kI] o9 ⟨[(.agg d)]⟩ b fun (f:Int) e=>
 R (decide (f≤32768)) e):Cl Pg [kB] ji ⟨[(.agg a)]⟩ w R:=co Tryz.f220 [] h
theorem BK.ok (a:(Array Value)) (R:Sl→World→Prop) w (h:
 Nw 104 a w fun c b=>
 bq (⟨none,0,0⟩:Sl) 1 b fun d e (f:Sl) (g:Int) h=>
 aa (decide (g≤15))
 (Ld (.arr 258) ⟨c,0,none⟩ h fun i=>
 Cl Pg [kB] ji ⟨[(.agg i)]⟩ h fun (k:Bool) j=>
 aa k
 (bq f 0 j fun l m (n:Sl) (o:Int) p=>
 aa (decide (o<258))
 (aw ⟨c,0,none⟩ 258 o 1 fun q=>
 Ld (ar .u8) q p fun (r:Int)=>
 aa ((i64 r)==g)
 (Nw 3 ⟨[(ni o)]⟩ p fun t s=>
 au Pg (Builtin.append_ #[142,142] 142 ⟨[(ag n),(ag (⟨some ⟨t,0,none⟩,1,1⟩:Sl))]⟩) kS s fun (v:Sl) u=>
 l v (i64 (o+1)) u∧m v (i64 (o+1)) u<m n o p)
 (l n (i64 (o+1)) p∧m n (i64 (o+1)) p<m n o p))
 (d n (i64 (g+1)) p∧e n (i64 (g+1)) p<e f g h))
 (R f j))
 (R f h)):Cl Pg [kS] l5 ⟨[(.agg a)]⟩ w R:=co Tryz.f221 [(7,[(3,kS),(4,kI)]),(14,[(3,kS),(5,kI)])] h
end Go.Proofs.YtgglghjnakclmaaGreat
set_option maxRecDepth 20000
namespace Go.Proofs.YtgglghjnakclmaaGreat
open Go Go.Vc Go.Srt
section
variable {E w:World} {F:List HP}
set_option maxRecDepth 20000 in
theorem Ll {l:List Nat} {K:Int→World→Prop} (h:Hp E w F) (hl:l.length=258) (hK: ∀(r:Nat) w',(r≤32768↔aN l≤32768)→(aN l≤32768→r=aN l)→Hp E w' F→K (r:Int) w'):
  Cl Tryz.prog [kI] o9 ⟨[.agg (ai .u8 l)]⟩ w K:=by
 refine Fg.ok _ _ _ ?_
 refine Nw.mk h fun b w1 h1=> ?_
 have hb:=sP l
 refine ⟨fun sm i w'=> ∃k:Nat,i=(k:Int)∧k≤258∧sm=(aN (l.take k):Int)∧Hp E w' (af b (.cells (ai .u8 l) 104 (0,0))::F),fun _ i _=>258 - i.toNat,⟨0,rfl,by omega,by simp [aN],h1⟩,?_⟩
 intro sm i w' hI
 obtain ⟨k,hi,hk,hs,hh⟩:=hI
 subst hi;subst hs
 refine aa.mk (fun hlt=> ?_) (fun hge=> ?_)
 ·have hlt:k<258:=by have:=of_decide_eq_true hlt;omega
  have hkl:k<l.length:=by omega
  have hx:(ai .u8 l)[((k:Int)).toNat]? =some (Sc.enc (.int .u8) (l[k]:Int)):=by rw [Int.toNat_natCast];exact ez hkl
  have e:=lB hkl
  have ht:=oM (l:=l) (k:=k+1)
  refine aw.rd (s:= .int .u8) hh (by omega) (by omega) (l[k]:Int) hx (aa.mk (fun h15=> ?_) (fun h15=> ?_))
  ·have h15:=of_decide_eq_true h15
   have hw:wt l[k]=32769:=by unfold wt;rw [if_neg (by omega),if_pos (by omega)]
   exact hK 32769 w' (by omega) (by omega) hh.drop
  ·have h15:l[k]≤15:=by have:=of_decide_eq_false h15;omega
   refine aw.rd (s:= .int .u8) hh (by omega) (by omega) (l[k]:Int) hx (aa.mk (fun hp=> ?_) (fun hp=> ?_))
   ·have hp:0<l[k]:=by have:=of_decide_eq_true hp;omega
    have hw:wt l[k]=2^(15 - l[k]):=by unfold wt;rw [if_neg (by omega),if_neg (by omega)]
    have hp15:2^(15 - l[k])≤2^15:=Nat.pow_le_pow_right (by decide) (by omega)
    refine aw.rd (s:= .int .u8) hh (by omega) (by omega) (l[k]:Int) hx ?_
    have e1:u64 (i64 (15 - i64 (l[k]:Int)))=((15 - l[k]:Nat):Int):=by
     rw [ae (x:=(l[k]:Int)) (by omega),ae (by omega),sg (by omega)];omega
    have hmx:IntKind.max .i64=9223372036854775807:=rfl
    have e2:=k4 (k:= .i64) (a:=1) (b:=15 - l[k]) (by have:IntKind.bits .i64=64:=rfl;omega) (by rw [hmx];omega)
    rw [e1]
    rw [show (1:Int)=((1:Nat):Int) from rfl,e2,Nat.one_mul]
    refine ⟨by omega,?_⟩
    rw [hw] at e
    rw [ae (x:=(aN (l.take k):Int)+((2^(15 - l[k]):Nat):Int)) (by omega),ae (by omega)]
    exact ⟨⟨k+1,rfl,by omega,by rw [e];rfl,hh⟩,by dsimp only;omega⟩
   ·have hp:l[k]=0:=by have:=of_decide_eq_false hp;omega
    have hw:wt l[k]=0:=by unfold wt;rw [if_pos hp]
    rw [ae (by omega)]
    exact ⟨⟨k+1,rfl,by omega,by rw [e,hw];rfl,hh⟩,by dsimp only;omega⟩
 ·have hge:k=258:=by have:=of_decide_eq_false hge;omega
  subst hge
  rw [←hl,List.take_length]
  exact hK _ _ Iff.rfl (fun _=>rfl) hh.drop
end
end Go.Proofs.YtgglghjnakclmaaGreat
set_option maxRecDepth 20000
namespace Go.Srt
def fF (l:List Nat) (N:Nat):List Nat:=(List.range N).flatMap fun n=>(List.range 258).filter fun s=>l.getD s 0==n+1
theorem zG {l:List Nat} {N s:Nat}:s∈fF l N↔s<258∧0<l.getD s 0∧l.getD s 0≤N:=by
 unfold fF
 simp only [List.mem_flatMap,List.mem_range,List.mem_filter,beq_iff_eq]
 constructor
 ·rintro ⟨n,h1,h2,h3⟩;omega
 ·rintro ⟨h1,h2,h3⟩;exact ⟨l.getD s 0 - 1,by omega,h1,by omega⟩
theorem o8 (l:List Nat) (N:Nat):(fF l N).Pairwise fun a b=>l.getD a 0<l.getD b 0∨(l.getD a 0=l.getD b 0∧a<b):=by
 unfold fF
 rw [List.pairwise_flatMap]
 refine ⟨fun n _=> ?_,?_⟩
 ·have h:(List.range 258).Pairwise fun a b=>a<b:=List.pairwise_lt_range
  refine List.Pairwise.imp_of_mem ?_ (h.filter _)
  intro a b ha hb hab
  have ha:=(List.mem_filter.1 ha).2
  have hb:=(List.mem_filter.1 hb).2
  rw [beq_iff_eq] at ha hb
  omega
 ·refine List.pairwise_lt_range.imp ?_
  intro m n hmn a ha b hb
  have ha:=(List.mem_filter.1 ha).2
  have hb:=(List.mem_filter.1 hb).2
  rw [beq_iff_eq] at ha hb
  omega
theorem HX {l:List Nat} (hl:l.length=258) (hv:aN l≤32768):br l (fF l 15):=by
 refine ⟨?_,o8 l 15⟩
 have n1:(fF l 15).Nodup:=(o8 l 15).imp fun h=>by rintro rfl;omega
 have n2:(used l).Nodup:=(List.nodup_range).filter _
 rw [List.perm_ext_iff_of_nodup n1 n2]
 intro s
 rw [zG,dK,hl]
 have:=fY hv s
 omega
theorem Fi (l:List Nat) (N:Nat):fF l (N+1)=fF l N++(List.range 258).filter fun s=>l.getD s 0==N+1:=by
 unfold fF
 rw [List.range_succ (n:=N),List.flatMap_append]
 simp
end Go.Srt
namespace Go.Proofs.YtgglghjnakclmaaGreat
open Go Go.Vc Go.Srt Go.aS
section
variable {E w:World} {F:List HP}
theorem xZ {l:List Nat} {K:Bool→World→Prop} (h:Hp E w F) (hl:l.length=258) (hK: ∀w',Hp E w' F→K (decide (aN l≤32768)) w'):Cl Tryz.prog [kB] ji ⟨[.agg (ai .u8 l)]⟩ w K:=by
 refine B7.ok _ _ _ ?_
 refine Nw.mk h fun b w1 h1=>Ld.arr h1 (by rw [av,hl]) (Ll h1 hl fun r w2 hr _ h2=> ?_)
 have:decide ((r:Int)≤32768)=decide (aN l≤32768):=by rw [Bool.eq_iff_iff,decide_eq_true_eq,decide_eq_true_eq];omega
 rw [this]
 exact hK _ h2.drop
set_option maxRecDepth 20000 in
theorem FI {l:List Nat} {K:Sl→World→Prop} (h:Hp E w F) (hl:l.length=258) (h8: ∀x∈l,x≤255) (hv:aN l≤32768) (hK: ∀ys s w',br l ys→Hp E w' (al 1 s ((ints ys).map vI)::F)→K s w'):Cl Tryz.prog [kS] l5 ⟨[.agg (ai .u8 l)]⟩ w K:=by
 refine BK.ok _ _ _ ?_
 have hlen: ∀N,(fF l N).length≤258:=fun N=>by
  have h1:(fF l N).Nodup:=(o8 l N).imp fun h=>by rintro rfl;omega
  have h2:fF l N⊆List.range 258:=fun s hs=>by have:=(zG.1 hs).1;simpa using this
  have:=h1.length_le_of_subset h2
  simpa using this
 refine Nw.mk h fun b w1 h1=> ?_
 refine ⟨fun o n w'=> ∃N:Nat,n=(N:Int)+1∧N≤15∧Hp E w' (al 1 o ((ints (fF l N)).map vI)::af b (.cells (ai .u8 l) 104 (0,0))::F),fun _ n _=>20 - n.toNat,⟨0,rfl,by omega,h1.a9 1⟩,?_⟩
 rintro o n w' ⟨N,rfl,hN,hh⟩
 refine aa.mk (fun hlt=> ?_) (fun hge=> ?_)
 ·have hlt:N<15:=by have:=of_decide_eq_true hlt;omega
  refine Ld.arr hh.p1 (by rw [av,hl]) (xZ hh hl fun w2 h2=>aa.t (decide_eq_true hv) ?_)
  refine ⟨fun o s w'=> ∃k:Nat,s=(k:Int)∧k≤258∧Hp E w' (al 1 o ((ints (fF l N++(List.range k).filter fun s=>l.getD s 0==N+1)).map vI)::af b (.cells (ai .u8 l) 104 (0,0))::F),fun _ s _=>258 - s.toNat,⟨0,rfl,by omega,by simpa using h2⟩,?_⟩
  rintro o2 s w3 ⟨k,rfl,hk,h3⟩
  refine aa.mk (fun hlt2=> ?_) (fun hge2=> ?_)
  ·have hlt2:k<258:=by have:=of_decide_eq_true hlt2;omega
   have hg:l.getD k 0≤255:=by rw [cI (by omega)];exact h8 _ (List.getElem_mem _)
   have hrs:(List.range (k+1)).filter (fun s=>l.getD s 0==N+1)=(List.range k).filter (fun s=>l.getD s 0==N+1)++if l.getD k 0=N+1 then [k] else []:=by
    rw [List.range_succ,List.filter_append]
    congr 1
    by_cases e:l.getD k 0=N+1
    ·rw [if_pos e,List.filter_cons_of_pos (by rw [beq_iff_eq];exact e)];rfl
    ·rw [if_neg e,List.filter_cons_of_neg (by rw [beq_iff_eq];exact e)];rfl
   refine aw.rd (s:= .int .u8) h3.p1 (by omega) (by omega) (l.getD k 0:Int) (kR (by omega)) ?_
   rw [ae (x:=(l.getD k 0:Int)) (by omega),ae (x:=(k:Int)+1) (by omega)]
   refine aa.mk (fun heq=> ?_) (fun hne=> ?_)
   ·have heq:l.getD k 0=N+1:=by rw [beq_iff_eq] at heq;omega
    rw [if_pos heq] at hrs
    have hol:=h3.aV
    have hl1:=hlen N
    have hl2:=List.length_filter_le (fun s=>l.getD s 0==N+1) (List.range k)
    rw [List.length_range] at hl2
    rw [List.length_map,ints,List.length_map,List.length_append,Nat.mul_one] at hol
    refine Nw.mk h3 fun b20 w4 h4=>aK (ys:= [vI (k:Int)]) (n:=1) eM (by decide) (.inl ⟨3,by kernel_rfl⟩) h4.p1 (.inl ⟨some ⟨b20,0,none⟩,1,1,rfl,rfl,h4.ah (ad.aH rfl rfl)⟩) rfl mL (by omega) (by omega) fun s' w5 h5 hs'=>⟨⟨k+1,rfl,by omega,?_⟩,by dsimp only;omega⟩
    rw [hrs,←List.append_assoc,qM,List.map_append]
    exact h5.p1.drop
   ·have hne:l.getD k 0≠N+1:=by have:=beq_eq_false_iff_ne.1 hne;omega
    rw [if_neg hne,List.append_nil] at hrs
    exact ⟨⟨k+1,rfl,by omega,by rw [hrs];exact h3⟩,by dsimp only;omega⟩
  ·have hge2:k=258:=by have:=of_decide_eq_false hge2;omega
   subst hge2
   rw [ae (by omega)]
   rw [←Fi] at h3
   exact ⟨⟨N+1,by omega,by omega,h3⟩,by dsimp only;omega⟩
 ·have hge:N=15:=by have:=of_decide_eq_false hge;omega
  subst hge
  exact hK _ _ _ (HX hl hv) hh.p1.drop
set_option maxRecDepth 20000 in
theorem Ej {l:List Nat} {K:Array Value→Int→World→Prop} (h:Hp E w F) (hl:l.length=258) (h8: ∀x∈l,x≤255) (hK1: ¬aN l≤32768→∀w',Hp E w' F→K (ai .u32 (List.replicate 258 0)) 2 w')
  (hK2:aN l≤32768→∀ys w',br l ys→Hp E w' F→K (ai .u32 (bk l ys ys.length)) 0 w'):Cl Tryz.prog [.arr 258,kI] ml ⟨[.agg (ai .u8 l)]⟩ w K:=by
 refine Cg.ok _ _ _ ?_
 rw [jP]
 have hz:(ai .u32 (List.replicate 258 0)).size=258:=by rw [av];exact List.length_replicate
 refine Nw.mk h fun b3 w1 h1=>Nw.mk h1 fun b5 w2 h2=>Nw.mk h2 fun b7 w3 h3=>Ld.arr h3.p2 (by rw [av,hl]) (xZ h3 hl fun w4 h4=>aa.mk (fun hv=> ?_) (fun hv=> ?_))
 ·have hv: ¬aN l≤32768:=by simpa using hv
  exact Ld.arr h4 hz (ax.aH h4.p1 hz hz cd fun w5 h5=>Ld.arr h5 hz (hK1 hv w5 h5.drop.drop.drop))
 have hv:aN l≤32768:=by simpa using hv
 refine Ld.arr h4.p2 (by rw [av,hl]) (FI h4 hl h8 hv fun ys so w5 hys h5=> ?_)
 have hpl:=h5.aV
 simp only [ints,List.length_map,Nat.mul_one] at hpl
 have hylen:=wz hl hys
 have sized: ∀i,(ai .u32 (bk l ys i)).size=258:=fun i=>by rw [av,cc]
 have hc1:0<ys.length→bk l ys 1=List.replicate 258 0:=fun h0=>by
  rw [bk,bk]
  have:cq l ys 0=0:=by unfold cq Srt.start;simp
  rw [this,List.set_replicate_self]
 have fin: ∀w' k,k=ys.length→Hp E w' (al 1 so ((ints ys).map vI)::af b7 (.cells (ai .u32 (bk l ys k)) 237 (0,0))::af b5 (.cells (ai .u32 (List.replicate 258 0)) 237 (0,0))::af b3 (.cells (ai .u8 l) 104 (0,0))::F)→
   Ld (.arr 258) (⟨b7,0,none⟩:Addr) w' fun (x42:(Array Value))=>ax 258 (⟨b5,0,none⟩:Addr) x42 w' fun (w_43:World)=>Ld (.arr 258) (⟨b5,0,none⟩:Addr) w_43 fun (res44:(Array Value))=>K res44 0 w_43:=by
  rintro w' k rfl h'
  exact Ld.arr h'.p1 (sized _) (ax.aH h'.p2 hz (sized _) cd fun w6 h6=>Ld.arr h6 (sized _) (hK2 hv ys w6 hys h6.drop.drop.drop.drop))
 refine ⟨fun i w'=> ∃k:Nat,i=(k:Int)∧1≤k∧(k≤ys.length∨(ys.length=0∧k=1))∧Hp E w' (al 1 so ((ints ys).map vI)::af b7 (.cells (ai .u32 (bk l ys (if ys.length=0 then 0 else k))) 237 (0,0))::af b5 (.cells (ai .u32 (List.replicate 258 0)) 237 (0,0))::af b3 (.cells (ai .u8 l) 104 (0,0))::F),
  fun i _=>ys.length+1 - i.toNat,⟨1,rfl,by omega,by omega,?_⟩,?_⟩
 ·by_cases e:ys.length=0
  ·rw [if_pos e];exact h5
  ·rw [if_neg e,hc1 (by omega)];exact h5
 rintro i w6 ⟨k,rfl,hk1,hk,hh⟩
 refine aa.mk (fun hlt=> ?_) (fun hge=>fin w6 (if ys.length=0 then 0 else k) ?_ hh)
 ·have hlt:k<ys.length:=by have:=of_decide_eq_true hlt;omega
  rw [if_neg (by omega)] at hh
  obtain ⟨j,rfl⟩: ∃j,k=j+1:=⟨k - 1,by omega⟩
  have hj:j<ys.length:=by omega
  have hin0:=py hl hys _ (List.getElem_mem hj)
  have hin1:=py hl hys _ (List.getElem_mem hlt)
  have h15a:=fY hv ys[j]
  have h15b:=fY hv ys[j+1]
  have hmono:=wY hys hlt (show j≤j+1 by omega)
  rw [ae (x:=((j+1:Nat):Int) - 1) (by omega),show ((j+1:Nat):Int) - 1=(j:Int) by omega]
  have rdo: ∀{w':World} {F':List HP} {m:Nat} {K:Int→Prop} (hm:m<ys.length),Hp E w' (al 1 so ((ints ys).map vI)::F')→K (ys[m]:Int)→an so (m:Int) 1 fun q=>Ld kI q w' K:=fun {w' F' m K} hm h' hK=>by
   refine an.rd (h'.ah ad.own) (by omega) (by omega) fun q hq hc=>Ld.sc (s:= .int .i64) (ys[m]:Int) (by rw [hc];simp [ints,vI,Sc.enc]) hK
  have hca:=qF hys (fun s hs=>(py hl hys s hs).1) (j+1) (by omega) j hj (by omega)
  have hcl:=rF hv hys hj
  have hp:2^l.getD ys[j] 0≤2^15:=Nat.pow_le_pow_right (by decide) h15a
  have hp2:(2:Nat)^15=32768:=by decide
  refine rdo hj hh (aw.rd (s:= .int .u32) hh.p1 (by omega) (by omega) ((bk l ys (j+1)).getD ys[j] 0:Int) (kR (by rw [cc];omega)) ?_)
  refine rdo hj hh (aw.rd (s:= .int .u8) hh.p3 (by omega) (by omega) (l.getD ys[j] 0:Int) (kR (by omega)) ?_)
  rw [hca,eP (by omega)]
  have hnew:(cq l ys j+1)*2^(l.getD ys[j+1] 0 - l.getD ys[j] 0)=cq l ys (j+1):=by
   have e1:=kh hys hj
   have e2:=kh hys hlt
   have e3:=mr (l:=l) hj
   refine Nat.eq_of_mul_eq_mul_right (u6 l ys[j+1]) ?_
   rw [e2,e3,←e1,Nat.mul_assoc]
   have:2^(l.getD ys[j+1] 0 - l.getD ys[j] 0)*sh l ys[j+1]=sh l ys[j]:=by
    unfold sh;rw [←Nat.pow_add];congr 1;omega
   rw [this,Nat.succ_mul]
  have hcl1:=rF hv hys hlt
  have hp1:2^l.getD ys[j+1] 0≤2^15:=Nat.pow_le_pow_right (by decide) h15b
  refine ⟨fun c kk w'=> ∃n:Nat,kk=((l.getD ys[j] 0+n:Nat):Int)∧l.getD ys[j] 0+n≤l.getD ys[j+1] 0∧c=(((cq l ys j+1)*2^n:Nat):Int)∧Hp E w' (al 1 so ((ints ys).map vI)::af b7 (.cells (ai .u32 (bk l ys (j+1))) 237 (0,0))::af b5 (.cells (ai .u32 (List.replicate 258 0)) 237 (0,0))::af b3 (.cells (ai .u8 l) 104 (0,0))::F),
   fun _ kk _=>16 - kk.toNat,⟨0,by omega,by omega,by simp,hh⟩,?_⟩
  rintro c kk w7 ⟨n,rfl,hn,rfl,h7⟩
  refine rdo hlt h7 (aw.rd (s:= .int .u8) h7.p3 (by omega) (by omega) (l.getD ys[j+1] 0:Int) (kR (by omega)) (aa.mk (fun hl2=> ?_) (fun hg2=> ?_)))
  ·have hl2:=of_decide_eq_true hl2
   have hle:(cq l ys j+1)*2^(n+1)≤cq l ys (j+1):=by
    rw [←hnew];exact Nat.mul_le_mul_left _ (Nat.pow_le_pow_right (by decide) (by omega))
   have hpw:(cq l ys j+1)*2^(n+1)=2*((cq l ys j+1)*2^n):=by rw [Nat.pow_succ,←Nat.mul_assoc,Nat.mul_comm]
   rw [eP (by omega),dE (by omega)]
   exact ⟨⟨n+1,by omega,by omega,by rw [hpw];omega,h7⟩,by dsimp only;omega⟩
  ·have hg2:=of_decide_eq_false hg2
   have hne:l.getD ys[j+1] 0 - l.getD ys[j] 0=n:=by omega
   rw [hne] at hnew
   rw [hnew]
   refine rdo hlt h7 (aw.wr h7.p1 (by omega) (by omega) (sized _) rfl fun w8 h8=> ?_)
   rw [Int.toNat_natCast,nq] at h8
   rw [ae (by omega)]
   refine ⟨⟨j+1+1,by omega,by omega,by omega,?_⟩,by dsimp only;omega⟩
   rw [if_neg (by omega)]
   have:bk l ys (j+1+1)=(bk l ys (j+1)).set ys[j+1] (cq l ys (j+1)):=by rw [bk,jS hlt]
   rw [this]
   exact h8.p1
 ·have:=of_decide_eq_false hge
  by_cases e:ys.length=0
  ·rw [if_pos e];omega
  ·rw [if_neg e];omega
end
end Go.Proofs.YtgglghjnakclmaaGreat
namespace Go.Proofs.YtgglghjnakclmaaGreat
open Go Go.Vc
set_option maxRecDepth 100000
theorem Dx.ok (a:(Array Value)) (b:Sl) (R:Sl→Bool→World→Prop) w (h:
 Nw 104 a w fun d c=>
 Ld (.arr 258) ⟨d,0,none⟩ c fun e=>
 Cl Pg [(.arr 258),kI] ml ⟨[(.agg e)]⟩ c fun g (h:Int) f=>
 Nw 237 ⟨List.replicate 258 (.int .u32 0)⟩ f fun j i=>
 ax 258 ⟨j,0,none⟩ g i fun k=>
 aa (h !=0)
 (R (⟨none,0,0⟩:Sl) false k)
 (bq (⟨none,0,0⟩:Sl) 0 k fun l m (n:Sl) (o:Int) p=>
 aa (decide (o<(b.len:Int)))
 (an b o 1 fun q=>
 Ld kI q p fun (r:Int)=>
 a7 (fun (v:World)=>
 aw ⟨d,0,none⟩ 258 r 1 fun x=>
 Ld (ar .u8) x v fun (y:Int)=>
 bq n (i64 ((i64 y) - 1)) v fun z a1 (b1:Sl) (c1:Int) d1=>
 aa (decide (c1≥0))
 (aw ⟨j,0,none⟩ 258 r 1 fun e1=>
 Ld (ar .u32) e1 d1 fun (f1:Int)=>
 0≤(u64 c1)∧
 Nw 3 ⟨[(ni (i64 (dc .u32 (aO .u32 f1 (u64 c1)) 1)))]⟩ d1 fun h1 g1=>
 au Pg (Builtin.append_ #[142,142] 142 ⟨[(ag b1),(ag (⟨some ⟨h1,0,none⟩,1,1⟩:Sl))]⟩) kS g1 fun (j1:Sl) i1=>
 z j1 (i64 (c1 - 1)) i1∧a1 j1 (i64 (c1 - 1)) i1<a1 b1 c1 d1)
 (l b1 (i64 (o+1)) d1∧m b1 (i64 (o+1)) d1<m n o p)) fun s=>
 aa (decide (r<0))
 (R (⟨none,0,0⟩:Sl) false p)
 (aa (decide (r≥258))
 (R (⟨none,0,0⟩:Sl) false p)
 (aw ⟨d,0,none⟩ 258 r 1 fun t=>
 Ld (ar .u8) t p fun (u:Int)=>
 aa (u==0)
 (R (⟨none,0,0⟩:Sl) false p)
 (s p))))
 (R n true p))):Cl Pg [kS,kB] nu ⟨[(.agg a),(ag b)]⟩ w R:=co Tryz.f128 [(14,[(8,kS),(9,kI)]),(21,[]),(28,[(8,kS),(11,kI)])] h
end Go.Proofs.YtgglghjnakclmaaGreat
set_option maxRecDepth 20000
namespace Go.Proofs.YtgglghjnakclmaaGreat
open Go Go.Vc Go.Srt Go.aS
section
variable {E w:World} {F:List HP}
set_option maxRecDepth 20000 in
theorem JI {l:List Nat} {s:Sl} {zs:List Int} {K:Sl→Bool→World→Prop} (h:Hp E w F) (hl:l.length=258) (h8: ∀x∈l,x≤255) (hs:ad F (aD 1 s (zs.map vI))) (hn:zs.length≤100000)
  (hK1: ¬(aN l≤32768∧jz l zs=true)→∀w',Hp E w' F→K ⟨none,0,0⟩ false w') (hK2:aN l≤32768→jz l zs=true→∀s' w',Hp E w' (al 1 s' ((ints (ic l zs)).map vI)::F)→K s' true w'):
  Cl Tryz.prog [kS,kB] nu ⟨[.agg (ai .u8 l),.slice s.base s.len s.cap]⟩ w K:=by
 refine Dx.ok _ _ _ _ ?_
 simp only [aq]
 rw [jP]
 have hsl:=(h.ah hs).1
 simp only [List.length_map,Nat.mul_one] at hsl
 refine Nw.mk h fun b4 w1 h1=>Ld.arr h1 (by rw [av,hl]) (Ej h1 hl h8 (fun hv w2 h2=> ?_) (fun hv ys w2 hys h2=> ?_))
 ·exact Nw.mk h2 fun b10 w3 h3=>ax.aH h3 (by rw [av];simp) (by rw [av];simp) cd fun w4 h4=>aa.t (by decide) (hK1 (fun hh=>hv hh.1) w4 h4.drop.drop)
 refine Nw.mk h2 fun b10 w3 h3=>ax.aH h3 (by rw [av];simp) (by rw [av,cc]) cd fun w4 h4=>aa.f (by decide) ?_
 refine ⟨fun o i w'=> ∃k:Nat,i=(k:Int)∧k≤zs.length∧jz l (zs.take k)=true∧Hp E w' (al 1 o ((ints (ic l (zs.take k))).map vI)::af b10 (.cells (ai .u32 (bk l ys ys.length)) 237 (0,0))::af b4 (.cells (ai .u8 l) 104 (0,0))::F),fun _ i _=>zs.length - i.toNat,⟨0,rfl,by omega,rfl,h4.a9 1⟩,?_⟩
 rintro o i w5 ⟨k,rfl,hk,hg,hh⟩
 refine aa.mk (fun hlt=> ?_) (fun hge=> ?_)
 ·have hlt:k<zs.length:=by have:=of_decide_eq_true hlt;omega
  have bad:gE l zs[k]=false→K ⟨none,0,0⟩ false w5:=fun hb=>hK1 (fun hh=>by rw [AH hlt hb] at hh;exact absurd hh.2 (by decide)) w5 hh.drop.drop.drop
  refine an.rd (hh.ah (ad.cons (ad.cons (ad.cons hs)))) (by omega) (by omega) fun q hq hc=>Ld.sc (s:= .int .i64) zs[k] (by rw [hc];simp [vI,Sc.enc]) ?_
  refine aa.mk (fun h0=>bad ?_) (fun h0=>aa.mk (fun h1=>bad ?_) (fun h1=> ?_))
  ·have:=of_decide_eq_true h0
   unfold gE;rw [decide_eq_false (show¬0≤zs[k] by omega)];rfl
  ·have:=of_decide_eq_true h1
   unfold gE;rw [decide_eq_false (show¬zs[k]<258 by omega)];simp
  have h0:=of_decide_eq_false h0
  have h1:=of_decide_eq_false h1
  obtain ⟨m,hm⟩: ∃m:Nat,zs[k]=(m:Int):=⟨zs[k].toNat,by omega⟩
  have hm2:zs[k].toNat=m:=by omega
  rw [hm]
  refine aw.rd (s:= .int .u8) hh.p2 (by omega) (by omega) (l.getD m 0:Int) (kR (by omega)) (aa.mk (fun hz=>bad ?_) (fun hz=> ?_))
  ·have:l.getD m 0=0:=by rw [beq_iff_eq] at hz;omega
   unfold gE;rw [hm2,this];simp
  have hz:0<l.getD m 0:=by have:=beq_eq_false_iff_ne.1 hz;omega
  have h15:=fY hv m
  have hle:=kQ hv (zs.take k)
  rw [List.length_take] at hle
  have hcl:=C1 hl hv (show m<258 by omega) hz
  have hp:2^l.getD m 0≤2^15:=Nat.pow_le_pow_right (by decide) h15
  have hp2:(2:Nat)^15=32768:=by decide
  refine aw.rd (s:= .int .u8) hh.p2 (by omega) (by omega) (l.getD m 0:Int) (kR (by omega)) ?_
  rw [ae (x:=(l.getD m 0:Int)) (by omega),ae (x:=(l.getD m 0:Int) - 1) (by omega),ae (x:=(k:Int)+1) (by omega)]
  have hel:=uv l m
  refine ⟨fun o2 kk w'=> ∃j:Nat,kk=(l.getD m 0:Int) - 1 - (j:Int)∧j≤l.getD m 0∧Hp E w' (al 1 o2 ((ints (ic l (zs.take k)++(pf l m).take j)).map vI)::af b10 (.cells (ai .u32 (bk l ys ys.length)) 237 (0,0))::af b4 (.cells (ai .u8 l) 104 (0,0))::F),fun _ kk _=>(kk+1).toNat,
   ⟨0,by omega,by omega,by simpa using hh⟩,?_⟩
  rintro o2 kk w6 ⟨j,rfl,hj,h6⟩
  refine aa.mk (fun hge2=> ?_) (fun hlt2=> ?_)
  ·have hj2:j<l.getD m 0:=by have:=of_decide_eq_true hge2;omega
   refine aw.rd (s:= .int .u32) h6.p1 (by omega) (by omega) ((bk l ys ys.length).getD m 0:Int) (kR (by rw [cc];omega)) ?_
   rw [vZ hl hv hys (by omega) hz,sg (by omega),show (l.getD m 0:Int) - 1 - (j:Int)=((l.getD m 0 - 1 - j:Nat):Int) by omega]
   have hd:=Nat.div_le_self (code l m) (2^(l.getD m 0 - 1 - j))
   have e1:dc .u32 (aO .u32 (code l m:Int) ((l.getD m 0 - 1 - j:Nat):Int)) 1=((code l m/2^(l.getD m 0 - 1 - j) % 2:Nat):Int):=by
    have hmx:IntKind.max .u32=4294967295:=rfl
    rw [cD (by have:IntKind.bits .u32=32:=rfl;omega),show (1:Int)=((1:Nat):Int) from rfl,jC (by omega) (by omega),Nat.and_one_is_mod]
   rw [e1,ae (x:=((code l m/2^(l.getD m 0 - 1 - j) % 2:Nat):Int)) (by omega)]
   refine ⟨by omega,?_⟩
   have hol:=h6.aV
   rw [List.length_map,ints,List.length_map,List.length_append,List.length_take,hel,Nat.mul_one] at hol
   refine Nw.mk h6 fun b33 w7 h7=>aK (ys:= [vI ((code l m/2^(l.getD m 0 - 1 - j) % 2:Nat):Int)]) (n:=1) eM (by decide) (.inl ⟨3,by kernel_rfl⟩) h7.p1 (.inl ⟨some ⟨b33,0,none⟩,1,1,rfl,rfl,h7.ah (ad.aH rfl rfl)⟩) rfl mL (by omega) (by omega) fun s' w8 h8 hs'=>⟨⟨j+1,by rw [ae (by omega)];omega,by omega,?_⟩,by dsimp only;rw [ae (by omega)];omega⟩
   have e2:(pf l m).take (j+1)=(pf l m).take j++ [code l m/2^(l.getD m 0 - 1 - j) % 2]:=by
    have hjl:j<(pf l m).length:=by omega
    rw [List.take_add_one,List.getElem?_eq_getElem hjl]
    have:=Bh (l.getD m 0) (code l m) j hj2
    rw [←this]
    show _=_++ [(pf l m).getD j 0]
    rw [cI hjl];rfl
   rw [e2,←List.append_assoc,qM,List.map_append]
   exact h8.p1.drop
  ·have hj2:j=l.getD m 0:=by have:=of_decide_eq_false hlt2;omega
   subst hj2
   rw [List.take_of_length_le (l:=pf l m) (by omega)] at h6
   refine ⟨⟨k+1,by omega,by omega,yq hlt hg (ox.2 ⟨by omega,by omega,by rw [hm2];exact hz⟩),?_⟩,by dsimp only;omega⟩
   rw [sn hlt,hm2]
   exact h6
 ·have hge:k=zs.length:=by have:=of_decide_eq_false hge;omega
  subst hge
  rw [List.take_length] at hg hh
  exact hK2 hv hg _ _ hh.p1.drop.p1.drop
end
end Go.Proofs.YtgglghjnakclmaaGreat
namespace Go.Proofs.YtgglghjnakclmaaGreat
open Go Go.Vc
set_option maxRecDepth 100000
theorem C6.ok (a:Sl) (R:Sl→Int→World→Prop) w (h:
 Cl Pg [kS] mc ⟨[(ag a)]⟩ w fun (c:Sl) b=>
 F2 (⟨none,0,0⟩:Sl) 0 0 b fun d e (f:Sl) (g:Int) (h:Int) i=>
 aa (decide (h<(c.len:Int)))
 (an c h 1 fun j=>
 Ld kI j i fun (k:Int)=>
 aa (k==0)
 (d f h (i64 (h+1)) i∧e f h (i64 (h+1)) i<e f g h i)
 (an c h 1 fun l=>
 Ld kI l i fun (m:Int)=>
 an a (i64 (m - 1)) 1 fun n=>
 Ld (ar .u8) n i fun (o:Int)=>
 Nw 5 ⟨[(.int .u8 o)]⟩ i fun q p=>
 au Pg (Builtin.append_ #[26,26] 26 ⟨[(ag f),(ag (⟨some ⟨q,0,none⟩,1,1⟩:Sl))]⟩) kS p fun (s:Sl) r=>
 d s g (i64 (h+1)) r∧e s g (i64 (h+1)) r<e f g h i))
 (R f g i)):Cl Pg [kS,kI] nX ⟨[(ag a)]⟩ w R:=co Tryz.f81 [(11,[(4,kS),(5,kI),(7,kI)])] h
theorem zV.ok (a:Sl) (R:Sl→World→Prop) w (h:
 bq (⟨none,0,0⟩:Sl) (i64 ((a.len:Int) - 1)) w fun b c (d:Sl) (e:Int) f=>
 aa (decide (e≥0))
 (an a e 1 fun g=>
 Ld (ar .u8) g f fun (h:Int)=>
 Nw 5 ⟨[(.int .u8 h)]⟩ f fun j i=>
 au Pg (Builtin.append_ #[26,26] 26 ⟨[(ag d),(ag (⟨some ⟨j,0,none⟩,1,1⟩:Sl))]⟩) kS i fun (l:Sl) k=>
 b l (i64 (e - 1)) k∧c l (i64 (e - 1)) k<c d e f)
 (R d f)):Cl Pg [kS] k7 ⟨[(ag a)]⟩ w R:=co Tryz.f82 [(7,[(3,kS),(4,kI)])] h
theorem BD.ok (a:Sl) (R:Sl→World→Prop) w (h:
 bq (⟨none,0,0⟩:Sl) 0 w fun b c (d:Sl) (e:Int) f=>
 aa (decide (e≤(a.len:Int)))
 (c8 (d.len:Int) f fun g h (i:Int) j=>
 aa (decide (i>0))
 (an d (i64 (i - 1)) 1 fun k=>
 Ld kI k j fun (l:Int)=>
 Cl Pg [kB] nk ⟨[(ag a),(ni e),(ni l)]⟩ j fun (n:Bool) m=>
 aa n
 (g (i64 (i - 1)) m∧h (i64 (i - 1)) m<h i j)
 (bj d 0 i (d).cap 1 fun o=>
 au Pg (Builtin.append_ #[142,142] 142 ⟨[(.slice none 0 0),(ag o)]⟩) kS m fun (q:Sl) p=>
 Nw 3 ⟨[(ni e)]⟩ p fun s r=>
 au Pg (Builtin.append_ #[142,142] 142 ⟨[(ag q),(ag (⟨some ⟨s,0,none⟩,1,1⟩:Sl))]⟩) kS r fun (u:Sl) t=>
 bj d i (d).len (d).cap 1 fun v=>
 au Pg (Builtin.append_ #[142,142] 142 ⟨[(ag u),(ag v)]⟩) kS t fun (y:Sl) x=>
 b y (i64 (e+1)) x∧c y (i64 (e+1)) x<c d e f))
 (bj d 0 i (d).cap 1 fun z=>
 au Pg (Builtin.append_ #[142,142] 142 ⟨[(.slice none 0 0),(ag z)]⟩) kS j fun (b1:Sl) a1=>
 Nw 3 ⟨[(ni e)]⟩ a1 fun d1 c1=>
 au Pg (Builtin.append_ #[142,142] 142 ⟨[(ag b1),(ag (⟨some ⟨d1,0,none⟩,1,1⟩:Sl))]⟩) kS c1 fun (f1:Sl) e1=>
 bj d i (d).len (d).cap 1 fun g1=>
 au Pg (Builtin.append_ #[142,142] 142 ⟨[(ag f1),(ag g1)]⟩) kS e1 fun (i1:Sl) h1=>
 b i1 (i64 (e+1)) h1∧c i1 (i64 (e+1)) h1<c d e f))
 (R d f)):Cl Pg [kS] mc ⟨[(ag a)]⟩ w R:=co Tryz.f133 [(7,[(3,kS),(4,kI)]),(15,[(5,kI)])] h
theorem DI.ok (a:Sl) (b:Int) (c:Int) (R:Bool→World→Prop) w (h:
 a7 (fun (e:World)=>
 a7 (fun (q:Int) (r:Int) (s:World)=>
 aa (q==r)
 (R false s)
 (aa (r==(a.len:Int))
 (R false s)
 (aJ s fun t=>
 aa (q==(a.len:Int))
 (R true t)
 (an a q 1 fun u=>
 Ld (ar .u8) u t fun (v:Int)=>
 an a r 1 fun x=>
 Ld (ar .u8) x t fun (y:Int)=>
 R (decide (v<y)) t)))) fun f=>
 bq b c e fun g h (i:Int) (j:Int) k=>
 aJ k fun l=>
 aa (decide (i<(a.len:Int)))
 (aa (decide (j<(a.len:Int)))
 (an a i 1 fun m=>
 Ld (ar .u8) m l fun (n:Int)=>
 an a j 1 fun o=>
 Ld (ar .u8) o l fun (p:Int)=>
 aa (n==p)
 (aa (i !=j)
 (g (i64 (i+1)) (i64 (j+1)) l∧h (i64 (i+1)) (i64 (j+1)) l<h i j k)
 (f i j l))
 (f i j l))
 (f i j l))
 (f i j l)) fun d=>
 aa (decide (b<0))
 (R false w)
 (aa (decide (b>(a.len:Int)))
 (R false w)
 (aa (decide (c<0))
 (R false w)
 (aa (decide (c>(a.len:Int)))
 (R false w)
 (d w))))):Cl Pg [kB] nk ⟨[(ag a),(ni b),(ni c)]⟩ w R:=co Tryz.f186 [(2,[]),(7,[(1,kI),(2,kI)]),(8,[(1,kI),(2,kI)])] h
end Go.Proofs.YtgglghjnakclmaaGreat
set_option maxRecDepth 20000
namespace Go.Proofs.YtgglghjnakclmaaGreat
open Go Go.Vc Go.Bw Go.Hs
section
variable {E w:World} {F:List HP}
set_option maxRecDepth 20000 in
theorem EA {t:List Nat} {s:Sl} {i k:Int} {K:Bool→World→Prop} (h:Hp E w F) (hs:ad F (aD 1 s (t.map vB))) (hn:t.length≤bO) (hK: ∀w',Hp E w' F→K (wB t i k) w'):
  Cl Tryz.prog [kB] nk ⟨[.slice s.base s.len s.cap,.int .i64 i,.int .i64 k]⟩ w K:=by
 refine DI.ok _ _ _ _ _ ?_
 simp only [aq]
 have hl:=(h.ah hs).1
 simp only [List.length_map,Nat.mul_one] at hl
 rw [aC] at hn
 have no: ¬(0≤i∧i≤t.length∧0≤k∧k≤t.length)→K false w:=fun hn=>by
  have:=hK w h
  unfold wB at this
  rwa [decide_eq_false hn,Bool.false_and] at this
 refine aa.mk (fun g=>no (by have:=of_decide_eq_true g;omega)) (fun g1=>aa.mk (fun g=>no (by have:=of_decide_eq_true g;omega)) (fun g2=>aa.mk (fun g=>no (by have:=of_decide_eq_true g;omega)) (fun g3=>aa.mk (fun g=>no (by have:=of_decide_eq_true g;omega)) (fun g4=> ?_))))
 have g1:=of_decide_eq_false g1
 have g2:=of_decide_eq_false g2
 have g3:=of_decide_eq_false g3
 have g4:=of_decide_eq_false g4
 obtain ⟨a0,rfl⟩:=Int.eq_ofNat_of_zero_le (show 0≤i by omega)
 obtain ⟨b0,rfl⟩:=Int.eq_ofNat_of_zero_le (show 0≤k by omega)
 have hK2: ∀w',Hp E w' F→K (sl t a0 b0) w':=fun w' h'=>by
  have:=hK w' h'
  unfold wB at this
  rwa [decide_eq_true ⟨by omega,by omega,by omega,by omega⟩,Bool.true_and,Int.toNat_natCast,Int.toNat_natCast] at this
 refine ⟨fun x y w'=> ∃a b:Nat,x=(a:Int)∧y=(b:Int)∧a≤t.length∧b≤t.length∧sl t a b=sl t a0 b0∧Hp E w' F,fun x _ _=>t.length - x.toNat,⟨a0,b0,rfl,rfl,by omega,by omega,rfl,h⟩,?_⟩
 rintro x y w1 ⟨a,b,rfl,rfl,ha,hb,hab,h1⟩
 refine aJ.mk h1 fun w2 h2=> ?_
 have fin:(a<t.length→b<t.length→t.getD a 0=t.getD b 0→a=b)→aa ((a:Int)==(b:Int)) (K false w2) (aa ((b:Int)==(s.len:Int)) (K false w2) (aJ w2 fun w_20=>aa ((a:Int)==(s.len:Int)) (K true w_20) (an s (a:Int) 1 fun q21=>Ld (ar .u8) q21 w_20 fun x22=>an s (b:Int) 1 fun q23=>Ld (ar .u8) q23 w_20 fun x24=>K (decide (x22<x24)) w_20))):=fun hd=>by
  refine aa.mk (fun e=> ?_) (fun e=>aa.mk (fun e2=> ?_) (fun e2=>aJ.mk h2 fun w3 h3=>aa.mk (fun e3=> ?_) (fun e3=> ?_)))
  ·have e:a=b:=by have:=beq_iff_eq.1 e;omega
   have:=hK2 w2 h2
   rw [←hab,e,(dC t).irr] at this;exact this
  ·have e2:b=t.length:=by have:=beq_iff_eq.1 e2;omega
   have:=hK2 w2 h2
   have e4:sl t a b=false:=by unfold sl;rw [e2,List.drop_length,pJ]
   rw [←hab,e4] at this;exact this
  ·have e2:b<t.length:=by have:=beq_eq_false_iff_ne.1 e2;omega
   have e3:a=t.length:=by have:=beq_iff_eq.1 e3;omega
   have:=hK2 w3 h3
   have e4:sl t a b=true:=by unfold sl;rw [e3,List.drop_length,qK e2];rfl
   rw [←hab,e4] at this;exact this
  ·have e:=beq_eq_false_iff_ne.1 e
   have e2:b<t.length:=by have:=beq_eq_false_iff_ne.1 e2;omega
   have e3:a<t.length:=by have:=beq_eq_false_iff_ne.1 e3;omega
   have hne:t.getD a 0≠t.getD b 0:=fun h=>e (by rw [hd e3 e2 h])
   refine an.nB (h3.ah hs) rfl e3 (an.nB (h3.ah hs) rfl e2 ?_)
   have:=hK2 w3 h3
   have e4:sl t a b=decide ((t.getD a 0:Int)<(t.getD b 0:Int)):=by
    rw [sU e3 e2,beq_eq_false_iff_ne.2 hne,Bool.false_and,Bool.or_false,decide_eq_decide];omega
   rw [←hab,e4] at this;exact this
 refine aa.mk (fun c1=>aa.mk (fun c2=> ?_) (fun c2=>fin fun _ hb' _=>by have:=of_decide_eq_false c2;omega)) (fun c1=>fin fun ha' _ _=>by have:=of_decide_eq_false c1;omega)
 have c1:a<t.length:=by have:=of_decide_eq_true c1;omega
 have c2:b<t.length:=by have:=of_decide_eq_true c2;omega
 refine an.nB (h2.ah hs) rfl c1 (an.nB (h2.ah hs) rfl c2 ?_)
 refine aa.mk (fun c3=>aa.mk (fun c4=> ?_) (fun c4=>fin fun _ _ _=>(by have h9:(a:Int)=(b:Int):=(by simpa using c4);omega))) (fun c3=>fin fun _ _ he=>absurd (by rw [he]) (beq_eq_false_iff_ne.1 c3))
 have c3:t.getD a 0=t.getD b 0:=by have:=beq_iff_eq.1 c3;omega
 refine ⟨⟨a+1,b+1,by rw [ae (by omega)];omega,by rw [ae (by omega)];omega,by omega,by omega,?_,h2⟩,by dsimp only;rw [ae (x:=(a:Int)+1) (by omega)];omega⟩
 rw [←hab,sU c1 c2,c3];simp
set_option maxRecDepth 20000 in
theorem Ds {t:List Nat} {s:Sl} {K:Sl→World→Prop} (h:Hp E w F) (hs:ad F (aD 1 s (t.map vB))) (hn:t.length≤400000)
  (hK: ∀s' w',Hp E w' (al 1 s' ((zl (aZ t)).map vI)::F)→K s' w'):Cl Tryz.prog [kS] mc ⟨[.slice s.base s.len s.cap]⟩ w K:=by
 refine BD.ok _ _ _ ?_
 have hl:=(h.ah hs).1
 simp only [List.length_map,Nat.mul_one] at hl
 refine ⟨fun o i w'=> ∃(k:Nat) (L:List Nat),i=(k:Int)∧k≤t.length+1∧L.Perm (List.range k)∧L.Pairwise (fun a b=>sl t a b=true)∧Hp E w' (al 1 o ((zl L).map vI)::F),fun _ i _=>t.length+1 - i.toNat,⟨0,[],rfl,by omega,List.Perm.refl _,List.Pairwise.nil,h.a9 1⟩,?_⟩
 rintro o i w1 ⟨k,L,rfl,hk,hp,hpw,h1⟩
 have hLl:L.length=k:=by rw [hp.length_eq,List.length_range]
 have hol:=h1.aV
 rw [List.length_map,iT,Nat.mul_one] at hol
 have hcap:=h1.km
 refine aa.mk (fun hlt=> ?_) (fun hge=> ?_)
 ·have hlt:k≤t.length:=by have:=of_decide_eq_true hlt;omega
  have hin: ∀j (hj:j<L.length),L[j]<k:=fun j hj=>by
   have:=hp.mem_iff.1 (List.getElem_mem hj)
   rwa [List.mem_range] at this
  have hgd: ∀j (hj:j<L.length),(zl L).getD j 0=(L[j]:Int):=fun j hj=>by simp [zl,List.getD,hj]
  refine ⟨fun c w'=> ∃m:Nat,c=(m:Int)∧m≤k∧(∀j (hj:j<L.length),m≤j→sl t k L[j]=true)∧Hp E w' (al 1 o ((zl L).map vI)::F),fun c _=>c.toNat,⟨k,by omega,by omega,fun j hj h=>by omega,h1⟩,?_⟩
  rintro c w2 ⟨m,rfl,hm,hgt,h2⟩
  have fin: ∀{w3:World},Hp E w3 (al 1 o ((zl L).map vI)::F)→(m=0∨∃hj:m - 1<L.length,sl t k L[m - 1]=false)→
    bj o 0 (m:Int) (o.cap:Int) 1 fun s15=>au Tryz.prog (Builtin.append_ #[142,142] 142 ⟨[.slice none 0 0,.slice s15.base s15.len s15.cap]⟩) kS w3 fun s17 w_16=>
     Nw 3 ⟨[.int .i64 (k:Int)]⟩ w_16 fun b19 w_18=>au Tryz.prog (Builtin.append_ #[142,142] 142 ⟨[.slice s17.base s17.len s17.cap,.slice (some ⟨b19,0,none⟩) 1 1]⟩) kS w_18 fun s21 w_20=>
     bj o (m:Int) (o.len:Int) (o.cap:Int) 1 fun s22=>au Tryz.prog (Builtin.append_ #[142,142] 142 ⟨[.slice s21.base s21.len s21.cap,.slice s22.base s22.len s22.cap]⟩) kS w_20 fun s24 w_23=>
     (∃(k':Nat) (L':List Nat),i64 ((k:Int)+1)=(k':Int)∧k'≤t.length+1∧L'.Perm (List.range k')∧L'.Pairwise (fun a b=>sl t a b=true)∧Hp E w_23 (al 1 s24 ((zl L').map vI)::F))∧t.length+1 - (i64 ((k:Int)+1)).toNat<t.length+1 - (k:Int).toNat:=fun {w3} h3 hst=>by
   refine bj.rd (h3.ah ad.own) (by omega) (by omega) (by omega) (by omega) (by omega) fun s15 h15 hl15=> ?_
   have ht15:aD 1 s15 ((zl (L.take m)).map vI) w3:=by
    have:=h15 w3 (h3.ah ad.own)
    rwa [show (0:Int).toNat=0 from rfl,List.drop_zero,Nat.sub_zero,Int.toNat_natCast,←List.map_take,show (zl L).take m=zl (L.take m) by unfold zl;rw [List.map_take]] at this
   have hA:=h3.a9 1
   refine aK (s:=⟨none,0,0⟩) (ys:=(zl (L.take m)).map vI) (n:=m) A0 (by decide) (.inl ⟨3,by kernel_rfl⟩) hA (.inl ⟨s15.base,s15.len,s15.cap,rfl,by rw [hl15];omega,ht15⟩) (by rw [List.length_map,iT,List.length_take];omega) lP (by show (2*(0+m)+1024)*8≤2^48;omega) (by show 0+m<2^62;omega) fun s17 w4 h4 hs17=> ?_
   rw [List.nil_append] at h4
   refine LO A0 rfl h4 (by rw [iT,List.length_take,aC];omega) fun s21 w5 h5 hs21=> ?_
   rw [iT,List.length_take] at hs21
   refine bj.rd (h5.ah (ad.cons ad.own)) (by omega) (by omega) (by omega) (by omega) (by omega) fun s22 h22 hl22=> ?_
   have ht22:aD 1 s22 ((zl (L.drop m)).map vI) w5:=by
    have:=h22 w5 (h5.ah (ad.cons ad.own))
    rwa [Int.toNat_natCast,Int.toNat_natCast,←List.map_drop,List.take_of_length_le (by rw [List.length_map,List.length_drop,iT];omega),show (zl L).drop m=zl (L.drop m) by unfold zl;rw [List.map_drop]] at this
   refine aK (ys:=(zl (L.drop m)).map vI) (n:=k - m) A0 (by decide) (.inl ⟨3,by kernel_rfl⟩) h5 (.inl ⟨s22.base,s22.len,s22.cap,rfl,by rw [hl22];omega,ht22⟩) (by rw [List.length_map,iT,List.length_drop];omega) lP (by omega) (by omega) fun s24 w6 h6 hs24=> ?_
   rw [ae (by omega)]
   refine ⟨⟨k+1,L.take m++ [k]++L.drop m,by omega,by omega,?_,?_,?_⟩,by omega⟩
   ·rw [List.range_succ]
    refine (List.Perm.append_right _ List.perm_append_comm).trans ?_
    rw [List.append_assoc,List.take_append_drop]
    exact (List.perm_append_comm (l₁:= [k]) (l₂:=L)).trans (hp.append_right _)
   ·have hlo: ∀a∈L.take m,sl t a k=true:=fun a ha=>by
     obtain ⟨j,hj,rfl⟩:=List.getElem_of_mem ha
     rw [List.length_take] at hj
     rw [List.getElem_take]
     rcases hst with h0|⟨hj1,hf⟩
     ·omega
     ·have hne:L[m - 1]≠k:=by have:=hin (m - 1) hj1;omega
      have h8:sl t L[m - 1] k=true:=by
       rcases nE t k (fj.2 hlt) L[m - 1] (fj.2 (by have:=hin (m - 1) hj1;omega)) (fun e=>hne e.symm) with h9|h9
       ·rw [hf] at h9;cases h9
       ·exact h9
      by_cases e:j=m - 1
      ·subst e;exact h8
      ·exact (dC t).trans _ _ _ (List.pairwise_iff_getElem.1 hpw j (m - 1) (by omega) hj1 (by omega)) h8
    have hhi: ∀b∈L.drop m,sl t k b=true:=fun b hb=>by
     obtain ⟨j,hj,rfl⟩:=List.getElem_of_mem hb
     rw [List.length_drop] at hj
     rw [List.getElem_drop]
     exact hgt _ (by omega) (by omega)
    rw [List.append_assoc]
    refine List.pairwise_append.2 ⟨hpw.sublist (List.take_sublist ..),List.pairwise_append.2 ⟨by simp,hpw.sublist (List.drop_sublist ..),fun a ha b hb=> ?_⟩,fun a ha b hb=> ?_⟩
    ·rw [List.mem_singleton] at ha
     subst ha;exact hhi b hb
    ·rcases List.mem_append.1 hb with hb|hb
     ·rw [List.mem_singleton] at hb
      subst hb;exact hlo a ha
     ·exact (dC t).trans _ _ _ (hlo a ha) (hhi b hb)
   ·have e:(zl (L.take m)++ [(k:Int)]).map vI++(zl (L.drop m)).map vI=(zl (L.take m++ [k]++L.drop m)).map vI:=by
     rw [Ge,Ge,List.map_append,List.map_append,List.map_append];rfl
    rw [e] at h6
    exact h6.p1.drop
  refine aa.mk (fun hpos=> ?_) (fun hpos=>fin h2 (.inl (by have:=of_decide_eq_false hpos;omega)))
  have hpos:0<m:=by have:=of_decide_eq_true hpos;omega
  have e1:i64 ((m:Int) - 1)=((m - 1:Nat):Int):=by rw [ae (by omega)];omega
  rw [e1]
  refine an.nI (h2.ah ad.own) rfl (by rw [iT];omega) ?_
  rw [hgd (m - 1) (by omega)]
  have hlm:=hin (m - 1) (by omega)
  refine EA h2 (ad.cons hs) (by rw [aC];omega) fun w3 h3=> ?_
  have hle:wB t (k:Int) (L[m - 1]:Int)=sl t k L[m - 1]:=by
   unfold wB
   rw [decide_eq_true ⟨by omega,by omega,by omega,by omega⟩,Bool.true_and,Int.toNat_natCast,Int.toNat_natCast]
  rw [hle]
  refine aa.mk (fun hsl=> ?_) (fun hsl=>fin h3 (.inr ⟨by omega,hsl⟩))
  refine ⟨⟨m - 1,rfl,by omega,fun j hj hmj=> ?_,h3⟩,by dsimp only;omega⟩
  by_cases e:j=m - 1
  ·subst e;exact hsl
  ·exact hgt j hj (by omega)
 ·have hge:k=t.length+1:=by have:=of_decide_eq_false hge;omega
  subst hge
  have:L=aZ t:=Rk.ou (dC t) (hp.trans (Rk.cH (lt:=sl t) (rows t)).symm) hpw (jd t)
  rw [this] at h1
  exact hK o w1 h1
end
end Go.Proofs.YtgglghjnakclmaaGreat
set_option maxRecDepth 20000
namespace Go.Proofs.YtgglghjnakclmaaGreat
open Go Go.Vc Go.Bw Go.Hs
section
variable {E w:World} {F:List HP}
set_option maxRecDepth 200000 in
theorem EG {t:List Nat} {s:Sl} {K:Sl→Int→World→Prop} (h:Hp E w F) (hs:ad F (aD 1 s (t.map vB))) (hn:t.length≤400000)
  (hK: ∀s' w',Hp E w' (al 1 s' ((aQ t).map vB)::F)→K s' (ba t:Int) w'):Cl Tryz.prog [kS,kI] nX ⟨[.slice s.base s.len s.cap]⟩ w K:=by
 refine C6.ok _ _ _ ?_
 have hl:=(h.ah hs).1
 simp only [List.length_map,Nat.mul_one] at hl
 refine Ds h hs hn fun s3 w1 h1=> ?_
 have hl3:=h1.aV
 rw [List.length_map,iT,il,Nat.mul_one] at hl3
 refine ⟨fun o ix i w'=> ∃k:Nat,i=(k:Int)∧k≤t.length+1∧ix=(if ba t<k then (ba t:Int) else 0)∧Hp E w' (al 1 o (((((aZ t).take k).filter fun i=>i !=0).map fun i=>t.getD (i - 1) 0).map vB)::al 1 s3 ((zl (aZ t)).map vI)::F),
  fun _ _ i _=>t.length+1 - i.toNat,⟨0,rfl,by omega,rfl,h1.a9 1⟩,?_⟩
 rintro o ix i w2 ⟨k,rfl,hk,rfl,h2⟩
 refine aa.mk (fun hlt=> ?_) (fun hge=> ?_)
 ·have hlt:k<t.length+1:=by have:=of_decide_eq_true hlt;omega
  have hko:k<(aZ t).length:=by rw [il];exact hlt
  have hix:=gZ t hko
  have hle:(aZ t)[k]≤t.length:=nZ.1 (List.getElem_mem hko)
  have e0:(zl (aZ t)).getD k 0=((aZ t)[k]:Int):=by simp [zl,List.getD,hko]
  refine an.nI (h2.ah (ad.cons ad.own)) rfl (by rw [iT];exact hko) ?_
  rw [e0]
  have hf:=uF hko
  refine aa.mk (fun hz=> ?_) (fun hz=> ?_)
  ·have hz:(aZ t)[k]=0:=by have:=beq_iff_eq.1 hz;omega
   rw [if_pos hz,List.append_nil] at hf
   have hke:=hix.1 hz
   refine ⟨⟨k+1,by rw [ae (by omega)];omega,by omega,by rw [if_pos (by omega)];omega,by rw [hf];exact h2⟩,by dsimp only;rw [ae (by omega)];omega⟩
  ·have hz:(aZ t)[k]≠0:=by have:=beq_eq_false_iff_ne.1 hz;omega
   rw [if_neg hz] at hf
   have hke:k≠ba t:=fun e=>hz (hix.2 e)
   refine an.nI (h2.ah (ad.cons ad.own)) rfl (by rw [iT];exact hko) ?_
   rw [e0]
   have e1:i64 (((aZ t)[k]:Int) - 1)=(((aZ t)[k] - 1:Nat):Int):=by rw [ae (by omega)];omega
   rw [e1]
   refine an.nB (h2.ah (ad.cons (ad.cons hs))) rfl (by omega) ?_
   refine IS Ii rfl h2 (by rw [List.length_map,aC];exact Nat.le_trans (List.length_filter_le ..) (by rw [List.length_take];omega)) fun s' w3 h3 _=>⟨⟨k+1,by rw [ae (by omega)];omega,by omega,?_,?_⟩,by dsimp only;rw [ae (x:=(k:Int)+1) (by omega)];omega⟩
   ·by_cases e:ba t<k
    ·rw [if_pos e,if_pos (by omega)]
    ·rw [if_neg e,if_neg (by omega)]
   ·rw [hf,List.map_append]
    exact h3
 ·have hge:k=t.length+1:=by have:=of_decide_eq_false hge;omega
  subst hge
  have hil:=kK t
  rw [if_pos (by omega)]
  rw [List.take_of_length_le (by rw [il];exact Nat.le_refl _)] at h2
  exact hK o w2 h2.p1.drop
set_option maxRecDepth 200000 in
theorem BC {b:List Nat} {s:Sl} {K:Sl→World→Prop} (h:Hp E w F) (hs:ad F (aD 1 s (b.map vB))) (hn:b.length≤400000)
  (hK: ∀s' w',Hp E w' (al 1 s' (b.reverse.map vB)::F)→K s' w'):Cl Tryz.prog [kS] k7 ⟨[.slice s.base s.len s.cap]⟩ w K:=by
 refine zV.ok _ _ _ ?_
 have hl:=(h.ah hs).1
 simp only [List.length_map,Nat.mul_one] at hl
 refine ⟨fun o i w'=> ∃k:Nat,i=(b.length:Int) - 1 - (k:Int)∧k≤b.length∧Hp E w' (al 1 o ((b.reverse.take k).map vB)::F),fun _ i _=>(i+1).toNat,⟨0,by rw [ae (by omega)];omega,by omega,h.a9 1⟩,?_⟩
 rintro o i w1 ⟨k,rfl,hk,h1⟩
 refine aa.mk (fun hge=> ?_) (fun hlt=> ?_)
 ·have hge:k<b.length:=by have:=of_decide_eq_true hge;omega
  refine an.nB (j:=b.length - 1 - k) (h1.ah (ad.cons hs)) (by omega) (by omega) ?_
  refine IS Ii rfl h1 (by rw [List.length_take,List.length_reverse,aC];omega) fun s' w2 h2 _=>⟨⟨k+1,by rw [ae (by omega)];omega,by omega,?_⟩,by dsimp only;rw [ae (by omega)];omega⟩
  have e:b.reverse.take (k+1)=b.reverse.take k++ [b.getD (b.length - 1 - k) 0]:=by
   rw [List.take_add_one,List.getElem?_reverse hge]
   simp [List.getD,show b.length - 1 - k<b.length by omega]
  rw [e];exact h2
 ·have hke:k=b.length:=by have:=of_decide_eq_false hlt;omega
  subst hke
  rw [List.take_of_length_le (by rw [List.length_reverse];exact Nat.le_refl _)] at h1
  exact hK o w1 h1
end
end Go.Proofs.YtgglghjnakclmaaGreat
namespace Go.af
open Go.Inc Go.Srt Go.Sym Go.aS
end Go.af
namespace Go.Proofs.YtgglghjnakclmaaGreat
open Go Go.Vc Go.Srt Go.Inc Go.Sym Go.Tab Go.Hd Go.Bw Go.aS Go.af Go.Crc
section
variable {E w:World} {F:List HP}
set_option maxRecDepth 20000
theorem yB {s:Sl} {x:List Nat} {K:Sl→Int→World→Prop} (h:Hp E w F) (hs:ad F (aD 1 s (x.map vB))) (hn:x.length≤400000) (hK: ∀s' w',Hp E w' (OB s' (aQ x.reverse)::F)→K s' (ba x.reverse:Int) w'):
  Cl Tryz.prog [kS,kI] iv ⟨[.slice s.base s.len s.cap]⟩ w K:=by
 refine zH.ok _ _ _ ?_
 refine BC h hs hn fun s' w h=> ?_
 exact EG h ad.own (by simpa using hn) fun s2 w h=>hK s2 w h.dv
theorem u5 {s:Sl} {x:List Nat} {K:Sl→World→Prop} (h:Hp E w F) (hs:ad F (aD 1 s (x.map vB))) (hb: ∀y∈x,y<256) (hn:x.length≤400000) (hK: ∀s' w',Hp E w' (OI s' (syms (aQ x.reverse))::F)→K s' w'):
  Cl Tryz.prog [kS] gJ ⟨[.slice s.base s.len s.cap]⟩ w K:=by
 refine za.ok _ _ _ ?_
 refine yB h hs hn fun s' w h=> ?_
 exact I3 h ad.own (sV fun y hy=>hb y (List.mem_reverse.1 hy)) (by rw [ct,List.length_reverse];omega) fun s2 w h=>hK s2 w h.dv
theorem Dw {s:Sl} {x:List Nat} {K:Array Value→World→Prop} (h:Hp E w F) (hs:ad F (aD 1 s (x.map vB))) (hb: ∀y∈x,y<256) (hn:x.length≤400000) (hK: ∀w',Hp E w' F→K (ai .u8 (cw x)) w'):
  Cl Tryz.prog [.arr 258] kn ⟨[.slice s.base s.len s.cap]⟩ w K:=by
 refine zb.ok _ _ _ ?_
 have h257:=uH hb
 have hfew:=AQ hn
 have hct:=CB h257
 have hall:(ints (syms (aQ x.reverse))).all Hs.j9=true:=by
  refine List.all_eq_true.2 fun z hz=> ?_
  obtain ⟨y,hy,rfl⟩:=List.mem_map.1 hz
  have:=h257 y hy
  exact Hs.iw.2 (by omega)
 have hmx:=sX (ss:=syms (aQ x.reverse)) (by omega)
 have hadd:Hs.cM (List.replicate 258 0) (ints (syms (aQ x.reverse)))=some (ints (gW (syms (aQ x.reverse)))):=by
  rw [←hct]
  exact Hs.qU (by decide) hall (by rw [hct];exact iD hmx)
 have hsz:(aT (ints (gW (syms (aQ x.reverse))))).size=258:=by rw [bE,cG,jQ]
 have hsc:(aT (ints (gW (syms (aQ x.reverse))))).toList.all aF=true:=List.all_eq_true.2 Vc.cJ
 have hls:(ai .u8 (cw x)).size=258:=by rw [av];exact Ft _
 have hlc:(ai .u8 (cw x)).toList.all aF=true:=List.all_eq_true.2 cd
 refine Nw.mk h fun b3 w h=>u5 h (ad.cons hs) hb hn fun s' w h=>Ko h ad.own (by rw [cG,aC];omega) fun w h=> ?_
 rw [show cn=List.replicate 258 0 from rfl,hadd]
 refine Nw.mk h fun b8 w h=>ax.q h (by simp) hsz hsc fun w h=>Ld.xw h hsz ?_
 refine JK (vH (by omega)) h fun w h=> ?_
 refine Nw.mk h fun b15 w h=>ax.q h (by simp) hls hlc fun w h=>Ld.xw h hls ?_
 refine ax.q (b:=b3) h (by simp) hls hlc fun w h=>Ld.xw (b:=b3) h hls (hK w h.tl)
theorem Cp {n:Int} {s:Sl} {x:List Nat} {K:Sl→Int→World→Prop} (h:Hp E w F) (hs:ad F (aD 1 s (x.map vB))) (hb: ∀y∈x,y<256) (hn:x.length≤65536)
  (hgood:1≤n→n≤65536→1≤x.length→(x.length:Int)≤n→∀s' w',Hp E w' (OB s' (qE (cw x) x)::F)→K s' 0 w')
  (hbad: ¬(1≤n∧n≤65536∧1≤x.length∧(x.length:Int)≤n)→∀w',Hp E w' F→K ⟨none,0,0⟩ 2 w'):
  Cl Tryz.prog [kS,kI] jW ⟨[.int .i64 n,.slice s.base s.len s.cap]⟩ w K:=by
 refine Dy.ok _ _ _ _ ?_
 have hlen:x.length=s.len:=wA (h.ah hs)
 refine yB h hs (by omega) fun s4 w h=>Nw.mk h fun b7 w h=> ?_
 have hcrc:cT x<4294967296:=n0 hb
 refine DT (s:=⟨some ⟨b7,0,none⟩,1,1⟩) (cs:= [s]) (bs:= [x]) h (ad.aH rfl rfl) rfl (by rw [aC];simp) (fun i hi=> ?_) (by simpa using hb) (by simp [aC];omega) ?_
 ·match i,hi with
  |0,_=>exact ad.cons (ad.cons hs)
 rw [show [x].flatten=x by simp,show (s.len:Int)=(x.length:Int) by omega]
 have hidx:ba x.reverse≤x.length:=by
  by_cases h0:x= []
  ·subst h0;decide
  ·have:=wF (t:=x.reverse) (by rw [List.length_reverse];exact List.length_pos_iff.2 h0)
   rw [List.length_reverse] at this;omega
 refine Gd h (by omega) (by omega) hcrc (fun h1 h2 h3 h4 h5 h6 s11 w h=> ?_) (fun hno w h=> ?_)
 ·refine aa.nf rfl ?_
  have hL:=qL h3 (by omega) hb
  have hls:(ai .u8 (cw x)).size=258:=by rw [av];exact hL.len
  have hlc:(ai .u8 (cw x)).toList.all aF=true:=List.all_eq_true.2 cd
  have h15:=wC hL.ok
  have h8: ∀y∈cw x,y≤255:=fun y hy=>by have:=h15 y hy;omega
  refine Dw h (ad.cons (ad.cons (ad.cons hs))) hb (by omega) fun w h=> ?_
  refine Nw.mk h fun b16 w h=> ?_
  refine ax.q h (by simp) hls hlc fun w h=> ?_
  refine Ld.xw h hls ?_
  refine J8 h hL.len h8 (fun hno=>absurd hL.ok (by rw [hno];decide)) fun _ s20 w h=> ?_
  have h:=h.drew (n:=w.drawn+1)
  refine ⟨di b16 _ _ _,h.hb,aG.xw (fun _ h=>h) hls ?_⟩
  have hsl:=AQ (x:=x) (by omega)
  have hsl2:=nV (aQ x.reverse)
  rw [ct,List.length_reverse] at hsl2
  refine u5 h (ad.cons (ad.cons (ad.cons (ad.cons (ad.cons hs))))) hb (by omega) fun s26 w h=>⟨h.hb,?_⟩
  refine JI h hL.len h8 ad.own (by rw [cG];omega) (fun hno=>absurd ⟨hL.v,yH hL.good (uH hb)⟩ hno) fun _ _ s28 w h=>⟨h.hb,?_⟩
  rw [lE] at h
  have htl:=kx hL.len hL.ok
  have hel:=kQ hL.v (ints (syms (aQ x.reverse)))
  rw [lE,cG] at hel
  refine C8 (h.at 2) ad.own (by omega) (by omega) fun s31 w h=> ?_
  refine EZ h ad.own (Fc _ _) (by rw [List.length_append];omega) fun s33 w h=> ?_
  have hpl:=og (eF (cw x)++enc (cw x) (syms (aQ x.reverse)))
  rw [List.length_append] at hpl
  have hml:(kO x.length (ba x.reverse) (cT x)).length≤20:=by
   have h1:=cP (n:=x.length) (by omega)
   have h2:=cP (n:=ba x.reverse) (by omega)
   unfold kO
   simp [fN]
   omega
  refine oV (h.at 5) ad.own (by omega) (by omega) fun s35 w h=>hgood h1 h2 h3 h4 s35 w ?_
  exact h.dv
 ·refine aa.nt (by decide) (hbad (fun hh=>hno ?_) w h.tl)
  have:=wF (t:=x.reverse) (by rw [List.length_reverse];omega)
  rw [List.length_reverse] at this
  exact ⟨hh.1,hh.2.1,hh.2.2.1,hh.2.2.2,this.1,this.2⟩
end
end Go.Proofs.YtgglghjnakclmaaGreat
set_option maxRecDepth 20000
namespace Go.af
open Go.Inc Go.Srt Go.Sym Go.aS Go.Tab Go.Bw Go.Pm
noncomputable def L4:List Nat:=Proofs.YtgglghjnakclmaaGreat.gg (List.replicate 258 1) (fF (List.replicate 258 1)) 15
noncomputable def iy (x:List Nat):List Nat:=if x.length≤1000000 then cw x else L4
theorem lj {x:List Nat} (h:x.length≤1000000):iy x=cw x:=by unfold iy;rw [if_pos h]
end Go.af
namespace Go.af
open Go.Inc Go.Srt Go.Sym Go.aS Go.Tab Go.Hd Go.Crc Go.Bw Go.Proofs.YtgglghjnakclmaaGreat
theorem rY: ∀(l:List (List Nat)),(∀x∈l,0<x.length∧x.length≤65536∧∀y∈x,y<256)→(Stm.blocks iy l).length≤200000*l.length
 | [],_=>by simp [Stm.blocks]
 |x::l,h=>by
  have h1:=h x List.mem_cons_self
  have h2:=dk h1.1 h1.2.2 h1.2.1
  have h3:=rY l fun y hy=>h y (List.mem_cons_of_mem _ hy)
  unfold Stm.blocks at h3⊢
  rw [List.flatMap_cons,List.length_append,List.length_cons]
  unfold Stm.Dl at h3⊢
  rw [lj (by omega)]
  omega
end Go.af
namespace Go.Proofs.YtgglghjnakclmaaGreat
open Go Go.Vc Go.Srt Go.Inc Go.Sym Go.Tab Go.Hd Go.Bw Go.aS Go.af Go.Crc Go.Stm
section
variable {E w:World} {F:List HP}
set_option maxRecDepth 20000
end
end Go.Proofs.YtgglghjnakclmaaGreat
namespace Go.Proofs.YtgglghjnakclmaaGreat
open Go Go.Vc Go.Srt Go.Inc Go.Sym Go.Tab Go.Hd Go.Bw Go.aS Go.af Go.Crc Go.Stm
section
variable {E w:World} {F:List HP}
set_option maxRecDepth 20000
theorem AN {n:Nat} {K:Sl→Int→World→Prop} (h:Hp E w F) (hn:n≤65536) (h0:0<n) (hK: ∀s w',Hp E w' (OB s (fU n)::F)→K s 0 w'):Cl Tryz.prog [kS,kI] ll ⟨[.agg ⟨[.int .i64 (n:Int)]⟩]⟩ w K:=by
 refine EI.ok ((n:Int),()) _ _ ?_
 refine Nw.mk h fun b3 w h=> ?_
 refine Ld.xb (b:=b3) h rfl (aa.df (by omega) (Ld.xb (b:=b3) h rfl (aa.df (by omega) (Ld.xb (b:=b3) (x:=(n:Int)) h rfl ?_))))
 refine wG h hn fun s w h=>Nw.mk h fun b11 w h=> ?_
 have h:=Hp.fz (n:=3) (sz:=1) h rfl
 have hl:=cP hn
 refine oV (s:=⟨some ⟨b11,0,none⟩,3,3⟩) (xs:= [87,80,1]) (ys:=fR n) h ad.own (by decide) (by omega) fun s' w h=>hK s' w ?_
 exact (h.no 1).no 1
theorem AB {c:Nat} {K:Sl→World→Prop} (h:Hp E w F) (hc:c<4294967296) (hK: ∀s w',Hp E w' (OB s (nh c)::F)→K s w'):Cl Tryz.prog [kS] iu ⟨[.int .u32 (c:Int)]⟩ w K:=by
 refine Aa.ok _ _ _ (Nw.mk h fun b3 w h=> ?_)
 refine F7 h hc fun s w h=> ?_
 have h:=Hp.fz (n:=1) (sz:=1) (h.at 1) rfl
 refine oV (s:=⟨some ⟨b3,0,none⟩,1,1⟩) (xs:= [0]) (ys:=fN c) h ad.own (by decide) (show 4≤_ by decide) fun s' w h=>hK s' w ?_
 exact h.no 1
theorem DF {n:Nat} {s:Sl} {ps:List (Sl×List Nat)} {K:Sl→Int→World→Prop} (h:Hp E w F) (hn:1≤n) (hn2:n≤65536) (hg:ad F (lA s ps)) (hp:E7 ps) (hb: ∀x∈ps,∀y∈x.2,y<256) (hsm:(ps.map Prod.snd).flatten.length≤100000)
  (hK: ∀s' w',Hp E w' (OB s' (Dr iy n (ps.map Prod.snd))::F)→K s' 0 w'):Cl Tryz.prog [kS,kI] lX ⟨[.int .i64 (n:Int),.slice s.base s.len s.cap]⟩ w K:=by
 have hbf: ∀c∈(ps.map Prod.snd).flatten,c<256:=fun c hc=>by
  obtain ⟨l,hl,hc⟩:=List.mem_flatten.1 hc
  obtain ⟨x,hx,rfl⟩:=List.mem_map.1 hl
  exact hb x hx c hc
 have hok:=Ji (n:=n) hn hbf
 have hcf:=Bg hn (ps.map Prod.snd)
 refine BV.ok _ _ _ _ (AN h hn2 hn fun s4 w h=>aa.nf rfl ?_)
 refine Ex h hg.cons hp hn hn2 hsm fun pcs s7 w hpc hcap hpw h=> ?_
 have hpl:pcs.length=(cE n (ps.map Prod.snd)).length:=by rw [←hpc,List.length_map]
 have hl7:pcs.length=s7.len:=by have:=h.aV;simpa using this
 have hblen: ∀i,(fU n++blocks iy ((cE n (ps.map Prod.snd)).take i)).length≤200000*i+10:=fun i=>by
  have h1:=rY ((cE n (ps.map Prod.snd)).take i) fun x hx=>⟨(hok x (List.mem_of_mem_take hx)).1,Nat.le_trans (hok x (List.mem_of_mem_take hx)).2.1 hn2,(hok x (List.mem_of_mem_take hx)).2.2⟩
  have h2:=cP hn2
  have h3:((cE n (ps.map Prod.snd)).take i).length≤i:=by rw [List.length_take];omega
  have h4:=Nat.mul_le_mul_left 200000 h3
  rw [List.length_append]
  unfold fU
  simp only [List.length_append,List.length_cons,List.length_nil]
  omega
 refine ⟨fun out i w'=> ∃k:Nat,i=(k:Int)∧k≤pcs.length∧Hp E w' (OB out (fU n++blocks iy ((cE n (ps.map Prod.snd)).take k))::al 1 s7 (pcs.map fun x=> .slice x.1.base x.1.len x.1.cap)::F),fun _ i _=>pcs.length - i.toNat,⟨0,rfl,by omega,?_⟩,?_⟩
 ·have e:fU n++blocks iy ((cE n (ps.map Prod.snd)).take 0)=fU n:=by simp [blocks]
  rw [e]
  exact h.at 1
 ·rintro out i w ⟨k,rfl,hk,h⟩
  have hbl:=hblen k
  have hgw: ∀{A B:HP},ad (A::B::F) (lA s ps):=hg.cons.cons
  refine aa.dm (fun hlt=> ?_) (fun hge=> ?_)
  ·have hlt:k<pcs.length:=by omega
   have hkc:k<(cE n (ps.map Prod.snd)).length:=by omega
   refine an.rd (h.ah (ad.at 1 ad.own)) (by omega) (by omega) fun q _ hq=> ?_
   refine Ld.sc (s:= .sl) pcs[k].1 (by rw [hq];simp [Sc.enc]) ?_
   have hx:pcs[k].2=(cE n (ps.map Prod.snd))[k]:=by
    have:=List.getElem_map Prod.snd (l:=pcs) (i:=k) (h:=by simpa using hlt)
    rw [←this]
    simp only [hpc]
   obtain ⟨c0,c1,c2⟩:=hok _ (List.getElem_mem hkc)
   refine Cp (x:=(cE n (ps.map Prod.snd))[k]) h (hgw.imp fun w hw=>by rw [←hx];exact hpw w hw _ (List.getElem_mem hlt)) c2 (by omega) (fun _ _ _ _ s16 w h=> ?_) (fun hno=>absurd ⟨by omega,by omega,c0,by omega⟩ hno)
   have hbs:=dk c0 c2 (by omega)
   refine oV (h.at 1) (ad.own) (by omega) (by omega) fun s19 w h=> ?_
   have e:fU n++blocks iy ((cE n (ps.map Prod.snd)).take k)++qE (cw (cE n (ps.map Prod.snd))[k]) (cE n (ps.map Prod.snd))[k]=fU n++blocks iy ((cE n (ps.map Prod.snd)).take (k+1)):=by
    rw [List.append_assoc,List.take_add_one,List.getElem?_eq_getElem hkc]
    unfold blocks Dl
    rw [List.flatMap_append,Option.toList_some,List.flatMap_singleton,lj (by omega)]
   rw [e] at h
   rw [ae (by omega)]
   exact ⟨⟨k+1,by omega,by omega,h.no 1⟩,by first|omega|(dsimp only;omega)⟩
  ·have hk2:k=pcs.length:=by omega
   subst hk2
   rw [hpl,List.take_of_length_le (Nat.le_refl _)] at h
   rw [hpl] at hbl
   rw [List.take_of_length_le (Nat.le_refl _)] at hbl
   have hcr:=n0 hbf
   refine DT (cs:=ps.map Prod.fst) (bs:=ps.map Prod.snd) h (hgw.imp fun w hw=>by have:=hw.tab;rwa [List.map_map]) (by simp) (by rw [List.length_map];exact hp.few) (fun i hi=> ?_) (fun b hbm y hy=> ?_) (fun b hbm=> ?_) ?_
   ·rw [List.length_map] at hi
    refine hgw.imp fun w hw=> ?_
    have:=hw.each ps[i] (List.getElem_mem hi)
    rw [List.getD_eq_getElem?_getD,List.getElem?_map,List.getElem?_eq_getElem hi]
    simpa using this
   ·obtain ⟨x,hx,rfl⟩:=List.mem_map.1 hbm
    exact hb x hx y hy
   ·obtain ⟨x,hx,rfl⟩:=List.mem_map.1 hbm
    exact hp.small x hx
   ·refine AB h hcr fun s23 w h=> ?_
    refine oV (h.at 1) (ad.own) (by omega) (show 5≤_ by decide) fun s25 w h=>hK s25 w ?_
    rw [List.append_assoc] at h
    exact (h.no 1).no 1
end
end Go.Proofs.YtgglghjnakclmaaGreat
namespace Go.Proofs.YtgglghjnakclmaaGreat
open Go Go.Vc Go.Srt Go.Inc Go.Hd Go.aS Go.af Go.Crc Go.Pol Go.Stm
set_option maxRecDepth 20000
abbrev mm (b:Nat) (C:EC) (s1 s2:Sl):HP:=af b (.cells ⟨[.int .i64 (C.n:Int),.int .u8 (C.mode:Int),.int .i64 (bH C.n 1 C.mode:Int),.slice s1.base s1.len s1.cap,.slice s2.base s2.len s2.cap,.bool C.begun,.bool C.closed]⟩ 69 (0,0))
structure qW (C:EC):Prop where
 n1:1≤C.n
 n2:C.n≤65536
 lt:C.held.length<C.n
 hb: ∀x∈C.held,x<256
 ab: ∀x∈C.all,x<256
 bO:C.all.length≤1000000
def bM (b:Nat) (C:EC):HP:=A4 (fun _:Sl×Sl=>qW C) fun p=> [mm b C p.1 p.2,OB p.1 C.held,OB p.2 C.all]
section
variable {E w:World} {F:List HP} {b:Nat} {C:EC} {s1 s2:Sl}
theorem qB (h:Hp E w (bM b C::F)): ∃s1 s2,qW C∧Hp E w (mm b C s1 s2::OB s1 C.held::OB s2 C.all::F):=by
 obtain ⟨p,hx,h⟩:=h.ex
 exact ⟨p.1,p.2,hx,h⟩
theorem bM.shut (ok:qW C) (h:Hp E w (mm b C s1 s2::OB s1 C.held::OB s2 C.all::F)):Hp E w (bM b C::F):=Hp.zQ (s1,s2) ok h
theorem bM.mK {X:HP} (ok:qW C) (h:Hp E w (X::mm b C s1 s2::OB s1 C.held::OB s2 C.all::F)):Hp E w (X::bM b C::F):=(bM.shut ok (zM h)).at 1
theorem Cw {n budget:Int} {K:Option Addr→Int→World→Prop} (h:Hp E w F)
  (hgood: ∀N B:Nat,n=(N:Int)→budget=(B:Int)→1≤N→N≤65536→1≤B→B≤1048576→a8 B N 1≠0→∀b A w',Hp E w' (bM b (EC.new N (a8 B N 1) A)::F)→K (some ⟨b,0,none⟩) 0 w')
  (hbad:(bp budget n 1).2≠0→∀w',Hp E w' F→K none ((bp budget n 1).2:Int) w'):
  Cl Tryz.prog [kP,kI] oQ ⟨[.int .i64 n,.int .i64 budget]⟩ w K:=by
 refine Ga.ok _ _ _ _ (Kg (side:=1) h (.inl rfl) fun w h=> ?_)
 by_cases hz:(bp budget n 1).2=0
 ·have hr:1≤n∧n≤65536∧1≤budget∧budget≤1048576∧a8 budget.toNat n.toNat 1≠0∧(bp budget n 1).1=a8 budget.toNat n.toNat 1:=by
   unfold bp at hz⊢
   split at hz
   ·cases hz
   ·rename_i h1
    rw [if_neg h1]
    split at hz
    ·cases hz
    ·rename_i h2
     rw [if_neg h2]
     exact ⟨by omega,by omega,by omega,by omega,h2,rfl⟩
  obtain ⟨r1,r2,r3,r4,r5,r6⟩:=hr
  obtain ⟨N,rfl⟩: ∃N:Nat,n=(N:Int):=⟨n.toNat,by omega⟩
  obtain ⟨B,rfl⟩: ∃B:Nat,budget=(B:Int):=⟨budget.toNat,by omega⟩
  rw [Int.toNat_natCast,Int.toNat_natCast] at r5 r6
  obtain ⟨p1,p2,p3⟩:=yL r5
  rw [r6]
  refine aa.nf (by rw [hz];rfl) (xv (side:=1) h (fun m hm _ w h=> ?_) (fun hno=>absurd ⟨by omega,.inl rfl,p2,p3,by omega,by omega⟩ hno))
  obtain rfl:N=m:=by omega
  refine Nw.mk h fun b10 w h=>hgood N B rfl rfl (by omega) (by omega) (by omega) (by omega) r5 b10 ⟨0,0,0,0,0⟩ w ?_
  refine bM.shut (C:=EC.new N (a8 B N 1) ⟨0,0,0,0,0⟩) (s1:=⟨none,0,0⟩) (s2:=⟨none,0,0⟩) ⟨by show 1≤N;omega,by show N≤65536;omega,by show 0<N;omega,fun _ hx=>(by cases hx),fun _ hx=>(by cases hx),Nat.zero_le _⟩ ?_
  exact ((h.a9 1).a9 1).at 2
 ·exact aa.nt (by omega) (hbad hz w h)
theorem Aq {K:Sl→World→Prop} (ok:qW C) (h:Hp E w (mm b C s1 s2::F)) (hK: ∀s w',Hp E w' (OB s C.hd::mm b C.lI s1 s2::F)→K s w'):Cl Tryz.prog [kS] dD ⟨[pE b]⟩ w K:=by
 refine rD.ok _ _ _ ?_
 (try simp only [aj,ak,Nat.zero_add,Nat.add_zero,Nat.reduceAdd,Bool.not_true,Bool.not_false,az,ay,Option.isNone])
 refine Ld.xb (b:=b) (x:=C.begun) h rfl ?_
 by_cases hb:C.begun=true
 ·refine aa.t hb (hK _ w ?_)
  have e:C.lI=C:=by unfold EC.lI;rw [←hb]
  rw [e,show C.hd= [] by unfold EC.hd;rw [if_pos hb]]
  exact h.a9 1
 ·refine aa.f (by simpa using hb) (St.xs (b:=b) h rfl rfl fun w h=> ?_)
  dsimp only [bN,aI] at h
  refine Ld.xb (b:=b) (x:=(C.n:Int)) h rfl (AN h ok.n2 ok.n1 fun s w h=>hK s w ?_)
  rw [show C.hd=fU C.n by unfold EC.hd;rw [if_neg hb]]
  exact h
theorem E9 {y:List Nat} {K:Sl→World→Prop} (n1:1≤C.n) (n2:C.n≤65536) (hy1:1≤y.length) (hy2:y.length≤C.n) (hyb: ∀x∈y,x<256) (h:Hp E w (mm b C s1 s2::OB s1 y::F)) (hK: ∀s w',Hp E w' (OB s (c6 y)::mm b C ⟨none,0,0⟩ s2::F)→K s w'):
  Cl Tryz.prog [kS] eB ⟨[pE b]⟩ w K:=by
 refine tm.ok _ _ _ (aJ.mk h fun w h=> ?_)
 (try simp only [aj,ak,Nat.zero_add,Nat.add_zero,Nat.reduceAdd,Bool.not_true,Bool.not_false,az,ay,Option.isNone])
 refine Ld.xb (b:=b) (x:=(C.n:Int)) h rfl (Ld.xb (b:=b) (x:=s1) h rfl ?_)
 refine Cp h (ad.at 1 ad.own) hyb (by omega) (fun _ _ _ _ s8 w h=> ?_) (fun hno=>absurd ⟨by omega,by omega,by omega,by omega⟩ hno)
 refine St.xs (b:=b) h rfl rfl fun w h=>hK s8 w ?_
 dsimp only [bN,aI] at h
 exact h.no 2
theorem Ag {K:Sl→Int→World→Prop} (hcl:C.closed=false) (h:Hp E w (bM b C::F)) (hK: ∀s w',Hp E w' (OB s C.hC::bM b C.fl::F)→K s 0 w'):
  Cl Tryz.prog [kS,kI] cK ⟨[pE b]⟩ w K:=by
 obtain ⟨s1,s2,ok,h⟩:=(qB h)
 refine kz.ok _ _ _ ?_
 (try simp only [aj,ak,Nat.zero_add,Nat.add_zero,Nat.reduceAdd,Bool.not_true,Bool.not_false,az,ay,Option.isNone])
 have hlt:=ok.lt
 have n2:=ok.n2
 refine Ld.xb (b:=b) (x:=C.closed) h rfl (aa.f hcl (Aq ok h fun s w h=> ?_))
 have hhd:=pW C ok.n2
 refine Ld.xb (b:=b) (x:=s1) h rfl ?_
 have hl1:=OB.len (h.at 2)
 have okF:qW C.fl:=⟨ok.n1,ok.n2,ok.n1,fun _ hx=>(by cases hx),ok.ab,ok.bO⟩
 refine aa.dm (fun hp=> ?_) (fun hz=> ?_)
 ·refine E9 (C:=C.lI) (y:=C.held) ok.n1 ok.n2 (by omega) (by show _≤C.n;omega) ok.hb ((h.at 2).at 2) fun s9 w h=> ?_
  have hbs:(c6 C.held).length≤200000:=dk (x:=C.held) (by omega) ok.hb (by omega)
  refine oV (h.at 2) ad.own (by omega) (by omega) fun s11 w h=>hK s11 w ?_
  have e:C.hd++c6 C.held=C.hC:=by
   unfold EC.hC
   rw [if_neg (by intro e;rw [e] at hl1;simp at hl1;omega)]
  rw [e] at h
  refine bM.mK (C:=C.fl) (s1:=⟨none,0,0⟩) (s2:=s2) okF ?_
  exact (((h.no 1).a9 1).at 2).at 2
 ·refine hK s w ?_
  have e:C.held= []:=List.eq_nil_of_length_eq_zero (by omega)
  have e2:C.hC=C.hd:=by unfold EC.hC;rw [if_pos e,List.append_nil]
  rw [e2]
  have e3:C.fl=C.lI:=by unfold EC.fl EC.lI;rw [e]
  rw [e3] at okF⊢
  exact bM.mK (C:=C.lI) okF h
theorem vR {K:Sl→Int→World→Prop} (hcl:C.closed=true) (h:Hp E w (bM b C::F)) (hK:Hp E w (bM b C::F)→K ⟨none,0,0⟩ 280 w):
  Cl Tryz.prog [kS,kI] cK ⟨[pE b]⟩ w K:=by
 obtain ⟨s1,s2,ok,h⟩:=(qB h)
 refine kz.ok _ _ _ ?_
 (try simp only [aj,ak,Nat.zero_add,Nat.add_zero,Nat.reduceAdd,Bool.not_true,Bool.not_false,az,ay,Option.isNone])
 exact Ld.xb (b:=b) (x:=C.closed) h rfl (aa.t hcl (hK (bM.shut ok h)))
theorem GG {K:Sl→Int→World→Prop} (hcl:C.closed=false) (h:Hp E w (bM b C::F)) (hK: ∀s w',Hp E w' (OB s C.vL::bM b C.cl::F)→K s 0 w'):
  Cl Tryz.prog [kS,kI] dw ⟨[pE b]⟩ w K:=by
 obtain ⟨_,_,ok0,h0⟩:=(qB h)
 refine kE.ok _ _ _ (Ag hcl h fun s w h=>aa.nf rfl ?_)
 obtain ⟨s1,s2,ok,h⟩:=(qB (h.at 1))
 (try simp only [aj,ak,Nat.zero_add,Nat.add_zero,Nat.reduceAdd,Bool.not_true,Bool.not_false,az,ay,Option.isNone])
 refine St.xs (b:=b) h rfl rfl fun w h=> ?_
 dsimp only [bN,aI] at h
 refine Ld.xb (b:=b) (x:=s2) h rfl (Nw.mk h fun b10 w h=> ?_)
 have hbig:=ok0.bO
 refine DT (cs:= [s2]) (bs:= [C.all]) h (ad.aH rfl rfl) rfl (by rw [aC];simp) (fun i hi=>by simp at hi;subst hi;exact ad.at 3 ad.own) (fun b hb=>by rw [List.mem_singleton] at hb;subst hb;exact ok0.ab) (fun b hb=>by rw [List.mem_singleton] at hb;subst hb;rw [aC];omega) ?_
 rw [List.flatten_cons,List.flatten_nil,List.append_nil]
 refine AB h (n0 ok0.ab) fun s14 w h=> ?_
 have hfl:C.hC.length≤300000:=by
  have hn2:=ok0.n2
  have hhd:=pW C hn2
  have hlt:=ok0.lt
  unfold EC.hC
  rw [List.length_append]
  split
  ·simp;omega
  ·rename_i hne
   have:(c6 C.held).length≤200000:=dk (x:=C.held) (List.length_pos_iff.2 hne) ok0.hb (by omega)
   omega
 refine oV (h.at 5) ad.own (by omega) (show 5≤_ by decide) fun s16 w h=>hK s16 w ?_
 refine bM.mK (C:=C.cl) (s1:=s1) (s2:=s2) ⟨ok0.n1,ok0.n2,ok0.n1,fun _ hx=>(by cases hx),ok0.ab,ok0.bO⟩ ?_
 exact (h.no 1).no 1
theorem DB {K:Sl→Int→World→Prop} (hcl:C.closed=true) (h:Hp E w (bM b C::F)) (hK:Hp E w (bM b C::F)→K ⟨none,0,0⟩ 280 w):
  Cl Tryz.prog [kS,kI] dw ⟨[pE b]⟩ w K:=
 kE.ok _ _ _ (vR hcl h fun h=>aa.nt (by decide) (hK h))
theorem DX {sl:Sl} {K:Sl→Int→World→Prop} (hcl:C.closed=true) (h:Hp E w (bM b C::F)) (hK:Hp E w (bM b C::F)→K ⟨none,0,0⟩ 280 w):
  Cl Tryz.prog [kS,kI] dF ⟨[pE b,.slice sl.base sl.len sl.cap]⟩ w K:=by
 obtain ⟨s1,s2,ok,h⟩:=(qB h)
 refine kC.ok _ _ _ _ ?_
 (try simp only [aj,ak,Nat.zero_add,Nat.add_zero,Nat.reduceAdd,Bool.not_true,Bool.not_false,az,ay,Option.isNone])
 exact Ld.xb (b:=b) (x:=C.closed) h rfl (aa.t hcl (hK (bM.shut ok h)))
theorem KQ (C:EC) (x:Nat) (hlt:C.held.length<C.n):(C.wr [x]).held=(if C.held.length+1=C.n then [] else C.held++ [x])∧C.iE [x]=C.hd++(if C.held.length+1=C.n then c6 (C.held++ [x]) else []):=by
 unfold EC.wr EC.iE
 rw [HT (by omega) hlt]
 split<;>simp
theorem KY (C:EC) (a x:List Nat) (hn:0<C.n):(C.wr a).wr x=C.wr (a++x)∧C.iE (a++x)=C.iE a++(C.wr a).iE x:=by
 have e:=zX hn (C.held++a) x
 unfold EC.wr EC.iE
 dsimp only
 rw [←List.append_assoc C.held a x,e,List.append_assoc]
 refine ⟨rfl,?_⟩
 unfold EC.hd
 simp
theorem KU (C:EC) (hlt:C.held.length<C.n):C.wr []=C.lI∧C.iE []=C.hd:=by
 unfold EC.wr EC.iE EC.lI
 rw [List.append_nil,cV hlt]
 simp
theorem Ih {C:EC} {x:List Nat} (ok:qW C) (hx: ∀y∈x,y<256) (hb:C.all.length+x.length≤1000000):qW (C.wr x):=by
 have hm:=qh (n:=C.n) ok.n1 (C.held++x)
 have hl:=CX (n:=C.n) ok.n1 (C.held++x)
 exact ⟨ok.n1,ok.n2,hl,fun y hy=>(List.mem_append.1 (hm.2 y hy)).elim (ok.hb y) (hx y),fun y hy=>(List.mem_append.1 hy).elim (ok.ab y) (hx y),by show (C.all++x).length≤_;rw [List.length_append];omega⟩
theorem Jc {C:EC} {x:List Nat} (ok:qW C) (hx: ∀y∈x,y<256) (hb:C.all.length+x.length≤1000000):(C.iE x).length≤400000000000:=by
 have n2:=ok.n2
 have hhd:=pW C n2
 have hlt:=ok.lt
 have hm:=qh (n:=C.n) ok.n1 (C.held++x)
 have h1:=qZ (n:=C.n) (cS C.n (C.held++x)).1 (fun y hy=>⟨(hm.1 y hy).1,fun c hc=>(List.mem_append.1 ((hm.1 y hy).2 c hc)).elim (ok.hb c) (hx c)⟩) ok.n1 n2
 have h2:=wE (n:=C.n) ok.n1 (C.held++x)
 rw [List.length_append] at h2
 unfold EC.iE
 rw [List.length_append]
 omega
theorem Hv {sl:Sl} {x:List Nat} {K:Sl→Int→World→Prop} (hcl:C.closed=false) (h:Hp E w (bM b C::F)) (hs:ad F (aD 1 sl (x.map vB))) (hx: ∀y∈x,y<256) (hbig:C.all.length+x.length≤1000000)
  (hK: ∀s w',Hp E w' (OB s (C.iE x)::bM b (C.wr x)::F)→K s 0 w'):
  Cl Tryz.prog [kS,kI] dF ⟨[pE b,.slice sl.base sl.len sl.cap]⟩ w K:=by
 obtain ⟨s1,s2,ok,h⟩:=(qB h)
 refine kC.ok _ _ _ _ ?_
 (try simp only [aj,ak,Nat.zero_add,Nat.add_zero,Nat.reduceAdd,Bool.not_true,Bool.not_false,az,ay,Option.isNone])
 refine Ld.xb (b:=b) (x:=C.closed) h rfl (aa.f hcl (Aq ok h fun s w h=> ?_))
 have n1:=ok.n1
 have n2:=ok.n2
 have hlx:x.length=sl.len:=by have:=(h.ah hs.cons.cons.cons.cons).1;simpa using this
 obtain ⟨z1,z2⟩:=KU C ok.lt
 refine ⟨fun ts i w=> ∃(k:Nat) (s1 s2:Sl),i=(k:Int)∧k≤x.length∧Hp E w (OB ts (C.iE (x.take k))::mm b (C.wr (x.take k)) s1 s2::OB s1 (C.wr (x.take k)).held::OB s2 (C.wr (x.take k)).all::F),fun _ i _=>x.length - i.toNat,⟨0,s1,s2,rfl,Nat.zero_le _,?_⟩,?_⟩
 ·rw [List.take_zero,z1,z2];exact h
 rintro ts i w ⟨k,s1,s2,rfl,hk,h⟩
 refine aa.dm (fun hp=> ?_) (fun hz=> ?_)
 ·have hlt:k<x.length:=by omega
  have hx1: ∀y∈x.take k,y<256:=fun y hy=>hx y (List.mem_of_mem_take hy)
  have hxk:x[k]<256:=hx _ (List.getElem_mem hlt)
  have hl1:(x.take k).length=k:=by rw [List.length_take];omega
  have okK:=Ih (x:=x.take k) ok hx1 (by omega)
  have htl:=Jc (x:=x.take k) ok hx1 (by omega)
  obtain ⟨a1,a2⟩:=KY C (x.take k) [x[k]] n1
  have et:x.take k++ [x[k]]=x.take (k+1):=by rw [List.take_add_one,List.getElem?_eq_getElem hlt];rfl
  rw [et] at a1 a2
  have hhdn:(C.wr (x.take k)).hd= []:=rfl
  obtain ⟨o1,o2⟩:=KQ (C.wr (x.take k)) x[k] okK.lt
  rw [hhdn,List.nil_append] at o2
  rw [o2] at a2
  have oall:(C.wr (x.take (k+1))).all=(C.wr (x.take k)).all++ [x[k]]:=by rw [←a1];rfl
  have oheld:(C.wr (x.take (k+1))).held=(if (C.wr (x.take k)).held.length+1=(C.wr (x.take k)).n then [] else (C.wr (x.take k)).held++ [x[k]]):=by rw [←a1];exact o1
  have hcl2:(C.wr (x.take k)).closed=(C.wr (x.take (k+1))).closed:=rfl
  have hbg:(C.wr (x.take k)).begun=true:=rfl
  have hn2':=okK.n2
  have hlt2:=okK.lt
  have hab2:=okK.bO
  generalize hD:C.wr (x.take k)=D at*
  have hRB: ∀s1 s2,mm b (C.wr (x.take (k+1))) s1 s2=mm b D s1 s2:=fun s1 s2=>by
   rw [←a1]
   show af b _=af b _
   unfold EC.wr
   dsimp only
   rw [hbg]
  refine a7.vA (fun w=> ∃s1,Hp E w (mm b D s1 s2::OB s1 (D.held++ [x[k]])::OB ts (C.iE (x.take k))::OB s2 D.all::F)) ?_ fun r' hr'=> ?_
  ·rintro w ⟨s1,h⟩
   refine a7.vA (fun w=> ∃s2,Hp E w (mm b D s1 s2::OB s2 (D.all++ [x[k]])::OB s1 (D.held++ [x[k]])::OB ts (C.iE (x.take k))::F)) ?_ fun r' hr'=> ?_
   ·rintro w ⟨s2,h⟩
    refine aJ.mk h fun w h=> ?_
    (try simp only [aj,ak,Nat.zero_add,Nat.add_zero,Nat.reduceAdd,Bool.not_true,Bool.not_false,az,ay,Option.isNone])
    refine Ld.xb (b:=b) (x:=s1) h rfl (Ld.xb (b:=b) (x:=(D.n:Int)) h rfl ?_)
    have hls:=OB.len (h.at 2)
    rw [List.length_append,List.length_singleton] at hls
    rw [ae (by omega)]
    refine aa.em (fun hfull=> ?_) (fun hnot=> ?_)
    ·have hfull:D.held.length+1=D.n:=by omega
     rw [if_pos hfull] at a2 oheld
     refine E9 (C:=D) (y:=D.held++ [x[k]]) (by omega) hn2' (by rw [List.length_append,List.length_singleton];omega) (by rw [List.length_append,List.length_singleton];omega) (fun y hy=>(List.mem_append.1 hy).elim (okK.hb y) fun hy=>by rw [List.mem_singleton] at hy;omega) ((h.at 2).at 1) fun s42 w h=> ?_
     have hbs:(c6 (D.held++ [x[k]])).length≤200000:=dk (by rw [List.length_append,List.length_singleton];omega) (fun y hy=>(List.mem_append.1 hy).elim (okK.hb y) fun hy=>by rw [List.mem_singleton] at hy;omega) (by rw [List.length_append,List.length_singleton];omega)
     refine oV (h.at 3) ad.own (by omega) (by omega) fun s44 w h=> ?_
     refine ⟨⟨k+1,⟨none,0,0⟩,s2,by omega,by omega,?_⟩,by first|omega|(dsimp only;omega)⟩
     rw [a2,oheld,oall,hRB]
     exact (((h.no 1).a9 1).at 2).at 2
    ·have hnot: ¬D.held.length+1=D.n:=by omega
     rw [if_neg hnot] at a2 oheld
     refine ⟨⟨k+1,s1,s2,by omega,by omega,?_⟩,by first|omega|(dsimp only;omega)⟩
     rw [a2,oheld,oall,hRB,List.append_nil]
     exact (((h.at 1).at 2).at 2).at 3
   ·refine aJ.mk h fun w h=> ?_
    (try simp only [aj,ak,Nat.zero_add,Nat.add_zero,Nat.reduceAdd,Bool.not_true,Bool.not_false,az,ay,Option.isNone])
    refine an.rd (h.ah hs.cons.cons.cons.cons) (by omega) (by simp;omega) fun q _ hq=> ?_
    refine Ld.sc (s:= .int .u8) (x[k]:Int) (by rw [hq];simp [Sc.enc,vB]) ?_
    have go: ∀(b':Nat) (w:World),Hp E w (zY b' x[k] 5::mm b D s1 s2::OB s1 (D.held++ [x[k]])::OB ts (C.iE (x.take k))::OB s2 D.all::F)→
      au Tryz.prog (Builtin.append_ #[26,26] 26 ⟨[.slice s2.base s2.len s2.cap,.slice (some ⟨b',0,none⟩) 1 1]⟩) kS w fun s33 w=>St ⟨b,4,none⟩ (.slice s33.base s33.len s33.cap) w fun w=>r' w:=fun b' w h=>by
     have h:=((h.at 4).at 1)
     refine Dv h (by omega) fun s33 w h=>St.xs (b:=b) h rfl rfl fun w h=>hr' w ⟨s33,?_⟩
     dsimp only [bN,aI] at h
     exact h.at 1
    exact ⟨Ld.xb (b:=b) (x:=s2) h rfl (Nw.mk h fun b39 w h=>go b39 w h),Nw.mk h fun b45 w h=>Ld.xb (b:=b) (x:=s2) h rfl (go b45 w h)⟩
  ·have h:=h.at 1
   refine aJ.mk h fun w h=> ?_
   (try simp only [aj,ak,Nat.zero_add,Nat.add_zero,Nat.reduceAdd,Bool.not_true,Bool.not_false,az,ay,Option.isNone])
   refine an.rd (h.ah hs.cons.cons.cons.cons) (by omega) (by simp;omega) fun q _ hq=> ?_
   refine Ld.sc (s:= .int .u8) (x[k]:Int) (by rw [hq];simp [Sc.enc,vB]) ?_
   have go: ∀(b':Nat) (w:World),Hp E w (zY b' x[k] 5::mm b D s1 s2::OB ts (C.iE (x.take k))::OB s1 D.held::OB s2 D.all::F)→
     au Tryz.prog (Builtin.append_ #[26,26] 26 ⟨[.slice s1.base s1.len s1.cap,.slice (some ⟨b',0,none⟩) 1 1]⟩) kS w fun s33 w=>St ⟨b,3,none⟩ (.slice s33.base s33.len s33.cap) w fun w=>r' w:=fun b' w h=>by
    have h:=((h.at 3).at 1)
    refine Dv h (by omega) fun s33 w h=>St.xs (b:=b) h rfl rfl fun w h=>hr' w ⟨s33,?_⟩
    dsimp only [bN,aI] at h
    exact h.at 1
   exact ⟨Ld.xb (b:=b) (x:=s1) h rfl (Nw.mk h fun b39 w h=>go b39 w h),Nw.mk h fun b45 w h=>Ld.xb (b:=b) (x:=s1) h rfl (go b45 w h)⟩
 ·have hk2:k=x.length:=by omega
  subst hk2
  rw [List.take_length] at h
  exact hK ts w (bM.mK (C:=C.wr x) (Ih ok hx hbig) h)
end
end Go.Proofs.YtgglghjnakclmaaGreat
set_option maxRecDepth 20000
namespace Go.Bw
open Go Go.Vc Go.Rk
end Go.Bw
namespace Go.Proofs.YtgglghjnakclmaaGreat
open Go Go.Vc
section
variable {w:World}
set_option maxRecDepth 200000 in
theorem mM {s:Sl} {b:List Nat} {K:ByteArray→World→Prop} (hs:aD 1 s (b.map vB) w) (hK:K (strOf b) w):au Tryz.prog (convert 26 9 (.slice s.base s.len s.cap)) nS w K:=
 FG (s:=s) (b:=b) (e:=5) (by kernel_rfl) (by kernel_rfl) (by kernel_rfl) hs hK
end
end Go.Proofs.YtgglghjnakclmaaGreat
namespace Go.Stm
open Go.Inc Go.Srt Go.Sym Go.aS Go.Tab Go.Hd Go.Crc Go.Bw Go.af Go.Proofs.YtgglghjnakclmaaGreat
end Go.Stm
namespace Go.Proofs.YtgglghjnakclmaaGreat
open Go Go.Vc Go.Srt Go.Inc Go.Sym Go.Tab Go.Hd Go.Bw Go.aS Go.af Go.Crc Go.Stm
section
variable {E w:World} {F:List HP}
set_option maxRecDepth 20000
theorem DR (x:List Nat):((strOf x).toList==(strOf x).toList)=true:=by simp
end
end Go.Proofs.YtgglghjnakclmaaGreat
namespace Go.Vc
theorem a7.Me {A:Type} {r:A→World→Prop} {k:(A→World→Prop)→Prop} (Q:A→World→Prop) (h1: ∀a w,Q a w→r a w) (h2: ∀r',(∀a w,Q a w→r' a w)→k r'):a7 r k:=h2 r h1
end Go.Vc
namespace Go.Stm
open Go.Inc Go.Srt Go.Sym Go.aS Go.Tab Go.Hd Go.Crc Go.Bw Go.af Go.Proofs.YtgglghjnakclmaaGreat
end Go.Stm
namespace Go.Proofs.YtgglghjnakclmaaGreat
open Go Go.Vc Go.Srt Go.Inc Go.Sym Go.Tab Go.Hd Go.Bw Go.aS Go.af Go.Crc Go.Stm
section
variable {E w:World} {F:List HP}
set_option maxRecDepth 20000
end
end Go.Proofs.YtgglghjnakclmaaGreat
set_option maxRecDepth 20000
namespace Go.Vc
open Go
theorem Fl (b:List Nat):(strOf b).data=(b.map UInt8.ofNat).toArray:=by
 have:=e6 b
 rw [←this]
theorem ki (b:List Nat):(strOf b).size=b.length:=by
 show (strOf b).data.size=_
 rw [Fl];simp
theorem Fm {a b:ByteArray} (h:a.data.toList=b.data.toList):a=b:=by
 cases a;cases b
 congr 1
 exact Array.toList_inj.1 h
theorem yg (a b:List Nat):strOf a++strOf b=strOf (a++b):=by
 apply Fm
 rw [ByteArray.data_append,Array.toList_append,e6,e6,e6,List.map_append]
theorem Es {b:List Nat} (i j:Nat):(strOf b).extract i j=strOf ((b.take j).drop i):=by
 apply Fm
 rw [ByteArray.data_extract,Array.toList_extract,e6,e6]
 simp [List.extract,List.map_drop,List.map_take,List.drop_take]
theorem GL.of {b:List Nat} {i j:Int} {K:ByteArray→Prop} (a c:Nat) (hi:i=(a:Int)) (hj:j=(c:Int)) (h1:a≤c) (h2:c≤b.length) (hK:K (strOf ((b.take c).drop a))):GL (strOf b) i j K:=by
 subst hi;subst hj
 rw [←Es] at hK
 refine ⟨by omega,by omega,by rw [ki];omega,?_⟩
 simpa using hK
end Go.Vc
namespace Go.Proofs.YtgglghjnakclmaaGreat
open Go Go.Vc Go.Srt Go.Inc Go.Hd Go.aS Go.af Go.Crc Go.Pol Go.Stm
set_option maxRecDepth 20000
section
variable {E w:World} {F:List HP}
theorem Ls:bp 300 300 1=(2,0):=by decide
theorem Kq:bp 299 300 1=(0,230):=by decide
theorem I5:bp 300 0 1=(0,2):=by decide
theorem KI:bp 100 2 1=(3,0):=by decide
theorem LC {A:AS}:(EC.new 300 2 A).vL= [87,80,1,130,44,0,0,0,0,0]:=by
 have h1:fU 300= [87,80,1,130,44]:=by decide+kernel
 have h2:nh (cT [])= [0,0,0,0,0]:=by decide+kernel
 unfold EC.vL EC.hC EC.hd EC.new
 dsimp only
 rw [h2,if_neg (by decide),if_pos rfl,h1];rfl
theorem Mw {A:AS}:((EC.new 2 3 A).wr [97,98,99]).held= [99]∧(EC.new 2 3 A).iE [97,98,99]=fU 2++c6 [97,98]:=by
 have hc:cS 2 [97,98,99]=([[97,98]],[99]):=by
  rw [fK (by decide) (by decide)]
  have:cS 2 (([97,98,99]:List Nat).drop 2)=([],[99]):=cV (by decide)
  rw [this];rfl
 unfold EC.wr EC.iE EC.new EC.hd
 dsimp only
 rw [List.nil_append,hc,if_neg (by decide)]
 simp
theorem KA:fU 2++c6 [97,98]++c6 [99]++nh (cT [97,98,99])=Dr iy 2 [[97,98,99]]:=by
 have hc:cE 2 [[97,98,99]]= [[97,98],[99]]:=by
  rw [xM,nW (by decide) (by decide),nW (x:=([97,98,99]:List Nat).drop 2) (by decide) (by decide)]
  simp [p9,cE]
 unfold Dr Stm.blocks Stm.Dl
 rw [hc]
 have h1:iy [97,98]=cw [97,98]:=lj (by decide)
 have h2:iy [99]=cw [99]:=lj (by decide)
 simp only [List.flatMap_cons,List.flatMap_nil,List.append_nil,h1,h2,List.flatten_cons,List.flatten_nil,List.append_assoc,c6]
theorem DV {K:Sl→Int→World→Prop} (hK:K ⟨none,0,0⟩ 280 w):Cl Tryz.prog [kS,kI] bb ⟨[.pointer none]⟩ w K:=by
 refine fw.ok _ _ _ (fB.ok _ _ _ ?_)
 (try simp only [aq,aj,ak,Nat.zero_add,Nat.add_zero,Nat.reduceAdd,Bool.not_true,Bool.not_false,az,ay,Option.isNone])
 exact hK
theorem Gb {K:Int→World→Prop} (hK:K 0 w):Cl Tryz.prog [ar .u8] bm ⟨[.pointer none]⟩ w K:=by
 refine kr.ok _ _ _ ?_
 (try simp only [aq,aj,ak,Nat.zero_add,Nat.add_zero,Nat.reduceAdd,Bool.not_true,Bool.not_false,az,ay,Option.isNone])
 exact hK
theorem Gc {K:Int→World→Prop} (hK:K 0 w):Cl Tryz.prog [kI] bC ⟨[.pointer none]⟩ w K:=by
 refine kc.ok _ _ _ ?_
 (try simp only [aq,aj,ak,Nat.zero_add,Nat.add_zero,Nat.reduceAdd,Bool.not_true,Bool.not_false,az,ay,Option.isNone])
 exact hK
theorem Fb {K:Int→World→Prop} (hK:K 0 w):Cl Tryz.prog [kI] bB ⟨[.pointer none]⟩ w K:=by
 refine kd.ok _ _ _ ?_
 (try simp only [aq,aj,ak,Nat.zero_add,Nat.add_zero,Nat.reduceAdd,Bool.not_true,Bool.not_false,az,ay,Option.isNone])
 exact hK
theorem rP {K:Bool→World→Prop} (h:Hp E w F) (hK: ∀w',Hp E w' F→K true w'):Cl Tryz.prog [kB] eN ⟨[]⟩ w K:=by
 refine Bt.ok _ _ ?_
 refine rJ (n:=300) (budget:=300) h (.inl (by decide)) (fun N B hN hB _ _ _ _ _ b A w h=> ?_) (fun hno=>absurd (by rw [Ls]) hno)
 obtain rfl:N=300:=by omega
 obtain rfl:B=300:=by omega
 rw [show a8 300 300 1=2 by decide] at h
 refine rJ (n:=300) (budget:=299) h (.inl (by decide)) (fun N B hN hB _ _ _ _ hno=>absurd (show a8 B N 1=0 by rw [show N=300 by omega,show B=299 by omega];decide) hno) (fun _ w h=> ?_)
 rw [Kq]
 refine rJ (n:=0) (budget:=300) h (.inl (by decide)) (fun N B hN hB h1=>by omega) (fun _ w h=> ?_)
 rw [I5]
 refine a7.vA (fun w=>Hp E w (bZ b (EC.new 300 2 A)::F)) (fun w h=> ?_) fun r' hr'=> ?_
 ·refine uM rfl h fun s16 w h=> ?_
  rw [LC] at h
  have h:=h.at 1
  refine Nw.mk h fun b19 w h=> ?_
  refine yK (sl:=⟨some ⟨b19,0,none⟩,1,1⟩) rfl (h.at 1) fun h=> ?_
  refine rJ (n:=2) (budget:=100) h (.inl (by decide)) (fun N B hN hB _ _ _ _ _ b24 A2 w h=> ?_) (fun hno=>absurd (by rw [KI]) hno)
  obtain rfl:N=2:=by omega
  obtain rfl:B=100:=by omega
  rw [show a8 100 2 1=3 by decide] at h
  refine a7.vA (fun w=>Hp E w (bZ b24 (EC.new 2 3 A2)::bZ b (EC.new 300 2 A).cl::zY b19 1 5::OB s16 [87,80,1,130,44,0,0,0,0,0]::F)) (fun w h=> ?_) fun r' hr'=>by
   rw [aq]
   dsimp only
   exact aa.f rfl (aa.f rfl (hr' w h))
  refine Nw.mk h fun b32 w h=>uT h fun w h=> ?_
  refine As (sl:=⟨some ⟨b32,0,none⟩,3,3⟩) (x:= [97,98,99]) rfl (h.at 1) (ad.aH rfl rfl) (by decide) (by decide) (Nat.le_refl 3) fun s36 w h=> ?_
  obtain ⟨x1,x2⟩:=Mw (A:=A2)
  rw [x2] at h
  refine xB (h.at 1) ?_
  rw [x1]
  refine qj rfl (h.at 1) fun s41 w h=> ?_
  have f1:((EC.new 2 3 A2).wr [97,98,99]).hC=c6 [99]:=by
   unfold EC.hC
   rw [x1,if_neg (by decide)];rfl
  rw [f1] at h
  refine qj rfl (h.at 1) fun s44 w h=> ?_
  have f2:((EC.new 2 3 A2).wr [97,98,99]).fl.hC= []:=by
   unfold EC.hC EC.fl EC.hd
   dsimp only
   simp
  rw [f2] at h
  have l44:=OB.len h
  refine uM rfl (h.at 1) fun s47 w h=> ?_
  have f3:((EC.new 2 3 A2).wr [97,98,99]).fl.fl.vL=nh (cT [97,98,99]):=by
   unfold EC.vL EC.hC EC.fl EC.hd
   dsimp only
   simp [EC.wr,EC.new]
  rw [f3] at h
  have l47:=OB.len h
  refine Nw.mk h fun b50 w h=>uT h fun w h=>Nw.mk h fun b54 w h=> ?_
  refine DF (n:=2) (s:=⟨some ⟨b54,0,none⟩,1,1⟩) (ps:= [(⟨some ⟨b50,0,none⟩,3,3⟩,[97,98,99])]) h (by decide) (by decide) (((ad.aH rfl rfl).and (ad.at 1 (ad.aH rfl rfl))).imp fun w hw=>⟨hw.1,fun x hx=>by rw [List.mem_singleton] at hx;subst hx;exact hw.2⟩)
   ⟨fun x hx=>by rw [List.mem_singleton] at hx;subst hx;exact Nat.le_refl _,by rw [aC];simp,fun x hx=>by rw [List.mem_singleton] at hx;subst hx;rw [aC];simp⟩ (fun x hx=>by rw [List.mem_singleton] at hx;subst hx;dsimp only;decide) (show 3≤100000 by decide) fun s56 w h=> ?_
  have h:Hp E w (OB s56 (Dr iy 2 [[97,98,99]])::_):=h
  refine DV ?_
  refine mM (b:= [87,80,1,130,44,0,0,0,0,0]) (h.ah (ad.at 11 ad.own)) (aa.t (by rw [show (ByteArray.mk #[87,80,1,130,44,0,0,0,0,0])=strOf [87,80,1,130,44,0,0,0,0,0] from rfl];exact DR _) ?_)
  have l48:s47.len=5:=l47.symm
  refine aa.t rfl (aa.t rfl (aa.t rfl (aa.et (by rw [←l44];rfl) (aa.t rfl (aa.et (by omega) ?_)))))
  refine mM (b:=fU 2++c6 [97,98]) (h.ah (ad.at 7 ad.own)) ?_
  refine mM (b:=c6 [99]) (h.ah (ad.at 6 ad.own)) ?_
  have b1:(c6 [97,98]).length≤200000:=dk (by decide) (by decide) (by decide)
  have b2:(c6 [99]).length≤200000:=dk (by decide) (by decide) (by decide)
  have b3:(fU 2).length≤100:=by decide+kernel
  rw [ki,ki,List.length_append]
  refine ⟨by omega,mM (b:=nh (cT [97,98,99])) (h.ah (ad.at 3 ad.own)) ?_⟩
  rw [yg,ki,ki,List.length_append,List.length_append,show (nh (cT [97,98,99])).length=5 from rfl]
  refine ⟨by omega,mM (h.ah ad.own) (aa.t ?_ ?_)⟩
  ·rw [yg,KA];exact DR _
  ·refine wV (h.at 9) (aa.t (show (((bH 300 1 2:Nat):Int)==300)=true by decide) (sS (h.at 9) (aa.t rfl (sS (h.at 4) (aa.t rfl (aa.t rfl (Gb (aa.t rfl (Gc (aa.t rfl (Fb (hK w h.tl))))))))))))
 ·rw [aq]
  dsimp only
  exact aa.f rfl (aa.f rfl (aa.f rfl (aa.f rfl (hr' w h))))
end
end Go.Proofs.YtgglghjnakclmaaGreat
set_option maxRecDepth 20000
namespace Go.Vc
end Go.Vc
namespace Go.Proofs.YtgglghjnakclmaaGreat
open Go Go.Vc
abbrev jo:=Int×Sl×List Nat
def Gj (x:jo):List Value:= [.int .i64 x.1,.slice x.2.1.base x.2.1.len x.2.1.cap]
theorem sL (x:jo):(Gj x).length=2:=rfl
structure vV (s:Sl) (cs:List jo) (w:World):Prop where
 tab:aD 2 s (cs.flatMap Gj) w
 each: ∀x∈cs,aD 1 x.2.1 (x.2.2.map vB) w
section
variable {w:World}
theorem Kw {s:Sl} {cs:List jo} {k:Nat} {K:Int→Prop} (h:vV s cs w) (hk:k<cs.length) (hK:K cs[k].1):an s (k:Int) 2 fun q=>Ld kI (q.add 0) w K:=by
 refine an.el sL (by decide) h.tab rfl hk fun p hp=> ?_
 exact Ld.sc (s:= .int .i64) cs[k].1 (by have:=hp 0 (by decide);simpa [Gj,Sc.enc] using this) hK
theorem te {s:Sl} {cs:List jo} {k:Nat} {K:Sl→Prop} (h:vV s cs w) (hk:k<cs.length) (hK:K cs[k].2.1):an s (k:Int) 2 fun q=>Ld kS (q.add 1) w K:=by
 refine an.el sL (by decide) h.tab rfl hk fun p hp=> ?_
 exact Ld.sc (s:= .sl) cs[k].2.1 (by have:=hp 1 (by decide);simpa [Gj,Sc.enc] using this) hK
end
end Go.Proofs.YtgglghjnakclmaaGreat
namespace Go.Vc
theorem a7.MF {A B C D:Type} {r:A→B→C→D→World→Prop} {k:(A→B→C→D→World→Prop)→Prop} (Q:A→B→C→D→World→Prop) (h1: ∀a b c d w,Q a b c d w→r a b c d w) (h2: ∀r',(∀a b c d w,Q a b c d w→r' a b c d w)→k r'):a7 r k:=h2 r h1
end Go.Vc
namespace Go.Proofs.YtgglghjnakclmaaGreat
open Go Go.Vc Go.Srt Go.Inc Go.Hd Go.aS Go.af Go.Crc Go.Pol Go.Stm
set_option maxRecDepth 20000
def mn (cs:List jo) (k:Nat):Nat:=((cs.take k).map fun x=>min x.2.2.length 200).sum
theorem zN {cs:List jo} {k:Nat} (h:k<cs.length):mn cs (k+1)=mn cs k+min cs[k].2.2.length 200:=by
 unfold mn
 rw [List.take_add_one,List.getElem?_eq_getElem h,List.map_append,List.sum_append];simp
theorem E1 (cs:List jo) {a b:Nat} (h:a≤b):mn cs a≤mn cs b:=by
 unfold mn
 have:=congrArg (fun l=>((l:List jo).map fun x=>min x.2.2.length 200).sum) (List.take_append_drop a (cs.take b))
 simp only [List.map_append,List.sum_append,List.take_take,Nat.min_eq_left h] at this
 omega
section
variable {E w:World} {F:List HP} {b:Nat}
theorem FF {s:Sl} {cs:List jo} {K:Bool→World→Prop} (h:vV s cs w) (hK: ∀b:Bool,(b=true→cs.length≤30∧mn cs cs.length≤150)→K b w):Cl Tryz.prog [kB] l4 ⟨[.slice s.base s.len s.cap]⟩ w K:=by
 refine Bx.ok _ _ _ ?_
 have hl:=aD.len sL (by decide) h.tab
 refine ⟨fun n i w'=> ∃k:Nat,i=(k:Int)∧k≤cs.length∧k≤31∧n=(mn cs k:Int)∧mn cs k≤200*k∧w'=w,fun _ i _=>40 - i.toNat,⟨0,rfl,Nat.zero_le _,by decide,by simp [mn],by simp [mn],rfl⟩,?_⟩
 rintro n i w2 ⟨k,rfl,hk,hk31,rfl,hle,rfl⟩
 refine aa.dm (fun hlt=> ?_) (fun hge=> ?_)
 ·have hlt:k<cs.length:=by omega
  refine aa.dm (fun h30=> ?_) (fun h30=> ?_)
  ·have hb:cs[k].2.2.length=cs[k].2.1.len:=by have:=(h.each _ (List.getElem_mem hlt)).1;simpa using this
   refine te h hlt ?_
   have hs:=zN hlt
   rw [ae (by split<;>omega),ae (by omega)]
   refine ⟨⟨k+1,by omega,by omega,by omega,by rw [hs];split<;>omega,by omega,rfl⟩,by first|omega|(dsimp only;omega)⟩
  ·refine aa.df (by omega) (hK _ fun hc=>by cases hc)
 ·have hk2:k=cs.length:=by omega
  subst hk2
  refine aa.dm (fun h30=> ?_) (fun h30=>hK _ fun hc=>by cases hc)
  exact hK _ fun hc=>⟨by omega,by have:=of_decide_eq_true hc;omega⟩
theorem sD {n budget:Int} {s:Sl} {cs:List jo} {K:Bool→World→Prop} (h:Hp E w F) (hs:ad F (vV s cs)) (hcaps: ∀x∈cs,x.2.1.len≤x.2.1.cap) (hb: ∀x∈cs,∀y∈x.2.2,y<256) (hK: ∀w',Hp E w' F→K true w'):
  Cl Tryz.prog [kB] fm ⟨[.int .i64 n,.int .i64 budget,.slice s.base s.len s.cap]⟩ w K:=by
 refine q7.ok _ _ _ _ _ ?_
 refine a7.vA (fun w=>Hp E w F∧(budget≤20000∨1048576<budget)∧cs.length≤30∧mn cs cs.length≤150) (fun w ⟨h,hbud,h30,h150⟩=> ?_) fun r' hr'=> ?_
 ·have hl:=aD.len sL (by decide) (h.ah hs).tab
  refine rJ h (by omega) (fun N B hN hB hN1 hN2 _ hB2 hm b1 A1 w h=> ?_) (fun hno w h=> ?_)
  ·refine Cw h (fun N' B' hN' hB' _ _ _ _ _ b2 A2 w h=> ?_) (fun hno=>absurd (by
    unfold bp
    rw [if_neg (by omega),if_neg (by rw [hN,hB];exact hm)]) hno)
   obtain rfl:N=N':=by omega
   obtain rfl:B=B':=by omega
   refine a7.vA (fun w=>Hp E w (bZ b1 (EC.new N (a8 B N 1) A1)::bM b2 {EC.new N (a8 B N 1) A1 with A:=A2}::F)) (fun w h=> ?_) fun r' hr'=> ?_
   ·refine aa.f rfl ?_
    refine ⟨fun i w=> ∃(k:Nat) (C:EC),i=(k:Int)∧k≤cs.length∧C.all.length≤mn cs k∧C.n=N∧Hp E w (bZ b1 C::bM b2 {C with A:=A2}::F),fun i _=>cs.length - i.toNat,⟨0,EC.new N (a8 B N 1) A1,rfl,Nat.zero_le _,Nat.zero_le _,rfl,h⟩,?_⟩
    rintro i w ⟨k,C,rfl,hk,hall,hCn,h⟩
    refine aa.dm (fun hlt=> ?_) (fun hge=>rP h fun w h=>hK w h.tl)
    have hlt:k<cs.length:=by omega
    have hsu:=zN hlt
    have hle:=E1 cs (show k+1≤cs.length by omega)
    have hle2:=E1 cs hk
    refine a7.vA (fun w=> ∃C:EC,C.all.length≤mn cs (k+1)∧C.n=N∧Hp E w (bZ b1 C::bM b2 {C with A:=A2}::F)) (fun w ⟨C,ha,hn,h⟩=> ?_) fun r' hr'=> ?_
    ·rw [ae (by omega)]
     exact ⟨⟨k+1,C,by omega,by omega,ha,hn,h⟩,by first|omega|(dsimp only;omega)⟩
    refine a7.MF (fun (a b:Sl) (g h':Int) w=>g=h'∧∃(C:EC) (T:List Nat),C.all.length≤mn cs (k+1)∧C.n=N∧Hp E w (OB a T::OB b T::bZ b1 C::bM b2 {C with A:=A2}::F)) ?_ fun r'' hr''=> ?_
    ·rintro a b g _ w ⟨rfl,C,T,ha,hn,h⟩
     rw [aq];dsimp only
     rw [aq];dsimp only
     obtain ⟨s1,s2,okR,h⟩:=(qB (h.at 3))
     have hl1:({C with A:=A2}:EC).held.length=s1.len:=OB.len (h.at 1)
     have hl1:C.held.length=s1.len:=hl1
     have back: ∀{w},Hp E w (mm b2 {C with A:=A2} s1 s2::OB s1 ({C with A:=A2}:EC).held::OB s2 ({C with A:=A2}:EC).all::OB a T::OB b T::bZ b1 C::F)→r' w:=fun h=>hr' _ ⟨C,ha,hn,((((bM.shut okR h).no 1).no 1).at 1)⟩
     have h:=h.drew (n:=w.drawn+1)
     have m1:bH C.n 1 C.mode=bH ({C with A:=A2}:EC).n 1 ({C with A:=A2}:EC).mode:=rfl
     refine ⟨di b2 _ _ (0,0),h.hb,?_,?_⟩
     ·refine mM (h.ah (ad.at 3 ad.own)) ⟨h.hb,mM (h.ah (ad.at 4 ad.own)) ⟨h.hb,aa.f (by rw [DR];rfl) (aa.nf rfl ?_)⟩⟩
      (try simp only [aj,ak,Nat.zero_add,Nat.add_zero,Nat.reduceAdd,Bool.not_true,Bool.not_false,az,ay,Option.isNone])
      refine aG.xb (x:=s1) (fun _ h=>h) rfl (xB (h.at 5) ⟨h.hb,aa.nf (by omega) ?_⟩)
      refine aG.xb (x:=(C.mode:Int)) (fun _ h=>h) rfl (sS (h.at 5) ⟨h.hb,aa.nf rfl ?_⟩)
      refine aG.xb (x:=(bH C.n 1 C.mode:Int)) (fun _ h=>h) rfl (wV (h.at 5) ⟨h.hb,aa.nf rfl (back h)⟩)
     ·refine mM (h.ah (ad.at 4 ad.own)) ⟨h.hb,mM (h.ah (ad.at 3 ad.own)) ⟨h.hb,aa.f (by rw [DR];rfl) (aa.nf rfl ?_)⟩⟩
      (try simp only [aj,ak,Nat.zero_add,Nat.add_zero,Nat.reduceAdd,Bool.not_true,Bool.not_false,az,ay,Option.isNone])
      refine aG.xb (x:=s1) (fun _ h=>h) rfl (xB (h.at 5) ⟨h.hb,aa.nf (by omega) ?_⟩)
      refine aG.xb (x:=(C.mode:Int)) (fun _ h=>h) rfl (sS (h.at 5) ⟨h.hb,aa.nf rfl ?_⟩)
      refine aG.xb (x:=(bH C.n 1 C.mode:Int)) (fun _ h=>h) rfl (wV (h.at 5) ⟨h.hb,aa.nf rfl (back h)⟩)
    ·refine Kw (h.ah hs.cons.cons) hlt ?_
     have hxb:=hb _ (List.getElem_mem hlt)
     have hcp:=hcaps _ (List.getElem_mem hlt)
     have hnm:cs[k].2.2.length≤150∧C.all.length+cs[k].2.2.length≤mn cs (k+1):=by
      have:min cs[k].2.2.length 200≤150:=by omega
      omega
     have hsl: ∀{A B:HP},ad (A::B::F) (aD 1 cs[k].2.1 (cs[k].2.2.map vB)):=(hs.imp fun w hw=>hw.each _ (List.getElem_mem hlt)).cons.cons
     have none2: ∀{w},Hp E w (bZ b1 C::bM b2 {C with A:=A2}::F)→r'' ⟨none,0,0⟩ ⟨none,0,0⟩ 280 280 w:=fun h=>hr'' _ _ _ _ _ ⟨rfl,C,[],by omega,hCn,(h.a9 1).a9 1⟩
     refine aa.em (fun _=> ?_) (fun _=>aa.em (fun _=> ?_) (fun _=> ?_))
     ·refine te (h.ah hs.cons.cons) hlt ?_
      cases hc:C.closed with
      |true=>
       refine yK hc h fun h=>te (h.ah hs.cons.cons) hlt (DX (C:={C with A:=A2}) hc (h.at 1) fun h=>none2 (h.at 1))
      |false=>
       refine As (x:=cs[k].2.2) hc h ((hs.imp fun w hw=>hw.each _ (List.getElem_mem hlt)).cons) hxb (by omega) hcp fun s37 w h=> ?_
       refine te (h.ah hs.cons.cons.cons) hlt ?_
       refine Hv (C:={C with A:=A2}) (x:=cs[k].2.2) hc (h.at 2) hsl hxb (by show C.all.length+_≤_;omega) fun s42 w h=>hr'' _ _ _ _ _ ⟨rfl,C.wr cs[k].2.2,C.iE cs[k].2.2,by show (C.all++cs[k].2.2).length≤_;rw [List.length_append];omega,hCn,?_⟩
       exact ((h.at 1).at 3|>.at 2).at 3
     ·cases hc:C.closed with
      |true=>exact K6 hc h fun h=>vR (C:={C with A:=A2}) hc (h.at 1) fun h=>none2 (h.at 1)
      |false=>
       refine qj hc h fun s37 w h=>Ag (C:={C with A:=A2}) hc (h.at 2) fun s42 w h=>hr'' _ _ _ _ _ ⟨rfl,C.fl,C.hC,by show C.all.length≤_;omega,hCn,?_⟩
       exact ((h.at 1).at 3|>.at 2).at 3
     ·cases hc:C.closed with
      |true=>exact FO hc h fun h=>DB (C:={C with A:=A2}) hc (h.at 1) fun h=>none2 (h.at 1)
      |false=>
       refine uM hc h fun s37 w h=>GG (C:={C with A:=A2}) hc (h.at 2) fun s42 w h=>hr'' _ _ _ _ _ ⟨rfl,C.cl,C.vL,by show C.all.length≤_;omega,hCn,?_⟩
       exact ((h.at 1).at 3|>.at 2).at 3
   ·rw [aq];dsimp only
    exact aa.f rfl (aa.f rfl (hr' w (h.at 1)))
  ·refine Cw h (fun N B hN hB h1 h2 h3 h4 hm b2 A2 w h=>absurd (by
    unfold bp
    rw [if_neg (by omega),if_neg (by rw [hN,hB];exact hm)]) hno) (fun _ w h=> ?_)
   rw [aq];dsimp only
   rw [aq];dsimp only
   refine aa.nf rfl (aa.f ?_ (aa.t rfl (rP h hK)))
   have:(((bp budget n 1).2:Int) !=0)=true:=bne_iff_ne.2 (by omega)
   rw [this];rfl
 ·rw [aq];dsimp only
  have wk:Cl Tryz.prog [kB] eN ⟨[]⟩ w K:=rP h hK
  refine FF (h.ah hs) fun g hg=> ?_
  cases g with
  |false=>exact aa.t rfl (aa.t rfl wk)
  |true=>
   obtain ⟨h30,h150⟩:=hg rfl
   exact aa.f rfl (aa.dm (fun g1=>aa.dm (fun _=>wk) fun g2=>hr' w ⟨h,by omega,h30,h150⟩) fun g1=>aa.f rfl (hr' w ⟨h,by omega,h30,h150⟩))
end
end Go.Proofs.YtgglghjnakclmaaGreat
set_option maxRecDepth 20000
namespace Go.Vc
open Go Go.RowKit Go.ChangeShapes Go.WideShapes
section
variable {H:Type} {enc:TypeId×Value→H} {P:Program} {W:World}
def e7 (enc:TypeId×Value→H) (P:Program) (W:World) (t:TypeId) (cs:List Value):Prop:= ∃fuel x,DataW.trod enc P W 0 (fun _=>true) true fuel t cs=some x
theorem e7.int {t:TypeId} {k:IntKind} {cs:List Value} (h:e7 enc P W t cs) (ht:P.underlying t=some (.int k)): ∃n,cs= [.int k n]∧(Lit.int k n).wf=true:=by
 obtain ⟨m,x,h⟩:=h
 obtain ⟨n,h1,_,h2⟩:=DataW.trod_int ht h
 exact ⟨n,h1,h2⟩
theorem e7.bool {t:TypeId} {cs:List Value} (h:e7 enc P W t cs) (ht:P.underlying t=some .bool): ∃b,cs= [.bool b]:=by
 obtain ⟨m,x,h⟩:=h
 obtain ⟨n,h1,_⟩:=DataW.trod_bool ht h
 exact ⟨n,h1⟩
theorem e7.string {t:TypeId} {cs:List Value} (h:e7 enc P W t cs) (ht:P.underlying t=some .string): ∃s:ByteArray,cs= [.string s]∧s.size≤maxLen:=by
 obtain ⟨m,x,h⟩:=h
 obtain ⟨n,h1,_,h2⟩:=DataW.trod_string ht h
 exact ⟨n,h1,h2⟩
theorem xU {a:Addr} {n:Nat} {cs:List Value} (h:W.cells? 0 a n=some cs):cs.length=n∧∀i (hi:i<cs.length),W.cell? (a.add i)=some cs[i]:=by
 unfold World.cells? at h
 rw [if_pos (Nat.zero_le _)] at h
 have hl:cs.length=n:=by simpa using mapM_some_length h
 refine ⟨hl,fun i hi=> ?_⟩
 have:=mapM_some_get h i i (List.getElem?_range (by omega))
 rw [this,List.getElem?_eq_getElem hi]
theorem tT {α:Type} {sz:Nat}: ∀{xs:List (List α)} (_: ∀x∈xs,x.length=sz) (i j:Nat) (hi:i<xs.length) (_:j<sz),xs.flatten[i*sz+j]? =xs[i][j]?
 |x::xs,h,0,j,_,hj=>by
  have hx:=h x (by simp)
  rw [List.flatten_cons,List.getElem?_append_left (by omega),Nat.zero_mul,Nat.zero_add];rfl
 |x::xs,h,i+1,j,hi,hj=>by
  have hx:=h x (by simp)
  rw [List.flatten_cons,List.getElem?_append_right (by rw [hx,Nat.succ_mul];omega),hx,show (i+1)*sz+j - sz=i*sz+j by rw [Nat.succ_mul];omega,
   tT (fun y hy=>h y (List.mem_cons_of_mem _ hy)) i j (by simpa using hi) hj]
  rfl
theorem uP {α:Type} {sz:Nat}: ∀{xs:List (List α)} (_: ∀x∈xs,x.length=sz),xs.flatten.length=xs.length*sz
 | [],_=>by simp
 |x::xs,h=>by
  rw [List.flatten_cons,List.length_append,h x (by simp),uP (fun y hy=>h y (List.mem_cons_of_mem _ hy)),List.length_cons,Nat.succ_mul];omega
theorem e7.slice {t e:TypeId} {cs:List Value} (h:e7 enc P W t cs) (ht:P.underlying t=some (.slice e)):
  ∃(s:Sl) (xs:List (List Value)),cs= [.slice s.base s.len s.cap]∧s.len≤s.cap∧s.cap≤maxLen∧xs.length=s.len∧(∀x∈xs,e7 enc P W e x)∧(∀x∈xs,x.length=P.cellsOf e)∧aD (P.cellsOf e) s xs.flatten W:=by
 obtain ⟨m,x,h⟩:=h
 rcases DataW.trod_slice ht h with ⟨h1,_⟩|⟨a,len,cap,elems,rest,n,rfl,h1,_,_,hlc,hcm,hel,hget,_⟩
 ·exact ⟨⟨none,0,0⟩,[],h1,Nat.le_refl _,Nat.zero_le _,rfl,by simp,by simp,by simp,by simp⟩
 ·have hx: ∀i,i<len→∃cs,W.cells? 0 (a.add (i*P.cellsOf e)) (P.cellsOf e)=some cs∧e7 enc P W e cs:=by
   intro i hi
   have:=hget i hi
   rw [List.getElem?_eq_getElem (by omega)] at this
   obtain ⟨cs,h2,h3⟩:=Option.bind_eq_some_iff.1 this
   exact ⟨cs,h2,n,_,h3⟩
  have key: ∀k,k≤len→∃xs:List (List Value),xs.length=k∧∀i (hi:i<xs.length),W.cells? 0 (a.add (i*P.cellsOf e)) (P.cellsOf e)=some xs[i]∧e7 enc P W e xs[i]:=by
   intro k
   induction k with
   |zero=>exact fun _=>⟨[],rfl,fun i hi=>by simp at hi⟩
   |succ k ih=>
    intro hk
    obtain ⟨xs,hl,hxs⟩:=ih (by omega)
    obtain ⟨cs,h2,h3⟩:=hx k (by omega)
    refine ⟨xs++ [cs],by simp [hl],fun i hi=> ?_⟩
    by_cases hik:i<xs.length
    ·rw [List.getElem_append_left hik];exact hxs i hik
    ·have:i=k:=by simp [hl] at hi;omega
     subst this
     rw [List.getElem_append_right (by omega)]
     simp only [hl,Nat.sub_self,List.getElem_cons_zero]
     exact ⟨h2,h3⟩
  obtain ⟨xs,hl,hxs⟩:=key len (Nat.le_refl _)
  have hsz: ∀x∈xs,x.length=P.cellsOf e:=by
   intro x hx
   obtain ⟨i,hi,rfl⟩:=List.getElem_of_mem hx
   exact (xU (hxs i hi).1).1
  refine ⟨⟨some a,len,cap⟩,xs,h1,hlc,hcm,hl,fun x hx=> ?_,hsz,?_,fun i hi=>⟨a,rfl,?_⟩⟩
  ·obtain ⟨i,hi,rfl⟩:=List.getElem_of_mem hx
   exact (hxs i hi).2
  ·rw [uP hsz,hl]
  ·rw [uP hsz,hl] at hi
   have hz:0<P.cellsOf e:=by
    rcases Nat.eq_zero_or_pos (P.cellsOf e) with h0|h0
    ·rw [h0] at hi;simp at hi
    ·exact h0
   have e1:i/P.cellsOf e*P.cellsOf e+i % P.cellsOf e=i:=by rw [Nat.mul_comm];exact Nat.div_add_mod i _
   have hq:i/P.cellsOf e<xs.length:=by rw [hl];exact (Nat.div_lt_iff_lt_mul hz).2 hi
   have hr:=Nat.mod_lt i hz
   obtain ⟨c1,c2⟩:=xU (hxs _ hq).1
   have c3:=c2 (i % P.cellsOf e) (by omega)
   have c4:=tT hsz _ _ hq hr
   have c5:(a.add (i/P.cellsOf e*P.cellsOf e)).add (i % P.cellsOf e)=a.add i:=by
    conv=>rhs;rw [←e1]
    unfold Addr.add
    by_cases e1:i/P.cellsOf e*P.cellsOf e=0<;>by_cases e2:i % P.cellsOf e=0<;>simp [e1,e2,Nat.add_assoc]
   rw [c5] at c3
   rw [c3,←List.getElem?_eq_getElem,←c4]
   simp only [e1]
   exact List.getElem?_eq_getElem _
theorem e7.struct {t:TypeId} {fs:Array Field} {cs:List Value} (h:e7 enc P W t cs) (ht:P.underlying t=some (.struct fs)):cs.length=P.cellsOf t∧∀(i:Nat) (f:Field),fs[i]? =some f→e7 enc P W f.type ((cs.drop f.offset).take (P.cellsOf f.type)):=by
 obtain ⟨m,x,h⟩:=h
 obtain ⟨xs,n,_,_,h2,h3,h4⟩:=DataW.trod_struct ht h
 refine ⟨h2,fun i f hf=> ?_⟩
 have hi:i<fs.size:=by
  rcases Nat.lt_or_ge i fs.size with hh|hh
  ·exact hh
  ·rw [Array.getElem?_eq_none hh] at hf;cases hf
 have:=h4 i f hf
 rw [List.getElem?_eq_getElem (by omega)] at this
 exact ⟨n,_,this⟩
def EO (P:Program) (t:TypeId) (i:Nat) (ft:TypeId) (off n:Nat):Bool:=match P.underlying t with
 |some (.struct fs)=>match fs[i]? with
  |some f=>f.type==ft&&f.offset==off&&P.cellsOf ft==n
  |none=>false
 |_=>false
theorem e7.field {t:TypeId} {cs:List Value} (h:e7 enc P W t cs) (i:Nat) (ft:TypeId) (off n:Nat) (hf:EO P t i ft off n=true):e7 enc P W ft ((cs.drop off).take n):=by
 unfold EO at hf
 split at hf
 ·rename_i fs ht
  split at hf
  ·rename_i f hfi
   simp only [Bool.and_eq_true,beq_iff_eq] at hf
   obtain ⟨⟨rfl,rfl⟩,rfl⟩:=hf
   exact (h.struct ht).2 i f hfi
  ·cases hf
 ·cases hf
theorem e7.array {t e:TypeId} {n:Nat} {cs:List Value} (h:e7 enc P W t cs) (ht:P.underlying t=some (.array n e)):cs.length=P.cellsOf t∧∀i,i<n→e7 enc P W e ((cs.drop (i*P.cellsOf e)).take (P.cellsOf e)):=by
 obtain ⟨m,x,h⟩:=h
 obtain ⟨xs,n',_,_,h2,h3,h4⟩:=DataW.trod_array ht h
 refine ⟨h2,fun i hi=> ?_⟩
 have:=h4 i hi
 rw [List.getElem?_eq_getElem (by omega)] at this
 exact ⟨n',_,this⟩
theorem sW {α β:Type} {g:α→β} {Good:α→Prop}: ∀{xs:List β} (_: ∀x∈xs,∃a,x=g a∧Good a),∃l:List α,xs=l.map g∧∀a∈l,Good a
 | [],_=>⟨[],rfl,by simp⟩
 |x::xs,h=>by
  obtain ⟨a,rfl,ha⟩:=h x (by simp)
  obtain ⟨l,rfl,hl⟩:=sW (fun y hy=>h y (List.mem_cons_of_mem _ hy))
  exact ⟨a::l,rfl,by simpa using ⟨ha,hl⟩⟩
theorem sq {α β:Type} {g:α→β} (l:List α):(l.map fun a=> [g a]).flatten=l.map g:=by
 induction l with
 |nil=>rfl
 |cons a l ih=>simp [ih]
theorem wf_u8 {n:Int} (h:(Lit.int .u8 n).wf=true):0≤n∧n≤255:=by
 simp [Lit.wf,IntKind.min,IntKind.max,IntKind.signed,IntKind.bits] at h
 exact h
def wI (W:World) (s:Sl) (b:List Nat):Prop:=aD 1 s (b.map vB) W∧(∀y∈b,y<256)∧s.len≤s.cap∧s.cap≤maxLen
theorem e7.bytes {t e:TypeId} {cs:List Value} (h:e7 enc P W t cs) (ht:P.underlying t=some (.slice e)) (he:P.underlying e=some (.int .u8)) (hc:P.cellsOf e=1): ∃s b,cs= [.slice s.base s.len s.cap]∧wI W s b:=by
 obtain ⟨s,xs,h1,h2,h3,h4,h5,h6,h7⟩:=h.slice ht
 obtain ⟨l,rfl,hl⟩:=sW (g:=fun y:Nat=> [vB y]) (Good:=fun y=>y<256) (xs:=xs) fun x hx=>by
  obtain ⟨n,rfl,hn⟩:=(h5 x hx).int he
  have:=wf_u8 hn
  obtain ⟨m,rfl⟩:=Int.eq_ofNat_of_zero_le this.1
  exact ⟨m,rfl,by omega⟩
 rw [sq,hc] at h7
 exact ⟨s,l,h1,h7,hl,h2,h3⟩
theorem e7.ints {t e:TypeId} {k:IntKind} {cs:List Value} (h:e7 enc P W t cs) (ht:P.underlying t=some (.slice e)) (he:P.underlying e=some (.int k)) (hc:P.cellsOf e=1):
  ∃s,∃l:List Int,cs= [.slice s.base s.len s.cap]∧aD 1 s (l.map (.int k)) W∧(∀y∈l,(Lit.int k y).wf=true)∧s.len≤s.cap∧s.cap≤maxLen:=by
 obtain ⟨s,xs,h1,h2,h3,h4,h5,h6,h7⟩:=h.slice ht
 obtain ⟨l,rfl,hl⟩:=sW (g:=fun y:Int=> [Value.int k y]) (Good:=fun y=>(Lit.int k y).wf=true) (xs:=xs) fun x hx=>by
  obtain ⟨n,rfl,hn⟩:=(h5 x hx).int he
  exact ⟨n,rfl,hn⟩
 rw [sq,hc] at h7
 exact ⟨s,l,h1,h7,hl,h2,h3⟩
def Arg (enc:TypeId×Value→H) (P:Program) (W:World) (t:TypeId) (v:Value):Prop:=(∃base,Value.okWide P W .any base t v)∧e7 enc P W t v.cells.toList
def Ee (enc:TypeId×Value→H) (P:Program) (W:World):List TypeId→List Value→Prop
 | [],vs=>vs= []
 |t::ts,vs=> ∃v vs',vs=v::vs'∧Arg enc P W t v∧Ee enc P W ts vs'
theorem Arg.one {t:TypeId} {v:Value} (h:Arg enc P W t v) (hv:v.cells.toList= [v]):e7 enc P W t [v]:=by
 have:=h.2
 rwa [hv] at this
theorem Arg.slice {t e:TypeId} {v:Value} (h:Arg enc P W t v) (ht:P.underlying t=some (.slice e)):e7 enc P W t [v]:=by
 obtain ⟨base,hb⟩:=h.1
 obtain ⟨a,l,c,rfl⟩:=okWide_slice ht hb
 exact h.one rfl
theorem Arg.bytes {t e:TypeId} {v:Value} (h:Arg enc P W t v) (ht:P.underlying t=some (.slice e)) (he:P.underlying e=some (.int .u8)) (hc:P.cellsOf e=1): ∃s b,v= .slice s.base s.len s.cap∧wI W s b:=by
 obtain ⟨s,b,h1,h2⟩:=(h.slice ht).bytes ht he hc
 exact ⟨s,b,by simpa using h1,h2⟩
theorem Arg.ints {t e:TypeId} {k:IntKind} {v:Value} (h:Arg enc P W t v) (ht:P.underlying t=some (.slice e)) (he:P.underlying e=some (.int k)) (hc:P.cellsOf e=1):
  ∃s,∃l:List Int,v= .slice s.base s.len s.cap∧aD 1 s (l.map (.int k)) W∧(∀y∈l,(Lit.int k y).wf=true)∧s.len≤s.cap∧s.cap≤maxLen:=by
 obtain ⟨s,l,h1,h2⟩:=(h.slice ht).ints ht he hc
 exact ⟨s,l,by simpa using h1,h2⟩
theorem Arg.int {t:TypeId} {k:IntKind} {v:Value} (h:Arg enc P W t v) (ht:P.underlying t=some (.int k)): ∃n,v= .int k n∧(Lit.int k n).wf=true:=by
 obtain ⟨base,hb⟩:=h.1
 obtain ⟨n,rfl⟩:=okWide_int ht hb
 obtain ⟨m,h1,h2⟩:=(h.one rfl).int ht
 cases h1
 exact ⟨n,rfl,h2⟩
theorem Arg.string {t:TypeId} {v:Value} (h:Arg enc P W t v) (ht:P.underlying t=some .string): ∃s:ByteArray,v= .string s∧s.size≤maxLen:=by
 obtain ⟨base,hb⟩:=h.1
 obtain ⟨n,rfl⟩:=okWide_string ht hb
 obtain ⟨m,h1,h2⟩:=(h.one rfl).string ht
 cases h1
 exact ⟨n,rfl,h2⟩
theorem Arg.struct {t:TypeId} {fs:Array Field} {v:Value} (h:Arg enc P W t v) (ht:P.underlying t=some (.struct fs)): ∃cs,v= .agg cs∧e7 enc P W t cs.toList:=by
 obtain ⟨base,hb⟩:=h.1
 obtain ⟨cs,rfl,_⟩:=okWide_struct ht hb
 exact ⟨cs,rfl,h.2⟩
theorem Ct: ∀{ts:List TypeId} {vs:List Value} {ds:List (DataW H)} {ps:List MemPlace},DataW.TrodAll enc P W 0 (fun _=>true) true ts vs ds ps→(∀(j:Nat) t v,ts[j]? =some t→vs[j]? =some v→∃base,Value.okWide P W .any base t v)→Ee enc P W ts vs
 | [],[],[],_,_,_=>rfl
 |t::ts,v::vs,d::ds,ps,h,hv=>by
  obtain ⟨p,q,⟨fuel,h1⟩,h2,_⟩:=h
  exact ⟨v,vs,rfl,⟨hv 0 t v rfl rfl,fuel,_,h1⟩,Ct h2 fun j t' v' a b=>hv (j+1) t' v' a b⟩
theorem tO: ∀{ts:List TypeId} {vs:List Value} {ds:List (DataW H)} {ps:List MemPlace},DataW.TrodAll enc P W 0 (fun _=>true) true ts vs ds ps→ds.length=ts.length
 | [],[],[],_,_=>rfl
 |_::_,_::_,_::_,_,h=>by
  obtain ⟨p,q,_,h2,_⟩:=h
  simp [tO h2]
theorem rj (hl:laidOutB P=true) {W':World} (hb:Below W.heap.size W W'): ∀{ts:List TypeId} {vs:List Value} {ds:List (DataW H)} {ps:List MemPlace},DataW.TrodAll enc P W 0 (fun _=>true) true ts vs ds ps→
  (∀t∈ts,P.readableRec t=true∧t<P.types.size)→∃qs,DataW.TrodAll enc P W' 0 (fun b=>decide (b<W.heap.size)) true ts vs ds qs
 | [],[],[],_,_,_=>⟨[],rfl⟩
 |t::ts,v::vs,d::ds,ps,h,hr=>by
  obtain ⟨p,q,h1,h2,_⟩:=h
  obtain ⟨qs,h3⟩:=rj hl hb h2 fun t ht=>hr t (List.mem_cons_of_mem _ ht)
  obtain ⟨ht1,ht2⟩:=hr t (by simp)
  have hlt: ∀x∈p,x.block<W.heap.size:=by obtain ⟨m,hm⟩:=h1;exact DataW.trod_lt m _ _ _ hm
  exact ⟨_,p,qs,Below.trod hl ht1 ht2 h1 hb hlt,h3,rfl⟩
theorem H3 {C:Checked} {os:Os} {f:FuncId} {fn:Func} {s:ChangeSpec} {conds:List PathCond} {tb:TypeId}
  (own:ownKnob C.prog.godebug=none) (started:os.Started) (noInit:C.prog.inits.idxOf? f=none) (hfn:C.prog.funcs[f]? =some fn)
  (witness: ∃(w:World) (tape:Tape) (i:Input),w.os=os∧(w.forCall tape i).Shaped C.prog∧i.vars= []∧Input.okWide C.prog (w.forCall tape i) .any w.heap.size f i∧
   s.pre6 enc C.prog fn conds false (w.forCall tape i).memory i.args∧({}:Assume).holds C.prog (lone (Frame.enter C.prog f i.args .normal) [] (w.forCall tape i)))
  (hvars:s.vars= []) (hres:fn.resultTypes= #[tb]) (htb:C.prog.underlying tb=some .bool)
  (hspec: ∀ds:List (DataW H),ds.length=fn.params.toList.length→s.fn H ds={results:= [.lit (.bool true)],args:=ds})
  (laid:laidOutB C.prog=true) (hr:fn.params.toList.all (fun t=>C.prog.readableRec t&&decide (t<C.prog.types.size))=true)
  (contract: ∀(W:World) (args:Array Value) (ds:List (DataW H)),Ee enc C.prog W fn.params.toList args.toList→(DataW.weightsEach C.prog fn.params.toList ds).all (·≤reachBytes)=true→
   Cl C.prog [kB] f args W (fun b w'=>b=true∧Below W.heap.size W w')):
  ReturnsInHanded {} C os f .any (s.pre6 enc C.prog fn conds false) (s.post enc C.prog fn false true false false):=by
 refine returnsInHanded_of_change_sized own started noInit hfn witness ?_
 intro W base args ds gs before hval hW _ hz _
 have hW':=hW
 obtain ⟨p,q,hA,hV,rfl,hfz,hnd⟩:=hW
 rw [hvars] at hV
 obtain ⟨rfl,rfl⟩:=trodVars_none hV
 have hlen:=tO hA
 have hz':(DataW.weightsEach C.prog fn.params.toList ds).all (·≤reachBytes)=true:=by
  have e:s.plain.varTypes C.prog= []:=by
   simp [DataSpec.varTypes,ChangeSpec.plain,hvars]
  rw [e,List.append_nil,List.append_nil] at hz
  exact hz
 have hargs:=Ct (vs:=args.toList) hA fun j t v ht hv=>⟨base,hval j t v (by simpa using ht) (by simpa using hv)⟩
 refine Calls.mono (contract W args ds hargs hz') fun e W' hp=> ?_
 cases e with
 |returned v=>
  obtain ⟨b,hv,hb,bel⟩:=Ki.cL (k:=kB) hp
  subst hb
  have hv:v= .bool true:=hv
  subst hv
  have hsp:=hspec ds hlen
  obtain ⟨qs,hq⟩:=rj laid bel hA fun t ht=>by
   have:=List.all_eq_true.1 hr t ht
   simpa using this
  refine ⟨_,rfl,ds,[],_,[],qs,[],hW',?_,?_,?_,bel.frame _,fun h=>by cases h⟩
  ·rw [List.append_nil,hsp,hres]
   exact trodAll_mk1 (shut_bool htb _)
  ·rw [List.append_nil,hsp];exact hq
  ·rw [hvars]
   have:(s.fn H (ds++ [])).vars= []:=by rw [List.append_nil,hsp]
   rw [this];rfl
 |_=>exact absurd hp (by intro h;exact h)
end
end Go.Vc
set_option maxRecDepth 20000
namespace Go.Vc
open Go Go.RowKit Go.ChangeShapes Go.WideShapes
section
variable {H:Type} {enc:TypeId×Value→H} {P:Program} {W:World}
theorem Arg.agg {t e:TypeId} {n:Nat} {v:Value} (h:Arg enc P W t v) (ht:P.underlying t=some (.array n e)): ∃cs,v= .agg cs∧e7 enc P W t cs.toList:=by
 obtain ⟨base,hb⟩:=h.1
 simp only [Value.okWide,ht] at hb
 obtain ⟨cs,rfl,_⟩:=hb
 exact ⟨cs,rfl,h.2⟩
end
end Go.Vc
