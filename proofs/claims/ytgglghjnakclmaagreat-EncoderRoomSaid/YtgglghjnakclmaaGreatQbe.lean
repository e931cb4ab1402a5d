/- Texts packed together by program; spaces struck by program. Conditions: as each theorem states. -/
import Derived.Carry
import Derived.OpenShut
import Derived.ProofKit
import Derived.SizedLaws
import Derived.Test.YtgglghjnakclmaaGreatQbd
set_option linter.unusedSimpArgs false
set_option linter.unusedVariables false
set_option maxRecDepth 20000
namespace Go.Proofs.YtgglghjnakclmaaGreat
open Go Go.Vc Go.Srt
section
variable {E w:World} {F:List HP}
theorem F8 {n:Nat} {K:Int→World→Prop} (hn:n≤255) (hK:K (wt n:Int) w):Cl Tryz.prog [kI] lU ⟨[.int .u8 (n:Int)]⟩ w K:=by
 refine Bc.ok _ _ _ ?_
 unfold wt at hK
 refine aa.mk (fun h=> ?_) (fun h=>aa.mk (fun h2=> ?_) (fun h2=> ?_))
 ·have h:n=0:=by have:=of_decide_eq_true h;omega
  rw [if_pos h] at hK;exact hK
 ·have h:n≠0:=by have:=of_decide_eq_false h;omega
  have h2:n>15:=by have:=of_decide_eq_true h2;omega
  rw [if_neg h,if_pos h2] at hK;exact hK
 ·have h:n≠0:=by have:=of_decide_eq_false h;omega
  have h2: ¬n>15:=by have:=of_decide_eq_false h2;omega
  rw [if_neg h,if_neg h2] at hK
  refine ⟨fun v i w'=> ∃k v':Nat,i=(k:Int)∧k≤n∧v=(v':Int)∧v'=2^(15 - k)∧w'=w,fun _ i _=>15 - i.toNat,⟨0,32768,rfl,by omega,rfl,by decide,rfl⟩,?_⟩
  rintro v i w' ⟨k,v',rfl,hk,rfl,hv,rfl⟩
  refine aa.mk (fun hlt=> ?_) (fun hge=> ?_)
  ·have hlt:k<n:=by have:=of_decide_eq_true hlt;omega
   have e:2^(15 - k)=2*2^(15 - (k+1)):=by rw [show 15 - k=(15 - (k+1))+1 by omega,Nat.pow_succ,Nat.mul_comm]
   have hb:2^(15 - (k+1))≤2^15:=Nat.pow_le_pow_right (by decide) (by omega)
   have hb2:(2:Nat)^15=32768:=by decide
   have e2:Int.tdiv (v':Int) 2=((2^(15 - (k+1)):Nat):Int):=by
    rw [Int.tdiv_eq_ediv_of_nonneg (by omega),hv,e];omega
   rw [e2,ae (by omega),dN (by omega)]
   exact ⟨by decide,⟨k+1,_,rfl,by omega,rfl,rfl,rfl⟩,by dsimp only;omega⟩
  ·have hge:k=n:=by have:=of_decide_eq_false hge;omega
   subst hge;rw [hv];exact hK
set_option maxRecDepth 20000 in
theorem IF {l:List Nat} {K:Int→World→Prop} (h:Hp E w F) (hl:l.length=258) (h8: ∀x∈l,x≤255) (hK: ∀w',Hp E w' F→K (aO l:Int) w'):Cl Tryz.prog [kI] oQ ⟨[.agg (ai .u8 l)]⟩ w K:=by
 refine Fy.ok _ _ _ ?_
 have hb:=sL l
 refine Nw.mk h fun b w1 h1=>⟨fun sm i w'=> ∃k:Nat,i=(k:Int)∧k≤258∧sm=(aO (l.take k):Int)∧Hp E w' (af b (.cells (ai .u8 l) 104 (0,0))::F),fun _ i _=>258 - i.toNat,⟨0,rfl,by omega,by simp [aO],h1⟩,?_⟩
 rintro sm i w' ⟨k,rfl,hk,rfl,hh⟩
 refine aa.mk (fun hlt=> ?_) (fun hge=> ?_)
 ·have hlt:k<258:=by have:=of_decide_eq_true hlt;omega
  have hkl:k<l.length:=by omega
  refine aw.rd (s:= .int .u8) hh (by omega) (by omega) (l[k]:Int) (by rw [Int.toNat_natCast];exact ee hkl) (F8 (h8 _ (List.getElem_mem hkl)) ?_)
  have e:=lG hkl
  have:=n6 (l:=l) (k:=k+1)
  rw [ae (x:=(aO (l.take k):Int)+(wt l[k]:Int)) (by omega),ae (by omega)]
  exact ⟨⟨k+1,rfl,by omega,by rw [e];rfl,hh⟩,by dsimp only;omega⟩
 ·have hge:k=258:=by have:=of_decide_eq_false hge;omega
  subst hge
  rw [←hl,List.take_length]
  exact hK _ hh.drop
theorem F0 {l:List Nat} {K:Bool→World→Prop} (h:Hp E w F) (hl:l.length=258) (h8: ∀x∈l,x≤255) (hK: ∀w',Hp E w' F→K (gD l) w'):Cl Tryz.prog [kB] lQ ⟨[.agg (ai .u8 l)]⟩ w K:=by
 refine Bd.ok _ _ _ ?_
 refine Nw.mk h fun b w1 h1=>Ld.arr h1 (by rw [au,hl]) (IF h1 hl h8 fun w2 h2=> ?_)
 have e:((aO l:Int)==32768)=decide (aO l=32768):=by rw [Bool.eq_iff_iff];simp;omega
 rw [e]
 refine aa.mk (fun hv=> ?_) (fun hv=> ?_)
 ·refine aw.rd (s:= .int .u8) h2 (by decide) (by decide) (l.getD 257 0:Int) (kL (i:=257) (by omega)) ?_
  have:((l.getD 257 0:Int) !=0)=gD l:=by
   unfold gD;rw [hv,Bool.true_and,Bool.eq_iff_iff,bne_iff_ne,decide_eq_true_eq];omega
  rw [this]
  exact hK _ h2.drop
 ·have:false=gD l:=by unfold gD;rw [hv,Bool.false_and]
  rw [this]
  exact hK _ h2.drop
end
end Go.Proofs.YtgglghjnakclmaaGreat
namespace Go.Proofs.YtgglghjnakclmaaGreat
open Go Go.Vc Go.Srt Go.Inc Go.Tab
section
variable {E w:World} {F:List HP}
theorem KQ (b n:Int):(⟨List.replicate 258 (.int .u8 0)++ [.int .i64 0,.int .i64 b,.int .i64 n,.int .i64 0]⟩:Array Value)=yf (List.replicate 258 0) 0 b n 0:=by
 unfold yf J0
 rw [List.map_replicate];rfl
theorem qW.tb {b n:Int} {K:Array Value→Prop} (hK:K (yf (List.replicate 258 0) 0 b n 0)):qW Tryz.prog 106 [(2,.int .i64 b),(3,.int .i64 n)] K:=by
 refine ⟨_,(by kernel_rfl:Tryz.prog.built 106 [(2,.int .i64 b),(3,.int .i64 n)]=some ⟨List.replicate 258 (.int .u8 0)++ [.int .i64 0,.int .i64 b,.int .i64 n,.int .i64 0]⟩),?_⟩
 rw [KQ];exact hK
set_option maxRecDepth 20000
end
end Go.Proofs.YtgglghjnakclmaaGreat
namespace Go.Vc
end Go.Vc
namespace Go.Proofs.YtgglghjnakclmaaGreat
open Go Go.Vc Go.Srt Go.Inc Go.Tab Go.aS
section
variable {E w:World} {F:List HP}
set_option maxRecDepth 20000
theorem H2 {s:Sl} {b x y:Nat} {t:TypeId} {xs:List Nat} {K:Sl→World→Prop} (h:Hp E w (af b (.cells ⟨[.int .i64 (x:Int),.int .i64 (y:Int)]⟩ t (0,0))::OI s xs::F)) (hl:xs.length≤10000000000) (hK: ∀s' w',Hp E w' (OI s' (xs++ [x,y])::F)→K s' w'):
  av Tryz.prog (Builtin.append_ #[142,142] 142 ⟨[.slice s.base s.len s.cap,.slice (some ⟨b,0,none⟩) 2 2]⟩) kS w K:=by
 have hol:=OI.len (h.at 1)
 refine aI (ys:= [vI (x:Int),vI (y:Int)]) (n:=2) eG (by decide) (.inl ⟨3,by kernel_rfl⟩) (h.at 1) (.inl ⟨some ⟨b,0,none⟩,2,2,rfl,rfl,h.ag (ad.aG rfl rfl)⟩) rfl (by
  intro z hz
  simp only [List.mem_cons,List.not_mem_nil,or_false] at hz
  rcases hz with rfl|rfl<;>rfl) (by omega) (by omega) fun s' w' h _=>hK s' w' ?_
 unfold OI
 rw [r0]
 exact h.du
theorem Gv {was now:Nat} {K:Sl→World→Prop} (h:Hp E w F) (h1:was≤255) (h2:now≤255) (hK: ∀s w',Hp E w' (OI s (cd was now)::F)→K s w'):Cl Tryz.prog [kS] oT ⟨[.int .i64 (was:Int),.int .i64 (now:Int)]⟩ w K:=by
 refine EE.ok _ _ _ _ ?_
 refine ⟨fun m o w=> ∃(q:Nat) (l:List Nat),m=(q:Int)∧q≤255∧l.length≤2*(q+was)∧cd was now=l++cd q now∧Hp E w (OI o l::F),fun m _ _=>255 - m.toNat,⟨was,[],rfl,h1,by simp,rfl,h.bm 1⟩,?_⟩
 rintro m o w ⟨q,l,rfl,hq,hl,hc,h⟩
 refine aa.dm (fun hlt=> ?_) (fun hge=> ?_)
 ·refine Nw.mk h fun b w h=>H2 (x:=1) (y:=0) h (by omega) fun s w h=> ?_
  rw [ae (by omega)]
  refine ⟨⟨q+1,l++ [1,0],rfl,by omega,by rw [List.length_append];simp;omega,?_,h⟩,by first|omega|(dsimp only;omega)⟩
  rw [hc]
  unfold cd
  rw [if_neg (by omega),if_neg (by omega)]
  obtain ⟨j,hj⟩: ∃j,now - q=j+1:=⟨now - q - 1,by omega⟩
  rw [hj,show now - (q+1)=j by omega,show mZ (j+1)=1::0::mZ j from rfl]
  simp
 ·refine ⟨fun m o w=> ∃(q:Nat) (l:List Nat),m=(q:Int)∧q≤255∧now≤q∧l.length≤2*(255 - q)+2000∧cd was now=l++cd q now∧Hp E w (OI o l::F),fun m _ _=>m.toNat,⟨q,l,rfl,hq,by omega,by omega,hc,h⟩,?_⟩
  rintro m o w ⟨q,l,rfl,hq,hnq,hl,hc,h⟩
  refine aa.dm (fun hlt=> ?_) (fun hge=> ?_)
  ·refine Nw.mk h fun b w h=>H2 (x:=1) (y:=1) h (by omega) fun s w h=> ?_
   rw [ae (by omega),show (q:Int) - 1=((q - 1:Nat):Int) by omega]
   refine ⟨⟨q - 1,l++ [1,1],rfl,by omega,by omega,by rw [List.length_append];simp;omega,?_,h⟩,by first|omega|(dsimp only;omega)⟩
   rw [hc]
   obtain ⟨j,hj⟩: ∃j,q - now=j+1:=⟨q - now - 1,by omega⟩
   have e1:cd q now=1::1::(gA j++ [0]):=by
    unfold cd
    rw [if_pos (by omega),hj];rfl
   have e2:cd (q - 1) now=gA j++ [0]:=by
    unfold cd
    split
    ·rw [show q - 1 - now=j by omega]
    ·have:j=0:=by omega
     subst this
     rw [show now - (q - 1)=0 by omega];rfl
   rw [e1,e2];simp
  ·have e:q=now:=by omega
   subst e
   refine Nw.mk h fun b w h=>uV (x:=0) h (by omega) fun s w h=>hK s w ?_
   rw [hc,show cd q q= [0] by unfold cd;simp [mZ]]
   exact h
theorem Fu {l:List Nat} {K:Sl→World→Prop} (h:Hp E w F) (hl:l.length=258) (h8: ∀x∈l,x≤15) (hK: ∀s w',Hp E w' (OI s (eA l)::F)→K s w'):Cl Tryz.prog [kS] np ⟨[.agg (ai .u8 l),.int .i64 (l.headD 0:Int)]⟩ w K:=by
 obtain ⟨x,m,rfl⟩: ∃x m,l=x::m:=by
  cases l with
  |nil=>simp at hl
  |cons x m=>exact ⟨x,m,rfl⟩
 have hx15:=h8 x List.mem_cons_self
 refine C2.ok _ _ _ _ ?_
 show Nw _ _ _ _
 rw [show ((x::m).headD 0)=x from rfl]
 refine Nw.mk h fun b4 w h=>⟨by decide,by decide,by decide,by decide,by decide,by decide,by decide,?_⟩
 rw [show (8:Int)=((8:Nat):Int) from rfl,show (4:Int)=((4:Nat):Int) from rfl,show (2:Int)=((2:Nat):Int) from rfl,uG,uG,uG,u3,ae (x:=((x/8:Nat):Int)) (by omega),ae (x:=((x/4:Nat):Int)) (by omega),ae (x:=((x/2:Nat):Int)) (by omega),u3,u3,u3]
 refine Nw.mk h fun b6 w h=> ?_
 have h:=Hp.fo (n:=4) (sz:=1) h rfl
 have h:Hp E w (OI ⟨some ⟨b6,0,none⟩,4,4⟩ (four x++eo x ((x::m).take 0))::af b4 (.cells (ai .u8 (x::m)) 104 (0,0))::F):=h
 refine ⟨fun was o i w=> ∃k:Nat,i=(k:Int)∧k≤258∧was=((((x::m).take k).getLastD x:Nat):Int)∧Hp E w (OI o (four x++eo x ((x::m).take k))::af b4 (.cells (ai .u8 (x::m)) 104 (0,0))::F),fun _ _ i _=>258 - i.toNat,⟨0,rfl,by omega,rfl,h⟩,?_⟩
 rintro was o i w ⟨k,rfl,hk,rfl,h⟩
 refine aa.dm (fun hlt=> ?_) (fun hge=> ?_)
 ·have hlt:k<258:=by omega
  have hlt2:k<(x::m).length:=by omega
  have hn15:=h8 _ (List.getElem_mem hlt2)
  have hw15:((x::m).take k).getLastD x≤15:=by
   cases hc:((x::m).take k).getLast? with
   |none=>rw [List.getLastD_eq_getLast?,hc];exact hx15
   |some y=>
    rw [List.getLastD_eq_getLast?,hc]
    exact h8 y (List.mem_of_mem_take (List.mem_of_getLast? hc))
  have hk':((x::m).take k++ [(x::m)[k]])=(x::m).take (k+1):=by rw [List.take_add_one,List.getElem?_eq_getElem hlt2];rfl
  have htl:=qu ((x::m).take k) x hx15 fun y hy=>h8 y (List.mem_of_mem_take hy)
  rw [List.length_take] at htl
  have hcl:=wP hw15 hn15
  refine aw.rd (s:= .int .u8) (h.at 1) (by omega) (by omega) ((x::m)[k]:Int) (ee hlt2) ?_
  rw [ae (x:=((x::m)[k]:Int)) (by omega)]
  refine Gv h (by omega) (by omega) fun s16 w h=> ?_
  refine CX (h.at 1) ad.own (by rw [List.length_append,show (four x).length=4 from rfl];omega) (by omega) fun s18 w h=> ?_
  refine aw.rd (s:= .int .u8) (h.at 2) (by omega) (by omega) ((x::m)[k]:Int) (ee hlt2) ?_
  rw [ae (x:=((x::m)[k]:Int)) (by omega),ae (x:=(k:Int)+1) (by omega)]
  refine ⟨⟨k+1,rfl,by omega,?_,?_⟩,by first|omega|(dsimp only;omega)⟩
  ·rw [←hk',List.getLastD_concat]
  ·rw [List.append_assoc,←rA,hk'] at h
   exact h.no 1
 ·have hk2:k=258:=by omega
  subst hk2
  rw [List.take_of_length_le (by omega)] at h
  exact hK o w h.du
theorem I5 {l:List Nat} {K:Sl→Int→World→Prop} (h:Hp E w F) (hl:l.length=258) (h8: ∀x∈l,x≤255) (hbad:gD l=false→∀w',Hp E w' F→K ⟨none,0,0⟩ 2 w')
  (hK:gD l=true→∀s w',Hp E w' (OI s (eA l)::F)→K s 0 w'):Cl Tryz.prog [kS,kI] qx ⟨[.agg (ai .u8 l)]⟩ w K:=by
 refine GB.ok _ _ _ ?_
 have hsz:(ai .u8 l).size=258:=by rw [au,hl]
 refine Nw.mk h fun b3 w h=>Ld.xw h hsz (F0 h hl h8 fun w h=> ?_)
 by_cases hok:gD l=true
 ·rw [hok]
  have h15:=af.vx hok
  have h0:0<l.length:=by omega
  have hhd:l.headD 0=l[0]:=by
   cases l with
   |nil=>simp at h0
   |cons x m=>rfl
  refine aa.f rfl (Ld.xw h hsz (aw.rd (s:= .int .u8) h (by omega) (by omega) (l[0]:Int) (ee h0) ?_))
  have:=h15 _ (List.getElem_mem h0)
  rw [ae (by omega),←hhd]
  exact Fu h hl h15 fun s w h=>hK hok s w h.du
 ·rw [show gD l=false by simpa using hok]
  exact aa.t rfl (hbad (by simpa using hok) w h.tl)
end
end Go.Proofs.YtgglghjnakclmaaGreat
namespace Go.Proofs.YtgglghjnakclmaaGreat
open Go Go.Vc
set_option maxRecDepth 100000
theorem EA.ok (a:Int) (R:Sl→Int→World→Prop) w (h:
 aa (decide (a<0))
 (R (⟨none,0,0⟩:Sl) 2 w)
 (aa (decide (a>2147483647))
 (R (⟨none,0,0⟩:Sl) 2 w)
 ((128:Int)≠0∧
 Nw 5 ⟨[(.int .u8 (u8 (Int.tmod a (128:Int))))]⟩ w fun c b=>
 (128:Int)≠0∧
 br (i64 (Int.tdiv a (128:Int))) (⟨some ⟨c,0,none⟩,1,1⟩:Sl) b fun d e (f:Int) (g:Sl) h=>
 aa (decide (f>0))
 ((128:Int)≠0∧
 Nw 5 ⟨[(.int .u8 (u8 (i64 ((128:Int)+((Int.tmod f (128:Int)):Int)))))]⟩ h fun j i=>
 av Pg (Builtin.append_ #[26,26] 26 ⟨[(ah (⟨some ⟨j,0,none⟩,1,1⟩:Sl)),(ah g)]⟩) kS i fun (l:Sl) k=>
 (128:Int)≠0∧
 d (i64 (Int.tdiv f (128:Int))) l k∧e (i64 (Int.tdiv f (128:Int))) l k<e f g h)
 (R g 0 h)))):Cl Pg [kS,kI] iO ⟨[(ni a)]⟩ w R:=co Tryz.f124 [(12,[(0,kI),(4,kS)])] h
end Go.Proofs.YtgglghjnakclmaaGreat
namespace Go.Proofs.YtgglghjnakclmaaGreat
open Go Go.Vc
set_option maxRecDepth 100000
theorem Ff.ok (a:(TT [.int .i64])) (R:Sl→Int→World→Prop) w (h:
 Nw 116 ⟨[(ni a.1)]⟩ w fun c b=>
 Ld kI (Addr.add ⟨c,0,none⟩ 0) b fun (d:Int)=>
 aa (decide (d<1))
 (R (⟨none,0,0⟩:Sl) 2 b)
 (Ld kI (Addr.add ⟨c,0,none⟩ 0) b fun (e:Int)=>
 aa (decide (e>65536))
 (R (⟨none,0,0⟩:Sl) 2 b)
 (Ld kI (Addr.add ⟨c,0,none⟩ 0) b fun (f:Int)=>
 Cl Pg [kS,kI] iO ⟨[(ni f)]⟩ b fun (h:Sl) (i:Int) g=>
 Nw 5 ⟨[(.int .u8 87),(.int .u8 80),(.int .u8 1)]⟩ g fun k j=>
 av Pg (Builtin.append_ #[26,26] 26 ⟨[(ah (⟨some ⟨k,0,none⟩,3,3⟩:Sl)),(ah h)]⟩) kS j fun (m:Sl) l=>
 R m 0 l))):Cl Pg [kS,kI] oU ⟨[(.agg ⟨[(ni a.1)]⟩)]⟩ w R:=co Tryz.f77 [] h
theorem AJ.ok (a:Int) (R:Sl→World→Prop) w (h:
 Nw 5 ⟨[(.int .u8 0)]⟩ w fun c b=>
 Cl Pg [kS] k8 ⟨[(.int .u32 a)]⟩ b fun (e:Sl) d=>
 av Pg (Builtin.append_ #[26,26] 26 ⟨[(ah (⟨some ⟨c,0,none⟩,1,1⟩:Sl)),(ah e)]⟩) kS d fun (g:Sl) f=>
 R g f):Cl Pg [kS] kU ⟨[(.int .u32 a)]⟩ w R:=co Tryz.f79 [] h
theorem wc.ok (a:Int) (b:(TT [.int .i64,.int .i64,.int .u32])) (R:Sl→Int→World→Prop) w (h:
 Nw 25 ⟨[(ni b.1),(ni b.2.1),(.int .u32 b.2.2.1)]⟩ w fun d c=>
 bD (fun (k:World)=>
 Ld kI (Addr.add ⟨d,0,none⟩ 0) k fun (l:Int)=>
 Cl Pg [kS,kI] iO ⟨[(ni l)]⟩ k fun (n:Sl) (o:Int) m=>
 Ld kI (Addr.add ⟨d,0,none⟩ 1) m fun (p:Int)=>
 Cl Pg [kS,kI] iO ⟨[(ni p)]⟩ m fun (r:Sl) (s:Int) q=>
 Nw 5 ⟨[(.int .u8 1)]⟩ q fun u t=>
 av Pg (Builtin.append_ #[26,26] 26 ⟨[(ah (⟨some ⟨u,0,none⟩,1,1⟩:Sl)),(ah n)]⟩) kS t fun (x:Sl) v=>
 av Pg (Builtin.append_ #[26,26] 26 ⟨[(ah x),(ah r)]⟩) kS v fun (z:Sl) y=>
 Ld (aq .u32) (Addr.add ⟨d,0,none⟩ 2) y fun (a1:Int)=>
 Cl Pg [kS] k8 ⟨[(.int .u32 a1)]⟩ y fun (c1:Sl) b1=>
 av Pg (Builtin.append_ #[26,26] 26 ⟨[(ah z),(ah c1)]⟩) kS b1 fun (e1:Sl) d1=>
 R e1 0 d1) fun e=>
 aa (decide (a<1))
 (R (⟨none,0,0⟩:Sl) 2 c)
 (aa (decide (a>65536))
 (R (⟨none,0,0⟩:Sl) 2 c)
 (Ld kI (Addr.add ⟨d,0,none⟩ 0) c fun (f:Int)=>
 aa (decide (f<1))
 (R (⟨none,0,0⟩:Sl) 2 c)
 (Ld kI (Addr.add ⟨d,0,none⟩ 0) c fun (g:Int)=>
 aa (decide (g>a))
 (R (⟨none,0,0⟩:Sl) 2 c)
 (Ld kI (Addr.add ⟨d,0,none⟩ 1) c fun (h:Int)=>
 aa (decide (h<1))
 (R (⟨none,0,0⟩:Sl) 2 c)
 (Ld kI (Addr.add ⟨d,0,none⟩ 1) c fun (i:Int)=>
 Ld kI (Addr.add ⟨d,0,none⟩ 0) c fun (j:Int)=>
 aa (decide (i>j))
 (R (⟨none,0,0⟩:Sl) 2 c)
 (e c))))))):Cl Pg [kS,kI] jw ⟨[(ni a),(.agg ⟨[(ni b.1),(ni b.2.1),(.int .u32 b.2.2.1)]⟩)]⟩ w R:=co Tryz.f125 [(2,[])] h
end Go.Proofs.YtgglghjnakclmaaGreat
namespace Go.Proofs.YtgglghjnakclmaaGreat
open Go Go.Vc
set_option maxRecDepth 100000
theorem F6.ok (a:Sl) (R:Int→World→Prop) w (h:
 Cl Pg [(aq .u32)] nK ⟨[(.int .u32 0),(ah a)]⟩ w fun (c:Int) b=>
 R c b):Cl Pg [(aq .u32)] mg ⟨[(ah a)]⟩ w R:=co Tryz.f80 [] h
theorem EM.ok (a:Int) (R:Sl→World→Prop) w (h:
 (16777216:Int)≠0∧
 (65536:Int)≠0∧
 (256:Int)≠0∧
 (256:Int)≠0∧
 (256:Int)≠0∧
 (256:Int)≠0∧
 Nw 5 ⟨[(.int .u8 (u8 (u32 (Int.tdiv a (16777216:Int))))),(.int .u8 (u8 (Int.tmod (u32 (Int.tdiv a (65536:Int))) (256:Int)))),(.int .u8 (u8 (Int.tmod (u32 (Int.tdiv a (256:Int))) (256:Int)))),(.int .u8 (u8 (Int.tmod a (256:Int))))]⟩ w fun c b=>
 R (⟨some ⟨c,0,none⟩,4,4⟩:Sl) b):Cl Pg [kS] k8 ⟨[(.int .u32 a)]⟩ w R:=co Tryz.f131 [] h
theorem C4.ok (a:Int) (b:Sl) (R:Int→World→Prop) w (h:
 br (dz .u32 a 4294967295) 0 w fun c d (e:Int) (f:Int) g=>
 aa (decide (f<(b.len:Int)))
 (br e 0 g fun h i (j:Int) (k:Int) l=>
 an b f 1 fun m=>
 Ld kS m l fun (n:Sl)=>
 aa (decide (k<(n.len:Int)))
 (an b f 1 fun o=>
 Ld kS o l fun (p:Sl)=>
 an p k 1 fun q=>
 Ld (aq .u8) q l fun (r:Int)=>
 Cl Pg [(aq .u32)] nC ⟨[(.int .u32 j),(.int .u8 r)]⟩ l fun (t:Int) s=>
 h t (i64 (k+1)) s∧i t (i64 (k+1)) s<i j k l)
 (c j (i64 (f+1)) l∧d j (i64 (f+1)) l<d e f g))
 (R (dz .u32 e 4294967295) g)):Cl Pg [(aq .u32)] nK ⟨[(.int .u32 a),(ah b)]⟩ w R:=co Tryz.f132 [(7,[(0,(aq .u32)),(5,kI)]),(14,[(0,(aq .u32)),(6,kI)])] h
theorem Df.ok (a:Int) (b:Int) (R:Int→World→Prop) w (h:
 (256:Int)≠0∧
 Cl Pg [(aq .u32)] oH ⟨[(.int .u8 (dz .u8 (u8 (Int.tmod a (256:Int))) b))]⟩ w fun (d:Int) c=>
 (256:Int)≠0∧
 R (dz .u32 d (u32 (Int.tdiv a (256:Int)))) c):Cl Pg [(aq .u32)] nC ⟨[(.int .u32 a),(.int .u8 b)]⟩ w R:=co Tryz.f185 [] h
theorem Fb.ok (a:Int) (R:Int→World→Prop) w (h:
 br (u32 a) 0 w fun b c (d:Int) (e:Int) f=>
 aa (decide (e<8))
 ((2:Int)≠0∧
 (2:Int)≠0∧
 aa (((Int.tmod d (2:Int)):Int)==1)
 (b (dz .u32 (u32 (Int.tdiv d (2:Int))) 3988292384) (i64 (e+1)) f∧c (dz .u32 (u32 (Int.tdiv d (2:Int))) 3988292384) (i64 (e+1)) f<c d e f)
 (b (u32 (Int.tdiv d (2:Int))) (i64 (e+1)) f∧c (u32 (Int.tdiv d (2:Int))) (i64 (e+1)) f<c d e f))
 (R d f)):Cl Pg [(aq .u32)] oH ⟨[(.int .u8 a)]⟩ w R:=co Tryz.f251 [(7,[(3,(aq .u32)),(4,kI)])] h
end Go.Proofs.YtgglghjnakclmaaGreat
namespace Go.Proofs.YtgglghjnakclmaaGreat
open Go Go.Vc Go.aS Go.Crc
section
variable {E w:World} {F:List HP}
set_option maxRecDepth 20000
theorem nW (a b:Nat):Int.tmod (a:Int) (b:Int)=((a % b:Nat):Int):=rfl
theorem m9 (a b:Nat):Int.tdiv (a:Int) (b:Int)=((a/b:Nat):Int):=rfl
theorem Lf {b:Nat} {K:Int→World→Prop} (hb:b<256) (hK:K (row b:Int) w):Cl Tryz.prog [aq .u32] oH ⟨[.int .u8 (b:Int)]⟩ w K:=by
 refine Fb.ok _ _ _ ?_
 refine ⟨fun c i w'=>w'=w∧∃k:Nat,i=(k:Int)∧k≤8∧c=(bO k b:Int),fun _ i _=>8 - i.toNat,⟨rfl,0,rfl,by omega,by rw [eI (by omega)];rfl⟩,?_⟩
 rintro c i w' ⟨rfl,k,rfl,hk,rfl⟩
 refine aa.dm (fun hlt=> ?_) (fun hge=> ?_)
 ·have hlt:k<8:=by omega
  have hb:=rN k b (by omega)
  have hm:IntKind.max .u32=4294967295:=rfl
  have h2:=fz hb
  have e1:u32 (Int.tdiv (bO k b:Int) 2)=((bO k b/2:Nat):Int):=by
   rw [show (2:Int)=((2:Nat):Int) from rfl,m9,eI (by omega)]
  have e2:Int.tmod (bO k b:Int) 2=((bO k b % 2:Nat):Int):=nW _ 2
  rw [e1,e2,ae (by omega)]
  have hs:bO (k+1) b=half (bO k b):=rfl
  refine ⟨by decide,by decide,aa.mk (fun ho=> ?_) (fun he=> ?_)⟩
  ·have ho:bO k b % 2=1:=by rw [beq_iff_eq] at ho;omega
   have hh:bO k b/2^^^3988292384=bO (k+1) b:=by rw [hs];unfold half;rw [if_pos ho]
   refine ⟨⟨rfl,k+1,rfl,by omega,?_⟩,by first|omega|(dsimp only;omega)⟩
   rw [show (3988292384:Int)=((3988292384:Nat):Int) from rfl,gQ (by omega) (by omega) (by rw [hh,hs];omega),hh]
  ·have ho: ¬bO k b % 2=1:=by rw [beq_eq_false_iff_ne] at he;omega
   have hh:bO k b/2=bO (k+1) b:=by rw [hs];unfold half;rw [if_neg ho,Nat.xor_zero]
   exact ⟨⟨rfl,k+1,rfl,by omega,by rw [hh]⟩,by first|omega|(dsimp only;omega)⟩
 ·have:k=8:=by omega
  subst this
  exact hK
theorem I2 {c x:Nat} {K:Int→World→Prop} (hc:c<4294967296) (hx:x<256) (hK:K (Crc.step c x:Int) w):Cl Tryz.prog [aq .u32] nC ⟨[.int .u32 (c:Int),.int .u8 (x:Int)]⟩ w K:=by
 refine Df.ok _ _ _ _ ?_
 have hm:IntKind.max .u32=4294967295:=rfl
 have hm8:IntKind.max .u8=255:=rfl
 have hi:=sj (c:=c) hx
 have hr:=AZ (c:=c % 256^^^x) (by omega)
 have hs:=v5 hc hx
 have e1:dz .u8 (u8 (Int.tmod (c:Int) 256)) (x:Int)=((c % 256^^^x:Nat):Int):=by
  rw [show (256:Int)=((256:Nat):Int) from rfl,nW,dN (by omega),gQ (by omega) (by omega) (by omega)]
 rw [e1]
 refine ⟨by decide,Lf hi ⟨by decide,?_⟩⟩
 unfold Crc.step at hs hK
 rw [show (256:Int)=((256:Nat):Int) from rfl,m9,eI (by omega),gQ (by omega) (by omega) (by omega)]
 exact hK
theorem KD {c:Nat} (h:c<4294967296):dz .u32 (c:Int) 4294967295=((c^^^4294967295:Nat):Int):=by
 have hm:IntKind.max .u32=4294967295:=rfl
 have hx:c^^^4294967295<2^32:=Nat.xor_lt_two_pow (by omega) (by decide)
 rw [show (4294967295:Int)=((4294967295:Nat):Int) from rfl,gQ (by omega) (by omega) (by omega)]
theorem Ji {c:Nat} {K:Int→World→Prop} {s:Sl} {cs:List Sl} {bs:List (List Nat)} (h:Hp E w F) (hc0:c<4294967296)
  (hs:ad F (aC 1 s (cs.map fun x=> .slice x.base x.len x.cap))) (hl:cs.length=bs.length) (hcl:cs.length≤cb) (hc: ∀i (h:i<cs.length),ad F (aC 1 cs[i] ((bs.getD i []).map vB)))
  (hby: ∀b∈bs,∀y∈b,y<256) (hbig: ∀b∈bs,b.length≤cb)
  (hK:K ((Crc.feed (c^^^4294967295) bs.flatten^^^4294967295:Nat):Int) w):Cl Tryz.prog [aq .u32] nK ⟨[.int .u32 (c:Int),.slice s.base s.len s.cap]⟩ w K:=by
 refine C4.ok _ _ _ _ ?_
 have hlen:s.len=cs.length:=by have:=(h.ag hs).1;simpa using this.symm
 have hflat: ∀y∈bs.flatten,y<256:=fun y hy=>by
  obtain ⟨b,hb1,hb2⟩:=List.mem_flatten.1 hy
  exact hby b hb1 y hb2
 have hc1:c^^^4294967295<4294967296:=Nat.xor_lt_two_pow (n:=32) hc0 (by decide)
 rw [aA] at hcl
 rw [KD hc0]
 refine ⟨fun x i w'=>w'=w∧∃k:Nat,i=(k:Int)∧k≤cs.length∧x=(Crc.feed (c^^^4294967295) (bs.take k).flatten:Int),fun _ i _=>cs.length - i.toNat,⟨rfl,0,rfl,by omega,rfl⟩,?_⟩
 rintro x i w ⟨rfl,k,rfl,hk,rfl⟩
 refine aa.dm (fun hlt=> ?_) (fun hge=> ?_)
 ·have hlt:k<cs.length:=by omega
  have hkb:k<bs.length:=by omega
  have hgd:bs.getD k []=bs[k]:=by rw [List.getD_eq_getElem?_getD,List.getElem?_eq_getElem hkb];rfl
  have hck:=hc k hlt
  rw [hgd] at hck
  have hmem:=List.getElem_mem hkb
  have hblen:=hbig _ hmem
  rw [aA] at hblen
  have hlk:=(h.ag hck).1
  simp only [List.length_map,Nat.mul_one] at hlk
  have rdp: ∀{G:Sl→Prop},G cs[k]→an s (k:Int) 1 fun q=>Ld kS q w G:=fun hG=>an.rd (h.ag hs) (by omega) (by omega) fun q hi hq=>Ld.sc _ (by simpa using hq:w.cell? q=some (Sc.sl.enc cs[k])) hG
  refine ⟨fun x i w'=>w'=w∧∃j:Nat,i=(j:Int)∧j≤bs[k].length∧x=(Crc.feed (c^^^4294967295) ((bs.take k).flatten++bs[k].take j):Int),fun _ i _=>bs[k].length - i.toNat,⟨rfl,0,rfl,by omega,by simp⟩,?_⟩
  rintro x i w' ⟨rfl,j,rfl,hj,rfl⟩
  have hpre: ∀y∈(bs.take k).flatten++bs[k].take j,y<256:=fun y hy=>by
   rcases List.mem_append.1 hy with hy|hy
   ·obtain ⟨b,hb1,hb2⟩:=List.mem_flatten.1 hy
    exact hby b (List.mem_of_mem_take hb1) y hb2
   ·exact hby _ hmem y (List.mem_of_mem_take hy)
  have hfl:=Crc.mB _ _ hc1 hpre
  refine rdp (aa.dm (fun hlt2=> ?_) (fun hge2=> ?_))
  ·have hjl:j<bs[k].length:=by omega
   have hy:=hby _ hmem _ (List.getElem_mem hjl)
   refine rdp (an.rd (h.ag hck) (by omega) (by omega) fun q hi hq=> ?_)
   refine Ld.sc (s:= .int .u8) (bs[k][j]:Int) (by simpa [vB] using hq) ?_
   refine I2 hfl hy ?_
   rw [ae (by omega)]
   refine ⟨⟨rfl,j+1,rfl,by omega,?_⟩,by first|omega|(dsimp only;omega)⟩
   rw [List.take_add_one,List.getElem?_eq_getElem hjl,←List.append_assoc,Crc.tv ((bs.take k).flatten++bs[k].take j)];rfl
  ·have hjl:j=bs[k].length:=by omega
   subst hjl
   rw [ae (by omega),List.take_length]
   exact ⟨⟨rfl,k+1,rfl,by omega,by rw [yn hkb,hgd]⟩,by first|omega|(dsimp only;omega)⟩
 ·have hkl:k=bs.length:=by omega
  subst hkl
  rw [List.take_length]
  have hfl:=Crc.mB _ _ hc1 hflat
  rw [KD hfl]
  exact hK
theorem H6 {K:Int→World→Prop} {s:Sl} {cs:List Sl} {bs:List (List Nat)} (h:Hp E w F)
  (hs:ad F (aC 1 s (cs.map fun x=> .slice x.base x.len x.cap))) (hl:cs.length=bs.length) (hcl:cs.length≤cb) (hc: ∀i (h:i<cs.length),ad F (aC 1 cs[i] ((bs.getD i []).map vB)))
  (hby: ∀b∈bs,∀y∈b,y<256) (hbig: ∀b∈bs,b.length≤cb)
  (hK:K (Crc.cM bs.flatten:Int) w):Cl Tryz.prog [aq .u32] mg ⟨[.slice s.base s.len s.cap]⟩ w K:=by
 refine F6.ok _ _ _ ?_
 exact Ji (c:=0) h (by decide) hs hl hcl hc hby hbig hK
theorem Ez {c:Nat} {K:Sl→World→Prop} (h:Hp E w F) (hc:c<4294967296) (hK: ∀s w',Hp E w' (aj 1 s ((Hd.fH c).map vB)::F)→K s w'):Cl Tryz.prog [kS] k8 ⟨[.int .u32 (c:Int)]⟩ w K:=by
 refine EM.ok _ _ _ ?_
 refine ⟨by decide,by decide,by decide,by decide,by decide,by decide,?_⟩
 have e1:u8 (u32 (Int.tdiv (c:Int) 16777216))=((c/16777216 % 256:Nat):Int):=by
  rw [show (16777216:Int)=((16777216:Nat):Int) from rfl,m9,eI (by omega),pK];omega
 have e2:u8 (Int.tmod (u32 (Int.tdiv (c:Int) 65536)) 256)=((c/65536 % 256:Nat):Int):=by
  rw [show (65536:Int)=((65536:Nat):Int) from rfl,m9,eI (by omega),show (256:Int)=((256:Nat):Int) from rfl,nW,dN (by omega)]
 have e3:u8 (Int.tmod (u32 (Int.tdiv (c:Int) 256)) 256)=((c/256 % 256:Nat):Int):=by
  rw [show (256:Int)=((256:Nat):Int) from rfl,m9,eI (by omega),nW,dN (by omega)]
 have e4:u8 (Int.tmod (c:Int) 256)=((c % 256:Nat):Int):=by
  rw [show (256:Int)=((256:Nat):Int) from rfl,nW,dN (by omega)]
 rw [e1,e2,e3,e4]
 exact Nw.mk h fun b3 w h=>hK _ w (h.fo (n:=4) (sz:=1) rfl)
end
end Go.Proofs.YtgglghjnakclmaaGreat
namespace Go.Proofs.YtgglghjnakclmaaGreat
open Go Go.Vc Go.Srt Go.Inc Go.Hd Go.Crc
section
variable {E w:World} {F:List HP}
set_option maxRecDepth 20000
theorem wD {n:Nat} {K:Sl→Int→World→Prop} (h:Hp E w F) (hn:n≤65536) (hK: ∀s w',Hp E w' (OB s (fN n)::F)→K s 0 w'):Cl Tryz.prog [kS,kI] iO ⟨[.int .i64 (n:Int)]⟩ w K:=by
 refine EA.ok _ _ _ ?_
 refine aa.df (by omega) (aa.df (by omega) ⟨by decide,?_⟩)
 have e128: ∀m:Nat,Int.tmod (m:Int) 128=((m % 128:Nat):Int):=fun _=>rfl
 have d128: ∀m:Nat,Int.tdiv (m:Int) 128=((m/128:Nat):Int):=fun _=>rfl
 rw [e128,d128,dN (by omega),ae (by omega)]
 refine Nw.mk h fun b3 w h=>⟨by decide,?_⟩
 have h:=Hp.fo (n:=1) (sz:=1) h rfl
 refine ⟨fun x s w'=> ∃(m:Nat) (l:List Nat),x=(m:Int)∧m≤512∧l.length+m≤513∧sR m++l=fN n∧Hp E w' (OB s l::F),fun x _ _=>x.toNat,⟨n/128,[n % 128],rfl,by omega,by simp;omega,rfl,h⟩,?_⟩
 rintro x s w ⟨m,l,rfl,hm5,hl,hv,h⟩
 refine aa.dm (fun hlt=> ?_) (fun hge=> ?_)
 ·have hm0:0<m:=by omega
  rw [e128,d128,ae (x:=128+((m % 128:Nat):Int)) (by omega),dN (by omega),ae (by omega),show 128+((m % 128:Nat):Int)=((128+m % 128:Nat):Int) by omega]
  refine ⟨by decide,Nw.mk h fun b12 w h=>Il h (by omega) fun s w h=>⟨by decide,?_⟩⟩
  refine ⟨⟨m/128,(128+m % 128)::l,rfl,by omega,by rw [List.length_cons];omega,?_,h⟩,by first|omega|(dsimp only;omega)⟩
  rw [←hv,wT hm0]
  simp
 ·have hm0:m=0:=by omega
  subst hm0
  rw [qP,List.nil_append] at hv
  rw [hv] at h
  exact hK s w h
theorem Fa {n:Int} {M P u:Nat} {K:Sl→Int→World→Prop} (h:Hp E w F) (hM:M≤65536) (hP:P≤65536) (hu:u<4294967296)
  (hgood:1≤n→n≤65536→1≤M→(M:Int)≤n→1≤P→P≤M→∀s w',Hp E w' (OB s (kN M P u)::F)→K s 0 w')
  (hbad: ¬(1≤n∧n≤65536∧1≤M∧(M:Int)≤n∧1≤P∧P≤M)→∀w',Hp E w' F→K ⟨none,0,0⟩ 2 w'):
  Cl Tryz.prog [kS,kI] jw ⟨[.int .i64 n,.agg ⟨[.int .i64 (M:Int),.int .i64 (P:Int),.int .u32 (u:Int)]⟩]⟩ w K:=by
 refine wc.ok _ ((M:Int),(P:Int),(u:Int),()) _ _ ?_
 (try simp only [ao,ak,al,Nat.zero_add,Nat.add_zero,Nat.reduceAdd,Bool.not_true,Bool.not_false,aE,aF,Option.isNone])
 refine Nw.mk h fun b4 w h=> ?_
 refine aa.dm (fun h1=>hbad (by omega) _ h.tl) (fun h1=>aa.dm (fun h2=>hbad (by omega) _ h.tl) (fun h2=>Ld.xb h rfl (aa.dm (fun h3=>hbad (by omega) _ h.tl) (fun h3=>Ld.xb h rfl (aa.dm (fun h4=>hbad (by omega) _ h.tl) (fun h4=>Ld.xb h rfl (aa.dm (fun h5=>hbad (by omega) _ h.tl) (fun h5=>Ld.xb h rfl (Ld.xb h rfl (aa.dm (fun h6=>hbad (by omega) _ h.tl) (fun h6=> ?_)))))))))))
 refine Ld.xb h rfl (wD h hM fun s1 w h=>Ld.xb (b:=b4) h rfl (wD h hP fun s2 w h=>Nw.mk h fun b21 w h=> ?_))
 have l1:=cH hM
 have l2:=cH hP
 refine Il (h.at 2).p1 (by omega) fun s3 w h=>o0 h ad.own (by rw [List.length_cons];omega) (by omega) fun s4 w h=>Ld.xb (b:=b4) h rfl (Ez h hu fun s5 w h=> ?_)
 refine o0 (h.at 1) ad.own (by rw [List.length_append,List.length_cons];omega) (by simp [fH]) fun s6 w h=>hgood (by omega) (by omega) (by omega) (by omega) (by omega) (by omega) s6 w ?_
 have e:1::fN M++fN P++fH u=kN M P u:=by simp [kN]
 rw [e] at h
 exact h.du
end
end Go.Proofs.YtgglghjnakclmaaGreat
namespace Go.Proofs.YtgglghjnakclmaaGreat
open Go Go.Vc
set_option maxRecDepth 100000
theorem Ha.ok (a:Sl) (R:(Array Value)→Int→World→Prop) w (h:
 Nw 215 ⟨List.replicate 258 (ni 0)⟩ w fun c b=>
 qW Pg 215 [] fun d=>
 Cl Pg [(.arr 258),kI] oY ⟨[(.agg d),(ah a)]⟩ b fun f (g:Int) e=>
 ax 258 ⟨c,0,none⟩ f e fun h=>
 Ld (.arr 258) ⟨c,0,none⟩ h fun i=>
 R i g h):Cl Pg [(.arr 258),kI] p4 ⟨[(ah a)]⟩ w R:=co Tryz.f180 [] h
theorem Fz.ok (a:(Array Value)) (b:Sl) (R:(Array Value)→Int→World→Prop) w (h:
 Nw 215 a w fun d c=>
 Nw 215 ⟨List.replicate 258 (ni 0)⟩ c fun f e=>
 Ld (.arr 258) ⟨d,0,none⟩ e fun g=>
 Cl Pg [kB] jg ⟨[(.agg g)]⟩ e fun (i:Bool) h=>
 aa (!i)
 (Ld (.arr 258) ⟨d,0,none⟩ h fun j=>
 ax 258 ⟨f,0,none⟩ j h fun k=>
 Ld (.arr 258) ⟨f,0,none⟩ k fun l=>
 R l 2 k)
 (Ld (.arr 258) ⟨d,0,none⟩ h fun m=>
 Nw 215 ⟨List.replicate 258 (ni 0)⟩ h fun o n=>
 ax 258 ⟨o,0,none⟩ m n fun p=>
 da 0 p fun q r (s:Int) t=>
 aa (decide (s<(b.len:Int)))
 (an b s 1 fun u=>
 Ld kI u t fun (v:Int)=>
 aa (decide (v<0))
 (Ld (.arr 258) ⟨d,0,none⟩ t fun x=>
 ax 258 ⟨f,0,none⟩ x t fun y=>
 Ld (.arr 258) ⟨f,0,none⟩ y fun z=>
 R z 2 y)
 (an b s 1 fun a1=>
 Ld kI a1 t fun (b1:Int)=>
 aa (decide (b1≥258))
 (Ld (.arr 258) ⟨d,0,none⟩ t fun c1=>
 ax 258 ⟨f,0,none⟩ c1 t fun d1=>
 Ld (.arr 258) ⟨f,0,none⟩ d1 fun e1=>
 R e1 2 d1)
 (an b s 1 fun f1=>
 Ld kI f1 t fun (g1:Int)=>
 aw ⟨o,0,none⟩ 258 g1 1 fun h1=>
 Ld kI h1 t fun (i1:Int)=>
 aw ⟨o,0,none⟩ 258 g1 1 fun j1=>
 St j1 (ni (i64 (i1+1))) t fun k1=>
 q (i64 (s+1)) k1∧r (i64 (s+1)) k1<r s t)))
 (Ld (.arr 258) ⟨o,0,none⟩ t fun l1=>
 Cl Pg [kB] jg ⟨[(.agg l1)]⟩ t fun (n1:Bool) m1=>
 aa (!n1)
 (Ld (.arr 258) ⟨d,0,none⟩ m1 fun o1=>
 ax 258 ⟨f,0,none⟩ o1 m1 fun p1=>
 Ld (.arr 258) ⟨f,0,none⟩ p1 fun q1=>
 R q1 2 p1)
 (Ld (.arr 258) ⟨o,0,none⟩ m1 fun r1=>
 ax 258 ⟨f,0,none⟩ r1 m1 fun s1=>
 Ld (.arr 258) ⟨f,0,none⟩ s1 fun t1=>
 R t1 0 s1)))):Cl Pg [(.arr 258),kI] oY ⟨[(.agg a),(ah b)]⟩ w R:=co Tryz.f241 [(12,[(7,kI)])] h
theorem A3.ok (a:(Array Value)) (R:Bool→World→Prop) w (h:
 Nw 215 a w fun c b=>
 da 0 b fun d e (f:Int) g=>
 aa (decide (f<258))
 (aw ⟨c,0,none⟩ 258 f 1 fun h=>
 Ld kI h g fun (i:Int)=>
 aa (decide (i<0))
 (R false g)
 (aw ⟨c,0,none⟩ 258 f 1 fun j=>
 Ld kI j g fun (k:Int)=>
 aa (decide (k>2147483647))
 (R false g)
 (d (i64 (f+1)) g∧e (i64 (f+1)) g<e f g)))
 (R true g)):Cl Pg [kB] jg ⟨[(.agg a)]⟩ w R:=co Tryz.f293 [(5,[(3,kI)])] h
end Go.Proofs.YtgglghjnakclmaaGreat
set_option maxRecDepth 20000
namespace Go.Proofs.YtgglghjnakclmaaGreat
open Go Go.Vc Go.Hs
section
variable {E w:World} {F:List HP}
set_option maxRecDepth 20000 in
theorem xU {t:List Int} {K:Bool→World→Prop} (h:Hp E w F) (ht:t.length=258) (hK: ∀w',Hp E w' F→K (aR t) w'):Cl Tryz.prog [kB] jg ⟨[.agg (Vc.aT t)]⟩ w K:=by
 refine A3.ok _ _ _ ?_
 refine Nw.mk h fun b3 w1 h1=> ?_
 refine ⟨fun i w'=> ∃k:Nat,i=(k:Int)∧k≤258∧(∀j,j<k→0≤t.getD j 0∧t.getD j 0≤2147483647)∧Hp E w' (af b3 (.cells (Vc.aT t) 215 (0,0))::F),fun i _=>258 - i.toNat,⟨0,rfl,by omega,fun j hj=>by omega,h1⟩,?_⟩
 rintro i w2 ⟨k,rfl,hk,hg,hh⟩
 have bad: ∀hlt:k<258,¬(0≤t.getD k 0∧t.getD k 0≤2147483647)→K false w2:=fun hlt hb=>by
  have:=hK w2 hh.drop
  rwa [zn (by omega) hb] at this
 refine aa.mk (fun hlt=> ?_) (fun hge=> ?_)
 ·have hlt:k<258:=by have:=of_decide_eq_true hlt;omega
  refine aw.aT hh rfl ht hlt (aa.mk (fun h0=>bad hlt (by have:=of_decide_eq_true h0;omega)) (fun h0=> ?_))
  refine aw.aT hh rfl ht hlt (aa.mk (fun h9=>bad hlt (by have:=of_decide_eq_true h9;omega)) (fun h9=> ?_))
  have h0:=of_decide_eq_false h0
  have h9:=of_decide_eq_false h9
  rw [ae (by omega)]
  refine ⟨⟨k+1,by omega,by omega,fun j hj=> ?_,hh⟩,by dsimp only;omega⟩
  by_cases e:j=k
  ·subst e;omega
  ·exact hg j (by omega)
 ·have hge:k=258:=by have:=of_decide_eq_false hge;omega
  subst hge
  have:=hK w2 hh.drop
  rwa [eV.2 fun i hi=>hg i (by omega)] at this
set_option maxRecDepth 20000 in
theorem ID {t zs:List Int} {s:Sl} {K:Array Value→Int→World→Prop} (h:Hp E w F) (ht:t.length=258) (hs:ad F (aC 1 s (zs.map vI))) (hn:zs.length≤cb)
  (hK: ∀w',Hp E w' F→K (Vc.aT ((cL t zs).getD t)) (H3 (cL t zs)) w'):Cl Tryz.prog [.arr 258,kI] oY ⟨[.agg (Vc.aT t),.slice s.base s.len s.cap]⟩ w K:=by
 refine Fz.ok _ _ _ _ ?_
 rw [Vc.sf]
 have hz:(Vc.aT (List.replicate 258 0)).size=258:=by rw [Vc.bB];exact List.length_replicate
 have hT: ∀{u:List Int},u.length=258→(Vc.aT u).size=258:=fun hu=>by rw [Vc.bB,hu]
 have hsl:=(h.ag hs).1
 simp only [List.length_map,Nat.mul_one] at hsl
 rw [aA] at hn
 have hKn:cL t zs=none→∀w',Hp E w' F→K (Vc.aT t) 2 w':=fun e w' h'=>by have:=hK w' h';rwa [e] at this
 refine Nw.mk h fun b4 w1 h1=>Nw.mk h1 fun b6 w2 h2=>Ld.arr h2.p1 (hT ht) (xU h2 ht fun w3 h3=> ?_)
 refine aa.mk (fun hv=> ?_) (fun hv=> ?_)
 ·have hv:aR t=false:=by simpa using hv
  exact Ld.arr h3.p1 (hT ht) (ax.aG h3 hz (hT ht) Vc.cJ fun w4 h4=>Ld.arr h4 (hT ht) (hKn (rn hv) w4 h4.drop.drop))
 have hv:aR t=true:=by simpa using hv
 refine Ld.arr h3.p1 (hT ht) (Nw.mk h3 fun b15 w4 h4=>ax.aG h4 hz (hT ht) Vc.cJ fun w5 h5=> ?_)
 refine ⟨fun i w'=> ∃k:Nat,i=(k:Int)∧k≤zs.length∧(zs.take k).all jT=true∧Hp E w' (af b15 (.cells (Vc.aT (dI t (zs.take k))) 215 (0,0))::af b6 (.cells (Vc.aT (List.replicate 258 0)) 215 (0,0))::af b4 (.cells (Vc.aT t) 215 (0,0))::F),fun i _=>zs.length - i.toNat,⟨0,rfl,by omega,rfl,h5⟩,?_⟩
 rintro i w6 ⟨k,rfl,hk,hg,hh⟩
 have bad:cL t zs=none→Ld (.arr 258) ⟨b4,0,none⟩ w6 fun x30=>ax 258 ⟨b6,0,none⟩ x30 w6 fun w31=>Ld (.arr 258) ⟨b6,0,none⟩ w31 fun res=>K res 2 w31:=fun e=>
  Ld.arr hh.p2 (hT ht) (ax.aG hh.p1 hz (hT ht) Vc.cJ fun w7 h7=>Ld.arr h7 (hT ht) (hKn e w7 h7.drop.drop.drop))
 have hcl:(dI t (zs.take k)).length=258:=by rw [kJ,ht]
 have hSl:ad (af b15 (.cells (Vc.aT (dI t (zs.take k))) 215 (0,0))::af b6 (.cells (Vc.aT (List.replicate 258 0)) 215 (0,0))::af b4 (.cells (Vc.aT t) 215 (0,0))::F) (aC 1 s (zs.map vI)):=ad.cons (ad.cons (ad.cons hs))
 refine aa.mk (fun hlt=> ?_) (fun hge=> ?_)
 ·have hlt:k<zs.length:=by have:=of_decide_eq_true hlt;omega
  refine an.nI (hh.ag hSl) rfl hlt (aa.mk (fun hb=>bad (tM hlt ?_)) (fun h0=> ?_))
  ·have:=of_decide_eq_true hb
   rw [Bool.eq_false_iff,ne_eq,iq];omega
  refine an.nI (hh.ag hSl) rfl hlt (aa.mk (fun hb=>bad (tM hlt ?_)) (fun h1=> ?_))
  ·have:=of_decide_eq_true hb
   rw [Bool.eq_false_iff,ne_eq,iq];omega
  have h0:=of_decide_eq_false h0
  have h1:=of_decide_eq_false h1
  have hb:jT (zs.getD k 0)=true:=iq.2 (by omega)
  have hvz:=eV.1 hv (zs.getD k 0).toNat (by omega)
  have hc:=pJ hg ht (zs.getD k 0).toNat
  have hcc:=List.count_le_length (a:=(((zs.getD k 0).toNat:Nat):Int)) (l:=zs.take k)
  rw [List.length_take] at hcc
  refine an.nI (hh.ag hSl) rfl hlt (aw.aT hh (j:=(zs.getD k 0).toNat) (by omega) hcl (by omega) ?_)
  rw [ae (x:=(dI t (zs.take k)).getD (zs.getD k 0).toNat 0+1) (by omega),ae (by omega)]
  refine aw.Ig hh (j:=(zs.getD k 0).toNat) (by omega) hcl (by omega) fun w7 h7=>⟨⟨k+1,by omega,by omega,?_,?_⟩,by dsimp only;omega⟩
  ·rw [jY hlt,List.all_append,hg,List.all_cons,hb];rfl
  ·rw [jY hlt,tU]
   exact h7
 ·have hge:k=zs.length:=by have:=of_decide_eq_false hge;omega
  subst hge
  rw [List.take_length] at hg hh hcl
  refine Ld.arr hh (hT hcl) (xU hh hcl fun w7 h7=>aa.mk (fun hb=> ?_) (fun hb=> ?_))
  ·have hb:aR (dI t zs)=false:=by simpa using hb
   exact Ld.arr h7.p2 (hT ht) (ax.aG h7.p1 hz (hT ht) Vc.cJ fun w8 h8=>Ld.arr h8 (hT ht) (hKn (G7 hb) w8 h8.drop.drop.drop))
  ·have hb:aR (dI t zs)=true:=by simpa using hb
   refine Ld.arr h7 (hT hcl) (ax.aG h7.p1 hz (hT hcl) Vc.cJ fun w8 h8=>Ld.arr h8 (hT hcl) ?_)
   have:=hK w8 h8.drop.drop.drop
   rwa [p9 hv hg hb] at this
theorem HG (zs:List Int):((cL cj zs).getD cj).length=258:=by
 cases ha:cL cj zs with
 |none=>exact gg
 |some u=>
  obtain ⟨_,_,rfl,_⟩:=xL ha
  show (dI cj zs).length=258
  rw [kJ,gg]
set_option maxRecDepth 20000 in
theorem JZ {zs:List Int} {s:Sl} {K:Array Value→Int→World→Prop} (h:Hp E w F) (hs:ad F (aC 1 s (zs.map vI))) (hn:zs.length≤cb)
  (hK: ∀w',Hp E w' F→K (Vc.aT ((cL cj zs).getD cj)) (H3 (cL cj zs)) w'):Cl Tryz.prog [.arr 258,kI] p4 ⟨[.slice s.base s.len s.cap]⟩ w K:=by
 refine Ha.ok _ _ _ ?_
 rw [Vc.sf]
 have hl:=HG zs
 refine Nw.mk h fun b3 w1 h1=>AO (ID h1 gg (ad.cons hs) hn fun w2 h2=>ax.aG h2 (by rw [Vc.bB];exact List.length_replicate) (by rw [Vc.bB,hl]) Vc.cJ fun w3 h3=>Ld.arr h3 (by rw [Vc.bB,hl]) (hK w3 h3.drop))
end
end Go.Proofs.YtgglghjnakclmaaGreat
namespace Go.Proofs.YtgglghjnakclmaaGreat
open Go Go.Vc
set_option maxRecDepth 100000
theorem Bj.ok (a:(Array Value)) (R:(Array Value)→Int→World→Prop) w (h:
 Nw 104 a w fun c b=>
 Nw 237 ⟨List.replicate 258 (.int .u32 0)⟩ b fun e d=>
 Nw 237 ⟨List.replicate 258 (.int .u32 0)⟩ d fun g f=>
 Ld (.arr 258) ⟨c,0,none⟩ f fun h=>
 Cl Pg [kB] iY ⟨[(.agg h)]⟩ f fun (j:Bool) i=>
 aa (!j)
 (Ld (.arr 258) ⟨g,0,none⟩ i fun k=>
 ax 258 ⟨e,0,none⟩ k i fun l=>
 Ld (.arr 258) ⟨e,0,none⟩ l fun m=>
 R m 2 l)
 (Ld (.arr 258) ⟨c,0,none⟩ i fun n=>
 Cl Pg [kS] lO ⟨[(.agg n)]⟩ i fun (p:Sl) o=>
 da 1 o fun q r (s:Int) t=>
 aa (decide (s<(p.len:Int)))
 (an p (i64 (s - 1)) 1 fun u=>
 Ld kI u t fun (v:Int)=>
 aw ⟨g,0,none⟩ 258 v 1 fun x=>
 Ld (aq .u32) x t fun (y:Int)=>
 an p (i64 (s - 1)) 1 fun z=>
 Ld kI z t fun (a1:Int)=>
 aw ⟨c,0,none⟩ 258 a1 1 fun b1=>
 Ld (aq .u8) b1 t fun (c1:Int)=>
 br (u32 (y+1)) c1 t fun d1 e1 (f1:Int) (g1:Int) h1=>
 an p s 1 fun i1=>
 Ld kI i1 h1 fun (j1:Int)=>
 aw ⟨c,0,none⟩ 258 j1 1 fun k1=>
 Ld (aq .u8) k1 h1 fun (l1:Int)=>
 aa (decide (g1<l1))
 (d1 (u32 ((2:Int)*f1)) (u8 (g1+1)) h1∧e1 (u32 ((2:Int)*f1)) (u8 (g1+1)) h1<e1 f1 g1 h1)
 (an p s 1 fun m1=>
 Ld kI m1 h1 fun (n1:Int)=>
 aw ⟨g,0,none⟩ 258 n1 1 fun o1=>
 St o1 (.int .u32 f1) h1 fun p1=>
 q (i64 (s+1)) p1∧r (i64 (s+1)) p1<r s t))
 (Ld (.arr 258) ⟨g,0,none⟩ t fun q1=>
 ax 258 ⟨e,0,none⟩ q1 t fun r1=>
 Ld (.arr 258) ⟨e,0,none⟩ r1 fun s1=>
 R s1 0 r1))):Cl Pg [(.arr 258),kI] lW ⟨[(.agg a)]⟩ w R:=co Tryz.f159 [(14,[(6,kI)]),(24,[(7,(aq .u32)),(8,(aq .u8))])] h
theorem A8.ok (a:(Array Value)) (R:Bool→World→Prop) w (h:
 Nw 104 a w fun c b=>
 Ld (.arr 258) ⟨c,0,none⟩ b fun d=>
 Cl Pg [kI] oP ⟨[(.agg d)]⟩ b fun (f:Int) e=>
 R (decide (f≤32768)) e):Cl Pg [kB] iY ⟨[(.agg a)]⟩ w R:=co Tryz.f220 [] h
theorem Bh.ok (a:(Array Value)) (R:Sl→World→Prop) w (h:
 Nw 104 a w fun c b=>
 br (⟨none,0,0⟩:Sl) 1 b fun d e (f:Sl) (g:Int) h=>
 aa (decide (g≤15))
 (Ld (.arr 258) ⟨c,0,none⟩ h fun i=>
 Cl Pg [kB] iY ⟨[(.agg i)]⟩ h fun (k:Bool) j=>
 aa k
 (br f 0 j fun l m (n:Sl) (o:Int) p=>
 aa (decide (o<258))
 (aw ⟨c,0,none⟩ 258 o 1 fun q=>
 Ld (aq .u8) q p fun (r:Int)=>
 aa ((i64 r)==g)
 (Nw 3 ⟨[(ni o)]⟩ p fun t s=>
 av Pg (Builtin.append_ #[142,142] 142 ⟨[(ah n),(ah (⟨some ⟨t,0,none⟩,1,1⟩:Sl))]⟩) kS s fun (v:Sl) u=>
 l v (i64 (o+1)) u∧m v (i64 (o+1)) u<m n o p)
 (l n (i64 (o+1)) p∧m n (i64 (o+1)) p<m n o p))
 (d n (i64 (g+1)) p∧e n (i64 (g+1)) p<e f g h))
 (R f j))
 (R f h)):Cl Pg [kS] lO ⟨[(.agg a)]⟩ w R:=co Tryz.f221 [(7,[(3,kS),(4,kI)]),(14,[(3,kS),(5,kI)])] h
end Go.Proofs.YtgglghjnakclmaaGreat
set_option maxRecDepth 20000
namespace Go.Proofs.YtgglghjnakclmaaGreat
open Go Go.Vc Go.Srt
section
variable {E w:World} {F:List HP}
set_option maxRecDepth 20000 in
theorem J1 {l:List Nat} {K:Int→World→Prop} (h:Hp E w F) (hl:l.length=258) (hK: ∀(r:Nat) w',(r≤32768↔aO l≤32768)→(aO l≤32768→r=aO l)→Hp E w' F→K (r:Int) w'):
  Cl Tryz.prog [kI] oP ⟨[.agg (ai .u8 l)]⟩ w K:=by
 refine Fx.ok _ _ _ ?_
 refine Nw.mk h fun b w1 h1=> ?_
 have hb:=sL l
 refine ⟨fun sm i w'=> ∃k:Nat,i=(k:Int)∧k≤258∧sm=(aO (l.take k):Int)∧Hp E w' (af b (.cells (ai .u8 l) 104 (0,0))::F),fun _ i _=>258 - i.toNat,⟨0,rfl,by omega,by simp [aO],h1⟩,?_⟩
 intro sm i w' hI
 obtain ⟨k,hi,hk,hs,hh⟩:=hI
 subst hi;subst hs
 refine aa.mk (fun hlt=> ?_) (fun hge=> ?_)
 ·have hlt:k<258:=by have:=of_decide_eq_true hlt;omega
  have hkl:k<l.length:=by omega
  have hx:(ai .u8 l)[((k:Int)).toNat]? =some (Sc.enc (.int .u8) (l[k]:Int)):=by rw [Int.toNat_natCast];exact ee hkl
  have e:=lG hkl
  have ht:=n6 (l:=l) (k:=k+1)
  refine aw.rd (s:= .int .u8) hh (by omega) (by omega) (l[k]:Int) hx (aa.mk (fun h15=> ?_) (fun h15=> ?_))
  ·have h15:=of_decide_eq_true h15
   have hw:wt l[k]=32769:=by unfold wt;rw [if_neg (by omega),if_pos (by omega)]
   exact hK 32769 w' (by omega) (by omega) hh.drop
  ·have h15:l[k]≤15:=by have:=of_decide_eq_false h15;omega
   refine aw.rd (s:= .int .u8) hh (by omega) (by omega) (l[k]:Int) hx (aa.mk (fun hp=> ?_) (fun hp=> ?_))
   ·have hp:0<l[k]:=by have:=of_decide_eq_true hp;omega
    have hw:wt l[k]=2^(15 - l[k]):=by unfold wt;rw [if_neg (by omega),if_neg (by omega)]
    have hp15:2^(15 - l[k])≤2^15:=Nat.pow_le_pow_right (by decide) (by omega)
    refine aw.rd (s:= .int .u8) hh (by omega) (by omega) (l[k]:Int) hx ?_
    have e1:u64 (i64 (15 - i64 (l[k]:Int)))=((15 - l[k]:Nat):Int):=by
     rw [ae (x:=(l[k]:Int)) (by omega),ae (by omega),r8 (by omega)];omega
    have hmx:IntKind.max .i64=9223372036854775807:=rfl
    have e2:=kH (k:= .i64) (a:=1) (b:=15 - l[k]) (by have:IntKind.bits .i64=64:=rfl;omega) (by rw [hmx];omega)
    rw [e1]
    rw [show (1:Int)=((1:Nat):Int) from rfl,e2,Nat.one_mul]
    refine ⟨by omega,?_⟩
    rw [hw] at e
    rw [ae (x:=(aO (l.take k):Int)+((2^(15 - l[k]):Nat):Int)) (by omega),ae (by omega)]
    exact ⟨⟨k+1,rfl,by omega,by rw [e];rfl,hh⟩,by dsimp only;omega⟩
   ·have hp:l[k]=0:=by have:=of_decide_eq_false hp;omega
    have hw:wt l[k]=0:=by unfold wt;rw [if_pos hp]
    rw [ae (by omega)]
    exact ⟨⟨k+1,rfl,by omega,by rw [e,hw];rfl,hh⟩,by dsimp only;omega⟩
 ·have hge:k=258:=by have:=of_decide_eq_false hge;omega
  subst hge
  rw [←hl,List.take_length]
  exact hK _ _ Iff.rfl (fun _=>rfl) hh.drop
end
end Go.Proofs.YtgglghjnakclmaaGreat
set_option maxRecDepth 20000
namespace Go.Srt
def fC (l:List Nat) (N:Nat):List Nat:=(List.range N).flatMap fun n=>(List.range 258).filter fun s=>l.getD s 0==n+1
theorem zS {l:List Nat} {N s:Nat}:s∈fC l N↔s<258∧0<l.getD s 0∧l.getD s 0≤N:=by
 unfold fC
 simp only [List.mem_flatMap,List.mem_range,List.mem_filter,beq_iff_eq]
 constructor
 ·rintro ⟨n,h1,h2,h3⟩;omega
 ·rintro ⟨h1,h2,h3⟩;exact ⟨l.getD s 0 - 1,by omega,h1,by omega⟩
theorem oE (l:List Nat) (N:Nat):(fC l N).Pairwise fun a b=>l.getD a 0<l.getD b 0∨(l.getD a 0=l.getD b 0∧a<b):=by
 unfold fC
 rw [List.pairwise_flatMap]
 refine ⟨fun n _=> ?_,?_⟩
 ·have h:(List.range 258).Pairwise fun a b=>a<b:=List.pairwise_lt_range
  refine List.Pairwise.imp_of_mem ?_ (h.filter _)
  intro a b ha hb hab
  have ha:=(List.mem_filter.1 ha).2
  have hb:=(List.mem_filter.1 hb).2
  rw [beq_iff_eq] at ha hb
  omega
 ·refine List.pairwise_lt_range.imp ?_
  intro m n hmn a ha b hb
  have ha:=(List.mem_filter.1 ha).2
  have hb:=(List.mem_filter.1 hb).2
  rw [beq_iff_eq] at ha hb
  omega
theorem F5 {l:List Nat} (hl:l.length=258) (hv:aO l≤32768):bo l (fC l 15):=by
 refine ⟨?_,oE l 15⟩
 have n1:(fC l 15).Nodup:=(oE l 15).imp fun h=>by rintro rfl;omega
 have n2:(used l).Nodup:=(List.nodup_range).filter _
 rw [List.perm_ext_iff_of_nodup n1 n2]
 intro s
 rw [zS,dH,hl]
 have:=fP hv s
 omega
theorem DM (l:List Nat) (N:Nat):fC l (N+1)=fC l N++(List.range 258).filter fun s=>l.getD s 0==N+1:=by
 unfold fC
 rw [List.range_succ (n:=N),List.flatMap_append]
 simp
end Go.Srt
namespace Go.Proofs.YtgglghjnakclmaaGreat
open Go Go.Vc Go.Srt Go.aS
section
variable {E w:World} {F:List HP}
theorem ym {l:List Nat} {K:Bool→World→Prop} (h:Hp E w F) (hl:l.length=258) (hK: ∀w',Hp E w' F→K (decide (aO l≤32768)) w'):Cl Tryz.prog [kB] iY ⟨[.agg (ai .u8 l)]⟩ w K:=by
 refine A8.ok _ _ _ ?_
 refine Nw.mk h fun b w1 h1=>Ld.arr h1 (by rw [au,hl]) (J1 h1 hl fun r w2 hr _ h2=> ?_)
 have:decide ((r:Int)≤32768)=decide (aO l≤32768):=by rw [Bool.eq_iff_iff,decide_eq_true_eq,decide_eq_true_eq];omega
 rw [this]
 exact hK _ h2.drop
set_option maxRecDepth 20000 in
theorem EZ {l:List Nat} {K:Sl→World→Prop} (h:Hp E w F) (hl:l.length=258) (h8: ∀x∈l,x≤255) (hv:aO l≤32768) (hK: ∀ys s w',bo l ys→Hp E w' (aj 1 s ((ints ys).map vI)::F)→K s w'):Cl Tryz.prog [kS] lO ⟨[.agg (ai .u8 l)]⟩ w K:=by
 refine Bh.ok _ _ _ ?_
 have hlen: ∀N,(fC l N).length≤258:=fun N=>by
  have h1:(fC l N).Nodup:=(oE l N).imp fun h=>by rintro rfl;omega
  have h2:fC l N⊆List.range 258:=fun s hs=>by have:=(zS.1 hs).1;simpa using this
  have:=h1.length_le_of_subset h2
  simpa using this
 refine Nw.mk h fun b w1 h1=> ?_
 refine ⟨fun o n w'=> ∃N:Nat,n=(N:Int)+1∧N≤15∧Hp E w' (aj 1 o ((ints (fC l N)).map vI)::af b (.cells (ai .u8 l) 104 (0,0))::F),fun _ n _=>20 - n.toNat,⟨0,rfl,by omega,h1.bm 1⟩,?_⟩
 rintro o n w' ⟨N,rfl,hN,hh⟩
 refine aa.mk (fun hlt=> ?_) (fun hge=> ?_)
 ·have hlt:N<15:=by have:=of_decide_eq_true hlt;omega
  refine Ld.arr hh.p1 (by rw [au,hl]) (ym hh hl fun w2 h2=>aa.t (decide_eq_true hv) ?_)
  refine ⟨fun o s w'=> ∃k:Nat,s=(k:Int)∧k≤258∧Hp E w' (aj 1 o ((ints (fC l N++(List.range k).filter fun s=>l.getD s 0==N+1)).map vI)::af b (.cells (ai .u8 l) 104 (0,0))::F),fun _ s _=>258 - s.toNat,⟨0,rfl,by omega,by simpa using h2⟩,?_⟩
  rintro o2 s w3 ⟨k,rfl,hk,h3⟩
  refine aa.mk (fun hlt2=> ?_) (fun hge2=> ?_)
  ·have hlt2:k<258:=by have:=of_decide_eq_true hlt2;omega
   have hg:l.getD k 0≤255:=by rw [cI (by omega)];exact h8 _ (List.getElem_mem _)
   have hrs:(List.range (k+1)).filter (fun s=>l.getD s 0==N+1)=(List.range k).filter (fun s=>l.getD s 0==N+1)++if l.getD k 0=N+1 then [k] else []:=by
    rw [List.range_succ,List.filter_append]
    congr 1
    by_cases e:l.getD k 0=N+1
    ·rw [if_pos e,List.filter_cons_of_pos (by rw [beq_iff_eq];exact e)];rfl
    ·rw [if_neg e,List.filter_cons_of_neg (by rw [beq_iff_eq];exact e)];rfl
   refine aw.rd (s:= .int .u8) h3.p1 (by omega) (by omega) (l.getD k 0:Int) (kL (by omega)) ?_
   rw [ae (x:=(l.getD k 0:Int)) (by omega),ae (x:=(k:Int)+1) (by omega)]
   refine aa.mk (fun heq=> ?_) (fun hne=> ?_)
   ·have heq:l.getD k 0=N+1:=by rw [beq_iff_eq] at heq;omega
    rw [if_pos heq] at hrs
    have hol:=h3.aV
    have hl1:=hlen N
    have hl2:=List.length_filter_le (fun s=>l.getD s 0==N+1) (List.range k)
    rw [List.length_range] at hl2
    rw [List.length_map,ints,List.length_map,List.length_append,Nat.mul_one] at hol
    refine Nw.mk h3 fun b20 w4 h4=>aI (ys:= [vI (k:Int)]) (n:=1) eG (by decide) (.inl ⟨3,by kernel_rfl⟩) h4.p1 (.inl ⟨some ⟨b20,0,none⟩,1,1,rfl,rfl,h4.ag (ad.aG rfl rfl)⟩) rfl mh (by omega) (by omega) fun s' w5 h5 hs'=>⟨⟨k+1,rfl,by omega,?_⟩,by dsimp only;omega⟩
    rw [hrs,←List.append_assoc,pX,List.map_append]
    exact h5.p1.drop
   ·have hne:l.getD k 0≠N+1:=by have:=beq_eq_false_iff_ne.1 hne;omega
    rw [if_neg hne,List.append_nil] at hrs
    exact ⟨⟨k+1,rfl,by omega,by rw [hrs];exact h3⟩,by dsimp only;omega⟩
  ·have hge2:k=258:=by have:=of_decide_eq_false hge2;omega
   subst hge2
   rw [ae (by omega)]
   rw [←DM] at h3
   exact ⟨⟨N+1,by omega,by omega,h3⟩,by dsimp only;omega⟩
 ·have hge:N=15:=by have:=of_decide_eq_false hge;omega
  subst hge
  exact hK _ _ _ (F5 hl hv) hh.p1.drop
set_option maxRecDepth 20000 in
theorem Ea {l:List Nat} {K:Array Value→Int→World→Prop} (h:Hp E w F) (hl:l.length=258) (h8: ∀x∈l,x≤255) (hK1: ¬aO l≤32768→∀w',Hp E w' F→K (ai .u32 (List.replicate 258 0)) 2 w')
  (hK2:aO l≤32768→∀ys w',bo l ys→Hp E w' F→K (ai .u32 (bf l ys ys.length)) 0 w'):Cl Tryz.prog [.arr 258,kI] lW ⟨[.agg (ai .u8 l)]⟩ w K:=by
 refine Bj.ok _ _ _ ?_
 rw [jH]
 have hz:(ai .u32 (List.replicate 258 0)).size=258:=by rw [au];exact List.length_replicate
 refine Nw.mk h fun b3 w1 h1=>Nw.mk h1 fun b5 w2 h2=>Nw.mk h2 fun b7 w3 h3=>Ld.arr h3.p2 (by rw [au,hl]) (ym h3 hl fun w4 h4=>aa.mk (fun hv=> ?_) (fun hv=> ?_))
 ·have hv: ¬aO l≤32768:=by simpa using hv
  exact Ld.arr h4 hz (ax.aG h4.p1 hz hz bX fun w5 h5=>Ld.arr h5 hz (hK1 hv w5 h5.drop.drop.drop))
 have hv:aO l≤32768:=by simpa using hv
 refine Ld.arr h4.p2 (by rw [au,hl]) (EZ h4 hl h8 hv fun ys so w5 hys h5=> ?_)
 have hpl:=h5.aV
 simp only [ints,List.length_map,Nat.mul_one] at hpl
 have hylen:=uX hl hys
 have sized: ∀i,(ai .u32 (bf l ys i)).size=258:=fun i=>by rw [au,bW]
 have hc1:0<ys.length→bf l ys 1=List.replicate 258 0:=fun h0=>by
  rw [bf,bf]
  have:ck l ys 0=0:=by unfold ck Srt.start;simp
  rw [this,List.set_replicate_self]
 have fin: ∀w' k,k=ys.length→Hp E w' (aj 1 so ((ints ys).map vI)::af b7 (.cells (ai .u32 (bf l ys k)) 237 (0,0))::af b5 (.cells (ai .u32 (List.replicate 258 0)) 237 (0,0))::af b3 (.cells (ai .u8 l) 104 (0,0))::F)→
   Ld (.arr 258) (⟨b7,0,none⟩:Addr) w' fun (x42:(Array Value))=>ax 258 (⟨b5,0,none⟩:Addr) x42 w' fun (w_43:World)=>Ld (.arr 258) (⟨b5,0,none⟩:Addr) w_43 fun (res44:(Array Value))=>K res44 0 w_43:=by
  rintro w' k rfl h'
  exact Ld.arr h'.p1 (sized _) (ax.aG h'.p2 hz (sized _) bX fun w6 h6=>Ld.arr h6 (sized _) (hK2 hv ys w6 hys h6.drop.drop.drop.drop))
 refine ⟨fun i w'=> ∃k:Nat,i=(k:Int)∧1≤k∧(k≤ys.length∨(ys.length=0∧k=1))∧Hp E w' (aj 1 so ((ints ys).map vI)::af b7 (.cells (ai .u32 (bf l ys (if ys.length=0 then 0 else k))) 237 (0,0))::af b5 (.cells (ai .u32 (List.replicate 258 0)) 237 (0,0))::af b3 (.cells (ai .u8 l) 104 (0,0))::F),
  fun i _=>ys.length+1 - i.toNat,⟨1,rfl,by omega,by omega,?_⟩,?_⟩
 ·by_cases e:ys.length=0
  ·rw [if_pos e];exact h5
  ·rw [if_neg e,hc1 (by omega)];exact h5
 rintro i w6 ⟨k,rfl,hk1,hk,hh⟩
 refine aa.mk (fun hlt=> ?_) (fun hge=>fin w6 (if ys.length=0 then 0 else k) ?_ hh)
 ·have hlt:k<ys.length:=by have:=of_decide_eq_true hlt;omega
  rw [if_neg (by omega)] at hh
  obtain ⟨j,rfl⟩: ∃j,k=j+1:=⟨k - 1,by omega⟩
  have hj:j<ys.length:=by omega
  have hin0:=py hl hys _ (List.getElem_mem hj)
  have hin1:=py hl hys _ (List.getElem_mem hlt)
  have h15a:=fP hv ys[j]
  have h15b:=fP hv ys[j+1]
  have hmono:=wS hys hlt (show j≤j+1 by omega)
  rw [ae (x:=((j+1:Nat):Int) - 1) (by omega),show ((j+1:Nat):Int) - 1=(j:Int) by omega]
  have rdo: ∀{w':World} {F':List HP} {m:Nat} {K:Int→Prop} (hm:m<ys.length),Hp E w' (aj 1 so ((ints ys).map vI)::F')→K (ys[m]:Int)→an so (m:Int) 1 fun q=>Ld kI q w' K:=fun {w' F' m K} hm h' hK=>by
   refine an.rd (h'.ag ad.own) (by omega) (by omega) fun q hq hc=>Ld.sc (s:= .int .i64) (ys[m]:Int) (by rw [hc];simp [ints,vI,Sc.enc]) hK
  have hca:=pV hys (fun s hs=>(py hl hys s hs).1) (j+1) (by omega) j hj (by omega)
  have hcl:=rj hv hys hj
  have hp:2^l.getD ys[j] 0≤2^15:=Nat.pow_le_pow_right (by decide) h15a
  have hp2:(2:Nat)^15=32768:=by decide
  refine rdo hj hh (aw.rd (s:= .int .u32) hh.p1 (by omega) (by omega) ((bf l ys (j+1)).getD ys[j] 0:Int) (kL (by rw [bW];omega)) ?_)
  refine rdo hj hh (aw.rd (s:= .int .u8) hh.p3 (by omega) (by omega) (l.getD ys[j] 0:Int) (kL (by omega)) ?_)
  rw [hca,eI (by omega)]
  have hnew:(ck l ys j+1)*2^(l.getD ys[j+1] 0 - l.getD ys[j] 0)=ck l ys (j+1):=by
   have e1:=kb hys hj
   have e2:=kb hys hlt
   have e3:=mc (l:=l) hj
   refine Nat.eq_of_mul_eq_mul_right (vX l ys[j+1]) ?_
   rw [e2,e3,←e1,Nat.mul_assoc]
   have:2^(l.getD ys[j+1] 0 - l.getD ys[j] 0)*sh l ys[j+1]=sh l ys[j]:=by
    unfold sh;rw [←Nat.pow_add];congr 1;omega
   rw [this,Nat.succ_mul]
  have hcl1:=rj hv hys hlt
  have hp1:2^l.getD ys[j+1] 0≤2^15:=Nat.pow_le_pow_right (by decide) h15b
  refine ⟨fun c kk w'=> ∃n:Nat,kk=((l.getD ys[j] 0+n:Nat):Int)∧l.getD ys[j] 0+n≤l.getD ys[j+1] 0∧c=(((ck l ys j+1)*2^n:Nat):Int)∧Hp E w' (aj 1 so ((ints ys).map vI)::af b7 (.cells (ai .u32 (bf l ys (j+1))) 237 (0,0))::af b5 (.cells (ai .u32 (List.replicate 258 0)) 237 (0,0))::af b3 (.cells (ai .u8 l) 104 (0,0))::F),
   fun _ kk _=>16 - kk.toNat,⟨0,by omega,by omega,by simp,hh⟩,?_⟩
  rintro c kk w7 ⟨n,rfl,hn,rfl,h7⟩
  refine rdo hlt h7 (aw.rd (s:= .int .u8) h7.p3 (by omega) (by omega) (l.getD ys[j+1] 0:Int) (kL (by omega)) (aa.mk (fun hl2=> ?_) (fun hg2=> ?_)))
  ·have hl2:=of_decide_eq_true hl2
   have hle:(ck l ys j+1)*2^(n+1)≤ck l ys (j+1):=by
    rw [←hnew];exact Nat.mul_le_mul_left _ (Nat.pow_le_pow_right (by decide) (by omega))
   have hpw:(ck l ys j+1)*2^(n+1)=2*((ck l ys j+1)*2^n):=by rw [Nat.pow_succ,←Nat.mul_assoc,Nat.mul_comm]
   rw [eI (by omega),dN (by omega)]
   exact ⟨⟨n+1,by omega,by omega,by rw [hpw];omega,h7⟩,by dsimp only;omega⟩
  ·have hg2:=of_decide_eq_false hg2
   have hne:l.getD ys[j+1] 0 - l.getD ys[j] 0=n:=by omega
   rw [hne] at hnew
   rw [hnew]
   refine rdo hlt h7 (aw.wr h7.p1 (by omega) (by omega) (sized _) rfl fun w8 h8=> ?_)
   rw [Int.toNat_natCast,m8] at h8
   rw [ae (by omega)]
   refine ⟨⟨j+1+1,by omega,by omega,by omega,?_⟩,by dsimp only;omega⟩
   rw [if_neg (by omega)]
   have:bf l ys (j+1+1)=(bf l ys (j+1)).set ys[j+1] (ck l ys (j+1)):=by rw [bf,jz hlt]
   rw [this]
   exact h8.p1
 ·have:=of_decide_eq_false hge
  by_cases e:ys.length=0
  ·rw [if_pos e];omega
  ·rw [if_neg e];omega
end
end Go.Proofs.YtgglghjnakclmaaGreat
namespace Go.Proofs.YtgglghjnakclmaaGreat
open Go Go.Vc
set_option maxRecDepth 100000
theorem C3.ok (a:(Array Value)) (b:Sl) (R:Sl→Bool→World→Prop) w (h:
 Nw 104 a w fun d c=>
 Ld (.arr 258) ⟨d,0,none⟩ c fun e=>
 Cl Pg [(.arr 258),kI] lW ⟨[(.agg e)]⟩ c fun g (h:Int) f=>
 Nw 237 ⟨List.replicate 258 (.int .u32 0)⟩ f fun j i=>
 ax 258 ⟨j,0,none⟩ g i fun k=>
 aa (h !=0)
 (R (⟨none,0,0⟩:Sl) false k)
 (br (⟨none,0,0⟩:Sl) 0 k fun l m (n:Sl) (o:Int) p=>
 aa (decide (o<(b.len:Int)))
 (an b o 1 fun q=>
 Ld kI q p fun (r:Int)=>
 bD (fun (v:World)=>
 aw ⟨d,0,none⟩ 258 r 1 fun x=>
 Ld (aq .u8) x v fun (y:Int)=>
 br n (i64 ((i64 y) - 1)) v fun z a1 (b1:Sl) (c1:Int) d1=>
 aa (decide (c1≥0))
 (aw ⟨j,0,none⟩ 258 r 1 fun e1=>
 Ld (aq .u32) e1 d1 fun (f1:Int)=>
 0≤(u64 c1)∧
 Nw 3 ⟨[(ni (i64 (c7 .u32 (aN .u32 f1 (u64 c1)) 1)))]⟩ d1 fun h1 g1=>
 av Pg (Builtin.append_ #[142,142] 142 ⟨[(ah b1),(ah (⟨some ⟨h1,0,none⟩,1,1⟩:Sl))]⟩) kS g1 fun (j1:Sl) i1=>
 z j1 (i64 (c1 - 1)) i1∧a1 j1 (i64 (c1 - 1)) i1<a1 b1 c1 d1)
 (l b1 (i64 (o+1)) d1∧m b1 (i64 (o+1)) d1<m n o p)) fun s=>
 aa (decide (r<0))
 (R (⟨none,0,0⟩:Sl) false p)
 (aa (decide (r≥258))
 (R (⟨none,0,0⟩:Sl) false p)
 (aw ⟨d,0,none⟩ 258 r 1 fun t=>
 Ld (aq .u8) t p fun (u:Int)=>
 aa (u==0)
 (R (⟨none,0,0⟩:Sl) false p)
 (s p))))
 (R n true p))):Cl Pg [kS,kB] m7 ⟨[(.agg a),(ah b)]⟩ w R:=co Tryz.f128 [(14,[(8,kS),(9,kI)]),(21,[]),(28,[(8,kS),(11,kI)])] h
end Go.Proofs.YtgglghjnakclmaaGreat
set_option maxRecDepth 20000
namespace Go.Proofs.YtgglghjnakclmaaGreat
open Go Go.Vc Go.Srt Go.aS
section
variable {E w:World} {F:List HP}
set_option maxRecDepth 20000 in
theorem JD {l:List Nat} {s:Sl} {zs:List Int} {K:Sl→Bool→World→Prop} (h:Hp E w F) (hl:l.length=258) (h8: ∀x∈l,x≤255) (hs:ad F (aC 1 s (zs.map vI))) (hn:zs.length≤100000)
  (hK1: ¬(aO l≤32768∧jy l zs=true)→∀w',Hp E w' F→K ⟨none,0,0⟩ false w') (hK2:aO l≤32768→jy l zs=true→∀s' w',Hp E w' (aj 1 s' ((ints (gK l zs)).map vI)::F)→K s' true w'):
  Cl Tryz.prog [kS,kB] m7 ⟨[.agg (ai .u8 l),.slice s.base s.len s.cap]⟩ w K:=by
 refine C3.ok _ _ _ _ ?_
 simp only [ao]
 rw [jH]
 have hsl:=(h.ag hs).1
 simp only [List.length_map,Nat.mul_one] at hsl
 refine Nw.mk h fun b4 w1 h1=>Ld.arr h1 (by rw [au,hl]) (Ea h1 hl h8 (fun hv w2 h2=> ?_) (fun hv ys w2 hys h2=> ?_))
 ·exact Nw.mk h2 fun b10 w3 h3=>ax.aG h3 (by rw [au];simp) (by rw [au];simp) bX fun w4 h4=>aa.t (by decide) (hK1 (fun hh=>hv hh.1) w4 h4.drop.drop)
 refine Nw.mk h2 fun b10 w3 h3=>ax.aG h3 (by rw [au];simp) (by rw [au,bW]) bX fun w4 h4=>aa.f (by decide) ?_
 refine ⟨fun o i w'=> ∃k:Nat,i=(k:Int)∧k≤zs.length∧jy l (zs.take k)=true∧Hp E w' (aj 1 o ((ints (gK l (zs.take k))).map vI)::af b10 (.cells (ai .u32 (bf l ys ys.length)) 237 (0,0))::af b4 (.cells (ai .u8 l) 104 (0,0))::F),fun _ i _=>zs.length - i.toNat,⟨0,rfl,by omega,rfl,h4.bm 1⟩,?_⟩
 rintro o i w5 ⟨k,rfl,hk,hg,hh⟩
 refine aa.mk (fun hlt=> ?_) (fun hge=> ?_)
 ·have hlt:k<zs.length:=by have:=of_decide_eq_true hlt;omega
  have bad:gv l zs[k]=false→K ⟨none,0,0⟩ false w5:=fun hb=>hK1 (fun hh=>by rw [zQ hlt hb] at hh;exact absurd hh.2 (by decide)) w5 hh.drop.drop.drop
  refine an.rd (hh.ag (ad.cons (ad.cons (ad.cons hs)))) (by omega) (by omega) fun q hq hc=>Ld.sc (s:= .int .i64) zs[k] (by rw [hc];simp [vI,Sc.enc]) ?_
  refine aa.mk (fun h0=>bad ?_) (fun h0=>aa.mk (fun h1=>bad ?_) (fun h1=> ?_))
  ·have:=of_decide_eq_true h0
   unfold gv;rw [decide_eq_false (show¬0≤zs[k] by omega)];rfl
  ·have:=of_decide_eq_true h1
   unfold gv;rw [decide_eq_false (show¬zs[k]<258 by omega)];simp
  have h0:=of_decide_eq_false h0
  have h1:=of_decide_eq_false h1
  obtain ⟨m,hm⟩: ∃m:Nat,zs[k]=(m:Int):=⟨zs[k].toNat,by omega⟩
  have hm2:zs[k].toNat=m:=by omega
  rw [hm]
  refine aw.rd (s:= .int .u8) hh.p2 (by omega) (by omega) (l.getD m 0:Int) (kL (by omega)) (aa.mk (fun hz=>bad ?_) (fun hz=> ?_))
  ·have:l.getD m 0=0:=by rw [beq_iff_eq] at hz;omega
   unfold gv;rw [hm2,this];simp
  have hz:0<l.getD m 0:=by have:=beq_eq_false_iff_ne.1 hz;omega
  have h15:=fP hv m
  have hle:=kA hv (zs.take k)
  rw [List.length_take] at hle
  have hcl:=B4 hl hv (show m<258 by omega) hz
  have hp:2^l.getD m 0≤2^15:=Nat.pow_le_pow_right (by decide) h15
  have hp2:(2:Nat)^15=32768:=by decide
  refine aw.rd (s:= .int .u8) hh.p2 (by omega) (by omega) (l.getD m 0:Int) (kL (by omega)) ?_
  rw [ae (x:=(l.getD m 0:Int)) (by omega),ae (x:=(l.getD m 0:Int) - 1) (by omega),ae (x:=(k:Int)+1) (by omega)]
  have hel:=tp l m
  refine ⟨fun o2 kk w'=> ∃j:Nat,kk=(l.getD m 0:Int) - 1 - (j:Int)∧j≤l.getD m 0∧Hp E w' (aj 1 o2 ((ints (gK l (zs.take k)++(oB l m).take j)).map vI)::af b10 (.cells (ai .u32 (bf l ys ys.length)) 237 (0,0))::af b4 (.cells (ai .u8 l) 104 (0,0))::F),fun _ kk _=>(kk+1).toNat,
   ⟨0,by omega,by omega,by simpa using hh⟩,?_⟩
  rintro o2 kk w6 ⟨j,rfl,hj,h6⟩
  refine aa.mk (fun hge2=> ?_) (fun hlt2=> ?_)
  ·have hj2:j<l.getD m 0:=by have:=of_decide_eq_true hge2;omega
   refine aw.rd (s:= .int .u32) h6.p1 (by omega) (by omega) ((bf l ys ys.length).getD m 0:Int) (kL (by rw [bW];omega)) ?_
   rw [vn hl hv hys (by omega) hz,r8 (by omega),show (l.getD m 0:Int) - 1 - (j:Int)=((l.getD m 0 - 1 - j:Nat):Int) by omega]
   have hd:=Nat.div_le_self (code l m) (2^(l.getD m 0 - 1 - j))
   have e1:c7 .u32 (aN .u32 (code l m:Int) ((l.getD m 0 - 1 - j:Nat):Int)) 1=((code l m/2^(l.getD m 0 - 1 - j) % 2:Nat):Int):=by
    have hmx:IntKind.max .u32=4294967295:=rfl
    rw [cD (by have:IntKind.bits .u32=32:=rfl;omega),show (1:Int)=((1:Nat):Int) from rfl,js (by omega) (by omega),Nat.and_one_is_mod]
   rw [e1,ae (x:=((code l m/2^(l.getD m 0 - 1 - j) % 2:Nat):Int)) (by omega)]
   refine ⟨by omega,?_⟩
   have hol:=h6.aV
   rw [List.length_map,ints,List.length_map,List.length_append,List.length_take,hel,Nat.mul_one] at hol
   refine Nw.mk h6 fun b33 w7 h7=>aI (ys:= [vI ((code l m/2^(l.getD m 0 - 1 - j) % 2:Nat):Int)]) (n:=1) eG (by decide) (.inl ⟨3,by kernel_rfl⟩) h7.p1 (.inl ⟨some ⟨b33,0,none⟩,1,1,rfl,rfl,h7.ag (ad.aG rfl rfl)⟩) rfl mh (by omega) (by omega) fun s' w8 h8 hs'=>⟨⟨j+1,by rw [ae (by omega)];omega,by omega,?_⟩,by dsimp only;rw [ae (by omega)];omega⟩
   have e2:(oB l m).take (j+1)=(oB l m).take j++ [code l m/2^(l.getD m 0 - 1 - j) % 2]:=by
    have hjl:j<(oB l m).length:=by omega
    rw [List.take_add_one,List.getElem?_eq_getElem hjl]
    have:=AD (l.getD m 0) (code l m) j hj2
    rw [←this]
    show _=_++ [(oB l m).getD j 0]
    rw [cI hjl];rfl
   rw [e2,←List.append_assoc,pX,List.map_append]
   exact h8.p1.drop
  ·have hj2:j=l.getD m 0:=by have:=of_decide_eq_false hlt2;omega
   subst hj2
   rw [List.take_of_length_le (l:=oB l m) (by omega)] at h6
   refine ⟨⟨k+1,by omega,by omega,yi hlt hg (n9.2 ⟨by omega,by omega,by rw [hm2];exact hz⟩),?_⟩,by dsimp only;omega⟩
   rw [rB hlt,hm2]
   exact h6
 ·have hge:k=zs.length:=by have:=of_decide_eq_false hge;omega
  subst hge
  rw [List.take_length] at hg hh
  exact hK2 hv hg _ _ hh.p1.drop.p1.drop
end
end Go.Proofs.YtgglghjnakclmaaGreat
namespace Go.Proofs.YtgglghjnakclmaaGreat
open Go Go.Vc
set_option maxRecDepth 100000
theorem De.ok (a:Sl) (R:Sl→Int→World→Prop) w (h:
 Cl Pg [kS] lS ⟨[(ah a)]⟩ w fun (c:Sl) b=>
 AL (⟨none,0,0⟩:Sl) 0 0 b fun d e (f:Sl) (g:Int) (h:Int) i=>
 aa (decide (h<(c.len:Int)))
 (an c h 1 fun j=>
 Ld kI j i fun (k:Int)=>
 aa (k==0)
 (d f h (i64 (h+1)) i∧e f h (i64 (h+1)) i<e f g h i)
 (an c h 1 fun l=>
 Ld kI l i fun (m:Int)=>
 an a (i64 (m - 1)) 1 fun n=>
 Ld (aq .u8) n i fun (o:Int)=>
 Nw 5 ⟨[(.int .u8 o)]⟩ i fun q p=>
 av Pg (Builtin.append_ #[26,26] 26 ⟨[(ah f),(ah (⟨some ⟨q,0,none⟩,1,1⟩:Sl))]⟩) kS p fun (s:Sl) r=>
 d s g (i64 (h+1)) r∧e s g (i64 (h+1)) r<e f g h i))
 (R f g i)):Cl Pg [kS,kI] nP ⟨[(ah a)]⟩ w R:=co Tryz.f81 [(11,[(4,kS),(5,kI),(7,kI)])] h
theorem zL.ok (a:Sl) (R:Sl→World→Prop) w (h:
 br (⟨none,0,0⟩:Sl) (i64 ((a.len:Int) - 1)) w fun b c (d:Sl) (e:Int) f=>
 aa (decide (e≥0))
 (an a e 1 fun g=>
 Ld (aq .u8) g f fun (h:Int)=>
 Nw 5 ⟨[(.int .u8 h)]⟩ f fun j i=>
 av Pg (Builtin.append_ #[26,26] 26 ⟨[(ah d),(ah (⟨some ⟨j,0,none⟩,1,1⟩:Sl))]⟩) kS i fun (l:Sl) k=>
 b l (i64 (e - 1)) k∧c l (i64 (e - 1)) k<c d e f)
 (R d f)):Cl Pg [kS] kX ⟨[(ah a)]⟩ w R:=co Tryz.f82 [(7,[(3,kS),(4,kI)])] h
theorem Br.ok (a:Sl) (R:Sl→World→Prop) w (h:
 br (⟨none,0,0⟩:Sl) 0 w fun b c (d:Sl) (e:Int) f=>
 aa (decide (e≤(a.len:Int)))
 (da (d.len:Int) f fun g h (i:Int) j=>
 aa (decide (i>0))
 (an d (i64 (i - 1)) 1 fun k=>
 Ld kI k j fun (l:Int)=>
 Cl Pg [kB] nc ⟨[(ah a),(ni e),(ni l)]⟩ j fun (n:Bool) m=>
 aa n
 (g (i64 (i - 1)) m∧h (i64 (i - 1)) m<h i j)
 (bd d 0 i (d).cap 1 fun o=>
 av Pg (Builtin.append_ #[142,142] 142 ⟨[(.slice none 0 0),(ah o)]⟩) kS m fun (q:Sl) p=>
 Nw 3 ⟨[(ni e)]⟩ p fun s r=>
 av Pg (Builtin.append_ #[142,142] 142 ⟨[(ah q),(ah (⟨some ⟨s,0,none⟩,1,1⟩:Sl))]⟩) kS r fun (u:Sl) t=>
 bd d i (d).len (d).cap 1 fun v=>
 av Pg (Builtin.append_ #[142,142] 142 ⟨[(ah u),(ah v)]⟩) kS t fun (y:Sl) x=>
 b y (i64 (e+1)) x∧c y (i64 (e+1)) x<c d e f))
 (bd d 0 i (d).cap 1 fun z=>
 av Pg (Builtin.append_ #[142,142] 142 ⟨[(.slice none 0 0),(ah z)]⟩) kS j fun (b1:Sl) a1=>
 Nw 3 ⟨[(ni e)]⟩ a1 fun d1 c1=>
 av Pg (Builtin.append_ #[142,142] 142 ⟨[(ah b1),(ah (⟨some ⟨d1,0,none⟩,1,1⟩:Sl))]⟩) kS c1 fun (f1:Sl) e1=>
 bd d i (d).len (d).cap 1 fun g1=>
 av Pg (Builtin.append_ #[142,142] 142 ⟨[(ah f1),(ah g1)]⟩) kS e1 fun (i1:Sl) h1=>
 b i1 (i64 (e+1)) h1∧c i1 (i64 (e+1)) h1<c d e f))
 (R d f)):Cl Pg [kS] lS ⟨[(ah a)]⟩ w R:=co Tryz.f133 [(7,[(3,kS),(4,kI)]),(15,[(5,kI)])] h
theorem DJ.ok (a:Sl) (b:Int) (c:Int) (R:Bool→World→Prop) w (h:
 bD (fun (e:World)=>
 bD (fun (q:Int) (r:Int) (s:World)=>
 aa (q==r)
 (R false s)
 (aa (r==(a.len:Int))
 (R false s)
 (aK s fun t=>
 aa (q==(a.len:Int))
 (R true t)
 (an a q 1 fun u=>
 Ld (aq .u8) u t fun (v:Int)=>
 an a r 1 fun x=>
 Ld (aq .u8) x t fun (y:Int)=>
 R (decide (v<y)) t)))) fun f=>
 br b c e fun g h (i:Int) (j:Int) k=>
 aK k fun l=>
 aa (decide (i<(a.len:Int)))
 (aa (decide (j<(a.len:Int)))
 (an a i 1 fun m=>
 Ld (aq .u8) m l fun (n:Int)=>
 an a j 1 fun o=>
 Ld (aq .u8) o l fun (p:Int)=>
 aa (n==p)
 (aa (i !=j)
 (g (i64 (i+1)) (i64 (j+1)) l∧h (i64 (i+1)) (i64 (j+1)) l<h i j k)
 (f i j l))
 (f i j l))
 (f i j l))
 (f i j l)) fun d=>
 aa (decide (b<0))
 (R false w)
 (aa (decide (b>(a.len:Int)))
 (R false w)
 (aa (decide (c<0))
 (R false w)
 (aa (decide (c>(a.len:Int)))
 (R false w)
 (d w))))):Cl Pg [kB] nc ⟨[(ah a),(ni b),(ni c)]⟩ w R:=co Tryz.f186 [(2,[]),(7,[(1,kI),(2,kI)]),(8,[(1,kI),(2,kI)])] h
end Go.Proofs.YtgglghjnakclmaaGreat
set_option maxRecDepth 20000
namespace Go.Proofs.YtgglghjnakclmaaGreat
open Go Go.Vc Go.Bw Go.Hs
section
variable {E w:World} {F:List HP}
set_option maxRecDepth 20000 in
theorem Ew {t:List Nat} {s:Sl} {i k:Int} {K:Bool→World→Prop} (h:Hp E w F) (hs:ad F (aC 1 s (t.map vB))) (hn:t.length≤cb) (hK: ∀w',Hp E w' F→K (vd t i k) w'):
  Cl Tryz.prog [kB] nc ⟨[.slice s.base s.len s.cap,.int .i64 i,.int .i64 k]⟩ w K:=by
 refine DJ.ok _ _ _ _ _ ?_
 simp only [ao]
 have hl:=(h.ag hs).1
 simp only [List.length_map,Nat.mul_one] at hl
 rw [aA] at hn
 have no: ¬(0≤i∧i≤t.length∧0≤k∧k≤t.length)→K false w:=fun hn=>by
  have:=hK w h
  unfold vd at this
  rwa [decide_eq_false hn,Bool.false_and] at this
 refine aa.mk (fun g=>no (by have:=of_decide_eq_true g;omega)) (fun g1=>aa.mk (fun g=>no (by have:=of_decide_eq_true g;omega)) (fun g2=>aa.mk (fun g=>no (by have:=of_decide_eq_true g;omega)) (fun g3=>aa.mk (fun g=>no (by have:=of_decide_eq_true g;omega)) (fun g4=> ?_))))
 have g1:=of_decide_eq_false g1
 have g2:=of_decide_eq_false g2
 have g3:=of_decide_eq_false g3
 have g4:=of_decide_eq_false g4
 obtain ⟨a0,rfl⟩:=Int.eq_ofNat_of_zero_le (show 0≤i by omega)
 obtain ⟨b0,rfl⟩:=Int.eq_ofNat_of_zero_le (show 0≤k by omega)
 have hK2: ∀w',Hp E w' F→K (sl t a0 b0) w':=fun w' h'=>by
  have:=hK w' h'
  unfold vd at this
  rwa [decide_eq_true ⟨by omega,by omega,by omega,by omega⟩,Bool.true_and,Int.toNat_natCast,Int.toNat_natCast] at this
 refine ⟨fun x y w'=> ∃a b:Nat,x=(a:Int)∧y=(b:Int)∧a≤t.length∧b≤t.length∧sl t a b=sl t a0 b0∧Hp E w' F,fun x _ _=>t.length - x.toNat,⟨a0,b0,rfl,rfl,by omega,by omega,rfl,h⟩,?_⟩
 rintro x y w1 ⟨a,b,rfl,rfl,ha,hb,hab,h1⟩
 refine aK.mk h1 fun w2 h2=> ?_
 have fin:(a<t.length→b<t.length→t.getD a 0=t.getD b 0→a=b)→aa ((a:Int)==(b:Int)) (K false w2) (aa ((b:Int)==(s.len:Int)) (K false w2) (aK w2 fun w_20=>aa ((a:Int)==(s.len:Int)) (K true w_20) (an s (a:Int) 1 fun q21=>Ld (aq .u8) q21 w_20 fun x22=>an s (b:Int) 1 fun q23=>Ld (aq .u8) q23 w_20 fun x24=>K (decide (x22<x24)) w_20))):=fun hd=>by
  refine aa.mk (fun e=> ?_) (fun e=>aa.mk (fun e2=> ?_) (fun e2=>aK.mk h2 fun w3 h3=>aa.mk (fun e3=> ?_) (fun e3=> ?_)))
  ·have e:a=b:=by have:=beq_iff_eq.1 e;omega
   have:=hK2 w2 h2
   rw [←hab,e,(dq t).irr] at this;exact this
  ·have e2:b=t.length:=by have:=beq_iff_eq.1 e2;omega
   have:=hK2 w2 h2
   have e4:sl t a b=false:=by unfold sl;rw [e2,List.drop_length,pd]
   rw [←hab,e4] at this;exact this
  ·have e2:b<t.length:=by have:=beq_eq_false_iff_ne.1 e2;omega
   have e3:a=t.length:=by have:=beq_iff_eq.1 e3;omega
   have:=hK2 w3 h3
   have e4:sl t a b=true:=by unfold sl;rw [e3,List.drop_length,qz e2];rfl
   rw [←hab,e4] at this;exact this
  ·have e:=beq_eq_false_iff_ne.1 e
   have e2:b<t.length:=by have:=beq_eq_false_iff_ne.1 e2;omega
   have e3:a<t.length:=by have:=beq_eq_false_iff_ne.1 e3;omega
   have hne:t.getD a 0≠t.getD b 0:=fun h=>e (by rw [hd e3 e2 h])
   refine an.nB (h3.ag hs) rfl e3 (an.nB (h3.ag hs) rfl e2 ?_)
   have:=hK2 w3 h3
   have e4:sl t a b=decide ((t.getD a 0:Int)<(t.getD b 0:Int)):=by
    rw [sv e3 e2,beq_eq_false_iff_ne.2 hne,Bool.false_and,Bool.or_false,decide_eq_decide];omega
   rw [←hab,e4] at this;exact this
 refine aa.mk (fun c1=>aa.mk (fun c2=> ?_) (fun c2=>fin fun _ hb' _=>by have:=of_decide_eq_false c2;omega)) (fun c1=>fin fun ha' _ _=>by have:=of_decide_eq_false c1;omega)
 have c1:a<t.length:=by have:=of_decide_eq_true c1;omega
 have c2:b<t.length:=by have:=of_decide_eq_true c2;omega
 refine an.nB (h2.ag hs) rfl c1 (an.nB (h2.ag hs) rfl c2 ?_)
 refine aa.mk (fun c3=>aa.mk (fun c4=> ?_) (fun c4=>fin fun _ _ _=>(by have h9:(a:Int)=(b:Int):=(by simpa using c4);omega))) (fun c3=>fin fun _ _ he=>absurd (by rw [he]) (beq_eq_false_iff_ne.1 c3))
 have c3:t.getD a 0=t.getD b 0:=by have:=beq_iff_eq.1 c3;omega
 refine ⟨⟨a+1,b+1,by rw [ae (by omega)];omega,by rw [ae (by omega)];omega,by omega,by omega,?_,h2⟩,by dsimp only;rw [ae (x:=(a:Int)+1) (by omega)];omega⟩
 rw [←hab,sv c1 c2,c3];simp
set_option maxRecDepth 20000 in
theorem Dv {t:List Nat} {s:Sl} {K:Sl→World→Prop} (h:Hp E w F) (hs:ad F (aC 1 s (t.map vB))) (hn:t.length≤400000)
  (hK: ∀s' w',Hp E w' (aj 1 s' ((zl (aZ t)).map vI)::F)→K s' w'):Cl Tryz.prog [kS] lS ⟨[.slice s.base s.len s.cap]⟩ w K:=by
 refine Br.ok _ _ _ ?_
 have hl:=(h.ag hs).1
 simp only [List.length_map,Nat.mul_one] at hl
 refine ⟨fun o i w'=> ∃(k:Nat) (L:List Nat),i=(k:Int)∧k≤t.length+1∧L.Perm (List.range k)∧L.Pairwise (fun a b=>sl t a b=true)∧Hp E w' (aj 1 o ((zl L).map vI)::F),fun _ i _=>t.length+1 - i.toNat,⟨0,[],rfl,by omega,List.Perm.refl _,List.Pairwise.nil,h.bm 1⟩,?_⟩
 rintro o i w1 ⟨k,L,rfl,hk,hp,hpw,h1⟩
 have hLl:L.length=k:=by rw [hp.length_eq,List.length_range]
 have hol:=h1.aV
 rw [List.length_map,iU,Nat.mul_one] at hol
 have hcap:=h1.kh
 refine aa.mk (fun hlt=> ?_) (fun hge=> ?_)
 ·have hlt:k≤t.length:=by have:=of_decide_eq_true hlt;omega
  have hin: ∀j (hj:j<L.length),L[j]<k:=fun j hj=>by
   have:=hp.mem_iff.1 (List.getElem_mem hj)
   rwa [List.mem_range] at this
  have hgd: ∀j (hj:j<L.length),(zl L).getD j 0=(L[j]:Int):=fun j hj=>by simp [zl,List.getD,hj]
  refine ⟨fun c w'=> ∃m:Nat,c=(m:Int)∧m≤k∧(∀j (hj:j<L.length),m≤j→sl t k L[j]=true)∧Hp E w' (aj 1 o ((zl L).map vI)::F),fun c _=>c.toNat,⟨k,by omega,by omega,fun j hj h=>by omega,h1⟩,?_⟩
  rintro c w2 ⟨m,rfl,hm,hgt,h2⟩
  have fin: ∀{w3:World},Hp E w3 (aj 1 o ((zl L).map vI)::F)→(m=0∨∃hj:m - 1<L.length,sl t k L[m - 1]=false)→
    bd o 0 (m:Int) (o.cap:Int) 1 fun s15=>av Tryz.prog (Builtin.append_ #[142,142] 142 ⟨[.slice none 0 0,.slice s15.base s15.len s15.cap]⟩) kS w3 fun s17 w_16=>
     Nw 3 ⟨[.int .i64 (k:Int)]⟩ w_16 fun b19 w_18=>av Tryz.prog (Builtin.append_ #[142,142] 142 ⟨[.slice s17.base s17.len s17.cap,.slice (some ⟨b19,0,none⟩) 1 1]⟩) kS w_18 fun s21 w_20=>
     bd o (m:Int) (o.len:Int) (o.cap:Int) 1 fun s22=>av Tryz.prog (Builtin.append_ #[142,142] 142 ⟨[.slice s21.base s21.len s21.cap,.slice s22.base s22.len s22.cap]⟩) kS w_20 fun s24 w_23=>
     (∃(k':Nat) (L':List Nat),i64 ((k:Int)+1)=(k':Int)∧k'≤t.length+1∧L'.Perm (List.range k')∧L'.Pairwise (fun a b=>sl t a b=true)∧Hp E w_23 (aj 1 s24 ((zl L').map vI)::F))∧t.length+1 - (i64 ((k:Int)+1)).toNat<t.length+1 - (k:Int).toNat:=fun {w3} h3 hst=>by
   refine bd.rd (h3.ag ad.own) (by omega) (by omega) (by omega) (by omega) (by omega) fun s15 h15 hl15=> ?_
   have ht15:aC 1 s15 ((zl (L.take m)).map vI) w3:=by
    have:=h15 w3 (h3.ag ad.own)
    rwa [show (0:Int).toNat=0 from rfl,List.drop_zero,Nat.sub_zero,Int.toNat_natCast,←List.map_take,show (zl L).take m=zl (L.take m) by unfold zl;rw [List.map_take]] at this
   have hA:=h3.bm 1
   refine aI (s:=⟨none,0,0⟩) (ys:=(zl (L.take m)).map vI) (n:=m) Ac (by decide) (.inl ⟨3,by kernel_rfl⟩) hA (.inl ⟨s15.base,s15.len,s15.cap,rfl,by rw [hl15];omega,ht15⟩) (by rw [List.length_map,iU,List.length_take];omega) lF (by show (2*(0+m)+1024)*8≤2^48;omega) (by show 0+m<2^62;omega) fun s17 w4 h4 hs17=> ?_
   rw [List.nil_append] at h4
   refine Lk Ac rfl h4 (by rw [iU,List.length_take,aA];omega) fun s21 w5 h5 hs21=> ?_
   rw [iU,List.length_take] at hs21
   refine bd.rd (h5.ag (ad.cons ad.own)) (by omega) (by omega) (by omega) (by omega) (by omega) fun s22 h22 hl22=> ?_
   have ht22:aC 1 s22 ((zl (L.drop m)).map vI) w5:=by
    have:=h22 w5 (h5.ag (ad.cons ad.own))
    rwa [Int.toNat_natCast,Int.toNat_natCast,←List.map_drop,List.take_of_length_le (by rw [List.length_map,List.length_drop,iU];omega),show (zl L).drop m=zl (L.drop m) by unfold zl;rw [List.map_drop]] at this
   refine aI (ys:=(zl (L.drop m)).map vI) (n:=k - m) Ac (by decide) (.inl ⟨3,by kernel_rfl⟩) h5 (.inl ⟨s22.base,s22.len,s22.cap,rfl,by rw [hl22];omega,ht22⟩) (by rw [List.length_map,iU,List.length_drop];omega) lF (by omega) (by omega) fun s24 w6 h6 hs24=> ?_
   rw [ae (by omega)]
   refine ⟨⟨k+1,L.take m++ [k]++L.drop m,by omega,by omega,?_,?_,?_⟩,by omega⟩
   ·rw [List.range_succ]
    refine (List.Perm.append_right _ List.perm_append_comm).trans ?_
    rw [List.append_assoc,List.take_append_drop]
    exact (List.perm_append_comm (l₁:= [k]) (l₂:=L)).trans (hp.append_right _)
   ·have hlo: ∀a∈L.take m,sl t a k=true:=fun a ha=>by
     obtain ⟨j,hj,rfl⟩:=List.getElem_of_mem ha
     rw [List.length_take] at hj
     rw [List.getElem_take]
     rcases hst with h0|⟨hj1,hf⟩
     ·omega
     ·have hne:L[m - 1]≠k:=by have:=hin (m - 1) hj1;omega
      have h8:sl t L[m - 1] k=true:=by
       rcases m4 t k (e6.2 hlt) L[m - 1] (e6.2 (by have:=hin (m - 1) hj1;omega)) (fun e=>hne e.symm) with h9|h9
       ·rw [hf] at h9;cases h9
       ·exact h9
      by_cases e:j=m - 1
      ·subst e;exact h8
      ·exact (dq t).trans _ _ _ (List.pairwise_iff_getElem.1 hpw j (m - 1) (by omega) hj1 (by omega)) h8
    have hhi: ∀b∈L.drop m,sl t k b=true:=fun b hb=>by
     obtain ⟨j,hj,rfl⟩:=List.getElem_of_mem hb
     rw [List.length_drop] at hj
     rw [List.getElem_drop]
     exact hgt _ (by omega) (by omega)
    rw [List.append_assoc]
    refine List.pairwise_append.2 ⟨hpw.sublist (List.take_sublist ..),List.pairwise_append.2 ⟨by simp,hpw.sublist (List.drop_sublist ..),fun a ha b hb=> ?_⟩,fun a ha b hb=> ?_⟩
    ·rw [List.mem_singleton] at ha
     subst ha;exact hhi b hb
    ·rcases List.mem_append.1 hb with hb|hb
     ·rw [List.mem_singleton] at hb
      subst hb;exact hlo a ha
     ·exact (dq t).trans _ _ _ (hlo a ha) (hhi b hb)
   ·have e:(zl (L.take m)++ [(k:Int)]).map vI++(zl (L.drop m)).map vI=(zl (L.take m++ [k]++L.drop m)).map vI:=by
     rw [Em,Em,List.map_append,List.map_append,List.map_append];rfl
    rw [e] at h6
    exact h6.p1.drop
  refine aa.mk (fun hpos=> ?_) (fun hpos=>fin h2 (.inl (by have:=of_decide_eq_false hpos;omega)))
  have hpos:0<m:=by have:=of_decide_eq_true hpos;omega
  have e1:i64 ((m:Int) - 1)=((m - 1:Nat):Int):=by rw [ae (by omega)];omega
  rw [e1]
  refine an.nI (h2.ag ad.own) rfl (by rw [iU];omega) ?_
  rw [hgd (m - 1) (by omega)]
  have hlm:=hin (m - 1) (by omega)
  refine Ew h2 (ad.cons hs) (by rw [aA];omega) fun w3 h3=> ?_
  have hle:vd t (k:Int) (L[m - 1]:Int)=sl t k L[m - 1]:=by
   unfold vd
   rw [decide_eq_true ⟨by omega,by omega,by omega,by omega⟩,Bool.true_and,Int.toNat_natCast,Int.toNat_natCast]
  rw [hle]
  refine aa.mk (fun hsl=> ?_) (fun hsl=>fin h3 (.inr ⟨by omega,hsl⟩))
  refine ⟨⟨m - 1,rfl,by omega,fun j hj hmj=> ?_,h3⟩,by dsimp only;omega⟩
  by_cases e:j=m - 1
  ·subst e;exact hsl
  ·exact hgt j hj (by omega)
 ·have hge:k=t.length+1:=by have:=of_decide_eq_false hge;omega
  subst hge
  have:L=aZ t:=Rk.ot (dq t) (hp.trans (Rk.cF (lt:=sl t) (rows t)).symm) hpw (iT t)
  rw [this] at h1
  exact hK o w1 h1
end
end Go.Proofs.YtgglghjnakclmaaGreat
set_option maxRecDepth 20000
namespace Go.Proofs.YtgglghjnakclmaaGreat
open Go Go.Vc Go.Bw Go.Hs
section
variable {E w:World} {F:List HP}
set_option maxRecDepth 200000 in
theorem FU {t:List Nat} {s:Sl} {K:Sl→Int→World→Prop} (h:Hp E w F) (hs:ad F (aC 1 s (t.map vB))) (hn:t.length≤400000)
  (hK: ∀s' w',Hp E w' (aj 1 s' ((aQ t).map vB)::F)→K s' (a7 t:Int) w'):Cl Tryz.prog [kS,kI] nP ⟨[.slice s.base s.len s.cap]⟩ w K:=by
 refine De.ok _ _ _ ?_
 have hl:=(h.ag hs).1
 simp only [List.length_map,Nat.mul_one] at hl
 refine Dv h hs hn fun s3 w1 h1=> ?_
 have hl3:=h1.aV
 rw [List.length_map,iU,gO,Nat.mul_one] at hl3
 refine ⟨fun o ix i w'=> ∃k:Nat,i=(k:Int)∧k≤t.length+1∧ix=(if a7 t<k then (a7 t:Int) else 0)∧Hp E w' (aj 1 o (((((aZ t).take k).filter fun i=>i !=0).map fun i=>t.getD (i - 1) 0).map vB)::aj 1 s3 ((zl (aZ t)).map vI)::F),
  fun _ _ i _=>t.length+1 - i.toNat,⟨0,rfl,by omega,rfl,h1.bm 1⟩,?_⟩
 rintro o ix i w2 ⟨k,rfl,hk,rfl,h2⟩
 refine aa.mk (fun hlt=> ?_) (fun hge=> ?_)
 ·have hlt:k<t.length+1:=by have:=of_decide_eq_true hlt;omega
  have hko:k<(aZ t).length:=by rw [gO];exact hlt
  have hix:=gU t hko
  have hle:(aZ t)[k]≤t.length:=mP.1 (List.getElem_mem hko)
  have e0:(zl (aZ t)).getD k 0=((aZ t)[k]:Int):=by simp [zl,List.getD,hko]
  refine an.nI (h2.ag (ad.cons ad.own)) rfl (by rw [iU];exact hko) ?_
  rw [e0]
  have hf:=tO hko
  refine aa.mk (fun hz=> ?_) (fun hz=> ?_)
  ·have hz:(aZ t)[k]=0:=by have:=beq_iff_eq.1 hz;omega
   rw [if_pos hz,List.append_nil] at hf
   have hke:=hix.1 hz
   refine ⟨⟨k+1,by rw [ae (by omega)];omega,by omega,by rw [if_pos (by omega)];omega,by rw [hf];exact h2⟩,by dsimp only;rw [ae (by omega)];omega⟩
  ·have hz:(aZ t)[k]≠0:=by have:=beq_eq_false_iff_ne.1 hz;omega
   rw [if_neg hz] at hf
   have hke:k≠a7 t:=fun e=>hz (hix.2 e)
   refine an.nI (h2.ag (ad.cons ad.own)) rfl (by rw [iU];exact hko) ?_
   rw [e0]
   have e1:i64 (((aZ t)[k]:Int) - 1)=(((aZ t)[k] - 1:Nat):Int):=by rw [ae (by omega)];omega
   rw [e1]
   refine an.nB (h2.ag (ad.cons (ad.cons hs))) rfl (by omega) ?_
   refine HY Io rfl h2 (by rw [List.length_map,aA];exact Nat.le_trans (List.length_filter_le ..) (by rw [List.length_take];omega)) fun s' w3 h3 _=>⟨⟨k+1,by rw [ae (by omega)];omega,by omega,?_,?_⟩,by dsimp only;rw [ae (x:=(k:Int)+1) (by omega)];omega⟩
   ·by_cases e:a7 t<k
    ·rw [if_pos e,if_pos (by omega)]
    ·rw [if_neg e,if_neg (by omega)]
   ·rw [hf,List.map_append]
    exact h3
 ·have hge:k=t.length+1:=by have:=of_decide_eq_false hge;omega
  subst hge
  have hil:=kW t
  rw [if_pos (by omega)]
  rw [List.take_of_length_le (by rw [gO];exact Nat.le_refl _)] at h2
  exact hK o w2 h2.p1.drop
set_option maxRecDepth 200000 in
theorem A9 {b:List Nat} {s:Sl} {K:Sl→World→Prop} (h:Hp E w F) (hs:ad F (aC 1 s (b.map vB))) (hn:b.length≤400000)
  (hK: ∀s' w',Hp E w' (aj 1 s' (b.reverse.map vB)::F)→K s' w'):Cl Tryz.prog [kS] kX ⟨[.slice s.base s.len s.cap]⟩ w K:=by
 refine zL.ok _ _ _ ?_
 have hl:=(h.ag hs).1
 simp only [List.length_map,Nat.mul_one] at hl
 refine ⟨fun o i w'=> ∃k:Nat,i=(b.length:Int) - 1 - (k:Int)∧k≤b.length∧Hp E w' (aj 1 o ((b.reverse.take k).map vB)::F),fun _ i _=>(i+1).toNat,⟨0,by rw [ae (by omega)];omega,by omega,h.bm 1⟩,?_⟩
 rintro o i w1 ⟨k,rfl,hk,h1⟩
 refine aa.mk (fun hge=> ?_) (fun hlt=> ?_)
 ·have hge:k<b.length:=by have:=of_decide_eq_true hge;omega
  refine an.nB (j:=b.length - 1 - k) (h1.ag (ad.cons hs)) (by omega) (by omega) ?_
  refine HY Io rfl h1 (by rw [List.length_take,List.length_reverse,aA];omega) fun s' w2 h2 _=>⟨⟨k+1,by rw [ae (by omega)];omega,by omega,?_⟩,by dsimp only;rw [ae (by omega)];omega⟩
  have e:b.reverse.take (k+1)=b.reverse.take k++ [b.getD (b.length - 1 - k) 0]:=by
   rw [List.take_add_one,List.getElem?_reverse hge]
   simp [List.getD,show b.length - 1 - k<b.length by omega]
  rw [e];exact h2
 ·have hke:k=b.length:=by have:=of_decide_eq_false hlt;omega
  subst hke
  rw [List.take_of_length_le (by rw [List.length_reverse];exact Nat.le_refl _)] at h1
  exact hK o w1 h1
end
end Go.Proofs.YtgglghjnakclmaaGreat
namespace Go.af
open Go.Inc Go.Srt Go.Sym Go.aS
end Go.af
namespace Go.Proofs.YtgglghjnakclmaaGreat
open Go Go.Vc Go.Srt Go.Inc Go.Sym Go.Tab Go.Hd Go.Bw Go.aS Go.af Go.Crc
section
variable {E w:World} {F:List HP}
set_option maxRecDepth 20000
theorem xG {s:Sl} {x:List Nat} {K:Sl→Int→World→Prop} (h:Hp E w F) (hs:ad F (aC 1 s (x.map vB))) (hn:x.length≤400000) (hK: ∀s' w',Hp E w' (OB s' (aQ x.reverse)::F)→K s' (a7 x.reverse:Int) w'):
  Cl Tryz.prog [kS,kI] im ⟨[.slice s.base s.len s.cap]⟩ w K:=by
 refine zo.ok _ _ _ ?_
 refine A9 h hs hn fun s' w h=> ?_
 exact FU h ad.own (by simpa using hn) fun s2 w h=>hK s2 w h.du
theorem u6 {s:Sl} {x:List Nat} {K:Sl→World→Prop} (h:Hp E w F) (hs:ad F (aC 1 s (x.map vB))) (hb: ∀y∈x,y<256) (hn:x.length≤400000) (hK: ∀s' w',Hp E w' (OI s' (syms (aQ x.reverse))::F)→K s' w'):
  Cl Tryz.prog [kS] gz ⟨[.slice s.base s.len s.cap]⟩ w K:=by
 refine yH.ok _ _ _ ?_
 refine xG h hs hn fun s' w h=> ?_
 exact JP h ad.own (sJ fun y hy=>hb y (List.mem_reverse.1 hy)) (by rw [cr,List.length_reverse];omega) fun s2 w h=>hK s2 w h.du
theorem Dp {s:Sl} {x:List Nat} {K:Array Value→World→Prop} (h:Hp E w F) (hs:ad F (aC 1 s (x.map vB))) (hb: ∀y∈x,y<256) (hn:x.length≤400000) (hK: ∀w',Hp E w' F→K (ai .u8 (ct x)) w'):
  Cl Tryz.prog [.arr 258] kj ⟨[.slice s.base s.len s.cap]⟩ w K:=by
 refine yu.ok _ _ _ ?_
 have h257:=uj hb
 have hfew:=zT hn
 have hct:=Cf h257
 have hall:(ints (syms (aQ x.reverse))).all Hs.jT=true:=by
  refine List.all_eq_true.2 fun z hz=> ?_
  obtain ⟨y,hy,rfl⟩:=List.mem_map.1 hz
  have:=h257 y hy
  exact Hs.iq.2 (by omega)
 have hmx:=sK (ss:=syms (aQ x.reverse)) (by omega)
 have hadd:Hs.cL (List.replicate 258 0) (ints (syms (aQ x.reverse)))=some (ints (hO (syms (aQ x.reverse)))):=by
  rw [←hct]
  exact Hs.p9 (by decide) hall (by rw [hct];exact ij hmx)
 have hsz:(aT (ints (hO (syms (aQ x.reverse))))).size=258:=by rw [bB,cG,jD]
 have hsc:(aT (ints (hO (syms (aQ x.reverse))))).toList.all aD=true:=List.all_eq_true.2 Vc.cJ
 have hls:(ai .u8 (ct x)).size=258:=by rw [au];exact D0 _
 have hlc:(ai .u8 (ct x)).toList.all aD=true:=List.all_eq_true.2 bX
 refine Nw.mk h fun b3 w h=>u6 h (ad.cons hs) hb hn fun s' w h=>JZ h ad.own (by rw [cG,aA];omega) fun w h=> ?_
 rw [show cj=List.replicate 258 0 from rfl,hadd]
 refine Nw.mk h fun b8 w h=>ax.q h (by simp) hsz hsc fun w h=>Ld.xw h hsz ?_
 refine Jw (uS (by omega)) h fun w h=> ?_
 refine Nw.mk h fun b15 w h=>ax.q h (by simp) hls hlc fun w h=>Ld.xw h hls ?_
 refine ax.q (b:=b3) h (by simp) hls hlc fun w h=>Ld.xw (b:=b3) h hls (hK w h.tl)
theorem JB {n:Int} {s:Sl} {x:List Nat} {K:Sl→Int→World→Prop} (h:Hp E w F) (hs:ad F (aC 1 s (x.map vB))) (hb: ∀y∈x,y<256) (hn:x.length≤65536)
  (hgood:1≤n→n≤65536→1≤x.length→(x.length:Int)≤n→∀s' w',Hp E w' (OB s' (qd (ct x) x)::F)→K s' 0 w')
  (hbad: ¬(1≤n∧n≤65536∧1≤x.length∧(x.length:Int)≤n)→∀w',Hp E w' F→K ⟨none,0,0⟩ 2 w'):
  Cl Tryz.prog [kS,kI] nG ⟨[.int .i64 n,.slice s.base s.len s.cap]⟩ w K:=by
 refine C7.ok _ _ _ _ ?_
 have hlen:x.length=s.len:=uI (h.ag hs)
 refine xG h hs (by omega) fun s4 w h=>Nw.mk h fun b7 w h=> ?_
 have hcrc:cM x<4294967296:=pH hb
 refine H6 (s:=⟨some ⟨b7,0,none⟩,1,1⟩) (cs:= [s]) (bs:= [x]) h (ad.aG rfl rfl) rfl (by rw [aA];simp) (fun i hi=> ?_) (by simpa using hb) (by simp [aA];omega) ?_
 ·match i,hi with
  |0,_=>exact ad.cons (ad.cons hs)
 rw [show [x].flatten=x by simp,show (s.len:Int)=(x.length:Int) by omega]
 have hidx:a7 x.reverse≤x.length:=by
  by_cases h0:x= []
  ·subst h0;decide
  ·have:=vi (t:=x.reverse) (by rw [List.length_reverse];exact List.length_pos_iff.2 h0)
   rw [List.length_reverse] at this;omega
 refine Fa h (by omega) (by omega) hcrc (fun h1 h2 h3 h4 h5 h6 s11 w h=> ?_) (fun hno w h=> ?_)
 ·refine aa.nf rfl ?_
  have hL:=qn h3 (by omega) hb
  have hls:(ai .u8 (ct x)).size=258:=by rw [au];exact hL.len
  have hlc:(ai .u8 (ct x)).toList.all aD=true:=List.all_eq_true.2 bX
  have h15:=vx hL.ok
  have h8: ∀y∈ct x,y≤255:=fun y hy=>by have:=h15 y hy;omega
  refine Dp h (ad.cons (ad.cons (ad.cons hs))) hb (by omega) fun w h=> ?_
  refine Nw.mk h fun b16 w h=> ?_
  refine ax.q h (by simp) hls hlc fun w h=> ?_
  refine Ld.xw h hls ?_
  refine I5 h hL.len h8 (fun hno=>absurd hL.ok (by rw [hno];decide)) fun _ s20 w h=> ?_
  have h:=h.drew (n:=w.drawn+1)
  refine ⟨dw b16 _ _ _,h.hb,aH.xw (fun _ h=>h) hls ?_⟩
  have hsl:=zT (x:=x) (by omega)
  have hsl2:=nw (aQ x.reverse)
  rw [cr,List.length_reverse] at hsl2
  refine u6 h (ad.cons (ad.cons (ad.cons (ad.cons (ad.cons hs))))) hb (by omega) fun s26 w h=>⟨h.hb,?_⟩
  refine JD h hL.len h8 ad.own (by rw [cG];omega) (fun hno=>absurd ⟨hL.v,xI hL.good (uj hb)⟩ hno) fun _ _ s28 w h=>⟨h.hb,?_⟩
  rw [lA] at h
  have htl:=ki hL.len hL.ok
  have hel:=kA hL.v (ints (syms (aQ x.reverse)))
  rw [lA,cG] at hel
  refine CX (h.at 2) ad.own (by omega) (by omega) fun s31 w h=> ?_
  refine Fi h ad.own (Ey _ _) (by rw [List.length_append];omega) fun s33 w h=> ?_
  have hpl:=mO (eA (ct x)++enc (ct x) (syms (aQ x.reverse)))
  rw [List.length_append] at hpl
  have hml:(kN x.length (a7 x.reverse) (cM x)).length≤20:=by
   have h1:=cH (n:=x.length) (by omega)
   have h2:=cH (n:=a7 x.reverse) (by omega)
   unfold kN
   simp [fH]
   omega
  refine o0 (h.at 5) ad.own (by omega) (by omega) fun s35 w h=>hgood h1 h2 h3 h4 s35 w ?_
  exact h.du
 ·refine aa.nt (by decide) (hbad (fun hh=>hno ?_) w h.tl)
  have:=vi (t:=x.reverse) (by rw [List.length_reverse];omega)
  rw [List.length_reverse] at this
  exact ⟨hh.1,hh.2.1,hh.2.2.1,hh.2.2.2,this.1,this.2⟩
end
end Go.Proofs.YtgglghjnakclmaaGreat
set_option maxRecDepth 20000
namespace Go.af
open Go.Inc Go.Srt Go.Sym Go.aS Go.Tab Go.Bw Go.Pm
noncomputable def Lo:List Nat:=Proofs.YtgglghjnakclmaaGreat.gd (List.replicate 258 1) (fC (List.replicate 258 1)) 15
noncomputable def fj (x:List Nat):List Nat:=if x.length≤1000000 then ct x else Lo
theorem iW {x:List Nat} (h:x.length≤1000000):fj x=ct x:=by unfold fj;rw [if_pos h]
end Go.af
namespace Go.af
open Go.Inc Go.Srt Go.Sym Go.aS Go.Tab Go.Hd Go.Crc Go.Bw Go.Proofs.YtgglghjnakclmaaGreat
theorem nq: ∀(l:List (List Nat)),(∀x∈l,0<x.length∧x.length≤65536∧∀y∈x,y<256)→(Stm.blocks fj l).length≤200000*l.length
 | [],_=>by simp [Stm.blocks]
 |x::l,h=>by
  have h1:=h x List.mem_cons_self
  have h2:=eK h1.1 h1.2.2 h1.2.1
  have h3:=nq l fun y hy=>h y (List.mem_cons_of_mem _ hy)
  unfold Stm.blocks at h3⊢
  rw [List.flatMap_cons,List.length_append,List.length_cons]
  unfold Stm.Ad at h3⊢
  rw [iW (by omega)]
  omega
end Go.af
namespace Go.Proofs.YtgglghjnakclmaaGreat
open Go Go.Vc Go.Srt Go.Inc Go.Sym Go.Tab Go.Hd Go.Bw Go.aS Go.af Go.Crc Go.Stm
section
variable {E w:World} {F:List HP}
set_option maxRecDepth 20000
end
end Go.Proofs.YtgglghjnakclmaaGreat
namespace Go.Proofs.YtgglghjnakclmaaGreat
open Go Go.Vc Go.Srt Go.Inc Go.Sym Go.Tab Go.Hd Go.Bw Go.aS Go.af Go.Crc Go.Stm
section
variable {E w:World} {F:List HP}
set_option maxRecDepth 20000
theorem Hb {n:Nat} {K:Sl→Int→World→Prop} (h:Hp E w F) (hn:n≤65536) (h0:0<n) (hK: ∀s w',Hp E w' (OB s (fm n)::F)→K s 0 w'):Cl Tryz.prog [kS,kI] oU ⟨[.agg ⟨[.int .i64 (n:Int)]⟩]⟩ w K:=by
 refine Ff.ok ((n:Int),()) _ _ ?_
 refine Nw.mk h fun b3 w h=> ?_
 refine Ld.xb (b:=b3) h rfl (aa.df (by omega) (Ld.xb (b:=b3) h rfl (aa.df (by omega) (Ld.xb (b:=b3) (x:=(n:Int)) h rfl ?_))))
 refine wD h hn fun s w h=>Nw.mk h fun b11 w h=> ?_
 have h:=Hp.fo (n:=3) (sz:=1) h rfl
 have hl:=cH hn
 refine o0 (s:=⟨some ⟨b11,0,none⟩,3,3⟩) (xs:= [87,80,1]) (ys:=fN n) h ad.own (by decide) (by omega) fun s' w h=>hK s' w ?_
 exact (h.no 1).no 1
theorem Hu {c:Nat} {K:Sl→World→Prop} (h:Hp E w F) (hc:c<4294967296) (hK: ∀s w',Hp E w' (OB s (l5 c)::F)→K s w'):Cl Tryz.prog [kS] kU ⟨[.int .u32 (c:Int)]⟩ w K:=by
 refine AJ.ok _ _ _ (Nw.mk h fun b3 w h=> ?_)
 refine Ez h hc fun s w h=> ?_
 have h:=Hp.fo (n:=1) (sz:=1) (h.at 1) rfl
 refine o0 (s:=⟨some ⟨b3,0,none⟩,1,1⟩) (xs:= [0]) (ys:=fH c) h ad.own (by decide) (show 4≤_ by decide) fun s' w h=>hK s' w ?_
 exact h.no 1
theorem CU {n:Nat} {s:Sl} {ps:List (Sl×List Nat)} {K:Sl→Int→World→Prop} (h:Hp E w F) (hn:1≤n) (hn2:n≤65536) (hg:ad F (eU s ps)) (hp:vq ps) (hb: ∀x∈ps,∀y∈x.2,y<256) (hsm:(ps.map Prod.snd).flatten.length≤100000)
  (hK: ∀s' w',Hp E w' (OB s' (um fj n (ps.map Prod.snd))::F)→K s' 0 w'):Cl Tryz.prog [kS,kI] lK ⟨[.int .i64 (n:Int),.slice s.base s.len s.cap]⟩ w K:=by
 have hbf: ∀c∈(ps.map Prod.snd).flatten,c<256:=fun c hc=>by
  obtain ⟨l,hl,hc⟩:=List.mem_flatten.1 hc
  obtain ⟨x,hx,rfl⟩:=List.mem_map.1 hl
  exact hb x hx c hc
 have hok:=mF (n:=n) hn hbf
 have hcf:=tS hn (ps.map Prod.snd)
 refine BF.ok _ _ _ _ (Hb h hn2 hn fun s4 w h=>aa.nf rfl ?_)
 refine FK h hg.cons hp hn hn2 hsm fun pcs s7 w hpc hcap hpw h=> ?_
 have hpl:pcs.length=(bM n (ps.map Prod.snd)).length:=by rw [←hpc,List.length_map]
 have hl7:pcs.length=s7.len:=by have:=h.aV;simpa using this
 have hblen: ∀i,(fm n++blocks fj ((bM n (ps.map Prod.snd)).take i)).length≤200000*i+10:=fun i=>by
  have h1:=nq ((bM n (ps.map Prod.snd)).take i) fun x hx=>⟨(hok x (List.mem_of_mem_take hx)).1,Nat.le_trans (hok x (List.mem_of_mem_take hx)).2.1 hn2,(hok x (List.mem_of_mem_take hx)).2.2⟩
  have h2:=cH hn2
  have h3:((bM n (ps.map Prod.snd)).take i).length≤i:=by rw [List.length_take];omega
  have h4:=Nat.mul_le_mul_left 200000 h3
  rw [List.length_append]
  unfold fm
  simp only [List.length_append,List.length_cons,List.length_nil]
  omega
 refine ⟨fun out i w'=> ∃k:Nat,i=(k:Int)∧k≤pcs.length∧Hp E w' (OB out (fm n++blocks fj ((bM n (ps.map Prod.snd)).take k))::aj 1 s7 (pcs.map fun x=> .slice x.1.base x.1.len x.1.cap)::F),fun _ i _=>pcs.length - i.toNat,⟨0,rfl,by omega,?_⟩,?_⟩
 ·have e:fm n++blocks fj ((bM n (ps.map Prod.snd)).take 0)=fm n:=by simp [blocks]
  rw [e]
  exact h.at 1
 ·rintro out i w ⟨k,rfl,hk,h⟩
  have hbl:=hblen k
  have hgw: ∀{A B:HP},ad (A::B::F) (eU s ps):=hg.cons.cons
  refine aa.dm (fun hlt=> ?_) (fun hge=> ?_)
  ·have hlt:k<pcs.length:=by omega
   have hkc:k<(bM n (ps.map Prod.snd)).length:=by omega
   refine an.rd (h.ag (ad.at 1 ad.own)) (by omega) (by omega) fun q _ hq=> ?_
   refine Ld.sc (s:= .sl) pcs[k].1 (by rw [hq];simp [Sc.enc]) ?_
   have hx:pcs[k].2=(bM n (ps.map Prod.snd))[k]:=by
    have:=List.getElem_map Prod.snd (l:=pcs) (i:=k) (h:=by simpa using hlt)
    rw [←this]
    simp only [hpc]
   obtain ⟨c0,c1,c2⟩:=hok _ (List.getElem_mem hkc)
   refine JB (x:=(bM n (ps.map Prod.snd))[k]) h (hgw.imp fun w hw=>by rw [←hx];exact hpw w hw _ (List.getElem_mem hlt)) c2 (by omega) (fun _ _ _ _ s16 w h=> ?_) (fun hno=>absurd ⟨by omega,by omega,c0,by omega⟩ hno)
   have hbs:=eK c0 c2 (by omega)
   refine o0 (h.at 1) (ad.own) (by omega) (by omega) fun s19 w h=> ?_
   have e:fm n++blocks fj ((bM n (ps.map Prod.snd)).take k)++qd (ct (bM n (ps.map Prod.snd))[k]) (bM n (ps.map Prod.snd))[k]=fm n++blocks fj ((bM n (ps.map Prod.snd)).take (k+1)):=by
    rw [List.append_assoc,List.take_add_one,List.getElem?_eq_getElem hkc]
    unfold blocks Ad
    rw [List.flatMap_append,Option.toList_some,List.flatMap_singleton,iW (by omega)]
   rw [e] at h
   rw [ae (by omega)]
   exact ⟨⟨k+1,by omega,by omega,h.no 1⟩,by first|omega|(dsimp only;omega)⟩
  ·have hk2:k=pcs.length:=by omega
   subst hk2
   rw [hpl,List.take_of_length_le (Nat.le_refl _)] at h
   rw [hpl] at hbl
   rw [List.take_of_length_le (Nat.le_refl _)] at hbl
   have hcr:=pH hbf
   refine H6 (cs:=ps.map Prod.fst) (bs:=ps.map Prod.snd) h (hgw.imp fun w hw=>by have:=hw.tab;rwa [List.map_map]) (by simp) (by rw [List.length_map];exact hp.few) (fun i hi=> ?_) (fun b hbm y hy=> ?_) (fun b hbm=> ?_) ?_
   ·rw [List.length_map] at hi
    refine hgw.imp fun w hw=> ?_
    have:=hw.each ps[i] (List.getElem_mem hi)
    rw [List.getD_eq_getElem?_getD,List.getElem?_map,List.getElem?_eq_getElem hi]
    simpa using this
   ·obtain ⟨x,hx,rfl⟩:=List.mem_map.1 hbm
    exact hb x hx y hy
   ·obtain ⟨x,hx,rfl⟩:=List.mem_map.1 hbm
    exact hp.small x hx
   ·refine Hu h hcr fun s23 w h=> ?_
    refine o0 (h.at 1) (ad.own) (by omega) (show 5≤_ by decide) fun s25 w h=>hK s25 w ?_
    rw [List.append_assoc] at h
    exact (h.no 1).no 1
end
end Go.Proofs.YtgglghjnakclmaaGreat
namespace Go.Proofs.YtgglghjnakclmaaGreat
open Go Go.Vc Go.Srt Go.Inc Go.Hd Go.aS Go.af Go.Crc Go.Pol Go.Stm
set_option maxRecDepth 20000
section
variable {E w:World} {F:List HP} {b:Nat} {C:EC} {s1 s2:Sl}
theorem J4 (C:EC) (a x:List Nat) (hn:0<C.n):(C.wr a).wr x=C.wr (a++x)∧C.l8 (a++x)=C.l8 a++(C.wr a).l8 x:=by
 have e:=zC hn (C.held++a) x
 unfold EC.wr EC.l8
 dsimp only
 rw [←List.append_assoc C.held a x,e,List.append_assoc]
 refine ⟨rfl,?_⟩
 unfold EC.hd
 simp
end
end Go.Proofs.YtgglghjnakclmaaGreat
set_option maxRecDepth 20000
namespace Go.Bw
open Go Go.Vc Go.Rk
end Go.Bw
namespace Go.Proofs.YtgglghjnakclmaaGreat
open Go Go.Vc
section
variable {w:World}
set_option maxRecDepth 200000 in
theorem uL {s:Sl} {b:List Nat} {K:ByteArray→World→Prop} (hs:aC 1 s (b.map vB) w) (hK:K (strOf b) w):av Tryz.prog (convert 26 9 (.slice s.base s.len s.cap)) tV w K:=
 DX (s:=s) (b:=b) (e:=5) (by kernel_rfl) (by kernel_rfl) (by kernel_rfl) hs hK
end
end Go.Proofs.YtgglghjnakclmaaGreat
namespace Go.Stm
open Go.Inc Go.Srt Go.Sym Go.aS Go.Tab Go.Hd Go.Crc Go.Bw Go.af Go.Proofs.YtgglghjnakclmaaGreat
end Go.Stm
namespace Go.Proofs.YtgglghjnakclmaaGreat
open Go Go.Vc Go.Srt Go.Inc Go.Sym Go.Tab Go.Hd Go.Bw Go.aS Go.af Go.Crc Go.Stm
section
variable {E w:World} {F:List HP}
set_option maxRecDepth 20000
theorem Kh (x:List Nat):((strOf x).toList==(strOf x).toList)=true:=by simp
end
end Go.Proofs.YtgglghjnakclmaaGreat
namespace Go.Vc
end Go.Vc
namespace Go.Stm
open Go.Inc Go.Srt Go.Sym Go.aS Go.Tab Go.Hd Go.Crc Go.Bw Go.af Go.Proofs.YtgglghjnakclmaaGreat
theorem Ek (l:List (List Nat)) (k:Nat):(l.take k).flatten.length≤l.flatten.length:=by
 have:=congrArg (fun l=>(List.flatten l).length) (List.take_append_drop k l)
 simp only [List.flatten_append,List.length_append] at this
 omega
theorem DO (n:Nat) (l:List (List Nat)) (x:List Nat):bM n (l++ [x])=bM n l++iC n x:=by unfold bM;simp
end Go.Stm
namespace Go.Proofs.YtgglghjnakclmaaGreat
open Go Go.Vc Go.Srt Go.Inc Go.Sym Go.Tab Go.Hd Go.Bw Go.aS Go.af Go.Crc Go.Stm
section
variable {E w:World} {F:List HP}
set_option maxRecDepth 20000
theorem KH {ps:List (Sl×List Nat)} (hb: ∀x∈ps,∀y∈x.2,y<256): ∀c∈(ps.map Prod.snd).flatten,c<256:=fun c hc=>by
 obtain ⟨l,hl,hc⟩:=List.mem_flatten.1 hc
 obtain ⟨x,hx,rfl⟩:=List.mem_map.1 hl
 exact hb x hx c hc
end
end Go.Proofs.YtgglghjnakclmaaGreat
set_option maxRecDepth 20000
namespace Go.Vc
open Go
theorem FQ (b:List Nat):(strOf b).data=(b.map UInt8.ofNat).toArray:=by
 have:=eN b
 rw [←this]
theorem kd (b:List Nat):(strOf b).size=b.length:=by
 show (strOf b).data.size=_
 rw [FQ];simp
theorem DP {a b:ByteArray} (h:a.data.toList=b.data.toList):a=b:=by
 cases a;cases b
 congr 1
 exact Array.toList_inj.1 h
theorem xM (a b:List Nat):strOf a++strOf b=strOf (a++b):=by
 apply DP
 rw [ByteArray.data_append,Array.toList_append,eN,eN,eN,List.map_append]
theorem Fw {b:List Nat} (i j:Nat):(strOf b).extract i j=strOf ((b.take j).drop i):=by
 apply DP
 rw [ByteArray.data_extract,Array.toList_extract,eN,eN]
 simp [List.extract,List.map_drop,List.map_take,List.drop_take]
theorem G8.of {b:List Nat} {i j:Int} {K:ByteArray→Prop} (a c:Nat) (hi:i=(a:Int)) (hj:j=(c:Int)) (h1:a≤c) (h2:c≤b.length) (hK:K (strOf ((b.take c).drop a))):G8 (strOf b) i j K:=by
 subst hi;subst hj
 rw [←Fw] at hK
 refine ⟨by omega,by omega,by rw [kd];omega,?_⟩
 simpa using hK
end Go.Vc
namespace Go.Proofs.YtgglghjnakclmaaGreat
open Go Go.Vc Go.Srt Go.Inc Go.Hd Go.aS Go.af Go.Crc Go.Pol Go.Stm
set_option maxRecDepth 20000
theorem rm {n:Nat}: ∀(l:List (List Nat)),(∀x∈l,x.length≤65536)→l.flatMap cS=Stm.blocks fj l
 | [],_=>rfl
 |x::l,h=>by
  have h1:=h x List.mem_cons_self
  have:=rm (n:=n) l fun y hy=>h y (List.mem_cons_of_mem _ hy)
  unfold Stm.blocks at this⊢
  rw [List.flatMap_cons,List.flatMap_cons,this]
  congr 1
  unfold cS Stm.Ad
  rw [iW (by omega)]
theorem GD (C:EC) (x:List Nat) (hn:0<C.n) (hh:C.held= []):C.l8 x++(C.wr x).gX=C.hd++(iC C.n x).flatMap cS∧(C.wr x).fl={C with held:= [],all:=C.all++x,begun:=true}:=by
 refine ⟨?_,rfl⟩
 rw [Hq hn]
 unfold EC.l8 EC.gX
 rw [hh,List.nil_append]
 have h1:(C.wr x).hd= []:=rfl
 have h2:(C.wr x).held=(cg C.n x).2:=by unfold EC.wr;rw [hh];rfl
 rw [h1,h2,List.nil_append,List.append_assoc,List.flatMap_append]
 congr 1
 congr 1
 split<;>simp
def EC.par (C:EC) (parts:List (List Nat)) (k:Nat):EC:={C with held:= [],all:=(parts.take k).flatten,begun:=decide (0<k)}
noncomputable def EC.l6 (C:EC) (parts:List (List Nat)) (k:Nat):List Nat:=if k=0 then [] else fm C.n++(bM C.n (parts.take k)).flatMap cS
theorem Hk (C:EC) (parts:List (List Nat)) (k:Nat) (hk:k<parts.length) (hn:0<C.n):
  C.l6 parts (k+1)=C.l6 parts k++((C.par parts k).hd++(iC C.n parts[k]).flatMap cS)∧C.par parts (k+1)={C.par parts k with held:= [],all:=(C.par parts k).all++parts[k],begun:=true}:=by
 have e:parts.take (k+1)=parts.take k++ [parts[k]]:=by rw [List.take_add_one,List.getElem?_eq_getElem hk];rfl
 refine ⟨?_,?_⟩
 ·unfold EC.l6 EC.hd EC.par
  rw [if_neg (by omega),e,DO,List.flatMap_append]
  dsimp only
  by_cases h0:k=0
  ·subst h0
   simp [bM]
  ·rw [if_neg h0,if_pos (decide_eq_true (by omega))]
   simp
 ·unfold EC.par
  rw [e,List.flatten_append]
  simp
def EC.gC (C:EC) (x:List Nat) (j:Nat):EC:=if j=0 then C else C.wr (x.take j)
noncomputable def EC.oa (C:EC) (x:List Nat) (j:Nat):List Nat:=if j=0 then [] else C.l8 (x.take j)
theorem G9 (C:EC) (x:List Nat) (j k:Nat) (hk:0<k) (hn:0<C.n) (hlt:C.held.length<C.n):C.gC x (j+k)=(C.gC x j).wr ((x.drop j).take k)∧C.oa x (j+k)=C.oa x j++(C.gC x j).l8 ((x.drop j).take k):=by
 have e1:C.gC x (j+k)=C.wr (x.take (j+k)):=if_neg (by omega)
 have e2:C.oa x (j+k)=C.l8 (x.take (j+k)):=if_neg (by omega)
 rw [e1,e2]
 unfold EC.gC EC.oa
 by_cases h0:j=0
 ·subst h0
  rw [if_pos rfl,if_pos rfl,Nat.zero_add,List.drop_zero,List.nil_append]
  exact ⟨rfl,rfl⟩
 ·rw [if_neg h0,if_neg h0,List.take_add]
  have:=J4 C (x.take j) ((x.drop j).take k) hn
  exact ⟨this.1.symm,this.2⟩
theorem IY (C:EC) (x:List Nat) (j:Nat) (hj:x.length≤j) (hn:0<C.n) (hh:C.held= []):C.oa x j++(C.gC x j).gX=C.hd++(iC C.n x).flatMap cS∧(C.gC x j).fl={C with held:= [],all:=C.all++x,begun:=true}:=by
 unfold EC.gC EC.oa
 by_cases h0:j=0
 ·have hx:x= []:=List.eq_nil_of_length_eq_zero (by omega)
  rw [if_pos h0,if_pos h0,hx,jq]
  unfold EC.gX EC.fl
  rw [hh]
  simp
 ·rw [if_neg h0,if_neg h0,List.take_of_length_le hj]
  exact GD C x hn hh
theorem D8 (C:EC) (x:List Nat) (j:Nat):(C.gC x j).closed=C.closed∧(C.gC x j).n=C.n:=by
 unfold EC.gC
 split<;>exact ⟨rfl,rfl⟩
section
variable {E w:World} {F:List HP}
theorem K1:dg 300 300 1=(2,0):=by decide
theorem KW:dg 299 300 1=(0,230):=by decide
theorem Jp:dg 300 0 1=(0,2):=by decide
theorem KR:dg 100 2 1=(3,0):=by decide
theorem Kl {A:AS}:(EC.new 300 2 A).ry= [87,80,1,130,44,0,0,0,0,0]:=by
 have h1:fm 300= [87,80,1,130,44]:=by decide+kernel
 have h2:l5 (cM [])= [0,0,0,0,0]:=by decide+kernel
 unfold EC.ry EC.gX EC.hd EC.new
 dsimp only
 rw [h2,if_neg (by decide),if_pos rfl,h1];rfl
theorem LY {A:AS}:((EC.new 2 3 A).wr [97,98,99]).held= [99]∧(EC.new 2 3 A).l8 [97,98,99]=fm 2++cS [97,98]:=by
 have hc:cg 2 [97,98,99]=([[97,98]],[99]):=by
  rw [fI (by decide) (by decide)]
  have:cg 2 (([97,98,99]:List Nat).drop 2)=([],[99]):=db (by decide)
  rw [this];rfl
 unfold EC.wr EC.l8 EC.new EC.hd
 dsimp only
 rw [List.nil_append,hc,if_neg (by decide)]
 simp
theorem Kz:fm 2++cS [97,98]++cS [99]++l5 (cM [97,98,99])=um fj 2 [[97,98,99]]:=by
 have hc:bM 2 [[97,98,99]]= [[97,98],[99]]:=by
  rw [yg,kF (by decide) (by decide),kF (x:=([97,98,99]:List Nat).drop 2) (by decide) (by decide)]
  simp [jq,bM]
 unfold um Stm.blocks Stm.Ad
 rw [hc]
 have h1:fj [97,98]=ct [97,98]:=iW (by decide)
 have h2:fj [99]=ct [99]:=iW (by decide)
 simp only [List.flatMap_cons,List.flatMap_nil,List.append_nil,h1,h2,List.flatten_cons,List.flatten_nil,List.append_assoc,cS]
theorem CQ {K:Sl→Int→World→Prop} (hK:K ⟨none,0,0⟩ 280 w):Cl Tryz.prog [kS,kI] bg ⟨[.pointer none]⟩ w K:=by
 refine jF.ok _ _ _ (fp.ok _ _ _ ?_)
 (try simp only [ao,ak,al,Nat.zero_add,Nat.add_zero,Nat.reduceAdd,Bool.not_true,Bool.not_false,aE,aF,Option.isNone])
 exact hK
theorem Fm {K:Int→World→Prop} (hK:K 0 w):Cl Tryz.prog [aq .u8] bk ⟨[.pointer none]⟩ w K:=by
 refine ka.ok _ _ _ ?_
 (try simp only [ao,ak,al,Nat.zero_add,Nat.add_zero,Nat.reduceAdd,Bool.not_true,Bool.not_false,aE,aF,Option.isNone])
 exact hK
theorem D3 {K:Int→World→Prop} (hK:K 0 w):Cl Tryz.prog [kI] bA ⟨[.pointer none]⟩ w K:=by
 refine jU.ok _ _ _ ?_
 (try simp only [ao,ak,al,Nat.zero_add,Nat.add_zero,Nat.reduceAdd,Bool.not_true,Bool.not_false,aE,aF,Option.isNone])
 exact hK
theorem FL {K:Int→World→Prop} (hK:K 0 w):Cl Tryz.prog [kI] cA ⟨[.pointer none]⟩ w K:=by
 refine kl.ok _ _ _ ?_
 (try simp only [ao,ak,al,Nat.zero_add,Nat.add_zero,Nat.reduceAdd,Bool.not_true,Bool.not_false,aE,aF,Option.isNone])
 exact hK
theorem rv {K:Bool→World→Prop} (h:Hp E w F) (hK: ∀w',Hp E w' F→K true w'):Cl Tryz.prog [kB] cU ⟨[]⟩ w K:=by
 refine A6.ok _ _ ?_
 refine rh (n:=300) (budget:=300) h (.inl (by decide)) (fun N B hN hB _ _ _ _ _ b A w h=> ?_) (fun hno=>absurd (by rw [K1]) hno)
 obtain rfl:N=300:=by omega
 obtain rfl:B=300:=by omega
 rw [show bh 300 300 1=2 by decide] at h
 refine rh (n:=300) (budget:=299) h (.inl (by decide)) (fun N B hN hB _ _ _ _ hno=>absurd (show bh B N 1=0 by rw [show N=300 by omega,show B=299 by omega];decide) hno) (fun _ w h=> ?_)
 rw [KW]
 refine rh (n:=0) (budget:=300) h (.inl (by decide)) (fun N B hN hB h1=>by omega) (fun _ w h=> ?_)
 rw [Jp]
 refine bD.E2 (fun w=>Hp E w (cB b (EC.new 300 2 A)::F)) (fun w h=> ?_) fun r' hr'=> ?_
 ·refine tH rfl h fun s16 w h=> ?_
  rw [Kl] at h
  have h:=h.at 1
  refine Nw.mk h fun b19 w h=> ?_
  refine EV (sl:=⟨some ⟨b19,0,none⟩,1,1⟩) rfl (h.at 1) fun h=> ?_
  refine rh (n:=2) (budget:=100) h (.inl (by decide)) (fun N B hN hB _ _ _ _ _ b24 A2 w h=> ?_) (fun hno=>absurd (by rw [KR]) hno)
  obtain rfl:N=2:=by omega
  obtain rfl:B=100:=by omega
  rw [show bh 100 2 1=3 by decide] at h
  refine bD.E2 (fun w=>Hp E w (cB b24 (EC.new 2 3 A2)::cB b (EC.new 300 2 A).cl::Hx b19 1 5::OB s16 [87,80,1,130,44,0,0,0,0,0]::F)) (fun w h=> ?_) fun r' hr'=>by
   rw [ao]
   dsimp only
   exact aa.f rfl (aa.f rfl (hr' w h))
  refine Nw.mk h fun b32 w h=>uz h fun w h=> ?_
  refine Al (sl:=⟨some ⟨b32,0,none⟩,3,3⟩) (x:= [97,98,99]) rfl (h.at 1) (ad.aG rfl rfl) (by decide) (by decide) (Nat.le_refl 3) fun s36 w h=> ?_
  obtain ⟨x1,x2⟩:=LY (A:=A2)
  rw [x2] at h
  refine Je (h.at 1) ?_
  rw [x1]
  refine qa rfl (h.at 1) fun s41 w h=> ?_
  have f1:((EC.new 2 3 A2).wr [97,98,99]).gX=cS [99]:=by
   unfold EC.gX
   rw [x1,if_neg (by decide)];rfl
  rw [f1] at h
  refine qa rfl (h.at 1) fun s44 w h=> ?_
  have f2:((EC.new 2 3 A2).wr [97,98,99]).fl.gX= []:=by
   unfold EC.gX EC.fl EC.hd
   dsimp only
   simp
  rw [f2] at h
  have l44:=OB.len h
  refine tH rfl (h.at 1) fun s47 w h=> ?_
  have f3:((EC.new 2 3 A2).wr [97,98,99]).fl.fl.ry=l5 (cM [97,98,99]):=by
   unfold EC.ry EC.gX EC.fl EC.hd
   dsimp only
   simp [EC.wr,EC.new]
  rw [f3] at h
  have l47:=OB.len h
  refine Nw.mk h fun b50 w h=>uz h fun w h=>Nw.mk h fun b54 w h=> ?_
  refine CU (n:=2) (s:=⟨some ⟨b54,0,none⟩,1,1⟩) (ps:= [(⟨some ⟨b50,0,none⟩,3,3⟩,[97,98,99])]) h (by decide) (by decide) (((ad.aG rfl rfl).and (ad.at 1 (ad.aG rfl rfl))).imp fun w hw=>⟨hw.1,fun x hx=>by rw [List.mem_singleton] at hx;subst hx;exact hw.2⟩)
   ⟨fun x hx=>by rw [List.mem_singleton] at hx;subst hx;exact Nat.le_refl _,by rw [aA];simp,fun x hx=>by rw [List.mem_singleton] at hx;subst hx;rw [aA];simp⟩ (fun x hx=>by rw [List.mem_singleton] at hx;subst hx;dsimp only;decide) (show 3≤100000 by decide) fun s56 w h=> ?_
  have h:Hp E w (OB s56 (um fj 2 [[97,98,99]])::_):=h
  refine CQ ?_
  refine uL (b:= [87,80,1,130,44,0,0,0,0,0]) (h.ag (ad.at 11 ad.own)) (aa.t (by rw [show (ByteArray.mk #[87,80,1,130,44,0,0,0,0,0])=strOf [87,80,1,130,44,0,0,0,0,0] from rfl];exact Kh _) ?_)
  have l48:s47.len=5:=l47.symm
  refine aa.t rfl (aa.t rfl (aa.t rfl (aa.et (by rw [←l44];rfl) (aa.t rfl (aa.et (by omega) ?_)))))
  refine uL (b:=fm 2++cS [97,98]) (h.ag (ad.at 7 ad.own)) ?_
  refine uL (b:=cS [99]) (h.ag (ad.at 6 ad.own)) ?_
  have b1:(cS [97,98]).length≤200000:=eK (by decide) (by decide) (by decide)
  have b2:(cS [99]).length≤200000:=eK (by decide) (by decide) (by decide)
  have b3:(fm 2).length≤100:=by decide+kernel
  rw [kd,kd,List.length_append]
  refine ⟨by omega,uL (b:=l5 (cM [97,98,99])) (h.ag (ad.at 3 ad.own)) ?_⟩
  rw [xM,kd,kd,List.length_append,List.length_append,show (l5 (cM [97,98,99])).length=5 from rfl]
  refine ⟨by omega,uL (h.ag ad.own) (aa.t ?_ ?_)⟩
  ·rw [xM,Kz];exact Kh _
  ·refine wJ (h.at 9) (aa.t (show (((bR 300 1 2:Nat):Int)==300)=true by decide) (sF (h.at 9) (aa.t rfl (sF (h.at 4) (aa.t rfl (aa.t rfl (Fm (aa.t rfl (D3 (aa.t rfl (FL (hK w h.tl))))))))))))
 ·rw [ao]
  dsimp only
  exact aa.f rfl (aa.f rfl (aa.f rfl (aa.f rfl (hr' w h))))
end
end Go.Proofs.YtgglghjnakclmaaGreat
namespace Go.Proofs.YtgglghjnakclmaaGreat
open Go Go.Vc Go.Srt Go.Inc Go.Hd Go.aS Go.af Go.Crc Go.Pol Go.Stm
set_option maxRecDepth 20000
section
variable {E w:World} {F:List HP} {b:Nat}
theorem E9 {C:EC} (hn2:C.n≤65536) (hl:C.held.length<C.n) (hb: ∀x∈C.held,x<256):C.gX.length≤300000:=by
 have hhd:=pg C hn2
 unfold EC.gX
 rw [List.length_append]
 split
 ·simp;omega
 ·rename_i hne
  have:(cS C.held).length≤200000:=eK (x:=C.held) (List.length_pos_iff.2 hne) hb (by omega)
  omega
theorem xz {C:EC} {x:List Nat} (hn:0<C.n) (hn2:C.n≤65536) (hl:C.held.length<C.n) (hb: ∀x∈C.held,x<256) (hx: ∀y∈x,y<256) (hbig:x.length≤100000):(C.l8 x).length≤50000000000:=by
 have hhd:=pg C hn2
 have hm:=p7 (n:=C.n) hn (C.held++x)
 have h1:=qv (n:=C.n) (cg C.n (C.held++x)).1 (fun y hy=>⟨(hm.1 y hy).1,fun c hc=>(List.mem_append.1 ((hm.1 y hy).2 c hc)).elim (hb c) (hx c)⟩) hn hn2
 have h2:=vz (n:=C.n) hn (C.held++x)
 rw [List.length_append] at h2
 unfold EC.l8
 rw [List.length_append]
 omega
theorem Lp {s:Sl} {ps:List (Sl×List Nat)} {size:Int} {n mode:Nat} {A:AS} {K:Sl→Bool→World→Prop} (h:Hp E w (cB b (EC.new n mode A)::F)) (hn:1≤n) (hn2:n≤65536) (hg:ad F (eU s ps)) (hp:vq ps) (hb: ∀x∈ps,∀y∈x.2,y<256) (h20:ps.length≤20) (h150:(ps.map Prod.snd).flatten.length≤150)
  (hs1:1≤size) (hs2:size≤1000) (hK: ∀s' C w',C.n=n→C.mode=mode→C.A=A→C.closed=true→Hp E w' (OB s' (um fj n (ps.map Prod.snd))::cB b C::F)→K s' true w'):
  Cl Tryz.prog [kS,kB] oC ⟨[pE b,.slice s.base s.len s.cap,.int .i64 size]⟩ w K:=by
 have hbf:=KH hb
 obtain ⟨C0,hC0⟩: ∃C0,C0=EC.new n mode A:=⟨_,rfl⟩
 have hn0:C0.n=n:=by rw [hC0];rfl
 obtain ⟨P,hP⟩: ∃P,P=ps.map Prod.snd:=⟨_,rfl⟩
 have hPl:P.length=ps.length:=by rw [hP,List.length_map]
 have hPk: ∀k (hk:k<ps.length),P[k]'(by omega)=ps[k].2:=fun k hk=>by simp only [hP,List.getElem_map]
 have hPb: ∀k,∀y∈(P.take k).flatten,y<256:=fun k y hy=>by
  obtain ⟨l,hl,hy⟩:=List.mem_flatten.1 hy
  exact hbf y (by rw [←hP];exact List.mem_flatten.2 ⟨l,List.mem_of_mem_take hl,hy⟩)
 have hPlen: ∀k (hk:k<P.length),P[k].length≤150:=fun k hk=>by
  have:=hPk k (by omega)
  have h1:P[k].length≤P.flatten.length:=by
   have:=(List.sublist_flatten_of_mem (List.getElem_mem hk)).length_le
   exact this
  have h150':P.flatten.length≤150:=by rw [hP];exact h150
  omega
 have h0:C0.par P 0=C0∧C0.l6 P 0= []:=by
  rw [hC0];exact ⟨rfl,rfl⟩
 have hcl: ∀k,(C0.par P k).closed=false:=fun k=>by rw [hC0];rfl
 have hparn: ∀k,(C0.par P k).n=n:=fun k=>hn0
 have hpT: ∀k,k≤P.length→(C0.l6 P k).length≤200000*150+100:=fun k hk=>by
  unfold EC.l6
  split
  ·simp
  ·rw [rm (n:=n) _ fun x hx=>Nat.le_trans (mF (n:=C0.n) (by omega) (hPb k) x hx).2.1 (by omega),List.length_append]
   have h1:=nq (bM C0.n (P.take k)) fun x hx=>⟨(mF (by omega) (hPb k) x hx).1,Nat.le_trans (mF (by omega) (hPb k) x hx).2.1 (by omega),(mF (by omega) (hPb k) x hx).2.2⟩
   have h2:=tS (n:=C0.n) (by omega) (P.take k)
   have h3:=Ek P k
   rw [hP] at h3
   have h4:=cH (n:=C0.n) (by omega)
   have h5:200000*(bM C0.n (P.take k)).length≤200000*150:=Nat.mul_le_mul_left _ (by rw [hP] at h2⊢;omega)
   unfold fm
   simp only [List.length_append,List.length_cons,List.length_nil]
   omega
 rw [←hC0] at h
 refine Ee.ok _ _ _ _ _ ?_
 refine ⟨fun out ok i w'=> ∃k:Nat,i=(k:Int)∧k≤ps.length∧ok=true∧Hp E w' (OB out (C0.l6 P k)::cB b (C0.par P k)::F),fun _ _ i _=>ps.length - i.toNat,⟨0,rfl,Nat.zero_le _,rfl,?_⟩,?_⟩
 ·rw [h0.1,h0.2];exact h.bm 1
 rintro out ok i w ⟨k,rfl,hk,rfl,h⟩
 have hsl:ps.length=s.len:=by have:=(h.ag hg.cons.cons).tab.1;simpa using this
 refine aa.dm (fun hlt=> ?_) (fun hge=> ?_)
 ·have hlt:k<ps.length:=by omega
  have hltP:k<P.length:=by omega
  have hpk:=hPk k hlt
  have hpl:=hPlen k hltP
  have hptk:=hpT k (by omega)
  have hxb: ∀y∈P[k],y<256:=by rw [hpk];exact hb _ (List.getElem_mem hlt)
  have hpcl:=hcl k
  have hpn:=hparn k
  have hpheld:(C0.par P k).held= []:=rfl
  obtain ⟨nx1,nx2⟩:=Hk C0 P k hltP (by omega)
  generalize hD:C0.par P k=D at*
  have hpw: ∀w,eU s ps w→aC 1 ps[k].1 (P[k].map vB) w:=fun w hw=>by rw [hpk];exact hw.each _ (List.getElem_mem hlt)
  have hlx: ∀w,eU s ps w→P[k].length=ps[k].1.len:=fun w hw=>by have:=(hpw w hw).1;simpa using this
  have hlx:=hlx w (h.ag hg.cons.cons)
  have hD1: ∀j,∀y∈(D.gC P[k] j).held,y<256:=fun j y hy=>by
   unfold EC.gC at hy
   split at hy
   ·rw [hpheld] at hy;cases hy
   ·have hm:=p7 (n:=D.n) (by omega) (D.held++P[k].take j)
    rw [hpheld,List.nil_append] at hm
    have hy:y∈(cg D.n (D.held++P[k].take j)).2:=hy
    rw [hpheld,List.nil_append] at hy
    exact hxb y (List.mem_of_mem_take (hm.2 y hy))
  have hD2: ∀j,(D.gC P[k] j).held.length<n:=fun j=>by
   unfold EC.gC
   split
   ·rw [hpheld];simp;omega
   ·have:=Cm (n:=D.n) (by omega) (D.held++P[k].take j)
    rw [hpn] at this
    show ((cg D.n (D.held++P[k].take j)).2).length<n
    rw [hpn];exact this
  have hT1: ∀j,(D.oa P[k] j).length≤50000000000:=fun j=>by
   unfold EC.oa
   split
   ·simp
   ·exact xz (by omega) (by omega) (by rw [hpheld];simp;omega) (by rw [hpheld];intro x hx;cases hx) (fun y hy=>hxb y (List.mem_of_mem_take hy)) (by rw [List.length_take];omega)
  refine ⟨fun out ok at_ w'=> ∃j:Nat,at_=(j:Int)∧j≤2000∧(j<P[k].length+size.toNat∨j=0)∧ok=true∧Hp E w' (OB out (C0.l6 P k++D.oa P[k] j)::cB b (D.gC P[k] j)::F),fun _ _ at_ _=>2000 - at_.toNat,⟨0,rfl,by omega,.inr rfl,rfl,?_⟩,?_⟩
  ·have e:C0.l6 P k++D.oa P[k] 0=C0.l6 P k:=by unfold EC.oa;rw [if_pos rfl,List.append_nil]
   have e2:D.gC P[k] 0=D:=if_pos rfl
   rw [e,e2];exact h
  rintro out ok at_ w ⟨j,rfl,hj,hj2,rfl,h⟩
  obtain ⟨f1,f2⟩:=D8 D P[k] j
  have hgw:=h.ag hg.cons.cons
  refine an.rd hgw.tab (by omega) (by omega) fun q _ hq=> ?_
  refine Ld.sc (s:= .sl) ps[k].1 (by rw [hq];simp [Sc.enc]) ?_
  have htj:=hT1 j
  refine aa.dm (fun hin=> ?_) (fun hout=> ?_)
  ·have hin:j<P[k].length:=by omega
   have h:=h.drew (n:=w.drawn+1)
   refine ⟨eU s ps,h.ag hg.cons.cons,?_⟩
   refine an.ER (sc:= .sl) hgw.tab (fun _ h=>h.tab) rfl (by simpa using hlt) ps[k].1 (by simp [hlt,Sc.enc]) ?_
   refine an.ER (sc:= .sl) hgw.tab (fun _ h=>h.tab) rfl (by simpa using hlt) ps[k].1 (by simp [hlt,Sc.enc]) ?_
   rw [ae (by omega)]
   obtain ⟨m,hm,hm1,hm2,hm3⟩: ∃m:Nat,(if ((ps[k].1.len:Nat):Int)<(j:Int)+size then ((ps[k].1.len:Nat):Int) else (j:Int)+size)=(m:Int)∧j<m∧m≤P[k].length∧((m:Int)=(j:Int)+size∨(m=P[k].length∧(m:Int)<(j:Int)+size)):=by
    split
    ·exact ⟨ps[k].1.len,rfl,by omega,by omega,.inr ⟨by omega,by omega⟩⟩
    ·exact ⟨((j:Int)+size).toNat,by omega,by omega,by omega,.inl (by omega)⟩
   rw [hm]
   have hcap:=hp.caps _ (List.getElem_mem hlt)
   refine bd.FH (hpw w hgw) (by omega) (by omega) (by omega) (by omega) (by omega) fun s24 hs24 hl24 hc24=> ?_
   rw [Int.toNat_natCast,Int.toNat_natCast,←List.map_drop,←List.map_take] at hs24
   refine Al (C:=D.gC P[k] j) (x:=(P[k].drop j).take (m - j)) (by rw [f1];exact hpcl) (h.at 1) (hg.cons.imp fun w hw=>hs24 w (hpw w hw)) (fun y hy=>hxb y (List.mem_of_mem_drop (List.mem_of_mem_take hy))) (by rw [List.length_take,List.length_drop];omega) hc24 fun s26 w h=>⟨h.ag hg.cons.cons.cons,?_⟩
   have hwT:=xz (C:=D.gC P[k] j) (x:=(P[k].drop j).take (m - j)) (by omega) (by omega) (by rw [f2,hpn];exact hD2 j) (hD1 j) (fun y hy=>hxb y (List.mem_of_mem_drop (List.mem_of_mem_take hy))) (by rw [List.length_take,List.length_drop];omega)
   refine o0 (h.at 2) ad.own (by rw [List.length_append];omega) (by omega) fun s29 w h=>aa.t rfl ?_
   have hnx:=G9 D P[k] j (m - j) (by omega) (by omega) (by rw [hpheld];simp;omega)
   rw [show j+(m - j)=m by omega] at hnx
   rw [List.append_assoc,←hnx.2,←hnx.1] at h
   refine ⟨⟨((j:Int)+size).toNat,by omega,by omega,.inl (by omega),rfl,?_⟩,by first|omega|(dsimp only;omega)⟩
   have same:D.gC P[k] ((j:Int)+size).toNat=D.gC P[k] m∧D.oa P[k] ((j:Int)+size).toNat=D.oa P[k] m:=by
    rcases hm3 with e|⟨e1,e2⟩
    ·rw [show ((j:Int)+size).toNat=m by omega];exact ⟨rfl,rfl⟩
    ·unfold EC.gC EC.oa
     rw [if_neg (by omega),if_neg (by omega),if_neg (by omega),if_neg (by omega),List.take_of_length_le (by omega),List.take_of_length_le (by omega)]
     exact ⟨rfl,rfl⟩
   rw [same.1,same.2]
   exact (h.no 1)
  ·have hout:P[k].length≤j:=by omega
   obtain ⟨e1,e2⟩:=IY D P[k] j hout (by omega) hpheld
   refine qa (C:=D.gC P[k] j) (by rw [f1];exact hpcl) (h.at 1) fun s31 w h=> ?_
   have hfl:=E9 (C:=D.gC P[k] j) (by omega) (by rw [f2,hpn];exact hD2 j) (hD1 j)
   refine o0 (h.at 2) ad.own (by rw [List.length_append];omega) (by omega) fun s34 w h=>aa.t rfl ?_
   rw [ae (by omega)]
   refine ⟨⟨k+1,by omega,by omega,rfl,?_⟩,by first|omega|(dsimp only;omega)⟩
   rw [List.append_assoc,e1,e2] at h
   rw [hn0,←hpn] at nx1
   rw [nx1,nx2]
   exact h.no 1
 ·have hk2:k=ps.length:=by omega
  subst hk2
  have hptk:=hpT ps.length (by omega)
  refine tH (hcl _) (h.at 1) fun s36 w h=> ?_
  have e:C0.l6 P ps.length++(C0.par P ps.length).ry=um fj n P:=by
   have hfull:P.take ps.length=P:=List.take_of_length_le (by omega)
   have hall:(C0.par P ps.length).all=P.flatten:=by unfold EC.par;rw [hfull]
   unfold EC.ry EC.gX
   have hheld:(C0.par P ps.length).held= []:=rfl
   rw [hall,if_pos hheld,List.append_nil]
   unfold um
   have hbX:=rm (n:=n) (bM n P) fun x hx=>Nat.le_trans (mF (n:=n) hn (by rw [hP];exact hbf) x hx).2.1 hn2
   unfold EC.l6 EC.hd
   by_cases hz:ps.length=0
   ·have hP0:P= []:=List.eq_nil_of_length_eq_zero (by omega)
    rw [if_pos hz,if_neg (by unfold EC.par;simp [hz]),hparn,hP0]
    simp [bM,Stm.blocks]
   ·rw [if_neg hz,hfull,if_pos (by unfold EC.par;simpa using Nat.pos_of_ne_zero hz),hn0,hbX]
    simp
  have hcl2:(C0.par P ps.length).ry.length≤300000:=by
   unfold EC.ry EC.gX
   have hhd:=pg (C0.par P ps.length) (by rw [hparn];exact hn2)
   have hheld:(C0.par P ps.length).held= []:=rfl
   rw [if_pos hheld,List.append_nil,List.length_append,show (l5 (cM (C0.par P ps.length).all)).length=5 from rfl]
   omega
  refine o0 (h.at 2) ad.own (by omega) (by omega) fun s39 w h=>aa.t rfl (hK s39 (C0.par P ps.length).cl w (by rw [←hn0];rfl) (by rw [hC0];rfl) (by rw [hC0];rfl) rfl ?_)
  rw [e] at h
  rw [←hP]
  exact h.no 1
theorem D6 {n budget:Int} (h1:1≤n) (h2:n≤65536) (h3:1≤budget) (h4:budget≤1048576):(dg budget n 1).2=if n≤budget then 0 else 230:=by
 unfold dg
 rw [if_neg (by omega)]
 have hp:=AK (budget:=budget.toNat) (n:=n.toNat)
 by_cases hb:n≤budget
 ·rw [if_pos hb,if_neg (hp.2 (by omega))]
 ·rw [if_neg hb,if_pos (Classical.byContradiction fun hc=>by have:=hp.1 hc;omega)]
theorem uC {n budget:Int} {ps:List (Sl×List Nat)} {s:Sl} {K:Bool→World→Prop} (h:Hp E w F) (hs:ad F (eU s ps)) (hcaps: ∀x∈ps,x.1.len≤x.1.cap) (hb: ∀x∈ps,∀y∈x.2,y<256) (hK: ∀w',Hp E w' F→K true w'):
  Cl Tryz.prog [kB] gk ⟨[.int .i64 n,.int .i64 budget,.slice s.base s.len s.cap]⟩ w K:=by
 refine sQ.ok _ _ _ _ _ ?_
 rw [ao];dsimp only
 rw [ao];dsimp only
 refine DH (h.ag hs) fun g hg=> ?_
 have wk:Cl Tryz.prog [kB] cU ⟨[]⟩ w K:=rv h hK
 cases g with
 |true=>exact aa.t rfl (aa.t rfl wk)
 |false=>
  obtain ⟨h20,h150⟩:=hg rfl
  have hp:=Hr hcaps h20 h150
  refine aa.f rfl (aa.dm (fun _=>aa.t rfl wk) (fun g1=>aa.dm (fun _=>aa.t rfl wk) (fun g2=>aa.dm (fun _=>aa.t rfl wk) (fun g3=>aa.dm (fun _=>wk) (fun g4=> ?_)))))
  have r1:=D6 (n:=n) (budget:=budget) (by omega) (by omega) (by omega) (by omega)
  refine rh h (.inl (by omega)) (fun N B hN hB hN1 hN2 _ _ hm b1 A1 w h=> ?_) (fun hno w h=> ?_)
  ·subst hN
   subst hB
   have hle:N≤B:=AK.1 hm
   obtain ⟨p1,p2,p3⟩:=yk hm
   refine bD.E2 (fun w=>Hp E w (cB b1 (EC.new N (bh B N 1) A1)::F)) (fun w h=> ?_) fun r' hr'=> ?_
   ·refine aa.f rfl (wJ h (sF h ?_))
    refine IQ (n:=(N:Int)) (side:=1) (mode:=bh B N 1) h (fun m hm2 _ w h=> ?_) (fun hno=>absurd ⟨by omega,.inl rfl,p2,p3,by omega,by omega⟩ hno)
    obtain rfl:N=m:=by omega
    refine Lp h hN1 hN2 hs hp hb h20 h150 (by decide) (by decide) fun s31 C w c1 c2 c3 c4 h=> ?_
    have hq:bR C.n 1 C.mode=bR N 1 (bh B N 1):=by rw [c1,c2]
    have hp2:bR (EC.new N (bh B N 1) A1).n 1 (EC.new N (bh B N 1) A1).mode=bR N 1 (bh B N 1):=rfl
    refine aa.t rfl (aa.et (by rw [hp2]) (wJ (h.at 1) (aa.et (by rw [hq]) (aa.dt (by omega) (sF (h.at 1) ?_)))))
    have fin:Cl Tryz.prog [kB] cU ⟨[]⟩ w K:=rv h fun w h=>hK w h.tl
    rw [c2]
    refine aa.em (fun _=>aa.t rfl fin) (fun h3=>aa.et ?_ (aa.t rfl fin))
    rw [zg (by omega)]
   ·rw [ao];dsimp only
    exact aa.f (by rw [decide_eq_true (by omega)];rfl) (aa.f rfl (aa.f rfl (hr' w h)))
  ·have hlt: ¬n≤budget:=fun hle=>hno (by rw [r1,if_pos hle])
   rw [r1,if_neg hlt]
   rw [ao];dsimp only
   rw [ao];dsimp only
   exact aa.f (by rw [decide_eq_false (by omega)];rfl) (aa.t rfl (aa.f rfl (aa.f rfl (aa.t rfl (rv h hK)))))
end
end Go.Proofs.YtgglghjnakclmaaGreat
set_option maxRecDepth 20000
namespace Go.Vc
open Go Go.RowKit Go.ChangeShapes Go.WideShapes
section
variable {H:Type} {enc:TypeId×Value→H} {P:Program} {W:World}
def ed (enc:TypeId×Value→H) (P:Program) (W:World) (t:TypeId) (cs:List Value):Prop:= ∃fuel x,DataW.trod enc P W 0 (fun _=>true) true fuel t cs=some x
theorem ed.int {t:TypeId} {k:IntKind} {cs:List Value} (h:ed enc P W t cs) (ht:P.underlying t=some (.int k)): ∃n,cs= [.int k n]∧(Lit.int k n).wf=true:=by
 obtain ⟨m,x,h⟩:=h
 obtain ⟨n,h1,_,h2⟩:=DataW.trod_int ht h
 exact ⟨n,h1,h2⟩
theorem ed.bool {t:TypeId} {cs:List Value} (h:ed enc P W t cs) (ht:P.underlying t=some .bool): ∃b,cs= [.bool b]:=by
 obtain ⟨m,x,h⟩:=h
 obtain ⟨n,h1,_⟩:=DataW.trod_bool ht h
 exact ⟨n,h1⟩
theorem ed.string {t:TypeId} {cs:List Value} (h:ed enc P W t cs) (ht:P.underlying t=some .string): ∃s:ByteArray,cs= [.string s]∧s.size≤maxLen:=by
 obtain ⟨m,x,h⟩:=h
 obtain ⟨n,h1,_,h2⟩:=DataW.trod_string ht h
 exact ⟨n,h1,h2⟩
theorem xY {a:Addr} {n:Nat} {cs:List Value} (h:W.cells? 0 a n=some cs):cs.length=n∧∀i (hi:i<cs.length),W.cell? (a.add i)=some cs[i]:=by
 unfold World.cells? at h
 rw [if_pos (Nat.zero_le _)] at h
 have hl:cs.length=n:=by simpa using mapM_some_length h
 refine ⟨hl,fun i hi=> ?_⟩
 have:=mapM_some_get h i i (List.getElem?_range (by omega))
 rw [this,List.getElem?_eq_getElem hi]
theorem sX {α:Type} {sz:Nat}: ∀{xs:List (List α)} (_: ∀x∈xs,x.length=sz) (i j:Nat) (hi:i<xs.length) (_:j<sz),xs.flatten[i*sz+j]? =xs[i][j]?
 |x::xs,h,0,j,_,hj=>by
  have hx:=h x (by simp)
  rw [List.flatten_cons,List.getElem?_append_left (by omega),Nat.zero_mul,Nat.zero_add];rfl
 |x::xs,h,i+1,j,hi,hj=>by
  have hx:=h x (by simp)
  rw [List.flatten_cons,List.getElem?_append_right (by rw [hx,Nat.succ_mul];omega),hx,show (i+1)*sz+j - sz=i*sz+j by rw [Nat.succ_mul];omega,
   sX (fun y hy=>h y (List.mem_cons_of_mem _ hy)) i j (by simpa using hi) hj]
  rfl
theorem tK {α:Type} {sz:Nat}: ∀{xs:List (List α)} (_: ∀x∈xs,x.length=sz),xs.flatten.length=xs.length*sz
 | [],_=>by simp
 |x::xs,h=>by
  rw [List.flatten_cons,List.length_append,h x (by simp),tK (fun y hy=>h y (List.mem_cons_of_mem _ hy)),List.length_cons,Nat.succ_mul];omega
theorem ed.slice {t e:TypeId} {cs:List Value} (h:ed enc P W t cs) (ht:P.underlying t=some (.slice e)):
  ∃(s:Sl) (xs:List (List Value)),cs= [.slice s.base s.len s.cap]∧s.len≤s.cap∧s.cap≤maxLen∧xs.length=s.len∧(∀x∈xs,ed enc P W e x)∧(∀x∈xs,x.length=P.cellsOf e)∧aC (P.cellsOf e) s xs.flatten W:=by
 obtain ⟨m,x,h⟩:=h
 rcases DataW.trod_slice ht h with ⟨h1,_⟩|⟨a,len,cap,elems,rest,n,rfl,h1,_,_,hlc,hcm,hel,hget,_⟩
 ·exact ⟨⟨none,0,0⟩,[],h1,Nat.le_refl _,Nat.zero_le _,rfl,by simp,by simp,by simp,by simp⟩
 ·have hx: ∀i,i<len→∃cs,W.cells? 0 (a.add (i*P.cellsOf e)) (P.cellsOf e)=some cs∧ed enc P W e cs:=by
   intro i hi
   have:=hget i hi
   rw [List.getElem?_eq_getElem (by omega)] at this
   obtain ⟨cs,h2,h3⟩:=Option.bind_eq_some_iff.1 this
   exact ⟨cs,h2,n,_,h3⟩
  have key: ∀k,k≤len→∃xs:List (List Value),xs.length=k∧∀i (hi:i<xs.length),W.cells? 0 (a.add (i*P.cellsOf e)) (P.cellsOf e)=some xs[i]∧ed enc P W e xs[i]:=by
   intro k
   induction k with
   |zero=>exact fun _=>⟨[],rfl,fun i hi=>by simp at hi⟩
   |succ k ih=>
    intro hk
    obtain ⟨xs,hl,hxs⟩:=ih (by omega)
    obtain ⟨cs,h2,h3⟩:=hx k (by omega)
    refine ⟨xs++ [cs],by simp [hl],fun i hi=> ?_⟩
    by_cases hik:i<xs.length
    ·rw [List.getElem_append_left hik];exact hxs i hik
    ·have:i=k:=by simp [hl] at hi;omega
     subst this
     rw [List.getElem_append_right (by omega)]
     simp only [hl,Nat.sub_self,List.getElem_cons_zero]
     exact ⟨h2,h3⟩
  obtain ⟨xs,hl,hxs⟩:=key len (Nat.le_refl _)
  have hsz: ∀x∈xs,x.length=P.cellsOf e:=by
   intro x hx
   obtain ⟨i,hi,rfl⟩:=List.getElem_of_mem hx
   exact (xY (hxs i hi).1).1
  refine ⟨⟨some a,len,cap⟩,xs,h1,hlc,hcm,hl,fun x hx=> ?_,hsz,?_,fun i hi=>⟨a,rfl,?_⟩⟩
  ·obtain ⟨i,hi,rfl⟩:=List.getElem_of_mem hx
   exact (hxs i hi).2
  ·rw [tK hsz,hl]
  ·rw [tK hsz,hl] at hi
   have hz:0<P.cellsOf e:=by
    rcases Nat.eq_zero_or_pos (P.cellsOf e) with h0|h0
    ·rw [h0] at hi;simp at hi
    ·exact h0
   have e1:i/P.cellsOf e*P.cellsOf e+i % P.cellsOf e=i:=by rw [Nat.mul_comm];exact Nat.div_add_mod i _
   have hq:i/P.cellsOf e<xs.length:=by rw [hl];exact (Nat.div_lt_iff_lt_mul hz).2 hi
   have hr:=Nat.mod_lt i hz
   obtain ⟨c1,c2⟩:=xY (hxs _ hq).1
   have c3:=c2 (i % P.cellsOf e) (by omega)
   have c4:=sX hsz _ _ hq hr
   have c5:(a.add (i/P.cellsOf e*P.cellsOf e)).add (i % P.cellsOf e)=a.add i:=by
    conv=>rhs;rw [←e1]
    unfold Addr.add
    by_cases e1:i/P.cellsOf e*P.cellsOf e=0<;>by_cases e2:i % P.cellsOf e=0<;>simp [e1,e2,Nat.add_assoc]
   rw [c5] at c3
   rw [c3,←List.getElem?_eq_getElem,←c4]
   simp only [e1]
   exact List.getElem?_eq_getElem _
theorem ed.struct {t:TypeId} {fs:Array Field} {cs:List Value} (h:ed enc P W t cs) (ht:P.underlying t=some (.struct fs)):cs.length=P.cellsOf t∧∀(i:Nat) (f:Field),fs[i]? =some f→ed enc P W f.type ((cs.drop f.offset).take (P.cellsOf f.type)):=by
 obtain ⟨m,x,h⟩:=h
 obtain ⟨xs,n,_,_,h2,h3,h4⟩:=DataW.trod_struct ht h
 refine ⟨h2,fun i f hf=> ?_⟩
 have hi:i<fs.size:=by
  rcases Nat.lt_or_ge i fs.size with hh|hh
  ·exact hh
  ·rw [Array.getElem?_eq_none hh] at hf;cases hf
 have:=h4 i f hf
 rw [List.getElem?_eq_getElem (by omega)] at this
 exact ⟨n,_,this⟩
def En (P:Program) (t:TypeId) (i:Nat) (ft:TypeId) (off n:Nat):Bool:=match P.underlying t with
 |some (.struct fs)=>match fs[i]? with
  |some f=>f.type==ft&&f.offset==off&&P.cellsOf ft==n
  |none=>false
 |_=>false
theorem ed.field {t:TypeId} {cs:List Value} (h:ed enc P W t cs) (i:Nat) (ft:TypeId) (off n:Nat) (hf:En P t i ft off n=true):ed enc P W ft ((cs.drop off).take n):=by
 unfold En at hf
 split at hf
 ·rename_i fs ht
  split at hf
  ·rename_i f hfi
   simp only [Bool.and_eq_true,beq_iff_eq] at hf
   obtain ⟨⟨rfl,rfl⟩,rfl⟩:=hf
   exact (h.struct ht).2 i f hfi
  ·cases hf
 ·cases hf
theorem ed.array {t e:TypeId} {n:Nat} {cs:List Value} (h:ed enc P W t cs) (ht:P.underlying t=some (.array n e)):cs.length=P.cellsOf t∧∀i,i<n→ed enc P W e ((cs.drop (i*P.cellsOf e)).take (P.cellsOf e)):=by
 obtain ⟨m,x,h⟩:=h
 obtain ⟨xs,n',_,_,h2,h3,h4⟩:=DataW.trod_array ht h
 refine ⟨h2,fun i hi=> ?_⟩
 have:=h4 i hi
 rw [List.getElem?_eq_getElem (by omega)] at this
 exact ⟨n',_,this⟩
theorem sr {α β:Type} {g:α→β} {Good:α→Prop}: ∀{xs:List β} (_: ∀x∈xs,∃a,x=g a∧Good a),∃l:List α,xs=l.map g∧∀a∈l,Good a
 | [],_=>⟨[],rfl,by simp⟩
 |x::xs,h=>by
  obtain ⟨a,rfl,ha⟩:=h x (by simp)
  obtain ⟨l,rfl,hl⟩:=sr (fun y hy=>h y (List.mem_cons_of_mem _ hy))
  exact ⟨a::l,rfl,by simpa using ⟨ha,hl⟩⟩
theorem nF {α β:Type} {g:α→β} (l:List α):(l.map fun a=> [g a]).flatten=l.map g:=by
 induction l with
 |nil=>rfl
 |cons a l ih=>simp [ih]
theorem wf_u8 {n:Int} (h:(Lit.int .u8 n).wf=true):0≤n∧n≤255:=by
 simp [Lit.wf,IntKind.min,IntKind.max,IntKind.signed,IntKind.bits] at h
 exact h
def pI (W:World) (s:Sl) (b:List Nat):Prop:=aC 1 s (b.map vB) W∧(∀y∈b,y<256)∧s.len≤s.cap∧s.cap≤maxLen
theorem ed.bytes {t e:TypeId} {cs:List Value} (h:ed enc P W t cs) (ht:P.underlying t=some (.slice e)) (he:P.underlying e=some (.int .u8)) (hc:P.cellsOf e=1): ∃s b,cs= [.slice s.base s.len s.cap]∧pI W s b:=by
 obtain ⟨s,xs,h1,h2,h3,h4,h5,h6,h7⟩:=h.slice ht
 obtain ⟨l,rfl,hl⟩:=sr (g:=fun y:Nat=> [vB y]) (Good:=fun y=>y<256) (xs:=xs) fun x hx=>by
  obtain ⟨n,rfl,hn⟩:=(h5 x hx).int he
  have:=wf_u8 hn
  obtain ⟨m,rfl⟩:=Int.eq_ofNat_of_zero_le this.1
  exact ⟨m,rfl,by omega⟩
 rw [nF,hc] at h7
 exact ⟨s,l,h1,h7,hl,h2,h3⟩
theorem ed.ints {t e:TypeId} {k:IntKind} {cs:List Value} (h:ed enc P W t cs) (ht:P.underlying t=some (.slice e)) (he:P.underlying e=some (.int k)) (hc:P.cellsOf e=1):
  ∃s,∃l:List Int,cs= [.slice s.base s.len s.cap]∧aC 1 s (l.map (.int k)) W∧(∀y∈l,(Lit.int k y).wf=true)∧s.len≤s.cap∧s.cap≤maxLen:=by
 obtain ⟨s,xs,h1,h2,h3,h4,h5,h6,h7⟩:=h.slice ht
 obtain ⟨l,rfl,hl⟩:=sr (g:=fun y:Int=> [Value.int k y]) (Good:=fun y=>(Lit.int k y).wf=true) (xs:=xs) fun x hx=>by
  obtain ⟨n,rfl,hn⟩:=(h5 x hx).int he
  exact ⟨n,rfl,hn⟩
 rw [nF,hc] at h7
 exact ⟨s,l,h1,h7,hl,h2,h3⟩
theorem ed.chunks {t e u:TypeId} {cs:List Value} (h:ed enc P W t cs) (ht:P.underlying t=some (.slice e)) (he:P.underlying e=some (.slice u)) (hu:P.underlying u=some (.int .u8)) (hc:P.cellsOf e=1) (hcu:P.cellsOf u=1):
  ∃s,∃l:List (Sl×List Nat),cs= [.slice s.base s.len s.cap]∧aC 1 s (l.map fun a=> .slice a.1.base a.1.len a.1.cap) W∧(∀a∈l,pI W a.1 a.2)∧s.len≤s.cap∧s.cap≤maxLen:=by
 obtain ⟨s,xs,h1,h2,h3,h4,h5,h6,h7⟩:=h.slice ht
 obtain ⟨l,rfl,hl⟩:=sr (g:=fun a:Sl×List Nat=> [Value.slice a.1.base a.1.len a.1.cap]) (Good:=fun a=>pI W a.1 a.2) (xs:=xs) fun x hx=>by
  obtain ⟨s,b,rfl,hb⟩:=(h5 x hx).bytes he hu hcu
  exact ⟨(s,b),rfl,hb⟩
 rw [nF,hc] at h7
 exact ⟨s,l,h1,h7,hl,h2,h3⟩
def Arg (enc:TypeId×Value→H) (P:Program) (W:World) (t:TypeId) (v:Value):Prop:=(∃base,Value.okWide P W .any base t v)∧ed enc P W t v.cells.toList
def CR (enc:TypeId×Value→H) (P:Program) (W:World):List TypeId→List Value→Prop
 | [],vs=>vs= []
 |t::ts,vs=> ∃v vs',vs=v::vs'∧Arg enc P W t v∧CR enc P W ts vs'
theorem Arg.one {t:TypeId} {v:Value} (h:Arg enc P W t v) (hv:v.cells.toList= [v]):ed enc P W t [v]:=by
 have:=h.2
 rwa [hv] at this
theorem Arg.slice {t e:TypeId} {v:Value} (h:Arg enc P W t v) (ht:P.underlying t=some (.slice e)):ed enc P W t [v]:=by
 obtain ⟨base,hb⟩:=h.1
 obtain ⟨a,l,c,rfl⟩:=okWide_slice ht hb
 exact h.one rfl
theorem Arg.bytes {t e:TypeId} {v:Value} (h:Arg enc P W t v) (ht:P.underlying t=some (.slice e)) (he:P.underlying e=some (.int .u8)) (hc:P.cellsOf e=1): ∃s b,v= .slice s.base s.len s.cap∧pI W s b:=by
 obtain ⟨s,b,h1,h2⟩:=(h.slice ht).bytes ht he hc
 exact ⟨s,b,by simpa using h1,h2⟩
theorem Arg.ints {t e:TypeId} {k:IntKind} {v:Value} (h:Arg enc P W t v) (ht:P.underlying t=some (.slice e)) (he:P.underlying e=some (.int k)) (hc:P.cellsOf e=1):
  ∃s,∃l:List Int,v= .slice s.base s.len s.cap∧aC 1 s (l.map (.int k)) W∧(∀y∈l,(Lit.int k y).wf=true)∧s.len≤s.cap∧s.cap≤maxLen:=by
 obtain ⟨s,l,h1,h2⟩:=(h.slice ht).ints ht he hc
 exact ⟨s,l,by simpa using h1,h2⟩
theorem Arg.chunks {t e u:TypeId} {v:Value} (h:Arg enc P W t v) (ht:P.underlying t=some (.slice e)) (he:P.underlying e=some (.slice u)) (hu:P.underlying u=some (.int .u8)) (hc:P.cellsOf e=1) (hcu:P.cellsOf u=1):
  ∃s,∃l:List (Sl×List Nat),v= .slice s.base s.len s.cap∧aC 1 s (l.map fun a=> .slice a.1.base a.1.len a.1.cap) W∧(∀a∈l,pI W a.1 a.2)∧s.len≤s.cap∧s.cap≤maxLen:=by
 obtain ⟨s,l,h1,h2⟩:=(h.slice ht).chunks ht he hu hc hcu
 exact ⟨s,l,by simpa using h1,h2⟩
theorem Arg.int {t:TypeId} {k:IntKind} {v:Value} (h:Arg enc P W t v) (ht:P.underlying t=some (.int k)): ∃n,v= .int k n∧(Lit.int k n).wf=true:=by
 obtain ⟨base,hb⟩:=h.1
 obtain ⟨n,rfl⟩:=okWide_int ht hb
 obtain ⟨m,h1,h2⟩:=(h.one rfl).int ht
 cases h1
 exact ⟨n,rfl,h2⟩
theorem Arg.string {t:TypeId} {v:Value} (h:Arg enc P W t v) (ht:P.underlying t=some .string): ∃s:ByteArray,v= .string s∧s.size≤maxLen:=by
 obtain ⟨base,hb⟩:=h.1
 obtain ⟨n,rfl⟩:=okWide_string ht hb
 obtain ⟨m,h1,h2⟩:=(h.one rfl).string ht
 cases h1
 exact ⟨n,rfl,h2⟩
theorem Arg.struct {t:TypeId} {fs:Array Field} {v:Value} (h:Arg enc P W t v) (ht:P.underlying t=some (.struct fs)): ∃cs,v= .agg cs∧ed enc P W t cs.toList:=by
 obtain ⟨base,hb⟩:=h.1
 obtain ⟨cs,rfl,_⟩:=okWide_struct ht hb
 exact ⟨cs,rfl,h.2⟩
theorem B7: ∀{ts:List TypeId} {vs:List Value} {ds:List (DataW H)} {ps:List MemPlace},DataW.TrodAll enc P W 0 (fun _=>true) true ts vs ds ps→(∀(j:Nat) t v,ts[j]? =some t→vs[j]? =some v→∃base,Value.okWide P W .any base t v)→CR enc P W ts vs
 | [],[],[],_,_,_=>rfl
 |t::ts,v::vs,d::ds,ps,h,hv=>by
  obtain ⟨p,q,⟨fuel,h1⟩,h2,_⟩:=h
  exact ⟨v,vs,rfl,⟨hv 0 t v rfl rfl,fuel,_,h1⟩,B7 h2 fun j t' v' a b=>hv (j+1) t' v' a b⟩
theorem te: ∀{ts:List TypeId} {vs:List Value} {ds:List (DataW H)} {ps:List MemPlace},DataW.TrodAll enc P W 0 (fun _=>true) true ts vs ds ps→ds.length=ts.length
 | [],[],[],_,_=>rfl
 |_::_,_::_,_::_,_,h=>by
  obtain ⟨p,q,_,h2,_⟩:=h
  simp [te h2]
theorem qX (hl:laidOutB P=true) {W':World} (hb:Below W.heap.size W W'): ∀{ts:List TypeId} {vs:List Value} {ds:List (DataW H)} {ps:List MemPlace},DataW.TrodAll enc P W 0 (fun _=>true) true ts vs ds ps→
  (∀t∈ts,P.readableRec t=true∧t<P.types.size)→∃qs,DataW.TrodAll enc P W' 0 (fun b=>decide (b<W.heap.size)) true ts vs ds qs
 | [],[],[],_,_,_=>⟨[],rfl⟩
 |t::ts,v::vs,d::ds,ps,h,hr=>by
  obtain ⟨p,q,h1,h2,_⟩:=h
  obtain ⟨qs,h3⟩:=qX hl hb h2 fun t ht=>hr t (List.mem_cons_of_mem _ ht)
  obtain ⟨ht1,ht2⟩:=hr t (by simp)
  have hlt: ∀x∈p,x.block<W.heap.size:=by obtain ⟨m,hm⟩:=h1;exact DataW.trod_lt m _ _ _ hm
  exact ⟨_,p,qs,Below.trod hl ht1 ht2 h1 hb hlt,h3,rfl⟩
theorem Gr {C:Checked} {os:Os} {f:FuncId} {fn:Func} {s:ChangeSpec} {conds:List PathCond} {tb:TypeId}
  (own:ownKnob C.prog.godebug=none) (started:os.Started) (noInit:C.prog.inits.idxOf? f=none) (hfn:C.prog.funcs[f]? =some fn)
  (witness: ∃(w:World) (tape:Tape) (i:Input),w.os=os∧(w.forCall tape i).Shaped C.prog∧i.vars= []∧Input.okWide C.prog (w.forCall tape i) .any w.heap.size f i∧
   s.pre6 enc C.prog fn conds false (w.forCall tape i).memory i.args∧({}:Assume).holds C.prog (lone (Frame.enter C.prog f i.args .normal) [] (w.forCall tape i)))
  (hvars:s.vars= []) (hres:fn.resultTypes= #[tb]) (htb:C.prog.underlying tb=some .bool)
  (hspec: ∀ds:List (DataW H),ds.length=fn.params.toList.length→s.fn H ds={results:= [.lit (.bool true)],args:=ds})
  (laid:laidOutB C.prog=true) (hr:fn.params.toList.all (fun t=>C.prog.readableRec t&&decide (t<C.prog.types.size))=true)
  (contract: ∀(W:World) (args:Array Value) (ds:List (DataW H)),CR enc C.prog W fn.params.toList args.toList→(DataW.weightsEach C.prog fn.params.toList ds).all (·≤reachBytes)=true→
   Cl C.prog [kB] f args W (fun b w'=>b=true∧Below W.heap.size W w')):
  ReturnsInHanded {} C os f .any (s.pre6 enc C.prog fn conds false) (s.post enc C.prog fn false true false false):=by
 refine returnsInHanded_of_change_sized own started noInit hfn witness ?_
 intro W base args ds gs before hval hW _ hz _
 have hW':=hW
 obtain ⟨p,q,hA,hV,rfl,hfz,hnd⟩:=hW
 rw [hvars] at hV
 obtain ⟨rfl,rfl⟩:=trodVars_none hV
 have hlen:=te hA
 have hz':(DataW.weightsEach C.prog fn.params.toList ds).all (·≤reachBytes)=true:=by
  have e:s.plain.varTypes C.prog= []:=by
   simp [DataSpec.varTypes,ChangeSpec.plain,hvars]
  rw [e,List.append_nil,List.append_nil] at hz
  exact hz
 have hargs:=B7 (vs:=args.toList) hA fun j t v ht hv=>⟨base,hval j t v (by simpa using ht) (by simpa using hv)⟩
 refine Calls.mono (contract W args ds hargs hz') fun e W' hp=> ?_
 cases e with
 |returned v=>
  obtain ⟨b,hv,hb,bel⟩:=Ki.cK (k:=kB) hp
  subst hb
  have hv:v= .bool true:=hv
  subst hv
  have hsp:=hspec ds hlen
  obtain ⟨qs,hq⟩:=qX laid bel hA fun t ht=>by
   have:=List.all_eq_true.1 hr t ht
   simpa using this
  refine ⟨_,rfl,ds,[],_,[],qs,[],hW',?_,?_,?_,bel.frame _,fun h=>by cases h⟩
  ·rw [List.append_nil,hsp,hres]
   exact trodAll_mk1 (shut_bool htb _)
  ·rw [List.append_nil,hsp];exact hq
  ·rw [hvars]
   have:(s.fn H (ds++ [])).vars= []:=by rw [List.append_nil,hsp]
   rw [this];rfl
 |_=>exact absurd hp (by intro h;exact h)
end
end Go.Vc
set_option maxRecDepth 20000
namespace Go.Vc
open Go Go.RowKit Go.ChangeShapes Go.WideShapes
section
variable {H:Type} {enc:TypeId×Value→H} {P:Program} {W:World}
theorem Arg.agg {t e:TypeId} {n:Nat} {v:Value} (h:Arg enc P W t v) (ht:P.underlying t=some (.array n e)): ∃cs,v= .agg cs∧ed enc P W t cs.toList:=by
 obtain ⟨base,hb⟩:=h.1
 simp only [Value.okWide,ht] at hb
 obtain ⟨cs,rfl,_⟩:=hb
 exact ⟨cs,rfl,h.2⟩
end
end Go.Vc
