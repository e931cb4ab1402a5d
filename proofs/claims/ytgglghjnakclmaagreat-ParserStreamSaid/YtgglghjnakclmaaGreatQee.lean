/- Texts packed together by program; spaces struck by program. Conditions: as each theorem states. -/
import Derived.Carry
import Derived.OpenShut
import Derived.ProofKit
import Derived.SizedLaws
import Derived.Test.YtgglghjnakclmaaGreatQed
set_option linter.unusedSimpArgs false
set_option linter.unusedVariables false
set_option maxRecDepth 20000
namespace Go.Srt
def eG (l:List Nat) (N:Nat):List Nat:=(List.range N).flatMap fun n=>(List.range 258).filter fun s=>l.getD s 0==n+1
theorem uQ {l:List Nat} {N s:Nat}:s∈eG l N↔s<258∧0<l.getD s 0∧l.getD s 0≤N:=by
 unfold eG
 simp only [List.mem_flatMap,List.mem_range,List.mem_filter,beq_iff_eq]
 constructor
 ·rintro ⟨n,h1,h2,h3⟩;omega
 ·rintro ⟨h1,h2,h3⟩;exact ⟨l.getD s 0 - 1,by omega,h1,by omega⟩
theorem ma (l:List Nat) (N:Nat):(eG l N).Pairwise fun a b=>l.getD a 0<l.getD b 0∨(l.getD a 0=l.getD b 0∧a<b):=by
 unfold eG
 rw [List.pairwise_flatMap]
 refine ⟨fun n _=> ?_,?_⟩
 ·have h:(List.range 258).Pairwise fun a b=>a<b:=List.pairwise_lt_range
  refine List.Pairwise.imp_of_mem ?_ (h.filter _)
  intro a b ha hb hab
  have ha:=(List.mem_filter.1 ha).2
  have hb:=(List.mem_filter.1 hb).2
  rw [beq_iff_eq] at ha hb
  omega
 ·refine List.pairwise_lt_range.imp ?_
  intro m n hmn a ha b hb
  have ha:=(List.mem_filter.1 ha).2
  have hb:=(List.mem_filter.1 hb).2
  rw [beq_iff_eq] at ha hb
  omega
theorem Eh {l:List Nat} (hl:l.length=258) (hv:aR l≤32768):bJ l (eG l 15):=by
 refine ⟨?_,ma l 15⟩
 have n1:(eG l 15).Nodup:=(ma l 15).imp fun h=>by rintro rfl;omega
 have n2:(used l).Nodup:=(List.nodup_range).filter _
 rw [List.perm_ext_iff_of_nodup n1 n2]
 intro s
 rw [uQ,dh,hl]
 have:=fB hv s
 omega
theorem BO (l:List Nat) (N:Nat):eG l (N+1)=eG l N++(List.range 258).filter fun s=>l.getD s 0==N+1:=by
 unfold eG
 rw [List.range_succ (n:=N),List.flatMap_append]
 simp
end Go.Srt
namespace Go.Proofs.YtgglghjnakclmaaGreat
open Go Go.Vc Go.Srt Go.aK
section
variable {E w:World} {F:List HP}
theorem tZ {l:List Nat} {K:Bool→World→Prop} (h:Hp E w F) (hl:l.length=258) (hK: ∀w',Hp E w' F→K (decide (aR l≤32768)) w'):Cl Tryz.prog [kB] gF ⟨[.agg (ai .u8 l)]⟩ w K:=by
 refine yo.ok _ _ _ ?_
 refine Nw.mk h fun b w1 h1=>Ld.arr h1 (by rw [aJ,hl]) (GO h1 hl fun r w2 hr _ h2=> ?_)
 have:decide ((r:Int)≤32768)=decide (aR l≤32768):=by rw [Bool.eq_iff_iff,decide_eq_true_eq,decide_eq_true_eq];omega
 rw [this]
 exact hK _ h2.drop
set_option maxRecDepth 20000 in
theorem A5 {l:List Nat} {K:Sl→World→Prop} (h:Hp E w F) (hl:l.length=258) (h8: ∀x∈l,x≤255) (hv:aR l≤32768) (hK: ∀ys s w',bJ l ys→Hp E w' (aA 1 s ((ints ys).map vI)::F)→K s w'):Cl Tryz.prog [kS] jK ⟨[.agg (ai .u8 l)]⟩ w K:=by
 refine yk.ok _ _ _ ?_
 have hlen: ∀N,(eG l N).length≤258:=fun N=>by
  have h1:(eG l N).Nodup:=(ma l N).imp fun h=>by rintro rfl;omega
  have h2:eG l N⊆List.range 258:=fun s hs=>by have:=(uQ.1 hs).1;simpa using this
  have:=h1.length_le_of_subset h2
  simpa using this
 refine Nw.mk h fun b w1 h1=> ?_
 refine ⟨fun o n w'=> ∃N:Nat,n=(N:Int)+1∧N≤15∧Hp E w' (aA 1 o ((ints (eG l N)).map vI)::ao b (.cells (ai .u8 l) 104 (0,0))::F),fun _ n _=>20 - n.toNat,⟨0,rfl,by omega,h1.aW 1⟩,?_⟩
 rintro o n w' ⟨N,rfl,hN,hh⟩
 refine aa.mk (fun hlt=> ?_) (fun hge=> ?_)
 ·have hlt:N<15:=by have:=of_decide_eq_true hlt;omega
  refine Ld.arr hh.p1 (by rw [aJ,hl]) (tZ hh hl fun w2 h2=>aa.t (decide_eq_true hv) ?_)
  refine ⟨fun o s w'=> ∃k:Nat,s=(k:Int)∧k≤258∧Hp E w' (aA 1 o ((ints (eG l N++(List.range k).filter fun s=>l.getD s 0==N+1)).map vI)::ao b (.cells (ai .u8 l) 104 (0,0))::F),fun _ s _=>258 - s.toNat,⟨0,rfl,by omega,by simpa using h2⟩,?_⟩
  rintro o2 s w3 ⟨k,rfl,hk,h3⟩
  refine aa.mk (fun hlt2=> ?_) (fun hge2=> ?_)
  ·have hlt2:k<258:=by have:=of_decide_eq_true hlt2;omega
   have hg:l.getD k 0≤255:=by rw [bC (by omega)];exact h8 _ (List.getElem_mem _)
   have hrs:(List.range (k+1)).filter (fun s=>l.getD s 0==N+1)=(List.range k).filter (fun s=>l.getD s 0==N+1)++if l.getD k 0=N+1 then [k] else []:=by
    rw [List.range_succ,List.filter_append]
    congr 1
    by_cases e:l.getD k 0=N+1
    ·rw [if_pos e,List.filter_cons_of_pos (by rw [beq_iff_eq];exact e)];rfl
    ·rw [if_neg e,List.filter_cons_of_neg (by rw [beq_iff_eq];exact e)];rfl
   refine aC.rd (s:= .int .u8) h3.p1 (by omega) (by omega) (l.getD k 0:Int) (ng (by omega)) ?_
   rw [aj (x:=(l.getD k 0:Int)) (by omega),aj (x:=(k:Int)+1) (by omega)]
   refine aa.mk (fun heq=> ?_) (fun hne=> ?_)
   ·have heq:l.getD k 0=N+1:=by rw [beq_iff_eq] at heq;omega
    rw [if_pos heq] at hrs
    have hol:=h3.bS
    have hl1:=hlen N
    have hl2:=List.length_filter_le (fun s=>l.getD s 0==N+1) (List.range k)
    rw [List.length_range] at hl2
    rw [List.length_map,ints,List.length_map,List.length_append,Nat.mul_one] at hol
    refine Nw.mk h3 fun b20 w4 h4=>br (ys:= [vI (k:Int)]) (n:=1) mu (by decide) (.inl ⟨3,by kernel_rfl⟩) h4.p1 (.inl ⟨some ⟨b20,0,none⟩,1,1,rfl,rfl,h4.av (ag.aD rfl rfl)⟩) rfl rR (by omega) (by omega) fun s' w5 h5 hs'=>⟨⟨k+1,rfl,by omega,?_⟩,by dsimp only;omega⟩
    rw [hrs,←List.append_assoc,xk,List.map_append]
    exact h5.p1.drop
   ·have hne:l.getD k 0≠N+1:=by have:=beq_eq_false_iff_ne.1 hne;omega
    rw [if_neg hne,List.append_nil] at hrs
    exact ⟨⟨k+1,rfl,by omega,by rw [hrs];exact h3⟩,by dsimp only;omega⟩
  ·have hge2:k=258:=by have:=of_decide_eq_false hge2;omega
   subst hge2
   rw [aj (by omega)]
   rw [←BO] at h3
   exact ⟨⟨N+1,by omega,by omega,h3⟩,by dsimp only;omega⟩
 ·have hge:N=15:=by have:=of_decide_eq_false hge;omega
  subst hge
  exact hK _ _ _ (Eh hl hv) hh.p1.drop
set_option maxRecDepth 20000 in
theorem CU {l:List Nat} {K:Array Value→Int→World→Prop} (h:Hp E w F) (hl:l.length=258) (h8: ∀x∈l,x≤255) (hK1: ¬aR l≤32768→∀w',Hp E w' F→K (ai .u32 (List.replicate 258 0)) 2 w')
  (hK2:aR l≤32768→∀ys w',bJ l ys→Hp E w' F→K (ai .u32 (bO l ys ys.length)) 0 w'):Cl Tryz.prog [.arr 258,kI] jQ ⟨[.agg (ai .u8 l)]⟩ w K:=by
 refine yl.ok _ _ _ ?_
 rw [mE]
 have hz:(ai .u32 (List.replicate 258 0)).size=258:=by rw [aJ];exact List.length_replicate
 refine Nw.mk h fun b3 w1 h1=>Nw.mk h1 fun b5 w2 h2=>Nw.mk h2 fun b7 w3 h3=>Ld.arr h3.p2 (by rw [aJ,hl]) (tZ h3 hl fun w4 h4=>aa.mk (fun hv=> ?_) (fun hv=> ?_))
 ·have hv: ¬aR l≤32768:=by simpa using hv
  exact Ld.arr h4 hz (aq.aD h4.p1 hz hz cO fun w5 h5=>Ld.arr h5 hz (hK1 hv w5 h5.drop.drop.drop))
 have hv:aR l≤32768:=by simpa using hv
 refine Ld.arr h4.p2 (by rw [aJ,hl]) (A5 h4 hl h8 hv fun ys so w5 hys h5=> ?_)
 have hpl:=h5.bS
 simp only [ints,List.length_map,Nat.mul_one] at hpl
 have hylen:=vH hl hys
 have sized: ∀i,(ai .u32 (bO l ys i)).size=258:=fun i=>by rw [aJ,ff]
 have hc1:0<ys.length→bO l ys 1=List.replicate 258 0:=fun h0=>by
  rw [bO,bO]
  have:cM l ys 0=0:=by unfold cM Srt.start;simp
  rw [this,List.set_replicate_self]
 have fin: ∀w' k,k=ys.length→Hp E w' (aA 1 so ((ints ys).map vI)::ao b7 (.cells (ai .u32 (bO l ys k)) 237 (0,0))::ao b5 (.cells (ai .u32 (List.replicate 258 0)) 237 (0,0))::ao b3 (.cells (ai .u8 l) 104 (0,0))::F)→
   Ld (.arr 258) (⟨b7,0,none⟩:Addr) w' fun (x42:(Array Value))=>aq 258 (⟨b5,0,none⟩:Addr) x42 w' fun (w_43:World)=>Ld (.arr 258) (⟨b5,0,none⟩:Addr) w_43 fun (res44:(Array Value))=>K res44 0 w_43:=by
  rintro w' k rfl h'
  exact Ld.arr h'.p1 (sized _) (aq.aD h'.p2 hz (sized _) cO fun w6 h6=>Ld.arr h6 (sized _) (hK2 hv ys w6 hys h6.drop.drop.drop.drop))
 refine ⟨fun i w'=> ∃k:Nat,i=(k:Int)∧1≤k∧(k≤ys.length∨(ys.length=0∧k=1))∧Hp E w' (aA 1 so ((ints ys).map vI)::ao b7 (.cells (ai .u32 (bO l ys (if ys.length=0 then 0 else k))) 237 (0,0))::ao b5 (.cells (ai .u32 (List.replicate 258 0)) 237 (0,0))::ao b3 (.cells (ai .u8 l) 104 (0,0))::F),
  fun i _=>ys.length+1 - i.toNat,⟨1,rfl,by omega,by omega,?_⟩,?_⟩
 ·by_cases e:ys.length=0
  ·rw [if_pos e];exact h5
  ·rw [if_neg e,hc1 (by omega)];exact h5
 rintro i w6 ⟨k,rfl,hk1,hk,hh⟩
 refine aa.mk (fun hlt=> ?_) (fun hge=>fin w6 (if ys.length=0 then 0 else k) ?_ hh)
 ·have hlt:k<ys.length:=by have:=of_decide_eq_true hlt;omega
  rw [if_neg (by omega)] at hh
  obtain ⟨j,rfl⟩: ∃j,k=j+1:=⟨k - 1,by omega⟩
  have hj:j<ys.length:=by omega
  have hin0:=ou hl hys _ (List.getElem_mem hj)
  have hin1:=ou hl hys _ (List.getElem_mem hlt)
  have h15a:=fB hv ys[j]
  have h15b:=fB hv ys[j+1]
  have hmono:=zm hys hlt (show j≤j+1 by omega)
  rw [aj (x:=((j+1:Nat):Int) - 1) (by omega),show ((j+1:Nat):Int) - 1=(j:Int) by omega]
  have rdo: ∀{w':World} {F':List HP} {m:Nat} {K:Int→Prop} (hm:m<ys.length),Hp E w' (aA 1 so ((ints ys).map vI)::F')→K (ys[m]:Int)→aI so (m:Int) 1 fun q=>Ld kI q w' K:=fun {w' F' m K} hm h' hK=>by
   refine aI.rd (h'.av ag.own) (by omega) (by omega) fun q hq hc=>Ld.sc (s:= .int .i64) (ys[m]:Int) (by rw [hc];simp [ints,vI,Sc.enc]) hK
  have hca:=mY hys (fun s hs=>(ou hl hys s hs).1) (j+1) (by omega) j hj (by omega)
  have hcl:=ub hv hys hj
  have hp:2^l.getD ys[j] 0≤2^15:=Nat.pow_le_pow_right (by decide) h15a
  have hp2:(2:Nat)^15=32768:=by decide
  refine rdo hj hh (aC.rd (s:= .int .u32) hh.p1 (by omega) (by omega) ((bO l ys (j+1)).getD ys[j] 0:Int) (ng (by rw [ff];omega)) ?_)
  refine rdo hj hh (aC.rd (s:= .int .u8) hh.p3 (by omega) (by omega) (l.getD ys[j] 0:Int) (ng (by omega)) ?_)
  rw [hca,gy (by omega)]
  have hnew:(cM l ys j+1)*2^(l.getD ys[j+1] 0 - l.getD ys[j] 0)=cM l ys (j+1):=by
   have e1:=j6 hys hj
   have e2:=j6 hys hlt
   have e3:=nv (l:=l) hj
   refine Nat.eq_of_mul_eq_mul_right (wZ l ys[j+1]) ?_
   rw [e2,e3,←e1,Nat.mul_assoc]
   have:2^(l.getD ys[j+1] 0 - l.getD ys[j] 0)*sh l ys[j+1]=sh l ys[j]:=by
    unfold sh;rw [←Nat.pow_add];congr 1;omega
   rw [this,Nat.succ_mul]
  have hcl1:=ub hv hys hlt
  have hp1:2^l.getD ys[j+1] 0≤2^15:=Nat.pow_le_pow_right (by decide) h15b
  refine ⟨fun c kk w'=> ∃n:Nat,kk=((l.getD ys[j] 0+n:Nat):Int)∧l.getD ys[j] 0+n≤l.getD ys[j+1] 0∧c=(((cM l ys j+1)*2^n:Nat):Int)∧Hp E w' (aA 1 so ((ints ys).map vI)::ao b7 (.cells (ai .u32 (bO l ys (j+1))) 237 (0,0))::ao b5 (.cells (ai .u32 (List.replicate 258 0)) 237 (0,0))::ao b3 (.cells (ai .u8 l) 104 (0,0))::F),
   fun _ kk _=>16 - kk.toNat,⟨0,by omega,by omega,by simp,hh⟩,?_⟩
  rintro c kk w7 ⟨n,rfl,hn,rfl,h7⟩
  refine rdo hlt h7 (aC.rd (s:= .int .u8) h7.p3 (by omega) (by omega) (l.getD ys[j+1] 0:Int) (ng (by omega)) (aa.mk (fun hl2=> ?_) (fun hg2=> ?_)))
  ·have hl2:=of_decide_eq_true hl2
   have hle:(cM l ys j+1)*2^(n+1)≤cM l ys (j+1):=by
    rw [←hnew];exact Nat.mul_le_mul_left _ (Nat.pow_le_pow_right (by decide) (by omega))
   have hpw:(cM l ys j+1)*2^(n+1)=2*((cM l ys j+1)*2^n):=by rw [Nat.pow_succ,←Nat.mul_assoc,Nat.mul_comm]
   rw [gy (by omega),ec (by omega)]
   exact ⟨⟨n+1,by omega,by omega,by rw [hpw];omega,h7⟩,by dsimp only;omega⟩
  ·have hg2:=of_decide_eq_false hg2
   have hne:l.getD ys[j+1] 0 - l.getD ys[j] 0=n:=by omega
   rw [hne] at hnew
   rw [hnew]
   refine rdo hlt h7 (aC.wr h7.p1 (by omega) (by omega) (sized _) rfl fun w8 h8=> ?_)
   rw [Int.toNat_natCast,qS] at h8
   rw [aj (by omega)]
   refine ⟨⟨j+1+1,by omega,by omega,by omega,?_⟩,by dsimp only;omega⟩
   rw [if_neg (by omega)]
   have:bO l ys (j+1+1)=(bO l ys (j+1)).set ys[j+1] (cM l ys (j+1)):=by rw [bO,iP hlt]
   rw [this]
   exact h8.p1
 ·have:=of_decide_eq_false hge
  by_cases e:ys.length=0
  ·rw [if_pos e];omega
  ·rw [if_neg e];omega
end
end Go.Proofs.YtgglghjnakclmaaGreat
namespace Go.Proofs.YtgglghjnakclmaaGreat
open Go Go.Vc
set_option maxRecDepth 100000
theorem Au.ok (a:(Array Value)) (b:Sl) (R:Sl→Bool→World→Prop) w (h:
 Nw 104 a w fun d c=>
 Ld (.arr 258) ⟨d,0,none⟩ c fun e=>
 Cl Pg [(.arr 258),kI] jQ ⟨[(.agg e)]⟩ c fun g (h:Int) f=>
 Nw 237 ⟨List.replicate 258 (.int .u32 0)⟩ f fun j i=>
 aq 258 ⟨j,0,none⟩ g i fun k=>
 aa (h !=0)
 (R (⟨none,0,0⟩:Sl) false k)
 (c6 (⟨none,0,0⟩:Sl) 0 k fun l m (n:Sl) (o:Int) p=>
 aa (decide (o<(b.len:Int)))
 (aI b o 1 fun q=>
 Ld kI q p fun (r:Int)=>
 bg (fun (v:World)=>
 aC ⟨d,0,none⟩ 258 r 1 fun x=>
 Ld (az .u8) x v fun (y:Int)=>
 c6 n (i64 ((i64 y) - 1)) v fun z a1 (b1:Sl) (c1:Int) d1=>
 aa (decide (c1≥0))
 (aC ⟨j,0,none⟩ 258 r 1 fun e1=>
 Ld (az .u32) e1 d1 fun (f1:Int)=>
 0≤(u64 c1)∧
 Nw 3 ⟨[(ni (i64 (cL .u32 (cn .u32 f1 (u64 c1)) 1)))]⟩ d1 fun h1 g1=>
 aw Pg (Builtin.append_ #[142,142] 142 ⟨[(an b1),(an (⟨some ⟨h1,0,none⟩,1,1⟩:Sl))]⟩) kS g1 fun (j1:Sl) i1=>
 z j1 (i64 (c1 - 1)) i1∧a1 j1 (i64 (c1 - 1)) i1<a1 b1 c1 d1)
 (l b1 (i64 (o+1)) d1∧m b1 (i64 (o+1)) d1<m n o p)) fun s=>
 aa (decide (r<0))
 (R (⟨none,0,0⟩:Sl) false p)
 (aa (decide (r≥258))
 (R (⟨none,0,0⟩:Sl) false p)
 (aC ⟨d,0,none⟩ 258 r 1 fun t=>
 Ld (az .u8) t p fun (u:Int)=>
 aa (u==0)
 (R (⟨none,0,0⟩:Sl) false p)
 (s p))))
 (R n true p))):Cl Pg [kS,kB] lb ⟨[(.agg a),(an b)]⟩ w R:=co Tryz.f128 [(14,[(8,kS),(9,kI)]),(21,[]),(28,[(8,kS),(11,kI)])] h
end Go.Proofs.YtgglghjnakclmaaGreat
set_option maxRecDepth 20000
namespace Go.Proofs.YtgglghjnakclmaaGreat
open Go Go.Vc Go.Srt Go.aK
section
variable {E w:World} {F:List HP}
set_option maxRecDepth 20000 in
theorem Fk {l:List Nat} {s:Sl} {zs:List Int} {K:Sl→Bool→World→Prop} (h:Hp E w F) (hl:l.length=258) (h8: ∀x∈l,x≤255) (hs:ag F (aG 1 s (zs.map vI))) (hn:zs.length≤100000)
  (hK1: ¬(aR l≤32768∧mc l zs=true)→∀w',Hp E w' F→K ⟨none,0,0⟩ false w') (hK2:aR l≤32768→mc l zs=true→∀s' w',Hp E w' (aA 1 s' ((ints (kZ l zs)).map vI)::F)→K s' true w'):
  Cl Tryz.prog [kS,kB] lb ⟨[.agg (ai .u8 l),.slice s.base s.len s.cap]⟩ w K:=by
 refine Au.ok _ _ _ _ ?_
 simp only [au]
 rw [mE]
 have hsl:=(h.av hs).1
 simp only [List.length_map,Nat.mul_one] at hsl
 refine Nw.mk h fun b4 w1 h1=>Ld.arr h1 (by rw [aJ,hl]) (CU h1 hl h8 (fun hv w2 h2=> ?_) (fun hv ys w2 hys h2=> ?_))
 ·exact Nw.mk h2 fun b10 w3 h3=>aq.aD h3 (by rw [aJ];simp) (by rw [aJ];simp) cO fun w4 h4=>aa.t (by decide) (hK1 (fun hh=>hv hh.1) w4 h4.drop.drop)
 refine Nw.mk h2 fun b10 w3 h3=>aq.aD h3 (by rw [aJ];simp) (by rw [aJ,ff]) cO fun w4 h4=>aa.f (by decide) ?_
 refine ⟨fun o i w'=> ∃k:Nat,i=(k:Int)∧k≤zs.length∧mc l (zs.take k)=true∧Hp E w' (aA 1 o ((ints (kZ l (zs.take k))).map vI)::ao b10 (.cells (ai .u32 (bO l ys ys.length)) 237 (0,0))::ao b4 (.cells (ai .u8 l) 104 (0,0))::F),fun _ i _=>zs.length - i.toNat,⟨0,rfl,by omega,rfl,h4.aW 1⟩,?_⟩
 rintro o i w5 ⟨k,rfl,hk,hg,hh⟩
 refine aa.mk (fun hlt=> ?_) (fun hge=> ?_)
 ·have hlt:k<zs.length:=by have:=of_decide_eq_true hlt;omega
  have bad:jb l zs[k]=false→K ⟨none,0,0⟩ false w5:=fun hb=>hK1 (fun hh=>by rw [Du hlt hb] at hh;exact absurd hh.2 (by decide)) w5 hh.drop.drop.drop
  refine aI.rd (hh.av (ag.cons (ag.cons (ag.cons hs)))) (by omega) (by omega) fun q hq hc=>Ld.sc (s:= .int .i64) zs[k] (by rw [hc];simp [vI,Sc.enc]) ?_
  refine aa.mk (fun h0=>bad ?_) (fun h0=>aa.mk (fun h1=>bad ?_) (fun h1=> ?_))
  ·have:=of_decide_eq_true h0
   unfold jb;rw [decide_eq_false (show¬0≤zs[k] by omega)];rfl
  ·have:=of_decide_eq_true h1
   unfold jb;rw [decide_eq_false (show¬zs[k]<258 by omega)];simp
  have h0:=of_decide_eq_false h0
  have h1:=of_decide_eq_false h1
  obtain ⟨m,hm⟩: ∃m:Nat,zs[k]=(m:Int):=⟨zs[k].toNat,by omega⟩
  have hm2:zs[k].toNat=m:=by omega
  rw [hm]
  refine aC.rd (s:= .int .u8) hh.p2 (by omega) (by omega) (l.getD m 0:Int) (ng (by omega)) (aa.mk (fun hz=>bad ?_) (fun hz=> ?_))
  ·have:l.getD m 0=0:=by rw [beq_iff_eq] at hz;omega
   unfold jb;rw [hm2,this];simp
  have hz:0<l.getD m 0:=by have:=beq_eq_false_iff_ne.1 hz;omega
  have h15:=fB hv m
  have hle:=mH hv (zs.take k)
  rw [List.length_take] at hle
  have hcl:=zx hl hv (show m<258 by omega) hz
  have hp:2^l.getD m 0≤2^15:=Nat.pow_le_pow_right (by decide) h15
  have hp2:(2:Nat)^15=32768:=by decide
  refine aC.rd (s:= .int .u8) hh.p2 (by omega) (by omega) (l.getD m 0:Int) (ng (by omega)) ?_
  rw [aj (x:=(l.getD m 0:Int)) (by omega),aj (x:=(l.getD m 0:Int) - 1) (by omega),aj (x:=(k:Int)+1) (by omega)]
  have hel:=vn l m
  refine ⟨fun o2 kk w'=> ∃j:Nat,kk=(l.getD m 0:Int) - 1 - (j:Int)∧j≤l.getD m 0∧Hp E w' (aA 1 o2 ((ints (kZ l (zs.take k)++(kz l m).take j)).map vI)::ao b10 (.cells (ai .u32 (bO l ys ys.length)) 237 (0,0))::ao b4 (.cells (ai .u8 l) 104 (0,0))::F),fun _ kk _=>(kk+1).toNat,
   ⟨0,by omega,by omega,by simpa using hh⟩,?_⟩
  rintro o2 kk w6 ⟨j,rfl,hj,h6⟩
  refine aa.mk (fun hge2=> ?_) (fun hlt2=> ?_)
  ·have hj2:j<l.getD m 0:=by have:=of_decide_eq_true hge2;omega
   refine aC.rd (s:= .int .u32) h6.p1 (by omega) (by omega) ((bO l ys ys.length).getD m 0:Int) (ng (by rw [ff];omega)) ?_
   rw [AN hl hv hys (by omega) hz,fQ (by omega),show (l.getD m 0:Int) - 1 - (j:Int)=((l.getD m 0 - 1 - j:Nat):Int) by omega]
   have hd:=Nat.div_le_self (code l m) (2^(l.getD m 0 - 1 - j))
   have e1:cL .u32 (cn .u32 (code l m:Int) ((l.getD m 0 - 1 - j:Nat):Int)) 1=((code l m/2^(l.getD m 0 - 1 - j) % 2:Nat):Int):=by
    have hmx:IntKind.max .u32=4294967295:=rfl
    rw [eI (by have:IntKind.bits .u32=32:=rfl;omega),show (1:Int)=((1:Nat):Int) from rfl,kG (by omega) (by omega),Nat.and_one_is_mod]
   rw [e1,aj (x:=((code l m/2^(l.getD m 0 - 1 - j) % 2:Nat):Int)) (by omega)]
   refine ⟨by omega,?_⟩
   have hol:=h6.bS
   rw [List.length_map,ints,List.length_map,List.length_append,List.length_take,hel,Nat.mul_one] at hol
   refine Nw.mk h6 fun b33 w7 h7=>br (ys:= [vI ((code l m/2^(l.getD m 0 - 1 - j) % 2:Nat):Int)]) (n:=1) mu (by decide) (.inl ⟨3,by kernel_rfl⟩) h7.p1 (.inl ⟨some ⟨b33,0,none⟩,1,1,rfl,rfl,h7.av (ag.aD rfl rfl)⟩) rfl rR (by omega) (by omega) fun s' w8 h8 hs'=>⟨⟨j+1,by rw [aj (by omega)];omega,by omega,?_⟩,by dsimp only;rw [aj (by omega)];omega⟩
   have e2:(kz l m).take (j+1)=(kz l m).take j++ [code l m/2^(l.getD m 0 - 1 - j) % 2]:=by
    have hjl:j<(kz l m).length:=by omega
    rw [List.take_add_one,List.getElem?_eq_getElem hjl]
    have:=uP (l.getD m 0) (code l m) j hj2
    rw [←this]
    show _=_++ [(kz l m).getD j 0]
    rw [bC hjl];rfl
   rw [e2,←List.append_assoc,xk,List.map_append]
   exact h8.p1.drop
  ·have hj2:j=l.getD m 0:=by have:=of_decide_eq_false hlt2;omega
   subst hj2
   rw [List.take_of_length_le (l:=kz l m) (by omega)] at h6
   refine ⟨⟨k+1,by omega,by omega,BJ hlt hg (tM.2 ⟨by omega,by omega,by rw [hm2];exact hz⟩),?_⟩,by dsimp only;omega⟩
   rw [Cj hlt,hm2]
   exact h6
 ·have hge:k=zs.length:=by have:=of_decide_eq_false hge;omega
  subst hge
  rw [List.take_length] at hg hh
  exact hK2 hv hg _ _ hh.p1.drop.p1.drop
end
end Go.Proofs.YtgglghjnakclmaaGreat
namespace Go.Proofs.YtgglghjnakclmaaGreat
open Go Go.Vc
set_option maxRecDepth 100000
theorem AJ.ok (a:Sl) (R:Sl→Int→World→Prop) w (h:
 Cl Pg [kS] jH ⟨[(an a)]⟩ w fun (c:Sl) b=>
 HL (⟨none,0,0⟩:Sl) 0 0 b fun d e (f:Sl) (g:Int) (h:Int) i=>
 aa (decide (h<(c.len:Int)))
 (aI c h 1 fun j=>
 Ld kI j i fun (k:Int)=>
 aa (k==0)
 (d f h (i64 (h+1)) i∧e f h (i64 (h+1)) i<e f g h i)
 (aI c h 1 fun l=>
 Ld kI l i fun (m:Int)=>
 aI a (i64 (m - 1)) 1 fun n=>
 Ld (az .u8) n i fun (o:Int)=>
 Nw 5 ⟨[(.int .u8 o)]⟩ i fun q p=>
 aw Pg (Builtin.append_ #[26,26] 26 ⟨[(an f),(an (⟨some ⟨q,0,none⟩,1,1⟩:Sl))]⟩) kS p fun (s:Sl) r=>
 d s g (i64 (h+1)) r∧e s g (i64 (h+1)) r<e f g h i))
 (R f g i)):Cl Pg [kS,kI] kH ⟨[(an a)]⟩ w R:=co Tryz.f81 [(11,[(4,kS),(5,kI),(7,kI)])] h
theorem uM.ok (a:Sl) (R:Sl→World→Prop) w (h:
 c6 (⟨none,0,0⟩:Sl) (i64 ((a.len:Int) - 1)) w fun b c (d:Sl) (e:Int) f=>
 aa (decide (e≥0))
 (aI a e 1 fun g=>
 Ld (az .u8) g f fun (h:Int)=>
 Nw 5 ⟨[(.int .u8 h)]⟩ f fun j i=>
 aw Pg (Builtin.append_ #[26,26] 26 ⟨[(an d),(an (⟨some ⟨j,0,none⟩,1,1⟩:Sl))]⟩) kS i fun (l:Sl) k=>
 b l (i64 (e - 1)) k∧c l (i64 (e - 1)) k<c d e f)
 (R d f)):Cl Pg [kS] iR ⟨[(an a)]⟩ w R:=co Tryz.f82 [(7,[(3,kS),(4,kI)])] h
theorem xP.ok (a:Sl) (R:Sl→World→Prop) w (h:
 c6 (⟨none,0,0⟩:Sl) 0 w fun b c (d:Sl) (e:Int) f=>
 aa (decide (e≤(a.len:Int)))
 (gn (d.len:Int) f fun g h (i:Int) j=>
 aa (decide (i>0))
 (aI d (i64 (i - 1)) 1 fun k=>
 Ld kI k j fun (l:Int)=>
 Cl Pg [kB] lk ⟨[(an a),(ni e),(ni l)]⟩ j fun (n:Bool) m=>
 aa n
 (g (i64 (i - 1)) m∧h (i64 (i - 1)) m<h i j)
 (bF d 0 i (d).cap 1 fun o=>
 aw Pg (Builtin.append_ #[142,142] 142 ⟨[(.slice none 0 0),(an o)]⟩) kS m fun (q:Sl) p=>
 Nw 3 ⟨[(ni e)]⟩ p fun s r=>
 aw Pg (Builtin.append_ #[142,142] 142 ⟨[(an q),(an (⟨some ⟨s,0,none⟩,1,1⟩:Sl))]⟩) kS r fun (u:Sl) t=>
 bF d i (d).len (d).cap 1 fun v=>
 aw Pg (Builtin.append_ #[142,142] 142 ⟨[(an u),(an v)]⟩) kS t fun (y:Sl) x=>
 b y (i64 (e+1)) x∧c y (i64 (e+1)) x<c d e f))
 (bF d 0 i (d).cap 1 fun z=>
 aw Pg (Builtin.append_ #[142,142] 142 ⟨[(.slice none 0 0),(an z)]⟩) kS j fun (b1:Sl) a1=>
 Nw 3 ⟨[(ni e)]⟩ a1 fun d1 c1=>
 aw Pg (Builtin.append_ #[142,142] 142 ⟨[(an b1),(an (⟨some ⟨d1,0,none⟩,1,1⟩:Sl))]⟩) kS c1 fun (f1:Sl) e1=>
 bF d i (d).len (d).cap 1 fun g1=>
 aw Pg (Builtin.append_ #[142,142] 142 ⟨[(an f1),(an g1)]⟩) kS e1 fun (i1:Sl) h1=>
 b i1 (i64 (e+1)) h1∧c i1 (i64 (e+1)) h1<c d e f))
 (R d f)):Cl Pg [kS] jH ⟨[(an a)]⟩ w R:=co Tryz.f133 [(7,[(3,kS),(4,kI)]),(15,[(5,kI)])] h
theorem Ao.ok (a:Sl) (b:Int) (c:Int) (R:Bool→World→Prop) w (h:
 bg (fun (e:World)=>
 bg (fun (q:Int) (r:Int) (s:World)=>
 aa (q==r)
 (R false s)
 (aa (r==(a.len:Int))
 (R false s)
 (ah s fun t=>
 aa (q==(a.len:Int))
 (R true t)
 (aI a q 1 fun u=>
 Ld (az .u8) u t fun (v:Int)=>
 aI a r 1 fun x=>
 Ld (az .u8) x t fun (y:Int)=>
 R (decide (v<y)) t)))) fun f=>
 c6 b c e fun g h (i:Int) (j:Int) k=>
 ah k fun l=>
 aa (decide (i<(a.len:Int)))
 (aa (decide (j<(a.len:Int)))
 (aI a i 1 fun m=>
 Ld (az .u8) m l fun (n:Int)=>
 aI a j 1 fun o=>
 Ld (az .u8) o l fun (p:Int)=>
 aa (n==p)
 (aa (i !=j)
 (g (i64 (i+1)) (i64 (j+1)) l∧h (i64 (i+1)) (i64 (j+1)) l<h i j k)
 (f i j l))
 (f i j l))
 (f i j l))
 (f i j l)) fun d=>
 aa (decide (b<0))
 (R false w)
 (aa (decide (b>(a.len:Int)))
 (R false w)
 (aa (decide (c<0))
 (R false w)
 (aa (decide (c>(a.len:Int)))
 (R false w)
 (d w))))):Cl Pg [kB] lk ⟨[(an a),(ni b),(ni c)]⟩ w R:=co Tryz.f186 [(2,[]),(7,[(1,kI),(2,kI)]),(8,[(1,kI),(2,kI)])] h
end Go.Proofs.YtgglghjnakclmaaGreat
set_option maxRecDepth 20000
namespace Go.Proofs.YtgglghjnakclmaaGreat
open Go Go.Vc Go.Bw Go.Hs
section
variable {E w:World} {F:List HP}
set_option maxRecDepth 20000 in
theorem CK {t:List Nat} {s:Sl} {i k:Int} {K:Bool→World→Prop} (h:Hp E w F) (hs:ag F (aG 1 s (t.map vB))) (hn:t.length≤g5) (hK: ∀w',Hp E w' F→K (rG t i k) w'):
  Cl Tryz.prog [kB] lk ⟨[.slice s.base s.len s.cap,.int .i64 i,.int .i64 k]⟩ w K:=by
 refine Ao.ok _ _ _ _ _ ?_
 simp only [au]
 have hl:=(h.av hs).1
 simp only [List.length_map,Nat.mul_one] at hl
 rw [bN] at hn
 have no: ¬(0≤i∧i≤t.length∧0≤k∧k≤t.length)→K false w:=fun hn=>by
  have:=hK w h
  unfold rG at this
  rwa [decide_eq_false hn,Bool.false_and] at this
 refine aa.mk (fun g=>no (by have:=of_decide_eq_true g;omega)) (fun g1=>aa.mk (fun g=>no (by have:=of_decide_eq_true g;omega)) (fun g2=>aa.mk (fun g=>no (by have:=of_decide_eq_true g;omega)) (fun g3=>aa.mk (fun g=>no (by have:=of_decide_eq_true g;omega)) (fun g4=> ?_))))
 have g1:=of_decide_eq_false g1
 have g2:=of_decide_eq_false g2
 have g3:=of_decide_eq_false g3
 have g4:=of_decide_eq_false g4
 obtain ⟨a0,rfl⟩:=Int.eq_ofNat_of_zero_le (show 0≤i by omega)
 obtain ⟨b0,rfl⟩:=Int.eq_ofNat_of_zero_le (show 0≤k by omega)
 have hK2: ∀w',Hp E w' F→K (sl t a0 b0) w':=fun w' h'=>by
  have:=hK w' h'
  unfold rG at this
  rwa [decide_eq_true ⟨by omega,by omega,by omega,by omega⟩,Bool.true_and,Int.toNat_natCast,Int.toNat_natCast] at this
 refine ⟨fun x y w'=> ∃a b:Nat,x=(a:Int)∧y=(b:Int)∧a≤t.length∧b≤t.length∧sl t a b=sl t a0 b0∧Hp E w' F,fun x _ _=>t.length - x.toNat,⟨a0,b0,rfl,rfl,by omega,by omega,rfl,h⟩,?_⟩
 rintro x y w1 ⟨a,b,rfl,rfl,ha,hb,hab,h1⟩
 refine ah.mk h1 fun w2 h2=> ?_
 have fin:(a<t.length→b<t.length→t.getD a 0=t.getD b 0→a=b)→aa ((a:Int)==(b:Int)) (K false w2) (aa ((b:Int)==(s.len:Int)) (K false w2) (ah w2 fun w_20=>aa ((a:Int)==(s.len:Int)) (K true w_20) (aI s (a:Int) 1 fun q21=>Ld (az .u8) q21 w_20 fun x22=>aI s (b:Int) 1 fun q23=>Ld (az .u8) q23 w_20 fun x24=>K (decide (x22<x24)) w_20))):=fun hd=>by
  refine aa.mk (fun e=> ?_) (fun e=>aa.mk (fun e2=> ?_) (fun e2=>ah.mk h2 fun w3 h3=>aa.mk (fun e3=> ?_) (fun e3=> ?_)))
  ·have e:a=b:=by have:=beq_iff_eq.1 e;omega
   have:=hK2 w2 h2
   rw [←hab,e,(j5 t).irr] at this;exact this
  ·have e2:b=t.length:=by have:=beq_iff_eq.1 e2;omega
   have:=hK2 w2 h2
   have e4:sl t a b=false:=by unfold sl;rw [e2,List.drop_length,qX]
   rw [←hab,e4] at this;exact this
  ·have e2:b<t.length:=by have:=beq_eq_false_iff_ne.1 e2;omega
   have e3:a=t.length:=by have:=beq_iff_eq.1 e3;omega
   have:=hK2 w3 h3
   have e4:sl t a b=true:=by unfold sl;rw [e3,List.drop_length,qC e2];rfl
   rw [←hab,e4] at this;exact this
  ·have e:=beq_eq_false_iff_ne.1 e
   have e2:b<t.length:=by have:=beq_eq_false_iff_ne.1 e2;omega
   have e3:a<t.length:=by have:=beq_eq_false_iff_ne.1 e3;omega
   have hne:t.getD a 0≠t.getD b 0:=fun h=>e (by rw [hd e3 e2 h])
   refine aI.nB (h3.av hs) rfl e3 (aI.nB (h3.av hs) rfl e2 ?_)
   have:=hK2 w3 h3
   have e4:sl t a b=decide ((t.getD a 0:Int)<(t.getD b 0:Int)):=by
    rw [ze e3 e2,beq_eq_false_iff_ne.2 hne,Bool.false_and,Bool.or_false,decide_eq_decide];omega
   rw [←hab,e4] at this;exact this
 refine aa.mk (fun c1=>aa.mk (fun c2=> ?_) (fun c2=>fin fun _ hb' _=>by have:=of_decide_eq_false c2;omega)) (fun c1=>fin fun ha' _ _=>by have:=of_decide_eq_false c1;omega)
 have c1:a<t.length:=by have:=of_decide_eq_true c1;omega
 have c2:b<t.length:=by have:=of_decide_eq_true c2;omega
 refine aI.nB (h2.av hs) rfl c1 (aI.nB (h2.av hs) rfl c2 ?_)
 refine aa.mk (fun c3=>aa.mk (fun c4=> ?_) (fun c4=>fin fun _ _ _=>(by have h9:(a:Int)=(b:Int):=(by simpa using c4);omega))) (fun c3=>fin fun _ _ he=>absurd (by rw [he]) (beq_eq_false_iff_ne.1 c3))
 have c3:t.getD a 0=t.getD b 0:=by have:=beq_iff_eq.1 c3;omega
 refine ⟨⟨a+1,b+1,by rw [aj (by omega)];omega,by rw [aj (by omega)];omega,by omega,by omega,?_,h2⟩,by dsimp only;rw [aj (x:=(a:Int)+1) (by omega)];omega⟩
 rw [←hab,ze c1 c2,c3];simp
set_option maxRecDepth 20000 in
theorem Ag {t:List Nat} {s:Sl} {K:Sl→World→Prop} (h:Hp E w F) (hs:ag F (aG 1 s (t.map vB))) (hn:t.length≤400000)
  (hK: ∀s' w',Hp E w' (aA 1 s' ((zl (c7 t)).map vI)::F)→K s' w'):Cl Tryz.prog [kS] jH ⟨[.slice s.base s.len s.cap]⟩ w K:=by
 refine xP.ok _ _ _ ?_
 have hl:=(h.av hs).1
 simp only [List.length_map,Nat.mul_one] at hl
 refine ⟨fun o i w'=> ∃(k:Nat) (L:List Nat),i=(k:Int)∧k≤t.length+1∧L.Perm (List.range k)∧L.Pairwise (fun a b=>sl t a b=true)∧Hp E w' (aA 1 o ((zl L).map vI)::F),fun _ i _=>t.length+1 - i.toNat,⟨0,[],rfl,by omega,List.Perm.refl _,List.Pairwise.nil,h.aW 1⟩,?_⟩
 rintro o i w1 ⟨k,L,rfl,hk,hp,hpw,h1⟩
 have hLl:L.length=k:=by rw [hp.length_eq,List.length_range]
 have hol:=h1.bS
 rw [List.length_map,gq,Nat.mul_one] at hol
 have hcap:=h1.jk
 refine aa.mk (fun hlt=> ?_) (fun hge=> ?_)
 ·have hlt:k≤t.length:=by have:=of_decide_eq_true hlt;omega
  have hin: ∀j (hj:j<L.length),L[j]<k:=fun j hj=>by
   have:=hp.mem_iff.1 (List.getElem_mem hj)
   rwa [List.mem_range] at this
  have hgd: ∀j (hj:j<L.length),(zl L).getD j 0=(L[j]:Int):=fun j hj=>by simp [zl,List.getD,hj]
  refine ⟨fun c w'=> ∃m:Nat,c=(m:Int)∧m≤k∧(∀j (hj:j<L.length),m≤j→sl t k L[j]=true)∧Hp E w' (aA 1 o ((zl L).map vI)::F),fun c _=>c.toNat,⟨k,by omega,by omega,fun j hj h=>by omega,h1⟩,?_⟩
  rintro c w2 ⟨m,rfl,hm,hgt,h2⟩
  have fin: ∀{w3:World},Hp E w3 (aA 1 o ((zl L).map vI)::F)→(m=0∨∃hj:m - 1<L.length,sl t k L[m - 1]=false)→
    bF o 0 (m:Int) (o.cap:Int) 1 fun s15=>aw Tryz.prog (Builtin.append_ #[142,142] 142 ⟨[.slice none 0 0,.slice s15.base s15.len s15.cap]⟩) kS w3 fun s17 w_16=>
     Nw 3 ⟨[.int .i64 (k:Int)]⟩ w_16 fun b19 w_18=>aw Tryz.prog (Builtin.append_ #[142,142] 142 ⟨[.slice s17.base s17.len s17.cap,.slice (some ⟨b19,0,none⟩) 1 1]⟩) kS w_18 fun s21 w_20=>
     bF o (m:Int) (o.len:Int) (o.cap:Int) 1 fun s22=>aw Tryz.prog (Builtin.append_ #[142,142] 142 ⟨[.slice s21.base s21.len s21.cap,.slice s22.base s22.len s22.cap]⟩) kS w_20 fun s24 w_23=>
     (∃(k':Nat) (L':List Nat),i64 ((k:Int)+1)=(k':Int)∧k'≤t.length+1∧L'.Perm (List.range k')∧L'.Pairwise (fun a b=>sl t a b=true)∧Hp E w_23 (aA 1 s24 ((zl L').map vI)::F))∧t.length+1 - (i64 ((k:Int)+1)).toNat<t.length+1 - (k:Int).toNat:=fun {w3} h3 hst=>by
   refine bF.rd (h3.av ag.own) (by omega) (by omega) (by omega) (by omega) (by omega) fun s15 h15 hl15=> ?_
   have ht15:aG 1 s15 ((zl (L.take m)).map vI) w3:=by
    have:=h15 w3 (h3.av ag.own)
    rwa [show (0:Int).toNat=0 from rfl,List.drop_zero,Nat.sub_zero,Int.toNat_natCast,←List.map_take,show (zl L).take m=zl (L.take m) by unfold zl;rw [List.map_take]] at this
   have hA:=h3.aW 1
   refine br (s:=⟨none,0,0⟩) (ys:=(zl (L.take m)).map vI) (n:=m) wE (by decide) (.inl ⟨3,by kernel_rfl⟩) hA (.inl ⟨s15.base,s15.len,s15.cap,rfl,by rw [hl15];omega,ht15⟩) (by rw [List.length_map,gq,List.length_take];omega) oP (by show (2*(0+m)+1024)*8≤2^48;omega) (by show 0+m<2^62;omega) fun s17 w4 h4 hs17=> ?_
   rw [List.nil_append] at h4
   refine IK wE rfl h4 (by rw [gq,List.length_take,bN];omega) fun s21 w5 h5 hs21=> ?_
   rw [gq,List.length_take] at hs21
   refine bF.rd (h5.av (ag.cons ag.own)) (by omega) (by omega) (by omega) (by omega) (by omega) fun s22 h22 hl22=> ?_
   have ht22:aG 1 s22 ((zl (L.drop m)).map vI) w5:=by
    have:=h22 w5 (h5.av (ag.cons ag.own))
    rwa [Int.toNat_natCast,Int.toNat_natCast,←List.map_drop,List.take_of_length_le (by rw [List.length_map,List.length_drop,gq];omega),show (zl L).drop m=zl (L.drop m) by unfold zl;rw [List.map_drop]] at this
   refine br (ys:=(zl (L.drop m)).map vI) (n:=k - m) wE (by decide) (.inl ⟨3,by kernel_rfl⟩) h5 (.inl ⟨s22.base,s22.len,s22.cap,rfl,by rw [hl22];omega,ht22⟩) (by rw [List.length_map,gq,List.length_drop];omega) oP (by omega) (by omega) fun s24 w6 h6 hs24=> ?_
   rw [aj (by omega)]
   refine ⟨⟨k+1,L.take m++ [k]++L.drop m,by omega,by omega,?_,?_,?_⟩,by omega⟩
   ·rw [List.range_succ]
    refine (List.Perm.append_right _ List.perm_append_comm).trans ?_
    rw [List.append_assoc,List.take_append_drop]
    exact (List.perm_append_comm (l₁:= [k]) (l₂:=L)).trans (hp.append_right _)
   ·have hlo: ∀a∈L.take m,sl t a k=true:=fun a ha=>by
     obtain ⟨j,hj,rfl⟩:=List.getElem_of_mem ha
     rw [List.length_take] at hj
     rw [List.getElem_take]
     rcases hst with h0|⟨hj1,hf⟩
     ·omega
     ·have hne:L[m - 1]≠k:=by have:=hin (m - 1) hj1;omega
      have h8:sl t L[m - 1] k=true:=by
       rcases mI t k (fN.2 hlt) L[m - 1] (fN.2 (by have:=hin (m - 1) hj1;omega)) (fun e=>hne e.symm) with h9|h9
       ·rw [hf] at h9;cases h9
       ·exact h9
      by_cases e:j=m - 1
      ·subst e;exact h8
      ·exact (j5 t).trans _ _ _ (List.pairwise_iff_getElem.1 hpw j (m - 1) (by omega) hj1 (by omega)) h8
    have hhi: ∀b∈L.drop m,sl t k b=true:=fun b hb=>by
     obtain ⟨j,hj,rfl⟩:=List.getElem_of_mem hb
     rw [List.length_drop] at hj
     rw [List.getElem_drop]
     exact hgt _ (by omega) (by omega)
    rw [List.append_assoc]
    refine List.pairwise_append.2 ⟨hpw.sublist (List.take_sublist ..),List.pairwise_append.2 ⟨by simp,hpw.sublist (List.drop_sublist ..),fun a ha b hb=> ?_⟩,fun a ha b hb=> ?_⟩
    ·rw [List.mem_singleton] at ha
     subst ha;exact hhi b hb
    ·rcases List.mem_append.1 hb with hb|hb
     ·rw [List.mem_singleton] at hb
      subst hb;exact hlo a ha
     ·exact (j5 t).trans _ _ _ (hlo a ha) (hhi b hb)
   ·have e:(zl (L.take m)++ [(k:Int)]).map vI++(zl (L.drop m)).map vI=(zl (L.take m++ [k]++L.drop m)).map vI:=by
     rw [B8,B8,List.map_append,List.map_append,List.map_append];rfl
    rw [e] at h6
    exact h6.p1.drop
  refine aa.mk (fun hpos=> ?_) (fun hpos=>fin h2 (.inl (by have:=of_decide_eq_false hpos;omega)))
  have hpos:0<m:=by have:=of_decide_eq_true hpos;omega
  have e1:i64 ((m:Int) - 1)=((m - 1:Nat):Int):=by rw [aj (by omega)];omega
  rw [e1]
  refine aI.nI (h2.av ag.own) rfl (by rw [gq];omega) ?_
  rw [hgd (m - 1) (by omega)]
  have hlm:=hin (m - 1) (by omega)
  refine CK h2 (ag.cons hs) (by rw [bN];omega) fun w3 h3=> ?_
  have hle:rG t (k:Int) (L[m - 1]:Int)=sl t k L[m - 1]:=by
   unfold rG
   rw [decide_eq_true ⟨by omega,by omega,by omega,by omega⟩,Bool.true_and,Int.toNat_natCast,Int.toNat_natCast]
  rw [hle]
  refine aa.mk (fun hsl=> ?_) (fun hsl=>fin h3 (.inr ⟨by omega,hsl⟩))
  refine ⟨⟨m - 1,rfl,by omega,fun j hj hmj=> ?_,h3⟩,by dsimp only;omega⟩
  by_cases e:j=m - 1
  ·subst e;exact hsl
  ·exact hgt j hj (by omega)
 ·have hge:k=t.length+1:=by have:=of_decide_eq_false hge;omega
  subst hge
  have:L=c7 t:=Rk.tY (j5 t) (hp.trans (Rk.dX (lt:=sl t) (rows t)).symm) hpw (xu t)
  rw [this] at h1
  exact hK o w1 h1
end
end Go.Proofs.YtgglghjnakclmaaGreat
set_option maxRecDepth 20000
namespace Go.Proofs.YtgglghjnakclmaaGreat
open Go Go.Vc Go.Bw Go.Hs
section
variable {E w:World} {F:List HP}
set_option maxRecDepth 200000 in
theorem Bl {t:List Nat} {s:Sl} {K:Sl→Int→World→Prop} (h:Hp E w F) (hs:ag F (aG 1 s (t.map vB))) (hn:t.length≤400000)
  (hK: ∀s' w',Hp E w' (aA 1 s' ((bf t).map vB)::F)→K s' (dZ t:Int) w'):Cl Tryz.prog [kS,kI] kH ⟨[.slice s.base s.len s.cap]⟩ w K:=by
 refine AJ.ok _ _ _ ?_
 have hl:=(h.av hs).1
 simp only [List.length_map,Nat.mul_one] at hl
 refine Ag h hs hn fun s3 w1 h1=> ?_
 have hl3:=h1.bS
 rw [List.length_map,gq,qa,Nat.mul_one] at hl3
 refine ⟨fun o ix i w'=> ∃k:Nat,i=(k:Int)∧k≤t.length+1∧ix=(if dZ t<k then (dZ t:Int) else 0)∧Hp E w' (aA 1 o (((((c7 t).take k).filter fun i=>i !=0).map fun i=>t.getD (i - 1) 0).map vB)::aA 1 s3 ((zl (c7 t)).map vI)::F),
  fun _ _ i _=>t.length+1 - i.toNat,⟨0,rfl,by omega,rfl,h1.aW 1⟩,?_⟩
 rintro o ix i w2 ⟨k,rfl,hk,rfl,h2⟩
 refine aa.mk (fun hlt=> ?_) (fun hge=> ?_)
 ·have hlt:k<t.length+1:=by have:=of_decide_eq_true hlt;omega
  have hko:k<(c7 t).length:=by rw [qa];exact hlt
  have hix:=DF t hko
  have hle:(c7 t)[k]≤t.length:=Dz.1 (List.getElem_mem hko)
  have e0:(zl (c7 t)).getD k 0=((c7 t)[k]:Int):=by simp [zl,List.getD,hko]
  refine aI.nI (h2.av (ag.cons ag.own)) rfl (by rw [gq];exact hko) ?_
  rw [e0]
  have hf:=qh hko
  refine aa.mk (fun hz=> ?_) (fun hz=> ?_)
  ·have hz:(c7 t)[k]=0:=by have:=beq_iff_eq.1 hz;omega
   rw [if_pos hz,List.append_nil] at hf
   have hke:=hix.1 hz
   refine ⟨⟨k+1,by rw [aj (by omega)];omega,by omega,by rw [if_pos (by omega)];omega,by rw [hf];exact h2⟩,by dsimp only;rw [aj (by omega)];omega⟩
  ·have hz:(c7 t)[k]≠0:=by have:=beq_eq_false_iff_ne.1 hz;omega
   rw [if_neg hz] at hf
   have hke:k≠dZ t:=fun e=>hz (hix.2 e)
   refine aI.nI (h2.av (ag.cons ag.own)) rfl (by rw [gq];exact hko) ?_
   rw [e0]
   have e1:i64 (((c7 t)[k]:Int) - 1)=(((c7 t)[k] - 1:Nat):Int):=by rw [aj (by omega)];omega
   rw [e1]
   refine aI.nB (h2.av (ag.cons (ag.cons hs))) rfl (by omega) ?_
   refine ES EV rfl h2 (by rw [List.length_map,bN];exact Nat.le_trans (List.length_filter_le ..) (by rw [List.length_take];omega)) fun s' w3 h3 _=>⟨⟨k+1,by rw [aj (by omega)];omega,by omega,?_,?_⟩,by dsimp only;rw [aj (x:=(k:Int)+1) (by omega)];omega⟩
   ·by_cases e:dZ t<k
    ·rw [if_pos e,if_pos (by omega)]
    ·rw [if_neg e,if_neg (by omega)]
   ·rw [hf,List.map_append]
    exact h3
 ·have hge:k=t.length+1:=by have:=of_decide_eq_false hge;omega
  subst hge
  have hil:=yY t
  rw [if_pos (by omega)]
  rw [List.take_of_length_le (by rw [qa];exact Nat.le_refl _)] at h2
  exact hK o w2 h2.p1.drop
set_option maxRecDepth 200000 in
theorem xK {b:List Nat} {s:Sl} {K:Sl→World→Prop} (h:Hp E w F) (hs:ag F (aG 1 s (b.map vB))) (hn:b.length≤400000)
  (hK: ∀s' w',Hp E w' (aA 1 s' (b.reverse.map vB)::F)→K s' w'):Cl Tryz.prog [kS] iR ⟨[.slice s.base s.len s.cap]⟩ w K:=by
 refine uM.ok _ _ _ ?_
 have hl:=(h.av hs).1
 simp only [List.length_map,Nat.mul_one] at hl
 refine ⟨fun o i w'=> ∃k:Nat,i=(b.length:Int) - 1 - (k:Int)∧k≤b.length∧Hp E w' (aA 1 o ((b.reverse.take k).map vB)::F),fun _ i _=>(i+1).toNat,⟨0,by rw [aj (by omega)];omega,by omega,h.aW 1⟩,?_⟩
 rintro o i w1 ⟨k,rfl,hk,h1⟩
 refine aa.mk (fun hge=> ?_) (fun hlt=> ?_)
 ·have hge:k<b.length:=by have:=of_decide_eq_true hge;omega
  refine aI.nB (j:=b.length - 1 - k) (h1.av (ag.cons hs)) (by omega) (by omega) ?_
  refine ES EV rfl h1 (by rw [List.length_take,List.length_reverse,bN];omega) fun s' w2 h2 _=>⟨⟨k+1,by rw [aj (by omega)];omega,by omega,?_⟩,by dsimp only;rw [aj (by omega)];omega⟩
  have e:b.reverse.take (k+1)=b.reverse.take k++ [b.getD (b.length - 1 - k) 0]:=by
   rw [List.take_add_one,List.getElem?_reverse hge]
   simp [List.getD,show b.length - 1 - k<b.length by omega]
  rw [e];exact h2
 ·have hke:k=b.length:=by have:=of_decide_eq_false hlt;omega
  subst hke
  rw [List.take_of_length_le (by rw [List.length_reverse];exact Nat.le_refl _)] at h1
  exact hK o w1 h1
end
end Go.Proofs.YtgglghjnakclmaaGreat
namespace Go.ao
open Go.Inc Go.Srt Go.Sym Go.aK
end Go.ao
namespace Go.Proofs.YtgglghjnakclmaaGreat
open Go Go.Vc Go.Srt Go.Inc Go.Sym Go.Tab Go.Hd Go.Bw Go.aK Go.ao Go.Crc
section
variable {E w:World} {F:List HP}
set_option maxRecDepth 20000
theorem oR {s:Sl} {x:List Nat} {K:Sl→Int→World→Prop} (h:Hp E w F) (hs:ag F (aG 1 s (x.map vB))) (hn:x.length≤400000) (hK: ∀s' w',Hp E w' (OB s' (bf x.reverse)::F)→K s' (dZ x.reverse:Int) w'):
  Cl Tryz.prog [kS,kI] ez ⟨[.slice s.base s.len s.cap]⟩ w K:=by
 refine xq.ok _ _ _ ?_
 refine xK h hs hn fun s' w h=> ?_
 exact Bl h ag.own (by simpa using hn) fun s2 w h=>hK s2 w h.gb
theorem rq {s:Sl} {x:List Nat} {K:Sl→World→Prop} (h:Hp E w F) (hs:ag F (aG 1 s (x.map vB))) (hb: ∀y∈x,y<256) (hn:x.length≤400000) (hK: ∀s' w',Hp E w' (OI s' (syms (bf x.reverse))::F)→K s' w'):
  Cl Tryz.prog [kS] fw ⟨[.slice s.base s.len s.cap]⟩ w K:=by
 refine uh.ok _ _ _ ?_
 refine oR h hs hn fun s' w h=> ?_
 exact F7 h ag.own (pf fun y hy=>hb y (List.mem_reverse.1 hy)) (by rw [dP,List.length_reverse];omega) fun s2 w h=>hK s2 w h.gb
theorem zL {s:Sl} {x:List Nat} {K:Array Value→World→Prop} (h:Hp E w F) (hs:ag F (aG 1 s (x.map vB))) (hb: ∀y∈x,y<256) (hn:x.length≤400000) (hK: ∀w',Hp E w' F→K (ai .u8 (eF x)) w'):
  Cl Tryz.prog [.arr 258] iH ⟨[.slice s.base s.len s.cap]⟩ w K:=by
 refine uw.ok _ _ _ ?_
 have h257:=vV hb
 have hfew:=uW hn
 have hct:=Fg h257
 have hall:(ints (syms (bf x.reverse))).all Hs.nL=true:=by
  refine List.all_eq_true.2 fun z hz=> ?_
  obtain ⟨y,hy,rfl⟩:=List.mem_map.1 hz
  have:=h257 y hy
  exact Hs.kv.2 (by omega)
 have hmx:=sk (ss:=syms (bf x.reverse)) (by omega)
 have hadd:Hs.eO (List.replicate 258 0) (ints (syms (bf x.reverse)))=some (ints (jo (syms (bf x.reverse)))):=by
  rw [←hct]
  exact Hs.vZ (by decide) hall (by rw [hct];exact j0 hmx)
 have hsz:(aT (ints (jo (syms (bf x.reverse))))).size=258:=by rw [de,dY,iT]
 have hsc:(aT (ints (jo (syms (bf x.reverse))))).toList.all ay=true:=List.all_eq_true.2 Vc.fV
 have hls:(ai .u8 (eF x)).size=258:=by rw [aJ];exact BK _
 have hlc:(ai .u8 (eF x)).toList.all ay=true:=List.all_eq_true.2 cO
 refine Nw.mk h fun b3 w h=>rq h (ag.cons hs) hb hn fun s' w h=>Ij h ag.own (by rw [dY,bN];omega) fun w h=> ?_
 rw [show ee=List.replicate 258 0 from rfl,hadd]
 refine Nw.mk h fun b8 w h=>aq.q h (by simp) hsz hsc fun w h=>Ld.xw h hsz ?_
 refine F2 (Aw (by omega)) h fun w h=> ?_
 refine Nw.mk h fun b15 w h=>aq.q h (by simp) hls hlc fun w h=>Ld.xw h hls ?_
 refine aq.q (b:=b3) h (by simp) hls hlc fun w h=>Ld.xw (b:=b3) h hls (hK w h.tl)
theorem Ga {n:Int} {s:Sl} {x:List Nat} {K:Sl→Int→World→Prop} (h:Hp E w F) (hs:ag F (aG 1 s (x.map vB))) (hb: ∀y∈x,y<256) (hn:x.length≤65536)
  (hgood:1≤n→n≤65536→1≤x.length→(x.length:Int)≤n→∀s' w',Hp E w' (OB s' (mb (eF x) x)::F)→K s' 0 w')
  (hbad: ¬(1≤n∧n≤65536∧1≤x.length∧(x.length:Int)≤n)→∀w',Hp E w' F→K ⟨none,0,0⟩ 2 w'):
  Cl Tryz.prog [kS,kI] kX ⟨[.int .i64 n,.slice s.base s.len s.cap]⟩ w K:=by
 refine AS.ok _ _ _ _ ?_
 have hlen:x.length=s.len:=qL (h.av hs)
 refine oR h hs (by omega) fun s4 w h=>Nw.mk h fun b7 w h=> ?_
 have hcrc:lD x<4294967296:=rH hb
 refine ET (s:=⟨some ⟨b7,0,none⟩,1,1⟩) (cs:= [s]) (bs:= [x]) h (ag.aD rfl rfl) rfl (by rw [bN];simp) (fun i hi=> ?_) (by simpa using hb) (by simp [bN];omega) ?_
 ·match i,hi with
  |0,_=>exact ag.cons (ag.cons hs)
 rw [show [x].flatten=x by simp,show (s.len:Int)=(x.length:Int) by omega]
 have hidx:dZ x.reverse≤x.length:=by
  by_cases h0:x= []
  ·subst h0;decide
  ·have:=oz (t:=x.reverse) (by rw [List.length_reverse];exact List.length_pos_iff.2 h0)
   rw [List.length_reverse] at this;omega
 refine Ck h (by omega) (by omega) hcrc (fun h1 h2 h3 h4 h5 h6 s11 w h=> ?_) (fun hno w h=> ?_)
 ·refine aa.nf rfl ?_
  have hL:=j7 h3 (by omega) hb
  have hls:(ai .u8 (eF x)).size=258:=by rw [aJ];exact hL.len
  have hlc:(ai .u8 (eF x)).toList.all ay=true:=List.all_eq_true.2 cO
  have h15:=q5 hL.ok
  have h8: ∀y∈eF x,y≤255:=fun y hy=>by have:=h15 y hy;omega
  refine zL h (ag.cons (ag.cons (ag.cons hs))) hb (by omega) fun w h=> ?_
  refine Nw.mk h fun b16 w h=> ?_
  refine aq.q h (by simp) hls hlc fun w h=> ?_
  refine Ld.xw h hls ?_
  refine FP h hL.len h8 (fun hno=>absurd hL.ok (by rw [hno];decide)) fun _ s20 w h=> ?_
  have h:=h.drew (n:=w.drawn+1)
  refine ⟨cq b16 _ _ _,h.hb,ad.xw (fun _ h=>h) hls ?_⟩
  have hsl:=uW (x:=x) (by omega)
  have hsl2:=kE (bf x.reverse)
  rw [dP,List.length_reverse] at hsl2
  refine rq h (ag.cons (ag.cons (ag.cons (ag.cons (ag.cons hs))))) hb (by omega) fun s26 w h=>⟨h.hb,?_⟩
  refine Fk h hL.len h8 ag.own (by rw [dY];omega) (fun hno=>absurd ⟨hL.v,Cx hL.good (vV hb)⟩ hno) fun _ _ s28 w h=>⟨h.hb,?_⟩
  rw [lq] at h
  have htl:=mO hL.len hL.ok
  have hel:=mH hL.v (ints (syms (bf x.reverse)))
  rw [lq,dY] at hel
  refine zP (h.at 2) ag.own (by omega) (by omega) fun s31 w h=> ?_
  refine Bm h ag.own (oT _ _) (by rw [List.length_append];omega) fun s33 w h=> ?_
  have hpl:=nz (mg (eF x)++enc (eF x) (syms (bf x.reverse)))
  rw [List.length_append] at hpl
  have hml:(jB x.length (dZ x.reverse) (lD x)).length≤20:=by
   have h1:=dr (n:=x.length) (by omega)
   have h2:=dr (n:=dZ x.reverse) (by omega)
   unfold jB
   simp [jV]
   omega
  refine ow (h.at 5) ag.own (by omega) (by omega) fun s35 w h=>hgood h1 h2 h3 h4 s35 w ?_
  exact h.gb
 ·refine aa.nt (by decide) (hbad (fun hh=>hno ?_) w h.tl)
  have:=oz (t:=x.reverse) (by rw [List.length_reverse];omega)
  rw [List.length_reverse] at this
  exact ⟨hh.1,hh.2.1,hh.2.2.1,hh.2.2.2,this.1,this.2⟩
end
end Go.Proofs.YtgglghjnakclmaaGreat
namespace Go.Proofs.YtgglghjnakclmaaGreat
open Go Go.Vc
set_option maxRecDepth 100000
theorem xX.ok (a:Sl) (R:Bool→World→Prop) w (h:
 c6 0 0 w fun b c (d:Int) (e:Int) f=>
 aa (decide (e<(a.len:Int)))
 (aa (decide (e≤20))
 (aa (decide (d≤150))
 (aI a e 1 fun g=>
 Ld kS g f fun (h:Sl)=>
 b (i64 (d+(if (200:Int)<(h.len:Int) then (200:Int) else (h.len:Int)))) (i64 (e+1)) f∧c (i64 (d+(if (200:Int)<(h.len:Int) then (200:Int) else (h.len:Int)))) (i64 (e+1)) f<c d e f)
 (aa (decide ((a.len:Int)>20))
 (R true f)
 (R (decide (d>150)) f)))
 (aa (decide ((a.len:Int)>20))
 (R true f)
 (R (decide (d>150)) f)))
 (aa (decide ((a.len:Int)>20))
 (R true f)
 (R (decide (d>150)) f))):Cl Pg [kB] jO ⟨[(an a)]⟩ w R:=co Tryz.f24 [(7,[(3,kI),(4,kI)])] h
theorem xH.ok (a:Int) (b:Sl) (R:Sl→Int→World→Prop) w (h:
 Cl Pg [kS,kI] mj ⟨[(.agg ⟨[(ni a)]⟩)]⟩ w fun (d:Sl) (e:Int) c=>
 aa (e !=0)
 (R (⟨none,0,0⟩:Sl) 2 c)
 (Cl Pg [kS] iD ⟨[(ni a),(an b)]⟩ c fun (g:Sl) f=>
 c6 d 0 f fun h i (j:Sl) (k:Int) l=>
 aa (decide (k<(g.len:Int)))
 (aI g k 1 fun m=>
 Ld kS m l fun (n:Sl)=>
 Cl Pg [kS,kI] kX ⟨[(ni a),(an n)]⟩ l fun (p:Sl) (q:Int) o=>
 aw Pg (Builtin.append_ #[26,26] 26 ⟨[(an j),(an p)]⟩) kS o fun (s:Sl) r=>
 h s (i64 (k+1)) r∧i s (i64 (k+1)) r<i j k l)
 (Cl Pg [(az .u32)] jX ⟨[(an b)]⟩ l fun (u:Int) t=>
 Cl Pg [kS] iI ⟨[(.int .u32 u)]⟩ t fun (x:Sl) v=>
 aw Pg (Builtin.append_ #[26,26] 26 ⟨[(an j),(an x)]⟩) kS v fun (z:Sl) y=>
 R z 0 y))):Cl Pg [kS,kI] jD ⟨[(ni a),(an b)]⟩ w R:=co Tryz.f25 [(14,[(6,kS),(9,kI)])] h
theorem zQ.ok (a:Int) (b:Sl) (R:Sl→World→Prop) w (h:
 c6 (⟨none,0,0⟩:Sl) 0 w fun c d (e:Sl) (f:Int) g=>
 aa (decide (f<(b.len:Int)))
 (c6 e 0 g fun h i (j:Sl) (k:Int) l=>
 aI b f 1 fun m=>
 Ld kS m l fun (n:Sl)=>
 aa (decide (k<(n.len:Int)))
 (fC l fun o p=>
 aI b f 1 fun q=>
 ad kS q o fun (r:Sl)=>
 aI b f 1 fun s=>
 ad kS s o fun (t:Sl)=>
 bF r k (if (t.len:Int)<(i64 (k+a)) then (t.len:Int) else (i64 (k+a))) (r).cap 1 fun u=>
 Nw 26 ⟨[(an u)]⟩ p fun x v=>
 o v∧
 aw Pg (Builtin.append_ #[47,47] 47 ⟨[(an j),(an (⟨some ⟨x,0,none⟩,1,1⟩:Sl))]⟩) kS v fun (z:Sl) y=>
 o y∧
 h z (i64 (k+a)) y∧i z (i64 (k+a)) y<i j k l)
 (c j (i64 (f+1)) l∧d j (i64 (f+1)) l<d e f g))
 (R e g)):Cl Pg [kS] iD ⟨[(ni a),(an b)]⟩ w R:=co Tryz.f26 [(7,[(5,kS),(6,kI)]),(14,[(5,kS),(7,kI)])] h
end Go.Proofs.YtgglghjnakclmaaGreat
namespace Go.Vc
open Go Go.Stm
end Go.Vc
namespace Go.Proofs.YtgglghjnakclmaaGreat
open Go Go.Vc Go.Stm
section
variable {E w:World} {F:List HP}
set_option maxRecDepth 20000
structure fS (s:Sl) (ps:List (Sl×List Nat)) (w:World):Prop where
 tab:aG 1 s (ps.map fun x=> .slice x.1.base x.1.len x.1.cap) w
 each: ∀x∈ps,aG 1 x.1 (x.2.map vB) w
structure vM (ps:List (Sl×List Nat)):Prop where
 caps: ∀x∈ps,x.1.len≤x.1.cap
 few:ps.length≤g5
 small: ∀x∈ps,x.2.length≤g5
end
end Go.Proofs.YtgglghjnakclmaaGreat
namespace Go.Vc
open Go
theorem bF.Kb {w:World} {s:Sl} {xs:List Value} {lo hi mx:Int} {K:Sl→Prop} (hs:aG 1 s xs w) (h0:0≤lo) (h1:lo≤hi) (h2:hi≤(s.len:Int)) (h3:hi≤mx) (h4:mx≤(s.cap:Int))
  (h: ∀s':Sl,(∀w',aG 1 s xs w'→aG 1 s' ((xs.drop lo.toNat).take (hi.toNat - lo.toNat)) w')→s'.len=hi.toNat - lo.toNat→s'.len≤s'.cap→K s'):bF s lo hi mx 1 K:=by
 obtain ⟨a,b,c,d,e⟩:=bF.rd (K:=fun s'=>s'.len≤s'.cap→K s') hs h0 h1 h2 h3 h4 fun s' a b c=>h s' a b c
 exact ⟨a,b,c,d,e (by simp only;omega)⟩
end Go.Vc
namespace Go.Stm
theorem wh: ∀l:List (List Nat),(∀x∈l,0<x.length)→l.length≤l.flatten.length
 | [],_=>by simp
 |x::l,h=>by
  have h1:=h x List.mem_cons_self
  have h2:=wh l fun y hy=>h y (List.mem_cons_of_mem _ hy)
  rw [List.length_cons,List.flatten_cons,List.length_append];omega
theorem qu {n:Nat} (hn:0<n) (l:List (List Nat)):(bA n l).length≤l.flatten.length:=by
 have:=wh (bA n l) fun x hx=>(vO hn x hx).1
 rwa [tN hn] at this
theorem Bc (n:Nat) (x:List Nat) (l:List (List Nat)):bA n (x::l)=k5 n x++bA n l:=by unfold bA;rw [List.flatMap_cons]
def lz (l:List (List Nat)):Nat:=(l.map fun b=>min b.length 200).sum
theorem CW (l:List (List Nat)) (b:List Nat):lz (l++ [b])=lz l+min b.length 200:=by unfold lz;simp
theorem vg: ∀l:List (List Nat),lz l≤150→l.flatten.length≤150∧l.flatten.length=lz l
 | [],_=>by simp [lz]
 |x::l,h=>by
  have e:lz (x::l)=min x.length 200+lz l:=by unfold lz;simp
  rw [e] at h
  have ih:=vg l (by omega)
  rw [e,List.flatten_cons,List.length_append];omega
end Go.Stm
namespace Go.Proofs.YtgglghjnakclmaaGreat
open Go Go.Vc Go.Stm
section
variable {E w:World} {F:List HP}
set_option maxRecDepth 20000
theorem HG:bZ Tryz.prog 47 26 1 24:=bZ.of (by kernel_rfl) (by kernel_rfl)
theorem AT {s:Sl} {ps:List (Sl×List Nat)} {K:Bool→World→Prop} (hs:fS s ps w) (hK: ∀b:Bool,(b=false→ps.length≤20∧(ps.map Prod.snd).flatten.length≤150)→K b w):
  Cl Tryz.prog [kB] jO ⟨[.slice s.base s.len s.cap]⟩ w K:=by
 refine xX.ok _ _ _ ?_
 have hlen:ps.length=s.len:=by have:=hs.tab.1;simpa using this
 refine ⟨fun n i w'=>w'=w∧∃k:Nat,i=(k:Int)∧k≤ps.length∧k≤21∧n=((lz ((ps.take k).map Prod.snd):Nat):Int)∧lz ((ps.take k).map Prod.snd)≤350,fun _ i _=>ps.length - i.toNat,⟨rfl,0,rfl,by omega,by omega,rfl,by simp [lz]⟩,?_⟩
 rintro n i w' ⟨rfl,k,rfl,hk,hk21,rfl,hg⟩
 refine aa.dm (fun hlt=> ?_) (fun hge=> ?_)
 ·have hlt:k<ps.length:=by omega
  refine aa.dm (fun h20=> ?_) (fun h20=>aa.dt (by omega) (hK true (fun hh=>by cases hh)))
  refine aa.dm (fun h150=> ?_) (fun h150=> ?_)
  ·refine aI.rd hs.tab (by omega) (by omega) fun q _ hq=> ?_
   have hT:=(hs.each _ (List.getElem_mem hlt)).1
   rw [List.length_map,Nat.mul_one] at hT
   refine Ld.sc (s:= .sl) ps[k].1 (by rw [hq];simp [Sc.enc]) ?_
   have hst:lz ((ps.take (k+1)).map Prod.snd)=lz ((ps.take k).map Prod.snd)+min ps[k].2.length 200:=by
    rw [List.take_add_one,List.getElem?_eq_getElem hlt,List.map_append]
    exact CW _ _
   have e:(if (200:Int)<(ps[k].1.len:Int) then (200:Int) else (ps[k].1.len:Int))=((min ps[k].2.length 200:Nat):Int):=by
    split<;>omega
   rw [e,aj (by omega),aj (by omega)]
   exact ⟨⟨rfl,k+1,rfl,by omega,by omega,by rw [hst];omega,by omega⟩,by first|omega|(dsimp only;omega)⟩
  ·refine aa.dm (fun _=>hK true (fun hh=>by cases hh)) (fun h2=> ?_)
   rw [decide_eq_true (by omega)]
   exact hK true (fun hh=>by cases hh)
 ·have hk2:k=ps.length:=by omega
  subst hk2
  rw [List.take_of_length_le (Nat.le_refl _)] at hg⊢
  refine aa.dm (fun _=>hK true (fun hh=>by cases hh)) (fun h2=>hK _ fun hh=> ?_)
  have:=of_decide_eq_false hh
  exact ⟨by omega,(vg _ (by omega)).1⟩
theorem Dq {ps:List (Sl×List Nat)} (hc: ∀x∈ps,x.1.len≤x.1.cap) (h1:ps.length≤20) (h2:(ps.map Prod.snd).flatten.length≤150):vM ps where
 caps:=hc
 few:=by rw [bN];omega
 small:=fun x hx=>by
  have:x.2.length≤(ps.map Prod.snd).flatten.length:=(List.sublist_flatten_of_mem (List.mem_map.2 ⟨x,hx,rfl⟩)).length_le
  rw [bN];omega
theorem tk {n:Nat} {s:Sl} {ps:List (Sl×List Nat)} {K:Sl→World→Prop} (h:Hp E w F) (hs:ag F (fS s ps)) (hp:vM ps) (hn:0<n) (hn2:n≤65536) (hsm:(ps.map Prod.snd).flatten.length≤100000)
  (hK: ∀(pcs:List (Sl×List Nat)) (s':Sl) (w':World),pcs.map Prod.snd=bA n (ps.map Prod.snd)→(∀x∈pcs,x.1.len≤x.1.cap)→(∀w,fS s ps w→∀x∈pcs,aG 1 x.1 (x.2.map vB) w)→Hp E w' (aA 1 s' (pcs.map fun x=> .slice x.1.base x.1.len x.1.cap)::F)→K s' w'):
  Cl Tryz.prog [kS] iD ⟨[.int .i64 (n:Int),.slice s.base s.len s.cap]⟩ w K:=by
 refine zQ.ok _ _ _ _ ?_
 have hlen:ps.length=s.len:=by have:=(h.av hs).tab.1;simpa using this
 have hfew:=hp.few
 rw [bN] at hfew
 have hcl:=qu hn (ps.map Prod.snd)
 refine ⟨fun o i w=> ∃(k:Nat) (pcs:List (Sl×List Nat)),i=(k:Int)∧k≤ps.length∧pcs.map Prod.snd++bA n ((ps.drop k).map Prod.snd)=bA n (ps.map Prod.snd)∧(∀x∈pcs,x.1.len≤x.1.cap)∧(∀w,fS s ps w→∀x∈pcs,aG 1 x.1 (x.2.map vB) w)∧
  Hp E w (aA 1 o (pcs.map fun x=> .slice x.1.base x.1.len x.1.cap)::F),fun _ i _=>ps.length - i.toNat,⟨0,[],rfl,by omega,rfl,by simp,by simp,h.aW 1⟩,?_⟩
 rintro o i w ⟨k,pcs,rfl,hk,hcut,hcap,hT,h⟩
 refine aa.dm (fun hlt=> ?_) (fun hge=> ?_)
 ·have hlt:k<ps.length:=by omega
  have hmem:ps[k]∈ps:=List.getElem_mem hlt
  have hc:=hp.caps _ hmem
  have hs1:=hp.small _ hmem
  rw [bN] at hs1
  rw [List.drop_eq_getElem_cons hlt,List.map_cons,Bc] at hcut
  have hl1:ps[k].2.length=ps[k].1.len:=qL ((h.av hs.cons).each _ hmem)
  refine ⟨fun o a w=> ∃(j:Nat) (pcs:List (Sl×List Nat)),a=(j:Int)∧j≤ps[k].2.length+65536∧pcs.map Prod.snd++(k5 n (ps[k].2.drop j)++bA n ((ps.drop (k+1)).map Prod.snd))=bA n (ps.map Prod.snd)∧(∀x∈pcs,x.1.len≤x.1.cap)∧(∀w,fS s ps w→∀x∈pcs,aG 1 x.1 (x.2.map vB) w)∧
   Hp E w (aA 1 o (pcs.map fun x=> .slice x.1.base x.1.len x.1.cap)::F),fun _ a _=>ps[k].1.len - a.toNat,⟨0,pcs,rfl,by omega,hcut,hcap,hT,h⟩,?_⟩
  rintro o a w ⟨j,pcs,rfl,hj,hcut,hcap,hT,h⟩
  have hPW: ∀{w:World} {A:HP},Hp E w (A::F)→fS s ps w:=fun h=>h.av hs.cons
  refine aI.rd (hPW h).tab (by omega) (by omega) fun q _ hq=> ?_
  refine Ld.sc (s:= .sl) ps[k].1 (by rw [hq];simp [Sc.enc]) ?_
  refine aa.dm (fun hlt2=> ?_) (fun hge2=> ?_)
  ·have hlt2:j<ps[k].2.length:=by omega
   have h:=h.drew (n:=w.drawn+1)
   refine ⟨fS s ps,hPW h,?_⟩
   refine aI.Hg (sc:= .sl) (hPW h).tab (fun _ h=>h.tab) rfl (by simpa using hlt) ps[k].1 (by simp [Sc.enc,hlt]) ?_
   refine aI.Hg (sc:= .sl) (hPW h).tab (fun _ h=>h.tab) rfl (by simpa using hlt) ps[k].1 (by simp [Sc.enc,hlt]) ?_
   rw [aj (x:=(j:Int)+(n:Int)) (by omega)]
   have hhi:(if (ps[k].1.len:Int)<(j:Int)+(n:Int) then (ps[k].1.len:Int) else (j:Int)+(n:Int))=((min (j+n) ps[k].1.len:Nat):Int):=by split<;>omega
   rw [hhi]
   refine bF.Kb ((hPW h).each _ hmem) (by omega) (by omega) (by omega) (by omega) (by omega) fun s' hs' hl' hsc=> ?_
   simp only [Int.toNat_natCast] at hs' hl'
   have hne:ps[k].2.drop j≠ []:=fun e=>by have:=congrArg List.length e;rw [List.length_drop] at this;simp at this;omega
   rw [qx hne hn,List.drop_drop] at hcut
   have etk:(((ps[k].2.map vB).drop j).take (min (j+n) ps[k].1.len - j))=((ps[k].2.drop j).take n).map vB:=by
    rw [←List.map_drop,←List.map_take]
    congr 1
    rcases Nat.le_total (j+n) ps[k].1.len with h1|h1
    ·rw [Nat.min_eq_left h1,show j+n - j=n by omega]
    ·rw [Nat.min_eq_right h1,List.take_of_length_le (by rw [List.length_drop];omega),List.take_of_length_le (by rw [List.length_drop];omega)]
   rw [etk] at hs'
   have hpl:=h.bS
   rw [List.length_map,Nat.mul_one] at hpl
   have hpc:pcs.length≤100000:=by
    have:=congrArg List.length hcut
    rw [List.length_append,List.length_map] at this
    omega
   refine Nw.mk h fun b23 w h=>⟨h.av hs.cons.cons,?_⟩
   refine br (ys:= [.slice s'.base s'.len s'.cap]) (n:=1) HG (by decide) (.inl ⟨26,by kernel_rfl⟩) h.p1 (.inl ⟨some ⟨b23,0,none⟩,1,1,rfl,rfl,h.av (ag.aD rfl rfl)⟩) rfl (by
    intro z hz
    rw [List.mem_singleton] at hz
    rw [hz];rfl) (by omega) (by omega) fun s2 w h _=>⟨h.av hs.cons.cons,?_⟩
   refine ⟨⟨j+n,pcs++ [(s',(ps[k].2.drop j).take n)],by omega,by omega,?_,?_,?_,?_⟩,by first|omega|(dsimp only;omega)⟩
   ·rw [←hcut];simp
   ·intro x hx
    rcases List.mem_append.1 hx with hx|hx
    ·exact hcap x hx
    ·rw [List.mem_singleton] at hx;rw [hx];exact hsc
   ·intro w hw x hx
    rcases List.mem_append.1 hx with hx|hx
    ·exact hT w hw x hx
    ·rw [List.mem_singleton] at hx;rw [hx];exact hs' w (hw.each _ hmem)
   ·rw [List.map_append]
    exact h.p1.drop
  ·have e0:ps[k].2.drop j= []:=List.drop_of_length_le (by omega)
   rw [e0,qE,List.nil_append] at hcut
   rw [aj (by omega)]
   exact ⟨⟨k+1,pcs,rfl,by omega,hcut,hcap,hT,h⟩,by first|omega|(dsimp only;omega)⟩
 ·have hk2:k=ps.length:=by omega
  subst hk2
  rw [List.drop_of_length_le (Nat.le_refl _),List.map_nil,show bA n []= [] from rfl,List.append_nil] at hcut
  exact hK pcs o w hcut hcap hT h
end
end Go.Proofs.YtgglghjnakclmaaGreat
set_option maxRecDepth 20000
namespace Go.ao
open Go.Inc Go.Srt Go.Sym Go.aK Go.Tab Go.Bw Go.Pm
noncomputable def E1:List Nat:=Proofs.YtgglghjnakclmaaGreat.gu (List.replicate 258 1) (eG (List.replicate 258 1)) 15
theorem sK {s:Nat} (h:s<258):(List.replicate 258 1).getD s 0=1:=by
 rw [List.getD_eq_getElem?_getD,List.getElem?_replicate,if_pos h];rfl
theorem zH {last:List Nat} (hb: ∀x∈last,x<256):qt E1 last:=
 zF List.length_replicate (fun x hx=>by rw [(List.mem_replicate.1 hx).2];decide) (sW _) (by rw [sK (by decide)];decide) ⟨0,by decide,by rw [sK (by decide)];decide⟩ (fun s hs=>by rw [sK (by have:=oX hb s hs;omega)];decide) hb
noncomputable def dF (x:List Nat):List Nat:=if x.length≤1000000 then eF x else E1
theorem lP {x:List Nat} (h:x.length≤1000000):dF x=eF x:=by unfold dF;rw [if_pos h]
theorem Iv:Stm.dv dF:=fun x h0 hb=>by
 unfold dF
 split
 ·rename_i h
  exact j7 h0 h hb
 ·exact zH (pf fun y hy=>hb y (List.mem_reverse.1 hy))
end Go.ao
namespace Go.ao
open Go.Inc Go.Srt Go.Sym Go.aK Go.Tab Go.Hd Go.Crc Go.Bw Go.Proofs.YtgglghjnakclmaaGreat
theorem oJ: ∀(l:List (List Nat)),(∀x∈l,0<x.length∧x.length≤65536∧∀y∈x,y<256)→(Stm.blocks dF l).length≤200000*l.length
 | [],_=>by simp [Stm.blocks]
 |x::l,h=>by
  have h1:=h x List.mem_cons_self
  have h2:=tj h1.1 h1.2.2 h1.2.1
  have h3:=oJ l fun y hy=>h y (List.mem_cons_of_mem _ hy)
  unfold Stm.blocks at h3⊢
  rw [List.flatMap_cons,List.length_append,List.length_cons]
  unfold Stm.mZ at h3⊢
  rw [lP (by omega)]
  omega
end Go.ao
namespace Go.Proofs.YtgglghjnakclmaaGreat
open Go Go.Vc Go.Srt Go.Inc Go.Sym Go.Tab Go.Hd Go.Bw Go.aK Go.ao Go.Crc Go.Stm
section
variable {E w:World} {F:List HP}
set_option maxRecDepth 20000
end
end Go.Proofs.YtgglghjnakclmaaGreat
namespace Go.Proofs.YtgglghjnakclmaaGreat
open Go Go.Vc Go.Srt Go.Inc Go.Sym Go.Tab Go.Hd Go.Bw Go.aK Go.ao Go.Crc Go.Stm
section
variable {E w:World} {F:List HP}
set_option maxRecDepth 20000
theorem Dh {n:Nat} {K:Sl→Int→World→Prop} (h:Hp E w F) (hn:n≤65536) (h0:0<n) (hK: ∀s w',Hp E w' (OB s (iN n)::F)→K s 0 w'):Cl Tryz.prog [kS,kI] mj ⟨[.agg ⟨[.int .i64 (n:Int)]⟩]⟩ w K:=by
 refine CE.ok ((n:Int),()) _ _ ?_
 refine Nw.mk h fun b3 w h=> ?_
 refine Ld.xb (b:=b3) h rfl (aa.df (by omega) (Ld.xb (b:=b3) h rfl (aa.df (by omega) (Ld.xb (b:=b3) (x:=(n:Int)) h rfl ?_))))
 refine te h hn fun s w h=>Nw.mk h fun b11 w h=> ?_
 have h:=Hp.iq (n:=3) (sz:=1) h rfl
 have hl:=dr hn
 refine ow (s:=⟨some ⟨b11,0,none⟩,3,3⟩) (xs:= [87,80,1]) (ys:=fm n) h ag.own (by decide) (by omega) fun s' w h=>hK s' w ?_
 exact (h.no 1).no 1
theorem DG {c:Nat} {K:Sl→World→Prop} (h:Hp E w F) (hc:c<4294967296) (hK: ∀s w',Hp E w' (OB s (jJ c)::F)→K s w'):Cl Tryz.prog [kS] iI ⟨[.int .u32 (c:Int)]⟩ w K:=by
 refine wP.ok _ _ _ (Nw.mk h fun b3 w h=> ?_)
 refine Cy h hc fun s w h=> ?_
 have h:=Hp.iq (n:=1) (sz:=1) (h.at 1) rfl
 refine ow (s:=⟨some ⟨b3,0,none⟩,1,1⟩) (xs:= [0]) (ys:=jV c) h ag.own (by decide) (show 4≤_ by decide) fun s' w h=>hK s' w ?_
 exact h.no 1
theorem Af {n:Nat} {s:Sl} {ps:List (Sl×List Nat)} {K:Sl→Int→World→Prop} (h:Hp E w F) (hn:1≤n) (hn2:n≤65536) (hg:ag F (fS s ps)) (hp:vM ps) (hb: ∀x∈ps,∀y∈x.2,y<256) (hsm:(ps.map Prod.snd).flatten.length≤100000)
  (hK: ∀s' w',Hp E w' (OB s' (nD dF n (ps.map Prod.snd))::F)→K s' 0 w'):Cl Tryz.prog [kS,kI] jD ⟨[.int .i64 (n:Int),.slice s.base s.len s.cap]⟩ w K:=by
 have hbf: ∀c∈(ps.map Prod.snd).flatten,c<256:=fun c hc=>by
  obtain ⟨l,hl,hc⟩:=List.mem_flatten.1 hc
  obtain ⟨x,hx,rfl⟩:=List.mem_map.1 hl
  exact hb x hx c hc
 have hok:=iO (n:=n) hn hbf
 have hcf:=qu hn (ps.map Prod.snd)
 refine xH.ok _ _ _ _ (Dh h hn2 hn fun s4 w h=>aa.nf rfl ?_)
 refine tk h hg.cons hp hn hn2 hsm fun pcs s7 w hpc hcap hpw h=> ?_
 have hpl:pcs.length=(bA n (ps.map Prod.snd)).length:=by rw [←hpc,List.length_map]
 have hl7:pcs.length=s7.len:=by have:=h.bS;simpa using this
 have hblen: ∀i,(iN n++blocks dF ((bA n (ps.map Prod.snd)).take i)).length≤200000*i+10:=fun i=>by
  have h1:=oJ ((bA n (ps.map Prod.snd)).take i) fun x hx=>⟨(hok x (List.mem_of_mem_take hx)).1,Nat.le_trans (hok x (List.mem_of_mem_take hx)).2.1 hn2,(hok x (List.mem_of_mem_take hx)).2.2⟩
  have h2:=dr hn2
  have h3:((bA n (ps.map Prod.snd)).take i).length≤i:=by rw [List.length_take];omega
  have h4:=Nat.mul_le_mul_left 200000 h3
  rw [List.length_append]
  unfold iN
  simp only [List.length_append,List.length_cons,List.length_nil]
  omega
 refine ⟨fun out i w'=> ∃k:Nat,i=(k:Int)∧k≤pcs.length∧Hp E w' (OB out (iN n++blocks dF ((bA n (ps.map Prod.snd)).take k))::aA 1 s7 (pcs.map fun x=> .slice x.1.base x.1.len x.1.cap)::F),fun _ i _=>pcs.length - i.toNat,⟨0,rfl,by omega,?_⟩,?_⟩
 ·have e:iN n++blocks dF ((bA n (ps.map Prod.snd)).take 0)=iN n:=by simp [blocks]
  rw [e]
  exact h.at 1
 ·rintro out i w ⟨k,rfl,hk,h⟩
  have hbl:=hblen k
  have hgw: ∀{A B:HP},ag (A::B::F) (fS s ps):=hg.cons.cons
  refine aa.dm (fun hlt=> ?_) (fun hge=> ?_)
  ·have hlt:k<pcs.length:=by omega
   have hkc:k<(bA n (ps.map Prod.snd)).length:=by omega
   refine aI.rd (h.av (ag.at 1 ag.own)) (by omega) (by omega) fun q _ hq=> ?_
   refine Ld.sc (s:= .sl) pcs[k].1 (by rw [hq];simp [Sc.enc]) ?_
   have hx:pcs[k].2=(bA n (ps.map Prod.snd))[k]:=by
    have:=List.getElem_map Prod.snd (l:=pcs) (i:=k) (h:=by simpa using hlt)
    rw [←this]
    simp only [hpc]
   obtain ⟨c0,c1,c2⟩:=hok _ (List.getElem_mem hkc)
   refine Ga (x:=(bA n (ps.map Prod.snd))[k]) h (hgw.imp fun w hw=>by rw [←hx];exact hpw w hw _ (List.getElem_mem hlt)) c2 (by omega) (fun _ _ _ _ s16 w h=> ?_) (fun hno=>absurd ⟨by omega,by omega,c0,by omega⟩ hno)
   have hbs:=tj c0 c2 (by omega)
   refine ow (h.at 1) (ag.own) (by omega) (by omega) fun s19 w h=> ?_
   have e:iN n++blocks dF ((bA n (ps.map Prod.snd)).take k)++mb (eF (bA n (ps.map Prod.snd))[k]) (bA n (ps.map Prod.snd))[k]=iN n++blocks dF ((bA n (ps.map Prod.snd)).take (k+1)):=by
    rw [List.append_assoc,List.take_add_one,List.getElem?_eq_getElem hkc]
    unfold blocks mZ
    rw [List.flatMap_append,Option.toList_some,List.flatMap_singleton,lP (by omega)]
   rw [e] at h
   rw [aj (by omega)]
   exact ⟨⟨k+1,by omega,by omega,h.no 1⟩,by first|omega|(dsimp only;omega)⟩
  ·have hk2:k=pcs.length:=by omega
   subst hk2
   rw [hpl,List.take_of_length_le (Nat.le_refl _)] at h
   rw [hpl] at hbl
   rw [List.take_of_length_le (Nat.le_refl _)] at hbl
   have hcr:=rH hbf
   refine ET (cs:=ps.map Prod.fst) (bs:=ps.map Prod.snd) h (hgw.imp fun w hw=>by have:=hw.tab;rwa [List.map_map]) (by simp) (by rw [List.length_map];exact hp.few) (fun i hi=> ?_) (fun b hbm y hy=> ?_) (fun b hbm=> ?_) ?_
   ·rw [List.length_map] at hi
    refine hgw.imp fun w hw=> ?_
    have:=hw.each ps[i] (List.getElem_mem hi)
    rw [List.getD_eq_getElem?_getD,List.getElem?_map,List.getElem?_eq_getElem hi]
    simpa using this
   ·obtain ⟨x,hx,rfl⟩:=List.mem_map.1 hbm
    exact hb x hx y hy
   ·obtain ⟨x,hx,rfl⟩:=List.mem_map.1 hbm
    exact hp.small x hx
   ·refine DG h hcr fun s23 w h=> ?_
    refine ow (h.at 1) (ag.own) (by omega) (show 5≤_ by decide) fun s25 w h=>hK s25 w ?_
    rw [List.append_assoc] at h
    exact (h.no 1).no 1
end
end Go.Proofs.YtgglghjnakclmaaGreat
set_option maxRecDepth 20000
namespace Go.Bw
open Go Go.Vc Go.Rk
end Go.Bw
namespace Go.Proofs.YtgglghjnakclmaaGreat
open Go Go.Vc
section
variable {w:World}
set_option maxRecDepth 200000 in
theorem EL {s:Sl} {b:List Nat} {K:ByteArray→World→Prop} (hs:aG 1 s (b.map vB) w) (hK:K (strOf b) w):aw Tryz.prog (convert 26 9 (.slice s.base s.len s.cap)) su w K:=
 ob (s:=s) (b:=b) (e:=5) (by kernel_rfl) (by kernel_rfl) (by kernel_rfl) hs hK
end
end Go.Proofs.YtgglghjnakclmaaGreat
namespace Go.Stm
open Go.Inc Go.Srt Go.Sym Go.aK Go.Tab Go.Hd Go.Crc Go.Bw Go.ao Go.Proofs.YtgglghjnakclmaaGreat
theorem HR {n:Nat} {parts:List (List Nat)} (hn:0<n) (hb: ∀c∈parts.flatten,c<256): ∀y∈nD dF n parts,y<256:=by
 unfold nD
 intro y hy
 rcases List.mem_append.1 hy with hy|hy
 ·unfold iN at hy
  rcases List.mem_append.1 hy with hy|hy
  ·simp at hy;omega
  ·exact xi _ y hy
 ·rcases List.mem_append.1 hy with hy|hy
  ·obtain ⟨x,hx,hy⟩:=List.mem_flatMap.1 hy
   have:=iO hn hb x hx
   unfold mZ mb jB at hy
   rcases List.mem_append.1 hy with hy|hy
   ·rcases List.mem_cons.1 hy with rfl|hy
    ·decide
    ·rcases List.mem_append.1 hy with hy|hy
     ·rcases List.mem_append.1 hy with hy|hy
      ·exact xi _ y hy
      ·exact xi _ y hy
     ·exact EW _ y hy
   ·exact CS (oT _ _) _ y hy
  ·unfold jJ at hy
   rcases List.mem_cons.1 hy with rfl|hy
   ·decide
   ·exact EW _ y hy
end Go.Stm
namespace Go.Proofs.YtgglghjnakclmaaGreat
open Go Go.Vc Go.Srt Go.Inc Go.Sym Go.Tab Go.Hd Go.Bw Go.aK Go.ao Go.Crc Go.Stm
section
variable {E w:World} {F:List HP}
set_option maxRecDepth 20000
theorem J8 (x:List Nat):((strOf x).toList==(strOf x).toList)=true:=by simp
end
end Go.Proofs.YtgglghjnakclmaaGreat
namespace Go.Vc
end Go.Vc
namespace Go.Stm
open Go.Inc Go.Srt Go.Sym Go.aK Go.Tab Go.Hd Go.Crc Go.Bw Go.ao Go.Proofs.YtgglghjnakclmaaGreat
theorem Ct {x:List Nat} (h0:0<x.length) (hb: ∀y∈x,y<256) (hn:x.length≤65536):(mb (eF x) x).length≤1200+2*x.length:=by
 have hL:=j7 h0 (by omega) hb
 have h1:=dr (n:=x.length) (by omega)
 have hidx:=oz (t:=x.reverse) (by rw [List.length_reverse];exact h0)
 rw [List.length_reverse] at hidx
 have h2:=dr (n:=dZ x.reverse) (by omega)
 have h3:=mO hL.len hL.ok
 have h4:=mH hL.v (ints (syms (bf x.reverse)))
 rw [lq,dY] at h4
 have h5:=kE (bf x.reverse)
 rw [dP,List.length_reverse] at h5
 unfold mb jB body
 rw [List.length_append,nz,List.length_append,List.length_cons,List.length_append,List.length_append,show (jV (lD x)).length=4 from rfl]
 omega
theorem ox: ∀(l:List (List Nat)),(∀x∈l,0<x.length∧x.length≤65536∧∀y∈x,y<256)→(blocks dF l).length≤1200*l.length+2*l.flatten.length
 | [],_=>by simp [blocks]
 |x::l,h=>by
  have h1:=h x List.mem_cons_self
  have h2:=Ct h1.1 h1.2.2 h1.2.1
  have h3:=ox l fun y hy=>h y (List.mem_cons_of_mem _ hy)
  unfold blocks at h3⊢
  rw [List.flatMap_cons,List.length_append,List.length_cons,List.flatten_cons,List.length_append]
  unfold mZ at h3⊢
  rw [lP (by omega)]
  omega
theorem Ai {n:Nat} {parts:List (List Nat)} (hn:0<n) (hn2:n≤65536) (hb: ∀c∈parts.flatten,c<256):(nD dF n parts).length≤1200*(bA n parts).length+2*parts.flatten.length+20:=by
 unfold nD
 have h1:=ox (bA n parts) fun x hx=>⟨(iO hn hb x hx).1,Nat.le_trans (iO hn hb x hx).2.1 hn2,(iO hn hb x hx).2.2⟩
 rw [tN hn] at h1
 have h2:=dr (n:=n) hn2
 rw [List.length_append,List.length_append]
 unfold iN jJ
 simp only [List.length_append,List.length_cons,List.length_nil,show (jV (lD parts.flatten)).length=4 from rfl]
 omega
theorem BV (l:List (List Nat)) (k:Nat):(l.take k).flatten.length≤l.flatten.length:=by
 have:=congrArg (fun l=>(List.flatten l).length) (List.take_append_drop k l)
 simp only [List.flatten_append,List.length_append] at this
 omega
end Go.Stm
namespace Go.Proofs.YtgglghjnakclmaaGreat
open Go Go.Vc Go.Srt Go.Inc Go.Sym Go.Tab Go.Hd Go.Bw Go.aK Go.ao Go.Crc Go.Stm
section
variable {E w:World} {F:List HP}
set_option maxRecDepth 20000
theorem Ho {ps:List (Sl×List Nat)} (hb: ∀x∈ps,∀y∈x.2,y<256): ∀c∈(ps.map Prod.snd).flatten,c<256:=fun c hc=>by
 obtain ⟨l,hl,hc⟩:=List.mem_flatten.1 hc
 obtain ⟨x,hx,rfl⟩:=List.mem_map.1 hl
 exact hb x hx c hc
end
end Go.Proofs.YtgglghjnakclmaaGreat
namespace Go.Prs
open Go.Inc Go.Srt Go.Sym Go.aK Go.Tab Go.Hd Go.Crc Go.Bw Go.ao Go.Stm
section
variable {c:List Nat} {s s':PS} {u u':Nat} {e:Ev} {es:List Ev}
theorem F9 (hs:dE s) (hu:u≤8*c.length) (h:aF true c s u= .ev e s' u'):(e= .fin→u'=8*c.length)∧(final e=false→dE s'):=by
 unfold aF short at h
 split at h
 all_goals try (split at h)
 all_goals try (split at h)
 all_goals try (split at h)
 all_goals try (split at h)
 all_goals first
  |(cases h;done)
  |exact hs.elim
  |(injection h with h1 h2 h3;subst h1;subst h2;subst h3;refine ⟨fun hf=> ?_,fun hf=> ?_⟩<;>first|(cases hf;done)|trivial|omega|(split<;>trivial))
theorem FL (hs:dE s) (h:aF true c s u= .go s' u'):dE s':=by
 unfold aF short at h
 split at h
 all_goals try (split at h)
 all_goals try (split at h)
 all_goals try (split at h)
 all_goals try (split at h)
 all_goals first
  |(cases h;done)
  |exact hs.elim
  |(injection h with h1 h2;subst h1;subst h2;first|trivial|(split<;>trivial))
theorem HC: ∀(k:Nat) (s:PS) (u:Nat),dU c s u=k→u≤8*c.length→dE s→cQ true c s u=(some e,s',u')→(e= .fin→u'=8*c.length)∧(final e=false→dE s'):=by
 intro k
 induction k using Nat.strongRecOn with
 |ind k ih=>
  intro s u hk hu hs h
  cases hm:aF true c s u with
  |need=>rw [k8 hm] at h;cases h
  |go s2 u2=>
   rw [n6 hm] at h
   have:=mB hm
   exact ih _ (by rw [←hk];exact this.1) s2 u2 rfl this.2.2 (FL hs hm) h
  |ev e2 s2 u2=>
   rw [kF hm] at h
   cases h
   exact F9 hs hu hm
theorem iJ (hu:u≤8*c.length) (hs:dE s) (h:cP true c s u=e::es): ∃s' u',cQ true c s u=(some e,s',u')∧u'≤8*c.length∧(final e=false→cP true c s' u'=es∧dE s')∧(e= .fin→u'=8*c.length)∧(final e=true→Stop e s'):=by
 have hp:=Gd (ended:=true) (c:=c) _ s u rfl hu
 cases hq:cQ true c s u with
 |mk o p=>
  obtain ⟨s',u'⟩:=p
  rw [hq] at hp
  cases o with
  |none=>rw [hp.1] at h;cases h
  |some e2=>
   obtain ⟨h1,h2,h3⟩:=hp
   rw [h] at h1
   injection h1 with h1 h4
   subst h1
   have hn:=HC _ s u rfl hu hs hq
   exact ⟨s',u',rfl,h2,fun hf=>⟨by rw [h4,hf];rfl,hn.2 hf⟩,hn.1,fun hf=>Dy _ s u rfl hq hf⟩
def lQ (ts:List (List Nat)) (j:Nat):Ev:=if h:j<ts.length then .bytes ts[j] else .bend
def s9 (ts:List (List Nat)) (es:List Ev) (j:Nat):List Ev:=if j<ts.length then (ts.drop (j+1)).map Ev.bytes++ .bend::es else es
theorem yA {ts:List (List Nat)} {j:Nat}:final (lQ ts j)=false:=by unfold lQ;split<;>rfl
theorem BX {ts:List (List Nat)} {es:List Ev} {j:Nat} (h:j<ts.length):s9 ts es j=lQ ts (j+1)::s9 ts es (j+1):=by
 unfold s9 lQ
 rw [if_pos h]
 by_cases h1:j+1<ts.length
 ·rw [if_pos h1,dif_pos h1,List.drop_eq_getElem_cons h1,List.map_cons,List.cons_append]
 ·rw [if_neg h1,dif_neg h1,List.drop_of_length_le (by omega)];rfl
theorem BT {ts:List (List Nat)} {es:List Ev}:ts.map Ev.bytes++ .bend::es=lQ ts 0::s9 ts es 0:=by
 unfold s9 lQ
 by_cases h1:0<ts.length
 ·rw [if_pos h1,dif_pos h1]
  cases ts with
  |nil=>simp at h1
  |cons t ts=>rfl
 ·rw [if_neg h1,dif_neg h1,List.eq_nil_of_length_eq_zero (l:=ts) (by omega)];rfl
end
end Go.Prs
namespace Go.Proofs.YtgglghjnakclmaaGreat
open Go Go.Vc Go.Srt Go.Inc Go.Sym Go.Tab Go.Hd Go.Bw Go.aK Go.ao Go.Crc Go.Stm Go.Prs
section
variable {E w:World} {F:List HP} {b pr:Nat} {c:List Nat} {s:PS} {u:Nat}
set_option maxRecDepth 20000
theorem iW {e:Ev} {s':PS} {u':Nat} {K:gA→World→Prop} (h:Hp E w (aS b s::Rd ⟨pr,0,none⟩ c u true::F)) (hp:cQ true c s u=(some e,s',u'))
  (hK: ∀sl w',Hp E w' (OB sl (jl (some e))::aS b s'::Rd ⟨pr,0,none⟩ c u' true::F)→K (fk (some e) sl) w'):
  Cl Tryz.prog [jx] ax ⟨[.pointer (some ⟨b,0,none⟩),.pointer (some ⟨pr,0,none⟩)]⟩ w K:=by
 refine zi h fun sl w _ h=> ?_
 rw [hp] at h⊢
 exact hK sl w h
abbrev JB (b:Nat) (e:Ev) (sl:Sl):HP:=ao b (.cells ⟨gE (e,sl)⟩ 29 (0,0))
theorem p9 {n:Int} {ps:List (Sl×List Nat)} {sp:Sl} {K:Bool→World→Prop} (h:Hp E w F) (hs:ag F (fS sp ps)) (hcaps: ∀x∈ps,x.1.len≤x.1.cap) (hb: ∀x∈ps,∀y∈x.2,y<256) (hK: ∀w',Hp E w' F→K true w'):
  Cl Tryz.prog [kB] eH ⟨[.int .i64 n,.slice sp.base sp.len sp.cap]⟩ w K:=by
 refine oU.ok _ _ _ _ ?_
 refine bg.CR (fun w=>Hp E w F∧1≤n∧n≤65536∧ps.length≤20∧(ps.map Prod.snd).flatten.length≤150) (fun w ⟨h,hn1,hn2,h20,h150⟩=> ?_) fun r' hr'=> ?_
 ·obtain ⟨N,rfl⟩: ∃N:Nat,n=(N:Int):=⟨n.toNat,by omega⟩
  have hN1:1≤N:=by omega
  have hN2:N≤65536:=by omega
  have hp:=Dq hcaps h20 h150
  have hbf:=Ho hb
  refine Af h hN1 hN2 hs hp hb (by omega) fun s13 w h=> ?_
  have hfew:=qu hN1 (ps.map Prod.snd)
  have hst:=Ai hN1 hN2 hbf
  have hstb:=HR hN1 hbf
  obtain ⟨es,he1,he2⟩:=Dw (L:=dF) (ended:=true) Iv hN1 hN2 hbf
  rw [←Gl hstb] at he2
  have hcok:=iO hN1 hbf
  have hfe:(bA N (ps.map Prod.snd)).length≤150:=by omega
  have hst2:(nD dF N (ps.map Prod.snd)).length≤200000:=by omega
  generalize hC:nD dF N (ps.map Prod.snd)=C at h hst hstb he2 hst2
  refine tc h fun p16 w h=>rp h fun bp w h=> ?_
  obtain ⟨pr,_,_,rfl,_⟩:=Rd.fu (h.at 1)
  refine bg.CR (fun w=>Hp E w (aS bp (.head ⟨0,0⟩)::Rd ⟨pr,0,none⟩ [] 0 false::OB s13 C::F)) (fun w h=> ?_) fun r' hr'=>by
   rw [au];dsimp only
   exact aa.f rfl (aa.f rfl (aa.f rfl (hr' w h)))
  refine Nw.mk h fun b25 w h=> ?_
  refine pe (x:=s13) (d:=C) (h.at 2) (ag.at 1 ag.own) hstb (by rw [bN];simp;omega) fun w h=> ?_
  refine EK h fun w h=> ?_
  have hCe:(if false=true then ([]:List Nat) else []++C)=C:=rfl
  rw [hCe] at h
  obtain ⟨s1,u1,p1,l1,f1,_⟩:=iJ (c:=C) (Nat.zero_le _) (show dE (.head ⟨0,0⟩) from trivial) he2
  obtain ⟨f1,v1⟩:=f1 rfl
  refine iW (h.at 2) p1 fun sl w h=> ?_
  refine Nw.mk h fun b33 w h=> ?_
  (with_reducible refine ae.xw h rfl rfl (fun w h=> ?_))
  refine bg.CR (fun w=>Hp E w (aS bp s1::Rd ⟨pr,0,none⟩ C u1 true::OB s13 C::F)) (fun w h=> ?_) fun r' hr'=>by
   rw [au];dsimp only
   refine Ld.xb (b:=b33) (x:=(2:Int)) h rfl (aa.nf rfl (Ld.xb (b:=b33) (x:=(N:Int)) h rfl (aa.f (by simp) (hr' w ?_))))
   have h:=(h.no 0).no 0
   exact (h.no 2)
  refine tk h hs.cons.cons.cons hp hN1 hN2 (by omega) fun pcs s43 w hpc hcap hpw h=> ?_
  have hpl:pcs.length=(bA N (ps.map Prod.snd)).length:=by rw [←hpc,List.length_map]
  have hl43:pcs.length=s43.len:=by have:=h.bS;simpa using this
  obtain ⟨TL,hTL⟩: ∃TL,TL=(.tail (lD (ps.map Prod.snd).flatten):: [.fin]:List Ev):=⟨_,rfl⟩
  rw [if_pos rfl,←hTL] at f1
  refine ⟨fun i w=> ∃(k:Nat) (s:PS) (u:Nat) (es:List Ev),i=(k:Int)∧k≤pcs.length∧k9 ((bA N (ps.map Prod.snd)).drop k) es∧cP true C s u=es++TL∧u≤8*C.length∧dE s∧Hp E w (aS bp s::Rd ⟨pr,0,none⟩ C u true::aA 1 s43 (pcs.map fun x=> .slice x.1.base x.1.len x.1.cap)::OB s13 C::F),fun i _=>pcs.length - i.toNat,⟨0,s1,u1,es,rfl,Nat.zero_le _,he1,f1,l1,v1,(h.at 2).at 2⟩,?_⟩
  rintro i w ⟨k,s,u,es,rfl,hk,hev,hf,hu,hno,h⟩
  refine aa.dm (fun hlt=> ?_) (fun hge=> ?_)
  ·have hlt:k<pcs.length:=by omega
   have hkc:k<(bA N (ps.map Prod.snd)).length:=by omega
   refine bg.CR (fun w=> ∃(s:PS) (u:Nat) (es:List Ev),k9 ((bA N (ps.map Prod.snd)).drop (k+1)) es∧cP true C s u=es++TL∧u≤8*C.length∧dE s∧Hp E w (aS bp s::Rd ⟨pr,0,none⟩ C u true::aA 1 s43 (pcs.map fun x=> .slice x.1.base x.1.len x.1.cap)::OB s13 C::F)) (fun w ⟨s,u,es,a1,a2,a3,a4,h⟩=> ?_) fun r' hr'=> ?_
   ·rw [aj (by omega)]
    exact ⟨⟨k+1,s,u,es,by omega,by omega,a1,a2,a3,a4,h⟩,by first|omega|(dsimp only;omega)⟩
   rw [List.drop_eq_getElem_cons hkc] at hev
   have hx:pcs[k].2=(bA N (ps.map Prod.snd))[k]:=by
    have:=List.getElem_map Prod.snd (l:=pcs) (i:=k) (h:=by simpa using hlt)
    rw [←this]
    simp only [hpc]
   obtain ⟨c0,c1,c2⟩:=hcok _ (List.getElem_mem hkc)
   have hxw: ∀w,fS sp ps w→aG 1 pcs[k].1 ((bA N (ps.map Prod.snd))[k].map vB) w:=fun w hw=>by rw [←hx];exact hpw w hw _ (List.getElem_mem hlt)
   generalize hX:(bA N (ps.map Prod.snd))[k]=X at hev c0 c1 c2 hxw
   have hxl:X.length=pcs[k].1.len:=by have:=(hxw w (h.av hs.cons.cons.cons.cons)).1;simpa using this
   cases hev with
   | @cons x l ts es2 hpcs hr=>
    rw [List.cons_append,List.append_assoc,List.cons_append] at hf
    obtain ⟨s2,u2,p2,l2,f2,_⟩:=iJ hu hno hf
    obtain ⟨f2,v2⟩:=f2 rfl
    refine iW h p2 fun sl w h=> ?_
    refine Nw.mk h fun b52 w h=> ?_
    (with_reducible refine ae.xw h rfl rfl (fun w h=> ?_))
    refine aI.rd (h.av (ag.at 4 ag.own)) (by omega) (by omega) fun q _ hq=> ?_
    refine Ld.sc (s:= .sl) pcs[k].1 (by rw [hq];simp [Sc.enc]) ?_
    refine oR h ((hs.imp hxw).cons.cons.cons.cons.cons.cons) (by omega) fun s57 w h=> ?_
    have hlen:(bf X.reverse).length=X.length:=by rw [dP,List.length_reverse]
    have hl57:=OB.len h
    have htl:=hpcs.len
    refine bg.CR (fun w=>Hp E w (aS bp s2::Rd ⟨pr,0,none⟩ C u2 true::OB s57 (bf X.reverse)::aA 1 s43 (pcs.map fun x=> .slice x.1.base x.1.len x.1.cap)::OB s13 C::F)) (fun w h=> ?_) fun r'' hr''=> ?_
    ·rw [BT] at f2
     obtain ⟨s3,u3,p3,l3,f3,_⟩:=iJ l2 v2 f2
     obtain ⟨f3,v3⟩:=f3 yA
     refine iW h p3 fun sl3 w h=> ?_
     refine Nw.mk h fun b73 w h=> ?_
     (with_reducible refine ae.xw h rfl rfl (fun w h=> ?_))
     have hfl:=hpcs.flat
     refine ⟨fun got k y w=> ∃(j bb:Nat) (sl:Sl) (s:PS) (u:Nat),k=(j:Int)∧j≤ts.length∧y=⟨bb,0,none⟩∧cP true C s u=s9 ts (es2++TL) j∧u≤8*C.length∧dE s∧Hp E w (JB bb (lQ ts j) sl::OB sl (jl (some (lQ ts j)))::OB got (ts.take j).flatten::aS bp s::Rd ⟨pr,0,none⟩ C u true::OB s57 (bf X.reverse)::aA 1 s43 (pcs.map fun x=> .slice x.1.base x.1.len x.1.cap)::OB s13 C::F),fun _ k _ _=>ts.length+1 - k.toNat,⟨0,b73,sl3,s3,u3,rfl,Nat.zero_le _,rfl,f3,l3,v3,((h.aW 1).at 2).at 2⟩,?_⟩
     rintro got _ _ w ⟨j,bb,sl,s,u,rfl,hj,rfl,hf,hu,hno,h⟩
     by_cases hjl:j<ts.length
     ·have hE:lQ ts j= .bytes ts[j]:=dif_pos hjl
      rw [hE] at h
      have hb1:ts[j].length≤65536:=by
       have:=(List.sublist_flatten_of_mem (List.getElem_mem hjl)).length_le
       rw [hfl] at this
       omega
      have hb2:(ts.take j).flatten.length≤65536:=by
       have:=BV ts j
       rw [hfl] at this
       omega
      refine Ld.xb (b:=bb) (x:=(4:Int)) h rfl (aa.nt (by decide) ?_)
      rw [au];dsimp only
      rw [au];dsimp only
      rw [au];dsimp only
      rw [aj (by omega)]
      refine Ld.xb (b:=bb) (x:=(4:Int)) h rfl (aa.nf rfl (aa.df (by omega) ?_))
      refine Ld.xb (b:=bb) (x:=sl) h rfl ?_
      have ht:Hp E w (OB sl ts[j]::_):=h.at 1
      refine ow (h.at 2) (ag.at 1 (show ag (OB sl ts[j]::_) (aG 1 sl (ts[j].map vB)) from ag.own)) (by omega) (by omega) fun s91 w h=> ?_
      refine Ld.xt (b:=bb) (x:=fk (some (.bytes ts[j])) sl) h rfl (Nw.mk h fun b97 w h=> ?_)
      (with_reducible refine ae.xw h rfl rfl (fun w h=> ?_))
      rw [BX hjl] at hf
      obtain ⟨s4,u4,p4,l4,f4,_⟩:=iJ hu hno hf
      obtain ⟨f4,v4⟩:=f4 yA
      refine iW ((h.at 5).at 5) p4 fun sl4 w h=> ?_
      (with_reducible refine ae.xw h rfl rfl (fun w h=> ?_))
      have e1:(ts.take (j+1)).flatten=(ts.take j).flatten++ts[j]:=by rw [List.take_add_one,List.getElem?_eq_getElem hjl,List.flatten_append];simp
      refine ⟨⟨j+1,b97,sl4,s4,u4,by omega,by omega,rfl,f4,l4,v4,?_⟩,by first|omega|(dsimp only;omega)⟩
      rw [e1]
      have h:=(h.no 5).no 5
      exact ((((h.at 2).at 2).at 4).at 3).at 4
     ·have hj2:j=ts.length:=by omega
      subst hj2
      have hE:lQ ts ts.length= .bend:=dif_neg hjl
      rw [hE,List.take_of_length_le (Nat.le_refl _),hfl] at h
      refine Ld.xb (b:=bb) (x:=(5:Int)) h rfl (aa.nf rfl ?_)
      refine EL (h.av (ag.at 2 ag.own)) (EL (h.av (ag.at 5 ag.own)) (aa.f (by rw [J8];rfl) (hr' w ⟨s,u,es2,hr,?_,hu,hno,?_⟩)))
      ·rw [hf];exact if_neg hjl
      ·exact (((h.no 0).no 0).no 0).no 2
    ·rw [au];dsimp only
     refine ah.mk h fun w h=> ?_
     refine Ld.xb (b:=b52) (x:=(3:Int)) h rfl (aa.nf rfl (Ld.xb (b:=b52) (x:=(X.length:Int)) h rfl ?_))
     refine aI.rd (h.av (ag.at 5 ag.own)) (by omega) (by omega) fun q _ hq=> ?_
     refine Ld.sc (s:= .sl) pcs[k].1 (by rw [hq];simp [Sc.enc]) (aa.nf (by omega) (Ld.xb (b:=b52) (x:=(dZ X.reverse:Int)) h rfl (aa.f (by simp) (hr'' w ?_))))
     have h:=(h.no 1).no 1
     exact (h.at 2).at 2
  ·have hk2:k=pcs.length:=by omega
   subst hk2
   rw [List.drop_of_length_le (by omega)] at hev
   cases hev
   rw [List.nil_append,hTL] at hf
   obtain ⟨s2,u2,p2,l2,f2,_⟩:=iJ hu hno hf
   obtain ⟨f2,v2⟩:=f2 rfl
   obtain ⟨s3,u3,p3,l3,_,e3,H9⟩:=iJ l2 v2 f2
   have p4:=DZ (ended:=true) (c:=C) (u:=u3) (H9 rfl)
   refine iW h p2 fun sa w h=> ?_
   refine iW (h.no 0) p3 fun sb w h=> ?_
   refine iW (h.no 0) p4 fun sc w h=> ?_
   refine Nw.mk h fun b1 w h=>Nw.mk h fun b2 w h=>Nw.mk h fun b3 w h=> ?_
   (with_reducible refine ae.xw h rfl rfl (fun w h=> ?_))
   (with_reducible refine ae.xw h rfl rfl (fun w h=> ?_))
   (with_reducible refine ae.xw h rfl rfl (fun w h=> ?_))
   refine Ld.xb (b:=b1) (x:=(6:Int)) h rfl (aa.t rfl (Ld.xb (b:=b2) (x:=(7:Int)) h rfl (aa.t rfl (Ld.xb (b:=b3) (x:=(7:Int)) h rfl (aa.t rfl ?_)))))
   refine r0 (h.at 5) fun w h _=> ?_
   rw [e3 rfl]
   refine aa.t (by simp) (tE h fun w h=>hK w h.tl)
 ·rw [au];dsimp only
  have wk:Cl Tryz.prog [kB] eY ⟨[]⟩ w K:=tE h hK
  refine AT (h.av hs) fun g hg=> ?_
  cases g with
  |true=>exact aa.t rfl (aa.t rfl wk)
  |false=>
   obtain ⟨h20,h150⟩:=hg rfl
   exact aa.f rfl (aa.dm (fun _=>aa.t rfl wk) (fun g1=>aa.dm (fun _=>wk) (fun g2=>hr' w ⟨h,by omega,by omega,h20,h150⟩)))
end
end Go.Proofs.YtgglghjnakclmaaGreat
set_option maxRecDepth 20000
namespace Go.Vc
open Go Go.RowKit Go.ChangeShapes Go.WideShapes
section
variable {H:Type} {enc:TypeId×Value→H} {P:Program} {W:World}
def dp (enc:TypeId×Value→H) (P:Program) (W:World) (t:TypeId) (cs:List Value):Prop:= ∃fuel x,DataW.trod enc P W 0 (fun _=>true) true fuel t cs=some x
theorem dp.int {t:TypeId} {k:IntKind} {cs:List Value} (h:dp enc P W t cs) (ht:P.underlying t=some (.int k)): ∃n,cs= [.int k n]∧(Lit.int k n).wf=true:=by
 obtain ⟨m,x,h⟩:=h
 obtain ⟨n,h1,_,h2⟩:=DataW.trod_int ht h
 exact ⟨n,h1,h2⟩
theorem dp.bool {t:TypeId} {cs:List Value} (h:dp enc P W t cs) (ht:P.underlying t=some .bool): ∃b,cs= [.bool b]:=by
 obtain ⟨m,x,h⟩:=h
 obtain ⟨n,h1,_⟩:=DataW.trod_bool ht h
 exact ⟨n,h1⟩
theorem dp.string {t:TypeId} {cs:List Value} (h:dp enc P W t cs) (ht:P.underlying t=some .string): ∃s:ByteArray,cs= [.string s]∧s.size≤maxLen:=by
 obtain ⟨m,x,h⟩:=h
 obtain ⟨n,h1,_,h2⟩:=DataW.trod_string ht h
 exact ⟨n,h1,h2⟩
theorem tD {a:Addr} {n:Nat} {cs:List Value} (h:W.cells? 0 a n=some cs):cs.length=n∧∀i (hi:i<cs.length),W.cell? (a.add i)=some cs[i]:=by
 unfold World.cells? at h
 rw [if_pos (Nat.zero_le _)] at h
 have hl:cs.length=n:=by simpa using mapM_some_length h
 refine ⟨hl,fun i hi=> ?_⟩
 have:=mapM_some_get h i i (List.getElem?_range (by omega))
 rw [this,List.getElem?_eq_getElem hi]
theorem pQ {α:Type} {sz:Nat}: ∀{xs:List (List α)} (_: ∀x∈xs,x.length=sz) (i j:Nat) (hi:i<xs.length) (_:j<sz),xs.flatten[i*sz+j]? =xs[i][j]?
 |x::xs,h,0,j,_,hj=>by
  have hx:=h x (by simp)
  rw [List.flatten_cons,List.getElem?_append_left (by omega),Nat.zero_mul,Nat.zero_add];rfl
 |x::xs,h,i+1,j,hi,hj=>by
  have hx:=h x (by simp)
  rw [List.flatten_cons,List.getElem?_append_right (by rw [hx,Nat.succ_mul];omega),hx,show (i+1)*sz+j - sz=i*sz+j by rw [Nat.succ_mul];omega,
   pQ (fun y hy=>h y (List.mem_cons_of_mem _ hy)) i j (by simpa using hi) hj]
  rfl
theorem qq {α:Type} {sz:Nat}: ∀{xs:List (List α)} (_: ∀x∈xs,x.length=sz),xs.flatten.length=xs.length*sz
 | [],_=>by simp
 |x::xs,h=>by
  rw [List.flatten_cons,List.length_append,h x (by simp),qq (fun y hy=>h y (List.mem_cons_of_mem _ hy)),List.length_cons,Nat.succ_mul];omega
theorem dp.slice {t e:TypeId} {cs:List Value} (h:dp enc P W t cs) (ht:P.underlying t=some (.slice e)):
  ∃(s:Sl) (xs:List (List Value)),cs= [.slice s.base s.len s.cap]∧s.len≤s.cap∧s.cap≤maxLen∧xs.length=s.len∧(∀x∈xs,dp enc P W e x)∧(∀x∈xs,x.length=P.cellsOf e)∧aG (P.cellsOf e) s xs.flatten W:=by
 obtain ⟨m,x,h⟩:=h
 rcases DataW.trod_slice ht h with ⟨h1,_⟩|⟨a,len,cap,elems,rest,n,rfl,h1,_,_,hlc,hcm,hel,hget,_⟩
 ·exact ⟨⟨none,0,0⟩,[],h1,Nat.le_refl _,Nat.zero_le _,rfl,by simp,by simp,by simp,by simp⟩
 ·have hx: ∀i,i<len→∃cs,W.cells? 0 (a.add (i*P.cellsOf e)) (P.cellsOf e)=some cs∧dp enc P W e cs:=by
   intro i hi
   have:=hget i hi
   rw [List.getElem?_eq_getElem (by omega)] at this
   obtain ⟨cs,h2,h3⟩:=Option.bind_eq_some_iff.1 this
   exact ⟨cs,h2,n,_,h3⟩
  have key: ∀k,k≤len→∃xs:List (List Value),xs.length=k∧∀i (hi:i<xs.length),W.cells? 0 (a.add (i*P.cellsOf e)) (P.cellsOf e)=some xs[i]∧dp enc P W e xs[i]:=by
   intro k
   induction k with
   |zero=>exact fun _=>⟨[],rfl,fun i hi=>by simp at hi⟩
   |succ k ih=>
    intro hk
    obtain ⟨xs,hl,hxs⟩:=ih (by omega)
    obtain ⟨cs,h2,h3⟩:=hx k (by omega)
    refine ⟨xs++ [cs],by simp [hl],fun i hi=> ?_⟩
    by_cases hik:i<xs.length
    ·rw [List.getElem_append_left hik];exact hxs i hik
    ·have:i=k:=by simp [hl] at hi;omega
     subst this
     rw [List.getElem_append_right (by omega)]
     simp only [hl,Nat.sub_self,List.getElem_cons_zero]
     exact ⟨h2,h3⟩
  obtain ⟨xs,hl,hxs⟩:=key len (Nat.le_refl _)
  have hsz: ∀x∈xs,x.length=P.cellsOf e:=by
   intro x hx
   obtain ⟨i,hi,rfl⟩:=List.getElem_of_mem hx
   exact (tD (hxs i hi).1).1
  refine ⟨⟨some a,len,cap⟩,xs,h1,hlc,hcm,hl,fun x hx=> ?_,hsz,?_,fun i hi=>⟨a,rfl,?_⟩⟩
  ·obtain ⟨i,hi,rfl⟩:=List.getElem_of_mem hx
   exact (hxs i hi).2
  ·rw [qq hsz,hl]
  ·rw [qq hsz,hl] at hi
   have hz:0<P.cellsOf e:=by
    rcases Nat.eq_zero_or_pos (P.cellsOf e) with h0|h0
    ·rw [h0] at hi;simp at hi
    ·exact h0
   have e1:i/P.cellsOf e*P.cellsOf e+i % P.cellsOf e=i:=by rw [Nat.mul_comm];exact Nat.div_add_mod i _
   have hq:i/P.cellsOf e<xs.length:=by rw [hl];exact (Nat.div_lt_iff_lt_mul hz).2 hi
   have hr:=Nat.mod_lt i hz
   obtain ⟨c1,c2⟩:=tD (hxs _ hq).1
   have c3:=c2 (i % P.cellsOf e) (by omega)
   have c4:=pQ hsz _ _ hq hr
   have c5:(a.add (i/P.cellsOf e*P.cellsOf e)).add (i % P.cellsOf e)=a.add i:=by
    conv=>rhs;rw [←e1]
    unfold Addr.add
    by_cases e1:i/P.cellsOf e*P.cellsOf e=0<;>by_cases e2:i % P.cellsOf e=0<;>simp [e1,e2,Nat.add_assoc]
   rw [c5] at c3
   rw [c3,←List.getElem?_eq_getElem,←c4]
   simp only [e1]
   exact List.getElem?_eq_getElem _
theorem dp.struct {t:TypeId} {fs:Array Field} {cs:List Value} (h:dp enc P W t cs) (ht:P.underlying t=some (.struct fs)):cs.length=P.cellsOf t∧∀(i:Nat) (f:Field),fs[i]? =some f→dp enc P W f.type ((cs.drop f.offset).take (P.cellsOf f.type)):=by
 obtain ⟨m,x,h⟩:=h
 obtain ⟨xs,n,_,_,h2,h3,h4⟩:=DataW.trod_struct ht h
 refine ⟨h2,fun i f hf=> ?_⟩
 have hi:i<fs.size:=by
  rcases Nat.lt_or_ge i fs.size with hh|hh
  ·exact hh
  ·rw [Array.getElem?_eq_none hh] at hf;cases hf
 have:=h4 i f hf
 rw [List.getElem?_eq_getElem (by omega)] at this
 exact ⟨n,_,this⟩
def Ci (P:Program) (t:TypeId) (i:Nat) (ft:TypeId) (off n:Nat):Bool:=match P.underlying t with
 |some (.struct fs)=>match fs[i]? with
  |some f=>f.type==ft&&f.offset==off&&P.cellsOf ft==n
  |none=>false
 |_=>false
theorem dp.field {t:TypeId} {cs:List Value} (h:dp enc P W t cs) (i:Nat) (ft:TypeId) (off n:Nat) (hf:Ci P t i ft off n=true):dp enc P W ft ((cs.drop off).take n):=by
 unfold Ci at hf
 split at hf
 ·rename_i fs ht
  split at hf
  ·rename_i f hfi
   simp only [Bool.and_eq_true,beq_iff_eq] at hf
   obtain ⟨⟨rfl,rfl⟩,rfl⟩:=hf
   exact (h.struct ht).2 i f hfi
  ·cases hf
 ·cases hf
theorem dp.array {t e:TypeId} {n:Nat} {cs:List Value} (h:dp enc P W t cs) (ht:P.underlying t=some (.array n e)):cs.length=P.cellsOf t∧∀i,i<n→dp enc P W e ((cs.drop (i*P.cellsOf e)).take (P.cellsOf e)):=by
 obtain ⟨m,x,h⟩:=h
 obtain ⟨xs,n',_,_,h2,h3,h4⟩:=DataW.trod_array ht h
 refine ⟨h2,fun i hi=> ?_⟩
 have:=h4 i hi
 rw [List.getElem?_eq_getElem (by omega)] at this
 exact ⟨n',_,this⟩
theorem pg {α β:Type} {g:α→β} {Good:α→Prop}: ∀{xs:List β} (_: ∀x∈xs,∃a,x=g a∧Good a),∃l:List α,xs=l.map g∧∀a∈l,Good a
 | [],_=>⟨[],rfl,by simp⟩
 |x::xs,h=>by
  obtain ⟨a,rfl,ha⟩:=h x (by simp)
  obtain ⟨l,rfl,hl⟩:=pg (fun y hy=>h y (List.mem_cons_of_mem _ hy))
  exact ⟨a::l,rfl,by simpa using ⟨ha,hl⟩⟩
theorem lf {α β:Type} {g:α→β} (l:List α):(l.map fun a=> [g a]).flatten=l.map g:=by
 induction l with
 |nil=>rfl
 |cons a l ih=>simp [ih]
theorem wf_u8 {n:Int} (h:(Lit.int .u8 n).wf=true):0≤n∧n≤255:=by
 simp [Lit.wf,IntKind.min,IntKind.max,IntKind.signed,IntKind.bits] at h
 exact h
def mD (W:World) (s:Sl) (b:List Nat):Prop:=aG 1 s (b.map vB) W∧(∀y∈b,y<256)∧s.len≤s.cap∧s.cap≤maxLen
theorem dp.bytes {t e:TypeId} {cs:List Value} (h:dp enc P W t cs) (ht:P.underlying t=some (.slice e)) (he:P.underlying e=some (.int .u8)) (hc:P.cellsOf e=1): ∃s b,cs= [.slice s.base s.len s.cap]∧mD W s b:=by
 obtain ⟨s,xs,h1,h2,h3,h4,h5,h6,h7⟩:=h.slice ht
 obtain ⟨l,rfl,hl⟩:=pg (g:=fun y:Nat=> [vB y]) (Good:=fun y=>y<256) (xs:=xs) fun x hx=>by
  obtain ⟨n,rfl,hn⟩:=(h5 x hx).int he
  have:=wf_u8 hn
  obtain ⟨m,rfl⟩:=Int.eq_ofNat_of_zero_le this.1
  exact ⟨m,rfl,by omega⟩
 rw [lf,hc] at h7
 exact ⟨s,l,h1,h7,hl,h2,h3⟩
theorem dp.ints {t e:TypeId} {k:IntKind} {cs:List Value} (h:dp enc P W t cs) (ht:P.underlying t=some (.slice e)) (he:P.underlying e=some (.int k)) (hc:P.cellsOf e=1):
  ∃s,∃l:List Int,cs= [.slice s.base s.len s.cap]∧aG 1 s (l.map (.int k)) W∧(∀y∈l,(Lit.int k y).wf=true)∧s.len≤s.cap∧s.cap≤maxLen:=by
 obtain ⟨s,xs,h1,h2,h3,h4,h5,h6,h7⟩:=h.slice ht
 obtain ⟨l,rfl,hl⟩:=pg (g:=fun y:Int=> [Value.int k y]) (Good:=fun y=>(Lit.int k y).wf=true) (xs:=xs) fun x hx=>by
  obtain ⟨n,rfl,hn⟩:=(h5 x hx).int he
  exact ⟨n,rfl,hn⟩
 rw [lf,hc] at h7
 exact ⟨s,l,h1,h7,hl,h2,h3⟩
theorem dp.chunks {t e u:TypeId} {cs:List Value} (h:dp enc P W t cs) (ht:P.underlying t=some (.slice e)) (he:P.underlying e=some (.slice u)) (hu:P.underlying u=some (.int .u8)) (hc:P.cellsOf e=1) (hcu:P.cellsOf u=1):
  ∃s,∃l:List (Sl×List Nat),cs= [.slice s.base s.len s.cap]∧aG 1 s (l.map fun a=> .slice a.1.base a.1.len a.1.cap) W∧(∀a∈l,mD W a.1 a.2)∧s.len≤s.cap∧s.cap≤maxLen:=by
 obtain ⟨s,xs,h1,h2,h3,h4,h5,h6,h7⟩:=h.slice ht
 obtain ⟨l,rfl,hl⟩:=pg (g:=fun a:Sl×List Nat=> [Value.slice a.1.base a.1.len a.1.cap]) (Good:=fun a=>mD W a.1 a.2) (xs:=xs) fun x hx=>by
  obtain ⟨s,b,rfl,hb⟩:=(h5 x hx).bytes he hu hcu
  exact ⟨(s,b),rfl,hb⟩
 rw [lf,hc] at h7
 exact ⟨s,l,h1,h7,hl,h2,h3⟩
def Arg (enc:TypeId×Value→H) (P:Program) (W:World) (t:TypeId) (v:Value):Prop:=(∃base,Value.okWide P W .any base t v)∧dp enc P W t v.cells.toList
def Ax (enc:TypeId×Value→H) (P:Program) (W:World):List TypeId→List Value→Prop
 | [],vs=>vs= []
 |t::ts,vs=> ∃v vs',vs=v::vs'∧Arg enc P W t v∧Ax enc P W ts vs'
theorem Arg.one {t:TypeId} {v:Value} (h:Arg enc P W t v) (hv:v.cells.toList= [v]):dp enc P W t [v]:=by
 have:=h.2
 rwa [hv] at this
theorem Arg.slice {t e:TypeId} {v:Value} (h:Arg enc P W t v) (ht:P.underlying t=some (.slice e)):dp enc P W t [v]:=by
 obtain ⟨base,hb⟩:=h.1
 obtain ⟨a,l,c,rfl⟩:=okWide_slice ht hb
 exact h.one rfl
theorem Arg.bytes {t e:TypeId} {v:Value} (h:Arg enc P W t v) (ht:P.underlying t=some (.slice e)) (he:P.underlying e=some (.int .u8)) (hc:P.cellsOf e=1): ∃s b,v= .slice s.base s.len s.cap∧mD W s b:=by
 obtain ⟨s,b,h1,h2⟩:=(h.slice ht).bytes ht he hc
 exact ⟨s,b,by simpa using h1,h2⟩
theorem Arg.ints {t e:TypeId} {k:IntKind} {v:Value} (h:Arg enc P W t v) (ht:P.underlying t=some (.slice e)) (he:P.underlying e=some (.int k)) (hc:P.cellsOf e=1):
  ∃s,∃l:List Int,v= .slice s.base s.len s.cap∧aG 1 s (l.map (.int k)) W∧(∀y∈l,(Lit.int k y).wf=true)∧s.len≤s.cap∧s.cap≤maxLen:=by
 obtain ⟨s,l,h1,h2⟩:=(h.slice ht).ints ht he hc
 exact ⟨s,l,by simpa using h1,h2⟩
theorem Arg.chunks {t e u:TypeId} {v:Value} (h:Arg enc P W t v) (ht:P.underlying t=some (.slice e)) (he:P.underlying e=some (.slice u)) (hu:P.underlying u=some (.int .u8)) (hc:P.cellsOf e=1) (hcu:P.cellsOf u=1):
  ∃s,∃l:List (Sl×List Nat),v= .slice s.base s.len s.cap∧aG 1 s (l.map fun a=> .slice a.1.base a.1.len a.1.cap) W∧(∀a∈l,mD W a.1 a.2)∧s.len≤s.cap∧s.cap≤maxLen:=by
 obtain ⟨s,l,h1,h2⟩:=(h.slice ht).chunks ht he hu hc hcu
 exact ⟨s,l,by simpa using h1,h2⟩
theorem Arg.int {t:TypeId} {k:IntKind} {v:Value} (h:Arg enc P W t v) (ht:P.underlying t=some (.int k)): ∃n,v= .int k n∧(Lit.int k n).wf=true:=by
 obtain ⟨base,hb⟩:=h.1
 obtain ⟨n,rfl⟩:=okWide_int ht hb
 obtain ⟨m,h1,h2⟩:=(h.one rfl).int ht
 cases h1
 exact ⟨n,rfl,h2⟩
theorem Arg.string {t:TypeId} {v:Value} (h:Arg enc P W t v) (ht:P.underlying t=some .string): ∃s:ByteArray,v= .string s∧s.size≤maxLen:=by
 obtain ⟨base,hb⟩:=h.1
 obtain ⟨n,rfl⟩:=okWide_string ht hb
 obtain ⟨m,h1,h2⟩:=(h.one rfl).string ht
 cases h1
 exact ⟨n,rfl,h2⟩
theorem Arg.struct {t:TypeId} {fs:Array Field} {v:Value} (h:Arg enc P W t v) (ht:P.underlying t=some (.struct fs)): ∃cs,v= .agg cs∧dp enc P W t cs.toList:=by
 obtain ⟨base,hb⟩:=h.1
 obtain ⟨cs,rfl,_⟩:=okWide_struct ht hb
 exact ⟨cs,rfl,h.2⟩
theorem yC: ∀{ts:List TypeId} {vs:List Value} {ds:List (DataW H)} {ps:List MemPlace},DataW.TrodAll enc P W 0 (fun _=>true) true ts vs ds ps→(∀(j:Nat) t v,ts[j]? =some t→vs[j]? =some v→∃base,Value.okWide P W .any base t v)→Ax enc P W ts vs
 | [],[],[],_,_,_=>rfl
 |t::ts,v::vs,d::ds,ps,h,hv=>by
  obtain ⟨p,q,⟨fuel,h1⟩,h2,_⟩:=h
  exact ⟨v,vs,rfl,⟨hv 0 t v rfl rfl,fuel,_,h1⟩,yC h2 fun j t' v' a b=>hv (j+1) t' v' a b⟩
theorem pT: ∀{ts:List TypeId} {vs:List Value} {ds:List (DataW H)} {ps:List MemPlace},DataW.TrodAll enc P W 0 (fun _=>true) true ts vs ds ps→ds.length=ts.length
 | [],[],[],_,_=>rfl
 |_::_,_::_,_::_,_,h=>by
  obtain ⟨p,q,_,h2,_⟩:=h
  simp [pT h2]
theorem nN (hl:laidOutB P=true) {W':World} (hb:Below W.heap.size W W'): ∀{ts:List TypeId} {vs:List Value} {ds:List (DataW H)} {ps:List MemPlace},DataW.TrodAll enc P W 0 (fun _=>true) true ts vs ds ps→
  (∀t∈ts,P.readableRec t=true∧t<P.types.size)→∃qs,DataW.TrodAll enc P W' 0 (fun b=>decide (b<W.heap.size)) true ts vs ds qs
 | [],[],[],_,_,_=>⟨[],rfl⟩
 |t::ts,v::vs,d::ds,ps,h,hr=>by
  obtain ⟨p,q,h1,h2,_⟩:=h
  obtain ⟨qs,h3⟩:=nN hl hb h2 fun t ht=>hr t (List.mem_cons_of_mem _ ht)
  obtain ⟨ht1,ht2⟩:=hr t (by simp)
  have hlt: ∀x∈p,x.block<W.heap.size:=by obtain ⟨m,hm⟩:=h1;exact DataW.trod_lt m _ _ _ hm
  exact ⟨_,p,qs,Below.trod hl ht1 ht2 h1 hb hlt,h3,rfl⟩
theorem DU {C:Checked} {os:Os} {f:FuncId} {fn:Func} {s:ChangeSpec} {conds:List PathCond} {tb:TypeId}
  (own:ownKnob C.prog.godebug=none) (started:os.Started) (noInit:C.prog.inits.idxOf? f=none) (hfn:C.prog.funcs[f]? =some fn)
  (witness: ∃(w:World) (tape:Tape) (i:Input),w.os=os∧(w.forCall tape i).Shaped C.prog∧i.vars= []∧Input.okWide C.prog (w.forCall tape i) .any w.heap.size f i∧
   s.pre6 enc C.prog fn conds false (w.forCall tape i).memory i.args∧({}:Assume).holds C.prog (lone (Frame.enter C.prog f i.args .normal) [] (w.forCall tape i)))
  (hvars:s.vars= []) (hres:fn.resultTypes= #[tb]) (htb:C.prog.underlying tb=some .bool)
  (hspec: ∀ds:List (DataW H),ds.length=fn.params.toList.length→s.fn H ds={results:= [.lit (.bool true)],args:=ds})
  (laid:laidOutB C.prog=true) (hr:fn.params.toList.all (fun t=>C.prog.readableRec t&&decide (t<C.prog.types.size))=true)
  (contract: ∀(W:World) (args:Array Value) (ds:List (DataW H)),Ax enc C.prog W fn.params.toList args.toList→(DataW.weightsEach C.prog fn.params.toList ds).all (·≤reachBytes)=true→
   Cl C.prog [kB] f args W (fun b w'=>b=true∧Below W.heap.size W w')):
  ReturnsInHanded {} C os f .any (s.pre6 enc C.prog fn conds false) (s.post enc C.prog fn false true false false):=by
 refine returnsInHanded_of_change_sized own started noInit hfn witness ?_
 intro W base args ds gs before hval hW _ hz _
 have hW':=hW
 obtain ⟨p,q,hA,hV,rfl,hfz,hnd⟩:=hW
 rw [hvars] at hV
 obtain ⟨rfl,rfl⟩:=trodVars_none hV
 have hlen:=pT hA
 have hz':(DataW.weightsEach C.prog fn.params.toList ds).all (·≤reachBytes)=true:=by
  have e:s.plain.varTypes C.prog= []:=by
   simp [DataSpec.varTypes,ChangeSpec.plain,hvars]
  rw [e,List.append_nil,List.append_nil] at hz
  exact hz
 have hargs:=yC (vs:=args.toList) hA fun j t v ht hv=>⟨base,hval j t v (by simpa using ht) (by simpa using hv)⟩
 refine Calls.mono (contract W args ds hargs hz') fun e W' hp=> ?_
 cases e with
 |returned v=>
  obtain ⟨b,hv,hb,bel⟩:=Ki.cw (k:=kB) hp
  subst hb
  have hv:v= .bool true:=hv
  subst hv
  have hsp:=hspec ds hlen
  obtain ⟨qs,hq⟩:=nN laid bel hA fun t ht=>by
   have:=List.all_eq_true.1 hr t ht
   simpa using this
  refine ⟨_,rfl,ds,[],_,[],qs,[],hW',?_,?_,?_,bel.frame _,fun h=>by cases h⟩
  ·rw [List.append_nil,hsp,hres]
   exact trodAll_mk1 (shut_bool htb _)
  ·rw [List.append_nil,hsp];exact hq
  ·rw [hvars]
   have:(s.fn H (ds++ [])).vars= []:=by rw [List.append_nil,hsp]
   rw [this];rfl
 |_=>exact absurd hp (by intro h;exact h)
end
end Go.Vc
set_option maxRecDepth 20000
namespace Go.Vc
open Go Go.RowKit Go.ChangeShapes Go.WideShapes
section
variable {H:Type} {enc:TypeId×Value→H} {P:Program} {W:World}
theorem Arg.agg {t e:TypeId} {n:Nat} {v:Value} (h:Arg enc P W t v) (ht:P.underlying t=some (.array n e)): ∃cs,v= .agg cs∧dp enc P W t cs.toList:=by
 obtain ⟨base,hb⟩:=h.1
 simp only [Value.okWide,ht] at hb
 obtain ⟨cs,rfl,_⟩:=hb
 exact ⟨cs,rfl,h.2⟩
end
end Go.Vc
