/- Texts packed together by program; spaces struck by program. Conditions: as each theorem states. -/
import Derived.Carry
import Derived.OpenShut
import Derived.ProofKit
import Derived.SizedLaws
import Derived.Test.YtgglghjnakclmaaGreatQhe
set_option linter.unusedSimpArgs false
set_option linter.unusedVariables false
set_option maxRecDepth 20000
namespace Go.Proofs.YtgglghjnakclmaaGreat
open Go Go.Vc Go.Hs
section
variable {E w:World} {F:List HP}
set_option maxRecDepth 20000 in
theorem A4 {t:List Int} {K:Bool→World→Prop} (h:Hp E w F) (ht:t.length=258) (hK: ∀w',Hp E w' F→K (bM t) w'):Cl Tryz.prog [kB] ko ⟨[.agg (Vc.aT t)]⟩ w K:=by
 refine Fp.ok _ _ _ ?_
 refine Nw.mk h fun b3 w1 h1=> ?_
 refine ⟨fun i w'=> ∃k:Nat,i=(k:Int)∧k≤258∧(∀j,j<k→0≤t.getD j 0∧t.getD j 0≤2147483647)∧Hp E w' (af b3 (.cells (Vc.aT t) 215 (0,0))::F),fun i _=>258 - i.toNat,⟨0,rfl,by omega,fun j hj=>by omega,h1⟩,?_⟩
 rintro i w2 ⟨k,rfl,hk,hg,hh⟩
 have bad: ∀hlt:k<258,¬(0≤t.getD k 0∧t.getD k 0≤2147483647)→K false w2:=fun hlt hb=>by
  have:=hK w2 hh.drop
  rwa [MX (by omega) hb] at this
 refine aa.mk (fun hlt=> ?_) (fun hge=> ?_)
 ·have hlt:k<258:=by have:=of_decide_eq_true hlt;omega
  refine au.aT hh rfl ht hlt (aa.mk (fun h0=>bad hlt (by have:=of_decide_eq_true h0;omega)) (fun h0=> ?_))
  refine au.aT hh rfl ht hlt (aa.mk (fun h9=>bad hlt (by have:=of_decide_eq_true h9;omega)) (fun h9=> ?_))
  have h0:=of_decide_eq_false h0
  have h9:=of_decide_eq_false h9
  rw [ab (by omega)]
  refine ⟨⟨k+1,by omega,by omega,fun j hj=> ?_,hh⟩,by dsimp only;omega⟩
  by_cases e:j=k
  ·subst e;omega
  ·exact hg j (by omega)
 ·have hge:k=258:=by have:=of_decide_eq_false hge;omega
  subst hge
  have:=hK w2 hh.drop
  rwa [tk.2 fun i hi=>hg i (by omega)] at this
set_option maxRecDepth 20000 in
theorem PJ {t zs:List Int} {s:Sl} {K:Array Value→Int→World→Prop} (h:Hp E w F) (ht:t.length=258) (hs:ad F (aH 1 s (zs.map vI))) (hn:zs.length≤du)
  (hK: ∀w',Hp E w' F→K (Vc.aT ((g9 t zs).getD t)) (Uy (g9 t zs)) w'):Cl Tryz.prog [.arr 258,kI] rE ⟨[.agg (Vc.aT t),.slice s.base s.len s.cap]⟩ w K:=by
 refine Kk.ok _ _ _ _ ?_
 rw [Vc.Ax]
 have hz:(Vc.aT (List.replicate 258 0)).size=258:=by rw [Vc.eZ];exact List.length_replicate
 have hT: ∀{u:List Int},u.length=258→(Vc.aT u).size=258:=fun hu=>by rw [Vc.eZ,hu]
 have hsl:=(h.aj hs).1
 simp only [List.length_map,Nat.mul_one] at hsl
 rw [aX] at hn
 have hKn:g9 t zs=none→∀w',Hp E w' F→K (Vc.aT t) 2 w':=fun e w' h'=>by have:=hK w' h';rwa [e] at this
 refine Nw.mk h fun b4 w1 h1=>Nw.mk h1 fun b6 w2 h2=>Ld.arr h2.p1 (hT ht) (A4 h2 ht fun w3 h3=> ?_)
 refine aa.mk (fun hv=> ?_) (fun hv=> ?_)
 ·have hv:bM t=false:=by simpa using hv
  exact Ld.arr h3.p1 (hT ht) (ak.az h3 hz (hT ht) Vc.js fun w4 h4=>Ld.arr h4 (hT ht) (hKn (EM hv) w4 h4.drop.drop))
 have hv:bM t=true:=by simpa using hv
 refine Ld.arr h3.p1 (hT ht) (Nw.mk h3 fun b15 w4 h4=>ak.az h4 hz (hT ht) Vc.js fun w5 h5=> ?_)
 refine ⟨fun i w'=> ∃k:Nat,i=(k:Int)∧k≤zs.length∧(zs.take k).all uc=true∧Hp E w' (af b15 (.cells (Vc.aT (je t (zs.take k))) 215 (0,0))::af b6 (.cells (Vc.aT (List.replicate 258 0)) 215 (0,0))::af b4 (.cells (Vc.aT t) 215 (0,0))::F),fun i _=>zs.length - i.toNat,⟨0,rfl,by omega,rfl,h5⟩,?_⟩
 rintro i w6 ⟨k,rfl,hk,hg,hh⟩
 have bad:g9 t zs=none→Ld (.arr 258) ⟨b4,0,none⟩ w6 fun x30=>ak 258 ⟨b6,0,none⟩ x30 w6 fun w31=>Ld (.arr 258) ⟨b6,0,none⟩ w31 fun res=>K res 2 w31:=fun e=>
  Ld.arr hh.p2 (hT ht) (ak.az hh.p1 hz (hT ht) Vc.js fun w7 h7=>Ld.arr h7 (hT ht) (hKn e w7 h7.drop.drop.drop))
 have hcl:(je t (zs.take k)).length=258:=by rw [vX,ht]
 have hSl:ad (af b15 (.cells (Vc.aT (je t (zs.take k))) 215 (0,0))::af b6 (.cells (Vc.aT (List.replicate 258 0)) 215 (0,0))::af b4 (.cells (Vc.aT t) 215 (0,0))::F) (aH 1 s (zs.map vI)):=ad.cons (ad.cons (ad.cons hs))
 refine aa.mk (fun hlt=> ?_) (fun hge=> ?_)
 ·have hlt:k<zs.length:=by have:=of_decide_eq_true hlt;omega
  refine ay.nI (hh.aj hSl) rfl hlt (aa.mk (fun hb=>bad (Du hlt ?_)) (fun h0=> ?_))
  ·have:=of_decide_eq_true hb
   rw [Bool.eq_false_iff,ne_eq,oP];omega
  refine ay.nI (hh.aj hSl) rfl hlt (aa.mk (fun hb=>bad (Du hlt ?_)) (fun h1=> ?_))
  ·have:=of_decide_eq_true hb
   rw [Bool.eq_false_iff,ne_eq,oP];omega
  have h0:=of_decide_eq_false h0
  have h1:=of_decide_eq_false h1
  have hb:uc (zs.getD k 0)=true:=oP.2 (by omega)
  have hvz:=tk.1 hv (zs.getD k 0).toNat (by omega)
  have hc:=Ak hg ht (zs.getD k 0).toNat
  have hcc:=List.count_le_length (a:=(((zs.getD k 0).toNat:Nat):Int)) (l:=zs.take k)
  rw [List.length_take] at hcc
  refine ay.nI (hh.aj hSl) rfl hlt (au.aT hh (j:=(zs.getD k 0).toNat) (by omega) hcl (by omega) ?_)
  rw [ab (x:=(je t (zs.take k)).getD (zs.getD k 0).toNat 0+1) (by omega),ab (by omega)]
  refine au.IH hh (j:=(zs.getD k 0).toNat) (by omega) hcl (by omega) fun w7 h7=>⟨⟨k+1,by omega,by omega,?_,?_⟩,by dsimp only;omega⟩
  ·rw [zG hlt,List.all_append,hg,List.all_cons,hb];rfl
  ·rw [zG hlt,Nt]
   exact h7
 ·have hge:k=zs.length:=by have:=of_decide_eq_false hge;omega
  subst hge
  rw [List.take_length] at hg hh hcl
  refine Ld.arr hh (hT hcl) (A4 hh hcl fun w7 h7=>aa.mk (fun hb=> ?_) (fun hb=> ?_))
  ·have hb:bM (je t zs)=false:=by simpa using hb
   exact Ld.arr h7.p2 (hT ht) (ak.az h7.p1 hz (hT ht) Vc.js fun w8 h8=>Ld.arr h8 (hT ht) (hKn (MN hb) w8 h8.drop.drop.drop))
  ·have hb:bM (je t zs)=true:=by simpa using hb
   refine Ld.arr h7 (hT hcl) (ak.az h7.p1 hz (hT hcl) Vc.js fun w8 h8=>Ld.arr h8 (hT hcl) ?_)
   have:=hK w8 h8.drop.drop.drop
   rwa [E1 hv hg hb] at this
theorem Nm (zs:List Int):((g9 gx zs).getD gx).length=258:=by
 cases ha:g9 gx zs with
 |none=>exact qR
 |some u=>
  obtain ⟨_,_,rfl,_⟩:=K2 ha
  show (je gx zs).length=258
  rw [vX,qR]
set_option maxRecDepth 20000 in
theorem Sv {zs:List Int} {s:Sl} {K:Array Value→Int→World→Prop} (h:Hp E w F) (hs:ad F (aH 1 s (zs.map vI))) (hn:zs.length≤du)
  (hK: ∀w',Hp E w' F→K (Vc.aT ((g9 gx zs).getD gx)) (Uy (g9 gx zs)) w'):Cl Tryz.prog [.arr 258,kI] tF ⟨[.slice s.base s.len s.cap]⟩ w K:=by
 refine Nz.ok _ _ _ ?_
 rw [Vc.Ax]
 have hl:=Nm zs
 refine Nw.mk h fun b3 w1 h1=>Mu (PJ h1 qR (ad.cons hs) hn fun w2 h2=>ak.az h2 (by rw [Vc.eZ];exact List.length_replicate) (by rw [Vc.eZ,hl]) Vc.js fun w3 h3=>Ld.arr h3 (by rw [Vc.eZ,hl]) (hK w3 h3.drop))
end
end Go.Proofs.YtgglghjnakclmaaGreat
namespace Go.Proofs.YtgglghjnakclmaaGreat
open Go Go.Vc
set_option maxRecDepth 100000
theorem Ge.ok (a:(Array Value)) (R:(Array Value)→Int→World→Prop) w (h:
 Nw 104 a w fun c b=>
 Nw 237 ⟨List.replicate 258 (.int .u32 0)⟩ b fun e d=>
 Nw 237 ⟨List.replicate 258 (.int .u32 0)⟩ d fun g f=>
 Ld (.arr 258) ⟨c,0,none⟩ f fun h=>
 Cl Pg [kB] ky ⟨[(.agg h)]⟩ f fun (j:Bool) i=>
 aa (!j)
 (Ld (.arr 258) ⟨g,0,none⟩ i fun k=>
 ak 258 ⟨e,0,none⟩ k i fun l=>
 Ld (.arr 258) ⟨e,0,none⟩ l fun m=>
 R m 2 l)
 (Ld (.arr 258) ⟨c,0,none⟩ i fun n=>
 Cl Pg [kS] ob ⟨[(.agg n)]⟩ i fun (p:Sl) o=>
 ee 1 o fun q r (s:Int) t=>
 aa (decide (s<(p.len:Int)))
 (ay p (i64 (s - 1)) 1 fun u=>
 Ld kI u t fun (v:Int)=>
 au ⟨g,0,none⟩ 258 v 1 fun x=>
 Ld (ao .u32) x t fun (y:Int)=>
 ay p (i64 (s - 1)) 1 fun z=>
 Ld kI z t fun (a1:Int)=>
 au ⟨c,0,none⟩ 258 a1 1 fun b1=>
 Ld (ao .u8) b1 t fun (c1:Int)=>
 cp (u32 (y+1)) c1 t fun d1 e1 (f1:Int) (g1:Int) h1=>
 ay p s 1 fun i1=>
 Ld kI i1 h1 fun (j1:Int)=>
 au ⟨c,0,none⟩ 258 j1 1 fun k1=>
 Ld (ao .u8) k1 h1 fun (l1:Int)=>
 aa (decide (g1<l1))
 (d1 (u32 ((2:Int)*f1)) (u8 (g1+1)) h1∧e1 (u32 ((2:Int)*f1)) (u8 (g1+1)) h1<e1 f1 g1 h1)
 (ay p s 1 fun m1=>
 Ld kI m1 h1 fun (n1:Int)=>
 au ⟨g,0,none⟩ 258 n1 1 fun o1=>
 St o1 (.int .u32 f1) h1 fun p1=>
 q (i64 (s+1)) p1∧r (i64 (s+1)) p1<r s t))
 (Ld (.arr 258) ⟨g,0,none⟩ t fun q1=>
 ak 258 ⟨e,0,none⟩ q1 t fun r1=>
 Ld (.arr 258) ⟨e,0,none⟩ r1 fun s1=>
 R s1 0 r1))):Cl Pg [(.arr 258),kI] kx ⟨[(.agg a)]⟩ w R:=co Tryz.f159 [(14,[(6,kI)]),(24,[(7,(ao .u32)),(8,(ao .u8))])] h
theorem F3.ok (a:(Array Value)) (R:Bool→World→Prop) w (h:
 Nw 104 a w fun c b=>
 Ld (.arr 258) ⟨c,0,none⟩ b fun d=>
 Cl Pg [kI] qX ⟨[(.agg d)]⟩ b fun (f:Int) e=>
 R (decide (f≤32768)) e):Cl Pg [kB] ky ⟨[(.agg a)]⟩ w R:=co Tryz.f220 [] h
theorem Gb.ok (a:(Array Value)) (R:Sl→World→Prop) w (h:
 Nw 104 a w fun c b=>
 cp (⟨none,0,0⟩:Sl) 1 b fun d e (f:Sl) (g:Int) h=>
 aa (decide (g≤15))
 (Ld (.arr 258) ⟨c,0,none⟩ h fun i=>
 Cl Pg [kB] ky ⟨[(.agg i)]⟩ h fun (k:Bool) j=>
 aa k
 (cp f 0 j fun l m (n:Sl) (o:Int) p=>
 aa (decide (o<258))
 (au ⟨c,0,none⟩ 258 o 1 fun q=>
 Ld (ao .u8) q p fun (r:Int)=>
 aa ((i64 r)==g)
 (Nw 3 ⟨[(ni o)]⟩ p fun t s=>
 ar Pg (Builtin.append_ #[142,142] 142 ⟨[(an n),(an (⟨some ⟨t,0,none⟩,1,1⟩:Sl))]⟩) kS s fun (v:Sl) u=>
 l v (i64 (o+1)) u∧m v (i64 (o+1)) u<m n o p)
 (l n (i64 (o+1)) p∧m n (i64 (o+1)) p<m n o p))
 (d n (i64 (g+1)) p∧e n (i64 (g+1)) p<e f g h))
 (R f j))
 (R f h)):Cl Pg [kS] ob ⟨[(.agg a)]⟩ w R:=co Tryz.f221 [(7,[(3,kS),(4,kI)]),(14,[(3,kS),(5,kI)])] h
end Go.Proofs.YtgglghjnakclmaaGreat
namespace Go.Proofs.YtgglghjnakclmaaGreat
open Go Go.Vc Go.Srt
section
variable {E w:World} {F:List HP}
set_option maxRecDepth 20000 in
theorem QR {l:List Nat} {K:Int→World→Prop} (h:Hp E w F) (hl:l.length=258) (hK: ∀(r:Nat) w',(r≤32768↔a9 l≤32768)→(a9 l≤32768→r=a9 l)→Hp E w' F→K (r:Int) w'):
  Cl Tryz.prog [kI] qX ⟨[.agg (ai .u8 l)]⟩ w K:=by
 refine Lv.ok _ _ _ ?_
 refine Nw.mk h fun b w1 h1=> ?_
 have hb:=v5 l
 refine ⟨fun sm i w'=> ∃k:Nat,i=(k:Int)∧k≤258∧sm=(a9 (l.take k):Int)∧Hp E w' (af b (.cells (ai .u8 l) 104 (0,0))::F),fun _ i _=>258 - i.toNat,⟨0,rfl,by omega,by simp [a9],h1⟩,?_⟩
 intro sm i w' hI
 obtain ⟨k,hi,hk,hs,hh⟩:=hI
 subst hi;subst hs
 refine aa.mk (fun hlt=> ?_) (fun hge=> ?_)
 ·have hlt:k<258:=by have:=of_decide_eq_true hlt;omega
  have hkl:k<l.length:=by omega
  have hx:(ai .u8 l)[((k:Int)).toNat]? =some (Sc.enc (.int .u8) (l[k]:Int)):=by rw [Int.toNat_natCast];exact jS hkl
  have e:=nF hkl
  have ht:=qN (l:=l) (k:=k+1)
  refine au.rd (s:= .int .u8) hh (by omega) (by omega) (l[k]:Int) hx (aa.mk (fun h15=> ?_) (fun h15=> ?_))
  ·have h15:=of_decide_eq_true h15
   have hw:wt l[k]=32769:=by unfold wt;rw [if_neg (by omega),if_pos (by omega)]
   exact hK 32769 w' (by omega) (by omega) hh.drop
  ·have h15:l[k]≤15:=by have:=of_decide_eq_false h15;omega
   refine au.rd (s:= .int .u8) hh (by omega) (by omega) (l[k]:Int) hx (aa.mk (fun hp=> ?_) (fun hp=> ?_))
   ·have hp:0<l[k]:=by have:=of_decide_eq_true hp;omega
    have hw:wt l[k]=2^(15 - l[k]):=by unfold wt;rw [if_neg (by omega),if_neg (by omega)]
    have hp15:2^(15 - l[k])≤2^15:=Nat.pow_le_pow_right (by decide) (by omega)
    refine au.rd (s:= .int .u8) hh (by omega) (by omega) (l[k]:Int) hx ?_
    have e1:u64 (i64 (15 - i64 (l[k]:Int)))=((15 - l[k]:Nat):Int):=by
     rw [ab (x:=(l[k]:Int)) (by omega),ab (by omega),gI (by omega)];omega
    have hmx:IntKind.max .i64=9223372036854775807:=rfl
    have e2:=dL (k:= .i64) (a:=1) (b:=15 - l[k]) (by have:IntKind.bits .i64=64:=rfl;omega) (by rw [hmx];omega)
    rw [e1]
    rw [show (1:Int)=((1:Nat):Int) from rfl,e2,Nat.one_mul]
    refine ⟨by omega,?_⟩
    rw [hw] at e
    rw [ab (x:=(a9 (l.take k):Int)+((2^(15 - l[k]):Nat):Int)) (by omega),ab (by omega)]
    exact ⟨⟨k+1,rfl,by omega,by rw [e];rfl,hh⟩,by dsimp only;omega⟩
   ·have hp:l[k]=0:=by have:=of_decide_eq_false hp;omega
    have hw:wt l[k]=0:=by unfold wt;rw [if_pos hp]
    rw [ab (by omega)]
    exact ⟨⟨k+1,rfl,by omega,by rw [e,hw];rfl,hh⟩,by dsimp only;omega⟩
 ·have hge:k=258:=by have:=of_decide_eq_false hge;omega
  subst hge
  rw [←hl,List.take_length]
  exact hK _ _ Iff.rfl (fun _=>rfl) hh.drop
end
end Go.Proofs.YtgglghjnakclmaaGreat
namespace Go.Srt
def hU (l:List Nat) (N:Nat):List Nat:=(List.range N).flatMap fun n=>(List.range 258).filter fun s=>l.getD s 0==n+1
theorem DH {l:List Nat} {N s:Nat}:s∈hU l N↔s<258∧0<l.getD s 0∧l.getD s 0≤N:=by
 unfold hU
 simp only [List.mem_flatMap,List.mem_range,List.mem_filter,beq_iff_eq]
 constructor
 ·rintro ⟨n,h1,h2,h3⟩;omega
 ·rintro ⟨h1,h2,h3⟩;exact ⟨l.getD s 0 - 1,by omega,h1,by omega⟩
theorem qU (l:List Nat) (N:Nat):(hU l N).Pairwise fun a b=>l.getD a 0<l.getD b 0∨(l.getD a 0=l.getD b 0∧a<b):=by
 unfold hU
 rw [List.pairwise_flatMap]
 refine ⟨fun n _=> ?_,?_⟩
 ·have h:(List.range 258).Pairwise fun a b=>a<b:=List.pairwise_lt_range
  refine List.Pairwise.imp_of_mem ?_ (h.filter _)
  intro a b ha hb hab
  have ha:=(List.mem_filter.1 ha).2
  have hb:=(List.mem_filter.1 hb).2
  rw [beq_iff_eq] at ha hb
  omega
 ·refine List.pairwise_lt_range.imp ?_
  intro m n hmn a ha b hb
  have ha:=(List.mem_filter.1 ha).2
  have hb:=(List.mem_filter.1 hb).2
  rw [beq_iff_eq] at ha hb
  omega
theorem Nc {l:List Nat} (hl:l.length=258) (hv:a9 l≤32768):cc l (hU l 15):=by
 refine ⟨?_,qU l 15⟩
 have n1:(hU l 15).Nodup:=(qU l 15).imp fun h=>by rintro rfl;omega
 have n2:(used l).Nodup:=(List.nodup_range).filter _
 rw [List.perm_ext_iff_of_nodup n1 n2]
 intro s
 rw [DH,fp,hl]
 have:=gS hv s
 omega
theorem J6 (l:List Nat) (N:Nat):hU l (N+1)=hU l N++(List.range 258).filter fun s=>l.getD s 0==N+1:=by
 unfold hU
 rw [List.range_succ (n:=N),List.flatMap_append]
 simp
end Go.Srt
namespace Go.Proofs.YtgglghjnakclmaaGreat
open Go Go.Vc Go.Srt Go.aE
section
variable {E w:World} {F:List HP}
theorem Bl {l:List Nat} {K:Bool→World→Prop} (h:Hp E w F) (hl:l.length=258) (hK: ∀w',Hp E w' F→K (decide (a9 l≤32768)) w'):Cl Tryz.prog [kB] ky ⟨[.agg (ai .u8 l)]⟩ w K:=by
 refine F3.ok _ _ _ ?_
 refine Nw.mk h fun b w1 h1=>Ld.arr h1 (by rw [aK,hl]) (QR h1 hl fun r w2 hr _ h2=> ?_)
 have:decide ((r:Int)≤32768)=decide (a9 l≤32768):=by rw [Bool.eq_iff_iff,decide_eq_true_eq,decide_eq_true_eq];omega
 rw [this]
 exact hK _ h2.drop
set_option maxRecDepth 20000 in
theorem J5 {l:List Nat} {K:Sl→World→Prop} (h:Hp E w F) (hl:l.length=258) (h8: ∀x∈l,x≤255) (hv:a9 l≤32768) (hK: ∀ys s w',cc l ys→Hp E w' (av 1 s ((ints ys).map vI)::F)→K s w'):Cl Tryz.prog [kS] ob ⟨[.agg (ai .u8 l)]⟩ w K:=by
 refine Gb.ok _ _ _ ?_
 have hlen: ∀N,(hU l N).length≤258:=fun N=>by
  have h1:(hU l N).Nodup:=(qU l N).imp fun h=>by rintro rfl;omega
  have h2:hU l N⊆List.range 258:=fun s hs=>by have:=(DH.1 hs).1;simpa using this
  have:=h1.length_le_of_subset h2
  simpa using this
 refine Nw.mk h fun b w1 h1=> ?_
 refine ⟨fun o n w'=> ∃N:Nat,n=(N:Int)+1∧N≤15∧Hp E w' (av 1 o ((ints (hU l N)).map vI)::af b (.cells (ai .u8 l) 104 (0,0))::F),fun _ n _=>20 - n.toNat,⟨0,rfl,by omega,h1.aU 1⟩,?_⟩
 rintro o n w' ⟨N,rfl,hN,hh⟩
 refine aa.mk (fun hlt=> ?_) (fun hge=> ?_)
 ·have hlt:N<15:=by have:=of_decide_eq_true hlt;omega
  refine Ld.arr hh.p1 (by rw [aK,hl]) (Bl hh hl fun w2 h2=>aa.t (decide_eq_true hv) ?_)
  refine ⟨fun o s w'=> ∃k:Nat,s=(k:Int)∧k≤258∧Hp E w' (av 1 o ((ints (hU l N++(List.range k).filter fun s=>l.getD s 0==N+1)).map vI)::af b (.cells (ai .u8 l) 104 (0,0))::F),fun _ s _=>258 - s.toNat,⟨0,rfl,by omega,by simpa using h2⟩,?_⟩
  rintro o2 s w3 ⟨k,rfl,hk,h3⟩
  refine aa.mk (fun hlt2=> ?_) (fun hge2=> ?_)
  ·have hlt2:k<258:=by have:=of_decide_eq_true hlt2;omega
   have hg:l.getD k 0≤255:=by rw [bW (by omega)];exact h8 _ (List.getElem_mem _)
   have hrs:(List.range (k+1)).filter (fun s=>l.getD s 0==N+1)=(List.range k).filter (fun s=>l.getD s 0==N+1)++if l.getD k 0=N+1 then [k] else []:=by
    rw [List.range_succ,List.filter_append]
    congr 1
    by_cases e:l.getD k 0=N+1
    ·rw [if_pos e,List.filter_cons_of_pos (by rw [beq_iff_eq];exact e)];rfl
    ·rw [if_neg e,List.filter_cons_of_neg (by rw [beq_iff_eq];exact e)];rfl
   refine au.rd (s:= .int .u8) h3.p1 (by omega) (by omega) (l.getD k 0:Int) (pZ (by omega)) ?_
   rw [ab (x:=(l.getD k 0:Int)) (by omega),ab (x:=(k:Int)+1) (by omega)]
   refine aa.mk (fun heq=> ?_) (fun hne=> ?_)
   ·have heq:l.getD k 0=N+1:=by rw [beq_iff_eq] at heq;omega
    rw [if_pos heq] at hrs
    have hol:=h3.bK
    have hl1:=hlen N
    have hl2:=List.length_filter_le (fun s=>l.getD s 0==N+1) (List.range k)
    rw [List.length_range] at hl2
    rw [List.length_map,ints,List.length_map,List.length_append,Nat.mul_one] at hol
    refine Nw.mk h3 fun b20 w4 h4=>bf (ys:= [vI (k:Int)]) (n:=1) oO (by decide) (.inl ⟨3,by kernel_rfl⟩) h4.p1 (.inl ⟨some ⟨b20,0,none⟩,1,1,rfl,rfl,h4.aj (ad.az rfl rfl)⟩) rfl yl (by omega) (by omega) fun s' w5 h5 hs'=>⟨⟨k+1,rfl,by omega,?_⟩,by dsimp only;omega⟩
    rw [hrs,←List.append_assoc,Eu,List.map_append]
    exact h5.p1.drop
   ·have hne:l.getD k 0≠N+1:=by have:=beq_eq_false_iff_ne.1 hne;omega
    rw [if_neg hne,List.append_nil] at hrs
    exact ⟨⟨k+1,rfl,by omega,by rw [hrs];exact h3⟩,by dsimp only;omega⟩
  ·have hge2:k=258:=by have:=of_decide_eq_false hge2;omega
   subst hge2
   rw [ab (by omega)]
   rw [←J6] at h3
   exact ⟨⟨N+1,by omega,by omega,h3⟩,by dsimp only;omega⟩
 ·have hge:N=15:=by have:=of_decide_eq_false hge;omega
  subst hge
  exact hK _ _ _ (Nc hl hv) hh.p1.drop
set_option maxRecDepth 20000 in
theorem AX {l:List Nat} {K:Array Value→Int→World→Prop} (h:Hp E w F) (hl:l.length=258) (h8: ∀x∈l,x≤255) (hK1: ¬a9 l≤32768→∀w',Hp E w' F→K (ai .u32 (List.replicate 258 0)) 2 w')
  (hK2:a9 l≤32768→∀ys w',cc l ys→Hp E w' F→K (ai .u32 (bH l ys ys.length)) 0 w'):Cl Tryz.prog [.arr 258,kI] kx ⟨[.agg (ai .u8 l)]⟩ w K:=by
 refine Ge.ok _ _ _ ?_
 rw [rH]
 have hz:(ai .u32 (List.replicate 258 0)).size=258:=by rw [aK];exact List.length_replicate
 refine Nw.mk h fun b3 w1 h1=>Nw.mk h1 fun b5 w2 h2=>Nw.mk h2 fun b7 w3 h3=>Ld.arr h3.p2 (by rw [aK,hl]) (Bl h3 hl fun w4 h4=>aa.mk (fun hv=> ?_) (fun hv=> ?_))
 ·have hv: ¬a9 l≤32768:=by simpa using hv
  exact Ld.arr h4 hz (ak.az h4.p1 hz hz da fun w5 h5=>Ld.arr h5 hz (hK1 hv w5 h5.drop.drop.drop))
 have hv:a9 l≤32768:=by simpa using hv
 refine Ld.arr h4.p2 (by rw [aK,hl]) (J5 h4 hl h8 hv fun ys so w5 hys h5=> ?_)
 have hpl:=h5.bK
 simp only [ints,List.length_map,Nat.mul_one] at hpl
 have hylen:=EP hl hys
 have sized: ∀i,(ai .u32 (bH l ys i)).size=258:=fun i=>by rw [aK,eT]
 have hc1:0<ys.length→bH l ys 1=List.replicate 258 0:=fun h0=>by
  rw [bH,bH]
  have:eu l ys 0=0:=by unfold eu Srt.start;simp
  rw [this,List.set_replicate_self]
 have fin: ∀w' k,k=ys.length→Hp E w' (av 1 so ((ints ys).map vI)::af b7 (.cells (ai .u32 (bH l ys k)) 237 (0,0))::af b5 (.cells (ai .u32 (List.replicate 258 0)) 237 (0,0))::af b3 (.cells (ai .u8 l) 104 (0,0))::F)→
   Ld (.arr 258) (⟨b7,0,none⟩:Addr) w' fun (x42:(Array Value))=>ak 258 (⟨b5,0,none⟩:Addr) x42 w' fun (w_43:World)=>Ld (.arr 258) (⟨b5,0,none⟩:Addr) w_43 fun (res44:(Array Value))=>K res44 0 w_43:=by
  rintro w' k rfl h'
  exact Ld.arr h'.p1 (sized _) (ak.az h'.p2 hz (sized _) da fun w6 h6=>Ld.arr h6 (sized _) (hK2 hv ys w6 hys h6.drop.drop.drop.drop))
 refine ⟨fun i w'=> ∃k:Nat,i=(k:Int)∧1≤k∧(k≤ys.length∨(ys.length=0∧k=1))∧Hp E w' (av 1 so ((ints ys).map vI)::af b7 (.cells (ai .u32 (bH l ys (if ys.length=0 then 0 else k))) 237 (0,0))::af b5 (.cells (ai .u32 (List.replicate 258 0)) 237 (0,0))::af b3 (.cells (ai .u8 l) 104 (0,0))::F),
  fun i _=>ys.length+1 - i.toNat,⟨1,rfl,by omega,by omega,?_⟩,?_⟩
 ·by_cases e:ys.length=0
  ·rw [if_pos e];exact h5
  ·rw [if_neg e,hc1 (by omega)];exact h5
 rintro i w6 ⟨k,rfl,hk1,hk,hh⟩
 refine aa.mk (fun hlt=> ?_) (fun hge=>fin w6 (if ys.length=0 then 0 else k) ?_ hh)
 ·have hlt:k<ys.length:=by have:=of_decide_eq_true hlt;omega
  rw [if_neg (by omega)] at hh
  obtain ⟨j,rfl⟩: ∃j,k=j+1:=⟨k - 1,by omega⟩
  have hj:j<ys.length:=by omega
  have hin0:=uG hl hys _ (List.getElem_mem hj)
  have hin1:=uG hl hys _ (List.getElem_mem hlt)
  have h15a:=gS hv ys[j]
  have h15b:=gS hv ys[j+1]
  have hmono:=Hq hys hlt (show j≤j+1 by omega)
  rw [ab (x:=((j+1:Nat):Int) - 1) (by omega),show ((j+1:Nat):Int) - 1=(j:Int) by omega]
  have rdo: ∀{w':World} {F':List HP} {m:Nat} {K:Int→Prop} (hm:m<ys.length),Hp E w' (av 1 so ((ints ys).map vI)::F')→K (ys[m]:Int)→ay so (m:Int) 1 fun q=>Ld kI q w' K:=fun {w' F' m K} hm h' hK=>by
   refine ay.rd (h'.aj ad.own) (by omega) (by omega) fun q hq hc=>Ld.sc (s:= .int .i64) (ys[m]:Int) (by rw [hc];simp [ints,vI,Sc.enc]) hK
  have hca:=tL hys (fun s hs=>(uG hl hys s hs).1) (j+1) (by omega) j hj (by omega)
  have hcl:=A1 hv hys hj
  have hp:2^l.getD ys[j] 0≤2^15:=Nat.pow_le_pow_right (by decide) h15a
  have hp2:(2:Nat)^15=32768:=by decide
  refine rdo hj hh (au.rd (s:= .int .u32) hh.p1 (by omega) (by omega) ((bH l ys (j+1)).getD ys[j] 0:Int) (pZ (by rw [eT];omega)) ?_)
  refine rdo hj hh (au.rd (s:= .int .u8) hh.p3 (by omega) (by omega) (l.getD ys[j] 0:Int) (pZ (by omega)) ?_)
  rw [hca,cN (by omega)]
  have hnew:(eu l ys j+1)*2^(l.getD ys[j+1] 0 - l.getD ys[j] 0)=eu l ys (j+1):=by
   have e1:=oo hys hj
   have e2:=oo hys hlt
   have e3:=sW (l:=l) hj
   refine Nat.eq_of_mul_eq_mul_right (Dw l ys[j+1]) ?_
   rw [e2,e3,←e1,Nat.mul_assoc]
   have:2^(l.getD ys[j+1] 0 - l.getD ys[j] 0)*sh l ys[j+1]=sh l ys[j]:=by
    unfold sh;rw [←Nat.pow_add];congr 1;omega
   rw [this,Nat.succ_mul]
  have hcl1:=A1 hv hys hlt
  have hp1:2^l.getD ys[j+1] 0≤2^15:=Nat.pow_le_pow_right (by decide) h15b
  refine ⟨fun c kk w'=> ∃n:Nat,kk=((l.getD ys[j] 0+n:Nat):Int)∧l.getD ys[j] 0+n≤l.getD ys[j+1] 0∧c=(((eu l ys j+1)*2^n:Nat):Int)∧Hp E w' (av 1 so ((ints ys).map vI)::af b7 (.cells (ai .u32 (bH l ys (j+1))) 237 (0,0))::af b5 (.cells (ai .u32 (List.replicate 258 0)) 237 (0,0))::af b3 (.cells (ai .u8 l) 104 (0,0))::F),
   fun _ kk _=>16 - kk.toNat,⟨0,by omega,by omega,by simp,hh⟩,?_⟩
  rintro c kk w7 ⟨n,rfl,hn,rfl,h7⟩
  refine rdo hlt h7 (au.rd (s:= .int .u8) h7.p3 (by omega) (by omega) (l.getD ys[j+1] 0:Int) (pZ (by omega)) (aa.mk (fun hl2=> ?_) (fun hg2=> ?_)))
  ·have hl2:=of_decide_eq_true hl2
   have hle:(eu l ys j+1)*2^(n+1)≤eu l ys (j+1):=by
    rw [←hnew];exact Nat.mul_le_mul_left _ (Nat.pow_le_pow_right (by decide) (by omega))
   have hpw:(eu l ys j+1)*2^(n+1)=2*((eu l ys j+1)*2^n):=by rw [Nat.pow_succ,←Nat.mul_assoc,Nat.mul_comm]
   rw [cN (by omega),eD (by omega)]
   exact ⟨⟨n+1,by omega,by omega,by rw [hpw];omega,h7⟩,by dsimp only;omega⟩
  ·have hg2:=of_decide_eq_false hg2
   have hne:l.getD ys[j+1] 0 - l.getD ys[j] 0=n:=by omega
   rw [hne] at hnew
   rw [hnew]
   refine rdo hlt h7 (au.wr h7.p1 (by omega) (by omega) (sized _) rfl fun w8 h8=> ?_)
   rw [Int.toNat_natCast,zE] at h8
   rw [ab (by omega)]
   refine ⟨⟨j+1+1,by omega,by omega,by omega,?_⟩,by dsimp only;omega⟩
   rw [if_neg (by omega)]
   have:bH l ys (j+1+1)=(bH l ys (j+1)).set ys[j+1] (eu l ys (j+1)):=by rw [bH,mG hlt]
   rw [this]
   exact h8.p1
 ·have:=of_decide_eq_false hge
  by_cases e:ys.length=0
  ·rw [if_pos e];omega
  ·rw [if_neg e];omega
end
end Go.Proofs.YtgglghjnakclmaaGreat
namespace Go.Proofs.YtgglghjnakclmaaGreat
open Go Go.Vc
set_option maxRecDepth 100000
theorem HZ.ok (a:(Array Value)) (b:Sl) (R:Sl→Bool→World→Prop) w (h:
 Nw 104 a w fun d c=>
 Ld (.arr 258) ⟨d,0,none⟩ c fun e=>
 Cl Pg [(.arr 258),kI] kx ⟨[(.agg e)]⟩ c fun g (h:Int) f=>
 Nw 237 ⟨List.replicate 258 (.int .u32 0)⟩ f fun j i=>
 ak 258 ⟨j,0,none⟩ g i fun k=>
 aa (h !=0)
 (R (⟨none,0,0⟩:Sl) false k)
 (cp (⟨none,0,0⟩:Sl) 0 k fun l m (n:Sl) (o:Int) p=>
 aa (decide (o<(b.len:Int)))
 (ay b o 1 fun q=>
 Ld kI q p fun (r:Int)=>
 aQ (fun (v:World)=>
 au ⟨d,0,none⟩ 258 r 1 fun x=>
 Ld (ao .u8) x v fun (y:Int)=>
 cp n (i64 ((i64 y) - 1)) v fun z a1 (b1:Sl) (c1:Int) d1=>
 aa (decide (c1≥0))
 (au ⟨j,0,none⟩ 258 r 1 fun e1=>
 Ld (ao .u32) e1 d1 fun (f1:Int)=>
 0≤(u64 c1)∧
 Nw 3 ⟨[(ni (i64 (dH .u32 (bT .u32 f1 (u64 c1)) 1)))]⟩ d1 fun h1 g1=>
 ar Pg (Builtin.append_ #[142,142] 142 ⟨[(an b1),(an (⟨some ⟨h1,0,none⟩,1,1⟩:Sl))]⟩) kS g1 fun (j1:Sl) i1=>
 z j1 (i64 (c1 - 1)) i1∧a1 j1 (i64 (c1 - 1)) i1<a1 b1 c1 d1)
 (l b1 (i64 (o+1)) d1∧m b1 (i64 (o+1)) d1<m n o p)) fun s=>
 aa (decide (r<0))
 (R (⟨none,0,0⟩:Sl) false p)
 (aa (decide (r≥258))
 (R (⟨none,0,0⟩:Sl) false p)
 (au ⟨d,0,none⟩ 258 r 1 fun t=>
 Ld (ao .u8) t p fun (u:Int)=>
 aa (u==0)
 (R (⟨none,0,0⟩:Sl) false p)
 (s p))))
 (R n true p))):Cl Pg [kS,kB] pG ⟨[(.agg a),(an b)]⟩ w R:=co Tryz.f128 [(14,[(8,kS),(9,kI)]),(21,[]),(28,[(8,kS),(11,kI)])] h
end Go.Proofs.YtgglghjnakclmaaGreat
namespace Go.Proofs.YtgglghjnakclmaaGreat
open Go Go.Vc Go.Srt Go.aE
section
variable {E w:World} {F:List HP}
set_option maxRecDepth 20000 in
theorem Pz {l:List Nat} {s:Sl} {zs:List Int} {K:Sl→Bool→World→Prop} (h:Hp E w F) (hl:l.length=258) (h8: ∀x∈l,x≤255) (hs:ad F (aH 1 s (zs.map vI))) (hn:zs.length≤100000)
  (hK1: ¬(a9 l≤32768∧rz l zs=true)→∀w',Hp E w' F→K ⟨none,0,0⟩ false w') (hK2:a9 l≤32768→rz l zs=true→∀s' w',Hp E w' (av 1 s' ((ints (o9 l zs)).map vI)::F)→K s' true w'):
  Cl Tryz.prog [kS,kB] pG ⟨[.agg (ai .u8 l),.slice s.base s.len s.cap]⟩ w K:=by
 refine HZ.ok _ _ _ _ ?_
 simp only [aO]
 rw [rH]
 have hsl:=(h.aj hs).1
 simp only [List.length_map,Nat.mul_one] at hsl
 refine Nw.mk h fun b4 w1 h1=>Ld.arr h1 (by rw [aK,hl]) (AX h1 hl h8 (fun hv w2 h2=> ?_) (fun hv ys w2 hys h2=> ?_))
 ·exact Nw.mk h2 fun b10 w3 h3=>ak.az h3 (by rw [aK];simp) (by rw [aK];simp) da fun w4 h4=>aa.t (by decide) (hK1 (fun hh=>hv hh.1) w4 h4.drop.drop)
 refine Nw.mk h2 fun b10 w3 h3=>ak.az h3 (by rw [aK];simp) (by rw [aK,eT]) da fun w4 h4=>aa.f (by decide) ?_
 refine ⟨fun o i w'=> ∃k:Nat,i=(k:Int)∧k≤zs.length∧rz l (zs.take k)=true∧Hp E w' (av 1 o ((ints (o9 l (zs.take k))).map vI)::af b10 (.cells (ai .u32 (bH l ys ys.length)) 237 (0,0))::af b4 (.cells (ai .u8 l) 104 (0,0))::F),fun _ i _=>zs.length - i.toNat,⟨0,rfl,by omega,rfl,h4.aU 1⟩,?_⟩
 rintro o i w5 ⟨k,rfl,hk,hg,hh⟩
 refine aa.mk (fun hlt=> ?_) (fun hge=> ?_)
 ·have hlt:k<zs.length:=by have:=of_decide_eq_true hlt;omega
  have bad:mX l zs[k]=false→K ⟨none,0,0⟩ false w5:=fun hb=>hK1 (fun hh=>by rw [MP hlt hb] at hh;exact absurd hh.2 (by decide)) w5 hh.drop.drop.drop
  refine ay.rd (hh.aj (ad.cons (ad.cons (ad.cons hs)))) (by omega) (by omega) fun q hq hc=>Ld.sc (s:= .int .i64) zs[k] (by rw [hc];simp [vI,Sc.enc]) ?_
  refine aa.mk (fun h0=>bad ?_) (fun h0=>aa.mk (fun h1=>bad ?_) (fun h1=> ?_))
  ·have:=of_decide_eq_true h0
   unfold mX;rw [decide_eq_false (show¬0≤zs[k] by omega)];rfl
  ·have:=of_decide_eq_true h1
   unfold mX;rw [decide_eq_false (show¬zs[k]<258 by omega)];simp
  have h0:=of_decide_eq_false h0
  have h1:=of_decide_eq_false h1
  obtain ⟨m,hm⟩: ∃m:Nat,zs[k]=(m:Int):=⟨zs[k].toNat,by omega⟩
  have hm2:zs[k].toNat=m:=by omega
  rw [hm]
  refine au.rd (s:= .int .u8) hh.p2 (by omega) (by omega) (l.getD m 0:Int) (pZ (by omega)) (aa.mk (fun hz=>bad ?_) (fun hz=> ?_))
  ·have:l.getD m 0=0:=by rw [beq_iff_eq] at hz;omega
   unfold mX;rw [hm2,this];simp
  have hz:0<l.getD m 0:=by have:=beq_eq_false_iff_ne.1 hz;omega
  have h15:=gS hv m
  have hle:=rQ hv (zs.take k)
  rw [List.length_take] at hle
  have hcl:=Gp hl hv (show m<258 by omega) hz
  have hp:2^l.getD m 0≤2^15:=Nat.pow_le_pow_right (by decide) h15
  have hp2:(2:Nat)^15=32768:=by decide
  refine au.rd (s:= .int .u8) hh.p2 (by omega) (by omega) (l.getD m 0:Int) (pZ (by omega)) ?_
  rw [ab (x:=(l.getD m 0:Int)) (by omega),ab (x:=(l.getD m 0:Int) - 1) (by omega),ab (x:=(k:Int)+1) (by omega)]
  have hel:=C1 l m
  refine ⟨fun o2 kk w'=> ∃j:Nat,kk=(l.getD m 0:Int) - 1 - (j:Int)∧j≤l.getD m 0∧Hp E w' (av 1 o2 ((ints (o9 l (zs.take k)++(p9 l m).take j)).map vI)::af b10 (.cells (ai .u32 (bH l ys ys.length)) 237 (0,0))::af b4 (.cells (ai .u8 l) 104 (0,0))::F),fun _ kk _=>(kk+1).toNat,
   ⟨0,by omega,by omega,by simpa using hh⟩,?_⟩
  rintro o2 kk w6 ⟨j,rfl,hj,h6⟩
  refine aa.mk (fun hge2=> ?_) (fun hlt2=> ?_)
  ·have hj2:j<l.getD m 0:=by have:=of_decide_eq_true hge2;omega
   refine au.rd (s:= .int .u32) h6.p1 (by omega) (by omega) ((bH l ys ys.length).getD m 0:Int) (pZ (by rw [eT];omega)) ?_
   rw [zp hl hv hys (by omega) hz,gI (by omega),show (l.getD m 0:Int) - 1 - (j:Int)=((l.getD m 0 - 1 - j:Nat):Int) by omega]
   have hd:=Nat.div_le_self (code l m) (2^(l.getD m 0 - 1 - j))
   have e1:dH .u32 (bT .u32 (code l m:Int) ((l.getD m 0 - 1 - j:Nat):Int)) 1=((code l m/2^(l.getD m 0 - 1 - j) % 2:Nat):Int):=by
    have hmx:IntKind.max .u32=4294967295:=rfl
    rw [dE (by have:IntKind.bits .u32=32:=rfl;omega),show (1:Int)=((1:Nat):Int) from rfl,mE (by omega) (by omega),Nat.and_one_is_mod]
   rw [e1,ab (x:=((code l m/2^(l.getD m 0 - 1 - j) % 2:Nat):Int)) (by omega)]
   refine ⟨by omega,?_⟩
   have hol:=h6.bK
   rw [List.length_map,ints,List.length_map,List.length_append,List.length_take,hel,Nat.mul_one] at hol
   refine Nw.mk h6 fun b33 w7 h7=>bf (ys:= [vI ((code l m/2^(l.getD m 0 - 1 - j) % 2:Nat):Int)]) (n:=1) oO (by decide) (.inl ⟨3,by kernel_rfl⟩) h7.p1 (.inl ⟨some ⟨b33,0,none⟩,1,1,rfl,rfl,h7.aj (ad.az rfl rfl)⟩) rfl yl (by omega) (by omega) fun s' w8 h8 hs'=>⟨⟨j+1,by rw [ab (by omega)];omega,by omega,?_⟩,by dsimp only;rw [ab (by omega)];omega⟩
   have e2:(p9 l m).take (j+1)=(p9 l m).take j++ [code l m/2^(l.getD m 0 - 1 - j) % 2]:=by
    have hjl:j<(p9 l m).length:=by omega
    rw [List.take_add_one,List.getElem?_eq_getElem hjl]
    have:=yX (l.getD m 0) (code l m) j hj2
    rw [←this]
    show _=_++ [(p9 l m).getD j 0]
    rw [bW hjl];rfl
   rw [e2,←List.append_assoc,Eu,List.map_append]
   exact h8.p1.drop
  ·have hj2:j=l.getD m 0:=by have:=of_decide_eq_false hlt2;omega
   subst hj2
   rw [List.take_of_length_le (l:=p9 l m) (by omega)] at h6
   refine ⟨⟨k+1,by omega,by omega,Kv hlt hg (AP.2 ⟨by omega,by omega,by rw [hm2];exact hz⟩),?_⟩,by dsimp only;omega⟩
   rw [JB hlt,hm2]
   exact h6
 ·have hge:k=zs.length:=by have:=of_decide_eq_false hge;omega
  subst hge
  rw [List.take_length] at hg hh
  exact hK2 hv hg _ _ hh.p1.drop.p1.drop
end
end Go.Proofs.YtgglghjnakclmaaGreat
namespace Go.Proofs.YtgglghjnakclmaaGreat
open Go Go.Vc
set_option maxRecDepth 100000
theorem Ik.ok (a:Sl) (R:Sl→Int→World→Prop) w (h:
 Cl Pg [kS] nY ⟨[(an a)]⟩ w fun (c:Sl) b=>
 BE (⟨none,0,0⟩:Sl) 0 0 b fun d e (f:Sl) (g:Int) (h:Int) i=>
 aa (decide (h<(c.len:Int)))
 (ay c h 1 fun j=>
 Ld kI j i fun (k:Int)=>
 aa (k==0)
 (d f h (i64 (h+1)) i∧e f h (i64 (h+1)) i<e f g h i)
 (ay c h 1 fun l=>
 Ld kI l i fun (m:Int)=>
 ay a (i64 (m - 1)) 1 fun n=>
 Ld (ao .u8) n i fun (o:Int)=>
 Nw 5 ⟨[(.int .u8 o)]⟩ i fun q p=>
 ar Pg (Builtin.append_ #[26,26] 26 ⟨[(an f),(an (⟨some ⟨q,0,none⟩,1,1⟩:Sl))]⟩) kS p fun (s:Sl) r=>
 d s g (i64 (h+1)) r∧e s g (i64 (h+1)) r<e f g h i))
 (R f g i)):Cl Pg [kS,kI] qe ⟨[(an a)]⟩ w R:=co Tryz.f81 [(11,[(4,kS),(5,kI),(7,kI)])] h
theorem Ef.ok (a:Sl) (R:Sl→World→Prop) w (h:
 cp (⟨none,0,0⟩:Sl) (i64 ((a.len:Int) - 1)) w fun b c (d:Sl) (e:Int) f=>
 aa (decide (e≥0))
 (ay a e 1 fun g=>
 Ld (ao .u8) g f fun (h:Int)=>
 Nw 5 ⟨[(.int .u8 h)]⟩ f fun j i=>
 ar Pg (Builtin.append_ #[26,26] 26 ⟨[(an d),(an (⟨some ⟨j,0,none⟩,1,1⟩:Sl))]⟩) kS i fun (l:Sl) k=>
 b l (i64 (e - 1)) k∧c l (i64 (e - 1)) k<c d e f)
 (R d f)):Cl Pg [kS] gE ⟨[(an a)]⟩ w R:=co Tryz.f82 [(7,[(3,kS),(4,kI)])] h
theorem Gf.ok (a:Sl) (R:Sl→World→Prop) w (h:
 cp (⟨none,0,0⟩:Sl) 0 w fun b c (d:Sl) (e:Int) f=>
 aa (decide (e≤(a.len:Int)))
 (ee (d.len:Int) f fun g h (i:Int) j=>
 aa (decide (i>0))
 (ay d (i64 (i - 1)) 1 fun k=>
 Ld kI k j fun (l:Int)=>
 Cl Pg [kB] pJ ⟨[(an a),(ni e),(ni l)]⟩ j fun (n:Bool) m=>
 aa n
 (g (i64 (i - 1)) m∧h (i64 (i - 1)) m<h i j)
 (bj d 0 i (d).cap 1 fun o=>
 ar Pg (Builtin.append_ #[142,142] 142 ⟨[(.slice none 0 0),(an o)]⟩) kS m fun (q:Sl) p=>
 Nw 3 ⟨[(ni e)]⟩ p fun s r=>
 ar Pg (Builtin.append_ #[142,142] 142 ⟨[(an q),(an (⟨some ⟨s,0,none⟩,1,1⟩:Sl))]⟩) kS r fun (u:Sl) t=>
 bj d i (d).len (d).cap 1 fun v=>
 ar Pg (Builtin.append_ #[142,142] 142 ⟨[(an u),(an v)]⟩) kS t fun (y:Sl) x=>
 b y (i64 (e+1)) x∧c y (i64 (e+1)) x<c d e f))
 (bj d 0 i (d).cap 1 fun z=>
 ar Pg (Builtin.append_ #[142,142] 142 ⟨[(.slice none 0 0),(an z)]⟩) kS j fun (b1:Sl) a1=>
 Nw 3 ⟨[(ni e)]⟩ a1 fun d1 c1=>
 ar Pg (Builtin.append_ #[142,142] 142 ⟨[(an b1),(an (⟨some ⟨d1,0,none⟩,1,1⟩:Sl))]⟩) kS c1 fun (f1:Sl) e1=>
 bj d i (d).len (d).cap 1 fun g1=>
 ar Pg (Builtin.append_ #[142,142] 142 ⟨[(an f1),(an g1)]⟩) kS e1 fun (i1:Sl) h1=>
 b i1 (i64 (e+1)) h1∧c i1 (i64 (e+1)) h1<c d e f))
 (R d f)):Cl Pg [kS] nY ⟨[(an a)]⟩ w R:=co Tryz.f133 [(7,[(3,kS),(4,kI)]),(15,[(5,kI)])] h
theorem Ip.ok (a:Sl) (b:Int) (c:Int) (R:Bool→World→Prop) w (h:
 aQ (fun (e:World)=>
 aQ (fun (q:Int) (r:Int) (s:World)=>
 aa (q==r)
 (R false s)
 (aa (r==(a.len:Int))
 (R false s)
 (aY s fun t=>
 aa (q==(a.len:Int))
 (R true t)
 (ay a q 1 fun u=>
 Ld (ao .u8) u t fun (v:Int)=>
 ay a r 1 fun x=>
 Ld (ao .u8) x t fun (y:Int)=>
 R (decide (v<y)) t)))) fun f=>
 cp b c e fun g h (i:Int) (j:Int) k=>
 aY k fun l=>
 aa (decide (i<(a.len:Int)))
 (aa (decide (j<(a.len:Int)))
 (ay a i 1 fun m=>
 Ld (ao .u8) m l fun (n:Int)=>
 ay a j 1 fun o=>
 Ld (ao .u8) o l fun (p:Int)=>
 aa (n==p)
 (aa (i !=j)
 (g (i64 (i+1)) (i64 (j+1)) l∧h (i64 (i+1)) (i64 (j+1)) l<h i j k)
 (f i j l))
 (f i j l))
 (f i j l))
 (f i j l)) fun d=>
 aa (decide (b<0))
 (R false w)
 (aa (decide (b>(a.len:Int)))
 (R false w)
 (aa (decide (c<0))
 (R false w)
 (aa (decide (c>(a.len:Int)))
 (R false w)
 (d w))))):Cl Pg [kB] pJ ⟨[(an a),(ni b),(ni c)]⟩ w R:=co Tryz.f186 [(2,[]),(7,[(1,kI),(2,kI)]),(8,[(1,kI),(2,kI)])] h
theorem HM.ok (a:Sl) (b:Int) (R:Sl→Int→World→Prop) w (h:
 aQ (fun (d:World)=>
 Cl Pg [kS] nU ⟨[(an a)]⟩ d fun (f:Sl) e=>
 BE (⟨none,0,0⟩:Sl) 0 0 e fun g h (i:Sl) (j:Int) (k:Int) l=>
 aa (decide (k<(a.len:Int)))
 (aa (j==b)
 (R (⟨none,0,0⟩:Sl) 170 l)
 (aa (decide (j>b))
 (ay a (i64 (j - 1)) 1 fun m=>
 Ld (ao .u8) m l fun (n:Int)=>
 Nw 5 ⟨[(.int .u8 n)]⟩ l fun p o=>
 ar Pg (Builtin.append_ #[26,26] 26 ⟨[(an i),(an (⟨some ⟨p,0,none⟩,1,1⟩:Sl))]⟩) kS o fun (r:Sl) q=>
 ay f (i64 (j - 1)) 1 fun s=>
 Ld kI s q fun (t:Int)=>
 g r t (i64 (k+1)) q∧h r t (i64 (k+1)) q<h i j k l)
 (ay a j 1 fun u=>
 Ld (ao .u8) u l fun (v:Int)=>
 Nw 5 ⟨[(.int .u8 v)]⟩ l fun y x=>
 ar Pg (Builtin.append_ #[26,26] 26 ⟨[(an i),(an (⟨some ⟨y,0,none⟩,1,1⟩:Sl))]⟩) kS x fun (a1:Sl) z=>
 ay f j 1 fun b1=>
 Ld kI b1 z fun (c1:Int)=>
 g a1 c1 (i64 (k+1)) z∧h a1 c1 (i64 (k+1)) z<h i j k l)))
 (aa (j !=b)
 (R (⟨none,0,0⟩:Sl) 170 l)
 (Cl Pg [kS] gE ⟨[(an i)]⟩ l fun (e1:Sl) d1=>
 R e1 0 d1))) fun c=>
 aa (decide (b<0))
 (R (⟨none,0,0⟩:Sl) 170 w)
 (aa (decide (b>(a.len:Int)))
 (R (⟨none,0,0⟩:Sl) 170 w)
 (aa (b==0)
 (aa (decide ((a.len:Int)>0))
 (R (⟨none,0,0⟩:Sl) 170 w)
 (c w))
 (c w)))):Cl Pg [kS,kI] pT ⟨[(an a),(ni b)]⟩ w R:=co Tryz.f215 [(2,[]),(16,[(7,kS),(8,kI),(9,kI)])] h
theorem FT.ok (a:Sl) (R:Sl→World→Prop) w (h:
 Nw 351 ⟨List.replicate 256 (ni 0)⟩ w fun c b=>
 Nw 351 ⟨List.replicate 256 (ni 0)⟩ b fun e d=>
 ee 0 d fun f g (h:Int) i=>
 aa (decide (h<(a.len:Int)))
 (ay a h 1 fun j=>
 Ld (ao .u8) j i fun (k:Int)=>
 ee (i64 ((i64 k)+1)) i fun l m (n:Int) o=>
 aa (decide (n<256))
 (au ⟨c,0,none⟩ 256 n 1 fun p=>
 Ld kI p o fun (q:Int)=>
 au ⟨c,0,none⟩ 256 n 1 fun r=>
 St r (ni (i64 (q+1))) o fun s=>
 l (i64 (n+1)) s∧m (i64 (n+1)) s<m n o)
 (f (i64 (h+1)) o∧g (i64 (h+1)) o<g h i))
 (cp (⟨none,0,0⟩:Sl) 0 i fun t u (v:Sl) (x:Int) y=>
 aa (decide (x<(a.len:Int)))
 (ay a x 1 fun z=>
 Ld (ao .u8) z y fun (a1:Int)=>
 cB y fun b1 c1=>
 au ⟨c,0,none⟩ 256 a1 1 fun d1=>
 aw kI d1 b1 fun (e1:Int)=>
 au ⟨e,0,none⟩ 256 a1 1 fun f1=>
 aw kI f1 b1 fun (g1:Int)=>
 Nw 3 ⟨[(ni (i64 ((i64 ((1:Int)+e1))+g1)))]⟩ c1 fun i1 h1=>
 b1 h1∧
 ar Pg (Builtin.append_ #[142,142] 142 ⟨[(an v),(an (⟨some ⟨i1,0,none⟩,1,1⟩:Sl))]⟩) kS h1 fun (k1:Sl) j1=>
 b1 j1∧
 au ⟨e,0,none⟩ 256 a1 1 fun l1=>
 Ld kI l1 j1 fun (m1:Int)=>
 au ⟨e,0,none⟩ 256 a1 1 fun n1=>
 St n1 (ni (i64 (m1+1))) j1 fun o1=>
 t k1 (i64 (x+1)) o1∧u k1 (i64 (x+1)) o1<u v x y)
 (R v y))):Cl Pg [kS] nU ⟨[(an a)]⟩ w R:=co Tryz.f279 [(7,[(5,kI)]),(14,[(6,kI)]),(27,[(7,kS),(8,kI)])] h
end Go.Proofs.YtgglghjnakclmaaGreat
namespace Go.Proofs.YtgglghjnakclmaaGreat
open Go Go.Vc Go.Bw Go.Hs
section
variable {E w:World} {F:List HP}
set_option maxRecDepth 20000 in
theorem JC {t:List Nat} {s:Sl} {i k:Int} {K:Bool→World→Prop} (h:Hp E w F) (hs:ad F (aH 1 s (t.map vB))) (hn:t.length≤du) (hK: ∀w',Hp E w' F→K (yK t i k) w'):
  Cl Tryz.prog [kB] pJ ⟨[.slice s.base s.len s.cap,.int .i64 i,.int .i64 k]⟩ w K:=by
 refine Ip.ok _ _ _ _ _ ?_
 simp only [aO]
 have hl:=(h.aj hs).1
 simp only [List.length_map,Nat.mul_one] at hl
 rw [aX] at hn
 have no: ¬(0≤i∧i≤t.length∧0≤k∧k≤t.length)→K false w:=fun hn=>by
  have:=hK w h
  unfold yK at this
  rwa [decide_eq_false hn,Bool.false_and] at this
 refine aa.mk (fun g=>no (by have:=of_decide_eq_true g;omega)) (fun g1=>aa.mk (fun g=>no (by have:=of_decide_eq_true g;omega)) (fun g2=>aa.mk (fun g=>no (by have:=of_decide_eq_true g;omega)) (fun g3=>aa.mk (fun g=>no (by have:=of_decide_eq_true g;omega)) (fun g4=> ?_))))
 have g1:=of_decide_eq_false g1
 have g2:=of_decide_eq_false g2
 have g3:=of_decide_eq_false g3
 have g4:=of_decide_eq_false g4
 obtain ⟨a0,rfl⟩:=Int.eq_ofNat_of_zero_le (show 0≤i by omega)
 obtain ⟨b0,rfl⟩:=Int.eq_ofNat_of_zero_le (show 0≤k by omega)
 have hK2: ∀w',Hp E w' F→K (sl t a0 b0) w':=fun w' h'=>by
  have:=hK w' h'
  unfold yK at this
  rwa [decide_eq_true ⟨by omega,by omega,by omega,by omega⟩,Bool.true_and,Int.toNat_natCast,Int.toNat_natCast] at this
 refine ⟨fun x y w'=> ∃a b:Nat,x=(a:Int)∧y=(b:Int)∧a≤t.length∧b≤t.length∧sl t a b=sl t a0 b0∧Hp E w' F,fun x _ _=>t.length - x.toNat,⟨a0,b0,rfl,rfl,by omega,by omega,rfl,h⟩,?_⟩
 rintro x y w1 ⟨a,b,rfl,rfl,ha,hb,hab,h1⟩
 refine aY.mk h1 fun w2 h2=> ?_
 have fin:(a<t.length→b<t.length→t.getD a 0=t.getD b 0→a=b)→aa ((a:Int)==(b:Int)) (K false w2) (aa ((b:Int)==(s.len:Int)) (K false w2) (aY w2 fun w_20=>aa ((a:Int)==(s.len:Int)) (K true w_20) (ay s (a:Int) 1 fun q21=>Ld (ao .u8) q21 w_20 fun x22=>ay s (b:Int) 1 fun q23=>Ld (ao .u8) q23 w_20 fun x24=>K (decide (x22<x24)) w_20))):=fun hd=>by
  refine aa.mk (fun e=> ?_) (fun e=>aa.mk (fun e2=> ?_) (fun e2=>aY.mk h2 fun w3 h3=>aa.mk (fun e3=> ?_) (fun e3=> ?_)))
  ·have e:a=b:=by have:=beq_iff_eq.1 e;omega
   have:=hK2 w2 h2
   rw [←hab,e,(lH t).irr] at this;exact this
  ·have e2:b=t.length:=by have:=beq_iff_eq.1 e2;omega
   have:=hK2 w2 h2
   have e4:sl t a b=false:=by unfold sl;rw [e2,List.drop_length,zx]
   rw [←hab,e4] at this;exact this
  ·have e2:b<t.length:=by have:=beq_eq_false_iff_ne.1 e2;omega
   have e3:a=t.length:=by have:=beq_iff_eq.1 e3;omega
   have:=hK2 w3 h3
   have e4:sl t a b=true:=by unfold sl;rw [e3,List.drop_length,sN e2];rfl
   rw [←hab,e4] at this;exact this
  ·have e:=beq_eq_false_iff_ne.1 e
   have e2:b<t.length:=by have:=beq_eq_false_iff_ne.1 e2;omega
   have e3:a<t.length:=by have:=beq_eq_false_iff_ne.1 e3;omega
   have hne:t.getD a 0≠t.getD b 0:=fun h=>e (by rw [hd e3 e2 h])
   refine ay.nB (h3.aj hs) rfl e3 (ay.nB (h3.aj hs) rfl e2 ?_)
   have:=hK2 w3 h3
   have e4:sl t a b=decide ((t.getD a 0:Int)<(t.getD b 0:Int)):=by
    rw [zZ e3 e2,beq_eq_false_iff_ne.2 hne,Bool.false_and,Bool.or_false,decide_eq_decide];omega
   rw [←hab,e4] at this;exact this
 refine aa.mk (fun c1=>aa.mk (fun c2=> ?_) (fun c2=>fin fun _ hb' _=>by have:=of_decide_eq_false c2;omega)) (fun c1=>fin fun ha' _ _=>by have:=of_decide_eq_false c1;omega)
 have c1:a<t.length:=by have:=of_decide_eq_true c1;omega
 have c2:b<t.length:=by have:=of_decide_eq_true c2;omega
 refine ay.nB (h2.aj hs) rfl c1 (ay.nB (h2.aj hs) rfl c2 ?_)
 refine aa.mk (fun c3=>aa.mk (fun c4=> ?_) (fun c4=>fin fun _ _ _=>(by have h9:(a:Int)=(b:Int):=(by simpa using c4);omega))) (fun c3=>fin fun _ _ he=>absurd (by rw [he]) (beq_eq_false_iff_ne.1 c3))
 have c3:t.getD a 0=t.getD b 0:=by have:=beq_iff_eq.1 c3;omega
 refine ⟨⟨a+1,b+1,by rw [ab (by omega)];omega,by rw [ab (by omega)];omega,by omega,by omega,?_,h2⟩,by dsimp only;rw [ab (x:=(a:Int)+1) (by omega)];omega⟩
 rw [←hab,zZ c1 c2,c3];simp
set_option maxRecDepth 20000 in
theorem H6 {t:List Nat} {s:Sl} {K:Sl→World→Prop} (h:Hp E w F) (hs:ad F (aH 1 s (t.map vB))) (hn:t.length≤400000)
  (hK: ∀s' w',Hp E w' (av 1 s' ((zl (ep t)).map vI)::F)→K s' w'):Cl Tryz.prog [kS] nY ⟨[.slice s.base s.len s.cap]⟩ w K:=by
 refine Gf.ok _ _ _ ?_
 have hl:=(h.aj hs).1
 simp only [List.length_map,Nat.mul_one] at hl
 refine ⟨fun o i w'=> ∃(k:Nat) (L:List Nat),i=(k:Int)∧k≤t.length+1∧L.Perm (List.range k)∧L.Pairwise (fun a b=>sl t a b=true)∧Hp E w' (av 1 o ((zl L).map vI)::F),fun _ i _=>t.length+1 - i.toNat,⟨0,[],rfl,by omega,List.Perm.refl _,List.Pairwise.nil,h.aU 1⟩,?_⟩
 rintro o i w1 ⟨k,L,rfl,hk,hp,hpw,h1⟩
 have hLl:L.length=k:=by rw [hp.length_eq,List.length_range]
 have hol:=h1.bK
 rw [List.length_map,jT,Nat.mul_one] at hol
 have hcap:=h1.ik
 refine aa.mk (fun hlt=> ?_) (fun hge=> ?_)
 ·have hlt:k≤t.length:=by have:=of_decide_eq_true hlt;omega
  have hin: ∀j (hj:j<L.length),L[j]<k:=fun j hj=>by
   have:=hp.mem_iff.1 (List.getElem_mem hj)
   rwa [List.mem_range] at this
  have hgd: ∀j (hj:j<L.length),(zl L).getD j 0=(L[j]:Int):=fun j hj=>by simp [zl,List.getD,hj]
  refine ⟨fun c w'=> ∃m:Nat,c=(m:Int)∧m≤k∧(∀j (hj:j<L.length),m≤j→sl t k L[j]=true)∧Hp E w' (av 1 o ((zl L).map vI)::F),fun c _=>c.toNat,⟨k,by omega,by omega,fun j hj h=>by omega,h1⟩,?_⟩
  rintro c w2 ⟨m,rfl,hm,hgt,h2⟩
  have fin: ∀{w3:World},Hp E w3 (av 1 o ((zl L).map vI)::F)→(m=0∨∃hj:m - 1<L.length,sl t k L[m - 1]=false)→
    bj o 0 (m:Int) (o.cap:Int) 1 fun s15=>ar Tryz.prog (Builtin.append_ #[142,142] 142 ⟨[.slice none 0 0,.slice s15.base s15.len s15.cap]⟩) kS w3 fun s17 w_16=>
     Nw 3 ⟨[.int .i64 (k:Int)]⟩ w_16 fun b19 w_18=>ar Tryz.prog (Builtin.append_ #[142,142] 142 ⟨[.slice s17.base s17.len s17.cap,.slice (some ⟨b19,0,none⟩) 1 1]⟩) kS w_18 fun s21 w_20=>
     bj o (m:Int) (o.len:Int) (o.cap:Int) 1 fun s22=>ar Tryz.prog (Builtin.append_ #[142,142] 142 ⟨[.slice s21.base s21.len s21.cap,.slice s22.base s22.len s22.cap]⟩) kS w_20 fun s24 w_23=>
     (∃(k':Nat) (L':List Nat),i64 ((k:Int)+1)=(k':Int)∧k'≤t.length+1∧L'.Perm (List.range k')∧L'.Pairwise (fun a b=>sl t a b=true)∧Hp E w_23 (av 1 s24 ((zl L').map vI)::F))∧t.length+1 - (i64 ((k:Int)+1)).toNat<t.length+1 - (k:Int).toNat:=fun {w3} h3 hst=>by
   refine bj.rd (h3.aj ad.own) (by omega) (by omega) (by omega) (by omega) (by omega) fun s15 h15 hl15=> ?_
   have ht15:aH 1 s15 ((zl (L.take m)).map vI) w3:=by
    have:=h15 w3 (h3.aj ad.own)
    rwa [show (0:Int).toNat=0 from rfl,List.drop_zero,Nat.sub_zero,Int.toNat_natCast,←List.map_take,show (zl L).take m=zl (L.take m) by unfold zl;rw [List.map_take]] at this
   have hA:=h3.aU 1
   refine bf (s:=⟨none,0,0⟩) (ys:=(zl (L.take m)).map vI) (n:=m) yy (by decide) (.inl ⟨3,by kernel_rfl⟩) hA (.inl ⟨s15.base,s15.len,s15.cap,rfl,by rw [hl15];omega,ht15⟩) (by rw [List.length_map,jT,List.length_take];omega) qy (by show (2*(0+m)+1024)*8≤2^48;omega) (by show 0+m<2^62;omega) fun s17 w4 h4 hs17=> ?_
   rw [List.nil_append] at h4
   refine T7 yy rfl h4 (by rw [jT,List.length_take,aX];omega) fun s21 w5 h5 hs21=> ?_
   rw [jT,List.length_take] at hs21
   refine bj.rd (h5.aj (ad.cons ad.own)) (by omega) (by omega) (by omega) (by omega) (by omega) fun s22 h22 hl22=> ?_
   have ht22:aH 1 s22 ((zl (L.drop m)).map vI) w5:=by
    have:=h22 w5 (h5.aj (ad.cons ad.own))
    rwa [Int.toNat_natCast,Int.toNat_natCast,←List.map_drop,List.take_of_length_le (by rw [List.length_map,List.length_drop,jT];omega),show (zl L).drop m=zl (L.drop m) by unfold zl;rw [List.map_drop]] at this
   refine bf (ys:=(zl (L.drop m)).map vI) (n:=k - m) yy (by decide) (.inl ⟨3,by kernel_rfl⟩) h5 (.inl ⟨s22.base,s22.len,s22.cap,rfl,by rw [hl22];omega,ht22⟩) (by rw [List.length_map,jT,List.length_drop];omega) qy (by omega) (by omega) fun s24 w6 h6 hs24=> ?_
   rw [ab (by omega)]
   refine ⟨⟨k+1,L.take m++ [k]++L.drop m,by omega,by omega,?_,?_,?_⟩,by omega⟩
   ·rw [List.range_succ]
    refine (List.Perm.append_right _ List.perm_append_comm).trans ?_
    rw [List.append_assoc,List.take_append_drop]
    exact (List.perm_append_comm (l₁:= [k]) (l₂:=L)).trans (hp.append_right _)
   ·have hlo: ∀a∈L.take m,sl t a k=true:=fun a ha=>by
     obtain ⟨j,hj,rfl⟩:=List.getElem_of_mem ha
     rw [List.length_take] at hj
     rw [List.getElem_take]
     rcases hst with h0|⟨hj1,hf⟩
     ·omega
     ·have hne:L[m - 1]≠k:=by have:=hin (m - 1) hj1;omega
      have h8:sl t L[m - 1] k=true:=by
       rcases sj t k (jv.2 hlt) L[m - 1] (jv.2 (by have:=hin (m - 1) hj1;omega)) (fun e=>hne e.symm) with h9|h9
       ·rw [hf] at h9;cases h9
       ·exact h9
      by_cases e:j=m - 1
      ·subst e;exact h8
      ·exact (lH t).trans _ _ _ (List.pairwise_iff_getElem.1 hpw j (m - 1) (by omega) hj1 (by omega)) h8
    have hhi: ∀b∈L.drop m,sl t k b=true:=fun b hb=>by
     obtain ⟨j,hj,rfl⟩:=List.getElem_of_mem hb
     rw [List.length_drop] at hj
     rw [List.getElem_drop]
     exact hgt _ (by omega) (by omega)
    rw [List.append_assoc]
    refine List.pairwise_append.2 ⟨hpw.sublist (List.take_sublist ..),List.pairwise_append.2 ⟨by simp,hpw.sublist (List.drop_sublist ..),fun a ha b hb=> ?_⟩,fun a ha b hb=> ?_⟩
    ·rw [List.mem_singleton] at ha
     subst ha;exact hhi b hb
    ·rcases List.mem_append.1 hb with hb|hb
     ·rw [List.mem_singleton] at hb
      subst hb;exact hlo a ha
     ·exact (lH t).trans _ _ _ (hlo a ha) (hhi b hb)
   ·have e:(zl (L.take m)++ [(k:Int)]).map vI++(zl (L.drop m)).map vI=(zl (L.take m++ [k]++L.drop m)).map vI:=by
     rw [KO,KO,List.map_append,List.map_append,List.map_append];rfl
    rw [e] at h6
    exact h6.p1.drop
  refine aa.mk (fun hpos=> ?_) (fun hpos=>fin h2 (.inl (by have:=of_decide_eq_false hpos;omega)))
  have hpos:0<m:=by have:=of_decide_eq_true hpos;omega
  have e1:i64 ((m:Int) - 1)=((m - 1:Nat):Int):=by rw [ab (by omega)];omega
  rw [e1]
  refine ay.nI (h2.aj ad.own) rfl (by rw [jT];omega) ?_
  rw [hgd (m - 1) (by omega)]
  have hlm:=hin (m - 1) (by omega)
  refine JC h2 (ad.cons hs) (by rw [aX];omega) fun w3 h3=> ?_
  have hle:yK t (k:Int) (L[m - 1]:Int)=sl t k L[m - 1]:=by
   unfold yK
   rw [decide_eq_true ⟨by omega,by omega,by omega,by omega⟩,Bool.true_and,Int.toNat_natCast,Int.toNat_natCast]
  rw [hle]
  refine aa.mk (fun hsl=> ?_) (fun hsl=>fin h3 (.inr ⟨by omega,hsl⟩))
  refine ⟨⟨m - 1,rfl,by omega,fun j hj hmj=> ?_,h3⟩,by dsimp only;omega⟩
  by_cases e:j=m - 1
  ·subst e;exact hsl
  ·exact hgt j hj (by omega)
 ·have hge:k=t.length+1:=by have:=of_decide_eq_false hge;omega
  subst hge
  have:L=ep t:=Rk.AR (lH t) (hp.trans (Rk.gh (lt:=sl t) (rows t)).symm) hpw (wj t)
  rw [this] at h1
  exact hK o w1 h1
end
end Go.Proofs.YtgglghjnakclmaaGreat
namespace Go.Proofs.YtgglghjnakclmaaGreat
open Go Go.Vc Go.Bw Go.Hs
section
variable {E w:World} {F:List HP}
set_option maxRecDepth 200000 in
theorem Kn {t:List Nat} {s:Sl} {K:Sl→Int→World→Prop} (h:Hp E w F) (hs:ad F (aH 1 s (t.map vB))) (hn:t.length≤400000)
  (hK: ∀s' w',Hp E w' (av 1 s' ((a7 t).map vB)::F)→K s' (cU t:Int) w'):Cl Tryz.prog [kS,kI] qe ⟨[.slice s.base s.len s.cap]⟩ w K:=by
 refine Ik.ok _ _ _ ?_
 have hl:=(h.aj hs).1
 simp only [List.length_map,Nat.mul_one] at hl
 refine H6 h hs hn fun s3 w1 h1=> ?_
 have hl3:=h1.bK
 rw [List.length_map,jT,xH,Nat.mul_one] at hl3
 refine ⟨fun o ix i w'=> ∃k:Nat,i=(k:Int)∧k≤t.length+1∧ix=(if cU t<k then (cU t:Int) else 0)∧Hp E w' (av 1 o (((((ep t).take k).filter fun i=>i !=0).map fun i=>t.getD (i - 1) 0).map vB)::av 1 s3 ((zl (ep t)).map vI)::F),
  fun _ _ i _=>t.length+1 - i.toNat,⟨0,rfl,by omega,rfl,h1.aU 1⟩,?_⟩
 rintro o ix i w2 ⟨k,rfl,hk,rfl,h2⟩
 refine aa.mk (fun hlt=> ?_) (fun hge=> ?_)
 ·have hlt:k<t.length+1:=by have:=of_decide_eq_true hlt;omega
  have hko:k<(ep t).length:=by rw [xH];exact hlt
  have hix:=EX t hko
  have hle:(ep t)[k]≤t.length:=L9.1 (List.getElem_mem hko)
  have e0:(zl (ep t)).getD k 0=((ep t)[k]:Int):=by simp [zl,List.getD,hko]
  refine ay.nI (h2.aj (ad.cons ad.own)) rfl (by rw [jT];exact hko) ?_
  rw [e0]
  have hf:=xT hko
  refine aa.mk (fun hz=> ?_) (fun hz=> ?_)
  ·have hz:(ep t)[k]=0:=by have:=beq_iff_eq.1 hz;omega
   rw [if_pos hz,List.append_nil] at hf
   have hke:=hix.1 hz
   refine ⟨⟨k+1,by rw [ab (by omega)];omega,by omega,by rw [if_pos (by omega)];omega,by rw [hf];exact h2⟩,by dsimp only;rw [ab (by omega)];omega⟩
  ·have hz:(ep t)[k]≠0:=by have:=beq_eq_false_iff_ne.1 hz;omega
   rw [if_neg hz] at hf
   have hke:k≠cU t:=fun e=>hz (hix.2 e)
   refine ay.nI (h2.aj (ad.cons ad.own)) rfl (by rw [jT];exact hko) ?_
   rw [e0]
   have e1:i64 (((ep t)[k]:Int) - 1)=(((ep t)[k] - 1:Nat):Int):=by rw [ab (by omega)];omega
   rw [e1]
   refine ay.nB (h2.aj (ad.cons (ad.cons hs))) rfl (by omega) ?_
   refine Cb B9 rfl h2 (by rw [List.length_map,aX];exact Nat.le_trans (List.length_filter_le ..) (by rw [List.length_take];omega)) fun s' w3 h3 _=>⟨⟨k+1,by rw [ab (by omega)];omega,by omega,?_,?_⟩,by dsimp only;rw [ab (x:=(k:Int)+1) (by omega)];omega⟩
   ·by_cases e:cU t<k
    ·rw [if_pos e,if_pos (by omega)]
    ·rw [if_neg e,if_neg (by omega)]
   ·rw [hf,List.map_append]
    exact h3
 ·have hge:k=t.length+1:=by have:=of_decide_eq_false hge;omega
  subst hge
  have hil:=zR t
  rw [if_pos (by omega)]
  rw [List.take_of_length_le (by rw [xH];exact Nat.le_refl _)] at h2
  exact hK o w2 h2.p1.drop
def nq (last:List Nat):List Int:=(List.range last.length).map fun i=>(nx last i:Int)
theorem LG {last:List Nat} {k c:Nat} (hk:k<last.length):bE (last.take (k+1)) c=bE (last.take k) c+if last.getD k 0<c then 1 else 0:=by
 unfold bE
 rw [List.take_add_one,List.getElem?_eq_getElem hk,List.countP_append]
 simp [List.getD,hk]
set_option maxRecDepth 20000 in
theorem IG {last:List Nat} {s:Sl} {K:Sl→World→Prop} (h:Hp E w F) (hs:ad F (aH 1 s (last.map vB))) (hb: ∀x∈last,x<256) (hn:last.length≤400000)
  (hK: ∀s' w',Hp E w' (av 1 s' ((nq last).map vI)::F)→K s' w'):Cl Tryz.prog [kS] nU ⟨[.slice s.base s.len s.cap]⟩ w K:=by
 refine FT.ok _ _ _ ?_
 rw [Vc.Ax]
 have hl:=(h.aj hs).1
 simp only [List.length_map,Nat.mul_one] at hl
 have hg: ∀k,k<last.length→last.getD k 0<256:=fun k hk=>by
  rw [List.getD,List.getElem?_eq_getElem hk]
  exact hb _ (List.getElem_mem hk)
 have hcb: ∀(k c:Nat),bE (last.take k) c≤last.length:=fun k c=>by
  refine Nat.le_trans List.countP_le_length ?_
  rw [List.length_take];omega
 have hcl: ∀(k c:Nat),(last.take k).count c≤last.length:=fun k c=>by
  refine Nat.le_trans List.count_le_length ?_
  rw [List.length_take];omega
 refine Nw.mk h fun b3 w1 h1=>Nw.mk h1 fun b5 w2 h2=> ?_
 refine ⟨fun i w'=> ∃(k:Nat) (u:List Int),i=(k:Int)∧k≤last.length∧u.length=256∧(∀c,c<256→u.getD c 0=(bE (last.take k) c:Int))∧Hp E w' (af b3 (.cells (Vc.aT u) 351 (0,0))::af b5 (.cells (Vc.aT (List.replicate 256 0)) 351 (0,0))::F),fun i _=>last.length - i.toNat,
  ⟨0,_,rfl,by omega,List.length_replicate,fun c hc=>by rw [Gs];simp [bE],h2.p1⟩,?_⟩
 rintro i w3 ⟨k,u,rfl,hk,hul,hu,h3⟩
 refine aa.mk (fun hlt=> ?_) (fun hge=> ?_)
 ·have hlt:k<last.length:=by have:=of_decide_eq_true hlt;omega
  have hx:=hg k hlt
  refine ay.nB (h3.aj (ad.cons (ad.cons hs))) rfl hlt ?_
  rw [ab (x:=(last.getD k 0:Int)) (by omega),ab (x:=(last.getD k 0:Int)+1) (by omega)]
  refine ⟨fun c w'=> ∃(m:Nat) (v:List Int),c=(m:Int)∧last.getD k 0<m∧m≤256∧v.length=256∧(∀c,c<256→v.getD c 0=(bE (last.take k) c:Int)+if last.getD k 0<c∧c<m then 1 else 0)∧Hp E w' (af b3 (.cells (Vc.aT v) 351 (0,0))::af b5 (.cells (Vc.aT (List.replicate 256 0)) 351 (0,0))::F),fun c _=>256 - c.toNat,
   ⟨last.getD k 0+1,u,by omega,by omega,by omega,hul,fun c hc=>by rw [hu c hc,if_neg (by omega)];omega,h3⟩,?_⟩
  rintro c w4 ⟨m,v,rfl,hm1,hm2,hvl,hv,h4⟩
  refine aa.mk (fun hmlt=> ?_) (fun hmge=> ?_)
  ·have hmlt:m<256:=by have:=of_decide_eq_true hmlt;omega
   have hvm:=hv m hmlt
   rw [if_neg (by omega)] at hvm
   have hbm:=hcb k m
   refine au.aT (j:=m) h4 rfl hvl hmlt (au.IH (j:=m) h4 rfl hvl hmlt fun w5 h5=> ?_)
   rw [ab (x:=(m:Int)+1) (by omega)]
   refine ⟨⟨m+1,_,by omega,by omega,by omega,by rw [List.length_set];exact hvl,fun c hc=> ?_,h5⟩,by dsimp only;omega⟩
   rw [xM (by omega)]
   by_cases e:c=m
   ·subst e
    rw [if_pos rfl,hvm,if_pos (by omega),ab (by omega)];omega
   ·rw [if_neg e,hv c hc]
    by_cases e2:last.getD k 0<c∧c<m
    ·rw [if_pos e2,if_pos (by omega)]
    ·rw [if_neg e2,if_neg (by omega)]
  ·have hme:m=256:=by have:=of_decide_eq_false hmge;omega
   subst hme
   rw [ab (x:=(k:Int)+1) (by omega)]
   refine ⟨⟨k+1,v,by omega,by omega,hvl,fun c hc=> ?_,h4⟩,by dsimp only;omega⟩
   rw [hv c hc,LG hlt]
   by_cases e:last.getD k 0<c
   ·rw [if_pos ⟨e,hc⟩,if_pos e];omega
   ·rw [if_neg (by omega),if_neg e];omega
 have hge:k=last.length:=by have:=of_decide_eq_false hge;omega
 subst hge
 rw [List.take_length] at hu
 refine ⟨fun o i w'=> ∃(k:Nat) (v:List Int),i=(k:Int)∧k≤last.length∧v.length=256∧(∀c,c<256→v.getD c 0=((last.take k).count c:Int))∧Hp E w' (av 1 o (((List.range k).map fun i=>(nx last i:Int)).map vI)::af b3 (.cells (Vc.aT u) 351 (0,0))::af b5 (.cells (Vc.aT v) 351 (0,0))::F),fun _ i _=>last.length - i.toNat,
  ⟨0,_,rfl,by omega,List.length_replicate,fun c hc=>by rw [Gs];simp,h3.aU 1⟩,?_⟩
 rintro o i w4 ⟨k,v,rfl,hk,hvl,hv,h4⟩
 refine aa.mk (fun hlt=> ?_) (fun hge=> ?_)
 ·have hlt:k<last.length:=by have:=of_decide_eq_true hlt;omega
  have hx:=hg k hlt
  have hvx:=hv _ hx
  have hux:=hu _ hx
  have hcx:=hcl k (last.getD k 0)
  have hnx:=Ep hlt
  have hnl:=Cn hlt
  have hcb':bE last (last.getD k 0)≤last.length:=List.countP_le_length
  refine ay.nB (h4.aj (ad.cons (ad.cons (ad.cons hs)))) rfl hlt ?_
  refine ⟨dQ E [af b3 (.cells (Vc.aT u) 351 (0,0)),af b5 (.cells (Vc.aT v) 351 (0,0))],⟨av 1 o (((List.range k).map fun i=>(nx last i:Int)).map vI)::F,(h4.drew (n:=w4.drawn+1)).perm (by
   simp only [List.cons_append]
   refine List.Perm.cons _ ?_
   exact List.perm_append_comm (l₁:= [_,_]) (l₂:=F))⟩,?_⟩
  have m3: ∀w,dQ E [af b3 (.cells (Vc.aT u) 351 (0,0)),af b5 (.cells (Vc.aT v) 351 (0,0))] w→∃G,Hp E w (af b3 (.cells (Vc.aT u) 351 (0,0))::G):=fun w h=>h.front
  have m5: ∀w,dQ E [af b3 (.cells (Vc.aT u) 351 (0,0)),af b5 (.cells (Vc.aT v) 351 (0,0))] w→∃G,Hp E w (af b5 (.cells (Vc.aT v) 351 (0,0))::G):=fun w h=>h.DE
  refine au.Uq m3 (j:=last.getD k 0) rfl hul (by omega) (au.Uq m5 (j:=last.getD k 0) rfl hvl (by omega) ?_)
  have e1:i64 (i64 (1+u.getD (last.getD k 0) 0)+v.getD (last.getD k 0) 0)=(nx last k:Int):=by
   rw [hux,hvx,ab (x:=1+(bE last (last.getD k 0):Int)) (by omega),ab (by omega)];omega
  rw [e1]
  have has: ∀{w':World} {A:List HP},Hp E w' (A++(af b3 (.cells (Vc.aT u) 351 (0,0))::af b5 (.cells (Vc.aT v) 351 (0,0))::F))→dQ E [af b3 (.cells (Vc.aT u) 351 (0,0)),af b5 (.cells (Vc.aT v) 351 (0,0))] w':=fun {w' A} h'=>
   ⟨A++F,h'.perm (by rw [List.append_assoc];exact List.Perm.append_left _ (List.perm_append_comm (l₁:= [_,_]) (l₂:=F)))⟩
  have h5:=h4.drew (n:=w4.drawn+1)
  refine Nw.mk h5 fun b34 w5 h6=>⟨has (A:= [_,_]) h6,?_⟩
  have hol:=h6.drop.bK
  rw [List.length_map,List.length_map,List.length_range,Nat.mul_one] at hol
  refine bf (ys:= [vI (nx last k:Int)]) (n:=1) yy (by decide) (.inl ⟨3,by kernel_rfl⟩) h6.p1 (.inl ⟨some ⟨b34,0,none⟩,1,1,rfl,rfl,h6.aj (ad.az rfl rfl)⟩) rfl (fun y hy=>by rw [List.mem_singleton] at hy;subst hy;rfl) (by omega) (by omega) fun s36 w6 h7 _=>⟨has (A:= [_,_]) h7,?_⟩
  have h7:=h7.p1.drop
  refine au.aT (j:=last.getD k 0) h7.p2 rfl hvl (by omega) (au.IH (j:=last.getD k 0) h7.p2 rfl hvl (by omega) fun w7 h8=> ?_)
  rw [ab (x:=(k:Int)+1) (by omega)]
  refine ⟨⟨k+1,v.set (last.getD k 0) (i64 (v.getD (last.getD k 0) 0+1)),by omega,by omega,by rw [List.length_set];exact hvl,fun c hc=> ?_,?_⟩,by dsimp only;omega⟩
  ·rw [xM (by omega),List.take_add_one,List.getElem?_eq_getElem hlt,List.count_append]
   have e:last.getD k 0=last[k]:=by simp [List.getD,hlt]
   by_cases ec:c=last.getD k 0
   ·subst ec
    rw [if_pos rfl,hvx,ab (by omega),e];simp
   ·rw [if_neg ec,hv c hc]
    have:List.count c (some last[k]).toList=0:=by
     rw [List.count_eq_zero]
     simp only [Option.toList_some,List.mem_singleton]
     rw [←e];exact ec
    rw [this];simp
  ·rw [List.range_succ,List.map_append,List.map_append]
   exact h8.q2
 ·have hge:k=last.length:=by have:=of_decide_eq_false hge;omega
  subst hge
  exact hK o w4 h4.p1.drop.p1.drop
set_option maxRecDepth 200000 in
theorem rD {b:List Nat} {s:Sl} {K:Sl→World→Prop} (h:Hp E w F) (hs:ad F (aH 1 s (b.map vB))) (hn:b.length≤400000)
  (hK: ∀s' w',Hp E w' (av 1 s' (b.reverse.map vB)::F)→K s' w'):Cl Tryz.prog [kS] gE ⟨[.slice s.base s.len s.cap]⟩ w K:=by
 refine Ef.ok _ _ _ ?_
 have hl:=(h.aj hs).1
 simp only [List.length_map,Nat.mul_one] at hl
 refine ⟨fun o i w'=> ∃k:Nat,i=(b.length:Int) - 1 - (k:Int)∧k≤b.length∧Hp E w' (av 1 o ((b.reverse.take k).map vB)::F),fun _ i _=>(i+1).toNat,⟨0,by rw [ab (by omega)];omega,by omega,h.aU 1⟩,?_⟩
 rintro o i w1 ⟨k,rfl,hk,h1⟩
 refine aa.mk (fun hge=> ?_) (fun hlt=> ?_)
 ·have hge:k<b.length:=by have:=of_decide_eq_true hge;omega
  refine ay.nB (j:=b.length - 1 - k) (h1.aj (ad.cons hs)) (by omega) (by omega) ?_
  refine Cb B9 rfl h1 (by rw [List.length_take,List.length_reverse,aX];omega) fun s' w2 h2 _=>⟨⟨k+1,by rw [ab (by omega)];omega,by omega,?_⟩,by dsimp only;rw [ab (by omega)];omega⟩
  have e:b.reverse.take (k+1)=b.reverse.take k++ [b.getD (b.length - 1 - k) 0]:=by
   rw [List.take_add_one,List.getElem?_reverse hge]
   simp [List.getD,show b.length - 1 - k<b.length by omega]
  rw [e];exact h2
 ·have hke:k=b.length:=by have:=of_decide_eq_false hlt;omega
  subst hke
  rw [List.take_of_length_le (by rw [List.length_reverse];exact Nat.le_refl _)] at h1
  exact hK o w1 h1
set_option maxRecDepth 20000 in
theorem Ke {last:List Nat} {s:Sl} {index:Int} {K:Sl→Int→World→Prop} (h:Hp E w F) (hs:ad F (aH 1 s (last.map vB))) (hb: ∀x∈last,x<256) (hn:last.length≤400000)
  (hK1:LZ last index→∀s' w',Hp E w' (av 1 s' ((bY last index.toNat).map vB)::F)→K s' 0 w') (hK2: ¬LZ last index→∀w',Hp E w' F→K ⟨none,0,0⟩ 170 w'):
  Cl Tryz.prog [kS,kI] pT ⟨[.slice s.base s.len s.cap,.int .i64 index]⟩ w K:=by
 refine HM.ok _ _ _ _ ?_
 simp only [aO]
 have hl:=(h.aj hs).1
 simp only [List.length_map,Nat.mul_one] at hl
 refine aa.mk (fun g=>hK2 (fun hh=>by have:=of_decide_eq_true g;have:=hh.1;omega) w h) (fun g1=> ?_)
 refine aa.mk (fun g=>hK2 (fun hh=>by have:=of_decide_eq_true g;have:=hh.2.1;have:=hh.1;omega) w h) (fun g2=> ?_)
 have g1:=of_decide_eq_false g1
 have g2:=of_decide_eq_false g2
 obtain ⟨ix,rfl⟩:=Int.eq_ofNat_of_zero_le (show 0≤index by omega)
 rw [Int.toNat_natCast] at hK1
 have hix:ix≤last.length:=by omega
 refine aa.mk (fun g3=>aa.mk (fun g4=>hK2 (fun hh=> ?_) w h) (fun g4=> ?_)) (fun g3=> ?_)
 ·have g3:=beq_iff_eq.1 g3
  have g4:=of_decide_eq_true g4
  have:=hh.2
  rw [g3] at this
  exact MJ (by omega) this
 all_goals
  refine IG h hs hb hn fun s6 w1 h1=> ?_
  have hag: ∀a,a<last.length→(nq last).getD a 0=(nx last a:Int):=fun a ha=>by
   unfold nq
   rw [List.getD,List.getElem?_map,List.getElem?_range ha];rfl
  have hal:(nq last).length=last.length:=by unfold nq;rw [List.length_map,List.length_range]
  refine ⟨fun o row i w'=> ∃k:Nat,i=(k:Int)∧k≤last.length∧row=(wk last ix k:Int)∧(∀j,j<k→wk last ix j≠ix)∧
    Hp E w' (av 1 o (((List.range k).map fun j=>last.getD (bx ix (wk last ix j)) 0).map vB)::av 1 s6 ((nq last).map vI)::F),fun _ _ i _=>last.length - i.toNat,⟨0,rfl,by omega,rfl,fun j hj=>by omega,h1.aU 1⟩,?_⟩
  rintro o row i w2 ⟨k,rfl,hk,rfl,hne,h2⟩
  have hwl:=Ca hix k hne
  refine aa.mk (fun hlt=> ?_) (fun hge=> ?_)
  ·have hlt:k<last.length:=by have:=of_decide_eq_true hlt;omega
   refine aa.mk (fun he=>hK2 (fun hh=> ?_) w2 h2.drop.drop) (fun he=> ?_)
   ·have h5:=hh.2.2.1 k hlt
    rw [Int.toNat_natCast] at h5
    have:=beq_iff_eq.1 he
    omega
   have he:wk last ix k≠ix:=by have:=beq_eq_false_iff_ne.1 he;omega
   have hat:=vw hix hwl he
   have step: ∀{w':World} {s':Sl},Hp E w' (av 1 s' ((((List.range k).map fun j=>last.getD (bx ix (wk last ix j)) 0)++ [last.getD (bx ix (wk last ix k)) 0]).map vB)::av 1 s6 ((nq last).map vI)::F)→
     (∃k':Nat,i64 ((k:Int)+1)=(k':Int)∧k'≤last.length∧(nx last (bx ix (wk last ix k)):Int)=(wk last ix k':Int)∧(∀j,j<k'→wk last ix j≠ix)∧
      Hp E w' (av 1 s' (((List.range k').map fun j=>last.getD (bx ix (wk last ix j)) 0).map vB)::av 1 s6 ((nq last).map vI)::F))∧last.length - (i64 ((k:Int)+1)).toNat<last.length - (k:Int).toNat:=fun {w' s'} h'=>by
    rw [ab (by omega)]
    refine ⟨⟨k+1,by omega,by omega,rfl,fun j hj=> ?_,?_⟩,by omega⟩
    ·by_cases e:j=k
     ·subst e;exact he
     ·exact hne j (by omega)
    ·rw [List.range_succ,List.map_append]
     exact h'
   refine aa.mk (fun hgt=> ?_) (fun hgt=> ?_)
   ·have hgt:wk last ix k>ix:=by have:=of_decide_eq_true hgt;omega
    have e1:i64 ((wk last ix k:Int) - 1)=(bx ix (wk last ix k):Int):=by
     unfold bx
     rw [if_pos hgt,ab (by omega)];omega
    rw [e1]
    refine ay.nB (h2.aj (ad.cons (ad.cons hs))) rfl hat (Cb B9 rfl h2 (by rw [List.length_map,List.length_range,aX];omega) fun s' w3 h3 _=> ?_)
    refine ay.nI (h3.aj (ad.cons ad.own)) rfl (by rw [hal];exact hat) ?_
    rw [hag _ hat]
    exact step h3
   ·have hgt: ¬wk last ix k>ix:=by have:=of_decide_eq_false hgt;omega
    have e1:(wk last ix k:Int)=(bx ix (wk last ix k):Int):=by
     unfold bx
     rw [if_neg hgt]
    refine ay.nB (j:=bx ix (wk last ix k)) (h2.aj (ad.cons (ad.cons hs))) e1 hat (Cb B9 rfl h2 (by rw [List.length_map,List.length_range,aX];omega) fun s' w3 h3 _=> ?_)
    refine ay.nI (j:=bx ix (wk last ix k)) (h3.aj (ad.cons ad.own)) e1 (by rw [hal];exact hat) ?_
    rw [hag _ hat]
    exact step h3
  ·have hke:k=last.length:=by have:=of_decide_eq_false hge;omega
   subst hke
   refine aa.mk (fun g=>hK2 (fun hh=> ?_) w2 h2.drop.drop) (fun g=> ?_)
   ·have:=hh.2.2.2
    rw [Int.toNat_natCast] at this
    rw [this] at g
    simp at g
   ·have hend:wk last ix last.length=ix:=by
     have:(wk last ix last.length:Int)=(ix:Int):=by simpa using g
     omega
    have hok:LZ last (ix:Int):=⟨by omega,by rw [Int.toNat_natCast];exact ⟨hix,hne,hend⟩⟩
    exact rD h2 ad.own (by rw [List.length_map,List.length_range];exact hn) fun s' w3 h3=>hK1 hok s' w3 h3.p1.drop.p1.drop
end
end Go.Proofs.YtgglghjnakclmaaGreat
namespace Go.af
open Go.Inc Go.Srt Go.Sym Go.aE
def kv (l:List Nat):Nat→Nat→List Nat→Option (Nat×Nat)
 |_,_,[]=>none
 |c,n,x::r=>match cD l (2*c+x) (n+1) with
  |some y=>some (y,n+1)
  |none=>kv l (2*c+x) (n+1) r
theorem uX {l:List Nat} {c n x:Nat} {r:List Nat} (h:cD l (2*c+x) (n+1)=none):kv l c n (x::r)=kv l (2*c+x) (n+1) r:=by rw [kv,h]
theorem uY {l:List Nat} {c n x y:Nat} {r:List Nat} (h:cD l (2*c+x) (n+1)=some y):kv l c n (x::r)=some (y,n+1):=by rw [kv,h]
theorem zr {l:List Nat} {d:DS} {acc:List Nat}: ∀(bs:List Nat) (c n:Nat),kv l c n bs=none→∃s',run (dp l) ⟨c,n,d,acc⟩ bs= .short s'
 | [],c,n,_=>⟨_,rfl⟩
 |x::r,c,n,h=>by
  cases hf:cD l (2*c+x) (n+1) with
  |some y=>rw [uY hf] at h;cases h
  |none=>
   rw [uX hf] at h
   rw [cw (rO (s:=⟨c,n,d,acc⟩) hf)]
   exact zr r _ _ h
theorem EA {l:List Nat} {d:DS} {acc:List Nat} {y m:Nat}: ∀(bs:List Nat) (c n:Nat),kv l c n bs=some (y,m)→n<m∧m≤n+bs.length∧y<258∧
  run (dp l) ⟨c,n,d,acc⟩ bs=match bz d y with
   |none=> .bad 160
   |some (_,t,true)=> .fin (acc++t) (bs.drop (m - n))
   |some (d',t,false)=>run (dp l) ⟨0,0,d',acc++t⟩ (bs.drop (m - n))
 | [],c,n,h=>by cases h
 |x::r,c,n,h=>by
  cases hf:cD l (2*c+x) (n+1) with
  |some z=>
   rw [uY hf] at h
   cases h
   refine ⟨by omega,by rw [List.length_cons];omega,(lQ hf).1.1,?_⟩
   rw [cj,vM (s:=⟨c,n,d,acc⟩) hf,show n+1 - n=1 by omega,List.drop_one,List.tail_cons]
   dsimp only
   cases hd:bz d y with
   |none=>rfl
   |some p=>
    obtain ⟨d',t,b⟩:=p
    cases b<;>rfl
  |none=>
   rw [uX hf] at h
   obtain ⟨h1,h2,h3,h4⟩:=EA r _ _ h
   refine ⟨by omega,by rw [List.length_cons];omega,h3,?_⟩
   rw [cw (rO (s:=⟨c,n,d,acc⟩) hf),show m - n=(m - (n+1))+1 by omega,List.drop_succ_cons]
   exact h4
end Go.af
namespace Go.Proofs.YtgglghjnakclmaaGreat
open Go Go.Vc Go.Srt Go.Inc Go.Sym Go.Tab Go.Hd Go.Bw Go.aE Go.af Go.Crc
section
variable {E w:World} {F:List HP}
theorem A2 {s:Sl} {x:List Nat} {K:Sl→Int→World→Prop} (h:Hp E w F) (hs:ad F (aH 1 s (x.map vB))) (hn:x.length≤400000) (hK: ∀s' w',Hp E w' (OB s' (a7 x.reverse)::F)→K s' (cU x.reverse:Int) w'):
  Cl Tryz.prog [kS,kI] jA ⟨[.slice s.base s.len s.cap]⟩ w K:=by
 refine EW.ok _ _ _ ?_
 refine rD h hs hn fun s' w h=> ?_
 exact Kn h ad.own (by simpa using hn) fun s2 w h=>hK s2 w h.eA
theorem zm {s:Sl} {x:List Nat} {K:Sl→World→Prop} (h:Hp E w F) (hs:ad F (aH 1 s (x.map vB))) (hb: ∀y∈x,y<256) (hn:x.length≤400000) (hK: ∀s' w',Hp E w' (OI s' (syms (a7 x.reverse))::F)→K s' w'):
  Cl Tryz.prog [kS] iI ⟨[.slice s.base s.len s.cap]⟩ w K:=by
 refine B7.ok _ _ _ ?_
 refine A2 h hs hn fun s' w h=> ?_
 exact P3 h ad.own (vR fun y hy=>hb y (List.mem_reverse.1 hy)) (by rw [dO,List.length_reverse];omega) fun s2 w h=>hK s2 w h.eA
theorem Je {s:Sl} {x:List Nat} {K:Array Value→World→Prop} (h:Hp E w F) (hs:ad F (aH 1 s (x.map vB))) (hb: ∀y∈x,y<256) (hn:x.length≤400000) (hK: ∀w',Hp E w' F→K (ai .u8 (gT x)) w'):
  Cl Tryz.prog [.arr 258] lT ⟨[.slice s.base s.len s.cap]⟩ w K:=by
 refine BU.ok _ _ _ ?_
 have h257:=DN hb
 have hfew:=Dc hn
 have hct:=Qw h257
 have hall:(ints (syms (a7 x.reverse))).all Hs.uc=true:=by
  refine List.all_eq_true.2 fun z hz=> ?_
  obtain ⟨y,hy,rfl⟩:=List.mem_map.1 hz
  have:=h257 y hy
  exact Hs.oP.2 (by omega)
 have hmx:=Av (ss:=syms (a7 x.reverse)) (by omega)
 have hadd:Hs.g9 (List.replicate 258 0) (ints (syms (a7 x.reverse)))=some (ints (nG (syms (a7 x.reverse)))):=by
  rw [←hct]
  exact Hs.E1 (by decide) hall (by rw [hct];exact oA hmx)
 have hsz:(aT (ints (nG (syms (a7 x.reverse))))).size=258:=by rw [eZ,gb,mO]
 have hsc:(aT (ints (nG (syms (a7 x.reverse))))).toList.all aA=true:=List.all_eq_true.2 Vc.js
 have hls:(ai .u8 (gT x)).size=258:=by rw [aK];exact KC _
 have hlc:(ai .u8 (gT x)).toList.all aA=true:=List.all_eq_true.2 da
 refine Nw.mk h fun b3 w h=>zm h (ad.cons hs) hb hn fun s' w h=>Sv h ad.own (by rw [gb,aX];omega) fun w h=> ?_
 rw [show gx=List.replicate 258 0 from rfl,hadd]
 refine Nw.mk h fun b8 w h=>ak.q h (by simp) hsz hsc fun w h=>Ld.xw h hsz ?_
 refine PW (HQ (by omega)) h fun w h=> ?_
 refine Nw.mk h fun b15 w h=>ak.q h (by simp) hls hlc fun w h=>Ld.xw h hls ?_
 refine ak.q (b:=b3) h (by simp) hls hlc fun w h=>Ld.xw (b:=b3) h hls (hK w h.tl)
theorem P8 {n:Int} {s:Sl} {x:List Nat} {K:Sl→Int→World→Prop} (h:Hp E w F) (hs:ad F (aH 1 s (x.map vB))) (hb: ∀y∈x,y<256) (hn:x.length≤65536)
  (hgood:1≤n→n≤65536→1≤x.length→(x.length:Int)≤n→∀s' w',Hp E w' (OB s' (mA (gT x) x)::F)→K s' 0 w')
  (hbad: ¬(1≤n∧n≤65536∧1≤x.length∧(x.length:Int)≤n)→∀w',Hp E w' F→K ⟨none,0,0⟩ 2 w'):
  Cl Tryz.prog [kS,kI] pz ⟨[.int .i64 n,.slice s.base s.len s.cap]⟩ w K:=by
 refine Ic.ok _ _ _ _ ?_
 have hlen:x.length=s.len:=lB (h.aj hs)
 refine A2 h hs (by omega) fun s4 w h=>Nw.mk h fun b7 w h=> ?_
 have hcrc:cH x<4294967296:=lJ hb
 refine Co (s:=⟨some ⟨b7,0,none⟩,1,1⟩) (cs:= [s]) (bs:= [x]) h (ad.az rfl rfl) rfl (by rw [aX];simp) (fun i hi=> ?_) (by simpa using hb) (by simp [aX];omega) ?_
 ·match i,hi with
  |0,_=>exact ad.cons (ad.cons hs)
 rw [show [x].flatten=x by simp,show (s.len:Int)=(x.length:Int) by omega]
 have hidx:cU x.reverse≤x.length:=by
  by_cases h0:x= []
  ·subst h0;decide
  ·have:=o8 (t:=x.reverse) (by rw [List.length_reverse];exact List.length_pos_iff.2 h0)
   rw [List.length_reverse] at this;omega
 refine Li h (by omega) (by omega) hcrc (fun h1 h2 h3 h4 h5 h6 s11 w h=> ?_) (fun hno w h=> ?_)
 ·refine aa.nf rfl ?_
  have hL:=ot h3 (by omega) hb
  have hls:(ai .u8 (gT x)).size=258:=by rw [aK];exact hL.len
  have hlc:(ai .u8 (gT x)).toList.all aA=true:=List.all_eq_true.2 da
  have h15:=pO hL.ok
  have h8: ∀y∈gT x,y≤255:=fun y hy=>by have:=h15 y hy;omega
  refine Je h (ad.cons (ad.cons (ad.cons hs))) hb (by omega) fun w h=> ?_
  refine Nw.mk h fun b16 w h=> ?_
  refine ak.q h (by simp) hls hlc fun w h=> ?_
  refine Ld.xw h hls ?_
  refine QG h hL.len h8 (fun hno=>absurd hL.ok (by rw [hno];decide)) fun _ s20 w h=> ?_
  have h:=h.drew (n:=w.drawn+1)
  refine ⟨br b16 _ _ _,h.hb,aw.xw (fun _ h=>h) hls ?_⟩
  have hsl:=Dc (x:=x) (by omega)
  have hsl2:=pn (a7 x.reverse)
  rw [dO,List.length_reverse] at hsl2
  refine zm h (ad.cons (ad.cons (ad.cons (ad.cons (ad.cons hs))))) hb (by omega) fun s26 w h=>⟨h.hb,?_⟩
  refine Pz h hL.len h8 ad.own (by rw [gb];omega) (fun hno=>absurd ⟨hL.v,KS hL.good (DN hb)⟩ hno) fun _ _ s28 w h=>⟨h.hb,?_⟩
  rw [qF] at h
  have htl:=sY hL.len hL.ok
  have hel:=rQ hL.v (ints (syms (a7 x.reverse)))
  rw [qF,gb] at hel
  refine C3 (h.at 2) ad.own (by omega) (by omega) fun s31 w h=> ?_
  refine J4 h ad.own (qv _ _) (by rw [List.length_append];omega) fun s33 w h=> ?_
  have hpl:=qf (pR (gT x)++enc (gT x) (syms (a7 x.reverse)))
  rw [List.length_append] at hpl
  have hml:(lX x.length (cU x.reverse) (cH x)).length≤20:=by
   have h1:=ff (n:=x.length) (by omega)
   have h2:=ff (n:=cU x.reverse) (by omega)
   unfold lX
   simp [od]
   omega
  refine pH (h.at 5) ad.own (by omega) (by omega) fun s35 w h=>hgood h1 h2 h3 h4 s35 w ?_
  exact h.eA
 ·refine aa.nt (by decide) (hbad (fun hh=>hno ?_) w h.tl)
  have:=o8 (t:=x.reverse) (by rw [List.length_reverse];omega)
  rw [List.length_reverse] at this
  exact ⟨hh.1,hh.2.1,hh.2.2.1,hh.2.2.2,this.1,this.2⟩
theorem PA {l ys bs:List Nat} {s:Sl} {k:Nat} {K:Int→Int→Bool→World→Prop} (h:Hp E w F) (hl:l.length=258) (hok:bG l=true) (hys:cc l ys) (hs:ad F (aH 1 s ((ints bs).map vI))) (hb: ∀x∈bs,x≤1) (hbig:bs.length≤1000000000) (hk:k≤bs.length)
  (hno:kv l 0 0 (bs.drop k)=none→∀w',Hp E w' F→K 0 0 false w')
  (hyes: ∀y n:Nat,kv l 0 0 (bs.drop k)=some (y,n)→∀w',Hp E w' F→K (y:Int) (n:Int) true w'):
  Cl Tryz.prog [kI,kI,kB] pB ⟨[.agg (ai .u8 l),.agg (ai .u32 (bH l ys ys.length)),.slice s.base s.len s.cap,.int .i64 (k:Int)]⟩ w K:=by
 refine Ir.ok _ _ _ _ _ _ ?_
 have hlen:bs.length=s.len:=pN (h.aj hs)
 have hv:a9 l≤32768:=by rw [(k9.1 hok).1];decide
 refine Nw.mk h fun b6 w h=>Nw.mk h fun b8 w h=> ?_
 refine ⟨fun v n w'=> ∃c m:Nat,v=(c:Int)∧n=((m+1:Nat):Int)∧k+m≤bs.length∧lG l c m∧kv l 0 0 (bs.drop k)=kv l c m (bs.drop (k+m))∧
  Hp E w' (af b8 (.cells (ai .u32 (bH l ys ys.length)) 237 (0,0))::af b6 (.cells (ai .u8 l) 104 (0,0))::F),fun _ n _=>100 - n.toNat,⟨0,0,rfl,rfl,by omega,lG.zero hok,rfl,h⟩,?_⟩
 rintro v n w ⟨c,m,rfl,rfl,hkm,hvs,htl,h⟩
 have hm15:=hvs.2.1
 have hc2:c<16384:=by
  have:=hvs.2.2.1
  have:2^m≤2^14:=Nat.pow_le_pow_right (by decide) (by omega)
  omega
 rw [aO]
 dsimp only
 rw [ab (x:=(k:Int)+((m+1:Nat):Int)) (by omega)]
 refine aa.dt (by omega) (aa.dm (fun hlt=> ?_) (fun hge=> ?_))
 ·have hlt:k+m<bs.length:=by omega
  have hx:=hb _ (List.getElem_mem hlt)
  rw [ab (by omega)]
  refine ay.rI (j:=k+m) ((h.tl:Hp E _ F).aj hs) (by omega) hlt ?_
  rw [List.drop_eq_getElem_cons hlt] at htl
  generalize hxe:bs[k+m]=x at hx htl⊢
  rw [cN (x:=2*(c:Int)) (by omega),cN (x:=(x:Int)) (by omega),cN (by omega),show 2*(c:Int)+(x:Int)=((2*c+x:Nat):Int) by omega,ab (x:=((m+1:Nat):Int)+1) (by omega)]
  refine ⟨fun s w'=> ∃q:Nat,s=(q:Int)∧q≤258∧(∀t,t<q→¬(iG l t∧l.getD t 0=m+1∧code l t=2*c+x))∧
   Hp E w' (af b8 (.cells (ai .u32 (bH l ys ys.length)) 237 (0,0))::af b6 (.cells (ai .u8 l) 104 (0,0))::F),fun s _=>258 - s.toNat,⟨0,rfl,by omega,by omega,h⟩,?_⟩
  rintro s w ⟨q,rfl,hq,hnone,h⟩
  refine aa.dm (fun hlt2=> ?_) (fun hge2=> ?_)
  ·have hlt2:q<258:=by omega
   have h15:=gS hv q
   have next: ¬(iG l q∧l.getD q 0=m+1∧code l q=2*c+x)→∀t,t<q+1→¬(iG l t∧l.getD t 0=m+1∧code l t=2*c+x):=fun hk2 t ht=>by
    by_cases e:t=q
    ·subst e;exact hk2
    ·exact hnone t (by omega)
   rw [ab (x:=(q:Int)+1) (by omega)]
   refine au.rd (s:= .int .u8) (h.at 1) (by omega) (by omega) (l.getD q 0:Int) (pZ (by omega)) ?_
   rw [ab (x:=(l.getD q 0:Int)) (by omega)]
   refine aa.em (fun hn=> ?_) (fun hn=>⟨⟨q+1,rfl,by omega,next (fun hh=>hn (by omega)),h⟩,by first|omega|(dsimp only;omega)⟩)
   have hn:l.getD q 0=m+1:=by omega
   refine au.rd (s:= .int .u32) h (by omega) (by omega) ((bH l ys ys.length).getD q 0:Int) (pZ (by rw [eT];exact hlt2)) ?_
   rw [zp hl hv hys hlt2 (by omega)]
   refine aa.em (fun hc=> ?_) (fun hc=>⟨⟨q+1,rfl,by omega,next (fun hh=>hc (by omega)),h⟩,by first|omega|(dsimp only;omega)⟩)
   have hc:code l q=2*c+x:=by omega
   have hf:=su hl (s:=q) ⟨hlt2,by omega⟩
   rw [hn,hc] at hf
   exact hyes q (m+1) (by rw [htl,uY hf]) w h.tl
  ·have hge2:q=258:=by omega
   subst hge2
   have hf:cD l (2*c+x) (m+1)=none:=by
    cases hq:cD l (2*c+x) (m+1) with
    |none=>rfl
    |some s=>
     obtain ⟨h2,h3,h4⟩:=lQ hq
     exact absurd ⟨h2,h3,h4⟩ (hnone s h2.1)
   have hfs:=ta hl hvs hx
   have hfst:=z8 (l:=l) (c:=c) (b:=m) (x:=x)
   have hvn:=hvs.next hx
   rw [hf] at hfs
   rw [hfs] at hfst
   rw [hfst] at hvn
   refine ⟨⟨2*c+x,m+1,rfl,by omega,by omega,hvn,?_,h⟩,by first|omega|(dsimp only;omega)⟩
   rw [htl,uX hf];rfl
 ·have:bs.drop (k+m)= []:=List.drop_of_length_le (by omega)
  rw [this] at htl
  exact hno (by rw [htl];rfl) w h.tl
end
end Go.Proofs.YtgglghjnakclmaaGreat
namespace Go.af
open Go.Inc Go.Srt Go.Sym Go.aE Go.Tab Go.Hd Go.Crc Go.Bw Go.Proofs.YtgglghjnakclmaaGreat
theorem xF {n M P u:Nat} {r:List Nat}: ∀(b:List Nat) (s:MS),fC n s→(∀c∈b,c<256)→run (aC n) s b= .fin (.az M P u) r→1≤M∧M≤n∧1≤P∧P≤M
 | [],s,_,_,h=>by cases h
 |c::b,s,hs,hb,h=>by
  rw [cj] at h
  cases hc:aC n s c with
  |more s'=>
   rw [hc] at h
   exact xF b s' (oX hs (hb c (by simp)) hc) (fun y hy=>hb y (by simp [hy])) h
  |fin m=>
   rw [hc] at h
   cases h
   exact qj hs hc
  |bad e=>rw [hc] at h;cases h
theorem jz {α σ β ε:Type} {f:σ→α→tX σ β ε} {r:List α} {x:β}: ∀(b:List α) (s:σ),run f s b= .fin x r→∃a,b=a++r
 | [],s,h=>by cases h
 |c::b,s,h=>by
  rw [cj] at h
  cases hc:f s c with
  |more s'=>
   rw [hc] at h
   obtain ⟨a,e⟩:=jz b s' h
   exact ⟨c::a,by rw [e];rfl⟩
  |fin m=>
   rw [hc] at h
   cases h
   exact ⟨[c],rfl⟩
  |bad e=>rw [hc] at h;cases h
theorem EJ {l r:List Nat}: ∀(b:List Nat) (t:TS),dR t→(∀c∈b,c≤1)→run (aV bG) t b= .fin l r→l.length=258∧bG l=true
 | [],s,_,_,h=>by cases h
 |c::b,s,hs,hb,h=>by
  rw [cj] at h
  cases hc:aV bG s c with
  |more s'=>
   rw [hc] at h
   exact EJ b s' (kC hs (hb c (by simp)) hc) (fun y hy=>hb y (by simp [hy])) h
  |fin m=>
   rw [hc] at h
   cases h
   exact dB hs hc
  |bad e=>rw [hc] at h;cases h
theorem Jx {left:List Nat} (hb: ∀x∈left,x≤1):jy left= !decide (1∈left.take (left.length % 8)):=by
 unfold jy
 rw [Bool.eq_iff_iff]
 simp only [List.all_eq_true,beq_iff_eq,Bool.not_eq_true',decide_eq_false_iff_not]
 constructor
 ·intro h hm
  have:=h 1 hm
  omega
 ·intro h x hx
  have:=hb x (List.mem_of_mem_take hx)
  have:x≠1:=fun e=>h (e▸hx)
  omega
end Go.af
namespace Go.Proofs.YtgglghjnakclmaaGreat
open Go Go.Vc Go.Srt Go.Inc Go.Sym Go.Tab Go.Hd Go.Bw Go.aE Go.af Go.Crc
section
variable {E w:World} {F:List HP}
end
end Go.Proofs.YtgglghjnakclmaaGreat
namespace Go.Proofs.YtgglghjnakclmaaGreat
open Go Go.Vc Go.Srt Go.Inc Go.Sym Go.Tab Go.Hd Go.Bw Go.aE Go.af Go.Crc
section
variable {E w:World} {F:List HP}
theorem Nx {l:List Nat} {s:Sl} {bs:List Nat} {M:Nat} {K:Sl→Int→Int→World→Prop} (h:Hp E w F) (hl:l.length=258) (hok:bG l=true) (hM:1≤M) (hM2:M≤65536) (hs:ad F (aH 1 s ((ints bs).map vI))) (hb: ∀x∈bs,x≤1) (hbig:bs.length≤1000000000)
  (hshort: ∀s' w',run (dp l) ⟨0,0,⟨List.range 256,M,0,0⟩,[]⟩ bs= .short s'→Hp E w' F→K ⟨none,0,0⟩ 0 50 w')
  (hbad: ∀w',run (dp l) ⟨0,0,⟨List.range 256,M,0,0⟩,[]⟩ bs= .bad 160→Hp E w' F→K ⟨none,0,0⟩ 0 160 w')
  (hfin: ∀last r s' w',run (dp l) ⟨0,0,⟨List.range 256,M,0,0⟩,[]⟩ bs= .fin last r→(∀x∈last,x<256)→last.length≤M→Hp E w' (OB s' last::F)→K s' ((bs.length - r.length:Nat):Int) 0 w'):
  Cl Tryz.prog [kS,kI,kI] mz ⟨[.int .i64 (M:Int),.agg (ai .u8 l),.slice s.base s.len s.cap]⟩ w K:=by
 refine DW.ok _ _ _ _ _ ?_
 have h15:=pO hok
 have h8: ∀y∈l,y≤255:=fun y hy=>by have:=h15 y hy;omega
 have hv:a9 l≤32768:=by rw [(k9.1 hok).1];decide
 have hlen:bs.length=s.len:=pN (h.aj hs)
 have hsz:(ai .u8 l).size=258:=by rw [aK,hl]
 have hz2:(⟨List.replicate 256 (.int .u8 0)++ [.int .i64 0,.int .i64 0,.int .i64 0,.bool false]⟩:Array Value).size=260:=by simp
 refine Nw.mk h fun b5 w h=>Ld.xw h hsz (AX h hl h8 (fun hn=>absurd hv hn) fun _ ys w hys h=> ?_)
 have hcs:(ai .u32 (bH l ys ys.length)).size=258:=by rw [aK,eT]
 refine Nw.mk h fun b11 w h=>ak.q h (by simp) hcs (List.all_eq_true.2 da) fun w h=>Lc h hM hM2 fun w h=> ?_
 have hd0:gF ⟨List.range 256,M,0,0⟩:=gF.zero hM2
 refine Nw.mk h fun b16 w h=>ak.q h hz2 (aM (by simp)) aN fun w h=> ?_
 refine ⟨fun o i w=> ∃(k:Nat) (d:DS) (acc:List Nat),i=(k:Int)∧k≤bs.length∧gF d∧(∀x∈acc,x<256)∧acc.length+d.left≤M∧
  run (dp l) ⟨0,0,⟨List.range 256,M,0,0⟩,[]⟩ bs=run (dp l) ⟨0,0,d,acc⟩ (bs.drop k)∧
  Hp E w (OB o acc::af b16 (.cells (de d.L (d.left:Int) (d.run:Int) (d.digits:Int) false) 112 (0,0))::af b11 (.cells (ai .u32 (bH l ys ys.length)) 237 (0,0))::af b5 (.cells (ai .u8 l) 104 (0,0))::F),
  fun _ i _=>bs.length - i.toNat,⟨0,_,[],rfl,by omega,hd0,by simp,by simp,rfl,h.aU 1⟩,?_⟩
 rintro o i w ⟨k,d,acc,rfl,hk,hd,ha,hal,hrun,h⟩
 have hdL:=hd.1.len
 refine Ld.xw (b:=b5) h hsz (Ld.xw (b:=b11) h hcs ?_)
 refine PA h hl hok hys (ad.cons (ad.cons (ad.cons (ad.cons hs)))) hb hbig hk (fun hno w h=> ?_) (fun y m hyes w h=> ?_)
 ·obtain ⟨s',he⟩:=zr (d:=d) (acc:=acc) _ _ _ hno
  with_reducible refine aa.So ?_
  exact hshort s' w (by rw [hrun,he]) h.tl
 ·obtain ⟨h1,h2,h3,h4⟩:=EA (d:=d) (acc:=acc) _ _ _ hyes
  rw [List.length_drop] at h2
  rw [h4,Nat.sub_zero,List.drop_drop] at hrun
  with_reducible refine aa.yD ?_
  have ol:=OB.len h
  refine Ld.xw (b:=b16) h (aM hdL) (IB h hd h3 (fun o' w hq ho hos h=> ?_) (fun d' t sl w hq h=> ?_) (fun d' t sl w hq h=> ?_))
  ·rw [hq] at hrun
   exact Nw.mk h fun b36 w h=>ak.q h hz2 ho hos fun w h=>aa.nt (by decide) (hbad w hrun h.tl)
  ·rw [hq] at hrun
   dsimp only at hrun
   obtain ⟨hd',hb',hl'⟩:=rV hd h3 hq
   have l1:=OB.len h
   refine Nw.mk h fun b36 w h=>ak.q h hz2 (aM hd'.1.len) aN fun w h=>aa.nf rfl ?_
   refine Ld.xw (b:=b36) h (aM hd'.1.len) (ak.q (b:=b16) h (aM hdL) (aM hd'.1.len) aN fun w h=> ?_)
   refine pH (h.at 2) (ad.at 1 ad.own) (by omega) (by omega) fun s3 w h=>aa.f rfl ?_
   rw [ab (by omega)]
   refine ⟨⟨k+m,d',acc++t,by omega,by omega,hd',?_,by rw [List.length_append];omega,hrun,(h.no 1).no 1⟩,by first|omega|(dsimp only;omega)⟩
   intro x hx
   rcases List.mem_append.1 hx with hx|hx
   ·exact ha x hx
   ·exact hb' x hx
  ·rw [hq] at hrun
   dsimp only at hrun
   obtain ⟨hb',hl'⟩:=xq hd hq
   have l1:=OB.len h
   refine Nw.mk h fun b36 w h=>ak.q h hz2 (aM hdL) aN fun w h=>aa.nf rfl ?_
   refine Ld.xw (b:=b36) h (aM hdL) (ak.q (b:=b16) h (aM hdL) (aM hdL) aN fun w h=> ?_)
   refine pH (h.at 2) (ad.at 1 ad.own) (by omega) (by omega) fun s3 w h=>aa.t rfl ?_
   rw [ab (by omega)]
   have hr:=hfin (acc++t) (bs.drop (k+m)) s3 w hrun (fun x hx=>by
    rcases List.mem_append.1 hx with hx|hx
    ·exact ha x hx
    ·exact hb' x hx) (by rw [List.length_append];omega) h.eA
   rw [List.length_drop,show bs.length - (bs.length - (k+m))=k+m by omega] at hr
   exact hr
theorem Kz {n:Int} {s:Sl} {b:List Nat} {K:Sl→Sl→Int→World→Prop} (h:Hp E w F) (hs:ad F (aH 1 s (b.map vB))) (hb: ∀y∈b,y<256) (hbig:b.length≤10000000) (hcap:s.len≤s.cap)
  (harg: ¬(1≤n∧n≤65536)→∀w',Hp E w' F→K ⟨none,0,0⟩ ⟨none,0,0⟩ 2 w')
  (herr:1≤n→n≤65536→∀e w',bX n.toNat b= .error e→e≠0→Hp E w' F→K ⟨none,0,0⟩ ⟨none,0,0⟩ (e:Int) w')
  (hok:1≤n→n≤65536→∀x r s1 s2 w',bX n.toNat b= .ok (x,r)→Hp E w' (OB s1 x::OB s2 r::F)→K s1 s2 0 w'):
  Cl Tryz.prog [kS,kS,kI] mC ⟨[.int .i64 n,.slice s.base s.len s.cap]⟩ w K:=by
 refine Ew.ok _ _ _ _ ?_
 (try simp only [ag,Nat.zero_add,Nat.add_zero,Nat.reduceAdd])
 by_cases hn: ¬(1≤n∧n≤65536)
 ·refine F5 h hn fun w h=> ?_
  (with_reducible repeat first|refine Nw.mk h fun b w h=> ?_|refine ae.xw h rfl rfl fun w h=> ?_|refine aa.yes ?_)
  exact harg hn w h.tl
 have hn:1≤n∧n≤65536:=Decidable.not_not.1 hn
 obtain ⟨m,rfl⟩: ∃m:Nat,n=(m:Int):=⟨n.toNat,by omega⟩
 have herr:=herr hn.1 hn.2
 have hok:=hok hn.1 hn.2
 rw [Int.toNat_natCast] at herr hok
 unfold bX at herr hok
 refine CN h (by omega) (by omega) hs hb (by omega) hcap (fun s' w hr h=> ?_) (fun w hr h=> ?_) (fun M P u r s5 w hr h=> ?_) (fun u r s5 w hr h=> ?_)
 ·rw [hr] at herr
  (with_reducible repeat first|refine Nw.mk h fun b w h=> ?_|refine ae.xw h rfl rfl fun w h=> ?_|refine aa.yes ?_)
  exact herr 50 w rfl (by decide) h.tl
 ·rw [hr] at herr
  (with_reducible repeat first|refine Nw.mk h fun b w h=> ?_|refine ae.xw h rfl rfl fun w h=> ?_|refine aa.yes ?_)
  exact herr 242 w rfl (by decide) h.tl
 ·rw [hr] at herr hok
  dsimp only at herr hok
  have hM:=xF b cI (.inl ⟨rfl,rfl⟩) hb hr
  obtain ⟨a,hsuf⟩:=jz b cI hr
  have hrb: ∀y∈r,y<256:=fun y hy=>hb y (by rw [hsuf];exact List.mem_append.2 (.inr hy))
  have hrl:r.length≤b.length:=by rw [hsuf,List.length_append];omega
  have hl5:=OB.len h
  have hc5:=h.ik
  (with_reducible repeat first|refine Nw.mk h fun b w h=> ?_|refine Ld.xb h rfl ?_|refine ae.xw h rfl rfl fun w h=> ?_|refine aa.no ?_)
  refine QS h (ad.at 1 ad.own) hrb (by omega) fun s12 w h=> ?_
  have hal:=bo r
  have hab: ∀x∈aG r,x≤1:=fun x hx=>by have:=F1 r (8*r.length) x hx;omega
  have hl12:=OI.len h
  have hc12:=h.ik
  unfold lR at herr hok
  refine KX h ad.own hab (by rw [aX];omega) (fun t w hq h=> ?_) (fun w hq h=> ?_) (fun l more w hq h=> ?_)
  ·rw [hq] at herr
   refine Nw.mk h fun b18 w h=>ak.q h (by simp) (by simp) (by decide) fun w h=>aa.nt (by decide) (herr 50 w rfl (by decide) h.tl)
  ·rw [hq] at herr
   refine Nw.mk h fun b18 w h=>ak.q h (by simp) (by simp) (by decide) fun w h=>aa.nt (by decide) (herr 100 w rfl (by decide) h.tl)
  ·rw [hq] at herr hok
   dsimp only at herr hok
   obtain ⟨hl,hokT⟩:=EJ _ t0 dR.zero hab hq
   obtain ⟨a2,hsuf2⟩:=jz _ t0 hq
   have hls:(ai .u8 l).size=258:=by rw [aK,hl]
   have hlc:(ai .u8 l).toList.all aA=true:=List.all_eq_true.2 da
   have hmore:more=(aG r).drop ((aG r).length - more.length):=by
    conv=>rhs;rw [hsuf2]
    rw [List.length_append,show a2.length+more.length - more.length=a2.length by omega,List.drop_left]
   have hml:more.length≤(aG r).length:=by rw [hsuf2,List.length_append];omega
   refine Nw.mk h fun b18 w h=>ak.q h (by simp) hls hlc fun w h=>aa.nf rfl (aY.mk h fun w h=> ?_)
   refine Ld.xb (x:=(M:Int)) h rfl (Ld.xw h hls ?_)
   have e12: ∀k:Nat,(((ints (aG r)).map vI).drop k)=(ints ((aG r).drop k)).map vI:=fun k=>by simp [ints]
   refine bj.rd ((h.at 1).aj ad.own) (by omega) (by omega) (by omega) (by omega) (by omega) fun s32 hs32 hl32=> ?_
   simp only [Int.toNat_natCast] at hs32 hl32
   rw [e12,←hmore,List.take_of_length_le (by simp [ints];omega)] at hs32
   have hmb: ∀x∈more,x≤1:=fun x hx=>hab x (by rw [hsuf2];exact List.mem_append.2 (.inr hx))
   refine Nx h hl hokT (by omega) (by omega) ((ad.at 1 ad.own).imp fun w hw=>hs32 w hw) hmb (by omega) (fun t w hq2 h=> ?_) (fun w hq2 h=> ?_) (fun last left s34 w hq2 hlb hll h=> ?_)
   ·rw [hq2] at herr
    exact aa.nt (by decide) (herr 50 w rfl (by decide) h.tl)
   ·rw [hq2] at herr
    exact aa.nt (by decide) (herr 160 w rfl (by decide) h.tl)
   ·rw [hq2] at herr hok
    dsimp only at herr hok
    obtain ⟨a3,hsuf3⟩:=jz _ _ hq2
    have hleft:left=(aG r).drop ((aG r).length - left.length):=by
     conv=>rhs;rw [hsuf2,hsuf3]
     rw [←List.append_assoc,List.length_append,show (a2++a3).length+left.length - left.length=(a2++a3).length by omega,List.drop_left]
    have hll2:left.length≤more.length:=by rw [hsuf3,List.length_append];omega
    have hlb1: ∀x∈left,x≤1:=fun x hx=>hmb x (by rw [hsuf3];exact List.mem_append.2 (.inr hx))
    have hpad:=Jx hlb1
    obtain ⟨p,hp⟩: ∃p,p=(aG r).length - left.length:=⟨_,rfl⟩
    have e1:(((aG r).length - more.length:Nat):Int)+((more.length - left.length:Nat):Int)=(p:Int):=by omega
    rw [e1,ab (x:=(p:Int)) (by omega)]
    refine aa.nf rfl ?_
    refine ⟨fun at_ w=> ∃q:Nat,at_=(q:Int)∧p≤q∧q≤8*((p+7)/8)∧1∉left.take (q - p)∧
     Hp E w (OB s34 last::af b18 (.cells (ai .u8 l) 104 (0,0))::OI s12 (aG r)::af _ (.cells ⟨[.int .i64 4,.int .i64 0,.int .i64 0,.int .i64 (M:Int),.int .i64 (P:Int),.int .u32 (u:Int),.int .i64 4]⟩ 102 (0,0))::OB s5 r::F),fun at_ _=>8*((p+7)/8) - at_.toNat,⟨p,rfl,by omega,by omega,by simp,h⟩,?_⟩
    rintro at_ w ⟨q,rfl,hq1,hq8,hno1,h⟩
    rw [show Int.tmod (q:Int) 8=((q % 8:Nat):Int) from rfl]
    refine ⟨by decide,aa.nm (fun hm8=> ?_) (fun hm8=> ?_)⟩
    ·have hqlt:q<(aG r).length:=by omega
     have hql:q - p<left.length:=by omega
     have he:(aG r)[q]=left[q - p]:=by
      have:=List.getElem?_eq_getElem hqlt
      have h2:left[q - p]? =(aG r)[q]? :=by
       conv=>lhs;rw [hleft]
       rw [List.getElem?_drop,←hp,show p+(q - p)=q by omega]
      rw [this,List.getElem?_eq_getElem hql] at h2
      exact (Option.some.inj h2).symm
     refine ay.rI (j:=q) ((h.at 2).aj ad.own) rfl hqlt (aa.em (fun h1=> ?_) (fun h1=> ?_))
     ·have hpo:1∈left.take (left.length % 8):=by
       have hl1:left[q - p]=1:=by omega
       rw [←hl1]
       exact List.mem_take_iff_getElem.2 ⟨q - p,by omega,rfl⟩
      rw [hpad,decide_eq_true hpo] at herr
      exact herr 160 w rfl (by decide) h.tl
     ·rw [ab (by omega)]
      refine ⟨⟨q+1,rfl,by omega,by omega,?_,h⟩,by first|omega|(dsimp only;omega)⟩
      rw [show q+1 - p=(q - p)+1 by omega,List.take_add_one,List.getElem?_eq_getElem hql]
      intro hm
      rcases List.mem_append.1 hm with hm|hm
      ·exact hno1 hm
      ·simp at hm;omega
    ·have hq9:q=8*((p+7)/8):=by omega
     rw [show q - p=left.length % 8 by omega] at hno1
     rw [hpad,decide_eq_false hno1] at herr hok
     refine Ld.xb (x:=(P:Int)) h rfl ?_
     unfold cO at herr hok
     simp only [Bool.not_false,if_true] at herr hok
     refine Ke h ad.own hlb (by omega) (fun ho s42 w h=> ?_) (fun ho w h=> ?_)
     ·have ho:okB last P:=by simpa [LZ] using ho
      rw [if_pos ho] at herr hok
      refine aa.nf rfl ?_
      have htl:=nE last P
      have htb: ∀y∈bY last P,y<256:=fun y hy=>by
       unfold bY at hy
       simp only [List.mem_reverse,List.mem_map,List.mem_range] at hy
       obtain ⟨k,_,rfl⟩:=hy
       rw [List.getD_eq_getElem?_getD]
       cases hg:last[bx P (wk last P k)]? with
       |none=>decide
       |some z=>exact hlb z (List.mem_of_getElem? hg)
      refine rD h ad.own (by rw [Int.toNat_natCast,htl];omega) fun s45 w h=> ?_
      rw [Int.toNat_natCast] at h
      have hl45:=h.bK
      rw [List.length_map,Nat.mul_one,List.length_reverse] at hl45
      have h:=h.drew (n:=w.drawn+1)
      refine ⟨br b _ _ _,h.hb,?_⟩
      refine aw.xb (x:=(u:Int)) (fun _ h=>h) rfl (Nw.mk h fun b58 w h=>⟨h.hb,?_⟩)
      refine Co (s:=⟨some ⟨b58,0,none⟩,1,1⟩) (cs:= [s45]) (bs:= [(bY last P).reverse]) h (ad.az rfl rfl) rfl (by rw [aX];simp) (fun i hi=> ?_) (fun z hz y hy=> ?_) (fun z hz=> ?_) ⟨h.hb,?_⟩
      ·match i,hi with
       |0,_=>exact ad.cons ad.own
      ·rw [List.mem_singleton] at hz
       rw [hz] at hy
       exact htb y (List.mem_reverse.1 hy)
      ·rw [List.mem_singleton] at hz
       rw [hz,List.length_reverse,htl,aX];omega
      rw [show [(bY last P).reverse].flatten=(bY last P).reverse by simp]
      by_cases hc:cH (bY last P).reverse=u
      ·rw [if_pos hc] at hok
       refine aa.nf (by omega) ?_
       have hrd:(r.map vB).drop (q/8)=(r.drop (q/8)).map vB:=by rw [List.map_drop]
       refine Nw.mk h fun b65 w h=>⟨by decide,?_⟩
       rw [show Int.tdiv (q:Int) 8=((q/8:Nat):Int) from rfl,ab (by omega)]
       refine bj.rd ((h.at 8).aj ad.own) (by omega) (by omega) (by omega) (by omega) (by omega) fun s61 hs61 hl61=> ?_
       simp only [Int.toNat_natCast] at hs61 hl61
       rw [hrd,List.take_of_length_le (by rw [List.length_map,List.length_drop];omega)] at hs61
       have h:=Hp.fS (n:=0) (sz:=1) h rfl
       have l2:(r.drop (q/8)).length≤1000000000000:=by rw [List.length_drop];omega
       have key:=fun (K':Sl→World→Prop)=>pH (s:=⟨some ⟨b65,0,none⟩,0,0⟩) (xs:= []) (ys:=r.drop (q/8)) (K:=K') h ((ad.at 7 ad.own).imp fun w hw=>hs61 w hw) (Nat.zero_le _) l2
       refine key _ fun s63 w h=> ?_
       have e9:r.length - left.length/8=q/8:=by omega
       refine hok (bY last P).reverse (r.drop (q/8)) s45 s63 w (by rw [e9]) ?_
       exact ((h.no 1).p1).Tj
      ·rw [if_neg hc] at herr
       exact aa.nt (by omega) (herr 250 w rfl (by decide) h.tl)
     ·have ho: ¬okB last P:=by simpa [LZ] using ho
      rw [if_neg ho] at herr
      exact aa.nt (by decide) (herr 170 w rfl (by decide) h.tl)
 ·rw [hr] at herr
  (with_reducible repeat first|refine Nw.mk h fun b w h=> ?_|refine Ld.xb h rfl ?_|refine ae.xw h rfl rfl fun w h=> ?_|refine aa.yes ?_|refine aa.no ?_)
  exact herr 242 w rfl (by decide) h.tl
end
end Go.Proofs.YtgglghjnakclmaaGreat
namespace Go.af
open Go.Inc Go.Srt Go.Sym Go.aE Go.Tab Go.Bw Go.Pm
noncomputable def Ol:List Nat:=Proofs.YtgglghjnakclmaaGreat.jU (List.replicate 258 1) (hU (List.replicate 258 1)) 15
theorem z9 {s:Nat} (h:s<258):(List.replicate 258 1).getD s 0=1:=by
 rw [List.getD_eq_getElem?_getD,List.getElem?_replicate,if_pos h];rfl
theorem Iq {last:List Nat} (hb: ∀x∈last,x<256):n8 Ol last:=
 Gu List.length_replicate (fun x hx=>by rw [(List.mem_replicate.1 hx).2];decide) (z5 _) (by rw [z9 (by decide)];decide) ⟨0,by decide,by rw [z9 (by decide)];decide⟩ (fun s hs=>by rw [z9 (by have:=wa hb s hs;omega)];decide) hb
noncomputable def eQ (x:List Nat):List Nat:=if x.length≤1000000 then gT x else Ol
theorem qW {x:List Nat} (h:x.length≤1000000):eQ x=gT x:=by unfold eQ;rw [if_pos h]
theorem OQ:Stm.dU eQ:=fun x h0 hb=>by
 unfold eQ
 split
 ·rename_i h
  exact ot h0 h hb
 ·exact Iq (vR fun y hy=>hb y (List.mem_reverse.1 hy))
end Go.af
namespace Go.af
open Go.Inc Go.Srt Go.Sym Go.aE Go.Tab Go.Hd Go.Crc Go.Bw Go.Proofs.YtgglghjnakclmaaGreat
theorem vp: ∀(l:List (List Nat)),(∀x∈l,0<x.length∧x.length≤65536∧∀y∈x,y<256)→(Stm.blocks eQ l).length≤200000*l.length
 | [],_=>by simp [Stm.blocks]
 |x::l,h=>by
  have h1:=h x List.mem_cons_self
  have h2:=Be h1.1 h1.2.2 h1.2.1
  have h3:=vp l fun y hy=>h y (List.mem_cons_of_mem _ hy)
  unfold Stm.blocks at h3⊢
  rw [List.flatMap_cons,List.length_append,List.length_cons]
  unfold Stm.mc at h3⊢
  rw [qW (by omega)]
  omega
end Go.af
namespace Go.Proofs.YtgglghjnakclmaaGreat
open Go Go.Vc Go.Srt Go.Inc Go.Sym Go.Tab Go.Hd Go.Bw Go.aE Go.af Go.Crc Go.Stm
section
variable {E w:World} {F:List HP}
end
end Go.Proofs.YtgglghjnakclmaaGreat
namespace Go.Proofs.YtgglghjnakclmaaGreat
open Go Go.Vc Go.Srt Go.Inc Go.Sym Go.Tab Go.Hd Go.Bw Go.aE Go.af Go.Crc Go.Stm
section
variable {E w:World} {F:List HP}
theorem MF {n:Nat} {K:Sl→Int→World→Prop} (h:Hp E w F) (hn:n≤65536) (h0:0<n) (hK: ∀s w',Hp E w' (OB s (iO n)::F)→K s 0 w'):Cl Tryz.prog [kS,kI] qT ⟨[.agg ⟨[.int .i64 (n:Int)]⟩]⟩ w K:=by
 refine J2.ok ((n:Int),()) _ _ ?_
 refine Nw.mk h fun b3 w h=> ?_
 refine Ld.xb (b:=b3) h rfl (aa.df (by omega) (Ld.xb (b:=b3) h rfl (aa.df (by omega) (Ld.xb (b:=b3) (x:=(n:Int)) h rfl ?_))))
 refine Am h hn fun s w h=>Nw.mk h fun b11 w h=> ?_
 have h:=Hp.fS (n:=3) (sz:=1) h rfl
 have hl:=ff hn
 refine pH (s:=⟨some ⟨b11,0,none⟩,3,3⟩) (xs:= [87,80,1]) (ys:=iD n) h ad.own (by decide) (by omega) fun s' w h=>hK s' w ?_
 exact (h.no 1).no 1
theorem MM {c:Nat} {K:Sl→World→Prop} (h:Hp E w F) (hc:c<4294967296) (hK: ∀s w',Hp E w' (OB s (nR c)::F)→K s w'):Cl Tryz.prog [kS] mK ⟨[.int .u32 (c:Int)]⟩ w K:=by
 refine D6.ok _ _ _ (Nw.mk h fun b3 w h=> ?_)
 refine JL h hc fun s w h=> ?_
 have h:=Hp.fS (n:=1) (sz:=1) (h.at 1) rfl
 refine pH (s:=⟨some ⟨b3,0,none⟩,1,1⟩) (xs:= [0]) (ys:=od c) h ad.own (by decide) (show 4≤_ by decide) fun s' w h=>hK s' w ?_
 exact h.no 1
theorem Ja {n:Nat} {s:Sl} {ps:List (Sl×List Nat)} {K:Sl→Int→World→Prop} (h:Hp E w F) (hn:1≤n) (hn2:n≤65536) (hg:ad F (jY s ps)) (hp:Dj ps) (hb: ∀x∈ps,∀y∈x.2,y<256) (hsm:(ps.map Prod.snd).flatten.length≤100000)
  (hK: ∀s' w',Hp E w' (OB s' (kL eQ n (ps.map Prod.snd))::F)→K s' 0 w'):Cl Tryz.prog [kS,kI] n7 ⟨[.int .i64 (n:Int),.slice s.base s.len s.cap]⟩ w K:=by
 have hbf: ∀c∈(ps.map Prod.snd).flatten,c<256:=fun c hc=>by
  obtain ⟨l,hl,hc⟩:=List.mem_flatten.1 hc
  obtain ⟨x,hx,rfl⟩:=List.mem_map.1 hl
  exact hb x hx c hc
 have hok:=lf (n:=n) hn hbf
 have hcf:=xP hn (ps.map Prod.snd)
 refine Fh.ok _ _ _ _ (MF h hn2 hn fun s4 w h=>aa.nf rfl ?_)
 refine La h hg.cons hp hn hn2 hsm fun pcs s7 w hpc hcap hpw h=> ?_
 have hpl:pcs.length=(cC n (ps.map Prod.snd)).length:=by rw [←hpc,List.length_map]
 have hl7:pcs.length=s7.len:=by have:=h.bK;simpa using this
 have hblen: ∀i,(iO n++blocks eQ ((cC n (ps.map Prod.snd)).take i)).length≤200000*i+10:=fun i=>by
  have h1:=vp ((cC n (ps.map Prod.snd)).take i) fun x hx=>⟨(hok x (List.mem_of_mem_take hx)).1,Nat.le_trans (hok x (List.mem_of_mem_take hx)).2.1 hn2,(hok x (List.mem_of_mem_take hx)).2.2⟩
  have h2:=ff hn2
  have h3:((cC n (ps.map Prod.snd)).take i).length≤i:=by rw [List.length_take];omega
  have h4:=Nat.mul_le_mul_left 200000 h3
  rw [List.length_append]
  unfold iO
  simp only [List.length_append,List.length_cons,List.length_nil]
  omega
 refine ⟨fun out i w'=> ∃k:Nat,i=(k:Int)∧k≤pcs.length∧Hp E w' (OB out (iO n++blocks eQ ((cC n (ps.map Prod.snd)).take k))::av 1 s7 (pcs.map fun x=> .slice x.1.base x.1.len x.1.cap)::F),fun _ i _=>pcs.length - i.toNat,⟨0,rfl,by omega,?_⟩,?_⟩
 ·have e:iO n++blocks eQ ((cC n (ps.map Prod.snd)).take 0)=iO n:=by simp [blocks]
  rw [e]
  exact h.at 1
 ·rintro out i w ⟨k,rfl,hk,h⟩
  have hbl:=hblen k
  have hgw: ∀{A B:HP},ad (A::B::F) (jY s ps):=hg.cons.cons
  refine aa.dm (fun hlt=> ?_) (fun hge=> ?_)
  ·have hlt:k<pcs.length:=by omega
   have hkc:k<(cC n (ps.map Prod.snd)).length:=by omega
   refine ay.rd (h.aj (ad.at 1 ad.own)) (by omega) (by omega) fun q _ hq=> ?_
   refine Ld.sc (s:= .sl) pcs[k].1 (by rw [hq];simp [Sc.enc]) ?_
   have hx:pcs[k].2=(cC n (ps.map Prod.snd))[k]:=by
    have:=List.getElem_map Prod.snd (l:=pcs) (i:=k) (h:=by simpa using hlt)
    rw [←this]
    simp only [hpc]
   obtain ⟨c0,c1,c2⟩:=hok _ (List.getElem_mem hkc)
   refine P8 (x:=(cC n (ps.map Prod.snd))[k]) h (hgw.imp fun w hw=>by rw [←hx];exact hpw w hw _ (List.getElem_mem hlt)) c2 (by omega) (fun _ _ _ _ s16 w h=> ?_) (fun hno=>absurd ⟨by omega,by omega,c0,by omega⟩ hno)
   have hbs:=Be c0 c2 (by omega)
   refine pH (h.at 1) (ad.own) (by omega) (by omega) fun s19 w h=> ?_
   have e:iO n++blocks eQ ((cC n (ps.map Prod.snd)).take k)++mA (gT (cC n (ps.map Prod.snd))[k]) (cC n (ps.map Prod.snd))[k]=iO n++blocks eQ ((cC n (ps.map Prod.snd)).take (k+1)):=by
    rw [List.append_assoc,List.take_add_one,List.getElem?_eq_getElem hkc]
    unfold blocks mc
    rw [List.flatMap_append,Option.toList_some,List.flatMap_singleton,qW (by omega)]
   rw [e] at h
   rw [ab (by omega)]
   exact ⟨⟨k+1,by omega,by omega,h.no 1⟩,by first|omega|(dsimp only;omega)⟩
  ·have hk2:k=pcs.length:=by omega
   subst hk2
   rw [hpl,List.take_of_length_le (Nat.le_refl _)] at h
   rw [hpl] at hbl
   rw [List.take_of_length_le (Nat.le_refl _)] at hbl
   have hcr:=lJ hbf
   refine Co (cs:=ps.map Prod.fst) (bs:=ps.map Prod.snd) h (hgw.imp fun w hw=>by have:=hw.tab;rwa [List.map_map]) (by simp) (by rw [List.length_map];exact hp.few) (fun i hi=> ?_) (fun b hbm y hy=> ?_) (fun b hbm=> ?_) ?_
   ·rw [List.length_map] at hi
    refine hgw.imp fun w hw=> ?_
    have:=hw.each ps[i] (List.getElem_mem hi)
    rw [List.getD_eq_getElem?_getD,List.getElem?_map,List.getElem?_eq_getElem hi]
    simpa using this
   ·obtain ⟨x,hx,rfl⟩:=List.mem_map.1 hbm
    exact hb x hx y hy
   ·obtain ⟨x,hx,rfl⟩:=List.mem_map.1 hbm
    exact hp.small x hx
   ·refine MM h hcr fun s23 w h=> ?_
    refine pH (h.at 1) (ad.own) (by omega) (show 5≤_ by decide) fun s25 w h=>hK s25 w ?_
    rw [List.append_assoc] at h
    exact (h.no 1).no 1
end
end Go.Proofs.YtgglghjnakclmaaGreat
namespace Go.Vc
open Go
theorem aQ.Uz {r:World→Prop} {k:(World→Prop)→Prop} (Q:World→Prop) (h1: ∀w,Q w→r w) (h2: ∀r',(∀w,Q w→r' w)→k r'):aQ r k:=h2 r h1
theorem aQ.Vn {A B:Type} {r:A→B→World→Prop} {k:(A→B→World→Prop)→Prop} (Q:A→B→World→Prop) (h1: ∀a b w,Q a b w→r a b w) (h2: ∀r',(∀a b w,Q a b w→r' a b w)→k r'):aQ r k:=h2 r h1
end Go.Vc
namespace Go.Proofs.YtgglghjnakclmaaGreat
open Go Go.Vc Go.Srt Go.Inc Go.Sym Go.Tab Go.Hd Go.Bw Go.aE Go.af Go.Crc
section
variable {E w:World} {F:List HP}
abbrev T4:=Int×Int×Int×Int×Unit
abbrev OE (h:HS):T4:=((h.at_:Int),(h.v:Int),(vm h.v:Int),0,())
theorem Dn {t:HS} {c:Nat} {K:T4→Int→World→Prop} (h:Hp E w F) (ok:tH t) (hc:c<256)
  (hmore: ∀t' w',bb t c= .more t'→Hp E w' F→K (OE t') 0 w') (hfin: ∀n w',bb t c= .fin n→Hp E w' F→K (4,0,0,(n:Int),()) 0 w')
  (hbad: ∀(e:Nat) r w',bb t c= .bad e→e≠0→Hp E w' F→K r (e:Int) w'):
  Cl Tryz.prog [.st [.int .i64,.int .i64,.int .i64,.int .i64],kI] m7 ⟨[.agg ⟨[.int .i64 (t.at_:Int),.int .i64 (t.v:Int),.int .i64 (vm t.v:Int),.int .i64 0]⟩,.int .u8 (c:Int)]⟩ w K:=by
 refine KU.ok (OE t) _ _ _ ?_
 obtain ⟨o1,o2,o3⟩:=ok
 refine Nw.mk h fun b4 w h=>Nw.mk h fun b6 w h=>Nw.mk h fun b8 w h=> ?_
 (with_reducible refine ae.xw h rfl rfl (fun w h=> ?_))
 refine Ld.xb (b:=b4) (x:=(t.at_:Int)) h rfl ?_
 have fin1: ∀{w:World} {a b c d:Int} {e:Int},Hp E w (af b8 (.cells ⟨[.int .u8 87,.int .u8 80,.int .u8 1]⟩ 230 (0,0))::af b6 (.cells ⟨[.int .i64 0,.int .i64 0,.int .i64 0,.int .i64 0]⟩ 100 (0,0))::af b4 (.cells ⟨[.int .i64 a,.int .i64 b,.int .i64 c,.int .i64 d]⟩ 100 (0,0))::F)→(∀w',Hp E w' F→K (a,b,c,d,()) e w')→
   Ld (.st [.int .i64,.int .i64,.int .i64,.int .i64]) ⟨b4,0,none⟩ w fun x=>ae ⟨b6,0,none⟩ [.int .i64 x.1,.int .i64 x.2.1,.int .i64 x.2.2.1,.int .i64 x.2.2.2.1] 0 w fun w=>Ld (.st [.int .i64,.int .i64,.int .i64,.int .i64]) ⟨b6,0,none⟩ w fun r=>K r e w:=fun {w a b c d e} h hk=>by
  refine Ld.xt (b:=b4) (x:=(a,b,c,d,())) h rfl ?_
  (with_reducible refine ae.xw h rfl rfl (fun w h=> ?_))
  exact Ld.xt (b:=b6) (x:=(a,b,c,d,())) h rfl (hk _ (((h.no 0).no 0).no 0))
 refine aa.dm (fun hlt=> ?_) (fun hge=> ?_)
 ·have hlt:t.at_<3:=by omega
  have hv0:=o2 hlt
  have hst:bb t c=if c=mP t.at_ then .more ⟨t.at_+1,0⟩ else .bad (if t.at_=2 then 241 else 240):=by unfold bb;rw [if_pos hlt]
  have hmg: ∀{K':Int→Prop} {w:World} {G:List HP},Hp E w (af b8 (.cells ⟨[.int .u8 87,.int .u8 80,.int .u8 1]⟩ 230 (0,0))::G)→K' (mP t.at_:Int)→au ⟨b8,0,none⟩ 3 (t.at_:Int) 1 fun q=>Ld (ao .u8) q w K':=fun {K' w G} h hk=>by
   refine au.rd (s:= .int .u8) h (by omega) (by omega) (mP t.at_:Int) ?_ hk
   rw [Int.toNat_natCast]
   have:t.at_=0∨t.at_=1∨t.at_=2:=by omega
   rcases this with e|e|e<;>rw [e]<;>rfl
  refine Ld.xb (b:=b4) (x:=(t.at_:Int)) h rfl (hmg h ?_)
  by_cases hm:c=mP t.at_
  ·rw [if_pos hm] at hst
   refine aa.nf (by omega) (Ld.xb (b:=b4) (x:=(t.at_:Int)) h rfl (hmg h (aa.nf (by omega) (Ld.xb (b:=b4) (x:=(t.at_:Int)) h rfl ?_))))
   rw [ab (by omega)]
   refine St.xs (b:=b4) h rfl rfl fun w h=> ?_
   dsimp only [aP,aq] at h
   refine fin1 h fun w' h=> ?_
   have:=hmore _ w' hst h
   rw [hv0]
   rw [show (t.at_:Int)+1=((t.at_+1:Nat):Int) by omega]
   exact this
  ·rw [if_neg hm] at hst
   refine aa.nt (by omega) (Ld.xb (b:=b4) (x:=(t.at_:Int)) h rfl ?_)
   by_cases h2:t.at_=2
   ·rw [if_pos h2] at hst
    exact aa.et (by omega) (fin1 h fun w' h=>hbad 241 _ w' hst (by decide) h)
   ·rw [if_neg h2] at hst
    refine aa.ef (by omega) (Ld.xb (b:=b4) (x:=(t.at_:Int)) h rfl (hmg h (aa.nt (by omega) ?_)))
    exact fin1 h fun w' h=>hbad 240 _ w' hst (by decide) h
 ·have hat:t.at_=3:=by omega
  have hst:bb t c=match grow 65536 t.v c with
   |none=> .bad 242
   |some (n,true)=> .fin n
   |some (n,false)=> .more ⟨3,n⟩:=by unfold bb;rw [if_neg (by omega)]<;>rfl
  refine Ld.xt (b:=b4) (i:=1) (x:=((t.v:Int),(vm t.v:Int),())) h rfl ?_
  refine xh h o3 (by decide) hc (fun hg o d w h=> ?_) (fun n d hg k w hk h=> ?_)
  ·rw [hg] at hst
   refine Nw.mk h fun b46 w h=> ?_
   (with_reducible refine ae.xw h rfl rfl (fun w h=> ?_))
   with_reducible refine aa.So ?_
   exact fin1 (h.no 0) fun w' h=>hbad 242 _ w' hst (by decide) h
  ·rw [hg] at hst
   refine Nw.mk h fun b46 w h=> ?_
   (with_reducible refine ae.xw h rfl rfl (fun w h=> ?_))
   with_reducible refine aa.yD ?_
   refine Ld.xt (b:=b46) (x:=((n:Int),k,())) h rfl ?_
   refine ae.xs (b:=b4) h rfl rfl fun w h=> ?_
   dsimp only [aP,aq] at h
   cases d with
   |true=>
    refine aa.t rfl (St.xs (b:=b4) h rfl rfl fun w h=> ?_)
    dsimp only [aP,aq] at h
    refine Ld.xb (b:=b46) (x:=(n:Int)) h rfl (St.xs (b:=b4) h rfl rfl fun w h=> ?_)
    dsimp only [aP,aq] at h
    refine ae.xs (b:=b4) h rfl rfl fun w h=> ?_
    dsimp only [aP,aq] at h
    exact fin1 (h.no 0) fun w' h=>hfin n w' hst h
   |false=>
    have hk:=hk rfl
    subst hk
    refine aa.f rfl (fin1 (h.no 0) fun w' h=> ?_)
    have:=hmore _ w' hst h
    rw [hat]
    exact this
theorem Km {s:Sl} {bs:List Nat} {K:Int×Unit→Sl→Int→World→Prop} (h:Hp E w F) (hs:ad F (aH 1 s (bs.map vB))) (hb: ∀y∈bs,y<256) (hbig:bs.length≤10000000) (hcap:s.len≤s.cap)
  (hshort: ∀t w',run bb ⟨0,0⟩ bs= .short t→Hp E w' F→K (0,()) ⟨none,0,0⟩ 50 w')
  (hbad: ∀(e:Nat) w',run bb ⟨0,0⟩ bs= .bad e→e≠0→Hp E w' F→K (0,()) ⟨none,0,0⟩ (e:Int) w')
  (hfin: ∀n r s' w',run bb ⟨0,0⟩ bs= .fin n r→Hp E w' (OB s' r::F)→K ((n:Int),()) s' 0 w'):
  Cl Tryz.prog [.st [.int .i64],kS,kI] pv ⟨[.slice s.base s.len s.cap]⟩ w K:=by
 refine Ii.ok _ _ _ ?_
 have hlen:bs.length=s.len:=by have:=(h.aj hs).1;simpa using this
 refine Nw.mk h fun b3 w h=>Nw.mk h fun b5 w h=> ?_
 refine ⟨fun i w=> ∃(k:Nat) (t:HS),i=(k:Int)∧k≤bs.length∧tH t∧run bb ⟨0,0⟩ bs=run bb t (bs.drop k)∧Hp E w (af b5 (.cells ⟨[.int .i64 (t.at_:Int),.int .i64 (t.v:Int),.int .i64 (vm t.v:Int),.int .i64 0]⟩ 100 (0,0))::af b3 (.cells ⟨[.int .i64 0]⟩ 116 (0,0))::F),fun i _=>bs.length - i.toNat,⟨0,⟨0,0⟩,rfl,Nat.zero_le _,⟨by decide,fun _=>rfl,by decide⟩,rfl,h⟩,?_⟩
 rintro i w ⟨k,t,rfl,hk,hok,hrun,h⟩
 refine aa.dm (fun hlt=> ?_) (fun hge=> ?_)
 ·have hlt:k<bs.length:=by omega
  have hbk:bs[k]<256:=hb _ (List.getElem_mem hlt)
  rw [List.drop_eq_getElem_cons hlt,cj] at hrun
  refine aQ.Vn (fun (o:Addr) (e:Int) w=> ∃b',o=⟨b',0,none⟩∧((∃t',bb t bs[k]= .more t'∧e=0∧Hp E w (af b' (.cells ⟨[.int .i64 (t'.at_:Int),.int .i64 (t'.v:Int),.int .i64 (vm t'.v:Int),.int .i64 0]⟩ 100 (0,0))::af b5 (.cells ⟨[.int .i64 (t.at_:Int),.int .i64 (t.v:Int),.int .i64 (vm t.v:Int),.int .i64 0]⟩ 100 (0,0))::af b3 (.cells ⟨[.int .i64 0]⟩ 116 (0,0))::F))∨
    (∃n:Nat,bb t bs[k]= .fin n∧e=0∧Hp E w (af b' (.cells ⟨[.int .i64 4,.int .i64 0,.int .i64 0,.int .i64 (n:Int)]⟩ 100 (0,0))::af b5 (.cells ⟨[.int .i64 (t.at_:Int),.int .i64 (t.v:Int),.int .i64 (vm t.v:Int),.int .i64 0]⟩ 100 (0,0))::af b3 (.cells ⟨[.int .i64 0]⟩ 116 (0,0))::F))∨
    (∃e':Nat,bb t bs[k]= .bad e'∧e=(e':Int)∧e'≠0∧Hp E w (af b3 (.cells ⟨[.int .i64 0]⟩ 116 (0,0))::F)))) ?_ fun r' hr'=> ?_
  ·rintro _ e w ⟨b',rfl,⟨t',ht,rfl,h⟩|⟨n,ht,rfl,h⟩|⟨e',ht,rfl,h0,h⟩⟩
   ·rw [ht] at hrun
    refine aa.nf rfl (Ld.xt (b:=b') (x:=OE t') h rfl ?_)
    (with_reducible refine ae.xw h rfl rfl (fun w h=> ?_))
    refine Ld.xb (b:=b5) (x:=(t'.at_:Int)) h rfl ?_
    have hok':=tj hok hbk ht
    have h3:=hok'.1
    rw [ab (by omega)]
    exact aa.ef (by omega) ⟨⟨k+1,t',by omega,by omega,hok',hrun,h.no 0⟩,by first|omega|(dsimp only;omega)⟩
   ·rw [ht] at hrun
    refine aa.nf rfl (Ld.xt (b:=b') (x:=(4,0,0,(n:Int),())) h rfl ?_)
    (with_reducible refine ae.xw h rfl rfl (fun w h=> ?_))
    refine Ld.xb (b:=b5) (x:=(4:Int)) h rfl (aa.t rfl ?_)
    have h:=h.drew (n:=w.drawn+1)
    refine ⟨br b5 _ _ (0,0),h.hb,aw.xb (x:=(n:Int)) (fun _ h=>h) rfl ?_⟩
    refine tQ (S:=br b5 _ _ (0,0)) h hs.cons.cons.cons (by omega) hcap hlt (fun w h=>h.hb) fun s' w h=> ?_
    (with_reducible refine ae.xw h rfl rfl (fun w h=> ?_))
    refine ⟨h.hb,Ld.xt (b:=b3) (x:=((n:Int),())) h rfl ?_⟩
    exact hfin n _ s' w hrun (((h.no 1).no 1).no 1)
   ·rw [ht] at hrun
    refine aa.nt (by omega) ?_
    (with_reducible refine ae.xw h rfl rfl (fun w h=> ?_))
    exact Ld.xt (b:=b3) (x:=((0:Int),())) h rfl (hbad e' w hrun h0 (h.no 0))
  ·have h:=h.drew (n:=w.drawn+1)
   refine ⟨fun w=>br b5 ⟨[.int .i64 (t.at_:Int),.int .i64 (t.v:Int),.int .i64 (vm t.v:Int),.int .i64 0]⟩ 100 (0,0) w∧aH 1 s (bs.map vB) w,⟨h.hb,h.aj hs.cons.cons⟩,aw.xt (b:=b5) (x:=OE t) (fun _ h=>h.1) rfl ?_⟩
   refine ay.EI (sc:= .int .u8) (h.aj hs.cons.cons) (fun _ h=>h.2) rfl (by simpa using hlt) (bs[k]:Int) (by simp [Sc.enc,vB,hlt]) ⟨?_,?_⟩
   ·refine Dn h hok hbk (fun t' w ht h=> ?_) (fun n w ht h=> ?_) (fun e r w ht h0 h=> ?_)
    ·refine ⟨⟨h.hb,h.aj hs.cons.cons⟩,Nw.mk h fun b20 w h=>⟨⟨h.hb,h.aj hs.cons.cons.cons⟩,?_⟩⟩
     (with_reducible refine ae.xw h rfl rfl (fun w h=> ?_))
     exact ⟨⟨h.hb,h.aj hs.cons.cons.cons⟩,hr' _ _ _ ⟨b20,rfl,.inl ⟨t',ht,rfl,h⟩⟩⟩
    ·refine ⟨⟨h.hb,h.aj hs.cons.cons⟩,Nw.mk h fun b20 w h=>⟨⟨h.hb,h.aj hs.cons.cons.cons⟩,?_⟩⟩
     (with_reducible refine ae.xw h rfl rfl (fun w h=> ?_))
     exact ⟨⟨h.hb,h.aj hs.cons.cons.cons⟩,hr' _ _ _ ⟨b20,rfl,.inr (.inl ⟨n,ht,rfl,h⟩)⟩⟩
    ·refine ⟨⟨h.hb,h.aj hs.cons.cons⟩,Nw.mk h fun b20 w h=>⟨⟨h.hb,h.aj hs.cons.cons.cons⟩,?_⟩⟩
     (with_reducible refine ae.xw h rfl rfl (fun w h=> ?_))
     exact ⟨⟨h.hb,h.aj hs.cons.cons.cons⟩,hr' _ _ _ ⟨b20,rfl,.inr (.inr ⟨e,ht,rfl,h0,(h.no 0).no 0⟩)⟩⟩
   ·refine Nw.mk h fun b20 w h=>⟨⟨h.hb,h.aj hs.cons.cons.cons⟩,?_⟩
    refine Dn h hok hbk (fun t' w ht h=> ?_) (fun n w ht h=> ?_) (fun e r w ht h0 h=> ?_)
    ·refine ⟨⟨h.hb,h.aj hs.cons.cons.cons⟩,?_⟩
     (with_reducible refine ae.xw h rfl rfl (fun w h=> ?_))
     exact ⟨⟨h.hb,h.aj hs.cons.cons.cons⟩,hr' _ _ _ ⟨b20,rfl,.inl ⟨t',ht,rfl,h⟩⟩⟩
    ·refine ⟨⟨h.hb,h.aj hs.cons.cons.cons⟩,?_⟩
     (with_reducible refine ae.xw h rfl rfl (fun w h=> ?_))
     exact ⟨⟨h.hb,h.aj hs.cons.cons.cons⟩,hr' _ _ _ ⟨b20,rfl,.inr (.inl ⟨n,ht,rfl,h⟩)⟩⟩
    ·refine ⟨⟨h.hb,h.aj hs.cons.cons.cons⟩,?_⟩
     (with_reducible refine ae.xw h rfl rfl (fun w h=> ?_))
     exact ⟨⟨h.hb,h.aj hs.cons.cons.cons⟩,hr' _ _ _ ⟨b20,rfl,.inr (.inr ⟨e,ht,rfl,h0,(h.no 0).no 0⟩)⟩⟩
 ·rw [List.drop_of_length_le (by omega),vE] at hrun
  (with_reducible refine ae.xw h rfl rfl (fun w h=> ?_))
  exact Ld.xt (b:=b3) (x:=((0:Int),())) h rfl (hshort t w hrun ((h.no 0).no 0))
end
end Go.Proofs.YtgglghjnakclmaaGreat
namespace Go.Proofs.YtgglghjnakclmaaGreat
open Go Go.Vc Go.Srt Go.Inc Go.Sym Go.Tab Go.Hd Go.Bw Go.aE Go.af Go.Crc Go.Stm
theorem yg {n:Nat} {r:List Nat}: ∀(b:List Nat) (s:HS),tH s→(∀c∈b,c<256)→run bb s b= .fin n r→1≤n∧n≤65536
 | [],s,_,_,h=>by cases h
 |c::b,s,hs,hb,h=>by
  rw [cj] at h
  cases hc:bb s c with
  |more s'=>
   rw [hc] at h
   exact yg b s' (tj hs (hb c (by simp)) hc) (fun y hy=>hb y (by simp [hy])) h
  |fin m=>
   rw [hc] at h
   cases h
   unfold bb at hc
   split at hc
   ·split at hc<;>cases hc
   ·split at hc
    ·cases hc
    ·rename_i hg
     cases hc
     have:=gw (hb c (by simp)) hg
     omega
    ·cases hc
  |bad e=>rw [hc] at h;cases h
section
variable {E w:World} {F:List HP}
end
end Go.Proofs.YtgglghjnakclmaaGreat
namespace Go.Proofs.YtgglghjnakclmaaGreat
open Go Go.Vc
set_option maxRecDepth 100000
theorem HC.ok (a:Sl) (R:Sl→World→Prop) w (h:
 cp (⟨none,0,0⟩:Sl) 0 w fun b c (d:Sl) (e:Int) f=>
 aa (decide (e<(a.len:Int)))
 (ay a e 1 fun g=>
 Ld kS g f fun (h:Sl)=>
 ar Pg (Builtin.append_ #[26,26] 26 ⟨[(an d),(an h)]⟩) kS f fun (j:Sl) i=>
 b j (i64 (e+1)) i∧c j (i64 (e+1)) i<c d e f)
 (R d f)):Cl Pg [kS] oZ ⟨[(an a)]⟩ w R:=co Tryz.f44 [(7,[(3,kS),(4,kI)])] h
end Go.Proofs.YtgglghjnakclmaaGreat
namespace Go.Proofs.YtgglghjnakclmaaGreat
open Go Go.Vc Go.aE
section
variable {E w:World} {F:List HP}
theorem Rx {K:Sl→World→Prop} {s:Sl} {cs:List Sl} {bs:List (List Nat)} (h:Hp E w F)
  (hs:ad F (aH 1 s (cs.map fun x=> .slice x.base x.len x.cap))) (hl:cs.length=bs.length) (hcl:cs.length≤du) (hc: ∀i (h:i<cs.length),ad F (aH 1 cs[i] ((bs.getD i []).map vB)))
  (hbig:bs.flatten.length≤du)
  (hK: ∀s' w',Hp E w' (av 1 s' (bs.flatten.map vB)::F)→K s' w'):Cl Tryz.prog [kS] oZ ⟨[.slice s.base s.len s.cap]⟩ w K:=by
 refine HC.ok _ _ _ ?_
 have hlen:s.len=cs.length:=by have:=(h.aj hs).1;simpa using this.symm
 refine ⟨fun o i w'=> ∃k:Nat,i=(k:Int)∧k≤cs.length∧Hp E w' (av 1 o ((bs.take k).flatten.map vB)::F),fun _ i _=>cs.length - i.toNat,⟨0,rfl,by omega,by simpa using h.aU 1⟩,?_⟩
 rintro o i w' ⟨k,rfl,hk,hh⟩
 refine aa.mk (fun hlt=> ?_) (fun hge=> ?_)
 ·have hlt:k<cs.length:=by have:=of_decide_eq_true hlt;omega
  refine ay.rd (hh.drop.aj hs) (by omega) (by omega) fun q hi hq=> ?_
  have hq':w'.cell? q=some (Sc.sl.enc cs[k]):=by simpa using hq
  refine Ld.sc _ hq' ?_
  have hsrc:=hh.drop.aj (hc k hlt)
  have hlen2:=hsrc.1
  simp only [List.length_map,Nat.mul_one] at hlen2
  have hfl:(bs.take (k+1)).flatten=(bs.take k).flatten++bs.getD k []:=by
   rw [List.take_add_one,List.flatten_append]
   congr 1
   have:k<bs.length:=by omega
   simp [this]
  have hle:(bs.take (k+1)).flatten.length≤bs.flatten.length:=by
   have:=congrArg (fun l=>(List.flatten l).length) (List.take_append_drop (k+1) bs)
   simp only [List.flatten_append,List.length_append] at this
   omega
  rw [hfl,List.length_append] at hle
  have ho:=hh.bK
  simp only [List.length_map,Nat.mul_one] at ho
  rw [aX] at hbig hcl
  refine bf (cE.of (by kernel_rfl) (by kernel_rfl):cE Tryz.prog 26 5 1 1) (by decide) (.inl ⟨5,by kernel_rfl⟩) hh (.inl ⟨_,_,_,rfl,rfl,hsrc⟩) (by simpa using hlen2) jg (by omega) (by omega) fun s2 w2 h2' hs2=> ?_
  rw [ab (by omega)]
  exact ⟨⟨k+1,rfl,by omega,by rw [hfl,List.map_append];exact h2'⟩,by dsimp only;omega⟩
 ·have hge:k=cs.length:=by have:=of_decide_eq_false hge;omega
  subst hge
  refine hK _ _ ?_
  rwa [hl,List.take_length] at hh
end
end Go.Proofs.YtgglghjnakclmaaGreat
namespace Go.af
open Go.Inc Go.Srt Go.Sym Go.aE Go.Tab Go.Hd Go.Crc Go.Bw Go.Stm
theorem O7 {d d':DS} {y:Nat} {t:List Nat} {en:Bool} (h:d.run≤d.left) (he:bz d y=some (d',t,en)):if en then t.length=d.left else t.length+d'.left=d.left∧d'.run≤d'.left:=by
 obtain ⟨L,left,run,digits⟩:=d
 unfold bz at he
 dsimp only at h he
 split at he
 ·split at he
  ·rename_i hs hle
   simp only [Option.some.injEq,Prod.mk.injEq] at he
   obtain ⟨rfl,rfl,rfl⟩:=he
   simp only [Bool.false_eq_true,if_false,List.length_nil]
   omega
  ·cases he
 ·split at he
  ·split at he
   ·simp only [Option.some.injEq,Prod.mk.injEq] at he
    obtain ⟨rfl,rfl,rfl⟩:=he
    simp;omega
   ·cases he
  ·split at he
   ·cases he
   ·simp only [Option.some.injEq,Prod.mk.injEq] at he
    obtain ⟨rfl,rfl,rfl⟩:=he
    simp only [Bool.false_eq_true,if_false,List.length_append,List.length_replicate,List.length_singleton]
    omega
theorem zQ {l last left:List Nat}: ∀(b:List Nat) (s:CS),s.d.run≤s.d.left→run (dp l) s b= .fin last left→last.length=s.acc.length+s.d.left
 | [],s,_,h=>by cases h
 |x::b,s,hs,h=>by
  rw [cj] at h
  cases hf:cD l (2*s.c+x) (s.n+1) with
  |none=>rw [rO hf] at h;exact zQ b ⟨2*s.c+x,s.n+1,s.d,s.acc⟩ hs h
  |some y=>
   rw [vM hf] at h
   cases hd:bz s.d y with
   |none=>rw [hd] at h;cases h
   |some p=>
    obtain ⟨d',t,en⟩:=p
    rw [hd] at h
    have hl:=O7 hs hd
    cases en with
    |true=>
     simp only at h
     injection h with h1 _
     rw [←h1,List.length_append]
     rw [if_pos rfl] at hl
     omega
    |false=>
     simp only at h
     rw [if_neg (by decide)] at hl
     have:=zQ b ⟨0,0,d',s.acc++t⟩ hl.2 h
     rw [this,List.length_append]
     dsimp only
     omega
theorem FQ {P s:Nat} {c x:List Nat} (h:cO P s c= .ok x):x.length=c.length:=by
 unfold cO at h
 split at h
 ·split at h
  ·injection h with h;rw [←h,List.length_reverse,nE]
  ·cases h
 ·cases h
theorem Jd {n:Nat} {b x r:List Nat} (hb: ∀y∈b,y<256) (h:bX n b= .ok (x,r)):x.length≤n:=by
 unfold bX at h
 cases hr:run (aC n) cI b with
 |short s=>rw [hr] at h;cases h
 |bad e=>rw [hr] at h;cases h
 |fin m rest=>
  rw [hr] at h
  cases m with
  |tail s=>cases h
  |az M P s=>
   simp only at h
   have hM:=(xF b cI (.inl ⟨rfl,rfl⟩) hb hr).2.1
   unfold lR at h
   cases ht:run (aV bG) t0 (aG rest) with
   |short q=>rw [ht] at h;cases h
   |bad q=>rw [ht] at h;cases h
   |fin l more=>
    rw [ht] at h
    simp only at h
    cases hc:run (dp l) ⟨0,0,⟨List.range 256,M,0,0⟩,[]⟩ more with
    |short q=>rw [hc] at h;cases h
    |bad q=>rw [hc] at h;cases h
    |fin last left=>
     rw [hc] at h
     simp only at h
     have hl:=zQ more _ (Nat.zero_le _) hc
     split at h
     ·cases ht2:cO P s last with
      |error e=>rw [ht2] at h;cases h
      |ok y=>
       rw [ht2] at h
       simp only at h
       injection h with h
       injection h with h1 _
       rw [←h1,FQ ht2,hl]
       simpa using hM
     ·cases h
end Go.af
namespace Go.Stm
open Go.Inc Go.Srt Go.Sym Go.aE Go.Tab Go.Hd Go.Crc Go.Bw Go.af
theorem J1 {n:Nat} {b x r:List Nat} (hb: ∀y∈b,y<256) (h:bX n b= .ok (x,r)): ∀y∈r,y<256:=by
 unfold bX at h
 cases hr:run (aC n) cI b with
 |short s=>rw [hr] at h;cases h
 |bad e=>rw [hr] at h;cases h
 |fin m rest=>
  obtain ⟨a,hsuf⟩:=jz b cI hr
  rw [hr] at h
  cases m with
  |tail s=>cases h
  |az M P s=>
   simp only at h
   cases hc:lR M (aG rest) with
   |error e=>rw [hc] at h;cases h
   |ok p=>
    rw [hc] at h
    simp only at h
    split at h
    ·cases ht:cO P s p.1 with
     |error e=>rw [ht] at h;cases h
     |ok y=>
      rw [ht] at h
      simp only at h
      injection h with h
      injection h with h1 h2
      intro y hy
      rw [←h2] at hy
      exact hb y (by rw [hsuf];exact List.mem_append.2 (.inr (List.mem_of_mem_drop hy)))
    ·cases h
theorem BM (n:Nat): ∀(k:Nat) (b:List Nat) (acc:List (List Nat)),∃m,(iF n k b acc).1=acc++m
 |0,b,acc=>⟨[],by simp [iF]⟩
 |k+1,b,acc=>by
  unfold iF
  cases run (aC n) cI b with
  |short s=>exact ⟨[],by simp⟩
  |bad e=>exact ⟨[],by simp⟩
  |fin mk r=>
   cases mk with
   |tail s=>exact ⟨[],by simp⟩
   |az M P s=>
    simp only
    cases bX n b with
    |error e=>exact ⟨[],by simp⟩
    |ok p=>
     obtain ⟨m,hm⟩:=BM n k p.2 (acc++ [p.1])
     exact ⟨p.1::m,by rw [hm];simp⟩
end Go.Stm
namespace Go.Proofs.YtgglghjnakclmaaGreat
open Go Go.Vc Go.Srt Go.Inc Go.Sym Go.Tab Go.Hd Go.Bw Go.aE Go.af Go.Crc Go.Stm
def TB (ps:List (Sl×List Nat)):HP:=Sat (ps.map fun x=>OB x.1 x.2)
section
variable {E w:World} {F:List HP}
theorem TB.nil (h:Hp E w F):Hp E w (TB []::F):=h.emp rfl
theorem TB.app {ps:List (Sl×List Nat)} {x:Sl×List Nat} (h:Hp E w (TB ps::OB x.1 x.2::F)):Hp E w (TB (ps++ [x])::F):=by
 have h2:Hp E w ((ps.map fun x=>OB x.1 x.2)++([OB x.1 x.2]++F)):=h.flat
 rw [←List.append_assoc] at h2
 have h3:=h2.fold
 unfold TB
 rw [List.map_append]
 exact h3
theorem TB.at {ps:List (Sl×List Nat)} {i:Nat} (hi:i<ps.length):ad (TB ps::F) (aH 1 ps[i].1 (ps[i].2.map vB)):=by
 have hm:OB ps[i].1 ps[i].2∈ps.map fun x=>OB x.1 x.2:=List.mem_map.2 ⟨ps[i],List.getElem_mem hi,rfl⟩
 obtain ⟨l1,l2,hl⟩:=List.append_of_mem hm
 rintro w f a hs
 have h:Hp w w (TB ps::F):=⟨rfl,rfl,rfl,f,a,hs⟩
 have h3:Hp w w ((ps.map fun x=>OB x.1 x.2)++F):=h.flat
 rw [hl,List.append_assoc] at h3
 have h4:Hp w w (OB ps[i].1 ps[i].2::(l1++(l2++F))):=h3.perm List.perm_middle
 exact h4.aj ad.own
theorem OY {l:List (List Nat)} {n:Nat} (h: ∀z∈l,z.length≤n):l.flatten.length≤n*l.length:=by
 induction l with
 |nil=>simp
 |cons z l ih=>
  have h1:=h z List.mem_cons_self
  have h2:=ih fun y hy=>h y (List.mem_cons_of_mem _ hy)
  rw [List.flatten_cons,List.length_append,List.length_cons,Nat.mul_succ]
  omega
theorem HV {s:Sl} {c:List Nat} {K:Sl→Int→World→Prop} (h:Hp E w F) (hs:ad F (aH 1 s (c.map vB))) (hb: ∀y∈c,y<256) (hbig:c.length≤10000000) (hcap:s.len≤s.cap) (hby: ∀y∈(db c).1.flatten,y<256)
  (hK: ∀ps s' w',ps.map Prod.snd=(db c).1→ps.length≤10000000→(db c).1.flatten.length≤655360000000→Hp E w' (av 1 s' (ps.map fun x=> .slice x.1.base x.1.len x.1.cap)::TB ps::F)→K s' ((db c).2:Int) w'):
  Cl Tryz.prog [kS,kI] oa ⟨[.slice s.base s.len s.cap]⟩ w K:=by
 refine FO.ok _ _ _ (Km h hs hb hbig hcap (fun t w hr h=> ?_) (fun e w hr he h=> ?_) (fun n rest s4 w hr h=> ?_))
 ·rw [mB,hr] at hK
  refine Nw.mk h fun b w h=> ?_
  (with_reducible refine ae.xw h rfl rfl (fun w h=> ?_))
  exact aa.nt (by decide) (hK [] ⟨none,0,0⟩ w rfl (by decide) (by simp) ((TB.nil (h.no 0)).aU 1))
 ·rw [mB,hr] at hK
  refine Nw.mk h fun b w h=> ?_
  (with_reducible refine ae.xw h rfl rfl (fun w h=> ?_))
  exact aa.nt (by omega) (hK [] ⟨none,0,0⟩ w rfl (by decide) (by simp) ((TB.nil (h.no 0)).aU 1))
 ·rw [mB,hr] at hK hby
  dsimp only at hK hby
  have hn:=yg c ⟨0,0⟩ ⟨by decide,by simp,by decide⟩ hb hr
  obtain ⟨a,hsuf⟩:=jz c _ hr
  have hrb: ∀y∈rest,y<256:=fun y hy=>hb y (by rw [hsuf];exact List.mem_append.2 (.inr hy))
  have hrl:rest.length≤c.length:=by rw [hsuf,List.length_append];omega
  refine Nw.mk h fun b7 w h=> ?_
  (with_reducible refine ae.xw h rfl rfl (fun w h=> ?_))
  refine aa.nf rfl ?_
  obtain ⟨R,hR⟩: ∃R,R=jD n rest []:=⟨_,rfl⟩
  rw [←hR] at hK hby
  refine ⟨fun left x w=> ∃(ps:List (Sl×List Nat)) (r:List Nat),(∀y∈r,y<256)∧ps.length+r.length≤c.length∧(∀z∈ps.map Prod.snd,z.length≤65536)∧R=jD n r (ps.map Prod.snd)∧
   Hp E w (av 1 x (ps.map fun x=> .slice x.1.base x.1.len x.1.cap)::OB left r::TB ps::af b7 (.cells ⟨[.int .i64 (n:Int)]⟩ 116 (0,0))::F),fun left _ _=>left.len,⟨[],rest,hrb,by simpa using hrl,by simp,hR,((TB.nil h).at 2).aU 1⟩,?_⟩
  rintro left x w ⟨ps,r,hrb,hlen,hacc,hRr,h⟩
  have hfa:=OY hacc
  rw [List.length_map] at hfa
  have hlc:=(h.at 1).ik
  have hll:=(h.at 1).bK
  have hlx:=h.bK
  rw [List.length_map,Nat.mul_one] at hll hlx
  have hpre: ∃m,R.1=ps.map Prod.snd++m:=by rw [hRr];exact BM n _ _ _
  have hfb: ∀z∈ps.map Prod.snd,∀y∈z,y<256:=fun z hz y hy=>by
   obtain ⟨m,hm⟩:=hpre
   exact hby y (List.mem_flatten.2 ⟨z,by rw [hm];exact List.mem_append.2 (.inl hz),hy⟩)
  rw [pd] at hRr
  have done: ∀e w,R=(ps.map Prod.snd,e)→Hp E w (av 1 x (ps.map fun x=> .slice x.1.base x.1.len x.1.cap)::TB ps::F)→K x (e:Int) w:=fun e w hRe h=>by
   have:=hK ps x w (by rw [hRe]) (by omega) (by rw [hRe];dsimp only;omega) h
   rwa [hRe] at this
  (try simp only [ag,Nat.zero_add,Nat.add_zero,Nat.reduceAdd])
  refine Ld.xb (b:=b7) (x:=(n:Int)) h rfl ?_
  have hTl: ∀{A:HP} {G:List HP},ad (A::OB left r::G) (aH 1 left (r.map vB)):=ad.cons ad.own
  refine CN h (by omega) (by omega) hTl hrb (by omega) hlc (fun t w hq h=> ?_) (fun w hq h=> ?_) (fun M P u r2 s5 w hq h=> ?_) (fun u r2 s5 w hq h=> ?_)
  ·rw [hq] at hRr
   refine Nw.mk h fun b w h=> ?_
   (with_reducible refine ae.xw h rfl rfl (fun w h=> ?_))
   exact aa.nt (by decide) (done 50 w hRr (((h.no 0).no 1).no 2))
  ·rw [hq] at hRr
   refine Nw.mk h fun b w h=> ?_
   (with_reducible refine ae.xw h rfl rfl (fun w h=> ?_))
   exact aa.nt (by decide) (done 242 w hRr (((h.no 0).no 1).no 2))
  ·rw [hq] at hRr
   dsimp only at hRr
   refine Nw.mk h fun b w h=> ?_
   (with_reducible refine ae.xw h rfl rfl (fun w h=> ?_))
   refine aa.nf rfl ?_
   (skip)
   refine Ld.xb (b:=b) (x:=(4:Int)) h rfl (aa.f rfl (Ld.xb (b:=b7) (x:=(n:Int)) h rfl ?_))
   refine Kz h (ad.at 3 ad.own) hrb (by omega) hlc (fun hno=>absurd ⟨by omega,by omega⟩ hno) (fun _ _ e w hu he h=> ?_) (fun _ _ xt r3 s26 s27 w hu h=> ?_)
   ·rw [Int.toNat_natCast] at hu
    rw [hu] at hRr
    exact aa.nt (by omega) (done e w hRr ((((h.no 0).no 0).no 1).no 2))
   ·rw [Int.toNat_natCast] at hu
    have hless:=q0 hu
    have hxl:=Jd hrb hu
    have hr3: ∀y∈r3,y<256:=J1 hrb hu
    rw [hu] at hRr
    dsimp only at hRr
    have l1:=(h.at 1).bK
    rw [List.length_map,Nat.mul_one] at l1
    refine aa.nf rfl (Nw.mk h fun b9 w h=> ?_)
    refine bf (s:=x) (ys:= [.slice s26.base s26.len s26.cap]) (n:=1) KM (by decide) (.inl ⟨26,by kernel_rfl⟩) (h.at 5) (.inl ⟨some ⟨b9,0,none⟩,1,1,rfl,rfl,h.aj (ad.az rfl rfl)⟩) rfl (by intro y hy;rw [List.mem_singleton] at hy;subst hy;rfl) (by omega) (by omega) fun s30 w h _=> ?_
    refine ⟨⟨ps++ [(s26,xt)],r3,hr3,by rw [List.length_append,List.length_singleton];omega,?_,by rw [List.map_append];exact hRr,?_⟩,by first|omega|(dsimp only;omega)⟩
    ·intro z hz
     rw [List.map_append,List.mem_append] at hz
     rcases hz with hz|hz
     ·exact hacc z hz
     ·simp only [List.map_cons,List.map_nil,List.mem_singleton] at hz;rw [hz];omega
    ·
     rw [←List.map_singleton (f:=fun x:Sl×List Nat=>Value.slice x.1.base x.1.len x.1.cap) (a:=(s26,xt)),←List.map_append] at h
     have h:=(((h.no 1).no 3).no 3).no 3
     have h2:=TB.app (x:=(s26,xt)) ((h.at 1).at 3)
     exact ((h2.at 2).at 2)
  ·rw [hq] at hRr
   dsimp only at hRr
   refine Nw.mk h fun b w h=> ?_
   (with_reducible refine ae.xw h rfl rfl (fun w h=> ?_))
   refine aa.nf rfl ?_
   (skip)
   refine Ld.xb (b:=b) (x:=(6:Int)) h rfl (aa.t rfl ?_)
   have h:=h.drew (n:=w.drawn+1)
   refine ⟨br b _ _ (0,0),h.hb,aw.xb (x:=(u:Int)) (fun _ h=>h) rfl ?_⟩
   have l2:=OB.len (h.at 1)
   refine Co (cs:=ps.map Prod.fst) (bs:=ps.map Prod.snd) h (ad.at 2 (by rw [List.map_map];exact ad.own)) (by simp) (by rw [List.length_map,aX];omega) (fun i hi=> ?_) hfb (fun z hz=>by have:=hacc z hz;rw [aX];omega) ⟨h.hb,?_⟩
   ·rw [List.length_map] at hi
    refine ad.at 4 ?_
    rw [List.getElem_map,List.getD_eq_getElem?_getD,List.getElem?_map,List.getElem?_eq_getElem hi]
    exact TB.at hi
   ·refine aa.nm (fun hne=> ?_) (fun he=> ?_)
    ·rw [if_pos (by omega)] at hRr
     exact done 260 _ hRr ((((h.no 0).no 0).no 1).no 2)
    ·rw [if_neg (by omega)] at hRr
     refine aa.dm (fun hp=> ?_) (fun hz=> ?_)
     ·rw [if_pos (by intro e;rw [e] at l2;simp at l2;omega)] at hRr
      exact done 261 _ hRr ((((h.no 0).no 0).no 1).no 2)
     ·rw [if_neg (by rw [ne_eq,Decidable.not_not];exact List.eq_nil_of_length_eq_zero (by omega))] at hRr
      exact done 0 _ hRr ((((h.no 0).no 0).no 1).no 2)
theorem JD {s:Sl} {c:List Nat} {K:Sl→Int→Int→World→Prop} (h:Hp E w F) (hs:ad F (aH 1 s (c.map vB))) (hb: ∀y∈c,y<256) (hbig:c.length≤10000000) (hcap:s.len≤s.cap) (hby: ∀y∈(db c).1.flatten,y<256)
  (hK: ∀s' w',Hp E w' (OB s' (db c).1.flatten::F)→K s' ((db c).1.length:Int) ((db c).2:Int) w'):
  Cl Tryz.prog [kS,kI,kI] pj ⟨[.slice s.base s.len s.cap]⟩ w K:=by
 refine Iy.ok _ _ _ (HV h hs hb hbig hcap hby fun ps s' w hps hpl hfl h=> ?_)
 have hl:=h.bK
 rw [List.length_map,Nat.mul_one] at hl
 refine Rx (cs:=ps.map Prod.fst) (bs:=ps.map Prod.snd) h (by rw [List.map_map];exact ad.own) (by simp) (by rw [List.length_map,aX];omega) (fun i hi=> ?_) (by rw [hps,aX];omega) fun s2 w h=> ?_
 ·rw [List.length_map] at hi
  refine ad.cons ?_
  have:=TB.at (F:=F) hi
  rw [List.getElem_map,List.getD_eq_getElem?_getD,List.getElem?_map,List.getElem?_eq_getElem hi]
  exact this
 ·rw [hps] at h
  have:=hK s2 w ((h.no 1).no 1)
  rwa [show (s'.len:Int)=((db c).1.length:Int) by rw [←hps,List.length_map];omega]
end
end Go.Proofs.YtgglghjnakclmaaGreat
namespace Go.Prs
open Go.Inc Go.Srt Go.Sym Go.aE Go.Tab Go.Hd Go.Crc Go.Bw Go.af Go.Stm
def ON (es:List Ev) (told:Nat):Nat:=if told=0 then 0 else match es with
 | .hdr n::_=>n
 |_=>0
section
variable {en:Bool} {c:List Nat} {s s':PS} {u u':Nat} {e:Ev} {o:Option Ev}
end
section
variable {en:Bool} {c:List Nat} {s:PS} {u told:Nat} {T:List Ev}
end
end Go.Prs
namespace Go.Vc
open Go
theorem Lf (b:List Nat):(strOf b).data=(b.map UInt8.ofNat).toArray:=by
 have:=sH b
 rw [←this]
theorem IN (b:List Nat):(strOf b).size=b.length:=by
 show (strOf b).data.size=_
 rw [Lf];simp
theorem S6 {a b:ByteArray} (h:a.data.toList=b.data.toList):a=b:=by
 cases a;cases b
 congr 1
 exact Array.toList_inj.1 h
theorem Jy {b:List Nat} (i j:Nat):(strOf b).extract i j=strOf ((b.take j).drop i):=by
 apply S6
 rw [ByteArray.data_extract,Array.toList_extract,sH,sH]
 simp [List.extract,List.map_drop,List.map_take,List.drop_take]
theorem NH.of {b:List Nat} {i j:Int} {K:ByteArray→Prop} (a c:Nat) (hi:i=(a:Int)) (hj:j=(c:Int)) (h1:a≤c) (h2:c≤b.length) (hK:K (strOf ((b.take c).drop a))):NH (strOf b) i j K:=by
 subst hi;subst hj
 rw [←Jy] at hK
 refine ⟨by omega,by omega,by rw [IN];omega,?_⟩
 simpa using hK
end Go.Vc
namespace Go.Dcd
open Go.Inc Go.Srt Go.Sym Go.aE Go.Tab Go.Hd Go.Crc Go.Bw Go.af Go.Stm Go.Prs Go.Pol
theorem cx.feed {D:DC} {y:List Nat} (ok:cx D) (hy: ∀x∈y,x<256):cx {D with c:=D.c++y}:=
 ⟨fun x hx=>(List.mem_append.1 hx).elim (ok.cb x) (hy x),ok.al,by dsimp only;rw [List.length_append];have:=ok.ul;omega,ok.ps,ok.jn,ok.bd,ok.az,ok.cameb,ok.allb,ok.mode0,ok.modeE,ok.modeN,ok.bk⟩
theorem cx.stop {D:DC} (ok:cx D):cx {D with ended:=true}:=
 ⟨ok.cb,ok.al,ok.ul,ok.ps,ok.jn,ok.bd,ok.az,ok.cameb,ok.allb,ok.mode0,ok.modeE,ok.modeN,ok.bk⟩
structure On (T:List Nat×Nat×Nat) (n0:Nat) (D:DC) (z:List Nat):Prop where
 ok:cx D
 en:D.ended=true→z= []
 out:T=(D.all++(D.out true z).1,(D.out true z).2)
 size:D.size true z=n0
section
variable {T:List Nat×Nat×Nat} {n0:Nat} {D D1:DC} {z:List Nat} {x st e:Nat}
theorem On.Vr (o:On T n0 D z):qi D true z:=fun h=>⟨rfl,o.en h⟩
theorem On.lF (o:On T n0 D z):D.all.length≤T.1.length:=by rw [o.out,List.length_append];omega
theorem On.feed {y:List Nat} (o:On T n0 D (y++z)) (hz:D.ended=false) (hy: ∀x∈y,x<256):On T n0 {D with c:=D.c++y} z where
 ok:=o.ok.feed hy
 en:=fun h=>by rw [show D.ended=true from h] at hz;cases hz
 out:=by
  have:=o.out
  unfold DC.out DC.rest DC.left at this⊢
  rw [←List.append_assoc] at this
  exact this
 size:=by
  have:=o.size
  unfold DC.size at this⊢
  rw [←List.append_assoc] at this
  exact this
theorem On.stop (o:On T n0 D []):On T n0 {D with ended:=true} []:=⟨o.ok.stop,fun _=>rfl,o.out,o.size⟩
theorem On.call (o:On T n0 D z) (c:lN D D1 x st e):On T n0 D1 z∧((st=1∧e=0∧x<256∧D1.all=D.all++ [x])∨(x=0∧D1.all=D.all∧((st=2∧D.ended=false)∨((st=3∨st=4)∧D1.Fin∧T=(D.all,st,e))))):=by
 have hz:=o.Vr
 have hsz:D1.size true z=n0:=(c.size true z hz).trans o.size
 have hen:D1.ended=true→z= []:=fun h=>o.en (by rw [←c.ended];exact h)
 rcases c.res with ⟨h1,h2,h3,h4,h5⟩|⟨h1,h2,h3,h4⟩
 ·refine ⟨⟨c.ok,hen,?_,hsz⟩,.inl ⟨h1,h2,h3,h4⟩⟩
  rw [o.out,h5 true z hz,h4]
  simp
 ·refine ⟨⟨c.ok,hen,by rw [o.out,h3 true z hz,h2],hsz⟩,.inr ⟨h1,h2,?_⟩⟩
  rcases h4 with ⟨a,b,c',d,e'⟩|⟨a,b,c',d⟩|⟨a,b,c',d⟩
  ·exact .inl ⟨a,c'⟩
  ·refine .inr ⟨.inl a,c',?_⟩
   rw [o.out,d true z hz,a,b];simp
  ·refine .inr ⟨.inr a,d,?_⟩
   have:D1.out true z=([],4,D1.e):=by unfold DC.out;rw [if_pos (by omega)]
   rw [o.out,←h3 true z hz,this,a,b];simp
theorem On.cost (o:On T n0 D1 z) (c:lN D D1 x st e) (hm:D1.mode≠0):D.cost≤D1.cost∧D1.cost≤D.cost+bound n0 D1.mode:=by
 refine ⟨c.mor.cost,?_⟩
 have hn:PS.n D1.s=n0:=by
  have:=o.size
  unfold DC.size at this
  cases hh:cr D1.s with
  |true=>exact absurd (c.ok.mode0 hh) hm
  |false=>rw [hh] at this;simpa using this
 exact c.cost n0 (min n0 (cn D1.mode)) fun _=>⟨hn.symm,rfl⟩
end
end Go.Dcd
namespace Go.Proofs.YtgglghjnakclmaaGreat
open Go Go.Vc Go.Srt Go.Inc Go.Hd Go.aE Go.af Go.Crc Go.Pol Go.Stm Go.Prs Go.Dcd
section
variable {E w:World} {F:List HP} {b:Nat}
end
end Go.Proofs.YtgglghjnakclmaaGreat
namespace Go.Proofs.YtgglghjnakclmaaGreat
open Go Go.Vc Go.Srt Go.Inc Go.Hd Go.aE Go.af Go.Crc Go.Pol Go.Stm Go.Prs Go.Dcd
section
variable {E w:World} {F:List HP} {b:Nat}
abbrev qh:List Nat:= [87,80,1,130,44,0,0,0,0,0]
theorem Ce:ch true qh= [.hdr 300,.tail 0,.fin]:=by decide+kernel
theorem Ow:ch false qh= [.hdr 300,.tail 0]:=by decide+kernel
theorem Cp: ∀x∈qh,x<256:=by decide
theorem Hl:cH []=0:=by decide
def DC.ex (B:Nat):DC:={DC.new B with c:=qh}
theorem yk:nP 300 300=true∧nP 299 300=false:=by decide
theorem yx (B:Nat) (en:Bool):(DC.ex B).out en []=dec (nP B) (ch en qh) 0 0 [] []:=by
 unfold DC.out DC.rest DC.left DC.ex DC.new
 dsimp only
 rw [if_neg (by decide),List.append_nil,sr Cp]
 rfl
theorem Qz:(DC.ex 300).out true []=([],3,0):=by
 rw [yx,Ce,dec,if_pos yk.1,dec,if_pos Hl.symm,dec]
theorem Qf:(DC.ex 300).out false []=([],2,0):=by
 rw [yx,Ow,dec,if_pos yk.1,dec,if_pos Hl.symm,dec]
theorem PL:(DC.ex 299).out true []=([],4,230):=by
 rw [yx,Ce,dec,if_neg (by rw [yk.2];decide)]
theorem Pv:(DC.ex 299).out false []=([],4,230):=by
 rw [yx,Ow,dec,if_neg (by rw [yk.2];decide)]
theorem QI (B:Nat):(DC.ex B).size true []=300:=by
 unfold DC.size DC.ex DC.new
 dsimp only
 rw [if_pos (by rfl),List.append_nil,sr Cp,Ce]
theorem Of (B:Nat) {T:List Nat×Nat×Nat} (hT:(DC.ex B).out true []=T):On T 300 (DC.ex B) [] where
 ok:=(DC.Kc B).feed (y:=qh) Cp
 en:=fun h=>by cases h
 out:=by rw [hT];rfl
 size:=QI B
theorem P5 (B:Nat):(DC.ex B).Calm:=by
 refine ⟨rfl,rfl,fun M P q hm=> ?_⟩
 have:Ev.az M P q∈dA true qh (.head ⟨0,0⟩) 0:=hm
 rw [sr Cp,Ce] at this
 simp at this
theorem On.n {T:List Nat×Nat×Nat} {n0:Nat} {D:DC} {z:List Nat} (o:On T n0 D z) (hm:D.mode≠0):PS.n D.s=n0:=by
 have:=o.size
 unfold DC.size at this
 cases hh:cr D.s with
 |true=>exact absurd (o.ok.mode0 hh) hm
 |false=>rw [hh] at this;simpa using this
theorem AZ {K:Bool→World→Prop} (h:Hp E w F) (hK: ∀w',Hp E w' F→K true w'):Cl Tryz.prog [kB] dn ⟨[]⟩ w K:=by
 refine FP.ok _ _ (Nw.mk h fun b0 w h=>CC (n:=300) h (by decide) (by decide) fun d w h=>CC (n:=299) h (by decide) (by decide) fun g w h=>Sj (n:=0) (by omega) ?_)
 rw [aO];dsimp only
 rw [aO];dsimp only
 refine aa.f rfl (aa.f rfl (aa.f rfl (aa.f rfl (aa.f rfl ?_))))
 refine Aa (h.at 1) (aY.mk h fun w h=> ?_)
 have hb0: ∀{A B:HP} {G:List HP},ad (A::B::af b0 (.cells ⟨[.int .u8 87,.int .u8 80,.int .u8 1,.int .u8 130,.int .u8 44,.int .u8 0,.int .u8 0,.int .u8 0,.int .u8 0,.int .u8 0]⟩ 5 (0,0))::G) (aH 1 ⟨some ⟨b0,0,none⟩,10,10⟩ (qh.map vB)):=ad.at 2 (ad.az rfl rfl)
 refine bj.Ks (h.aj hb0) (by decide) (by decide) (by dsimp only;omega) (by decide) (by dsimp only;omega) fun s1 hs1 _ _=> ?_
 refine bj.Ks (h.aj hb0) (by decide) (by decide) (by dsimp only;omega) (by decide) (by dsimp only;omega) fun s2 hs2 _ _=> ?_
 refine Nw.mk h fun b1 w h=> ?_
 have hs1': ∀w,aH 1 ⟨some ⟨b0,0,none⟩,10,10⟩ (qh.map vB) w→aH 1 s1 (([87,80,1]:List Nat).map vB) w:=hs1
 have hs2': ∀w,aH 1 ⟨some ⟨b0,0,none⟩,10,10⟩ (qh.map vB) w→aH 1 s2 (([130,44,0,0,0,0,0]:List Nat).map vB) w:=hs2
 refine vF (D:=DC.new 300) (s:=⟨some ⟨b1,0,none⟩,2,2⟩) (cs:= [s1,s2]) (bs:= [[87,80,1],[130,44,0,0,0,0,0]]) (h.at 2) (ad.az rfl rfl) rfl (by rw [aX];simp) (fun i hi=>by
  have:i=0∨i=1:=by simp at hi;omega
  rcases this with rfl|rfl
  ·exact (hb0 (A:=af b1 _)).imp hs1'
  ·exact (hb0 (A:=af b1 _)).imp hs2') (by decide) (by rw [aX];decide) fun w h=> ?_
 have h:Hp E w (cJ d (DC.ex 300)::af b1 (.cells ⟨[.slice s1.base s1.len s1.cap,.slice s2.base s2.len s2.cap]⟩ 26 (0,0))::cJ g (DC.new 299)::af b0 (.cells ⟨[.int .u8 87,.int .u8 80,.int .u8 1,.int .u8 130,.int .u8 44,.int .u8 0,.int .u8 0,.int .u8 0,.int .u8 0,.int .u8 0]⟩ 5 (0,0))::F):=h
 have o0:=Of 300 Qz
 refine gV o0.ok h fun D1 x1 st1 e1 w c1 h=> ?_
 obtain ⟨o1,r1⟩:=o0.call c1
 have hst1:st1=2∧e1=0∧D1.u=80:=by
  rcases c1.res with ⟨_,_,_,ha,_⟩|⟨_,_,_,⟨a,b,_,d,_⟩|⟨_,_,_,d⟩|⟨a,b,_,d⟩⟩
  ·have:=o1.lF
   rw [ha] at this
   simp at this
  ·exact ⟨a,b,d⟩
  ·have:=d false [] (fun h=>by cases h)
   rw [Qf] at this
   cases this
  ·rcases r1 with ⟨q,_⟩|⟨_,_,⟨q,_⟩|⟨_,_,q⟩⟩
   ·omega
   ·omega
   ·injection q with _ q
    injection q with q _
    omega
 obtain ⟨rfl,rfl,hu1⟩:=hst1
 have hen1:D1.ended=false:=c1.ended
 have cm1:=c1.mor.calm (P5 300)
 refine LI h fun w h=>Nw.mk h fun b2 w h=> ?_
 refine vF (s:=⟨some ⟨b2,0,none⟩,1,1⟩) (cs:= [⟨some ⟨b0,0,none⟩,10,10⟩]) (bs:= [qh]) (h.at 1) (ad.az rfl rfl) rfl (by rw [aX];simp) (fun i hi=>by
  have:i=0:=by simpa using hi
  subst this
  exact (hb0 (A:=af b1 _)).cons) (by decide) (by rw [c1.c,aX];decide) fun w h=> ?_
 have h:Hp E w (cJ d {D1 with ended:=true}::_):=h
 have o1':=o1.stop
 refine gV o1'.ok h fun D2 x2 Uh e2 w c2 h=> ?_
 obtain ⟨o2,r2⟩:=o1'.call c2
 have hst2:Uh=3∧e2=0∧D2.Fin:=by
  rcases r2 with ⟨_,_,_,ha⟩|⟨_,_,⟨_,q⟩|⟨_,f,q⟩⟩
  ·have:=o2.lF
   rw [ha] at this
   simp at this
  ·cases q
  ·injection q with _ q
   injection q with q1 q2
   exact ⟨q1.symm,q2.symm,f⟩
 obtain ⟨rfl,rfl,hf2⟩:=hst2
 refine gV o2.ok h fun D3 x3 SB e3 w c3 h=> ?_
 obtain ⟨o3,r3⟩:=o2.call c3
 have hD3:=c3.fin hf2
 have hst3:SB=3∧e3=0:=by
  rcases r3 with ⟨_,_,_,ha⟩|⟨_,_,⟨_,q⟩|⟨_,f,q⟩⟩
  ·have:=o3.lF
   rw [ha] at this
   simp at this
  ·rw [c2.ended] at q;cases q
  ·injection q with _ q
   injection q with q1 q2
   exact ⟨q1.symm,q2.symm⟩
 obtain ⟨rfl,rfl⟩:=hst3
 have cm2:=c2.mor.calm (show ({D1 with ended:=true}:DC).Calm from cm1.1)
 have cm3:=c3.mor.calm cm2.1
 have hm3:D3.mode=2∧PS.n D3.s=300:=by
  have hfin3:D3.Fin:=by rw [hD3];exact hf2
  rcases hfin3 with h0|⟨_,n,hs⟩
  ·have:=o3.out
   unfold DC.out at this
   rw [if_pos h0] at this
   injection this with _ q
   injection q with q _
   cases q
  ·have hne:D3.mode≠0:=by
    refine o3.ok.modeE ?_ (by rw [hs];rfl)
    have:=o3.out
    unfold DC.out at this
    by_cases h0:D3.e=0
    ·exact h0
    ·rw [if_pos h0] at this
     injection this with _ q
     injection q with q _
     cases q
   have hn:=On.n o3 hne
   have:=(o3.ok.modeN hne).1
   rw [hn,c3.budget,c2.budget,show ({D1 with ended:=true}:DC).budget=D1.budget from rfl,c1.budget] at this
   exact ⟨this,hn⟩
 have hcost:D3.cost=80:=by
  have hc3:D3.c=qh:=c3.c.trans (c2.c.trans c1.c)
  have h1:=c3.mor.u
  have h2:=c2.mor.u
  have h3:=o3.ok.ul
  rw [hc3] at h3
  have h4:({D1 with ended:=true}:DC).u=D1.u:=rfl
  have h5:({D1 with ended:=true}:DC).steps=D1.steps:=rfl
  have h6:(DC.ex 300).steps=0:=rfl
  have h7:8*qh.length=80:=rfl
  rw [jc cm3.1.1,cm3.2,cm2.2,h5,cm1.2,h6]
  omega
 have hall3:D3.all.length=0:=by
  have:=o3.lF
  simp at this
  rw [this];rfl
 refine Nw.mk h fun b3 w h=> ?_
 have hdl: ∀{w},Hp E w (af b3 (.cells ⟨[.slice (some ⟨b0,0,none⟩) 10 10]⟩ 26 (0,0))::cJ d D3::af b2 (.cells ⟨[.slice (some ⟨b0,0,none⟩) 10 10]⟩ 26 (0,0))::af b1 (.cells ⟨[.slice s1.base s1.len s1.cap,.slice s2.base s2.len s2.cap]⟩ 26 (0,0))::cJ g (DC.new 299)::af b0 (.cells ⟨[.int .u8 87,.int .u8 80,.int .u8 1,.int .u8 130,.int .u8 44,.int .u8 0,.int .u8 0,.int .u8 0,.int .u8 0,.int .u8 0]⟩ 5 (0,0))::F)→Hp E w (cJ g (DC.new 299)::af b3 (.cells ⟨[.slice (some ⟨b0,0,none⟩) 10 10]⟩ 26 (0,0))::cJ d D3::af b0 (.cells ⟨[.int .u8 87,.int .u8 80,.int .u8 1,.int .u8 130,.int .u8 44,.int .u8 0,.int .u8 0,.int .u8 0,.int .u8 0,.int .u8 0]⟩ 5 (0,0))::F):=fun h=>((h.no 2).no 2).at 2
 have h:=hdl h
 refine vF (D:=DC.new 299) (s:=⟨some ⟨b3,0,none⟩,1,1⟩) (cs:= [⟨some ⟨b0,0,none⟩,10,10⟩]) (bs:= [qh]) h (ad.az rfl rfl) rfl (by rw [aX];simp) (fun i hi=>by
  have:i=0:=by simpa using hi
  subst this
  exact hb0) (by decide) (by rw [aX];decide) fun w h=> ?_
 have h:Hp E w (cJ g (DC.ex 299)::af b3 (.cells ⟨[.slice (some ⟨b0,0,none⟩) 10 10]⟩ 26 (0,0))::cJ d D3::af b0 (.cells ⟨[.int .u8 87,.int .u8 80,.int .u8 1,.int .u8 130,.int .u8 44,.int .u8 0,.int .u8 0,.int .u8 0,.int .u8 0,.int .u8 0]⟩ 5 (0,0))::F):=h
 have p0:=Of 299 PL
 refine gV p0.ok h fun D4 x4 st4 e4 w c4 h=> ?_
 obtain ⟨p1,r4⟩:=p0.call c4
 have hst4:st4=4∧e4=230∧D4.Fin:=by
  rcases c4.res with ⟨_,_,_,ha,_⟩|⟨_,_,_,⟨_,_,_,_,d⟩|⟨a,_,_,_⟩|⟨a,_,_,f⟩⟩
  ·have:=p1.lF
   rw [ha] at this
   simp at this
  ·rw [Pv] at d;cases d
  ·rcases r4 with ⟨q,_⟩|⟨_,_,⟨q,_⟩|⟨_,_,q⟩⟩
   ·omega
   ·omega
   ·injection q with _ q
    injection q with q _
    omega
  ·rcases r4 with ⟨q,_⟩|⟨_,_,⟨q,_⟩|⟨_,_,q⟩⟩
   ·omega
   ·omega
   ·injection q with _ q
    injection q with q1 q2
    exact ⟨q1.symm,q2.symm,f⟩
 obtain ⟨rfl,rfl,hf4⟩:=hst4
 refine gV p1.ok h fun D5 x5 st5 e5 w c5 h=> ?_
 obtain ⟨p2,r5⟩:=p1.call c5
 have hst5:st5=4∧e5=230:=by
  rcases c5.res with ⟨_,_,_,ha,_⟩|⟨_,_,_,⟨_,_,_,_,d⟩|⟨a,_,_,_⟩|⟨a,_,_,f⟩⟩
  ·have:=p2.lF
   rw [ha] at this
   simp at this
  ·have hD:=c5.fin hf4
   have h0:D4.e≠0:=by
    rcases hf4 with h0|⟨hb4,n,hs⟩
    ·exact h0
    ·intro h0
     have:=p1.out
     unfold DC.out DC.rest at this
     rw [if_neg (by omega),hs,fa (e:= .fin) (s':= .aq n) (u':=D4.u) (by unfold aD;rfl) rfl,dec] at this
     injection this with _ q
     injection q with q _
     cases q
   unfold DC.out at d
   rw [if_pos h0] at d
   cases d
  ·rcases r5 with ⟨q,_⟩|⟨_,_,⟨q,_⟩|⟨_,_,q⟩⟩
   ·omega
   ·omega
   ·injection q with _ q
    injection q with q _
    omega
  ·rcases r5 with ⟨q,_⟩|⟨_,_,⟨q,_⟩|⟨_,_,q⟩⟩
   ·omega
   ·omega
   ·injection q with _ q
    injection q with q1 q2
    exact ⟨q1.symm,q2.symm⟩
 obtain ⟨rfl,rfl⟩:=hst5
 have hm5:D5.mode=0:=by
  by_cases hm:D5.mode=0
  ·exact hm
  ·have hn:=On.n p2 hm
   have:=(p2.ok.modeN hm).1
   rw [hn,c5.budget,c4.budget] at this
   exact absurd (this.trans (show bZ (DC.ex 299).budget 300 2=0 by decide)) hm
 refine iV.ok _ _ _ (aa.t rfl ?_)
 refine aa.t rfl (aa.t rfl (aa.t rfl (aa.t rfl (aa.t (by rw [hen1];rfl) (aa.t rfl (aa.t rfl (aa.t rfl (aa.t rfl (aa.t rfl ?_)))))))))
 refine Aa (h.at 2) ?_
 rw [hm3.1,hm3.2]
 refine aa.t (by decide) (O4 (h.at 2) ?_)
 rw [hm3.1]
 refine aa.t rfl (sX (h.at 2) fun w h=> ?_)
 rw [hcost]
 refine aa.t (by decide) (Hn h ?_)
 rw [hall3]
 refine aa.t (by decide) (aa.t rfl (aa.t rfl (aa.t rfl (aa.t rfl (Aa (h.at 1) ?_)))))
 rw [hm5,if_pos rfl]
 refine aa.t rfl (aa.t rfl (aa.t rfl (lU.ok none ⟨none,0,0⟩ _ _ (aa.f rfl (aa.t rfl (lp.ok _ _ _ (aa.t rfl (hK _ ?_))))))))
 have h9:=(((h.no 0).no 0).no 0).no 0
 exact h9
end
end Go.Proofs.YtgglghjnakclmaaGreat
namespace Go.Stm
open Go.Inc Go.Srt Go.Sym Go.aE Go.Tab Go.Hd Go.Crc Go.Bw Go.af Go.Proofs.YtgglghjnakclmaaGreat
theorem Sn {n:Nat} {parts:List (List Nat)} (hn:0<n) (hb: ∀c∈parts.flatten,c<256): ∀y∈kL eQ n parts,y<256:=by
 unfold kL
 intro y hy
 rcases List.mem_append.1 hy with hy|hy
 ·unfold iO at hy
  rcases List.mem_append.1 hy with hy|hy
  ·simp at hy;omega
  ·exact DT _ y hy
 ·rcases List.mem_append.1 hy with hy|hy
  ·obtain ⟨x,hx,hy⟩:=List.mem_flatMap.1 hy
   have:=lf hn hb x hx
   unfold mc mA lX at hy
   rcases List.mem_append.1 hy with hy|hy
   ·rcases List.mem_cons.1 hy with rfl|hy
    ·decide
    ·rcases List.mem_append.1 hy with hy|hy
     ·rcases List.mem_append.1 hy with hy|hy
      ·exact DT _ y hy
      ·exact DT _ y hy
     ·exact OP _ y hy
   ·exact Ku (qv _ _) _ y hy
  ·unfold nR at hy
   rcases List.mem_cons.1 hy with rfl|hy
   ·decide
   ·exact OP _ y hy
end Go.Stm
namespace Go.Proofs.YtgglghjnakclmaaGreat
open Go Go.Vc Go.Srt Go.Inc Go.Sym Go.Tab Go.Hd Go.Bw Go.aE Go.af Go.Crc Go.Stm
section
variable {E w:World} {F:List HP}
end
end Go.Proofs.YtgglghjnakclmaaGreat
namespace Go.Vc
end Go.Vc
namespace Go.Stm
open Go.Inc Go.Srt Go.Sym Go.aE Go.Tab Go.Hd Go.Crc Go.Bw Go.af Go.Proofs.YtgglghjnakclmaaGreat
theorem LX {x:List Nat} (h0:0<x.length) (hb: ∀y∈x,y<256) (hn:x.length≤65536):(mA (gT x) x).length≤1200+2*x.length:=by
 have hL:=ot h0 (by omega) hb
 have h1:=ff (n:=x.length) (by omega)
 have hidx:=o8 (t:=x.reverse) (by rw [List.length_reverse];exact h0)
 rw [List.length_reverse] at hidx
 have h2:=ff (n:=cU x.reverse) (by omega)
 have h3:=sY hL.len hL.ok
 have h4:=rQ hL.v (ints (syms (a7 x.reverse)))
 rw [qF,gb] at h4
 have h5:=pn (a7 x.reverse)
 rw [dO,List.length_reverse] at h5
 unfold mA lX body
 rw [List.length_append,qf,List.length_append,List.length_cons,List.length_append,List.length_append,show (od (cH x)).length=4 from rfl]
 omega
theorem u4: ∀(l:List (List Nat)),(∀x∈l,0<x.length∧x.length≤65536∧∀y∈x,y<256)→(blocks eQ l).length≤1200*l.length+2*l.flatten.length
 | [],_=>by simp [blocks]
 |x::l,h=>by
  have h1:=h x List.mem_cons_self
  have h2:=LX h1.1 h1.2.2 h1.2.1
  have h3:=u4 l fun y hy=>h y (List.mem_cons_of_mem _ hy)
  unfold blocks at h3⊢
  rw [List.flatMap_cons,List.length_append,List.length_cons,List.flatten_cons,List.length_append]
  unfold mc at h3⊢
  rw [qW (by omega)]
  omega
theorem IW {n:Nat} {parts:List (List Nat)} (hn:0<n) (hn2:n≤65536) (hb: ∀c∈parts.flatten,c<256):(kL eQ n parts).length≤1200*(cC n parts).length+2*parts.flatten.length+20:=by
 unfold kL
 have h1:=u4 (cC n parts) fun x hx=>⟨(lf hn hb x hx).1,Nat.le_trans (lf hn hb x hx).2.1 hn2,(lf hn hb x hx).2.2⟩
 rw [qu hn] at h1
 have h2:=ff (n:=n) hn2
 rw [List.length_append,List.length_append]
 unfold iO nR
 simp only [List.length_append,List.length_cons,List.length_nil,show (od (cH parts.flatten)).length=4 from rfl]
 omega
theorem Kp (l:List (List Nat)) (k:Nat):(l.take k).flatten.length≤l.flatten.length:=by
 have:=congrArg (fun l=>(List.flatten l).length) (List.take_append_drop k l)
 simp only [List.flatten_append,List.length_append] at this
 omega
end Go.Stm
namespace Go.Proofs.YtgglghjnakclmaaGreat
open Go Go.Vc Go.Srt Go.Inc Go.Sym Go.Tab Go.Hd Go.Bw Go.aE Go.af Go.Crc Go.Stm
section
variable {E w:World} {F:List HP}
theorem QT {ps:List (Sl×List Nat)} (hb: ∀x∈ps,∀y∈x.2,y<256): ∀c∈(ps.map Prod.snd).flatten,c<256:=fun c hc=>by
 obtain ⟨l,hl,hc⟩:=List.mem_flatten.1 hc
 obtain ⟨x,hx,rfl⟩:=List.mem_map.1 hl
 exact hb x hx c hc
end
end Go.Proofs.YtgglghjnakclmaaGreat
namespace Go.Proofs.YtgglghjnakclmaaGreat
open Go.Inc Go.Srt Go.Sym Go.aE Go.Tab Go.Hd Go.Crc Go.Bw Go.af Go.Stm Go.Prs Go.Pol Go.Dcd
theorem Qe (B:Nat) {c:List Nat} (hb: ∀x∈c,x<256):(DC.new B).out true c=dec (nP B) (ch true c) 0 0 [] []:=by
 unfold DC.out DC.rest DC.left DC.new
 dsimp only
 have:dA true ([]++c) (.head ⟨0,0⟩) 0=ch true c:=sr hb
 rw [if_neg (by decide),this]
 rfl
theorem Tb (B:Nat) {c:List Nat} (hb: ∀x∈c,x<256):On (dec (nP B) (ch true c) 0 0 [] []) (ON (ch true c) 1) (DC.new B) c where
 ok:=DC.Kc B
 en:=fun h=>by cases h
 out:=by rw [Qe B hb];rfl
 size:=by
  unfold DC.size DC.new
  dsimp only
  have:dA true ([]++c) (.head ⟨0,0⟩) 0=ch true c:=sr hb
  rw [if_pos (by rfl),this]
  rfl
theorem Mw {c:List Nat} {m:Nat} (hb: ∀x∈c,x<256) (hm:Ev.hdr m∈ch true c):(∃es,ch true c= .hdr m::es)∧1≤m∧m≤65536:=by
 have hm0:=hm
 unfold ch at hm
 cases hr:run bb ⟨0,0⟩ c with
 |short q=>rw [hr] at hm;unfold Prs.sh at hm;simp only at hm;split at hm<;>simp at hm
 |bad e=>rw [hr] at hm;simp at hm
 |fin k rest=>
  have he: ∃es,ch true c= .hdr k::es:=by unfold ch;rw [hr];exact ⟨_,rfl⟩
  obtain ⟨es,he⟩:=he
  obtain rfl:=Pc he hm0
  exact ⟨⟨es,he⟩,yg c ⟨0,0⟩ ⟨by decide,by simp,by decide⟩ hb hr⟩
end Go.Proofs.YtgglghjnakclmaaGreat
namespace Go.Proofs.YtgglghjnakclmaaGreat
open Go Go.Vc Go.Srt Go.Inc Go.Hd Go.aE Go.af Go.Crc Go.Pol Go.Stm Go.Prs Go.Dcd
section
variable {E w:World} {F:List HP} {b:Nat}
end
end Go.Proofs.YtgglghjnakclmaaGreat
namespace Go.Vc
theorem aQ.Vu {A B:Type} {r:A→B→World→Prop} {k:(A→B→World→Prop)→Prop} (Q:A→B→World→Prop) (h1: ∀a b w,Q a b w→r a b w) (h2: ∀r',(∀a b w,Q a b w→r' a b w)→k r'):aQ r k:=h2 r h1
end Go.Vc
namespace Go.Proofs.YtgglghjnakclmaaGreat
open Go.Inc Go.Srt Go.Sym Go.aE Go.Tab Go.Hd Go.Crc Go.Bw Go.af Go.Stm Go.Prs Go.Pol Go.Dcd
theorem Oc {n k:Nat} (hn:0<n) (hn2:n≤65536) {parts:List (List Nat)} (hb: ∀c∈parts.flatten,c<256):(∀y∈(db ((kL eQ n parts).take k)).1.flatten,y<256)∧(db ((kL eQ n parts).take k)).1.flatten.length≤parts.flatten.length:=by
 have main: ∃m,(db ((kL eQ n parts).take k)).1=(cC n parts).take m:=by
  by_cases hk:k<(kL eQ n parts).length
  ·obtain ⟨m,_,hm⟩:=NA OQ hn hn2 hb hk
   exact ⟨m,by rw [hm]⟩
  ·have:=Kq OQ hn hn2 hb []
   rw [List.append_nil] at this
   rw [List.take_of_length_le (by omega),this]
   exact ⟨(cC n parts).length,by rw [List.take_length]⟩
 obtain ⟨m,hm⟩:=main
 rw [hm]
 constructor
 ·intro y hy
  obtain ⟨l,hl,hy⟩:=List.mem_flatten.1 hy
  exact (lf hn hb l (List.mem_of_mem_take hl)).2.2 y hy
 ·have h1:=Kp (cC n parts) m
  rw [qu hn] at h1
  exact h1
theorem P0 (B:Nat) {c:List Nat} (hb: ∀x∈c,x<256):dec (nP B) (ch true c) 0 0 [] []=((db c).1.flatten,if (db c).2=0 then 3 else 4,(db c).2)∨dec (nP B) (ch true c) 0 0 [] []=([],4,230):=by
 by_cases h: ∀n,Ev.hdr n∈ch true c→nP B n=true
 ·left
  rw [←Nk]
  exact oV _ _ _ _ _ h
 ·right
  obtain ⟨n,hn⟩:=Classical.not_forall.1 h
  obtain ⟨hm,hf⟩:=Classical.not_imp.1 hn
  obtain ⟨⟨es,he⟩,_⟩:=Mw hb hm
  rw [he,dec,if_neg hf]
end Go.Proofs.YtgglghjnakclmaaGreat
namespace Go.Proofs.YtgglghjnakclmaaGreat
open Go Go.Vc Go.Srt Go.Inc Go.Hd Go.aE Go.af Go.Crc Go.Pol Go.Stm Go.Prs Go.Dcd
section
variable {E w:World} {F:List HP} {b:Nat}
theorem zD {n budget many:Int} {ps:List (Sl×List Nat)} {s:Sl} {K:Bool→World→Prop} (h:Hp E w F) (hs:ad F (jY s ps)) (hcaps: ∀x∈ps,x.1.len≤x.1.cap) (hb: ∀x∈ps,∀y∈x.2,y<256) (hK: ∀w',Hp E w' F→K true w'):
  Cl Tryz.prog [kB] iE ⟨[.int .i64 n,.int .i64 budget,.slice s.base s.len s.cap,.int .i64 many]⟩ w K:=by
 refine we.ok _ _ _ _ _ _ ?_
 rw [aO];dsimp only
 rw [aO];dsimp only
 refine IM (h.aj hs) fun g hg=> ?_
 have wk:Cl Tryz.prog [kB] dn ⟨[]⟩ w K:=AZ h hK
 cases g with
 |true=>exact aa.t rfl (aa.t rfl wk)
 |false=>
  obtain ⟨h20,h150⟩:=hg rfl
  have hp:=NG hcaps h20 h150
  refine aa.f rfl (aa.dm (fun _=>aa.t rfl wk) (fun g1=>aa.dm (fun _=>aa.t rfl wk) (fun g2=>aa.dm (fun _=>aa.t rfl wk) (fun g3=>aa.dm (fun _=>wk) (fun g4=> ?_)))))
  clear wk
  obtain ⟨N,rfl⟩: ∃N:Nat,n=(N:Int):=⟨n.toNat,by omega⟩
  obtain ⟨B,rfl⟩: ∃B:Nat,budget=(B:Int):=⟨budget.toNat,by omega⟩
  have hbf:=QT hb
  have hN:0<N:=by omega
  refine Ja h (by omega) (by omega) hs hp hb (by omega) fun s1 w h=> ?_
  have hsl:=IW (n:=N) hN (by omega) hbf
  have hcf:=xP (n:=N) hN (ps.map Prod.snd)
  have hsb:=Sn (n:=N) hN hbf
  have hpre:=fun k=>Oc (n:=N) (k:=k) hN (by omega) hbf
  obtain ⟨c,hc⟩: ∃c,c=kL eQ N (ps.map Prod.snd):=⟨_,rfl⟩
  rw [←hc] at h hsl hsb hpre
  refine CC (n:=B) h (by omega) (by omega) fun d w h=> ?_
  rw [aO];dsimp only
  rw [aO];dsimp only
  refine aa.f rfl (aa.f rfl ?_)
  have hlen:c.length=s1.len:=lB (h.aj (ad.at 1 ad.own))
  have hcap1:=(h.at 1).ik
  obtain ⟨q,hq⟩: ∃q:Nat,(if (0:Int)>many then (0:Int) else many)=(q:Int):=⟨many.toNat,by split<;>omega⟩
  rw [hq]
  obtain ⟨m,hm,hm2⟩: ∃m:Nat,(if (s1.len:Int)<(q:Int) then (s1.len:Int) else (q:Int))=(m:Int)∧m≤s1.len:=by
   split
   ·exact ⟨s1.len,rfl,Nat.le_refl _⟩
   ·exact ⟨q,rfl,by omega⟩
  rw [hm]
  obtain ⟨t,ht⟩: ∃t,t=c.take m:=⟨_,rfl⟩
  have htl:t.length≤c.length:=by rw [ht,List.length_take];omega
  have htb: ∀y∈t,y<256:=fun y hy=>hsb y (by rw [ht] at hy;exact List.mem_of_mem_take hy)
  have hpt:=hpre m
  rw [←ht] at hpt
  obtain ⟨hpb,hpl⟩:=hpt
  refine bj.Ks (h.aj (ad.at 1 ad.own)) (by omega) (by omega) (by omega) (by omega) (by omega) fun z hz hlz hcz=> ?_
  rw [Int.toNat_natCast,←List.map_drop,←List.map_take,Int.toNat_zero,List.drop_zero,Nat.sub_zero,←ht] at hz
  refine Nw.mk h fun b1 w h=> ?_
  refine vF (D:=DC.new B) (s:=⟨some ⟨b1,0,none⟩,1,1⟩) (cs:= [z]) (bs:= [t]) (h.at 1) (ad.az rfl rfl) rfl (by rw [aX];simp) (fun i hi=>by
   have:i=0:=by simpa using hi
   subst this
   exact ad.cons (ad.own.imp hz)) (fun y hy=>by rw [List.mem_singleton] at hy;subst hy;exact htb) (by rw [aX];show 0+([t]:List (List Nat)).flatten.length≤_;simp;omega) fun w h=> ?_
  refine LI h fun w h=> ?_
  have ef:([]:List Nat)++([t]:List (List Nat)).flatten=t:=by simp
  obtain ⟨D0,hD0⟩: ∃D0:DC,D0={DC.new B with c:=t,ended:=true}:=⟨_,rfl⟩
  have h:Hp E w (cJ d {DC.new B with c:= []++([t]:List (List Nat)).flatten,ended:=true}::af b1 (.cells ⟨[.slice z.base z.len z.cap]⟩ 26 (0,0))::OB s1 c::F):=h
  rw [ef,←hD0] at h
  obtain ⟨T,hT⟩: ∃T,T=dec (nP B) (ch true t) 0 0 [] []:=⟨_,rfl⟩
  have Uz:On T (ON (ch true t) 1) D0 []:=by
   have o:=Tb B htb
   rw [←hT,←List.append_nil t] at o
   have o2:=(o.feed (y:=t) (z:= []) rfl htb).stop
   rw [List.append_nil] at o2
   rw [hD0]
   exact o2
  have h2T:=P0 B htb
  rw [←hT] at h2T
  have hTl:T.1.length≤(db t).1.flatten.length:=by
   rcases h2T with e|e<;>rw [e]<;>simp
  refine bj.Ks (h.aj (ad.at 2 ad.own)) (by omega) (by omega) (by omega) (by omega) (by omega) fun y hy hly hcy=> ?_
  rw [Int.toNat_natCast,←List.map_drop,←List.map_take,Int.toNat_zero,List.drop_zero,Nat.sub_zero,←ht] at hy
  refine JD (c:=t) h (ad.at 2 (ad.own.imp hy)) htb (by omega) (by omega) hpb fun s2 w h=> ?_
  have hl2:=OB.len h
  obtain ⟨x,hx⟩: ∃x,x=(db t).1.flatten:=⟨_,rfl⟩
  rw [←hx] at h hl2 hTl hpl h2T
  obtain ⟨e0,he0⟩: ∃e0,e0=(db t).2:=⟨_,rfl⟩
  rw [←he0] at h2T⊢
  have hend:D0.ended=true:=by rw [hD0]
  refine aQ.Vu (fun calls st w=> ∃(D3:DC) (v e:Nat),calls=((D3.all.length+1:Nat):Int)∧st=(v:Int)∧(v=3∨v=4)∧D3.Fin∧D3.ended=true∧T=(D3.all,v,e)∧On T (ON (ch true t) 1) D3 []∧Hp E w (OB s2 x::cJ d D3::af b1 (.cells ⟨[.slice z.base z.len z.cap]⟩ 26 (0,0))::OB s1 c::F)) (fun calls st w hq=> ?_) fun r' hr'=> ?_
  ·obtain ⟨D3,v,e,rfl,rfl,hv,hfin,hen,hTe,o3,h⟩:=hq
   have hle:=o3.lF
   refine sX (h.at 1) fun w h=>Hn h (gV o3.ok h fun D4 x4 st4 e4 w c4 h4=> ?_)
   have e34:=c4.fin hfin
   subst e34
   have h:=h4
   have hr:st4=v∧e4=e:=by
    rcases (o3.call c4).2 with ⟨_,_,_,ha⟩|⟨_,_,⟨_,q⟩|⟨_,_,q⟩⟩
    ·have:=congrArg List.length ha
     simp at this
    ·rw [hen] at q;cases q
    ·rw [hTe] at q
     injection q with _ q
     injection q with q1 q2
     exact ⟨q1.symm,q2.symm⟩
   obtain ⟨rfl,rfl⟩:=hr
   have fin: ∀{w},Hp E w (cJ d D4::OB s2 x::af b1 (.cells ⟨[.slice z.base z.len z.cap]⟩ 26 (0,0))::OB s1 c::F)→Cl Tryz.prog [kB] dn ⟨[]⟩ w K:=fun h=>AZ h fun w h=>hK w (by
    have h9:=(((h.no 0).no 0).no 0).no 0
    exact h9)
   rw [ab (x:=(D4.all.length:Int)) (by omega),ab (x:=(D4.all.length:Int)+1) (by omega)]
   have hT3:st4=3→e0=0∧e4=0∧D4.all.length=s2.len:=fun h3=>by
    subst h3
    rcases h2T with q|q
    ·rw [hTe] at q
     injection q with q1 q
     injection q with q2 q3
     by_cases h0:e0=0
     ·exact ⟨h0,by omega,by rw [q1,hl2]⟩
     ·rw [if_neg h0] at q2;cases q2
    ·rw [hTe] at q
     injection q with _ q
     injection q with q _
     cases q
   rcases hv with rfl|rfl
   ·obtain ⟨k1,k2,k3⟩:=hT3 rfl
    subst k1
    subst k2
    refine aa.t rfl (aa.et (by omega) (aa.dt (by omega) (aa.et rfl ?_)))
    refine sX h fun w h=> ?_
    refine aa.t (beq_self_eq_true _) (aa.f rfl (aa.t rfl (aa.t rfl (aa.et (by omega) ?_))))
    exact fin h
   ·refine aa.f rfl (aa.t rfl (aa.et (by omega) (aa.dt (by omega) (aa.et rfl ?_))))
    refine sX h fun w h=> ?_
    refine aa.t (beq_self_eq_true _) (aa.t rfl ?_)
    exact fin h
  ·refine ⟨fun calls st w=> ∃D3:DC,On T (ON (ch true t) 1) D3 []∧D3.ended=true∧((st=1∧calls=(D3.all.length:Int))∨∃v e:Nat,st=(v:Int)∧(v=3∨v=4)∧calls=((D3.all.length+1:Nat):Int)∧D3.Fin∧T=(D3.all,v,e))∧Hp E w (OB s2 x::cJ d D3::af b1 (.cells ⟨[.slice z.base z.len z.cap]⟩ 26 (0,0))::OB s1 c::F),fun calls _ _=>T.1.length+3 - calls.toNat,⟨D0,Uz,hend,.inl ⟨rfl,by rw [hD0];rfl⟩,h⟩,?_⟩
   rintro calls st w ⟨D3,o3,hen,hcase,h⟩
   have hle:=o3.lF
   rcases hcase with ⟨rfl,rfl⟩|⟨v,e,rfl,hv,rfl,hfin,hTe⟩
   ·rw [aO];dsimp only
    rw [ab (x:=(s2.len:Int)+1) (by omega)]
    refine aa.t rfl (aa.dt (by omega) (gV o3.ok (h.at 1) fun D4 x4 st4 e4 w c4 h=> ?_))
    obtain ⟨o4,hc4⟩:=o3.call c4
    have hle4:=o4.lF
    rw [ab (by omega)]
    have h9:=h.at 1
    rcases hc4 with ⟨rfl,rfl,hx4,ha4⟩|⟨rfl,ha4,⟨_,q⟩|⟨hst,hfin,hTe⟩⟩
    ·have hal:D4.all.length=D3.all.length+1:=by rw [ha4,List.length_append];rfl
     exact ⟨⟨D4,o4,c4.ended.trans hen,.inl ⟨rfl,by omega⟩,h9⟩,by first|omega|(dsimp only;omega)⟩
    ·rw [hen] at q;cases q
    ·exact ⟨⟨D4,o4,c4.ended.trans hen,.inr ⟨st4,e4,rfl,hst,by rw [ha4];omega,hfin,by rw [ha4];exact hTe⟩,h9⟩,by first|omega|(dsimp only;omega)⟩
   ·rw [aO];dsimp only
    refine aa.ef (by omega) (hr' _ _ _ ⟨D3,v,e,rfl,rfl,hv,hfin,hen,hTe,o3,h⟩)
end
end Go.Proofs.YtgglghjnakclmaaGreat
namespace Go.Vc
open Go Go.RowKit Go.ChangeShapes Go.WideShapes
section
variable {H:Type} {enc:TypeId×Value→H} {P:Program} {W:World}
def fg (enc:TypeId×Value→H) (P:Program) (W:World) (t:TypeId) (cs:List Value):Prop:= ∃fuel x,DataW.trod enc P W 0 (fun _=>true) true fuel t cs=some x
theorem fg.int {t:TypeId} {k:IntKind} {cs:List Value} (h:fg enc P W t cs) (ht:P.underlying t=some (.int k)): ∃n,cs= [.int k n]∧(Lit.int k n).wf=true:=by
 obtain ⟨m,x,h⟩:=h
 obtain ⟨n,h1,_,h2⟩:=DataW.trod_int ht h
 exact ⟨n,h1,h2⟩
theorem fg.bool {t:TypeId} {cs:List Value} (h:fg enc P W t cs) (ht:P.underlying t=some .bool): ∃b,cs= [.bool b]:=by
 obtain ⟨m,x,h⟩:=h
 obtain ⟨n,h1,_⟩:=DataW.trod_bool ht h
 exact ⟨n,h1⟩
theorem fg.string {t:TypeId} {cs:List Value} (h:fg enc P W t cs) (ht:P.underlying t=some .string): ∃s:ByteArray,cs= [.string s]∧s.size≤maxLen:=by
 obtain ⟨m,x,h⟩:=h
 obtain ⟨n,h1,_,h2⟩:=DataW.trod_string ht h
 exact ⟨n,h1,h2⟩
theorem Bz {a:Addr} {n:Nat} {cs:List Value} (h:W.cells? 0 a n=some cs):cs.length=n∧∀i (hi:i<cs.length),W.cell? (a.add i)=some cs[i]:=by
 unfold World.cells? at h
 rw [if_pos (Nat.zero_le _)] at h
 have hl:cs.length=n:=by simpa using mapM_some_length h
 refine ⟨hl,fun i hi=> ?_⟩
 have:=mapM_some_get h i i (List.getElem?_range (by omega))
 rw [this,List.getElem?_eq_getElem hi]
theorem wE {α:Type} {sz:Nat}: ∀{xs:List (List α)} (_: ∀x∈xs,x.length=sz) (i j:Nat) (hi:i<xs.length) (_:j<sz),xs.flatten[i*sz+j]? =xs[i][j]?
 |x::xs,h,0,j,_,hj=>by
  have hx:=h x (by simp)
  rw [List.flatten_cons,List.getElem?_append_left (by omega),Nat.zero_mul,Nat.zero_add];rfl
 |x::xs,h,i+1,j,hi,hj=>by
  have hx:=h x (by simp)
  rw [List.flatten_cons,List.getElem?_append_right (by rw [hx,Nat.succ_mul];omega),hx,show (i+1)*sz+j - sz=i*sz+j by rw [Nat.succ_mul];omega,
   wE (fun y hy=>h y (List.mem_cons_of_mem _ hy)) i j (by simpa using hi) hj]
  rfl
theorem ya {α:Type} {sz:Nat}: ∀{xs:List (List α)} (_: ∀x∈xs,x.length=sz),xs.flatten.length=xs.length*sz
 | [],_=>by simp
 |x::xs,h=>by
  rw [List.flatten_cons,List.length_append,h x (by simp),ya (fun y hy=>h y (List.mem_cons_of_mem _ hy)),List.length_cons,Nat.succ_mul];omega
theorem fg.slice {t e:TypeId} {cs:List Value} (h:fg enc P W t cs) (ht:P.underlying t=some (.slice e)):
  ∃(s:Sl) (xs:List (List Value)),cs= [.slice s.base s.len s.cap]∧s.len≤s.cap∧s.cap≤maxLen∧xs.length=s.len∧(∀x∈xs,fg enc P W e x)∧(∀x∈xs,x.length=P.cellsOf e)∧aH (P.cellsOf e) s xs.flatten W:=by
 obtain ⟨m,x,h⟩:=h
 rcases DataW.trod_slice ht h with ⟨h1,_⟩|⟨a,len,cap,elems,rest,n,rfl,h1,_,_,hlc,hcm,hel,hget,_⟩
 ·exact ⟨⟨none,0,0⟩,[],h1,Nat.le_refl _,Nat.zero_le _,rfl,by simp,by simp,by simp,by simp⟩
 ·have hx: ∀i,i<len→∃cs,W.cells? 0 (a.add (i*P.cellsOf e)) (P.cellsOf e)=some cs∧fg enc P W e cs:=by
   intro i hi
   have:=hget i hi
   rw [List.getElem?_eq_getElem (by omega)] at this
   obtain ⟨cs,h2,h3⟩:=Option.bind_eq_some_iff.1 this
   exact ⟨cs,h2,n,_,h3⟩
  have key: ∀k,k≤len→∃xs:List (List Value),xs.length=k∧∀i (hi:i<xs.length),W.cells? 0 (a.add (i*P.cellsOf e)) (P.cellsOf e)=some xs[i]∧fg enc P W e xs[i]:=by
   intro k
   induction k with
   |zero=>exact fun _=>⟨[],rfl,fun i hi=>by simp at hi⟩
   |succ k ih=>
    intro hk
    obtain ⟨xs,hl,hxs⟩:=ih (by omega)
    obtain ⟨cs,h2,h3⟩:=hx k (by omega)
    refine ⟨xs++ [cs],by simp [hl],fun i hi=> ?_⟩
    by_cases hik:i<xs.length
    ·rw [List.getElem_append_left hik];exact hxs i hik
    ·have:i=k:=by simp [hl] at hi;omega
     subst this
     rw [List.getElem_append_right (by omega)]
     simp only [hl,Nat.sub_self,List.getElem_cons_zero]
     exact ⟨h2,h3⟩
  obtain ⟨xs,hl,hxs⟩:=key len (Nat.le_refl _)
  have hsz: ∀x∈xs,x.length=P.cellsOf e:=by
   intro x hx
   obtain ⟨i,hi,rfl⟩:=List.getElem_of_mem hx
   exact (Bz (hxs i hi).1).1
  refine ⟨⟨some a,len,cap⟩,xs,h1,hlc,hcm,hl,fun x hx=> ?_,hsz,?_,fun i hi=>⟨a,rfl,?_⟩⟩
  ·obtain ⟨i,hi,rfl⟩:=List.getElem_of_mem hx
   exact (hxs i hi).2
  ·rw [ya hsz,hl]
  ·rw [ya hsz,hl] at hi
   have hz:0<P.cellsOf e:=by
    rcases Nat.eq_zero_or_pos (P.cellsOf e) with h0|h0
    ·rw [h0] at hi;simp at hi
    ·exact h0
   have e1:i/P.cellsOf e*P.cellsOf e+i % P.cellsOf e=i:=by rw [Nat.mul_comm];exact Nat.div_add_mod i _
   have hq:i/P.cellsOf e<xs.length:=by rw [hl];exact (Nat.div_lt_iff_lt_mul hz).2 hi
   have hr:=Nat.mod_lt i hz
   obtain ⟨c1,c2⟩:=Bz (hxs _ hq).1
   have c3:=c2 (i % P.cellsOf e) (by omega)
   have c4:=wE hsz _ _ hq hr
   have c5:(a.add (i/P.cellsOf e*P.cellsOf e)).add (i % P.cellsOf e)=a.add i:=by
    conv=>rhs;rw [←e1]
    unfold Addr.add
    by_cases e1:i/P.cellsOf e*P.cellsOf e=0<;>by_cases e2:i % P.cellsOf e=0<;>simp [e1,e2,Nat.add_assoc]
   rw [c5] at c3
   rw [c3,←List.getElem?_eq_getElem,←c4]
   simp only [e1]
   exact List.getElem?_eq_getElem _
theorem fg.struct {t:TypeId} {fs:Array Field} {cs:List Value} (h:fg enc P W t cs) (ht:P.underlying t=some (.struct fs)):cs.length=P.cellsOf t∧∀(i:Nat) (f:Field),fs[i]? =some f→fg enc P W f.type ((cs.drop f.offset).take (P.cellsOf f.type)):=by
 obtain ⟨m,x,h⟩:=h
 obtain ⟨xs,n,_,_,h2,h3,h4⟩:=DataW.trod_struct ht h
 refine ⟨h2,fun i f hf=> ?_⟩
 have hi:i<fs.size:=by
  rcases Nat.lt_or_ge i fs.size with hh|hh
  ·exact hh
  ·rw [Array.getElem?_eq_none hh] at hf;cases hf
 have:=h4 i f hf
 rw [List.getElem?_eq_getElem (by omega)] at this
 exact ⟨n,_,this⟩
def Ko (P:Program) (t:TypeId) (i:Nat) (ft:TypeId) (off n:Nat):Bool:=match P.underlying t with
 |some (.struct fs)=>match fs[i]? with
  |some f=>f.type==ft&&f.offset==off&&P.cellsOf ft==n
  |none=>false
 |_=>false
theorem fg.field {t:TypeId} {cs:List Value} (h:fg enc P W t cs) (i:Nat) (ft:TypeId) (off n:Nat) (hf:Ko P t i ft off n=true):fg enc P W ft ((cs.drop off).take n):=by
 unfold Ko at hf
 split at hf
 ·rename_i fs ht
  split at hf
  ·rename_i f hfi
   simp only [Bool.and_eq_true,beq_iff_eq] at hf
   obtain ⟨⟨rfl,rfl⟩,rfl⟩:=hf
   exact (h.struct ht).2 i f hfi
  ·cases hf
 ·cases hf
theorem fg.array {t e:TypeId} {n:Nat} {cs:List Value} (h:fg enc P W t cs) (ht:P.underlying t=some (.array n e)):cs.length=P.cellsOf t∧∀i,i<n→fg enc P W e ((cs.drop (i*P.cellsOf e)).take (P.cellsOf e)):=by
 obtain ⟨m,x,h⟩:=h
 obtain ⟨xs,n',_,_,h2,h3,h4⟩:=DataW.trod_array ht h
 refine ⟨h2,fun i hi=> ?_⟩
 have:=h4 i hi
 rw [List.getElem?_eq_getElem (by omega)] at this
 exact ⟨n',_,this⟩
theorem vY {α β:Type} {g:α→β} {Good:α→Prop}: ∀{xs:List β} (_: ∀x∈xs,∃a,x=g a∧Good a),∃l:List α,xs=l.map g∧∀a∈l,Good a
 | [],_=>⟨[],rfl,by simp⟩
 |x::xs,h=>by
  obtain ⟨a,rfl,ha⟩:=h x (by simp)
  obtain ⟨l,rfl,hl⟩:=vY (fun y hy=>h y (List.mem_cons_of_mem _ hy))
  exact ⟨a::l,rfl,by simpa using ⟨ha,hl⟩⟩
theorem o7 {α β:Type} {g:α→β} (l:List α):(l.map fun a=> [g a]).flatten=l.map g:=by
 induction l with
 |nil=>rfl
 |cons a l ih=>simp [ih]
theorem wf_u8 {n:Int} (h:(Lit.int .u8 n).wf=true):0≤n∧n≤255:=by
 simp [Lit.wf,IntKind.min,IntKind.max,IntKind.signed,IntKind.bits] at h
 exact h
def rG (W:World) (s:Sl) (b:List Nat):Prop:=aH 1 s (b.map vB) W∧(∀y∈b,y<256)∧s.len≤s.cap∧s.cap≤maxLen
theorem fg.bytes {t e:TypeId} {cs:List Value} (h:fg enc P W t cs) (ht:P.underlying t=some (.slice e)) (he:P.underlying e=some (.int .u8)) (hc:P.cellsOf e=1): ∃s b,cs= [.slice s.base s.len s.cap]∧rG W s b:=by
 obtain ⟨s,xs,h1,h2,h3,h4,h5,h6,h7⟩:=h.slice ht
 obtain ⟨l,rfl,hl⟩:=vY (g:=fun y:Nat=> [vB y]) (Good:=fun y=>y<256) (xs:=xs) fun x hx=>by
  obtain ⟨n,rfl,hn⟩:=(h5 x hx).int he
  have:=wf_u8 hn
  obtain ⟨m,rfl⟩:=Int.eq_ofNat_of_zero_le this.1
  exact ⟨m,rfl,by omega⟩
 rw [o7,hc] at h7
 exact ⟨s,l,h1,h7,hl,h2,h3⟩
theorem fg.ints {t e:TypeId} {k:IntKind} {cs:List Value} (h:fg enc P W t cs) (ht:P.underlying t=some (.slice e)) (he:P.underlying e=some (.int k)) (hc:P.cellsOf e=1):
  ∃s,∃l:List Int,cs= [.slice s.base s.len s.cap]∧aH 1 s (l.map (.int k)) W∧(∀y∈l,(Lit.int k y).wf=true)∧s.len≤s.cap∧s.cap≤maxLen:=by
 obtain ⟨s,xs,h1,h2,h3,h4,h5,h6,h7⟩:=h.slice ht
 obtain ⟨l,rfl,hl⟩:=vY (g:=fun y:Int=> [Value.int k y]) (Good:=fun y=>(Lit.int k y).wf=true) (xs:=xs) fun x hx=>by
  obtain ⟨n,rfl,hn⟩:=(h5 x hx).int he
  exact ⟨n,rfl,hn⟩
 rw [o7,hc] at h7
 exact ⟨s,l,h1,h7,hl,h2,h3⟩
theorem fg.chunks {t e u:TypeId} {cs:List Value} (h:fg enc P W t cs) (ht:P.underlying t=some (.slice e)) (he:P.underlying e=some (.slice u)) (hu:P.underlying u=some (.int .u8)) (hc:P.cellsOf e=1) (hcu:P.cellsOf u=1):
  ∃s,∃l:List (Sl×List Nat),cs= [.slice s.base s.len s.cap]∧aH 1 s (l.map fun a=> .slice a.1.base a.1.len a.1.cap) W∧(∀a∈l,rG W a.1 a.2)∧s.len≤s.cap∧s.cap≤maxLen:=by
 obtain ⟨s,xs,h1,h2,h3,h4,h5,h6,h7⟩:=h.slice ht
 obtain ⟨l,rfl,hl⟩:=vY (g:=fun a:Sl×List Nat=> [Value.slice a.1.base a.1.len a.1.cap]) (Good:=fun a=>rG W a.1 a.2) (xs:=xs) fun x hx=>by
  obtain ⟨s,b,rfl,hb⟩:=(h5 x hx).bytes he hu hcu
  exact ⟨(s,b),rfl,hb⟩
 rw [o7,hc] at h7
 exact ⟨s,l,h1,h7,hl,h2,h3⟩
def Arg (enc:TypeId×Value→H) (P:Program) (W:World) (t:TypeId) (v:Value):Prop:=(∃base,Value.okWide P W .any base t v)∧fg enc P W t v.cells.toList
def HU (enc:TypeId×Value→H) (P:Program) (W:World):List TypeId→List Value→Prop
 | [],vs=>vs= []
 |t::ts,vs=> ∃v vs',vs=v::vs'∧Arg enc P W t v∧HU enc P W ts vs'
theorem Arg.one {t:TypeId} {v:Value} (h:Arg enc P W t v) (hv:v.cells.toList= [v]):fg enc P W t [v]:=by
 have:=h.2
 rwa [hv] at this
theorem Arg.slice {t e:TypeId} {v:Value} (h:Arg enc P W t v) (ht:P.underlying t=some (.slice e)):fg enc P W t [v]:=by
 obtain ⟨base,hb⟩:=h.1
 obtain ⟨a,l,c,rfl⟩:=okWide_slice ht hb
 exact h.one rfl
theorem Arg.bytes {t e:TypeId} {v:Value} (h:Arg enc P W t v) (ht:P.underlying t=some (.slice e)) (he:P.underlying e=some (.int .u8)) (hc:P.cellsOf e=1): ∃s b,v= .slice s.base s.len s.cap∧rG W s b:=by
 obtain ⟨s,b,h1,h2⟩:=(h.slice ht).bytes ht he hc
 exact ⟨s,b,by simpa using h1,h2⟩
theorem Arg.ints {t e:TypeId} {k:IntKind} {v:Value} (h:Arg enc P W t v) (ht:P.underlying t=some (.slice e)) (he:P.underlying e=some (.int k)) (hc:P.cellsOf e=1):
  ∃s,∃l:List Int,v= .slice s.base s.len s.cap∧aH 1 s (l.map (.int k)) W∧(∀y∈l,(Lit.int k y).wf=true)∧s.len≤s.cap∧s.cap≤maxLen:=by
 obtain ⟨s,l,h1,h2⟩:=(h.slice ht).ints ht he hc
 exact ⟨s,l,by simpa using h1,h2⟩
theorem Arg.chunks {t e u:TypeId} {v:Value} (h:Arg enc P W t v) (ht:P.underlying t=some (.slice e)) (he:P.underlying e=some (.slice u)) (hu:P.underlying u=some (.int .u8)) (hc:P.cellsOf e=1) (hcu:P.cellsOf u=1):
  ∃s,∃l:List (Sl×List Nat),v= .slice s.base s.len s.cap∧aH 1 s (l.map fun a=> .slice a.1.base a.1.len a.1.cap) W∧(∀a∈l,rG W a.1 a.2)∧s.len≤s.cap∧s.cap≤maxLen:=by
 obtain ⟨s,l,h1,h2⟩:=(h.slice ht).chunks ht he hu hc hcu
 exact ⟨s,l,by simpa using h1,h2⟩
theorem Arg.int {t:TypeId} {k:IntKind} {v:Value} (h:Arg enc P W t v) (ht:P.underlying t=some (.int k)): ∃n,v= .int k n∧(Lit.int k n).wf=true:=by
 obtain ⟨base,hb⟩:=h.1
 obtain ⟨n,rfl⟩:=okWide_int ht hb
 obtain ⟨m,h1,h2⟩:=(h.one rfl).int ht
 cases h1
 exact ⟨n,rfl,h2⟩
theorem Arg.string {t:TypeId} {v:Value} (h:Arg enc P W t v) (ht:P.underlying t=some .string): ∃s:ByteArray,v= .string s∧s.size≤maxLen:=by
 obtain ⟨base,hb⟩:=h.1
 obtain ⟨n,rfl⟩:=okWide_string ht hb
 obtain ⟨m,h1,h2⟩:=(h.one rfl).string ht
 cases h1
 exact ⟨n,rfl,h2⟩
theorem Arg.struct {t:TypeId} {fs:Array Field} {v:Value} (h:Arg enc P W t v) (ht:P.underlying t=some (.struct fs)): ∃cs,v= .agg cs∧fg enc P W t cs.toList:=by
 obtain ⟨base,hb⟩:=h.1
 obtain ⟨cs,rfl,_⟩:=okWide_struct ht hb
 exact ⟨cs,rfl,h.2⟩
theorem Hg: ∀{ts:List TypeId} {vs:List Value} {ds:List (DataW H)} {ps:List MemPlace},DataW.TrodAll enc P W 0 (fun _=>true) true ts vs ds ps→(∀(j:Nat) t v,ts[j]? =some t→vs[j]? =some v→∃base,Value.okWide P W .any base t v)→HU enc P W ts vs
 | [],[],[],_,_,_=>rfl
 |t::ts,v::vs,d::ds,ps,h,hv=>by
  obtain ⟨p,q,⟨fuel,h1⟩,h2,_⟩:=h
  exact ⟨v,vs,rfl,⟨hv 0 t v rfl rfl,fuel,_,h1⟩,Hg h2 fun j t' v' a b=>hv (j+1) t' v' a b⟩
theorem wA: ∀{ts:List TypeId} {vs:List Value} {ds:List (DataW H)} {ps:List MemPlace},DataW.TrodAll enc P W 0 (fun _=>true) true ts vs ds ps→ds.length=ts.length
 | [],[],[],_,_=>rfl
 |_::_,_::_,_::_,_,h=>by
  obtain ⟨p,q,_,h2,_⟩:=h
  simp [wA h2]
theorem tZ (hl:laidOutB P=true) {W':World} (hb:Below W.heap.size W W'): ∀{ts:List TypeId} {vs:List Value} {ds:List (DataW H)} {ps:List MemPlace},DataW.TrodAll enc P W 0 (fun _=>true) true ts vs ds ps→
  (∀t∈ts,P.readableRec t=true∧t<P.types.size)→∃qs,DataW.TrodAll enc P W' 0 (fun b=>decide (b<W.heap.size)) true ts vs ds qs
 | [],[],[],_,_,_=>⟨[],rfl⟩
 |t::ts,v::vs,d::ds,ps,h,hr=>by
  obtain ⟨p,q,h1,h2,_⟩:=h
  obtain ⟨qs,h3⟩:=tZ hl hb h2 fun t ht=>hr t (List.mem_cons_of_mem _ ht)
  obtain ⟨ht1,ht2⟩:=hr t (by simp)
  have hlt: ∀x∈p,x.block<W.heap.size:=by obtain ⟨m,hm⟩:=h1;exact DataW.trod_lt m _ _ _ hm
  exact ⟨_,p,qs,Below.trod hl ht1 ht2 h1 hb hlt,h3,rfl⟩
theorem My {C:Checked} {os:Os} {f:FuncId} {fn:Func} {s:ChangeSpec} {conds:List PathCond} {tb:TypeId}
  (own:ownKnob C.prog.godebug=none) (started:os.Started) (noInit:C.prog.inits.idxOf? f=none) (hfn:C.prog.funcs[f]? =some fn)
  (witness: ∃(w:World) (tape:Tape) (i:Input),w.os=os∧(w.forCall tape i).Shaped C.prog∧i.vars= []∧Input.okWide C.prog (w.forCall tape i) .any w.heap.size f i∧
   s.pre6 enc C.prog fn conds false (w.forCall tape i).memory i.args∧({}:Assume).holds C.prog (lone (Frame.enter C.prog f i.args .normal) [] (w.forCall tape i)))
  (hvars:s.vars= []) (hres:fn.resultTypes= #[tb]) (htb:C.prog.underlying tb=some .bool)
  (hspec: ∀ds:List (DataW H),ds.length=fn.params.toList.length→s.fn H ds={results:= [.lit (.bool true)],args:=ds})
  (laid:laidOutB C.prog=true) (hr:fn.params.toList.all (fun t=>C.prog.readableRec t&&decide (t<C.prog.types.size))=true)
  (contract: ∀(W:World) (args:Array Value) (ds:List (DataW H)),HU enc C.prog W fn.params.toList args.toList→(DataW.weightsEach C.prog fn.params.toList ds).all (·≤reachBytes)=true→
   Cl C.prog [kB] f args W (fun b w'=>b=true∧Below W.heap.size W w')):
  ReturnsInHanded {} C os f .any (s.pre6 enc C.prog fn conds false) (s.post enc C.prog fn false true false false):=by
 refine returnsInHanded_of_change_sized own started noInit hfn witness ?_
 intro W base args ds gs before hval hW _ hz _
 have hW':=hW
 obtain ⟨p,q,hA,hV,rfl,hfz,hnd⟩:=hW
 rw [hvars] at hV
 obtain ⟨rfl,rfl⟩:=trodVars_none hV
 have hlen:=wA hA
 have hz':(DataW.weightsEach C.prog fn.params.toList ds).all (·≤reachBytes)=true:=by
  have e:s.plain.varTypes C.prog= []:=by
   simp [DataSpec.varTypes,ChangeSpec.plain,hvars]
  rw [e,List.append_nil,List.append_nil] at hz
  exact hz
 have hargs:=Hg (vs:=args.toList) hA fun j t v ht hv=>⟨base,hval j t v (by simpa using ht) (by simpa using hv)⟩
 refine Calls.mono (contract W args ds hargs hz') fun e W' hp=> ?_
 cases e with
 |returned v=>
  obtain ⟨b,hv,hb,bel⟩:=Ki.dz (k:=kB) hp
  subst hb
  have hv:v= .bool true:=hv
  subst hv
  have hsp:=hspec ds hlen
  obtain ⟨qs,hq⟩:=tZ laid bel hA fun t ht=>by
   have:=List.all_eq_true.1 hr t ht
   simpa using this
  refine ⟨_,rfl,ds,[],_,[],qs,[],hW',?_,?_,?_,bel.frame _,fun h=>by cases h⟩
  ·rw [List.append_nil,hsp,hres]
   exact trodAll_mk1 (shut_bool htb _)
  ·rw [List.append_nil,hsp];exact hq
  ·rw [hvars]
   have:(s.fn H (ds++ [])).vars= []:=by rw [List.append_nil,hsp]
   rw [this];rfl
 |_=>exact absurd hp (by intro h;exact h)
end
end Go.Vc
namespace Go.Vc
open Go Go.RowKit Go.ChangeShapes Go.WideShapes
section
variable {H:Type} {enc:TypeId×Value→H} {P:Program} {W:World}
theorem Arg.agg {t e:TypeId} {n:Nat} {v:Value} (h:Arg enc P W t v) (ht:P.underlying t=some (.array n e)): ∃cs,v= .agg cs∧fg enc P W t cs.toList:=by
 obtain ⟨base,hb⟩:=h.1
 simp only [Value.okWide,ht] at hb
 obtain ⟨cs,rfl,_⟩:=hb
 exact ⟨cs,rfl,h.2⟩
end
end Go.Vc
