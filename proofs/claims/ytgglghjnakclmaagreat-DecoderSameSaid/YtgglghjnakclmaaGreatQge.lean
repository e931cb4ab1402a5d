/- Texts packed together by program; spaces struck by program. Conditions: as each theorem states. -/
import Derived.Carry
import Derived.OpenShut
import Derived.ProofKit
import Derived.SizedLaws
import Derived.Test.YtgglghjnakclmaaGreatQgd
set_option linter.unusedSimpArgs false
set_option linter.unusedVariables false
set_option maxRecDepth 20000
namespace Go.Proofs.YtgglghjnakclmaaGreat
open Go Go.Vc
set_option maxRecDepth 100000
theorem A9.ok (a:Sl) (R:(Array Value)→Int→Int→World→Prop) w (h:
 Nw 104 ⟨List.replicate 258 (.int .u8 0)⟩ w fun c b=>
 Nw 106 ⟨List.replicate 258 (.int .u8 0)++ [(ni 0),(ni 0),(ni 0),(ni 0)]⟩ b fun e d=>
 fx 0 d fun f g (h:Int) i=>
 aa (decide (h<(a.len:Int)))
 (aT a h 1 fun j=>
 Ld kI j i fun (k:Int)=>
 aa (k !=0)
 (aT a h 1 fun l=>
 Ld kI l i fun (m:Int)=>
 aa (m !=1)
 (bC Pg 104 [] fun n=>
 aj 258 ⟨c,0,none⟩ n i fun o=>
 Ld (.arr 258) ⟨c,0,none⟩ o fun p=>
 R p 0 2 o)
 (cP i fun q r=>
 au (.arr 262) ⟨e,0,none⟩ q fun s=>
 aT a h 1 fun t=>
 au kI t q fun (u:Int)=>
 (Cl Pg [(.arr 262),kB] ga ⟨[(.agg s),(ni u)]⟩ r fun x (y:Bool) v=>
 q v∧
 Nw 106 ⟨List.replicate 258 (.int .u8 0)++ [(ni 0),(ni 0),(ni 0),(ni 0)]⟩ v fun a1 z=>
 q z∧
 aj 262 ⟨a1,0,none⟩ x z fun b1=>
 q b1∧
 aa (!y)
 (bC Pg 104 [] fun c1=>
 aj 258 ⟨c,0,none⟩ c1 b1 fun d1=>
 Ld (.arr 258) ⟨c,0,none⟩ d1 fun e1=>
 R e1 0 100 d1)
 (Ld (.arr 262) ⟨a1,0,none⟩ b1 fun f1=>
 aj 262 ⟨e,0,none⟩ f1 b1 fun g1=>
 Ld kI (Addr.add ⟨e,0,none⟩ 258) g1 fun (h1:Int)=>
 aa (h1==258)
 (Ld (.arr 258) (Addr.add ⟨e,0,none⟩ 0) g1 fun i1=>
 aj 258 ⟨c,0,none⟩ i1 g1 fun j1=>
 Ld (.arr 258) ⟨c,0,none⟩ j1 fun k1=>
 R k1 (i64 (h+1)) 0 j1)
 (f (i64 (h+1)) g1∧g (i64 (h+1)) g1<g h i)))∧
 (Nw 106 ⟨List.replicate 258 (.int .u8 0)++ [(ni 0),(ni 0),(ni 0),(ni 0)]⟩ r fun m1 l1=>
 q l1∧
 Cl Pg [(.arr 262),kB] ga ⟨[(.agg s),(ni u)]⟩ l1 fun o1 (p1:Bool) n1=>
 q n1∧
 aj 262 ⟨m1,0,none⟩ o1 n1 fun q1=>
 q q1∧
 aa (!p1)
 (bC Pg 104 [] fun r1=>
 aj 258 ⟨c,0,none⟩ r1 q1 fun s1=>
 Ld (.arr 258) ⟨c,0,none⟩ s1 fun t1=>
 R t1 0 100 s1)
 (Ld (.arr 262) ⟨m1,0,none⟩ q1 fun u1=>
 aj 262 ⟨e,0,none⟩ u1 q1 fun v1=>
 Ld kI (Addr.add ⟨e,0,none⟩ 258) v1 fun (x1:Int)=>
 aa (x1==258)
 (Ld (.arr 258) (Addr.add ⟨e,0,none⟩ 0) v1 fun y1=>
 aj 258 ⟨c,0,none⟩ y1 v1 fun z1=>
 Ld (.arr 258) ⟨c,0,none⟩ z1 fun a2=>
 R a2 (i64 (h+1)) 0 z1)
 (f (i64 (h+1)) v1∧g (i64 (h+1)) v1<g h i)))))
 (cP i fun b2 c2=>
 au (.arr 262) ⟨e,0,none⟩ b2 fun d2=>
 aT a h 1 fun e2=>
 au kI e2 b2 fun (f2:Int)=>
 (Cl Pg [(.arr 262),kB] ga ⟨[(.agg d2),(ni f2)]⟩ c2 fun h2 (i2:Bool) g2=>
 b2 g2∧
 Nw 106 ⟨List.replicate 258 (.int .u8 0)++ [(ni 0),(ni 0),(ni 0),(ni 0)]⟩ g2 fun k2 j2=>
 b2 j2∧
 aj 262 ⟨k2,0,none⟩ h2 j2 fun l2=>
 b2 l2∧
 aa (!i2)
 (bC Pg 104 [] fun m2=>
 aj 258 ⟨c,0,none⟩ m2 l2 fun n2=>
 Ld (.arr 258) ⟨c,0,none⟩ n2 fun o2=>
 R o2 0 100 n2)
 (Ld (.arr 262) ⟨k2,0,none⟩ l2 fun p2=>
 aj 262 ⟨e,0,none⟩ p2 l2 fun q2=>
 Ld kI (Addr.add ⟨e,0,none⟩ 258) q2 fun (r2:Int)=>
 aa (r2==258)
 (Ld (.arr 258) (Addr.add ⟨e,0,none⟩ 0) q2 fun s2=>
 aj 258 ⟨c,0,none⟩ s2 q2 fun t2=>
 Ld (.arr 258) ⟨c,0,none⟩ t2 fun u2=>
 R u2 (i64 (h+1)) 0 t2)
 (f (i64 (h+1)) q2∧g (i64 (h+1)) q2<g h i)))∧
 (Nw 106 ⟨List.replicate 258 (.int .u8 0)++ [(ni 0),(ni 0),(ni 0),(ni 0)]⟩ c2 fun x2 v2=>
 b2 v2∧
 Cl Pg [(.arr 262),kB] ga ⟨[(.agg d2),(ni f2)]⟩ v2 fun z2 (a3:Bool) y2=>
 b2 y2∧
 aj 262 ⟨x2,0,none⟩ z2 y2 fun b3=>
 b2 b3∧
 aa (!a3)
 (bC Pg 104 [] fun c3=>
 aj 258 ⟨c,0,none⟩ c3 b3 fun d3=>
 Ld (.arr 258) ⟨c,0,none⟩ d3 fun e3=>
 R e3 0 100 d3)
 (Ld (.arr 262) ⟨x2,0,none⟩ b3 fun f3=>
 aj 262 ⟨e,0,none⟩ f3 b3 fun g3=>
 Ld kI (Addr.add ⟨e,0,none⟩ 258) g3 fun (h3:Int)=>
 aa (h3==258)
 (Ld (.arr 258) (Addr.add ⟨e,0,none⟩ 0) g3 fun i3=>
 aj 258 ⟨c,0,none⟩ i3 g3 fun j3=>
 Ld (.arr 258) ⟨c,0,none⟩ j3 fun k3=>
 R k3 (i64 (h+1)) 0 j3)
 (f (i64 (h+1)) g3∧g (i64 (h+1)) g3<g h i)))))
 (bC Pg 104 [] fun l3=>
 aj 258 ⟨c,0,none⟩ l3 i fun m3=>
 Ld (.arr 258) ⟨c,0,none⟩ m3 fun n3=>
 R n3 0 50 m3)):Cl Pg [(.arr 258),kI,kI] mN ⟨[(ar a)]⟩ w R:=co Tryz.f111 [(7,[(6,kI)])] h
theorem D0.ok (a:(Array Value)) (b:Int) (R:(Array Value)→Bool→World→Prop) w (h:
 Nw 106 a w fun d c=>
 Nw 106 ⟨List.replicate 258 (.int .u8 0)++ [(ni 0),(ni 0),(ni 0),(ni 0)]⟩ c fun f e=>
 aR (fun (p1:World)=>
 St (Addr.add ⟨d,0,none⟩ 259) (ni 4) p1 fun q1=>
 aa (b==0)
 (Ld kI (Addr.add ⟨d,0,none⟩ 261) q1 fun (r1:Int)=>
 aa (r1==2)
 (Ld (.arr 262) ⟨d,0,none⟩ q1 fun s1=>
 aj 262 ⟨f,0,none⟩ s1 q1 fun t1=>
 Ld (.arr 262) ⟨f,0,none⟩ t1 fun u1=>
 R u1 false t1)
 (Ld kI (Addr.add ⟨d,0,none⟩ 260) q1 fun (v1:Int)=>
 aa (v1==15)
 (Ld (.arr 262) ⟨d,0,none⟩ q1 fun x1=>
 aj 262 ⟨f,0,none⟩ x1 q1 fun y1=>
 Ld (.arr 262) ⟨f,0,none⟩ y1 fun z1=>
 R z1 false y1)
 (Ld kI (Addr.add ⟨d,0,none⟩ 260) q1 fun (a2:Int)=>
 St (Addr.add ⟨d,0,none⟩ 260) (ni (i64 (a2+1))) q1 fun b2=>
 St (Addr.add ⟨d,0,none⟩ 261) (ni 1) b2 fun c2=>
 Ld (.arr 262) ⟨d,0,none⟩ c2 fun d2=>
 aj 262 ⟨f,0,none⟩ d2 c2 fun e2=>
 Ld (.arr 262) ⟨f,0,none⟩ e2 fun f2=>
 R f2 true e2)))
 (Ld kI (Addr.add ⟨d,0,none⟩ 261) q1 fun (g2:Int)=>
 aa (g2==1)
 (Ld (.arr 262) ⟨d,0,none⟩ q1 fun h2=>
 aj 262 ⟨f,0,none⟩ h2 q1 fun i2=>
 Ld (.arr 262) ⟨f,0,none⟩ i2 fun j2=>
 R j2 false i2)
 (Ld kI (Addr.add ⟨d,0,none⟩ 260) q1 fun (k2:Int)=>
 aa (k2==0)
 (Ld (.arr 262) ⟨d,0,none⟩ q1 fun l2=>
 aj 262 ⟨f,0,none⟩ l2 q1 fun m2=>
 Ld (.arr 262) ⟨f,0,none⟩ m2 fun n2=>
 R n2 false m2)
 (Ld kI (Addr.add ⟨d,0,none⟩ 260) q1 fun (o2:Int)=>
 St (Addr.add ⟨d,0,none⟩ 260) (ni (i64 (o2 - 1))) q1 fun p2=>
 St (Addr.add ⟨d,0,none⟩ 261) (ni 2) p2 fun q2=>
 Ld (.arr 262) ⟨d,0,none⟩ q2 fun r2=>
 aj 262 ⟨f,0,none⟩ r2 q2 fun s2=>
 Ld (.arr 262) ⟨f,0,none⟩ s2 fun t2=>
 R t2 true s2)))) fun g=>
 Ld kI (Addr.add ⟨d,0,none⟩ 259) e fun (h:Int)=>
 aR (fun (j:Bool) (k:World)=>
 aa j
 (Ld kI (Addr.add ⟨d,0,none⟩ 260) k fun (l:Int)=>
 St (Addr.add ⟨d,0,none⟩ 260) (ni (i64 ((i64 ((2:Int)*l))+b))) k fun m=>
 Ld kI (Addr.add ⟨d,0,none⟩ 259) m fun (n:Int)=>
 St (Addr.add ⟨d,0,none⟩ 259) (ni (i64 (n+1))) m fun o=>
 Ld (.arr 262) ⟨d,0,none⟩ o fun p=>
 aj 262 ⟨f,0,none⟩ p o fun q=>
 Ld (.arr 262) ⟨f,0,none⟩ q fun r=>
 R r true q)
 (aa (h==4)
 (aa (b==1)
 (St (Addr.add ⟨d,0,none⟩ 259) (ni 5) k fun s=>
 Ld (.arr 262) ⟨d,0,none⟩ s fun t=>
 aj 262 ⟨f,0,none⟩ t s fun u=>
 Ld (.arr 262) ⟨f,0,none⟩ u fun v=>
 R v true u)
 (Ld kI (Addr.add ⟨d,0,none⟩ 258) k fun (x:Int)=>
 Ld kI (Addr.add ⟨d,0,none⟩ 260) k fun (y:Int)=>
 aF (Addr.add ⟨d,0,none⟩ 0) 258 x 1 fun z=>
 St z (.int .u8 (u8 y)) k fun a1=>
 Ld kI (Addr.add ⟨d,0,none⟩ 258) a1 fun (b1:Int)=>
 St (Addr.add ⟨d,0,none⟩ 258) (ni (i64 (b1+1))) a1 fun c1=>
 St (Addr.add ⟨d,0,none⟩ 261) (ni 0) c1 fun d1=>
 cP d1 fun e1 f1=>
 au (.arr 262) ⟨d,0,none⟩ e1 fun g1=>
 au kI (Addr.add ⟨d,0,none⟩ 258) e1 fun (h1:Int)=>
 aa (decide (h1<258))
 (aj 262 ⟨f,0,none⟩ g1 f1 fun i1=>
 e1 i1∧
 Ld (.arr 262) ⟨f,0,none⟩ i1 fun j1=>
 R j1 true i1)
 (au (.arr 258) (Addr.add ⟨d,0,none⟩ 0) e1 fun k1=>
 Cl Pg [kB] ln ⟨[(.agg k1)]⟩ f1 fun (m1:Bool) l1=>
 e1 l1∧
 aj 262 ⟨f,0,none⟩ g1 l1 fun n1=>
 e1 n1∧
 Ld (.arr 262) ⟨f,0,none⟩ n1 fun o1=>
 R o1 m1 n1)))
 (g k))) fun i=>
 aa (h==0)
 (i (h==0) e)
 (aa (h==1)
 (i (h==1) e)
 (aa (h==2)
 (i (h==2) e)
 (i (h==3) e)))):Cl Pg [(.arr 262),kB] ga ⟨[(.agg a),(ni b)]⟩ w R:=co Tryz.f158 [(2,[]),(5,[(8,kB)])] h
end Go.Proofs.YtgglghjnakclmaaGreat
namespace Go.Proofs.YtgglghjnakclmaaGreat
open Go Go.Vc
set_option maxRecDepth 100000
theorem yW.ok (a:(Array Value)) (R:Bool→World→Prop) w (h:
 Nw 104 a w fun c b=>
 Ld (.arr 258) ⟨c,0,none⟩ b fun d=>
 Cl Pg [kI] nA ⟨[(.agg d)]⟩ b fun (f:Int) e=>
 aa (f==32768)
 (aF ⟨c,0,none⟩ 258 257 1 fun g=>
 Ld (ak .u8) g e fun (h:Int)=>
 R (h !=0) e)
 (R false e)):Cl Pg [kB] ln ⟨[(.agg a)]⟩ w R:=co Tryz.f182 [] h
theorem Cp.ok (a:(Array Value)) (R:Int→World→Prop) w (h:
 Nw 104 a w fun c b=>
 ec 0 0 b fun d e (f:Int) (g:Int) h=>
 aa (decide (g<258))
 (aF ⟨c,0,none⟩ 258 g 1 fun i=>
 Ld (ak .u8) i h fun (j:Int)=>
 Cl Pg [kI] lA ⟨[(.int .u8 j)]⟩ h fun (l:Int) k=>
 d (i64 (f+l)) (i64 (g+1)) k∧e (i64 (f+l)) (i64 (g+1)) k<e f g h)
 (R f h)):Cl Pg [kI] nA ⟨[(.agg a)]⟩ w R:=co Tryz.f246 [(7,[(3,kI),(4,kI)])] h
theorem zg.ok (a:Int) (R:Int→World→Prop) w (h:
 aa (a==0)
 (R 0 w)
 (aa (decide (a>15))
 (R 32769 w)
 (ec 32768 0 w fun b c (d:Int) (e:Int) f=>
 aa (decide (e<a))
 ((2:Int)≠0∧
 b (i64 (Int.tdiv d (2:Int))) (u8 (e+1)) f∧c (i64 (Int.tdiv d (2:Int))) (u8 (e+1)) f<c d e f)
 (R d f)))):Cl Pg [kI] lA ⟨[(.int .u8 a)]⟩ w R:=co Tryz.f295 [(17,[(3,kI),(4,(ak .u8))])] h
end Go.Proofs.YtgglghjnakclmaaGreat
namespace Go.Proofs.YtgglghjnakclmaaGreat
open Go Go.Vc Go.Srt
section
variable {E w:World} {F:List HP}
theorem Et {n:Nat} {K:Int→World→Prop} (hn:n≤255) (hK:K (wt n:Int) w):Cl Tryz.prog [kI] lA ⟨[.int .u8 (n:Int)]⟩ w K:=by
 refine zg.ok _ _ _ ?_
 unfold wt at hK
 refine aa.mk (fun h=> ?_) (fun h=>aa.mk (fun h2=> ?_) (fun h2=> ?_))
 ·have h:n=0:=by have:=of_decide_eq_true h;omega
  rw [if_pos h] at hK;exact hK
 ·have h:n≠0:=by have:=of_decide_eq_false h;omega
  have h2:n>15:=by have:=of_decide_eq_true h2;omega
  rw [if_neg h,if_pos h2] at hK;exact hK
 ·have h:n≠0:=by have:=of_decide_eq_false h;omega
  have h2: ¬n>15:=by have:=of_decide_eq_false h2;omega
  rw [if_neg h,if_neg h2] at hK
  refine ⟨fun v i w'=> ∃k v':Nat,i=(k:Int)∧k≤n∧v=(v':Int)∧v'=2^(15 - k)∧w'=w,fun _ i _=>15 - i.toNat,⟨0,32768,rfl,by omega,rfl,by decide,rfl⟩,?_⟩
  rintro v i w' ⟨k,v',rfl,hk,rfl,hv,rfl⟩
  refine aa.mk (fun hlt=> ?_) (fun hge=> ?_)
  ·have hlt:k<n:=by have:=of_decide_eq_true hlt;omega
   have e:2^(15 - k)=2*2^(15 - (k+1)):=by rw [show 15 - k=(15 - (k+1))+1 by omega,Nat.pow_succ,Nat.mul_comm]
   have hb:2^(15 - (k+1))≤2^15:=Nat.pow_le_pow_right (by decide) (by omega)
   have hb2:(2:Nat)^15=32768:=by decide
   have e2:Int.tdiv (v':Int) 2=((2^(15 - (k+1)):Nat):Int):=by
    rw [Int.tdiv_eq_ediv_of_nonneg (by omega),hv,e];omega
   rw [e2,ab (by omega),j4 (by omega)]
   exact ⟨by decide,⟨k+1,_,rfl,by omega,rfl,rfl,rfl⟩,by dsimp only;omega⟩
  ·have hge:k=n:=by have:=of_decide_eq_false hge;omega
   subst hge;rw [hv];exact hK
set_option maxRecDepth 20000 in
theorem GV {l:List Nat} {K:Int→World→Prop} (h:Hp E w F) (hl:l.length=258) (h8: ∀x∈l,x≤255) (hK: ∀w',Hp E w' F→K (a7 l:Int) w'):Cl Tryz.prog [kI] nA ⟨[.agg (ai .u8 l)]⟩ w K:=by
 refine Cp.ok _ _ _ ?_
 have hb:=qX l
 refine Nw.mk h fun b w1 h1=>⟨fun sm i w'=> ∃k:Nat,i=(k:Int)∧k≤258∧sm=(a7 (l.take k):Int)∧Hp E w' (ag b (.cells (ai .u8 l) 104 (0,0))::F),fun _ i _=>258 - i.toNat,⟨0,rfl,by omega,by simp [a7],h1⟩,?_⟩
 rintro sm i w' ⟨k,rfl,hk,rfl,hh⟩
 refine aa.mk (fun hlt=> ?_) (fun hge=> ?_)
 ·have hlt:k<258:=by have:=of_decide_eq_true hlt;omega
  have hkl:k<l.length:=by omega
  refine aF.rd (s:= .int .u8) hh (by omega) (by omega) (l[k]:Int) (by rw [Int.toNat_natCast];exact nQ hkl) (Et (h8 _ (List.getElem_mem hkl)) ?_)
  have e:=lf hkl
  have:=m9 (l:=l) (k:=k+1)
  rw [ab (x:=(a7 (l.take k):Int)+(wt l[k]:Int)) (by omega),ab (by omega)]
  exact ⟨⟨k+1,rfl,by omega,by rw [e];rfl,hh⟩,by dsimp only;omega⟩
 ·have hge:k=258:=by have:=of_decide_eq_false hge;omega
  subst hge
  rw [←hl,List.take_length]
  exact hK _ hh.drop
theorem EG {l:List Nat} {K:Bool→World→Prop} (h:Hp E w F) (hl:l.length=258) (h8: ∀x∈l,x≤255) (hK: ∀w',Hp E w' F→K (bH l) w'):Cl Tryz.prog [kB] ln ⟨[.agg (ai .u8 l)]⟩ w K:=by
 refine yW.ok _ _ _ ?_
 refine Nw.mk h fun b w1 h1=>Ld.arr h1 (by rw [cj,hl]) (GV h1 hl h8 fun w2 h2=> ?_)
 have e:((a7 l:Int)==32768)=decide (a7 l=32768):=by rw [Bool.eq_iff_iff];simp;omega
 rw [e]
 refine aa.mk (fun hv=> ?_) (fun hv=> ?_)
 ·refine aF.rd (s:= .int .u8) h2 (by decide) (by decide) (l.getD 257 0:Int) (qn (i:=257) (by omega)) ?_
  have:((l.getD 257 0:Int) !=0)=bH l:=by
   unfold bH;rw [hv,Bool.true_and,Bool.eq_iff_iff,bne_iff_ne,decide_eq_true_eq];omega
  rw [this]
  exact hK _ h2.drop
 ·have:false=bH l:=by unfold bH;rw [hv,Bool.false_and]
  rw [this]
  exact hK _ h2.drop
end
end Go.Proofs.YtgglghjnakclmaaGreat
namespace Go.Inc
theorem wj {α σ β ε:Type} {f:σ→α→tI σ β ε} {s s':σ} {l:List α} {k:Nat} (h:run f s (l.take k)= .short s'):run f s l=run f s' (l.drop k):=by
 conv=>lhs;rw [←List.take_append_drop k l]
 exact mY h _
end Go.Inc
namespace Go.Proofs.YtgglghjnakclmaaGreat
open Go Go.Vc Go.Srt Go.Inc Go.Tab
section
variable {E w:World} {F:List HP}
abbrev kC:Array Value:=⟨List.replicate 258 (.int .u8 0)⟩
end
end Go.Proofs.YtgglghjnakclmaaGreat
namespace Go.Vc
theorem aR.KM {A:Type} {r:A→World→Prop} {k:(A→World→Prop)→Prop} (Q:A→World→Prop) (h1: ∀a w,Q a w→r a w) (h2: ∀r',(∀a w,Q a w→r' a w)→k r'):aR r k:=h2 r h1
end Go.Vc
namespace Go.Proofs.YtgglghjnakclmaaGreat
open Go Go.Vc Go.Srt Go.Inc Go.Tab Go.aE
section
variable {E w:World} {F:List HP}
theorem tz {t:TS} {x:Nat} {K:Array Value→Bool→World→Prop} (h:Hp E w F) (ht:c8 t) (hx:x≤1) (hK:K7 t x E F K):
  Cl Tryz.prog [.arr 262,kB] ga ⟨[.agg (cv (pad t.l) (t.l.length:Int) (t.bits:Int) (t.now:Int) (t.way:Int)),.int .i64 (x:Int)]⟩ w K:=by
 obtain ⟨k1,k2,k3⟩:=hK
 obtain ⟨l,bits,now,way⟩:=t
 unfold c8 at ht
 unfold br at k1 k2 k3
 dsimp only at ht k1 k2 k3⊢
 have hl:l.length≤258:=by
  rcases ht with ⟨_,h,_⟩|⟨_,h,_⟩
  ·rw [h];simp
  ·omega
 have hL:=dh (aO hl)
 have hz:((⟨List.replicate 258 (.int .u8 0)++ [.int .i64 0,.int .i64 0,.int .i64 0,.int .i64 0]⟩:Array Value)).size=262:=by simp
 refine D0.ok _ _ _ _ ?_
 simp only [af,Nat.zero_add]
 refine Nw.mk h fun b4 w h=>Nw.mk h fun b6 w h=> ?_
 rw [aV]
 dsimp only
 have out: ∀{w:World} {l':List Nat} {s b n wy:Int} {K':World→Array Value→Prop},l'.length=258→
   Hp E w (ag b6 (.cells ⟨List.replicate 258 (.int .u8 0)++ [.int .i64 0,.int .i64 0,.int .i64 0,.int .i64 0]⟩ 106 (0,0))::ag b4 (.cells (cv l' s b n wy) 106 (0,0))::F)→
   (∀w',Hp E w' F→K' w' (cv l' s b n wy))→
   Ld (.arr 262) ⟨b4,0,none⟩ w fun x=>aj 262 ⟨b6,0,none⟩ x w fun w1=>Ld (.arr 262) ⟨b6,0,none⟩ w1 fun r=>K' w1 r:=by
  intro w l' s b n wy K' hl' h hk
  refine Ld.xw h (aD hl') (aj.q h hz (aD hl') aA fun w h=> ?_)
  exact Ld.xw h (aD hl') (hk _ h.tl)
 refine Ld.q (b:=b4) h hL rfl rfl ?_
 refine aR.KM (fun t8 w=>t8=decide (bits<4)∧Hp E w (ag b6 (.cells ⟨List.replicate 258 (.int .u8 0)++ [.int .i64 0,.int .i64 0,.int .i64 0,.int .i64 0]⟩ 106 (0,0))::ag b4 (.cells (cv (pad l) (l.length:Int) (bits:Int) (now:Int) (way:Int)) 106 (0,0))::F)) ?_ fun r' hr'=> ?_
 ·rintro t8 w ⟨rfl,h⟩
  rcases ht with ⟨h1,h2,h3,h4⟩|⟨h1,h2,h3,h4,h5⟩
  ·subst h2 h4
   simp only [if_pos h1] at k1 k2 k3
   have hnow:now<16384:=by
    have:2^bits≤2^3:=Nat.pow_le_pow_right (by decide) (by omega)
    omega
   refine aa.dt h1 ?_
   refine Ld.q (b:=b4) h hL rfl rfl ?_
   rw [ab (x:=(2:Int)*(now:Int)) (by omega),ab (by omega)]
   refine St.q (b:=b4) h hL rfl rfl rfl fun w h=> ?_
   dsimp only [aM,aq] at h
   refine Ld.q (b:=b4) h hL rfl rfl ?_
   rw [ab (by omega)]
   refine St.q (b:=b4) h hL rfl rfl rfl fun w h=> ?_
   dsimp only [aM,aq] at h
   rw [show (2:Int)*(now:Int)+(x:Int)=((2*now+x:Nat):Int) by omega,show (bits:Int)+1=((bits+1:Nat):Int) by omega] at h
   exact out (K':=fun w x=>K x true w) (aO hl) h fun w h=>k1 _ _ rfl h
  ·simp only [if_neg (show¬bits<4 by omega)] at k1 k2 k3
   refine aa.df (by omega) ?_
   by_cases hb:bits=4
   ·subst hb
    simp only [if_true] at k1 k2 k3
    refine aa.et rfl ?_
    by_cases hx0:x=0
    ·subst hx0
     simp only [if_true] at k1 k2 k3
     refine aa.ef (by omega) ?_
     refine Ld.q (b:=b4) h hL rfl rfl (Ld.q (b:=b4) h hL rfl rfl ⟨by omega,by omega,?_⟩)
     rw [show (((l.length:Int)).toNat*1)=l.length by omega,j4 (by omega),af,Nat.zero_add]
     refine St.g (b:=b4) h (by omega) rfl fun w h=> ?_
     rw [zZ,zV h2] at h
     have hl2:(l++ [now]).length≤258:=by simp;omega
     have hL2:=dh (aO hl2)
     refine Ld.q (b:=b4) h hL2 rfl rfl ?_
     rw [ab (by omega)]
     refine St.q (b:=b4) h hL2 rfl rfl rfl fun w h=> ?_
     dsimp only [aM,aq] at h
     refine St.q (b:=b4) h hL2 rfl rfl rfl fun w h=> ?_
     dsimp only [aM,aq] at h
     rw [show (l.length:Int)+1=((l++ [now]).length:Int) by simp] at h
     have h:=h.drew (n:=w.drawn+1)
     refine ⟨bm b4 _ _ _,h.hb,au.qw (fun _ h=>h) hL2 rfl (au.q (fun _ h=>h) hL2 rfl rfl ?_)⟩
     by_cases hf:l.length+1<258
     ·rw [if_pos hf] at k1 k2 k3
      refine aa.dt (by simp;omega) ?_
      refine aj.q (b:=b6) h hz (aD (aO hl2)) aA fun w h=>⟨h.hb,Ld.xw (b:=b6) h (aD (aO hl2)) ?_⟩
      exact k1 _ _ rfl h.tl
     ·rw [if_neg hf] at k1 k2 k3
      have hfull:(l++ [now]).length=258:=by simp;omega
      refine aa.df (by simp;omega) ?_
      rw [xz hfull] at h hL2⊢
      refine au.p (fun _ h=>h) hL2 ?_
      have h8: ∀y∈l++ [now],y≤255:=fun y hy=>by
       rcases List.mem_append.1 hy with hy|hy
       ·have:=h4 y hy;omega
       ·rw [List.mem_singleton] at hy;omega
      refine EG h hfull h8 fun w h=>⟨h.hb,?_⟩
      refine aj.q (b:=b6) h hz (aD hfull) aA fun w h=>⟨h.hb,Ld.xw (b:=b6) h (aD hfull) ?_⟩
      by_cases hok:bH (l++ [now])=true
      ·rw [if_pos hok] at k1 k2 k3
       rw [hok]
       have:=k2 _ (now:Int) _ rfl h.tl
       rw [hfull]
       exact this
      ·rw [if_neg hok] at k1 k2 k3
       rw [show bH (l++ [now])=false by simpa using hok]
       exact k3 _ _ rfl (aD hfull) aA h.tl
    ·simp only [if_neg hx0] at k1 k2 k3
     refine aa.et (by omega) ?_
     refine St.q (b:=b4) h hL rfl rfl rfl fun w h=> ?_
     dsimp only [aM,aq] at h
     exact out (K':=fun w x=>K x true w) (aO hl) h fun w h=>k1 _ _ rfl h
   ·simp only [if_neg hb] at k1 k2 k3
    have hb5:bits=5:=by omega
    subst hb5
    refine aa.ef (by decide) ?_
    refine St.q (b:=b4) h hL rfl rfl rfl fun w h=> ?_
    dsimp only [aM,aq] at h
    by_cases hx0:x=0
    ·subst hx0
     simp only [if_true] at k1 k2 k3
     refine aa.et rfl (Ld.q (b:=b4) h hL rfl rfl ?_)
     by_cases hw:way=2
     ·subst hw
      refine aa.et rfl ?_
      exact out (K':=fun w x=>K x false w) (aO hl) h fun w h=>k3 _ _ (by simp) (aD (aO hl)) aA h
     ·refine aa.ef (by omega) (Ld.q (b:=b4) h hL rfl rfl ?_)
      by_cases hn:now<15
      ·rw [if_pos ⟨hw,hn⟩] at k1
       refine aa.ef (by omega) (Ld.q (b:=b4) h hL rfl rfl ?_)
       rw [ab (by omega)]
       refine St.q (b:=b4) h hL rfl rfl rfl fun w h=> ?_
       dsimp only [aM,aq] at h
       refine St.q (b:=b4) h hL rfl rfl rfl fun w h=> ?_
       dsimp only [aM,aq] at h
       rw [show (now:Int)+1=((now+1:Nat):Int) by omega] at h
       exact out (K':=fun w x=>K x true w) (aO hl) h fun w h=>k1 _ _ rfl h
      ·rw [if_neg (fun hh=>hn hh.2)] at k3
       refine aa.et (by omega) ?_
       exact out (K':=fun w x=>K x false w) (aO hl) h fun w h=>k3 _ _ rfl (aD (aO hl)) aA h
    ·have hx1:x=1:=by omega
     subst hx1
     simp only [if_neg hx0] at k1 k2 k3
     refine aa.ef (by decide) (Ld.q (b:=b4) h hL rfl rfl ?_)
     by_cases hw:way=1
     ·subst hw
      refine aa.et rfl ?_
      exact out (K':=fun w x=>K x false w) (aO hl) h fun w h=>k3 _ _ (by simp) (aD (aO hl)) aA h
     ·refine aa.ef (by omega) (Ld.q (b:=b4) h hL rfl rfl ?_)
      by_cases hn:0<now
      ·rw [if_pos ⟨hw,hn⟩] at k1
       refine aa.ef (by omega) (Ld.q (b:=b4) h hL rfl rfl ?_)
       rw [ab (by omega)]
       refine St.q (b:=b4) h hL rfl rfl rfl fun w h=> ?_
       dsimp only [aM,aq] at h
       refine St.q (b:=b4) h hL rfl rfl rfl fun w h=> ?_
       dsimp only [aM,aq] at h
       rw [show (now:Int) - 1=((now - 1:Nat):Int) by omega] at h
       exact out (K':=fun w x=>K x true w) (aO hl) h fun w h=>k1 _ _ rfl h
      ·rw [if_neg (fun hh=>hn hh.2)] at k3
       refine aa.et (by omega) ?_
       exact out (K':=fun w x=>K x false w) (aO hl) h fun w h=>k3 _ _ rfl (aD (aO hl)) aA h
 ·refine aa.em (fun h0=>hr' _ _ ⟨?_,h⟩) (fun h0=>aa.em (fun h1=>hr' _ _ ⟨?_,h⟩) (fun h1=>aa.em (fun h2=>hr' _ _ ⟨?_,h⟩) (fun h2=>hr' _ _ ⟨?_,h⟩)))
  ·rw [h0];exact (decide_eq_true (by omega)).symm
  ·rw [h1];exact (decide_eq_true (by omega)).symm
  ·rw [h2];exact (decide_eq_true (by omega)).symm
  ·rw [Bool.eq_iff_iff,beq_iff_eq,decide_eq_true_iff];omega
theorem HO {K:Array Value→Prop} (hK:K kC):bC Tryz.prog 104 [] K:=⟨kC,by kernel_rfl,hK⟩
theorem C6 {bs:List Nat} {s:Sl} {K:Array Value→Int→Int→World→Prop} (h:Hp E w F) (hs:ah F (aQ 1 s ((ints bs).map vI))) (hb: ∀x∈bs,x≤1) (hbig:bs.length≤eP)
  (hshort: ∀s' w',run (br bH) t0 bs= .short s'→Hp E w' F→K kC 0 50 w')
  (hbad: ∀w',run (br bH) t0 bs= .bad 100→Hp E w' F→K kC 0 100 w')
  (hfin: ∀l r w',run (br bH) t0 bs= .fin l r→Hp E w' F→K (ai .u8 l) ((bs.length - r.length:Nat):Int) 0 w'):
  Cl Tryz.prog [.arr 258,kI,kI] mN ⟨[.slice s.base s.len s.cap]⟩ w K:=by
 have hz:(⟨List.replicate 258 (.int .u8 0)++ [.int .i64 0,.int .i64 0,.int .i64 0,.int .i64 0]⟩:Array Value)=cv (pad t0.l) (t0.l.length:Int) (t0.bits:Int) (t0.now:Int) (t0.way:Int):=by
  rw [wY];rfl
 have hzz:(⟨List.replicate 258 (.int .u8 0)++ [.int .i64 0,.int .i64 0,.int .i64 0,.int .i64 0]⟩:Array Value).size=262:=by simp
 have hz0:kC.size=258:=by simp
 have hz1:kC.toList.all ay=true:=by decide
 refine A9.ok _ _ _ ?_
 (try simp only [af,Nat.zero_add,Nat.add_zero])
 have hlen:=qv (h.ao hs)
 rw [bX] at hbig
 refine Nw.mk h fun b3 w h=>Nw.mk h fun b5 w h=> ?_
 have outz: ∀{w:World} {K':Array Value→World→Prop} {l:List HP},Hp E w (l++(ag b3 (.cells kC 104 (0,0))::F))→(∀w',Hp E w' F→K' kC w')→
   bC Tryz.prog 104 [] fun x22=>aj 258 ⟨b3,0,none⟩ x22 w fun w_23=>Ld (.arr 258) ⟨b3,0,none⟩ w_23 fun res24=>K' res24 w_23:=by
  intro w K' l h hk
  have h:=h.A5
  exact HO (aj.q h hz0 hz0 hz1 fun w h=>Ld.xw h hz0 (hk _ h.tl))
 rw [hz] at h
 refine ⟨fun i w'=> ∃(k:Nat) (t:TS),i=(k:Int)∧k≤bs.length∧c8 t∧run (br bH) t0 (bs.take k)= .short t∧
  Hp E w' (ag b5 (.cells (cv (pad t.l) (t.l.length:Int) (t.bits:Int) (t.now:Int) (t.way:Int)) 106 (0,0))::ag b3 (.cells kC 104 (0,0))::F),
  fun i _=>bs.length - i.toNat,⟨0,t0,rfl,by omega,c8.zero,rfl,h⟩,?_⟩
 rintro i w ⟨k,t,rfl,hk,ht,hrun,h⟩
 refine aa.dm (fun hlt=> ?_) (fun hge=> ?_)
 ·have hlt:k<bs.length:=by omega
  have hx:=hb _ (List.getElem_mem hlt)
  have htl:(pad t.l).length=258:=aO (by
   rcases ht with ⟨_,h,_⟩|⟨_,h,_⟩
   ·rw [h];simp
   ·omega)
  have hSl: ∀{w:World} {l:List HP} [k7 l F],Hp E w l→aQ 1 s ((ints bs).map vI) w:=fun h=>(h.tl:Hp E _ F).ao hs
  have after: ∀(b26:Nat) (o:Array Value) (r:Bool) (w:World) (G:World→Prop),o.size=262→o.toList.all ay=true→
    ((r=true∧∃t',br bH t bs[k]= .more t'∧o=cv (pad t'.l) (t'.l.length:Int) (t'.bits:Int) (t'.now:Int) (t'.way:Int))∨(r=true∧∃l n,br bH t bs[k]= .fin l∧o=cv l 258 4 n 0)∨(r=false∧br bH t bs[k]= .bad 100))→
    (∀t' w',br bH t bs[k]= .more t'→Hp E w' (ag b5 (.cells (cv (pad t'.l) (t'.l.length:Int) (t'.bits:Int) (t'.now:Int) (t'.way:Int)) 106 (0,0))::ag b3 (.cells kC 104 (0,0))::F)→G w')→
    Hp E w (ag b26 (.cells o 106 (0,0))::ag b5 (.cells (cv (pad t.l) (t.l.length:Int) (t.bits:Int) (t.now:Int) (t.way:Int)) 106 (0,0))::ag b3 (.cells kC 104 (0,0))::F)→
    aa (!r) (bC Tryz.prog 104 [] fun x22=>aj 258 ⟨b3,0,none⟩ x22 w fun w_23=>Ld (.arr 258) ⟨b3,0,none⟩ w_23 fun res24=>K res24 0 100 w_23)
     (Ld (.arr 262) ⟨b26,0,none⟩ w fun x31=>aj 262 ⟨b5,0,none⟩ x31 w fun w_32=>Ld kI ⟨b5,258,none⟩ w_32 fun Symbol33=>aa (Symbol33==258)
      (Ld (.arr 258) ⟨b5,0,none⟩ w_32 fun Lengths34=>aj 258 ⟨b3,0,none⟩ Lengths34 w_32 fun w_35=>Ld (.arr 258) ⟨b3,0,none⟩ w_35 fun res36=>K res36 (i64 ((k:Int)+1)) 0 w_35)
      (G w_32)):=by
   intro b26 o r w G ho hos hcase hG h
   rw [ab (x:=(k:Int)+1) (by omega)]
   rcases hcase with ⟨rfl,t',he,rfl⟩|⟨rfl,l,n,he,rfl⟩|⟨rfl,he⟩
   ·have ht':=iT ht hx he
    have hl':t'.l.length<258:=by
     rcases ht' with ⟨_,h,_⟩|⟨_,h,_⟩
     ·rw [h];simp
     ·omega
    have hL:=dh (aO (Nat.le_of_lt hl'))
    refine aa.f rfl (Ld.xw h ho (aj.q (b:=b5) h (aD htl) ho hos fun w h=>Ld.q (b:=b5) h hL rfl rfl (aa.ef (by omega) ?_)))
    exact hG t' w he (h.no 0)
   ·have hf:=(cN ht he).1
    have hL:=dh hf
    refine aa.f rfl (Ld.xw h ho (aj.q (b:=b5) h (aD htl) ho hos fun w h=>Ld.q (b:=b5) h hL rfl rfl (aa.et rfl (Ld.p (b:=b5) h hL ?_))))
    have hls:(⟨uU l⟩:Array Value).size=258:=by simpa using hf
    refine aj.q (b:=b3) h hz0 hls (List.all_eq_true.2 lh) fun w h=>Ld.xw (b:=b3) h hls ?_
    have hr:=hfin l (bs.drop (k+1)) w (by rw [wj hrun,List.drop_eq_getElem_cons hlt,ua he]) h.tl
    rw [List.length_drop,show bs.length - (bs.length - (k+1))=k+1 by omega] at hr
    exact hr
   ·refine aa.t rfl (outz (l:= [_,_]) h fun w h=>hbad w ?_ h)
    rw [wj hrun,List.drop_eq_getElem_cons hlt,Ab he]
  have hG: ∀t' w',br bH t bs[k]= .more t'→Hp E w' (ag b5 (.cells (cv (pad t'.l) (t'.l.length:Int) (t'.bits:Int) (t'.now:Int) (t'.way:Int)) 106 (0,0))::ag b3 (.cells kC 104 (0,0))::F)→
    (∃(k':Nat) (t:TS),i64 ((k:Int)+1)=(k':Int)∧k'≤bs.length∧c8 t∧run (br bH) t0 (bs.take k')= .short t∧Hp E w' (ag b5 (.cells (cv (pad t.l) (t.l.length:Int) (t.bits:Int) (t.now:Int) (t.way:Int)) 106 (0,0))::ag b3 (.cells kC 104 (0,0))::F))∧
     bs.length - (i64 ((k:Int)+1)).toNat<bs.length - ((k:Int)).toNat:=by
   intro t' w' he h
   rw [ab (by omega)]
   refine ⟨⟨k+1,t',rfl,by omega,iT ht hx he,?_,h⟩,by omega⟩
   rw [List.take_add_one,List.getElem?_eq_getElem hlt]
   show run (br bH) t0 (bs.take k++ [bs[k]])=_
   rw [mY hrun,sN he];rfl
  have szt': ∀{t':TS},br bH t bs[k]= .more t'→(cv (pad t'.l) (t'.l.length:Int) (t'.bits:Int) (t'.now:Int) (t'.way:Int)).size=262:=fun {t'} he=>aD (aO (by
   rcases iT ht hx he with ⟨_,h,_⟩|⟨_,h,_⟩
   ·rw [h];simp
   ·omega))
  have hz62:((⟨List.replicate 258 (.int .u8 0)++ [.int .i64 0,.int .i64 0,.int .i64 0,.int .i64 0]⟩:Array Value)).size=262:=by simp
  refine aT.rI (hSl h) rfl hlt ?_
  have hx01:bs[k]=0∨bs[k]=1:=by omega
  rcases hx01 with e|e
  ·refine aa.nf (by omega) ?_
   (have h:=h.drew (n:=w.drawn+1);refine ⟨fun w=>bm b5 (cv (pad t.l) (t.l.length:Int) (t.bits:Int) (t.now:Int) (t.way:Int)) _ (0,0) w∧aQ 1 s ((ints bs).map vI) w,⟨h.hb,hSl h⟩,au.xw (fun _ h=>h.1) (aD htl) (aT.Gd (hSl h) (fun _ h=>h.2) rfl (by simpa [ints] using hlt) (bs[k]:Int) (by simp [Sc.enc,vI,ints,hlt]) ⟨?_,?_⟩)⟩;refine tz h ht hx ⟨fun t' w he h=>⟨⟨h.hb,hSl h⟩,Nw.mk h fun b26 w h=>⟨⟨h.hb,hSl h⟩,aj.q (b:=b26) h hz62 (szt' he) aA fun w h=>⟨⟨h.hb,hSl h⟩,after b26 _ _ w _ (szt' he) aA (.inl ⟨rfl,t',he,rfl⟩) hG h⟩⟩⟩,fun l n w he h=>⟨⟨h.hb,hSl h⟩,Nw.mk h fun b26 w h=>⟨⟨h.hb,hSl h⟩,aj.q (b:=b26) h hz62 (aD (cN ht he).1) aA fun w h=>⟨⟨h.hb,hSl h⟩,after b26 _ _ w _ (aD (cN ht he).1) aA (.inr (.inl ⟨rfl,l,n,he,rfl⟩)) hG h⟩⟩⟩,fun o w he ho hos h=>⟨⟨h.hb,hSl h⟩,Nw.mk h fun b26 w h=>⟨⟨h.hb,hSl h⟩,aj.q (b:=b26) h hz62 ho hos fun w h=>⟨⟨h.hb,hSl h⟩,after b26 _ _ w _ ho hos (.inr (.inr ⟨rfl,he⟩)) hG h⟩⟩⟩⟩;refine Nw.mk h fun b38 w h=>⟨⟨h.hb,hSl h⟩,tz h ht hx ⟨fun t' w he h=>⟨⟨h.hb,hSl h⟩,aj.q (b:=b38) h hz62 (szt' he) aA fun w h=>⟨⟨h.hb,hSl h⟩,after b38 _ _ w _ (szt' he) aA (.inl ⟨rfl,t',he,rfl⟩) hG h⟩⟩,fun l n w he h=>⟨⟨h.hb,hSl h⟩,aj.q (b:=b38) h hz62 (aD (cN ht he).1) aA fun w h=>⟨⟨h.hb,hSl h⟩,after b38 _ _ w _ (aD (cN ht he).1) aA (.inr (.inl ⟨rfl,l,n,he,rfl⟩)) hG h⟩⟩,fun o w he ho hos h=>⟨⟨h.hb,hSl h⟩,aj.q (b:=b38) h hz62 ho hos fun w h=>⟨⟨h.hb,hSl h⟩,after b38 _ _ w _ ho hos (.inr (.inr ⟨rfl,he⟩)) hG h⟩⟩⟩⟩)
  ·refine aa.nt (by omega) (aT.rI (hSl h) rfl hlt (aa.nf (by omega) ?_))
   (have h:=h.drew (n:=w.drawn+1);refine ⟨fun w=>bm b5 (cv (pad t.l) (t.l.length:Int) (t.bits:Int) (t.now:Int) (t.way:Int)) _ (0,0) w∧aQ 1 s ((ints bs).map vI) w,⟨h.hb,hSl h⟩,au.xw (fun _ h=>h.1) (aD htl) (aT.Gd (hSl h) (fun _ h=>h.2) rfl (by simpa [ints] using hlt) (bs[k]:Int) (by simp [Sc.enc,vI,ints,hlt]) ⟨?_,?_⟩)⟩;refine tz h ht hx ⟨fun t' w he h=>⟨⟨h.hb,hSl h⟩,Nw.mk h fun b26 w h=>⟨⟨h.hb,hSl h⟩,aj.q (b:=b26) h hz62 (szt' he) aA fun w h=>⟨⟨h.hb,hSl h⟩,after b26 _ _ w _ (szt' he) aA (.inl ⟨rfl,t',he,rfl⟩) hG h⟩⟩⟩,fun l n w he h=>⟨⟨h.hb,hSl h⟩,Nw.mk h fun b26 w h=>⟨⟨h.hb,hSl h⟩,aj.q (b:=b26) h hz62 (aD (cN ht he).1) aA fun w h=>⟨⟨h.hb,hSl h⟩,after b26 _ _ w _ (aD (cN ht he).1) aA (.inr (.inl ⟨rfl,l,n,he,rfl⟩)) hG h⟩⟩⟩,fun o w he ho hos h=>⟨⟨h.hb,hSl h⟩,Nw.mk h fun b26 w h=>⟨⟨h.hb,hSl h⟩,aj.q (b:=b26) h hz62 ho hos fun w h=>⟨⟨h.hb,hSl h⟩,after b26 _ _ w _ ho hos (.inr (.inr ⟨rfl,he⟩)) hG h⟩⟩⟩⟩;refine Nw.mk h fun b38 w h=>⟨⟨h.hb,hSl h⟩,tz h ht hx ⟨fun t' w he h=>⟨⟨h.hb,hSl h⟩,aj.q (b:=b38) h hz62 (szt' he) aA fun w h=>⟨⟨h.hb,hSl h⟩,after b38 _ _ w _ (szt' he) aA (.inl ⟨rfl,t',he,rfl⟩) hG h⟩⟩,fun l n w he h=>⟨⟨h.hb,hSl h⟩,aj.q (b:=b38) h hz62 (aD (cN ht he).1) aA fun w h=>⟨⟨h.hb,hSl h⟩,after b38 _ _ w _ (aD (cN ht he).1) aA (.inr (.inl ⟨rfl,l,n,he,rfl⟩)) hG h⟩⟩,fun o w he ho hos h=>⟨⟨h.hb,hSl h⟩,aj.q (b:=b38) h hz62 ho hos fun w h=>⟨⟨h.hb,hSl h⟩,after b38 _ _ w _ ho hos (.inr (.inr ⟨rfl,he⟩)) hG h⟩⟩⟩⟩)
 ·have hk2:k=bs.length:=by omega
  subst hk2
  rw [List.take_of_length_le (Nat.le_refl _)] at hrun
  exact outz (l:= [_]) h fun w h=>hshort t w hrun h
end
end Go.Proofs.YtgglghjnakclmaaGreat
namespace Go.Proofs.YtgglghjnakclmaaGreat
open Go Go.Vc
set_option maxRecDepth 100000
theorem BK.ok (a:(TT [.int .i64,.int .i64])) (b:Int) (R:(TT [.int .i64,.int .i64])→Bool→Int→World→Prop) w (h:
 Nw 98 ⟨[(ni a.1),(ni a.2.1)]⟩ w fun d c=>
 Nw 98 ⟨[(ni 0),(ni 0)]⟩ c fun f e=>
 Ld (.st [.int .i64,.int .i64]) ⟨d,0,none⟩ e fun g=>
 Cl Pg [kB] ll ⟨[(.agg ⟨[(ni g.1),(ni g.2.1)]⟩)]⟩ e fun (i:Bool) h=>
 aa (!i)
 (ad ⟨f,0,none⟩ [(ni 0),(ni 0)] 0 h fun j=>
 Ld (.st [.int .i64,.int .i64]) ⟨f,0,none⟩ j fun k=>
 R k false 2 j)
 (aa (b==128)
 (Ld kI (Addr.add ⟨d,0,none⟩ 1) h fun (l:Int)=>
 aa (l==0)
 (ad ⟨f,0,none⟩ [(ni 0),(ni 0)] 0 h fun m=>
 Ld (.st [.int .i64,.int .i64]) ⟨f,0,none⟩ m fun n=>
 R n false 51 m)
 (Ld kI (Addr.add ⟨d,0,none⟩ 0) h fun (o:Int)=>
 (128:Int)≠0∧
 aa (decide ((i64 ((i64 ((128:Int)*o))+(i64 (Int.tmod b (128:Int)))))>2147483647))
 (ad ⟨f,0,none⟩ [(ni 0),(ni 0)] 0 h fun p=>
 Ld (.st [.int .i64,.int .i64]) ⟨f,0,none⟩ p fun q=>
 R q false 52 p)
 (Ld kI (Addr.add ⟨d,0,none⟩ 1) h fun (r:Int)=>
 aa (r==4)
 (aa (decide (b≥128))
 (ad ⟨f,0,none⟩ [(ni 0),(ni 0)] 0 h fun s=>
 Ld (.st [.int .i64,.int .i64]) ⟨f,0,none⟩ s fun t=>
 R t false 52 s)
 (Ld kI (Addr.add ⟨d,0,none⟩ 1) h fun (u:Int)=>
 ad ⟨f,0,none⟩ [(ni (i64 ((i64 ((128:Int)*o))+(i64 (Int.tmod b (128:Int)))))),(ni (i64 (u+1)))] 0 h fun v=>
 Ld (.st [.int .i64,.int .i64]) ⟨f,0,none⟩ v fun x=>
 R x (decide (b<128)) 0 v))
 (Ld kI (Addr.add ⟨d,0,none⟩ 1) h fun (y:Int)=>
 ad ⟨f,0,none⟩ [(ni (i64 ((i64 ((128:Int)*o))+(i64 (Int.tmod b (128:Int)))))),(ni (i64 (y+1)))] 0 h fun z=>
 Ld (.st [.int .i64,.int .i64]) ⟨f,0,none⟩ z fun a1=>
 R a1 (decide (b<128)) 0 z))))
 (Ld kI (Addr.add ⟨d,0,none⟩ 0) h fun (b1:Int)=>
 (128:Int)≠0∧
 aa (decide ((i64 ((i64 ((128:Int)*b1))+(i64 (Int.tmod b (128:Int)))))>2147483647))
 (ad ⟨f,0,none⟩ [(ni 0),(ni 0)] 0 h fun c1=>
 Ld (.st [.int .i64,.int .i64]) ⟨f,0,none⟩ c1 fun d1=>
 R d1 false 52 c1)
 (Ld kI (Addr.add ⟨d,0,none⟩ 1) h fun (e1:Int)=>
 aa (e1==4)
 (aa (decide (b≥128))
 (ad ⟨f,0,none⟩ [(ni 0),(ni 0)] 0 h fun f1=>
 Ld (.st [.int .i64,.int .i64]) ⟨f,0,none⟩ f1 fun g1=>
 R g1 false 52 f1)
 (Ld kI (Addr.add ⟨d,0,none⟩ 1) h fun (h1:Int)=>
 ad ⟨f,0,none⟩ [(ni (i64 ((i64 ((128:Int)*b1))+(i64 (Int.tmod b (128:Int)))))),(ni (i64 (h1+1)))] 0 h fun i1=>
 Ld (.st [.int .i64,.int .i64]) ⟨f,0,none⟩ i1 fun j1=>
 R j1 (decide (b<128)) 0 i1))
 (Ld kI (Addr.add ⟨d,0,none⟩ 1) h fun (k1:Int)=>
 ad ⟨f,0,none⟩ [(ni (i64 ((i64 ((128:Int)*b1))+(i64 (Int.tmod b (128:Int)))))),(ni (i64 (k1+1)))] 0 h fun l1=>
 Ld (.st [.int .i64,.int .i64]) ⟨f,0,none⟩ l1 fun m1=>
 R m1 (decide (b<128)) 0 l1))))):Cl Pg [(.st [.int .i64,.int .i64]),kB,kI] mT ⟨[(.agg ⟨[(ni a.1),(ni a.2.1)]⟩),(.int .u8 b)]⟩ w R:=co Tryz.f219 [] h
theorem zL.ok (a:(TT [.int .i64,.int .i64])) (R:Bool→World→Prop) w (h:
 Nw 98 ⟨[(ni a.1),(ni a.2.1)]⟩ w fun c b=>
 Ld kI (Addr.add ⟨c,0,none⟩ 1) b fun (d:Int)=>
 aa (d==0)
 (Ld kI (Addr.add ⟨c,0,none⟩ 0) b fun (e:Int)=>
 R (e==0) b)
 (cP b fun f g=>
 au kI (Addr.add ⟨c,0,none⟩ 1) f fun (h:Int)=>
 aa (decide (h≥1))
 (au kI (Addr.add ⟨c,0,none⟩ 1) f fun (i:Int)=>
 aa (decide (i≤4))
 (au kI (Addr.add ⟨c,0,none⟩ 0) f fun (j:Int)=>
 au kI (Addr.add ⟨c,0,none⟩ 1) f fun (k:Int)=>
 Cl Pg [kI] iD ⟨[(ni (i64 (k - 1)))]⟩ g fun (m:Int) l=>
 f l∧
 aa (decide (j≥m))
 (au kI (Addr.add ⟨c,0,none⟩ 0) f fun (n:Int)=>
 au kI (Addr.add ⟨c,0,none⟩ 1) f fun (o:Int)=>
 Cl Pg [kI] iD ⟨[(ni o)]⟩ l fun (q:Int) p=>
 f p∧
 R (decide (n<q)) p)
 (R false l))
 (R false g))
 (R false g))):Cl Pg [kB] ll ⟨[(.agg ⟨[(ni a.1),(ni a.2.1)]⟩)]⟩ w R:=co Tryz.f286 [] h
theorem zO.ok (a:Int) (R:Int→World→Prop) w (h:
 ec 1 0 w fun b c (d:Int) (e:Int) f=>
 aa (decide (e<a))
 (b (i64 (d*128)) (i64 (e+1)) f∧c (i64 (d*128)) (i64 (e+1)) f<c d e f)
 (R d f)):Cl Pg [kI] iD ⟨[(ni a)]⟩ w R:=co Tryz.f319 [(7,[(3,kI),(4,kI)])] h
end Go.Proofs.YtgglghjnakclmaaGreat
namespace Go.Proofs.YtgglghjnakclmaaGreat
open Go Go.Vc
set_option maxRecDepth 100000
theorem AX.ok (a:Sl) (R:(TT [.int .i64])→Sl→Int→World→Prop) w (h:
 Nw 116 ⟨[(ni 0)]⟩ w fun c b=>
 Nw 100 ⟨[(ni 0),(ni 0),(ni 0),(ni 0)]⟩ b fun e d=>
 fx 0 d fun f g (h:Int) i=>
 aa (decide (h<(a.len:Int)))
 (aR (fun (c1:Addr) (d1:Int) (e1:World)=>
 aa (d1 !=0)
 (ad ⟨c,0,none⟩ [(ni 0)] 0 e1 fun f1=>
 Ld (.st [.int .i64]) ⟨c,0,none⟩ f1 fun g1=>
 R g1 (⟨none,0,0⟩:Sl) d1 f1)
 (Ld (.st ch) c1 e1 fun h1=>
 ad ⟨e,0,none⟩ [(ni h1.1),(ni h1.2.1),(ni h1.2.2.1),(ni h1.2.2.2.1)] 0 e1 fun i1=>
 Ld kI (Addr.add ⟨e,0,none⟩ 0) i1 fun (j1:Int)=>
 aa (j1==4)
 (cP i1 fun u1 v1=>
 au kI (Addr.add ⟨e,0,none⟩ 3) u1 fun (x1:Int)=>
 bQ a (i64 (h+1)) (a).len (a).cap 1 fun y1=>
 Nw 5 ⟨[]⟩ v1 fun a2 z1=>
 u1 z1∧
 aw Pg (Builtin.append_ #[26,26] 26 ⟨[(ar (⟨some ⟨a2,0,none⟩,0,0⟩:Sl)),(ar y1)]⟩) kS z1 fun (c2:Sl) b2=>
 u1 b2∧
 ad ⟨c,0,none⟩ [(ni x1)] 0 b2 fun d2=>
 u1 d2∧
 Ld (.st [.int .i64]) ⟨c,0,none⟩ d2 fun e2=>
 R e2 c2 0 d2)
 (f (i64 (h+1)) i1∧g (i64 (h+1)) i1<g h i))) fun j=>
 cP i fun k l=>
 au (.st ch) ⟨e,0,none⟩ k fun m=>
 aT a h 1 fun n=>
 au (ak .u8) n k fun (o:Int)=>
 (Cl Pg [(.st ch),kI] kG ⟨[(.agg ⟨[(ni m.1),(ni m.2.1),(ni m.2.2.1),(ni m.2.2.2.1)]⟩),(.int .u8 o)]⟩ l fun q (r:Int) p=>
 k p∧
 Nw 100 ⟨[(ni 0),(ni 0),(ni 0),(ni 0)]⟩ p fun t s=>
 k s∧
 ad ⟨t,0,none⟩ [(ni q.1),(ni q.2.1),(ni q.2.2.1),(ni q.2.2.2.1)] 0 s fun u=>
 k u∧
 j (⟨t,0,none⟩) r u)∧
 (Nw 100 ⟨[(ni 0),(ni 0),(ni 0),(ni 0)]⟩ l fun x v=>
 k v∧
 Cl Pg [(.st ch),kI] kG ⟨[(.agg ⟨[(ni m.1),(ni m.2.1),(ni m.2.2.1),(ni m.2.2.2.1)]⟩),(.int .u8 o)]⟩ v fun z (a1:Int) y=>
 k y∧
 ad ⟨x,0,none⟩ [(ni z.1),(ni z.2.1),(ni z.2.2.1),(ni z.2.2.2.1)] 0 y fun b1=>
 k b1∧
 j (⟨x,0,none⟩) a1 b1))
 (ad ⟨c,0,none⟩ [(ni 0)] 0 i fun f2=>
 Ld (.st [.int .i64]) ⟨c,0,none⟩ f2 fun g2=>
 R g2 (⟨none,0,0⟩:Sl) 50 f2)):Cl Pg [(.st [.int .i64]),kS,kI] mA ⟨[(ar a)]⟩ w R:=co Tryz.f57 [(7,[(6,kI)])] h
theorem ud.ok (a:Int) (b:Sl) (R:(TT aS)→Sl→Int→World→Prop) w (h:
 Nw 102 ⟨[(ni 0),(ni 0),(ni 0),(ni 0),(ni 0),(.int .u32 0),(ni 0)]⟩ w fun d c=>
 aR (fun (j:World)=>
 Nw 102 ⟨[(ni 0),(ni 0),(ni 0),(ni 0),(ni 0),(.int .u32 0),(ni 0)]⟩ j fun l k=>
 fx 0 k fun m n (o:Int) p=>
 aa (decide (o<(b.len:Int)))
 (cP p fun q r=>
 au (.st aS) ⟨l,0,none⟩ q fun s=>
 aT b o 1 fun t=>
 au (ak .u8) t q fun (u:Int)=>
 (Cl Pg [(.st aS),kB] eB ⟨[(ni a),(.agg ⟨[(ni s.1),(ni s.2.1),(ni s.2.2.1),(ni s.2.2.2.1),(ni s.2.2.2.2.1),(.int .u32 s.2.2.2.2.2.1),(ni s.2.2.2.2.2.2.1)]⟩),(.int .u8 u)]⟩ r fun x (y:Bool) v=>
 q v∧
 Nw 102 ⟨[(ni 0),(ni 0),(ni 0),(ni 0),(ni 0),(.int .u32 0),(ni 0)]⟩ v fun a1 z=>
 q z∧
 ad ⟨a1,0,none⟩ [(ni x.1),(ni x.2.1),(ni x.2.2.1),(ni x.2.2.2.1),(ni x.2.2.2.2.1),(.int .u32 x.2.2.2.2.2.1),(ni x.2.2.2.2.2.2.1)] 0 z fun b1=>
 q b1∧
 aa (!y)
 (ad ⟨d,0,none⟩ [(ni 0),(ni 0),(ni 0),(ni 0),(ni 0),(.int .u32 0),(ni 0)] 0 b1 fun c1=>
 Ld (.st aS) ⟨d,0,none⟩ c1 fun d1=>
 R d1 (⟨none,0,0⟩:Sl) 242 c1)
 (Ld (.st aS) ⟨a1,0,none⟩ b1 fun e1=>
 ad ⟨l,0,none⟩ [(ni e1.1),(ni e1.2.1),(ni e1.2.2.1),(ni e1.2.2.2.1),(ni e1.2.2.2.2.1),(.int .u32 e1.2.2.2.2.2.1),(ni e1.2.2.2.2.2.2.1)] 0 b1 fun f1=>
 Ld kI (Addr.add ⟨l,0,none⟩ 0) f1 fun (g1:Int)=>
 aa (g1==4)
 (cP f1 fun h1 i1=>
 au (.st aS) ⟨l,0,none⟩ h1 fun j1=>
 bQ b (i64 (o+1)) (b).len (b).cap 1 fun k1=>
 Nw 5 ⟨[]⟩ i1 fun m1 l1=>
 h1 l1∧
 aw Pg (Builtin.append_ #[26,26] 26 ⟨[(ar (⟨some ⟨m1,0,none⟩,0,0⟩:Sl)),(ar k1)]⟩) kS l1 fun (o1:Sl) n1=>
 h1 n1∧
 ad ⟨d,0,none⟩ [(ni j1.1),(ni j1.2.1),(ni j1.2.2.1),(ni j1.2.2.2.1),(ni j1.2.2.2.2.1),(.int .u32 j1.2.2.2.2.2.1),(ni j1.2.2.2.2.2.2.1)] 0 n1 fun p1=>
 h1 p1∧
 Ld (.st aS) ⟨d,0,none⟩ p1 fun q1=>
 R q1 o1 0 p1)
 (Ld kI (Addr.add ⟨l,0,none⟩ 0) f1 fun (r1:Int)=>
 aa (r1==6)
 (cP f1 fun s1 t1=>
 au (.st aS) ⟨l,0,none⟩ s1 fun u1=>
 bQ b (i64 (o+1)) (b).len (b).cap 1 fun v1=>
 Nw 5 ⟨[]⟩ t1 fun y1 x1=>
 s1 x1∧
 aw Pg (Builtin.append_ #[26,26] 26 ⟨[(ar (⟨some ⟨y1,0,none⟩,0,0⟩:Sl)),(ar v1)]⟩) kS x1 fun (a2:Sl) z1=>
 s1 z1∧
 ad ⟨d,0,none⟩ [(ni u1.1),(ni u1.2.1),(ni u1.2.2.1),(ni u1.2.2.2.1),(ni u1.2.2.2.2.1),(.int .u32 u1.2.2.2.2.2.1),(ni u1.2.2.2.2.2.2.1)] 0 z1 fun b2=>
 s1 b2∧
 Ld (.st aS) ⟨d,0,none⟩ b2 fun c2=>
 R c2 a2 0 b2)
 (m (i64 (o+1)) f1∧n (i64 (o+1)) f1<n o p))))∧
 (Nw 102 ⟨[(ni 0),(ni 0),(ni 0),(ni 0),(ni 0),(.int .u32 0),(ni 0)]⟩ r fun e2 d2=>
 q d2∧
 Cl Pg [(.st aS),kB] eB ⟨[(ni a),(.agg ⟨[(ni s.1),(ni s.2.1),(ni s.2.2.1),(ni s.2.2.2.1),(ni s.2.2.2.2.1),(.int .u32 s.2.2.2.2.2.1),(ni s.2.2.2.2.2.2.1)]⟩),(.int .u8 u)]⟩ d2 fun g2 (h2:Bool) f2=>
 q f2∧
 ad ⟨e2,0,none⟩ [(ni g2.1),(ni g2.2.1),(ni g2.2.2.1),(ni g2.2.2.2.1),(ni g2.2.2.2.2.1),(.int .u32 g2.2.2.2.2.2.1),(ni g2.2.2.2.2.2.2.1)] 0 f2 fun i2=>
 q i2∧
 aa (!h2)
 (ad ⟨d,0,none⟩ [(ni 0),(ni 0),(ni 0),(ni 0),(ni 0),(.int .u32 0),(ni 0)] 0 i2 fun j2=>
 Ld (.st aS) ⟨d,0,none⟩ j2 fun k2=>
 R k2 (⟨none,0,0⟩:Sl) 242 j2)
 (Ld (.st aS) ⟨e2,0,none⟩ i2 fun l2=>
 ad ⟨l,0,none⟩ [(ni l2.1),(ni l2.2.1),(ni l2.2.2.1),(ni l2.2.2.2.1),(ni l2.2.2.2.2.1),(.int .u32 l2.2.2.2.2.2.1),(ni l2.2.2.2.2.2.2.1)] 0 i2 fun m2=>
 Ld kI (Addr.add ⟨l,0,none⟩ 0) m2 fun (n2:Int)=>
 aa (n2==4)
 (cP m2 fun o2 p2=>
 au (.st aS) ⟨l,0,none⟩ o2 fun q2=>
 bQ b (i64 (o+1)) (b).len (b).cap 1 fun r2=>
 Nw 5 ⟨[]⟩ p2 fun t2 s2=>
 o2 s2∧
 aw Pg (Builtin.append_ #[26,26] 26 ⟨[(ar (⟨some ⟨t2,0,none⟩,0,0⟩:Sl)),(ar r2)]⟩) kS s2 fun (v2:Sl) u2=>
 o2 u2∧
 ad ⟨d,0,none⟩ [(ni q2.1),(ni q2.2.1),(ni q2.2.2.1),(ni q2.2.2.2.1),(ni q2.2.2.2.2.1),(.int .u32 q2.2.2.2.2.2.1),(ni q2.2.2.2.2.2.2.1)] 0 u2 fun x2=>
 o2 x2∧
 Ld (.st aS) ⟨d,0,none⟩ x2 fun y2=>
 R y2 v2 0 x2)
 (Ld kI (Addr.add ⟨l,0,none⟩ 0) m2 fun (z2:Int)=>
 aa (z2==6)
 (cP m2 fun a3 b3=>
 au (.st aS) ⟨l,0,none⟩ a3 fun c3=>
 bQ b (i64 (o+1)) (b).len (b).cap 1 fun d3=>
 Nw 5 ⟨[]⟩ b3 fun f3 e3=>
 a3 e3∧
 aw Pg (Builtin.append_ #[26,26] 26 ⟨[(ar (⟨some ⟨f3,0,none⟩,0,0⟩:Sl)),(ar d3)]⟩) kS e3 fun (h3:Sl) g3=>
 a3 g3∧
 ad ⟨d,0,none⟩ [(ni c3.1),(ni c3.2.1),(ni c3.2.2.1),(ni c3.2.2.2.1),(ni c3.2.2.2.2.1),(.int .u32 c3.2.2.2.2.2.1),(ni c3.2.2.2.2.2.2.1)] 0 g3 fun i3=>
 a3 i3∧
 Ld (.st aS) ⟨d,0,none⟩ i3 fun j3=>
 R j3 h3 0 i3)
 (m (i64 (o+1)) m2∧n (i64 (o+1)) m2<n o p)))))
 (ad ⟨d,0,none⟩ [(ni 0),(ni 0),(ni 0),(ni 0),(ni 0),(.int .u32 0),(ni 0)] 0 p fun k3=>
 Ld (.st aS) ⟨d,0,none⟩ k3 fun l3=>
 R l3 (⟨none,0,0⟩:Sl) 50 k3)) fun e=>
 aa (decide (a<1))
 (ad ⟨d,0,none⟩ [(ni 0),(ni 0),(ni 0),(ni 0),(ni 0),(.int .u32 0),(ni 0)] 0 c fun f=>
 Ld (.st aS) ⟨d,0,none⟩ f fun g=>
 R g (⟨none,0,0⟩:Sl) 2 f)
 (aa (decide (a>65536))
 (ad ⟨d,0,none⟩ [(ni 0),(ni 0),(ni 0),(ni 0),(ni 0),(.int .u32 0),(ni 0)] 0 c fun h=>
 Ld (.st aS) ⟨d,0,none⟩ h fun i=>
 R i (⟨none,0,0⟩:Sl) 2 h)
 (e c))):Cl Pg [(.st aS),kS,kI] iY ⟨[(ni a),(ar b)]⟩ w R:=co Tryz.f59 [(2,[]),(12,[(8,kI)])] h
theorem Ck.ok (a:(TT ch)) (b:Int) (R:(TT ch)→Int→World→Prop) w (h:
 Nw 100 ⟨[(ni a.1),(ni a.2.1),(ni a.2.2.1),(ni a.2.2.2.1)]⟩ w fun d c=>
 Nw 100 ⟨[(ni 0),(ni 0),(ni 0),(ni 0)]⟩ c fun f e=>
 Nw 230 ⟨[(.int .u8 0),(.int .u8 0),(.int .u8 0)]⟩ e fun h g=>
 ad ⟨h,0,none⟩ [(.int .u8 87),(.int .u8 80),(.int .u8 1)] 0 g fun i=>
 Ld kI (Addr.add ⟨d,0,none⟩ 0) i fun (j:Int)=>
 aa (decide (j<3))
 (Ld kI (Addr.add ⟨d,0,none⟩ 0) i fun (k:Int)=>
 aF ⟨h,0,none⟩ 3 k 1 fun l=>
 Ld (ak .u8) l i fun (m:Int)=>
 aa (b !=m)
 (Ld kI (Addr.add ⟨d,0,none⟩ 0) i fun (n:Int)=>
 aa (n==2)
 (Ld (.st ch) ⟨d,0,none⟩ i fun o=>
 ad ⟨f,0,none⟩ [(ni o.1),(ni o.2.1),(ni o.2.2.1),(ni o.2.2.2.1)] 0 i fun p=>
 Ld (.st ch) ⟨f,0,none⟩ p fun q=>
 R q 241 p)
 (Ld kI (Addr.add ⟨d,0,none⟩ 0) i fun (r:Int)=>
 aF ⟨h,0,none⟩ 3 r 1 fun s=>
 Ld (ak .u8) s i fun (t:Int)=>
 aa (b !=t)
 (Ld (.st ch) ⟨d,0,none⟩ i fun u=>
 ad ⟨f,0,none⟩ [(ni u.1),(ni u.2.1),(ni u.2.2.1),(ni u.2.2.2.1)] 0 i fun v=>
 Ld (.st ch) ⟨f,0,none⟩ v fun x=>
 R x 240 v)
 (Ld kI (Addr.add ⟨d,0,none⟩ 0) i fun (y:Int)=>
 St (Addr.add ⟨d,0,none⟩ 0) (ni (i64 (y+1))) i fun z=>
 Ld (.st ch) ⟨d,0,none⟩ z fun a1=>
 ad ⟨f,0,none⟩ [(ni a1.1),(ni a1.2.1),(ni a1.2.2.1),(ni a1.2.2.2.1)] 0 z fun b1=>
 Ld (.st ch) ⟨f,0,none⟩ b1 fun c1=>
 R c1 0 b1)))
 (Ld kI (Addr.add ⟨d,0,none⟩ 0) i fun (d1:Int)=>
 aF ⟨h,0,none⟩ 3 d1 1 fun e1=>
 Ld (ak .u8) e1 i fun (f1:Int)=>
 aa (b !=f1)
 (Ld (.st ch) ⟨d,0,none⟩ i fun g1=>
 ad ⟨f,0,none⟩ [(ni g1.1),(ni g1.2.1),(ni g1.2.2.1),(ni g1.2.2.2.1)] 0 i fun h1=>
 Ld (.st ch) ⟨f,0,none⟩ h1 fun i1=>
 R i1 240 h1)
 (Ld kI (Addr.add ⟨d,0,none⟩ 0) i fun (j1:Int)=>
 St (Addr.add ⟨d,0,none⟩ 0) (ni (i64 (j1+1))) i fun k1=>
 Ld (.st ch) ⟨d,0,none⟩ k1 fun l1=>
 ad ⟨f,0,none⟩ [(ni l1.1),(ni l1.2.1),(ni l1.2.2.1),(ni l1.2.2.2.1)] 0 k1 fun m1=>
 Ld (.st ch) ⟨f,0,none⟩ m1 fun n1=>
 R n1 0 m1)))
 (Ld (.st [.int .i64,.int .i64]) (Addr.add ⟨d,0,none⟩ 1) i fun o1=>
 Cl Pg [(.st [.int .i64,.int .i64]),kB,kB] fX ⟨[(.agg ⟨[(ni o1.1),(ni o1.2.1)]⟩),(.int .u8 b),(ni 65536)]⟩ i fun q1 (r1:Bool) (s1:Bool) p1=>
 Nw 98 ⟨[(ni 0),(ni 0)]⟩ p1 fun u1 t1=>
 ad ⟨u1,0,none⟩ [(ni q1.1),(ni q1.2.1)] 0 t1 fun v1=>
 aa (!s1)
 (Ld (.st ch) ⟨d,0,none⟩ v1 fun x1=>
 ad ⟨f,0,none⟩ [(ni x1.1),(ni x1.2.1),(ni x1.2.2.1),(ni x1.2.2.2.1)] 0 v1 fun y1=>
 Ld (.st ch) ⟨f,0,none⟩ y1 fun z1=>
 R z1 242 y1)
 (Ld (.st [.int .i64,.int .i64]) ⟨u1,0,none⟩ v1 fun a2=>
 ad (Addr.add ⟨d,0,none⟩ 1) [(ni a2.1),(ni a2.2.1)] 0 v1 fun b2=>
 aa r1
 (St (Addr.add ⟨d,0,none⟩ 0) (ni 4) b2 fun c2=>
 Ld kI (Addr.add ⟨u1,0,none⟩ 0) c2 fun (d2:Int)=>
 St (Addr.add ⟨d,0,none⟩ 3) (ni d2) c2 fun e2=>
 ad (Addr.add ⟨d,0,none⟩ 1) [(ni 0),(ni 0)] 0 e2 fun f2=>
 Ld (.st ch) ⟨d,0,none⟩ f2 fun g2=>
 ad ⟨f,0,none⟩ [(ni g2.1),(ni g2.2.1),(ni g2.2.2.1),(ni g2.2.2.2.1)] 0 f2 fun h2=>
 Ld (.st ch) ⟨f,0,none⟩ h2 fun i2=>
 R i2 0 h2)
 (Ld (.st ch) ⟨d,0,none⟩ b2 fun j2=>
 ad ⟨f,0,none⟩ [(ni j2.1),(ni j2.2.1),(ni j2.2.2.1),(ni j2.2.2.2.1)] 0 b2 fun k2=>
 Ld (.st ch) ⟨f,0,none⟩ k2 fun l2=>
 R l2 0 k2)))):Cl Pg [(.st ch),kI] kG ⟨[(.agg ⟨[(ni a.1),(ni a.2.1),(ni a.2.2.1),(ni a.2.2.2.1)]⟩),(.int .u8 b)]⟩ w R:=co Tryz.f108 [] h
theorem zn.ok (a:Int) (b:(TT aS)) (c:Int) (R:(TT aS)→Bool→World→Prop) w (h:
 Nw 102 ⟨[(ni b.1),(ni b.2.1),(ni b.2.2.1),(ni b.2.2.2.1),(ni b.2.2.2.2.1),(.int .u32 b.2.2.2.2.2.1),(ni b.2.2.2.2.2.2.1)]⟩ w fun e d=>
 Nw 102 ⟨[(ni 0),(ni 0),(ni 0),(ni 0),(ni 0),(.int .u32 0),(ni 0)]⟩ d fun g f=>
 Ld kI (Addr.add ⟨e,0,none⟩ 0) f fun (h:Int)=>
 aa (h==0)
 (St (Addr.add ⟨e,0,none⟩ 0) (ni 1) f fun i=>
 aa (c==0)
 (St (Addr.add ⟨e,0,none⟩ 0) (ni 5) i fun j=>
 Ld (.st aS) ⟨e,0,none⟩ j fun k=>
 aa (c==0)
 (ad ⟨g,0,none⟩ [(ni k.1),(ni k.2.1),(ni k.2.2.1),(ni k.2.2.2.1),(ni k.2.2.2.2.1),(.int .u32 k.2.2.2.2.2.1),(ni k.2.2.2.2.2.2.1)] 0 j fun l=>
 Ld (.st aS) ⟨g,0,none⟩ l fun m=>
 R m true l)
 (ad ⟨g,0,none⟩ [(ni k.1),(ni k.2.1),(ni k.2.2.1),(ni k.2.2.2.1),(ni k.2.2.2.2.1),(.int .u32 k.2.2.2.2.2.1),(ni k.2.2.2.2.2.2.1)] 0 j fun n=>
 Ld (.st aS) ⟨g,0,none⟩ n fun o=>
 R o (c==1) n))
 (Ld (.st aS) ⟨e,0,none⟩ i fun p=>
 aa (c==0)
 (ad ⟨g,0,none⟩ [(ni p.1),(ni p.2.1),(ni p.2.2.1),(ni p.2.2.2.1),(ni p.2.2.2.2.1),(.int .u32 p.2.2.2.2.2.1),(ni p.2.2.2.2.2.2.1)] 0 i fun q=>
 Ld (.st aS) ⟨g,0,none⟩ q fun r=>
 R r true q)
 (ad ⟨g,0,none⟩ [(ni p.1),(ni p.2.1),(ni p.2.2.1),(ni p.2.2.2.1),(ni p.2.2.2.2.1),(.int .u32 p.2.2.2.2.2.1),(ni p.2.2.2.2.2.2.1)] 0 i fun s=>
 Ld (.st aS) ⟨g,0,none⟩ s fun t=>
 R t (c==1) s)))
 (aa (h==1)
 (Ld (.st [.int .i64,.int .i64]) (Addr.add ⟨e,0,none⟩ 1) f fun u=>
 Cl Pg [(.st [.int .i64,.int .i64]),kB,kB] fX ⟨[(.agg ⟨[(ni u.1),(ni u.2.1)]⟩),(.int .u8 c),(ni a)]⟩ f fun x (y:Bool) (z:Bool) v=>
 Nw 98 ⟨[(ni 0),(ni 0)]⟩ v fun b1 a1=>
 ad ⟨b1,0,none⟩ [(ni x.1),(ni x.2.1)] 0 a1 fun c1=>
 Ld (.st [.int .i64,.int .i64]) ⟨b1,0,none⟩ c1 fun d1=>
 ad (Addr.add ⟨e,0,none⟩ 1) [(ni d1.1),(ni d1.2.1)] 0 c1 fun e1=>
 aa y
 (ad (Addr.add ⟨e,0,none⟩ 1) [(ni 0),(ni 0)] 0 e1 fun f1=>
 Ld kI (Addr.add ⟨b1,0,none⟩ 0) f1 fun (g1:Int)=>
 St ((Addr.add ⟨e,0,none⟩ 3).add 0) (ni g1) f1 fun h1=>
 St (Addr.add ⟨e,0,none⟩ 0) (ni 2) h1 fun i1=>
 Ld (.st aS) ⟨e,0,none⟩ i1 fun j1=>
 ad ⟨g,0,none⟩ [(ni j1.1),(ni j1.2.1),(ni j1.2.2.1),(ni j1.2.2.2.1),(ni j1.2.2.2.2.1),(.int .u32 j1.2.2.2.2.2.1),(ni j1.2.2.2.2.2.2.1)] 0 i1 fun k1=>
 Ld (.st aS) ⟨g,0,none⟩ k1 fun l1=>
 R l1 z k1)
 (Ld (.st aS) ⟨e,0,none⟩ e1 fun m1=>
 ad ⟨g,0,none⟩ [(ni m1.1),(ni m1.2.1),(ni m1.2.2.1),(ni m1.2.2.2.1),(ni m1.2.2.2.2.1),(.int .u32 m1.2.2.2.2.2.1),(ni m1.2.2.2.2.2.2.1)] 0 e1 fun n1=>
 Ld (.st aS) ⟨g,0,none⟩ n1 fun o1=>
 R o1 z n1))
 (aa (h==2)
 (Ld (.st [.int .i64,.int .i64]) (Addr.add ⟨e,0,none⟩ 1) f fun p1=>
 Ld kI ((Addr.add ⟨e,0,none⟩ 3).add 0) f fun (q1:Int)=>
 Cl Pg [(.st [.int .i64,.int .i64]),kB,kB] fX ⟨[(.agg ⟨[(ni p1.1),(ni p1.2.1)]⟩),(.int .u8 c),(ni q1)]⟩ f fun s1 (t1:Bool) (u1:Bool) r1=>
 Nw 98 ⟨[(ni 0),(ni 0)]⟩ r1 fun x1 v1=>
 ad ⟨x1,0,none⟩ [(ni s1.1),(ni s1.2.1)] 0 v1 fun y1=>
 Ld (.st [.int .i64,.int .i64]) ⟨x1,0,none⟩ y1 fun z1=>
 ad (Addr.add ⟨e,0,none⟩ 1) [(ni z1.1),(ni z1.2.1)] 0 y1 fun a2=>
 aa t1
 (ad (Addr.add ⟨e,0,none⟩ 1) [(ni 0),(ni 0)] 0 a2 fun b2=>
 Ld kI (Addr.add ⟨x1,0,none⟩ 0) b2 fun (c2:Int)=>
 St ((Addr.add ⟨e,0,none⟩ 3).add 1) (ni c2) b2 fun d2=>
 St (Addr.add ⟨e,0,none⟩ 0) (ni 3) d2 fun e2=>
 Ld (.st aS) ⟨e,0,none⟩ e2 fun f2=>
 ad ⟨g,0,none⟩ [(ni f2.1),(ni f2.2.1),(ni f2.2.2.1),(ni f2.2.2.2.1),(ni f2.2.2.2.2.1),(.int .u32 f2.2.2.2.2.2.1),(ni f2.2.2.2.2.2.2.1)] 0 e2 fun g2=>
 Ld (.st aS) ⟨g,0,none⟩ g2 fun h2=>
 R h2 u1 g2)
 (Ld (.st aS) ⟨e,0,none⟩ a2 fun i2=>
 ad ⟨g,0,none⟩ [(ni i2.1),(ni i2.2.1),(ni i2.2.2.1),(ni i2.2.2.2.1),(ni i2.2.2.2.2.1),(.int .u32 i2.2.2.2.2.2.1),(ni i2.2.2.2.2.2.2.1)] 0 a2 fun j2=>
 Ld (.st aS) ⟨g,0,none⟩ j2 fun k2=>
 R k2 u1 j2))
 (Ld (ak .u32) ((Addr.add ⟨e,0,none⟩ 3).add 2) f fun (l2:Int)=>
 St ((Addr.add ⟨e,0,none⟩ 3).add 2) (.int .u32 (u32 ((u32 ((256:Int)*l2))+(u32 c)))) f fun m2=>
 Ld kI (Addr.add ⟨e,0,none⟩ 6) m2 fun (n2:Int)=>
 St (Addr.add ⟨e,0,none⟩ 6) (ni (i64 (n2+1))) m2 fun o2=>
 Ld kI (Addr.add ⟨e,0,none⟩ 6) o2 fun (p2:Int)=>
 aa (p2==4)
 (Ld kI (Addr.add ⟨e,0,none⟩ 0) o2 fun (q2:Int)=>
 St (Addr.add ⟨e,0,none⟩ 0) (ni (i64 (q2+1))) o2 fun r2=>
 Ld (.st aS) ⟨e,0,none⟩ r2 fun s2=>
 ad ⟨g,0,none⟩ [(ni s2.1),(ni s2.2.1),(ni s2.2.2.1),(ni s2.2.2.2.1),(ni s2.2.2.2.2.1),(.int .u32 s2.2.2.2.2.2.1),(ni s2.2.2.2.2.2.2.1)] 0 r2 fun t2=>
 Ld (.st aS) ⟨g,0,none⟩ t2 fun u2=>
 R u2 true t2)
 (Ld (.st aS) ⟨e,0,none⟩ o2 fun v2=>
 ad ⟨g,0,none⟩ [(ni v2.1),(ni v2.2.1),(ni v2.2.2.1),(ni v2.2.2.2.1),(ni v2.2.2.2.2.1),(.int .u32 v2.2.2.2.2.2.1),(ni v2.2.2.2.2.2.2.1)] 0 o2 fun x2=>
 Ld (.st aS) ⟨g,0,none⟩ x2 fun y2=>
 R y2 true x2))))):Cl Pg [(.st aS),kB] eB ⟨[(ni a),(.agg ⟨[(ni b.1),(ni b.2.1),(ni b.2.2.1),(ni b.2.2.2.1),(ni b.2.2.2.2.1),(.int .u32 b.2.2.2.2.2.1),(ni b.2.2.2.2.2.2.1)]⟩),(.int .u8 c)]⟩ w R:=co Tryz.f109 [] h
theorem zU.ok (a:(TT [.int .i64,.int .i64])) (b:Int) (c:Int) (R:(TT [.int .i64,.int .i64])→Bool→Bool→World→Prop) w (h:
 Nw 98 ⟨[(ni a.1),(ni a.2.1)]⟩ w fun e d=>
 Nw 98 ⟨[(ni 0),(ni 0)]⟩ d fun g f=>
 Ld (.st [.int .i64,.int .i64]) ⟨e,0,none⟩ f fun h=>
 Cl Pg [(.st [.int .i64,.int .i64]),kB,kI] mT ⟨[(.agg ⟨[(ni h.1),(ni h.2.1)]⟩),(.int .u8 b)]⟩ f fun j (k:Bool) (l:Int) i=>
 Nw 98 ⟨[(ni 0),(ni 0)]⟩ i fun n m=>
 ad ⟨n,0,none⟩ [(ni j.1),(ni j.2.1)] 0 m fun o=>
 aa (l !=0)
 (Ld (.st [.int .i64,.int .i64]) ⟨n,0,none⟩ o fun p=>
 ad ⟨g,0,none⟩ [(ni p.1),(ni p.2.1)] 0 o fun q=>
 Ld (.st [.int .i64,.int .i64]) ⟨g,0,none⟩ q fun r=>
 R r false false q)
 (Ld kI (Addr.add ⟨n,0,none⟩ 0) o fun (s:Int)=>
 aa (decide (s>c))
 (Ld (.st [.int .i64,.int .i64]) ⟨n,0,none⟩ o fun t=>
 ad ⟨g,0,none⟩ [(ni t.1),(ni t.2.1)] 0 o fun u=>
 Ld (.st [.int .i64,.int .i64]) ⟨g,0,none⟩ u fun v=>
 R v false false u)
 (aa k
 (Ld kI (Addr.add ⟨n,0,none⟩ 0) o fun (x:Int)=>
 aa (decide (x<1))
 (Ld (.st [.int .i64,.int .i64]) ⟨n,0,none⟩ o fun y=>
 ad ⟨g,0,none⟩ [(ni y.1),(ni y.2.1)] 0 o fun z=>
 Ld (.st [.int .i64,.int .i64]) ⟨g,0,none⟩ z fun a1=>
 R a1 false false z)
 (Ld (.st [.int .i64,.int .i64]) ⟨n,0,none⟩ o fun b1=>
 ad ⟨g,0,none⟩ [(ni b1.1),(ni b1.2.1)] 0 o fun c1=>
 Ld (.st [.int .i64,.int .i64]) ⟨g,0,none⟩ c1 fun d1=>
 R d1 k true c1))
 (Ld (.st [.int .i64,.int .i64]) ⟨n,0,none⟩ o fun e1=>
 ad ⟨g,0,none⟩ [(ni e1.1),(ni e1.2.1)] 0 o fun f1=>
 Ld (.st [.int .i64,.int .i64]) ⟨g,0,none⟩ f1 fun g1=>
 R g1 k true f1)))):Cl Pg [(.st [.int .i64,.int .i64]),kB,kB] fX ⟨[(.agg ⟨[(ni a.1),(ni a.2.1)]⟩),(.int .u8 b),(ni c)]⟩ w R:=co Tryz.f156 [] h
end Go.Proofs.YtgglghjnakclmaaGreat
namespace Go.Proofs.YtgglghjnakclmaaGreat
open Go Go.Vc Go.Srt Go.Inc Go.Hd Go.Crc
section
variable {E w:World} {F:List HP}
theorem Cw {m:Nat} {K:Int→World→Prop} (hm:m≤8) (hK:K ((128^m:Nat):Int) w):Cl Tryz.prog [kI] iD ⟨[.int .i64 (m:Int)]⟩ w K:=by
 refine zO.ok _ _ _ ?_
 refine ⟨fun n i w'=>w'=w∧∃k:Nat,i=(k:Int)∧k≤m∧n=((128^k:Nat):Int),fun _ i _=>m - i.toNat,⟨rfl,0,rfl,by omega,rfl⟩,?_⟩
 rintro n i w' ⟨rfl,k,rfl,hk,rfl⟩
 refine aa.dm (fun hlt=> ?_) (fun hge=> ?_)
 ·have hp:128^(k+1)≤128^8:=Nat.pow_le_pow_right (by decide) (by omega)
  rw [Nat.pow_succ] at hp
  have e:=Nat.pow_succ 128 k
  generalize 128^k=p at*
  rw [ab (by omega),ab (by omega)]
  refine ⟨⟨rfl,k+1,rfl,by omega,by rw [e];omega⟩,by first|omega|(dsimp only;omega)⟩
 ·have:k=m:=by omega
  subst this
  exact hK
theorem Dv {v:Nat} {K:Bool→World→Prop} (h:Hp E w F) (hv:v≤65536) (hK: ∀w',Hp E w' F→K true w'):
  Cl Tryz.prog [kB] ll ⟨[.agg ⟨[.int .i64 (v:Int),.int .i64 (vm v:Int)]⟩]⟩ w K:=by
 refine zL.ok ((v:Int),(vm v:Int),()) _ _ ?_
 (try simp only [af,Nat.zero_add,Nat.add_zero])
 by_cases h0:v=0
 ·subst h0
  rw [show vm 0=0 from rfl]
  (with_reducible repeat first|refine Nw.mk h fun b w h=> ?_|refine Ld.xb h rfl ?_|refine aa.yes ?_)
  exact hK _ h.tl
 ·obtain ⟨m,hm,hm2,h1,h2⟩: ∃m,vm v=m+1∧m≤2∧128^m≤v∧v<128^(m+1):=by
   rcases sC hv with ⟨a,b⟩|⟨a,b,c⟩|⟨a,b,c⟩|⟨a,b,c⟩
   ·omega
   ·exact ⟨0,c,by omega,by simpa using a,by simpa using b⟩
   ·exact ⟨1,c,by omega,by simpa using a,by simpa using b⟩
   ·exact ⟨2,c,by omega,by simpa using a,by simpa using b⟩
  rw [hm]
  refine Nw.mk h fun b3 w h=>Ld.xb h rfl (aa.ef (by omega) ?_)
  have h:=h.drew (n:=w.drawn+1)
  refine ⟨bm b3 _ _ _,h.hb,?_⟩
  (with_reducible repeat first|refine au.xb (fun _ h=>h) rfl ?_|refine aa.yes ?_)
  rw [ab (by omega),show ((m+1:Nat):Int) - 1=(m:Int) by omega]
  refine Cw (by omega) ⟨h.hb,aa.dt (by exact_mod_cast h1) ?_⟩
  (with_reducible repeat refine au.xb (fun _ h=>h) rfl ?_)
  refine Cw (m:=m+1) (by omega) ⟨h.hb,?_⟩
  exact dx (decide_eq_true (by exact_mod_cast h2)) (hK _ h.tl)
theorem Fy {v c:Nat} {K:Int×Int×Unit→Bool→Int→World→Prop} (h:Hp E w F) (hv:v≤65536) (hc:c<256)
  (hbad:v=0∧c=128→∀w',Hp E w' F→K (0,0,()) false 51 w')
  (hK: ¬(v=0∧c=128)→∀w',Hp E w' F→K (((128*v+c % 128:Nat):Int),((vm v+1:Nat):Int),()) (decide (c<128)) 0 w'):
  Cl Tryz.prog [.st [.int .i64,.int .i64],kB,kI] mT ⟨[.agg ⟨[.int .i64 (v:Int),.int .i64 (vm v:Int)]⟩,.int .u8 (c:Int)]⟩ w K:=by
 refine BK.ok ((v:Int),(vm v:Int),()) _ _ _ ?_
 (try simp only [af,Nat.zero_add,Nat.add_zero])
 (with_reducible repeat first|refine Nw.mk h fun b w h=> ?_|refine Ld.xt h rfl ?_)
 refine Dv h hv fun w h=> ?_
 rw [show Int.tmod (c:Int) 128=((c % 128:Nat):Int) from rfl,ab (x:=((c % 128:Nat):Int)) (by omega)]
 have hvm:=Ga hv
 have fin: ∀w,¬(v=0∧c=128)→Hp E w F→K (i64 (i64 (128*(v:Int))+((c % 128:Nat):Int)),i64 ((vm v:Int)+1),()) (decide ((c:Int)<128)) 0 w:=fun w hn h=>by
  have:=hK hn w h
  rw [ab (x:=128*(v:Int)) (by omega),ab (x:=(vm v:Int)+1) (by omega),ab (by omega)]
  rw [show ((vm v+1:Nat):Int)=(vm v:Int)+1 from rfl,show ((128*v+c % 128:Nat):Int)=128*(v:Int)+((c % 128:Nat):Int) by omega] at this
  rwa [show decide ((c:Int)<128)=decide (c<128) from decide_eq_decide.2 (by omega)]
 have hle: ¬i64 (i64 (128*(v:Int))+((c % 128:Nat):Int))>2147483647:=by rw [ab (x:=128*(v:Int)) (by omega),ab (by omega)];omega
 with_reducible refine aa.vG ?_
 by_cases h8:c=128
 ·refine aa.et (by omega) (Ld.xb h rfl ?_)
  by_cases h0:v=0
  ·refine aa.et (by omega) ?_
   (with_reducible repeat first|refine Ld.xt h rfl ?_|refine ad.xw h rfl rfl fun w h=> ?_)
   exact hbad ⟨h0,h8⟩ _ h.tl
  ·refine aa.ef (by omega) (Ld.xb h rfl ⟨by decide,aa.df hle ?_⟩)
   (with_reducible repeat first|refine Ld.xb h rfl ?_|refine Ld.xt h rfl ?_|refine ad.xw h rfl rfl fun w h=> ?_|refine aa.no ?_)
   exact fin _ (by omega) h.tl
 ·refine aa.ef (by omega) (Ld.xb h rfl ⟨by decide,aa.df hle ?_⟩)
  (with_reducible repeat first|refine Ld.xb h rfl ?_|refine Ld.xt h rfl ?_|refine ad.xw h rfl rfl fun w h=> ?_|refine aa.no ?_)
  exact fin _ (by omega) h.tl
theorem sE {v c most:Nat} {K:T2→Bool→Bool→World→Prop} (h:Hp E w F) (hv:v≤most) (hm:most≤65536) (hc:c<256)
  (hbad:grow most v c=none→∀o d w',Hp E w' F→K o d false w')
  (hK: ∀n d,grow most v c=some (n,d)→∀k w',(d=false→k=(vm n:Int))→Hp E w' F→K ((n:Int),k,()) d true w'):
  Cl Tryz.prog [.st [.int .i64,.int .i64],kB,kB] fX ⟨[.agg ⟨[.int .i64 (v:Int),.int .i64 (vm v:Int)]⟩,.int .u8 (c:Int),.int .i64 (most:Int)]⟩ w K:=by
 refine zU.ok ((v:Int),(vm v:Int),()) _ _ _ _ ?_
 (try simp only [af,Nat.add_zero])
 (with_reducible repeat first|refine Nw.mk h fun b w h=> ?_|refine Ld.xt h rfl ?_)
 refine Fy h (by omega) hc (fun hb w h=> ?_) (fun hb w h=> ?_)
 ·(with_reducible repeat first|refine Nw.mk h fun b w h=> ?_|refine Ld.xt h rfl ?_|refine ad.xw h rfl rfl fun w h=> ?_|refine aa.yes ?_)
  exact hbad (by unfold grow;rw [if_pos hb]) _ _ _ h.tl
 ·(with_reducible repeat first|refine Nw.mk h fun b w h=> ?_|refine Ld.xb h rfl ?_|refine ad.xw h rfl rfl fun w h=> ?_|refine aa.no ?_)
  by_cases hc1:c<128
  ·rw [decide_eq_true hc1]
   by_cases hle:128*v+c % 128≤most
   ·(with_reducible repeat first|refine Ld.xb h rfl ?_|refine aa.yes ?_|refine aa.no ?_)
    by_cases h0:0<128*v+c % 128
    ·(with_reducible repeat first|refine Ld.xt h rfl ?_|refine ad.xw h rfl rfl fun w h=> ?_|refine aa.no ?_)
     refine hK _ true ?_ _ _ (fun hh=>by cases hh) h.tl
     unfold grow
     rw [if_neg hb,if_pos ⟨hle,fun _=>h0⟩,decide_eq_true hc1]
    ·(with_reducible repeat first|refine Ld.xt h rfl ?_|refine ad.xw h rfl rfl fun w h=> ?_|refine aa.yes ?_)
     refine hbad ?_ _ _ _ h.tl
     unfold grow
     rw [if_neg hb,if_neg (fun hh=>h0 (hh.2 hc1))]
   ·(with_reducible repeat first|refine Ld.xt h rfl ?_|refine ad.xw h rfl rfl fun w h=> ?_|refine aa.yes ?_)
    refine hbad ?_ _ _ _ h.tl
    unfold grow
    rw [if_neg hb,if_neg (fun hh=>hle hh.1)]
  ·rw [decide_eq_false hc1]
   by_cases hle:128*v+c % 128≤most
   ·(with_reducible repeat first|refine Ld.xt h rfl ?_|refine ad.xw h rfl rfl fun w h=> ?_|refine aa.no ?_)
    refine hK _ false ?_ _ _ (fun _=>by rw [Ak (by omega) (by omega) hc hb]) h.tl
    unfold grow
    rw [if_neg hb,if_pos ⟨hle,fun hh=>absurd hh hc1⟩,decide_eq_false hc1]
   ·(with_reducible repeat first|refine Ld.xt h rfl ?_|refine ad.xw h rfl rfl fun w h=> ?_|refine aa.yes ?_)
    refine hbad ?_ _ _ _ h.tl
    unfold grow
    rw [if_neg hb,if_neg (fun hh=>hle hh.1)]
theorem yA {n:Nat} {m:MS} {c:Nat} {K:eM→Bool→World→Prop} (h:Hp E w F) (hn2:n≤65536) (hm:eo n m) (hc:c<256) (hK:AB n m c E F K):
  Cl Tryz.prog [.st [.int .i64,.int .i64,.int .i64,.int .i64,.int .i64,.int .u32,.int .i64],kB] eB ⟨[.int .i64 (n:Int),.agg ⟨[.int .i64 (m.at_:Int),.int .i64 (m.v:Int),.int .i64 (vm m.v:Int),.int .i64 (m.M:Int),.int .i64 (m.P:Int),.int .u32 (m.sum:Int),.int .i64 (m.many:Int)]⟩,.int .u8 (c:Int)]⟩ w K:=by
 obtain ⟨k1,k2,k3,k4⟩:=hK
 obtain ⟨at_,v,M,P,sum,many⟩:=m
 have hm0:=hm
 unfold eo at hm0
 dsimp only at hm0⊢
 refine zn.ok _ ((at_:Int),(v:Int),(vm v:Int),(M:Int),(P:Int),(sum:Int),(many:Int),()) _ _ _ ?_
 (try simp only [af,Nat.zero_add,Nat.add_zero,Nat.reduceAdd])
 refine Nw.mk h fun b5 w h=>Nw.mk h fun b7 w h=>Ld.xb (b:=b5) h rfl ?_
 rcases hm0 with ⟨h1,h2⟩|⟨h1,h2,h3,h4,h5,h6⟩|⟨h1,h2,h3,h4,h5,h6,h7⟩|⟨h1,h2,h3,h4,h5,h6,h7,h8⟩|⟨h1,h2,h3,h4,h5,h6⟩
 ·cases h2
  rw [show vm 0=0 from rfl] at h
  refine aa.et rfl ?_
  by_cases h0:c=0
  ·subst h0
   (with_reducible repeat first|refine Ld.xt h rfl ?_|refine ad.xw h rfl rfl fun w h=> ?_|(refine St.xs h rfl rfl fun w h=> ?_;dsimp only [aM,aq] at h)|refine aa.yes ?_)
   exact k1 ⟨5,0,0,0,0,0⟩ _ rfl (by dsimp only;decide) (by dsimp only;decide) h.tl
  ·(with_reducible repeat first|refine Ld.xt h rfl ?_|refine ad.xw h rfl rfl fun w h=> ?_|(refine St.xs h rfl rfl fun w h=> ?_;dsimp only [aM,aq] at h)|refine aa.no ?_)
   by_cases h1:c=1
   ·subst h1
    exact k1 ⟨1,0,0,0,0,0⟩ _ rfl (by dsimp only;decide) (by dsimp only;decide) h.tl
   ·refine dx (beq_eq_false_iff_ne.2 (by omega)) (k4 242 _ _ ?_ rfl h.tl)
    unfold aG
    simp [h0,h1]
 ·subst h1 h3 h4 h5 h6
  refine aa.ef (by decide) (aa.et rfl (Ld.xt h rfl ?_))
  refine sE h h2 hn2 hc (fun hg o d w h=> ?_) (fun m d hg k w hk h=> ?_)
  ·cases d
   ·(with_reducible repeat first|refine Nw.mk h fun b w h=> ?_|refine Ld.xt h rfl ?_|refine ad.xw h rfl rfl fun w h=> ?_|(refine ad.xs h rfl rfl fun w h=> ?_;dsimp only [aM,aq] at h)|refine aa.no ?_)
    exact k4 242 _ _ (by unfold aG;simp [hg]) rfl h.tl
   ·(with_reducible repeat first|refine Nw.mk h fun b w h=> ?_|refine Ld.xb h rfl ?_|refine Ld.xt h rfl ?_|refine ad.xw h rfl rfl fun w h=> ?_|(refine ad.xs h rfl rfl fun w h=> ?_;dsimp only [aM,aq] at h)|(refine St.xs h rfl rfl fun w h=> ?_;dsimp only [aM,aq] at h)|refine aa.yes ?_)
    exact k4 242 _ _ (by unfold aG;simp [hg]) rfl h.tl
  ·cases d
   ·have:=hk rfl
    subst this
    (with_reducible repeat first|refine Nw.mk h fun b w h=> ?_|refine Ld.xt h rfl ?_|refine ad.xw h rfl rfl fun w h=> ?_|(refine ad.xs h rfl rfl fun w h=> ?_;dsimp only [aM,aq] at h)|refine aa.no ?_)
    exact k1 ⟨1,m,0,0,0,0⟩ _ (by unfold aG;simp [hg]) (by dsimp only;decide) (by dsimp only;decide) h.tl
   ·(with_reducible repeat first|refine Nw.mk h fun b w h=> ?_|refine Ld.xb h rfl ?_|refine Ld.xt h rfl ?_|refine ad.xw h rfl rfl fun w h=> ?_|(refine ad.xs h rfl rfl fun w h=> ?_;dsimp only [aM,aq] at h)|(refine St.xs h rfl rfl fun w h=> ?_;dsimp only [aM,aq] at h)|refine aa.yes ?_)
    exact k1 ⟨2,0,m,0,0,0⟩ _ (by unfold aG;simp [hg]) (by dsimp only;decide) (by dsimp only;decide) h.tl
 ·subst h1 h5 h6 h7
  refine aa.ef (by decide) (aa.ef (by decide) (aa.et rfl (Ld.xt h rfl (Ld.xb (b:=b5) h rfl ?_))))
  refine sE (most:=M) h h4 (by omega) hc (fun hg o d w h=> ?_) (fun m d hg k w hk h=> ?_)
  ·cases d
   ·(with_reducible repeat first|refine Nw.mk h fun b w h=> ?_|refine Ld.xt h rfl ?_|refine ad.xw h rfl rfl fun w h=> ?_|(refine ad.xs h rfl rfl fun w h=> ?_;dsimp only [aM,aq] at h)|refine aa.no ?_)
    exact k4 242 _ _ (by unfold aG;simp [hg]) rfl h.tl
   ·(with_reducible repeat first|refine Nw.mk h fun b w h=> ?_|refine Ld.xb h rfl ?_|refine Ld.xt h rfl ?_|refine ad.xw h rfl rfl fun w h=> ?_|(refine ad.xs h rfl rfl fun w h=> ?_;dsimp only [aM,aq] at h)|(refine St.xs h rfl rfl fun w h=> ?_;dsimp only [aM,aq] at h)|refine aa.yes ?_)
    exact k4 242 _ _ (by unfold aG;simp [hg]) rfl h.tl
  ·cases d
   ·have:=hk rfl
    subst this
    (with_reducible repeat first|refine Nw.mk h fun b w h=> ?_|refine Ld.xt h rfl ?_|refine ad.xw h rfl rfl fun w h=> ?_|(refine ad.xs h rfl rfl fun w h=> ?_;dsimp only [aM,aq] at h)|refine aa.no ?_)
    exact k1 ⟨2,m,M,0,0,0⟩ _ (by unfold aG;simp [hg]) (by dsimp only;decide) (by dsimp only;decide) h.tl
   ·(with_reducible repeat first|refine Nw.mk h fun b w h=> ?_|refine Ld.xb h rfl ?_|refine Ld.xt h rfl ?_|refine ad.xw h rfl rfl fun w h=> ?_|(refine ad.xs h rfl rfl fun w h=> ?_;dsimp only [aM,aq] at h)|(refine St.xs h rfl rfl fun w h=> ?_;dsimp only [aM,aq] at h)|refine aa.yes ?_)
    exact k1 ⟨3,0,M,m,0,0⟩ _ (by unfold aG;simp [hg]) (by dsimp only;decide) (by dsimp only;decide) h.tl
 all_goals
  obtain ⟨ha,h7,hmy,hs⟩:(at_=3∨(at_=5∧M=0∧P=0))∧v=0∧many≤3∧sum<256^many:=by
   first
    |exact ⟨.inl h1,h6,h7,h8⟩
    |exact ⟨.inr ⟨h1,h2,h3⟩,h4,h5,h6⟩
  clear h1 h2 h3 h4 h5 h6
  subst h7
  have hs2:sum<16777216:=by
   have:256^many≤256^3:=Nat.pow_le_pow_right (by decide) hmy
   omega
  refine aa.ef (by omega) (aa.ef (by omega) (aa.ef (by omega) ?_))
  rw [show vm 0=0 from rfl] at h
  (with_reducible repeat first|refine Ld.xb h rfl ?_|(refine St.xs h rfl rfl fun w h=> ?_;dsimp only [aM,aq] at h))
  rw [dv (x:=256*(sum:Int)) (by omega),dv (x:=(c:Int)) (by omega),dv (by omega),ab (x:=(many:Int)+1) (by omega),show 256*(sum:Int)+(c:Int)=((256*sum+c:Nat):Int) by omega] at h
  try rw [ab (x:=(many:Int)+1) (by omega)]
  by_cases hm3:many=3
  ·subst hm3
   (with_reducible repeat first|refine Ld.xb h rfl ?_|refine Ld.xt h rfl ?_|refine ad.xw h rfl rfl fun w h=> ?_|(refine St.xs h rfl rfl fun w h=> ?_;dsimp only [aM,aq] at h)|refine aa.yes ?_)
   rw [ab (by omega)] at h
   rcases ha with rfl|⟨rfl,rfl,rfl⟩
   ·exact k2 M P (256*sum+c) _ (by unfold aG;simp) h.tl
   ·exact k3 (256*sum+c) _ (by unfold aG;simp) h.tl
  ·(with_reducible repeat first|refine Ld.xt h rfl ?_|refine ad.xw h rfl rfl fun w h=> ?_|refine aa.no ?_)
   refine k1 ⟨at_,0,M,P,256*sum+c,many+1⟩ _ ?_ ?_ ?_ h.tl
   ·unfold aG
    rcases ha with rfl|⟨rfl,rfl,rfl⟩<;>simp [hm3]
   ·dsimp only;omega
   ·dsimp only;omega
theorem IU {S:World→Prop} {n:Nat} {st:MS} {c:Nat} {G:Nat→eM→Bool→World→Prop} (h:Hp E w F) (hn2:n≤65536) (hm:eo n st) (hc:c<256) (hS: ∀w,Hp E w F→S w)
  (hG: ∀b (r:eM) ok w,((∃m',aG n st c= .more m'∧m'.at_≠4∧m'.at_≠6∧r=((m'.at_:Int),(m'.v:Int),(vm m'.v:Int),(m'.M:Int),(m'.P:Int),(m'.sum:Int),(m'.many:Int),())∧ok=true)∨(∃M P u:Nat,aG n st c= .fin (.aB M P u)∧r=(4,0,0,(M:Int),(P:Int),(u:Int),4,())∧ok=true)∨
    (∃u:Nat,aG n st c= .fin (.tail u)∧r=(6,0,0,0,0,(u:Int),4,())∧ok=true)∨(aG n st c= .bad 242∧ok=false))→
   Hp E w (ag b (.cells ⟨[.int .i64 r.1,.int .i64 r.2.1,.int .i64 r.2.2.1,.int .i64 r.2.2.2.1,.int .i64 r.2.2.2.2.1,.int .u32 r.2.2.2.2.2.1,.int .i64 r.2.2.2.2.2.2.1]⟩ 102 (0,0))::F)→G b r ok w):
  (Cl Tryz.prog [.st [.int .i64,.int .i64,.int .i64,.int .i64,.int .i64,.int .u32,.int .i64],kB] eB ⟨[.int .i64 (n:Int),.agg ⟨[.int .i64 (st.at_:Int),.int .i64 (st.v:Int),.int .i64 (vm st.v:Int),.int .i64 (st.M:Int),.int .i64 (st.P:Int),.int .u32 (st.sum:Int),.int .i64 (st.many:Int)]⟩,.int .u8 (c:Int)]⟩ w fun (r:eM) ok w2=>
   S w2∧Nw 102 ⟨[.int .i64 0,.int .i64 0,.int .i64 0,.int .i64 0,.int .i64 0,.int .u32 0,.int .i64 0]⟩ w2 fun b w3=>S w3∧
    ad (⟨b,0,none⟩:Addr) [.int .i64 r.1,.int .i64 r.2.1,.int .i64 r.2.2.1,.int .i64 r.2.2.2.1,.int .i64 r.2.2.2.2.1,.int .u32 r.2.2.2.2.2.1,.int .i64 r.2.2.2.2.2.2.1] 0 w3 fun w4=>S w4∧G b r ok w4)∧
  (Nw 102 ⟨[.int .i64 0,.int .i64 0,.int .i64 0,.int .i64 0,.int .i64 0,.int .u32 0,.int .i64 0]⟩ w fun b w2=>S w2∧
   Cl Tryz.prog [.st [.int .i64,.int .i64,.int .i64,.int .i64,.int .i64,.int .u32,.int .i64],kB] eB ⟨[.int .i64 (n:Int),.agg ⟨[.int .i64 (st.at_:Int),.int .i64 (st.v:Int),.int .i64 (vm st.v:Int),.int .i64 (st.M:Int),.int .i64 (st.P:Int),.int .u32 (st.sum:Int),.int .i64 (st.many:Int)]⟩,.int .u8 (c:Int)]⟩ w2 fun (r:eM) ok w3=>S w3∧
    ad (⟨b,0,none⟩:Addr) [.int .i64 r.1,.int .i64 r.2.1,.int .i64 r.2.2.1,.int .i64 r.2.2.2.1,.int .i64 r.2.2.2.2.1,.int .u32 r.2.2.2.2.2.1,.int .i64 r.2.2.2.2.2.2.1] 0 w3 fun w4=>S w4∧G b r ok w4):=by
 have one: ∀(r:eM) (ok:Bool) (w:World),Hp E w F→((∃m',aG n st c= .more m'∧m'.at_≠4∧m'.at_≠6∧r=((m'.at_:Int),(m'.v:Int),(vm m'.v:Int),(m'.M:Int),(m'.P:Int),(m'.sum:Int),(m'.many:Int),())∧ok=true)∨(∃M P u:Nat,aG n st c= .fin (.aB M P u)∧r=(4,0,0,(M:Int),(P:Int),(u:Int),4,())∧ok=true)∨
    (∃u:Nat,aG n st c= .fin (.tail u)∧r=(6,0,0,0,0,(u:Int),4,())∧ok=true)∨(aG n st c= .bad 242∧ok=false))→
   S w∧Nw 102 ⟨[.int .i64 0,.int .i64 0,.int .i64 0,.int .i64 0,.int .i64 0,.int .u32 0,.int .i64 0]⟩ w fun b w3=>S w3∧
    ad (⟨b,0,none⟩:Addr) [.int .i64 r.1,.int .i64 r.2.1,.int .i64 r.2.2.1,.int .i64 r.2.2.2.1,.int .i64 r.2.2.2.2.1,.int .u32 r.2.2.2.2.2.1,.int .i64 r.2.2.2.2.2.2.1] 0 w3 fun w4=>S w4∧G b r ok w4:=by
  intro r ok w h hr
  refine ⟨hS w h,Nw.mk h fun b w h=>⟨hS w h.tl,?_⟩⟩
  with_reducible refine ad.xw h rfl rfl (fun w h=> ?_)
  exact ⟨hS w h.tl,hG b r ok w hr h⟩
 have two: ∀(b:Nat) (r:eM) (ok:Bool) (w:World),Hp E w (ag b (.cells ⟨[.int .i64 0,.int .i64 0,.int .i64 0,.int .i64 0,.int .i64 0,.int .u32 0,.int .i64 0]⟩ 102 (0,0))::F)→((∃m',aG n st c= .more m'∧m'.at_≠4∧m'.at_≠6∧r=((m'.at_:Int),(m'.v:Int),(vm m'.v:Int),(m'.M:Int),(m'.P:Int),(m'.sum:Int),(m'.many:Int),())∧ok=true)∨(∃M P u:Nat,aG n st c= .fin (.aB M P u)∧r=(4,0,0,(M:Int),(P:Int),(u:Int),4,())∧ok=true)∨
    (∃u:Nat,aG n st c= .fin (.tail u)∧r=(6,0,0,0,0,(u:Int),4,())∧ok=true)∨(aG n st c= .bad 242∧ok=false))→
   S w∧ad (⟨b,0,none⟩:Addr) [.int .i64 r.1,.int .i64 r.2.1,.int .i64 r.2.2.1,.int .i64 r.2.2.2.1,.int .i64 r.2.2.2.2.1,.int .u32 r.2.2.2.2.2.1,.int .i64 r.2.2.2.2.2.2.1] 0 w fun w4=>S w4∧G b r ok w4:=by
  intro b r ok w h hr
  refine ⟨hS w h.tl,?_⟩
  with_reducible refine ad.xw h rfl rfl (fun w h=> ?_)
  exact ⟨hS w h.tl,hG b r ok w hr h⟩
 refine ⟨yA h hn2 hm hc ⟨fun m' w h1 h2 h3 h=>one ((m'.at_:Int),(m'.v:Int),(vm m'.v:Int),(m'.M:Int),(m'.P:Int),(m'.sum:Int),(m'.many:Int),()) true w h (.inl ⟨m',h1,h2,h3,rfl,rfl⟩),fun M P u w h1 h=>one (4,0,0,(M:Int),(P:Int),(u:Int),4,()) true w h (.inr (.inl ⟨M,P,u,h1,rfl,rfl⟩)),fun u w h1 h=>one (6,0,0,0,0,(u:Int),4,()) true w h (.inr (.inr (.inl ⟨u,h1,rfl,rfl⟩))),fun e o w h1 h2 h=>one o false w h (.inr (.inr (.inr ⟨h2▸h1,rfl⟩)))⟩,?_⟩
 exact Nw.mk h fun b w h=>⟨hS w h.tl,yA h hn2 hm hc ⟨fun m' w h1 h2 h3 h=>two b ((m'.at_:Int),(m'.v:Int),(vm m'.v:Int),(m'.M:Int),(m'.P:Int),(m'.sum:Int),(m'.many:Int),()) true w h (.inl ⟨m',h1,h2,h3,rfl,rfl⟩),fun M P u w h1 h=>two b (4,0,0,(M:Int),(P:Int),(u:Int),4,()) true w h (.inr (.inl ⟨M,P,u,h1,rfl,rfl⟩)),fun u w h1 h=>two b (6,0,0,0,0,(u:Int),4,()) true w h (.inr (.inr (.inl ⟨u,h1,rfl,rfl⟩))),fun e o w h1 h2 h=>two b o false w h (.inr (.inr (.inr ⟨h2▸h1,rfl⟩)))⟩⟩
theorem oq {S:World→Prop} {s:Sl} {bs:List Nat} {k:Nat} {G:Sl→World→Prop} (h:Hp E w F) (hs:ah F (aQ 1 s (bs.map vB))) (hbig:bs.length≤10000000000) (hcap:s.len≤s.cap) (hk:k<bs.length) (hS: ∀w,Hp E w F→S w)
  (hG: ∀s' w',Hp E w' (OB s' (bs.drop (k+1))::F)→G s' w'):
  bQ s (i64 ((k:Int)+1)) (s.len:Int) (s.cap:Int) 1 fun s2=>Nw 5 ⟨[]⟩ w fun b w2=>S w2∧
   aw Tryz.prog (Builtin.append_ #[26,26] 26 ⟨[.slice (some ⟨b,0,none⟩) 0 0,.slice s2.base s2.len s2.cap]⟩) kS w2 fun (s3:Sl) w3=>S w3∧G s3 w3:=by
 have hlen:bs.length=s.len:=nO (h.ao hs)
 rw [ab (by omega)]
 refine bQ.rd (h.ao hs) (by omega) (by omega) (by omega) (by omega) (by omega) fun s' hs' hl'=> ?_
 have e1:(bs.map vB).drop ((k:Int)+1).toNat=(bs.drop (k+1)).map vB:=by rw [show ((k:Int)+1).toNat=k+1 by omega,List.map_drop]
 rw [e1,List.take_of_length_le (by simp;omega)] at hs'
 have hT:ah F (aQ 1 s' ((bs.drop (k+1)).map vB)):=hs.imp fun w h=>hs' w h
 refine Nw.mk h fun b w h=>⟨hS w h.tl,?_⟩
 have h:=Hp.nX (n:=0) (sz:=1) h rfl
 have h:Hp E w (OB ⟨some ⟨b,0,none⟩,0,0⟩ []::F):=h
 have l2:(bs.drop (k+1)).length≤1000000000000:=by rw [List.length_drop];omega
 have key:=fun (K':Sl→World→Prop)=>Mg (s:=⟨some ⟨b,0,none⟩,0,0⟩) (xs:= []) (ys:=bs.drop (k+1)) (K:=K') h hT (Nat.zero_le _) l2
 exact key _ fun s3 w h=>⟨hS w h.tl,hG s3 w h⟩
theorem ER {n:Nat} {s:Sl} {bs:List Nat} {K:eM→Sl→Int→World→Prop} (h:Hp E w F) (hn:1≤n) (hn2:n≤65536) (hs:ah F (aQ 1 s (bs.map vB))) (hb: ∀y∈bs,y<256) (hbig:bs.length≤10000000000) (hcap:s.len≤s.cap)
  (hshort: ∀s' w',run (aG n) dM bs= .short s'→Hp E w' F→K Lm ⟨none,0,0⟩ 50 w')
  (hbad: ∀w',run (aG n) dM bs= .bad 242→Hp E w' F→K Lm ⟨none,0,0⟩ 242 w')
  (hblk: ∀M P u r s' w',run (aG n) dM bs= .fin (.aB M P u) r→Hp E w' (OB s' r::F)→K (4,0,0,(M:Int),(P:Int),(u:Int),4,()) s' 0 w')
  (htail: ∀u r s' w',run (aG n) dM bs= .fin (.tail u) r→Hp E w' (OB s' r::F)→K (6,0,0,0,0,(u:Int),4,()) s' 0 w'):
  Cl Tryz.prog [.st [.int .i64,.int .i64,.int .i64,.int .i64,.int .i64,.int .u32,.int .i64],kS,kI] iY ⟨[.int .i64 (n:Int),.slice s.base s.len s.cap]⟩ w K:=by
 refine ud.ok _ _ _ _ ?_
 (try simp only [aV,af,Nat.add_zero])
 have hlen:bs.length=s.len:=nO (h.ao hs)
 refine Nw.mk h fun b4 w h=>aa.df (by omega) (aa.df (by omega) (Nw.mk h fun b12 w h=> ?_))
 refine ⟨fun i w'=> ∃(k:Nat) (st:MS),i=(k:Int)∧k≤bs.length∧eo n st∧run (aG n) dM (bs.take k)= .short st∧
  Hp E w' (ag b12 (.cells ⟨[.int .i64 (st.at_:Int),.int .i64 (st.v:Int),.int .i64 (vm st.v:Int),.int .i64 (st.M:Int),.int .i64 (st.P:Int),.int .u32 (st.sum:Int),.int .i64 (st.many:Int)]⟩ 102 (0,0))::ag b4 (.cells ⟨[.int .i64 0,.int .i64 0,.int .i64 0,.int .i64 0,.int .i64 0,.int .u32 0,.int .i64 0]⟩ 102 (0,0))::F),
  fun i _=>bs.length - i.toNat,⟨0,dM,rfl,by omega,.inl ⟨rfl,rfl⟩,rfl,h⟩,?_⟩
 rintro i w ⟨k,st,rfl,hk,hst,hrun,h⟩
 refine aa.dm (fun hlt=> ?_) (fun hge=> ?_)
 ·have hlt:k<bs.length:=by omega
  have hby:bs[k]<256:=hb _ (List.getElem_mem _)
  have h:=h.drew (n:=w.drawn+1)
  refine ⟨fun w=>bm b12 ⟨[.int .i64 (st.at_:Int),.int .i64 (st.v:Int),.int .i64 (vm st.v:Int),.int .i64 (st.M:Int),.int .i64 (st.P:Int),.int .u32 (st.sum:Int),.int .i64 (st.many:Int)]⟩ 102 (0,0) w∧aQ 1 s (bs.map vB) w,⟨h.hb,h.tl.ao hs⟩,au.xt (fun _ h=>h.1) rfl (aT.Gd (h.tl.ao hs) (fun _ h=>h.2) rfl (by simpa using hlt) (bs[k]:Int) (by simp [Sc.enc,vB,hlt]) ?_)⟩
  refine IU h hn2 hst hby (fun w h=>⟨h.hb,(h.tl:Hp E _ F).ao hs⟩) fun b r ok w hr h=> ?_
  rcases hr with ⟨m',he,h4,h6,rfl,rfl⟩|⟨M,P,u,he,rfl,rfl⟩|⟨u,he,rfl,rfl⟩|⟨he,rfl⟩
  ·dsimp only at h⊢
   (with_reducible repeat first|refine Ld.xb h rfl ?_|refine Ld.xt h rfl ?_|refine ad.xw h rfl rfl fun w h=> ?_|refine aa.no ?_)
   rw [ab (by omega)]
   refine ⟨⟨k+1,m',rfl,by omega,mz hst hby he,?_,h.no 0⟩,by first|omega|(dsimp only;omega)⟩
   rw [List.take_add_one,List.getElem?_eq_getElem hlt]
   show run (aG n) dM (bs.take k++ [bs[k]])=_
   rw [mY hrun,sN he];rfl
  ·(with_reducible repeat first|refine Ld.xb h rfl ?_|refine Ld.xt h rfl ?_|refine ad.xw h rfl rfl fun w h=> ?_|refine aa.no ?_|refine aa.yes ?_)
   have h:=h.drew (n:=w.drawn+1)
   refine ⟨bm b12 _ _ _,h.hb,au.xt (fun _ h=>h) rfl (oq h (ah.cons (ah.cons (ah.cons hs))) hbig hcap hlt (fun w h=>h.hb) fun s' w h=> ?_)⟩
   (with_reducible repeat first|refine Ld.xt h rfl ?_|refine ⟨h.hb,?_⟩|refine ad.xw h rfl rfl fun w h=> ?_)
   refine hblk M P u (bs.drop (k+1)) s' w ?_ h.cx
   rw [rV hrun,List.drop_eq_getElem_cons hlt,ua he]
  ·(with_reducible repeat first|refine Ld.xb h rfl ?_|refine Ld.xt h rfl ?_|refine ad.xw h rfl rfl fun w h=> ?_|refine aa.no ?_|refine aa.yes ?_)
   have h:=h.drew (n:=w.drawn+1)
   refine ⟨bm b12 _ _ _,h.hb,au.xt (fun _ h=>h) rfl (oq h (ah.cons (ah.cons (ah.cons hs))) hbig hcap hlt (fun w h=>h.hb) fun s' w h=> ?_)⟩
   (with_reducible repeat first|refine Ld.xt h rfl ?_|refine ⟨h.hb,?_⟩|refine ad.xw h rfl rfl fun w h=> ?_)
   refine htail u (bs.drop (k+1)) s' w ?_ h.cx
   rw [rV hrun,List.drop_eq_getElem_cons hlt,ua he]
  ·(with_reducible repeat first|refine Ld.xt h rfl ?_|refine ad.xw h rfl rfl fun w h=> ?_|refine aa.yes ?_)
   refine hbad w ?_ h.tl
   rw [rV hrun,List.drop_eq_getElem_cons hlt,Ab he]
 ·have hk2:k=bs.length:=by omega
  subst hk2
  rw [List.take_of_length_le (Nat.le_refl _)] at hrun
  (with_reducible repeat first|refine Ld.xt h rfl ?_|refine ad.xw h rfl rfl fun w h=> ?_)
  exact hshort st w hrun h.tl
end
end Go.Proofs.YtgglghjnakclmaaGreat
namespace Go.Proofs.YtgglghjnakclmaaGreat
open Go Go.Vc
set_option maxRecDepth 100000
theorem zk.ok (a:(Array Value)) (R:(Array Value)→Int→World→Prop) w (h:
 Nw 104 a w fun c b=>
 Nw 237 ⟨List.replicate 258 (.int .u32 0)⟩ b fun e d=>
 Nw 237 ⟨List.replicate 258 (.int .u32 0)⟩ d fun g f=>
 Ld (.arr 258) ⟨c,0,none⟩ f fun h=>
 Cl Pg [kB] iI ⟨[(.agg h)]⟩ f fun (j:Bool) i=>
 aa (!j)
 (Ld (.arr 258) ⟨g,0,none⟩ i fun k=>
 aj 258 ⟨e,0,none⟩ k i fun l=>
 Ld (.arr 258) ⟨e,0,none⟩ l fun m=>
 R m 2 l)
 (Ld (.arr 258) ⟨c,0,none⟩ i fun n=>
 Cl Pg [kS] lK ⟨[(.agg n)]⟩ i fun (p:Sl) o=>
 fx 1 o fun q r (s:Int) t=>
 aa (decide (s<(p.len:Int)))
 (aT p (i64 (s - 1)) 1 fun u=>
 Ld kI u t fun (v:Int)=>
 aF ⟨g,0,none⟩ 258 v 1 fun x=>
 Ld (ak .u32) x t fun (y:Int)=>
 aT p (i64 (s - 1)) 1 fun z=>
 Ld kI z t fun (a1:Int)=>
 aF ⟨c,0,none⟩ 258 a1 1 fun b1=>
 Ld (ak .u8) b1 t fun (c1:Int)=>
 ec (u32 (y+1)) c1 t fun d1 e1 (f1:Int) (g1:Int) h1=>
 aT p s 1 fun i1=>
 Ld kI i1 h1 fun (j1:Int)=>
 aF ⟨c,0,none⟩ 258 j1 1 fun k1=>
 Ld (ak .u8) k1 h1 fun (l1:Int)=>
 aa (decide (g1<l1))
 (d1 (u32 ((2:Int)*f1)) (u8 (g1+1)) h1∧e1 (u32 ((2:Int)*f1)) (u8 (g1+1)) h1<e1 f1 g1 h1)
 (aT p s 1 fun m1=>
 Ld kI m1 h1 fun (n1:Int)=>
 aF ⟨g,0,none⟩ 258 n1 1 fun o1=>
 St o1 (.int .u32 f1) h1 fun p1=>
 q (i64 (s+1)) p1∧r (i64 (s+1)) p1<r s t))
 (Ld (.arr 258) ⟨g,0,none⟩ t fun q1=>
 aj 258 ⟨e,0,none⟩ q1 t fun r1=>
 Ld (.arr 258) ⟨e,0,none⟩ r1 fun s1=>
 R s1 0 r1))):Cl Pg [(.arr 258),kI] lF ⟨[(.agg a)]⟩ w R:=co Tryz.f159 [(14,[(6,kI)]),(24,[(7,(ak .u32)),(8,(ak .u8))])] h
theorem za.ok (a:(Array Value)) (R:Bool→World→Prop) w (h:
 Nw 104 a w fun c b=>
 Ld (.arr 258) ⟨c,0,none⟩ b fun d=>
 Cl Pg [kI] ny ⟨[(.agg d)]⟩ b fun (f:Int) e=>
 R (decide (f≤32768)) e):Cl Pg [kB] iI ⟨[(.agg a)]⟩ w R:=co Tryz.f220 [] h
theorem yR.ok (a:(Array Value)) (R:Sl→World→Prop) w (h:
 Nw 104 a w fun c b=>
 ec (⟨none,0,0⟩:Sl) 1 b fun d e (f:Sl) (g:Int) h=>
 aa (decide (g≤15))
 (Ld (.arr 258) ⟨c,0,none⟩ h fun i=>
 Cl Pg [kB] iI ⟨[(.agg i)]⟩ h fun (k:Bool) j=>
 aa k
 (ec f 0 j fun l m (n:Sl) (o:Int) p=>
 aa (decide (o<258))
 (aF ⟨c,0,none⟩ 258 o 1 fun q=>
 Ld (ak .u8) q p fun (r:Int)=>
 aa ((i64 r)==g)
 (Nw 3 ⟨[(ni o)]⟩ p fun t s=>
 aw Pg (Builtin.append_ #[142,142] 142 ⟨[(ar n),(ar (⟨some ⟨t,0,none⟩,1,1⟩:Sl))]⟩) kS s fun (v:Sl) u=>
 l v (i64 (o+1)) u∧m v (i64 (o+1)) u<m n o p)
 (l n (i64 (o+1)) p∧m n (i64 (o+1)) p<m n o p))
 (d n (i64 (g+1)) p∧e n (i64 (g+1)) p<e f g h))
 (R f j))
 (R f h)):Cl Pg [kS] lK ⟨[(.agg a)]⟩ w R:=co Tryz.f221 [(7,[(3,kS),(4,kI)]),(14,[(3,kS),(5,kI)])] h
end Go.Proofs.YtgglghjnakclmaaGreat
namespace Go.Proofs.YtgglghjnakclmaaGreat
open Go Go.Vc Go.Srt
section
variable {E w:World} {F:List HP}
set_option maxRecDepth 20000 in
theorem JV {l:List Nat} {K:Int→World→Prop} (h:Hp E w F) (hl:l.length=258) (hK: ∀(r:Nat) w',(r≤32768↔a7 l≤32768)→(a7 l≤32768→r=a7 l)→Hp E w' F→K (r:Int) w'):
  Cl Tryz.prog [kI] ny ⟨[.agg (ai .u8 l)]⟩ w K:=by
 refine CL.ok _ _ _ ?_
 refine Nw.mk h fun b w1 h1=> ?_
 have hb:=qX l
 refine ⟨fun sm i w'=> ∃k:Nat,i=(k:Int)∧k≤258∧sm=(a7 (l.take k):Int)∧Hp E w' (ag b (.cells (ai .u8 l) 104 (0,0))::F),fun _ i _=>258 - i.toNat,⟨0,rfl,by omega,by simp [a7],h1⟩,?_⟩
 intro sm i w' hI
 obtain ⟨k,hi,hk,hs,hh⟩:=hI
 subst hi;subst hs
 refine aa.mk (fun hlt=> ?_) (fun hge=> ?_)
 ·have hlt:k<258:=by have:=of_decide_eq_true hlt;omega
  have hkl:k<l.length:=by omega
  have hx:(ai .u8 l)[((k:Int)).toNat]? =some (Sc.enc (.int .u8) (l[k]:Int)):=by rw [Int.toNat_natCast];exact nQ hkl
  have e:=lf hkl
  have ht:=m9 (l:=l) (k:=k+1)
  refine aF.rd (s:= .int .u8) hh (by omega) (by omega) (l[k]:Int) hx (aa.mk (fun h15=> ?_) (fun h15=> ?_))
  ·have h15:=of_decide_eq_true h15
   have hw:wt l[k]=32769:=by unfold wt;rw [if_neg (by omega),if_pos (by omega)]
   exact hK 32769 w' (by omega) (by omega) hh.drop
  ·have h15:l[k]≤15:=by have:=of_decide_eq_false h15;omega
   refine aF.rd (s:= .int .u8) hh (by omega) (by omega) (l[k]:Int) hx (aa.mk (fun hp=> ?_) (fun hp=> ?_))
   ·have hp:0<l[k]:=by have:=of_decide_eq_true hp;omega
    have hw:wt l[k]=2^(15 - l[k]):=by unfold wt;rw [if_neg (by omega),if_neg (by omega)]
    have hp15:2^(15 - l[k])≤2^15:=Nat.pow_le_pow_right (by decide) (by omega)
    refine aF.rd (s:= .int .u8) hh (by omega) (by omega) (l[k]:Int) hx ?_
    have e1:u64 (i64 (15 - i64 (l[k]:Int)))=((15 - l[k]:Nat):Int):=by
     rw [ab (x:=(l[k]:Int)) (by omega),ab (by omega),gO (by omega)];omega
    have hmx:IntKind.max .i64=9223372036854775807:=rfl
    have e2:=dg (k:= .i64) (a:=1) (b:=15 - l[k]) (by have:IntKind.bits .i64=64:=rfl;omega) (by rw [hmx];omega)
    rw [e1]
    rw [show (1:Int)=((1:Nat):Int) from rfl,e2,Nat.one_mul]
    refine ⟨by omega,?_⟩
    rw [hw] at e
    rw [ab (x:=(a7 (l.take k):Int)+((2^(15 - l[k]):Nat):Int)) (by omega),ab (by omega)]
    exact ⟨⟨k+1,rfl,by omega,by rw [e];rfl,hh⟩,by dsimp only;omega⟩
   ·have hp:l[k]=0:=by have:=of_decide_eq_false hp;omega
    have hw:wt l[k]=0:=by unfold wt;rw [if_pos hp]
    rw [ab (by omega)]
    exact ⟨⟨k+1,rfl,by omega,by rw [e,hw];rfl,hh⟩,by dsimp only;omega⟩
 ·have hge:k=258:=by have:=of_decide_eq_false hge;omega
  subst hge
  rw [←hl,List.take_length]
  exact hK _ _ Iff.rfl (fun _=>rfl) hh.drop
end
end Go.Proofs.YtgglghjnakclmaaGreat
namespace Go.Srt
def iR (l:List Nat) (N:Nat):List Nat:=(List.range N).flatMap fun n=>(List.range 258).filter fun s=>l.getD s 0==n+1
theorem wF {l:List Nat} {N s:Nat}:s∈iR l N↔s<258∧0<l.getD s 0∧l.getD s 0≤N:=by
 unfold iR
 simp only [List.mem_flatMap,List.mem_range,List.mem_filter,beq_iff_eq]
 constructor
 ·rintro ⟨n,h1,h2,h3⟩;omega
 ·rintro ⟨h1,h2,h3⟩;exact ⟨l.getD s 0 - 1,by omega,h1,by omega⟩
theorem nF (l:List Nat) (N:Nat):(iR l N).Pairwise fun a b=>l.getD a 0<l.getD b 0∨(l.getD a 0=l.getD b 0∧a<b):=by
 unfold iR
 rw [List.pairwise_flatMap]
 refine ⟨fun n _=> ?_,?_⟩
 ·have h:(List.range 258).Pairwise fun a b=>a<b:=List.pairwise_lt_range
  refine List.Pairwise.imp_of_mem ?_ (h.filter _)
  intro a b ha hb hab
  have ha:=(List.mem_filter.1 ha).2
  have hb:=(List.mem_filter.1 hb).2
  rw [beq_iff_eq] at ha hb
  omega
 ·refine List.pairwise_lt_range.imp ?_
  intro m n hmn a ha b hb
  have ha:=(List.mem_filter.1 ha).2
  have hb:=(List.mem_filter.1 hb).2
  rw [beq_iff_eq] at ha hb
  omega
theorem EN {l:List Nat} (hl:l.length=258) (hv:a7 l≤32768):eg l (iR l 15):=by
 refine ⟨?_,nF l 15⟩
 have n1:(iR l 15).Nodup:=(nF l 15).imp fun h=>by rintro rfl;omega
 have n2:(used l).Nodup:=(List.nodup_range).filter _
 rw [List.perm_ext_iff_of_nodup n1 n2]
 intro s
 rw [wF,iQ,hl]
 have:=kH hv s
 omega
theorem Dj (l:List Nat) (N:Nat):iR l (N+1)=iR l N++(List.range 258).filter fun s=>l.getD s 0==N+1:=by
 unfold iR
 rw [List.range_succ (n:=N),List.flatMap_append]
 simp
end Go.Srt
namespace Go.Proofs.YtgglghjnakclmaaGreat
open Go Go.Vc Go.Srt Go.aE
section
variable {E w:World} {F:List HP}
theorem vv {l:List Nat} {K:Bool→World→Prop} (h:Hp E w F) (hl:l.length=258) (hK: ∀w',Hp E w' F→K (decide (a7 l≤32768)) w'):Cl Tryz.prog [kB] iI ⟨[.agg (ai .u8 l)]⟩ w K:=by
 refine za.ok _ _ _ ?_
 refine Nw.mk h fun b w1 h1=>Ld.arr h1 (by rw [cj,hl]) (JV h1 hl fun r w2 hr _ h2=> ?_)
 have:decide ((r:Int)≤32768)=decide (a7 l≤32768):=by rw [Bool.eq_iff_iff,decide_eq_true_eq,decide_eq_true_eq];omega
 rw [this]
 exact hK _ h2.drop
set_option maxRecDepth 20000 in
theorem CQ {l:List Nat} {K:Sl→World→Prop} (h:Hp E w F) (hl:l.length=258) (h8: ∀x∈l,x≤255) (hv:a7 l≤32768) (hK: ∀ys s w',eg l ys→Hp E w' (aC 1 s ((ints ys).map vI)::F)→K s w'):Cl Tryz.prog [kS] lK ⟨[.agg (ai .u8 l)]⟩ w K:=by
 refine yR.ok _ _ _ ?_
 have hlen: ∀N,(iR l N).length≤258:=fun N=>by
  have h1:(iR l N).Nodup:=(nF l N).imp fun h=>by rintro rfl;omega
  have h2:iR l N⊆List.range 258:=fun s hs=>by have:=(wF.1 hs).1;simpa using this
  have:=h1.length_le_of_subset h2
  simpa using this
 refine Nw.mk h fun b w1 h1=> ?_
 refine ⟨fun o n w'=> ∃N:Nat,n=(N:Int)+1∧N≤15∧Hp E w' (aC 1 o ((ints (iR l N)).map vI)::ag b (.cells (ai .u8 l) 104 (0,0))::F),fun _ n _=>20 - n.toNat,⟨0,rfl,by omega,h1.bf 1⟩,?_⟩
 rintro o n w' ⟨N,rfl,hN,hh⟩
 refine aa.mk (fun hlt=> ?_) (fun hge=> ?_)
 ·have hlt:N<15:=by have:=of_decide_eq_true hlt;omega
  refine Ld.arr hh.p1 (by rw [cj,hl]) (vv hh hl fun w2 h2=>aa.t (decide_eq_true hv) ?_)
  refine ⟨fun o s w'=> ∃k:Nat,s=(k:Int)∧k≤258∧Hp E w' (aC 1 o ((ints (iR l N++(List.range k).filter fun s=>l.getD s 0==N+1)).map vI)::ag b (.cells (ai .u8 l) 104 (0,0))::F),fun _ s _=>258 - s.toNat,⟨0,rfl,by omega,by simpa using h2⟩,?_⟩
  rintro o2 s w3 ⟨k,rfl,hk,h3⟩
  refine aa.mk (fun hlt2=> ?_) (fun hge2=> ?_)
  ·have hlt2:k<258:=by have:=of_decide_eq_true hlt2;omega
   have hg:l.getD k 0≤255:=by rw [cK (by omega)];exact h8 _ (List.getElem_mem _)
   have hrs:(List.range (k+1)).filter (fun s=>l.getD s 0==N+1)=(List.range k).filter (fun s=>l.getD s 0==N+1)++if l.getD k 0=N+1 then [k] else []:=by
    rw [List.range_succ,List.filter_append]
    congr 1
    by_cases e:l.getD k 0=N+1
    ·rw [if_pos e,List.filter_cons_of_pos (by rw [beq_iff_eq];exact e)];rfl
    ·rw [if_neg e,List.filter_cons_of_neg (by rw [beq_iff_eq];exact e)];rfl
   refine aF.rd (s:= .int .u8) h3.p1 (by omega) (by omega) (l.getD k 0:Int) (qn (by omega)) ?_
   rw [ab (x:=(l.getD k 0:Int)) (by omega),ab (x:=(k:Int)+1) (by omega)]
   refine aa.mk (fun heq=> ?_) (fun hne=> ?_)
   ·have heq:l.getD k 0=N+1:=by rw [beq_iff_eq] at heq;omega
    rw [if_pos heq] at hrs
    have hol:=h3.cR
    have hl1:=hlen N
    have hl2:=List.length_filter_le (fun s=>l.getD s 0==N+1) (List.range k)
    rw [List.length_range] at hl2
    rw [List.length_map,ints,List.length_map,List.length_append,Nat.mul_one] at hol
    refine Nw.mk h3 fun b20 w4 h4=>bZ (ys:= [vI (k:Int)]) (n:=1) qV (by decide) (.inl ⟨3,by kernel_rfl⟩) h4.p1 (.inl ⟨some ⟨b20,0,none⟩,1,1,rfl,rfl,h4.ao (ah.aB rfl rfl)⟩) rfl A6 (by omega) (by omega) fun s' w5 h5 hs'=>⟨⟨k+1,rfl,by omega,?_⟩,by dsimp only;omega⟩
    rw [hrs,←List.append_assoc,E8,List.map_append]
    exact h5.p1.drop
   ·have hne:l.getD k 0≠N+1:=by have:=beq_eq_false_iff_ne.1 hne;omega
    rw [if_neg hne,List.append_nil] at hrs
    exact ⟨⟨k+1,rfl,by omega,by rw [hrs];exact h3⟩,by dsimp only;omega⟩
  ·have hge2:k=258:=by have:=of_decide_eq_false hge2;omega
   subst hge2
   rw [ab (by omega)]
   rw [←Dj] at h3
   exact ⟨⟨N+1,by omega,by omega,h3⟩,by dsimp only;omega⟩
 ·have hge:N=15:=by have:=of_decide_eq_false hge;omega
  subst hge
  exact hK _ _ _ (EN hl hv) hh.p1.drop
set_option maxRecDepth 20000 in
theorem CM {l:List Nat} {K:Array Value→Int→World→Prop} (h:Hp E w F) (hl:l.length=258) (h8: ∀x∈l,x≤255) (hK1: ¬a7 l≤32768→∀w',Hp E w' F→K (ai .u32 (List.replicate 258 0)) 2 w')
  (hK2:a7 l≤32768→∀ys w',eg l ys→Hp E w' F→K (ai .u32 (bA l ys ys.length)) 0 w'):Cl Tryz.prog [.arr 258,kI] lF ⟨[.agg (ai .u8 l)]⟩ w K:=by
 refine zk.ok _ _ _ ?_
 rw [HN]
 have hz:(ai .u32 (List.replicate 258 0)).size=258:=by rw [cj];exact List.length_replicate
 refine Nw.mk h fun b3 w1 h1=>Nw.mk h1 fun b5 w2 h2=>Nw.mk h2 fun b7 w3 h3=>Ld.arr h3.p2 (by rw [cj,hl]) (vv h3 hl fun w4 h4=>aa.mk (fun hv=> ?_) (fun hv=> ?_))
 ·have hv: ¬a7 l≤32768:=by simpa using hv
  exact Ld.arr h4 hz (aj.aB h4.p1 hz hz lh fun w5 h5=>Ld.arr h5 hz (hK1 hv w5 h5.drop.drop.drop))
 have hv:a7 l≤32768:=by simpa using hv
 refine Ld.arr h4.p2 (by rw [cj,hl]) (CQ h4 hl h8 hv fun ys so w5 hys h5=> ?_)
 have hpl:=h5.cR
 simp only [ints,List.length_map,Nat.mul_one] at hpl
 have hylen:=Ig hl hys
 have sized: ∀i,(ai .u32 (bA l ys i)).size=258:=fun i=>by rw [cj,gf]
 have hc1:0<ys.length→bA l ys 1=List.replicate 258 0:=fun h0=>by
  rw [bA,bA]
  have:dA l ys 0=0:=by unfold dA Srt.start;simp
  rw [this,List.set_replicate_self]
 have fin: ∀w' k,k=ys.length→Hp E w' (aC 1 so ((ints ys).map vI)::ag b7 (.cells (ai .u32 (bA l ys k)) 237 (0,0))::ag b5 (.cells (ai .u32 (List.replicate 258 0)) 237 (0,0))::ag b3 (.cells (ai .u8 l) 104 (0,0))::F)→
   Ld (.arr 258) (⟨b7,0,none⟩:Addr) w' fun (x42:(Array Value))=>aj 258 (⟨b5,0,none⟩:Addr) x42 w' fun (w_43:World)=>Ld (.arr 258) (⟨b5,0,none⟩:Addr) w_43 fun (res44:(Array Value))=>K res44 0 w_43:=by
  rintro w' k rfl h'
  exact Ld.arr h'.p1 (sized _) (aj.aB h'.p2 hz (sized _) lh fun w6 h6=>Ld.arr h6 (sized _) (hK2 hv ys w6 hys h6.drop.drop.drop.drop))
 refine ⟨fun i w'=> ∃k:Nat,i=(k:Int)∧1≤k∧(k≤ys.length∨(ys.length=0∧k=1))∧Hp E w' (aC 1 so ((ints ys).map vI)::ag b7 (.cells (ai .u32 (bA l ys (if ys.length=0 then 0 else k))) 237 (0,0))::ag b5 (.cells (ai .u32 (List.replicate 258 0)) 237 (0,0))::ag b3 (.cells (ai .u8 l) 104 (0,0))::F),
  fun i _=>ys.length+1 - i.toNat,⟨1,rfl,by omega,by omega,?_⟩,?_⟩
 ·by_cases e:ys.length=0
  ·rw [if_pos e];exact h5
  ·rw [if_neg e,hc1 (by omega)];exact h5
 rintro i w6 ⟨k,rfl,hk1,hk,hh⟩
 refine aa.mk (fun hlt=> ?_) (fun hge=>fin w6 (if ys.length=0 then 0 else k) ?_ hh)
 ·have hlt:k<ys.length:=by have:=of_decide_eq_true hlt;omega
  rw [if_neg (by omega)] at hh
  obtain ⟨j,rfl⟩: ∃j,k=j+1:=⟨k - 1,by omega⟩
  have hj:j<ys.length:=by omega
  have hin0:=xC hl hys _ (List.getElem_mem hj)
  have hin1:=xC hl hys _ (List.getElem_mem hlt)
  have h15a:=kH hv ys[j]
  have h15b:=kH hv ys[j+1]
  have hmono:=Aj hys hlt (show j≤j+1 by omega)
  rw [ab (x:=((j+1:Nat):Int) - 1) (by omega),show ((j+1:Nat):Int) - 1=(j:Int) by omega]
  have rdo: ∀{w':World} {F':List HP} {m:Nat} {K:Int→Prop} (hm:m<ys.length),Hp E w' (aC 1 so ((ints ys).map vI)::F')→K (ys[m]:Int)→aT so (m:Int) 1 fun q=>Ld kI q w' K:=fun {w' F' m K} hm h' hK=>by
   refine aT.rd (h'.ao ah.own) (by omega) (by omega) fun q hq hc=>Ld.sc (s:= .int .i64) (ys[m]:Int) (by rw [hc];simp [ints,vI,Sc.enc]) hK
  have hca:=o6 hys (fun s hs=>(xC hl hys s hs).1) (j+1) (by omega) j hj (by omega)
  have hcl:=uX hv hys hj
  have hp:2^l.getD ys[j] 0≤2^15:=Nat.pow_le_pow_right (by decide) h15a
  have hp2:(2:Nat)^15=32768:=by decide
  refine rdo hj hh (aF.rd (s:= .int .u32) hh.p1 (by omega) (by omega) ((bA l ys (j+1)).getD ys[j] 0:Int) (qn (by rw [gf];omega)) ?_)
  refine rdo hj hh (aF.rd (s:= .int .u8) hh.p3 (by omega) (by omega) (l.getD ys[j] 0:Int) (qn (by omega)) ?_)
  rw [hca,dv (by omega)]
  have hnew:(dA l ys j+1)*2^(l.getD ys[j+1] 0 - l.getD ys[j] 0)=dA l ys (j+1):=by
   have e1:=lN hys hj
   have e2:=lN hys hlt
   have e3:=pw (l:=l) hj
   refine Nat.eq_of_mul_eq_mul_right (xR l ys[j+1]) ?_
   rw [e2,e3,←e1,Nat.mul_assoc]
   have:2^(l.getD ys[j+1] 0 - l.getD ys[j] 0)*sh l ys[j+1]=sh l ys[j]:=by
    unfold sh;rw [←Nat.pow_add];congr 1;omega
   rw [this,Nat.succ_mul]
  have hcl1:=uX hv hys hlt
  have hp1:2^l.getD ys[j+1] 0≤2^15:=Nat.pow_le_pow_right (by decide) h15b
  refine ⟨fun c kk w'=> ∃n:Nat,kk=((l.getD ys[j] 0+n:Nat):Int)∧l.getD ys[j] 0+n≤l.getD ys[j+1] 0∧c=(((dA l ys j+1)*2^n:Nat):Int)∧Hp E w' (aC 1 so ((ints ys).map vI)::ag b7 (.cells (ai .u32 (bA l ys (j+1))) 237 (0,0))::ag b5 (.cells (ai .u32 (List.replicate 258 0)) 237 (0,0))::ag b3 (.cells (ai .u8 l) 104 (0,0))::F),
   fun _ kk _=>16 - kk.toNat,⟨0,by omega,by omega,by simp,hh⟩,?_⟩
  rintro c kk w7 ⟨n,rfl,hn,rfl,h7⟩
  refine rdo hlt h7 (aF.rd (s:= .int .u8) h7.p3 (by omega) (by omega) (l.getD ys[j+1] 0:Int) (qn (by omega)) (aa.mk (fun hl2=> ?_) (fun hg2=> ?_)))
  ·have hl2:=of_decide_eq_true hl2
   have hle:(dA l ys j+1)*2^(n+1)≤dA l ys (j+1):=by
    rw [←hnew];exact Nat.mul_le_mul_left _ (Nat.pow_le_pow_right (by decide) (by omega))
   have hpw:(dA l ys j+1)*2^(n+1)=2*((dA l ys j+1)*2^n):=by rw [Nat.pow_succ,←Nat.mul_assoc,Nat.mul_comm]
   rw [dv (by omega),j4 (by omega)]
   exact ⟨⟨n+1,by omega,by omega,by rw [hpw];omega,h7⟩,by dsimp only;omega⟩
  ·have hg2:=of_decide_eq_false hg2
   have hne:l.getD ys[j+1] 0 - l.getD ys[j] 0=n:=by omega
   rw [hne] at hnew
   rw [hnew]
   refine rdo hlt h7 (aF.wr h7.p1 (by omega) (by omega) (sized _) rfl fun w8 h8=> ?_)
   rw [Int.toNat_natCast,Jb] at h8
   rw [ab (by omega)]
   refine ⟨⟨j+1+1,by omega,by omega,by omega,?_⟩,by dsimp only;omega⟩
   rw [if_neg (by omega)]
   have:bA l ys (j+1+1)=(bA l ys (j+1)).set ys[j+1] (dA l ys (j+1)):=by rw [bA,uA hlt]
   rw [this]
   exact h8.p1
 ·have:=of_decide_eq_false hge
  by_cases e:ys.length=0
  ·rw [if_pos e];omega
  ·rw [if_neg e];omega
end
end Go.Proofs.YtgglghjnakclmaaGreat
namespace Go.ag
open Go.Inc Go.Srt Go.Sym Go.aE
def iK (l:List Nat):Nat→Nat→List Nat→Option (Nat×Nat)
 |_,_,[]=>none
 |c,n,x::r=>match cU l (2*c+x) (n+1) with
  |some y=>some (y,n+1)
  |none=>iK l (2*c+x) (n+1) r
theorem qy {l:List Nat} {c n x:Nat} {r:List Nat} (h:cU l (2*c+x) (n+1)=none):iK l c n (x::r)=iK l (2*c+x) (n+1) r:=by rw [iK,h]
theorem qI {l:List Nat} {c n x y:Nat} {r:List Nat} (h:cU l (2*c+x) (n+1)=some y):iK l c n (x::r)=some (y,n+1):=by rw [iK,h]
end Go.ag
namespace Go.Proofs.YtgglghjnakclmaaGreat
open Go Go.Vc Go.Srt Go.Inc Go.Sym Go.Tab Go.Hd Go.Bw Go.aE Go.ag Go.Crc
section
variable {E w:World} {F:List HP}
theorem Gw {l ys bs:List Nat} {s:Sl} {k:Nat} {K:Int→Int→Bool→World→Prop} (h:Hp E w F) (hl:l.length=258) (hok:bH l=true) (hys:eg l ys) (hs:ah F (aQ 1 s ((ints bs).map vI))) (hb: ∀x∈bs,x≤1) (hbig:bs.length≤1000000000) (hk:k≤bs.length)
  (hno:iK l 0 0 (bs.drop k)=none→∀w',Hp E w' F→K 0 0 false w')
  (hyes: ∀y n:Nat,iK l 0 0 (bs.drop k)=some (y,n)→∀w',Hp E w' F→K (y:Int) (n:Int) true w'):
  Cl Tryz.prog [kI,kI,kB] mo ⟨[.agg (ai .u8 l),.agg (ai .u32 (bA l ys ys.length)),.slice s.base s.len s.cap,.int .i64 (k:Int)]⟩ w K:=by
 refine Bc.ok _ _ _ _ _ _ ?_
 have hlen:bs.length=s.len:=qv (h.ao hs)
 have hv:a7 l≤32768:=by rw [(mb.1 hok).1];decide
 refine Nw.mk h fun b6 w h=>Nw.mk h fun b8 w h=> ?_
 refine ⟨fun v n w'=> ∃c m:Nat,v=(c:Int)∧n=((m+1:Nat):Int)∧k+m≤bs.length∧jW l c m∧iK l 0 0 (bs.drop k)=iK l c m (bs.drop (k+m))∧
  Hp E w' (ag b8 (.cells (ai .u32 (bA l ys ys.length)) 237 (0,0))::ag b6 (.cells (ai .u8 l) 104 (0,0))::F),fun _ n _=>100 - n.toNat,⟨0,0,rfl,rfl,by omega,jW.zero hok,rfl,h⟩,?_⟩
 rintro v n w ⟨c,m,rfl,rfl,hkm,hvs,htl,h⟩
 have hm15:=hvs.2.1
 have hc2:c<16384:=by
  have:=hvs.2.2.1
  have:2^m≤2^14:=Nat.pow_le_pow_right (by decide) (by omega)
  omega
 rw [aV]
 dsimp only
 rw [ab (x:=(k:Int)+((m+1:Nat):Int)) (by omega)]
 refine aa.dt (by omega) (aa.dm (fun hlt=> ?_) (fun hge=> ?_))
 ·have hlt:k+m<bs.length:=by omega
  have hx:=hb _ (List.getElem_mem hlt)
  rw [ab (by omega)]
  refine aT.rI (j:=k+m) ((h.tl:Hp E _ F).ao hs) (by omega) hlt ?_
  rw [List.drop_eq_getElem_cons hlt] at htl
  generalize hxe:bs[k+m]=x at hx htl⊢
  rw [dv (x:=2*(c:Int)) (by omega),dv (x:=(x:Int)) (by omega),dv (by omega),show 2*(c:Int)+(x:Int)=((2*c+x:Nat):Int) by omega,ab (x:=((m+1:Nat):Int)+1) (by omega)]
  refine ⟨fun s w'=> ∃q:Nat,s=(q:Int)∧q≤258∧(∀t,t<q→¬(na l t∧l.getD t 0=m+1∧code l t=2*c+x))∧
   Hp E w' (ag b8 (.cells (ai .u32 (bA l ys ys.length)) 237 (0,0))::ag b6 (.cells (ai .u8 l) 104 (0,0))::F),fun s _=>258 - s.toNat,⟨0,rfl,by omega,by omega,h⟩,?_⟩
  rintro s w ⟨q,rfl,hq,hnone,h⟩
  refine aa.dm (fun hlt2=> ?_) (fun hge2=> ?_)
  ·have hlt2:q<258:=by omega
   have h15:=kH hv q
   have next: ¬(na l q∧l.getD q 0=m+1∧code l q=2*c+x)→∀t,t<q+1→¬(na l t∧l.getD t 0=m+1∧code l t=2*c+x):=fun hk2 t ht=>by
    by_cases e:t=q
    ·subst e;exact hk2
    ·exact hnone t (by omega)
   rw [ab (x:=(q:Int)+1) (by omega)]
   refine aF.rd (s:= .int .u8) (h.at 1) (by omega) (by omega) (l.getD q 0:Int) (qn (by omega)) ?_
   rw [ab (x:=(l.getD q 0:Int)) (by omega)]
   refine aa.em (fun hn=> ?_) (fun hn=>⟨⟨q+1,rfl,by omega,next (fun hh=>hn (by omega)),h⟩,by first|omega|(dsimp only;omega)⟩)
   have hn:l.getD q 0=m+1:=by omega
   refine aF.rd (s:= .int .u32) h (by omega) (by omega) ((bA l ys ys.length).getD q 0:Int) (qn (by rw [gf];exact hlt2)) ?_
   rw [Bh hl hv hys hlt2 (by omega)]
   refine aa.em (fun hc=> ?_) (fun hc=>⟨⟨q+1,rfl,by omega,next (fun hh=>hc (by omega)),h⟩,by first|omega|(dsimp only;omega)⟩)
   have hc:code l q=2*c+x:=by omega
   have hf:=ti hl (s:=q) ⟨hlt2,by omega⟩
   rw [hn,hc] at hf
   exact hyes q (m+1) (by rw [htl,qI hf]) w h.tl
  ·have hge2:q=258:=by omega
   subst hge2
   have hf:cU l (2*c+x) (m+1)=none:=by
    cases hq:cU l (2*c+x) (m+1) with
    |none=>rfl
    |some s=>
     obtain ⟨h2,h3,h4⟩:=lP hq
     exact absurd ⟨h2,h3,h4⟩ (hnone s h2.1)
   have hfs:=pq hl hvs hx
   have hfst:=ux (l:=l) (c:=c) (b:=m) (x:=x)
   have hvn:=hvs.next hx
   rw [hf] at hfs
   rw [hfs] at hfst
   rw [hfst] at hvn
   refine ⟨⟨2*c+x,m+1,rfl,by omega,by omega,hvn,?_,h⟩,by first|omega|(dsimp only;omega)⟩
   rw [htl,qy hf];rfl
 ·have:bs.drop (k+m)= []:=List.drop_of_length_le (by omega)
  rw [this] at htl
  exact hno (by rw [htl];rfl) w h.tl
end
end Go.Proofs.YtgglghjnakclmaaGreat
namespace Go.ag
open Go.Inc Go.Srt Go.Sym Go.aE Go.Tab Go.Hd Go.Crc Go.Bw Go.Proofs.YtgglghjnakclmaaGreat
theorem xQ {n M P u:Nat} {r:List Nat}: ∀(b:List Nat) (s:MS),eo n s→(∀c∈b,c<256)→run (aG n) s b= .fin (.aB M P u) r→1≤M∧M≤n∧1≤P∧P≤M
 | [],s,_,_,h=>by cases h
 |c::b,s,hs,hb,h=>by
  rw [cI] at h
  cases hc:aG n s c with
  |more s'=>
   rw [hc] at h
   exact xQ b s' (mz hs (hb c (by simp)) hc) (fun y hy=>hb y (by simp [hy])) h
  |fin m=>
   rw [hc] at h
   cases h
   exact mZ hs hc
  |bad e=>rw [hc] at h;cases h
theorem lW {α σ β ε:Type} {f:σ→α→tI σ β ε} {r:List α} {x:β}: ∀(b:List α) (s:σ),run f s b= .fin x r→∃a,b=a++r
 | [],s,h=>by cases h
 |c::b,s,h=>by
  rw [cI] at h
  cases hc:f s c with
  |more s'=>
   rw [hc] at h
   obtain ⟨a,e⟩:=lW b s' h
   exact ⟨c::a,by rw [e];rfl⟩
  |fin m=>
   rw [hc] at h
   cases h
   exact ⟨[c],rfl⟩
  |bad e=>rw [hc] at h;cases h
theorem xN {l r:List Nat}: ∀(b:List Nat) (t:TS),c8 t→(∀c∈b,c≤1)→run (br bH) t b= .fin l r→l.length=258∧bH l=true
 | [],s,_,_,h=>by cases h
 |c::b,s,hs,hb,h=>by
  rw [cI] at h
  cases hc:br bH s c with
  |more s'=>
   rw [hc] at h
   exact xN b s' (iT hs (hb c (by simp)) hc) (fun y hy=>hb y (by simp [hy])) h
  |fin m=>
   rw [hc] at h
   cases h
   exact cN hs hc
  |bad e=>rw [hc] at h;cases h
theorem DR {left:List Nat} (hb: ∀x∈left,x≤1):qN left= !decide (1∈left.take (left.length % 8)):=by
 unfold qN
 rw [Bool.eq_iff_iff]
 simp only [List.all_eq_true,beq_iff_eq,Bool.not_eq_true',decide_eq_false_iff_not]
 constructor
 ·intro h hm
  have:=h 1 hm
  omega
 ·intro h x hx
  have:=hb x (List.mem_of_mem_take hx)
  have:x≠1:=fun e=>h (e▸hx)
  omega
end Go.ag
namespace Go.Proofs.YtgglghjnakclmaaGreat
open Go Go.Vc Go.Srt Go.Inc Go.Sym Go.Tab Go.Hd Go.Bw Go.aE Go.ag Go.Crc
section
variable {E w:World} {F:List HP}
end
end Go.Proofs.YtgglghjnakclmaaGreat
namespace Go.Vc
open Go
theorem aR.Mx {A B:Type} {r:A→B→World→Prop} {k:(A→B→World→Prop)→Prop} (Q:A→B→World→Prop) (h1: ∀a b w,Q a b w→r a b w) (h2: ∀r',(∀a b w,Q a b w→r' a b w)→k r'):aR r k:=h2 r h1
end Go.Vc
namespace Go.Proofs.YtgglghjnakclmaaGreat
open Go Go.Vc Go.Srt Go.Inc Go.Sym Go.Tab Go.Hd Go.Bw Go.aE Go.ag Go.Crc
section
variable {E w:World} {F:List HP}
abbrev T4:=Int×Int×Int×Int×Unit
abbrev Gn (h:HS):T4:=((h.at_:Int),(h.v:Int),(vm h.v:Int),0,())
theorem xW {t:HS} {c:Nat} {K:T4→Int→World→Prop} (h:Hp E w F) (ok:oP t) (hc:c<256)
  (hmore: ∀t' w',aZ t c= .more t'→Hp E w' F→K (Gn t') 0 w') (hfin: ∀n w',aZ t c= .fin n→Hp E w' F→K (4,0,0,(n:Int),()) 0 w')
  (hbad: ∀(e:Nat) r w',aZ t c= .bad e→e≠0→Hp E w' F→K r (e:Int) w'):
  Cl Tryz.prog [.st [.int .i64,.int .i64,.int .i64,.int .i64],kI] kG ⟨[.agg ⟨[.int .i64 (t.at_:Int),.int .i64 (t.v:Int),.int .i64 (vm t.v:Int),.int .i64 0]⟩,.int .u8 (c:Int)]⟩ w K:=by
 refine Ck.ok (Gn t) _ _ _ ?_
 obtain ⟨o1,o2,o3⟩:=ok
 refine Nw.mk h fun b4 w h=>Nw.mk h fun b6 w h=>Nw.mk h fun b8 w h=> ?_
 (with_reducible refine ad.xw h rfl rfl (fun w h=> ?_))
 refine Ld.xb (b:=b4) (x:=(t.at_:Int)) h rfl ?_
 have fin1: ∀{w:World} {a b c d:Int} {e:Int},Hp E w (ag b8 (.cells ⟨[.int .u8 87,.int .u8 80,.int .u8 1]⟩ 230 (0,0))::ag b6 (.cells ⟨[.int .i64 0,.int .i64 0,.int .i64 0,.int .i64 0]⟩ 100 (0,0))::ag b4 (.cells ⟨[.int .i64 a,.int .i64 b,.int .i64 c,.int .i64 d]⟩ 100 (0,0))::F)→(∀w',Hp E w' F→K (a,b,c,d,()) e w')→
   Ld (.st [.int .i64,.int .i64,.int .i64,.int .i64]) ⟨b4,0,none⟩ w fun x=>ad ⟨b6,0,none⟩ [.int .i64 x.1,.int .i64 x.2.1,.int .i64 x.2.2.1,.int .i64 x.2.2.2.1] 0 w fun w=>Ld (.st [.int .i64,.int .i64,.int .i64,.int .i64]) ⟨b6,0,none⟩ w fun r=>K r e w:=fun {w a b c d e} h hk=>by
  refine Ld.xt (b:=b4) (x:=(a,b,c,d,())) h rfl ?_
  (with_reducible refine ad.xw h rfl rfl (fun w h=> ?_))
  exact Ld.xt (b:=b6) (x:=(a,b,c,d,())) h rfl (hk _ (((h.no 0).no 0).no 0))
 refine aa.dm (fun hlt=> ?_) (fun hge=> ?_)
 ·have hlt:t.at_<3:=by omega
  have hv0:=o2 hlt
  have hst:aZ t c=if c=j9 t.at_ then .more ⟨t.at_+1,0⟩ else .bad (if t.at_=2 then 241 else 240):=by unfold aZ;rw [if_pos hlt]
  have hmg: ∀{K':Int→Prop} {w:World} {G:List HP},Hp E w (ag b8 (.cells ⟨[.int .u8 87,.int .u8 80,.int .u8 1]⟩ 230 (0,0))::G)→K' (j9 t.at_:Int)→aF ⟨b8,0,none⟩ 3 (t.at_:Int) 1 fun q=>Ld (ak .u8) q w K':=fun {K' w G} h hk=>by
   refine aF.rd (s:= .int .u8) h (by omega) (by omega) (j9 t.at_:Int) ?_ hk
   rw [Int.toNat_natCast]
   have:t.at_=0∨t.at_=1∨t.at_=2:=by omega
   rcases this with e|e|e<;>rw [e]<;>rfl
  refine Ld.xb (b:=b4) (x:=(t.at_:Int)) h rfl (hmg h ?_)
  by_cases hm:c=j9 t.at_
  ·rw [if_pos hm] at hst
   refine aa.nf (by omega) (Ld.xb (b:=b4) (x:=(t.at_:Int)) h rfl (hmg h (aa.nf (by omega) (Ld.xb (b:=b4) (x:=(t.at_:Int)) h rfl ?_))))
   rw [ab (by omega)]
   refine St.xs (b:=b4) h rfl rfl fun w h=> ?_
   dsimp only [aM,aq] at h
   refine fin1 h fun w' h=> ?_
   have:=hmore _ w' hst h
   rw [hv0]
   rw [show (t.at_:Int)+1=((t.at_+1:Nat):Int) by omega]
   exact this
  ·rw [if_neg hm] at hst
   refine aa.nt (by omega) (Ld.xb (b:=b4) (x:=(t.at_:Int)) h rfl ?_)
   by_cases h2:t.at_=2
   ·rw [if_pos h2] at hst
    exact aa.et (by omega) (fin1 h fun w' h=>hbad 241 _ w' hst (by decide) h)
   ·rw [if_neg h2] at hst
    refine aa.ef (by omega) (Ld.xb (b:=b4) (x:=(t.at_:Int)) h rfl (hmg h (aa.nt (by omega) ?_)))
    exact fin1 h fun w' h=>hbad 240 _ w' hst (by decide) h
 ·have hat:t.at_=3:=by omega
  have hst:aZ t c=match grow 65536 t.v c with
   |none=> .bad 242
   |some (n,true)=> .fin n
   |some (n,false)=> .more ⟨3,n⟩:=by unfold aZ;rw [if_neg (by omega)]<;>rfl
  refine Ld.xt (b:=b4) (i:=1) (x:=((t.v:Int),(vm t.v:Int),())) h rfl ?_
  refine sE h o3 (by decide) hc (fun hg o d w h=> ?_) (fun n d hg k w hk h=> ?_)
  ·rw [hg] at hst
   refine Nw.mk h fun b46 w h=> ?_
   (with_reducible refine ad.xw h rfl rfl (fun w h=> ?_))
   with_reducible refine aa.F9 ?_
   exact fin1 (h.no 0) fun w' h=>hbad 242 _ w' hst (by decide) h
  ·rw [hg] at hst
   refine Nw.mk h fun b46 w h=> ?_
   (with_reducible refine ad.xw h rfl rfl (fun w h=> ?_))
   with_reducible refine aa.vG ?_
   refine Ld.xt (b:=b46) (x:=((n:Int),k,())) h rfl ?_
   refine ad.xs (b:=b4) h rfl rfl fun w h=> ?_
   dsimp only [aM,aq] at h
   cases d with
   |true=>
    refine aa.t rfl (St.xs (b:=b4) h rfl rfl fun w h=> ?_)
    dsimp only [aM,aq] at h
    refine Ld.xb (b:=b46) (x:=(n:Int)) h rfl (St.xs (b:=b4) h rfl rfl fun w h=> ?_)
    dsimp only [aM,aq] at h
    refine ad.xs (b:=b4) h rfl rfl fun w h=> ?_
    dsimp only [aM,aq] at h
    exact fin1 (h.no 0) fun w' h=>hfin n w' hst h
   |false=>
    have hk:=hk rfl
    subst hk
    refine aa.f rfl (fin1 (h.no 0) fun w' h=> ?_)
    have:=hmore _ w' hst h
    rw [hat]
    exact this
theorem DO {s:Sl} {bs:List Nat} {K:Int×Unit→Sl→Int→World→Prop} (h:Hp E w F) (hs:ah F (aQ 1 s (bs.map vB))) (hb: ∀y∈bs,y<256) (hbig:bs.length≤10000000) (hcap:s.len≤s.cap)
  (hshort: ∀t w',run aZ ⟨0,0⟩ bs= .short t→Hp E w' F→K (0,()) ⟨none,0,0⟩ 50 w')
  (hbad: ∀(e:Nat) w',run aZ ⟨0,0⟩ bs= .bad e→e≠0→Hp E w' F→K (0,()) ⟨none,0,0⟩ (e:Int) w')
  (hfin: ∀n r s' w',run aZ ⟨0,0⟩ bs= .fin n r→Hp E w' (OB s' r::F)→K ((n:Int),()) s' 0 w'):
  Cl Tryz.prog [.st [.int .i64],kS,kI] mA ⟨[.slice s.base s.len s.cap]⟩ w K:=by
 refine AX.ok _ _ _ ?_
 have hlen:bs.length=s.len:=by have:=(h.ao hs).1;simpa using this
 refine Nw.mk h fun b3 w h=>Nw.mk h fun b5 w h=> ?_
 refine ⟨fun i w=> ∃(k:Nat) (t:HS),i=(k:Int)∧k≤bs.length∧oP t∧run aZ ⟨0,0⟩ bs=run aZ t (bs.drop k)∧Hp E w (ag b5 (.cells ⟨[.int .i64 (t.at_:Int),.int .i64 (t.v:Int),.int .i64 (vm t.v:Int),.int .i64 0]⟩ 100 (0,0))::ag b3 (.cells ⟨[.int .i64 0]⟩ 116 (0,0))::F),fun i _=>bs.length - i.toNat,⟨0,⟨0,0⟩,rfl,Nat.zero_le _,⟨by decide,fun _=>rfl,by decide⟩,rfl,h⟩,?_⟩
 rintro i w ⟨k,t,rfl,hk,hok,hrun,h⟩
 refine aa.dm (fun hlt=> ?_) (fun hge=> ?_)
 ·have hlt:k<bs.length:=by omega
  have hbk:bs[k]<256:=hb _ (List.getElem_mem hlt)
  rw [List.drop_eq_getElem_cons hlt,cI] at hrun
  refine aR.Mx (fun (o:Addr) (e:Int) w=> ∃b',o=⟨b',0,none⟩∧((∃t',aZ t bs[k]= .more t'∧e=0∧Hp E w (ag b' (.cells ⟨[.int .i64 (t'.at_:Int),.int .i64 (t'.v:Int),.int .i64 (vm t'.v:Int),.int .i64 0]⟩ 100 (0,0))::ag b5 (.cells ⟨[.int .i64 (t.at_:Int),.int .i64 (t.v:Int),.int .i64 (vm t.v:Int),.int .i64 0]⟩ 100 (0,0))::ag b3 (.cells ⟨[.int .i64 0]⟩ 116 (0,0))::F))∨
    (∃n:Nat,aZ t bs[k]= .fin n∧e=0∧Hp E w (ag b' (.cells ⟨[.int .i64 4,.int .i64 0,.int .i64 0,.int .i64 (n:Int)]⟩ 100 (0,0))::ag b5 (.cells ⟨[.int .i64 (t.at_:Int),.int .i64 (t.v:Int),.int .i64 (vm t.v:Int),.int .i64 0]⟩ 100 (0,0))::ag b3 (.cells ⟨[.int .i64 0]⟩ 116 (0,0))::F))∨
    (∃e':Nat,aZ t bs[k]= .bad e'∧e=(e':Int)∧e'≠0∧Hp E w (ag b3 (.cells ⟨[.int .i64 0]⟩ 116 (0,0))::F)))) ?_ fun r' hr'=> ?_
  ·rintro _ e w ⟨b',rfl,⟨t',ht,rfl,h⟩|⟨n,ht,rfl,h⟩|⟨e',ht,rfl,h0,h⟩⟩
   ·rw [ht] at hrun
    refine aa.nf rfl (Ld.xt (b:=b') (x:=Gn t') h rfl ?_)
    (with_reducible refine ad.xw h rfl rfl (fun w h=> ?_))
    refine Ld.xb (b:=b5) (x:=(t'.at_:Int)) h rfl ?_
    have hok':=pv hok hbk ht
    have h3:=hok'.1
    rw [ab (by omega)]
    exact aa.ef (by omega) ⟨⟨k+1,t',by omega,by omega,hok',hrun,h.no 0⟩,by first|omega|(dsimp only;omega)⟩
   ·rw [ht] at hrun
    refine aa.nf rfl (Ld.xt (b:=b') (x:=(4,0,0,(n:Int),())) h rfl ?_)
    (with_reducible refine ad.xw h rfl rfl (fun w h=> ?_))
    refine Ld.xb (b:=b5) (x:=(4:Int)) h rfl (aa.t rfl ?_)
    have h:=h.drew (n:=w.drawn+1)
    refine ⟨bm b5 _ _ (0,0),h.hb,au.xb (x:=(n:Int)) (fun _ h=>h) rfl ?_⟩
    refine oq (S:=bm b5 _ _ (0,0)) h hs.cons.cons.cons (by omega) hcap hlt (fun w h=>h.hb) fun s' w h=> ?_
    (with_reducible refine ad.xw h rfl rfl (fun w h=> ?_))
    refine ⟨h.hb,Ld.xt (b:=b3) (x:=((n:Int),())) h rfl ?_⟩
    exact hfin n _ s' w hrun (((h.no 1).no 1).no 1)
   ·rw [ht] at hrun
    refine aa.nt (by omega) ?_
    (with_reducible refine ad.xw h rfl rfl (fun w h=> ?_))
    exact Ld.xt (b:=b3) (x:=((0:Int),())) h rfl (hbad e' w hrun h0 (h.no 0))
  ·have h:=h.drew (n:=w.drawn+1)
   refine ⟨fun w=>bm b5 ⟨[.int .i64 (t.at_:Int),.int .i64 (t.v:Int),.int .i64 (vm t.v:Int),.int .i64 0]⟩ 100 (0,0) w∧aQ 1 s (bs.map vB) w,⟨h.hb,h.ao hs.cons.cons⟩,au.xt (b:=b5) (x:=Gn t) (fun _ h=>h.1) rfl ?_⟩
   refine aT.Gd (sc:= .int .u8) (h.ao hs.cons.cons) (fun _ h=>h.2) rfl (by simpa using hlt) (bs[k]:Int) (by simp [Sc.enc,vB,hlt]) ⟨?_,?_⟩
   ·refine xW h hok hbk (fun t' w ht h=> ?_) (fun n w ht h=> ?_) (fun e r w ht h0 h=> ?_)
    ·refine ⟨⟨h.hb,h.ao hs.cons.cons⟩,Nw.mk h fun b20 w h=>⟨⟨h.hb,h.ao hs.cons.cons.cons⟩,?_⟩⟩
     (with_reducible refine ad.xw h rfl rfl (fun w h=> ?_))
     exact ⟨⟨h.hb,h.ao hs.cons.cons.cons⟩,hr' _ _ _ ⟨b20,rfl,.inl ⟨t',ht,rfl,h⟩⟩⟩
    ·refine ⟨⟨h.hb,h.ao hs.cons.cons⟩,Nw.mk h fun b20 w h=>⟨⟨h.hb,h.ao hs.cons.cons.cons⟩,?_⟩⟩
     (with_reducible refine ad.xw h rfl rfl (fun w h=> ?_))
     exact ⟨⟨h.hb,h.ao hs.cons.cons.cons⟩,hr' _ _ _ ⟨b20,rfl,.inr (.inl ⟨n,ht,rfl,h⟩)⟩⟩
    ·refine ⟨⟨h.hb,h.ao hs.cons.cons⟩,Nw.mk h fun b20 w h=>⟨⟨h.hb,h.ao hs.cons.cons.cons⟩,?_⟩⟩
     (with_reducible refine ad.xw h rfl rfl (fun w h=> ?_))
     exact ⟨⟨h.hb,h.ao hs.cons.cons.cons⟩,hr' _ _ _ ⟨b20,rfl,.inr (.inr ⟨e,ht,rfl,h0,(h.no 0).no 0⟩)⟩⟩
   ·refine Nw.mk h fun b20 w h=>⟨⟨h.hb,h.ao hs.cons.cons.cons⟩,?_⟩
    refine xW h hok hbk (fun t' w ht h=> ?_) (fun n w ht h=> ?_) (fun e r w ht h0 h=> ?_)
    ·refine ⟨⟨h.hb,h.ao hs.cons.cons.cons⟩,?_⟩
     (with_reducible refine ad.xw h rfl rfl (fun w h=> ?_))
     exact ⟨⟨h.hb,h.ao hs.cons.cons.cons⟩,hr' _ _ _ ⟨b20,rfl,.inl ⟨t',ht,rfl,h⟩⟩⟩
    ·refine ⟨⟨h.hb,h.ao hs.cons.cons.cons⟩,?_⟩
     (with_reducible refine ad.xw h rfl rfl (fun w h=> ?_))
     exact ⟨⟨h.hb,h.ao hs.cons.cons.cons⟩,hr' _ _ _ ⟨b20,rfl,.inr (.inl ⟨n,ht,rfl,h⟩)⟩⟩
    ·refine ⟨⟨h.hb,h.ao hs.cons.cons.cons⟩,?_⟩
     (with_reducible refine ad.xw h rfl rfl (fun w h=> ?_))
     exact ⟨⟨h.hb,h.ao hs.cons.cons.cons⟩,hr' _ _ _ ⟨b20,rfl,.inr (.inr ⟨e,ht,rfl,h0,(h.no 0).no 0⟩)⟩⟩
 ·rw [List.drop_of_length_le (by omega),re] at hrun
  (with_reducible refine ad.xw h rfl rfl (fun w h=> ?_))
  exact Ld.xt (b:=b3) (x:=((0:Int),())) h rfl (hshort t w hrun ((h.no 0).no 0))
end
end Go.Proofs.YtgglghjnakclmaaGreat
namespace Go.Proofs.YtgglghjnakclmaaGreat
open Go Go.Vc Go.Srt Go.Inc Go.Sym Go.Tab Go.Hd Go.Bw Go.aE Go.ag Go.Crc Go.Stm
theorem sL {n:Nat} {r:List Nat}: ∀(b:List Nat) (s:HS),oP s→(∀c∈b,c<256)→run aZ s b= .fin n r→1≤n∧n≤65536
 | [],s,_,_,h=>by cases h
 |c::b,s,hs,hb,h=>by
  rw [cI] at h
  cases hc:aZ s c with
  |more s'=>
   rw [hc] at h
   exact sL b s' (pv hs (hb c (by simp)) hc) (fun y hy=>hb y (by simp [hy])) h
  |fin m=>
   rw [hc] at h
   cases h
   unfold aZ at hc
   split at hc
   ·split at hc<;>cases hc
   ·split at hc
    ·cases hc
    ·rename_i hg
     cases hc
     have:=fC (hb c (by simp)) hg
     omega
    ·cases hc
  |bad e=>rw [hc] at h;cases h
section
variable {E w:World} {F:List HP}
end
end Go.Proofs.YtgglghjnakclmaaGreat
namespace Go.Prs
open Go.Inc Go.Srt Go.Sym Go.aE Go.Tab Go.Hd Go.Crc Go.Bw Go.ag Go.Stm
theorem uW {l:List Nat} {d:DS}: ∀(bs:List Nat) (c n:Nat),iK l c n bs=none→bW l c n d bs=([],.short)
 | [],c,n,_=>rfl
 |x::r,c,n,h=>by
  cases hf:cU l (2*c+x) (n+1) with
  |some y=>rw [qI hf] at h;cases h
  |none=>
   rw [qy hf] at h
   rw [bW,hf]
   exact uW r _ _ h
theorem vn {l:List Nat} {d:DS} {y m:Nat}: ∀(bs:List Nat) (c n:Nat),iK l c n bs=some (y,m)→n<m∧m≤n+bs.length∧y<258∧
  bW l c n d bs=match cc d y with
   |none=>([],.bad 160)
   |some (_,t,true)=>(if t= [] then [] else [.bytes t],.fin (bs.drop (m - n)))
   |some (d',t,false)=>(if t= [] then (bW l 0 0 d' (bs.drop (m - n))).1 else .bytes t::(bW l 0 0 d' (bs.drop (m - n))).1,(bW l 0 0 d' (bs.drop (m - n))).2)
 | [],c,n,h=>by cases h
 |x::r,c,n,h=>by
  cases hf:cU l (2*c+x) (n+1) with
  |some z=>
   rw [qI hf] at h
   cases h
   refine ⟨by omega,by rw [List.length_cons];omega,(lP hf).1.1,?_⟩
   rw [bW,hf,show n+1 - n=1 by omega,List.drop_one,List.tail_cons]
   dsimp only
   cases hd:cc d y with
   |none=>rfl
   |some p=>
    obtain ⟨d',t,b⟩:=p
    cases b<;>rfl
  |none=>
   rw [qy hf] at h
   obtain ⟨h1,h2,h3,h4⟩:=vn (d:=d) r _ _ h
   refine ⟨by omega,by rw [List.length_cons];omega,h3,?_⟩
   rw [bW,hf,show m - n=(m - (n+1))+1 by omega,List.drop_succ_cons]
   exact h4
theorem HR {ended:Bool} {n k m:Nat} {b:List Nat} (hb: ∀x∈b,x<256) (h1:b.length<k) (h2:b.length<m):p4 ended n k b=p4 ended n m b:=by
 have e1:=qT (ended:=ended) hb n k 0 (Nat.zero_le _) (by omega)
 have e2:=qT (ended:=ended) hb n m 0 (Nat.zero_le _) (by omega)
 rw [List.drop_zero] at e1 e2
 exact e1.symm.trans e2
end Go.Prs
namespace Go.Proofs.YtgglghjnakclmaaGreat
open Go Go.Vc Go.Srt Go.Inc Go.Sym Go.Tab Go.Hd Go.Bw Go.aE Go.ag Go.Crc Go.Prs
section
variable {E w:World} {F:List HP}
theorem rm:fm Tryz.prog 36 29 7 72:= .of (by kernel_rfl) (by kernel_rfl)
def cm (s:Sl) (es:List Ev):HP:=Ci (fun xs:List (Ev×Sl)=>xs.map Prod.fst=es) fun xs=> [aC 7 s (xs.flatMap gE),Tx xs]
theorem yv {s:Sl} {es:List Ev} (h:Hp E w (cm s es::F)): ∃xs:List (Ev×Sl),xs.map Prod.fst=es∧Hp E w (aC 7 s (xs.flatMap gE)::Tx xs::F):=by
 obtain ⟨xs,hx,h⟩:=h.ex
 exact ⟨xs,hx,h⟩
theorem cm.shut {s:Sl} {xs:List (Ev×Sl)} (h:Hp E w (aC 7 s (xs.flatMap gE)::Tx xs::F)):Hp E w (cm s (xs.map Prod.fst)::F):=Hp.EA xs rfl h
theorem cm.nil (h:Hp E w F):Hp E w (cm ⟨none,0,0⟩ []::F):=cm.shut (xs:= []) ((Tx.nil h).bf 7)
theorem cm.len {s:Sl} {es:List Ev} (h:Hp E w (cm s es::F)):es.length=s.len:=by
 obtain ⟨xs,hx,h2⟩:=(yv h)
 subst hx
 rw [List.length_map]
 exact (aQ.len wU (by decide) (h2.ao ah.own)).symm
theorem BE {b:Nat} {e:Ev} {t:TypeId} (hx:gv (some e)= []) (h:Hp E w (ag b (.cells ⟨gE (e,⟨none,0,0⟩)⟩ t (0,0))::F)):Hp E w (cm ⟨some ⟨b,0,none⟩,1,1⟩ [e]::F):=by
 have h:=Hp.nX (n:=1) (sz:=7) h rfl
 refine cm.shut (xs:= [(e,⟨none,0,0⟩)]) ?_
 have h2:Hp E w (aC 1 (⟨none,0,0⟩:Sl) ((gv (some e)).map vB)::aC 7 ⟨some ⟨b,0,none⟩,1,1⟩ (gE (e,⟨none,0,0⟩))::F):=by rw [hx];exact h.bf 1
 have h3:=Tx.app (xs:= []) (x:=(e,⟨none,0,0⟩)) (Tx.nil h2)
 have h4:Hp E w (aC 7 ⟨some ⟨b,0,none⟩,1,1⟩ (gE (e,⟨none,0,0⟩))::Tx [(e,⟨none,0,0⟩)]::F):=h3.at 1
 simpa using h4
theorem uI {s:Sl} {es:List Ev} {b:Nat} {e:Ev} {sl:Sl} {t:TypeId} {fr:Nat×Nat} {K:Sl→World→Prop} (h:Hp E w (cm s es::ag b (.cells ⟨gE (e,sl)⟩ t fr)::OB sl (gv (some e))::F)) (hl:es.length≤1000000000) (hK: ∀s' w',Hp E w' (cm s' (es++ [e])::F)→K s' w'):
  aw Tryz.prog (Builtin.append_ #[36,36] 36 ⟨[.slice s.base s.len s.cap,.slice (some ⟨b,0,none⟩) 1 1]⟩) kS w K:=by
 have hlen:=cm.len h
 obtain ⟨xs,hx,h2⟩:=(yv h)
 subst hx
 clear h
 have h:=h2
 refine bZ (s:=s) (ys:=gE (e,sl)) (n:=1) rm (by decide) (.inl ⟨_,rm.und⟩) h (.inl ⟨some ⟨b,0,none⟩,1,1,rfl,rfl,h.ao (ah.at 2 (ah.aB rfl rfl))⟩) rfl (vC (e,sl)) (by omega) (by omega) fun s' w h _=>hK s' w ?_
 rw [show xs.flatMap gE++gE (e,sl)=(xs++ [(e,sl)]).flatMap gE by rw [List.flatMap_append];simp] at h
 have h:=(h.no 2)
 have h2:Hp E w (Tx xs::aC 1 sl ((gv (some e)).map vB)::aC 7 s' ((xs++ [(e,sl)]).flatMap gE)::F):=(h.at 2).at 2
 have h3:=cm.shut (xs:=xs++ [(e,sl)]) ((Tx.app (x:=(e,sl)) h2).at 1)
 rwa [List.map_append] at h3
theorem fT {s:Sl} {es:List Ev} {b:Nat} {e:Ev} {t:TypeId} {fr:Nat×Nat} {K:Sl→World→Prop} (hx:gv (some e)= []) (h:Hp E w (cm s es::ag b (.cells ⟨gE (e,⟨none,0,0⟩)⟩ t fr)::F)) (hl:es.length≤1000000000) (hK: ∀s' w',Hp E w' (cm s' (es++ [e])::F)→K s' w'):
  aw Tryz.prog (Builtin.append_ #[36,36] 36 ⟨[.slice s.base s.len s.cap,.slice (some ⟨b,0,none⟩) 1 1]⟩) kS w K:=by
 have h2:Hp E w (OB (⟨none,0,0⟩:Sl) (gv (some e))::cm s es::ag b (.cells ⟨gE (e,⟨none,0,0⟩)⟩ t fr)::F):=by rw [hx];exact h.bf 1
 exact uI ((h2.at 2).at 2) hl hK
theorem Aw {s s2:Sl} {es es2:List Ev} {K:Sl→World→Prop} (h:Hp E w (cm s es::cm s2 es2::F)) (hl:es.length≤1000000000) (hl2:es2.length≤1000000000) (hK: ∀s' w',Hp E w' (cm s' (es++es2)::F)→K s' w'):
  aw Tryz.prog (Builtin.append_ #[36,36] 36 ⟨[.slice s.base s.len s.cap,.slice s2.base s2.len s2.cap]⟩) kS w K:=by
 have hlen:=cm.len h
 have hlen2:=cm.len (h.at 1)
 obtain ⟨ys,hy,h2⟩:=(yv (h.at 1))
 subst hy
 obtain ⟨xs,hx,h3⟩:=(yv (h2.at 2))
 subst hx
 clear h h2
 have h:=h3
 have hfl:(ys.flatMap gE).length=s2.len*7:=by rw [de wU,←hlen2,List.length_map]
 refine bZ (s:=s) (ys:=ys.flatMap gE) (n:=s2.len) rm (by decide) (.inl ⟨_,rm.und⟩) h (.inl ⟨s2.base,s2.len,s2.cap,rfl,rfl,h.ao (ah.at 2 ah.own)⟩) hfl (fun y hy=> ?_) (by omega) (by omega) fun s' w h _=>hK s' w ?_
 ·obtain ⟨x,_,hx⟩:=List.mem_flatMap.1 hy
  exact vC x y hx
 ·rw [←List.flatMap_append] at h
  have h:=h.no 2
  have h3:=cm.shut (xs:=xs++ys) ((Tx.join ((h.at 1).at 2|>.at 1)).at 1)
  rwa [List.map_append] at h3
theorem lV {s:Sl} {es:List Ev} {ended:Bool} {K:Sl→World→Prop} (h:Hp E w (cm s es::F)) (hl:es.length≤1000000000) (hK: ∀s' w',Hp E w' (cm s' (es++Prs.sh ended)::F)→K s' w'):Cl Tryz.prog [kS] eC ⟨[.slice s.base s.len s.cap,.bool ended]⟩ w K:=by
 refine zR.ok _ _ _ _ ?_
 cases ended with
 |true=>exact aa.t rfl (Nw.mk h fun b4 w h=>fT (e:= .bad 50) rfl (h.at 1) hl fun s' w h=>hK s' w h)
 |false=>
  refine aa.f rfl (hK s w ?_)
  rw [show Prs.sh false= [] from rfl,List.append_nil]
  exact h
theorem FF {l:List Nat} {s:Sl} {bs:List Nat} {M:Nat} {K:Sl→Int→Bool→Int→World→Prop} (h:Hp E w F) (hl:l.length=258) (hok:bH l=true) (hM:1≤M) (hM2:M≤65536) (hs:ah F (aQ 1 s ((ints bs).map vI))) (hb: ∀x∈bs,x≤1) (hbig:bs.length≤1000000000)
  (hK: ∀s' w',Hp E w' (cm s' (bW l 0 0 ⟨List.range 256,M,0,0⟩ bs).1::F)→match (bW l 0 0 ⟨List.range 256,M,0,0⟩ bs).2 with
   | .short=>K s' 0 false 0 w'| .bad e=>K s' 0 false (e:Int) w'| .fin left=>K s' ((bs.length - left.length:Nat):Int) true 0 w'):
  Cl Tryz.prog [kS,kI,kB,kI] j0 ⟨[.int .i64 (M:Int),.agg (ai .u8 l),.slice s.base s.len s.cap]⟩ w K:=by
 refine vY.ok _ _ _ _ _ ?_
 have h15:=H9 hok
 have h8: ∀y∈l,y≤255:=fun y hy=>by have:=h15 y hy;omega
 have hv:a7 l≤32768:=by rw [(mb.1 hok).1];decide
 have hsz:(ai .u8 l).size=258:=by rw [cj,hl]
 have hz2:(⟨List.replicate 256 (.int .u8 0)++ [.int .i64 0,.int .i64 0,.int .i64 0,.bool false]⟩:Array Value).size=260:=by simp
 refine Nw.mk h fun b5 w h=>Ld.xw h hsz (CM h hl h8 (fun hn=>absurd hv hn) fun _ ys w hys h=> ?_)
 have hcs:(ai .u32 (bA l ys ys.length)).size=258:=by rw [cj,gf]
 refine Nw.mk h fun b11 w h=>aj.q h (by simp) hcs (List.all_eq_true.2 lh) fun w h=>Cn h hM hM2 fun w h=> ?_
 have hd0:fE ⟨List.range 256,M,0,0⟩:=fE.zero hM2
 refine Nw.mk h fun b16 w h=>aj.q h hz2 (aI (by simp)) aJ fun w h=> ?_
 generalize hR:bW l 0 0 ⟨List.range 256,M,0,0⟩ bs=R at hK
 refine ⟨fun o i w=> ∃(k:Nat) (d:DS) (acc:List Ev),i=(k:Int)∧k≤bs.length∧fE d∧acc.length≤k∧
  R=(acc++(bW l 0 0 d (bs.drop k)).1,(bW l 0 0 d (bs.drop k)).2)∧
  Hp E w (cm o acc::ag b16 (.cells (cA d.L (d.left:Int) (d.run:Int) (d.digits:Int) false) 112 (0,0))::ag b11 (.cells (ai .u32 (bA l ys ys.length)) 237 (0,0))::ag b5 (.cells (ai .u8 l) 104 (0,0))::F),
  fun _ i _=>bs.length - i.toNat,⟨0,_,[],rfl,by omega,hd0,by simp,by rw [←hR];rfl,cm.nil h⟩,?_⟩
 rintro o i w ⟨k,d,acc,rfl,hk,hd,hal,hrun,h⟩
 have hdL:=hd.1.len
 refine Ld.xw (b:=b5) h hsz (Ld.xw (b:=b11) h hcs ?_)
 refine Gw h hl hok hys (ah.cons (ah.cons (ah.cons (ah.cons hs)))) hb hbig hk (fun hno w h=> ?_) (fun y m hyes w h=> ?_)
 ·rw [uW _ _ _ hno] at hrun
  with_reducible refine aa.F9 ?_
  have:=hK o w
  rw [hrun,List.append_nil] at this
  exact this h.cx
 ·obtain ⟨h1,h2,h3,h4⟩:=vn (d:=d) _ _ _ hyes
  rw [List.length_drop] at h2
  rw [h4,Nat.sub_zero,List.drop_drop] at hrun
  with_reducible refine aa.vG ?_
  refine Ld.xw (b:=b16) h (aI hdL) (Ca h hd h3 (fun o' w hq ho hos h=> ?_) (fun d' t sl w hq h=> ?_) (fun d' t sl w hq h=> ?_))
  ·rw [hq] at hrun
   refine Nw.mk h fun b36 w h=>aj.q h hz2 ho hos fun w h=>aa.nt (by decide) ?_
   have:=hK o w
   rw [hrun,List.append_nil] at this
   exact this ((h.no 0).cx)
  ·rw [hq] at hrun
   dsimp only at hrun
   obtain ⟨hd',hb',hl'⟩:=n9 hd h3 hq
   have l1:=OB.len h
   refine Nw.mk h fun b36 w h=>aj.q h hz2 (aI hd'.1.len) aJ fun w h=>aa.nf rfl ?_
   refine Ld.xw (b:=b36) h (aI hd'.1.len) (aj.q (b:=b16) h (aI hdL) (aI hd'.1.len) aJ fun w h=> ?_)
   have h:=h.no 0
   by_cases ht:t= []
   ·rw [if_pos ht] at hrun
    refine aa.df (by rw [←l1,ht];simp) (aa.f rfl ?_)
    rw [ab (by omega)]
    exact ⟨⟨k+m,d',acc,by omega,by omega,hd',by omega,hrun,h.no 0⟩,by first|omega|(dsimp only;omega)⟩
   ·rw [if_neg ht] at hrun
    have htp:=List.length_pos_iff.2 ht
    refine aa.dt (by omega) (Nw.mk h fun b41 w h=> ?_)
    refine uI (e:= .bytes t) (sl:=sl) (h.at 2) (by omega) fun s3 w h=>aa.f rfl ?_
    rw [ab (by omega)]
    exact ⟨⟨k+m,d',acc++ [.bytes t],by omega,by omega,hd',by rw [List.length_append,List.length_singleton];omega,by rw [hrun];simp,h⟩,by first|omega|(dsimp only;omega)⟩
  ·rw [hq] at hrun
   dsimp only at hrun
   obtain ⟨hb',hl'⟩:=rU hd hq
   have l1:=OB.len h
   refine Nw.mk h fun b36 w h=>aj.q h hz2 (aI hdL) aJ fun w h=>aa.nf rfl ?_
   refine Ld.xw (b:=b36) h (aI hdL) (aj.q (b:=b16) h (aI hdL) (aI hdL) aJ fun w h=> ?_)
   have h:=h.no 0
   have hdl:(bs.drop (k+m)).length=bs.length - (k+m):=List.length_drop
   by_cases ht:t= []
   ·rw [if_pos ht,List.append_nil] at hrun
    refine aa.df (by rw [←l1,ht];simp) (aa.t rfl ?_)
    rw [ab (by omega)]
    have:=hK o w
    rw [hrun] at this
    have:=this (h.no 0).cx
    dsimp only at this
    rw [hdl,show bs.length - (bs.length - (k+m))=k+m by omega] at this
    exact this
   ·rw [if_neg ht] at hrun
    have htp:=List.length_pos_iff.2 ht
    refine aa.dt (by omega) (Nw.mk h fun b41 w h=> ?_)
    refine uI (e:= .bytes t) (sl:=sl) (h.at 2) (by omega) fun s3 w h=>aa.t rfl ?_
    rw [ab (by omega)]
    have:=hK s3 w
    rw [hrun] at this
    have:=this h.cx
    dsimp only at this
    rw [hdl,show bs.length - (bs.length - (k+m))=k+m by omega] at this
    exact this
end
end Go.Proofs.YtgglghjnakclmaaGreat
namespace Go.Prs
open Go.Inc Go.Srt Go.Sym Go.aE Go.Tab Go.Hd Go.Crc Go.Bw Go.ag Go.Stm
def rE (es:List Ev) (told:Nat):Nat:=if told=0 then 0 else match es with
 | .hdr n::_=>n
 |_=>0
section
variable {en:Bool} {c:List Nat} {s s':PS} {u u':Nat} {e:Ev} {o:Option Ev}
end
section
variable {en:Bool} {c:List Nat} {s:PS} {u told:Nat} {T:List Ev}
end
end Go.Prs
namespace Go.Proofs.YtgglghjnakclmaaGreat
open Go Go.Vc Go.Srt Go.Inc Go.Sym Go.Tab Go.Hd Go.Bw Go.aE Go.ag Go.Crc Go.Prs
section
variable {E w:World} {F:List HP}
theorem HT {e:Ev} {sl:Sl}:(gI (some e) sl).2.1=match e with
  | .hdr n=>(n:Int)
  |_=>0:=by cases e<;>rfl
theorem IH {xs:List (Ev×Sl)} {s:Sl} {j k:Nat} {i:Int} {sc:Sc} {x:sc.T} {K:sc.T→Prop} (h:aQ 7 s (xs.flatMap gE) w) (hi:i=(j:Int)) (hj:j<xs.length) (hk:k<7) (hx:(gE xs[j])[k]? =some (sc.enc x)) (hK:K x):aT s i 7 fun q=>Ld (.sc sc) (q.add k) w K:=
 aT.el wU (by decide) h hi hj fun p hp=>Ld.sc x (by rw [hp k hk,hx]) hK
theorem CI {es:List Ev} {s:Sl} {told:Nat} {K:Int→World→Prop} (h:Hp E w (cm s es::F)) (hK: ∀w',Hp E w' (cm s es::F)→K (rE es told:Int) w'):
  Cl Tryz.prog [kI] mS ⟨[.slice s.base s.len s.cap,.int .i64 (told:Int)]⟩ w K:=by
 refine Bd.ok _ _ _ _ ?_
 have hlen:=cm.len h
 refine aa.dm (fun hp=>aa.dm (fun ht=> ?_) (fun ht=> ?_)) (fun hp=> ?_)
 ·obtain ⟨xs,hx,h2⟩:=yv h
  subst hx
  rw [List.length_map] at hlen
  have hj:0<xs.length:=by omega
  refine IH (sc:= .int .i64) (k:=1) (x:=(gI (some xs[0].1) xs[0].2).2.1) (h2.ao ah.own) rfl hj (by decide) rfl ?_
  have:=hK w h
  unfold rE at this
  rw [if_neg (by omega)] at this
  rw [HT]
  match xs,hj,this with
  |x::xs,_,this=>
   obtain ⟨e,sl⟩:=x
   cases e<;>exact this
 ·have:=hK w h
  unfold rE at this
  rw [if_pos (by omega)] at this
  exact this
 ·have he:es= []:=List.eq_nil_of_length_eq_zero (by omega)
  subst he
  have:=hK w h
  unfold rE at this
  simpa using this
end
end Go.Proofs.YtgglghjnakclmaaGreat
namespace Go.Vc
open Go
theorem CD (b:List Nat):(strOf b).data=(b.map UInt8.ofNat).toArray:=by
 have:=oz b
 rw [←this]
theorem BR (b:List Nat):(strOf b).size=b.length:=by
 show (strOf b).data.size=_
 rw [CD];simp
theorem JP {a b:ByteArray} (h:a.data.toList=b.data.toList):a=b:=by
 cases a;cases b
 congr 1
 exact Array.toList_inj.1 h
theorem Cf {b:List Nat} (i j:Nat):(strOf b).extract i j=strOf ((b.take j).drop i):=by
 apply JP
 rw [ByteArray.data_extract,Array.toList_extract,oz,oz]
 simp [List.extract,List.map_drop,List.map_take,List.drop_take]
theorem FE.of {b:List Nat} {i j:Int} {K:ByteArray→Prop} (a c:Nat) (hi:i=(a:Int)) (hj:j=(c:Int)) (h1:a≤c) (h2:c≤b.length) (hK:K (strOf ((b.take c).drop a))):FE (strOf b) i j K:=by
 subst hi;subst hj
 rw [←Cf] at hK
 refine ⟨by omega,by omega,by rw [BR];omega,?_⟩
 simpa using hK
end Go.Vc
namespace Go.Dcd
open Go.Inc Go.Srt Go.Sym Go.aE Go.Tab Go.Hd Go.Crc Go.Bw Go.ag Go.Stm Go.Prs Go.Pol
theorem bR.feed {D:DC} {y:List Nat} (ok:bR D) (hy: ∀x∈y,x<256):bR {D with c:=D.c++y}:=
 ⟨fun x hx=>(List.mem_append.1 hx).elim (ok.cb x) (hy x),ok.al,by dsimp only;rw [List.length_append];have:=ok.ul;omega,ok.ps,ok.jn,ok.bd,ok.aB,ok.cameb,ok.allb,ok.mode0,ok.modeE,ok.modeN,ok.bk⟩
theorem bR.stop {D:DC} (ok:bR D):bR {D with ended:=true}:=
 ⟨ok.cb,ok.al,ok.ul,ok.ps,ok.jn,ok.bd,ok.aB,ok.cameb,ok.allb,ok.mode0,ok.modeE,ok.modeN,ok.bk⟩
structure On (T:List Nat×Nat×Nat) (n0:Nat) (D:DC) (z:List Nat):Prop where
 ok:bR D
 en:D.ended=true→z= []
 out:T=(D.all++(D.out true z).1,(D.out true z).2)
 size:D.size true z=n0
section
variable {T:List Nat×Nat×Nat} {n0:Nat} {D D1:DC} {z:List Nat} {x st e:Nat}
theorem On.Mq (o:On T n0 D z):ng D true z:=fun h=>⟨rfl,o.en h⟩
theorem On.ld (o:On T n0 D z):D.all.length≤T.1.length:=by rw [o.out,List.length_append];omega
theorem On.feed {y:List Nat} (o:On T n0 D (y++z)) (hz:D.ended=false) (hy: ∀x∈y,x<256):On T n0 {D with c:=D.c++y} z where
 ok:=o.ok.feed hy
 en:=fun h=>by rw [show D.ended=true from h] at hz;cases hz
 out:=by
  have:=o.out
  unfold DC.out DC.rest DC.left at this⊢
  rw [←List.append_assoc] at this
  exact this
 size:=by
  have:=o.size
  unfold DC.size at this⊢
  rw [←List.append_assoc] at this
  exact this
theorem On.stop (o:On T n0 D []):On T n0 {D with ended:=true} []:=⟨o.ok.stop,fun _=>rfl,o.out,o.size⟩
theorem On.call (o:On T n0 D z) (c:j5 D D1 x st e):On T n0 D1 z∧((st=1∧e=0∧x<256∧D1.all=D.all++ [x])∨(x=0∧D1.all=D.all∧((st=2∧D.ended=false)∨((st=3∨st=4)∧D1.Fin∧T=(D.all,st,e))))):=by
 have hz:=o.Mq
 have hsz:D1.size true z=n0:=(c.size true z hz).trans o.size
 have hen:D1.ended=true→z= []:=fun h=>o.en (by rw [←c.ended];exact h)
 rcases c.res with ⟨h1,h2,h3,h4,h5⟩|⟨h1,h2,h3,h4⟩
 ·refine ⟨⟨c.ok,hen,?_,hsz⟩,.inl ⟨h1,h2,h3,h4⟩⟩
  rw [o.out,h5 true z hz,h4]
  simp
 ·refine ⟨⟨c.ok,hen,by rw [o.out,h3 true z hz,h2],hsz⟩,.inr ⟨h1,h2,?_⟩⟩
  rcases h4 with ⟨a,b,c',d,e'⟩|⟨a,b,c',d⟩|⟨a,b,c',d⟩
  ·exact .inl ⟨a,c'⟩
  ·refine .inr ⟨.inl a,c',?_⟩
   rw [o.out,d true z hz,a,b];simp
  ·refine .inr ⟨.inr a,d,?_⟩
   have:D1.out true z=([],4,D1.e):=by unfold DC.out;rw [if_pos (by omega)]
   rw [o.out,←h3 true z hz,this,a,b];simp
theorem On.cost (o:On T n0 D1 z) (c:j5 D D1 x st e) (hm:D1.mode≠0):D.cost≤D1.cost∧D1.cost≤D.cost+bound n0 D1.mode:=by
 refine ⟨c.mor.cost,?_⟩
 have hn:PS.n D1.s=n0:=by
  have:=o.size
  unfold DC.size at this
  cases hh:bO D1.s with
  |true=>exact absurd (c.ok.mode0 hh) hm
  |false=>rw [hh] at this;simpa using this
 exact c.cost n0 (min n0 (bB D1.mode)) fun _=>⟨hn.symm,rfl⟩
end
end Go.Dcd
namespace Go.Proofs.YtgglghjnakclmaaGreat
open Go Go.Vc Go.Srt Go.Inc Go.Hd Go.aE Go.ag Go.Crc Go.Pol Go.Stm Go.Prs Go.Dcd
section
variable {E w:World} {F:List HP} {b:Nat}
theorem Gy {mode:Nat} {K:Int→Bool→World→Prop} (h1:1≤mode) (h3:mode≤3) (hK:K ((if mode=3 then 0 else bB mode:Nat):Int) (!(mode==3)) w):Cl Tryz.prog [kI,kB] iL ⟨[.int .u8 (mode:Int)]⟩ w K:=by
 have:mode=1∨mode=2∨mode=3:=by omega
 rcases this with rfl|rfl|rfl
 ·exact kb.ok _ _ _ (aa.t rfl hK)
 ·exact kb.ok _ _ _ (aa.f rfl (aa.t rfl hK))
 ·exact kb.ok _ _ _ (aa.f rfl (aa.f rfl hK))
theorem Fl {n:Int} {mode:Nat} {K:Int→Int→World→Prop} (h:Hp E w F) (hgood: ∀m:Nat,n=(m:Int)→jz m 2 mode→∀w',Hp E w' F→K (bound m mode:Int) 0 w') (hbad: ∀w',Hp E w' F→K 0 2 w'):
  Cl Tryz.prog [kI,kI] lk ⟨[.int .i64 n,.int .u8 (mode:Int)]⟩ w K:=by
 refine zz.ok _ _ _ _ (Dm (side:=2) h (fun m hm hs s w h=>aa.nf rfl ?_) (fun _ w h=>aa.nt (by decide) (hbad w h)))
 subst hm
 have hs':=hs
 obtain ⟨_,h1,h3,hm1,hm2⟩:=hs
 have fin: ∀d:Nat,d≤65536→min m d=min m (xH mode)→(i64 ((i64 ((8300:Int)+(i64 ((15:Int)*(i64 ((m:Int)+1))))))+(i64 ((i64 ((i64 ((2:Int)*(m:Int)))+1))*(if (d:Int)<(m:Int) then (d:Int) else (m:Int))))))=((bound m mode:Nat):Int):=fun d hd he=>by
  have e1:(if (d:Int)<(m:Int) then (d:Int) else (m:Int))=((min m d:Nat):Int):=by split<;>omega
  have hp:(2*m+1)*min m d≤131073*65536:=Nat.mul_le_mul (by omega) (by omega)
  rw [e1]
  unfold bound
  rw [←he]
  rw [ab (x:=(m:Int)+1) (by omega),ab (x:=(15:Int)*((m:Int)+1)) (by omega),ab (x:=(8300:Int)+(15:Int)*((m:Int)+1)) (by omega),ab (x:=(2:Int)*(m:Int)) (by omega),ab (x:=(2:Int)*(m:Int)+1) (by omega)]
  have e2:((2:Int)*(m:Int)+1)*((min m d:Nat):Int)=(((2*m+1)*min m d:Nat):Int):=by simp
  rw [e2]
  generalize (2*m+1)*min m d=q at hp⊢
  rw [ab (x:=(q:Int)) (by omega),ab (by omega)]
  omega
 refine Gy h1 h3 ?_
 have hK:=hgood m rfl hs' w (h.no 0)
 have:mode=1∨mode=2∨mode=3:=by omega
 rcases this with rfl|rfl|rfl
 ·refine aa.f rfl ?_
  have:=fin 8192 (by decide) rfl
  rw [show ((if (1:Nat)=3 then 0 else bB 1:Nat):Int)=((8192:Nat):Int) from rfl,this]
  exact hK
 ·refine aa.f rfl ?_
  have:=fin 1024 (by decide) rfl
  rw [show ((if (2:Nat)=3 then 0 else bB 2:Nat):Int)=((1024:Nat):Int) from rfl,this]
  exact hK
 ·refine aa.t rfl ?_
  have:=fin 1 (by decide) rfl
  rw [show ((1:Nat):Int)=(1:Int) from rfl] at this
  rw [this]
  exact hK
theorem Aa {c:List Nat} {s:Sl} {size:Int} {K:Sl→World→Prop} (h:Hp E w F) (hs:ah F (aQ 1 s (c.map vB))) (hcap:s.len≤s.cap) (hc:c.length≤600) (h1:1≤size) (h2:size≤700)
  (hK: ∀(ps:List (Sl×List Nat)) s' w',(ps.map Prod.snd).flatten=c→ps.length≤600→(∀w,aQ 1 s (c.map vB) w→∀x∈ps,aQ 1 x.1 (x.2.map vB) w)→Hp E w' (aC 1 s' (ps.map fun x=> .slice x.1.base x.1.len x.1.cap)::F)→K s' w'):
  Cl Tryz.prog [kS] kD ⟨[.slice s.base s.len s.cap,.int .i64 size]⟩ w K:=by
 refine CC.ok _ _ _ _ ?_
 have hlen:c.length=s.len:=by have:=(h.ao hs).1;simpa using this
 obtain ⟨k,rfl⟩: ∃k:Nat,size=(k:Int):=⟨size.toNat,by omega⟩
 refine ⟨fun o f w=> ∃(j:Nat) (ps:List (Sl×List Nat)),f=(j:Int)∧j≤1300∧(ps.map Prod.snd).flatten=c.take j∧ps.length≤j∧ps.length≤600∧(∀w,aQ 1 s (c.map vB) w→∀x∈ps,aQ 1 x.1 (x.2.map vB) w)∧Hp E w (aC 1 o (ps.map fun x=> .slice x.1.base x.1.len x.1.cap)::F),
  fun _ f _=>1300 - f.toNat,⟨0,[],rfl,by omega,by simp,by simp,by simp,(fun _ _ x hx=>by cases hx),h.bf 1⟩,?_⟩
 rintro o f w ⟨j,ps,rfl,hj,hfl,hpl,hpl2,hps,h⟩
 have ho:=h.cR
 rw [List.length_map,Nat.mul_one] at ho
 refine aa.dm (fun hlt=> ?_) (fun hge=> ?_)
 ·have hlt:j<c.length:=by omega
  rw [ab (by omega)]
  obtain ⟨m,hm,hm1,hm2,hm3⟩: ∃m:Nat,(if (s.len:Int)<(j:Int)+(k:Int) then (s.len:Int) else (j:Int)+(k:Int))=(m:Int)∧j<m∧m≤c.length∧c.take m=c.take (j+k):=by
   split
   ·exact ⟨s.len,rfl,by omega,by omega,by rw [List.take_of_length_le (by omega),List.take_of_length_le (by omega)]⟩
   ·exact ⟨j+k,by omega,by omega,by omega,rfl⟩
  rw [hm]
  refine bQ.F7 (h.ao hs.cons) (by omega) (by omega) (by omega) (by omega) (by omega) fun s1 hs1 hl1 hc1=> ?_
  rw [Int.toNat_natCast,Int.toNat_natCast,←List.map_drop,←List.map_take] at hs1
  refine Nw.mk h fun b1 w h=> ?_
  refine bZ (s:=o) (ys:= [.slice s1.base s1.len s1.cap]) (n:=1) J9 (by decide) (.inl ⟨26,by kernel_rfl⟩) (h.at 1) (.inl ⟨some ⟨b1,0,none⟩,1,1,rfl,rfl,h.ao (ah.aB rfl rfl)⟩) rfl (by intro y hy;rw [List.mem_singleton] at hy;subst hy;rfl) (by omega) (by omega) fun s2 w h _=> ?_
  refine ⟨⟨j+k,ps++ [(s1,(c.drop j).take (m - j))],by omega,by omega,?_,by rw [List.length_append];simp;omega,by rw [List.length_append];simp;omega,fun w hw x hx=> ?_,?_⟩,by first|omega|(dsimp only;omega)⟩
  ·rw [List.map_append,List.flatten_append,hfl,←hm3]
   simp only [List.map_cons,List.map_nil,List.flatten_cons,List.flatten_nil,List.append_nil]
   rw [←List.take_add,show j+(m - j)=m by omega]
  ·rcases List.mem_append.1 hx with hx|hx
   ·exact hps w hw x hx
   ·rw [List.mem_singleton] at hx;subst hx;exact hs1 w hw
  ·rw [List.map_append]
   exact h.no 1
 ·refine hK ps o w ?_ hpl2 hps h
  rw [hfl,List.take_of_length_le (by omega)]
end
end Go.Proofs.YtgglghjnakclmaaGreat
namespace Go.Proofs.YtgglghjnakclmaaGreat
open Go Go.Vc Go.Srt Go.Inc Go.Hd Go.aE Go.ag Go.Crc Go.Pol Go.Stm Go.Prs Go.Dcd
section
variable {E w:World} {F:List HP} {b:Nat}
theorem Fp {m mode:Nat} (h:m≤65536):bound m mode≤2000000000:=by
 have hd:xH mode≤8192:=by unfold xH;split<;>(try split)<;>omega
 have:=Nat.mul_le_mul (show 2*m+1≤131073 by omega) (show min m (xH mode)≤8192 by omega)
 unfold bound
 omega
theorem AI {s:Sl} {ps:List (Sl×List Nat)} {n:Int} {T:List Nat×Nat×Nat} {n0:Nat} {D:DC} {K:Sl→Int→Int→Bool→World→Prop} (h:Hp E w (bT b D::F)) (hg:ah F (H5 s ps)) (hb: ∀x∈ps,∀y∈x.2,y<256)
  (hl:D.c.length+(ps.map Prod.snd).flatten.length≤1000000) (hpl:ps.length≤1000000) (on:On T n0 D (ps.map Prod.snd).flatten) (hen:D.ended=false) (hall:D.all= []) (hT:T.1.length≤100000000000000) (hn:n=(n0:Int))
  (hK: ∀s' w',Hp E w' (OB s' T.1::F)→K s' (T.2.1:Int) (T.2.2:Int) true w'):
  Cl Tryz.prog [kS,ak .u8,kI,kB] kK ⟨[pD b,.slice s.base s.len s.cap,.int .i64 n]⟩ w K:=by
 refine Ee.ok _ _ _ _ _ ?_
 have hlen:ps.length=s.len:=by have:=(h.ao hg.cons).tab.1;simpa using this
 refine ⟨fun f g w=> ∃(k:Nat) (D1:DC),g=(k:Int)∧k≤ps.length∧On T n0 D1 ((ps.map Prod.snd).drop k).flatten∧D1.ended=false∧D1.c.length+((ps.map Prod.snd).drop k).flatten.length≤1000000∧Hp E w (OB f D1.all::bT b D1::F),fun _ g _=>ps.length+1 - g.toNat,⟨0,D,rfl,Nat.zero_le _,on,hen,hl,by rw [hall];exact h.bf 1⟩,?_⟩
 rintro f g w ⟨k,D1,rfl,hk,o,he,hcl,h⟩
 refine aa.dt (by omega) ?_
 refine aR.FY (fun w=> ∃D2,On T n0 D2 ((ps.map Prod.snd).drop (k+1)).flatten∧D2.all=D1.all∧(D2.ended=false→k<ps.length)∧D2.c.length+((ps.map Prod.snd).drop (k+1)).flatten.length≤1000000∧Hp E w (OB f D2.all::bT b D2::F)) (fun w=> ?_) fun r' hr'=> ?_
 ·rintro ⟨D2,o2,ha,hd2,hcl2,h⟩
  refine ⟨fun u w=> ∃D3,On T n0 D3 ((ps.map Prod.snd).drop (k+1)).flatten∧D3.ended=D2.ended∧D3.c=D2.c∧Hp E w (OB u D3.all::bT b D3::F),fun u _=>T.1.length - u.len,⟨D2,o2,rfl,rfl,h⟩,?_⟩
  rintro u w ⟨D3,o3,e3,c3,h⟩
  have hl3:=OB.len h
  have hle:=o3.ld
  refine sG (h.at 1) fun w h=>hU o3.ok h fun D4 x st e w c4 h=>z5 h ?_
  obtain ⟨o4,hc4⟩:=o3.call c4
  have hcost: ∀m:Nat,n=(m:Int)→jz m 2 D4.mode→¬(i64 (i64 (D4.cost:Int) - i64 (D3.cost:Int))>(bound m D4.mode:Int)):=fun m hm hs=>by
   have hm0:n0=m:=by omega
   have:=o4.cost c4 (by have:=hs.2.1;omega)
   have hbl:=Fp (mode:=D4.mode) hs.2.2.2.2
   rw [hm0] at this
   rw [FA,ab (by omega)]
   omega
  have fin: ∀w,Hp E w (bT b D4::OB u D3.all::F)→T=(D3.all,st,e)→K u (st:Int) (e:Int) true w:=fun w h hT4=>by
   have:=hK u w (by rw [hT4];exact h.no 0)
   rwa [hT4] at this
  refine Fl h (fun m hm hs w h=>aa.t rfl (sG h fun w h=>aa.df (hcost m hm hs) ?_)) (fun w h=>aa.f rfl ?_)
  all_goals
   rcases hc4 with ⟨rfl,rfl,hx,ha4⟩|⟨rfl,ha4,⟨rfl,hen3⟩|⟨hst,hfin,hT4⟩⟩
   ·have hle4:=o4.ld
    rw [ha4,List.length_append] at hle4
    refine aa.t rfl (Nw.mk h fun b5 w h=> ?_)
    refine bZ (s:=u) (ys:= [vB x]) (n:=1) BQ (by decide) (.inl ⟨5,by kernel_rfl⟩) (h.at 2) (.inl ⟨some ⟨b5,0,none⟩,1,1,rfl,rfl,h.ao (ah.aB rfl rfl)⟩) rfl (by intro y hy;rw [List.mem_singleton] at hy;subst hy;rfl) (by omega) (by omega) fun s2 w h hl2=> ?_
    refine ⟨⟨D4,o4,c4.ended.trans e3,c4.c.trans c3,?_⟩,by simp only [List.length_singleton] at hle4;dsimp only;omega⟩
    have e5:D3.all.map vB++ [vB x]=D4.all.map vB:=by rw [ha4,List.map_append];rfl
    rw [e5] at h
    have h9:=h.no 1
    exact h9
   ·have hk2:=hd2 (e3.symm.trans hen3)
    refine aa.f rfl (aa.f rfl (aa.ef (by omega) ?_))
    rw [ab (by omega)]
    refine ⟨⟨k+1,D4,by omega,by omega,o4,c4.ended.trans hen3,by rw [c4.c,c3];exact hcl2,by rw [ha4];exact h.at 1⟩,by first|omega|(dsimp only;omega)⟩
   ·have h1: ¬(st:Int)=1:=by omega
    have h2:((st:Int) !=2)=true:=bne_iff_ne.2 (by omega)
    refine aa.ef h1 (aa.t h2 ?_)
    rw [h2]
    exact fin w h hT4
 ·refine aa.dm (fun hlt=> ?_) (fun hge=> ?_)
  ·have hlt:k<ps.length:=by omega
   have hgw:=h.ao hg.cons.cons
   have hk3:k<(ps.map Prod.snd).length:=by rw [List.length_map];exact hlt
   have hdr:((ps.map Prod.snd).drop k).flatten=ps[k].2++((ps.map Prod.snd).drop (k+1)).flatten:=by
    rw [List.drop_eq_getElem_cons hk3,List.flatten_cons,List.getElem_map]
   rw [hdr] at o hcl
   rw [List.length_append] at hcl
   have hyb:=hb _ (List.getElem_mem hlt)
   refine aT.rd hgw.tab (by omega) (by omega) fun q _ hq=> ?_
   refine Ld.sc (s:= .sl) ps[k].1 (by rw [hq];simp [Sc.enc]) ?_
   refine Nw.mk h fun b1 w h=> ?_
   refine q9 (s:=⟨some ⟨b1,0,none⟩,1,1⟩) (cs:= [ps[k].1]) (bs:= [ps[k].2]) (h.at 2) (ah.aB rfl rfl) rfl (by rw [bX];simp) (fun i hi=>by
    have:i=0:=by simpa using hi
    subst this
    exact (hg.imp fun w hw=>hw.each _ (List.getElem_mem hlt)).cons.cons) (fun y hy=>by rw [List.mem_singleton] at hy;subst hy;exact hyb) (by rw [bX];simp;omega) fun w h=>hr' w ?_
   have e:(if D1.ended then D1.c else D1.c++ [ps[k].2].flatten)=D1.c++ps[k].2:=by rw [he];simp
   rw [e] at h
   refine ⟨_,o.feed he hyb,rfl,fun _=>hlt,by dsimp only;rw [List.length_append];omega,?_⟩
   have h9:=(h.no 1).at 1
   exact h9
  ·have hk2:k=ps.length:=by omega
   have hd1:((ps.map Prod.snd).drop k).flatten= []:=by rw [List.drop_of_length_le (by rw [List.length_map];omega)];rfl
   have hd2:((ps.map Prod.snd).drop (k+1)).flatten= []:=by rw [List.drop_of_length_le (by rw [List.length_map];omega)];rfl
   rw [hd1] at o hcl
   refine DN (h.at 1) fun w h=>hr' w ⟨{D1 with ended:=true},by rw [hd2];exact o.stop,rfl,(fun h=>by cases h),by rw [hd2];exact hcl,?_⟩
   have h9:=h.at 1
   exact h9
abbrev nk:List Nat:= [87,80,1,130,44,0,0,0,0,0]
theorem wi:bg true nk= [.hdr 300,.tail 0,.fin]:=by decide+kernel
theorem Gh:bg false nk= [.hdr 300,.tail 0]:=by decide+kernel
theorem wg: ∀x∈nk,x<256:=by decide
theorem zY:dU []=0:=by decide
def DC.ex (B:Nat):DC:={DC.new B with c:=nk}
theorem tC:gX 300 300=true∧gX 299 300=false:=by decide
theorem tv (B:Nat) (en:Bool):(DC.ex B).out en []=dec (gX B) (bg en nk) 0 0 [] []:=by
 unfold DC.out DC.rest DC.left DC.ex DC.new
 dsimp only
 rw [if_neg (by decide),List.append_nil,ko wg]
 rfl
theorem GP:(DC.ex 300).out true []=([],3,0):=by
 rw [tv,wi,dec,if_pos tC.1,dec,if_pos zY.symm,dec]
theorem HD:(DC.ex 300).out false []=([],2,0):=by
 rw [tv,Gh,dec,if_pos tC.1,dec,if_pos zY.symm,dec]
theorem Ho:(DC.ex 299).out true []=([],4,230):=by
 rw [tv,wi,dec,if_neg (by rw [tC.2];decide)]
theorem GJ:(DC.ex 299).out false []=([],4,230):=by
 rw [tv,Gh,dec,if_neg (by rw [tC.2];decide)]
theorem HX (B:Nat):(DC.ex B).size true []=300:=by
 unfold DC.size DC.ex DC.new
 dsimp only
 rw [if_pos (by rfl),List.append_nil,ko wg,wi]
theorem F5 (B:Nat) {T:List Nat×Nat×Nat} (hT:(DC.ex B).out true []=T):On T 300 (DC.ex B) [] where
 ok:=(DC.yb B).feed (y:=nk) wg
 en:=fun h=>by cases h
 out:=by rw [hT];rfl
 size:=HX B
theorem G2 (B:Nat):(DC.ex B).Calm:=by
 refine ⟨rfl,rfl,fun M P q hm=> ?_⟩
 have:Ev.aB M P q∈cw true nk (.head ⟨0,0⟩) 0:=hm
 rw [ko wg,wi] at this
 simp at this
theorem On.n {T:List Nat×Nat×Nat} {n0:Nat} {D:DC} {z:List Nat} (o:On T n0 D z) (hm:D.mode≠0):PS.n D.s=n0:=by
 have:=o.size
 unfold DC.size at this
 cases hh:bO D.s with
 |true=>exact absurd (o.ok.mode0 hh) hm
 |false=>rw [hh] at this;simpa using this
theorem m8 {K:Bool→World→Prop} (h:Hp E w F) (hK: ∀w',Hp E w' F→K true w'):Cl Tryz.prog [kB] eA ⟨[]⟩ w K:=by
 refine zc.ok _ _ (Nw.mk h fun b0 w h=>tH (n:=300) h (by decide) (by decide) fun d w h=>tH (n:=299) h (by decide) (by decide) fun g w h=>IM (n:=0) (by omega) ?_)
 rw [aV];dsimp only
 rw [aV];dsimp only
 refine aa.f rfl (aa.f rfl (aa.f rfl (aa.f rfl (aa.f rfl ?_))))
 refine uo (h.at 1) (aU.mk h fun w h=> ?_)
 have hb0: ∀{A B:HP} {G:List HP},ah (A::B::ag b0 (.cells ⟨[.int .u8 87,.int .u8 80,.int .u8 1,.int .u8 130,.int .u8 44,.int .u8 0,.int .u8 0,.int .u8 0,.int .u8 0,.int .u8 0]⟩ 5 (0,0))::G) (aQ 1 ⟨some ⟨b0,0,none⟩,10,10⟩ (nk.map vB)):=ah.at 2 (ah.aB rfl rfl)
 refine bQ.F7 (h.ao hb0) (by decide) (by decide) (by dsimp only;omega) (by decide) (by dsimp only;omega) fun s1 hs1 _ _=> ?_
 refine bQ.F7 (h.ao hb0) (by decide) (by decide) (by dsimp only;omega) (by decide) (by dsimp only;omega) fun s2 hs2 _ _=> ?_
 refine Nw.mk h fun b1 w h=> ?_
 have hs1': ∀w,aQ 1 ⟨some ⟨b0,0,none⟩,10,10⟩ (nk.map vB) w→aQ 1 s1 (([87,80,1]:List Nat).map vB) w:=hs1
 have hs2': ∀w,aQ 1 ⟨some ⟨b0,0,none⟩,10,10⟩ (nk.map vB) w→aQ 1 s2 (([130,44,0,0,0,0,0]:List Nat).map vB) w:=hs2
 refine q9 (D:=DC.new 300) (s:=⟨some ⟨b1,0,none⟩,2,2⟩) (cs:= [s1,s2]) (bs:= [[87,80,1],[130,44,0,0,0,0,0]]) (h.at 2) (ah.aB rfl rfl) rfl (by rw [bX];simp) (fun i hi=>by
  have:i=0∨i=1:=by simp at hi;omega
  rcases this with rfl|rfl
  ·exact (hb0 (A:=ag b1 _)).imp hs1'
  ·exact (hb0 (A:=ag b1 _)).imp hs2') (by decide) (by rw [bX];decide) fun w h=> ?_
 have h:Hp E w (bT d (DC.ex 300)::ag b1 (.cells ⟨[.slice s1.base s1.len s1.cap,.slice s2.base s2.len s2.cap]⟩ 26 (0,0))::bT g (DC.new 299)::ag b0 (.cells ⟨[.int .u8 87,.int .u8 80,.int .u8 1,.int .u8 130,.int .u8 44,.int .u8 0,.int .u8 0,.int .u8 0,.int .u8 0,.int .u8 0]⟩ 5 (0,0))::F):=h
 have o0:=F5 300 GP
 refine hU o0.ok h fun D1 x1 st1 e1 w c1 h=> ?_
 obtain ⟨o1,r1⟩:=o0.call c1
 have hst1:st1=2∧e1=0∧D1.u=80:=by
  rcases c1.res with ⟨_,_,_,ha,_⟩|⟨_,_,_,⟨a,b,_,d,_⟩|⟨_,_,_,d⟩|⟨a,b,_,d⟩⟩
  ·have:=o1.ld
   rw [ha] at this
   simp at this
  ·exact ⟨a,b,d⟩
  ·have:=d false [] (fun h=>by cases h)
   rw [HD] at this
   cases this
  ·rcases r1 with ⟨q,_⟩|⟨_,_,⟨q,_⟩|⟨_,_,q⟩⟩
   ·omega
   ·omega
   ·injection q with _ q
    injection q with q _
    omega
 obtain ⟨rfl,rfl,hu1⟩:=hst1
 have hen1:D1.ended=false:=c1.ended
 have cm1:=c1.mor.calm (G2 300)
 refine DN h fun w h=>Nw.mk h fun b2 w h=> ?_
 refine q9 (s:=⟨some ⟨b2,0,none⟩,1,1⟩) (cs:= [⟨some ⟨b0,0,none⟩,10,10⟩]) (bs:= [nk]) (h.at 1) (ah.aB rfl rfl) rfl (by rw [bX];simp) (fun i hi=>by
  have:i=0:=by simpa using hi
  subst this
  exact (hb0 (A:=ag b1 _)).cons) (by decide) (by rw [c1.c,bX];decide) fun w h=> ?_
 have h:Hp E w (bT d {D1 with ended:=true}::_):=h
 have o1':=o1.stop
 refine hU o1'.ok h fun D2 x2 K6 e2 w c2 h=> ?_
 obtain ⟨o2,r2⟩:=o1'.call c2
 have hst2:K6=3∧e2=0∧D2.Fin:=by
  rcases r2 with ⟨_,_,_,ha⟩|⟨_,_,⟨_,q⟩|⟨_,f,q⟩⟩
  ·have:=o2.ld
   rw [ha] at this
   simp at this
  ·cases q
  ·injection q with _ q
   injection q with q1 q2
   exact ⟨q1.symm,q2.symm,f⟩
 obtain ⟨rfl,rfl,hf2⟩:=hst2
 refine hU o2.ok h fun D3 x3 Io e3 w c3 h=> ?_
 obtain ⟨o3,r3⟩:=o2.call c3
 have hD3:=c3.fin hf2
 have hst3:Io=3∧e3=0:=by
  rcases r3 with ⟨_,_,_,ha⟩|⟨_,_,⟨_,q⟩|⟨_,f,q⟩⟩
  ·have:=o3.ld
   rw [ha] at this
   simp at this
  ·rw [c2.ended] at q;cases q
  ·injection q with _ q
   injection q with q1 q2
   exact ⟨q1.symm,q2.symm⟩
 obtain ⟨rfl,rfl⟩:=hst3
 have cm2:=c2.mor.calm (show ({D1 with ended:=true}:DC).Calm from cm1.1)
 have cm3:=c3.mor.calm cm2.1
 have hm3:D3.mode=2∧PS.n D3.s=300:=by
  have hfin3:D3.Fin:=by rw [hD3];exact hf2
  rcases hfin3 with h0|⟨_,n,hs⟩
  ·have:=o3.out
   unfold DC.out at this
   rw [if_pos h0] at this
   injection this with _ q
   injection q with q _
   cases q
  ·have hne:D3.mode≠0:=by
    refine o3.ok.modeE ?_ (by rw [hs];rfl)
    have:=o3.out
    unfold DC.out at this
    by_cases h0:D3.e=0
    ·exact h0
    ·rw [if_pos h0] at this
     injection this with _ q
     injection q with q _
     cases q
   have hn:=On.n o3 hne
   have:=(o3.ok.modeN hne).1
   rw [hn,c3.budget,c2.budget,show ({D1 with ended:=true}:DC).budget=D1.budget from rfl,c1.budget] at this
   exact ⟨this,hn⟩
 have hcost:D3.cost=80:=by
  have hc3:D3.c=nk:=c3.c.trans (c2.c.trans c1.c)
  have h1:=c3.mor.u
  have h2:=c2.mor.u
  have h3:=o3.ok.ul
  rw [hc3] at h3
  have h4:({D1 with ended:=true}:DC).u=D1.u:=rfl
  have h5:({D1 with ended:=true}:DC).steps=D1.steps:=rfl
  have h6:(DC.ex 300).steps=0:=rfl
  have h7:8*nk.length=80:=rfl
  rw [gz cm3.1.1,cm3.2,cm2.2,h5,cm1.2,h6]
  omega
 have hall3:D3.all.length=0:=by
  have:=o3.ld
  simp at this
  rw [this];rfl
 refine Nw.mk h fun b3 w h=> ?_
 have hdl: ∀{w},Hp E w (ag b3 (.cells ⟨[.slice (some ⟨b0,0,none⟩) 10 10]⟩ 26 (0,0))::bT d D3::ag b2 (.cells ⟨[.slice (some ⟨b0,0,none⟩) 10 10]⟩ 26 (0,0))::ag b1 (.cells ⟨[.slice s1.base s1.len s1.cap,.slice s2.base s2.len s2.cap]⟩ 26 (0,0))::bT g (DC.new 299)::ag b0 (.cells ⟨[.int .u8 87,.int .u8 80,.int .u8 1,.int .u8 130,.int .u8 44,.int .u8 0,.int .u8 0,.int .u8 0,.int .u8 0,.int .u8 0]⟩ 5 (0,0))::F)→Hp E w (bT g (DC.new 299)::ag b3 (.cells ⟨[.slice (some ⟨b0,0,none⟩) 10 10]⟩ 26 (0,0))::bT d D3::ag b0 (.cells ⟨[.int .u8 87,.int .u8 80,.int .u8 1,.int .u8 130,.int .u8 44,.int .u8 0,.int .u8 0,.int .u8 0,.int .u8 0,.int .u8 0]⟩ 5 (0,0))::F):=fun h=>((h.no 2).no 2).at 2
 have h:=hdl h
 refine q9 (D:=DC.new 299) (s:=⟨some ⟨b3,0,none⟩,1,1⟩) (cs:= [⟨some ⟨b0,0,none⟩,10,10⟩]) (bs:= [nk]) h (ah.aB rfl rfl) rfl (by rw [bX];simp) (fun i hi=>by
  have:i=0:=by simpa using hi
  subst this
  exact hb0) (by decide) (by rw [bX];decide) fun w h=> ?_
 have h:Hp E w (bT g (DC.ex 299)::ag b3 (.cells ⟨[.slice (some ⟨b0,0,none⟩) 10 10]⟩ 26 (0,0))::bT d D3::ag b0 (.cells ⟨[.int .u8 87,.int .u8 80,.int .u8 1,.int .u8 130,.int .u8 44,.int .u8 0,.int .u8 0,.int .u8 0,.int .u8 0,.int .u8 0]⟩ 5 (0,0))::F):=h
 have p0:=F5 299 Ho
 refine hU p0.ok h fun D4 x4 st4 e4 w c4 h=> ?_
 obtain ⟨p1,r4⟩:=p0.call c4
 have hst4:st4=4∧e4=230∧D4.Fin:=by
  rcases c4.res with ⟨_,_,_,ha,_⟩|⟨_,_,_,⟨_,_,_,_,d⟩|⟨a,_,_,_⟩|⟨a,_,_,f⟩⟩
  ·have:=p1.ld
   rw [ha] at this
   simp at this
  ·rw [GJ] at d;cases d
  ·rcases r4 with ⟨q,_⟩|⟨_,_,⟨q,_⟩|⟨_,_,q⟩⟩
   ·omega
   ·omega
   ·injection q with _ q
    injection q with q _
    omega
  ·rcases r4 with ⟨q,_⟩|⟨_,_,⟨q,_⟩|⟨_,_,q⟩⟩
   ·omega
   ·omega
   ·injection q with _ q
    injection q with q1 q2
    exact ⟨q1.symm,q2.symm,f⟩
 obtain ⟨rfl,rfl,hf4⟩:=hst4
 refine hU p1.ok h fun D5 x5 st5 e5 w c5 h=> ?_
 obtain ⟨p2,r5⟩:=p1.call c5
 have hst5:st5=4∧e5=230:=by
  rcases c5.res with ⟨_,_,_,ha,_⟩|⟨_,_,_,⟨_,_,_,_,d⟩|⟨a,_,_,_⟩|⟨a,_,_,f⟩⟩
  ·have:=p2.ld
   rw [ha] at this
   simp at this
  ·have hD:=c5.fin hf4
   have h0:D4.e≠0:=by
    rcases hf4 with h0|⟨hb4,n,hs⟩
    ·exact h0
    ·intro h0
     have:=p1.out
     unfold DC.out DC.rest at this
     rw [if_neg (by omega),hs,dX (e:= .fin) (s':= .aq n) (u':=D4.u) (by unfold ax;rfl) rfl,dec] at this
     injection this with _ q
     injection q with q _
     cases q
   unfold DC.out at d
   rw [if_pos h0] at d
   cases d
  ·rcases r5 with ⟨q,_⟩|⟨_,_,⟨q,_⟩|⟨_,_,q⟩⟩
   ·omega
   ·omega
   ·injection q with _ q
    injection q with q _
    omega
  ·rcases r5 with ⟨q,_⟩|⟨_,_,⟨q,_⟩|⟨_,_,q⟩⟩
   ·omega
   ·omega
   ·injection q with _ q
    injection q with q1 q2
    exact ⟨q1.symm,q2.symm⟩
 obtain ⟨rfl,rfl⟩:=hst5
 have hm5:D5.mode=0:=by
  by_cases hm:D5.mode=0
  ·exact hm
  ·have hn:=On.n p2 hm
   have:=(p2.ok.modeN hm).1
   rw [hn,c5.budget,c4.budget] at this
   exact absurd (this.trans (show bz (DC.ex 299).budget 300 2=0 by decide)) hm
 refine gH.ok _ _ _ (aa.t rfl ?_)
 refine aa.t rfl (aa.t rfl (aa.t rfl (aa.t rfl (aa.t (by rw [hen1];rfl) (aa.t rfl (aa.t rfl (aa.t rfl (aa.t rfl (aa.t rfl ?_)))))))))
 refine uo (h.at 2) ?_
 rw [hm3.1,hm3.2]
 refine aa.t (by decide) (z5 (h.at 2) ?_)
 rw [hm3.1]
 refine aa.t rfl (sG (h.at 2) fun w h=> ?_)
 rw [hcost]
 refine aa.t (by decide) (HE h ?_)
 rw [hall3]
 refine aa.t (by decide) (aa.t rfl (aa.t rfl (aa.t rfl (aa.t rfl (uo (h.at 1) ?_)))))
 rw [hm5,if_pos rfl]
 refine aa.t rfl (aa.t rfl (aa.t rfl (jB.ok none ⟨none,0,0⟩ _ _ (aa.f rfl (aa.t rfl (jj.ok _ _ _ (aa.t rfl (hK _ ?_))))))))
 have h9:=(((h.no 0).no 0).no 0).no 0
 exact h9
end
end Go.Proofs.YtgglghjnakclmaaGreat
namespace Go.Bw
open Go Go.Vc Go.Rk
end Go.Bw
namespace Go.Proofs.YtgglghjnakclmaaGreat
open Go Go.Vc
section
variable {w:World}
set_option maxRecDepth 200000 in
theorem Gg {s:Sl} {b:List Nat} {K:ByteArray→World→Prop} (hs:aQ 1 s (b.map vB) w) (hK:K (strOf b) w):aw Tryz.prog (convert 26 9 (.slice s.base s.len s.cap)) B4 w K:=
 CN (s:=s) (b:=b) (e:=5) (by kernel_rfl) (by kernel_rfl) (by kernel_rfl) hs hK
end
end Go.Proofs.YtgglghjnakclmaaGreat
namespace Go.Stm
open Go.Inc Go.Srt Go.Sym Go.aE Go.Tab Go.Hd Go.Crc Go.Bw Go.ag Go.Proofs.YtgglghjnakclmaaGreat
end Go.Stm
namespace Go.Proofs.YtgglghjnakclmaaGreat
open Go Go.Vc Go.Srt Go.Inc Go.Sym Go.Tab Go.Hd Go.Bw Go.aE Go.ag Go.Crc Go.Stm
section
variable {E w:World} {F:List HP}
theorem Mc (x:List Nat):((strOf x).toList==(strOf x).toList)=true:=by simp
end
end Go.Proofs.YtgglghjnakclmaaGreat
namespace Go.Prs
open Go.Inc Go.Srt Go.Sym Go.aE Go.Tab Go.Hd Go.Crc Go.Bw Go.ag Go.Stm
theorem nH {l:List Nat}: ∀{b:List Nat} {k m:Nat} {d:DS} {bg:List Ev} {e:Nat},bW l k m d b=(bg,.bad e)→e=160
 | [],_,_,_,_,_,h=>by simp [bW] at h
 |x::b,k,m,d,bg,e,h=>by
  rw [bW] at h
  cases hf:cU l (2*k+x) (m+1) with
  |none=>rw [hf] at h;exact nH h
  |some y=>
   rw [hf] at h
   dsimp only at h
   cases hd:cc d y with
   |none=>rw [hd] at h;dsimp only at h;injection h with _ h;injection h with h;omega
   |some p=>
    obtain ⟨d',t,en⟩:=p
    rw [hd] at h
    cases en with
    |true=>dsimp only at h;injection h with _ h;cases h
    |false=>
     dsimp only at h
     injection h with _ h
     exact nH (bg:=(bW l 0 0 d' b).1) (Prod.ext rfl h)
end Go.Prs
namespace Go.Proofs.YtgglghjnakclmaaGreat
open Go Go.Vc Go.Srt Go.Inc Go.Sym Go.Tab Go.Hd Go.Bw Go.aE Go.ag Go.Crc Go.Prs
section
variable {E w:World} {F:List HP}
theorem Bl {M:Nat} {s:Sl} {c:List Nat} {ended:Bool} {K:Sl→Sl→Bool→World→Prop} (h:Hp E w F) (hM:1≤M) (hM2:M≤65536) (hs:ah F (aQ 1 s (c.map vB))) (hb: ∀y∈c,y<256) (hbig:c.length≤10000000) (hcap:s.len≤s.cap)
  (hno:(j7 ended M c).2=none→∀s1 w',Hp E w' (cm s1 (j7 ended M c).1::F)→K s1 ⟨none,0,0⟩ false w')
  (hyes: ∀behind,(j7 ended M c).2=some behind→∀s1 s2 w',(∀w,aQ 1 s (c.map vB) w→aQ 1 s2 (behind.map vB) w)→s2.len≤s2.cap→Hp E w' (cm s1 (j7 ended M c).1::F)→K s1 s2 true w'):
  Cl Tryz.prog [kS,kS,kB] lC ⟨[.int .i64 (M:Int),.slice s.base s.len s.cap,.bool ended]⟩ w K:=by
 refine zm.ok _ _ _ _ _ ?_
 have hlen:c.length=s.len:=by have:=(h.ao hs).1;simpa using this
 refine H7 h hs hb (by omega) fun s5 w h=> ?_
 have hal:=bx c
 have hab: ∀x∈aN c,x≤1:=fun x hx=>by have:=zH c (8*c.length) x hx;omega
 have hl5:=OI.len h
 have hc5:=h.nR
 unfold j7 at hno hyes
 refine C6 h ah.own hab (by rw [bX];omega) (fun t w hq h=> ?_) (fun w hq h=> ?_) (fun l more w hq h=> ?_)
 ·rw [hq] at hno
  refine Nw.mk h fun b11 w h=>aj.q h (by simp) (by simp) (by decide) fun w h=>aa.t rfl ?_
  exact lV (s:=⟨none,0,0⟩) (es:= []) (cm.nil h) (Nat.zero_le _) fun s' w h=>hno rfl s' w h.cx
 ·rw [hq] at hno
  refine Nw.mk h fun b11 w h=>aj.q h (by simp) (by simp) (by decide) fun w h=>aa.f rfl (aa.t rfl (Nw.mk h fun b16 w h=> ?_))
  exact hno rfl _ w (BE (e:= .bad 100) rfl h).cx
 ·rw [hq] at hno hyes
  dsimp only at hno hyes
  obtain ⟨hl,hokT⟩:=xN _ t0 c8.zero hab hq
  obtain ⟨a2,hsuf2⟩:=lW _ t0 hq
  have hls:(ai .u8 l).size=258:=by rw [cj,hl]
  have hlc:(ai .u8 l).toList.all ay=true:=List.all_eq_true.2 lh
  have hmore:more=(aN c).drop ((aN c).length - more.length):=by
   conv=>rhs;rw [hsuf2]
   rw [List.length_append,show a2.length+more.length - more.length=a2.length by omega,List.drop_left]
  have hml:more.length≤(aN c).length:=by rw [hsuf2,List.length_append];omega
  refine Nw.mk h fun b11 w h=>aj.q h (by simp) hls hlc fun w h=>aa.f rfl (aa.nf rfl (aU.mk h fun w h=>Ld.xw h hls ?_))
  have e12: ∀k:Nat,(((ints (aN c)).map vI).drop k)=(ints ((aN c).drop k)).map vI:=fun k=>by simp [ints]
  refine bQ.rd ((h.at 1).ao ah.own) (by omega) (by omega) (by omega) (by omega) (by omega) fun s32 hs32 hl32=> ?_
  simp only [Int.toNat_natCast] at hs32 hl32
  rw [e12,←hmore,List.take_of_length_le (by simp [ints];omega)] at hs32
  have hmb: ∀x∈more,x≤1:=fun x hx=>hab x (by rw [hsuf2];exact List.mem_append.2 (.inr hx))
  refine FF h hl hokT hM hM2 ((ah.at 1 ah.own).imp fun w hw=>hs32 w hw) hmb (by omega) fun s21 w h=> ?_
  cases hS:bW l 0 0 ⟨List.range 256,M,0,0⟩ more with
  |mk bg r=>
   rw [hS] at h hno hyes
   have hel:=cm.len h
   have hevs:bg.length≤1000000000:=by
    have key: ∀(b:List Nat) (k m:Nat) (d:DS),(bW l k m d b).1.length≤b.length:=fun b=>by
     induction b with
     |nil=>intro k m d;simp [bW]
     |cons x b ih=>
      intro k m d
      rw [bW]
      cases cU l (2*k+x) (m+1) with
      |none=>exact Nat.le_trans (ih _ _ _) (by simp)
      |some y=>
       dsimp only
       cases cc d y with
       |none=>simp
       |some p=>
        obtain ⟨d',t,en⟩:=p
        cases en with
        |true=>dsimp only;split<;>simp
        |false=>
         dsimp only
         have:=ih 0 0 d'
         split
         ·rw [List.length_cons];omega
         ·rw [List.length_cons,List.length_cons];omega
    have:=key more 0 0 ⟨List.range 256,M,0,0⟩
    rw [hS] at this
    dsimp only at this
    omega
   cases r with
   |short=>
    dsimp only at hno⊢h
    refine aa.nf rfl (aa.F9 ?_)
    exact lV h hevs fun s' w h=>hno rfl s' w h.cx
   |bad e=>
    dsimp only at hno⊢h
    have h160:=nH hS
    subst h160
    refine aa.nt (by decide) (Nw.mk h fun b26 w h=>fT (e:= .bad 160) rfl (h.at 1) hevs fun s' w h=>hno rfl s' w h.cx)
   |fin left=>
    dsimp only at hno hyes⊢h
    obtain ⟨⟨a3,hsuf3⟩,hll2⟩:=pn _ _ _ _ _ _ _ hS
    have hleft:left=(aN c).drop ((aN c).length - left.length):=by
     conv=>rhs;rw [hsuf2,hsuf3]
     rw [←List.append_assoc,List.length_append,show (a2++a3).length+left.length - left.length=(a2++a3).length by omega,List.drop_left]
    have hlb1: ∀x∈left,x≤1:=fun x hx=>hmb x (by rw [hsuf3];exact List.mem_append.2 (.inr hx))
    have hpad:=DR hlb1
    obtain ⟨p,hp⟩: ∃p,p=(aN c).length - left.length:=⟨_,rfl⟩
    have e1:(((aN c).length - more.length:Nat):Int)+((more.length - left.length:Nat):Int)=(p:Int):=by omega
    rw [e1,ab (x:=(p:Int)) (by omega)]
    refine aa.nf rfl (aa.vG ?_)
    refine ⟨fun at_ w=> ∃q:Nat,at_=(q:Int)∧p≤q∧q≤8*((p+7)/8)∧1∉left.take (q - p)∧
     Hp E w (cm s21 bg::ag b11 (.cells (ai .u8 l) 104 (0,0))::OI s5 (aN c)::F),fun at_ _=>8*((p+7)/8) - at_.toNat,⟨p,rfl,by omega,by omega,by simp,h⟩,?_⟩
    rintro at_ w ⟨q,rfl,hq1,hq8,hno1,h⟩
    rw [show Int.tmod (q:Int) 8=((q % 8:Nat):Int) from rfl]
    refine ⟨by decide,aa.nm (fun hm8=> ?_) (fun hm8=> ?_)⟩
    ·have hqlt:q<(aN c).length:=by omega
     have hql:q - p<left.length:=by omega
     have he:(aN c)[q]=left[q - p]:=by
      have:=List.getElem?_eq_getElem hqlt
      have h2:left[q - p]? =(aN c)[q]? :=by
       conv=>lhs;rw [hleft]
       rw [List.getElem?_drop,←hp,show p+(q - p)=q by omega]
      rw [this,List.getElem?_eq_getElem hql] at h2
      exact (Option.some.inj h2).symm
     refine aT.rI (j:=q) ((h.at 2).ao ah.own) rfl hqlt (aa.em (fun h1=> ?_) (fun h1=> ?_))
     ·have hpo:1∈left.take (left.length % 8):=by
       have hl1:left[q - p]=1:=by omega
       rw [←hl1]
       exact List.mem_take_iff_getElem.2 ⟨q - p,by omega,rfl⟩
      rw [hpad,decide_eq_true hpo] at hno
      exact Nw.mk h fun b38 w h=>fT (e:= .bad 160) rfl (h.at 1) hevs fun s' w h=>hno rfl s' w h.cx
     ·rw [ab (by omega)]
      refine ⟨⟨q+1,rfl,by omega,by omega,?_,h⟩,by first|omega|(dsimp only;omega)⟩
      rw [show q+1 - p=(q - p)+1 by omega,List.take_add_one,List.getElem?_eq_getElem hql]
      intro hm
      rcases List.mem_append.1 hm with hm|hm
      ·exact hno1 hm
      ·simp at hm;omega
    ·have hq9:q=8*((p+7)/8):=by omega
     rw [show q - p=left.length % 8 by omega] at hno1
     rw [hpad,decide_eq_false hno1] at hyes
     simp only [Bool.not_false,if_true] at hyes
     refine aU.mk h fun w h=>⟨by decide,?_⟩
     rw [show Int.tdiv (q:Int) 8=((q/8:Nat):Int) from rfl,ab (by omega)]
     refine bQ.F7 (h.ao hs.cons.cons.cons) (by omega) (by omega) (by omega) (by omega) (by omega) fun s42 hs42 hl42 hc42=> ?_
     simp only [Int.toNat_natCast] at hs42 hl42
     refine Nw.mk h fun b44 w h=>fT (e:= .bend) rfl (h.at 1) hevs fun s' w h=>hyes _ rfl s' s42 w (fun w' hw=> ?_) hc42 h.cx
     have:=hs42 w' hw
     rw [←List.map_drop,←List.map_take,List.take_of_length_le (by rw [List.length_drop];omega)] at this
     rw [show c.length - left.length/8=q/8 by omega]
     exact this
end
end Go.Proofs.YtgglghjnakclmaaGreat
namespace Go.Prs
open Go.Inc Go.Srt Go.Sym Go.aE Go.Tab Go.Hd Go.Crc Go.Bw Go.ag Go.Stm
theorem AH {ended:Bool} {c:List Nat} (hc: ∀x∈c,x<256):(Prs.bg ended c).length≤8*c.length+1:=by
 rw [←ko hc]
 have:=GS (ended:=ended) (c:=c) _ (.head ⟨0,0⟩) 0 rfl (Nat.zero_le _) rfl
 obtain ⟨h1,_,_,_,h5⟩:=this
 have hp:a5 c (.head ⟨0,0⟩) 0=8*c.length:=by unfold a5;simp
 rw [hp] at h1
 revert h5
 cases (dz ended c (.head ⟨0,0⟩) 0).2.1 with
 |none=>rintro ⟨_,_,h,_⟩;rw [h];omega
 |some e=>rintro ⟨_,h,_⟩;rw [h,List.length_append,List.length_singleton];omega
end Go.Prs
namespace Go.Proofs.YtgglghjnakclmaaGreat
open Go Go.Vc Go.Srt Go.Inc Go.Sym Go.Tab Go.Hd Go.Bw Go.aE Go.ag Go.Crc Go.Prs
section
variable {E w:World} {F:List HP}
theorem CH {s:Sl} {c:List Nat} {ended:Bool} {K:Sl→World→Prop} (h:Hp E w F) (hs:ah F (aQ 1 s (c.map vB))) (hb: ∀y∈c,y<256) (hbig:c.length≤1000000) (hcap:s.len≤s.cap)
  (hK: ∀s' w',Hp E w' (cm s' (Prs.bg ended c)::F)→K s' w'):Cl Tryz.prog [kS] kn ⟨[.slice s.base s.len s.cap,.bool ended]⟩ w K:=by
 refine xP.ok _ _ _ _ ?_
 have hN:=AH (ended:=ended) hb
 obtain ⟨R,hR⟩: ∃R,R=Prs.bg ended c:=⟨_,rfl⟩
 rw [←hR] at hK hN
 unfold Prs.bg at hR
 refine DO h hs hb (by omega) hcap (fun t w hr h=> ?_) (fun e w hr h0 h=> ?_) (fun n r s5 w hr h=> ?_)
 ·rw [hr] at hR
  subst hR
  refine Nw.mk h fun b8 w h=> ?_
  (with_reducible refine ad.xw h rfl rfl (fun w h=> ?_))
  refine aa.t rfl (lV (s:=⟨none,0,0⟩) (es:= []) (cm.nil h) (Nat.zero_le _) fun s' w h=>hK s' w h.cx)
 ·rw [hr] at hR
  subst hR
  refine Nw.mk h fun b8 w h=> ?_
  (with_reducible refine ad.xw h rfl rfl (fun w h=> ?_))
  by_cases h50:e=50
  ·exfalso
   subst h50
   obtain ⟨t',a,ha⟩: ∃(t':HS) (a:Nat),aZ t' a= .bad 50:=by
    have key: ∀(l:List Nat) (t:HS),run aZ t l= .bad 50→∃(t':HS) (a:Nat),aZ t' a= .bad 50:=fun l=>by
     induction l with
     |nil=>intro t h;cases h
     |cons a l ih=>
      intro t h
      rw [cI] at h
      cases hs:aZ t a with
      |more s'=>rw [hs] at h;exact ih s' h
      |fin b=>rw [hs] at h;cases h
      |bad q=>rw [hs] at h;cases h;exact ⟨t,a,hs⟩
    exact key c _ hr
   unfold aZ at ha
   repeat' (first
    |(cases ha;done)
    |(injection ha with ha;split at ha<;>omega)
    |split at ha)
  ·exact aa.ef (by omega) (aa.nt (by omega) (Nw.mk h fun b13 w h=>hK _ w (BE (e:= .bad e) rfl h).cx))
 ·rw [hr] at hR
  dsimp only at hR
  have hn:=sL c ⟨0,0⟩ ⟨by decide,fun _=>rfl,by decide⟩ hb hr
  obtain ⟨a,hsuf⟩:=lW c _ hr
  have hrb: ∀y∈r,y<256:=fun y hy=>hb y (by rw [hsuf];exact List.mem_append.2 (.inr hy))
  have hrl:r.length≤c.length:=by rw [hsuf,List.length_append];omega
  have hc5:=h.nR
  refine Nw.mk h fun b8 w h=> ?_
  (with_reducible refine ad.xw h rfl rfl (fun w h=> ?_))
  refine aa.f rfl (aa.nf rfl (Ld.xb (b:=b8) (x:=(n:Int)) h rfl (Nw.mk h fun b16 w h=> ?_)))
  have h:=BE (e:= .hdr n) rfl h
  refine ⟨fun left l w=> ∃(acc:List Ev) (b:List Nat) (own:HP),ah (own::F) (aQ 1 left (b.map vB))∧left.len≤left.cap∧(∀x∈b,x<256)∧b.length≤c.length∧R=acc++p4 ended n (b.length+1) b∧Hp E w (cm l acc::ag b8 (.cells ⟨[.int .i64 (n:Int)]⟩ 116 (0,0))::own::F),fun left _ _=>left.len,⟨[.hdr n],r,OB s5 r,ah.own,hc5,hrb,hrl,hR,h⟩,?_⟩
  rintro left l w ⟨acc,b,own,hl,hlc,hbb,hbl,hRe,h⟩
  have hacc:acc.length≤100000000:=by
   have:=congrArg List.length hRe
   rw [List.length_append] at this
   omega
  have hleft:b.length=left.len:=by have:=(h.ao hl.cons.cons).1;simpa using this
  rw [p4] at hRe
  refine Ld.xb (b:=b8) (x:=(n:Int)) h rfl ?_
  refine ER h hn.1 hn.2 hl.cons.cons hbb (by omega) hlc (fun t w hr h=> ?_) (fun w hr h=> ?_) (fun M P u rest s25 w hr h=> ?_) (fun u rest s25 w hr h=> ?_)
  ·rw [hr] at hRe
   refine Nw.mk h fun b28 w h=> ?_
   (with_reducible refine ad.xw h rfl rfl (fun w h=> ?_))
   refine aa.t rfl (lV (h.at 1) (by omega) fun s' w h=>hK s' w ?_)
   rw [hRe]
   exact h.cx
  ·rw [hr] at hRe
   refine Nw.mk h fun b28 w h=> ?_
   (with_reducible refine ad.xw h rfl rfl (fun w h=> ?_))
   refine aa.f rfl (aa.nt (by decide) (Nw.mk h fun b33 w h=>fT (e:= .bad 242) rfl (h.at 2) (by omega) fun s' w h=>hK s' w ?_))
   rw [hRe]
   exact h.cx
  ·rw [hr] at hRe
   dsimp only at hRe
   have hM:=xQ b dM (.inl ⟨rfl,rfl⟩) hbb hr
   obtain ⟨a2,hsuf2⟩:=lW b dM hr
   have hlt:=(rj hr).2
   have hrb2: ∀y∈rest,y<256:=fun y hy=>hbb y (by rw [hsuf2];exact List.mem_append.2 (.inr hy))
   have hc25:=h.nR
   refine Nw.mk h fun b28 w h=> ?_
   (with_reducible refine ad.xw h rfl rfl (fun w h=> ?_))
   refine aa.f rfl (aa.nf rfl (Ld.xb (b:=b28) (x:=(4:Int)) h rfl (aa.f rfl (Ld.xt (b:=b28) (x:=((M:Int),(P:Int),(u:Int),())) h rfl (Nw.mk h fun b52 w h=> ?_)))))
   refine fT (e:= .aB M P u) rfl (h.at 3) (by omega) fun s54 w h=>Ld.xb (b:=b28) (x:=(M:Int)) h rfl ?_
   have hMn:M≤65536:=Nat.le_trans hM.2.1 hn.2
   have hrl2:rest.length≤b.length:=by rw [hsuf2,List.length_append];omega
   have hlR:=congrArg List.length hRe
   rw [List.length_append,List.length_cons,List.length_append] at hlR
   have hel: ∀{s:Sl} {F:List HP} {w:World},Hp E w (cm s (acc++ [.aB M P u])::F)→(acc++ [Ev.aB M P u]).length≤1000000000:=fun _=>by rw [List.length_append,List.length_singleton];omega
   refine Bl h hM.1 hMn (ah.at 2 ah.own) hrb2 (by omega) hc25 (fun hq s57 w h=> ?_) (fun behind hq s57 s58 w hst hc58 h=> ?_)
   ·refine Aw (h.at 1) (hel (h.at 1)) (by omega) fun s61 w h=>aa.t rfl (hK s61 w ?_)
    rw [hq] at hRe
    rw [hRe]
    have:Hp E w (cm s61 (acc++ [.aB M P u]++(j7 ended M rest).1)::F):=h.cx
    simpa using this
   ·refine Aw (h.at 1) (hel (h.at 1)) (by omega) fun s61 w h=>aa.f rfl ?_
    rw [hq] at hRe
    dsimp only at hRe
    obtain ⟨kk,hkk⟩:=xD hq
    have hbl2:behind.length≤rest.length:=by rw [hkk,List.length_drop];omega
    have hb8: ∀x∈behind,x<256:=fun x hx=>hrb2 x (List.mem_of_mem_drop (hkk▸hx))
    have hl58:behind.length=s58.len:=by
     have:=(h.ao ((ah.at 2 ah.own).imp fun w hw=>hst w hw)).1
     simpa using this
    rw [HR (m:=behind.length+1) hb8 (by omega) (by omega)] at hRe
    refine ⟨⟨acc++ [.aB M P u]++(j7 ended M rest).1,behind,OB s25 rest,ah.own.imp fun w hw=>hst w hw,hc58,hb8,by omega,?_,?_⟩,?_⟩
    ·rw [hRe];simp
    ·have h2:=(h.no 1).no 3
     exact (h2.at 2).at 1
    ·dsimp only;omega
  ·rw [hr] at hRe
   dsimp only at hRe
   refine Nw.mk h fun b28 w h=> ?_
   (with_reducible refine ad.xw h rfl rfl (fun w h=> ?_))
   refine aa.f rfl (aa.nf rfl (Ld.xb (b:=b28) (x:=(6:Int)) h rfl (aa.t rfl (Ld.xt (b:=b28) (x:=(0,0,(u:Int),())) h rfl (Nw.mk h fun b39 w h=> ?_)))))
   have hrl2:=OB.len (h.at 2)
   refine fT (e:= .tail u) rfl (h.at 3) (by omega) fun s41 w h=> ?_
   have ha1:(acc++ [Ev.tail u]).length≤1000000000:=by rw [List.length_append,List.length_singleton];omega
   by_cases hr0:rest= []
   ·rw [if_neg (by simp [hr0])] at hRe
    subst hr0
    refine aa.df (by rw [←hrl2];simp) ?_
    cases ended with
    |true=>
     refine aa.t rfl (Nw.mk h fun b47 w h=>fT (e:= .fin) rfl (h.at 1) ha1 fun s' w h=>hK s' w ?_)
     rw [hRe]
     have:Hp E w (cm s' (acc++ [.tail u]++ [.fin])::F):=h.cx
     simpa using this
    |false=>
     refine aa.f rfl (hK s41 w ?_)
     rw [hRe]
     have:Hp E w (cm s41 (acc++ [.tail u])::F):=h.cx
     simpa using this
   ·rw [if_pos hr0] at hRe
    have:=List.length_pos_iff.2 hr0
    refine aa.dt (by omega) (Nw.mk h fun b43 w h=>fT (e:= .bad 261) rfl (h.at 1) ha1 fun s' w h=>hK s' w ?_)
    rw [hRe]
    have:Hp E w (cm s' (acc++ [.tail u]++ [.bad 261])::F):=h.cx
    simpa using this
end
end Go.Proofs.YtgglghjnakclmaaGreat
namespace Go.Proofs.YtgglghjnakclmaaGreat
open Go.Inc Go.Srt Go.Sym Go.aE Go.Tab Go.Hd Go.Crc Go.Bw Go.ag Go.Stm Go.Prs Go.Pol Go.Dcd
theorem Hv (B:Nat) {c:List Nat} (hb: ∀x∈c,x<256):(DC.new B).out true c=dec (gX B) (bg true c) 0 0 [] []:=by
 unfold DC.out DC.rest DC.left DC.new
 dsimp only
 have:cw true ([]++c) (.head ⟨0,0⟩) 0=bg true c:=ko hb
 rw [if_neg (by decide),this]
 rfl
theorem Ef (B:Nat) {c:List Nat} (hb: ∀x∈c,x<256):On (dec (gX B) (bg true c) 0 0 [] []) (rE (bg true c) 1) (DC.new B) c where
 ok:=DC.yb B
 en:=fun h=>by cases h
 out:=by rw [Hv B hb];rfl
 size:=by
  unfold DC.size DC.new
  dsimp only
  have:cw true ([]++c) (.head ⟨0,0⟩) 0=bg true c:=ko hb
  rw [if_pos (by rfl),this]
  rfl
theorem Ct (B:Nat) {c:List Nat} (hb: ∀x∈c,x<256) (hc:c.length≤600):(dec (gX B) (bg true c) 0 0 [] []).1.length≤100000000000000:=by
 have ok:=DC.yb B
 have hl:=AH (ended:=true) hb
 have h:=z9 (fit:=gX B) (B:=65536) (bg true c) 0 0 [] [] fun t ht=>by
  rw [←ko hb] at ht
  exact C3 _ _ _ 0 [] rfl (Nat.zero_le _) ok.al ok.ps (ok.jn rfl) ok.bd t ht
 have h1:(bg true c).length≤4801:=by omega
 have h2:(bg true c).length*(([]:List Nat).length+(bg true c).length*65536)≤4801*(0+4801*65536):=Nat.mul_le_mul h1 (by simp only [List.length_nil];omega)
 omega
theorem Ew {c:List Nat} {m:Nat} (hb: ∀x∈c,x<256) (hm:Ev.hdr m∈bg true c):(∃es,bg true c= .hdr m::es)∧1≤m∧m≤65536:=by
 have hm0:=hm
 unfold bg at hm
 cases hr:run aZ ⟨0,0⟩ c with
 |short q=>rw [hr] at hm;unfold Prs.sh at hm;simp only at hm;split at hm<;>simp at hm
 |bad e=>rw [hr] at hm;simp at hm
 |fin k rest=>
  have he: ∃es,bg true c= .hdr k::es:=by unfold bg;rw [hr];exact ⟨_,rfl⟩
  obtain ⟨es,he⟩:=he
  obtain rfl:=Hw he hm0
  exact ⟨⟨es,he⟩,sL c ⟨0,0⟩ ⟨by decide,by simp,by decide⟩ hb hr⟩
theorem wS {B m:Nat}:gX B m=decide (bb m 2 1≤B):=by
 unfold gX
 have:=DF (budget:=B) (n:=m) (side:=2) (.inr rfl)
 by_cases h:bb m 2 1≤B
 ·rw [decide_eq_true h,decide_eq_true];omega
 ·rw [decide_eq_false h,decide_eq_false];omega
theorem yF {A B:Nat} {c:List Nat} (hb: ∀x∈c,x<256) (h:jz (rE (bg true c) 1) 2 1→bb (rE (bg true c) 1) 2 1≤A∧bb (rE (bg true c) 1) 2 1≤B):dec (gX B) (bg true c) 0 0 [] []=dec (gX A) (bg true c) 0 0 [] []:=by
 refine lZ _ _ _ _ _ fun n hn=> ?_
 obtain ⟨⟨es,he⟩,h1,h2⟩:=Ew hb hn
 have hs:rE (bg true c) 1=n:=by rw [he];rfl
 rw [hs] at h
 obtain ⟨hA,hB⟩:=h ⟨.inr rfl,by decide,by decide,h1,h2⟩
 rw [wS,wS,decide_eq_true hA,decide_eq_true hB]
end Go.Proofs.YtgglghjnakclmaaGreat
namespace Go.Proofs.YtgglghjnakclmaaGreat
open Go Go.Vc Go.Srt Go.Inc Go.Hd Go.aE Go.ag Go.Crc Go.Pol Go.Stm Go.Prs Go.Dcd
section
variable {E w:World} {F:List HP} {b:Nat}
theorem tp {c:List Nat} {s:Sl} {one two a z:Int} {K:Bool→World→Prop} (h:Hp E w F) (hs:ah F (aQ 1 s (c.map vB))) (hb: ∀y∈c,y<256) (hcap:s.len≤s.cap) (hK: ∀w',Hp E w' F→K true w'):
  Cl Tryz.prog [kB] gh ⟨[.slice s.base s.len s.cap,.int .i64 one,.int .i64 two,.int .i64 a,.int .i64 z]⟩ w K:=by
 refine rq.ok _ _ _ _ _ _ _ ?_
 have hlen:c.length=s.len:=nO (h.ao hs)
 rw [aV];dsimp only
 rw [aV];dsimp only
 have wk:Cl Tryz.prog [kB] eA ⟨[]⟩ w K:=m8 h hK
 refine aa.dm (fun _=>aa.t rfl wk) (fun g1=>aa.dm (fun _=>aa.t rfl wk) (fun g2=>aa.dm (fun _=>aa.t rfl wk) (fun g3=>aa.dm (fun _=>aa.t rfl wk) (fun g4=>aa.dm (fun _=>aa.t rfl wk) (fun g5=>aa.dm (fun _=>aa.t rfl wk) (fun g6=>aa.dm (fun _=>aa.t rfl wk) (fun g7=>aa.dm (fun _=>aa.t rfl wk) (fun g8=>aa.dm (fun _=>wk) (fun g9=> ?_)))))))))
 clear wk
 obtain ⟨A,rfl⟩: ∃A:Nat,one=(A:Int):=⟨one.toNat,by omega⟩
 obtain ⟨B,rfl⟩: ∃B:Nat,two=(B:Int):=⟨two.toNat,by omega⟩
 refine CH h hs hb (by omega) hcap fun s1 w h=> ?_
 refine CI (told:=1) h fun w h=> ?_
 obtain ⟨n0,hn0⟩: ∃n0,n0=rE (bg true c) 1:=⟨_,rfl⟩
 rw [←hn0]
 have oA:=Ef A hb
 have oB:=Ef B hb
 have hTl:=Ct A hb (by omega)
 rw [←hn0] at oA oB
 refine FO (side:=2) h (fun m hm hok w h=> ?_) (fun hno w h=> ?_)
 all_goals
  refine aR.FY (fun w=>dec (gX B) (bg true c) 0 0 [] []=dec (gX A) (bg true c) 0 0 [] []∧Hp E w (cm s1 (bg true c)::F)) (fun w hq=> ?_) fun r' hr'=> ?_
  ·obtain ⟨hq,h⟩:=hq
   rw [hq] at oB
   generalize dec (gX A) (bg true c) 0 0 [] []=T at oA oB hTl
   refine tH (n:=A) h (by omega) (by omega) fun d1 w h=>tH (n:=B) h (by omega) (by omega) fun d2 w h=> ?_
   rw [aV];dsimp only
   rw [aV];dsimp only
   refine aa.f rfl (aa.f rfl (aa.f rfl (aa.f rfl ?_)))
   refine Aa h hs.cons.cons.cons hcap (by omega) (by omega) (by omega) fun ps1 s2 w hf1 hl1 hp1 h=> ?_
   have hb1: ∀x∈ps1,∀y∈x.2,y<256:=fun x hx y hy=>hb y (by rw [←hf1];exact List.mem_flatten.2 ⟨_,List.mem_map.2 ⟨x,hx,rfl⟩,hy⟩)
   refine AI (n:=(n0:Int)) (D:=DC.new A) (T:=T) (n0:=n0) (ps:=ps1) (h.at 2) (fun w f a b=>⟨ah.own w f a b,fun x hx=>hp1 w (hs.cons.cons.cons w f a b) x hx⟩) hb1 (by rw [hf1];show 0+c.length≤_;omega) (by omega) (by rw [hf1];exact oA) rfl rfl hTl rfl fun s3 w h=> ?_
   refine Aa h hs.cons.cons.cons.cons hcap (by omega) (by omega) (by omega) fun ps2 s4 w hf2 hl2 hp2 h=> ?_
   have hb2: ∀x∈ps2,∀y∈x.2,y<256:=fun x hx y hy=>hb y (by rw [←hf2];exact List.mem_flatten.2 ⟨_,List.mem_map.2 ⟨x,hx,rfl⟩,hy⟩)
   refine AI (n:=(n0:Int)) (D:=DC.new B) (T:=T) (n0:=n0) (ps:=ps2) (h.at 3) (fun w f a b=>⟨ah.own w f a b,fun x hx=>hp2 w (hs.cons.cons.cons.cons w f a b) x hx⟩) hb2 (by rw [hf2];show 0+c.length≤_;omega) (by omega) (by rw [hf2];exact oB) rfl rfl hTl rfl fun s5 w h=> ?_
   refine aa.t rfl (aa.t rfl ?_)
   refine Gg (h.ao (ah.at 2 ah.own)) (Gg (h.ao ah.own) (aa.t (Mc _) (aa.t (beq_self_eq_true _) (aa.t (beq_self_eq_true _) ?_))))
   refine m8 h fun w h=>hK w ?_
   have h9:=((((h.no 0).no 0).no 0).no 0).no 0
   exact h9
  ·rw [aV];dsimp only
   first
   |have hmn:m=n0:=by omega
    subst hmn
    refine aa.t rfl (aa.dm (fun _=>aa.t rfl (m8 h fun w h=>hK w h.tl)) (fun k1=>aa.dm (fun _=>m8 h fun w h=>hK w h.tl) (fun k2=>hr' w ⟨?_,h⟩)))
    refine yF hb fun _=> ?_
    rw [←hn0]
    omega
   |refine aa.f rfl (aa.f rfl (hr' w ⟨?_,h⟩))
    refine yF hb fun hok=>absurd ⟨Int.natCast_nonneg _,?_⟩ hno
    rw [←hn0] at hok
    exact hok
end
end Go.Proofs.YtgglghjnakclmaaGreat
namespace Go.Vc
open Go Go.RowKit Go.ChangeShapes Go.WideShapes
section
variable {H:Type} {enc:TypeId×Value→H} {P:Program} {W:World}
def eQ (enc:TypeId×Value→H) (P:Program) (W:World) (t:TypeId) (cs:List Value):Prop:= ∃fuel x,DataW.trod enc P W 0 (fun _=>true) true fuel t cs=some x
theorem eQ.int {t:TypeId} {k:IntKind} {cs:List Value} (h:eQ enc P W t cs) (ht:P.underlying t=some (.int k)): ∃n,cs= [.int k n]∧(Lit.int k n).wf=true:=by
 obtain ⟨m,x,h⟩:=h
 obtain ⟨n,h1,_,h2⟩:=DataW.trod_int ht h
 exact ⟨n,h1,h2⟩
theorem eQ.bool {t:TypeId} {cs:List Value} (h:eQ enc P W t cs) (ht:P.underlying t=some .bool): ∃b,cs= [.bool b]:=by
 obtain ⟨m,x,h⟩:=h
 obtain ⟨n,h1,_⟩:=DataW.trod_bool ht h
 exact ⟨n,h1⟩
theorem eQ.string {t:TypeId} {cs:List Value} (h:eQ enc P W t cs) (ht:P.underlying t=some .string): ∃s:ByteArray,cs= [.string s]∧s.size≤maxLen:=by
 obtain ⟨m,x,h⟩:=h
 obtain ⟨n,h1,_,h2⟩:=DataW.trod_string ht h
 exact ⟨n,h1,h2⟩
theorem vx {a:Addr} {n:Nat} {cs:List Value} (h:W.cells? 0 a n=some cs):cs.length=n∧∀i (hi:i<cs.length),W.cell? (a.add i)=some cs[i]:=by
 unfold World.cells? at h
 rw [if_pos (Nat.zero_le _)] at h
 have hl:cs.length=n:=by simpa using mapM_some_length h
 refine ⟨hl,fun i hi=> ?_⟩
 have:=mapM_some_get h i i (List.getElem?_range (by omega))
 rw [this,List.getElem?_eq_getElem hi]
theorem rH {α:Type} {sz:Nat}: ∀{xs:List (List α)} (_: ∀x∈xs,x.length=sz) (i j:Nat) (hi:i<xs.length) (_:j<sz),xs.flatten[i*sz+j]? =xs[i][j]?
 |x::xs,h,0,j,_,hj=>by
  have hx:=h x (by simp)
  rw [List.flatten_cons,List.getElem?_append_left (by omega),Nat.zero_mul,Nat.zero_add];rfl
 |x::xs,h,i+1,j,hi,hj=>by
  have hx:=h x (by simp)
  rw [List.flatten_cons,List.getElem?_append_right (by rw [hx,Nat.succ_mul];omega),hx,show (i+1)*sz+j - sz=i*sz+j by rw [Nat.succ_mul];omega,
   rH (fun y hy=>h y (List.mem_cons_of_mem _ hy)) i j (by simpa using hi) hj]
  rfl
theorem sK {α:Type} {sz:Nat}: ∀{xs:List (List α)} (_: ∀x∈xs,x.length=sz),xs.flatten.length=xs.length*sz
 | [],_=>by simp
 |x::xs,h=>by
  rw [List.flatten_cons,List.length_append,h x (by simp),sK (fun y hy=>h y (List.mem_cons_of_mem _ hy)),List.length_cons,Nat.succ_mul];omega
theorem eQ.slice {t e:TypeId} {cs:List Value} (h:eQ enc P W t cs) (ht:P.underlying t=some (.slice e)):
  ∃(s:Sl) (xs:List (List Value)),cs= [.slice s.base s.len s.cap]∧s.len≤s.cap∧s.cap≤maxLen∧xs.length=s.len∧(∀x∈xs,eQ enc P W e x)∧(∀x∈xs,x.length=P.cellsOf e)∧aQ (P.cellsOf e) s xs.flatten W:=by
 obtain ⟨m,x,h⟩:=h
 rcases DataW.trod_slice ht h with ⟨h1,_⟩|⟨a,len,cap,elems,rest,n,rfl,h1,_,_,hlc,hcm,hel,hget,_⟩
 ·exact ⟨⟨none,0,0⟩,[],h1,Nat.le_refl _,Nat.zero_le _,rfl,by simp,by simp,by simp,by simp⟩
 ·have hx: ∀i,i<len→∃cs,W.cells? 0 (a.add (i*P.cellsOf e)) (P.cellsOf e)=some cs∧eQ enc P W e cs:=by
   intro i hi
   have:=hget i hi
   rw [List.getElem?_eq_getElem (by omega)] at this
   obtain ⟨cs,h2,h3⟩:=Option.bind_eq_some_iff.1 this
   exact ⟨cs,h2,n,_,h3⟩
  have key: ∀k,k≤len→∃xs:List (List Value),xs.length=k∧∀i (hi:i<xs.length),W.cells? 0 (a.add (i*P.cellsOf e)) (P.cellsOf e)=some xs[i]∧eQ enc P W e xs[i]:=by
   intro k
   induction k with
   |zero=>exact fun _=>⟨[],rfl,fun i hi=>by simp at hi⟩
   |succ k ih=>
    intro hk
    obtain ⟨xs,hl,hxs⟩:=ih (by omega)
    obtain ⟨cs,h2,h3⟩:=hx k (by omega)
    refine ⟨xs++ [cs],by simp [hl],fun i hi=> ?_⟩
    by_cases hik:i<xs.length
    ·rw [List.getElem_append_left hik];exact hxs i hik
    ·have:i=k:=by simp [hl] at hi;omega
     subst this
     rw [List.getElem_append_right (by omega)]
     simp only [hl,Nat.sub_self,List.getElem_cons_zero]
     exact ⟨h2,h3⟩
  obtain ⟨xs,hl,hxs⟩:=key len (Nat.le_refl _)
  have hsz: ∀x∈xs,x.length=P.cellsOf e:=by
   intro x hx
   obtain ⟨i,hi,rfl⟩:=List.getElem_of_mem hx
   exact (vx (hxs i hi).1).1
  refine ⟨⟨some a,len,cap⟩,xs,h1,hlc,hcm,hl,fun x hx=> ?_,hsz,?_,fun i hi=>⟨a,rfl,?_⟩⟩
  ·obtain ⟨i,hi,rfl⟩:=List.getElem_of_mem hx
   exact (hxs i hi).2
  ·rw [sK hsz,hl]
  ·rw [sK hsz,hl] at hi
   have hz:0<P.cellsOf e:=by
    rcases Nat.eq_zero_or_pos (P.cellsOf e) with h0|h0
    ·rw [h0] at hi;simp at hi
    ·exact h0
   have e1:i/P.cellsOf e*P.cellsOf e+i % P.cellsOf e=i:=by rw [Nat.mul_comm];exact Nat.div_add_mod i _
   have hq:i/P.cellsOf e<xs.length:=by rw [hl];exact (Nat.div_lt_iff_lt_mul hz).2 hi
   have hr:=Nat.mod_lt i hz
   obtain ⟨c1,c2⟩:=vx (hxs _ hq).1
   have c3:=c2 (i % P.cellsOf e) (by omega)
   have c4:=rH hsz _ _ hq hr
   have c5:(a.add (i/P.cellsOf e*P.cellsOf e)).add (i % P.cellsOf e)=a.add i:=by
    conv=>rhs;rw [←e1]
    unfold Addr.add
    by_cases e1:i/P.cellsOf e*P.cellsOf e=0<;>by_cases e2:i % P.cellsOf e=0<;>simp [e1,e2,Nat.add_assoc]
   rw [c5] at c3
   rw [c3,←List.getElem?_eq_getElem,←c4]
   simp only [e1]
   exact List.getElem?_eq_getElem _
theorem eQ.struct {t:TypeId} {fs:Array Field} {cs:List Value} (h:eQ enc P W t cs) (ht:P.underlying t=some (.struct fs)):cs.length=P.cellsOf t∧∀(i:Nat) (f:Field),fs[i]? =some f→eQ enc P W f.type ((cs.drop f.offset).take (P.cellsOf f.type)):=by
 obtain ⟨m,x,h⟩:=h
 obtain ⟨xs,n,_,_,h2,h3,h4⟩:=DataW.trod_struct ht h
 refine ⟨h2,fun i f hf=> ?_⟩
 have hi:i<fs.size:=by
  rcases Nat.lt_or_ge i fs.size with hh|hh
  ·exact hh
  ·rw [Array.getElem?_eq_none hh] at hf;cases hf
 have:=h4 i f hf
 rw [List.getElem?_eq_getElem (by omega)] at this
 exact ⟨n,_,this⟩
def CJ (P:Program) (t:TypeId) (i:Nat) (ft:TypeId) (off n:Nat):Bool:=match P.underlying t with
 |some (.struct fs)=>match fs[i]? with
  |some f=>f.type==ft&&f.offset==off&&P.cellsOf ft==n
  |none=>false
 |_=>false
theorem eQ.field {t:TypeId} {cs:List Value} (h:eQ enc P W t cs) (i:Nat) (ft:TypeId) (off n:Nat) (hf:CJ P t i ft off n=true):eQ enc P W ft ((cs.drop off).take n):=by
 unfold CJ at hf
 split at hf
 ·rename_i fs ht
  split at hf
  ·rename_i f hfi
   simp only [Bool.and_eq_true,beq_iff_eq] at hf
   obtain ⟨⟨rfl,rfl⟩,rfl⟩:=hf
   exact (h.struct ht).2 i f hfi
  ·cases hf
 ·cases hf
theorem eQ.array {t e:TypeId} {n:Nat} {cs:List Value} (h:eQ enc P W t cs) (ht:P.underlying t=some (.array n e)):cs.length=P.cellsOf t∧∀i,i<n→eQ enc P W e ((cs.drop (i*P.cellsOf e)).take (P.cellsOf e)):=by
 obtain ⟨m,x,h⟩:=h
 obtain ⟨xs,n',_,_,h2,h3,h4⟩:=DataW.trod_array ht h
 refine ⟨h2,fun i hi=> ?_⟩
 have:=h4 i hi
 rw [List.getElem?_eq_getElem (by omega)] at this
 exact ⟨n',_,this⟩
theorem uz {α β:Type} {g:α→β} {Good:α→Prop}: ∀{xs:List β} (_: ∀x∈xs,∃a,x=g a∧Good a),∃l:List α,xs=l.map g∧∀a∈l,Good a
 | [],_=>⟨[],rfl,by simp⟩
 |x::xs,h=>by
  obtain ⟨a,rfl,ha⟩:=h x (by simp)
  obtain ⟨l,rfl,hl⟩:=uz (fun y hy=>h y (List.mem_cons_of_mem _ hy))
  exact ⟨a::l,rfl,by simpa using ⟨ha,hl⟩⟩
theorem p5 {α β:Type} {g:α→β} (l:List α):(l.map fun a=> [g a]).flatten=l.map g:=by
 induction l with
 |nil=>rfl
 |cons a l ih=>simp [ih]
theorem wf_u8 {n:Int} (h:(Lit.int .u8 n).wf=true):0≤n∧n≤255:=by
 simp [Lit.wf,IntKind.min,IntKind.max,IntKind.signed,IntKind.bits] at h
 exact h
def Ao (W:World) (s:Sl) (b:List Nat):Prop:=aQ 1 s (b.map vB) W∧(∀y∈b,y<256)∧s.len≤s.cap∧s.cap≤maxLen
theorem eQ.bytes {t e:TypeId} {cs:List Value} (h:eQ enc P W t cs) (ht:P.underlying t=some (.slice e)) (he:P.underlying e=some (.int .u8)) (hc:P.cellsOf e=1): ∃s b,cs= [.slice s.base s.len s.cap]∧Ao W s b:=by
 obtain ⟨s,xs,h1,h2,h3,h4,h5,h6,h7⟩:=h.slice ht
 obtain ⟨l,rfl,hl⟩:=uz (g:=fun y:Nat=> [vB y]) (Good:=fun y=>y<256) (xs:=xs) fun x hx=>by
  obtain ⟨n,rfl,hn⟩:=(h5 x hx).int he
  have:=wf_u8 hn
  obtain ⟨m,rfl⟩:=Int.eq_ofNat_of_zero_le this.1
  exact ⟨m,rfl,by omega⟩
 rw [p5,hc] at h7
 exact ⟨s,l,h1,h7,hl,h2,h3⟩
theorem eQ.ints {t e:TypeId} {k:IntKind} {cs:List Value} (h:eQ enc P W t cs) (ht:P.underlying t=some (.slice e)) (he:P.underlying e=some (.int k)) (hc:P.cellsOf e=1):
  ∃s,∃l:List Int,cs= [.slice s.base s.len s.cap]∧aQ 1 s (l.map (.int k)) W∧(∀y∈l,(Lit.int k y).wf=true)∧s.len≤s.cap∧s.cap≤maxLen:=by
 obtain ⟨s,xs,h1,h2,h3,h4,h5,h6,h7⟩:=h.slice ht
 obtain ⟨l,rfl,hl⟩:=uz (g:=fun y:Int=> [Value.int k y]) (Good:=fun y=>(Lit.int k y).wf=true) (xs:=xs) fun x hx=>by
  obtain ⟨n,rfl,hn⟩:=(h5 x hx).int he
  exact ⟨n,rfl,hn⟩
 rw [p5,hc] at h7
 exact ⟨s,l,h1,h7,hl,h2,h3⟩
def Arg (enc:TypeId×Value→H) (P:Program) (W:World) (t:TypeId) (v:Value):Prop:=(∃base,Value.okWide P W .any base t v)∧eQ enc P W t v.cells.toList
def AU (enc:TypeId×Value→H) (P:Program) (W:World):List TypeId→List Value→Prop
 | [],vs=>vs= []
 |t::ts,vs=> ∃v vs',vs=v::vs'∧Arg enc P W t v∧AU enc P W ts vs'
theorem Arg.one {t:TypeId} {v:Value} (h:Arg enc P W t v) (hv:v.cells.toList= [v]):eQ enc P W t [v]:=by
 have:=h.2
 rwa [hv] at this
theorem Arg.slice {t e:TypeId} {v:Value} (h:Arg enc P W t v) (ht:P.underlying t=some (.slice e)):eQ enc P W t [v]:=by
 obtain ⟨base,hb⟩:=h.1
 obtain ⟨a,l,c,rfl⟩:=okWide_slice ht hb
 exact h.one rfl
theorem Arg.bytes {t e:TypeId} {v:Value} (h:Arg enc P W t v) (ht:P.underlying t=some (.slice e)) (he:P.underlying e=some (.int .u8)) (hc:P.cellsOf e=1): ∃s b,v= .slice s.base s.len s.cap∧Ao W s b:=by
 obtain ⟨s,b,h1,h2⟩:=(h.slice ht).bytes ht he hc
 exact ⟨s,b,by simpa using h1,h2⟩
theorem Arg.ints {t e:TypeId} {k:IntKind} {v:Value} (h:Arg enc P W t v) (ht:P.underlying t=some (.slice e)) (he:P.underlying e=some (.int k)) (hc:P.cellsOf e=1):
  ∃s,∃l:List Int,v= .slice s.base s.len s.cap∧aQ 1 s (l.map (.int k)) W∧(∀y∈l,(Lit.int k y).wf=true)∧s.len≤s.cap∧s.cap≤maxLen:=by
 obtain ⟨s,l,h1,h2⟩:=(h.slice ht).ints ht he hc
 exact ⟨s,l,by simpa using h1,h2⟩
theorem Arg.int {t:TypeId} {k:IntKind} {v:Value} (h:Arg enc P W t v) (ht:P.underlying t=some (.int k)): ∃n,v= .int k n∧(Lit.int k n).wf=true:=by
 obtain ⟨base,hb⟩:=h.1
 obtain ⟨n,rfl⟩:=okWide_int ht hb
 obtain ⟨m,h1,h2⟩:=(h.one rfl).int ht
 cases h1
 exact ⟨n,rfl,h2⟩
theorem Arg.string {t:TypeId} {v:Value} (h:Arg enc P W t v) (ht:P.underlying t=some .string): ∃s:ByteArray,v= .string s∧s.size≤maxLen:=by
 obtain ⟨base,hb⟩:=h.1
 obtain ⟨n,rfl⟩:=okWide_string ht hb
 obtain ⟨m,h1,h2⟩:=(h.one rfl).string ht
 cases h1
 exact ⟨n,rfl,h2⟩
theorem Arg.struct {t:TypeId} {fs:Array Field} {v:Value} (h:Arg enc P W t v) (ht:P.underlying t=some (.struct fs)): ∃cs,v= .agg cs∧eQ enc P W t cs.toList:=by
 obtain ⟨base,hb⟩:=h.1
 obtain ⟨cs,rfl,_⟩:=okWide_struct ht hb
 exact ⟨cs,rfl,h.2⟩
theorem Aq: ∀{ts:List TypeId} {vs:List Value} {ds:List (DataW H)} {ps:List MemPlace},DataW.TrodAll enc P W 0 (fun _=>true) true ts vs ds ps→(∀(j:Nat) t v,ts[j]? =some t→vs[j]? =some v→∃base,Value.okWide P W .any base t v)→AU enc P W ts vs
 | [],[],[],_,_,_=>rfl
 |t::ts,v::vs,d::ds,ps,h,hv=>by
  obtain ⟨p,q,⟨fuel,h1⟩,h2,_⟩:=h
  exact ⟨v,vs,rfl,⟨hv 0 t v rfl rfl,fuel,_,h1⟩,Aq h2 fun j t' v' a b=>hv (j+1) t' v' a b⟩
theorem rD: ∀{ts:List TypeId} {vs:List Value} {ds:List (DataW H)} {ps:List MemPlace},DataW.TrodAll enc P W 0 (fun _=>true) true ts vs ds ps→ds.length=ts.length
 | [],[],[],_,_=>rfl
 |_::_,_::_,_::_,_,h=>by
  obtain ⟨p,q,_,h2,_⟩:=h
  simp [rD h2]
theorem pL (hl:laidOutB P=true) {W':World} (hb:Below W.heap.size W W'): ∀{ts:List TypeId} {vs:List Value} {ds:List (DataW H)} {ps:List MemPlace},DataW.TrodAll enc P W 0 (fun _=>true) true ts vs ds ps→
  (∀t∈ts,P.readableRec t=true∧t<P.types.size)→∃qs,DataW.TrodAll enc P W' 0 (fun b=>decide (b<W.heap.size)) true ts vs ds qs
 | [],[],[],_,_,_=>⟨[],rfl⟩
 |t::ts,v::vs,d::ds,ps,h,hr=>by
  obtain ⟨p,q,h1,h2,_⟩:=h
  obtain ⟨qs,h3⟩:=pL hl hb h2 fun t ht=>hr t (List.mem_cons_of_mem _ ht)
  obtain ⟨ht1,ht2⟩:=hr t (by simp)
  have hlt: ∀x∈p,x.block<W.heap.size:=by obtain ⟨m,hm⟩:=h1;exact DataW.trod_lt m _ _ _ hm
  exact ⟨_,p,qs,Below.trod hl ht1 ht2 h1 hb hlt,h3,rfl⟩
theorem E9 {C:Checked} {os:Os} {f:FuncId} {fn:Func} {s:ChangeSpec} {conds:List PathCond} {tb:TypeId}
  (own:ownKnob C.prog.godebug=none) (started:os.Started) (noInit:C.prog.inits.idxOf? f=none) (hfn:C.prog.funcs[f]? =some fn)
  (witness: ∃(w:World) (tape:Tape) (i:Input),w.os=os∧(w.forCall tape i).Shaped C.prog∧i.vars= []∧Input.okWide C.prog (w.forCall tape i) .any w.heap.size f i∧
   s.pre6 enc C.prog fn conds false (w.forCall tape i).memory i.args∧({}:Assume).holds C.prog (lone (Frame.enter C.prog f i.args .normal) [] (w.forCall tape i)))
  (hvars:s.vars= []) (hres:fn.resultTypes= #[tb]) (htb:C.prog.underlying tb=some .bool)
  (hspec: ∀ds:List (DataW H),ds.length=fn.params.toList.length→s.fn H ds={results:= [.lit (.bool true)],args:=ds})
  (laid:laidOutB C.prog=true) (hr:fn.params.toList.all (fun t=>C.prog.readableRec t&&decide (t<C.prog.types.size))=true)
  (contract: ∀(W:World) (args:Array Value) (ds:List (DataW H)),AU enc C.prog W fn.params.toList args.toList→(DataW.weightsEach C.prog fn.params.toList ds).all (·≤reachBytes)=true→
   Cl C.prog [kB] f args W (fun b w'=>b=true∧Below W.heap.size W w')):
  ReturnsInHanded {} C os f .any (s.pre6 enc C.prog fn conds false) (s.post enc C.prog fn false true false false):=by
 refine returnsInHanded_of_change_sized own started noInit hfn witness ?_
 intro W base args ds gs before hval hW _ hz _
 have hW':=hW
 obtain ⟨p,q,hA,hV,rfl,hfz,hnd⟩:=hW
 rw [hvars] at hV
 obtain ⟨rfl,rfl⟩:=trodVars_none hV
 have hlen:=rD hA
 have hz':(DataW.weightsEach C.prog fn.params.toList ds).all (·≤reachBytes)=true:=by
  have e:s.plain.varTypes C.prog= []:=by
   simp [DataSpec.varTypes,ChangeSpec.plain,hvars]
  rw [e,List.append_nil,List.append_nil] at hz
  exact hz
 have hargs:=Aq (vs:=args.toList) hA fun j t v ht hv=>⟨base,hval j t v (by simpa using ht) (by simpa using hv)⟩
 refine Calls.mono (contract W args ds hargs hz') fun e W' hp=> ?_
 cases e with
 |returned v=>
  obtain ⟨b,hv,hb,bel⟩:=Ki.cL (k:=kB) hp
  subst hb
  have hv:v= .bool true:=hv
  subst hv
  have hsp:=hspec ds hlen
  obtain ⟨qs,hq⟩:=pL laid bel hA fun t ht=>by
   have:=List.all_eq_true.1 hr t ht
   simpa using this
  refine ⟨_,rfl,ds,[],_,[],qs,[],hW',?_,?_,?_,bel.frame _,fun h=>by cases h⟩
  ·rw [List.append_nil,hsp,hres]
   exact trodAll_mk1 (shut_bool htb _)
  ·rw [List.append_nil,hsp];exact hq
  ·rw [hvars]
   have:(s.fn H (ds++ [])).vars= []:=by rw [List.append_nil,hsp]
   rw [this];rfl
 |_=>exact absurd hp (by intro h;exact h)
end
end Go.Vc
namespace Go.Vc
open Go Go.RowKit Go.ChangeShapes Go.WideShapes
section
variable {H:Type} {enc:TypeId×Value→H} {P:Program} {W:World}
theorem Arg.agg {t e:TypeId} {n:Nat} {v:Value} (h:Arg enc P W t v) (ht:P.underlying t=some (.array n e)): ∃cs,v= .agg cs∧eQ enc P W t cs.toList:=by
 obtain ⟨base,hb⟩:=h.1
 simp only [Value.okWide,ht] at hb
 obtain ⟨cs,rfl,_⟩:=hb
 exact ⟨cs,rfl,h.2⟩
end
end Go.Vc
