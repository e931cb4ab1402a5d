/- Texts packed together by program; spaces struck by program. Conditions: as each theorem states. -/
import Derived.Carry
import Derived.OpenShut
import Derived.ProofKit
import Derived.SizedLaws
import Derived.Test.YtcdpblipagajiaaGreatQme
set_option linter.unusedSimpArgs false
set_option linter.unusedVariables false
set_option maxRecDepth 20000
namespace Go.Proofs.YtcdpblipagajiaaGreat
open Go Go.Vc Go.Bw Go.Hs
section
variable {E w:World} {F:List HP}
set_option maxRecDepth 200000 in
theorem Gd {t:List Nat} {s:Sl} {K:Sl→Int→World→Prop} (h:Hp E w F) (hs:ab F (aC 1 s (t.map vB))) (hn:t.length≤400000)
  (hK: ∀s' w',Hp E w' (al 1 s' ((aU t).map vB)::F)→K s' (bG t:Int) w'):Cl Tryz.prog [kS,kI] oa ⟨[.slice s.base s.len s.cap]⟩ w K:=by
 refine Et.ok _ _ _ ?_
 have hl:=(h.ag hs).1
 simp only [List.length_map,Nat.mul_one] at hl
 refine EY h hs hn fun s3 w1 h1=> ?_
 have hl3:=h1.a6
 rw [List.length_map,fJ,ic,Nat.mul_one] at hl3
 refine ⟨fun o ix i w'=> ∃k:Nat,i=(k:Int)∧k≤t.length+1∧ix=(if bG t<k then (bG t:Int) else 0)∧Hp E w' (al 1 o (((((bM t).take k).filter fun i=>i !=0).map fun i=>t.getD (i - 1) 0).map vB)::al 1 s3 ((zl (bM t)).map vI)::F),
  fun _ _ i _=>t.length+1 - i.toNat,⟨0,rfl,by omega,rfl,h1.aW 1⟩,?_⟩
 rintro o ix i w2 ⟨k,rfl,hk,rfl,h2⟩
 refine aa.mk (fun hlt=> ?_) (fun hge=> ?_)
 ·have hlt:k<t.length+1:=by have:=of_decide_eq_true hlt;omega
  have hko:k<(bM t).length:=by rw [ic];exact hlt
  have hix:=uA t hko
  have hle:(bM t)[k]≤t.length:=vf.1 (List.getElem_mem hko)
  have e0:(zl (bM t)).getD k 0=((bM t)[k]:Int):=by simp [zl,List.getD,hko]
  refine aq.nI (h2.ag (ab.cons ab.own)) rfl (by rw [fJ];exact hko) ?_
  rw [e0]
  have hf:=oL hko
  refine aa.mk (fun hz=> ?_) (fun hz=> ?_)
  ·have hz:(bM t)[k]=0:=by have:=beq_iff_eq.1 hz;omega
   rw [if_pos hz,List.append_nil] at hf
   have hke:=hix.1 hz
   refine ⟨⟨k+1,by rw [ad (by omega)];omega,by omega,by rw [if_pos (by omega)];omega,by rw [hf];exact h2⟩,by dsimp only;rw [ad (by omega)];omega⟩
  ·have hz:(bM t)[k]≠0:=by have:=beq_eq_false_iff_ne.1 hz;omega
   rw [if_neg hz] at hf
   have hke:k≠bG t:=fun e=>hz (hix.2 e)
   refine aq.nI (h2.ag (ab.cons ab.own)) rfl (by rw [fJ];exact hko) ?_
   rw [e0]
   have e1:i64 (((bM t)[k]:Int) - 1)=(((bM t)[k] - 1:Nat):Int):=by rw [ad (by omega)];omega
   rw [e1]
   refine aq.nB (h2.ag (ab.cons (ab.cons hs))) rfl (by omega) ?_
   refine vF vx rfl h2 (by rw [List.length_map,aB];exact Nat.le_trans (List.length_filter_le ..) (by rw [List.length_take];omega)) fun s' w3 h3 _=>⟨⟨k+1,by rw [ad (by omega)];omega,by omega,?_,?_⟩,by dsimp only;rw [ad (x:=(k:Int)+1) (by omega)];omega⟩
   ·by_cases e:bG t<k
    ·rw [if_pos e,if_pos (by omega)]
    ·rw [if_neg e,if_neg (by omega)]
   ·rw [hf,List.map_append]
    exact h3
 ·have hge:k=t.length+1:=by have:=of_decide_eq_false hge;omega
  subst hge
  have hil:=tz t
  rw [if_pos (by omega)]
  rw [List.take_of_length_le (by rw [ic];exact Nat.le_refl _)] at h2
  exact hK o w2 h2.p1.drop
def mi (last:List Nat):List Int:=(List.range last.length).map fun i=>(nx last i:Int)
theorem FP {last:List Nat} {k c:Nat} (hk:k<last.length):ga (last.take (k+1)) c=ga (last.take k) c+if last.getD k 0<c then 1 else 0:=by
 unfold ga
 rw [List.take_add_one,List.getElem?_eq_getElem hk,List.countP_append]
 simp [List.getD,hk]
set_option maxRecDepth 20000 in
theorem Fz {last:List Nat} {s:Sl} {K:Sl→World→Prop} (h:Hp E w F) (hs:ab F (aC 1 s (last.map vB))) (hb: ∀x∈last,x<256) (hn:last.length≤400000)
  (hK: ∀s' w',Hp E w' (al 1 s' ((mi last).map vI)::F)→K s' w'):Cl Tryz.prog [kS] mF ⟨[.slice s.base s.len s.cap]⟩ w K:=by
 refine CA.ok _ _ _ ?_
 rw [Vc.nr]
 have hl:=(h.ag hs).1
 simp only [List.length_map,Nat.mul_one] at hl
 have hg: ∀k,k<last.length→last.getD k 0<256:=fun k hk=>by
  rw [List.getD,List.getElem?_eq_getElem hk]
  exact hb _ (List.getElem_mem hk)
 have hcb: ∀(k c:Nat),ga (last.take k) c≤last.length:=fun k c=>by
  refine Nat.le_trans List.countP_le_length ?_
  rw [List.length_take];omega
 have hcl: ∀(k c:Nat),(last.take k).count c≤last.length:=fun k c=>by
  refine Nat.le_trans List.count_le_length ?_
  rw [List.length_take];omega
 refine Nw.mk h fun b3 w1 h1=>Nw.mk h1 fun b5 w2 h2=> ?_
 refine ⟨fun i w'=> ∃(k:Nat) (u:List Int),i=(k:Int)∧k≤last.length∧u.length=256∧(∀c,c<256→u.getD c 0=(ga (last.take k) c:Int))∧Hp E w' (aj b3 (.cells (Vc.aT u) 171 (0,0))::aj b5 (.cells (Vc.aT (List.replicate 256 0)) 171 (0,0))::F),fun i _=>last.length - i.toNat,
  ⟨0,_,rfl,by omega,List.length_replicate,fun c hc=>by rw [tp];simp [ga],h2.p1⟩,?_⟩
 rintro i w3 ⟨k,u,rfl,hk,hul,hu,h3⟩
 refine aa.mk (fun hlt=> ?_) (fun hge=> ?_)
 ·have hlt:k<last.length:=by have:=of_decide_eq_true hlt;omega
  have hx:=hg k hlt
  refine aq.nB (h3.ag (ab.cons (ab.cons hs))) rfl hlt ?_
  rw [ad (x:=(last.getD k 0:Int)) (by omega),ad (x:=(last.getD k 0:Int)+1) (by omega)]
  refine ⟨fun c w'=> ∃(m:Nat) (v:List Int),c=(m:Int)∧last.getD k 0<m∧m≤256∧v.length=256∧(∀c,c<256→v.getD c 0=(ga (last.take k) c:Int)+if last.getD k 0<c∧c<m then 1 else 0)∧Hp E w' (aj b3 (.cells (Vc.aT v) 171 (0,0))::aj b5 (.cells (Vc.aT (List.replicate 256 0)) 171 (0,0))::F),fun c _=>256 - c.toNat,
   ⟨last.getD k 0+1,u,by omega,by omega,by omega,hul,fun c hc=>by rw [hu c hc,if_neg (by omega)];omega,h3⟩,?_⟩
  rintro c w4 ⟨m,v,rfl,hm1,hm2,hvl,hv,h4⟩
  refine aa.mk (fun hmlt=> ?_) (fun hmge=> ?_)
  ·have hmlt:m<256:=by have:=of_decide_eq_true hmlt;omega
   have hvm:=hv m hmlt
   rw [if_neg (by omega)] at hvm
   have hbm:=hcb k m
   refine av.aT (j:=m) h4 rfl hvl hmlt (av.q7 (j:=m) h4 rfl hvl hmlt fun w5 h5=> ?_)
   rw [ad (x:=(m:Int)+1) (by omega)]
   refine ⟨⟨m+1,_,by omega,by omega,by omega,by rw [List.length_set];exact hvl,fun c hc=> ?_,h5⟩,by dsimp only;omega⟩
   rw [dQ (by omega)]
   by_cases e:c=m
   ·subst e
    rw [if_pos rfl,hvm,if_pos (by omega),ad (by omega)];omega
   ·rw [if_neg e,hv c hc]
    by_cases e2:last.getD k 0<c∧c<m
    ·rw [if_pos e2,if_pos (by omega)]
    ·rw [if_neg e2,if_neg (by omega)]
  ·have hme:m=256:=by have:=of_decide_eq_false hmge;omega
   subst hme
   rw [ad (x:=(k:Int)+1) (by omega)]
   refine ⟨⟨k+1,v,by omega,by omega,hvl,fun c hc=> ?_,h4⟩,by dsimp only;omega⟩
   rw [hv c hc,FP hlt]
   by_cases e:last.getD k 0<c
   ·rw [if_pos ⟨e,hc⟩,if_pos e];omega
   ·rw [if_neg (by omega),if_neg e];omega
 have hge:k=last.length:=by have:=of_decide_eq_false hge;omega
 subst hge
 rw [List.take_length] at hu
 refine ⟨fun o i w'=> ∃(k:Nat) (v:List Int),i=(k:Int)∧k≤last.length∧v.length=256∧(∀c,c<256→v.getD c 0=((last.take k).count c:Int))∧Hp E w' (al 1 o (((List.range k).map fun i=>(nx last i:Int)).map vI)::aj b3 (.cells (Vc.aT u) 171 (0,0))::aj b5 (.cells (Vc.aT v) 171 (0,0))::F),fun _ i _=>last.length - i.toNat,
  ⟨0,_,rfl,by omega,List.length_replicate,fun c hc=>by rw [tp];simp,h3.aW 1⟩,?_⟩
 rintro o i w4 ⟨k,v,rfl,hk,hvl,hv,h4⟩
 refine aa.mk (fun hlt=> ?_) (fun hge=> ?_)
 ·have hlt:k<last.length:=by have:=of_decide_eq_true hlt;omega
  have hx:=hg k hlt
  have hvx:=hv _ hx
  have hux:=hu _ hx
  have hcx:=hcl k (last.getD k 0)
  have hnx:=He hlt
  have hnl:=Fa hlt
  have hcb':ga last (last.getD k 0)≤last.length:=List.countP_le_length
  refine aq.nB (h4.ag (ab.cons (ab.cons (ab.cons hs)))) rfl hlt ?_
  refine ⟨cc E [aj b3 (.cells (Vc.aT u) 171 (0,0)),aj b5 (.cells (Vc.aT v) 171 (0,0))],⟨al 1 o (((List.range k).map fun i=>(nx last i:Int)).map vI)::F,(h4.drew (n:=w4.drawn+1)).perm (by
   simp only [List.cons_append]
   refine List.Perm.cons _ ?_
   exact List.perm_append_comm (l₁:= [_,_]) (l₂:=F))⟩,?_⟩
  have m3: ∀w,cc E [aj b3 (.cells (Vc.aT u) 171 (0,0)),aj b5 (.cells (Vc.aT v) 171 (0,0))] w→∃G,Hp E w (aj b3 (.cells (Vc.aT u) 171 (0,0))::G):=fun w h=>h.front
  have m5: ∀w,cc E [aj b3 (.cells (Vc.aT u) 171 (0,0)),aj b5 (.cells (Vc.aT v) 171 (0,0))] w→∃G,Hp E w (aj b5 (.cells (Vc.aT v) 171 (0,0))::G):=fun w h=>h.sQ
  refine av.NK m3 (j:=last.getD k 0) rfl hul (by omega) (av.NK m5 (j:=last.getD k 0) rfl hvl (by omega) ?_)
  have e1:i64 (i64 (1+u.getD (last.getD k 0) 0)+v.getD (last.getD k 0) 0)=(nx last k:Int):=by
   rw [hux,hvx,ad (x:=1+(ga last (last.getD k 0):Int)) (by omega),ad (by omega)];omega
  rw [e1]
  have has: ∀{w':World} {A:List HP},Hp E w' (A++(aj b3 (.cells (Vc.aT u) 171 (0,0))::aj b5 (.cells (Vc.aT v) 171 (0,0))::F))→cc E [aj b3 (.cells (Vc.aT u) 171 (0,0)),aj b5 (.cells (Vc.aT v) 171 (0,0))] w':=fun {w' A} h'=>
   ⟨A++F,h'.perm (by rw [List.append_assoc];exact List.Perm.append_left _ (List.perm_append_comm (l₁:= [_,_]) (l₂:=F)))⟩
  have h5:=h4.drew (n:=w4.drawn+1)
  refine Nw.mk h5 fun b34 w5 h6=>⟨has (A:= [_,_]) h6,?_⟩
  have hol:=h6.drop.a6
  rw [List.length_map,List.length_map,List.length_range,Nat.mul_one] at hol
  refine aP (ys:= [vI (nx last k:Int)]) (n:=1) si (by decide) (.inl ⟨3,by kernel_rfl⟩) h6.p1 (.inl ⟨some ⟨b34,0,none⟩,1,1,rfl,rfl,h6.ag (ab.aF rfl rfl)⟩) rfl (fun y hy=>by rw [List.mem_singleton] at hy;subst hy;rfl) (by omega) (by omega) fun s36 w6 h7 _=>⟨has (A:= [_,_]) h7,?_⟩
  have h7:=h7.p1.drop
  refine av.aT (j:=last.getD k 0) h7.p2 rfl hvl (by omega) (av.q7 (j:=last.getD k 0) h7.p2 rfl hvl (by omega) fun w7 h8=> ?_)
  rw [ad (x:=(k:Int)+1) (by omega)]
  refine ⟨⟨k+1,v.set (last.getD k 0) (i64 (v.getD (last.getD k 0) 0+1)),by omega,by omega,by rw [List.length_set];exact hvl,fun c hc=> ?_,?_⟩,by dsimp only;omega⟩
  ·rw [dQ (by omega),List.take_add_one,List.getElem?_eq_getElem hlt,List.count_append]
   have e:last.getD k 0=last[k]:=by simp [List.getD,hlt]
   by_cases ec:c=last.getD k 0
   ·subst ec
    rw [if_pos rfl,hvx,ad (by omega),e];simp
   ·rw [if_neg ec,hv c hc]
    have:List.count c (some last[k]).toList=0:=by
     rw [List.count_eq_zero]
     simp only [Option.toList_some,List.mem_singleton]
     rw [←e];exact ec
    rw [this];simp
  ·rw [List.range_succ,List.map_append,List.map_append]
   exact h8.q2
 ·have hge:k=last.length:=by have:=of_decide_eq_false hge;omega
  subst hge
  exact hK o w4 h4.p1.drop.p1.drop
set_option maxRecDepth 200000 in
theorem p5 {b:List Nat} {s:Sl} {K:Sl→World→Prop} (h:Hp E w F) (hs:ab F (aC 1 s (b.map vB))) (hn:b.length≤400000)
  (hK: ∀s' w',Hp E w' (al 1 s' (b.reverse.map vB)::F)→K s' w'):Cl Tryz.prog [kS] fL ⟨[.slice s.base s.len s.cap]⟩ w K:=by
 refine Bl.ok _ _ _ ?_
 have hl:=(h.ag hs).1
 simp only [List.length_map,Nat.mul_one] at hl
 refine ⟨fun o i w'=> ∃k:Nat,i=(b.length:Int) - 1 - (k:Int)∧k≤b.length∧Hp E w' (al 1 o ((b.reverse.take k).map vB)::F),fun _ i _=>(i+1).toNat,⟨0,by rw [ad (by omega)];omega,by omega,h.aW 1⟩,?_⟩
 rintro o i w1 ⟨k,rfl,hk,h1⟩
 refine aa.mk (fun hge=> ?_) (fun hlt=> ?_)
 ·have hge:k<b.length:=by have:=of_decide_eq_true hge;omega
  refine aq.nB (j:=b.length - 1 - k) (h1.ag (ab.cons hs)) (by omega) (by omega) ?_
  refine vF vx rfl h1 (by rw [List.length_take,List.length_reverse,aB];omega) fun s' w2 h2 _=>⟨⟨k+1,by rw [ad (by omega)];omega,by omega,?_⟩,by dsimp only;rw [ad (by omega)];omega⟩
  have e:b.reverse.take (k+1)=b.reverse.take k++ [b.getD (b.length - 1 - k) 0]:=by
   rw [List.take_add_one,List.getElem?_reverse hge]
   simp [List.getD,show b.length - 1 - k<b.length by omega]
  rw [e];exact h2
 ·have hke:k=b.length:=by have:=of_decide_eq_false hlt;omega
  subst hke
  rw [List.take_of_length_le (by rw [List.length_reverse];exact Nat.le_refl _)] at h1
  exact hK o w1 h1
set_option maxRecDepth 20000 in
theorem GJ {last:List Nat} {s:Sl} {index:Int} {K:Sl→Int→World→Prop} (h:Hp E w F) (hs:ab F (aC 1 s (last.map vB))) (hb: ∀x∈last,x<256) (hn:last.length≤400000)
  (hK1:ua last index→∀s' w',Hp E w' (al 1 s' ((cX last index.toNat).map vB)::F)→K s' 0 w') (hK2: ¬ua last index→∀w',Hp E w' F→K ⟨none,0,0⟩ 170 w'):
  Cl Tryz.prog [kS,kI] nR ⟨[.slice s.base s.len s.cap,.int .i64 index]⟩ w K:=by
 refine EU.ok _ _ _ _ ?_
 simp only [aD]
 have hl:=(h.ag hs).1
 simp only [List.length_map,Nat.mul_one] at hl
 refine aa.mk (fun g=>hK2 (fun hh=>by have:=of_decide_eq_true g;have:=hh.1;omega) w h) (fun g1=> ?_)
 refine aa.mk (fun g=>hK2 (fun hh=>by have:=of_decide_eq_true g;have:=hh.2.1;have:=hh.1;omega) w h) (fun g2=> ?_)
 have g1:=of_decide_eq_false g1
 have g2:=of_decide_eq_false g2
 obtain ⟨ix,rfl⟩:=Int.eq_ofNat_of_zero_le (show 0≤index by omega)
 rw [Int.toNat_natCast] at hK1
 have hix:ix≤last.length:=by omega
 refine aa.mk (fun g3=>aa.mk (fun g4=>hK2 (fun hh=> ?_) w h) (fun g4=> ?_)) (fun g3=> ?_)
 ·have g3:=beq_iff_eq.1 g3
  have g4:=of_decide_eq_true g4
  have:=hh.2
  rw [g3] at this
  exact Bd (by omega) this
 all_goals
  refine Fz h hs hb hn fun s6 w1 h1=> ?_
  have hag: ∀a,a<last.length→(mi last).getD a 0=(nx last a:Int):=fun a ha=>by
   unfold mi
   rw [List.getD,List.getElem?_map,List.getElem?_range ha];rfl
  have hal:(mi last).length=last.length:=by unfold mi;rw [List.length_map,List.length_range]
  refine ⟨fun o row i w'=> ∃k:Nat,i=(k:Int)∧k≤last.length∧row=(wk last ix k:Int)∧(∀j,j<k→wk last ix j≠ix)∧
    Hp E w' (al 1 o (((List.range k).map fun j=>last.getD (bP ix (wk last ix j)) 0).map vB)::al 1 s6 ((mi last).map vI)::F),fun _ _ i _=>last.length - i.toNat,⟨0,rfl,by omega,rfl,fun j hj=>by omega,h1.aW 1⟩,?_⟩
  rintro o row i w2 ⟨k,rfl,hk,rfl,hne,h2⟩
  have hwl:=Fi hix k hne
  refine aa.mk (fun hlt=> ?_) (fun hge=> ?_)
  ·have hlt:k<last.length:=by have:=of_decide_eq_true hlt;omega
   refine aa.mk (fun he=>hK2 (fun hh=> ?_) w2 h2.drop.drop) (fun he=> ?_)
   ·have h5:=hh.2.2.1 k hlt
    rw [Int.toNat_natCast] at h5
    have:=beq_iff_eq.1 he
    omega
   have he:wk last ix k≠ix:=by have:=beq_eq_false_iff_ne.1 he;omega
   have hat:=Gz hix hwl he
   have step: ∀{w':World} {s':Sl},Hp E w' (al 1 s' ((((List.range k).map fun j=>last.getD (bP ix (wk last ix j)) 0)++ [last.getD (bP ix (wk last ix k)) 0]).map vB)::al 1 s6 ((mi last).map vI)::F)→
     (∃k':Nat,i64 ((k:Int)+1)=(k':Int)∧k'≤last.length∧(nx last (bP ix (wk last ix k)):Int)=(wk last ix k':Int)∧(∀j,j<k'→wk last ix j≠ix)∧
      Hp E w' (al 1 s' (((List.range k').map fun j=>last.getD (bP ix (wk last ix j)) 0).map vB)::al 1 s6 ((mi last).map vI)::F))∧last.length - (i64 ((k:Int)+1)).toNat<last.length - (k:Int).toNat:=fun {w' s'} h'=>by
    rw [ad (by omega)]
    refine ⟨⟨k+1,by omega,by omega,rfl,fun j hj=> ?_,?_⟩,by omega⟩
    ·by_cases e:j=k
     ·subst e;exact he
     ·exact hne j (by omega)
    ·rw [List.range_succ,List.map_append]
     exact h'
   refine aa.mk (fun hgt=> ?_) (fun hgt=> ?_)
   ·have hgt:wk last ix k>ix:=by have:=of_decide_eq_true hgt;omega
    have e1:i64 ((wk last ix k:Int) - 1)=(bP ix (wk last ix k):Int):=by
     unfold bP
     rw [if_pos hgt,ad (by omega)];omega
    rw [e1]
    refine aq.nB (h2.ag (ab.cons (ab.cons hs))) rfl hat (vF vx rfl h2 (by rw [List.length_map,List.length_range,aB];omega) fun s' w3 h3 _=> ?_)
    refine aq.nI (h3.ag (ab.cons ab.own)) rfl (by rw [hal];exact hat) ?_
    rw [hag _ hat]
    exact step h3
   ·have hgt: ¬wk last ix k>ix:=by have:=of_decide_eq_false hgt;omega
    have e1:(wk last ix k:Int)=(bP ix (wk last ix k):Int):=by
     unfold bP
     rw [if_neg hgt]
    refine aq.nB (j:=bP ix (wk last ix k)) (h2.ag (ab.cons (ab.cons hs))) e1 hat (vF vx rfl h2 (by rw [List.length_map,List.length_range,aB];omega) fun s' w3 h3 _=> ?_)
    refine aq.nI (j:=bP ix (wk last ix k)) (h3.ag (ab.cons ab.own)) e1 (by rw [hal];exact hat) ?_
    rw [hag _ hat]
    exact step h3
  ·have hke:k=last.length:=by have:=of_decide_eq_false hge;omega
   subst hke
   refine aa.mk (fun g=>hK2 (fun hh=> ?_) w2 h2.drop.drop) (fun g=> ?_)
   ·have:=hh.2.2.2
    rw [Int.toNat_natCast] at this
    rw [this] at g
    simp at g
   ·have hend:wk last ix last.length=ix:=by
     have:(wk last ix last.length:Int)=(ix:Int):=by simpa using g
     omega
    have hok:ua last (ix:Int):=⟨by omega,by rw [Int.toNat_natCast];exact ⟨hix,hne,hend⟩⟩
    exact p5 h2 ab.own (by rw [List.length_map,List.length_range];exact hn) fun s' w3 h3=>hK1 hok s' w3 h3.p1.drop.p1.drop
end
end Go.Proofs.YtcdpblipagajiaaGreat
namespace Go.aj
open Go.Inc Go.Srt Go.Sym Go.Bits
def jJ (l:List Nat):Nat→Nat→List Nat→Option (Nat×Nat)
 |_,_,[]=>none
 |c,n,x::r=>match de l (2*c+x) (n+1) with
  |some y=>some (y,n+1)
  |none=>jJ l (2*c+x) (n+1) r
theorem sL {l:List Nat} {c n x:Nat} {r:List Nat} (h:de l (2*c+x) (n+1)=none):jJ l c n (x::r)=jJ l (2*c+x) (n+1) r:=by rw [jJ,h]
theorem sI {l:List Nat} {c n x y:Nat} {r:List Nat} (h:de l (2*c+x) (n+1)=some y):jJ l c n (x::r)=some (y,n+1):=by rw [jJ,h]
theorem wV {l:List Nat} {d:DS} {acc:List Nat}: ∀(bs:List Nat) (c n:Nat),jJ l c n bs=none→∃s',run (cq l) ⟨c,n,d,acc⟩ bs= .short s'
 | [],c,n,_=>⟨_,rfl⟩
 |x::r,c,n,h=>by
  cases hf:de l (2*c+x) (n+1) with
  |some y=>rw [sI hf] at h;cases h
  |none=>
   rw [sL hf] at h
   rw [bK (tF (s:=⟨c,n,d,acc⟩) hf)]
   exact wV r _ _ h
theorem Bg {l:List Nat} {d:DS} {acc:List Nat} {y m:Nat}: ∀(bs:List Nat) (c n:Nat),jJ l c n bs=some (y,m)→n<m∧m≤n+bs.length∧y<258∧
  run (cq l) ⟨c,n,d,acc⟩ bs=match ck d y with
   |none=> .bad 160
   |some (_,t,true)=> .fin (acc++t) (bs.drop (m - n))
   |some (d',t,false)=>run (cq l) ⟨0,0,d',acc++t⟩ (bs.drop (m - n))
 | [],c,n,h=>by cases h
 |x::r,c,n,h=>by
  cases hf:de l (2*c+x) (n+1) with
  |some z=>
   rw [sI hf] at h
   cases h
   refine ⟨by omega,by rw [List.length_cons];omega,(kZ hf).1.1,?_⟩
   rw [dV,xI (s:=⟨c,n,d,acc⟩) hf,show n+1 - n=1 by omega,List.drop_one,List.tail_cons]
   dsimp only
   cases hd:ck d y with
   |none=>rfl
   |some p=>
    obtain ⟨d',t,b⟩:=p
    cases b<;>rfl
  |none=>
   rw [sL hf] at h
   obtain ⟨h1,h2,h3,h4⟩:=Bg r _ _ h
   refine ⟨by omega,by rw [List.length_cons];omega,h3,?_⟩
   rw [bK (tF (s:=⟨c,n,d,acc⟩) hf),show m - n=(m - (n+1))+1 by omega,List.drop_succ_cons]
   exact h4
end Go.aj
namespace Go.Proofs.YtcdpblipagajiaaGreat
open Go Go.Vc Go.Srt Go.Inc Go.Sym Go.Tab Go.Hd Go.Bw Go.Bits Go.aj Go.Crc
section
variable {E w:World} {F:List HP}
set_option maxRecDepth 20000
theorem sE {s:Sl} {x:List Nat} {K:Sl→Int→World→Prop} (h:Hp E w F) (hs:ab F (aC 1 s (x.map vB))) (hn:x.length≤400000) (hK: ∀s' w',Hp E w' (OB s' (aU x.reverse)::F)→K s' (bG x.reverse:Int) w'):
  Cl Tryz.prog [kS,kI] fF ⟨[.slice s.base s.len s.cap]⟩ w K:=by
 refine BF.ok _ _ _ ?_
 refine p5 h hs hn fun s' w h=> ?_
 exact Gd h ab.own (by simpa using hn) fun s2 w h=>hK s2 w h.bY
theorem qY {s:Sl} {x:List Nat} {K:Sl→World→Prop} (h:Hp E w F) (hs:ab F (aC 1 s (x.map vB))) (hb: ∀y∈x,y<256) (hn:x.length≤400000) (hK: ∀s' w',Hp E w' (OI s' (syms (aU x.reverse))::F)→K s' w'):
  Cl Tryz.prog [kS] fe ⟨[.slice s.base s.len s.cap]⟩ w K:=by
 refine zw.ok _ _ _ ?_
 refine sE h hs hn fun s' w h=> ?_
 exact KC h ab.own (qj fun y hy=>hb y (List.mem_reverse.1 hy)) (by rw [cj,List.length_reverse];omega) fun s2 w h=>hK s2 w h.bY
theorem vy {s:Sl} {x:List Nat} {K:Array Value→World→Prop} (h:Hp E w F) (hs:ab F (aC 1 s (x.map vB))) (hb: ∀y∈x,y<256) (hn:x.length≤400000) (hK: ∀w',Hp E w' F→K (ai .u8 (bB x)) w'):
  Cl Tryz.prog [.arr 258] gT ⟨[.slice s.base s.len s.cap]⟩ w K:=by
 refine zz.ok _ _ _ ?_
 have h257:=og hb
 have hfew:=n5 hn
 have hct:=Dp h257
 have hall:(ints (syms (aU x.reverse))).all Hs.kT=true:=by
  refine List.all_eq_true.2 fun z hz=> ?_
  obtain ⟨y,hy,rfl⟩:=List.mem_map.1 hz
  have:=h257 y hy
  exact Hs.iF.2 (by omega)
 have hmx:=tM (ss:=syms (aU x.reverse)) (by omega)
 have hadd:Hs.cY (List.replicate 258 0) (ints (syms (aU x.reverse)))=some (ints (gM (syms (aU x.reverse)))):=by
  rw [←hct]
  exact Hs.qJ (by decide) hall (by rw [hct];exact iU hmx)
 have hsz:(aT (ints (gM (syms (aU x.reverse))))).size=258:=by rw [bN,cF,j9]
 have hsc:(aT (ints (gM (syms (aU x.reverse))))).toList.all aA=true:=List.all_eq_true.2 Vc.cV
 have hls:(ai .u8 (bB x)).size=258:=by rw [ax];exact kb _
 have hlc:(ai .u8 (bB x)).toList.all aA=true:=List.all_eq_true.2 bk
 refine Nw.mk h fun b3 w h=>qY h (ab.cons hs) hb hn fun s' w h=>MK h ab.own (by rw [cF,aB];omega) fun w h=> ?_
 rw [show cD=List.replicate 258 0 from rfl,hadd]
 refine Nw.mk h fun b8 w h=>an.q h (by simp) hsz hsc fun w h=>Ld.xw h hsz ?_
 refine KV (vJ (by omega)) h fun w h=> ?_
 refine Nw.mk h fun b15 w h=>an.q h (by simp) hls hlc fun w h=>Ld.xw h hls ?_
 refine an.q (b:=b3) h (by simp) hls hlc fun w h=>Ld.xw (b:=b3) h hls (hK w h.tl)
theorem LD {n:Int} {s:Sl} {x:List Nat} {K:Sl→Int→World→Prop} (h:Hp E w F) (hs:ab F (aC 1 s (x.map vB))) (hb: ∀y∈x,y<256) (hn:x.length≤65536)
  (hgood:1≤n→n≤65536→1≤x.length→(x.length:Int)≤n→∀s' w',Hp E w' (OB s' (kF (bB x) x)::F)→K s' 0 w')
  (hbad: ¬(1≤n∧n≤65536∧1≤x.length∧(x.length:Int)≤n)→∀w',Hp E w' F→K ⟨none,0,0⟩ 2 w'):
  Cl Tryz.prog [kS,kI] kA ⟨[.int .i64 n,.slice s.base s.len s.cap]⟩ w K:=by
 refine FB.ok _ _ _ _ ?_
 have hlen:x.length=s.len:=kL (h.ag hs)
 refine sE h hs (by omega) fun s4 w h=>Nw.mk h fun b7 w h=> ?_
 have hcrc:lf x<4294967296:=sF hb
 refine J0 (s:=⟨some ⟨b7,0,none⟩,1,1⟩) (cs:= [s]) (bs:= [x]) h (ab.aF rfl rfl) rfl (by rw [aB];simp) (fun i hi=> ?_) (by simpa using hb) (by simp [aB];omega) ?_
 ·match i,hi with
  |0,_=>exact ab.cons (ab.cons hs)
 rw [show [x].flatten=x by simp,show (s.len:Int)=(x.length:Int) by omega]
 have hidx:bG x.reverse≤x.length:=by
  by_cases h0:x= []
  ·subst h0;decide
  ·have:=oJ (t:=x.reverse) (by rw [List.length_reverse];exact List.length_pos_iff.2 h0)
   rw [List.length_reverse] at this;omega
 refine FN h (by omega) (by omega) hcrc (fun h1 h2 h3 h4 h5 h6 s11 w h=> ?_) (fun hno w h=> ?_)
 ·refine aa.nf rfl ?_
  have hL:=mM h3 (by omega) hb
  have hls:(ai .u8 (bB x)).size=258:=by rw [ax];exact hL.len
  have hlc:(ai .u8 (bB x)).toList.all aA=true:=List.all_eq_true.2 bk
  have h15:=mh hL.ok
  have h8: ∀y∈bB x,y≤255:=fun y hy=>by have:=h15 y hy;omega
  refine vy h (ab.cons (ab.cons (ab.cons hs))) hb (by omega) fun w h=> ?_
  refine Nw.mk h fun b16 w h=> ?_
  refine an.q h (by simp) hls hlc fun w h=> ?_
  refine Ld.xw h hls ?_
  refine KD h hL.len h8 (fun hno=>absurd hL.ok (by rw [hno];decide)) fun _ s20 w h=> ?_
  have h:=h.drew (n:=w.drawn+1)
  refine ⟨bQ b16 _ _ _,h.hb,ae.xw (fun _ h=>h) hls ?_⟩
  have hsl:=n5 (x:=x) (by omega)
  have hsl2:=lA (aU x.reverse)
  rw [cj,List.length_reverse] at hsl2
  refine qY h (ab.cons (ab.cons (ab.cons (ab.cons (ab.cons hs))))) hb (by omega) fun s26 w h=>⟨h.hb,?_⟩
  refine KW h hL.len h8 ab.own (by rw [cF];omega) (fun hno=>absurd ⟨hL.v,yM hL.good (og hb)⟩ hno) fun _ _ s28 w h=>⟨h.hb,?_⟩
  rw [mc] at h
  have htl:=kG hL.len hL.ok
  have hel:=lj hL.v (ints (syms (aU x.reverse)))
  rw [mc,cF] at hel
  refine A8 (h.at 2) ab.own (by omega) (by omega) fun s31 w h=> ?_
  refine FX h ab.own (pk _ _) (by rw [List.length_append];omega) fun s33 w h=> ?_
  have hpl:=il (dr (bB x)++enc (bB x) (syms (aU x.reverse)))
  rw [List.length_append] at hpl
  have hml:(fR x.length (bG x.reverse) (lf x)).length≤20:=by
   have h1:=fu (n:=x.length) (by omega)
   have h2:=fu (n:=bG x.reverse) (by omega)
   unfold fR
   simp [gn]
   omega
  refine sx (h.at 5) ab.own (by omega) (by omega) fun s35 w h=>hgood h1 h2 h3 h4 s35 w ?_
  exact h.bY
 ·refine aa.nt (by decide) (hbad (fun hh=>hno ?_) w h.tl)
  have:=oJ (t:=x.reverse) (by rw [List.length_reverse];omega)
  rw [List.length_reverse] at this
  exact ⟨hh.1,hh.2.1,hh.2.2.1,hh.2.2.2,this.1,this.2⟩
theorem Ku {l ys bs:List Nat} {s:Sl} {k:Nat} {K:Int→Int→Bool→World→Prop} (h:Hp E w F) (hl:l.length=258) (hok:bz l=true) (hys:bA l ys) (hs:ab F (aC 1 s ((ints bs).map vI))) (hb: ∀x∈bs,x≤1) (hbig:bs.length≤1000000000) (hk:k≤bs.length)
  (hno:jJ l 0 0 (bs.drop k)=none→∀w',Hp E w' F→K 0 0 false w')
  (hyes: ∀y n:Nat,jJ l 0 0 (bs.drop k)=some (y,n)→∀w',Hp E w' F→K (y:Int) (n:Int) true w'):
  Cl Tryz.prog [kI,kI,kB] od ⟨[.agg (ai .u8 l),.agg (ai .u32 (bg l ys ys.length)),.slice s.base s.len s.cap,.int .i64 (k:Int)]⟩ w K:=by
 refine EL.ok _ _ _ _ _ _ ?_
 have hlen:bs.length=s.len:=nP (h.ag hs)
 have hv:aS l≤32768:=by rw [(ki.1 hok).1];decide
 refine Nw.mk h fun b6 w h=>Nw.mk h fun b8 w h=> ?_
 refine ⟨fun v n w'=> ∃c m:Nat,v=(c:Int)∧n=((m+1:Nat):Int)∧k+m≤bs.length∧om l c m∧jJ l 0 0 (bs.drop k)=jJ l c m (bs.drop (k+m))∧
  Hp E w' (aj b8 (.cells (ai .u32 (bg l ys ys.length)) 101 (0,0))::aj b6 (.cells (ai .u8 l) 36 (0,0))::F),fun _ n _=>100 - n.toNat,⟨0,0,rfl,rfl,by omega,om.zero hok,rfl,h⟩,?_⟩
 rintro v n w ⟨c,m,rfl,rfl,hkm,hvs,htl,h⟩
 have hm15:=hvs.2.1
 have hc2:c<16384:=by
  have:=hvs.2.2.1
  have:2^m≤2^14:=Nat.pow_le_pow_right (by decide) (by omega)
  omega
 rw [aD]
 dsimp only
 rw [ad (x:=(k:Int)+((m+1:Nat):Int)) (by omega)]
 refine aa.dt (by omega) (aa.dm (fun hlt=> ?_) (fun hge=> ?_))
 ·have hlt:k+m<bs.length:=by omega
  have hx:=hb _ (List.getElem_mem hlt)
  rw [ad (by omega)]
  refine aq.rI (j:=k+m) ((h.tl:Hp E _ F).ag hs) (by omega) hlt ?_
  rw [List.drop_eq_getElem_cons hlt] at htl
  generalize hxe:bs[k+m]=x at hx htl⊢
  rw [cW (x:=2*(c:Int)) (by omega),cW (x:=(x:Int)) (by omega),cW (by omega),show 2*(c:Int)+(x:Int)=((2*c+x:Nat):Int) by omega,ad (x:=((m+1:Nat):Int)+1) (by omega)]
  refine ⟨fun s w'=> ∃q:Nat,s=(q:Int)∧q≤258∧(∀t,t<q→¬(gU l t∧l.getD t 0=m+1∧code l t=2*c+x))∧
   Hp E w' (aj b8 (.cells (ai .u32 (bg l ys ys.length)) 101 (0,0))::aj b6 (.cells (ai .u8 l) 36 (0,0))::F),fun s _=>258 - s.toNat,⟨0,rfl,by omega,by omega,h⟩,?_⟩
  rintro s w ⟨q,rfl,hq,hnone,h⟩
  refine aa.dm (fun hlt2=> ?_) (fun hge2=> ?_)
  ·have hlt2:q<258:=by omega
   have h15:=eu hv q
   have next: ¬(gU l q∧l.getD q 0=m+1∧code l q=2*c+x)→∀t,t<q+1→¬(gU l t∧l.getD t 0=m+1∧code l t=2*c+x):=fun hk2 t ht=>by
    by_cases e:t=q
    ·subst e;exact hk2
    ·exact hnone t (by omega)
   rw [ad (x:=(q:Int)+1) (by omega)]
   refine av.rd (s:= .int .u8) (h.at 1) (by omega) (by omega) (l.getD q 0:Int) (ig (by omega)) ?_
   rw [ad (x:=(l.getD q 0:Int)) (by omega)]
   refine aa.em (fun hn=> ?_) (fun hn=>⟨⟨q+1,rfl,by omega,next (fun hh=>hn (by omega)),h⟩,by first|omega|(dsimp only;omega)⟩)
   have hn:l.getD q 0=m+1:=by omega
   refine av.rd (s:= .int .u32) h (by omega) (by omega) ((bg l ys ys.length).getD q 0:Int) (ig (by rw [bJ];exact hlt2)) ?_
   rw [qV hl hv hys hlt2 (by omega)]
   refine aa.em (fun hc=> ?_) (fun hc=>⟨⟨q+1,rfl,by omega,next (fun hh=>hc (by omega)),h⟩,by first|omega|(dsimp only;omega)⟩)
   have hc:code l q=2*c+x:=by omega
   have hf:=rD hl (s:=q) ⟨hlt2,by omega⟩
   rw [hn,hc] at hf
   exact hyes q (m+1) (by rw [htl,sI hf]) w h.tl
  ·have hge2:q=258:=by omega
   subst hge2
   have hf:de l (2*c+x) (m+1)=none:=by
    cases hq:de l (2*c+x) (m+1) with
    |none=>rfl
    |some s=>
     obtain ⟨h2,h3,h4⟩:=kZ hq
     exact absurd ⟨h2,h3,h4⟩ (hnone s h2.1)
   have hfs:=Bi hl hvs hx
   have hfst:=DY (l:=l) (c:=c) (b:=m) (x:=x)
   have hvn:=hvs.next hx
   rw [hf] at hfs
   rw [hfs] at hfst
   rw [hfst] at hvn
   refine ⟨⟨2*c+x,m+1,rfl,by omega,by omega,hvn,?_,h⟩,by first|omega|(dsimp only;omega)⟩
   rw [htl,sL hf];rfl
 ·have:bs.drop (k+m)= []:=List.drop_of_length_le (by omega)
  rw [this] at htl
  exact hno (by rw [htl];rfl) w h.tl
end
end Go.Proofs.YtcdpblipagajiaaGreat
namespace Go.Proofs.YtcdpblipagajiaaGreat
open Go Go.Vc Go.Srt Go.Inc Go.Sym Go.Tab Go.Hd Go.Bw Go.Bits Go.aj Go.Crc
section
variable {E w:World} {F:List HP}
set_option maxRecDepth 20000
theorem JG {l:List Nat} {s:Sl} {bs:List Nat} {M:Nat} {K:Sl→Int→Int→World→Prop} (h:Hp E w F) (hl:l.length=258) (hok:bz l=true) (hM:1≤M) (hM2:M≤65536) (hs:ab F (aC 1 s ((ints bs).map vI))) (hb: ∀x∈bs,x≤1) (hbig:bs.length≤1000000000)
  (hshort: ∀s' w',run (cq l) ⟨0,0,⟨List.range 256,M,0,0⟩,[]⟩ bs= .short s'→Hp E w' F→K ⟨none,0,0⟩ 0 50 w')
  (hbad: ∀w',run (cq l) ⟨0,0,⟨List.range 256,M,0,0⟩,[]⟩ bs= .bad 160→Hp E w' F→K ⟨none,0,0⟩ 0 160 w')
  (hfin: ∀last r s' w',run (cq l) ⟨0,0,⟨List.range 256,M,0,0⟩,[]⟩ bs= .fin last r→(∀x∈last,x<256)→last.length≤M→Hp E w' (OB s' last::F)→K s' ((bs.length - r.length:Nat):Int) 0 w'):
  Cl Tryz.prog [kS,kI,kI] lu ⟨[.int .i64 (M:Int),.agg (ai .u8 l),.slice s.base s.len s.cap]⟩ w K:=by
 refine B7.ok _ _ _ _ _ ?_
 have h15:=mh hok
 have h8: ∀y∈l,y≤255:=fun y hy=>by have:=h15 y hy;omega
 have hv:aS l≤32768:=by rw [(ki.1 hok).1];decide
 have hlen:bs.length=s.len:=nP (h.ag hs)
 have hsz:(ai .u8 l).size=258:=by rw [ax,hl]
 have hz2:(⟨List.replicate 256 (.int .u8 0)++ [.int .i64 0,.int .i64 0,.int .i64 0,.bool false]⟩:Array Value).size=260:=by simp
 refine Nw.mk h fun b5 w h=>Ld.xw h hsz (yA h hl h8 (fun hn=>absurd hv hn) fun _ ys w hys h=> ?_)
 have hcs:(ai .u32 (bg l ys ys.length)).size=258:=by rw [ax,bJ]
 refine Nw.mk h fun b11 w h=>an.q h (by simp) hcs (List.all_eq_true.2 bk) fun w h=>Gj h hM hM2 fun w h=> ?_
 have hd0:gI ⟨List.range 256,M,0,0⟩:=gI.zero hM2
 refine Nw.mk h fun b16 w h=>an.q h hz2 (aQ (by simp)) aR fun w h=> ?_
 refine ⟨fun o i w=> ∃(k:Nat) (d:DS) (acc:List Nat),i=(k:Int)∧k≤bs.length∧gI d∧(∀x∈acc,x<256)∧acc.length+d.left≤M∧
  run (cq l) ⟨0,0,⟨List.range 256,M,0,0⟩,[]⟩ bs=run (cq l) ⟨0,0,d,acc⟩ (bs.drop k)∧
  Hp E w (OB o acc::aj b16 (.cells (cM d.L (d.left:Int) (d.run:Int) (d.digits:Int) false) 149 (0,0))::aj b11 (.cells (ai .u32 (bg l ys ys.length)) 101 (0,0))::aj b5 (.cells (ai .u8 l) 36 (0,0))::F),
  fun _ i _=>bs.length - i.toNat,⟨0,_,[],rfl,by omega,hd0,by simp,by simp,rfl,h.aW 1⟩,?_⟩
 rintro o i w ⟨k,d,acc,rfl,hk,hd,ha,hal,hrun,h⟩
 have hdL:=hd.1.len
 refine Ld.xw (b:=b5) h hsz (Ld.xw (b:=b11) h hcs ?_)
 refine Ku h hl hok hys (ab.cons (ab.cons (ab.cons (ab.cons hs)))) hb hbig hk (fun hno w h=> ?_) (fun y m hyes w h=> ?_)
 ·obtain ⟨s',he⟩:=wV (d:=d) (acc:=acc) _ _ _ hno
  with_reducible refine aa.NJ ?_
  exact hshort s' w (by rw [hrun,he]) h.tl
 ·obtain ⟨h1,h2,h3,h4⟩:=Bg (d:=d) (acc:=acc) _ _ _ hyes
  rw [List.length_drop] at h2
  rw [h4,Nat.sub_zero,List.drop_drop] at hrun
  with_reducible refine aa.wm ?_
  have ol:=OB.len h
  refine Ld.xw (b:=b16) h (aQ hdL) (EE h hd h3 (fun o' w hq ho hos h=> ?_) (fun d' t sl w hq h=> ?_) (fun d' t sl w hq h=> ?_))
  ·rw [hq] at hrun
   exact Nw.mk h fun b36 w h=>an.q h hz2 ho hos fun w h=>aa.nt (by decide) (hbad w hrun h.tl)
  ·rw [hq] at hrun
   dsimp only at hrun
   obtain ⟨hd',hb',hl'⟩:=xJ hd h3 hq
   have l1:=OB.len h
   refine Nw.mk h fun b36 w h=>an.q h hz2 (aQ hd'.1.len) aR fun w h=>aa.nf rfl ?_
   refine Ld.xw (b:=b36) h (aQ hd'.1.len) (an.q (b:=b16) h (aQ hdL) (aQ hd'.1.len) aR fun w h=> ?_)
   refine sx (h.at 2) (ab.at 1 ab.own) (by omega) (by omega) fun s3 w h=>aa.f rfl ?_
   rw [ad (by omega)]
   refine ⟨⟨k+m,d',acc++t,by omega,by omega,hd',?_,by rw [List.length_append];omega,hrun,(h.no 1).no 1⟩,by first|omega|(dsimp only;omega)⟩
   intro x hx
   rcases List.mem_append.1 hx with hx|hx
   ·exact ha x hx
   ·exact hb' x hx
  ·rw [hq] at hrun
   dsimp only at hrun
   obtain ⟨hb',hl'⟩:=Bs hd hq
   have l1:=OB.len h
   refine Nw.mk h fun b36 w h=>an.q h hz2 (aQ hdL) aR fun w h=>aa.nf rfl ?_
   refine Ld.xw (b:=b36) h (aQ hdL) (an.q (b:=b16) h (aQ hdL) (aQ hdL) aR fun w h=> ?_)
   refine sx (h.at 2) (ab.at 1 ab.own) (by omega) (by omega) fun s3 w h=>aa.t rfl ?_
   rw [ad (by omega)]
   have hr:=hfin (acc++t) (bs.drop (k+m)) s3 w hrun (fun x hx=>by
    rcases List.mem_append.1 hx with hx|hx
    ·exact ha x hx
    ·exact hb' x hx) (by rw [List.length_append];omega) h.bY
   rw [List.length_drop,show bs.length - (bs.length - (k+m))=k+m by omega] at hr
   exact hr
theorem Hw {n:Int} {s:Sl} {b:List Nat} {K:Sl→Sl→Int→World→Prop} (h:Hp E w F) (hs:ab F (aC 1 s (b.map vB))) (hb: ∀y∈b,y<256) (hbig:b.length≤10000000) (hcap:s.len≤s.cap)
  (harg: ¬(1≤n∧n≤65536)→∀w',Hp E w' F→K ⟨none,0,0⟩ ⟨none,0,0⟩ 2 w')
  (herr:1≤n→n≤65536→∀e w',cC n.toNat b= .error e→e≠0→Hp E w' F→K ⟨none,0,0⟩ ⟨none,0,0⟩ (e:Int) w')
  (hok:1≤n→n≤65536→∀x r s1 s2 w',cC n.toNat b= .ok (x,r)→Hp E w' (OB s1 x::OB s2 r::F)→K s1 s2 0 w'):
  Cl Tryz.prog [kS,kS,kI] iR ⟨[.int .i64 n,.slice s.base s.len s.cap]⟩ w K:=by
 refine A0.ok _ _ _ _ ?_
 (try simp only [aD,aw,ar,Nat.zero_add,Nat.add_zero,Nat.reduceAdd,Bool.not_true,Bool.not_false,aZ,aX,Option.isNone])
 by_cases hn: ¬(1≤n∧n≤65536)
 ·refine C6 h hn fun w h=> ?_
  (with_reducible repeat first|refine Nw.mk h fun b w h=> ?_|refine au.mk h fun w h=> ?_|refine Ld.xb h rfl ?_|refine Ld.xt h rfl ?_|refine ae.xb (fun _ h=>h) rfl ?_|refine ae.xt (fun _ h=>h) rfl ?_|refine ⟨h.hb,?_⟩|refine ak.xw h rfl rfl fun w h=> ?_|(refine ak.xs h rfl rfl fun w h=> ?_;dsimp only [ao,af] at h)|(refine St.xs h rfl rfl fun w h=> ?_;dsimp only [ao,af] at h)|refine aa.yes ?_|refine aa.no ?_|refine ⟨by first|omega|decide,?_⟩)
  exact harg hn w h.tl
 have hn:1≤n∧n≤65536:=Decidable.not_not.1 hn
 obtain ⟨m,rfl⟩: ∃m:Nat,n=(m:Int):=⟨n.toNat,by omega⟩
 have herr:=herr hn.1 hn.2
 have hok:=hok hn.1 hn.2
 rw [Int.toNat_natCast] at herr hok
 unfold cC at herr hok
 refine IM h (by omega) (by omega) hs hb (by omega) hcap (fun s' w hr h=> ?_) (fun w hr h=> ?_) (fun M P u r s5 w hr h=> ?_) (fun u r s5 w hr h=> ?_)
 ·rw [hr] at herr
  (with_reducible repeat first|refine Nw.mk h fun b w h=> ?_|refine au.mk h fun w h=> ?_|refine Ld.xb h rfl ?_|refine Ld.xt h rfl ?_|refine ae.xb (fun _ h=>h) rfl ?_|refine ae.xt (fun _ h=>h) rfl ?_|refine ⟨h.hb,?_⟩|refine ak.xw h rfl rfl fun w h=> ?_|(refine ak.xs h rfl rfl fun w h=> ?_;dsimp only [ao,af] at h)|(refine St.xs h rfl rfl fun w h=> ?_;dsimp only [ao,af] at h)|refine aa.yes ?_|refine aa.no ?_|refine ⟨by first|omega|decide,?_⟩)
  exact herr 50 w rfl (by decide) h.tl
 ·rw [hr] at herr
  (with_reducible repeat first|refine Nw.mk h fun b w h=> ?_|refine au.mk h fun w h=> ?_|refine Ld.xb h rfl ?_|refine Ld.xt h rfl ?_|refine ae.xb (fun _ h=>h) rfl ?_|refine ae.xt (fun _ h=>h) rfl ?_|refine ⟨h.hb,?_⟩|refine ak.xw h rfl rfl fun w h=> ?_|(refine ak.xs h rfl rfl fun w h=> ?_;dsimp only [ao,af] at h)|(refine St.xs h rfl rfl fun w h=> ?_;dsimp only [ao,af] at h)|refine aa.yes ?_|refine aa.no ?_|refine ⟨by first|omega|decide,?_⟩)
  exact herr 242 w rfl (by decide) h.tl
 ·rw [hr] at herr hok
  dsimp only at herr hok
  have hM:=uI b iB (.inl ⟨rfl,rfl⟩) hb hr
  obtain ⟨a,hsuf⟩:=gf b iB hr
  have hrb: ∀y∈r,y<256:=fun y hy=>hb y (by rw [hsuf];exact List.mem_append.2 (.inr hy))
  have hrl:r.length≤b.length:=by rw [hsuf,List.length_append];omega
  have hl5:=OB.len h
  have hc5:=h.ee
  (with_reducible repeat first|refine Nw.mk h fun b w h=> ?_|refine au.mk h fun w h=> ?_|refine Ld.xb h rfl ?_|refine Ld.xt h rfl ?_|refine ae.xb (fun _ h=>h) rfl ?_|refine ae.xt (fun _ h=>h) rfl ?_|refine ⟨h.hb,?_⟩|refine ak.xw h rfl rfl fun w h=> ?_|(refine ak.xs h rfl rfl fun w h=> ?_;dsimp only [ao,af] at h)|(refine St.xs h rfl rfl fun w h=> ?_;dsimp only [ao,af] at h)|refine aa.yes ?_|refine aa.no ?_|refine ⟨by first|omega|decide,?_⟩)
  refine MJ h (ab.at 1 ab.own) hrb (by omega) fun s12 w h=> ?_
  have hal:=dy r
  have hab: ∀x∈aM r,x≤1:=fun x hx=>by have:=tX r (8*r.length) x hx;omega
  have hl12:=OI.len h
  have hc12:=h.ee
  unfold sP at herr hok
  refine HF h ab.own hab (by rw [aB];omega) (fun t w hq h=> ?_) (fun w hq h=> ?_) (fun l more w hq h=> ?_)
  ·rw [hq] at herr
   refine Nw.mk h fun b18 w h=>an.q h (by simp) (by simp) (by decide) fun w h=>aa.nt (by decide) (herr 50 w rfl (by decide) h.tl)
  ·rw [hq] at herr
   refine Nw.mk h fun b18 w h=>an.q h (by simp) (by simp) (by decide) fun w h=>aa.nt (by decide) (herr 100 w rfl (by decide) h.tl)
  ·rw [hq] at herr hok
   dsimp only at herr hok
   obtain ⟨hl,hokT⟩:=uH _ t0 gh.zero hab hq
   obtain ⟨a2,hsuf2⟩:=gf _ t0 hq
   have hls:(ai .u8 l).size=258:=by rw [ax,hl]
   have hlc:(ai .u8 l).toList.all aA=true:=List.all_eq_true.2 bk
   have hmore:more=(aM r).drop ((aM r).length - more.length):=by
    conv=>rhs;rw [hsuf2]
    rw [List.length_append,show a2.length+more.length - more.length=a2.length by omega,List.drop_left]
   have hml:more.length≤(aM r).length:=by rw [hsuf2,List.length_append];omega
   refine Nw.mk h fun b18 w h=>an.q h (by simp) hls hlc fun w h=>aa.nf rfl (au.mk h fun w h=> ?_)
   refine Ld.xb (x:=(M:Int)) h rfl (Ld.xw h hls ?_)
   have e12: ∀k:Nat,(((ints (aM r)).map vI).drop k)=(ints ((aM r).drop k)).map vI:=fun k=>by simp [ints]
   refine bd.rd ((h.at 1).ag ab.own) (by omega) (by omega) (by omega) (by omega) (by omega) fun s32 hs32 hl32=> ?_
   simp only [Int.toNat_natCast] at hs32 hl32
   rw [e12,←hmore,List.take_of_length_le (by simp [ints];omega)] at hs32
   have hmb: ∀x∈more,x≤1:=fun x hx=>hab x (by rw [hsuf2];exact List.mem_append.2 (.inr hx))
   refine JG h hl hokT (by omega) (by omega) ((ab.at 1 ab.own).imp fun w hw=>hs32 w hw) hmb (by omega) (fun t w hq2 h=> ?_) (fun w hq2 h=> ?_) (fun last left s34 w hq2 hlb hll h=> ?_)
   ·rw [hq2] at herr
    exact aa.nt (by decide) (herr 50 w rfl (by decide) h.tl)
   ·rw [hq2] at herr
    exact aa.nt (by decide) (herr 160 w rfl (by decide) h.tl)
   ·rw [hq2] at herr hok
    dsimp only at herr hok
    obtain ⟨a3,hsuf3⟩:=gf _ _ hq2
    have hleft:left=(aM r).drop ((aM r).length - left.length):=by
     conv=>rhs;rw [hsuf2,hsuf3]
     rw [←List.append_assoc,List.length_append,show (a2++a3).length+left.length - left.length=(a2++a3).length by omega,List.drop_left]
    have hll2:left.length≤more.length:=by rw [hsuf3,List.length_append];omega
    have hlb1: ∀x∈left,x≤1:=fun x hx=>hmb x (by rw [hsuf3];exact List.mem_append.2 (.inr hx))
    have hpad:=yD hlb1
    obtain ⟨p,hp⟩: ∃p,p=(aM r).length - left.length:=⟨_,rfl⟩
    have e1:(((aM r).length - more.length:Nat):Int)+((more.length - left.length:Nat):Int)=(p:Int):=by omega
    rw [e1,ad (x:=(p:Int)) (by omega)]
    refine aa.nf rfl ?_
    refine ⟨fun at_ w=> ∃q:Nat,at_=(q:Int)∧p≤q∧q≤8*((p+7)/8)∧1∉left.take (q - p)∧
     Hp E w (OB s34 last::aj b18 (.cells (ai .u8 l) 36 (0,0))::OI s12 (aM r)::aj _ (.cells ⟨[.int .i64 4,.int .i64 0,.int .i64 0,.int .i64 (M:Int),.int .i64 (P:Int),.int .u32 (u:Int),.int .i64 4]⟩ 74 (0,0))::OB s5 r::F),fun at_ _=>8*((p+7)/8) - at_.toNat,⟨p,rfl,by omega,by omega,by simp,h⟩,?_⟩
    rintro at_ w ⟨q,rfl,hq1,hq8,hno1,h⟩
    rw [show Int.tmod (q:Int) 8=((q % 8:Nat):Int) from rfl]
    refine ⟨by decide,aa.nm (fun hm8=> ?_) (fun hm8=> ?_)⟩
    ·have hqlt:q<(aM r).length:=by omega
     have hql:q - p<left.length:=by omega
     have he:(aM r)[q]=left[q - p]:=by
      have:=List.getElem?_eq_getElem hqlt
      have h2:left[q - p]? =(aM r)[q]? :=by
       conv=>lhs;rw [hleft]
       rw [List.getElem?_drop,←hp,show p+(q - p)=q by omega]
      rw [this,List.getElem?_eq_getElem hql] at h2
      exact (Option.some.inj h2).symm
     refine aq.rI (j:=q) ((h.at 2).ag ab.own) rfl hqlt (aa.em (fun h1=> ?_) (fun h1=> ?_))
     ·have hpo:1∈left.take (left.length % 8):=by
       have hl1:left[q - p]=1:=by omega
       rw [←hl1]
       exact List.mem_take_iff_getElem.2 ⟨q - p,by omega,rfl⟩
      rw [hpad,decide_eq_true hpo] at herr
      exact herr 160 w rfl (by decide) h.tl
     ·rw [ad (by omega)]
      refine ⟨⟨q+1,rfl,by omega,by omega,?_,h⟩,by first|omega|(dsimp only;omega)⟩
      rw [show q+1 - p=(q - p)+1 by omega,List.take_add_one,List.getElem?_eq_getElem hql]
      intro hm
      rcases List.mem_append.1 hm with hm|hm
      ·exact hno1 hm
      ·simp at hm;omega
    ·have hq9:q=8*((p+7)/8):=by omega
     rw [show q - p=left.length % 8 by omega] at hno1
     rw [hpad,decide_eq_false hno1] at herr hok
     refine Ld.xb (x:=(P:Int)) h rfl ?_
     unfold kX at herr hok
     simp only [Bool.not_false,if_true] at herr hok
     refine GJ h ab.own hlb (by omega) (fun ho s42 w h=> ?_) (fun ho w h=> ?_)
     ·have ho:okB last P:=by simpa [ua] using ho
      rw [if_pos ho] at herr hok
      refine aa.nf rfl ?_
      have htl:=pt last P
      have htb: ∀y∈cX last P,y<256:=fun y hy=>by
       unfold cX at hy
       simp only [List.mem_reverse,List.mem_map,List.mem_range] at hy
       obtain ⟨k,_,rfl⟩:=hy
       rw [List.getD_eq_getElem?_getD]
       cases hg:last[bP P (wk last P k)]? with
       |none=>decide
       |some z=>exact hlb z (List.mem_of_getElem? hg)
      refine p5 h ab.own (by rw [Int.toNat_natCast,htl];omega) fun s45 w h=> ?_
      rw [Int.toNat_natCast] at h
      have hl45:=h.a6
      rw [List.length_map,Nat.mul_one,List.length_reverse] at hl45
      have h:=h.drew (n:=w.drawn+1)
      refine ⟨bQ b _ _ _,h.hb,?_⟩
      refine ae.xb (x:=(u:Int)) (fun _ h=>h) rfl (Nw.mk h fun b58 w h=>⟨h.hb,?_⟩)
      refine J0 (s:=⟨some ⟨b58,0,none⟩,1,1⟩) (cs:= [s45]) (bs:= [(cX last P).reverse]) h (ab.aF rfl rfl) rfl (by rw [aB];simp) (fun i hi=> ?_) (fun z hz y hy=> ?_) (fun z hz=> ?_) ⟨h.hb,?_⟩
      ·match i,hi with
       |0,_=>exact ab.cons ab.own
      ·rw [List.mem_singleton] at hz
       rw [hz] at hy
       exact htb y (List.mem_reverse.1 hy)
      ·rw [List.mem_singleton] at hz
       rw [hz,List.length_reverse,htl,aB];omega
      rw [show [(cX last P).reverse].flatten=(cX last P).reverse by simp]
      by_cases hc:lf (cX last P).reverse=u
      ·rw [if_pos hc] at hok
       refine aa.nf (by omega) ?_
       have hrd:(r.map vB).drop (q/8)=(r.drop (q/8)).map vB:=by rw [List.map_drop]
       refine Nw.mk h fun b65 w h=>⟨by decide,?_⟩
       rw [show Int.tdiv (q:Int) 8=((q/8:Nat):Int) from rfl,ad (by omega)]
       refine bd.rd ((h.at 8).ag ab.own) (by omega) (by omega) (by omega) (by omega) (by omega) fun s61 hs61 hl61=> ?_
       simp only [Int.toNat_natCast] at hs61 hl61
       rw [hrd,List.take_of_length_le (by rw [List.length_map,List.length_drop];omega)] at hs61
       have h:=Hp.dh (n:=0) (sz:=1) h rfl
       have l2:(r.drop (q/8)).length≤1000000000000:=by rw [List.length_drop];omega
       have key:=fun (K':Sl→World→Prop)=>sx (s:=⟨some ⟨b65,0,none⟩,0,0⟩) (xs:= []) (ys:=r.drop (q/8)) (K:=K') h ((ab.at 7 ab.own).imp fun w hw=>hs61 w hw) (Nat.zero_le _) l2
       refine key _ fun s63 w h=> ?_
       have e9:r.length - left.length/8=q/8:=by omega
       refine hok (cX last P).reverse (r.drop (q/8)) s45 s63 w (by rw [e9]) ?_
       exact ((h.no 1).p1).J5
      ·rw [if_neg hc] at herr
       exact aa.nt (by omega) (herr 250 w rfl (by decide) h.tl)
     ·have ho: ¬okB last P:=by simpa [ua] using ho
      rw [if_neg ho] at herr
      exact aa.nt (by decide) (herr 170 w rfl (by decide) h.tl)
 ·rw [hr] at herr
  (with_reducible repeat first|refine Nw.mk h fun b w h=> ?_|refine au.mk h fun w h=> ?_|refine Ld.xb h rfl ?_|refine Ld.xt h rfl ?_|refine ae.xb (fun _ h=>h) rfl ?_|refine ae.xt (fun _ h=>h) rfl ?_|refine ⟨h.hb,?_⟩|refine ak.xw h rfl rfl fun w h=> ?_|(refine ak.xs h rfl rfl fun w h=> ?_;dsimp only [ao,af] at h)|(refine St.xs h rfl rfl fun w h=> ?_;dsimp only [ao,af] at h)|refine aa.yes ?_|refine aa.no ?_|refine ⟨by first|omega|decide,?_⟩)
  exact herr 242 w rfl (by decide) h.tl
end
end Go.Proofs.YtcdpblipagajiaaGreat
namespace Go.Proofs.YtcdpblipagajiaaGreat
open Go Go.Vc Go.Srt Go.Inc Go.Sym Go.Tab Go.Hd Go.Bw Go.Bits Go.aj Go.Crc
noncomputable def Dx (n:Int) (x:List Nat):List Nat×Int:=if 1≤n∧n≤65536∧1≤x.length∧(x.length:Int)≤n then (kF (bB x) x,0) else ([],2)
def yz (n:Int) (b:List Nat):List Nat×List Nat×Int:=if 1≤n∧n≤65536 then (match cC n.toNat b with| .error e=>([],[],(e:Int))| .ok p=>(p.1,p.2,0)) else ([],[],2)
section
variable {E w:World} {F:List HP}
set_option maxRecDepth 20000
theorem Kw {n:Int} {s:Sl} {x:List Nat} {K:Sl→Int→World→Prop} (h:Hp E w F) (hs:ab F (aC 1 s (x.map vB))) (hb: ∀y∈x,y<256) (hn:x.length≤65536)
  (hK: ∀s' w',Hp E w' (OB s' (Dx n x).1::F)→K s' (Dx n x).2 w'):Cl Tryz.prog [kS,kI] c8 ⟨[.int .i64 n,.slice s.base s.len s.cap]⟩ w K:=by
 unfold Dx at hK
 refine AH h hs hb hn (fun h1 h2 h3 h4 s' w h=> ?_) (fun hno w h=> ?_)
 ·rw [if_pos ⟨h1,h2,h3,h4⟩] at hK
  exact hK s' w h
 ·rw [if_neg hno] at hK
  exact hK _ w (h.aW 1)
theorem JC {n:Int} {s:Sl} {x:List Nat} {K:Sl→Int→World→Prop} (h:Hp E w F) (hs:ab F (aC 1 s (x.map vB))) (hb: ∀y∈x,y<256) (hn:x.length≤65536)
  (hK: ∀s' w',Hp E w' (OB s' (Dx n x).1::F)→K s' (Dx n x).2 w'):Cl Tryz.prog [kS,kI] kA ⟨[.int .i64 n,.slice s.base s.len s.cap]⟩ w K:=by
 unfold Dx at hK
 refine LD h hs hb hn (fun h1 h2 h3 h4 s' w h=> ?_) (fun hno w h=> ?_)
 ·rw [if_pos ⟨h1,h2,h3,h4⟩] at hK
  exact hK s' w h
 ·rw [if_neg hno] at hK
  exact hK _ w (h.aW 1)
theorem GF {n:Int} {s:Sl} {b:List Nat} {K:Sl→Sl→Int→World→Prop} (h:Hp E w F) (hs:ab F (aC 1 s (b.map vB))) (hb: ∀y∈b,y<256) (hbig:b.length≤10000000) (hcap:s.len≤s.cap)
  (hK: ∀s1 s2 w',Hp E w' (OB s1 (yz n b).1::OB s2 (yz n b).2.1::F)→K s1 s2 (yz n b).2.2 w'):Cl Tryz.prog [kS,kS,kI] ch ⟨[.int .i64 n,.slice s.base s.len s.cap]⟩ w K:=by
 unfold yz at hK
 refine uW h hs hb hbig hcap (fun hn w h=> ?_) (fun h1 h2 e w he _ h=> ?_) (fun h1 h2 x r s1 s2 w he _ _ _ h=> ?_)
 ·rw [if_neg hn] at hK
  exact hK _ _ w ((h.aW 1).aW 1)
 ·rw [if_pos ⟨h1,h2⟩,he] at hK
  exact hK _ _ w ((h.aW 1).aW 1)
 ·rw [if_pos ⟨h1,h2⟩,he] at hK
  exact hK _ _ w h
theorem Eu {n:Int} {s:Sl} {b:List Nat} {K:Sl→Sl→Int→World→Prop} (h:Hp E w F) (hs:ab F (aC 1 s (b.map vB))) (hb: ∀y∈b,y<256) (hbig:b.length≤10000000) (hcap:s.len≤s.cap)
  (hK: ∀s1 s2 w',Hp E w' (OB s1 (yz n b).1::OB s2 (yz n b).2.1::F)→K s1 s2 (yz n b).2.2 w'):Cl Tryz.prog [kS,kS,kI] iR ⟨[.int .i64 n,.slice s.base s.len s.cap]⟩ w K:=by
 unfold yz at hK
 refine Hw h hs hb hbig hcap (fun hn w h=> ?_) (fun h1 h2 e w he _ h=> ?_) (fun h1 h2 x r s1 s2 w he h=> ?_)
 ·rw [if_neg hn] at hK
  exact hK _ _ w ((h.aW 1).aW 1)
 ·rw [if_pos ⟨h1,h2⟩,he] at hK
  exact hK _ _ w ((h.aW 1).aW 1)
 ·rw [if_pos ⟨h1,h2⟩,he] at hK
  exact hK _ _ w h
theorem u3 {n:Int} {x b:List Nat} {s sb:Sl} {K:Bool→World→Prop} (h:Hp E w F) (hs:ab F (aC 1 s (x.map vB))) (hsb:ab F (aC 1 sb (b.map vB))) (hb: ∀y∈x,y<256) (hbb: ∀y∈b,y<256) (hcap:sb.len≤sb.cap) (hK: ∀w',Hp E w' F→K true w'):
  Cl Tryz.prog [kB] gj ⟨[.int .i64 n,.slice s.base s.len s.cap,.slice sb.base sb.len sb.cap]⟩ w K:=by
 refine tf.ok _ _ _ _ _ ?_
 simp only [aD]
 have hl:=kL (h.ag hs)
 have hlb:=kL (h.ag hsb)
 refine aa.dm (fun _=>aa.t rfl (su h hK)) (fun g1=>aa.dm (fun _=>su h hK) (fun g2=> ?_))
 refine Kw h hs hb (by omega) fun s12 w h=>JC h hs.cons hb (by omega) fun s15 w h=> ?_
 refine GF h hsb.cons.cons hbb (by omega) hcap fun s18 s19 w h=>Eu h hsb.cons.cons.cons.cons hbb (by omega) hcap fun s22 s23 w h=> ?_
 refine rF h hs.cons.cons.cons.cons.cons.cons hb (by omega) fun s26 w h=>sE h hs.cons.cons.cons.cons.cons.cons.cons (by omega) fun s29 w h=> ?_
 refine jF (h.ag (ab.at 7 ab.own)) (jF (h.ag (ab.at 6 ab.own)) (aa.f (by simp) (aa.f (by simp) ?_)))
 refine jF (h.ag (ab.at 4 ab.own)) (jF (h.ag (ab.at 2 ab.own)) (aa.f (by simp) ?_))
 refine jF (h.ag (ab.at 5 ab.own)) (jF (h.ag (ab.at 3 ab.own)) (aa.f (by simp) (aa.f (by simp) ?_)))
 refine jF (h.ag (ab.at 1 ab.own)) (jF (h.ag ab.own) (aa.f (by simp) (aa.f (by simp) ?_)))
 have h:Hp E w F:=h.tl
 have hfew:=lA (aU x.reverse)
 rw [cj,List.length_reverse] at hfew
 refine o7 h hs hb (by omega) fun s53 w h=>qY h hs.cons hb (by omega) fun s55 w h=> ?_
 refine Ch h (ab.at 1 ab.own) ab.own (by rw [cF,aB];omega) fun w h=>aa.t (by simp) ?_
 have h:Hp E w F:=h.tl
 have hlens:(bB x).length=258:=kb _
 refine wM h hs hb (by omega) fun w h=>vy h hs hb (by omega) fun w h=>sW.mk hlens hlens (aa.t (by simp) (su h hK))
end
end Go.Proofs.YtcdpblipagajiaaGreat
set_option maxRecDepth 20000
namespace Go.Vc
open Go Go.RowKit Go.ChangeShapes Go.WideShapes
section
variable {H:Type} {enc:TypeId×Value→H} {P:Program} {W:World}
def eG (enc:TypeId×Value→H) (P:Program) (W:World) (t:TypeId) (cs:List Value):Prop:= ∃fuel x,DataW.trod enc P W 0 (fun _=>true) true fuel t cs=some x
theorem eG.int {t:TypeId} {k:IntKind} {cs:List Value} (h:eG enc P W t cs) (ht:P.underlying t=some (.int k)): ∃n,cs= [.int k n]∧(Lit.int k n).wf=true:=by
 obtain ⟨m,x,h⟩:=h
 obtain ⟨n,h1,_,h2⟩:=DataW.trod_int ht h
 exact ⟨n,h1,h2⟩
theorem eG.bool {t:TypeId} {cs:List Value} (h:eG enc P W t cs) (ht:P.underlying t=some .bool): ∃b,cs= [.bool b]:=by
 obtain ⟨m,x,h⟩:=h
 obtain ⟨n,h1,_⟩:=DataW.trod_bool ht h
 exact ⟨n,h1⟩
theorem eG.string {t:TypeId} {cs:List Value} (h:eG enc P W t cs) (ht:P.underlying t=some .string): ∃s:ByteArray,cs= [.string s]∧s.size≤maxLen:=by
 obtain ⟨m,x,h⟩:=h
 obtain ⟨n,h1,_,h2⟩:=DataW.trod_string ht h
 exact ⟨n,h1,h2⟩
theorem yT {a:Addr} {n:Nat} {cs:List Value} (h:W.cells? 0 a n=some cs):cs.length=n∧∀i (hi:i<cs.length),W.cell? (a.add i)=some cs[i]:=by
 unfold World.cells? at h
 rw [if_pos (Nat.zero_le _)] at h
 have hl:cs.length=n:=by simpa using mapM_some_length h
 refine ⟨hl,fun i hi=> ?_⟩
 have:=mapM_some_get h i i (List.getElem?_range (by omega))
 rw [this,List.getElem?_eq_getElem hi]
theorem ux {α:Type} {sz:Nat}: ∀{xs:List (List α)} (_: ∀x∈xs,x.length=sz) (i j:Nat) (hi:i<xs.length) (_:j<sz),xs.flatten[i*sz+j]? =xs[i][j]?
 |x::xs,h,0,j,_,hj=>by
  have hx:=h x (by simp)
  rw [List.flatten_cons,List.getElem?_append_left (by omega),Nat.zero_mul,Nat.zero_add];rfl
 |x::xs,h,i+1,j,hi,hj=>by
  have hx:=h x (by simp)
  rw [List.flatten_cons,List.getElem?_append_right (by rw [hx,Nat.succ_mul];omega),hx,show (i+1)*sz+j - sz=i*sz+j by rw [Nat.succ_mul];omega,
   ux (fun y hy=>h y (List.mem_cons_of_mem _ hy)) i j (by simpa using hi) hj]
  rfl
theorem u5 {α:Type} {sz:Nat}: ∀{xs:List (List α)} (_: ∀x∈xs,x.length=sz),xs.flatten.length=xs.length*sz
 | [],_=>by simp
 |x::xs,h=>by
  rw [List.flatten_cons,List.length_append,h x (by simp),u5 (fun y hy=>h y (List.mem_cons_of_mem _ hy)),List.length_cons,Nat.succ_mul];omega
theorem eG.slice {t e:TypeId} {cs:List Value} (h:eG enc P W t cs) (ht:P.underlying t=some (.slice e)):
  ∃(s:Sl) (xs:List (List Value)),cs= [.slice s.base s.len s.cap]∧s.len≤s.cap∧s.cap≤maxLen∧xs.length=s.len∧(∀x∈xs,eG enc P W e x)∧(∀x∈xs,x.length=P.cellsOf e)∧aC (P.cellsOf e) s xs.flatten W:=by
 obtain ⟨m,x,h⟩:=h
 rcases DataW.trod_slice ht h with ⟨h1,_⟩|⟨a,len,cap,elems,rest,n,rfl,h1,_,_,hlc,hcm,hel,hget,_⟩
 ·exact ⟨⟨none,0,0⟩,[],h1,Nat.le_refl _,Nat.zero_le _,rfl,by simp,by simp,by simp,by simp⟩
 ·have hx: ∀i,i<len→∃cs,W.cells? 0 (a.add (i*P.cellsOf e)) (P.cellsOf e)=some cs∧eG enc P W e cs:=by
   intro i hi
   have:=hget i hi
   rw [List.getElem?_eq_getElem (by omega)] at this
   obtain ⟨cs,h2,h3⟩:=Option.bind_eq_some_iff.1 this
   exact ⟨cs,h2,n,_,h3⟩
  have key: ∀k,k≤len→∃xs:List (List Value),xs.length=k∧∀i (hi:i<xs.length),W.cells? 0 (a.add (i*P.cellsOf e)) (P.cellsOf e)=some xs[i]∧eG enc P W e xs[i]:=by
   intro k
   induction k with
   |zero=>exact fun _=>⟨[],rfl,fun i hi=>by simp at hi⟩
   |succ k ih=>
    intro hk
    obtain ⟨xs,hl,hxs⟩:=ih (by omega)
    obtain ⟨cs,h2,h3⟩:=hx k (by omega)
    refine ⟨xs++ [cs],by simp [hl],fun i hi=> ?_⟩
    by_cases hik:i<xs.length
    ·rw [List.getElem_append_left hik];exact hxs i hik
    ·have:i=k:=by simp [hl] at hi;omega
     subst this
     rw [List.getElem_append_right (by omega)]
     simp only [hl,Nat.sub_self,List.getElem_cons_zero]
     exact ⟨h2,h3⟩
  obtain ⟨xs,hl,hxs⟩:=key len (Nat.le_refl _)
  have hsz: ∀x∈xs,x.length=P.cellsOf e:=by
   intro x hx
   obtain ⟨i,hi,rfl⟩:=List.getElem_of_mem hx
   exact (yT (hxs i hi).1).1
  refine ⟨⟨some a,len,cap⟩,xs,h1,hlc,hcm,hl,fun x hx=> ?_,hsz,?_,fun i hi=>⟨a,rfl,?_⟩⟩
  ·obtain ⟨i,hi,rfl⟩:=List.getElem_of_mem hx
   exact (hxs i hi).2
  ·rw [u5 hsz,hl]
  ·rw [u5 hsz,hl] at hi
   have hz:0<P.cellsOf e:=by
    rcases Nat.eq_zero_or_pos (P.cellsOf e) with h0|h0
    ·rw [h0] at hi;simp at hi
    ·exact h0
   have e1:i/P.cellsOf e*P.cellsOf e+i % P.cellsOf e=i:=by rw [Nat.mul_comm];exact Nat.div_add_mod i _
   have hq:i/P.cellsOf e<xs.length:=by rw [hl];exact (Nat.div_lt_iff_lt_mul hz).2 hi
   have hr:=Nat.mod_lt i hz
   obtain ⟨c1,c2⟩:=yT (hxs _ hq).1
   have c3:=c2 (i % P.cellsOf e) (by omega)
   have c4:=ux hsz _ _ hq hr
   have c5:(a.add (i/P.cellsOf e*P.cellsOf e)).add (i % P.cellsOf e)=a.add i:=by
    conv=>rhs;rw [←e1]
    unfold Addr.add
    by_cases e1:i/P.cellsOf e*P.cellsOf e=0<;>by_cases e2:i % P.cellsOf e=0<;>simp [e1,e2,Nat.add_assoc]
   rw [c5] at c3
   rw [c3,←List.getElem?_eq_getElem,←c4]
   simp only [e1]
   exact List.getElem?_eq_getElem _
theorem eG.struct {t:TypeId} {fs:Array Field} {cs:List Value} (h:eG enc P W t cs) (ht:P.underlying t=some (.struct fs)):cs.length=P.cellsOf t∧∀(i:Nat) (f:Field),fs[i]? =some f→eG enc P W f.type ((cs.drop f.offset).take (P.cellsOf f.type)):=by
 obtain ⟨m,x,h⟩:=h
 obtain ⟨xs,n,_,_,h2,h3,h4⟩:=DataW.trod_struct ht h
 refine ⟨h2,fun i f hf=> ?_⟩
 have hi:i<fs.size:=by
  rcases Nat.lt_or_ge i fs.size with hh|hh
  ·exact hh
  ·rw [Array.getElem?_eq_none hh] at hf;cases hf
 have:=h4 i f hf
 rw [List.getElem?_eq_getElem (by omega)] at this
 exact ⟨n,_,this⟩
def HI (P:Program) (t:TypeId) (i:Nat) (ft:TypeId) (off n:Nat):Bool:=match P.underlying t with
 |some (.struct fs)=>match fs[i]? with
  |some f=>f.type==ft&&f.offset==off&&P.cellsOf ft==n
  |none=>false
 |_=>false
theorem eG.field {t:TypeId} {cs:List Value} (h:eG enc P W t cs) (i:Nat) (ft:TypeId) (off n:Nat) (hf:HI P t i ft off n=true):eG enc P W ft ((cs.drop off).take n):=by
 unfold HI at hf
 split at hf
 ·rename_i fs ht
  split at hf
  ·rename_i f hfi
   simp only [Bool.and_eq_true,beq_iff_eq] at hf
   obtain ⟨⟨rfl,rfl⟩,rfl⟩:=hf
   exact (h.struct ht).2 i f hfi
  ·cases hf
 ·cases hf
theorem eG.array {t e:TypeId} {n:Nat} {cs:List Value} (h:eG enc P W t cs) (ht:P.underlying t=some (.array n e)):cs.length=P.cellsOf t∧∀i,i<n→eG enc P W e ((cs.drop (i*P.cellsOf e)).take (P.cellsOf e)):=by
 obtain ⟨m,x,h⟩:=h
 obtain ⟨xs,n',_,_,h2,h3,h4⟩:=DataW.trod_array ht h
 refine ⟨h2,fun i hi=> ?_⟩
 have:=h4 i hi
 rw [List.getElem?_eq_getElem (by omega)] at this
 exact ⟨n',_,this⟩
theorem xg {α β:Type} {g:α→β} {Good:α→Prop}: ∀{xs:List β} (_: ∀x∈xs,∃a,x=g a∧Good a),∃l:List α,xs=l.map g∧∀a∈l,Good a
 | [],_=>⟨[],rfl,by simp⟩
 |x::xs,h=>by
  obtain ⟨a,rfl,ha⟩:=h x (by simp)
  obtain ⟨l,rfl,hl⟩:=xg (fun y hy=>h y (List.mem_cons_of_mem _ hy))
  exact ⟨a::l,rfl,by simpa using ⟨ha,hl⟩⟩
theorem sM {α β:Type} {g:α→β} (l:List α):(l.map fun a=> [g a]).flatten=l.map g:=by
 induction l with
 |nil=>rfl
 |cons a l ih=>simp [ih]
theorem wf_u8 {n:Int} (h:(Lit.int .u8 n).wf=true):0≤n∧n≤255:=by
 simp [Lit.wf,IntKind.min,IntKind.max,IntKind.signed,IntKind.bits] at h
 exact h
def En (W:World) (s:Sl) (b:List Nat):Prop:=aC 1 s (b.map vB) W∧(∀y∈b,y<256)∧s.len≤s.cap∧s.cap≤maxLen
theorem eG.bytes {t e:TypeId} {cs:List Value} (h:eG enc P W t cs) (ht:P.underlying t=some (.slice e)) (he:P.underlying e=some (.int .u8)) (hc:P.cellsOf e=1): ∃s b,cs= [.slice s.base s.len s.cap]∧En W s b:=by
 obtain ⟨s,xs,h1,h2,h3,h4,h5,h6,h7⟩:=h.slice ht
 obtain ⟨l,rfl,hl⟩:=xg (g:=fun y:Nat=> [vB y]) (Good:=fun y=>y<256) (xs:=xs) fun x hx=>by
  obtain ⟨n,rfl,hn⟩:=(h5 x hx).int he
  have:=wf_u8 hn
  obtain ⟨m,rfl⟩:=Int.eq_ofNat_of_zero_le this.1
  exact ⟨m,rfl,by omega⟩
 rw [sM,hc] at h7
 exact ⟨s,l,h1,h7,hl,h2,h3⟩
theorem eG.ints {t e:TypeId} {k:IntKind} {cs:List Value} (h:eG enc P W t cs) (ht:P.underlying t=some (.slice e)) (he:P.underlying e=some (.int k)) (hc:P.cellsOf e=1):
  ∃s,∃l:List Int,cs= [.slice s.base s.len s.cap]∧aC 1 s (l.map (.int k)) W∧(∀y∈l,(Lit.int k y).wf=true)∧s.len≤s.cap∧s.cap≤maxLen:=by
 obtain ⟨s,xs,h1,h2,h3,h4,h5,h6,h7⟩:=h.slice ht
 obtain ⟨l,rfl,hl⟩:=xg (g:=fun y:Int=> [Value.int k y]) (Good:=fun y=>(Lit.int k y).wf=true) (xs:=xs) fun x hx=>by
  obtain ⟨n,rfl,hn⟩:=(h5 x hx).int he
  exact ⟨n,rfl,hn⟩
 rw [sM,hc] at h7
 exact ⟨s,l,h1,h7,hl,h2,h3⟩
def Arg (enc:TypeId×Value→H) (P:Program) (W:World) (t:TypeId) (v:Value):Prop:=(∃base,Value.okWide P W .any base t v)∧eG enc P W t v.cells.toList
def Fg (enc:TypeId×Value→H) (P:Program) (W:World):List TypeId→List Value→Prop
 | [],vs=>vs= []
 |t::ts,vs=> ∃v vs',vs=v::vs'∧Arg enc P W t v∧Fg enc P W ts vs'
theorem Arg.one {t:TypeId} {v:Value} (h:Arg enc P W t v) (hv:v.cells.toList= [v]):eG enc P W t [v]:=by
 have:=h.2
 rwa [hv] at this
theorem Arg.slice {t e:TypeId} {v:Value} (h:Arg enc P W t v) (ht:P.underlying t=some (.slice e)):eG enc P W t [v]:=by
 obtain ⟨base,hb⟩:=h.1
 obtain ⟨a,l,c,rfl⟩:=okWide_slice ht hb
 exact h.one rfl
theorem Arg.bytes {t e:TypeId} {v:Value} (h:Arg enc P W t v) (ht:P.underlying t=some (.slice e)) (he:P.underlying e=some (.int .u8)) (hc:P.cellsOf e=1): ∃s b,v= .slice s.base s.len s.cap∧En W s b:=by
 obtain ⟨s,b,h1,h2⟩:=(h.slice ht).bytes ht he hc
 exact ⟨s,b,by simpa using h1,h2⟩
theorem Arg.ints {t e:TypeId} {k:IntKind} {v:Value} (h:Arg enc P W t v) (ht:P.underlying t=some (.slice e)) (he:P.underlying e=some (.int k)) (hc:P.cellsOf e=1):
  ∃s,∃l:List Int,v= .slice s.base s.len s.cap∧aC 1 s (l.map (.int k)) W∧(∀y∈l,(Lit.int k y).wf=true)∧s.len≤s.cap∧s.cap≤maxLen:=by
 obtain ⟨s,l,h1,h2⟩:=(h.slice ht).ints ht he hc
 exact ⟨s,l,by simpa using h1,h2⟩
theorem Arg.int {t:TypeId} {k:IntKind} {v:Value} (h:Arg enc P W t v) (ht:P.underlying t=some (.int k)): ∃n,v= .int k n∧(Lit.int k n).wf=true:=by
 obtain ⟨base,hb⟩:=h.1
 obtain ⟨n,rfl⟩:=okWide_int ht hb
 obtain ⟨m,h1,h2⟩:=(h.one rfl).int ht
 cases h1
 exact ⟨n,rfl,h2⟩
theorem Arg.string {t:TypeId} {v:Value} (h:Arg enc P W t v) (ht:P.underlying t=some .string): ∃s:ByteArray,v= .string s∧s.size≤maxLen:=by
 obtain ⟨base,hb⟩:=h.1
 obtain ⟨n,rfl⟩:=okWide_string ht hb
 obtain ⟨m,h1,h2⟩:=(h.one rfl).string ht
 cases h1
 exact ⟨n,rfl,h2⟩
theorem Arg.struct {t:TypeId} {fs:Array Field} {v:Value} (h:Arg enc P W t v) (ht:P.underlying t=some (.struct fs)): ∃cs,v= .agg cs∧eG enc P W t cs.toList:=by
 obtain ⟨base,hb⟩:=h.1
 obtain ⟨cs,rfl,_⟩:=okWide_struct ht hb
 exact ⟨cs,rfl,h.2⟩
theorem Dr: ∀{ts:List TypeId} {vs:List Value} {ds:List (DataW H)} {ps:List MemPlace},DataW.TrodAll enc P W 0 (fun _=>true) true ts vs ds ps→(∀(j:Nat) t v,ts[j]? =some t→vs[j]? =some v→∃base,Value.okWide P W .any base t v)→Fg enc P W ts vs
 | [],[],[],_,_,_=>rfl
 |t::ts,v::vs,d::ds,ps,h,hv=>by
  obtain ⟨p,q,⟨fuel,h1⟩,h2,_⟩:=h
  exact ⟨v,vs,rfl,⟨hv 0 t v rfl rfl,fuel,_,h1⟩,Dr h2 fun j t' v' a b=>hv (j+1) t' v' a b⟩
theorem uf: ∀{ts:List TypeId} {vs:List Value} {ds:List (DataW H)} {ps:List MemPlace},DataW.TrodAll enc P W 0 (fun _=>true) true ts vs ds ps→ds.length=ts.length
 | [],[],[],_,_=>rfl
 |_::_,_::_,_::_,_,h=>by
  obtain ⟨p,q,_,h2,_⟩:=h
  simp [uf h2]
theorem rY (hl:laidOutB P=true) {W':World} (hb:Below W.heap.size W W'): ∀{ts:List TypeId} {vs:List Value} {ds:List (DataW H)} {ps:List MemPlace},DataW.TrodAll enc P W 0 (fun _=>true) true ts vs ds ps→
  (∀t∈ts,P.readableRec t=true∧t<P.types.size)→∃qs,DataW.TrodAll enc P W' 0 (fun b=>decide (b<W.heap.size)) true ts vs ds qs
 | [],[],[],_,_,_=>⟨[],rfl⟩
 |t::ts,v::vs,d::ds,ps,h,hr=>by
  obtain ⟨p,q,h1,h2,_⟩:=h
  obtain ⟨qs,h3⟩:=rY hl hb h2 fun t ht=>hr t (List.mem_cons_of_mem _ ht)
  obtain ⟨ht1,ht2⟩:=hr t (by simp)
  have hlt: ∀x∈p,x.block<W.heap.size:=by obtain ⟨m,hm⟩:=h1;exact DataW.trod_lt m _ _ _ hm
  exact ⟨_,p,qs,Below.trod hl ht1 ht2 h1 hb hlt,h3,rfl⟩
theorem II {C:Checked} {os:Os} {f:FuncId} {fn:Func} {s:ChangeSpec} {conds:List PathCond} {tb:TypeId}
  (own:ownKnob C.prog.godebug=none) (started:os.Started) (noInit:C.prog.inits.idxOf? f=none) (hfn:C.prog.funcs[f]? =some fn)
  (witness: ∃(w:World) (tape:Tape) (i:Input),w.os=os∧(w.forCall tape i).Shaped C.prog∧i.vars= []∧Input.okWide C.prog (w.forCall tape i) .any w.heap.size f i∧
   s.pre6 enc C.prog fn conds false (w.forCall tape i).memory i.args∧({}:Assume).holds C.prog (lone (Frame.enter C.prog f i.args .normal) [] (w.forCall tape i)))
  (hvars:s.vars= []) (hres:fn.resultTypes= #[tb]) (htb:C.prog.underlying tb=some .bool)
  (hspec: ∀ds:List (DataW H),ds.length=fn.params.toList.length→s.fn H ds={results:= [.lit (.bool true)],args:=ds})
  (laid:laidOutB C.prog=true) (hr:fn.params.toList.all (fun t=>C.prog.readableRec t&&decide (t<C.prog.types.size))=true)
  (contract: ∀(W:World) (args:Array Value) (ds:List (DataW H)),Fg enc C.prog W fn.params.toList args.toList→(DataW.weightsEach C.prog fn.params.toList ds).all (·≤reachBytes)=true→
   Cl C.prog [kB] f args W (fun b w'=>b=true∧Below W.heap.size W w')):
  ReturnsInHanded {} C os f .any (s.pre6 enc C.prog fn conds false) (s.post enc C.prog fn false true false false):=by
 refine returnsInHanded_of_change_sized own started noInit hfn witness ?_
 intro W base args ds gs before hval hW _ hz _
 have hW':=hW
 obtain ⟨p,q,hA,hV,rfl,hfz,hnd⟩:=hW
 rw [hvars] at hV
 obtain ⟨rfl,rfl⟩:=trodVars_none hV
 have hlen:=uf hA
 have hz':(DataW.weightsEach C.prog fn.params.toList ds).all (·≤reachBytes)=true:=by
  have e:s.plain.varTypes C.prog= []:=by
   simp [DataSpec.varTypes,ChangeSpec.plain,hvars]
  rw [e,List.append_nil,List.append_nil] at hz
  exact hz
 have hargs:=Dr (vs:=args.toList) hA fun j t v ht hv=>⟨base,hval j t v (by simpa using ht) (by simpa using hv)⟩
 refine Calls.mono (contract W args ds hargs hz') fun e W' hp=> ?_
 cases e with
 |returned v=>
  obtain ⟨b,hv,hb,bel⟩:=Ki.cH (k:=kB) hp
  subst hb
  have hv:v= .bool true:=hv
  subst hv
  have hsp:=hspec ds hlen
  obtain ⟨qs,hq⟩:=rY laid bel hA fun t ht=>by
   have:=List.all_eq_true.1 hr t ht
   simpa using this
  refine ⟨_,rfl,ds,[],_,[],qs,[],hW',?_,?_,?_,bel.frame _,fun h=>by cases h⟩
  ·rw [List.append_nil,hsp,hres]
   exact trodAll_mk1 (shut_bool htb _)
  ·rw [List.append_nil,hsp];exact hq
  ·rw [hvars]
   have:(s.fn H (ds++ [])).vars= []:=by rw [List.append_nil,hsp]
   rw [this];rfl
 |_=>exact absurd hp (by intro h;exact h)
end
end Go.Vc
set_option maxRecDepth 20000
namespace Go.Vc
open Go Go.RowKit Go.ChangeShapes Go.WideShapes
section
variable {H:Type} {enc:TypeId×Value→H} {P:Program} {W:World}
theorem Arg.agg {t e:TypeId} {n:Nat} {v:Value} (h:Arg enc P W t v) (ht:P.underlying t=some (.array n e)): ∃cs,v= .agg cs∧eG enc P W t cs.toList:=by
 obtain ⟨base,hb⟩:=h.1
 simp only [Value.okWide,ht] at hb
 obtain ⟨cs,rfl,_⟩:=hb
 exact ⟨cs,rfl,h.2⟩
theorem eG.gG {t e:TypeId} {n:Nat} {k:IntKind} {cs:List Value} (h:eG enc P W t cs) (ht:P.underlying t=some (.array n e)) (he:P.underlying e=some (.int k)) (hc:P.cellsOf e=1) (hn:P.cellsOf t=n):
  ∃l:List Int,cs=l.map (.int k)∧l.length=n∧∀y∈l,(Lit.int k y).wf=true:=by
 obtain ⟨h1,h2⟩:=h.array ht
 rw [hn] at h1
 rw [hc] at h2
 have key: ∀m,m≤n→∃l:List Int,cs.take m=l.map (.int k)∧l.length=m∧∀y∈l,(Lit.int k y).wf=true:=by
  intro m
  induction m with
  |zero=>exact fun _=>⟨[],by simp,rfl,by simp⟩
  |succ m ih=>
   intro hm
   obtain ⟨l,e1,e2,e3⟩:=ih (by omega)
   obtain ⟨x,hx,hw⟩:=(h2 m (by omega)).int he
   rw [Nat.mul_one] at hx
   have hmc:m<cs.length:=by omega
   have hx2:cs[m]= .int k x:=by
    rw [List.drop_eq_getElem_cons hmc,List.take_succ_cons,List.take_zero] at hx
    exact (List.cons.inj hx).1
   refine ⟨l++ [x],?_,by simp [e2],?_⟩
   ·rw [List.take_add_one,e1,List.getElem?_eq_getElem hmc,hx2];simp
   ·intro y hy
    rcases List.mem_append.1 hy with hy|hy
    ·exact e3 y hy
    ·have:y=x:=by simpa using hy
     rw [this];exact hw
 obtain ⟨l,e1,e2,e3⟩:=key n (Nat.le_refl _)
 rw [List.take_of_length_le (by omega)] at e1
 exact ⟨l,e1,e2,e3⟩
end
end Go.Vc
