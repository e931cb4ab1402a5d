/- Texts packed together by program; spaces struck by program. Conditions: as each theorem states. -/
import Derived.Test.YtcdpblipagajiaaGreatQmc
set_option linter.unusedSimpArgs false
set_option linter.unusedVariables false
set_option maxRecDepth 20000
namespace Go.Vc
open Go
theorem tY {α β:Type} [DecidableEq α] {a:α}: ∀{l:List (α×β)} {i:Nat},a∉l.map (·.1)→findAt a l i=none
 | [],_,_=>rfl
 |p::l,i,h=>by
  simp only [List.map_cons,List.mem_cons,not_or] at h
  unfold findAt
  rw [if_neg h.1,tY h.2]
theorem sw {α β:Type} [DecidableEq α] {a:α}: ∀{l:List (α×β)} {i j:Nat} {v:β},(l.map (·.1)).Nodup→l[j]? =some (a,v)→findAt a l i=some (i+j,v)
 | [],_,_,_,_,h=>by simp at h
 |p::l,i,0,v,_,h=>by
  have:p=(a,v):=by simpa using h
  subst this
  unfold findAt
  rw [if_pos rfl];rfl
 |p::l,i,j+1,v,hn,h=>by
  have h':l[j]? =some (a,v):=by simpa using h
  rw [List.map_cons,List.nodup_cons] at hn
  have hne:a≠p.1:=fun e=>hn.1 (by rw [←e];exact List.mem_map.2 ⟨(a,v),List.mem_of_getElem? h',rfl⟩)
  unfold findAt
  rw [if_neg hne,sw hn.2 h']
  congr 2;omega
theorem mC.NM {P:Program} {s:Sem Value} {w:World} {K:Int→Bool→World→Prop} (x:Int) (b:Bool) (h:s.run P w= .ok (.tuple #[.int .i64 x,.bool b]) w) (hK:K x b w):mC P s [kI,kB] w K:=by
 unfold mC
 rw [h]
 exact hK
theorem NP.of {P:Program} {s:Sem Value} {w:World} {K:Int→World→Prop} (x:Int) (h:s.run P w= .ok (.int .i64 x) w) (hK:K x w):ay P s kI w K:=by
 unfold ay
 rw [h]
 exact hK
def An (a:Int×Int):Value:= .agg ⟨[.int .i64 a.1,.int .i64 a.2]⟩
def zb (z:Int):Value:= .int .i64 z
def gG (d:List (Int×Int)):List ((Int×Int)×Int):=d.zipIdx.map fun p=>(p.1,(p.2:Int))
theorem sZ (d:List (Int×Int)):(gG d).map (·.1)=d:=by
 unfold gG
 rw [List.map_map]
 have:((fun x:(Int×Int)×Int=>x.1)∘fun p:(Int×Int)×Nat=>(p.1,(p.2:Int)))=Prod.fst:=rfl
 rw [this,List.zipIdx_map_fst]
theorem FU (d:List (Int×Int)) (x:Int×Int):gG (d++ [x])=gG d++ [(x,(d.length:Int))]:=by
 unfold gG
 rw [List.zipIdx_append,List.map_append]
 simp
theorem B9 (d:List (Int×Int)):(gG d).length=d.length:=by simp [gG]
theorem DK {d:List (Int×Int)} {j:Nat} (hj:j<d.length):(gG d)[j]? =some (d[j],(j:Int)):=by
 unfold gG
 simp [hj]
end Go.Vc
namespace Go.Proofs.YtcdpblipagajiaaGreat
open Go Go.Vc Go.Bw Go.Hs
theorem Ej {α:Type} (f:Nat→α) (n i:Nat) (x:α):((List.range n).map f).set i x=(List.range n).map fun j=>if j=i then x else f j:=by
 apply List.ext_getElem (by simp)
 intro j h1 h2
 simp only [List.getElem_set,List.getElem_map,List.getElem_range]
 by_cases e:i=j
 ·rw [if_pos e,if_pos e.symm]
 ·rw [if_neg e,if_neg (fun h=>e h.symm)]
section
variable {E w:World} {F:List HP}
def ua (last:List Nat) (index:Int):Prop:=0≤index∧okB last index.toNat
set_option maxRecDepth 20000 in
theorem Jd {last:List Nat} {s:Sl} {index:Int} {K:Sl→Int→World→Prop} (h:Hp E w F) (hs:ab F (aC 1 s (last.map vB))) (hb: ∀x∈last,x<256) (hn:last.length≤900000)
  (hK1:ua last index→∀s' w',Hp E w' (al 1 s' ((cX last index.toNat).map vB)::F)→K s' 0 w') (hK2: ¬ua last index→∀w',Hp E w' F→K ⟨none,0,0⟩ 170 w'):
  Cl Tryz.prog [kS,kI] q8 ⟨[.slice s.base s.len s.cap,.int .i64 index]⟩ w K:=by
 refine IE.ok _ _ _ _ ?_
 simp only [aD]
 have hl:=(h.ag hs).1
 simp only [List.length_map,Nat.mul_one] at hl
 refine aa.mk (fun g=>hK2 (fun hh=>by have:=of_decide_eq_true g;have:=hh.1;omega) w h) (fun g1=> ?_)
 refine aa.mk (fun g=>hK2 (fun hh=>by have:=of_decide_eq_true g;have:=hh.2.1;have:=hh.1;omega) w h) (fun g2=> ?_)
 have g1:=of_decide_eq_false g1
 have g2:=of_decide_eq_false g2
 obtain ⟨ix,rfl⟩:=Int.eq_ofNat_of_zero_le (show 0≤index by omega)
 rw [Int.toNat_natCast] at hK1
 have hix:ix≤last.length:=by omega
 refine aa.mk (fun g3=>aa.mk (fun g4=>hK2 (fun hh=> ?_) w h) (fun g4=> ?_)) (fun g3=> ?_)
 ·have g3:=beq_iff_eq.1 g3
  have g4:=of_decide_eq_true g4
  have:=hh.2
  rw [g3] at this
  exact Bd (by omega) this
 all_goals
  refine HV h hs hb hn hix fun s6 w1 h1=> ?_
  refine xG (by kernel_rfl) Lc rfl (by omega) (by decide) h1 fun s8 w2 hs8 h2=> ?_
  rw [LV] at h2
  refine ⟨fun row i w'=> ∃(k:Nat) (T:List Nat),i=(last.length:Int) - 1 - (k:Int)∧k≤last.length∧row=(wk last ix k:Int)∧(∀j,j<k→wk last ix j≠ix)∧T.length=last.length∧(∀j,j<k→T.getD (last.length - 1 - j) 0=last.getD (bP ix (wk last ix j)) 0)∧
    Hp E w' (al 1 s8 (T.map vB)::al 1 s6 ((mU last ix).map vI)::F),fun _ i _=>(i+1).toNat,
   ⟨0,_,by rw [ad (by omega)];omega,by omega,rfl,fun j hj=>by omega,by rw [List.length_replicate];omega,fun j hj=>by omega,h2⟩,?_⟩
  rintro row i w3 ⟨k,T,rfl,hk,rfl,hne,hTl,hT,h3⟩
  have hwl:=Fi hix k hne
  refine aa.mk (fun hge=> ?_) (fun hlt=> ?_)
  ·have hge:k<last.length:=by have:=of_decide_eq_true hge;omega
   refine DV hl.symm (by rw [aB];omega) (fun hin=>aa.f rfl ?_) (fun hin=>aa.t rfl (hK2 (fun hh=> ?_) w3 h3.drop.drop))
   ·have hat:=B0 hin
    have hnk:wk last ix k≠ix:=by have:=hin.2.2.2.2;omega
    rw [Int.toNat_natCast,Int.toNat_natCast] at hat⊢
    refine aq.nB (h3.ag (ab.cons (ab.cons hs))) rfl hat (aq.MM (j:=last.length - 1 - k) h3 (by omega) (by omega) fun w4 h4=> ?_)
    refine aq.nI (j:=wk last ix k) (h4.ag (ab.cons ab.own)) rfl (by rw [yH];omega) ?_
    rw [xW hwl hnk]
    refine ⟨⟨k+1,_,by rw [ad (by omega)];omega,by omega,rfl,fun j hj=> ?_,by rw [List.length_set];exact hTl,fun j hj=> ?_,h4⟩,by dsimp only;rw [ad (by omega)];omega⟩
    ·by_cases e:j=k
     ·subst e;exact hnk
     ·exact hne j (by omega)
    ·by_cases e:j=k
     ·subst e
      simp [List.getD,hTl,show last.length - 1 - j<last.length by omega]
     ·have:=hT j (by omega)
      rw [←this]
      simp only [List.getD,List.getElem?_set]
      rw [if_neg (by omega)]
   ·have h5:=hh.2.2.1 k hge
    rw [Int.toNat_natCast] at h5
    exact hin ⟨by omega,by omega,by omega,by omega,by omega⟩
  ·have hke:k=last.length:=by have:=of_decide_eq_false hlt;omega
   subst hke
   refine aa.mk (fun g=>hK2 (fun hh=> ?_) w3 h3.drop.drop) (fun g=> ?_)
   ·have:=hh.2.2.2
    rw [Int.toNat_natCast] at this
    rw [this] at g
    simp at g
   ·have hend:wk last ix last.length=ix:=by
     have:(wk last ix last.length:Int)=(ix:Int):=by simpa using g
     omega
    have hok:ua last (ix:Int):=⟨by omega,by rw [Int.toNat_natCast];exact ⟨hix,hne,hend⟩⟩
    rw [Ig hTl hT] at h3
    exact hK1 hok s8 w3 h3.p1.drop
theorem si:ca Tryz.prog 33 3 1 8:= .of (by kernel_rfl) (by kernel_rfl)
theorem KY:ca Tryz.prog 237 239 2 16:= .of (by kernel_rfl) (by kernel_rfl)
theorem Jj: ∃i,Tryz.prog.info? 239=some i∧i.zero=some (.agg ⟨[.int .i64 0,.int .i64 0]⟩)∧i.size=2∧i.bytes=16:=by
 have h:(Tryz.prog.info? 239).map (fun i=>(i.zero,i.size,i.bytes))=some (some (.agg ⟨[.int .i64 0,.int .i64 0]⟩),2,16):=by kernel_rfl
 obtain ⟨i,h1,h2⟩:=Option.map_eq_some_iff.1 h
 simp only [Prod.mk.injEq] at h2
 exact ⟨i,h1,h2⟩
theorem E5 {s:Sl} {xs:List (Int×Int)} {K:World→Prop} (h:Hp E w (al 2 s (xs.flatMap bu)::F)) (hsz:xs.length<4611686018427387904) (hK: ∀w',Hp E w' (al 2 s ((bt xs).flatMap bu)::F)→K w'):
  Cl Tryz.prog [] dN ⟨[.slice s.base s.len s.cap,.func (.func ll) ⟨[]⟩ ⟨[]⟩]⟩ w K:=
 KS (ρ:=Tryz.r5) Tryz.I2 Tryz.isAgg239 Tryz.sizeOf239 (by kernel_rfl) (fun x y W=>G5 x y W) h hsz hK
set_option maxRecDepth 200000 in
theorem C2 {s:Sl} {l:List (Int×Int)} {K:Sl→World→Prop} (h:Hp E w F) (hs:ab F (aC 2 s (l.flatMap bu))) (hn:l.length≤1000000) (hK: ∀s' w',Hp E w' (al 2 s' (l.flatMap bu)::F)→K s' w'):
  Cl Tryz.prog [kS] cQ ⟨[.slice s.base s.len s.cap]⟩ w K:=by
 refine k7.ok _ _ _ ?_
 refine aa.mk (fun hb=> ?_) (fun hb=> ?_)
 ·have hl:l= []:=by
   cases l with
   |nil=>rfl
   |cons x l=>
    obtain ⟨p,hp,_⟩:=(h.ag hs).2 0 (by rw [di cw];simp)
    rw [hp] at hb;cases hb
  subst hl
  exact hK _ w (h.aW 2)
 ·refine Nw.mk h fun b w1 h1=> ?_
  have hnew:Hp E w1 (al 2 ⟨some ⟨b,0,none⟩,0,0⟩ (([]:List (Int×Int)).flatMap bu)::F):=h1.dh (n:=0) (sz:=2) rfl
  exact rQ (s:=⟨some ⟨b,0,none⟩,0,0⟩) (l:= []) (ys:=l) KY cw (by decide) C1 hnew (hnew.ag (ab.cons hs)) (by simp only [List.length_nil];omega) (by simp only [List.length_nil];omega) fun s' w2 h2 _=>hK s' w2 (by rw [List.nil_append] at h2;exact h2)
set_option maxRecDepth 200000 in
theorem xR:pv Tryz.prog (α:=Int×Int) 239 An where
 und:=⟨_,rfl,fun a b=> .inl rfl⟩
 check:=fun e a w=>by
  have: ∀(e:Bool) (c n:Int) (w:World),(Instr.checkKey e 10000 239 (.agg ⟨[.int .i64 c,.int .i64 n]⟩)).run Tryz.prog w= .ok () w:=fun e c n w=>by kernel_rfl
  exact this e a.1 a.2 w
 eq:=fun a b w=>by
  have key: ∀c n d m:Int,uq Tryz.prog 8 239 (.agg ⟨[.int .i64 c,.int .i64 n]⟩) (.agg ⟨[.int .i64 d,.int .i64 m]⟩) (fun r=>r=((c==d)&&(n==m))):=fun c n d m=>by
   have e:uq Tryz.prog 8 239 (.agg ⟨[.int .i64 c,.int .i64 n]⟩) (.agg ⟨[.int .i64 d,.int .i64 m]⟩) (fun r=>r=((c==d)&&(n==m)))=(((c==d)&&(n==m))=((c==d)&&(n==m))):=by kernel_rfl
   rw [e]
  obtain ⟨r,h1,h2⟩:=oU 8 _ _ _ _ (key a.1 a.2 b.1 b.2)
  have:=h1 10000 (by decide) w
  have e:decide (a=b)=((a.1==b.1)&&(a.2==b.2)):=by
   rw [Bool.eq_iff_iff]
   simp [Prod.ext_iff]
  rw [e,←h2];exact this
 same:=fun a=>by
  unfold An Instr.sameBits
  simp [Instr.sameBits]
theorem qf:Tryz.prog.underlying 250=some (.map 239 3):=by kernel_rfl
theorem yY (w:World):(zeroValue 3).run Tryz.prog w= .ok (zb 0) w:=Tryz.zeroValue3 w
theorem p4 {x:Int×Int}: ∀v∈ [Value.int .i64 x.1,.int .i64 x.2],aA v=true:=by
 intro v hv
 simp only [List.mem_cons,List.not_mem_nil,or_false] at hv
 rcases hv with rfl|rfl<;>rfl
set_option maxRecDepth 20000 in
theorem IU {s:Sl} {l:List (Int×Int)} {K:Sl→Int→World→Prop} (h:Hp E w F) (hs:ab F (aC 2 s (l.flatMap bu))) (hn:l.length≤1000000) (hK: ∀s' w',Hp E w' (al 1 s' ((l.map fun p=>(eZ l p:Int)).map vI)::F)→K s' ((dd l).length:Int) w'):
  Cl Tryz.prog [kS,kI] im ⟨[.slice s.base s.len s.cap]⟩ w K:=by
 refine E0.ok _ _ _ ?_
 have hlen:=aC.len cw (by decide) (h.ag hs)
 have hsl:=j5 l
 refine C2 h hs hn fun s3 w1 h1=>E5 h1 (by omega) fun w2 h2=> ?_
 have hlen3:=aC.len cw (by decide) (h2.ag ab.own)
 refine run_makeMap (ke:=An) (ve:=zb) h2 fun m w3 h3=> ?_
 refine ⟨fun i w'=> ∃k:Nat,i=(k:Int)∧k≤l.length∧Hp E w' (lI An zb m (gG (cu ((bt l).take k)))::al 2 s3 ((bt l).flatMap bu)::F),fun i _=>l.length - i.toNat,⟨0,rfl,by omega,h3⟩,?_⟩
 rintro i w4 ⟨k,rfl,hk,h4⟩
 refine aa.mk (fun hlt=> ?_) (fun hge=> ?_)
 ·have hlt:k<(bt l).length:=by have:=of_decide_eq_true hlt;omega
  refine aq.Gs (g:=bu) cw (by decide) h4 (ab.cons ab.own) rfl hlt fun p hp=> ?_
  obtain ⟨x,hx⟩: ∃x,x=(bt l)[k]:=⟨_,rfl⟩
  rw [←hx] at hp
  refine Ld.st (x.1,x.2,()) (fun j hj=>h4.ag (hp j hj)) ?_
  refine Nw.mk h4 fun b14 w5 h5=>ak.aF h5 rfl p4 fun w6 h6=> ?_
  refine Ld.nh h6 (x.1,x.2,()) rfl ?_
  have h7:=h6.p1
  have hft:=pJ (S:=bt l) hlt
  rw [←hx] at hft
  have hfl:=(pS (S:=bt l) k (by omega)).1
  have step: ∀{w':World} {A:HP},Hp E w' (lI An zb m (gG (cu ((bt l).take (k+1))))::A::al 2 s3 ((bt l).flatMap bu)::F)→
    (∃k':Nat,i64 ((k:Int)+1)=(k':Int)∧k'≤l.length∧Hp E w' (lI An zb m (gG (cu ((bt l).take k')))::al 2 s3 ((bt l).flatMap bu)::F))∧l.length - (i64 ((k:Int)+1)).toNat<l.length - (k:Int).toNat:=fun {w' A} h'=>
   ⟨⟨k+1,by rw [ad (by omega)];omega,by omega,h'.p1.drop⟩,by rw [ad (by omega)];omega⟩
  have hlk:=ET (kt:=239) (vt:=3) (a:=x) (z:=zb 0) xR qf yY h7
  by_cases hm:x∈cu ((bt l).take k)
  ·obtain ⟨j,hj,hje⟩:=List.getElem_of_mem hm
   have hfa:findAt x (gG (cu ((bt l).take k))) 0=some (0+j,(j:Int)):=sw (by
    rw [sZ]
    exact (mE (nO l) k (by omega)).imp fun {a b} hab e=>by subst e;rw [nA] at hab;cases hab) (by rw [DK hj,hje])
   rw [hfa] at hlk
   refine mC.NM (j:Int) true hlk (aa.f rfl ?_)
   have hfe:cu ((bt l).take (k+1))=cu ((bt l).take k):=by rw [hft];unfold fi;rw [if_pos hm]
   exact step (by rw [hfe];exact h7)
  ·have hfa:findAt x (gG (cu ((bt l).take k))) 0=none:=tY (by rw [sZ];exact hm)
   rw [hfa] at hlk
   refine mC.NM 0 false hlk (aa.t rfl ?_)
   refine Ld.nh h6 (x.1,x.2,()) rfl ?_
   refine AX qf h7 ?_
   rw [B9]
   refine eO (kt:=239) (vt:=3) (a:=x) (b:=((cu ((bt l).take k)).length:Int)) xR qf h7 fun w7 h8=> ?_
   have hfe:cu ((bt l).take (k+1))=cu ((bt l).take k)++ [x]:=by rw [hft];unfold fi;rw [if_neg hm]
   rw [sS hfa,←FU,←hfe] at h8
   exact step h8
 have hge:k=(bt l).length:=by have:=of_decide_eq_false hge;omega
 subst hge
 rw [List.take_length] at h4
 have hdn:((gG (dd l)).map (·.1)).Nodup:=by
  rw [sZ]
  exact (oW l).imp fun {a b} hab e=>by subst e;rw [nA] at hab;cases hab
 refine ⟨fun o i w'=> ∃k:Nat,i=(k:Int)∧k≤l.length∧Hp E w' (al 1 o (((l.take k).map fun p=>(eZ l p:Int)).map vI)::lI An zb m (gG (dd l))::al 2 s3 ((bt l).flatMap bu)::F),fun _ i _=>l.length - i.toNat,⟨0,rfl,by omega,h4.aW 1⟩,?_⟩
 rintro o i w5 ⟨k,rfl,hk,h5⟩
 refine aa.mk (fun hlt=> ?_) (fun hge=> ?_)
 ·have hlt:k<l.length:=by have:=of_decide_eq_true hlt;omega
  refine aq.Gs (g:=bu) cw (by decide) h5 (ab.cons (ab.cons (ab.cons hs))) rfl hlt fun p hp=> ?_
  obtain ⟨x,hx⟩: ∃x,x=l[k]:=⟨_,rfl⟩
  have hxl:x∈l:=by rw [hx];exact List.getElem_mem hlt
  rw [←hx] at hp
  refine Ld.st (x.1,x.2,()) (fun j hj=>h5.ag (hp j hj)) ?_
  refine Nw.mk h5 fun b32 w6 h6=>ak.aF h6 rfl p4 fun w7 h7=> ?_
  refine Ld.nh h7 (x.1,x.2,()) rfl ?_
  obtain ⟨hj,hje⟩:=Np hxl
  have hfa:findAt x (gG (dd l)) 0=some (0+eZ l x,(eZ l x:Int)):=sw hdn (by rw [DK hj,hje])
  have hlk:=um (kt:=239) (vt:=3) (a:=x) (z:=zb 0) xR qf yY h7.p2
  rw [hfa] at hlk
  refine NP.of (eZ l x:Int) hlk ?_
  refine Kc si rfl h7.p1 (by rw [List.length_map,List.length_take,aB];omega) fun s' w8 h8 _=>⟨⟨k+1,by rw [ad (by omega)];omega,by omega,?_⟩,by dsimp only;rw [ad (by omega)];omega⟩
  have e:(l.take (k+1)).map (fun p=>(eZ l p:Int))=(l.take k).map (fun p=>(eZ l p:Int))++ [(eZ l x:Int)]:=by
   rw [List.take_add_one,List.getElem?_eq_getElem hlt,List.map_append,←hx];rfl
  rw [e]
  exact h8.p1.drop
 ·have hge:k=l.length:=by have:=of_decide_eq_false hge;omega
  subst hge
  rw [List.take_length] at h5
  refine AX qf h5.p1 ?_
  rw [B9]
  exact hK o w5 h5.p1.drop.p1.drop
end
end Go.Proofs.YtcdpblipagajiaaGreat
set_option maxRecDepth 20000
namespace Go.Proofs.YtcdpblipagajiaaGreat
open Go Go.Vc Go.Bw Go.Hs
section
variable {E w:World} {F:List HP}
def eN (t:List Nat) (f:Nat→Int×Int):List (Int×Int):=(List.range (t.length+1)).map f
theorem rn (t:List Nat) (f:Nat→Int×Int):(eN t f).length=t.length+1:=by simp [eN]
theorem Bj {t:List Nat} {f:Nat→Int×Int} {i:Nat} (hi:i<(eN t f).length):(eN t f)[i]=f i:=by simp [eN]
theorem uG {t:List Nat} {f g:Nat→Int×Int} (h: ∀i,i≤t.length→f i=g i):eN t f=eN t g:=by
 unfold eN
 refine List.map_congr_left fun i hi=> ?_
 rw [List.mem_range] at hi
 exact h i (by omega)
set_option maxRecDepth 200000 in
theorem KG {t:List Nat} {s:Sl} {K:Sl→World→Prop} (h:Hp E w F) (hs:ab F (aC 1 s (t.map vB))) (hb: ∀x∈t,x<256) (hn:t.length≤400000)
  (hK: ∀s' w',Hp E w' (al 1 s' (((List.range (t.length+1)).map fun i=>(fO t i:Int)).map vI)::F)→K s' w'):Cl Tryz.prog [kS] pR ⟨[.slice s.base s.len s.cap]⟩ w K:=by
 refine G1.ok _ _ _ ?_
 have hl:=(h.ag hs).1
 simp only [List.length_map,Nat.mul_one] at hl
 rw [show i64 ((s.len:Int)+1)=((t.length+1:Nat):Int) by rw [ad (by omega)];omega]
 refine KI (g:=bu) (x:=((0,0):Int×Int)) (by kernel_rfl) Jj rfl cw (by decide) (by omega) (by decide) h fun s3 w1 hs3 h1=> ?_
 have e0:List.replicate (t.length+1) ((0,0):Int×Int)=eN t fun _=>(0,0):=by
  apply List.ext_getElem (by rw [rn,List.length_replicate])
  intro i h1 h2
  rw [Bj,List.getElem_replicate]
 rw [e0] at h1
 refine ⟨fun i w'=> ∃k:Nat,i=(k:Int)∧k≤t.length∧Hp E w' (al 2 s3 ((eN t fun j=>if j<k then Bw.dg t j else (0,0)).flatMap bu)::F),fun i _=>t.length - i.toNat,⟨0,rfl,by omega,by simpa using h1⟩,?_⟩
 rintro i w2 ⟨k,rfl,hk,h2⟩
 refine aa.mk (fun hlt=> ?_) (fun hge=> ?_)
 ·have hlt:k<t.length:=by have:=of_decide_eq_true hlt;omega
  have hx:t.getD k 0<256:=by
   rw [List.getD,List.getElem?_eq_getElem hlt]
   exact hb _ (List.getElem_mem hlt)
  refine aq.nB (h2.ag (ab.cons hs)) rfl hlt ?_
  rw [ad (x:=(t.getD k 0:Int)) (by omega),ad (x:=1+(t.getD k 0:Int)) (by omega),ad (x:=(k:Int)+1) (by omega)]
  refine aq.setCell (j:=k) (k:=0) (x:=Bw.dg t k) cw (by decide) h2 rfl (by rw [rn];omega) rfl ?_ fun w3 h3=>⟨⟨k+1,by omega,by omega,?_⟩,by dsimp only;omega⟩
  ·rw [Bj]
   unfold Bw.dg
   rw [if_neg (Nat.lt_irrefl k),if_pos hlt];rfl
  ·have:(eN t fun j=>if j<k then Bw.dg t j else (0,0)).set k (Bw.dg t k)=eN t fun j=>if j<k+1 then Bw.dg t j else (0,0):=by
    unfold eN
    rw [Ej]
    refine List.map_congr_left fun j _=> ?_
    by_cases e:j=k
    ·subst e;rw [if_pos rfl,if_pos (by omega)]
    ·rw [if_neg e]
     by_cases e2:j<k
     ·rw [if_pos e2,if_pos (by omega)]
     ·rw [if_neg e2,if_neg (by omega)]
   rw [←this];exact h3
 have hge:k=t.length:=by have:=of_decide_eq_false hge;omega
 subst hge
 have e1:(eN t fun j=>if j<t.length then Bw.dg t j else (0,0))=aH t (Bw.dg t):=uG fun i hi=>by
  by_cases e:i<t.length
  ·rw [if_pos e]
  ·rw [if_neg e];unfold Bw.dg;rw [if_neg e]
 rw [e1] at h2
 have rk1: ∀{w:World} {f:Nat→Int×Int} {K:Sl→Int→World→Prop},Hp E w (al 2 s3 ((aH t f).flatMap bu)::F)→(∀s' w',Hp E w' (al 1 s' (((List.range (t.length+1)).map fun i=>(eZ (aH t f) (f i):Int)).map vI)::al 2 s3 ((aH t f).flatMap bu)::F)→K s' ((dd (aH t f)).length:Int) w')→
   Cl Tryz.prog [kS,kI] im ⟨[.slice s3.base s3.len s3.cap]⟩ w K:=fun {w f K} h hK=>
  IU (l:=aH t f) h ab.own (by rw [Bw.cS];omega) fun s' w' h'=>hK s' w' (by
   have e:(aH t f).map (fun p=>(eZ (aH t f) p:Int))=(List.range (t.length+1)).map fun i=>(eZ (aH t f) (f i):Int):=by
    conv=>lhs;rw [show (aH t f).map (fun p=>(eZ (aH t f) p:Int))=((List.range (t.length+1)).map f).map (fun p=>(eZ (aH t f) p:Int)) from rfl]
    rw [List.map_map];rfl
   rw [←e];exact h')
 refine rk1 h2 fun s13 w3 h3=> ?_
 have hl3:=aC.len cw (by decide) (h3.ag (ab.cons ab.own))
 rw [Bw.cS] at hl3
 refine ⟨fun r a wd w'=> ∃(hh:Nat) (f:Nat→Int×Int),wd=(hh:Int)∧1≤hh∧hh≤2*t.length+1∧qi t hh f∧a=((dd (aH t f)).length:Int)∧Hp E w' (al 1 r (((List.range (t.length+1)).map fun i=>(eZ (aH t f) (f i):Int)).map vI)::al 2 s3 ((aH t f).flatMap bu)::F),
  fun _ _ wd _=>2*t.length+2 - wd.toNat,⟨1,Bw.dg t,rfl,by omega,by omega,LC t,rfl,h3⟩,?_⟩
 rintro r a wd w4 ⟨hh,f,rfl,h1',hle,hf,rfl,h4⟩
 refine aa.mk (fun hlt=> ?_) (fun hge=> ?_)
 ·have hlt:(dd (aH t f)).length<t.length+1:=by have:=of_decide_eq_true hlt;omega
  have hht:=I5 hf hlt
  have hrl:((List.range (t.length+1)).map fun i=>(eZ (aH t f) (f i):Int)).length=t.length+1:=by simp
  have hrg: ∀i,i≤t.length→((List.range (t.length+1)).map fun i=>(eZ (aH t f) (f i):Int)).getD i 0=(eZ (aH t f) (f i):Int):=fun i hi=>by
   rw [List.getD,List.getElem?_map,List.getElem?_range (by omega)];rfl
  obtain ⟨rr,hrr⟩: ∃rr:Nat→Int,rr=fun i=>(eZ (aH t f) (f i):Int):=⟨_,rfl⟩
  have hQ:=Lv hf
  rw [←hrr] at h4 hrl hrg hQ
  have hrg: ∀i,i≤t.length→((List.range (t.length+1)).map rr).getD i 0=rr i:=fun i hi=>by rw [hrg i hi,hrr]
  refine ⟨fun i w'=> ∃k:Nat,i=(k:Int)∧k≤t.length+1∧Hp E w' (al 2 s3 ((eN t fun j=>if j<k then eH t hh rr j else f j).flatMap bu)::al 1 r (((List.range (t.length+1)).map rr).map vI)::F),fun i _=>t.length+1 - i.toNat,⟨0,rfl,by omega,?_⟩,?_⟩
  ·have:(eN t fun j=>if j<0 then eH t hh rr j else f j)=aH t f:=uG fun i _=>by rw [if_neg (by omega)]
   rw [this];exact h4.p1
  rintro i w5 ⟨k,rfl,hk,h5⟩
  refine aa.mk (fun hklt=> ?_) (fun hkge=> ?_)
  ·have hklt:k<t.length+1:=by have:=of_decide_eq_true hklt;omega
   refine aq.nI (h5.ag (ab.cons ab.own)) rfl (by rw [hrl];exact hklt) ?_
   rw [hrg k (by omega)]
   refine aq.Ng (g:=bu) (j:=k) (x:=((rr k,-1):Int×Int)) cw (by decide) h5 rfl (by rw [rn];exact hklt) p4 fun w6 h6=> ?_
   have fin: ∀{w':World},Hp E w' (al 2 s3 (((eN t fun j=>if j<k then eH t hh rr j else f j).set k (eH t hh rr k)).flatMap bu)::al 1 r (((List.range (t.length+1)).map rr).map vI)::F)→
     (∃k':Nat,i64 ((k:Int)+1)=(k':Int)∧k'≤t.length+1∧Hp E w' (al 2 s3 ((eN t fun j=>if j<k' then eH t hh rr j else f j).flatMap bu)::al 1 r (((List.range (t.length+1)).map rr).map vI)::F))∧t.length+1 - (i64 ((k:Int)+1)).toNat<t.length+1 - (k:Int).toNat:=fun {w'} h'=>by
    rw [ad (by omega)]
    refine ⟨⟨k+1,by omega,by omega,?_⟩,by omega⟩
    have:(eN t fun j=>if j<k then eH t hh rr j else f j).set k (eH t hh rr k)=eN t fun j=>if j<k+1 then eH t hh rr j else f j:=by
     unfold eN
     rw [Ej]
     refine List.map_congr_left fun j _=> ?_
     by_cases e:j=k
     ·subst e;rw [if_pos rfl,if_pos (by omega)]
     ·rw [if_neg e]
      by_cases e2:j<k
      ·rw [if_pos e2,if_pos (by omega)]
      ·rw [if_neg e2,if_neg (by omega)]
    rw [←this];exact h'
   rw [ad (x:=(k:Int)+(hh:Int)) (by omega)]
   refine aa.mk (fun hin=> ?_) (fun hin=> ?_)
   ·have hin:k+hh≤t.length:=by have:=of_decide_eq_true hin;omega
    refine aq.nI (j:=k+hh) (h6.ag (ab.cons ab.own)) (by omega) (by rw [hrl];omega) ?_
    rw [hrg (k+hh) hin]
    refine aq.setCell (j:=k) (k:=1) (x:=eH t hh rr k) cw (by decide) h6 rfl (by rw [List.length_set,rn];exact hklt) rfl ?_ fun w7 h7=>fin ?_
    ·rw [List.getElem_set_self]
     unfold eH
     rw [if_pos hin];rfl
    ·rw [List.set_set] at h7
     exact h7
   ·have hin: ¬k+hh≤t.length:=by have:=of_decide_eq_false hin;omega
    have e:((rr k,-1):Int×Int)=eH t hh rr k:=by unfold eH;rw [if_neg hin]
    rw [e] at h6
    exact fin h6
  ·have hke:k=t.length+1:=by have:=of_decide_eq_false hkge;omega
   subst hke
   have e2:(eN t fun j=>if j<t.length+1 then eH t hh rr j else f j)=aH t (eH t hh rr):=uG fun i hi=>by rw [if_pos (by omega)]
   rw [e2] at h5
   have h5:=h5.p1.drop
   refine rk1 h5 fun s34 w6 h6=>⟨by decide,?_⟩
   have e3:bq .i64 (hh:Int) 1=((hh+hh:Nat):Int):=by
    have hmx:IntKind.max .i64=9223372036854775807:=rfl
    have:=dX (k:= .i64) (a:=hh) (b:=1) (by decide) (by omega)
    rw [show ((1:Nat):Int)=1 from rfl] at this
    rw [this];omega
   rw [e3]
   exact ⟨⟨hh+hh,eH t hh rr,rfl,by omega,by omega,K7 hQ,rfl,h6⟩,by dsimp only;omega⟩
 ·have hge:t.length+1≤(dd (aH t f)).length:=by have:=of_decide_eq_false hge;omega
  have e4:(List.range (t.length+1)).map (fun i=>(eZ (aH t f) (f i):Int))=(List.range (t.length+1)).map fun i=>(fO t i:Int):=List.map_congr_left fun i hi=>by
   rw [List.mem_range] at hi
   rw [done hf hge (by omega)]
  rw [e4] at h4
  exact hK r w4 h4.p1.drop
set_option maxRecDepth 200000 in
theorem FQ {t:List Nat} {s:Sl} {K:Sl→World→Prop} (h:Hp E w F) (hs:ab F (aC 1 s (t.map vB))) (hb: ∀x∈t,x<256) (hn:t.length≤400000)
  (hK: ∀s' w',Hp E w' (al 1 s' ((zl (bM t)).map vI)::F)→K s' w'):Cl Tryz.prog [kS] pQ ⟨[.slice s.base s.len s.cap]⟩ w K:=by
 refine GU.ok _ _ _ ?_
 refine KG h hs hb hn fun s3 w1 h1=> ?_
 have hl3:=h1.a6
 rw [List.length_map,List.length_map,List.length_range,Nat.mul_one] at hl3
 refine xG (by kernel_rfl) DH rfl (by omega) (by decide) h1 fun s5 w2 hs5 h2=> ?_
 rw [GC] at h2
 have hrg: ∀i,i≤t.length→((List.range (t.length+1)).map fun i=>(fO t i:Int)).getD i 0=(fO t i:Int):=fun i hi=>by
  rw [List.getD,List.getElem?_map,List.getElem?_range (by omega)];rfl
 refine ⟨fun i w'=> ∃(k:Nat) (out:List Int),i=(k:Int)∧k≤t.length+1∧out.length=t.length+1∧(∀j,j<k→out.getD (fO t j) 0=(j:Int))∧Hp E w' (al 1 s5 (out.map vI)::al 1 s3 (((List.range (t.length+1)).map fun i=>(fO t i:Int)).map vI)::F),
  fun i _=>t.length+1 - i.toNat,⟨0,_,rfl,by omega,by rw [List.length_replicate];omega,fun j hj=>by omega,h2⟩,?_⟩
 rintro i w3 ⟨k,out,rfl,hk,hol,ho,h3⟩
 refine aa.mk (fun hlt=> ?_) (fun hge=> ?_)
 ·have hlt:k<t.length+1:=by have:=of_decide_eq_true hlt;omega
  have hrk:=G6 (t:=t) (i:=k) (by omega)
  refine aq.nI (h3.ag (ab.cons ab.own)) rfl (by simp;omega) ?_
  rw [hrg k (by omega)]
  refine aq.MC h3 rfl (by omega) fun w4 h4=>⟨⟨k+1,_,by rw [ad (by omega)];omega,by omega,by rw [List.length_set];exact hol,fun j hj=> ?_,h4⟩,by dsimp only;rw [ad (by omega)];omega⟩
  rw [dQ (by omega)]
  by_cases e:j=k
  ·subst e;rw [if_pos rfl]
  ·rw [if_neg (fun e2=>e (qD (by omega) (by omega) e2))]
   exact ho j (by omega)
 ·have hge:k=t.length+1:=by have:=of_decide_eq_false hge;omega
  subst hge
  have:out=zl (bM t):=by
   apply List.ext_getElem (by rw [hol,fJ,ic])
   intro r h1 h2
   have hr:r<(bM t).length:=by rw [ic];omega
   have hm:(bM t)[r]≤t.length:=vf.1 (List.getElem_mem hr)
   have:=ho (bM t)[r] (by omega)
   rw [DB hr] at this
   have e:out.getD r 0=out[r]:=by simp [List.getD,h1]
   rw [←e,this]
   simp [zl]
  rw [this] at h3
  exact hK s5 w3 h3.p1.drop
theorem oL {l:List Nat} {k:Nat} (hk:k<l.length):((l.take (k+1)).filter fun i=>i !=0)=((l.take k).filter fun i=>i !=0)++if l[k]=0 then [] else [l[k]]:=by
 rw [List.take_add_one,List.getElem?_eq_getElem hk,List.filter_append]
 congr 1
 by_cases e:l[k]=0
 ·rw [if_pos e];simp [e]
 ·rw [if_neg e];simp [e]
set_option maxRecDepth 200000 in
theorem H5 {t:List Nat} {s:Sl} {K:Sl→Int→World→Prop} (h:Hp E w F) (hs:ab F (aC 1 s (t.map vB))) (hb: ∀x∈t,x<256) (hn:t.length≤400000)
  (hK: ∀s' w',Hp E w' (al 1 s' ((aU t).map vB)::F)→K s' (bG t:Int) w'):Cl Tryz.prog [kS,kI] rv ⟨[.slice s.base s.len s.cap]⟩ w K:=by
 refine Ip.ok _ _ _ ?_
 have hl:=(h.ag hs).1
 simp only [List.length_map,Nat.mul_one] at hl
 refine FQ h hs hb hn fun s3 w1 h1=> ?_
 have hl3:=h1.a6
 rw [List.length_map,fJ,ic,Nat.mul_one] at hl3
 refine ⟨fun o ix i w'=> ∃k:Nat,i=(k:Int)∧k≤t.length+1∧ix=(if bG t<k then (bG t:Int) else 0)∧Hp E w' (al 1 o (((((bM t).take k).filter fun i=>i !=0).map fun i=>t.getD (i - 1) 0).map vB)::al 1 s3 ((zl (bM t)).map vI)::F),
  fun _ _ i _=>t.length+1 - i.toNat,⟨0,rfl,by omega,rfl,h1.aW 1⟩,?_⟩
 rintro o ix i w2 ⟨k,rfl,hk,rfl,h2⟩
 refine aa.mk (fun hlt=> ?_) (fun hge=> ?_)
 ·have hlt:k<t.length+1:=by have:=of_decide_eq_true hlt;omega
  have hko:k<(bM t).length:=by rw [ic];exact hlt
  have hix:=uA t hko
  have hle:(bM t)[k]≤t.length:=vf.1 (List.getElem_mem hko)
  refine aq.nI (h2.ag (ab.cons ab.own)) rfl (by rw [fJ];exact hko) ?_
  have e0:(zl (bM t)).getD k 0=((bM t)[k]:Int):=by simp [zl,List.getD,hko]
  rw [e0]
  have hf:=oL hko
  refine aa.mk (fun hz=> ?_) (fun hz=> ?_)
  ·have hz:(bM t)[k]=0:=by have:=beq_iff_eq.1 hz;omega
   rw [if_pos hz,List.append_nil] at hf
   have hke:=hix.1 hz
   refine ⟨⟨k+1,by rw [ad (by omega)];omega,by omega,by rw [if_pos (by omega)];omega,by rw [hf];exact h2⟩,by dsimp only;rw [ad (by omega)];omega⟩
  ·have hz:(bM t)[k]≠0:=by have:=beq_eq_false_iff_ne.1 hz;omega
   rw [if_neg hz] at hf
   have hke:k≠bG t:=fun e=>hz (hix.2 e)
   have e1:i64 (((bM t)[k]:Int) - 1)=(((bM t)[k] - 1:Nat):Int):=by rw [ad (by omega)];omega
   rw [e1]
   refine aq.nB (h2.ag (ab.cons (ab.cons hs))) rfl (by omega) ?_
   refine vF vx rfl h2 (by rw [List.length_map,aB];exact Nat.le_trans (List.length_filter_le ..) (by rw [List.length_take];omega)) fun s' w3 h3 _=>⟨⟨k+1,by rw [ad (by omega)];omega,by omega,?_,?_⟩,by dsimp only;rw [ad (x:=(k:Int)+1) (by omega)];omega⟩
   ·by_cases e:bG t<k
    ·rw [if_pos e,if_pos (by omega)]
    ·rw [if_neg e,if_neg (by omega)]
   ·rw [hf,List.map_append]
    exact h3
 ·have hge:k=t.length+1:=by have:=of_decide_eq_false hge;omega
  subst hge
  have hil:=tz t
  rw [if_pos (by omega)]
  rw [List.take_of_length_le (by rw [ic];exact Nat.le_refl _)] at h2
  exact hK o w2 h2.p1.drop
end
end Go.Proofs.YtcdpblipagajiaaGreat
namespace Go.Proofs.YtcdpblipagajiaaGreat
open Go Go.Vc
set_option maxRecDepth 100000
theorem wR.ok (a:Int) (b:(TT [.int .i64,.int .i64,.int .u32])) (R:Sl→Int→World→Prop) w (h:
 Nw 53 ⟨[(ni b.1),(ni b.2.1),(.int .u32 b.2.2.1)]⟩ w fun d c=>
 Ld kI (Addr.add ⟨d,0,none⟩ 0) c fun (e:Int)=>
 Cl Pg [kS,kB] gO ⟨[(ni e),(ni a)]⟩ c fun (g:Sl) (h:Bool) f=>
 Ld kI (Addr.add ⟨d,0,none⟩ 1) f fun (i:Int)=>
 Ld kI (Addr.add ⟨d,0,none⟩ 0) f fun (j:Int)=>
 Cl Pg [kS,kB] gO ⟨[(ni i),(ni j)]⟩ f fun (l:Sl) (m:Bool) k=>
 Cl Pg [kB] bT ⟨[(ni a),(ni 1),(ni 65536)]⟩ k fun (o:Bool) n=>
 aa (!o)
 (R (⟨none,0,0⟩:Sl) 2 n)
 (aa (!h)
 (R (⟨none,0,0⟩:Sl) 2 n)
 (aa (!m)
 (R (⟨none,0,0⟩:Sl) 2 n)
 (Nw 5 ⟨[(.int .u8 1)]⟩ n fun q p=>
 Ld (az .u32) (Addr.add ⟨d,0,none⟩ 2) p fun (r:Int)=>
 Cl Pg [kS] sX ⟨[(.int .u32 r)]⟩ p fun (t:Sl) s=>
 Nw 22 ⟨[(ah (⟨some ⟨q,0,none⟩,1,1⟩:Sl)),(ah g),(ah l),(ah t)]⟩ s fun v u=>
 Cl Pg [kS] ep ⟨[(ah (⟨some ⟨v,0,none⟩,4,4⟩:Sl))]⟩ u fun (y:Sl) x=>
 R y 0 x)))):Cl Pg [kS,kI] jc ⟨[(ni a),(.agg ⟨[(ni b.1),(ni b.2.1),(.int .u32 b.2.2.1)]⟩)]⟩ w R:=co Tryz.f42 [] h
theorem pd.ok (a:Int) (b:Sl) (R:(TT aY)→Sl→Int→World→Prop) w (h:
 Nw 74 ⟨[(ni 0),(ni 0),(ni 0),(ni 0),(ni 0),(.int .u32 0),(ni 0)]⟩ w fun d c=>
 Cl Pg [kB] bT ⟨[(ni a),(ni 1),(ni 65536)]⟩ c fun (f:Bool) e=>
 aa (!f)
 (Ld (.st aY) ⟨d,0,none⟩ e fun g=>
 ak ⟨d,0,none⟩ [(ni g.1),(ni g.2.1),(ni g.2.2.1),(ni g.2.2.2.1),(ni g.2.2.2.2.1),(.int .u32 g.2.2.2.2.2.1),(ni g.2.2.2.2.2.2.1)] 0 e fun h=>
 Ld (.st aY) ⟨d,0,none⟩ h fun i=>
 R i (⟨none,0,0⟩:Sl) 2 h)
 (cn 0 e fun j k (l:Int) m=>
 aa (decide (l<(b.len:Int)))
 (aq b l 1 fun n=>
 Ld (az .u8) n m fun (o:Int)=>
 Ld (.st aY) ⟨d,0,none⟩ m fun p=>
 Cl Pg [(.st aY),kB,kI] fC ⟨[(ni a),(.agg ⟨[(ni p.1),(ni p.2.1),(ni p.2.2.1),(ni p.2.2.2.1),(ni p.2.2.2.2.1),(.int .u32 p.2.2.2.2.2.1),(ni p.2.2.2.2.2.2.1)]⟩),(.int .u8 o)]⟩ m fun r (s:Bool) (t:Int) q=>
 Nw 74 ⟨[(ni 0),(ni 0),(ni 0),(ni 0),(ni 0),(.int .u32 0),(ni 0)]⟩ q fun v u=>
 ak ⟨v,0,none⟩ [(ni r.1),(ni r.2.1),(ni r.2.2.1),(ni r.2.2.2.1),(ni r.2.2.2.2.1),(.int .u32 r.2.2.2.2.2.1),(ni r.2.2.2.2.2.2.1)] 0 u fun x=>
 aa (t !=0)
 (ak ⟨d,0,none⟩ [(ni 0),(ni 0),(ni 0),(ni 0),(ni 0),(.int .u32 0),(ni 0)] 0 x fun y=>
 Ld (.st aY) ⟨d,0,none⟩ y fun z=>
 R z (⟨none,0,0⟩:Sl) t y)
 (Ld (.st aY) ⟨v,0,none⟩ x fun a1=>
 ak ⟨d,0,none⟩ [(ni a1.1),(ni a1.2.1),(ni a1.2.2.1),(ni a1.2.2.2.1),(ni a1.2.2.2.2.1),(.int .u32 a1.2.2.2.2.2.1),(ni a1.2.2.2.2.2.2.1)] 0 x fun b1=>
 aa s
 (cL b1 fun c1 d1=>
 ae (.st aY) ⟨d,0,none⟩ c1 fun e1=>
 bd b (i64 (l+1)) (b).len (b).cap 1 fun f1=>
 Cl Pg [kS] dW ⟨[(ah f1)]⟩ d1 fun (h1:Sl) g1=>
 c1 g1∧
 ak ⟨d,0,none⟩ [(ni e1.1),(ni e1.2.1),(ni e1.2.2.1),(ni e1.2.2.2.1),(ni e1.2.2.2.2.1),(.int .u32 e1.2.2.2.2.2.1),(ni e1.2.2.2.2.2.2.1)] 0 g1 fun i1=>
 c1 i1∧
 Ld (.st aY) ⟨d,0,none⟩ i1 fun j1=>
 R j1 h1 0 i1)
 (j (i64 (l+1)) b1∧k (i64 (l+1)) b1<k l m)))
 (ak ⟨d,0,none⟩ [(ni 0),(ni 0),(ni 0),(ni 0),(ni 0),(.int .u32 0),(ni 0)] 0 m fun k1=>
 Ld (.st aY) ⟨d,0,none⟩ k1 fun l1=>
 R l1 (⟨none,0,0⟩:Sl) 50 k1))):Cl Pg [(.st aY),kS,kI] fB ⟨[(ni a),(ah b)]⟩ w R:=co Tryz.f50 [(10,[(18,kI)])] h
theorem zh.ok (a:Int) (b:Int) (R:Sl→Bool→World→Prop) w (h:
 Cl Pg [kS,kI] nZ ⟨[(ni a)]⟩ w fun (d:Sl) (e:Int) c=>
 Cl Pg [kB] bT ⟨[(ni a),(ni 1),(ni b)]⟩ c fun (g:Bool) f=>
 R d g f):Cl Pg [kS,kB] gO ⟨[(ni a),(ni b)]⟩ w R:=co Tryz.f84 [] h
theorem zi.ok (a:Int) (b:Int) (c:Int) (R:Bool→World→Prop) w (h:
 aa (decide (a≥b))
 (R (decide (a≤c)) w)
 (R false w)):Cl Pg [kB] bT ⟨[(ni a),(ni b),(ni c)]⟩ w R:=co Tryz.f85 [] h
theorem wX.ok (a:Int) (b:(TT aY)) (c:Int) (R:(TT aY)→Bool→Int→World→Prop) w (h:
 Nw 74 ⟨[(ni b.1),(ni b.2.1),(ni b.2.2.1),(ni b.2.2.2.1),(ni b.2.2.2.2.1),(.int .u32 b.2.2.2.2.2.1),(ni b.2.2.2.2.2.2.1)]⟩ w fun e d=>
 Nw 74 ⟨[(ni 0),(ni 0),(ni 0),(ni 0),(ni 0),(.int .u32 0),(ni 0)]⟩ d fun g f=>
 ay Pg (Instr.makeMap 202 none) kM f fun i h=>
 ay Pg (do Instr.mapUpdate 202 (.map i) (ni 0) (.func (.func 149) ⟨[]⟩ ⟨[]⟩);pure undef) kV h fun _ j=>
 ay Pg (do Instr.mapUpdate 202 (.map i) (ni 1) (.func (.func 150) ⟨[]⟩ ⟨[]⟩);pure undef) kV j fun _ k=>
 ay Pg (do Instr.mapUpdate 202 (.map i) (ni 2) (.func (.func 151) ⟨[]⟩ ⟨[]⟩);pure undef) kV k fun _ l=>
 ay Pg (do Instr.mapUpdate 202 (.map i) (ni 3) (.func (.func 152) ⟨[]⟩ ⟨[]⟩);pure undef) kV l fun _ m=>
 ay Pg (do Instr.mapUpdate 202 (.map i) (ni 5) (.func (.func 152) ⟨[]⟩ ⟨[]⟩);pure undef) kV m fun _ n=>
 Ld kI (Addr.add ⟨e,0,none⟩ 0) n fun (o:Int)=>
 ay Pg (Instr.lookup 202 (.map i) (ni o) false) kV n fun q p=>
 lS q fun r=>
 aa r
 (Ld (.st aY) ⟨g,0,none⟩ p fun s=>
 ak ⟨g,0,none⟩ [(ni s.1),(ni s.2.1),(ni s.2.2.1),(ni s.2.2.2.1),(ni s.2.2.2.2.1),(.int .u32 s.2.2.2.2.2.1),(ni s.2.2.2.2.2.2.1)] 0 p fun t=>
 Ld (.st aY) ⟨g,0,none⟩ t fun u=>
 R u false 2 t)
 (Ld (.st aY) ⟨e,0,none⟩ p fun v=>
 Cl Pg [kB] hC ⟨[(ni a),(.agg ⟨[(ni v.1),(ni v.2.1),(ni v.2.2.1),(ni v.2.2.2.1),(ni v.2.2.2.2.1),(.int .u32 v.2.2.2.2.2.1),(ni v.2.2.2.2.2.2.1)]⟩)]⟩ p fun (y:Bool) x=>
 aa (!y)
 (Ld (.st aY) ⟨g,0,none⟩ x fun z=>
 ak ⟨g,0,none⟩ [(ni z.1),(ni z.2.1),(ni z.2.2.1),(ni z.2.2.2.1),(ni z.2.2.2.2.1),(.int .u32 z.2.2.2.2.2.1),(ni z.2.2.2.2.2.2.1)] 0 x fun a1=>
 Ld (.st aY) ⟨g,0,none⟩ a1 fun b1=>
 R b1 false 2 a1)
 (Ld (.st aY) ⟨e,0,none⟩ x fun c1=>
 iY Pg q [(.st aY),kB] [(ni a),(.agg ⟨[(ni c1.1),(ni c1.2.1),(ni c1.2.2.1),(ni c1.2.2.2.1),(ni c1.2.2.2.2.1),(.int .u32 c1.2.2.2.2.2.1),(ni c1.2.2.2.2.2.2.1)]⟩),(.int .u8 c)] x fun e1 (f1:Bool) d1=>
 ak ⟨e,0,none⟩ [(ni e1.1),(ni e1.2.1),(ni e1.2.2.1),(ni e1.2.2.2.1),(ni e1.2.2.2.2.1),(.int .u32 e1.2.2.2.2.2.1),(ni e1.2.2.2.2.2.2.1)] 0 d1 fun g1=>
 aa (!f1)
 (Ld (.st aY) ⟨g,0,none⟩ g1 fun h1=>
 ak ⟨g,0,none⟩ [(ni h1.1),(ni h1.2.1),(ni h1.2.2.1),(ni h1.2.2.2.1),(ni h1.2.2.2.2.1),(.int .u32 h1.2.2.2.2.2.1),(ni h1.2.2.2.2.2.2.1)] 0 g1 fun i1=>
 Ld (.st aY) ⟨g,0,none⟩ i1 fun j1=>
 R j1 false 242 i1)
 (cL g1 fun k1 l1=>
 ae (.st aY) ⟨e,0,none⟩ k1 fun m1=>
 ae kI (Addr.add ⟨e,0,none⟩ 0) k1 fun (n1:Int)=>
 aa (n1==4)
 (ak ⟨g,0,none⟩ [(ni m1.1),(ni m1.2.1),(ni m1.2.2.1),(ni m1.2.2.2.1),(ni m1.2.2.2.2.1),(.int .u32 m1.2.2.2.2.2.1),(ni m1.2.2.2.2.2.2.1)] 0 l1 fun o1=>
 k1 o1∧
 Ld (.st aY) ⟨g,0,none⟩ o1 fun p1=>
 R p1 true 0 o1)
 (ae kI (Addr.add ⟨e,0,none⟩ 0) k1 fun (q1:Int)=>
 ak ⟨g,0,none⟩ [(ni m1.1),(ni m1.2.1),(ni m1.2.2.1),(ni m1.2.2.2.1),(ni m1.2.2.2.2.1),(.int .u32 m1.2.2.2.2.2.1),(ni m1.2.2.2.2.2.2.1)] 0 l1 fun r1=>
 k1 r1∧
 Ld (.st aY) ⟨g,0,none⟩ r1 fun s1=>
 R s1 (q1==6) 0 r1))))):Cl Pg [(.st aY),kB,kI] fC ⟨[(ni a),(.agg ⟨[(ni b.1),(ni b.2.1),(ni b.2.2.1),(ni b.2.2.2.1),(ni b.2.2.2.2.1),(.int .u32 b.2.2.2.2.2.1),(ni b.2.2.2.2.2.2.1)]⟩),(.int .u8 c)]⟩ w R:=co Tryz.f98 [] h
theorem Cn.ok (a:Int) (b:(TT aY)) (c:Int) (R:(TT aY)→Bool→World→Prop) w (h:
 Nw 74 ⟨[(ni b.1),(ni b.2.1),(ni b.2.2.1),(ni b.2.2.2.1),(ni b.2.2.2.2.1),(.int .u32 b.2.2.2.2.2.1),(ni b.2.2.2.2.2.2.1)]⟩ w fun e d=>
 Nw 74 ⟨[(ni 0),(ni 0),(ni 0),(ni 0),(ni 0),(.int .u32 0),(ni 0)]⟩ d fun g f=>
 St (Addr.add ⟨e,0,none⟩ 0) (ni 1) f fun h=>
 aa (c==0)
 (St (Addr.add ⟨e,0,none⟩ 0) (ni 5) h fun i=>
 Ld (.st aY) ⟨e,0,none⟩ i fun j=>
 ak ⟨g,0,none⟩ [(ni j.1),(ni j.2.1),(ni j.2.2.1),(ni j.2.2.2.1),(ni j.2.2.2.2.1),(.int .u32 j.2.2.2.2.2.1),(ni j.2.2.2.2.2.2.1)] 0 i fun k=>
 Ld (.st aY) ⟨g,0,none⟩ k fun l=>
 R l (decide (c≤1)) k)
 (Ld (.st aY) ⟨e,0,none⟩ h fun m=>
 ak ⟨g,0,none⟩ [(ni m.1),(ni m.2.1),(ni m.2.2.1),(ni m.2.2.2.1),(ni m.2.2.2.2.1),(.int .u32 m.2.2.2.2.2.1),(ni m.2.2.2.2.2.2.1)] 0 h fun n=>
 Ld (.st aY) ⟨g,0,none⟩ n fun o=>
 R o (decide (c≤1)) n)):Cl Pg [(.st aY),kB] ea ⟨[(ni a),(.agg ⟨[(ni b.1),(ni b.2.1),(ni b.2.2.1),(ni b.2.2.2.1),(ni b.2.2.2.2.1),(.int .u32 b.2.2.2.2.2.1),(ni b.2.2.2.2.2.2.1)]⟩),(.int .u8 c)]⟩ w R:=co Tryz.f149 [] h
theorem Cv.ok (a:Int) (b:(TT aY)) (c:Int) (R:(TT aY)→Bool→World→Prop) w (h:
 Nw 74 ⟨[(ni b.1),(ni b.2.1),(ni b.2.2.1),(ni b.2.2.2.1),(ni b.2.2.2.2.1),(.int .u32 b.2.2.2.2.2.1),(ni b.2.2.2.2.2.2.1)]⟩ w fun e d=>
 Nw 74 ⟨[(ni 0),(ni 0),(ni 0),(ni 0),(ni 0),(.int .u32 0),(ni 0)]⟩ d fun g f=>
 Ld (.st [.int .i64,.int .i64]) (Addr.add ⟨e,0,none⟩ 1) f fun h=>
 Cl Pg [(.st [.int .i64,.int .i64]),kB,kB] jN ⟨[(.agg ⟨[(ni h.1),(ni h.2.1)]⟩),(.int .u8 c),(ni a)]⟩ f fun j (k:Bool) (l:Bool) i=>
 Nw 72 ⟨[(ni 0),(ni 0)]⟩ i fun n m=>
 ak ⟨n,0,none⟩ [(ni j.1),(ni j.2.1)] 0 m fun o=>
 Ld (.st [.int .i64,.int .i64]) ⟨n,0,none⟩ o fun p=>
 ak (Addr.add ⟨e,0,none⟩ 1) [(ni p.1),(ni p.2.1)] 0 o fun q=>
 aa k
 (Ld kI (Addr.add ⟨n,0,none⟩ 0) q fun (r:Int)=>
 ak ⟨e,0,none⟩ [(ni 2),(ni 0),(ni 0),(ni r),(ni 0),(.int .u32 0),(ni 0)] 0 q fun s=>
 Ld (.st aY) ⟨e,0,none⟩ s fun t=>
 ak ⟨g,0,none⟩ [(ni t.1),(ni t.2.1),(ni t.2.2.1),(ni t.2.2.2.1),(ni t.2.2.2.2.1),(.int .u32 t.2.2.2.2.2.1),(ni t.2.2.2.2.2.2.1)] 0 s fun u=>
 Ld (.st aY) ⟨g,0,none⟩ u fun v=>
 R v l u)
 (Ld (.st aY) ⟨e,0,none⟩ q fun x=>
 ak ⟨g,0,none⟩ [(ni x.1),(ni x.2.1),(ni x.2.2.1),(ni x.2.2.2.1),(ni x.2.2.2.2.1),(.int .u32 x.2.2.2.2.2.1),(ni x.2.2.2.2.2.2.1)] 0 q fun y=>
 Ld (.st aY) ⟨g,0,none⟩ y fun z=>
 R z l y)):Cl Pg [(.st aY),kB] dY ⟨[(ni a),(.agg ⟨[(ni b.1),(ni b.2.1),(ni b.2.2.1),(ni b.2.2.2.1),(ni b.2.2.2.2.1),(.int .u32 b.2.2.2.2.2.1),(ni b.2.2.2.2.2.2.1)]⟩),(.int .u8 c)]⟩ w R:=co Tryz.f150 [] h
theorem BU.ok (a:Int) (b:(TT aY)) (c:Int) (R:(TT aY)→Bool→World→Prop) w (h:
 Nw 74 ⟨[(ni b.1),(ni b.2.1),(ni b.2.2.1),(ni b.2.2.2.1),(ni b.2.2.2.2.1),(.int .u32 b.2.2.2.2.2.1),(ni b.2.2.2.2.2.2.1)]⟩ w fun e d=>
 Nw 74 ⟨[(ni 0),(ni 0),(ni 0),(ni 0),(ni 0),(.int .u32 0),(ni 0)]⟩ d fun g f=>
 Ld (.st [.int .i64,.int .i64]) (Addr.add ⟨e,0,none⟩ 1) f fun h=>
 Ld kI ((Addr.add ⟨e,0,none⟩ 3).add 0) f fun (i:Int)=>
 Cl Pg [(.st [.int .i64,.int .i64]),kB,kB] jN ⟨[(.agg ⟨[(ni h.1),(ni h.2.1)]⟩),(.int .u8 c),(ni i)]⟩ f fun k (l:Bool) (m:Bool) j=>
 Nw 72 ⟨[(ni 0),(ni 0)]⟩ j fun o n=>
 ak ⟨o,0,none⟩ [(ni k.1),(ni k.2.1)] 0 n fun p=>
 Ld (.st [.int .i64,.int .i64]) ⟨o,0,none⟩ p fun q=>
 ak (Addr.add ⟨e,0,none⟩ 1) [(ni q.1),(ni q.2.1)] 0 p fun r=>
 aa l
 (Ld kI ((Addr.add ⟨e,0,none⟩ 3).add 0) r fun (s:Int)=>
 Ld kI (Addr.add ⟨o,0,none⟩ 0) r fun (t:Int)=>
 ak ⟨e,0,none⟩ [(ni 3),(ni 0),(ni 0),(ni s),(ni t),(.int .u32 0),(ni 0)] 0 r fun u=>
 Ld (.st aY) ⟨e,0,none⟩ u fun v=>
 ak ⟨g,0,none⟩ [(ni v.1),(ni v.2.1),(ni v.2.2.1),(ni v.2.2.2.1),(ni v.2.2.2.2.1),(.int .u32 v.2.2.2.2.2.1),(ni v.2.2.2.2.2.2.1)] 0 u fun x=>
 Ld (.st aY) ⟨g,0,none⟩ x fun y=>
 R y m x)
 (Ld (.st aY) ⟨e,0,none⟩ r fun z=>
 ak ⟨g,0,none⟩ [(ni z.1),(ni z.2.1),(ni z.2.2.1),(ni z.2.2.2.1),(ni z.2.2.2.2.1),(.int .u32 z.2.2.2.2.2.1),(ni z.2.2.2.2.2.2.1)] 0 r fun a1=>
 Ld (.st aY) ⟨g,0,none⟩ a1 fun b1=>
 R b1 m a1)):Cl Pg [(.st aY),kB] dp ⟨[(ni a),(.agg ⟨[(ni b.1),(ni b.2.1),(ni b.2.2.1),(ni b.2.2.2.1),(ni b.2.2.2.2.1),(.int .u32 b.2.2.2.2.2.1),(ni b.2.2.2.2.2.2.1)]⟩),(.int .u8 c)]⟩ w R:=co Tryz.f151 [] h
theorem FJ.ok (a:Int) (b:(TT aY)) (c:Int) (R:(TT aY)→Bool→World→Prop) w (h:
 Nw 74 ⟨[(ni b.1),(ni b.2.1),(ni b.2.2.1),(ni b.2.2.2.1),(ni b.2.2.2.2.1),(.int .u32 b.2.2.2.2.2.1),(ni b.2.2.2.2.2.2.1)]⟩ w fun e d=>
 Nw 74 ⟨[(ni 0),(ni 0),(ni 0),(ni 0),(ni 0),(.int .u32 0),(ni 0)]⟩ d fun g f=>
 Ld (az .u32) ((Addr.add ⟨e,0,none⟩ 3).add 2) f fun (h:Int)=>
 0≤(8:Int)∧
 St ((Addr.add ⟨e,0,none⟩ 3).add 2) (.int .u32 (kR .u32 (bq .u32 h (8:Int)) (u32 c))) f fun i=>
 Ld kI (Addr.add ⟨e,0,none⟩ 6) i fun (j:Int)=>
 St (Addr.add ⟨e,0,none⟩ 6) (ni (i64 (j+1))) i fun k=>
 Ld kI (Addr.add ⟨e,0,none⟩ 6) k fun (l:Int)=>
 aa (l==4)
 (Ld kI (Addr.add ⟨e,0,none⟩ 0) k fun (m:Int)=>
 St (Addr.add ⟨e,0,none⟩ 0) (ni (i64 (m+1))) k fun n=>
 Ld (.st aY) ⟨e,0,none⟩ n fun o=>
 ak ⟨g,0,none⟩ [(ni o.1),(ni o.2.1),(ni o.2.2.1),(ni o.2.2.2.1),(ni o.2.2.2.2.1),(.int .u32 o.2.2.2.2.2.1),(ni o.2.2.2.2.2.2.1)] 0 n fun p=>
 Ld (.st aY) ⟨g,0,none⟩ p fun q=>
 R q true p)
 (Ld (.st aY) ⟨e,0,none⟩ k fun r=>
 ak ⟨g,0,none⟩ [(ni r.1),(ni r.2.1),(ni r.2.2.1),(ni r.2.2.2.1),(ni r.2.2.2.2.1),(.int .u32 r.2.2.2.2.2.1),(ni r.2.2.2.2.2.2.1)] 0 k fun s=>
 Ld (.st aY) ⟨g,0,none⟩ s fun t=>
 R t true s)):Cl Pg [(.st aY),kB] cd ⟨[(ni a),(.agg ⟨[(ni b.1),(ni b.2.1),(ni b.2.2.1),(ni b.2.2.2.1),(ni b.2.2.2.2.1),(.int .u32 b.2.2.2.2.2.1),(ni b.2.2.2.2.2.2.1)]⟩),(.int .u8 c)]⟩ w R:=co Tryz.f152 [] h
theorem uS.ok (a:Int) (b:(TT aY)) (R:Bool→World→Prop) w (h:
 Nw 74 ⟨[(ni b.1),(ni b.2.1),(ni b.2.2.1),(ni b.2.2.2.1),(ni b.2.2.2.2.1),(.int .u32 b.2.2.2.2.2.1),(ni b.2.2.2.2.2.2.1)]⟩ w fun d c=>
 Ld (.st [.int .i64,.int .i64,.int .u32]) (Addr.add ⟨d,0,none⟩ 3) c fun e=>
 Nw 53 ⟨[(ni 0),(ni 0),(.int .u32 0)]⟩ c fun g f=>
 ak ⟨g,0,none⟩ [(ni e.1),(ni e.2.1),(.int .u32 e.2.2.1)] 0 f fun h=>
 bo (fun (q:Bool) (r:World)=>
 Cl Pg [kB] bT ⟨[(ni a),(ni 1),(ni 65536)]⟩ r fun (t:Bool) s=>
 aa (!t)
 (R false s)
 (Ld kI (Addr.add ⟨d,0,none⟩ 0) s fun (u:Int)=>
 aa (u==0)
 (Ld (.st aY) ⟨d,0,none⟩ s fun v=>
 R (((v.1:Int)==(0:Int))&&((((v.2.1:Int)==(0:Int))&&((v.2.2.1:Int)==(0:Int)))&&((((v.2.2.2.1:Int)==(0:Int))&&(((v.2.2.2.2.1:Int)==(0:Int))&&((v.2.2.2.2.2.1:Int)==(0:Int))))&&((v.2.2.2.2.2.2.1:Int)==(0:Int))))) s)
 (aa (u==1)
 (Ld (.st [.int .i64,.int .i64]) (Addr.add ⟨d,0,none⟩ 1) s fun x=>
 Cl Pg [kB] iH ⟨[(.agg ⟨[(ni x.1),(ni x.2.1)]⟩),(ni a)]⟩ s fun (z:Bool) y=>
 aa z
 (Ld (.st aY) ⟨d,0,none⟩ y fun a1=>
 Ld (.st [.int .i64,.int .i64]) (Addr.add ⟨d,0,none⟩ 1) y fun b1=>
 R (((a1.1:Int)==(1:Int))&&((((a1.2.1:Int)==(b1.1:Int))&&((a1.2.2.1:Int)==(b1.2.1:Int)))&&((((a1.2.2.2.1:Int)==(0:Int))&&(((a1.2.2.2.2.1:Int)==(0:Int))&&((a1.2.2.2.2.2.1:Int)==(0:Int))))&&((a1.2.2.2.2.2.2.1:Int)==(0:Int))))) y)
 (R false y))
 (aa (u==2)
 (Ld kI (Addr.add ⟨g,0,none⟩ 0) s fun (c1:Int)=>
 Cl Pg [kB] bT ⟨[(ni c1),(ni 1),(ni a)]⟩ s fun (e1:Bool) d1=>
 aa e1
 (Ld (.st [.int .i64,.int .i64]) (Addr.add ⟨d,0,none⟩ 1) d1 fun f1=>
 Ld kI (Addr.add ⟨g,0,none⟩ 0) d1 fun (g1:Int)=>
 Cl Pg [kB] iH ⟨[(.agg ⟨[(ni f1.1),(ni f1.2.1)]⟩),(ni g1)]⟩ d1 fun (i1:Bool) h1=>
 aa i1
 (Ld (.st aY) ⟨d,0,none⟩ h1 fun j1=>
 Ld (.st [.int .i64,.int .i64]) (Addr.add ⟨d,0,none⟩ 1) h1 fun k1=>
 Ld kI (Addr.add ⟨g,0,none⟩ 0) h1 fun (l1:Int)=>
 R (((j1.1:Int)==(2:Int))&&((((j1.2.1:Int)==(k1.1:Int))&&((j1.2.2.1:Int)==(k1.2.1:Int)))&&((((j1.2.2.2.1:Int)==l1)&&(((j1.2.2.2.2.1:Int)==(0:Int))&&((j1.2.2.2.2.2.1:Int)==(0:Int))))&&((j1.2.2.2.2.2.2.1:Int)==(0:Int))))) h1)
 (R false h1))
 (R false d1))
 (aa (u==3)
 (aa q
 (Ld (az .u32) (Addr.add ⟨g,0,none⟩ 2) s fun (m1:Int)=>
 Ld kI (Addr.add ⟨d,0,none⟩ 6) s fun (n1:Int)=>
 Cl Pg [kB] jQ ⟨[(.int .u32 m1),(ni n1)]⟩ s fun (p1:Bool) o1=>
 aa p1
 (Ld (.st [.int .i64,.int .i64]) (Addr.add ⟨d,0,none⟩ 1) o1 fun q1=>
 R (((q1.1:Int)==(0:Int))&&((q1.2.1:Int)==(0:Int))) o1)
 (R false o1))
 (R false s))
 (aa (u==4)
 (aa q
 (Ld (.st aY) ⟨d,0,none⟩ s fun r1=>
 Ld (.st [.int .i64,.int .i64,.int .u32]) ⟨g,0,none⟩ s fun s1=>
 R (((r1.1:Int)==(4:Int))&&((((r1.2.1:Int)==(0:Int))&&((r1.2.2.1:Int)==(0:Int)))&&((((r1.2.2.2.1:Int)==(s1.1:Int))&&(((r1.2.2.2.2.1:Int)==(s1.2.1:Int))&&((r1.2.2.2.2.2.1:Int)==(s1.2.2.1:Int))))&&((r1.2.2.2.2.2.2.1:Int)==(4:Int))))) s)
 (R false s))
 (aa (u==5)
 (Ld (az .u32) (Addr.add ⟨g,0,none⟩ 2) s fun (t1:Int)=>
 Ld kI (Addr.add ⟨d,0,none⟩ 6) s fun (u1:Int)=>
 Cl Pg [kB] jQ ⟨[(.int .u32 t1),(ni u1)]⟩ s fun (x1:Bool) v1=>
 aa x1
 (Ld (.st aY) ⟨d,0,none⟩ v1 fun y1=>
 Ld (az .u32) (Addr.add ⟨g,0,none⟩ 2) v1 fun (z1:Int)=>
 Ld kI (Addr.add ⟨d,0,none⟩ 6) v1 fun (a2:Int)=>
 R (((y1.1:Int)==(5:Int))&&((((y1.2.1:Int)==(0:Int))&&((y1.2.2.1:Int)==(0:Int)))&&((((y1.2.2.2.1:Int)==(0:Int))&&(((y1.2.2.2.2.1:Int)==(0:Int))&&((y1.2.2.2.2.2.1:Int)==z1)))&&((y1.2.2.2.2.2.2.1:Int)==a2)))) v1)
 (R false v1))
 (aa (u==6)
 (Ld (.st aY) ⟨d,0,none⟩ s fun b2=>
 Ld (az .u32) (Addr.add ⟨g,0,none⟩ 2) s fun (c2:Int)=>
 R (((b2.1:Int)==(6:Int))&&((((b2.2.1:Int)==(0:Int))&&((b2.2.2.1:Int)==(0:Int)))&&((((b2.2.2.2.1:Int)==(0:Int))&&(((b2.2.2.2.2.1:Int)==(0:Int))&&((b2.2.2.2.2.2.1:Int)==c2)))&&((b2.2.2.2.2.2.2.1:Int)==(4:Int))))) s)
 (R false s))))))))) fun i=>
 Ld kI (Addr.add ⟨g,0,none⟩ 0) h fun (j:Int)=>
 Cl Pg [kB] bT ⟨[(ni j),(ni 1),(ni a)]⟩ h fun (l:Bool) k=>
 aa l
 (Ld kI (Addr.add ⟨g,0,none⟩ 1) k fun (m:Int)=>
 Ld kI (Addr.add ⟨g,0,none⟩ 0) k fun (n:Int)=>
 Cl Pg [kB] bT ⟨[(ni m),(ni 1),(ni n)]⟩ k fun (p:Bool) o=>
 i p o)
 (i false k)):Cl Pg [kB] hC ⟨[(ni a),(.agg ⟨[(ni b.1),(ni b.2.1),(ni b.2.2.1),(ni b.2.2.2.1),(ni b.2.2.2.2.1),(.int .u32 b.2.2.2.2.2.1),(ni b.2.2.2.2.2.2.1)]⟩)]⟩ w R:=co Tryz.f153 [(4,[(6,kB)])] h
theorem Co.ok (a:(TT [.int .i64,.int .i64])) (b:Int) (c:Int) (R:(TT [.int .i64,.int .i64])→Bool→Bool→World→Prop) w (h:
 Nw 72 ⟨[(ni a.1),(ni a.2.1)]⟩ w fun e d=>
 Nw 72 ⟨[(ni 0),(ni 0)]⟩ d fun g f=>
 Ld (.st [.int .i64,.int .i64]) ⟨e,0,none⟩ f fun h=>
 Cl Pg [(.st [.int .i64,.int .i64]),kB,kI] mI ⟨[(.agg ⟨[(ni h.1),(ni h.2.1)]⟩),(.int .u8 b)]⟩ f fun j (k:Bool) (l:Int) i=>
 ak ⟨g,0,none⟩ [(ni j.1),(ni j.2.1)] 0 i fun m=>
 Ld (.st [.int .i64,.int .i64]) ⟨g,0,none⟩ m fun n=>
 aa (l==0)
 (Ld kI (Addr.add ⟨g,0,none⟩ 0) m fun (o:Int)=>
 aa (decide (o≤c))
 (aa (!k)
 (ak ⟨g,0,none⟩ [(ni n.1),(ni n.2.1)] 0 m fun p=>
 Ld (.st [.int .i64,.int .i64]) ⟨g,0,none⟩ p fun q=>
 R q k true p)
 (Ld kI (Addr.add ⟨g,0,none⟩ 0) m fun (r:Int)=>
 ak ⟨g,0,none⟩ [(ni n.1),(ni n.2.1)] 0 m fun s=>
 Ld (.st [.int .i64,.int .i64]) ⟨g,0,none⟩ s fun t=>
 R t k (decide (r>0)) s))
 (ak ⟨g,0,none⟩ [(ni n.1),(ni n.2.1)] 0 m fun u=>
 Ld (.st [.int .i64,.int .i64]) ⟨g,0,none⟩ u fun v=>
 R v k false u))
 (ak ⟨g,0,none⟩ [(ni n.1),(ni n.2.1)] 0 m fun x=>
 Ld (.st [.int .i64,.int .i64]) ⟨g,0,none⟩ x fun y=>
 R y k false x)):Cl Pg [(.st [.int .i64,.int .i64]),kB,kB] jN ⟨[(.agg ⟨[(ni a.1),(ni a.2.1)]⟩),(.int .u8 b),(ni c)]⟩ w R:=co Tryz.f170 [] h
theorem BH.ok (a:(TT [.int .i64,.int .i64])) (b:Int) (R:Bool→World→Prop) w (h:
 Nw 72 ⟨[(ni a.1),(ni a.2.1)]⟩ w fun d c=>
 Ld (.st [.int .i64,.int .i64]) ⟨d,0,none⟩ c fun e=>
 Cl Pg [kB] iE ⟨[(.agg ⟨[(ni e.1),(ni e.2.1)]⟩)]⟩ c fun (g:Bool) f=>
 aa g
 (Ld kI (Addr.add ⟨d,0,none⟩ 0) f fun (h:Int)=>
 R (decide (h≤b)) f)
 (R false f)):Cl Pg [kB] iH ⟨[(.agg ⟨[(ni a.1),(ni a.2.1)]⟩),(ni b)]⟩ w R:=co Tryz.f190 [] h
theorem Cz.ok (a:Int) (b:Int) (R:Bool→World→Prop) w (h:
 Cl Pg [kB] bT ⟨[(ni b),(ni 0),(ni 3)]⟩ w fun (d:Bool) c=>
 aa d
 (0≤(i64 ((8:Int)*b))∧
 R ((aK .u64 (u64 a) (i64 ((8:Int)*b)))==0) c)
 (R false c)):Cl Pg [kB] jQ ⟨[(.int .u32 a),(ni b)]⟩ w R:=co Tryz.f191 [] h
end Go.Proofs.YtcdpblipagajiaaGreat
namespace Go.Proofs.YtcdpblipagajiaaGreat
open Go Go.Vc
set_option maxRecDepth 100000
theorem FF.ok (a:Int) (R:Sl→Int→World→Prop) w (h:
 aa (decide (a<0))
 (R (⟨none,0,0⟩:Sl) 2 w)
 (aa (decide (a>2147483647))
 (R (⟨none,0,0⟩:Sl) 2 w)
 (Nw 5 ⟨[(.int .u8 (u8 (bC .i64 a 127)))]⟩ w fun c b=>
 ay Pg (Builtin.append_ #[22,22] 22 ⟨[(.slice none 0 0),(ah (⟨some ⟨c,0,none⟩,1,1⟩:Sl))]⟩) kS b fun (e:Sl) d=>
 0≤(7:Int)∧
 bE (aK .i64 a (7:Int)) e d fun f g (h:Int) (i:Sl) j=>
 aa (decide (h>0))
 (Nw 5 ⟨[(.int .u8 (kR .u8 (u8 (bC .i64 h 127)) 128))]⟩ j fun l k=>
 ay Pg (Builtin.append_ #[22,22] 22 ⟨[(ah i),(ah (⟨some ⟨l,0,none⟩,1,1⟩:Sl))]⟩) kS k fun (n:Sl) m=>
 0≤(7:Int)∧
 f (aK .i64 h (7:Int)) n m∧g (aK .i64 h (7:Int)) n m<g h i j)
 (Cl Pg [] cO ⟨[(ah i)]⟩ j fun o=>
 R i 0 o)))):Cl Pg [kS,kI] nZ ⟨[(ni a)]⟩ w R:=co Tryz.f130 [(12,[(0,kI),(2,kS)])] h
theorem Dc.ok (a:(TT [.int .i64,.int .i64])) (b:Int) (R:(TT [.int .i64,.int .i64])→Bool→Int→World→Prop) w (h:
 Nw 72 ⟨[(ni a.1),(ni a.2.1)]⟩ w fun d c=>
 Nw 72 ⟨[(ni 0),(ni 0)]⟩ c fun f e=>
 Ld kI (Addr.add ⟨d,0,none⟩ 0) e fun (g:Int)=>
 0≤(7:Int)∧
 bo (fun (h1:World)=>
 Ld kI (Addr.add ⟨d,0,none⟩ 1) h1 fun (i1:Int)=>
 ak ⟨f,0,none⟩ [(ni (kR .i64 (bq .i64 g (7:Int)) (i64 (bC .u8 b 127)))),(ni (i64 (i1+1)))] 0 h1 fun j1=>
 Ld (.st [.int .i64,.int .i64]) ⟨f,0,none⟩ j1 fun k1=>
 R k1 (decide (b<128)) 0 j1) fun h=>
 Ld (.st [.int .i64,.int .i64]) ⟨d,0,none⟩ e fun i=>
 Cl Pg [kB] iE ⟨[(.agg ⟨[(ni i.1),(ni i.2.1)]⟩)]⟩ e fun (k:Bool) j=>
 aa (!k)
 (Ld (.st [.int .i64,.int .i64]) ⟨f,0,none⟩ j fun l=>
 ak ⟨f,0,none⟩ [(ni l.1),(ni l.2.1)] 0 j fun m=>
 Ld (.st [.int .i64,.int .i64]) ⟨f,0,none⟩ m fun n=>
 R n false 2 m)
 (aa (b==128)
 (Ld kI (Addr.add ⟨d,0,none⟩ 1) j fun (o:Int)=>
 aa (o==0)
 (Ld (.st [.int .i64,.int .i64]) ⟨f,0,none⟩ j fun p=>
 ak ⟨f,0,none⟩ [(ni p.1),(ni p.2.1)] 0 j fun q=>
 Ld (.st [.int .i64,.int .i64]) ⟨f,0,none⟩ q fun r=>
 R r false 51 q)
 (aa (decide ((kR .i64 (bq .i64 g (7:Int)) (i64 (bC .u8 b 127)))>2147483647))
 (Ld (.st [.int .i64,.int .i64]) ⟨f,0,none⟩ j fun s=>
 ak ⟨f,0,none⟩ [(ni s.1),(ni s.2.1)] 0 j fun t=>
 Ld (.st [.int .i64,.int .i64]) ⟨f,0,none⟩ t fun u=>
 R u false 52 t)
 (Ld kI (Addr.add ⟨d,0,none⟩ 1) j fun (v:Int)=>
 aa (v==4)
 (aa (decide (b≥128))
 (Ld (.st [.int .i64,.int .i64]) ⟨f,0,none⟩ j fun x=>
 ak ⟨f,0,none⟩ [(ni x.1),(ni x.2.1)] 0 j fun y=>
 Ld (.st [.int .i64,.int .i64]) ⟨f,0,none⟩ y fun z=>
 R z false 52 y)
 (h j))
 (h j))))
 (aa (decide ((kR .i64 (bq .i64 g (7:Int)) (i64 (bC .u8 b 127)))>2147483647))
 (Ld (.st [.int .i64,.int .i64]) ⟨f,0,none⟩ j fun a1=>
 ak ⟨f,0,none⟩ [(ni a1.1),(ni a1.2.1)] 0 j fun b1=>
 Ld (.st [.int .i64,.int .i64]) ⟨f,0,none⟩ b1 fun c1=>
 R c1 false 52 b1)
 (Ld kI (Addr.add ⟨d,0,none⟩ 1) j fun (d1:Int)=>
 aa (d1==4)
 (aa (decide (b≥128))
 (Ld (.st [.int .i64,.int .i64]) ⟨f,0,none⟩ j fun e1=>
 ak ⟨f,0,none⟩ [(ni e1.1),(ni e1.2.1)] 0 j fun f1=>
 Ld (.st [.int .i64,.int .i64]) ⟨f,0,none⟩ f1 fun g1=>
 R g1 false 52 f1)
 (h j))
 (h j))))):Cl Pg [(.st [.int .i64,.int .i64]),kB,kI] mI ⟨[(.agg ⟨[(ni a.1),(ni a.2.1)]⟩),(.int .u8 b)]⟩ w R:=co Tryz.f196 [(4,[])] h
theorem BJ.ok (a:(TT [.int .i64,.int .i64])) (R:Bool→World→Prop) w (h:
 Nw 72 ⟨[(ni a.1),(ni a.2.1)]⟩ w fun c b=>
 Ld kI (Addr.add ⟨c,0,none⟩ 1) b fun (d:Int)=>
 aa (decide (d<1))
 (Ld (.st [.int .i64,.int .i64]) ⟨c,0,none⟩ b fun e=>
 R (((e.1:Int)==(0:Int))&&((e.2.1:Int)==(0:Int))) b)
 (Ld kI (Addr.add ⟨c,0,none⟩ 1) b fun (f:Int)=>
 aa (decide (f>4))
 (Ld (.st [.int .i64,.int .i64]) ⟨c,0,none⟩ b fun g=>
 R (((g.1:Int)==(0:Int))&&((g.2.1:Int)==(0:Int))) b)
 (au b fun h=>
 Ld kI (Addr.add ⟨c,0,none⟩ 0) h fun (i:Int)=>
 Ld kI (Addr.add ⟨c,0,none⟩ 1) h fun (j:Int)=>
 0≤(i64 ((7:Int)*(i64 (j - 1))))∧
 aa (decide (i≥(bq .i64 (1:Int) (i64 ((7:Int)*(i64 (j - 1)))))))
 (Ld kI (Addr.add ⟨c,0,none⟩ 0) h fun (k:Int)=>
 Ld kI (Addr.add ⟨c,0,none⟩ 1) h fun (l:Int)=>
 0≤(i64 ((7:Int)*l))∧
 R (decide (k<(bq .i64 (1:Int) (i64 ((7:Int)*l))))) h)
 (R false h)))):Cl Pg [kB] iE ⟨[(.agg ⟨[(ni a.1),(ni a.2.1)]⟩)]⟩ w R:=co Tryz.f206 [] h
end Go.Proofs.YtcdpblipagajiaaGreat
set_option maxRecDepth 20000
namespace Go.Srt
def vm (v:Nat):Nat:=if v=0 then 0 else if v<128 then 1 else if v<16384 then 2 else if v<2097152 then 3 else 4
theorem Dy {v c:Nat} (hv:v≤65536) (hc:128≤c) (hc2:c<256) (h0: ¬(v=0∧c=128)):vm v+1=vm (128*v+c % 128):=by
 unfold vm
 repeat' split
 all_goals omega
theorem vd {v:Nat} (hv:v≤65536):(v=0∧vm v=0)∨(1≤v∧v<128∧vm v=1)∨(128≤v∧v<16384∧vm v=2)∨(16384≤v∧v<2097152∧vm v=3):=by
 unfold vm
 repeat' split
 all_goals omega
theorem JZ {v:Nat} (hv:v≤65536):vm v≤3∧(vm v=0↔v=0):=by
 have:=vd hv
 omega
end Go.Srt
namespace Go.Vc
theorem Nn {v c:Nat} (hv:v≤65536) (hc:c<256):kR .i64 (bq .i64 (v:Int) 7) (i64 (bC .u8 (c:Int) 127))=((128*v+c % 128:Nat):Int):=by
 have hmx:IntKind.max .i64=9223372036854775807:=rfl
 have hm8:IntKind.max .u8=255:=rfl
 have e1:bq .i64 (v:Int) 7=((v*128:Nat):Int):=by
  have:=dX (k:= .i64) (a:=v) (b:=7) (by decide) (by rw [hmx];omega)
  simpa using this
 have e2:bC .u8 (c:Int) 127=((c % 128:Nat):Int):=by
  have:=eB (k:= .u8) (a:=c) (b:=127) (by rw [hm8];omega) (by rw [hm8];omega)
  rw [show c&&&127=c % 128 from Nat.and_two_pow_sub_one_eq_mod c 7] at this
  simpa using this
 have e3:v*128|||c % 128=128*v+c % 128:=by
  rw [Nat.mul_comm v 128]
  exact (Nat.two_pow_add_eq_or_of_lt (i:=7) (by omega) v).symm
 rw [e1,e2,ad (by omega),qy (by rw [hmx];omega) (by rw [hmx];omega) (by rw [e3,hmx];omega),e3]
end Go.Vc
namespace Go.Proofs.YtcdpblipagajiaaGreat
open Go Go.Vc Go.Srt
section
variable {E w:World} {F:List HP}
theorem Au {v:Nat} {K:Bool→World→Prop} (h:Hp E w F) (hv:v≤65536) (hK: ∀w',Hp E w' F→K true w'):
  Cl Tryz.prog [kB] iE ⟨[.agg ⟨[.int .i64 (v:Int),.int .i64 (vm v:Int)]⟩]⟩ w K:=by
 refine BJ.ok ((v:Int),(vm v:Int),()) _ _ ?_
 (try simp only [aD,aw,ar,Nat.zero_add,Nat.add_zero,Nat.reduceAdd,Bool.not_true,Bool.not_false,aZ,aX,Option.isNone])
 (with_reducible repeat first|refine Nw.mk h fun b w h=> ?_|refine au.mk h fun w h=> ?_|refine Ld.xb h rfl ?_|refine Ld.xt h rfl ?_|refine ae.xb (fun _ h=>h) rfl ?_|refine ae.xt (fun _ h=>h) rfl ?_|refine ⟨h.hb,?_⟩|refine ak.xw h rfl rfl fun w h=> ?_|(refine ak.xs h rfl rfl fun w h=> ?_;dsimp only [ao,af] at h)|(refine St.xs h rfl rfl fun w h=> ?_;dsimp only [ao,af] at h)|refine aa.yes ?_|refine aa.no ?_|refine ⟨by first|omega|decide,?_⟩)
 rcases vd hv with ⟨h1,h2⟩|⟨h0,h1,h2⟩|⟨h0,h1,h2⟩|⟨h0,h1,h2⟩
 all_goals rw [h2] at h⊢
 ·subst h1
  (with_reducible repeat first|refine Nw.mk h fun b w h=> ?_|refine au.mk h fun w h=> ?_|refine Ld.xb h rfl ?_|refine Ld.xt h rfl ?_|refine ae.xb (fun _ h=>h) rfl ?_|refine ae.xt (fun _ h=>h) rfl ?_|refine ⟨h.hb,?_⟩|refine ak.xw h rfl rfl fun w h=> ?_|(refine ak.xs h rfl rfl fun w h=> ?_;dsimp only [ao,af] at h)|(refine St.xs h rfl rfl fun w h=> ?_;dsimp only [ao,af] at h)|refine aa.yes ?_|refine aa.no ?_|refine ⟨by first|omega|decide,?_⟩)
  exact hK _ h.tl
 all_goals
  (with_reducible repeat first|refine Nw.mk h fun b w h=> ?_|refine au.mk h fun w h=> ?_|refine Ld.xb h rfl ?_|refine Ld.xt h rfl ?_|refine ae.xb (fun _ h=>h) rfl ?_|refine ae.xt (fun _ h=>h) rfl ?_|refine ⟨h.hb,?_⟩|refine ak.xw h rfl rfl fun w h=> ?_|(refine ak.xs h rfl rfl fun w h=> ?_;dsimp only [ao,af] at h)|(refine St.xs h rfl rfl fun w h=> ?_;dsimp only [ao,af] at h)|refine aa.yes ?_|refine aa.no ?_|refine ⟨by first|omega|decide,?_⟩)
  refine aa.dt ?_ ?_
  ·first
   |rw [show bq .i64 1 (i64 (7*i64 (((1:Nat):Int) - 1)))=1 by decide];omega
   |rw [show bq .i64 1 (i64 (7*i64 (((2:Nat):Int) - 1)))=128 by decide];omega
   |rw [show bq .i64 1 (i64 (7*i64 (((3:Nat):Int) - 1)))=16384 by decide];omega
  (with_reducible repeat first|refine Nw.mk h fun b w h=> ?_|refine au.mk h fun w h=> ?_|refine Ld.xb h rfl ?_|refine Ld.xt h rfl ?_|refine ae.xb (fun _ h=>h) rfl ?_|refine ae.xt (fun _ h=>h) rfl ?_|refine ⟨h.hb,?_⟩|refine ak.xw h rfl rfl fun w h=> ?_|(refine ak.xs h rfl rfl fun w h=> ?_;dsimp only [ao,af] at h)|(refine St.xs h rfl rfl fun w h=> ?_;dsimp only [ao,af] at h)|refine aa.yes ?_|refine aa.no ?_|refine ⟨by first|omega|decide,?_⟩)
  refine iX ?_ (hK _ h.tl)
  refine decide_eq_true ?_
  first
   |rw [show bq .i64 1 (i64 (7*((1:Nat):Int)))=128 by decide];omega
   |rw [show bq .i64 1 (i64 (7*((2:Nat):Int)))=16384 by decide];omega
   |rw [show bq .i64 1 (i64 (7*((3:Nat):Int)))=2097152 by decide];omega
theorem K1 {v c:Nat} {K:Int×Int×Unit→Bool→Int→World→Prop} (h:Hp E w F) (hv:v≤65536) (hc:c<256)
  (hbad:v=0∧c=128→∀w',Hp E w' F→K (0,0,()) false 51 w')
  (hK: ¬(v=0∧c=128)→∀w',Hp E w' F→K (((128*v+c % 128:Nat):Int),((vm v+1:Nat):Int),()) (decide (c<128)) 0 w'):
  Cl Tryz.prog [.st [.int .i64,.int .i64],kB,kI] mI ⟨[.agg ⟨[.int .i64 (v:Int),.int .i64 (vm v:Int)]⟩,.int .u8 (c:Int)]⟩ w K:=by
 refine Dc.ok ((v:Int),(vm v:Int),()) _ _ _ ?_
 (try simp only [aD,aw,ar,Nat.zero_add,Nat.add_zero,Nat.reduceAdd,Bool.not_true,Bool.not_false,aZ,aX,Option.isNone])
 (with_reducible repeat first|refine Nw.mk h fun b w h=> ?_|refine au.mk h fun w h=> ?_|refine Ld.xb h rfl ?_|refine Ld.xt h rfl ?_|refine ae.xb (fun _ h=>h) rfl ?_|refine ae.xt (fun _ h=>h) rfl ?_|refine ⟨h.hb,?_⟩|refine ak.xw h rfl rfl fun w h=> ?_|(refine ak.xs h rfl rfl fun w h=> ?_;dsimp only [ao,af] at h)|(refine St.xs h rfl rfl fun w h=> ?_;dsimp only [ao,af] at h)|refine aa.yes ?_|refine aa.no ?_|refine ⟨by first|omega|decide,?_⟩)
 refine Au h hv fun w h=> ?_
 (try simp only [aD,aw,ar,Nat.zero_add,Nat.add_zero,Nat.reduceAdd,Bool.not_true,Bool.not_false,aZ,aX,Option.isNone])
 rw [Nn hv hc]
 have hvm:=JZ hv
 have fin: ∀w,¬(v=0∧c=128)→Hp E w F→K (((128*v+c % 128:Nat):Int),i64 ((vm v:Int)+1),()) (decide ((c:Int)<128)) 0 w:=fun w hn h=>by
  have:=hK hn w h
  rw [ad (by omega)]
  rw [show ((vm v+1:Nat):Int)=(vm v:Int)+1 from rfl] at this
  rwa [show decide ((c:Int)<128)=decide (c<128) from decide_eq_decide.2 (by omega)]
 (first|refine aa.dm (fun hb=> ?_) (fun hb=> ?_)|refine aa.em (fun hb=> ?_) (fun hb=> ?_)|refine aa.nm (fun hb=> ?_) (fun hb=> ?_)|refine aa.mk (fun hb=> ?_) (fun hb=> ?_))
 ·(with_reducible repeat first|refine Nw.mk h fun b w h=> ?_|refine au.mk h fun w h=> ?_|refine Ld.xb h rfl ?_|refine Ld.xt h rfl ?_|refine ae.xb (fun _ h=>h) rfl ?_|refine ae.xt (fun _ h=>h) rfl ?_|refine ⟨h.hb,?_⟩|refine ak.xw h rfl rfl fun w h=> ?_|(refine ak.xs h rfl rfl fun w h=> ?_;dsimp only [ao,af] at h)|(refine St.xs h rfl rfl fun w h=> ?_;dsimp only [ao,af] at h)|refine aa.yes ?_|refine aa.no ?_|refine ⟨by first|omega|decide,?_⟩)
  (first|refine aa.dm (fun hb=> ?_) (fun hb=> ?_)|refine aa.em (fun hb=> ?_) (fun hb=> ?_)|refine aa.nm (fun hb=> ?_) (fun hb=> ?_)|refine aa.mk (fun hb=> ?_) (fun hb=> ?_))
  ·(with_reducible repeat first|refine Nw.mk h fun b w h=> ?_|refine au.mk h fun w h=> ?_|refine Ld.xb h rfl ?_|refine Ld.xt h rfl ?_|refine ae.xb (fun _ h=>h) rfl ?_|refine ae.xt (fun _ h=>h) rfl ?_|refine ⟨h.hb,?_⟩|refine ak.xw h rfl rfl fun w h=> ?_|(refine ak.xs h rfl rfl fun w h=> ?_;dsimp only [ao,af] at h)|(refine St.xs h rfl rfl fun w h=> ?_;dsimp only [ao,af] at h)|refine aa.yes ?_|refine aa.no ?_|refine ⟨by first|omega|decide,?_⟩)
   exact hbad (by omega) _ h.tl
  ·(with_reducible repeat first|refine Nw.mk h fun b w h=> ?_|refine au.mk h fun w h=> ?_|refine Ld.xb h rfl ?_|refine Ld.xt h rfl ?_|refine ae.xb (fun _ h=>h) rfl ?_|refine ae.xt (fun _ h=>h) rfl ?_|refine ⟨h.hb,?_⟩|refine ak.xw h rfl rfl fun w h=> ?_|(refine ak.xs h rfl rfl fun w h=> ?_;dsimp only [ao,af] at h)|(refine St.xs h rfl rfl fun w h=> ?_;dsimp only [ao,af] at h)|refine aa.yes ?_|refine aa.no ?_|refine ⟨by first|omega|decide,?_⟩)
   exact fin _ (by omega) h.tl
 ·(with_reducible repeat first|refine Nw.mk h fun b w h=> ?_|refine au.mk h fun w h=> ?_|refine Ld.xb h rfl ?_|refine Ld.xt h rfl ?_|refine ae.xb (fun _ h=>h) rfl ?_|refine ae.xt (fun _ h=>h) rfl ?_|refine ⟨h.hb,?_⟩|refine ak.xw h rfl rfl fun w h=> ?_|(refine ak.xs h rfl rfl fun w h=> ?_;dsimp only [ao,af] at h)|(refine St.xs h rfl rfl fun w h=> ?_;dsimp only [ao,af] at h)|refine aa.yes ?_|refine aa.no ?_|refine ⟨by first|omega|decide,?_⟩)
  exact fin _ (by omega) h.tl
end
end Go.Proofs.YtcdpblipagajiaaGreat
set_option maxRecDepth 20000
namespace Go.Vc
theorem Nh {v c:Nat} (hv:v<16777216) (hc:c<256):kR .u32 (bq .u32 (v:Int) 8) (u32 (c:Int))=((256*v+c:Nat):Int):=by
 have hmx:IntKind.max .u32=4294967295:=rfl
 have e1:bq .u32 (v:Int) 8=((v*256:Nat):Int):=by
  have:=dX (k:= .u32) (a:=v) (b:=8) (by decide) (by rw [hmx];omega)
  simpa using this
 have e3:v*256|||c=256*v+c:=by
  rw [Nat.mul_comm v 256]
  exact (Nat.two_pow_add_eq_or_of_lt (i:=8) (by omega) v).symm
 rw [e1,cW (by omega),qy (by rw [hmx];omega) (by rw [hmx];omega) (by rw [e3,hmx];omega),e3]
end Go.Vc
namespace Go.Hd
open Go.Inc Go.Srt
def j0 (n:Nat) (m:MS):Prop:=
 (m.at_=0∧m=iB)∨(m.at_=1∧m.v≤n∧m.M=0∧m.P=0∧m.sum=0∧m.many=0)∨(m.at_=2∧1≤m.M∧m.M≤n∧m.v≤m.M∧m.P=0∧m.sum=0∧m.many=0)∨
 (m.at_=3∧1≤m.M∧m.M≤n∧1≤m.P∧m.P≤m.M∧m.v=0∧m.many≤3∧m.sum<256^m.many)∨
 (m.at_=5∧m.M=0∧m.P=0∧m.v=0∧m.many≤3∧m.sum<256^m.many)
theorem uV {n:Nat} {s s':MS} {c:Nat} (h:j0 n s) (hc:c<256) (he:aL n s c= .more s'):j0 n s':=by
 obtain ⟨at_,v,M,P,sum,many⟩:=s
 unfold j0 at h
 unfold aL at he
 dsimp only at h he
 split at he
 ·split at he
  ·cases he
   right;right;right;right;simp
  ·split at he
   ·cases he
    right;left;simp
   ·cases he
 ·split at he
  ·split at he
   ·cases he
   ·rename_i m hg
    have:=lB hc hg
    cases he
    right;right;left;simp;omega
   ·rename_i m hg
    have:=lB hc hg
    cases he
    right;left;simp;omega
  ·split at he
   ·split at he
    ·cases he
    ·rename_i m hg
     have:=lB hc hg
     cases he
     right;right;right;left;simp;omega
    ·rename_i m hg
     have:=lB hc hg
     cases he
     right;right;left;simp;omega
   ·split at he
    ·split at he<;>cases he
    ·cases he
     rename_i h3
     rcases h with ⟨h,_⟩|⟨h,_⟩|⟨h,_⟩|⟨h,h1⟩|⟨h,h1⟩
     ·omega
     ·omega
     ·omega
     ·right;right;right;left
      simp only
      have:256*sum+c<256^(many+1):=by rw [Nat.pow_succ];omega
      refine ⟨h,?_⟩
      omega
     ·right;right;right;right
      simp only
      have:256*sum+c<256^(many+1):=by rw [Nat.pow_succ];omega
      refine ⟨h,?_⟩
      omega
theorem HL {n:Nat} {s:MS} {c:Nat} {M P u:Nat} (h:j0 n s) (he:aL n s c= .fin (.aF M P u)):1≤M∧M≤n∧1≤P∧P≤M:=by
 obtain ⟨at_,v,M',P',sum,many⟩:=s
 unfold j0 at h
 unfold aL at he
 dsimp only at h he
 split at he
 ·split at he
  ·cases he
  ·split at he<;>cases he
 ·split at he
  ·split at he<;>cases he
  ·split at he
   ·split at he<;>cases he
   ·split at he
    ·split at he
     ·cases he
      omega
     ·cases he
    ·cases he
end Go.Hd
namespace Go.Proofs.YtcdpblipagajiaaGreat
open Go Go.Vc Go.Srt Go.Inc Go.Hd
abbrev T2:=Int×Int×Unit
abbrev JL (s:HS):Int×Int×Int×Int×Unit:=((s.at_:Int),(s.v:Int),(vm s.v:Int),0,())
abbrev Ms (m:MS):Int×Int×Int×Int×Int×Int×Int×Unit:=((m.at_:Int),(m.v:Int),(vm m.v:Int),(m.M:Int),(m.P:Int),(m.sum:Int),(m.many:Int),())
section
variable {E w:World} {F:List HP}
theorem MQ:Tryz.prog.underlying 3=some (.int .i64):=by kernel_rfl
theorem nD:pv Tryz.prog (α:=Int) 3 (fun n=>Value.int .i64 n) where
 und:=⟨_,MQ,fun a b=> .inr rfl⟩
 check:=fun e a w=>by
  have: ∀(e:Bool) (c:Int) (w:World),(Instr.checkKey e 10000 3 (.int .i64 c)).run Tryz.prog w= .ok () w:=fun e c w=>by kernel_rfl
  exact this e a w
 eq:=fun a b w=>by
  exact (run_equalIn_int w 9999 _ _ _ _ _ MQ).trans (by rw [show (a==b)=decide (a=b) from rfl])
 same:=fun a=>by simp [Instr.sameBits]
theorem c7 {a b c:Int} {K:Bool→World→Prop} (hK:K (decide (b≤a∧a≤c)) w):Cl Tryz.prog [kB] bT ⟨[.int .i64 a,.int .i64 b,.int .i64 c]⟩ w K:=by
 refine zi.ok _ _ _ _ _ ?_
 (first|refine aa.dm (fun hb=> ?_) (fun hb=> ?_)|refine aa.em (fun hb=> ?_) (fun hb=> ?_)|refine aa.nm (fun hb=> ?_) (fun hb=> ?_)|refine aa.mk (fun hb=> ?_) (fun hb=> ?_))
 ·refine iX (decide_eq_decide.2 ?_) hK
  omega
 ·refine iX (decide_eq_false ?_).symm hK
  omega
theorem D8 {v:Nat} {most:Int} {K:Bool→World→Prop} (h:Hp E w F) (hv:v≤65536) (hm:(v:Int)≤most) (hK: ∀w',Hp E w' F→K true w'):
  Cl Tryz.prog [kB] iH ⟨[.agg ⟨[.int .i64 (v:Int),.int .i64 (vm v:Int)]⟩,.int .i64 most]⟩ w K:=by
 refine BH.ok ((v:Int),(vm v:Int),()) _ _ _ ?_
 (try simp only [aD,aw,ar,Nat.zero_add,Nat.add_zero,Nat.reduceAdd,Bool.not_true,Bool.not_false,aZ,aX,Option.isNone])
 (with_reducible repeat first|refine Nw.mk h fun b w h=> ?_|refine au.mk h fun w h=> ?_|refine Ld.xb h rfl ?_|refine Ld.xt h rfl ?_|refine ae.xb (fun _ h=>h) rfl ?_|refine ae.xt (fun _ h=>h) rfl ?_|refine ⟨h.hb,?_⟩|refine ak.xw h rfl rfl fun w h=> ?_|(refine ak.xs h rfl rfl fun w h=> ?_;dsimp only [ao,af] at h)|(refine St.xs h rfl rfl fun w h=> ?_;dsimp only [ao,af] at h)|refine aa.yes ?_|refine aa.no ?_|refine ⟨by first|omega|decide,?_⟩)
 refine Au h hv fun w h=> ?_
 (with_reducible repeat first|refine Nw.mk h fun b w h=> ?_|refine au.mk h fun w h=> ?_|refine Ld.xb h rfl ?_|refine Ld.xt h rfl ?_|refine ae.xb (fun _ h=>h) rfl ?_|refine ae.xt (fun _ h=>h) rfl ?_|refine ⟨h.hb,?_⟩|refine ak.xw h rfl rfl fun w h=> ?_|(refine ak.xs h rfl rfl fun w h=> ?_;dsimp only [ao,af] at h)|(refine St.xs h rfl rfl fun w h=> ?_;dsimp only [ao,af] at h)|refine aa.yes ?_|refine aa.no ?_|refine ⟨by first|omega|decide,?_⟩)
 exact iX (decide_eq_true hm) (hK _ h.tl)
theorem Gi {v c most:Nat} {K:T2→Bool→Bool→World→Prop} (h:Hp E w F) (hv:v≤most) (hm:most≤65536) (hc:c<256)
  (hbad:grow most v c=none→∀o d w',Hp E w' F→K o d false w')
  (hK: ∀n d,grow most v c=some (n,d)→∀k w',(d=false→k=(vm n:Int))→Hp E w' F→K ((n:Int),k,()) d true w'):
  Cl Tryz.prog [.st [.int .i64,.int .i64],kB,kB] jN ⟨[.agg ⟨[.int .i64 (v:Int),.int .i64 (vm v:Int)]⟩,.int .u8 (c:Int),.int .i64 (most:Int)]⟩ w K:=by
 refine Co.ok ((v:Int),(vm v:Int),()) _ _ _ _ ?_
 (try simp only [aD,aw,ar,Nat.zero_add,Nat.add_zero,Nat.reduceAdd,Bool.not_true,Bool.not_false,aZ,aX,Option.isNone])
 (with_reducible repeat first|refine Nw.mk h fun b w h=> ?_|refine au.mk h fun w h=> ?_|refine Ld.xb h rfl ?_|refine Ld.xt h rfl ?_|refine ae.xb (fun _ h=>h) rfl ?_|refine ae.xt (fun _ h=>h) rfl ?_|refine ⟨h.hb,?_⟩|refine ak.xw h rfl rfl fun w h=> ?_|(refine ak.xs h rfl rfl fun w h=> ?_;dsimp only [ao,af] at h)|(refine St.xs h rfl rfl fun w h=> ?_;dsimp only [ao,af] at h)|refine aa.yes ?_|refine aa.no ?_|refine ⟨by first|omega|decide,?_⟩)
 refine K1 h (by omega) hc (fun hb w h=> ?_) (fun hb w h=> ?_)
 ·(with_reducible repeat first|refine Nw.mk h fun b w h=> ?_|refine au.mk h fun w h=> ?_|refine Ld.xb h rfl ?_|refine Ld.xt h rfl ?_|refine ae.xb (fun _ h=>h) rfl ?_|refine ae.xt (fun _ h=>h) rfl ?_|refine ⟨h.hb,?_⟩|refine ak.xw h rfl rfl fun w h=> ?_|(refine ak.xs h rfl rfl fun w h=> ?_;dsimp only [ao,af] at h)|(refine St.xs h rfl rfl fun w h=> ?_;dsimp only [ao,af] at h)|refine aa.yes ?_|refine aa.no ?_|refine ⟨by first|omega|decide,?_⟩)
  exact hbad (by unfold grow;rw [if_pos hb]) _ _ _ h.tl
 ·(with_reducible repeat first|refine Nw.mk h fun b w h=> ?_|refine au.mk h fun w h=> ?_|refine Ld.xb h rfl ?_|refine Ld.xt h rfl ?_|refine ae.xb (fun _ h=>h) rfl ?_|refine ae.xt (fun _ h=>h) rfl ?_|refine ⟨h.hb,?_⟩|refine ak.xw h rfl rfl fun w h=> ?_|(refine ak.xs h rfl rfl fun w h=> ?_;dsimp only [ao,af] at h)|(refine St.xs h rfl rfl fun w h=> ?_;dsimp only [ao,af] at h)|refine aa.yes ?_|refine aa.no ?_|refine ⟨by first|omega|decide,?_⟩)
  by_cases hc1:c<128
  ·rw [decide_eq_true hc1]
   by_cases hle:128*v+c % 128≤most
   ·(with_reducible repeat first|refine Nw.mk h fun b w h=> ?_|refine au.mk h fun w h=> ?_|refine Ld.xb h rfl ?_|refine Ld.xt h rfl ?_|refine ae.xb (fun _ h=>h) rfl ?_|refine ae.xt (fun _ h=>h) rfl ?_|refine ⟨h.hb,?_⟩|refine ak.xw h rfl rfl fun w h=> ?_|(refine ak.xs h rfl rfl fun w h=> ?_;dsimp only [ao,af] at h)|(refine St.xs h rfl rfl fun w h=> ?_;dsimp only [ao,af] at h)|refine aa.yes ?_|refine aa.no ?_|refine ⟨by first|omega|decide,?_⟩)
    (try simp only [aD,aw,ar,Nat.zero_add,Nat.add_zero,Nat.reduceAdd,Bool.not_true,Bool.not_false,aZ,aX,Option.isNone])
    (with_reducible repeat first|refine Nw.mk h fun b w h=> ?_|refine au.mk h fun w h=> ?_|refine Ld.xb h rfl ?_|refine Ld.xt h rfl ?_|refine ae.xb (fun _ h=>h) rfl ?_|refine ae.xt (fun _ h=>h) rfl ?_|refine ⟨h.hb,?_⟩|refine ak.xw h rfl rfl fun w h=> ?_|(refine ak.xs h rfl rfl fun w h=> ?_;dsimp only [ao,af] at h)|(refine St.xs h rfl rfl fun w h=> ?_;dsimp only [ao,af] at h)|refine aa.yes ?_|refine aa.no ?_|refine ⟨by first|omega|decide,?_⟩)
    by_cases h0:0<128*v+c % 128
    ·refine iX (decide_eq_true (by omega)) (hK _ true ?_ _ _ (fun hh=>by cases hh) h.tl)
     unfold grow
     rw [if_neg hb,if_pos ⟨hle,fun _=>h0⟩,decide_eq_true hc1]
    ·refine iX (decide_eq_false (by omega)) (hbad ?_ _ _ _ h.tl)
     unfold grow
     rw [if_neg hb,if_neg (fun hh=>h0 (hh.2 hc1))]
   ·(with_reducible repeat first|refine Nw.mk h fun b w h=> ?_|refine au.mk h fun w h=> ?_|refine Ld.xb h rfl ?_|refine Ld.xt h rfl ?_|refine ae.xb (fun _ h=>h) rfl ?_|refine ae.xt (fun _ h=>h) rfl ?_|refine ⟨h.hb,?_⟩|refine ak.xw h rfl rfl fun w h=> ?_|(refine ak.xs h rfl rfl fun w h=> ?_;dsimp only [ao,af] at h)|(refine St.xs h rfl rfl fun w h=> ?_;dsimp only [ao,af] at h)|refine aa.yes ?_|refine aa.no ?_|refine ⟨by first|omega|decide,?_⟩)
    refine hbad ?_ _ _ _ h.tl
    unfold grow
    rw [if_neg hb,if_neg (fun hh=>hle hh.1)]
  ·rw [decide_eq_false hc1]
   by_cases hle:128*v+c % 128≤most
   ·(with_reducible repeat first|refine Nw.mk h fun b w h=> ?_|refine au.mk h fun w h=> ?_|refine Ld.xb h rfl ?_|refine Ld.xt h rfl ?_|refine ae.xb (fun _ h=>h) rfl ?_|refine ae.xt (fun _ h=>h) rfl ?_|refine ⟨h.hb,?_⟩|refine ak.xw h rfl rfl fun w h=> ?_|(refine ak.xs h rfl rfl fun w h=> ?_;dsimp only [ao,af] at h)|(refine St.xs h rfl rfl fun w h=> ?_;dsimp only [ao,af] at h)|refine aa.yes ?_|refine aa.no ?_|refine ⟨by first|omega|decide,?_⟩)
    (try simp only [aD,aw,ar,Nat.zero_add,Nat.add_zero,Nat.reduceAdd,Bool.not_true,Bool.not_false,aZ,aX,Option.isNone])
    (with_reducible repeat first|refine Nw.mk h fun b w h=> ?_|refine au.mk h fun w h=> ?_|refine Ld.xb h rfl ?_|refine Ld.xt h rfl ?_|refine ae.xb (fun _ h=>h) rfl ?_|refine ae.xt (fun _ h=>h) rfl ?_|refine ⟨h.hb,?_⟩|refine ak.xw h rfl rfl fun w h=> ?_|(refine ak.xs h rfl rfl fun w h=> ?_;dsimp only [ao,af] at h)|(refine St.xs h rfl rfl fun w h=> ?_;dsimp only [ao,af] at h)|refine aa.yes ?_|refine aa.no ?_|refine ⟨by first|omega|decide,?_⟩)
    refine hK _ false ?_ _ _ (fun _=>by rw [Dy (by omega) (by omega) hc hb]) h.tl
    unfold grow
    rw [if_neg hb,if_pos ⟨hle,fun hh=>absurd hh hc1⟩,decide_eq_false hc1]
   ·(with_reducible repeat first|refine Nw.mk h fun b w h=> ?_|refine au.mk h fun w h=> ?_|refine Ld.xb h rfl ?_|refine Ld.xt h rfl ?_|refine ae.xb (fun _ h=>h) rfl ?_|refine ae.xt (fun _ h=>h) rfl ?_|refine ⟨h.hb,?_⟩|refine ak.xw h rfl rfl fun w h=> ?_|(refine ak.xs h rfl rfl fun w h=> ?_;dsimp only [ao,af] at h)|(refine St.xs h rfl rfl fun w h=> ?_;dsimp only [ao,af] at h)|refine aa.yes ?_|refine aa.no ?_|refine ⟨by first|omega|decide,?_⟩)
    refine hbad ?_ _ _ _ h.tl
    unfold grow
    rw [if_neg hb,if_neg (fun hh=>hle hh.1)]
end
end Go.Proofs.YtcdpblipagajiaaGreat
set_option maxRecDepth 20000
namespace Go.Proofs.YtcdpblipagajiaaGreat
open Go Go.Vc Go.Srt Go.Inc Go.Hd
section
variable {E w:World} {F:List HP}
theorem HA {s m:Nat} {K:Bool→World→Prop} (hm:m≤3) (hs:s<256^m) (hK:K true w):Cl Tryz.prog [kB] jQ ⟨[.int .u32 (s:Int),.int .i64 (m:Int)]⟩ w K:=by
 refine Cz.ok _ _ _ _ ?_
 refine c7 ?_
 (with_reducible repeat first|refine Nw.mk h fun b w h=> ?_|refine au.mk h fun w h=> ?_|refine Ld.xb h rfl ?_|refine Ld.xt h rfl ?_|refine ae.xb (fun _ h=>h) rfl ?_|refine ae.xt (fun _ h=>h) rfl ?_|refine ⟨h.hb,?_⟩|refine ak.xw h rfl rfl fun w h=> ?_|(refine ak.xs h rfl rfl fun w h=> ?_;dsimp only [ao,af] at h)|(refine St.xs h rfl rfl fun w h=> ?_;dsimp only [ao,af] at h)|refine aa.yes ?_|refine aa.no ?_|refine ⟨by first|omega|decide,?_⟩)
 rw [ad (by omega)]
 refine ⟨by omega,iX ?_ hK⟩
 rw [show (8*(m:Int))=((8*m:Nat):Int) by omega,ik (by
  have:m=0∨m=1∨m=2∨m=3:=by omega
  rcases this with rfl|rfl|rfl|rfl<;>simp at hs<;>omega),cb (by have:IntKind.bits .u64=64:=rfl;omega),Nat.pow_mul,Nat.div_eq_of_lt (by simpa using hs)]
 rfl
theorem Jx {n:Nat} {m:MS} {K:Bool→World→Prop} (h:Hp E w F) (hn:1≤n) (hn2:n≤65536) (hm:j0 n m) (hK: ∀w',Hp E w' F→K true w'):
  Cl Tryz.prog [kB] hC ⟨[.int .i64 (n:Int),.agg ⟨[.int .i64 (m.at_:Int),.int .i64 (m.v:Int),.int .i64 (vm m.v:Int),.int .i64 (m.M:Int),.int .i64 (m.P:Int),.int .u32 (m.sum:Int),.int .i64 (m.many:Int)]⟩]⟩ w K:=by
 obtain ⟨at_,v,M,P,sum,many⟩:=m
 unfold j0 at hm
 dsimp only at hm⊢
 refine uS.ok _ ((at_:Int),(v:Int),(vm v:Int),(M:Int),(P:Int),(sum:Int),(many:Int),()) _ _ ?_
 (try simp only [aD,aw,ar,Nat.zero_add,Nat.add_zero,Nat.reduceAdd,Bool.not_true,Bool.not_false,aZ,aX,Option.isNone])
 (with_reducible repeat first|refine Nw.mk h fun b w h=> ?_|refine au.mk h fun w h=> ?_|refine Ld.xb h rfl ?_|refine Ld.xt h rfl ?_|refine ae.xb (fun _ h=>h) rfl ?_|refine ae.xt (fun _ h=>h) rfl ?_|refine ⟨h.hb,?_⟩|refine ak.xw h rfl rfl fun w h=> ?_|(refine ak.xs h rfl rfl fun w h=> ?_;dsimp only [ao,af] at h)|(refine St.xs h rfl rfl fun w h=> ?_;dsimp only [ao,af] at h)|refine aa.yes ?_|refine aa.no ?_|refine ⟨by first|omega|decide,?_⟩)
 refine c7 ?_
 rcases hm with ⟨h1,h2⟩|⟨h1,h2,h3,h4,h5,h6⟩|⟨h1,h2,h3,h4,h5,h6,h7⟩|⟨h1,h2,h3,h4,h5,h6,h7,h8⟩|⟨h1,h2,h3,h4,h5,h6⟩
 ·cases h2
  (with_reducible repeat first|refine Nw.mk h fun b w h=> ?_|refine au.mk h fun w h=> ?_|refine Ld.xb h rfl ?_|refine Ld.xt h rfl ?_|refine ae.xb (fun _ h=>h) rfl ?_|refine ae.xt (fun _ h=>h) rfl ?_|refine ⟨h.hb,?_⟩|refine ak.xw h rfl rfl fun w h=> ?_|(refine ak.xs h rfl rfl fun w h=> ?_;dsimp only [ao,af] at h)|(refine St.xs h rfl rfl fun w h=> ?_;dsimp only [ao,af] at h)|refine aa.yes ?_|refine aa.no ?_|refine ⟨by first|omega|decide,?_⟩)
  refine c7 ?_
  (with_reducible repeat first|refine Nw.mk h fun b w h=> ?_|refine au.mk h fun w h=> ?_|refine Ld.xb h rfl ?_|refine Ld.xt h rfl ?_|refine ae.xb (fun _ h=>h) rfl ?_|refine ae.xt (fun _ h=>h) rfl ?_|refine ⟨h.hb,?_⟩|refine ak.xw h rfl rfl fun w h=> ?_|(refine ak.xs h rfl rfl fun w h=> ?_;dsimp only [ao,af] at h)|(refine St.xs h rfl rfl fun w h=> ?_;dsimp only [ao,af] at h)|refine aa.yes ?_|refine aa.no ?_|refine ⟨by first|omega|decide,?_⟩)
  exact hK _ h.tl
 ·subst h1 h3 h4 h5 h6
  (with_reducible repeat first|refine Nw.mk h fun b w h=> ?_|refine au.mk h fun w h=> ?_|refine Ld.xb h rfl ?_|refine Ld.xt h rfl ?_|refine ae.xb (fun _ h=>h) rfl ?_|refine ae.xt (fun _ h=>h) rfl ?_|refine ⟨h.hb,?_⟩|refine ak.xw h rfl rfl fun w h=> ?_|(refine ak.xs h rfl rfl fun w h=> ?_;dsimp only [ao,af] at h)|(refine St.xs h rfl rfl fun w h=> ?_;dsimp only [ao,af] at h)|refine aa.yes ?_|refine aa.no ?_|refine ⟨by first|omega|decide,?_⟩)
  refine c7 ?_
  (with_reducible repeat first|refine Nw.mk h fun b w h=> ?_|refine au.mk h fun w h=> ?_|refine Ld.xb h rfl ?_|refine Ld.xt h rfl ?_|refine ae.xb (fun _ h=>h) rfl ?_|refine ae.xt (fun _ h=>h) rfl ?_|refine ⟨h.hb,?_⟩|refine ak.xw h rfl rfl fun w h=> ?_|(refine ak.xs h rfl rfl fun w h=> ?_;dsimp only [ao,af] at h)|(refine St.xs h rfl rfl fun w h=> ?_;dsimp only [ao,af] at h)|refine aa.yes ?_|refine aa.no ?_|refine ⟨by first|omega|decide,?_⟩)
  refine D8 h (by omega) (by omega) fun w h=> ?_
  (with_reducible repeat first|refine Nw.mk h fun b w h=> ?_|refine au.mk h fun w h=> ?_|refine Ld.xb h rfl ?_|refine Ld.xt h rfl ?_|refine ae.xb (fun _ h=>h) rfl ?_|refine ae.xt (fun _ h=>h) rfl ?_|refine ⟨h.hb,?_⟩|refine ak.xw h rfl rfl fun w h=> ?_|(refine ak.xs h rfl rfl fun w h=> ?_;dsimp only [ao,af] at h)|(refine St.xs h rfl rfl fun w h=> ?_;dsimp only [ao,af] at h)|refine aa.yes ?_|refine aa.no ?_|refine ⟨by first|omega|decide,?_⟩)
  refine iX ?_ (hK _ h.tl)
  simp
 ·subst h1 h5 h6 h7
  (with_reducible repeat first|refine Nw.mk h fun b w h=> ?_|refine au.mk h fun w h=> ?_|refine Ld.xb h rfl ?_|refine Ld.xt h rfl ?_|refine ae.xb (fun _ h=>h) rfl ?_|refine ae.xt (fun _ h=>h) rfl ?_|refine ⟨h.hb,?_⟩|refine ak.xw h rfl rfl fun w h=> ?_|(refine ak.xs h rfl rfl fun w h=> ?_;dsimp only [ao,af] at h)|(refine St.xs h rfl rfl fun w h=> ?_;dsimp only [ao,af] at h)|refine aa.yes ?_|refine aa.no ?_|refine ⟨by first|omega|decide,?_⟩)
  refine c7 ?_
  (with_reducible repeat first|refine Nw.mk h fun b w h=> ?_|refine au.mk h fun w h=> ?_|refine Ld.xb h rfl ?_|refine Ld.xt h rfl ?_|refine ae.xb (fun _ h=>h) rfl ?_|refine ae.xt (fun _ h=>h) rfl ?_|refine ⟨h.hb,?_⟩|refine ak.xw h rfl rfl fun w h=> ?_|(refine ak.xs h rfl rfl fun w h=> ?_;dsimp only [ao,af] at h)|(refine St.xs h rfl rfl fun w h=> ?_;dsimp only [ao,af] at h)|refine aa.yes ?_|refine aa.no ?_|refine ⟨by first|omega|decide,?_⟩)
  refine c7 ?_
  (with_reducible repeat first|refine Nw.mk h fun b w h=> ?_|refine au.mk h fun w h=> ?_|refine Ld.xb h rfl ?_|refine Ld.xt h rfl ?_|refine ae.xb (fun _ h=>h) rfl ?_|refine ae.xt (fun _ h=>h) rfl ?_|refine ⟨h.hb,?_⟩|refine ak.xw h rfl rfl fun w h=> ?_|(refine ak.xs h rfl rfl fun w h=> ?_;dsimp only [ao,af] at h)|(refine St.xs h rfl rfl fun w h=> ?_;dsimp only [ao,af] at h)|refine aa.yes ?_|refine aa.no ?_|refine ⟨by first|omega|decide,?_⟩)
  refine c7 ?_
  (with_reducible repeat first|refine Nw.mk h fun b w h=> ?_|refine au.mk h fun w h=> ?_|refine Ld.xb h rfl ?_|refine Ld.xt h rfl ?_|refine ae.xb (fun _ h=>h) rfl ?_|refine ae.xt (fun _ h=>h) rfl ?_|refine ⟨h.hb,?_⟩|refine ak.xw h rfl rfl fun w h=> ?_|(refine ak.xs h rfl rfl fun w h=> ?_;dsimp only [ao,af] at h)|(refine St.xs h rfl rfl fun w h=> ?_;dsimp only [ao,af] at h)|refine aa.yes ?_|refine aa.no ?_|refine ⟨by first|omega|decide,?_⟩)
  refine D8 h (by omega) (by omega) fun w h=> ?_
  (with_reducible repeat first|refine Nw.mk h fun b w h=> ?_|refine au.mk h fun w h=> ?_|refine Ld.xb h rfl ?_|refine Ld.xt h rfl ?_|refine ae.xb (fun _ h=>h) rfl ?_|refine ae.xt (fun _ h=>h) rfl ?_|refine ⟨h.hb,?_⟩|refine ak.xw h rfl rfl fun w h=> ?_|(refine ak.xs h rfl rfl fun w h=> ?_;dsimp only [ao,af] at h)|(refine St.xs h rfl rfl fun w h=> ?_;dsimp only [ao,af] at h)|refine aa.yes ?_|refine aa.no ?_|refine ⟨by first|omega|decide,?_⟩)
  refine iX ?_ (hK _ h.tl)
  simp
 ·subst h1 h6
  (with_reducible repeat first|refine Nw.mk h fun b w h=> ?_|refine au.mk h fun w h=> ?_|refine Ld.xb h rfl ?_|refine Ld.xt h rfl ?_|refine ae.xb (fun _ h=>h) rfl ?_|refine ae.xt (fun _ h=>h) rfl ?_|refine ⟨h.hb,?_⟩|refine ak.xw h rfl rfl fun w h=> ?_|(refine ak.xs h rfl rfl fun w h=> ?_;dsimp only [ao,af] at h)|(refine St.xs h rfl rfl fun w h=> ?_;dsimp only [ao,af] at h)|refine aa.yes ?_|refine aa.no ?_|refine ⟨by first|omega|decide,?_⟩)
  refine c7 ?_
  rw [decide_eq_true (show 1≤(P:Int)∧(P:Int)≤(M:Int) by omega)]
  refine c7 ?_
  (with_reducible repeat first|refine Nw.mk h fun b w h=> ?_|refine au.mk h fun w h=> ?_|refine Ld.xb h rfl ?_|refine Ld.xt h rfl ?_|refine ae.xb (fun _ h=>h) rfl ?_|refine ae.xt (fun _ h=>h) rfl ?_|refine ⟨h.hb,?_⟩|refine ak.xw h rfl rfl fun w h=> ?_|(refine ak.xs h rfl rfl fun w h=> ?_;dsimp only [ao,af] at h)|(refine St.xs h rfl rfl fun w h=> ?_;dsimp only [ao,af] at h)|refine aa.yes ?_|refine aa.no ?_|refine ⟨by first|omega|decide,?_⟩)
  refine HA h7 h8 ?_
  (with_reducible repeat first|refine Nw.mk h fun b w h=> ?_|refine au.mk h fun w h=> ?_|refine Ld.xb h rfl ?_|refine Ld.xt h rfl ?_|refine ae.xb (fun _ h=>h) rfl ?_|refine ae.xt (fun _ h=>h) rfl ?_|refine ⟨h.hb,?_⟩|refine ak.xw h rfl rfl fun w h=> ?_|(refine ak.xs h rfl rfl fun w h=> ?_;dsimp only [ao,af] at h)|(refine St.xs h rfl rfl fun w h=> ?_;dsimp only [ao,af] at h)|refine aa.yes ?_|refine aa.no ?_|refine ⟨by first|omega|decide,?_⟩)
  exact hK _ h.tl
 ·subst h1 h2 h3 h4
  (with_reducible repeat first|refine Nw.mk h fun b w h=> ?_|refine au.mk h fun w h=> ?_|refine Ld.xb h rfl ?_|refine Ld.xt h rfl ?_|refine ae.xb (fun _ h=>h) rfl ?_|refine ae.xt (fun _ h=>h) rfl ?_|refine ⟨h.hb,?_⟩|refine ak.xw h rfl rfl fun w h=> ?_|(refine ak.xs h rfl rfl fun w h=> ?_;dsimp only [ao,af] at h)|(refine St.xs h rfl rfl fun w h=> ?_;dsimp only [ao,af] at h)|refine aa.yes ?_|refine aa.no ?_|refine ⟨by first|omega|decide,?_⟩)
  refine c7 ?_
  (with_reducible repeat first|refine Nw.mk h fun b w h=> ?_|refine au.mk h fun w h=> ?_|refine Ld.xb h rfl ?_|refine Ld.xt h rfl ?_|refine ae.xb (fun _ h=>h) rfl ?_|refine ae.xt (fun _ h=>h) rfl ?_|refine ⟨h.hb,?_⟩|refine ak.xw h rfl rfl fun w h=> ?_|(refine ak.xs h rfl rfl fun w h=> ?_;dsimp only [ao,af] at h)|(refine St.xs h rfl rfl fun w h=> ?_;dsimp only [ao,af] at h)|refine aa.yes ?_|refine aa.no ?_|refine ⟨by first|omega|decide,?_⟩)
  refine HA h5 h6 ?_
  (with_reducible repeat first|refine Nw.mk h fun b w h=> ?_|refine au.mk h fun w h=> ?_|refine Ld.xb h rfl ?_|refine Ld.xt h rfl ?_|refine ae.xb (fun _ h=>h) rfl ?_|refine ae.xt (fun _ h=>h) rfl ?_|refine ⟨h.hb,?_⟩|refine ak.xw h rfl rfl fun w h=> ?_|(refine ak.xs h rfl rfl fun w h=> ?_;dsimp only [ao,af] at h)|(refine St.xs h rfl rfl fun w h=> ?_;dsimp only [ao,af] at h)|refine aa.yes ?_|refine aa.no ?_|refine ⟨by first|omega|decide,?_⟩)
  refine iX ?_ (hK _ h.tl)
  simp [vm]
end
end Go.Proofs.YtcdpblipagajiaaGreat
namespace Go.Vc
open Go
section
variable {P:Program} {α β:Type} [DecidableEq α] {ke:α→Value} {ve:β→Value} {kt vt t:TypeId} {E w:World} {F:List HP} {m:Option Nat} {l:List (α×β)}
theorem lS.fn {t:Fn} {a b:Array Value} {K:Bool→Prop} (h:K false):lS (.func t a b) K:=h
theorem ay.found (hk:pv P kt ke) (hu:P.underlying t=some (.map kt vt)) {a:α} {q:Nat×β} {z:Value} {k:Ki} {x:k.T} {K:k.T→World→Prop} (hz: ∀w,(zeroValue vt).run P w= .ok z w) (h:Hp E w (lI ke ve m l::F)) (hf:findAt a l 0=some q) (hx:ve q.2=k.enc x) (hK:K x w):
  ay P (Instr.lookup t (.map m) (ke a) false) k w K:=by
 unfold ay
 rw [um hk hu hz h,hf]
 dsimp only
 rw [hx]
 exact Ki.nv.2 hK
end
end Go.Vc
namespace Go.Proofs.YtcdpblipagajiaaGreat
open Go Go.Vc Go.Srt Go.Inc Go.Hd
abbrev ej:=Int×Int×Int×Int×Int×Int×Int×Unit
section
variable {E w:World} {F:List HP}
def Ei (n:Nat) (m:MS) (c:Nat) (E:World) (F:List HP) (K:ej→Bool→World→Prop):Prop:=
 (∀m' w',aL n m c= .more m'→m'.at_≠4→m'.at_≠6→Hp E w' F→K (Ms m') true w')∧
 (∀M P u w',aL n m c= .fin (.aF M P u)→Hp E w' F→K (4,0,0,(M:Int),(P:Int),(u:Int),4,()) true w')∧
 (∀u w',aL n m c= .fin (.tail u)→Hp E w' F→K (6,0,0,0,0,(u:Int),4,()) true w')∧
 (∀e o w',aL n m c= .bad e→e=242→Hp E w' F→K o false w')
theorem LJ {n:Nat} {c:Nat} {K:ej→Bool→World→Prop} (h:Hp E w F) (hc:c<256) (hK:Ei n iB c E F K):
  Cl Tryz.prog [.st [.int .i64,.int .i64,.int .i64,.int .i64,.int .i64,.int .u32,.int .i64],kB] ea ⟨[.int .i64 (n:Int),.agg ⟨[.int .i64 0,.int .i64 0,.int .i64 0,.int .i64 0,.int .i64 0,.int .u32 0,.int .i64 0]⟩,.int .u8 (c:Int)]⟩ w K:=by
 obtain ⟨k1,_,_,k4⟩:=hK
 refine Cn.ok _ (0,0,0,0,0,0,0,()) _ _ _ ?_
 (try simp only [aD,aw,ar,Nat.zero_add,Nat.add_zero,Nat.reduceAdd,Bool.not_true,Bool.not_false,aZ,aX,Option.isNone])
 (with_reducible repeat first|refine Nw.mk h fun b w h=> ?_|refine au.mk h fun w h=> ?_|refine Ld.xb h rfl ?_|refine Ld.xt h rfl ?_|refine ae.xb (fun _ h=>h) rfl ?_|refine ae.xt (fun _ h=>h) rfl ?_|refine ⟨h.hb,?_⟩|refine ak.xw h rfl rfl fun w h=> ?_|(refine ak.xs h rfl rfl fun w h=> ?_;dsimp only [ao,af] at h)|(refine St.xs h rfl rfl fun w h=> ?_;dsimp only [ao,af] at h)|refine aa.yes ?_|refine aa.no ?_|refine ⟨by first|omega|decide,?_⟩)
 by_cases h0:c=0
 ·subst h0
  (with_reducible repeat first|refine Nw.mk h fun b w h=> ?_|refine au.mk h fun w h=> ?_|refine Ld.xb h rfl ?_|refine Ld.xt h rfl ?_|refine ae.xb (fun _ h=>h) rfl ?_|refine ae.xt (fun _ h=>h) rfl ?_|refine ⟨h.hb,?_⟩|refine ak.xw h rfl rfl fun w h=> ?_|(refine ak.xs h rfl rfl fun w h=> ?_;dsimp only [ao,af] at h)|(refine St.xs h rfl rfl fun w h=> ?_;dsimp only [ao,af] at h)|refine aa.yes ?_|refine aa.no ?_|refine ⟨by first|omega|decide,?_⟩)
  exact k1 ⟨5,0,0,0,0,0⟩ _ rfl (by dsimp only;decide) (by dsimp only;decide) h.tl
 ·(with_reducible repeat first|refine Nw.mk h fun b w h=> ?_|refine au.mk h fun w h=> ?_|refine Ld.xb h rfl ?_|refine Ld.xt h rfl ?_|refine ae.xb (fun _ h=>h) rfl ?_|refine ae.xt (fun _ h=>h) rfl ?_|refine ⟨h.hb,?_⟩|refine ak.xw h rfl rfl fun w h=> ?_|(refine ak.xs h rfl rfl fun w h=> ?_;dsimp only [ao,af] at h)|(refine St.xs h rfl rfl fun w h=> ?_;dsimp only [ao,af] at h)|refine aa.yes ?_|refine aa.no ?_|refine ⟨by first|omega|decide,?_⟩)
  by_cases h1:c=1
  ·subst h1
   exact k1 ⟨1,0,0,0,0,0⟩ _ rfl (by dsimp only;decide) (by dsimp only;decide) h.tl
  ·refine iX (decide_eq_false (by omega)) (k4 242 _ _ ?_ rfl h.tl)
   unfold aL iB
   simp [h0,h1]
theorem ME {n v:Nat} {c:Nat} {K:ej→Bool→World→Prop} (h:Hp E w F) (hn:n≤65536) (hv:v≤n) (hc:c<256) (hK:Ei n ⟨1,v,0,0,0,0⟩ c E F K):
  Cl Tryz.prog [.st [.int .i64,.int .i64,.int .i64,.int .i64,.int .i64,.int .u32,.int .i64],kB] dY ⟨[.int .i64 (n:Int),.agg ⟨[.int .i64 1,.int .i64 (v:Int),.int .i64 (vm v:Int),.int .i64 0,.int .i64 0,.int .u32 0,.int .i64 0]⟩,.int .u8 (c:Int)]⟩ w K:=by
 obtain ⟨k1,_,_,k4⟩:=hK
 refine Cv.ok _ (1,(v:Int),(vm v:Int),0,0,0,0,()) _ _ _ ?_
 (try simp only [aD,aw,ar,Nat.zero_add,Nat.add_zero,Nat.reduceAdd,Bool.not_true,Bool.not_false,aZ,aX,Option.isNone])
 (with_reducible repeat first|refine Nw.mk h fun b w h=> ?_|refine au.mk h fun w h=> ?_|refine Ld.xb h rfl ?_|refine Ld.xt h rfl ?_|refine ae.xb (fun _ h=>h) rfl ?_|refine ae.xt (fun _ h=>h) rfl ?_|refine ⟨h.hb,?_⟩|refine ak.xw h rfl rfl fun w h=> ?_|(refine ak.xs h rfl rfl fun w h=> ?_;dsimp only [ao,af] at h)|(refine St.xs h rfl rfl fun w h=> ?_;dsimp only [ao,af] at h)|refine aa.yes ?_|refine aa.no ?_|refine ⟨by first|omega|decide,?_⟩)
 refine Gi h hv hn hc (fun hg o d w h=> ?_) (fun m d hg k w hk h=> ?_)
 ·(with_reducible repeat first|refine Nw.mk h fun b w h=> ?_|refine au.mk h fun w h=> ?_|refine Ld.xb h rfl ?_|refine Ld.xt h rfl ?_|refine ae.xb (fun _ h=>h) rfl ?_|refine ae.xt (fun _ h=>h) rfl ?_|refine ⟨h.hb,?_⟩|refine ak.xw h rfl rfl fun w h=> ?_|(refine ak.xs h rfl rfl fun w h=> ?_;dsimp only [ao,af] at h)|(refine St.xs h rfl rfl fun w h=> ?_;dsimp only [ao,af] at h)|refine aa.yes ?_|refine aa.no ?_|refine ⟨by first|omega|decide,?_⟩)
  cases d
  ·(with_reducible repeat first|refine Nw.mk h fun b w h=> ?_|refine au.mk h fun w h=> ?_|refine Ld.xb h rfl ?_|refine Ld.xt h rfl ?_|refine ae.xb (fun _ h=>h) rfl ?_|refine ae.xt (fun _ h=>h) rfl ?_|refine ⟨h.hb,?_⟩|refine ak.xw h rfl rfl fun w h=> ?_|(refine ak.xs h rfl rfl fun w h=> ?_;dsimp only [ao,af] at h)|(refine St.xs h rfl rfl fun w h=> ?_;dsimp only [ao,af] at h)|refine aa.yes ?_|refine aa.no ?_|refine ⟨by first|omega|decide,?_⟩)
   exact k4 242 _ _ (by unfold aL;simp [hg]) rfl h.tl
  ·(with_reducible repeat first|refine Nw.mk h fun b w h=> ?_|refine au.mk h fun w h=> ?_|refine Ld.xb h rfl ?_|refine Ld.xt h rfl ?_|refine ae.xb (fun _ h=>h) rfl ?_|refine ae.xt (fun _ h=>h) rfl ?_|refine ⟨h.hb,?_⟩|refine ak.xw h rfl rfl fun w h=> ?_|(refine ak.xs h rfl rfl fun w h=> ?_;dsimp only [ao,af] at h)|(refine St.xs h rfl rfl fun w h=> ?_;dsimp only [ao,af] at h)|refine aa.yes ?_|refine aa.no ?_|refine ⟨by first|omega|decide,?_⟩)
   exact k4 242 _ _ (by unfold aL;simp [hg]) rfl h.tl
 ·cases d
  ·have:=hk rfl
   subst this
   (with_reducible repeat first|refine Nw.mk h fun b w h=> ?_|refine au.mk h fun w h=> ?_|refine Ld.xb h rfl ?_|refine Ld.xt h rfl ?_|refine ae.xb (fun _ h=>h) rfl ?_|refine ae.xt (fun _ h=>h) rfl ?_|refine ⟨h.hb,?_⟩|refine ak.xw h rfl rfl fun w h=> ?_|(refine ak.xs h rfl rfl fun w h=> ?_;dsimp only [ao,af] at h)|(refine St.xs h rfl rfl fun w h=> ?_;dsimp only [ao,af] at h)|refine aa.yes ?_|refine aa.no ?_|refine ⟨by first|omega|decide,?_⟩)
   exact k1 ⟨1,m,0,0,0,0⟩ _ (by unfold aL;simp [hg]) (by dsimp only;decide) (by dsimp only;decide) h.tl
  ·(with_reducible repeat first|refine Nw.mk h fun b w h=> ?_|refine au.mk h fun w h=> ?_|refine Ld.xb h rfl ?_|refine Ld.xt h rfl ?_|refine ae.xb (fun _ h=>h) rfl ?_|refine ae.xt (fun _ h=>h) rfl ?_|refine ⟨h.hb,?_⟩|refine ak.xw h rfl rfl fun w h=> ?_|(refine ak.xs h rfl rfl fun w h=> ?_;dsimp only [ao,af] at h)|(refine St.xs h rfl rfl fun w h=> ?_;dsimp only [ao,af] at h)|refine aa.yes ?_|refine aa.no ?_|refine ⟨by first|omega|decide,?_⟩)
   exact k1 ⟨2,0,m,0,0,0⟩ _ (by unfold aL;simp [hg]) (by dsimp only;decide) (by dsimp only;decide) h.tl
theorem K4 {n v M:Nat} {c:Nat} {K:ej→Bool→World→Prop} (h:Hp E w F) (hn:M≤65536) (hv:v≤M) (hc:c<256) (hK:Ei n ⟨2,v,M,0,0,0⟩ c E F K):
  Cl Tryz.prog [.st [.int .i64,.int .i64,.int .i64,.int .i64,.int .i64,.int .u32,.int .i64],kB] dp ⟨[.int .i64 (n:Int),.agg ⟨[.int .i64 2,.int .i64 (v:Int),.int .i64 (vm v:Int),.int .i64 (M:Int),.int .i64 0,.int .u32 0,.int .i64 0]⟩,.int .u8 (c:Int)]⟩ w K:=by
 obtain ⟨k1,_,_,k4⟩:=hK
 refine BU.ok _ (2,(v:Int),(vm v:Int),(M:Int),0,0,0,()) _ _ _ ?_
 (try simp only [aD,aw,ar,Nat.zero_add,Nat.add_zero,Nat.reduceAdd,Bool.not_true,Bool.not_false,aZ,aX,Option.isNone])
 (with_reducible repeat first|refine Nw.mk h fun b w h=> ?_|refine au.mk h fun w h=> ?_|refine Ld.xb h rfl ?_|refine Ld.xt h rfl ?_|refine ae.xb (fun _ h=>h) rfl ?_|refine ae.xt (fun _ h=>h) rfl ?_|refine ⟨h.hb,?_⟩|refine ak.xw h rfl rfl fun w h=> ?_|(refine ak.xs h rfl rfl fun w h=> ?_;dsimp only [ao,af] at h)|(refine St.xs h rfl rfl fun w h=> ?_;dsimp only [ao,af] at h)|refine aa.yes ?_|refine aa.no ?_|refine ⟨by first|omega|decide,?_⟩)
 refine Gi h hv hn hc (fun hg o d w h=> ?_) (fun m d hg k w hk h=> ?_)
 ·(with_reducible repeat first|refine Nw.mk h fun b w h=> ?_|refine au.mk h fun w h=> ?_|refine Ld.xb h rfl ?_|refine Ld.xt h rfl ?_|refine ae.xb (fun _ h=>h) rfl ?_|refine ae.xt (fun _ h=>h) rfl ?_|refine ⟨h.hb,?_⟩|refine ak.xw h rfl rfl fun w h=> ?_|(refine ak.xs h rfl rfl fun w h=> ?_;dsimp only [ao,af] at h)|(refine St.xs h rfl rfl fun w h=> ?_;dsimp only [ao,af] at h)|refine aa.yes ?_|refine aa.no ?_|refine ⟨by first|omega|decide,?_⟩)
  cases d
  ·(with_reducible repeat first|refine Nw.mk h fun b w h=> ?_|refine au.mk h fun w h=> ?_|refine Ld.xb h rfl ?_|refine Ld.xt h rfl ?_|refine ae.xb (fun _ h=>h) rfl ?_|refine ae.xt (fun _ h=>h) rfl ?_|refine ⟨h.hb,?_⟩|refine ak.xw h rfl rfl fun w h=> ?_|(refine ak.xs h rfl rfl fun w h=> ?_;dsimp only [ao,af] at h)|(refine St.xs h rfl rfl fun w h=> ?_;dsimp only [ao,af] at h)|refine aa.yes ?_|refine aa.no ?_|refine ⟨by first|omega|decide,?_⟩)
   exact k4 242 _ _ (by unfold aL;simp [hg]) rfl h.tl
  ·(with_reducible repeat first|refine Nw.mk h fun b w h=> ?_|refine au.mk h fun w h=> ?_|refine Ld.xb h rfl ?_|refine Ld.xt h rfl ?_|refine ae.xb (fun _ h=>h) rfl ?_|refine ae.xt (fun _ h=>h) rfl ?_|refine ⟨h.hb,?_⟩|refine ak.xw h rfl rfl fun w h=> ?_|(refine ak.xs h rfl rfl fun w h=> ?_;dsimp only [ao,af] at h)|(refine St.xs h rfl rfl fun w h=> ?_;dsimp only [ao,af] at h)|refine aa.yes ?_|refine aa.no ?_|refine ⟨by first|omega|decide,?_⟩)
   exact k4 242 _ _ (by unfold aL;simp [hg]) rfl h.tl
 ·cases d
  ·have:=hk rfl
   subst this
   (with_reducible repeat first|refine Nw.mk h fun b w h=> ?_|refine au.mk h fun w h=> ?_|refine Ld.xb h rfl ?_|refine Ld.xt h rfl ?_|refine ae.xb (fun _ h=>h) rfl ?_|refine ae.xt (fun _ h=>h) rfl ?_|refine ⟨h.hb,?_⟩|refine ak.xw h rfl rfl fun w h=> ?_|(refine ak.xs h rfl rfl fun w h=> ?_;dsimp only [ao,af] at h)|(refine St.xs h rfl rfl fun w h=> ?_;dsimp only [ao,af] at h)|refine aa.yes ?_|refine aa.no ?_|refine ⟨by first|omega|decide,?_⟩)
   exact k1 ⟨2,m,M,0,0,0⟩ _ (by unfold aL;simp [hg]) (by dsimp only;decide) (by dsimp only;decide) h.tl
  ·(with_reducible repeat first|refine Nw.mk h fun b w h=> ?_|refine au.mk h fun w h=> ?_|refine Ld.xb h rfl ?_|refine Ld.xt h rfl ?_|refine ae.xb (fun _ h=>h) rfl ?_|refine ae.xt (fun _ h=>h) rfl ?_|refine ⟨h.hb,?_⟩|refine ak.xw h rfl rfl fun w h=> ?_|(refine ak.xs h rfl rfl fun w h=> ?_;dsimp only [ao,af] at h)|(refine St.xs h rfl rfl fun w h=> ?_;dsimp only [ao,af] at h)|refine aa.yes ?_|refine aa.no ?_|refine ⟨by first|omega|decide,?_⟩)
   exact k1 ⟨3,0,M,m,0,0⟩ _ (by unfold aL;simp [hg]) (by dsimp only;decide) (by dsimp only;decide) h.tl
theorem Ke {n a M P sum many:Nat} {c:Nat} {K:ej→Bool→World→Prop} (h:Hp E w F) (ha:a=3∨(a=5∧M=0∧P=0)) (hm:many≤3) (hs:sum<256^many) (hc:c<256) (hK:Ei n ⟨a,0,M,P,sum,many⟩ c E F K):
  Cl Tryz.prog [.st [.int .i64,.int .i64,.int .i64,.int .i64,.int .i64,.int .u32,.int .i64],kB] cd ⟨[.int .i64 (n:Int),.agg ⟨[.int .i64 (a:Int),.int .i64 0,.int .i64 0,.int .i64 (M:Int),.int .i64 (P:Int),.int .u32 (sum:Int),.int .i64 (many:Int)]⟩,.int .u8 (c:Int)]⟩ w K:=by
 obtain ⟨k1,k2,k3,k4⟩:=hK
 have hs2:sum<16777216:=by
  have:256^many≤256^3:=Nat.pow_le_pow_right (by decide) hm
  omega
 refine FJ.ok _ ((a:Int),0,0,(M:Int),(P:Int),(sum:Int),(many:Int),()) _ _ _ ?_
 (try simp only [aD,aw,ar,Nat.zero_add,Nat.add_zero,Nat.reduceAdd,Bool.not_true,Bool.not_false,aZ,aX,Option.isNone])
 (with_reducible repeat first|refine Nw.mk h fun b w h=> ?_|refine au.mk h fun w h=> ?_|refine Ld.xb h rfl ?_|refine Ld.xt h rfl ?_|refine ae.xb (fun _ h=>h) rfl ?_|refine ae.xt (fun _ h=>h) rfl ?_|refine ⟨h.hb,?_⟩|refine ak.xw h rfl rfl fun w h=> ?_|(refine ak.xs h rfl rfl fun w h=> ?_;dsimp only [ao,af] at h)|(refine St.xs h rfl rfl fun w h=> ?_;dsimp only [ao,af] at h)|refine aa.yes ?_|refine aa.no ?_|refine ⟨by first|omega|decide,?_⟩)
 rw [ad (x:=(many:Int)+1) (by omega)] at h⊢
 rw [Nh hs2 hc] at h
 by_cases hm3:many=3
 ·subst hm3
  (with_reducible repeat first|refine Nw.mk h fun b w h=> ?_|refine au.mk h fun w h=> ?_|refine Ld.xb h rfl ?_|refine Ld.xt h rfl ?_|refine ae.xb (fun _ h=>h) rfl ?_|refine ae.xt (fun _ h=>h) rfl ?_|refine ⟨h.hb,?_⟩|refine ak.xw h rfl rfl fun w h=> ?_|(refine ak.xs h rfl rfl fun w h=> ?_;dsimp only [ao,af] at h)|(refine St.xs h rfl rfl fun w h=> ?_;dsimp only [ao,af] at h)|refine aa.yes ?_|refine aa.no ?_|refine ⟨by first|omega|decide,?_⟩)
  rw [ad (by omega)] at h⊢
  rcases ha with rfl|⟨rfl,rfl,rfl⟩
  ·exact k2 M P (256*sum+c) _ (by unfold aL;simp) h.tl
  ·exact k3 (256*sum+c) _ (by unfold aL;simp) h.tl
 ·(with_reducible repeat first|refine Nw.mk h fun b w h=> ?_|refine au.mk h fun w h=> ?_|refine Ld.xb h rfl ?_|refine Ld.xt h rfl ?_|refine ae.xb (fun _ h=>h) rfl ?_|refine ae.xt (fun _ h=>h) rfl ?_|refine ⟨h.hb,?_⟩|refine ak.xw h rfl rfl fun w h=> ?_|(refine ak.xs h rfl rfl fun w h=> ?_;dsimp only [ao,af] at h)|(refine St.xs h rfl rfl fun w h=> ?_;dsimp only [ao,af] at h)|refine aa.yes ?_|refine aa.no ?_|refine ⟨by first|omega|decide,?_⟩)
  refine k1 ⟨a,0,M,P,256*sum+c,many+1⟩ _ ?_ ?_ ?_ h.tl
  ·unfold aL
   rcases ha with rfl|⟨rfl,rfl,rfl⟩<;>simp [hm3]
  ·dsimp only;omega
  ·dsimp only;omega
theorem tD:Tryz.prog.underlying 202=some (.map 3 203):=by kernel_rfl
theorem HE (w:World):(zeroValue 203).run Tryz.prog w= .ok .nilFunc w:=by kernel_rfl
set_option maxRecDepth 20000
abbrev fv (i:Nat):Value:= .func (.func i) ⟨[]⟩ ⟨[]⟩
theorem Lg {n:Nat} {m:MS} {c:Nat} {K:ej→Bool→Int→World→Prop} (h:Hp E w F) (hn:1≤n) (hn2:n≤65536) (hm:j0 n m) (hc:c<256)
  (hmore: ∀m' w',aL n m c= .more m'→Hp E w' F→K (Ms m') false 0 w')
  (hblk: ∀M P u w',aL n m c= .fin (.aF M P u)→Hp E w' F→K (4,0,0,(M:Int),(P:Int),(u:Int),4,()) true 0 w')
  (htail: ∀u w',aL n m c= .fin (.tail u)→Hp E w' F→K (6,0,0,0,0,(u:Int),4,()) true 0 w')
  (hbad: ∀e o w',aL n m c= .bad e→Hp E w' F→K o false (e:Int) w'):
  Cl Tryz.prog [.st [.int .i64,.int .i64,.int .i64,.int .i64,.int .i64,.int .u32,.int .i64],kB,kI] fC ⟨[.int .i64 (n:Int),.agg ⟨[.int .i64 (m.at_:Int),.int .i64 (m.v:Int),.int .i64 (vm m.v:Int),.int .i64 (m.M:Int),.int .i64 (m.P:Int),.int .u32 (m.sum:Int),.int .i64 (m.many:Int)]⟩,.int .u8 (c:Int)]⟩ w K:=by
 have main: ∀(q:Nat) (i:Nat),findAt (m.at_:Int) [((0:Int),fv ea),(1,fv dY),(2,fv dp),(3,fv cd),(5,fv cd)] 0=some (q,fv i)→l9 Tryz.prog i=true→
   (∀(F':List HP) (w:World) (K':ej→Bool→World→Prop),Hp E w F'→Ei n m c E F' K'→Cl Tryz.prog [.st [.int .i64,.int .i64,.int .i64,.int .i64,.int .i64,.int .u32,.int .i64],kB] i ⟨[.int .i64 (n:Int),.agg ⟨[.int .i64 (m.at_:Int),.int .i64 (m.v:Int),.int .i64 (vm m.v:Int),.int .i64 (m.M:Int),.int .i64 (m.P:Int),.int .u32 (m.sum:Int),.int .i64 (m.many:Int)]⟩,.int .u8 (c:Int)]⟩ w K')→
   Cl Tryz.prog [.st [.int .i64,.int .i64,.int .i64,.int .i64,.int .i64,.int .u32,.int .i64],kB,kI] fC ⟨[.int .i64 (n:Int),.agg ⟨[.int .i64 (m.at_:Int),.int .i64 (m.v:Int),.int .i64 (vm m.v:Int),.int .i64 (m.M:Int),.int .i64 (m.P:Int),.int .u32 (m.sum:Int),.int .i64 (m.many:Int)]⟩,.int .u8 (c:Int)]⟩ w K:=by
  intro q i hq hok hcall
  refine wX.ok _ (Ms m) _ _ _ ?_
  (try simp only [aD,aw,ar,Nat.zero_add,Nat.add_zero,Nat.reduceAdd,Bool.not_true,Bool.not_false,aZ,aX,Option.isNone])
  refine Nw.mk h fun b5 w h=>Nw.mk h fun b7 w h=> ?_
  refine run_makeMap (ke:=fun n:Int=>Value.int .i64 n) (ve:=fun v:Value=>v) h fun mp w h=> ?_
  refine eO (ke:=fun n:Int=>Value.int .i64 n) (ve:=fun v:Value=>v) (l:=_) nD tD (a:=0) (b:=fv ea) h fun w h=> ?_
  refine eO (ke:=fun n:Int=>Value.int .i64 n) (ve:=fun v:Value=>v) (l:=_) nD tD (a:=1) (b:=fv dY) h fun w h=> ?_
  refine eO (ke:=fun n:Int=>Value.int .i64 n) (ve:=fun v:Value=>v) (l:=_) nD tD (a:=2) (b:=fv dp) h fun w h=> ?_
  refine eO (ke:=fun n:Int=>Value.int .i64 n) (ve:=fun v:Value=>v) (l:=_) nD tD (a:=3) (b:=fv cd) h fun w h=> ?_
  refine eO (ke:=fun n:Int=>Value.int .i64 n) (ve:=fun v:Value=>v) (l:=_) nD tD (a:=5) (b:=fv cd) h fun w h=> ?_
  rw [show jA (5:Int) (fv cd) (jA 3 (fv cd) (jA 2 (fv dp) (jA 1 (fv dY) (jA 0 (fv ea) []))))
   = [((0:Int),fv ea),(1,fv dY),(2,fv dp),(3,fv cd),(5,fv cd)] from rfl] at h
  (with_reducible repeat first|refine Nw.mk h fun b w h=> ?_|refine au.mk h fun w h=> ?_|refine Ld.xb h rfl ?_|refine Ld.xt h rfl ?_|refine ae.xb (fun _ h=>h) rfl ?_|refine ae.xt (fun _ h=>h) rfl ?_|refine ⟨h.hb,?_⟩|refine ak.xw h rfl rfl fun w h=> ?_|(refine ak.xs h rfl rfl fun w h=> ?_;dsimp only [ao,af] at h)|(refine St.xs h rfl rfl fun w h=> ?_;dsimp only [ao,af] at h)|refine aa.yes ?_|refine aa.no ?_|refine ⟨by first|omega|decide,?_⟩)
  refine ay.found (ke:=fun n:Int=>Value.int .i64 n) (ve:=fun v:Value=>v) nD tD (a:=(m.at_:Int)) (x:=fv i) HE h hq rfl ?_
  refine lS.fn ?_
  have h:=h.drop
  (with_reducible repeat first|refine Nw.mk h fun b w h=> ?_|refine au.mk h fun w h=> ?_|refine Ld.xb h rfl ?_|refine Ld.xt h rfl ?_|refine ae.xb (fun _ h=>h) rfl ?_|refine ae.xt (fun _ h=>h) rfl ?_|refine ⟨h.hb,?_⟩|refine ak.xw h rfl rfl fun w h=> ?_|(refine ak.xs h rfl rfl fun w h=> ?_;dsimp only [ao,af] at h)|(refine St.xs h rfl rfl fun w h=> ?_;dsimp only [ao,af] at h)|refine aa.yes ?_|refine aa.no ?_|refine ⟨by first|omega|decide,?_⟩)
  refine Jx h hn hn2 hm fun w h=> ?_
  (with_reducible repeat first|refine Nw.mk h fun b w h=> ?_|refine au.mk h fun w h=> ?_|refine Ld.xb h rfl ?_|refine Ld.xt h rfl ?_|refine ae.xb (fun _ h=>h) rfl ?_|refine ae.xt (fun _ h=>h) rfl ?_|refine ⟨h.hb,?_⟩|refine ak.xw h rfl rfl fun w h=> ?_|(refine ak.xs h rfl rfl fun w h=> ?_;dsimp only [ao,af] at h)|(refine St.xs h rfl rfl fun w h=> ?_;dsimp only [ao,af] at h)|refine aa.yes ?_|refine aa.no ?_|refine ⟨by first|omega|decide,?_⟩)
  refine iY.mk hok (hcall _ _ _ h ⟨fun m' w h1 h2 h3 h=> ?_,fun M P u w h1 h=> ?_,fun u w h1 h=> ?_,fun e o w h1 h2 h=> ?_⟩)
  ·(with_reducible repeat first|refine Nw.mk h fun b w h=> ?_|refine au.mk h fun w h=> ?_|refine Ld.xb h rfl ?_|refine Ld.xt h rfl ?_|refine ae.xb (fun _ h=>h) rfl ?_|refine ae.xt (fun _ h=>h) rfl ?_|refine ⟨h.hb,?_⟩|refine ak.xw h rfl rfl fun w h=> ?_|(refine ak.xs h rfl rfl fun w h=> ?_;dsimp only [ao,af] at h)|(refine St.xs h rfl rfl fun w h=> ?_;dsimp only [ao,af] at h)|refine aa.yes ?_|refine aa.no ?_|refine ⟨by first|omega|decide,?_⟩)
   have h:=h.drew (n:=w.drawn+1)
   refine ⟨bQ b5 _ _ _,h.hb,?_⟩
   (with_reducible repeat first|refine Nw.mk h fun b w h=> ?_|refine au.mk h fun w h=> ?_|refine Ld.xb h rfl ?_|refine Ld.xt h rfl ?_|refine ae.xb (fun _ h=>h) rfl ?_|refine ae.xt (fun _ h=>h) rfl ?_|refine ⟨h.hb,?_⟩|refine ak.xw h rfl rfl fun w h=> ?_|(refine ak.xs h rfl rfl fun w h=> ?_;dsimp only [ao,af] at h)|(refine St.xs h rfl rfl fun w h=> ?_;dsimp only [ao,af] at h)|refine aa.yes ?_|refine aa.no ?_|refine ⟨by first|omega|decide,?_⟩)
   refine aa.ef (show¬(m'.at_:Int)=4 by omega) ?_
   (with_reducible repeat first|refine Nw.mk h fun b w h=> ?_|refine au.mk h fun w h=> ?_|refine Ld.xb h rfl ?_|refine Ld.xt h rfl ?_|refine ae.xb (fun _ h=>h) rfl ?_|refine ae.xt (fun _ h=>h) rfl ?_|refine ⟨h.hb,?_⟩|refine ak.xw h rfl rfl fun w h=> ?_|(refine ak.xs h rfl rfl fun w h=> ?_;dsimp only [ao,af] at h)|(refine St.xs h rfl rfl fun w h=> ?_;dsimp only [ao,af] at h)|refine aa.yes ?_|refine aa.no ?_|refine ⟨by first|omega|decide,?_⟩)
   have e6:((m'.at_:Int)==6)=false:=beq_eq_false_iff_ne.2 (by omega)
   have h6:=hmore m' _ h1 h.tl
   rw [←e6] at h6
   exact h6
  ·(with_reducible repeat first|refine Nw.mk h fun b w h=> ?_|refine au.mk h fun w h=> ?_|refine Ld.xb h rfl ?_|refine Ld.xt h rfl ?_|refine ae.xb (fun _ h=>h) rfl ?_|refine ae.xt (fun _ h=>h) rfl ?_|refine ⟨h.hb,?_⟩|refine ak.xw h rfl rfl fun w h=> ?_|(refine ak.xs h rfl rfl fun w h=> ?_;dsimp only [ao,af] at h)|(refine St.xs h rfl rfl fun w h=> ?_;dsimp only [ao,af] at h)|refine aa.yes ?_|refine aa.no ?_|refine ⟨by first|omega|decide,?_⟩)
   have h:=h.drew (n:=w.drawn+1)
   refine ⟨bQ b5 _ _ _,h.hb,?_⟩
   (with_reducible repeat first|refine Nw.mk h fun b w h=> ?_|refine au.mk h fun w h=> ?_|refine Ld.xb h rfl ?_|refine Ld.xt h rfl ?_|refine ae.xb (fun _ h=>h) rfl ?_|refine ae.xt (fun _ h=>h) rfl ?_|refine ⟨h.hb,?_⟩|refine ak.xw h rfl rfl fun w h=> ?_|(refine ak.xs h rfl rfl fun w h=> ?_;dsimp only [ao,af] at h)|(refine St.xs h rfl rfl fun w h=> ?_;dsimp only [ao,af] at h)|refine aa.yes ?_|refine aa.no ?_|refine ⟨by first|omega|decide,?_⟩)
   exact hblk M P u _ h1 h.tl
  ·(with_reducible repeat first|refine Nw.mk h fun b w h=> ?_|refine au.mk h fun w h=> ?_|refine Ld.xb h rfl ?_|refine Ld.xt h rfl ?_|refine ae.xb (fun _ h=>h) rfl ?_|refine ae.xt (fun _ h=>h) rfl ?_|refine ⟨h.hb,?_⟩|refine ak.xw h rfl rfl fun w h=> ?_|(refine ak.xs h rfl rfl fun w h=> ?_;dsimp only [ao,af] at h)|(refine St.xs h rfl rfl fun w h=> ?_;dsimp only [ao,af] at h)|refine aa.yes ?_|refine aa.no ?_|refine ⟨by first|omega|decide,?_⟩)
   have h:=h.drew (n:=w.drawn+1)
   refine ⟨bQ b5 _ _ _,h.hb,?_⟩
   (with_reducible repeat first|refine Nw.mk h fun b w h=> ?_|refine au.mk h fun w h=> ?_|refine Ld.xb h rfl ?_|refine Ld.xt h rfl ?_|refine ae.xb (fun _ h=>h) rfl ?_|refine ae.xt (fun _ h=>h) rfl ?_|refine ⟨h.hb,?_⟩|refine ak.xw h rfl rfl fun w h=> ?_|(refine ak.xs h rfl rfl fun w h=> ?_;dsimp only [ao,af] at h)|(refine St.xs h rfl rfl fun w h=> ?_;dsimp only [ao,af] at h)|refine aa.yes ?_|refine aa.no ?_|refine ⟨by first|omega|decide,?_⟩)
   exact htail u _ h1 h.tl
  ·(with_reducible repeat first|refine Nw.mk h fun b w h=> ?_|refine au.mk h fun w h=> ?_|refine Ld.xb h rfl ?_|refine Ld.xt h rfl ?_|refine ae.xb (fun _ h=>h) rfl ?_|refine ae.xt (fun _ h=>h) rfl ?_|refine ⟨h.hb,?_⟩|refine ak.xw h rfl rfl fun w h=> ?_|(refine ak.xs h rfl rfl fun w h=> ?_;dsimp only [ao,af] at h)|(refine St.xs h rfl rfl fun w h=> ?_;dsimp only [ao,af] at h)|refine aa.yes ?_|refine aa.no ?_|refine ⟨by first|omega|decide,?_⟩)
   subst h2
   exact hbad 242 _ _ h1 h.tl
 obtain ⟨at_,v,M,P,sum,many⟩:=m
 have hm0:=hm
 unfold j0 at hm0
 dsimp only at hm0
 rcases hm0 with ⟨h1,h2⟩|⟨h1,h2,h3,h4,h5,h6⟩|⟨h1,h2,h3,h4,h5,h6,h7⟩|⟨h1,h2,h3,h4,h5,h6,h7,h8⟩|⟨h1,h2,h3,h4,h5,h6⟩
 ·cases h2
  exact main 0 ea rfl (by kernel_rfl) fun F' w K' h hK=>LJ h hc hK
 ·subst h1 h3 h4 h5 h6
  exact main 1 dY rfl (by kernel_rfl) fun F' w K' h hK=>ME h hn2 h2 hc hK
 ·subst h1 h5 h6 h7
  exact main 2 dp rfl (by kernel_rfl) fun F' w K' h hK=>K4 (M:=M) h (by omega) h4 hc hK
 ·subst h1 h6
  exact main 3 cd rfl (by kernel_rfl) fun F' w K' h hK=>Ke h (.inl rfl) h7 h8 hc hK
 ·subst h1 h2 h3 h4
  exact main 4 cd rfl (by kernel_rfl) fun F' w K' h hK=>Ke h (.inr ⟨rfl,rfl,rfl⟩) h5 h6 hc hK
end
end Go.Proofs.YtcdpblipagajiaaGreat
set_option maxRecDepth 20000
namespace Go.Vc
def pj (l:List Nat) (i:Nat):List Nat:=(List.range l.length).map fun p=>if p<i∨l.length - i≤p then l.getD (l.length - 1 - p) 0 else l.getD p 0
theorem nw (l:List Nat) (i:Nat):(pj l i).length=l.length:=by unfold pj;simp
theorem p6 {l:List Nat} {i p:Nat} (h:p<l.length):(pj l i)[p]? =some (if p<i∨l.length - i≤p then l.getD (l.length - 1 - p) 0 else l.getD p 0):=by
 unfold pj
 rw [List.getElem?_map,List.getElem?_range h];rfl
theorem HQ (l:List Nat):pj l 0=l:=by
 refine List.ext_getElem? fun p=> ?_
 by_cases h:p<l.length
 ·rw [p6 h,if_neg (by omega),List.getElem?_eq_getElem h,List.getD_eq_getElem?_getD,List.getElem?_eq_getElem h];rfl
 ·rw [List.getElem?_eq_none (by rw [nw];omega),List.getElem?_eq_none (by omega)]
theorem Is {l:List Nat} {i:Nat} (h:2*i+1<l.length):((pj l i).set i (l.getD (l.length - 1 - i) 0)).set (l.length - 1 - i) (l.getD i 0)=pj l (i+1):=by
 refine List.ext_getElem? fun p=> ?_
 by_cases hp:p<l.length
 ·rw [p6 hp,List.getElem?_set,List.getElem?_set,p6 hp]
  by_cases h1:l.length - 1 - i=p
  ·subst h1
   rw [if_pos rfl,if_pos (by rw [List.length_set,nw];omega),if_pos (by omega),show l.length - 1 - (l.length - 1 - i)=i by omega]
  ·rw [if_neg h1]
   by_cases h2:i=p
   ·subst h2
    rw [if_pos rfl,if_pos (by rw [nw];omega),if_pos (by omega)]
   ·rw [if_neg h2]
    by_cases h3:p<i∨l.length - i≤p
    ·rw [if_pos h3,if_pos (by omega)]
    ·rw [if_neg h3,if_neg (by omega)]
 ·rw [List.getElem?_eq_none (by rw [List.length_set,List.length_set,nw];omega),List.getElem?_eq_none (by rw [nw];omega)]
theorem KZ {l:List Nat} {i:Nat} (h:l.length≤2*i+1):pj l i=l.reverse:=by
 refine List.ext_getElem? fun p=> ?_
 by_cases hp:p<l.length
 ·rw [p6 hp,List.getElem?_reverse hp]
  have e: ∀q,q<l.length→l[q]? =some (l.getD q 0):=fun q hq=>by rw [List.getD_eq_getElem?_getD,List.getElem?_eq_getElem hq];rfl
  rw [e _ (by omega)]
  by_cases h3:p<i∨l.length - i≤p
  ·rw [if_pos h3]
  ·rw [if_neg h3,show l.length - 1 - p=p by omega]
 ·rw [List.getElem?_eq_none (by rw [nw];omega),List.getElem?_eq_none (by rw [List.length_reverse];omega)]
end Go.Vc
namespace Go.Proofs.YtcdpblipagajiaaGreat
open Go Go.Vc
section
variable {E w:World} {F:List HP}
theorem xZ {s:Sl} {l:List Nat} {K:World→Prop} (h:Hp E w (al 1 s (l.map vB)::F)) (hbig:l.length≤cA) (hK: ∀w',Hp E w' (al 1 s (l.reverse.map vB)::F)→K w'):
  Cl Tryz.prog [] cO ⟨[.slice s.base s.len s.cap]⟩ w K:=by
 refine nH.ok _ _ _ ?_
 have hlen:=h.a6
 rw [List.length_map,Nat.mul_one] at hlen
 rw [aB] at hbig
 rw [ad (by omega)]
 refine ⟨fun i j w'=> ∃k:Nat,i=(k:Int)∧j=(l.length:Int) - 1 - (k:Int)∧k≤l.length∧Hp E w' (al 1 s ((pj l k).map vB)::F),fun i _ _=>l.length - i.toNat,⟨0,rfl,by omega,by omega,by rw [HQ];exact h⟩,?_⟩
 rintro i j w ⟨k,rfl,rfl,hk,h⟩
 refine aa.dm (fun hlt=> ?_) (fun hge=> ?_)
 ·have hg: ∀p,(hp:p<l.length)→((pj l k).map vB)[p]? =some (vB (if p<k∨l.length - k≤p then l.getD (l.length - 1 - p) 0 else l.getD p 0)):=fun p hp=>by rw [List.getElem?_map,p6 hp];rfl
  have hj:((l.length:Int) - 1 - (k:Int)).toNat=l.length - 1 - k:=by omega
  refine au.mk h fun w h=> ?_
  refine aq.rd (h.ag ab.own) (by omega) (by omega) fun q hi hq=> ?_
  have e1:((pj l k).map vB)[((l.length:Int) - 1 - (k:Int)).toNat]'hi=vB (l.getD (l.length - 1 - k) 0):=by
   have:=hg (l.length - 1 - k) (by omega)
   rw [if_neg (by omega)] at this
   rw [List.getElem_eq_iff,hj];exact this
  refine Ld.sc (s:= .int .u8) (l.getD (l.length - 1 - k) 0:Int) (by rw [hq,e1];rfl) ?_
  refine aq.rd (h.ag ab.own) (by omega) (by omega) fun q2 hi2 hq2=> ?_
  have e2:((pj l k).map vB)[((k:Int)).toNat]'hi2=vB (l.getD k 0):=by
   have:=hg k (by omega)
   rw [if_neg (by omega)] at this
   rw [List.getElem_eq_iff,Int.toNat_natCast];exact this
  refine Ld.sc (s:= .int .u8) (l.getD k 0:Int) (by rw [hq2,e2];rfl) ?_
  refine St.own h (by omega) (by omega) rfl fun w h=> ?_
  refine St.own h (by omega) (by omega) rfl fun w h=> ?_
  rw [ad (by omega),ad (by omega)]
  refine ⟨⟨k+1,by omega,by omega,by omega,?_⟩,by first|omega|(dsimp only;omega)⟩
  rw [hj,Int.toNat_natCast] at h
  have e3:(((pj l k).map vB).set k (.int .u8 (l.getD (l.length - 1 - k) 0:Int))).set (l.length - 1 - k) (.int .u8 (l.getD k 0:Int))=(pj l (k+1)).map vB:=by
   rw [←Is (by omega),List.map_set,List.map_set];rfl
  rw [e3] at h
  exact h
 ·rw [KZ (by omega)] at h
  exact hK _ h
end
end Go.Proofs.YtcdpblipagajiaaGreat
set_option maxRecDepth 20000
namespace Go.Proofs.YtcdpblipagajiaaGreat
open Go Go.Vc Go.Hd
section
variable {E w:World} {F:List HP}
theorem L5 {n:Nat} {K:Sl→Int→World→Prop} (h:Hp E w F) (hn:n≤65536) (hK: ∀s w',Hp E w' (al 1 s ((fp n).map vB)::F)→K s 0 w'):Cl Tryz.prog [kS,kI] nZ ⟨[.int .i64 (n:Int)]⟩ w K:=by
 refine FF.ok _ _ _ ?_
 refine aa.df (by omega) (aa.df (by omega) ?_)
 have hm:IntKind.max .i64=9223372036854775807:=rfl
 have and127: ∀m:Nat,m≤65536→bC .i64 (m:Int) 127=((m % 128:Nat):Int):=fun m h=>by
  rw [show (127:Int)=((127:Nat):Int) from rfl,eB (by omega) (by omega),show (127:Nat)=2^7 - 1 from rfl,Nat.and_two_pow_sub_one_eq_mod]
 have hshr: ∀m:Nat,aK .i64 (m:Int) 7=((m/128:Nat):Int):=fun m=>by
  rw [show (7:Int)=((7:Nat):Int) from rfl,cb (by decide)]
 rw [and127 n hn,dH (by omega)]
 refine Nw.mk h fun b3 w h=> ?_
 refine aP (s:=⟨none,0,0⟩) (ys:= [vB (n % 128)]) (n:=1) rb (by decide) (.inl ⟨5,by kernel_rfl⟩) (h.aW 1) (.inl ⟨some ⟨b3,0,none⟩,1,1,rfl,rfl,h.ag (ab.aF rfl rfl)⟩) rfl AL (by decide) (by decide) fun s w h _=> ?_
 refine ⟨by decide,?_⟩
 rw [hshr]
 refine ⟨fun x s w'=> ∃(m:Nat) (l:List Nat),x=(m:Int)∧m≤512∧l.length+m≤513∧rT m++l.reverse=fp n∧Hp E w' (al 1 s (l.map vB)::F),fun x _ _=>x.toNat,⟨n/128,[n % 128],rfl,by omega,by simp;omega,rfl,h.p1.drop⟩,?_⟩
 rintro x s w ⟨m,l,rfl,hm5,hl,hv,h⟩
 refine aa.dm (fun hlt=> ?_) (fun hge=> ?_)
 ·have hm0:0<m:=by omega
  have hor:kR .u8 ((m % 128:Nat):Int) 128=((128+m % 128:Nat):Int):=by
   have hm8:IntKind.max .u8=255:=rfl
   have e:=Nat.two_pow_add_eq_or_of_lt (i:=7) (b:=m % 128) (by omega) 1
   have e2:m % 128|||128=128+m % 128:=by rw [Nat.or_comm];exact e.symm
   rw [show (128:Int)=((128:Nat):Int) from rfl,qy (by omega) (by omega) (by rw [e2];omega),e2]
  rw [and127 m (by omega),dH (by omega),hor]
  have hol:=h.a6
  rw [List.length_map,Nat.mul_one] at hol
  refine Nw.mk h fun b12 w h=> ?_
  refine aP (ys:= [vB (128+m % 128)]) (n:=1) rb (by decide) (.inl ⟨5,by kernel_rfl⟩) h.p1 (.inl ⟨some ⟨b12,0,none⟩,1,1,rfl,rfl,h.ag (ab.aF rfl rfl)⟩) rfl AL (by omega) (by omega) fun s w h _=> ?_
  refine ⟨by decide,?_⟩
  rw [hshr]
  refine ⟨⟨m/128,l++ [128+m % 128],rfl,by omega,by rw [List.length_append,List.length_singleton];omega,?_,by rw [List.map_append];exact h.p1.drop⟩,by first|omega|(dsimp only;omega)⟩
  rw [List.reverse_append,←hv,qb hm0]
  simp
 ·have hm0:m=0:=by omega
  subst hm0
  rw [lN,List.nil_append] at hv
  refine xZ h (by rw [aB];omega) fun w h=>hK s w ?_
  rw [hv] at h
  exact h
end
end Go.Proofs.YtcdpblipagajiaaGreat
namespace Go.Proofs.YtcdpblipagajiaaGreat
open Go Go.Vc
set_option maxRecDepth 100000
theorem Mq.ok (a:Sl) (R:Int→World→Prop) w (h:
 Cl Pg [(az .u32)] rp ⟨[(.int .u32 0),(ah a)]⟩ w fun (c:Int) b=>
 R c b):Cl Pg [(az .u32)] rH ⟨[(ah a)]⟩ w R:=co Tryz.f43 [] h
theorem Kx.ok (a:Int) (R:Sl→World→Prop) w (h:
 Nw 184 ⟨[(.int .u8 0),(.int .u8 0),(.int .u8 0),(.int .u8 0)]⟩ w fun c b=>
 cn 0 b fun d e (f:Int) g=>
 aa (decide (f<4))
 (0≤(i64 ((24:Int) - (i64 ((8:Int)*f))))∧
 av ⟨c,0,none⟩ 4 f 1 fun h=>
 St h (.int .u8 (u8 (aK .u32 a (i64 ((24:Int) - (i64 ((8:Int)*f))))))) g fun i=>
 d (i64 (f+1)) i∧e (i64 (f+1)) i<e f g)
 (bd (⟨some ⟨c,0,none⟩,4,4⟩:Sl) 0 4 4 1 fun j=>
 R j g)):Cl Pg [kS] sX ⟨[(.int .u32 a)]⟩ w R:=co Tryz.f87 [(7,[(5,kI)])] h
theorem I4.ok (a:Int) (b:Sl) (R:Int→World→Prop) w (h:
 Cl Pg [(.arr 256)] p0 ⟨[]⟩ w fun d c=>
 Nw 185 ⟨List.replicate 256 (.int .u32 0)⟩ c fun f e=>
 an 256 ⟨f,0,none⟩ d e fun g=>
 bE (dZ .u32 (if IntKind.signed .u32 then -1 else IntKind.max .u32) a) 0 g fun h i (j:Int) (k:Int) l=>
 aa (decide (k<(b.len:Int)))
 (aq b k 1 fun m=>
 Ld kS m l fun (n:Sl)=>
 bE j 0 l fun o p (q:Int) (r:Int) s=>
 aa (decide (r<(n.len:Int)))
 (aq n r 1 fun t=>
 Ld (az .u8) t s fun (u:Int)=>
 av ⟨f,0,none⟩ 256 (dZ .u8 (u8 q) u) 1 fun v=>
 Ld (az .u32) v s fun (x:Int)=>
 0≤(8:Int)∧
 o (dZ .u32 x (aK .u32 q (8:Int))) (i64 (r+1)) s∧p (dZ .u32 x (aK .u32 q (8:Int))) (i64 (r+1)) s<p q r s)
 (h q (i64 (k+1)) s∧i q (i64 (k+1)) s<i j k l))
 (R (dZ .u32 (if IntKind.signed .u32 then -1 else IntKind.max .u32) j) l)):Cl Pg [(az .u32)] rp ⟨[(.int .u32 a),(ah b)]⟩ w R:=co Tryz.f88 [(9,[(0,(az .u32)),(15,kI)]),(18,[(0,(az .u32)),(21,kI)])] h
theorem Hr.ok (R:(Array Value)→World→Prop) w (h:
 Nw 185 ⟨List.replicate 256 (.int .u32 0)⟩ w fun b a=>
 cn 0 a fun c d (e:Int) f=>
 aa (decide (e<256))
 (Cl Pg [(az .u32)] r4 ⟨[(.int .u8 (u8 e))]⟩ f fun (h:Int) g=>
 av ⟨b,0,none⟩ 256 e 1 fun i=>
 St i (.int .u32 h) g fun j=>
 c (i64 (e+1)) j∧d (i64 (e+1)) j<d e f)
 (Ld (.arr 256) ⟨b,0,none⟩ f fun k=>
 an 256 ⟨b,0,none⟩ k f fun l=>
 Ld (.arr 256) ⟨b,0,none⟩ l fun m=>
 R m l)):Cl Pg [(.arr 256)] p0 ⟨[]⟩ w R:=co Tryz.f132 [(5,[(2,kI)])] h
theorem La.ok (a:Int) (R:Int→World→Prop) w (h:
 bE (u32 a) 0 w fun b c (d:Int) (e:Int) f=>
 aa (decide (e<8))
 (0≤(1:Int)∧
 b (dZ .u32 (aK .u32 d (1:Int)) (u32 ((3988292384:Int)*(bC .u32 d 1)))) (i64 (e+1)) f∧c (dZ .u32 (aK .u32 d (1:Int)) (u32 ((3988292384:Int)*(bC .u32 d 1)))) (i64 (e+1)) f<c d e f)
 (R d f)):Cl Pg [(az .u32)] r4 ⟨[(.int .u8 a)]⟩ w R:=co Tryz.f172 [(7,[(3,(az .u32)),(6,kI)])] h
end Go.Proofs.YtcdpblipagajiaaGreat
namespace Go.Crc
theorem Jk (c:Nat):(c/2)^^^(3988292384*(c % 2))=half c:=by
 unfold half
 rcases Nat.mod_two_eq_zero_or_one c with e|e
 ·rw [e];rfl
 ·rw [e];rfl
def bV:Nat→Nat→Nat
 |0,c=>c
 |k+1,c=>half (bV k c)
theorem sY: ∀(k c:Nat),c<4294967296→bV k c<4294967296
 |0,_,h=>h
 |k+1,c,h=>fM (sY k c h)
end Go.Crc
namespace Go.Proofs.YtcdpblipagajiaaGreat
open Go Go.Vc Go.Crc
section
variable {E w:World} {F:List HP}
theorem Mm {b:Nat} {K:Int→World→Prop} (hb:b<256) (hK:K (row b:Int) w):Cl Tryz.prog [az .u32] r4 ⟨[.int .u8 (b:Int)]⟩ w K:=by
 refine La.ok _ _ _ ?_
 refine ⟨fun c i w'=>w'=w∧∃k:Nat,i=(k:Int)∧k≤8∧c=(bV k b:Int),fun _ i _=>8 - i.toNat,⟨rfl,0,rfl,by omega,by rw [cW (by omega)];rfl⟩,?_⟩
 rintro c i w' ⟨rfl,k,rfl,hk,rfl⟩
 refine aa.dm (fun hlt=> ?_) (fun hge=> ?_)
 ·have hlt:k<8:=by omega
  have hb:=sY k b (by omega)
  have hm:IntKind.max .u32=4294967295:=rfl
  have h2:=fM hb
  have e1:aK .u32 (bV k b:Int) 1=((bV k b/2:Nat):Int):=by
   rw [show (1:Int)=((1:Nat):Int) from rfl,cb (by decide)]
  have e2:bC .u32 (bV k b:Int) 1=((bV k b % 2:Nat):Int):=by
   rw [show (1:Int)=((1:Nat):Int) from rfl,eB (by omega) (by omega),Nat.and_one_is_mod]
  have e3:u32 ((3988292384:Int)*((bV k b % 2:Nat):Int))=((3988292384*(bV k b % 2):Nat):Int):=by
   rw [cW (by omega)];omega
  have e4:dZ .u32 ((bV k b/2:Nat):Int) ((3988292384*(bV k b % 2):Nat):Int)=(bV (k+1) b:Int):=by
   have hh:=Jk (bV k b)
   rw [gZ (by omega) (by omega) (by rw [hh];omega),hh];rfl
  rw [e1,e2,e3,e4,ad (by omega)]
  exact ⟨by decide,⟨rfl,k+1,rfl,by omega,rfl⟩,by dsimp only;omega⟩
 ·have:k=8:=by omega
  subst this
  exact hK
def fo:List Nat:=(List.range 256).map row
theorem oI:fo.length=256:=by unfold fo;simp
theorem AW {b:Nat} (h:b<256):fo[b]? =some (row b):=by unfold fo;rw [List.getElem?_map,List.getElem?_range h];rfl
abbrev jm (l:List Nat):List Value:=l.map fun (n:Nat)=>Value.int .u32 (n:Int)
theorem vH {l:List Nat}:(jm l).all aA=true:=by
 unfold jm
 rw [List.all_map]
 exact List.all_eq_true.2 fun _ _=>rfl
set_option maxRecDepth 20000
theorem LG {K:Array Value→World→Prop} (h:Hp E w F) (hK: ∀w',Hp E w' F→K ⟨jm fo⟩ w'):Cl Tryz.prog [.arr 256] p0 ⟨[]⟩ w K:=by
 refine Hr.ok _ _ ?_
 refine Nw.mk h fun b2 w h=> ?_
 have hlen: ∀k,k≤256→(jm (fo.take k++List.replicate (256 - k) 0)).length=256:=fun k hk=>by simp [oI];omega
 refine ⟨fun i w'=> ∃k:Nat,i=(k:Int)∧k≤256∧Hp E w' (aj b2 (.cells ⟨jm (fo.take k++List.replicate (256 - k) 0)⟩ 185 (0,0))::F),fun i _=>256 - i.toNat,⟨0,rfl,by omega,by
  have:(⟨jm (fo.take 0++List.replicate (256 - 0) 0)⟩:Array Value)=⟨List.replicate 256 (.int .u32 0)⟩:=by simp
  rw [this];exact h⟩,?_⟩
 rintro i w ⟨k,rfl,hk,h⟩
 refine aa.dm (fun hlt=> ?_) (fun hge=> ?_)
 ·have hlt:k<256:=by omega
  rw [dH (by omega)]
  refine Mm hlt ?_
  refine ⟨by omega,by omega,?_⟩
  rw [show ((k:Int)).toNat*1=k by omega]
  simp only [ar,Nat.zero_add]
  have hkl:=hlen k (by omega)
  refine St.xb h (by show k<(jm (fo.take k++List.replicate (256 - k) 0)).length;omega) rfl fun w h=> ?_
  rw [ad (by omega)]
  refine ⟨⟨k+1,rfl,by omega,?_⟩,by first|omega|(dsimp only;omega)⟩
  have e:(⟨jm (fo.take k++List.replicate (256 - k) 0)⟩:Array Value).setIfInBounds k (.int .u32 (row k:Int))=⟨jm (fo.take (k+1)++List.replicate (256 - (k+1)) 0)⟩:=by
   apply Array.ext'
   rw [Array.toList_setIfInBounds]
   have:(jm (fo.take k++List.replicate (256 - k) 0)).set k (.int .u32 (row k:Int))=jm ((fo.take k++List.replicate (256 - k) 0).set k (row k)):=by rw [jm,jm,List.map_set]
   have hl:(fo.take k).length=k:=by rw [List.length_take,oI];omega
   rw [this,List.set_append_right _ _ (by omega),hl,Nat.sub_self]
   obtain ⟨m,hm⟩: ∃m,256 - k=m+1:=⟨255 - k,by omega⟩
   rw [hm,List.replicate_succ,List.set_cons_zero,List.take_add_one,AW hlt,show 256 - (k+1)=m by omega]
   simp
  rw [e] at h
  exact h
 ·have hk2:k=256:=by omega
  subst hk2
  have e:(⟨jm (fo.take 256++List.replicate (256 - 256) 0)⟩:Array Value)=⟨jm fo⟩:=by
   rw [List.take_of_length_le (by rw [oI];omega)];simp
  rw [e] at h
  have hn:(⟨jm fo⟩:Array Value).size=256:=by simp [oI]
  refine Ld.xw h hn ?_
  refine an.q h hn hn vH fun w h=> ?_
  exact Ld.xw h hn (hK _ h.tl)
theorem Ns:(if IntKind.signed .u32 then (-1:Int) else IntKind.max .u32)=((4294967295:Nat):Int):=rfl
theorem J1 {c:Nat} (h:c<4294967296):dZ .u32 (if IntKind.signed .u32 then (-1:Int) else IntKind.max .u32) (c:Int)=((c^^^4294967295:Nat):Int):=by
 have hm:IntKind.max .u32=4294967295:=rfl
 have hx:4294967295^^^c<2^32:=Nat.xor_lt_two_pow (by decide) (by omega)
 rw [Ns,gZ (by omega) (by omega) (by omega),Nat.xor_comm]
theorem HY {c x:Nat} (hc:c<4294967296) (hx:x<256):dZ .u8 (u8 (c:Int)) (x:Int)=((c % 256^^^x:Nat):Int):=by
 have hm:IntKind.max .u8=255:=rfl
 have h2:c % 256^^^x<2^8:=Nat.xor_lt_two_pow (by omega) (by omega)
 rw [sJ,show ((c:Int) % 256)=((c % 256:Nat):Int) by omega,gZ (by omega) (by omega) (by omega)]
theorem tH {c x:Nat} (hx:x<256):c % 256^^^x<256:=by
 have:c % 256^^^x<2^8:=Nat.xor_lt_two_pow (by omega) (by omega)
 omega
theorem GV {c x:Nat} (hc:c<4294967296) (hx:x<256):dZ .u32 (row (c % 256^^^x):Int) (aK .u32 (c:Int) 8)=(Crc.step c x:Int):=by
 have hm:IntKind.max .u32=4294967295:=rfl
 have hr:=Ac (c:=c % 256^^^x) (by have:=tH (c:=c) hx;omega)
 have hs:=xp hc hx
 unfold Crc.step at hs⊢
 rw [show (8:Int)=((8:Nat):Int) from rfl,cb (by decide),show (2:Nat)^8=256 from rfl,gZ (by omega) (by omega) (by omega)]
end
end Go.Proofs.YtcdpblipagajiaaGreat
namespace Go.Proofs.YtcdpblipagajiaaGreat
open Go Go.Vc Go.Bits
section
variable {E w:World} {F:List HP}
set_option maxRecDepth 20000
theorem yI {bs:List (List Nat)} {k:Nat} (h:k<bs.length):(bs.take (k+1)).flatten=(bs.take k).flatten++bs.getD k []:=by
 rw [List.take_add_one,List.flatten_append]
 congr 1
 simp [h]
theorem Nb {b:Nat} (h:b<256):(⟨jm fo⟩:Array Value)[b]? =some (Sc.enc (.int .u32) (Crc.row b:Int)):=by
 rw [List.getElem?_toArray,jm,List.getElem?_map,AW h];rfl
theorem KA {c:Nat} {K:Int→World→Prop} {s:Sl} {cs:List Sl} {bs:List (List Nat)} (h:Hp E w F) (hc0:c<4294967296)
  (hs:ab F (aC 1 s (cs.map fun x=> .slice x.base x.len x.cap))) (hl:cs.length=bs.length) (hcl:cs.length≤cA) (hc: ∀i (h:i<cs.length),ab F (aC 1 cs[i] ((bs.getD i []).map vB)))
  (hby: ∀b∈bs,∀y∈b,y<256) (hbig: ∀b∈bs,b.length≤cA)
  (hK: ∀w',Hp E w' F→K ((Crc.feed (c^^^4294967295) bs.flatten^^^4294967295:Nat):Int) w'):Cl Tryz.prog [az .u32] rp ⟨[.int .u32 (c:Int),.slice s.base s.len s.cap]⟩ w K:=by
 refine I4.ok _ _ _ _ ?_
 have hlen:s.len=cs.length:=by have:=(h.ag hs).1;simpa using this.symm
 have hflat: ∀y∈bs.flatten,y<256:=fun y hy=>by
  obtain ⟨b,hb1,hb2⟩:=List.mem_flatten.1 hy
  exact hby b hb1 y hb2
 have hc1:c^^^4294967295<4294967296:=Nat.xor_lt_two_pow (n:=32) hc0 (by decide)
 rw [aB] at hcl
 refine LG h fun w h=>Nw.mk h fun b6 w h=> ?_
 have hn:(⟨jm fo⟩:Array Value).size=256:=by simp [oI]
 refine an.q h (by simp) hn vH fun w h=> ?_
 rw [J1 hc0]
 refine ⟨fun x i w'=> ∃k:Nat,i=(k:Int)∧k≤cs.length∧x=(Crc.feed (c^^^4294967295) (bs.take k).flatten:Int)∧Hp E w' (aj b6 (.cells ⟨jm fo⟩ 185 (0,0))::F),fun _ i _=>cs.length - i.toNat,⟨0,rfl,by omega,rfl,h⟩,?_⟩
 rintro x i w ⟨k,rfl,hk,rfl,h⟩
 refine aa.dm (fun hlt=> ?_) (fun hge=> ?_)
 ·have hlt:k<cs.length:=by omega
  have hkb:k<bs.length:=by omega
  refine aq.rd (h.tl.ag hs) (by omega) (by omega) fun q hi hq=> ?_
  have hq':w.cell? q=some (Sc.sl.enc cs[k]):=by simpa using hq
  refine Ld.sc _ hq' ?_
  have hgd:bs.getD k []=bs[k]:=by rw [List.getD_eq_getElem?_getD,List.getElem?_eq_getElem hkb];rfl
  have hck:=hc k hlt
  rw [hgd] at hck
  have hmem:=List.getElem_mem hkb
  have hblen:=hbig _ hmem
  rw [aB] at hblen
  have hlk:=(h.tl.ag hck).1
  simp only [List.length_map,Nat.mul_one] at hlk
  refine ⟨fun x i w'=> ∃j:Nat,i=(j:Int)∧j≤bs[k].length∧x=(Crc.feed (c^^^4294967295) ((bs.take k).flatten++bs[k].take j):Int)∧Hp E w' (aj b6 (.cells ⟨jm fo⟩ 185 (0,0))::F),fun _ i _=>bs[k].length - i.toNat,⟨0,rfl,by omega,by simp,h⟩,?_⟩
  rintro x i w ⟨j,rfl,hj,rfl,h⟩
  have hpre: ∀y∈(bs.take k).flatten++bs[k].take j,y<256:=fun y hy=>by
   rcases List.mem_append.1 hy with hy|hy
   ·obtain ⟨b,hb1,hb2⟩:=List.mem_flatten.1 hy
    exact hby b (List.mem_of_mem_take hb1) y hb2
   ·exact hby _ hmem y (List.mem_of_mem_take hy)
  have hfl:=Crc.nu _ _ hc1 hpre
  refine aa.dm (fun hlt2=> ?_) (fun hge2=> ?_)
  ·have hjl:j<bs[k].length:=by omega
   have hy:=hby _ hmem _ (List.getElem_mem hjl)
   refine aq.rd (h.tl.ag hck) (by omega) (by omega) fun q hi hq=> ?_
   refine Ld.sc (s:= .int .u8) (bs[k][j]:Int) (by simpa [vB] using hq) ?_
   rw [HY hfl hy]
   refine av.rd (s:= .int .u32) h (by omega) (by have:=tH (c:=Crc.feed (c^^^4294967295) ((bs.take k).flatten++bs[k].take j)) hy;omega) (Crc.row (Crc.feed (c^^^4294967295) ((bs.take k).flatten++bs[k].take j) % 256^^^bs[k][j]):Int) ?_ ?_
   ·rw [Int.toNat_natCast]
    exact Nb (tH (c:=Crc.feed (c^^^4294967295) ((bs.take k).flatten++bs[k].take j)) hy)
   rw [GV hfl hy,ad (by omega)]
   refine ⟨by decide,⟨j+1,rfl,by omega,?_,h⟩,by first|omega|(dsimp only;omega)⟩
   rw [List.take_add_one,List.getElem?_eq_getElem hjl,←List.append_assoc,Crc.Ae ((bs.take k).flatten++bs[k].take j)];rfl
  ·have hjl:j=bs[k].length:=by omega
   subst hjl
   rw [ad (by omega),List.take_length]
   exact ⟨⟨k+1,rfl,by omega,by rw [yI hkb,hgd],h⟩,by first|omega|(dsimp only;omega)⟩
 ·have hkl:k=bs.length:=by omega
  subst hkl
  rw [List.take_length]
  have hfl:=Crc.nu _ _ hc1 hflat
  rw [J1 hfl]
  exact hK _ h.tl
theorem JN {K:Int→World→Prop} {s:Sl} {cs:List Sl} {bs:List (List Nat)} (h:Hp E w F)
  (hs:ab F (aC 1 s (cs.map fun x=> .slice x.base x.len x.cap))) (hl:cs.length=bs.length) (hcl:cs.length≤cA) (hc: ∀i (h:i<cs.length),ab F (aC 1 cs[i] ((bs.getD i []).map vB)))
  (hby: ∀b∈bs,∀y∈b,y<256) (hbig: ∀b∈bs,b.length≤cA)
  (hK: ∀w',Hp E w' F→K (Crc.lf bs.flatten:Int) w'):Cl Tryz.prog [az .u32] rH ⟨[.slice s.base s.len s.cap]⟩ w K:=by
 refine Mq.ok _ _ _ ?_
 exact KA (c:=0) h (by decide) hs hl hcl hc hby hbig hK
end
end Go.Proofs.YtcdpblipagajiaaGreat
namespace Go.Proofs.YtcdpblipagajiaaGreat
open Go Go.Vc Go.Bits
section
variable {E w:World} {F:List HP}
set_option maxRecDepth 20000
theorem Lo {c k:Nat} (hk:k<4):(Hd.gn c)[k]? =some (c/2^(24 - 8*k) % 256):=by
 match k,hk with
 |0,_=>rfl
 |1,_=>rfl
 |2,_=>rfl
 |3,_=>simp [Hd.gn]
theorem MY {c:Nat} {K:Sl→World→Prop} (h:Hp E w F) (hc:c<4294967296) (hK: ∀s w',Hp E w' (al 1 s ((Hd.gn c).map vB)::F)→K s w'):Cl Tryz.prog [kS] sX ⟨[.int .u32 (c:Int)]⟩ w K:=by
 refine Kx.ok _ _ _ ?_
 refine Nw.mk h fun b3 w h=> ?_
 have hlen: ∀k,k≤4→(((Hd.gn c).take k++List.replicate (4 - k) 0).map vB).length=4:=fun k hk=>by
  rw [List.length_map,List.length_append,List.length_take,List.length_replicate,show (Hd.gn c).length=4 from rfl];omega
 refine ⟨fun i w'=> ∃k:Nat,i=(k:Int)∧k≤4∧Hp E w' (aj b3 (.cells ⟨((Hd.gn c).take k++List.replicate (4 - k) 0).map vB⟩ 184 (0,0))::F),fun i _=>4 - i.toNat,⟨0,rfl,by omega,h⟩,?_⟩
 rintro i w ⟨k,rfl,hk,h⟩
 refine aa.dm (fun hlt=> ?_) (fun hge=> ?_)
 ·have hlt:k<4:=by omega
  rw [ad (x:=(8:Int)*(k:Int)) (by omega),ad (by omega),show (24:Int) - 8*(k:Int)=((24 - 8*k:Nat):Int) by omega,cb (by have:IntKind.bits .u32=32:=rfl;omega),sJ,ad (by omega)]
  refine ⟨by omega,by omega,by omega,?_⟩
  rw [show ((k:Int)).toNat*1=k by omega]
  simp only [ar,Nat.zero_add]
  have hkl:=hlen k (by omega)
  refine St.xb h (by show k<(((Hd.gn c).take k++List.replicate (4 - k) 0).map vB).length;omega) rfl fun w h=> ?_
  refine ⟨⟨k+1,rfl,by omega,?_⟩,by first|omega|(dsimp only;omega)⟩
  have e:(⟨((Hd.gn c).take k++List.replicate (4 - k) 0).map vB⟩:Array Value).setIfInBounds k (.int .u8 (((c/2^(24 - 8*k):Nat):Int) % 256))=⟨((Hd.gn c).take (k+1)++List.replicate (4 - (k+1)) 0).map vB⟩:=by
   apply Array.ext'
   rw [Array.toList_setIfInBounds]
   have e1:(Value.int .u8 (((c/2^(24 - 8*k):Nat):Int) % 256))=vB (c/2^(24 - 8*k) % 256):=by
    unfold vB;congr 1
   have hl:((Hd.gn c).take k).length=k:=by rw [List.length_take,show (Hd.gn c).length=4 from rfl];omega
   obtain ⟨m,hm⟩: ∃m,4 - k=m+1:=⟨3 - k,by omega⟩
   show (((Hd.gn c).take k++List.replicate (4 - k) 0).map vB).set k _=_
   rw [e1,←List.map_set,List.set_append_right _ _ (by omega),hl,Nat.sub_self,hm,List.replicate_succ,List.set_cons_zero,List.take_add_one,Lo hlt,show 4 - (k+1)=m by omega]
   simp
  rw [e] at h
  exact h
 ·have hk4:k=4:=by omega
  subst hk4
  rw [List.take_of_length_le (Nat.le_refl 4:(Hd.gn c).length≤4),Nat.sub_self,List.replicate_zero,List.append_nil] at h
  refine bd.whole (by decide) rfl rfl ?_
  refine hK _ w (h.dh (n:=4) (sz:=1) rfl)
end
end Go.Proofs.YtcdpblipagajiaaGreat
set_option maxRecDepth 20000
namespace Go.Proofs.YtcdpblipagajiaaGreat
open Go Go.Vc Go.Srt Go.Inc Go.Hd
theorem fu {n:Nat} (h:n≤65536):(fp n).length≤4:=by
 unfold fp
 have: ∀k m:Nat,m<128^k→(rT m).length≤k:=by
  intro k
  induction k with
  |zero=>intro m hm;have:m=0:=by simpa using hm
         rw [this,lN];exact Nat.le_refl _
  |succ k ih=>
   intro m hm
   rcases Nat.eq_zero_or_pos m with e|e
   ·rw [e,lN];exact Nat.zero_le _
   ·rw [qb e,List.length_append,List.length_singleton]
    have:=ih (m/128) (by rw [Nat.pow_succ] at hm;omega)
    omega
 have:=this 3 (n/128) (by omega)
 rw [List.length_append,List.length_singleton];omega
section
variable {E w:World} {F:List HP}
theorem zc {n:Nat} {most:Int} {K:Sl→Bool→World→Prop} (h:Hp E w F) (hn:n≤65536) (hK: ∀s w',Hp E w' (al 1 s ((fp n).map vB)::F)→K s (decide (1≤(n:Int)∧(n:Int)≤most)) w'):
  Cl Tryz.prog [kS,kB] gO ⟨[.int .i64 (n:Int),.int .i64 most]⟩ w K:=by
 refine zh.ok _ _ _ _ ?_
 exact L5 h hn fun s w h=>c7 (hK _ _ h)
theorem Gu {n:Int} {M P u:Nat} {K:Sl→Int→World→Prop} (h:Hp E w F) (hM:M≤65536) (hP:P≤65536) (hu:u<4294967296)
  (hgood:1≤n→n≤65536→1≤M→(M:Int)≤n→1≤P→P≤M→∀s w',Hp E w' (al 1 s ((fR M P u).map vB)::F)→K s 0 w')
  (hbad: ¬(1≤n∧n≤65536∧1≤M∧(M:Int)≤n∧1≤P∧P≤M)→∀w',Hp E w' F→K ⟨none,0,0⟩ 2 w'):
  Cl Tryz.prog [kS,kI] jc ⟨[.int .i64 n,.agg ⟨[.int .i64 (M:Int),.int .i64 (P:Int),.int .u32 (u:Int)]⟩]⟩ w K:=by
 refine wR.ok _ ((M:Int),(P:Int),(u:Int),()) _ _ ?_
 (try simp only [aD,aw,ar,Nat.zero_add,Nat.add_zero,Nat.reduceAdd,Bool.not_true,Bool.not_false,aZ,aX,Option.isNone])
 (with_reducible repeat first|refine Nw.mk h fun b w h=> ?_|refine au.mk h fun w h=> ?_|refine Ld.xb h rfl ?_|refine Ld.xt h rfl ?_|refine ae.xb (fun _ h=>h) rfl ?_|refine ae.xt (fun _ h=>h) rfl ?_|refine ⟨h.hb,?_⟩|refine ak.xw h rfl rfl fun w h=> ?_|(refine ak.xs h rfl rfl fun w h=> ?_;dsimp only [ao,af] at h)|(refine St.xs h rfl rfl fun w h=> ?_;dsimp only [ao,af] at h)|refine aa.yes ?_|refine aa.no ?_|refine ⟨by first|omega|decide,?_⟩)
 refine zc h hM fun s1 w h=> ?_
 (with_reducible repeat first|refine Nw.mk h fun b w h=> ?_|refine au.mk h fun w h=> ?_|refine Ld.xb h rfl ?_|refine Ld.xt h rfl ?_|refine ae.xb (fun _ h=>h) rfl ?_|refine ae.xt (fun _ h=>h) rfl ?_|refine ⟨h.hb,?_⟩|refine ak.xw h rfl rfl fun w h=> ?_|(refine ak.xs h rfl rfl fun w h=> ?_;dsimp only [ao,af] at h)|(refine St.xs h rfl rfl fun w h=> ?_;dsimp only [ao,af] at h)|refine aa.yes ?_|refine aa.no ?_|refine ⟨by first|omega|decide,?_⟩)
 refine zc h hP fun s2 w h=>c7 ?_
 by_cases hn:1≤n∧n≤65536
 ·refine aa.JX hn ?_
  by_cases hm:1≤(M:Int)∧(M:Int)≤n
  ·refine aa.JX hm ?_
   by_cases hp:1≤(P:Int)∧(P:Int)≤(M:Int)
   ·refine aa.JX hp ?_
    (with_reducible repeat first|refine Nw.mk h fun b w h=> ?_|refine au.mk h fun w h=> ?_|refine Ld.xb h rfl ?_|refine Ld.xt h rfl ?_|refine ae.xb (fun _ h=>h) rfl ?_|refine ae.xt (fun _ h=>h) rfl ?_|refine ⟨h.hb,?_⟩|refine ak.xw h rfl rfl fun w h=> ?_|(refine ak.xs h rfl rfl fun w h=> ?_;dsimp only [ao,af] at h)|(refine St.xs h rfl rfl fun w h=> ?_;dsimp only [ao,af] at h)|refine aa.yes ?_|refine aa.no ?_|refine ⟨by first|omega|decide,?_⟩)
    refine MY h hu fun s3 w h=>Nw.mk h fun b22 w h=> ?_
    have l1:=fu hM
    have l2:=fu hP
    refine IS (s:=⟨some ⟨b22,0,none⟩,4,4⟩) (cs:= [⟨some ⟨b,0,none⟩,1,1⟩,s1,s2,s3]) (bs:= [[1],fp M,fp P,gn u]) h (ab.aF rfl rfl) rfl (by rw [aB];simp) ?_ ?_ fun s w h=> ?_
    ·intro i hi
     match i,hi with
     |0,_=>exact ab.at 2 (ab.aF rfl rfl)
     |1,_=>exact ab.at 4 ab.own
     |2,_=>exact ab.at 3 ab.own
     |3,_=>exact ab.at 1 ab.own
    ·rw [aB]
     simp [gn]
     omega
    ·refine hgood hn.1 hn.2 (by omega) hm.2 (by omega) (by omega) s w ?_
     have e: [[1],fp M,fp P,gn u].flatten=fR M P u:=by simp [fR]
     rw [e] at h
     exact h.bY
   ·exact aa.JY hp (hbad (by omega) _ h.tl)
  ·exact aa.JY hm (hbad (by omega) _ h.tl)
 ·exact aa.JY hn (hbad (by omega) _ h.tl)
theorem lG {α σ β ε:Type} {f:σ→α→wP σ β ε} {s s':σ} {l:List α} {k:Nat} (h:run f s (l.take k)= .short s'):run f s l=run f s' (l.drop k):=by
 conv=>lhs;rw [←List.take_append_drop k l]
 exact cU h _
theorem Ha {n:Nat} {st:MS} {c e:Nat} (he:aL n st c= .bad e):e=242:=by
 unfold aL at he
 repeat' split at he
 all_goals first|cases he;rfl|cases he
abbrev Ds:ej:=(0,0,0,0,0,0,0,())
theorem Cu {n:Int} {s:Sl} {K:ej→Sl→Int→World→Prop} (h:Hp E w F) (hn: ¬(1≤n∧n≤65536)) (hK: ∀w',Hp E w' F→K Ds ⟨none,0,0⟩ 2 w'):
  Cl Tryz.prog [.st [.int .i64,.int .i64,.int .i64,.int .i64,.int .i64,.int .u32,.int .i64],kS,kI] fB ⟨[.int .i64 n,.slice s.base s.len s.cap]⟩ w K:=by
 refine pd.ok _ _ _ _ ?_
 (try simp only [aD,aw,ar,Nat.zero_add,Nat.add_zero,Nat.reduceAdd,Bool.not_true,Bool.not_false,aZ,aX,Option.isNone])
 refine Nw.mk h fun b w h=>c7 (aa.JY hn ?_)
 (with_reducible repeat first|refine Nw.mk h fun b w h=> ?_|refine au.mk h fun w h=> ?_|refine Ld.xb h rfl ?_|refine Ld.xt h rfl ?_|refine ae.xb (fun _ h=>h) rfl ?_|refine ae.xt (fun _ h=>h) rfl ?_|refine ⟨h.hb,?_⟩|refine ak.xw h rfl rfl fun w h=> ?_|(refine ak.xs h rfl rfl fun w h=> ?_;dsimp only [ao,af] at h)|(refine St.xs h rfl rfl fun w h=> ?_;dsimp only [ao,af] at h)|refine aa.yes ?_|refine aa.no ?_|refine ⟨by first|omega|decide,?_⟩)
 exact hK w h.tl
theorem I1 {n:Nat} {s:Sl} {bs:List Nat} {K:ej→Sl→Int→World→Prop} (h:Hp E w F) (hn:1≤n) (hn2:n≤65536) (hs:ab F (aC 1 s (bs.map vB))) (hb: ∀y∈bs,y<256) (hbig:bs.length≤cA) (hcap:s.len≤s.cap)
  (hshort: ∀s' w',run (aL n) iB bs= .short s'→Hp E w' F→K Ds ⟨none,0,0⟩ 50 w')
  (hbad: ∀w',run (aL n) iB bs= .bad 242→Hp E w' F→K Ds ⟨none,0,0⟩ 242 w')
  (hblk: ∀M P u r s' w',run (aL n) iB bs= .fin (.aF M P u) r→Hp E w' (al 1 s' (r.map vB)::F)→K (4,0,0,(M:Int),(P:Int),(u:Int),4,()) s' 0 w')
  (htail: ∀u r s' w',run (aL n) iB bs= .fin (.tail u) r→Hp E w' (al 1 s' (r.map vB)::F)→K (6,0,0,0,0,(u:Int),4,()) s' 0 w'):
  Cl Tryz.prog [.st [.int .i64,.int .i64,.int .i64,.int .i64,.int .i64,.int .u32,.int .i64],kS,kI] fB ⟨[.int .i64 (n:Int),.slice s.base s.len s.cap]⟩ w K:=by
 refine pd.ok _ _ _ _ ?_
 (try simp only [aD,aw,ar,Nat.zero_add,Nat.add_zero,Nat.reduceAdd,Bool.not_true,Bool.not_false,aZ,aX,Option.isNone])
 have hlen:bs.length=s.len:=by have:=(h.ag hs).1;simpa using this
 rw [aB] at hbig
 refine Nw.mk h fun b4 w h=>c7 (aa.JX (show (1:Int)≤(n:Int)∧(n:Int)≤65536 by omega) ?_)
 refine ⟨fun i w'=> ∃(k:Nat) (st:MS),i=(k:Int)∧k≤bs.length∧j0 n st∧run (aL n) iB (bs.take k)= .short st∧
  Hp E w' (aj b4 (.cells ⟨[.int .i64 (st.at_:Int),.int .i64 (st.v:Int),.int .i64 (vm st.v:Int),.int .i64 (st.M:Int),.int .i64 (st.P:Int),.int .u32 (st.sum:Int),.int .i64 (st.many:Int)]⟩ 74 (0,0))::F),
  fun i _=>bs.length - i.toNat,⟨0,iB,rfl,by omega,.inl ⟨rfl,rfl⟩,rfl,h⟩,?_⟩
 rintro i w ⟨k,st,rfl,hk,hst,hrun,h⟩
 refine aa.dm (fun hlt=> ?_) (fun hge=> ?_)
 ·have hlt:k<bs.length:=by omega
  refine aq.rd (h.tl.ag hs) (by omega) (by omega) fun q hi hq=> ?_
  have hby:bs[k]<256:=hb _ (List.getElem_mem _)
  refine Ld.sc (s:= .int .u8) (bs[k]:Int) (by rw [hq];simp [Sc.enc,vB]) ?_
  (with_reducible repeat first|refine Nw.mk h fun b w h=> ?_|refine au.mk h fun w h=> ?_|refine Ld.xb h rfl ?_|refine Ld.xt h rfl ?_|refine ae.xb (fun _ h=>h) rfl ?_|refine ae.xt (fun _ h=>h) rfl ?_|refine ⟨h.hb,?_⟩|refine ak.xw h rfl rfl fun w h=> ?_|(refine ak.xs h rfl rfl fun w h=> ?_;dsimp only [ao,af] at h)|(refine St.xs h rfl rfl fun w h=> ?_;dsimp only [ao,af] at h)|refine aa.yes ?_|refine aa.no ?_|refine ⟨by first|omega|decide,?_⟩)
  have done: ∀{w:World} {A B C D G:Int} {b:Nat},Hp E w (aj b (.cells ⟨[.int .i64 A,.int .i64 0,.int .i64 0,.int .i64 B,.int .i64 C,.int .u32 D,.int .i64 G]⟩ 74 (0,0))::aj b4 (.cells ⟨[.int .i64 A,.int .i64 0,.int .i64 0,.int .i64 B,.int .i64 C,.int .u32 D,.int .i64 G]⟩ 74 (0,0))::F)→
    (∀s' w',Hp E w' (al 1 s' ((bs.drop (k+1)).map vB)::F)→K (A,0,0,B,C,D,G,()) s' 0 w')→
    cL w fun S28 w_29=>ae (.st [.int .i64,.int .i64,.int .i64,.int .i64,.int .i64,.int .u32,.int .i64]) (⟨b4,0,none⟩:Addr) S28 fun x30=>
     bd s (i64 ((k:Int)+1)) (s.len:Int) (s.cap:Int) 1 fun s31=>Cl Tryz.prog [kS] dW ⟨[.slice s31.base s31.len s31.cap]⟩ w_29 fun r33 w_32=>S28 w_32∧
     ak (⟨b4,0,none⟩:Addr) [(.int .i64 x30.1),(.int .i64 x30.2.1),(.int .i64 x30.2.2.1),(.int .i64 x30.2.2.2.1),(.int .i64 x30.2.2.2.2.1),(.int .u32 x30.2.2.2.2.2.1),(.int .i64 x30.2.2.2.2.2.2.1)] 0 w_32 fun w_34=>S28 w_34∧
     Ld (.st [.int .i64,.int .i64,.int .i64,.int .i64,.int .i64,.int .u32,.int .i64]) (⟨b4,0,none⟩:Addr) w_34 fun res35=>K res35 r33 0 w_34:=by
   intro w A B C D G b h hk
   have h:=h.drew (n:=w.drawn+1)
   refine ⟨bQ b4 _ _ _,h.hb,?_⟩
   (with_reducible repeat first|refine Nw.mk h fun b w h=> ?_|refine au.mk h fun w h=> ?_|refine Ld.xb h rfl ?_|refine Ld.xt h rfl ?_|refine ae.xb (fun _ h=>h) rfl ?_|refine ae.xt (fun _ h=>h) rfl ?_|refine ⟨h.hb,?_⟩|refine ak.xw h rfl rfl fun w h=> ?_|(refine ak.xs h rfl rfl fun w h=> ?_;dsimp only [ao,af] at h)|(refine St.xs h rfl rfl fun w h=> ?_;dsimp only [ao,af] at h)|refine aa.yes ?_|refine aa.no ?_|refine ⟨by first|omega|decide,?_⟩)
   rw [ad (by omega)]
   refine bd.rd (h.tl.ag hs) (by omega) (by omega) (by omega) (by omega) (by omega) fun s' hs' hl'=> ?_
   have e1:(bs.map vB).drop ((k:Int)+1).toNat=(bs.drop (k+1)).map vB:=by rw [show ((k:Int)+1).toNat=k+1 by omega,List.map_drop]
   rw [e1,List.take_of_length_le (by simp;omega)] at hs'
   have hT:ab F (aC 1 s' ((bs.drop (k+1)).map vB)):=hs.imp fun w h=>hs' w h
   refine xU h (ab.cons (ab.cons hT)) (by simp;rw [aB];omega) fun s2 w h=>⟨h.hb,?_⟩
   (with_reducible repeat first|refine Nw.mk h fun b w h=> ?_|refine au.mk h fun w h=> ?_|refine Ld.xb h rfl ?_|refine Ld.xt h rfl ?_|refine ae.xb (fun _ h=>h) rfl ?_|refine ae.xt (fun _ h=>h) rfl ?_|refine ⟨h.hb,?_⟩|refine ak.xw h rfl rfl fun w h=> ?_|(refine ak.xs h rfl rfl fun w h=> ?_;dsimp only [ao,af] at h)|(refine St.xs h rfl rfl fun w h=> ?_;dsimp only [ao,af] at h)|refine aa.yes ?_|refine aa.no ?_|refine ⟨by first|omega|decide,?_⟩)
   exact hk s2 w h.bY
  refine Lg h hn hn2 hst hby (fun st' w he h=> ?_) (fun M P u w he h=> ?_) (fun u w he h=> ?_) (fun e o w he h=> ?_)
  ·(with_reducible repeat first|refine Nw.mk h fun b w h=> ?_|refine au.mk h fun w h=> ?_|refine Ld.xb h rfl ?_|refine Ld.xt h rfl ?_|refine ae.xb (fun _ h=>h) rfl ?_|refine ae.xt (fun _ h=>h) rfl ?_|refine ⟨h.hb,?_⟩|refine ak.xw h rfl rfl fun w h=> ?_|(refine ak.xs h rfl rfl fun w h=> ?_;dsimp only [ao,af] at h)|(refine St.xs h rfl rfl fun w h=> ?_;dsimp only [ao,af] at h)|refine aa.yes ?_|refine aa.no ?_|refine ⟨by first|omega|decide,?_⟩)
   rw [ad (by omega)]
   refine ⟨⟨k+1,st',rfl,by omega,uV hst hby he,?_,(h.no 0)⟩,by first|omega|(dsimp only;omega)⟩
   rw [List.take_add_one,List.getElem?_eq_getElem hlt]
   show run (aL n) iB (bs.take k++ [bs[k]])=_
   rw [cU hrun,bK he];rfl
  ·(with_reducible repeat first|refine Nw.mk h fun b w h=> ?_|refine au.mk h fun w h=> ?_|refine Ld.xb h rfl ?_|refine Ld.xt h rfl ?_|refine ae.xb (fun _ h=>h) rfl ?_|refine ae.xt (fun _ h=>h) rfl ?_|refine ⟨h.hb,?_⟩|refine ak.xw h rfl rfl fun w h=> ?_|(refine ak.xs h rfl rfl fun w h=> ?_;dsimp only [ao,af] at h)|(refine St.xs h rfl rfl fun w h=> ?_;dsimp only [ao,af] at h)|refine aa.yes ?_|refine aa.no ?_|refine ⟨by first|omega|decide,?_⟩)
   refine done h fun s' w' h=>hblk M P u (bs.drop (k+1)) s' w' ?_ h
   rw [lG hrun,List.drop_eq_getElem_cons hlt,iK he]
  ·(with_reducible repeat first|refine Nw.mk h fun b w h=> ?_|refine au.mk h fun w h=> ?_|refine Ld.xb h rfl ?_|refine Ld.xt h rfl ?_|refine ae.xb (fun _ h=>h) rfl ?_|refine ae.xt (fun _ h=>h) rfl ?_|refine ⟨h.hb,?_⟩|refine ak.xw h rfl rfl fun w h=> ?_|(refine ak.xs h rfl rfl fun w h=> ?_;dsimp only [ao,af] at h)|(refine St.xs h rfl rfl fun w h=> ?_;dsimp only [ao,af] at h)|refine aa.yes ?_|refine aa.no ?_|refine ⟨by first|omega|decide,?_⟩)
   refine done h fun s' w' h=>htail u (bs.drop (k+1)) s' w' ?_ h
   rw [lG hrun,List.drop_eq_getElem_cons hlt,iK he]
  ·have:=Ha he
   subst this
   (with_reducible repeat first|refine Nw.mk h fun b w h=> ?_|refine au.mk h fun w h=> ?_|refine Ld.xb h rfl ?_|refine Ld.xt h rfl ?_|refine ae.xb (fun _ h=>h) rfl ?_|refine ae.xt (fun _ h=>h) rfl ?_|refine ⟨h.hb,?_⟩|refine ak.xw h rfl rfl fun w h=> ?_|(refine ak.xs h rfl rfl fun w h=> ?_;dsimp only [ao,af] at h)|(refine St.xs h rfl rfl fun w h=> ?_;dsimp only [ao,af] at h)|refine aa.yes ?_|refine aa.no ?_|refine ⟨by first|omega|decide,?_⟩)
   refine hbad w ?_ h.tl
   rw [lG hrun,List.drop_eq_getElem_cons hlt,qo he]
 ·have hk2:k=bs.length:=by omega
  subst hk2
  rw [List.take_of_length_le (Nat.le_refl _)] at hrun
  (with_reducible repeat first|refine Nw.mk h fun b w h=> ?_|refine au.mk h fun w h=> ?_|refine Ld.xb h rfl ?_|refine Ld.xt h rfl ?_|refine ae.xb (fun _ h=>h) rfl ?_|refine ae.xt (fun _ h=>h) rfl ?_|refine ⟨h.hb,?_⟩|refine ak.xw h rfl rfl fun w h=> ?_|(refine ak.xs h rfl rfl fun w h=> ?_;dsimp only [ao,af] at h)|(refine St.xs h rfl rfl fun w h=> ?_;dsimp only [ao,af] at h)|refine aa.yes ?_|refine aa.no ?_|refine ⟨by first|omega|decide,?_⟩)
  exact hshort st w hrun h.tl
end
end Go.Proofs.YtcdpblipagajiaaGreat
set_option maxRecDepth 20000
namespace Go.Stm
open Go.Inc Go.Srt Go.Sym Go.Bits Go.Tab Go.Hd Go.Crc Go.Bw Go.aj
section
variable (L:List Nat→List Nat)
def fD:Prop:= ∀x:List Nat,0<x.length→(∀c∈x,c<256)→mw (L x) (aU x.reverse)
end
section
variable {L:List Nat→List Nat} {n:Nat}
theorem Nl {x:List Nat} (hx: ∀c∈x,c<256): ∀y∈aU x.reverse,y<256:=qj fun y hy=>hx y (List.mem_reverse.1 hy)
end
end Go.Stm
namespace Go.Proofs.YtcdpblipagajiaaGreat
open Go Go.Vc
set_option maxRecDepth 100000
theorem Ep.ok (a:Sl) (b:Sl) (R:Bool→World→Prop) w (h:
 aa ((a.len:Int) !=(b.len:Int))
 (R false w)
 (cn 0 w fun c d (e:Int) f=>
 aa (decide (e<(a.len:Int)))
 (au f fun g=>
 aq a e 1 fun h=>
 Ld kI h g fun (i:Int)=>
 aq b e 1 fun j=>
 Ld kI j g fun (k:Int)=>
 aa (i !=k)
 (R false g)
 (c (i64 (e+1)) g∧d (i64 (e+1)) g<d e f))
 (R true f))):Cl Pg [kB] iC ⟨[(ah a),(ah b)]⟩ w R:=co Tryz.f18 [(10,[(5,kI)])] h
theorem zq.ok (a:(Array Value)) (b:Int) (R:(Array Value)→Int→World→Prop) w (h:
 Nw 41 a w fun d c=>
 Nw 36 ⟨List.replicate 258 (.int .u8 0)⟩ c fun f e=>
 Nw 36 ⟨List.replicate 258 (.int .u8 0)⟩ e fun h g=>
 Ld (.arr 258) ⟨d,0,none⟩ g fun i=>
 Cl Pg [kS] jD ⟨[(.agg i)]⟩ g fun (k:Sl) j=>
 bo (fun (c1:World)=>
 aa ((k.len:Int)==1)
 (aq k 0 1 fun d1=>
 Ld kI d1 c1 fun (e1:Int)=>
 av ⟨h,0,none⟩ 258 e1 1 fun f1=>
 St f1 (.int .u8 1) c1 fun g1=>
 Ld (.arr 258) ⟨h,0,none⟩ g1 fun h1=>
 an 258 ⟨f,0,none⟩ h1 g1 fun i1=>
 Ld (.arr 258) ⟨f,0,none⟩ i1 fun j1=>
 R j1 0 i1)
 (Ld (.arr 258) ⟨d,0,none⟩ c1 fun k1=>
 Cl Pg [kS] nQ ⟨[(.agg k1),(ni b)]⟩ c1 fun (m1:Sl) l1=>
 cn 0 l1 fun n1 o1 (p1:Int) q1=>
 aa (decide (p1<(i64 ((i64 ((2:Int)*(k.len:Int))) - 2))))
 (Ld (.arr 258) ⟨h,0,none⟩ q1 fun r1=>
 Cl Pg [(.arr 258)] gm ⟨[(.agg r1),(ah m1),(ni (i64 (b - 1))),(ni p1)]⟩ q1 fun t1 s1=>
 an 258 ⟨h,0,none⟩ t1 s1 fun u1=>
 n1 (i64 (p1+1)) u1∧o1 (i64 (p1+1)) u1<o1 p1 q1)
 (Ld (.arr 258) ⟨h,0,none⟩ q1 fun v1=>
 an 258 ⟨f,0,none⟩ v1 q1 fun x1=>
 Ld (.arr 258) ⟨f,0,none⟩ x1 fun y1=>
 R y1 0 x1))) fun l=>
 Ld (.arr 258) ⟨d,0,none⟩ j fun m=>
 Cl Pg [kB] jy ⟨[(.agg m)]⟩ j fun (o:Bool) n=>
 aa (!o)
 (Ld (.arr 258) ⟨h,0,none⟩ n fun p=>
 an 258 ⟨f,0,none⟩ p n fun q=>
 Ld (.arr 258) ⟨f,0,none⟩ q fun r=>
 R r 2 q)
 (aa (decide (b<1))
 (Ld (.arr 258) ⟨h,0,none⟩ n fun s=>
 an 258 ⟨f,0,none⟩ s n fun t=>
 Ld (.arr 258) ⟨f,0,none⟩ t fun u=>
 R u 2 t)
 (aa (decide (b>15))
 (Ld (.arr 258) ⟨h,0,none⟩ n fun v=>
 an 258 ⟨f,0,none⟩ v n fun x=>
 Ld (.arr 258) ⟨f,0,none⟩ x fun y=>
 R y 2 x)
 (0≤(u64 b)∧
 aa (decide ((k.len:Int)>(bq .i64 (1:Int) (u64 b))))
 (Ld (.arr 258) ⟨h,0,none⟩ n fun z=>
 an 258 ⟨f,0,none⟩ z n fun a1=>
 Ld (.arr 258) ⟨f,0,none⟩ a1 fun b1=>
 R b1 2 a1)
 (l n))))):Cl Pg [(.arr 258),kI] gQ ⟨[(.agg a),(ni b)]⟩ w R:=co Tryz.f23 [(6,[]),(23,[(9,kI)])] h
theorem Hh.ok (a:(Array Value)) (R:Int→World→Prop) w (h:
 Nw 36 a w fun c b=>
 bE 0 0 b fun d e (f:Int) (g:Int) h=>
 aa (decide (g<258))
 (av ⟨c,0,none⟩ 258 g 1 fun i=>
 Ld (az .u8) i h fun (j:Int)=>
 aa (decide (j>15))
 (R 32769 h)
 (av ⟨c,0,none⟩ 258 g 1 fun k=>
 Ld (az .u8) k h fun (l:Int)=>
 aa (decide (l>0))
 (av ⟨c,0,none⟩ 258 g 1 fun m=>
 Ld (az .u8) m h fun (n:Int)=>
 0≤(u64 (i64 ((15:Int) - (i64 n))))∧
 d (i64 (f+(bq .i64 (1:Int) (u64 (i64 ((15:Int) - (i64 n))))))) (i64 (g+1)) h∧e (i64 (f+(bq .i64 (1:Int) (u64 (i64 ((15:Int) - (i64 n))))))) (i64 (g+1)) h<e f g h)
 (d f (i64 (g+1)) h∧e f (i64 (g+1)) h<e f g h)))
 (R f h)):Cl Pg [kI] pK ⟨[(.agg a)]⟩ w R:=co Tryz.f32 [(7,[(3,kI),(4,kI)])] h
theorem CK.ok (a:(Array Value)) (R:Sl→World→Prop) w (h:
 Nw 41 a w fun c b=>
 bE (⟨none,0,0⟩:Sl) 0 b fun d e (f:Sl) (g:Int) h=>
 bo (fun (m:World)=>
 av ⟨c,0,none⟩ 258 g 1 fun n=>
 Ld kI n m fun (o:Int)=>
 aa (o==0)
 (d f (i64 (g+1)) m∧e f (i64 (g+1)) m<e f g h)
 (cn (f.len:Int) m fun p q (r:Int) s=>
 au s fun t=>
 aa (decide (r>0))
 (aq f (i64 (r - 1)) 1 fun u=>
 Ld kI u t fun (v:Int)=>
 av ⟨c,0,none⟩ 258 v 1 fun x=>
 Ld kI x t fun (y:Int)=>
 av ⟨c,0,none⟩ 258 g 1 fun z=>
 Ld kI z t fun (a1:Int)=>
 aa (decide (y>a1))
 (p (i64 (r - 1)) t∧q (i64 (r - 1)) t<q r s)
 (bd f 0 r (f).cap 1 fun b1=>
 ay Pg (Builtin.append_ #[33,33] 33 ⟨[(.slice none 0 0),(ah b1)]⟩) kS t fun (d1:Sl) c1=>
 Nw 3 ⟨[(ni g)]⟩ c1 fun f1 e1=>
 ay Pg (Builtin.append_ #[33,33] 33 ⟨[(ah d1),(ah (⟨some ⟨f1,0,none⟩,1,1⟩:Sl))]⟩) kS e1 fun (h1:Sl) g1=>
 bd f r (f).len (f).cap 1 fun i1=>
 ay Pg (Builtin.append_ #[33,33] 33 ⟨[(ah h1),(ah i1)]⟩) kS g1 fun (k1:Sl) j1=>
 d k1 (i64 (g+1)) j1∧e k1 (i64 (g+1)) j1<e f g h))
 (bd f 0 r (f).cap 1 fun l1=>
 ay Pg (Builtin.append_ #[33,33] 33 ⟨[(.slice none 0 0),(ah l1)]⟩) kS t fun (n1:Sl) m1=>
 Nw 3 ⟨[(ni g)]⟩ m1 fun p1 o1=>
 ay Pg (Builtin.append_ #[33,33] 33 ⟨[(ah n1),(ah (⟨some ⟨p1,0,none⟩,1,1⟩:Sl))]⟩) kS o1 fun (r1:Sl) q1=>
 bd f r (f).len (f).cap 1 fun s1=>
 ay Pg (Builtin.append_ #[33,33] 33 ⟨[(ah r1),(ah s1)]⟩) kS q1 fun (u1:Sl) t1=>
 d u1 (i64 (g+1)) t1∧e u1 (i64 (g+1)) t1<e f g h))) fun i=>
 aa (decide (g<258))
 (Ld (.arr 258) ⟨c,0,none⟩ h fun j=>
 Cl Pg [kB] jy ⟨[(.agg j)]⟩ h fun (l:Bool) k=>
 aa l
 (i k)
 (R f k))
 (R f h)):Cl Pg [kS] jD ⟨[(.agg a)]⟩ w R:=co Tryz.f64 [(7,[(3,kS),(4,kI)]),(8,[]),(18,[(5,kI)])] h
theorem Dg.ok (a:(Array Value)) (R:Bool→World→Prop) w (h:
 Nw 41 a w fun c b=>
 cn 0 b fun d e (f:Int) g=>
 aa (decide (f<258))
 (av ⟨c,0,none⟩ 258 f 1 fun h=>
 Ld kI h g fun (i:Int)=>
 aa (decide (i<0))
 (R false g)
 (av ⟨c,0,none⟩ 258 f 1 fun j=>
 Ld kI j g fun (k:Int)=>
 aa (decide (k>2147483647))
 (R false g)
 (d (i64 (f+1)) g∧e (i64 (f+1)) g<e f g)))
 (R true g)):Cl Pg [kB] jy ⟨[(.agg a)]⟩ w R:=co Tryz.f65 [(5,[(3,kI)])] h
theorem EH.ok (a:(Array Value)) (b:Int) (R:Sl→World→Prop) w (h:
 Nw 41 a w fun d c=>
 Ld (.arr 258) ⟨d,0,none⟩ c fun e=>
 Cl Pg [kS] jD ⟨[(.agg e)]⟩ c fun (g:Sl) f=>
 bE (⟨none,0,0⟩:Sl) 0 f fun h i (j:Sl) (k:Int) l=>
 aa (decide (k<(g.len:Int)))
 (cL l fun m n=>
 aq g k 1 fun o=>
 ae kI o m fun (p:Int)=>
 av ⟨d,0,none⟩ 258 p 1 fun q=>
 ae kI q m fun (r:Int)=>
 aq g k 1 fun s=>
 ae kI s m fun (t:Int)=>
 Nw 166 ⟨[(ni r),(ni t),(ni 0),(ni 0)]⟩ n fun v u=>
 m u∧
 ay Pg (Builtin.append_ #[164,164] 164 ⟨[(ah j),(ah (⟨some ⟨v,0,none⟩,1,1⟩:Sl))]⟩) kS u fun (y:Sl) x=>
 m x∧
 h y (i64 (k+1)) x∧i y (i64 (k+1)) x<i j k l)
 (Nw 164 ⟨[(ah j)]⟩ l fun a1 z=>
 bE (⟨some ⟨a1,0,none⟩,1,1⟩:Sl) 1 z fun b1 c1 (d1:Sl) (e1:Int) f1=>
 aa (decide (e1<b))
 (aq d1 (i64 (e1 - 1)) 1 fun g1=>
 Ld kS g1 f1 fun (h1:Sl)=>
 Nw 166 ⟨[]⟩ f1 fun j1 i1=>
 ay Pg (Builtin.append_ #[164,164] 164 ⟨[(ah (⟨some ⟨j1,0,none⟩,0,0⟩:Sl)),(ah j)]⟩) kS i1 fun (l1:Sl) k1=>
 bE l1 0 k1 fun m1 n1 (o1:Sl) (p1:Int) q1=>
 aa (decide ((i64 (p1+1))<(h1.len:Int)))
 (au q1 fun r1=>
 aq h1 p1 4 fun s1=>
 Ld kI (s1.add 0) r1 fun (t1:Int)=>
 aq h1 (i64 (p1+1)) 4 fun u1=>
 Ld kI (u1.add 0) r1 fun (v1:Int)=>
 Cl Pg [kS] pF ⟨[(ah o1),(.agg ⟨[(ni (i64 (t1+v1))),(ni (-1)),(ni p1),(ni (i64 (p1+1)))]⟩)]⟩ r1 fun (y1:Sl) x1=>
 m1 y1 (i64 (p1+2)) x1∧n1 y1 (i64 (p1+2)) x1<n1 o1 p1 q1)
 (Nw 164 ⟨[(ah o1)]⟩ q1 fun a2 z1=>
 ay Pg (Builtin.append_ #[95,95] 95 ⟨[(ah d1),(ah (⟨some ⟨a2,0,none⟩,1,1⟩:Sl))]⟩) kS z1 fun (c2:Sl) b2=>
 b1 c2 (i64 (e1+1)) b2∧c1 c2 (i64 (e1+1)) b2<c1 d1 e1 f1))
 (R d1 f1))):Cl Pg [kS] nQ ⟨[(.agg a),(ni b)]⟩ w R:=co Tryz.f66 [(9,[(6,kS),(7,kI)]),(21,[(8,kS),(9,kI)]),(33,[(11,kS),(12,kI)])] h
theorem ur.ok (a:(Array Value)) (b:Sl) (c:Int) (d:Int) (R:(Array Value)→World→Prop) w (h:
 Nw 36 a w fun f e=>
 Nw 36 ⟨List.replicate 258 (.int .u8 0)⟩ e fun h g=>
 aq b c 1 fun i=>
 Ld kS i g fun (j:Sl)=>
 aq j d 4 fun k=>
 Ld (.st JU) k g fun l=>
 Nw 166 ⟨[(ni 0),(ni 0),(ni 0),(ni 0)]⟩ g fun n m=>
 ak ⟨n,0,none⟩ [(ni l.1),(ni l.2.1),(ni l.2.2.1),(ni l.2.2.2.1)] 0 m fun o=>
 Ld kI (Addr.add ⟨n,0,none⟩ 1) o fun (p:Int)=>
 aa (decide (p≥0))
 (Ld kI (Addr.add ⟨n,0,none⟩ 1) o fun (q:Int)=>
 av ⟨f,0,none⟩ 258 q 1 fun r=>
 Ld (az .u8) r o fun (s:Int)=>
 av ⟨f,0,none⟩ 258 q 1 fun t=>
 St t (.int .u8 (u8 (s+1))) o fun u=>
 Ld (.arr 258) ⟨f,0,none⟩ u fun v=>
 an 258 ⟨h,0,none⟩ v u fun x=>
 Ld (.arr 258) ⟨h,0,none⟩ x fun y=>
 R y x)
 (cL o fun z a1=>
 ae (.arr 258) ⟨f,0,none⟩ z fun b1=>
 ae kI (Addr.add ⟨n,0,none⟩ 2) z fun (c1:Int)=>
 ae kI (Addr.add ⟨n,0,none⟩ 3) z fun (d1:Int)=>
 Cl Pg [(.arr 258)] gm ⟨[(.agg b1),(ah b),(ni (i64 (c - 1))),(ni c1)]⟩ a1 fun f1 e1=>
 z e1∧
 Cl Pg [(.arr 258)] gm ⟨[(.agg f1),(ah b),(ni (i64 (c - 1))),(ni d1)]⟩ e1 fun h1 g1=>
 z g1∧
 an 258 ⟨h,0,none⟩ h1 g1 fun i1=>
 z i1∧
 Ld (.arr 258) ⟨h,0,none⟩ i1 fun j1=>
 R j1 i1)):Cl Pg [(.arr 258)] gm ⟨[(.agg a),(ah b),(ni c),(ni d)]⟩ w R:=co Tryz.f67 [] h
theorem HG.ok (a:Sl) (b:(TT JU)) (R:Sl→World→Prop) w (h:
 Nw 166 ⟨[(ni b.1),(ni b.2.1),(ni b.2.2.1),(ni b.2.2.2.1)]⟩ w fun d c=>
 cn (a.len:Int) c fun e f (g:Int) h=>
 au h fun i=>
 aa (decide (g>0))
 (aq a (i64 (g - 1)) 4 fun j=>
 Ld kI (j.add 0) i fun (k:Int)=>
 Ld kI (Addr.add ⟨d,0,none⟩ 0) i fun (l:Int)=>
 aa (decide (k>l))
 (e (i64 (g - 1)) i∧f (i64 (g - 1)) i<f g h)
 (bd a 0 g (a).cap 4 fun m=>
 ay Pg (Builtin.append_ #[164,164] 164 ⟨[(.slice none 0 0),(ah m)]⟩) kS i fun (o:Sl) n=>
 Ld (.st JU) ⟨d,0,none⟩ n fun p=>
 Nw 166 ⟨[(ni p.1),(ni p.2.1),(ni p.2.2.1),(ni p.2.2.2.1)]⟩ n fun r q=>
 ay Pg (Builtin.append_ #[164,164] 164 ⟨[(ah o),(ah (⟨some ⟨r,0,none⟩,1,1⟩:Sl))]⟩) kS q fun (t:Sl) s=>
 bd a g (a).len (a).cap 4 fun u=>
 ay Pg (Builtin.append_ #[164,164] 164 ⟨[(ah t),(ah u)]⟩) kS s fun (x:Sl) v=>
 R x v))
 (bd a 0 g (a).cap 4 fun y=>
 ay Pg (Builtin.append_ #[164,164] 164 ⟨[(.slice none 0 0),(ah y)]⟩) kS i fun (a1:Sl) z=>
 Ld (.st JU) ⟨d,0,none⟩ z fun b1=>
 Nw 166 ⟨[(ni b1.1),(ni b1.2.1),(ni b1.2.2.1),(ni b1.2.2.2.1)]⟩ z fun d1 c1=>
 ay Pg (Builtin.append_ #[164,164] 164 ⟨[(ah a1),(ah (⟨some ⟨d1,0,none⟩,1,1⟩:Sl))]⟩) kS c1 fun (f1:Sl) e1=>
 bd a g (a).len (a).cap 4 fun g1=>
 ay Pg (Builtin.append_ #[164,164] 164 ⟨[(ah f1),(ah g1)]⟩) kS e1 fun (i1:Sl) h1=>
 R i1 h1)):Cl Pg [kS] pF ⟨[(ah a),(.agg ⟨[(ni b.1),(ni b.2.1),(ni b.2.2.1),(ni b.2.2.2.1)]⟩)]⟩ w R:=co Tryz.f117 [(5,[(5,kI)])] h
end Go.Proofs.YtcdpblipagajiaaGreat
namespace Go.Proofs.YtcdpblipagajiaaGreat
open Go Go.Vc
set_option maxRecDepth 100000
theorem qZ.ok (a:(Array Value)) (b:Int) (R:(Array Value)→Int→World→Prop) w (h:
 Nw 41 a w fun d c=>
 Nw 36 ⟨List.replicate 258 (.int .u8 0)⟩ c fun f e=>
 Ld (.arr 258) ⟨d,0,none⟩ e fun g=>
 Cl Pg [kS] fW ⟨[(.agg g)]⟩ e fun (i:Sl) h=>
 bo (fun (a1:World)=>
 aa ((i.len:Int)==1)
 (aq i 0 1 fun b1=>
 Ld kI b1 a1 fun (c1:Int)=>
 av ⟨f,0,none⟩ 258 c1 1 fun d1=>
 St d1 (.int .u8 1) a1 fun e1=>
 Ld (.arr 258) ⟨f,0,none⟩ e1 fun f1=>
 an 258 ⟨f,0,none⟩ f1 e1 fun g1=>
 Ld (.arr 258) ⟨f,0,none⟩ g1 fun h1=>
 R h1 0 g1)
 (Ld (.arr 258) ⟨d,0,none⟩ a1 fun i1=>
 Cl Pg [kS] fK ⟨[(.agg i1),(ah i)]⟩ a1 fun (k1:Sl) j1=>
 Nw 189 ⟨[(ah k1)]⟩ j1 fun m1 l1=>
 bE (⟨some ⟨m1,0,none⟩,1,1⟩:Sl) 1 l1 fun n1 o1 (p1:Sl) (q1:Int) r1=>
 aa (decide (q1<b))
 (cL r1 fun s1 t1=>
 aq p1 0 1 fun u1=>
 ae kS u1 s1 fun (v1:Sl)=>
 aq p1 (i64 (q1 - 1)) 1 fun x1=>
 ae kS x1 s1 fun (y1:Sl)=>
 Cl Pg [kS] gD ⟨[(ah v1),(ah y1)]⟩ t1 fun (a2:Sl) z1=>
 s1 z1∧
 Nw 189 ⟨[(ah a2)]⟩ z1 fun c2 b2=>
 s1 b2∧
 ay Pg (Builtin.append_ #[191,191] 191 ⟨[(ah p1),(ah (⟨some ⟨c2,0,none⟩,1,1⟩:Sl))]⟩) kS b2 fun (e2:Sl) d2=>
 s1 d2∧
 n1 e2 (i64 (q1+1)) d2∧o1 e2 (i64 (q1+1)) d2<o1 p1 q1 r1)
 (bE (i64 ((i64 ((2:Int)*(i.len:Int))) - 2)) (i64 (b - 1)) r1 fun f2 g2 (h2:Int) (i2:Int) j2=>
 bo (fun (r2:World)=>
 aq p1 i2 1 fun s2=>
 Ld kS s2 r2 fun (t2:Sl)=>
 bd t2 0 h2 (t2).cap 2 fun u2=>
 bE 0 0 r2 fun v2 x2 (y2:Int) (z2:Int) a3=>
 aa (decide (z2<(u2.len:Int)))
 (aq u2 z2 2 fun b3=>
 Ld (.st [.int .i64,.bool]) b3 a3 fun c3=>
 Nw 194 ⟨[(ni 0),(.bool false)]⟩ a3 fun e3 d3=>
 ak ⟨e3,0,none⟩ [(ni c3.1),(.bool c3.2.1)] 0 d3 fun f3=>
 Ld kB (Addr.add ⟨e3,0,none⟩ 1) f3 fun (g3:Bool)=>
 aa g3
 (aq i y2 1 fun h3=>
 Ld kI h3 f3 fun (i3:Int)=>
 av ⟨f,0,none⟩ 258 i3 1 fun j3=>
 Ld (az .u8) j3 f3 fun (k3:Int)=>
 av ⟨f,0,none⟩ 258 i3 1 fun l3=>
 St l3 (.int .u8 (u8 (k3+1))) f3 fun m3=>
 v2 (i64 (y2+1)) (i64 (z2+1)) m3∧x2 (i64 (y2+1)) (i64 (z2+1)) m3<x2 y2 z2 a3)
 (v2 y2 (i64 (z2+1)) f3∧x2 y2 (i64 (z2+1)) f3<x2 y2 z2 a3))
 (f2 (i64 ((2:Int)*(i64 (h2 - y2)))) (i64 (i2 - 1)) a3∧g2 (i64 ((2:Int)*(i64 (h2 - y2)))) (i64 (i2 - 1)) a3<g2 h2 i2 j2)) fun k2=>
 aa (decide (i2≥0))
 (aa (decide (h2>0))
 (k2 j2)
 (Ld (.arr 258) ⟨f,0,none⟩ j2 fun l2=>
 an 258 ⟨f,0,none⟩ l2 j2 fun m2=>
 Ld (.arr 258) ⟨f,0,none⟩ m2 fun n2=>
 R n2 0 m2))
 (Ld (.arr 258) ⟨f,0,none⟩ j2 fun o2=>
 an 258 ⟨f,0,none⟩ o2 j2 fun p2=>
 Ld (.arr 258) ⟨f,0,none⟩ p2 fun q2=>
 R q2 0 p2)))) fun j=>
 Ld (.arr 258) ⟨d,0,none⟩ h fun k=>
 Cl Pg [kB] eo ⟨[(.agg k)]⟩ h fun (m:Bool) l=>
 aa (!m)
 (Ld (.arr 258) ⟨f,0,none⟩ l fun n=>
 an 258 ⟨f,0,none⟩ n l fun o=>
 Ld (.arr 258) ⟨f,0,none⟩ o fun p=>
 R p 2 o)
 (aa (decide (b<1))
 (Ld (.arr 258) ⟨f,0,none⟩ l fun q=>
 an 258 ⟨f,0,none⟩ q l fun r=>
 Ld (.arr 258) ⟨f,0,none⟩ r fun s=>
 R s 2 r)
 (aa (decide (b>15))
 (Ld (.arr 258) ⟨f,0,none⟩ l fun t=>
 an 258 ⟨f,0,none⟩ t l fun u=>
 Ld (.arr 258) ⟨f,0,none⟩ u fun v=>
 R v 2 u)
 (0≤(u64 b)∧
 aa (decide ((i.len:Int)>(bq .i64 (1:Int) (u64 b))))
 (Ld (.arr 258) ⟨f,0,none⟩ l fun x=>
 an 258 ⟨f,0,none⟩ x l fun y=>
 Ld (.arr 258) ⟨f,0,none⟩ y fun z=>
 R z 2 y)
 (j l))))):Cl Pg [(.arr 258),kI] dv ⟨[(.agg a),(ni b)]⟩ w R:=co Tryz.f93 [(4,[]),(21,[(7,kS),(8,kI)]),(33,[(9,kI),(10,kI)]),(34,[]),(43,[(11,kI),(86,kI)])] h
theorem te.ok (a:(Array Value)) (R:Sl→World→Prop) w (h:
 Nw 41 a w fun c b=>
 Ld (.arr 258) ⟨c,0,none⟩ b fun d=>
 Cl Pg [kB] eo ⟨[(.agg d)]⟩ b fun (f:Bool) e=>
 aa (!f)
 (R (⟨none,0,0⟩:Sl) e)
 (Ld (.arr 258) ⟨c,0,none⟩ e fun g=>
 bE (⟨none,0,0⟩:Sl) 0 e fun h i (j:Sl) (k:Int) l=>
 aa (decide (k<258))
 (fl (.int .i64) g 258 k fun (m:Int)=>
 aa (decide (m>0))
 (Nw 3 ⟨[(ni k)]⟩ l fun o n=>
 ay Pg (Builtin.append_ #[33,33] 33 ⟨[(ah j),(ah (⟨some ⟨o,0,none⟩,1,1⟩:Sl))]⟩) kS n fun (q:Sl) p=>
 h q (i64 (k+1)) p∧i q (i64 (k+1)) p<i j k l)
 (h j (i64 (k+1)) l∧i j (i64 (k+1)) l<i j k l))
 (Cl Pg [] cg ⟨[(ah j),(.func (.func 180) ⟨[]⟩ ⟨[(.pointer (some ⟨c,0,none⟩))]⟩)]⟩ l fun r=>
 R j r))):Cl Pg [kS] fW ⟨[(.agg a)]⟩ w R:=co Tryz.f138 [(10,[(2,kS),(9,kI)])] h
theorem r6.ok (a:(Array Value)) (R:Bool→World→Prop) w (h:
 Nw 41 a w fun c b=>
 bd (⟨some ⟨c,0,none⟩,258,258⟩:Sl) 0 258 258 1 fun d=>
 Cl Pg [kB] fw ⟨[(ah d),(.func (.func 183) ⟨[]⟩ ⟨[]⟩)]⟩ b fun (f:Bool) e=>
 R (!f) e):Cl Pg [kB] eo ⟨[(.agg a)]⟩ w R:=co Tryz.f139 [] h
theorem rZ.ok (a:(Array Value)) (b:Sl) (R:Sl→World→Prop) w (h:
 Nw 41 a w fun d c=>
 bE (⟨none,0,0⟩:Sl) 0 c fun e f (g:Sl) (h:Int) i=>
 aa (decide (h<(b.len:Int)))
 (aq b h 1 fun j=>
 Ld kI j i fun (k:Int)=>
 av ⟨d,0,none⟩ 258 k 1 fun l=>
 Ld kI l i fun (m:Int)=>
 Nw 194 ⟨[(ni m),(.bool true)]⟩ i fun o n=>
 ay Pg (Builtin.append_ #[189,189] 189 ⟨[(ah g),(ah (⟨some ⟨o,0,none⟩,1,1⟩:Sl))]⟩) kS n fun (q:Sl) p=>
 e q (i64 (h+1)) p∧f q (i64 (h+1)) p<f g h i)
 (R g i)):Cl Pg [kS] fK ⟨[(.agg a),(ah b)]⟩ w R:=co Tryz.f140 [(5,[(4,kS),(9,kI)])] h
theorem tU.ok (a:Sl) (b:Sl) (R:Sl→World→Prop) w (h:
 vu (⟨none,0,0⟩:Sl) 0 0 w fun c d (e:Sl) (f:Int) (g:Int) h=>
 aa (decide ((i64 (g+1))<(b.len:Int)))
 (cL h fun i j=>
 aq b g 2 fun k=>
 ae kI (k.add 0) i fun (l:Int)=>
 aq b (i64 (g+1)) 2 fun m=>
 ae kI (m.add 0) i fun (n:Int)=>
 Nw 194 ⟨[(ni 0),(.bool false)]⟩ j fun p o=>
 i o∧
 ak ⟨p,0,none⟩ [(ni (i64 (l+n))),(.bool false)] 0 o fun q=>
 i q∧
 bE e f q fun r s (t:Sl) (u:Int) v=>
 au v fun x=>
 aa (decide (u<(a.len:Int)))
 (aq a u 2 fun y=>
 Ld kI (y.add 0) x fun (z:Int)=>
 Ld kI (Addr.add ⟨p,0,none⟩ 0) x fun (a1:Int)=>
 aa (decide (z≤a1))
 (aq a u 2 fun b1=>
 Ld (.st [.int .i64,.bool]) b1 x fun c1=>
 Nw 194 ⟨[(ni c1.1),(.bool c1.2.1)]⟩ x fun e1 d1=>
 ay Pg (Builtin.append_ #[189,189] 189 ⟨[(ah t),(ah (⟨some ⟨e1,0,none⟩,1,1⟩:Sl))]⟩) kS d1 fun (g1:Sl) f1=>
 r g1 (i64 (u+1)) f1∧s g1 (i64 (u+1)) f1<s t u v)
 (Ld (.st [.int .i64,.bool]) ⟨p,0,none⟩ x fun h1=>
 Nw 194 ⟨[(ni h1.1),(.bool h1.2.1)]⟩ x fun j1 i1=>
 ay Pg (Builtin.append_ #[189,189] 189 ⟨[(ah t),(ah (⟨some ⟨j1,0,none⟩,1,1⟩:Sl))]⟩) kS i1 fun (l1:Sl) k1=>
 c l1 u (i64 (g+2)) k1∧d l1 u (i64 (g+2)) k1<d e f g h))
 (Ld (.st [.int .i64,.bool]) ⟨p,0,none⟩ x fun m1=>
 Nw 194 ⟨[(ni m1.1),(.bool m1.2.1)]⟩ x fun o1 n1=>
 ay Pg (Builtin.append_ #[189,189] 189 ⟨[(ah t),(ah (⟨some ⟨o1,0,none⟩,1,1⟩:Sl))]⟩) kS n1 fun (q1:Sl) p1=>
 c q1 u (i64 (g+2)) p1∧d q1 u (i64 (g+2)) p1<d e f g h))
 (bd a f (a).len (a).cap 2 fun r1=>
 ay Pg (Builtin.append_ #[189,189] 189 ⟨[(ah e),(ah r1)]⟩) kS h fun (t1:Sl) s1=>
 R t1 s1)):Cl Pg [kS] gD ⟨[(ah a),(ah b)]⟩ w R:=co Tryz.f141 [(7,[(4,kS),(5,kI),(6,kI)]),(15,[(4,kS),(5,kI)])] h
theorem qO.ok (a:Int) (b:Int) (c:Addr) (R:Int→World→Prop) w (h:
 au w fun d=>
 av c 258 a 1 fun e=>
 Ld kI e d fun (f:Int)=>
 av c 258 b 1 fun g=>
 Ld kI g d fun (h:Int)=>
 Cl Pg [kI] c9 ⟨[(ni f),(ni h)]⟩ d fun (j:Int) i=>
 R j i):Cl Pg [kI] js ⟨[(ni a),(ni b),(.pointer (some c))]⟩ w R:=co Tryz.f180 [] h
theorem rO.ok (a:Int) (R:Bool→World→Prop) w (h:
 aa (decide (a<0))
 (R true w)
 (R (decide (a>2147483647)) w)):Cl Pg [kB] jo ⟨[(ni a)]⟩ w R:=co Tryz.f183 [] h
end Go.Proofs.YtcdpblipagajiaaGreat
namespace Go.Pm
abbrev It:=Nat×Bool
def mg (l:List It):Nat:=(l.map (·.1)).sum
def aJ (l:List It):Nat:=(l.filter (·.2)).length
def Up (l:List It):Prop:=l.Pairwise fun a b=>a.1≤b.1
def aH:List It→List It
 |a::b::l=>(a.1+b.1,false)::aH l
 |_=> []
def bR (A:List It):List It→List It
 | []=>A
 |p::B=>A.takeWhile (fun a=>decide (a.1≤p.1))++p::bR (A.dropWhile fun a=>decide (a.1≤p.1)) B
theorem nz {A:List It}:bR A []=A:=rfl
theorem kf: ∀{B:List It},bR [] B=B
 | []=>rfl
 |p::B=>by simp [bR,kf]
theorem qm {a p:It} {A B:List It} (h:a.1≤p.1):bR (a::A) (p::B)=a::bR A (p::B):=by simp [bR,h]
theorem qp {a p:It} {A B:List It} (h: ¬a.1≤p.1):bR (a::A) (p::B)=p::bR (a::A) B:=by simp [bR,h]
theorem nk {P:List It→List It→Prop} (h1: ∀B,P [] B) (h2: ∀a A,P (a::A) []) (h3: ∀a A p B,a.1≤p.1→P A (p::B)→P (a::A) (p::B)) (h4: ∀a A p B,¬a.1≤p.1→P (a::A) B→P (a::A) (p::B)):
  ∀A B,P A B
 | [],B=>h1 B
 |a::A,[]=>h2 a A
 |a::A,p::B=>if h:a.1≤p.1 then h3 a A p B h (nk h1 h2 h3 h4 A (p::B)) else h4 a A p B h (nk h1 h2 h3 h4 (a::A) B)
theorem lh: ∀A B,(bR A B).Perm (A++B):=by
 refine nk (fun B=>by rw [kf];exact .refl _) (fun a A=>by rw [nz];simp) (fun a A p B h ih=> ?_) (fun a A p B h ih=> ?_)
 ·rw [qm h];exact ih.cons a
 ·rw [qp h]
  exact (ih.cons p).trans (List.perm_middle.symm)
theorem xO (A B:List It):(bR A B).length=A.length+B.length:=by rw [(lh A B).length_eq,List.length_append]
theorem GZ: ∀A B,Up A→Up B→Up (bR A B):=by
 refine nk (fun B _ h=>by rw [kf];exact h) (fun a A h _=>by rw [nz];exact h) (fun a A p B h ih hA hB=> ?_) (fun a A p B h ih hA hB=> ?_)
 ·rw [qm h]
  refine List.pairwise_cons.2 ⟨fun x hx=> ?_,ih (List.pairwise_cons.1 hA).2 hB⟩
  rcases List.mem_append.1 ((lh _ _).mem_iff.1 hx) with hx|hx
  ·exact (List.pairwise_cons.1 hA).1 x hx
  ·rcases List.mem_cons.1 hx with rfl|hx
   ·exact h
   ·exact Nat.le_trans h ((List.pairwise_cons.1 hB).1 x hx)
 ·rw [qp h]
  refine List.pairwise_cons.2 ⟨fun x hx=> ?_,ih hA (List.pairwise_cons.1 hB).2⟩
  rcases List.mem_append.1 ((lh _ _).mem_iff.1 hx) with hx|hx
  ·rcases List.mem_cons.1 hx with rfl|hx
   ·omega
   ·have:=(List.pairwise_cons.1 hA).1 x hx;omega
  ·exact (List.pairwise_cons.1 hB).1 x hx
theorem Ek: ∀A B,Up A→∀m,m≤A.length+B.length→∃a b,a+b=m∧a≤A.length∧b≤B.length∧((bR A B).take m).Perm (A.take a++B.take b)∧∀x∈B.take b,∀y∈A.drop a,x.1<y.1:=by
 refine nk (fun B _ m hm=> ?_) (fun a A _ m hm=> ?_) (fun a A p B h ih hA m hm=> ?_) (fun a A p B h ih hA m hm=> ?_)
 ·exact ⟨0,m,by omega,Nat.le_refl _,by simpa using hm,by rw [kf];simp,by simp⟩
 ·exact ⟨m,0,rfl,by simpa using hm,Nat.le_refl _,by rw [nz];simp,by simp⟩
 ·cases m with
  |zero=>exact ⟨0,0,rfl,Nat.zero_le _,Nat.zero_le _,by simp,by simp⟩
  |succ m=>
   obtain ⟨x,y,h1,h2,h3,h4,h5⟩:=ih (List.pairwise_cons.1 hA).2 m (by simp at hm⊢;omega)
   refine ⟨x+1,y,by omega,by simpa using h2,h3,?_,by simpa using h5⟩
   rw [qm h,List.take_succ_cons,List.take_succ_cons]
   exact h4.cons a
 ·cases m with
  |zero=>exact ⟨0,0,rfl,Nat.zero_le _,Nat.zero_le _,by simp,by simp⟩
  |succ m=>
   obtain ⟨x,y,h1,h2,h3,h4,h5⟩:=ih hA m (by simp at hm⊢;omega)
   refine ⟨x,y+1,by omega,h2,by simpa using h3,?_,?_⟩
   ·rw [qp h,List.take_succ_cons,List.take_succ_cons]
    exact (h4.cons p).trans List.perm_middle.symm
   ·intro u hu v hv
    rw [List.take_succ_cons] at hu
    rcases List.mem_cons.1 hu with rfl|hu
    ·have hv:v∈a::A:=List.mem_of_mem_drop hv
     rcases List.mem_cons.1 hv with rfl|hv
     ·omega
     ·have:=(List.pairwise_cons.1 hA).1 v hv;omega
    ·exact h5 u hu v hv
theorem uT (a:It) (l:List It):mg (a::l)=a.1+mg l:=by simp [mg]
theorem FA (l l':List It):mg (l++l')=mg l+mg l':=by simp [mg]
theorem JB {l l':List It} (h:l.Perm l'):mg l=mg l':=(h.map _).sum_nat
theorem oh (l l':List It):aJ (l++l')=aJ l+aJ l':=by simp [aJ]
theorem wS {l l':List It} (h:l.Perm l'):aJ l=aJ l':=(h.filter _).length_eq
theorem cS: ∀l:List It,(aH l).length=l.length/2
 | []=>rfl
 | [_]=>by simp [aH]
 |_::_::l=>by
  simp only [aH,List.length_cons,cS l];omega
theorem nb: ∀(l:List It) (x:It),x∈aH l→x.2=false
 | [],_,h=>by simp [aH] at h
 | [_],_,h=>by simp [aH] at h
 |a::b::l,x,h=>by
  rw [aH] at h
  rcases List.mem_cons.1 h with rfl|h
  ·rfl
  ·exact nb l x h
theorem vV: ∀(l:List It) (b:Nat),2*b≤l.length→mg ((aH l).take b)=mg (l.take (2*b))
 |_,0,_=>by simp [mg]
 | [],b+1,h=>by simp at h
 | [_],b+1,h=>by simp only [List.length_singleton] at h;omega
 |x::y::l,b+1,h=>by
  rw [aH,List.take_succ_cons,uT,show 2*(b+1)=(2*b+1)+1 by omega,List.take_succ_cons,List.take_succ_cons,uT,uT,vV l b (by simp only [List.length_cons] at h;omega)]
  omega
theorem Ba: ∀(l:List It) (b:Nat) (x:It),2*b≤l.length→x∈l.take (2*b)→∃p∈(aH l).take b,x.1≤p.1
 |_,0,_,_,h=>by simp at h
 | [],b+1,_,h,_=>by simp at h
 | [_],b+1,_,h,_=>by simp only [List.length_singleton] at h;omega
 |u::v::l,b+1,x,h,hx=>by
  rw [show 2*(b+1)=(2*b+1)+1 by omega,List.take_succ_cons,List.take_succ_cons] at hx
  rw [aH,List.take_succ_cons]
  rcases List.mem_cons.1 hx with rfl|hx
  ·exact ⟨_,List.mem_cons_self,by simp⟩
  ·rcases List.mem_cons.1 hx with rfl|hx
   ·exact ⟨_,List.mem_cons_self,by simp⟩
   ·obtain ⟨p,hp,hl⟩:=Ba l b x (by simp only [List.length_cons] at h;omega) hx
    exact ⟨p,List.mem_cons_of_mem _ hp,hl⟩
theorem uK: ∀l:List It,Up l→Up (aH l)
 | [],_=>List.Pairwise.nil
 | [_],_=>List.Pairwise.nil
 |a::b::l,h=>by
  obtain ⟨h1,h2⟩:=List.pairwise_cons.1 h
  obtain ⟨h3,h4⟩:=List.pairwise_cons.1 h2
  refine List.pairwise_cons.2 ⟨fun p hp=> ?_,uK l h4⟩
  have: ∀(l:List It),(∀x∈l,a.1≤x.1∧b.1≤x.1)→∀p∈aH l,a.1+b.1≤p.1:=by
   intro l
   induction l using aH.induct with
   |case1 u v l ih=>
    intro hx p hp
    rw [aH] at hp
    rcases List.mem_cons.1 hp with rfl|hp
    ·have:=hx u (by simp);have:=hx v (by simp);simp only;omega
    ·exact ih (fun x hx'=>hx x (by simp [hx'])) p hp
   |case2 l hl=>intro _ p hp;rw [aH] at hp
                ·simp at hp
                ·exact hl
  exact this l (fun x hx=>⟨h1 x (List.mem_cons_of_mem _ hx),h3 x hx⟩) p hp
def bH (ws:List Nat):List It:=ws.map fun w=>(w,true)
def row (ws:List Nat):Nat→List It
 |0=>bH ws
 |k+1=>bR (bH ws) (aH (row ws k))
def oK (ws:List Nat):Prop:=ws.Pairwise (·≤·)
theorem sa {ws:List Nat} (h:oK ws):Up (bH ws):=List.Pairwise.map _ (fun _ _ h=>h) h
theorem Gl {ws:List Nat} (h:oK ws): ∀k,Up (row ws k)
 |0=>sa h
 |k+1=>GZ _ _ (sa h) (uK _ (Gl h k))
theorem cB (ws:List Nat):(bH ws).length=ws.length:=List.length_map _
theorem tC (ws:List Nat) (k:Nat):(row ws (k+1)).length=ws.length+(row ws k).length/2:=by rw [row,xO,cB,cS]
theorem DX (ws:List Nat):mg (bH ws)=ws.sum:=by
 unfold mg bH
 rw [List.map_map]
 congr 1
 exact List.map_id _
theorem lH (ws:List Nat) (a:Nat):(bH ws).take a=bH (ws.take a):=List.map_take.symm
theorem oY (ws:List Nat):aJ (bH ws)=ws.length:=by
 unfold aJ bH
 rw [List.filter_eq_self.2]
 ·simp
 ·intro x hx;obtain ⟨w,_,rfl⟩:=List.mem_map.1 hx;rfl
theorem AM {l:List It} (h: ∀x∈l,x.2=false):aJ l=0:=by
 unfold aJ
 rw [List.length_eq_zero_iff,List.filter_eq_nil_iff]
 intro x hx;simp [h x hx]
theorem rj {ws:List Nat}: ∀k,ws.length≤2^(k+1)→2*ws.length - 2≤(row ws k).length:=by
 have key: ∀k c,2^k*c≥ws.length→1≤c→2*ws.length≤(row ws k).length+c:=by
  intro k
  induction k with
  |zero=>intro c h _;simp only [row,cB];omega
  |succ k ih=>
   intro c h hc
   have:=ih (2*c) (by rw [Nat.pow_succ] at h;rw [←Nat.mul_assoc];exact h) (by omega)
   rw [tC];omega
 intro k h
 have:=key k 2 (by rw [Nat.pow_succ] at h;exact h) (by omega)
 omega
theorem kl {ws:List Nat} (h:oK ws) (k m:Nat) (hm:m≤(row ws (k+1)).length):aJ ((row ws (k+1)).take m)≤m∧aJ ((row ws (k+1)).take m)≤ws.length∧2*(m - aJ ((row ws (k+1)).take m))≤(row ws k).length∧
  mg ((row ws (k+1)).take m)=(ws.take (aJ ((row ws (k+1)).take m))).sum+mg ((row ws k).take (2*(m - aJ ((row ws (k+1)).take m))))∧
  (∀x∈(row ws k).take (2*(m - aJ ((row ws (k+1)).take m))),∀y∈ws.drop (aJ ((row ws (k+1)).take m)),x.1<y):=by
 have hl:=tC ws k
 obtain ⟨a,b,h1,h2,h3,h4,h5⟩:=Ek (bH ws) (aH (row ws k)) (sa h) m (by rw [cB,cS,←hl];exact hm)
 rw [cB] at h2
 rw [cS] at h3
 have hlf:aJ ((row ws (k+1)).take m)=a:=by
  rw [row,wS h4,oh,lH,oY,AM fun x hx=>nb _ x (List.mem_of_mem_take hx),List.length_take]
  omega
 rw [hlf]
 have hb:m - a=b:=by omega
 rw [hb]
 refine ⟨by omega,h2,by omega,?_,?_⟩
 ·rw [row,JB h4,FA,lH,DX,vV _ _ (by omega)]
 ·intro x hx y hy
  obtain ⟨p,hp,hxp⟩:=Ba _ _ _ (by omega) hx
  have:=h5 p hp (y,true) (by
   unfold bH
   rw [←List.map_drop]
   exact List.mem_map_of_mem hy)
  exact Nat.lt_of_le_of_lt hxp this
theorem nW {ws:List Nat} (m:Nat) (hm:m≤ws.length):aJ ((row ws 0).take m)=m∧mg ((row ws 0).take m)=(ws.take m).sum:=by
 rw [row,lH]
 exact ⟨by rw [oY,List.length_take];omega,DX _⟩
def whole (ws:List Nat) (k m:Nat):Nat:=aJ ((row ws k).take m)
def lv (ws:List Nat):Nat→Nat→Nat→Nat
 |0,m,i=>if i<whole ws 0 m then 1 else 0
 |k+1,m,i=>(if i<whole ws (k+1) m then 1 else 0)+lv ws k (2*(m - whole ws (k+1) m)) i
theorem nested {ws:List Nat} (h:oK ws) (k m:Nat) (hm:m≤(row ws (k+1)).length):whole ws k (2*(m - whole ws (k+1) m))≤whole ws (k+1) m:=by
 obtain ⟨c1,c2,c3,c4,c5⟩:=kl h k m hm
 generalize hq:whole ws (k+1) m=a
 unfold whole at hq
 rw [hq] at c1 c2 c3 c4 c5
 rcases Nat.lt_or_ge a (whole ws k (2*(m - a))) with hlt|hge
 ·exfalso
  have hmem: ∀i,i<whole ws k (2*(m - a))→∃(hi:i<ws.length),(ws[i],true)∈(row ws k).take (2*(m - a)):=by
   cases k with
   |zero=>
    intro i hi
    have e0:=nW (ws:=ws) (2*(m - a)) (by rw [row,cB] at c3;exact c3)
    unfold whole at hi
    rw [e0.1] at hi
    rw [row,cB] at c3
    refine ⟨by omega,?_⟩
    rw [row,lH]
    unfold bH
    refine List.mem_map_of_mem ?_
    rw [List.mem_iff_getElem]
    exact ⟨i,by rw [List.length_take];omega,by simp⟩
   |succ k=>
    intro i hi
    obtain ⟨a',b',h1,h2,h3,h4,h5⟩:=Ek (bH ws) (aH (row ws k)) (sa h) (2*(m - a)) (by rw [cB,cS,←tC];exact c3)
    rw [cB] at h2
    have hlf:whole ws (k+1) (2*(m - a))=a':=by
     unfold whole
     rw [row,wS h4,oh,lH,oY,AM fun x hx=>nb _ x (List.mem_of_mem_take hx),List.length_take]
     omega
    rw [hlf] at hi
    refine ⟨by omega,?_⟩
    rw [row,h4.mem_iff,List.mem_append]
    left
    rw [lH]
    unfold bH
    refine List.mem_map_of_mem ?_
    rw [List.mem_iff_getElem]
    exact ⟨i,by rw [List.length_take];omega,by simp⟩
  obtain ⟨hi,hx⟩:=hmem a hlt
  have:=c5 _ hx ws[a] (by rw [List.mem_iff_getElem];exact ⟨0,by rw [List.length_drop];omega,by simp⟩)
  simp at this
 ·exact hge
theorem xu {ws:List Nat} (h:oK ws): ∀(k m i:Nat),m≤(row ws k).length→whole ws k m≤i→lv ws k m i=0
 |0,m,i,_,hi=>by unfold lv;rw [if_neg (by omega)]
 |k+1,m,i,hm,hi=>by
  have hn:=nested h k m hm
  unfold lv
  rw [if_neg (by omega),Nat.zero_add]
  exact xu h k _ i (kl h k m hm).2.2.1 (by omega)
theorem vR (ws:List Nat): ∀(k m i:Nat),lv ws k m i≤k+1
 |0,m,i=>by unfold lv;split<;>omega
 |k+1,m,i=>by
  have:=vR ws k (2*(m - whole ws (k+1) m)) i
  unfold lv;split<;>omega
def af (n:Nat) (f:Nat→Nat):Nat:=((List.range n).map f).sum
theorem bW (n:Nat) (f:Nat→Nat):af (n+1) f=af n f+f n:=by
 unfold af
 rw [List.range_succ,List.map_append,List.sum_append];simp
theorem Cg (n:Nat) (f g:Nat→Nat):af n (fun i=>f i+g i)=af n f+af n g:=by
 induction n with
 |zero=>rfl
 |succ n ih=>rw [bW,bW,bW,ih];omega
theorem mO {n:Nat} {f g:Nat→Nat} (h: ∀i,i<n→f i=g i):af n f=af n g:=by
 unfold af
 congr 1
 exact List.map_congr_left fun i hi=>h i (List.mem_range.1 hi)
theorem EP (n c:Nat):af n (fun _=>c)=n*c:=by
 induction n with
 |zero=>simp [af]
 |succ n ih=>rw [bW,ih,Nat.succ_mul]
theorem Jc (n c:Nat) (f:Nat→Nat):af n (fun i=>c*f i)=c*af n f:=by
 induction n with
 |zero=>rfl
 |succ n ih=>rw [bW,bW,ih,Nat.mul_add]
theorem wb (n a:Nat) (ha:a≤n) (c:Nat):af n (fun i=>(if i<a then 1 else 0)*c)=a*c:=by
 have key: ∀n,af n (fun i=>(if i<a then 1 else 0)*c)=min n a*c:=by
  intro n
  induction n with
  |zero=>simp [af]
  |succ n ih=>
   rw [bW,ih]
   by_cases hna:n<a
   ·rw [if_pos hna,Nat.min_eq_left (by omega),Nat.min_eq_left (by omega),Nat.one_mul,Nat.succ_mul]
   ·rw [if_neg hna,Nat.min_eq_right (by omega),Nat.min_eq_right (by omega)];simp
 rw [key,Nat.min_eq_right ha]
def lw (ws:List Nat):Nat→Nat→Nat→Nat
 |0,m,i=>if i<whole ws 0 m then 1 else 0
 |k+1,m,i=>(if i<whole ws (k+1) m then 1 else 0)*2^(k+1)+lw ws k (2*(m - whole ws (k+1) m)) i
theorem Hj {ws:List Nat} (h:oK ws): ∀(k m:Nat),m≤(row ws k).length→af ws.length (lw ws k m)=m*2^k
 |0,m,hm=>by
  have hm':m≤ws.length:=by rw [row,cB] at hm;exact hm
  have e:=nW (ws:=ws) m hm'
  have:=wb ws.length m hm' 1
  have e2:af ws.length (lw ws 0 m)=af ws.length (fun i=>(if i<m then 1 else 0)*1):=mO fun i _=>by
   unfold lw whole
   rw [e.1,Nat.mul_one]
  rw [e2,this]
 |k+1,m,hm=>by
  obtain ⟨c1,c2,c3,c4,c5⟩:=kl h k m hm
  have ih:=Hj h k (2*(m - whole ws (k+1) m)) c3
  have e:af ws.length (lw ws (k+1) m)=af ws.length (fun i=>(if i<whole ws (k+1) m then 1 else 0)*2^(k+1)+lw ws k (2*(m - whole ws (k+1) m)) i):=rfl
  have c1':whole ws (k+1) m≤m:=c1
  have c2':whole ws (k+1) m≤ws.length:=c2
  rw [e,Cg,wb _ _ c2',ih,Nat.mul_comm 2,Nat.mul_assoc,←Nat.pow_succ',←Nat.add_mul]
  congr 1;omega
theorem JJ {ws:List Nat} (h:oK ws): ∀(k m i:Nat),m≤(row ws k).length→lw ws k m i+2^(k+1 - lv ws k m i)=2^(k+1)
 |0,m,i,_=>by unfold lw lv;split<;>rfl
 |k+1,m,i,hm=>by
  have c3:=(kl h k m hm).2.2.1
  have ih:=JJ h k (2*(m - whole ws (k+1) m)) i c3
  have hle:=vR ws k (2*(m - whole ws (k+1) m)) i
  have hp:=Nat.pow_succ (n:=2) (m:=k+1)
  unfold lw lv
  by_cases hi:i<whole ws (k+1) m
  ·rw [if_pos hi,Nat.one_mul,show k+1+1 - (1+lv ws k (2*(m - whole ws (k+1) m)) i)=k+1 - lv ws k (2*(m - whole ws (k+1) m)) i by omega]
   omega
  ·have hn:=nested h k m hm
   have hz:=xu h k (2*(m - whole ws (k+1) m)) i c3 (by omega)
   rw [hz] at ih⊢
   rw [if_neg hi]
   simp only [Nat.zero_mul,Nat.zero_add,Nat.sub_zero] at ih⊢
   omega
theorem Cf {ws:List Nat} (h:oK ws) (k:Nat) (hn:2≤ws.length) (hk:ws.length≤2^(k+1)):af ws.length (fun i=>2^(k+1 - lv ws k (2*ws.length - 2) i))=2^(k+1):=by
 have hm:=rj (ws:=ws) k hk
 have h1:=Hj h k _ hm
 have h2:=Cg ws.length (lw ws k (2*ws.length - 2)) (fun i=>2^(k+1 - lv ws k (2*ws.length - 2) i))
 rw [mO (g:=fun _=>2^(k+1)) fun i _=>JJ h k _ i hm,EP,h1] at h2
 have e1:(2*ws.length - 2)*2^k+2^(k+1)=ws.length*2^(k+1):=by
  have:2*ws.length - 2=2*(ws.length - 1):=by omega
  rw [this,Nat.mul_comm 2,Nat.mul_assoc,←Nat.pow_succ']
  have:ws.length=ws.length - 1+1:=by omega
  conv=>rhs;rw [this,Nat.succ_mul]
 omega
theorem Dd {n:Nat} {f:Nat→Nat} {i:Nat} (hi:i<n):f i≤af n f:=by
 induction n with
 |zero=>omega
 |succ n ih=>
  rw [bW]
  by_cases h:i=n
  ·subst h;omega
  ·have:=ih (by omega);omega
theorem AK {n:Nat} {f:Nat→Nat} {i j:Nat} (hi:i<n) (hj:j<n) (hij:i<j):f i+f j≤af n f:=by
 induction n with
 |zero=>omega
 |succ n ih=>
  rw [bW]
  by_cases h:j=n
  ·subst h
   have:=Dd (f:=f) hij
   omega
  ·have:=ih (by omega) (by omega);omega
theorem MF {ws:List Nat} (h:oK ws) (k:Nat) (hn:2≤ws.length) (hk:ws.length≤2^(k+1)) {i:Nat} (hi:i<ws.length):1≤lv ws k (2*ws.length - 2) i:=by
 have h1:=Cf h k hn hk
 rcases Nat.eq_zero_or_pos (lv ws k (2*ws.length - 2) i) with h0|h0
 ·exfalso
  have hp: ∀j,0<2^(k+1 - lv ws k (2*ws.length - 2) j):=fun j=>Nat.two_pow_pos _
  have e:2^(k+1 - lv ws k (2*ws.length - 2) i)=2^(k+1):=by rw [h0,Nat.sub_zero]
  by_cases hi0:i=0
  ·subst hi0
   have:=AK (f:=fun i=>2^(k+1 - lv ws k (2*ws.length - 2) i)) hi (show 1<ws.length by omega) (by omega)
   have:=hp 1
   omega
  ·have:=AK (f:=fun i=>2^(k+1 - lv ws k (2*ws.length - 2) i)) (show 0<ws.length by omega) hi (by omega)
   have:=hp 0
   omega
 ·exact h0
end Go.Pm
set_option maxRecDepth 20000
namespace Go.Pm
def width (S:Nat→List Nat):Nat→Nat
 |0=>(S 0).length
 |k+1=>(S (k+1)).length*2^(k+1)+width S k
def lenOf (ws:List Nat) (L i:Nat):Nat:=if ws.length=1 then 1 else lv ws (L - 1) (2*ws.length - 2) i
theorem H3 {ws:List Nat} {L:Nat} (ha:oK ws) (hL:1≤L) (hn:ws.length≤2^L) {i:Nat} (hi:i<ws.length):1≤lenOf ws L i∧lenOf ws L i≤L:=by
 unfold lenOf
 split
 ·exact ⟨Nat.le_refl _,hL⟩
 ·obtain ⟨K,rfl⟩: ∃K,L=K+1:=⟨L - 1,by omega⟩
  exact ⟨MF ha K (by omega) hn hi,vR ..⟩
end Go.Pm
set_option maxRecDepth 20000
namespace Go.Srt
def a7 (t:List Int):Bool:=t.all fun x=>decide (0≤x)&&decide (x≤2147483647)
def lC (l:List Nat):Prop:= ∀x∈l,x≤2147483647
def aI (l ys:List Nat):List Nat:=ys.map fun s=>l.getD s 0
end Go.Srt
namespace Go.Proofs.YtcdpblipagajiaaGreat
open Go Go.Vc Go.Srt Go.Pm
section
variable {E w:World} {F:List HP}
def aT (t:List Int):Array Value:=⟨t.map vI⟩
theorem bN {t:List Int}:(aT t).size=t.length:=by simp [aT]
theorem sO {t:List Int} {i:Nat} (h:i<t.length):(aT t)[i]? =some (Sc.enc (.int .i64) t[i]):=by simp [aT,h,vI]
theorem lD {l:List Nat}:aT (ints l)=ai .i64 l:=by
 unfold aT ints ai
 rw [List.map_map];rfl
theorem wG {t:List Int} (h:a7 t=true): ∃l:List Nat,t=ints l∧lC l:=by
 have h:=List.all_eq_true.1 h
 have h': ∀x∈t,0≤x∧x≤2147483647:=fun x hx=>by have:=h x hx;simpa using this
 refine ⟨t.map Int.toNat,?_,fun y hy=> ?_⟩
 ·unfold ints
  rw [List.map_map]
  refine (List.map_id t).symm.trans (List.map_congr_left fun x hx=> ?_)
  have:=h' x hx
  simp;omega
 ·obtain ⟨x,hx,rfl⟩:=List.mem_map.1 hy
  have:=h' x hx
  omega
theorem iU {l:List Nat} (h:lC l):a7 (ints l)=true:=by
 refine List.all_eq_true.2 fun x hx=> ?_
 obtain ⟨y,hy,rfl⟩:=List.mem_map.1 hx
 have:=h y hy
 simp;omega
theorem cF {l:List Nat}:(ints l).length=l.length:=List.length_map _
theorem NA {x:Int} {K:Bool→World→Prop} (hK:K (!(decide (0≤x)&&decide (x≤2147483647))) w):iY Tryz.prog (.func (.func jo) ⟨[]⟩ ⟨[]⟩) [kB] [.int .i64 x] w K:=by
 refine iY.mk (by kernel_rfl) (rO.ok x K w ?_)
 refine aa.mk (fun h=> ?_) (fun h=> ?_)
 ·have h:=of_decide_eq_true h
  have e:(!(decide (0≤x)&&decide (x≤2147483647)))=true:=by simp;omega
  rw [e] at hK;exact hK
 ·have h:=of_decide_eq_false h
  have e:(!(decide (0≤x)&&decide (x≤2147483647)))=decide (x>2147483647):=by
   rw [Bool.eq_iff_iff];simp;omega
  rw [e] at hK;exact hK
set_option maxRecDepth 20000 in
theorem sU {t:List Int} {K:Bool→World→Prop} (h:Hp E w F) (hl:t.length=258) (hK: ∀w',Hp E w' F→K (a7 t) w'):Cl Tryz.prog [kB] eo ⟨[.agg (aT t)]⟩ w K:=by
 refine r6.ok _ _ _ ?_
 refine Nw.mk h fun b w1 h1=> ?_
 refine bd.whole (by decide) rfl rfl ?_
 refine l8.ok _ _ _ _ ?_
 refine n9.ok _ _ _ _ ?_
 refine ⟨fun i w'=> ∃k:Nat,i=(k:Int)∧k≤258∧a7 (t.take k)=true∧Hp E w' (aj b (.cells (aT t) 41 (0,0))::F),fun i _=>258 - i.toNat,⟨0,rfl,by omega,rfl,h1⟩,?_⟩
 rintro i w' ⟨k,rfl,hk,hv,hh⟩
 refine aa.mk (fun hlt=> ?_) (fun hge=> ?_)
 ·have hlt:k<258:=by have:=of_decide_eq_true hlt;simp only at this;omega
  have hkl:k<t.length:=by omega
  have hsl:aC 1 ⟨some ⟨b,0,none⟩,258,258⟩ (t.map vI) w':=hh.ag (ab.aF (by simp [aT]) (by simpa using hl))
  refine aq.rd hsl (by omega) (by simp only;omega) fun q hq hc=>Ld.sc (s:= .int .i64) t[k] (by rw [hc];simp [vI]) (NA ?_)
  have es:a7 (t.take (k+1))=(a7 (t.take k)&&(decide (0≤t[k])&&decide (t[k]≤2147483647))):=by
   unfold a7
   rw [List.take_add_one,List.all_append,List.getElem?_eq_getElem hkl];simp
  rw [hv,Bool.true_and] at es
  rw [←es]
  refine aa.mk (fun hb=> ?_) (fun hb=> ?_)
  ·have hb:a7 (t.take (k+1))=false:=by simpa using hb
   have e1:a7 t=false:=by
    have:=List.take_append_drop (k+1) t
    rw [←this]
    unfold a7 at hb⊢
    rw [List.all_append,hb,Bool.false_and]
   have e2:decide ((k:Int)≥0)=true:=by simp
   show K (!decide ((k:Int)≥0)) w'
   rw [e2]
   have:=hK w' hh.drop
   rw [e1] at this;exact this
  ·have hb:a7 (t.take (k+1))=true:=by simpa using hb
   rw [ad (by omega)]
   exact ⟨⟨k+1,rfl,by omega,hb,hh⟩,by dsimp only;omega⟩
 ·have hge:k=258:=by have:=of_decide_eq_false hge;simp only at this;omega
  subst hge
  have e2:decide ((-1:Int)≥0)=false:=by decide
  show K (!decide ((-1:Int)≥0)) w'
  rw [e2]
  have:=hK w' hh.drop
  rw [List.take_of_length_le (by omega)] at hv
  rw [hv] at this;exact this
theorem IN {x y:Int} {K:Int→World→Prop} (hK: ∀z:Int,(z<0↔x<y)→K z w):Cl Tryz.prog [kI] c9 ⟨[.int .i64 x,.int .i64 y]⟩ w K:=by
 refine o0.ok _ _ _ _ ?_
 refine cmp_isNaN_int.ok _ _ _ (cmp_isNaN_int.ok _ _ _ ?_)
 refine aa.f (by simp) (aa.f (by simp) (aa.mk (fun h=>hK _ ?_) (fun h=>aa.mk (fun h2=>hK _ ?_) (fun h2=>hK _ ?_))))
 ·have:=of_decide_eq_true h;omega
 ·have:=of_decide_eq_false h;omega
 ·have:=of_decide_eq_false h;omega
theorem Kh {l:List Nat} {i:Nat} {k:IntKind} (h:i<l.length):(ai k l)[i]? =some (Sc.enc (.int k) (l.getD i 0:Int)):=by
 rw [dC h,List.getD_eq_getElem?_getD,List.getElem?_eq_getElem h];rfl
theorem Na {l:List Nat} {b:Nat} {t:TypeId} (hl:l.length=258):tE E (aj b (.cells (ai .i64 l) t (0,0))::F) (.func (.func js) ⟨[]⟩ ⟨[.pointer (some ⟨b,0,none⟩)]⟩) (uB l) (fun x=>0≤x∧x<258):=by
 rintro A w y x K h ⟨hx0,hx⟩ ⟨hy0,hy⟩ hK
 refine iY.mk (by kernel_rfl) ?_
 refine qO.ok y x ⟨b,0,none⟩ K w ?_
 refine au.mk h fun w1 h1=> ?_
 have h1':=h1.perm List.perm_append_comm
 refine av.rd (s:= .int .i64) h1' hy0 (by omega) _ (Kh (by omega)) ?_
 refine av.rd (s:= .int .i64) h1' hx0 (by omega) _ (Kh (by omega)) ?_
 refine IN fun z hz=>hK z w1 ?_ h1
 rw [hz];rfl
set_option maxRecDepth 20000 in
theorem HH {t:List Int} {K:Sl→World→Prop} (h:Hp E w F) (hl:t.length=258) (hK1:a7 t=false→∀w',Hp E w' F→K ⟨none,0,0⟩ w')
  (hK2: ∀l,t=ints l→lC l→l.length=258→∀ys s w',bA l ys→Hp E w' (al 1 s ((ints ys).map vI)::F)→K s w'):Cl Tryz.prog [kS] fW ⟨[.agg (aT t)]⟩ w K:=by
 refine te.ok _ _ _ ?_
 refine Nw.mk h fun b w1 h1=>Ld.arr h1 (by rw [bN,hl]) (sU h1 hl fun w2 h2=> ?_)
 refine aa.mk (fun hv=>hK1 (by simpa using hv) w2 h2.drop) (fun hv=> ?_)
 have hv:a7 t=true:=by simpa using hv
 obtain ⟨l,rfl,hm⟩:=wG hv
 rw [cF] at hl
 rw [lD] at h2
 refine Ld.arr h2 (by rw [ax,hl]) ?_
 refine ⟨fun o i w'=> ∃k:Nat,i=(k:Int)∧k≤258∧Hp E w' (al 1 o ((ints (fN l k)).map vI)::aj b (.cells (ai .i64 l) 41 (0,0))::F),fun _ i _=>258 - i.toNat,⟨0,rfl,by omega,h2.aW 1⟩,?_⟩
 intro o i w' hI
 obtain ⟨k,hi,hk,hh⟩:=hI
 subst hi
 refine aa.mk (fun hlt=> ?_) (fun hge=> ?_)
 ·have hlt:k<258:=by have:=of_decide_eq_true hlt;omega
  have hkl:k<l.length:=by omega
  refine fl.rd (s:= .int .i64) (by omega) (by omega) _ (qK hkl) ?_
  refine aa.mk (fun hp=> ?_) (fun hp=> ?_)
  ·have hp:0<l.getD k 0:=by have:=of_decide_eq_true hp;omega
   refine Nw.mk hh fun b2 w3 h3=> ?_
   have ho:=hh.a6
   have hu:=mR l k
   simp only [List.length_map,ints,Nat.mul_one] at ho
   refine aP (ys:= [vI (k:Int)]) (n:=1) dG (by decide) (.inl ⟨3,by kernel_rfl⟩) h3.p1 (.inl ⟨some ⟨b2,0,none⟩,1,1,rfl,rfl,h3.ag (ab.aF rfl rfl)⟩) rfl mV (by omega) (by omega) fun s' w4 h4 hs'=> ?_
   rw [ad (by omega)]
   refine ⟨⟨k+1,rfl,by omega,?_⟩,by dsimp only;omega⟩
   rw [jk,if_pos hp,rN,List.map_append]
   exact h4.p1.drop
  ·have hp: ¬0<l.getD k 0:=by have:=of_decide_eq_false hp;omega
   rw [ad (by omega)]
   refine ⟨⟨k+1,rfl,by omega,?_⟩,by dsimp only;omega⟩
   rw [jk,if_neg hp,List.append_nil]
   exact hh
 ·have hge:k=258:=by have:=of_decide_eq_false hge;omega
  subst hge
  have hin: ∀x∈fN l 258,x<258:=fun x hx=>by
   have:=(List.mem_filter.1 hx).1
   simpa using this
  refine sK (key:=uB l) (D:=fun x=>0≤x∧x<258) hh (by have:=mR l 258;rw [aB];simp only [ints,List.length_map];omega) (Na hl) (fun x hx=> ?_) ?_ fun ys w3 hp hs h3=> ?_
  ·obtain ⟨y,hy,rfl⟩:=List.mem_map.1 hx
   have:=hin y hy
   omega
  ·unfold ints
   refine List.Pairwise.map _ (fun a b hab=>Int.ofNat_lt.2 hab) ?_
   exact List.Pairwise.filter _ List.pairwise_lt_range
  ·have hU:fN l 258=used l:=by unfold fN used;rw [hl]
   rw [hU] at hp
   have e:ys=ints (ys.map Int.toNat):=by
    unfold ints
    rw [List.map_map]
    refine (List.map_id ys).symm.trans (List.map_congr_left fun x hx=> ?_)
    obtain ⟨y,_,rfl⟩:=List.mem_map.1 (hp.mem_iff.1 hx)
    simp
   have pN:(ys.map Int.toNat).Perm (used l):=by
    have:=hp.map Int.toNat
    refine this.trans ?_
    unfold ints
    rw [List.map_map]
    refine List.Perm.of_eq ((List.map_congr_left fun x _=> ?_).trans (List.map_id _))
    simp
   rw [e] at h3 hs
   refine hK2 l rfl hm hl (ys.map Int.toNat) _ w3 ⟨pN,?_⟩ h3.p1.drop
   refine (List.pairwise_map.1 hs).imp fun {a b} hab=> ?_
   unfold Ky uB at hab
   simp only [Int.toNat_natCast] at hab
   omega
def fx (x:It):List Value:= [.int .i64 (x.1:Int),.bool x.2]
theorem dq: ∀x,(fx x).length=2:=fun _=>rfl
theorem ob: ∀x,∀y∈fx x,aA y=true:=by
 intro x y hy
 simp only [fx,List.mem_cons,List.not_mem_nil,or_false] at hy
 rcases hy with rfl|rfl<;>rfl
theorem ml:ca Tryz.prog 189 194 2 16:=ca.of (by kernel_rfl) (by kernel_rfl)
theorem Ah {ws:List Nat} {k:Nat} (h:k<ws.length):bH (ws.take (k+1))=bH (ws.take k)++ [(ws[k],true)]:=by
 unfold bH
 rw [List.take_add_one,List.map_append,List.getElem?_eq_getElem h];rfl
theorem B6 {s:Sl} {ys:List Nat} {i:Nat} {K:Int→Prop} (hs:aC 1 s ((ints ys).map vI) w) (hi:i<ys.length) (hK:K (ys[i]:Int)):aq s (i:Int) 1 fun q=>Ld kI q w K:=by
 have hl:=hs.1
 simp only [List.length_map,ints,Nat.mul_one] at hl
 refine aq.rd hs (by omega) (by omega) fun q hq hc=>Ld.sc (s:= .int .i64) (ys[i]:Int) ?_ hK
 rw [hc];simp [vI,ints]
set_option maxRecDepth 20000 in
theorem Ic {l ys:List Nat} {s:Sl} {K:Sl→World→Prop} (h:Hp E w F) (hl:l.length=258) (hs:ab F (aC 1 s ((ints ys).map vI))) (hin: ∀x∈ys,x<258) (hlen:ys.length≤258)
  (hK: ∀s' w',Hp E w' (al 2 s' ((bH (aI l ys)).flatMap fx)::F)→K s' w'):Cl Tryz.prog [kS] fK ⟨[.agg (ai .i64 l),.slice s.base s.len s.cap]⟩ w K:=by
 refine rZ.ok _ _ _ _ ?_
 have hsl:=(h.ag hs).1
 simp only [List.length_map,ints,Nat.mul_one] at hsl
 have hwl:(aI l ys).length=ys.length:=List.length_map _
 refine Nw.mk h fun b w1 h1=>⟨fun o i w'=> ∃k:Nat,i=(k:Int)∧k≤ys.length∧Hp E w' (al 2 o ((bH ((aI l ys).take k)).flatMap fx)::aj b (.cells (ai .i64 l) 41 (0,0))::F),fun _ i _=>ys.length - i.toNat,⟨0,rfl,by omega,by simpa [bH] using h1.aW 2⟩,?_⟩
 rintro o i w' ⟨k,rfl,hk,hh⟩
 refine aa.mk (fun hlt=> ?_) (fun hge=> ?_)
 ·have hlt:k<ys.length:=by have:=of_decide_eq_true hlt;omega
  have hx:=hin _ (List.getElem_mem hlt)
  refine B6 (hh.drop.drop.ag hs) hlt ?_
  refine av.rd (s:= .int .i64) hh.p1 (by omega) (by omega) _ (qK (by omega)) ?_
  have hw:(aI l ys)[k]'(by omega)=l.getD ys[k] 0:=by simp [aI]
  refine s7 (g:=fx) (x:=(l.getD ys[k] 0,true)) ml dq (by decide) rfl (ob _) hh (by rw [cB,List.length_take];omega) (by rw [cB,List.length_take];omega) fun s' w3 h3 _=> ?_
  rw [ad (by omega)]
  refine ⟨⟨k+1,rfl,by omega,?_⟩,by dsimp only;omega⟩
  rw [Ah (by omega),hw];exact h3
 ·have hge:k=ys.length:=by have:=of_decide_eq_false hge;omega
  subst hge
  rw [List.take_of_length_le (by omega)] at hh
  exact hK _ _ hh.p1.drop
end
end Go.Proofs.YtcdpblipagajiaaGreat
set_option maxRecDepth 20000
namespace Go.Srt
def cp (ys:List Nat) (f:Nat→Nat):List Nat:=(List.range 258).map fun s=>if s∈ys then f (ys.idxOf s) else 0
theorem bl (ys:List Nat) (f:Nat→Nat):(cp ys f).length=258:=by simp [cp]
theorem GA {ys:List Nat} {f:Nat→Nat} {s:Nat} (hs:s<258):(cp ys f).getD s 0=if s∈ys then f (ys.idxOf s) else 0:=by
 unfold cp
 rw [List.getD_eq_getElem?_getD,List.getElem?_map,List.getElem?_range hs];rfl
theorem l6: ∀{ys:List Nat} (_:ys.Nodup) {i:Nat} (hi:i<ys.length),ys.idxOf ys[i]=i
 |y::ys,h,0,_=>by simp [List.idxOf_cons]
 |y::ys,h,i+1,hi=>by
  obtain ⟨h1,h2⟩:=List.nodup_cons.1 h
  have hi':i<ys.length:=by simpa using hi
  have hne: ¬y=ys[i]:=fun e=>h1 (e▸List.getElem_mem hi')
  have:=l6 h2 hi'
  have e:(y==ys[i])=false:=by simpa using hne
  simp only [List.getElem_cons_succ,List.idxOf_cons,this,e,cond_false]
theorem qt {ys:List Nat} {f:Nat→Nat} (hn:ys.Nodup) (hin: ∀s∈ys,s<258) {i:Nat} (hi:i<ys.length):(cp ys f).getD ys[i] 0=f i:=by
 rw [GA (hin _ (List.getElem_mem hi)),if_pos (List.getElem_mem hi),l6 hn hi]
theorem ff {ys:List Nat} {f g:Nat→Nat} (h: ∀i,i<ys.length→f i=g i):cp ys f=cp ys g:=by
 unfold cp
 refine List.map_congr_left fun s _=> ?_
 by_cases hs:s∈ys
 ·rw [if_pos hs,if_pos hs,h _ (List.idxOf_lt_length_of_mem hs)]
 ·rw [if_neg hs,if_neg hs]
theorem qh {ys:List Nat} {f:Nat→Nat} {i v:Nat} (hn:ys.Nodup) (hi:i<ys.length):(cp ys f).set ys[i] v=cp ys (fun j=>if j=i then v else f j):=by
 refine List.ext_getElem (by simp [cp]) fun s h1 h2=> ?_
 have hs:s<258:=by rw [bl] at h2;exact h2
 rw [List.getElem_set]
 unfold cp
 simp only [List.getElem_map,List.getElem_range]
 by_cases e:ys[i]=s
 ·rw [if_pos e]
  subst e
  rw [if_pos (List.getElem_mem hi),l6 hn hi,if_pos rfl]
 ·rw [if_neg e]
  by_cases hm:s∈ys
  ·rw [if_pos hm,if_pos hm]
   have hlt:=List.idxOf_lt_length_of_mem hm
   have:ys.idxOf s≠i:=by
    intro e2
    apply e
    have:=List.getElem_idxOf hlt
    rw [←this]
    simp only [e2]
   rw [if_neg this]
  ·rw [if_neg hm,if_neg hm]
theorem Aa (ys:List Nat):cp ys (fun _=>0)=List.replicate 258 0:=by
 refine List.eq_replicate_iff.2 ⟨bl ..,fun x hx=> ?_⟩
 obtain ⟨s,_,rfl⟩:=List.mem_map.1 hx
 split<;>rfl
theorem oV {l ys:List Nat} (h:bA l ys):ys.Nodup:=h.2.imp fun {a b} hab e=>by subst e;omega
theorem qC {l ys:List Nat} (h:bA l ys):Pm.oK (aI l ys):=List.Pairwise.map _ (fun _ _ hab=>hab) (h.2.imp fun {a b} hab=>by omega)
end Go.Srt
namespace Go.Proofs.YtcdpblipagajiaaGreat
open Go Go.Vc Go.Srt Go.Pm
section
variable {E w:World} {F:List HP}
theorem H7 {R:List It} {j:Nat} (h:2*j+1<R.length):aH (R.drop (2*j))=((R[2*j]'(by omega)).1+R[2*j+1].1,false)::aH (R.drop (2*(j+1))):=by
 rw [List.drop_eq_getElem_cons (show 2*j<R.length by omega),List.drop_eq_getElem_cons (show 2*j+1<R.length by omega),aH]
 rfl
theorem GS {R:List It} {j:Nat} (h: ¬2*j+1<R.length):aH (R.drop (2*j))= []:=by
 have:(aH (R.drop (2*j))).length=0:=by rw [cS,List.length_drop];omega
 exact List.length_eq_zero_iff.1 this
set_option maxRecDepth 20000 in
theorem Mx {f1 f2:Sl} {A R:List It} {K:Sl→World→Prop} (h:Hp E w F) (hA:ab F (aC 2 f1 (A.flatMap fx))) (hR:ab F (aC 2 f2 (R.flatMap fx))) (hcap:f1.len≤f1.cap)
  (hb: ∀x∈R,x.1≤2^60) (hlA:A.length≤2^20) (hlR:R.length≤2^20)
  (hK: ∀s' w',Hp E w' (al 2 s' ((bR A (aH R)).flatMap fx)::F)→K s' w'):Cl Tryz.prog [kS] gD ⟨[.slice f1.base f1.len f1.cap,.slice f2.base f2.len f2.cap]⟩ w K:=by
 refine tU.ok _ _ _ _ ?_
 have la:=aC.len dq (by decide) (h.ag hA)
 have lr:=aC.len dq (by decide) (h.ag hR)
 have hpl:=cS R
 have htl:(bR A (aH R)).length=A.length+R.length/2:=by rw [xO,hpl]
 have hsz: ∀o X:List It,o++X=bR A (aH R)→o.length≤2^21:=fun o X e=>by
  have:=congrArg List.length e
  rw [List.length_append,htl] at this
  omega
 refine ⟨fun o k i w'=> ∃(a j:Nat) (l:List It),k=(a:Int)∧i=((2*j:Nat):Int)∧a≤A.length∧2*j≤R.length∧l++bR (A.drop a) (aH (R.drop (2*j)))=bR A (aH R)∧Hp E w' (al 2 o (l.flatMap fx)::F),
  fun _ _ i _=>R.length - i.toNat,⟨0,0,[],rfl,rfl,by omega,by omega,by simp,h.aW 2⟩,?_⟩
 rintro o k i w' ⟨a,j,l,rfl,rfl,ha,hj,heq,hh⟩
 have hll:=hsz _ _ heq
 rw [ad (x:=((2*j:Nat):Int)+1) (by omega)]
 refine aa.mk (fun hlt=> ?_) (fun hge=> ?_)
 ·have hlt:2*j+1<R.length:=by have:=of_decide_eq_true hlt;omega
  rw [H7 hlt] at heq
  have hx1:=hb _ (List.getElem_mem (show 2*j<R.length by omega))
  have hx2:=hb _ (List.getElem_mem hlt)
  have hd:Hp E {w' with drawn:=w'.drawn+1} (al 2 o (l.flatMap fx)::F):=hh.drew
  refine ⟨cc E F,cc.qa hd,?_⟩
  refine aq.Gs (n:=2*j) dq (by decide) hd.drop hR rfl (by omega) fun p hp=> ?_
  refine ae.sc (s:= .int .i64) ((R[2*j]'(by omega)).1:Int) (fun w2 h2=>(h2.ag (hp 0 (by decide))).trans (by simp [fx])) ?_
  refine aq.Gs (n:=2*j+1) dq (by decide) hd.drop hR (by omega) hlt fun q hq=> ?_
  refine ae.sc (s:= .int .i64) (R[2*j+1].1:Int) (fun w2 h2=>(h2.ag (hq 0 (by decide))).trans (by simp [fx])) ?_
  rw [ad (x:=((R[2*j]'(by omega)).1:Int)+(R[2*j+1].1:Int)) (by omega)]
  generalize hp1:(R[2*j]'(by omega)).1+R[2*j+1].1=p1 at heq
  have hp1':((R[2*j]'(by omega)).1:Int)+(R[2*j+1].1:Int)=(p1:Int):=by omega
  rw [hp1']
  refine Nw.mk hd fun b w3 h3=>⟨cc.Gp h3,?_⟩
  refine ak.aF h3 rfl (ob (p1,false)) fun w4 h4=>⟨cc.Gp h4,?_⟩
  refine ⟨fun o k w'=> ∃(a:Nat) (l:List It),k=(a:Int)∧a≤A.length∧l++bR (A.drop a) ((p1,false)::aH (R.drop (2*(j+1))))=bR A (aH R)∧Hp E w' (al 2 o (l.flatMap fx)::aj b (.cells ⟨fx (p1,false)⟩ 194 (0,0))::F),
   fun _ k _=>A.length - k.toNat,⟨a,l,rfl,ha,heq,h4.p1⟩,?_⟩
  rintro o k w5 ⟨a,l,rfl,ha,heq,hh⟩
  have hll:=hsz _ _ heq
  refine au.mk hh fun w6 h6=> ?_
  rw [ad (x:=((2*j:Nat):Int)+2) (by omega)]
  have last:A.drop a= []∨(∃(_:a<A.length),¬A[a].1≤p1)→(l++ [(p1,false)])++bR (A.drop a) (aH (R.drop (2*(j+1))))=bR A (aH R):=by
   rintro (e|⟨hal,hgt⟩)
   ·rw [e,kf] at heq
    rw [e,kf,←heq];simp
   ·rw [List.drop_eq_getElem_cons hal,qp hgt] at heq
    rw [List.drop_eq_getElem_cons hal,←heq];simp
  refine aa.mk (fun hka=> ?_) (fun hka=> ?_)
  ·have hka:a<A.length:=by have:=of_decide_eq_true hka;omega
   refine aq.el (n:=a) dq (by decide) (h6.drop.drop.ag hA) rfl hka fun p hp=> ?_
   refine Ld.sc (s:= .int .i64) (A[a].1:Int) (by rw [hp 0 (by decide)];simp [fx]) ?_
   rw [ar]
   refine Ld.aF h6.p1 (p1:Int) (by simp [fx]) ?_
   refine aa.mk (fun hle=> ?_) (fun hgt=> ?_)
   ·have hle:A[a].1≤p1:=by have:=of_decide_eq_true hle;omega
    rw [List.drop_eq_getElem_cons hka,qm hle] at heq
    refine aq.el (n:=a) dq (by decide) (h6.drop.drop.ag hA) rfl hka fun p hp=> ?_
    refine Ld.st (ks:= [.int .i64,.bool]) ((A[a].1:Int),A[a].2,()) (fun j hj=>hp j hj) ?_
    refine s7 (g:=fx) (x:=A[a]) ml dq (by decide) rfl (ob _) h6 (by omega) (by omega) fun s' w7 h7 _=> ?_
    rw [ad (by omega)]
    refine ⟨⟨a+1,l++ [A[a]],rfl,by omega,?_,h7⟩,by dsimp only;omega⟩
    rw [←heq];simp
   ·have hgt: ¬A[a].1≤p1:=by have:=of_decide_eq_false hgt;omega
    refine Ld.nh (ks:= [.int .i64,.bool]) h6.p1 ((p1:Int),false,()) rfl ?_
    refine s7 (g:=fx) (x:=(p1,false)) ml dq (by decide) rfl (ob _) h6 (by omega) (by omega) fun s' w7 h7 _=> ?_
    exact ⟨⟨a,j+1,l++ [(p1,false)],rfl,by omega,ha,by omega,last (.inr ⟨hka,hgt⟩),h7.p1.drop⟩,by dsimp only;omega⟩
  ·have hka:A.drop a= []:=by
    have:=of_decide_eq_false hka
    exact List.drop_eq_nil_of_le (by omega)
   refine Ld.nh (ks:= [.int .i64,.bool]) h6.p1 ((p1:Int),false,()) rfl ?_
   refine s7 (g:=fx) (x:=(p1,false)) ml dq (by decide) rfl (ob _) h6 (by omega) (by omega) fun s' w7 h7 _=> ?_
   exact ⟨⟨a,j+1,l++ [(p1,false)],rfl,by omega,ha,by omega,last (.inl hka),h7.p1.drop⟩,by dsimp only;omega⟩
 ·have hge: ¬2*j+1<R.length:=by have:=of_decide_eq_false hge;omega
  rw [GS hge,nz] at heq
  refine bd.el (a:=a) (b:=A.length) (l:=A) dq la rfl (by rw [la]) ha (Nat.le_refl _) (by omega) (Int.le_refl _) fun s' hs' hl' _=> ?_
  have hd:=hs' w' (hh.drop.ag hA)
  rw [List.take_of_length_le (by rw [List.length_drop];omega)] at hd
  have hdl:(A.drop a).length≤2^20:=by rw [List.length_drop];omega
  refine rQ (g:=fx) ml dq (by decide) ob hh hd (by omega) (by omega) fun s2 w2 h2 _=>hK s2 w2 ?_
  rw [←heq];exact h2
end
end Go.Proofs.YtcdpblipagajiaaGreat
set_option maxRecDepth 20000
namespace Go.Pm
theorem uo {M:Nat}: ∀{l:List It},(∀x∈l,x.1≤M)→∀x∈aH l,x.1≤2*M
 | [],_,x,h=>by simp [aH] at h
 | [_],_,x,h=>by simp [aH] at h
 |a::b::l,hl,x,h=>by
  rw [aH] at h
  rcases List.mem_cons.1 h with rfl|h
  ·have:=hl a (by simp);have:=hl b (by simp);simp only;omega
  ·exact uo (fun y hy=>hl y (by simp [hy])) x h
theorem yV {ws:List Nat} {M:Nat} (h: ∀x∈ws,x≤M): ∀k,∀x∈row ws k,x.1≤M*2^k
 |0,x,hx=>by
  obtain ⟨y,hy,rfl⟩:=List.mem_map.1 hx
  simpa using h y hy
 |k+1,x,hx=>by
  rcases List.mem_append.1 ((lh _ _).mem_iff.1 hx) with hx|hx
  ·obtain ⟨y,hy,rfl⟩:=List.mem_map.1 hx
   have:=h y hy
   have:=Nat.le_mul_of_pos_right M (Nat.two_pow_pos (k+1))
   simp only;omega
  ·have:=uo (yV h k) x hx
   rw [Nat.pow_succ];rw [←Nat.mul_assoc];omega
theorem mT (ws:List Nat): ∀k,(row ws k).length≤2*ws.length
 |0=>by rw [row,cB];omega
 |k+1=>by
  have:=mT ws k
  rw [tC];omega
theorem E4 {l:List It} {j:Nat} (h:j<l.length):aJ (l.take (j+1))=aJ (l.take j)+if l[j].2=true then 1 else 0:=by
 unfold aJ
 rw [List.take_add_one,List.filter_append,List.length_append,List.getElem?_eq_getElem h]
 congr 1
 by_cases e:l[j].2=true
 ·rw [if_pos e];simp [e]
 ·rw [if_neg e];simp [e]
theorem vY {l:List It} {a b:Nat} (h:a≤b):aJ (l.take a)≤aJ (l.take b):=by
 have:=List.take_append_drop a (l.take b)
 rw [List.take_take,Nat.min_eq_left h] at this
 have h2:=congrArg aJ this
 rw [oh] at h2
 omega
theorem HX (ws:List Nat) {L:Nat} (hL:1≤L) (i:Nat):lenOf ws L i≤L:=by
 unfold lenOf
 split
 ·exact hL
 ·have:=vR ws (L - 1) (2*ws.length - 2) i
  omega
theorem F3 {ws:List Nat} (h:oK ws) (k m:Nat) (hm:m≤(row ws k).length):aJ ((row ws k).take m)≤ws.length:=by
 cases k with
 |zero=>
  rw [row,cB] at hm
  rw [(nW m hm).1];exact hm
 |succ k=>exact (kl h k m hm).2.1
end Go.Pm
namespace Go.Proofs.YtcdpblipagajiaaGreat
open Go Go.Vc Go.Srt Go.Pm
section
variable {E w:World} {F:List HP}
theorem qR {b:Nat} {t:TypeId} {l:List Nat} {K:Array Value→World→Prop} (h:Hp E w (aj b (.cells (ai .u8 l) t (0,0))::F)) (hl:l.length=258) (hK: ∀w',Hp E w' (aj b (.cells (ai .u8 l) t (0,0))::F)→K (ai .u8 l) w'):
  Ld (.arr 258) ⟨b,0,none⟩ w fun x=>an 258 ⟨b,0,none⟩ x w fun w2=>Ld (.arr 258) ⟨b,0,none⟩ w2 fun r=>K r w2:=
 Ld.arr h (by rw [ax,hl]) (an.aF h (by rw [ax,hl]) (by rw [ax,hl]) bk fun w2 h2=>Ld.arr h2 (by rw [ax,hl]) (hK w2 h2))
def iW (s:Sl):List Value:= [.slice s.base s.len s.cap]
theorem gz: ∀x,(iW x).length=1:=fun _=>rfl
theorem Gk: ∀x,∀y∈iW x,aA y=true:=by
 intro x y hy
 have:y= .slice x.base x.len x.cap:=by simpa [iW] using hy
 rw [this];rfl
theorem Kp:ca Tryz.prog 191 189 1 24:=ca.of (by kernel_rfl) (by kernel_rfl)
def vU (ws:List Nat) (rs:List Sl) (G:List HP):Prop:= ∀j (hj:j<rs.length),ab G (aC 2 rs[j] ((row ws j).flatMap fx))∧rs[j].len≤rs[j].cap
theorem vU.more {ws:List Nat} {rs:List Sl} {G:List HP} {s:Sl} (h:vU ws rs G) (hc:s.len≤s.cap):vU ws (rs++ [s]) (al 2 s ((row ws rs.length).flatMap fx)::G):=by
 intro j hj
 rcases Nat.lt_or_ge j rs.length with hlt|hge
 ·rw [List.getElem_append_left hlt]
  exact ⟨(h j hlt).1.cons,(h j hlt).2⟩
 ·have:j=rs.length:=by simp at hj;omega
  subst this
  simp only [List.getElem_append_right (Nat.le_refl _),Nat.sub_self,List.getElem_cons_zero]
  exact ⟨ab.own,hc⟩
theorem D6 {L:Nat} (hL:L≤15):bq .i64 1 (u64 (L:Int))=((2^L:Nat):Int)∧(0:Int)≤u64 (L:Int):=by
 rw [ik (by omega)]
 have hp:2^L≤2^15:=Nat.pow_le_pow_right (by decide) hL
 have hm:IntKind.max .i64=9223372036854775807:=rfl
 have:=dX (k:= .i64) (a:=1) (b:=L) (by have:IntKind.bits .i64=64:=rfl;omega) (by rw [hm];omega)
 rw [Nat.one_mul] at this
 exact ⟨this,by omega⟩
theorem FD {l ys:List Nat} (hm:lC l): ∀x∈aI l ys,x≤2147483647:=by
 intro x hx
 obtain ⟨s,_,rfl⟩:=List.mem_map.1 hx
 rw [List.getD_eq_getElem?_getD]
 cases h:l[s]? with
 |none=>simp
 |some y=>exact hm y (List.mem_of_getElem? h)
theorem JS {l ys:List Nat} (hm:lC l) {k:Nat} (hk:k≤15): ∀x∈row (aI l ys) k,x.1≤2^60:=by
 intro x hx
 have h1:=yV (FD (ys:=ys) hm) k x hx
 have hp:2^k≤2^15:=Nat.pow_le_pow_right (by decide) hk
 have:=Nat.mul_le_mul_left 2147483647 hp
 omega
set_option maxRecDepth 20000 in
theorem C9 {t:List Int} {L:Int} {K:Array Value→Int→World→Prop} (h:Hp E w F) (hl:t.length=258)
  (hK1:(a7 t=false∨L<1∨15<L∨∃l,t=ints l∧(2:Int)^L.toNat<(used l).length)→∀w',Hp E w' F→K (ai .u8 (List.replicate 258 0)) 2 w')
  (hK2: ∀l ys w',t=ints l→lC l→bA l ys→1≤L→L≤15→ys.length≤2^L.toNat→Hp E w' F→K (ai .u8 (cp ys (lenOf (aI l ys) L.toNat))) 0 w'):
  Cl Tryz.prog [.arr 258,kI] dv ⟨[.agg (aT t),.int .i64 L]⟩ w K:=by
 refine qZ.ok _ _ _ _ ?_
 rw [kj]
 simp only [aD]
 refine Nw.mk h fun b4 w1 h1=>Nw.mk h1 fun b6 w2 h2=>Ld.arr h2.p1 (by rw [bN,hl]) (HH h2 hl (fun hv w3 h3=> ?_) (fun l hte hm hll ys s w3 hys h3=> ?_))
 ·refine Ld.arr h3.p1 (by rw [bN,hl]) (sU h3 hl fun w4 h4=>aa.t (by rw [hv];rfl) (qR h4 (by simp) fun w5 h5=>hK1 (.inl hv) w5 h5.drop.drop))
 ·subst hte
  have hlen:=wL hll hys
  have hin:=qB hll hys
  have hsl:s.len=ys.length:=by
   have:=(h3.ag ab.own).1
   simp only [List.length_map,ints,Nat.mul_one] at this
   exact this.symm
  refine Ld.arr h3.p2 (by rw [bN,hl]) (sU h3 hl fun w4 h4=>aa.f (by rw [iU hm];rfl) ?_)
  refine aa.mk (fun hlt=>qR h4.p1 (by simp) fun w5 h5=>hK1 (.inr (.inl (of_decide_eq_true hlt))) w5 h5.drop.drop.drop) (fun hge=> ?_)
  have hge:=of_decide_eq_false hge
  refine aa.mk (fun hgt=>qR h4.p1 (by simp) fun w5 h5=>hK1 (.inr (.inr (.inl (by have:=of_decide_eq_true hgt;omega)))) w5 h5.drop.drop.drop) (fun hle=> ?_)
  have hle:=of_decide_eq_false hle
  obtain ⟨N,rfl⟩:=Int.eq_ofNat_of_zero_le (show 0≤L by omega)
  have hN:N≤15:=by omega
  have hN1:1≤N:=by omega
  obtain ⟨e1,e2⟩:=D6 hN
  rw [e1]
  refine ⟨e2,aa.mk (fun hgt=>qR h4.p1 (by simp) fun w5 h5=>hK1 (.inr (.inr (.inr ⟨l,rfl,?_⟩))) w5 h5.drop.drop.drop) (fun hle2=> ?_)⟩
  ·have hgt:=of_decide_eq_true hgt
   rw [Int.toNat_natCast,←hys.1.length_eq,←hsl]
   rw [show (2:Int)^N=((2^N:Nat):Int) by norm_cast]
   exact hgt
  have hle2:ys.length≤2^N:=by have:=of_decide_eq_false hle2;omega
  have hasc:=qC hys
  have hwl:(aI l ys).length=ys.length:=List.length_map _
  have hnd:=oV hys
  have hin2: ∀s∈ys,s<258:=fun s hs=>(hin s hs).1
  have fine: ∀w',Hp E w' F→K (ai .u8 (cp ys (lenOf (aI l ys) N))) 0 w':=fun w' h'=>hK2 l ys w' rfl hm hys (by omega) (by omega) (by rw [Int.toNat_natCast];exact hle2) h'
  rw [←Aa ys] at h4
  refine aa.mk (fun h1=> ?_) (fun h1=> ?_)
  ·have h1:ys.length=1:=by have:(s.len:Int)=1:=by simpa using h1
                           omega
   refine B6 (i:=0) (h4.ag ab.own) (by omega) ?_
   have hx:=hin2 _ (List.getElem_mem (show 0<ys.length by omega))
   refine av.wr h4.p1 (by omega) (by omega) (by rw [ax,bl]) rfl fun w5 h5=> ?_
   rw [Int.toNat_natCast] at h5
   have e:=oC (k:= .u8) (l:=cp ys fun _=>0) (i:=ys[0]) (x:=1)
   rw [show (Value.int .u8 1)= .int .u8 ((1:Nat):Int) from rfl,e,qh hnd (by omega)] at h5
   have e3:cp ys (fun j=>if j=0 then 1 else 0)=cp ys (lenOf (aI l ys) N):=ff fun i hi=>by
    have:i=0:=by omega
    subst this
    unfold lenOf
    rw [if_pos rfl,if_pos (by omega)]
   rw [e3] at h5
   exact qR h5 (bl ..) fun w6 h6=>fine w6 h6.drop.drop.drop
  ·have h1:ys.length≠1:=by
    intro e
    have: ¬(s.len:Int)=1:=by simpa using h1
    omega
   rw [lD] at h4
   refine Ld.arr h4.p2 (by rw [ax,hll]) (Ic h4 hll ab.own hin2 hlen fun s0 w5 h5=>Nw.mk h5 fun b38 w6 h6=> ?_)
   have hc0:=h5.ee
   refine ⟨fun rows k w'=> ∃(rs:List Sl) (G:List HP),k=(rs.length:Int)∧1≤rs.length∧rs.length≤N∧vU (aI l ys) rs G∧
     Hp E w' (al 1 rows (rs.flatMap iW)::aj b6 (.cells (ai .u8 (cp ys fun _=>0)) 36 (0,0))::al 1 s ((ints ys).map vI)::aj b4 (.cells (ai .i64 l) 41 (0,0))::(G++F)),
    fun _ k _=>N - k.toNat,⟨[s0],[al 2 s0 ((bH (aI l ys)).flatMap fx)],rfl,Nat.le_refl _,hN1,?_,?_⟩,?_⟩
   ·intro j hj
    have:j=0:=by simp at hj;omega
    subst this
    exact ⟨ab.own,hc0⟩
   ·exact ((h6.dh (sz:=1) (n:=1) rfl).p1.q4).p2.p1
   rintro rows k w7 ⟨rs,G,rfl,hr1,hrN,hrs,hh⟩
   have hrl:=aC.len gz (by decide) (hh.ag ab.own)
   refine aa.mk (fun hlt=> ?_) (fun hge=> ?_)
   ·have hlt:rs.length<N:=by have:=of_decide_eq_true hlt;omega
    have hd:Hp E {w7 with drawn:=w7.drawn+1} _:=hh.drew
    have hrd: ∀w',Hp E w' (al 1 rows (rs.flatMap iW)::aj b6 (.cells (ai .u8 (cp ys fun _=>0)) 36 (0,0))::al 1 s ((ints ys).map vI)::aj b4 (.cells (ai .i64 l) 41 (0,0))::(G++F))→aC 1 rows (rs.flatMap iW) w':=fun w' h'=>h'.ag ab.own
    have key: ∀(i:Nat) (hi:i<rs.length) {K:Addr→Prop},(∀p,(∀w,aC 1 rows (rs.flatMap iW) w→w.cell? p=some (.slice rs[i].base rs[i].len rs[i].cap))→K p)→aq rows (i:Int) 1 K:=by
     intro i hi K hK
     obtain ⟨p,hp,_⟩:=(hrd _ hd).2 i (by rw [di gz];omega)
     refine ⟨p,hp,by omega,by omega,hK _ fun w2 h2=> ?_⟩
     obtain ⟨q,hq,hc⟩:=h2.2 i (by rw [di gz];omega)
     have:q=p:=Option.some.inj (hq.symm.trans hp)
     subst this
     rw [Int.toNat_natCast,Nat.mul_one,hc]
     have:=jh gz rs i 0 hi (by decide)
     rw [Nat.mul_one,Nat.add_zero] at this
     rw [←List.getElem?_eq_getElem,this];rfl
    have hr0:=hrs 0 (by omega)
    have hrk:=hrs (rs.length - 1) (by omega)
    refine ⟨aC 1 rows (rs.flatMap iW),hrd _ hd,?_⟩
    refine key 0 (by omega) fun p hp=>ae.sc (s:= .sl) rs[0] hp ?_
    rw [show i64 ((rs.length:Int) - 1)=((rs.length - 1:Nat):Int) by rw [ad (by omega)];omega]
    refine key (rs.length - 1) (by omega) fun q hq=>ae.sc (s:= .sl) rs[rs.length - 1] hq ?_
    have hlr:=mT (aI l ys) (rs.length - 1)
    refine Mx hd (ab.cons (ab.cons (ab.cons (ab.cons hr0.1.uL)))) (ab.cons (ab.cons (ab.cons (ab.cons hrk.1.uL)))) hr0.2 (JS hm (by omega)) (by rw [row,cB];omega) (by omega) fun s' w8 h8=> ?_
    have hcs:=h8.ee
    refine ⟨hrd _ h8.drop,Nw.mk h8 fun b53 w9 h9=>⟨hrd _ h9.drop.drop,?_⟩⟩
    refine tW (ys:=iW s') (n:=1) Kp (by decide) (.inl ⟨189,by kernel_rfl⟩) h9.p2 (.inl ⟨_,_,_,rfl,rfl,h9.ag (ab.aF rfl rfl)⟩) rfl (Gk s') (by omega) (by omega) fun s2 w10 h10 _ hold=>⟨hold,?_⟩
    have e:rs.length - 1+1=rs.length:=by omega
    have er:bR (row (aI l ys) 0) (aH (row (aI l ys) (rs.length - 1)))=row (aI l ys) rs.length:=by
     conv=>rhs;rw [←e,row]
     rfl
    rw [er] at h10
    rw [ad (by omega)]
    refine ⟨⟨rs++ [s'],al 2 s' ((row (aI l ys) rs.length).flatMap fx)::G,by simp,by simp,by simp;omega,hrs.more hcs,?_⟩,by dsimp only;omega⟩
    have h11:=h10.p1.drop
    rw [List.flatMap_append,show [s'].flatMap iW=iW s' by simp]
    exact h11.p1.q4
   ·have hge:rs.length=N:=by have:=of_decide_eq_false hge;omega
    have tot15: ∀i,lenOf (aI l ys) N i≤15:=fun i=>Nat.le_trans (HX _ hN1 i) hN
    have htot: ∀i,lenOf (aI l ys) N i=lv (aI l ys) (N - 1) (2*ys.length - 2) i:=fun i=>by
     unfold lenOf
     rw [if_neg (by omega),hwl]
    refine ⟨fun many k w'=> ∃f:Nat→Nat,(((k= -1∨many≤0)∧ -1≤k∧k<N∧∀i,i<ys.length→f i=lenOf (aI l ys) N i)∨
       (∃kk m:Nat,k=(kk:Int)∧kk<N∧many=(m:Int)∧m≤(row (aI l ys) kk).length∧∀i,i<ys.length→f i+lv (aI l ys) kk m i=lenOf (aI l ys) N i))∧
      Hp E w' (aj b6 (.cells (ai .u8 (cp ys f)) 36 (0,0))::al 1 rows (rs.flatMap iW)::al 1 s ((ints ys).map vI)::aj b4 (.cells (ai .i64 l) 41 (0,0))::(G++F)),
     fun _ k _=>(k+1).toNat,⟨fun _=>0,?_,hh.p1⟩,?_⟩
    ·rw [ad (x:=2*(s.len:Int)) (by omega),ad (x:=2*(s.len:Int) - 2) (by omega),ad (by omega)]
     rcases Nat.eq_zero_or_pos ys.length with h0|h0
     ·exact .inl ⟨.inr (by omega),by omega,by omega,fun i hi=>by omega⟩
     ·refine .inr ⟨N - 1,2*ys.length - 2,by omega,by omega,by omega,?_,fun i _=>by rw [htot,Nat.zero_add]⟩
      rw [←hwl]
      exact rj (N - 1) (by rw [hwl,show N - 1+1=N by omega];exact hle2)
    rintro many k w8 ⟨f,hf,hh⟩
    have done:(∀i,i<ys.length→f i=lenOf (aI l ys) N i)→Hp E w8 (aj b6 (.cells (ai .u8 (cp ys (lenOf (aI l ys) N))) 36 (0,0))::al 1 rows (rs.flatMap iW)::al 1 s ((ints ys).map vI)::aj b4 (.cells (ai .i64 l) 41 (0,0))::(G++F)):=fun hi=>by
     rw [←ff hi];exact hh
    refine aa.mk (fun hk=> ?_) (fun hk=> ?_)
    ·have hk:=of_decide_eq_true hk
     refine aa.mk (fun hmany=> ?_) (fun hmany=> ?_)
     ·have hmany:=of_decide_eq_true hmany
      rcases hf with ⟨h0,_⟩|⟨kk,m,rfl,hkN,rfl,hm2,hf⟩
      ·omega
      have hrk:=hrs kk (by omega)
      have hlr:=mT (aI l ys) kk
      refine aq.el (n:=kk) gz (by decide) (hh.p1.ag ab.own) rfl (by omega) fun p hp=> ?_
      refine Ld.sc (s:= .sl) rs[kk] (by have:=hp 0 (by decide);rw [add_zero] at this;rw [this];rfl) ?_
      have hrt:ab (G++F) (aC 2 rs[kk] ((row (aI l ys) kk).flatMap fx)):=hrk.1.uL
      have hrl2:=aC.len dq (by decide) (hh.drop.drop.drop.drop.ag hrt)
      refine bd.el (a:=0) (b:=m) (l:=row (aI l ys) kk) dq hrl2 rfl rfl (by omega) hm2 (by omega) (Int.le_refl _) fun sm hsm hsml _=> ?_
      have hsm2:ab (G++F) (aC 2 sm (((row (aI l ys) kk).take m).flatMap fx)):=hrt.imp fun w' hw'=>by simpa using hsm w' hw'
      refine ⟨fun wh j w'=> ∃jj:Nat,j=(jj:Int)∧jj≤m∧wh=(aJ ((row (aI l ys) kk).take jj):Int)∧
        Hp E w' (aj b6 (.cells (ai .u8 (cp ys fun i=>f i+if i<aJ ((row (aI l ys) kk).take jj) then 1 else 0)) 36 (0,0))::al 1 rows (rs.flatMap iW)::al 1 s ((ints ys).map vI)::aj b4 (.cells (ai .i64 l) 41 (0,0))::(G++F)),
       fun _ j _=>m - j.toNat,⟨0,rfl,by omega,rfl,hh⟩,?_⟩
      rintro wh j w9 ⟨jj,rfl,hj,rfl,hh⟩
      have hlfm:=vY (l:=row (aI l ys) kk) (show jj≤m from hj)
      have hlfn:=F3 hasc kk m hm2
      refine aa.mk (fun hjm=> ?_) (fun hjm=> ?_)
      ·have hjm:jj<m:=by have:=of_decide_eq_true hjm;omega
       have hjr:jj<(row (aI l ys) kk).length:=by omega
       have hls:=E4 hjr
       have hlfm2:=vY (l:=row (aI l ys) kk) (show jj+1≤m from hjm)
       refine aq.el (n:=jj) dq (by decide) (hh.drop.drop.drop.drop.ag hsm2) rfl (by rw [List.length_take];omega) fun p hp=> ?_
       rw [List.getElem_take] at hp
       refine Ld.st (ks:= [.int .i64,.bool]) (((row (aI l ys) kk)[jj].1:Int),(row (aI l ys) kk)[jj].2,()) (fun j hj=>hp j hj) ?_
       refine Nw.mk hh fun b80 w10 h10=>ak.aF h10 rfl (ob (row (aI l ys) kk)[jj]) fun w11 h11=> ?_
       rw [ar]
       refine Ld.aF h11 (row (aI l ys) kk)[jj].2 (by simp [fx]) ?_
       have h12:=h11.drop
       refine aa.mk (fun hlf=> ?_) (fun hlf=> ?_)
       ·rw [if_pos hlf] at hls
        have hwn:aJ ((row (aI l ys) kk).take jj)<ys.length:=by omega
        have hx:=hin2 _ (List.getElem_mem hwn)
        have hfi:=hf _ hwn
        have h15:=tot15 (aJ ((row (aI l ys) kk).take jj))
        have hlv:1≤lv (aI l ys) kk m (aJ ((row (aI l ys) kk).take jj)):=by
         cases kk with
         |zero=>unfold lv whole;rw [if_pos (by omega)];exact Nat.le_refl _
         |succ kk=>unfold lv whole;rw [if_pos (by omega)];omega
        refine B6 (h12.p2.ag ab.own) hwn ?_
        refine av.rd (s:= .int .u8) h12 (by omega) (by omega) _ (qK (by rw [bl];omega)) ?_
        rw [qt hnd hin2 hwn,if_neg (by omega),Nat.add_zero]
        refine av.wr h12 (by omega) (by omega) (by rw [ax,bl]) rfl fun w13 h13=> ?_
        rw [Int.toNat_natCast,dH (by omega),show ((f (aJ ((row (aI l ys) kk).take jj)):Int)+1)=((f (aJ ((row (aI l ys) kk).take jj))+1:Nat):Int) by omega,oC,qh hnd hwn] at h13
        rw [ad (x:=(aJ ((row (aI l ys) kk).take jj):Int)+1) (by omega),ad (by omega)]
        refine ⟨⟨jj+1,rfl,by omega,by omega,?_⟩,by dsimp only;omega⟩
        rw [hls]
        have e:cp ys (fun i=>f i+if i<aJ ((row (aI l ys) kk).take jj)+1 then 1 else 0)=cp ys (fun j=>if j=aJ ((row (aI l ys) kk).take jj) then f (aJ ((row (aI l ys) kk).take jj))+1 else f j+if j<aJ ((row (aI l ys) kk).take jj) then 1 else 0):=ff fun i _=>by
         by_cases hi:i=aJ ((row (aI l ys) kk).take jj)
         ·subst hi;rw [if_pos (by omega),if_pos rfl]
         ·rw [if_neg hi]
          congr 1
          by_cases hi2:i<aJ ((row (aI l ys) kk).take jj)
          ·rw [if_pos hi2,if_pos (by omega)]
          ·rw [if_neg hi2,if_neg (by omega)]
        rw [e];exact h13
       ·rw [if_neg (by rw [hlf];simp)] at hls
        have hls:aJ ((row (aI l ys) kk).take (jj+1))=aJ ((row (aI l ys) kk).take jj):=hls
        rw [ad (by omega)]
        refine ⟨⟨jj+1,rfl,by omega,by rw [hls],?_⟩,by dsimp only;omega⟩
        rw [hls];exact h12
      ·have hjm:jj=m:=by have:=of_decide_eq_false hjm;omega
       subst hjm
       have hlj:aJ ((row (aI l ys) kk).take jj)≤jj:=by
        unfold aJ
        have:=List.length_filter_le (fun x:It=>x.2) ((row (aI l ys) kk).take jj)
        rw [List.length_take] at this;omega
       rw [ad (x:=(jj:Int) - _) (by omega),ad (x:=2*_) (by omega),ad (by omega)]
       refine ⟨⟨_,?_,hh⟩,by dsimp only;omega⟩
       cases kk with
       |zero=>
        refine .inl ⟨.inl (by omega),by omega,by omega,fun i hi=> ?_⟩
        have:=hf i hi
        unfold lv whole at this
        exact this
       |succ kk=>
        refine .inr ⟨kk,2*(jj - whole (aI l ys) (kk+1) jj),by omega,by omega,?_,(kl hasc kk jj hm2).2.2.1,fun i hi=> ?_⟩
        ·show 2*((jj:Int) - (whole (aI l ys) (kk+1) jj:Int))=_
         have:whole (aI l ys) (kk+1) jj≤jj:=hlj
         omega
        ·have:=hf i hi
         rw [lv] at this
         rw [←this]
         unfold whole
         omega
     ·have hmany:=of_decide_eq_false hmany
      refine qR (done ?_) (bl ..) fun w9 h9=>fine w9 h9.drop.drop.drop.drop.nc
      rcases hf with ⟨_,_,_,h0⟩|⟨kk,m,rfl,hkN,rfl,hm2,hf⟩
      ·exact h0
      ·intro i hi
       have h0:=hf i hi
       have hm0:m=0:=by omega
       subst hm0
       rw [xu hasc kk 0 i hm2 (by simp [whole,aJ]),Nat.add_zero] at h0
       exact h0
    ·have hk:=of_decide_eq_false hk
     refine qR (done ?_) (bl ..) fun w9 h9=>fine w9 h9.drop.drop.drop.drop.nc
     rcases hf with ⟨_,_,_,h0⟩|⟨kk,m,rfl,hkN,rfl,hm2,hf⟩
     ·exact h0
     ·omega
end
end Go.Proofs.YtcdpblipagajiaaGreat
set_option maxRecDepth 20000
namespace Go.Srt
theorem EI {l ys:List Nat} {s k:Nat} (hp:ys.Perm ((List.range s).filter fun s=>decide (0<l.getD s 0))) (ho:ys.Pairwise fun a b=>l.getD a 0<l.getD b 0∨(l.getD a 0=l.getD b 0∧a<b)) (hk:k≤ys.length)
  (h1: ∀j (hj:j<ys.length),k≤j→l.getD s 0<l.getD ys[j] 0) (h2:k=0∨∃h:k - 1<ys.length,l.getD ys[k - 1] 0≤l.getD s 0):
  (ys.take k++s::ys.drop k).Pairwise fun a b=>l.getD a 0<l.getD b 0∨(l.getD a 0=l.getD b 0∧a<b):=by
 have hlt: ∀x∈ys,x<s:=fun x hx=>by
  have:=(List.mem_filter.1 (hp.mem_iff.1 hx)).1
  simpa using this
 have hA: ∀x∈ys.take k,l.getD x 0≤l.getD s 0:=by
  intro x hx
  obtain ⟨i,hi,rfl⟩:=List.getElem_of_mem hx
  rw [List.length_take] at hi
  rw [List.getElem_take]
  rcases h2 with h2|⟨hk1,h2⟩
  ·omega
  ·by_cases e:i=k - 1
   ·subst e;exact h2
   ·have:=(List.pairwise_iff_getElem.1 ho) i (k - 1) (by omega) hk1 (by omega)
    omega
 have hB: ∀x∈ys.drop k,l.getD s 0<l.getD x 0:=by
  intro x hx
  obtain ⟨i,hi,rfl⟩:=List.getElem_of_mem hx
  rw [List.length_drop] at hi
  rw [List.getElem_drop]
  exact h1 _ (by omega) (by omega)
 have hs:(ys.take k++ys.drop k).Pairwise fun a b=>l.getD a 0<l.getD b 0∨(l.getD a 0=l.getD b 0∧a<b):=by rw [List.take_append_drop];exact ho
 obtain ⟨p1,p2,p3⟩:=List.pairwise_append.1 hs
 refine List.pairwise_append.2 ⟨p1,List.pairwise_cons.2 ⟨fun x hx=> .inl (hB x hx),p2⟩,fun x hx y hy=> ?_⟩
 rcases List.mem_cons.1 hy with rfl|hy
 ·have h3:=hA x hx
  have h4:=hlt x (List.mem_of_mem_take hx)
  omega
 ·exact p3 x hx y hy
end Go.Srt
namespace Go.Proofs.YtcdpblipagajiaaGreat
open Go Go.Vc Go.Srt Go.Pm
section
variable {E w:World} {F:List HP}
set_option maxRecDepth 20000 in
theorem ry {t:List Int} {K:Bool→World→Prop} (h:Hp E w F) (hl:t.length=258) (hK: ∀w',Hp E w' F→K (a7 t) w'):Cl Tryz.prog [kB] jy ⟨[.agg (aT t)]⟩ w K:=by
 refine Dg.ok _ _ _ ?_
 refine Nw.mk h fun b w1 h1=> ?_
 refine ⟨fun i w'=> ∃k:Nat,i=(k:Int)∧k≤258∧a7 (t.take k)=true∧Hp E w' (aj b (.cells (aT t) 41 (0,0))::F),fun i _=>258 - i.toNat,⟨0,rfl,by omega,rfl,h1⟩,?_⟩
 rintro i w' ⟨k,rfl,hk,hv,hh⟩
 refine aa.mk (fun hlt=> ?_) (fun hge=> ?_)
 ·have hlt:k<258:=by have:=of_decide_eq_true hlt;omega
  have hkl:k<t.length:=by omega
  have es:a7 (t.take (k+1))=(a7 (t.take k)&&(decide (0≤t[k])&&decide (t[k]≤2147483647))):=by
   unfold a7
   rw [List.take_add_one,List.all_append,List.getElem?_eq_getElem hkl];simp
  rw [hv,Bool.true_and] at es
  have bad:(decide (0≤t[k])&&decide (t[k]≤2147483647))=false→K false w':=fun hb=>by
   rw [←es] at hb
   have e1:a7 t=false:=by
    have:=List.take_append_drop (k+1) t
    rw [←this]
    unfold a7 at hb⊢
    rw [List.all_append,hb,Bool.false_and]
   have:=hK w' hh.drop
   rw [e1] at this;exact this
  have hx:(aT t)[((k:Nat):Int).toNat]? =some (Sc.enc (.int .i64) t[k]):=by rw [Int.toNat_natCast];exact sO hkl
  refine av.rd (s:= .int .i64) hh (by omega) (by omega) _ hx ?_
  refine aa.mk (fun hb=>bad (by have:=of_decide_eq_true hb;simp;omega)) (fun hb=> ?_)
  refine av.rd (s:= .int .i64) hh (by omega) (by omega) _ hx ?_
  refine aa.mk (fun hb2=>bad (by have:=of_decide_eq_true hb2;simp;omega)) (fun hb2=> ?_)
  have hb:=of_decide_eq_false hb
  have hb2:=of_decide_eq_false hb2
  rw [ad (by omega)]
  exact ⟨⟨k+1,rfl,by omega,by rw [es];simp;omega,hh⟩,by dsimp only;omega⟩
 ·have hge:k=258:=by have:=of_decide_eq_false hge;omega
  subst hge
  have:=hK w' hh.drop
  rw [List.take_of_length_le (by omega)] at hv
  rw [hv] at this;exact this
def gN (x:Nat):List Value:= [vI (x:Int)]
theorem s9: ∀x,(gN x).length=1:=fun _=>rfl
theorem J7: ∀x,∀y∈gN x,aA y=true:=by
 intro x y hy
 have:y=vI (x:Int):=by simpa [gN] using hy
 rw [this];rfl
theorem E6 (ys:List Nat):(ints ys).map vI=ys.flatMap gN:=by
 unfold ints
 induction ys with
 |nil=>rfl
 |cons y ys ih=>rw [List.flatMap_cons,←ih];rfl
theorem Cj {P:Program} {α:Type} {g:α→List Value} {sz bytes:Nat} {t e:TypeId} {e2:TypeId} {s:Sl} {l:List α} {x:α} {k:Nat} {K:Sl→World→Prop} (he:ca P t e sz bytes) (hg: ∀x,(g x).length=sz) (hz:0<sz) (hsc: ∀x,∀y∈g x,aA y=true)
  {A:List HP} (h:Hp E w (A++F)) (hs:ab A (aC sz s (l.flatMap g))) (hcap:s.len≤s.cap) (hk:k≤l.length) (hlen:l.length≤2^20) (hby:bytes≤1024) {cs:Array Value} (hcs:cs=⟨g x⟩)
  (hK: ∀s' w',Hp E w' (al sz s' ((l.take k++x::l.drop k).flatMap g)::(A++F))→K s' w'):
  bd s 0 (k:Int) s.cap sz fun s1=>ay P (Builtin.append_ #[t,t] t ⟨[.slice none 0 0,.slice s1.base s1.len s1.cap]⟩) kS w fun s2 w2=>
   Nw e2 cs w2 fun b w3=>ay P (Builtin.append_ #[t,t] t ⟨[.slice s2.base s2.len s2.cap,.slice (some ⟨b,0,none⟩) 1 1]⟩) kS w3 fun s3 w4=>
   bd s (k:Int) s.len s.cap sz fun s4=>ay P (Builtin.append_ #[t,t] t ⟨[.slice s3.base s3.len s3.cap,.slice s4.base s4.len s4.cap]⟩) kS w4 K:=by
 have JL:ab (A++F) (aC sz s (l.flatMap g)):=hs.uL
 have hl:=aC.len hg hz (h.ag JL)
 have hb: ∀n,n≤2*l.length+4→(2*n+1024)*bytes≤2^48:=fun n hn=>by
  have:(2*n+1024)*bytes≤8388608*1024:=Nat.mul_le_mul (by omega) hby
  omega
 refine bd.el (a:=0) (b:=k) (l:=l) hg hl rfl rfl (by omega) hk (by omega) (Int.le_refl _) fun s1 hs1 hl1 _=> ?_
 have h1:=hs1 w (h.ag JL)
 simp only [List.drop_zero,Nat.sub_zero] at h1
 refine rQ (s:=⟨none,0,0⟩) (l:= []) he hg hz hsc (h.aW sz) h1 (hb _ (by simp;omega)) (by simp;omega) fun s2 w2 h2 _=> ?_
 rw [List.nil_append] at h2
 refine s7 (g:=g) (x:=x) he hg hz hcs (hsc x) h2 (hb _ (by simp;omega)) (by simp;omega) fun s3 w3 h3 _=> ?_
 refine bd.el (a:=k) (b:=l.length) (l:=l) hg hl rfl (by rw [hl]) hk (Nat.le_refl _) (by omega) (Int.le_refl _) fun s4 hs4 hl4 _=> ?_
 have h4:=hs4 w3 (h3.drop.ag JL)
 rw [List.take_of_length_le (by rw [List.length_drop];omega)] at h4
 refine rQ he hg hz hsc h3 h4 (hb _ (by simp;omega)) (by simp;omega) fun s5 w5 h5 _=>hK s5 w5 ?_
 rw [List.append_assoc] at h5
 exact h5
end
end Go.Proofs.YtcdpblipagajiaaGreat
set_option maxRecDepth 20000
namespace Go.Pm
structure HM where
 w:Nat
 sym:Int
 one:Nat
 two:Nat
def cz (ys:List Nat):List It→Nat→Nat→List HM
 | [],_,_=> []
 |(w,true)::l,a,b=>⟨w,(ys.getD a 0:Int),0,0⟩::cz ys l (a+1) b
 |(w,false)::l,a,b=>⟨w,-1,2*b,2*b+1⟩::cz ys l a (b+1)
def cN (l:List It):Nat:=(l.filter fun x=> !x.2).length
theorem lU: ∀l:List It,aJ l+cN l=l.length
 | []=>rfl
 |(w,true)::l=>by
  have:=lU l
  simp only [aJ,cN,List.filter_cons] at*
  simp;omega
 |(w,false)::l=>by
  have:=lU l
  simp only [aJ,cN,List.filter_cons] at*
  simp;omega
theorem cK (ys:List Nat): ∀(l:List It) (a b:Nat),(cz ys l a b).length=l.length
 | [],_,_=>rfl
 |(w,true)::l,a,b=>by rw [cz,List.length_cons,cK ys l,List.length_cons]
 |(w,false)::l,a,b=>by rw [cz,List.length_cons,cK ys l,List.length_cons]
theorem nE (ys:List Nat): ∀(l l':List It) (a b:Nat),cz ys (l++l') a b=cz ys l a b++cz ys l' (a+aJ l) (b+cN l)
 | [],l',a,b=>rfl
 |(w,true)::l,l',a,b=>by
  rw [List.cons_append,cz,cz,nE ys l,List.cons_append]
  have e1:aJ ((w,true)::l)=aJ l+1:=by simp [aJ]
  have e2:cN ((w,true)::l)=cN l:=by simp [cN]
  rw [e1,e2,show a+1+aJ l=a+(aJ l+1) by omega]
 |(w,false)::l,l',a,b=>by
  rw [List.cons_append,cz,cz,nE ys l,List.cons_append]
  have e1:aJ ((w,false)::l)=aJ l:=by simp [aJ]
  have e2:cN ((w,false)::l)=cN l+1:=by simp [cN]
  rw [e1,e2,show b+1+cN l=b+(cN l+1) by omega]
theorem wC (ys:List Nat): ∀(l:List It) (a b c:Nat),(∀x∈l,x.2=true)→cz ys l a b=cz ys l a c
 | [],_,_,_,_=>rfl
 |(w,true)::l,a,b,c,h=>by rw [cz,cz,wC ys l (a+1) b c fun x hx=>h x (List.mem_cons_of_mem _ hx)]
 |(w,false)::l,a,b,c,h=>by have:=h (w,false) (by simp);cases this
theorem xM (ys:List Nat) (l:List It) {i:Nat} (hi:i<l.length):(cz ys l 0 0)[i]'(by rw [cK];exact hi)=
  if l[i].2=true then ⟨l[i].1,(ys.getD (aJ (l.take i)) 0:Int),0,0⟩ else ⟨l[i].1,-1,2*(i - aJ (l.take i)),2*(i - aJ (l.take i))+1⟩:=by
 have e:l=l.take i++l[i]::l.drop (i+1):=by rw [List.getElem_cons_drop,List.take_append_drop]
 have hp:=lU (l.take i)
 rw [List.length_take] at hp
 have hl:(cz ys (l.take i) 0 0).length=i:=by rw [cK,List.length_take];omega
 have key:(cz ys l 0 0)[i]? =some (if l[i].2=true then ⟨l[i].1,(ys.getD (aJ (l.take i)) 0:Int),0,0⟩ else ⟨l[i].1,-1,2*(i - aJ (l.take i)),2*(i - aJ (l.take i))+1⟩):=by
  have e2:cz ys l 0 0=cz ys (l.take i) 0 0++cz ys (l[i]::l.drop (i+1)) (0+aJ (l.take i)) (0+cN (l.take i)):=by
   rw [←nE,←e]
  rw [e2,List.getElem?_append_right (by omega),hl,Nat.sub_self,Nat.zero_add,Nat.zero_add,show cN (l.take i)=i - aJ (l.take i) by omega]
  generalize l[i]=x
  obtain ⟨w,b⟩:=x
  cases b<;>rfl
 rw [List.getElem?_eq_getElem (by rw [cK];exact hi)] at key
 exact Option.some.inj key
theorem zR (ys:List Nat) (l:List It) {i:Nat} (hi:i<l.length):((cz ys l 0 0)[i]'(by rw [cK];exact hi)).w=l[i].1:=by
 rw [xM ys l hi]
 split<;>rfl
def qM (l:List It) (p:It):List It:=l.takeWhile (fun a=>decide (a.1≤p.1))++p::l.dropWhile fun a=>decide (a.1≤p.1)
theorem GW {q:It→Bool}: ∀{l:List It},(∀x∈l,q x=true)→l.takeWhile q=l∧l.dropWhile q= []
 | [],_=>⟨rfl,rfl⟩
 |x::l,h=>by
  obtain ⟨h1,h2⟩:=GW fun y hy=>h y (List.mem_cons_of_mem x hy)
  have:=h x (by simp)
  exact ⟨by rw [List.takeWhile_cons_of_pos this,h1],by rw [List.dropWhile_cons_of_pos this,h2]⟩
theorem IG (p:It): ∀A B,(∀q∈B,q.1≤p.1)→qM (bR A B) p=bR A (B++ [p]):=by
 refine nk (fun B hB=> ?_) (fun a A hB=> ?_) (fun a A q B h ih hB=> ?_) (fun a A q B h ih hB=> ?_)
 ·rw [kf,kf]
  unfold qM
  obtain ⟨h1,h2⟩:=GW (q:=fun a=>decide (a.1≤p.1)) (l:=B) (fun x hx=>by simpa using hB x hx)
  rw [h1,h2]
 ·rw [nz,List.nil_append];rfl
 ·rw [qm h,List.cons_append,qm h,←List.cons_append,←ih hB]
  have:a.1≤p.1:=Nat.le_trans h (hB q (by simp))
  simp [qM,this]
 ·rw [qp h,List.cons_append,qp h,←ih fun x hx=>hB x (List.mem_cons_of_mem _ hx)]
  have:q.1≤p.1:=hB q (by simp)
  simp [qM,this]
theorem DL {p:It}: ∀{l:List It} {k:Nat},Up l→k≤l.length→(∀j (hj:j<l.length),k≤j→p.1<l[j].1)→(k=0∨∃h:k - 1<l.length,l[k - 1].1≤p.1)→qM l p=l.take k++p::l.drop k
 | [],k,_,hk,_,_=>by
  have:k=0:=by simpa using hk
  subst this;rfl
 |x::l,0,_,_,h1,_=>by
  have:=h1 0 (by simp) (Nat.le_refl _)
  have h: ¬x.1≤p.1:=by simp only [List.getElem_cons_zero] at this;omega
  simp [qM,h]
 |x::l,k+1,hu,hk,h1,h2=>by
  obtain ⟨u1,u2⟩:=List.pairwise_cons.1 hu
  have hkl:k≤l.length:=by simpa using hk
  have h2': ∃h:k<(x::l).length,(x::l)[k].1≤p.1:=by
   rcases h2 with h2|h2
   ·omega
   ·simpa using h2
  obtain ⟨hk1,h2'⟩:=h2'
  have hx:x.1≤p.1:=by
   cases k with
   |zero=>exact h2'
   |succ k=>exact Nat.le_trans (u1 _ (List.getElem_mem (by simp at hk1;omega))) h2'
  have ih:=DL (p:=p) (l:=l) (k:=k) u2 hkl (fun j hj hkj=>by have:=h1 (j+1) (by simp;omega) (by omega);simpa using this) (by
   cases k with
   |zero=>exact .inl rfl
   |succ k=>exact .inr ⟨by simp at hk1;omega,by simpa using h2'⟩)
  have e:qM (x::l) p=x::qM l p:=by simp [qM,hx]
  rw [e,ih,List.take_succ_cons,List.drop_succ_cons,List.cons_append]
def eD (ws:List Nat):Nat→Nat→Nat→Nat
 |0,i,j=>if j=i then 1 else 0
 |k+1,i,j=>if ((row ws (k+1)).getD i (0,true)).2=true then (if j=aJ ((row ws (k+1)).take i) then 1 else 0) else
   eD ws k (2*(i - aJ ((row ws (k+1)).take i))) j+eD ws k (2*(i - aJ ((row ws (k+1)).take i))+1) j
theorem Am (ws:List Nat) (k i j:Nat):eD ws (k+1) i j=if ((row ws (k+1)).getD i (0,true)).2=true then (if j=aJ ((row ws (k+1)).take i) then 1 else 0) else
   eD ws k (2*(i - aJ ((row ws (k+1)).take i))) j+eD ws k (2*(i - aJ ((row ws (k+1)).take i))+1) j:=rfl
theorem A6 (l:List It):aJ l≤l.length:=by have:=lU l;omega
theorem wi {l:List It} {j:Nat} (h:j<l.length):aJ (l.take (j+1))=aJ (l.take j)+if l[j].2=true then 1 else 0:=by
 unfold aJ
 rw [List.take_add_one,List.filter_append,List.length_append,List.getElem?_eq_getElem h]
 congr 1
 by_cases e:l[j].2=true
 ·rw [if_pos e];simp [e]
 ·rw [if_neg e];simp [e]
theorem u6 {ws:List Nat} (h:oK ws) (j:Nat): ∀(k m:Nat),m≤(row ws k).length→af m (fun i=>eD ws k i j)=lv ws k m j
 |0,m,hm=>by
  have hm':m≤ws.length:=by rw [row,cB] at hm;exact hm
  unfold lv whole
  rw [(nW m hm').1]
  have key: ∀m,af m (fun i=>eD ws 0 i j)=if j<m then 1 else 0:=by
   intro m
   induction m with
   |zero=>simp [af]
   |succ m ih=>
    rw [bW,ih]
    unfold eD
    by_cases h1:j<m
    ·rw [if_pos h1,if_neg (by omega),if_pos (by omega)]
    ·by_cases h2:j=m
     ·rw [if_neg h1,if_pos h2,if_pos (by omega)]
     ·rw [if_neg h1,if_neg h2,if_neg (by omega)]
  exact key m
 |k+1,m,hm=>by
  have key: ∀m,m≤(row ws (k+1)).length→af m (fun i=>eD ws (k+1) i j)=(if j<aJ ((row ws (k+1)).take m) then 1 else 0)+af (2*(m - aJ ((row ws (k+1)).take m))) (fun i=>eD ws k i j):=by
   intro m
   induction m with
   |zero=>intro _;simp [af,aJ]
   |succ m ih=>
    intro hm
    have hlt:m<(row ws (k+1)).length:=by omega
    have hl:=A6 ((row ws (k+1)).take m)
    rw [List.length_take] at hl
    have hg:(row ws (k+1)).getD m (0,true)=(row ws (k+1))[m]:=by rw [List.getD_eq_getElem?_getD,List.getElem?_eq_getElem hlt];rfl
    rw [bW,ih (by omega),wi hlt,Am ws k m j,hg]
    generalize hq:aJ ((row ws (k+1)).take m)=q at hl
    by_cases e:(row ws (k+1))[m].2=true
    ·rw [if_pos e,if_pos e,show m+1 - (q+1)=m - q by omega]
     by_cases h1:j<q
     ·rw [if_pos h1,if_neg (by omega),if_pos (by omega)];rfl
     ·by_cases h2:j=q
      ·rw [if_neg h1,if_pos h2,if_pos (by omega)];omega
      ·rw [if_neg h1,if_neg h2,if_neg (by omega)];omega
    ·rw [if_neg e,if_neg e,show q+0=q from rfl,show 2*(m+1 - q)=2*(m - q)+1+1 by omega,bW,bW]
     omega
  have c3:=(kl h k m hm).2.2.1
  rw [key m hm,u6 h j k _ c3,lv]
  rfl
end Go.Pm
set_option maxRecDepth 20000
namespace Go.Proofs.YtcdpblipagajiaaGreat
open Go Go.Vc Go.Srt Go.Pm
section
variable {E w:World} {F:List HP}
theorem A5:ca Tryz.prog 33 3 1 8:=ca.of (by kernel_rfl) (by kernel_rfl)
set_option maxRecDepth 20000 in
theorem BR {t:List Int} {K:Sl→World→Prop} (h:Hp E w F) (hl:t.length=258) (hK1:a7 t=false→∀w',Hp E w' F→K ⟨none,0,0⟩ w')
  (hK2: ∀l,t=ints l→lC l→l.length=258→∀ys s w',bA l ys→Hp E w' (al 1 s ((ints ys).map vI)::F)→K s w'):Cl Tryz.prog [kS] jD ⟨[.agg (aT t)]⟩ w K:=by
 refine CK.ok _ _ _ ?_
 simp only [aD]
 refine Nw.mk h fun b w1 h1=>(Bool.eq_false_or_eq_true (a7 t)).symm.elim (fun hv=> ?_) (fun hv=> ?_)
 ·refine ⟨fun o i w'=>o=⟨none,0,0⟩∧i=0∧Hp E w' (aj b (.cells (aT t) 41 (0,0))::F),fun _ _ _=>0,⟨rfl,rfl,h1⟩,?_⟩
  rintro o i w' ⟨rfl,rfl,hh⟩
  exact aa.t (by decide) (Ld.arr hh (by rw [bN,hl]) (ry hh hl fun w3 h3=>aa.f hv (hK1 hv w3 h3.drop)))
 obtain ⟨l,rfl,hm⟩:=wG hv
 have hl':l.length=258:=by rw [cF] at hl;exact hl
 refine ⟨fun o i w'=> ∃(k:Nat) (ys:List Nat),i=(k:Int)∧k≤258∧ys.Perm ((List.range k).filter fun s=>decide (0<l.getD s 0))∧(ys.Pairwise fun a b=>l.getD a 0<l.getD b 0∨(l.getD a 0=l.getD b 0∧a<b))∧
    Hp E w' (al 1 o (ys.flatMap gN)::aj b (.cells (aT (ints l)) 41 (0,0))::F),fun _ i _=>258 - i.toNat,⟨0,[],rfl,by omega,.refl _,.nil,h1.aW 1⟩,?_⟩
 rintro o i w' ⟨k,ys,rfl,hk,hp,ho,hh⟩
 have fin:k=258→K o w':=fun e=>by
  subst e
  refine hK2 l rfl hm hl' ys o w' ⟨?_,ho⟩ ?_
  ·unfold used;rw [hl'];exact hp
  ·rw [E6];exact hh.p1.drop
 refine aa.mk (fun hlt=> ?_) (fun hge=>fin (by have:=of_decide_eq_false hge;omega))
 have hlt:k<258:=by have:=of_decide_eq_true hlt;omega
 have hin: ∀x∈ys,x<k:=fun x hx=>by
  have:=(List.mem_filter.1 (hp.mem_iff.1 hx)).1
  simpa using this
 have hyl:ys.length≤k:=by
  rw [hp.length_eq]
  have:=List.length_filter_le (fun s=>decide (0<l.getD s 0)) (List.range k)
  simpa using this
 refine Ld.arr hh.p1 (by rw [bN,hl]) (ry hh hl fun w3 h3=>aa.t hv ?_)
 have h3':=h3
 rw [lD] at h3'
 refine av.rd (s:= .int .i64) h3'.p1 (by omega) (by omega) _ (qK (by omega)) ?_
 rw [ad (x:=(k:Int)+1) (by omega)]
 have es:(List.range (k+1)).filter (fun s=>decide (0<l.getD s 0))=(List.range k).filter (fun s=>decide (0<l.getD s 0))++if 0<l.getD k 0 then [k] else []:=jk
 refine aa.mk (fun h0=> ?_) (fun h0=> ?_)
 ·have h0:l.getD k 0=0:=by have:(l.getD k 0:Int)=0:=by simpa using h0
                           omega
  rw [if_neg (by omega),List.append_nil] at es
  exact ⟨⟨k+1,ys,rfl,by omega,by rw [es];exact hp,ho,h3⟩,by dsimp only;omega⟩
 ·have h0:0<l.getD k 0:=by have: ¬(l.getD k 0:Int)=0:=by simpa using h0
                           omega
  rw [if_pos h0] at es
  have hol:=aC.len s9 (by decide) (h3.ag ab.own)
  have hoc:=h3.ee
  refine ⟨fun i w'=> ∃n:Nat,i=(n:Int)∧n≤ys.length∧(∀j (hj:j<ys.length),n≤j→l.getD k 0<l.getD ys[j] 0)∧Hp E w' (al 1 o (ys.flatMap gN)::aj b (.cells (aT (ints l)) 41 (0,0))::F),fun i _=>i.toNat,⟨ys.length,by rw [hol],Nat.le_refl _,fun j hj hn=>by omega,h3⟩,?_⟩
  rintro i w4 ⟨n,rfl,hn,hgt,hh⟩
  refine au.mk hh fun w5 h5=> ?_
  have put: ∀w5,Hp E w5 ([al 1 o (ys.flatMap gN)]++(aj b (.cells (aT (ints l)) 41 (0,0))::F))→(n=0∨∃h:n - 1<ys.length,l.getD ys[n - 1] 0≤l.getD k 0)→∀s' w',Hp E w' (al 1 s' ((ys.take n++k::ys.drop n).flatMap gN)::([al 1 o (ys.flatMap gN)]++(aj b (.cells (aT (ints l)) 41 (0,0))::F)))→
    (∃(k':Nat) (zs:List Nat),(k:Int)+1=(k':Int)∧k'≤258∧zs.Perm ((List.range k').filter fun s=>decide (0<l.getD s 0))∧(zs.Pairwise fun a b=>l.getD a 0<l.getD b 0∨(l.getD a 0=l.getD b 0∧a<b))∧
    Hp E w' (al 1 s' (zs.flatMap gN)::aj b (.cells (aT (ints l)) 41 (0,0))::F))∧258 - ((k:Int)+1).toNat<258 - (k:Int).toNat:=by
   intro w5 h5 hle s' w6 h6
   refine ⟨⟨k+1,ys.take n++k::ys.drop n,rfl,by omega,?_,EI hp ho hn hgt hle,h6.p1.drop⟩,by omega⟩
   rw [es]
   refine List.perm_middle.trans ?_
   rw [List.take_append_drop]
   refine (List.Perm.cons k hp).trans ?_
   exact (List.perm_append_singleton k _).symm
  refine aa.mk (fun hpos=> ?_) (fun hpos=> ?_)
  ·have hpos:0<n:=by have:=of_decide_eq_true hpos;omega
   have hn1:n - 1<ys.length:=by omega
   have hx:=hin _ (List.getElem_mem hn1)
   have h5':=h5
   rw [lD] at h5'
   rw [show i64 ((n:Int) - 1)=((n - 1:Nat):Int) by rw [ad (by omega)];omega]
   refine B6 (i:=n - 1) (ys:=ys) (by rw [E6];exact h5.ag ab.own) hn1 ?_
   refine av.rd (s:= .int .i64) h5'.p1 (by omega) (by omega) _ (qK (by omega)) ?_
   refine av.rd (s:= .int .i64) h5'.p1 (by omega) (by omega) _ (qK (by omega)) ?_
   refine aa.mk (fun hc=> ?_) (fun hc=> ?_)
   ·have hc:l.getD k 0<l.getD ys[n - 1] 0:=by have:=of_decide_eq_true hc;omega
    refine ⟨⟨n - 1,rfl,by omega,fun j hj hnj=> ?_,h5⟩,by dsimp only;omega⟩
    by_cases e:j=n - 1
    ·subst e;exact hc
    ·exact hgt j hj (by omega)
   ·have hc:l.getD ys[n - 1] 0≤l.getD k 0:=by have:=of_decide_eq_false hc;omega
    exact Cj (e:=3) A5 s9 (by decide) J7 (A:= [al 1 o (ys.flatMap gN)]) (F:=aj b (.cells (aT (ints l)) 41 (0,0))::F) h5 ab.own hoc hn (by omega) (by decide) rfl (put w5 h5 (.inr ⟨hn1,hc⟩))
  ·have hpos:n=0:=by have:=of_decide_eq_false hpos;omega
   exact Cj (e:=3) A5 s9 (by decide) J7 (A:= [al 1 o (ys.flatMap gN)]) (F:=aj b (.cells (aT (ints l)) 41 (0,0))::F) h5 ab.own hoc hn (by omega) (by decide) rfl (put w5 h5 (.inl hpos))
end
end Go.Proofs.YtcdpblipagajiaaGreat
set_option maxRecDepth 20000
namespace Go.Proofs.YtcdpblipagajiaaGreat
open Go Go.Vc Go.Srt Go.Pm
section
variable {E w:World} {F:List HP}
def cR (x:HM):List Value:= [.int .i64 (x.w:Int),.int .i64 x.sym,.int .i64 (x.one:Int),.int .i64 (x.two:Int)]
theorem cZ: ∀x,(cR x).length=4:=fun _=>rfl
theorem kC: ∀x,∀y∈cR x,aA y=true:=by
 intro x y hy
 simp only [cR,List.mem_cons,List.not_mem_nil,or_false] at hy
 rcases hy with rfl|rfl|rfl|rfl<;>rfl
theorem ph:ca Tryz.prog 164 166 4 32:=ca.of (by kernel_rfl) (by kernel_rfl)
theorem MB:ca Tryz.prog 95 164 1 24:=ca.of (by kernel_rfl) (by kernel_rfl)
abbrev RK:List Sc:= [.int .i64,.int .i64,.int .i64,.int .i64]
def tR (x:HM):TT RK:=((x.w:Int),x.sym,(x.one:Int),(x.two:Int),())
set_option maxRecDepth 20000 in
theorem Nd {s:Sl} {l:List HM} {x:HM} {K:Sl→World→Prop} (h:Hp E w F) (hs:ab F (aC 4 s (l.flatMap cR))) (hcap:s.len≤s.cap) (hlen:l.length≤2^20)
  (hK: ∀k s' w',k≤l.length→(∀j (hj:j<l.length),k≤j→x.w<l[j].w)→(k=0∨∃h:k - 1<l.length,l[k - 1].w≤x.w)→Hp E w' (al 4 s' ((l.take k++x::l.drop k).flatMap cR)::F)→K s' w'):
  Cl Tryz.prog [kS] pF ⟨[.slice s.base s.len s.cap,.agg ⟨fE RK (tR x)⟩]⟩ w K:=by
 refine HG.ok s (tR x) _ _ ?_
 have hl:=aC.len cZ (by decide) (h.ag hs)
 refine Nw.mk h fun b w1 h1=> ?_
 refine ⟨fun i w'=> ∃n:Nat,i=(n:Int)∧n≤l.length∧(∀j (hj:j<l.length),n≤j→x.w<l[j].w)∧Hp E w' (aj b (.cells ⟨cR x⟩ 166 (0,0))::F),fun i _=>i.toNat,⟨l.length,by rw [hl],Nat.le_refl _,fun j hj hn=>by omega,h1⟩,?_⟩
 rintro i w2 ⟨n,rfl,hn,hgt,hh⟩
 refine au.mk hh fun w3 h3=> ?_
 refine aa.mk (fun hpos=> ?_) (fun hpos=> ?_)
 ·have hpos:0<n:=by have:=of_decide_eq_true hpos;omega
  have hn1:n - 1<l.length:=by omega
  rw [show i64 ((n:Int) - 1)=((n - 1:Nat):Int) by rw [ad (by omega)];omega]
  refine aq.el (n:=n - 1) cZ (by decide) (h3.drop.ag hs) rfl hn1 fun p hp=> ?_
  refine Ld.sc (s:= .int .i64) (l[n - 1].w:Int) (by rw [hp 0 (by decide)];simp [cR]) ?_
  rw [ar]
  refine Ld.aF h3 (x.w:Int) (by simp [cR]) ?_
  refine aa.mk (fun hc=> ?_) (fun hc=> ?_)
  ·have hc:x.w<l[n - 1].w:=by have:=of_decide_eq_true hc;omega
   refine ⟨⟨n - 1,rfl,by omega,fun j hj hnj=> ?_,h3⟩,by dsimp only;omega⟩
   by_cases e:j=n - 1
   ·subst e;exact hc
   ·exact hgt j hj (by omega)
  ·have hc:l[n - 1].w≤x.w:=by have:=of_decide_eq_false hc;omega
   refine bd.el (a:=0) (b:=n) (l:=l) cZ hl rfl rfl (by omega) hn (by omega) (Int.le_refl _) fun s1 hs1 hl1 _=> ?_
   have q1:=hs1 w3 (h3.drop.ag hs)
   simp only [List.drop_zero,Nat.sub_zero] at q1
   refine rQ (s:=⟨none,0,0⟩) (l:= []) ph cZ (by decide) kC (h3.aW 4) q1 (by simp;omega) (by simp;omega) fun s2 w4 h4 _=> ?_
   rw [List.nil_append] at h4
   refine Ld.nh (ks:=RK) h4.p1 (tR x) rfl ?_
   refine s7 (g:=cR) (x:=x) ph cZ (by decide) rfl (kC x) h4 (by simp;omega) (by simp;omega) fun s3 w5 h5 _=> ?_
   refine bd.el (a:=n) (b:=l.length) (l:=l) cZ hl rfl (by rw [hl]) hn (Nat.le_refl _) (by omega) (Int.le_refl _) fun s4 hs4 hl4 _=> ?_
   have q4:=hs4 w5 (h5.drop.drop.ag hs)
   rw [List.take_of_length_le (by rw [List.length_drop];omega)] at q4
   refine rQ ph cZ (by decide) kC h5 q4 (by simp;omega) (by simp;omega) fun s5 w6 h6 _=>hK n s5 w6 hn hgt (.inr ⟨hn1,hc⟩) ?_
   rw [List.append_assoc] at h6
   exact h6.p1.drop
 ·have hpos:n=0:=by have:=of_decide_eq_false hpos;omega
  refine bd.el (a:=0) (b:=n) (l:=l) cZ hl rfl rfl (by omega) hn (by omega) (Int.le_refl _) fun s1 hs1 hl1 _=> ?_
  have q1:=hs1 w3 (h3.drop.ag hs)
  simp only [List.drop_zero,Nat.sub_zero] at q1
  refine rQ (s:=⟨none,0,0⟩) (l:= []) ph cZ (by decide) kC (h3.aW 4) q1 (by simp;omega) (by simp;omega) fun s2 w4 h4 _=> ?_
  rw [List.nil_append] at h4
  refine Ld.nh (ks:=RK) h4.p1 (tR x) rfl ?_
  refine s7 (g:=cR) (x:=x) ph cZ (by decide) rfl (kC x) h4 (by simp;omega) (by simp;omega) fun s3 w5 h5 _=> ?_
  refine bd.el (a:=n) (b:=l.length) (l:=l) cZ hl rfl (by rw [hl]) hn (Nat.le_refl _) (by omega) (Int.le_refl _) fun s4 hs4 hl4 _=> ?_
  have q4:=hs4 w5 (h5.drop.drop.ag hs)
  rw [List.take_of_length_le (by rw [List.length_drop];omega)] at q4
  refine rQ ph cZ (by decide) kC h5 q4 (by simp;omega) (by simp;omega) fun s5 w6 h6 _=>hK n s5 w6 hn hgt (.inl hpos) ?_
  rw [List.append_assoc] at h6
  exact h6.p1.drop
def iJ (ys ws:List Nat) (rs:List Sl) (G:List HP):Prop:= ∀j (hj:j<rs.length),ab G (aC 4 rs[j] ((cz ys (row ws j) 0 0).flatMap cR))∧rs[j].len≤rs[j].cap
theorem iJ.more {ys ws:List Nat} {rs:List Sl} {G:List HP} {s:Sl} (h:iJ ys ws rs G) (hc:s.len≤s.cap):iJ ys ws (rs++ [s]) (al 4 s ((cz ys (row ws rs.length) 0 0).flatMap cR)::G):=by
 intro j hj
 rcases Nat.lt_or_ge j rs.length with hlt|hge
 ·rw [List.getElem_append_left hlt]
  exact ⟨(h j hlt).1.cons,(h j hlt).2⟩
 ·have:j=rs.length:=by simp at hj;omega
  subst this
  simp only [List.getElem_append_right (Nat.le_refl _),Nat.sub_self,List.getElem_cons_zero]
  exact ⟨ab.own,hc⟩
theorem iJ.imp {ys ws:List Nat} {rs:List Sl} {G G':List HP} (h:iJ ys ws rs G) (hG: ∀φ,ab G φ→ab G' φ):iJ ys ws rs G':=fun j hj=>⟨hG _ (h j hj).1,(h j hj).2⟩
theorem Lk {ys ws:List Nat} {P:List It} {p:It} {k:Nat} (hw:oK ws) (hu:Up P) (hP: ∀q∈P,q.1≤p.1) (hf: ∀q∈P,q.2=false) (hp:p.2=false) (hk:k≤(cz ys (bR (bH ws) P) 0 0).length)
  (h1: ∀j (hj:j<(cz ys (bR (bH ws) P) 0 0).length),k≤j→p.1<(cz ys (bR (bH ws) P) 0 0)[j].w) (h2:k=0∨∃h:k - 1<(cz ys (bR (bH ws) P) 0 0).length,(cz ys (bR (bH ws) P) 0 0)[k - 1].w≤p.1):
  (cz ys (bR (bH ws) P) 0 0).take k++⟨p.1,-1,2*P.length,2*P.length+1⟩::(cz ys (bR (bH ws) P) 0 0).drop k=cz ys (bR (bH ws) (P++ [p])) 0 0:=by
 rw [cK] at hk
 have h1': ∀j (hj:j<(bR (bH ws) P).length),k≤j→p.1<(bR (bH ws) P)[j].1:=fun j hj hkj=>by
  have:=h1 j (by rw [cK];exact hj) hkj
  rwa [zR ys _ hj] at this
 have h2':k=0∨∃h:k - 1<(bR (bH ws) P).length,(bR (bH ws) P)[k - 1].1≤p.1:=by
  rcases h2 with h2|⟨h3,h2⟩
  ·exact .inl h2
  ·rw [cK] at h3
   refine .inr ⟨h3,?_⟩
   rwa [zR ys _ h3] at h2
 have hins:=DL (p:=p) (GZ _ _ (sa hw) hu) hk h1' h2'
 rw [IG p _ _ hP] at hins
 have hleaf: ∀x∈(bR (bH ws) P).drop k,x.2=true:=by
  intro x hx
  obtain ⟨i,hi,rfl⟩:=List.getElem_of_mem hx
  rw [List.length_drop] at hi
  rw [List.getElem_drop]
  have hgt:=h1' (k+i) (by omega) (by omega)
  rcases List.mem_append.1 ((lh _ _).mem_iff.1 (List.getElem_mem (show k+i<(bR (bH ws) P).length by omega))) with hm|hm
  ·obtain ⟨y,_,e⟩:=List.mem_map.1 hm
   rw [←e]
  ·have:=hP _ hm
   omega
 have hpk:cN ((bR (bH ws) P).take k)=P.length:=by
  have e1:cN (bR (bH ws) P)=P.length:=by
   have hperm:=lh (bH ws) P
   have:cN (bR (bH ws) P)=cN (bH ws++P):=(hperm.filter _).length_eq
   rw [this]
   unfold cN
   rw [List.filter_append,List.length_append,List.filter_eq_nil_iff.2,List.filter_eq_self.2]
   ·simp
   ·intro x hx;simp [hf x hx]
   ·intro x hx;obtain ⟨y,_,rfl⟩:=List.mem_map.1 hx;simp
  have e2:cN ((bR (bH ws) P).drop k)=0:=by
   unfold cN
   rw [List.length_eq_zero_iff,List.filter_eq_nil_iff]
   intro x hx;simp [hleaf x hx]
  have e3:cN (bR (bH ws) P)=cN ((bR (bH ws) P).take k)+cN ((bR (bH ws) P).drop k):=by
   conv=>lhs;rw [←List.take_append_drop k (bR (bH ws) P)]
   unfold cN
   rw [List.filter_append,List.length_append]
  omega
 rw [hins]
 generalize hX:(bR (bH ws) P).take k=X at hpk
 generalize hY:(bR (bH ws) P).drop k=Y at hleaf
 have hXY:bR (bH ws) P=X++Y:=by rw [←hX,←hY,List.take_append_drop]
 have hXl:(cz ys X 0 0).length=k:=by rw [cK,←hX,List.length_take];omega
 rw [hXY,nE,nE,←hXl,List.take_left,List.drop_left]
 obtain ⟨pw,pb⟩:=p
 simp only at hp
 subst hp
 rw [cz,Nat.zero_add,Nat.zero_add,hpk,wC ys Y _ P.length (P.length+1) hleaf]
theorem Eo {R:List It} {j:Nat} (h:2*j+1<R.length):(aH R).take (j+1)=(aH R).take j++ [((R[2*j]'(by omega)).1+R[2*j+1].1,false)]:=by
 have key: ∀(j:Nat) (R:List It) (h:2*j+1<R.length),(aH R)[j]? =some ((R[2*j]'(by omega)).1+R[2*j+1].1,false):=by
  intro j
  induction j with
  |zero=>
   intro R h
   match R,h with
   |a::b::R,_=>rfl
  |succ j ih=>
   intro R h
   match R,h with
   |a::b::R,h=>
    rw [aH,List.getElem?_cons_succ,ih R (by simp at h;omega)]
    rfl
 rw [List.take_add_one,key j R h];rfl
end
end Go.Proofs.YtcdpblipagajiaaGreat
set_option maxRecDepth 20000
namespace Go.Proofs.YtcdpblipagajiaaGreat
open Go Go.Vc Go.Srt Go.Pm
section
variable {E w:World} {F:List HP}
theorem Lw {ys ws:List Nat} {k:Nat} (h:k<ws.length):cz ys (bH (ws.take (k+1))) 0 0=cz ys (bH (ws.take k)) 0 0++ [⟨ws[k],(ys.getD k 0:Int),0,0⟩]:=by
 rw [Ah h,nE,oY,List.length_take,Nat.zero_add,Nat.min_eq_left (by omega)]
 rfl
set_option maxRecDepth 20000 in
theorem LX {l ys:List Nat} {N:Nat} {K:Sl→World→Prop} (h:Hp E w F) (hl:l.length=258) (hm:lC l) (hN1:1≤N) (hN:N≤15) (hys:bA l ys)
  (hK: ∀out rs G w',rs.length=N→iJ ys (aI l ys) rs G→Hp E w' (al 1 out (rs.flatMap iW)::(G++F))→K out w'):Cl Tryz.prog [kS] nQ ⟨[.agg (ai .i64 l),.int .i64 (N:Int)]⟩ w K:=by
 refine EH.ok _ _ _ _ ?_
 have hvl:a7 (ints l)=true:=iU hm
 have hlen:=wL hl hys
 have hin2: ∀s∈ys,s<258:=fun s hs=>(qB hl hys s hs).1
 have hwl:(aI l ys).length=ys.length:=List.length_map _
 have hasc:=qC hys
 refine Nw.mk h fun b4 w1 h1=>Ld.arr h1 (by rw [ax,hl]) ?_
 rw [←lD] at h1⊢
 refine BR h1 (by rw [cF,hl]) (fun hv=>by rw [hvl] at hv;cases hv) fun l' hll hm' hl' zs s w2 hzs h2=> ?_
 have:l=l':=(List.map_inj_right (fun x y h=>by have h:(x:Int)=(y:Int):=h;omega)).1 hll
 subst this
 obtain rfl:=qW hys hzs
 rw [E6,lD] at h2
 have hsl:=aC.len s9 (by decide) (h2.ag ab.own)
 refine ⟨fun o i w'=> ∃k:Nat,i=(k:Int)∧k≤ys.length∧Hp E w' (al 4 o ((cz ys (bH ((aI l ys).take k)) 0 0).flatMap cR)::al 1 s (ys.flatMap gN)::aj b4 (.cells (ai .i64 l) 41 (0,0))::F),fun _ i _=>ys.length - i.toNat,⟨0,rfl,by omega,h2.aW 4⟩,?_⟩
 rintro o i w3 ⟨k,rfl,hk,hh⟩
 refine aa.mk (fun hlt=> ?_) (fun hge=> ?_)
 ·have hlt:k<ys.length:=by have:=of_decide_eq_true hlt;omega
  have hx:=hin2 _ (List.getElem_mem hlt)
  have hd:Hp E {w3 with drawn:=w3.drawn+1} _:=hh.drew
  refine ⟨cc E (al 1 s (ys.flatMap gN)::aj b4 (.cells (ai .i64 l) 41 (0,0))::F),cc.qa hd,?_⟩
  have rd: ∀{K:Int→Prop},K (ys[k]:Int)→aq s (k:Int) 1 fun q=>ae kI q (cc E (al 1 s (ys.flatMap gN)::aj b4 (.cells (ai .i64 l) 41 (0,0))::F)) K:=fun {K} hK=>
   aq.Gs (n:=k) s9 (by decide) hd.drop ab.own rfl hlt fun p hp=>ae.sc (s:= .int .i64) (ys[k]:Int) (fun w2 h2=>by
    have:=h2.ag (hp 0 (by decide))
    rw [add_zero] at this
    rw [this];rfl) hK
  refine rd ⟨by omega,by omega,?_⟩
  rw [ar]
  refine ae.aF (s:= .int .i64) (fun w2 h2=>h2.sQ) (l.getD ys[k] 0:Int) (by rw [Nat.zero_add,Nat.mul_one];exact qK (by omega)) ?_
  refine rd (Nw.mk hd fun b22 w4 h4=>⟨cc.Gp h4,?_⟩)
  have hol:=aC.len cZ (by decide) (hh.ag ab.own)
  have hll2:(cz ys (bH ((aI l ys).take k)) 0 0).length=k:=by rw [cK,cB,List.length_take];omega
  refine aP (ys:=cR ⟨l.getD ys[k] 0,(ys[k]:Int),0,0⟩) (n:=1) ph (by decide) (.inl ⟨166,by kernel_rfl⟩) h4.p1 (.inl ⟨_,_,_,rfl,rfl,h4.ag (ab.aF rfl rfl)⟩) rfl (kC _) (by omega) (by omega) fun s' w5 h5 _=>⟨cc.Gp h5,?_⟩
  rw [ad (by omega)]
  refine ⟨⟨k+1,rfl,by omega,?_⟩,by dsimp only;omega⟩
  have e:(aI l ys)[k]'(by omega)=l.getD ys[k] 0:=by simp [aI]
  rw [Lw (by omega),List.flatMap_append,e,kd hlt]
  simpa using h5.p1.drop
 ·have hge:k=ys.length:=by have:=of_decide_eq_false hge;omega
  subst hge
  rw [List.take_of_length_le (by omega)] at hh
  have hoc:=hh.ee
  refine Nw.mk hh fun b26 w5 h5=> ?_
  refine ⟨fun out k w'=> ∃(rs:List Sl) (G:List HP),k=(rs.length:Int)∧1≤rs.length∧rs.length≤N∧rs[0]? =some o∧iJ ys (aI l ys) rs G∧
    Hp E w' (al 1 out (rs.flatMap iW)::al 1 s (ys.flatMap gN)::aj b4 (.cells (ai .i64 l) 41 (0,0))::(G++F)),
   fun _ k _=>N - k.toNat,⟨[o],[al 4 o ((cz ys (bH (aI l ys)) 0 0).flatMap cR)],rfl,Nat.le_refl _,hN1,rfl,?_,?_⟩,?_⟩
  ·intro j hj
   have:j=0:=by simp at hj;omega
   subst this
   exact ⟨ab.own,hoc⟩
  ·exact (h5.dh (sz:=1) (n:=1) rfl).p1.q3
  rintro out k w6 ⟨rs,G,rfl,hr1,hrN,hr0,hrs,hh⟩
  have hrl:=aC.len gz (by decide) (hh.ag ab.own)
  refine aa.mk (fun hlt=> ?_) (fun hge=>hK out rs G w6 (by have:=of_decide_eq_false hge;omega) hrs (hh.p1.drop.p1.drop))
  have hlt:rs.length<N:=by have:=of_decide_eq_true hlt;omega
  have hr0':rs[0]=o:=by rw [List.getElem?_eq_getElem (by omega)] at hr0;exact Option.some.inj hr0
  rw [show i64 ((rs.length:Int) - 1)=((rs.length - 1:Nat):Int) by rw [ad (by omega)];omega]
  refine aq.el (n:=rs.length - 1) gz (by decide) (hh.ag ab.own) rfl (by omega) fun p hp=> ?_
  refine Ld.sc (s:= .sl) rs[rs.length - 1] (by have:=hp 0 (by decide);rw [add_zero] at this;rw [this];rfl) ?_
  have ht0:=(hrs 0 (by omega)).1
  rw [hr0'] at ht0
  have htk:=hrs (rs.length - 1) (by omega)
  refine Nw.mk hh fun b35 w7 h7=> ?_
  have ht0':ab (al 1 out (rs.flatMap iW)::al 1 s (ys.flatMap gN)::aj b4 (.cells (ai .i64 l) 41 (0,0))::(G++F)) (aC 4 o ((cz ys (row (aI l ys) 0) 0 0).flatMap cR)):=ab.cons (ab.cons (ab.cons ht0.uL))
  have htk':ab (al 1 out (rs.flatMap iW)::al 1 s (ys.flatMap gN)::aj b4 (.cells (ai .i64 l) 41 (0,0))::(G++F)) (aC 4 rs[rs.length - 1] ((cz ys (row (aI l ys) (rs.length - 1)) 0 0).flatMap cR)):=ab.cons (ab.cons (ab.cons htk.1.uL))
  have hx0:=aC.len cZ (by decide) (h7.drop.ag htk')
  rw [cK] at hx0
  have hrk2:=mT (aI l ys) (rs.length - 1)
  have hw60:=JS (ys:=ys) hm (k:=rs.length - 1) (by omega)
  have h0l:(cz ys (row (aI l ys) 0) 0 0).length=ys.length:=by rw [cK,row,cB,hwl]
  refine rQ (s:=⟨some ⟨b35,0,none⟩,0,0⟩) (l:= []) ph cZ (by decide) kC (h7.dh (sz:=4) (n:=0) rfl) (h7.drop.ag ht0') (by simp;omega) (by simp;omega) fun s37 w8 h8 _=> ?_
  rw [List.nil_append] at h8
  generalize hR:row (aI l ys) (rs.length - 1)=R at*
  have hpl:=cS R
  refine ⟨fun rw41 i w'=> ∃j:Nat,i=((2*j:Nat):Int)∧2*j≤R.length∧Hp E w' (al 4 rw41 ((cz ys (bR (bH (aI l ys)) ((aH R).take j)) 0 0).flatMap cR)::al 1 out (rs.flatMap iW)::al 1 s (ys.flatMap gN)::aj b4 (.cells (ai .i64 l) 41 (0,0))::(G++F)),
   fun _ i _=>R.length - i.toNat,⟨0,rfl,by omega,by simpa [row,nz] using h8⟩,?_⟩
  rintro rw41 i w9 ⟨j,rfl,hj,hh⟩
  have hml:(cz ys (bR (bH (aI l ys)) ((aH R).take j)) 0 0).length≤2^20:=by rw [cK,xO,cB,List.length_take];omega
  rw [ad (x:=((2*j:Nat):Int)+1) (by omega)]
  refine aa.mk (fun hlt2=> ?_) (fun hge2=> ?_)
  ·have hlt2:2*j+1<R.length:=by have:=of_decide_eq_true hlt2;omega
   have hx1:=hw60 _ (List.getElem_mem (show 2*j<R.length by omega))
   have hx2:=hw60 _ (List.getElem_mem hlt2)
   refine au.mk hh fun w10 h10=> ?_
   refine aq.el (n:=2*j) cZ (by decide) (h10.drop.ag htk') rfl (by rw [cK];omega) fun p hp=> ?_
   refine Ld.sc (s:= .int .i64) ((R[2*j]'(by omega)).1:Int) (by rw [hp 0 (by decide)];simp only [cR,List.getElem?_cons_zero];rw [zR ys R (by omega)]) ?_
   refine aq.el (n:=2*j+1) cZ (by decide) (h10.drop.ag htk') (by omega) (by rw [cK];omega) fun q hq=> ?_
   refine Ld.sc (s:= .int .i64) (R[2*j+1].1:Int) (by rw [hq 0 (by decide)];simp only [cR,List.getElem?_cons_zero];rw [zR ys R hlt2]) ?_
   have hsn:=Eo hlt2
   have hup:=uK R (by rw [←hR];exact Gl hasc _)
   rw [ad (x:=((R[2*j]'(by omega)).1:Int)+(R[2*j+1].1:Int)) (by omega),ad (x:=((2*j:Nat):Int)+2) (by omega)]
   generalize hp1:(R[2*j]'(by omega)).1+R[2*j+1].1=p1 at hsn
   rw [show ((R[2*j]'(by omega)).1:Int)+(R[2*j+1].1:Int)=(p1:Int) by omega,show ((2*j:Nat):Int)+1=((2*j+1:Nat):Int) by omega]
   have hall: ∀q∈(aH R).take j,q.1≤p1:=by
    have hu2:Up ((aH R).take (j+1)):=List.Pairwise.sublist (List.take_sublist ..) hup
    rw [hsn] at hu2
    intro q hq
    exact (List.pairwise_append.1 hu2).2.2 q hq (p1,false) (by simp)
   have hjl:((aH R).take j).length=j:=by rw [List.length_take];omega
   refine Nd (x:=⟨p1,-1,2*j,2*j+1⟩) h10 ab.own h10.ee hml fun kk s' w11 hkk hk1 hk2 h11=> ?_
   have hlp:=Lk (ys:=ys) (ws:=aI l ys) (P:=(aH R).take j) (p:=(p1,false)) hasc (List.Pairwise.sublist (List.take_sublist ..) hup) hall (fun q hq=>nb R q (List.mem_of_mem_take hq)) rfl hkk hk1 hk2
   rw [hjl,←hsn] at hlp
   rw [hlp] at h11
   exact ⟨⟨j+1,by omega,by omega,h11.p1.drop⟩,by dsimp only;omega⟩
  ·have hge2: ¬2*j+1<R.length:=by have:=of_decide_eq_false hge2;omega
   have e:bR (bH (aI l ys)) ((aH R).take j)=row (aI l ys) rs.length:=by
    rw [List.take_of_length_le (by omega)]
    have:rs.length=(rs.length - 1)+1:=by omega
    rw [this,row,hR]
   rw [e] at hh
   have hcs:=hh.ee
   refine s7 (g:=iW) (x:=rw41) MB gz (by decide) rfl (Gk _) hh.p1 (by omega) (by omega) fun s53 w12 h12 _=> ?_
   rw [ad (by omega)]
   refine ⟨⟨rs++ [rw41],al 4 rw41 ((cz ys (row (aI l ys) rs.length) 0 0).flatMap cR)::G,by simp,by simp,by simp;omega,?_,hrs.more hcs,h12.p1.q3⟩,by dsimp only;omega⟩
   rw [List.getElem?_append_left (by omega)];exact hr0
theorem IJ {ws:List Nat} {k i:Nat} (hi:i<(row ws k).length):(row ws k).getD i (0,true)=(row ws k)[i]:=by
 rw [List.getD_eq_getElem?_getD,List.getElem?_eq_getElem hi];rfl
set_option maxRecDepth 20000 in
theorem Lp {ys ws:List Nat} {rs:List Sl} {all:Sl} (hasc:oK ws) (hwl:ws.length=ys.length) (hnd:ys.Nodup) (hin: ∀s∈ys,s<258) (hrn:rs.length≤15):
  ∀(k i:Nat) {w:World} {F:List HP} {f:Nat→Nat} {K:Array Value→World→Prop} (_:Hp E w F) (_:ab F (aC 1 all (rs.flatMap iW))) (_:iJ ys ws rs F) (_:k<rs.length) (_:i<(row ws k).length) (_: ∀j,j<ys.length→f j+eD ws k i j≤255)
   (_: ∀w',Hp E w' F→K (ai .u8 (cp ys fun j=>f j+eD ws k i j)) w'),
   Cl Tryz.prog [.arr 258] gm ⟨[.agg (ai .u8 (cp ys f)),.slice all.base all.len all.cap,.int .i64 (k:Int),.int .i64 (i:Int)]⟩ w K:=by
 intro k
 induction k with
 |zero=>
  intro i w F f K h hall hrs hk hi hb hK
  refine ur.ok _ _ _ _ _ _ ?_
  rw [kj]
  refine Nw.mk h fun b6 w1 h1=>Nw.mk h1 fun b8 w2 h2=> ?_
  refine aq.el (n:=0) gz (by decide) (h2.drop.drop.ag hall) rfl hk fun p hp=> ?_
  refine Ld.sc (s:= .sl) rs[0] (by have:=hp 0 (by decide);rw [add_zero] at this;rw [this];rfl) ?_
  have hr:=hrs 0 hk
  refine aq.el (n:=i) cZ (by decide) (h2.drop.drop.ag hr.1) rfl (by rw [cK];exact hi) fun q hq=> ?_
  have hi':i<ws.length:=by rw [row,cB] at hi;exact hi
  have hx:=xM ys (row ws 0) hi
  have h0:(row ws 0)[i].2=true:=by simp [row,bH]
  rw [if_pos h0,(nW i (by omega)).1] at hx
  rw [hx] at hq
  refine Ld.st (ks:=RK) (tR ⟨(row ws 0)[i].1,(ys.getD i 0:Int),0,0⟩) (fun j hj=>hq j hj) ?_
  refine Nw.mk h2 fun b14 w3 h3=>ak.aF h3 rfl (kC ⟨(row ws 0)[i].1,(ys.getD i 0:Int),0,0⟩) fun w4 h4=> ?_
  rw [ar]
  refine Ld.aF h4 (ys.getD i 0:Int) rfl (aa.t (decide_eq_true (by omega)) ?_)
  refine Ld.aF h4 (ys.getD i 0:Int) rfl ?_
  have hiy:i<ys.length:=by omega
  rw [kd hiy]
  have hy:=hin _ (List.getElem_mem hiy)
  have hcov: ∀j,eD ws 0 i j=if j=i then 1 else 0:=fun j=>rfl
  have hbi:=hb i hiy
  rw [hcov,if_pos rfl] at hbi
  refine av.rd (s:= .int .u8) h4.p2 (by omega) (by omega) _ (qK (by rw [bl];omega)) ?_
  refine av.wr h4.p2 (by omega) (by omega) (by rw [ax,bl]) rfl fun w5 h5=> ?_
  rw [qt hnd hin hiy,dH (by omega),Int.toNat_natCast,show ((f i:Int)+1)=((f i+1:Nat):Int) by omega,oC,qh hnd hiy] at h5
  have e:cp ys (fun j=>if j=i then f i+1 else f j)=cp ys (fun j=>f j+eD ws 0 i j):=ff fun j _=>by
   rw [hcov]
   by_cases hj:j=i
   ·subst hj;rw [if_pos rfl,if_pos rfl]
   ·rw [if_neg hj,if_neg hj];rfl
  rw [e] at h5
  exact Ld.arr h5 (by rw [ax,bl]) (an.aF h5.p2 (by rw [ax];simp) (by rw [ax,bl]) bk fun w6 h6=>Ld.arr h6 (by rw [ax,bl]) (hK w6 h6.drop.drop.drop))
 |succ k ih=>
  intro i w F f K h hall hrs hk hi hb hK
  refine ur.ok _ _ _ _ _ _ ?_
  rw [kj]
  refine Nw.mk h fun b6 w1 h1=>Nw.mk h1 fun b8 w2 h2=> ?_
  refine aq.el (n:=k+1) gz (by decide) (h2.drop.drop.ag hall) rfl hk fun p hp=> ?_
  refine Ld.sc (s:= .sl) rs[k+1] (by have:=hp 0 (by decide);rw [add_zero] at this;rw [this];rfl) ?_
  have hr:=hrs (k+1) hk
  refine aq.el (n:=i) cZ (by decide) (h2.drop.drop.ag hr.1) rfl (by rw [cK];exact hi) fun q hq=> ?_
  have hx:=xM ys (row ws (k+1)) hi
  have hnx:=wi hi
  obtain ⟨c1,c2,c3,_,_⟩:=kl hasc k (i+1) hi
  have hle:=A6 ((row ws (k+1)).take i)
  rw [List.length_take] at hle
  have hcov: ∀j,eD ws (k+1) i j=if (row ws (k+1))[i].2=true then (if j=aJ ((row ws (k+1)).take i) then 1 else 0) else eD ws k (2*(i - aJ ((row ws (k+1)).take i))) j+eD ws k (2*(i - aJ ((row ws (k+1)).take i))+1) j:=fun j=>by
   rw [Am,IJ hi]
  generalize hqq:aJ ((row ws (k+1)).take i)=m at*
  by_cases hlf:(row ws (k+1))[i].2=true
  ·rw [if_pos hlf] at hx hnx
   rw [hx] at hq
   refine Ld.st (ks:=RK) (tR ⟨(row ws (k+1))[i].1,(ys.getD m 0:Int),0,0⟩) (fun j hj=>hq j hj) ?_
   refine Nw.mk h2 fun b14 w3 h3=>ak.aF h3 rfl (kC ⟨(row ws (k+1))[i].1,(ys.getD m 0:Int),0,0⟩) fun w4 h4=> ?_
   rw [ar]
   refine Ld.aF h4 (ys.getD m 0:Int) rfl (aa.t (decide_eq_true (by omega)) ?_)
   refine Ld.aF h4 (ys.getD m 0:Int) rfl ?_
   have hiy:m<ys.length:=by omega
   rw [kd hiy]
   have hy:=hin _ (List.getElem_mem hiy)
   have hbi:=hb m hiy
   rw [hcov,if_pos hlf,if_pos rfl] at hbi
   refine av.rd (s:= .int .u8) h4.p2 (by omega) (by omega) _ (qK (by rw [bl];omega)) ?_
   refine av.wr h4.p2 (by omega) (by omega) (by rw [ax,bl]) rfl fun w5 h5=> ?_
   rw [qt hnd hin hiy,dH (by omega),Int.toNat_natCast,show ((f m:Int)+1)=((f m+1:Nat):Int) by omega,oC,qh hnd hiy] at h5
   have e:cp ys (fun j=>if j=m then f m+1 else f j)=cp ys (fun j=>f j+eD ws (k+1) i j):=ff fun j _=>by
    rw [hcov,if_pos hlf]
    by_cases hj:j=m
    ·subst hj;rw [if_pos rfl,if_pos rfl]
    ·rw [if_neg hj,if_neg hj];rfl
   rw [e] at h5
   exact Ld.arr h5 (by rw [ax,bl]) (an.aF h5.p2 (by rw [ax];simp) (by rw [ax,bl]) bk fun w6 h6=>Ld.arr h6 (by rw [ax,bl]) (hK w6 h6.drop.drop.drop))
  ·rw [if_neg hlf] at hx hnx
   rw [hx] at hq
   have hcov': ∀j,eD ws (k+1) i j=eD ws k (2*(i - m)) j+eD ws k (2*(i - m)+1) j:=fun j=>by rw [hcov,if_neg hlf]
   rw [hnx,show i+1 - (m+0)=i - m+1 by omega] at c3
   refine Ld.st (ks:=RK) (tR ⟨(row ws (k+1))[i].1,-1,2*(i - m),2*(i - m)+1⟩) (fun j hj=>hq j hj) ?_
   refine Nw.mk h2 fun b14 w3 h3=>ak.aF h3 rfl (kC ⟨(row ws (k+1))[i].1,-1,2*(i - m),2*(i - m)+1⟩) fun w4 h4=> ?_
   rw [ar,ar,ar]
   refine Ld.aF h4 (-1:Int) rfl (aa.f (by decide) ?_)
   have h4':Hp E w4 (aj b8 _::aj b14 _::aj b6 _::F):=h4.p1
   have hd:Hp E {w4 with drawn:=w4.drawn+1} _:=h4'.drew
   refine ⟨cc E (aj b14 (.cells ⟨cR ⟨(row ws (k+1))[i].1,-1,2*(i - m),2*(i - m)+1⟩⟩ 166 (0,0))::aj b6 (.cells (ai .u8 (cp ys f)) 36 (0,0))::F),cc.qa hd,?_⟩
   refine ae.Me (fun w2 h2=>h2.sQ) (by rw [ax,bl]) ?_
   refine ae.aF (s:= .int .i64) (fun w2 h2=>h2.front) ((2*(i - m):Nat):Int) rfl ?_
   refine ae.aF (s:= .int .i64) (fun w2 h2=>h2.front) ((2*(i - m)+1:Nat):Int) rfl ?_
   rw [show i64 (((k+1:Nat):Int) - 1)=(k:Int) by rw [ad (by omega)];omega]
   refine ih (2*(i - m)) hd (hall.cons.cons.cons) (hrs.imp fun φ h=>h.cons.cons.cons) (by omega) (by omega) (fun j hj=>by have:=hb j hj;rw [hcov'] at this;omega) fun w5 h5=>⟨cc.qa h5,?_⟩
   refine ih (2*(i - m)+1) (f:=fun j=>f j+eD ws k (2*(i - m)) j) h5 (hall.cons.cons.cons) (hrs.imp fun φ h=>h.cons.cons.cons) (by omega) (by omega) (fun j hj=>by have:=hb j hj;rw [hcov'] at this;omega) fun w6 h6=>⟨cc.qa h6,?_⟩
   have e:cp ys (fun j=>f j+eD ws k (2*(i - m)) j+eD ws k (2*(i - m)+1) j)=cp ys (fun j=>f j+eD ws (k+1) i j):=ff fun j _=>by rw [hcov'];omega
   rw [e]
   exact an.aF h6 (by rw [ax];simp) (by rw [ax,bl]) bk fun w7 h7=>⟨cc.qa h7,Ld.arr h7 (by rw [ax,bl]) (hK w7 h7.drop.drop.drop)⟩
theorem FM {m n:Nat} (h:m≤n) (f:Nat→Nat):af m f≤af n f:=by
 induction n with
 |zero=>have:m=0:=by omega
        subst this;exact Nat.le_refl _
 |succ n ih=>
  rw [bW]
  by_cases e:m=n+1
  ·subst e;rw [bW];exact Nat.le_refl _
  ·have:=ih (by omega);omega
theorem p8 {b b2:Nat} {t t2:TypeId} {l l2:List Nat} {K:Array Value→World→Prop} (h:Hp E w (aj b (.cells (ai .u8 l) t (0,0))::aj b2 (.cells (ai .u8 l2) t2 (0,0))::F)) (hl:l.length=258) (hl2:l2.length=258) (hK: ∀w',Hp E w' (aj b2 (.cells (ai .u8 l) t2 (0,0))::aj b (.cells (ai .u8 l) t (0,0))::F)→K (ai .u8 l) w'):
  Ld (.arr 258) ⟨b,0,none⟩ w fun x=>an 258 ⟨b2,0,none⟩ x w fun w2=>Ld (.arr 258) ⟨b2,0,none⟩ w2 fun r=>K r w2:=
 Ld.arr h (by rw [ax,hl]) (an.aF h.p1 (by rw [ax,hl2]) (by rw [ax,hl]) bk fun w2 h2=>Ld.arr h2 (by rw [ax,hl]) (hK w2 h2))
set_option maxRecDepth 20000 in
theorem EW {t:List Int} {L:Int} {K:Array Value→Int→World→Prop} (h:Hp E w F) (hl:t.length=258)
  (hK1:(a7 t=false∨L<1∨15<L∨∃l,t=ints l∧(2:Int)^L.toNat<(used l).length)→∀w',Hp E w' F→K (ai .u8 (List.replicate 258 0)) 2 w')
  (hK2: ∀l ys w',t=ints l→lC l→bA l ys→1≤L→L≤15→ys.length≤2^L.toNat→Hp E w' F→K (ai .u8 (cp ys (lenOf (aI l ys) L.toNat))) 0 w'):
  Cl Tryz.prog [.arr 258,kI] gQ ⟨[.agg (aT t),.int .i64 L]⟩ w K:=by
 refine zq.ok _ _ _ _ ?_
 rw [kj]
 simp only [aD]
 have hz:(List.replicate 258 0).length=258:=List.length_replicate
 refine Nw.mk h fun b4 w1 h1=>Nw.mk h1 fun b6 w2 h2=>Nw.mk h2 fun b8 w3 h3=>Ld.arr h3.p2 (by rw [bN,hl]) (BR h3 hl (fun hv w4 h4=> ?_) (fun l hte hm hll ys s w4 hys h4=> ?_))
 ·exact Ld.arr h4.p2 (by rw [bN,hl]) (ry h4 hl fun w5 h5=>aa.t (by rw [hv];rfl) (p8 h5 hz hz fun w6 h6=>hK1 (.inl hv) w6 h6.drop.drop.drop))
 ·subst hte
  have hlen:=wL hll hys
  have hin:=qB hll hys
  have hsl:s.len=ys.length:=by
   have:=(h4.ag ab.own).1
   simp only [List.length_map,ints,Nat.mul_one] at this
   exact this.symm
  refine Ld.arr h4.p3 (by rw [bN,hl]) (ry h4 hl fun w5 h5=>aa.f (by rw [iU hm];rfl) ?_)
  have h5:Hp E w5 (aj b8 _::aj b6 _::al 1 s _::aj b4 _::F):=h5.q2
  refine aa.mk (fun hlt=>p8 h5 hz hz fun w6 h6=>hK1 (.inr (.inl (of_decide_eq_true hlt))) w6 h6.drop.drop.drop.drop) (fun hge=> ?_)
  have hge:=of_decide_eq_false hge
  refine aa.mk (fun hgt=>p8 h5 hz hz fun w6 h6=>hK1 (.inr (.inr (.inl (by have:=of_decide_eq_true hgt;omega)))) w6 h6.drop.drop.drop.drop) (fun hle=> ?_)
  have hle:=of_decide_eq_false hle
  obtain ⟨N,rfl⟩:=Int.eq_ofNat_of_zero_le (show 0≤L by omega)
  have hN:N≤15:=by omega
  have hN1:1≤N:=by omega
  obtain ⟨e1,e2⟩:=D6 hN
  rw [e1]
  refine ⟨e2,aa.mk (fun hgt=>p8 h5 hz hz fun w6 h6=>hK1 (.inr (.inr (.inr ⟨l,rfl,?_⟩))) w6 h6.drop.drop.drop.drop) (fun hle2=> ?_)⟩
  ·have hgt:=of_decide_eq_true hgt
   rw [Int.toNat_natCast,←hys.1.length_eq,←hsl]
   rw [show (2:Int)^N=((2^N:Nat):Int) by norm_cast]
   exact hgt
  have hle2:ys.length≤2^N:=by have:=of_decide_eq_false hle2;omega
  have hasc:=qC hys
  have hwl:(aI l ys).length=ys.length:=List.length_map _
  have hnd:=oV hys
  have hin2: ∀s∈ys,s<258:=fun s hs=>(hin s hs).1
  have fine: ∀w',Hp E w' F→K (ai .u8 (cp ys (lenOf (aI l ys) N))) 0 w':=fun w' h'=>hK2 l ys w' rfl hm hys (by omega) (by omega) (by rw [Int.toNat_natCast];exact hle2) h'
  rw [←Aa ys] at h5
  refine aa.mk (fun h1=> ?_) (fun h1=> ?_)
  ·have h1:ys.length=1:=by have:(s.len:Int)=1:=by simpa using h1
                           omega
   refine B6 (i:=0) (h5.p2.ag ab.own) (by omega) ?_
   have hx:=hin2 _ (List.getElem_mem (show 0<ys.length by omega))
   refine av.wr h5 (by omega) (by omega) (by rw [ax,bl]) rfl fun w6 h6=> ?_
   rw [Int.toNat_natCast] at h6
   have e:=oC (k:= .u8) (l:=cp ys fun _=>0) (i:=ys[0]) (x:=1)
   rw [show (Value.int .u8 1)= .int .u8 ((1:Nat):Int) from rfl,e,qh hnd (by omega)] at h6
   have e3:cp ys (fun j=>if j=0 then 1 else 0)=cp ys (lenOf (aI l ys) N):=ff fun i hi=>by
    have:i=0:=by omega
    subst this
    unfold lenOf
    rw [if_pos rfl,if_pos (by omega)]
   rw [e3] at h6
   exact p8 h6 (bl ..) (bl ..) fun w7 h7=>fine w7 h7.drop.drop.drop.drop
  ·have h1:ys.length≠1:=by
    intro e
    have: ¬(s.len:Int)=1:=by simpa using h1
    omega
   rw [lD] at h5
   refine Ld.arr h5.p3 (by rw [ax,hll]) (LX h5 hll hm hN1 hN hys fun out rs G w6 hrN hrs h6=> ?_)
   have h7:=(h6.perm (List.Perm.cons _ List.perm_middle)).p1
   have hcl: ∀i,i<ys.length→lenOf (aI l ys) N i=lv (aI l ys) (N - 1) (2*ys.length - 2) i:=fun i _=>by
    unfold lenOf
    rw [if_neg (by omega),hwl]
   have hrow:ys.length≠0→2*ys.length - 2≤(row (aI l ys) (N - 1)).length:=fun _=>by
    rw [←hwl]
    exact rj (N - 1) (by rw [hwl,show N - 1+1=N by omega];exact hle2)
   rw [ad (x:=2*(s.len:Int)) (by omega),ad (x:=2*(s.len:Int) - 2) (by omega),show i64 ((N:Int) - 1)=((N - 1:Nat):Int) by rw [ad (by omega)];omega]
   refine ⟨fun i w'=> ∃k:Nat,i=(k:Int)∧(k=0∨k≤2*ys.length - 2)∧Hp E w' (aj b8 (.cells (ai .u8 (cp ys fun j=>af k fun i=>eD (aI l ys) (N - 1) i j)) 36 (0,0))::al 1 out (rs.flatMap iW)::(G++(aj b6 (.cells (ai .u8 (cp ys fun _=>0)) 36 (0,0))::al 1 s ((ints ys).map vI)::aj b4 (.cells (ai .i64 l) 41 (0,0))::F))),
    fun i _=>2*ys.length - i.toNat,⟨0,rfl,.inl rfl,h7⟩,?_⟩
   rintro i w8 ⟨k,rfl,hk,hh⟩
   refine aa.mk (fun hlt=> ?_) (fun hge=> ?_)
   ·have hlt:k+2<2*ys.length:=by have:=of_decide_eq_true hlt;omega
    have hr:=hrow (by omega)
    refine Ld.arr hh (by rw [ax,bl]) ?_
    refine Lp hasc hwl hnd hin2 (by omega) (N - 1) k hh (ab.cons ab.own) (hrs.imp fun φ h=>h.uL.cons.cons) (by omega) (by omega) (fun j hj=> ?_) fun w9 h9=> ?_
    ·have h1:=FM (show k+1≤2*ys.length - 2 by omega) fun i=>eD (aI l ys) (N - 1) i j
     rw [u6 hasc j (N - 1) _ hr,bW] at h1
     have:=vR (aI l ys) (N - 1) (2*ys.length - 2) j
     omega
    ·refine an.aF h9 (by rw [ax,bl]) (by rw [ax,bl]) bk fun w10 h10=> ?_
     rw [ad (by omega)]
     refine ⟨⟨k+1,rfl,.inr (by omega),?_⟩,by dsimp only;omega⟩
     have e:cp ys (fun j=>af (k+1) fun i=>eD (aI l ys) (N - 1) i j)=cp ys (fun j=>(af k fun i=>eD (aI l ys) (N - 1) i j)+eD (aI l ys) (N - 1) k j):=ff fun j _=>bW ..
     rw [e];exact h10
   ·have hge: ¬k+2<2*ys.length:=by have:=of_decide_eq_false hge;omega
    have e:cp ys (fun j=>af k fun i=>eD (aI l ys) (N - 1) i j)=cp ys (lenOf (aI l ys) N):=ff fun j hj=>by
     have hr:=hrow (by omega)
     have:k=2*ys.length - 2:=by omega
     rw [hcl j hj,←u6 hasc j (N - 1) _ hr,this]
    rw [e] at hh
    have hh2:=(hh.perm (List.Perm.cons _ (List.Perm.cons _ List.perm_middle))).perm (List.Perm.cons _ (List.Perm.swap ..))
    exact p8 hh2 (bl ..) (bl ..) fun w9 h9=>fine w9 h9.drop.drop.drop.nc.drop.drop
end
end Go.Proofs.YtcdpblipagajiaaGreat
set_option maxRecDepth 20000
namespace Go.Srt
theorem wE (l:List Nat): ∃ys,bA l ys:=by
 have tr: ∀a b c:Nat,decide (l.getD a 0<l.getD b 0∨(l.getD a 0=l.getD b 0∧a≤b))=true→decide (l.getD b 0<l.getD c 0∨(l.getD b 0=l.getD c 0∧b≤c))=true→decide (l.getD a 0<l.getD c 0∨(l.getD a 0=l.getD c 0∧a≤c))=true:=by
  intro a b c h1 h2
  simp only [decide_eq_true_eq] at*;omega
 have to: ∀a b:Nat,(decide (l.getD a 0<l.getD b 0∨(l.getD a 0=l.getD b 0∧a≤b))||decide (l.getD b 0<l.getD a 0∨(l.getD b 0=l.getD a 0∧b≤a)))=true:=by
  intro a b
  simp only [Bool.or_eq_true,decide_eq_true_eq];omega
 have hs:=List.pairwise_mergeSort (le:=fun a b=>decide (l.getD a 0<l.getD b 0∨(l.getD a 0=l.getD b 0∧a≤b))) tr to (used l)
 have hp:=List.mergeSort_perm (used l) (fun a b=>decide (l.getD a 0<l.getD b 0∨(l.getD a 0=l.getD b 0∧a≤b)))
 have hn:(used l).Nodup:=List.Pairwise.filter _ (List.nodup_range (n:=l.length))
 have hn2:=hp.nodup_iff.2 hn
 exact ⟨_,hp,(hs.and hn2).imp fun {a b} h=>by have:=of_decide_eq_true h.1;have:=h.2;omega⟩
structure fD (t:List Int) (L:Int) (u ys:List Nat) (N:Nat):Prop where
 eq:t=Proofs.YtcdpblipagajiaaGreat.ints u
 max:lC u
 len:u.length=258
 ord:bA u ys
 lim:L=(N:Int)
 one:1≤N
 top:N≤15
 few:ys.length≤2^N
theorem u7 {u v:List Nat} (h:Proofs.YtcdpblipagajiaaGreat.ints u=Proofs.YtcdpblipagajiaaGreat.ints v):u=v:=(List.map_inj_right (fun x y h=>by have h:(x:Int)=(y:Int):=h;omega)).1 h
end Go.Srt
namespace Go.Proofs.YtcdpblipagajiaaGreat
open Go Go.Vc Go.Srt Go.Pm
section
variable {E w:World} {F:List HP}
theorem D7 {t:List Int} {L:Int} {u ys:List Nat} {N:Nat} (hg:fD t L u ys N): ¬(a7 t=false∨L<1∨15<L∨∃l,t=ints l∧(2:Int)^L.toNat<(used l).length):=by
 obtain ⟨rfl,hm,hl,hys,rfl,h1,h2,h3⟩:=hg
 rintro (h|h|h|⟨l,h,h4⟩)
 ·rw [iU hm] at h;cases h
 ·omega
 ·omega
 ·obtain rfl:=u7 h
  rw [←hys.1.length_eq,Int.toNat_natCast,show (2:Int)^N=((2^N:Nat):Int) by norm_cast] at h4
  omega
def iq (u ys:List Nat) (N:Nat):List Nat:=cp ys (lenOf (aI u ys) N)
theorem vo (u ys:List Nat) (N:Nat):(iq u ys N).length=258:=bl ..
theorem Ib {t:List Int} {L:Int} {u ys:List Nat} {N:Nat} {K:Array Value→Int→World→Prop} (hg:fD t L u ys N) (h:Hp E w F) (hK: ∀w',Hp E w' F→K (ai .u8 (iq u ys N)) 0 w'):Cl Tryz.prog [.arr 258,kI] dv ⟨[.agg (aT t),.int .i64 L]⟩ w K:=by
 refine C9 h (by rw [hg.eq,cF,hg.len]) (fun hb=>absurd hb (D7 hg)) fun l zs w' h0 hm hzs h1 h2 h3 h'=> ?_
 have:l=u:=u7 (h0.symm.trans hg.eq)
 subst this
 obtain rfl:=qW hzs hg.ord
 have hk:=hK w' h'
 rw [hg.lim,Int.toNat_natCast]
 exact hk
theorem KV {t:List Int} {L:Int} {u ys:List Nat} {N:Nat} {K:Array Value→Int→World→Prop} (hg:fD t L u ys N) (h:Hp E w F) (hK: ∀w',Hp E w' F→K (ai .u8 (iq u ys N)) 0 w'):Cl Tryz.prog [.arr 258,kI] gQ ⟨[.agg (aT t),.int .i64 L]⟩ w K:=by
 refine EW h (by rw [hg.eq,cF,hg.len]) (fun hb=>absurd hb (D7 hg)) fun l zs w' h0 hm hzs h1 h2 h3 h'=> ?_
 have:l=u:=u7 (h0.symm.trans hg.eq)
 subst this
 obtain rfl:=qW hzs hg.ord
 have hk:=hK w' h'
 rw [hg.lim,Int.toNat_natCast]
 exact hk
end
end Go.Proofs.YtcdpblipagajiaaGreat
namespace Go.Srt
open Go.Pm
theorem HW (ys:List Nat) (g:Nat→Nat):(ys.map g).sum=af ys.length fun i=>g (ys.getD i 0):=by
 unfold af
 congr 1
 refine List.ext_getElem (by simp) fun i h1 h2=> ?_
 have hi:i<ys.length:=by simpa using h1
 simp [hi]
theorem Hf {u ys:List Nat} {f:Nat→Nat} (hl:u.length=258) (hys:bA u ys) (hf: ∀i,i<ys.length→1≤f i):used (cp ys f)=used u:=by
 unfold used
 rw [bl,hl]
 refine List.filter_congr fun s hs=> ?_
 have hs:s<258:=by simpa using hs
 rw [GA hs]
 have hm:s∈ys↔0<u.getD s 0:=by
  rw [hys.1.mem_iff,dP,hl]
  exact ⟨fun h=>h.2,fun h=>⟨hs,h⟩⟩
 by_cases h:s∈ys
 ·have:=hf _ (List.idxOf_lt_length_of_mem h)
  rw [if_pos h,decide_eq_true (hm.1 h),decide_eq_true (by omega)]
 ·rw [if_neg h,decide_eq_false (fun h'=>h (hm.2 h'))];rfl
theorem GQ {u ys:List Nat} {f:Nat→Nat} (hl:u.length=258) (hys:bA u ys) (hf: ∀i,i<ys.length→1≤f i∧f i≤15):aS (cp ys f)=af ys.length fun i=>2^(15 - f i):=by
 have hin: ∀s∈ys,s<258:=fun s hs=>by have:=(dP.1 (hys.1.mem_iff.1 hs)).1;omega
 rw [yR,Hf hl hys fun i hi=>(hf i hi).1,←(hys.1.map _).sum_nat,HW]
 refine mO fun i hi=> ?_
 rw [kd hi,qt (oV hys) hin hi]
 have:=hf i hi
 unfold wt
 rw [if_neg (by omega),if_neg (by omega)]
section
variable {t:List Int} {L:Int} {u ys:List Nat} {N:Nat}
theorem fD.wl (hg:fD t L u ys N):(aI u ys).length=ys.length:=List.length_map _
theorem fD.Fq (hg:fD t L u ys N) {i:Nat} (hi:i<ys.length):1≤lenOf (aI u ys) N i∧lenOf (aI u ys) N i≤N:=
 H3 (qC hg.ord) hg.one (by rw [hg.wl];exact hg.few) (by rw [hg.wl];exact hi)
theorem N6:2^15=32768:=by decide
theorem fD.NQ (hg:fD t L u ys N) (hn:2≤ys.length):aS (Proofs.YtcdpblipagajiaaGreat.iq u ys N)=32768:=by
 have hN:=hg.top
 have h1:=hg.one
 have e:=GQ (f:=lenOf (aI u ys) N) hg.len hg.ord fun i hi=>by have:=hg.Fq hi;omega
 have hk:=Cf (qC hg.ord) (N - 1) (by rw [hg.wl];exact hn) (by rw [hg.wl,show N - 1+1=N by omega];exact hg.few)
 rw [hg.wl,show N - 1+1=N by omega] at hk
 unfold Proofs.YtcdpblipagajiaaGreat.iq
 rw [e,mO (g:=fun i=>2^(15 - N)*2^(N - lv (aI u ys) (N - 1) (2*ys.length - 2) i)) fun i hi=>by
  have:=hg.Fq hi
  have e2:lenOf (aI u ys) N i=lv (aI u ys) (N - 1) (2*ys.length - 2) i:=by
   unfold lenOf;rw [if_neg (by rw [hg.wl];omega),hg.wl]
  rw [e2] at this⊢
  rw [←Nat.pow_add,show 15 - N+(N - lv (aI u ys) (N - 1) (2*ys.length - 2) i)=15 - lv (aI u ys) (N - 1) (2*ys.length - 2) i by omega],Jc,hk,←Nat.pow_add,show 15 - N+N=15 by omega,N6]
theorem fD.bytes (hg:fD t L u ys N): ∀y∈Proofs.YtcdpblipagajiaaGreat.iq u ys N,y<256:=by
 intro y hy
 obtain ⟨s,_,rfl⟩:=List.mem_map.1 hy
 have hN:=hg.top
 split
 ·rename_i h
  have:=hg.Fq (List.idxOf_lt_length_of_mem h)
  omega
 ·decide
theorem fD.at (hg:fD t L u ys N) {i:Nat} (hi:i<ys.length):(Proofs.YtcdpblipagajiaaGreat.iq u ys N).getD ys[i] 0=lenOf (aI u ys) N i:=
 qt (oV hg.ord) (fun s hs=>by have:=(dP.1 (hg.ord.1.mem_iff.1 hs)).1;have:=hg.len;omega) hi
end
end Go.Srt
set_option maxRecDepth 20000
namespace Go.Sym
theorem r8: ∀(b L:List Nat) (r:Nat),ba L→(∀x∈b,x<256)→(b≠ []∨0<r)→∃s∈cy L r b,s<257
 | [],L,r,_,_,h=>by
  have hr:0<r:=by
   rcases h with h|h
   ·exact absurd rfl h
   ·exact h
  rw [k5,gA hr]
  exact ⟨(r - 1) % 2,by simp,by omega⟩
 |c::b,L,r,hL,hb,_=>by
  by_cases h0:L.idxOf c=0
  ·rw [jK h0]
   exact r8 b _ _ (hL.take (by decide)) (fun x hx=>hb x (List.mem_cons_of_mem _ hx)) (.inr (by omega))
  ·rw [ky h0]
   have:=hL.idx (hb c List.mem_cons_self)
   exact ⟨L.idxOf c+1,by simp,by omega⟩
theorem Iv {b:List Nat} (h:b≠ []) (hb: ∀x∈b,x<256): ∃s∈syms b,s<257:=r8 b _ 0 ba.range hb (.inl h)
theorem IF (b:List Nat):257∈syms b:=by unfold syms cy;simp
theorem DQ (n:Nat):(br n).length≤n:=by
 induction n using Nat.strongRecOn with
 |ind n ih=>
  by_cases h:n=0
  ·subst h;rw [gg];exact Nat.le_refl _
  ·rw [gA (by omega),List.length_cons]
   have:=ih ((n - 1)/2) (by omega)
   omega
theorem ow: ∀(b L:List Nat) (r:Nat),(cy L r b).length≤r+b.length+1
 | [],L,r=>by
  rw [k5,List.length_append]
  have:=DQ r
  simp;omega
 |c::b,L,r=>by
  by_cases h0:L.idxOf c=0
  ·rw [jK h0]
   have:=ow b (bj L 0) (r+1)
   rw [List.length_cons];omega
  ·rw [ky h0,List.length_append,List.length_cons,List.length_cons]
   have:=ow b (bj L (L.idxOf c)) 0
   have:=DQ r
   omega
theorem lA (b:List Nat):(syms b).length≤b.length+1:=by
 have:=ow b (List.range 256) 0
 unfold syms;omega
end Go.Sym
namespace Go.aj
open Go.Inc Go.Srt Go.Sym Go.Bits Go.Tab Go.Bw Go.Pm
def gM (ss:List Nat):List Nat:=(List.range 258).map fun s=>ss.count s
theorem j9 (ss:List Nat):(gM ss).length=258:=by unfold gM;simp
theorem DM (ss:List Nat) {s:Nat} (h:s<258):(gM ss).getD s 0=ss.count s:=by
 unfold gM
 rw [List.getD_eq_getElem?_getD,List.getElem?_map,List.getElem?_range h];rfl
theorem tM {ss:List Nat} (h:ss.length≤2147483647):lC (gM ss):=fun x hx=>by
 obtain ⟨s,_,rfl⟩:=List.mem_map.1 hx
 exact Nat.le_trans List.count_le_length h
theorem dP {u:List Nat} {s:Nat}:s∈used u↔s<u.length∧0<u.getD s 0:=by
 unfold used
 rw [List.mem_filter,List.mem_range,decide_eq_true_iff]
theorem xE {u ys:List Nat} (h:bA u ys) {s:Nat}:s∈ys↔s<u.length∧0<u.getD s 0:=by rw [h.1.mem_iff,dP]
theorem Lr {u ys:List Nat} (hl:u.length=258) (h:bA u ys):ys.length≤258:=by
 rw [h.1.length_eq,←hl]
 unfold used
 exact Nat.le_trans (List.length_filter_le ..) (by simp)
theorem Em {u ys:List Nat} (hl:u.length=258) (hm:lC u) (hys:bA u ys):fD (Proofs.YtcdpblipagajiaaGreat.ints u) 15 u ys 15 where
 eq:=rfl
 max:=hm
 len:=hl
 ord:=hys
 lim:=rfl
 one:=by decide
 top:=by decide
 few:=Nat.le_trans (Lr hl hys) (by decide)
theorem KT {u ys last:List Nat} (hl:u.length=258) (hm:lC u) (hys:bA u ys) (h257:0<u.getD 257 0) (hs: ∃s,s<257∧0<u.getD s 0) (hg: ∀s∈syms last,0<u.getD s 0) (hb: ∀x∈last,x<256):
  mw (Proofs.YtcdpblipagajiaaGreat.iq u ys 15) last:=by
 have g:=Em hl hm hys
 have hpos: ∀s,s<258→0<u.getD s 0→0<(Proofs.YtcdpblipagajiaaGreat.iq u ys 15).getD s 0:=by
  intro s h1 h2
  have hmem:s∈ys:=(xE hys).2 ⟨by omega,h2⟩
  obtain ⟨i,hi,e⟩:=List.mem_iff_getElem.1 hmem
  have h3:=g.at hi
  have h4:=(g.Fq hi).1
  rw [e] at h3
  omega
 have h2:2≤ys.length:=by
  obtain ⟨s,h1,h3⟩:=hs
  have m1:s∈ys:=(xE hys).2 ⟨by omega,h3⟩
  have m2:257∈ys:=(xE hys).2 ⟨by omega,h257⟩
  match ys,m1,m2 with
  | [a],m1,m2=>
   rw [List.mem_singleton] at m1 m2
   omega
  |_::_::_,_,_=>simp
 refine ⟨Proofs.YtcdpblipagajiaaGreat.vo _ _ _,ki.2 ⟨g.NQ h2,hpos 257 (by decide) h257⟩,fun s h=> ?_⟩
 have:=xQ hb s h
 exact ⟨by omega,hpos s (by omega) (hg s h)⟩
noncomputable def gH (u:List Nat):List Nat:=Classical.choose (wE u)
theorem xx (u:List Nat):bA u (gH u):=Classical.choose_spec (wE u)
noncomputable def tJ (ss:List Nat):List Nat:=Proofs.YtcdpblipagajiaaGreat.iq (gM ss) (gH (gM ss)) 15
theorem kb (ss:List Nat):(tJ ss).length=258:=Proofs.YtcdpblipagajiaaGreat.vo _ _ _
noncomputable def bB (x:List Nat):List Nat:=tJ (syms (aU x.reverse))
theorem vJ {ss:List Nat} (h:ss.length≤2147483647):fD (Proofs.YtcdpblipagajiaaGreat.ints (gM ss)) 15 (gM ss) (gH (gM ss)) 15:=Em (j9 ss) (tM h) (xx _)
theorem mM {x:List Nat} (h0:0<x.length) (hl:x.length≤1000000) (hx: ∀c∈x,c<256):mw (bB x) (aU x.reverse):=by
 have hb:=Stm.Nl hx
 have hn:aU x.reverse≠ []:=by
  intro e
  have:=congrArg List.length e
  rw [cj,List.length_reverse,List.length_nil] at this;omega
 have hlen:(syms (aU x.reverse)).length≤2147483647:=by
  have:=lA (aU x.reverse)
  rw [cj,List.length_reverse] at this;omega
 have hp: ∀s∈syms (aU x.reverse),0<(gM (syms (aU x.reverse))).getD s 0:=by
  intro s h
  have:=xQ hb s h
  rw [DM _ (by omega)]
  exact List.count_pos_iff.2 h
 obtain ⟨s,hs,hlt⟩:=Iv hn hb
 exact KT (j9 _) (tM hlen) (xx _) (hp 257 (IF _)) ⟨s,hlt,hp s hs⟩ hp hb
theorem Dp {ss:List Nat} (h: ∀s∈ss,s≤257):Hs.eK (List.replicate 258 0) (Proofs.YtcdpblipagajiaaGreat.ints ss)=Proofs.YtcdpblipagajiaaGreat.ints (gM ss):=by
 have hall:(Proofs.YtcdpblipagajiaaGreat.ints ss).all Hs.kT=true:=by
  refine List.all_eq_true.2 fun z hz=> ?_
  obtain ⟨s,hs,rfl⟩:=List.mem_map.1 hz
  have:=h s hs
  exact Hs.iF.2 (by omega)
 refine List.ext_getElem? fun i=> ?_
 have hl:(Hs.eK (List.replicate 258 0) (Proofs.YtcdpblipagajiaaGreat.ints ss)).length=258:=by rw [Hs.lF];simp
 by_cases hi:i<258
 ·have h1:=Hs.ql (zs:=Proofs.YtcdpblipagajiaaGreat.ints ss) (t:=List.replicate 258 0) hall (by simp) i
  rw [List.getD_eq_getElem?_getD,List.getElem?_eq_getElem (by omega)] at h1
  rw [List.getElem?_eq_getElem (by omega)]
  have h2:=DM ss hi
  rw [List.getD_eq_getElem?_getD,List.getElem?_eq_getElem (by rw [j9];exact hi)] at h2
  have h4:(Proofs.YtcdpblipagajiaaGreat.ints (gM ss))[i]? =some (((gM ss)[i]'(by rw [j9];exact hi):Nat):Int):=by
   unfold Proofs.YtcdpblipagajiaaGreat.ints
   rw [List.getElem?_map,List.getElem?_eq_getElem (by rw [j9];exact hi)];rfl
  rw [h4]
  simp only [Option.getD_some] at h1 h2
  rw [h1,h2]
  have h3:((Proofs.YtcdpblipagajiaaGreat.ints ss).count (i:Int))=ss.count i:=by
   unfold Proofs.YtcdpblipagajiaaGreat.ints
   rw [List.count_eq_countP,List.countP_map,List.count_eq_countP]
   refine List.countP_congr fun x _=> ?_
   simp only [Function.comp,beq_iff_eq]
   omega
  rw [h3,List.getD_eq_getElem?_getD,List.getElem?_replicate,if_pos hi]
  simp
 ·rw [List.getElem?_eq_none (by omega),List.getElem?_eq_none (by rw [Proofs.YtcdpblipagajiaaGreat.cF,j9];omega)]
end Go.aj
namespace Go.Proofs.YtcdpblipagajiaaGreat
open Go Go.Vc
set_option maxRecDepth 100000
theorem zY.ok (a:Sl) (R:(Array Value)→Int→World→Prop) w (h:
 Nw 41 ⟨List.replicate 258 (ni 0)⟩ w fun c b=>
 bU Pg 41 [] fun d=>
 Cl Pg [(.arr 258),kI] k8 ⟨[(.agg d),(ah a)]⟩ b fun f (g:Int) e=>
 an 258 ⟨c,0,none⟩ f e fun h=>
 Ld (.arr 258) ⟨c,0,none⟩ h fun i=>
 R i g h):Cl Pg [(.arr 258),kI] lq ⟨[(ah a)]⟩ w R:=co Tryz.f92 [] h
theorem zj.ok (a:(Array Value)) (b:Sl) (R:(Array Value)→Int→World→Prop) w (h:
 Nw 41 a w fun d c=>
 Nw 41 ⟨List.replicate 258 (ni 0)⟩ c fun f e=>
 Ld (.arr 258) ⟨d,0,none⟩ e fun g=>
 Cl Pg [kB] ja ⟨[(.agg g)]⟩ e fun (i:Bool) h=>
 aa (!i)
 (Ld (.arr 258) ⟨d,0,none⟩ h fun j=>
 an 258 ⟨f,0,none⟩ j h fun k=>
 Ld (.arr 258) ⟨f,0,none⟩ k fun l=>
 R l 2 k)
 (Ld (.arr 258) ⟨d,0,none⟩ h fun m=>
 Nw 41 ⟨List.replicate 258 (ni 0)⟩ h fun o n=>
 an 258 ⟨o,0,none⟩ m n fun p=>
 cn 0 p fun q r (s:Int) t=>
 aa (decide (s<(b.len:Int)))
 (aq b s 1 fun u=>
 Ld kI u t fun (v:Int)=>
 Cl Pg [kB] lE ⟨[(ni v)]⟩ t fun (y:Bool) x=>
 aa (!y)
 (Ld (.arr 258) ⟨o,0,none⟩ x fun z=>
 an 258 ⟨f,0,none⟩ z x fun a1=>
 Ld (.arr 258) ⟨f,0,none⟩ a1 fun b1=>
 R b1 2 a1)
 (av ⟨d,0,none⟩ 258 v 1 fun c1=>
 Ld kI c1 x fun (d1:Int)=>
 aa (d1==2147483647)
 (Ld (.arr 258) ⟨o,0,none⟩ x fun e1=>
 an 258 ⟨f,0,none⟩ e1 x fun f1=>
 Ld (.arr 258) ⟨f,0,none⟩ f1 fun g1=>
 R g1 2 f1)
 (av ⟨d,0,none⟩ 258 v 1 fun h1=>
 Ld kI h1 x fun (i1:Int)=>
 av ⟨d,0,none⟩ 258 v 1 fun j1=>
 St j1 (ni (i64 (i1+1))) x fun k1=>
 q (i64 (s+1)) k1∧r (i64 (s+1)) k1<r s t)))
 (Ld (.arr 258) ⟨d,0,none⟩ t fun l1=>
 an 258 ⟨f,0,none⟩ l1 t fun m1=>
 Ld (.arr 258) ⟨f,0,none⟩ m1 fun n1=>
 R n1 0 m1))):Cl Pg [(.arr 258),kI] k8 ⟨[(.agg a),(ah b)]⟩ w R:=co Tryz.f137 [(12,[(16,kI)])] h
theorem vn.ok (a:(Array Value)) (R:Bool→World→Prop) w (h:
 Nw 41 a w fun c b=>
 Ld (.arr 258) ⟨c,0,none⟩ b fun d=>
 cn 0 b fun e f (g:Int) h=>
 aa (decide (g<258))
 (fl (.int .i64) d 258 g fun (i:Int)=>
 aa (decide (i<0))
 (R false h)
 (aa (decide (i>2147483647))
 (R false h)
 (e (i64 (g+1)) h∧f (i64 (g+1)) h<f g h)))
 (R true h)):Cl Pg [kB] ja ⟨[(.agg a)]⟩ w R:=co Tryz.f177 [(5,[(6,kI)])] h
theorem By.ok (a:Int) (R:Bool→World→Prop) w (h:
 aa (decide (a≥0))
 (R (decide (a<258)) w)
 (R false w)):Cl Pg [kB] lE ⟨[(ni a)]⟩ w R:=co Tryz.f178 [] h
end Go.Proofs.YtcdpblipagajiaaGreat
set_option maxRecDepth 20000
namespace Go.Proofs.YtcdpblipagajiaaGreat
open Go Go.Vc Go.Hs
section
variable {E w:World} {F:List HP}
set_option maxRecDepth 20000 in
theorem Il {t:List Int} {K:Bool→World→Prop} (h:Hp E w F) (ht:t.length=258) (hK: ∀w',Hp E w' F→K (a7 t) w'):Cl Tryz.prog [kB] ja ⟨[.agg (Vc.aT t)]⟩ w K:=by
 refine vn.ok _ _ _ ?_
 have hT:(Vc.aT t).size=258:=by rw [Vc.bN,ht]
 refine Nw.mk h fun b3 w1 h1=>Ld.arr h1 hT ?_
 refine ⟨fun i w'=> ∃k:Nat,i=(k:Int)∧k≤258∧(∀j,j<k→0≤t.getD j 0∧t.getD j 0≤2147483647)∧Hp E w' F,fun i _=>258 - i.toNat,⟨0,rfl,by omega,fun j hj=>by omega,h1.drop⟩,?_⟩
 rintro i w2 ⟨k,rfl,hk,hg,hh⟩
 have bad: ∀hlt:k<258,¬(0≤t.getD k 0∧t.getD k 0≤2147483647)→K false w2:=fun hlt hb=>by
  have:=hK w2 hh
  rwa [Ci (by omega) hb] at this
 refine aa.mk (fun hlt=> ?_) (fun hge=> ?_)
 ·have hlt:k<258:=by have:=of_decide_eq_true hlt;omega
  refine fl.aT rfl ht hlt ?_
  refine aa.mk (fun h0=>bad hlt (by have:=of_decide_eq_true h0;omega)) (fun h0=>aa.mk (fun h9=>bad hlt (by have:=of_decide_eq_true h9;omega)) (fun h9=> ?_))
  have h0:=of_decide_eq_false h0
  have h9:=of_decide_eq_false h9
  rw [ad (by omega)]
  refine ⟨⟨k+1,by omega,by omega,fun j hj=> ?_,hh⟩,by dsimp only;omega⟩
  by_cases e:j=k
  ·subst e;omega
  ·exact hg j (by omega)
 ·have hge:k=258:=by have:=of_decide_eq_false hge;omega
  subst hge
  have:=hK w2 hh
  rwa [eS.2 fun i hi=>hg i (by omega)] at this
theorem Nj {z:Int} {K:Bool→World→Prop} (hK:K (kT z) w):Cl Tryz.prog [kB] lE ⟨[.int .i64 z]⟩ w K:=by
 refine By.ok _ _ _ ?_
 unfold kT at hK
 refine aa.mk (fun h=> ?_) (fun h=> ?_)
 ·rw [show decide (0≤z)=true from decide_eq_true (of_decide_eq_true h)] at hK;exact hK
 ·rw [show decide (0≤z)=false from decide_eq_false (of_decide_eq_false h)] at hK;exact hK
set_option maxRecDepth 20000 in
theorem Mn {t zs:List Int} {s:Sl} {K:Array Value→Int→World→Prop} (h:Hp E w F) (ht:t.length=258) (hs:ab F (aC 1 s (zs.map vI))) (hn:zs.length≤cA)
  (hK: ∀w',Hp E w' F→K (Vc.aT ((cY t zs).getD t)) (JO (cY t zs)) w'):Cl Tryz.prog [.arr 258,kI] k8 ⟨[.agg (Vc.aT t),.slice s.base s.len s.cap]⟩ w K:=by
 refine zj.ok _ _ _ _ ?_
 rw [Vc.nr]
 have hz:(Vc.aT (List.replicate 258 0)).size=258:=by rw [Vc.bN];exact List.length_replicate
 have hT: ∀{u:List Int},u.length=258→(Vc.aT u).size=258:=fun hu=>by rw [Vc.bN,hu]
 have hsl:=(h.ag hs).1
 simp only [List.length_map,Nat.mul_one] at hsl
 rw [aB] at hn
 have hKn:cY t zs=none→∀w',Hp E w' F→K (Vc.aT t) 2 w':=fun e w' h'=>by have:=hK w' h';rwa [e] at this
 refine Nw.mk h fun b4 w1 h1=>Nw.mk h1 fun b6 w2 h2=>Ld.arr h2.p1 (hT ht) (Il h2 ht fun w3 h3=> ?_)
 refine aa.mk (fun hv=> ?_) (fun hv=> ?_)
 ·have hv:a7 t=false:=by simpa using hv
  exact Ld.arr h3.p1 (hT ht) (an.aF h3 hz (hT ht) Vc.cV fun w4 h4=>Ld.arr h4 (hT ht) (hKn (sr hv) w4 h4.drop.drop))
 have hv:a7 t=true:=by simpa using hv
 refine Ld.arr h3.p1 (hT ht) (Nw.mk h3 fun b15 w4 h4=>an.aF h4 hz (hT ht) Vc.cV fun w5 h5=> ?_)
 refine ⟨fun i w'=> ∃k:Nat,i=(k:Int)∧k≤zs.length∧(zs.take k).all kT=true∧a7 (eK t (zs.take k))=true∧Hp E w' (aj b15 (.cells (Vc.aT t) 41 (0,0))::aj b6 (.cells (Vc.aT (List.replicate 258 0)) 41 (0,0))::aj b4 (.cells (Vc.aT (eK t (zs.take k))) 41 (0,0))::F),fun i _=>zs.length - i.toNat,⟨0,rfl,by omega,rfl,hv,h5⟩,?_⟩
 rintro i w6 ⟨k,rfl,hk,hg,hvk,hh⟩
 have bad:cY t zs=none→Ld (.arr 258) ⟨b15,0,none⟩ w6 fun x30=>an 258 ⟨b6,0,none⟩ x30 w6 fun w31=>Ld (.arr 258) ⟨b6,0,none⟩ w31 fun res=>K res 2 w31:=fun e=>
  Ld.arr hh (hT ht) (an.aF hh.p1 hz (hT ht) Vc.cV fun w7 h7=>Ld.arr h7 (hT ht) (hKn e w7 h7.drop.drop.drop))
 have hcl:(eK t (zs.take k)).length=258:=by rw [lF,ht]
 refine aa.mk (fun hlt=> ?_) (fun hge=> ?_)
 ·have hlt:k<zs.length:=by have:=of_decide_eq_true hlt;omega
  refine aq.nI (hh.ag (ab.cons (ab.cons (ab.cons hs)))) rfl hlt (Nj ?_)
  refine aa.mk (fun hb=>bad (u9 hlt (by simpa using hb))) (fun hb=> ?_)
  have hb:kT (zs.getD k 0)=true:=by simpa using hb
  have hr:=iF.1 hb
  have hvz:=eS.1 hvk (zs.getD k 0).toNat (by omega)
  refine av.aT hh.p2 (j:=(zs.getD k 0).toNat) (by omega) hcl (by omega) ?_
  refine aa.mk (fun hm=>bad (GG ht hlt hg hb (by have:=beq_iff_eq.1 hm;omega))) (fun hm=> ?_)
  have hm: ¬(eK t (zs.take k)).getD (zs.getD k 0).toNat 0=2147483647:=beq_eq_false_iff_ne.1 hm
  refine av.aT hh.p2 (j:=(zs.getD k 0).toNat) (by omega) hcl (by omega) ?_
  rw [ad (x:=(eK t (zs.take k)).getD (zs.getD k 0).toNat 0+1) (by omega),ad (by omega)]
  refine av.q7 hh.p2 (j:=(zs.getD k 0).toNat) (by omega) hcl (by omega) fun w7 h7=>⟨⟨k+1,by omega,by omega,?_,?_,?_⟩,by dsimp only;omega⟩
  ·rw [kW hlt,List.all_append,hg,List.all_cons,hb];rfl
  ·rw [kW hlt,uO]
   refine eS.2 fun i hi=> ?_
   have:=eS.1 hvk i (by rw [xf] at hi;exact hi)
   rw [DW hb hcl]
   split
   ·rename_i e
    rw [e,Int.toNat_natCast] at hm hvz
    omega
   ·omega
  ·rw [kW hlt,uO]
   exact h7.q2
 ·have hge:k=zs.length:=by have:=of_decide_eq_false hge;omega
  subst hge
  rw [List.take_length] at hg hvk hh hcl
  refine Ld.arr hh.p2 (hT hcl) (an.aF hh.p1 hz (hT hcl) Vc.cV fun w7 h7=>Ld.arr h7 (hT hcl) ?_)
  have:=hK w7 h7.drop.drop.drop
  rwa [qJ hv hg hvk] at this
def cD:List Int:=List.replicate 258 0
theorem gB:cD.length=258:=List.length_replicate
theorem BO {K:Array Value→Prop} (hK:K (Vc.aT cD)):bU Tryz.prog 41 [] K:=⟨Vc.aT cD,by kernel_rfl,hK⟩
set_option maxRecDepth 20000 in
theorem Ny {zs:List Int} {s:Sl} {K:Array Value→Int→World→Prop} (h:Hp E w F) (hs:ab F (aC 1 s (zs.map vI))) (hn:zs.length≤cA)
  (hK: ∀w',Hp E w' F→K (Vc.aT ((cY cD zs).getD cD)) (JO (cY cD zs)) w'):Cl Tryz.prog [.arr 258,kI] lq ⟨[.slice s.base s.len s.cap]⟩ w K:=by
 refine zY.ok _ _ _ ?_
 rw [Vc.nr]
 have hl:((cY cD zs).getD cD).length=258:=by
  cases ha:cY cD zs with
  |none=>exact gB
  |some u=>
   obtain ⟨_,_,rfl,_⟩:=yC ha
   show (eK cD zs).length=258
   rw [lF,gB]
 refine Nw.mk h fun b3 w1 h1=>BO (Mn h1 gB (ab.cons hs) hn fun w2 h2=>an.aF h2 (by rw [Vc.bN];exact List.length_replicate) (by rw [Vc.bN,hl]) Vc.cV fun w3 h3=>Ld.arr h3 (by rw [Vc.bN,hl]) (hK w3 h3.drop))
end
end Go.Proofs.YtcdpblipagajiaaGreat
