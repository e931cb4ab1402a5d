/- Texts packed together by program; spaces struck by program. Conditions: as each theorem states. -/
import Derived.Ground.SlsfProg
import Derived.Shelf.SlGeneric
import Derived.Shelf.SlSortCmp.NoneTotal
import Derived.Test.YtcdpblipagajiaaGreatProg
import Derived.Test.YtcdpblipagajiaaGreatQhc
set_option linter.unusedSimpArgs false
set_option linter.unusedVariables false
namespace Go.Proofs
open Go.Shelf
def Tryz.ql:Go.Shelf.Ren:=⟨fun|6=>209|15=>219|14=>218|28=>231|29=>232|20=>223|21=>224|22=>225|23=>226|24=>227|25=>228|26=>229|27=>230|46=>234|47=>235|48=>236|49=>237|50=>238|57=>239|n=>n,fun|22=>237|24=>239|25=>249|3=>3|39=>88|0=>0|53=>49|55=>213|4=>4|46=>265|45=>264|50=>157|5=>5|9=>9|66=>272|70=>276|76=>278|77=>206|n=>n,fun|n=>n⟩
theorem Tryz.EL:Go.Proofs.SlLaysF0.n6 Tryz.prog Tryz.ql:={
 mixed:=by kernel_rfl
 f6:=⟨Tryz.f209.name,by decide,Tryz.func209.trans (congrArg some (by kernel_rfl))⟩
 f14:=⟨Tryz.f218.name,by decide,Tryz.func218.trans (congrArg some (by kernel_rfl))⟩
 f15:=Tryz.func219.trans (congrArg some (by kernel_rfl))
 f20:=⟨Tryz.f223.name,by decide,Tryz.func223.trans (congrArg some (by kernel_rfl))⟩
 f21:=⟨Tryz.f224.name,by decide,Tryz.func224.trans (congrArg some (by kernel_rfl))⟩
 f22:=⟨Tryz.f225.name,by decide,Tryz.func225.trans (congrArg some (by kernel_rfl))⟩
 f23:=⟨Tryz.f226.name,by decide,Tryz.func226.trans (congrArg some (by kernel_rfl))⟩
 f24:=⟨Tryz.f227.name,by decide,Tryz.func227.trans (congrArg some (by kernel_rfl))⟩
 f25:=⟨Tryz.f228.name,by decide,Tryz.func228.trans (congrArg some (by kernel_rfl))⟩
 f26:=⟨Tryz.f229.name,by decide,Tryz.func229.trans (congrArg some (by kernel_rfl))⟩
 f27:=⟨Tryz.f230.name,by decide,Tryz.func230.trans (congrArg some (by kernel_rfl))⟩
 f28:=Tryz.func231.trans (congrArg some (by kernel_rfl))
 f29:=Tryz.func232.trans (congrArg some (by kernel_rfl))
 f46:=⟨Tryz.f234.name,by decide,Tryz.func234.trans (congrArg some (by kernel_rfl))⟩
 f47:=Tryz.func235.trans (congrArg some (by kernel_rfl))
 f48:=Tryz.func236.trans (congrArg some (by kernel_rfl))
 f49:=⟨Tryz.f237.name,by decide,Tryz.func237.trans (congrArg some (by kernel_rfl))⟩
 f50:=⟨Tryz.f238.name,by decide,Tryz.func238.trans (congrArg some (by kernel_rfl))⟩
 f57:=⟨Tryz.f239.name,by decide,Tryz.func239.trans (congrArg some (by kernel_rfl))⟩
 t0:=Tryz.underlying0
 a0:=Tryz.isAgg0
 z0:=Tryz.sizeOf0
 v0:=Tryz.zeroValue0
 t3:=Tryz.underlying3
 a3:=Tryz.isAgg3
 z3:=Tryz.sizeOf3
 v3:=Tryz.zeroValue3
 t4:=Tryz.underlying4
 a4:=Tryz.isAgg4
 z4:=Tryz.sizeOf4
 v4:=Tryz.zeroValue4
 t5:=Tryz.underlying5
 a5:=Tryz.isAgg5
 z5:=Tryz.sizeOf5
 v5:=Tryz.zeroValue5
 t9:=Tryz.underlying9
 a9:=Tryz.isAgg9
 z9:=Tryz.sizeOf9
 v9:=Tryz.zeroValue9
 t22:=Tryz.underlying237
 a22:=Tryz.isAgg237
 z22:=Tryz.sizeOf237
 v22:=Tryz.zeroValue237
 t25:=Tryz.underlying249
 a25:=Tryz.isAgg249
 z25:=Tryz.sizeOf249
 v25:=Tryz.zeroValue249
 t39:=Tryz.underlying88
 a39:=Tryz.isAgg88
 z39:=Tryz.sizeOf88
 v39:=Tryz.zeroValue88
 t45:=Tryz.underlying264
 a45:=Tryz.isAgg264
 z45:=Tryz.sizeOf264
 v45:=Tryz.zeroValue264
 t46:=Tryz.underlying265
 a46:=Tryz.isAgg265
 z46:=Tryz.sizeOf265
 v46:=Tryz.zeroValue265
 t50:=Tryz.underlying157
 a50:=Tryz.isAgg157
 z50:=Tryz.sizeOf157
 v50:=Tryz.zeroValue157
 t53:=Tryz.underlying49
 a53:=Tryz.isAgg49
 z53:=Tryz.sizeOf49
 v53:=Tryz.zeroValue49
 t55:=Tryz.underlying213
 a55:=Tryz.isAgg213
 z55:=Tryz.sizeOf213
 v55:=Tryz.zeroValue213
 t66:=Tryz.underlying272
 a66:=Tryz.isAgg272
 z66:=Tryz.sizeOf272
 v66:=Tryz.zeroValue272
 t70:=Tryz.underlying276
 a70:=Tryz.isAgg276
 z70:=Tryz.sizeOf276
 v70:=Tryz.zeroValue276
 t76:=Tryz.underlying278
 a76:=Tryz.isAgg278
 z76:=Tryz.sizeOf278
 v76:=Tryz.zeroValue278
 t77:=Tryz.underlying206
 a77:=Tryz.isAgg206
 z77:=Tryz.sizeOf206
 v77:=Tryz.zeroValue206}
end Go.Proofs
set_option maxRecDepth 20000
namespace Go.Vc
open Go
theorem rA {α β:Type} [DecidableEq α] {a:α}: ∀{l:List (α×β)} {i:Nat},a∉l.map (·.1)→findAt a l i=none
 | [],_,_=>rfl
 |p::l,i,h=>by
  simp only [List.map_cons,List.mem_cons,not_or] at h
  unfold findAt
  rw [if_neg h.1,rA h.2]
theorem qJ {α β:Type} [DecidableEq α] {a:α}: ∀{l:List (α×β)} {i j:Nat} {v:β},(l.map (·.1)).Nodup→l[j]? =some (a,v)→findAt a l i=some (i+j,v)
 | [],_,_,_,_,h=>by simp at h
 |p::l,i,0,v,_,h=>by
  have:p=(a,v):=by simpa using h
  subst this
  unfold findAt
  rw [if_pos rfl];rfl
 |p::l,i,j+1,v,hn,h=>by
  have h':l[j]? =some (a,v):=by simpa using h
  rw [List.map_cons,List.nodup_cons] at hn
  have hne:a≠p.1:=fun e=>hn.1 (by rw [←e];exact List.mem_map.2 ⟨(a,v),List.mem_of_getElem? h',rfl⟩)
  unfold findAt
  rw [if_neg hne,qJ hn.2 h']
  congr 2;omega
theorem kH.JV {P:Program} {s:Sem Value} {w:World} {K:Int→Bool→World→Prop} (x:Int) (b:Bool) (h:s.run P w= .ok (.tuple #[.int .i64 x,.bool b]) w) (hK:K x b w):kH P s [kI,kB] w K:=by
 unfold kH
 rw [h]
 exact hK
theorem J3.of {P:Program} {s:Sem Value} {w:World} {K:Int→World→Prop} (x:Int) (h:s.run P w= .ok (.int .i64 x) w) (hK:K x w):aA P s kI w K:=by
 unfold aA
 rw [h]
 exact hK
def zD (a:Int×Int):Value:= .agg ⟨[.int .i64 a.1,.int .i64 a.2]⟩
def vF (z:Int):Value:= .int .i64 z
def fP (d:List (Int×Int)):List ((Int×Int)×Int):=d.zipIdx.map fun p=>(p.1,(p.2:Int))
theorem qB (d:List (Int×Int)):(fP d).map (·.1)=d:=by
 unfold fP
 rw [List.map_map]
 have:((fun x:(Int×Int)×Int=>x.1)∘fun p:(Int×Int)×Nat=>(p.1,(p.2:Int)))=Prod.fst:=rfl
 rw [this,List.zipIdx_map_fst]
theorem DG (d:List (Int×Int)) (x:Int×Int):fP (d++ [x])=fP d++ [(x,(d.length:Int))]:=by
 unfold fP
 rw [List.zipIdx_append,List.map_append]
 simp
theorem yL (d:List (Int×Int)):(fP d).length=d.length:=by simp [fP]
theorem Bf {d:List (Int×Int)} {j:Nat} (hj:j<d.length):(fP d)[j]? =some (d[j],(j:Int)):=by
 unfold fP
 simp [hj]
end Go.Vc
namespace Go.Proofs.YtcdpblipagajiaaGreat
open Go Go.Vc Go.Bw Go.Hs
theorem AS {α:Type} (f:Nat→α) (n i:Nat) (x:α):((List.range n).map f).set i x=(List.range n).map fun j=>if j=i then x else f j:=by
 apply List.ext_getElem (by simp)
 intro j h1 h2
 simp only [List.getElem_set,List.getElem_map,List.getElem_range]
 by_cases e:i=j
 ·rw [if_pos e,if_pos e.symm]
 ·rw [if_neg e,if_neg (fun h=>e h.symm)]
section
variable {E w:World} {F:List HP}
def ow (last:List Nat) (index:Int):Prop:=0≤index∧okB last index.toNat
set_option maxRecDepth 20000 in
theorem FV {last:List Nat} {s:Sl} {index:Int} {K:Sl→Int→World→Prop} (h:Hp E w F) (hs:ab F (aC 1 s (last.map vB))) (hb: ∀x∈last,x<256) (hn:last.length≤900000)
  (hK1:ow last index→∀s' w',Hp E w' (ah 1 s' ((cc last index.toNat).map vB)::F)→K s' 0 w') (hK2: ¬ow last index→∀w',Hp E w' F→K ⟨none,0,0⟩ 170 w'):
  Cl Tryz.prog [kS,kI] oT ⟨[.slice s.base s.len s.cap,.int .i64 index]⟩ w K:=by
 refine E7.ok _ _ _ _ ?_
 simp only [aH]
 have hl:=(h.ag hs).1
 simp only [List.length_map,Nat.mul_one] at hl
 refine aa.mk (fun g=>hK2 (fun hh=>by have:=of_decide_eq_true g;have:=hh.1;omega) w h) (fun g1=> ?_)
 refine aa.mk (fun g=>hK2 (fun hh=>by have:=of_decide_eq_true g;have:=hh.2.1;have:=hh.1;omega) w h) (fun g2=> ?_)
 have g1:=of_decide_eq_false g1
 have g2:=of_decide_eq_false g2
 obtain ⟨ix,rfl⟩:=Int.eq_ofNat_of_zero_le (show 0≤index by omega)
 rw [Int.toNat_natCast] at hK1
 have hix:ix≤last.length:=by omega
 refine aa.mk (fun g3=>aa.mk (fun g4=>hK2 (fun hh=> ?_) w h) (fun g4=> ?_)) (fun g3=> ?_)
 ·have g3:=beq_iff_eq.1 g3
  have g4:=of_decide_eq_true g4
  have:=hh.2
  rw [g3] at this
  exact xq (by omega) this
 all_goals
  refine Fo h hs hb hn hix fun s6 w1 h1=> ?_
  refine uK (by kernel_rfl) G0 rfl (by omega) (by decide) h1 fun s8 w2 hs8 h2=> ?_
  rw [IL] at h2
  refine ⟨fun row i w'=> ∃(k:Nat) (T:List Nat),i=(last.length:Int) - 1 - (k:Int)∧k≤last.length∧row=(wk last ix k:Int)∧(∀j,j<k→wk last ix j≠ix)∧T.length=last.length∧(∀j,j<k→T.getD (last.length - 1 - j) 0=last.getD (bw ix (wk last ix j)) 0)∧
    Hp E w' (ah 1 s8 (T.map vB)::ah 1 s6 ((lf last ix).map vI)::F),fun _ i _=>(i+1).toNat,
   ⟨0,_,by rw [ad (by omega)];omega,by omega,rfl,fun j hj=>by omega,by rw [List.length_replicate];omega,fun j hj=>by omega,h2⟩,?_⟩
  rintro row i w3 ⟨k,T,rfl,hk,rfl,hne,hTl,hT,h3⟩
  have hwl:=BI hix k hne
  refine aa.mk (fun hge=> ?_) (fun hlt=> ?_)
  ·have hge:k<last.length:=by have:=of_decide_eq_true hge;omega
   refine AM hl.symm (by rw [av];omega) (fun hin=>aa.f rfl ?_) (fun hin=>aa.t rfl (hK2 (fun hh=> ?_) w3 h3.drop.drop))
   ·have hat:=yy hin
    have hnk:wk last ix k≠ix:=by have:=hin.2.2.2.2;omega
    rw [Int.toNat_natCast,Int.toNat_natCast] at hat⊢
    refine ao.nB (h3.ag (ab.cons (ab.cons hs))) rfl hat (ao.I6 (j:=last.length - 1 - k) h3 (by omega) (by omega) fun w4 h4=> ?_)
    refine ao.nI (j:=wk last ix k) (h4.ag (ab.cons ab.own)) rfl (by rw [vu];omega) ?_
    rw [vT hwl hnk]
    refine ⟨⟨k+1,_,by rw [ad (by omega)];omega,by omega,rfl,fun j hj=> ?_,by rw [List.length_set];exact hTl,fun j hj=> ?_,h4⟩,by dsimp only;rw [ad (by omega)];omega⟩
    ·by_cases e:j=k
     ·subst e;exact hnk
     ·exact hne j (by omega)
    ·by_cases e:j=k
     ·subst e
      simp [List.getD,hTl,show last.length - 1 - j<last.length by omega]
     ·have:=hT j (by omega)
      rw [←this]
      simp only [List.getD,List.getElem?_set]
      rw [if_neg (by omega)]
   ·have h5:=hh.2.2.1 k hge
    rw [Int.toNat_natCast] at h5
    exact hin ⟨by omega,by omega,by omega,by omega,by omega⟩
  ·have hke:k=last.length:=by have:=of_decide_eq_false hlt;omega
   subst hke
   refine aa.mk (fun g=>hK2 (fun hh=> ?_) w3 h3.drop.drop) (fun g=> ?_)
   ·have:=hh.2.2.2
    rw [Int.toNat_natCast] at this
    rw [this] at g
    simp at g
   ·have hend:wk last ix last.length=ix:=by
     have:(wk last ix last.length:Int)=(ix:Int):=by simpa using g
     omega
    have hok:ow last (ix:Int):=⟨by omega,by rw [Int.toNat_natCast];exact ⟨hix,hne,hend⟩⟩
    rw [FG hTl hT] at h3
    exact hK1 hok s8 w3 h3.p1.drop
theorem qA:cp Tryz.prog 33 3 1 8:= .of (by kernel_rfl) (by kernel_rfl)
theorem Hc:cp Tryz.prog 237 239 2 16:= .of (by kernel_rfl) (by kernel_rfl)
theorem Fp: ∃i,Tryz.prog.info? 239=some i∧i.zero=some (.agg ⟨[.int .i64 0,.int .i64 0]⟩)∧i.size=2∧i.bytes=16:=by
 have h:(Tryz.prog.info? 239).map (fun i=>(i.zero,i.size,i.bytes))=some (some (.agg ⟨[.int .i64 0,.int .i64 0]⟩),2,16):=by kernel_rfl
 obtain ⟨i,h1,h2⟩:=Option.map_eq_some_iff.1 h
 simp only [Prod.mk.injEq] at h2
 exact ⟨i,h1,h2⟩
theorem BO {s:Sl} {xs:List (Int×Int)} {K:World→Prop} (h:Hp E w (ah 2 s (xs.flatMap ba)::F)) (hsz:xs.length<4611686018427387904) (hK: ∀w',Hp E w' (ah 2 s ((a6 xs).flatMap ba)::F)→K w'):
  Cl Tryz.prog [] cZ ⟨[.slice s.base s.len s.cap,.func (.func jR) ⟨[]⟩ ⟨[]⟩]⟩ w K:=
 Hk (ρ:=Tryz.ql) Tryz.EL Tryz.isAgg239 Tryz.sizeOf239 (by kernel_rfl) (fun x y W=>DR x y W) h hsz hK
set_option maxRecDepth 200000 in
theorem Ag {s:Sl} {l:List (Int×Int)} {K:Sl→World→Prop} (h:Hp E w F) (hs:ab F (aC 2 s (l.flatMap ba))) (hn:l.length≤1000000) (hK: ∀s' w',Hp E w' (ah 2 s' (l.flatMap ba)::F)→K s' w'):
  Cl Tryz.prog [kS] cm ⟨[.slice s.base s.len s.cap]⟩ w K:=by
 refine jx.ok _ _ _ ?_
 refine aa.mk (fun hb=> ?_) (fun hb=> ?_)
 ·have hl:l= []:=by
   cases l with
   |nil=>rfl
   |cons x l=>
    obtain ⟨p,hp,_⟩:=(h.ag hs).2 0 (by rw [cE bW];simp)
    rw [hp] at hb;cases hb
  subst hl
  exact hK _ w (h.bl 2)
 ·refine Nw.mk h fun b w1 h1=> ?_
  have hnew:Hp E w1 (ah 2 ⟨some ⟨b,0,none⟩,0,0⟩ (([]:List (Int×Int)).flatMap ba)::F):=h1.fC (n:=0) (sz:=2) rfl
  exact HZ (s:=⟨some ⟨b,0,none⟩,0,0⟩) (l:= []) (ys:=l) Hc bW (by decide) Af hnew (hnew.ag (ab.cons hs)) (by simp only [List.length_nil];omega) (by simp only [List.length_nil];omega) fun s' w2 h2 _=>hK s' w2 (by rw [List.nil_append] at h2;exact h2)
set_option maxRecDepth 200000 in
theorem uC:ng Tryz.prog (α:=Int×Int) 239 zD where
 und:=⟨_,rfl,fun a b=> .inl rfl⟩
 check:=fun e a w=>by
  have: ∀(e:Bool) (c n:Int) (w:World),(Instr.checkKey e 10000 239 (.agg ⟨[.int .i64 c,.int .i64 n]⟩)).run Tryz.prog w= .ok () w:=fun e c n w=>by kernel_rfl
  exact this e a.1 a.2 w
 eq:=fun a b w=>by
  have key: ∀c n d m:Int,rK Tryz.prog 8 239 (.agg ⟨[.int .i64 c,.int .i64 n]⟩) (.agg ⟨[.int .i64 d,.int .i64 m]⟩) (fun r=>r=((c==d)&&(n==m))):=fun c n d m=>by
   have e:rK Tryz.prog 8 239 (.agg ⟨[.int .i64 c,.int .i64 n]⟩) (.agg ⟨[.int .i64 d,.int .i64 m]⟩) (fun r=>r=((c==d)&&(n==m)))=(((c==d)&&(n==m))=((c==d)&&(n==m))):=by kernel_rfl
   rw [e]
  obtain ⟨r,h1,h2⟩:=mN 8 _ _ _ _ (key a.1 a.2 b.1 b.2)
  have:=h1 10000 (by decide) w
  have e:decide (a=b)=((a.1==b.1)&&(a.2==b.2)):=by
   rw [Bool.eq_iff_iff]
   simp [Prod.ext_iff]
  rw [e,←h2];exact this
 same:=fun a=>by
  unfold zD Instr.sameBits
  simp [Instr.sameBits]
theorem oh:Tryz.prog.underlying 250=some (.map 239 3):=by kernel_rfl
theorem u7 (w:World):(zeroValue 3).run Tryz.prog w= .ok (vF 0) w:=Tryz.zeroValue3 w
theorem ny {x:Int×Int}: ∀v∈ [Value.int .i64 x.1,.int .i64 x.2],aw v=true:=by
 intro v hv
 simp only [List.mem_cons,List.not_mem_nil,or_false] at hv
 rcases hv with rfl|rfl<;>rfl
set_option maxRecDepth 20000 in
theorem EM {s:Sl} {l:List (Int×Int)} {K:Sl→Int→World→Prop} (h:Hp E w F) (hs:ab F (aC 2 s (l.flatMap ba))) (hn:l.length≤1000000) (hK: ∀s' w',Hp E w' (ah 1 s' ((l.map fun p=>(eo l p:Int)).map vI)::F)→K s' ((dd l).length:Int) w'):
  Cl Tryz.prog [kS,kI] gz ⟨[.slice s.base s.len s.cap]⟩ w K:=by
 refine B4.ok _ _ _ ?_
 have hlen:=aC.len bW (by decide) (h.ag hs)
 have hsl:=iV l
 refine Ag h hs hn fun s3 w1 h1=>BO h1 (by omega) fun w2 h2=> ?_
 have hlen3:=aC.len bW (by decide) (h2.ag ab.own)
 refine run_makeMap (ke:=zD) (ve:=vF) h2 fun m w3 h3=> ?_
 refine ⟨fun i w'=> ∃k:Nat,i=(k:Int)∧k≤l.length∧Hp E w' (jG zD vF m (fP (bS ((a6 l).take k)))::ah 2 s3 ((a6 l).flatMap ba)::F),fun i _=>l.length - i.toNat,⟨0,rfl,by omega,h3⟩,?_⟩
 rintro i w4 ⟨k,rfl,hk,h4⟩
 refine aa.mk (fun hlt=> ?_) (fun hge=> ?_)
 ·have hlt:k<(a6 l).length:=by have:=of_decide_eq_true hlt;omega
  refine ao.Gu (g:=ba) bW (by decide) h4 (ab.cons ab.own) rfl hlt fun p hp=> ?_
  obtain ⟨x,hx⟩: ∃x,x=(a6 l)[k]:=⟨_,rfl⟩
  rw [←hx] at hp
  refine Ld.st (x.1,x.2,()) (fun j hj=>h4.ag (hp j hj)) ?_
  refine Nw.mk h4 fun b14 w5 h5=>ak.aD h5 rfl ny fun w6 h6=> ?_
  refine Ld.pr h6 (x.1,x.2,()) rfl ?_
  have h7:=h6.p1
  have hft:=nC (S:=a6 l) hlt
  rw [←hx] at hft
  have hfl:=(nD (S:=a6 l) k (by omega)).1
  have step: ∀{w':World} {A:HP},Hp E w' (jG zD vF m (fP (bS ((a6 l).take (k+1))))::A::ah 2 s3 ((a6 l).flatMap ba)::F)→
    (∃k':Nat,i64 ((k:Int)+1)=(k':Int)∧k'≤l.length∧Hp E w' (jG zD vF m (fP (bS ((a6 l).take k')))::ah 2 s3 ((a6 l).flatMap ba)::F))∧l.length - (i64 ((k:Int)+1)).toNat<l.length - (k:Int).toNat:=fun {w' A} h'=>
   ⟨⟨k+1,by rw [ad (by omega)];omega,by omega,h'.p1.drop⟩,by rw [ad (by omega)];omega⟩
  have hlk:=BZ (kt:=239) (vt:=3) (a:=x) (z:=vF 0) uC oh u7 h7
  by_cases hm:x∈bS ((a6 l).take k)
  ·obtain ⟨j,hj,hje⟩:=List.getElem_of_mem hm
   have hfa:findAt x (fP (bS ((a6 l).take k))) 0=some (0+j,(j:Int)):=qJ (by
    rw [qB]
    exact (kz (mg l) k (by omega)).imp fun {a b} hab e=>by subst e;rw [lD] at hab;cases hab) (by rw [Bf hj,hje])
   rw [hfa] at hlk
   refine kH.JV (j:Int) true hlk (aa.f rfl ?_)
   have hfe:bS ((a6 l).take (k+1))=bS ((a6 l).take k):=by rw [hft];unfold fi;rw [if_pos hm]
   exact step (by rw [hfe];exact h7)
  ·have hfa:findAt x (fP (bS ((a6 l).take k))) 0=none:=rA (by rw [qB];exact hm)
   rw [hfa] at hlk
   refine kH.JV 0 false hlk (aa.t rfl ?_)
   refine Ld.pr h6 (x.1,x.2,()) rfl ?_
   refine zv oh h7 ?_
   rw [yL]
   refine dX (kt:=239) (vt:=3) (a:=x) (b:=((bS ((a6 l).take k)).length:Int)) uC oh h7 fun w7 h8=> ?_
   have hfe:bS ((a6 l).take (k+1))=bS ((a6 l).take k)++ [x]:=by rw [hft];unfold fi;rw [if_neg hm]
   rw [qx hfa,←DG,←hfe] at h8
   exact step h8
 have hge:k=(a6 l).length:=by have:=of_decide_eq_false hge;omega
 subst hge
 rw [List.take_length] at h4
 have hdn:((fP (dd l)).map (·.1)).Nodup:=by
  rw [qB]
  exact (mO l).imp fun {a b} hab e=>by subst e;rw [lD] at hab;cases hab
 refine ⟨fun o i w'=> ∃k:Nat,i=(k:Int)∧k≤l.length∧Hp E w' (ah 1 o (((l.take k).map fun p=>(eo l p:Int)).map vI)::jG zD vF m (fP (dd l))::ah 2 s3 ((a6 l).flatMap ba)::F),fun _ i _=>l.length - i.toNat,⟨0,rfl,by omega,h4.bl 1⟩,?_⟩
 rintro o i w5 ⟨k,rfl,hk,h5⟩
 refine aa.mk (fun hlt=> ?_) (fun hge=> ?_)
 ·have hlt:k<l.length:=by have:=of_decide_eq_true hlt;omega
  refine ao.Gu (g:=ba) bW (by decide) h5 (ab.cons (ab.cons (ab.cons hs))) rfl hlt fun p hp=> ?_
  obtain ⟨x,hx⟩: ∃x,x=l[k]:=⟨_,rfl⟩
  have hxl:x∈l:=by rw [hx];exact List.getElem_mem hlt
  rw [←hx] at hp
  refine Ld.st (x.1,x.2,()) (fun j hj=>h5.ag (hp j hj)) ?_
  refine Nw.mk h5 fun b32 w6 h6=>ak.aD h6 rfl ny fun w7 h7=> ?_
  refine Ld.pr h7 (x.1,x.2,()) rfl ?_
  obtain ⟨hj,hje⟩:=Jr hxl
  have hfa:findAt x (fP (dd l)) 0=some (0+eo l x,(eo l x:Int)):=qJ hdn (by rw [Bf hj,hje])
  have hlk:=rv (kt:=239) (vt:=3) (a:=x) (z:=vF 0) uC oh u7 h7.p2
  rw [hfa] at hlk
  refine J3.of (eo l x:Int) hlk ?_
  refine Gv qA rfl h7.p1 (by rw [List.length_map,List.length_take,av];omega) fun s' w8 h8 _=>⟨⟨k+1,by rw [ad (by omega)];omega,by omega,?_⟩,by dsimp only;rw [ad (by omega)];omega⟩
  have e:(l.take (k+1)).map (fun p=>(eo l p:Int))=(l.take k).map (fun p=>(eo l p:Int))++ [(eo l x:Int)]:=by
   rw [List.take_add_one,List.getElem?_eq_getElem hlt,List.map_append,←hx];rfl
  rw [e]
  exact h8.p1.drop
 ·have hge:k=l.length:=by have:=of_decide_eq_false hge;omega
  subst hge
  rw [List.take_length] at h5
  refine zv oh h5.p1 ?_
  rw [yL]
  exact hK o w5 h5.p1.drop.p1.drop
end
end Go.Proofs.YtcdpblipagajiaaGreat
set_option maxRecDepth 20000
namespace Go.Proofs.YtcdpblipagajiaaGreat
open Go Go.Vc Go.Bw Go.Hs
section
variable {E w:World} {F:List HP}
def dU (t:List Nat) (f:Nat→Int×Int):List (Int×Int):=(List.range (t.length+1)).map f
theorem px (t:List Nat) (f:Nat→Int×Int):(dU t f).length=t.length+1:=by simp [dU]
theorem xE {t:List Nat} {f:Nat→Int×Int} {i:Nat} (hi:i<(dU t f).length):(dU t f)[i]=f i:=by simp [dU]
theorem sd {t:List Nat} {f g:Nat→Int×Int} (h: ∀i,i≤t.length→f i=g i):dU t f=dU t g:=by
 unfold dU
 refine List.map_congr_left fun i hi=> ?_
 rw [List.mem_range] at hi
 exact h i (by omega)
set_option maxRecDepth 200000 in
theorem G9 {t:List Nat} {s:Sl} {K:Sl→World→Prop} (h:Hp E w F) (hs:ab F (aC 1 s (t.map vB))) (hb: ∀x∈t,x<256) (hn:t.length≤400000)
  (hK: ∀s' w',Hp E w' (ah 1 s' (((List.range (t.length+1)).map fun i=>(eZ t i:Int)).map vI)::F)→K s' w'):Cl Tryz.prog [kS] nu ⟨[.slice s.base s.len s.cap]⟩ w K:=by
 refine CY.ok _ _ _ ?_
 have hl:=(h.ag hs).1
 simp only [List.length_map,Nat.mul_one] at hl
 rw [show i64 ((s.len:Int)+1)=((t.length+1:Nat):Int) by rw [ad (by omega)];omega]
 refine Hh (g:=ba) (x:=((0,0):Int×Int)) (by kernel_rfl) Fp rfl bW (by decide) (by omega) (by decide) h fun s3 w1 hs3 h1=> ?_
 have e0:List.replicate (t.length+1) ((0,0):Int×Int)=dU t fun _=>(0,0):=by
  apply List.ext_getElem (by rw [px,List.length_replicate])
  intro i h1 h2
  rw [xE,List.getElem_replicate]
 rw [e0] at h1
 refine ⟨fun i w'=> ∃k:Nat,i=(k:Int)∧k≤t.length∧Hp E w' (ah 2 s3 ((dU t fun j=>if j<k then Bw.cB t j else (0,0)).flatMap ba)::F),fun i _=>t.length - i.toNat,⟨0,rfl,by omega,by simpa using h1⟩,?_⟩
 rintro i w2 ⟨k,rfl,hk,h2⟩
 refine aa.mk (fun hlt=> ?_) (fun hge=> ?_)
 ·have hlt:k<t.length:=by have:=of_decide_eq_true hlt;omega
  have hx:t.getD k 0<256:=by
   rw [List.getD,List.getElem?_eq_getElem hlt]
   exact hb _ (List.getElem_mem hlt)
  refine ao.nB (h2.ag (ab.cons hs)) rfl hlt ?_
  rw [ad (x:=(t.getD k 0:Int)) (by omega),ad (x:=1+(t.getD k 0:Int)) (by omega),ad (x:=(k:Int)+1) (by omega)]
  refine ao.setCell (j:=k) (k:=0) (x:=Bw.cB t k) bW (by decide) h2 rfl (by rw [px];omega) rfl ?_ fun w3 h3=>⟨⟨k+1,by omega,by omega,?_⟩,by dsimp only;omega⟩
  ·rw [xE]
   unfold Bw.cB
   rw [if_neg (Nat.lt_irrefl k),if_pos hlt];rfl
  ·have:(dU t fun j=>if j<k then Bw.cB t j else (0,0)).set k (Bw.cB t k)=dU t fun j=>if j<k+1 then Bw.cB t j else (0,0):=by
    unfold dU
    rw [AS]
    refine List.map_congr_left fun j _=> ?_
    by_cases e:j=k
    ·subst e;rw [if_pos rfl,if_pos (by omega)]
    ·rw [if_neg e]
     by_cases e2:j<k
     ·rw [if_pos e2,if_pos (by omega)]
     ·rw [if_neg e2,if_neg (by omega)]
   rw [←this];exact h3
 have hge:k=t.length:=by have:=of_decide_eq_false hge;omega
 subst hge
 have e1:(dU t fun j=>if j<t.length then Bw.cB t j else (0,0))=aI t (Bw.cB t):=sd fun i hi=>by
  by_cases e:i<t.length
  ·rw [if_pos e]
  ·rw [if_neg e];unfold Bw.cB;rw [if_neg e]
 rw [e1] at h2
 have rk1: ∀{w:World} {f:Nat→Int×Int} {K:Sl→Int→World→Prop},Hp E w (ah 2 s3 ((aI t f).flatMap ba)::F)→(∀s' w',Hp E w' (ah 1 s' (((List.range (t.length+1)).map fun i=>(eo (aI t f) (f i):Int)).map vI)::ah 2 s3 ((aI t f).flatMap ba)::F)→K s' ((dd (aI t f)).length:Int) w')→
   Cl Tryz.prog [kS,kI] gz ⟨[.slice s3.base s3.len s3.cap]⟩ w K:=fun {w f K} h hK=>
  EM (l:=aI t f) h ab.own (by rw [Bw.cx];omega) fun s' w' h'=>hK s' w' (by
   have e:(aI t f).map (fun p=>(eo (aI t f) p:Int))=(List.range (t.length+1)).map fun i=>(eo (aI t f) (f i):Int):=by
    conv=>lhs;rw [show (aI t f).map (fun p=>(eo (aI t f) p:Int))=((List.range (t.length+1)).map f).map (fun p=>(eo (aI t f) p:Int)) from rfl]
    rw [List.map_map];rfl
   rw [←e];exact h')
 refine rk1 h2 fun s13 w3 h3=> ?_
 have hl3:=aC.len bW (by decide) (h3.ag (ab.cons ab.own))
 rw [Bw.cx] at hl3
 refine ⟨fun r a wd w'=> ∃(hh:Nat) (f:Nat→Int×Int),wd=(hh:Int)∧1≤hh∧hh≤2*t.length+1∧oD t hh f∧a=((dd (aI t f)).length:Int)∧Hp E w' (ah 1 r (((List.range (t.length+1)).map fun i=>(eo (aI t f) (f i):Int)).map vI)::ah 2 s3 ((aI t f).flatMap ba)::F),
  fun _ _ wd _=>2*t.length+2 - wd.toNat,⟨1,Bw.cB t,rfl,by omega,by omega,HA t,rfl,h3⟩,?_⟩
 rintro r a wd w4 ⟨hh,f,rfl,h1',hle,hf,rfl,h4⟩
 refine aa.mk (fun hlt=> ?_) (fun hge=> ?_)
 ·have hlt:(dd (aI t f)).length<t.length+1:=by have:=of_decide_eq_true hlt;omega
  have hht:=EE hf hlt
  have hrl:((List.range (t.length+1)).map fun i=>(eo (aI t f) (f i):Int)).length=t.length+1:=by simp
  have hrg: ∀i,i≤t.length→((List.range (t.length+1)).map fun i=>(eo (aI t f) (f i):Int)).getD i 0=(eo (aI t f) (f i):Int):=fun i hi=>by
   rw [List.getD,List.getElem?_map,List.getElem?_range (by omega)];rfl
  obtain ⟨rr,hrr⟩: ∃rr:Nat→Int,rr=fun i=>(eo (aI t f) (f i):Int):=⟨_,rfl⟩
  have hQ:=G1 hf
  rw [←hrr] at h4 hrl hrg hQ
  have hrg: ∀i,i≤t.length→((List.range (t.length+1)).map rr).getD i 0=rr i:=fun i hi=>by rw [hrg i hi,hrr]
  refine ⟨fun i w'=> ∃k:Nat,i=(k:Int)∧k≤t.length+1∧Hp E w' (ah 2 s3 ((dU t fun j=>if j<k then dO t hh rr j else f j).flatMap ba)::ah 1 r (((List.range (t.length+1)).map rr).map vI)::F),fun i _=>t.length+1 - i.toNat,⟨0,rfl,by omega,?_⟩,?_⟩
  ·have:(dU t fun j=>if j<0 then dO t hh rr j else f j)=aI t f:=sd fun i _=>by rw [if_neg (by omega)]
   rw [this];exact h4.p1
  rintro i w5 ⟨k,rfl,hk,h5⟩
  refine aa.mk (fun hklt=> ?_) (fun hkge=> ?_)
  ·have hklt:k<t.length+1:=by have:=of_decide_eq_true hklt;omega
   refine ao.nI (h5.ag (ab.cons ab.own)) rfl (by rw [hrl];exact hklt) ?_
   rw [hrg k (by omega)]
   refine ao.Ji (g:=ba) (j:=k) (x:=((rr k,-1):Int×Int)) bW (by decide) h5 rfl (by rw [px];exact hklt) ny fun w6 h6=> ?_
   have fin: ∀{w':World},Hp E w' (ah 2 s3 (((dU t fun j=>if j<k then dO t hh rr j else f j).set k (dO t hh rr k)).flatMap ba)::ah 1 r (((List.range (t.length+1)).map rr).map vI)::F)→
     (∃k':Nat,i64 ((k:Int)+1)=(k':Int)∧k'≤t.length+1∧Hp E w' (ah 2 s3 ((dU t fun j=>if j<k' then dO t hh rr j else f j).flatMap ba)::ah 1 r (((List.range (t.length+1)).map rr).map vI)::F))∧t.length+1 - (i64 ((k:Int)+1)).toNat<t.length+1 - (k:Int).toNat:=fun {w'} h'=>by
    rw [ad (by omega)]
    refine ⟨⟨k+1,by omega,by omega,?_⟩,by omega⟩
    have:(dU t fun j=>if j<k then dO t hh rr j else f j).set k (dO t hh rr k)=dU t fun j=>if j<k+1 then dO t hh rr j else f j:=by
     unfold dU
     rw [AS]
     refine List.map_congr_left fun j _=> ?_
     by_cases e:j=k
     ·subst e;rw [if_pos rfl,if_pos (by omega)]
     ·rw [if_neg e]
      by_cases e2:j<k
      ·rw [if_pos e2,if_pos (by omega)]
      ·rw [if_neg e2,if_neg (by omega)]
    rw [←this];exact h'
   rw [ad (x:=(k:Int)+(hh:Int)) (by omega)]
   refine aa.mk (fun hin=> ?_) (fun hin=> ?_)
   ·have hin:k+hh≤t.length:=by have:=of_decide_eq_true hin;omega
    refine ao.nI (j:=k+hh) (h6.ag (ab.cons ab.own)) (by omega) (by rw [hrl];omega) ?_
    rw [hrg (k+hh) hin]
    refine ao.setCell (j:=k) (k:=1) (x:=dO t hh rr k) bW (by decide) h6 rfl (by rw [List.length_set,px];exact hklt) rfl ?_ fun w7 h7=>fin ?_
    ·rw [List.getElem_set_self]
     unfold dO
     rw [if_pos hin];rfl
    ·rw [List.set_set] at h7
     exact h7
   ·have hin: ¬k+hh≤t.length:=by have:=of_decide_eq_false hin;omega
    have e:((rr k,-1):Int×Int)=dO t hh rr k:=by unfold dO;rw [if_neg hin]
    rw [e] at h6
    exact fin h6
  ·have hke:k=t.length+1:=by have:=of_decide_eq_false hkge;omega
   subst hke
   have e2:(dU t fun j=>if j<t.length+1 then dO t hh rr j else f j)=aI t (dO t hh rr):=sd fun i hi=>by rw [if_pos (by omega)]
   rw [e2] at h5
   have h5:=h5.p1.drop
   refine rk1 h5 fun s34 w6 h6=>⟨by decide,?_⟩
   have e3:a8 .i64 (hh:Int) 1=((hh+hh:Nat):Int):=by
    have hmx:IntKind.max .i64=9223372036854775807:=rfl
    have:=dM (k:= .i64) (a:=hh) (b:=1) (by decide) (by omega)
    rw [show ((1:Nat):Int)=1 from rfl] at this
    rw [this];omega
   rw [e3]
   exact ⟨⟨hh+hh,dO t hh rr,rfl,by omega,by omega,Ht hQ,rfl,h6⟩,by dsimp only;omega⟩
 ·have hge:t.length+1≤(dd (aI t f)).length:=by have:=of_decide_eq_false hge;omega
  have e4:(List.range (t.length+1)).map (fun i=>(eo (aI t f) (f i):Int))=(List.range (t.length+1)).map fun i=>(eZ t i:Int):=List.map_congr_left fun i hi=>by
   rw [List.mem_range] at hi
   rw [done hf hge (by omega)]
  rw [e4] at h4
  exact hK r w4 h4.p1.drop
set_option maxRecDepth 200000 in
theorem D1 {t:List Nat} {s:Sl} {K:Sl→World→Prop} (h:Hp E w F) (hs:ab F (aC 1 s (t.map vB))) (hb: ∀x∈t,x<256) (hn:t.length≤400000)
  (hK: ∀s' w',Hp E w' (ah 1 s' ((zl (bt t)).map vI)::F)→K s' w'):Cl Tryz.prog [kS] nO ⟨[.slice s.base s.len s.cap]⟩ w K:=by
 refine DY.ok _ _ _ ?_
 refine G9 h hs hb hn fun s3 w1 h1=> ?_
 have hl3:=h1.aO
 rw [List.length_map,List.length_map,List.length_range,Nat.mul_one] at hl3
 refine uK (by kernel_rfl) A3 rfl (by omega) (by decide) h1 fun s5 w2 hs5 h2=> ?_
 rw [Ep] at h2
 have hrg: ∀i,i≤t.length→((List.range (t.length+1)).map fun i=>(eZ t i:Int)).getD i 0=(eZ t i:Int):=fun i hi=>by
  rw [List.getD,List.getElem?_map,List.getElem?_range (by omega)];rfl
 refine ⟨fun i w'=> ∃(k:Nat) (out:List Int),i=(k:Int)∧k≤t.length+1∧out.length=t.length+1∧(∀j,j<k→out.getD (eZ t j) 0=(j:Int))∧Hp E w' (ah 1 s5 (out.map vI)::ah 1 s3 (((List.range (t.length+1)).map fun i=>(eZ t i:Int)).map vI)::F),
  fun i _=>t.length+1 - i.toNat,⟨0,_,rfl,by omega,by rw [List.length_replicate];omega,fun j hj=>by omega,h2⟩,?_⟩
 rintro i w3 ⟨k,out,rfl,hk,hol,ho,h3⟩
 refine aa.mk (fun hlt=> ?_) (fun hge=> ?_)
 ·have hlt:k<t.length+1:=by have:=of_decide_eq_true hlt;omega
  have hrk:=D0 (t:=t) (i:=k) (by omega)
  refine ao.nI (h3.ag (ab.cons ab.own)) rfl (by simp;omega) ?_
  rw [hrg k (by omega)]
  refine ao.Jd h3 rfl (by omega) fun w4 h4=>⟨⟨k+1,_,by rw [ad (by omega)];omega,by omega,by rw [List.length_set];exact hol,fun j hj=> ?_,h4⟩,by dsimp only;rw [ad (by omega)];omega⟩
  rw [dj (by omega)]
  by_cases e:j=k
  ·subst e;rw [if_pos rfl]
  ·rw [if_neg (fun e2=>e (oy (by omega) (by omega) e2))]
   exact ho j (by omega)
 ·have hge:k=t.length+1:=by have:=of_decide_eq_false hge;omega
  subst hge
  have:out=zl (bt t):=by
   apply List.ext_getElem (by rw [hol,eN,gu])
   intro r h1 h2
   have hr:r<(bt t).length:=by rw [gu];omega
   have hm:(bt t)[r]≤t.length:=sg.1 (List.getElem_mem hr)
   have:=ho (bt t)[r] (by omega)
   rw [Bm hr] at this
   have e:out.getD r 0=out[r]:=by simp [List.getD,h1]
   rw [←e,this]
   simp [zl]
  rw [this] at h3
  exact hK s5 w3 h3.p1.drop
theorem l9 {l:List Nat} {k:Nat} (hk:k<l.length):((l.take (k+1)).filter fun i=>i !=0)=((l.take k).filter fun i=>i !=0)++if l[k]=0 then [] else [l[k]]:=by
 rw [List.take_add_one,List.getElem?_eq_getElem hk,List.filter_append]
 congr 1
 by_cases e:l[k]=0
 ·rw [if_pos e];simp [e]
 ·rw [if_neg e];simp [e]
set_option maxRecDepth 200000 in
theorem FO {t:List Nat} {s:Sl} {K:Sl→Int→World→Prop} (h:Hp E w F) (hs:ab F (aC 1 s (t.map vB))) (hb: ∀x∈t,x<256) (hn:t.length≤400000)
  (hK: ∀s' w',Hp E w' (ah 1 s' ((aG t).map vB)::F)→K s' (aR t:Int) w'):Cl Tryz.prog [kS,kI] pC ⟨[.slice s.base s.len s.cap]⟩ w K:=by
 refine EV.ok _ _ _ ?_
 have hl:=(h.ag hs).1
 simp only [List.length_map,Nat.mul_one] at hl
 refine D1 h hs hb hn fun s3 w1 h1=> ?_
 have hl3:=h1.aO
 rw [List.length_map,eN,gu,Nat.mul_one] at hl3
 refine ⟨fun o ix i w'=> ∃k:Nat,i=(k:Int)∧k≤t.length+1∧ix=(if aR t<k then (aR t:Int) else 0)∧Hp E w' (ah 1 o (((((bt t).take k).filter fun i=>i !=0).map fun i=>t.getD (i - 1) 0).map vB)::ah 1 s3 ((zl (bt t)).map vI)::F),
  fun _ _ i _=>t.length+1 - i.toNat,⟨0,rfl,by omega,rfl,h1.bl 1⟩,?_⟩
 rintro o ix i w2 ⟨k,rfl,hk,rfl,h2⟩
 refine aa.mk (fun hlt=> ?_) (fun hge=> ?_)
 ·have hlt:k<t.length+1:=by have:=of_decide_eq_true hlt;omega
  have hko:k<(bt t).length:=by rw [gu];exact hlt
  have hix:=su t hko
  have hle:(bt t)[k]≤t.length:=sg.1 (List.getElem_mem hko)
  refine ao.nI (h2.ag (ab.cons ab.own)) rfl (by rw [eN];exact hko) ?_
  have e0:(zl (bt t)).getD k 0=((bt t)[k]:Int):=by simp [zl,List.getD,hko]
  rw [e0]
  have hf:=l9 hko
  refine aa.mk (fun hz=> ?_) (fun hz=> ?_)
  ·have hz:(bt t)[k]=0:=by have:=beq_iff_eq.1 hz;omega
   rw [if_pos hz,List.append_nil] at hf
   have hke:=hix.1 hz
   refine ⟨⟨k+1,by rw [ad (by omega)];omega,by omega,by rw [if_pos (by omega)];omega,by rw [hf];exact h2⟩,by dsimp only;rw [ad (by omega)];omega⟩
  ·have hz:(bt t)[k]≠0:=by have:=beq_eq_false_iff_ne.1 hz;omega
   rw [if_neg hz] at hf
   have hke:k≠aR t:=fun e=>hz (hix.2 e)
   have e1:i64 (((bt t)[k]:Int) - 1)=(((bt t)[k] - 1:Nat):Int):=by rw [ad (by omega)];omega
   rw [e1]
   refine ao.nB (h2.ag (ab.cons (ab.cons hs))) rfl (by omega) ?_
   refine tT tP rfl h2 (by rw [List.length_map,av];exact Nat.le_trans (List.length_filter_le ..) (by rw [List.length_take];omega)) fun s' w3 h3 _=>⟨⟨k+1,by rw [ad (by omega)];omega,by omega,?_,?_⟩,by dsimp only;rw [ad (x:=(k:Int)+1) (by omega)];omega⟩
   ·by_cases e:aR t<k
    ·rw [if_pos e,if_pos (by omega)]
    ·rw [if_neg e,if_neg (by omega)]
   ·rw [hf,List.map_append]
    exact h3
 ·have hge:k=t.length+1:=by have:=of_decide_eq_false hge;omega
  subst hge
  have hil:=q0 t
  rw [if_pos (by omega)]
  rw [List.take_of_length_le (by rw [gu];exact Nat.le_refl _)] at h2
  exact hK o w2 h2.p1.drop
end
end Go.Proofs.YtcdpblipagajiaaGreat
namespace Go.Proofs.YtcdpblipagajiaaGreat
open Go Go.Vc
set_option maxRecDepth 100000
theorem tk.ok (a:Int) (b:(TT [.int .i64,.int .i64,.int .u32])) (R:Sl→Int→World→Prop) w (h:
 Nw 53 ⟨[(ni b.1),(ni b.2.1),(.int .u32 b.2.2.1)]⟩ w fun d c=>
 Ld kI (Addr.add ⟨d,0,none⟩ 0) c fun (e:Int)=>
 Cl Pg [kS,kB] fV ⟨[(ni e),(ni a)]⟩ c fun (g:Sl) (h:Bool) f=>
 Ld kI (Addr.add ⟨d,0,none⟩ 1) f fun (i:Int)=>
 Ld kI (Addr.add ⟨d,0,none⟩ 0) f fun (j:Int)=>
 Cl Pg [kS,kB] fV ⟨[(ni i),(ni j)]⟩ f fun (l:Sl) (m:Bool) k=>
 Cl Pg [kB] bx ⟨[(ni a),(ni 1),(ni 65536)]⟩ k fun (o:Bool) n=>
 aa (!o)
 (R (⟨none,0,0⟩:Sl) 2 n)
 (aa (!h)
 (R (⟨none,0,0⟩:Sl) 2 n)
 (aa (!m)
 (R (⟨none,0,0⟩:Sl) 2 n)
 (Nw 5 ⟨[(.int .u8 1)]⟩ n fun q p=>
 Ld (az .u32) (Addr.add ⟨d,0,none⟩ 2) p fun (r:Int)=>
 Cl Pg [kS] qt ⟨[(.int .u32 r)]⟩ p fun (t:Sl) s=>
 Nw 22 ⟨[(al (⟨some ⟨q,0,none⟩,1,1⟩:Sl)),(al g),(al l),(al t)]⟩ s fun v u=>
 Cl Pg [kS] dw ⟨[(al (⟨some ⟨v,0,none⟩,4,4⟩:Sl))]⟩ u fun (y:Sl) x=>
 R y 0 x)))):Cl Pg [kS,kI] gW ⟨[(ni a),(.agg ⟨[(ni b.1),(ni b.2.1),(.int .u32 b.2.2.1)]⟩)]⟩ w R:=co Tryz.f42 [] h
theorem mT.ok (a:Int) (b:Sl) (R:(TT bj)→Sl→Int→World→Prop) w (h:
 Nw 74 ⟨[(ni 0),(ni 0),(ni 0),(ni 0),(ni 0),(.int .u32 0),(ni 0)]⟩ w fun d c=>
 Cl Pg [kB] bx ⟨[(ni a),(ni 1),(ni 65536)]⟩ c fun (f:Bool) e=>
 aa (!f)
 (Ld (.st bj) ⟨d,0,none⟩ e fun g=>
 ak ⟨d,0,none⟩ [(ni g.1),(ni g.2.1),(ni g.2.2.1),(ni g.2.2.2.1),(ni g.2.2.2.2.1),(.int .u32 g.2.2.2.2.2.1),(ni g.2.2.2.2.2.2.1)] 0 e fun h=>
 Ld (.st bj) ⟨d,0,none⟩ h fun i=>
 R i (⟨none,0,0⟩:Sl) 2 h)
 (dn 0 e fun j k (l:Int) m=>
 aa (decide (l<(b.len:Int)))
 (ao b l 1 fun n=>
 Ld (az .u8) n m fun (o:Int)=>
 Ld (.st bj) ⟨d,0,none⟩ m fun p=>
 Cl Pg [(.st bj),kB,kI] eJ ⟨[(ni a),(.agg ⟨[(ni p.1),(ni p.2.1),(ni p.2.2.1),(ni p.2.2.2.1),(ni p.2.2.2.2.1),(.int .u32 p.2.2.2.2.2.1),(ni p.2.2.2.2.2.2.1)]⟩),(.int .u8 o)]⟩ m fun r (s:Bool) (t:Int) q=>
 Nw 74 ⟨[(ni 0),(ni 0),(ni 0),(ni 0),(ni 0),(.int .u32 0),(ni 0)]⟩ q fun v u=>
 ak ⟨v,0,none⟩ [(ni r.1),(ni r.2.1),(ni r.2.2.1),(ni r.2.2.2.1),(ni r.2.2.2.2.1),(.int .u32 r.2.2.2.2.2.1),(ni r.2.2.2.2.2.2.1)] 0 u fun x=>
 aa (t !=0)
 (ak ⟨d,0,none⟩ [(ni 0),(ni 0),(ni 0),(ni 0),(ni 0),(.int .u32 0),(ni 0)] 0 x fun y=>
 Ld (.st bj) ⟨d,0,none⟩ y fun z=>
 R z (⟨none,0,0⟩:Sl) t y)
 (Ld (.st bj) ⟨v,0,none⟩ x fun a1=>
 ak ⟨d,0,none⟩ [(ni a1.1),(ni a1.2.1),(ni a1.2.2.1),(ni a1.2.2.2.1),(ni a1.2.2.2.2.1),(.int .u32 a1.2.2.2.2.2.1),(ni a1.2.2.2.2.2.2.1)] 0 x fun b1=>
 aa s
 (eB b1 fun c1 d1=>
 ae (.st bj) ⟨d,0,none⟩ c1 fun e1=>
 bg b (i64 (l+1)) (b).len (b).cap 1 fun f1=>
 Cl Pg [kS] da ⟨[(al f1)]⟩ d1 fun (h1:Sl) g1=>
 c1 g1∧
 ak ⟨d,0,none⟩ [(ni e1.1),(ni e1.2.1),(ni e1.2.2.1),(ni e1.2.2.2.1),(ni e1.2.2.2.2.1),(.int .u32 e1.2.2.2.2.2.1),(ni e1.2.2.2.2.2.2.1)] 0 g1 fun i1=>
 c1 i1∧
 Ld (.st bj) ⟨d,0,none⟩ i1 fun j1=>
 R j1 h1 0 i1)
 (j (i64 (l+1)) b1∧k (i64 (l+1)) b1<k l m)))
 (ak ⟨d,0,none⟩ [(ni 0),(ni 0),(ni 0),(ni 0),(ni 0),(.int .u32 0),(ni 0)] 0 m fun k1=>
 Ld (.st bj) ⟨d,0,none⟩ k1 fun l1=>
 R l1 (⟨none,0,0⟩:Sl) 50 k1))):Cl Pg [(.st bj),kS,kI] eI ⟨[(ni a),(al b)]⟩ w R:=co Tryz.f50 [(10,[(18,kI)])] h
theorem wz.ok (a:Int) (b:Int) (R:Sl→Bool→World→Prop) w (h:
 Cl Pg [kS,kI] mi ⟨[(ni a)]⟩ w fun (d:Sl) (e:Int) c=>
 Cl Pg [kB] bx ⟨[(ni a),(ni 1),(ni b)]⟩ c fun (g:Bool) f=>
 R d g f):Cl Pg [kS,kB] fV ⟨[(ni a),(ni b)]⟩ w R:=co Tryz.f84 [] h
theorem wo.ok (a:Int) (b:Int) (c:Int) (R:Bool→World→Prop) w (h:
 aa (decide (a≥b))
 (R (decide (a≤c)) w)
 (R false w)):Cl Pg [kB] bx ⟨[(ni a),(ni b),(ni c)]⟩ w R:=co Tryz.f85 [] h
theorem tw.ok (a:Int) (b:(TT bj)) (c:Int) (R:(TT bj)→Bool→Int→World→Prop) w (h:
 Nw 74 ⟨[(ni b.1),(ni b.2.1),(ni b.2.2.1),(ni b.2.2.2.1),(ni b.2.2.2.2.1),(.int .u32 b.2.2.2.2.2.1),(ni b.2.2.2.2.2.2.1)]⟩ w fun e d=>
 Nw 74 ⟨[(ni 0),(ni 0),(ni 0),(ni 0),(ni 0),(.int .u32 0),(ni 0)]⟩ d fun g f=>
 aA Pg (Instr.makeMap 202 none) kM f fun i h=>
 aA Pg (do Instr.mapUpdate 202 (.map i) (ni 0) (.func (.func 149) ⟨[]⟩ ⟨[]⟩);pure undef) kV h fun _ j=>
 aA Pg (do Instr.mapUpdate 202 (.map i) (ni 1) (.func (.func 150) ⟨[]⟩ ⟨[]⟩);pure undef) kV j fun _ k=>
 aA Pg (do Instr.mapUpdate 202 (.map i) (ni 2) (.func (.func 151) ⟨[]⟩ ⟨[]⟩);pure undef) kV k fun _ l=>
 aA Pg (do Instr.mapUpdate 202 (.map i) (ni 3) (.func (.func 152) ⟨[]⟩ ⟨[]⟩);pure undef) kV l fun _ m=>
 aA Pg (do Instr.mapUpdate 202 (.map i) (ni 5) (.func (.func 152) ⟨[]⟩ ⟨[]⟩);pure undef) kV m fun _ n=>
 Ld kI (Addr.add ⟨e,0,none⟩ 0) n fun (o:Int)=>
 aA Pg (Instr.lookup 202 (.map i) (ni o) false) kV n fun q p=>
 ka q fun r=>
 aa r
 (Ld (.st bj) ⟨g,0,none⟩ p fun s=>
 ak ⟨g,0,none⟩ [(ni s.1),(ni s.2.1),(ni s.2.2.1),(ni s.2.2.2.1),(ni s.2.2.2.2.1),(.int .u32 s.2.2.2.2.2.1),(ni s.2.2.2.2.2.2.1)] 0 p fun t=>
 Ld (.st bj) ⟨g,0,none⟩ t fun u=>
 R u false 2 t)
 (Ld (.st bj) ⟨e,0,none⟩ p fun v=>
 Cl Pg [kB] gn ⟨[(ni a),(.agg ⟨[(ni v.1),(ni v.2.1),(ni v.2.2.1),(ni v.2.2.2.1),(ni v.2.2.2.2.1),(.int .u32 v.2.2.2.2.2.1),(ni v.2.2.2.2.2.2.1)]⟩)]⟩ p fun (y:Bool) x=>
 aa (!y)
 (Ld (.st bj) ⟨g,0,none⟩ x fun z=>
 ak ⟨g,0,none⟩ [(ni z.1),(ni z.2.1),(ni z.2.2.1),(ni z.2.2.2.1),(ni z.2.2.2.2.1),(.int .u32 z.2.2.2.2.2.1),(ni z.2.2.2.2.2.2.1)] 0 x fun a1=>
 Ld (.st bj) ⟨g,0,none⟩ a1 fun b1=>
 R b1 false 2 a1)
 (Ld (.st bj) ⟨e,0,none⟩ x fun c1=>
 gO Pg q [(.st bj),kB] [(ni a),(.agg ⟨[(ni c1.1),(ni c1.2.1),(ni c1.2.2.1),(ni c1.2.2.2.1),(ni c1.2.2.2.2.1),(.int .u32 c1.2.2.2.2.2.1),(ni c1.2.2.2.2.2.2.1)]⟩),(.int .u8 c)] x fun e1 (f1:Bool) d1=>
 ak ⟨e,0,none⟩ [(ni e1.1),(ni e1.2.1),(ni e1.2.2.1),(ni e1.2.2.2.1),(ni e1.2.2.2.2.1),(.int .u32 e1.2.2.2.2.2.1),(ni e1.2.2.2.2.2.2.1)] 0 d1 fun g1=>
 aa (!f1)
 (Ld (.st bj) ⟨g,0,none⟩ g1 fun h1=>
 ak ⟨g,0,none⟩ [(ni h1.1),(ni h1.2.1),(ni h1.2.2.1),(ni h1.2.2.2.1),(ni h1.2.2.2.2.1),(.int .u32 h1.2.2.2.2.2.1),(ni h1.2.2.2.2.2.2.1)] 0 g1 fun i1=>
 Ld (.st bj) ⟨g,0,none⟩ i1 fun j1=>
 R j1 false 242 i1)
 (eB g1 fun k1 l1=>
 ae (.st bj) ⟨e,0,none⟩ k1 fun m1=>
 ae kI (Addr.add ⟨e,0,none⟩ 0) k1 fun (n1:Int)=>
 aa (n1==4)
 (ak ⟨g,0,none⟩ [(ni m1.1),(ni m1.2.1),(ni m1.2.2.1),(ni m1.2.2.2.1),(ni m1.2.2.2.2.1),(.int .u32 m1.2.2.2.2.2.1),(ni m1.2.2.2.2.2.2.1)] 0 l1 fun o1=>
 k1 o1∧
 Ld (.st bj) ⟨g,0,none⟩ o1 fun p1=>
 R p1 true 0 o1)
 (ae kI (Addr.add ⟨e,0,none⟩ 0) k1 fun (q1:Int)=>
 ak ⟨g,0,none⟩ [(ni m1.1),(ni m1.2.1),(ni m1.2.2.1),(ni m1.2.2.2.1),(ni m1.2.2.2.2.1),(.int .u32 m1.2.2.2.2.2.1),(ni m1.2.2.2.2.2.2.1)] 0 l1 fun r1=>
 k1 r1∧
 Ld (.st bj) ⟨g,0,none⟩ r1 fun s1=>
 R s1 (q1==6) 0 r1))))):Cl Pg [(.st bj),kB,kI] eJ ⟨[(ni a),(.agg ⟨[(ni b.1),(ni b.2.1),(ni b.2.2.1),(ni b.2.2.2.1),(ni b.2.2.2.2.1),(.int .u32 b.2.2.2.2.2.1),(ni b.2.2.2.2.2.2.1)]⟩),(.int .u8 c)]⟩ w R:=co Tryz.f98 [] h
theorem Ak.ok (a:Int) (b:(TT bj)) (c:Int) (R:(TT bj)→Bool→World→Prop) w (h:
 Nw 74 ⟨[(ni b.1),(ni b.2.1),(ni b.2.2.1),(ni b.2.2.2.1),(ni b.2.2.2.2.1),(.int .u32 b.2.2.2.2.2.1),(ni b.2.2.2.2.2.2.1)]⟩ w fun e d=>
 Nw 74 ⟨[(ni 0),(ni 0),(ni 0),(ni 0),(ni 0),(.int .u32 0),(ni 0)]⟩ d fun g f=>
 St (Addr.add ⟨e,0,none⟩ 0) (ni 1) f fun h=>
 aa (c==0)
 (St (Addr.add ⟨e,0,none⟩ 0) (ni 5) h fun i=>
 Ld (.st bj) ⟨e,0,none⟩ i fun j=>
 ak ⟨g,0,none⟩ [(ni j.1),(ni j.2.1),(ni j.2.2.1),(ni j.2.2.2.1),(ni j.2.2.2.2.1),(.int .u32 j.2.2.2.2.2.1),(ni j.2.2.2.2.2.2.1)] 0 i fun k=>
 Ld (.st bj) ⟨g,0,none⟩ k fun l=>
 R l (decide (c≤1)) k)
 (Ld (.st bj) ⟨e,0,none⟩ h fun m=>
 ak ⟨g,0,none⟩ [(ni m.1),(ni m.2.1),(ni m.2.2.1),(ni m.2.2.2.1),(ni m.2.2.2.2.1),(.int .u32 m.2.2.2.2.2.1),(ni m.2.2.2.2.2.2.1)] 0 h fun n=>
 Ld (.st bj) ⟨g,0,none⟩ n fun o=>
 R o (decide (c≤1)) n)):Cl Pg [(.st bj),kB] dc ⟨[(ni a),(.agg ⟨[(ni b.1),(ni b.2.1),(ni b.2.2.1),(ni b.2.2.2.1),(ni b.2.2.2.2.1),(.int .u32 b.2.2.2.2.2.1),(ni b.2.2.2.2.2.2.1)]⟩),(.int .u8 c)]⟩ w R:=co Tryz.f149 [] h
theorem Ae.ok (a:Int) (b:(TT bj)) (c:Int) (R:(TT bj)→Bool→World→Prop) w (h:
 Nw 74 ⟨[(ni b.1),(ni b.2.1),(ni b.2.2.1),(ni b.2.2.2.1),(ni b.2.2.2.2.1),(.int .u32 b.2.2.2.2.2.1),(ni b.2.2.2.2.2.2.1)]⟩ w fun e d=>
 Nw 74 ⟨[(ni 0),(ni 0),(ni 0),(ni 0),(ni 0),(.int .u32 0),(ni 0)]⟩ d fun g f=>
 Ld (.st [.int .i64,.int .i64]) (Addr.add ⟨e,0,none⟩ 1) f fun h=>
 Cl Pg [(.st [.int .i64,.int .i64]),kB,kB] iC ⟨[(.agg ⟨[(ni h.1),(ni h.2.1)]⟩),(.int .u8 c),(ni a)]⟩ f fun j (k:Bool) (l:Bool) i=>
 Nw 72 ⟨[(ni 0),(ni 0)]⟩ i fun n m=>
 ak ⟨n,0,none⟩ [(ni j.1),(ni j.2.1)] 0 m fun o=>
 Ld (.st [.int .i64,.int .i64]) ⟨n,0,none⟩ o fun p=>
 ak (Addr.add ⟨e,0,none⟩ 1) [(ni p.1),(ni p.2.1)] 0 o fun q=>
 aa k
 (Ld kI (Addr.add ⟨n,0,none⟩ 0) q fun (r:Int)=>
 ak ⟨e,0,none⟩ [(ni 2),(ni 0),(ni 0),(ni r),(ni 0),(.int .u32 0),(ni 0)] 0 q fun s=>
 Ld (.st bj) ⟨e,0,none⟩ s fun t=>
 ak ⟨g,0,none⟩ [(ni t.1),(ni t.2.1),(ni t.2.2.1),(ni t.2.2.2.1),(ni t.2.2.2.2.1),(.int .u32 t.2.2.2.2.2.1),(ni t.2.2.2.2.2.2.1)] 0 s fun u=>
 Ld (.st bj) ⟨g,0,none⟩ u fun v=>
 R v l u)
 (Ld (.st bj) ⟨e,0,none⟩ q fun x=>
 ak ⟨g,0,none⟩ [(ni x.1),(ni x.2.1),(ni x.2.2.1),(ni x.2.2.2.1),(ni x.2.2.2.2.1),(.int .u32 x.2.2.2.2.2.1),(ni x.2.2.2.2.2.2.1)] 0 q fun y=>
 Ld (.st bj) ⟨g,0,none⟩ y fun z=>
 R z l y)):Cl Pg [(.st bj),kB] dh ⟨[(ni a),(.agg ⟨[(ni b.1),(ni b.2.1),(ni b.2.2.1),(ni b.2.2.2.1),(ni b.2.2.2.2.1),(.int .u32 b.2.2.2.2.2.1),(ni b.2.2.2.2.2.2.1)]⟩),(.int .u8 c)]⟩ w R:=co Tryz.f150 [] h
theorem xJ.ok (a:Int) (b:(TT bj)) (c:Int) (R:(TT bj)→Bool→World→Prop) w (h:
 Nw 74 ⟨[(ni b.1),(ni b.2.1),(ni b.2.2.1),(ni b.2.2.2.1),(ni b.2.2.2.2.1),(.int .u32 b.2.2.2.2.2.1),(ni b.2.2.2.2.2.2.1)]⟩ w fun e d=>
 Nw 74 ⟨[(ni 0),(ni 0),(ni 0),(ni 0),(ni 0),(.int .u32 0),(ni 0)]⟩ d fun g f=>
 Ld (.st [.int .i64,.int .i64]) (Addr.add ⟨e,0,none⟩ 1) f fun h=>
 Ld kI ((Addr.add ⟨e,0,none⟩ 3).add 0) f fun (i:Int)=>
 Cl Pg [(.st [.int .i64,.int .i64]),kB,kB] iC ⟨[(.agg ⟨[(ni h.1),(ni h.2.1)]⟩),(.int .u8 c),(ni i)]⟩ f fun k (l:Bool) (m:Bool) j=>
 Nw 72 ⟨[(ni 0),(ni 0)]⟩ j fun o n=>
 ak ⟨o,0,none⟩ [(ni k.1),(ni k.2.1)] 0 n fun p=>
 Ld (.st [.int .i64,.int .i64]) ⟨o,0,none⟩ p fun q=>
 ak (Addr.add ⟨e,0,none⟩ 1) [(ni q.1),(ni q.2.1)] 0 p fun r=>
 aa l
 (Ld kI ((Addr.add ⟨e,0,none⟩ 3).add 0) r fun (s:Int)=>
 Ld kI (Addr.add ⟨o,0,none⟩ 0) r fun (t:Int)=>
 ak ⟨e,0,none⟩ [(ni 3),(ni 0),(ni 0),(ni s),(ni t),(.int .u32 0),(ni 0)] 0 r fun u=>
 Ld (.st bj) ⟨e,0,none⟩ u fun v=>
 ak ⟨g,0,none⟩ [(ni v.1),(ni v.2.1),(ni v.2.2.1),(ni v.2.2.2.1),(ni v.2.2.2.2.1),(.int .u32 v.2.2.2.2.2.1),(ni v.2.2.2.2.2.2.1)] 0 u fun x=>
 Ld (.st bj) ⟨g,0,none⟩ x fun y=>
 R y m x)
 (Ld (.st bj) ⟨e,0,none⟩ r fun z=>
 ak ⟨g,0,none⟩ [(ni z.1),(ni z.2.1),(ni z.2.2.1),(ni z.2.2.2.1),(ni z.2.2.2.2.1),(.int .u32 z.2.2.2.2.2.1),(ni z.2.2.2.2.2.2.1)] 0 r fun a1=>
 Ld (.st bj) ⟨g,0,none⟩ a1 fun b1=>
 R b1 m a1)):Cl Pg [(.st bj),kB] cH ⟨[(ni a),(.agg ⟨[(ni b.1),(ni b.2.1),(ni b.2.2.1),(ni b.2.2.2.1),(ni b.2.2.2.2.1),(.int .u32 b.2.2.2.2.2.1),(ni b.2.2.2.2.2.2.1)]⟩),(.int .u8 c)]⟩ w R:=co Tryz.f151 [] h
theorem Ce.ok (a:Int) (b:(TT bj)) (c:Int) (R:(TT bj)→Bool→World→Prop) w (h:
 Nw 74 ⟨[(ni b.1),(ni b.2.1),(ni b.2.2.1),(ni b.2.2.2.1),(ni b.2.2.2.2.1),(.int .u32 b.2.2.2.2.2.1),(ni b.2.2.2.2.2.2.1)]⟩ w fun e d=>
 Nw 74 ⟨[(ni 0),(ni 0),(ni 0),(ni 0),(ni 0),(.int .u32 0),(ni 0)]⟩ d fun g f=>
 Ld (az .u32) ((Addr.add ⟨e,0,none⟩ 3).add 2) f fun (h:Int)=>
 0≤(8:Int)∧
 St ((Addr.add ⟨e,0,none⟩ 3).add 2) (.int .u32 (jk .u32 (a8 .u32 h (8:Int)) (u32 c))) f fun i=>
 Ld kI (Addr.add ⟨e,0,none⟩ 6) i fun (j:Int)=>
 St (Addr.add ⟨e,0,none⟩ 6) (ni (i64 (j+1))) i fun k=>
 Ld kI (Addr.add ⟨e,0,none⟩ 6) k fun (l:Int)=>
 aa (l==4)
 (Ld kI (Addr.add ⟨e,0,none⟩ 0) k fun (m:Int)=>
 St (Addr.add ⟨e,0,none⟩ 0) (ni (i64 (m+1))) k fun n=>
 Ld (.st bj) ⟨e,0,none⟩ n fun o=>
 ak ⟨g,0,none⟩ [(ni o.1),(ni o.2.1),(ni o.2.2.1),(ni o.2.2.2.1),(ni o.2.2.2.2.1),(.int .u32 o.2.2.2.2.2.1),(ni o.2.2.2.2.2.2.1)] 0 n fun p=>
 Ld (.st bj) ⟨g,0,none⟩ p fun q=>
 R q true p)
 (Ld (.st bj) ⟨e,0,none⟩ k fun r=>
 ak ⟨g,0,none⟩ [(ni r.1),(ni r.2.1),(ni r.2.2.1),(ni r.2.2.2.1),(ni r.2.2.2.2.1),(.int .u32 r.2.2.2.2.2.1),(ni r.2.2.2.2.2.2.1)] 0 k fun s=>
 Ld (.st bj) ⟨g,0,none⟩ s fun t=>
 R t true s)):Cl Pg [(.st bj),kB] bG ⟨[(ni a),(.agg ⟨[(ni b.1),(ni b.2.1),(ni b.2.2.1),(ni b.2.2.2.1),(ni b.2.2.2.2.1),(.int .u32 b.2.2.2.2.2.1),(ni b.2.2.2.2.2.2.1)]⟩),(.int .u8 c)]⟩ w R:=co Tryz.f152 [] h
theorem rZ.ok (a:Int) (b:(TT bj)) (R:Bool→World→Prop) w (h:
 Nw 74 ⟨[(ni b.1),(ni b.2.1),(ni b.2.2.1),(ni b.2.2.2.1),(ni b.2.2.2.2.1),(.int .u32 b.2.2.2.2.2.1),(ni b.2.2.2.2.2.2.1)]⟩ w fun d c=>
 Ld (.st [.int .i64,.int .i64,.int .u32]) (Addr.add ⟨d,0,none⟩ 3) c fun e=>
 Nw 53 ⟨[(ni 0),(ni 0),(.int .u32 0)]⟩ c fun g f=>
 ak ⟨g,0,none⟩ [(ni e.1),(ni e.2.1),(.int .u32 e.2.2.1)] 0 f fun h=>
 bf (fun (q:Bool) (r:World)=>
 Cl Pg [kB] bx ⟨[(ni a),(ni 1),(ni 65536)]⟩ r fun (t:Bool) s=>
 aa (!t)
 (R false s)
 (Ld kI (Addr.add ⟨d,0,none⟩ 0) s fun (u:Int)=>
 aa (u==0)
 (Ld (.st bj) ⟨d,0,none⟩ s fun v=>
 R (((v.1:Int)==(0:Int))&&((((v.2.1:Int)==(0:Int))&&((v.2.2.1:Int)==(0:Int)))&&((((v.2.2.2.1:Int)==(0:Int))&&(((v.2.2.2.2.1:Int)==(0:Int))&&((v.2.2.2.2.2.1:Int)==(0:Int))))&&((v.2.2.2.2.2.2.1:Int)==(0:Int))))) s)
 (aa (u==1)
 (Ld (.st [.int .i64,.int .i64]) (Addr.add ⟨d,0,none⟩ 1) s fun x=>
 Cl Pg [kB] gD ⟨[(.agg ⟨[(ni x.1),(ni x.2.1)]⟩),(ni a)]⟩ s fun (z:Bool) y=>
 aa z
 (Ld (.st bj) ⟨d,0,none⟩ y fun a1=>
 Ld (.st [.int .i64,.int .i64]) (Addr.add ⟨d,0,none⟩ 1) y fun b1=>
 R (((a1.1:Int)==(1:Int))&&((((a1.2.1:Int)==(b1.1:Int))&&((a1.2.2.1:Int)==(b1.2.1:Int)))&&((((a1.2.2.2.1:Int)==(0:Int))&&(((a1.2.2.2.2.1:Int)==(0:Int))&&((a1.2.2.2.2.2.1:Int)==(0:Int))))&&((a1.2.2.2.2.2.2.1:Int)==(0:Int))))) y)
 (R false y))
 (aa (u==2)
 (Ld kI (Addr.add ⟨g,0,none⟩ 0) s fun (c1:Int)=>
 Cl Pg [kB] bx ⟨[(ni c1),(ni 1),(ni a)]⟩ s fun (e1:Bool) d1=>
 aa e1
 (Ld (.st [.int .i64,.int .i64]) (Addr.add ⟨d,0,none⟩ 1) d1 fun f1=>
 Ld kI (Addr.add ⟨g,0,none⟩ 0) d1 fun (g1:Int)=>
 Cl Pg [kB] gD ⟨[(.agg ⟨[(ni f1.1),(ni f1.2.1)]⟩),(ni g1)]⟩ d1 fun (i1:Bool) h1=>
 aa i1
 (Ld (.st bj) ⟨d,0,none⟩ h1 fun j1=>
 Ld (.st [.int .i64,.int .i64]) (Addr.add ⟨d,0,none⟩ 1) h1 fun k1=>
 Ld kI (Addr.add ⟨g,0,none⟩ 0) h1 fun (l1:Int)=>
 R (((j1.1:Int)==(2:Int))&&((((j1.2.1:Int)==(k1.1:Int))&&((j1.2.2.1:Int)==(k1.2.1:Int)))&&((((j1.2.2.2.1:Int)==l1)&&(((j1.2.2.2.2.1:Int)==(0:Int))&&((j1.2.2.2.2.2.1:Int)==(0:Int))))&&((j1.2.2.2.2.2.2.1:Int)==(0:Int))))) h1)
 (R false h1))
 (R false d1))
 (aa (u==3)
 (aa q
 (Ld (az .u32) (Addr.add ⟨g,0,none⟩ 2) s fun (m1:Int)=>
 Ld kI (Addr.add ⟨d,0,none⟩ 6) s fun (n1:Int)=>
 Cl Pg [kB] iy ⟨[(.int .u32 m1),(ni n1)]⟩ s fun (p1:Bool) o1=>
 aa p1
 (Ld (.st [.int .i64,.int .i64]) (Addr.add ⟨d,0,none⟩ 1) o1 fun q1=>
 R (((q1.1:Int)==(0:Int))&&((q1.2.1:Int)==(0:Int))) o1)
 (R false o1))
 (R false s))
 (aa (u==4)
 (aa q
 (Ld (.st bj) ⟨d,0,none⟩ s fun r1=>
 Ld (.st [.int .i64,.int .i64,.int .u32]) ⟨g,0,none⟩ s fun s1=>
 R (((r1.1:Int)==(4:Int))&&((((r1.2.1:Int)==(0:Int))&&((r1.2.2.1:Int)==(0:Int)))&&((((r1.2.2.2.1:Int)==(s1.1:Int))&&(((r1.2.2.2.2.1:Int)==(s1.2.1:Int))&&((r1.2.2.2.2.2.1:Int)==(s1.2.2.1:Int))))&&((r1.2.2.2.2.2.2.1:Int)==(4:Int))))) s)
 (R false s))
 (aa (u==5)
 (Ld (az .u32) (Addr.add ⟨g,0,none⟩ 2) s fun (t1:Int)=>
 Ld kI (Addr.add ⟨d,0,none⟩ 6) s fun (u1:Int)=>
 Cl Pg [kB] iy ⟨[(.int .u32 t1),(ni u1)]⟩ s fun (x1:Bool) v1=>
 aa x1
 (Ld (.st bj) ⟨d,0,none⟩ v1 fun y1=>
 Ld (az .u32) (Addr.add ⟨g,0,none⟩ 2) v1 fun (z1:Int)=>
 Ld kI (Addr.add ⟨d,0,none⟩ 6) v1 fun (a2:Int)=>
 R (((y1.1:Int)==(5:Int))&&((((y1.2.1:Int)==(0:Int))&&((y1.2.2.1:Int)==(0:Int)))&&((((y1.2.2.2.1:Int)==(0:Int))&&(((y1.2.2.2.2.1:Int)==(0:Int))&&((y1.2.2.2.2.2.1:Int)==z1)))&&((y1.2.2.2.2.2.2.1:Int)==a2)))) v1)
 (R false v1))
 (aa (u==6)
 (Ld (.st bj) ⟨d,0,none⟩ s fun b2=>
 Ld (az .u32) (Addr.add ⟨g,0,none⟩ 2) s fun (c2:Int)=>
 R (((b2.1:Int)==(6:Int))&&((((b2.2.1:Int)==(0:Int))&&((b2.2.2.1:Int)==(0:Int)))&&((((b2.2.2.2.1:Int)==(0:Int))&&(((b2.2.2.2.2.1:Int)==(0:Int))&&((b2.2.2.2.2.2.1:Int)==c2)))&&((b2.2.2.2.2.2.2.1:Int)==(4:Int))))) s)
 (R false s))))))))) fun i=>
 Ld kI (Addr.add ⟨g,0,none⟩ 0) h fun (j:Int)=>
 Cl Pg [kB] bx ⟨[(ni j),(ni 1),(ni a)]⟩ h fun (l:Bool) k=>
 aa l
 (Ld kI (Addr.add ⟨g,0,none⟩ 1) k fun (m:Int)=>
 Ld kI (Addr.add ⟨g,0,none⟩ 0) k fun (n:Int)=>
 Cl Pg [kB] bx ⟨[(ni m),(ni 1),(ni n)]⟩ k fun (p:Bool) o=>
 i p o)
 (i false k)):Cl Pg [kB] gn ⟨[(ni a),(.agg ⟨[(ni b.1),(ni b.2.1),(ni b.2.2.1),(ni b.2.2.2.1),(ni b.2.2.2.2.1),(.int .u32 b.2.2.2.2.2.1),(ni b.2.2.2.2.2.2.1)]⟩)]⟩ w R:=co Tryz.f153 [(4,[(6,kB)])] h
theorem Ao.ok (a:(TT [.int .i64,.int .i64])) (b:Int) (c:Int) (R:(TT [.int .i64,.int .i64])→Bool→Bool→World→Prop) w (h:
 Nw 72 ⟨[(ni a.1),(ni a.2.1)]⟩ w fun e d=>
 Nw 72 ⟨[(ni 0),(ni 0)]⟩ d fun g f=>
 Ld (.st [.int .i64,.int .i64]) ⟨e,0,none⟩ f fun h=>
 Cl Pg [(.st [.int .i64,.int .i64]),kB,kI] kO ⟨[(.agg ⟨[(ni h.1),(ni h.2.1)]⟩),(.int .u8 b)]⟩ f fun j (k:Bool) (l:Int) i=>
 ak ⟨g,0,none⟩ [(ni j.1),(ni j.2.1)] 0 i fun m=>
 Ld (.st [.int .i64,.int .i64]) ⟨g,0,none⟩ m fun n=>
 aa (l==0)
 (Ld kI (Addr.add ⟨g,0,none⟩ 0) m fun (o:Int)=>
 aa (decide (o≤c))
 (aa (!k)
 (ak ⟨g,0,none⟩ [(ni n.1),(ni n.2.1)] 0 m fun p=>
 Ld (.st [.int .i64,.int .i64]) ⟨g,0,none⟩ p fun q=>
 R q k true p)
 (Ld kI (Addr.add ⟨g,0,none⟩ 0) m fun (r:Int)=>
 ak ⟨g,0,none⟩ [(ni n.1),(ni n.2.1)] 0 m fun s=>
 Ld (.st [.int .i64,.int .i64]) ⟨g,0,none⟩ s fun t=>
 R t k (decide (r>0)) s))
 (ak ⟨g,0,none⟩ [(ni n.1),(ni n.2.1)] 0 m fun u=>
 Ld (.st [.int .i64,.int .i64]) ⟨g,0,none⟩ u fun v=>
 R v k false u))
 (ak ⟨g,0,none⟩ [(ni n.1),(ni n.2.1)] 0 m fun x=>
 Ld (.st [.int .i64,.int .i64]) ⟨g,0,none⟩ x fun y=>
 R y k false x)):Cl Pg [(.st [.int .i64,.int .i64]),kB,kB] iC ⟨[(.agg ⟨[(ni a.1),(ni a.2.1)]⟩),(.int .u8 b),(ni c)]⟩ w R:=co Tryz.f170 [] h
theorem zJ.ok (a:(TT [.int .i64,.int .i64])) (b:Int) (R:Bool→World→Prop) w (h:
 Nw 72 ⟨[(ni a.1),(ni a.2.1)]⟩ w fun d c=>
 Ld (.st [.int .i64,.int .i64]) ⟨d,0,none⟩ c fun e=>
 Cl Pg [kB] gI ⟨[(.agg ⟨[(ni e.1),(ni e.2.1)]⟩)]⟩ c fun (g:Bool) f=>
 aa g
 (Ld kI (Addr.add ⟨d,0,none⟩ 0) f fun (h:Int)=>
 R (decide (h≤b)) f)
 (R false f)):Cl Pg [kB] gD ⟨[(.agg ⟨[(ni a.1),(ni a.2.1)]⟩),(ni b)]⟩ w R:=co Tryz.f190 [] h
theorem Aa.ok (a:Int) (b:Int) (R:Bool→World→Prop) w (h:
 Cl Pg [kB] bx ⟨[(ni b),(ni 0),(ni 3)]⟩ w fun (d:Bool) c=>
 aa d
 (0≤(i64 ((8:Int)*b))∧
 R ((aF .u64 (u64 a) (i64 ((8:Int)*b)))==0) c)
 (R false c)):Cl Pg [kB] iy ⟨[(.int .u32 a),(ni b)]⟩ w R:=co Tryz.f191 [] h
end Go.Proofs.YtcdpblipagajiaaGreat
namespace Go.Proofs.YtcdpblipagajiaaGreat
open Go Go.Vc
set_option maxRecDepth 100000
theorem B6.ok (a:Int) (R:Sl→Int→World→Prop) w (h:
 aa (decide (a<0))
 (R (⟨none,0,0⟩:Sl) 2 w)
 (aa (decide (a>2147483647))
 (R (⟨none,0,0⟩:Sl) 2 w)
 (Nw 5 ⟨[(.int .u8 (u8 (bo .i64 a 127)))]⟩ w fun c b=>
 aA Pg (Builtin.append_ #[22,22] 22 ⟨[(.slice none 0 0),(al (⟨some ⟨c,0,none⟩,1,1⟩:Sl))]⟩) kS b fun (e:Sl) d=>
 0≤(7:Int)∧
 cD (aF .i64 a (7:Int)) e d fun f g (h:Int) (i:Sl) j=>
 aa (decide (h>0))
 (Nw 5 ⟨[(.int .u8 (jk .u8 (u8 (bo .i64 h 127)) 128))]⟩ j fun l k=>
 aA Pg (Builtin.append_ #[22,22] 22 ⟨[(al i),(al (⟨some ⟨l,0,none⟩,1,1⟩:Sl))]⟩) kS k fun (n:Sl) m=>
 0≤(7:Int)∧
 f (aF .i64 h (7:Int)) n m∧g (aF .i64 h (7:Int)) n m<g h i j)
 (Cl Pg [] cg ⟨[(al i)]⟩ j fun o=>
 R i 0 o)))):Cl Pg [kS,kI] mi ⟨[(ni a)]⟩ w R:=co Tryz.f130 [(12,[(0,kI),(2,kS)])] h
theorem zN.ok (a:(TT [.int .i64,.int .i64])) (b:Int) (R:(TT [.int .i64,.int .i64])→Bool→Int→World→Prop) w (h:
 Nw 72 ⟨[(ni a.1),(ni a.2.1)]⟩ w fun d c=>
 Nw 72 ⟨[(ni 0),(ni 0)]⟩ c fun f e=>
 Ld kI (Addr.add ⟨d,0,none⟩ 0) e fun (g:Int)=>
 0≤(7:Int)∧
 bf (fun (h1:World)=>
 Ld kI (Addr.add ⟨d,0,none⟩ 1) h1 fun (i1:Int)=>
 ak ⟨f,0,none⟩ [(ni (jk .i64 (a8 .i64 g (7:Int)) (i64 (bo .u8 b 127)))),(ni (i64 (i1+1)))] 0 h1 fun j1=>
 Ld (.st [.int .i64,.int .i64]) ⟨f,0,none⟩ j1 fun k1=>
 R k1 (decide (b<128)) 0 j1) fun h=>
 Ld (.st [.int .i64,.int .i64]) ⟨d,0,none⟩ e fun i=>
 Cl Pg [kB] gI ⟨[(.agg ⟨[(ni i.1),(ni i.2.1)]⟩)]⟩ e fun (k:Bool) j=>
 aa (!k)
 (Ld (.st [.int .i64,.int .i64]) ⟨f,0,none⟩ j fun l=>
 ak ⟨f,0,none⟩ [(ni l.1),(ni l.2.1)] 0 j fun m=>
 Ld (.st [.int .i64,.int .i64]) ⟨f,0,none⟩ m fun n=>
 R n false 2 m)
 (aa (b==128)
 (Ld kI (Addr.add ⟨d,0,none⟩ 1) j fun (o:Int)=>
 aa (o==0)
 (Ld (.st [.int .i64,.int .i64]) ⟨f,0,none⟩ j fun p=>
 ak ⟨f,0,none⟩ [(ni p.1),(ni p.2.1)] 0 j fun q=>
 Ld (.st [.int .i64,.int .i64]) ⟨f,0,none⟩ q fun r=>
 R r false 51 q)
 (aa (decide ((jk .i64 (a8 .i64 g (7:Int)) (i64 (bo .u8 b 127)))>2147483647))
 (Ld (.st [.int .i64,.int .i64]) ⟨f,0,none⟩ j fun s=>
 ak ⟨f,0,none⟩ [(ni s.1),(ni s.2.1)] 0 j fun t=>
 Ld (.st [.int .i64,.int .i64]) ⟨f,0,none⟩ t fun u=>
 R u false 52 t)
 (Ld kI (Addr.add ⟨d,0,none⟩ 1) j fun (v:Int)=>
 aa (v==4)
 (aa (decide (b≥128))
 (Ld (.st [.int .i64,.int .i64]) ⟨f,0,none⟩ j fun x=>
 ak ⟨f,0,none⟩ [(ni x.1),(ni x.2.1)] 0 j fun y=>
 Ld (.st [.int .i64,.int .i64]) ⟨f,0,none⟩ y fun z=>
 R z false 52 y)
 (h j))
 (h j))))
 (aa (decide ((jk .i64 (a8 .i64 g (7:Int)) (i64 (bo .u8 b 127)))>2147483647))
 (Ld (.st [.int .i64,.int .i64]) ⟨f,0,none⟩ j fun a1=>
 ak ⟨f,0,none⟩ [(ni a1.1),(ni a1.2.1)] 0 j fun b1=>
 Ld (.st [.int .i64,.int .i64]) ⟨f,0,none⟩ b1 fun c1=>
 R c1 false 52 b1)
 (Ld kI (Addr.add ⟨d,0,none⟩ 1) j fun (d1:Int)=>
 aa (d1==4)
 (aa (decide (b≥128))
 (Ld (.st [.int .i64,.int .i64]) ⟨f,0,none⟩ j fun e1=>
 ak ⟨f,0,none⟩ [(ni e1.1),(ni e1.2.1)] 0 j fun f1=>
 Ld (.st [.int .i64,.int .i64]) ⟨f,0,none⟩ f1 fun g1=>
 R g1 false 52 f1)
 (h j))
 (h j))))):Cl Pg [(.st [.int .i64,.int .i64]),kB,kI] kO ⟨[(.agg ⟨[(ni a.1),(ni a.2.1)]⟩),(.int .u8 b)]⟩ w R:=co Tryz.f196 [(4,[])] h
theorem xX.ok (a:(TT [.int .i64,.int .i64])) (R:Bool→World→Prop) w (h:
 Nw 72 ⟨[(ni a.1),(ni a.2.1)]⟩ w fun c b=>
 Ld kI (Addr.add ⟨c,0,none⟩ 1) b fun (d:Int)=>
 aa (decide (d<1))
 (Ld (.st [.int .i64,.int .i64]) ⟨c,0,none⟩ b fun e=>
 R (((e.1:Int)==(0:Int))&&((e.2.1:Int)==(0:Int))) b)
 (Ld kI (Addr.add ⟨c,0,none⟩ 1) b fun (f:Int)=>
 aa (decide (f>4))
 (Ld (.st [.int .i64,.int .i64]) ⟨c,0,none⟩ b fun g=>
 R (((g.1:Int)==(0:Int))&&((g.2.1:Int)==(0:Int))) b)
 (aq b fun h=>
 Ld kI (Addr.add ⟨c,0,none⟩ 0) h fun (i:Int)=>
 Ld kI (Addr.add ⟨c,0,none⟩ 1) h fun (j:Int)=>
 0≤(i64 ((7:Int)*(i64 (j - 1))))∧
 aa (decide (i≥(a8 .i64 (1:Int) (i64 ((7:Int)*(i64 (j - 1)))))))
 (Ld kI (Addr.add ⟨c,0,none⟩ 0) h fun (k:Int)=>
 Ld kI (Addr.add ⟨c,0,none⟩ 1) h fun (l:Int)=>
 0≤(i64 ((7:Int)*l))∧
 R (decide (k<(a8 .i64 (1:Int) (i64 ((7:Int)*l))))) h)
 (R false h)))):Cl Pg [kB] gI ⟨[(.agg ⟨[(ni a.1),(ni a.2.1)]⟩)]⟩ w R:=co Tryz.f206 [] h
end Go.Proofs.YtcdpblipagajiaaGreat
set_option maxRecDepth 20000
namespace Go.Srt
def vm (v:Nat):Nat:=if v=0 then 0 else if v<128 then 1 else if v<16384 then 2 else if v<2097152 then 3 else 4
theorem G6 {v c:Nat} (hv:v≤65536) (hc:128≤c) (hc2:c<256) (h0: ¬(v=0∧c=128)):vm v+1=vm (128*v+c % 128):=by
 unfold vm
 repeat' split
 all_goals omega
theorem zc {v:Nat} (hv:v≤65536):(v=0∧vm v=0)∨(1≤v∧v<128∧vm v=1)∨(128≤v∧v<16384∧vm v=2)∨(16384≤v∧v<2097152∧vm v=3):=by
 unfold vm
 repeat' split
 all_goals omega
theorem Jx {v:Nat} (hv:v≤65536):vm v≤3∧(vm v=0↔v=0):=by
 have:=zc hv
 omega
end Go.Srt
namespace Go.Vc
theorem JF {v c:Nat} (hv:v≤65536) (hc:c<256):jk .i64 (a8 .i64 (v:Int) 7) (i64 (bo .u8 (c:Int) 127))=((128*v+c % 128:Nat):Int):=by
 have hmx:IntKind.max .i64=9223372036854775807:=rfl
 have hm8:IntKind.max .u8=255:=rfl
 have e1:a8 .i64 (v:Int) 7=((v*128:Nat):Int):=by
  have:=dM (k:= .i64) (a:=v) (b:=7) (by decide) (by rw [hmx];omega)
  simpa using this
 have e2:bo .u8 (c:Int) 127=((c % 128:Nat):Int):=by
  have:=ew (k:= .u8) (a:=c) (b:=127) (by rw [hm8];omega) (by rw [hm8];omega)
  rw [show c&&&127=c % 128 from Nat.and_two_pow_sub_one_eq_mod c 7] at this
  simpa using this
 have e3:v*128|||c % 128=128*v+c % 128:=by
  rw [Nat.mul_comm v 128]
  exact (Nat.two_pow_add_eq_or_of_lt (i:=7) (by omega) v).symm
 rw [e1,e2,ad (by omega),oz (by rw [hmx];omega) (by rw [hmx];omega) (by rw [e3,hmx];omega),e3]
end Go.Vc
namespace Go.Proofs.YtcdpblipagajiaaGreat
open Go Go.Vc Go.Srt
section
variable {E w:World} {F:List HP}
theorem yK {v:Nat} {K:Bool→World→Prop} (h:Hp E w F) (hv:v≤65536) (hK: ∀w',Hp E w' F→K true w'):
  Cl Tryz.prog [kB] gI ⟨[.agg ⟨[.int .i64 (v:Int),.int .i64 (vm v:Int)]⟩]⟩ w K:=by
 refine xX.ok ((v:Int),(vm v:Int),()) _ _ ?_
 (try simp only [aH,ay,au,Nat.zero_add,Nat.add_zero,Nat.reduceAdd,Bool.not_true,Bool.not_false,aZ,aY,Option.isNone])
 (with_reducible repeat first|refine Nw.mk h fun b w h=> ?_|refine aq.mk h fun w h=> ?_|refine Ld.xb h rfl ?_|refine Ld.xt h rfl ?_|refine ae.xb (fun _ h=>h) rfl ?_|refine ae.xt (fun _ h=>h) rfl ?_|refine ⟨h.hb,?_⟩|refine ak.xw h rfl rfl fun w h=> ?_|(refine ak.xs h rfl rfl fun w h=> ?_;dsimp only [an,af] at h)|(refine St.xs h rfl rfl fun w h=> ?_;dsimp only [an,af] at h)|refine aa.yes ?_|refine aa.no ?_|refine ⟨by first|omega|decide,?_⟩)
 rcases zc hv with ⟨h1,h2⟩|⟨h0,h1,h2⟩|⟨h0,h1,h2⟩|⟨h0,h1,h2⟩
 all_goals rw [h2] at h⊢
 ·subst h1
  (with_reducible repeat first|refine Nw.mk h fun b w h=> ?_|refine aq.mk h fun w h=> ?_|refine Ld.xb h rfl ?_|refine Ld.xt h rfl ?_|refine ae.xb (fun _ h=>h) rfl ?_|refine ae.xt (fun _ h=>h) rfl ?_|refine ⟨h.hb,?_⟩|refine ak.xw h rfl rfl fun w h=> ?_|(refine ak.xs h rfl rfl fun w h=> ?_;dsimp only [an,af] at h)|(refine St.xs h rfl rfl fun w h=> ?_;dsimp only [an,af] at h)|refine aa.yes ?_|refine aa.no ?_|refine ⟨by first|omega|decide,?_⟩)
  exact hK _ h.tl
 all_goals
  (with_reducible repeat first|refine Nw.mk h fun b w h=> ?_|refine aq.mk h fun w h=> ?_|refine Ld.xb h rfl ?_|refine Ld.xt h rfl ?_|refine ae.xb (fun _ h=>h) rfl ?_|refine ae.xt (fun _ h=>h) rfl ?_|refine ⟨h.hb,?_⟩|refine ak.xw h rfl rfl fun w h=> ?_|(refine ak.xs h rfl rfl fun w h=> ?_;dsimp only [an,af] at h)|(refine St.xs h rfl rfl fun w h=> ?_;dsimp only [an,af] at h)|refine aa.yes ?_|refine aa.no ?_|refine ⟨by first|omega|decide,?_⟩)
  refine aa.dt ?_ ?_
  ·first
   |rw [show a8 .i64 1 (i64 (7*i64 (((1:Nat):Int) - 1)))=1 by decide];omega
   |rw [show a8 .i64 1 (i64 (7*i64 (((2:Nat):Int) - 1)))=128 by decide];omega
   |rw [show a8 .i64 1 (i64 (7*i64 (((3:Nat):Int) - 1)))=16384 by decide];omega
  (with_reducible repeat first|refine Nw.mk h fun b w h=> ?_|refine aq.mk h fun w h=> ?_|refine Ld.xb h rfl ?_|refine Ld.xt h rfl ?_|refine ae.xb (fun _ h=>h) rfl ?_|refine ae.xt (fun _ h=>h) rfl ?_|refine ⟨h.hb,?_⟩|refine ak.xw h rfl rfl fun w h=> ?_|(refine ak.xs h rfl rfl fun w h=> ?_;dsimp only [an,af] at h)|(refine St.xs h rfl rfl fun w h=> ?_;dsimp only [an,af] at h)|refine aa.yes ?_|refine aa.no ?_|refine ⟨by first|omega|decide,?_⟩)
  refine iW ?_ (hK _ h.tl)
  refine decide_eq_true ?_
  first
   |rw [show a8 .i64 1 (i64 (7*((1:Nat):Int)))=128 by decide];omega
   |rw [show a8 .i64 1 (i64 (7*((2:Nat):Int)))=16384 by decide];omega
   |rw [show a8 .i64 1 (i64 (7*((3:Nat):Int)))=2097152 by decide];omega
theorem G4 {v c:Nat} {K:Int×Int×Unit→Bool→Int→World→Prop} (h:Hp E w F) (hv:v≤65536) (hc:c<256)
  (hbad:v=0∧c=128→∀w',Hp E w' F→K (0,0,()) false 51 w')
  (hK: ¬(v=0∧c=128)→∀w',Hp E w' F→K (((128*v+c % 128:Nat):Int),((vm v+1:Nat):Int),()) (decide (c<128)) 0 w'):
  Cl Tryz.prog [.st [.int .i64,.int .i64],kB,kI] kO ⟨[.agg ⟨[.int .i64 (v:Int),.int .i64 (vm v:Int)]⟩,.int .u8 (c:Int)]⟩ w K:=by
 refine zN.ok ((v:Int),(vm v:Int),()) _ _ _ ?_
 (try simp only [aH,ay,au,Nat.zero_add,Nat.add_zero,Nat.reduceAdd,Bool.not_true,Bool.not_false,aZ,aY,Option.isNone])
 (with_reducible repeat first|refine Nw.mk h fun b w h=> ?_|refine aq.mk h fun w h=> ?_|refine Ld.xb h rfl ?_|refine Ld.xt h rfl ?_|refine ae.xb (fun _ h=>h) rfl ?_|refine ae.xt (fun _ h=>h) rfl ?_|refine ⟨h.hb,?_⟩|refine ak.xw h rfl rfl fun w h=> ?_|(refine ak.xs h rfl rfl fun w h=> ?_;dsimp only [an,af] at h)|(refine St.xs h rfl rfl fun w h=> ?_;dsimp only [an,af] at h)|refine aa.yes ?_|refine aa.no ?_|refine ⟨by first|omega|decide,?_⟩)
 refine yK h hv fun w h=> ?_
 (try simp only [aH,ay,au,Nat.zero_add,Nat.add_zero,Nat.reduceAdd,Bool.not_true,Bool.not_false,aZ,aY,Option.isNone])
 rw [JF hv hc]
 have hvm:=Jx hv
 have fin: ∀w,¬(v=0∧c=128)→Hp E w F→K (((128*v+c % 128:Nat):Int),i64 ((vm v:Int)+1),()) (decide ((c:Int)<128)) 0 w:=fun w hn h=>by
  have:=hK hn w h
  rw [ad (by omega)]
  rw [show ((vm v+1:Nat):Int)=(vm v:Int)+1 from rfl] at this
  rwa [show decide ((c:Int)<128)=decide (c<128) from decide_eq_decide.2 (by omega)]
 (first|refine aa.dm (fun hb=> ?_) (fun hb=> ?_)|refine aa.em (fun hb=> ?_) (fun hb=> ?_)|refine aa.nm (fun hb=> ?_) (fun hb=> ?_)|refine aa.mk (fun hb=> ?_) (fun hb=> ?_))
 ·(with_reducible repeat first|refine Nw.mk h fun b w h=> ?_|refine aq.mk h fun w h=> ?_|refine Ld.xb h rfl ?_|refine Ld.xt h rfl ?_|refine ae.xb (fun _ h=>h) rfl ?_|refine ae.xt (fun _ h=>h) rfl ?_|refine ⟨h.hb,?_⟩|refine ak.xw h rfl rfl fun w h=> ?_|(refine ak.xs h rfl rfl fun w h=> ?_;dsimp only [an,af] at h)|(refine St.xs h rfl rfl fun w h=> ?_;dsimp only [an,af] at h)|refine aa.yes ?_|refine aa.no ?_|refine ⟨by first|omega|decide,?_⟩)
  (first|refine aa.dm (fun hb=> ?_) (fun hb=> ?_)|refine aa.em (fun hb=> ?_) (fun hb=> ?_)|refine aa.nm (fun hb=> ?_) (fun hb=> ?_)|refine aa.mk (fun hb=> ?_) (fun hb=> ?_))
  ·(with_reducible repeat first|refine Nw.mk h fun b w h=> ?_|refine aq.mk h fun w h=> ?_|refine Ld.xb h rfl ?_|refine Ld.xt h rfl ?_|refine ae.xb (fun _ h=>h) rfl ?_|refine ae.xt (fun _ h=>h) rfl ?_|refine ⟨h.hb,?_⟩|refine ak.xw h rfl rfl fun w h=> ?_|(refine ak.xs h rfl rfl fun w h=> ?_;dsimp only [an,af] at h)|(refine St.xs h rfl rfl fun w h=> ?_;dsimp only [an,af] at h)|refine aa.yes ?_|refine aa.no ?_|refine ⟨by first|omega|decide,?_⟩)
   exact hbad (by omega) _ h.tl
  ·(with_reducible repeat first|refine Nw.mk h fun b w h=> ?_|refine aq.mk h fun w h=> ?_|refine Ld.xb h rfl ?_|refine Ld.xt h rfl ?_|refine ae.xb (fun _ h=>h) rfl ?_|refine ae.xt (fun _ h=>h) rfl ?_|refine ⟨h.hb,?_⟩|refine ak.xw h rfl rfl fun w h=> ?_|(refine ak.xs h rfl rfl fun w h=> ?_;dsimp only [an,af] at h)|(refine St.xs h rfl rfl fun w h=> ?_;dsimp only [an,af] at h)|refine aa.yes ?_|refine aa.no ?_|refine ⟨by first|omega|decide,?_⟩)
   exact fin _ (by omega) h.tl
 ·(with_reducible repeat first|refine Nw.mk h fun b w h=> ?_|refine aq.mk h fun w h=> ?_|refine Ld.xb h rfl ?_|refine Ld.xt h rfl ?_|refine ae.xb (fun _ h=>h) rfl ?_|refine ae.xt (fun _ h=>h) rfl ?_|refine ⟨h.hb,?_⟩|refine ak.xw h rfl rfl fun w h=> ?_|(refine ak.xs h rfl rfl fun w h=> ?_;dsimp only [an,af] at h)|(refine St.xs h rfl rfl fun w h=> ?_;dsimp only [an,af] at h)|refine aa.yes ?_|refine aa.no ?_|refine ⟨by first|omega|decide,?_⟩)
  exact fin _ (by omega) h.tl
end
end Go.Proofs.YtcdpblipagajiaaGreat
set_option maxRecDepth 20000
namespace Go.Vc
theorem Js {v c:Nat} (hv:v<16777216) (hc:c<256):jk .u32 (a8 .u32 (v:Int) 8) (u32 (c:Int))=((256*v+c:Nat):Int):=by
 have hmx:IntKind.max .u32=4294967295:=rfl
 have e1:a8 .u32 (v:Int) 8=((v*256:Nat):Int):=by
  have:=dM (k:= .u32) (a:=v) (b:=8) (by decide) (by rw [hmx];omega)
  simpa using this
 have e3:v*256|||c=256*v+c:=by
  rw [Nat.mul_comm v 256]
  exact (Nat.two_pow_add_eq_or_of_lt (i:=8) (by omega) v).symm
 rw [e1,gd (by omega),oz (by rw [hmx];omega) (by rw [hmx];omega) (by rw [e3,hmx];omega),e3]
end Go.Vc
namespace Go.Hd
open Go.Inc Go.Srt
def mu (n:Nat) (m:MS):Prop:=
 (m.at_=0∧m=mK)∨(m.at_=1∧m.v≤n∧m.M=0∧m.P=0∧m.sum=0∧m.many=0)∨(m.at_=2∧1≤m.M∧m.M≤n∧m.v≤m.M∧m.P=0∧m.sum=0∧m.many=0)∨
 (m.at_=3∧1≤m.M∧m.M≤n∧1≤m.P∧m.P≤m.M∧m.v=0∧m.many≤3∧m.sum<256^m.many)∨
 (m.at_=5∧m.M=0∧m.P=0∧m.v=0∧m.many≤3∧m.sum<256^m.many)
theorem xG {n:Nat} {s s':MS} {c:Nat} (h:mu n s) (hc:c<256) (he:aU n s c= .more s'):mu n s':=by
 obtain ⟨at_,v,M,P,sum,many⟩:=s
 unfold mu at h
 unfold aU at he
 dsimp only at h he
 split at he
 ·split at he
  ·cases he
   right;right;right;right;simp
  ·split at he
   ·cases he
    right;left;simp
   ·cases he
 ·split at he
  ·split at he
   ·cases he
   ·rename_i m hg
    have:=jK hc hg
    cases he
    right;right;left;simp;omega
   ·rename_i m hg
    have:=jK hc hg
    cases he
    right;left;simp;omega
  ·split at he
   ·split at he
    ·cases he
    ·rename_i m hg
     have:=jK hc hg
     cases he
     right;right;right;left;simp;omega
    ·rename_i m hg
     have:=jK hc hg
     cases he
     right;right;left;simp;omega
   ·split at he
    ·split at he<;>cases he
    ·cases he
     rename_i h3
     rcases h with ⟨h,_⟩|⟨h,_⟩|⟨h,_⟩|⟨h,h1⟩|⟨h,h1⟩
     ·omega
     ·omega
     ·omega
     ·right;right;right;left
      simp only
      have:256*sum+c<256^(many+1):=by rw [Nat.pow_succ];omega
      refine ⟨h,?_⟩
      omega
     ·right;right;right;right
      simp only
      have:256*sum+c<256^(many+1):=by rw [Nat.pow_succ];omega
      refine ⟨h,?_⟩
      omega
theorem D9 {n:Nat} {s:MS} {c:Nat} {M P u:Nat} (h:mu n s) (he:aU n s c= .fin (.aD M P u)):1≤M∧M≤n∧1≤P∧P≤M:=by
 obtain ⟨at_,v,M',P',sum,many⟩:=s
 unfold mu at h
 unfold aU at he
 dsimp only at h he
 split at he
 ·split at he
  ·cases he
  ·split at he<;>cases he
 ·split at he
  ·split at he<;>cases he
  ·split at he
   ·split at he<;>cases he
   ·split at he
    ·split at he
     ·cases he
      omega
     ·cases he
    ·cases he
end Go.Hd
namespace Go.Proofs.YtcdpblipagajiaaGreat
open Go Go.Vc Go.Srt Go.Inc Go.Hd
abbrev T2:=Int×Int×Unit
abbrev IC (m:MS):Int×Int×Int×Int×Int×Int×Int×Unit:=((m.at_:Int),(m.v:Int),(vm m.v:Int),(m.M:Int),(m.P:Int),(m.sum:Int),(m.many:Int),())
section
variable {E w:World} {F:List HP}
theorem Iq:Tryz.prog.underlying 3=some (.int .i64):=by kernel_rfl
theorem lu:ng Tryz.prog (α:=Int) 3 (fun n=>Value.int .i64 n) where
 und:=⟨_,Iq,fun a b=> .inr rfl⟩
 check:=fun e a w=>by
  have: ∀(e:Bool) (c:Int) (w:World),(Instr.checkKey e 10000 3 (.int .i64 c)).run Tryz.prog w= .ok () w:=fun e c w=>by kernel_rfl
  exact this e a w
 eq:=fun a b w=>by
  exact (run_equalIn_int w 9999 _ _ _ _ _ Iq).trans (by rw [show (a==b)=decide (a=b) from rfl])
 same:=fun a=>by simp [Instr.sameBits]
theorem ct {a b c:Int} {K:Bool→World→Prop} (hK:K (decide (b≤a∧a≤c)) w):Cl Tryz.prog [kB] bx ⟨[.int .i64 a,.int .i64 b,.int .i64 c]⟩ w K:=by
 refine wo.ok _ _ _ _ _ ?_
 (first|refine aa.dm (fun hb=> ?_) (fun hb=> ?_)|refine aa.em (fun hb=> ?_) (fun hb=> ?_)|refine aa.nm (fun hb=> ?_) (fun hb=> ?_)|refine aa.mk (fun hb=> ?_) (fun hb=> ?_))
 ·refine iW (decide_eq_decide.2 ?_) hK
  omega
 ·refine iW (decide_eq_false ?_).symm hK
  omega
theorem AI {v:Nat} {most:Int} {K:Bool→World→Prop} (h:Hp E w F) (hv:v≤65536) (hm:(v:Int)≤most) (hK: ∀w',Hp E w' F→K true w'):
  Cl Tryz.prog [kB] gD ⟨[.agg ⟨[.int .i64 (v:Int),.int .i64 (vm v:Int)]⟩,.int .i64 most]⟩ w K:=by
 refine zJ.ok ((v:Int),(vm v:Int),()) _ _ _ ?_
 (try simp only [aH,ay,au,Nat.zero_add,Nat.add_zero,Nat.reduceAdd,Bool.not_true,Bool.not_false,aZ,aY,Option.isNone])
 (with_reducible repeat first|refine Nw.mk h fun b w h=> ?_|refine aq.mk h fun w h=> ?_|refine Ld.xb h rfl ?_|refine Ld.xt h rfl ?_|refine ae.xb (fun _ h=>h) rfl ?_|refine ae.xt (fun _ h=>h) rfl ?_|refine ⟨h.hb,?_⟩|refine ak.xw h rfl rfl fun w h=> ?_|(refine ak.xs h rfl rfl fun w h=> ?_;dsimp only [an,af] at h)|(refine St.xs h rfl rfl fun w h=> ?_;dsimp only [an,af] at h)|refine aa.yes ?_|refine aa.no ?_|refine ⟨by first|omega|decide,?_⟩)
 refine yK h hv fun w h=> ?_
 (with_reducible repeat first|refine Nw.mk h fun b w h=> ?_|refine aq.mk h fun w h=> ?_|refine Ld.xb h rfl ?_|refine Ld.xt h rfl ?_|refine ae.xb (fun _ h=>h) rfl ?_|refine ae.xt (fun _ h=>h) rfl ?_|refine ⟨h.hb,?_⟩|refine ak.xw h rfl rfl fun w h=> ?_|(refine ak.xs h rfl rfl fun w h=> ?_;dsimp only [an,af] at h)|(refine St.xs h rfl rfl fun w h=> ?_;dsimp only [an,af] at h)|refine aa.yes ?_|refine aa.no ?_|refine ⟨by first|omega|decide,?_⟩)
 exact iW (decide_eq_true hm) (hK _ h.tl)
theorem Ej {v c most:Nat} {K:T2→Bool→Bool→World→Prop} (h:Hp E w F) (hv:v≤most) (hm:most≤65536) (hc:c<256)
  (hbad:grow most v c=none→∀o d w',Hp E w' F→K o d false w')
  (hK: ∀n d,grow most v c=some (n,d)→∀k w',(d=false→k=(vm n:Int))→Hp E w' F→K ((n:Int),k,()) d true w'):
  Cl Tryz.prog [.st [.int .i64,.int .i64],kB,kB] iC ⟨[.agg ⟨[.int .i64 (v:Int),.int .i64 (vm v:Int)]⟩,.int .u8 (c:Int),.int .i64 (most:Int)]⟩ w K:=by
 refine Ao.ok ((v:Int),(vm v:Int),()) _ _ _ _ ?_
 (try simp only [aH,ay,au,Nat.zero_add,Nat.add_zero,Nat.reduceAdd,Bool.not_true,Bool.not_false,aZ,aY,Option.isNone])
 (with_reducible repeat first|refine Nw.mk h fun b w h=> ?_|refine aq.mk h fun w h=> ?_|refine Ld.xb h rfl ?_|refine Ld.xt h rfl ?_|refine ae.xb (fun _ h=>h) rfl ?_|refine ae.xt (fun _ h=>h) rfl ?_|refine ⟨h.hb,?_⟩|refine ak.xw h rfl rfl fun w h=> ?_|(refine ak.xs h rfl rfl fun w h=> ?_;dsimp only [an,af] at h)|(refine St.xs h rfl rfl fun w h=> ?_;dsimp only [an,af] at h)|refine aa.yes ?_|refine aa.no ?_|refine ⟨by first|omega|decide,?_⟩)
 refine G4 h (by omega) hc (fun hb w h=> ?_) (fun hb w h=> ?_)
 ·(with_reducible repeat first|refine Nw.mk h fun b w h=> ?_|refine aq.mk h fun w h=> ?_|refine Ld.xb h rfl ?_|refine Ld.xt h rfl ?_|refine ae.xb (fun _ h=>h) rfl ?_|refine ae.xt (fun _ h=>h) rfl ?_|refine ⟨h.hb,?_⟩|refine ak.xw h rfl rfl fun w h=> ?_|(refine ak.xs h rfl rfl fun w h=> ?_;dsimp only [an,af] at h)|(refine St.xs h rfl rfl fun w h=> ?_;dsimp only [an,af] at h)|refine aa.yes ?_|refine aa.no ?_|refine ⟨by first|omega|decide,?_⟩)
  exact hbad (by unfold grow;rw [if_pos hb]) _ _ _ h.tl
 ·(with_reducible repeat first|refine Nw.mk h fun b w h=> ?_|refine aq.mk h fun w h=> ?_|refine Ld.xb h rfl ?_|refine Ld.xt h rfl ?_|refine ae.xb (fun _ h=>h) rfl ?_|refine ae.xt (fun _ h=>h) rfl ?_|refine ⟨h.hb,?_⟩|refine ak.xw h rfl rfl fun w h=> ?_|(refine ak.xs h rfl rfl fun w h=> ?_;dsimp only [an,af] at h)|(refine St.xs h rfl rfl fun w h=> ?_;dsimp only [an,af] at h)|refine aa.yes ?_|refine aa.no ?_|refine ⟨by first|omega|decide,?_⟩)
  by_cases hc1:c<128
  ·rw [decide_eq_true hc1]
   by_cases hle:128*v+c % 128≤most
   ·(with_reducible repeat first|refine Nw.mk h fun b w h=> ?_|refine aq.mk h fun w h=> ?_|refine Ld.xb h rfl ?_|refine Ld.xt h rfl ?_|refine ae.xb (fun _ h=>h) rfl ?_|refine ae.xt (fun _ h=>h) rfl ?_|refine ⟨h.hb,?_⟩|refine ak.xw h rfl rfl fun w h=> ?_|(refine ak.xs h rfl rfl fun w h=> ?_;dsimp only [an,af] at h)|(refine St.xs h rfl rfl fun w h=> ?_;dsimp only [an,af] at h)|refine aa.yes ?_|refine aa.no ?_|refine ⟨by first|omega|decide,?_⟩)
    (try simp only [aH,ay,au,Nat.zero_add,Nat.add_zero,Nat.reduceAdd,Bool.not_true,Bool.not_false,aZ,aY,Option.isNone])
    (with_reducible repeat first|refine Nw.mk h fun b w h=> ?_|refine aq.mk h fun w h=> ?_|refine Ld.xb h rfl ?_|refine Ld.xt h rfl ?_|refine ae.xb (fun _ h=>h) rfl ?_|refine ae.xt (fun _ h=>h) rfl ?_|refine ⟨h.hb,?_⟩|refine ak.xw h rfl rfl fun w h=> ?_|(refine ak.xs h rfl rfl fun w h=> ?_;dsimp only [an,af] at h)|(refine St.xs h rfl rfl fun w h=> ?_;dsimp only [an,af] at h)|refine aa.yes ?_|refine aa.no ?_|refine ⟨by first|omega|decide,?_⟩)
    by_cases h0:0<128*v+c % 128
    ·refine iW (decide_eq_true (by omega)) (hK _ true ?_ _ _ (fun hh=>by cases hh) h.tl)
     unfold grow
     rw [if_neg hb,if_pos ⟨hle,fun _=>h0⟩,decide_eq_true hc1]
    ·refine iW (decide_eq_false (by omega)) (hbad ?_ _ _ _ h.tl)
     unfold grow
     rw [if_neg hb,if_neg (fun hh=>h0 (hh.2 hc1))]
   ·(with_reducible repeat first|refine Nw.mk h fun b w h=> ?_|refine aq.mk h fun w h=> ?_|refine Ld.xb h rfl ?_|refine Ld.xt h rfl ?_|refine ae.xb (fun _ h=>h) rfl ?_|refine ae.xt (fun _ h=>h) rfl ?_|refine ⟨h.hb,?_⟩|refine ak.xw h rfl rfl fun w h=> ?_|(refine ak.xs h rfl rfl fun w h=> ?_;dsimp only [an,af] at h)|(refine St.xs h rfl rfl fun w h=> ?_;dsimp only [an,af] at h)|refine aa.yes ?_|refine aa.no ?_|refine ⟨by first|omega|decide,?_⟩)
    refine hbad ?_ _ _ _ h.tl
    unfold grow
    rw [if_neg hb,if_neg (fun hh=>hle hh.1)]
  ·rw [decide_eq_false hc1]
   by_cases hle:128*v+c % 128≤most
   ·(with_reducible repeat first|refine Nw.mk h fun b w h=> ?_|refine aq.mk h fun w h=> ?_|refine Ld.xb h rfl ?_|refine Ld.xt h rfl ?_|refine ae.xb (fun _ h=>h) rfl ?_|refine ae.xt (fun _ h=>h) rfl ?_|refine ⟨h.hb,?_⟩|refine ak.xw h rfl rfl fun w h=> ?_|(refine ak.xs h rfl rfl fun w h=> ?_;dsimp only [an,af] at h)|(refine St.xs h rfl rfl fun w h=> ?_;dsimp only [an,af] at h)|refine aa.yes ?_|refine aa.no ?_|refine ⟨by first|omega|decide,?_⟩)
    (try simp only [aH,ay,au,Nat.zero_add,Nat.add_zero,Nat.reduceAdd,Bool.not_true,Bool.not_false,aZ,aY,Option.isNone])
    (with_reducible repeat first|refine Nw.mk h fun b w h=> ?_|refine aq.mk h fun w h=> ?_|refine Ld.xb h rfl ?_|refine Ld.xt h rfl ?_|refine ae.xb (fun _ h=>h) rfl ?_|refine ae.xt (fun _ h=>h) rfl ?_|refine ⟨h.hb,?_⟩|refine ak.xw h rfl rfl fun w h=> ?_|(refine ak.xs h rfl rfl fun w h=> ?_;dsimp only [an,af] at h)|(refine St.xs h rfl rfl fun w h=> ?_;dsimp only [an,af] at h)|refine aa.yes ?_|refine aa.no ?_|refine ⟨by first|omega|decide,?_⟩)
    refine hK _ false ?_ _ _ (fun _=>by rw [G6 (by omega) (by omega) hc hb]) h.tl
    unfold grow
    rw [if_neg hb,if_pos ⟨hle,fun hh=>absurd hh hc1⟩,decide_eq_false hc1]
   ·(with_reducible repeat first|refine Nw.mk h fun b w h=> ?_|refine aq.mk h fun w h=> ?_|refine Ld.xb h rfl ?_|refine Ld.xt h rfl ?_|refine ae.xb (fun _ h=>h) rfl ?_|refine ae.xt (fun _ h=>h) rfl ?_|refine ⟨h.hb,?_⟩|refine ak.xw h rfl rfl fun w h=> ?_|(refine ak.xs h rfl rfl fun w h=> ?_;dsimp only [an,af] at h)|(refine St.xs h rfl rfl fun w h=> ?_;dsimp only [an,af] at h)|refine aa.yes ?_|refine aa.no ?_|refine ⟨by first|omega|decide,?_⟩)
    refine hbad ?_ _ _ _ h.tl
    unfold grow
    rw [if_neg hb,if_neg (fun hh=>hle hh.1)]
end
end Go.Proofs.YtcdpblipagajiaaGreat
set_option maxRecDepth 20000
namespace Go.Proofs.YtcdpblipagajiaaGreat
open Go Go.Vc Go.Srt Go.Inc Go.Hd
section
variable {E w:World} {F:List HP}
theorem DZ {s m:Nat} {K:Bool→World→Prop} (hm:m≤3) (hs:s<256^m) (hK:K true w):Cl Tryz.prog [kB] iy ⟨[.int .u32 (s:Int),.int .i64 (m:Int)]⟩ w K:=by
 refine Aa.ok _ _ _ _ ?_
 refine ct ?_
 (with_reducible repeat first|refine Nw.mk h fun b w h=> ?_|refine aq.mk h fun w h=> ?_|refine Ld.xb h rfl ?_|refine Ld.xt h rfl ?_|refine ae.xb (fun _ h=>h) rfl ?_|refine ae.xt (fun _ h=>h) rfl ?_|refine ⟨h.hb,?_⟩|refine ak.xw h rfl rfl fun w h=> ?_|(refine ak.xs h rfl rfl fun w h=> ?_;dsimp only [an,af] at h)|(refine St.xs h rfl rfl fun w h=> ?_;dsimp only [an,af] at h)|refine aa.yes ?_|refine aa.no ?_|refine ⟨by first|omega|decide,?_⟩)
 rw [ad (by omega)]
 refine ⟨by omega,iW ?_ hK⟩
 rw [show (8*(m:Int))=((8*m:Nat):Int) by omega,lQ (by
  have:m=0∨m=1∨m=2∨m=3:=by omega
  rcases this with rfl|rfl|rfl|rfl<;>simp at hs<;>omega),bO (by have:IntKind.bits .u64=64:=rfl;omega),Nat.pow_mul,Nat.div_eq_of_lt (by simpa using hs)]
 rfl
theorem ER {n:Nat} {m:MS} {K:Bool→World→Prop} (h:Hp E w F) (hn:1≤n) (hn2:n≤65536) (hm:mu n m) (hK: ∀w',Hp E w' F→K true w'):
  Cl Tryz.prog [kB] gn ⟨[.int .i64 (n:Int),.agg ⟨[.int .i64 (m.at_:Int),.int .i64 (m.v:Int),.int .i64 (vm m.v:Int),.int .i64 (m.M:Int),.int .i64 (m.P:Int),.int .u32 (m.sum:Int),.int .i64 (m.many:Int)]⟩]⟩ w K:=by
 obtain ⟨at_,v,M,P,sum,many⟩:=m
 unfold mu at hm
 dsimp only at hm⊢
 refine rZ.ok _ ((at_:Int),(v:Int),(vm v:Int),(M:Int),(P:Int),(sum:Int),(many:Int),()) _ _ ?_
 (try simp only [aH,ay,au,Nat.zero_add,Nat.add_zero,Nat.reduceAdd,Bool.not_true,Bool.not_false,aZ,aY,Option.isNone])
 (with_reducible repeat first|refine Nw.mk h fun b w h=> ?_|refine aq.mk h fun w h=> ?_|refine Ld.xb h rfl ?_|refine Ld.xt h rfl ?_|refine ae.xb (fun _ h=>h) rfl ?_|refine ae.xt (fun _ h=>h) rfl ?_|refine ⟨h.hb,?_⟩|refine ak.xw h rfl rfl fun w h=> ?_|(refine ak.xs h rfl rfl fun w h=> ?_;dsimp only [an,af] at h)|(refine St.xs h rfl rfl fun w h=> ?_;dsimp only [an,af] at h)|refine aa.yes ?_|refine aa.no ?_|refine ⟨by first|omega|decide,?_⟩)
 refine ct ?_
 rcases hm with ⟨h1,h2⟩|⟨h1,h2,h3,h4,h5,h6⟩|⟨h1,h2,h3,h4,h5,h6,h7⟩|⟨h1,h2,h3,h4,h5,h6,h7,h8⟩|⟨h1,h2,h3,h4,h5,h6⟩
 ·cases h2
  (with_reducible repeat first|refine Nw.mk h fun b w h=> ?_|refine aq.mk h fun w h=> ?_|refine Ld.xb h rfl ?_|refine Ld.xt h rfl ?_|refine ae.xb (fun _ h=>h) rfl ?_|refine ae.xt (fun _ h=>h) rfl ?_|refine ⟨h.hb,?_⟩|refine ak.xw h rfl rfl fun w h=> ?_|(refine ak.xs h rfl rfl fun w h=> ?_;dsimp only [an,af] at h)|(refine St.xs h rfl rfl fun w h=> ?_;dsimp only [an,af] at h)|refine aa.yes ?_|refine aa.no ?_|refine ⟨by first|omega|decide,?_⟩)
  refine ct ?_
  (with_reducible repeat first|refine Nw.mk h fun b w h=> ?_|refine aq.mk h fun w h=> ?_|refine Ld.xb h rfl ?_|refine Ld.xt h rfl ?_|refine ae.xb (fun _ h=>h) rfl ?_|refine ae.xt (fun _ h=>h) rfl ?_|refine ⟨h.hb,?_⟩|refine ak.xw h rfl rfl fun w h=> ?_|(refine ak.xs h rfl rfl fun w h=> ?_;dsimp only [an,af] at h)|(refine St.xs h rfl rfl fun w h=> ?_;dsimp only [an,af] at h)|refine aa.yes ?_|refine aa.no ?_|refine ⟨by first|omega|decide,?_⟩)
  exact hK _ h.tl
 ·subst h1 h3 h4 h5 h6
  (with_reducible repeat first|refine Nw.mk h fun b w h=> ?_|refine aq.mk h fun w h=> ?_|refine Ld.xb h rfl ?_|refine Ld.xt h rfl ?_|refine ae.xb (fun _ h=>h) rfl ?_|refine ae.xt (fun _ h=>h) rfl ?_|refine ⟨h.hb,?_⟩|refine ak.xw h rfl rfl fun w h=> ?_|(refine ak.xs h rfl rfl fun w h=> ?_;dsimp only [an,af] at h)|(refine St.xs h rfl rfl fun w h=> ?_;dsimp only [an,af] at h)|refine aa.yes ?_|refine aa.no ?_|refine ⟨by first|omega|decide,?_⟩)
  refine ct ?_
  (with_reducible repeat first|refine Nw.mk h fun b w h=> ?_|refine aq.mk h fun w h=> ?_|refine Ld.xb h rfl ?_|refine Ld.xt h rfl ?_|refine ae.xb (fun _ h=>h) rfl ?_|refine ae.xt (fun _ h=>h) rfl ?_|refine ⟨h.hb,?_⟩|refine ak.xw h rfl rfl fun w h=> ?_|(refine ak.xs h rfl rfl fun w h=> ?_;dsimp only [an,af] at h)|(refine St.xs h rfl rfl fun w h=> ?_;dsimp only [an,af] at h)|refine aa.yes ?_|refine aa.no ?_|refine ⟨by first|omega|decide,?_⟩)
  refine AI h (by omega) (by omega) fun w h=> ?_
  (with_reducible repeat first|refine Nw.mk h fun b w h=> ?_|refine aq.mk h fun w h=> ?_|refine Ld.xb h rfl ?_|refine Ld.xt h rfl ?_|refine ae.xb (fun _ h=>h) rfl ?_|refine ae.xt (fun _ h=>h) rfl ?_|refine ⟨h.hb,?_⟩|refine ak.xw h rfl rfl fun w h=> ?_|(refine ak.xs h rfl rfl fun w h=> ?_;dsimp only [an,af] at h)|(refine St.xs h rfl rfl fun w h=> ?_;dsimp only [an,af] at h)|refine aa.yes ?_|refine aa.no ?_|refine ⟨by first|omega|decide,?_⟩)
  refine iW ?_ (hK _ h.tl)
  simp
 ·subst h1 h5 h6 h7
  (with_reducible repeat first|refine Nw.mk h fun b w h=> ?_|refine aq.mk h fun w h=> ?_|refine Ld.xb h rfl ?_|refine Ld.xt h rfl ?_|refine ae.xb (fun _ h=>h) rfl ?_|refine ae.xt (fun _ h=>h) rfl ?_|refine ⟨h.hb,?_⟩|refine ak.xw h rfl rfl fun w h=> ?_|(refine ak.xs h rfl rfl fun w h=> ?_;dsimp only [an,af] at h)|(refine St.xs h rfl rfl fun w h=> ?_;dsimp only [an,af] at h)|refine aa.yes ?_|refine aa.no ?_|refine ⟨by first|omega|decide,?_⟩)
  refine ct ?_
  (with_reducible repeat first|refine Nw.mk h fun b w h=> ?_|refine aq.mk h fun w h=> ?_|refine Ld.xb h rfl ?_|refine Ld.xt h rfl ?_|refine ae.xb (fun _ h=>h) rfl ?_|refine ae.xt (fun _ h=>h) rfl ?_|refine ⟨h.hb,?_⟩|refine ak.xw h rfl rfl fun w h=> ?_|(refine ak.xs h rfl rfl fun w h=> ?_;dsimp only [an,af] at h)|(refine St.xs h rfl rfl fun w h=> ?_;dsimp only [an,af] at h)|refine aa.yes ?_|refine aa.no ?_|refine ⟨by first|omega|decide,?_⟩)
  refine ct ?_
  (with_reducible repeat first|refine Nw.mk h fun b w h=> ?_|refine aq.mk h fun w h=> ?_|refine Ld.xb h rfl ?_|refine Ld.xt h rfl ?_|refine ae.xb (fun _ h=>h) rfl ?_|refine ae.xt (fun _ h=>h) rfl ?_|refine ⟨h.hb,?_⟩|refine ak.xw h rfl rfl fun w h=> ?_|(refine ak.xs h rfl rfl fun w h=> ?_;dsimp only [an,af] at h)|(refine St.xs h rfl rfl fun w h=> ?_;dsimp only [an,af] at h)|refine aa.yes ?_|refine aa.no ?_|refine ⟨by first|omega|decide,?_⟩)
  refine ct ?_
  (with_reducible repeat first|refine Nw.mk h fun b w h=> ?_|refine aq.mk h fun w h=> ?_|refine Ld.xb h rfl ?_|refine Ld.xt h rfl ?_|refine ae.xb (fun _ h=>h) rfl ?_|refine ae.xt (fun _ h=>h) rfl ?_|refine ⟨h.hb,?_⟩|refine ak.xw h rfl rfl fun w h=> ?_|(refine ak.xs h rfl rfl fun w h=> ?_;dsimp only [an,af] at h)|(refine St.xs h rfl rfl fun w h=> ?_;dsimp only [an,af] at h)|refine aa.yes ?_|refine aa.no ?_|refine ⟨by first|omega|decide,?_⟩)
  refine AI h (by omega) (by omega) fun w h=> ?_
  (with_reducible repeat first|refine Nw.mk h fun b w h=> ?_|refine aq.mk h fun w h=> ?_|refine Ld.xb h rfl ?_|refine Ld.xt h rfl ?_|refine ae.xb (fun _ h=>h) rfl ?_|refine ae.xt (fun _ h=>h) rfl ?_|refine ⟨h.hb,?_⟩|refine ak.xw h rfl rfl fun w h=> ?_|(refine ak.xs h rfl rfl fun w h=> ?_;dsimp only [an,af] at h)|(refine St.xs h rfl rfl fun w h=> ?_;dsimp only [an,af] at h)|refine aa.yes ?_|refine aa.no ?_|refine ⟨by first|omega|decide,?_⟩)
  refine iW ?_ (hK _ h.tl)
  simp
 ·subst h1 h6
  (with_reducible repeat first|refine Nw.mk h fun b w h=> ?_|refine aq.mk h fun w h=> ?_|refine Ld.xb h rfl ?_|refine Ld.xt h rfl ?_|refine ae.xb (fun _ h=>h) rfl ?_|refine ae.xt (fun _ h=>h) rfl ?_|refine ⟨h.hb,?_⟩|refine ak.xw h rfl rfl fun w h=> ?_|(refine ak.xs h rfl rfl fun w h=> ?_;dsimp only [an,af] at h)|(refine St.xs h rfl rfl fun w h=> ?_;dsimp only [an,af] at h)|refine aa.yes ?_|refine aa.no ?_|refine ⟨by first|omega|decide,?_⟩)
  refine ct ?_
  rw [decide_eq_true (show 1≤(P:Int)∧(P:Int)≤(M:Int) by omega)]
  refine ct ?_
  (with_reducible repeat first|refine Nw.mk h fun b w h=> ?_|refine aq.mk h fun w h=> ?_|refine Ld.xb h rfl ?_|refine Ld.xt h rfl ?_|refine ae.xb (fun _ h=>h) rfl ?_|refine ae.xt (fun _ h=>h) rfl ?_|refine ⟨h.hb,?_⟩|refine ak.xw h rfl rfl fun w h=> ?_|(refine ak.xs h rfl rfl fun w h=> ?_;dsimp only [an,af] at h)|(refine St.xs h rfl rfl fun w h=> ?_;dsimp only [an,af] at h)|refine aa.yes ?_|refine aa.no ?_|refine ⟨by first|omega|decide,?_⟩)
  refine DZ h7 h8 ?_
  (with_reducible repeat first|refine Nw.mk h fun b w h=> ?_|refine aq.mk h fun w h=> ?_|refine Ld.xb h rfl ?_|refine Ld.xt h rfl ?_|refine ae.xb (fun _ h=>h) rfl ?_|refine ae.xt (fun _ h=>h) rfl ?_|refine ⟨h.hb,?_⟩|refine ak.xw h rfl rfl fun w h=> ?_|(refine ak.xs h rfl rfl fun w h=> ?_;dsimp only [an,af] at h)|(refine St.xs h rfl rfl fun w h=> ?_;dsimp only [an,af] at h)|refine aa.yes ?_|refine aa.no ?_|refine ⟨by first|omega|decide,?_⟩)
  exact hK _ h.tl
 ·subst h1 h2 h3 h4
  (with_reducible repeat first|refine Nw.mk h fun b w h=> ?_|refine aq.mk h fun w h=> ?_|refine Ld.xb h rfl ?_|refine Ld.xt h rfl ?_|refine ae.xb (fun _ h=>h) rfl ?_|refine ae.xt (fun _ h=>h) rfl ?_|refine ⟨h.hb,?_⟩|refine ak.xw h rfl rfl fun w h=> ?_|(refine ak.xs h rfl rfl fun w h=> ?_;dsimp only [an,af] at h)|(refine St.xs h rfl rfl fun w h=> ?_;dsimp only [an,af] at h)|refine aa.yes ?_|refine aa.no ?_|refine ⟨by first|omega|decide,?_⟩)
  refine ct ?_
  (with_reducible repeat first|refine Nw.mk h fun b w h=> ?_|refine aq.mk h fun w h=> ?_|refine Ld.xb h rfl ?_|refine Ld.xt h rfl ?_|refine ae.xb (fun _ h=>h) rfl ?_|refine ae.xt (fun _ h=>h) rfl ?_|refine ⟨h.hb,?_⟩|refine ak.xw h rfl rfl fun w h=> ?_|(refine ak.xs h rfl rfl fun w h=> ?_;dsimp only [an,af] at h)|(refine St.xs h rfl rfl fun w h=> ?_;dsimp only [an,af] at h)|refine aa.yes ?_|refine aa.no ?_|refine ⟨by first|omega|decide,?_⟩)
  refine DZ h5 h6 ?_
  (with_reducible repeat first|refine Nw.mk h fun b w h=> ?_|refine aq.mk h fun w h=> ?_|refine Ld.xb h rfl ?_|refine Ld.xt h rfl ?_|refine ae.xb (fun _ h=>h) rfl ?_|refine ae.xt (fun _ h=>h) rfl ?_|refine ⟨h.hb,?_⟩|refine ak.xw h rfl rfl fun w h=> ?_|(refine ak.xs h rfl rfl fun w h=> ?_;dsimp only [an,af] at h)|(refine St.xs h rfl rfl fun w h=> ?_;dsimp only [an,af] at h)|refine aa.yes ?_|refine aa.no ?_|refine ⟨by first|omega|decide,?_⟩)
  refine iW ?_ (hK _ h.tl)
  simp [vm]
end
end Go.Proofs.YtcdpblipagajiaaGreat
namespace Go.Vc
open Go
section
variable {P:Program} {α β:Type} [DecidableEq α] {ke:α→Value} {ve:β→Value} {kt vt t:TypeId} {E w:World} {F:List HP} {m:Option Nat} {l:List (α×β)}
theorem ka.fn {t:Fn} {a b:Array Value} {K:Bool→Prop} (h:K false):ka (.func t a b) K:=h
theorem aA.found (hk:ng P kt ke) (hu:P.underlying t=some (.map kt vt)) {a:α} {q:Nat×β} {z:Value} {k:Ki} {x:k.T} {K:k.T→World→Prop} (hz: ∀w,(zeroValue vt).run P w= .ok z w) (h:Hp E w (jG ke ve m l::F)) (hf:findAt a l 0=some q) (hx:ve q.2=k.enc x) (hK:K x w):
  aA P (Instr.lookup t (.map m) (ke a) false) k w K:=by
 unfold aA
 rw [rv hk hu hz h,hf]
 dsimp only
 rw [hx]
 exact Ki.lq.2 hK
end
end Go.Vc
namespace Go.Proofs.YtcdpblipagajiaaGreat
open Go Go.Vc Go.Srt Go.Inc Go.Hd
abbrev kb:=Int×Int×Int×Int×Int×Int×Int×Unit
section
variable {E w:World} {F:List HP}
def Ee (n:Nat) (m:MS) (c:Nat) (E:World) (F:List HP) (K:kb→Bool→World→Prop):Prop:=
 (∀m' w',aU n m c= .more m'→m'.at_≠4→m'.at_≠6→Hp E w' F→K (IC m') true w')∧
 (∀M P u w',aU n m c= .fin (.aD M P u)→Hp E w' F→K (4,0,0,(M:Int),(P:Int),(u:Int),4,()) true w')∧
 (∀u w',aU n m c= .fin (.tail u)→Hp E w' F→K (6,0,0,0,0,(u:Int),4,()) true w')∧
 (∀e o w',aU n m c= .bad e→e=242→Hp E w' F→K o false w')
theorem IT {n:Nat} {c:Nat} {K:kb→Bool→World→Prop} (h:Hp E w F) (hc:c<256) (hK:Ee n mK c E F K):
  Cl Tryz.prog [.st [.int .i64,.int .i64,.int .i64,.int .i64,.int .i64,.int .u32,.int .i64],kB] dc ⟨[.int .i64 (n:Int),.agg ⟨[.int .i64 0,.int .i64 0,.int .i64 0,.int .i64 0,.int .i64 0,.int .u32 0,.int .i64 0]⟩,.int .u8 (c:Int)]⟩ w K:=by
 obtain ⟨k1,_,_,k4⟩:=hK
 refine Ak.ok _ (0,0,0,0,0,0,0,()) _ _ _ ?_
 (try simp only [aH,ay,au,Nat.zero_add,Nat.add_zero,Nat.reduceAdd,Bool.not_true,Bool.not_false,aZ,aY,Option.isNone])
 (with_reducible repeat first|refine Nw.mk h fun b w h=> ?_|refine aq.mk h fun w h=> ?_|refine Ld.xb h rfl ?_|refine Ld.xt h rfl ?_|refine ae.xb (fun _ h=>h) rfl ?_|refine ae.xt (fun _ h=>h) rfl ?_|refine ⟨h.hb,?_⟩|refine ak.xw h rfl rfl fun w h=> ?_|(refine ak.xs h rfl rfl fun w h=> ?_;dsimp only [an,af] at h)|(refine St.xs h rfl rfl fun w h=> ?_;dsimp only [an,af] at h)|refine aa.yes ?_|refine aa.no ?_|refine ⟨by first|omega|decide,?_⟩)
 by_cases h0:c=0
 ·subst h0
  (with_reducible repeat first|refine Nw.mk h fun b w h=> ?_|refine aq.mk h fun w h=> ?_|refine Ld.xb h rfl ?_|refine Ld.xt h rfl ?_|refine ae.xb (fun _ h=>h) rfl ?_|refine ae.xt (fun _ h=>h) rfl ?_|refine ⟨h.hb,?_⟩|refine ak.xw h rfl rfl fun w h=> ?_|(refine ak.xs h rfl rfl fun w h=> ?_;dsimp only [an,af] at h)|(refine St.xs h rfl rfl fun w h=> ?_;dsimp only [an,af] at h)|refine aa.yes ?_|refine aa.no ?_|refine ⟨by first|omega|decide,?_⟩)
  exact k1 ⟨5,0,0,0,0,0⟩ _ rfl (by dsimp only;decide) (by dsimp only;decide) h.tl
 ·(with_reducible repeat first|refine Nw.mk h fun b w h=> ?_|refine aq.mk h fun w h=> ?_|refine Ld.xb h rfl ?_|refine Ld.xt h rfl ?_|refine ae.xb (fun _ h=>h) rfl ?_|refine ae.xt (fun _ h=>h) rfl ?_|refine ⟨h.hb,?_⟩|refine ak.xw h rfl rfl fun w h=> ?_|(refine ak.xs h rfl rfl fun w h=> ?_;dsimp only [an,af] at h)|(refine St.xs h rfl rfl fun w h=> ?_;dsimp only [an,af] at h)|refine aa.yes ?_|refine aa.no ?_|refine ⟨by first|omega|decide,?_⟩)
  by_cases h1:c=1
  ·subst h1
   exact k1 ⟨1,0,0,0,0,0⟩ _ rfl (by dsimp only;decide) (by dsimp only;decide) h.tl
  ·refine iW (decide_eq_false (by omega)) (k4 242 _ _ ?_ rfl h.tl)
   unfold aU mK
   simp [h0,h1]
theorem Ic {n v:Nat} {c:Nat} {K:kb→Bool→World→Prop} (h:Hp E w F) (hn:n≤65536) (hv:v≤n) (hc:c<256) (hK:Ee n ⟨1,v,0,0,0,0⟩ c E F K):
  Cl Tryz.prog [.st [.int .i64,.int .i64,.int .i64,.int .i64,.int .i64,.int .u32,.int .i64],kB] dh ⟨[.int .i64 (n:Int),.agg ⟨[.int .i64 1,.int .i64 (v:Int),.int .i64 (vm v:Int),.int .i64 0,.int .i64 0,.int .u32 0,.int .i64 0]⟩,.int .u8 (c:Int)]⟩ w K:=by
 obtain ⟨k1,_,_,k4⟩:=hK
 refine Ae.ok _ (1,(v:Int),(vm v:Int),0,0,0,0,()) _ _ _ ?_
 (try simp only [aH,ay,au,Nat.zero_add,Nat.add_zero,Nat.reduceAdd,Bool.not_true,Bool.not_false,aZ,aY,Option.isNone])
 (with_reducible repeat first|refine Nw.mk h fun b w h=> ?_|refine aq.mk h fun w h=> ?_|refine Ld.xb h rfl ?_|refine Ld.xt h rfl ?_|refine ae.xb (fun _ h=>h) rfl ?_|refine ae.xt (fun _ h=>h) rfl ?_|refine ⟨h.hb,?_⟩|refine ak.xw h rfl rfl fun w h=> ?_|(refine ak.xs h rfl rfl fun w h=> ?_;dsimp only [an,af] at h)|(refine St.xs h rfl rfl fun w h=> ?_;dsimp only [an,af] at h)|refine aa.yes ?_|refine aa.no ?_|refine ⟨by first|omega|decide,?_⟩)
 refine Ej h hv hn hc (fun hg o d w h=> ?_) (fun m d hg k w hk h=> ?_)
 ·(with_reducible repeat first|refine Nw.mk h fun b w h=> ?_|refine aq.mk h fun w h=> ?_|refine Ld.xb h rfl ?_|refine Ld.xt h rfl ?_|refine ae.xb (fun _ h=>h) rfl ?_|refine ae.xt (fun _ h=>h) rfl ?_|refine ⟨h.hb,?_⟩|refine ak.xw h rfl rfl fun w h=> ?_|(refine ak.xs h rfl rfl fun w h=> ?_;dsimp only [an,af] at h)|(refine St.xs h rfl rfl fun w h=> ?_;dsimp only [an,af] at h)|refine aa.yes ?_|refine aa.no ?_|refine ⟨by first|omega|decide,?_⟩)
  cases d
  ·(with_reducible repeat first|refine Nw.mk h fun b w h=> ?_|refine aq.mk h fun w h=> ?_|refine Ld.xb h rfl ?_|refine Ld.xt h rfl ?_|refine ae.xb (fun _ h=>h) rfl ?_|refine ae.xt (fun _ h=>h) rfl ?_|refine ⟨h.hb,?_⟩|refine ak.xw h rfl rfl fun w h=> ?_|(refine ak.xs h rfl rfl fun w h=> ?_;dsimp only [an,af] at h)|(refine St.xs h rfl rfl fun w h=> ?_;dsimp only [an,af] at h)|refine aa.yes ?_|refine aa.no ?_|refine ⟨by first|omega|decide,?_⟩)
   exact k4 242 _ _ (by unfold aU;simp [hg]) rfl h.tl
  ·(with_reducible repeat first|refine Nw.mk h fun b w h=> ?_|refine aq.mk h fun w h=> ?_|refine Ld.xb h rfl ?_|refine Ld.xt h rfl ?_|refine ae.xb (fun _ h=>h) rfl ?_|refine ae.xt (fun _ h=>h) rfl ?_|refine ⟨h.hb,?_⟩|refine ak.xw h rfl rfl fun w h=> ?_|(refine ak.xs h rfl rfl fun w h=> ?_;dsimp only [an,af] at h)|(refine St.xs h rfl rfl fun w h=> ?_;dsimp only [an,af] at h)|refine aa.yes ?_|refine aa.no ?_|refine ⟨by first|omega|decide,?_⟩)
   exact k4 242 _ _ (by unfold aU;simp [hg]) rfl h.tl
 ·cases d
  ·have:=hk rfl
   subst this
   (with_reducible repeat first|refine Nw.mk h fun b w h=> ?_|refine aq.mk h fun w h=> ?_|refine Ld.xb h rfl ?_|refine Ld.xt h rfl ?_|refine ae.xb (fun _ h=>h) rfl ?_|refine ae.xt (fun _ h=>h) rfl ?_|refine ⟨h.hb,?_⟩|refine ak.xw h rfl rfl fun w h=> ?_|(refine ak.xs h rfl rfl fun w h=> ?_;dsimp only [an,af] at h)|(refine St.xs h rfl rfl fun w h=> ?_;dsimp only [an,af] at h)|refine aa.yes ?_|refine aa.no ?_|refine ⟨by first|omega|decide,?_⟩)
   exact k1 ⟨1,m,0,0,0,0⟩ _ (by unfold aU;simp [hg]) (by dsimp only;decide) (by dsimp only;decide) h.tl
  ·(with_reducible repeat first|refine Nw.mk h fun b w h=> ?_|refine aq.mk h fun w h=> ?_|refine Ld.xb h rfl ?_|refine Ld.xt h rfl ?_|refine ae.xb (fun _ h=>h) rfl ?_|refine ae.xt (fun _ h=>h) rfl ?_|refine ⟨h.hb,?_⟩|refine ak.xw h rfl rfl fun w h=> ?_|(refine ak.xs h rfl rfl fun w h=> ?_;dsimp only [an,af] at h)|(refine St.xs h rfl rfl fun w h=> ?_;dsimp only [an,af] at h)|refine aa.yes ?_|refine aa.no ?_|refine ⟨by first|omega|decide,?_⟩)
   exact k1 ⟨2,0,m,0,0,0⟩ _ (by unfold aU;simp [hg]) (by dsimp only;decide) (by dsimp only;decide) h.tl
theorem HD {n v M:Nat} {c:Nat} {K:kb→Bool→World→Prop} (h:Hp E w F) (hn:M≤65536) (hv:v≤M) (hc:c<256) (hK:Ee n ⟨2,v,M,0,0,0⟩ c E F K):
  Cl Tryz.prog [.st [.int .i64,.int .i64,.int .i64,.int .i64,.int .i64,.int .u32,.int .i64],kB] cH ⟨[.int .i64 (n:Int),.agg ⟨[.int .i64 2,.int .i64 (v:Int),.int .i64 (vm v:Int),.int .i64 (M:Int),.int .i64 0,.int .u32 0,.int .i64 0]⟩,.int .u8 (c:Int)]⟩ w K:=by
 obtain ⟨k1,_,_,k4⟩:=hK
 refine xJ.ok _ (2,(v:Int),(vm v:Int),(M:Int),0,0,0,()) _ _ _ ?_
 (try simp only [aH,ay,au,Nat.zero_add,Nat.add_zero,Nat.reduceAdd,Bool.not_true,Bool.not_false,aZ,aY,Option.isNone])
 (with_reducible repeat first|refine Nw.mk h fun b w h=> ?_|refine aq.mk h fun w h=> ?_|refine Ld.xb h rfl ?_|refine Ld.xt h rfl ?_|refine ae.xb (fun _ h=>h) rfl ?_|refine ae.xt (fun _ h=>h) rfl ?_|refine ⟨h.hb,?_⟩|refine ak.xw h rfl rfl fun w h=> ?_|(refine ak.xs h rfl rfl fun w h=> ?_;dsimp only [an,af] at h)|(refine St.xs h rfl rfl fun w h=> ?_;dsimp only [an,af] at h)|refine aa.yes ?_|refine aa.no ?_|refine ⟨by first|omega|decide,?_⟩)
 refine Ej h hv hn hc (fun hg o d w h=> ?_) (fun m d hg k w hk h=> ?_)
 ·(with_reducible repeat first|refine Nw.mk h fun b w h=> ?_|refine aq.mk h fun w h=> ?_|refine Ld.xb h rfl ?_|refine Ld.xt h rfl ?_|refine ae.xb (fun _ h=>h) rfl ?_|refine ae.xt (fun _ h=>h) rfl ?_|refine ⟨h.hb,?_⟩|refine ak.xw h rfl rfl fun w h=> ?_|(refine ak.xs h rfl rfl fun w h=> ?_;dsimp only [an,af] at h)|(refine St.xs h rfl rfl fun w h=> ?_;dsimp only [an,af] at h)|refine aa.yes ?_|refine aa.no ?_|refine ⟨by first|omega|decide,?_⟩)
  cases d
  ·(with_reducible repeat first|refine Nw.mk h fun b w h=> ?_|refine aq.mk h fun w h=> ?_|refine Ld.xb h rfl ?_|refine Ld.xt h rfl ?_|refine ae.xb (fun _ h=>h) rfl ?_|refine ae.xt (fun _ h=>h) rfl ?_|refine ⟨h.hb,?_⟩|refine ak.xw h rfl rfl fun w h=> ?_|(refine ak.xs h rfl rfl fun w h=> ?_;dsimp only [an,af] at h)|(refine St.xs h rfl rfl fun w h=> ?_;dsimp only [an,af] at h)|refine aa.yes ?_|refine aa.no ?_|refine ⟨by first|omega|decide,?_⟩)
   exact k4 242 _ _ (by unfold aU;simp [hg]) rfl h.tl
  ·(with_reducible repeat first|refine Nw.mk h fun b w h=> ?_|refine aq.mk h fun w h=> ?_|refine Ld.xb h rfl ?_|refine Ld.xt h rfl ?_|refine ae.xb (fun _ h=>h) rfl ?_|refine ae.xt (fun _ h=>h) rfl ?_|refine ⟨h.hb,?_⟩|refine ak.xw h rfl rfl fun w h=> ?_|(refine ak.xs h rfl rfl fun w h=> ?_;dsimp only [an,af] at h)|(refine St.xs h rfl rfl fun w h=> ?_;dsimp only [an,af] at h)|refine aa.yes ?_|refine aa.no ?_|refine ⟨by first|omega|decide,?_⟩)
   exact k4 242 _ _ (by unfold aU;simp [hg]) rfl h.tl
 ·cases d
  ·have:=hk rfl
   subst this
   (with_reducible repeat first|refine Nw.mk h fun b w h=> ?_|refine aq.mk h fun w h=> ?_|refine Ld.xb h rfl ?_|refine Ld.xt h rfl ?_|refine ae.xb (fun _ h=>h) rfl ?_|refine ae.xt (fun _ h=>h) rfl ?_|refine ⟨h.hb,?_⟩|refine ak.xw h rfl rfl fun w h=> ?_|(refine ak.xs h rfl rfl fun w h=> ?_;dsimp only [an,af] at h)|(refine St.xs h rfl rfl fun w h=> ?_;dsimp only [an,af] at h)|refine aa.yes ?_|refine aa.no ?_|refine ⟨by first|omega|decide,?_⟩)
   exact k1 ⟨2,m,M,0,0,0⟩ _ (by unfold aU;simp [hg]) (by dsimp only;decide) (by dsimp only;decide) h.tl
  ·(with_reducible repeat first|refine Nw.mk h fun b w h=> ?_|refine aq.mk h fun w h=> ?_|refine Ld.xb h rfl ?_|refine Ld.xt h rfl ?_|refine ae.xb (fun _ h=>h) rfl ?_|refine ae.xt (fun _ h=>h) rfl ?_|refine ⟨h.hb,?_⟩|refine ak.xw h rfl rfl fun w h=> ?_|(refine ak.xs h rfl rfl fun w h=> ?_;dsimp only [an,af] at h)|(refine St.xs h rfl rfl fun w h=> ?_;dsimp only [an,af] at h)|refine aa.yes ?_|refine aa.no ?_|refine ⟨by first|omega|decide,?_⟩)
   exact k1 ⟨3,0,M,m,0,0⟩ _ (by unfold aU;simp [hg]) (by dsimp only;decide) (by dsimp only;decide) h.tl
theorem GG {n a M P sum many:Nat} {c:Nat} {K:kb→Bool→World→Prop} (h:Hp E w F) (ha:a=3∨(a=5∧M=0∧P=0)) (hm:many≤3) (hs:sum<256^many) (hc:c<256) (hK:Ee n ⟨a,0,M,P,sum,many⟩ c E F K):
  Cl Tryz.prog [.st [.int .i64,.int .i64,.int .i64,.int .i64,.int .i64,.int .u32,.int .i64],kB] bG ⟨[.int .i64 (n:Int),.agg ⟨[.int .i64 (a:Int),.int .i64 0,.int .i64 0,.int .i64 (M:Int),.int .i64 (P:Int),.int .u32 (sum:Int),.int .i64 (many:Int)]⟩,.int .u8 (c:Int)]⟩ w K:=by
 obtain ⟨k1,k2,k3,k4⟩:=hK
 have hs2:sum<16777216:=by
  have:256^many≤256^3:=Nat.pow_le_pow_right (by decide) hm
  omega
 refine Ce.ok _ ((a:Int),0,0,(M:Int),(P:Int),(sum:Int),(many:Int),()) _ _ _ ?_
 (try simp only [aH,ay,au,Nat.zero_add,Nat.add_zero,Nat.reduceAdd,Bool.not_true,Bool.not_false,aZ,aY,Option.isNone])
 (with_reducible repeat first|refine Nw.mk h fun b w h=> ?_|refine aq.mk h fun w h=> ?_|refine Ld.xb h rfl ?_|refine Ld.xt h rfl ?_|refine ae.xb (fun _ h=>h) rfl ?_|refine ae.xt (fun _ h=>h) rfl ?_|refine ⟨h.hb,?_⟩|refine ak.xw h rfl rfl fun w h=> ?_|(refine ak.xs h rfl rfl fun w h=> ?_;dsimp only [an,af] at h)|(refine St.xs h rfl rfl fun w h=> ?_;dsimp only [an,af] at h)|refine aa.yes ?_|refine aa.no ?_|refine ⟨by first|omega|decide,?_⟩)
 rw [ad (x:=(many:Int)+1) (by omega)] at h⊢
 rw [Js hs2 hc] at h
 by_cases hm3:many=3
 ·subst hm3
  (with_reducible repeat first|refine Nw.mk h fun b w h=> ?_|refine aq.mk h fun w h=> ?_|refine Ld.xb h rfl ?_|refine Ld.xt h rfl ?_|refine ae.xb (fun _ h=>h) rfl ?_|refine ae.xt (fun _ h=>h) rfl ?_|refine ⟨h.hb,?_⟩|refine ak.xw h rfl rfl fun w h=> ?_|(refine ak.xs h rfl rfl fun w h=> ?_;dsimp only [an,af] at h)|(refine St.xs h rfl rfl fun w h=> ?_;dsimp only [an,af] at h)|refine aa.yes ?_|refine aa.no ?_|refine ⟨by first|omega|decide,?_⟩)
  rw [ad (by omega)] at h⊢
  rcases ha with rfl|⟨rfl,rfl,rfl⟩
  ·exact k2 M P (256*sum+c) _ (by unfold aU;simp) h.tl
  ·exact k3 (256*sum+c) _ (by unfold aU;simp) h.tl
 ·(with_reducible repeat first|refine Nw.mk h fun b w h=> ?_|refine aq.mk h fun w h=> ?_|refine Ld.xb h rfl ?_|refine Ld.xt h rfl ?_|refine ae.xb (fun _ h=>h) rfl ?_|refine ae.xt (fun _ h=>h) rfl ?_|refine ⟨h.hb,?_⟩|refine ak.xw h rfl rfl fun w h=> ?_|(refine ak.xs h rfl rfl fun w h=> ?_;dsimp only [an,af] at h)|(refine St.xs h rfl rfl fun w h=> ?_;dsimp only [an,af] at h)|refine aa.yes ?_|refine aa.no ?_|refine ⟨by first|omega|decide,?_⟩)
  refine k1 ⟨a,0,M,P,256*sum+c,many+1⟩ _ ?_ ?_ ?_ h.tl
  ·unfold aU
   rcases ha with rfl|⟨rfl,rfl,rfl⟩<;>simp [hm3]
  ·dsimp only;omega
  ·dsimp only;omega
theorem q7:Tryz.prog.underlying 202=some (.map 3 203):=by kernel_rfl
theorem DA (w:World):(zeroValue 203).run Tryz.prog w= .ok .nilFunc w:=by kernel_rfl
set_option maxRecDepth 20000
abbrev fv (i:Nat):Value:= .func (.func i) ⟨[]⟩ ⟨[]⟩
theorem Hb {n:Nat} {m:MS} {c:Nat} {K:kb→Bool→Int→World→Prop} (h:Hp E w F) (hn:1≤n) (hn2:n≤65536) (hm:mu n m) (hc:c<256)
  (hmore: ∀m' w',aU n m c= .more m'→Hp E w' F→K (IC m') false 0 w')
  (hblk: ∀M P u w',aU n m c= .fin (.aD M P u)→Hp E w' F→K (4,0,0,(M:Int),(P:Int),(u:Int),4,()) true 0 w')
  (htail: ∀u w',aU n m c= .fin (.tail u)→Hp E w' F→K (6,0,0,0,0,(u:Int),4,()) true 0 w')
  (hbad: ∀e o w',aU n m c= .bad e→Hp E w' F→K o false (e:Int) w'):
  Cl Tryz.prog [.st [.int .i64,.int .i64,.int .i64,.int .i64,.int .i64,.int .u32,.int .i64],kB,kI] eJ ⟨[.int .i64 (n:Int),.agg ⟨[.int .i64 (m.at_:Int),.int .i64 (m.v:Int),.int .i64 (vm m.v:Int),.int .i64 (m.M:Int),.int .i64 (m.P:Int),.int .u32 (m.sum:Int),.int .i64 (m.many:Int)]⟩,.int .u8 (c:Int)]⟩ w K:=by
 have main: ∀(q:Nat) (i:Nat),findAt (m.at_:Int) [((0:Int),fv dc),(1,fv dh),(2,fv cH),(3,fv bG),(5,fv bG)] 0=some (q,fv i)→kj Tryz.prog i=true→
   (∀(F':List HP) (w:World) (K':kb→Bool→World→Prop),Hp E w F'→Ee n m c E F' K'→Cl Tryz.prog [.st [.int .i64,.int .i64,.int .i64,.int .i64,.int .i64,.int .u32,.int .i64],kB] i ⟨[.int .i64 (n:Int),.agg ⟨[.int .i64 (m.at_:Int),.int .i64 (m.v:Int),.int .i64 (vm m.v:Int),.int .i64 (m.M:Int),.int .i64 (m.P:Int),.int .u32 (m.sum:Int),.int .i64 (m.many:Int)]⟩,.int .u8 (c:Int)]⟩ w K')→
   Cl Tryz.prog [.st [.int .i64,.int .i64,.int .i64,.int .i64,.int .i64,.int .u32,.int .i64],kB,kI] eJ ⟨[.int .i64 (n:Int),.agg ⟨[.int .i64 (m.at_:Int),.int .i64 (m.v:Int),.int .i64 (vm m.v:Int),.int .i64 (m.M:Int),.int .i64 (m.P:Int),.int .u32 (m.sum:Int),.int .i64 (m.many:Int)]⟩,.int .u8 (c:Int)]⟩ w K:=by
  intro q i hq hok hcall
  refine tw.ok _ (IC m) _ _ _ ?_
  (try simp only [aH,ay,au,Nat.zero_add,Nat.add_zero,Nat.reduceAdd,Bool.not_true,Bool.not_false,aZ,aY,Option.isNone])
  refine Nw.mk h fun b5 w h=>Nw.mk h fun b7 w h=> ?_
  refine run_makeMap (ke:=fun n:Int=>Value.int .i64 n) (ve:=fun v:Value=>v) h fun mp w h=> ?_
  refine dX (ke:=fun n:Int=>Value.int .i64 n) (ve:=fun v:Value=>v) (l:=_) lu q7 (a:=0) (b:=fv dc) h fun w h=> ?_
  refine dX (ke:=fun n:Int=>Value.int .i64 n) (ve:=fun v:Value=>v) (l:=_) lu q7 (a:=1) (b:=fv dh) h fun w h=> ?_
  refine dX (ke:=fun n:Int=>Value.int .i64 n) (ve:=fun v:Value=>v) (l:=_) lu q7 (a:=2) (b:=fv cH) h fun w h=> ?_
  refine dX (ke:=fun n:Int=>Value.int .i64 n) (ve:=fun v:Value=>v) (l:=_) lu q7 (a:=3) (b:=fv bG) h fun w h=> ?_
  refine dX (ke:=fun n:Int=>Value.int .i64 n) (ve:=fun v:Value=>v) (l:=_) lu q7 (a:=5) (b:=fv bG) h fun w h=> ?_
  rw [show iD (5:Int) (fv bG) (iD 3 (fv bG) (iD 2 (fv cH) (iD 1 (fv dh) (iD 0 (fv dc) []))))
   = [((0:Int),fv dc),(1,fv dh),(2,fv cH),(3,fv bG),(5,fv bG)] from rfl] at h
  (with_reducible repeat first|refine Nw.mk h fun b w h=> ?_|refine aq.mk h fun w h=> ?_|refine Ld.xb h rfl ?_|refine Ld.xt h rfl ?_|refine ae.xb (fun _ h=>h) rfl ?_|refine ae.xt (fun _ h=>h) rfl ?_|refine ⟨h.hb,?_⟩|refine ak.xw h rfl rfl fun w h=> ?_|(refine ak.xs h rfl rfl fun w h=> ?_;dsimp only [an,af] at h)|(refine St.xs h rfl rfl fun w h=> ?_;dsimp only [an,af] at h)|refine aa.yes ?_|refine aa.no ?_|refine ⟨by first|omega|decide,?_⟩)
  refine aA.found (ke:=fun n:Int=>Value.int .i64 n) (ve:=fun v:Value=>v) lu q7 (a:=(m.at_:Int)) (x:=fv i) DA h hq rfl ?_
  refine ka.fn ?_
  have h:=h.drop
  (with_reducible repeat first|refine Nw.mk h fun b w h=> ?_|refine aq.mk h fun w h=> ?_|refine Ld.xb h rfl ?_|refine Ld.xt h rfl ?_|refine ae.xb (fun _ h=>h) rfl ?_|refine ae.xt (fun _ h=>h) rfl ?_|refine ⟨h.hb,?_⟩|refine ak.xw h rfl rfl fun w h=> ?_|(refine ak.xs h rfl rfl fun w h=> ?_;dsimp only [an,af] at h)|(refine St.xs h rfl rfl fun w h=> ?_;dsimp only [an,af] at h)|refine aa.yes ?_|refine aa.no ?_|refine ⟨by first|omega|decide,?_⟩)
  refine ER h hn hn2 hm fun w h=> ?_
  (with_reducible repeat first|refine Nw.mk h fun b w h=> ?_|refine aq.mk h fun w h=> ?_|refine Ld.xb h rfl ?_|refine Ld.xt h rfl ?_|refine ae.xb (fun _ h=>h) rfl ?_|refine ae.xt (fun _ h=>h) rfl ?_|refine ⟨h.hb,?_⟩|refine ak.xw h rfl rfl fun w h=> ?_|(refine ak.xs h rfl rfl fun w h=> ?_;dsimp only [an,af] at h)|(refine St.xs h rfl rfl fun w h=> ?_;dsimp only [an,af] at h)|refine aa.yes ?_|refine aa.no ?_|refine ⟨by first|omega|decide,?_⟩)
  refine gO.mk hok (hcall _ _ _ h ⟨fun m' w h1 h2 h3 h=> ?_,fun M P u w h1 h=> ?_,fun u w h1 h=> ?_,fun e o w h1 h2 h=> ?_⟩)
  ·(with_reducible repeat first|refine Nw.mk h fun b w h=> ?_|refine aq.mk h fun w h=> ?_|refine Ld.xb h rfl ?_|refine Ld.xt h rfl ?_|refine ae.xb (fun _ h=>h) rfl ?_|refine ae.xt (fun _ h=>h) rfl ?_|refine ⟨h.hb,?_⟩|refine ak.xw h rfl rfl fun w h=> ?_|(refine ak.xs h rfl rfl fun w h=> ?_;dsimp only [an,af] at h)|(refine St.xs h rfl rfl fun w h=> ?_;dsimp only [an,af] at h)|refine aa.yes ?_|refine aa.no ?_|refine ⟨by first|omega|decide,?_⟩)
   have h:=h.drew (n:=w.drawn+1)
   refine ⟨cj b5 _ _ _,h.hb,?_⟩
   (with_reducible repeat first|refine Nw.mk h fun b w h=> ?_|refine aq.mk h fun w h=> ?_|refine Ld.xb h rfl ?_|refine Ld.xt h rfl ?_|refine ae.xb (fun _ h=>h) rfl ?_|refine ae.xt (fun _ h=>h) rfl ?_|refine ⟨h.hb,?_⟩|refine ak.xw h rfl rfl fun w h=> ?_|(refine ak.xs h rfl rfl fun w h=> ?_;dsimp only [an,af] at h)|(refine St.xs h rfl rfl fun w h=> ?_;dsimp only [an,af] at h)|refine aa.yes ?_|refine aa.no ?_|refine ⟨by first|omega|decide,?_⟩)
   refine aa.ef (show¬(m'.at_:Int)=4 by omega) ?_
   (with_reducible repeat first|refine Nw.mk h fun b w h=> ?_|refine aq.mk h fun w h=> ?_|refine Ld.xb h rfl ?_|refine Ld.xt h rfl ?_|refine ae.xb (fun _ h=>h) rfl ?_|refine ae.xt (fun _ h=>h) rfl ?_|refine ⟨h.hb,?_⟩|refine ak.xw h rfl rfl fun w h=> ?_|(refine ak.xs h rfl rfl fun w h=> ?_;dsimp only [an,af] at h)|(refine St.xs h rfl rfl fun w h=> ?_;dsimp only [an,af] at h)|refine aa.yes ?_|refine aa.no ?_|refine ⟨by first|omega|decide,?_⟩)
   have e6:((m'.at_:Int)==6)=false:=beq_eq_false_iff_ne.2 (by omega)
   have h6:=hmore m' _ h1 h.tl
   rw [←e6] at h6
   exact h6
  ·(with_reducible repeat first|refine Nw.mk h fun b w h=> ?_|refine aq.mk h fun w h=> ?_|refine Ld.xb h rfl ?_|refine Ld.xt h rfl ?_|refine ae.xb (fun _ h=>h) rfl ?_|refine ae.xt (fun _ h=>h) rfl ?_|refine ⟨h.hb,?_⟩|refine ak.xw h rfl rfl fun w h=> ?_|(refine ak.xs h rfl rfl fun w h=> ?_;dsimp only [an,af] at h)|(refine St.xs h rfl rfl fun w h=> ?_;dsimp only [an,af] at h)|refine aa.yes ?_|refine aa.no ?_|refine ⟨by first|omega|decide,?_⟩)
   have h:=h.drew (n:=w.drawn+1)
   refine ⟨cj b5 _ _ _,h.hb,?_⟩
   (with_reducible repeat first|refine Nw.mk h fun b w h=> ?_|refine aq.mk h fun w h=> ?_|refine Ld.xb h rfl ?_|refine Ld.xt h rfl ?_|refine ae.xb (fun _ h=>h) rfl ?_|refine ae.xt (fun _ h=>h) rfl ?_|refine ⟨h.hb,?_⟩|refine ak.xw h rfl rfl fun w h=> ?_|(refine ak.xs h rfl rfl fun w h=> ?_;dsimp only [an,af] at h)|(refine St.xs h rfl rfl fun w h=> ?_;dsimp only [an,af] at h)|refine aa.yes ?_|refine aa.no ?_|refine ⟨by first|omega|decide,?_⟩)
   exact hblk M P u _ h1 h.tl
  ·(with_reducible repeat first|refine Nw.mk h fun b w h=> ?_|refine aq.mk h fun w h=> ?_|refine Ld.xb h rfl ?_|refine Ld.xt h rfl ?_|refine ae.xb (fun _ h=>h) rfl ?_|refine ae.xt (fun _ h=>h) rfl ?_|refine ⟨h.hb,?_⟩|refine ak.xw h rfl rfl fun w h=> ?_|(refine ak.xs h rfl rfl fun w h=> ?_;dsimp only [an,af] at h)|(refine St.xs h rfl rfl fun w h=> ?_;dsimp only [an,af] at h)|refine aa.yes ?_|refine aa.no ?_|refine ⟨by first|omega|decide,?_⟩)
   have h:=h.drew (n:=w.drawn+1)
   refine ⟨cj b5 _ _ _,h.hb,?_⟩
   (with_reducible repeat first|refine Nw.mk h fun b w h=> ?_|refine aq.mk h fun w h=> ?_|refine Ld.xb h rfl ?_|refine Ld.xt h rfl ?_|refine ae.xb (fun _ h=>h) rfl ?_|refine ae.xt (fun _ h=>h) rfl ?_|refine ⟨h.hb,?_⟩|refine ak.xw h rfl rfl fun w h=> ?_|(refine ak.xs h rfl rfl fun w h=> ?_;dsimp only [an,af] at h)|(refine St.xs h rfl rfl fun w h=> ?_;dsimp only [an,af] at h)|refine aa.yes ?_|refine aa.no ?_|refine ⟨by first|omega|decide,?_⟩)
   exact htail u _ h1 h.tl
  ·(with_reducible repeat first|refine Nw.mk h fun b w h=> ?_|refine aq.mk h fun w h=> ?_|refine Ld.xb h rfl ?_|refine Ld.xt h rfl ?_|refine ae.xb (fun _ h=>h) rfl ?_|refine ae.xt (fun _ h=>h) rfl ?_|refine ⟨h.hb,?_⟩|refine ak.xw h rfl rfl fun w h=> ?_|(refine ak.xs h rfl rfl fun w h=> ?_;dsimp only [an,af] at h)|(refine St.xs h rfl rfl fun w h=> ?_;dsimp only [an,af] at h)|refine aa.yes ?_|refine aa.no ?_|refine ⟨by first|omega|decide,?_⟩)
   subst h2
   exact hbad 242 _ _ h1 h.tl
 obtain ⟨at_,v,M,P,sum,many⟩:=m
 have hm0:=hm
 unfold mu at hm0
 dsimp only at hm0
 rcases hm0 with ⟨h1,h2⟩|⟨h1,h2,h3,h4,h5,h6⟩|⟨h1,h2,h3,h4,h5,h6,h7⟩|⟨h1,h2,h3,h4,h5,h6,h7,h8⟩|⟨h1,h2,h3,h4,h5,h6⟩
 ·cases h2
  exact main 0 dc rfl (by kernel_rfl) fun F' w K' h hK=>IT h hc hK
 ·subst h1 h3 h4 h5 h6
  exact main 1 dh rfl (by kernel_rfl) fun F' w K' h hK=>Ic h hn2 h2 hc hK
 ·subst h1 h5 h6 h7
  exact main 2 cH rfl (by kernel_rfl) fun F' w K' h hK=>HD (M:=M) h (by omega) h4 hc hK
 ·subst h1 h6
  exact main 3 bG rfl (by kernel_rfl) fun F' w K' h hK=>GG h (.inl rfl) h7 h8 hc hK
 ·subst h1 h2 h3 h4
  exact main 4 bG rfl (by kernel_rfl) fun F' w K' h hK=>GG h (.inr ⟨rfl,rfl,rfl⟩) h5 h6 hc hK
end
end Go.Proofs.YtcdpblipagajiaaGreat
set_option maxRecDepth 20000
namespace Go.Vc
def mH (l:List Nat) (i:Nat):List Nat:=(List.range l.length).map fun p=>if p<i∨l.length - i≤p then l.getD (l.length - 1 - p) 0 else l.getD p 0
theorem lB (l:List Nat) (i:Nat):(mH l i).length=l.length:=by unfold mH;simp
theorem n9 {l:List Nat} {i p:Nat} (h:p<l.length):(mH l i)[p]? =some (if p<i∨l.length - i≤p then l.getD (l.length - 1 - p) 0 else l.getD p 0):=by
 unfold mH
 rw [List.getElem?_map,List.getElem?_range h];rfl
theorem FI (l:List Nat):mH l 0=l:=by
 refine List.ext_getElem? fun p=> ?_
 by_cases h:p<l.length
 ·rw [n9 h,if_neg (by omega),List.getElem?_eq_getElem h,List.getD_eq_getElem?_getD,List.getElem?_eq_getElem h];rfl
 ·rw [List.getElem?_eq_none (by rw [lB];omega),List.getElem?_eq_none (by omega)]
theorem EW {l:List Nat} {i:Nat} (h:2*i+1<l.length):((mH l i).set i (l.getD (l.length - 1 - i) 0)).set (l.length - 1 - i) (l.getD i 0)=mH l (i+1):=by
 refine List.ext_getElem? fun p=> ?_
 by_cases hp:p<l.length
 ·rw [n9 hp,List.getElem?_set,List.getElem?_set,n9 hp]
  by_cases h1:l.length - 1 - i=p
  ·subst h1
   rw [if_pos rfl,if_pos (by rw [List.length_set,lB];omega),if_pos (by omega),show l.length - 1 - (l.length - 1 - i)=i by omega]
  ·rw [if_neg h1]
   by_cases h2:i=p
   ·subst h2
    rw [if_pos rfl,if_pos (by rw [lB];omega),if_pos (by omega)]
   ·rw [if_neg h2]
    by_cases h3:p<i∨l.length - i≤p
    ·rw [if_pos h3,if_pos (by omega)]
    ·rw [if_neg h3,if_neg (by omega)]
 ·rw [List.getElem?_eq_none (by rw [List.length_set,List.length_set,lB];omega),List.getElem?_eq_none (by rw [lB];omega)]
theorem Hr {l:List Nat} {i:Nat} (h:l.length≤2*i+1):mH l i=l.reverse:=by
 refine List.ext_getElem? fun p=> ?_
 by_cases hp:p<l.length
 ·rw [n9 hp,List.getElem?_reverse hp]
  have e: ∀q,q<l.length→l[q]? =some (l.getD q 0):=fun q hq=>by rw [List.getD_eq_getElem?_getD,List.getElem?_eq_getElem hq];rfl
  rw [e _ (by omega)]
  by_cases h3:p<i∨l.length - i≤p
  ·rw [if_pos h3]
  ·rw [if_neg h3,show l.length - 1 - p=p by omega]
 ·rw [List.getElem?_eq_none (by rw [lB];omega),List.getElem?_eq_none (by rw [List.length_reverse];omega)]
end Go.Vc
namespace Go.Proofs.YtcdpblipagajiaaGreat
open Go Go.Vc
section
variable {E w:World} {F:List HP}
theorem vR {s:Sl} {l:List Nat} {K:World→Prop} (h:Hp E w (ah 1 s (l.map vB)::F)) (hbig:l.length≤cf) (hK: ∀w',Hp E w' (ah 1 s (l.reverse.map vB)::F)→K w'):
  Cl Tryz.prog [] cg ⟨[.slice s.base s.len s.cap]⟩ w K:=by
 refine l8.ok _ _ _ ?_
 have hlen:=h.aO
 rw [List.length_map,Nat.mul_one] at hlen
 rw [av] at hbig
 rw [ad (by omega)]
 refine ⟨fun i j w'=> ∃k:Nat,i=(k:Int)∧j=(l.length:Int) - 1 - (k:Int)∧k≤l.length∧Hp E w' (ah 1 s ((mH l k).map vB)::F),fun i _ _=>l.length - i.toNat,⟨0,rfl,by omega,by omega,by rw [FI];exact h⟩,?_⟩
 rintro i j w ⟨k,rfl,rfl,hk,h⟩
 refine aa.dm (fun hlt=> ?_) (fun hge=> ?_)
 ·have hg: ∀p,(hp:p<l.length)→((mH l k).map vB)[p]? =some (vB (if p<k∨l.length - k≤p then l.getD (l.length - 1 - p) 0 else l.getD p 0)):=fun p hp=>by rw [List.getElem?_map,n9 hp];rfl
  have hj:((l.length:Int) - 1 - (k:Int)).toNat=l.length - 1 - k:=by omega
  refine aq.mk h fun w h=> ?_
  refine ao.rd (h.ag ab.own) (by omega) (by omega) fun q hi hq=> ?_
  have e1:((mH l k).map vB)[((l.length:Int) - 1 - (k:Int)).toNat]'hi=vB (l.getD (l.length - 1 - k) 0):=by
   have:=hg (l.length - 1 - k) (by omega)
   rw [if_neg (by omega)] at this
   rw [List.getElem_eq_iff,hj];exact this
  refine Ld.sc (s:= .int .u8) (l.getD (l.length - 1 - k) 0:Int) (by rw [hq,e1];rfl) ?_
  refine ao.rd (h.ag ab.own) (by omega) (by omega) fun q2 hi2 hq2=> ?_
  have e2:((mH l k).map vB)[((k:Int)).toNat]'hi2=vB (l.getD k 0):=by
   have:=hg k (by omega)
   rw [if_neg (by omega)] at this
   rw [List.getElem_eq_iff,Int.toNat_natCast];exact this
  refine Ld.sc (s:= .int .u8) (l.getD k 0:Int) (by rw [hq2,e2];rfl) ?_
  refine St.own h (by omega) (by omega) rfl fun w h=> ?_
  refine St.own h (by omega) (by omega) rfl fun w h=> ?_
  rw [ad (by omega),ad (by omega)]
  refine ⟨⟨k+1,by omega,by omega,by omega,?_⟩,by first|omega|(dsimp only;omega)⟩
  rw [hj,Int.toNat_natCast] at h
  have e3:(((mH l k).map vB).set k (.int .u8 (l.getD (l.length - 1 - k) 0:Int))).set (l.length - 1 - k) (.int .u8 (l.getD k 0:Int))=(mH l (k+1)).map vB:=by
   rw [←EW (by omega),List.map_set,List.map_set];rfl
  rw [e3] at h
  exact h
 ·rw [Hr (by omega)] at h
  exact hK _ h
end
end Go.Proofs.YtcdpblipagajiaaGreat
set_option maxRecDepth 20000
namespace Go.Proofs.YtcdpblipagajiaaGreat
open Go Go.Vc Go.Hd
section
variable {E w:World} {F:List HP}
theorem I7 {n:Nat} {K:Sl→Int→World→Prop} (h:Hp E w F) (hn:n≤65536) (hK: ∀s w',Hp E w' (ah 1 s ((dV n).map vB)::F)→K s 0 w'):Cl Tryz.prog [kS,kI] mi ⟨[.int .i64 (n:Int)]⟩ w K:=by
 refine B6.ok _ _ _ ?_
 refine aa.df (by omega) (aa.df (by omega) ?_)
 have hm:IntKind.max .i64=9223372036854775807:=rfl
 have and127: ∀m:Nat,m≤65536→bo .i64 (m:Int) 127=((m % 128:Nat):Int):=fun m h=>by
  rw [show (127:Int)=((127:Nat):Int) from rfl,ew (by omega) (by omega),show (127:Nat)=2^7 - 1 from rfl,Nat.and_two_pow_sub_one_eq_mod]
 have hshr: ∀m:Nat,aF .i64 (m:Int) 7=((m/128:Nat):Int):=fun m=>by
  rw [show (7:Int)=((7:Nat):Int) from rfl,bO (by decide)]
 rw [and127 n hn,gC (by omega)]
 refine Nw.mk h fun b3 w h=> ?_
 refine aM (s:=⟨none,0,0⟩) (ys:= [vB (n % 128)]) (n:=1) pq (by decide) (.inl ⟨5,by kernel_rfl⟩) (h.bl 1) (.inl ⟨some ⟨b3,0,none⟩,1,1,rfl,rfl,h.ag (ab.aD rfl rfl)⟩) rfl xd (by decide) (by decide) fun s w h _=> ?_
 refine ⟨by decide,?_⟩
 rw [hshr]
 refine ⟨fun x s w'=> ∃(m:Nat) (l:List Nat),x=(m:Int)∧m≤512∧l.length+m≤513∧nT m++l.reverse=dV n∧Hp E w' (ah 1 s (l.map vB)::F),fun x _ _=>x.toNat,⟨n/128,[n % 128],rfl,by omega,by simp;omega,rfl,h.p1.drop⟩,?_⟩
 rintro x s w ⟨m,l,rfl,hm5,hl,hv,h⟩
 refine aa.dm (fun hlt=> ?_) (fun hge=> ?_)
 ·have hm0:0<m:=by omega
  have hor:jk .u8 ((m % 128:Nat):Int) 128=((128+m % 128:Nat):Int):=by
   have hm8:IntKind.max .u8=255:=rfl
   have e:=Nat.two_pow_add_eq_or_of_lt (i:=7) (b:=m % 128) (by omega) 1
   have e2:m % 128|||128=128+m % 128:=by rw [Nat.or_comm];exact e.symm
   rw [show (128:Int)=((128:Nat):Int) from rfl,oz (by omega) (by omega) (by rw [e2];omega),e2]
  rw [and127 m (by omega),gC (by omega),hor]
  have hol:=h.aO
  rw [List.length_map,Nat.mul_one] at hol
  refine Nw.mk h fun b12 w h=> ?_
  refine aM (ys:= [vB (128+m % 128)]) (n:=1) pq (by decide) (.inl ⟨5,by kernel_rfl⟩) h.p1 (.inl ⟨some ⟨b12,0,none⟩,1,1,rfl,rfl,h.ag (ab.aD rfl rfl)⟩) rfl xd (by omega) (by omega) fun s w h _=> ?_
  refine ⟨by decide,?_⟩
  rw [hshr]
  refine ⟨⟨m/128,l++ [128+m % 128],rfl,by omega,by rw [List.length_append,List.length_singleton];omega,?_,by rw [List.map_append];exact h.p1.drop⟩,by first|omega|(dsimp only;omega)⟩
  rw [List.reverse_append,←hv,lO hm0]
  simp
 ·have hm0:m=0:=by omega
  subst hm0
  rw [iL,List.nil_append] at hv
  refine vR h (by rw [av];omega) fun w h=>hK s w ?_
  rw [hv] at h
  exact h
end
end Go.Proofs.YtcdpblipagajiaaGreat
namespace Go.Proofs.YtcdpblipagajiaaGreat
open Go Go.Vc
set_option maxRecDepth 100000
theorem Ii.ok (a:Sl) (R:Int→World→Prop) w (h:
 Cl Pg [(az .u32)] oR ⟨[(.int .u32 0),(al a)]⟩ w fun (c:Int) b=>
 R c b):Cl Pg [(az .u32)] oJ ⟨[(al a)]⟩ w R:=co Tryz.f43 [] h
theorem GZ.ok (a:Int) (R:Sl→World→Prop) w (h:
 Nw 184 ⟨[(.int .u8 0),(.int .u8 0),(.int .u8 0),(.int .u8 0)]⟩ w fun c b=>
 dn 0 b fun d e (f:Int) g=>
 aa (decide (f<4))
 (0≤(i64 ((24:Int) - (i64 ((8:Int)*f))))∧
 aB ⟨c,0,none⟩ 4 f 1 fun h=>
 St h (.int .u8 (u8 (aF .u32 a (i64 ((24:Int) - (i64 ((8:Int)*f))))))) g fun i=>
 d (i64 (f+1)) i∧e (i64 (f+1)) i<e f g)
 (bg (⟨some ⟨c,0,none⟩,4,4⟩:Sl) 0 4 4 1 fun j=>
 R j g)):Cl Pg [kS] qt ⟨[(.int .u32 a)]⟩ w R:=co Tryz.f87 [(7,[(5,kI)])] h
theorem E1.ok (a:Int) (b:Sl) (R:Int→World→Prop) w (h:
 Cl Pg [(.arr 256)] nE ⟨[]⟩ w fun d c=>
 Nw 185 ⟨List.replicate 256 (.int .u32 0)⟩ c fun f e=>
 ar 256 ⟨f,0,none⟩ d e fun g=>
 cD (dg .u32 (if IntKind.signed .u32 then -1 else IntKind.max .u32) a) 0 g fun h i (j:Int) (k:Int) l=>
 aa (decide (k<(b.len:Int)))
 (ao b k 1 fun m=>
 Ld kS m l fun (n:Sl)=>
 cD j 0 l fun o p (q:Int) (r:Int) s=>
 aa (decide (r<(n.len:Int)))
 (ao n r 1 fun t=>
 Ld (az .u8) t s fun (u:Int)=>
 aB ⟨f,0,none⟩ 256 (dg .u8 (u8 q) u) 1 fun v=>
 Ld (az .u32) v s fun (x:Int)=>
 0≤(8:Int)∧
 o (dg .u32 x (aF .u32 q (8:Int))) (i64 (r+1)) s∧p (dg .u32 x (aF .u32 q (8:Int))) (i64 (r+1)) s<p q r s)
 (h q (i64 (k+1)) s∧i q (i64 (k+1)) s<i j k l))
 (R (dg .u32 (if IntKind.signed .u32 then -1 else IntKind.max .u32) j) l)):Cl Pg [(az .u32)] oR ⟨[(.int .u32 a),(al b)]⟩ w R:=co Tryz.f88 [(9,[(0,(az .u32)),(15,kI)]),(18,[(0,(az .u32)),(21,kI)])] h
theorem DM.ok (R:(Array Value)→World→Prop) w (h:
 Nw 185 ⟨List.replicate 256 (.int .u32 0)⟩ w fun b a=>
 dn 0 a fun c d (e:Int) f=>
 aa (decide (e<256))
 (Cl Pg [(az .u32)] qf ⟨[(.int .u8 (u8 e))]⟩ f fun (h:Int) g=>
 aB ⟨b,0,none⟩ 256 e 1 fun i=>
 St i (.int .u32 h) g fun j=>
 c (i64 (e+1)) j∧d (i64 (e+1)) j<d e f)
 (Ld (.arr 256) ⟨b,0,none⟩ f fun k=>
 ar 256 ⟨b,0,none⟩ k f fun l=>
 Ld (.arr 256) ⟨b,0,none⟩ l fun m=>
 R m l)):Cl Pg [(.arr 256)] nE ⟨[]⟩ w R:=co Tryz.f132 [(5,[(2,kI)])] h
theorem Hf.ok (a:Int) (R:Int→World→Prop) w (h:
 cD (u32 a) 0 w fun b c (d:Int) (e:Int) f=>
 aa (decide (e<8))
 (0≤(1:Int)∧
 b (dg .u32 (aF .u32 d (1:Int)) (u32 ((3988292384:Int)*(bo .u32 d 1)))) (i64 (e+1)) f∧c (dg .u32 (aF .u32 d (1:Int)) (u32 ((3988292384:Int)*(bo .u32 d 1)))) (i64 (e+1)) f<c d e f)
 (R d f)):Cl Pg [(az .u32)] qf ⟨[(.int .u8 a)]⟩ w R:=co Tryz.f172 [(7,[(3,(az .u32)),(6,kI)])] h
end Go.Proofs.YtcdpblipagajiaaGreat
namespace Go.Crc
theorem Fm (c:Nat):(c/2)^^^(3988292384*(c % 2))=half c:=by
 unfold half
 rcases Nat.mod_two_eq_zero_or_one c with e|e
 ·rw [e];rfl
 ·rw [e];rfl
def bA:Nat→Nat→Nat
 |0,c=>c
 |k+1,c=>half (bA k c)
theorem qp: ∀(k c:Nat),c<4294967296→bA k c<4294967296
 |0,_,h=>h
 |k+1,c,h=>eP (qp k c h)
end Go.Crc
namespace Go.Proofs.YtcdpblipagajiaaGreat
open Go Go.Vc Go.Crc
section
variable {E w:World} {F:List HP}
theorem ID {b:Nat} {K:Int→World→Prop} (hb:b<256) (hK:K (row b:Int) w):Cl Tryz.prog [az .u32] qf ⟨[.int .u8 (b:Int)]⟩ w K:=by
 refine Hf.ok _ _ _ ?_
 refine ⟨fun c i w'=>w'=w∧∃k:Nat,i=(k:Int)∧k≤8∧c=(bA k b:Int),fun _ i _=>8 - i.toNat,⟨rfl,0,rfl,by omega,by rw [gd (by omega)];rfl⟩,?_⟩
 rintro c i w' ⟨rfl,k,rfl,hk,rfl⟩
 refine aa.dm (fun hlt=> ?_) (fun hge=> ?_)
 ·have hlt:k<8:=by omega
  have hb:=qp k b (by omega)
  have hm:IntKind.max .u32=4294967295:=rfl
  have h2:=eP hb
  have e1:aF .u32 (bA k b:Int) 1=((bA k b/2:Nat):Int):=by
   rw [show (1:Int)=((1:Nat):Int) from rfl,bO (by decide)]
  have e2:bo .u32 (bA k b:Int) 1=((bA k b % 2:Nat):Int):=by
   rw [show (1:Int)=((1:Nat):Int) from rfl,ew (by omega) (by omega),Nat.and_one_is_mod]
  have e3:u32 ((3988292384:Int)*((bA k b % 2:Nat):Int))=((3988292384*(bA k b % 2):Nat):Int):=by
   rw [gd (by omega)];omega
  have e4:dg .u32 ((bA k b/2:Nat):Int) ((3988292384*(bA k b % 2):Nat):Int)=(bA (k+1) b:Int):=by
   have hh:=Fm (bA k b)
   rw [gf (by omega) (by omega) (by rw [hh];omega),hh];rfl
  rw [e1,e2,e3,e4,ad (by omega)]
  exact ⟨by decide,⟨rfl,k+1,rfl,by omega,rfl⟩,by dsimp only;omega⟩
 ·have:k=8:=by omega
  subst this
  exact hK
def eE:List Nat:=(List.range 256).map row
theorem lS:eE.length=256:=by unfold eE;simp
theorem yO {b:Nat} (h:b<256):eE[b]? =some (row b):=by unfold eE;rw [List.getElem?_map,List.getElem?_range h];rfl
abbrev ir (l:List Nat):List Value:=l.map fun (n:Nat)=>Value.int .u32 (n:Int)
theorem sJ {l:List Nat}:(ir l).all aw=true:=by
 unfold ir
 rw [List.all_map]
 exact List.all_eq_true.2 fun _ _=>rfl
set_option maxRecDepth 20000
theorem I2 {K:Array Value→World→Prop} (h:Hp E w F) (hK: ∀w',Hp E w' F→K ⟨ir eE⟩ w'):Cl Tryz.prog [.arr 256] nE ⟨[]⟩ w K:=by
 refine DM.ok _ _ ?_
 refine Nw.mk h fun b2 w h=> ?_
 have hlen: ∀k,k≤256→(ir (eE.take k++List.replicate (256 - k) 0)).length=256:=fun k hk=>by simp [lS];omega
 refine ⟨fun i w'=> ∃k:Nat,i=(k:Int)∧k≤256∧Hp E w' (aj b2 (.cells ⟨ir (eE.take k++List.replicate (256 - k) 0)⟩ 185 (0,0))::F),fun i _=>256 - i.toNat,⟨0,rfl,by omega,by
  have:(⟨ir (eE.take 0++List.replicate (256 - 0) 0)⟩:Array Value)=⟨List.replicate 256 (.int .u32 0)⟩:=by simp
  rw [this];exact h⟩,?_⟩
 rintro i w ⟨k,rfl,hk,h⟩
 refine aa.dm (fun hlt=> ?_) (fun hge=> ?_)
 ·have hlt:k<256:=by omega
  rw [gC (by omega)]
  refine ID hlt ?_
  refine ⟨by omega,by omega,?_⟩
  rw [show ((k:Int)).toNat*1=k by omega]
  simp only [au,Nat.zero_add]
  have hkl:=hlen k (by omega)
  refine St.xb h (by show k<(ir (eE.take k++List.replicate (256 - k) 0)).length;omega) rfl fun w h=> ?_
  rw [ad (by omega)]
  refine ⟨⟨k+1,rfl,by omega,?_⟩,by first|omega|(dsimp only;omega)⟩
  have e:(⟨ir (eE.take k++List.replicate (256 - k) 0)⟩:Array Value).setIfInBounds k (.int .u32 (row k:Int))=⟨ir (eE.take (k+1)++List.replicate (256 - (k+1)) 0)⟩:=by
   apply Array.ext'
   rw [Array.toList_setIfInBounds]
   have:(ir (eE.take k++List.replicate (256 - k) 0)).set k (.int .u32 (row k:Int))=ir ((eE.take k++List.replicate (256 - k) 0).set k (row k)):=by rw [ir,ir,List.map_set]
   have hl:(eE.take k).length=k:=by rw [List.length_take,lS];omega
   rw [this,List.set_append_right _ _ (by omega),hl,Nat.sub_self]
   obtain ⟨m,hm⟩: ∃m,256 - k=m+1:=⟨255 - k,by omega⟩
   rw [hm,List.replicate_succ,List.set_cons_zero,List.take_add_one,yO hlt,show 256 - (k+1)=m by omega]
   simp
  rw [e] at h
  exact h
 ·have hk2:k=256:=by omega
  subst hk2
  have e:(⟨ir (eE.take 256++List.replicate (256 - 256) 0)⟩:Array Value)=⟨ir eE⟩:=by
   rw [List.take_of_length_le (by rw [lS];omega)];simp
  rw [e] at h
  have hn:(⟨ir eE⟩:Array Value).size=256:=by simp [lS]
  refine Ld.xw h hn ?_
  refine ar.q h hn hn sJ fun w h=> ?_
  exact Ld.xw h hn (hK _ h.tl)
theorem Jv:(if IntKind.signed .u32 then (-1:Int) else IntKind.max .u32)=((4294967295:Nat):Int):=rfl
theorem Gy {c:Nat} (h:c<4294967296):dg .u32 (if IntKind.signed .u32 then (-1:Int) else IntKind.max .u32) (c:Int)=((c^^^4294967295:Nat):Int):=by
 have hm:IntKind.max .u32=4294967295:=rfl
 have hx:4294967295^^^c<2^32:=Nat.xor_lt_two_pow (by decide) (by omega)
 rw [Jv,gf (by omega) (by omega) (by omega),Nat.xor_comm]
theorem EY {c x:Nat} (hc:c<4294967296) (hx:x<256):dg .u8 (u8 (c:Int)) (x:Int)=((c % 256^^^x:Nat):Int):=by
 have hm:IntKind.max .u8=255:=rfl
 have h2:c % 256^^^x<2^8:=Nat.xor_lt_two_pow (by omega) (by omega)
 rw [qa,show ((c:Int) % 256)=((c % 256:Nat):Int) by omega,gf (by omega) (by omega) (by omega)]
theorem qM {c x:Nat} (hx:x<256):c % 256^^^x<256:=by
 have:c % 256^^^x<2^8:=Nat.xor_lt_two_pow (by omega) (by omega)
 omega
theorem Dp {c x:Nat} (hc:c<4294967296) (hx:x<256):dg .u32 (row (c % 256^^^x):Int) (aF .u32 (c:Int) 8)=(Crc.step c x:Int):=by
 have hm:IntKind.max .u32=4294967295:=rfl
 have hr:=xR (c:=c % 256^^^x) (by have:=qM (c:=c) hx;omega)
 have hs:=uX hc hx
 unfold Crc.step at hs⊢
 rw [show (8:Int)=((8:Nat):Int) from rfl,bO (by decide),show (2:Nat)^8=256 from rfl,gf (by omega) (by omega) (by omega)]
end
end Go.Proofs.YtcdpblipagajiaaGreat
namespace Go.Proofs.YtcdpblipagajiaaGreat
open Go Go.Vc Go.Bits
section
variable {E w:World} {F:List HP}
set_option maxRecDepth 20000
theorem vp {bs:List (List Nat)} {k:Nat} (h:k<bs.length):(bs.take (k+1)).flatten=(bs.take k).flatten++bs.getD k []:=by
 rw [List.take_add_one,List.flatten_append]
 congr 1
 simp [h]
theorem JI {b:Nat} (h:b<256):(⟨ir eE⟩:Array Value)[b]? =some (Sc.enc (.int .u32) (Crc.row b:Int)):=by
 rw [List.getElem?_toArray,ir,List.getElem?_map,yO h];rfl
theorem Hz {c:Nat} {K:Int→World→Prop} {s:Sl} {cs:List Sl} {bs:List (List Nat)} (h:Hp E w F) (hc0:c<4294967296)
  (hs:ab F (aC 1 s (cs.map fun x=> .slice x.base x.len x.cap))) (hl:cs.length=bs.length) (hcl:cs.length≤cf) (hc: ∀i (h:i<cs.length),ab F (aC 1 cs[i] ((bs.getD i []).map vB)))
  (hby: ∀b∈bs,∀y∈b,y<256) (hbig: ∀b∈bs,b.length≤cf)
  (hK: ∀w',Hp E w' F→K ((Crc.feed (c^^^4294967295) bs.flatten^^^4294967295:Nat):Int) w'):Cl Tryz.prog [az .u32] oR ⟨[.int .u32 (c:Int),.slice s.base s.len s.cap]⟩ w K:=by
 refine E1.ok _ _ _ _ ?_
 have hlen:s.len=cs.length:=by have:=(h.ag hs).1;simpa using this.symm
 have hflat: ∀y∈bs.flatten,y<256:=fun y hy=>by
  obtain ⟨b,hb1,hb2⟩:=List.mem_flatten.1 hy
  exact hby b hb1 y hb2
 have hc1:c^^^4294967295<4294967296:=Nat.xor_lt_two_pow (n:=32) hc0 (by decide)
 rw [av] at hcl
 refine I2 h fun w h=>Nw.mk h fun b6 w h=> ?_
 have hn:(⟨ir eE⟩:Array Value).size=256:=by simp [lS]
 refine ar.q h (by simp) hn sJ fun w h=> ?_
 rw [Gy hc0]
 refine ⟨fun x i w'=> ∃k:Nat,i=(k:Int)∧k≤cs.length∧x=(Crc.feed (c^^^4294967295) (bs.take k).flatten:Int)∧Hp E w' (aj b6 (.cells ⟨ir eE⟩ 185 (0,0))::F),fun _ i _=>cs.length - i.toNat,⟨0,rfl,by omega,rfl,h⟩,?_⟩
 rintro x i w ⟨k,rfl,hk,rfl,h⟩
 refine aa.dm (fun hlt=> ?_) (fun hge=> ?_)
 ·have hlt:k<cs.length:=by omega
  have hkb:k<bs.length:=by omega
  refine ao.rd (h.tl.ag hs) (by omega) (by omega) fun q hi hq=> ?_
  have hq':w.cell? q=some (Sc.sl.enc cs[k]):=by simpa using hq
  refine Ld.sc _ hq' ?_
  have hgd:bs.getD k []=bs[k]:=by rw [List.getD_eq_getElem?_getD,List.getElem?_eq_getElem hkb];rfl
  have hck:=hc k hlt
  rw [hgd] at hck
  have hmem:=List.getElem_mem hkb
  have hblen:=hbig _ hmem
  rw [av] at hblen
  have hlk:=(h.tl.ag hck).1
  simp only [List.length_map,Nat.mul_one] at hlk
  refine ⟨fun x i w'=> ∃j:Nat,i=(j:Int)∧j≤bs[k].length∧x=(Crc.feed (c^^^4294967295) ((bs.take k).flatten++bs[k].take j):Int)∧Hp E w' (aj b6 (.cells ⟨ir eE⟩ 185 (0,0))::F),fun _ i _=>bs[k].length - i.toNat,⟨0,rfl,by omega,by simp,h⟩,?_⟩
  rintro x i w ⟨j,rfl,hj,rfl,h⟩
  have hpre: ∀y∈(bs.take k).flatten++bs[k].take j,y<256:=fun y hy=>by
   rcases List.mem_append.1 hy with hy|hy
   ·obtain ⟨b,hb1,hb2⟩:=List.mem_flatten.1 hy
    exact hby b (List.mem_of_mem_take hb1) y hb2
   ·exact hby _ hmem y (List.mem_of_mem_take hy)
  have hfl:=Crc.lz _ _ hc1 hpre
  refine aa.dm (fun hlt2=> ?_) (fun hge2=> ?_)
  ·have hjl:j<bs[k].length:=by omega
   have hy:=hby _ hmem _ (List.getElem_mem hjl)
   refine ao.rd (h.tl.ag hck) (by omega) (by omega) fun q hi hq=> ?_
   refine Ld.sc (s:= .int .u8) (bs[k][j]:Int) (by simpa [vB] using hq) ?_
   rw [EY hfl hy]
   refine aB.rd (s:= .int .u32) h (by omega) (by have:=qM (c:=Crc.feed (c^^^4294967295) ((bs.take k).flatten++bs[k].take j)) hy;omega) (Crc.row (Crc.feed (c^^^4294967295) ((bs.take k).flatten++bs[k].take j) % 256^^^bs[k][j]):Int) ?_ ?_
   ·rw [Int.toNat_natCast]
    exact JI (qM (c:=Crc.feed (c^^^4294967295) ((bs.take k).flatten++bs[k].take j)) hy)
   rw [Dp hfl hy,ad (by omega)]
   refine ⟨by decide,⟨j+1,rfl,by omega,?_,h⟩,by first|omega|(dsimp only;omega)⟩
   rw [List.take_add_one,List.getElem?_eq_getElem hjl,←List.append_assoc,Crc.zj ((bs.take k).flatten++bs[k].take j)];rfl
  ·have hjl:j=bs[k].length:=by omega
   subst hjl
   rw [ad (by omega),List.take_length]
   exact ⟨⟨k+1,rfl,by omega,by rw [vp hkb,hgd],h⟩,by first|omega|(dsimp only;omega)⟩
 ·have hkl:k=bs.length:=by omega
  subst hkl
  rw [List.take_length]
  have hfl:=Crc.lz _ _ hc1 hflat
  rw [Gy hfl]
  exact hK _ h.tl
theorem Gn {K:Int→World→Prop} {s:Sl} {cs:List Sl} {bs:List (List Nat)} (h:Hp E w F)
  (hs:ab F (aC 1 s (cs.map fun x=> .slice x.base x.len x.cap))) (hl:cs.length=bs.length) (hcl:cs.length≤cf) (hc: ∀i (h:i<cs.length),ab F (aC 1 cs[i] ((bs.getD i []).map vB)))
  (hby: ∀b∈bs,∀y∈b,y<256) (hbig: ∀b∈bs,b.length≤cf)
  (hK: ∀w',Hp E w' F→K (Crc.bQ bs.flatten:Int) w'):Cl Tryz.prog [az .u32] oJ ⟨[.slice s.base s.len s.cap]⟩ w K:=by
 refine Ii.ok _ _ _ ?_
 exact Hz (c:=0) h (by decide) hs hl hcl hc hby hbig hK
end
end Go.Proofs.YtcdpblipagajiaaGreat
namespace Go.Proofs.YtcdpblipagajiaaGreat
open Go Go.Vc Go.Bits
section
variable {E w:World} {F:List HP}
set_option maxRecDepth 20000
theorem GX {c k:Nat} (hk:k<4):(Hd.eU c)[k]? =some (c/2^(24 - 8*k) % 256):=by
 match k,hk with
 |0,_=>rfl
 |1,_=>rfl
 |2,_=>rfl
 |3,_=>simp [Hd.eU]
theorem Iu {c:Nat} {K:Sl→World→Prop} (h:Hp E w F) (hc:c<4294967296) (hK: ∀s w',Hp E w' (ah 1 s ((Hd.eU c).map vB)::F)→K s w'):Cl Tryz.prog [kS] qt ⟨[.int .u32 (c:Int)]⟩ w K:=by
 refine GZ.ok _ _ _ ?_
 refine Nw.mk h fun b3 w h=> ?_
 have hlen: ∀k,k≤4→(((Hd.eU c).take k++List.replicate (4 - k) 0).map vB).length=4:=fun k hk=>by
  rw [List.length_map,List.length_append,List.length_take,List.length_replicate,show (Hd.eU c).length=4 from rfl];omega
 refine ⟨fun i w'=> ∃k:Nat,i=(k:Int)∧k≤4∧Hp E w' (aj b3 (.cells ⟨((Hd.eU c).take k++List.replicate (4 - k) 0).map vB⟩ 184 (0,0))::F),fun i _=>4 - i.toNat,⟨0,rfl,by omega,h⟩,?_⟩
 rintro i w ⟨k,rfl,hk,h⟩
 refine aa.dm (fun hlt=> ?_) (fun hge=> ?_)
 ·have hlt:k<4:=by omega
  rw [ad (x:=(8:Int)*(k:Int)) (by omega),ad (by omega),show (24:Int) - 8*(k:Int)=((24 - 8*k:Nat):Int) by omega,bO (by have:IntKind.bits .u32=32:=rfl;omega),qa,ad (by omega)]
  refine ⟨by omega,by omega,by omega,?_⟩
  rw [show ((k:Int)).toNat*1=k by omega]
  simp only [au,Nat.zero_add]
  have hkl:=hlen k (by omega)
  refine St.xb h (by show k<(((Hd.eU c).take k++List.replicate (4 - k) 0).map vB).length;omega) rfl fun w h=> ?_
  refine ⟨⟨k+1,rfl,by omega,?_⟩,by first|omega|(dsimp only;omega)⟩
  have e:(⟨((Hd.eU c).take k++List.replicate (4 - k) 0).map vB⟩:Array Value).setIfInBounds k (.int .u8 (((c/2^(24 - 8*k):Nat):Int) % 256))=⟨((Hd.eU c).take (k+1)++List.replicate (4 - (k+1)) 0).map vB⟩:=by
   apply Array.ext'
   rw [Array.toList_setIfInBounds]
   have e1:(Value.int .u8 (((c/2^(24 - 8*k):Nat):Int) % 256))=vB (c/2^(24 - 8*k) % 256):=by
    unfold vB;congr 1
   have hl:((Hd.eU c).take k).length=k:=by rw [List.length_take,show (Hd.eU c).length=4 from rfl];omega
   obtain ⟨m,hm⟩: ∃m,4 - k=m+1:=⟨3 - k,by omega⟩
   show (((Hd.eU c).take k++List.replicate (4 - k) 0).map vB).set k _=_
   rw [e1,←List.map_set,List.set_append_right _ _ (by omega),hl,Nat.sub_self,hm,List.replicate_succ,List.set_cons_zero,List.take_add_one,GX hlt,show 4 - (k+1)=m by omega]
   simp
  rw [e] at h
  exact h
 ·have hk4:k=4:=by omega
  subst hk4
  rw [List.take_of_length_le (Nat.le_refl 4:(Hd.eU c).length≤4),Nat.sub_self,List.replicate_zero,List.append_nil] at h
  refine bg.whole (by decide) rfl rfl ?_
  refine hK _ w (h.fC (n:=4) (sz:=1) rfl)
end
end Go.Proofs.YtcdpblipagajiaaGreat
set_option maxRecDepth 20000
namespace Go.Proofs.YtcdpblipagajiaaGreat
open Go Go.Vc Go.Srt Go.Inc Go.Hd
theorem ey {n:Nat} (h:n≤65536):(dV n).length≤4:=by
 unfold dV
 have: ∀k m:Nat,m<128^k→(nT m).length≤k:=by
  intro k
  induction k with
  |zero=>intro m hm;have:m=0:=by simpa using hm
         rw [this,iL];exact Nat.le_refl _
  |succ k ih=>
   intro m hm
   rcases Nat.eq_zero_or_pos m with e|e
   ·rw [e,iL];exact Nat.zero_le _
   ·rw [lO e,List.length_append,List.length_singleton]
    have:=ih (m/128) (by rw [Nat.pow_succ] at hm;omega)
    omega
 have:=this 3 (n/128) (by omega)
 rw [List.length_append,List.length_singleton];omega
section
variable {E w:World} {F:List HP}
theorem vj {n:Nat} {most:Int} {K:Sl→Bool→World→Prop} (h:Hp E w F) (hn:n≤65536) (hK: ∀s w',Hp E w' (ah 1 s ((dV n).map vB)::F)→K s (decide (1≤(n:Int)∧(n:Int)≤most)) w'):
  Cl Tryz.prog [kS,kB] fV ⟨[.int .i64 (n:Int),.int .i64 most]⟩ w K:=by
 refine wz.ok _ _ _ _ ?_
 exact I7 h hn fun s w h=>ct (hK _ _ h)
theorem Eo {n:Int} {M P u:Nat} {K:Sl→Int→World→Prop} (h:Hp E w F) (hM:M≤65536) (hP:P≤65536) (hu:u<4294967296)
  (hgood:1≤n→n≤65536→1≤M→(M:Int)≤n→1≤P→P≤M→∀s w',Hp E w' (ah 1 s ((bN M P u).map vB)::F)→K s 0 w')
  (hbad: ¬(1≤n∧n≤65536∧1≤M∧(M:Int)≤n∧1≤P∧P≤M)→∀w',Hp E w' F→K ⟨none,0,0⟩ 2 w'):
  Cl Tryz.prog [kS,kI] gW ⟨[.int .i64 n,.agg ⟨[.int .i64 (M:Int),.int .i64 (P:Int),.int .u32 (u:Int)]⟩]⟩ w K:=by
 refine tk.ok _ ((M:Int),(P:Int),(u:Int),()) _ _ ?_
 (try simp only [aH,ay,au,Nat.zero_add,Nat.add_zero,Nat.reduceAdd,Bool.not_true,Bool.not_false,aZ,aY,Option.isNone])
 (with_reducible repeat first|refine Nw.mk h fun b w h=> ?_|refine aq.mk h fun w h=> ?_|refine Ld.xb h rfl ?_|refine Ld.xt h rfl ?_|refine ae.xb (fun _ h=>h) rfl ?_|refine ae.xt (fun _ h=>h) rfl ?_|refine ⟨h.hb,?_⟩|refine ak.xw h rfl rfl fun w h=> ?_|(refine ak.xs h rfl rfl fun w h=> ?_;dsimp only [an,af] at h)|(refine St.xs h rfl rfl fun w h=> ?_;dsimp only [an,af] at h)|refine aa.yes ?_|refine aa.no ?_|refine ⟨by first|omega|decide,?_⟩)
 refine vj h hM fun s1 w h=> ?_
 (with_reducible repeat first|refine Nw.mk h fun b w h=> ?_|refine aq.mk h fun w h=> ?_|refine Ld.xb h rfl ?_|refine Ld.xt h rfl ?_|refine ae.xb (fun _ h=>h) rfl ?_|refine ae.xt (fun _ h=>h) rfl ?_|refine ⟨h.hb,?_⟩|refine ak.xw h rfl rfl fun w h=> ?_|(refine ak.xs h rfl rfl fun w h=> ?_;dsimp only [an,af] at h)|(refine St.xs h rfl rfl fun w h=> ?_;dsimp only [an,af] at h)|refine aa.yes ?_|refine aa.no ?_|refine ⟨by first|omega|decide,?_⟩)
 refine vj h hP fun s2 w h=>ct ?_
 by_cases hn:1≤n∧n≤65536
 ·refine aa.Gd hn ?_
  by_cases hm:1≤(M:Int)∧(M:Int)≤n
  ·refine aa.Gd hm ?_
   by_cases hp:1≤(P:Int)∧(P:Int)≤(M:Int)
   ·refine aa.Gd hp ?_
    (with_reducible repeat first|refine Nw.mk h fun b w h=> ?_|refine aq.mk h fun w h=> ?_|refine Ld.xb h rfl ?_|refine Ld.xt h rfl ?_|refine ae.xb (fun _ h=>h) rfl ?_|refine ae.xt (fun _ h=>h) rfl ?_|refine ⟨h.hb,?_⟩|refine ak.xw h rfl rfl fun w h=> ?_|(refine ak.xs h rfl rfl fun w h=> ?_;dsimp only [an,af] at h)|(refine St.xs h rfl rfl fun w h=> ?_;dsimp only [an,af] at h)|refine aa.yes ?_|refine aa.no ?_|refine ⟨by first|omega|decide,?_⟩)
    refine Iu h hu fun s3 w h=>Nw.mk h fun b22 w h=> ?_
    have l1:=ey hM
    have l2:=ey hP
    refine FT (s:=⟨some ⟨b22,0,none⟩,4,4⟩) (cs:= [⟨some ⟨b,0,none⟩,1,1⟩,s1,s2,s3]) (bs:= [[1],dV M,dV P,eU u]) h (ab.aD rfl rfl) rfl (by rw [av];simp) ?_ ?_ fun s w h=> ?_
    ·intro i hi
     match i,hi with
     |0,_=>exact ab.at 2 (ab.aD rfl rfl)
     |1,_=>exact ab.at 4 ab.own
     |2,_=>exact ab.at 3 ab.own
     |3,_=>exact ab.at 1 ab.own
    ·rw [av]
     simp [eU]
     omega
    ·refine hgood hn.1 hn.2 (by omega) hm.2 (by omega) (by omega) s w ?_
     have e: [[1],dV M,dV P,eU u].flatten=bN M P u:=by simp [bN]
     rw [e] at h
     exact h.dP
   ·exact aa.Gf hp (hbad (by omega) _ h.tl)
  ·exact aa.Gf hm (hbad (by omega) _ h.tl)
 ·exact aa.Gf hn (hbad (by omega) _ h.tl)
theorem r9 {α σ β ε:Type} {f:σ→α→sH σ β ε} {s s':σ} {l:List α} {k:Nat} (h:run f s (l.take k)= .short s'):run f s l=run f s' (l.drop k):=by
 conv=>lhs;rw [←List.take_append_drop k l]
 exact cR h _
theorem DF {n:Nat} {st:MS} {c e:Nat} (he:aU n st c= .bad e):e=242:=by
 unfold aU at he
 repeat' split at he
 all_goals first|cases he;rfl|cases he
abbrev I5:kb:=(0,0,0,0,0,0,0,())
theorem Ap {n:Int} {s:Sl} {K:kb→Sl→Int→World→Prop} (h:Hp E w F) (hn: ¬(1≤n∧n≤65536)) (hK: ∀w',Hp E w' F→K I5 ⟨none,0,0⟩ 2 w'):
  Cl Tryz.prog [.st [.int .i64,.int .i64,.int .i64,.int .i64,.int .i64,.int .u32,.int .i64],kS,kI] eI ⟨[.int .i64 n,.slice s.base s.len s.cap]⟩ w K:=by
 refine mT.ok _ _ _ _ ?_
 (try simp only [aH,ay,au,Nat.zero_add,Nat.add_zero,Nat.reduceAdd,Bool.not_true,Bool.not_false,aZ,aY,Option.isNone])
 refine Nw.mk h fun b w h=>ct (aa.Gf hn ?_)
 (with_reducible repeat first|refine Nw.mk h fun b w h=> ?_|refine aq.mk h fun w h=> ?_|refine Ld.xb h rfl ?_|refine Ld.xt h rfl ?_|refine ae.xb (fun _ h=>h) rfl ?_|refine ae.xt (fun _ h=>h) rfl ?_|refine ⟨h.hb,?_⟩|refine ak.xw h rfl rfl fun w h=> ?_|(refine ak.xs h rfl rfl fun w h=> ?_;dsimp only [an,af] at h)|(refine St.xs h rfl rfl fun w h=> ?_;dsimp only [an,af] at h)|refine aa.yes ?_|refine aa.no ?_|refine ⟨by first|omega|decide,?_⟩)
 exact hK w h.tl
theorem Fc {n:Nat} {s:Sl} {bs:List Nat} {K:kb→Sl→Int→World→Prop} (h:Hp E w F) (hn:1≤n) (hn2:n≤65536) (hs:ab F (aC 1 s (bs.map vB))) (hb: ∀y∈bs,y<256) (hbig:bs.length≤cf) (hcap:s.len≤s.cap)
  (hshort: ∀s' w',run (aU n) mK bs= .short s'→Hp E w' F→K I5 ⟨none,0,0⟩ 50 w')
  (hbad: ∀w',run (aU n) mK bs= .bad 242→Hp E w' F→K I5 ⟨none,0,0⟩ 242 w')
  (hblk: ∀M P u r s' w',run (aU n) mK bs= .fin (.aD M P u) r→Hp E w' (ah 1 s' (r.map vB)::F)→K (4,0,0,(M:Int),(P:Int),(u:Int),4,()) s' 0 w')
  (htail: ∀u r s' w',run (aU n) mK bs= .fin (.tail u) r→Hp E w' (ah 1 s' (r.map vB)::F)→K (6,0,0,0,0,(u:Int),4,()) s' 0 w'):
  Cl Tryz.prog [.st [.int .i64,.int .i64,.int .i64,.int .i64,.int .i64,.int .u32,.int .i64],kS,kI] eI ⟨[.int .i64 (n:Int),.slice s.base s.len s.cap]⟩ w K:=by
 refine mT.ok _ _ _ _ ?_
 (try simp only [aH,ay,au,Nat.zero_add,Nat.add_zero,Nat.reduceAdd,Bool.not_true,Bool.not_false,aZ,aY,Option.isNone])
 have hlen:bs.length=s.len:=by have:=(h.ag hs).1;simpa using this
 rw [av] at hbig
 refine Nw.mk h fun b4 w h=>ct (aa.Gd (show (1:Int)≤(n:Int)∧(n:Int)≤65536 by omega) ?_)
 refine ⟨fun i w'=> ∃(k:Nat) (st:MS),i=(k:Int)∧k≤bs.length∧mu n st∧run (aU n) mK (bs.take k)= .short st∧
  Hp E w' (aj b4 (.cells ⟨[.int .i64 (st.at_:Int),.int .i64 (st.v:Int),.int .i64 (vm st.v:Int),.int .i64 (st.M:Int),.int .i64 (st.P:Int),.int .u32 (st.sum:Int),.int .i64 (st.many:Int)]⟩ 74 (0,0))::F),
  fun i _=>bs.length - i.toNat,⟨0,mK,rfl,by omega,.inl ⟨rfl,rfl⟩,rfl,h⟩,?_⟩
 rintro i w ⟨k,st,rfl,hk,hst,hrun,h⟩
 refine aa.dm (fun hlt=> ?_) (fun hge=> ?_)
 ·have hlt:k<bs.length:=by omega
  refine ao.rd (h.tl.ag hs) (by omega) (by omega) fun q hi hq=> ?_
  have hby:bs[k]<256:=hb _ (List.getElem_mem _)
  refine Ld.sc (s:= .int .u8) (bs[k]:Int) (by rw [hq];simp [Sc.enc,vB]) ?_
  (with_reducible repeat first|refine Nw.mk h fun b w h=> ?_|refine aq.mk h fun w h=> ?_|refine Ld.xb h rfl ?_|refine Ld.xt h rfl ?_|refine ae.xb (fun _ h=>h) rfl ?_|refine ae.xt (fun _ h=>h) rfl ?_|refine ⟨h.hb,?_⟩|refine ak.xw h rfl rfl fun w h=> ?_|(refine ak.xs h rfl rfl fun w h=> ?_;dsimp only [an,af] at h)|(refine St.xs h rfl rfl fun w h=> ?_;dsimp only [an,af] at h)|refine aa.yes ?_|refine aa.no ?_|refine ⟨by first|omega|decide,?_⟩)
  have done: ∀{w:World} {A B C D G:Int} {b:Nat},Hp E w (aj b (.cells ⟨[.int .i64 A,.int .i64 0,.int .i64 0,.int .i64 B,.int .i64 C,.int .u32 D,.int .i64 G]⟩ 74 (0,0))::aj b4 (.cells ⟨[.int .i64 A,.int .i64 0,.int .i64 0,.int .i64 B,.int .i64 C,.int .u32 D,.int .i64 G]⟩ 74 (0,0))::F)→
    (∀s' w',Hp E w' (ah 1 s' ((bs.drop (k+1)).map vB)::F)→K (A,0,0,B,C,D,G,()) s' 0 w')→
    eB w fun S28 w_29=>ae (.st [.int .i64,.int .i64,.int .i64,.int .i64,.int .i64,.int .u32,.int .i64]) (⟨b4,0,none⟩:Addr) S28 fun x30=>
     bg s (i64 ((k:Int)+1)) (s.len:Int) (s.cap:Int) 1 fun s31=>Cl Tryz.prog [kS] da ⟨[.slice s31.base s31.len s31.cap]⟩ w_29 fun r33 w_32=>S28 w_32∧
     ak (⟨b4,0,none⟩:Addr) [(.int .i64 x30.1),(.int .i64 x30.2.1),(.int .i64 x30.2.2.1),(.int .i64 x30.2.2.2.1),(.int .i64 x30.2.2.2.2.1),(.int .u32 x30.2.2.2.2.2.1),(.int .i64 x30.2.2.2.2.2.2.1)] 0 w_32 fun w_34=>S28 w_34∧
     Ld (.st [.int .i64,.int .i64,.int .i64,.int .i64,.int .i64,.int .u32,.int .i64]) (⟨b4,0,none⟩:Addr) w_34 fun res35=>K res35 r33 0 w_34:=by
   intro w A B C D G b h hk
   have h:=h.drew (n:=w.drawn+1)
   refine ⟨cj b4 _ _ _,h.hb,?_⟩
   (with_reducible repeat first|refine Nw.mk h fun b w h=> ?_|refine aq.mk h fun w h=> ?_|refine Ld.xb h rfl ?_|refine Ld.xt h rfl ?_|refine ae.xb (fun _ h=>h) rfl ?_|refine ae.xt (fun _ h=>h) rfl ?_|refine ⟨h.hb,?_⟩|refine ak.xw h rfl rfl fun w h=> ?_|(refine ak.xs h rfl rfl fun w h=> ?_;dsimp only [an,af] at h)|(refine St.xs h rfl rfl fun w h=> ?_;dsimp only [an,af] at h)|refine aa.yes ?_|refine aa.no ?_|refine ⟨by first|omega|decide,?_⟩)
   rw [ad (by omega)]
   refine bg.rd (h.tl.ag hs) (by omega) (by omega) (by omega) (by omega) (by omega) fun s' hs' hl'=> ?_
   have e1:(bs.map vB).drop ((k:Int)+1).toNat=(bs.drop (k+1)).map vB:=by rw [show ((k:Int)+1).toNat=k+1 by omega,List.map_drop]
   rw [e1,List.take_of_length_le (by simp;omega)] at hs'
   have hT:ab F (aC 1 s' ((bs.drop (k+1)).map vB)):=hs.imp fun w h=>hs' w h
   refine uO h (ab.cons (ab.cons hT)) (by simp;rw [av];omega) fun s2 w h=>⟨h.hb,?_⟩
   (with_reducible repeat first|refine Nw.mk h fun b w h=> ?_|refine aq.mk h fun w h=> ?_|refine Ld.xb h rfl ?_|refine Ld.xt h rfl ?_|refine ae.xb (fun _ h=>h) rfl ?_|refine ae.xt (fun _ h=>h) rfl ?_|refine ⟨h.hb,?_⟩|refine ak.xw h rfl rfl fun w h=> ?_|(refine ak.xs h rfl rfl fun w h=> ?_;dsimp only [an,af] at h)|(refine St.xs h rfl rfl fun w h=> ?_;dsimp only [an,af] at h)|refine aa.yes ?_|refine aa.no ?_|refine ⟨by first|omega|decide,?_⟩)
   exact hk s2 w h.dP
  refine Hb h hn hn2 hst hby (fun st' w he h=> ?_) (fun M P u w he h=> ?_) (fun u w he h=> ?_) (fun e o w he h=> ?_)
  ·(with_reducible repeat first|refine Nw.mk h fun b w h=> ?_|refine aq.mk h fun w h=> ?_|refine Ld.xb h rfl ?_|refine Ld.xt h rfl ?_|refine ae.xb (fun _ h=>h) rfl ?_|refine ae.xt (fun _ h=>h) rfl ?_|refine ⟨h.hb,?_⟩|refine ak.xw h rfl rfl fun w h=> ?_|(refine ak.xs h rfl rfl fun w h=> ?_;dsimp only [an,af] at h)|(refine St.xs h rfl rfl fun w h=> ?_;dsimp only [an,af] at h)|refine aa.yes ?_|refine aa.no ?_|refine ⟨by first|omega|decide,?_⟩)
   rw [ad (by omega)]
   refine ⟨⟨k+1,st',rfl,by omega,xG hst hby he,?_,(h.no 0)⟩,by first|omega|(dsimp only;omega)⟩
   rw [List.take_add_one,List.getElem?_eq_getElem hlt]
   show run (aU n) mK (bs.take k++ [bs[k]])=_
   rw [cR hrun,bD he];rfl
  ·(with_reducible repeat first|refine Nw.mk h fun b w h=> ?_|refine aq.mk h fun w h=> ?_|refine Ld.xb h rfl ?_|refine Ld.xt h rfl ?_|refine ae.xb (fun _ h=>h) rfl ?_|refine ae.xt (fun _ h=>h) rfl ?_|refine ⟨h.hb,?_⟩|refine ak.xw h rfl rfl fun w h=> ?_|(refine ak.xs h rfl rfl fun w h=> ?_;dsimp only [an,af] at h)|(refine St.xs h rfl rfl fun w h=> ?_;dsimp only [an,af] at h)|refine aa.yes ?_|refine aa.no ?_|refine ⟨by first|omega|decide,?_⟩)
   refine done h fun s' w' h=>hblk M P u (bs.drop (k+1)) s' w' ?_ h
   rw [r9 hrun,List.drop_eq_getElem_cons hlt,lG he]
  ·(with_reducible repeat first|refine Nw.mk h fun b w h=> ?_|refine aq.mk h fun w h=> ?_|refine Ld.xb h rfl ?_|refine Ld.xt h rfl ?_|refine ae.xb (fun _ h=>h) rfl ?_|refine ae.xt (fun _ h=>h) rfl ?_|refine ⟨h.hb,?_⟩|refine ak.xw h rfl rfl fun w h=> ?_|(refine ak.xs h rfl rfl fun w h=> ?_;dsimp only [an,af] at h)|(refine St.xs h rfl rfl fun w h=> ?_;dsimp only [an,af] at h)|refine aa.yes ?_|refine aa.no ?_|refine ⟨by first|omega|decide,?_⟩)
   refine done h fun s' w' h=>htail u (bs.drop (k+1)) s' w' ?_ h
   rw [r9 hrun,List.drop_eq_getElem_cons hlt,lG he]
  ·have:=DF he
   subst this
   (with_reducible repeat first|refine Nw.mk h fun b w h=> ?_|refine aq.mk h fun w h=> ?_|refine Ld.xb h rfl ?_|refine Ld.xt h rfl ?_|refine ae.xb (fun _ h=>h) rfl ?_|refine ae.xt (fun _ h=>h) rfl ?_|refine ⟨h.hb,?_⟩|refine ak.xw h rfl rfl fun w h=> ?_|(refine ak.xs h rfl rfl fun w h=> ?_;dsimp only [an,af] at h)|(refine St.xs h rfl rfl fun w h=> ?_;dsimp only [an,af] at h)|refine aa.yes ?_|refine aa.no ?_|refine ⟨by first|omega|decide,?_⟩)
   refine hbad w ?_ h.tl
   rw [r9 hrun,List.drop_eq_getElem_cons hlt,lC he]
 ·have hk2:k=bs.length:=by omega
  subst hk2
  rw [List.take_of_length_le (Nat.le_refl _)] at hrun
  (with_reducible repeat first|refine Nw.mk h fun b w h=> ?_|refine aq.mk h fun w h=> ?_|refine Ld.xb h rfl ?_|refine Ld.xt h rfl ?_|refine ae.xb (fun _ h=>h) rfl ?_|refine ae.xt (fun _ h=>h) rfl ?_|refine ⟨h.hb,?_⟩|refine ak.xw h rfl rfl fun w h=> ?_|(refine ak.xs h rfl rfl fun w h=> ?_;dsimp only [an,af] at h)|(refine St.xs h rfl rfl fun w h=> ?_;dsimp only [an,af] at h)|refine aa.yes ?_|refine aa.no ?_|refine ⟨by first|omega|decide,?_⟩)
  exact hshort st w hrun h.tl
end
end Go.Proofs.YtcdpblipagajiaaGreat
set_option maxRecDepth 20000
namespace Go.Stm
open Go.Inc Go.Srt Go.Sym Go.Bits Go.Tab Go.Hd Go.Crc Go.Bw Go.aj
section
variable (L:List Nat→List Nat)
def fk:Prop:= ∀x:List Nat,0<x.length→(∀c∈x,c<256)→gV (L x) (aG x.reverse)
end
section
variable {L:List Nat→List Nat} {n:Nat}
theorem GF {x:List Nat} (hx: ∀c∈x,c<256): ∀y∈aG x.reverse,y<256:=re fun y hy=>hx y (List.mem_reverse.1 hy)
end
end Go.Stm
namespace Go.Proofs.YtcdpblipagajiaaGreat
open Go Go.Vc
set_option maxRecDepth 100000
theorem Cv.ok (a:Sl) (b:Sl) (R:Bool→World→Prop) w (h:
 aa ((a.len:Int) !=(b.len:Int))
 (R false w)
 (dn 0 w fun c d (e:Int) f=>
 aa (decide (e<(a.len:Int)))
 (aq f fun g=>
 ao a e 1 fun h=>
 Ld kI h g fun (i:Int)=>
 ao b e 1 fun j=>
 Ld kI j g fun (k:Int)=>
 aa (i !=k)
 (R false g)
 (c (i64 (e+1)) g∧d (i64 (e+1)) g<d e f))
 (R true f))):Cl Pg [kB] jC ⟨[(al a),(al b)]⟩ w R:=co Tryz.f18 [(10,[(5,kI)])] h
end Go.Proofs.YtcdpblipagajiaaGreat
namespace Go.Proofs.YtcdpblipagajiaaGreat
open Go Go.Vc
set_option maxRecDepth 100000
theorem pF.ok (a:(Array Value)) (b:Int) (R:(Array Value)→Int→World→Prop) w (h:
 Nw 41 a w fun d c=>
 Nw 36 ⟨List.replicate 258 (.int .u8 0)⟩ c fun f e=>
 Ld (.arr 258) ⟨d,0,none⟩ e fun g=>
 Cl Pg [kS] fj ⟨[(.agg g)]⟩ e fun (i:Sl) h=>
 bf (fun (a1:World)=>
 aa ((i.len:Int)==1)
 (ao i 0 1 fun b1=>
 Ld kI b1 a1 fun (c1:Int)=>
 aB ⟨f,0,none⟩ 258 c1 1 fun d1=>
 St d1 (.int .u8 1) a1 fun e1=>
 Ld (.arr 258) ⟨f,0,none⟩ e1 fun f1=>
 ar 258 ⟨f,0,none⟩ f1 e1 fun g1=>
 Ld (.arr 258) ⟨f,0,none⟩ g1 fun h1=>
 R h1 0 g1)
 (Ld (.arr 258) ⟨d,0,none⟩ a1 fun i1=>
 Cl Pg [kS] eS ⟨[(.agg i1),(al i)]⟩ a1 fun (k1:Sl) j1=>
 Nw 189 ⟨[(al k1)]⟩ j1 fun m1 l1=>
 cD (⟨some ⟨m1,0,none⟩,1,1⟩:Sl) 1 l1 fun n1 o1 (p1:Sl) (q1:Int) r1=>
 aa (decide (q1<b))
 (eB r1 fun s1 t1=>
 ao p1 0 1 fun u1=>
 ae kS u1 s1 fun (v1:Sl)=>
 ao p1 (i64 (q1 - 1)) 1 fun x1=>
 ae kS x1 s1 fun (y1:Sl)=>
 Cl Pg [kS] fN ⟨[(al v1),(al y1)]⟩ t1 fun (a2:Sl) z1=>
 s1 z1∧
 Nw 189 ⟨[(al a2)]⟩ z1 fun c2 b2=>
 s1 b2∧
 aA Pg (Builtin.append_ #[191,191] 191 ⟨[(al p1),(al (⟨some ⟨c2,0,none⟩,1,1⟩:Sl))]⟩) kS b2 fun (e2:Sl) d2=>
 s1 d2∧
 n1 e2 (i64 (q1+1)) d2∧o1 e2 (i64 (q1+1)) d2<o1 p1 q1 r1)
 (cD (i64 ((i64 ((2:Int)*(i.len:Int))) - 2)) (i64 (b - 1)) r1 fun f2 g2 (h2:Int) (i2:Int) j2=>
 bf (fun (r2:World)=>
 ao p1 i2 1 fun s2=>
 Ld kS s2 r2 fun (t2:Sl)=>
 bg t2 0 h2 (t2).cap 2 fun u2=>
 cD 0 0 r2 fun v2 x2 (y2:Int) (z2:Int) a3=>
 aa (decide (z2<(u2.len:Int)))
 (ao u2 z2 2 fun b3=>
 Ld (.st [.int .i64,.bool]) b3 a3 fun c3=>
 Nw 194 ⟨[(ni 0),(.bool false)]⟩ a3 fun e3 d3=>
 ak ⟨e3,0,none⟩ [(ni c3.1),(.bool c3.2.1)] 0 d3 fun f3=>
 Ld kB (Addr.add ⟨e3,0,none⟩ 1) f3 fun (g3:Bool)=>
 aa g3
 (ao i y2 1 fun h3=>
 Ld kI h3 f3 fun (i3:Int)=>
 aB ⟨f,0,none⟩ 258 i3 1 fun j3=>
 Ld (az .u8) j3 f3 fun (k3:Int)=>
 aB ⟨f,0,none⟩ 258 i3 1 fun l3=>
 St l3 (.int .u8 (u8 (k3+1))) f3 fun m3=>
 v2 (i64 (y2+1)) (i64 (z2+1)) m3∧x2 (i64 (y2+1)) (i64 (z2+1)) m3<x2 y2 z2 a3)
 (v2 y2 (i64 (z2+1)) f3∧x2 y2 (i64 (z2+1)) f3<x2 y2 z2 a3))
 (f2 (i64 ((2:Int)*(i64 (h2 - y2)))) (i64 (i2 - 1)) a3∧g2 (i64 ((2:Int)*(i64 (h2 - y2)))) (i64 (i2 - 1)) a3<g2 h2 i2 j2)) fun k2=>
 aa (decide (i2≥0))
 (aa (decide (h2>0))
 (k2 j2)
 (Ld (.arr 258) ⟨f,0,none⟩ j2 fun l2=>
 ar 258 ⟨f,0,none⟩ l2 j2 fun m2=>
 Ld (.arr 258) ⟨f,0,none⟩ m2 fun n2=>
 R n2 0 m2))
 (Ld (.arr 258) ⟨f,0,none⟩ j2 fun o2=>
 ar 258 ⟨f,0,none⟩ o2 j2 fun p2=>
 Ld (.arr 258) ⟨f,0,none⟩ p2 fun q2=>
 R q2 0 p2)))) fun j=>
 Ld (.arr 258) ⟨d,0,none⟩ h fun k=>
 Cl Pg [kB] dx ⟨[(.agg k)]⟩ h fun (m:Bool) l=>
 aa (!m)
 (Ld (.arr 258) ⟨f,0,none⟩ l fun n=>
 ar 258 ⟨f,0,none⟩ n l fun o=>
 Ld (.arr 258) ⟨f,0,none⟩ o fun p=>
 R p 2 o)
 (aa (decide (b<1))
 (Ld (.arr 258) ⟨f,0,none⟩ l fun q=>
 ar 258 ⟨f,0,none⟩ q l fun r=>
 Ld (.arr 258) ⟨f,0,none⟩ r fun s=>
 R s 2 r)
 (aa (decide (b>15))
 (Ld (.arr 258) ⟨f,0,none⟩ l fun t=>
 ar 258 ⟨f,0,none⟩ t l fun u=>
 Ld (.arr 258) ⟨f,0,none⟩ u fun v=>
 R v 2 u)
 (0≤(u64 b)∧
 aa (decide ((i.len:Int)>(a8 .i64 (1:Int) (u64 b))))
 (Ld (.arr 258) ⟨f,0,none⟩ l fun x=>
 ar 258 ⟨f,0,none⟩ x l fun y=>
 Ld (.arr 258) ⟨f,0,none⟩ y fun z=>
 R z 2 y)
 (j l))))):Cl Pg [(.arr 258),kI] cP ⟨[(.agg a),(ni b)]⟩ w R:=co Tryz.f93 [(4,[]),(21,[(7,kS),(8,kI)]),(33,[(9,kI),(10,kI)]),(34,[]),(43,[(11,kI),(86,kI)])] h
theorem qH.ok (a:(Array Value)) (R:Sl→World→Prop) w (h:
 Nw 41 a w fun c b=>
 Ld (.arr 258) ⟨c,0,none⟩ b fun d=>
 Cl Pg [kB] dx ⟨[(.agg d)]⟩ b fun (f:Bool) e=>
 aa (!f)
 (R (⟨none,0,0⟩:Sl) e)
 (Ld (.arr 258) ⟨c,0,none⟩ e fun g=>
 cD (⟨none,0,0⟩:Sl) 0 e fun h i (j:Sl) (k:Int) l=>
 aa (decide (k<258))
 (ez (.int .i64) g 258 k fun (m:Int)=>
 aa (decide (m>0))
 (Nw 3 ⟨[(ni k)]⟩ l fun o n=>
 aA Pg (Builtin.append_ #[33,33] 33 ⟨[(al j),(al (⟨some ⟨o,0,none⟩,1,1⟩:Sl))]⟩) kS n fun (q:Sl) p=>
 h q (i64 (k+1)) p∧i q (i64 (k+1)) p<i j k l)
 (h j (i64 (k+1)) l∧i j (i64 (k+1)) l<i j k l))
 (Cl Pg [] bK ⟨[(al j),(.func (.func 180) ⟨[]⟩ ⟨[(.pointer (some ⟨c,0,none⟩))]⟩)]⟩ l fun r=>
 R j r))):Cl Pg [kS] fj ⟨[(.agg a)]⟩ w R:=co Tryz.f138 [(10,[(2,kS),(9,kI)])] h
theorem pT.ok (a:(Array Value)) (R:Bool→World→Prop) w (h:
 Nw 41 a w fun c b=>
 bg (⟨some ⟨c,0,none⟩,258,258⟩:Sl) 0 258 258 1 fun d=>
 Cl Pg [kB] eG ⟨[(al d),(.func (.func 183) ⟨[]⟩ ⟨[]⟩)]⟩ b fun (f:Bool) e=>
 R (!f) e):Cl Pg [kB] dx ⟨[(.agg a)]⟩ w R:=co Tryz.f139 [] h
theorem pR.ok (a:(Array Value)) (b:Sl) (R:Sl→World→Prop) w (h:
 Nw 41 a w fun d c=>
 cD (⟨none,0,0⟩:Sl) 0 c fun e f (g:Sl) (h:Int) i=>
 aa (decide (h<(b.len:Int)))
 (ao b h 1 fun j=>
 Ld kI j i fun (k:Int)=>
 aB ⟨d,0,none⟩ 258 k 1 fun l=>
 Ld kI l i fun (m:Int)=>
 Nw 194 ⟨[(ni m),(.bool true)]⟩ i fun o n=>
 aA Pg (Builtin.append_ #[189,189] 189 ⟨[(al g),(al (⟨some ⟨o,0,none⟩,1,1⟩:Sl))]⟩) kS n fun (q:Sl) p=>
 e q (i64 (h+1)) p∧f q (i64 (h+1)) p<f g h i)
 (R g i)):Cl Pg [kS] eS ⟨[(.agg a),(al b)]⟩ w R:=co Tryz.f140 [(5,[(4,kS),(9,kI)])] h
theorem rp.ok (a:Sl) (b:Sl) (R:Sl→World→Prop) w (h:
 AR (⟨none,0,0⟩:Sl) 0 0 w fun c d (e:Sl) (f:Int) (g:Int) h=>
 aa (decide ((i64 (g+1))<(b.len:Int)))
 (eB h fun i j=>
 ao b g 2 fun k=>
 ae kI (k.add 0) i fun (l:Int)=>
 ao b (i64 (g+1)) 2 fun m=>
 ae kI (m.add 0) i fun (n:Int)=>
 Nw 194 ⟨[(ni 0),(.bool false)]⟩ j fun p o=>
 i o∧
 ak ⟨p,0,none⟩ [(ni (i64 (l+n))),(.bool false)] 0 o fun q=>
 i q∧
 cD e f q fun r s (t:Sl) (u:Int) v=>
 aq v fun x=>
 aa (decide (u<(a.len:Int)))
 (ao a u 2 fun y=>
 Ld kI (y.add 0) x fun (z:Int)=>
 Ld kI (Addr.add ⟨p,0,none⟩ 0) x fun (a1:Int)=>
 aa (decide (z≤a1))
 (ao a u 2 fun b1=>
 Ld (.st [.int .i64,.bool]) b1 x fun c1=>
 Nw 194 ⟨[(ni c1.1),(.bool c1.2.1)]⟩ x fun e1 d1=>
 aA Pg (Builtin.append_ #[189,189] 189 ⟨[(al t),(al (⟨some ⟨e1,0,none⟩,1,1⟩:Sl))]⟩) kS d1 fun (g1:Sl) f1=>
 r g1 (i64 (u+1)) f1∧s g1 (i64 (u+1)) f1<s t u v)
 (Ld (.st [.int .i64,.bool]) ⟨p,0,none⟩ x fun h1=>
 Nw 194 ⟨[(ni h1.1),(.bool h1.2.1)]⟩ x fun j1 i1=>
 aA Pg (Builtin.append_ #[189,189] 189 ⟨[(al t),(al (⟨some ⟨j1,0,none⟩,1,1⟩:Sl))]⟩) kS i1 fun (l1:Sl) k1=>
 c l1 u (i64 (g+2)) k1∧d l1 u (i64 (g+2)) k1<d e f g h))
 (Ld (.st [.int .i64,.bool]) ⟨p,0,none⟩ x fun m1=>
 Nw 194 ⟨[(ni m1.1),(.bool m1.2.1)]⟩ x fun o1 n1=>
 aA Pg (Builtin.append_ #[189,189] 189 ⟨[(al t),(al (⟨some ⟨o1,0,none⟩,1,1⟩:Sl))]⟩) kS n1 fun (q1:Sl) p1=>
 c q1 u (i64 (g+2)) p1∧d q1 u (i64 (g+2)) p1<d e f g h))
 (bg a f (a).len (a).cap 2 fun r1=>
 aA Pg (Builtin.append_ #[189,189] 189 ⟨[(al e),(al r1)]⟩) kS h fun (t1:Sl) s1=>
 R t1 s1)):Cl Pg [kS] fN ⟨[(al a),(al b)]⟩ w R:=co Tryz.f141 [(7,[(4,kS),(5,kI),(6,kI)]),(15,[(4,kS),(5,kI)])] h
theorem oM.ok (a:Int) (b:Int) (c:Addr) (R:Int→World→Prop) w (h:
 aq w fun d=>
 aB c 258 a 1 fun e=>
 Ld kI e d fun (f:Int)=>
 aB c 258 b 1 fun g=>
 Ld kI g d fun (h:Int)=>
 Cl Pg [kI] cu ⟨[(ni f),(ni h)]⟩ d fun (j:Int) i=>
 R j i):Cl Pg [kI] ij ⟨[(ni a),(ni b),(.pointer (some c))]⟩ w R:=co Tryz.f180 [] h
theorem oI.ok (a:Int) (R:Bool→World→Prop) w (h:
 aa (decide (a<0))
 (R true w)
 (R (decide (a>2147483647)) w)):Cl Pg [kB] il ⟨[(ni a)]⟩ w R:=co Tryz.f183 [] h
end Go.Proofs.YtcdpblipagajiaaGreat
namespace Go.Pm
abbrev It:=Nat×Bool
def kv (l:List It):Nat:=(l.map (·.1)).sum
def aV (l:List It):Nat:=(l.filter (·.2)).length
def Up (l:List It):Prop:=l.Pairwise fun a b=>a.1≤b.1
def aI:List It→List It
 |a::b::l=>(a.1+b.1,false)::aI l
 |_=> []
def fS (A:List It):List It→List It
 | []=>A
 |p::B=>A.takeWhile (fun a=>decide (a.1≤p.1))++p::fS (A.dropWhile fun a=>decide (a.1≤p.1)) B
theorem ur {A:List It}:fS A []=A:=rfl
theorem om: ∀{B:List It},fS [] B=B
 | []=>rfl
 |p::B=>by simp [fS,om]
theorem yU {a p:It} {A B:List It} (h:a.1≤p.1):fS (a::A) (p::B)=a::fS A (p::B):=by simp [fS,h]
theorem xc {a p:It} {A B:List It} (h: ¬a.1≤p.1):fS (a::A) (p::B)=p::fS (a::A) B:=by simp [fS,h]
theorem qR {P:List It→List It→Prop} (h1: ∀B,P [] B) (h2: ∀a A,P (a::A) []) (h3: ∀a A p B,a.1≤p.1→P A (p::B)→P (a::A) (p::B)) (h4: ∀a A p B,¬a.1≤p.1→P (a::A) B→P (a::A) (p::B)):
  ∀A B,P A B
 | [],B=>h1 B
 |a::A,[]=>h2 a A
 |a::A,p::B=>if h:a.1≤p.1 then h3 a A p B h (qR h1 h2 h3 h4 A (p::B)) else h4 a A p B h (qR h1 h2 h3 h4 (a::A) B)
theorem zF: ∀A B,(fS A B).Perm (A++B):=by
 refine qR (fun B=>by rw [om];exact .refl _) (fun a A=>by rw [ur];simp) (fun a A p B h ih=> ?_) (fun a A p B h ih=> ?_)
 ·rw [yU h];exact ih.cons a
 ·rw [xc h]
  exact (ih.cons p).trans (List.perm_middle.symm)
theorem Bk (A B:List It):(fS A B).length=A.length+B.length:=by rw [(zF A B).length_eq,List.length_append]
theorem AD: ∀A B,Up A→∀m,m≤A.length+B.length→∃a b,a+b=m∧a≤A.length∧b≤B.length∧((fS A B).take m).Perm (A.take a++B.take b)∧∀x∈B.take b,∀y∈A.drop a,x.1<y.1:=by
 refine qR (fun B _ m hm=> ?_) (fun a A _ m hm=> ?_) (fun a A p B h ih hA m hm=> ?_) (fun a A p B h ih hA m hm=> ?_)
 ·exact ⟨0,m,by omega,Nat.le_refl _,by simpa using hm,by rw [om];simp,by simp⟩
 ·exact ⟨m,0,rfl,by simpa using hm,Nat.le_refl _,by rw [ur];simp,by simp⟩
 ·cases m with
  |zero=>exact ⟨0,0,rfl,Nat.zero_le _,Nat.zero_le _,by simp,by simp⟩
  |succ m=>
   obtain ⟨x,y,h1,h2,h3,h4,h5⟩:=ih (List.pairwise_cons.1 hA).2 m (by simp at hm⊢;omega)
   refine ⟨x+1,y,by omega,by simpa using h2,h3,?_,by simpa using h5⟩
   rw [yU h,List.take_succ_cons,List.take_succ_cons]
   exact h4.cons a
 ·cases m with
  |zero=>exact ⟨0,0,rfl,Nat.zero_le _,Nat.zero_le _,by simp,by simp⟩
  |succ m=>
   obtain ⟨x,y,h1,h2,h3,h4,h5⟩:=ih hA m (by simp at hm⊢;omega)
   refine ⟨x,y+1,by omega,h2,by simpa using h3,?_,?_⟩
   ·rw [xc h,List.take_succ_cons,List.take_succ_cons]
    exact (h4.cons p).trans List.perm_middle.symm
   ·intro u hu v hv
    rw [List.take_succ_cons] at hu
    rcases List.mem_cons.1 hu with rfl|hu
    ·have hv:v∈a::A:=List.mem_of_mem_drop hv
     rcases List.mem_cons.1 hv with rfl|hv
     ·omega
     ·have:=(List.pairwise_cons.1 hA).1 v hv;omega
    ·exact h5 u hu v hv
theorem r7 (a:It) (l:List It):kv (a::l)=a.1+kv l:=by simp [kv]
theorem Cw (l l':List It):kv (l++l')=kv l+kv l':=by simp [kv]
theorem Fi {l l':List It} (h:l.Perm l'):kv l=kv l':=(h.map _).sum_nat
theorem l0 (l l':List It):aV (l++l')=aV l+aV l':=by simp [aV]
theorem sD {l l':List It} (h:l.Perm l'):aV l=aV l':=(h.filter _).length_eq
theorem cx: ∀l:List It,(aI l).length=l.length/2
 | []=>rfl
 | [_]=>by simp [aI]
 |_::_::l=>by
  simp only [aI,List.length_cons,cx l];omega
theorem pE: ∀(l:List It) (x:It),x∈aI l→x.2=false
 | [],_,h=>by simp [aI] at h
 | [_],_,h=>by simp [aI] at h
 |a::b::l,x,h=>by
  rw [aI] at h
  rcases List.mem_cons.1 h with rfl|h
  ·rfl
  ·exact pE l x h
theorem tS: ∀(l:List It) (b:Nat),2*b≤l.length→kv ((aI l).take b)=kv (l.take (2*b))
 |_,0,_=>by simp [kv]
 | [],b+1,h=>by simp at h
 | [_],b+1,h=>by simp only [List.length_singleton] at h;omega
 |x::y::l,b+1,h=>by
  rw [aI,List.take_succ_cons,r7,show 2*(b+1)=(2*b+1)+1 by omega,List.take_succ_cons,List.take_succ_cons,r7,r7,tS l b (by simp only [List.length_cons] at h;omega)]
  omega
theorem yA: ∀(l:List It) (b:Nat) (x:It),2*b≤l.length→x∈l.take (2*b)→∃p∈(aI l).take b,x.1≤p.1
 |_,0,_,_,h=>by simp at h
 | [],b+1,_,h,_=>by simp at h
 | [_],b+1,_,h,_=>by simp only [List.length_singleton] at h;omega
 |u::v::l,b+1,x,h,hx=>by
  rw [show 2*(b+1)=(2*b+1)+1 by omega,List.take_succ_cons,List.take_succ_cons] at hx
  rw [aI,List.take_succ_cons]
  rcases List.mem_cons.1 hx with rfl|hx
  ·exact ⟨_,List.mem_cons_self,by simp⟩
  ·rcases List.mem_cons.1 hx with rfl|hx
   ·exact ⟨_,List.mem_cons_self,by simp⟩
   ·obtain ⟨p,hp,hl⟩:=yA l b x (by simp only [List.length_cons] at h;omega) hx
    exact ⟨p,List.mem_cons_of_mem _ hp,hl⟩
def gT (ws:List Nat):List It:=ws.map fun w=>(w,true)
def row (ws:List Nat):Nat→List It
 |0=>gT ws
 |k+1=>fS (gT ws) (aI (row ws k))
def qc (ws:List Nat):Prop:=ws.Pairwise (·≤·)
theorem Ed {ws:List Nat} (h:qc ws):Up (gT ws):=List.Pairwise.map _ (fun _ _ h=>h) h
theorem c6 (ws:List Nat):(gT ws).length=ws.length:=List.length_map _
theorem rh (ws:List Nat) (k:Nat):(row ws (k+1)).length=ws.length+(row ws k).length/2:=by rw [row,Bk,c6,cx]
theorem BA (ws:List Nat):kv (gT ws)=ws.sum:=by
 unfold kv gT
 rw [List.map_map]
 congr 1
 exact List.map_id _
theorem jF (ws:List Nat) (a:Nat):(gT ws).take a=gT (ws.take a):=List.map_take.symm
theorem qu (ws:List Nat):aV (gT ws)=ws.length:=by
 unfold aV gT
 rw [List.filter_eq_self.2]
 ·simp
 ·intro x hx;obtain ⟨w,_,rfl⟩:=List.mem_map.1 hx;rfl
theorem yB {l:List It} (h: ∀x∈l,x.2=false):aV l=0:=by
 unfold aV
 rw [List.length_eq_zero_iff,List.filter_eq_nil_iff]
 intro x hx;simp [h x hx]
theorem tu {ws:List Nat}: ∀k,ws.length≤2^(k+1)→2*ws.length - 2≤(row ws k).length:=by
 have key: ∀k c,2^k*c≥ws.length→1≤c→2*ws.length≤(row ws k).length+c:=by
  intro k
  induction k with
  |zero=>intro c h _;simp only [row,c6];omega
  |succ k ih=>
   intro c h hc
   have:=ih (2*c) (by rw [Nat.pow_succ] at h;rw [←Nat.mul_assoc];exact h) (by omega)
   rw [rh];omega
 intro k h
 have:=key k 2 (by rw [Nat.pow_succ] at h;exact h) (by omega)
 omega
theorem lJ {ws:List Nat} (h:qc ws) (k m:Nat) (hm:m≤(row ws (k+1)).length):aV ((row ws (k+1)).take m)≤m∧aV ((row ws (k+1)).take m)≤ws.length∧2*(m - aV ((row ws (k+1)).take m))≤(row ws k).length∧
  kv ((row ws (k+1)).take m)=(ws.take (aV ((row ws (k+1)).take m))).sum+kv ((row ws k).take (2*(m - aV ((row ws (k+1)).take m))))∧
  (∀x∈(row ws k).take (2*(m - aV ((row ws (k+1)).take m))),∀y∈ws.drop (aV ((row ws (k+1)).take m)),x.1<y):=by
 have hl:=rh ws k
 obtain ⟨a,b,h1,h2,h3,h4,h5⟩:=AD (gT ws) (aI (row ws k)) (Ed h) m (by rw [c6,cx,←hl];exact hm)
 rw [c6] at h2
 rw [cx] at h3
 have hlf:aV ((row ws (k+1)).take m)=a:=by
  rw [row,sD h4,l0,jF,qu,yB fun x hx=>pE _ x (List.mem_of_mem_take hx),List.length_take]
  omega
 rw [hlf]
 have hb:m - a=b:=by omega
 rw [hb]
 refine ⟨by omega,h2,by omega,?_,?_⟩
 ·rw [row,Fi h4,Cw,jF,BA,tS _ _ (by omega)]
 ·intro x hx y hy
  obtain ⟨p,hp,hxp⟩:=yA _ _ _ (by omega) hx
  have:=h5 p hp (y,true) (by
   unfold gT
   rw [←List.map_drop]
   exact List.mem_map_of_mem hy)
  exact Nat.lt_of_le_of_lt hxp this
theorem so {ws:List Nat} (m:Nat) (hm:m≤ws.length):aV ((row ws 0).take m)=m∧kv ((row ws 0).take m)=(ws.take m).sum:=by
 rw [row,jF]
 exact ⟨by rw [qu,List.length_take];omega,BA _⟩
def whole (ws:List Nat) (k m:Nat):Nat:=aV ((row ws k).take m)
def lv (ws:List Nat):Nat→Nat→Nat→Nat
 |0,m,i=>if i<whole ws 0 m then 1 else 0
 |k+1,m,i=>(if i<whole ws (k+1) m then 1 else 0)+lv ws k (2*(m - whole ws (k+1) m)) i
theorem nested {ws:List Nat} (h:qc ws) (k m:Nat) (hm:m≤(row ws (k+1)).length):whole ws k (2*(m - whole ws (k+1) m))≤whole ws (k+1) m:=by
 obtain ⟨c1,c2,c3,c4,c5⟩:=lJ h k m hm
 generalize hq:whole ws (k+1) m=a
 unfold whole at hq
 rw [hq] at c1 c2 c3 c4 c5
 rcases Nat.lt_or_ge a (whole ws k (2*(m - a))) with hlt|hge
 ·exfalso
  have hmem: ∀i,i<whole ws k (2*(m - a))→∃(hi:i<ws.length),(ws[i],true)∈(row ws k).take (2*(m - a)):=by
   cases k with
   |zero=>
    intro i hi
    have e0:=so (ws:=ws) (2*(m - a)) (by rw [row,c6] at c3;exact c3)
    unfold whole at hi
    rw [e0.1] at hi
    rw [row,c6] at c3
    refine ⟨by omega,?_⟩
    rw [row,jF]
    unfold gT
    refine List.mem_map_of_mem ?_
    rw [List.mem_iff_getElem]
    exact ⟨i,by rw [List.length_take];omega,by simp⟩
   |succ k=>
    intro i hi
    obtain ⟨a',b',h1,h2,h3,h4,h5⟩:=AD (gT ws) (aI (row ws k)) (Ed h) (2*(m - a)) (by rw [c6,cx,←rh];exact c3)
    rw [c6] at h2
    have hlf:whole ws (k+1) (2*(m - a))=a':=by
     unfold whole
     rw [row,sD h4,l0,jF,qu,yB fun x hx=>pE _ x (List.mem_of_mem_take hx),List.length_take]
     omega
    rw [hlf] at hi
    refine ⟨by omega,?_⟩
    rw [row,h4.mem_iff,List.mem_append]
    left
    rw [jF]
    unfold gT
    refine List.mem_map_of_mem ?_
    rw [List.mem_iff_getElem]
    exact ⟨i,by rw [List.length_take];omega,by simp⟩
  obtain ⟨hi,hx⟩:=hmem a hlt
  have:=c5 _ hx ws[a] (by rw [List.mem_iff_getElem];exact ⟨0,by rw [List.length_drop];omega,by simp⟩)
  simp at this
 ·exact hge
theorem uj {ws:List Nat} (h:qc ws): ∀(k m i:Nat),m≤(row ws k).length→whole ws k m≤i→lv ws k m i=0
 |0,m,i,_,hi=>by unfold lv;rw [if_neg (by omega)]
 |k+1,m,i,hm,hi=>by
  have hn:=nested h k m hm
  unfold lv
  rw [if_neg (by omega),Nat.zero_add]
  exact uj h k _ i (lJ h k m hm).2.2.1 (by omega)
theorem wQ (ws:List Nat): ∀(k m i:Nat),lv ws k m i≤k+1
 |0,m,i=>by unfold lv;split<;>omega
 |k+1,m,i=>by
  have:=wQ ws k (2*(m - whole ws (k+1) m)) i
  unfold lv;split<;>omega
def af (n:Nat) (f:Nat→Nat):Nat:=((List.range n).map f).sum
theorem eb (n:Nat) (f:Nat→Nat):af (n+1) f=af n f+f n:=by
 unfold af
 rw [List.range_succ,List.map_append,List.sum_append];simp
theorem ym (n:Nat) (f g:Nat→Nat):af n (fun i=>f i+g i)=af n f+af n g:=by
 induction n with
 |zero=>rfl
 |succ n ih=>rw [eb,eb,eb,ih];omega
theorem lk {n:Nat} {f g:Nat→Nat} (h: ∀i,i<n→f i=g i):af n f=af n g:=by
 unfold af
 congr 1
 exact List.map_congr_left fun i hi=>h i (List.mem_range.1 hi)
theorem Ci (n c:Nat):af n (fun _=>c)=n*c:=by
 induction n with
 |zero=>simp [af]
 |succ n ih=>rw [eb,ih,Nat.succ_mul]
theorem Fa (n c:Nat) (f:Nat→Nat):af n (fun i=>c*f i)=c*af n f:=by
 induction n with
 |zero=>rfl
 |succ n ih=>rw [eb,eb,ih,Nat.mul_add]
theorem sL (n a:Nat) (ha:a≤n) (c:Nat):af n (fun i=>(if i<a then 1 else 0)*c)=a*c:=by
 have key: ∀n,af n (fun i=>(if i<a then 1 else 0)*c)=min n a*c:=by
  intro n
  induction n with
  |zero=>simp [af]
  |succ n ih=>
   rw [eb,ih]
   by_cases hna:n<a
   ·rw [if_pos hna,Nat.min_eq_left (by omega),Nat.min_eq_left (by omega),Nat.one_mul,Nat.succ_mul]
   ·rw [if_neg hna,Nat.min_eq_right (by omega),Nat.min_eq_right (by omega)];simp
 rw [key,Nat.min_eq_right ha]
def lw (ws:List Nat):Nat→Nat→Nat→Nat
 |0,m,i=>if i<whole ws 0 m then 1 else 0
 |k+1,m,i=>(if i<whole ws (k+1) m then 1 else 0)*2^(k+1)+lw ws k (2*(m - whole ws (k+1) m)) i
theorem C6 {ws:List Nat} (h:qc ws): ∀(k m:Nat),m≤(row ws k).length→af ws.length (lw ws k m)=m*2^k
 |0,m,hm=>by
  have hm':m≤ws.length:=by rw [row,c6] at hm;exact hm
  have e:=so (ws:=ws) m hm'
  have:=sL ws.length m hm' 1
  have e2:af ws.length (lw ws 0 m)=af ws.length (fun i=>(if i<m then 1 else 0)*1):=lk fun i _=>by
   unfold lw whole
   rw [e.1,Nat.mul_one]
  rw [e2,this]
 |k+1,m,hm=>by
  obtain ⟨c1,c2,c3,c4,c5⟩:=lJ h k m hm
  have ih:=C6 h k (2*(m - whole ws (k+1) m)) c3
  have e:af ws.length (lw ws (k+1) m)=af ws.length (fun i=>(if i<whole ws (k+1) m then 1 else 0)*2^(k+1)+lw ws k (2*(m - whole ws (k+1) m)) i):=rfl
  have c1':whole ws (k+1) m≤m:=c1
  have c2':whole ws (k+1) m≤ws.length:=c2
  rw [e,ym,sL _ _ c2',ih,Nat.mul_comm 2,Nat.mul_assoc,←Nat.pow_succ',←Nat.add_mul]
  congr 1;omega
theorem Gm {ws:List Nat} (h:qc ws): ∀(k m i:Nat),m≤(row ws k).length→lw ws k m i+2^(k+1 - lv ws k m i)=2^(k+1)
 |0,m,i,_=>by unfold lw lv;split<;>rfl
 |k+1,m,i,hm=>by
  have c3:=(lJ h k m hm).2.2.1
  have ih:=Gm h k (2*(m - whole ws (k+1) m)) i c3
  have hle:=wQ ws k (2*(m - whole ws (k+1) m)) i
  have hp:=Nat.pow_succ (n:=2) (m:=k+1)
  unfold lw lv
  by_cases hi:i<whole ws (k+1) m
  ·rw [if_pos hi,Nat.one_mul,show k+1+1 - (1+lv ws k (2*(m - whole ws (k+1) m)) i)=k+1 - lv ws k (2*(m - whole ws (k+1) m)) i by omega]
   omega
  ·have hn:=nested h k m hm
   have hz:=uj h k (2*(m - whole ws (k+1) m)) i c3 (by omega)
   rw [hz] at ih⊢
   rw [if_neg hi]
   simp only [Nat.zero_mul,Nat.zero_add,Nat.sub_zero] at ih⊢
   omega
theorem zB {ws:List Nat} (h:qc ws) (k:Nat) (hn:2≤ws.length) (hk:ws.length≤2^(k+1)):af ws.length (fun i=>2^(k+1 - lv ws k (2*ws.length - 2) i))=2^(k+1):=by
 have hm:=tu (ws:=ws) k hk
 have h1:=C6 h k _ hm
 have h2:=ym ws.length (lw ws k (2*ws.length - 2)) (fun i=>2^(k+1 - lv ws k (2*ws.length - 2) i))
 rw [lk (g:=fun _=>2^(k+1)) fun i _=>Gm h k _ i hm,Ci,h1] at h2
 have e1:(2*ws.length - 2)*2^k+2^(k+1)=ws.length*2^(k+1):=by
  have:2*ws.length - 2=2*(ws.length - 1):=by omega
  rw [this,Nat.mul_comm 2,Nat.mul_assoc,←Nat.pow_succ']
  have:ws.length=ws.length - 1+1:=by omega
  conv=>rhs;rw [this,Nat.succ_mul]
 omega
theorem Ac {n:Nat} {f:Nat→Nat} {i:Nat} (hi:i<n):f i≤af n f:=by
 induction n with
 |zero=>omega
 |succ n ih=>
  rw [eb]
  by_cases h:i=n
  ·subst h;omega
  ·have:=ih (by omega);omega
theorem yd {n:Nat} {f:Nat→Nat} {i j:Nat} (hi:i<n) (hj:j<n) (hij:i<j):f i+f j≤af n f:=by
 induction n with
 |zero=>omega
 |succ n ih=>
  rw [eb]
  by_cases h:j=n
  ·subst h
   have:=Ac (f:=f) hij
   omega
  ·have:=ih (by omega) (by omega);omega
theorem Iz {ws:List Nat} (h:qc ws) (k:Nat) (hn:2≤ws.length) (hk:ws.length≤2^(k+1)) {i:Nat} (hi:i<ws.length):1≤lv ws k (2*ws.length - 2) i:=by
 have h1:=zB h k hn hk
 rcases Nat.eq_zero_or_pos (lv ws k (2*ws.length - 2) i) with h0|h0
 ·exfalso
  have hp: ∀j,0<2^(k+1 - lv ws k (2*ws.length - 2) j):=fun j=>Nat.two_pow_pos _
  have e:2^(k+1 - lv ws k (2*ws.length - 2) i)=2^(k+1):=by rw [h0,Nat.sub_zero]
  by_cases hi0:i=0
  ·subst hi0
   have:=yd (f:=fun i=>2^(k+1 - lv ws k (2*ws.length - 2) i)) hi (show 1<ws.length by omega) (by omega)
   have:=hp 1
   omega
  ·have:=yd (f:=fun i=>2^(k+1 - lv ws k (2*ws.length - 2) i)) (show 0<ws.length by omega) hi (by omega)
   have:=hp 0
   omega
 ·exact h0
end Go.Pm
set_option maxRecDepth 20000
namespace Go.Pm
def width (S:Nat→List Nat):Nat→Nat
 |0=>(S 0).length
 |k+1=>(S (k+1)).length*2^(k+1)+width S k
def lenOf (ws:List Nat) (L i:Nat):Nat:=if ws.length=1 then 1 else lv ws (L - 1) (2*ws.length - 2) i
theorem F2 {ws:List Nat} {L:Nat} (ha:qc ws) (hL:1≤L) (hn:ws.length≤2^L) {i:Nat} (hi:i<ws.length):1≤lenOf ws L i∧lenOf ws L i≤L:=by
 unfold lenOf
 split
 ·exact ⟨Nat.le_refl _,hL⟩
 ·obtain ⟨K,rfl⟩: ∃K,L=K+1:=⟨L - 1,by omega⟩
  exact ⟨Iz ha K (by omega) hn hi,wQ ..⟩
end Go.Pm
set_option maxRecDepth 20000
namespace Go.Srt
def bd (t:List Int):Bool:=t.all fun x=>decide (0≤x)&&decide (x≤2147483647)
def nL (l:List Nat):Prop:= ∀x∈l,x≤2147483647
def aL (l ys:List Nat):List Nat:=ys.map fun s=>l.getD s 0
end Go.Srt
namespace Go.Proofs.YtcdpblipagajiaaGreat
open Go Go.Vc Go.Srt Go.Pm
section
variable {E w:World} {F:List HP}
def aT (t:List Int):Array Value:=⟨t.map vI⟩
theorem dF {t:List Int}:(aT t).size=t.length:=by simp [aT]
theorem tW {t:List Int} {i:Nat} (h:i<t.length):(aT t)[i]? =some (Sc.enc (.int .i64) t[i]):=by simp [aT,h,vI]
theorem A6 {l:List Nat}:aT (ints l)=ai .i64 l:=by
 unfold aT ints ai
 rw [List.map_map];rfl
theorem BK {t:List Int} (h:bd t=true): ∃l:List Nat,t=ints l∧nL l:=by
 have h:=List.all_eq_true.1 h
 have h': ∀x∈t,0≤x∧x≤2147483647:=fun x hx=>by have:=h x hx;simpa using this
 refine ⟨t.map Int.toNat,?_,fun y hy=> ?_⟩
 ·unfold ints
  rw [List.map_map]
  refine (List.map_id t).symm.trans (List.map_congr_left fun x hx=> ?_)
  have:=h' x hx
  simp;omega
 ·obtain ⟨x,hx,rfl⟩:=List.mem_map.1 hy
  have:=h' x hx
  omega
theorem oU {l:List Nat} (h:nL l):bd (ints l)=true:=by
 refine List.all_eq_true.2 fun x hx=> ?_
 obtain ⟨y,hy,rfl⟩:=List.mem_map.1 hx
 have:=h y hy
 simp;omega
theorem ga {l:List Nat}:(ints l).length=l.length:=List.length_map _
theorem JJ {x:Int} {K:Bool→World→Prop} (hK:K (!(decide (0≤x)&&decide (x≤2147483647))) w):gO Tryz.prog (.func (.func il) ⟨[]⟩ ⟨[]⟩) [kB] [.int .i64 x] w K:=by
 refine gO.mk (by kernel_rfl) (oI.ok x K w ?_)
 refine aa.mk (fun h=> ?_) (fun h=> ?_)
 ·have h:=of_decide_eq_true h
  have e:(!(decide (0≤x)&&decide (x≤2147483647)))=true:=by simp;omega
  rw [e] at hK;exact hK
 ·have h:=of_decide_eq_false h
  have e:(!(decide (0≤x)&&decide (x≤2147483647)))=decide (x>2147483647):=by
   rw [Bool.eq_iff_iff];simp;omega
  rw [e] at hK;exact hK
set_option maxRecDepth 20000 in
theorem qm {t:List Int} {K:Bool→World→Prop} (h:Hp E w F) (hl:t.length=258) (hK: ∀w',Hp E w' F→K (bd t) w'):Cl Tryz.prog [kB] dx ⟨[.agg (aT t)]⟩ w K:=by
 refine pT.ok _ _ _ ?_
 refine Nw.mk h fun b w1 h1=> ?_
 refine bg.whole (by decide) rfl rfl ?_
 refine ki.ok _ _ _ _ ?_
 refine ml.ok _ _ _ _ ?_
 refine ⟨fun i w'=> ∃k:Nat,i=(k:Int)∧k≤258∧bd (t.take k)=true∧Hp E w' (aj b (.cells (aT t) 41 (0,0))::F),fun i _=>258 - i.toNat,⟨0,rfl,by omega,rfl,h1⟩,?_⟩
 rintro i w' ⟨k,rfl,hk,hv,hh⟩
 refine aa.mk (fun hlt=> ?_) (fun hge=> ?_)
 ·have hlt:k<258:=by have:=of_decide_eq_true hlt;simp only at this;omega
  have hkl:k<t.length:=by omega
  have hsl:aC 1 ⟨some ⟨b,0,none⟩,258,258⟩ (t.map vI) w':=hh.ag (ab.aD (by simp [aT]) (by simpa using hl))
  refine ao.rd hsl (by omega) (by simp only;omega) fun q hq hc=>Ld.sc (s:= .int .i64) t[k] (by rw [hc];simp [vI]) (JJ ?_)
  have es:bd (t.take (k+1))=(bd (t.take k)&&(decide (0≤t[k])&&decide (t[k]≤2147483647))):=by
   unfold bd
   rw [List.take_add_one,List.all_append,List.getElem?_eq_getElem hkl];simp
  rw [hv,Bool.true_and] at es
  rw [←es]
  refine aa.mk (fun hb=> ?_) (fun hb=> ?_)
  ·have hb:bd (t.take (k+1))=false:=by simpa using hb
   have e1:bd t=false:=by
    have:=List.take_append_drop (k+1) t
    rw [←this]
    unfold bd at hb⊢
    rw [List.all_append,hb,Bool.false_and]
   have e2:decide ((k:Int)≥0)=true:=by simp
   show K (!decide ((k:Int)≥0)) w'
   rw [e2]
   have:=hK w' hh.drop
   rw [e1] at this;exact this
  ·have hb:bd (t.take (k+1))=true:=by simpa using hb
   rw [ad (by omega)]
   exact ⟨⟨k+1,rfl,by omega,hb,hh⟩,by dsimp only;omega⟩
 ·have hge:k=258:=by have:=of_decide_eq_false hge;simp only at this;omega
  subst hge
  have e2:decide ((-1:Int)≥0)=false:=by decide
  show K (!decide ((-1:Int)≥0)) w'
  rw [e2]
  have:=hK w' hh.drop
  rw [List.take_of_length_le (by omega)] at hv
  rw [hv] at this;exact this
theorem Fy {x y:Int} {K:Int→World→Prop} (hK: ∀z:Int,(z<0↔x<y)→K z w):Cl Tryz.prog [kI] cu ⟨[.int .i64 x,.int .i64 y]⟩ w K:=by
 refine nk.ok _ _ _ _ ?_
 refine cmp_isNaN_int.ok _ _ _ (cmp_isNaN_int.ok _ _ _ ?_)
 refine aa.f (by simp) (aa.f (by simp) (aa.mk (fun h=>hK _ ?_) (fun h=>aa.mk (fun h2=>hK _ ?_) (fun h2=>hK _ ?_))))
 ·have:=of_decide_eq_true h;omega
 ·have:=of_decide_eq_false h;omega
 ·have:=of_decide_eq_false h;omega
theorem Ge {l:List Nat} {i:Nat} {k:IntKind} (h:i<l.length):(ai k l)[i]? =some (Sc.enc (.int k) (l.getD i 0:Int)):=by
 rw [fD h,List.getD_eq_getElem?_getD,List.getElem?_eq_getElem h];rfl
theorem Jz {l:List Nat} {b:Nat} {t:TypeId} (hl:l.length=258):qX E (aj b (.cells (ai .i64 l) t (0,0))::F) (.func (.func ij) ⟨[]⟩ ⟨[.pointer (some ⟨b,0,none⟩)]⟩) (sA l) (fun x=>0≤x∧x<258):=by
 rintro A w y x K h ⟨hx0,hx⟩ ⟨hy0,hy⟩ hK
 refine gO.mk (by kernel_rfl) ?_
 refine oM.ok y x ⟨b,0,none⟩ K w ?_
 refine aq.mk h fun w1 h1=> ?_
 have h1':=h1.perm List.perm_append_comm
 refine aB.rd (s:= .int .i64) h1' hy0 (by omega) _ (Ge (by omega)) ?_
 refine aB.rd (s:= .int .i64) h1' hx0 (by omega) _ (Ge (by omega)) ?_
 refine Fy fun z hz=>hK z w1 ?_ h1
 rw [hz];rfl
set_option maxRecDepth 20000 in
theorem Dv {t:List Int} {K:Sl→World→Prop} (h:Hp E w F) (hl:t.length=258) (hK1:bd t=false→∀w',Hp E w' F→K ⟨none,0,0⟩ w')
  (hK2: ∀l,t=ints l→nL l→l.length=258→∀ys s w',bF l ys→Hp E w' (ah 1 s ((ints ys).map vI)::F)→K s w'):Cl Tryz.prog [kS] fj ⟨[.agg (aT t)]⟩ w K:=by
 refine qH.ok _ _ _ ?_
 refine Nw.mk h fun b w1 h1=>Ld.arr h1 (by rw [dF,hl]) (qm h1 hl fun w2 h2=> ?_)
 refine aa.mk (fun hv=>hK1 (by simpa using hv) w2 h2.drop) (fun hv=> ?_)
 have hv:bd t=true:=by simpa using hv
 obtain ⟨l,rfl,hm⟩:=BK hv
 rw [ga] at hl
 rw [A6] at h2
 refine Ld.arr h2 (by rw [aJ,hl]) ?_
 refine ⟨fun o i w'=> ∃k:Nat,i=(k:Int)∧k≤258∧Hp E w' (ah 1 o ((ints (eO l k)).map vI)::aj b (.cells (ai .i64 l) 41 (0,0))::F),fun _ i _=>258 - i.toNat,⟨0,rfl,by omega,h2.bl 1⟩,?_⟩
 intro o i w' hI
 obtain ⟨k,hi,hk,hh⟩:=hI
 subst hi
 refine aa.mk (fun hlt=> ?_) (fun hge=> ?_)
 ·have hlt:k<258:=by have:=of_decide_eq_true hlt;omega
  have hkl:k<l.length:=by omega
  refine ez.rd (s:= .int .i64) (by omega) (by omega) _ (FP hkl) ?_
  refine aa.mk (fun hp=> ?_) (fun hp=> ?_)
  ·have hp:0<l.getD k 0:=by have:=of_decide_eq_true hp;omega
   refine Nw.mk hh fun b2 w3 h3=> ?_
   have ho:=hh.aO
   have hu:=lj l k
   simp only [List.length_map,ints,Nat.mul_one] at ho
   refine aM (ys:= [vI (k:Int)]) (n:=1) iO (by decide) (.inl ⟨3,by kernel_rfl⟩) h3.p1 (.inl ⟨some ⟨b2,0,none⟩,1,1,rfl,rfl,h3.ag (ab.aD rfl rfl)⟩) rfl tH (by omega) (by omega) fun s' w4 h4 hs'=> ?_
   rw [ad (by omega)]
   refine ⟨⟨k+1,rfl,by omega,?_⟩,by dsimp only;omega⟩
   rw [kc,if_pos hp,xp,List.map_append]
   exact h4.p1.drop
  ·have hp: ¬0<l.getD k 0:=by have:=of_decide_eq_false hp;omega
   rw [ad (by omega)]
   refine ⟨⟨k+1,rfl,by omega,?_⟩,by dsimp only;omega⟩
   rw [kc,if_neg hp,List.append_nil]
   exact hh
 ·have hge:k=258:=by have:=of_decide_eq_false hge;omega
  subst hge
  have hin: ∀x∈eO l 258,x<258:=fun x hx=>by
   have:=(List.mem_filter.1 hx).1
   simpa using this
  refine qz (key:=sA l) (D:=fun x=>0≤x∧x<258) hh (by have:=lj l 258;rw [av];simp only [ints,List.length_map];omega) (Jz hl) (fun x hx=> ?_) ?_ fun ys w3 hp hs h3=> ?_
  ·obtain ⟨y,hy,rfl⟩:=List.mem_map.1 hx
   have:=hin y hy
   omega
  ·unfold ints
   refine List.Pairwise.map _ (fun a b hab=>Int.ofNat_lt.2 hab) ?_
   exact List.Pairwise.filter _ List.pairwise_lt_range
  ·have hU:eO l 258=used l:=by unfold eO used;rw [hl]
   rw [hU] at hp
   have e:ys=ints (ys.map Int.toNat):=by
    unfold ints
    rw [List.map_map]
    refine (List.map_id ys).symm.trans (List.map_congr_left fun x hx=> ?_)
    obtain ⟨y,_,rfl⟩:=List.mem_map.1 (hp.mem_iff.1 hx)
    simp
   have pN:(ys.map Int.toNat).Perm (used l):=by
    have:=hp.map Int.toNat
    refine this.trans ?_
    unfold ints
    rw [List.map_map]
    refine List.Perm.of_eq ((List.map_congr_left fun x _=> ?_).trans (List.map_id _))
    simp
   rw [e] at h3 hs
   refine hK2 l rfl hm hl (ys.map Int.toNat) _ w3 ⟨pN,?_⟩ h3.p1.drop
   refine (List.pairwise_map.1 hs).imp fun {a b} hab=> ?_
   unfold Ky sA at hab
   simp only [Int.toNat_natCast] at hab
   omega
def eH (x:It):List Value:= [.int .i64 (x.1:Int),.bool x.2]
theorem cG: ∀x,(eH x).length=2:=fun _=>rfl
theorem lP: ∀x,∀y∈eH x,aw y=true:=by
 intro x y hy
 simp only [eH,List.mem_cons,List.not_mem_nil,or_false] at hy
 rcases hy with rfl|rfl<;>rfl
theorem km:cp Tryz.prog 189 194 2 16:=cp.of (by kernel_rfl) (by kernel_rfl)
theorem E0 {ws:List Nat} {k:Nat} (h:k<ws.length):gT (ws.take (k+1))=gT (ws.take k)++ [(ws[k],true)]:=by
 unfold gT
 rw [List.take_add_one,List.map_append,List.getElem?_eq_getElem h];rfl
theorem El {s:Sl} {ys:List Nat} {i:Nat} {K:Int→Prop} (hs:aC 1 s ((ints ys).map vI) w) (hi:i<ys.length) (hK:K (ys[i]:Int)):ao s (i:Int) 1 fun q=>Ld kI q w K:=by
 have hl:=hs.1
 simp only [List.length_map,ints,Nat.mul_one] at hl
 refine ao.rd hs (by omega) (by omega) fun q hq hc=>Ld.sc (s:= .int .i64) (ys[i]:Int) ?_ hK
 rw [hc];simp [vI,ints]
set_option maxRecDepth 20000 in
theorem FY {l ys:List Nat} {s:Sl} {K:Sl→World→Prop} (h:Hp E w F) (hl:l.length=258) (hs:ab F (aC 1 s ((ints ys).map vI))) (hin: ∀x∈ys,x<258) (hlen:ys.length≤258)
  (hK: ∀s' w',Hp E w' (ah 2 s' ((gT (aL l ys)).flatMap eH)::F)→K s' w'):Cl Tryz.prog [kS] eS ⟨[.agg (ai .i64 l),.slice s.base s.len s.cap]⟩ w K:=by
 refine pR.ok _ _ _ _ ?_
 have hsl:=(h.ag hs).1
 simp only [List.length_map,ints,Nat.mul_one] at hsl
 have hwl:(aL l ys).length=ys.length:=List.length_map _
 refine Nw.mk h fun b w1 h1=>⟨fun o i w'=> ∃k:Nat,i=(k:Int)∧k≤ys.length∧Hp E w' (ah 2 o ((gT ((aL l ys).take k)).flatMap eH)::aj b (.cells (ai .i64 l) 41 (0,0))::F),fun _ i _=>ys.length - i.toNat,⟨0,rfl,by omega,by simpa [gT] using h1.bl 2⟩,?_⟩
 rintro o i w' ⟨k,rfl,hk,hh⟩
 refine aa.mk (fun hlt=> ?_) (fun hge=> ?_)
 ·have hlt:k<ys.length:=by have:=of_decide_eq_true hlt;omega
  have hx:=hin _ (List.getElem_mem hlt)
  refine El (hh.drop.drop.ag hs) hlt ?_
  refine aB.rd (s:= .int .i64) hh.p1 (by omega) (by omega) _ (FP (by omega)) ?_
  have hw:(aL l ys)[k]'(by omega)=l.getD ys[k] 0:=by simp [aL]
  refine BJ (g:=eH) (x:=(l.getD ys[k] 0,true)) km cG (by decide) rfl (lP _) hh (by rw [c6,List.length_take];omega) (by rw [c6,List.length_take];omega) fun s' w3 h3 _=> ?_
  rw [ad (by omega)]
  refine ⟨⟨k+1,rfl,by omega,?_⟩,by dsimp only;omega⟩
  rw [E0 (by omega),hw];exact h3
 ·have hge:k=ys.length:=by have:=of_decide_eq_false hge;omega
  subst hge
  rw [List.take_of_length_le (by omega)] at hh
  exact hK _ _ hh.p1.drop
end
end Go.Proofs.YtcdpblipagajiaaGreat
set_option maxRecDepth 20000
namespace Go.Srt
def eF (ys:List Nat) (f:Nat→Nat):List Nat:=(List.range 258).map fun s=>if s∈ys then f (ys.idxOf s) else 0
theorem fI (ys:List Nat) (f:Nat→Nat):(eF ys f).length=258:=by simp [eF]
theorem CW {ys:List Nat} {f:Nat→Nat} {s:Nat} (hs:s<258):(eF ys f).getD s 0=if s∈ys then f (ys.idxOf s) else 0:=by
 unfold eF
 rw [List.getD_eq_getElem?_getD,List.getElem?_map,List.getElem?_range hs];rfl
theorem pZ: ∀{ys:List Nat} (_:ys.Nodup) {i:Nat} (hi:i<ys.length),ys.idxOf ys[i]=i
 |y::ys,h,0,_=>by simp [List.idxOf_cons]
 |y::ys,h,i+1,hi=>by
  obtain ⟨h1,h2⟩:=List.nodup_cons.1 h
  have hi':i<ys.length:=by simpa using hi
  have hne: ¬y=ys[i]:=fun e=>h1 (e▸List.getElem_mem hi')
  have:=pZ h2 hi'
  have e:(y==ys[i])=false:=by simpa using hne
  simp only [List.getElem_cons_succ,List.idxOf_cons,this,e,cond_false]
theorem uw {ys:List Nat} {f:Nat→Nat} (hn:ys.Nodup) (hin: ∀s∈ys,s<258) {i:Nat} (hi:i<ys.length):(eF ys f).getD ys[i] 0=f i:=by
 rw [CW (hin _ (List.getElem_mem hi)),if_pos (List.getElem_mem hi),pZ hn hi]
theorem qo {ys:List Nat} {f g:Nat→Nat} (h: ∀i,i<ys.length→f i=g i):eF ys f=eF ys g:=by
 unfold eF
 refine List.map_congr_left fun s _=> ?_
 by_cases hs:s∈ys
 ·rw [if_pos hs,if_pos hs,h _ (List.idxOf_lt_length_of_mem hs)]
 ·rw [if_neg hs,if_neg hs]
theorem Bg {ys:List Nat} {f:Nat→Nat} {i v:Nat} (hn:ys.Nodup) (hi:i<ys.length):(eF ys f).set ys[i] v=eF ys (fun j=>if j=i then v else f j):=by
 refine List.ext_getElem (by simp [eF]) fun s h1 h2=> ?_
 have hs:s<258:=by rw [fI] at h2;exact h2
 rw [List.getElem_set]
 unfold eF
 simp only [List.getElem_map,List.getElem_range]
 by_cases e:ys[i]=s
 ·rw [if_pos e]
  subst e
  rw [if_pos (List.getElem_mem hi),pZ hn hi,if_pos rfl]
 ·rw [if_neg e]
  by_cases hm:s∈ys
  ·rw [if_pos hm,if_pos hm]
   have hlt:=List.idxOf_lt_length_of_mem hm
   have:ys.idxOf s≠i:=by
    intro e2
    apply e
    have:=List.getElem_idxOf hlt
    rw [←this]
    simp only [e2]
   rw [if_neg this]
  ·rw [if_neg hm,if_neg hm]
theorem Fh (ys:List Nat):eF ys (fun _=>0)=List.replicate 258 0:=by
 refine List.eq_replicate_iff.2 ⟨fI ..,fun x hx=> ?_⟩
 obtain ⟨s,_,rfl⟩:=List.mem_map.1 hx
 split<;>rfl
theorem pY {l ys:List Nat} (h:bF l ys):ys.Nodup:=h.2.imp fun {a b} hab e=>by subst e;omega
theorem uB {l ys:List Nat} (h:bF l ys):Pm.qc (aL l ys):=List.Pairwise.map _ (fun _ _ hab=>hab) (h.2.imp fun {a b} hab=>by omega)
end Go.Srt
namespace Go.Proofs.YtcdpblipagajiaaGreat
open Go Go.Vc Go.Srt Go.Pm
section
variable {E w:World} {F:List HP}
theorem FD {R:List It} {j:Nat} (h:2*j+1<R.length):aI (R.drop (2*j))=((R[2*j]'(by omega)).1+R[2*j+1].1,false)::aI (R.drop (2*(j+1))):=by
 rw [List.drop_eq_getElem_cons (show 2*j<R.length by omega),List.drop_eq_getElem_cons (show 2*j+1<R.length by omega),aI]
 rfl
theorem DB {R:List It} {j:Nat} (h: ¬2*j+1<R.length):aI (R.drop (2*j))= []:=by
 have:(aI (R.drop (2*j))).length=0:=by rw [cx,List.length_drop];omega
 exact List.length_eq_zero_iff.1 this
set_option maxRecDepth 20000 in
theorem IX {f1 f2:Sl} {A R:List It} {K:Sl→World→Prop} (h:Hp E w F) (hA:ab F (aC 2 f1 (A.flatMap eH))) (hR:ab F (aC 2 f2 (R.flatMap eH))) (hcap:f1.len≤f1.cap)
  (hb: ∀x∈R,x.1≤2^60) (hlA:A.length≤2^20) (hlR:R.length≤2^20)
  (hK: ∀s' w',Hp E w' (ah 2 s' ((fS A (aI R)).flatMap eH)::F)→K s' w'):Cl Tryz.prog [kS] fN ⟨[.slice f1.base f1.len f1.cap,.slice f2.base f2.len f2.cap]⟩ w K:=by
 refine rp.ok _ _ _ _ ?_
 have la:=aC.len cG (by decide) (h.ag hA)
 have lr:=aC.len cG (by decide) (h.ag hR)
 have hpl:=cx R
 have htl:(fS A (aI R)).length=A.length+R.length/2:=by rw [Bk,hpl]
 have hsz: ∀o X:List It,o++X=fS A (aI R)→o.length≤2^21:=fun o X e=>by
  have:=congrArg List.length e
  rw [List.length_append,htl] at this
  omega
 refine ⟨fun o k i w'=> ∃(a j:Nat) (l:List It),k=(a:Int)∧i=((2*j:Nat):Int)∧a≤A.length∧2*j≤R.length∧l++fS (A.drop a) (aI (R.drop (2*j)))=fS A (aI R)∧Hp E w' (ah 2 o (l.flatMap eH)::F),
  fun _ _ i _=>R.length - i.toNat,⟨0,0,[],rfl,rfl,by omega,by omega,by simp,h.bl 2⟩,?_⟩
 rintro o k i w' ⟨a,j,l,rfl,rfl,ha,hj,heq,hh⟩
 have hll:=hsz _ _ heq
 rw [ad (x:=((2*j:Nat):Int)+1) (by omega)]
 refine aa.mk (fun hlt=> ?_) (fun hge=> ?_)
 ·have hlt:2*j+1<R.length:=by have:=of_decide_eq_true hlt;omega
  rw [FD hlt] at heq
  have hx1:=hb _ (List.getElem_mem (show 2*j<R.length by omega))
  have hx2:=hb _ (List.getElem_mem hlt)
  have hd:Hp E {w' with drawn:=w'.drawn+1} (ah 2 o (l.flatMap eH)::F):=hh.drew
  refine ⟨cA E F,cA.vy hd,?_⟩
  refine ao.Gu (n:=2*j) cG (by decide) hd.drop hR rfl (by omega) fun p hp=> ?_
  refine ae.sc (s:= .int .i64) ((R[2*j]'(by omega)).1:Int) (fun w2 h2=>(h2.ag (hp 0 (by decide))).trans (by simp [eH])) ?_
  refine ao.Gu (n:=2*j+1) cG (by decide) hd.drop hR (by omega) hlt fun q hq=> ?_
  refine ae.sc (s:= .int .i64) (R[2*j+1].1:Int) (fun w2 h2=>(h2.ag (hq 0 (by decide))).trans (by simp [eH])) ?_
  rw [ad (x:=((R[2*j]'(by omega)).1:Int)+(R[2*j+1].1:Int)) (by omega)]
  generalize hp1:(R[2*j]'(by omega)).1+R[2*j+1].1=p1 at heq
  have hp1':((R[2*j]'(by omega)).1:Int)+(R[2*j+1].1:Int)=(p1:Int):=by omega
  rw [hp1']
  refine Nw.mk hd fun b w3 h3=>⟨cA.IH h3,?_⟩
  refine ak.aD h3 rfl (lP (p1,false)) fun w4 h4=>⟨cA.IH h4,?_⟩
  refine ⟨fun o k w'=> ∃(a:Nat) (l:List It),k=(a:Int)∧a≤A.length∧l++fS (A.drop a) ((p1,false)::aI (R.drop (2*(j+1))))=fS A (aI R)∧Hp E w' (ah 2 o (l.flatMap eH)::aj b (.cells ⟨eH (p1,false)⟩ 194 (0,0))::F),
   fun _ k _=>A.length - k.toNat,⟨a,l,rfl,ha,heq,h4.p1⟩,?_⟩
  rintro o k w5 ⟨a,l,rfl,ha,heq,hh⟩
  have hll:=hsz _ _ heq
  refine aq.mk hh fun w6 h6=> ?_
  rw [ad (x:=((2*j:Nat):Int)+2) (by omega)]
  have last:A.drop a= []∨(∃(_:a<A.length),¬A[a].1≤p1)→(l++ [(p1,false)])++fS (A.drop a) (aI (R.drop (2*(j+1))))=fS A (aI R):=by
   rintro (e|⟨hal,hgt⟩)
   ·rw [e,om] at heq
    rw [e,om,←heq];simp
   ·rw [List.drop_eq_getElem_cons hal,xc hgt] at heq
    rw [List.drop_eq_getElem_cons hal,←heq];simp
  refine aa.mk (fun hka=> ?_) (fun hka=> ?_)
  ·have hka:a<A.length:=by have:=of_decide_eq_true hka;omega
   refine ao.el (n:=a) cG (by decide) (h6.drop.drop.ag hA) rfl hka fun p hp=> ?_
   refine Ld.sc (s:= .int .i64) (A[a].1:Int) (by rw [hp 0 (by decide)];simp [eH]) ?_
   rw [au]
   refine Ld.aD h6.p1 (p1:Int) (by simp [eH]) ?_
   refine aa.mk (fun hle=> ?_) (fun hgt=> ?_)
   ·have hle:A[a].1≤p1:=by have:=of_decide_eq_true hle;omega
    rw [List.drop_eq_getElem_cons hka,yU hle] at heq
    refine ao.el (n:=a) cG (by decide) (h6.drop.drop.ag hA) rfl hka fun p hp=> ?_
    refine Ld.st (ks:= [.int .i64,.bool]) ((A[a].1:Int),A[a].2,()) (fun j hj=>hp j hj) ?_
    refine BJ (g:=eH) (x:=A[a]) km cG (by decide) rfl (lP _) h6 (by omega) (by omega) fun s' w7 h7 _=> ?_
    rw [ad (by omega)]
    refine ⟨⟨a+1,l++ [A[a]],rfl,by omega,?_,h7⟩,by dsimp only;omega⟩
    rw [←heq];simp
   ·have hgt: ¬A[a].1≤p1:=by have:=of_decide_eq_false hgt;omega
    refine Ld.pr (ks:= [.int .i64,.bool]) h6.p1 ((p1:Int),false,()) rfl ?_
    refine BJ (g:=eH) (x:=(p1,false)) km cG (by decide) rfl (lP _) h6 (by omega) (by omega) fun s' w7 h7 _=> ?_
    exact ⟨⟨a,j+1,l++ [(p1,false)],rfl,by omega,ha,by omega,last (.inr ⟨hka,hgt⟩),h7.p1.drop⟩,by dsimp only;omega⟩
  ·have hka:A.drop a= []:=by
    have:=of_decide_eq_false hka
    exact List.drop_eq_nil_of_le (by omega)
   refine Ld.pr (ks:= [.int .i64,.bool]) h6.p1 ((p1:Int),false,()) rfl ?_
   refine BJ (g:=eH) (x:=(p1,false)) km cG (by decide) rfl (lP _) h6 (by omega) (by omega) fun s' w7 h7 _=> ?_
   exact ⟨⟨a,j+1,l++ [(p1,false)],rfl,by omega,ha,by omega,last (.inl hka),h7.p1.drop⟩,by dsimp only;omega⟩
 ·have hge: ¬2*j+1<R.length:=by have:=of_decide_eq_false hge;omega
  rw [DB hge,ur] at heq
  refine bg.el (a:=a) (b:=A.length) (l:=A) cG la rfl (by rw [la]) ha (Nat.le_refl _) (by omega) (Int.le_refl _) fun s' hs' hl' _=> ?_
  have hd:=hs' w' (hh.drop.ag hA)
  rw [List.take_of_length_le (by rw [List.length_drop];omega)] at hd
  have hdl:(A.drop a).length≤2^20:=by rw [List.length_drop];omega
  refine HZ (g:=eH) km cG (by decide) lP hh hd (by omega) (by omega) fun s2 w2 h2 _=>hK s2 w2 ?_
  rw [←heq];exact h2
end
end Go.Proofs.YtcdpblipagajiaaGreat
set_option maxRecDepth 20000
namespace Go.Pm
theorem rH {M:Nat}: ∀{l:List It},(∀x∈l,x.1≤M)→∀x∈aI l,x.1≤2*M
 | [],_,x,h=>by simp [aI] at h
 | [_],_,x,h=>by simp [aI] at h
 |a::b::l,hl,x,h=>by
  rw [aI] at h
  rcases List.mem_cons.1 h with rfl|h
  ·have:=hl a (by simp);have:=hl b (by simp);simp only;omega
  ·exact rH (fun y hy=>hl y (by simp [hy])) x h
theorem vN {ws:List Nat} {M:Nat} (h: ∀x∈ws,x≤M): ∀k,∀x∈row ws k,x.1≤M*2^k
 |0,x,hx=>by
  obtain ⟨y,hy,rfl⟩:=List.mem_map.1 hx
  simpa using h y hy
 |k+1,x,hx=>by
  rcases List.mem_append.1 ((zF _ _).mem_iff.1 hx) with hx|hx
  ·obtain ⟨y,hy,rfl⟩:=List.mem_map.1 hx
   have:=h y hy
   have:=Nat.le_mul_of_pos_right M (Nat.two_pow_pos (k+1))
   simp only;omega
  ·have:=rH (vN h k) x hx
   rw [Nat.pow_succ];rw [←Nat.mul_assoc];omega
theorem pg (ws:List Nat): ∀k,(row ws k).length≤2*ws.length
 |0=>by rw [row,c6];omega
 |k+1=>by
  have:=pg ws k
  rw [rh];omega
theorem BY {l:List It} {j:Nat} (h:j<l.length):aV (l.take (j+1))=aV (l.take j)+if l[j].2=true then 1 else 0:=by
 unfold aV
 rw [List.take_add_one,List.filter_append,List.length_append,List.getElem?_eq_getElem h]
 congr 1
 by_cases e:l[j].2=true
 ·rw [if_pos e];simp [e]
 ·rw [if_neg e];simp [e]
theorem sR {l:List It} {a b:Nat} (h:a≤b):aV (l.take a)≤aV (l.take b):=by
 have:=List.take_append_drop a (l.take b)
 rw [List.take_take,Nat.min_eq_left h] at this
 have h2:=congrArg aV this
 rw [l0] at h2
 omega
theorem Fv (ws:List Nat) {L:Nat} (hL:1≤L) (i:Nat):lenOf ws L i≤L:=by
 unfold lenOf
 split
 ·exact hL
 ·have:=wQ ws (L - 1) (2*ws.length - 2) i
  omega
theorem CX {ws:List Nat} (h:qc ws) (k m:Nat) (hm:m≤(row ws k).length):aV ((row ws k).take m)≤ws.length:=by
 cases k with
 |zero=>
  rw [row,c6] at hm
  rw [(so m hm).1];exact hm
 |succ k=>exact (lJ h k m hm).2.1
end Go.Pm
namespace Go.Proofs.YtcdpblipagajiaaGreat
open Go Go.Vc Go.Srt Go.Pm
section
variable {E w:World} {F:List HP}
theorem pk {b:Nat} {t:TypeId} {l:List Nat} {K:Array Value→World→Prop} (h:Hp E w (aj b (.cells (ai .u8 l) t (0,0))::F)) (hl:l.length=258) (hK: ∀w',Hp E w' (aj b (.cells (ai .u8 l) t (0,0))::F)→K (ai .u8 l) w'):
  Ld (.arr 258) ⟨b,0,none⟩ w fun x=>ar 258 ⟨b,0,none⟩ x w fun w2=>Ld (.arr 258) ⟨b,0,none⟩ w2 fun r=>K r w2:=
 Ld.arr h (by rw [aJ,hl]) (ar.aD h (by rw [aJ,hl]) (by rw [aJ,hl]) dz fun w2 h2=>Ld.arr h2 (by rw [aJ,hl]) (hK w2 h2))
def nb (s:Sl):List Value:= [.slice s.base s.len s.cap]
theorem oq: ∀x,(nb x).length=1:=fun _=>rfl
theorem Ip: ∀x,∀y∈nb x,aw y=true:=by
 intro x y hy
 have:y= .slice x.base x.len x.cap:=by simpa [nb] using hy
 rw [this];rfl
theorem G7:cp Tryz.prog 191 189 1 24:=cp.of (by kernel_rfl) (by kernel_rfl)
def sM (ws:List Nat) (rs:List Sl) (G:List HP):Prop:= ∀j (hj:j<rs.length),ab G (aC 2 rs[j] ((row ws j).flatMap eH))∧rs[j].len≤rs[j].cap
theorem sM.more {ws:List Nat} {rs:List Sl} {G:List HP} {s:Sl} (h:sM ws rs G) (hc:s.len≤s.cap):sM ws (rs++ [s]) (ah 2 s ((row ws rs.length).flatMap eH)::G):=by
 intro j hj
 rcases Nat.lt_or_ge j rs.length with hlt|hge
 ·rw [List.getElem_append_left hlt]
  exact ⟨(h j hlt).1.cons,(h j hlt).2⟩
 ·have:j=rs.length:=by simp at hj;omega
  subst this
  simp only [List.getElem_append_right (Nat.le_refl _),Nat.sub_self,List.getElem_cons_zero]
  exact ⟨ab.own,hc⟩
theorem GR {L:Nat} (hL:L≤15):a8 .i64 1 (u64 (L:Int))=((2^L:Nat):Int)∧(0:Int)≤u64 (L:Int):=by
 rw [lQ (by omega)]
 have hp:2^L≤2^15:=Nat.pow_le_pow_right (by decide) hL
 have hm:IntKind.max .i64=9223372036854775807:=rfl
 have:=dM (k:= .i64) (a:=1) (b:=L) (by have:IntKind.bits .i64=64:=rfl;omega) (by rw [hm];omega)
 rw [Nat.one_mul] at this
 exact ⟨this,by omega⟩
theorem Ct {l ys:List Nat} (hm:nL l): ∀x∈aL l ys,x≤2147483647:=by
 intro x hx
 obtain ⟨s,_,rfl⟩:=List.mem_map.1 hx
 rw [List.getD_eq_getElem?_getD]
 cases h:l[s]? with
 |none=>simp
 |some y=>exact hm y (List.mem_of_getElem? h)
theorem Jw {l ys:List Nat} (hm:nL l) {k:Nat} (hk:k≤15): ∀x∈row (aL l ys) k,x.1≤2^60:=by
 intro x hx
 have h1:=vN (Ct (ys:=ys) hm) k x hx
 have hp:2^k≤2^15:=Nat.pow_le_pow_right (by decide) hk
 have:=Nat.mul_le_mul_left 2147483647 hp
 omega
set_option maxRecDepth 20000 in
theorem zZ {t:List Int} {L:Int} {K:Array Value→Int→World→Prop} (h:Hp E w F) (hl:t.length=258)
  (hK1:(bd t=false∨L<1∨15<L∨∃l,t=ints l∧(2:Int)^L.toNat<(used l).length)→∀w',Hp E w' F→K (ai .u8 (List.replicate 258 0)) 2 w')
  (hK2: ∀l ys w',t=ints l→nL l→bF l ys→1≤L→L≤15→ys.length≤2^L.toNat→Hp E w' F→K (ai .u8 (eF ys (lenOf (aL l ys) L.toNat))) 0 w'):
  Cl Tryz.prog [.arr 258,kI] cP ⟨[.agg (aT t),.int .i64 L]⟩ w K:=by
 refine pF.ok _ _ _ _ ?_
 rw [uL]
 simp only [aH]
 refine Nw.mk h fun b4 w1 h1=>Nw.mk h1 fun b6 w2 h2=>Ld.arr h2.p1 (by rw [dF,hl]) (Dv h2 hl (fun hv w3 h3=> ?_) (fun l hte hm hll ys s w3 hys h3=> ?_))
 ·refine Ld.arr h3.p1 (by rw [dF,hl]) (qm h3 hl fun w4 h4=>aa.t (by rw [hv];rfl) (pk h4 (by simp) fun w5 h5=>hK1 (.inl hv) w5 h5.drop.drop))
 ·subst hte
  have hlen:=IJ hll hys
  have hin:=HS hll hys
  have hsl:s.len=ys.length:=by
   have:=(h3.ag ab.own).1
   simp only [List.length_map,ints,Nat.mul_one] at this
   exact this.symm
  refine Ld.arr h3.p2 (by rw [dF,hl]) (qm h3 hl fun w4 h4=>aa.f (by rw [oU hm];rfl) ?_)
  refine aa.mk (fun hlt=>pk h4.p1 (by simp) fun w5 h5=>hK1 (.inr (.inl (of_decide_eq_true hlt))) w5 h5.drop.drop.drop) (fun hge=> ?_)
  have hge:=of_decide_eq_false hge
  refine aa.mk (fun hgt=>pk h4.p1 (by simp) fun w5 h5=>hK1 (.inr (.inr (.inl (by have:=of_decide_eq_true hgt;omega)))) w5 h5.drop.drop.drop) (fun hle=> ?_)
  have hle:=of_decide_eq_false hle
  obtain ⟨N,rfl⟩:=Int.eq_ofNat_of_zero_le (show 0≤L by omega)
  have hN:N≤15:=by omega
  have hN1:1≤N:=by omega
  obtain ⟨e1,e2⟩:=GR hN
  rw [e1]
  refine ⟨e2,aa.mk (fun hgt=>pk h4.p1 (by simp) fun w5 h5=>hK1 (.inr (.inr (.inr ⟨l,rfl,?_⟩))) w5 h5.drop.drop.drop) (fun hle2=> ?_)⟩
  ·have hgt:=of_decide_eq_true hgt
   rw [Int.toNat_natCast,←hys.1.length_eq,←hsl]
   rw [show (2:Int)^N=((2^N:Nat):Int) by norm_cast]
   exact hgt
  have hle2:ys.length≤2^N:=by have:=of_decide_eq_false hle2;omega
  have hasc:=uB hys
  have hwl:(aL l ys).length=ys.length:=List.length_map _
  have hnd:=pY hys
  have hin2: ∀s∈ys,s<258:=fun s hs=>(hin s hs).1
  have fine: ∀w',Hp E w' F→K (ai .u8 (eF ys (lenOf (aL l ys) N))) 0 w':=fun w' h'=>hK2 l ys w' rfl hm hys (by omega) (by omega) (by rw [Int.toNat_natCast];exact hle2) h'
  rw [←Fh ys] at h4
  refine aa.mk (fun h1=> ?_) (fun h1=> ?_)
  ·have h1:ys.length=1:=by have:(s.len:Int)=1:=by simpa using h1
                           omega
   refine El (i:=0) (h4.ag ab.own) (by omega) ?_
   have hx:=hin2 _ (List.getElem_mem (show 0<ys.length by omega))
   refine aB.wr h4.p1 (by omega) (by omega) (by rw [aJ,fI]) rfl fun w5 h5=> ?_
   rw [Int.toNat_natCast] at h5
   have e:=xO (k:= .u8) (l:=eF ys fun _=>0) (i:=ys[0]) (x:=1)
   rw [show (Value.int .u8 1)= .int .u8 ((1:Nat):Int) from rfl,e,Bg hnd (by omega)] at h5
   have e3:eF ys (fun j=>if j=0 then 1 else 0)=eF ys (lenOf (aL l ys) N):=qo fun i hi=>by
    have:i=0:=by omega
    subst this
    unfold lenOf
    rw [if_pos rfl,if_pos (by omega)]
   rw [e3] at h5
   exact pk h5 (fI ..) fun w6 h6=>fine w6 h6.drop.drop.drop
  ·have h1:ys.length≠1:=by
    intro e
    have: ¬(s.len:Int)=1:=by simpa using h1
    omega
   rw [A6] at h4
   refine Ld.arr h4.p2 (by rw [aJ,hll]) (FY h4 hll ab.own hin2 hlen fun s0 w5 h5=>Nw.mk h5 fun b38 w6 h6=> ?_)
   have hc0:=h5.ej
   refine ⟨fun rows k w'=> ∃(rs:List Sl) (G:List HP),k=(rs.length:Int)∧1≤rs.length∧rs.length≤N∧sM (aL l ys) rs G∧
     Hp E w' (ah 1 rows (rs.flatMap nb)::aj b6 (.cells (ai .u8 (eF ys fun _=>0)) 36 (0,0))::ah 1 s ((ints ys).map vI)::aj b4 (.cells (ai .i64 l) 41 (0,0))::(G++F)),
    fun _ k _=>N - k.toNat,⟨[s0],[ah 2 s0 ((gT (aL l ys)).flatMap eH)],rfl,Nat.le_refl _,hN1,?_,?_⟩,?_⟩
   ·intro j hj
    have:j=0:=by simp at hj;omega
    subst this
    exact ⟨ab.own,hc0⟩
   ·exact ((h6.fC (sz:=1) (n:=1) rfl).p1.q4).p2.p1
   rintro rows k w7 ⟨rs,G,rfl,hr1,hrN,hrs,hh⟩
   have hrl:=aC.len oq (by decide) (hh.ag ab.own)
   refine aa.mk (fun hlt=> ?_) (fun hge=> ?_)
   ·have hlt:rs.length<N:=by have:=of_decide_eq_true hlt;omega
    have hd:Hp E {w7 with drawn:=w7.drawn+1} _:=hh.drew
    have hrd: ∀w',Hp E w' (ah 1 rows (rs.flatMap nb)::aj b6 (.cells (ai .u8 (eF ys fun _=>0)) 36 (0,0))::ah 1 s ((ints ys).map vI)::aj b4 (.cells (ai .i64 l) 41 (0,0))::(G++F))→aC 1 rows (rs.flatMap nb) w':=fun w' h'=>h'.ag ab.own
    have key: ∀(i:Nat) (hi:i<rs.length) {K:Addr→Prop},(∀p,(∀w,aC 1 rows (rs.flatMap nb) w→w.cell? p=some (.slice rs[i].base rs[i].len rs[i].cap))→K p)→ao rows (i:Int) 1 K:=by
     intro i hi K hK
     obtain ⟨p,hp,_⟩:=(hrd _ hd).2 i (by rw [cE oq];omega)
     refine ⟨p,hp,by omega,by omega,hK _ fun w2 h2=> ?_⟩
     obtain ⟨q,hq,hc⟩:=h2.2 i (by rw [cE oq];omega)
     have:q=p:=Option.some.inj (hq.symm.trans hp)
     subst this
     rw [Int.toNat_natCast,Nat.mul_one,hc]
     have:=ic oq rs i 0 hi (by decide)
     rw [Nat.mul_one,Nat.add_zero] at this
     rw [←List.getElem?_eq_getElem,this];rfl
    have hr0:=hrs 0 (by omega)
    have hrk:=hrs (rs.length - 1) (by omega)
    refine ⟨aC 1 rows (rs.flatMap nb),hrd _ hd,?_⟩
    refine key 0 (by omega) fun p hp=>ae.sc (s:= .sl) rs[0] hp ?_
    rw [show i64 ((rs.length:Int) - 1)=((rs.length - 1:Nat):Int) by rw [ad (by omega)];omega]
    refine key (rs.length - 1) (by omega) fun q hq=>ae.sc (s:= .sl) rs[rs.length - 1] hq ?_
    have hlr:=pg (aL l ys) (rs.length - 1)
    refine IX hd (ab.cons (ab.cons (ab.cons (ab.cons hr0.1.EU)))) (ab.cons (ab.cons (ab.cons (ab.cons hrk.1.EU)))) hr0.2 (Jw hm (by omega)) (by rw [row,c6];omega) (by omega) fun s' w8 h8=> ?_
    have hcs:=h8.ej
    refine ⟨hrd _ h8.drop,Nw.mk h8 fun b53 w9 h9=>⟨hrd _ h9.drop.drop,?_⟩⟩
    refine rP (ys:=nb s') (n:=1) G7 (by decide) (.inl ⟨189,by kernel_rfl⟩) h9.p2 (.inl ⟨_,_,_,rfl,rfl,h9.ag (ab.aD rfl rfl)⟩) rfl (Ip s') (by omega) (by omega) fun s2 w10 h10 _ hold=>⟨hold,?_⟩
    have e:rs.length - 1+1=rs.length:=by omega
    have er:fS (row (aL l ys) 0) (aI (row (aL l ys) (rs.length - 1)))=row (aL l ys) rs.length:=by
     conv=>rhs;rw [←e,row]
     rfl
    rw [er] at h10
    rw [ad (by omega)]
    refine ⟨⟨rs++ [s'],ah 2 s' ((row (aL l ys) rs.length).flatMap eH)::G,by simp,by simp,by simp;omega,hrs.more hcs,?_⟩,by dsimp only;omega⟩
    have h11:=h10.p1.drop
    rw [List.flatMap_append,show [s'].flatMap nb=nb s' by simp]
    exact h11.p1.q4
   ·have hge:rs.length=N:=by have:=of_decide_eq_false hge;omega
    have tot15: ∀i,lenOf (aL l ys) N i≤15:=fun i=>Nat.le_trans (Fv _ hN1 i) hN
    have htot: ∀i,lenOf (aL l ys) N i=lv (aL l ys) (N - 1) (2*ys.length - 2) i:=fun i=>by
     unfold lenOf
     rw [if_neg (by omega),hwl]
    refine ⟨fun many k w'=> ∃f:Nat→Nat,(((k= -1∨many≤0)∧ -1≤k∧k<N∧∀i,i<ys.length→f i=lenOf (aL l ys) N i)∨
       (∃kk m:Nat,k=(kk:Int)∧kk<N∧many=(m:Int)∧m≤(row (aL l ys) kk).length∧∀i,i<ys.length→f i+lv (aL l ys) kk m i=lenOf (aL l ys) N i))∧
      Hp E w' (aj b6 (.cells (ai .u8 (eF ys f)) 36 (0,0))::ah 1 rows (rs.flatMap nb)::ah 1 s ((ints ys).map vI)::aj b4 (.cells (ai .i64 l) 41 (0,0))::(G++F)),
     fun _ k _=>(k+1).toNat,⟨fun _=>0,?_,hh.p1⟩,?_⟩
    ·rw [ad (x:=2*(s.len:Int)) (by omega),ad (x:=2*(s.len:Int) - 2) (by omega),ad (by omega)]
     rcases Nat.eq_zero_or_pos ys.length with h0|h0
     ·exact .inl ⟨.inr (by omega),by omega,by omega,fun i hi=>by omega⟩
     ·refine .inr ⟨N - 1,2*ys.length - 2,by omega,by omega,by omega,?_,fun i _=>by rw [htot,Nat.zero_add]⟩
      rw [←hwl]
      exact tu (N - 1) (by rw [hwl,show N - 1+1=N by omega];exact hle2)
    rintro many k w8 ⟨f,hf,hh⟩
    have done:(∀i,i<ys.length→f i=lenOf (aL l ys) N i)→Hp E w8 (aj b6 (.cells (ai .u8 (eF ys (lenOf (aL l ys) N))) 36 (0,0))::ah 1 rows (rs.flatMap nb)::ah 1 s ((ints ys).map vI)::aj b4 (.cells (ai .i64 l) 41 (0,0))::(G++F)):=fun hi=>by
     rw [←qo hi];exact hh
    refine aa.mk (fun hk=> ?_) (fun hk=> ?_)
    ·have hk:=of_decide_eq_true hk
     refine aa.mk (fun hmany=> ?_) (fun hmany=> ?_)
     ·have hmany:=of_decide_eq_true hmany
      rcases hf with ⟨h0,_⟩|⟨kk,m,rfl,hkN,rfl,hm2,hf⟩
      ·omega
      have hrk:=hrs kk (by omega)
      have hlr:=pg (aL l ys) kk
      refine ao.el (n:=kk) oq (by decide) (hh.p1.ag ab.own) rfl (by omega) fun p hp=> ?_
      refine Ld.sc (s:= .sl) rs[kk] (by have:=hp 0 (by decide);rw [add_zero] at this;rw [this];rfl) ?_
      have hrt:ab (G++F) (aC 2 rs[kk] ((row (aL l ys) kk).flatMap eH)):=hrk.1.EU
      have hrl2:=aC.len cG (by decide) (hh.drop.drop.drop.drop.ag hrt)
      refine bg.el (a:=0) (b:=m) (l:=row (aL l ys) kk) cG hrl2 rfl rfl (by omega) hm2 (by omega) (Int.le_refl _) fun sm hsm hsml _=> ?_
      have hsm2:ab (G++F) (aC 2 sm (((row (aL l ys) kk).take m).flatMap eH)):=hrt.imp fun w' hw'=>by simpa using hsm w' hw'
      refine ⟨fun wh j w'=> ∃jj:Nat,j=(jj:Int)∧jj≤m∧wh=(aV ((row (aL l ys) kk).take jj):Int)∧
        Hp E w' (aj b6 (.cells (ai .u8 (eF ys fun i=>f i+if i<aV ((row (aL l ys) kk).take jj) then 1 else 0)) 36 (0,0))::ah 1 rows (rs.flatMap nb)::ah 1 s ((ints ys).map vI)::aj b4 (.cells (ai .i64 l) 41 (0,0))::(G++F)),
       fun _ j _=>m - j.toNat,⟨0,rfl,by omega,rfl,hh⟩,?_⟩
      rintro wh j w9 ⟨jj,rfl,hj,rfl,hh⟩
      have hlfm:=sR (l:=row (aL l ys) kk) (show jj≤m from hj)
      have hlfn:=CX hasc kk m hm2
      refine aa.mk (fun hjm=> ?_) (fun hjm=> ?_)
      ·have hjm:jj<m:=by have:=of_decide_eq_true hjm;omega
       have hjr:jj<(row (aL l ys) kk).length:=by omega
       have hls:=BY hjr
       have hlfm2:=sR (l:=row (aL l ys) kk) (show jj+1≤m from hjm)
       refine ao.el (n:=jj) cG (by decide) (hh.drop.drop.drop.drop.ag hsm2) rfl (by rw [List.length_take];omega) fun p hp=> ?_
       rw [List.getElem_take] at hp
       refine Ld.st (ks:= [.int .i64,.bool]) (((row (aL l ys) kk)[jj].1:Int),(row (aL l ys) kk)[jj].2,()) (fun j hj=>hp j hj) ?_
       refine Nw.mk hh fun b80 w10 h10=>ak.aD h10 rfl (lP (row (aL l ys) kk)[jj]) fun w11 h11=> ?_
       rw [au]
       refine Ld.aD h11 (row (aL l ys) kk)[jj].2 (by simp [eH]) ?_
       have h12:=h11.drop
       refine aa.mk (fun hlf=> ?_) (fun hlf=> ?_)
       ·rw [if_pos hlf] at hls
        have hwn:aV ((row (aL l ys) kk).take jj)<ys.length:=by omega
        have hx:=hin2 _ (List.getElem_mem hwn)
        have hfi:=hf _ hwn
        have h15:=tot15 (aV ((row (aL l ys) kk).take jj))
        have hlv:1≤lv (aL l ys) kk m (aV ((row (aL l ys) kk).take jj)):=by
         cases kk with
         |zero=>unfold lv whole;rw [if_pos (by omega)];exact Nat.le_refl _
         |succ kk=>unfold lv whole;rw [if_pos (by omega)];omega
        refine El (h12.p2.ag ab.own) hwn ?_
        refine aB.rd (s:= .int .u8) h12 (by omega) (by omega) _ (FP (by rw [fI];omega)) ?_
        rw [uw hnd hin2 hwn,if_neg (by omega),Nat.add_zero]
        refine aB.wr h12 (by omega) (by omega) (by rw [aJ,fI]) rfl fun w13 h13=> ?_
        rw [Int.toNat_natCast,gC (by omega),show ((f (aV ((row (aL l ys) kk).take jj)):Int)+1)=((f (aV ((row (aL l ys) kk).take jj))+1:Nat):Int) by omega,xO,Bg hnd hwn] at h13
        rw [ad (x:=(aV ((row (aL l ys) kk).take jj):Int)+1) (by omega),ad (by omega)]
        refine ⟨⟨jj+1,rfl,by omega,by omega,?_⟩,by dsimp only;omega⟩
        rw [hls]
        have e:eF ys (fun i=>f i+if i<aV ((row (aL l ys) kk).take jj)+1 then 1 else 0)=eF ys (fun j=>if j=aV ((row (aL l ys) kk).take jj) then f (aV ((row (aL l ys) kk).take jj))+1 else f j+if j<aV ((row (aL l ys) kk).take jj) then 1 else 0):=qo fun i _=>by
         by_cases hi:i=aV ((row (aL l ys) kk).take jj)
         ·subst hi;rw [if_pos (by omega),if_pos rfl]
         ·rw [if_neg hi]
          congr 1
          by_cases hi2:i<aV ((row (aL l ys) kk).take jj)
          ·rw [if_pos hi2,if_pos (by omega)]
          ·rw [if_neg hi2,if_neg (by omega)]
        rw [e];exact h13
       ·rw [if_neg (by rw [hlf];simp)] at hls
        have hls:aV ((row (aL l ys) kk).take (jj+1))=aV ((row (aL l ys) kk).take jj):=hls
        rw [ad (by omega)]
        refine ⟨⟨jj+1,rfl,by omega,by rw [hls],?_⟩,by dsimp only;omega⟩
        rw [hls];exact h12
      ·have hjm:jj=m:=by have:=of_decide_eq_false hjm;omega
       subst hjm
       have hlj:aV ((row (aL l ys) kk).take jj)≤jj:=by
        unfold aV
        have:=List.length_filter_le (fun x:It=>x.2) ((row (aL l ys) kk).take jj)
        rw [List.length_take] at this;omega
       rw [ad (x:=(jj:Int) - _) (by omega),ad (x:=2*_) (by omega),ad (by omega)]
       refine ⟨⟨_,?_,hh⟩,by dsimp only;omega⟩
       cases kk with
       |zero=>
        refine .inl ⟨.inl (by omega),by omega,by omega,fun i hi=> ?_⟩
        have:=hf i hi
        unfold lv whole at this
        exact this
       |succ kk=>
        refine .inr ⟨kk,2*(jj - whole (aL l ys) (kk+1) jj),by omega,by omega,?_,(lJ hasc kk jj hm2).2.2.1,fun i hi=> ?_⟩
        ·show 2*((jj:Int) - (whole (aL l ys) (kk+1) jj:Int))=_
         have:whole (aL l ys) (kk+1) jj≤jj:=hlj
         omega
        ·have:=hf i hi
         rw [lv] at this
         rw [←this]
         unfold whole
         omega
     ·have hmany:=of_decide_eq_false hmany
      refine pk (done ?_) (fI ..) fun w9 h9=>fine w9 h9.drop.drop.drop.drop.oZ
      rcases hf with ⟨_,_,_,h0⟩|⟨kk,m,rfl,hkN,rfl,hm2,hf⟩
      ·exact h0
      ·intro i hi
       have h0:=hf i hi
       have hm0:m=0:=by omega
       subst hm0
       rw [uj hasc kk 0 i hm2 (by simp [whole,aV]),Nat.add_zero] at h0
       exact h0
    ·have hk:=of_decide_eq_false hk
     refine pk (done ?_) (fI ..) fun w9 h9=>fine w9 h9.drop.drop.drop.drop.oZ
     rcases hf with ⟨_,_,_,h0⟩|⟨kk,m,rfl,hkN,rfl,hm2,hf⟩
     ·exact h0
     ·omega
end
end Go.Proofs.YtcdpblipagajiaaGreat
set_option maxRecDepth 20000
namespace Go.Pm
structure Ka where
 w:Nat
 sym:Int
 one:Nat
 two:Nat
end Go.Pm
set_option maxRecDepth 20000
namespace Go.Proofs.YtcdpblipagajiaaGreat
open Go Go.Vc Go.Srt Go.Pm
section
variable {E w:World} {F:List HP}
abbrev RK:List Sc:= [.int .i64,.int .i64,.int .i64,.int .i64]
def tR (x:Ka):TT RK:=((x.w:Int),x.sym,(x.one:Int),(x.two:Int),())
end
end Go.Proofs.YtcdpblipagajiaaGreat
set_option maxRecDepth 20000
namespace Go.Srt
theorem s9 (l:List Nat): ∃ys,bF l ys:=by
 have tr: ∀a b c:Nat,decide (l.getD a 0<l.getD b 0∨(l.getD a 0=l.getD b 0∧a≤b))=true→decide (l.getD b 0<l.getD c 0∨(l.getD b 0=l.getD c 0∧b≤c))=true→decide (l.getD a 0<l.getD c 0∨(l.getD a 0=l.getD c 0∧a≤c))=true:=by
  intro a b c h1 h2
  simp only [decide_eq_true_eq] at*;omega
 have to: ∀a b:Nat,(decide (l.getD a 0<l.getD b 0∨(l.getD a 0=l.getD b 0∧a≤b))||decide (l.getD b 0<l.getD a 0∨(l.getD b 0=l.getD a 0∧b≤a)))=true:=by
  intro a b
  simp only [Bool.or_eq_true,decide_eq_true_eq];omega
 have hs:=List.pairwise_mergeSort (le:=fun a b=>decide (l.getD a 0<l.getD b 0∨(l.getD a 0=l.getD b 0∧a≤b))) tr to (used l)
 have hp:=List.mergeSort_perm (used l) (fun a b=>decide (l.getD a 0<l.getD b 0∨(l.getD a 0=l.getD b 0∧a≤b)))
 have hn:(used l).Nodup:=List.Pairwise.filter _ (List.nodup_range (n:=l.length))
 have hn2:=hp.nodup_iff.2 hn
 exact ⟨_,hp,(hs.and hn2).imp fun {a b} h=>by have:=of_decide_eq_true h.1;have:=h.2;omega⟩
structure fk (t:List Int) (L:Int) (u ys:List Nat) (N:Nat):Prop where
 eq:t=Proofs.YtcdpblipagajiaaGreat.ints u
 max:nL u
 len:u.length=258
 ord:bF u ys
 lim:L=(N:Int)
 one:1≤N
 top:N≤15
 few:ys.length≤2^N
theorem yV {u v:List Nat} (h:Proofs.YtcdpblipagajiaaGreat.ints u=Proofs.YtcdpblipagajiaaGreat.ints v):u=v:=(List.map_inj_right (fun x y h=>by have h:(x:Int)=(y:Int):=h;omega)).1 h
end Go.Srt
namespace Go.Proofs.YtcdpblipagajiaaGreat
open Go Go.Vc Go.Srt Go.Pm
section
variable {E w:World} {F:List HP}
theorem GV {t:List Int} {L:Int} {u ys:List Nat} {N:Nat} (hg:fk t L u ys N): ¬(bd t=false∨L<1∨15<L∨∃l,t=ints l∧(2:Int)^L.toNat<(used l).length):=by
 obtain ⟨rfl,hm,hl,hys,rfl,h1,h2,h3⟩:=hg
 rintro (h|h|h|⟨l,h,h4⟩)
 ·rw [oU hm] at h;cases h
 ·omega
 ·omega
 ·obtain rfl:=yV h
  rw [←hys.1.length_eq,Int.toNat_natCast,show (2:Int)^N=((2^N:Nat):Int) by norm_cast] at h4
  omega
def ie (u ys:List Nat) (N:Nat):List Nat:=eF ys (lenOf (aL u ys) N)
theorem tg (u ys:List Nat) (N:Nat):(ie u ys N).length=258:=fI ..
theorem ED {t:List Int} {L:Int} {u ys:List Nat} {N:Nat} {K:Array Value→Int→World→Prop} (hg:fk t L u ys N) (h:Hp E w F) (hK: ∀w',Hp E w' F→K (ai .u8 (ie u ys N)) 0 w'):Cl Tryz.prog [.arr 258,kI] cP ⟨[.agg (aT t),.int .i64 L]⟩ w K:=by
 refine zZ h (by rw [hg.eq,ga,hg.len]) (fun hb=>absurd hb (GV hg)) fun l zs w' h0 hm hzs h1 h2 h3 h'=> ?_
 have:l=u:=yV (h0.symm.trans hg.eq)
 subst this
 obtain rfl:=xK hzs hg.ord
 have hk:=hK w' h'
 rw [hg.lim,Int.toNat_natCast]
 exact hk
end
end Go.Proofs.YtcdpblipagajiaaGreat
namespace Go.Srt
open Go.Pm
theorem Et (ys:List Nat) (g:Nat→Nat):(ys.map g).sum=af ys.length fun i=>g (ys.getD i 0):=by
 unfold af
 congr 1
 refine List.ext_getElem (by simp) fun i h1 h2=> ?_
 have hi:i<ys.length:=by simpa using h1
 simp [hi]
theorem Ds {u ys:List Nat} {f:Nat→Nat} (hl:u.length=258) (hys:bF u ys) (hf: ∀i,i<ys.length→1≤f i):used (eF ys f)=used u:=by
 unfold used
 rw [fI,hl]
 refine List.filter_congr fun s hs=> ?_
 have hs:s<258:=by simpa using hs
 rw [CW hs]
 have hm:s∈ys↔0<u.getD s 0:=by
  rw [hys.1.mem_iff,dI,hl]
  exact ⟨fun h=>h.2,fun h=>⟨hs,h⟩⟩
 by_cases h:s∈ys
 ·have:=hf _ (List.idxOf_lt_length_of_mem h)
  rw [if_pos h,decide_eq_true (hm.1 h),decide_eq_true (by omega)]
 ·rw [if_neg h,decide_eq_false (fun h'=>h (hm.2 h'))];rfl
theorem C4 {u ys:List Nat} {f:Nat→Nat} (hl:u.length=258) (hys:bF u ys) (hf: ∀i,i<ys.length→1≤f i∧f i≤15):aS (eF ys f)=af ys.length fun i=>2^(15 - f i):=by
 have hin: ∀s∈ys,s<258:=fun s hs=>by have:=(dI.1 (hys.1.mem_iff.1 hs)).1;omega
 rw [vl,Ds hl hys fun i hi=>(hf i hi).1,←(hys.1.map _).sum_nat,Et]
 refine lk fun i hi=> ?_
 rw [qV hi,uw (pY hys) hin hi]
 have:=hf i hi
 unfold wt
 rw [if_neg (by omega),if_neg (by omega)]
section
variable {t:List Int} {L:Int} {u ys:List Nat} {N:Nat}
theorem fk.wl (hg:fk t L u ys N):(aL u ys).length=ys.length:=List.length_map _
theorem fk.BR (hg:fk t L u ys N) {i:Nat} (hi:i<ys.length):1≤lenOf (aL u ys) N i∧lenOf (aL u ys) N i≤N:=
 F2 (uB hg.ord) hg.one (by rw [hg.wl];exact hg.few) (by rw [hg.wl];exact hi)
theorem Kh:2^15=32768:=by decide
theorem fk.J4 (hg:fk t L u ys N) (hn:2≤ys.length):aS (Proofs.YtcdpblipagajiaaGreat.ie u ys N)=32768:=by
 have hN:=hg.top
 have h1:=hg.one
 have e:=C4 (f:=lenOf (aL u ys) N) hg.len hg.ord fun i hi=>by have:=hg.BR hi;omega
 have hk:=zB (uB hg.ord) (N - 1) (by rw [hg.wl];exact hn) (by rw [hg.wl,show N - 1+1=N by omega];exact hg.few)
 rw [hg.wl,show N - 1+1=N by omega] at hk
 unfold Proofs.YtcdpblipagajiaaGreat.ie
 rw [e,lk (g:=fun i=>2^(15 - N)*2^(N - lv (aL u ys) (N - 1) (2*ys.length - 2) i)) fun i hi=>by
  have:=hg.BR hi
  have e2:lenOf (aL u ys) N i=lv (aL u ys) (N - 1) (2*ys.length - 2) i:=by
   unfold lenOf;rw [if_neg (by rw [hg.wl];omega),hg.wl]
  rw [e2] at this⊢
  rw [←Nat.pow_add,show 15 - N+(N - lv (aL u ys) (N - 1) (2*ys.length - 2) i)=15 - lv (aL u ys) (N - 1) (2*ys.length - 2) i by omega],Fa,hk,←Nat.pow_add,show 15 - N+N=15 by omega,Kh]
theorem fk.bytes (hg:fk t L u ys N): ∀y∈Proofs.YtcdpblipagajiaaGreat.ie u ys N,y<256:=by
 intro y hy
 obtain ⟨s,_,rfl⟩:=List.mem_map.1 hy
 have hN:=hg.top
 split
 ·rename_i h
  have:=hg.BR (List.idxOf_lt_length_of_mem h)
  omega
 ·decide
theorem fk.at (hg:fk t L u ys N) {i:Nat} (hi:i<ys.length):(Proofs.YtcdpblipagajiaaGreat.ie u ys N).getD ys[i] 0=lenOf (aL u ys) N i:=
 uw (pY hg.ord) (fun s hs=>by have:=(dI.1 (hg.ord.1.mem_iff.1 hs)).1;have:=hg.len;omega) hi
end
end Go.Srt
set_option maxRecDepth 20000
namespace Go.Sym
theorem pV: ∀(b L:List Nat) (r:Nat),aX L→(∀x∈b,x<256)→(b≠ []∨0<r)→∃s∈bM L r b,s<257
 | [],L,r,_,_,h=>by
  have hr:0<r:=by
   rcases h with h|h
   ·exact absurd rfl h
   ·exact h
  rw [gA,jS hr]
  exact ⟨(r - 1) % 2,by simp,by omega⟩
 |c::b,L,r,hL,hb,_=>by
  by_cases h0:L.idxOf c=0
  ·rw [fF h0]
   exact pV b _ _ (hL.take (by decide)) (fun x hx=>hb x (List.mem_cons_of_mem _ hx)) (.inr (by omega))
  ·rw [fX h0]
   have:=hL.idx (hb c List.mem_cons_self)
   exact ⟨L.idxOf c+1,by simp,by omega⟩
theorem F7 {b:List Nat} (h:b≠ []) (hb: ∀x∈b,x<256): ∃s∈syms b,s<257:=pV b _ 0 aX.range hb (.inl h)
theorem Fx (b:List Nat):257∈syms b:=by unfold syms bM;simp
theorem AQ (n:Nat):(bP n).length≤n:=by
 induction n using Nat.strongRecOn with
 |ind n ih=>
  by_cases h:n=0
  ·subst h;rw [mw];exact Nat.le_refl _
  ·rw [jS (by omega),List.length_cons]
   have:=ih ((n - 1)/2) (by omega)
   omega
theorem mv: ∀(b L:List Nat) (r:Nat),(bM L r b).length≤r+b.length+1
 | [],L,r=>by
  rw [gA,List.length_append]
  have:=AQ r
  simp;omega
 |c::b,L,r=>by
  by_cases h0:L.idxOf c=0
  ·rw [fF h0]
   have:=mv b (br L 0) (r+1)
   rw [List.length_cons];omega
  ·rw [fX h0,List.length_append,List.length_cons,List.length_cons]
   have:=mv b (br L (L.idxOf c)) 0
   have:=AQ r
   omega
theorem oW (b:List Nat):(syms b).length≤b.length+1:=by
 have:=mv b (List.range 256) 0
 unfold syms;omega
end Go.Sym
namespace Go.aj
open Go.Inc Go.Srt Go.Sym Go.Bits Go.Tab Go.Bw Go.Pm
def ig (ss:List Nat):List Nat:=(List.range 258).map fun s=>ss.count s
theorem jP (ss:List Nat):(ig ss).length=258:=by unfold ig;simp
theorem AV (ss:List Nat) {s:Nat} (h:s<258):(ig ss).getD s 0=ss.count s:=by
 unfold ig
 rw [List.getD_eq_getElem?_getD,List.getElem?_map,List.getElem?_range h];rfl
theorem uz {ss:List Nat} (h:ss.length≤2147483647):nL (ig ss):=fun x hx=>by
 obtain ⟨s,_,rfl⟩:=List.mem_map.1 hx
 exact Nat.le_trans List.count_le_length h
theorem dI {u:List Nat} {s:Nat}:s∈used u↔s<u.length∧0<u.getD s 0:=by
 unfold used
 rw [List.mem_filter,List.mem_range,decide_eq_true_iff]
theorem ug {u ys:List Nat} (h:bF u ys) {s:Nat}:s∈ys↔s<u.length∧0<u.getD s 0:=by rw [h.1.mem_iff,dI]
theorem Ho {u ys:List Nat} (hl:u.length=258) (h:bF u ys):ys.length≤258:=by
 rw [h.1.length_eq,←hl]
 unfold used
 exact Nat.le_trans (List.length_filter_le ..) (by simp)
theorem AU {u ys:List Nat} (hl:u.length=258) (hm:nL u) (hys:bF u ys):fk (Proofs.YtcdpblipagajiaaGreat.ints u) 15 u ys 15 where
 eq:=rfl
 max:=hm
 len:=hl
 ord:=hys
 lim:=rfl
 one:=by decide
 top:=by decide
 few:=Nat.le_trans (Ho hl hys) (by decide)
theorem HM {u ys last:List Nat} (hl:u.length=258) (hm:nL u) (hys:bF u ys) (h257:0<u.getD 257 0) (hs: ∃s,s<257∧0<u.getD s 0) (hg: ∀s∈syms last,0<u.getD s 0) (hb: ∀x∈last,x<256):
  gV (Proofs.YtcdpblipagajiaaGreat.ie u ys 15) last:=by
 have g:=AU hl hm hys
 have hpos: ∀s,s<258→0<u.getD s 0→0<(Proofs.YtcdpblipagajiaaGreat.ie u ys 15).getD s 0:=by
  intro s h1 h2
  have hmem:s∈ys:=(ug hys).2 ⟨by omega,h2⟩
  obtain ⟨i,hi,e⟩:=List.mem_iff_getElem.1 hmem
  have h3:=g.at hi
  have h4:=(g.BR hi).1
  rw [e] at h3
  omega
 have h2:2≤ys.length:=by
  obtain ⟨s,h1,h3⟩:=hs
  have m1:s∈ys:=(ug hys).2 ⟨by omega,h3⟩
  have m2:257∈ys:=(ug hys).2 ⟨by omega,h257⟩
  match ys,m1,m2 with
  | [a],m1,m2=>
   rw [List.mem_singleton] at m1 m2
   omega
  |_::_::_,_,_=>simp
 refine ⟨Proofs.YtcdpblipagajiaaGreat.tg _ _ _,lH.2 ⟨g.J4 h2,hpos 257 (by decide) h257⟩,fun s h=> ?_⟩
 have:=uH hb s h
 exact ⟨by omega,hpos s (by omega) (hg s h)⟩
noncomputable def CE (u:List Nat):List Nat:=Classical.choose (s9 u)
theorem uo (u:List Nat):bF u (CE u):=Classical.choose_spec (s9 u)
noncomputable def qZ (ss:List Nat):List Nat:=Proofs.YtcdpblipagajiaaGreat.ie (ig ss) (CE (ig ss)) 15
theorem mV (ss:List Nat):(qZ ss).length=258:=Proofs.YtcdpblipagajiaaGreat.tg _ _ _
noncomputable def bL (x:List Nat):List Nat:=qZ (syms (aG x.reverse))
theorem Co {ss:List Nat} (h:ss.length≤2147483647):fk (Proofs.YtcdpblipagajiaaGreat.ints (ig ss)) 15 (ig ss) (CE (ig ss)) 15:=AU (jP ss) (uz h) (uo _)
theorem lp {x:List Nat} (h0:0<x.length) (hl:x.length≤1000000) (hx: ∀c∈x,c<256):gV (bL x) (aG x.reverse):=by
 have hb:=Stm.GF hx
 have hn:aG x.reverse≠ []:=by
  intro e
  have:=congrArg List.length e
  rw [ca,List.length_reverse,List.length_nil] at this;omega
 have hlen:(syms (aG x.reverse)).length≤2147483647:=by
  have:=oW (aG x.reverse)
  rw [ca,List.length_reverse] at this;omega
 have hp: ∀s∈syms (aG x.reverse),0<(ig (syms (aG x.reverse))).getD s 0:=by
  intro s h
  have:=uH hb s h
  rw [AV _ (by omega)]
  exact List.count_pos_iff.2 h
 obtain ⟨s,hs,hlt⟩:=F7 hn hb
 exact HM (jP _) (uz hlen) (uo _) (hp 257 (Fx _)) ⟨s,hlt,hp s hs⟩ hp hb
theorem Ha {ss:List Nat} (h: ∀s∈ss,s≤257):Hs.gQ (List.replicate 258 0) (Proofs.YtcdpblipagajiaaGreat.ints ss)=Proofs.YtcdpblipagajiaaGreat.ints (ig ss):=by
 have hall:(Proofs.YtcdpblipagajiaaGreat.ints ss).all Hs.kQ=true:=by
  refine List.all_eq_true.2 fun z hz=> ?_
  obtain ⟨s,hs,rfl⟩:=List.mem_map.1 hz
  have:=h s hs
  exact Hs.nY.2 (by omega)
 refine List.ext_getElem? fun i=> ?_
 have hl:(Hs.gQ (List.replicate 258 0) (Proofs.YtcdpblipagajiaaGreat.ints ss)).length=258:=by rw [Hs.oo];simp
 by_cases hi:i<258
 ·have h1:=Hs.qS (zs:=Proofs.YtcdpblipagajiaaGreat.ints ss) (t:=List.replicate 258 0) hall (by simp) i
  rw [List.getD_eq_getElem?_getD,List.getElem?_eq_getElem (by omega)] at h1
  rw [List.getElem?_eq_getElem (by omega)]
  have h2:=AV ss hi
  rw [List.getD_eq_getElem?_getD,List.getElem?_eq_getElem (by rw [jP];exact hi)] at h2
  have h4:(Proofs.YtcdpblipagajiaaGreat.ints (ig ss))[i]? =some (((ig ss)[i]'(by rw [jP];exact hi):Nat):Int):=by
   unfold Proofs.YtcdpblipagajiaaGreat.ints
   rw [List.getElem?_map,List.getElem?_eq_getElem (by rw [jP];exact hi)];rfl
  rw [h4]
  simp only [Option.getD_some] at h1 h2
  rw [h1,h2]
  have h3:((Proofs.YtcdpblipagajiaaGreat.ints ss).count (i:Int))=ss.count i:=by
   unfold Proofs.YtcdpblipagajiaaGreat.ints
   rw [List.count_eq_countP,List.countP_map,List.count_eq_countP]
   refine List.countP_congr fun x _=> ?_
   simp only [Function.comp,beq_iff_eq]
   omega
  rw [h3,List.getD_eq_getElem?_getD,List.getElem?_replicate,if_pos hi]
  simp
 ·rw [List.getElem?_eq_none (by omega),List.getElem?_eq_none (by rw [Proofs.YtcdpblipagajiaaGreat.ga,jP];omega)]
end Go.aj
namespace Go.Proofs.YtcdpblipagajiaaGreat
open Go Go.Vc
set_option maxRecDepth 100000
theorem zG.ok (a:Sl) (R:(Array Value)→Int→World→Prop) w (h:
 Nw 41 ⟨List.replicate 258 (ni 0)⟩ w fun c b=>
 cK Pg 41 [] fun d=>
 Cl Pg [(.arr 258),kI] jr ⟨[(.agg d),(al a)]⟩ b fun f (g:Int) e=>
 ar 258 ⟨c,0,none⟩ f e fun h=>
 Ld (.arr 258) ⟨c,0,none⟩ h fun i=>
 R i g h):Cl Pg [(.arr 258),kI] jV ⟨[(al a)]⟩ w R:=co Tryz.f92 [] h
theorem wF.ok (a:(Array Value)) (b:Sl) (R:(Array Value)→Int→World→Prop) w (h:
 Nw 41 a w fun d c=>
 Nw 41 ⟨List.replicate 258 (ni 0)⟩ c fun f e=>
 Ld (.arr 258) ⟨d,0,none⟩ e fun g=>
 Cl Pg [kB] gX ⟨[(.agg g)]⟩ e fun (i:Bool) h=>
 aa (!i)
 (Ld (.arr 258) ⟨d,0,none⟩ h fun j=>
 ar 258 ⟨f,0,none⟩ j h fun k=>
 Ld (.arr 258) ⟨f,0,none⟩ k fun l=>
 R l 2 k)
 (Ld (.arr 258) ⟨d,0,none⟩ h fun m=>
 Nw 41 ⟨List.replicate 258 (ni 0)⟩ h fun o n=>
 ar 258 ⟨o,0,none⟩ m n fun p=>
 dn 0 p fun q r (s:Int) t=>
 aa (decide (s<(b.len:Int)))
 (ao b s 1 fun u=>
 Ld kI u t fun (v:Int)=>
 Cl Pg [kB] jL ⟨[(ni v)]⟩ t fun (y:Bool) x=>
 aa (!y)
 (Ld (.arr 258) ⟨o,0,none⟩ x fun z=>
 ar 258 ⟨f,0,none⟩ z x fun a1=>
 Ld (.arr 258) ⟨f,0,none⟩ a1 fun b1=>
 R b1 2 a1)
 (aB ⟨d,0,none⟩ 258 v 1 fun c1=>
 Ld kI c1 x fun (d1:Int)=>
 aa (d1==2147483647)
 (Ld (.arr 258) ⟨o,0,none⟩ x fun e1=>
 ar 258 ⟨f,0,none⟩ e1 x fun f1=>
 Ld (.arr 258) ⟨f,0,none⟩ f1 fun g1=>
 R g1 2 f1)
 (aB ⟨d,0,none⟩ 258 v 1 fun h1=>
 Ld kI h1 x fun (i1:Int)=>
 aB ⟨d,0,none⟩ 258 v 1 fun j1=>
 St j1 (ni (i64 (i1+1))) x fun k1=>
 q (i64 (s+1)) k1∧r (i64 (s+1)) k1<r s t)))
 (Ld (.arr 258) ⟨d,0,none⟩ t fun l1=>
 ar 258 ⟨f,0,none⟩ l1 t fun m1=>
 Ld (.arr 258) ⟨f,0,none⟩ m1 fun n1=>
 R n1 0 m1))):Cl Pg [(.arr 258),kI] jr ⟨[(.agg a),(al b)]⟩ w R:=co Tryz.f137 [(12,[(16,kI)])] h
theorem tY.ok (a:(Array Value)) (R:Bool→World→Prop) w (h:
 Nw 41 a w fun c b=>
 Ld (.arr 258) ⟨c,0,none⟩ b fun d=>
 dn 0 b fun e f (g:Int) h=>
 aa (decide (g<258))
 (ez (.int .i64) d 258 g fun (i:Int)=>
 aa (decide (i<0))
 (R false h)
 (aa (decide (i>2147483647))
 (R false h)
 (e (i64 (g+1)) h∧f (i64 (g+1)) h<f g h)))
 (R true h)):Cl Pg [kB] gX ⟨[(.agg a)]⟩ w R:=co Tryz.f177 [(5,[(6,kI)])] h
theorem yN.ok (a:Int) (R:Bool→World→Prop) w (h:
 aa (decide (a≥0))
 (R (decide (a<258)) w)
 (R false w)):Cl Pg [kB] jL ⟨[(ni a)]⟩ w R:=co Tryz.f178 [] h
end Go.Proofs.YtcdpblipagajiaaGreat
set_option maxRecDepth 20000
namespace Go.Proofs.YtcdpblipagajiaaGreat
open Go Go.Vc Go.Hs
section
variable {E w:World} {F:List HP}
set_option maxRecDepth 20000 in
theorem Ez {t:List Int} {K:Bool→World→Prop} (h:Hp E w F) (ht:t.length=258) (hK: ∀w',Hp E w' F→K (bd t) w'):Cl Tryz.prog [kB] gX ⟨[.agg (Vc.aT t)]⟩ w K:=by
 refine tY.ok _ _ _ ?_
 have hT:(Vc.aT t).size=258:=by rw [Vc.dF,ht]
 refine Nw.mk h fun b3 w1 h1=>Ld.arr h1 hT ?_
 refine ⟨fun i w'=> ∃k:Nat,i=(k:Int)∧k≤258∧(∀j,j<k→0≤t.getD j 0∧t.getD j 0≤2147483647)∧Hp E w' F,fun i _=>258 - i.toNat,⟨0,rfl,by omega,fun j hj=>by omega,h1.drop⟩,?_⟩
 rintro i w2 ⟨k,rfl,hk,hg,hh⟩
 have bad: ∀hlt:k<258,¬(0≤t.getD k 0∧t.getD k 0≤2147483647)→K false w2:=fun hlt hb=>by
  have:=hK w2 hh
  rwa [Fj (by omega) hb] at this
 refine aa.mk (fun hlt=> ?_) (fun hge=> ?_)
 ·have hlt:k<258:=by have:=of_decide_eq_true hlt;omega
  refine ez.aT rfl ht hlt ?_
  refine aa.mk (fun h0=>bad hlt (by have:=of_decide_eq_true h0;omega)) (fun h0=>aa.mk (fun h9=>bad hlt (by have:=of_decide_eq_true h9;omega)) (fun h9=> ?_))
  have h0:=of_decide_eq_false h0
  have h9:=of_decide_eq_false h9
  rw [ad (by omega)]
  refine ⟨⟨k+1,by omega,by omega,fun j hj=> ?_,hh⟩,by dsimp only;omega⟩
  by_cases e:j=k
  ·subst e;omega
  ·exact hg j (by omega)
 ·have hge:k=258:=by have:=of_decide_eq_false hge;omega
  subst hge
  have:=hK w2 hh
  rwa [gE.2 fun i hi=>hg i (by omega)] at this
theorem JK {z:Int} {K:Bool→World→Prop} (hK:K (kQ z) w):Cl Tryz.prog [kB] jL ⟨[.int .i64 z]⟩ w K:=by
 refine yN.ok _ _ _ ?_
 unfold kQ at hK
 refine aa.mk (fun h=> ?_) (fun h=> ?_)
 ·rw [show decide (0≤z)=true from decide_eq_true (of_decide_eq_true h)] at hK;exact hK
 ·rw [show decide (0≤z)=false from decide_eq_false (of_decide_eq_false h)] at hK;exact hK
set_option maxRecDepth 20000 in
theorem Is {t zs:List Int} {s:Sl} {K:Array Value→Int→World→Prop} (h:Hp E w F) (ht:t.length=258) (hs:ab F (aC 1 s (zs.map vI))) (hn:zs.length≤cf)
  (hK: ∀w',Hp E w' F→K (Vc.aT ((fh t zs).getD t)) (JW (fh t zs)) w'):Cl Tryz.prog [.arr 258,kI] jr ⟨[.agg (Vc.aT t),.slice s.base s.len s.cap]⟩ w K:=by
 refine wF.ok _ _ _ _ ?_
 rw [Vc.rf]
 have hz:(Vc.aT (List.replicate 258 0)).size=258:=by rw [Vc.dF];exact List.length_replicate
 have hT: ∀{u:List Int},u.length=258→(Vc.aT u).size=258:=fun hu=>by rw [Vc.dF,hu]
 have hsl:=(h.ag hs).1
 simp only [List.length_map,Nat.mul_one] at hsl
 rw [av] at hn
 have hKn:fh t zs=none→∀w',Hp E w' F→K (Vc.aT t) 2 w':=fun e w' h'=>by have:=hK w' h';rwa [e] at this
 refine Nw.mk h fun b4 w1 h1=>Nw.mk h1 fun b6 w2 h2=>Ld.arr h2.p1 (hT ht) (Ez h2 ht fun w3 h3=> ?_)
 refine aa.mk (fun hv=> ?_) (fun hv=> ?_)
 ·have hv:bd t=false:=by simpa using hv
  exact Ld.arr h3.p1 (hT ht) (ar.aD h3 hz (hT ht) Vc.iU fun w4 h4=>Ld.arr h4 (hT ht) (hKn (yP hv) w4 h4.drop.drop))
 have hv:bd t=true:=by simpa using hv
 refine Ld.arr h3.p1 (hT ht) (Nw.mk h3 fun b15 w4 h4=>ar.aD h4 hz (hT ht) Vc.iU fun w5 h5=> ?_)
 refine ⟨fun i w'=> ∃k:Nat,i=(k:Int)∧k≤zs.length∧(zs.take k).all kQ=true∧bd (gQ t (zs.take k))=true∧Hp E w' (aj b15 (.cells (Vc.aT t) 41 (0,0))::aj b6 (.cells (Vc.aT (List.replicate 258 0)) 41 (0,0))::aj b4 (.cells (Vc.aT (gQ t (zs.take k))) 41 (0,0))::F),fun i _=>zs.length - i.toNat,⟨0,rfl,by omega,rfl,hv,h5⟩,?_⟩
 rintro i w6 ⟨k,rfl,hk,hg,hvk,hh⟩
 have bad:fh t zs=none→Ld (.arr 258) ⟨b15,0,none⟩ w6 fun x30=>ar 258 ⟨b6,0,none⟩ x30 w6 fun w31=>Ld (.arr 258) ⟨b6,0,none⟩ w31 fun res=>K res 2 w31:=fun e=>
  Ld.arr hh (hT ht) (ar.aD hh.p1 hz (hT ht) Vc.iU fun w7 h7=>Ld.arr h7 (hT ht) (hKn e w7 h7.drop.drop.drop))
 have hcl:(gQ t (zs.take k)).length=258:=by rw [oo,ht]
 refine aa.mk (fun hlt=> ?_) (fun hge=> ?_)
 ·have hlt:k<zs.length:=by have:=of_decide_eq_true hlt;omega
  refine ao.nI (hh.ag (ab.cons (ab.cons (ab.cons hs)))) rfl hlt (JK ?_)
  refine aa.mk (fun hb=>bad (Fz hlt (by simpa using hb))) (fun hb=> ?_)
  have hb:kQ (zs.getD k 0)=true:=by simpa using hb
  have hr:=nY.1 hb
  have hvz:=gE.1 hvk (zs.getD k 0).toNat (by omega)
  refine aB.aT hh.p2 (j:=(zs.getD k 0).toNat) (by omega) hcl (by omega) ?_
  refine aa.mk (fun hm=>bad (DU ht hlt hg hb (by have:=beq_iff_eq.1 hm;omega))) (fun hm=> ?_)
  have hm: ¬(gQ t (zs.take k)).getD (zs.getD k 0).toNat 0=2147483647:=beq_eq_false_iff_ne.1 hm
  refine aB.aT hh.p2 (j:=(zs.getD k 0).toNat) (by omega) hcl (by omega) ?_
  rw [ad (x:=(gQ t (zs.take k)).getD (zs.getD k 0).toNat 0+1) (by omega),ad (by omega)]
  refine aB.qW hh.p2 (j:=(zs.getD k 0).toNat) (by omega) hcl (by omega) fun w7 h7=>⟨⟨k+1,by omega,by omega,?_,?_,?_⟩,by dsimp only;omega⟩
  ·rw [pc hlt,List.all_append,hg,List.all_cons,hb];rfl
  ·rw [pc hlt,yf]
   refine gE.2 fun i hi=> ?_
   have:=gE.1 hvk i (by rw [uS] at hi;exact hi)
   rw [Bd hb hcl]
   split
   ·rename_i e
    rw [e,Int.toNat_natCast] at hm hvz
    omega
   ·omega
  ·rw [pc hlt,yf]
   exact h7.q2
 ·have hge:k=zs.length:=by have:=of_decide_eq_false hge;omega
  subst hge
  rw [List.take_length] at hg hvk hh hcl
  refine Ld.arr hh.p2 (hT hcl) (ar.aD hh.p1 hz (hT hcl) Vc.iU fun w7 h7=>Ld.arr h7 (hT hcl) ?_)
  have:=hK w7 h7.drop.drop.drop
  rwa [xW hv hg hvk] at this
def eT:List Int:=List.replicate 258 0
theorem nM:eT.length=258:=List.length_replicate
theorem F1 {K:Array Value→Prop} (hK:K (Vc.aT eT)):cK Tryz.prog 41 [] K:=⟨Vc.aT eT,by kernel_rfl,hK⟩
set_option maxRecDepth 20000 in
theorem Jg {zs:List Int} {s:Sl} {K:Array Value→Int→World→Prop} (h:Hp E w F) (hs:ab F (aC 1 s (zs.map vI))) (hn:zs.length≤cf)
  (hK: ∀w',Hp E w' F→K (Vc.aT ((fh eT zs).getD eT)) (JW (fh eT zs)) w'):Cl Tryz.prog [.arr 258,kI] jV ⟨[.slice s.base s.len s.cap]⟩ w K:=by
 refine zG.ok _ _ _ ?_
 rw [Vc.rf]
 have hl:((fh eT zs).getD eT).length=258:=by
  cases ha:fh eT zs with
  |none=>exact nM
  |some u=>
   obtain ⟨_,_,rfl,_⟩:=D6 ha
   show (gQ eT zs).length=258
   rw [oo,nM]
 refine Nw.mk h fun b3 w1 h1=>F1 (Is h1 nM (ab.cons hs) hn fun w2 h2=>ar.aD h2 (by rw [Vc.dF];exact List.length_replicate) (by rw [Vc.dF,hl]) Vc.iU fun w3 h3=>Ld.arr h3 (by rw [Vc.dF,hl]) (hK w3 h3.drop))
end
end Go.Proofs.YtcdpblipagajiaaGreat
namespace Go.Proofs.YtcdpblipagajiaaGreat
open Go Go.Vc Go.Srt Go.Inc Go.Sym Go.Tab Go.Hd Go.Bw Go.Bits Go.aj Go.Crc
section
variable {E w:World} {F:List HP}
set_option maxRecDepth 20000
theorem wg {s:Sl} {b:List Nat} {K:Sl→World→Prop} (h:Hp E w F) (hs:ab F (aC 1 s (b.map vB))) (hn:b.length≤cf) (hK: ∀s' w',Hp E w' (ah 1 s' (b.reverse.map vB)::F)→K s' w'):
  Cl Tryz.prog [kS] gB ⟨[.slice s.base s.len s.cap]⟩ w K:=by
 refine xS.ok _ _ _ ?_
 exact uO h hs (by omega) fun s' w h=>vR h hn fun w h=>hK s' w h
theorem se {s:Sl} {x:List Nat} {K:Sl→Int→World→Prop} (h:Hp E w F) (hs:ab F (aC 1 s (x.map vB))) (hb: ∀y∈x,y<256) (hn:x.length≤400000) (hK: ∀s' w',Hp E w' (ah 1 s' ((aG x.reverse).map vB)::F)→K s' (aR x.reverse:Int) w'):
  Cl Tryz.prog [kS,kI] eV ⟨[.slice s.base s.len s.cap]⟩ w K:=by
 refine yG.ok _ _ _ ?_
 refine wg h hs (by rw [av];omega) fun s' w h=> ?_
 exact FO h ab.own (fun y hy=>hb y (List.mem_reverse.1 hy)) (by simpa using hn) fun s2 w h=>hK s2 w h.dP
theorem qG {s:Sl} {x:List Nat} {K:Sl→World→Prop} (h:Hp E w F) (hs:ab F (aC 1 s (x.map vB))) (hb: ∀y∈x,y<256) (hn:x.length≤400000) (hK: ∀s' w',Hp E w' (ah 1 s' ((ints (syms (aG x.reverse))).map vI)::F)→K s' w'):
  Cl Tryz.prog [kS] en ⟨[.slice s.base s.len s.cap]⟩ w K:=by
 refine wE.ok _ _ _ ?_
 refine se h hs hb hn fun s' w h=> ?_
 exact Bi h ab.own (re fun y hy=>hb y (List.mem_reverse.1 hy)) (by rw [ca,List.length_reverse];omega) fun s2 w h=>hK s2 w h.dP
theorem vw {s:Sl} {ss:List Nat} {K:Array Value→World→Prop} (h:Hp E w F) (hs:ab F (aC 1 s ((ints ss).map vI))) (hb: ∀y∈ss,y≤257) (hn:ss.length≤1000000) (hK: ∀w',Hp E w' F→K (ai .u8 (qZ ss)) w'):
  Cl Tryz.prog [.arr 258] fU ⟨[.slice s.base s.len s.cap]⟩ w K:=by
 refine wC.ok _ _ _ ?_
 have hct:=Ha hb
 have hall:(ints ss).all Hs.kQ=true:=by
  refine List.all_eq_true.2 fun z hz=> ?_
  obtain ⟨y,hy,rfl⟩:=List.mem_map.1 hz
  have:=hb y hy
  exact Hs.nY.2 (by omega)
 have hmx:=uz (ss:=ss) (by omega)
 have hval:Hs.bd (ints (ig ss))=true:=oU hmx
 have hadd:Hs.fh (List.replicate 258 0) (ints ss)=some (ints (ig ss)):=by
  rw [←hct]
  exact Hs.xW (by decide) hall (by rw [hct];exact hval)
 have hsz:(aT (ints (ig ss))).size=258:=by rw [dF,ga,jP]
 have hsc:(aT (ints (ig ss))).toList.all aw=true:=List.all_eq_true.2 Vc.iU
 have hlen:=mV ss
 have hls:(ai .u8 (qZ ss)).size=258:=by rw [aJ,hlen]
 have hlc:(ai .u8 (qZ ss)).toList.all aw=true:=List.all_eq_true.2 dz
 refine Nw.mk h fun b3 w h=>Jg h (ab.cons hs) (by rw [ga,av];omega) fun w h=> ?_
 rw [show eT=List.replicate 258 0 from rfl,hadd]
 refine Nw.mk h fun b8 w h=>ar.q h (by simp) hsz hsc fun w h=>Ld.xw h hsz ?_
 refine ED (Co (by omega)) h fun w h=> ?_
 refine Nw.mk h fun b15 w h=>ar.q h (by simp) hls hlc fun w h=>Ld.xw h hls ?_
 refine ar.q h (by simp) hls hlc fun w h=>Ld.xw h hls (hK w h.tl)
theorem r8 {x:List Nat} (hn:x.length≤400000):(syms (aG x.reverse)).length≤400001:=by
 have:=oW (aG x.reverse)
 rw [ca,List.length_reverse] at this
 omega
theorem sw {x:List Nat} (hb: ∀y∈x,y<256): ∀y∈syms (aG x.reverse),y≤257:=fun y hy=>by
 have:=Sym.uH (b:=aG x.reverse) (re fun y hy=>hb y (List.mem_reverse.1 hy)) y hy
 omega
theorem CB {s:Sl} {x:List Nat} {K:Array Value→World→Prop} (h:Hp E w F) (hs:ab F (aC 1 s (x.map vB))) (hb: ∀y∈x,y<256) (hn:x.length≤400000) (hK: ∀w',Hp E w' F→K (ai .u8 (bL x)) w'):
  Cl Tryz.prog [.arr 258] jc ⟨[.slice s.base s.len s.cap]⟩ w K:=by
 refine wj.ok _ _ _ ?_
 have hls:(ai .u8 (bL x)).size=258:=by rw [aJ];exact mV _
 have hlc:(ai .u8 (bL x)).toList.all aw=true:=List.all_eq_true.2 dz
 refine Nw.mk h fun b3 w h=>qG h (ab.cons hs) hb hn fun s' w h=> ?_
 refine vw h ab.own (sw hb) (by have:=r8 hn;omega) fun w h=> ?_
 refine ar.q h (by simp) hls hlc fun w h=>Ld.xw h hls (hK w h.tl)
theorem qI (l ss:List Nat):jm l (ints ss)=enc l ss:=by
 unfold jm ints
 rw [List.map_map]
 congr 1
 exact (List.map_congr_left fun x _=>by simp).trans (List.map_id _)
theorem C8 {l ss:List Nat} (h: ∀s∈ss,jy l s) (hs: ∀s∈ss,s≤257):kA l (ints ss)=true:=by
 refine List.all_eq_true.2 fun z hz=> ?_
 obtain ⟨y,hy,rfl⟩:=List.mem_map.1 hz
 have:=h y hy
 have:=hs y hy
 exact qj.2 ⟨by omega,by omega,by simpa using (h y hy).2⟩
theorem DQ {n:Int} {s:Sl} {x:List Nat} {K:Sl→Int→World→Prop} (h:Hp E w F) (hs:ab F (aC 1 s (x.map vB))) (hb: ∀y∈x,y<256) (hn:x.length≤65536)
  (hgood:1≤n→n≤65536→1≤x.length→(x.length:Int)≤n→∀s' w',Hp E w' (ah 1 s' ((jO (bL x) x).map vB)::F)→K s' 0 w')
  (hbad: ¬(1≤n∧n≤65536∧1≤x.length∧(x.length:Int)≤n)→∀w',Hp E w' F→K ⟨none,0,0⟩ 2 w'):
  Cl Tryz.prog [kS,kI] cQ ⟨[.int .i64 n,.slice s.base s.len s.cap]⟩ w K:=by
 refine Cr.ok _ _ _ _ ?_
 have hlen:x.length=s.len:=by have:=(h.ag hs).1;simpa using this
 refine se h hs hb (by omega) fun s4 w h=>Nw.mk h fun b7 w h=> ?_
 have hcrc:bQ x<4294967296:=pU hb
 refine Gn (s:=⟨some ⟨b7,0,none⟩,1,1⟩) (cs:= [s]) (bs:= [x]) h (ab.aD rfl rfl) rfl (by rw [av];simp) (fun i hi=> ?_) (by simpa using hb) (by simp [av];omega) fun w h=> ?_
 ·match i,hi with
  |0,_=>exact ab.cons (ab.cons hs)
 rw [show [x].flatten=x by simp,←hlen]
 have hidx:aR x.reverse≤x.length:=by
  by_cases h0:x= []
  ·subst h0;decide
  ·have:=nX (t:=x.reverse) (by rw [List.length_reverse];exact List.length_pos_iff.2 h0)
   rw [List.length_reverse] at this;omega
 refine Eo h (by omega) (by omega) hcrc (fun h1 h2 h3 h4 h5 h6 s11 w h=> ?_) (fun hno w h=> ?_)
 ·refine aa.nf rfl ?_
  have hL:=lp h3 (by omega) hb
  have hbl: ∀y∈aG x.reverse,y<256:=re fun y hy=>hb y (List.mem_reverse.1 hy)
  have hls:(ai .u8 (bL x)).size=258:=by rw [aJ];exact hL.len
  have hlc:(ai .u8 (bL x)).toList.all aw=true:=List.all_eq_true.2 dz
  refine Bi h (ab.at 2 ab.own) hbl (by rw [ca,List.length_reverse];omega) fun s14 w h=> ?_
  refine vw h ab.own (sw hb) (by have:=r8 (x:=x) (by omega);omega) fun w h=> ?_
  refine Nw.mk h fun b18 w h=>ar.q h (by simp) hls hlc fun w h=>Im h fun b w h=>Ld.xw h hls ?_
  refine Hj h hL.len hL.ok (by simp) fun w h=>Ld.xw h hls ?_
  have hsl:=r8 (x:=x) (by omega)
  refine H4 h hL.len (ab.at 1 ab.own) (by rw [ga];have:=oW (aG x.reverse);rw [ca,List.length_reverse] at this;omega) ?_ (fun hno=>absurd ⟨hL.v,C8 hL.good (sw hb)⟩ hno) fun _ _ w h=> ?_
  ·have:=kU hL.len hL.ok
   rw [List.nil_append];omega
  rw [List.nil_append,qI] at h
  refine F4 h fun s29 w h=> ?_
  have hpl:=iM (du (bL x)++enc (bL x) (syms (aG x.reverse)))
  have hel:=ou hL.v (ints (syms (aG x.reverse)))
  rw [qI,ga] at hel
  have htl:=kU hL.len hL.ok
  have l1:=h.aO
  have l2:=(h.at 4).aO
  rw [List.length_map,Nat.mul_one] at l1 l2
  have hml:(bN x.length (aR x.reverse) (bQ x)).length≤20:=by
   have h1:=ey (n:=x.length) (by omega)
   have h2:=ey (n:=aR x.reverse) (by omega)
   unfold bN
   simp [eU]
   omega
  rw [List.length_append] at hpl
  refine aM (s:=s11) (n:=s29.len) oP (by decide) (.inl ⟨5,by kernel_rfl⟩) (h.at 4) (.inl ⟨s29.base,s29.len,s29.cap,rfl,rfl,h.ag ab.own⟩) (by rw [List.length_map,l1,Nat.mul_one]) ek (by omega) (by omega) fun s31 w h _=>hgood h1 h2 h3 h4 s31 w ?_
  rw [show (jO (bL x) x).map vB=(bN x.length (aR x.reverse) (bQ x)).map vB++(pack (du (bL x)++enc (bL x) (syms (aG x.reverse)))).map vB by unfold jO body;rw [List.map_append]]
  exact h.dP
 ·refine aa.nt (by decide) (hbad (fun hh=>hno ?_) w h.tl)
  have:=nX (t:=x.reverse) (by rw [List.length_reverse];omega)
  rw [List.length_reverse] at this
  exact ⟨hh.1,hh.2.1,hh.2.2.1,hh.2.2.2,this.1,this.2⟩
end
end Go.Proofs.YtcdpblipagajiaaGreat
namespace Go.aj
open Go.Inc Go.Srt Go.Sym Go.Bits Go.Tab Go.Hd Go.Crc Go.Bw Go.Proofs.YtcdpblipagajiaaGreat
theorem vn {x:List Nat} (h0:0<x.length) (hb: ∀y∈x,y<256) (hn:x.length≤65536):(jO (bL x) x).length≤200000:=by
 have hL:=lp h0 (by omega) hb
 have h1:=ey (n:=x.length) (by omega)
 have hidx:=nX (t:=x.reverse) (by rw [List.length_reverse];exact h0)
 rw [List.length_reverse] at hidx
 have h2:=ey (n:=aR x.reverse) (by omega)
 have h3:=kU hL.len hL.ok
 have h4:=ou hL.v (ints (syms (aG x.reverse)))
 rw [qI,ga] at h4
 have h5:=oW (aG x.reverse)
 rw [ca,List.length_reverse] at h5
 unfold jO bN body
 rw [List.length_append,iM,List.length_append,List.length_cons,List.length_append,List.length_append,show (eU (bQ x)).length=4 from rfl]
 omega
end Go.aj
namespace Go.Proofs.YtcdpblipagajiaaGreat
open Go Go.Vc Go.Srt Go.Inc Go.Tab
section
variable {E w:World} {F:List HP}
theorem Eg (b n:Int):(⟨List.replicate 258 (.int .u8 0)++ [.int .i64 0,.int .i64 b,.int .i64 n,.int .i64 0]⟩:Array Value)=jf (List.replicate 258 0) 0 b n 0:=by
 unfold jf vP
 rw [List.map_replicate];rfl
theorem cK.tb {b n:Int} {K:Array Value→Prop} (hK:K (jf (List.replicate 258 0) 0 b n 0)):cK Tryz.prog 141 [(2,.int .i64 b),(3,.int .i64 n)] K:=by
 refine ⟨_,(by kernel_rfl:Tryz.prog.built 141 [(2,.int .i64 b),(3,.int .i64 n)]=some ⟨List.replicate 258 (.int .u8 0)++ [.int .i64 0,.int .i64 b,.int .i64 n,.int .i64 0]⟩),?_⟩
 rw [Eg];exact hK
set_option maxRecDepth 20000
theorem JE {c x:Nat} (hx:x≤1) (hc:c<16384):jk .i64 (a8 .i64 (c:Int) 1) (x:Int)=((2*c+x:Nat):Int):=Dx hx hc
theorem ch {l:List Nat} {s b n wy:Int}:(jf l s b n wy).toList.all aw=true:=by
 unfold jf vP
 rw [List.all_append,List.all_map]
 rw [Bool.and_eq_true]
 exact ⟨List.all_eq_true.2 fun _ _=>rfl,rfl⟩
theorem bE {l:List Nat} {s b n wy:Int} (hl:l.length=258):(jf l s b n wy).size=262:=by simp [hl]
theorem Hu {l:List Nat} {i x:Nat}:(vP l).set i (.int .u8 (x:Int))=vP (l.set i x):=by
 unfold vP
 rw [List.map_set]
def Kd (t:TS) (x:Nat) (E:World) (F:List HP) (K:Array Value→Bool→World→Prop):Prop:=
 (∀t' w',bh cq t x= .more t'→Hp E w' F→K (jf (pad t'.l) (t'.l.length:Int) (t'.bits:Int) (t'.now:Int) (t'.way:Int)) true w')∧
 (∀l n w',bh cq t x= .fin l→Hp E w' F→K (jf l 258 4 n 0) true w')∧
 (∀o w',bh cq t x= .bad 100→o.size=262→o.toList.all aw=true→Hp E w' F→K o false w')
theorem GU {t:TS} {x:Nat} {K:Array Value→Bool→World→Prop} (h:Hp E w F) (ht:jW t) (hx:x≤1) (hK:Kd t x E F K):
  Cl Tryz.prog [.arr 262,kB] gi ⟨[.agg (jf (pad t.l) (t.l.length:Int) (t.bits:Int) (t.now:Int) (t.way:Int)),.int .i64 (x:Int)]⟩ w K:=by
 obtain ⟨k1,k2,k3⟩:=hK
 obtain ⟨l,bits,now,way⟩:=t
 unfold jW at ht
 unfold bh at k1 k2 k3
 dsimp only at ht k1 k2 k3⊢
 have hl:l.length≤258:=by
  rcases ht with ⟨_,h,_⟩|⟨_,h,_⟩
  ·rw [h];simp
  ·omega
 have hL:=oe (cF hl)
 have hz:((⟨List.replicate 258 (.int .u8 0)++ [.int .i64 0,.int .i64 0,.int .i64 0,.int .i64 0]⟩:Array Value)).size=262:=by simp
 refine rV.ok _ _ _ _ ?_
 (try simp only [aH,ay,au,Nat.zero_add,Nat.add_zero,Nat.reduceAdd,Bool.not_true,Bool.not_false,aZ,aY,Option.isNone])
 refine Nw.mk h fun b4 w h=>Nw.mk h fun b6 w h=> ?_
 have out: ∀{w:World} {l':List Nat} {s b n wy:Int} {K':World→Array Value→Prop},l'.length=258→
   Hp E w (aj b6 (.cells ⟨List.replicate 258 (.int .u8 0)++ [.int .i64 0,.int .i64 0,.int .i64 0,.int .i64 0]⟩ 141 (0,0))::aj b4 (.cells (jf l' s b n wy) 141 (0,0))::F)→
   (∀w',Hp E w' F→K' w' (jf l' s b n wy))→
   ar 262 ⟨b6,0,none⟩ (jf l' s b n wy) w fun w1=>Ld (.arr 262) ⟨b6,0,none⟩ w1 fun r=>K' w1 r:=by
  intro w l' s b n wy K' hl' h hk
  refine ar.q h hz (bE hl') ch fun w h=> ?_
  exact Ld.xw h (bE hl') (hk _ h.tl)
 rcases ht with ⟨h1,h2,h3,h4⟩|⟨h1,h2,h3,h4,h5⟩
 ·subst h2 h4
  simp only [if_pos h1] at k1 k2 k3
  have hnow:now<16384:=by
   have:2^bits≤2^3:=Nat.pow_le_pow_right (by decide) (by omega)
   omega
  (with_reducible repeat first|refine Nw.mk h fun b w h=> ?_|refine aq.mk h fun w h=> ?_|refine Ld.q h hL rfl rfl ?_|refine ae.q (fun _ h=>h) hL rfl rfl ?_|refine Ld.p h hL ?_|refine ae.p (fun _ h=>h) hL ?_|refine Ld.qw h hL rfl ?_|refine ae.qw (fun _ h=>h) hL rfl ?_|refine ⟨h.hb,?_⟩|(refine St.q h hL rfl rfl rfl fun w h=> ?_;dsimp only [an,af] at h)|refine aa.yes ?_|refine aa.no ?_|refine ⟨by first|omega|decide,?_⟩)
  rw [JE hx hnow,ad (by omega)] at h⊢
  exact out (K':=fun w x=>K x true w) (cF hl) h fun w h=>k1 _ _ rfl h
 ·simp only [if_neg (show¬bits<4 by omega)] at k1 k2 k3
  (with_reducible repeat first|refine Nw.mk h fun b w h=> ?_|refine aq.mk h fun w h=> ?_|refine Ld.q h hL rfl rfl ?_|refine ae.q (fun _ h=>h) hL rfl rfl ?_|refine Ld.p h hL ?_|refine ae.p (fun _ h=>h) hL ?_|refine Ld.qw h hL rfl ?_|refine ae.qw (fun _ h=>h) hL rfl ?_|refine ⟨h.hb,?_⟩|(refine St.q h hL rfl rfl rfl fun w h=> ?_;dsimp only [an,af] at h)|refine aa.yes ?_|refine aa.no ?_|refine ⟨by first|omega|decide,?_⟩)
  by_cases hb:bits=4
  ·subst hb
   simp only [if_true] at k1 k2 k3
   by_cases hx0:x=0
   ·subst hx0
    simp only [if_true] at k1 k2 k3
    (with_reducible repeat first|refine Nw.mk h fun b w h=> ?_|refine aq.mk h fun w h=> ?_|refine Ld.q h hL rfl rfl ?_|refine ae.q (fun _ h=>h) hL rfl rfl ?_|refine Ld.p h hL ?_|refine ae.p (fun _ h=>h) hL ?_|refine Ld.qw h hL rfl ?_|refine ae.qw (fun _ h=>h) hL rfl ?_|refine ⟨h.hb,?_⟩|(refine St.q h hL rfl rfl rfl fun w h=> ?_;dsimp only [an,af] at h)|refine aa.yes ?_|refine aa.no ?_|refine ⟨by first|omega|decide,?_⟩)
    refine ⟨by omega,by omega,?_⟩
    rw [show (((l.length:Int)).toNat*1)=l.length by omega,gC (by omega)]
    (try simp only [aH,ay,au,Nat.zero_add,Nat.add_zero,Nat.reduceAdd,Bool.not_true,Bool.not_false,aZ,aY,Option.isNone])
    refine St.g h (by omega) rfl fun w h=> ?_
    rw [Hu,HQ h2] at h
    have hl2:(l++ [now]).length≤258:=by simp;omega
    have hL:=oe (cF hl2)
    (with_reducible repeat first|refine Nw.mk h fun b w h=> ?_|refine aq.mk h fun w h=> ?_|refine Ld.q h hL rfl rfl ?_|refine ae.q (fun _ h=>h) hL rfl rfl ?_|refine Ld.p h hL ?_|refine ae.p (fun _ h=>h) hL ?_|refine Ld.qw h hL rfl ?_|refine ae.qw (fun _ h=>h) hL rfl ?_|refine ⟨h.hb,?_⟩|(refine St.q h hL rfl rfl rfl fun w h=> ?_;dsimp only [an,af] at h)|refine aa.yes ?_|refine aa.no ?_|refine ⟨by first|omega|decide,?_⟩)
    rw [ad (by omega),show (l.length:Int)+1=((l++ [now]).length:Int) by simp] at h
    have h:=h.drew (n:=w.drawn+1)
    refine ⟨cj b4 _ _ _,h.hb,?_⟩
    dsimp only
    (with_reducible repeat first|refine Nw.mk h fun b w h=> ?_|refine aq.mk h fun w h=> ?_|refine Ld.q h hL rfl rfl ?_|refine ae.q (fun _ h=>h) hL rfl rfl ?_|refine Ld.p h hL ?_|refine ae.p (fun _ h=>h) hL ?_|refine Ld.qw h hL rfl ?_|refine ae.qw (fun _ h=>h) hL rfl ?_|refine ⟨h.hb,?_⟩|(refine St.q h hL rfl rfl rfl fun w h=> ?_;dsimp only [an,af] at h)|refine aa.yes ?_|refine aa.no ?_|refine ⟨by first|omega|decide,?_⟩)
    by_cases hf:l.length+1<258
    ·rw [if_pos hf] at k1 k2 k3
     refine aa.dt (by simp;omega) ?_
     refine ar.q h hz (bE (cF hl2)) ch fun w h=> ?_
     (with_reducible repeat first|refine Nw.mk h fun b w h=> ?_|refine aq.mk h fun w h=> ?_|refine Ld.q h hL rfl rfl ?_|refine ae.q (fun _ h=>h) hL rfl rfl ?_|refine Ld.p h hL ?_|refine ae.p (fun _ h=>h) hL ?_|refine Ld.qw h hL rfl ?_|refine ae.qw (fun _ h=>h) hL rfl ?_|refine ⟨h.hb,?_⟩|(refine St.q h hL rfl rfl rfl fun w h=> ?_;dsimp only [an,af] at h)|refine aa.yes ?_|refine aa.no ?_|refine ⟨by first|omega|decide,?_⟩)
     exact k1 _ _ rfl h.tl
    ·rw [if_neg hf] at k1 k2 k3
     have hfull:(l++ [now]).length=258:=by simp;omega
     refine aa.df (by simp;omega) ?_
     (with_reducible repeat first|refine Nw.mk h fun b w h=> ?_|refine aq.mk h fun w h=> ?_|refine Ld.q h hL rfl rfl ?_|refine ae.q (fun _ h=>h) hL rfl rfl ?_|refine Ld.p h hL ?_|refine ae.p (fun _ h=>h) hL ?_|refine Ld.qw h hL rfl ?_|refine ae.qw (fun _ h=>h) hL rfl ?_|refine ⟨h.hb,?_⟩|(refine St.q h hL rfl rfl rfl fun w h=> ?_;dsimp only [an,af] at h)|refine aa.yes ?_|refine aa.no ?_|refine ⟨by first|omega|decide,?_⟩)
     rw [F0 hfull] at h⊢
     refine rj h hfull fun w h=> ?_
     refine ⟨h.hb,?_⟩
     refine ar.q h hz (bE hfull) ch fun w h=>⟨h.hb,?_⟩
     refine Ld.xw h (bE hfull) ?_
     by_cases hok:cq (l++ [now])=true
     ·rw [if_pos hok] at k1 k2 k3
      rw [hok]
      have:=k2 _ (now:Int) _ rfl h.tl
      rw [hfull]
      exact this
     ·rw [if_neg hok] at k1 k2 k3
      rw [show cq (l++ [now])=false by simpa using hok]
      exact k3 _ _ rfl (bE hfull) ch h.tl
   ·simp only [if_neg hx0] at k1 k2 k3
    (with_reducible repeat first|refine Nw.mk h fun b w h=> ?_|refine aq.mk h fun w h=> ?_|refine Ld.q h hL rfl rfl ?_|refine ae.q (fun _ h=>h) hL rfl rfl ?_|refine Ld.p h hL ?_|refine ae.p (fun _ h=>h) hL ?_|refine Ld.qw h hL rfl ?_|refine ae.qw (fun _ h=>h) hL rfl ?_|refine ⟨h.hb,?_⟩|(refine St.q h hL rfl rfl rfl fun w h=> ?_;dsimp only [an,af] at h)|refine aa.yes ?_|refine aa.no ?_|refine ⟨by first|omega|decide,?_⟩)
    exact out (K':=fun w x=>K x true w) (cF hl) h fun w h=>k1 _ _ rfl h
  ·simp only [if_neg hb] at k1 k2 k3
   have hb5:bits=5:=by omega
   subst hb5
   by_cases hx0:x=0
   ·subst hx0
    simp only [if_true] at k1 k2 k3
    (with_reducible repeat first|refine Nw.mk h fun b w h=> ?_|refine aq.mk h fun w h=> ?_|refine Ld.q h hL rfl rfl ?_|refine ae.q (fun _ h=>h) hL rfl rfl ?_|refine Ld.p h hL ?_|refine ae.p (fun _ h=>h) hL ?_|refine Ld.qw h hL rfl ?_|refine ae.qw (fun _ h=>h) hL rfl ?_|refine ⟨h.hb,?_⟩|(refine St.q h hL rfl rfl rfl fun w h=> ?_;dsimp only [an,af] at h)|refine aa.yes ?_|refine aa.no ?_|refine ⟨by first|omega|decide,?_⟩)
    by_cases hw:way=2
    ·subst hw
     (with_reducible repeat first|refine Nw.mk h fun b w h=> ?_|refine aq.mk h fun w h=> ?_|refine Ld.q h hL rfl rfl ?_|refine ae.q (fun _ h=>h) hL rfl rfl ?_|refine Ld.p h hL ?_|refine ae.p (fun _ h=>h) hL ?_|refine Ld.qw h hL rfl ?_|refine ae.qw (fun _ h=>h) hL rfl ?_|refine ⟨h.hb,?_⟩|(refine St.q h hL rfl rfl rfl fun w h=> ?_;dsimp only [an,af] at h)|refine aa.yes ?_|refine aa.no ?_|refine ⟨by first|omega|decide,?_⟩)
     exact out (K':=fun w x=>K x false w) (cF hl) h fun w h=>k3 _ _ (by simp) (bE (cF hl)) ch h
    ·(with_reducible repeat first|refine Nw.mk h fun b w h=> ?_|refine aq.mk h fun w h=> ?_|refine Ld.q h hL rfl rfl ?_|refine ae.q (fun _ h=>h) hL rfl rfl ?_|refine Ld.p h hL ?_|refine ae.p (fun _ h=>h) hL ?_|refine Ld.qw h hL rfl ?_|refine ae.qw (fun _ h=>h) hL rfl ?_|refine ⟨h.hb,?_⟩|(refine St.q h hL rfl rfl rfl fun w h=> ?_;dsimp only [an,af] at h)|refine aa.yes ?_|refine aa.no ?_|refine ⟨by first|omega|decide,?_⟩)
     refine out (K':=fun w x=>K x (decide ((now:Int)<15)) w) (cF hl) h fun w h=> ?_
     have ei:i64 ((now:Int)+1)=(now:Int)+1:=ad (by omega)
     try rw [ei]
     try rw [ad (x:=(now:Int) - 1) (by omega)]
     by_cases hn:now<15
     ·rw [if_pos ⟨hw,hn⟩] at k1
      exact iW (K:=fun b w=>K _ b w) (decide_eq_true (by omega)) (k1 _ _ rfl h)
     ·rw [if_neg (fun hh=>hn hh.2)] at k3
      exact iW (K:=fun b w=>K _ b w) (decide_eq_false (by omega)) (k3 _ _ rfl (bE (cF hl)) ch h)
   ·have hx1:x=1:=by omega
    subst hx1
    simp only [if_neg hx0] at k1 k2 k3
    (with_reducible repeat first|refine Nw.mk h fun b w h=> ?_|refine aq.mk h fun w h=> ?_|refine Ld.q h hL rfl rfl ?_|refine ae.q (fun _ h=>h) hL rfl rfl ?_|refine Ld.p h hL ?_|refine ae.p (fun _ h=>h) hL ?_|refine Ld.qw h hL rfl ?_|refine ae.qw (fun _ h=>h) hL rfl ?_|refine ⟨h.hb,?_⟩|(refine St.q h hL rfl rfl rfl fun w h=> ?_;dsimp only [an,af] at h)|refine aa.yes ?_|refine aa.no ?_|refine ⟨by first|omega|decide,?_⟩)
    by_cases hw:way=1
    ·subst hw
     (with_reducible repeat first|refine Nw.mk h fun b w h=> ?_|refine aq.mk h fun w h=> ?_|refine Ld.q h hL rfl rfl ?_|refine ae.q (fun _ h=>h) hL rfl rfl ?_|refine Ld.p h hL ?_|refine ae.p (fun _ h=>h) hL ?_|refine Ld.qw h hL rfl ?_|refine ae.qw (fun _ h=>h) hL rfl ?_|refine ⟨h.hb,?_⟩|(refine St.q h hL rfl rfl rfl fun w h=> ?_;dsimp only [an,af] at h)|refine aa.yes ?_|refine aa.no ?_|refine ⟨by first|omega|decide,?_⟩)
     exact out (K':=fun w x=>K x false w) (cF hl) h fun w h=>k3 _ _ (by simp) (bE (cF hl)) ch h
    ·(with_reducible repeat first|refine Nw.mk h fun b w h=> ?_|refine aq.mk h fun w h=> ?_|refine Ld.q h hL rfl rfl ?_|refine ae.q (fun _ h=>h) hL rfl rfl ?_|refine Ld.p h hL ?_|refine ae.p (fun _ h=>h) hL ?_|refine Ld.qw h hL rfl ?_|refine ae.qw (fun _ h=>h) hL rfl ?_|refine ⟨h.hb,?_⟩|(refine St.q h hL rfl rfl rfl fun w h=> ?_;dsimp only [an,af] at h)|refine aa.yes ?_|refine aa.no ?_|refine ⟨by first|omega|decide,?_⟩)
     refine out (K':=fun w x=>K x (decide ((now:Int)>0)) w) (cF hl) h fun w h=> ?_
     have ei:i64 ((now:Int)+1)=(now:Int)+1:=ad (by omega)
     try rw [ei]
     try rw [ad (x:=(now:Int) - 1) (by omega)]
     by_cases hn:0<now
     ·rw [if_pos ⟨hw,hn⟩] at k1
      rw [show (now:Int) - 1=((now - 1:Nat):Int) by omega]
      exact iW (K:=fun b w=>K _ b w) (decide_eq_true (by omega)) (k1 _ _ rfl h)
     ·rw [if_neg (fun hh=>hn hh.2)] at k3
      exact iW (K:=fun b w=>K _ b w) (decide_eq_false (by omega)) (k3 _ _ rfl (bE (cF hl)) ch h)
end
end Go.Proofs.YtcdpblipagajiaaGreat
namespace Go.Inc
theorem xu {α σ β ε:Type} {f:σ→α→sH σ β ε} {s s':σ} {l:List α} {k:Nat} (h:run f s (l.take k)= .short s'):run f s l=run f s' (l.drop k):=by
 conv=>lhs;rw [←List.take_append_drop k l]
 exact cR h _
end Go.Inc
namespace Go.Proofs.YtcdpblipagajiaaGreat
open Go Go.Vc Go.Srt Go.Inc Go.Tab
section
variable {E w:World} {F:List HP}
set_option maxRecDepth 20000
abbrev si:Array Value:=⟨List.replicate 258 (.int .u8 0)⟩
theorem HC {bs:List Nat} {s:Sl} {K:Array Value→Int→Int→World→Prop} (h:Hp E w F) (hs:ab F (aC 1 s ((ints bs).map vI))) (hb: ∀x∈bs,x≤1) (hbig:bs.length≤cf)
  (hshort: ∀s' w',run (bh cq) t0 bs= .short s'→Hp E w' F→K si 0 50 w')
  (hbad: ∀w',run (bh cq) t0 bs= .bad 100→Hp E w' F→K si 0 100 w')
  (hfin: ∀l r w',run (bh cq) t0 bs= .fin l r→Hp E w' F→K (ai .u8 l) ((bs.length - r.length:Nat):Int) 0 w'):
  Cl Tryz.prog [.arr 258,kI,kI] fZ ⟨[.slice s.base s.len s.cap]⟩ w K:=by
 have hz:(⟨List.replicate 258 (.int .u8 0)++ [.int .i64 0,.int .i64 0,.int .i64 0,.int .i64 0]⟩:Array Value)=jf (pad t0.l) (t0.l.length:Int) (t0.bits:Int) (t0.now:Int) (t0.way:Int):=by
  rw [Eg];rfl
 have hz0:si.size=258:=by simp
 have hz1:si.toList.all aw=true:=by decide
 refine rS.ok _ _ _ ?_
 (try simp only [aH,ay,au,Nat.zero_add,Nat.add_zero,Nat.reduceAdd,Bool.not_true,Bool.not_false,aZ,aY,Option.isNone])
 have hlen:bs.length=s.len:=by have:=(h.ag hs).1;simpa [ints] using this
 rw [av] at hbig
 refine Nw.mk h fun b3 w h=>Nw.mk h fun b5 w h=> ?_
 rw [hz] at h
 have out: ∀{w:World} {K':Array Value→World→Prop} {l:List HP},Hp E w (l++(aj b3 (.cells si 36 (0,0))::F))→(∀w',Hp E w' F→K' si w')→
   Ld (.arr 258) ⟨b3,0,none⟩ w fun x22=>ar 258 ⟨b3,0,none⟩ x22 w fun w_23=>Ld (.arr 258) ⟨b3,0,none⟩ w_23 fun res24=>K' res24 w_23:=by
  intro w K' l h hk
  have h:=h.oZ
  refine Ld.xw h hz0 (ar.q h hz0 hz0 hz1 fun w h=>Ld.xw h hz0 (hk _ h.tl))
 refine ⟨fun i w'=> ∃(k:Nat) (t:TS),i=(k:Int)∧k≤bs.length∧jW t∧run (bh cq) t0 (bs.take k)= .short t∧
  Hp E w' (aj b5 (.cells (jf (pad t.l) (t.l.length:Int) (t.bits:Int) (t.now:Int) (t.way:Int)) 141 (0,0))::aj b3 (.cells si 36 (0,0))::F),
  fun i _=>bs.length - i.toNat,⟨0,t0,rfl,by omega,jW.zero,rfl,h⟩,?_⟩
 rintro i w ⟨k,t,rfl,hk,ht,hrun,h⟩
 refine aa.dm (fun hlt=> ?_) (fun hge=> ?_)
 ·have hlt:k<bs.length:=by omega
  refine ao.rd (h.tl.ag hs) (by omega) (by omega) fun q hi hq=> ?_
  have hx:=hb _ (List.getElem_mem hlt)
  refine Ld.sc (s:= .int .i64) (bs[k]:Int) (by rw [hq];simp [Sc.enc,vI,ints]) ⟨by decide,?_⟩
  have e1:aF .i64 (bs[k]:Int) 1=0:=by
   have:bs[k]=0∨bs[k]=1:=by omega
   rcases this with e|e<;>rw [e]<;>rfl
  rw [e1]
  refine aa.nf rfl ?_
  have htl:(pad t.l).length=258:=cF (by
   rcases ht with ⟨_,h,_⟩|⟨_,h,_⟩
   ·rw [h];simp
   ·omega)
  refine Ld.xw h (bE htl) ?_
  refine GU h ht hx ⟨fun t' w he h=> ?_,fun l n w he h=> ?_,fun o w he ho hos h=> ?_⟩
  ·have ht':=zo ht hx he
   have hl':t'.l.length<258:=by
    rcases ht' with ⟨_,h,_⟩|⟨_,h,_⟩
    ·rw [h];simp
    ·omega
   have hp:=cF (Nat.le_of_lt hl')
   refine Nw.mk h fun b20 w h=> ?_
   refine ar.q h (by simp) (bE hp) ch fun w h=> ?_
   with_reducible refine aa.GA ?_
   refine Ld.xw h (bE hp) ?_
   refine ar.q h (bE htl) (bE hp) ch fun w h=> ?_
   have hL:=oe hp
   refine Ld.q h hL rfl rfl ?_
   refine aa.ef (by omega) ?_
   rw [ad (by omega)]
   refine ⟨⟨k+1,t',rfl,by omega,ht',?_,h.no 0⟩,by first|omega|(dsimp only;omega)⟩
   rw [List.take_add_one,List.getElem?_eq_getElem hlt]
   show run (bh cq) t0 (bs.take k++ [bs[k]])=_
   rw [cR hrun,bD he];rfl
  ·have hf:=(vW ht he).1
   refine Nw.mk h fun b20 w h=> ?_
   refine ar.q h (by simp) (bE hf) ch fun w h=> ?_
   with_reducible refine aa.GA ?_
   refine Ld.xw h (bE hf) ?_
   refine ar.q h (bE htl) (bE hf) ch fun w h=> ?_
   have hL:=oe hf
   refine Ld.q h hL rfl rfl ?_
   refine aa.et rfl ?_
   refine Ld.p (b:=b5) h hL ?_
   have hls:(⟨vP l⟩:Array Value).size=258:=by simpa using hf
   refine ar.q h hz0 hls (List.all_eq_true.2 dz) fun w h=>Ld.xw h hls ?_
   rw [ad (by omega)]
   have hr:=hfin l (bs.drop (k+1)) w (by rw [xu hrun,List.drop_eq_getElem_cons hlt,lG he]) h.tl
   rw [List.length_drop,show bs.length - (bs.length - (k+1))=k+1 by omega] at hr
   exact hr
  ·refine Nw.mk h fun b20 w h=> ?_
   refine ar.q h (by simp) ho hos fun w h=> ?_
   with_reducible refine aa.Kl ?_
   refine out (l:= [_,_]) h fun w h=>hbad w ?_ h
   rw [xu hrun,List.drop_eq_getElem_cons hlt,lC he]
 ·have hk2:k=bs.length:=by omega
  subst hk2
  rw [List.take_of_length_le (Nat.le_refl _)] at hrun
  exact out (l:= [_]) h fun w h=>hshort t w hrun h
end
end Go.Proofs.YtcdpblipagajiaaGreat
namespace Go.aj
open Go.Inc Go.Srt Go.Sym Go.Bits Go.Tab Go.Hd Go.Crc Go.Bw Go.Proofs.YtcdpblipagajiaaGreat
theorem zK {n M P u:Nat} {r:List Nat}: ∀(b:List Nat) (s:MS),mu n s→(∀c∈b,c<256)→run (aU n) s b= .fin (.aD M P u) r→1≤M∧M≤n∧1≤P∧P≤M
 | [],s,_,_,h=>by cases h
 |c::b,s,hs,hb,h=>by
  rw [dG] at h
  cases hc:aU n s c with
  |more s'=>
   rw [hc] at h
   exact zK b s' (xG hs (hb c (by simp)) hc) (fun y hy=>hb y (by simp [hy])) h
  |fin m=>
   rw [hc] at h
   cases h
   exact D9 hs hc
  |bad e=>rw [hc] at h;cases h
theorem kY {α σ β ε:Type} {f:σ→α→sH σ β ε} {r:List α} {x:β}: ∀(b:List α) (s:σ),run f s b= .fin x r→∃a,b=a++r
 | [],s,h=>by cases h
 |c::b,s,h=>by
  rw [dG] at h
  cases hc:f s c with
  |more s'=>
   rw [hc] at h
   obtain ⟨a,e⟩:=kY b s' h
   exact ⟨c::a,by rw [e];rfl⟩
  |fin m=>
   rw [hc] at h
   cases h
   exact ⟨[c],rfl⟩
  |bad e=>rw [hc] at h;cases h
theorem yE {l r:List Nat}: ∀(b:List Nat) (t:TS),jW t→(∀c∈b,c≤1)→run (bh cq) t b= .fin l r→l.length=258∧cq l=true
 | [],s,_,_,h=>by cases h
 |c::b,s,hs,hb,h=>by
  rw [dG] at h
  cases hc:bh cq s c with
  |more s'=>
   rw [hc] at h
   exact yE b s' (zo hs (hb c (by simp)) hc) (fun y hy=>hb y (by simp [hy])) h
  |fin m=>
   rw [hc] at h
   cases h
   exact vW hs hc
  |bad e=>rw [hc] at h;cases h
theorem De {left:List Nat} (hb: ∀x∈left,x≤1):ri left= !decide (1∈left.take (left.length % 8)):=by
 unfold ri
 rw [Bool.eq_iff_iff]
 simp only [List.all_eq_true,beq_iff_eq,Bool.not_eq_true',decide_eq_false_iff_not]
 constructor
 ·intro h hm
  have:=h 1 hm
  omega
 ·intro h x hx
  have:=hb x (List.mem_of_mem_take hx)
  have:x≠1:=fun e=>h (e▸hx)
  omega
end Go.aj
namespace Go.Proofs.YtcdpblipagajiaaGreat
open Go Go.Vc Go.Srt Go.Inc Go.Sym Go.Tab Go.Hd Go.Bw Go.Bits Go.aj Go.Crc
section
variable {E w:World} {F:List HP}
set_option maxRecDepth 20000
theorem rQ {n:Int} {s:Sl} {b:List Nat} {K:Sl→Sl→Int→World→Prop} (h:Hp E w F) (hs:ab F (aC 1 s (b.map vB))) (hb: ∀y∈b,y<256) (hbig:b.length≤10000000) (hcap:s.len≤s.cap)
  (harg: ¬(1≤n∧n≤65536)→∀w',Hp E w' F→K ⟨none,0,0⟩ ⟨none,0,0⟩ 2 w')
  (herr:1≤n→n≤65536→∀e w',cn n.toNat b= .error e→e≠0→Hp E w' F→K ⟨none,0,0⟩ ⟨none,0,0⟩ (e:Int) w')
  (hok:1≤n→n≤65536→∀x r s1 s2 w',cn n.toNat b= .ok (x,r)→(∀y∈x,y<256)→(∀y∈r,y<256)→x.length≤65536→Hp E w' (ah 1 s1 (x.map vB)::ah 1 s2 (r.map vB)::F)→K s1 s2 0 w'):
  Cl Tryz.prog [kS,kS,kI] bq ⟨[.int .i64 n,.slice s.base s.len s.cap]⟩ w K:=by
 refine ze.ok _ _ _ _ ?_
 (try simp only [aH,ay,au,Nat.zero_add,Nat.add_zero,Nat.reduceAdd,Bool.not_true,Bool.not_false,aZ,aY,Option.isNone])
 by_cases hn: ¬(1≤n∧n≤65536)
 ·refine Ap h hn fun w h=> ?_
  (with_reducible repeat first|refine Nw.mk h fun b w h=> ?_|refine aq.mk h fun w h=> ?_|refine Ld.xb h rfl ?_|refine Ld.xt h rfl ?_|refine ae.xb (fun _ h=>h) rfl ?_|refine ae.xt (fun _ h=>h) rfl ?_|refine ⟨h.hb,?_⟩|refine ak.xw h rfl rfl fun w h=> ?_|(refine ak.xs h rfl rfl fun w h=> ?_;dsimp only [an,af] at h)|(refine St.xs h rfl rfl fun w h=> ?_;dsimp only [an,af] at h)|refine aa.yes ?_|refine aa.no ?_|refine ⟨by first|omega|decide,?_⟩)
  exact harg hn w h.tl
 have hn:1≤n∧n≤65536:=Decidable.not_not.1 hn
 obtain ⟨m,rfl⟩: ∃m:Nat,n=(m:Int):=⟨n.toNat,by omega⟩
 have herr:=herr hn.1 hn.2
 have hok:=hok hn.1 hn.2
 rw [Int.toNat_natCast] at herr hok
 unfold cn at herr hok
 refine Fc h (by omega) (by omega) hs hb (by rw [av];omega) hcap (fun s' w hr h=> ?_) (fun w hr h=> ?_) (fun M P u r s5 w hr h=> ?_) (fun u r s5 w hr h=> ?_)
 ·rw [hr] at herr
  (with_reducible repeat first|refine Nw.mk h fun b w h=> ?_|refine aq.mk h fun w h=> ?_|refine Ld.xb h rfl ?_|refine Ld.xt h rfl ?_|refine ae.xb (fun _ h=>h) rfl ?_|refine ae.xt (fun _ h=>h) rfl ?_|refine ⟨h.hb,?_⟩|refine ak.xw h rfl rfl fun w h=> ?_|(refine ak.xs h rfl rfl fun w h=> ?_;dsimp only [an,af] at h)|(refine St.xs h rfl rfl fun w h=> ?_;dsimp only [an,af] at h)|refine aa.yes ?_|refine aa.no ?_|refine ⟨by first|omega|decide,?_⟩)
  exact herr 50 w rfl (by decide) h.tl
 ·rw [hr] at herr
  (with_reducible repeat first|refine Nw.mk h fun b w h=> ?_|refine aq.mk h fun w h=> ?_|refine Ld.xb h rfl ?_|refine Ld.xt h rfl ?_|refine ae.xb (fun _ h=>h) rfl ?_|refine ae.xt (fun _ h=>h) rfl ?_|refine ⟨h.hb,?_⟩|refine ak.xw h rfl rfl fun w h=> ?_|(refine ak.xs h rfl rfl fun w h=> ?_;dsimp only [an,af] at h)|(refine St.xs h rfl rfl fun w h=> ?_;dsimp only [an,af] at h)|refine aa.yes ?_|refine aa.no ?_|refine ⟨by first|omega|decide,?_⟩)
  exact herr 242 w rfl (by decide) h.tl
 ·rw [hr] at herr hok
  dsimp only at herr hok
  have hM:=zK b mK (.inl ⟨rfl,rfl⟩) hb hr
  obtain ⟨a,hsuf⟩:=kY b mK hr
  have hrb: ∀y∈r,y<256:=fun y hy=>hb y (by rw [hsuf];exact List.mem_append.2 (.inr hy))
  have hrl:r.length≤b.length:=by rw [hsuf,List.length_append];omega
  have hl5:=h.aO
  have hc5:=h.ej
  rw [List.length_map,Nat.mul_one] at hl5
  (with_reducible repeat first|refine Nw.mk h fun b w h=> ?_|refine aq.mk h fun w h=> ?_|refine Ld.xb h rfl ?_|refine Ld.xt h rfl ?_|refine ae.xb (fun _ h=>h) rfl ?_|refine ae.xt (fun _ h=>h) rfl ?_|refine ⟨h.hb,?_⟩|refine ak.xw h rfl rfl fun w h=> ?_|(refine ak.xs h rfl rfl fun w h=> ?_;dsimp only [an,af] at h)|(refine St.xs h rfl rfl fun w h=> ?_;dsimp only [an,af] at h)|refine aa.yes ?_|refine aa.no ?_|refine ⟨by first|omega|decide,?_⟩)
  refine IK h (ab.at 1 ab.own) hrb (by omega) fun s12 w h=> ?_
  have hal:=fJ r
  have hab: ∀x∈aW r,x≤1:=fun x hx=>by have:=Ay r (8*r.length) x hx;omega
  have hl12:=h.aO
  have hc12:=h.ej
  simp only [ints,List.length_map,Nat.mul_one] at hl12
  unfold oF at herr hok
  refine HC h ab.own hab (by rw [av];omega) (fun t w hq h=> ?_) (fun w hq h=> ?_) (fun l more w hq h=> ?_)
  ·rw [hq] at herr
   refine Nw.mk h fun b18 w h=>ar.q h (by simp) (by simp) (by decide) fun w h=>aa.nt (by decide) (herr 50 w rfl (by decide) h.tl)
  ·rw [hq] at herr
   refine Nw.mk h fun b18 w h=>ar.q h (by simp) (by simp) (by decide) fun w h=>aa.nt (by decide) (herr 100 w rfl (by decide) h.tl)
  ·rw [hq] at herr hok
   dsimp only at herr hok
   obtain ⟨hl,hokT⟩:=yE _ t0 jW.zero hab hq
   obtain ⟨a2,hsuf2⟩:=kY _ t0 hq
   have hls:(ai .u8 l).size=258:=by rw [aJ,hl]
   have hlc:(ai .u8 l).toList.all aw=true:=List.all_eq_true.2 dz
   have hmore:more=(aW r).drop ((aW r).length - more.length):=by
    conv=>rhs;rw [hsuf2]
    rw [List.length_append,show a2.length+more.length - more.length=a2.length by omega,List.drop_left]
   have hml:more.length≤(aW r).length:=by rw [hsuf2,List.length_append];omega
   refine Nw.mk h fun b18 w h=>ar.q h (by simp) hls hlc fun w h=>aa.nf rfl (aq.mk h fun w h=> ?_)
   refine Ld.xb (x:=(M:Int)) h rfl (Ld.xw h hls ?_)
   have e12: ∀k:Nat,(((ints (aW r)).map vI).drop k)=(ints ((aW r).drop k)).map vI:=fun k=>by simp [ints]
   refine bg.rd ((h.at 1).ag ab.own) (by omega) (by omega) (by omega) (by omega) (by omega) fun s32 hs32 hl32=> ?_
   simp only [Int.toNat_natCast] at hs32 hl32
   rw [e12,←hmore,List.take_of_length_le (by simp [ints];omega)] at hs32
   have hmb: ∀x∈more,x≤1:=fun x hx=>hab x (by rw [hsuf2];exact List.mem_append.2 (.inr hx))
   refine DT h hl hokT (by omega) (by omega) ((ab.at 1 ab.own).imp fun w hw=>hs32 w hw) hmb (by rw [av];omega) (fun t w hq2 h=> ?_) (fun w hq2 h=> ?_) (fun last left s34 w hq2 hlb hll h=> ?_)
   ·rw [hq2] at herr
    exact aa.nt (by decide) (herr 50 w rfl (by decide) h.tl)
   ·rw [hq2] at herr
    exact aa.nt (by decide) (herr 160 w rfl (by decide) h.tl)
   ·rw [hq2] at herr hok
    dsimp only at herr hok
    obtain ⟨a3,hsuf3⟩:=kY _ _ hq2
    have hleft:left=(aW r).drop ((aW r).length - left.length):=by
     conv=>rhs;rw [hsuf2,hsuf3]
     rw [←List.append_assoc,List.length_append,show (a2++a3).length+left.length - left.length=(a2++a3).length by omega,List.drop_left]
    have hll2:left.length≤more.length:=by rw [hsuf3,List.length_append];omega
    have hlb1: ∀x∈left,x≤1:=fun x hx=>hmb x (by rw [hsuf3];exact List.mem_append.2 (.inr hx))
    have hpad:=De hlb1
    obtain ⟨p,hp⟩: ∃p,p=(aW r).length - left.length:=⟨_,rfl⟩
    have e1:(((aW r).length - more.length:Nat):Int)+((more.length - left.length:Nat):Int)=(p:Int):=by omega
    have hmx:IntKind.max .i64=9223372036854775807:=rfl
    have e2:aF .i64 ((p:Int)+7) 3=(((p+7)/8:Nat):Int):=by
     rw [show (p:Int)+7=((p+7:Nat):Int) by omega,show (3:Int)=((3:Nat):Int) from rfl,bO (by decide)]
    have e3:a8 .i64 (((p+7)/8:Nat):Int) 3=((8*((p+7)/8):Nat):Int):=by
     have:=dM (k:= .i64) (a:=(p+7)/8) (b:=3) (by decide) (by rw [hmx];omega)
     rw [show (3:Int)=((3:Nat):Int) from rfl,this]
     congr 1;omega
    rw [e1,ad (x:=(p:Int)) (by omega),ad (x:=(p:Int)+7) (by omega),e2,e3]
    refine aa.nf rfl ⟨by decide,by decide,?_⟩
    refine bg.rd ((h.at 2).ag ab.own) (by omega) (by omega) (by omega) (by omega) (by omega) fun s37 hs37 hl37=> ?_
    simp only [Int.toNat_natCast] at hs37 hl37
    rw [e12,hp,←hleft,←hp,show 8*((p+7)/8) - p=left.length % 8 by omega] at hs37
    rw [show (((ints left).map vI).take (left.length % 8))=(ints (left.take (left.length % 8))).map vI by simp [ints]] at hs37
    refine Fl h ((ab.at 2 ab.own).imp fun w hw=>hs37 w hw) (by rw [List.length_take,av];omega) fun w h=> ?_
    by_cases hpo:1∈left.take (left.length % 8)
    ·rw [hpad,decide_eq_true hpo] at herr
     rw [decide_eq_true hpo]
     exact aa.t rfl (herr 160 w rfl (by decide) h.tl)
    ·rw [hpad,decide_eq_false hpo] at herr hok
     rw [decide_eq_false hpo]
     refine aa.f rfl (Ld.xb (x:=(P:Int)) h rfl ?_)
     unfold jg at herr hok
     simp only [Bool.not_false,if_true] at herr hok
     refine FV h ab.own hlb (by omega) (fun ho s42 w h=> ?_) (fun ho w h=> ?_)
     ·have ho:okB last P:=by simpa [ow] using ho
      rw [if_pos ho] at herr hok
      refine aa.nf rfl ?_
      have htl:=mL last P
      have htb: ∀y∈cc last P,y<256:=fun y hy=>by
       unfold cc at hy
       simp only [List.mem_reverse,List.mem_map,List.mem_range] at hy
       obtain ⟨k,_,rfl⟩:=hy
       rw [List.getD_eq_getElem?_getD]
       cases hg:last[bw P (wk last P k)]? with
       |none=>decide
       |some z=>exact hlb z (List.mem_of_getElem? hg)
      refine wg h ab.own (by rw [Int.toNat_natCast,htl,av];omega) fun s45 w h=> ?_
      rw [Int.toNat_natCast] at h
      have hl45:=h.aO
      rw [List.length_map,Nat.mul_one,List.length_reverse] at hl45
      have h:=h.drew (n:=w.drawn+1)
      refine ⟨cj b _ _ _,h.hb,?_⟩
      refine ae.xb (x:=(u:Int)) (fun _ h=>h) rfl (Nw.mk h fun b58 w h=>⟨h.hb,?_⟩)
      refine Gn (s:=⟨some ⟨b58,0,none⟩,1,1⟩) (cs:= [s45]) (bs:= [(cc last P).reverse]) h (ab.aD rfl rfl) rfl (by rw [av];simp) (fun i hi=> ?_) (fun z hz y hy=> ?_) (fun z hz=> ?_) fun w h=>⟨h.hb,?_⟩
      ·match i,hi with
       |0,_=>exact ab.cons ab.own
      ·rw [List.mem_singleton] at hz
       rw [hz] at hy
       exact htb y (List.mem_reverse.1 hy)
      ·rw [List.mem_singleton] at hz
       rw [hz,List.length_reverse,htl,av];omega
      rw [show [(cc last P).reverse].flatten=(cc last P).reverse by simp]
      by_cases hc:bQ (cc last P).reverse=u
      ·rw [if_pos hc] at hok
       refine aa.nf (by omega) ?_
       have hrd:(r.map vB).drop ((p+7)/8)=(r.drop ((p+7)/8)).map vB:=by rw [List.map_drop]
       refine bg.rd ((h.at 7).ag ab.own) (by omega) (by omega) (by omega) (by omega) (by omega) fun s61 hs61 hl61=> ?_
       simp only [Int.toNat_natCast] at hs61 hl61
       rw [hrd,List.take_of_length_le (by simp;omega)] at hs61
       refine uO h ((ab.at 7 ab.own).imp fun w hw=>hs61 w hw) (by rw [List.length_drop,av];omega) fun s63 w h=> ?_
       have e9:r.length - left.length/8=(p+7)/8:=by omega
       refine hok (cc last P).reverse (r.drop ((p+7)/8)) s45 s63 w (by rw [e9]) (fun y hy=>htb y (List.mem_reverse.1 hy)) (fun y hy=>hrb y (List.mem_of_mem_drop hy)) (by rw [List.length_reverse,htl];omega) ?_
       exact ((h.no 1).p1).Jj
      ·rw [if_neg hc] at herr
       exact aa.nt (by omega) (herr 250 w rfl (by decide) h.tl)
     ·have ho: ¬okB last P:=by simpa [ow] using ho
      rw [if_neg ho] at herr
      exact aa.nt (by decide) (herr 170 w rfl (by decide) h.tl)
 ·rw [hr] at herr
  (with_reducible repeat first|refine Nw.mk h fun b w h=> ?_|refine aq.mk h fun w h=> ?_|refine Ld.xb h rfl ?_|refine Ld.xt h rfl ?_|refine ae.xb (fun _ h=>h) rfl ?_|refine ae.xt (fun _ h=>h) rfl ?_|refine ⟨h.hb,?_⟩|refine ak.xw h rfl rfl fun w h=> ?_|(refine ak.xs h rfl rfl fun w h=> ?_;dsimp only [an,af] at h)|(refine St.xs h rfl rfl fun w h=> ?_;dsimp only [an,af] at h)|refine aa.yes ?_|refine aa.no ?_|refine ⟨by first|omega|decide,?_⟩)
  exact herr 242 w rfl (by decide) h.tl
end
end Go.Proofs.YtcdpblipagajiaaGreat
set_option maxRecDepth 20000
namespace Go.Bw
open Go Go.Vc Go.Rk
theorem EB:aG []= []:=List.length_eq_zero_iff.1 (ca [])
end Go.Bw
namespace Go.Proofs.YtcdpblipagajiaaGreat
open Go Go.Vc
section
variable {w:World}
set_option maxRecDepth 200000 in
theorem np {s:Sl} {b:List Nat} {K:ByteArray→World→Prop} (hs:aC 1 s (b.map vB) w) (hK:K (strOf b) w):aA Tryz.prog (convert 22 9 (.slice s.base s.len s.cap)) nR w K:=
 Dj (s:=s) (b:=b) (e:=5) (by kernel_rfl) (by kernel_rfl) (by kernel_rfl) hs hK
end
end Go.Proofs.YtcdpblipagajiaaGreat
set_option maxRecDepth 20000
namespace Go.Proofs.YtcdpblipagajiaaGreat
open Go Go.Vc
section
variable {E w:World} {F:List HP} {K:Sl→World→Prop} {s s2:Sl} {b x:Nat} {t:TypeId}
abbrev OB (s:Sl) (xs:List Nat):HP:=ah 1 s (xs.map vB)
abbrev Jb (b x:Nat) (t:TypeId):HP:=aj b (.cells ⟨[.int .u8 (x:Int)]⟩ t (0,0))
theorem OB.len {xs:List Nat} (h:Hp E w (OB s xs::F)):xs.length=s.len:=by have:=h.aO;simpa using this
theorem J2: ∀y∈ [vB x],aw y=true:=by intro y hy;rw [List.mem_singleton] at hy;rw [hy];rfl
theorem DW {xs:List Nat} (h:aC 1 s (xs.map vB) w):xs.length=s.len:=by have:=h.1;simpa using this
theorem JG {xs:List Nat} (h:Hp E w (Jb b x t::OB s xs::F)) (hl:xs.length≤10000000000) (hK: ∀s' w',Hp E w' (OB s' (xs++ [x])::F)→K s' w'):
  aA Tryz.prog (Builtin.append_ #[22,22] 22 ⟨[.slice s.base s.len s.cap,.slice (some ⟨b,0,none⟩) 1 1]⟩) kS w K:=by
 have hol:=OB.len (h.at 1)
 refine aM (ys:= [vB x]) (n:=1) oP (by decide) (.inl ⟨5,by kernel_rfl⟩) (h.at 1) (.inl ⟨some ⟨b,0,none⟩,1,1,rfl,rfl,h.ag (ab.aD rfl rfl)⟩) rfl J2 (by omega) (by omega) fun s' w' h _=>hK s' w' ?_
 unfold OB
 rw [List.map_append]
 exact h.dP
theorem Gs {xs:List Nat} (h:Hp E w (Jb b x t::OB s xs::F)) (hl:xs.length≤10000000000) (hK: ∀s' w',Hp E w' (OB s' (x::xs)::F)→K s' w'):
  aA Tryz.prog (Builtin.append_ #[22,22] 22 ⟨[.slice (some ⟨b,0,none⟩) 1 1,.slice s.base s.len s.cap]⟩) kS w K:=by
 have hol:=OB.len (h.at 1)
 have h2:=Hp.fC (n:=1) (sz:=1) h rfl
 refine aM (s:=⟨some ⟨b,0,none⟩,1,1⟩) (xs:= [vB x]) (ys:=xs.map vB) (n:=s.len) oP (by decide) (.inl ⟨5,by kernel_rfl⟩) h2 (.inl ⟨s.base,s.len,s.cap,rfl,rfl,(h2.at 1).ag ab.own⟩) (by simp [hol]) ek (by dsimp only;omega) (by dsimp only;omega) fun s' w' h _=>hK s' w' ?_
 exact h.dP
theorem uF {xs ys:List Nat} (h:Hp E w (OB s xs::F)) (h2:ab F (aC 1 s2 (ys.map vB))) (hl:xs.length≤1000000000000) (hl2:ys.length≤1000000000000) (hK: ∀s' w',Hp E w' (OB s' (xs++ys)::F)→K s' w'):
  aA Tryz.prog (Builtin.append_ #[22,22] 22 ⟨[.slice s.base s.len s.cap,.slice s2.base s2.len s2.cap]⟩) kS w K:=by
 have hol:=OB.len h
 have hol2:=DW (h.drop.ag h2)
 refine aM (ys:=ys.map vB) (n:=s2.len) oP (by decide) (.inl ⟨5,by kernel_rfl⟩) h (.inl ⟨s2.base,s2.len,s2.cap,rfl,rfl,h.drop.ag h2⟩) (by simp [hol2]) ek (by omega) (by omega) fun s' w' h _=>hK s' w' ?_
 unfold OB
 rw [List.map_append]
 exact h
end
end Go.Proofs.YtcdpblipagajiaaGreat
set_option maxRecDepth 20000
namespace Go.Proofs.YtcdpblipagajiaaGreat
open Go Go.Vc Go.Srt
section
variable {E w:World} {F:List HP}
theorem Dy {s s2:Sl} {a b:List Int} {K:Bool→World→Prop} (h:Hp E w F) (ha:ab F (aC 1 s (a.map vI))) (hb:ab F (aC 1 s2 (b.map vI))) (hbig:a.length≤cf) (hK: ∀w',Hp E w' F→K (a==b) w'):
  Cl Tryz.prog [kB] jC ⟨[.slice s.base s.len s.cap,.slice s2.base s2.len s2.cap]⟩ w K:=by
 refine Cv.ok _ _ _ _ ?_
 have la:=(h.ag ha).1
 have lb:=(h.ag hb).1
 simp only [List.length_map,Nat.mul_one] at la lb
 rw [av] at hbig
 refine aa.mk (fun hne=> ?_) (fun heq=> ?_)
 ·have hne: ¬(s.len:Int)=(s2.len:Int):=by simpa using hne
  have:(a==b)=false:=by
   rw [beq_eq_false_iff_ne];rintro rfl;omega
  have hk:=hK w h
  rw [this] at hk;exact hk
 ·have heq:(s.len:Int)=(s2.len:Int):=by simpa using heq
  refine ⟨fun i w'=> ∃k:Nat,i=(k:Int)∧k≤a.length∧a.take k=b.take k∧Hp E w' F,fun i _=>a.length - i.toNat,⟨0,rfl,by omega,by simp,h⟩,?_⟩
  rintro i w' ⟨k,rfl,hk,hab,hh⟩
  refine aa.mk (fun hlt=> ?_) (fun hge=> ?_)
  ·have hlt:k<a.length:=by have:=of_decide_eq_true hlt;omega
   have hltb:k<b.length:=by omega
   refine aq.mk hh fun w1 h1=> ?_
   refine ao.rd (h1.ag ha) (by omega) (by omega) fun q hq hc=> ?_
   refine Ld.sc (s:= .int .i64) a[k] (by rw [hc];simp [vI]) ?_
   refine ao.rd (h1.ag hb) (by omega) (by omega) fun q2 hq2 hc2=> ?_
   refine Ld.sc (s:= .int .i64) b[k] (by rw [hc2];simp [vI]) ?_
   refine aa.mk (fun hne=> ?_) (fun hee=> ?_)
   ·have hne: ¬a[k]=b[k]:=by simpa using hne
    have:(a==b)=false:=by
     rw [beq_eq_false_iff_ne];rintro rfl;exact hne rfl
    have hk:=hK w1 h1
    rw [this] at hk;exact hk
   ·have hee:a[k]=b[k]:=by simpa using hee
    rw [ad (by omega)]
    refine ⟨⟨k+1,rfl,by omega,?_,h1⟩,by dsimp only;omega⟩
    rw [List.take_add_one,List.take_add_one,hab,List.getElem?_eq_getElem hlt,List.getElem?_eq_getElem hltb,hee]
  ·have hge:k=a.length:=by have:=of_decide_eq_false hge;omega
   subst hge
   rw [List.take_length,List.take_of_length_le (by omega)] at hab
   have hk:=hK w' hh
   rw [hab] at hk
   simpa using hk
end
end Go.Proofs.YtcdpblipagajiaaGreat
namespace Go.Vc
open Go
theorem bg.Gi {w:World} {s:Sl} {xs:List Value} {lo hi mx:Int} {K:Sl→Prop} (hs:aC 1 s xs w) (h0:0≤lo) (h1:lo≤hi) (h2:hi≤(s.len:Int)) (h3:hi≤mx) (h4:mx≤(s.cap:Int))
  (h: ∀s':Sl,(∀w',aC 1 s xs w'→aC 1 s' ((xs.drop lo.toNat).take (hi.toNat - lo.toNat)) w')→s'.len=hi.toNat - lo.toNat→s'.len≤s'.cap→K s'):bg s lo hi mx 1 K:=by
 obtain ⟨a,b,c,d,e⟩:=bg.rd (K:=fun s'=>s'.len≤s'.cap→K s') hs h0 h1 h2 h3 h4 fun s' a b c=>h s' a b c
 exact ⟨a,b,c,d,e (by simp only;omega)⟩
end Go.Vc
namespace Go.Stm
end Go.Stm
namespace Go.Proofs.YtcdpblipagajiaaGreat
open Go Go.Vc Go.Stm
section
variable {E w:World} {F:List HP}
set_option maxRecDepth 20000
end
end Go.Proofs.YtcdpblipagajiaaGreat
namespace Go.aj
open Go.Inc Go.Srt Go.Sym Go.Bits Go.Tab Go.Hd Go.Crc Go.Bw Go.Rk Go.Proofs.YtcdpblipagajiaaGreat
theorem fY:aG [97]= [97]:=by
 have:bt [97]= [1,0]:=mI (gG [97]) ((de _).trans (by decide+kernel)) (jZ [97]) (by decide+kernel)
 unfold aG dK;rw [this];decide+kernel
theorem Hi:aR [97]=1:=by decide+kernel
theorem Hv:aG [98,97]= [97,98]:=by
 have:bt [98,97]= [2,1,0]:=mI (gG [98,97]) ((de _).trans (by decide+kernel)) (jZ [98,97]) (by decide+kernel)
 unfold aG dK;rw [this];decide+kernel
theorem IZ:aR [98,97]=2:=by decide+kernel
theorem yw:syms [97]= [98,257]:=by decide+kernel
theorem EZ:syms []= [257]:=by decide+kernel
theorem HH:bQ [97]=3904355907:=by decide+kernel
theorem xD:(bL [97]).getD 98 0=1∧(bL [97]).getD 257 0=1:=by
 have hord:bF (ig [98,257]) [98,257]:=⟨by decide+kernel,by decide+kernel⟩
 have e:bL [97]=ie (ig [98,257]) [98,257] 15:=by
  unfold bL qZ
  rw [show ([97]:List Nat).reverse= [97] from rfl,fY,yw]
  have:=xK (uo (ig [98,257])) hord
  rw [this]
 rw [e]
 exact ⟨by decide+kernel,by decide+kernel⟩
noncomputable abbrev qg:List Nat:=bL [97]
theorem qn:gV qg [97]:=by
 have:=lp (x:= [97]) (by decide) (by decide) (by decide)
 rwa [show ([97]:List Nat).reverse= [97] from rfl,fY] at this
noncomputable abbrev mb:List Nat:=pack (body qg [97])
theorem oA:jO qg [97]= [1,1,1,232,183,190,67]++mb:=by
 unfold jO
 rw [show ([97]:List Nat).reverse= [97] from rfl,fY,Hi,HH]
 congr 1
 decide+kernel
theorem yn:0<mb.length:=by
 have h:=iM (body qg [97])
 have:0<(body qg [97]).length:=by unfold body;rw [List.length_append];unfold du four;simp;omega
 unfold mb;rw [h];omega
theorem HU: ∀y∈mb,y<256:=vU (ku _ _) _
theorem H5:cn 10 [0,0,0,0,0]= .error 242:=rfl
theorem H7 (z:List Nat):cn 10 ([1,1,1,232,183,190,67]++mb++z)= .ok ([97],z):=by
 rw [←oA]
 refine BU ?_ ?_ (by decide) (by decide) (by decide) z
 ·rw [show ([97]:List Nat).reverse= [97] from rfl,fY];exact qn
 ·rw [show ([97]:List Nat).reverse= [97] from rfl,fY];decide
theorem H8:cn 10 [1,1,1,232,183,190,67]= .error 50:=by
 have h:=yn
 have:=Cc (l:=qg) (n:=10) (x:= [97]) (by rw [show ([97]:List Nat).reverse= [97] from rfl,fY];exact qn) (by rw [show ([97]:List Nat).reverse= [97] from rfl,fY];decide) (by decide) (by decide) (by decide) (k:=7) (by rw [oA,List.length_append];simp;exact h)
 rw [oA] at this
 exact this
theorem Ih:cn 10 ([1,1,1,0,183,190,67]++mb)= .error 250:=by
 have:=nK (n:=10) (P:=1) (sum:=12041795) qn (by decide) (by decide) (by decide) (by decide) (by decide) (by decide) []
 rw [List.append_nil,show bN [97].length 1 12041795= [1,1,1,0,183,190,67] by decide+kernel] at this
 have e:jg 1 12041795 [97]= .error 250:=by
  unfold jg
  rw [if_pos (by decide+kernel),if_neg (by decide+kernel)]
 rw [e] at this
 exact this
end Go.aj
namespace Go.Proofs.YtcdpblipagajiaaGreat
open Go Go.Vc Go.Srt Go.Inc Go.Sym Go.Tab Go.Hd Go.Bw Go.Bits Go.aj Go.Crc
section
variable {E w:World} {F:List HP}
set_option maxRecDepth 20000
theorem IV {b:Nat} {s:Sl} {xs:List Nat} {K:Sl→World→Prop} (h:Hp E w (aj b (.cells ⟨[]⟩ 5 (0,0))::F)) (hs:ab F (aC 1 s (xs.map vB))) (hl:xs.length≤1000000000000) (hK: ∀s' w',Hp E w' (OB s' xs::F)→K s' w'):
  aA Tryz.prog (Builtin.append_ #[22,22] 22 ⟨[.slice (some ⟨b,0,none⟩) 0 0,.slice s.base s.len s.cap]⟩) kS w K:=by
 have h:=Hp.fC (n:=0) (sz:=1) h rfl
 have key:=fun (K':Sl→World→Prop)=>uF (s:=⟨some ⟨b,0,none⟩,0,0⟩) (xs:= []) (ys:=xs) (K:=K') h hs (Nat.zero_le _) hl
 exact key _ fun s3 w h=>hK s3 w h
theorem yH {n:Int} {s:Sl} {x:List Nat} {K:Sl→Int→World→Prop} (h:Hp E w F) (hs:ab F (aC 1 s (x.map vB))) (hb: ∀y∈x,y<256) (h1:1≤n) (h2:n≤65536) (h3:1≤x.length) (h4:(x.length:Int)≤n)
  (hK: ∀s' w',Hp E w' (OB s' (jO (bL x) x)::F)→K s' 0 w'):Cl Tryz.prog [kS,kI] cQ ⟨[.int .i64 n,.slice s.base s.len s.cap]⟩ w K:=
 DQ h hs hb (by omega) (fun _ _ _ _=>hK) fun hno=>absurd ⟨h1,h2,h3,h4⟩ hno
theorem xZ {n:Int} {s:Sl} {x:List Nat} {K:Sl→Int→World→Prop} (h:Hp E w F) (hs:ab F (aC 1 s (x.map vB))) (hb: ∀y∈x,y<256) (hl:x.length≤65536) (hno: ¬(1≤n∧n≤65536∧1≤x.length∧(x.length:Int)≤n))
  (hK: ∀w',Hp E w' F→K ⟨none,0,0⟩ 2 w'):Cl Tryz.prog [kS,kI] cQ ⟨[.int .i64 n,.slice s.base s.len s.cap]⟩ w K:=
 DQ h hs hb hl (fun h1 h2 h3 h4=>absurd ⟨h1,h2,h3,h4⟩ hno) fun _=>hK
theorem Cz {n:Nat} {s:Sl} {b x r:List Nat} {K:Sl→Sl→Int→World→Prop} (h:Hp E w F) (hs:ab F (aC 1 s (b.map vB))) (hb: ∀y∈b,y<256) (hbig:b.length≤10000000) (hcap:s.len≤s.cap) (h1:1≤n) (h2:n≤65536) (he:cn n b= .ok (x,r))
  (hK: ∀s1 s2 w',Hp E w' (OB s1 x::OB s2 r::F)→K s1 s2 0 w'):Cl Tryz.prog [kS,kS,kI] bq ⟨[.int .i64 (n:Int),.slice s.base s.len s.cap]⟩ w K:=by
 refine rQ h hs hb hbig hcap (fun hn=>absurd (show 1≤(n:Int)∧(n:Int)≤65536 by omega) hn) (fun _ _ e w h3=> ?_) (fun _ _ x' r' s1 s2 w h3 _ _ _ h=> ?_)
 ·rw [Int.toNat_natCast,he] at h3;cases h3
 ·rw [Int.toNat_natCast,he] at h3;cases h3;exact hK s1 s2 w h
theorem nG {n e:Nat} {s:Sl} {b:List Nat} {K:Sl→Sl→Int→World→Prop} (h:Hp E w F) (hs:ab F (aC 1 s (b.map vB))) (hb: ∀y∈b,y<256) (hbig:b.length≤10000000) (hcap:s.len≤s.cap) (h1:1≤n) (h2:n≤65536) (he:cn n b= .error e)
  (hK: ∀w',Hp E w' F→K ⟨none,0,0⟩ ⟨none,0,0⟩ (e:Int) w'):Cl Tryz.prog [kS,kS,kI] bq ⟨[.int .i64 (n:Int),.slice s.base s.len s.cap]⟩ w K:=by
 refine rQ h hs hb hbig hcap (fun hn=>absurd (show 1≤(n:Int)∧(n:Int)≤65536 by omega) hn) (fun _ _ e' w h3 _ h=> ?_) (fun _ _ x' r' s1 s2 w h3 _ _ _ h=> ?_)
 ·rw [Int.toNat_natCast,he] at h3;cases h3;exact hK w h
 ·rw [Int.toNat_natCast,he] at h3;cases h3
theorem Gg (x:List Nat):((strOf x).toList==(strOf x).toList)=true:=by simp
theorem dE {K:Bool→World→Prop} (h:Hp E w F) (hK: ∀w',Hp E w' F→K true w'):Cl Tryz.prog [kB] bH ⟨[]⟩ w K:=by
 refine zO.ok _ _ ?_
 simp only [aH]
 have b1: ∀y∈([97]:List Nat),y<256:=by decide
 have hTb:=HU
 have hTp:=yn
 have hTl:=vn (x:= [97]) (by decide) b1 (by decide)
 rw [show bL [97]=qg from rfl,oA,List.length_append] at hTl
 simp only [List.length_cons,List.length_nil] at hTl
 have b7: ∀y∈([1,1,1,232,183,190,67]:List Nat),y<256:=by decide
 have hBb: ∀y∈ [1,1,1,232,183,190,67]++mb,y<256:=fun y hy=>by
  rcases List.mem_append.1 hy with hy|hy
  ·exact b7 y hy
  ·exact hTb y hy
 refine Nw.mk h fun b2 w h=>yH (n:=10) (s:=⟨some ⟨b2,0,none⟩,1,1⟩) (x:= [97]) h (ab.aD rfl rfl) b1 (by decide) (by decide) (by decide) (by decide) fun s4 w h=> ?_
 rw [show bL [97]=qg from rfl,oA] at h
 have l4:=OB.len h
 have c4:=h.ej
 rw [List.length_append] at l4
 simp only [List.length_cons,List.length_nil] at l4
 refine xZ (n:=10) (s:=⟨none,0,0⟩) (x:= []) h ab.nil (by simp) (by simp) (by simp) fun w h=> ?_
 refine Nw.mk h fun b10 w h=>xZ (n:=0) (s:=⟨some ⟨b10,0,none⟩,1,1⟩) (x:= [97]) h (ab.aD rfl rfl) b1 (by decide) (by decide) fun w h=> ?_
 (with_reducible repeat first|refine Nw.mk h fun b w h=> ?_|refine aq.mk h fun w h=> ?_|refine Ld.xb h rfl ?_|refine Ld.xt h rfl ?_|refine ae.xb (fun _ h=>h) rfl ?_|refine ae.xt (fun _ h=>h) rfl ?_|refine ⟨h.hb,?_⟩|refine ak.xw h rfl rfl fun w h=> ?_|(refine ak.xs h rfl rfl fun w h=> ?_;dsimp only [an,af] at h)|(refine St.xs h rfl rfl fun w h=> ?_;dsimp only [an,af] at h)|refine aa.yes ?_|refine aa.no ?_|refine ⟨by first|omega|decide,?_⟩)
 refine IV h (ab.at 1 ab.own) (by rw [List.length_append];simp only [List.length_cons,List.length_nil];omega) fun s22 w h=> ?_
 refine Nw.mk h fun b24 w h=>JG (x:=7) h (by rw [List.length_append];simp only [List.length_cons,List.length_nil];omega) fun s26 w h=> ?_
 have hl2:([1,1,1,232,183,190,67]++mb++ [7]).length≤10000000:=by rw [List.length_append,List.length_append];simp only [List.length_cons,List.length_nil];omega
 refine Cz (n:=10) h ab.own (fun y hy=> ?_) hl2 h.ej (by decide) (by decide) (H7 [7]) fun s28 s29 w h=> ?_
 ·rcases List.mem_append.1 hy with hy|hy
  ·exact hBb y hy
  ·rw [List.mem_singleton] at hy;omega
 refine Nw.mk h fun b32 w h=>nG (n:=10) (s:=⟨some ⟨b32,0,none⟩,5,5⟩) (b:= [0,0,0,0,0]) h (ab.aD rfl rfl) (by decide) (by decide) (Nat.le_refl _) (by decide) (by decide) H5 fun w h=> ?_
 refine bg.Gi ((h.at 5).ag ab.own) (by omega) (by omega) (by omega) (by omega) (by omega) fun s37 hs37 hl37 hc37=> ?_
 have hs37: ∀w,aC 1 s4 (([1,1,1,232,183,190,67]++mb).map vB) w→aC 1 s37 (([1,1,1,232,183,190,67]:List Nat).map vB) w:=fun w hw=>hs37 w hw
 refine nG (n:=10) h ((ab.at 5 ab.own).imp hs37) b7 (by decide) hc37 (by decide) (by decide) H8 fun w h=> ?_
 refine Nw.mk h fun b43 w h=>IV h (ab.at 5 ab.own) (by rw [List.length_append];simp only [List.length_cons,List.length_nil];omega) fun s45 w h=> ?_
 refine ao.I6 (j:=3) (x:=0) h rfl (by rw [List.length_append];simp only [List.length_cons,List.length_nil];omega) fun w h=> ?_
 have h:Hp E w (OB s45 ([1,1,1,0,183,190,67]++mb)::_):=h
 refine nG (n:=10) h ab.own (fun y hy=> ?_) (by rw [List.length_append];simp only [List.length_cons,List.length_nil];omega) h.ej (by decide) (by decide) Ih fun w h=> ?_
 ·rcases List.mem_append.1 hy with hy|hy
  ·have hk: ∀y∈([1,1,1,0,183,190,67]:List Nat),y<256:=by decide
   exact hk y hy
  ·exact hTb y hy
 refine Nw.mk h fun b53 w h=>CB (s:=⟨some ⟨b53,0,none⟩,1,1⟩) (x:= [97]) h (ab.aD rfl rfl) b1 (by decide) fun w h=> ?_
 have hls:(ai .u8 (bL [97])).size=258:=by rw [aJ];exact mV _
 have hlc:(ai .u8 (bL [97])).toList.all aw=true:=List.all_eq_true.2 dz
 refine Nw.mk h fun b57 w h=>ar.q h (by simp) hls hlc fun w h=>Nw.mk h fun b60 w h=>FN h fun w h=> ?_
 refine se (s:=⟨some ⟨b60,0,none⟩,2,2⟩) (x:= [97,98]) h (ab.aD rfl rfl) (by decide) (by decide) fun s64 w h=> ?_
 rw [show ([97,98]:List Nat).reverse= [98,97] from rfl,IZ]
 rw [show ([97,98]:List Nat).reverse= [98,97] from rfl,Hv] at h
 refine bg.Gi ((h.at 10).ag ab.own) (by omega) (by omega) (by omega) (by omega) (by omega) fun s66 hs66 hl66 hc66=> ?_
 have hs66: ∀w,aC 1 s4 (([1,1,1,232,183,190,67]++mb).map vB) w→aC 1 s66 (([1,1,1,232,183,190,67]:List Nat).map vB) w:=fun w hw=>hs66 w hw
 refine np (hs66 _ (h.ag (ab.at 10 ab.own))) (aa.t (by rw [show (ByteArray.mk #[1,1,1,232,183,190,67])=strOf [1,1,1,232,183,190,67] from rfl];exact Gg _) ?_)
 refine np (h.ag (ab.at 6 ab.own)) (aa.t (by rw [show (ByteArray.mk #[97])=strOf [97] from rfl];exact Gg _) ?_)
 refine np (h.ag (ab.at 7 ab.own)) (aa.t (by rw [show (ByteArray.mk #[7])=strOf [7] from rfl];exact Gg _) ?_)
 refine aa.t rfl (aa.t rfl (aa.t rfl (aa.t rfl ?_)))
 have hL:=mV (syms (aG ([97]:List Nat).reverse))
 refine aB.rd (s:= .int .u8) (h.at 2) (by decide) (by decide) ((bL [97]).getD 98 0:Int) (sf (by rw [show (bL [97]).length=258 from hL];decide)) ?_
 rw [xD.1]
 refine aa.t rfl ?_
 refine aB.rd (s:= .int .u8) (h.at 2) (by decide) (by decide) ((bL [97]).getD 257 0:Int) (sf (by rw [show (bL [97]).length=258 from hL];decide)) ?_
 rw [xD.2]
 refine aa.t rfl ?_
 refine Nw.mk h fun b78 w h=>qG (s:=⟨some ⟨b78,0,none⟩,1,1⟩) (x:= [97]) h (ab.aD rfl rfl) b1 (by decide) fun s80 w h=> ?_
 rw [show ([97]:List Nat).reverse= [97] from rfl,fY,yw] at h
 refine Nw.mk h fun b82 w h=>Dy (s2:=⟨some ⟨b82,0,none⟩,2,2⟩) (b:=ints [98,257]) h (ab.at 1 ab.own) (ab.aD rfl rfl) (by decide) fun w h=> ?_
 refine aa.t (by simp) ?_
 refine np (h.ag (ab.at 3 ab.own)) (aa.t (by rw [show (ByteArray.mk #[97,98])=strOf [97,98] from rfl];exact Gg _) (aa.t rfl ?_))
 refine qG (s:=⟨none,0,0⟩) (x:= []) h ab.nil (by simp) (by simp) fun s88 w h=> ?_
 rw [show ([]:List Nat).reverse= [] from rfl,EB,EZ] at h
 refine Nw.mk h fun b90 w h=>Dy (s2:=⟨some ⟨b90,0,none⟩,1,1⟩) (b:=ints [257]) h (ab.at 1 ab.own) (ab.aD rfl rfl) (by decide) fun w h=> ?_
 exact iW (by simp) (hK w h.tl)
end
end Go.Proofs.YtcdpblipagajiaaGreat
namespace Go.Proofs.YtcdpblipagajiaaGreat
open Go Go.Vc
set_option maxRecDepth 100000
theorem yF.ok (a:Sl) (R:Sl→Int→World→Prop) w (h:
 Cl Pg [kS] eW ⟨[(al a)]⟩ w fun (c:Sl) b=>
 Cl Pg [kS,kI] mr ⟨[(al c)]⟩ b fun (e:Sl) (f:Int) d=>
 R e f d):Cl Pg [kS,kI] jI ⟨[(al a)]⟩ w R:=co Tryz.f17 [] h
end Go.Proofs.YtcdpblipagajiaaGreat
namespace Go.Vc
theorem bf.Gq {A:Type} {r:A→World→Prop} {k:(A→World→Prop)→Prop} (Q:A→World→Prop) (h1: ∀a w,Q a w→r a w) (h2: ∀r',(∀a w,Q a w→r' a w)→k r'):bf r k:=h2 r h1
end Go.Vc
namespace Go.Proofs.YtcdpblipagajiaaGreat
open Go Go.Vc Go.Srt Go.Inc Go.Tab Go.Bits
section
variable {E w:World} {F:List HP}
set_option maxRecDepth 20000
end
end Go.Proofs.YtcdpblipagajiaaGreat
namespace Go.Proofs.YtcdpblipagajiaaGreat
open Go Go.Vc
set_option maxRecDepth 100000
theorem DD.ok (a:Int) (R:Sl→Int→World→Prop) w (h:
 aa (decide (a<0))
 (R (⟨none,0,0⟩:Sl) 2 w)
 (aa (decide (a>2147483647))
 (R (⟨none,0,0⟩:Sl) 2 w)
 ((128:Int)≠0∧
 Nw 5 ⟨[(.int .u8 (u8 (Int.tmod a (128:Int))))]⟩ w fun c b=>
 (128:Int)≠0∧
 cD (i64 (Int.tdiv a (128:Int))) (⟨some ⟨c,0,none⟩,1,1⟩:Sl) b fun d e (f:Int) (g:Sl) h=>
 aa (decide (f>0))
 ((128:Int)≠0∧
 Nw 5 ⟨[(.int .u8 (u8 (i64 ((128:Int)+((Int.tmod f (128:Int)):Int)))))]⟩ h fun j i=>
 aA Pg (Builtin.append_ #[22,22] 22 ⟨[(al (⟨some ⟨j,0,none⟩,1,1⟩:Sl)),(al g)]⟩) kS i fun (l:Sl) k=>
 (128:Int)≠0∧
 d (i64 (Int.tdiv f (128:Int))) l k∧e (i64 (Int.tdiv f (128:Int))) l k<e f g h)
 (R g 0 h)))):Cl Pg [kS,kI] j8 ⟨[(ni a)]⟩ w R:=co Tryz.f71 [(12,[(0,kI),(4,kS)])] h
end Go.Proofs.YtcdpblipagajiaaGreat
namespace Go.Proofs.YtcdpblipagajiaaGreat
open Go Go.Vc
set_option maxRecDepth 100000
theorem uV.ok (a:Int) (b:(TT [.int .i64,.int .i64,.int .u32])) (R:Sl→Int→World→Prop) w (h:
 Nw 53 ⟨[(ni b.1),(ni b.2.1),(.int .u32 b.2.2.1)]⟩ w fun d c=>
 bf (fun (k:World)=>
 Ld kI (Addr.add ⟨d,0,none⟩ 0) k fun (l:Int)=>
 Cl Pg [kS,kI] j8 ⟨[(ni l)]⟩ k fun (n:Sl) (o:Int) m=>
 Ld kI (Addr.add ⟨d,0,none⟩ 1) m fun (p:Int)=>
 Cl Pg [kS,kI] j8 ⟨[(ni p)]⟩ m fun (r:Sl) (s:Int) q=>
 Nw 5 ⟨[(.int .u8 1)]⟩ q fun u t=>
 aA Pg (Builtin.append_ #[22,22] 22 ⟨[(al (⟨some ⟨u,0,none⟩,1,1⟩:Sl)),(al n)]⟩) kS t fun (x:Sl) v=>
 aA Pg (Builtin.append_ #[22,22] 22 ⟨[(al x),(al r)]⟩) kS v fun (z:Sl) y=>
 Ld (az .u32) (Addr.add ⟨d,0,none⟩ 2) y fun (a1:Int)=>
 Cl Pg [kS] nF ⟨[(.int .u32 a1)]⟩ y fun (c1:Sl) b1=>
 aA Pg (Builtin.append_ #[22,22] 22 ⟨[(al z),(al c1)]⟩) kS b1 fun (e1:Sl) d1=>
 R e1 0 d1) fun e=>
 aa (decide (a<1))
 (R (⟨none,0,0⟩:Sl) 2 c)
 (aa (decide (a>65536))
 (R (⟨none,0,0⟩:Sl) 2 c)
 (Ld kI (Addr.add ⟨d,0,none⟩ 0) c fun (f:Int)=>
 aa (decide (f<1))
 (R (⟨none,0,0⟩:Sl) 2 c)
 (Ld kI (Addr.add ⟨d,0,none⟩ 0) c fun (g:Int)=>
 aa (decide (g>a))
 (R (⟨none,0,0⟩:Sl) 2 c)
 (Ld kI (Addr.add ⟨d,0,none⟩ 1) c fun (h:Int)=>
 aa (decide (h<1))
 (R (⟨none,0,0⟩:Sl) 2 c)
 (Ld kI (Addr.add ⟨d,0,none⟩ 1) c fun (i:Int)=>
 Ld kI (Addr.add ⟨d,0,none⟩ 0) c fun (j:Int)=>
 aa (decide (i>j))
 (R (⟨none,0,0⟩:Sl) 2 c)
 (e c))))))):Cl Pg [kS,kI] cI ⟨[(ni a),(.agg ⟨[(ni b.1),(ni b.2.1),(.int .u32 b.2.2.1)]⟩)]⟩ w R:=co Tryz.f26 [(2,[])] h
end Go.Proofs.YtcdpblipagajiaaGreat
namespace Go.Proofs.YtcdpblipagajiaaGreat
open Go Go.Vc
set_option maxRecDepth 100000
theorem Ew.ok (a:Sl) (R:Int→World→Prop) w (h:
 Cl Pg [(az .u32)] l7 ⟨[(.int .u32 0),(al a)]⟩ w fun (c:Int) b=>
 R c b):Cl Pg [(az .u32)] ln ⟨[(al a)]⟩ w R:=co Tryz.f27 [] h
theorem DO.ok (a:Int) (R:Sl→World→Prop) w (h:
 (16777216:Int)≠0∧
 (65536:Int)≠0∧
 (256:Int)≠0∧
 (256:Int)≠0∧
 (256:Int)≠0∧
 (256:Int)≠0∧
 Nw 5 ⟨[(.int .u8 (u8 (u32 (Int.tdiv a (16777216:Int))))),(.int .u8 (u8 (Int.tmod (u32 (Int.tdiv a (65536:Int))) (256:Int)))),(.int .u8 (u8 (Int.tmod (u32 (Int.tdiv a (256:Int))) (256:Int)))),(.int .u8 (u8 (Int.tmod a (256:Int))))]⟩ w fun c b=>
 R (⟨some ⟨c,0,none⟩,4,4⟩:Sl) b):Cl Pg [kS] nF ⟨[(.int .u32 a)]⟩ w R:=co Tryz.f72 [] h
theorem CH.ok (a:Int) (b:Sl) (R:Int→World→Prop) w (h:
 cD (dg .u32 a 4294967295) 0 w fun c d (e:Int) (f:Int) g=>
 aa (decide (f<(b.len:Int)))
 (cD e 0 g fun h i (j:Int) (k:Int) l=>
 ao b f 1 fun m=>
 Ld kS m l fun (n:Sl)=>
 aa (decide (k<(n.len:Int)))
 (ao b f 1 fun o=>
 Ld kS o l fun (p:Sl)=>
 ao p k 1 fun q=>
 Ld (az .u8) q l fun (r:Int)=>
 Cl Pg [(az .u32)] mf ⟨[(.int .u32 j),(.int .u8 r)]⟩ l fun (t:Int) s=>
 h t (i64 (k+1)) s∧i t (i64 (k+1)) s<i j k l)
 (c j (i64 (f+1)) l∧d j (i64 (f+1)) l<d e f g))
 (R (dg .u32 e 4294967295) g)):Cl Pg [(az .u32)] l7 ⟨[(.int .u32 a),(al b)]⟩ w R:=co Tryz.f73 [(7,[(0,(az .u32)),(5,kI)]),(14,[(0,(az .u32)),(6,kI)])] h
theorem Cd.ok (a:Int) (b:Int) (R:Int→World→Prop) w (h:
 (256:Int)≠0∧
 Cl Pg [(az .u32)] nv ⟨[(.int .u8 (dg .u8 (u8 (Int.tmod a (256:Int))) b))]⟩ w fun (d:Int) c=>
 (256:Int)≠0∧
 R (dg .u32 d (u32 (Int.tdiv a (256:Int)))) c):Cl Pg [(az .u32)] mf ⟨[(.int .u32 a),(.int .u8 b)]⟩ w R:=co Tryz.f122 [] h
theorem DP.ok (a:Int) (R:Int→World→Prop) w (h:
 cD (u32 a) 0 w fun b c (d:Int) (e:Int) f=>
 aa (decide (e<8))
 ((2:Int)≠0∧
 (2:Int)≠0∧
 aa (((Int.tmod d (2:Int)):Int)==1)
 (b (dg .u32 (u32 (Int.tdiv d (2:Int))) 3988292384) (i64 (e+1)) f∧c (dg .u32 (u32 (Int.tdiv d (2:Int))) 3988292384) (i64 (e+1)) f<c d e f)
 (b (u32 (Int.tdiv d (2:Int))) (i64 (e+1)) f∧c (u32 (Int.tdiv d (2:Int))) (i64 (e+1)) f<c d e f))
 (R d f)):Cl Pg [(az .u32)] nv ⟨[(.int .u8 a)]⟩ w R:=co Tryz.f167 [(7,[(3,(az .u32)),(4,kI)])] h
end Go.Proofs.YtcdpblipagajiaaGreat
