/- Texts packed together by program; spaces struck by program. Conditions: as each theorem states. -/
import Derived.Laws.CopyRow
import Derived.Laws.IdiomCopy
import Derived.Lib.MakeNoZero
import Derived.Test.YtgglghjnakclmaaGreatQeb
set_option linter.unusedSimpArgs false
set_option linter.unusedVariables false
set_option maxRecDepth 20000
namespace Go.Srt
def cp (l:List Nat):Bool:=decide (aR l=32768)&&decide (0<l.getD 257 0)
theorem kg {l:List Nat}:cp l=true↔aR l=32768∧0<l.getD 257 0:=by simp [cp]
def ra (l:List Nat) (n p:Nat):Nat:=((List.range l.length).find? fun s=>(l.getD s 0==n)&&(fW l s==p)).getD 0
theorem vv {l:List Nat} {n p:Nat} (h:p<l.count n):ra l n p<l.length∧l.getD (ra l n p) 0=n∧fW l (ra l n p)=p:=by
 obtain ⟨s,hs,h1,h2⟩:=FM l n p h
 unfold ra
 cases hf:(List.range l.length).find? fun s=>(l.getD s 0==n)&&(fW l s==p) with
 |none=>
  have:=List.find?_eq_none.1 hf s (by simpa using hs)
  simp only [Bool.and_eq_true,beq_iff_eq] at this
  exact absurd ⟨h1,h2⟩ this
 |some t=>
  have h3:=List.find?_some hf
  have h4:=List.mem_of_find?_eq_some hf
  simp only [Bool.and_eq_true,beq_iff_eq] at h3
  exact ⟨by simpa using h4,h3⟩
def mz (l:List Nat) (c b:Nat):Prop:=cp l=true∧b<15∧c<2^b∧fst l b+many l b≤c
def eA (l:List Nat) (c b x:Nat):(Nat×Nat)×Option Nat:=
 if fst l (b+1)+many l (b+1)≤2*c+x then ((2*c+x,b+1),none) else ((0,0),some (ra l (b+1) (2*c+x - fst l (b+1))))
theorem mz.zero {l:List Nat} (h:cp l=true):mz l 0 0:=⟨h,by decide,by decide,by simp [fst,many]⟩
theorem mz.ge {l:List Nat} {c b:Nat} (h:mz l c b):fst l (b+1)≤2*c:=by rw [fst];have:=h.2.2.2;omega
theorem IB {l:List Nat} (h:cp l=true):fst l 15+many l 15=32768:=by
 have h1:=sV l 15 (by decide)
 have h2:=E3 (l:=l) (by rw [(kg.1 h).1];decide)
 rw [(kg.1 h).1] at h2
 rw [low] at h2
 omega
theorem mz.next {l:List Nat} {c b x:Nat} (h:mz l c b) (hx:x≤1):mz l (eA l c b x).1.1 (eA l c b x).1.2:=by
 unfold eA
 split
 ·rename_i hc
  have hp:(2:Nat)^(b+1)=2*2^b:=by rw [Nat.pow_succ,Nat.mul_comm]
  have h2:=h.2.2.1
  refine ⟨h.1,?_,by show 2*c+x<2^(b+1);omega,hc⟩
  rcases Nat.lt_or_ge (b+1) 15 with h1|h1
  ·exact h1
  ·have:b=14:=by have:=h.2.1;omega
   subst this
   have:=IB h.1
   have:(2:Nat)^14=16384:=by decide
   simp only [Nat.reduceAdd] at hc
   omega
 ·exact mz.zero h.1
theorem wO {l:List Nat} {c b x s:Nat} (hl:l.length=258) (h:mz l c b) (hx:x≤1) (hs:(eA l c b x).2=some s):s<258∧l.getD s 0=b+1∧code l s=2*c+x∧b<15:=by
 unfold eA at hs
 split at hs
 ·cases hs
 ·rename_i hc
  have h1:s=ra l (b+1) (2*c+x - fst l (b+1)):=by injection hs with hs;exact hs.symm
  have hge:=h.ge
  have hm:many l (b+1)=l.count (b+1):=by unfold many;rw [if_neg (by omega)]
  obtain ⟨h2,h3,h4⟩:=vv (l:=l) (n:=b+1) (p:=2*c+x - fst l (b+1)) (by omega)
  rw [←h1] at h2 h3 h4
  refine ⟨by omega,h3,?_,h.2.1⟩
  unfold code
  rw [h3,h4];omega
theorem Dc {l:List Nat} {c b x:Nat} (hs:(eA l c b x).2=none):(eA l c b x).1=(2*c+x,b+1):=by
 unfold eA at hs⊢
 split
 ·rfl
 ·rename_i h;rw [if_neg h] at hs;cases hs
theorem Dm {l:List Nat} {c b x s:Nat} (hs:(eA l c b x).2=some s):(eA l c b x).1=(0,0):=by
 unfold eA at hs⊢
 split
 ·rename_i h;rw [if_pos h] at hs;cases hs
 ·rfl
theorem rA {l:List Nat} (hl:l.length≤258): ∀n,fst l n+516≤516*2^n
 |0=>by simp [fst]
 |n+1=>by
  have:=rA hl n
  have h2:many l n≤258:=by
   unfold many
   split
   ·omega
   ·exact Nat.le_trans List.count_le_length hl
  rw [fst,Nat.pow_succ];omega
theorem sv {l:List Nat} (hl:l.length≤258) (n:Nat):many l n≤258:=by
 unfold many
 split
 ·omega
 ·exact Nat.le_trans List.count_le_length hl
end Go.Srt
namespace Go.Proofs.YtgglghjnakclmaaGreat
open Go Go.Vc Go.Srt
section
variable {E w:World} {F:List HP}
theorem ng {l:List Nat} {i:Nat} {k:IntKind} (h:i<l.length):(ai k l)[((i:Nat):Int).toNat]? =some (Sc.enc (.int k) (l.getD i 0:Int)):=by
 rw [Int.toNat_natCast,gm h,bC h]
theorem zG {l:List Nat} {K:Bool→World→Prop} (h:Hp E w F) (hl:l.length=258) (hK: ∀w',Hp E w' F→K (decide (aR l=32768)) w'):Cl Tryz.prog [kB] gX ⟨[.agg (ai .u8 l)]⟩ w K:=by
 refine tf.ok _ _ _ ?_
 refine Nw.mk h fun b w1 h1=>Ld.arr h1 (by rw [aJ,hl]) (AR h1 hl fun w2 h2=> ?_)
 have:((aR l:Int)==32768)=decide (aR l=32768):=by rw [Bool.eq_iff_iff];simp;omega
 rw [this]
 exact hK _ h2.drop
theorem sL {l:List Nat} {K:Bool→World→Prop} (h:Hp E w F) (hl:l.length=258) (hK: ∀w',Hp E w' F→K (cp l) w'):Cl Tryz.prog [kB] dB ⟨[.agg (ai .u8 l)]⟩ w K:=by
 refine yf.ok _ _ _ ?_
 refine Nw.mk h fun b w1 h1=>Ld.arr h1 (by rw [aJ,hl]) (zG h1 hl fun w2 h2=>aa.mk (fun hv=> ?_) (fun hv=> ?_))
 ·refine aC.rd (s:= .int .u8) h2 (by decide) (by decide) (l.getD 257 0:Int) (ng (i:=257) (by omega)) ?_
  have:decide ((l.getD 257 0:Int)>0)=cp l:=by
   unfold cp;rw [hv,Bool.true_and,Bool.eq_iff_iff,decide_eq_true_eq,decide_eq_true_eq];omega
  rw [this]
  exact hK _ h2.drop
 ·have:false=cp l:=by unfold cp;rw [hv,Bool.false_and]
  rw [this]
  exact hK _ h2.drop
abbrev E7:List Sc:= [.int .i64,.int .i64,.int .i64,.int .i64,.int .i64,.int .i64,.int .i64,.int .i64,.int .i64,.int .i64,.int .i64,.int .i64,.int .i64,.int .i64,.int .i64,.int .i64]
def t16 (f:Nat→Int):TT E7:=(f 0,f 1,f 2,f 3,f 4,f 5,f 6,f 7,f 8,f 9,f 10,f 11,f 12,f 13,f 14,f 15,())
theorem I4 (f:Nat→Int):cK 16 f=⟨cU E7 (t16 f)⟩:=rfl
theorem GU (f:Nat→Int): ∀v∈ [(.int .i64 (f 0):Value),.int .i64 (f 1),.int .i64 (f 2),.int .i64 (f 3),.int .i64 (f 4),.int .i64 (f 5),.int .i64 (f 6),.int .i64 (f 7),.int .i64 (f 8),.int .i64 (f 9),.int .i64 (f 10),.int .i64 (f 11),.int .i64 (f 12),.int .i64 (f 13),.int .i64 (f 14),.int .i64 (f 15)],ay v=true:=by
 intro v hv
 simp only [List.mem_cons,List.not_mem_nil,or_false] at hv
 rcases hv with rfl|rfl|rfl|rfl|rfl|rfl|rfl|rfl|rfl|rfl|rfl|rfl|rfl|rfl|rfl|rfl<;>rfl
theorem r8:(⟨List.replicate 16 (.int .i64 0)⟩:Array Value)=cK 16 fun _=>0:=rfl
set_option maxRecDepth 20000 in
theorem C8 {l:List Nat} {K:TT E7→World→Prop} (h:Hp E w F) (hl:l.length=258) (h15: ∀x∈l,x≤15) (hK: ∀w',Hp E w' F→K (t16 fun j=>(l.count j:Int)) w'):Cl Tryz.prog [.st E7] iL ⟨[.agg (ai .u8 l)]⟩ w K:=by
 refine wW.ok _ _ _ ?_
 rw [r8]
 refine Nw.mk h fun b w1 h1=>Nw.mk h1 fun b2 w2 h2=>Ld.arr h2.p1 (by rw [aJ,hl]) ?_
 refine ⟨fun i w'=> ∃k:Nat,i=(k:Int)∧k≤258∧Hp E w' (ao b2 (.cells (cK 16 fun j=>((l.take k).count j:Int)) 309 (0,0))::F),fun i _=>258 - i.toNat,⟨0,rfl,by omega,?_⟩,?_⟩
 ·have:=h2.p1.drop
  rwa [eR (g:=fun j=>((l.take 0).count j:Int)) (fun i _=>by simp)] at this
 rintro i w' ⟨k,rfl,hk,hh⟩
 refine aa.mk (fun hlt=> ?_) (fun hge=> ?_)
 ·have hlt:k<258:=by have:=of_decide_eq_true hlt;omega
  have hkl:k<l.length:=by omega
  have hcl: ∀x,(l.take k).count x≤258:=fun x=>Nat.le_trans List.count_le_length (by rw [List.length_take];omega)
  refine gk.rd (s:= .int .u8) (by omega) (by omega) (l[k]:Int) (by rw [Int.toNat_natCast];exact gm hkl) ?_
  have h16:=h15 _ (List.getElem_mem hkl)
  rw [aj (x:=(l[k]:Int)) (by omega)]
  refine aa.t (decide_eq_true (by omega)) ?_
  refine aC.rd (s:= .int .i64) hh (by omega) (by omega) ((l.take k).count l[k]:Int) (by rw [Int.toNat_natCast];exact qp (by omega)) ?_
  have:=hcl l[k]
  refine aC.wr hh (by omega) (by omega) cN rfl fun w3 h3=> ?_
  rw [aj (by omega),Int.toNat_natCast,ns] at h3
  rw [aj (by omega)]
  refine ⟨⟨k+1,rfl,by omega,?_⟩,by dsimp only;omega⟩
  rw [eR (g:=fun j=>((l.take (k+1)).count j:Int))] at h3
  ·exact h3
  ·intro j hj
   rw [cS hkl]
   by_cases e:j=l[k]
   ·subst e;rw [if_pos rfl,if_pos rfl];omega
   ·rw [if_neg e,if_neg (Ne.symm e)];omega
 ·have hge:k=258:=by have:=of_decide_eq_false hge;omega
  subst hge
  rw [←hl,List.take_length] at hh
  refine Ld.uJ hh (t16 fun j=>(l.count j:Int)) (I4 _) (ae.aD hh (by rw [cN];rfl) (GU fun j=>(l.count j:Int)) fun w3 h3=> ?_)
  exact Ld.uJ h3 (t16 fun j=>(l.count j:Int)) rfl (hK _ h3.drop)
set_option maxRecDepth 20000 in
theorem tH {l:List Nat} {n:Nat} {K:Int→Int→World→Prop} (h:Hp E w F) (hl:l.length=258) (h15: ∀x∈l,x≤15) (hn:n≤15) (hK: ∀w',Hp E w' F→K (Srt.fst l n:Int) (many l n:Int) w'):
  Cl Tryz.prog [kI,kI] eb ⟨[.agg (ai .u8 l),.int .i64 (n:Int)]⟩ w K:=by
 refine qO.ok _ _ _ _ ?_
 refine Nw.mk h fun b w1 h1=>Ld.arr h1 (by rw [aJ,hl]) (C8 h1.drop hl h15 fun w2 h2=> ?_)
 rw [r8]
 refine Nw.mk h2 fun b2 w3 h3=>ae.aD h3 (by rw [cN];rfl) (GU fun j=>(l.count j:Int)) fun w4 h4=> ?_
 have h4:Hp E w4 (ao b2 (.cells (cK 16 fun j=>(l.count j:Int)) 309 (0,0))::F):=h4
 refine aC.wr h4 (by decide) (by decide) cN rfl fun w5 h5=> ?_
 rw [show (0:Int).toNat=0 from rfl,ns,eR (g:=fun j=>(many l j:Int)) (fun i _=>by unfold many;by_cases e:i=0<;>simp [e])] at h5
 refine ⟨fun c m w'=> ∃k:Nat,m=(k:Int)+1∧k≤n∧c=(Srt.fst l k:Int)∧Hp E w' (ao b2 (.cells (cK 16 fun j=>(many l j:Int)) 309 (0,0))::F),fun _ m _=>18 - m.toNat,⟨0,rfl,by omega,rfl,h5⟩,?_⟩
 rintro c m w' ⟨k,rfl,hk,rfl,hh⟩
 refine aa.mk (fun hlt=> ?_) (fun hge=> ?_)
 ·have hlt:k<n:=by have:=of_decide_eq_true hlt;omega
  rw [aj (x:=(k:Int)+1 - 1) (by omega),show (k:Int)+1 - 1=(k:Int) by omega]
  refine aC.rd (s:= .int .i64) hh (by omega) (by omega) (many l k:Int) (by rw [Int.toNat_natCast];exact qp (by omega)) ?_
  have h1:=rA (l:=l) (by omega) k
  have h2:=sv (l:=l) (by omega) k
  have h3:(2:Nat)^k≤2^15:=Nat.pow_le_pow_right (by decide) (by omega)
  have h4:(2:Nat)^15=32768:=by decide
  rw [aj (x:=(Srt.fst l k:Int)+(many l k:Int)) (by omega),aj (x:=(k:Int)+1+1) (by omega)]
  have e:=cW (k:= .i64) (a:=Srt.fst l k+many l k) (b:=1) (by decide) (by have:IntKind.max .i64=9223372036854775807:=rfl;omega)
  have e2:a9 .i64 ((Srt.fst l k:Int)+(many l k:Int)) 1=(Srt.fst l (k+1):Int):=by
   rw [show (Srt.fst l k:Int)+(many l k:Int)=((Srt.fst l k+many l k:Nat):Int) by omega,show (1:Int)=((1:Nat):Int) from rfl,e,Srt.fst]
   omega
  rw [e2]
  exact ⟨by decide,⟨k+1,by omega,by omega,rfl,hh⟩,by dsimp only;omega⟩
 ·have hge:k=n:=by have:=of_decide_eq_false hge;omega
  subst hge
  refine ah.mk hh fun w6 h6=>aC.rd (s:= .int .i64) h6 (by omega) (by omega) (many l k:Int) (by rw [Int.toNat_natCast];exact qp (by omega)) (hK _ h6.drop)
set_option maxRecDepth 20000 in
theorem Gr {l:List Nat} {n p:Nat} {K:Int→World→Prop} (h:Hp E w F) (hl:l.length=258) (h15: ∀x∈l,x≤15) (hp:p<l.count n) (hK: ∀w',Hp E w' F→K (ra l n p:Int) w'):
  Cl Tryz.prog [kI] ga ⟨[.agg (ai .u8 l),.int .i64 (n:Int),.int .i64 (p:Int)]⟩ w K:=by
 refine xj.ok _ _ _ _ _ ?_
 have hs:=vv hp
 refine Nw.mk h fun b w1 h1=>Ld.arr h1 (by rw [aJ,hl]) ?_
 have hcl:l.count n≤258:=Nat.le_trans List.count_le_length (by omega)
 refine ⟨fun q i w'=> ∃k:Nat,i=(k:Int)∧k≤258∧(l.take k).count n≤p∧q=(p:Int) - ((l.take k).count n:Int)∧Hp E w' F,fun _ i _=>258 - i.toNat,⟨0,rfl,by omega,by simp,by simp,h1.drop⟩,?_⟩
 rintro q i w' ⟨k,rfl,hk,hc,rfl,hh⟩
 refine aa.mk (fun hlt=> ?_) (fun hge=> ?_)
 ·have hlt:k<258:=by have:=of_decide_eq_true hlt;omega
  have hkl:k<l.length:=by omega
  have h16:=h15 _ (List.getElem_mem hkl)
  have hsu:=cS hkl n
  refine gk.rd (s:= .int .u8) (by omega) (by omega) (l[k]:Int) (by rw [Int.toNat_natCast];exact gm hkl) ?_
  rw [aj (x:=(l[k]:Int)) (by omega),aj (x:=(k:Int)+1) (by omega)]
  refine aa.mk (fun hne=> ?_) (fun he=>aa.mk (fun hz=> ?_) (fun hz=> ?_))
  ·have hne:l[k]≠n:=by rw [bne_iff_ne] at hne;omega
   rw [if_neg hne] at hsu
   exact ⟨⟨k+1,rfl,by omega,by omega,by omega,hh⟩,by dsimp only;omega⟩
  ·have he:l[k]=n:=by have:=bne_eq_false_iff_eq.1 he;omega
   have hz:(l.take k).count n=p:=by rw [beq_iff_eq] at hz;omega
   have:k=ra l n p:=by
    refine wi hkl hs.1 (by rw [hs.2.1,bC hkl,he]) ?_
    rw [hs.2.2];unfold fW;rw [bC hkl,he,hz]
   rw [this];exact hK _ hh
  ·have he:l[k]=n:=by have:=bne_eq_false_iff_eq.1 he;omega
   have hz:(l.take k).count n≠p:=by have:=beq_eq_false_iff_ne.1 hz;omega
   rw [if_pos he] at hsu
   rw [aj (by omega)]
   exact ⟨⟨k+1,rfl,by omega,by omega,by omega,hh⟩,by dsimp only;omega⟩
 ·have hge:k=258:=by have:=of_decide_eq_false hge;omega
  subst hge
  rw [←hl,List.take_length] at hc
  omega
def dc (l:List Nat) (c b:Nat):Array Value:=⟨(l.map fun (n:Nat)=>Value.int .u8 (n:Int))++ [.int .i64 (c:Int),.int .i64 (b:Int)]⟩
theorem bH {l:List Nat} {c b:Nat} (hl:l.length=258):(dc l c b).size=260:=by simp [dc,hl]
theorem c8 {l:List Nat} {c b:Nat}: ∀v∈(dc l c b).toList,ay v=true:=by
 intro v hv
 unfold dc at hv
 simp only [List.mem_append,List.mem_map,List.mem_cons,List.not_mem_nil,or_false] at hv
 rcases hv with ⟨n,_,rfl⟩|rfl|rfl<;>rfl
theorem dN (l:List Nat) (c b:Nat):dc l c b=⟨[]++(l.map fun (n:Nat)=>Value.int .u8 (n:Int))++ [.int .i64 (c:Int),.int .i64 (b:Int)]⟩:=rfl
theorem o8 {l:List Nat} {c b:Nat} (hl:l.length=258):(dc l c b)[258]? =some (Sc.enc (.int .i64) (c:Int)):=by
 unfold dc;rw [List.getElem?_toArray,List.getElem?_append_right (by simp [hl])];simp [hl]
theorem nF {l:List Nat} {c b:Nat} (hl:l.length=258):(dc l c b)[259]? =some (Sc.enc (.int .i64) (b:Int)):=by
 unfold dc;rw [List.getElem?_toArray,List.getElem?_append_right (by simp [hl])];simp [hl]
theorem wK:(⟨List.replicate 258 (.int .u8 0)++ [.int .i64 0,.int .i64 0]⟩:Array Value)=dc (List.replicate 258 0) 0 0:=by unfold dc;rw [List.map_replicate];rfl
theorem qA (ps:List (Nat×Value)):Tryz.prog.built 108 ps=Instr.fill (#[(0,258),(258,1),(259,1)][·]?) ⟨List.replicate 258 (.int .u8 0)++ [.int .i64 0,.int .i64 0]⟩ ps:=by kernel_rfl
theorem vl {l:List Nat} (hl:l.length=258) (rest:List (Nat×Value)):Instr.fill (#[(0,258),(258,1),(259,1)][·]?) ⟨List.replicate 258 (.int .u8 0)++ [.int .i64 0,.int .i64 0]⟩ ((0,.agg (ai .u8 l))::rest)
  =Instr.fill (#[(0,258),(258,1),(259,1)][·]?) (dc l 0 0) rest:=by
 have:=fD (place:=(#[(0,258),(258,1),(259,1)][·]?)) (i:=0) (v:= .agg (ai .u8 l)) (rest:=rest) (pre:= []) (mid:=List.replicate 258 (.int .u8 0)) (post:= [.int .i64 0,.int .i64 0]) rfl rfl List.length_replicate (by show (ai .u8 l).size=_;rw [aJ,hl])
 exact this
theorem Il {l:List Nat} {c c0 b:Nat} (hl:l.length=258) (rest:List (Nat×Value)):Instr.fill (#[(0,258),(258,1),(259,1)][·]?) (dc l c0 b) ((1,.int .i64 (c:Int))::rest)=Instr.fill (#[(0,258),(258,1),(259,1)][·]?) (dc l c b) rest:=by
 have:=fD (place:=(#[(0,258),(258,1),(259,1)][·]?)) (i:=1) (v:= .int .i64 (c:Int)) (rest:=rest) (pre:=l.map fun (n:Nat)=>Value.int .u8 (n:Int)) (mid:= [.int .i64 (c0:Int)]) (post:= [.int .i64 (b:Int)]) rfl (by simp [hl]) rfl rfl
 unfold dc
 rw [show (l.map fun (n:Nat)=>Value.int .u8 (n:Int))++ [.int .i64 (c0:Int),.int .i64 (b:Int)]=(l.map fun (n:Nat)=>Value.int .u8 (n:Int))++ [.int .i64 (c0:Int)]++ [.int .i64 (b:Int)] by simp,this]
 congr 2
 simp [Value.cells]
theorem H0 {l:List Nat} {c b0 b:Nat} (hl:l.length=258) (rest:List (Nat×Value)):Instr.fill (#[(0,258),(258,1),(259,1)][·]?) (dc l c b0) ((2,.int .i64 (b:Int))::rest)=Instr.fill (#[(0,258),(258,1),(259,1)][·]?) (dc l c b) rest:=by
 have:=fD (place:=(#[(0,258),(258,1),(259,1)][·]?)) (i:=2) (v:= .int .i64 (b:Int)) (rest:=rest) (pre:=(l.map fun (n:Nat)=>Value.int .u8 (n:Int))++ [.int .i64 (c:Int)]) (mid:= [.int .i64 (b0:Int)]) (post:= []) rfl (by simp [hl]) rfl rfl
 unfold dc
 rw [show (l.map fun (n:Nat)=>Value.int .u8 (n:Int))++ [.int .i64 (c:Int),.int .i64 (b0:Int)]=(l.map fun (n:Nat)=>Value.int .u8 (n:Int))++ [.int .i64 (c:Int)]++ [.int .i64 (b0:Int)]++ [] by simp,this]
 congr 2
 simp [Value.cells]
theorem cd.HT {l:List Nat} {K:Array Value→Prop} (hl:l.length=258) (hK:K (dc l 0 0)):cd Tryz.prog 108 [(0,.agg (ai .u8 l))] K:=⟨dc l 0 0,by rw [qA,vl hl];rfl,hK⟩
theorem cd.H9 {l:List Nat} {c b:Nat} {K:Array Value→Prop} (hl:l.length=258) (hK:K (dc l c b)):cd Tryz.prog 108 [(0,.agg (ai .u8 l)),(1,.int .i64 (c:Int)),(2,.int .i64 (b:Int))] K:=
 ⟨dc l c b,by rw [qA,vl hl,Il hl,H0 hl];rfl,hK⟩
theorem cd.Kd {K:Array Value→Prop} (hK:K (dc (List.replicate 258 0) 0 0)):cd Tryz.prog 108 [] K:=⟨_,qA [],by rw [wK];exact hK⟩
theorem ID {l:List Nat} {K:Array Value→Int→World→Prop} (h:Hp E w F) (hl:l.length=258) (hK1:cp l=false→∀w',Hp E w' F→K (dc (List.replicate 258 0) 0 0) 2 w') (hK2:cp l=true→∀w',Hp E w' F→K (dc l 0 0) 0 w'):
  Cl Tryz.prog [.arr 260,kI] iB ⟨[.agg (ai .u8 l)]⟩ w K:=by
 refine uv.ok _ _ _ ?_
 rw [wK]
 have hz:(dc (List.replicate 258 0) 0 0).size=260:=bH List.length_replicate
 refine Nw.mk h fun b w1 h1=>Nw.mk h1 fun b2 w2 h2=>Ld.arr h2.p1 (by rw [aJ,hl]) (sL h2 hl fun w3 h3=>aa.mk (fun hv=> ?_) (fun hv=> ?_))
 ·exact cd.Kd (aq.aD h3 hz hz c8 fun w4 h4=>Ld.arr h4 hz (hK1 (by simpa using hv) _ h4.drop.drop))
 ·exact Ld.arr h3.p1 (by rw [aJ,hl]) (cd.HT hl (aq.aD h3 hz (bH hl) c8 fun w4 h4=>Ld.arr h4 (bH hl) (hK2 (by simpa using hv) _ h4.drop.drop)))
theorem G4 {l:List Nat} (h:cp l=true): ∀x∈l,x≤15:=fun x hx=>by
 obtain ⟨i,hi,rfl⟩:=List.getElem_of_mem hx
 have:=fB (l:=l) (by rw [(kg.1 h).1];decide) i
 rwa [bC hi] at this
theorem CI {l:List Nat} {c b:Nat} {K:Bool→World→Prop} (h:Hp E w F) (hl:l.length=258) (hb:b<15) (hc:c<2^b) (hK: ∀w',Hp E w' F→K (cp l&&decide (Srt.fst l b+many l b≤c)) w'):
  Cl Tryz.prog [kB] gj ⟨[.agg (dc l c b)]⟩ w K:=by
 refine rS.ok _ _ _ ?_
 simp only [au,al,Nat.zero_add]
 refine Nw.mk h fun b3 w1 h1=> ?_
 rw [dN] at h1
 have hml:(l.map fun (n:Nat)=>Value.int .u8 (n:Int)).length=258:=by simp [hl]
 refine Ld.sub h1 rfl hml (sL h1 hl fun w2 h2=>aa.mk (fun hv=> ?_) (fun hv=> ?_))
 ·have hv:cp l=false:=by simpa using hv
  rw [hv,Bool.false_and] at hK
  exact hK _ h2.drop
 have hv:cp l=true:=by simpa using hv
 rw [hv,Bool.true_and] at hK
 rw [←dN] at h2
 have hp:(2:Nat)^b≤2^15:=Nat.pow_le_pow_right (by decide) (by omega)
 have hp2:(2:Nat)^15=32768:=by decide
 refine Ld.aD (s:= .int .i64) h2 (b:Int) (nF hl) (aa.f (decide_eq_false (by omega)) ?_)
 refine Ld.aD (s:= .int .i64) h2 (b:Int) (nF hl) (aa.f (decide_eq_false (by omega)) ?_)
 refine Ld.aD (s:= .int .i64) h2 (c:Int) (o8 hl) (aa.f (decide_eq_false (by omega)) ?_)
 refine Ld.aD (s:= .int .i64) h2 (c:Int) (o8 hl) (Ld.aD (s:= .int .i64) h2 (b:Int) (nF hl) ⟨by omega,?_⟩)
 rw [eI (by have:IntKind.bits .i64=64:=rfl;omega),Nat.div_eq_of_lt hc]
 refine aa.f (by decide) ?_
 rw [dN] at h2
 refine Ld.sub h2 rfl hml ?_
 rw [←dN] at h2
 refine Ld.aD (s:= .int .i64) h2 (b:Int) (nF hl) (tH h2 hl (G4 hv) (by omega) fun w3 h3=>Ld.aD (s:= .int .i64) h3 (c:Int) (o8 hl) ?_)
 have h1:=rA (l:=l) (by omega) b
 have h2:=sv (l:=l) (by omega) b
 rw [aj (by omega)]
 have e:decide ((c:Int)≥(Srt.fst l b:Int)+(many l b:Int))=decide (Srt.fst l b+many l b≤c):=by rw [Bool.eq_iff_iff,decide_eq_true_eq,decide_eq_true_eq];omega
 rw [e]
 exact hK _ h3.drop
theorem Bv {c x:Nat} (hx:x≤1) (hc:c<16384):jv .i64 (a9 .i64 (c:Int) 1) (x:Int)=((2*c+x:Nat):Int):=by
 have hm:IntKind.max .i64=9223372036854775807:=rfl
 have e:=cW (k:= .i64) (a:=c) (b:=1) (by decide) (by omega)
 have h2:c*2^1|||x=2*c+x:=by
  have:=Nat.two_pow_add_eq_or_of_lt (i:=1) (b:=x) (by omega) c
  rw [Nat.mul_comm c,←this,Nat.mul_comm]
 rw [show (1:Int)=((1:Nat):Int) from rfl,e,oZ (by omega) (by omega) (by rw [h2];omega),h2]
theorem HX {l:List Nat} {c b x:Nat} {K:Array Value→Int→Bool→World→Prop} (h:Hp E w F) (hl:l.length=258) (hs:mz l c b) (hx:x≤1)
  (hK: ∀w',Hp E w' F→K (dc l (eA l c b x).1.1 (eA l c b x).1.2) (((eA l c b x).2.getD 0:Nat):Int) (eA l c b x).2.isSome w'):
  Cl Tryz.prog [.arr 260,kI,kB] gS ⟨[.agg (dc l c b),.int .i64 (x:Int)]⟩ w K:=by
 refine sU.ok _ _ _ _ ?_
 simp only [au,al,Nat.zero_add]
 rw [wK]
 have hz:(dc (List.replicate 258 0) 0 0).size=260:=bH List.length_replicate
 have hml:(l.map fun (n:Nat)=>Value.int .u8 (n:Int)).length=258:=by simp [hl]
 have hp:(2:Nat)^b≤2^14:=Nat.pow_le_pow_right (by decide) (by have:=hs.2.1;omega)
 have hp2:(2:Nat)^14=16384:=by decide
 have hc:=hs.2.2.1
 have hb:=hs.2.1
 have h15:=G4 hs.1
 refine Nw.mk h fun b4 w1 h1=>Nw.mk h1 fun b6 w2 h2=> ?_
 have e1:cn .i64 (x:Int) 1=0:=by
  rw [show (1:Int)=((1:Nat):Int) from rfl,eI (by decide)]
  omega
 rw [e1]
 refine ⟨by decide,aa.f (by decide) ?_⟩
 refine Ld.arr h2.p1 (bH hl) (CI h2 hl hb hc fun w3 h3=> ?_)
 refine aa.f (by rw [hs.1,decide_eq_true hs.2.2.2];rfl) ?_
 have h3':=h3.p1
 rw [dN l c b] at h3'
 refine Ld.sub h3' rfl hml (Ld.aD (s:= .int .i64) h3.p1 (c:Int) (o8 hl) ⟨by decide,Ld.aD (s:= .int .i64) h3.p1 (b:Int) (nF hl) ?_⟩)
 rw [Bv hx (by omega),aj (x:=(b:Int)+1) (by omega)]
 refine cd.H9 (b:=b+1) hl (aq.aD h3 hz (bH hl) c8 fun w4 h4=> ?_)
 have h4':=h4
 rw [dN l (2*c+x) (b+1)] at h4'
 refine Ld.sub h4' rfl hml (Ld.aD (s:= .int .i64) h4 ((b+1:Nat):Int) (nF hl) (tH h4 hl h15 (by omega) fun w5 h5=>Ld.aD (s:= .int .i64) h5 ((2*c+x:Nat):Int) (o8 hl) ?_))
 have hf:=rA (l:=l) (by omega) (b+1)
 have hm:=sv (l:=l) (by omega) (b+1)
 have hp3:(2:Nat)^(b+1)=2*2^b:=by rw [Nat.pow_succ,Nat.mul_comm]
 rw [aj (by omega)]
 by_cases hcase:Srt.fst l (b+1)+many l (b+1)≤2*c+x
 ·refine aa.t (decide_eq_true (by omega)) (Ld.arr h5 (bH hl) (aq.aD h5 (bH hl) (bH hl) c8 fun w6 h6=>Ld.arr h6 (bH hl) ?_))
  have e:eA l c b x=((2*c+x,b+1),none):=by unfold eA;rw [if_pos hcase]
  rw [e] at hK
  exact hK _ h6.drop.drop
 ·refine aa.f (decide_eq_false (by omega)) ?_
  have e:eA l c b x=((0,0),some (ra l (b+1) (2*c+x - Srt.fst l (b+1)))):=by unfold eA;rw [if_neg hcase]
  rw [e] at hK
  have hge:=hs.ge
  have hmn:many l (b+1)=l.count (b+1):=by unfold many;rw [if_neg (by omega)]
  refine ah.mk h5 fun w6 h6=> ?_
  have h6':=h6
  rw [dN l (2*c+x) (b+1)] at h6'
  refine Ld.sub h6' rfl hml (Ld.aD (s:= .int .i64) h6 ((b+1:Nat):Int) (nF hl) (Ld.aD (s:= .int .i64) h6 ((2*c+x:Nat):Int) (o8 hl) ?_))
  rw [aj (x:=((2*c+x:Nat):Int) - (Srt.fst l (b+1):Int)) (by omega),show ((2*c+x:Nat):Int) - (Srt.fst l (b+1):Int)=((2*c+x - Srt.fst l (b+1):Nat):Int) by omega]
  constructor
  ·have h7':=h6.p1
   rw [dN l c b] at h7'
   refine Ld.sub h7' rfl hml (cd.HT hl (Gr h6 hl h15 (by omega) fun w7 h7=> ?_))
   exact aq.aD h7 (bH hl) (bH hl) c8 fun w8 h8=>Ld.arr h8 (bH hl) (hK _ h8.drop.drop)
  ·refine Gr h6 hl h15 (by omega) fun w7 h7=> ?_
   have h7':=h7.p1
   rw [dN l c b] at h7'
   refine Ld.sub h7' rfl hml (cd.HT hl ?_)
   exact aq.aD h7 (bH hl) (bH hl) c8 fun w8 h8=>Ld.arr h8 (bH hl) (hK _ h8.drop.drop)
end
end Go.Proofs.YtgglghjnakclmaaGreat
set_option maxRecDepth 20000
namespace Go.Tab
open Go.Inc
structure TS where
 l:List Nat
 bits:Nat
 now:Nat
 way:Nat
def t0:TS:=⟨[],0,0,0⟩
def bd (ok:List Nat→Bool) (s:TS) (b:Nat):vA TS (List Nat) Nat:=
 if s.bits<4 then .more ⟨s.l,s.bits+1,2*s.now+b,s.way⟩
 else if s.bits=4 then
  if b=0 then
   if s.l.length+1<258 then .more ⟨s.l++ [s.now],4,s.now,0⟩
   else if ok (s.l++ [s.now]) then .fin (s.l++ [s.now]) else .bad 100
  else .more ⟨s.l,5,s.now,s.way⟩
 else if b=0 then
  if s.way≠2∧s.now<15 then .more ⟨s.l,4,s.now+1,1⟩ else .bad 100
 else if s.way≠1∧0<s.now then .more ⟨s.l,4,s.now - 1,2⟩ else .bad 100
def oB:Nat→List Nat
 |0=> []
 |k+1=>1::0::oB k
def jd:Nat→List Nat
 |0=> []
 |k+1=>1::1::jd k
def g0 (was now:Nat):List Nat:=(if now<was then jd (was - now) else oB (now - was))++ [0]
def fj:Nat→List Nat→List Nat
 |_,[]=> []
 |was,n::l=>g0 was n++fj n l
def four (n:Nat):List Nat:= [n/8 % 2,n/4 % 2,n/2 % 2,n % 2]
def mg (l:List Nat):List Nat:=four (l.headD 0)++fj (l.headD 0) l
section
variable {ok:List Nat→Bool}
theorem yL: ∀(k:Nat) (l:List Nat) (now way:Nat) (r:List Nat),way≠2→now+k≤15→∃way',run (bd ok) ⟨l,4,now,way⟩ (oB k++r)=run (bd ok) ⟨l,4,now+k,way'⟩ r
 |0,l,now,way,r,_,_=>⟨way,rfl⟩
 |k+1,l,now,way,r,hw,hk=>by
  obtain ⟨way',h⟩:=yL k l (now+1) 1 r (by decide) (by omega)
  refine ⟨way',?_⟩
  have h1:bd ok ⟨l,4,now,way⟩ 1= .more ⟨l,5,now,way⟩:=rfl
  have h2:bd ok ⟨l,5,now,way⟩ 0= .more ⟨l,4,now+1,1⟩:=by
   simp only [bd]
   rw [if_neg (by decide),if_neg (by decide),if_pos trivial,if_pos ⟨hw,by omega⟩]
  show run (bd ok) ⟨l,4,now,way⟩ (1::0::(oB k++r))=_
  rw [cG h1,cG h2,h,show now+1+k=now+(k+1) by omega]
theorem tB: ∀(k:Nat) (l:List Nat) (now way:Nat) (r:List Nat),way≠1→k≤now→∃way',run (bd ok) ⟨l,4,now,way⟩ (jd k++r)=run (bd ok) ⟨l,4,now - k,way'⟩ r
 |0,l,now,way,r,_,_=>⟨way,rfl⟩
 |k+1,l,now,way,r,hw,hk=>by
  obtain ⟨way',h⟩:=tB k l (now - 1) 2 r (by decide) (by omega)
  refine ⟨way',?_⟩
  have h1:bd ok ⟨l,4,now,way⟩ 1= .more ⟨l,5,now,way⟩:=rfl
  have h2:bd ok ⟨l,5,now,way⟩ 1= .more ⟨l,4,now - 1,2⟩:=by
   simp only [bd]
   rw [if_neg (by decide),if_neg (by decide),if_neg (by decide),if_pos ⟨hw,by omega⟩]
  show run (bd ok) ⟨l,4,now,way⟩ (1::1::(jd k++r))=_
  rw [cG h1,cG h2,h,show now - 1 - k=now - (k+1) by omega]
theorem E9 (l:List Nat) (was n:Nat) (r:List Nat) (h1:was≤15) (h2:n≤15): ∃way,run (bd ok) ⟨l,4,was,0⟩ (g0 was n++r)=run (bd ok) ⟨l,4,n,way⟩ (0::r):=by
 unfold g0
 rw [List.append_assoc]
 split
 ·obtain ⟨way,h⟩:=tB (ok:=ok) (was - n) l was 0 ([0]++r) (by decide) (by omega)
  exact ⟨way,by rw [h,show was - (was - n)=n by omega];rfl⟩
 ·obtain ⟨way,h⟩:=yL (ok:=ok) (n - was) l was 0 ([0]++r) (by decide) (by omega)
  exact ⟨way,by rw [h,show was+(n - was)=n by omega];rfl⟩
theorem wo: ∀(m:List Nat) (l:List Nat) (was:Nat) (r:List Nat),m≠ []→was≤15→(∀x∈m,x≤15)→l.length+m.length=258→ok (l++m)=true→run (bd ok) ⟨l,4,was,0⟩ (fj was m++r)= .fin (l++m) r
 | [],_,_,_,h,_,_,_,_=>absurd rfl h
 |n::m,l,was,r,_,hw,hm,hl,hok=>by
  rw [fj,List.append_assoc]
  obtain ⟨way,h⟩:=E9 (ok:=ok) l was n (fj n m++r) hw (hm n List.mem_cons_self)
  rw [h]
  cases m with
  |nil=>
   refine sy ?_
   simp only [List.length_cons,List.length_nil] at hl
   simp only [bd]
   rw [if_neg (by decide),if_pos trivial,if_pos trivial,if_neg (by omega),if_pos hok]
  |cons x m=>
   simp only [List.length_cons] at hl
   have h1:bd ok ⟨l,4,n,way⟩ 0= .more ⟨l++ [n],4,n,0⟩:=by
    simp only [bd]
    rw [if_neg (by decide),if_pos trivial,if_pos trivial,if_pos (by omega)]
   rw [cG h1,wo (x::m) (l++ [n]) n r (by simp) (hm n List.mem_cons_self) (fun y hy=>hm y (List.mem_cons_of_mem _ hy)) (by simp;omega) (by rw [List.append_assoc];exact hok),List.append_assoc]
   rfl
theorem Bp {l:List Nat} (r:List Nat) (hl:l.length=258) (hm: ∀x∈l,x≤15) (hok:ok l=true):run (bd ok) t0 (mg l++r)= .fin l r:=by
 unfold mg
 rw [List.append_assoc]
 have hh:l.headD 0≤15:=by
  cases l with
  |nil=>simp at hl
  |cons x l=>exact hm x List.mem_cons_self
 have h4:run (bd ok) t0 (four (l.headD 0)++(fj (l.headD 0) l++r))=run (bd ok) ⟨[],4,l.headD 0,0⟩ (fj (l.headD 0) l++r):=by
  generalize l.headD 0=n at hh⊢
  have e:2*(2*(2*(2*0+n/8 % 2)+n/4 % 2)+n/2 % 2)+n % 2=n:=by omega
  show run (bd ok) ⟨[],4,2*(2*(2*(2*0+n/8 % 2)+n/4 % 2)+n/2 % 2)+n % 2,0⟩ _=_
  rw [e];rfl
 rw [h4]
 exact wo l [] (l.headD 0) r (by intro e;rw [e] at hl;simp at hl) hh hm (by simpa using hl) hok
end
end Go.Tab
set_option maxRecDepth 20000
namespace Go.Tab
open Go.Inc
def lj (l:List Nat) (now way:Nat):Prop:=
 if l= [] then way=0∨(way=1∧0<now)∨(way=2∧now<15)
 else (way=0∧l.getLastD 0=now)∨(way=1∧l.getLastD 0<now)∨(way=2∧now<l.getLastD 0)
def gh (t:TS):Prop:=
 (t.bits<4∧t.l= []∧t.now<2^t.bits∧t.way=0)∨
 ((t.bits=4∨t.bits=5)∧t.l.length<258∧t.now≤15∧(∀x∈t.l,x≤15)∧lj t.l t.now t.way)
theorem gh.zero:gh t0:= .inl ⟨by decide,rfl,by decide,rfl⟩
theorem vd {ok:List Nat→Bool} {t t':TS} {b:Nat} (h:gh t) (hb:b≤1) (he:bd ok t b= .more t'):gh t':=by
 obtain ⟨l,bits,now,way⟩:=t
 unfold gh at h
 unfold bd at he
 dsimp only at h he
 rcases h with ⟨h1,h2,h3,h4⟩|⟨h1,h2,h3,h4,h5⟩
 ·rw [if_pos h1] at he
  cases he
  subst h2 h4
  by_cases h:bits=3
  ·subst h
   right
   refine ⟨.inl rfl,by simp,by simp at h3;dsimp only;omega,by simp,?_⟩
   simp [lj]
  ·left
   refine ⟨by dsimp only;omega,rfl,?_,rfl⟩
   dsimp only
   rw [Nat.pow_succ];omega
 ·rw [if_neg (by omega)] at he
  split at he
  ·split at he
   ·split at he
    ·cases he
     right
     refine ⟨.inl rfl,by simp;omega,h3,?_,?_⟩
     ·intro x hx
      rcases List.mem_append.1 hx with hx|hx
      ·exact h4 x hx
      ·rw [List.mem_singleton] at hx;omega
     ·unfold lj
      dsimp only
      rw [if_neg (by simp)]
      left
      simp
    ·split at he<;>cases he
   ·cases he
    right
    exact ⟨.inr rfl,h2,h3,h4,h5⟩
  ·split at he
   ·split at he
    ·rename_i hw
     cases he
     right
     refine ⟨.inl rfl,h2,by dsimp only;omega,h4,?_⟩
     unfold lj at h5⊢
     dsimp only
     split at h5
     ·rename_i hl
      rw [if_pos hl];omega
     ·rename_i hl
      rw [if_neg hl];omega
    ·cases he
   ·split at he
    ·rename_i hw
     cases he
     right
     refine ⟨.inl rfl,h2,by dsimp only;omega,h4,?_⟩
     unfold lj at h5⊢
     dsimp only
     split at h5
     ·rename_i hl
      rw [if_pos hl];omega
     ·rename_i hl
      rw [if_neg hl];omega
    ·cases he
theorem tq {ok:List Nat→Bool} {t:TS} {b:Nat} {l:List Nat} (h:gh t) (he:bd ok t b= .fin l):l.length=258∧ok l=true:=by
 obtain ⟨l',bits,now,way⟩:=t
 unfold gh at h
 unfold bd at he
 dsimp only at h he
 split at he
 ·cases he
 ·split at he
  ·split at he
   ·split at he
    ·cases he
    ·split at he
     ·rename_i hok
      cases he
      refine ⟨?_,hok⟩
      simp
      omega
     ·cases he
   ·cases he
  ·split at he
   ·split at he<;>cases he
   ·split at he<;>cases he
def pad (l:List Nat):List Nat:=l++List.replicate (258 - l.length) 0
theorem bz {l:List Nat} (h:l.length≤258):(pad l).length=258:=by simp [pad];omega
theorem Ec {l:List Nat} (h:l.length=258):pad l=l:=by simp [pad,h]
theorem Fp {l:List Nat} {x:Nat} (h:l.length<258):(pad l).set l.length x=pad (l++ [x]):=by
 unfold pad
 rw [List.set_append_right _ _ (Nat.le_refl _),Nat.sub_self]
 obtain ⟨m,hm⟩: ∃m,258 - l.length=m+1:=⟨257 - l.length,by omega⟩
 rw [hm,List.replicate_succ,List.set_cons_zero,List.length_append,List.length_singleton,show 258 - (l.length+1)=m by omega]
 simp
theorem D7 {l:List Nat} (h:l≠ []) (h2:l.length≤258):(pad l)[l.length - 1]? =some (l.getLastD 0):=by
 unfold pad
 have:0<l.length:=List.length_pos_iff.2 h
 rw [List.getElem?_append_left (by omega),List.getElem?_eq_getElem (by omega)]
 cases l with
 |nil=>exact absurd rfl h
 |cons a l=>simp [List.getLastD,List.getLast_eq_getElem]
theorem GA {l:List Nat} {i:Nat} (h1:l.length≤i):(pad l).getD i 0=0:=by
 unfold pad
 rw [List.getD_eq_getElem?_getD,List.getElem?_append_right h1,List.getElem?_replicate]
 split<;>rfl
theorem GP {l:List Nat} (h: ∀x∈l,x≤15): ∀x∈pad l,x≤15:=by
 intro x hx
 rcases List.mem_append.1 hx with hx|hx
 ·exact h x hx
 ·have:=(List.mem_replicate.1 hx).2;omega
end Go.Tab
namespace Go.Proofs.YtgglghjnakclmaaGreat
open Go Go.Vc Go.Srt Go.Inc Go.Tab
abbrev vN (l:List Nat):List Value:=l.map fun (n:Nat)=>Value.int .u8 (n:Int)
abbrev dL (l:List Nat) (s b n wy:Int):Array Value:=⟨vN l++ [.int .i64 s,.int .i64 b,.int .i64 n,.int .i64 wy]⟩
theorem ed {l:List Nat} (h:l.length=258):(vN l).length=258:=by simp [h]
section
variable {E w:World} {F:List HP}
theorem DE:(Tryz.prog.fieldsOf 106).toList.map (fun f=>(f.name== "_",f.type,f.offset))= [(false,104,0),(false,3,258),(false,3,259),(false,3,260),(false,3,261)]:=by kernel_rfl
theorem IS:Tryz.prog.underlying 106=some (.struct (Tryz.prog.fieldsOf 106)):=by kernel_rfl
theorem HK:Tryz.prog.stoodInHeld 106=false:=by kernel_rfl
set_option maxRecDepth 20000 in
theorem rY.tb {l:List Nat} {s b n wy:Int} {K:Bool→Prop} (hl:l.length=258) (hK:K true):rY Tryz.prog 106 (dL l s b n wy) (dL l s b n wy) K:=by
 obtain ⟨it,hit⟩:=yR
 obtain ⟨jt,hjt,hjs⟩:=FA
 obtain ⟨kt,hkt,hks⟩:=CT
 obtain ⟨f1,f2,f3,f4,f5,hfs,hf1,hf2,hf3,hf4,hf5⟩: ∃f1 f2 f3 f4 f5,(Tryz.prog.fieldsOf 106).toList= [f1,f2,f3,f4,f5]∧(f1.name== "_",f1.type,f1.offset)=(false,104,0)∧(f2.name== "_",f2.type,f2.offset)=(false,3,258)∧(f3.name== "_",f3.type,f3.offset)=(false,3,259)∧(f4.name== "_",f4.type,f4.offset)=(false,3,260)∧(f5.name== "_",f5.type,f5.offset)=(false,3,261):=by
  have h:=DE
  generalize (Tryz.prog.fieldsOf 106).toList=fs at h
  match fs,h with
  | [],h=>simp at h
  | [_],h=>simp at h
  | [_,_],h=>simp at h
  | [_,_,_],h=>simp at h
  | [_,_,_,_],h=>simp at h
  |_::_::_::_::_::_::_,h=>simp at h
  | [f1,f2,f3,f4,f5],h=>
   simp only [List.map_cons,List.map_nil,List.cons.injEq,and_true] at h
   exact ⟨f1,f2,f3,f4,f5,rfl,h.1,h.2.1,h.2.2.1,h.2.2.2.1,h.2.2.2.2⟩
 simp only [Prod.mk.injEq] at hf1 hf2 hf3 hf4 hf5
 have hL:=ed hl
 have hc:(((dL l s b n wy).toList.drop 0).take 258)=(l.map fun (x:Nat)=>(x:Int)).map (.int .u8):=by
  rw [List.drop_zero,List.take_append_of_le_length (by omega),List.take_of_length_le (by omega),List.map_map];rfl
 have hint: ∀(x:Int) (D:Nat) (_:9≤D) (w:World),(Op.equalIn D 3 (.int .i64 x) (.int .i64 x)).run Tryz.prog w= .ok true w:=fun x D hD w=>by
  obtain ⟨D,rfl⟩: ∃k,D=k+1:=⟨D - 1,by omega⟩
  rw [run_equalIn_int w D _ _ _ _ _ Bi]
  simp
 obtain ⟨r,hr,hK'⟩:=iy (P:=Tryz.prog) (d:=9) (rec:=fun t x y K=> ∃b,(∀D,9≤D→∀w,(Op.equalIn D t x y).run Tryz.prog w= .ok b w)∧K b) (fun t x y K h=>h) (xs:=dL l s b n wy) (ys:=dL l s b n wy) (fs:= [f1,f2,f3,f4,f5]) (K:=K) (by
  unfold gV
  rw [hf1.1]
  refine jZ (it:=jt) (by rw [hf1.2.1];kernel_rfl) (by rw [hf1.2.1];exact hjt) (jZ (it:=jt) (by rw [hf1.2.1];kernel_rfl) (by rw [hf1.2.1];exact hjt) ?_)
  rw [hf1.2.2,hjs,hf1.2.1,hc]
  refine ⟨_,fun D hD w=>tW Hr ER hkt hks (by simpa using hl) (by simpa using hl) D (by omega) w,?_⟩
  unfold gV
  rw [hf2.1]
  refine db (it:=it) (v:= .int .i64 s) (by rw [hf2.2.1];kernel_rfl) (by rw [hf2.2.1];exact hit) (by rw [hf2.2.2];exact iC (k:=0) hL) (db (it:=it) (v:= .int .i64 s) (by rw [hf2.2.1];kernel_rfl) (by rw [hf2.2.1];exact hit) (by rw [hf2.2.2];exact iC (k:=0) hL) ?_)
  rw [hf2.2.1]
  refine ⟨true,hint s,?_⟩
  unfold gV
  rw [hf3.1]
  refine db (it:=it) (v:= .int .i64 b) (by rw [hf3.2.1];kernel_rfl) (by rw [hf3.2.1];exact hit) (by rw [hf3.2.2];exact iC (k:=1) hL) (db (it:=it) (v:= .int .i64 b) (by rw [hf3.2.1];kernel_rfl) (by rw [hf3.2.1];exact hit) (by rw [hf3.2.2];exact iC (k:=1) hL) ?_)
  rw [hf3.2.1]
  refine ⟨true,hint b,?_⟩
  unfold gV
  rw [hf4.1]
  refine db (it:=it) (v:= .int .i64 n) (by rw [hf4.2.1];kernel_rfl) (by rw [hf4.2.1];exact hit) (by rw [hf4.2.2];exact iC (k:=2) hL) (db (it:=it) (v:= .int .i64 n) (by rw [hf4.2.1];kernel_rfl) (by rw [hf4.2.1];exact hit) (by rw [hf4.2.2];exact iC (k:=2) hL) ?_)
  rw [hf4.2.1]
  refine ⟨true,hint n,?_⟩
  unfold gV
  rw [hf5.1]
  refine db (it:=it) (v:= .int .i64 wy) (by rw [hf5.2.1];kernel_rfl) (by rw [hf5.2.1];exact hit) (by rw [hf5.2.2];exact iC (k:=3) hL) (db (it:=it) (v:= .int .i64 wy) (by rw [hf5.2.1];kernel_rfl) (by rw [hf5.2.1];exact hit) (by rw [hf5.2.2];exact iC (k:=3) hL) ?_)
  rw [hf5.2.1]
  refine ⟨true,hint wy,?_⟩
  simpa using hK)
 refine ⟨r,fun w=> ?_,hK'⟩
 rw [run_equalIn_struct w 9999 _ _ _ IS HK,hfs]
 exact hr 9999 (by decide) w
end
end Go.Proofs.YtgglghjnakclmaaGreat
namespace Go.Proofs.YtgglghjnakclmaaGreat
open Go Go.Vc Go.Srt Go.Inc Go.Tab
section
variable {E w:World} {F:List HP}
theorem Bz (b n:Int):(⟨List.replicate 258 (.int .u8 0)++ [.int .i64 0,.int .i64 b,.int .i64 n,.int .i64 0]⟩:Array Value)=dL (List.replicate 258 0) 0 b n 0:=by
 unfold dL vN
 rw [List.map_replicate];rfl
theorem cd.tb {b n:Int} {K:Array Value→Prop} (hK:K (dL (List.replicate 258 0) 0 b n 0)):cd Tryz.prog 106 [(2,.int .i64 b),(3,.int .i64 n)] K:=by
 refine ⟨_,(by kernel_rfl:Tryz.prog.built 106 [(2,.int .i64 b),(3,.int .i64 n)]=some ⟨List.replicate 258 (.int .u8 0)++ [.int .i64 0,.int .i64 b,.int .i64 n,.int .i64 0]⟩),?_⟩
 rw [Bz];exact hK
set_option maxRecDepth 20000
theorem IZ {c x:Nat} (hx:x≤1) (hc:c<16384):jv .i64 (a9 .i64 (c:Int) 1) (x:Int)=((2*c+x:Nat):Int):=Bv hx hc
theorem bq {l:List Nat} {s b n wy:Int}:(dL l s b n wy).toList.all ay=true:=by
 unfold dL vN
 rw [List.all_append,List.all_map]
 rw [Bool.and_eq_true]
 exact ⟨List.all_eq_true.2 fun _ _=>rfl,rfl⟩
theorem bE {l:List Nat} {s b n wy:Int} (hl:l.length=258):(dL l s b n wy).size=262:=by simp [hl]
theorem Gh {l:List Nat} {i x:Nat}:(vN l).set i (.int .u8 (x:Int))=vN (l.set i x):=by
 unfold vN
 rw [List.map_set]
def Kf (t:TS) (x:Nat) (E:World) (F:List HP) (K:Array Value→Bool→World→Prop):Prop:=
 (∀t' w',bd cp t x= .more t'→Hp E w' F→K (dL (pad t'.l) (t'.l.length:Int) (t'.bits:Int) (t'.now:Int) (t'.way:Int)) true w')∧
 (∀l n w',bd cp t x= .fin l→Hp E w' F→K (dL l 258 4 n 0) true w')∧
 (∀o w',bd cp t x= .bad 100→o.size=262→o.toList.all ay=true→Hp E w' F→K o false w')
theorem F5 {t:TS} {x:Nat} {K:Array Value→Bool→World→Prop} (h:Hp E w F) (ht:gh t) (hx:x≤1) (hK:Kf t x E F K):
  Cl Tryz.prog [.arr 262,kB] fH ⟨[.agg (dL (pad t.l) (t.l.length:Int) (t.bits:Int) (t.now:Int) (t.way:Int)),.int .i64 (x:Int)]⟩ w K:=by
 obtain ⟨k1,k2,k3⟩:=hK
 obtain ⟨l,bits,now,way⟩:=t
 unfold gh at ht
 unfold bd at k1 k2 k3
 dsimp only at ht k1 k2 k3⊢
 have hl:l.length≤258:=by
  rcases ht with ⟨_,h,_⟩|⟨_,h,_⟩
  ·rw [h];simp
  ·omega
 have hL:=ed (bz hl)
 have hz:((⟨List.replicate 258 (.int .u8 0)++ [.int .i64 0,.int .i64 0,.int .i64 0,.int .i64 0]⟩:Array Value)).size=262:=by simp
 refine qg.ok _ _ _ _ ?_
 (try simp only [au,ak,al,Nat.zero_add,Nat.add_zero,Nat.reduceAdd,Bool.not_true,Bool.not_false,aH,aE,Option.isNone])
 refine Nw.mk h fun b4 w h=>Nw.mk h fun b6 w h=> ?_
 have out: ∀{w:World} {l':List Nat} {s b n wy:Int} {K':World→Array Value→Prop},l'.length=258→
   Hp E w (ao b6 (.cells ⟨List.replicate 258 (.int .u8 0)++ [.int .i64 0,.int .i64 0,.int .i64 0,.int .i64 0]⟩ 106 (0,0))::ao b4 (.cells (dL l' s b n wy) 106 (0,0))::F)→
   (∀w',Hp E w' F→K' w' (dL l' s b n wy))→
   aq 262 ⟨b6,0,none⟩ (dL l' s b n wy) w fun w1=>Ld (.arr 262) ⟨b6,0,none⟩ w1 fun r=>K' w1 r:=by
  intro w l' s b n wy K' hl' h hk
  refine aq.q h hz (bE hl') bq fun w h=> ?_
  exact Ld.xw h (bE hl') (hk _ h.tl)
 rcases ht with ⟨h1,h2,h3,h4⟩|⟨h1,h2,h3,h4,h5⟩
 ·subst h2 h4
  simp only [if_pos h1] at k1 k2 k3
  have hnow:now<16384:=by
   have:2^bits≤2^3:=Nat.pow_le_pow_right (by decide) (by omega)
   omega
  (with_reducible repeat first|refine Nw.mk h fun b w h=> ?_|refine ah.mk h fun w h=> ?_|refine Ld.q h hL rfl rfl ?_|refine ad.q (fun _ h=>h) hL rfl rfl ?_|refine Ld.p h hL ?_|refine ad.p (fun _ h=>h) hL ?_|refine Ld.qw h hL rfl ?_|refine ad.qw (fun _ h=>h) hL rfl ?_|refine ⟨h.hb,?_⟩|(refine St.q h hL rfl rfl rfl fun w h=> ?_;dsimp only [af,ab] at h)|refine aa.yes ?_|refine aa.no ?_|refine ⟨by first|omega|decide,?_⟩)
  rw [IZ hx hnow,aj (by omega)] at h⊢
  exact out (K':=fun w x=>K x true w) (bz hl) h fun w h=>k1 _ _ rfl h
 ·simp only [if_neg (show¬bits<4 by omega)] at k1 k2 k3
  (with_reducible repeat first|refine Nw.mk h fun b w h=> ?_|refine ah.mk h fun w h=> ?_|refine Ld.q h hL rfl rfl ?_|refine ad.q (fun _ h=>h) hL rfl rfl ?_|refine Ld.p h hL ?_|refine ad.p (fun _ h=>h) hL ?_|refine Ld.qw h hL rfl ?_|refine ad.qw (fun _ h=>h) hL rfl ?_|refine ⟨h.hb,?_⟩|(refine St.q h hL rfl rfl rfl fun w h=> ?_;dsimp only [af,ab] at h)|refine aa.yes ?_|refine aa.no ?_|refine ⟨by first|omega|decide,?_⟩)
  by_cases hb:bits=4
  ·subst hb
   simp only [if_true] at k1 k2 k3
   by_cases hx0:x=0
   ·subst hx0
    simp only [if_true] at k1 k2 k3
    (with_reducible repeat first|refine Nw.mk h fun b w h=> ?_|refine ah.mk h fun w h=> ?_|refine Ld.q h hL rfl rfl ?_|refine ad.q (fun _ h=>h) hL rfl rfl ?_|refine Ld.p h hL ?_|refine ad.p (fun _ h=>h) hL ?_|refine Ld.qw h hL rfl ?_|refine ad.qw (fun _ h=>h) hL rfl ?_|refine ⟨h.hb,?_⟩|(refine St.q h hL rfl rfl rfl fun w h=> ?_;dsimp only [af,ab] at h)|refine aa.yes ?_|refine aa.no ?_|refine ⟨by first|omega|decide,?_⟩)
    refine ⟨by omega,by omega,?_⟩
    rw [show (((l.length:Int)).toNat*1)=l.length by omega,ec (by omega)]
    (try simp only [au,ak,al,Nat.zero_add,Nat.add_zero,Nat.reduceAdd,Bool.not_true,Bool.not_false,aH,aE,Option.isNone])
    refine St.g h (by omega) rfl fun w h=> ?_
    rw [Gh,Fp h2] at h
    have hl2:(l++ [now]).length≤258:=by simp;omega
    have hL:=ed (bz hl2)
    (with_reducible repeat first|refine Nw.mk h fun b w h=> ?_|refine ah.mk h fun w h=> ?_|refine Ld.q h hL rfl rfl ?_|refine ad.q (fun _ h=>h) hL rfl rfl ?_|refine Ld.p h hL ?_|refine ad.p (fun _ h=>h) hL ?_|refine Ld.qw h hL rfl ?_|refine ad.qw (fun _ h=>h) hL rfl ?_|refine ⟨h.hb,?_⟩|(refine St.q h hL rfl rfl rfl fun w h=> ?_;dsimp only [af,ab] at h)|refine aa.yes ?_|refine aa.no ?_|refine ⟨by first|omega|decide,?_⟩)
    rw [aj (by omega),show (l.length:Int)+1=((l++ [now]).length:Int) by simp] at h
    have h:=h.drew (n:=w.drawn+1)
    refine ⟨cq b4 _ _ _,h.hb,?_⟩
    dsimp only
    (with_reducible repeat first|refine Nw.mk h fun b w h=> ?_|refine ah.mk h fun w h=> ?_|refine Ld.q h hL rfl rfl ?_|refine ad.q (fun _ h=>h) hL rfl rfl ?_|refine Ld.p h hL ?_|refine ad.p (fun _ h=>h) hL ?_|refine Ld.qw h hL rfl ?_|refine ad.qw (fun _ h=>h) hL rfl ?_|refine ⟨h.hb,?_⟩|(refine St.q h hL rfl rfl rfl fun w h=> ?_;dsimp only [af,ab] at h)|refine aa.yes ?_|refine aa.no ?_|refine ⟨by first|omega|decide,?_⟩)
    by_cases hf:l.length+1<258
    ·rw [if_pos hf] at k1 k2 k3
     refine aa.dt (by simp;omega) ?_
     refine aq.q h hz (bE (bz hl2)) bq fun w h=> ?_
     (with_reducible repeat first|refine Nw.mk h fun b w h=> ?_|refine ah.mk h fun w h=> ?_|refine Ld.q h hL rfl rfl ?_|refine ad.q (fun _ h=>h) hL rfl rfl ?_|refine Ld.p h hL ?_|refine ad.p (fun _ h=>h) hL ?_|refine Ld.qw h hL rfl ?_|refine ad.qw (fun _ h=>h) hL rfl ?_|refine ⟨h.hb,?_⟩|(refine St.q h hL rfl rfl rfl fun w h=> ?_;dsimp only [af,ab] at h)|refine aa.yes ?_|refine aa.no ?_|refine ⟨by first|omega|decide,?_⟩)
     exact k1 _ _ rfl h.tl
    ·rw [if_neg hf] at k1 k2 k3
     have hfull:(l++ [now]).length=258:=by simp;omega
     refine aa.df (by simp;omega) ?_
     (with_reducible repeat first|refine Nw.mk h fun b w h=> ?_|refine ah.mk h fun w h=> ?_|refine Ld.q h hL rfl rfl ?_|refine ad.q (fun _ h=>h) hL rfl rfl ?_|refine Ld.p h hL ?_|refine ad.p (fun _ h=>h) hL ?_|refine Ld.qw h hL rfl ?_|refine ad.qw (fun _ h=>h) hL rfl ?_|refine ⟨h.hb,?_⟩|(refine St.q h hL rfl rfl rfl fun w h=> ?_;dsimp only [af,ab] at h)|refine aa.yes ?_|refine aa.no ?_|refine ⟨by first|omega|decide,?_⟩)
     rw [Ec hfull] at h⊢
     refine sL h hfull fun w h=> ?_
     refine ⟨h.hb,?_⟩
     refine aq.q h hz (bE hfull) bq fun w h=>⟨h.hb,?_⟩
     refine Ld.xw h (bE hfull) ?_
     by_cases hok:cp (l++ [now])=true
     ·rw [if_pos hok] at k1 k2 k3
      rw [hok]
      have:=k2 _ (now:Int) _ rfl h.tl
      rw [hfull]
      exact this
     ·rw [if_neg hok] at k1 k2 k3
      rw [show cp (l++ [now])=false by simpa using hok]
      exact k3 _ _ rfl (bE hfull) bq h.tl
   ·simp only [if_neg hx0] at k1 k2 k3
    (with_reducible repeat first|refine Nw.mk h fun b w h=> ?_|refine ah.mk h fun w h=> ?_|refine Ld.q h hL rfl rfl ?_|refine ad.q (fun _ h=>h) hL rfl rfl ?_|refine Ld.p h hL ?_|refine ad.p (fun _ h=>h) hL ?_|refine Ld.qw h hL rfl ?_|refine ad.qw (fun _ h=>h) hL rfl ?_|refine ⟨h.hb,?_⟩|(refine St.q h hL rfl rfl rfl fun w h=> ?_;dsimp only [af,ab] at h)|refine aa.yes ?_|refine aa.no ?_|refine ⟨by first|omega|decide,?_⟩)
    exact out (K':=fun w x=>K x true w) (bz hl) h fun w h=>k1 _ _ rfl h
  ·simp only [if_neg hb] at k1 k2 k3
   have hb5:bits=5:=by omega
   subst hb5
   by_cases hx0:x=0
   ·subst hx0
    simp only [if_true] at k1 k2 k3
    (with_reducible repeat first|refine Nw.mk h fun b w h=> ?_|refine ah.mk h fun w h=> ?_|refine Ld.q h hL rfl rfl ?_|refine ad.q (fun _ h=>h) hL rfl rfl ?_|refine Ld.p h hL ?_|refine ad.p (fun _ h=>h) hL ?_|refine Ld.qw h hL rfl ?_|refine ad.qw (fun _ h=>h) hL rfl ?_|refine ⟨h.hb,?_⟩|(refine St.q h hL rfl rfl rfl fun w h=> ?_;dsimp only [af,ab] at h)|refine aa.yes ?_|refine aa.no ?_|refine ⟨by first|omega|decide,?_⟩)
    by_cases hw:way=2
    ·subst hw
     (with_reducible repeat first|refine Nw.mk h fun b w h=> ?_|refine ah.mk h fun w h=> ?_|refine Ld.q h hL rfl rfl ?_|refine ad.q (fun _ h=>h) hL rfl rfl ?_|refine Ld.p h hL ?_|refine ad.p (fun _ h=>h) hL ?_|refine Ld.qw h hL rfl ?_|refine ad.qw (fun _ h=>h) hL rfl ?_|refine ⟨h.hb,?_⟩|(refine St.q h hL rfl rfl rfl fun w h=> ?_;dsimp only [af,ab] at h)|refine aa.yes ?_|refine aa.no ?_|refine ⟨by first|omega|decide,?_⟩)
     exact out (K':=fun w x=>K x false w) (bz hl) h fun w h=>k3 _ _ (by simp) (bE (bz hl)) bq h
    ·(with_reducible repeat first|refine Nw.mk h fun b w h=> ?_|refine ah.mk h fun w h=> ?_|refine Ld.q h hL rfl rfl ?_|refine ad.q (fun _ h=>h) hL rfl rfl ?_|refine Ld.p h hL ?_|refine ad.p (fun _ h=>h) hL ?_|refine Ld.qw h hL rfl ?_|refine ad.qw (fun _ h=>h) hL rfl ?_|refine ⟨h.hb,?_⟩|(refine St.q h hL rfl rfl rfl fun w h=> ?_;dsimp only [af,ab] at h)|refine aa.yes ?_|refine aa.no ?_|refine ⟨by first|omega|decide,?_⟩)
     refine out (K':=fun w x=>K x (decide ((now:Int)<15)) w) (bz hl) h fun w h=> ?_
     have ei:i64 ((now:Int)+1)=(now:Int)+1:=aj (by omega)
     try rw [ei]
     try rw [aj (x:=(now:Int) - 1) (by omega)]
     by_cases hn:now<15
     ·rw [if_pos ⟨hw,hn⟩] at k1
      exact dw (K:=fun b w=>K _ b w) (decide_eq_true (by omega)) (k1 _ _ rfl h)
     ·rw [if_neg (fun hh=>hn hh.2)] at k3
      exact dw (K:=fun b w=>K _ b w) (decide_eq_false (by omega)) (k3 _ _ rfl (bE (bz hl)) bq h)
   ·have hx1:x=1:=by omega
    subst hx1
    simp only [if_neg hx0] at k1 k2 k3
    (with_reducible repeat first|refine Nw.mk h fun b w h=> ?_|refine ah.mk h fun w h=> ?_|refine Ld.q h hL rfl rfl ?_|refine ad.q (fun _ h=>h) hL rfl rfl ?_|refine Ld.p h hL ?_|refine ad.p (fun _ h=>h) hL ?_|refine Ld.qw h hL rfl ?_|refine ad.qw (fun _ h=>h) hL rfl ?_|refine ⟨h.hb,?_⟩|(refine St.q h hL rfl rfl rfl fun w h=> ?_;dsimp only [af,ab] at h)|refine aa.yes ?_|refine aa.no ?_|refine ⟨by first|omega|decide,?_⟩)
    by_cases hw:way=1
    ·subst hw
     (with_reducible repeat first|refine Nw.mk h fun b w h=> ?_|refine ah.mk h fun w h=> ?_|refine Ld.q h hL rfl rfl ?_|refine ad.q (fun _ h=>h) hL rfl rfl ?_|refine Ld.p h hL ?_|refine ad.p (fun _ h=>h) hL ?_|refine Ld.qw h hL rfl ?_|refine ad.qw (fun _ h=>h) hL rfl ?_|refine ⟨h.hb,?_⟩|(refine St.q h hL rfl rfl rfl fun w h=> ?_;dsimp only [af,ab] at h)|refine aa.yes ?_|refine aa.no ?_|refine ⟨by first|omega|decide,?_⟩)
     exact out (K':=fun w x=>K x false w) (bz hl) h fun w h=>k3 _ _ (by simp) (bE (bz hl)) bq h
    ·(with_reducible repeat first|refine Nw.mk h fun b w h=> ?_|refine ah.mk h fun w h=> ?_|refine Ld.q h hL rfl rfl ?_|refine ad.q (fun _ h=>h) hL rfl rfl ?_|refine Ld.p h hL ?_|refine ad.p (fun _ h=>h) hL ?_|refine Ld.qw h hL rfl ?_|refine ad.qw (fun _ h=>h) hL rfl ?_|refine ⟨h.hb,?_⟩|(refine St.q h hL rfl rfl rfl fun w h=> ?_;dsimp only [af,ab] at h)|refine aa.yes ?_|refine aa.no ?_|refine ⟨by first|omega|decide,?_⟩)
     refine out (K':=fun w x=>K x (decide ((now:Int)>0)) w) (bz hl) h fun w h=> ?_
     have ei:i64 ((now:Int)+1)=(now:Int)+1:=aj (by omega)
     try rw [ei]
     try rw [aj (x:=(now:Int) - 1) (by omega)]
     by_cases hn:0<now
     ·rw [if_pos ⟨hw,hn⟩] at k1
      rw [show (now:Int) - 1=((now - 1:Nat):Int) by omega]
      exact dw (K:=fun b w=>K _ b w) (decide_eq_true (by omega)) (k1 _ _ rfl h)
     ·rw [if_neg (fun hh=>hn hh.2)] at k3
      exact dw (K:=fun b w=>K _ b w) (decide_eq_false (by omega)) (k3 _ _ rfl (bE (bz hl)) bq h)
end
end Go.Proofs.YtgglghjnakclmaaGreat
namespace Go.Proofs.YtgglghjnakclmaaGreat
open Go Go.Vc Go.Srt Go.Inc Go.Tab
section
variable {E w:World} {F:List HP}
set_option maxRecDepth 20000
theorem fM {a b c:Int} {K:Bool→World→Prop} (hK:K (decide (b≤a∧a≤c)) w):Cl Tryz.prog [kB] bB ⟨[.int .i64 a,.int .i64 b,.int .i64 c]⟩ w K:=by
 refine oh.ok _ _ _ _ _ ?_
 (first|refine aa.dm (fun hb=> ?_) (fun hb=> ?_)|refine aa.em (fun hb=> ?_) (fun hb=> ?_)|refine aa.nm (fun hb=> ?_) (fun hb=> ?_)|refine aa.mk (fun hb=> ?_) (fun hb=> ?_))
 ·refine dw (decide_eq_decide.2 ?_) hK
  omega
 ·refine dw (decide_eq_false ?_).symm hK
  omega
theorem Di {a b c:Nat} {K:Bool→World→Prop} (hc:(c=0∧a=b)∨(c=1∧a<b)∨(c=2∧b<a)) (hK:K true w):Cl Tryz.prog [kB] eQ ⟨[.int .i64 (a:Int),.int .i64 (b:Int),.int .i64 (c:Int)]⟩ w K:=by
 refine om.ok _ _ _ _ _ ?_
 rcases hc with ⟨rfl,h⟩|⟨rfl,h⟩|⟨rfl,h⟩
 ·(repeat (first|with_reducible refine Nw.mk h (fun b w h=> ?_)|with_reducible refine ah.mk h (fun w h=> ?_)|with_reducible refine Ld.xb h rfl ?_|with_reducible refine Ld.xt h rfl ?_|with_reducible refine ad.xb (fun _ h=>h) rfl ?_|with_reducible refine ad.xt (fun _ h=>h) rfl ?_|with_reducible refine And.intro h.hb ?_|with_reducible refine ae.xw h rfl rfl (fun w h=> ?_)|(with_reducible refine ae.xs h rfl rfl (fun w h=> ?_);dsimp only [af,ab] at h)|(with_reducible refine St.xs h rfl rfl (fun w h=> ?_);dsimp only [af,ab] at h)|with_reducible refine aa.eB ?_|with_reducible refine aa.fp ?_|with_reducible refine aa.t rfl ?_|with_reducible refine aa.f rfl ?_|with_reducible refine aa.dt (by omega) ?_|with_reducible refine aa.df (by omega) ?_|with_reducible refine aa.fq (by omega) ?_|with_reducible refine aa.fA (by omega) ?_|with_reducible refine aa.et (by omega) ?_|with_reducible refine aa.ef (by omega) ?_|with_reducible refine aa.nt (by omega) ?_|with_reducible refine aa.nf (by omega) ?_|with_reducible refine And.intro (by first|omega|decide) ?_))
  exact dw (beq_iff_eq.2 (by omega)) hK
 ·(repeat (first|with_reducible refine Nw.mk h (fun b w h=> ?_)|with_reducible refine ah.mk h (fun w h=> ?_)|with_reducible refine Ld.xb h rfl ?_|with_reducible refine Ld.xt h rfl ?_|with_reducible refine ad.xb (fun _ h=>h) rfl ?_|with_reducible refine ad.xt (fun _ h=>h) rfl ?_|with_reducible refine And.intro h.hb ?_|with_reducible refine ae.xw h rfl rfl (fun w h=> ?_)|(with_reducible refine ae.xs h rfl rfl (fun w h=> ?_);dsimp only [af,ab] at h)|(with_reducible refine St.xs h rfl rfl (fun w h=> ?_);dsimp only [af,ab] at h)|with_reducible refine aa.eB ?_|with_reducible refine aa.fp ?_|with_reducible refine aa.t rfl ?_|with_reducible refine aa.f rfl ?_|with_reducible refine aa.dt (by omega) ?_|with_reducible refine aa.df (by omega) ?_|with_reducible refine aa.fq (by omega) ?_|with_reducible refine aa.fA (by omega) ?_|with_reducible refine aa.et (by omega) ?_|with_reducible refine aa.ef (by omega) ?_|with_reducible refine aa.nt (by omega) ?_|with_reducible refine aa.nf (by omega) ?_|with_reducible refine And.intro (by first|omega|decide) ?_))
  exact dw (decide_eq_true (by omega)) hK
 ·(repeat (first|with_reducible refine Nw.mk h (fun b w h=> ?_)|with_reducible refine ah.mk h (fun w h=> ?_)|with_reducible refine Ld.xb h rfl ?_|with_reducible refine Ld.xt h rfl ?_|with_reducible refine ad.xb (fun _ h=>h) rfl ?_|with_reducible refine ad.xt (fun _ h=>h) rfl ?_|with_reducible refine And.intro h.hb ?_|with_reducible refine ae.xw h rfl rfl (fun w h=> ?_)|(with_reducible refine ae.xs h rfl rfl (fun w h=> ?_);dsimp only [af,ab] at h)|(with_reducible refine St.xs h rfl rfl (fun w h=> ?_);dsimp only [af,ab] at h)|with_reducible refine aa.eB ?_|with_reducible refine aa.fp ?_|with_reducible refine aa.t rfl ?_|with_reducible refine aa.f rfl ?_|with_reducible refine aa.dt (by omega) ?_|with_reducible refine aa.df (by omega) ?_|with_reducible refine aa.fq (by omega) ?_|with_reducible refine aa.fA (by omega) ?_|with_reducible refine aa.et (by omega) ?_|with_reducible refine aa.ef (by omega) ?_|with_reducible refine aa.nt (by omega) ?_|with_reducible refine aa.nf (by omega) ?_|with_reducible refine And.intro (by first|omega|decide) ?_))
  exact dw (decide_eq_true (by omega)) hK
set_option maxRecDepth 20000 in
theorem FY {l:List Nat} {b n wy:Int} {K:Bool→World→Prop} (h:Hp E w F) (hl:l.length≤258) (h15: ∀x∈l,x≤15) (hK: ∀w',Hp E w' F→K true w'):
  Cl Tryz.prog [kB] fh ⟨[.agg (dL (pad l) (l.length:Int) b n wy)]⟩ w K:=by
 have hp:=bz hl
 have hL:=ed hp
 refine pF.ok _ _ _ ?_
 (try simp only [au,ak,al,Nat.zero_add,Nat.add_zero,Nat.reduceAdd,Bool.not_true,Bool.not_false,aH,aE,Option.isNone])
 refine Nw.mk h fun b3 w h=>Ld.p h hL ?_
 refine ⟨fun i w'=> ∃k:Nat,i=(k:Int)∧k≤258∧Hp E w' (ao b3 (.cells (dL (pad l) (l.length:Int) b n wy) 106 (0,0))::F),fun i _=>258 - i.toNat,⟨0,rfl,by omega,h⟩,?_⟩
 rintro i w ⟨k,rfl,hk,h⟩
 (first|refine aa.dm (fun hb=> ?_) (fun hb=> ?_)|refine aa.em (fun hb=> ?_) (fun hb=> ?_)|refine aa.nm (fun hb=> ?_) (fun hb=> ?_)|refine aa.mk (fun hb=> ?_) (fun hb=> ?_))
 ·refine gk.rd (s:= .int .u8) (by omega) (by omega) ((pad l).getD k 0:Int) ?_ ?_
  ·rw [Int.toNat_natCast]
   simp [List.getD_eq_getElem?_getD,show k<(pad l).length by omega]
  have h15':(pad l).getD k 0≤15:=by
   have hk2:k<(pad l).length:=by omega
   rw [List.getD_eq_getElem?_getD,List.getElem?_eq_getElem hk2]
   exact GP h15 _ (List.getElem_mem hk2)
  (repeat (first|with_reducible refine Nw.mk h (fun b w h=> ?_)|with_reducible refine ah.mk h (fun w h=> ?_)|with_reducible refine Ld.q h hL rfl rfl ?_|with_reducible refine ad.q (fun _ h=>h) hL rfl rfl ?_|with_reducible refine Ld.p h hL ?_|with_reducible refine ad.p (fun _ h=>h) hL ?_|with_reducible refine Ld.qw h hL rfl ?_|with_reducible refine ad.qw (fun _ h=>h) hL rfl ?_|with_reducible refine And.intro h.hb ?_|(with_reducible refine St.q h hL rfl rfl rfl (fun w h=> ?_);dsimp only [af,ab] at h)|with_reducible refine aa.eB ?_|with_reducible refine aa.fp ?_|with_reducible refine aa.t rfl ?_|with_reducible refine aa.f rfl ?_|with_reducible refine aa.dt (by omega) ?_|with_reducible refine aa.df (by omega) ?_|with_reducible refine aa.fq (by omega) ?_|with_reducible refine aa.fA (by omega) ?_|with_reducible refine aa.et (by omega) ?_|with_reducible refine aa.ef (by omega) ?_|with_reducible refine aa.nt (by omega) ?_|with_reducible refine aa.nf (by omega) ?_|with_reducible refine And.intro (by first|omega|decide) ?_))
  have next:(∃k':Nat,i64 ((k:Int)+1)=(k':Int)∧k'≤258∧Hp E w (ao b3 (.cells (dL (pad l) (l.length:Int) b n wy) 106 (0,0))::F))∧258 - (i64 ((k:Int)+1)).toNat<258 - ((k:Int)).toNat:=by
   rw [aj (by omega)]
   exact ⟨⟨k+1,rfl,by omega,h⟩,by omega⟩
  (first|refine aa.dm (fun hb=> ?_) (fun hb=> ?_)|refine aa.em (fun hb=> ?_) (fun hb=> ?_)|refine aa.nm (fun hb=> ?_) (fun hb=> ?_)|refine aa.mk (fun hb=> ?_) (fun hb=> ?_))
  ·have:=GA (l:=l) (i:=k) (by omega)
   rw [this]
   (repeat (first|with_reducible refine Nw.mk h (fun b w h=> ?_)|with_reducible refine ah.mk h (fun w h=> ?_)|with_reducible refine Ld.q h hL rfl rfl ?_|with_reducible refine ad.q (fun _ h=>h) hL rfl rfl ?_|with_reducible refine Ld.p h hL ?_|with_reducible refine ad.p (fun _ h=>h) hL ?_|with_reducible refine Ld.qw h hL rfl ?_|with_reducible refine ad.qw (fun _ h=>h) hL rfl ?_|with_reducible refine And.intro h.hb ?_|(with_reducible refine St.q h hL rfl rfl rfl (fun w h=> ?_);dsimp only [af,ab] at h)|with_reducible refine aa.eB ?_|with_reducible refine aa.fp ?_|with_reducible refine aa.t rfl ?_|with_reducible refine aa.f rfl ?_|with_reducible refine aa.dt (by omega) ?_|with_reducible refine aa.df (by omega) ?_|with_reducible refine aa.fq (by omega) ?_|with_reducible refine aa.fA (by omega) ?_|with_reducible refine aa.et (by omega) ?_|with_reducible refine aa.ef (by omega) ?_|with_reducible refine aa.nt (by omega) ?_|with_reducible refine aa.nf (by omega) ?_|with_reducible refine And.intro (by first|omega|decide) ?_))
   exact next
  ·exact next
 ·exact hK _ h.tl
theorem Et {l:List Nat} {s n:Int} {b:Nat} {wy:Int} {K:Bool→World→Prop} (h:Hp E w F) (hl:l.length=258) (hb:4≤b) (hK: ∀w',Hp E w' F→K false w'):
  Cl Tryz.prog [kB] cE ⟨[.agg (dL l s (b:Int) n wy)]⟩ w K:=by
 have hL:=ed hl
 refine g8.ok _ _ _ ?_
 (try simp only [au,ak,al,Nat.zero_add,Nat.add_zero,Nat.reduceAdd,Bool.not_true,Bool.not_false,aH,aE,Option.isNone])
 refine Nw.mk h fun b3 w h=> ?_
 have h:=h.drew (n:=w.drawn+1)
 refine ⟨cq b3 _ _ _,h.hb,?_⟩
 dsimp only
 (repeat (first|with_reducible refine Nw.mk h (fun b w h=> ?_)|with_reducible refine ah.mk h (fun w h=> ?_)|with_reducible refine Ld.q h hL rfl rfl ?_|with_reducible refine ad.q (fun _ h=>h) hL rfl rfl ?_|with_reducible refine Ld.p h hL ?_|with_reducible refine ad.p (fun _ h=>h) hL ?_|with_reducible refine Ld.qw h hL rfl ?_|with_reducible refine ad.qw (fun _ h=>h) hL rfl ?_|with_reducible refine And.intro h.hb ?_|(with_reducible refine St.q h hL rfl rfl rfl (fun w h=> ?_);dsimp only [af,ab] at h)|with_reducible refine aa.eB ?_|with_reducible refine aa.fp ?_|with_reducible refine aa.t rfl ?_|with_reducible refine aa.f rfl ?_|with_reducible refine aa.dt (by omega) ?_|with_reducible refine aa.df (by omega) ?_|with_reducible refine aa.fq (by omega) ?_|with_reducible refine aa.fA (by omega) ?_|with_reducible refine aa.et (by omega) ?_|with_reducible refine aa.ef (by omega) ?_|with_reducible refine aa.nt (by omega) ?_|with_reducible refine aa.nf (by omega) ?_|with_reducible refine And.intro (by first|omega|decide) ?_))
 refine fM ?_
 (repeat (first|with_reducible refine Nw.mk h (fun b w h=> ?_)|with_reducible refine ah.mk h (fun w h=> ?_)|with_reducible refine Ld.q h hL rfl rfl ?_|with_reducible refine ad.q (fun _ h=>h) hL rfl rfl ?_|with_reducible refine Ld.p h hL ?_|with_reducible refine ad.p (fun _ h=>h) hL ?_|with_reducible refine Ld.qw h hL rfl ?_|with_reducible refine ad.qw (fun _ h=>h) hL rfl ?_|with_reducible refine And.intro h.hb ?_|(with_reducible refine St.q h hL rfl rfl rfl (fun w h=> ?_);dsimp only [af,ab] at h)|with_reducible refine aa.eB ?_|with_reducible refine aa.fp ?_|with_reducible refine aa.t rfl ?_|with_reducible refine aa.f rfl ?_|with_reducible refine aa.dt (by omega) ?_|with_reducible refine aa.df (by omega) ?_|with_reducible refine aa.fq (by omega) ?_|with_reducible refine aa.fA (by omega) ?_|with_reducible refine aa.et (by omega) ?_|with_reducible refine aa.ef (by omega) ?_|with_reducible refine aa.nt (by omega) ?_|with_reducible refine aa.nf (by omega) ?_|with_reducible refine And.intro (by first|omega|decide) ?_))
 exact hK _ h.tl
theorem Dr {n b:Nat} {K:Bool→World→Prop} (h:Hp E w F) (hb:b<4) (hn:n<2^b) (hK: ∀w',Hp E w' F→K true w'):
  Cl Tryz.prog [kB] cE ⟨[.agg (dL (List.replicate 258 0) 0 (b:Int) (n:Int) 0)]⟩ w K:=by
 have hl:(List.replicate 258 0:List Nat).length=258:=List.length_replicate
 have hL:=ed hl
 refine g8.ok _ _ _ ?_
 (try simp only [au,ak,al,Nat.zero_add,Nat.add_zero,Nat.reduceAdd,Bool.not_true,Bool.not_false,aH,aE,Option.isNone])
 refine Nw.mk h fun b3 w h=> ?_
 have h:=h.drew (n:=w.drawn+1)
 refine ⟨cq b3 _ _ _,h.hb,?_⟩
 dsimp only
 have e:i64 (a9 .i64 1 (b:Int) - 1)=((2^b - 1:Nat):Int):=by
  have:b=0∨b=1∨b=2∨b=3:=by omega
  rcases this with rfl|rfl|rfl|rfl<;>rfl
 have hp:=Nat.two_pow_pos b
 (repeat (first|with_reducible refine Nw.mk h (fun b w h=> ?_)|with_reducible refine ah.mk h (fun w h=> ?_)|with_reducible refine Ld.q h hL rfl rfl ?_|with_reducible refine ad.q (fun _ h=>h) hL rfl rfl ?_|with_reducible refine Ld.p h hL ?_|with_reducible refine ad.p (fun _ h=>h) hL ?_|with_reducible refine Ld.qw h hL rfl ?_|with_reducible refine ad.qw (fun _ h=>h) hL rfl ?_|with_reducible refine And.intro h.hb ?_|(with_reducible refine St.q h hL rfl rfl rfl (fun w h=> ?_);dsimp only [af,ab] at h)|with_reducible refine aa.eB ?_|with_reducible refine aa.fp ?_|with_reducible refine aa.t rfl ?_|with_reducible refine aa.f rfl ?_|with_reducible refine aa.dt (by omega) ?_|with_reducible refine aa.df (by omega) ?_|with_reducible refine aa.fq (by omega) ?_|with_reducible refine aa.fA (by omega) ?_|with_reducible refine aa.et (by omega) ?_|with_reducible refine aa.ef (by omega) ?_|with_reducible refine aa.nt (by omega) ?_|with_reducible refine aa.nf (by omega) ?_|with_reducible refine And.intro (by first|omega|decide) ?_))
 refine fM ?_
 (repeat (first|with_reducible refine Nw.mk h (fun b w h=> ?_)|with_reducible refine ah.mk h (fun w h=> ?_)|with_reducible refine Ld.q h hL rfl rfl ?_|with_reducible refine ad.q (fun _ h=>h) hL rfl rfl ?_|with_reducible refine Ld.p h hL ?_|with_reducible refine ad.p (fun _ h=>h) hL ?_|with_reducible refine Ld.qw h hL rfl ?_|with_reducible refine ad.qw (fun _ h=>h) hL rfl ?_|with_reducible refine And.intro h.hb ?_|(with_reducible refine St.q h hL rfl rfl rfl (fun w h=> ?_);dsimp only [af,ab] at h)|with_reducible refine aa.eB ?_|with_reducible refine aa.fp ?_|with_reducible refine aa.t rfl ?_|with_reducible refine aa.f rfl ?_|with_reducible refine aa.dt (by omega) ?_|with_reducible refine aa.df (by omega) ?_|with_reducible refine aa.fq (by omega) ?_|with_reducible refine aa.fA (by omega) ?_|with_reducible refine aa.et (by omega) ?_|with_reducible refine aa.ef (by omega) ?_|with_reducible refine aa.nt (by omega) ?_|with_reducible refine aa.nf (by omega) ?_|with_reducible refine And.intro (by first|omega|decide) ?_))
 refine fM ?_
 rw [e]
 (repeat (first|with_reducible refine Nw.mk h (fun b w h=> ?_)|with_reducible refine ah.mk h (fun w h=> ?_)|with_reducible refine Ld.q h hL rfl rfl ?_|with_reducible refine ad.q (fun _ h=>h) hL rfl rfl ?_|with_reducible refine Ld.p h hL ?_|with_reducible refine ad.p (fun _ h=>h) hL ?_|with_reducible refine Ld.qw h hL rfl ?_|with_reducible refine ad.qw (fun _ h=>h) hL rfl ?_|with_reducible refine And.intro h.hb ?_|(with_reducible refine St.q h hL rfl rfl rfl (fun w h=> ?_);dsimp only [af,ab] at h)|with_reducible refine aa.eB ?_|with_reducible refine aa.fp ?_|with_reducible refine aa.t rfl ?_|with_reducible refine aa.f rfl ?_|with_reducible refine aa.dt (by omega) ?_|with_reducible refine aa.df (by omega) ?_|with_reducible refine aa.fq (by omega) ?_|with_reducible refine aa.fA (by omega) ?_|with_reducible refine aa.et (by omega) ?_|with_reducible refine aa.ef (by omega) ?_|with_reducible refine aa.nt (by omega) ?_|with_reducible refine aa.nf (by omega) ?_|with_reducible refine And.intro (by first|omega|decide) ?_))
 exact cd.tb (rY.tb hl (hK _ h.tl))
theorem Ee {t:TS} {K:Bool→World→Prop} (h:Hp E w F) (ht:gh t) (hK: ∀w',Hp E w' F→K true w'):
  Cl Tryz.prog [kB] fl ⟨[.agg (dL (pad t.l) (t.l.length:Int) (t.bits:Int) (t.now:Int) (t.way:Int))]⟩ w K:=by
 obtain ⟨l,bits,now,way⟩:=t
 unfold gh at ht
 dsimp only at ht⊢
 have hl:l.length≤258:=by
  rcases ht with ⟨_,h,_⟩|⟨_,h,_⟩
  ·rw [h];simp
  ·omega
 have hL:=ed (bz hl)
 refine pG.ok _ _ _ ?_
 (try simp only [au,ak,al,Nat.zero_add,Nat.add_zero,Nat.reduceAdd,Bool.not_true,Bool.not_false,aH,aE,Option.isNone])
 (repeat (first|with_reducible refine Nw.mk h (fun b w h=> ?_)|with_reducible refine ah.mk h (fun w h=> ?_)|with_reducible refine Ld.q h hL rfl rfl ?_|with_reducible refine ad.q (fun _ h=>h) hL rfl rfl ?_|with_reducible refine Ld.p h hL ?_|with_reducible refine ad.p (fun _ h=>h) hL ?_|with_reducible refine Ld.qw h hL rfl ?_|with_reducible refine ad.qw (fun _ h=>h) hL rfl ?_|with_reducible refine And.intro h.hb ?_|(with_reducible refine St.q h hL rfl rfl rfl (fun w h=> ?_);dsimp only [af,ab] at h)|with_reducible refine aa.eB ?_|with_reducible refine aa.fp ?_|with_reducible refine aa.t rfl ?_|with_reducible refine aa.f rfl ?_|with_reducible refine aa.dt (by omega) ?_|with_reducible refine aa.df (by omega) ?_|with_reducible refine aa.fq (by omega) ?_|with_reducible refine aa.fA (by omega) ?_|with_reducible refine aa.et (by omega) ?_|with_reducible refine aa.ef (by omega) ?_|with_reducible refine aa.nt (by omega) ?_|with_reducible refine aa.nf (by omega) ?_|with_reducible refine And.intro (by first|omega|decide) ?_))
 rcases ht with ⟨h1,h2,h3,h4⟩|⟨h1,h2,h3,h4,h5⟩
 ·subst h2 h4
  refine Dr h h1 h3 fun w h=> ?_
  (repeat (first|with_reducible refine Nw.mk h (fun b w h=> ?_)|with_reducible refine ah.mk h (fun w h=> ?_)|with_reducible refine Ld.q h hL rfl rfl ?_|with_reducible refine ad.q (fun _ h=>h) hL rfl rfl ?_|with_reducible refine Ld.p h hL ?_|with_reducible refine ad.p (fun _ h=>h) hL ?_|with_reducible refine Ld.qw h hL rfl ?_|with_reducible refine ad.qw (fun _ h=>h) hL rfl ?_|with_reducible refine And.intro h.hb ?_|(with_reducible refine St.q h hL rfl rfl rfl (fun w h=> ?_);dsimp only [af,ab] at h)|with_reducible refine aa.eB ?_|with_reducible refine aa.fp ?_|with_reducible refine aa.t rfl ?_|with_reducible refine aa.f rfl ?_|with_reducible refine aa.dt (by omega) ?_|with_reducible refine aa.df (by omega) ?_|with_reducible refine aa.fq (by omega) ?_|with_reducible refine aa.fA (by omega) ?_|with_reducible refine aa.et (by omega) ?_|with_reducible refine aa.ef (by omega) ?_|with_reducible refine aa.nt (by omega) ?_|with_reducible refine aa.nf (by omega) ?_|with_reducible refine And.intro (by first|omega|decide) ?_))
  exact hK _ h.tl
 ·refine Et h (bz hl) (by omega) fun w h=> ?_
  (repeat (first|with_reducible refine Nw.mk h (fun b w h=> ?_)|with_reducible refine ah.mk h (fun w h=> ?_)|with_reducible refine Ld.q h hL rfl rfl ?_|with_reducible refine ad.q (fun _ h=>h) hL rfl rfl ?_|with_reducible refine Ld.p h hL ?_|with_reducible refine ad.p (fun _ h=>h) hL ?_|with_reducible refine Ld.qw h hL rfl ?_|with_reducible refine ad.qw (fun _ h=>h) hL rfl ?_|with_reducible refine And.intro h.hb ?_|(with_reducible refine St.q h hL rfl rfl rfl (fun w h=> ?_);dsimp only [af,ab] at h)|with_reducible refine aa.eB ?_|with_reducible refine aa.fp ?_|with_reducible refine aa.t rfl ?_|with_reducible refine aa.f rfl ?_|with_reducible refine aa.dt (by omega) ?_|with_reducible refine aa.df (by omega) ?_|with_reducible refine aa.fq (by omega) ?_|with_reducible refine aa.fA (by omega) ?_|with_reducible refine aa.et (by omega) ?_|with_reducible refine aa.ef (by omega) ?_|with_reducible refine aa.nt (by omega) ?_|with_reducible refine aa.nf (by omega) ?_|with_reducible refine And.intro (by first|omega|decide) ?_))
  refine fM ?_
  (repeat (first|with_reducible refine Nw.mk h (fun b w h=> ?_)|with_reducible refine ah.mk h (fun w h=> ?_)|with_reducible refine Ld.q h hL rfl rfl ?_|with_reducible refine ad.q (fun _ h=>h) hL rfl rfl ?_|with_reducible refine Ld.p h hL ?_|with_reducible refine ad.p (fun _ h=>h) hL ?_|with_reducible refine Ld.qw h hL rfl ?_|with_reducible refine ad.qw (fun _ h=>h) hL rfl ?_|with_reducible refine And.intro h.hb ?_|(with_reducible refine St.q h hL rfl rfl rfl (fun w h=> ?_);dsimp only [af,ab] at h)|with_reducible refine aa.eB ?_|with_reducible refine aa.fp ?_|with_reducible refine aa.t rfl ?_|with_reducible refine aa.f rfl ?_|with_reducible refine aa.dt (by omega) ?_|with_reducible refine aa.df (by omega) ?_|with_reducible refine aa.fq (by omega) ?_|with_reducible refine aa.fA (by omega) ?_|with_reducible refine aa.et (by omega) ?_|with_reducible refine aa.ef (by omega) ?_|with_reducible refine aa.nt (by omega) ?_|with_reducible refine aa.nf (by omega) ?_|with_reducible refine And.intro (by first|omega|decide) ?_))
  refine fM ?_
  (repeat (first|with_reducible refine Nw.mk h (fun b w h=> ?_)|with_reducible refine ah.mk h (fun w h=> ?_)|with_reducible refine Ld.q h hL rfl rfl ?_|with_reducible refine ad.q (fun _ h=>h) hL rfl rfl ?_|with_reducible refine Ld.p h hL ?_|with_reducible refine ad.p (fun _ h=>h) hL ?_|with_reducible refine Ld.qw h hL rfl ?_|with_reducible refine ad.qw (fun _ h=>h) hL rfl ?_|with_reducible refine And.intro h.hb ?_|(with_reducible refine St.q h hL rfl rfl rfl (fun w h=> ?_);dsimp only [af,ab] at h)|with_reducible refine aa.eB ?_|with_reducible refine aa.fp ?_|with_reducible refine aa.t rfl ?_|with_reducible refine aa.f rfl ?_|with_reducible refine aa.dt (by omega) ?_|with_reducible refine aa.df (by omega) ?_|with_reducible refine aa.fq (by omega) ?_|with_reducible refine aa.fA (by omega) ?_|with_reducible refine aa.et (by omega) ?_|with_reducible refine aa.ef (by omega) ?_|with_reducible refine aa.nt (by omega) ?_|with_reducible refine aa.nf (by omega) ?_|with_reducible refine And.intro (by first|omega|decide) ?_))
  refine fM ?_
  (repeat (first|with_reducible refine Nw.mk h (fun b w h=> ?_)|with_reducible refine ah.mk h (fun w h=> ?_)|with_reducible refine Ld.q h hL rfl rfl ?_|with_reducible refine ad.q (fun _ h=>h) hL rfl rfl ?_|with_reducible refine Ld.p h hL ?_|with_reducible refine ad.p (fun _ h=>h) hL ?_|with_reducible refine Ld.qw h hL rfl ?_|with_reducible refine ad.qw (fun _ h=>h) hL rfl ?_|with_reducible refine And.intro h.hb ?_|(with_reducible refine St.q h hL rfl rfl rfl (fun w h=> ?_);dsimp only [af,ab] at h)|with_reducible refine aa.eB ?_|with_reducible refine aa.fp ?_|with_reducible refine aa.t rfl ?_|with_reducible refine aa.f rfl ?_|with_reducible refine aa.dt (by omega) ?_|with_reducible refine aa.df (by omega) ?_|with_reducible refine aa.fq (by omega) ?_|with_reducible refine aa.fA (by omega) ?_|with_reducible refine aa.et (by omega) ?_|with_reducible refine aa.ef (by omega) ?_|with_reducible refine aa.nt (by omega) ?_|with_reducible refine aa.nf (by omega) ?_|with_reducible refine And.intro (by first|omega|decide) ?_))
  refine fM ?_
  have hw:way≤2:=by unfold lj at h5;split at h5<;>omega
  (repeat (first|with_reducible refine Nw.mk h (fun b w h=> ?_)|with_reducible refine ah.mk h (fun w h=> ?_)|with_reducible refine Ld.q h hL rfl rfl ?_|with_reducible refine ad.q (fun _ h=>h) hL rfl rfl ?_|with_reducible refine Ld.p h hL ?_|with_reducible refine ad.p (fun _ h=>h) hL ?_|with_reducible refine Ld.qw h hL rfl ?_|with_reducible refine ad.qw (fun _ h=>h) hL rfl ?_|with_reducible refine And.intro h.hb ?_|(with_reducible refine St.q h hL rfl rfl rfl (fun w h=> ?_);dsimp only [af,ab] at h)|with_reducible refine aa.eB ?_|with_reducible refine aa.fp ?_|with_reducible refine aa.t rfl ?_|with_reducible refine aa.f rfl ?_|with_reducible refine aa.dt (by omega) ?_|with_reducible refine aa.df (by omega) ?_|with_reducible refine aa.fq (by omega) ?_|with_reducible refine aa.fA (by omega) ?_|with_reducible refine aa.et (by omega) ?_|with_reducible refine aa.ef (by omega) ?_|with_reducible refine aa.nt (by omega) ?_|with_reducible refine aa.nf (by omega) ?_|with_reducible refine And.intro (by first|omega|decide) ?_))
  refine FY h hl h4 fun w h=> ?_
  (repeat (first|with_reducible refine Nw.mk h (fun b w h=> ?_)|with_reducible refine ah.mk h (fun w h=> ?_)|with_reducible refine Ld.q h hL rfl rfl ?_|with_reducible refine ad.q (fun _ h=>h) hL rfl rfl ?_|with_reducible refine Ld.p h hL ?_|with_reducible refine ad.p (fun _ h=>h) hL ?_|with_reducible refine Ld.qw h hL rfl ?_|with_reducible refine ad.qw (fun _ h=>h) hL rfl ?_|with_reducible refine And.intro h.hb ?_|(with_reducible refine St.q h hL rfl rfl rfl (fun w h=> ?_);dsimp only [af,ab] at h)|with_reducible refine aa.eB ?_|with_reducible refine aa.fp ?_|with_reducible refine aa.t rfl ?_|with_reducible refine aa.f rfl ?_|with_reducible refine aa.dt (by omega) ?_|with_reducible refine aa.df (by omega) ?_|with_reducible refine aa.fq (by omega) ?_|with_reducible refine aa.fA (by omega) ?_|with_reducible refine aa.et (by omega) ?_|with_reducible refine aa.ef (by omega) ?_|with_reducible refine aa.nt (by omega) ?_|with_reducible refine aa.nf (by omega) ?_|with_reducible refine And.intro (by first|omega|decide) ?_))
  unfold lj at h5
  by_cases hn:l= []
  ·subst hn
   rw [if_pos rfl] at h5
   (repeat (first|with_reducible refine Nw.mk h (fun b w h=> ?_)|with_reducible refine ah.mk h (fun w h=> ?_)|with_reducible refine Ld.q h hL rfl rfl ?_|with_reducible refine ad.q (fun _ h=>h) hL rfl rfl ?_|with_reducible refine Ld.p h hL ?_|with_reducible refine ad.p (fun _ h=>h) hL ?_|with_reducible refine Ld.qw h hL rfl ?_|with_reducible refine ad.qw (fun _ h=>h) hL rfl ?_|with_reducible refine And.intro h.hb ?_|(with_reducible refine St.q h hL rfl rfl rfl (fun w h=> ?_);dsimp only [af,ab] at h)|with_reducible refine aa.eB ?_|with_reducible refine aa.fp ?_|with_reducible refine aa.t rfl ?_|with_reducible refine aa.f rfl ?_|with_reducible refine aa.dt (by omega) ?_|with_reducible refine aa.df (by omega) ?_|with_reducible refine aa.fq (by omega) ?_|with_reducible refine aa.fA (by omega) ?_|with_reducible refine aa.et (by omega) ?_|with_reducible refine aa.ef (by omega) ?_|with_reducible refine aa.nt (by omega) ?_|with_reducible refine aa.nf (by omega) ?_|with_reducible refine And.intro (by first|omega|decide) ?_))
   rcases h5 with h5|⟨h5,h6⟩|⟨h5,h6⟩
   ·subst h5
    (repeat (first|with_reducible refine Nw.mk h (fun b w h=> ?_)|with_reducible refine ah.mk h (fun w h=> ?_)|with_reducible refine Ld.q h hL rfl rfl ?_|with_reducible refine ad.q (fun _ h=>h) hL rfl rfl ?_|with_reducible refine Ld.p h hL ?_|with_reducible refine ad.p (fun _ h=>h) hL ?_|with_reducible refine Ld.qw h hL rfl ?_|with_reducible refine ad.qw (fun _ h=>h) hL rfl ?_|with_reducible refine And.intro h.hb ?_|(with_reducible refine St.q h hL rfl rfl rfl (fun w h=> ?_);dsimp only [af,ab] at h)|with_reducible refine aa.eB ?_|with_reducible refine aa.fp ?_|with_reducible refine aa.t rfl ?_|with_reducible refine aa.f rfl ?_|with_reducible refine aa.dt (by omega) ?_|with_reducible refine aa.df (by omega) ?_|with_reducible refine aa.fq (by omega) ?_|with_reducible refine aa.fA (by omega) ?_|with_reducible refine aa.et (by omega) ?_|with_reducible refine aa.ef (by omega) ?_|with_reducible refine aa.nt (by omega) ?_|with_reducible refine aa.nf (by omega) ?_|with_reducible refine And.intro (by first|omega|decide) ?_))
    exact hK _ h.tl
   ·subst h5
    (repeat (first|with_reducible refine Nw.mk h (fun b w h=> ?_)|with_reducible refine ah.mk h (fun w h=> ?_)|with_reducible refine Ld.q h hL rfl rfl ?_|with_reducible refine ad.q (fun _ h=>h) hL rfl rfl ?_|with_reducible refine Ld.p h hL ?_|with_reducible refine ad.p (fun _ h=>h) hL ?_|with_reducible refine Ld.qw h hL rfl ?_|with_reducible refine ad.qw (fun _ h=>h) hL rfl ?_|with_reducible refine And.intro h.hb ?_|(with_reducible refine St.q h hL rfl rfl rfl (fun w h=> ?_);dsimp only [af,ab] at h)|with_reducible refine aa.eB ?_|with_reducible refine aa.fp ?_|with_reducible refine aa.t rfl ?_|with_reducible refine aa.f rfl ?_|with_reducible refine aa.dt (by omega) ?_|with_reducible refine aa.df (by omega) ?_|with_reducible refine aa.fq (by omega) ?_|with_reducible refine aa.fA (by omega) ?_|with_reducible refine aa.et (by omega) ?_|with_reducible refine aa.ef (by omega) ?_|with_reducible refine aa.nt (by omega) ?_|with_reducible refine aa.nf (by omega) ?_|with_reducible refine And.intro (by first|omega|decide) ?_))
    exact hK _ h.tl
   ·subst h5
    (repeat (first|with_reducible refine Nw.mk h (fun b w h=> ?_)|with_reducible refine ah.mk h (fun w h=> ?_)|with_reducible refine Ld.q h hL rfl rfl ?_|with_reducible refine ad.q (fun _ h=>h) hL rfl rfl ?_|with_reducible refine Ld.p h hL ?_|with_reducible refine ad.p (fun _ h=>h) hL ?_|with_reducible refine Ld.qw h hL rfl ?_|with_reducible refine ad.qw (fun _ h=>h) hL rfl ?_|with_reducible refine And.intro h.hb ?_|(with_reducible refine St.q h hL rfl rfl rfl (fun w h=> ?_);dsimp only [af,ab] at h)|with_reducible refine aa.eB ?_|with_reducible refine aa.fp ?_|with_reducible refine aa.t rfl ?_|with_reducible refine aa.f rfl ?_|with_reducible refine aa.dt (by omega) ?_|with_reducible refine aa.df (by omega) ?_|with_reducible refine aa.fq (by omega) ?_|with_reducible refine aa.fA (by omega) ?_|with_reducible refine aa.et (by omega) ?_|with_reducible refine aa.ef (by omega) ?_|with_reducible refine aa.nt (by omega) ?_|with_reducible refine aa.nf (by omega) ?_|with_reducible refine And.intro (by first|omega|decide) ?_))
    exact dw (decide_eq_true (by omega)) (hK _ h.tl)
  ·rw [if_neg hn] at h5
   have hpos:=List.length_pos_iff.2 hn
   (repeat (first|with_reducible refine Nw.mk h (fun b w h=> ?_)|with_reducible refine ah.mk h (fun w h=> ?_)|with_reducible refine Ld.q h hL rfl rfl ?_|with_reducible refine ad.q (fun _ h=>h) hL rfl rfl ?_|with_reducible refine Ld.p h hL ?_|with_reducible refine ad.p (fun _ h=>h) hL ?_|with_reducible refine Ld.qw h hL rfl ?_|with_reducible refine ad.qw (fun _ h=>h) hL rfl ?_|with_reducible refine And.intro h.hb ?_|(with_reducible refine St.q h hL rfl rfl rfl (fun w h=> ?_);dsimp only [af,ab] at h)|with_reducible refine aa.eB ?_|with_reducible refine aa.fp ?_|with_reducible refine aa.t rfl ?_|with_reducible refine aa.f rfl ?_|with_reducible refine aa.dt (by omega) ?_|with_reducible refine aa.df (by omega) ?_|with_reducible refine aa.fq (by omega) ?_|with_reducible refine aa.fA (by omega) ?_|with_reducible refine aa.et (by omega) ?_|with_reducible refine aa.ef (by omega) ?_|with_reducible refine aa.nt (by omega) ?_|with_reducible refine aa.nf (by omega) ?_|with_reducible refine And.intro (by first|omega|decide) ?_))
   rw [aj (by omega)]
   refine ⟨by omega,by omega,?_⟩
   rw [show (((l.length:Int) - 1).toNat*1)=l.length - 1 by omega]
   (try simp only [au,ak,al,Nat.zero_add,Nat.add_zero,Nat.reduceAdd,Bool.not_true,Bool.not_false,aH,aE,Option.isNone])
   refine Ld.g (x:=(l.getLastD 0:Int)) h ?_ ?_
   ·rw [List.getElem?_map,D7 hn hl];rfl
   have hlast:l.getLastD 0≤15:=by
    cases l with
    |nil=>exact absurd rfl hn
    |cons a l=>rw [List.getLastD_cons,←List.getLast_eq_getLastD (h:=List.cons_ne_nil _ _)];exact h4 _ (List.getLast_mem _)
   (repeat (first|with_reducible refine Nw.mk h (fun b w h=> ?_)|with_reducible refine ah.mk h (fun w h=> ?_)|with_reducible refine Ld.q h hL rfl rfl ?_|with_reducible refine ad.q (fun _ h=>h) hL rfl rfl ?_|with_reducible refine Ld.p h hL ?_|with_reducible refine ad.p (fun _ h=>h) hL ?_|with_reducible refine Ld.qw h hL rfl ?_|with_reducible refine ad.qw (fun _ h=>h) hL rfl ?_|with_reducible refine And.intro h.hb ?_|(with_reducible refine St.q h hL rfl rfl rfl (fun w h=> ?_);dsimp only [af,ab] at h)|with_reducible refine aa.eB ?_|with_reducible refine aa.fp ?_|with_reducible refine aa.t rfl ?_|with_reducible refine aa.f rfl ?_|with_reducible refine aa.dt (by omega) ?_|with_reducible refine aa.df (by omega) ?_|with_reducible refine aa.fq (by omega) ?_|with_reducible refine aa.fA (by omega) ?_|with_reducible refine aa.et (by omega) ?_|with_reducible refine aa.ef (by omega) ?_|with_reducible refine aa.nt (by omega) ?_|with_reducible refine aa.nf (by omega) ?_|with_reducible refine And.intro (by first|omega|decide) ?_))
   rw [aj (by omega)]
   refine Di (by omega) ?_
   exact hK _ h.tl
end
end Go.Proofs.YtgglghjnakclmaaGreat
namespace Go.Proofs.YtgglghjnakclmaaGreat
open Go Go.Vc Go.Srt Go.Inc Go.Tab
section
variable {E w:World} {F:List HP}
set_option maxRecDepth 20000
theorem FB {t:TS} {x:Nat} {K:Array Value→Bool→Int→World→Prop} (h:Hp E w F) (ht:gh t) (hx:x≤1)
  (hmore: ∀t' w',bd cp t x= .more t'→Hp E w' F→K (dL (pad t'.l) (t'.l.length:Int) (t'.bits:Int) (t'.now:Int) (t'.way:Int)) false 0 w')
  (hfin: ∀l n w',bd cp t x= .fin l→Hp E w' F→K (dL l 258 4 n 0) true 0 w')
  (hbad: ∀o w',bd cp t x= .bad 100→o.size=262→o.toList.all ay=true→Hp E w' F→K o false 100 w'):
  Cl Tryz.prog [.arr 262,kB,kI] fE ⟨[.agg (dL (pad t.l) (t.l.length:Int) (t.bits:Int) (t.now:Int) (t.way:Int)),.int .i64 (x:Int)]⟩ w K:=by
 have hl:t.l.length<258:=by
  rcases ht with ⟨_,h,_⟩|⟨_,h,_⟩
  ·rw [h];simp
  ·omega
 have hL:=ed (bz (Nat.le_of_lt hl))
 have hz:((⟨List.replicate 258 (.int .u8 0)++ [.int .i64 0,.int .i64 0,.int .i64 0,.int .i64 0]⟩:Array Value)).size=262:=by simp
 refine qc.ok _ _ _ _ ?_
 (try simp only [au,ak,al,Nat.zero_add,Nat.add_zero,Nat.reduceAdd,Bool.not_true,Bool.not_false,aH,aE,Option.isNone])
 refine Nw.mk h fun b4 w h=>Nw.mk h fun b6 w h=> ?_
 (with_reducible repeat first|refine Nw.mk h fun b w h=> ?_|refine ah.mk h fun w h=> ?_|refine Ld.q h hL rfl rfl ?_|refine ad.q (fun _ h=>h) hL rfl rfl ?_|refine Ld.p h hL ?_|refine ad.p (fun _ h=>h) hL ?_|refine Ld.qw h hL rfl ?_|refine ad.qw (fun _ h=>h) hL rfl ?_|refine ⟨h.hb,?_⟩|(refine St.q h hL rfl rfl rfl fun w h=> ?_;dsimp only [af,ab] at h)|refine aa.yes ?_|refine aa.no ?_|refine ⟨by first|omega|decide,?_⟩)
 refine Ee h ht fun w h=> ?_
 (with_reducible repeat first|refine Nw.mk h fun b w h=> ?_|refine ah.mk h fun w h=> ?_|refine Ld.q h hL rfl rfl ?_|refine ad.q (fun _ h=>h) hL rfl rfl ?_|refine Ld.p h hL ?_|refine ad.p (fun _ h=>h) hL ?_|refine Ld.qw h hL rfl ?_|refine ad.qw (fun _ h=>h) hL rfl ?_|refine ⟨h.hb,?_⟩|(refine St.q h hL rfl rfl rfl fun w h=> ?_;dsimp only [af,ab] at h)|refine aa.yes ?_|refine aa.no ?_|refine ⟨by first|omega|decide,?_⟩)
 have e1:cn .i64 (x:Int) 1=0:=by
  have:x=0∨x=1:=by omega
  rcases this with rfl|rfl<;>rfl
 rw [e1]
 (with_reducible repeat first|refine Nw.mk h fun b w h=> ?_|refine ah.mk h fun w h=> ?_|refine Ld.q h hL rfl rfl ?_|refine ad.q (fun _ h=>h) hL rfl rfl ?_|refine Ld.p h hL ?_|refine ad.p (fun _ h=>h) hL ?_|refine Ld.qw h hL rfl ?_|refine ad.qw (fun _ h=>h) hL rfl ?_|refine ⟨h.hb,?_⟩|(refine St.q h hL rfl rfl rfl fun w h=> ?_;dsimp only [af,ab] at h)|refine aa.yes ?_|refine aa.no ?_|refine ⟨by first|omega|decide,?_⟩)
 refine F5 h ht hx ⟨fun t' w he h=> ?_,fun l n w he h=> ?_,fun o w he ho hos h=> ?_⟩
 ·have ht':=vd ht hx he
  have hl':t'.l.length<258:=by
   rcases ht' with ⟨_,h,_⟩|⟨_,h,_⟩
   ·rw [h];simp
   ·omega
  have hL:=ed (bz (Nat.le_of_lt hl'))
  refine aq.q h (bE (bz (Nat.le_of_lt hl))) (bE (bz (Nat.le_of_lt hl'))) bq fun w h=> ?_
  (with_reducible repeat first|refine Nw.mk h fun b w h=> ?_|refine ah.mk h fun w h=> ?_|refine Ld.q h hL rfl rfl ?_|refine ad.q (fun _ h=>h) hL rfl rfl ?_|refine Ld.p h hL ?_|refine ad.p (fun _ h=>h) hL ?_|refine Ld.qw h hL rfl ?_|refine ad.qw (fun _ h=>h) hL rfl ?_|refine ⟨h.hb,?_⟩|(refine St.q h hL rfl rfl rfl fun w h=> ?_;dsimp only [af,ab] at h)|refine aa.yes ?_|refine aa.no ?_|refine ⟨by first|omega|decide,?_⟩)
  have h:=h.drew (n:=w.drawn+1)
  refine ⟨cq b4 _ _ _,h.hb,?_⟩
  dsimp only
  (with_reducible repeat first|refine Nw.mk h fun b w h=> ?_|refine ah.mk h fun w h=> ?_|refine Ld.q h hL rfl rfl ?_|refine ad.q (fun _ h=>h) hL rfl rfl ?_|refine Ld.p h hL ?_|refine ad.p (fun _ h=>h) hL ?_|refine Ld.qw h hL rfl ?_|refine ad.qw (fun _ h=>h) hL rfl ?_|refine ⟨h.hb,?_⟩|(refine St.q h hL rfl rfl rfl fun w h=> ?_;dsimp only [af,ab] at h)|refine aa.yes ?_|refine aa.no ?_|refine ⟨by first|omega|decide,?_⟩)
  refine aq.q h hz (bE (bz (Nat.le_of_lt hl'))) bq fun w h=>⟨h.hb,?_⟩
  (with_reducible repeat first|refine Nw.mk h fun b w h=> ?_|refine ah.mk h fun w h=> ?_|refine Ld.q h hL rfl rfl ?_|refine ad.q (fun _ h=>h) hL rfl rfl ?_|refine Ld.p h hL ?_|refine ad.p (fun _ h=>h) hL ?_|refine Ld.qw h hL rfl ?_|refine ad.qw (fun _ h=>h) hL rfl ?_|refine ⟨h.hb,?_⟩|(refine St.q h hL rfl rfl rfl fun w h=> ?_;dsimp only [af,ab] at h)|refine aa.yes ?_|refine aa.no ?_|refine ⟨by first|omega|decide,?_⟩)
  have e6:((t'.l.length:Int)==258)=false:=beq_eq_false_iff_ne.2 (by omega)
  have h6:=hmore t' _ he h.tl
  rw [←e6] at h6
  exact h6
 ·have hf:=(tq ht he).1
  have hL:=ed hf
  refine aq.q h (bE (bz (Nat.le_of_lt hl))) (bE hf) bq fun w h=> ?_
  (with_reducible repeat first|refine Nw.mk h fun b w h=> ?_|refine ah.mk h fun w h=> ?_|refine Ld.q h hL rfl rfl ?_|refine ad.q (fun _ h=>h) hL rfl rfl ?_|refine Ld.p h hL ?_|refine ad.p (fun _ h=>h) hL ?_|refine Ld.qw h hL rfl ?_|refine ad.qw (fun _ h=>h) hL rfl ?_|refine ⟨h.hb,?_⟩|(refine St.q h hL rfl rfl rfl fun w h=> ?_;dsimp only [af,ab] at h)|refine aa.yes ?_|refine aa.no ?_|refine ⟨by first|omega|decide,?_⟩)
  have h:=h.drew (n:=w.drawn+1)
  refine ⟨cq b4 _ _ _,h.hb,?_⟩
  dsimp only
  (with_reducible repeat first|refine Nw.mk h fun b w h=> ?_|refine ah.mk h fun w h=> ?_|refine Ld.q h hL rfl rfl ?_|refine ad.q (fun _ h=>h) hL rfl rfl ?_|refine Ld.p h hL ?_|refine ad.p (fun _ h=>h) hL ?_|refine Ld.qw h hL rfl ?_|refine ad.qw (fun _ h=>h) hL rfl ?_|refine ⟨h.hb,?_⟩|(refine St.q h hL rfl rfl rfl fun w h=> ?_;dsimp only [af,ab] at h)|refine aa.yes ?_|refine aa.no ?_|refine ⟨by first|omega|decide,?_⟩)
  refine aq.q h hz (bE hf) bq fun w h=>⟨h.hb,?_⟩
  (with_reducible repeat first|refine Nw.mk h fun b w h=> ?_|refine ah.mk h fun w h=> ?_|refine Ld.q h hL rfl rfl ?_|refine ad.q (fun _ h=>h) hL rfl rfl ?_|refine Ld.p h hL ?_|refine ad.p (fun _ h=>h) hL ?_|refine Ld.qw h hL rfl ?_|refine ad.qw (fun _ h=>h) hL rfl ?_|refine ⟨h.hb,?_⟩|(refine St.q h hL rfl rfl rfl fun w h=> ?_;dsimp only [af,ab] at h)|refine aa.yes ?_|refine aa.no ?_|refine ⟨by first|omega|decide,?_⟩)
  exact hfin l n _ he h.tl
 ·refine aq.q h (bE (bz (Nat.le_of_lt hl))) ho hos fun w h=> ?_
  (with_reducible repeat first|refine Nw.mk h fun b w h=> ?_|refine ah.mk h fun w h=> ?_|refine Ld.q h hL rfl rfl ?_|refine ad.q (fun _ h=>h) hL rfl rfl ?_|refine Ld.p h hL ?_|refine ad.p (fun _ h=>h) hL ?_|refine Ld.qw h hL rfl ?_|refine ad.qw (fun _ h=>h) hL rfl ?_|refine ⟨h.hb,?_⟩|(refine St.q h hL rfl rfl rfl fun w h=> ?_;dsimp only [af,ab] at h)|refine aa.yes ?_|refine aa.no ?_|refine ⟨by first|omega|decide,?_⟩)
  refine Ld.xw h hz ?_
  refine aq.q h hz hz (by decide) fun w h=> ?_
  refine Ld.xw h hz ?_
  exact hbad _ _ he hz (by decide) h.tl
end
end Go.Proofs.YtgglghjnakclmaaGreat
namespace Go.Proofs.YtgglghjnakclmaaGreat
open Go Go.Vc
set_option maxRecDepth 100000
theorem AH.ok (a:Int) (R:(Array Value)→World→Prop) w (h:
 Nw 112 ⟨List.replicate 256 (.int .u8 0)++ [(ni 0),(ni 0),(ni 0),(.bool false)]⟩ w fun c b=>
 aa (decide (a<1))
 (Ld (.arr 260) ⟨c,0,none⟩ b fun d=>
 aq 260 ⟨c,0,none⟩ d b fun e=>
 Ld (.arr 260) ⟨c,0,none⟩ e fun f=>
 R f e)
 (aa (decide (a>65536))
 (Ld (.arr 260) ⟨c,0,none⟩ b fun g=>
 aq 260 ⟨c,0,none⟩ g b fun h=>
 Ld (.arr 260) ⟨c,0,none⟩ h fun i=>
 R i h)
 (Cl Pg [(.arr 256)] n0 ⟨[]⟩ b fun k j=>
 cd Pg 112 [(0,(.agg k)),(1,(ni a))] fun l=>
 aq 260 ⟨c,0,none⟩ l j fun m=>
 Ld (.arr 260) ⟨c,0,none⟩ m fun n=>
 R n m))):Cl Pg [(.arr 260)] kR ⟨[(ni a)]⟩ w R:=co Tryz.f119 [] h
theorem yv.ok (a:(Array Value)) (b:Int) (R:(Array Value)→Sl→Bool→Int→World→Prop) w (h:
 Nw 112 a w fun d c=>
 Nw 112 ⟨List.replicate 256 (.int .u8 0)++ [(ni 0),(ni 0),(ni 0),(.bool false)]⟩ c fun f e=>
 bg (fun (y:World)=>
 Ld (.arr 260) ⟨d,0,none⟩ y fun z=>
 Cl Pg [(.arr 260),kS,kB] jM ⟨[(.agg z),(ni b)]⟩ y fun b1 (c1:Sl) (d1:Bool) a1=>
 aq 260 ⟨f,0,none⟩ b1 a1 fun e1=>
 aa (!d1)
 (Ld (.arr 260) ⟨d,0,none⟩ e1 fun f1=>
 aq 260 ⟨f,0,none⟩ f1 e1 fun g1=>
 Ld (.arr 260) ⟨f,0,none⟩ g1 fun h1=>
 R h1 (⟨none,0,0⟩:Sl) false 160 g1)
 (Ld (.arr 260) ⟨f,0,none⟩ e1 fun i1=>
 Ld kB (Addr.add ⟨f,0,none⟩ 259) e1 fun (j1:Bool)=>
 aq 260 ⟨f,0,none⟩ i1 e1 fun k1=>
 Ld (.arr 260) ⟨f,0,none⟩ k1 fun l1=>
 R l1 c1 j1 0 k1)) fun g=>
 Ld (.arr 260) ⟨d,0,none⟩ e fun h=>
 Cl Pg [kB] iZ ⟨[(.agg h)]⟩ e fun (j:Bool) i=>
 aa (!j)
 (Ld (.arr 260) ⟨d,0,none⟩ i fun k=>
 aq 260 ⟨f,0,none⟩ k i fun l=>
 Ld (.arr 260) ⟨f,0,none⟩ l fun m=>
 R m (⟨none,0,0⟩:Sl) false 2 l)
 (Ld kB (Addr.add ⟨d,0,none⟩ 259) i fun (n:Bool)=>
 aa n
 (Ld (.arr 260) ⟨d,0,none⟩ i fun o=>
 aq 260 ⟨f,0,none⟩ o i fun p=>
 Ld (.arr 260) ⟨f,0,none⟩ p fun q=>
 R q (⟨none,0,0⟩:Sl) false 2 p)
 (aa (decide (b<0))
 (Ld (.arr 260) ⟨d,0,none⟩ i fun r=>
 aq 260 ⟨f,0,none⟩ r i fun s=>
 Ld (.arr 260) ⟨f,0,none⟩ s fun t=>
 R t (⟨none,0,0⟩:Sl) false 2 s)
 (aa (decide (b>257))
 (Ld (.arr 260) ⟨d,0,none⟩ i fun u=>
 aq 260 ⟨f,0,none⟩ u i fun v=>
 Ld (.arr 260) ⟨f,0,none⟩ v fun x=>
 R x (⟨none,0,0⟩:Sl) false 2 v)
 (g i))))):Cl Pg [(.arr 260),kS,kB,kI] jG ⟨[(.agg a),(ni b)]⟩ w R:=co Tryz.f121 [(2,[])] h
theorem xl.ok (a:(Array Value)) (R:Bool→World→Prop) w (h:
 Nw 112 a w fun c b=>
 bg (fun (o:World)=>
 Ld kI (Addr.add ⟨c,0,none⟩ 258) o fun (p:Int)=>
 0≤p∧
 Ld kI (Addr.add ⟨c,0,none⟩ 257) o fun (q:Int)=>
 aa (decide (q<(i64 ((a9 .i64 (1:Int) p) - 1))))
 (R false o)
 (Ld kI (Addr.add ⟨c,0,none⟩ 257) o fun (r:Int)=>
 aa (decide (r>(i64 ((2:Int)*(i64 ((a9 .i64 (1:Int) p) - 1))))))
 (R false o)
 (Ld kB (Addr.add ⟨c,0,none⟩ 259) o fun (s:Bool)=>
 aa (!s)
 (R true o)
 (Ld (.arr 260) ⟨c,0,none⟩ o fun t=>
 Ld (.arr 256) (Addr.add ⟨c,0,none⟩ 0) o fun u=>
 cd Pg 112 [(0,(.agg u)),(4,(.bool true))] fun v=>
 rY Pg 112 t v fun x=>
 R x o)))) fun d=>
 Ld (.arr 256) (Addr.add ⟨c,0,none⟩ 0) b fun e=>
 Cl Pg [kB] lX ⟨[(.agg e)]⟩ b fun (g:Bool) f=>
 aa (!g)
 (R false f)
 (Ld kI (Addr.add ⟨c,0,none⟩ 256) f fun (h:Int)=>
 aa (decide (h<0))
 (R false f)
 (Ld kI (Addr.add ⟨c,0,none⟩ 256) f fun (i:Int)=>
 aa (decide (i>65536))
 (R false f)
 (Ld kI (Addr.add ⟨c,0,none⟩ 257) f fun (j:Int)=>
 aa (decide (j<0))
 (R false f)
 (Ld kI (Addr.add ⟨c,0,none⟩ 257) f fun (k:Int)=>
 Ld kI (Addr.add ⟨c,0,none⟩ 256) f fun (l:Int)=>
 aa (decide (k>l))
 (R false f)
 (Ld kI (Addr.add ⟨c,0,none⟩ 258) f fun (m:Int)=>
 aa (decide (m<0))
 (R false f)
 (Ld kI (Addr.add ⟨c,0,none⟩ 258) f fun (n:Int)=>
 aa (decide (n>16))
 (R false f)
 (d f)))))))):Cl Pg [kB] iZ ⟨[(.agg a)]⟩ w R:=co Tryz.f178 [(2,[])] h
theorem yg.ok (a:(Array Value)) (b:Int) (R:(Array Value)→Sl→Bool→World→Prop) w (h:
 Nw 112 a w fun d c=>
 Nw 112 ⟨List.replicate 256 (.int .u8 0)++ [(ni 0),(ni 0),(ni 0),(.bool false)]⟩ c fun f e=>
 bg (fun (h:Bool) (i:World)=>
 aa h
 (Ld kI (Addr.add ⟨d,0,none⟩ 257) i fun (j:Int)=>
 Ld kI (Addr.add ⟨d,0,none⟩ 258) i fun (k:Int)=>
 Cl Pg [kI,kI] gP ⟨[(ni j),(ni k),(ni b)]⟩ i fun (m:Int) (n:Int) l=>
 St (Addr.add ⟨d,0,none⟩ 257) (ni m) l fun o=>
 Ld kI (Addr.add ⟨d,0,none⟩ 258) o fun (p:Int)=>
 St (Addr.add ⟨d,0,none⟩ 258) (ni (i64 (p+1))) o fun q=>
 fC q fun r s=>
 ad (.arr 260) ⟨d,0,none⟩ r fun t=>
 ad kI (Addr.add ⟨d,0,none⟩ 257) r fun (u:Int)=>
 ad kI (Addr.add ⟨d,0,none⟩ 256) r fun (v:Int)=>
 aq 260 ⟨f,0,none⟩ t s fun x=>
 r x∧
 Ld (.arr 260) ⟨f,0,none⟩ x fun y=>
 R y (⟨none,0,0⟩:Sl) (decide (u≤v)) x)
 (aa (b==257)
 (fC i fun z a1=>
 ad (.arr 256) (Addr.add ⟨d,0,none⟩ 0) z fun b1=>
 cd Pg 112 [(0,(.agg b1)),(4,(.bool true))] fun c1=>
 ad (.arr 260) ⟨d,0,none⟩ z fun d1=>
 ad kI (Addr.add ⟨d,0,none⟩ 257) z fun (e1:Int)=>
 ad kI (Addr.add ⟨d,0,none⟩ 256) z fun (f1:Int)=>
 Cl Pg [kS] iw ⟨[(.agg d1)]⟩ a1 fun (h1:Sl) g1=>
 z g1∧
 aq 260 ⟨f,0,none⟩ c1 g1 fun i1=>
 z i1∧
 Ld (.arr 260) ⟨f,0,none⟩ i1 fun j1=>
 R j1 h1 (e1==f1) i1)
 (Ld kI (Addr.add ⟨d,0,none⟩ 257) i fun (k1:Int)=>
 Ld kI (Addr.add ⟨d,0,none⟩ 256) i fun (l1:Int)=>
 aa (k1==l1)
 (Ld (.arr 260) ⟨d,0,none⟩ i fun m1=>
 aq 260 ⟨f,0,none⟩ m1 i fun n1=>
 Ld (.arr 260) ⟨f,0,none⟩ n1 fun o1=>
 R o1 (⟨none,0,0⟩:Sl) false n1)
 (Ld (.arr 256) (Addr.add ⟨d,0,none⟩ 0) i fun p1=>
 Cl Pg [(.arr 256),(az .u8),kB] nw ⟨[(.agg p1),(ni (i64 (b - 1)))]⟩ i fun r1 (s1:Int) (t1:Bool) q1=>
 Nw 110 ⟨List.replicate 256 (.int .u8 0)⟩ q1 fun v1 u1=>
 aq 256 ⟨v1,0,none⟩ r1 u1 fun x1=>
 Ld (.arr 260) ⟨d,0,none⟩ x1 fun y1=>
 Cl Pg [kS] iw ⟨[(.agg y1)]⟩ x1 fun (a2:Sl) z1=>
 Nw 5 ⟨[(.int .u8 s1)]⟩ z1 fun c2 b2=>
 aw Pg (Builtin.append_ #[26,26] 26 ⟨[(an a2),(an (⟨some ⟨c2,0,none⟩,1,1⟩:Sl))]⟩) kS b2 fun (e2:Sl) d2=>
 Ld (.arr 256) ⟨v1,0,none⟩ d2 fun f2=>
 Ld kI (Addr.add ⟨d,0,none⟩ 256) d2 fun (g2:Int)=>
 cd Pg 112 [(0,(.agg f2)),(1,(ni (i64 (g2 - (e2.len:Int)))))] fun h2=>
 aq 260 ⟨f,0,none⟩ h2 d2 fun i2=>
 Ld (.arr 260) ⟨f,0,none⟩ i2 fun j2=>
 R j2 e2 true i2)))) fun g=>
 aa (b==0)
 (g true e)
 (g (b==1) e)):Cl Pg [(.arr 260),kS,kB] jM ⟨[(.agg a),(ni b)]⟩ w R:=co Tryz.f179 [(3,[(10,kB)])] h
theorem z0.ok (a:(Array Value)) (R:Sl→World→Prop) w (h:
 Nw 112 a w fun c b=>
 ah b fun d=>
 bF (⟨some (Addr.add ⟨c,0,none⟩ 0),256,256⟩:Sl) 0 1 256 1 fun e=>
 Ld kI (Addr.add ⟨c,0,none⟩ 257) d fun (f:Int)=>
 Cl Pg [kS] iQ ⟨[(an e),(ni f)]⟩ d fun (h:Sl) g=>
 R h g):Cl Pg [kS] iw ⟨[(.agg a)]⟩ w R:=co Tryz.f239 [] h
end Go.Proofs.YtgglghjnakclmaaGreat
namespace Go.Proofs.YtgglghjnakclmaaGreat
open Go Go.Vc
set_option maxRecDepth 100000
theorem uf.ok (a:Int) (b:Int) (R:Int→Int→World→Prop) w (h:
 Cl Pg [(az .u64),(az .u64)] jU ⟨[(.int .u64 a),(.int .u64 b)]⟩ w fun (d:Int) (e:Int) c=>
 R d e c):Cl Pg [(az .u64),(az .u64)] iu ⟨[(.int .u64 a),(.int .u64 b)]⟩ w R:=co Tryz.f321 [] h
theorem rm.ok (a:Int) (b:Int) (R:Int→Int→World→Prop) w (h:
 0≤(32:Int)∧
 0≤(32:Int)∧
 0≤(32:Int)∧
 0≤(32:Int)∧
 0≤(32:Int)∧
 R (u64 ((u64 ((u64 ((cn .u64 a (32:Int))*(cn .u64 b (32:Int))))+(cn .u64 (u64 ((u64 ((cn .u64 a (32:Int))*(cL .u64 b 4294967295)))+(cn .u64 (u64 ((cL .u64 a 4294967295)*(cL .u64 b 4294967295))) (32:Int)))) (32:Int))))+(cn .u64 (u64 ((cL .u64 (u64 ((u64 ((cn .u64 a (32:Int))*(cL .u64 b 4294967295)))+(cn .u64 (u64 ((cL .u64 a 4294967295)*(cL .u64 b 4294967295))) (32:Int)))) 4294967295)+(u64 ((cL .u64 a 4294967295)*(cn .u64 b (32:Int)))))) (32:Int)))) (u64 (a*b)) w):Cl Pg [(az .u64),(az .u64)] jU ⟨[(.int .u64 a),(.int .u64 b)]⟩ w R:=co Tryz.f331 [] h
end Go.Proofs.YtgglghjnakclmaaGreat
set_option maxRecDepth 20000
namespace Go.Vc
open Go
section
variable {P:Program} {E w:World} {l:List HP} {b o:Nat} {c:Array Value} {t:TypeId} {fr:Nat×Nat} {put:Obj→List HP}
theorem Hp.Ff {F:List HP} {cs:Array Value} {fr:Nat×Nat} (h:Hp E w (ao b (.cells c t fr)::F)):Hp E (w.setRow b cs) (ao b (.cells cs t fr)::F):=by
 have hb:=h.aD
 refine h.setObj (o':= .cells cs t fr) ?_ rfl rfl rfl
 apply Array.ext_getElem?
 intro r
 have hlt:b<w.heap.size:=by
  rcases Nat.lt_or_ge b w.heap.size with hh|hh
  ·exact hh
  ·simp [Array.getElem?_eq_none hh] at hb
 simp only [World.setRow,Array.getElem?_modify,Array.set!_eq_setIfInBounds,Array.getElem?_setIfInBounds]
 by_cases hr:b=r
 ·subst hr
  have hv:w.heap[b]= .cells c t fr:=by simpa [hlt] using hb
  simp [hlt,hv]
 ·simp [hr]
theorem oK {dT sT ty e:TypeId} {dLen dCap:Nat} {s:Sl} {ys:List Value} {K:Int→World→Prop} [hf:bo b l c t (0,0) put] (hu:P.underlying dT=some (.slice e)) (hs:(P.info? e).map (·.size)=some 1)
  (h:Hp E w l) (hsrc:aG 1 s ys w) (hsc: ∀v∈ys,ay v=true) (hfit:o+dLen≤c.size)
  (hK: ∀w',Hp E w' (put (.cells ⟨c.toList.take o++(ys.take dLen++c.toList.drop (o+min ys.length dLen))⟩ t (0,0)))→K ((min ys.length dLen:Nat):Int) w'):
  aw P (Builtin.copy_ #[dT,sT] ty ⟨[.slice (some ⟨b,o,none⟩) dLen dCap,.slice s.base s.len s.cap]⟩) kI w K:=by
 have hl:=hsrc.1
 rw [Nat.mul_one] at hl
 obtain ⟨r,h1,h2⟩:=hf.perm
 have hh:=h.perm h1
 unfold aw
 by_cases h0:min ys.length dLen=0
 ·rw [show (⟨[.slice (some ⟨b,o,none⟩) dLen dCap,.slice s.base s.len s.cap]⟩:Array Value)= #[.slice (some ⟨b,o,none⟩) dLen dCap,.slice s.base s.len s.cap] from rfl,run_copy_none (P:=P) w dT sT ty e _ _ _ _ _ _ hu hs (by rw [←hl];exact h0)]
  have hk:=hK w
  rw [h0] at hk
  have e1:ys.take dLen= []:=by
   rcases Nat.eq_zero_or_pos dLen with hd|hd
   ·rw [hd];rfl
   ·have:ys= []:=List.length_eq_zero_iff.1 (by omega)
    rw [this];simp
  rw [e1,List.nil_append,Nat.add_zero,List.take_append_drop] at hk
  exact hk (hh.perm (by have:=h2 (.cells c t (0,0));simpa using this))
 ·have hpos:0<ys.length:=by omega
  obtain ⟨p,hp,_⟩:=hsrc.2 0 hpos
  rw [hp]
  have hmin:(ys.take dLen).length=Nat.min s.len dLen:=by
   rw [List.length_take,←hl,Nat.min_comm]
  have:=run_copy_row (P:=P) w dT sT ty e b o dLen dCap p s.len s.cap c t (ys.take dLen) hu hs hh.aD hmin (fun j v hv=> ?_) (by
   rw [List.length_take];omega) (fun v hv=>ka (hsc v (List.mem_of_mem_take hv)))
  ·rw [show (⟨[.slice (some ⟨b,o,none⟩) dLen dCap,.slice (some p) s.len s.cap]⟩:Array Value)= #[.slice (some ⟨b,o,none⟩) dLen dCap,.slice (some p) s.len s.cap] from rfl,this]
   have hlen:(ys.take dLen).length=min ys.length dLen:=by rw [List.length_take,Nat.min_comm]
   rw [hlen,List.append_assoc]
   exact hK _ ((hh.Ff).perm (h2 _))
  ·have hj:j<(ys.take dLen).length:=by
    rcases Nat.lt_or_ge j (ys.take dLen).length with h|h
    ·exact h
    ·rw [List.getElem?_eq_none h] at hv;cases hv
   rw [List.length_take] at hj
   obtain ⟨p',hp',hc⟩:=hsrc.2 j (by omega)
   rw [hp] at hp'
   cases hp'
   rw [hc]
   rw [List.getElem?_take_of_lt (by omega),List.getElem?_eq_getElem (by omega)] at hv
   exact hv
end
end Go.Vc
namespace Go.Vc
open Go
section
variable {E w:World} {l:List HP} {b:Nat} {c:Array Value} {t:TypeId} {fr:Nat×Nat} {put:Obj→List HP}
theorem Hp.Ke {n m:Nat} {xs:List Value} [bo b l c t fr put] (h:Hp E w l) (hl:xs.length=n) (hx: ∀i (hi:i<xs.length),c[i]? =some xs[i]):aG 1 ⟨some ⟨b,0,none⟩,n,m⟩ xs w:=
 ⟨by simpa using hl,fun i hi=>⟨_,rfl,by rw [al,h.fc,Nat.zero_add];exact hx i hi⟩⟩
end
end Go.Vc
namespace Go.Proofs.YtgglghjnakclmaaGreat
open Go Go.Vc
section
variable {E w:World} {F:List HP}
theorem Gm {n:Nat} {K:Int→Int→World→Prop} (hn:n≤4294967295) (hK:K 0 (n:Int) w):Cl Tryz.prog [az .u64,az .u64] iu ⟨[.int .u64 1,.int .u64 (n:Int)]⟩ w K:=by
 refine uf.ok _ _ _ _ ?_
 refine rm.ok _ _ _ _ ?_
 refine ⟨by decide,by decide,by decide,by decide,by decide,?_⟩
 have hmx:IntKind.max .u64=18446744073709551615:=rfl
 have e1:cn .u64 1 32=0:=by decide
 have e2:cn .u64 (n:Int) 32=0:=by
  have:=eI (k:= .u64) (a:=n) (b:=32) (by decide)
  rw [Nat.div_eq_of_lt (by omega)] at this
  simpa using this
 have e3:cL .u64 1 4294967295=1:=by decide
 have e4:cL .u64 (n:Int) 4294967295=(n:Int):=by
  have:=kG (k:= .u64) (a:=n) (b:=4294967295) (by rw [hmx];omega) (by rw [hmx];omega)
  rw [show n&&&4294967295=n % 2^32 from Nat.and_two_pow_sub_one_eq_mod n 32,Nat.mod_eq_of_lt (by omega)] at this
  simpa using this
 have e5:u64 (n:Int)=(n:Int):=fQ (by omega)
 have e6:u64 0=0:=by decide
 have e7:cn .u64 0 32=0:=by decide
 have e8:cL .u64 0 4294967295=0:=by decide
 simp only [e1,e2,e3,e4,Int.zero_mul,Int.one_mul,Int.mul_zero,e5,e6,Int.add_zero,e7,e8]
 exact hK
set_option maxRecDepth 20000
theorem zY:Tryz.prog.underlying 26=some (.slice 5):=by kernel_rfl
theorem Jl:(Tryz.prog.info? 5).map (·.size)=some 1:=by kernel_rfl
theorem D8 {n:Nat} {K:Sl→World→Prop} (h:Hp E w F) (hn:n≤65536) (hK: ∀b cs w',n≤cs.size→Hp E w' (ao b (.cells cs 5 (0,0))::F)→K ⟨some ⟨b,0,none⟩,n,cs.size⟩ w'):
  Ext Tryz.prog bW ⟨[.int .i64 (n:Int)]⟩ [kS] w K:=by
 obtain ⟨cs,hrun,hcs,_⟩:=Go.Lib.run_makeNoZero (P:=Tryz.prog) w #[3] 26 5 zY n (by omega)
 have hx:(callFunc bW #[.int .i64 (n:Int)]).run Tryz.prog w= .ok (.value (.slice (some ⟨w.heap.size,0,none⟩) n cs.size)) (w.drew.drew.alloc (.cells cs 5)):=by
  rw [run_callFunc_extern Tryz.func322 (by kernel_rfl) (by kernel_rfl) (by kernel_rfl) (e:=Extern.BytealgMakeNoZero.makeNoZero #[3] #[26]) (by kernel_rfl),hrun];rfl
 unfold Ext
 rw [show (⟨[.int .i64 (n:Int)]⟩:Array Value)= #[.int .i64 (n:Int)] from rfl,hx]
 have h2:Hp E w.drew.drew F:=h.same rfl rfl rfl rfl
 exact hK _ _ _ hcs (h2.alloc _)
set_option maxRecDepth 20000
theorem C0 {s:Sl} {c n:Nat} {K:Sl→World→Prop} (h:Hp E w F) (hs:ag F (aG 1 s [.int .u8 (c:Int)])) (hn:n≤65536) (hK: ∀s' w',Hp E w' (aA 1 s' ((List.replicate n c).map vB)::F)→K s' w'):
  Cl Tryz.prog [kS] iQ ⟨[.slice s.base s.len s.cap,.int .i64 (n:Int)]⟩ w K:=by
 refine xn.ok _ _ _ _ ?_
 have hl1:s.len=1:=by have:=(h.av hs).1;simpa using this.symm
 obtain ⟨sb,sl,sc⟩:=s
 dsimp only at hl1⊢
 subst hl1
 (try simp only [au,ak,al,Nat.zero_add,Nat.add_zero,Nat.reduceAdd,Bool.not_true,Bool.not_false,aH,aE,Option.isNone])
 by_cases h0:n=0
 ·subst h0
  refine aa.et (by omega) ?_
  refine Nw.mk h fun b w h=> ?_
  exact hK _ _ (h.iq (n:=0) (sz:=1) rfl)
 refine aa.ef (by omega) (aa.df (by omega) ?_)
 rw [fQ (x:=((1:Nat):Int)) (by omega),fQ (x:=(n:Int)) (by omega)]
 refine Gm (by omega) ?_
 refine aa.df (by omega) (aa.df (by omega) ?_)
 refine aa.ef (by omega) ?_
 rw [aj (x:=(n:Int)) (by omega)]
 have main: ∀mx:Int,1≤mx→Ext Tryz.prog bW ⟨[.int .i64 (n:Int)]⟩ [kS] w fun r21 w_20=>
   bF r21 0 (n:Int) (n:Int) 1 fun s22=>
   aw Tryz.prog (Builtin.copy_ #[26,26] 3 ⟨[(.slice s22.base s22.len s22.cap),(.slice sb (1:Nat) sc)]⟩) kI w_20 fun (n24:Int) w_23=>
   ∃(I_25:Int→World→Prop) (m_26:Int→World→Nat),I_25 (n24) w_23∧
   ∀(bp27:Int),∀(w_28:World),I_25 bp27 w_28→
   aa (decide (bp27<(n:Int)))
   (ah w_28 fun w_29=>
   bF s22 bp27 (s22).len (s22).cap 1 fun s30=>
   bF s22 0 (if mx<bp27 then mx else bp27) (s22).cap 1 fun s31=>
   aw Tryz.prog (Builtin.copy_ #[26,26] 3 ⟨[(.slice s30.base s30.len s30.cap),(.slice s31.base s31.len s31.cap)]⟩) kI w_29 fun (n33:Int) w_32=>
   I_25 ((i64 (bp27+n33))) w_32∧m_26 ((i64 (bp27+n33))) w_32<m_26 bp27 w_28)
   (K (s22) w_28):=by
  intro mx hmx
  refine D8 h hn fun b cs w hcs h=> ?_
  refine ⟨by omega,by omega,by omega,by simp only;omega,?_⟩
  simp only [Int.toNat_natCast,Int.toNat_zero,Nat.sub_zero,if_neg h0,Option.map_some,Nat.zero_mul,al,Nat.zero_add]
  have hs1:=h.av hs.cons
  refine oK (s:=⟨sb,1,sc⟩) (ys:= [.int .u8 (c:Int)]) zY Jl h hs1 (by simp [ay]) (by omega) fun w h=> ?_
  have e0:(⟨cs.toList.take 0++(([.int .u8 (c:Int)]:List Value).take n++cs.toList.drop (0+min ([.int .u8 (c:Int)]:List Value).length n))⟩:Array Value)=⟨(List.replicate 1 c).map vB++cs.toList.drop 1⟩:=by
   rw [List.take_zero,List.nil_append,List.take_of_length_le (by simp;omega),show min ([.int .u8 (c:Int)]:List Value).length n=1 by simp;omega,Nat.zero_add]
   rfl
  rw [e0] at h
  rw [show ((min ([.int .u8 (c:Int)]:List Value).length n:Nat):Int)=((1:Nat):Int) by congr 1;simp;omega]
  refine ⟨fun bp w'=> ∃k:Nat,bp=(k:Int)∧1≤k∧k≤n∧Hp E w' (ao b (.cells ⟨(List.replicate k c).map vB++cs.toList.drop k⟩ 5 (0,0))::F),fun bp _=>n - bp.toNat,⟨1,rfl,by omega,by omega,h⟩,?_⟩
  rintro bp w ⟨k,rfl,hk1,hkn,h⟩
  have hsz:(⟨(List.replicate k c).map vB++cs.toList.drop k⟩:Array Value).size=cs.size:=by simp;omega
  (first|refine aa.dm (fun hb=> ?_) (fun hb=> ?_)|refine aa.em (fun hb=> ?_) (fun hb=> ?_)|refine aa.nm (fun hb=> ?_) (fun hb=> ?_)|refine aa.mk (fun hb=> ?_) (fun hb=> ?_))
  ·obtain ⟨q,hq,hq1,hqk⟩: ∃q:Nat,(if mx<(k:Int) then mx else (k:Int))=(q:Int)∧1≤q∧q≤k:=by
    by_cases hm:mx<(k:Int)
    ·rw [if_pos hm];exact ⟨mx.toNat,by omega,by omega,by omega⟩
    ·rw [if_neg hm];exact ⟨k,rfl,hk1,Nat.le_refl _⟩
   rw [hq]
   refine ah.mk h fun w h=> ?_
   dsimp only
   refine ⟨by omega,by omega,by omega,by dsimp only;omega,?_⟩
   rw [if_neg (by omega)]
   simp only [Int.toNat_natCast,Option.map_some,al,Nat.zero_add,Nat.mul_one]
   refine ⟨by omega,by omega,by omega,by dsimp only;omega,?_⟩
   rw [if_neg (by simp only [Int.toNat_natCast,Int.toNat_zero];omega)]
   simp only [Int.toNat_natCast,Int.toNat_zero,Nat.sub_zero,Option.map_some,al,Nat.zero_add,Nat.zero_mul]
   have hsrc:aG 1 ⟨some ⟨b,0,none⟩,q,n⟩ ((List.replicate q c).map vB) w:=h.Ke (by simp) (fun i hi=>by
    simp at hi
    simp [List.getElem?_append,show i<k by omega])
   refine oK (ys:=(List.replicate q c).map vB) zY Jl h hsrc lE (by rw [hsz];omega) fun w h=> ?_
   have hlen:((List.replicate q c).map vB).length=q:=by simp
   rw [hlen] at h⊢
   have e1:(⟨(⟨(List.replicate k c).map vB++cs.toList.drop k⟩:Array Value).toList.take k++(((List.replicate q c).map vB).take (n - k)++(⟨(List.replicate k c).map vB++cs.toList.drop k⟩:Array Value).toList.drop (k+min q (n - k)))⟩:Array Value)
     =⟨(List.replicate (k+min q (n - k)) c).map vB++cs.toList.drop (k+min q (n - k))⟩:=by
    dsimp only
    rw [List.take_left' (by simp),←List.map_take,List.take_replicate,List.drop_append,List.drop_of_length_le (by simp),List.nil_append,List.drop_drop,←List.append_assoc,←List.map_append,List.replicate_append_replicate]
    simp only [List.length_map,List.length_replicate]
    rw [show k+(k+min q (n - k) - k)=k+min q (n - k) by omega,Nat.min_comm (n - k) q]
   rw [e1] at h
   rw [aj (by omega)]
   refine ⟨⟨k+min q (n - k),by omega,by omega,by omega,h⟩,by omega⟩
  ·have hk:k=n:=by omega
   subst hk
   refine hK _ _ (h.kq (by simp) rfl (by simp) (by simp<;>omega) fun i hi=> ?_)
   simp at hi
   simp [List.getElem?_append,hi]
 by_cases hbig:(n:Int)>8192
 ·refine aa.dt hbig ⟨by omega,?_⟩
  refine aa.ef (by decide) ?_
  exact main _ (by decide)
 ·exact aa.df hbig (main _ (by omega))
end
end Go.Proofs.YtgglghjnakclmaaGreat
namespace Go.Proofs.YtgglghjnakclmaaGreat
open Go Go.Vc
set_option maxRecDepth 100000
theorem Fs.ok (R:(Array Value)→World→Prop) w (h:
 Nw 110 ⟨List.replicate 256 (.int .u8 0)⟩ w fun b a=>
 gn 0 a fun c d (e:Int) f=>
 aa (decide (e<256))
 (aC ⟨b,0,none⟩ 256 e 1 fun g=>
 St g (.int .u8 (u8 e)) f fun h=>
 c (i64 (e+1)) h∧d (i64 (e+1)) h<d e f)
 (Ld (.arr 256) ⟨b,0,none⟩ f fun i=>
 aq 256 ⟨b,0,none⟩ i f fun j=>
 Ld (.arr 256) ⟨b,0,none⟩ j fun k=>
 R k j)):Cl Pg [(.arr 256)] n0 ⟨[]⟩ w R:=co Tryz.f174 [(5,[(2,kI)])] h
theorem BF.ok (a:(Array Value)) (R:Bool→World→Prop) w (h:
 Nw 110 a w fun c b=>
 Nw 351 ⟨List.replicate 256 (ni 0)⟩ b fun e d=>
 Ld (.arr 256) ⟨c,0,none⟩ d fun f=>
 gn 0 d fun g h (i:Int) j=>
 aa (decide (i<256))
 (gk (.int .u8) f 256 i fun (k:Int)=>
 aC ⟨e,0,none⟩ 256 k 1 fun l=>
 St l (ni 1) j fun m=>
 g (i64 (i+1)) m∧h (i64 (i+1)) m<h i j)
 (fC j fun n o=>
 ad (.arr 256) ⟨e,0,none⟩ n fun p=>
 Cl Pg [(.arr 256)] mV ⟨[]⟩ o fun r q=>
 n q∧
 qQ .i64 256 p r fun s=>
 R s q)):Cl Pg [kB] lX ⟨[(.agg a)]⟩ w R:=co Tryz.f237 [(7,[(7,kI)])] h
theorem Db.ok (a:(Array Value)) (b:Int) (R:(Array Value)→Int→Bool→World→Prop) w (h:
 Nw 110 a w fun d c=>
 Nw 110 ⟨List.replicate 256 (.int .u8 0)⟩ c fun f e=>
 aa (decide (b<0))
 (Ld (.arr 256) ⟨d,0,none⟩ e fun g=>
 aq 256 ⟨f,0,none⟩ g e fun h=>
 Ld (.arr 256) ⟨f,0,none⟩ h fun i=>
 R i 0 false h)
 (aa (decide (b≥256))
 (Ld (.arr 256) ⟨d,0,none⟩ e fun j=>
 aq 256 ⟨f,0,none⟩ j e fun k=>
 Ld (.arr 256) ⟨f,0,none⟩ k fun l=>
 R l 0 false k)
 (ah e fun m=>
 Ld (.arr 256) ⟨d,0,none⟩ m fun n=>
 aC ⟨d,0,none⟩ 256 b 1 fun o=>
 Ld (az .u8) o m fun (p:Int)=>
 aq 256 ⟨f,0,none⟩ n m fun q=>
 ah q fun r=>
 bF (⟨some ⟨f,0,none⟩,256,256⟩:Sl) 1 (i64 (b+1)) 256 1 fun s=>
 bF (⟨some ⟨d,0,none⟩,256,256⟩:Sl) 0 b 256 1 fun t=>
 aw Pg (Builtin.copy_ #[26,26] 3 ⟨[(an s),(an t)]⟩) kI r fun (v:Int) u=>
 aC ⟨f,0,none⟩ 256 0 1 fun x=>
 St x (.int .u8 p) u fun y=>
 Ld (.arr 256) ⟨f,0,none⟩ y fun z=>
 aq 256 ⟨f,0,none⟩ z y fun a1=>
 Ld (.arr 256) ⟨f,0,none⟩ a1 fun b1=>
 R b1 p true a1))):Cl Pg [(.arr 256),(az .u8),kB] nw ⟨[(.agg a),(ni b)]⟩ w R:=co Tryz.f240 [] h
theorem DB.ok (R:(Array Value)→World→Prop) w (h:
 Nw 351 ⟨List.replicate 256 (ni 0)⟩ w fun b a=>
 gn 0 a fun c d (e:Int) f=>
 aa (decide (e<256))
 (aC ⟨b,0,none⟩ 256 e 1 fun g=>
 St g (ni 1) f fun h=>
 c (i64 (e+1)) h∧d (i64 (e+1)) h<d e f)
 (Ld (.arr 256) ⟨b,0,none⟩ f fun i=>
 aq 256 ⟨b,0,none⟩ i f fun j=>
 Ld (.arr 256) ⟨b,0,none⟩ j fun k=>
 R k j)):Cl Pg [(.arr 256)] mV ⟨[]⟩ w R:=co Tryz.f291 [(5,[(2,kI)])] h
end Go.Proofs.YtgglghjnakclmaaGreat
namespace Go.Proofs.YtgglghjnakclmaaGreat
open Go Go.Vc
set_option maxRecDepth 100000
theorem yr.ok (a:Int) (b:Int) (c:Int) (R:Int→Int→World→Prop) w (h:
 bg (fun (e:World)=>
 0≤b∧
 aa (decide ((i64 (a+(a9 .i64 (i64 ((1:Int)+c)) b)))>2147483647))
 (R 0 2 e)
 (R (i64 (a+(a9 .i64 (i64 ((1:Int)+c)) b))) 0 e)) fun d=>
 aa (decide (a<0))
 (R 0 2 w)
 (aa (decide (a>2147483647))
 (R 0 2 w)
 (aa (decide (b<0))
 (R 0 2 w)
 (aa (decide (b>30))
 (R 0 2 w)
 (aa (c !=0)
 (aa (c !=1)
 (R 0 2 w)
 (d w))
 (d w)))))):Cl Pg [kI,kI] gP ⟨[(ni a),(ni b),(ni c)]⟩ w R:=co Tryz.f238 [(2,[])] h
end Go.Proofs.YtgglghjnakclmaaGreat
set_option maxRecDepth 20000
namespace Go.Sym
open Go.Inc
def bu (L:List Nat) (p:Nat):List Nat:=L.getD p 0::L.eraseIdx p
theorem mP {L:List Nat} {p:Nat} (hp:p<L.length):(bu L p).Perm L:=by
 unfold bu
 have e:L.getD p 0=L[p]:=by simp [List.getD,hp]
 rw [e]
 rw [List.eraseIdx_eq_take_drop_succ]
 have h2:L.take p++L[p]::L.drop (p+1)=L:=by rw [List.getElem_cons_drop,List.take_append_drop]
 exact List.perm_middle.symm.trans (List.Perm.of_eq h2)
theorem A8 {L:List Nat} {p:Nat} (hp:p<L.length):(bu L p).length=L.length:=(mP hp).length_eq
def a7 (L:List Nat):Prop:=L.Perm (List.range 256)
theorem a7.len {L:List Nat} (h:a7 L):L.length=256:=by rw [h.length_eq,List.length_range]
theorem a7.mem {L:List Nat} (h:a7 L) {c:Nat}:c∈L↔c<256:=by rw [h.mem_iff,List.mem_range]
theorem a7.nodup {L:List Nat} (h:a7 L):L.Nodup:=h.nodup_iff.2 List.nodup_range
theorem a7.take {L:List Nat} (h:a7 L) {p:Nat} (hp:p<256):a7 (bu L p):=(mP (by rw [h.len];exact hp)).trans h
theorem a7.range:a7 (List.range 256):=List.Perm.refl _
theorem a7.get {L:List Nat} (h:a7 L) {p:Nat} (hp:p<256):L.getD p 0<256:=by
 have hl:=h.len
 have:L.getD p 0=L[p]:=by simp [List.getD,hl,hp]
 rw [this]
 exact h.mem.1 (List.getElem_mem _)
theorem a7.idx {L:List Nat} (h:a7 L) {c:Nat} (hc:c<256):L.idxOf c<256∧L.getD (L.idxOf c) 0=c:=by
 have hm:=h.mem.2 hc
 have hl:=h.len
 have h1:=List.idxOf_lt_length_of_mem hm
 refine ⟨by omega,?_⟩
 rw [List.getD,List.getElem?_eq_getElem h1,List.getElem_idxOf h1];rfl
theorem a7.kU {L:List Nat} (h:a7 L) {p:Nat} (hp:p<256):L.idxOf (L.getD p 0)=p:=by
 have hl:=h.len
 have e:L.getD p 0=L[p]:=by simp [List.getD,hl,hp]
 have h1:=h.idx (h.get hp)
 have e2:L[L.idxOf (L.getD p 0)]'(by omega)=L[p]:=by
  have:=h1.2
  rw [List.getD,List.getElem?_eq_getElem (by omega)] at this
  exact this.trans e
 exact (List.getElem_inj h.nodup).1 e2
def fJ (n:Nat):List Nat:=if _h:n=0 then [] else (n - 1) % 2::fJ ((n - 1)/2)
termination_by n
decreasing_by omega
theorem kD:fJ 0= []:=by rw [fJ];simp
theorem km {n:Nat} (h:0<n):fJ n=(n - 1) % 2::fJ ((n - 1)/2):=by rw [fJ,dif_neg (by omega)]
theorem yK (n:Nat): ∀d∈fJ n,d<2:=by
 induction n using Nat.strongRecOn with
 |ind n ih=>
  rcases Nat.eq_zero_or_pos n with e|e
  ·rw [e,kD];simp
  ·rw [km e]
   intro d hd
   rcases List.mem_cons.1 hd with h|h
   ·omega
   ·exact ih _ (by omega) d h
def cc:List Nat→Nat→List Nat→List Nat×List Nat×Nat
 |L,r,[]=>([],L,r)
 |L,r,c::b=>
  if L.idxOf c=0 then cc (bu L 0) (r+1) b
  else
   let x:=cc (bu L (L.idxOf c)) 0 b
   (fJ r++(L.idxOf c+1)::x.1,x.2)
def ch (L:List Nat) (r:Nat) (b:List Nat):List Nat:=(cc L r b).1++fJ (cc L r b).2.2++ [257]
def syms (b:List Nat):List Nat:=ch (List.range 256) 0 b
theorem il (L:List Nat) (r:Nat):ch L r []=fJ r++ [257]:=by simp [ch,cc]
theorem gH {L:List Nat} {r c:Nat} {b:List Nat} (h:L.idxOf c=0):ch L r (c::b)=ch (bu L 0) (r+1) b:=by
 unfold ch;rw [cc,if_pos h]
theorem iG {L:List Nat} {r c:Nat} {b:List Nat} (h:L.idxOf c≠0):ch L r (c::b)=fJ r++(L.idxOf c+1)::ch (bu L (L.idxOf c)) 0 b:=by
 unfold ch;rw [cc,if_neg h];simp
structure DS where
 L:List Nat
 left:Nat
 run:Nat
 digits:Nat
def bX (d:DS) (s:Nat):Option (DS×List Nat×Bool):=
 if s<2 then
  if d.run+(1+s)*2^d.digits≤d.left then some (⟨d.L,d.left,d.run+(1+s)*2^d.digits,d.digits+1⟩,[],false) else none
 else if s=257 then
  if d.run=d.left then some (⟨d.L,0,0,0⟩,List.replicate d.run (d.L.getD 0 0),true) else none
 else if d.run=d.left then none
 else some (⟨bu d.L (s - 1),d.left - (d.run+1),0,0⟩,List.replicate d.run (d.L.getD 0 0)++ [d.L.getD (s - 1) 0],false)
def gI (d:DS×List Nat) (s:Nat):vA (DS×List Nat) (List Nat) Nat:=match bX d.1 s with
 |none=> .bad 160
 |some (_,t,true)=> .fin (d.2++t)
 |some (d',t,false)=> .more (d',d.2++t)
theorem qB {d d':DS} {acc t:List Nat} {s:Nat} (h:bX d s=some (d',t,false)):gI (d,acc) s= .more (d',acc++t):=by unfold gI;rw [h]
theorem yz {d d':DS} {acc t:List Nat} {s:Nat} (h:bX d s=some (d',t,true)):gI (d,acc) s= .fin (acc++t):=by unfold gI;rw [h]
theorem Gj {d:DS} {acc:List Nat} {s:Nat} (h:bX d s=none):gI (d,acc) s= .bad 160:=by unfold gI;rw [h]
theorem wH (L:List Nat) (left:Nat) (acc rest:List Nat): ∀(n q k:Nat),q+n*2^k≤left→∃k',run gI (⟨L,left,q,k⟩,acc) (fJ n++rest)=run gI (⟨L,left,q+n*2^k,k'⟩,acc) rest:=by
 intro n
 induction n using Nat.strongRecOn with
 |ind n ih=>
  intro q k hle
  rcases Nat.eq_zero_or_pos n with e|e
  ·subst e
   exact ⟨k,by rw [kD];simp⟩
  ·rw [km e]
   have hs:(1+(n - 1) % 2)*2^k+(n - 1)/2*2^(k+1)=n*2^k:=by
    rw [Nat.pow_succ,Nat.mul_comm (2^k) 2,←Nat.mul_assoc,←Nat.add_mul]
    congr 1;omega
   obtain ⟨k',h⟩:=ih ((n - 1)/2) (by omega) (q+(1+(n - 1) % 2)*2^k) (k+1) (by omega)
   refine ⟨k',?_⟩
   have h1:bX ⟨L,left,q,k⟩ ((n - 1) % 2)=some (⟨L,left,q+(1+(n - 1) % 2)*2^k,k+1⟩,[],false):=by
    unfold bX
    simp only
    rw [if_pos (by omega),if_pos (by omega)]
   rw [List.cons_append,cG (qB h1),List.append_nil,h]
   congr 3
   omega
theorem nq {L:List Nat} (hL:a7 L) {c:Nat} (hc:c<256) (h:L.idxOf c=0):L.getD 0 0=c∧bu L 0=L:=by
 have:=(hL.idx hc).2
 rw [h] at this
 refine ⟨this,?_⟩
 unfold bu
 cases L with
 |nil=>have:=hL.len;simp at this
 |cons x L=>rfl
theorem oO: ∀(b L:List Nat) (r left:Nat) (acc rest:List Nat),a7 L→(∀x∈b,x<256)→left=r+b.length→
  run gI (⟨L,left,0,0⟩,acc) (ch L r b++rest)= .fin (acc++List.replicate r (L.getD 0 0)++b) rest
 | [],L,r,left,acc,rest,hL,_,hl=>by
  rw [il,List.append_assoc]
  obtain ⟨k',h⟩:=wH L left acc ([257]++rest) r 0 0 (by simp at hl;omega)
  rw [h]
  have h1:bX ⟨L,left,0+r*2^0,k'⟩ 257=some (⟨L,0,0,0⟩,List.replicate r (L.getD 0 0),true):=by
   unfold bX
   simp only [Nat.zero_add,Nat.pow_zero,Nat.mul_one]
   rw [if_neg (by decide),if_pos trivial,if_pos (by simp at hl;omega)]
  show run gI _ (257::rest)=_
  rw [sy (yz h1)]
  simp
 |c::b,L,r,left,acc,rest,hL,hb,hl=>by
  have hc:=hb c List.mem_cons_self
  have hb': ∀x∈b,x<256:=fun x hx=>hb x (List.mem_cons_of_mem _ hx)
  simp only [List.length_cons] at hl
  by_cases h0:L.idxOf c=0
  ·obtain ⟨e1,e2⟩:=nq hL hc h0
   rw [gH h0,e2,oO b L (r+1) left acc rest hL hb' (by omega),e1,List.replicate_succ']
   simp
  ·obtain ⟨i1,i2⟩:=hL.idx hc
   rw [iG h0,List.append_assoc]
   obtain ⟨k',h⟩:=wH L left acc ((L.idxOf c+1)::ch (bu L (L.idxOf c)) 0 b++rest) r 0 0 (by omega)
   rw [h]
   have h1:bX ⟨L,left,0+r*2^0,k'⟩ (L.idxOf c+1)=some (⟨bu L (L.idxOf c),left - (r+1),0,0⟩,List.replicate r (L.getD 0 0)++ [c],false):=by
    unfold bX
    simp only [Nat.zero_add,Nat.pow_zero,Nat.mul_one,Nat.add_sub_cancel,i2]
    rw [if_neg (by omega),if_neg (by omega),if_neg (by omega)]
   rw [List.cons_append,cG (qB h1)]
   rw [oO b (bu L (L.idxOf c)) 0 (left - (r+1)) _ rest (hL.take i1) hb' (by omega)]
   simp
theorem Cv {b:List Nat} (hb: ∀x∈b,x<256) (rest:List Nat):run gI (⟨List.range 256,b.length,0,0⟩,[]) (syms b++rest)= .fin b rest:=by
 unfold syms
 rw [oO b _ 0 b.length [] rest a7.range hb (by omega)]
 simp
theorem mh: ∀(b L:List Nat) (r:Nat),a7 L→(∀x∈b,x<256)→∀s∈ch L r b,s≤257
 | [],L,r,_,_=>fun s hs=>by
  rw [il] at hs
  rcases List.mem_append.1 hs with h|h
  ·have:=yK _ s h;omega
  ·rw [List.mem_singleton] at h;omega
 |c::b,L,r,hL,hb=>fun s hs=>by
  have hc:=hb c List.mem_cons_self
  have hb': ∀x∈b,x<256:=fun x hx=>hb x (List.mem_cons_of_mem _ hx)
  obtain ⟨i1,_⟩:=hL.idx hc
  by_cases h0:L.idxOf c=0
  ·rw [gH h0] at hs
   exact mh b _ (r+1) (hL.take (by decide)) hb' s hs
  ·rw [iG h0] at hs
   rcases List.mem_append.1 hs with h|h
   ·have:=yK _ s h;omega
   ·rcases List.mem_cons.1 h with h|h
    ·omega
    ·exact mh b _ 0 (hL.take i1) hb' s h
theorem oX {b:List Nat} (hb: ∀x∈b,x<256): ∀s∈syms b,s≤257:=mh b _ 0 a7.range hb
end Go.Sym
namespace Go.Vc
theorem yq {n:Nat} {f:Nat→Int}:(cK n f).toList.all ay=true:=by
 unfold cK
 rw [List.all_map]
 exact List.all_eq_true.2 fun _ _=>rfl
theorem ti {n:Nat}:cK n (fun _=>0)=⟨List.replicate n (.int .i64 0)⟩:=by
 unfold cK
 rw [List.map_const',List.length_range]
theorem qQ.row {n:Nat} {f g:Nat→Int} {K:Bool→Prop} (hK:K (((List.range n).map f)==((List.range n).map g))):qQ .i64 n (cK n f) (cK n g) K:=
 ⟨(List.range n).map f,(List.range n).map g,by simp [cK],by simp [cK],by simp,by simp,hK⟩
end Go.Vc
namespace Go.Proofs.YtgglghjnakclmaaGreat
open Go Go.Vc Go.Inc Go.Sym
abbrev aY (l:List Nat):List Value:=l.map fun (n:Nat)=>Value.int .u8 (n:Int)
theorem fe {L:List Nat} (h:L.length=256):(aY L).length=256:=by simp [h]
theorem bT {l:List Nat}:(aY l).all ay=true:=by
 unfold aY
 rw [List.all_map]
 exact List.all_eq_true.2 fun _ _=>rfl
section
variable {E w:World} {F:List HP}
theorem FW:Tryz.prog.underlying 26=some (.slice 5):=by kernel_rfl
theorem H7:(Tryz.prog.info? 5).map (·.size)=some 1:=by kernel_rfl
set_option maxRecDepth 20000
theorem Ig {K:Array Value→World→Prop} (h:Hp E w F) (hK: ∀w',Hp E w' F→K ⟨aY (List.range 256)⟩ w'):Cl Tryz.prog [.arr 256] n0 ⟨[]⟩ w K:=by
 refine Fs.ok _ _ ?_
 (try simp only [au,ak,al,Nat.zero_add,Nat.add_zero,Nat.reduceAdd,Bool.not_true,Bool.not_false,aH,aE,Option.isNone])
 refine Nw.mk h fun b2 w h=> ?_
 have hlen: ∀k,k≤256→(aY (List.range k++List.replicate (256 - k) 0)).length=256:=fun k hk=>by simp;omega
 refine ⟨fun i w'=> ∃k:Nat,i=(k:Int)∧k≤256∧Hp E w' (ao b2 (.cells ⟨aY (List.range k++List.replicate (256 - k) 0)⟩ 110 (0,0))::F),fun i _=>256 - i.toNat,⟨0,rfl,by omega,by
  have:(⟨aY (List.range 0++List.replicate (256 - 0) 0)⟩:Array Value)=⟨List.replicate 256 (.int .u8 0)⟩:=by simp
  rw [this];exact h⟩,?_⟩
 rintro i w ⟨k,rfl,hk,h⟩
 (first|refine aa.dm (fun hb=> ?_) (fun hb=> ?_)|refine aa.em (fun hb=> ?_) (fun hb=> ?_)|refine aa.nm (fun hb=> ?_) (fun hb=> ?_)|refine aa.mk (fun hb=> ?_) (fun hb=> ?_))
 ·refine ⟨by omega,by omega,?_⟩
  rw [show ((k:Int)).toNat*1=k by omega]
  (try simp only [au,ak,al,Nat.zero_add,Nat.add_zero,Nat.reduceAdd,Bool.not_true,Bool.not_false,aH,aE,Option.isNone])
  have hk:=hlen k (by omega)
  refine St.xb h (by simp;omega) rfl fun w h=> ?_
  rw [aj (by omega)]
  refine ⟨⟨k+1,rfl,by omega,?_⟩,by omega⟩
  have e:(⟨aY (List.range k++List.replicate (256 - k) 0)⟩:Array Value).setIfInBounds k (.int .u8 (u8 (k:Int)))=⟨aY (List.range (k+1)++List.replicate (256 - (k+1)) 0)⟩:=by
   rw [ec (by omega)]
   apply Array.ext'
   rw [Array.toList_setIfInBounds]
   have:(aY (List.range k++List.replicate (256 - k) 0)).set k (.int .u8 (k:Int))=aY ((List.range k++List.replicate (256 - k) 0).set k k):=by rw [aY,aY,List.map_set]
   rw [this,List.set_append_right _ _ (by simp),List.length_range,Nat.sub_self]
   obtain ⟨m,hm⟩: ∃m,256 - k=m+1:=⟨255 - k,by omega⟩
   rw [hm,List.replicate_succ,List.set_cons_zero,List.range_succ,show 256 - (k+1)=m by omega]
   simp
  rw [e] at h
  exact h
 ·have hk2:k=256:=by omega
  subst hk2
  have e:(⟨aY (List.range 256++List.replicate (256 - 256) 0)⟩:Array Value)=⟨aY (List.range 256)⟩:=by simp
  rw [e] at h
  have hn:(⟨aY (List.range 256)⟩:Array Value).size=256:=by simp
  refine Ld.xw h hn ?_
  refine aq.q h hn hn bT fun w h=> ?_
  exact Ld.xw h hn (hK _ h.tl)
theorem HU {K:Array Value→World→Prop} (h:Hp E w F) (hK: ∀w',Hp E w' F→K (cK 256 fun _=>1) w'):Cl Tryz.prog [.arr 256] mV ⟨[]⟩ w K:=by
 refine DB.ok _ _ ?_
 (try simp only [au,ak,al,Nat.zero_add,Nat.add_zero,Nat.reduceAdd,Bool.not_true,Bool.not_false,aH,aE,Option.isNone])
 refine Nw.mk h fun b2 w h=> ?_
 refine ⟨fun i w'=> ∃k:Nat,i=(k:Int)∧k≤256∧Hp E w' (ao b2 (.cells (cK 256 fun j=>if j<k then 1 else 0) 351 (0,0))::F),fun i _=>256 - i.toNat,⟨0,rfl,by omega,by
  rw [eR (g:=fun _=>0) (fun i _=>by simp),ti];exact h⟩,?_⟩
 rintro i w ⟨k,rfl,hk,h⟩
 (first|refine aa.dm (fun hb=> ?_) (fun hb=> ?_)|refine aa.em (fun hb=> ?_) (fun hb=> ?_)|refine aa.nm (fun hb=> ?_) (fun hb=> ?_)|refine aa.mk (fun hb=> ?_) (fun hb=> ?_))
 ·refine ⟨by omega,by omega,?_⟩
  rw [show ((k:Int)).toNat*1=k by omega]
  (try simp only [au,ak,al,Nat.zero_add,Nat.add_zero,Nat.reduceAdd,Bool.not_true,Bool.not_false,aH,aE,Option.isNone])
  refine St.xb h (by rw [cN];omega) rfl fun w h=> ?_
  rw [aj (by omega)]
  refine ⟨⟨k+1,rfl,by omega,?_⟩,by omega⟩
  rw [ns] at h
  rw [eR (g:=fun j=>if j<k+1 then 1 else 0) (fun i _=>by
   by_cases h1:i=k
   ·subst h1;simp
   ·by_cases h2:i<k
    ·simp [h1,h2];omega
    ·simp [h1,h2];omega)] at h
  exact h
 ·have hk2:k=256:=by omega
  subst hk2
  rw [eR (g:=fun _=>1) (fun i hi=>by simp [hi])] at h
  refine Ld.xw h cN ?_
  refine aq.q h cN cN yq fun w h=> ?_
  exact Ld.xw h cN (hK _ h.tl)
theorem Cw {L:List Nat} {K:Bool→World→Prop} (h:Hp E w F) (hL:a7 L) (hK: ∀w',Hp E w' F→K true w'):Cl Tryz.prog [kB] lX ⟨[.agg ⟨aY L⟩]⟩ w K:=by
 have hl:=hL.len
 have hlt: ∀x∈L,x<256:=fun x hx=>by simpa using hL.mem_iff.1 hx
 refine BF.ok _ _ _ ?_
 (try simp only [au,ak,al,Nat.zero_add,Nat.add_zero,Nat.reduceAdd,Bool.not_true,Bool.not_false,aH,aE,Option.isNone])
 have hn:(⟨aY L⟩:Array Value).size=256:=by simp [hl]
 refine Nw.mk h fun b3 w h=>Nw.mk h fun b5 w h=>Ld.xw h hn ?_
 refine ⟨fun i w'=> ∃k:Nat,i=(k:Int)∧k≤256∧Hp E w' (ao b5 (.cells (cK 256 fun j=>if j∈L.take k then 1 else 0) 351 (0,0))::ao b3 (.cells ⟨aY L⟩ 110 (0,0))::F),fun i _=>256 - i.toNat,⟨0,rfl,by omega,by
  rw [eR (g:=fun _=>0) (fun i _=>by simp),ti];exact h⟩,?_⟩
 rintro i w ⟨k,rfl,hk,h⟩
 (first|refine aa.dm (fun hb=> ?_) (fun hb=> ?_)|refine aa.em (fun hb=> ?_) (fun hb=> ?_)|refine aa.nm (fun hb=> ?_) (fun hb=> ?_)|refine aa.mk (fun hb=> ?_) (fun hb=> ?_))
 ·have hkl:k<L.length:=by omega
  refine gk.rd (s:= .int .u8) (by omega) (by omega) (L[k]:Int) ?_ ?_
  ·simp [hkl]
  have hx:=hlt _ (List.getElem_mem hkl)
  refine ⟨by omega,by omega,?_⟩
  rw [show ((L[k]:Int)).toNat*1=L[k] by omega]
  (try simp only [au,ak,al,Nat.zero_add,Nat.add_zero,Nat.reduceAdd,Bool.not_true,Bool.not_false,aH,aE,Option.isNone])
  refine St.xb h (by rw [cN];omega) rfl fun w h=> ?_
  rw [aj (by omega)]
  refine ⟨⟨k+1,rfl,by omega,?_⟩,by omega⟩
  rw [ns] at h
  rw [eR (g:=fun j=>if j∈L.take (k+1) then 1 else 0) (fun i _=>by
   have hmem:i∈L.take (k+1)↔i∈L.take k∨i=L[k]:=by
    rw [List.take_add_one,List.getElem?_eq_getElem hkl,List.mem_append]
    exact or_congr Iff.rfl List.mem_singleton
   by_cases h1:i=L[k]
   ·rw [if_pos h1,if_pos (hmem.2 (.inr h1))]
   ·rw [if_neg h1]
    by_cases h2:i∈L.take k
    ·rw [if_pos h2,if_pos (hmem.2 (.inl h2))]
    ·rw [if_neg h2,if_neg (fun hh=>(hmem.1 hh).elim h2 h1)])] at h
  exact h
 ·have hk2:k=256:=by omega
  subst hk2
  rw [eR (g:=fun _=>1) (fun i hi=>by
   rw [List.take_of_length_le (by omega),if_pos]
   exact hL.mem_iff.2 (by simpa using hi))] at h
  have h:=h.drew (n:=w.drawn+1)
  refine ⟨cq b5 _ _ _,h.hb,?_⟩
  dsimp only
  refine ad.xw (fun _ h=>h) cN ?_
  refine HU h fun w h=>⟨h.hb,?_⟩
  refine qQ.row ?_
  rw [beq_self_eq_true]
  exact hK _ h.tl
theorem DO {L:List Nat} {p:Nat} (hl:L.length=256) (hp:p<256):((aY L).take 1++((aY (L.take p)).take p++(aY L).drop (1+min (aY (L.take p)).length p))).set 0 (.int .u8 (L.getD p 0:Int))=aY (bu L p):=by
 have e1:(aY (L.take p)).length=p:=by simp;omega
 rw [e1,Nat.min_self,List.take_of_length_le (l:=aY (L.take p)) (by omega),Nat.add_comm 1 p]
 unfold bu
 rw [List.eraseIdx_eq_take_drop_succ]
 cases L with
 |nil=>simp at hl
 |cons a L=>simp [aY,List.map_take,List.map_drop]
theorem FH {L:List Nat} {p:Nat} {K:Array Value→Int→Bool→World→Prop} (h:Hp E w F) (hl:L.length=256) (hp:p<256) (hK: ∀w',Hp E w' F→K ⟨aY (bu L p)⟩ (L.getD p 0:Int) true w'):
  Cl Tryz.prog [.arr 256,az .u8,kB] nw ⟨[.agg ⟨aY L⟩,.int .i64 (p:Int)]⟩ w K:=by
 refine Db.ok _ _ _ _ ?_
 (try simp only [au,ak,al,Nat.zero_add,Nat.add_zero,Nat.reduceAdd,Bool.not_true,Bool.not_false,aH,aE,Option.isNone])
 have hn:(⟨aY L⟩:Array Value).size=256:=by simp [hl]
 have hz:(⟨List.replicate 256 (.int .u8 0)⟩:Array Value).size=256:=by simp
 have hpl:p<L.length:=by omega
 refine Nw.mk h fun b4 w h=>Nw.mk h fun b6 w h=> ?_
 (with_reducible repeat first|refine Nw.mk h fun b w h=> ?_|refine ah.mk h fun w h=> ?_|refine Ld.q h hL rfl rfl ?_|refine ad.q (fun _ h=>h) hL rfl rfl ?_|refine Ld.p h hL ?_|refine ad.p (fun _ h=>h) hL ?_|refine Ld.qw h hL rfl ?_|refine ad.qw (fun _ h=>h) hL rfl ?_|refine ⟨h.hb,?_⟩|(refine St.q h hL rfl rfl rfl fun w h=> ?_;dsimp only [af,ab] at h)|refine aa.yes ?_|refine aa.no ?_|refine ⟨by first|omega|decide,?_⟩)
 refine Ld.xw h hn ?_
 refine ⟨by omega,by omega,?_⟩
 rw [show ((p:Int)).toNat*1=p by omega]
 (try simp only [au,ak,al,Nat.zero_add,Nat.add_zero,Nat.reduceAdd,Bool.not_true,Bool.not_false,aH,aE,Option.isNone])
 refine Ld.xb (x:=(L.getD p 0:Int)) h ?_ ?_
 ·simp [List.getD_eq_getElem?_getD,hpl]
 refine aq.q h hz hn bT fun w h=>ah.mk h fun w h=> ?_
 rw [aj (by omega)]
 refine ⟨by omega,by omega,by omega,by simp,?_⟩
 rw [if_neg (by simp),show (1:Int).toNat*1=1 by decide,show ((p:Int)+1).toNat - (1:Int).toNat=p by omega,show (256:Int).toNat - (1:Int).toNat=255 by decide]
 refine ⟨by omega,by omega,by omega,by simp,?_⟩
 rw [if_neg (by decide),show (0:Int).toNat*1=0 by decide,show ((p:Int)).toNat - (0:Int).toNat=p by omega,show (256:Int).toNat - (0:Int).toNat=256 by decide]
 simp only [Option.map_some,al,Nat.zero_add]
 have hsrc:aG 1 ⟨some ⟨b4,0,none⟩,p,256⟩ (aY (L.take p)) w:=by
  refine ⟨by simp;omega,fun i hi=>⟨⟨b4,0,none⟩,rfl,?_⟩⟩
  rw [al,h.fc]
  simp at hi⊢
  simp [show i<L.length by omega]
 refine oK (ys:=aY (L.take p)) FW H7 h hsrc (List.all_eq_true.1 bT) (by rw [hn];dsimp only;omega) fun w h=> ?_
 refine ⟨by omega,by omega,?_⟩
 rw [show ((0:Int)).toNat*1=0 by decide]
 (try simp only [au,ak,al,Nat.zero_add,Nat.add_zero,Nat.reduceAdd,Bool.not_true,Bool.not_false,aH,aE,Option.isNone])
 refine St.xb h (by simp;omega) rfl fun w h=> ?_
 have e:(⟨(⟨aY L⟩:Array Value).toList.take 1++((aY (L.take p)).take p++(⟨aY L⟩:Array Value).toList.drop (1+min (aY (L.take p)).length p))⟩:Array Value).setIfInBounds 0 (.int .u8 (L.getD p 0:Int))=⟨aY (bu L p)⟩:=by
  apply Array.ext'
  rw [Array.toList_setIfInBounds]
  exact DO hl hp
 rw [e] at h
 have hm:(⟨aY (bu L p)⟩:Array Value).size=256:=by
  have:(bu L p).length=256:=by unfold bu;simp [List.length_eraseIdx,hpl];omega
  simp [this]
 refine Ld.xw h hm ?_
 refine aq.q h hm hm bT fun w h=> ?_
 exact Ld.xw h hm (hK _ h.tl)
theorem Hz {n many d:Nat} {K:Int→Int→World→Prop} (hn:n≤65536) (hm:many≤16) (hd:d≤1) (hK:K ((n+(1+d)*2^many:Nat):Int) 0 w):
  Cl Tryz.prog [kI,kI] gP ⟨[.int .i64 (n:Int),.int .i64 (many:Int),.int .i64 (d:Int)]⟩ w K:=by
 have hp:2^many≤65536:=Nat.pow_le_pow_right (n:=2) (by decide) hm
 have hpp:=Nat.two_pow_pos many
 have hb:(1+d)*2^many≤131072:=by
  have:=Nat.mul_le_mul (show 1+d≤2 by omega) hp
  omega
 refine yr.ok _ _ _ _ _ ?_
 have fin:0≤(many:Int)∧aa (decide (i64 ((n:Int)+a9 .i64 (i64 (1+(d:Int))) (many:Int))>2147483647)) (K 0 2 w) (K (i64 ((n:Int)+a9 .i64 (i64 (1+(d:Int))) (many:Int))) 0 w):=by
  refine ⟨by omega,?_⟩
  have hmx:IntKind.max .i64=9223372036854775807:=rfl
  rw [aj (x:=1+(d:Int)) (by omega),show 1+(d:Int)=((1+d:Nat):Int) by omega,cW (k:= .i64) (by have:IntKind.bits .i64=64:=rfl;omega) (by rw [hmx];omega),aj (by omega)]
  exact aa.df (by omega) (by rw [←Int.natCast_add];exact hK)
 (try simp only [au,ak,al,Nat.zero_add,Nat.add_zero,Nat.reduceAdd,Bool.not_true,Bool.not_false,aH,aE,Option.isNone])
 refine aa.df (by omega) (aa.df (by omega) (aa.df (by omega) (aa.df (by omega) ?_)))
 by_cases h0:d=0
 ·exact aa.nf (by omega) fin
 ·exact aa.nt (by omega) (aa.nf (by omega) fin)
end
end Go.Proofs.YtgglghjnakclmaaGreat
namespace Go.Sym
def jA (d:DS):Prop:=a7 d.L∧d.left≤65536∧d.run≤d.left∧2^d.digits - 1≤d.run∧d.run≤2*(2^d.digits - 1)
theorem jA.fJ {d:DS} (h:jA d):d.digits≤16:=by
 obtain ⟨_,h2,h3,h4,_⟩:=h
 rcases Nat.lt_or_ge d.digits 17 with hh|hh
 ·omega
 ·have:2^17≤2^d.digits:=Nat.pow_le_pow_right (by decide) hh
  omega
set_option maxRecDepth 20000 in
theorem jA.zero {m:Nat} (hm:m≤65536):jA ⟨List.range 256,m,0,0⟩:=⟨.range,hm,by simp,by simp,by simp⟩
theorem zq {d d':DS} {s:Nat} {t:List Nat} (h:jA d) (hs:s<258) (he:bX d s=some (d',t,false)):jA d'∧(∀x∈t,x<256)∧t.length+d'.left≤d.left:=by
 obtain ⟨L,left,run,digits⟩:=d
 obtain ⟨h1,h2,h3,h4,h5⟩:=h
 unfold bX at he
 dsimp only at h1 h2 h3 h4 h5 he
 split at he
 ·split at he
  ·rename_i hs2 hle
   simp only [Option.some.injEq,Prod.mk.injEq] at he
   obtain ⟨rfl,rfl,_⟩:=he
   have hp:=Nat.two_pow_pos digits
   refine ⟨⟨h1,h2,hle,?_,?_⟩,by simp,by simp⟩
   ·dsimp only
    rw [Nat.pow_succ]
    have:=Nat.mul_le_mul_right (2^digits) (show 1≤1+s by omega)
    omega
   ·dsimp only
    rw [Nat.pow_succ]
    have:=Nat.mul_le_mul_right (2^digits) (show 1+s≤2 by omega)
    omega
  ·cases he
 ·split at he
  ·split at he
   ·simp at he
   ·cases he
  ·split at he
   ·cases he
   ·rename_i hs2 hs3 hne
    simp only [Option.some.injEq,Prod.mk.injEq] at he
    obtain ⟨rfl,rfl,_⟩:=he
    refine ⟨⟨h1.take (by omega),by dsimp only;omega,by simp,by simp,by simp⟩,?_,?_⟩
    ·intro x hx
     rcases List.mem_append.1 hx with hx|hx
     ·rw [(List.mem_replicate.1 hx).2];exact h1.get (by omega)
     ·rw [List.mem_singleton] at hx;rw [hx];exact h1.get (by omega)
    ·simp;omega
theorem Eu {d d':DS} {s:Nat} {t:List Nat} (h:jA d) (he:bX d s=some (d',t,true)):(∀x∈t,x<256)∧t.length≤d.left:=by
 obtain ⟨L,left,run,digits⟩:=d
 obtain ⟨h1,h2,h3,h4,h5⟩:=h
 unfold bX at he
 dsimp only at h1 h2 h3 h4 h5 he
 split at he
 ·split at he
  ·simp at he
  ·cases he
 ·split at he
  ·split at he
   ·simp only [Option.some.injEq,Prod.mk.injEq] at he
    obtain ⟨rfl,rfl,_⟩:=he
    refine ⟨fun x hx=> ?_,by simp;omega⟩
    rw [(List.mem_replicate.1 hx).2];exact h1.get (by omega)
   ·cases he
  ·split at he
   ·cases he
   ·simp at he
end Go.Sym
namespace Go.Proofs.YtgglghjnakclmaaGreat
open Go Go.Vc Go.Inc Go.Sym
abbrev fP (L:List Nat) (left run digits:Int) (d:Bool):Array Value:=⟨aY L++ [.int .i64 left,.int .i64 run,.int .i64 digits,.bool d]⟩
theorem bk {L:List Nat} {a b c:Int} {d:Bool}:(fP L a b c d).toList.all ay=true:=by
 unfold fP
 rw [List.all_append,bT]
 rfl
theorem aV {L:List Nat} {a b c:Int} {d:Bool} (h:L.length=256):(fP L a b c d).size=260:=by simp [h]
section
variable {E w:World} {F:List HP}
theorem Cu:bZ Tryz.prog 26 5 1 1:=bZ.of (by kernel_rfl) (by kernel_rfl)
abbrev zv:Nat→Option (Nat×Nat):=(#[(0,256),(256,1),(257,1),(258,1),(259,1)][·]?)
theorem wF (ps:List (Nat×Value)):Tryz.prog.built 112 ps=Instr.fill zv ⟨List.replicate 256 (.int .u8 0)++ [.int .i64 0,.int .i64 0,.int .i64 0,.bool false]⟩ ps:=by kernel_rfl
theorem wA {L:List Nat} (hl:L.length=256) (rest:List (Nat×Value)):Instr.fill zv ⟨List.replicate 256 (.int .u8 0)++ [.int .i64 0,.int .i64 0,.int .i64 0,.bool false]⟩ ((0,.agg ⟨aY L⟩)::rest)=Instr.fill zv (fP L 0 0 0 false) rest:=by
 have:=fD (place:=zv) (i:=0) (v:= .agg ⟨aY L⟩) (rest:=rest) (pre:= []) (mid:=List.replicate 256 (.int .u8 0)) (post:= [.int .i64 0,.int .i64 0,.int .i64 0,.bool false]) rfl rfl List.length_replicate (by show (⟨aY L⟩:Array Value).size=_;simp [hl])
 exact this
theorem cd.Jg {L:List Nat} {m:Int} {K:Array Value→Prop} (hl:L.length=256) (hK:K (fP L m 0 0 false)):cd Tryz.prog 112 [(0,.agg ⟨aY L⟩),(1,.int .i64 m)] K:=by
 refine ⟨_,?_,hK⟩
 rw [wF,wA hl]
 have:=fD (place:=zv) (i:=1) (v:= .int .i64 m) (rest:= []) (pre:=aY L) (mid:= [.int .i64 0]) (post:= [.int .i64 0,.int .i64 0,.bool false]) rfl (by simp [hl]) rfl rfl
 unfold fP
 rw [show aY L++ [.int .i64 (0:Int),.int .i64 0,.int .i64 0,.bool false]=aY L++ [.int .i64 0]++ [.int .i64 0,.int .i64 0,.bool false] by simp,this]
 simp [Value.cells,Instr.fill]
theorem cd.Kh {L:List Nat} {K:Array Value→Prop} (hl:L.length=256) (hK:K (fP L 0 0 0 true)):cd Tryz.prog 112 [(0,.agg ⟨aY L⟩),(4,.bool true)] K:=by
 refine ⟨_,?_,hK⟩
 rw [wF,wA hl]
 have:=fD (place:=zv) (i:=4) (v:= .bool true) (rest:= []) (pre:=aY L++ [.int .i64 0,.int .i64 0,.int .i64 0]) (mid:= [.bool false]) (post:= []) rfl (by simp [hl]) rfl rfl
 unfold fP
 rw [show aY L++ [.int .i64 (0:Int),.int .i64 0,.int .i64 0,.bool false]=aY L++ [.int .i64 0,.int .i64 0,.int .i64 0]++ [.bool false]++ [] by simp,this]
 simp [Value.cells,Instr.fill]
set_option maxRecDepth 20000
theorem Ge {m:Nat} {K:Array Value→World→Prop} (h:Hp E w F) (hm:1≤m) (hm2:m≤65536) (hK: ∀w',Hp E w' F→K (fP (List.range 256) (m:Int) 0 0 false) w'):Cl Tryz.prog [.arr 260] kR ⟨[.int .i64 (m:Int)]⟩ w K:=by
 refine AH.ok _ _ _ ?_
 (try simp only [au,ak,al,Nat.zero_add,Nat.add_zero,Nat.reduceAdd,Bool.not_true,Bool.not_false,aH,aE,Option.isNone])
 refine Nw.mk h fun b3 w h=>aa.df (by omega) (aa.df (by omega) ?_)
 refine Ig h fun w h=>cd.Jg (by simp) ?_
 have hz:(⟨List.replicate 256 (.int .u8 0)++ [.int .i64 0,.int .i64 0,.int .i64 0,.bool false]⟩:Array Value).size=260:=by simp
 have hd:(fP (List.range 256) (m:Int) 0 0 false).size=260:=aV (by simp)
 refine aq.q h hz hd bk fun w h=> ?_
 exact Ld.xw h hd (hK _ h.tl)
theorem CO {d:DS} {K:Bool→World→Prop} (h:Hp E w F) (hd:jA d) (hK: ∀w',Hp E w' F→K true w'):Cl Tryz.prog [kB] iZ ⟨[.agg (fP d.L (d.left:Int) (d.run:Int) (d.digits:Int) false)]⟩ w K:=by
 have hdig:=hd.fJ
 obtain ⟨L,left,run,digits⟩:=d
 obtain ⟨h1,h2,h3,h4,h5⟩:=hd
 dsimp only at h1 h2 h3 h4 h5 hdig⊢
 have hL:=fe h1.len
 refine xl.ok _ _ _ ?_
 have hp:2^digits≤65536:=Nat.pow_le_pow_right (n:=2) (by decide) hdig
 have hpp:=Nat.two_pow_pos digits
 have e1:i64 (a9 .i64 1 (digits:Int) - 1)=((2^digits - 1:Nat):Int):=by
  have hmx:IntKind.max .i64=9223372036854775807:=rfl
  have:=cW (k:= .i64) (a:=1) (b:=digits) (by have:IntKind.bits .i64=64:=rfl;omega) (by rw [hmx];omega)
  have e0:a9 .i64 1 (digits:Int)=((2^digits:Nat):Int):=by simpa using this
  rw [e0,aj (by omega)];omega
 (try simp only [au,ak,al,Nat.zero_add,Nat.add_zero,Nat.reduceAdd,Bool.not_true,Bool.not_false,aH,aE,Option.isNone])
 (with_reducible repeat first|refine Nw.mk h fun b w h=> ?_|refine ah.mk h fun w h=> ?_|refine Ld.q h hL rfl rfl ?_|refine ad.q (fun _ h=>h) hL rfl rfl ?_|refine Ld.p h hL ?_|refine ad.p (fun _ h=>h) hL ?_|refine Ld.qw h hL rfl ?_|refine ad.qw (fun _ h=>h) hL rfl ?_|refine ⟨h.hb,?_⟩|(refine St.q h hL rfl rfl rfl fun w h=> ?_;dsimp only [af,ab] at h)|refine aa.yes ?_|refine aa.no ?_|refine ⟨by first|omega|decide,?_⟩)
 refine Cw h h1 fun w h=> ?_
 (with_reducible repeat first|refine Nw.mk h fun b w h=> ?_|refine ah.mk h fun w h=> ?_|refine Ld.q h hL rfl rfl ?_|refine ad.q (fun _ h=>h) hL rfl rfl ?_|refine Ld.p h hL ?_|refine ad.p (fun _ h=>h) hL ?_|refine Ld.qw h hL rfl ?_|refine ad.qw (fun _ h=>h) hL rfl ?_|refine ⟨h.hb,?_⟩|(refine St.q h hL rfl rfl rfl fun w h=> ?_;dsimp only [af,ab] at h)|refine aa.yes ?_|refine aa.no ?_|refine ⟨by first|omega|decide,?_⟩)
 rw [e1]
 (with_reducible repeat first|refine Nw.mk h fun b w h=> ?_|refine ah.mk h fun w h=> ?_|refine Ld.q h hL rfl rfl ?_|refine ad.q (fun _ h=>h) hL rfl rfl ?_|refine Ld.p h hL ?_|refine ad.p (fun _ h=>h) hL ?_|refine Ld.qw h hL rfl ?_|refine ad.qw (fun _ h=>h) hL rfl ?_|refine ⟨h.hb,?_⟩|(refine St.q h hL rfl rfl rfl fun w h=> ?_;dsimp only [af,ab] at h)|refine aa.yes ?_|refine aa.no ?_|refine ⟨by first|omega|decide,?_⟩)
 rw [aj (by omega)]
 (with_reducible repeat first|refine Nw.mk h fun b w h=> ?_|refine ah.mk h fun w h=> ?_|refine Ld.q h hL rfl rfl ?_|refine ad.q (fun _ h=>h) hL rfl rfl ?_|refine Ld.p h hL ?_|refine ad.p (fun _ h=>h) hL ?_|refine Ld.qw h hL rfl ?_|refine ad.qw (fun _ h=>h) hL rfl ?_|refine ⟨h.hb,?_⟩|(refine St.q h hL rfl rfl rfl fun w h=> ?_;dsimp only [af,ab] at h)|refine aa.yes ?_|refine aa.no ?_|refine ⟨by first|omega|decide,?_⟩)
 exact hK _ h.tl
theorem za {L:List Nat} {left digits:Int} {run:Nat} {d:Bool} {K:Sl→World→Prop} (h:Hp E w F) (hl:L.length=256) (hr:run≤65536) (hK: ∀s' w',Hp E w' (aA 1 s' ((List.replicate run (L.getD 0 0)).map vB)::F)→K s' w'):
  Cl Tryz.prog [kS] iw ⟨[.agg (fP L left (run:Int) digits d)]⟩ w K:=by
 have hL:=fe hl
 refine z0.ok _ _ _ ?_
 (try simp only [au,ak,al,Nat.zero_add,Nat.add_zero,Nat.reduceAdd,Bool.not_true,Bool.not_false,aH,aE,Option.isNone])
 (with_reducible repeat first|refine Nw.mk h fun b w h=> ?_|refine ah.mk h fun w h=> ?_|refine Ld.q h hL rfl rfl ?_|refine ad.q (fun _ h=>h) hL rfl rfl ?_|refine Ld.p h hL ?_|refine ad.p (fun _ h=>h) hL ?_|refine Ld.qw h hL rfl ?_|refine ad.qw (fun _ h=>h) hL rfl ?_|refine ⟨h.hb,?_⟩|(refine St.q h hL rfl rfl rfl fun w h=> ?_;dsimp only [af,ab] at h)|refine aa.yes ?_|refine aa.no ?_|refine ⟨by first|omega|decide,?_⟩)
 refine ⟨by omega,by omega,by omega,by simp,?_⟩
 rw [if_neg (by decide)]
 simp only [Option.map_some,al,show (0:Int).toNat=0 from rfl,Nat.zero_mul,Nat.zero_add,show (1:Int).toNat=1 from rfl,show (256:Int).toNat=256 from rfl,Nat.sub_zero]
 (with_reducible repeat first|refine Nw.mk h fun b w h=> ?_|refine ah.mk h fun w h=> ?_|refine Ld.q h hL rfl rfl ?_|refine ad.q (fun _ h=>h) hL rfl rfl ?_|refine Ld.p h hL ?_|refine ad.p (fun _ h=>h) hL ?_|refine Ld.qw h hL rfl ?_|refine ad.qw (fun _ h=>h) hL rfl ?_|refine ⟨h.hb,?_⟩|(refine St.q h hL rfl rfl rfl fun w h=> ?_;dsimp only [af,ab] at h)|refine aa.yes ?_|refine aa.no ?_|refine ⟨by first|omega|decide,?_⟩)
 refine C0 (s:=⟨some ⟨b,0,none⟩,1,256⟩) (c:=L.getD 0 0) h ?_ hr fun s' w h=>hK _ _ (h.at 1).drop
 rintro w' f a ⟨g,k,hd,rfl,rfl,h2⟩
 refine ⟨rfl,fun i hi=>⟨⟨b,0,none⟩,rfl,?_⟩⟩
 have:w'.heap[b]? =some (.cells (fP L left (run:Int) digits d) 112 (0,0)):=a b _ (by simp [aM.add,aM.one])
 simp only [List.length_singleton] at hi
 have hi0:i=0:=by omega
 subst hi0
 rw [al]
 simp only [World.cell?,this]
 simp [List.getElem?_append,hl,List.getD_eq_getElem?_getD]
theorem Ef {d:DS} {s:Nat} {K:Array Value→Sl→Bool→World→Prop} (h:Hp E w F) (hd:jA d) (hs:s<258)
  (hn: ∀o sl w',bX d s=none→o.size=260→o.toList.all ay=true→Hp E w' F→K o sl false w')
  (hm: ∀d' t sl w',bX d s=some (d',t,false)→Hp E w' (aA 1 sl (t.map vB)::F)→K (fP d'.L (d'.left:Int) (d'.run:Int) (d'.digits:Int) false) sl true w')
  (he: ∀d' t sl w',bX d s=some (d',t,true)→Hp E w' (aA 1 sl (t.map vB)::F)→K (fP d.L 0 0 0 true) sl true w'):
  Cl Tryz.prog [.arr 260,kS,kB] jM ⟨[.agg (fP d.L (d.left:Int) (d.run:Int) (d.digits:Int) false),.int .i64 (s:Int)]⟩ w K:=by
 have hdig:=hd.fJ
 obtain ⟨L,left,run,digits⟩:=d
 obtain ⟨h1,h2,h3,h4,h5⟩:=hd
 unfold bX at hn hm he
 dsimp only at h1 h2 h3 h4 h5 hdig hn hm he⊢
 have hl:=h1.len
 have hL:=fe hl
 have hz:(⟨List.replicate 256 (.int .u8 0)++ [.int .i64 0,.int .i64 0,.int .i64 0,.bool false]⟩:Array Value).size=260:=by simp
 have hp:2^digits≤65536:=Nat.pow_le_pow_right (n:=2) (by decide) hdig
 refine yg.ok _ _ _ _ ?_
 (try simp only [au,ak,al,Nat.zero_add,Nat.add_zero,Nat.reduceAdd,Bool.not_true,Bool.not_false,aH,aE,Option.isNone])
 refine Nw.mk h fun b4 w h=>Nw.mk h fun b6 w h=> ?_
 by_cases hs2:s<2
 ·simp only [if_pos hs2] at hn hm he
  have hb:(1+s)*2^digits≤131072:=by
   have:=Nat.mul_le_mul (show 1+s≤2 by omega) hp
   omega
  have fin: ∀w,Hp E w (ao b6 (.cells ⟨List.replicate 256 (.int .u8 0)++ [.int .i64 0,.int .i64 0,.int .i64 0,.bool false]⟩ 112 (0,0))::ao b4 (.cells (fP L (left:Int) (run:Int) (digits:Int) false) 112 (0,0))::F)→
   Ld kI ⟨b4,257,none⟩ w fun (Run10:Int)=>Ld kI ⟨b4,258,none⟩ w fun (Digits11:Int)=>
   Cl Tryz.prog [kI,kI] gP ⟨[.int .i64 Run10,.int .i64 Digits11,.int .i64 (s:Int)]⟩ w fun r13 _ w_12=>
   St ⟨b4,257,none⟩ (.int .i64 r13) w_12 fun w_15=>Ld kI ⟨b4,258,none⟩ w_15 fun (Digits16:Int)=>St ⟨b4,258,none⟩ (.int .i64 (i64 (Digits16+1))) w_15 fun w_17=>
   fC w_17 fun S18 w_19=>ad (.arr 260) ⟨b4,0,none⟩ S18 fun x20=>ad kI ⟨b4,257,none⟩ S18 fun (Run21:Int)=>ad kI ⟨b4,256,none⟩ S18 fun (Left22:Int)=>
   aq 260 ⟨b6,0,none⟩ x20 w_19 fun w_23=>S18 w_23∧Ld (.arr 260) ⟨b6,0,none⟩ w_23 fun res24=>K res24 ⟨none,0,0⟩ (decide (Run21≤Left22)) w_23:=by
   intro w h
   (with_reducible repeat first|refine Nw.mk h fun b w h=> ?_|refine ah.mk h fun w h=> ?_|refine Ld.q h hL rfl rfl ?_|refine ad.q (fun _ h=>h) hL rfl rfl ?_|refine Ld.p h hL ?_|refine ad.p (fun _ h=>h) hL ?_|refine Ld.qw h hL rfl ?_|refine ad.qw (fun _ h=>h) hL rfl ?_|refine ⟨h.hb,?_⟩|(refine St.q h hL rfl rfl rfl fun w h=> ?_;dsimp only [af,ab] at h)|refine aa.yes ?_|refine aa.no ?_|refine ⟨by first|omega|decide,?_⟩)
   refine Hz (by omega) hdig (by omega) ?_
   generalize (1+s)*2^digits=q at hb hm hn⊢
   (with_reducible repeat first|refine Nw.mk h fun b w h=> ?_|refine ah.mk h fun w h=> ?_|refine Ld.q h hL rfl rfl ?_|refine ad.q (fun _ h=>h) hL rfl rfl ?_|refine Ld.p h hL ?_|refine ad.p (fun _ h=>h) hL ?_|refine Ld.qw h hL rfl ?_|refine ad.qw (fun _ h=>h) hL rfl ?_|refine ⟨h.hb,?_⟩|(refine St.q h hL rfl rfl rfl fun w h=> ?_;dsimp only [af,ab] at h)|refine aa.yes ?_|refine aa.no ?_|refine ⟨by first|omega|decide,?_⟩)
   rw [aj (by omega)] at h
   have h:=h.drew (n:=w.drawn+1)
   refine ⟨cq b4 _ _ _,h.hb,?_⟩
   dsimp only
   (with_reducible repeat first|refine Nw.mk h fun b w h=> ?_|refine ah.mk h fun w h=> ?_|refine Ld.q h hL rfl rfl ?_|refine ad.q (fun _ h=>h) hL rfl rfl ?_|refine Ld.p h hL ?_|refine ad.p (fun _ h=>h) hL ?_|refine Ld.qw h hL rfl ?_|refine ad.qw (fun _ h=>h) hL rfl ?_|refine ⟨h.hb,?_⟩|(refine St.q h hL rfl rfl rfl fun w h=> ?_;dsimp only [af,ab] at h)|refine aa.yes ?_|refine aa.no ?_|refine ⟨by first|omega|decide,?_⟩)
   refine aq.q h hz (aV hl) bk fun w h=>⟨h.hb,?_⟩
   (with_reducible repeat first|refine Nw.mk h fun b w h=> ?_|refine ah.mk h fun w h=> ?_|refine Ld.q h hL rfl rfl ?_|refine ad.q (fun _ h=>h) hL rfl rfl ?_|refine Ld.p h hL ?_|refine ad.p (fun _ h=>h) hL ?_|refine Ld.qw h hL rfl ?_|refine ad.qw (fun _ h=>h) hL rfl ?_|refine ⟨h.hb,?_⟩|(refine St.q h hL rfl rfl rfl fun w h=> ?_;dsimp only [af,ab] at h)|refine aa.yes ?_|refine aa.no ?_|refine ⟨by first|omega|decide,?_⟩)
   by_cases hle:run+q≤left
   ·rw [if_pos hle] at hm
    exact dw (K:=fun b w=>K _ _ b w) (decide_eq_true (by omega)) (hm ⟨L,left,run+q,digits+1⟩ [] _ _ rfl (h.tl.aW 1))
   ·rw [if_neg hle] at hn
    exact dw (K:=fun b w=>K _ _ b w) (decide_eq_false (by omega)) (hn _ _ _ rfl (aV hl) bk h.tl)
  by_cases h0:s=0
  ·exact aa.et (by omega) (fin _ h)
  ·refine aa.ef (by omega) ?_
   exact aa.et (by omega) (fin _ h)
 ·simp only [if_neg hs2] at hn hm he
  refine aa.ef (by omega) (aa.ef (by omega) ?_)
  by_cases hs3:s=257
  ·simp only [if_pos hs3] at hn hm he
   refine aa.et (by omega) ?_
   have h:=h.drew (n:=w.drawn+1)
   refine ⟨cq b4 _ _ _,h.hb,?_⟩
   dsimp only
   (with_reducible repeat first|refine Nw.mk h fun b w h=> ?_|refine ah.mk h fun w h=> ?_|refine Ld.q h hL rfl rfl ?_|refine ad.q (fun _ h=>h) hL rfl rfl ?_|refine Ld.p h hL ?_|refine ad.p (fun _ h=>h) hL ?_|refine Ld.qw h hL rfl ?_|refine ad.qw (fun _ h=>h) hL rfl ?_|refine ⟨h.hb,?_⟩|(refine St.q h hL rfl rfl rfl fun w h=> ?_;dsimp only [af,ab] at h)|refine aa.yes ?_|refine aa.no ?_|refine ⟨by first|omega|decide,?_⟩)
   refine cd.Kh hl ?_
   (with_reducible repeat first|refine Nw.mk h fun b w h=> ?_|refine ah.mk h fun w h=> ?_|refine Ld.q h hL rfl rfl ?_|refine ad.q (fun _ h=>h) hL rfl rfl ?_|refine Ld.p h hL ?_|refine ad.p (fun _ h=>h) hL ?_|refine Ld.qw h hL rfl ?_|refine ad.qw (fun _ h=>h) hL rfl ?_|refine ⟨h.hb,?_⟩|(refine St.q h hL rfl rfl rfl fun w h=> ?_;dsimp only [af,ab] at h)|refine aa.yes ?_|refine aa.no ?_|refine ⟨by first|omega|decide,?_⟩)
   refine za h hl (by omega) fun sl w h=>⟨h.hb,?_⟩
   refine aq.q h hz (aV hl) bk fun w h=>⟨h.hb,?_⟩
   refine Ld.xw h (aV hl) ?_
   by_cases hrl:run=left
   ·rw [if_pos hrl] at he
    exact dw (K:=fun b w=>K _ _ b w) (beq_iff_eq.2 (by omega)) (he _ _ _ _ rfl ((h.no 1).no 1))
   ·rw [if_neg hrl] at hn
    exact dw (K:=fun b w=>K _ _ b w) (beq_eq_false_iff_ne.2 (by omega)) (hn _ _ _ rfl (aV hl) bk h.tl)
  ·simp only [if_neg hs3] at hn hm he
   refine aa.ef (by omega) ?_
   (with_reducible repeat first|refine Nw.mk h fun b w h=> ?_|refine ah.mk h fun w h=> ?_|refine Ld.q h hL rfl rfl ?_|refine ad.q (fun _ h=>h) hL rfl rfl ?_|refine Ld.p h hL ?_|refine ad.p (fun _ h=>h) hL ?_|refine Ld.qw h hL rfl ?_|refine ad.qw (fun _ h=>h) hL rfl ?_|refine ⟨h.hb,?_⟩|(refine St.q h hL rfl rfl rfl fun w h=> ?_;dsimp only [af,ab] at h)|refine aa.yes ?_|refine aa.no ?_|refine ⟨by first|omega|decide,?_⟩)
   by_cases hrl:run=left
   ·rw [if_pos hrl] at hn
    refine aa.et (by omega) ?_
    (with_reducible repeat first|refine Nw.mk h fun b w h=> ?_|refine ah.mk h fun w h=> ?_|refine Ld.q h hL rfl rfl ?_|refine ad.q (fun _ h=>h) hL rfl rfl ?_|refine Ld.p h hL ?_|refine ad.p (fun _ h=>h) hL ?_|refine Ld.qw h hL rfl ?_|refine ad.qw (fun _ h=>h) hL rfl ?_|refine ⟨h.hb,?_⟩|(refine St.q h hL rfl rfl rfl fun w h=> ?_;dsimp only [af,ab] at h)|refine aa.yes ?_|refine aa.no ?_|refine ⟨by first|omega|decide,?_⟩)
    refine aq.q h hz (aV hl) bk fun w h=> ?_
    (with_reducible repeat first|refine Nw.mk h fun b w h=> ?_|refine ah.mk h fun w h=> ?_|refine Ld.q h hL rfl rfl ?_|refine ad.q (fun _ h=>h) hL rfl rfl ?_|refine Ld.p h hL ?_|refine ad.p (fun _ h=>h) hL ?_|refine Ld.qw h hL rfl ?_|refine ad.qw (fun _ h=>h) hL rfl ?_|refine ⟨h.hb,?_⟩|(refine St.q h hL rfl rfl rfl fun w h=> ?_;dsimp only [af,ab] at h)|refine aa.yes ?_|refine aa.no ?_|refine ⟨by first|omega|decide,?_⟩)
    exact hn _ _ _ rfl (aV hl) bk h.tl
   ·rw [if_neg hrl] at hm
    refine aa.ef (by omega) ?_
    (with_reducible repeat first|refine Nw.mk h fun b w h=> ?_|refine ah.mk h fun w h=> ?_|refine Ld.q h hL rfl rfl ?_|refine ad.q (fun _ h=>h) hL rfl rfl ?_|refine Ld.p h hL ?_|refine ad.p (fun _ h=>h) hL ?_|refine Ld.qw h hL rfl ?_|refine ad.qw (fun _ h=>h) hL rfl ?_|refine ⟨h.hb,?_⟩|(refine St.q h hL rfl rfl rfl fun w h=> ?_;dsimp only [af,ab] at h)|refine aa.yes ?_|refine aa.no ?_|refine ⟨by first|omega|decide,?_⟩)
    rw [aj (by omega),show (s:Int) - 1=((s - 1:Nat):Int) by omega]
    refine FH h hl (by omega) fun w h=> ?_
    have hml:(bu L (s - 1)).length=256:=by rw [A8 (by omega)];exact hl
    have hM:(⟨aY (bu L (s - 1))⟩:Array Value).size=256:=by simp [hml]
    refine Nw.mk h fun b47 w h=> ?_
    refine aq.q h (by simp) hM bT fun w h=> ?_
    (with_reducible repeat first|refine Nw.mk h fun b w h=> ?_|refine ah.mk h fun w h=> ?_|refine Ld.q h hL rfl rfl ?_|refine ad.q (fun _ h=>h) hL rfl rfl ?_|refine Ld.p h hL ?_|refine ad.p (fun _ h=>h) hL ?_|refine Ld.qw h hL rfl ?_|refine ad.qw (fun _ h=>h) hL rfl ?_|refine ⟨h.hb,?_⟩|(refine St.q h hL rfl rfl rfl fun w h=> ?_;dsimp only [af,ab] at h)|refine aa.yes ?_|refine aa.no ?_|refine ⟨by first|omega|decide,?_⟩)
    refine za h hl (by omega) fun sl w h=> ?_
    refine Nw.mk h fun b53 w h=> ?_
    have hsl:=(h.at 1).bS
    simp only [List.length_map,List.length_replicate,Nat.mul_one] at hsl
    refine br (ys:= [vB (L.getD (s - 1) 0)]) (n:=1) Cu (by decide) (.inl ⟨5,by kernel_rfl⟩) (h.at 1) (.inl ⟨some ⟨b53,0,none⟩,1,1,rfl,rfl,h.av (ag.aD rfl rfl)⟩) rfl (fun y hy=>by simp at hy;subst hy;rfl) (by omega) (by omega) fun s' w h hs'=> ?_
    refine Ld.xw h hM ?_
    (with_reducible repeat first|refine Nw.mk h fun b w h=> ?_|refine ah.mk h fun w h=> ?_|refine Ld.q h hL rfl rfl ?_|refine ad.q (fun _ h=>h) hL rfl rfl ?_|refine Ld.p h hL ?_|refine ad.p (fun _ h=>h) hL ?_|refine Ld.qw h hL rfl ?_|refine ad.qw (fun _ h=>h) hL rfl ?_|refine ⟨h.hb,?_⟩|(refine St.q h hL rfl rfl rfl fun w h=> ?_;dsimp only [af,ab] at h)|refine aa.yes ?_|refine aa.no ?_|refine ⟨by first|omega|decide,?_⟩)
    rw [hs',aj (by omega),show (left:Int) - ((sl.len+1:Nat):Int)=((left - (run+1):Nat):Int) by omega]
    refine cd.Jg hml ?_
    refine aq.q h hz (aV hml) bk fun w h=> ?_
    refine Ld.xw h (aV hml) ?_
    refine hm ⟨bu L (s - 1),left - (run+1),0,0⟩ _ _ _ rfl ?_
    have e:(List.replicate run (L.getD 0 0)).map vB++ [vB (L.getD (s - 1) 0)]=(List.replicate run (L.getD 0 0)++ [L.getD (s - 1) 0]).map vB:=by simp
    rw [e] at h
    exact (((h.no 1).no 1).no 1).no 1
theorem DN {d:DS} {s:Nat} {K:Array Value→Sl→Bool→Int→World→Prop} (h:Hp E w F) (hd:jA d) (hs:s<258)
  (hn: ∀o w',bX d s=none→o.size=260→o.toList.all ay=true→Hp E w' F→K o ⟨none,0,0⟩ false 160 w')
  (hm: ∀d' t sl w',bX d s=some (d',t,false)→Hp E w' (aA 1 sl (t.map vB)::F)→K (fP d'.L (d'.left:Int) (d'.run:Int) (d'.digits:Int) false) sl false 0 w')
  (he: ∀d' t sl w',bX d s=some (d',t,true)→Hp E w' (aA 1 sl (t.map vB)::F)→K (fP d.L 0 0 0 true) sl true 0 w'):
  Cl Tryz.prog [.arr 260,kS,kB,kI] jG ⟨[.agg (fP d.L (d.left:Int) (d.run:Int) (d.digits:Int) false),.int .i64 (s:Int)]⟩ w K:=by
 have hl:=hd.1.len
 have hL:=fe hl
 have hz:(⟨List.replicate 256 (.int .u8 0)++ [.int .i64 0,.int .i64 0,.int .i64 0,.bool false]⟩:Array Value).size=260:=by simp
 refine yv.ok _ _ _ _ ?_
 (try simp only [au,ak,al,Nat.zero_add,Nat.add_zero,Nat.reduceAdd,Bool.not_true,Bool.not_false,aH,aE,Option.isNone])
 refine Nw.mk h fun b4 w h=>Nw.mk h fun b6 w h=> ?_
 (with_reducible repeat first|refine Nw.mk h fun b w h=> ?_|refine ah.mk h fun w h=> ?_|refine Ld.q h hL rfl rfl ?_|refine ad.q (fun _ h=>h) hL rfl rfl ?_|refine Ld.p h hL ?_|refine ad.p (fun _ h=>h) hL ?_|refine Ld.qw h hL rfl ?_|refine ad.qw (fun _ h=>h) hL rfl ?_|refine ⟨h.hb,?_⟩|(refine St.q h hL rfl rfl rfl fun w h=> ?_;dsimp only [af,ab] at h)|refine aa.yes ?_|refine aa.no ?_|refine ⟨by first|omega|decide,?_⟩)
 refine CO h hd fun w h=> ?_
 (with_reducible repeat first|refine Nw.mk h fun b w h=> ?_|refine ah.mk h fun w h=> ?_|refine Ld.q h hL rfl rfl ?_|refine ad.q (fun _ h=>h) hL rfl rfl ?_|refine Ld.p h hL ?_|refine ad.p (fun _ h=>h) hL ?_|refine Ld.qw h hL rfl ?_|refine ad.qw (fun _ h=>h) hL rfl ?_|refine ⟨h.hb,?_⟩|(refine St.q h hL rfl rfl rfl fun w h=> ?_;dsimp only [af,ab] at h)|refine aa.yes ?_|refine aa.no ?_|refine ⟨by first|omega|decide,?_⟩)
 refine Ef h hd hs (fun o sl w hq ho hos h=> ?_) (fun d' t sl w hq h=> ?_) (fun d' t sl w hq h=> ?_)
 ·refine aq.q h hz ho hos fun w h=> ?_
  (with_reducible repeat first|refine Nw.mk h fun b w h=> ?_|refine ah.mk h fun w h=> ?_|refine Ld.q h hL rfl rfl ?_|refine ad.q (fun _ h=>h) hL rfl rfl ?_|refine Ld.p h hL ?_|refine ad.p (fun _ h=>h) hL ?_|refine Ld.qw h hL rfl ?_|refine ad.qw (fun _ h=>h) hL rfl ?_|refine ⟨h.hb,?_⟩|(refine St.q h hL rfl rfl rfl fun w h=> ?_;dsimp only [af,ab] at h)|refine aa.yes ?_|refine aa.no ?_|refine ⟨by first|omega|decide,?_⟩)
  refine aq.q h ho (aV hl) bk fun w h=> ?_
  refine Ld.xw h (aV hl) ?_
  exact hn _ _ hq (aV hl) bk h.tl
 ·have hl':=(zq hd hs hq).1.1.len
  have hL:=fe hl'
  refine aq.q h hz (aV hl') bk fun w h=> ?_
  (with_reducible repeat first|refine Nw.mk h fun b w h=> ?_|refine ah.mk h fun w h=> ?_|refine Ld.q h hL rfl rfl ?_|refine ad.q (fun _ h=>h) hL rfl rfl ?_|refine Ld.p h hL ?_|refine ad.p (fun _ h=>h) hL ?_|refine Ld.qw h hL rfl ?_|refine ad.qw (fun _ h=>h) hL rfl ?_|refine ⟨h.hb,?_⟩|(refine St.q h hL rfl rfl rfl fun w h=> ?_;dsimp only [af,ab] at h)|refine aa.yes ?_|refine aa.no ?_|refine ⟨by first|omega|decide,?_⟩)
  refine aq.q h (aV hl') (aV hl') bk fun w h=> ?_
  refine Ld.xw h (aV hl') ?_
  exact hm _ _ _ _ hq ((h.no 1).no 1)
 ·refine aq.q h hz (aV hl) bk fun w h=> ?_
  (with_reducible repeat first|refine Nw.mk h fun b w h=> ?_|refine ah.mk h fun w h=> ?_|refine Ld.q h hL rfl rfl ?_|refine ad.q (fun _ h=>h) hL rfl rfl ?_|refine Ld.p h hL ?_|refine ad.p (fun _ h=>h) hL ?_|refine Ld.qw h hL rfl ?_|refine ad.qw (fun _ h=>h) hL rfl ?_|refine ⟨h.hb,?_⟩|(refine St.q h hL rfl rfl rfl fun w h=> ?_;dsimp only [af,ab] at h)|refine aa.yes ?_|refine aa.no ?_|refine ⟨by first|omega|decide,?_⟩)
  refine aq.q h (aV hl) (aV hl) bk fun w h=> ?_
  refine Ld.xw h (aV hl) ?_
  exact he _ _ _ _ hq ((h.no 1).no 1)
end
end Go.Proofs.YtgglghjnakclmaaGreat
set_option maxRecDepth 20000
namespace Go.Srt
open Go.aK
def tV (b:List Nat) (j:Nat):Nat:=
 b.getD (8*j) 0*128+b.getD (8*j+1) 0*64+b.getD (8*j+2) 0*32+b.getD (8*j+3) 0*16+b.getD (8*j+4) 0*8+b.getD (8*j+5) 0*4+b.getD (8*j+6) 0*2+b.getD (8*j+7) 0
def eW (b:List Nat) (m:Nat):List Nat:=(List.range m).map (tV b)
def pack (b:List Nat):List Nat:=eW b ((b.length+7)/8)
def aK (b:List Nat):Prop:= ∀x∈b,x≤1
theorem aK.getD {b:List Nat} (h:aK b) (i:Nat):b.getD i 0≤1:=by
 rw [List.getD_eq_getElem?_getD]
 cases hx:b[i]? with
 |none=>simp
 |some x=>exact h x (List.mem_of_getElem? hx)
theorem aK.app {a b:List Nat} (ha:aK a) (hb:aK b):aK (a++b):=fun x hx=>by
 rcases List.mem_append.1 hx with h|h
 ·exact ha x h
 ·exact hb x h
theorem rl (b:List Nat) (m:Nat):(eW b m).length=m:=by simp [eW]
theorem zR {b:List Nat} {m j:Nat} (h:j<m):(eW b m).getD j 0=tV b j:=by
 unfold eW
 rw [List.getD_eq_getElem?_getD,List.getElem?_map,List.getElem?_range h];rfl
theorem Hx {b:List Nat} (h:aK b) (j:Nat):tV b j<256:=by
 unfold tV
 have h0:=h.getD (8*j);have h1:=h.getD (8*j+1);have h2:=h.getD (8*j+2);have h3:=h.getD (8*j+3)
 have h4:=h.getD (8*j+4);have h5:=h.getD (8*j+5);have h6:=h.getD (8*j+6);have h7:=h.getD (8*j+7)
 omega
theorem CS {b:List Nat} (h:aK b) (m:Nat): ∀y∈eW b m,y<256:=fun y hy=>by
 obtain ⟨j,_,rfl⟩:=List.mem_map.1 hy
 exact Hx h j
theorem kc {b:List Nat} {i:Nat} (h:b.length≤i):b.getD i 0=0:=by rw [List.getD_eq_getElem?_getD,List.getElem?_eq_none h];rfl
theorem CQ (b:List Nat) (x i:Nat):(b++ [x]).getD i 0=b.getD i 0+if i=b.length then x else 0:=by
 rcases Nat.lt_trichotomy i b.length with h|h|h
 ·rw [if_neg (by omega),List.getD_eq_getElem?_getD,List.getElem?_append_left h,←List.getD_eq_getElem?_getD];rfl
 ·subst h
  rw [if_pos rfl,kc (Nat.le_refl _),List.getD_eq_getElem?_getD,List.getElem?_append_right (Nat.le_refl _),Nat.sub_self]
  simp
 ·rw [if_neg (by omega),kc (b:=b++ [x]) (by simp;omega),kc (b:=b) (by omega)]
theorem v8 {b:List Nat} (h:aK b) {m i:Nat} (hi:i<8*m):bR (eW b m) i=b.getD i 0:=by
 unfold bR
 rw [zR (by omega)]
 have hr:i=8*(i/8)+i % 8:=by omega
 have h8:i % 8<8:=Nat.mod_lt _ (by decide)
 generalize i/8=j at hr
 generalize i % 8=r at hr h8
 subst hr
 unfold tV
 have h0:=h.getD (8*j);have h1:=h.getD (8*j+1);have h2:=h.getD (8*j+2);have h3:=h.getD (8*j+3)
 have h4:=h.getD (8*j+4);have h5:=h.getD (8*j+5);have h6:=h.getD (8*j+6);have h7:=h.getD (8*j+7)
 have:r=0∨r=1∨r=2∨r=3∨r=4∨r=5∨r=6∨r=7:=by omega
 rcases this with rfl|rfl|rfl|rfl|rfl|rfl|rfl|rfl<;>simp only [Nat.reduceSub,Nat.reducePow,Nat.add_zero]<;>omega
theorem nz (b:List Nat):(pack b).length=(b.length+7)/8:=rl _ _
end Go.Srt
set_option maxRecDepth 20000
namespace Go.Srt
open Go.aK
def bn:Nat→Nat→List Nat
 |0,_=> []
 |n+1,v=>bn n (v/2)++ [v % 2]
theorem oy: ∀n v,(bn n v).length=n
 |0,_=>rfl
 |n+1,v=>by rw [bn,List.length_append,oy n];rfl
theorem yJ: ∀n v,aK (bn n v)
 |0,_=>fun x hx=>by cases hx
 |n+1,v=>(yJ n _).app fun x hx=>by have:x=v % 2:=by simpa using hx
                                   omega
theorem uP: ∀n v i,i<n→(bn n v).getD i 0=v/2^(n - 1 - i) % 2
 |0,_,_,h=>by omega
 |n+1,v,i,h=>by
  rw [bn,CQ,oy]
  by_cases e:i=n
  ·subst e
   rw [if_pos rfl,kc (by rw [oy];exact Nat.le_refl _),show i+1 - 1 - i=0 by omega];simp
  ·rw [if_neg e,uP n _ i (by omega),Nat.add_zero,Nat.div_div_eq_div_mul]
   congr 2
   rw [show n+1 - 1 - i=(n - 1 - i)+1 by omega,Nat.pow_succ,Nat.mul_comm]
def ie (l:List Nat) (s:Nat):Prop:=s<258∧0<l.getD s 0
def kz (l:List Nat) (s:Nat):List Nat:=bn (l.getD s 0) (code l s)
def enc (l:List Nat) (ss:List Nat):List Nat:=ss.flatMap (kz l)
theorem DA (l:List Nat) (ss:List Nat):aK (enc l ss):=fun x hx=>by
 obtain ⟨s,_,h⟩:=List.mem_flatMap.1 hx
 exact yJ _ _ x h
theorem F8 (l a b:List Nat):enc l (a++b)=enc l a++enc l b:=List.flatMap_append
theorem vo (l:List Nat) (s:Nat) (b:List Nat):enc l (s::b)=kz l s++enc l b:=List.flatMap_cons
def c9 (l:List Nat) (c n:Nat):Option Nat:=(List.range 258).find? fun s=>decide (0<l.getD s 0)&&(l.getD s 0==n)&&(code l s==c)
theorem nJ {l:List Nat} {c n s:Nat} (h:c9 l c n=some s):ie l s∧l.getD s 0=n∧code l s=c:=by
 unfold c9 at h
 have h1:=List.find?_some h
 have h2:=List.mem_of_find?_eq_some h
 simp only [Bool.and_eq_true,decide_eq_true_eq,beq_iff_eq] at h1
 exact ⟨⟨by simpa using h2,h1.1.1⟩,h1.1.2,h1.2⟩
theorem AP {l:List Nat} {c n:Nat} (h:c9 l c n=none) {s:Nat} (hs:ie l s): ¬(l.getD s 0=n∧code l s=c):=by
 unfold c9 at h
 have:=List.find?_eq_none.1 h s (by simpa using hs.1)
 simp only [Bool.and_eq_true,decide_eq_true_eq,beq_iff_eq] at this
 exact fun hh=>this ⟨⟨hs.2,hh.1⟩,hh.2⟩
theorem Dp {l:List Nat} (hl:l.length=258) {s t:Nat} (hs:ie l s) (ht:ie l t) (h1:l.getD s 0=l.getD t 0) (h2:code l s=code l t):s=t:=by
 have h3:=hs.1;have h4:=ht.1
 refine wi (by omega) (by omega) h1 ?_
 unfold code at h2
 rw [h1] at h2
 omega
theorem rT {l:List Nat} (hl:l.length=258) {s:Nat} (hs:ie l s):c9 l (code l s) (l.getD s 0)=some s:=by
 cases h:c9 l (code l s) (l.getD s 0) with
 |none=>exact absurd ⟨rfl,rfl⟩ (AP h hs)
 |some t=>
  obtain ⟨h1,h2,h3⟩:=nJ h
  rw [Dp hl h1 hs h2 h3]
theorem Ba {l:List Nat} (hl:l.length=258) (hv:aR l≤32768) {s m:Nat} (hs:ie l s) (hm:m<l.getD s 0):c9 l (code l s/2^(l.getD s 0 - m)) m=none:=by
 cases h:c9 l (code l s/2^(l.getD s 0 - m)) m with
 |none=>rfl
 |some t=>
  exfalso
  obtain ⟨h1,h2,h3⟩:=nJ h
  have h15:=fB hv s
  have p1:=nh hv s
  have p2:=nh hv t
  rw [h2,h3] at p2
  have e:2^(15 - m)=2^(l.getD s 0 - m)*2^(15 - l.getD s 0):=by rw [←Nat.pow_add];congr 1;omega
  have hq:=Nat.div_mul_le_self (code l s) (2^(l.getD s 0 - m))
  have hr:=Nat.lt_div_mul_add (a:=code l s) (b:=2^(l.getD s 0 - m)) (Nat.two_pow_pos _)
  have ha:pos l t≤pos l s:=by
   rw [←p1,←p2,e,←Nat.mul_assoc];exact Nat.mul_le_mul_right _ hq
  have hb:pos l s<pos l t+2^(15 - l.getD t 0):=by
   rw [h2,←p1,←p2,e,←Nat.mul_assoc,←Nat.add_mul]
   exact Nat.mul_lt_mul_of_pos_right hr (Nat.two_pow_pos _)
  have h4:=hs.1;have h5:=h1.1
  have:s=t:=CZ (x:=pos l s) (by omega) (by omega) hs.2 h1.2 (Nat.le_refl _) (by have:=Nat.two_pow_pos (15 - l.getD s 0);omega) ha hb
  subst this
  omega
def bitsOf (b:List Nat) (n:Nat):List Nat:=(List.range n).map (bR b)
theorem z5 (b:List Nat) (n:Nat):(bitsOf b n).length=n:=by simp [bitsOf]
end Go.Srt
set_option maxRecDepth 20000
namespace Go.Crc
def half (c:Nat):Nat:=(c/2)^^^(if c % 2=1 then 3988292384 else 0)
def row (c:Nat):Nat:=half (half (half (half (half (half (half (half c)))))))
def step (c b:Nat):Nat:=row ((c % 256)^^^b)^^^(c/256)
def feed (c:Nat) (b:List Nat):Nat:=b.foldl step c
def lD (b:List Nat):Nat:=feed 4294967295 b^^^4294967295
theorem fa {c:Nat} (h:c<4294967296):half c<4294967296:=by
 unfold half
 exact Nat.xor_lt_two_pow (n:=32) (by omega) (by split<;>decide)
theorem BB {c:Nat} (h:c<4294967296):row c<4294967296:=fa (fa (fa (fa (fa (fa (fa (fa h)))))))
theorem yS {c b:Nat} (h:c<4294967296) (hb:b<256):step c b<4294967296:=by
 unfold step
 have h1:(c % 256)^^^b<256:=Nat.xor_lt_two_pow (n:=8) (by omega) hb
 exact Nat.xor_lt_two_pow (n:=32) (BB (by omega)) (by omega)
theorem o5: ∀(b:List Nat) (c:Nat),c<4294967296→(∀x∈b,x<256)→feed c b<4294967296
 | [],_,h,_=>h
 |x::b,c,h,hb=>by
  rw [feed,List.foldl_cons]
  exact o5 b _ (yS h (hb x List.mem_cons_self)) fun y hy=>hb y (List.mem_cons_of_mem _ hy)
theorem Ea (a b:List Nat) (c:Nat):feed c (a++b)=feed (feed c a) b:=List.foldl_append
theorem rH {b:List Nat} (hb: ∀x∈b,x<256):lD b<4294967296:=Nat.xor_lt_two_pow (n:=32) (o5 b _ (by decide) hb) (by decide)
end Go.Crc
set_option maxRecDepth 20000
namespace Go.Bw
open Go.Rk
abbrev lx:List Nat→List Nat→Bool:=Go.Vc.Jc
theorem qX (x:List Nat):lx x []=false:=by cases x<;>rfl
theorem iM (a b:Nat) (x y:List Nat):lx (a::x) (b::y)=(decide (a<b)||(a==b&&lx x y)):=rfl
theorem og: ∀x,lx x x=false
 | []=>rfl
 |a::x=>by rw [iM,og x];simp
theorem qK: ∀x y z,lx x y=true→lx y z=true→lx x z=true
 |_,[],_,h,_=>by rw [qX] at h;cases h
 |_,_::_,[],_,h=>by rw [qX] at h;cases h
 | [],_::_,_::_,_,_=>rfl
 |a::x,b::y,c::z,h1,h2=>by
  rw [iM] at*
  simp only [Bool.or_eq_true,Bool.and_eq_true,decide_eq_true_eq,beq_iff_eq] at*
  rcases h1 with h1|⟨h1,h3⟩<;>rcases h2 with h2|⟨h2,h4⟩
  ·left;omega
  ·left;omega
  ·left;omega
  ·exact .inr ⟨by omega,qK x y z h3 h4⟩
theorem qm: ∀x y,lx x y=false→lx y x=false→x=y
 | [],[],_,_=>rfl
 | [],_::_,h,_=>by cases h
 |_::_,[],_,h=>by cases h
 |a::x,b::y,h1,h2=>by
  rw [iM] at*
  simp only [Bool.or_eq_false_iff,Bool.and_eq_false_iff,decide_eq_false_iff_not,beq_eq_false_iff_ne] at*
  have hab:a=b:=by omega
  subst hab
  rw [qm x y (by rcases h1.2 with h|h;exact absurd rfl h;exact h) (by rcases h2.2 with h|h;exact absurd rfl h;exact h)]
theorem BH (x y z:List Nat) (h1:lx x y=false) (h2:lx y z=false):lx x z=false:=by
 cases h:lx x z with
 |false=>rfl
 |true=>
  by_cases e:x=y
  ·subst e;rw [h] at h2;cases h2
  ·have hyx:lx y x=true:=by
    cases hh:lx y x with
    |true=>rfl
    |false=>exact absurd (qm x y h1 hh) e
   have:=qK _ _ _ hyx h
   rw [h2] at this;cases this
theorem Ch: ∀(k c d:List Nat),lx (k++c) (k++d)=lx c d
 | [],_,_=>rfl
 |a::k,c,d=>by rw [List.cons_append,List.cons_append,iM,Ch k];simp
theorem uS: ∀(a b c d:List Nat),a≠b→(a.length<b.length→c= [])→(b.length<a.length→d= [])→lx (a++c) (b++d)=lx a b
 | [],[],_,_,h,_,_=>absurd rfl h
 | [],y::b,c,d,_,h1,_=>by rw [h1 (by simp)];rfl
 |x::a,[],c,d,_,_,h2=>by rw [h2 (by simp)];rfl
 |x::a,y::b,c,d,h,h1,h2=>by
  rw [List.cons_append,List.cons_append,iM,iM]
  by_cases e:x=y
  ·subst e
   rw [uS a b c d (fun e=>h (by rw [e])) (fun hl=>h1 (by simpa using hl)) (fun hl=>h2 (by simpa using hl))]
  ·rw [beq_eq_false_iff_ne.2 e,Bool.false_and,Bool.false_and]
def sl (t:List Nat) (i k:Nat):Bool:=lx (t.drop i) (t.drop k)
theorem j5 (t:List Nat):SO (sl t):=⟨fun _=>og _,fun _ _ _=>qK _ _ _,fun _ _ _=>BH _ _ _⟩
theorem C1 {t:List Nat} {i k:Nat} (hi:i≤t.length) (hk:k≤t.length) (h:t.drop i=t.drop k):i=k:=by
 have:=congrArg List.length h
 simp only [List.length_drop] at this
 omega
def rows (t:List Nat):List Nat:=List.range (t.length+1)
theorem fN {t:List Nat} {i:Nat}:i∈rows t↔i≤t.length:=by unfold rows;rw [List.mem_range];omega
theorem j8 (t:List Nat):(rows t).Nodup:=List.nodup_range
theorem xe (t:List Nat):(rows t).length=t.length+1:=List.length_range
theorem mI (t:List Nat):yO (sl t) (rows t):=fun x hx y hy e=>by
 rw [fN] at hx hy
 cases h1:sl t x y with
 |true=>exact .inl rfl
 |false=>
  right
  cases h2:sl t y x with
  |true=>rfl
  |false=>exact absurd (C1 hx hy (qm _ _ h1 h2)) e
def c7 (t:List Nat):List Nat:=p7 (sl t) (rows t)
def oL (t:List Nat) (i:Nat):Nat:=rk (sl t) (rows t) i
theorem qa (t:List Nat):(c7 t).length=t.length+1:=by unfold c7;rw [zt,xe]
theorem Dz {t:List Nat} {i:Nat}:i∈c7 t↔i≤t.length:=by unfold c7;rw [(dX _).mem_iff,fN]
theorem H6 {t:List Nat} {i:Nat} (hi:i≤t.length):oL t i<t.length+1:=by
 have:=A4 (j5 t) (j8 t) (mI t) (fN.2 hi)
 rwa [xe] at this
theorem Gg {t:List Nat} {i:Nat} (hi:i≤t.length): ∃h:oL t i<(c7 t).length,(c7 t)[oL t i]=i:=BG (j5 t) (j8 t) (mI t) (fN.2 hi)
theorem F4 {t:List Nat} {r:Nat} (hr:r<(c7 t).length):oL t (c7 t)[r]=r:=Iw (j5 t) (j8 t) (mI t) hr
theorem FX {t:List Nat} {i k:Nat} (hi:i≤t.length) (hk:k≤t.length) (h:oL t i=oL t k):i=k:=Hl (j5 t) (mI t) (fN.2 hi) (fN.2 hk) h
theorem xu (t:List Nat):(c7 t).Pairwise fun a b=>sl t a b=true:=nA (j5 t) (j8 t) (mI t)
theorem qC {t:List Nat} {j:Nat} (hj:j<t.length):t.drop j=t.getD j 0::t.drop (j+1):=by
 rw [List.drop_eq_getElem_cons hj];simp [List.getD,hj]
theorem ze {t:List Nat} {i k:Nat} (hi:i<t.length) (hk:k<t.length):sl t i k=(decide (t.getD i 0<t.getD k 0)||(t.getD i 0==t.getD k 0&&sl t (i+1) (k+1))):=by
 unfold sl
 rw [qC hi,qC hk,iM]
theorem Gi (t:List Nat):oL t t.length=0:=by
 unfold oL rk
 rw [List.countP_eq_zero]
 intro x _
 unfold sl
 rw [List.drop_length,qX];decide
def dZ (t:List Nat):Nat:=oL t 0
def DR (t:List Nat):List Nat:=(c7 t).filter fun i=>i !=0
def bf (t:List Nat):List Nat:=(DR t).map fun i=>t.getD (i - 1) 0
def J9 (index row:Nat):Nat:=if row>index then row - 1 else row
theorem yY (t:List Nat):dZ t≤t.length:=by have:=H6 (t:=t) (i:=0) (by omega);unfold dZ;omega
theorem DF (t:List Nat) {r:Nat} (hr:r<(c7 t).length):(c7 t)[r]=0↔r=dZ t:=by
 constructor
 ·intro h
  have:=F4 hr
  rw [h] at this;exact this.symm
 ·rintro rfl
  exact (Gg (t:=t) (i:=0) (by omega)).2
theorem tT (t:List Nat):(DR t).Perm ((List.range t.length).map (·+1)):=by
 have h:=(dX (lt:=sl t) (rows t)).filter fun i=>i !=0
 have e:(rows t).filter (fun i=>i !=0)=(List.range t.length).map (·+1):=by
  unfold rows
  rw [List.range_succ_eq_map,List.filter_cons,if_neg (by simp),List.filter_eq_self.2 fun x hx=>by obtain ⟨y,_,rfl⟩:=List.mem_map.1 hx;simp]
 rw [e] at h
 exact h
theorem DJ (t:List Nat):(DR t).length=t.length:=by rw [(tT t).length_eq];simp
theorem dP (t:List Nat):(bf t).length=t.length:=by unfold bf;rw [List.length_map,DJ]
theorem Ac (t:List Nat):(bf t).Perm t:=by
 have h:=(tT t).map fun i=>t.getD (i - 1) 0
 have e:((List.range t.length).map (·+1)).map (fun i=>t.getD (i - 1) 0)=t:=by
  apply List.ext_getElem
  ·simp
  ·intro i h1 h2
   simp [List.getD,h2]
 rw [e] at h
 exact h
theorem pf {t:List Nat} (hb: ∀x∈t,x<256): ∀x∈bf t,x<256:=fun x hx=>hb x ((Ac t).mem_iff.1 hx)
def pl (last:List Nat) (a b:Nat):Bool:=decide (last.getD a 0<last.getD b 0)||(last.getD a 0==last.getD b 0&&decide (a<b))
def nx (last:List Nat) (a:Nat):Nat:=1+rk (pl last) (List.range last.length) a
def wk (last:List Nat) (index:Nat):Nat→Nat
 |0=>0
 |k+1=>nx last (J9 index (wk last index k))
def okB (last:List Nat) (index:Nat):Prop:=index≤last.length∧(∀k,k<last.length→wk last index k≠index)∧wk last index last.length=index
instance (last:List Nat) (index:Nat):Decidable (okB last index):=by unfold okB;infer_instance
end Go.Bw
set_option maxRecDepth 20000
namespace Go.ao
open Go.Inc Go.Srt Go.Sym Go.aK Go.Tab Go.Hd Go.Crc Go.Bw
def ba (b:List Nat):List Nat:=bitsOf b (8*b.length)
theorem bD (b:List Nat):(ba b).length=8*b.length:=z5 _ _
theorem pI (a b:List Nat):ba (a++b)=ba a++ba b:=by
 unfold ba bitsOf
 rw [List.length_append,Nat.mul_add,List.range_add,List.map_append]
 congr 1
 ·refine List.map_congr_left fun i hi=> ?_
  rw [List.mem_range] at hi
  unfold bR
  rw [List.getD,List.getD,List.getElem?_append_left (by omega)]
 ·rw [List.map_map]
  refine List.map_congr_left fun i hi=> ?_
  simp only [Function.comp]
  unfold bR
  rw [List.getD,List.getD,List.getElem?_append_right (by omega),show (8*a.length+i)/8 - a.length=i/8 by omega,show (8*a.length+i) % 8=i % 8 by omega]
def dW (b:List Nat):Nat:=8*((b.length+7)/8) - b.length
theorem zo (b:List Nat):dW b<8:=by unfold dW;omega
theorem vR {b:List Nat} (h:aK b):ba (pack b)=b++List.replicate (dW b) 0:=by
 unfold ba bitsOf dW
 rw [nz]
 refine List.ext_getElem? fun i=> ?_
 rw [List.getElem?_map]
 by_cases hi:i<8*((b.length+7)/8)
 ·rw [List.getElem?_range hi,Option.map_some]
  unfold pack
  rw [v8 h hi]
  by_cases hb:i<b.length
  ·rw [List.getElem?_append_left hb,List.getD,List.getElem?_eq_getElem hb];rfl
  ·rw [List.getElem?_append_right (by omega),List.getElem?_replicate,if_pos (by omega),kc (by omega)]
 ·rw [List.getElem?_eq_none (by simp;omega),List.getElem?_eq_none (by simp;omega)];rfl
def body (l last:List Nat):List Nat:=mg l++enc l (syms last)
def mb (l x:List Nat):List Nat:=jB x.length (dZ x.reverse) (lD x)++pack (body l (bf x.reverse))
def pC (left:List Nat):Bool:=(left.take (left.length % 8)).all (·==0)
theorem wL: ∀k,aK (oB k)
 |0=>fun x hx=>by cases hx
 |k+1=>fun x hx=>by
  rcases List.mem_cons.1 hx with h|h
  ·omega
  ·rcases List.mem_cons.1 h with h|h
   ·omega
   ·exact wL k x h
theorem rf: ∀k,aK (jd k)
 |0=>fun x hx=>by cases hx
 |k+1=>fun x hx=>by
  rcases List.mem_cons.1 hx with h|h
  ·omega
  ·rcases List.mem_cons.1 h with h|h
   ·omega
   ·exact rf k x h
theorem EA (a b:Nat):aK (g0 a b):=by
 unfold g0
 refine aK.app ?_ (fun x hx=>by rw [List.mem_singleton] at hx;omega)
 split
 ·exact rf _
 ·exact wL _
theorem uc: ∀(m:List Nat) (was:Nat),aK (fj was m)
 | [],_=>fun x hx=>by cases hx
 |n::m,was=>aK.app (EA was n) (uc m n)
theorem CF (l:List Nat):aK (mg l):=aK.app (fun x hx=>by simp [four] at hx;omega) (uc _ _)
theorem oT (l last:List Nat):aK (body l last):=aK.app (CF l) (DA _ _)
section
variable {l:List Nat}
structure qt (l last:List Nat):Prop where
 len:l.length=258
 ok:cp l=true
 good: ∀s∈syms last,ie l s
theorem qt.v {last:List Nat} (h:qt l last):aR l≤32768:=by rw [(kg.1 h.ok).1];decide
theorem q5 (h:cp l=true): ∀x∈l,x≤15:=fun x hx=>by
 obtain ⟨i,hi,rfl⟩:=List.mem_iff_getElem.1 hx
 have:=fB (l:=l) (by rw [(kg.1 h).1];decide) i
 rwa [bC hi] at this
theorem Bx (b:List Nat) (z:List Nat):pC (List.replicate (dW b) 0++ba z)=true:=by
 unfold pC
 have:=zo b
 rw [List.length_append,List.length_replicate,bD,show (dW b+8*z.length) % 8=dW b by omega,List.take_append_of_le_length (by simp),List.take_of_length_le (by simp)]
 simp
theorem oz {t:List Nat} (h:0<t.length):0<dZ t∧dZ t≤t.length:=by
 refine ⟨?_,yY t⟩
 rcases Nat.eq_zero_or_pos (dZ t) with e|e
 ·have:=FX (t:=t) (i:=0) (k:=t.length) (by omega) (by omega) (by rw [Gi];exact e)
  omega
 ·exact e
end
end Go.ao
set_option maxRecDepth 20000
namespace Go.Stm
open Go.Inc Go.Srt Go.Sym Go.aK Go.Tab Go.Hd Go.Crc Go.Bw Go.ao
def k5 (n:Nat) (x:List Nat):List (List Nat):=if _h:x= []∨n=0 then [] else x.take n::k5 n (x.drop n)
termination_by x.length
decreasing_by
 have h1:x≠ []:=fun e=>_h (.inl e)
 have h2:n≠0:=fun e=>_h (.inr e)
 have:=List.length_pos_iff.2 h1
 rw [List.length_drop];omega
def bA (n:Nat) (parts:List (List Nat)):List (List Nat):=parts.flatMap (k5 n)
theorem qE (n:Nat):k5 n []= []:=by rw [k5];simp
theorem qx {n:Nat} {x:List Nat} (h:x≠ []) (hn:0<n):k5 n x=x.take n::k5 n (x.drop n):=by
 rw [k5,dif_neg (by intro e;rcases e with e|e;exact h e;omega)]
theorem B5 {n:Nat} (hn:0<n) (x:List Nat):(k5 n x).flatten=x:=by
 induction hk:x.length using Nat.strongRecOn generalizing x with
 |ind k ih=>
  by_cases h:x= []
  ·rw [h,qE];rfl
  ·have:=List.length_pos_iff.2 h
   rw [qx h hn,List.flatten_cons,ih (x.drop n).length (by rw [List.length_drop];omega) (x.drop n) rfl,List.take_append_drop]
theorem Ek {n:Nat} (hn:0<n) (x:List Nat): ∀y∈k5 n x,0<y.length∧y.length≤n∧∀c∈y,c∈x:=by
 induction hk:x.length using Nat.strongRecOn generalizing x with
 |ind k ih=>
  by_cases h:x= []
  ·rw [h,qE];intro y hy;cases hy
  ·have:=List.length_pos_iff.2 h
   rw [qx h hn]
   intro y hy
   rcases List.mem_cons.1 hy with h|h
   ·subst h
    exact ⟨by rw [List.length_take];omega,by rw [List.length_take];omega,fun c hc=>List.mem_of_mem_take hc⟩
   ·obtain ⟨h1,h2,h3⟩:=ih (x.drop n).length (by rw [List.length_drop];omega) (x.drop n) rfl y h
    exact ⟨h1,h2,fun c hc=>List.mem_of_mem_drop (h3 c hc)⟩
theorem tN {n:Nat} (hn:0<n) (parts:List (List Nat)):(bA n parts).flatten=parts.flatten:=by
 induction parts with
 |nil=>rfl
 |cons x l ih=>rw [bA,List.flatMap_cons,List.flatten_append,B5 hn,List.flatten_cons];exact congrArg _ ih
theorem vO {n:Nat} (hn:0<n) {parts:List (List Nat)}: ∀y∈bA n parts,0<y.length∧y.length≤n∧∀c∈y,c∈parts.flatten:=by
 intro y hy
 obtain ⟨x,hx,hy⟩:=List.mem_flatMap.1 hy
 obtain ⟨h1,h2,h3⟩:=Ek hn x y hy
 exact ⟨h1,h2,fun c hc=>List.mem_flatten.2 ⟨x,hx,h3 c hc⟩⟩
section
variable (L:List Nat→List Nat)
def mZ (x:List Nat):List Nat:=mb (L x) x
def blocks (l:List (List Nat)):List Nat:=l.flatMap (mZ L)
def nD (n:Nat) (parts:List (List Nat)):List Nat:=iN n++(blocks L (bA n parts)++jJ (lD parts.flatten))
def dv:Prop:= ∀x:List Nat,0<x.length→(∀c∈x,c<256)→qt (L x) (bf x.reverse)
end
section
variable {L:List Nat→List Nat} {n:Nat}
theorem EP {x:List Nat} (hx: ∀c∈x,c<256): ∀y∈bf x.reverse,y<256:=pf fun y hy=>hx y (List.mem_reverse.1 hy)
theorem iO (hn:0<n) {parts:List (List Nat)} (hb: ∀c∈parts.flatten,c<256): ∀x∈bA n parts,0<x.length∧x.length≤n∧∀c∈x,c<256:=fun x hx=>by
 obtain ⟨h1,h2,h3⟩:=vO hn x hx
 exact ⟨h1,h2,fun c hc=>hb c (h3 c hc)⟩
end
end Go.Stm
set_option maxRecDepth 20000
namespace Go.Prs
open Go.Inc Go.Srt Go.Sym Go.aK Go.Tab Go.Hd Go.Crc Go.Bw Go.ao
inductive Ev where
 |hdr (n:Nat)|aD (M P sum:Nat)|bytes (t:List Nat)|bend|tail (sum:Nat)|fin|bad (e:Nat)
deriving DecidableEq
inductive PS where
 |head (h:HS)|mark (n:Nat) (m:MS)|tab (n M:Nat) (t:TS)|sym (n:Nat) (l:List Nat) (k m:Nat) (d:DS)|pad (n:Nat)|behind (n:Nat)|ab (n:Nat)|bad (n e:Nat)
inductive Jo where
 |go (s:PS) (u:Nat)|need|ev (e:Ev) (s:PS) (u:Nat)
def im (u:Nat):Nat:=if u % 8=0 then 0 else 8 - u % 8
def short (ended:Bool) (n u:Nat):Jo:=if ended then .ev (.bad 50) (.bad n 50) u else .need
def aF (ended:Bool) (c:List Nat):PS→Nat→Jo
 | .head h,u=>if u+8≤8*c.length then (match cr h (val c u 8) with
   | .more h'=> .go (.head h') (u+8)
   | .fin n=> .ev (.hdr n) (.mark n gp) (u+8)
   | .bad e=> .ev (.bad e) (.bad 0 e) (u+8)) else short ended 0 u
 | .mark n m,u=>if u+8≤8*c.length then (match aX n m (val c u 8) with
   | .more m'=> .go (.mark n m') (u+8)
   | .fin (.tail s)=> .ev (.tail s) (.behind n) (u+8)
   | .fin (.aD M P s)=> .ev (.aD M P s) (.tab n M t0) (u+8)
   | .bad e=> .ev (.bad e) (.bad n e) (u+8)) else short ended n u
 | .tab n M t,u=>if u+1≤8*c.length then (match bd cp t (bR c u) with
   | .more t'=> .go (.tab n M t') (u+1)
   | .fin l=> .go (.sym n l 0 0 ⟨List.range 256,M,0,0⟩) (u+1)
   | .bad e=> .ev (.bad e) (.bad n e) (u+1)) else short ended n u
 | .sym n l k m d,u=>if u+1≤8*c.length then (match c9 l (2*k+bR c u) (m+1) with
   |none=> .go (.sym n l (2*k+bR c u) (m+1) d) (u+1)
   |some y=>match bX d y with
    |none=> .ev (.bad 160) (.bad n 160) (u+1)
    |some (d',t,en)=>if t= [] then .go (if en then .pad n else .sym n l 0 0 d') (u+1) else .ev (.bytes t) (if en then .pad n else .sym n l 0 0 d') (u+1)) else short ended n u
 | .pad n,u=>if val c u (im u)=0 then .ev .bend (.mark n gp) (u+im u) else .ev (.bad 160) (.bad n 160) (u+im u)
 | .behind n,u=>if u<8*c.length then .ev (.bad 261) (.bad n 261) u else if ended then .ev .fin (.ab n) u else .need
 | .ab n,u=> .ev .fin (.ab n) u
 | .bad n e,u=> .ev (.bad e) (.bad n e) u
def PS.n:PS→Nat
 | .head _=>0| .mark n _=>n| .tab n _ _=>n| .sym n _ _ _ _=>n| .pad n=>n| .behind n=>n| .ab n=>n| .bad n _=>n
def dU (c:List Nat) (s:PS) (u:Nat):Nat:=2*(8*c.length - u)+match s with
 | .pad _=>1
 |_=>0
def final:Ev→Bool
 | .fin=>true| .bad _=>true|_=>false
theorem BR {c:List Nat} {u:Nat} (h:u≤8*c.length):u+im u≤8*c.length:=by unfold im;split<;>omega
theorem mB {ended:Bool} {c:List Nat} {s s':PS} {u u':Nat} (h:aF ended c s u= .go s' u'):dU c s' u'<dU c s u∧u<u'∧u'≤8*c.length:=by
 unfold aF short at h
 unfold dU
 split at h
 all_goals try (split at h)
 all_goals try (split at h)
 all_goals try (split at h)
 all_goals try (split at h)
 all_goals first
  |(cases h;done)
  |(injection h with h1 h2;subst h1;subst h2;refine ⟨?_,by omega,by omega⟩;first|(dsimp only;omega)|((try split)<;>(try split)<;>omega))
  |skip
theorem B7 {ended:Bool} {c:List Nat} {s s':PS} {u u':Nat} {e:Ev} (hu:u≤8*c.length) (h:aF ended c s u= .ev e s' u'):(final e=false→dU c s' u'<dU c s u)∧u≤u'∧u'≤8*c.length:=by
 have hg:=BR hu
 unfold aF short at h
 unfold dU
 split at h
 all_goals try (split at h)
 all_goals try (split at h)
 all_goals try (split at h)
 all_goals try (split at h)
 all_goals first
  |(cases h;done)
  |(injection h with h1 h2 h3;subst h1;subst h2;subst h3;refine ⟨fun hf=> ?_,by omega,by omega⟩;first|(cases hf;done)|(dsimp only;omega)|((try split)<;>(try split)<;>omega))
  |skip
def cQ (ended:Bool) (c:List Nat) (s:PS) (u:Nat):Option Ev×PS×Nat:=match aF ended c s u with
 | .ev e s' u'=>(some e,s',u')
 | .need=>(none,s,u)
 | .go s' u'=>if _h:dU c s' u'<dU c s u then cQ ended c s' u' else (none,s,u)
termination_by dU c s u
def cP (ended:Bool) (c:List Nat) (s:PS) (u:Nat):List Ev:=match aF ended c s u with
 | .ev e s' u'=>e::if _h:final e=false∧dU c s' u'<dU c s u then cP ended c s' u' else []
 | .need=> []
 | .go s' u'=>if _h:dU c s' u'<dU c s u then cP ended c s' u' else []
termination_by dU c s u
section
variable {ended:Bool} {c:List Nat} {s s':PS} {u u':Nat} {e:Ev}
theorem n6 (h:aF ended c s u= .go s' u'):cQ ended c s u=cQ ended c s' u':=by
 rw [cQ,h];simp only;rw [dif_pos (mB h).1]
theorem kF (h:aF ended c s u= .ev e s' u'):cQ ended c s u=(some e,s',u'):=by rw [cQ,h]
theorem k8 (h:aF ended c s u= .need):cQ ended c s u=(none,s,u):=by rw [cQ,h]
theorem jy (h:aF ended c s u= .go s' u'):cP ended c s u=cP ended c s' u':=by
 rw [cP,h];simp only;rw [dif_pos (mB h).1]
theorem kT (hu:u≤8*c.length) (h:aF ended c s u= .ev e s' u') (hf:final e=false):cP ended c s u=e::cP ended c s' u':=by
 rw [cP,h];simp only;rw [dif_pos ⟨hf,(B7 hu h).1 hf⟩]
theorem gg (h:aF ended c s u= .ev e s' u') (hf:final e=true):cP ended c s u= [e]:=by
 rw [cP,h];simp only;rw [dif_neg (by rw [hf];simp)]
theorem qd (h:aF ended c s u= .need):cP ended c s u= []:=by rw [cP,h]
end
theorem Gd {ended:Bool} {c:List Nat}: ∀(k:Nat) (s:PS) (u:Nat),dU c s u=k→u≤8*c.length→match cQ ended c s u with
  |(none,s',u')=>cP ended c s u= []∧u'≤8*c.length∧aF ended c s' u'= .need∧u≤u'
  |(some e,s',u')=>cP ended c s u=e::(if final e then [] else cP ended c s' u')∧u'≤8*c.length∧u≤u':=by
 intro k
 induction k using Nat.strongRecOn with
 |ind k ih=>
  intro s u hk hu
  cases hm:aF ended c s u with
  |need=>rw [k8 hm];exact ⟨qd hm,hu,hm,Nat.le_refl _⟩
  |ev e s' u'=>
   rw [kF hm]
   have:=B7 hu hm
   refine ⟨?_,this.2.2,this.2.1⟩
   cases hf:final e with
   |true=>rw [gg hm hf];rfl
   |false=>rw [kT hu hm hf];rfl
  |go s' u'=>
   have hd:=mB hm
   have:=ih (dU c s' u') (by omega) s' u' rfl hd.2.2
   rw [n6 hm,jy hm]
   revert this
   rcases cQ ended c s' u' with ⟨o,s'',u''⟩
   cases o with
   |none=>exact fun ⟨h1,h2,h3,h4⟩=>⟨h1,h2,h3,by omega⟩
   |some e=>exact fun ⟨h1,h2,h4⟩=>⟨h1,h2,by omega⟩
end Go.Prs
set_option maxRecDepth 20000
namespace Go.Prs
open Go.Inc Go.Srt Go.Sym Go.aK Go.Tab Go.Hd Go.Crc Go.Bw Go.ao Go.Stm
def sh (ended:Bool):List Ev:=if ended then [.bad 50] else []
inductive JN where
 |fin (rest:List Nat)|bad (e:Nat)|short
def cy (l:List Nat):Nat→Nat→DS→List Nat→List Ev×JN
 |_,_,_,[]=>([],.short)
 |k,m,d,x::b=>match c9 l (2*k+x) (m+1) with
  |none=>cy l (2*k+x) (m+1) d b
  |some y=>match bX d y with
   |none=>([],.bad 160)
   |some (_,t,true)=>(if t= [] then [] else [.bytes t],.fin b)
   |some (d',t,false)=>let r:=cy l 0 0 d' b;(if t= [] then r.1 else .bytes t::r.1,r.2)
def pM (ended:Bool) (M:Nat) (rest:List Nat):List Ev×Option (List Nat):=match run (bd cp) t0 (ba rest) with
 | .short _=>(sh ended,none)
 | .bad e=>([.bad e],none)
 | .fin l more=>match cy l 0 0 ⟨List.range 256,M,0,0⟩ more with
  |(dn,.short)=>(dn++sh ended,none)
  |(dn,.bad e)=>(dn++ [.bad e],none)
  |(dn,.fin left)=>if pC left then (dn++ [.bend],some (rest.drop (rest.length - left.length/8))) else (dn++ [.bad 160],none)
def uY (ended:Bool) (n:Nat):Nat→List Nat→List Ev
 |0,_=> []
 |k+1,b=>match run (aX n) gp b with
  | .short _=>sh ended
  | .bad e=> [.bad e]
  | .fin (.tail s) rest=> .tail s::(if rest≠ [] then [.bad 261] else if ended then [.fin] else [])
  | .fin (.aD M P s) rest=> .aD M P s::((pM ended M rest).1++match (pM ended M rest).2 with
   |none=> []
   |some behind=>uY ended n k behind)
def dn (ended:Bool) (c:List Nat):List Ev:=match run cr ⟨0,0⟩ c with
 | .short _=>sh ended
 | .bad e=> [.bad e]
 | .fin n rest=> .hdr n::uY ended n (rest.length+1) rest
theorem yB {c:List Nat} (hc: ∀x∈c,x<256) {i:Nat} (hi:i<c.length):val c (8*i) 8=c[i]:=by
 have e:c.getD i 0=c[i]:=by simp [List.getD,hi]
 rw [vE c i (by rw [e];exact hc _ (List.getElem_mem hi)),e]
theorem zd {c:List Nat} {i:Nat} (hi:i<c.length):c.drop i=c[i]::c.drop (i+1):=List.drop_eq_getElem_cons hi
theorem zw {c:List Nat} {u:Nat} (hu:u<8*c.length):(ba c).drop u=bR c u::(ba c).drop (u+1):=by
 have hl:=bD c
 rw [List.drop_eq_getElem_cons (by omega)]
 congr 1
 simp [ba,bitsOf]
theorem uK {c:List Nat} {u:Nat} (hu:8*c.length≤u):(ba c).drop u= []:=List.drop_of_length_le (by rw [bD];exact hu)
theorem oI (c:List Nat) (i:Nat):ba (c.drop i)=(ba c).drop (8*i):=by
 rcases Nat.le_total i c.length with h|h
 ·have:=pI (c.take i) (c.drop i)
  rw [List.take_append_drop] at this
  rw [this,List.drop_append_of_le_length (by rw [bD,List.length_take];omega),List.drop_of_length_le (l:=ba (c.take i)) (by rw [bD,List.length_take];omega),List.nil_append]
 ·rw [List.drop_of_length_le h,List.drop_of_length_le (by rw [bD];omega)];rfl
section
variable {ended:Bool} {c:List Nat}
theorem lK {s:PS} {n u:Nat} (h:aF ended c s u=short ended n u):cP ended c s u=sh ended:=by
 unfold short at h
 unfold sh
 cases ended with
 |true=>exact gg h rfl
 |false=>exact qd h
theorem wv (hc: ∀x∈c,x<256): ∀(k i:Nat) (h:HS),c.length - i=k→i≤c.length→cP ended c (.head h) (8*i)=match run cr h (c.drop i) with
  | .short _=>sh ended
  | .bad e=> [.bad e]
  | .fin n rest=> .hdr n::cP ended c (.mark n gp) (8*(c.length - rest.length))
 |0,i,h,hk,hi=>by
  rw [List.drop_of_length_le (by omega),sr]
  exact lK (by simp only [aF];rw [if_neg (by omega)])
 |k+1,i,h,hk,hi=>by
  have hlt:i<c.length:=by omega
  rw [zd hlt,eP]
  have hm:aF ended c (.head h) (8*i)=match cr h c[i] with
   | .more h'=> .go (.head h') (8*i+8)
   | .fin n=> .ev (.hdr n) (.mark n gp) (8*i+8)
   | .bad e=> .ev (.bad e) (.bad 0 e) (8*i+8):=by
   simp only [aF];rw [if_pos (by omega),yB hc hlt]<;>rfl
  cases hh:cr h c[i] with
  |more h'=>
   rw [hh] at hm
   rw [jy hm,show 8*i+8=8*(i+1) by omega]
   exact wv hc k (i+1) h' (by omega) (by omega)
  |fin n=>
   rw [hh] at hm
   rw [kT (by omega) hm rfl];simp only [List.length_drop];rw [show c.length - (c.length - (i+1))=i+1 by omega,show 8*i+8=8*(i+1) by omega]
  |bad e=>
   rw [hh] at hm
   rw [gg hm rfl]
theorem wb (hc: ∀x∈c,x<256) (n:Nat): ∀(k i:Nat) (m:MS),c.length - i=k→i≤c.length→cP ended c (.mark n m) (8*i)=match run (aX n) m (c.drop i) with
  | .short _=>sh ended
  | .bad e=> [.bad e]
  | .fin (.tail s) rest=> .tail s::cP ended c (.behind n) (8*(c.length - rest.length))
  | .fin (.aD M P s) rest=> .aD M P s::cP ended c (.tab n M t0) (8*(c.length - rest.length))
 |0,i,h,hk,hi=>by
  rw [List.drop_of_length_le (by omega),sr]
  exact lK (n:=n) (by simp only [aF];rw [if_neg (by omega)])
 |k+1,i,m,hk,hi=>by
  have hlt:i<c.length:=by omega
  rw [zd hlt,eP]
  have hm:aF ended c (.mark n m) (8*i)=match aX n m c[i] with
   | .more m'=> .go (.mark n m') (8*i+8)
   | .fin (.tail s)=> .ev (.tail s) (.behind n) (8*i+8)
   | .fin (.aD M P s)=> .ev (.aD M P s) (.tab n M t0) (8*i+8)
   | .bad e=> .ev (.bad e) (.bad n e) (8*i+8):=by
   simp only [aF];rw [if_pos (by omega),yB hc hlt]<;>rfl
  cases hh:aX n m c[i] with
  |more m'=>
   rw [hh] at hm
   rw [jy hm,show 8*i+8=8*(i+1) by omega]
   exact wb hc n k (i+1) m' (by omega) (by omega)
  |fin mk=>
   rw [hh] at hm
   cases mk with
   |tail s=>rw [kT (by omega) hm rfl];simp only [List.length_drop];rw [show c.length - (c.length - (i+1))=i+1 by omega,show 8*i+8=8*(i+1) by omega]
   |aD M P s=>rw [kT (by omega) hm rfl];simp only [List.length_drop];rw [show c.length - (c.length - (i+1))=i+1 by omega,show 8*i+8=8*(i+1) by omega]
  |bad e=>
   rw [hh] at hm
   rw [gg hm rfl]
theorem yy (n M:Nat): ∀(k u:Nat) (t:TS),8*c.length - u=k→u≤8*c.length→cP ended c (.tab n M t) u=match run (bd cp) t ((ba c).drop u) with
  | .short _=>sh ended
  | .bad e=> [.bad e]
  | .fin l more=>cP ended c (.sym n l 0 0 ⟨List.range 256,M,0,0⟩) (8*c.length - more.length)
 |0,u,t,hk,hu=>by
  rw [uK (by omega),sr]
  exact lK (n:=n) (by simp only [aF];rw [if_neg (by omega)])
 |k+1,u,t,hk,hu=>by
  rw [zw (by omega),eP]
  have hm:aF ended c (.tab n M t) u=match bd cp t (bR c u) with
   | .more t'=> .go (.tab n M t') (u+1)
   | .fin l=> .go (.sym n l 0 0 ⟨List.range 256,M,0,0⟩) (u+1)
   | .bad e=> .ev (.bad e) (.bad n e) (u+1):=by
   simp only [aF];rw [if_pos (by omega)]<;>rfl
  cases hh:bd cp t (bR c u) with
  |more t'=>
   rw [hh] at hm
   rw [jy hm]
   exact yy n M k (u+1) t' (by omega) (by omega)
  |fin l=>
   rw [hh] at hm
   rw [jy hm];simp only [List.length_drop,bD];rw [show 8*c.length - (8*c.length - (u+1))=u+1 by omega]
  |bad e=>
   rw [hh] at hm
   rw [gg hm rfl]
theorem sQ (n:Nat) (l:List Nat): ∀(q u k m:Nat) (d:DS),8*c.length - u=q→u≤8*c.length→cP ended c (.sym n l k m d) u=match cy l k m d ((ba c).drop u) with
  |(dn,.short)=>dn++sh ended
  |(dn,.bad e)=>dn++ [.bad e]
  |(dn,.fin left)=>dn++cP ended c (.pad n) (8*c.length - left.length)
 |0,u,k,m,d,hk,hu=>by
  rw [uK (by omega)]
  exact lK (n:=n) (by simp only [aF];rw [if_neg (by omega)])
 |q+1,u,k,m,d,hk,hu=>by
  rw [zw (by omega),cy]
  have hm:aF ended c (.sym n l k m d) u=match c9 l (2*k+bR c u) (m+1) with
   |none=> .go (.sym n l (2*k+bR c u) (m+1) d) (u+1)
   |some y=>match bX d y with
    |none=> .ev (.bad 160) (.bad n 160) (u+1)
    |some (d',t,en)=>if t= [] then .go (if en then .pad n else .sym n l 0 0 d') (u+1) else .ev (.bytes t) (if en then .pad n else .sym n l 0 0 d') (u+1):=by
   simp only [aF];rw [if_pos (by omega)]<;>rfl
  cases hf:c9 l (2*k+bR c u) (m+1) with
  |none=>
   rw [hf] at hm
   rw [jy hm]
   exact sQ n l q (u+1) _ _ d (by omega) (by omega)
  |some y=>
   rw [hf] at hm
   simp only at hm
   simp only
   cases hd:bX d y with
   |none=>
    rw [hd] at hm
    rw [gg hm rfl];rfl
   |some p=>
    obtain ⟨d',t,en⟩:=p
    rw [hd] at hm
    simp only at hm
    cases en with
    |true=>
     simp only
     by_cases ht:t= []
     ·rw [if_pos ht] at hm
      rw [if_pos ht,jy hm];simp only [List.length_drop,bD];rw [show 8*c.length - (8*c.length - (u+1))=u+1 by omega];rfl
     ·rw [if_neg ht] at hm
      rw [if_neg ht,kT hu hm rfl];simp only [List.length_drop,bD];rw [show 8*c.length - (8*c.length - (u+1))=u+1 by omega];rfl
    |false=>
     have ih:=sQ n l q (u+1) 0 0 d' (by omega) (by omega)
     simp only
     by_cases ht:t= []
     ·rw [if_pos ht] at hm
      rw [if_pos ht,jy hm]
      exact ih
     ·rw [if_neg ht] at hm
      rw [if_neg ht,kT hu hm rfl]
      simp only [Bool.false_eq_true,if_false]
      rw [ih]
      rcases cy l 0 0 d' ((ba c).drop (u+1)) with ⟨dn,r⟩
      cases r<;>rfl
theorem np {α:Type} {a b:List α} (h: ∃x,b=x++a):a=b.drop (b.length - a.length):=by
 obtain ⟨x,rfl⟩:=h
 rw [List.length_append,Nat.add_sub_cancel,List.drop_left]
theorem sH {α σ β ε:Type} {f:σ→α→vA σ β ε} {l:List α} {s:σ} {b:β} {r:List α} (h:run f s l= .fin b r):(∃x,l=x++r)∧r.length<l.length:=by
 obtain ⟨a,c,s',e,_,_⟩:=tg h
 refine ⟨⟨a++ [c],by rw [e];simp⟩,by rw [e];simp;omega⟩
theorem qJ (l:List Nat): ∀(b:List Nat) (k m:Nat) (d:DS) (dn:List Ev) (left:List Nat),cy l k m d b=(dn,.fin left)→(∃x,b=x++left)∧left.length<b.length
 | [],_,_,_,_,_,h=>by simp [cy] at h
 |x::b,k,m,d,dn,left,h=>by
  rw [cy] at h
  have up:((∃y,b=y++left)∧left.length<b.length)→(∃y,x::b=y++left)∧left.length<(x::b).length:=fun ⟨⟨y,e⟩,hl⟩=>⟨⟨x::y,by rw [e];rfl⟩,by rw [List.length_cons];omega⟩
  cases hf:c9 l (2*k+x) (m+1) with
  |none=>rw [hf] at h;exact up (qJ l b _ _ d dn left h)
  |some y=>
   rw [hf] at h
   simp only at h
   cases hd:bX d y with
   |none=>rw [hd] at h;simp at h
   |some p=>
    obtain ⟨d',t,en⟩:=p
    rw [hd] at h
    cases en with
    |true=>
     simp only at h
     injection h with h1 h2
     injection h2 with h2
     exact ⟨⟨[x],by rw [h2];rfl⟩,by rw [h2];simp⟩
    |false=>
     simp only at h
     injection h with h1 h2
     refine up (qJ l b 0 0 d' (cy l 0 0 d' b).1 left ?_)
     rw [←h2]
theorem val_zero (b:List Nat) (a:Nat): ∀n,val b a n=0↔∀j,j<n→bR b (a+j)=0
 |0=>by simp [val]
 |n+1=>by
  have ih:=val_zero b a n
  rw [val]
  constructor
  ·intro h j hj
   by_cases e:j=n
   ·rw [e];omega
   ·exact ih.1 (by omega) j (by omega)
  ·intro h
   have:=ih.2 fun j hj=>h j (by omega)
   have:=h n (by omega)
   omega
theorem Bu {u:Nat} (hu:u≤8*c.length):pC ((ba c).drop u)=true↔val c u (im u)=0:=by
 rw [val_zero]
 unfold pC
 rw [List.all_eq_true,List.length_drop,bD]
 have hg:(8*c.length - u) % 8=im u:=by unfold im;split<;>omega
 have hle:=BR (c:=c) hu
 rw [hg]
 have at_: ∀j,j<im u→(((ba c).drop u).take (im u))[j]? =some (bR c (u+j)):=fun j hj=>by
  rw [List.getElem?_take,if_pos hj,List.getElem?_drop]
  simp [ba,bitsOf,show u+j<8*c.length by omega]
 constructor
 ·intro h j hj
  have:=h (bR c (u+j)) (List.mem_of_getElem? (at_ j hj))
  simpa using this
 ·intro h x hx
  obtain ⟨j,hj,e⟩:=List.mem_iff_getElem.1 hx
  have hj2:j<im u:=by rw [List.length_take] at hj;omega
  have:=at_ j hj2
  rw [List.getElem?_eq_getElem hj,e] at this
  injection this with this
  rw [this,h j hj2];rfl
theorem Ce (n M:Nat) {i:Nat} (hi:i≤c.length):cP ended c (.tab n M t0) (8*i)=(pM ended M (c.drop i)).1++match (pM ended M (c.drop i)).2 with
  |none=> []
  |some behind=>cP ended c (.mark n gp) (8*(c.length - behind.length)):=by
 rw [yy n M _ (8*i) t0 rfl (by omega),←oI]
 unfold pM
 cases hr:run (bd cp) t0 (ba (c.drop i)) with
 |short s=>simp
 |bad e=>simp
 |fin l more=>
  simp only
  obtain ⟨h1,h2⟩:=sH hr
  rw [oI] at h1 h2
  have hm:more=(ba c).drop (8*c.length - more.length):=by
   have:=np h1
   rw [List.drop_drop,List.length_drop,bD] at this
   rw [List.length_drop,bD] at h2
   rwa [show 8*i+(8*c.length - 8*i - more.length)=8*c.length - more.length by omega] at this
  rw [List.length_drop,bD] at h2
  rw [sQ n l _ _ 0 0 _ rfl (by omega),←hm]
  cases hs:cy l 0 0 ⟨List.range 256,M,0,0⟩ more with
  |mk dn r=>
   cases r with
   |short=>simp
   |bad e=>simp
   |fin left=>
    simp only
    obtain ⟨h3,h4⟩:=qJ l _ _ _ _ _ _ hs
    generalize hu:8*c.length - left.length=u
    have hul:u≤8*c.length:=by omega
    have hleft:left=(ba c).drop u:=by
     have:=np h3
     rw [hm,List.drop_drop,List.length_drop,bD] at this
     rwa [show 8*c.length - more.length+(8*c.length - (8*c.length - more.length) - left.length)=u by omega] at this
    have hp:=Bu (c:=c) hul
    rw [←hleft] at hp
    by_cases hpo:pC left=true
    ·have hmic:aF ended c (.pad n) u= .ev .bend (.mark n gp) (u+im u):=by simp only [aF];rw [if_pos (hp.1 hpo)]
     rw [if_pos hpo,kT hul hmic rfl]
     simp only
     rw [List.length_drop,List.length_drop,show u+im u=8*(c.length - (c.length - i - (c.length - i - left.length/8))) by unfold im;split<;>omega]
     simp
    ·have hmic:aF ended c (.pad n) u= .ev (.bad 160) (.bad n 160) (u+im u):=by simp only [aF];rw [if_neg (fun e=>hpo (hp.2 e))]
     rw [if_neg hpo,gg hmic rfl]
     simp
theorem D3 {M:Nat} {rest behind:List Nat} (h:(pM ended M rest).2=some behind): ∃k,behind=rest.drop k:=by
 unfold pM at h
 cases hr:run (bd cp) t0 (ba rest) with
 |short s=>rw [hr] at h;simp at h
 |bad e=>rw [hr] at h;simp at h
 |fin l more=>
  rw [hr] at h
  simp only at h
  cases hs:cy l 0 0 ⟨List.range 256,M,0,0⟩ more with
  |mk dn r=>
   rw [hs] at h
   cases r with
   |short=>simp at h
   |bad e=>simp at h
   |fin left=>
    simp only at h
    split at h
    ·simp only at h;injection h with h;exact ⟨_,h.symm⟩
    ·simp at h
theorem yX (hc: ∀x∈c,x<256) (n:Nat): ∀(k i:Nat),i≤c.length→c.length - i<k→cP ended c (.mark n gp) (8*i)=uY ended n k (c.drop i)
 |0,i,hi,hk=>by omega
 |k+1,i,hi,hk=>by
  rw [wb hc n _ i gp rfl hi,uY]
  cases hr:run (aX n) gp (c.drop i) with
  |short s=>rfl
  |bad e=>rfl
  |fin mk rest=>
   obtain ⟨h1,h2⟩:=sH hr
   rw [List.length_drop] at h2
   have hrest:rest=c.drop (c.length - rest.length):=by
    have:=np h1
    rw [List.drop_drop,List.length_drop] at this
    rwa [show i+(c.length - i - rest.length)=c.length - rest.length by omega] at this
   cases mk with
   |tail s=>
    simp only
    congr 1
    by_cases hz:rest= []
    ·have hl:rest.length=0:=by rw [hz];rfl
     cases hE:ended with
     |true=>
      have hmic:aF true c (.behind n) (8*(c.length - rest.length))= .ev .fin (.ab n) (8*(c.length - rest.length)):=by simp only [aF];rw [if_neg (by omega)]<;>rfl
      rw [gg hmic rfl];simp [hz]
     |false=>
      have hmic:aF false c (.behind n) (8*(c.length - rest.length))= .need:=by simp only [aF];rw [if_neg (by omega)]<;>rfl
      rw [qd hmic];simp [hz]
    ·have hl:=List.length_pos_iff.2 hz
     have hmic:aF ended c (.behind n) (8*(c.length - rest.length))= .ev (.bad 261) (.bad n 261) (8*(c.length - rest.length)):=by simp only [aF];rw [if_pos (by omega)]
     rw [gg hmic rfl];simp [hz]
   |aD M P s=>
    simp only
    congr 1
    rw [Ce n M (by omega),←hrest]
    congr 1
    cases hb:(pM ended M rest).2 with
    |none=>rfl
    |some behind=>
     simp only
     obtain ⟨q,e⟩:=D3 hb
     have hbl:behind.length≤rest.length:=by rw [e,List.length_drop];omega
     rw [yX hc n k _ (by omega) (by omega)]
     congr 1
     rw [e,hrest,List.drop_drop,List.length_drop]
     rcases Nat.le_total q rest.length with hq|hq
     ·congr 1;omega
     ·rw [List.drop_of_length_le (by omega),List.drop_of_length_le (by omega)]
theorem Gl (hc: ∀x∈c,x<256):cP ended c (.head ⟨0,0⟩) 0=dn ended c:=by
 have h:=wv (ended:=ended) hc _ 0 ⟨0,0⟩ rfl (by omega)
 rw [Nat.mul_zero,List.drop_zero] at h
 rw [h]
 unfold dn
 cases hr:run cr ⟨0,0⟩ c with
 |short s=>rfl
 |bad e=>rfl
 |fin n rest=>
  obtain ⟨h1,h2⟩:=sH hr
  have hrest:=np h1
  simp only
  congr 1
  rw [yX hc n (rest.length+1) _ (by omega) (by omega),←hrest]
end
end Go.Prs
set_option maxRecDepth 20000
namespace Go.Srt
theorem DM {l:List Nat} {c b x:Nat} (hl:l.length=258) (h:mz l c b) (hx:x≤1):(eA l c b x).2=c9 l (2*c+x) (b+1):=by
 cases hs:(eA l c b x).2 with
 |some s=>
  obtain ⟨h1,h2,h3,h4⟩:=wO hl h hx hs
  have:=rT hl (s:=s) ⟨h1,by omega⟩
  rw [h2,h3] at this
  exact this.symm
 |none=>
  cases hf:c9 l (2*c+x) (b+1) with
  |none=>rfl
  |some s=>
   obtain ⟨⟨h1,h2⟩,h3,h4⟩:=nJ hf
   have hr:=yF (l:=l) (s:=s) (by omega) h2
   unfold code at h4
   unfold eA at hs
   split at hs
   ·rename_i hle
    rw [h3] at h4 hr
    omega
   ·cases hs
theorem FI {l:List Nat} {c b x:Nat}:(eA l c b x).1=match (eA l c b x).2 with|none=>(2*c+x,b+1)|some _=>(0,0):=by
 cases hs:(eA l c b x).2 with
 |none=>exact Dc hs
 |some s=>exact Dm hs
end Go.Srt
namespace Go.Proofs.YtgglghjnakclmaaGreat
open Go Go.Vc Go.aK Go.Srt Go.Inc Go.Sym Go.Tab Go.Hd Go.Prs
abbrev gA:=Int×Int×Int×Int×Int×Sl×Int×Unit
abbrev jx:Ki:= .st [.int .u8,.int .i64,.int .i64,.int .i64,.int .u32,.sl,.int .i64]
def fk (o:Option Ev) (s:Sl):gA:=match o with
 |none=>(1,0,0,0,0,s,0,())
 |some (.hdr n)=>(2,(n:Int),0,0,0,s,0,())
 |some (.aD M P u)=>(3,0,(M:Int),(P:Int),(u:Int),s,0,())
 |some (.bytes _)=>(4,0,0,0,0,s,0,())
 |some .bend=>(5,0,0,0,0,s,0,())
 |some (.tail u)=>(6,0,0,0,(u:Int),s,0,())
 |some .fin=>(7,0,0,0,0,s,0,())
 |some (.bad e)=>(8,0,0,0,0,s,(e:Int),())
def jl (o:Option Ev):List Nat:=match o with
 |some (.bytes t)=>t
 |_=> []
structure PF where
 a:Int
 h0:Int
 h1:Int
 h2:Int
 h3:Int
 m0:Int
 m1:Int
 m2:Int
 m3:Int
 m4:Int
 m5:Int
 m6:Int
 T:List Value
 C:List Value
 B:List Value
 e:Int
abbrev nS (a h0 h1 h2 h3 m0 m1 m2 m3 m4 m5 m6:Int) (T C B:List Value) (e:Int):Array Value:=
 ⟨.int .i64 a:: .int .i64 h0:: .int .i64 h1:: .int .i64 h2:: .int .i64 h3:: .int .i64 m0:: .int .i64 m1:: .int .i64 m2:: .int .i64 m3:: .int .i64 m4:: .int .u32 m5:: .int .i64 m6::(T++(C++(B++ [.int .i64 e])))⟩
def rO (s:PS) (y:PF):Prop:=(y.T.length=262∧y.C.length=260∧y.B.length=260)∧match s with
 | .head h=>y.a=1∧y.h0=(h.at_:Int)∧y.h1=(h.v:Int)∧y.h2=(vm h.v:Int)∧y.h3=0∧y.m0=0∧y.m1=0∧y.m2=0∧y.m3=0∧y.m4=0∧y.m5=0∧y.m6=0∧vy h
 | .mark n m=>y.a=2∧y.h3=(n:Int)∧y.m0=(m.at_:Int)∧y.m1=(m.v:Int)∧y.m2=(vm m.v:Int)∧y.m3=(m.M:Int)∧y.m4=(m.P:Int)∧y.m5=(m.sum:Int)∧y.m6=(m.many:Int)∧1≤n∧n≤65536∧l8 n m
 | .tab n M t=>y.a=3∧y.h3=(n:Int)∧y.m3=(M:Int)∧1≤M∧M≤n∧n≤65536∧y.T=(dL (pad t.l) (t.l.length:Int) (t.bits:Int) (t.now:Int) (t.way:Int)).toList∧gh t
 | .sym n l k m d=>y.a=4∧y.h3=(n:Int)∧1≤n∧n≤65536∧y.C=(dc l k m).toList∧l.length=258∧mz l k m∧y.B=(fP d.L (d.left:Int) (d.run:Int) (d.digits:Int) false).toList∧jA d
 | .pad n=>y.a=5∧y.h3=(n:Int)∧1≤n∧n≤65536
 | .behind n=>y.a=6∧y.h3=(n:Int)
 | .ab n=>y.a=7∧y.h3=(n:Int)
 | .bad n e=>y.a=8∧y.h3=(n:Int)∧y.e=(e:Int)
def aS (b:Nat) (s:PS):HP:=fun f=> ∃y:PF,rO s y∧Sat [ao b (.cells (nS y.a y.h0 y.h1 y.h2 y.h3 y.m0 y.m1 y.m2 y.m3 y.m4 y.m5 y.m6 y.T y.C y.B y.e) 114 (0,0))] f
section
variable {E w:World} {F:List HP} {b:Nat} {s:PS}
theorem aS.fu (h:Hp E w (aS b s::F)): ∃y:PF,rO s y∧Hp E w (ao b (.cells (nS y.a y.h0 y.h1 y.h2 y.h3 y.m0 y.m1 y.m2 y.m3 y.m4 y.m5 y.m6 y.T y.C y.B y.e) 114 (0,0))::F):=by
 obtain ⟨y,h1,h⟩:=h.EO (X:=fun y:PF=>rO s y) (L:=fun y=> [ao b (.cells (nS y.a y.h0 y.h1 y.h2 y.h3 y.m0 y.m1 y.m2 y.m3 y.m4 y.m5 y.m6 y.T y.C y.B y.e) 114 (0,0))]) (fun f hf=>hf)
 exact ⟨y,h1,h⟩
theorem aS.shut (y:PF) (hr:rO s y) (h:Hp E w (ao b (.cells (nS y.a y.h0 y.h1 y.h2 y.h3 y.m0 y.m1 y.m2 y.m3 y.m4 y.m5 y.m6 y.T y.C y.B y.e) 114 (0,0))::F)):Hp E w (aS b s::F):=
 Hp.EY (l:= [_]) (fun f hf=>⟨y,hr,hf⟩) h
theorem aS.sh {a h0 h1 h2 h3 m0 m1 m2 m3 m4 m5 m6 e:Int} {T C B:List Value} (h:Hp E w (ao b (.cells (nS a h0 h1 h2 h3 m0 m1 m2 m3 m4 m5 m6 T C B e) 114 (0,0))::F)) (hr:rO s ⟨a,h0,h1,h2,h3,m0,m1,m2,m3,m4,m5,m6,T,C,B,e⟩):Hp E w (aS b s::F):=
 aS.shut ⟨a,h0,h1,h2,h3,m0,m1,m2,m3,m4,m5,m6,T,C,B,e⟩ hr h
end
section
variable {E w:World} {l F:List HP} {b:Nat} {x0 x1 x2 x3 x4 x5 x6 x7 x8 x9 x10 x11:Value} {T C B post:List Value} {z:Value} {t:TypeId} {fr:Nat×Nat} {put:Obj→List HP} {cs:Array Value} {K:World→Prop} {KA:Array Value→Prop}
abbrev nK (x0 x1 x2 x3 x4 x5 x6 x7 x8 x9 x10 x11:Value) (R:List Value):Array Value:=⟨x0::x1::x2::x3::x4::x5::x6::x7::x8::x9::x10::x11::R⟩
theorem Aj [bo b l (nK x0 x1 x2 x3 x4 x5 x6 x7 x8 x9 x10 x11 (T++post)) t (0,0) put] (h:Hp E w l) (hT:T.length=262) (hcs:cs.size=262) (hv:cs.toList.all ay=true)
  (hK: ∀w',Hp E w' (put (.cells (nK x0 x1 x2 x3 x4 x5 x6 x7 x8 x9 x10 x11 (cs.toList++post)) t (0,0)))→K w'):aq 262 ⟨b,12,none⟩ cs w K:=
 aq.xm (pre:= [x0,x1,x2,x3,x4,x5,x6,x7,x8,x9,x10,x11]) (mid:=T) (post:=post) h rfl rfl hT hcs (List.all_eq_true.1 hv) hK
theorem Gy [bo b l (nK x0 x1 x2 x3 x4 x5 x6 x7 x8 x9 x10 x11 (T++(C++post))) t (0,0) put] (h:Hp E w l) (hT:T.length=262) (hC:C.length=260) (hcs:cs.size=260) (hv:cs.toList.all ay=true)
  (hK: ∀w',Hp E w' (put (.cells (nK x0 x1 x2 x3 x4 x5 x6 x7 x8 x9 x10 x11 (T++(cs.toList++post))) t (0,0)))→K w'):aq 260 ⟨b,274,none⟩ cs w K:=
 aq.xm (pre:=x0::x1::x2::x3::x4::x5::x6::x7::x8::x9::x10::x11::T) (mid:=C) (post:=post) h rfl (by simp [hT]) hC hcs (List.all_eq_true.1 hv) hK
theorem DW [bo b l (nK x0 x1 x2 x3 x4 x5 x6 x7 x8 x9 x10 x11 (T++(C++(B++post)))) t (0,0) put] (h:Hp E w l) (hT:T.length=262) (hC:C.length=260) (hB:B.length=260) (hcs:cs.size=260) (hv:cs.toList.all ay=true)
  (hK: ∀w',Hp E w' (put (.cells (nK x0 x1 x2 x3 x4 x5 x6 x7 x8 x9 x10 x11 (T++(C++(cs.toList++post)))) t (0,0)))→K w'):aq 260 ⟨b,534,none⟩ cs w K:=
 aq.xm (pre:=x0::x1::x2::x3::x4::x5::x6::x7::x8::x9::x10::x11::(T++C)) (mid:=B) (post:=post) h (by simp) (by simp [hT,hC]) hB hcs (List.all_eq_true.1 hv) (fun w' h'=>hK w' (by simpa using h'))
theorem JT {v:Value} [bo b l (nK x0 x1 x2 x3 x4 x5 x6 x7 x8 x9 x10 x11 (T++(C++(B++ [z])))) t (0,0) put] (h:Hp E w l) (hT:T.length=262) (hC:C.length=260) (hB:B.length=260) (hv:ay v=true)
  (hK: ∀w',Hp E w' (put (.cells (nK x0 x1 x2 x3 x4 x5 x6 x7 x8 x9 x10 x11 (T++(C++(B++ [v])))) t (0,0)))→K w'):St ⟨b,794,none⟩ v w K:=
 St.xm (pre:=x0::x1::x2::x3::x4::x5::x6::x7::x8::x9::x10::x11::(T++(C++B))) (u:=z) (post:= []) h (by simp) (by simp [hT,hC,hB]) hv (fun w' h'=>hK w' (by simpa using h'))
theorem JQ [bo b l (nK x0 x1 x2 x3 x4 x5 x6 x7 x8 x9 x10 x11 (T++post)) t fr put] (h:Hp E w l) (hT:T.length=262) (hK:KA ⟨T⟩):Ld (.arr 262) ⟨b,12,none⟩ w KA:=
 Ld.xa (mid:=T) (post:=post) h rfl hT hK
theorem J2 [bo b l (nK x0 x1 x2 x3 x4 x5 x6 x7 x8 x9 x10 x11 (T++(C++post))) t fr put] (h:Hp E w l) (hT:T.length=262) (hC:C.length=260) (hK:KA ⟨C⟩):Ld (.arr 260) ⟨b,274,none⟩ w KA:=
 Ld.xa (mid:=C) (post:=post) h (by show (T++(C++post)).drop 262=_;rw [List.drop_left' hT]) hC hK
theorem J7 [bo b l (nK x0 x1 x2 x3 x4 x5 x6 x7 x8 x9 x10 x11 (T++(C++(B++post)))) t fr put] (h:Hp E w l) (hT:T.length=262) (hC:C.length=260) (hB:B.length=260) (hK:KA ⟨B⟩):Ld (.arr 260) ⟨b,534,none⟩ w KA:=
 Ld.xa (mid:=B) (post:=post) h (by show (T++(C++(B++post))).drop 522=_;rw [←List.append_assoc,List.drop_left' (by simp [hT,hC])]) hB hK
theorem JG {e:Int} {KI:Int→Prop} [bo b l (nK x0 x1 x2 x3 x4 x5 x6 x7 x8 x9 x10 x11 (T++(C++(B++ [.int .i64 e])))) t fr put] (h:Hp E w l) (hT:T.length=262) (hC:C.length=260) (hB:B.length=260) (hK:KI e):Ld kI ⟨b,794,none⟩ w KI:=by
 refine Ld.xb (x:=e) h ?_ hK
 show (T++(C++(B++ [.int .i64 e])))[782]? =_
 rw [←List.append_assoc,←List.append_assoc,List.getElem?_append_right (by simp [hT,hC,hB])]
 simp [hT,hC,hB]
end
section
variable {E w:World} {F:List HP} {b pr:Nat} {c:List Nat} {u:Nat} {ended:Bool}
theorem cm {n:Nat} {K:Int×Unit→World→Prop} (h:Hp E w F) (hK: ∀w',Hp E w' F→K ((n:Int),()) w') (hn:n=1∨n=2∨n=3∨n=4∨n=5∨n=6∨n=7∨n=8):
  Cl Tryz.prog [.st [.int .i64]] (match n with|1=>fy|2=>dQ|3=>di|4=>dR|5=>dM|6=>dJ|7=>eU|_=>fL) ⟨[]⟩ w K:=by
 rcases hn with rfl|rfl|rfl|rfl|rfl|rfl|rfl|rfl
 ·refine ux.ok _ _ ?_
  (with_reducible repeat first|refine Nw.mk h fun b w h=> ?_|refine ah.mk h fun w h=> ?_|refine Ld.xb h rfl ?_|refine Ld.xt h rfl ?_|refine ad.xb (fun _ h=>h) rfl ?_|refine ad.xt (fun _ h=>h) rfl ?_|refine ⟨h.hb,?_⟩|refine ae.xw h rfl rfl fun w h=> ?_|(refine ae.xs h rfl rfl fun w h=> ?_;dsimp only [af,ab] at h)|(refine St.xs h rfl rfl fun w h=> ?_;dsimp only [af,ab] at h)|refine aa.yes ?_|refine aa.no ?_|refine ⟨by first|omega|decide,?_⟩)
  exact hK _ h.tl
 ·refine uk.ok _ _ ?_
  (with_reducible repeat first|refine Nw.mk h fun b w h=> ?_|refine ah.mk h fun w h=> ?_|refine Ld.xb h rfl ?_|refine Ld.xt h rfl ?_|refine ad.xb (fun _ h=>h) rfl ?_|refine ad.xt (fun _ h=>h) rfl ?_|refine ⟨h.hb,?_⟩|refine ae.xw h rfl rfl fun w h=> ?_|(refine ae.xs h rfl rfl fun w h=> ?_;dsimp only [af,ab] at h)|(refine St.xs h rfl rfl fun w h=> ?_;dsimp only [af,ab] at h)|refine aa.yes ?_|refine aa.no ?_|refine ⟨by first|omega|decide,?_⟩)
  exact hK _ h.tl
 ·refine sM.ok _ _ ?_
  (with_reducible repeat first|refine Nw.mk h fun b w h=> ?_|refine ah.mk h fun w h=> ?_|refine Ld.xb h rfl ?_|refine Ld.xt h rfl ?_|refine ad.xb (fun _ h=>h) rfl ?_|refine ad.xt (fun _ h=>h) rfl ?_|refine ⟨h.hb,?_⟩|refine ae.xw h rfl rfl fun w h=> ?_|(refine ae.xs h rfl rfl fun w h=> ?_;dsimp only [af,ab] at h)|(refine St.xs h rfl rfl fun w h=> ?_;dsimp only [af,ab] at h)|refine aa.yes ?_|refine aa.no ?_|refine ⟨by first|omega|decide,?_⟩)
  exact hK _ h.tl
 ·refine qz.ok _ _ ?_
  (with_reducible repeat first|refine Nw.mk h fun b w h=> ?_|refine ah.mk h fun w h=> ?_|refine Ld.xb h rfl ?_|refine Ld.xt h rfl ?_|refine ad.xb (fun _ h=>h) rfl ?_|refine ad.xt (fun _ h=>h) rfl ?_|refine ⟨h.hb,?_⟩|refine ae.xw h rfl rfl fun w h=> ?_|(refine ae.xs h rfl rfl fun w h=> ?_;dsimp only [af,ab] at h)|(refine St.xs h rfl rfl fun w h=> ?_;dsimp only [af,ab] at h)|refine aa.yes ?_|refine aa.no ?_|refine ⟨by first|omega|decide,?_⟩)
  exact hK _ h.tl
 ·refine qj.ok _ _ ?_
  (with_reducible repeat first|refine Nw.mk h fun b w h=> ?_|refine ah.mk h fun w h=> ?_|refine Ld.xb h rfl ?_|refine Ld.xt h rfl ?_|refine ad.xb (fun _ h=>h) rfl ?_|refine ad.xt (fun _ h=>h) rfl ?_|refine ⟨h.hb,?_⟩|refine ae.xw h rfl rfl fun w h=> ?_|(refine ae.xs h rfl rfl fun w h=> ?_;dsimp only [af,ab] at h)|(refine St.xs h rfl rfl fun w h=> ?_;dsimp only [af,ab] at h)|refine aa.yes ?_|refine aa.no ?_|refine ⟨by first|omega|decide,?_⟩)
  exact hK _ h.tl
 ·refine uu.ok _ _ ?_
  (with_reducible repeat first|refine Nw.mk h fun b w h=> ?_|refine ah.mk h fun w h=> ?_|refine Ld.xb h rfl ?_|refine Ld.xt h rfl ?_|refine ad.xb (fun _ h=>h) rfl ?_|refine ad.xt (fun _ h=>h) rfl ?_|refine ⟨h.hb,?_⟩|refine ae.xw h rfl rfl fun w h=> ?_|(refine ae.xs h rfl rfl fun w h=> ?_;dsimp only [af,ab] at h)|(refine St.xs h rfl rfl fun w h=> ?_;dsimp only [af,ab] at h)|refine aa.yes ?_|refine aa.no ?_|refine ⟨by first|omega|decide,?_⟩)
  exact hK _ h.tl
 ·refine xF.ok _ _ ?_
  (with_reducible repeat first|refine Nw.mk h fun b w h=> ?_|refine ah.mk h fun w h=> ?_|refine Ld.xb h rfl ?_|refine Ld.xt h rfl ?_|refine ad.xb (fun _ h=>h) rfl ?_|refine ad.xt (fun _ h=>h) rfl ?_|refine ⟨h.hb,?_⟩|refine ae.xw h rfl rfl fun w h=> ?_|(refine ae.xs h rfl rfl fun w h=> ?_;dsimp only [af,ab] at h)|(refine St.xs h rfl rfl fun w h=> ?_;dsimp only [af,ab] at h)|refine aa.yes ?_|refine aa.no ?_|refine ⟨by first|omega|decide,?_⟩)
  exact hK _ h.tl
 ·refine AK.ok _ _ ?_
  (with_reducible repeat first|refine Nw.mk h fun b w h=> ?_|refine ah.mk h fun w h=> ?_|refine Ld.xb h rfl ?_|refine Ld.xt h rfl ?_|refine ad.xb (fun _ h=>h) rfl ?_|refine ad.xt (fun _ h=>h) rfl ?_|refine ⟨h.hb,?_⟩|refine ae.xw h rfl rfl fun w h=> ?_|(refine ae.xs h rfl rfl fun w h=> ?_;dsimp only [af,ab] at h)|(refine St.xs h rfl rfl fun w h=> ?_;dsimp only [af,ab] at h)|refine aa.yes ?_|refine aa.no ?_|refine ⟨by first|omega|decide,?_⟩)
  exact hK _ h.tl
set_option maxRecDepth 20000
theorem ia {a h0 h1 h2 h3 m0 m1 m2 m3 m4 m5 m6 e0 e:Int} {T C B:List Value} {K:gA→Bool→World→Prop} (hT:T.length=262) (hC:C.length=260) (hB:B.length=260)
  (h:Hp E w (ao b (.cells (nS a h0 h1 h2 h3 m0 m1 m2 m3 m4 m5 m6 T C B e0) 114 (0,0))::F))
  (hK: ∀w',Hp E w' (ao b (.cells (nS 8 h0 h1 h2 h3 m0 m1 m2 m3 m4 m5 m6 T C B e) 114 (0,0))::F)→K (8,0,0,0,0,⟨none,0,0⟩,e,()) true w'):
  Cl Tryz.prog [jx,kB] aZ ⟨[.pointer (some ⟨b,0,none⟩),.int .i64 e]⟩ w K:=by
 refine nU.ok _ _ _ _ ?_
 (try simp only [au,ak,al,Nat.zero_add,Nat.add_zero,Nat.reduceAdd,Bool.not_true,Bool.not_false,aH,aE,Option.isNone])
 (with_reducible repeat first|refine Nw.mk h fun b w h=> ?_|refine ah.mk h fun w h=> ?_|refine Ld.xb h rfl ?_|refine Ld.xt h rfl ?_|refine ad.xb (fun _ h=>h) rfl ?_|refine ad.xt (fun _ h=>h) rfl ?_|refine ⟨h.hb,?_⟩|refine ae.xw h rfl rfl fun w h=> ?_|(refine ae.xs h rfl rfl fun w h=> ?_;dsimp only [af,ab] at h)|(refine St.xs h rfl rfl fun w h=> ?_;dsimp only [af,ab] at h)|refine aa.yes ?_|refine aa.no ?_|refine ⟨by first|omega|decide,?_⟩)
 refine cm (n:=8) h (fun w h=> ?_) (by simp)
 (with_reducible repeat first|refine Nw.mk h fun b w h=> ?_|refine ah.mk h fun w h=> ?_|refine Ld.xb h rfl ?_|refine Ld.xt h rfl ?_|refine ad.xb (fun _ h=>h) rfl ?_|refine ad.xt (fun _ h=>h) rfl ?_|refine ⟨h.hb,?_⟩|refine ae.xw h rfl rfl fun w h=> ?_|(refine ae.xs h rfl rfl fun w h=> ?_;dsimp only [af,ab] at h)|(refine St.xs h rfl rfl fun w h=> ?_;dsimp only [af,ab] at h)|refine aa.yes ?_|refine aa.no ?_|refine ⟨by first|omega|decide,?_⟩)
 refine JT h hT hC hB rfl fun w h=> ?_
 (with_reducible repeat first|refine Nw.mk h fun b w h=> ?_|refine ah.mk h fun w h=> ?_|refine Ld.xb h rfl ?_|refine Ld.xt h rfl ?_|refine ad.xb (fun _ h=>h) rfl ?_|refine ad.xt (fun _ h=>h) rfl ?_|refine ⟨h.hb,?_⟩|refine ae.xw h rfl rfl fun w h=> ?_|(refine ae.xs h rfl rfl fun w h=> ?_;dsimp only [af,ab] at h)|(refine St.xs h rfl rfl fun w h=> ?_;dsimp only [af,ab] at h)|refine aa.yes ?_|refine aa.no ?_|refine ⟨by first|omega|decide,?_⟩)
 exact hK _ (h.no 0)
theorem pd {a h0 h1 h2 h3 m0 m1 m2 m3 m4 m5 m6 e0:Int} {width:Nat} {T C B:List Value} {K:Int→gA→Bool→World→Prop} (hT:T.length=262) (hC:C.length=260) (hB:B.length=260) (hw:width≤32)
  (h:Hp E w (ao b (.cells (nS a h0 h1 h2 h3 m0 m1 m2 m3 m4 m5 m6 T C B e0) 114 (0,0))::Rd ⟨pr,0,none⟩ c u ended::F))
  (hgot:u+width≤8*c.length→∀w',Hp E w' (ao b (.cells (nS a h0 h1 h2 h3 m0 m1 m2 m3 m4 m5 m6 T C B e0) 114 (0,0))::Rd ⟨pr,0,none⟩ c (u+width) ended::F)→K (val c u width:Int) (0,0,0,0,0,⟨none,0,0⟩,0,()) true w')
  (hend: ¬u+width≤8*c.length→ended=true→∀w',Hp E w' (ao b (.cells (nS 8 h0 h1 h2 h3 m0 m1 m2 m3 m4 m5 m6 T C B 50) 114 (0,0))::Rd ⟨pr,0,none⟩ c u ended::F)→K 0 (8,0,0,0,0,⟨none,0,0⟩,50,()) false w')
  (hneed: ¬u+width≤8*c.length→ended=false→∀w',Hp E w' (ao b (.cells (nS a h0 h1 h2 h3 m0 m1 m2 m3 m4 m5 m6 T C B e0) 114 (0,0))::Rd ⟨pr,0,none⟩ c u ended::F)→K 0 (1,0,0,0,0,⟨none,0,0⟩,0,()) false w'):
  Cl Tryz.prog [az .u32,jx,kB] cb ⟨[.pointer (some ⟨b,0,none⟩),.pointer (some ⟨pr,0,none⟩),.int .i64 (width:Int)]⟩ w K:=by
 refine ot.ok _ _ _ _ _ ?_
 have hpk:fz c u (width:Int)=decide (u+width≤8*c.length):=by
  unfold fz
  obtain ⟨_,_,_,_,hu,_⟩:=Rd.fu (h.at 1)
  exact decide_eq_decide.2 (by omega)
 (with_reducible repeat first|refine Nw.mk h fun b w h=> ?_|refine ah.mk h fun w h=> ?_|refine Ld.xb h rfl ?_|refine Ld.xt h rfl ?_|refine ad.xb (fun _ h=>h) rfl ?_|refine ad.xt (fun _ h=>h) rfl ?_|refine ⟨h.hb,?_⟩|refine ae.xw h rfl rfl fun w h=> ?_|(refine ae.xs h rfl rfl fun w h=> ?_;dsimp only [af,ab] at h)|(refine St.xs h rfl rfl fun w h=> ?_;dsimp only [af,ab] at h)|refine aa.yes ?_|refine aa.no ?_|refine ⟨by first|omega|decide,?_⟩)
 refine Bd (h.at 2) fun w h=> ?_
 rw [hpk] at h⊢
 by_cases hle:u+width≤8*c.length
 ·rw [decide_eq_true hle] at h⊢
  rw [if_pos rfl,Int.toNat_natCast] at h
  have hv:gQ c u (width:Int)=(val c u width:Int):=by
   unfold gQ
   rw [if_pos (by omega),Int.toNat_natCast]
  rw [hv]
  (with_reducible repeat first|refine Nw.mk h fun b w h=> ?_|refine ah.mk h fun w h=> ?_|refine Ld.xb h rfl ?_|refine Ld.xt h rfl ?_|refine ad.xb (fun _ h=>h) rfl ?_|refine ad.xt (fun _ h=>h) rfl ?_|refine ⟨h.hb,?_⟩|refine ae.xw h rfl rfl fun w h=> ?_|(refine ae.xs h rfl rfl fun w h=> ?_;dsimp only [af,ab] at h)|(refine St.xs h rfl rfl fun w h=> ?_;dsimp only [af,ab] at h)|refine aa.yes ?_|refine aa.no ?_|refine ⟨by first|omega|decide,?_⟩)
  exact hgot hle _ ((h.at 0).no 1|>.at 1)
 ·rw [decide_eq_false hle] at h⊢
  rw [if_neg (by simp)] at h
  (with_reducible repeat first|refine Nw.mk h fun b w h=> ?_|refine ah.mk h fun w h=> ?_|refine Ld.xb h rfl ?_|refine Ld.xt h rfl ?_|refine ad.xb (fun _ h=>h) rfl ?_|refine ad.xt (fun _ h=>h) rfl ?_|refine ⟨h.hb,?_⟩|refine ae.xw h rfl rfl fun w h=> ?_|(refine ae.xs h rfl rfl fun w h=> ?_;dsimp only [af,ab] at h)|(refine St.xs h rfl rfl fun w h=> ?_;dsimp only [af,ab] at h)|refine aa.yes ?_|refine aa.no ?_|refine ⟨by first|omega|decide,?_⟩)
  refine yT h ?_
  cases ended
  ·(with_reducible repeat first|refine Nw.mk h fun b w h=> ?_|refine ah.mk h fun w h=> ?_|refine Ld.xb h rfl ?_|refine Ld.xt h rfl ?_|refine ad.xb (fun _ h=>h) rfl ?_|refine ad.xt (fun _ h=>h) rfl ?_|refine ⟨h.hb,?_⟩|refine ae.xw h rfl rfl fun w h=> ?_|(refine ae.xs h rfl rfl fun w h=> ?_;dsimp only [af,ab] at h)|(refine St.xs h rfl rfl fun w h=> ?_;dsimp only [af,ab] at h)|refine aa.yes ?_|refine aa.no ?_|refine ⟨by first|omega|decide,?_⟩)
   exact hneed hle rfl _ ((h.no 1).at 1)
  ·(with_reducible repeat first|refine Nw.mk h fun b w h=> ?_|refine ah.mk h fun w h=> ?_|refine Ld.xb h rfl ?_|refine Ld.xt h rfl ?_|refine ad.xb (fun _ h=>h) rfl ?_|refine ad.xt (fun _ h=>h) rfl ?_|refine ⟨h.hb,?_⟩|refine ae.xw h rfl rfl fun w h=> ?_|(refine ae.xs h rfl rfl fun w h=> ?_;dsimp only [af,ab] at h)|(refine St.xs h rfl rfl fun w h=> ?_;dsimp only [af,ab] at h)|refine aa.yes ?_|refine aa.no ?_|refine ⟨by first|omega|decide,?_⟩)
   refine ia hT hC hB (h.at 2) fun w h=> ?_
   (with_reducible repeat first|refine Nw.mk h fun b w h=> ?_|refine ah.mk h fun w h=> ?_|refine Ld.xb h rfl ?_|refine Ld.xt h rfl ?_|refine ad.xb (fun _ h=>h) rfl ?_|refine ad.xt (fun _ h=>h) rfl ?_|refine ⟨h.hb,?_⟩|refine ae.xw h rfl rfl fun w h=> ?_|(refine ae.xs h rfl rfl fun w h=> ?_;dsimp only [af,ab] at h)|(refine St.xs h rfl rfl fun w h=> ?_;dsimp only [af,ab] at h)|refine aa.yes ?_|refine aa.no ?_|refine ⟨by first|omega|decide,?_⟩)
   exact hend hle rfl _ (h.no 2)
end
end Go.Proofs.YtgglghjnakclmaaGreat
namespace Go.Proofs.YtgglghjnakclmaaGreat
open Go Go.Vc Go.aK Go.Srt Go.Inc Go.Sym Go.Tab Go.Hd Go.Prs
section
variable {E w:World} {F:List HP} {b pr:Nat} {c:List Nat} {u:Nat} {ended:Bool}
def mX (b pr:Nat) (c:List Nat) (ended:Bool) (s:PS) (u:Nat) (E:World) (F:List HP) (K:gA→Bool→World→Prop):Prop:=
 (∀s' u' x w',aF ended c s u= .go s' u'→Hp E w' (aS b s'::Rd ⟨pr,0,none⟩ c u' ended::F)→K x false w')∧
 (∀w',aF ended c s u= .need→Hp E w' (aS b s::Rd ⟨pr,0,none⟩ c u ended::F)→K (fk none ⟨none,0,0⟩) true w')∧
 (∀e s' u' sl w',aF ended c s u= .ev e s' u'→(∀x∈jl (some e),x<256)→Hp E w' (aA 1 sl ((jl (some e)).map vB)::aS b s'::Rd ⟨pr,0,none⟩ c u' ended::F)→K (fk (some e) sl) true w')
theorem yZ {c:List Nat} {u:Nat}:val c u 8<256:=ir c u 8
theorem wa {c:List Nat} {u:Nat}:val c u 1=bR c u:=by
 have h1:=Gb c u 1 0 (by decide)
 have h2:=ir c u 1
 simp at h1
 omega
set_option maxRecDepth 20000
theorem Gk {hs:HS} {K:gA→Bool→World→Prop} (h:Hp E w (aS b (.head hs)::Rd ⟨pr,0,none⟩ c u ended::F)) (hK:mX b pr c ended (.head hs) u E F K):
  Cl Tryz.prog [jx,kB] eg ⟨[.pointer (some ⟨b,0,none⟩),.pointer (some ⟨pr,0,none⟩)]⟩ w K:=by
 obtain ⟨k1,k2,k3⟩:=hK
 obtain ⟨⟨a,h0,h1,h2,h3,m0,m1,m2,m3,m4,m5,m6,T,C,B,e⟩,⟨⟨hT,hC,hB⟩,hr⟩,h⟩:=aS.fu h
 dsimp only at hT hC hB hr h
 obtain ⟨rfl,rfl,rfl,rfl,rfl,rfl,rfl,rfl,rfl,rfl,rfl,rfl,hok⟩:=hr
 refine nT.ok _ _ _ _ ?_
 (try simp only [au,ak,al,Nat.zero_add,Nat.add_zero,Nat.reduceAdd,Bool.not_true,Bool.not_false,aH,aE,Option.isNone])
 (with_reducible repeat first|refine Nw.mk h fun b w h=> ?_|refine ah.mk h fun w h=> ?_|refine Ld.xb h rfl ?_|refine Ld.xt h rfl ?_|refine ad.xb (fun _ h=>h) rfl ?_|refine ad.xt (fun _ h=>h) rfl ?_|refine ⟨h.hb,?_⟩|refine ae.xw h rfl rfl fun w h=> ?_|(refine ae.xs h rfl rfl fun w h=> ?_;dsimp only [af,ab] at h)|(refine St.xs h rfl rfl fun w h=> ?_;dsimp only [af,ab] at h)|refine aa.yes ?_|refine aa.no ?_|refine ⟨by first|omega|decide,?_⟩)
 refine pd (width:=8) hT hC hB (by decide) (h.at 1|>.at 2|>.at 1) (fun hle w h=> ?_) (fun hle he w h=> ?_) (fun hle he w h=> ?_)
 ·have hv:=yZ (c:=c) (u:=u)
  (with_reducible repeat first|refine Nw.mk h fun b w h=> ?_|refine ah.mk h fun w h=> ?_|refine Ld.xb h rfl ?_|refine Ld.xt h rfl ?_|refine ad.xb (fun _ h=>h) rfl ?_|refine ad.xt (fun _ h=>h) rfl ?_|refine ⟨h.hb,?_⟩|refine ae.xw h rfl rfl fun w h=> ?_|(refine ae.xs h rfl rfl fun w h=> ?_;dsimp only [af,ab] at h)|(refine St.xs h rfl rfl fun w h=> ?_;dsimp only [af,ab] at h)|refine aa.yes ?_|refine aa.no ?_|refine ⟨by first|omega|decide,?_⟩)
  rw [ec (by omega)]
  refine Fo h hok hv (fun s' w hq h=> ?_) (fun n w hq h=> ?_) (fun er o w hq h=> ?_)
  ·(with_reducible repeat first|refine Nw.mk h fun b w h=> ?_|refine ah.mk h fun w h=> ?_|refine Ld.xb h rfl ?_|refine Ld.xt h rfl ?_|refine ad.xb (fun _ h=>h) rfl ?_|refine ad.xt (fun _ h=>h) rfl ?_|refine ⟨h.hb,?_⟩|refine ae.xw h rfl rfl fun w h=> ?_|(refine ae.xs h rfl rfl fun w h=> ?_;dsimp only [af,ab] at h)|(refine St.xs h rfl rfl fun w h=> ?_;dsimp only [af,ab] at h)|refine aa.yes ?_|refine aa.no ?_|refine ⟨by first|omega|decide,?_⟩)
   have hmic:aF ended c (.head hs) u= .go (.head s') (u+8):=by unfold aF;dsimp only;rw [if_pos hle,hq]
   refine k1 _ _ _ _ hmic (aS.sh ((((h.no 0).no 0).no 2)) ⟨⟨hT,hC,hB⟩,rfl,rfl,rfl,rfl,rfl,rfl,rfl,rfl,rfl,rfl,rfl,rfl,D0 hok hv hq⟩)
  ·(with_reducible repeat first|refine Nw.mk h fun b w h=> ?_|refine ah.mk h fun w h=> ?_|refine Ld.xb h rfl ?_|refine Ld.xt h rfl ?_|refine ad.xb (fun _ h=>h) rfl ?_|refine ad.xt (fun _ h=>h) rfl ?_|refine ⟨h.hb,?_⟩|refine ae.xw h rfl rfl fun w h=> ?_|(refine ae.xs h rfl rfl fun w h=> ?_;dsimp only [af,ab] at h)|(refine St.xs h rfl rfl fun w h=> ?_;dsimp only [af,ab] at h)|refine aa.yes ?_|refine aa.no ?_|refine ⟨by first|omega|decide,?_⟩)
   refine cm (n:=2) h (fun w h=> ?_) (by simp)
   (with_reducible repeat first|refine Nw.mk h fun b w h=> ?_|refine ah.mk h fun w h=> ?_|refine Ld.xb h rfl ?_|refine Ld.xt h rfl ?_|refine ad.xb (fun _ h=>h) rfl ?_|refine ad.xt (fun _ h=>h) rfl ?_|refine ⟨h.hb,?_⟩|refine ae.xw h rfl rfl fun w h=> ?_|(refine ae.xs h rfl rfl fun w h=> ?_;dsimp only [af,ab] at h)|(refine St.xs h rfl rfl fun w h=> ?_;dsimp only [af,ab] at h)|refine aa.yes ?_|refine aa.no ?_|refine ⟨by first|omega|decide,?_⟩)
   have hmic:aF ended c (.head hs) u= .ev (.hdr n) (.mark n gp) (u+8):=by unfold aF;dsimp only;rw [if_pos hle,hq]
   have hn:=CB hv hq
   refine k3 _ _ _ _ _ hmic (fun _ hx=>by cases hx) (Hp.aW (aS.sh (s:= .mark n gp) ((((h.no 0).no 0).no 2)) ⟨⟨hT,hC,hB⟩,rfl,rfl,rfl,rfl,rfl,rfl,rfl,rfl,rfl,hn.1,hn.2,.inl ⟨rfl,rfl⟩⟩) 1)
  ·(with_reducible repeat first|refine Nw.mk h fun b w h=> ?_|refine ah.mk h fun w h=> ?_|refine Ld.xb h rfl ?_|refine Ld.xt h rfl ?_|refine ad.xb (fun _ h=>h) rfl ?_|refine ad.xt (fun _ h=>h) rfl ?_|refine ⟨h.hb,?_⟩|refine ae.xw h rfl rfl fun w h=> ?_|(refine ae.xs h rfl rfl fun w h=> ?_;dsimp only [af,ab] at h)|(refine St.xs h rfl rfl fun w h=> ?_;dsimp only [af,ab] at h)|refine aa.yes ?_|refine aa.no ?_|refine ⟨by first|omega|decide,?_⟩)
   have:er≠0:=by
    rintro rfl
    unfold cr at hq
    split at hq
    ·split at hq
     ·cases hq
     ·split at hq<;>cases hq
    ·split at hq<;>cases hq
   refine aa.nt (by omega) ?_
   refine ia hT hC hB (h.at 2) fun w h=> ?_
   (with_reducible repeat first|refine Nw.mk h fun b w h=> ?_|refine ah.mk h fun w h=> ?_|refine Ld.xb h rfl ?_|refine Ld.xt h rfl ?_|refine ad.xb (fun _ h=>h) rfl ?_|refine ad.xt (fun _ h=>h) rfl ?_|refine ⟨h.hb,?_⟩|refine ae.xw h rfl rfl fun w h=> ?_|(refine ae.xs h rfl rfl fun w h=> ?_;dsimp only [af,ab] at h)|(refine St.xs h rfl rfl fun w h=> ?_;dsimp only [af,ab] at h)|refine aa.yes ?_|refine aa.no ?_|refine ⟨by first|omega|decide,?_⟩)
   have hmic:aF ended c (.head hs) u= .ev (.bad er) (.bad 0 er) (u+8):=by unfold aF;dsimp only;rw [if_pos hle,hq]
   refine k3 _ _ _ _ _ hmic (fun _ hx=>by cases hx) (Hp.aW (aS.sh (s:= .bad 0 er) ((((h.no 1).no 1).no 2)) ⟨⟨hT,hC,hB⟩,rfl,rfl,rfl⟩) 1)
 ·(with_reducible repeat first|refine Nw.mk h fun b w h=> ?_|refine ah.mk h fun w h=> ?_|refine Ld.xb h rfl ?_|refine Ld.xt h rfl ?_|refine ad.xb (fun _ h=>h) rfl ?_|refine ad.xt (fun _ h=>h) rfl ?_|refine ⟨h.hb,?_⟩|refine ae.xw h rfl rfl fun w h=> ?_|(refine ae.xs h rfl rfl fun w h=> ?_;dsimp only [af,ab] at h)|(refine St.xs h rfl rfl fun w h=> ?_;dsimp only [af,ab] at h)|refine aa.yes ?_|refine aa.no ?_|refine ⟨by first|omega|decide,?_⟩)
  have hmic:aF ended c (.head hs) u= .ev (.bad 50) (.bad 0 50) u:=by
   unfold aF short;dsimp only;rw [if_neg hle,he];rfl
  subst he
  refine k3 _ _ _ _ _ hmic (fun _ hx=>by cases hx) (Hp.aW (aS.sh (s:= .bad 0 50) (((h.no 0).no 2)) ⟨⟨hT,hC,hB⟩,rfl,rfl,rfl⟩) 1)
 ·(with_reducible repeat first|refine Nw.mk h fun b w h=> ?_|refine ah.mk h fun w h=> ?_|refine Ld.xb h rfl ?_|refine Ld.xt h rfl ?_|refine ad.xb (fun _ h=>h) rfl ?_|refine ad.xt (fun _ h=>h) rfl ?_|refine ⟨h.hb,?_⟩|refine ae.xw h rfl rfl fun w h=> ?_|(refine ae.xs h rfl rfl fun w h=> ?_;dsimp only [af,ab] at h)|(refine St.xs h rfl rfl fun w h=> ?_;dsimp only [af,ab] at h)|refine aa.yes ?_|refine aa.no ?_|refine ⟨by first|omega|decide,?_⟩)
  have hmic:aF ended c (.head hs) u= .need:=by
   unfold aF short;dsimp only;rw [if_neg hle,he];rfl
  subst he
  refine k2 _ hmic (aS.sh (((h.no 0).no 2)) ⟨⟨hT,hC,hB⟩,rfl,rfl,rfl,rfl,rfl,rfl,rfl,rfl,rfl,rfl,rfl,rfl,hok⟩)
end
end Go.Proofs.YtgglghjnakclmaaGreat
namespace Go.Proofs.YtgglghjnakclmaaGreat
open Go Go.Vc Go.aK Go.Srt Go.Inc Go.Sym Go.Tab Go.Hd Go.Prs
section
variable {E w:World} {F:List HP} {b pr:Nat} {c:List Nat} {u:Nat} {ended:Bool}
set_option maxRecDepth 20000
theorem cd.Jn {K:Array Value→Prop} (hK:K (dL (List.replicate 258 0) 0 0 0 0)):cd Tryz.prog 106 [] K:=by
 refine ⟨_,(by kernel_rfl:Tryz.prog.built 106 []=some ⟨List.replicate 258 (.int .u8 0)++ [.int .i64 0,.int .i64 0,.int .i64 0,.int .i64 0]⟩),?_⟩
 rw [Bz];exact hK
theorem rB {n:Nat} {m:MS} {x e:Nat} (h:aX n m x= .bad e):e=242:=by
 unfold aX at h
 split at h
 ·split at h
  ·cases h
  ·split at h<;>cases h
   rfl
 ·split at h
  ·split at h<;>cases h
   rfl
  ·split at h
   ·split at h<;>cases h
    rfl
   ·split at h
    ·split at h<;>cases h
    ·cases h
theorem Fh {n:Nat} {m:MS} {K:gA→Bool→World→Prop} (h:Hp E w (aS b (.mark n m)::Rd ⟨pr,0,none⟩ c u ended::F)) (hK:mX b pr c ended (.mark n m) u E F K):
  Cl Tryz.prog [jx,kB] ek ⟨[.pointer (some ⟨b,0,none⟩),.pointer (some ⟨pr,0,none⟩)]⟩ w K:=by
 obtain ⟨k1,k2,k3⟩:=hK
 obtain ⟨⟨a,h0,h1,h2,h3,m0,m1,m2,m3,m4,m5,m6,T,C,B,e⟩,⟨⟨hT,hC,hB⟩,hr⟩,h⟩:=aS.fu h
 dsimp only at hT hC hB hr h
 obtain ⟨rfl,rfl,rfl,rfl,rfl,rfl,rfl,rfl,rfl,hn1,hn2,hok⟩:=hr
 refine nX.ok _ _ _ _ ?_
 (try simp only [au,ak,al,Nat.zero_add,Nat.add_zero,Nat.reduceAdd,Bool.not_true,Bool.not_false,aH,aE,Option.isNone])
 refine Nw.mk h fun b4 w h=> ?_
 refine pd (width:=8) hT hC hB (by decide) (h.at 1|>.at 2|>.at 1) (fun hle w h=> ?_) (fun hle he w h=> ?_) (fun hle he w h=> ?_)
 ·have hv:=yZ (c:=c) (u:=u)
  refine Nw.mk h fun b10 w h=> ?_
  (with_reducible repeat first|refine Nw.mk h fun b w h=> ?_|refine ah.mk h fun w h=> ?_|refine Ld.xb h rfl ?_|refine Ld.xt h rfl ?_|refine ad.xb (fun _ h=>h) rfl ?_|refine ad.xt (fun _ h=>h) rfl ?_|refine ⟨h.hb,?_⟩|refine ae.xw h rfl rfl fun w h=> ?_|(refine ae.xs h rfl rfl fun w h=> ?_;dsimp only [af,ab] at h)|(refine St.xs h rfl rfl fun w h=> ?_;dsimp only [af,ab] at h)|refine aa.yes ?_|refine aa.no ?_|refine ⟨by first|omega|decide,?_⟩)
  rw [ec (by omega)]
  have rest: ∀(bs:Nat) (w:World) (r:ly) (d:Bool) (e':Int) (G:List HP),
    G= [ao b10 (.cells ⟨[.int .u8 0,.int .i64 0,.int .i64 0,.int .i64 0,.int .u32 0,.slice none 0 0,.int .i64 0]⟩ 29 (0,0))]→True:=fun _ _ _ _ _ _ _=>trivial
  have h:=h.drew (n:=w.drawn+1)
  refine ⟨cq b _ _ _,h.hb,?_⟩
  dsimp only
  (with_reducible repeat first|refine Nw.mk h fun b w h=> ?_|refine ah.mk h fun w h=> ?_|refine Ld.xb h rfl ?_|refine Ld.xt h rfl ?_|refine ad.xb (fun _ h=>h) rfl ?_|refine ad.xt (fun _ h=>h) rfl ?_|refine ⟨h.hb,?_⟩|refine ae.xw h rfl rfl fun w h=> ?_|(refine ae.xs h rfl rfl fun w h=> ?_;dsimp only [af,ab] at h)|(refine St.xs h rfl rfl fun w h=> ?_;dsimp only [af,ab] at h)|refine aa.yes ?_|refine aa.no ?_|refine ⟨by first|omega|decide,?_⟩)
  constructor
  ·refine zk h hn1 hn2 hok hv (fun m' w hq h=>⟨h.hb,?_⟩) (fun M P s w hq h=>⟨h.hb,?_⟩) (fun s w hq h=>⟨h.hb,?_⟩) (fun er o w hq h=>⟨h.hb,?_⟩)
   ·have hmic:aF ended c (.mark n m) u= .go (.mark n m') (u+8):=by unfold aF;dsimp only;rw [if_pos hle,hq]
    (with_reducible repeat first|refine Nw.mk h fun b w h=> ?_|refine ah.mk h fun w h=> ?_|refine Ld.xb h rfl ?_|refine Ld.xt h rfl ?_|refine ad.xb (fun _ h=>h) rfl ?_|refine ad.xt (fun _ h=>h) rfl ?_|refine ⟨h.hb,?_⟩|refine ae.xw h rfl rfl fun w h=> ?_|(refine ae.xs h rfl rfl fun w h=> ?_;dsimp only [af,ab] at h)|(refine St.xs h rfl rfl fun w h=> ?_;dsimp only [af,ab] at h)|refine aa.yes ?_|refine aa.no ?_|refine ⟨by first|omega|decide,?_⟩)
    refine k1 _ _ _ _ hmic (aS.sh (((h.no 0).no 0).no 2) ⟨⟨hT,hC,hB⟩,rfl,rfl,rfl,rfl,rfl,rfl,rfl,rfl,rfl,hn1,hn2,vK hok hv hq⟩)
   ·have hmic:aF ended c (.mark n m) u= .ev (.aD M P s) (.tab n M t0) (u+8):=by unfold aF;dsimp only;rw [if_pos hle,hq]
    have hM:=tA hok hq
    (with_reducible repeat first|refine Nw.mk h fun b w h=> ?_|refine ah.mk h fun w h=> ?_|refine Ld.xb h rfl ?_|refine Ld.xt h rfl ?_|refine ad.xb (fun _ h=>h) rfl ?_|refine ad.xt (fun _ h=>h) rfl ?_|refine ⟨h.hb,?_⟩|refine ae.xw h rfl rfl fun w h=> ?_|(refine ae.xs h rfl rfl fun w h=> ?_;dsimp only [af,ab] at h)|(refine St.xs h rfl rfl fun w h=> ?_;dsimp only [af,ab] at h)|refine aa.yes ?_|refine aa.no ?_|refine ⟨by first|omega|decide,?_⟩)
    refine cm (n:=3) h (fun w h=> ?_) (by simp)
    refine cd.Jn ?_
    (with_reducible repeat first|refine Nw.mk h fun b w h=> ?_|refine ah.mk h fun w h=> ?_|refine Ld.xb h rfl ?_|refine Ld.xt h rfl ?_|refine ad.xb (fun _ h=>h) rfl ?_|refine ad.xt (fun _ h=>h) rfl ?_|refine ⟨h.hb,?_⟩|refine ae.xw h rfl rfl fun w h=> ?_|(refine ae.xs h rfl rfl fun w h=> ?_;dsimp only [af,ab] at h)|(refine St.xs h rfl rfl fun w h=> ?_;dsimp only [af,ab] at h)|refine aa.yes ?_|refine aa.no ?_|refine ⟨by first|omega|decide,?_⟩)
    refine Aj h hT (bE List.length_replicate) bq fun w h=> ?_
    (with_reducible repeat first|refine Nw.mk h fun b w h=> ?_|refine ah.mk h fun w h=> ?_|refine Ld.xb h rfl ?_|refine Ld.xt h rfl ?_|refine ad.xb (fun _ h=>h) rfl ?_|refine ad.xt (fun _ h=>h) rfl ?_|refine ⟨h.hb,?_⟩|refine ae.xw h rfl rfl fun w h=> ?_|(refine ae.xs h rfl rfl fun w h=> ?_;dsimp only [af,ab] at h)|(refine St.xs h rfl rfl fun w h=> ?_;dsimp only [af,ab] at h)|refine aa.yes ?_|refine aa.no ?_|refine ⟨by first|omega|decide,?_⟩)
    refine k3 _ _ _ _ _ hmic (fun _ hx=>by cases hx) (Hp.aW (aS.sh (s:= .tab n M t0) (((h.no 0).no 0).no 2) ⟨⟨by simp,hC,hB⟩,rfl,rfl,rfl,hM.1,hM.2.1,hn2,rfl,gh.zero⟩) 1)
   ·have hmic:aF ended c (.mark n m) u= .ev (.tail s) (.behind n) (u+8):=by unfold aF;dsimp only;rw [if_pos hle,hq]
    (with_reducible repeat first|refine Nw.mk h fun b w h=> ?_|refine ah.mk h fun w h=> ?_|refine Ld.xb h rfl ?_|refine Ld.xt h rfl ?_|refine ad.xb (fun _ h=>h) rfl ?_|refine ad.xt (fun _ h=>h) rfl ?_|refine ⟨h.hb,?_⟩|refine ae.xw h rfl rfl fun w h=> ?_|(refine ae.xs h rfl rfl fun w h=> ?_;dsimp only [af,ab] at h)|(refine St.xs h rfl rfl fun w h=> ?_;dsimp only [af,ab] at h)|refine aa.yes ?_|refine aa.no ?_|refine ⟨by first|omega|decide,?_⟩)
    refine cm (n:=6) h (fun w h=> ?_) (by simp)
    (with_reducible repeat first|refine Nw.mk h fun b w h=> ?_|refine ah.mk h fun w h=> ?_|refine Ld.xb h rfl ?_|refine Ld.xt h rfl ?_|refine ad.xb (fun _ h=>h) rfl ?_|refine ad.xt (fun _ h=>h) rfl ?_|refine ⟨h.hb,?_⟩|refine ae.xw h rfl rfl fun w h=> ?_|(refine ae.xs h rfl rfl fun w h=> ?_;dsimp only [af,ab] at h)|(refine St.xs h rfl rfl fun w h=> ?_;dsimp only [af,ab] at h)|refine aa.yes ?_|refine aa.no ?_|refine ⟨by first|omega|decide,?_⟩)
    refine k3 _ _ _ _ _ hmic (fun _ hx=>by cases hx) (Hp.aW (aS.sh (s:= .behind n) (((h.no 0).no 0).no 2) ⟨⟨hT,hC,hB⟩,rfl,rfl⟩) 1)
   ·have hmic:aF ended c (.mark n m) u= .ev (.bad er) (.bad n er) (u+8):=by unfold aF;dsimp only;rw [if_pos hle,hq]
    have:=rB hq
    (with_reducible repeat first|refine Nw.mk h fun b w h=> ?_|refine ah.mk h fun w h=> ?_|refine Ld.xb h rfl ?_|refine Ld.xt h rfl ?_|refine ad.xb (fun _ h=>h) rfl ?_|refine ad.xt (fun _ h=>h) rfl ?_|refine ⟨h.hb,?_⟩|refine ae.xw h rfl rfl fun w h=> ?_|(refine ae.xs h rfl rfl fun w h=> ?_;dsimp only [af,ab] at h)|(refine St.xs h rfl rfl fun w h=> ?_;dsimp only [af,ab] at h)|refine aa.yes ?_|refine aa.no ?_|refine ⟨by first|omega|decide,?_⟩)
    refine ia hT hC hB (h.at 2) fun w h=> ?_
    (with_reducible repeat first|refine Nw.mk h fun b w h=> ?_|refine ah.mk h fun w h=> ?_|refine Ld.xb h rfl ?_|refine Ld.xt h rfl ?_|refine ad.xb (fun _ h=>h) rfl ?_|refine ad.xt (fun _ h=>h) rfl ?_|refine ⟨h.hb,?_⟩|refine ae.xw h rfl rfl fun w h=> ?_|(refine ae.xs h rfl rfl fun w h=> ?_;dsimp only [af,ab] at h)|(refine St.xs h rfl rfl fun w h=> ?_;dsimp only [af,ab] at h)|refine aa.yes ?_|refine aa.no ?_|refine ⟨by first|omega|decide,?_⟩)
    refine k3 _ _ _ _ _ hmic (fun _ hx=>by cases hx) (Hp.aW (aS.sh (s:= .bad n er) (((h.no 1).no 1).no 2) ⟨⟨hT,hC,hB⟩,rfl,rfl,rfl⟩) 1)
  ·refine Nw.mk h fun bn w h=>⟨h.hb,?_⟩
   refine zk h hn1 hn2 hok hv (fun m' w hq h=>⟨h.hb,?_⟩) (fun M P s w hq h=>⟨h.hb,?_⟩) (fun s w hq h=>⟨h.hb,?_⟩) (fun er o w hq h=>⟨h.hb,?_⟩)
   ·have hmic:aF ended c (.mark n m) u= .go (.mark n m') (u+8):=by unfold aF;dsimp only;rw [if_pos hle,hq]
    (with_reducible repeat first|refine Nw.mk h fun b w h=> ?_|refine ah.mk h fun w h=> ?_|refine Ld.xb h rfl ?_|refine Ld.xt h rfl ?_|refine ad.xb (fun _ h=>h) rfl ?_|refine ad.xt (fun _ h=>h) rfl ?_|refine ⟨h.hb,?_⟩|refine ae.xw h rfl rfl fun w h=> ?_|(refine ae.xs h rfl rfl fun w h=> ?_;dsimp only [af,ab] at h)|(refine St.xs h rfl rfl fun w h=> ?_;dsimp only [af,ab] at h)|refine aa.yes ?_|refine aa.no ?_|refine ⟨by first|omega|decide,?_⟩)
    refine k1 _ _ _ _ hmic (aS.sh (((h.no 0).no 0).no 2) ⟨⟨hT,hC,hB⟩,rfl,rfl,rfl,rfl,rfl,rfl,rfl,rfl,rfl,hn1,hn2,vK hok hv hq⟩)
   ·have hmic:aF ended c (.mark n m) u= .ev (.aD M P s) (.tab n M t0) (u+8):=by unfold aF;dsimp only;rw [if_pos hle,hq]
    have hM:=tA hok hq
    (with_reducible repeat first|refine Nw.mk h fun b w h=> ?_|refine ah.mk h fun w h=> ?_|refine Ld.xb h rfl ?_|refine Ld.xt h rfl ?_|refine ad.xb (fun _ h=>h) rfl ?_|refine ad.xt (fun _ h=>h) rfl ?_|refine ⟨h.hb,?_⟩|refine ae.xw h rfl rfl fun w h=> ?_|(refine ae.xs h rfl rfl fun w h=> ?_;dsimp only [af,ab] at h)|(refine St.xs h rfl rfl fun w h=> ?_;dsimp only [af,ab] at h)|refine aa.yes ?_|refine aa.no ?_|refine ⟨by first|omega|decide,?_⟩)
    refine cm (n:=3) h (fun w h=> ?_) (by simp)
    refine cd.Jn ?_
    (with_reducible repeat first|refine Nw.mk h fun b w h=> ?_|refine ah.mk h fun w h=> ?_|refine Ld.xb h rfl ?_|refine Ld.xt h rfl ?_|refine ad.xb (fun _ h=>h) rfl ?_|refine ad.xt (fun _ h=>h) rfl ?_|refine ⟨h.hb,?_⟩|refine ae.xw h rfl rfl fun w h=> ?_|(refine ae.xs h rfl rfl fun w h=> ?_;dsimp only [af,ab] at h)|(refine St.xs h rfl rfl fun w h=> ?_;dsimp only [af,ab] at h)|refine aa.yes ?_|refine aa.no ?_|refine ⟨by first|omega|decide,?_⟩)
    refine Aj h hT (bE List.length_replicate) bq fun w h=> ?_
    (with_reducible repeat first|refine Nw.mk h fun b w h=> ?_|refine ah.mk h fun w h=> ?_|refine Ld.xb h rfl ?_|refine Ld.xt h rfl ?_|refine ad.xb (fun _ h=>h) rfl ?_|refine ad.xt (fun _ h=>h) rfl ?_|refine ⟨h.hb,?_⟩|refine ae.xw h rfl rfl fun w h=> ?_|(refine ae.xs h rfl rfl fun w h=> ?_;dsimp only [af,ab] at h)|(refine St.xs h rfl rfl fun w h=> ?_;dsimp only [af,ab] at h)|refine aa.yes ?_|refine aa.no ?_|refine ⟨by first|omega|decide,?_⟩)
    refine k3 _ _ _ _ _ hmic (fun _ hx=>by cases hx) (Hp.aW (aS.sh (s:= .tab n M t0) (((h.no 0).no 0).no 2) ⟨⟨by simp,hC,hB⟩,rfl,rfl,rfl,hM.1,hM.2.1,hn2,rfl,gh.zero⟩) 1)
   ·have hmic:aF ended c (.mark n m) u= .ev (.tail s) (.behind n) (u+8):=by unfold aF;dsimp only;rw [if_pos hle,hq]
    (with_reducible repeat first|refine Nw.mk h fun b w h=> ?_|refine ah.mk h fun w h=> ?_|refine Ld.xb h rfl ?_|refine Ld.xt h rfl ?_|refine ad.xb (fun _ h=>h) rfl ?_|refine ad.xt (fun _ h=>h) rfl ?_|refine ⟨h.hb,?_⟩|refine ae.xw h rfl rfl fun w h=> ?_|(refine ae.xs h rfl rfl fun w h=> ?_;dsimp only [af,ab] at h)|(refine St.xs h rfl rfl fun w h=> ?_;dsimp only [af,ab] at h)|refine aa.yes ?_|refine aa.no ?_|refine ⟨by first|omega|decide,?_⟩)
    refine cm (n:=6) h (fun w h=> ?_) (by simp)
    (with_reducible repeat first|refine Nw.mk h fun b w h=> ?_|refine ah.mk h fun w h=> ?_|refine Ld.xb h rfl ?_|refine Ld.xt h rfl ?_|refine ad.xb (fun _ h=>h) rfl ?_|refine ad.xt (fun _ h=>h) rfl ?_|refine ⟨h.hb,?_⟩|refine ae.xw h rfl rfl fun w h=> ?_|(refine ae.xs h rfl rfl fun w h=> ?_;dsimp only [af,ab] at h)|(refine St.xs h rfl rfl fun w h=> ?_;dsimp only [af,ab] at h)|refine aa.yes ?_|refine aa.no ?_|refine ⟨by first|omega|decide,?_⟩)
    refine k3 _ _ _ _ _ hmic (fun _ hx=>by cases hx) (Hp.aW (aS.sh (s:= .behind n) (((h.no 0).no 0).no 2) ⟨⟨hT,hC,hB⟩,rfl,rfl⟩) 1)
   ·have hmic:aF ended c (.mark n m) u= .ev (.bad er) (.bad n er) (u+8):=by unfold aF;dsimp only;rw [if_pos hle,hq]
    have:=rB hq
    (with_reducible repeat first|refine Nw.mk h fun b w h=> ?_|refine ah.mk h fun w h=> ?_|refine Ld.xb h rfl ?_|refine Ld.xt h rfl ?_|refine ad.xb (fun _ h=>h) rfl ?_|refine ad.xt (fun _ h=>h) rfl ?_|refine ⟨h.hb,?_⟩|refine ae.xw h rfl rfl fun w h=> ?_|(refine ae.xs h rfl rfl fun w h=> ?_;dsimp only [af,ab] at h)|(refine St.xs h rfl rfl fun w h=> ?_;dsimp only [af,ab] at h)|refine aa.yes ?_|refine aa.no ?_|refine ⟨by first|omega|decide,?_⟩)
    refine ia hT hC hB (h.at 2) fun w h=> ?_
    (with_reducible repeat first|refine Nw.mk h fun b w h=> ?_|refine ah.mk h fun w h=> ?_|refine Ld.xb h rfl ?_|refine Ld.xt h rfl ?_|refine ad.xb (fun _ h=>h) rfl ?_|refine ad.xt (fun _ h=>h) rfl ?_|refine ⟨h.hb,?_⟩|refine ae.xw h rfl rfl fun w h=> ?_|(refine ae.xs h rfl rfl fun w h=> ?_;dsimp only [af,ab] at h)|(refine St.xs h rfl rfl fun w h=> ?_;dsimp only [af,ab] at h)|refine aa.yes ?_|refine aa.no ?_|refine ⟨by first|omega|decide,?_⟩)
    refine k3 _ _ _ _ _ hmic (fun _ hx=>by cases hx) (Hp.aW (aS.sh (s:= .bad n er) (((h.no 1).no 1).no 2) ⟨⟨hT,hC,hB⟩,rfl,rfl,rfl⟩) 1)
 ·(with_reducible repeat first|refine Nw.mk h fun b w h=> ?_|refine ah.mk h fun w h=> ?_|refine Ld.xb h rfl ?_|refine Ld.xt h rfl ?_|refine ad.xb (fun _ h=>h) rfl ?_|refine ad.xt (fun _ h=>h) rfl ?_|refine ⟨h.hb,?_⟩|refine ae.xw h rfl rfl fun w h=> ?_|(refine ae.xs h rfl rfl fun w h=> ?_;dsimp only [af,ab] at h)|(refine St.xs h rfl rfl fun w h=> ?_;dsimp only [af,ab] at h)|refine aa.yes ?_|refine aa.no ?_|refine ⟨by first|omega|decide,?_⟩)
  have hmic:aF ended c (.mark n m) u= .ev (.bad 50) (.bad n 50) u:=by
   unfold aF short;dsimp only;rw [if_neg hle,he];rfl
  subst he
  refine k3 _ _ _ _ _ hmic (fun _ hx=>by cases hx) (Hp.aW (aS.sh (s:= .bad n 50) ((h.no 0).no 2) ⟨⟨hT,hC,hB⟩,rfl,rfl,rfl⟩) 1)
 ·(with_reducible repeat first|refine Nw.mk h fun b w h=> ?_|refine ah.mk h fun w h=> ?_|refine Ld.xb h rfl ?_|refine Ld.xt h rfl ?_|refine ad.xb (fun _ h=>h) rfl ?_|refine ad.xt (fun _ h=>h) rfl ?_|refine ⟨h.hb,?_⟩|refine ae.xw h rfl rfl fun w h=> ?_|(refine ae.xs h rfl rfl fun w h=> ?_;dsimp only [af,ab] at h)|(refine St.xs h rfl rfl fun w h=> ?_;dsimp only [af,ab] at h)|refine aa.yes ?_|refine aa.no ?_|refine ⟨by first|omega|decide,?_⟩)
  have hmic:aF ended c (.mark n m) u= .need:=by
   unfold aF short;dsimp only;rw [if_neg hle,he];rfl
  subst he
  refine k2 _ hmic (aS.sh ((h.no 0).no 2) ⟨⟨hT,hC,hB⟩,rfl,rfl,rfl,rfl,rfl,rfl,rfl,rfl,rfl,hn1,hn2,hok⟩)
theorem BE {n:Nat} {K:gA→Bool→World→Prop} (h:Hp E w (aS b (.pad n)::Rd ⟨pr,0,none⟩ c u ended::F)) (hK:mX b pr c ended (.pad n) u E F K):
  Cl Tryz.prog [jx,kB] dy ⟨[.pointer (some ⟨b,0,none⟩),.pointer (some ⟨pr,0,none⟩)]⟩ w K:=by
 obtain ⟨k1,k2,k3⟩:=hK
 obtain ⟨⟨a,h0,h1,h2,h3,m0,m1,m2,m3,m4,m5,m6,T,C,B,e⟩,⟨⟨hT,hC,hB⟩,hr⟩,h⟩:=aS.fu h
 dsimp only at hT hC hB hr h
 obtain ⟨rfl,rfl,hn1,hn2⟩:=hr
 refine mq.ok _ _ _ _ ?_
 (try simp only [au,ak,al,Nat.zero_add,Nat.add_zero,Nat.reduceAdd,Bool.not_true,Bool.not_false,aH,aE,Option.isNone])
 refine Nw.mk h fun b4 w h=> ?_
 refine Gf (h.at 2) fun w h=> ?_
 rw [show dW u=im u from rfl] at h⊢
 by_cases hv:val c u (im u)=0
 ·have hmic:aF ended c (.pad n) u= .ev .bend (.mark n gp) (u+im u):=by unfold aF;dsimp only;rw [if_pos hv]
  (with_reducible repeat first|refine Nw.mk h fun b w h=> ?_|refine ah.mk h fun w h=> ?_|refine Ld.xb h rfl ?_|refine Ld.xt h rfl ?_|refine ad.xb (fun _ h=>h) rfl ?_|refine ad.xt (fun _ h=>h) rfl ?_|refine ⟨h.hb,?_⟩|refine ae.xw h rfl rfl fun w h=> ?_|(refine ae.xs h rfl rfl fun w h=> ?_;dsimp only [af,ab] at h)|(refine St.xs h rfl rfl fun w h=> ?_;dsimp only [af,ab] at h)|refine aa.yes ?_|refine aa.no ?_|refine ⟨by first|omega|decide,?_⟩)
  refine cm (n:=2) h (fun w h=> ?_) (by simp)
  (with_reducible repeat first|refine Nw.mk h fun b w h=> ?_|refine ah.mk h fun w h=> ?_|refine Ld.xb h rfl ?_|refine Ld.xt h rfl ?_|refine ad.xb (fun _ h=>h) rfl ?_|refine ad.xt (fun _ h=>h) rfl ?_|refine ⟨h.hb,?_⟩|refine ae.xw h rfl rfl fun w h=> ?_|(refine ae.xs h rfl rfl fun w h=> ?_;dsimp only [af,ab] at h)|(refine St.xs h rfl rfl fun w h=> ?_;dsimp only [af,ab] at h)|refine aa.yes ?_|refine aa.no ?_|refine ⟨by first|omega|decide,?_⟩)
  refine k3 _ _ _ _ _ hmic (fun _ hx=>by cases hx) (Hp.aW (aS.sh (s:= .mark n gp) ((h.no 1).at 1) ⟨⟨hT,hC,hB⟩,rfl,rfl,rfl,rfl,rfl,rfl,rfl,rfl,rfl,hn1,hn2,.inl ⟨rfl,rfl⟩⟩) 1)
 ·have hmic:aF ended c (.pad n) u= .ev (.bad 160) (.bad n 160) (u+im u):=by unfold aF;dsimp only;rw [if_neg hv]
  (with_reducible repeat first|refine Nw.mk h fun b w h=> ?_|refine ah.mk h fun w h=> ?_|refine Ld.xb h rfl ?_|refine Ld.xt h rfl ?_|refine ad.xb (fun _ h=>h) rfl ?_|refine ad.xt (fun _ h=>h) rfl ?_|refine ⟨h.hb,?_⟩|refine ae.xw h rfl rfl fun w h=> ?_|(refine ae.xs h rfl rfl fun w h=> ?_;dsimp only [af,ab] at h)|(refine St.xs h rfl rfl fun w h=> ?_;dsimp only [af,ab] at h)|refine aa.yes ?_|refine aa.no ?_|refine ⟨by first|omega|decide,?_⟩)
  refine ia hT hC hB (h.at 2) fun w h=> ?_
  (with_reducible repeat first|refine Nw.mk h fun b w h=> ?_|refine ah.mk h fun w h=> ?_|refine Ld.xb h rfl ?_|refine Ld.xt h rfl ?_|refine ad.xb (fun _ h=>h) rfl ?_|refine ad.xt (fun _ h=>h) rfl ?_|refine ⟨h.hb,?_⟩|refine ae.xw h rfl rfl fun w h=> ?_|(refine ae.xs h rfl rfl fun w h=> ?_;dsimp only [af,ab] at h)|(refine St.xs h rfl rfl fun w h=> ?_;dsimp only [af,ab] at h)|refine aa.yes ?_|refine aa.no ?_|refine ⟨by first|omega|decide,?_⟩)
  refine k3 _ _ _ _ _ hmic (fun _ hx=>by cases hx) (Hp.aW (aS.sh (s:= .bad n 160) (h.no 2) ⟨⟨hT,hC,hB⟩,rfl,rfl,rfl⟩) 1)
theorem Fz {n:Nat} {K:gA→Bool→World→Prop} (h:Hp E w (aS b (.behind n)::Rd ⟨pr,0,none⟩ c u ended::F)) (hK:mX b pr c ended (.behind n) u E F K):
  Cl Tryz.prog [jx,kB] ep ⟨[.pointer (some ⟨b,0,none⟩),.pointer (some ⟨pr,0,none⟩)]⟩ w K:=by
 obtain ⟨k1,k2,k3⟩:=hK
 obtain ⟨⟨a,h0,h1,h2,h3,m0,m1,m2,m3,m4,m5,m6,T,C,B,e⟩,⟨⟨hT,hC,hB⟩,hr⟩,h⟩:=aS.fu h
 dsimp only at hT hC hB hr h
 obtain ⟨rfl,rfl⟩:=hr
 refine nZ.ok _ _ _ _ ?_
 (try simp only [au,ak,al,Nat.zero_add,Nat.add_zero,Nat.reduceAdd,Bool.not_true,Bool.not_false,aH,aE,Option.isNone])
 refine Nw.mk h fun b4 w h=> ?_
 refine r0 (h.at 2) fun w h _=> ?_
 by_cases hv:u<8*c.length
 ·have hmic:aF ended c (.behind n) u= .ev (.bad 261) (.bad n 261) u:=by unfold aF;dsimp only;rw [if_pos hv]
  (with_reducible repeat first|refine Nw.mk h fun b w h=> ?_|refine ah.mk h fun w h=> ?_|refine Ld.xb h rfl ?_|refine Ld.xt h rfl ?_|refine ad.xb (fun _ h=>h) rfl ?_|refine ad.xt (fun _ h=>h) rfl ?_|refine ⟨h.hb,?_⟩|refine ae.xw h rfl rfl fun w h=> ?_|(refine ae.xs h rfl rfl fun w h=> ?_;dsimp only [af,ab] at h)|(refine St.xs h rfl rfl fun w h=> ?_;dsimp only [af,ab] at h)|refine aa.yes ?_|refine aa.no ?_|refine ⟨by first|omega|decide,?_⟩)
  refine ia hT hC hB (h.at 2) fun w h=> ?_
  (with_reducible repeat first|refine Nw.mk h fun b w h=> ?_|refine ah.mk h fun w h=> ?_|refine Ld.xb h rfl ?_|refine Ld.xt h rfl ?_|refine ad.xb (fun _ h=>h) rfl ?_|refine ad.xt (fun _ h=>h) rfl ?_|refine ⟨h.hb,?_⟩|refine ae.xw h rfl rfl fun w h=> ?_|(refine ae.xs h rfl rfl fun w h=> ?_;dsimp only [af,ab] at h)|(refine St.xs h rfl rfl fun w h=> ?_;dsimp only [af,ab] at h)|refine aa.yes ?_|refine aa.no ?_|refine ⟨by first|omega|decide,?_⟩)
  refine k3 _ _ _ _ _ hmic (fun _ hx=>by cases hx) (Hp.aW (aS.sh (s:= .bad n 261) (h.no 2) ⟨⟨hT,hC,hB⟩,rfl,rfl,rfl⟩) 1)
 ·(with_reducible repeat first|refine Nw.mk h fun b w h=> ?_|refine ah.mk h fun w h=> ?_|refine Ld.xb h rfl ?_|refine Ld.xt h rfl ?_|refine ad.xb (fun _ h=>h) rfl ?_|refine ad.xt (fun _ h=>h) rfl ?_|refine ⟨h.hb,?_⟩|refine ae.xw h rfl rfl fun w h=> ?_|(refine ae.xs h rfl rfl fun w h=> ?_;dsimp only [af,ab] at h)|(refine St.xs h rfl rfl fun w h=> ?_;dsimp only [af,ab] at h)|refine aa.yes ?_|refine aa.no ?_|refine ⟨by first|omega|decide,?_⟩)
  refine yT h ?_
  cases ended
  ·have hmic:aF false c (.behind n) u= .need:=by unfold aF;dsimp only;rw [if_neg hv];rfl
   (with_reducible repeat first|refine Nw.mk h fun b w h=> ?_|refine ah.mk h fun w h=> ?_|refine Ld.xb h rfl ?_|refine Ld.xt h rfl ?_|refine ad.xb (fun _ h=>h) rfl ?_|refine ad.xt (fun _ h=>h) rfl ?_|refine ⟨h.hb,?_⟩|refine ae.xw h rfl rfl fun w h=> ?_|(refine ae.xs h rfl rfl fun w h=> ?_;dsimp only [af,ab] at h)|(refine St.xs h rfl rfl fun w h=> ?_;dsimp only [af,ab] at h)|refine aa.yes ?_|refine aa.no ?_|refine ⟨by first|omega|decide,?_⟩)
   refine k2 _ hmic (aS.sh ((h.no 1).at 1) ⟨⟨hT,hC,hB⟩,rfl,rfl⟩)
  ·have hmic:aF true c (.behind n) u= .ev .fin (.ab n) u:=by unfold aF;dsimp only;rw [if_neg hv];rfl
   (with_reducible repeat first|refine Nw.mk h fun b w h=> ?_|refine ah.mk h fun w h=> ?_|refine Ld.xb h rfl ?_|refine Ld.xt h rfl ?_|refine ad.xb (fun _ h=>h) rfl ?_|refine ad.xt (fun _ h=>h) rfl ?_|refine ⟨h.hb,?_⟩|refine ae.xw h rfl rfl fun w h=> ?_|(refine ae.xs h rfl rfl fun w h=> ?_;dsimp only [af,ab] at h)|(refine St.xs h rfl rfl fun w h=> ?_;dsimp only [af,ab] at h)|refine aa.yes ?_|refine aa.no ?_|refine ⟨by first|omega|decide,?_⟩)
   refine cm (n:=7) h (fun w h=> ?_) (by simp)
   (with_reducible repeat first|refine Nw.mk h fun b w h=> ?_|refine ah.mk h fun w h=> ?_|refine Ld.xb h rfl ?_|refine Ld.xt h rfl ?_|refine ad.xb (fun _ h=>h) rfl ?_|refine ad.xt (fun _ h=>h) rfl ?_|refine ⟨h.hb,?_⟩|refine ae.xw h rfl rfl fun w h=> ?_|(refine ae.xs h rfl rfl fun w h=> ?_;dsimp only [af,ab] at h)|(refine St.xs h rfl rfl fun w h=> ?_;dsimp only [af,ab] at h)|refine aa.yes ?_|refine aa.no ?_|refine ⟨by first|omega|decide,?_⟩)
   refine k3 _ _ _ _ _ hmic (fun _ hx=>by cases hx) (Hp.aW (aS.sh (s:= .ab n) ((h.no 1).at 1) ⟨⟨hT,hC,hB⟩,rfl,rfl⟩) 1)
theorem HY {n:Nat} {r:Option Addr} {K:gA→Bool→World→Prop} (h:Hp E w (aS b (.ab n)::F)) (hK: ∀w',Hp E w' (aS b (.ab n)::F)→K (fk (some .fin) ⟨none,0,0⟩) true w'):
  Cl Tryz.prog [jx,kB] eL ⟨[.pointer (some ⟨b,0,none⟩),.pointer r]⟩ w K:=by
 refine oV.ok _ _ _ _ ?_
 (with_reducible repeat first|refine Nw.mk h fun b w h=> ?_|refine ah.mk h fun w h=> ?_|refine Ld.xb h rfl ?_|refine Ld.xt h rfl ?_|refine ad.xb (fun _ h=>h) rfl ?_|refine ad.xt (fun _ h=>h) rfl ?_|refine ⟨h.hb,?_⟩|refine ae.xw h rfl rfl fun w h=> ?_|(refine ae.xs h rfl rfl fun w h=> ?_;dsimp only [af,ab] at h)|(refine St.xs h rfl rfl fun w h=> ?_;dsimp only [af,ab] at h)|refine aa.yes ?_|refine aa.no ?_|refine ⟨by first|omega|decide,?_⟩)
 exact hK _ h.tl
theorem F3 {n er:Nat} {r:Option Addr} {K:gA→Bool→World→Prop} (h:Hp E w (aS b (.bad n er)::F)) (hK: ∀w',Hp E w' (aS b (.bad n er)::F)→K (fk (some (.bad er)) ⟨none,0,0⟩) true w'):
  Cl Tryz.prog [jx,kB] eu ⟨[.pointer (some ⟨b,0,none⟩),.pointer r]⟩ w K:=by
 obtain ⟨⟨a,h0,h1,h2,h3,m0,m1,m2,m3,m4,m5,m6,T,C,B,e⟩,⟨⟨hT,hC,hB⟩,hr⟩,h⟩:=aS.fu h
 dsimp only at hT hC hB hr h
 obtain ⟨rfl,rfl,rfl⟩:=hr
 refine nY.ok _ _ _ _ ?_
 (try simp only [au,ak,al,Nat.zero_add,Nat.add_zero,Nat.reduceAdd,Bool.not_true,Bool.not_false,aH,aE,Option.isNone])
 (with_reducible repeat first|refine Nw.mk h fun b w h=> ?_|refine ah.mk h fun w h=> ?_|refine Ld.xb h rfl ?_|refine Ld.xt h rfl ?_|refine ad.xb (fun _ h=>h) rfl ?_|refine ad.xt (fun _ h=>h) rfl ?_|refine ⟨h.hb,?_⟩|refine ae.xw h rfl rfl fun w h=> ?_|(refine ae.xs h rfl rfl fun w h=> ?_;dsimp only [af,ab] at h)|(refine St.xs h rfl rfl fun w h=> ?_;dsimp only [af,ab] at h)|refine aa.yes ?_|refine aa.no ?_|refine ⟨by first|omega|decide,?_⟩)
 refine JG h hT hC hB ?_
 (with_reducible repeat first|refine Nw.mk h fun b w h=> ?_|refine ah.mk h fun w h=> ?_|refine Ld.xb h rfl ?_|refine Ld.xt h rfl ?_|refine ad.xb (fun _ h=>h) rfl ?_|refine ad.xt (fun _ h=>h) rfl ?_|refine ⟨h.hb,?_⟩|refine ae.xw h rfl rfl fun w h=> ?_|(refine ae.xs h rfl rfl fun w h=> ?_;dsimp only [af,ab] at h)|(refine St.xs h rfl rfl fun w h=> ?_;dsimp only [af,ab] at h)|refine aa.yes ?_|refine aa.no ?_|refine ⟨by first|omega|decide,?_⟩)
 exact hK _ (aS.sh (s:= .bad n er) (h.no 0) ⟨⟨hT,hC,hB⟩,rfl,rfl,rfl⟩)
end
end Go.Proofs.YtgglghjnakclmaaGreat
namespace Go.Proofs.YtgglghjnakclmaaGreat
open Go Go.Vc Go.aK Go.Srt Go.Inc Go.Sym Go.Tab Go.Hd Go.Prs
section
variable {E w:World} {F:List HP} {b pr:Nat} {c:List Nat} {u:Nat} {ended:Bool}
theorem CL {c:List Nat} {u:Nat}:bR c u≤1:=by have:=p8 c u;omega
set_option maxRecDepth 20000
theorem Jf {t:TS} (h:gh t):t.l.length<258:=by
 rcases h with ⟨_,h,_⟩|⟨_,h,_⟩
 ·rw [h];simp
 ·omega
theorem DV {n M:Nat} {t:TS} {K:gA→Bool→World→Prop} (h:Hp E w (aS b (.tab n M t)::Rd ⟨pr,0,none⟩ c u ended::F)) (hK:mX b pr c ended (.tab n M t) u E F K):
  Cl Tryz.prog [jx,kB] dS ⟨[.pointer (some ⟨b,0,none⟩),.pointer (some ⟨pr,0,none⟩)]⟩ w K:=by
 obtain ⟨k1,k2,k3⟩:=hK
 obtain ⟨⟨a,h0,h1,h2,h3,m0,m1,m2,m3,m4,m5,m6,T,C,B,e⟩,⟨⟨hT,hC,hB⟩,hr⟩,h⟩:=aS.fu h
 dsimp only at hT hC hB hr h
 obtain ⟨rfl,rfl,rfl,hM1,hM2,hn2,hTe,hok⟩:=hr
 refine nc.ok _ _ _ _ ?_
 (try simp only [au,ak,al,Nat.zero_add,Nat.add_zero,Nat.reduceAdd,Bool.not_true,Bool.not_false,aH,aE,Option.isNone])
 refine Nw.mk h fun b4 w h=> ?_
 refine pd (width:=1) hT hC hB (by decide) (h.at 1|>.at 2|>.at 1) (fun hle w h=> ?_) (fun hle he w h=> ?_) (fun hle he w h=> ?_)
 ·have hbit:=CL (c:=c) (u:=u)
  rw [wa]
  refine Nw.mk h fun b10 w h=> ?_
  (with_reducible repeat first|refine Nw.mk h fun b w h=> ?_|refine ah.mk h fun w h=> ?_|refine Ld.xb h rfl ?_|refine Ld.xt h rfl ?_|refine ad.xb (fun _ h=>h) rfl ?_|refine ad.xt (fun _ h=>h) rfl ?_|refine ⟨h.hb,?_⟩|refine ae.xw h rfl rfl fun w h=> ?_|(refine ae.xs h rfl rfl fun w h=> ?_;dsimp only [af,ab] at h)|(refine St.xs h rfl rfl fun w h=> ?_;dsimp only [af,ab] at h)|refine aa.yes ?_|refine aa.no ?_|refine ⟨by first|omega|decide,?_⟩)
  refine JQ h hT ?_
  rw [aj (by omega),hTe]
  refine FB h hok hbit (fun t' w hq h=> ?_) (fun l nn w hq h=> ?_) (fun o w hq ho hos h=> ?_)
  ·have hmic:aF ended c (.tab n M t) u= .go (.tab n M t') (u+1):=by unfold aF;dsimp only;rw [if_pos hle,hq]
   have hok':=vd hok hbit hq
   have hs:=bE (s:=(t'.l.length:Int)) (b:=(t'.bits:Int)) (n:=(t'.now:Int)) (wy:=(t'.way:Int)) (bz (Nat.le_of_lt (Jf hok')))
   refine Nw.mk h fun b22 w h=> ?_
   refine aq.q h (by simp) hs bq fun w h=> ?_
   (with_reducible repeat first|refine Nw.mk h fun b w h=> ?_|refine ah.mk h fun w h=> ?_|refine Ld.xb h rfl ?_|refine Ld.xt h rfl ?_|refine ad.xb (fun _ h=>h) rfl ?_|refine ad.xt (fun _ h=>h) rfl ?_|refine ⟨h.hb,?_⟩|refine ae.xw h rfl rfl fun w h=> ?_|(refine ae.xs h rfl rfl fun w h=> ?_;dsimp only [af,ab] at h)|(refine St.xs h rfl rfl fun w h=> ?_;dsimp only [af,ab] at h)|refine aa.yes ?_|refine aa.no ?_|refine ⟨by first|omega|decide,?_⟩)
   refine Ld.xw h hs ?_
   refine Aj h hT hs bq fun w h=> ?_
   (with_reducible repeat first|refine Nw.mk h fun b w h=> ?_|refine ah.mk h fun w h=> ?_|refine Ld.xb h rfl ?_|refine Ld.xt h rfl ?_|refine ad.xb (fun _ h=>h) rfl ?_|refine ad.xt (fun _ h=>h) rfl ?_|refine ⟨h.hb,?_⟩|refine ae.xw h rfl rfl fun w h=> ?_|(refine ae.xs h rfl rfl fun w h=> ?_;dsimp only [af,ab] at h)|(refine St.xs h rfl rfl fun w h=> ?_;dsimp only [af,ab] at h)|refine aa.yes ?_|refine aa.no ?_|refine ⟨by first|omega|decide,?_⟩)
   refine k1 _ _ _ _ hmic (aS.sh (((h.no 0).no 0).no 2) ⟨⟨?_,hC,hB⟩,rfl,rfl,rfl,hM1,hM2,hn2,rfl,hok'⟩)
   simp [bz (Nat.le_of_lt (Jf hok'))]
  ·have hmic:aF ended c (.tab n M t) u= .go (.sym n l 0 0 ⟨List.range 256,M,0,0⟩) (u+1):=by unfold aF;dsimp only;rw [if_pos hle,hq]
   obtain ⟨hl,hlok⟩:=tq hok hq
   have hs:=bE (s:=258) (b:=4) (n:=nn) (wy:=0) hl
   refine Nw.mk h fun b22 w h=> ?_
   refine aq.q h (by simp) hs bq fun w h=> ?_
   (with_reducible repeat first|refine Nw.mk h fun b w h=> ?_|refine ah.mk h fun w h=> ?_|refine Ld.xb h rfl ?_|refine Ld.xt h rfl ?_|refine ad.xb (fun _ h=>h) rfl ?_|refine ad.xt (fun _ h=>h) rfl ?_|refine ⟨h.hb,?_⟩|refine ae.xw h rfl rfl fun w h=> ?_|(refine ae.xs h rfl rfl fun w h=> ?_;dsimp only [af,ab] at h)|(refine St.xs h rfl rfl fun w h=> ?_;dsimp only [af,ab] at h)|refine aa.yes ?_|refine aa.no ?_|refine ⟨by first|omega|decide,?_⟩)
   refine Ld.xw h hs ?_
   refine Aj h hT hs bq fun w h=> ?_
   (with_reducible repeat first|refine Nw.mk h fun b w h=> ?_|refine ah.mk h fun w h=> ?_|refine Ld.xb h rfl ?_|refine Ld.xt h rfl ?_|refine ad.xb (fun _ h=>h) rfl ?_|refine ad.xt (fun _ h=>h) rfl ?_|refine ⟨h.hb,?_⟩|refine ae.xw h rfl rfl fun w h=> ?_|(refine ae.xs h rfl rfl fun w h=> ?_;dsimp only [af,ab] at h)|(refine St.xs h rfl rfl fun w h=> ?_;dsimp only [af,ab] at h)|refine aa.yes ?_|refine aa.no ?_|refine ⟨by first|omega|decide,?_⟩)
   refine Ld.p h (ed hl) ?_
   refine ID h hl (fun hno=>by rw [hlok] at hno;cases hno) (fun _ w h=> ?_)
   have hT':(dL l 258 4 nn 0).toList.length=262:=by simp [hl]
   refine Gy h hT' hC (bH hl) (List.all_eq_true.2 c8) fun w h=> ?_
   (with_reducible repeat first|refine Nw.mk h fun b w h=> ?_|refine ah.mk h fun w h=> ?_|refine Ld.xb h rfl ?_|refine Ld.xt h rfl ?_|refine ad.xb (fun _ h=>h) rfl ?_|refine ad.xt (fun _ h=>h) rfl ?_|refine ⟨h.hb,?_⟩|refine ae.xw h rfl rfl fun w h=> ?_|(refine ae.xs h rfl rfl fun w h=> ?_;dsimp only [af,ab] at h)|(refine St.xs h rfl rfl fun w h=> ?_;dsimp only [af,ab] at h)|refine aa.yes ?_|refine aa.no ?_|refine ⟨by first|omega|decide,?_⟩)
   refine Ge h hM1 (by omega) fun w h=> ?_
   refine DW h hT' (by have:=bH (c:=0) (b:=0) hl;simpa using this) hB (aV (by simp)) bk fun w h=> ?_
   refine cm (n:=4) h (fun w h=> ?_) (by simp)
   (with_reducible repeat first|refine Nw.mk h fun b w h=> ?_|refine ah.mk h fun w h=> ?_|refine Ld.xb h rfl ?_|refine Ld.xt h rfl ?_|refine ad.xb (fun _ h=>h) rfl ?_|refine ad.xt (fun _ h=>h) rfl ?_|refine ⟨h.hb,?_⟩|refine ae.xw h rfl rfl fun w h=> ?_|(refine ae.xs h rfl rfl fun w h=> ?_;dsimp only [af,ab] at h)|(refine St.xs h rfl rfl fun w h=> ?_;dsimp only [af,ab] at h)|refine aa.yes ?_|refine aa.no ?_|refine ⟨by first|omega|decide,?_⟩)
   refine k1 _ _ _ _ hmic (aS.sh (((h.no 0).no 0).no 2) ⟨⟨hT',?_,?_⟩,rfl,rfl,by omega,hn2,rfl,hl,mz.zero hlok,rfl,jA.zero (by omega)⟩)
   ·have:=bH (c:=0) (b:=0) hl;simpa using this
   ·simp
  ·have hmic:aF ended c (.tab n M t) u= .ev (.bad 100) (.bad n 100) (u+1):=by unfold aF;dsimp only;rw [if_pos hle,hq]
   refine Nw.mk h fun b22 w h=> ?_
   refine aq.q h (by simp) ho hos fun w h=> ?_
   (with_reducible repeat first|refine Nw.mk h fun b w h=> ?_|refine ah.mk h fun w h=> ?_|refine Ld.xb h rfl ?_|refine Ld.xt h rfl ?_|refine ad.xb (fun _ h=>h) rfl ?_|refine ad.xt (fun _ h=>h) rfl ?_|refine ⟨h.hb,?_⟩|refine ae.xw h rfl rfl fun w h=> ?_|(refine ae.xs h rfl rfl fun w h=> ?_;dsimp only [af,ab] at h)|(refine St.xs h rfl rfl fun w h=> ?_;dsimp only [af,ab] at h)|refine aa.yes ?_|refine aa.no ?_|refine ⟨by first|omega|decide,?_⟩)
   refine ia hT hC hB (h.at 2) fun w h=> ?_
   (with_reducible repeat first|refine Nw.mk h fun b w h=> ?_|refine ah.mk h fun w h=> ?_|refine Ld.xb h rfl ?_|refine Ld.xt h rfl ?_|refine ad.xb (fun _ h=>h) rfl ?_|refine ad.xt (fun _ h=>h) rfl ?_|refine ⟨h.hb,?_⟩|refine ae.xw h rfl rfl fun w h=> ?_|(refine ae.xs h rfl rfl fun w h=> ?_;dsimp only [af,ab] at h)|(refine St.xs h rfl rfl fun w h=> ?_;dsimp only [af,ab] at h)|refine aa.yes ?_|refine aa.no ?_|refine ⟨by first|omega|decide,?_⟩)
   refine k3 _ _ _ _ _ hmic (fun _ hx=>by cases hx) (Hp.aW (aS.sh (s:= .bad n 100) (((h.no 1).no 1).no 2) ⟨⟨hT,hC,hB⟩,rfl,rfl,rfl⟩) 1)
 ·(with_reducible repeat first|refine Nw.mk h fun b w h=> ?_|refine ah.mk h fun w h=> ?_|refine Ld.xb h rfl ?_|refine Ld.xt h rfl ?_|refine ad.xb (fun _ h=>h) rfl ?_|refine ad.xt (fun _ h=>h) rfl ?_|refine ⟨h.hb,?_⟩|refine ae.xw h rfl rfl fun w h=> ?_|(refine ae.xs h rfl rfl fun w h=> ?_;dsimp only [af,ab] at h)|(refine St.xs h rfl rfl fun w h=> ?_;dsimp only [af,ab] at h)|refine aa.yes ?_|refine aa.no ?_|refine ⟨by first|omega|decide,?_⟩)
  have hmic:aF ended c (.tab n M t) u= .ev (.bad 50) (.bad n 50) u:=by
   unfold aF short;dsimp only;rw [if_neg hle,he];rfl
  subst he
  refine k3 _ _ _ _ _ hmic (fun _ hx=>by cases hx) (Hp.aW (aS.sh (s:= .bad n 50) ((h.no 0).no 2) ⟨⟨hT,hC,hB⟩,rfl,rfl,rfl⟩) 1)
 ·(with_reducible repeat first|refine Nw.mk h fun b w h=> ?_|refine ah.mk h fun w h=> ?_|refine Ld.xb h rfl ?_|refine Ld.xt h rfl ?_|refine ad.xb (fun _ h=>h) rfl ?_|refine ad.xt (fun _ h=>h) rfl ?_|refine ⟨h.hb,?_⟩|refine ae.xw h rfl rfl fun w h=> ?_|(refine ae.xs h rfl rfl fun w h=> ?_;dsimp only [af,ab] at h)|(refine St.xs h rfl rfl fun w h=> ?_;dsimp only [af,ab] at h)|refine aa.yes ?_|refine aa.no ?_|refine ⟨by first|omega|decide,?_⟩)
  have hmic:aF ended c (.tab n M t) u= .need:=by
   unfold aF short;dsimp only;rw [if_neg hle,he];rfl
  subst he
  refine k2 _ hmic (aS.sh ((h.no 0).no 2) ⟨⟨hT,hC,hB⟩,rfl,rfl,rfl,hM1,hM2,hn2,hTe,hok⟩)
theorem Ar {n k m:Nat} {l:List Nat} {d:DS} {K:gA→Bool→World→Prop} (h:Hp E w (aS b (.sym n l k m d)::Rd ⟨pr,0,none⟩ c u ended::F)) (hK:mX b pr c ended (.sym n l k m d) u E F K):
  Cl Tryz.prog [jx,kB] dx ⟨[.pointer (some ⟨b,0,none⟩),.pointer (some ⟨pr,0,none⟩)]⟩ w K:=by
 obtain ⟨k1,k2,k3⟩:=hK
 obtain ⟨⟨a,h0,h1,h2,h3,m0,m1,m2,m3,m4,m5,m6,T,C,B,e⟩,⟨⟨hT,hC,hB⟩,hr⟩,h⟩:=aS.fu h
 dsimp only at hT hC hB hr h
 obtain ⟨rfl,rfl,hn1,hn2,hCe,hl,hv,hBe,hd⟩:=hr
 refine mL.ok _ _ _ _ ?_
 (try simp only [au,ak,al,Nat.zero_add,Nat.add_zero,Nat.reduceAdd,Bool.not_true,Bool.not_false,aH,aE,Option.isNone])
 refine Nw.mk h fun b4 w h=> ?_
 refine pd (width:=1) hT hC hB (by decide) (h.at 1|>.at 2|>.at 1) (fun hle w h=> ?_) (fun hle he w h=> ?_) (fun hle he w h=> ?_)
 ·have hbit:=CL (c:=c) (u:=u)
  rw [wa]
  refine Nw.mk h fun b10 w h=> ?_
  (with_reducible repeat first|refine Nw.mk h fun b w h=> ?_|refine ah.mk h fun w h=> ?_|refine Ld.xb h rfl ?_|refine Ld.xt h rfl ?_|refine ad.xb (fun _ h=>h) rfl ?_|refine ad.xt (fun _ h=>h) rfl ?_|refine ⟨h.hb,?_⟩|refine ae.xw h rfl rfl fun w h=> ?_|(refine ae.xs h rfl rfl fun w h=> ?_;dsimp only [af,ab] at h)|(refine St.xs h rfl rfl fun w h=> ?_;dsimp only [af,ab] at h)|refine aa.yes ?_|refine aa.no ?_|refine ⟨by first|omega|decide,?_⟩)
  refine J2 h hT hC ?_
  rw [aj (by omega),hCe]
  have hfs:=DM hl hv hbit
  have hfst:=FI (l:=l) (c:=k) (b:=m) (x:=bR c u)
  have hvn:=hv.next hbit
  refine HX h hl hv hbit fun w h=> ?_
  have hsz:=fun (x y:Nat)=>bH (c:=x) (b:=y) hl
  refine Nw.mk h fun b22 w h=> ?_
  refine aq.q h (by simp) (hsz _ _) (List.all_eq_true.2 c8) fun w h=> ?_
  refine Ld.xw h (hsz _ _) ?_
  refine Gy h hT hC (hsz _ _) (List.all_eq_true.2 c8) fun w h=> ?_
  have hC': ∀x y:Nat,(dc l x y).toList.length=260:=fun x y=>by rw [Array.length_toList];exact hsz x y
  cases hs:(eA l k m (bR c u)).2 with
  |none=>
   rw [hs] at hfs hfst
   rw [hfst] at h hvn
   have hmic:aF ended c (.sym n l k m d) u= .go (.sym n l (2*k+bR c u) (m+1) d) (u+1):=by unfold aF;dsimp only;rw [if_pos hle,←hfs]
   refine aa.t rfl ?_
   (with_reducible repeat first|refine Nw.mk h fun b w h=> ?_|refine ah.mk h fun w h=> ?_|refine Ld.xb h rfl ?_|refine Ld.xt h rfl ?_|refine ad.xb (fun _ h=>h) rfl ?_|refine ad.xt (fun _ h=>h) rfl ?_|refine ⟨h.hb,?_⟩|refine ae.xw h rfl rfl fun w h=> ?_|(refine ae.xs h rfl rfl fun w h=> ?_;dsimp only [af,ab] at h)|(refine St.xs h rfl rfl fun w h=> ?_;dsimp only [af,ab] at h)|refine aa.yes ?_|refine aa.no ?_|refine ⟨by first|omega|decide,?_⟩)
   exact k1 _ _ _ _ hmic (aS.sh (((h.no 0).no 0).no 2) ⟨⟨hT,hC' _ _,hB⟩,rfl,rfl,hn1,hn2,rfl,hl,hvn,hBe,hd⟩)
  |some y=>
   rw [hs] at hfs hfst
   rw [hfst] at h hvn
   have hy:y<258:=(wO hl hv hbit hs).1
   refine aa.f rfl ?_
   refine J7 h hT (hC' _ _) hB ?_
   rw [hBe]
   refine DN (s:=y) h hd hy (fun o w hq ho hos h=> ?_) (fun d' t sl w hq h=> ?_) (fun d' t sl w hq h=> ?_)
   ·have hmic:aF ended c (.sym n l k m d) u= .ev (.bad 160) (.bad n 160) (u+1):=by unfold aF;dsimp only;rw [if_pos hle,←hfs];dsimp only;rw [show bX d y=_ from hq]
    refine Nw.mk h fun b38 w h=> ?_
    refine aq.q h (by simp) ho hos fun w h=> ?_
    (with_reducible repeat first|refine Nw.mk h fun b w h=> ?_|refine ah.mk h fun w h=> ?_|refine Ld.xb h rfl ?_|refine Ld.xt h rfl ?_|refine ad.xb (fun _ h=>h) rfl ?_|refine ad.xt (fun _ h=>h) rfl ?_|refine ⟨h.hb,?_⟩|refine ae.xw h rfl rfl fun w h=> ?_|(refine ae.xs h rfl rfl fun w h=> ?_;dsimp only [af,ab] at h)|(refine St.xs h rfl rfl fun w h=> ?_;dsimp only [af,ab] at h)|refine aa.yes ?_|refine aa.no ?_|refine ⟨by first|omega|decide,?_⟩)
    refine ia hT (hC' _ _) hB (h.at 3) fun w h=> ?_
    (with_reducible repeat first|refine Nw.mk h fun b w h=> ?_|refine ah.mk h fun w h=> ?_|refine Ld.xb h rfl ?_|refine Ld.xt h rfl ?_|refine ad.xb (fun _ h=>h) rfl ?_|refine ad.xt (fun _ h=>h) rfl ?_|refine ⟨h.hb,?_⟩|refine ae.xw h rfl rfl fun w h=> ?_|(refine ae.xs h rfl rfl fun w h=> ?_;dsimp only [af,ab] at h)|(refine St.xs h rfl rfl fun w h=> ?_;dsimp only [af,ab] at h)|refine aa.yes ?_|refine aa.no ?_|refine ⟨by first|omega|decide,?_⟩)
    exact k3 _ _ _ _ _ hmic (fun _ hx=>by cases hx) (Hp.aW (aS.sh (s:= .bad n 160) ((((h.no 1).no 1).no 1).no 2) ⟨⟨hT,hC' _ _,hB⟩,rfl,rfl,rfl⟩) 1)
   ·obtain ⟨hd',hb',_⟩:=zq hd hy hq
    have hdl:=hd'.1.len
    have htl:=h.bS
    simp only [List.length_map,Nat.mul_one] at htl
    refine Nw.mk h fun b38 w h=> ?_
    refine aq.q h (by simp) (aV hdl) bk fun w h=> ?_
    (with_reducible repeat first|refine Nw.mk h fun b w h=> ?_|refine ah.mk h fun w h=> ?_|refine Ld.xb h rfl ?_|refine Ld.xt h rfl ?_|refine ad.xb (fun _ h=>h) rfl ?_|refine ad.xt (fun _ h=>h) rfl ?_|refine ⟨h.hb,?_⟩|refine ae.xw h rfl rfl fun w h=> ?_|(refine ae.xs h rfl rfl fun w h=> ?_;dsimp only [af,ab] at h)|(refine St.xs h rfl rfl fun w h=> ?_;dsimp only [af,ab] at h)|refine aa.yes ?_|refine aa.no ?_|refine ⟨by first|omega|decide,?_⟩)
    refine Ld.xw h (aV hdl) ?_
    refine DW h hT (hC' _ _) hB (aV hdl) bk fun w h=> ?_
    have hB':(fP d'.L (d'.left:Int) (d'.run:Int) (d'.digits:Int) false).toList.length=260:=by rw [Array.length_toList];exact aV hdl
    refine aa.f rfl ?_
    (with_reducible repeat first|refine Nw.mk h fun b w h=> ?_|refine ah.mk h fun w h=> ?_|refine Ld.xb h rfl ?_|refine Ld.xt h rfl ?_|refine ad.xb (fun _ h=>h) rfl ?_|refine ad.xt (fun _ h=>h) rfl ?_|refine ⟨h.hb,?_⟩|refine ae.xw h rfl rfl fun w h=> ?_|(refine ae.xs h rfl rfl fun w h=> ?_;dsimp only [af,ab] at h)|(refine St.xs h rfl rfl fun w h=> ?_;dsimp only [af,ab] at h)|refine aa.yes ?_|refine aa.no ?_|refine ⟨by first|omega|decide,?_⟩)
    have h:=((((h.no 0).no 1).no 1).no 3)
    by_cases ht:t= []
    ·have hmic:aF ended c (.sym n l k m d) u= .go (.sym n l 0 0 d') (u+1):=by unfold aF;dsimp only;rw [if_pos hle,←hfs];dsimp only;rw [show bX d y=_ from hq];dsimp only;rw [if_pos ht];rfl
     refine dw (K:=fun b w=>K _ b w) (decide_eq_false (by rw [ht] at htl;simp at htl;omega)) ?_
     exact k1 _ _ _ _ hmic (aS.sh h.drop ⟨⟨hT,hC' _ _,hB'⟩,rfl,rfl,hn1,hn2,rfl,hl,hvn,rfl,hd'⟩)
    ·have hmic:aF ended c (.sym n l k m d) u= .ev (.bytes t) (.sym n l 0 0 d') (u+1):=by unfold aF;dsimp only;rw [if_pos hle,←hfs];dsimp only;rw [show bX d y=_ from hq];dsimp only;rw [if_neg ht];rfl
     refine dw (K:=fun b w=>K _ b w) (decide_eq_true (by have:=List.length_pos_iff.2 ht;omega)) ?_
     exact k3 (.bytes t) _ _ _ _ hmic hb' (aS.sh (s:= .sym n l 0 0 d') (h.at 1) ⟨⟨hT,hC' _ _,hB'⟩,rfl,rfl,hn1,hn2,rfl,hl,hvn,rfl,hd'⟩).p1
   ·have hdl:=hd.1.len
    have htl:=h.bS
    simp only [List.length_map,Nat.mul_one] at htl
    refine Nw.mk h fun b38 w h=> ?_
    refine aq.q h (by simp) (aV hdl) bk fun w h=> ?_
    (with_reducible repeat first|refine Nw.mk h fun b w h=> ?_|refine ah.mk h fun w h=> ?_|refine Ld.xb h rfl ?_|refine Ld.xt h rfl ?_|refine ad.xb (fun _ h=>h) rfl ?_|refine ad.xt (fun _ h=>h) rfl ?_|refine ⟨h.hb,?_⟩|refine ae.xw h rfl rfl fun w h=> ?_|(refine ae.xs h rfl rfl fun w h=> ?_;dsimp only [af,ab] at h)|(refine St.xs h rfl rfl fun w h=> ?_;dsimp only [af,ab] at h)|refine aa.yes ?_|refine aa.no ?_|refine ⟨by first|omega|decide,?_⟩)
    refine Ld.xw h (aV hdl) ?_
    refine DW h hT (hC' _ _) hB (aV hdl) bk fun w h=> ?_
    have hB':(fP d.L 0 0 0 true).toList.length=260:=by rw [Array.length_toList];exact aV hdl
    refine aa.t rfl ?_
    refine cm (n:=5) h (fun w h=> ?_) (by simp)
    (with_reducible repeat first|refine Nw.mk h fun b w h=> ?_|refine ah.mk h fun w h=> ?_|refine Ld.xb h rfl ?_|refine Ld.xt h rfl ?_|refine ad.xb (fun _ h=>h) rfl ?_|refine ad.xt (fun _ h=>h) rfl ?_|refine ⟨h.hb,?_⟩|refine ae.xw h rfl rfl fun w h=> ?_|(refine ae.xs h rfl rfl fun w h=> ?_;dsimp only [af,ab] at h)|(refine St.xs h rfl rfl fun w h=> ?_;dsimp only [af,ab] at h)|refine aa.yes ?_|refine aa.no ?_|refine ⟨by first|omega|decide,?_⟩)
    have h:=((((h.no 0).no 1).no 1).no 3)
    by_cases ht:t= []
    ·have hmic:aF ended c (.sym n l k m d) u= .go (.pad n) (u+1):=by unfold aF;dsimp only;rw [if_pos hle,←hfs];dsimp only;rw [show bX d y=_ from hq];dsimp only;rw [if_pos ht];rfl
     refine dw (K:=fun b w=>K _ b w) (decide_eq_false (by rw [ht] at htl;simp at htl;omega)) ?_
     exact k1 _ _ _ _ hmic (aS.sh h.drop ⟨⟨hT,hC' _ _,hB'⟩,rfl,rfl,hn1,hn2⟩)
    ·have hmic:aF ended c (.sym n l k m d) u= .ev (.bytes t) (.pad n) (u+1):=by unfold aF;dsimp only;rw [if_pos hle,←hfs];dsimp only;rw [show bX d y=_ from hq];dsimp only;rw [if_neg ht];rfl
     refine dw (K:=fun b w=>K _ b w) (decide_eq_true (by have:=List.length_pos_iff.2 ht;omega)) ?_
     exact k3 (.bytes t) _ _ _ _ hmic (Eu hd hq).1 (aS.sh (s:= .pad n) (h.at 1) ⟨⟨hT,hC' _ _,hB'⟩,rfl,rfl,hn1,hn2⟩).p1
 ·(with_reducible repeat first|refine Nw.mk h fun b w h=> ?_|refine ah.mk h fun w h=> ?_|refine Ld.xb h rfl ?_|refine Ld.xt h rfl ?_|refine ad.xb (fun _ h=>h) rfl ?_|refine ad.xt (fun _ h=>h) rfl ?_|refine ⟨h.hb,?_⟩|refine ae.xw h rfl rfl fun w h=> ?_|(refine ae.xs h rfl rfl fun w h=> ?_;dsimp only [af,ab] at h)|(refine St.xs h rfl rfl fun w h=> ?_;dsimp only [af,ab] at h)|refine aa.yes ?_|refine aa.no ?_|refine ⟨by first|omega|decide,?_⟩)
  have hmic:aF ended c (.sym n l k m d) u= .ev (.bad 50) (.bad n 50) u:=by
   unfold aF short;dsimp only;rw [if_neg hle,he];rfl
  subst he
  refine k3 _ _ _ _ _ hmic (fun _ hx=>by cases hx) (Hp.aW (aS.sh (s:= .bad n 50) ((h.no 0).no 2) ⟨⟨hT,hC,hB⟩,rfl,rfl,rfl⟩) 1)
 ·(with_reducible repeat first|refine Nw.mk h fun b w h=> ?_|refine ah.mk h fun w h=> ?_|refine Ld.xb h rfl ?_|refine Ld.xt h rfl ?_|refine ad.xb (fun _ h=>h) rfl ?_|refine ad.xt (fun _ h=>h) rfl ?_|refine ⟨h.hb,?_⟩|refine ae.xw h rfl rfl fun w h=> ?_|(refine ae.xs h rfl rfl fun w h=> ?_;dsimp only [af,ab] at h)|(refine St.xs h rfl rfl fun w h=> ?_;dsimp only [af,ab] at h)|refine aa.yes ?_|refine aa.no ?_|refine ⟨by first|omega|decide,?_⟩)
  have hmic:aF ended c (.sym n l k m d) u= .need:=by
   unfold aF short;dsimp only;rw [if_neg hle,he];rfl
  subst he
  refine k2 _ hmic (aS.sh ((h.no 0).no 2) ⟨⟨hT,hC,hB⟩,rfl,rfl,hn1,hn2,hCe,hl,hv,hBe,hd⟩)
end
end Go.Proofs.YtgglghjnakclmaaGreat
set_option maxRecDepth 20000
namespace Go.Vc
open Go
def wR (P:Program) (ops:Array Oper) (S:World→Prop) (K:AF→World→Prop) (J:Array Bool→AF→World→Prop) (listed:Array Bool) (f:AF) (w:World):Prop:=
 match Region.ready .any ops listed with
 | []=>K f w
 |r::rs=>match (r::rs).find? (fun i=>(match ops[i]? with|some o=>cZ P o.op|none=>false)&&Region.free .any ops listed i) with
  |some i=>match ops[i]? with
   |some o=>guarded ops o f
     (fun f=>iE P S f (fun v=>J (listed.setIfInBounds i true) (bj f o.dst v) w) o.op)
     (fun f=>J (listed.setIfInBounds i true) (bj f o.dst (some undef)) w)
   |none=>False
  |none=>oA (r::rs) fun i=>match ops[i]? with
   |some o=>guarded ops o f
     (fun f=>gU P f o w fun v w'=>S w'∧J (listed.setIfInBounds i true) (bj f o.dst v) w')
     (fun f=>J (listed.setIfInBounds i true) (bj f o.dst (some undef)) w)
   |none=>False
theorem a6 {P:Program} {ops:Array Oper} {S:World→Prop} {K:AF→World→Prop} {n:Nat} {listed:Array Bool} {f:AF} {w:World} (h:wR P ops S K (aB P ops S K n) listed f w):aB P ops S K (n+1) listed f w:=h
noncomputable def rW:Code→List Bool→Code
 |c,[]=>c
 | .seq x _,false::l=>rW x l
 | .seq _ y,true::l=>rW y l
 |c,_=>c
noncomputable def Ie:Code→Array Oper
 | .region _ ops _=>ops
 |_=> #[]
def Cq (P:Program) (ops:Array Oper) (i:Nat):Bool:=match ops[i]? with|some o=>cZ P o.op|none=>false
def lC (P:Program) (ops:Array Oper) (listed:Array Bool) (i:Nat):Bool:=Cq P ops i&&Region.free .any ops listed i
def aU (P:Program) (ops:Array Oper) (S:World→Prop) (J:Array Bool→AF→World→Prop) (listed:Array Bool) (f:AF) (w:World) (i:Nat):Prop:=match ops[i]? with
 |some o=>guarded ops o f
   (fun f=>gU P f o w fun v w'=>S w'∧J (listed.setIfInBounds i true) (bj f o.dst v) w')
   (fun f=>J (listed.setIfInBounds i true) (bj f o.dst (some undef)) w)
 |none=>False
def eE (P:Program) (ops:Array Oper) (S:World→Prop) (J:Array Bool→AF→World→Prop) (listed:Array Bool) (f:AF) (w:World) (i:Nat):Prop:=match ops[i]? with
 |some o=>guarded ops o f
   (fun f=>iE P S f (fun v=>J (listed.setIfInBounds i true) (bj f o.dst v) w) o.op)
   (fun f=>J (listed.setIfInBounds i true) (bj f o.dst (some undef)) w)
 |none=>False
theorem yw {F:Nat→Prop}: ∀{l:List Nat},(∀i∈l,F i)→oA l F
 | [],_=>trivial
 | [i],h=>h i (by simp)
 |i::j::l,h=>⟨h i (by simp),yw fun k hk=>h k (List.mem_cons_of_mem _ hk)⟩
theorem xp {P:Program} {ops:Array Oper} {S:World→Prop} {K:AF→World→Prop} {J:Array Bool→AF→World→Prop} {listed:Array Bool} {f:AF} {w:World} {rs:List Nat}
  (hr:Region.ready .any ops listed=rs) (hn:rs≠ []) (hf:rs.find? (lC P ops listed)=none) (h: ∀i∈rs,aU P ops S J listed f w i):wR P ops S K J listed f w:=by
 unfold wR
 rw [hr]
 cases rs with
 |nil=>exact absurd rfl hn
 |cons r rs=>
  have hf':(r::rs).find? (fun i=>(match ops[i]? with|some o=>cZ P o.op|none=>false)&&Region.free .any ops listed i)=none:=hf
  dsimp only
  rw [hf']
  exact yw h
theorem bt {P:Program} {ops:Array Oper} {S:World→Prop} {K:AF→World→Prop} {J:Array Bool→AF→World→Prop} {listed:Array Bool} {f:AF} {w:World} {rs:List Nat} {i:Nat}
  (hr:Region.ready .any ops listed=rs) (hf:rs.find? (lC P ops listed)=some i) (h:eE P ops S J listed f w i):wR P ops S K J listed f w:=by
 unfold wR
 rw [hr]
 cases rs with
 |nil=>cases hf
 |cons r rs=>
  have hf':(r::rs).find? (fun i=>(match ops[i]? with|some o=>cZ P o.op|none=>false)&&Region.free .any ops listed i)=some i:=hf
  dsimp only
  rw [hf']
  exact h
end Go.Vc
set_option maxRecDepth 20000
namespace Go.Vc
def wJ (A:List (List Nat)) (g:Nat→Bool):List Nat:=(List.range A.length).filter fun i=> !g i&&(A.getD i []).all g
def eM (n:Nat) (g:Nat→Bool):Array Bool:=⟨(List.range n).map g⟩
theorem nr {n r:Nat} {g:Nat→Bool} {d:Bool} (h:r<n):(eM n g).getD r d=g r:=by
 simp [eM,Array.getD,h]
theorem Cz {n r:Nat} {g g':Nat→Bool} (h: ∀q,q<n→g' q=((q==r)||g q)):(eM n g).setIfInBounds r true=eM n g':=by
 apply Array.ext_getElem?
 intro q
 rw [Array.getElem?_setIfInBounds]
 by_cases hq:q<n
 ·have h1: ∀g:Nat→Bool,(eM n g)[q]? =some (g q):=fun g=>by simp [eM,hq]
  have h2:(eM n g).size=n:=by simp [eM]
  rw [h1,h1,h2,h q hq]
  by_cases e:r=q
  ·subst e
   rw [if_pos rfl,if_pos hq,beq_self_eq_true,Bool.true_or]
  ·rw [if_neg e,beq_eq_false_iff_ne.2 (Ne.symm e),Bool.false_or]
 ·have h1: ∀g:Nat→Bool,(eM n g)[q]? =none:=fun g=>by simp [eM];omega
  have h2:(eM n g).size=n:=by simp [eM]
  rw [h1,h1,h2]
  split
  ·rw [if_neg (by omega)]
  ·rfl
theorem mK {α β:Type} {p:β→Bool} {f:α→β} {q:α→Bool}: ∀(l:List α),((l.filter q).map f).all p=l.all fun e=> !q e||p (f e)
 | []=>rfl
 |a::l=>by
  have:=mK (p:=p) (f:=f) (q:=q) l
  cases hq:q a
  ·rw [List.filter_cons_of_neg (by simp [hq]),List.all_cons,hq,this];rfl
  ·rw [List.filter_cons_of_pos hq,List.map_cons,List.all_cons,List.all_cons,hq,this];rfl
theorem C4 {ops:Array Oper} {A:List (List Nat)} {g:Nat→Bool} (h:ops.toList.map (fun o=>(o.after.toList.filter fun e=>Region.binds .any e).map (·.on))=A) (hA: ∀l∈A,∀x∈l,x<A.length):
  Region.ready .any ops (eM A.length g)=wJ A g:=by
 have hl:ops.size=A.length:=by rw [←h];simp
 unfold Region.ready wJ
 rw [hl]
 refine List.filter_congr fun i hi=> ?_
 have hi:i<A.length:=by simpa using hi
 rw [nr hi]
 congr 1
 have ho: ∃o,ops[i]? =some o∧A.getD i []=((o.after.toList.filter fun e=>Region.binds .any e).map (·.on)):=by
  refine ⟨ops[i]'(by omega),by simp [hl,hi],?_⟩
  subst h
  simp at hi
  simp [List.getD_eq_getElem?_getD,hi]
 obtain ⟨o,ho,hAi⟩:=ho
 rw [ho,hAi]
 simp only [Option.map_some,Option.getD_some]
 rw [mK,←Array.all_toList]
 have hm: ∀e∈o.after.toList,Region.binds .any e=true→e.on<A.length:=fun e he hb=>by
  refine hA (A.getD i []) ?_ _ ?_
  ·rw [List.getD_eq_getElem?_getD,List.getElem?_eq_getElem hi];exact List.getElem_mem hi
  ·rw [hAi];exact List.mem_map.2 ⟨e,List.mem_filter.2 ⟨he,hb⟩,rfl⟩
 rw [Bool.eq_iff_iff,List.all_eq_true,List.all_eq_true]
 refine ⟨fun hh e he=> ?_,fun hh e he=> ?_⟩
 ·have:=hh e he
  cases hb:Region.binds .any e with
  |false=>rfl
  |true=>rw [hb] at this;simpa [nr (hm e he hb)] using this
 ·have:=hh e he
  cases hb:Region.binds .any e with
  |false=>rfl
  |true=>rw [hb] at this;simpa [nr (hm e he hb)] using this
end Go.Vc
namespace Go.Proofs.YtgglghjnakclmaaGreat
open Go Go.Vc Go.aK Go.Srt Go.Inc Go.Sym Go.Tab Go.Hd Go.Prs
noncomputable section
def ar:Array Oper:=Ie (rW (Tryz.f19.body.getD .skip) [true,true,false])
end
def Bk:List (List Nat):= []::(List.range 33).tail.map (fun r=>if r=1 then [] else if r % 4=1 then [r - 4] else if r % 4=2 then [] else if r % 4=3 then [r - 1] else [0,r - 3,r - 1])++ [List.range 33,[33,29]++List.range 34]
set_option maxRecDepth 100000 in
theorem zZ:ar.toList.map (fun o=>(o.after.toList.filter fun e=>Region.binds .any e).map (·.on))=Bk:=by kernel_rfl
theorem FZ:Bk.length=35:=by decide
theorem GN: ∀l∈Bk,∀x∈l,x<Bk.length:=by decide
set_option maxRecDepth 100000 in
theorem zM:((List.range 35).map fun r=>Cq Tryz.prog ar r)=(List.range 35).map fun r=>decide (33≤r)||r % 4==2||r % 4==3:=by kernel_rfl
def gM (made:Bool) (i T r:Nat):Bool:=Nat.blt r 33&&(Nat.beq (r % 4) 2||Nat.beq (r % 4) 3||(Nat.beq r 0&&made)||(Nat.beq (r % 4) 1&&Nat.blt (r/4) i)||(Nat.beq (r % 4) 0&&Nat.blt 0 r&&Nat.beq ((T/2^(r/4 - 1)) % 2) 1))
def LM (made:Bool) (i T:Nat):Array Bool:=eM 35 (gM made i T)
def q6 (made:Bool) (i T:Nat):List Nat:=(if made then [] else [0])++((List.range i).filter fun j=>made&&Nat.beq ((T/2^j) % 2) 0).map (fun j=>4+4*j)++(if Nat.blt i 8 then [1+4*i] else [])
def tI (made:Bool) (i T r:Nat):Nat→Bool:=if r=0 then gM true i T else if r % 4=1 then gM made (i+1) T else gM made i (T+2^(r/4 - 1))
def EJ (made:Bool) (i T:Nat):Bool:=
 (Nat.beq i 8&&Nat.beq T 255)||(wJ Bk (gM made i T)==q6 made i T)&&((q6 made i T).all fun r=>(List.range 35).all fun q=>tI made i T r q==(Nat.beq q r||gM made i T q))
theorem IY:((List.range 9).all fun i=>EJ false i 0)=true:=by kernel_rfl
theorem IH:((List.range 9).all fun i=>(List.range (2^i)).all fun T=>EJ true i T)=true:=by kernel_rfl
end Go.Proofs.YtgglghjnakclmaaGreat
