/- Texts packed together by program; spaces struck by program. Conditions: as each theorem states. -/
import Derived.Laws.CopyRow
import Derived.Laws.IdiomCopy
import Derived.Lib.MakeNoZero
import Derived.Test.YtgglghjnakclmaaGreatQfb
set_option linter.unusedSimpArgs false
set_option linter.unusedVariables false
set_option maxRecDepth 20000
namespace Go.Srt
def bz (l:List Nat):Bool:=decide (aZ l=32768)&&decide (0<l.getD 257 0)
theorem iW {l:List Nat}:bz l=true↔aZ l=32768∧0<l.getD 257 0:=by simp [bz]
def oh (l:List Nat) (n p:Nat):Nat:=((List.range l.length).find? fun s=>(l.getD s 0==n)&&(fk l s==p)).getD 0
theorem rq {l:List Nat} {n p:Nat} (h:p<l.count n):oh l n p<l.length∧l.getD (oh l n p) 0=n∧fk l (oh l n p)=p:=by
 obtain ⟨s,hs,h1,h2⟩:=zK l n p h
 unfold oh
 cases hf:(List.range l.length).find? fun s=>(l.getD s 0==n)&&(fk l s==p) with
 |none=>
  have:=List.find?_eq_none.1 hf s (by simpa using hs)
  simp only [Bool.and_eq_true,beq_iff_eq] at this
  exact absurd ⟨h1,h2⟩ this
 |some t=>
  have h3:=List.find?_some hf
  have h4:=List.mem_of_find?_eq_some hf
  simp only [Bool.and_eq_true,beq_iff_eq] at h3
  exact ⟨by simpa using h4,h3⟩
def je (l:List Nat) (c b:Nat):Prop:=bz l=true∧b<15∧c<2^b∧fst l b+many l b≤c
def dQ (l:List Nat) (c b x:Nat):(Nat×Nat)×Option Nat:=
 if fst l (b+1)+many l (b+1)≤2*c+x then ((2*c+x,b+1),none) else ((0,0),some (oh l (b+1) (2*c+x - fst l (b+1))))
theorem je.zero {l:List Nat} (h:bz l=true):je l 0 0:=⟨h,by decide,by decide,by simp [fst,many]⟩
theorem je.ge {l:List Nat} {c b:Nat} (h:je l c b):fst l (b+1)≤2*c:=by rw [fst];have:=h.2.2.2;omega
theorem Ch {l:List Nat} (h:bz l=true):fst l 15+many l 15=32768:=by
 have h1:=o5 l 15 (by decide)
 have h2:=B9 (l:=l) (by rw [(iW.1 h).1];decide)
 rw [(iW.1 h).1] at h2
 rw [low] at h2
 omega
theorem je.next {l:List Nat} {c b x:Nat} (h:je l c b) (hx:x≤1):je l (dQ l c b x).1.1 (dQ l c b x).1.2:=by
 unfold dQ
 split
 ·rename_i hc
  have hp:(2:Nat)^(b+1)=2*2^b:=by rw [Nat.pow_succ,Nat.mul_comm]
  have h2:=h.2.2.1
  refine ⟨h.1,?_,by show 2*c+x<2^(b+1);omega,hc⟩
  rcases Nat.lt_or_ge (b+1) 15 with h1|h1
  ·exact h1
  ·have:b=14:=by have:=h.2.1;omega
   subst this
   have:=Ch h.1
   have:(2:Nat)^14=16384:=by decide
   simp only [Nat.reduceAdd] at hc
   omega
 ·exact je.zero h.1
theorem q5 {l:List Nat} {c b x s:Nat} (hl:l.length=258) (h:je l c b) (hx:x≤1) (hs:(dQ l c b x).2=some s):s<258∧l.getD s 0=b+1∧code l s=2*c+x∧b<15:=by
 unfold dQ at hs
 split at hs
 ·cases hs
 ·rename_i hc
  have h1:s=oh l (b+1) (2*c+x - fst l (b+1)):=by injection hs with hs;exact hs.symm
  have hge:=h.ge
  have hm:many l (b+1)=l.count (b+1):=by unfold many;rw [if_neg (by omega)]
  obtain ⟨h2,h3,h4⟩:=rq (l:=l) (n:=b+1) (p:=2*c+x - fst l (b+1)) (by omega)
  rw [←h1] at h2 h3 h4
  refine ⟨by omega,h3,?_,h.2.1⟩
  unfold code
  rw [h3,h4];omega
theorem xR {l:List Nat} {c b x:Nat} (hs:(dQ l c b x).2=none):(dQ l c b x).1=(2*c+x,b+1):=by
 unfold dQ at hs⊢
 split
 ·rfl
 ·rename_i h;rw [if_neg h] at hs;cases hs
theorem yu {l:List Nat} {c b x s:Nat} (hs:(dQ l c b x).2=some s):(dQ l c b x).1=(0,0):=by
 unfold dQ at hs⊢
 split
 ·rename_i h;rw [if_pos h] at hs;cases hs
 ·rfl
theorem n8 {l:List Nat} (hl:l.length≤258): ∀n,fst l n+516≤516*2^n
 |0=>by simp [fst]
 |n+1=>by
  have:=n8 hl n
  have h2:many l n≤258:=by
   unfold many
   split
   ·omega
   ·exact Nat.le_trans List.count_le_length hl
  rw [fst,Nat.pow_succ];omega
theorem oU {l:List Nat} (hl:l.length≤258) (n:Nat):many l n≤258:=by
 unfold many
 split
 ·omega
 ·exact Nat.le_trans List.count_le_length hl
end Go.Srt
namespace Go.Proofs.YtgglghjnakclmaaGreat
open Go Go.Vc Go.Srt
section
variable {E w:World} {F:List HP}
theorem lQ {l:List Nat} {i:Nat} {k:IntKind} (h:i<l.length):(ai k l)[((i:Nat):Int).toNat]? =some (Sc.enc (.int k) (l.getD i 0:Int)):=by
 rw [Int.toNat_natCast,j5 h,cg h]
theorem vi {l:List Nat} {K:Bool→World→Prop} (h:Hp E w F) (hl:l.length=258) (hK: ∀w',Hp E w' F→K (decide (aZ l=32768)) w'):Cl Tryz.prog [kB] fJ ⟨[.agg (ai .u8 l)]⟩ w K:=by
 refine o6.ok _ _ _ ?_
 refine Nw.mk h fun b w1 h1=>Ld.arr h1 (by rw [bQ,hl]) (uF h1 hl fun w2 h2=> ?_)
 have:((aZ l:Int)==32768)=decide (aZ l=32768):=by rw [Bool.eq_iff_iff];simp;omega
 rw [this]
 exact hK _ h2.drop
theorem o7 {l:List Nat} {K:Bool→World→Prop} (h:Hp E w F) (hl:l.length=258) (hK: ∀w',Hp E w' F→K (bz l) w'):Cl Tryz.prog [kB] dh ⟨[.agg (ai .u8 l)]⟩ w K:=by
 refine tf.ok _ _ _ ?_
 refine Nw.mk h fun b w1 h1=>Ld.arr h1 (by rw [bQ,hl]) (vi h1 hl fun w2 h2=>aa.mk (fun hv=> ?_) (fun hv=> ?_))
 ·refine aY.rd (s:= .int .u8) h2 (by decide) (by decide) (l.getD 257 0:Int) (lQ (i:=257) (by omega)) ?_
  have:decide ((l.getD 257 0:Int)>0)=bz l:=by
   unfold bz;rw [hv,Bool.true_and,Bool.eq_iff_iff,decide_eq_true_eq,decide_eq_true_eq];omega
  rw [this]
  exact hK _ h2.drop
 ·have:false=bz l:=by unfold bz;rw [hv,Bool.false_and]
  rw [this]
  exact hK _ h2.drop
abbrev yG:List Sc:= [.int .i64,.int .i64,.int .i64,.int .i64,.int .i64,.int .i64,.int .i64,.int .i64,.int .i64,.int .i64,.int .i64,.int .i64,.int .i64,.int .i64,.int .i64,.int .i64]
def t16 (f:Nat→Int):TT yG:=(f 0,f 1,f 2,f 3,f 4,f 5,f 6,f 7,f 8,f 9,f 10,f 11,f 12,f 13,f 14,f 15,())
theorem Cp (f:Nat→Int):cF 16 f=⟨bK yG (t16 f)⟩:=rfl
theorem Be (f:Nat→Int): ∀v∈ [(.int .i64 (f 0):Value),.int .i64 (f 1),.int .i64 (f 2),.int .i64 (f 3),.int .i64 (f 4),.int .i64 (f 5),.int .i64 (f 6),.int .i64 (f 7),.int .i64 (f 8),.int .i64 (f 9),.int .i64 (f 10),.int .i64 (f 11),.int .i64 (f 12),.int .i64 (f 13),.int .i64 (f 14),.int .i64 (f 15)],ay v=true:=by
 intro v hv
 simp only [List.mem_cons,List.not_mem_nil,or_false] at hv
 rcases hv with rfl|rfl|rfl|rfl|rfl|rfl|rfl|rfl|rfl|rfl|rfl|rfl|rfl|rfl|rfl|rfl<;>rfl
theorem nS:(⟨List.replicate 16 (.int .i64 0)⟩:Array Value)=cF 16 fun _=>0:=rfl
set_option maxRecDepth 20000 in
theorem xv {l:List Nat} {K:TT yG→World→Prop} (h:Hp E w F) (hl:l.length=258) (h15: ∀x∈l,x≤15) (hK: ∀w',Hp E w' F→K (t16 fun j=>(l.count j:Int)) w'):Cl Tryz.prog [.st yG] gL ⟨[.agg (ai .u8 l)]⟩ w K:=by
 refine qV.ok _ _ _ ?_
 rw [nS]
 refine Nw.mk h fun b w1 h1=>Nw.mk h1 fun b2 w2 h2=>Ld.arr h2.p1 (by rw [bQ,hl]) ?_
 refine ⟨fun i w'=> ∃k:Nat,i=(k:Int)∧k≤258∧Hp E w' (aq b2 (.cells (cF 16 fun j=>((l.take k).count j:Int)) 309 (0,0))::F),fun i _=>258 - i.toNat,⟨0,rfl,by omega,?_⟩,?_⟩
 ·have:=h2.p1.drop
  rwa [dU (g:=fun j=>((l.take 0).count j:Int)) (fun i _=>by simp)] at this
 rintro i w' ⟨k,rfl,hk,hh⟩
 refine aa.mk (fun hlt=> ?_) (fun hge=> ?_)
 ·have hlt:k<258:=by have:=of_decide_eq_true hlt;omega
  have hkl:k<l.length:=by omega
  have hcl: ∀x,(l.take k).count x≤258:=fun x=>Nat.le_trans List.count_le_length (by rw [List.length_take];omega)
  refine gB.rd (s:= .int .u8) (by omega) (by omega) (l[k]:Int) (by rw [Int.toNat_natCast];exact j5 hkl) ?_
  have h16:=h15 _ (List.getElem_mem hkl)
  rw [aj (x:=(l[k]:Int)) (by omega)]
  refine aa.t (decide_eq_true (by omega)) ?_
  refine aY.rd (s:= .int .i64) hh (by omega) (by omega) ((l.take k).count l[k]:Int) (by rw [Int.toNat_natCast];exact nh (by omega)) ?_
  have:=hcl l[k]
  refine aY.wr hh (by omega) (by omega) cE rfl fun w3 h3=> ?_
  rw [aj (by omega),Int.toNat_natCast,kv] at h3
  rw [aj (by omega)]
  refine ⟨⟨k+1,rfl,by omega,?_⟩,by dsimp only;omega⟩
  rw [dU (g:=fun j=>((l.take (k+1)).count j:Int))] at h3
  ·exact h3
  ·intro j hj
   rw [dn hkl]
   by_cases e:j=l[k]
   ·subst e;rw [if_pos rfl,if_pos rfl];omega
   ·rw [if_neg e,if_neg (Ne.symm e)];omega
 ·have hge:k=258:=by have:=of_decide_eq_false hge;omega
  subst hge
  rw [←hl,List.take_length] at hh
  refine Ld.yX hh (t16 fun j=>(l.count j:Int)) (Cp _) (ae.aN hh (by rw [cE];rfl) (Be fun j=>(l.count j:Int)) fun w3 h3=> ?_)
  exact Ld.yX h3 (t16 fun j=>(l.count j:Int)) rfl (hK _ h3.drop)
set_option maxRecDepth 20000 in
theorem ph {l:List Nat} {n:Nat} {K:Int→Int→World→Prop} (h:Hp E w F) (hl:l.length=258) (h15: ∀x∈l,x≤15) (hn:n≤15) (hK: ∀w',Hp E w' F→K (Srt.fst l n:Int) (many l n:Int) w'):
  Cl Tryz.prog [kI,kI] dE ⟨[.agg (ai .u8 l),.int .i64 (n:Int)]⟩ w K:=by
 refine nZ.ok _ _ _ _ ?_
 refine Nw.mk h fun b w1 h1=>Ld.arr h1 (by rw [bQ,hl]) (xv h1.drop hl h15 fun w2 h2=> ?_)
 rw [nS]
 refine Nw.mk h2 fun b2 w3 h3=>ae.aN h3 (by rw [cE];rfl) (Be fun j=>(l.count j:Int)) fun w4 h4=> ?_
 have h4:Hp E w4 (aq b2 (.cells (cF 16 fun j=>(l.count j:Int)) 309 (0,0))::F):=h4
 refine aY.wr h4 (by decide) (by decide) cE rfl fun w5 h5=> ?_
 rw [show (0:Int).toNat=0 from rfl,kv,dU (g:=fun j=>(many l j:Int)) (fun i _=>by unfold many;by_cases e:i=0<;>simp [e])] at h5
 refine ⟨fun c m w'=> ∃k:Nat,m=(k:Int)+1∧k≤n∧c=(Srt.fst l k:Int)∧Hp E w' (aq b2 (.cells (cF 16 fun j=>(many l j:Int)) 309 (0,0))::F),fun _ m _=>18 - m.toNat,⟨0,rfl,by omega,rfl,h5⟩,?_⟩
 rintro c m w' ⟨k,rfl,hk,rfl,hh⟩
 refine aa.mk (fun hlt=> ?_) (fun hge=> ?_)
 ·have hlt:k<n:=by have:=of_decide_eq_true hlt;omega
  rw [aj (x:=(k:Int)+1 - 1) (by omega),show (k:Int)+1 - 1=(k:Int) by omega]
  refine aY.rd (s:= .int .i64) hh (by omega) (by omega) (many l k:Int) (by rw [Int.toNat_natCast];exact nh (by omega)) ?_
  have h1:=n8 (l:=l) (by omega) k
  have h2:=oU (l:=l) (by omega) k
  have h3:(2:Nat)^k≤2^15:=Nat.pow_le_pow_right (by decide) (by omega)
  have h4:(2:Nat)^15=32768:=by decide
  rw [aj (x:=(Srt.fst l k:Int)+(many l k:Int)) (by omega),aj (x:=(k:Int)+1+1) (by omega)]
  have e:=cW (k:= .i64) (a:=Srt.fst l k+many l k) (b:=1) (by decide) (by have:IntKind.max .i64=9223372036854775807:=rfl;omega)
  have e2:bg .i64 ((Srt.fst l k:Int)+(many l k:Int)) 1=(Srt.fst l (k+1):Int):=by
   rw [show (Srt.fst l k:Int)+(many l k:Int)=((Srt.fst l k+many l k:Nat):Int) by omega,show (1:Int)=((1:Nat):Int) from rfl,e,Srt.fst]
   omega
  rw [e2]
  exact ⟨by decide,⟨k+1,by omega,by omega,rfl,hh⟩,by dsimp only;omega⟩
 ·have hge:k=n:=by have:=of_decide_eq_false hge;omega
  subst hge
  refine ag.mk hh fun w6 h6=>aY.rd (s:= .int .i64) h6 (by omega) (by omega) (many l k:Int) (by rw [Int.toNat_natCast];exact nh (by omega)) (hK _ h6.drop)
set_option maxRecDepth 20000 in
theorem Ba {l:List Nat} {n p:Nat} {K:Int→World→Prop} (h:Hp E w F) (hl:l.length=258) (h15: ∀x∈l,x≤15) (hp:p<l.count n) (hK: ∀w',Hp E w' F→K (oh l n p:Int) w'):
  Cl Tryz.prog [kI] ff ⟨[.agg (ai .u8 l),.int .i64 (n:Int),.int .i64 (p:Int)]⟩ w K:=by
 refine rH.ok _ _ _ _ _ ?_
 have hs:=rq hp
 refine Nw.mk h fun b w1 h1=>Ld.arr h1 (by rw [bQ,hl]) ?_
 have hcl:l.count n≤258:=Nat.le_trans List.count_le_length (by omega)
 refine ⟨fun q i w'=> ∃k:Nat,i=(k:Int)∧k≤258∧(l.take k).count n≤p∧q=(p:Int) - ((l.take k).count n:Int)∧Hp E w' F,fun _ i _=>258 - i.toNat,⟨0,rfl,by omega,by simp,by simp,h1.drop⟩,?_⟩
 rintro q i w' ⟨k,rfl,hk,hc,rfl,hh⟩
 refine aa.mk (fun hlt=> ?_) (fun hge=> ?_)
 ·have hlt:k<258:=by have:=of_decide_eq_true hlt;omega
  have hkl:k<l.length:=by omega
  have h16:=h15 _ (List.getElem_mem hkl)
  have hsu:=dn hkl n
  refine gB.rd (s:= .int .u8) (by omega) (by omega) (l[k]:Int) (by rw [Int.toNat_natCast];exact j5 hkl) ?_
  rw [aj (x:=(l[k]:Int)) (by omega),aj (x:=(k:Int)+1) (by omega)]
  refine aa.mk (fun hne=> ?_) (fun he=>aa.mk (fun hz=> ?_) (fun hz=> ?_))
  ·have hne:l[k]≠n:=by rw [bne_iff_ne] at hne;omega
   rw [if_neg hne] at hsu
   exact ⟨⟨k+1,rfl,by omega,by omega,by omega,hh⟩,by dsimp only;omega⟩
  ·have he:l[k]=n:=by have:=bne_eq_false_iff_eq.1 he;omega
   have hz:(l.take k).count n=p:=by rw [beq_iff_eq] at hz;omega
   have:k=oh l n p:=by
    refine rN hkl hs.1 (by rw [hs.2.1,cg hkl,he]) ?_
    rw [hs.2.2];unfold fk;rw [cg hkl,he,hz]
   rw [this];exact hK _ hh
  ·have he:l[k]=n:=by have:=bne_eq_false_iff_eq.1 he;omega
   have hz:(l.take k).count n≠p:=by have:=beq_eq_false_iff_ne.1 hz;omega
   rw [if_pos he] at hsu
   rw [aj (by omega)]
   exact ⟨⟨k+1,rfl,by omega,by omega,by omega,hh⟩,by dsimp only;omega⟩
 ·have hge:k=258:=by have:=of_decide_eq_false hge;omega
  subst hge
  rw [←hl,List.take_length] at hc
  omega
def cS (l:List Nat) (c b:Nat):Array Value:=⟨(l.map fun (n:Nat)=>Value.int .u8 (n:Int))++ [.int .i64 (c:Int),.int .i64 (b:Int)]⟩
theorem bE {l:List Nat} {c b:Nat} (hl:l.length=258):(cS l c b).size=260:=by simp [cS,hl]
theorem cP {l:List Nat} {c b:Nat}: ∀v∈(cS l c b).toList,ay v=true:=by
 intro v hv
 unfold cS at hv
 simp only [List.mem_append,List.mem_map,List.mem_cons,List.not_mem_nil,or_false] at hv
 rcases hv with ⟨n,_,rfl⟩|rfl|rfl<;>rfl
theorem du (l:List Nat) (c b:Nat):cS l c b=⟨[]++(l.map fun (n:Nat)=>Value.int .u8 (n:Int))++ [.int .i64 (c:Int),.int .i64 (b:Int)]⟩:=rfl
theorem mj {l:List Nat} {c b:Nat} (hl:l.length=258):(cS l c b)[258]? =some (Sc.enc (.int .i64) (c:Int)):=by
 unfold cS;rw [List.getElem?_toArray,List.getElem?_append_right (by simp [hl])];simp [hl]
theorem kp {l:List Nat} {c b:Nat} (hl:l.length=258):(cS l c b)[259]? =some (Sc.enc (.int .i64) (b:Int)):=by
 unfold cS;rw [List.getElem?_toArray,List.getElem?_append_right (by simp [hl])];simp [hl]
theorem rK:(⟨List.replicate 258 (.int .u8 0)++ [.int .i64 0,.int .i64 0]⟩:Array Value)=cS (List.replicate 258 0) 0 0:=by unfold cS;rw [List.map_replicate];rfl
theorem nC (ps:List (Nat×Value)):Tryz.prog.built 108 ps=Instr.fill (#[(0,258),(258,1),(259,1)][·]?) ⟨List.replicate 258 (.int .u8 0)++ [.int .i64 0,.int .i64 0]⟩ ps:=by kernel_rfl
theorem rn {l:List Nat} (hl:l.length=258) (rest:List (Nat×Value)):Instr.fill (#[(0,258),(258,1),(259,1)][·]?) ⟨List.replicate 258 (.int .u8 0)++ [.int .i64 0,.int .i64 0]⟩ ((0,.agg (ai .u8 l))::rest)
  =Instr.fill (#[(0,258),(258,1),(259,1)][·]?) (cS l 0 0) rest:=by
 have:=eY (place:=(#[(0,258),(258,1),(259,1)][·]?)) (i:=0) (v:= .agg (ai .u8 l)) (rest:=rest) (pre:= []) (mid:=List.replicate 258 (.int .u8 0)) (post:= [.int .i64 0,.int .i64 0]) rfl rfl List.length_replicate (by show (ai .u8 l).size=_;rw [bQ,hl])
 exact this
theorem z9 {l:List Nat} {c c0 b:Nat} (hl:l.length=258) (rest:List (Nat×Value)):Instr.fill (#[(0,258),(258,1),(259,1)][·]?) (cS l c0 b) ((1,.int .i64 (c:Int))::rest)=Instr.fill (#[(0,258),(258,1),(259,1)][·]?) (cS l c b) rest:=by
 have:=eY (place:=(#[(0,258),(258,1),(259,1)][·]?)) (i:=1) (v:= .int .i64 (c:Int)) (rest:=rest) (pre:=l.map fun (n:Nat)=>Value.int .u8 (n:Int)) (mid:= [.int .i64 (c0:Int)]) (post:= [.int .i64 (b:Int)]) rfl (by simp [hl]) rfl rfl
 unfold cS
 rw [show (l.map fun (n:Nat)=>Value.int .u8 (n:Int))++ [.int .i64 (c0:Int),.int .i64 (b:Int)]=(l.map fun (n:Nat)=>Value.int .u8 (n:Int))++ [.int .i64 (c0:Int)]++ [.int .i64 (b:Int)] by simp,this]
 congr 2
 simp [Value.cells]
theorem Aj {l:List Nat} {c b0 b:Nat} (hl:l.length=258) (rest:List (Nat×Value)):Instr.fill (#[(0,258),(258,1),(259,1)][·]?) (cS l c b0) ((2,.int .i64 (b:Int))::rest)=Instr.fill (#[(0,258),(258,1),(259,1)][·]?) (cS l c b) rest:=by
 have:=eY (place:=(#[(0,258),(258,1),(259,1)][·]?)) (i:=2) (v:= .int .i64 (b:Int)) (rest:=rest) (pre:=(l.map fun (n:Nat)=>Value.int .u8 (n:Int))++ [.int .i64 (c:Int)]) (mid:= [.int .i64 (b0:Int)]) (post:= []) rfl (by simp [hl]) rfl rfl
 unfold cS
 rw [show (l.map fun (n:Nat)=>Value.int .u8 (n:Int))++ [.int .i64 (c:Int),.int .i64 (b0:Int)]=(l.map fun (n:Nat)=>Value.int .u8 (n:Int))++ [.int .i64 (c:Int)]++ [.int .i64 (b0:Int)]++ [] by simp,this]
 congr 2
 simp [Value.cells]
theorem bx.Bd {l:List Nat} {K:Array Value→Prop} (hl:l.length=258) (hK:K (cS l 0 0)):bx Tryz.prog 108 [(0,.agg (ai .u8 l))] K:=⟨cS l 0 0,by rw [nC,rn hl];rfl,hK⟩
theorem bx.DD {l:List Nat} {c b:Nat} {K:Array Value→Prop} (hl:l.length=258) (hK:K (cS l c b)):bx Tryz.prog 108 [(0,.agg (ai .u8 l)),(1,.int .i64 (c:Int)),(2,.int .i64 (b:Int))] K:=
 ⟨cS l c b,by rw [nC,rn hl,z9 hl,Aj hl];rfl,hK⟩
theorem bx.DK {K:Array Value→Prop} (hK:K (cS (List.replicate 258 0) 0 0)):bx Tryz.prog 108 [] K:=⟨_,nC [],by rw [rK];exact hK⟩
theorem BX {l:List Nat} {K:Array Value→Int→World→Prop} (h:Hp E w F) (hl:l.length=258) (hK1:bz l=false→∀w',Hp E w' F→K (cS (List.replicate 258 0) 0 0) 2 w') (hK2:bz l=true→∀w',Hp E w' F→K (cS l 0 0) 0 w'):
  Cl Tryz.prog [.arr 260,kI] gg ⟨[.agg (ai .u8 l)]⟩ w K:=by
 refine p7.ok _ _ _ ?_
 rw [rK]
 have hz:(cS (List.replicate 258 0) 0 0).size=260:=bE List.length_replicate
 refine Nw.mk h fun b w1 h1=>Nw.mk h1 fun b2 w2 h2=>Ld.arr h2.p1 (by rw [bQ,hl]) (o7 h2 hl fun w3 h3=>aa.mk (fun hv=> ?_) (fun hv=> ?_))
 ·exact bx.DK (an.aN h3 hz hz cP fun w4 h4=>Ld.arr h4 hz (hK1 (by simpa using hv) _ h4.drop.drop))
 ·exact Ld.arr h3.p1 (by rw [bQ,hl]) (bx.Bd hl (an.aN h3 hz (bE hl) cP fun w4 h4=>Ld.arr h4 (bE hl) (hK2 (by simpa using hv) _ h4.drop.drop)))
theorem A2 {l:List Nat} (h:bz l=true): ∀x∈l,x≤15:=fun x hx=>by
 obtain ⟨i,hi,rfl⟩:=List.getElem_of_mem hx
 have:=gV (l:=l) (by rw [(iW.1 h).1];decide) i
 rwa [cg hi] at this
theorem wU {l:List Nat} {c b:Nat} {K:Bool→World→Prop} (h:Hp E w F) (hl:l.length=258) (hb:b<15) (hc:c<2^b) (hK: ∀w',Hp E w' F→K (bz l&&decide (Srt.fst l b+many l b≤c)) w'):
  Cl Tryz.prog [kB] fm ⟨[.agg (cS l c b)]⟩ w K:=by
 refine oa.ok _ _ _ ?_
 simp only [au,ak,Nat.zero_add]
 refine Nw.mk h fun b3 w1 h1=> ?_
 rw [du] at h1
 have hml:(l.map fun (n:Nat)=>Value.int .u8 (n:Int)).length=258:=by simp [hl]
 refine Ld.sub h1 rfl hml (o7 h1 hl fun w2 h2=>aa.mk (fun hv=> ?_) (fun hv=> ?_))
 ·have hv:bz l=false:=by simpa using hv
  rw [hv,Bool.false_and] at hK
  exact hK _ h2.drop
 have hv:bz l=true:=by simpa using hv
 rw [hv,Bool.true_and] at hK
 rw [←du] at h2
 have hp:(2:Nat)^b≤2^15:=Nat.pow_le_pow_right (by decide) (by omega)
 have hp2:(2:Nat)^15=32768:=by decide
 refine Ld.aN (s:= .int .i64) h2 (b:Int) (kp hl) (aa.f (decide_eq_false (by omega)) ?_)
 refine Ld.aN (s:= .int .i64) h2 (b:Int) (kp hl) (aa.f (decide_eq_false (by omega)) ?_)
 refine Ld.aN (s:= .int .i64) h2 (c:Int) (mj hl) (aa.f (decide_eq_false (by omega)) ?_)
 refine Ld.aN (s:= .int .i64) h2 (c:Int) (mj hl) (Ld.aN (s:= .int .i64) h2 (b:Int) (kp hl) ⟨by omega,?_⟩)
 rw [eL (by have:IntKind.bits .i64=64:=rfl;omega),Nat.div_eq_of_lt hc]
 refine aa.f (by decide) ?_
 rw [du] at h2
 refine Ld.sub h2 rfl hml ?_
 rw [←du] at h2
 refine Ld.aN (s:= .int .i64) h2 (b:Int) (kp hl) (ph h2 hl (A2 hv) (by omega) fun w3 h3=>Ld.aN (s:= .int .i64) h3 (c:Int) (mj hl) ?_)
 have h1:=n8 (l:=l) (by omega) b
 have h2:=oU (l:=l) (by omega) b
 rw [aj (by omega)]
 have e:decide ((c:Int)≥(Srt.fst l b:Int)+(many l b:Int))=decide (Srt.fst l b+many l b≤c):=by rw [Bool.eq_iff_iff,decide_eq_true_eq,decide_eq_true_eq];omega
 rw [e]
 exact hK _ h3.drop
theorem wO {c x:Nat} (hx:x≤1) (hc:c<16384):hX .i64 (bg .i64 (c:Int) 1) (x:Int)=((2*c+x:Nat):Int):=by
 have hm:IntKind.max .i64=9223372036854775807:=rfl
 have e:=cW (k:= .i64) (a:=c) (b:=1) (by decide) (by omega)
 have h2:c*2^1|||x=2*c+x:=by
  have:=Nat.two_pow_add_eq_or_of_lt (i:=1) (b:=x) (by omega) c
  rw [Nat.mul_comm c,←this,Nat.mul_comm]
 rw [show (1:Int)=((1:Nat):Int) from rfl,e,mz (by omega) (by omega) (by rw [h2];omega),h2]
theorem Br {l:List Nat} {c b x:Nat} {K:Array Value→Int→Bool→World→Prop} (h:Hp E w F) (hl:l.length=258) (hs:je l c b) (hx:x≤1)
  (hK: ∀w',Hp E w' F→K (cS l (dQ l c b x).1.1 (dQ l c b x).1.2) (((dQ l c b x).2.getD 0:Nat):Int) (dQ l c b x).2.isSome w'):
  Cl Tryz.prog [.arr 260,kI,kB] fK ⟨[.agg (cS l c b),.int .i64 (x:Int)]⟩ w K:=by
 refine o8.ok _ _ _ _ ?_
 simp only [au,ak,Nat.zero_add]
 rw [rK]
 have hz:(cS (List.replicate 258 0) 0 0).size=260:=bE List.length_replicate
 have hml:(l.map fun (n:Nat)=>Value.int .u8 (n:Int)).length=258:=by simp [hl]
 have hp:(2:Nat)^b≤2^14:=Nat.pow_le_pow_right (by decide) (by have:=hs.2.1;omega)
 have hp2:(2:Nat)^14=16384:=by decide
 have hc:=hs.2.2.1
 have hb:=hs.2.1
 have h15:=A2 hs.1
 refine Nw.mk h fun b4 w1 h1=>Nw.mk h1 fun b6 w2 h2=> ?_
 have e1:cl .i64 (x:Int) 1=0:=by
  rw [show (1:Int)=((1:Nat):Int) from rfl,eL (by decide)]
  omega
 rw [e1]
 refine ⟨by decide,aa.f (by decide) ?_⟩
 refine Ld.arr h2.p1 (bE hl) (wU h2 hl hb hc fun w3 h3=> ?_)
 refine aa.f (by rw [hs.1,decide_eq_true hs.2.2.2];rfl) ?_
 have h3':=h3.p1
 rw [du l c b] at h3'
 refine Ld.sub h3' rfl hml (Ld.aN (s:= .int .i64) h3.p1 (c:Int) (mj hl) ⟨by decide,Ld.aN (s:= .int .i64) h3.p1 (b:Int) (kp hl) ?_⟩)
 rw [wO hx (by omega),aj (x:=(b:Int)+1) (by omega)]
 refine bx.DD (b:=b+1) hl (an.aN h3 hz (bE hl) cP fun w4 h4=> ?_)
 have h4':=h4
 rw [du l (2*c+x) (b+1)] at h4'
 refine Ld.sub h4' rfl hml (Ld.aN (s:= .int .i64) h4 ((b+1:Nat):Int) (kp hl) (ph h4 hl h15 (by omega) fun w5 h5=>Ld.aN (s:= .int .i64) h5 ((2*c+x:Nat):Int) (mj hl) ?_))
 have hf:=n8 (l:=l) (by omega) (b+1)
 have hm:=oU (l:=l) (by omega) (b+1)
 have hp3:(2:Nat)^(b+1)=2*2^b:=by rw [Nat.pow_succ,Nat.mul_comm]
 rw [aj (by omega)]
 by_cases hcase:Srt.fst l (b+1)+many l (b+1)≤2*c+x
 ·refine aa.t (decide_eq_true (by omega)) (Ld.arr h5 (bE hl) (an.aN h5 (bE hl) (bE hl) cP fun w6 h6=>Ld.arr h6 (bE hl) ?_))
  have e:dQ l c b x=((2*c+x,b+1),none):=by unfold dQ;rw [if_pos hcase]
  rw [e] at hK
  exact hK _ h6.drop.drop
 ·refine aa.f (decide_eq_false (by omega)) ?_
  have e:dQ l c b x=((0,0),some (oh l (b+1) (2*c+x - Srt.fst l (b+1)))):=by unfold dQ;rw [if_neg hcase]
  rw [e] at hK
  have hge:=hs.ge
  have hmn:many l (b+1)=l.count (b+1):=by unfold many;rw [if_neg (by omega)]
  refine ag.mk h5 fun w6 h6=> ?_
  have h6':=h6
  rw [du l (2*c+x) (b+1)] at h6'
  refine Ld.sub h6' rfl hml (Ld.aN (s:= .int .i64) h6 ((b+1:Nat):Int) (kp hl) (Ld.aN (s:= .int .i64) h6 ((2*c+x:Nat):Int) (mj hl) ?_))
  rw [aj (x:=((2*c+x:Nat):Int) - (Srt.fst l (b+1):Int)) (by omega),show ((2*c+x:Nat):Int) - (Srt.fst l (b+1):Int)=((2*c+x - Srt.fst l (b+1):Nat):Int) by omega]
  constructor
  ·have h7':=h6.p1
   rw [du l c b] at h7'
   refine Ld.sub h7' rfl hml (bx.Bd hl (Ba h6 hl h15 (by omega) fun w7 h7=> ?_))
   exact an.aN h7 (bE hl) (bE hl) cP fun w8 h8=>Ld.arr h8 (bE hl) (hK _ h8.drop.drop)
  ·refine Ba h6 hl h15 (by omega) fun w7 h7=> ?_
   have h7':=h7.p1
   rw [du l c b] at h7'
   refine Ld.sub h7' rfl hml (bx.Bd hl ?_)
   exact an.aN h7 (bE hl) (bE hl) cP fun w8 h8=>Ld.arr h8 (bE hl) (hK _ h8.drop.drop)
end
end Go.Proofs.YtgglghjnakclmaaGreat
set_option maxRecDepth 20000
namespace Go.Tab
open Go.Inc
structure TS where
 l:List Nat
 bits:Nat
 now:Nat
 way:Nat
def t0:TS:=⟨[],0,0,0⟩
def bB (ok:List Nat→Bool) (s:TS) (b:Nat):nN TS (List Nat) Nat:=
 if s.bits<4 then .more ⟨s.l,s.bits+1,2*s.now+b,s.way⟩
 else if s.bits=4 then
  if b=0 then
   if s.l.length+1<258 then .more ⟨s.l++ [s.now],4,s.now,0⟩
   else if ok (s.l++ [s.now]) then .fin (s.l++ [s.now]) else .bad 100
  else .more ⟨s.l,5,s.now,s.way⟩
 else if b=0 then
  if s.way≠2∧s.now<15 then .more ⟨s.l,4,s.now+1,1⟩ else .bad 100
 else if s.way≠1∧0<s.now then .more ⟨s.l,4,s.now - 1,2⟩ else .bad 100
def Cx:Nat→List Nat
 |0=> []
 |k+1=>1::0::Cx k
def yM:Nat→List Nat
 |0=> []
 |k+1=>1::1::yM k
def DH (was now:Nat):List Nat:=(if now<was then yM (was - now) else Cx (now - was))++ [0]
def AX:Nat→List Nat→List Nat
 |_,[]=> []
 |was,n::l=>DH was n++AX n l
def four (n:Nat):List Nat:= [n/8 % 2,n/4 % 2,n/2 % 2,n % 2]
def C4 (l:List Nat):List Nat:=four (l.headD 0)++AX (l.headD 0) l
section
variable {ok:List Nat→Bool}
end
end Go.Tab
set_option maxRecDepth 20000
namespace Go.Tab
open Go.Inc
def jk (l:List Nat) (now way:Nat):Prop:=
 if l= [] then way=0∨(way=1∧0<now)∨(way=2∧now<15)
 else (way=0∧l.getLastD 0=now)∨(way=1∧l.getLastD 0<now)∨(way=2∧now<l.getLastD 0)
def cU (t:TS):Prop:=
 (t.bits<4∧t.l= []∧t.now<2^t.bits∧t.way=0)∨
 ((t.bits=4∨t.bits=5)∧t.l.length<258∧t.now≤15∧(∀x∈t.l,x≤15)∧jk t.l t.now t.way)
theorem cU.zero:cU t0:= .inl ⟨by decide,rfl,by decide,rfl⟩
theorem gO {ok:List Nat→Bool} {t t':TS} {b:Nat} (h:cU t) (hb:b≤1) (he:bB ok t b= .more t'):cU t':=by
 obtain ⟨l,bits,now,way⟩:=t
 unfold cU at h
 unfold bB at he
 dsimp only at h he
 rcases h with ⟨h1,h2,h3,h4⟩|⟨h1,h2,h3,h4,h5⟩
 ·rw [if_pos h1] at he
  cases he
  subst h2 h4
  by_cases h:bits=3
  ·subst h
   right
   refine ⟨.inl rfl,by simp,by simp at h3;dsimp only;omega,by simp,?_⟩
   simp [jk]
  ·left
   refine ⟨by dsimp only;omega,rfl,?_,rfl⟩
   dsimp only
   rw [Nat.pow_succ];omega
 ·rw [if_neg (by omega)] at he
  split at he
  ·split at he
   ·split at he
    ·cases he
     right
     refine ⟨.inl rfl,by simp;omega,h3,?_,?_⟩
     ·intro x hx
      rcases List.mem_append.1 hx with hx|hx
      ·exact h4 x hx
      ·rw [List.mem_singleton] at hx;omega
     ·unfold jk
      dsimp only
      rw [if_neg (by simp)]
      left
      simp
    ·split at he<;>cases he
   ·cases he
    right
    exact ⟨.inr rfl,h2,h3,h4,h5⟩
  ·split at he
   ·split at he
    ·rename_i hw
     cases he
     right
     refine ⟨.inl rfl,h2,by dsimp only;omega,h4,?_⟩
     unfold jk at h5⊢
     dsimp only
     split at h5
     ·rename_i hl
      rw [if_pos hl];omega
     ·rename_i hl
      rw [if_neg hl];omega
    ·cases he
   ·split at he
    ·rename_i hw
     cases he
     right
     refine ⟨.inl rfl,h2,by dsimp only;omega,h4,?_⟩
     unfold jk at h5⊢
     dsimp only
     split at h5
     ·rename_i hl
      rw [if_pos hl];omega
     ·rename_i hl
      rw [if_neg hl];omega
    ·cases he
theorem ct {ok:List Nat→Bool} {t:TS} {b:Nat} {l:List Nat} (h:cU t) (he:bB ok t b= .fin l):l.length=258∧ok l=true:=by
 obtain ⟨l',bits,now,way⟩:=t
 unfold cU at h
 unfold bB at he
 dsimp only at h he
 split at he
 ·cases he
 ·split at he
  ·split at he
   ·split at he
    ·cases he
    ·split at he
     ·rename_i hok
      cases he
      refine ⟨?_,hok⟩
      simp
      omega
     ·cases he
   ·cases he
  ·split at he
   ·split at he<;>cases he
   ·split at he<;>cases he
def pad (l:List Nat):List Nat:=l++List.replicate (258 - l.length) 0
theorem aP {l:List Nat} (h:l.length≤258):(pad l).length=258:=by simp [pad];omega
theorem qW {l:List Nat} (h:l.length=258):pad l=l:=by simp [pad,h]
theorem um {l:List Nat} {x:Nat} (h:l.length<258):(pad l).set l.length x=pad (l++ [x]):=by
 unfold pad
 rw [List.set_append_right _ _ (Nat.le_refl _),Nat.sub_self]
 obtain ⟨m,hm⟩: ∃m,258 - l.length=m+1:=⟨257 - l.length,by omega⟩
 rw [hm,List.replicate_succ,List.set_cons_zero,List.length_append,List.length_singleton,show 258 - (l.length+1)=m by omega]
 simp
theorem xn {l:List Nat} (h:l≠ []) (h2:l.length≤258):(pad l)[l.length - 1]? =some (l.getLastD 0):=by
 unfold pad
 have:0<l.length:=List.length_pos_iff.2 h
 rw [List.getElem?_append_left (by omega),List.getElem?_eq_getElem (by omega)]
 cases l with
 |nil=>exact absurd rfl h
 |cons a l=>simp [List.getLastD,List.getLast_eq_getElem]
theorem Bl {l:List Nat} {i:Nat} (h1:l.length≤i):(pad l).getD i 0=0:=by
 unfold pad
 rw [List.getD_eq_getElem?_getD,List.getElem?_append_right h1,List.getElem?_replicate]
 split<;>rfl
theorem A4 {l:List Nat} (h: ∀x∈l,x≤15): ∀x∈pad l,x≤15:=by
 intro x hx
 rcases List.mem_append.1 hx with hx|hx
 ·exact h x hx
 ·have:=(List.mem_replicate.1 hx).2;omega
end Go.Tab
namespace Go.Proofs.YtgglghjnakclmaaGreat
open Go Go.Vc Go.Srt Go.Inc Go.Tab
abbrev pt (l:List Nat):List Value:=l.map fun (n:Nat)=>Value.int .u8 (n:Int)
abbrev bX (l:List Nat) (s b n wy:Int):Array Value:=⟨pt l++ [.int .i64 s,.int .i64 b,.int .i64 n,.int .i64 wy]⟩
theorem cz {l:List Nat} (h:l.length=258):(pt l).length=258:=by simp [h]
section
variable {E w:World} {F:List HP}
theorem xM:(Tryz.prog.fieldsOf 106).toList.map (fun f=>(f.name== "_",f.type,f.offset))= [(false,104,0),(false,3,258),(false,3,259),(false,3,260),(false,3,261)]:=by kernel_rfl
theorem BZ:Tryz.prog.underlying 106=some (.struct (Tryz.prog.fieldsOf 106)):=by kernel_rfl
theorem Ac:Tryz.prog.stoodInHeld 106=false:=by kernel_rfl
set_option maxRecDepth 20000 in
theorem nU.tb {l:List Nat} {s b n wy:Int} {K:Bool→Prop} (hl:l.length=258) (hK:K true):nU Tryz.prog 106 (bX l s b n wy) (bX l s b n wy) K:=by
 obtain ⟨it,hit⟩:=tK
 obtain ⟨jt,hjt,hjs⟩:=zr
 obtain ⟨kt,hkt,hks⟩:=vS
 obtain ⟨f1,f2,f3,f4,f5,hfs,hf1,hf2,hf3,hf4,hf5⟩: ∃f1 f2 f3 f4 f5,(Tryz.prog.fieldsOf 106).toList= [f1,f2,f3,f4,f5]∧(f1.name== "_",f1.type,f1.offset)=(false,104,0)∧(f2.name== "_",f2.type,f2.offset)=(false,3,258)∧(f3.name== "_",f3.type,f3.offset)=(false,3,259)∧(f4.name== "_",f4.type,f4.offset)=(false,3,260)∧(f5.name== "_",f5.type,f5.offset)=(false,3,261):=by
  have h:=xM
  generalize (Tryz.prog.fieldsOf 106).toList=fs at h
  match fs,h with
  | [],h=>simp at h
  | [_],h=>simp at h
  | [_,_],h=>simp at h
  | [_,_,_],h=>simp at h
  | [_,_,_,_],h=>simp at h
  |_::_::_::_::_::_::_,h=>simp at h
  | [f1,f2,f3,f4,f5],h=>
   simp only [List.map_cons,List.map_nil,List.cons.injEq,and_true] at h
   exact ⟨f1,f2,f3,f4,f5,rfl,h.1,h.2.1,h.2.2.1,h.2.2.2.1,h.2.2.2.2⟩
 simp only [Prod.mk.injEq] at hf1 hf2 hf3 hf4 hf5
 have hL:=cz hl
 have hc:(((bX l s b n wy).toList.drop 0).take 258)=(l.map fun (x:Nat)=>(x:Int)).map (.int .u8):=by
  rw [List.drop_zero,List.take_append_of_le_length (by omega),List.take_of_length_le (by omega),List.map_map];rfl
 have hint: ∀(x:Int) (D:Nat) (_:9≤D) (w:World),(Op.equalIn D 3 (.int .i64 x) (.int .i64 x)).run Tryz.prog w= .ok true w:=fun x D hD w=>by
  obtain ⟨D,rfl⟩: ∃k,D=k+1:=⟨D - 1,by omega⟩
  rw [run_equalIn_int w D _ _ _ _ _ xf]
  simp
 obtain ⟨r,hr,hK'⟩:=gk (P:=Tryz.prog) (d:=9) (rec:=fun t x y K=> ∃b,(∀D,9≤D→∀w,(Op.equalIn D t x y).run Tryz.prog w= .ok b w)∧K b) (fun t x y K h=>h) (xs:=bX l s b n wy) (ys:=bX l s b n wy) (fs:= [f1,f2,f3,f4,f5]) (K:=K) (by
  unfold fM
  rw [hf1.1]
  refine iF (it:=jt) (by rw [hf1.2.1];kernel_rfl) (by rw [hf1.2.1];exact hjt) (iF (it:=jt) (by rw [hf1.2.1];kernel_rfl) (by rw [hf1.2.1];exact hjt) ?_)
  rw [hf1.2.2,hjs,hf1.2.1,hc]
  refine ⟨_,fun D hD w=>pw AM yH hkt hks (by simpa using hl) (by simpa using hl) D (by omega) w,?_⟩
  unfold fM
  rw [hf2.1]
  refine cT (it:=it) (v:= .int .i64 s) (by rw [hf2.2.1];kernel_rfl) (by rw [hf2.2.1];exact hit) (by rw [hf2.2.2];exact gv (k:=0) hL) (cT (it:=it) (v:= .int .i64 s) (by rw [hf2.2.1];kernel_rfl) (by rw [hf2.2.1];exact hit) (by rw [hf2.2.2];exact gv (k:=0) hL) ?_)
  rw [hf2.2.1]
  refine ⟨true,hint s,?_⟩
  unfold fM
  rw [hf3.1]
  refine cT (it:=it) (v:= .int .i64 b) (by rw [hf3.2.1];kernel_rfl) (by rw [hf3.2.1];exact hit) (by rw [hf3.2.2];exact gv (k:=1) hL) (cT (it:=it) (v:= .int .i64 b) (by rw [hf3.2.1];kernel_rfl) (by rw [hf3.2.1];exact hit) (by rw [hf3.2.2];exact gv (k:=1) hL) ?_)
  rw [hf3.2.1]
  refine ⟨true,hint b,?_⟩
  unfold fM
  rw [hf4.1]
  refine cT (it:=it) (v:= .int .i64 n) (by rw [hf4.2.1];kernel_rfl) (by rw [hf4.2.1];exact hit) (by rw [hf4.2.2];exact gv (k:=2) hL) (cT (it:=it) (v:= .int .i64 n) (by rw [hf4.2.1];kernel_rfl) (by rw [hf4.2.1];exact hit) (by rw [hf4.2.2];exact gv (k:=2) hL) ?_)
  rw [hf4.2.1]
  refine ⟨true,hint n,?_⟩
  unfold fM
  rw [hf5.1]
  refine cT (it:=it) (v:= .int .i64 wy) (by rw [hf5.2.1];kernel_rfl) (by rw [hf5.2.1];exact hit) (by rw [hf5.2.2];exact gv (k:=3) hL) (cT (it:=it) (v:= .int .i64 wy) (by rw [hf5.2.1];kernel_rfl) (by rw [hf5.2.1];exact hit) (by rw [hf5.2.2];exact gv (k:=3) hL) ?_)
  rw [hf5.2.1]
  refine ⟨true,hint wy,?_⟩
  simpa using hK)
 refine ⟨r,fun w=> ?_,hK'⟩
 rw [run_equalIn_struct w 9999 _ _ _ BZ Ac,hfs]
 exact hr 9999 (by decide) w
end
end Go.Proofs.YtgglghjnakclmaaGreat
namespace Go.Proofs.YtgglghjnakclmaaGreat
open Go Go.Vc Go.Srt Go.Inc Go.Tab
section
variable {E w:World} {F:List HP}
theorem qS (b n:Int):(⟨List.replicate 258 (.int .u8 0)++ [.int .i64 0,.int .i64 b,.int .i64 n,.int .i64 0]⟩:Array Value)=bX (List.replicate 258 0) 0 b n 0:=by
 unfold bX pt
 rw [List.map_replicate];rfl
theorem bx.tb {b n:Int} {K:Array Value→Prop} (hK:K (bX (List.replicate 258 0) 0 b n 0)):bx Tryz.prog 106 [(2,.int .i64 b),(3,.int .i64 n)] K:=by
 refine ⟨_,(by kernel_rfl:Tryz.prog.built 106 [(2,.int .i64 b),(3,.int .i64 n)]=some ⟨List.replicate 258 (.int .u8 0)++ [.int .i64 0,.int .i64 b,.int .i64 n,.int .i64 0]⟩),?_⟩
 rw [qS];exact hK
set_option maxRecDepth 20000
theorem Cr {c x:Nat} (hx:x≤1) (hc:c<16384):hX .i64 (bg .i64 (c:Int) 1) (x:Int)=((2*c+x:Nat):Int):=wO hx hc
theorem ax {l:List Nat} {s b n wy:Int}:(bX l s b n wy).toList.all ay=true:=by
 unfold bX pt
 rw [List.all_append,List.all_map]
 rw [Bool.and_eq_true]
 exact ⟨List.all_eq_true.2 fun _ _=>rfl,rfl⟩
theorem aF {l:List Nat} {s b n wy:Int} (hl:l.length=258):(bX l s b n wy).size=262:=by simp [hl]
theorem tH {l:List Nat} {i x:Nat}:(pt l).set i (.int .u8 (x:Int))=pt (l.set i x):=by
 unfold pt
 rw [List.map_set]
def Cy (t:TS) (x:Nat) (E:World) (F:List HP) (K:Array Value→Bool→World→Prop):Prop:=
 (∀t' w',bB bz t x= .more t'→Hp E w' F→K (bX (pad t'.l) (t'.l.length:Int) (t'.bits:Int) (t'.now:Int) (t'.way:Int)) true w')∧
 (∀l n w',bB bz t x= .fin l→Hp E w' F→K (bX l 258 4 n 0) true w')∧
 (∀o w',bB bz t x= .bad 100→o.size=262→o.toList.all ay=true→Hp E w' F→K o false w')
theorem zn {t:TS} {x:Nat} {K:Array Value→Bool→World→Prop} (h:Hp E w F) (ht:cU t) (hx:x≤1) (hK:Cy t x E F K):
  Cl Tryz.prog [.arr 262,kB] eT ⟨[.agg (bX (pad t.l) (t.l.length:Int) (t.bits:Int) (t.now:Int) (t.way:Int)),.int .i64 (x:Int)]⟩ w K:=by
 obtain ⟨k1,k2,k3⟩:=hK
 obtain ⟨l,bits,now,way⟩:=t
 unfold cU at ht
 unfold bB at k1 k2 k3
 dsimp only at ht k1 k2 k3⊢
 have hl:l.length≤258:=by
  rcases ht with ⟨_,h,_⟩|⟨_,h,_⟩
  ·rw [h];simp
  ·omega
 have hL:=cz (aP hl)
 have hz:((⟨List.replicate 258 (.int .u8 0)++ [.int .i64 0,.int .i64 0,.int .i64 0,.int .i64 0]⟩:Array Value)).size=262:=by simp
 refine ns.ok _ _ _ _ ?_
 (try simp only [au,ah,ak,Nat.zero_add,Nat.add_zero,Nat.reduceAdd,Bool.not_true,Bool.not_false,aD,aC,Option.isNone])
 refine Nw.mk h fun b4 w h=>Nw.mk h fun b6 w h=> ?_
 have out: ∀{w:World} {l':List Nat} {s b n wy:Int} {K':World→Array Value→Prop},l'.length=258→
   Hp E w (aq b6 (.cells ⟨List.replicate 258 (.int .u8 0)++ [.int .i64 0,.int .i64 0,.int .i64 0,.int .i64 0]⟩ 106 (0,0))::aq b4 (.cells (bX l' s b n wy) 106 (0,0))::F)→
   (∀w',Hp E w' F→K' w' (bX l' s b n wy))→
   an 262 ⟨b6,0,none⟩ (bX l' s b n wy) w fun w1=>Ld (.arr 262) ⟨b6,0,none⟩ w1 fun r=>K' w1 r:=by
  intro w l' s b n wy K' hl' h hk
  refine an.q h hz (aF hl') ax fun w h=> ?_
  exact Ld.xw h (aF hl') (hk _ h.tl)
 rcases ht with ⟨h1,h2,h3,h4⟩|⟨h1,h2,h3,h4,h5⟩
 ·subst h2 h4
  simp only [if_pos h1] at k1 k2 k3
  have hnow:now<16384:=by
   have:2^bits≤2^3:=Nat.pow_le_pow_right (by decide) (by omega)
   omega
  (with_reducible repeat first|refine Nw.mk h fun b w h=> ?_|refine ag.mk h fun w h=> ?_|refine Ld.q h hL rfl rfl ?_|refine ab.q (fun _ h=>h) hL rfl rfl ?_|refine Ld.p h hL ?_|refine ab.p (fun _ h=>h) hL ?_|refine Ld.qw h hL rfl ?_|refine ab.qw (fun _ h=>h) hL rfl ?_|refine ⟨h.hb,?_⟩|(refine St.q h hL rfl rfl rfl fun w h=> ?_;dsimp only [af,ad] at h)|refine aa.yes ?_|refine aa.no ?_|refine ⟨by first|omega|decide,?_⟩)
  rw [Cr hx hnow,aj (by omega)] at h⊢
  exact out (K':=fun w x=>K x true w) (aP hl) h fun w h=>k1 _ _ rfl h
 ·simp only [if_neg (show¬bits<4 by omega)] at k1 k2 k3
  (with_reducible repeat first|refine Nw.mk h fun b w h=> ?_|refine ag.mk h fun w h=> ?_|refine Ld.q h hL rfl rfl ?_|refine ab.q (fun _ h=>h) hL rfl rfl ?_|refine Ld.p h hL ?_|refine ab.p (fun _ h=>h) hL ?_|refine Ld.qw h hL rfl ?_|refine ab.qw (fun _ h=>h) hL rfl ?_|refine ⟨h.hb,?_⟩|(refine St.q h hL rfl rfl rfl fun w h=> ?_;dsimp only [af,ad] at h)|refine aa.yes ?_|refine aa.no ?_|refine ⟨by first|omega|decide,?_⟩)
  by_cases hb:bits=4
  ·subst hb
   simp only [if_true] at k1 k2 k3
   by_cases hx0:x=0
   ·subst hx0
    simp only [if_true] at k1 k2 k3
    (with_reducible repeat first|refine Nw.mk h fun b w h=> ?_|refine ag.mk h fun w h=> ?_|refine Ld.q h hL rfl rfl ?_|refine ab.q (fun _ h=>h) hL rfl rfl ?_|refine Ld.p h hL ?_|refine ab.p (fun _ h=>h) hL ?_|refine Ld.qw h hL rfl ?_|refine ab.qw (fun _ h=>h) hL rfl ?_|refine ⟨h.hb,?_⟩|(refine St.q h hL rfl rfl rfl fun w h=> ?_;dsimp only [af,ad] at h)|refine aa.yes ?_|refine aa.no ?_|refine ⟨by first|omega|decide,?_⟩)
    refine ⟨by omega,by omega,?_⟩
    rw [show (((l.length:Int)).toNat*1)=l.length by omega,jB (by omega)]
    (try simp only [au,ah,ak,Nat.zero_add,Nat.add_zero,Nat.reduceAdd,Bool.not_true,Bool.not_false,aD,aC,Option.isNone])
    refine St.g h (by omega) rfl fun w h=> ?_
    rw [tH,um h2] at h
    have hl2:(l++ [now]).length≤258:=by simp;omega
    have hL:=cz (aP hl2)
    (with_reducible repeat first|refine Nw.mk h fun b w h=> ?_|refine ag.mk h fun w h=> ?_|refine Ld.q h hL rfl rfl ?_|refine ab.q (fun _ h=>h) hL rfl rfl ?_|refine Ld.p h hL ?_|refine ab.p (fun _ h=>h) hL ?_|refine Ld.qw h hL rfl ?_|refine ab.qw (fun _ h=>h) hL rfl ?_|refine ⟨h.hb,?_⟩|(refine St.q h hL rfl rfl rfl fun w h=> ?_;dsimp only [af,ad] at h)|refine aa.yes ?_|refine aa.no ?_|refine ⟨by first|omega|decide,?_⟩)
    rw [aj (by omega),show (l.length:Int)+1=((l++ [now]).length:Int) by simp] at h
    have h:=h.drew (n:=w.drawn+1)
    refine ⟨bq b4 _ _ _,h.hb,?_⟩
    dsimp only
    (with_reducible repeat first|refine Nw.mk h fun b w h=> ?_|refine ag.mk h fun w h=> ?_|refine Ld.q h hL rfl rfl ?_|refine ab.q (fun _ h=>h) hL rfl rfl ?_|refine Ld.p h hL ?_|refine ab.p (fun _ h=>h) hL ?_|refine Ld.qw h hL rfl ?_|refine ab.qw (fun _ h=>h) hL rfl ?_|refine ⟨h.hb,?_⟩|(refine St.q h hL rfl rfl rfl fun w h=> ?_;dsimp only [af,ad] at h)|refine aa.yes ?_|refine aa.no ?_|refine ⟨by first|omega|decide,?_⟩)
    by_cases hf:l.length+1<258
    ·rw [if_pos hf] at k1 k2 k3
     refine aa.dt (by simp;omega) ?_
     refine an.q h hz (aF (aP hl2)) ax fun w h=> ?_
     (with_reducible repeat first|refine Nw.mk h fun b w h=> ?_|refine ag.mk h fun w h=> ?_|refine Ld.q h hL rfl rfl ?_|refine ab.q (fun _ h=>h) hL rfl rfl ?_|refine Ld.p h hL ?_|refine ab.p (fun _ h=>h) hL ?_|refine Ld.qw h hL rfl ?_|refine ab.qw (fun _ h=>h) hL rfl ?_|refine ⟨h.hb,?_⟩|(refine St.q h hL rfl rfl rfl fun w h=> ?_;dsimp only [af,ad] at h)|refine aa.yes ?_|refine aa.no ?_|refine ⟨by first|omega|decide,?_⟩)
     exact k1 _ _ rfl h.tl
    ·rw [if_neg hf] at k1 k2 k3
     have hfull:(l++ [now]).length=258:=by simp;omega
     refine aa.df (by simp;omega) ?_
     (with_reducible repeat first|refine Nw.mk h fun b w h=> ?_|refine ag.mk h fun w h=> ?_|refine Ld.q h hL rfl rfl ?_|refine ab.q (fun _ h=>h) hL rfl rfl ?_|refine Ld.p h hL ?_|refine ab.p (fun _ h=>h) hL ?_|refine Ld.qw h hL rfl ?_|refine ab.qw (fun _ h=>h) hL rfl ?_|refine ⟨h.hb,?_⟩|(refine St.q h hL rfl rfl rfl fun w h=> ?_;dsimp only [af,ad] at h)|refine aa.yes ?_|refine aa.no ?_|refine ⟨by first|omega|decide,?_⟩)
     rw [qW hfull] at h⊢
     refine o7 h hfull fun w h=> ?_
     refine ⟨h.hb,?_⟩
     refine an.q h hz (aF hfull) ax fun w h=>⟨h.hb,?_⟩
     refine Ld.xw h (aF hfull) ?_
     by_cases hok:bz (l++ [now])=true
     ·rw [if_pos hok] at k1 k2 k3
      rw [hok]
      have:=k2 _ (now:Int) _ rfl h.tl
      rw [hfull]
      exact this
     ·rw [if_neg hok] at k1 k2 k3
      rw [show bz (l++ [now])=false by simpa using hok]
      exact k3 _ _ rfl (aF hfull) ax h.tl
   ·simp only [if_neg hx0] at k1 k2 k3
    (with_reducible repeat first|refine Nw.mk h fun b w h=> ?_|refine ag.mk h fun w h=> ?_|refine Ld.q h hL rfl rfl ?_|refine ab.q (fun _ h=>h) hL rfl rfl ?_|refine Ld.p h hL ?_|refine ab.p (fun _ h=>h) hL ?_|refine Ld.qw h hL rfl ?_|refine ab.qw (fun _ h=>h) hL rfl ?_|refine ⟨h.hb,?_⟩|(refine St.q h hL rfl rfl rfl fun w h=> ?_;dsimp only [af,ad] at h)|refine aa.yes ?_|refine aa.no ?_|refine ⟨by first|omega|decide,?_⟩)
    exact out (K':=fun w x=>K x true w) (aP hl) h fun w h=>k1 _ _ rfl h
  ·simp only [if_neg hb] at k1 k2 k3
   have hb5:bits=5:=by omega
   subst hb5
   by_cases hx0:x=0
   ·subst hx0
    simp only [if_true] at k1 k2 k3
    (with_reducible repeat first|refine Nw.mk h fun b w h=> ?_|refine ag.mk h fun w h=> ?_|refine Ld.q h hL rfl rfl ?_|refine ab.q (fun _ h=>h) hL rfl rfl ?_|refine Ld.p h hL ?_|refine ab.p (fun _ h=>h) hL ?_|refine Ld.qw h hL rfl ?_|refine ab.qw (fun _ h=>h) hL rfl ?_|refine ⟨h.hb,?_⟩|(refine St.q h hL rfl rfl rfl fun w h=> ?_;dsimp only [af,ad] at h)|refine aa.yes ?_|refine aa.no ?_|refine ⟨by first|omega|decide,?_⟩)
    by_cases hw:way=2
    ·subst hw
     (with_reducible repeat first|refine Nw.mk h fun b w h=> ?_|refine ag.mk h fun w h=> ?_|refine Ld.q h hL rfl rfl ?_|refine ab.q (fun _ h=>h) hL rfl rfl ?_|refine Ld.p h hL ?_|refine ab.p (fun _ h=>h) hL ?_|refine Ld.qw h hL rfl ?_|refine ab.qw (fun _ h=>h) hL rfl ?_|refine ⟨h.hb,?_⟩|(refine St.q h hL rfl rfl rfl fun w h=> ?_;dsimp only [af,ad] at h)|refine aa.yes ?_|refine aa.no ?_|refine ⟨by first|omega|decide,?_⟩)
     exact out (K':=fun w x=>K x false w) (aP hl) h fun w h=>k3 _ _ (by simp) (aF (aP hl)) ax h
    ·(with_reducible repeat first|refine Nw.mk h fun b w h=> ?_|refine ag.mk h fun w h=> ?_|refine Ld.q h hL rfl rfl ?_|refine ab.q (fun _ h=>h) hL rfl rfl ?_|refine Ld.p h hL ?_|refine ab.p (fun _ h=>h) hL ?_|refine Ld.qw h hL rfl ?_|refine ab.qw (fun _ h=>h) hL rfl ?_|refine ⟨h.hb,?_⟩|(refine St.q h hL rfl rfl rfl fun w h=> ?_;dsimp only [af,ad] at h)|refine aa.yes ?_|refine aa.no ?_|refine ⟨by first|omega|decide,?_⟩)
     refine out (K':=fun w x=>K x (decide ((now:Int)<15)) w) (aP hl) h fun w h=> ?_
     have ei:i64 ((now:Int)+1)=(now:Int)+1:=aj (by omega)
     try rw [ei]
     try rw [aj (x:=(now:Int) - 1) (by omega)]
     by_cases hn:now<15
     ·rw [if_pos ⟨hw,hn⟩] at k1
      exact cR (K:=fun b w=>K _ b w) (decide_eq_true (by omega)) (k1 _ _ rfl h)
     ·rw [if_neg (fun hh=>hn hh.2)] at k3
      exact cR (K:=fun b w=>K _ b w) (decide_eq_false (by omega)) (k3 _ _ rfl (aF (aP hl)) ax h)
   ·have hx1:x=1:=by omega
    subst hx1
    simp only [if_neg hx0] at k1 k2 k3
    (with_reducible repeat first|refine Nw.mk h fun b w h=> ?_|refine ag.mk h fun w h=> ?_|refine Ld.q h hL rfl rfl ?_|refine ab.q (fun _ h=>h) hL rfl rfl ?_|refine Ld.p h hL ?_|refine ab.p (fun _ h=>h) hL ?_|refine Ld.qw h hL rfl ?_|refine ab.qw (fun _ h=>h) hL rfl ?_|refine ⟨h.hb,?_⟩|(refine St.q h hL rfl rfl rfl fun w h=> ?_;dsimp only [af,ad] at h)|refine aa.yes ?_|refine aa.no ?_|refine ⟨by first|omega|decide,?_⟩)
    by_cases hw:way=1
    ·subst hw
     (with_reducible repeat first|refine Nw.mk h fun b w h=> ?_|refine ag.mk h fun w h=> ?_|refine Ld.q h hL rfl rfl ?_|refine ab.q (fun _ h=>h) hL rfl rfl ?_|refine Ld.p h hL ?_|refine ab.p (fun _ h=>h) hL ?_|refine Ld.qw h hL rfl ?_|refine ab.qw (fun _ h=>h) hL rfl ?_|refine ⟨h.hb,?_⟩|(refine St.q h hL rfl rfl rfl fun w h=> ?_;dsimp only [af,ad] at h)|refine aa.yes ?_|refine aa.no ?_|refine ⟨by first|omega|decide,?_⟩)
     exact out (K':=fun w x=>K x false w) (aP hl) h fun w h=>k3 _ _ (by simp) (aF (aP hl)) ax h
    ·(with_reducible repeat first|refine Nw.mk h fun b w h=> ?_|refine ag.mk h fun w h=> ?_|refine Ld.q h hL rfl rfl ?_|refine ab.q (fun _ h=>h) hL rfl rfl ?_|refine Ld.p h hL ?_|refine ab.p (fun _ h=>h) hL ?_|refine Ld.qw h hL rfl ?_|refine ab.qw (fun _ h=>h) hL rfl ?_|refine ⟨h.hb,?_⟩|(refine St.q h hL rfl rfl rfl fun w h=> ?_;dsimp only [af,ad] at h)|refine aa.yes ?_|refine aa.no ?_|refine ⟨by first|omega|decide,?_⟩)
     refine out (K':=fun w x=>K x (decide ((now:Int)>0)) w) (aP hl) h fun w h=> ?_
     have ei:i64 ((now:Int)+1)=(now:Int)+1:=aj (by omega)
     try rw [ei]
     try rw [aj (x:=(now:Int) - 1) (by omega)]
     by_cases hn:0<now
     ·rw [if_pos ⟨hw,hn⟩] at k1
      rw [show (now:Int) - 1=((now - 1:Nat):Int) by omega]
      exact cR (K:=fun b w=>K _ b w) (decide_eq_true (by omega)) (k1 _ _ rfl h)
     ·rw [if_neg (fun hh=>hn hh.2)] at k3
      exact cR (K:=fun b w=>K _ b w) (decide_eq_false (by omega)) (k3 _ _ rfl (aF (aP hl)) ax h)
end
end Go.Proofs.YtgglghjnakclmaaGreat
namespace Go.Proofs.YtgglghjnakclmaaGreat
open Go Go.Vc Go.Srt Go.Inc Go.Tab
section
variable {E w:World} {F:List HP}
set_option maxRecDepth 20000
theorem eX {a b c:Int} {K:Bool→World→Prop} (hK:K (decide (b≤a∧a≤c)) w):Cl Tryz.prog [kB] bu ⟨[.int .i64 a,.int .i64 b,.int .i64 c]⟩ w K:=by
 refine lG.ok _ _ _ _ _ ?_
 (first|refine aa.dm (fun hb=> ?_) (fun hb=> ?_)|refine aa.em (fun hb=> ?_) (fun hb=> ?_)|refine aa.nm (fun hb=> ?_) (fun hb=> ?_)|refine aa.mk (fun hb=> ?_) (fun hb=> ?_))
 ·refine cR (decide_eq_decide.2 ?_) hK
  omega
 ·refine cR (decide_eq_false ?_).symm hK
  omega
theorem xE {a b c:Nat} {K:Bool→World→Prop} (hc:(c=0∧a=b)∨(c=1∧a<b)∨(c=2∧b<a)) (hK:K true w):Cl Tryz.prog [kB] dX ⟨[.int .i64 (a:Int),.int .i64 (b:Int),.int .i64 (c:Int)]⟩ w K:=by
 refine lH.ok _ _ _ _ _ ?_
 rcases hc with ⟨rfl,h⟩|⟨rfl,h⟩|⟨rfl,h⟩
 ·(repeat (first|with_reducible refine Nw.mk h (fun b w h=> ?_)|with_reducible refine ag.mk h (fun w h=> ?_)|with_reducible refine Ld.xb h rfl ?_|with_reducible refine Ld.xt h rfl ?_|with_reducible refine ab.xb (fun _ h=>h) rfl ?_|with_reducible refine ab.xt (fun _ h=>h) rfl ?_|with_reducible refine And.intro h.hb ?_|with_reducible refine ae.xw h rfl rfl (fun w h=> ?_)|(with_reducible refine ae.xs h rfl rfl (fun w h=> ?_);dsimp only [af,ad] at h)|(with_reducible refine St.xs h rfl rfl (fun w h=> ?_);dsimp only [af,ad] at h)|with_reducible refine aa.dk ?_|with_reducible refine aa.dM ?_|with_reducible refine aa.t rfl ?_|with_reducible refine aa.f rfl ?_|with_reducible refine aa.dt (by omega) ?_|with_reducible refine aa.df (by omega) ?_|with_reducible refine aa.eF (by omega) ?_|with_reducible refine aa.eC (by omega) ?_|with_reducible refine aa.et (by omega) ?_|with_reducible refine aa.ef (by omega) ?_|with_reducible refine aa.nt (by omega) ?_|with_reducible refine aa.nf (by omega) ?_|with_reducible refine And.intro (by first|omega|decide) ?_))
  exact cR (beq_iff_eq.2 (by omega)) hK
 ·(repeat (first|with_reducible refine Nw.mk h (fun b w h=> ?_)|with_reducible refine ag.mk h (fun w h=> ?_)|with_reducible refine Ld.xb h rfl ?_|with_reducible refine Ld.xt h rfl ?_|with_reducible refine ab.xb (fun _ h=>h) rfl ?_|with_reducible refine ab.xt (fun _ h=>h) rfl ?_|with_reducible refine And.intro h.hb ?_|with_reducible refine ae.xw h rfl rfl (fun w h=> ?_)|(with_reducible refine ae.xs h rfl rfl (fun w h=> ?_);dsimp only [af,ad] at h)|(with_reducible refine St.xs h rfl rfl (fun w h=> ?_);dsimp only [af,ad] at h)|with_reducible refine aa.dk ?_|with_reducible refine aa.dM ?_|with_reducible refine aa.t rfl ?_|with_reducible refine aa.f rfl ?_|with_reducible refine aa.dt (by omega) ?_|with_reducible refine aa.df (by omega) ?_|with_reducible refine aa.eF (by omega) ?_|with_reducible refine aa.eC (by omega) ?_|with_reducible refine aa.et (by omega) ?_|with_reducible refine aa.ef (by omega) ?_|with_reducible refine aa.nt (by omega) ?_|with_reducible refine aa.nf (by omega) ?_|with_reducible refine And.intro (by first|omega|decide) ?_))
  exact cR (decide_eq_true (by omega)) hK
 ·(repeat (first|with_reducible refine Nw.mk h (fun b w h=> ?_)|with_reducible refine ag.mk h (fun w h=> ?_)|with_reducible refine Ld.xb h rfl ?_|with_reducible refine Ld.xt h rfl ?_|with_reducible refine ab.xb (fun _ h=>h) rfl ?_|with_reducible refine ab.xt (fun _ h=>h) rfl ?_|with_reducible refine And.intro h.hb ?_|with_reducible refine ae.xw h rfl rfl (fun w h=> ?_)|(with_reducible refine ae.xs h rfl rfl (fun w h=> ?_);dsimp only [af,ad] at h)|(with_reducible refine St.xs h rfl rfl (fun w h=> ?_);dsimp only [af,ad] at h)|with_reducible refine aa.dk ?_|with_reducible refine aa.dM ?_|with_reducible refine aa.t rfl ?_|with_reducible refine aa.f rfl ?_|with_reducible refine aa.dt (by omega) ?_|with_reducible refine aa.df (by omega) ?_|with_reducible refine aa.eF (by omega) ?_|with_reducible refine aa.eC (by omega) ?_|with_reducible refine aa.et (by omega) ?_|with_reducible refine aa.ef (by omega) ?_|with_reducible refine aa.nt (by omega) ?_|with_reducible refine aa.nf (by omega) ?_|with_reducible refine And.intro (by first|omega|decide) ?_))
  exact cR (decide_eq_true (by omega)) hK
set_option maxRecDepth 20000 in
theorem zM {l:List Nat} {b n wy:Int} {K:Bool→World→Prop} (h:Hp E w F) (hl:l.length≤258) (h15: ∀x∈l,x≤15) (hK: ∀w',Hp E w' F→K true w'):
  Cl Tryz.prog [kB] eB ⟨[.agg (bX (pad l) (l.length:Int) b n wy)]⟩ w K:=by
 have hp:=aP hl
 have hL:=cz hp
 refine mF.ok _ _ _ ?_
 (try simp only [au,ah,ak,Nat.zero_add,Nat.add_zero,Nat.reduceAdd,Bool.not_true,Bool.not_false,aD,aC,Option.isNone])
 refine Nw.mk h fun b3 w h=>Ld.p h hL ?_
 refine ⟨fun i w'=> ∃k:Nat,i=(k:Int)∧k≤258∧Hp E w' (aq b3 (.cells (bX (pad l) (l.length:Int) b n wy) 106 (0,0))::F),fun i _=>258 - i.toNat,⟨0,rfl,by omega,h⟩,?_⟩
 rintro i w ⟨k,rfl,hk,h⟩
 (first|refine aa.dm (fun hb=> ?_) (fun hb=> ?_)|refine aa.em (fun hb=> ?_) (fun hb=> ?_)|refine aa.nm (fun hb=> ?_) (fun hb=> ?_)|refine aa.mk (fun hb=> ?_) (fun hb=> ?_))
 ·refine gB.rd (s:= .int .u8) (by omega) (by omega) ((pad l).getD k 0:Int) ?_ ?_
  ·rw [Int.toNat_natCast]
   simp [List.getD_eq_getElem?_getD,show k<(pad l).length by omega]
  have h15':(pad l).getD k 0≤15:=by
   have hk2:k<(pad l).length:=by omega
   rw [List.getD_eq_getElem?_getD,List.getElem?_eq_getElem hk2]
   exact A4 h15 _ (List.getElem_mem hk2)
  (repeat (first|with_reducible refine Nw.mk h (fun b w h=> ?_)|with_reducible refine ag.mk h (fun w h=> ?_)|with_reducible refine Ld.q h hL rfl rfl ?_|with_reducible refine ab.q (fun _ h=>h) hL rfl rfl ?_|with_reducible refine Ld.p h hL ?_|with_reducible refine ab.p (fun _ h=>h) hL ?_|with_reducible refine Ld.qw h hL rfl ?_|with_reducible refine ab.qw (fun _ h=>h) hL rfl ?_|with_reducible refine And.intro h.hb ?_|(with_reducible refine St.q h hL rfl rfl rfl (fun w h=> ?_);dsimp only [af,ad] at h)|with_reducible refine aa.dk ?_|with_reducible refine aa.dM ?_|with_reducible refine aa.t rfl ?_|with_reducible refine aa.f rfl ?_|with_reducible refine aa.dt (by omega) ?_|with_reducible refine aa.df (by omega) ?_|with_reducible refine aa.eF (by omega) ?_|with_reducible refine aa.eC (by omega) ?_|with_reducible refine aa.et (by omega) ?_|with_reducible refine aa.ef (by omega) ?_|with_reducible refine aa.nt (by omega) ?_|with_reducible refine aa.nf (by omega) ?_|with_reducible refine And.intro (by first|omega|decide) ?_))
  have next:(∃k':Nat,i64 ((k:Int)+1)=(k':Int)∧k'≤258∧Hp E w (aq b3 (.cells (bX (pad l) (l.length:Int) b n wy) 106 (0,0))::F))∧258 - (i64 ((k:Int)+1)).toNat<258 - ((k:Int)).toNat:=by
   rw [aj (by omega)]
   exact ⟨⟨k+1,rfl,by omega,h⟩,by omega⟩
  (first|refine aa.dm (fun hb=> ?_) (fun hb=> ?_)|refine aa.em (fun hb=> ?_) (fun hb=> ?_)|refine aa.nm (fun hb=> ?_) (fun hb=> ?_)|refine aa.mk (fun hb=> ?_) (fun hb=> ?_))
  ·have:=Bl (l:=l) (i:=k) (by omega)
   rw [this]
   (repeat (first|with_reducible refine Nw.mk h (fun b w h=> ?_)|with_reducible refine ag.mk h (fun w h=> ?_)|with_reducible refine Ld.q h hL rfl rfl ?_|with_reducible refine ab.q (fun _ h=>h) hL rfl rfl ?_|with_reducible refine Ld.p h hL ?_|with_reducible refine ab.p (fun _ h=>h) hL ?_|with_reducible refine Ld.qw h hL rfl ?_|with_reducible refine ab.qw (fun _ h=>h) hL rfl ?_|with_reducible refine And.intro h.hb ?_|(with_reducible refine St.q h hL rfl rfl rfl (fun w h=> ?_);dsimp only [af,ad] at h)|with_reducible refine aa.dk ?_|with_reducible refine aa.dM ?_|with_reducible refine aa.t rfl ?_|with_reducible refine aa.f rfl ?_|with_reducible refine aa.dt (by omega) ?_|with_reducible refine aa.df (by omega) ?_|with_reducible refine aa.eF (by omega) ?_|with_reducible refine aa.eC (by omega) ?_|with_reducible refine aa.et (by omega) ?_|with_reducible refine aa.ef (by omega) ?_|with_reducible refine aa.nt (by omega) ?_|with_reducible refine aa.nf (by omega) ?_|with_reducible refine And.intro (by first|omega|decide) ?_))
   exact next
  ·exact next
 ·exact hK _ h.tl
theorem xr {l:List Nat} {s n:Int} {b:Nat} {wy:Int} {K:Bool→World→Prop} (h:Hp E w F) (hl:l.length=258) (hb:4≤b) (hK: ∀w',Hp E w' F→K false w'):
  Cl Tryz.prog [kB] cv ⟨[.agg (bX l s (b:Int) n wy)]⟩ w K:=by
 have hL:=cz hl
 refine gd.ok _ _ _ ?_
 (try simp only [au,ah,ak,Nat.zero_add,Nat.add_zero,Nat.reduceAdd,Bool.not_true,Bool.not_false,aD,aC,Option.isNone])
 refine Nw.mk h fun b3 w h=> ?_
 have h:=h.drew (n:=w.drawn+1)
 refine ⟨bq b3 _ _ _,h.hb,?_⟩
 dsimp only
 (repeat (first|with_reducible refine Nw.mk h (fun b w h=> ?_)|with_reducible refine ag.mk h (fun w h=> ?_)|with_reducible refine Ld.q h hL rfl rfl ?_|with_reducible refine ab.q (fun _ h=>h) hL rfl rfl ?_|with_reducible refine Ld.p h hL ?_|with_reducible refine ab.p (fun _ h=>h) hL ?_|with_reducible refine Ld.qw h hL rfl ?_|with_reducible refine ab.qw (fun _ h=>h) hL rfl ?_|with_reducible refine And.intro h.hb ?_|(with_reducible refine St.q h hL rfl rfl rfl (fun w h=> ?_);dsimp only [af,ad] at h)|with_reducible refine aa.dk ?_|with_reducible refine aa.dM ?_|with_reducible refine aa.t rfl ?_|with_reducible refine aa.f rfl ?_|with_reducible refine aa.dt (by omega) ?_|with_reducible refine aa.df (by omega) ?_|with_reducible refine aa.eF (by omega) ?_|with_reducible refine aa.eC (by omega) ?_|with_reducible refine aa.et (by omega) ?_|with_reducible refine aa.ef (by omega) ?_|with_reducible refine aa.nt (by omega) ?_|with_reducible refine aa.nf (by omega) ?_|with_reducible refine And.intro (by first|omega|decide) ?_))
 refine eX ?_
 (repeat (first|with_reducible refine Nw.mk h (fun b w h=> ?_)|with_reducible refine ag.mk h (fun w h=> ?_)|with_reducible refine Ld.q h hL rfl rfl ?_|with_reducible refine ab.q (fun _ h=>h) hL rfl rfl ?_|with_reducible refine Ld.p h hL ?_|with_reducible refine ab.p (fun _ h=>h) hL ?_|with_reducible refine Ld.qw h hL rfl ?_|with_reducible refine ab.qw (fun _ h=>h) hL rfl ?_|with_reducible refine And.intro h.hb ?_|(with_reducible refine St.q h hL rfl rfl rfl (fun w h=> ?_);dsimp only [af,ad] at h)|with_reducible refine aa.dk ?_|with_reducible refine aa.dM ?_|with_reducible refine aa.t rfl ?_|with_reducible refine aa.f rfl ?_|with_reducible refine aa.dt (by omega) ?_|with_reducible refine aa.df (by omega) ?_|with_reducible refine aa.eF (by omega) ?_|with_reducible refine aa.eC (by omega) ?_|with_reducible refine aa.et (by omega) ?_|with_reducible refine aa.ef (by omega) ?_|with_reducible refine aa.nt (by omega) ?_|with_reducible refine aa.nf (by omega) ?_|with_reducible refine And.intro (by first|omega|decide) ?_))
 exact hK _ h.tl
theorem xY {n b:Nat} {K:Bool→World→Prop} (h:Hp E w F) (hb:b<4) (hn:n<2^b) (hK: ∀w',Hp E w' F→K true w'):
  Cl Tryz.prog [kB] cv ⟨[.agg (bX (List.replicate 258 0) 0 (b:Int) (n:Int) 0)]⟩ w K:=by
 have hl:(List.replicate 258 0:List Nat).length=258:=List.length_replicate
 have hL:=cz hl
 refine gd.ok _ _ _ ?_
 (try simp only [au,ah,ak,Nat.zero_add,Nat.add_zero,Nat.reduceAdd,Bool.not_true,Bool.not_false,aD,aC,Option.isNone])
 refine Nw.mk h fun b3 w h=> ?_
 have h:=h.drew (n:=w.drawn+1)
 refine ⟨bq b3 _ _ _,h.hb,?_⟩
 dsimp only
 have e:i64 (bg .i64 1 (b:Int) - 1)=((2^b - 1:Nat):Int):=by
  have:b=0∨b=1∨b=2∨b=3:=by omega
  rcases this with rfl|rfl|rfl|rfl<;>rfl
 have hp:=Nat.two_pow_pos b
 (repeat (first|with_reducible refine Nw.mk h (fun b w h=> ?_)|with_reducible refine ag.mk h (fun w h=> ?_)|with_reducible refine Ld.q h hL rfl rfl ?_|with_reducible refine ab.q (fun _ h=>h) hL rfl rfl ?_|with_reducible refine Ld.p h hL ?_|with_reducible refine ab.p (fun _ h=>h) hL ?_|with_reducible refine Ld.qw h hL rfl ?_|with_reducible refine ab.qw (fun _ h=>h) hL rfl ?_|with_reducible refine And.intro h.hb ?_|(with_reducible refine St.q h hL rfl rfl rfl (fun w h=> ?_);dsimp only [af,ad] at h)|with_reducible refine aa.dk ?_|with_reducible refine aa.dM ?_|with_reducible refine aa.t rfl ?_|with_reducible refine aa.f rfl ?_|with_reducible refine aa.dt (by omega) ?_|with_reducible refine aa.df (by omega) ?_|with_reducible refine aa.eF (by omega) ?_|with_reducible refine aa.eC (by omega) ?_|with_reducible refine aa.et (by omega) ?_|with_reducible refine aa.ef (by omega) ?_|with_reducible refine aa.nt (by omega) ?_|with_reducible refine aa.nf (by omega) ?_|with_reducible refine And.intro (by first|omega|decide) ?_))
 refine eX ?_
 (repeat (first|with_reducible refine Nw.mk h (fun b w h=> ?_)|with_reducible refine ag.mk h (fun w h=> ?_)|with_reducible refine Ld.q h hL rfl rfl ?_|with_reducible refine ab.q (fun _ h=>h) hL rfl rfl ?_|with_reducible refine Ld.p h hL ?_|with_reducible refine ab.p (fun _ h=>h) hL ?_|with_reducible refine Ld.qw h hL rfl ?_|with_reducible refine ab.qw (fun _ h=>h) hL rfl ?_|with_reducible refine And.intro h.hb ?_|(with_reducible refine St.q h hL rfl rfl rfl (fun w h=> ?_);dsimp only [af,ad] at h)|with_reducible refine aa.dk ?_|with_reducible refine aa.dM ?_|with_reducible refine aa.t rfl ?_|with_reducible refine aa.f rfl ?_|with_reducible refine aa.dt (by omega) ?_|with_reducible refine aa.df (by omega) ?_|with_reducible refine aa.eF (by omega) ?_|with_reducible refine aa.eC (by omega) ?_|with_reducible refine aa.et (by omega) ?_|with_reducible refine aa.ef (by omega) ?_|with_reducible refine aa.nt (by omega) ?_|with_reducible refine aa.nf (by omega) ?_|with_reducible refine And.intro (by first|omega|decide) ?_))
 refine eX ?_
 rw [e]
 (repeat (first|with_reducible refine Nw.mk h (fun b w h=> ?_)|with_reducible refine ag.mk h (fun w h=> ?_)|with_reducible refine Ld.q h hL rfl rfl ?_|with_reducible refine ab.q (fun _ h=>h) hL rfl rfl ?_|with_reducible refine Ld.p h hL ?_|with_reducible refine ab.p (fun _ h=>h) hL ?_|with_reducible refine Ld.qw h hL rfl ?_|with_reducible refine ab.qw (fun _ h=>h) hL rfl ?_|with_reducible refine And.intro h.hb ?_|(with_reducible refine St.q h hL rfl rfl rfl (fun w h=> ?_);dsimp only [af,ad] at h)|with_reducible refine aa.dk ?_|with_reducible refine aa.dM ?_|with_reducible refine aa.t rfl ?_|with_reducible refine aa.f rfl ?_|with_reducible refine aa.dt (by omega) ?_|with_reducible refine aa.df (by omega) ?_|with_reducible refine aa.eF (by omega) ?_|with_reducible refine aa.eC (by omega) ?_|with_reducible refine aa.et (by omega) ?_|with_reducible refine aa.ef (by omega) ?_|with_reducible refine aa.nt (by omega) ?_|with_reducible refine aa.nf (by omega) ?_|with_reducible refine And.intro (by first|omega|decide) ?_))
 exact bx.tb (nU.tb hl (hK _ h.tl))
theorem xP {t:TS} {K:Bool→World→Prop} (h:Hp E w F) (ht:cU t) (hK: ∀w',Hp E w' F→K true w'):
  Cl Tryz.prog [kB] eA ⟨[.agg (bX (pad t.l) (t.l.length:Int) (t.bits:Int) (t.now:Int) (t.way:Int))]⟩ w K:=by
 obtain ⟨l,bits,now,way⟩:=t
 unfold cU at ht
 dsimp only at ht⊢
 have hl:l.length≤258:=by
  rcases ht with ⟨_,h,_⟩|⟨_,h,_⟩
  ·rw [h];simp
  ·omega
 have hL:=cz (aP hl)
 refine mE.ok _ _ _ ?_
 (try simp only [au,ah,ak,Nat.zero_add,Nat.add_zero,Nat.reduceAdd,Bool.not_true,Bool.not_false,aD,aC,Option.isNone])
 (repeat (first|with_reducible refine Nw.mk h (fun b w h=> ?_)|with_reducible refine ag.mk h (fun w h=> ?_)|with_reducible refine Ld.q h hL rfl rfl ?_|with_reducible refine ab.q (fun _ h=>h) hL rfl rfl ?_|with_reducible refine Ld.p h hL ?_|with_reducible refine ab.p (fun _ h=>h) hL ?_|with_reducible refine Ld.qw h hL rfl ?_|with_reducible refine ab.qw (fun _ h=>h) hL rfl ?_|with_reducible refine And.intro h.hb ?_|(with_reducible refine St.q h hL rfl rfl rfl (fun w h=> ?_);dsimp only [af,ad] at h)|with_reducible refine aa.dk ?_|with_reducible refine aa.dM ?_|with_reducible refine aa.t rfl ?_|with_reducible refine aa.f rfl ?_|with_reducible refine aa.dt (by omega) ?_|with_reducible refine aa.df (by omega) ?_|with_reducible refine aa.eF (by omega) ?_|with_reducible refine aa.eC (by omega) ?_|with_reducible refine aa.et (by omega) ?_|with_reducible refine aa.ef (by omega) ?_|with_reducible refine aa.nt (by omega) ?_|with_reducible refine aa.nf (by omega) ?_|with_reducible refine And.intro (by first|omega|decide) ?_))
 rcases ht with ⟨h1,h2,h3,h4⟩|⟨h1,h2,h3,h4,h5⟩
 ·subst h2 h4
  refine xY h h1 h3 fun w h=> ?_
  (repeat (first|with_reducible refine Nw.mk h (fun b w h=> ?_)|with_reducible refine ag.mk h (fun w h=> ?_)|with_reducible refine Ld.q h hL rfl rfl ?_|with_reducible refine ab.q (fun _ h=>h) hL rfl rfl ?_|with_reducible refine Ld.p h hL ?_|with_reducible refine ab.p (fun _ h=>h) hL ?_|with_reducible refine Ld.qw h hL rfl ?_|with_reducible refine ab.qw (fun _ h=>h) hL rfl ?_|with_reducible refine And.intro h.hb ?_|(with_reducible refine St.q h hL rfl rfl rfl (fun w h=> ?_);dsimp only [af,ad] at h)|with_reducible refine aa.dk ?_|with_reducible refine aa.dM ?_|with_reducible refine aa.t rfl ?_|with_reducible refine aa.f rfl ?_|with_reducible refine aa.dt (by omega) ?_|with_reducible refine aa.df (by omega) ?_|with_reducible refine aa.eF (by omega) ?_|with_reducible refine aa.eC (by omega) ?_|with_reducible refine aa.et (by omega) ?_|with_reducible refine aa.ef (by omega) ?_|with_reducible refine aa.nt (by omega) ?_|with_reducible refine aa.nf (by omega) ?_|with_reducible refine And.intro (by first|omega|decide) ?_))
  exact hK _ h.tl
 ·refine xr h (aP hl) (by omega) fun w h=> ?_
  (repeat (first|with_reducible refine Nw.mk h (fun b w h=> ?_)|with_reducible refine ag.mk h (fun w h=> ?_)|with_reducible refine Ld.q h hL rfl rfl ?_|with_reducible refine ab.q (fun _ h=>h) hL rfl rfl ?_|with_reducible refine Ld.p h hL ?_|with_reducible refine ab.p (fun _ h=>h) hL ?_|with_reducible refine Ld.qw h hL rfl ?_|with_reducible refine ab.qw (fun _ h=>h) hL rfl ?_|with_reducible refine And.intro h.hb ?_|(with_reducible refine St.q h hL rfl rfl rfl (fun w h=> ?_);dsimp only [af,ad] at h)|with_reducible refine aa.dk ?_|with_reducible refine aa.dM ?_|with_reducible refine aa.t rfl ?_|with_reducible refine aa.f rfl ?_|with_reducible refine aa.dt (by omega) ?_|with_reducible refine aa.df (by omega) ?_|with_reducible refine aa.eF (by omega) ?_|with_reducible refine aa.eC (by omega) ?_|with_reducible refine aa.et (by omega) ?_|with_reducible refine aa.ef (by omega) ?_|with_reducible refine aa.nt (by omega) ?_|with_reducible refine aa.nf (by omega) ?_|with_reducible refine And.intro (by first|omega|decide) ?_))
  refine eX ?_
  (repeat (first|with_reducible refine Nw.mk h (fun b w h=> ?_)|with_reducible refine ag.mk h (fun w h=> ?_)|with_reducible refine Ld.q h hL rfl rfl ?_|with_reducible refine ab.q (fun _ h=>h) hL rfl rfl ?_|with_reducible refine Ld.p h hL ?_|with_reducible refine ab.p (fun _ h=>h) hL ?_|with_reducible refine Ld.qw h hL rfl ?_|with_reducible refine ab.qw (fun _ h=>h) hL rfl ?_|with_reducible refine And.intro h.hb ?_|(with_reducible refine St.q h hL rfl rfl rfl (fun w h=> ?_);dsimp only [af,ad] at h)|with_reducible refine aa.dk ?_|with_reducible refine aa.dM ?_|with_reducible refine aa.t rfl ?_|with_reducible refine aa.f rfl ?_|with_reducible refine aa.dt (by omega) ?_|with_reducible refine aa.df (by omega) ?_|with_reducible refine aa.eF (by omega) ?_|with_reducible refine aa.eC (by omega) ?_|with_reducible refine aa.et (by omega) ?_|with_reducible refine aa.ef (by omega) ?_|with_reducible refine aa.nt (by omega) ?_|with_reducible refine aa.nf (by omega) ?_|with_reducible refine And.intro (by first|omega|decide) ?_))
  refine eX ?_
  (repeat (first|with_reducible refine Nw.mk h (fun b w h=> ?_)|with_reducible refine ag.mk h (fun w h=> ?_)|with_reducible refine Ld.q h hL rfl rfl ?_|with_reducible refine ab.q (fun _ h=>h) hL rfl rfl ?_|with_reducible refine Ld.p h hL ?_|with_reducible refine ab.p (fun _ h=>h) hL ?_|with_reducible refine Ld.qw h hL rfl ?_|with_reducible refine ab.qw (fun _ h=>h) hL rfl ?_|with_reducible refine And.intro h.hb ?_|(with_reducible refine St.q h hL rfl rfl rfl (fun w h=> ?_);dsimp only [af,ad] at h)|with_reducible refine aa.dk ?_|with_reducible refine aa.dM ?_|with_reducible refine aa.t rfl ?_|with_reducible refine aa.f rfl ?_|with_reducible refine aa.dt (by omega) ?_|with_reducible refine aa.df (by omega) ?_|with_reducible refine aa.eF (by omega) ?_|with_reducible refine aa.eC (by omega) ?_|with_reducible refine aa.et (by omega) ?_|with_reducible refine aa.ef (by omega) ?_|with_reducible refine aa.nt (by omega) ?_|with_reducible refine aa.nf (by omega) ?_|with_reducible refine And.intro (by first|omega|decide) ?_))
  refine eX ?_
  (repeat (first|with_reducible refine Nw.mk h (fun b w h=> ?_)|with_reducible refine ag.mk h (fun w h=> ?_)|with_reducible refine Ld.q h hL rfl rfl ?_|with_reducible refine ab.q (fun _ h=>h) hL rfl rfl ?_|with_reducible refine Ld.p h hL ?_|with_reducible refine ab.p (fun _ h=>h) hL ?_|with_reducible refine Ld.qw h hL rfl ?_|with_reducible refine ab.qw (fun _ h=>h) hL rfl ?_|with_reducible refine And.intro h.hb ?_|(with_reducible refine St.q h hL rfl rfl rfl (fun w h=> ?_);dsimp only [af,ad] at h)|with_reducible refine aa.dk ?_|with_reducible refine aa.dM ?_|with_reducible refine aa.t rfl ?_|with_reducible refine aa.f rfl ?_|with_reducible refine aa.dt (by omega) ?_|with_reducible refine aa.df (by omega) ?_|with_reducible refine aa.eF (by omega) ?_|with_reducible refine aa.eC (by omega) ?_|with_reducible refine aa.et (by omega) ?_|with_reducible refine aa.ef (by omega) ?_|with_reducible refine aa.nt (by omega) ?_|with_reducible refine aa.nf (by omega) ?_|with_reducible refine And.intro (by first|omega|decide) ?_))
  refine eX ?_
  have hw:way≤2:=by unfold jk at h5;split at h5<;>omega
  (repeat (first|with_reducible refine Nw.mk h (fun b w h=> ?_)|with_reducible refine ag.mk h (fun w h=> ?_)|with_reducible refine Ld.q h hL rfl rfl ?_|with_reducible refine ab.q (fun _ h=>h) hL rfl rfl ?_|with_reducible refine Ld.p h hL ?_|with_reducible refine ab.p (fun _ h=>h) hL ?_|with_reducible refine Ld.qw h hL rfl ?_|with_reducible refine ab.qw (fun _ h=>h) hL rfl ?_|with_reducible refine And.intro h.hb ?_|(with_reducible refine St.q h hL rfl rfl rfl (fun w h=> ?_);dsimp only [af,ad] at h)|with_reducible refine aa.dk ?_|with_reducible refine aa.dM ?_|with_reducible refine aa.t rfl ?_|with_reducible refine aa.f rfl ?_|with_reducible refine aa.dt (by omega) ?_|with_reducible refine aa.df (by omega) ?_|with_reducible refine aa.eF (by omega) ?_|with_reducible refine aa.eC (by omega) ?_|with_reducible refine aa.et (by omega) ?_|with_reducible refine aa.ef (by omega) ?_|with_reducible refine aa.nt (by omega) ?_|with_reducible refine aa.nf (by omega) ?_|with_reducible refine And.intro (by first|omega|decide) ?_))
  refine zM h hl h4 fun w h=> ?_
  (repeat (first|with_reducible refine Nw.mk h (fun b w h=> ?_)|with_reducible refine ag.mk h (fun w h=> ?_)|with_reducible refine Ld.q h hL rfl rfl ?_|with_reducible refine ab.q (fun _ h=>h) hL rfl rfl ?_|with_reducible refine Ld.p h hL ?_|with_reducible refine ab.p (fun _ h=>h) hL ?_|with_reducible refine Ld.qw h hL rfl ?_|with_reducible refine ab.qw (fun _ h=>h) hL rfl ?_|with_reducible refine And.intro h.hb ?_|(with_reducible refine St.q h hL rfl rfl rfl (fun w h=> ?_);dsimp only [af,ad] at h)|with_reducible refine aa.dk ?_|with_reducible refine aa.dM ?_|with_reducible refine aa.t rfl ?_|with_reducible refine aa.f rfl ?_|with_reducible refine aa.dt (by omega) ?_|with_reducible refine aa.df (by omega) ?_|with_reducible refine aa.eF (by omega) ?_|with_reducible refine aa.eC (by omega) ?_|with_reducible refine aa.et (by omega) ?_|with_reducible refine aa.ef (by omega) ?_|with_reducible refine aa.nt (by omega) ?_|with_reducible refine aa.nf (by omega) ?_|with_reducible refine And.intro (by first|omega|decide) ?_))
  unfold jk at h5
  by_cases hn:l= []
  ·subst hn
   rw [if_pos rfl] at h5
   (repeat (first|with_reducible refine Nw.mk h (fun b w h=> ?_)|with_reducible refine ag.mk h (fun w h=> ?_)|with_reducible refine Ld.q h hL rfl rfl ?_|with_reducible refine ab.q (fun _ h=>h) hL rfl rfl ?_|with_reducible refine Ld.p h hL ?_|with_reducible refine ab.p (fun _ h=>h) hL ?_|with_reducible refine Ld.qw h hL rfl ?_|with_reducible refine ab.qw (fun _ h=>h) hL rfl ?_|with_reducible refine And.intro h.hb ?_|(with_reducible refine St.q h hL rfl rfl rfl (fun w h=> ?_);dsimp only [af,ad] at h)|with_reducible refine aa.dk ?_|with_reducible refine aa.dM ?_|with_reducible refine aa.t rfl ?_|with_reducible refine aa.f rfl ?_|with_reducible refine aa.dt (by omega) ?_|with_reducible refine aa.df (by omega) ?_|with_reducible refine aa.eF (by omega) ?_|with_reducible refine aa.eC (by omega) ?_|with_reducible refine aa.et (by omega) ?_|with_reducible refine aa.ef (by omega) ?_|with_reducible refine aa.nt (by omega) ?_|with_reducible refine aa.nf (by omega) ?_|with_reducible refine And.intro (by first|omega|decide) ?_))
   rcases h5 with h5|⟨h5,h6⟩|⟨h5,h6⟩
   ·subst h5
    (repeat (first|with_reducible refine Nw.mk h (fun b w h=> ?_)|with_reducible refine ag.mk h (fun w h=> ?_)|with_reducible refine Ld.q h hL rfl rfl ?_|with_reducible refine ab.q (fun _ h=>h) hL rfl rfl ?_|with_reducible refine Ld.p h hL ?_|with_reducible refine ab.p (fun _ h=>h) hL ?_|with_reducible refine Ld.qw h hL rfl ?_|with_reducible refine ab.qw (fun _ h=>h) hL rfl ?_|with_reducible refine And.intro h.hb ?_|(with_reducible refine St.q h hL rfl rfl rfl (fun w h=> ?_);dsimp only [af,ad] at h)|with_reducible refine aa.dk ?_|with_reducible refine aa.dM ?_|with_reducible refine aa.t rfl ?_|with_reducible refine aa.f rfl ?_|with_reducible refine aa.dt (by omega) ?_|with_reducible refine aa.df (by omega) ?_|with_reducible refine aa.eF (by omega) ?_|with_reducible refine aa.eC (by omega) ?_|with_reducible refine aa.et (by omega) ?_|with_reducible refine aa.ef (by omega) ?_|with_reducible refine aa.nt (by omega) ?_|with_reducible refine aa.nf (by omega) ?_|with_reducible refine And.intro (by first|omega|decide) ?_))
    exact hK _ h.tl
   ·subst h5
    (repeat (first|with_reducible refine Nw.mk h (fun b w h=> ?_)|with_reducible refine ag.mk h (fun w h=> ?_)|with_reducible refine Ld.q h hL rfl rfl ?_|with_reducible refine ab.q (fun _ h=>h) hL rfl rfl ?_|with_reducible refine Ld.p h hL ?_|with_reducible refine ab.p (fun _ h=>h) hL ?_|with_reducible refine Ld.qw h hL rfl ?_|with_reducible refine ab.qw (fun _ h=>h) hL rfl ?_|with_reducible refine And.intro h.hb ?_|(with_reducible refine St.q h hL rfl rfl rfl (fun w h=> ?_);dsimp only [af,ad] at h)|with_reducible refine aa.dk ?_|with_reducible refine aa.dM ?_|with_reducible refine aa.t rfl ?_|with_reducible refine aa.f rfl ?_|with_reducible refine aa.dt (by omega) ?_|with_reducible refine aa.df (by omega) ?_|with_reducible refine aa.eF (by omega) ?_|with_reducible refine aa.eC (by omega) ?_|with_reducible refine aa.et (by omega) ?_|with_reducible refine aa.ef (by omega) ?_|with_reducible refine aa.nt (by omega) ?_|with_reducible refine aa.nf (by omega) ?_|with_reducible refine And.intro (by first|omega|decide) ?_))
    exact hK _ h.tl
   ·subst h5
    (repeat (first|with_reducible refine Nw.mk h (fun b w h=> ?_)|with_reducible refine ag.mk h (fun w h=> ?_)|with_reducible refine Ld.q h hL rfl rfl ?_|with_reducible refine ab.q (fun _ h=>h) hL rfl rfl ?_|with_reducible refine Ld.p h hL ?_|with_reducible refine ab.p (fun _ h=>h) hL ?_|with_reducible refine Ld.qw h hL rfl ?_|with_reducible refine ab.qw (fun _ h=>h) hL rfl ?_|with_reducible refine And.intro h.hb ?_|(with_reducible refine St.q h hL rfl rfl rfl (fun w h=> ?_);dsimp only [af,ad] at h)|with_reducible refine aa.dk ?_|with_reducible refine aa.dM ?_|with_reducible refine aa.t rfl ?_|with_reducible refine aa.f rfl ?_|with_reducible refine aa.dt (by omega) ?_|with_reducible refine aa.df (by omega) ?_|with_reducible refine aa.eF (by omega) ?_|with_reducible refine aa.eC (by omega) ?_|with_reducible refine aa.et (by omega) ?_|with_reducible refine aa.ef (by omega) ?_|with_reducible refine aa.nt (by omega) ?_|with_reducible refine aa.nf (by omega) ?_|with_reducible refine And.intro (by first|omega|decide) ?_))
    exact cR (decide_eq_true (by omega)) (hK _ h.tl)
  ·rw [if_neg hn] at h5
   have hpos:=List.length_pos_iff.2 hn
   (repeat (first|with_reducible refine Nw.mk h (fun b w h=> ?_)|with_reducible refine ag.mk h (fun w h=> ?_)|with_reducible refine Ld.q h hL rfl rfl ?_|with_reducible refine ab.q (fun _ h=>h) hL rfl rfl ?_|with_reducible refine Ld.p h hL ?_|with_reducible refine ab.p (fun _ h=>h) hL ?_|with_reducible refine Ld.qw h hL rfl ?_|with_reducible refine ab.qw (fun _ h=>h) hL rfl ?_|with_reducible refine And.intro h.hb ?_|(with_reducible refine St.q h hL rfl rfl rfl (fun w h=> ?_);dsimp only [af,ad] at h)|with_reducible refine aa.dk ?_|with_reducible refine aa.dM ?_|with_reducible refine aa.t rfl ?_|with_reducible refine aa.f rfl ?_|with_reducible refine aa.dt (by omega) ?_|with_reducible refine aa.df (by omega) ?_|with_reducible refine aa.eF (by omega) ?_|with_reducible refine aa.eC (by omega) ?_|with_reducible refine aa.et (by omega) ?_|with_reducible refine aa.ef (by omega) ?_|with_reducible refine aa.nt (by omega) ?_|with_reducible refine aa.nf (by omega) ?_|with_reducible refine And.intro (by first|omega|decide) ?_))
   rw [aj (by omega)]
   refine ⟨by omega,by omega,?_⟩
   rw [show (((l.length:Int) - 1).toNat*1)=l.length - 1 by omega]
   (try simp only [au,ah,ak,Nat.zero_add,Nat.add_zero,Nat.reduceAdd,Bool.not_true,Bool.not_false,aD,aC,Option.isNone])
   refine Ld.g (x:=(l.getLastD 0:Int)) h ?_ ?_
   ·rw [List.getElem?_map,xn hn hl];rfl
   have hlast:l.getLastD 0≤15:=by
    cases l with
    |nil=>exact absurd rfl hn
    |cons a l=>rw [List.getLastD_cons,←List.getLast_eq_getLastD (h:=List.cons_ne_nil _ _)];exact h4 _ (List.getLast_mem _)
   (repeat (first|with_reducible refine Nw.mk h (fun b w h=> ?_)|with_reducible refine ag.mk h (fun w h=> ?_)|with_reducible refine Ld.q h hL rfl rfl ?_|with_reducible refine ab.q (fun _ h=>h) hL rfl rfl ?_|with_reducible refine Ld.p h hL ?_|with_reducible refine ab.p (fun _ h=>h) hL ?_|with_reducible refine Ld.qw h hL rfl ?_|with_reducible refine ab.qw (fun _ h=>h) hL rfl ?_|with_reducible refine And.intro h.hb ?_|(with_reducible refine St.q h hL rfl rfl rfl (fun w h=> ?_);dsimp only [af,ad] at h)|with_reducible refine aa.dk ?_|with_reducible refine aa.dM ?_|with_reducible refine aa.t rfl ?_|with_reducible refine aa.f rfl ?_|with_reducible refine aa.dt (by omega) ?_|with_reducible refine aa.df (by omega) ?_|with_reducible refine aa.eF (by omega) ?_|with_reducible refine aa.eC (by omega) ?_|with_reducible refine aa.et (by omega) ?_|with_reducible refine aa.ef (by omega) ?_|with_reducible refine aa.nt (by omega) ?_|with_reducible refine aa.nf (by omega) ?_|with_reducible refine And.intro (by first|omega|decide) ?_))
   rw [aj (by omega)]
   refine xE (by omega) ?_
   exact hK _ h.tl
end
end Go.Proofs.YtgglghjnakclmaaGreat
namespace Go.Proofs.YtgglghjnakclmaaGreat
open Go Go.Vc Go.Srt Go.Inc Go.Tab
section
variable {E w:World} {F:List HP}
set_option maxRecDepth 20000
theorem zE {t:TS} {x:Nat} {K:Array Value→Bool→Int→World→Prop} (h:Hp E w F) (ht:cU t) (hx:x≤1)
  (hmore: ∀t' w',bB bz t x= .more t'→Hp E w' F→K (bX (pad t'.l) (t'.l.length:Int) (t'.bits:Int) (t'.now:Int) (t'.way:Int)) false 0 w')
  (hfin: ∀l n w',bB bz t x= .fin l→Hp E w' F→K (bX l 258 4 n 0) true 0 w')
  (hbad: ∀o w',bB bz t x= .bad 100→o.size=262→o.toList.all ay=true→Hp E w' F→K o false 100 w'):
  Cl Tryz.prog [.arr 262,kB,kI] eM ⟨[.agg (bX (pad t.l) (t.l.length:Int) (t.bits:Int) (t.now:Int) (t.way:Int)),.int .i64 (x:Int)]⟩ w K:=by
 have hl:t.l.length<258:=by
  rcases ht with ⟨_,h,_⟩|⟨_,h,_⟩
  ·rw [h];simp
  ·omega
 have hL:=cz (aP (Nat.le_of_lt hl))
 have hz:((⟨List.replicate 258 (.int .u8 0)++ [.int .i64 0,.int .i64 0,.int .i64 0,.int .i64 0]⟩:Array Value)).size=262:=by simp
 refine nF.ok _ _ _ _ ?_
 (try simp only [au,ah,ak,Nat.zero_add,Nat.add_zero,Nat.reduceAdd,Bool.not_true,Bool.not_false,aD,aC,Option.isNone])
 refine Nw.mk h fun b4 w h=>Nw.mk h fun b6 w h=> ?_
 (with_reducible repeat first|refine Nw.mk h fun b w h=> ?_|refine ag.mk h fun w h=> ?_|refine Ld.q h hL rfl rfl ?_|refine ab.q (fun _ h=>h) hL rfl rfl ?_|refine Ld.p h hL ?_|refine ab.p (fun _ h=>h) hL ?_|refine Ld.qw h hL rfl ?_|refine ab.qw (fun _ h=>h) hL rfl ?_|refine ⟨h.hb,?_⟩|(refine St.q h hL rfl rfl rfl fun w h=> ?_;dsimp only [af,ad] at h)|refine aa.yes ?_|refine aa.no ?_|refine ⟨by first|omega|decide,?_⟩)
 refine xP h ht fun w h=> ?_
 (with_reducible repeat first|refine Nw.mk h fun b w h=> ?_|refine ag.mk h fun w h=> ?_|refine Ld.q h hL rfl rfl ?_|refine ab.q (fun _ h=>h) hL rfl rfl ?_|refine Ld.p h hL ?_|refine ab.p (fun _ h=>h) hL ?_|refine Ld.qw h hL rfl ?_|refine ab.qw (fun _ h=>h) hL rfl ?_|refine ⟨h.hb,?_⟩|(refine St.q h hL rfl rfl rfl fun w h=> ?_;dsimp only [af,ad] at h)|refine aa.yes ?_|refine aa.no ?_|refine ⟨by first|omega|decide,?_⟩)
 have e1:cl .i64 (x:Int) 1=0:=by
  have:x=0∨x=1:=by omega
  rcases this with rfl|rfl<;>rfl
 rw [e1]
 (with_reducible repeat first|refine Nw.mk h fun b w h=> ?_|refine ag.mk h fun w h=> ?_|refine Ld.q h hL rfl rfl ?_|refine ab.q (fun _ h=>h) hL rfl rfl ?_|refine Ld.p h hL ?_|refine ab.p (fun _ h=>h) hL ?_|refine Ld.qw h hL rfl ?_|refine ab.qw (fun _ h=>h) hL rfl ?_|refine ⟨h.hb,?_⟩|(refine St.q h hL rfl rfl rfl fun w h=> ?_;dsimp only [af,ad] at h)|refine aa.yes ?_|refine aa.no ?_|refine ⟨by first|omega|decide,?_⟩)
 refine zn h ht hx ⟨fun t' w he h=> ?_,fun l n w he h=> ?_,fun o w he ho hos h=> ?_⟩
 ·have ht':=gO ht hx he
  have hl':t'.l.length<258:=by
   rcases ht' with ⟨_,h,_⟩|⟨_,h,_⟩
   ·rw [h];simp
   ·omega
  have hL:=cz (aP (Nat.le_of_lt hl'))
  refine an.q h (aF (aP (Nat.le_of_lt hl))) (aF (aP (Nat.le_of_lt hl'))) ax fun w h=> ?_
  (with_reducible repeat first|refine Nw.mk h fun b w h=> ?_|refine ag.mk h fun w h=> ?_|refine Ld.q h hL rfl rfl ?_|refine ab.q (fun _ h=>h) hL rfl rfl ?_|refine Ld.p h hL ?_|refine ab.p (fun _ h=>h) hL ?_|refine Ld.qw h hL rfl ?_|refine ab.qw (fun _ h=>h) hL rfl ?_|refine ⟨h.hb,?_⟩|(refine St.q h hL rfl rfl rfl fun w h=> ?_;dsimp only [af,ad] at h)|refine aa.yes ?_|refine aa.no ?_|refine ⟨by first|omega|decide,?_⟩)
  have h:=h.drew (n:=w.drawn+1)
  refine ⟨bq b4 _ _ _,h.hb,?_⟩
  dsimp only
  (with_reducible repeat first|refine Nw.mk h fun b w h=> ?_|refine ag.mk h fun w h=> ?_|refine Ld.q h hL rfl rfl ?_|refine ab.q (fun _ h=>h) hL rfl rfl ?_|refine Ld.p h hL ?_|refine ab.p (fun _ h=>h) hL ?_|refine Ld.qw h hL rfl ?_|refine ab.qw (fun _ h=>h) hL rfl ?_|refine ⟨h.hb,?_⟩|(refine St.q h hL rfl rfl rfl fun w h=> ?_;dsimp only [af,ad] at h)|refine aa.yes ?_|refine aa.no ?_|refine ⟨by first|omega|decide,?_⟩)
  refine an.q h hz (aF (aP (Nat.le_of_lt hl'))) ax fun w h=>⟨h.hb,?_⟩
  (with_reducible repeat first|refine Nw.mk h fun b w h=> ?_|refine ag.mk h fun w h=> ?_|refine Ld.q h hL rfl rfl ?_|refine ab.q (fun _ h=>h) hL rfl rfl ?_|refine Ld.p h hL ?_|refine ab.p (fun _ h=>h) hL ?_|refine Ld.qw h hL rfl ?_|refine ab.qw (fun _ h=>h) hL rfl ?_|refine ⟨h.hb,?_⟩|(refine St.q h hL rfl rfl rfl fun w h=> ?_;dsimp only [af,ad] at h)|refine aa.yes ?_|refine aa.no ?_|refine ⟨by first|omega|decide,?_⟩)
  have e6:((t'.l.length:Int)==258)=false:=beq_eq_false_iff_ne.2 (by omega)
  have h6:=hmore t' _ he h.tl
  rw [←e6] at h6
  exact h6
 ·have hf:=(ct ht he).1
  have hL:=cz hf
  refine an.q h (aF (aP (Nat.le_of_lt hl))) (aF hf) ax fun w h=> ?_
  (with_reducible repeat first|refine Nw.mk h fun b w h=> ?_|refine ag.mk h fun w h=> ?_|refine Ld.q h hL rfl rfl ?_|refine ab.q (fun _ h=>h) hL rfl rfl ?_|refine Ld.p h hL ?_|refine ab.p (fun _ h=>h) hL ?_|refine Ld.qw h hL rfl ?_|refine ab.qw (fun _ h=>h) hL rfl ?_|refine ⟨h.hb,?_⟩|(refine St.q h hL rfl rfl rfl fun w h=> ?_;dsimp only [af,ad] at h)|refine aa.yes ?_|refine aa.no ?_|refine ⟨by first|omega|decide,?_⟩)
  have h:=h.drew (n:=w.drawn+1)
  refine ⟨bq b4 _ _ _,h.hb,?_⟩
  dsimp only
  (with_reducible repeat first|refine Nw.mk h fun b w h=> ?_|refine ag.mk h fun w h=> ?_|refine Ld.q h hL rfl rfl ?_|refine ab.q (fun _ h=>h) hL rfl rfl ?_|refine Ld.p h hL ?_|refine ab.p (fun _ h=>h) hL ?_|refine Ld.qw h hL rfl ?_|refine ab.qw (fun _ h=>h) hL rfl ?_|refine ⟨h.hb,?_⟩|(refine St.q h hL rfl rfl rfl fun w h=> ?_;dsimp only [af,ad] at h)|refine aa.yes ?_|refine aa.no ?_|refine ⟨by first|omega|decide,?_⟩)
  refine an.q h hz (aF hf) ax fun w h=>⟨h.hb,?_⟩
  (with_reducible repeat first|refine Nw.mk h fun b w h=> ?_|refine ag.mk h fun w h=> ?_|refine Ld.q h hL rfl rfl ?_|refine ab.q (fun _ h=>h) hL rfl rfl ?_|refine Ld.p h hL ?_|refine ab.p (fun _ h=>h) hL ?_|refine Ld.qw h hL rfl ?_|refine ab.qw (fun _ h=>h) hL rfl ?_|refine ⟨h.hb,?_⟩|(refine St.q h hL rfl rfl rfl fun w h=> ?_;dsimp only [af,ad] at h)|refine aa.yes ?_|refine aa.no ?_|refine ⟨by first|omega|decide,?_⟩)
  exact hfin l n _ he h.tl
 ·refine an.q h (aF (aP (Nat.le_of_lt hl))) ho hos fun w h=> ?_
  (with_reducible repeat first|refine Nw.mk h fun b w h=> ?_|refine ag.mk h fun w h=> ?_|refine Ld.q h hL rfl rfl ?_|refine ab.q (fun _ h=>h) hL rfl rfl ?_|refine Ld.p h hL ?_|refine ab.p (fun _ h=>h) hL ?_|refine Ld.qw h hL rfl ?_|refine ab.qw (fun _ h=>h) hL rfl ?_|refine ⟨h.hb,?_⟩|(refine St.q h hL rfl rfl rfl fun w h=> ?_;dsimp only [af,ad] at h)|refine aa.yes ?_|refine aa.no ?_|refine ⟨by first|omega|decide,?_⟩)
  refine Ld.xw h hz ?_
  refine an.q h hz hz (by decide) fun w h=> ?_
  refine Ld.xw h hz ?_
  exact hbad _ _ he hz (by decide) h.tl
end
end Go.Proofs.YtgglghjnakclmaaGreat
namespace Go.Proofs.YtgglghjnakclmaaGreat
open Go Go.Vc
set_option maxRecDepth 100000
theorem uy.ok (a:Int) (R:(Array Value)→World→Prop) w (h:
 Nw 112 ⟨List.replicate 256 (.int .u8 0)++ [(ni 0),(ni 0),(ni 0),(.bool false)]⟩ w fun c b=>
 aa (decide (a<1))
 (Ld (.arr 260) ⟨c,0,none⟩ b fun d=>
 an 260 ⟨c,0,none⟩ d b fun e=>
 Ld (.arr 260) ⟨c,0,none⟩ e fun f=>
 R f e)
 (aa (decide (a>65536))
 (Ld (.arr 260) ⟨c,0,none⟩ b fun g=>
 an 260 ⟨c,0,none⟩ g b fun h=>
 Ld (.arr 260) ⟨c,0,none⟩ h fun i=>
 R i h)
 (Cl Pg [(.arr 256)] lN ⟨[]⟩ b fun k j=>
 bx Pg 112 [(0,(.agg k)),(1,(ni a))] fun l=>
 an 260 ⟨c,0,none⟩ l j fun m=>
 Ld (.arr 260) ⟨c,0,none⟩ m fun n=>
 R n m))):Cl Pg [(.arr 260)] jm ⟨[(ni a)]⟩ w R:=co Tryz.f119 [] h
theorem sZ.ok (a:(Array Value)) (b:Int) (R:(Array Value)→Sl→Bool→Int→World→Prop) w (h:
 Nw 112 a w fun d c=>
 Nw 112 ⟨List.replicate 256 (.int .u8 0)++ [(ni 0),(ni 0),(ni 0),(.bool false)]⟩ c fun f e=>
 bf (fun (y:World)=>
 Ld (.arr 260) ⟨d,0,none⟩ y fun z=>
 Cl Pg [(.arr 260),kS,kB] ig ⟨[(.agg z),(ni b)]⟩ y fun b1 (c1:Sl) (d1:Bool) a1=>
 an 260 ⟨f,0,none⟩ b1 a1 fun e1=>
 aa (!d1)
 (Ld (.arr 260) ⟨d,0,none⟩ e1 fun f1=>
 an 260 ⟨f,0,none⟩ f1 e1 fun g1=>
 Ld (.arr 260) ⟨f,0,none⟩ g1 fun h1=>
 R h1 (⟨none,0,0⟩:Sl) false 160 g1)
 (Ld (.arr 260) ⟨f,0,none⟩ e1 fun i1=>
 Ld kB (Addr.add ⟨f,0,none⟩ 259) e1 fun (j1:Bool)=>
 an 260 ⟨f,0,none⟩ i1 e1 fun k1=>
 Ld (.arr 260) ⟨f,0,none⟩ k1 fun l1=>
 R l1 c1 j1 0 k1)) fun g=>
 Ld (.arr 260) ⟨d,0,none⟩ e fun h=>
 Cl Pg [kB] gR ⟨[(.agg h)]⟩ e fun (j:Bool) i=>
 aa (!j)
 (Ld (.arr 260) ⟨d,0,none⟩ i fun k=>
 an 260 ⟨f,0,none⟩ k i fun l=>
 Ld (.arr 260) ⟨f,0,none⟩ l fun m=>
 R m (⟨none,0,0⟩:Sl) false 2 l)
 (Ld kB (Addr.add ⟨d,0,none⟩ 259) i fun (n:Bool)=>
 aa n
 (Ld (.arr 260) ⟨d,0,none⟩ i fun o=>
 an 260 ⟨f,0,none⟩ o i fun p=>
 Ld (.arr 260) ⟨f,0,none⟩ p fun q=>
 R q (⟨none,0,0⟩:Sl) false 2 p)
 (aa (decide (b<0))
 (Ld (.arr 260) ⟨d,0,none⟩ i fun r=>
 an 260 ⟨f,0,none⟩ r i fun s=>
 Ld (.arr 260) ⟨f,0,none⟩ s fun t=>
 R t (⟨none,0,0⟩:Sl) false 2 s)
 (aa (decide (b>257))
 (Ld (.arr 260) ⟨d,0,none⟩ i fun u=>
 an 260 ⟨f,0,none⟩ u i fun v=>
 Ld (.arr 260) ⟨f,0,none⟩ v fun x=>
 R x (⟨none,0,0⟩:Sl) false 2 v)
 (g i))))):Cl Pg [(.arr 260),kS,kB,kI] ij ⟨[(.agg a),(ni b)]⟩ w R:=co Tryz.f121 [(2,[])] h
theorem rQ.ok (a:(Array Value)) (R:Bool→World→Prop) w (h:
 Nw 112 a w fun c b=>
 bf (fun (o:World)=>
 Ld kI (Addr.add ⟨c,0,none⟩ 258) o fun (p:Int)=>
 0≤p∧
 Ld kI (Addr.add ⟨c,0,none⟩ 257) o fun (q:Int)=>
 aa (decide (q<(i64 ((bg .i64 (1:Int) p) - 1))))
 (R false o)
 (Ld kI (Addr.add ⟨c,0,none⟩ 257) o fun (r:Int)=>
 aa (decide (r>(i64 ((2:Int)*(i64 ((bg .i64 (1:Int) p) - 1))))))
 (R false o)
 (Ld kB (Addr.add ⟨c,0,none⟩ 259) o fun (s:Bool)=>
 aa (!s)
 (R true o)
 (Ld (.arr 260) ⟨c,0,none⟩ o fun t=>
 Ld (.arr 256) (Addr.add ⟨c,0,none⟩ 0) o fun u=>
 bx Pg 112 [(0,(.agg u)),(4,(.bool true))] fun v=>
 nU Pg 112 t v fun x=>
 R x o)))) fun d=>
 Ld (.arr 256) (Addr.add ⟨c,0,none⟩ 0) b fun e=>
 Cl Pg [kB] jK ⟨[(.agg e)]⟩ b fun (g:Bool) f=>
 aa (!g)
 (R false f)
 (Ld kI (Addr.add ⟨c,0,none⟩ 256) f fun (h:Int)=>
 aa (decide (h<0))
 (R false f)
 (Ld kI (Addr.add ⟨c,0,none⟩ 256) f fun (i:Int)=>
 aa (decide (i>65536))
 (R false f)
 (Ld kI (Addr.add ⟨c,0,none⟩ 257) f fun (j:Int)=>
 aa (decide (j<0))
 (R false f)
 (Ld kI (Addr.add ⟨c,0,none⟩ 257) f fun (k:Int)=>
 Ld kI (Addr.add ⟨c,0,none⟩ 256) f fun (l:Int)=>
 aa (decide (k>l))
 (R false f)
 (Ld kI (Addr.add ⟨c,0,none⟩ 258) f fun (m:Int)=>
 aa (decide (m<0))
 (R false f)
 (Ld kI (Addr.add ⟨c,0,none⟩ 258) f fun (n:Int)=>
 aa (decide (n>16))
 (R false f)
 (d f)))))))):Cl Pg [kB] gR ⟨[(.agg a)]⟩ w R:=co Tryz.f178 [(2,[])] h
theorem tn.ok (a:(Array Value)) (b:Int) (R:(Array Value)→Sl→Bool→World→Prop) w (h:
 Nw 112 a w fun d c=>
 Nw 112 ⟨List.replicate 256 (.int .u8 0)++ [(ni 0),(ni 0),(ni 0),(.bool false)]⟩ c fun f e=>
 bf (fun (h:Bool) (i:World)=>
 aa h
 (Ld kI (Addr.add ⟨d,0,none⟩ 257) i fun (j:Int)=>
 Ld kI (Addr.add ⟨d,0,none⟩ 258) i fun (k:Int)=>
 Cl Pg [kI,kI] fC ⟨[(ni j),(ni k),(ni b)]⟩ i fun (m:Int) (n:Int) l=>
 St (Addr.add ⟨d,0,none⟩ 257) (ni m) l fun o=>
 Ld kI (Addr.add ⟨d,0,none⟩ 258) o fun (p:Int)=>
 St (Addr.add ⟨d,0,none⟩ 258) (ni (i64 (p+1))) o fun q=>
 cJ q fun r s=>
 ab (.arr 260) ⟨d,0,none⟩ r fun t=>
 ab kI (Addr.add ⟨d,0,none⟩ 257) r fun (u:Int)=>
 ab kI (Addr.add ⟨d,0,none⟩ 256) r fun (v:Int)=>
 an 260 ⟨f,0,none⟩ t s fun x=>
 r x∧
 Ld (.arr 260) ⟨f,0,none⟩ x fun y=>
 R y (⟨none,0,0⟩:Sl) (decide (u≤v)) x)
 (aa (b==257)
 (cJ i fun z a1=>
 ab (.arr 256) (Addr.add ⟨d,0,none⟩ 0) z fun b1=>
 bx Pg 112 [(0,(.agg b1)),(4,(.bool true))] fun c1=>
 ab (.arr 260) ⟨d,0,none⟩ z fun d1=>
 ab kI (Addr.add ⟨d,0,none⟩ 257) z fun (e1:Int)=>
 ab kI (Addr.add ⟨d,0,none⟩ 256) z fun (f1:Int)=>
 Cl Pg [kS] gy ⟨[(.agg d1)]⟩ a1 fun (h1:Sl) g1=>
 z g1∧
 an 260 ⟨f,0,none⟩ c1 g1 fun i1=>
 z i1∧
 Ld (.arr 260) ⟨f,0,none⟩ i1 fun j1=>
 R j1 h1 (e1==f1) i1)
 (Ld kI (Addr.add ⟨d,0,none⟩ 257) i fun (k1:Int)=>
 Ld kI (Addr.add ⟨d,0,none⟩ 256) i fun (l1:Int)=>
 aa (k1==l1)
 (Ld (.arr 260) ⟨d,0,none⟩ i fun m1=>
 an 260 ⟨f,0,none⟩ m1 i fun n1=>
 Ld (.arr 260) ⟨f,0,none⟩ n1 fun o1=>
 R o1 (⟨none,0,0⟩:Sl) false n1)
 (Ld (.arr 256) (Addr.add ⟨d,0,none⟩ 0) i fun p1=>
 Cl Pg [(.arr 256),(aJ .u8),kB] kD ⟨[(.agg p1),(ni (i64 (b - 1)))]⟩ i fun r1 (s1:Int) (t1:Bool) q1=>
 Nw 110 ⟨List.replicate 256 (.int .u8 0)⟩ q1 fun v1 u1=>
 an 256 ⟨v1,0,none⟩ r1 u1 fun x1=>
 Ld (.arr 260) ⟨d,0,none⟩ x1 fun y1=>
 Cl Pg [kS] gy ⟨[(.agg y1)]⟩ x1 fun (a2:Sl) z1=>
 Nw 5 ⟨[(.int .u8 s1)]⟩ z1 fun c2 b2=>
 aA Pg (Builtin.append_ #[26,26] 26 ⟨[(av a2),(av (⟨some ⟨c2,0,none⟩,1,1⟩:Sl))]⟩) kS b2 fun (e2:Sl) d2=>
 Ld (.arr 256) ⟨v1,0,none⟩ d2 fun f2=>
 Ld kI (Addr.add ⟨d,0,none⟩ 256) d2 fun (g2:Int)=>
 bx Pg 112 [(0,(.agg f2)),(1,(ni (i64 (g2 - (e2.len:Int)))))] fun h2=>
 an 260 ⟨f,0,none⟩ h2 d2 fun i2=>
 Ld (.arr 260) ⟨f,0,none⟩ i2 fun j2=>
 R j2 e2 true i2)))) fun g=>
 aa (b==0)
 (g true e)
 (g (b==1) e)):Cl Pg [(.arr 260),kS,kB] ig ⟨[(.agg a),(ni b)]⟩ w R:=co Tryz.f179 [(3,[(10,kB)])] h
theorem uH.ok (a:(Array Value)) (R:Sl→World→Prop) w (h:
 Nw 112 a w fun c b=>
 ag b fun d=>
 cc (⟨some (Addr.add ⟨c,0,none⟩ 0),256,256⟩:Sl) 0 1 256 1 fun e=>
 Ld kI (Addr.add ⟨c,0,none⟩ 257) d fun (f:Int)=>
 Cl Pg [kS] gK ⟨[(av e),(ni f)]⟩ d fun (h:Sl) g=>
 R h g):Cl Pg [kS] gy ⟨[(.agg a)]⟩ w R:=co Tryz.f239 [] h
end Go.Proofs.YtgglghjnakclmaaGreat
namespace Go.Proofs.YtgglghjnakclmaaGreat
open Go Go.Vc
set_option maxRecDepth 100000
theorem pV.ok (a:Int) (b:Int) (R:Int→Int→World→Prop) w (h:
 Cl Pg [(aJ .u64),(aJ .u64)] iC ⟨[(.int .u64 a),(.int .u64 b)]⟩ w fun (d:Int) (e:Int) c=>
 R d e c):Cl Pg [(aJ .u64),(aJ .u64)] gp ⟨[(.int .u64 a),(.int .u64 b)]⟩ w R:=co Tryz.f321 [] h
theorem oq.ok (a:Int) (b:Int) (R:Int→Int→World→Prop) w (h:
 0≤(32:Int)∧
 0≤(32:Int)∧
 0≤(32:Int)∧
 0≤(32:Int)∧
 0≤(32:Int)∧
 R (u64 ((u64 ((u64 ((cl .u64 a (32:Int))*(cl .u64 b (32:Int))))+(cl .u64 (u64 ((u64 ((cl .u64 a (32:Int))*(cQ .u64 b 4294967295)))+(cl .u64 (u64 ((cQ .u64 a 4294967295)*(cQ .u64 b 4294967295))) (32:Int)))) (32:Int))))+(cl .u64 (u64 ((cQ .u64 (u64 ((u64 ((cl .u64 a (32:Int))*(cQ .u64 b 4294967295)))+(cl .u64 (u64 ((cQ .u64 a 4294967295)*(cQ .u64 b 4294967295))) (32:Int)))) 4294967295)+(u64 ((cQ .u64 a 4294967295)*(cl .u64 b (32:Int)))))) (32:Int)))) (u64 (a*b)) w):Cl Pg [(aJ .u64),(aJ .u64)] iC ⟨[(.int .u64 a),(.int .u64 b)]⟩ w R:=co Tryz.f331 [] h
end Go.Proofs.YtgglghjnakclmaaGreat
set_option maxRecDepth 20000
namespace Go.Vc
open Go
section
variable {P:Program} {E w:World} {l:List HP} {b o:Nat} {c:Array Value} {t:TypeId} {fr:Nat×Nat} {put:Obj→List HP}
theorem Hp.zz {F:List HP} {cs:Array Value} {fr:Nat×Nat} (h:Hp E w (aq b (.cells c t fr)::F)):Hp E (w.setRow b cs) (aq b (.cells cs t fr)::F):=by
 have hb:=h.aN
 refine h.setObj (o':= .cells cs t fr) ?_ rfl rfl rfl
 apply Array.ext_getElem?
 intro r
 have hlt:b<w.heap.size:=by
  rcases Nat.lt_or_ge b w.heap.size with hh|hh
  ·exact hh
  ·simp [Array.getElem?_eq_none hh] at hb
 simp only [World.setRow,Array.getElem?_modify,Array.set!_eq_setIfInBounds,Array.getElem?_setIfInBounds]
 by_cases hr:b=r
 ·subst hr
  have hv:w.heap[b]= .cells c t fr:=by simpa [hlt] using hb
  simp [hlt,hv]
 ·simp [hr]
theorem lE {dT sT ty e:TypeId} {dLen dCap:Nat} {s:Sl} {ys:List Value} {K:Int→World→Prop} [hf:bl b l c t (0,0) put] (hu:P.underlying dT=some (.slice e)) (hs:(P.info? e).map (·.size)=some 1)
  (h:Hp E w l) (hsrc:aR 1 s ys w) (hsc: ∀v∈ys,ay v=true) (hfit:o+dLen≤c.size)
  (hK: ∀w',Hp E w' (put (.cells ⟨c.toList.take o++(ys.take dLen++c.toList.drop (o+min ys.length dLen))⟩ t (0,0)))→K ((min ys.length dLen:Nat):Int) w'):
  aA P (Builtin.copy_ #[dT,sT] ty ⟨[.slice (some ⟨b,o,none⟩) dLen dCap,.slice s.base s.len s.cap]⟩) kI w K:=by
 have hl:=hsrc.1
 rw [Nat.mul_one] at hl
 obtain ⟨r,h1,h2⟩:=hf.perm
 have hh:=h.perm h1
 unfold aA
 by_cases h0:min ys.length dLen=0
 ·rw [show (⟨[.slice (some ⟨b,o,none⟩) dLen dCap,.slice s.base s.len s.cap]⟩:Array Value)= #[.slice (some ⟨b,o,none⟩) dLen dCap,.slice s.base s.len s.cap] from rfl,run_copy_none (P:=P) w dT sT ty e _ _ _ _ _ _ hu hs (by rw [←hl];exact h0)]
  have hk:=hK w
  rw [h0] at hk
  have e1:ys.take dLen= []:=by
   rcases Nat.eq_zero_or_pos dLen with hd|hd
   ·rw [hd];rfl
   ·have:ys= []:=List.length_eq_zero_iff.1 (by omega)
    rw [this];simp
  rw [e1,List.nil_append,Nat.add_zero,List.take_append_drop] at hk
  exact hk (hh.perm (by have:=h2 (.cells c t (0,0));simpa using this))
 ·have hpos:0<ys.length:=by omega
  obtain ⟨p,hp,_⟩:=hsrc.2 0 hpos
  rw [hp]
  have hmin:(ys.take dLen).length=Nat.min s.len dLen:=by
   rw [List.length_take,←hl,Nat.min_comm]
  have:=run_copy_row (P:=P) w dT sT ty e b o dLen dCap p s.len s.cap c t (ys.take dLen) hu hs hh.aN hmin (fun j v hv=> ?_) (by
   rw [List.length_take];omega) (fun v hv=>iE (hsc v (List.mem_of_mem_take hv)))
  ·rw [show (⟨[.slice (some ⟨b,o,none⟩) dLen dCap,.slice (some p) s.len s.cap]⟩:Array Value)= #[.slice (some ⟨b,o,none⟩) dLen dCap,.slice (some p) s.len s.cap] from rfl,this]
   have hlen:(ys.take dLen).length=min ys.length dLen:=by rw [List.length_take,Nat.min_comm]
   rw [hlen,List.append_assoc]
   exact hK _ ((hh.zz).perm (h2 _))
  ·have hj:j<(ys.take dLen).length:=by
    rcases Nat.lt_or_ge j (ys.take dLen).length with h|h
    ·exact h
    ·rw [List.getElem?_eq_none h] at hv;cases hv
   rw [List.length_take] at hj
   obtain ⟨p',hp',hc⟩:=hsrc.2 j (by omega)
   rw [hp] at hp'
   cases hp'
   rw [hc]
   rw [List.getElem?_take_of_lt (by omega),List.getElem?_eq_getElem (by omega)] at hv
   exact hv
end
end Go.Vc
namespace Go.Vc
open Go
section
variable {E w:World} {l:List HP} {b:Nat} {c:Array Value} {t:TypeId} {fr:Nat×Nat} {put:Obj→List HP}
theorem Hp.DI {n m:Nat} {xs:List Value} [bl b l c t fr put] (h:Hp E w l) (hl:xs.length=n) (hx: ∀i (hi:i<xs.length),c[i]? =some xs[i]):aR 1 ⟨some ⟨b,0,none⟩,n,m⟩ xs w:=
 ⟨by simpa using hl,fun i hi=>⟨_,rfl,by rw [ak,h.fc,Nat.zero_add];exact hx i hi⟩⟩
end
end Go.Vc
namespace Go.Proofs.YtgglghjnakclmaaGreat
open Go Go.Vc
section
variable {E w:World} {F:List HP}
theorem A0 {n:Nat} {K:Int→Int→World→Prop} (hn:n≤4294967295) (hK:K 0 (n:Int) w):Cl Tryz.prog [aJ .u64,aJ .u64] gp ⟨[.int .u64 1,.int .u64 (n:Int)]⟩ w K:=by
 refine pV.ok _ _ _ _ ?_
 refine oq.ok _ _ _ _ ?_
 refine ⟨by decide,by decide,by decide,by decide,by decide,?_⟩
 have hmx:IntKind.max .u64=18446744073709551615:=rfl
 have e1:cl .u64 1 32=0:=by decide
 have e2:cl .u64 (n:Int) 32=0:=by
  have:=eL (k:= .u64) (a:=n) (b:=32) (by decide)
  rw [Nat.div_eq_of_lt (by omega)] at this
  simpa using this
 have e3:cQ .u64 1 4294967295=1:=by decide
 have e4:cQ .u64 (n:Int) 4294967295=(n:Int):=by
  have:=kH (k:= .u64) (a:=n) (b:=4294967295) (by rw [hmx];omega) (by rw [hmx];omega)
  rw [show n&&&4294967295=n % 2^32 from Nat.and_two_pow_sub_one_eq_mod n 32,Nat.mod_eq_of_lt (by omega)] at this
  simpa using this
 have e5:u64 (n:Int)=(n:Int):=eW (by omega)
 have e6:u64 0=0:=by decide
 have e7:cl .u64 0 32=0:=by decide
 have e8:cQ .u64 0 4294967295=0:=by decide
 simp only [e1,e2,e3,e4,Int.zero_mul,Int.one_mul,Int.mul_zero,e5,e6,Int.add_zero,e7,e8]
 exact hK
set_option maxRecDepth 20000
theorem oe:Tryz.prog.underlying 26=some (.slice 5):=by kernel_rfl
theorem CI:(Tryz.prog.info? 5).map (·.size)=some 1:=by kernel_rfl
theorem xO {n:Nat} {K:Sl→World→Prop} (h:Hp E w F) (hn:n≤65536) (hK: ∀b cs w',n≤cs.size→Hp E w' (aq b (.cells cs 5 (0,0))::F)→K ⟨some ⟨b,0,none⟩,n,cs.size⟩ w'):
  Ext Tryz.prog bN ⟨[.int .i64 (n:Int)]⟩ [kS] w K:=by
 obtain ⟨cs,hrun,hcs,_⟩:=Go.Lib.run_makeNoZero (P:=Tryz.prog) w #[3] 26 5 oe n (by omega)
 have hx:(callFunc bN #[.int .i64 (n:Int)]).run Tryz.prog w= .ok (.value (.slice (some ⟨w.heap.size,0,none⟩) n cs.size)) (w.drew.drew.alloc (.cells cs 5)):=by
  rw [run_callFunc_extern Tryz.func322 (by kernel_rfl) (by kernel_rfl) (by kernel_rfl) (e:=Extern.BytealgMakeNoZero.makeNoZero #[3] #[26]) (by kernel_rfl),hrun];rfl
 unfold Ext
 rw [show (⟨[.int .i64 (n:Int)]⟩:Array Value)= #[.int .i64 (n:Int)] from rfl,hx]
 have h2:Hp E w.drew.drew F:=h.same rfl rfl rfl rfl
 exact hK _ _ _ hcs (h2.alloc _)
set_option maxRecDepth 20000
theorem xU {s:Sl} {c n:Nat} {K:Sl→World→Prop} (h:Hp E w F) (hs:ao F (aR 1 s [.int .u8 (c:Int)])) (hn:n≤65536) (hK: ∀s' w',Hp E w' (aT 1 s' ((List.replicate n c).map vB)::F)→K s' w'):
  Cl Tryz.prog [kS] gK ⟨[.slice s.base s.len s.cap,.int .i64 (n:Int)]⟩ w K:=by
 refine rA.ok _ _ _ _ ?_
 have hl1:s.len=1:=by have:=(h.aB hs).1;simpa using this.symm
 obtain ⟨sb,sl,sc⟩:=s
 dsimp only at hl1⊢
 subst hl1
 (try simp only [au,ah,ak,Nat.zero_add,Nat.add_zero,Nat.reduceAdd,Bool.not_true,Bool.not_false,aD,aC,Option.isNone])
 by_cases h0:n=0
 ·subst h0
  refine aa.et (by omega) ?_
  refine Nw.mk h fun b w h=> ?_
  exact hK _ _ (h.nY (n:=0) (sz:=1) rfl)
 refine aa.ef (by omega) (aa.df (by omega) ?_)
 rw [eW (x:=((1:Nat):Int)) (by omega),eW (x:=(n:Int)) (by omega)]
 refine A0 (by omega) ?_
 refine aa.df (by omega) (aa.df (by omega) ?_)
 refine aa.ef (by omega) ?_
 rw [aj (x:=(n:Int)) (by omega)]
 have main: ∀mx:Int,1≤mx→Ext Tryz.prog bN ⟨[.int .i64 (n:Int)]⟩ [kS] w fun r21 w_20=>
   cc r21 0 (n:Int) (n:Int) 1 fun s22=>
   aA Tryz.prog (Builtin.copy_ #[26,26] 3 ⟨[(.slice s22.base s22.len s22.cap),(.slice sb (1:Nat) sc)]⟩) kI w_20 fun (n24:Int) w_23=>
   ∃(I_25:Int→World→Prop) (m_26:Int→World→Nat),I_25 (n24) w_23∧
   ∀(bp27:Int),∀(w_28:World),I_25 bp27 w_28→
   aa (decide (bp27<(n:Int)))
   (ag w_28 fun w_29=>
   cc s22 bp27 (s22).len (s22).cap 1 fun s30=>
   cc s22 0 (if mx<bp27 then mx else bp27) (s22).cap 1 fun s31=>
   aA Tryz.prog (Builtin.copy_ #[26,26] 3 ⟨[(.slice s30.base s30.len s30.cap),(.slice s31.base s31.len s31.cap)]⟩) kI w_29 fun (n33:Int) w_32=>
   I_25 ((i64 (bp27+n33))) w_32∧m_26 ((i64 (bp27+n33))) w_32<m_26 bp27 w_28)
   (K (s22) w_28):=by
  intro mx hmx
  refine xO h hn fun b cs w hcs h=> ?_
  refine ⟨by omega,by omega,by omega,by simp only;omega,?_⟩
  simp only [Int.toNat_natCast,Int.toNat_zero,Nat.sub_zero,if_neg h0,Option.map_some,Nat.zero_mul,ak,Nat.zero_add]
  have hs1:=h.aB hs.cons
  refine lE (s:=⟨sb,1,sc⟩) (ys:= [.int .u8 (c:Int)]) oe CI h hs1 (by simp [ay]) (by omega) fun w h=> ?_
  have e0:(⟨cs.toList.take 0++(([.int .u8 (c:Int)]:List Value).take n++cs.toList.drop (0+min ([.int .u8 (c:Int)]:List Value).length n))⟩:Array Value)=⟨(List.replicate 1 c).map vB++cs.toList.drop 1⟩:=by
   rw [List.take_zero,List.nil_append,List.take_of_length_le (by simp;omega),show min ([.int .u8 (c:Int)]:List Value).length n=1 by simp;omega,Nat.zero_add]
   rfl
  rw [e0] at h
  rw [show ((min ([.int .u8 (c:Int)]:List Value).length n:Nat):Int)=((1:Nat):Int) by congr 1;simp;omega]
  refine ⟨fun bp w'=> ∃k:Nat,bp=(k:Int)∧1≤k∧k≤n∧Hp E w' (aq b (.cells ⟨(List.replicate k c).map vB++cs.toList.drop k⟩ 5 (0,0))::F),fun bp _=>n - bp.toNat,⟨1,rfl,by omega,by omega,h⟩,?_⟩
  rintro bp w ⟨k,rfl,hk1,hkn,h⟩
  have hsz:(⟨(List.replicate k c).map vB++cs.toList.drop k⟩:Array Value).size=cs.size:=by simp;omega
  (first|refine aa.dm (fun hb=> ?_) (fun hb=> ?_)|refine aa.em (fun hb=> ?_) (fun hb=> ?_)|refine aa.nm (fun hb=> ?_) (fun hb=> ?_)|refine aa.mk (fun hb=> ?_) (fun hb=> ?_))
  ·obtain ⟨q,hq,hq1,hqk⟩: ∃q:Nat,(if mx<(k:Int) then mx else (k:Int))=(q:Int)∧1≤q∧q≤k:=by
    by_cases hm:mx<(k:Int)
    ·rw [if_pos hm];exact ⟨mx.toNat,by omega,by omega,by omega⟩
    ·rw [if_neg hm];exact ⟨k,rfl,hk1,Nat.le_refl _⟩
   rw [hq]
   refine ag.mk h fun w h=> ?_
   dsimp only
   refine ⟨by omega,by omega,by omega,by dsimp only;omega,?_⟩
   rw [if_neg (by omega)]
   simp only [Int.toNat_natCast,Option.map_some,ak,Nat.zero_add,Nat.mul_one]
   refine ⟨by omega,by omega,by omega,by dsimp only;omega,?_⟩
   rw [if_neg (by simp only [Int.toNat_natCast,Int.toNat_zero];omega)]
   simp only [Int.toNat_natCast,Int.toNat_zero,Nat.sub_zero,Option.map_some,ak,Nat.zero_add,Nat.zero_mul]
   have hsrc:aR 1 ⟨some ⟨b,0,none⟩,q,n⟩ ((List.replicate q c).map vB) w:=h.DI (by simp) (fun i hi=>by
    simp at hi
    simp [List.getElem?_append,show i<k by omega])
   refine lE (ys:=(List.replicate q c).map vB) oe CI h hsrc lI (by rw [hsz];omega) fun w h=> ?_
   have hlen:((List.replicate q c).map vB).length=q:=by simp
   rw [hlen] at h⊢
   have e1:(⟨(⟨(List.replicate k c).map vB++cs.toList.drop k⟩:Array Value).toList.take k++(((List.replicate q c).map vB).take (n - k)++(⟨(List.replicate k c).map vB++cs.toList.drop k⟩:Array Value).toList.drop (k+min q (n - k)))⟩:Array Value)
     =⟨(List.replicate (k+min q (n - k)) c).map vB++cs.toList.drop (k+min q (n - k))⟩:=by
    dsimp only
    rw [List.take_left' (by simp),←List.map_take,List.take_replicate,List.drop_append,List.drop_of_length_le (by simp),List.nil_append,List.drop_drop,←List.append_assoc,←List.map_append,List.replicate_append_replicate]
    simp only [List.length_map,List.length_replicate]
    rw [show k+(k+min q (n - k) - k)=k+min q (n - k) by omega,Nat.min_comm (n - k) q]
   rw [e1] at h
   rw [aj (by omega)]
   refine ⟨⟨k+min q (n - k),by omega,by omega,by omega,h⟩,by omega⟩
  ·have hk:k=n:=by omega
   subst hk
   refine hK _ _ (h.iO (by simp) rfl (by simp) (by simp<;>omega) fun i hi=> ?_)
   simp at hi
   simp [List.getElem?_append,hi]
 by_cases hbig:(n:Int)>8192
 ·refine aa.dt hbig ⟨by omega,?_⟩
  refine aa.ef (by decide) ?_
  exact main _ (by decide)
 ·exact aa.df hbig (main _ (by omega))
end
end Go.Proofs.YtgglghjnakclmaaGreat
namespace Go.Proofs.YtgglghjnakclmaaGreat
open Go Go.Vc
set_option maxRecDepth 100000
theorem yZ.ok (R:(Array Value)→World→Prop) w (h:
 Nw 110 ⟨List.replicate 256 (.int .u8 0)⟩ w fun b a=>
 hY 0 a fun c d (e:Int) f=>
 aa (decide (e<256))
 (aY ⟨b,0,none⟩ 256 e 1 fun g=>
 St g (.int .u8 (u8 e)) f fun h=>
 c (i64 (e+1)) h∧d (i64 (e+1)) h<d e f)
 (Ld (.arr 256) ⟨b,0,none⟩ f fun i=>
 an 256 ⟨b,0,none⟩ i f fun j=>
 Ld (.arr 256) ⟨b,0,none⟩ j fun k=>
 R k j)):Cl Pg [(.arr 256)] lN ⟨[]⟩ w R:=co Tryz.f174 [(5,[(2,kI)])] h
theorem xg.ok (a:(Array Value)) (R:Bool→World→Prop) w (h:
 Nw 110 a w fun c b=>
 Nw 351 ⟨List.replicate 256 (ni 0)⟩ b fun e d=>
 Ld (.arr 256) ⟨c,0,none⟩ d fun f=>
 hY 0 d fun g h (i:Int) j=>
 aa (decide (i<256))
 (gB (.int .u8) f 256 i fun (k:Int)=>
 aY ⟨e,0,none⟩ 256 k 1 fun l=>
 St l (ni 1) j fun m=>
 g (i64 (i+1)) m∧h (i64 (i+1)) m<h i j)
 (cJ j fun n o=>
 ab (.arr 256) ⟨e,0,none⟩ n fun p=>
 Cl Pg [(.arr 256)] ku ⟨[]⟩ o fun r q=>
 n q∧
 qN .i64 256 p r fun s=>
 R s q)):Cl Pg [kB] jK ⟨[(.agg a)]⟩ w R:=co Tryz.f237 [(7,[(7,kI)])] h
theorem xz.ok (a:(Array Value)) (b:Int) (R:(Array Value)→Int→Bool→World→Prop) w (h:
 Nw 110 a w fun d c=>
 Nw 110 ⟨List.replicate 256 (.int .u8 0)⟩ c fun f e=>
 aa (decide (b<0))
 (Ld (.arr 256) ⟨d,0,none⟩ e fun g=>
 an 256 ⟨f,0,none⟩ g e fun h=>
 Ld (.arr 256) ⟨f,0,none⟩ h fun i=>
 R i 0 false h)
 (aa (decide (b≥256))
 (Ld (.arr 256) ⟨d,0,none⟩ e fun j=>
 an 256 ⟨f,0,none⟩ j e fun k=>
 Ld (.arr 256) ⟨f,0,none⟩ k fun l=>
 R l 0 false k)
 (ag e fun m=>
 Ld (.arr 256) ⟨d,0,none⟩ m fun n=>
 aY ⟨d,0,none⟩ 256 b 1 fun o=>
 Ld (aJ .u8) o m fun (p:Int)=>
 an 256 ⟨f,0,none⟩ n m fun q=>
 ag q fun r=>
 cc (⟨some ⟨f,0,none⟩,256,256⟩:Sl) 1 (i64 (b+1)) 256 1 fun s=>
 cc (⟨some ⟨d,0,none⟩,256,256⟩:Sl) 0 b 256 1 fun t=>
 aA Pg (Builtin.copy_ #[26,26] 3 ⟨[(av s),(av t)]⟩) kI r fun (v:Int) u=>
 aY ⟨f,0,none⟩ 256 0 1 fun x=>
 St x (.int .u8 p) u fun y=>
 Ld (.arr 256) ⟨f,0,none⟩ y fun z=>
 an 256 ⟨f,0,none⟩ z y fun a1=>
 Ld (.arr 256) ⟨f,0,none⟩ a1 fun b1=>
 R b1 p true a1))):Cl Pg [(.arr 256),(aJ .u8),kB] kD ⟨[(.agg a),(ni b)]⟩ w R:=co Tryz.f240 [] h
theorem xN.ok (R:(Array Value)→World→Prop) w (h:
 Nw 351 ⟨List.replicate 256 (ni 0)⟩ w fun b a=>
 hY 0 a fun c d (e:Int) f=>
 aa (decide (e<256))
 (aY ⟨b,0,none⟩ 256 e 1 fun g=>
 St g (ni 1) f fun h=>
 c (i64 (e+1)) h∧d (i64 (e+1)) h<d e f)
 (Ld (.arr 256) ⟨b,0,none⟩ f fun i=>
 an 256 ⟨b,0,none⟩ i f fun j=>
 Ld (.arr 256) ⟨b,0,none⟩ j fun k=>
 R k j)):Cl Pg [(.arr 256)] ku ⟨[]⟩ w R:=co Tryz.f291 [(5,[(2,kI)])] h
end Go.Proofs.YtgglghjnakclmaaGreat
namespace Go.Proofs.YtgglghjnakclmaaGreat
open Go Go.Vc
set_option maxRecDepth 100000
theorem sB.ok (a:Int) (b:Int) (c:Int) (R:Int→Int→World→Prop) w (h:
 bf (fun (e:World)=>
 0≤b∧
 aa (decide ((i64 (a+(bg .i64 (i64 ((1:Int)+c)) b)))>2147483647))
 (R 0 2 e)
 (R (i64 (a+(bg .i64 (i64 ((1:Int)+c)) b))) 0 e)) fun d=>
 aa (decide (a<0))
 (R 0 2 w)
 (aa (decide (a>2147483647))
 (R 0 2 w)
 (aa (decide (b<0))
 (R 0 2 w)
 (aa (decide (b>30))
 (R 0 2 w)
 (aa (c !=0)
 (aa (c !=1)
 (R 0 2 w)
 (d w))
 (d w)))))):Cl Pg [kI,kI] fC ⟨[(ni a),(ni b),(ni c)]⟩ w R:=co Tryz.f238 [(2,[])] h
end Go.Proofs.YtgglghjnakclmaaGreat
set_option maxRecDepth 20000
namespace Go.Sym
open Go.Inc
def cn (L:List Nat) (p:Nat):List Nat:=L.getD p 0::L.eraseIdx p
theorem kR {L:List Nat} {p:Nat} (hp:p<L.length):(cn L p).Perm L:=by
 unfold cn
 have e:L.getD p 0=L[p]:=by simp [List.getD,hp]
 rw [e]
 rw [List.eraseIdx_eq_take_drop_succ]
 have h2:L.take p++L[p]::L.drop (p+1)=L:=by rw [List.getElem_cons_drop,List.take_append_drop]
 exact List.perm_middle.symm.trans (List.Perm.of_eq h2)
theorem xj {L:List Nat} {p:Nat} (hp:p<L.length):(cn L p).length=L.length:=(kR hp).length_eq
def ck (L:List Nat):Prop:=L.Perm (List.range 256)
theorem ck.len {L:List Nat} (h:ck L):L.length=256:=by rw [h.length_eq,List.length_range]
theorem ck.mem {L:List Nat} (h:ck L) {c:Nat}:c∈L↔c<256:=by rw [h.mem_iff,List.mem_range]
theorem ck.nodup {L:List Nat} (h:ck L):L.Nodup:=h.nodup_iff.2 List.nodup_range
theorem ck.take {L:List Nat} (h:ck L) {p:Nat} (hp:p<256):ck (cn L p):=(kR (by rw [h.len];exact hp)).trans h
theorem ck.range:ck (List.range 256):=List.Perm.refl _
theorem ck.get {L:List Nat} (h:ck L) {p:Nat} (hp:p<256):L.getD p 0<256:=by
 have hl:=h.len
 have:L.getD p 0=L[p]:=by simp [List.getD,hl,hp]
 rw [this]
 exact h.mem.1 (List.getElem_mem _)
theorem ck.idx {L:List Nat} (h:ck L) {c:Nat} (hc:c<256):L.idxOf c<256∧L.getD (L.idxOf c) 0=c:=by
 have hm:=h.mem.2 hc
 have hl:=h.len
 have h1:=List.idxOf_lt_length_of_mem hm
 refine ⟨by omega,?_⟩
 rw [List.getD,List.getElem?_eq_getElem h1,List.getElem_idxOf h1];rfl
theorem ck.nK {L:List Nat} (h:ck L) {p:Nat} (hp:p<256):L.idxOf (L.getD p 0)=p:=by
 have hl:=h.len
 have e:L.getD p 0=L[p]:=by simp [List.getD,hl,hp]
 have h1:=h.idx (h.get hp)
 have e2:L[L.idxOf (L.getD p 0)]'(by omega)=L[p]:=by
  have:=h1.2
  rw [List.getD,List.getElem?_eq_getElem (by omega)] at this
  exact this.trans e
 exact (List.getElem_inj h.nodup).1 e2
def dR (n:Nat):List Nat:=if _h:n=0 then [] else (n - 1) % 2::dR ((n - 1)/2)
termination_by n
decreasing_by omega
theorem kf:dR 0= []:=by rw [dR];simp
theorem lX {n:Nat} (h:0<n):dR n=(n - 1) % 2::dR ((n - 1)/2):=by rw [dR,dif_neg (by omega)]
theorem zD (n:Nat): ∀d∈dR n,d<2:=by
 induction n using Nat.strongRecOn with
 |ind n ih=>
  rcases Nat.eq_zero_or_pos n with e|e
  ·rw [e,kf];simp
  ·rw [lX e]
   intro d hd
   rcases List.mem_cons.1 hd with h|h
   ·omega
   ·exact ih _ (by omega) d h
def vd:List Nat→Nat→List Nat→List Nat×List Nat×Nat
 |L,r,[]=>([],L,r)
 |L,r,c::b=>
  if L.idxOf c=0 then vd (cn L 0) (r+1) b
  else
   let x:=vd (cn L (L.idxOf c)) 0 b
   (dR r++(L.idxOf c+1)::x.1,x.2)
def xy (L:List Nat) (r:Nat) (b:List Nat):List Nat:=(vd L r b).1++dR (vd L r b).2.2++ [257]
def syms (b:List Nat):List Nat:=xy (List.range 256) 0 b
structure DS where
 L:List Nat
 left:Nat
 run:Nat
 digits:Nat
def bU (d:DS) (s:Nat):Option (DS×List Nat×Bool):=
 if s<2 then
  if d.run+(1+s)*2^d.digits≤d.left then some (⟨d.L,d.left,d.run+(1+s)*2^d.digits,d.digits+1⟩,[],false) else none
 else if s=257 then
  if d.run=d.left then some (⟨d.L,0,0,0⟩,List.replicate d.run (d.L.getD 0 0),true) else none
 else if d.run=d.left then none
 else some (⟨cn d.L (s - 1),d.left - (d.run+1),0,0⟩,List.replicate d.run (d.L.getD 0 0)++ [d.L.getD (s - 1) 0],false)
end Go.Sym
namespace Go.Vc
theorem sx {n:Nat} {f:Nat→Int}:(cF n f).toList.all ay=true:=by
 unfold cF
 rw [List.all_map]
 exact List.all_eq_true.2 fun _ _=>rfl
theorem pE {n:Nat}:cF n (fun _=>0)=⟨List.replicate n (.int .i64 0)⟩:=by
 unfold cF
 rw [List.map_const',List.length_range]
theorem qN.row {n:Nat} {f g:Nat→Int} {K:Bool→Prop} (hK:K (((List.range n).map f)==((List.range n).map g))):qN .i64 n (cF n f) (cF n g) K:=
 ⟨(List.range n).map f,(List.range n).map g,by simp [cF],by simp [cF],by simp,by simp,hK⟩
end Go.Vc
namespace Go.Proofs.YtgglghjnakclmaaGreat
open Go Go.Vc Go.Inc Go.Sym
abbrev a7 (l:List Nat):List Value:=l.map fun (n:Nat)=>Value.int .u8 (n:Int)
theorem gF {L:List Nat} (h:L.length=256):(a7 L).length=256:=by simp [h]
theorem cO {l:List Nat}:(a7 l).all ay=true:=by
 unfold a7
 rw [List.all_map]
 exact List.all_eq_true.2 fun _ _=>rfl
section
variable {E w:World} {F:List HP}
theorem zS:Tryz.prog.underlying 26=some (.slice 5):=by kernel_rfl
theorem AN:(Tryz.prog.info? 5).map (·.size)=some 1:=by kernel_rfl
set_option maxRecDepth 20000
theorem Bc {K:Array Value→World→Prop} (h:Hp E w F) (hK: ∀w',Hp E w' F→K ⟨a7 (List.range 256)⟩ w'):Cl Tryz.prog [.arr 256] lN ⟨[]⟩ w K:=by
 refine yZ.ok _ _ ?_
 (try simp only [au,ah,ak,Nat.zero_add,Nat.add_zero,Nat.reduceAdd,Bool.not_true,Bool.not_false,aD,aC,Option.isNone])
 refine Nw.mk h fun b2 w h=> ?_
 have hlen: ∀k,k≤256→(a7 (List.range k++List.replicate (256 - k) 0)).length=256:=fun k hk=>by simp;omega
 refine ⟨fun i w'=> ∃k:Nat,i=(k:Int)∧k≤256∧Hp E w' (aq b2 (.cells ⟨a7 (List.range k++List.replicate (256 - k) 0)⟩ 110 (0,0))::F),fun i _=>256 - i.toNat,⟨0,rfl,by omega,by
  have:(⟨a7 (List.range 0++List.replicate (256 - 0) 0)⟩:Array Value)=⟨List.replicate 256 (.int .u8 0)⟩:=by simp
  rw [this];exact h⟩,?_⟩
 rintro i w ⟨k,rfl,hk,h⟩
 (first|refine aa.dm (fun hb=> ?_) (fun hb=> ?_)|refine aa.em (fun hb=> ?_) (fun hb=> ?_)|refine aa.nm (fun hb=> ?_) (fun hb=> ?_)|refine aa.mk (fun hb=> ?_) (fun hb=> ?_))
 ·refine ⟨by omega,by omega,?_⟩
  rw [show ((k:Int)).toNat*1=k by omega]
  (try simp only [au,ah,ak,Nat.zero_add,Nat.add_zero,Nat.reduceAdd,Bool.not_true,Bool.not_false,aD,aC,Option.isNone])
  have hk:=hlen k (by omega)
  refine St.xb h (by simp;omega) rfl fun w h=> ?_
  rw [aj (by omega)]
  refine ⟨⟨k+1,rfl,by omega,?_⟩,by omega⟩
  have e:(⟨a7 (List.range k++List.replicate (256 - k) 0)⟩:Array Value).setIfInBounds k (.int .u8 (u8 (k:Int)))=⟨a7 (List.range (k+1)++List.replicate (256 - (k+1)) 0)⟩:=by
   rw [jB (by omega)]
   apply Array.ext'
   rw [Array.toList_setIfInBounds]
   have:(a7 (List.range k++List.replicate (256 - k) 0)).set k (.int .u8 (k:Int))=a7 ((List.range k++List.replicate (256 - k) 0).set k k):=by rw [a7,a7,List.map_set]
   rw [this,List.set_append_right _ _ (by simp),List.length_range,Nat.sub_self]
   obtain ⟨m,hm⟩: ∃m,256 - k=m+1:=⟨255 - k,by omega⟩
   rw [hm,List.replicate_succ,List.set_cons_zero,List.range_succ,show 256 - (k+1)=m by omega]
   simp
  rw [e] at h
  exact h
 ·have hk2:k=256:=by omega
  subst hk2
  have e:(⟨a7 (List.range 256++List.replicate (256 - 256) 0)⟩:Array Value)=⟨a7 (List.range 256)⟩:=by simp
  rw [e] at h
  have hn:(⟨a7 (List.range 256)⟩:Array Value).size=256:=by simp
  refine Ld.xw h hn ?_
  refine an.q h hn hn cO fun w h=> ?_
  exact Ld.xw h hn (hK _ h.tl)
theorem BG {K:Array Value→World→Prop} (h:Hp E w F) (hK: ∀w',Hp E w' F→K (cF 256 fun _=>1) w'):Cl Tryz.prog [.arr 256] ku ⟨[]⟩ w K:=by
 refine xN.ok _ _ ?_
 (try simp only [au,ah,ak,Nat.zero_add,Nat.add_zero,Nat.reduceAdd,Bool.not_true,Bool.not_false,aD,aC,Option.isNone])
 refine Nw.mk h fun b2 w h=> ?_
 refine ⟨fun i w'=> ∃k:Nat,i=(k:Int)∧k≤256∧Hp E w' (aq b2 (.cells (cF 256 fun j=>if j<k then 1 else 0) 351 (0,0))::F),fun i _=>256 - i.toNat,⟨0,rfl,by omega,by
  rw [dU (g:=fun _=>0) (fun i _=>by simp),pE];exact h⟩,?_⟩
 rintro i w ⟨k,rfl,hk,h⟩
 (first|refine aa.dm (fun hb=> ?_) (fun hb=> ?_)|refine aa.em (fun hb=> ?_) (fun hb=> ?_)|refine aa.nm (fun hb=> ?_) (fun hb=> ?_)|refine aa.mk (fun hb=> ?_) (fun hb=> ?_))
 ·refine ⟨by omega,by omega,?_⟩
  rw [show ((k:Int)).toNat*1=k by omega]
  (try simp only [au,ah,ak,Nat.zero_add,Nat.add_zero,Nat.reduceAdd,Bool.not_true,Bool.not_false,aD,aC,Option.isNone])
  refine St.xb h (by rw [cE];omega) rfl fun w h=> ?_
  rw [aj (by omega)]
  refine ⟨⟨k+1,rfl,by omega,?_⟩,by omega⟩
  rw [kv] at h
  rw [dU (g:=fun j=>if j<k+1 then 1 else 0) (fun i _=>by
   by_cases h1:i=k
   ·subst h1;simp
   ·by_cases h2:i<k
    ·simp [h1,h2];omega
    ·simp [h1,h2];omega)] at h
  exact h
 ·have hk2:k=256:=by omega
  subst hk2
  rw [dU (g:=fun _=>1) (fun i hi=>by simp [hi])] at h
  refine Ld.xw h cE ?_
  refine an.q h cE cE sx fun w h=> ?_
  exact Ld.xw h cE (hK _ h.tl)
theorem vU {L:List Nat} {K:Bool→World→Prop} (h:Hp E w F) (hL:ck L) (hK: ∀w',Hp E w' F→K true w'):Cl Tryz.prog [kB] jK ⟨[.agg ⟨a7 L⟩]⟩ w K:=by
 have hl:=hL.len
 have hlt: ∀x∈L,x<256:=fun x hx=>by simpa using hL.mem_iff.1 hx
 refine xg.ok _ _ _ ?_
 (try simp only [au,ah,ak,Nat.zero_add,Nat.add_zero,Nat.reduceAdd,Bool.not_true,Bool.not_false,aD,aC,Option.isNone])
 have hn:(⟨a7 L⟩:Array Value).size=256:=by simp [hl]
 refine Nw.mk h fun b3 w h=>Nw.mk h fun b5 w h=>Ld.xw h hn ?_
 refine ⟨fun i w'=> ∃k:Nat,i=(k:Int)∧k≤256∧Hp E w' (aq b5 (.cells (cF 256 fun j=>if j∈L.take k then 1 else 0) 351 (0,0))::aq b3 (.cells ⟨a7 L⟩ 110 (0,0))::F),fun i _=>256 - i.toNat,⟨0,rfl,by omega,by
  rw [dU (g:=fun _=>0) (fun i _=>by simp),pE];exact h⟩,?_⟩
 rintro i w ⟨k,rfl,hk,h⟩
 (first|refine aa.dm (fun hb=> ?_) (fun hb=> ?_)|refine aa.em (fun hb=> ?_) (fun hb=> ?_)|refine aa.nm (fun hb=> ?_) (fun hb=> ?_)|refine aa.mk (fun hb=> ?_) (fun hb=> ?_))
 ·have hkl:k<L.length:=by omega
  refine gB.rd (s:= .int .u8) (by omega) (by omega) (L[k]:Int) ?_ ?_
  ·simp [hkl]
  have hx:=hlt _ (List.getElem_mem hkl)
  refine ⟨by omega,by omega,?_⟩
  rw [show ((L[k]:Int)).toNat*1=L[k] by omega]
  (try simp only [au,ah,ak,Nat.zero_add,Nat.add_zero,Nat.reduceAdd,Bool.not_true,Bool.not_false,aD,aC,Option.isNone])
  refine St.xb h (by rw [cE];omega) rfl fun w h=> ?_
  rw [aj (by omega)]
  refine ⟨⟨k+1,rfl,by omega,?_⟩,by omega⟩
  rw [kv] at h
  rw [dU (g:=fun j=>if j∈L.take (k+1) then 1 else 0) (fun i _=>by
   have hmem:i∈L.take (k+1)↔i∈L.take k∨i=L[k]:=by
    rw [List.take_add_one,List.getElem?_eq_getElem hkl,List.mem_append]
    exact or_congr Iff.rfl List.mem_singleton
   by_cases h1:i=L[k]
   ·rw [if_pos h1,if_pos (hmem.2 (.inr h1))]
   ·rw [if_neg h1]
    by_cases h2:i∈L.take k
    ·rw [if_pos h2,if_pos (hmem.2 (.inl h2))]
    ·rw [if_neg h2,if_neg (fun hh=>(hmem.1 hh).elim h2 h1)])] at h
  exact h
 ·have hk2:k=256:=by omega
  subst hk2
  rw [dU (g:=fun _=>1) (fun i hi=>by
   rw [List.take_of_length_le (by omega),if_pos]
   exact hL.mem_iff.2 (by simpa using hi))] at h
  have h:=h.drew (n:=w.drawn+1)
  refine ⟨bq b5 _ _ _,h.hb,?_⟩
  dsimp only
  refine ab.xw (fun _ h=>h) cE ?_
  refine BG h fun w h=>⟨h.hb,?_⟩
  refine qN.row ?_
  rw [beq_self_eq_true]
  exact hK _ h.tl
theorem xX {L:List Nat} {p:Nat} (hl:L.length=256) (hp:p<256):((a7 L).take 1++((a7 (L.take p)).take p++(a7 L).drop (1+min (a7 (L.take p)).length p))).set 0 (.int .u8 (L.getD p 0:Int))=a7 (cn L p):=by
 have e1:(a7 (L.take p)).length=p:=by simp;omega
 rw [e1,Nat.min_self,List.take_of_length_le (l:=a7 (L.take p)) (by omega),Nat.add_comm 1 p]
 unfold cn
 rw [List.eraseIdx_eq_take_drop_succ]
 cases L with
 |nil=>simp at hl
 |cons a L=>simp [a7,List.map_take,List.map_drop]
theorem zN {L:List Nat} {p:Nat} {K:Array Value→Int→Bool→World→Prop} (h:Hp E w F) (hl:L.length=256) (hp:p<256) (hK: ∀w',Hp E w' F→K ⟨a7 (cn L p)⟩ (L.getD p 0:Int) true w'):
  Cl Tryz.prog [.arr 256,aJ .u8,kB] kD ⟨[.agg ⟨a7 L⟩,.int .i64 (p:Int)]⟩ w K:=by
 refine xz.ok _ _ _ _ ?_
 (try simp only [au,ah,ak,Nat.zero_add,Nat.add_zero,Nat.reduceAdd,Bool.not_true,Bool.not_false,aD,aC,Option.isNone])
 have hn:(⟨a7 L⟩:Array Value).size=256:=by simp [hl]
 have hz:(⟨List.replicate 256 (.int .u8 0)⟩:Array Value).size=256:=by simp
 have hpl:p<L.length:=by omega
 refine Nw.mk h fun b4 w h=>Nw.mk h fun b6 w h=> ?_
 (with_reducible repeat first|refine Nw.mk h fun b w h=> ?_|refine ag.mk h fun w h=> ?_|refine Ld.q h hL rfl rfl ?_|refine ab.q (fun _ h=>h) hL rfl rfl ?_|refine Ld.p h hL ?_|refine ab.p (fun _ h=>h) hL ?_|refine Ld.qw h hL rfl ?_|refine ab.qw (fun _ h=>h) hL rfl ?_|refine ⟨h.hb,?_⟩|(refine St.q h hL rfl rfl rfl fun w h=> ?_;dsimp only [af,ad] at h)|refine aa.yes ?_|refine aa.no ?_|refine ⟨by first|omega|decide,?_⟩)
 refine Ld.xw h hn ?_
 refine ⟨by omega,by omega,?_⟩
 rw [show ((p:Int)).toNat*1=p by omega]
 (try simp only [au,ah,ak,Nat.zero_add,Nat.add_zero,Nat.reduceAdd,Bool.not_true,Bool.not_false,aD,aC,Option.isNone])
 refine Ld.xb (x:=(L.getD p 0:Int)) h ?_ ?_
 ·simp [List.getD_eq_getElem?_getD,hpl]
 refine an.q h hz hn cO fun w h=>ag.mk h fun w h=> ?_
 rw [aj (by omega)]
 refine ⟨by omega,by omega,by omega,by simp,?_⟩
 rw [if_neg (by simp),show (1:Int).toNat*1=1 by decide,show ((p:Int)+1).toNat - (1:Int).toNat=p by omega,show (256:Int).toNat - (1:Int).toNat=255 by decide]
 refine ⟨by omega,by omega,by omega,by simp,?_⟩
 rw [if_neg (by decide),show (0:Int).toNat*1=0 by decide,show ((p:Int)).toNat - (0:Int).toNat=p by omega,show (256:Int).toNat - (0:Int).toNat=256 by decide]
 simp only [Option.map_some,ak,Nat.zero_add]
 have hsrc:aR 1 ⟨some ⟨b4,0,none⟩,p,256⟩ (a7 (L.take p)) w:=by
  refine ⟨by simp;omega,fun i hi=>⟨⟨b4,0,none⟩,rfl,?_⟩⟩
  rw [ak,h.fc]
  simp at hi⊢
  simp [show i<L.length by omega]
 refine lE (ys:=a7 (L.take p)) zS AN h hsrc (List.all_eq_true.1 cO) (by rw [hn];dsimp only;omega) fun w h=> ?_
 refine ⟨by omega,by omega,?_⟩
 rw [show ((0:Int)).toNat*1=0 by decide]
 (try simp only [au,ah,ak,Nat.zero_add,Nat.add_zero,Nat.reduceAdd,Bool.not_true,Bool.not_false,aD,aC,Option.isNone])
 refine St.xb h (by simp;omega) rfl fun w h=> ?_
 have e:(⟨(⟨a7 L⟩:Array Value).toList.take 1++((a7 (L.take p)).take p++(⟨a7 L⟩:Array Value).toList.drop (1+min (a7 (L.take p)).length p))⟩:Array Value).setIfInBounds 0 (.int .u8 (L.getD p 0:Int))=⟨a7 (cn L p)⟩:=by
  apply Array.ext'
  rw [Array.toList_setIfInBounds]
  exact xX hl hp
 rw [e] at h
 have hm:(⟨a7 (cn L p)⟩:Array Value).size=256:=by
  have:(cn L p).length=256:=by unfold cn;simp [List.length_eraseIdx,hpl];omega
  simp [this]
 refine Ld.xw h hm ?_
 refine an.q h hm hm cO fun w h=> ?_
 exact Ld.xw h hm (hK _ h.tl)
theorem AD {n many d:Nat} {K:Int→Int→World→Prop} (hn:n≤65536) (hm:many≤16) (hd:d≤1) (hK:K ((n+(1+d)*2^many:Nat):Int) 0 w):
  Cl Tryz.prog [kI,kI] fC ⟨[.int .i64 (n:Int),.int .i64 (many:Int),.int .i64 (d:Int)]⟩ w K:=by
 have hp:2^many≤65536:=Nat.pow_le_pow_right (n:=2) (by decide) hm
 have hpp:=Nat.two_pow_pos many
 have hb:(1+d)*2^many≤131072:=by
  have:=Nat.mul_le_mul (show 1+d≤2 by omega) hp
  omega
 refine sB.ok _ _ _ _ _ ?_
 have fin:0≤(many:Int)∧aa (decide (i64 ((n:Int)+bg .i64 (i64 (1+(d:Int))) (many:Int))>2147483647)) (K 0 2 w) (K (i64 ((n:Int)+bg .i64 (i64 (1+(d:Int))) (many:Int))) 0 w):=by
  refine ⟨by omega,?_⟩
  have hmx:IntKind.max .i64=9223372036854775807:=rfl
  rw [aj (x:=1+(d:Int)) (by omega),show 1+(d:Int)=((1+d:Nat):Int) by omega,cW (k:= .i64) (by have:IntKind.bits .i64=64:=rfl;omega) (by rw [hmx];omega),aj (by omega)]
  exact aa.df (by omega) (by rw [←Int.natCast_add];exact hK)
 (try simp only [au,ah,ak,Nat.zero_add,Nat.add_zero,Nat.reduceAdd,Bool.not_true,Bool.not_false,aD,aC,Option.isNone])
 refine aa.df (by omega) (aa.df (by omega) (aa.df (by omega) (aa.df (by omega) ?_)))
 by_cases h0:d=0
 ·exact aa.nf (by omega) fin
 ·exact aa.nt (by omega) (aa.nf (by omega) fin)
end
end Go.Proofs.YtgglghjnakclmaaGreat
namespace Go.Sym
def eI (d:DS):Prop:=ck d.L∧d.left≤65536∧d.run≤d.left∧2^d.digits - 1≤d.run∧d.run≤2*(2^d.digits - 1)
theorem eI.dR {d:DS} (h:eI d):d.digits≤16:=by
 obtain ⟨_,h2,h3,h4,_⟩:=h
 rcases Nat.lt_or_ge d.digits 17 with hh|hh
 ·omega
 ·have:2^17≤2^d.digits:=Nat.pow_le_pow_right (by decide) hh
  omega
set_option maxRecDepth 20000 in
theorem eI.zero {m:Nat} (hm:m≤65536):eI ⟨List.range 256,m,0,0⟩:=⟨.range,hm,by simp,by simp,by simp⟩
theorem pe {d d':DS} {s:Nat} {t:List Nat} (h:eI d) (hs:s<258) (he:bU d s=some (d',t,false)):eI d'∧(∀x∈t,x<256)∧t.length+d'.left≤d.left:=by
 obtain ⟨L,left,run,digits⟩:=d
 obtain ⟨h1,h2,h3,h4,h5⟩:=h
 unfold bU at he
 dsimp only at h1 h2 h3 h4 h5 he
 split at he
 ·split at he
  ·rename_i hs2 hle
   simp only [Option.some.injEq,Prod.mk.injEq] at he
   obtain ⟨rfl,rfl,_⟩:=he
   have hp:=Nat.two_pow_pos digits
   refine ⟨⟨h1,h2,hle,?_,?_⟩,by simp,by simp⟩
   ·dsimp only
    rw [Nat.pow_succ]
    have:=Nat.mul_le_mul_right (2^digits) (show 1≤1+s by omega)
    omega
   ·dsimp only
    rw [Nat.pow_succ]
    have:=Nat.mul_le_mul_right (2^digits) (show 1+s≤2 by omega)
    omega
  ·cases he
 ·split at he
  ·split at he
   ·simp at he
   ·cases he
  ·split at he
   ·cases he
   ·rename_i hs2 hs3 hne
    simp only [Option.some.injEq,Prod.mk.injEq] at he
    obtain ⟨rfl,rfl,_⟩:=he
    refine ⟨⟨h1.take (by omega),by dsimp only;omega,by simp,by simp,by simp⟩,?_,?_⟩
    ·intro x hx
     rcases List.mem_append.1 hx with hx|hx
     ·rw [(List.mem_replicate.1 hx).2];exact h1.get (by omega)
     ·rw [List.mem_singleton] at hx;rw [hx];exact h1.get (by omega)
    ·simp;omega
theorem rb {d d':DS} {s:Nat} {t:List Nat} (h:eI d) (he:bU d s=some (d',t,true)):(∀x∈t,x<256)∧t.length≤d.left:=by
 obtain ⟨L,left,run,digits⟩:=d
 obtain ⟨h1,h2,h3,h4,h5⟩:=h
 unfold bU at he
 dsimp only at h1 h2 h3 h4 h5 he
 split at he
 ·split at he
  ·simp at he
  ·cases he
 ·split at he
  ·split at he
   ·simp only [Option.some.injEq,Prod.mk.injEq] at he
    obtain ⟨rfl,rfl,_⟩:=he
    refine ⟨fun x hx=> ?_,by simp;omega⟩
    rw [(List.mem_replicate.1 hx).2];exact h1.get (by omega)
   ·cases he
  ·split at he
   ·cases he
   ·simp at he
end Go.Sym
namespace Go.Proofs.YtgglghjnakclmaaGreat
open Go Go.Vc Go.Inc Go.Sym
abbrev bW (L:List Nat) (left run digits:Int) (d:Bool):Array Value:=⟨a7 L++ [.int .i64 left,.int .i64 run,.int .i64 digits,.bool d]⟩
theorem aH {L:List Nat} {a b c:Int} {d:Bool}:(bW L a b c d).toList.all ay=true:=by
 unfold bW
 rw [List.all_append,cO]
 rfl
theorem aG {L:List Nat} {a b c:Int} {d:Bool} (h:L.length=256):(bW L a b c d).size=260:=by simp [h]
section
variable {E w:World} {F:List HP}
theorem vN:fh Tryz.prog 26 5 1 1:=fh.of (by kernel_rfl) (by kernel_rfl)
abbrev uv:Nat→Option (Nat×Nat):=(#[(0,256),(256,1),(257,1),(258,1),(259,1)][·]?)
theorem sr (ps:List (Nat×Value)):Tryz.prog.built 112 ps=Instr.fill uv ⟨List.replicate 256 (.int .u8 0)++ [.int .i64 0,.int .i64 0,.int .i64 0,.bool false]⟩ ps:=by kernel_rfl
theorem ru {L:List Nat} (hl:L.length=256) (rest:List (Nat×Value)):Instr.fill uv ⟨List.replicate 256 (.int .u8 0)++ [.int .i64 0,.int .i64 0,.int .i64 0,.bool false]⟩ ((0,.agg ⟨a7 L⟩)::rest)=Instr.fill uv (bW L 0 0 0 false) rest:=by
 have:=eY (place:=uv) (i:=0) (v:= .agg ⟨a7 L⟩) (rest:=rest) (pre:= []) (mid:=List.replicate 256 (.int .u8 0)) (post:= [.int .i64 0,.int .i64 0,.int .i64 0,.bool false]) rfl rfl List.length_replicate (by show (⟨a7 L⟩:Array Value).size=_;simp [hl])
 exact this
theorem bx.yS {L:List Nat} {m:Int} {K:Array Value→Prop} (hl:L.length=256) (hK:K (bW L m 0 0 false)):bx Tryz.prog 112 [(0,.agg ⟨a7 L⟩),(1,.int .i64 m)] K:=by
 refine ⟨_,?_,hK⟩
 rw [sr,ru hl]
 have:=eY (place:=uv) (i:=1) (v:= .int .i64 m) (rest:= []) (pre:=a7 L) (mid:= [.int .i64 0]) (post:= [.int .i64 0,.int .i64 0,.bool false]) rfl (by simp [hl]) rfl rfl
 unfold bW
 rw [show a7 L++ [.int .i64 (0:Int),.int .i64 0,.int .i64 0,.bool false]=a7 L++ [.int .i64 0]++ [.int .i64 0,.int .i64 0,.bool false] by simp,this]
 simp [Value.cells,Instr.fill]
theorem bx.DB {L:List Nat} {K:Array Value→Prop} (hl:L.length=256) (hK:K (bW L 0 0 0 true)):bx Tryz.prog 112 [(0,.agg ⟨a7 L⟩),(4,.bool true)] K:=by
 refine ⟨_,?_,hK⟩
 rw [sr,ru hl]
 have:=eY (place:=uv) (i:=4) (v:= .bool true) (rest:= []) (pre:=a7 L++ [.int .i64 0,.int .i64 0,.int .i64 0]) (mid:= [.bool false]) (post:= []) rfl (by simp [hl]) rfl rfl
 unfold bW
 rw [show a7 L++ [.int .i64 (0:Int),.int .i64 0,.int .i64 0,.bool false]=a7 L++ [.int .i64 0,.int .i64 0,.int .i64 0]++ [.bool false]++ [] by simp,this]
 simp [Value.cells,Instr.fill]
set_option maxRecDepth 20000
theorem zd {m:Nat} {K:Array Value→World→Prop} (h:Hp E w F) (hm:1≤m) (hm2:m≤65536) (hK: ∀w',Hp E w' F→K (bW (List.range 256) (m:Int) 0 0 false) w'):Cl Tryz.prog [.arr 260] jm ⟨[.int .i64 (m:Int)]⟩ w K:=by
 refine uy.ok _ _ _ ?_
 (try simp only [au,ah,ak,Nat.zero_add,Nat.add_zero,Nat.reduceAdd,Bool.not_true,Bool.not_false,aD,aC,Option.isNone])
 refine Nw.mk h fun b3 w h=>aa.df (by omega) (aa.df (by omega) ?_)
 refine Bc h fun w h=>bx.yS (by simp) ?_
 have hz:(⟨List.replicate 256 (.int .u8 0)++ [.int .i64 0,.int .i64 0,.int .i64 0,.bool false]⟩:Array Value).size=260:=by simp
 have hd:(bW (List.range 256) (m:Int) 0 0 false).size=260:=aG (by simp)
 refine an.q h hz hd aH fun w h=> ?_
 exact Ld.xw h hd (hK _ h.tl)
theorem vJ {d:DS} {K:Bool→World→Prop} (h:Hp E w F) (hd:eI d) (hK: ∀w',Hp E w' F→K true w'):Cl Tryz.prog [kB] gR ⟨[.agg (bW d.L (d.left:Int) (d.run:Int) (d.digits:Int) false)]⟩ w K:=by
 have hdig:=hd.dR
 obtain ⟨L,left,run,digits⟩:=d
 obtain ⟨h1,h2,h3,h4,h5⟩:=hd
 dsimp only at h1 h2 h3 h4 h5 hdig⊢
 have hL:=gF h1.len
 refine rQ.ok _ _ _ ?_
 have hp:2^digits≤65536:=Nat.pow_le_pow_right (n:=2) (by decide) hdig
 have hpp:=Nat.two_pow_pos digits
 have e1:i64 (bg .i64 1 (digits:Int) - 1)=((2^digits - 1:Nat):Int):=by
  have hmx:IntKind.max .i64=9223372036854775807:=rfl
  have:=cW (k:= .i64) (a:=1) (b:=digits) (by have:IntKind.bits .i64=64:=rfl;omega) (by rw [hmx];omega)
  have e0:bg .i64 1 (digits:Int)=((2^digits:Nat):Int):=by simpa using this
  rw [e0,aj (by omega)];omega
 (try simp only [au,ah,ak,Nat.zero_add,Nat.add_zero,Nat.reduceAdd,Bool.not_true,Bool.not_false,aD,aC,Option.isNone])
 (with_reducible repeat first|refine Nw.mk h fun b w h=> ?_|refine ag.mk h fun w h=> ?_|refine Ld.q h hL rfl rfl ?_|refine ab.q (fun _ h=>h) hL rfl rfl ?_|refine Ld.p h hL ?_|refine ab.p (fun _ h=>h) hL ?_|refine Ld.qw h hL rfl ?_|refine ab.qw (fun _ h=>h) hL rfl ?_|refine ⟨h.hb,?_⟩|(refine St.q h hL rfl rfl rfl fun w h=> ?_;dsimp only [af,ad] at h)|refine aa.yes ?_|refine aa.no ?_|refine ⟨by first|omega|decide,?_⟩)
 refine vU h h1 fun w h=> ?_
 (with_reducible repeat first|refine Nw.mk h fun b w h=> ?_|refine ag.mk h fun w h=> ?_|refine Ld.q h hL rfl rfl ?_|refine ab.q (fun _ h=>h) hL rfl rfl ?_|refine Ld.p h hL ?_|refine ab.p (fun _ h=>h) hL ?_|refine Ld.qw h hL rfl ?_|refine ab.qw (fun _ h=>h) hL rfl ?_|refine ⟨h.hb,?_⟩|(refine St.q h hL rfl rfl rfl fun w h=> ?_;dsimp only [af,ad] at h)|refine aa.yes ?_|refine aa.no ?_|refine ⟨by first|omega|decide,?_⟩)
 rw [e1]
 (with_reducible repeat first|refine Nw.mk h fun b w h=> ?_|refine ag.mk h fun w h=> ?_|refine Ld.q h hL rfl rfl ?_|refine ab.q (fun _ h=>h) hL rfl rfl ?_|refine Ld.p h hL ?_|refine ab.p (fun _ h=>h) hL ?_|refine Ld.qw h hL rfl ?_|refine ab.qw (fun _ h=>h) hL rfl ?_|refine ⟨h.hb,?_⟩|(refine St.q h hL rfl rfl rfl fun w h=> ?_;dsimp only [af,ad] at h)|refine aa.yes ?_|refine aa.no ?_|refine ⟨by first|omega|decide,?_⟩)
 rw [aj (by omega)]
 (with_reducible repeat first|refine Nw.mk h fun b w h=> ?_|refine ag.mk h fun w h=> ?_|refine Ld.q h hL rfl rfl ?_|refine ab.q (fun _ h=>h) hL rfl rfl ?_|refine Ld.p h hL ?_|refine ab.p (fun _ h=>h) hL ?_|refine Ld.qw h hL rfl ?_|refine ab.qw (fun _ h=>h) hL rfl ?_|refine ⟨h.hb,?_⟩|(refine St.q h hL rfl rfl rfl fun w h=> ?_;dsimp only [af,ad] at h)|refine aa.yes ?_|refine aa.no ?_|refine ⟨by first|omega|decide,?_⟩)
 exact hK _ h.tl
theorem ux {L:List Nat} {left digits:Int} {run:Nat} {d:Bool} {K:Sl→World→Prop} (h:Hp E w F) (hl:L.length=256) (hr:run≤65536) (hK: ∀s' w',Hp E w' (aT 1 s' ((List.replicate run (L.getD 0 0)).map vB)::F)→K s' w'):
  Cl Tryz.prog [kS] gy ⟨[.agg (bW L left (run:Int) digits d)]⟩ w K:=by
 have hL:=gF hl
 refine uH.ok _ _ _ ?_
 (try simp only [au,ah,ak,Nat.zero_add,Nat.add_zero,Nat.reduceAdd,Bool.not_true,Bool.not_false,aD,aC,Option.isNone])
 (with_reducible repeat first|refine Nw.mk h fun b w h=> ?_|refine ag.mk h fun w h=> ?_|refine Ld.q h hL rfl rfl ?_|refine ab.q (fun _ h=>h) hL rfl rfl ?_|refine Ld.p h hL ?_|refine ab.p (fun _ h=>h) hL ?_|refine Ld.qw h hL rfl ?_|refine ab.qw (fun _ h=>h) hL rfl ?_|refine ⟨h.hb,?_⟩|(refine St.q h hL rfl rfl rfl fun w h=> ?_;dsimp only [af,ad] at h)|refine aa.yes ?_|refine aa.no ?_|refine ⟨by first|omega|decide,?_⟩)
 refine ⟨by omega,by omega,by omega,by simp,?_⟩
 rw [if_neg (by decide)]
 simp only [Option.map_some,ak,show (0:Int).toNat=0 from rfl,Nat.zero_mul,Nat.zero_add,show (1:Int).toNat=1 from rfl,show (256:Int).toNat=256 from rfl,Nat.sub_zero]
 (with_reducible repeat first|refine Nw.mk h fun b w h=> ?_|refine ag.mk h fun w h=> ?_|refine Ld.q h hL rfl rfl ?_|refine ab.q (fun _ h=>h) hL rfl rfl ?_|refine Ld.p h hL ?_|refine ab.p (fun _ h=>h) hL ?_|refine Ld.qw h hL rfl ?_|refine ab.qw (fun _ h=>h) hL rfl ?_|refine ⟨h.hb,?_⟩|(refine St.q h hL rfl rfl rfl fun w h=> ?_;dsimp only [af,ad] at h)|refine aa.yes ?_|refine aa.no ?_|refine ⟨by first|omega|decide,?_⟩)
 refine xU (s:=⟨some ⟨b,0,none⟩,1,256⟩) (c:=L.getD 0 0) h ?_ hr fun s' w h=>hK _ _ (h.at 1).drop
 rintro w' f a ⟨g,k,hd,rfl,rfl,h2⟩
 refine ⟨rfl,fun i hi=>⟨⟨b,0,none⟩,rfl,?_⟩⟩
 have:w'.heap[b]? =some (.cells (bW L left (run:Int) digits d) 112 (0,0)):=a b _ (by simp [aM.add,aM.one])
 simp only [List.length_singleton] at hi
 have hi0:i=0:=by omega
 subst hi0
 rw [ak]
 simp only [World.cell?,this]
 simp [List.getElem?_append,hl,List.getD_eq_getElem?_getD]
theorem yh {d:DS} {s:Nat} {K:Array Value→Sl→Bool→World→Prop} (h:Hp E w F) (hd:eI d) (hs:s<258)
  (hn: ∀o sl w',bU d s=none→o.size=260→o.toList.all ay=true→Hp E w' F→K o sl false w')
  (hm: ∀d' t sl w',bU d s=some (d',t,false)→Hp E w' (aT 1 sl (t.map vB)::F)→K (bW d'.L (d'.left:Int) (d'.run:Int) (d'.digits:Int) false) sl true w')
  (he: ∀d' t sl w',bU d s=some (d',t,true)→Hp E w' (aT 1 sl (t.map vB)::F)→K (bW d.L 0 0 0 true) sl true w'):
  Cl Tryz.prog [.arr 260,kS,kB] ig ⟨[.agg (bW d.L (d.left:Int) (d.run:Int) (d.digits:Int) false),.int .i64 (s:Int)]⟩ w K:=by
 have hdig:=hd.dR
 obtain ⟨L,left,run,digits⟩:=d
 obtain ⟨h1,h2,h3,h4,h5⟩:=hd
 unfold bU at hn hm he
 dsimp only at h1 h2 h3 h4 h5 hdig hn hm he⊢
 have hl:=h1.len
 have hL:=gF hl
 have hz:(⟨List.replicate 256 (.int .u8 0)++ [.int .i64 0,.int .i64 0,.int .i64 0,.bool false]⟩:Array Value).size=260:=by simp
 have hp:2^digits≤65536:=Nat.pow_le_pow_right (n:=2) (by decide) hdig
 refine tn.ok _ _ _ _ ?_
 (try simp only [au,ah,ak,Nat.zero_add,Nat.add_zero,Nat.reduceAdd,Bool.not_true,Bool.not_false,aD,aC,Option.isNone])
 refine Nw.mk h fun b4 w h=>Nw.mk h fun b6 w h=> ?_
 by_cases hs2:s<2
 ·simp only [if_pos hs2] at hn hm he
  have hb:(1+s)*2^digits≤131072:=by
   have:=Nat.mul_le_mul (show 1+s≤2 by omega) hp
   omega
  have fin: ∀w,Hp E w (aq b6 (.cells ⟨List.replicate 256 (.int .u8 0)++ [.int .i64 0,.int .i64 0,.int .i64 0,.bool false]⟩ 112 (0,0))::aq b4 (.cells (bW L (left:Int) (run:Int) (digits:Int) false) 112 (0,0))::F)→
   Ld kI ⟨b4,257,none⟩ w fun (Run10:Int)=>Ld kI ⟨b4,258,none⟩ w fun (Digits11:Int)=>
   Cl Tryz.prog [kI,kI] fC ⟨[.int .i64 Run10,.int .i64 Digits11,.int .i64 (s:Int)]⟩ w fun r13 _ w_12=>
   St ⟨b4,257,none⟩ (.int .i64 r13) w_12 fun w_15=>Ld kI ⟨b4,258,none⟩ w_15 fun (Digits16:Int)=>St ⟨b4,258,none⟩ (.int .i64 (i64 (Digits16+1))) w_15 fun w_17=>
   cJ w_17 fun S18 w_19=>ab (.arr 260) ⟨b4,0,none⟩ S18 fun x20=>ab kI ⟨b4,257,none⟩ S18 fun (Run21:Int)=>ab kI ⟨b4,256,none⟩ S18 fun (Left22:Int)=>
   an 260 ⟨b6,0,none⟩ x20 w_19 fun w_23=>S18 w_23∧Ld (.arr 260) ⟨b6,0,none⟩ w_23 fun res24=>K res24 ⟨none,0,0⟩ (decide (Run21≤Left22)) w_23:=by
   intro w h
   (with_reducible repeat first|refine Nw.mk h fun b w h=> ?_|refine ag.mk h fun w h=> ?_|refine Ld.q h hL rfl rfl ?_|refine ab.q (fun _ h=>h) hL rfl rfl ?_|refine Ld.p h hL ?_|refine ab.p (fun _ h=>h) hL ?_|refine Ld.qw h hL rfl ?_|refine ab.qw (fun _ h=>h) hL rfl ?_|refine ⟨h.hb,?_⟩|(refine St.q h hL rfl rfl rfl fun w h=> ?_;dsimp only [af,ad] at h)|refine aa.yes ?_|refine aa.no ?_|refine ⟨by first|omega|decide,?_⟩)
   refine AD (by omega) hdig (by omega) ?_
   generalize (1+s)*2^digits=q at hb hm hn⊢
   (with_reducible repeat first|refine Nw.mk h fun b w h=> ?_|refine ag.mk h fun w h=> ?_|refine Ld.q h hL rfl rfl ?_|refine ab.q (fun _ h=>h) hL rfl rfl ?_|refine Ld.p h hL ?_|refine ab.p (fun _ h=>h) hL ?_|refine Ld.qw h hL rfl ?_|refine ab.qw (fun _ h=>h) hL rfl ?_|refine ⟨h.hb,?_⟩|(refine St.q h hL rfl rfl rfl fun w h=> ?_;dsimp only [af,ad] at h)|refine aa.yes ?_|refine aa.no ?_|refine ⟨by first|omega|decide,?_⟩)
   rw [aj (by omega)] at h
   have h:=h.drew (n:=w.drawn+1)
   refine ⟨bq b4 _ _ _,h.hb,?_⟩
   dsimp only
   (with_reducible repeat first|refine Nw.mk h fun b w h=> ?_|refine ag.mk h fun w h=> ?_|refine Ld.q h hL rfl rfl ?_|refine ab.q (fun _ h=>h) hL rfl rfl ?_|refine Ld.p h hL ?_|refine ab.p (fun _ h=>h) hL ?_|refine Ld.qw h hL rfl ?_|refine ab.qw (fun _ h=>h) hL rfl ?_|refine ⟨h.hb,?_⟩|(refine St.q h hL rfl rfl rfl fun w h=> ?_;dsimp only [af,ad] at h)|refine aa.yes ?_|refine aa.no ?_|refine ⟨by first|omega|decide,?_⟩)
   refine an.q h hz (aG hl) aH fun w h=>⟨h.hb,?_⟩
   (with_reducible repeat first|refine Nw.mk h fun b w h=> ?_|refine ag.mk h fun w h=> ?_|refine Ld.q h hL rfl rfl ?_|refine ab.q (fun _ h=>h) hL rfl rfl ?_|refine Ld.p h hL ?_|refine ab.p (fun _ h=>h) hL ?_|refine Ld.qw h hL rfl ?_|refine ab.qw (fun _ h=>h) hL rfl ?_|refine ⟨h.hb,?_⟩|(refine St.q h hL rfl rfl rfl fun w h=> ?_;dsimp only [af,ad] at h)|refine aa.yes ?_|refine aa.no ?_|refine ⟨by first|omega|decide,?_⟩)
   by_cases hle:run+q≤left
   ·rw [if_pos hle] at hm
    exact cR (K:=fun b w=>K _ _ b w) (decide_eq_true (by omega)) (hm ⟨L,left,run+q,digits+1⟩ [] _ _ rfl (h.tl.bh 1))
   ·rw [if_neg hle] at hn
    exact cR (K:=fun b w=>K _ _ b w) (decide_eq_false (by omega)) (hn _ _ _ rfl (aG hl) aH h.tl)
  by_cases h0:s=0
  ·exact aa.et (by omega) (fin _ h)
  ·refine aa.ef (by omega) ?_
   exact aa.et (by omega) (fin _ h)
 ·simp only [if_neg hs2] at hn hm he
  refine aa.ef (by omega) (aa.ef (by omega) ?_)
  by_cases hs3:s=257
  ·simp only [if_pos hs3] at hn hm he
   refine aa.et (by omega) ?_
   have h:=h.drew (n:=w.drawn+1)
   refine ⟨bq b4 _ _ _,h.hb,?_⟩
   dsimp only
   (with_reducible repeat first|refine Nw.mk h fun b w h=> ?_|refine ag.mk h fun w h=> ?_|refine Ld.q h hL rfl rfl ?_|refine ab.q (fun _ h=>h) hL rfl rfl ?_|refine Ld.p h hL ?_|refine ab.p (fun _ h=>h) hL ?_|refine Ld.qw h hL rfl ?_|refine ab.qw (fun _ h=>h) hL rfl ?_|refine ⟨h.hb,?_⟩|(refine St.q h hL rfl rfl rfl fun w h=> ?_;dsimp only [af,ad] at h)|refine aa.yes ?_|refine aa.no ?_|refine ⟨by first|omega|decide,?_⟩)
   refine bx.DB hl ?_
   (with_reducible repeat first|refine Nw.mk h fun b w h=> ?_|refine ag.mk h fun w h=> ?_|refine Ld.q h hL rfl rfl ?_|refine ab.q (fun _ h=>h) hL rfl rfl ?_|refine Ld.p h hL ?_|refine ab.p (fun _ h=>h) hL ?_|refine Ld.qw h hL rfl ?_|refine ab.qw (fun _ h=>h) hL rfl ?_|refine ⟨h.hb,?_⟩|(refine St.q h hL rfl rfl rfl fun w h=> ?_;dsimp only [af,ad] at h)|refine aa.yes ?_|refine aa.no ?_|refine ⟨by first|omega|decide,?_⟩)
   refine ux h hl (by omega) fun sl w h=>⟨h.hb,?_⟩
   refine an.q h hz (aG hl) aH fun w h=>⟨h.hb,?_⟩
   refine Ld.xw h (aG hl) ?_
   by_cases hrl:run=left
   ·rw [if_pos hrl] at he
    exact cR (K:=fun b w=>K _ _ b w) (beq_iff_eq.2 (by omega)) (he _ _ _ _ rfl ((h.no 1).no 1))
   ·rw [if_neg hrl] at hn
    exact cR (K:=fun b w=>K _ _ b w) (beq_eq_false_iff_ne.2 (by omega)) (hn _ _ _ rfl (aG hl) aH h.tl)
  ·simp only [if_neg hs3] at hn hm he
   refine aa.ef (by omega) ?_
   (with_reducible repeat first|refine Nw.mk h fun b w h=> ?_|refine ag.mk h fun w h=> ?_|refine Ld.q h hL rfl rfl ?_|refine ab.q (fun _ h=>h) hL rfl rfl ?_|refine Ld.p h hL ?_|refine ab.p (fun _ h=>h) hL ?_|refine Ld.qw h hL rfl ?_|refine ab.qw (fun _ h=>h) hL rfl ?_|refine ⟨h.hb,?_⟩|(refine St.q h hL rfl rfl rfl fun w h=> ?_;dsimp only [af,ad] at h)|refine aa.yes ?_|refine aa.no ?_|refine ⟨by first|omega|decide,?_⟩)
   by_cases hrl:run=left
   ·rw [if_pos hrl] at hn
    refine aa.et (by omega) ?_
    (with_reducible repeat first|refine Nw.mk h fun b w h=> ?_|refine ag.mk h fun w h=> ?_|refine Ld.q h hL rfl rfl ?_|refine ab.q (fun _ h=>h) hL rfl rfl ?_|refine Ld.p h hL ?_|refine ab.p (fun _ h=>h) hL ?_|refine Ld.qw h hL rfl ?_|refine ab.qw (fun _ h=>h) hL rfl ?_|refine ⟨h.hb,?_⟩|(refine St.q h hL rfl rfl rfl fun w h=> ?_;dsimp only [af,ad] at h)|refine aa.yes ?_|refine aa.no ?_|refine ⟨by first|omega|decide,?_⟩)
    refine an.q h hz (aG hl) aH fun w h=> ?_
    (with_reducible repeat first|refine Nw.mk h fun b w h=> ?_|refine ag.mk h fun w h=> ?_|refine Ld.q h hL rfl rfl ?_|refine ab.q (fun _ h=>h) hL rfl rfl ?_|refine Ld.p h hL ?_|refine ab.p (fun _ h=>h) hL ?_|refine Ld.qw h hL rfl ?_|refine ab.qw (fun _ h=>h) hL rfl ?_|refine ⟨h.hb,?_⟩|(refine St.q h hL rfl rfl rfl fun w h=> ?_;dsimp only [af,ad] at h)|refine aa.yes ?_|refine aa.no ?_|refine ⟨by first|omega|decide,?_⟩)
    exact hn _ _ _ rfl (aG hl) aH h.tl
   ·rw [if_neg hrl] at hm
    refine aa.ef (by omega) ?_
    (with_reducible repeat first|refine Nw.mk h fun b w h=> ?_|refine ag.mk h fun w h=> ?_|refine Ld.q h hL rfl rfl ?_|refine ab.q (fun _ h=>h) hL rfl rfl ?_|refine Ld.p h hL ?_|refine ab.p (fun _ h=>h) hL ?_|refine Ld.qw h hL rfl ?_|refine ab.qw (fun _ h=>h) hL rfl ?_|refine ⟨h.hb,?_⟩|(refine St.q h hL rfl rfl rfl fun w h=> ?_;dsimp only [af,ad] at h)|refine aa.yes ?_|refine aa.no ?_|refine ⟨by first|omega|decide,?_⟩)
    rw [aj (by omega),show (s:Int) - 1=((s - 1:Nat):Int) by omega]
    refine zN h hl (by omega) fun w h=> ?_
    have hml:(cn L (s - 1)).length=256:=by rw [xj (by omega)];exact hl
    have hM:(⟨a7 (cn L (s - 1))⟩:Array Value).size=256:=by simp [hml]
    refine Nw.mk h fun b47 w h=> ?_
    refine an.q h (by simp) hM cO fun w h=> ?_
    (with_reducible repeat first|refine Nw.mk h fun b w h=> ?_|refine ag.mk h fun w h=> ?_|refine Ld.q h hL rfl rfl ?_|refine ab.q (fun _ h=>h) hL rfl rfl ?_|refine Ld.p h hL ?_|refine ab.p (fun _ h=>h) hL ?_|refine Ld.qw h hL rfl ?_|refine ab.qw (fun _ h=>h) hL rfl ?_|refine ⟨h.hb,?_⟩|(refine St.q h hL rfl rfl rfl fun w h=> ?_;dsimp only [af,ad] at h)|refine aa.yes ?_|refine aa.no ?_|refine ⟨by first|omega|decide,?_⟩)
    refine ux h hl (by omega) fun sl w h=> ?_
    refine Nw.mk h fun b53 w h=> ?_
    have hsl:=(h.at 1).cN
    simp only [List.length_map,List.length_replicate,Nat.mul_one] at hsl
    refine cC (ys:= [vB (L.getD (s - 1) 0)]) (n:=1) vN (by decide) (.inl ⟨5,by kernel_rfl⟩) (h.at 1) (.inl ⟨some ⟨b53,0,none⟩,1,1,rfl,rfl,h.aB (ao.aN rfl rfl)⟩) rfl (fun y hy=>by simp at hy;subst hy;rfl) (by omega) (by omega) fun s' w h hs'=> ?_
    refine Ld.xw h hM ?_
    (with_reducible repeat first|refine Nw.mk h fun b w h=> ?_|refine ag.mk h fun w h=> ?_|refine Ld.q h hL rfl rfl ?_|refine ab.q (fun _ h=>h) hL rfl rfl ?_|refine Ld.p h hL ?_|refine ab.p (fun _ h=>h) hL ?_|refine Ld.qw h hL rfl ?_|refine ab.qw (fun _ h=>h) hL rfl ?_|refine ⟨h.hb,?_⟩|(refine St.q h hL rfl rfl rfl fun w h=> ?_;dsimp only [af,ad] at h)|refine aa.yes ?_|refine aa.no ?_|refine ⟨by first|omega|decide,?_⟩)
    rw [hs',aj (by omega),show (left:Int) - ((sl.len+1:Nat):Int)=((left - (run+1):Nat):Int) by omega]
    refine bx.yS hml ?_
    refine an.q h hz (aG hml) aH fun w h=> ?_
    refine Ld.xw h (aG hml) ?_
    refine hm ⟨cn L (s - 1),left - (run+1),0,0⟩ _ _ _ rfl ?_
    have e:(List.replicate run (L.getD 0 0)).map vB++ [vB (L.getD (s - 1) 0)]=(List.replicate run (L.getD 0 0)++ [L.getD (s - 1) 0]).map vB:=by simp
    rw [e] at h
    exact (((h.no 1).no 1).no 1).no 1
theorem yl {d:DS} {s:Nat} {K:Array Value→Sl→Bool→Int→World→Prop} (h:Hp E w F) (hd:eI d) (hs:s<258)
  (hn: ∀o w',bU d s=none→o.size=260→o.toList.all ay=true→Hp E w' F→K o ⟨none,0,0⟩ false 160 w')
  (hm: ∀d' t sl w',bU d s=some (d',t,false)→Hp E w' (aT 1 sl (t.map vB)::F)→K (bW d'.L (d'.left:Int) (d'.run:Int) (d'.digits:Int) false) sl false 0 w')
  (he: ∀d' t sl w',bU d s=some (d',t,true)→Hp E w' (aT 1 sl (t.map vB)::F)→K (bW d.L 0 0 0 true) sl true 0 w'):
  Cl Tryz.prog [.arr 260,kS,kB,kI] ij ⟨[.agg (bW d.L (d.left:Int) (d.run:Int) (d.digits:Int) false),.int .i64 (s:Int)]⟩ w K:=by
 have hl:=hd.1.len
 have hL:=gF hl
 have hz:(⟨List.replicate 256 (.int .u8 0)++ [.int .i64 0,.int .i64 0,.int .i64 0,.bool false]⟩:Array Value).size=260:=by simp
 refine sZ.ok _ _ _ _ ?_
 (try simp only [au,ah,ak,Nat.zero_add,Nat.add_zero,Nat.reduceAdd,Bool.not_true,Bool.not_false,aD,aC,Option.isNone])
 refine Nw.mk h fun b4 w h=>Nw.mk h fun b6 w h=> ?_
 (with_reducible repeat first|refine Nw.mk h fun b w h=> ?_|refine ag.mk h fun w h=> ?_|refine Ld.q h hL rfl rfl ?_|refine ab.q (fun _ h=>h) hL rfl rfl ?_|refine Ld.p h hL ?_|refine ab.p (fun _ h=>h) hL ?_|refine Ld.qw h hL rfl ?_|refine ab.qw (fun _ h=>h) hL rfl ?_|refine ⟨h.hb,?_⟩|(refine St.q h hL rfl rfl rfl fun w h=> ?_;dsimp only [af,ad] at h)|refine aa.yes ?_|refine aa.no ?_|refine ⟨by first|omega|decide,?_⟩)
 refine vJ h hd fun w h=> ?_
 (with_reducible repeat first|refine Nw.mk h fun b w h=> ?_|refine ag.mk h fun w h=> ?_|refine Ld.q h hL rfl rfl ?_|refine ab.q (fun _ h=>h) hL rfl rfl ?_|refine Ld.p h hL ?_|refine ab.p (fun _ h=>h) hL ?_|refine Ld.qw h hL rfl ?_|refine ab.qw (fun _ h=>h) hL rfl ?_|refine ⟨h.hb,?_⟩|(refine St.q h hL rfl rfl rfl fun w h=> ?_;dsimp only [af,ad] at h)|refine aa.yes ?_|refine aa.no ?_|refine ⟨by first|omega|decide,?_⟩)
 refine yh h hd hs (fun o sl w hq ho hos h=> ?_) (fun d' t sl w hq h=> ?_) (fun d' t sl w hq h=> ?_)
 ·refine an.q h hz ho hos fun w h=> ?_
  (with_reducible repeat first|refine Nw.mk h fun b w h=> ?_|refine ag.mk h fun w h=> ?_|refine Ld.q h hL rfl rfl ?_|refine ab.q (fun _ h=>h) hL rfl rfl ?_|refine Ld.p h hL ?_|refine ab.p (fun _ h=>h) hL ?_|refine Ld.qw h hL rfl ?_|refine ab.qw (fun _ h=>h) hL rfl ?_|refine ⟨h.hb,?_⟩|(refine St.q h hL rfl rfl rfl fun w h=> ?_;dsimp only [af,ad] at h)|refine aa.yes ?_|refine aa.no ?_|refine ⟨by first|omega|decide,?_⟩)
  refine an.q h ho (aG hl) aH fun w h=> ?_
  refine Ld.xw h (aG hl) ?_
  exact hn _ _ hq (aG hl) aH h.tl
 ·have hl':=(pe hd hs hq).1.1.len
  have hL:=gF hl'
  refine an.q h hz (aG hl') aH fun w h=> ?_
  (with_reducible repeat first|refine Nw.mk h fun b w h=> ?_|refine ag.mk h fun w h=> ?_|refine Ld.q h hL rfl rfl ?_|refine ab.q (fun _ h=>h) hL rfl rfl ?_|refine Ld.p h hL ?_|refine ab.p (fun _ h=>h) hL ?_|refine Ld.qw h hL rfl ?_|refine ab.qw (fun _ h=>h) hL rfl ?_|refine ⟨h.hb,?_⟩|(refine St.q h hL rfl rfl rfl fun w h=> ?_;dsimp only [af,ad] at h)|refine aa.yes ?_|refine aa.no ?_|refine ⟨by first|omega|decide,?_⟩)
  refine an.q h (aG hl') (aG hl') aH fun w h=> ?_
  refine Ld.xw h (aG hl') ?_
  exact hm _ _ _ _ hq ((h.no 1).no 1)
 ·refine an.q h hz (aG hl) aH fun w h=> ?_
  (with_reducible repeat first|refine Nw.mk h fun b w h=> ?_|refine ag.mk h fun w h=> ?_|refine Ld.q h hL rfl rfl ?_|refine ab.q (fun _ h=>h) hL rfl rfl ?_|refine Ld.p h hL ?_|refine ab.p (fun _ h=>h) hL ?_|refine Ld.qw h hL rfl ?_|refine ab.qw (fun _ h=>h) hL rfl ?_|refine ⟨h.hb,?_⟩|(refine St.q h hL rfl rfl rfl fun w h=> ?_;dsimp only [af,ad] at h)|refine aa.yes ?_|refine aa.no ?_|refine ⟨by first|omega|decide,?_⟩)
  refine an.q h (aG hl) (aG hl) aH fun w h=> ?_
  refine Ld.xw h (aG hl) ?_
  exact he _ _ _ _ hq ((h.no 1).no 1)
end
end Go.Proofs.YtgglghjnakclmaaGreat
set_option maxRecDepth 20000
namespace Go.Srt
open Go.aX
def aX (b:List Nat):Prop:= ∀x∈b,x≤1
theorem aX.getD {b:List Nat} (h:aX b) (i:Nat):b.getD i 0≤1:=by
 rw [List.getD_eq_getElem?_getD]
 cases hx:b[i]? with
 |none=>simp
 |some x=>exact h x (List.mem_of_getElem? hx)
theorem aX.app {a b:List Nat} (ha:aX a) (hb:aX b):aX (a++b):=fun x hx=>by
 rcases List.mem_append.1 hx with h|h
 ·exact ha x h
 ·exact hb x h
theorem mA {b:List Nat} {i:Nat} (h:b.length≤i):b.getD i 0=0:=by rw [List.getD_eq_getElem?_getD,List.getElem?_eq_none h];rfl
theorem wI (b:List Nat) (x i:Nat):(b++ [x]).getD i 0=b.getD i 0+if i=b.length then x else 0:=by
 rcases Nat.lt_trichotomy i b.length with h|h|h
 ·rw [if_neg (by omega),List.getD_eq_getElem?_getD,List.getElem?_append_left h,←List.getD_eq_getElem?_getD];rfl
 ·subst h
  rw [if_pos rfl,mA (Nat.le_refl _),List.getD_eq_getElem?_getD,List.getElem?_append_right (Nat.le_refl _),Nat.sub_self]
  simp
 ·rw [if_neg (by omega),mA (b:=b++ [x]) (by simp;omega),mA (b:=b) (by omega)]
end Go.Srt
set_option maxRecDepth 20000
namespace Go.Srt
open Go.aX
def bn:Nat→Nat→List Nat
 |0,_=> []
 |n+1,v=>bn n (v/2)++ [v % 2]
theorem gY: ∀n v,(bn n v).length=n
 |0,_=>rfl
 |n+1,v=>by rw [bn,List.length_append,gY n];rfl
theorem wR: ∀n v i,i<n→(bn n v).getD i 0=v/2^(n - 1 - i) % 2
 |0,_,_,h=>by omega
 |n+1,v,i,h=>by
  rw [bn,wI,gY]
  by_cases e:i=n
  ·subst e
   rw [if_pos rfl,mA (by rw [gY];exact Nat.le_refl _),show i+1 - 1 - i=0 by omega];simp
  ·rw [if_neg e,wR n _ i (by omega),Nat.add_zero,Nat.div_div_eq_div_mul]
   congr 2
   rw [show n+1 - 1 - i=(n - 1 - i)+1 by omega,Nat.pow_succ,Nat.mul_comm]
def jI (l:List Nat) (s:Nat):Prop:=s<258∧0<l.getD s 0
def Dw (l:List Nat) (s:Nat):List Nat:=bn (l.getD s 0) (code l s)
def enc (l:List Nat) (ss:List Nat):List Nat:=ss.flatMap (Dw l)
def cw (l:List Nat) (c n:Nat):Option Nat:=(List.range 258).find? fun s=>decide (0<l.getD s 0)&&(l.getD s 0==n)&&(code l s==c)
theorem iH {l:List Nat} {c n s:Nat} (h:cw l c n=some s):jI l s∧l.getD s 0=n∧code l s=c:=by
 unfold cw at h
 have h1:=List.find?_some h
 have h2:=List.mem_of_find?_eq_some h
 simp only [Bool.and_eq_true,decide_eq_true_eq,beq_iff_eq] at h1
 exact ⟨⟨by simpa using h2,h1.1.1⟩,h1.1.2,h1.2⟩
theorem uY {l:List Nat} {c n:Nat} (h:cw l c n=none) {s:Nat} (hs:jI l s): ¬(l.getD s 0=n∧code l s=c):=by
 unfold cw at h
 have:=List.find?_eq_none.1 h s (by simpa using hs.1)
 simp only [Bool.and_eq_true,decide_eq_true_eq,beq_iff_eq] at this
 exact fun hh=>this ⟨⟨hs.2,hh.1⟩,hh.2⟩
theorem yg {l:List Nat} (hl:l.length=258) {s t:Nat} (hs:jI l s) (ht:jI l t) (h1:l.getD s 0=l.getD t 0) (h2:code l s=code l t):s=t:=by
 have h3:=hs.1;have h4:=ht.1
 refine rN (by omega) (by omega) h1 ?_
 unfold code at h2
 rw [h1] at h2
 omega
theorem nP {l:List Nat} (hl:l.length=258) {s:Nat} (hs:jI l s):cw l (code l s) (l.getD s 0)=some s:=by
 cases h:cw l (code l s) (l.getD s 0) with
 |none=>exact absurd ⟨rfl,rfl⟩ (uY h hs)
 |some t=>
  obtain ⟨h1,h2,h3⟩:=iH h
  rw [yg hl h1 hs h2 h3]
def bitsOf (b:List Nat) (n:Nat):List Nat:=(List.range n).map (bw b)
theorem uT (b:List Nat) (n:Nat):(bitsOf b n).length=n:=by simp [bitsOf]
theorem sN (b:List Nat) (n:Nat):aX (bitsOf b n):=fun x hx=>by
 obtain ⟨i,_,rfl⟩:=List.mem_map.1 hx
 have:=kO b i
 omega
end Go.Srt
set_option maxRecDepth 20000
namespace Go.Crc
def half (c:Nat):Nat:=(c/2)^^^(if c % 2=1 then 3988292384 else 0)
def row (c:Nat):Nat:=half (half (half (half (half (half (half (half c)))))))
def step (c b:Nat):Nat:=row ((c % 256)^^^b)^^^(c/256)
end Go.Crc
set_option maxRecDepth 20000
namespace Go.Bw
open Go.Rk
abbrev lx:List Nat→List Nat→Bool:=Go.Vc.Cv
theorem mh (a b:Nat) (x y:List Nat):lx (a::x) (b::y)=(decide (a<b)||(a==b&&lx x y)):=rfl
theorem nW: ∀x,lx x x=false
 | []=>rfl
 |a::x=>by rw [mh,nW x];simp
theorem vV: ∀(k c d:List Nat),lx (k++c) (k++d)=lx c d
 | [],_,_=>rfl
 |a::k,c,d=>by rw [List.cons_append,List.cons_append,mh,vV k];simp
theorem qq: ∀(a b c d:List Nat),a≠b→(a.length<b.length→c= [])→(b.length<a.length→d= [])→lx (a++c) (b++d)=lx a b
 | [],[],_,_,h,_,_=>absurd rfl h
 | [],y::b,c,d,_,h1,_=>by rw [h1 (by simp)];rfl
 |x::a,[],c,d,_,_,h2=>by rw [h2 (by simp)];rfl
 |x::a,y::b,c,d,h,h1,h2=>by
  rw [List.cons_append,List.cons_append,mh,mh]
  by_cases e:x=y
  ·subst e
   rw [qq a b c d (fun e=>h (by rw [e])) (fun hl=>h1 (by simpa using hl)) (fun hl=>h2 (by simpa using hl))]
  ·rw [beq_eq_false_iff_ne.2 e,Bool.false_and,Bool.false_and]
def sl (t:List Nat) (i k:Nat):Bool:=lx (t.drop i) (t.drop k)
def rows (t:List Nat):List Nat:=List.range (t.length+1)
def CK (t:List Nat) (i:Nat):Nat:=rk (sl t) (rows t) i
def DF (index row:Nat):Nat:=if row>index then row - 1 else row
def pl (last:List Nat) (a b:Nat):Bool:=decide (last.getD a 0<last.getD b 0)||(last.getD a 0==last.getD b 0&&decide (a<b))
def nx (last:List Nat) (a:Nat):Nat:=1+rk (pl last) (List.range last.length) a
def wk (last:List Nat) (index:Nat):Nat→Nat
 |0=>0
 |k+1=>nx last (DF index (wk last index k))
def okB (last:List Nat) (index:Nat):Prop:=index≤last.length∧(∀k,k<last.length→wk last index k≠index)∧wk last index last.length=index
instance (last:List Nat) (index:Nat):Decidable (okB last index):=by unfold okB;infer_instance
end Go.Bw
set_option maxRecDepth 20000
namespace Go.aq
open Go.Inc Go.Srt Go.Sym Go.aX Go.Tab Go.Hd Go.Crc Go.Bw
def aQ (b:List Nat):List Nat:=bitsOf b (8*b.length)
theorem bo (b:List Nat):(aQ b).length=8*b.length:=uT _ _
theorem mQ (a b:List Nat):aQ (a++b)=aQ a++aQ b:=by
 unfold aQ bitsOf
 rw [List.length_append,Nat.mul_add,List.range_add,List.map_append]
 congr 1
 ·refine List.map_congr_left fun i hi=> ?_
  rw [List.mem_range] at hi
  unfold bw
  rw [List.getD,List.getD,List.getElem?_append_left (by omega)]
 ·rw [List.map_map]
  refine List.map_congr_left fun i hi=> ?_
  simp only [Function.comp]
  unfold bw
  rw [List.getD,List.getD,List.getElem?_append_right (by omega),show (8*a.length+i)/8 - a.length=i/8 by omega,show (8*a.length+i) % 8=i % 8 by omega]
def kC (b:List Nat):Nat:=8*((b.length+7)/8) - b.length
def body (l last:List Nat):List Nat:=C4 l++enc l (syms last)
def ml (left:List Nat):Bool:=(left.take (left.length % 8)).all (·==0)
section
variable {l:List Nat}
theorem Ay (h:bz l=true): ∀x∈l,x≤15:=fun x hx=>by
 obtain ⟨i,hi,rfl⟩:=List.mem_iff_getElem.1 hx
 have:=gV (l:=l) (by rw [(iW.1 h).1];decide) i
 rwa [cg hi] at this
end
end Go.aq
set_option maxRecDepth 20000
namespace Go.Prs
open Go.Inc Go.Srt Go.Sym Go.aX Go.Tab Go.Hd Go.Crc Go.Bw Go.aq
inductive Ev where
 |hdr (n:Nat)|aN (M P sum:Nat)|bytes (t:List Nat)|bend|tail (sum:Nat)|fin|bad (e:Nat)
deriving DecidableEq
inductive PS where
 |head (h:HS)|mark (n:Nat) (m:MS)|tab (n M:Nat) (t:TS)|sym (n:Nat) (l:List Nat) (k m:Nat) (d:DS)|pad (n:Nat)|behind (n:Nat)|ad (n:Nat)|bad (n e:Nat)
inductive CH where
 |go (s:PS) (u:Nat)|need|ev (e:Ev) (s:PS) (u:Nat)
def fu (u:Nat):Nat:=if u % 8=0 then 0 else 8 - u % 8
def short (ended:Bool) (n u:Nat):CH:=if ended then .ev (.bad 50) (.bad n 50) u else .need
def aw (ended:Bool) (c:List Nat):PS→Nat→CH
 | .head h,u=>if u+8≤8*c.length then (match bd h (val c u 8) with
   | .more h'=> .go (.head h') (u+8)
   | .fin n=> .ev (.hdr n) (.mark n dD) (u+8)
   | .bad e=> .ev (.bad e) (.bad 0 e) (u+8)) else short ended 0 u
 | .mark n m,u=>if u+8≤8*c.length then (match aL n m (val c u 8) with
   | .more m'=> .go (.mark n m') (u+8)
   | .fin (.tail s)=> .ev (.tail s) (.behind n) (u+8)
   | .fin (.aN M P s)=> .ev (.aN M P s) (.tab n M t0) (u+8)
   | .bad e=> .ev (.bad e) (.bad n e) (u+8)) else short ended n u
 | .tab n M t,u=>if u+1≤8*c.length then (match bB bz t (bw c u) with
   | .more t'=> .go (.tab n M t') (u+1)
   | .fin l=> .go (.sym n l 0 0 ⟨List.range 256,M,0,0⟩) (u+1)
   | .bad e=> .ev (.bad e) (.bad n e) (u+1)) else short ended n u
 | .sym n l k m d,u=>if u+1≤8*c.length then (match cw l (2*k+bw c u) (m+1) with
   |none=> .go (.sym n l (2*k+bw c u) (m+1) d) (u+1)
   |some y=>match bU d y with
    |none=> .ev (.bad 160) (.bad n 160) (u+1)
    |some (d',t,en)=>if t= [] then .go (if en then .pad n else .sym n l 0 0 d') (u+1) else .ev (.bytes t) (if en then .pad n else .sym n l 0 0 d') (u+1)) else short ended n u
 | .pad n,u=>if val c u (fu u)=0 then .ev .bend (.mark n dD) (u+fu u) else .ev (.bad 160) (.bad n 160) (u+fu u)
 | .behind n,u=>if u<8*c.length then .ev (.bad 261) (.bad n 261) u else if ended then .ev .fin (.ad n) u else .need
 | .ad n,u=> .ev .fin (.ad n) u
 | .bad n e,u=> .ev (.bad e) (.bad n e) u
def PS.n:PS→Nat
 | .head _=>0| .mark n _=>n| .tab n _ _=>n| .sym n _ _ _ _=>n| .pad n=>n| .behind n=>n| .ad n=>n| .bad n _=>n
def cb (c:List Nat) (s:PS) (u:Nat):Nat:=2*(8*c.length - u)+match s with
 | .pad _=>1
 |_=>0
def final:Ev→Bool
 | .fin=>true| .bad _=>true|_=>false
theorem nO {c:List Nat} {u:Nat} (h:u≤8*c.length):u+fu u≤8*c.length:=by unfold fu;split<;>omega
theorem hJ {ended:Bool} {c:List Nat} {s s':PS} {u u':Nat} (h:aw ended c s u= .go s' u'):cb c s' u'<cb c s u∧u<u'∧u'≤8*c.length:=by
 unfold aw short at h
 unfold cb
 split at h
 all_goals try (split at h)
 all_goals try (split at h)
 all_goals try (split at h)
 all_goals try (split at h)
 all_goals first
  |(cases h;done)
  |(injection h with h1 h2;subst h1;subst h2;refine ⟨?_,by omega,by omega⟩;first|(dsimp only;omega)|((try split)<;>(try split)<;>omega))
  |skip
theorem qu {ended:Bool} {c:List Nat} {s s':PS} {u u':Nat} {e:Ev} (hu:u≤8*c.length) (h:aw ended c s u= .ev e s' u'):(final e=false→cb c s' u'<cb c s u)∧u≤u'∧u'≤8*c.length:=by
 have hg:=nO hu
 unfold aw short at h
 unfold cb
 split at h
 all_goals try (split at h)
 all_goals try (split at h)
 all_goals try (split at h)
 all_goals try (split at h)
 all_goals first
  |(cases h;done)
  |(injection h with h1 h2 h3;subst h1;subst h2;subst h3;refine ⟨fun hf=> ?_,by omega,by omega⟩;first|(cases hf;done)|(dsimp only;omega)|((try split)<;>(try split)<;>omega))
  |skip
def bA (ended:Bool) (c:List Nat) (s:PS) (u:Nat):Option Ev×PS×Nat:=match aw ended c s u with
 | .ev e s' u'=>(some e,s',u')
 | .need=>(none,s,u)
 | .go s' u'=>if _h:cb c s' u'<cb c s u then bA ended c s' u' else (none,s,u)
termination_by cb c s u
def cp (ended:Bool) (c:List Nat) (s:PS) (u:Nat):List Ev:=match aw ended c s u with
 | .ev e s' u'=>e::if _h:final e=false∧cb c s' u'<cb c s u then cp ended c s' u' else []
 | .need=> []
 | .go s' u'=>if _h:cb c s' u'<cb c s u then cp ended c s' u' else []
termination_by cb c s u
section
variable {ended:Bool} {c:List Nat} {s s':PS} {u u':Nat} {e:Ev}
theorem g6 (h:aw ended c s u= .go s' u'):bA ended c s u=bA ended c s' u':=by
 rw [bA,h];simp only;rw [dif_pos (hJ h).1]
theorem fw (h:aw ended c s u= .ev e s' u'):bA ended c s u=(some e,s',u'):=by rw [bA,h]
theorem fR (h:aw ended c s u= .need):bA ended c s u=(none,s,u):=by rw [bA,h]
theorem hP (h:aw ended c s u= .go s' u'):cp ended c s u=cp ended c s' u':=by
 rw [cp,h];simp only;rw [dif_pos (hJ h).1]
theorem iY (hu:u≤8*c.length) (h:aw ended c s u= .ev e s' u') (hf:final e=false):cp ended c s u=e::cp ended c s' u':=by
 rw [cp,h];simp only;rw [dif_pos ⟨hf,(qu hu h).1 hf⟩]
theorem e9 (h:aw ended c s u= .ev e s' u') (hf:final e=true):cp ended c s u= [e]:=by
 rw [cp,h];simp only;rw [dif_neg (by rw [hf];simp)]
theorem nk (h:aw ended c s u= .need):cp ended c s u= []:=by rw [cp,h]
end
theorem o4 {ended:Bool} {c:List Nat}: ∀(k:Nat) (s:PS) (u:Nat),cb c s u=k→u≤8*c.length→match bA ended c s u with
  |(none,s',u')=>cp ended c s u= []∧u'≤8*c.length∧aw ended c s' u'= .need∧u≤u'
  |(some e,s',u')=>cp ended c s u=e::(if final e then [] else cp ended c s' u')∧u'≤8*c.length∧u≤u':=by
 intro k
 induction k using Nat.strongRecOn with
 |ind k ih=>
  intro s u hk hu
  cases hm:aw ended c s u with
  |need=>rw [fR hm];exact ⟨nk hm,hu,hm,Nat.le_refl _⟩
  |ev e s' u'=>
   rw [fw hm]
   have:=qu hu hm
   refine ⟨?_,this.2.2,this.2.1⟩
   cases hf:final e with
   |true=>rw [e9 hm hf];rfl
   |false=>rw [iY hu hm hf];rfl
  |go s' u'=>
   have hd:=hJ hm
   have:=ih (cb c s' u') (by omega) s' u' rfl hd.2.2
   rw [g6 hm,hP hm]
   revert this
   rcases bA ended c s' u' with ⟨o,s'',u''⟩
   cases o with
   |none=>exact fun ⟨h1,h2,h3,h4⟩=>⟨h1,h2,h3,by omega⟩
   |some e=>exact fun ⟨h1,h2,h4⟩=>⟨h1,h2,by omega⟩
end Go.Prs
set_option maxRecDepth 20000
namespace Go.Prs
open Go.Inc Go.Srt Go.Sym Go.aX Go.Tab Go.Hd Go.Crc Go.Bw Go.aq Go.Stm
def sh (ended:Bool):List Ev:=if ended then [.bad 50] else []
inductive Dc where
 |fin (rest:List Nat)|bad (e:Nat)|short
def bT (l:List Nat):Nat→Nat→DS→List Nat→List Ev×Dc
 |_,_,_,[]=>([],.short)
 |k,m,d,x::b=>match cw l (2*k+x) (m+1) with
  |none=>bT l (2*k+x) (m+1) d b
  |some y=>match bU d y with
   |none=>([],.bad 160)
   |some (_,t,true)=>(if t= [] then [] else [.bytes t],.fin b)
   |some (d',t,false)=>let r:=bT l 0 0 d' b;(if t= [] then r.1 else .bytes t::r.1,r.2)
def jj (ended:Bool) (M:Nat) (rest:List Nat):List Ev×Option (List Nat):=match run (bB bz) t0 (aQ rest) with
 | .short _=>(sh ended,none)
 | .bad e=>([.bad e],none)
 | .fin l more=>match bT l 0 0 ⟨List.range 256,M,0,0⟩ more with
  |(bC,.short)=>(bC++sh ended,none)
  |(bC,.bad e)=>(bC++ [.bad e],none)
  |(bC,.fin left)=>if ml left then (bC++ [.bend],some (rest.drop (rest.length - left.length/8))) else (bC++ [.bad 160],none)
def pO (ended:Bool) (n:Nat):Nat→List Nat→List Ev
 |0,_=> []
 |k+1,b=>match run (aL n) dD b with
  | .short _=>sh ended
  | .bad e=> [.bad e]
  | .fin (.tail s) rest=> .tail s::(if rest≠ [] then [.bad 261] else if ended then [.fin] else [])
  | .fin (.aN M P s) rest=> .aN M P s::((jj ended M rest).1++match (jj ended M rest).2 with
   |none=> []
   |some behind=>pO ended n k behind)
def bC (ended:Bool) (c:List Nat):List Ev:=match run bd ⟨0,0⟩ c with
 | .short _=>sh ended
 | .bad e=> [.bad e]
 | .fin n rest=> .hdr n::pO ended n (rest.length+1) rest
theorem uj {c:List Nat} (hc: ∀x∈c,x<256) {i:Nat} (hi:i<c.length):val c (8*i) 8=c[i]:=by
 have e:c.getD i 0=c[i]:=by simp [List.getD,hi]
 rw [ql c i (by rw [e];exact hc _ (List.getElem_mem hi)),e]
theorem ub {c:List Nat} {i:Nat} (hi:i<c.length):c.drop i=c[i]::c.drop (i+1):=List.drop_eq_getElem_cons hi
theorem ur {c:List Nat} {u:Nat} (hu:u<8*c.length):(aQ c).drop u=bw c u::(aQ c).drop (u+1):=by
 have hl:=bo c
 rw [List.drop_eq_getElem_cons (by omega)]
 congr 1
 simp [aQ,bitsOf]
theorem qC {c:List Nat} {u:Nat} (hu:8*c.length≤u):(aQ c).drop u= []:=List.drop_of_length_le (by rw [bo];exact hu)
theorem lS (c:List Nat) (i:Nat):aQ (c.drop i)=(aQ c).drop (8*i):=by
 rcases Nat.le_total i c.length with h|h
 ·have:=mQ (c.take i) (c.drop i)
  rw [List.take_append_drop] at this
  rw [this,List.drop_append_of_le_length (by rw [bo,List.length_take];omega),List.drop_of_length_le (l:=aQ (c.take i)) (by rw [bo,List.length_take];omega),List.nil_append]
 ·rw [List.drop_of_length_le h,List.drop_of_length_le (by rw [bo];omega)];rfl
section
variable {ended:Bool} {c:List Nat}
theorem jw {s:PS} {n u:Nat} (h:aw ended c s u=short ended n u):cp ended c s u=sh ended:=by
 unfold short at h
 unfold sh
 cases ended with
 |true=>exact e9 h rfl
 |false=>exact nk h
theorem qm (hc: ∀x∈c,x<256): ∀(k i:Nat) (h:HS),c.length - i=k→i≤c.length→cp ended c (.head h) (8*i)=match run bd h (c.drop i) with
  | .short _=>sh ended
  | .bad e=> [.bad e]
  | .fin n rest=> .hdr n::cp ended c (.mark n dD) (8*(c.length - rest.length))
 |0,i,h,hk,hi=>by
  rw [List.drop_of_length_le (by omega),l8]
  exact jw (by simp only [aw];rw [if_neg (by omega)])
 |k+1,i,h,hk,hi=>by
  have hlt:i<c.length:=by omega
  rw [ub hlt,cf]
  have hm:aw ended c (.head h) (8*i)=match bd h c[i] with
   | .more h'=> .go (.head h') (8*i+8)
   | .fin n=> .ev (.hdr n) (.mark n dD) (8*i+8)
   | .bad e=> .ev (.bad e) (.bad 0 e) (8*i+8):=by
   simp only [aw];rw [if_pos (by omega),uj hc hlt]<;>rfl
  cases hh:bd h c[i] with
  |more h'=>
   rw [hh] at hm
   rw [hP hm,show 8*i+8=8*(i+1) by omega]
   exact qm hc k (i+1) h' (by omega) (by omega)
  |fin n=>
   rw [hh] at hm
   rw [iY (by omega) hm rfl];simp only [List.length_drop];rw [show c.length - (c.length - (i+1))=i+1 by omega,show 8*i+8=8*(i+1) by omega]
  |bad e=>
   rw [hh] at hm
   rw [e9 hm rfl]
theorem rf (hc: ∀x∈c,x<256) (n:Nat): ∀(k i:Nat) (m:MS),c.length - i=k→i≤c.length→cp ended c (.mark n m) (8*i)=match run (aL n) m (c.drop i) with
  | .short _=>sh ended
  | .bad e=> [.bad e]
  | .fin (.tail s) rest=> .tail s::cp ended c (.behind n) (8*(c.length - rest.length))
  | .fin (.aN M P s) rest=> .aN M P s::cp ended c (.tab n M t0) (8*(c.length - rest.length))
 |0,i,h,hk,hi=>by
  rw [List.drop_of_length_le (by omega),l8]
  exact jw (n:=n) (by simp only [aw];rw [if_neg (by omega)])
 |k+1,i,m,hk,hi=>by
  have hlt:i<c.length:=by omega
  rw [ub hlt,cf]
  have hm:aw ended c (.mark n m) (8*i)=match aL n m c[i] with
   | .more m'=> .go (.mark n m') (8*i+8)
   | .fin (.tail s)=> .ev (.tail s) (.behind n) (8*i+8)
   | .fin (.aN M P s)=> .ev (.aN M P s) (.tab n M t0) (8*i+8)
   | .bad e=> .ev (.bad e) (.bad n e) (8*i+8):=by
   simp only [aw];rw [if_pos (by omega),uj hc hlt]<;>rfl
  cases hh:aL n m c[i] with
  |more m'=>
   rw [hh] at hm
   rw [hP hm,show 8*i+8=8*(i+1) by omega]
   exact rf hc n k (i+1) m' (by omega) (by omega)
  |fin mk=>
   rw [hh] at hm
   cases mk with
   |tail s=>rw [iY (by omega) hm rfl];simp only [List.length_drop];rw [show c.length - (c.length - (i+1))=i+1 by omega,show 8*i+8=8*(i+1) by omega]
   |aN M P s=>rw [iY (by omega) hm rfl];simp only [List.length_drop];rw [show c.length - (c.length - (i+1))=i+1 by omega,show 8*i+8=8*(i+1) by omega]
  |bad e=>
   rw [hh] at hm
   rw [e9 hm rfl]
theorem tF (n M:Nat): ∀(k u:Nat) (t:TS),8*c.length - u=k→u≤8*c.length→cp ended c (.tab n M t) u=match run (bB bz) t ((aQ c).drop u) with
  | .short _=>sh ended
  | .bad e=> [.bad e]
  | .fin l more=>cp ended c (.sym n l 0 0 ⟨List.range 256,M,0,0⟩) (8*c.length - more.length)
 |0,u,t,hk,hu=>by
  rw [qC (by omega),l8]
  exact jw (n:=n) (by simp only [aw];rw [if_neg (by omega)])
 |k+1,u,t,hk,hu=>by
  rw [ur (by omega),cf]
  have hm:aw ended c (.tab n M t) u=match bB bz t (bw c u) with
   | .more t'=> .go (.tab n M t') (u+1)
   | .fin l=> .go (.sym n l 0 0 ⟨List.range 256,M,0,0⟩) (u+1)
   | .bad e=> .ev (.bad e) (.bad n e) (u+1):=by
   simp only [aw];rw [if_pos (by omega)]<;>rfl
  cases hh:bB bz t (bw c u) with
  |more t'=>
   rw [hh] at hm
   rw [hP hm]
   exact tF n M k (u+1) t' (by omega) (by omega)
  |fin l=>
   rw [hh] at hm
   rw [hP hm];simp only [List.length_drop,bo];rw [show 8*c.length - (8*c.length - (u+1))=u+1 by omega]
  |bad e=>
   rw [hh] at hm
   rw [e9 hm rfl]
theorem oY (n:Nat) (l:List Nat): ∀(q u k m:Nat) (d:DS),8*c.length - u=q→u≤8*c.length→cp ended c (.sym n l k m d) u=match bT l k m d ((aQ c).drop u) with
  |(bC,.short)=>bC++sh ended
  |(bC,.bad e)=>bC++ [.bad e]
  |(bC,.fin left)=>bC++cp ended c (.pad n) (8*c.length - left.length)
 |0,u,k,m,d,hk,hu=>by
  rw [qC (by omega)]
  exact jw (n:=n) (by simp only [aw];rw [if_neg (by omega)])
 |q+1,u,k,m,d,hk,hu=>by
  rw [ur (by omega),bT]
  have hm:aw ended c (.sym n l k m d) u=match cw l (2*k+bw c u) (m+1) with
   |none=> .go (.sym n l (2*k+bw c u) (m+1) d) (u+1)
   |some y=>match bU d y with
    |none=> .ev (.bad 160) (.bad n 160) (u+1)
    |some (d',t,en)=>if t= [] then .go (if en then .pad n else .sym n l 0 0 d') (u+1) else .ev (.bytes t) (if en then .pad n else .sym n l 0 0 d') (u+1):=by
   simp only [aw];rw [if_pos (by omega)]<;>rfl
  cases hf:cw l (2*k+bw c u) (m+1) with
  |none=>
   rw [hf] at hm
   rw [hP hm]
   exact oY n l q (u+1) _ _ d (by omega) (by omega)
  |some y=>
   rw [hf] at hm
   simp only at hm
   simp only
   cases hd:bU d y with
   |none=>
    rw [hd] at hm
    rw [e9 hm rfl];rfl
   |some p=>
    obtain ⟨d',t,en⟩:=p
    rw [hd] at hm
    simp only at hm
    cases en with
    |true=>
     simp only
     by_cases ht:t= []
     ·rw [if_pos ht] at hm
      rw [if_pos ht,hP hm];simp only [List.length_drop,bo];rw [show 8*c.length - (8*c.length - (u+1))=u+1 by omega];rfl
     ·rw [if_neg ht] at hm
      rw [if_neg ht,iY hu hm rfl];simp only [List.length_drop,bo];rw [show 8*c.length - (8*c.length - (u+1))=u+1 by omega];rfl
    |false=>
     have ih:=oY n l q (u+1) 0 0 d' (by omega) (by omega)
     simp only
     by_cases ht:t= []
     ·rw [if_pos ht] at hm
      rw [if_pos ht,hP hm]
      exact ih
     ·rw [if_neg ht] at hm
      rw [if_neg ht,iY hu hm rfl]
      simp only [Bool.false_eq_true,if_false]
      rw [ih]
      rcases bT l 0 0 d' ((aQ c).drop (u+1)) with ⟨bC,r⟩
      cases r<;>rfl
theorem kd {α:Type} {a b:List α} (h: ∃x,b=x++a):a=b.drop (b.length - a.length):=by
 obtain ⟨x,rfl⟩:=h
 rw [List.length_append,Nat.add_sub_cancel,List.drop_left]
theorem l9 {α σ β ε:Type} {f:σ→α→nN σ β ε} {l:List α} {s:σ} {b:β} {r:List α} (h:run f s l= .fin b r):(∃x,l=x++r)∧r.length<l.length:=by
 obtain ⟨a,c,s',e,_,_⟩:=pk h
 refine ⟨⟨a++ [c],by rw [e];simp⟩,by rw [e];simp;omega⟩
theorem kW (l:List Nat): ∀(b:List Nat) (k m:Nat) (d:DS) (bC:List Ev) (left:List Nat),bT l k m d b=(bC,.fin left)→(∃x,b=x++left)∧left.length<b.length
 | [],_,_,_,_,_,h=>by simp [bT] at h
 |x::b,k,m,d,bC,left,h=>by
  rw [bT] at h
  have up:((∃y,b=y++left)∧left.length<b.length)→(∃y,x::b=y++left)∧left.length<(x::b).length:=fun ⟨⟨y,e⟩,hl⟩=>⟨⟨x::y,by rw [e];rfl⟩,by rw [List.length_cons];omega⟩
  cases hf:cw l (2*k+x) (m+1) with
  |none=>rw [hf] at h;exact up (kW l b _ _ d bC left h)
  |some y=>
   rw [hf] at h
   simp only at h
   cases hd:bU d y with
   |none=>rw [hd] at h;simp at h
   |some p=>
    obtain ⟨d',t,en⟩:=p
    rw [hd] at h
    cases en with
    |true=>
     simp only at h
     injection h with h1 h2
     injection h2 with h2
     exact ⟨⟨[x],by rw [h2];rfl⟩,by rw [h2];simp⟩
    |false=>
     simp only at h
     injection h with h1 h2
     refine up (kW l b 0 0 d' (bT l 0 0 d' b).1 left ?_)
     rw [←h2]
theorem val_zero (b:List Nat) (a:Nat): ∀n,val b a n=0↔∀j,j<n→bw b (a+j)=0
 |0=>by simp [val]
 |n+1=>by
  have ih:=val_zero b a n
  rw [val]
  constructor
  ·intro h j hj
   by_cases e:j=n
   ·rw [e];omega
   ·exact ih.1 (by omega) j (by omega)
  ·intro h
   have:=ih.2 fun j hj=>h j (by omega)
   have:=h n (by omega)
   omega
theorem wB {u:Nat} (hu:u≤8*c.length):ml ((aQ c).drop u)=true↔val c u (fu u)=0:=by
 rw [val_zero]
 unfold ml
 rw [List.all_eq_true,List.length_drop,bo]
 have hg:(8*c.length - u) % 8=fu u:=by unfold fu;split<;>omega
 have hle:=nO (c:=c) hu
 rw [hg]
 have at_: ∀j,j<fu u→(((aQ c).drop u).take (fu u))[j]? =some (bw c (u+j)):=fun j hj=>by
  rw [List.getElem?_take,if_pos hj,List.getElem?_drop]
  simp [aQ,bitsOf,show u+j<8*c.length by omega]
 constructor
 ·intro h j hj
  have:=h (bw c (u+j)) (List.mem_of_getElem? (at_ j hj))
  simpa using this
 ·intro h x hx
  obtain ⟨j,hj,e⟩:=List.mem_iff_getElem.1 hx
  have hj2:j<fu u:=by rw [List.length_take] at hj;omega
  have:=at_ j hj2
  rw [List.getElem?_eq_getElem hj,e] at this
  injection this with this
  rw [this,h j hj2];rfl
theorem vX (n M:Nat) {i:Nat} (hi:i≤c.length):cp ended c (.tab n M t0) (8*i)=(jj ended M (c.drop i)).1++match (jj ended M (c.drop i)).2 with
  |none=> []
  |some behind=>cp ended c (.mark n dD) (8*(c.length - behind.length)):=by
 rw [tF n M _ (8*i) t0 rfl (by omega),←lS]
 unfold jj
 cases hr:run (bB bz) t0 (aQ (c.drop i)) with
 |short s=>simp
 |bad e=>simp
 |fin l more=>
  simp only
  obtain ⟨h1,h2⟩:=l9 hr
  rw [lS] at h1 h2
  have hm:more=(aQ c).drop (8*c.length - more.length):=by
   have:=kd h1
   rw [List.drop_drop,List.length_drop,bo] at this
   rw [List.length_drop,bo] at h2
   rwa [show 8*i+(8*c.length - 8*i - more.length)=8*c.length - more.length by omega] at this
  rw [List.length_drop,bo] at h2
  rw [oY n l _ _ 0 0 _ rfl (by omega),←hm]
  cases hs:bT l 0 0 ⟨List.range 256,M,0,0⟩ more with
  |mk bC r=>
   cases r with
   |short=>simp
   |bad e=>simp
   |fin left=>
    simp only
    obtain ⟨h3,h4⟩:=kW l _ _ _ _ _ _ hs
    generalize hu:8*c.length - left.length=u
    have hul:u≤8*c.length:=by omega
    have hleft:left=(aQ c).drop u:=by
     have:=kd h3
     rw [hm,List.drop_drop,List.length_drop,bo] at this
     rwa [show 8*c.length - more.length+(8*c.length - (8*c.length - more.length) - left.length)=u by omega] at this
    have hp:=wB (c:=c) hul
    rw [←hleft] at hp
    by_cases hpo:ml left=true
    ·have hmic:aw ended c (.pad n) u= .ev .bend (.mark n dD) (u+fu u):=by simp only [aw];rw [if_pos (hp.1 hpo)]
     rw [if_pos hpo,iY hul hmic rfl]
     simp only
     rw [List.length_drop,List.length_drop,show u+fu u=8*(c.length - (c.length - i - (c.length - i - left.length/8))) by unfold fu;split<;>omega]
     simp
    ·have hmic:aw ended c (.pad n) u= .ev (.bad 160) (.bad n 160) (u+fu u):=by simp only [aw];rw [if_neg (fun e=>hpo (hp.2 e))]
     rw [if_neg hpo,e9 hmic rfl]
     simp
theorem qv {M:Nat} {rest behind:List Nat} (h:(jj ended M rest).2=some behind): ∃k,behind=rest.drop k:=by
 unfold jj at h
 cases hr:run (bB bz) t0 (aQ rest) with
 |short s=>rw [hr] at h;simp at h
 |bad e=>rw [hr] at h;simp at h
 |fin l more=>
  rw [hr] at h
  simp only at h
  cases hs:bT l 0 0 ⟨List.range 256,M,0,0⟩ more with
  |mk bC r=>
   rw [hs] at h
   cases r with
   |short=>simp at h
   |bad e=>simp at h
   |fin left=>
    simp only at h
    split at h
    ·simp only at h;injection h with h;exact ⟨_,h.symm⟩
    ·simp at h
theorem mn (hc: ∀x∈c,x<256) (n:Nat): ∀(k i:Nat),i≤c.length→c.length - i<k→cp ended c (.mark n dD) (8*i)=pO ended n k (c.drop i)
 |0,i,hi,hk=>by omega
 |k+1,i,hi,hk=>by
  rw [rf hc n _ i dD rfl hi,pO]
  cases hr:run (aL n) dD (c.drop i) with
  |short s=>rfl
  |bad e=>rfl
  |fin mk rest=>
   obtain ⟨h1,h2⟩:=l9 hr
   rw [List.length_drop] at h2
   have hrest:rest=c.drop (c.length - rest.length):=by
    have:=kd h1
    rw [List.drop_drop,List.length_drop] at this
    rwa [show i+(c.length - i - rest.length)=c.length - rest.length by omega] at this
   cases mk with
   |tail s=>
    simp only
    congr 1
    by_cases hz:rest= []
    ·have hl:rest.length=0:=by rw [hz];rfl
     cases hE:ended with
     |true=>
      have hmic:aw true c (.behind n) (8*(c.length - rest.length))= .ev .fin (.ad n) (8*(c.length - rest.length)):=by simp only [aw];rw [if_neg (by omega)]<;>rfl
      rw [e9 hmic rfl];simp [hz]
     |false=>
      have hmic:aw false c (.behind n) (8*(c.length - rest.length))= .need:=by simp only [aw];rw [if_neg (by omega)]<;>rfl
      rw [nk hmic];simp [hz]
    ·have hl:=List.length_pos_iff.2 hz
     have hmic:aw ended c (.behind n) (8*(c.length - rest.length))= .ev (.bad 261) (.bad n 261) (8*(c.length - rest.length)):=by simp only [aw];rw [if_pos (by omega)]
     rw [e9 hmic rfl];simp [hz]
   |aN M P s=>
    simp only
    congr 1
    rw [vX n M (by omega),←hrest]
    congr 1
    cases hb:(jj ended M rest).2 with
    |none=>rfl
    |some behind=>
     simp only
     obtain ⟨q,e⟩:=qv hb
     have hbl:behind.length≤rest.length:=by rw [e,List.length_drop];omega
     rw [mn hc n k _ (by omega) (by omega)]
     congr 1
     rw [e,hrest,List.drop_drop,List.length_drop]
     rcases Nat.le_total q rest.length with hq|hq
     ·congr 1;omega
     ·rw [List.drop_of_length_le (by omega),List.drop_of_length_le (by omega)]
theorem tU (hc: ∀x∈c,x<256):cp ended c (.head ⟨0,0⟩) 0=bC ended c:=by
 have h:=qm (ended:=ended) hc _ 0 ⟨0,0⟩ rfl (by omega)
 rw [Nat.mul_zero,List.drop_zero] at h
 rw [h]
 unfold bC
 cases hr:run bd ⟨0,0⟩ c with
 |short s=>rfl
 |bad e=>rfl
 |fin n rest=>
  obtain ⟨h1,h2⟩:=l9 hr
  have hrest:=kd h1
  simp only
  congr 1
  rw [mn hc n (rest.length+1) _ (by omega) (by omega),←hrest]
end
end Go.Prs
set_option maxRecDepth 20000
namespace Go.Prs
open Go.Inc Go.Srt Go.Sym Go.aX Go.Tab Go.Hd Go.Crc Go.Bw Go.aq Go.Stm
def Al:PS→Nat→Prop
 | .head _,u=>u % 8=0
 | .mark _ _,u=>u % 8=0
 |_,_=>True
def ln (c:List Nat) (s:PS) (u:Nat):Nat:=8*c.length - u+match s with
 | .sym _ _ _ _ _=>1
 | .pad _=>1
 |_=>0
section
variable {ended:Bool} {c:List Nat} {s s':PS} {u u':Nat} {e:Ev}
theorem zb (h:aw ended c s u= .go s' u') (hA:Al s u):ln c s' u'≤ln c s u∧Al s' u':=by
 unfold aw short at h
 unfold ln
 split at h
 all_goals try (split at h)
 all_goals try (split at h)
 all_goals try (split at h)
 all_goals try (split at h)
 all_goals first
  |(cases h;done)
  |(injection h with h1 h2;subst h1;subst h2;refine ⟨?_,?_⟩<;>first|(simp only [Al] at hA⊢;omega)|trivial|(dsimp only;omega)|((try split)<;>(try split)<;>first|omega|trivial))
  |skip
theorem BJ (u:Nat):(u+fu u) % 8=0:=by unfold fu;split<;>omega
theorem zU (hu:u≤8*c.length) (h:aw ended c s u= .ev e s' u') (hA:Al s u):(final e=false→ln c s' u'<ln c s u)∧Al s' u':=by
 have hg:=nO hu
 have ha:=BJ u
 unfold aw short at h
 unfold ln
 split at h
 all_goals try (split at h)
 all_goals try (split at h)
 all_goals try (split at h)
 all_goals try (split at h)
 all_goals first
  |(cases h;done)
  |(injection h with h1 h2 h3;subst h1;subst h2;subst h3;refine ⟨fun hf=> ?_,?_⟩<;>first|(cases hf;done)|(simp only [Al] at hA⊢;omega)|trivial|(dsimp only;omega)|((try split)<;>(try split)<;>first|omega|trivial))
  |skip
theorem yb (hu:u≤8*c.length) (h:aw ended c s u= .need) (hA:Al s u):u=8*c.length∧ended=false:=by
 cases ended with
 |true=>
  unfold aw short at h
  split at h
  all_goals try (split at h)
  all_goals try (split at h)
  all_goals try (split at h)
  all_goals try (split at h)
  all_goals first
   |(cases h;done)
   |(exact absurd rfl ‹¬(true=true)›)
   |skip
 |false=>
  refine ⟨?_,rfl⟩
  unfold aw short at h
  split at h
  all_goals try (split at h)
  all_goals try (split at h)
  all_goals try (split at h)
  all_goals try (split at h)
  all_goals first
   |(cases h;done)
   |(simp only [Al] at hA;omega)
   |omega
   |skip
theorem tT {z:List Nat} (h:u<8*c.length):bw (c++z) u=bw c u:=by
 unfold bw
 rw [List.getD,List.getD,List.getElem?_append_left (by omega)]
theorem ue {en:Bool} {z:List Nat} (hu:u≤8*c.length) (h:aw false c s u≠ .need):aw en (c++z) s u=aw false c s u:=by
 have hg:=nO hu
 have hl:(c++z).length=c.length+z.length:=List.length_append
 cases s with
 |head hs=>
  by_cases q:u+8≤8*c.length
  ·simp only [aw];rw [if_pos q,if_pos (by omega),iG _ _ _ _ q]
  ·exfalso;apply h;simp only [aw];rw [if_neg q]<;>rfl
 |mark n m=>
  by_cases q:u+8≤8*c.length
  ·simp only [aw];rw [if_pos q,if_pos (by omega),iG _ _ _ _ q]
  ·exfalso;apply h;simp only [aw];rw [if_neg q]<;>rfl
 |tab n M t=>
  by_cases q:u+1≤8*c.length
  ·simp only [aw];rw [if_pos q,if_pos (by omega),tT (by omega)]
  ·exfalso;apply h;simp only [aw];rw [if_neg q]<;>rfl
 |sym n l k m d=>
  by_cases q:u+1≤8*c.length
  ·simp only [aw];rw [if_pos q,if_pos (by omega),tT (by omega)]
  ·exfalso;apply h;simp only [aw];rw [if_neg q]<;>rfl
 |pad n=>simp only [aw];rw [iG _ _ _ _ hg]
 |behind n=>
  by_cases q:u<8*c.length
  ·simp only [aw];rw [if_pos q,if_pos (by omega)]
  ·exfalso;apply h;simp only [aw];rw [if_neg q]<;>rfl
 |ad n=>rfl
 |bad n e=>rfl
end
theorem o9 {ended:Bool} {c:List Nat}: ∀(k:Nat) (s:PS) (u:Nat),cb c s u=k→u≤8*c.length→Al s u→match bA ended c s u with
  |(none,s',u')=>u'=8*c.length∧ended=false∧Al s' u'∧∀en z,bA en (c++z) s u=bA en (c++z) s' u'
  |(some e,s',u')=>u'≤8*c.length∧Al s' u'∧(final e=false→cb c s' u'<cb c s u∧ln c s' u'<ln c s u)∧(ended=false→∀en z,bA en (c++z) s u=(some e,s',u')):=by
 intro k
 induction k using Nat.strongRecOn with
 |ind k ih=>
  intro s u hk hu hA
  cases hm:aw ended c s u with
  |need=>rw [fR hm];have:=yb hu hm hA;exact ⟨this.1,this.2,hA,fun en z=>rfl⟩
  |ev e s' u'=>
   rw [fw hm]
   have h1:=qu hu hm
   have h2:=zU hu hm hA
   refine ⟨h1.2.2,h2.2,fun hf=>⟨h1.1 hf,h2.1 hf⟩,fun he en z=> ?_⟩
   subst he
   exact fw (by rw [ue hu (by rw [hm];simp),hm])
  |go s' u'=>
   have hd:=hJ hm
   have hp:=zb hm hA
   have:=ih (cb c s' u') (by omega) s' u' rfl hd.2.2 hp.2
   have hz:ended=false→∀en z,bA en (c++z) s u=bA en (c++z) s' u':=fun he en z=>by
    subst he
    exact g6 (by rw [ue hu (by rw [hm];simp),hm])
   rw [g6 hm]
   revert this
   rcases bA ended c s' u' with ⟨o,s'',u''⟩
   cases o with
   |none=>exact fun ⟨h1,h2,h3,h4⟩=>⟨h1,h2,h3,fun en z=>by rw [hz h2,h4]⟩
   |some e=>exact fun ⟨h1,h2,h3,h4⟩=>⟨h1,h2,fun hf=>⟨by have:=(h3 hf).1;omega,by have:=(h3 hf).2;omega⟩,fun he en z=>by rw [hz he,h4 he]⟩
def cD (ended:Bool) (c:List Nat) (s:PS) (u:Nat):List Ev×Option Ev×PS×Nat:=match bA ended c s u with
 |(none,s',u')=>([],none,s',u')
 |(some e,s',u')=>if _h:final e=false∧cb c s' u'<cb c s u then (e::(cD ended c s' u').1,(cD ended c s' u').2) else ([],some e,s',u')
termination_by cb c s u
section
variable {ended:Bool} {c:List Nat} {s s':PS} {u u':Nat} {e:Ev}
theorem nr (h:bA ended c s u=(none,s',u')):cD ended c s u=([],none,s',u'):=by rw [cD,h]
theorem mr (h:bA ended c s u=(some e,s',u')) (hf:final e=true):cD ended c s u=([],some e,s',u'):=by
 rw [cD,h];simp only;rw [dif_neg (by rw [hf];simp)]
theorem ly (hu:u≤8*c.length) (hA:Al s u) (h:bA ended c s u=(some e,s',u')) (hf:final e=false):cD ended c s u=(e::(cD ended c s' u').1,(cD ended c s' u').2):=by
 have:=o9 (ended:=ended) (cb c s u) s u rfl hu hA
 rw [h] at this
 rw [cD,h];simp only;rw [dif_pos ⟨hf,(this.2.2.1 hf).1⟩]
theorem ye (hu:u≤8*c.length) (hA:Al s u) (hu':u'≤8*c.length) (hA':Al s' u') (h:bA ended c s u=bA ended c s' u'):cD ended c s u=cD ended c s' u':=by
 cases hq:bA ended c s' u' with
 |mk o p=>
  obtain ⟨a,b⟩:=p
  cases o with
  |none=>rw [nr (h.trans hq),nr hq]
  |some e=>
   cases hf:final e with
   |true=>rw [mr (h.trans hq) hf,mr hq hf]
   |false=>rw [ly hu hA (h.trans hq) hf,ly hu' hA' hq hf]
end
theorem zt {ended:Bool} {c:List Nat}: ∀(k:Nat) (s:PS) (u:Nat),cb c s u=k→u≤8*c.length→Al s u→(cD ended c s u).1.length≤ln c s u∧(cD ended c s u).2.2.2≤8*c.length∧Al (cD ended c s u).2.2.1 (cD ended c s u).2.2.2∧(∀x∈(cD ended c s u).1,final x=false)∧
  (match (cD ended c s u).2.1 with
   |none=>(cD ended c s u).2.2.2=8*c.length∧ended=false∧cp ended c s u=(cD ended c s u).1∧∀en z,cD en (c++z) s u=((cD ended c s u).1++(cD en (c++z) (cD ended c s u).2.2.1 (cD ended c s u).2.2.2).1,(cD en (c++z) (cD ended c s u).2.2.1 (cD ended c s u).2.2.2).2)
   |some e=>final e=true∧cp ended c s u=(cD ended c s u).1++ [e]∧(ended=false→∀en z,cD en (c++z) s u=cD ended c s u)):=by
 intro k
 induction k using Nat.strongRecOn with
 |ind k ih=>
  intro s u hk hu hA
  have hp:=o9 (ended:=ended) k s u hk hu hA
  have hf:=o4 (ended:=ended) k s u hk hu
  cases hq:bA ended c s u with
  |mk o p=>
   obtain ⟨s',u'⟩:=p
   rw [hq] at hp hf
   cases o with
   |none=>
    obtain ⟨h1,h2,h3,h4⟩:=hp
    rw [nr hq]
    refine ⟨Nat.zero_le _,by dsimp only;omega,h3,by simp,h1,h2,hf.1,fun en z=> ?_⟩
    have:cD en (c++z) s u=cD en (c++z) s' u':=by
     exact ye (by rw [List.length_append];omega) hA (by rw [List.length_append];omega) h3 (h4 en z)
    rw [this];rfl
   |some e=>
    obtain ⟨h1,h2,h3,h4⟩:=hp
    cases hfe:final e with
    |true=>
     rw [mr hq hfe]
     refine ⟨Nat.zero_le _,h1,h2,by simp,hfe,?_,fun he en z=> ?_⟩
     ·rw [hf.1,hfe];rfl
     ·exact mr (h4 he en z) hfe
    |false=>
     have hm:=h3 hfe
     have:=ih (cb c s' u') (by omega) s' u' rfl h1 h2
     rw [ly hu hA hq hfe]
     have hzu: ∀z:List Nat,u≤8*(c++z).length:=fun z=>by rw [List.length_append];omega
     revert this
     cases ht:cD ended c s' u' with
     |mk l r=>
      obtain ⟨o,s'',u''⟩:=r
      simp only
      rintro ⟨g1,g2,g3,g4,g5⟩
      refine ⟨by rw [List.length_cons];omega,g2,g3,fun x hx=> ?_,?_⟩
      ·rcases List.mem_cons.1 hx with h|h
       ·rw [h,hfe]
       ·exact g4 x h
      ·cases o with
       |none=>
        simp only at g5⊢
        obtain ⟨k1,k2,k3,k4⟩:=g5
        refine ⟨k1,k2,?_,fun en z=> ?_⟩
        ·rw [hf.1,hfe,k3];rfl
        ·rw [ly (hzu z) hA (h4 k2 en z) hfe,k4 en z];rfl
       |some e2=>
        simp only at g5⊢
        obtain ⟨k1,k2,k3⟩:=g5
        refine ⟨k1,?_,fun he en z=> ?_⟩
        ·rw [hf.1,hfe,k2];rfl
        ·rw [ly (hzu z) hA (h4 he en z) hfe,k3 he en z]
end Go.Prs
set_option maxRecDepth 20000
namespace Go.Srt
theorem rJ {l:List Nat} {c b x:Nat} (hl:l.length=258) (h:je l c b) (hx:x≤1):(dQ l c b x).2=cw l (2*c+x) (b+1):=by
 cases hs:(dQ l c b x).2 with
 |some s=>
  obtain ⟨h1,h2,h3,h4⟩:=q5 hl h hx hs
  have:=nP hl (s:=s) ⟨h1,by omega⟩
  rw [h2,h3] at this
  exact this.symm
 |none=>
  cases hf:cw l (2*c+x) (b+1) with
  |none=>rfl
  |some s=>
   obtain ⟨⟨h1,h2⟩,h3,h4⟩:=iH hf
   have hr:=zV (l:=l) (s:=s) (by omega) h2
   unfold code at h4
   unfold dQ at hs
   split at hs
   ·rename_i hle
    rw [h3] at h4 hr
    omega
   ·cases hs
theorem tN {l:List Nat} {c b x:Nat}:(dQ l c b x).1=match (dQ l c b x).2 with|none=>(2*c+x,b+1)|some _=>(0,0):=by
 cases hs:(dQ l c b x).2 with
 |none=>exact xR hs
 |some s=>exact yu hs
end Go.Srt
namespace Go.Proofs.YtgglghjnakclmaaGreat
open Go Go.Vc Go.aX Go.Srt Go.Inc Go.Sym Go.Tab Go.Hd Go.Prs
abbrev eg:=Int×Int×Int×Int×Int×Sl×Int×Unit
abbrev fV:Ki:= .st [.int .u8,.int .i64,.int .i64,.int .i64,.int .u32,.sl,.int .i64]
def cu (o:Option Ev) (s:Sl):eg:=match o with
 |none=>(1,0,0,0,0,s,0,())
 |some (.hdr n)=>(2,(n:Int),0,0,0,s,0,())
 |some (.aN M P u)=>(3,0,(M:Int),(P:Int),(u:Int),s,0,())
 |some (.bytes _)=>(4,0,0,0,0,s,0,())
 |some .bend=>(5,0,0,0,0,s,0,())
 |some (.tail u)=>(6,0,0,0,(u:Int),s,0,())
 |some .fin=>(7,0,0,0,0,s,0,())
 |some (.bad e)=>(8,0,0,0,0,s,(e:Int),())
def cA (o:Option Ev):List Nat:=match o with
 |some (.bytes t)=>t
 |_=> []
structure PF where
 a:Int
 h0:Int
 h1:Int
 h2:Int
 h3:Int
 m0:Int
 m1:Int
 m2:Int
 m3:Int
 m4:Int
 m5:Int
 m6:Int
 T:List Value
 C:List Value
 B:List Value
 e:Int
abbrev kZ (a h0 h1 h2 h3 m0 m1 m2 m3 m4 m5 m6:Int) (T C B:List Value) (e:Int):Array Value:=
 ⟨.int .i64 a:: .int .i64 h0:: .int .i64 h1:: .int .i64 h2:: .int .i64 h3:: .int .i64 m0:: .int .i64 m1:: .int .i64 m2:: .int .i64 m3:: .int .i64 m4:: .int .u32 m5:: .int .i64 m6::(T++(C++(B++ [.int .i64 e])))⟩
def nI (s:PS) (y:PF):Prop:=(y.T.length=262∧y.C.length=260∧y.B.length=260)∧match s with
 | .head h=>y.a=1∧y.h0=(h.at_:Int)∧y.h1=(h.v:Int)∧y.h2=(vm h.v:Int)∧y.h3=0∧y.m0=0∧y.m1=0∧y.m2=0∧y.m3=0∧y.m4=0∧y.m5=0∧y.m6=0∧lp h
 | .mark n m=>y.a=2∧y.h3=(n:Int)∧y.m0=(m.at_:Int)∧y.m1=(m.v:Int)∧y.m2=(vm m.v:Int)∧y.m3=(m.M:Int)∧y.m4=(m.P:Int)∧y.m5=(m.sum:Int)∧y.m6=(m.many:Int)∧1≤n∧n≤65536∧fN n m
 | .tab n M t=>y.a=3∧y.h3=(n:Int)∧y.m3=(M:Int)∧1≤M∧M≤n∧n≤65536∧y.T=(bX (pad t.l) (t.l.length:Int) (t.bits:Int) (t.now:Int) (t.way:Int)).toList∧cU t
 | .sym n l k m d=>y.a=4∧y.h3=(n:Int)∧1≤n∧n≤65536∧y.C=(cS l k m).toList∧l.length=258∧je l k m∧y.B=(bW d.L (d.left:Int) (d.run:Int) (d.digits:Int) false).toList∧eI d
 | .pad n=>y.a=5∧y.h3=(n:Int)∧1≤n∧n≤65536
 | .behind n=>y.a=6∧y.h3=(n:Int)
 | .ad n=>y.a=7∧y.h3=(n:Int)
 | .bad n e=>y.a=8∧y.h3=(n:Int)∧y.e=(e:Int)
def aW (b:Nat) (s:PS):HP:=fun f=> ∃y:PF,nI s y∧Sat [aq b (.cells (kZ y.a y.h0 y.h1 y.h2 y.h3 y.m0 y.m1 y.m2 y.m3 y.m4 y.m5 y.m6 y.T y.C y.B y.e) 114 (0,0))] f
section
variable {E w:World} {F:List HP} {b:Nat} {s:PS}
theorem aW.eG (h:Hp E w (aW b s::F)): ∃y:PF,nI s y∧Hp E w (aq b (.cells (kZ y.a y.h0 y.h1 y.h2 y.h3 y.m0 y.m1 y.m2 y.m3 y.m4 y.m5 y.m6 y.T y.C y.B y.e) 114 (0,0))::F):=by
 obtain ⟨y,h1,h⟩:=h.uE (X:=fun y:PF=>nI s y) (L:=fun y=> [aq b (.cells (kZ y.a y.h0 y.h1 y.h2 y.h3 y.m0 y.m1 y.m2 y.m3 y.m4 y.m5 y.m6 y.T y.C y.B y.e) 114 (0,0))]) (fun f hf=>hf)
 exact ⟨y,h1,h⟩
theorem aW.shut (y:PF) (hr:nI s y) (h:Hp E w (aq b (.cells (kZ y.a y.h0 y.h1 y.h2 y.h3 y.m0 y.m1 y.m2 y.m3 y.m4 y.m5 y.m6 y.T y.C y.B y.e) 114 (0,0))::F)):Hp E w (aW b s::F):=
 Hp.uO (l:= [_]) (fun f hf=>⟨y,hr,hf⟩) h
theorem aW.sh {a h0 h1 h2 h3 m0 m1 m2 m3 m4 m5 m6 e:Int} {T C B:List Value} (h:Hp E w (aq b (.cells (kZ a h0 h1 h2 h3 m0 m1 m2 m3 m4 m5 m6 T C B e) 114 (0,0))::F)) (hr:nI s ⟨a,h0,h1,h2,h3,m0,m1,m2,m3,m4,m5,m6,T,C,B,e⟩):Hp E w (aW b s::F):=
 aW.shut ⟨a,h0,h1,h2,h3,m0,m1,m2,m3,m4,m5,m6,T,C,B,e⟩ hr h
end
section
variable {E w:World} {l F:List HP} {b:Nat} {x0 x1 x2 x3 x4 x5 x6 x7 x8 x9 x10 x11:Value} {T C B post:List Value} {z:Value} {t:TypeId} {fr:Nat×Nat} {put:Obj→List HP} {cs:Array Value} {K:World→Prop} {KA:Array Value→Prop}
abbrev k9 (x0 x1 x2 x3 x4 x5 x6 x7 x8 x9 x10 x11:Value) (R:List Value):Array Value:=⟨x0::x1::x2::x3::x4::x5::x6::x7::x8::x9::x10::x11::R⟩
theorem vh [bl b l (k9 x0 x1 x2 x3 x4 x5 x6 x7 x8 x9 x10 x11 (T++post)) t (0,0) put] (h:Hp E w l) (hT:T.length=262) (hcs:cs.size=262) (hv:cs.toList.all ay=true)
  (hK: ∀w',Hp E w' (put (.cells (k9 x0 x1 x2 x3 x4 x5 x6 x7 x8 x9 x10 x11 (cs.toList++post)) t (0,0)))→K w'):an 262 ⟨b,12,none⟩ cs w K:=
 an.xm (pre:= [x0,x1,x2,x3,x4,x5,x6,x7,x8,x9,x10,x11]) (mid:=T) (post:=post) h rfl rfl hT hcs (List.all_eq_true.1 hv) hK
theorem Bi [bl b l (k9 x0 x1 x2 x3 x4 x5 x6 x7 x8 x9 x10 x11 (T++(C++post))) t (0,0) put] (h:Hp E w l) (hT:T.length=262) (hC:C.length=260) (hcs:cs.size=260) (hv:cs.toList.all ay=true)
  (hK: ∀w',Hp E w' (put (.cells (k9 x0 x1 x2 x3 x4 x5 x6 x7 x8 x9 x10 x11 (T++(cs.toList++post))) t (0,0)))→K w'):an 260 ⟨b,274,none⟩ cs w K:=
 an.xm (pre:=x0::x1::x2::x3::x4::x5::x6::x7::x8::x9::x10::x11::T) (mid:=C) (post:=post) h rfl (by simp [hT]) hC hcs (List.all_eq_true.1 hv) hK
theorem xC [bl b l (k9 x0 x1 x2 x3 x4 x5 x6 x7 x8 x9 x10 x11 (T++(C++(B++post)))) t (0,0) put] (h:Hp E w l) (hT:T.length=262) (hC:C.length=260) (hB:B.length=260) (hcs:cs.size=260) (hv:cs.toList.all ay=true)
  (hK: ∀w',Hp E w' (put (.cells (k9 x0 x1 x2 x3 x4 x5 x6 x7 x8 x9 x10 x11 (T++(C++(cs.toList++post)))) t (0,0)))→K w'):an 260 ⟨b,534,none⟩ cs w K:=
 an.xm (pre:=x0::x1::x2::x3::x4::x5::x6::x7::x8::x9::x10::x11::(T++C)) (mid:=B) (post:=post) h (by simp) (by simp [hT,hC]) hB hcs (List.all_eq_true.1 hv) (fun w' h'=>hK w' (by simpa using h'))
theorem C0 {v:Value} [bl b l (k9 x0 x1 x2 x3 x4 x5 x6 x7 x8 x9 x10 x11 (T++(C++(B++ [z])))) t (0,0) put] (h:Hp E w l) (hT:T.length=262) (hC:C.length=260) (hB:B.length=260) (hv:ay v=true)
  (hK: ∀w',Hp E w' (put (.cells (k9 x0 x1 x2 x3 x4 x5 x6 x7 x8 x9 x10 x11 (T++(C++(B++ [v])))) t (0,0)))→K w'):St ⟨b,794,none⟩ v w K:=
 St.xm (pre:=x0::x1::x2::x3::x4::x5::x6::x7::x8::x9::x10::x11::(T++(C++B))) (u:=z) (post:= []) h (by simp) (by simp [hT,hC,hB]) hv (fun w' h'=>hK w' (by simpa using h'))
theorem CX [bl b l (k9 x0 x1 x2 x3 x4 x5 x6 x7 x8 x9 x10 x11 (T++post)) t fr put] (h:Hp E w l) (hT:T.length=262) (hK:KA ⟨T⟩):Ld (.arr 262) ⟨b,12,none⟩ w KA:=
 Ld.xa (mid:=T) (post:=post) h rfl hT hK
theorem Dv [bl b l (k9 x0 x1 x2 x3 x4 x5 x6 x7 x8 x9 x10 x11 (T++(C++post))) t fr put] (h:Hp E w l) (hT:T.length=262) (hC:C.length=260) (hK:KA ⟨C⟩):Ld (.arr 260) ⟨b,274,none⟩ w KA:=
 Ld.xa (mid:=C) (post:=post) h (by show (T++(C++post)).drop 262=_;rw [List.drop_left' hT]) hC hK
theorem Dn [bl b l (k9 x0 x1 x2 x3 x4 x5 x6 x7 x8 x9 x10 x11 (T++(C++(B++post)))) t fr put] (h:Hp E w l) (hT:T.length=262) (hC:C.length=260) (hB:B.length=260) (hK:KA ⟨B⟩):Ld (.arr 260) ⟨b,534,none⟩ w KA:=
 Ld.xa (mid:=B) (post:=post) h (by show (T++(C++(B++post))).drop 522=_;rw [←List.append_assoc,List.drop_left' (by simp [hT,hC])]) hB hK
theorem Dj {e:Int} {KI:Int→Prop} [bl b l (k9 x0 x1 x2 x3 x4 x5 x6 x7 x8 x9 x10 x11 (T++(C++(B++ [.int .i64 e])))) t fr put] (h:Hp E w l) (hT:T.length=262) (hC:C.length=260) (hB:B.length=260) (hK:KI e):Ld kI ⟨b,794,none⟩ w KI:=by
 refine Ld.xb (x:=e) h ?_ hK
 show (T++(C++(B++ [.int .i64 e])))[782]? =_
 rw [←List.append_assoc,←List.append_assoc,List.getElem?_append_right (by simp [hT,hC,hB])]
 simp [hT,hC,hB]
end
section
variable {E w:World} {F:List HP} {b pr:Nat} {c:List Nat} {u:Nat} {ended:Bool}
theorem ca {n:Nat} {K:Int×Unit→World→Prop} (h:Hp E w F) (hK: ∀w',Hp E w' F→K ((n:Int),()) w') (hn:n=1∨n=2∨n=3∨n=4∨n=5∨n=6∨n=7∨n=8):
  Cl Tryz.prog [.st [.int .i64]] (match n with|1=>eE|2=>dw|3=>cZ|4=>dA|5=>dy|6=>dj|7=>ee|_=>eR) ⟨[]⟩ w K:=by
 rcases hn with rfl|rfl|rfl|rfl|rfl|rfl|rfl|rfl
 ·refine p8.ok _ _ ?_
  (with_reducible repeat first|refine Nw.mk h fun b w h=> ?_|refine ag.mk h fun w h=> ?_|refine Ld.xb h rfl ?_|refine Ld.xt h rfl ?_|refine ab.xb (fun _ h=>h) rfl ?_|refine ab.xt (fun _ h=>h) rfl ?_|refine ⟨h.hb,?_⟩|refine ae.xw h rfl rfl fun w h=> ?_|(refine ae.xs h rfl rfl fun w h=> ?_;dsimp only [af,ad] at h)|(refine St.xs h rfl rfl fun w h=> ?_;dsimp only [af,ad] at h)|refine aa.yes ?_|refine aa.no ?_|refine ⟨by first|omega|decide,?_⟩)
  exact hK _ h.tl
 ·refine p0.ok _ _ ?_
  (with_reducible repeat first|refine Nw.mk h fun b w h=> ?_|refine ag.mk h fun w h=> ?_|refine Ld.xb h rfl ?_|refine Ld.xt h rfl ?_|refine ab.xb (fun _ h=>h) rfl ?_|refine ab.xt (fun _ h=>h) rfl ?_|refine ⟨h.hb,?_⟩|refine ae.xw h rfl rfl fun w h=> ?_|(refine ae.xs h rfl rfl fun w h=> ?_;dsimp only [af,ad] at h)|(refine St.xs h rfl rfl fun w h=> ?_;dsimp only [af,ad] at h)|refine aa.yes ?_|refine aa.no ?_|refine ⟨by first|omega|decide,?_⟩)
  exact hK _ h.tl
 ·refine oZ.ok _ _ ?_
  (with_reducible repeat first|refine Nw.mk h fun b w h=> ?_|refine ag.mk h fun w h=> ?_|refine Ld.xb h rfl ?_|refine Ld.xt h rfl ?_|refine ab.xb (fun _ h=>h) rfl ?_|refine ab.xt (fun _ h=>h) rfl ?_|refine ⟨h.hb,?_⟩|refine ae.xw h rfl rfl fun w h=> ?_|(refine ae.xs h rfl rfl fun w h=> ?_;dsimp only [af,ad] at h)|(refine St.xs h rfl rfl fun w h=> ?_;dsimp only [af,ad] at h)|refine aa.yes ?_|refine aa.no ?_|refine ⟨by first|omega|decide,?_⟩)
  exact hK _ h.tl
 ·refine nb.ok _ _ ?_
  (with_reducible repeat first|refine Nw.mk h fun b w h=> ?_|refine ag.mk h fun w h=> ?_|refine Ld.xb h rfl ?_|refine Ld.xt h rfl ?_|refine ab.xb (fun _ h=>h) rfl ?_|refine ab.xt (fun _ h=>h) rfl ?_|refine ⟨h.hb,?_⟩|refine ae.xw h rfl rfl fun w h=> ?_|(refine ae.xs h rfl rfl fun w h=> ?_;dsimp only [af,ad] at h)|(refine St.xs h rfl rfl fun w h=> ?_;dsimp only [af,ad] at h)|refine aa.yes ?_|refine aa.no ?_|refine ⟨by first|omega|decide,?_⟩)
  exact hK _ h.tl
 ·refine na.ok _ _ ?_
  (with_reducible repeat first|refine Nw.mk h fun b w h=> ?_|refine ag.mk h fun w h=> ?_|refine Ld.xb h rfl ?_|refine Ld.xt h rfl ?_|refine ab.xb (fun _ h=>h) rfl ?_|refine ab.xt (fun _ h=>h) rfl ?_|refine ⟨h.hb,?_⟩|refine ae.xw h rfl rfl fun w h=> ?_|(refine ae.xs h rfl rfl fun w h=> ?_;dsimp only [af,ad] at h)|(refine St.xs h rfl rfl fun w h=> ?_;dsimp only [af,ad] at h)|refine aa.yes ?_|refine aa.no ?_|refine ⟨by first|omega|decide,?_⟩)
  exact hK _ h.tl
 ·refine pW.ok _ _ ?_
  (with_reducible repeat first|refine Nw.mk h fun b w h=> ?_|refine ag.mk h fun w h=> ?_|refine Ld.xb h rfl ?_|refine Ld.xt h rfl ?_|refine ab.xb (fun _ h=>h) rfl ?_|refine ab.xt (fun _ h=>h) rfl ?_|refine ⟨h.hb,?_⟩|refine ae.xw h rfl rfl fun w h=> ?_|(refine ae.xs h rfl rfl fun w h=> ?_;dsimp only [af,ad] at h)|(refine St.xs h rfl rfl fun w h=> ?_;dsimp only [af,ad] at h)|refine aa.yes ?_|refine aa.no ?_|refine ⟨by first|omega|decide,?_⟩)
  exact hK _ h.tl
 ·refine te.ok _ _ ?_
  (with_reducible repeat first|refine Nw.mk h fun b w h=> ?_|refine ag.mk h fun w h=> ?_|refine Ld.xb h rfl ?_|refine Ld.xt h rfl ?_|refine ab.xb (fun _ h=>h) rfl ?_|refine ab.xt (fun _ h=>h) rfl ?_|refine ⟨h.hb,?_⟩|refine ae.xw h rfl rfl fun w h=> ?_|(refine ae.xs h rfl rfl fun w h=> ?_;dsimp only [af,ad] at h)|(refine St.xs h rfl rfl fun w h=> ?_;dsimp only [af,ad] at h)|refine aa.yes ?_|refine aa.no ?_|refine ⟨by first|omega|decide,?_⟩)
  exact hK _ h.tl
 ·refine uV.ok _ _ ?_
  (with_reducible repeat first|refine Nw.mk h fun b w h=> ?_|refine ag.mk h fun w h=> ?_|refine Ld.xb h rfl ?_|refine Ld.xt h rfl ?_|refine ab.xb (fun _ h=>h) rfl ?_|refine ab.xt (fun _ h=>h) rfl ?_|refine ⟨h.hb,?_⟩|refine ae.xw h rfl rfl fun w h=> ?_|(refine ae.xs h rfl rfl fun w h=> ?_;dsimp only [af,ad] at h)|(refine St.xs h rfl rfl fun w h=> ?_;dsimp only [af,ad] at h)|refine aa.yes ?_|refine aa.no ?_|refine ⟨by first|omega|decide,?_⟩)
  exact hK _ h.tl
set_option maxRecDepth 20000
theorem fW {a h0 h1 h2 h3 m0 m1 m2 m3 m4 m5 m6 e0 e:Int} {T C B:List Value} {K:eg→Bool→World→Prop} (hT:T.length=262) (hC:C.length=260) (hB:B.length=260)
  (h:Hp E w (aq b (.cells (kZ a h0 h1 h2 h3 m0 m1 m2 m3 m4 m5 m6 T C B e0) 114 (0,0))::F))
  (hK: ∀w',Hp E w' (aq b (.cells (kZ 8 h0 h1 h2 h3 m0 m1 m2 m3 m4 m5 m6 T C B e) 114 (0,0))::F)→K (8,0,0,0,0,⟨none,0,0⟩,e,()) true w'):
  Cl Tryz.prog [fV,kB] a8 ⟨[.pointer (some ⟨b,0,none⟩),.int .i64 e]⟩ w K:=by
 refine lh.ok _ _ _ _ ?_
 (try simp only [au,ah,ak,Nat.zero_add,Nat.add_zero,Nat.reduceAdd,Bool.not_true,Bool.not_false,aD,aC,Option.isNone])
 (with_reducible repeat first|refine Nw.mk h fun b w h=> ?_|refine ag.mk h fun w h=> ?_|refine Ld.xb h rfl ?_|refine Ld.xt h rfl ?_|refine ab.xb (fun _ h=>h) rfl ?_|refine ab.xt (fun _ h=>h) rfl ?_|refine ⟨h.hb,?_⟩|refine ae.xw h rfl rfl fun w h=> ?_|(refine ae.xs h rfl rfl fun w h=> ?_;dsimp only [af,ad] at h)|(refine St.xs h rfl rfl fun w h=> ?_;dsimp only [af,ad] at h)|refine aa.yes ?_|refine aa.no ?_|refine ⟨by first|omega|decide,?_⟩)
 refine ca (n:=8) h (fun w h=> ?_) (by simp)
 (with_reducible repeat first|refine Nw.mk h fun b w h=> ?_|refine ag.mk h fun w h=> ?_|refine Ld.xb h rfl ?_|refine Ld.xt h rfl ?_|refine ab.xb (fun _ h=>h) rfl ?_|refine ab.xt (fun _ h=>h) rfl ?_|refine ⟨h.hb,?_⟩|refine ae.xw h rfl rfl fun w h=> ?_|(refine ae.xs h rfl rfl fun w h=> ?_;dsimp only [af,ad] at h)|(refine St.xs h rfl rfl fun w h=> ?_;dsimp only [af,ad] at h)|refine aa.yes ?_|refine aa.no ?_|refine ⟨by first|omega|decide,?_⟩)
 refine C0 h hT hC hB rfl fun w h=> ?_
 (with_reducible repeat first|refine Nw.mk h fun b w h=> ?_|refine ag.mk h fun w h=> ?_|refine Ld.xb h rfl ?_|refine Ld.xt h rfl ?_|refine ab.xb (fun _ h=>h) rfl ?_|refine ab.xt (fun _ h=>h) rfl ?_|refine ⟨h.hb,?_⟩|refine ae.xw h rfl rfl fun w h=> ?_|(refine ae.xs h rfl rfl fun w h=> ?_;dsimp only [af,ad] at h)|(refine St.xs h rfl rfl fun w h=> ?_;dsimp only [af,ad] at h)|refine aa.yes ?_|refine aa.no ?_|refine ⟨by first|omega|decide,?_⟩)
 exact hK _ (h.no 0)
theorem me {a h0 h1 h2 h3 m0 m1 m2 m3 m4 m5 m6 e0:Int} {width:Nat} {T C B:List Value} {K:Int→eg→Bool→World→Prop} (hT:T.length=262) (hC:C.length=260) (hB:B.length=260) (hw:width≤32)
  (h:Hp E w (aq b (.cells (kZ a h0 h1 h2 h3 m0 m1 m2 m3 m4 m5 m6 T C B e0) 114 (0,0))::Rd ⟨pr,0,none⟩ c u ended::F))
  (hgot:u+width≤8*c.length→∀w',Hp E w' (aq b (.cells (kZ a h0 h1 h2 h3 m0 m1 m2 m3 m4 m5 m6 T C B e0) 114 (0,0))::Rd ⟨pr,0,none⟩ c (u+width) ended::F)→K (val c u width:Int) (0,0,0,0,0,⟨none,0,0⟩,0,()) true w')
  (hend: ¬u+width≤8*c.length→ended=true→∀w',Hp E w' (aq b (.cells (kZ 8 h0 h1 h2 h3 m0 m1 m2 m3 m4 m5 m6 T C B 50) 114 (0,0))::Rd ⟨pr,0,none⟩ c u ended::F)→K 0 (8,0,0,0,0,⟨none,0,0⟩,50,()) false w')
  (hneed: ¬u+width≤8*c.length→ended=false→∀w',Hp E w' (aq b (.cells (kZ a h0 h1 h2 h3 m0 m1 m2 m3 m4 m5 m6 T C B e0) 114 (0,0))::Rd ⟨pr,0,none⟩ c u ended::F)→K 0 (1,0,0,0,0,⟨none,0,0⟩,0,()) false w'):
  Cl Tryz.prog [aJ .u32,fV,kB] bP ⟨[.pointer (some ⟨b,0,none⟩),.pointer (some ⟨pr,0,none⟩),.int .i64 (width:Int)]⟩ w K:=by
 refine ll.ok _ _ _ _ _ ?_
 have hpk:eD c u (width:Int)=decide (u+width≤8*c.length):=by
  unfold eD
  obtain ⟨_,_,_,_,hu,_⟩:=Rd.eG (h.at 1)
  exact decide_eq_decide.2 (by omega)
 (with_reducible repeat first|refine Nw.mk h fun b w h=> ?_|refine ag.mk h fun w h=> ?_|refine Ld.xb h rfl ?_|refine Ld.xt h rfl ?_|refine ab.xb (fun _ h=>h) rfl ?_|refine ab.xt (fun _ h=>h) rfl ?_|refine ⟨h.hb,?_⟩|refine ae.xw h rfl rfl fun w h=> ?_|(refine ae.xs h rfl rfl fun w h=> ?_;dsimp only [af,ad] at h)|(refine St.xs h rfl rfl fun w h=> ?_;dsimp only [af,ad] at h)|refine aa.yes ?_|refine aa.no ?_|refine ⟨by first|omega|decide,?_⟩)
 refine vM (h.at 2) fun w h=> ?_
 rw [hpk] at h⊢
 by_cases hle:u+width≤8*c.length
 ·rw [decide_eq_true hle] at h⊢
  rw [if_pos rfl,Int.toNat_natCast] at h
  have hv:fF c u (width:Int)=(val c u width:Int):=by
   unfold fF
   rw [if_pos (by omega),Int.toNat_natCast]
  rw [hv]
  (with_reducible repeat first|refine Nw.mk h fun b w h=> ?_|refine ag.mk h fun w h=> ?_|refine Ld.xb h rfl ?_|refine Ld.xt h rfl ?_|refine ab.xb (fun _ h=>h) rfl ?_|refine ab.xt (fun _ h=>h) rfl ?_|refine ⟨h.hb,?_⟩|refine ae.xw h rfl rfl fun w h=> ?_|(refine ae.xs h rfl rfl fun w h=> ?_;dsimp only [af,ad] at h)|(refine St.xs h rfl rfl fun w h=> ?_;dsimp only [af,ad] at h)|refine aa.yes ?_|refine aa.no ?_|refine ⟨by first|omega|decide,?_⟩)
  exact hgot hle _ ((h.at 0).no 1|>.at 1)
 ·rw [decide_eq_false hle] at h⊢
  rw [if_neg (by simp)] at h
  (with_reducible repeat first|refine Nw.mk h fun b w h=> ?_|refine ag.mk h fun w h=> ?_|refine Ld.xb h rfl ?_|refine Ld.xt h rfl ?_|refine ab.xb (fun _ h=>h) rfl ?_|refine ab.xt (fun _ h=>h) rfl ?_|refine ⟨h.hb,?_⟩|refine ae.xw h rfl rfl fun w h=> ?_|(refine ae.xs h rfl rfl fun w h=> ?_;dsimp only [af,ad] at h)|(refine St.xs h rfl rfl fun w h=> ?_;dsimp only [af,ad] at h)|refine aa.yes ?_|refine aa.no ?_|refine ⟨by first|omega|decide,?_⟩)
  refine tW h ?_
  cases ended
  ·(with_reducible repeat first|refine Nw.mk h fun b w h=> ?_|refine ag.mk h fun w h=> ?_|refine Ld.xb h rfl ?_|refine Ld.xt h rfl ?_|refine ab.xb (fun _ h=>h) rfl ?_|refine ab.xt (fun _ h=>h) rfl ?_|refine ⟨h.hb,?_⟩|refine ae.xw h rfl rfl fun w h=> ?_|(refine ae.xs h rfl rfl fun w h=> ?_;dsimp only [af,ad] at h)|(refine St.xs h rfl rfl fun w h=> ?_;dsimp only [af,ad] at h)|refine aa.yes ?_|refine aa.no ?_|refine ⟨by first|omega|decide,?_⟩)
   exact hneed hle rfl _ ((h.no 1).at 1)
  ·(with_reducible repeat first|refine Nw.mk h fun b w h=> ?_|refine ag.mk h fun w h=> ?_|refine Ld.xb h rfl ?_|refine Ld.xt h rfl ?_|refine ab.xb (fun _ h=>h) rfl ?_|refine ab.xt (fun _ h=>h) rfl ?_|refine ⟨h.hb,?_⟩|refine ae.xw h rfl rfl fun w h=> ?_|(refine ae.xs h rfl rfl fun w h=> ?_;dsimp only [af,ad] at h)|(refine St.xs h rfl rfl fun w h=> ?_;dsimp only [af,ad] at h)|refine aa.yes ?_|refine aa.no ?_|refine ⟨by first|omega|decide,?_⟩)
   refine fW hT hC hB (h.at 2) fun w h=> ?_
   (with_reducible repeat first|refine Nw.mk h fun b w h=> ?_|refine ag.mk h fun w h=> ?_|refine Ld.xb h rfl ?_|refine Ld.xt h rfl ?_|refine ab.xb (fun _ h=>h) rfl ?_|refine ab.xt (fun _ h=>h) rfl ?_|refine ⟨h.hb,?_⟩|refine ae.xw h rfl rfl fun w h=> ?_|(refine ae.xs h rfl rfl fun w h=> ?_;dsimp only [af,ad] at h)|(refine St.xs h rfl rfl fun w h=> ?_;dsimp only [af,ad] at h)|refine aa.yes ?_|refine aa.no ?_|refine ⟨by first|omega|decide,?_⟩)
   exact hend hle rfl _ (h.no 2)
end
end Go.Proofs.YtgglghjnakclmaaGreat
namespace Go.Proofs.YtgglghjnakclmaaGreat
open Go Go.Vc Go.aX Go.Srt Go.Inc Go.Sym Go.Tab Go.Hd Go.Prs
section
variable {E w:World} {F:List HP} {b pr:Nat} {c:List Nat} {u:Nat} {ended:Bool}
def kE (b pr:Nat) (c:List Nat) (ended:Bool) (s:PS) (u:Nat) (E:World) (F:List HP) (K:eg→Bool→World→Prop):Prop:=
 (∀s' u' x w',aw ended c s u= .go s' u'→Hp E w' (aW b s'::Rd ⟨pr,0,none⟩ c u' ended::F)→K x false w')∧
 (∀w',aw ended c s u= .need→Hp E w' (aW b s::Rd ⟨pr,0,none⟩ c u ended::F)→K (cu none ⟨none,0,0⟩) true w')∧
 (∀e s' u' sl w',aw ended c s u= .ev e s' u'→(∀x∈cA (some e),x<256)→Hp E w' (aT 1 sl ((cA (some e)).map vB)::aW b s'::Rd ⟨pr,0,none⟩ c u' ended::F)→K (cu (some e) sl) true w')
theorem tL {c:List Nat} {u:Nat}:val c u 8<256:=gh c u 8
theorem rm {c:List Nat} {u:Nat}:val c u 1=bw c u:=by
 have h1:=zR c u 1 0 (by decide)
 have h2:=gh c u 1
 simp at h1
 omega
set_option maxRecDepth 20000
theorem zj {hs:HS} {K:eg→Bool→World→Prop} (h:Hp E w (aW b (.head hs)::Rd ⟨pr,0,none⟩ c u ended::F)) (hK:kE b pr c ended (.head hs) u E F K):
  Cl Tryz.prog [fV,kB] dH ⟨[.pointer (some ⟨b,0,none⟩),.pointer (some ⟨pr,0,none⟩)]⟩ w K:=by
 obtain ⟨k1,k2,k3⟩:=hK
 obtain ⟨⟨a,h0,h1,h2,h3,m0,m1,m2,m3,m4,m5,m6,T,C,B,e⟩,⟨⟨hT,hC,hB⟩,hr⟩,h⟩:=aW.eG h
 dsimp only at hT hC hB hr h
 obtain ⟨rfl,rfl,rfl,rfl,rfl,rfl,rfl,rfl,rfl,rfl,rfl,rfl,hok⟩:=hr
 refine lb.ok _ _ _ _ ?_
 (try simp only [au,ah,ak,Nat.zero_add,Nat.add_zero,Nat.reduceAdd,Bool.not_true,Bool.not_false,aD,aC,Option.isNone])
 (with_reducible repeat first|refine Nw.mk h fun b w h=> ?_|refine ag.mk h fun w h=> ?_|refine Ld.xb h rfl ?_|refine Ld.xt h rfl ?_|refine ab.xb (fun _ h=>h) rfl ?_|refine ab.xt (fun _ h=>h) rfl ?_|refine ⟨h.hb,?_⟩|refine ae.xw h rfl rfl fun w h=> ?_|(refine ae.xs h rfl rfl fun w h=> ?_;dsimp only [af,ad] at h)|(refine St.xs h rfl rfl fun w h=> ?_;dsimp only [af,ad] at h)|refine aa.yes ?_|refine aa.no ?_|refine ⟨by first|omega|decide,?_⟩)
 refine me (width:=8) hT hC hB (by decide) (h.at 1|>.at 2|>.at 1) (fun hle w h=> ?_) (fun hle he w h=> ?_) (fun hle he w h=> ?_)
 ·have hv:=tL (c:=c) (u:=u)
  (with_reducible repeat first|refine Nw.mk h fun b w h=> ?_|refine ag.mk h fun w h=> ?_|refine Ld.xb h rfl ?_|refine Ld.xt h rfl ?_|refine ab.xb (fun _ h=>h) rfl ?_|refine ab.xt (fun _ h=>h) rfl ?_|refine ⟨h.hb,?_⟩|refine ae.xw h rfl rfl fun w h=> ?_|(refine ae.xs h rfl rfl fun w h=> ?_;dsimp only [af,ad] at h)|(refine St.xs h rfl rfl fun w h=> ?_;dsimp only [af,ad] at h)|refine aa.yes ?_|refine aa.no ?_|refine ⟨by first|omega|decide,?_⟩)
  rw [jB (by omega)]
  refine zP h hok hv (fun s' w hq h=> ?_) (fun n w hq h=> ?_) (fun er o w hq h=> ?_)
  ·(with_reducible repeat first|refine Nw.mk h fun b w h=> ?_|refine ag.mk h fun w h=> ?_|refine Ld.xb h rfl ?_|refine Ld.xt h rfl ?_|refine ab.xb (fun _ h=>h) rfl ?_|refine ab.xt (fun _ h=>h) rfl ?_|refine ⟨h.hb,?_⟩|refine ae.xw h rfl rfl fun w h=> ?_|(refine ae.xs h rfl rfl fun w h=> ?_;dsimp only [af,ad] at h)|(refine St.xs h rfl rfl fun w h=> ?_;dsimp only [af,ad] at h)|refine aa.yes ?_|refine aa.no ?_|refine ⟨by first|omega|decide,?_⟩)
   have hmic:aw ended c (.head hs) u= .go (.head s') (u+8):=by unfold aw;dsimp only;rw [if_pos hle,hq]
   refine k1 _ _ _ _ hmic (aW.sh ((((h.no 0).no 0).no 2)) ⟨⟨hT,hC,hB⟩,rfl,rfl,rfl,rfl,rfl,rfl,rfl,rfl,rfl,rfl,rfl,rfl,ny hok hv hq⟩)
  ·(with_reducible repeat first|refine Nw.mk h fun b w h=> ?_|refine ag.mk h fun w h=> ?_|refine Ld.xb h rfl ?_|refine Ld.xt h rfl ?_|refine ab.xb (fun _ h=>h) rfl ?_|refine ab.xt (fun _ h=>h) rfl ?_|refine ⟨h.hb,?_⟩|refine ae.xw h rfl rfl fun w h=> ?_|(refine ae.xs h rfl rfl fun w h=> ?_;dsimp only [af,ad] at h)|(refine St.xs h rfl rfl fun w h=> ?_;dsimp only [af,ad] at h)|refine aa.yes ?_|refine aa.no ?_|refine ⟨by first|omega|decide,?_⟩)
   refine ca (n:=2) h (fun w h=> ?_) (by simp)
   (with_reducible repeat first|refine Nw.mk h fun b w h=> ?_|refine ag.mk h fun w h=> ?_|refine Ld.xb h rfl ?_|refine Ld.xt h rfl ?_|refine ab.xb (fun _ h=>h) rfl ?_|refine ab.xt (fun _ h=>h) rfl ?_|refine ⟨h.hb,?_⟩|refine ae.xw h rfl rfl fun w h=> ?_|(refine ae.xs h rfl rfl fun w h=> ?_;dsimp only [af,ad] at h)|(refine St.xs h rfl rfl fun w h=> ?_;dsimp only [af,ad] at h)|refine aa.yes ?_|refine aa.no ?_|refine ⟨by first|omega|decide,?_⟩)
   have hmic:aw ended c (.head hs) u= .ev (.hdr n) (.mark n dD) (u+8):=by unfold aw;dsimp only;rw [if_pos hle,hq]
   have hn:=wT hv hq
   refine k3 _ _ _ _ _ hmic (fun _ hx=>by cases hx) (Hp.bh (aW.sh (s:= .mark n dD) ((((h.no 0).no 0).no 2)) ⟨⟨hT,hC,hB⟩,rfl,rfl,rfl,rfl,rfl,rfl,rfl,rfl,rfl,hn.1,hn.2,.inl ⟨rfl,rfl⟩⟩) 1)
  ·(with_reducible repeat first|refine Nw.mk h fun b w h=> ?_|refine ag.mk h fun w h=> ?_|refine Ld.xb h rfl ?_|refine Ld.xt h rfl ?_|refine ab.xb (fun _ h=>h) rfl ?_|refine ab.xt (fun _ h=>h) rfl ?_|refine ⟨h.hb,?_⟩|refine ae.xw h rfl rfl fun w h=> ?_|(refine ae.xs h rfl rfl fun w h=> ?_;dsimp only [af,ad] at h)|(refine St.xs h rfl rfl fun w h=> ?_;dsimp only [af,ad] at h)|refine aa.yes ?_|refine aa.no ?_|refine ⟨by first|omega|decide,?_⟩)
   have:er≠0:=by
    rintro rfl
    unfold bd at hq
    split at hq
    ·split at hq
     ·cases hq
     ·split at hq<;>cases hq
    ·split at hq<;>cases hq
   refine aa.nt (by omega) ?_
   refine fW hT hC hB (h.at 2) fun w h=> ?_
   (with_reducible repeat first|refine Nw.mk h fun b w h=> ?_|refine ag.mk h fun w h=> ?_|refine Ld.xb h rfl ?_|refine Ld.xt h rfl ?_|refine ab.xb (fun _ h=>h) rfl ?_|refine ab.xt (fun _ h=>h) rfl ?_|refine ⟨h.hb,?_⟩|refine ae.xw h rfl rfl fun w h=> ?_|(refine ae.xs h rfl rfl fun w h=> ?_;dsimp only [af,ad] at h)|(refine St.xs h rfl rfl fun w h=> ?_;dsimp only [af,ad] at h)|refine aa.yes ?_|refine aa.no ?_|refine ⟨by first|omega|decide,?_⟩)
   have hmic:aw ended c (.head hs) u= .ev (.bad er) (.bad 0 er) (u+8):=by unfold aw;dsimp only;rw [if_pos hle,hq]
   refine k3 _ _ _ _ _ hmic (fun _ hx=>by cases hx) (Hp.bh (aW.sh (s:= .bad 0 er) ((((h.no 1).no 1).no 2)) ⟨⟨hT,hC,hB⟩,rfl,rfl,rfl⟩) 1)
 ·(with_reducible repeat first|refine Nw.mk h fun b w h=> ?_|refine ag.mk h fun w h=> ?_|refine Ld.xb h rfl ?_|refine Ld.xt h rfl ?_|refine ab.xb (fun _ h=>h) rfl ?_|refine ab.xt (fun _ h=>h) rfl ?_|refine ⟨h.hb,?_⟩|refine ae.xw h rfl rfl fun w h=> ?_|(refine ae.xs h rfl rfl fun w h=> ?_;dsimp only [af,ad] at h)|(refine St.xs h rfl rfl fun w h=> ?_;dsimp only [af,ad] at h)|refine aa.yes ?_|refine aa.no ?_|refine ⟨by first|omega|decide,?_⟩)
  have hmic:aw ended c (.head hs) u= .ev (.bad 50) (.bad 0 50) u:=by
   unfold aw short;dsimp only;rw [if_neg hle,he];rfl
  subst he
  refine k3 _ _ _ _ _ hmic (fun _ hx=>by cases hx) (Hp.bh (aW.sh (s:= .bad 0 50) (((h.no 0).no 2)) ⟨⟨hT,hC,hB⟩,rfl,rfl,rfl⟩) 1)
 ·(with_reducible repeat first|refine Nw.mk h fun b w h=> ?_|refine ag.mk h fun w h=> ?_|refine Ld.xb h rfl ?_|refine Ld.xt h rfl ?_|refine ab.xb (fun _ h=>h) rfl ?_|refine ab.xt (fun _ h=>h) rfl ?_|refine ⟨h.hb,?_⟩|refine ae.xw h rfl rfl fun w h=> ?_|(refine ae.xs h rfl rfl fun w h=> ?_;dsimp only [af,ad] at h)|(refine St.xs h rfl rfl fun w h=> ?_;dsimp only [af,ad] at h)|refine aa.yes ?_|refine aa.no ?_|refine ⟨by first|omega|decide,?_⟩)
  have hmic:aw ended c (.head hs) u= .need:=by
   unfold aw short;dsimp only;rw [if_neg hle,he];rfl
  subst he
  refine k2 _ hmic (aW.sh (((h.no 0).no 2)) ⟨⟨hT,hC,hB⟩,rfl,rfl,rfl,rfl,rfl,rfl,rfl,rfl,rfl,rfl,rfl,rfl,hok⟩)
end
end Go.Proofs.YtgglghjnakclmaaGreat
namespace Go.Proofs.YtgglghjnakclmaaGreat
open Go Go.Vc Go.aX Go.Srt Go.Inc Go.Sym Go.Tab Go.Hd Go.Prs
section
variable {E w:World} {F:List HP} {b pr:Nat} {c:List Nat} {u:Nat} {ended:Bool}
set_option maxRecDepth 20000
theorem bx.CF {K:Array Value→Prop} (hK:K (bX (List.replicate 258 0) 0 0 0 0)):bx Tryz.prog 106 [] K:=by
 refine ⟨_,(by kernel_rfl:Tryz.prog.built 106 []=some ⟨List.replicate 258 (.int .u8 0)++ [.int .i64 0,.int .i64 0,.int .i64 0,.int .i64 0]⟩),?_⟩
 rw [qS];exact hK
theorem ox {n:Nat} {m:MS} {x e:Nat} (h:aL n m x= .bad e):e=242:=by
 unfold aL at h
 split at h
 ·split at h
  ·cases h
  ·split at h<;>cases h
   rfl
 ·split at h
  ·split at h<;>cases h
   rfl
  ·split at h
   ·split at h<;>cases h
    rfl
   ·split at h
    ·split at h<;>cases h
    ·cases h
theorem zw {n:Nat} {m:MS} {K:eg→Bool→World→Prop} (h:Hp E w (aW b (.mark n m)::Rd ⟨pr,0,none⟩ c u ended::F)) (hK:kE b pr c ended (.mark n m) u E F K):
  Cl Tryz.prog [fV,kB] dK ⟨[.pointer (some ⟨b,0,none⟩),.pointer (some ⟨pr,0,none⟩)]⟩ w K:=by
 obtain ⟨k1,k2,k3⟩:=hK
 obtain ⟨⟨a,h0,h1,h2,h3,m0,m1,m2,m3,m4,m5,m6,T,C,B,e⟩,⟨⟨hT,hC,hB⟩,hr⟩,h⟩:=aW.eG h
 dsimp only at hT hC hB hr h
 obtain ⟨rfl,rfl,rfl,rfl,rfl,rfl,rfl,rfl,rfl,hn1,hn2,hok⟩:=hr
 refine lg.ok _ _ _ _ ?_
 (try simp only [au,ah,ak,Nat.zero_add,Nat.add_zero,Nat.reduceAdd,Bool.not_true,Bool.not_false,aD,aC,Option.isNone])
 refine Nw.mk h fun b4 w h=> ?_
 refine me (width:=8) hT hC hB (by decide) (h.at 1|>.at 2|>.at 1) (fun hle w h=> ?_) (fun hle he w h=> ?_) (fun hle he w h=> ?_)
 ·have hv:=tL (c:=c) (u:=u)
  refine Nw.mk h fun b10 w h=> ?_
  (with_reducible repeat first|refine Nw.mk h fun b w h=> ?_|refine ag.mk h fun w h=> ?_|refine Ld.xb h rfl ?_|refine Ld.xt h rfl ?_|refine ab.xb (fun _ h=>h) rfl ?_|refine ab.xt (fun _ h=>h) rfl ?_|refine ⟨h.hb,?_⟩|refine ae.xw h rfl rfl fun w h=> ?_|(refine ae.xs h rfl rfl fun w h=> ?_;dsimp only [af,ad] at h)|(refine St.xs h rfl rfl fun w h=> ?_;dsimp only [af,ad] at h)|refine aa.yes ?_|refine aa.no ?_|refine ⟨by first|omega|decide,?_⟩)
  rw [jB (by omega)]
  have rest: ∀(bs:Nat) (w:World) (r:dx) (d:Bool) (e':Int) (G:List HP),
    G= [aq b10 (.cells ⟨[.int .u8 0,.int .i64 0,.int .i64 0,.int .i64 0,.int .u32 0,.slice none 0 0,.int .i64 0]⟩ 29 (0,0))]→True:=fun _ _ _ _ _ _ _=>trivial
  have h:=h.drew (n:=w.drawn+1)
  refine ⟨bq b _ _ _,h.hb,?_⟩
  dsimp only
  (with_reducible repeat first|refine Nw.mk h fun b w h=> ?_|refine ag.mk h fun w h=> ?_|refine Ld.xb h rfl ?_|refine Ld.xt h rfl ?_|refine ab.xb (fun _ h=>h) rfl ?_|refine ab.xt (fun _ h=>h) rfl ?_|refine ⟨h.hb,?_⟩|refine ae.xw h rfl rfl fun w h=> ?_|(refine ae.xs h rfl rfl fun w h=> ?_;dsimp only [af,ad] at h)|(refine St.xs h rfl rfl fun w h=> ?_;dsimp only [af,ad] at h)|refine aa.yes ?_|refine aa.no ?_|refine ⟨by first|omega|decide,?_⟩)
  constructor
  ·refine ug h hn1 hn2 hok hv (fun m' w hq h=>⟨h.hb,?_⟩) (fun M P s w hq h=>⟨h.hb,?_⟩) (fun s w hq h=>⟨h.hb,?_⟩) (fun er o w hq h=>⟨h.hb,?_⟩)
   ·have hmic:aw ended c (.mark n m) u= .go (.mark n m') (u+8):=by unfold aw;dsimp only;rw [if_pos hle,hq]
    (with_reducible repeat first|refine Nw.mk h fun b w h=> ?_|refine ag.mk h fun w h=> ?_|refine Ld.xb h rfl ?_|refine Ld.xt h rfl ?_|refine ab.xb (fun _ h=>h) rfl ?_|refine ab.xt (fun _ h=>h) rfl ?_|refine ⟨h.hb,?_⟩|refine ae.xw h rfl rfl fun w h=> ?_|(refine ae.xs h rfl rfl fun w h=> ?_;dsimp only [af,ad] at h)|(refine St.xs h rfl rfl fun w h=> ?_;dsimp only [af,ad] at h)|refine aa.yes ?_|refine aa.no ?_|refine ⟨by first|omega|decide,?_⟩)
    refine k1 _ _ _ _ hmic (aW.sh (((h.no 0).no 0).no 2) ⟨⟨hT,hC,hB⟩,rfl,rfl,rfl,rfl,rfl,rfl,rfl,rfl,rfl,hn1,hn2,kG hok hv hq⟩)
   ·have hmic:aw ended c (.mark n m) u= .ev (.aN M P s) (.tab n M t0) (u+8):=by unfold aw;dsimp only;rw [if_pos hle,hq]
    have hM:=lB hok hq
    (with_reducible repeat first|refine Nw.mk h fun b w h=> ?_|refine ag.mk h fun w h=> ?_|refine Ld.xb h rfl ?_|refine Ld.xt h rfl ?_|refine ab.xb (fun _ h=>h) rfl ?_|refine ab.xt (fun _ h=>h) rfl ?_|refine ⟨h.hb,?_⟩|refine ae.xw h rfl rfl fun w h=> ?_|(refine ae.xs h rfl rfl fun w h=> ?_;dsimp only [af,ad] at h)|(refine St.xs h rfl rfl fun w h=> ?_;dsimp only [af,ad] at h)|refine aa.yes ?_|refine aa.no ?_|refine ⟨by first|omega|decide,?_⟩)
    refine ca (n:=3) h (fun w h=> ?_) (by simp)
    refine bx.CF ?_
    (with_reducible repeat first|refine Nw.mk h fun b w h=> ?_|refine ag.mk h fun w h=> ?_|refine Ld.xb h rfl ?_|refine Ld.xt h rfl ?_|refine ab.xb (fun _ h=>h) rfl ?_|refine ab.xt (fun _ h=>h) rfl ?_|refine ⟨h.hb,?_⟩|refine ae.xw h rfl rfl fun w h=> ?_|(refine ae.xs h rfl rfl fun w h=> ?_;dsimp only [af,ad] at h)|(refine St.xs h rfl rfl fun w h=> ?_;dsimp only [af,ad] at h)|refine aa.yes ?_|refine aa.no ?_|refine ⟨by first|omega|decide,?_⟩)
    refine vh h hT (aF List.length_replicate) ax fun w h=> ?_
    (with_reducible repeat first|refine Nw.mk h fun b w h=> ?_|refine ag.mk h fun w h=> ?_|refine Ld.xb h rfl ?_|refine Ld.xt h rfl ?_|refine ab.xb (fun _ h=>h) rfl ?_|refine ab.xt (fun _ h=>h) rfl ?_|refine ⟨h.hb,?_⟩|refine ae.xw h rfl rfl fun w h=> ?_|(refine ae.xs h rfl rfl fun w h=> ?_;dsimp only [af,ad] at h)|(refine St.xs h rfl rfl fun w h=> ?_;dsimp only [af,ad] at h)|refine aa.yes ?_|refine aa.no ?_|refine ⟨by first|omega|decide,?_⟩)
    refine k3 _ _ _ _ _ hmic (fun _ hx=>by cases hx) (Hp.bh (aW.sh (s:= .tab n M t0) (((h.no 0).no 0).no 2) ⟨⟨by simp,hC,hB⟩,rfl,rfl,rfl,hM.1,hM.2.1,hn2,rfl,cU.zero⟩) 1)
   ·have hmic:aw ended c (.mark n m) u= .ev (.tail s) (.behind n) (u+8):=by unfold aw;dsimp only;rw [if_pos hle,hq]
    (with_reducible repeat first|refine Nw.mk h fun b w h=> ?_|refine ag.mk h fun w h=> ?_|refine Ld.xb h rfl ?_|refine Ld.xt h rfl ?_|refine ab.xb (fun _ h=>h) rfl ?_|refine ab.xt (fun _ h=>h) rfl ?_|refine ⟨h.hb,?_⟩|refine ae.xw h rfl rfl fun w h=> ?_|(refine ae.xs h rfl rfl fun w h=> ?_;dsimp only [af,ad] at h)|(refine St.xs h rfl rfl fun w h=> ?_;dsimp only [af,ad] at h)|refine aa.yes ?_|refine aa.no ?_|refine ⟨by first|omega|decide,?_⟩)
    refine ca (n:=6) h (fun w h=> ?_) (by simp)
    (with_reducible repeat first|refine Nw.mk h fun b w h=> ?_|refine ag.mk h fun w h=> ?_|refine Ld.xb h rfl ?_|refine Ld.xt h rfl ?_|refine ab.xb (fun _ h=>h) rfl ?_|refine ab.xt (fun _ h=>h) rfl ?_|refine ⟨h.hb,?_⟩|refine ae.xw h rfl rfl fun w h=> ?_|(refine ae.xs h rfl rfl fun w h=> ?_;dsimp only [af,ad] at h)|(refine St.xs h rfl rfl fun w h=> ?_;dsimp only [af,ad] at h)|refine aa.yes ?_|refine aa.no ?_|refine ⟨by first|omega|decide,?_⟩)
    refine k3 _ _ _ _ _ hmic (fun _ hx=>by cases hx) (Hp.bh (aW.sh (s:= .behind n) (((h.no 0).no 0).no 2) ⟨⟨hT,hC,hB⟩,rfl,rfl⟩) 1)
   ·have hmic:aw ended c (.mark n m) u= .ev (.bad er) (.bad n er) (u+8):=by unfold aw;dsimp only;rw [if_pos hle,hq]
    have:=ox hq
    (with_reducible repeat first|refine Nw.mk h fun b w h=> ?_|refine ag.mk h fun w h=> ?_|refine Ld.xb h rfl ?_|refine Ld.xt h rfl ?_|refine ab.xb (fun _ h=>h) rfl ?_|refine ab.xt (fun _ h=>h) rfl ?_|refine ⟨h.hb,?_⟩|refine ae.xw h rfl rfl fun w h=> ?_|(refine ae.xs h rfl rfl fun w h=> ?_;dsimp only [af,ad] at h)|(refine St.xs h rfl rfl fun w h=> ?_;dsimp only [af,ad] at h)|refine aa.yes ?_|refine aa.no ?_|refine ⟨by first|omega|decide,?_⟩)
    refine fW hT hC hB (h.at 2) fun w h=> ?_
    (with_reducible repeat first|refine Nw.mk h fun b w h=> ?_|refine ag.mk h fun w h=> ?_|refine Ld.xb h rfl ?_|refine Ld.xt h rfl ?_|refine ab.xb (fun _ h=>h) rfl ?_|refine ab.xt (fun _ h=>h) rfl ?_|refine ⟨h.hb,?_⟩|refine ae.xw h rfl rfl fun w h=> ?_|(refine ae.xs h rfl rfl fun w h=> ?_;dsimp only [af,ad] at h)|(refine St.xs h rfl rfl fun w h=> ?_;dsimp only [af,ad] at h)|refine aa.yes ?_|refine aa.no ?_|refine ⟨by first|omega|decide,?_⟩)
    refine k3 _ _ _ _ _ hmic (fun _ hx=>by cases hx) (Hp.bh (aW.sh (s:= .bad n er) (((h.no 1).no 1).no 2) ⟨⟨hT,hC,hB⟩,rfl,rfl,rfl⟩) 1)
  ·refine Nw.mk h fun bn w h=>⟨h.hb,?_⟩
   refine ug h hn1 hn2 hok hv (fun m' w hq h=>⟨h.hb,?_⟩) (fun M P s w hq h=>⟨h.hb,?_⟩) (fun s w hq h=>⟨h.hb,?_⟩) (fun er o w hq h=>⟨h.hb,?_⟩)
   ·have hmic:aw ended c (.mark n m) u= .go (.mark n m') (u+8):=by unfold aw;dsimp only;rw [if_pos hle,hq]
    (with_reducible repeat first|refine Nw.mk h fun b w h=> ?_|refine ag.mk h fun w h=> ?_|refine Ld.xb h rfl ?_|refine Ld.xt h rfl ?_|refine ab.xb (fun _ h=>h) rfl ?_|refine ab.xt (fun _ h=>h) rfl ?_|refine ⟨h.hb,?_⟩|refine ae.xw h rfl rfl fun w h=> ?_|(refine ae.xs h rfl rfl fun w h=> ?_;dsimp only [af,ad] at h)|(refine St.xs h rfl rfl fun w h=> ?_;dsimp only [af,ad] at h)|refine aa.yes ?_|refine aa.no ?_|refine ⟨by first|omega|decide,?_⟩)
    refine k1 _ _ _ _ hmic (aW.sh (((h.no 0).no 0).no 2) ⟨⟨hT,hC,hB⟩,rfl,rfl,rfl,rfl,rfl,rfl,rfl,rfl,rfl,hn1,hn2,kG hok hv hq⟩)
   ·have hmic:aw ended c (.mark n m) u= .ev (.aN M P s) (.tab n M t0) (u+8):=by unfold aw;dsimp only;rw [if_pos hle,hq]
    have hM:=lB hok hq
    (with_reducible repeat first|refine Nw.mk h fun b w h=> ?_|refine ag.mk h fun w h=> ?_|refine Ld.xb h rfl ?_|refine Ld.xt h rfl ?_|refine ab.xb (fun _ h=>h) rfl ?_|refine ab.xt (fun _ h=>h) rfl ?_|refine ⟨h.hb,?_⟩|refine ae.xw h rfl rfl fun w h=> ?_|(refine ae.xs h rfl rfl fun w h=> ?_;dsimp only [af,ad] at h)|(refine St.xs h rfl rfl fun w h=> ?_;dsimp only [af,ad] at h)|refine aa.yes ?_|refine aa.no ?_|refine ⟨by first|omega|decide,?_⟩)
    refine ca (n:=3) h (fun w h=> ?_) (by simp)
    refine bx.CF ?_
    (with_reducible repeat first|refine Nw.mk h fun b w h=> ?_|refine ag.mk h fun w h=> ?_|refine Ld.xb h rfl ?_|refine Ld.xt h rfl ?_|refine ab.xb (fun _ h=>h) rfl ?_|refine ab.xt (fun _ h=>h) rfl ?_|refine ⟨h.hb,?_⟩|refine ae.xw h rfl rfl fun w h=> ?_|(refine ae.xs h rfl rfl fun w h=> ?_;dsimp only [af,ad] at h)|(refine St.xs h rfl rfl fun w h=> ?_;dsimp only [af,ad] at h)|refine aa.yes ?_|refine aa.no ?_|refine ⟨by first|omega|decide,?_⟩)
    refine vh h hT (aF List.length_replicate) ax fun w h=> ?_
    (with_reducible repeat first|refine Nw.mk h fun b w h=> ?_|refine ag.mk h fun w h=> ?_|refine Ld.xb h rfl ?_|refine Ld.xt h rfl ?_|refine ab.xb (fun _ h=>h) rfl ?_|refine ab.xt (fun _ h=>h) rfl ?_|refine ⟨h.hb,?_⟩|refine ae.xw h rfl rfl fun w h=> ?_|(refine ae.xs h rfl rfl fun w h=> ?_;dsimp only [af,ad] at h)|(refine St.xs h rfl rfl fun w h=> ?_;dsimp only [af,ad] at h)|refine aa.yes ?_|refine aa.no ?_|refine ⟨by first|omega|decide,?_⟩)
    refine k3 _ _ _ _ _ hmic (fun _ hx=>by cases hx) (Hp.bh (aW.sh (s:= .tab n M t0) (((h.no 0).no 0).no 2) ⟨⟨by simp,hC,hB⟩,rfl,rfl,rfl,hM.1,hM.2.1,hn2,rfl,cU.zero⟩) 1)
   ·have hmic:aw ended c (.mark n m) u= .ev (.tail s) (.behind n) (u+8):=by unfold aw;dsimp only;rw [if_pos hle,hq]
    (with_reducible repeat first|refine Nw.mk h fun b w h=> ?_|refine ag.mk h fun w h=> ?_|refine Ld.xb h rfl ?_|refine Ld.xt h rfl ?_|refine ab.xb (fun _ h=>h) rfl ?_|refine ab.xt (fun _ h=>h) rfl ?_|refine ⟨h.hb,?_⟩|refine ae.xw h rfl rfl fun w h=> ?_|(refine ae.xs h rfl rfl fun w h=> ?_;dsimp only [af,ad] at h)|(refine St.xs h rfl rfl fun w h=> ?_;dsimp only [af,ad] at h)|refine aa.yes ?_|refine aa.no ?_|refine ⟨by first|omega|decide,?_⟩)
    refine ca (n:=6) h (fun w h=> ?_) (by simp)
    (with_reducible repeat first|refine Nw.mk h fun b w h=> ?_|refine ag.mk h fun w h=> ?_|refine Ld.xb h rfl ?_|refine Ld.xt h rfl ?_|refine ab.xb (fun _ h=>h) rfl ?_|refine ab.xt (fun _ h=>h) rfl ?_|refine ⟨h.hb,?_⟩|refine ae.xw h rfl rfl fun w h=> ?_|(refine ae.xs h rfl rfl fun w h=> ?_;dsimp only [af,ad] at h)|(refine St.xs h rfl rfl fun w h=> ?_;dsimp only [af,ad] at h)|refine aa.yes ?_|refine aa.no ?_|refine ⟨by first|omega|decide,?_⟩)
    refine k3 _ _ _ _ _ hmic (fun _ hx=>by cases hx) (Hp.bh (aW.sh (s:= .behind n) (((h.no 0).no 0).no 2) ⟨⟨hT,hC,hB⟩,rfl,rfl⟩) 1)
   ·have hmic:aw ended c (.mark n m) u= .ev (.bad er) (.bad n er) (u+8):=by unfold aw;dsimp only;rw [if_pos hle,hq]
    have:=ox hq
    (with_reducible repeat first|refine Nw.mk h fun b w h=> ?_|refine ag.mk h fun w h=> ?_|refine Ld.xb h rfl ?_|refine Ld.xt h rfl ?_|refine ab.xb (fun _ h=>h) rfl ?_|refine ab.xt (fun _ h=>h) rfl ?_|refine ⟨h.hb,?_⟩|refine ae.xw h rfl rfl fun w h=> ?_|(refine ae.xs h rfl rfl fun w h=> ?_;dsimp only [af,ad] at h)|(refine St.xs h rfl rfl fun w h=> ?_;dsimp only [af,ad] at h)|refine aa.yes ?_|refine aa.no ?_|refine ⟨by first|omega|decide,?_⟩)
    refine fW hT hC hB (h.at 2) fun w h=> ?_
    (with_reducible repeat first|refine Nw.mk h fun b w h=> ?_|refine ag.mk h fun w h=> ?_|refine Ld.xb h rfl ?_|refine Ld.xt h rfl ?_|refine ab.xb (fun _ h=>h) rfl ?_|refine ab.xt (fun _ h=>h) rfl ?_|refine ⟨h.hb,?_⟩|refine ae.xw h rfl rfl fun w h=> ?_|(refine ae.xs h rfl rfl fun w h=> ?_;dsimp only [af,ad] at h)|(refine St.xs h rfl rfl fun w h=> ?_;dsimp only [af,ad] at h)|refine aa.yes ?_|refine aa.no ?_|refine ⟨by first|omega|decide,?_⟩)
    refine k3 _ _ _ _ _ hmic (fun _ hx=>by cases hx) (Hp.bh (aW.sh (s:= .bad n er) (((h.no 1).no 1).no 2) ⟨⟨hT,hC,hB⟩,rfl,rfl,rfl⟩) 1)
 ·(with_reducible repeat first|refine Nw.mk h fun b w h=> ?_|refine ag.mk h fun w h=> ?_|refine Ld.xb h rfl ?_|refine Ld.xt h rfl ?_|refine ab.xb (fun _ h=>h) rfl ?_|refine ab.xt (fun _ h=>h) rfl ?_|refine ⟨h.hb,?_⟩|refine ae.xw h rfl rfl fun w h=> ?_|(refine ae.xs h rfl rfl fun w h=> ?_;dsimp only [af,ad] at h)|(refine St.xs h rfl rfl fun w h=> ?_;dsimp only [af,ad] at h)|refine aa.yes ?_|refine aa.no ?_|refine ⟨by first|omega|decide,?_⟩)
  have hmic:aw ended c (.mark n m) u= .ev (.bad 50) (.bad n 50) u:=by
   unfold aw short;dsimp only;rw [if_neg hle,he];rfl
  subst he
  refine k3 _ _ _ _ _ hmic (fun _ hx=>by cases hx) (Hp.bh (aW.sh (s:= .bad n 50) ((h.no 0).no 2) ⟨⟨hT,hC,hB⟩,rfl,rfl,rfl⟩) 1)
 ·(with_reducible repeat first|refine Nw.mk h fun b w h=> ?_|refine ag.mk h fun w h=> ?_|refine Ld.xb h rfl ?_|refine Ld.xt h rfl ?_|refine ab.xb (fun _ h=>h) rfl ?_|refine ab.xt (fun _ h=>h) rfl ?_|refine ⟨h.hb,?_⟩|refine ae.xw h rfl rfl fun w h=> ?_|(refine ae.xs h rfl rfl fun w h=> ?_;dsimp only [af,ad] at h)|(refine St.xs h rfl rfl fun w h=> ?_;dsimp only [af,ad] at h)|refine aa.yes ?_|refine aa.no ?_|refine ⟨by first|omega|decide,?_⟩)
  have hmic:aw ended c (.mark n m) u= .need:=by
   unfold aw short;dsimp only;rw [if_neg hle,he];rfl
  subst he
  refine k2 _ hmic (aW.sh ((h.no 0).no 2) ⟨⟨hT,hC,hB⟩,rfl,rfl,rfl,rfl,rfl,rfl,rfl,rfl,rfl,hn1,hn2,hok⟩)
theorem vR {n:Nat} {K:eg→Bool→World→Prop} (h:Hp E w (aW b (.pad n)::Rd ⟨pr,0,none⟩ c u ended::F)) (hK:kE b pr c ended (.pad n) u E F K):
  Cl Tryz.prog [fV,kB] c8 ⟨[.pointer (some ⟨b,0,none⟩),.pointer (some ⟨pr,0,none⟩)]⟩ w K:=by
 obtain ⟨k1,k2,k3⟩:=hK
 obtain ⟨⟨a,h0,h1,h2,h3,m0,m1,m2,m3,m4,m5,m6,T,C,B,e⟩,⟨⟨hT,hC,hB⟩,hr⟩,h⟩:=aW.eG h
 dsimp only at hT hC hB hr h
 obtain ⟨rfl,rfl,hn1,hn2⟩:=hr
 refine jW.ok _ _ _ _ ?_
 (try simp only [au,ah,ak,Nat.zero_add,Nat.add_zero,Nat.reduceAdd,Bool.not_true,Bool.not_false,aD,aC,Option.isNone])
 refine Nw.mk h fun b4 w h=> ?_
 refine zO (h.at 2) fun w h=> ?_
 rw [show kC u=fu u from rfl] at h⊢
 by_cases hv:val c u (fu u)=0
 ·have hmic:aw ended c (.pad n) u= .ev .bend (.mark n dD) (u+fu u):=by unfold aw;dsimp only;rw [if_pos hv]
  (with_reducible repeat first|refine Nw.mk h fun b w h=> ?_|refine ag.mk h fun w h=> ?_|refine Ld.xb h rfl ?_|refine Ld.xt h rfl ?_|refine ab.xb (fun _ h=>h) rfl ?_|refine ab.xt (fun _ h=>h) rfl ?_|refine ⟨h.hb,?_⟩|refine ae.xw h rfl rfl fun w h=> ?_|(refine ae.xs h rfl rfl fun w h=> ?_;dsimp only [af,ad] at h)|(refine St.xs h rfl rfl fun w h=> ?_;dsimp only [af,ad] at h)|refine aa.yes ?_|refine aa.no ?_|refine ⟨by first|omega|decide,?_⟩)
  refine ca (n:=2) h (fun w h=> ?_) (by simp)
  (with_reducible repeat first|refine Nw.mk h fun b w h=> ?_|refine ag.mk h fun w h=> ?_|refine Ld.xb h rfl ?_|refine Ld.xt h rfl ?_|refine ab.xb (fun _ h=>h) rfl ?_|refine ab.xt (fun _ h=>h) rfl ?_|refine ⟨h.hb,?_⟩|refine ae.xw h rfl rfl fun w h=> ?_|(refine ae.xs h rfl rfl fun w h=> ?_;dsimp only [af,ad] at h)|(refine St.xs h rfl rfl fun w h=> ?_;dsimp only [af,ad] at h)|refine aa.yes ?_|refine aa.no ?_|refine ⟨by first|omega|decide,?_⟩)
  refine k3 _ _ _ _ _ hmic (fun _ hx=>by cases hx) (Hp.bh (aW.sh (s:= .mark n dD) ((h.no 1).at 1) ⟨⟨hT,hC,hB⟩,rfl,rfl,rfl,rfl,rfl,rfl,rfl,rfl,rfl,hn1,hn2,.inl ⟨rfl,rfl⟩⟩) 1)
 ·have hmic:aw ended c (.pad n) u= .ev (.bad 160) (.bad n 160) (u+fu u):=by unfold aw;dsimp only;rw [if_neg hv]
  (with_reducible repeat first|refine Nw.mk h fun b w h=> ?_|refine ag.mk h fun w h=> ?_|refine Ld.xb h rfl ?_|refine Ld.xt h rfl ?_|refine ab.xb (fun _ h=>h) rfl ?_|refine ab.xt (fun _ h=>h) rfl ?_|refine ⟨h.hb,?_⟩|refine ae.xw h rfl rfl fun w h=> ?_|(refine ae.xs h rfl rfl fun w h=> ?_;dsimp only [af,ad] at h)|(refine St.xs h rfl rfl fun w h=> ?_;dsimp only [af,ad] at h)|refine aa.yes ?_|refine aa.no ?_|refine ⟨by first|omega|decide,?_⟩)
  refine fW hT hC hB (h.at 2) fun w h=> ?_
  (with_reducible repeat first|refine Nw.mk h fun b w h=> ?_|refine ag.mk h fun w h=> ?_|refine Ld.xb h rfl ?_|refine Ld.xt h rfl ?_|refine ab.xb (fun _ h=>h) rfl ?_|refine ab.xt (fun _ h=>h) rfl ?_|refine ⟨h.hb,?_⟩|refine ae.xw h rfl rfl fun w h=> ?_|(refine ae.xs h rfl rfl fun w h=> ?_;dsimp only [af,ad] at h)|(refine St.xs h rfl rfl fun w h=> ?_;dsimp only [af,ad] at h)|refine aa.yes ?_|refine aa.no ?_|refine ⟨by first|omega|decide,?_⟩)
  refine k3 _ _ _ _ _ hmic (fun _ hx=>by cases hx) (Hp.bh (aW.sh (s:= .bad n 160) (h.no 2) ⟨⟨hT,hC,hB⟩,rfl,rfl,rfl⟩) 1)
theorem zk {n:Nat} {K:eg→Bool→World→Prop} (h:Hp E w (aW b (.behind n)::Rd ⟨pr,0,none⟩ c u ended::F)) (hK:kE b pr c ended (.behind n) u E F K):
  Cl Tryz.prog [fV,kB] dJ ⟨[.pointer (some ⟨b,0,none⟩),.pointer (some ⟨pr,0,none⟩)]⟩ w K:=by
 obtain ⟨k1,k2,k3⟩:=hK
 obtain ⟨⟨a,h0,h1,h2,h3,m0,m1,m2,m3,m4,m5,m6,T,C,B,e⟩,⟨⟨hT,hC,hB⟩,hr⟩,h⟩:=aW.eG h
 dsimp only at hT hC hB hr h
 obtain ⟨rfl,rfl⟩:=hr
 refine la.ok _ _ _ _ ?_
 (try simp only [au,ah,ak,Nat.zero_add,Nat.add_zero,Nat.reduceAdd,Bool.not_true,Bool.not_false,aD,aC,Option.isNone])
 refine Nw.mk h fun b4 w h=> ?_
 refine q9 (h.at 2) fun w h _=> ?_
 by_cases hv:u<8*c.length
 ·have hmic:aw ended c (.behind n) u= .ev (.bad 261) (.bad n 261) u:=by unfold aw;dsimp only;rw [if_pos hv]
  (with_reducible repeat first|refine Nw.mk h fun b w h=> ?_|refine ag.mk h fun w h=> ?_|refine Ld.xb h rfl ?_|refine Ld.xt h rfl ?_|refine ab.xb (fun _ h=>h) rfl ?_|refine ab.xt (fun _ h=>h) rfl ?_|refine ⟨h.hb,?_⟩|refine ae.xw h rfl rfl fun w h=> ?_|(refine ae.xs h rfl rfl fun w h=> ?_;dsimp only [af,ad] at h)|(refine St.xs h rfl rfl fun w h=> ?_;dsimp only [af,ad] at h)|refine aa.yes ?_|refine aa.no ?_|refine ⟨by first|omega|decide,?_⟩)
  refine fW hT hC hB (h.at 2) fun w h=> ?_
  (with_reducible repeat first|refine Nw.mk h fun b w h=> ?_|refine ag.mk h fun w h=> ?_|refine Ld.xb h rfl ?_|refine Ld.xt h rfl ?_|refine ab.xb (fun _ h=>h) rfl ?_|refine ab.xt (fun _ h=>h) rfl ?_|refine ⟨h.hb,?_⟩|refine ae.xw h rfl rfl fun w h=> ?_|(refine ae.xs h rfl rfl fun w h=> ?_;dsimp only [af,ad] at h)|(refine St.xs h rfl rfl fun w h=> ?_;dsimp only [af,ad] at h)|refine aa.yes ?_|refine aa.no ?_|refine ⟨by first|omega|decide,?_⟩)
  refine k3 _ _ _ _ _ hmic (fun _ hx=>by cases hx) (Hp.bh (aW.sh (s:= .bad n 261) (h.no 2) ⟨⟨hT,hC,hB⟩,rfl,rfl,rfl⟩) 1)
 ·(with_reducible repeat first|refine Nw.mk h fun b w h=> ?_|refine ag.mk h fun w h=> ?_|refine Ld.xb h rfl ?_|refine Ld.xt h rfl ?_|refine ab.xb (fun _ h=>h) rfl ?_|refine ab.xt (fun _ h=>h) rfl ?_|refine ⟨h.hb,?_⟩|refine ae.xw h rfl rfl fun w h=> ?_|(refine ae.xs h rfl rfl fun w h=> ?_;dsimp only [af,ad] at h)|(refine St.xs h rfl rfl fun w h=> ?_;dsimp only [af,ad] at h)|refine aa.yes ?_|refine aa.no ?_|refine ⟨by first|omega|decide,?_⟩)
  refine tW h ?_
  cases ended
  ·have hmic:aw false c (.behind n) u= .need:=by unfold aw;dsimp only;rw [if_neg hv];rfl
   (with_reducible repeat first|refine Nw.mk h fun b w h=> ?_|refine ag.mk h fun w h=> ?_|refine Ld.xb h rfl ?_|refine Ld.xt h rfl ?_|refine ab.xb (fun _ h=>h) rfl ?_|refine ab.xt (fun _ h=>h) rfl ?_|refine ⟨h.hb,?_⟩|refine ae.xw h rfl rfl fun w h=> ?_|(refine ae.xs h rfl rfl fun w h=> ?_;dsimp only [af,ad] at h)|(refine St.xs h rfl rfl fun w h=> ?_;dsimp only [af,ad] at h)|refine aa.yes ?_|refine aa.no ?_|refine ⟨by first|omega|decide,?_⟩)
   refine k2 _ hmic (aW.sh ((h.no 1).at 1) ⟨⟨hT,hC,hB⟩,rfl,rfl⟩)
  ·have hmic:aw true c (.behind n) u= .ev .fin (.ad n) u:=by unfold aw;dsimp only;rw [if_neg hv];rfl
   (with_reducible repeat first|refine Nw.mk h fun b w h=> ?_|refine ag.mk h fun w h=> ?_|refine Ld.xb h rfl ?_|refine Ld.xt h rfl ?_|refine ab.xb (fun _ h=>h) rfl ?_|refine ab.xt (fun _ h=>h) rfl ?_|refine ⟨h.hb,?_⟩|refine ae.xw h rfl rfl fun w h=> ?_|(refine ae.xs h rfl rfl fun w h=> ?_;dsimp only [af,ad] at h)|(refine St.xs h rfl rfl fun w h=> ?_;dsimp only [af,ad] at h)|refine aa.yes ?_|refine aa.no ?_|refine ⟨by first|omega|decide,?_⟩)
   refine ca (n:=7) h (fun w h=> ?_) (by simp)
   (with_reducible repeat first|refine Nw.mk h fun b w h=> ?_|refine ag.mk h fun w h=> ?_|refine Ld.xb h rfl ?_|refine Ld.xt h rfl ?_|refine ab.xb (fun _ h=>h) rfl ?_|refine ab.xt (fun _ h=>h) rfl ?_|refine ⟨h.hb,?_⟩|refine ae.xw h rfl rfl fun w h=> ?_|(refine ae.xs h rfl rfl fun w h=> ?_;dsimp only [af,ad] at h)|(refine St.xs h rfl rfl fun w h=> ?_;dsimp only [af,ad] at h)|refine aa.yes ?_|refine aa.no ?_|refine ⟨by first|omega|decide,?_⟩)
   refine k3 _ _ _ _ _ hmic (fun _ hx=>by cases hx) (Hp.bh (aW.sh (s:= .ad n) ((h.no 1).at 1) ⟨⟨hT,hC,hB⟩,rfl,rfl⟩) 1)
theorem BM {n:Nat} {r:Option Addr} {K:eg→Bool→World→Prop} (h:Hp E w (aW b (.ad n)::F)) (hK: ∀w',Hp E w' (aW b (.ad n)::F)→K (cu (some .fin) ⟨none,0,0⟩) true w'):
  Cl Tryz.prog [fV,kB] ea ⟨[.pointer (some ⟨b,0,none⟩),.pointer r]⟩ w K:=by
 refine lk.ok _ _ _ _ ?_
 (with_reducible repeat first|refine Nw.mk h fun b w h=> ?_|refine ag.mk h fun w h=> ?_|refine Ld.xb h rfl ?_|refine Ld.xt h rfl ?_|refine ab.xb (fun _ h=>h) rfl ?_|refine ab.xt (fun _ h=>h) rfl ?_|refine ⟨h.hb,?_⟩|refine ae.xw h rfl rfl fun w h=> ?_|(refine ae.xs h rfl rfl fun w h=> ?_;dsimp only [af,ad] at h)|(refine St.xs h rfl rfl fun w h=> ?_;dsimp only [af,ad] at h)|refine aa.yes ?_|refine aa.no ?_|refine ⟨by first|omega|decide,?_⟩)
 exact hK _ h.tl
theorem zm {n er:Nat} {r:Option Addr} {K:eg→Bool→World→Prop} (h:Hp E w (aW b (.bad n er)::F)) (hK: ∀w',Hp E w' (aW b (.bad n er)::F)→K (cu (some (.bad er)) ⟨none,0,0⟩) true w'):
  Cl Tryz.prog [fV,kB] dG ⟨[.pointer (some ⟨b,0,none⟩),.pointer r]⟩ w K:=by
 obtain ⟨⟨a,h0,h1,h2,h3,m0,m1,m2,m3,m4,m5,m6,T,C,B,e⟩,⟨⟨hT,hC,hB⟩,hr⟩,h⟩:=aW.eG h
 dsimp only at hT hC hB hr h
 obtain ⟨rfl,rfl,rfl⟩:=hr
 refine lf.ok _ _ _ _ ?_
 (try simp only [au,ah,ak,Nat.zero_add,Nat.add_zero,Nat.reduceAdd,Bool.not_true,Bool.not_false,aD,aC,Option.isNone])
 (with_reducible repeat first|refine Nw.mk h fun b w h=> ?_|refine ag.mk h fun w h=> ?_|refine Ld.xb h rfl ?_|refine Ld.xt h rfl ?_|refine ab.xb (fun _ h=>h) rfl ?_|refine ab.xt (fun _ h=>h) rfl ?_|refine ⟨h.hb,?_⟩|refine ae.xw h rfl rfl fun w h=> ?_|(refine ae.xs h rfl rfl fun w h=> ?_;dsimp only [af,ad] at h)|(refine St.xs h rfl rfl fun w h=> ?_;dsimp only [af,ad] at h)|refine aa.yes ?_|refine aa.no ?_|refine ⟨by first|omega|decide,?_⟩)
 refine Dj h hT hC hB ?_
 (with_reducible repeat first|refine Nw.mk h fun b w h=> ?_|refine ag.mk h fun w h=> ?_|refine Ld.xb h rfl ?_|refine Ld.xt h rfl ?_|refine ab.xb (fun _ h=>h) rfl ?_|refine ab.xt (fun _ h=>h) rfl ?_|refine ⟨h.hb,?_⟩|refine ae.xw h rfl rfl fun w h=> ?_|(refine ae.xs h rfl rfl fun w h=> ?_;dsimp only [af,ad] at h)|(refine St.xs h rfl rfl fun w h=> ?_;dsimp only [af,ad] at h)|refine aa.yes ?_|refine aa.no ?_|refine ⟨by first|omega|decide,?_⟩)
 exact hK _ (aW.sh (s:= .bad n er) (h.no 0) ⟨⟨hT,hC,hB⟩,rfl,rfl,rfl⟩)
end
end Go.Proofs.YtgglghjnakclmaaGreat
namespace Go.Proofs.YtgglghjnakclmaaGreat
open Go Go.Vc Go.aX Go.Srt Go.Inc Go.Sym Go.Tab Go.Hd Go.Prs
section
variable {E w:World} {F:List HP} {b pr:Nat} {c:List Nat} {u:Nat} {ended:Bool}
theorem wz {c:List Nat} {u:Nat}:bw c u≤1:=by have:=kO c u;omega
set_option maxRecDepth 20000
theorem CM {t:TS} (h:cU t):t.l.length<258:=by
 rcases h with ⟨_,h,_⟩|⟨_,h,_⟩
 ·rw [h];simp
 ·omega
theorem ym {n M:Nat} {t:TS} {K:eg→Bool→World→Prop} (h:Hp E w (aW b (.tab n M t)::Rd ⟨pr,0,none⟩ c u ended::F)) (hK:kE b pr c ended (.tab n M t) u E F K):
  Cl Tryz.prog [fV,kB] dB ⟨[.pointer (some ⟨b,0,none⟩),.pointer (some ⟨pr,0,none⟩)]⟩ w K:=by
 obtain ⟨k1,k2,k3⟩:=hK
 obtain ⟨⟨a,h0,h1,h2,h3,m0,m1,m2,m3,m4,m5,m6,T,C,B,e⟩,⟨⟨hT,hC,hB⟩,hr⟩,h⟩:=aW.eG h
 dsimp only at hT hC hB hr h
 obtain ⟨rfl,rfl,rfl,hM1,hM2,hn2,hTe,hok⟩:=hr
 refine kr.ok _ _ _ _ ?_
 (try simp only [au,ah,ak,Nat.zero_add,Nat.add_zero,Nat.reduceAdd,Bool.not_true,Bool.not_false,aD,aC,Option.isNone])
 refine Nw.mk h fun b4 w h=> ?_
 refine me (width:=1) hT hC hB (by decide) (h.at 1|>.at 2|>.at 1) (fun hle w h=> ?_) (fun hle he w h=> ?_) (fun hle he w h=> ?_)
 ·have hbit:=wz (c:=c) (u:=u)
  rw [rm]
  refine Nw.mk h fun b10 w h=> ?_
  (with_reducible repeat first|refine Nw.mk h fun b w h=> ?_|refine ag.mk h fun w h=> ?_|refine Ld.xb h rfl ?_|refine Ld.xt h rfl ?_|refine ab.xb (fun _ h=>h) rfl ?_|refine ab.xt (fun _ h=>h) rfl ?_|refine ⟨h.hb,?_⟩|refine ae.xw h rfl rfl fun w h=> ?_|(refine ae.xs h rfl rfl fun w h=> ?_;dsimp only [af,ad] at h)|(refine St.xs h rfl rfl fun w h=> ?_;dsimp only [af,ad] at h)|refine aa.yes ?_|refine aa.no ?_|refine ⟨by first|omega|decide,?_⟩)
  refine CX h hT ?_
  rw [aj (by omega),hTe]
  refine zE h hok hbit (fun t' w hq h=> ?_) (fun l nn w hq h=> ?_) (fun o w hq ho hos h=> ?_)
  ·have hmic:aw ended c (.tab n M t) u= .go (.tab n M t') (u+1):=by unfold aw;dsimp only;rw [if_pos hle,hq]
   have hok':=gO hok hbit hq
   have hs:=aF (s:=(t'.l.length:Int)) (b:=(t'.bits:Int)) (n:=(t'.now:Int)) (wy:=(t'.way:Int)) (aP (Nat.le_of_lt (CM hok')))
   refine Nw.mk h fun b22 w h=> ?_
   refine an.q h (by simp) hs ax fun w h=> ?_
   (with_reducible repeat first|refine Nw.mk h fun b w h=> ?_|refine ag.mk h fun w h=> ?_|refine Ld.xb h rfl ?_|refine Ld.xt h rfl ?_|refine ab.xb (fun _ h=>h) rfl ?_|refine ab.xt (fun _ h=>h) rfl ?_|refine ⟨h.hb,?_⟩|refine ae.xw h rfl rfl fun w h=> ?_|(refine ae.xs h rfl rfl fun w h=> ?_;dsimp only [af,ad] at h)|(refine St.xs h rfl rfl fun w h=> ?_;dsimp only [af,ad] at h)|refine aa.yes ?_|refine aa.no ?_|refine ⟨by first|omega|decide,?_⟩)
   refine Ld.xw h hs ?_
   refine vh h hT hs ax fun w h=> ?_
   (with_reducible repeat first|refine Nw.mk h fun b w h=> ?_|refine ag.mk h fun w h=> ?_|refine Ld.xb h rfl ?_|refine Ld.xt h rfl ?_|refine ab.xb (fun _ h=>h) rfl ?_|refine ab.xt (fun _ h=>h) rfl ?_|refine ⟨h.hb,?_⟩|refine ae.xw h rfl rfl fun w h=> ?_|(refine ae.xs h rfl rfl fun w h=> ?_;dsimp only [af,ad] at h)|(refine St.xs h rfl rfl fun w h=> ?_;dsimp only [af,ad] at h)|refine aa.yes ?_|refine aa.no ?_|refine ⟨by first|omega|decide,?_⟩)
   refine k1 _ _ _ _ hmic (aW.sh (((h.no 0).no 0).no 2) ⟨⟨?_,hC,hB⟩,rfl,rfl,rfl,hM1,hM2,hn2,rfl,hok'⟩)
   simp [aP (Nat.le_of_lt (CM hok'))]
  ·have hmic:aw ended c (.tab n M t) u= .go (.sym n l 0 0 ⟨List.range 256,M,0,0⟩) (u+1):=by unfold aw;dsimp only;rw [if_pos hle,hq]
   obtain ⟨hl,hlok⟩:=ct hok hq
   have hs:=aF (s:=258) (b:=4) (n:=nn) (wy:=0) hl
   refine Nw.mk h fun b22 w h=> ?_
   refine an.q h (by simp) hs ax fun w h=> ?_
   (with_reducible repeat first|refine Nw.mk h fun b w h=> ?_|refine ag.mk h fun w h=> ?_|refine Ld.xb h rfl ?_|refine Ld.xt h rfl ?_|refine ab.xb (fun _ h=>h) rfl ?_|refine ab.xt (fun _ h=>h) rfl ?_|refine ⟨h.hb,?_⟩|refine ae.xw h rfl rfl fun w h=> ?_|(refine ae.xs h rfl rfl fun w h=> ?_;dsimp only [af,ad] at h)|(refine St.xs h rfl rfl fun w h=> ?_;dsimp only [af,ad] at h)|refine aa.yes ?_|refine aa.no ?_|refine ⟨by first|omega|decide,?_⟩)
   refine Ld.xw h hs ?_
   refine vh h hT hs ax fun w h=> ?_
   (with_reducible repeat first|refine Nw.mk h fun b w h=> ?_|refine ag.mk h fun w h=> ?_|refine Ld.xb h rfl ?_|refine Ld.xt h rfl ?_|refine ab.xb (fun _ h=>h) rfl ?_|refine ab.xt (fun _ h=>h) rfl ?_|refine ⟨h.hb,?_⟩|refine ae.xw h rfl rfl fun w h=> ?_|(refine ae.xs h rfl rfl fun w h=> ?_;dsimp only [af,ad] at h)|(refine St.xs h rfl rfl fun w h=> ?_;dsimp only [af,ad] at h)|refine aa.yes ?_|refine aa.no ?_|refine ⟨by first|omega|decide,?_⟩)
   refine Ld.p h (cz hl) ?_
   refine BX h hl (fun hno=>by rw [hlok] at hno;cases hno) (fun _ w h=> ?_)
   have hT':(bX l 258 4 nn 0).toList.length=262:=by simp [hl]
   refine Bi h hT' hC (bE hl) (List.all_eq_true.2 cP) fun w h=> ?_
   (with_reducible repeat first|refine Nw.mk h fun b w h=> ?_|refine ag.mk h fun w h=> ?_|refine Ld.xb h rfl ?_|refine Ld.xt h rfl ?_|refine ab.xb (fun _ h=>h) rfl ?_|refine ab.xt (fun _ h=>h) rfl ?_|refine ⟨h.hb,?_⟩|refine ae.xw h rfl rfl fun w h=> ?_|(refine ae.xs h rfl rfl fun w h=> ?_;dsimp only [af,ad] at h)|(refine St.xs h rfl rfl fun w h=> ?_;dsimp only [af,ad] at h)|refine aa.yes ?_|refine aa.no ?_|refine ⟨by first|omega|decide,?_⟩)
   refine zd h hM1 (by omega) fun w h=> ?_
   refine xC h hT' (by have:=bE (c:=0) (b:=0) hl;simpa using this) hB (aG (by simp)) aH fun w h=> ?_
   refine ca (n:=4) h (fun w h=> ?_) (by simp)
   (with_reducible repeat first|refine Nw.mk h fun b w h=> ?_|refine ag.mk h fun w h=> ?_|refine Ld.xb h rfl ?_|refine Ld.xt h rfl ?_|refine ab.xb (fun _ h=>h) rfl ?_|refine ab.xt (fun _ h=>h) rfl ?_|refine ⟨h.hb,?_⟩|refine ae.xw h rfl rfl fun w h=> ?_|(refine ae.xs h rfl rfl fun w h=> ?_;dsimp only [af,ad] at h)|(refine St.xs h rfl rfl fun w h=> ?_;dsimp only [af,ad] at h)|refine aa.yes ?_|refine aa.no ?_|refine ⟨by first|omega|decide,?_⟩)
   refine k1 _ _ _ _ hmic (aW.sh (((h.no 0).no 0).no 2) ⟨⟨hT',?_,?_⟩,rfl,rfl,by omega,hn2,rfl,hl,je.zero hlok,rfl,eI.zero (by omega)⟩)
   ·have:=bE (c:=0) (b:=0) hl;simpa using this
   ·simp
  ·have hmic:aw ended c (.tab n M t) u= .ev (.bad 100) (.bad n 100) (u+1):=by unfold aw;dsimp only;rw [if_pos hle,hq]
   refine Nw.mk h fun b22 w h=> ?_
   refine an.q h (by simp) ho hos fun w h=> ?_
   (with_reducible repeat first|refine Nw.mk h fun b w h=> ?_|refine ag.mk h fun w h=> ?_|refine Ld.xb h rfl ?_|refine Ld.xt h rfl ?_|refine ab.xb (fun _ h=>h) rfl ?_|refine ab.xt (fun _ h=>h) rfl ?_|refine ⟨h.hb,?_⟩|refine ae.xw h rfl rfl fun w h=> ?_|(refine ae.xs h rfl rfl fun w h=> ?_;dsimp only [af,ad] at h)|(refine St.xs h rfl rfl fun w h=> ?_;dsimp only [af,ad] at h)|refine aa.yes ?_|refine aa.no ?_|refine ⟨by first|omega|decide,?_⟩)
   refine fW hT hC hB (h.at 2) fun w h=> ?_
   (with_reducible repeat first|refine Nw.mk h fun b w h=> ?_|refine ag.mk h fun w h=> ?_|refine Ld.xb h rfl ?_|refine Ld.xt h rfl ?_|refine ab.xb (fun _ h=>h) rfl ?_|refine ab.xt (fun _ h=>h) rfl ?_|refine ⟨h.hb,?_⟩|refine ae.xw h rfl rfl fun w h=> ?_|(refine ae.xs h rfl rfl fun w h=> ?_;dsimp only [af,ad] at h)|(refine St.xs h rfl rfl fun w h=> ?_;dsimp only [af,ad] at h)|refine aa.yes ?_|refine aa.no ?_|refine ⟨by first|omega|decide,?_⟩)
   refine k3 _ _ _ _ _ hmic (fun _ hx=>by cases hx) (Hp.bh (aW.sh (s:= .bad n 100) (((h.no 1).no 1).no 2) ⟨⟨hT,hC,hB⟩,rfl,rfl,rfl⟩) 1)
 ·(with_reducible repeat first|refine Nw.mk h fun b w h=> ?_|refine ag.mk h fun w h=> ?_|refine Ld.xb h rfl ?_|refine Ld.xt h rfl ?_|refine ab.xb (fun _ h=>h) rfl ?_|refine ab.xt (fun _ h=>h) rfl ?_|refine ⟨h.hb,?_⟩|refine ae.xw h rfl rfl fun w h=> ?_|(refine ae.xs h rfl rfl fun w h=> ?_;dsimp only [af,ad] at h)|(refine St.xs h rfl rfl fun w h=> ?_;dsimp only [af,ad] at h)|refine aa.yes ?_|refine aa.no ?_|refine ⟨by first|omega|decide,?_⟩)
  have hmic:aw ended c (.tab n M t) u= .ev (.bad 50) (.bad n 50) u:=by
   unfold aw short;dsimp only;rw [if_neg hle,he];rfl
  subst he
  refine k3 _ _ _ _ _ hmic (fun _ hx=>by cases hx) (Hp.bh (aW.sh (s:= .bad n 50) ((h.no 0).no 2) ⟨⟨hT,hC,hB⟩,rfl,rfl,rfl⟩) 1)
 ·(with_reducible repeat first|refine Nw.mk h fun b w h=> ?_|refine ag.mk h fun w h=> ?_|refine Ld.xb h rfl ?_|refine Ld.xt h rfl ?_|refine ab.xb (fun _ h=>h) rfl ?_|refine ab.xt (fun _ h=>h) rfl ?_|refine ⟨h.hb,?_⟩|refine ae.xw h rfl rfl fun w h=> ?_|(refine ae.xs h rfl rfl fun w h=> ?_;dsimp only [af,ad] at h)|(refine St.xs h rfl rfl fun w h=> ?_;dsimp only [af,ad] at h)|refine aa.yes ?_|refine aa.no ?_|refine ⟨by first|omega|decide,?_⟩)
  have hmic:aw ended c (.tab n M t) u= .need:=by
   unfold aw short;dsimp only;rw [if_neg hle,he];rfl
  subst he
  refine k2 _ hmic (aW.sh ((h.no 0).no 2) ⟨⟨hT,hC,hB⟩,rfl,rfl,rfl,hM1,hM2,hn2,hTe,hok⟩)
theorem uR {n k m:Nat} {l:List Nat} {d:DS} {K:eg→Bool→World→Prop} (h:Hp E w (aW b (.sym n l k m d)::Rd ⟨pr,0,none⟩ c u ended::F)) (hK:kE b pr c ended (.sym n l k m d) u E F K):
  Cl Tryz.prog [fV,kB] c9 ⟨[.pointer (some ⟨b,0,none⟩),.pointer (some ⟨pr,0,none⟩)]⟩ w K:=by
 obtain ⟨k1,k2,k3⟩:=hK
 obtain ⟨⟨a,h0,h1,h2,h3,m0,m1,m2,m3,m4,m5,m6,T,C,B,e⟩,⟨⟨hT,hC,hB⟩,hr⟩,h⟩:=aW.eG h
 dsimp only at hT hC hB hr h
 obtain ⟨rfl,rfl,hn1,hn2,hCe,hl,hv,hBe,hd⟩:=hr
 refine jV.ok _ _ _ _ ?_
 (try simp only [au,ah,ak,Nat.zero_add,Nat.add_zero,Nat.reduceAdd,Bool.not_true,Bool.not_false,aD,aC,Option.isNone])
 refine Nw.mk h fun b4 w h=> ?_
 refine me (width:=1) hT hC hB (by decide) (h.at 1|>.at 2|>.at 1) (fun hle w h=> ?_) (fun hle he w h=> ?_) (fun hle he w h=> ?_)
 ·have hbit:=wz (c:=c) (u:=u)
  rw [rm]
  refine Nw.mk h fun b10 w h=> ?_
  (with_reducible repeat first|refine Nw.mk h fun b w h=> ?_|refine ag.mk h fun w h=> ?_|refine Ld.xb h rfl ?_|refine Ld.xt h rfl ?_|refine ab.xb (fun _ h=>h) rfl ?_|refine ab.xt (fun _ h=>h) rfl ?_|refine ⟨h.hb,?_⟩|refine ae.xw h rfl rfl fun w h=> ?_|(refine ae.xs h rfl rfl fun w h=> ?_;dsimp only [af,ad] at h)|(refine St.xs h rfl rfl fun w h=> ?_;dsimp only [af,ad] at h)|refine aa.yes ?_|refine aa.no ?_|refine ⟨by first|omega|decide,?_⟩)
  refine Dv h hT hC ?_
  rw [aj (by omega),hCe]
  have hfs:=rJ hl hv hbit
  have hfst:=tN (l:=l) (c:=k) (b:=m) (x:=bw c u)
  have hvn:=hv.next hbit
  refine Br h hl hv hbit fun w h=> ?_
  have hsz:=fun (x y:Nat)=>bE (c:=x) (b:=y) hl
  refine Nw.mk h fun b22 w h=> ?_
  refine an.q h (by simp) (hsz _ _) (List.all_eq_true.2 cP) fun w h=> ?_
  refine Ld.xw h (hsz _ _) ?_
  refine Bi h hT hC (hsz _ _) (List.all_eq_true.2 cP) fun w h=> ?_
  have hC': ∀x y:Nat,(cS l x y).toList.length=260:=fun x y=>by rw [Array.length_toList];exact hsz x y
  cases hs:(dQ l k m (bw c u)).2 with
  |none=>
   rw [hs] at hfs hfst
   rw [hfst] at h hvn
   have hmic:aw ended c (.sym n l k m d) u= .go (.sym n l (2*k+bw c u) (m+1) d) (u+1):=by unfold aw;dsimp only;rw [if_pos hle,←hfs]
   refine aa.t rfl ?_
   (with_reducible repeat first|refine Nw.mk h fun b w h=> ?_|refine ag.mk h fun w h=> ?_|refine Ld.xb h rfl ?_|refine Ld.xt h rfl ?_|refine ab.xb (fun _ h=>h) rfl ?_|refine ab.xt (fun _ h=>h) rfl ?_|refine ⟨h.hb,?_⟩|refine ae.xw h rfl rfl fun w h=> ?_|(refine ae.xs h rfl rfl fun w h=> ?_;dsimp only [af,ad] at h)|(refine St.xs h rfl rfl fun w h=> ?_;dsimp only [af,ad] at h)|refine aa.yes ?_|refine aa.no ?_|refine ⟨by first|omega|decide,?_⟩)
   exact k1 _ _ _ _ hmic (aW.sh (((h.no 0).no 0).no 2) ⟨⟨hT,hC' _ _,hB⟩,rfl,rfl,hn1,hn2,rfl,hl,hvn,hBe,hd⟩)
  |some y=>
   rw [hs] at hfs hfst
   rw [hfst] at h hvn
   have hy:y<258:=(q5 hl hv hbit hs).1
   refine aa.f rfl ?_
   refine Dn h hT (hC' _ _) hB ?_
   rw [hBe]
   refine yl (s:=y) h hd hy (fun o w hq ho hos h=> ?_) (fun d' t sl w hq h=> ?_) (fun d' t sl w hq h=> ?_)
   ·have hmic:aw ended c (.sym n l k m d) u= .ev (.bad 160) (.bad n 160) (u+1):=by unfold aw;dsimp only;rw [if_pos hle,←hfs];dsimp only;rw [show bU d y=_ from hq]
    refine Nw.mk h fun b38 w h=> ?_
    refine an.q h (by simp) ho hos fun w h=> ?_
    (with_reducible repeat first|refine Nw.mk h fun b w h=> ?_|refine ag.mk h fun w h=> ?_|refine Ld.xb h rfl ?_|refine Ld.xt h rfl ?_|refine ab.xb (fun _ h=>h) rfl ?_|refine ab.xt (fun _ h=>h) rfl ?_|refine ⟨h.hb,?_⟩|refine ae.xw h rfl rfl fun w h=> ?_|(refine ae.xs h rfl rfl fun w h=> ?_;dsimp only [af,ad] at h)|(refine St.xs h rfl rfl fun w h=> ?_;dsimp only [af,ad] at h)|refine aa.yes ?_|refine aa.no ?_|refine ⟨by first|omega|decide,?_⟩)
    refine fW hT (hC' _ _) hB (h.at 3) fun w h=> ?_
    (with_reducible repeat first|refine Nw.mk h fun b w h=> ?_|refine ag.mk h fun w h=> ?_|refine Ld.xb h rfl ?_|refine Ld.xt h rfl ?_|refine ab.xb (fun _ h=>h) rfl ?_|refine ab.xt (fun _ h=>h) rfl ?_|refine ⟨h.hb,?_⟩|refine ae.xw h rfl rfl fun w h=> ?_|(refine ae.xs h rfl rfl fun w h=> ?_;dsimp only [af,ad] at h)|(refine St.xs h rfl rfl fun w h=> ?_;dsimp only [af,ad] at h)|refine aa.yes ?_|refine aa.no ?_|refine ⟨by first|omega|decide,?_⟩)
    exact k3 _ _ _ _ _ hmic (fun _ hx=>by cases hx) (Hp.bh (aW.sh (s:= .bad n 160) ((((h.no 1).no 1).no 1).no 2) ⟨⟨hT,hC' _ _,hB⟩,rfl,rfl,rfl⟩) 1)
   ·obtain ⟨hd',hb',_⟩:=pe hd hy hq
    have hdl:=hd'.1.len
    have htl:=h.cN
    simp only [List.length_map,Nat.mul_one] at htl
    refine Nw.mk h fun b38 w h=> ?_
    refine an.q h (by simp) (aG hdl) aH fun w h=> ?_
    (with_reducible repeat first|refine Nw.mk h fun b w h=> ?_|refine ag.mk h fun w h=> ?_|refine Ld.xb h rfl ?_|refine Ld.xt h rfl ?_|refine ab.xb (fun _ h=>h) rfl ?_|refine ab.xt (fun _ h=>h) rfl ?_|refine ⟨h.hb,?_⟩|refine ae.xw h rfl rfl fun w h=> ?_|(refine ae.xs h rfl rfl fun w h=> ?_;dsimp only [af,ad] at h)|(refine St.xs h rfl rfl fun w h=> ?_;dsimp only [af,ad] at h)|refine aa.yes ?_|refine aa.no ?_|refine ⟨by first|omega|decide,?_⟩)
    refine Ld.xw h (aG hdl) ?_
    refine xC h hT (hC' _ _) hB (aG hdl) aH fun w h=> ?_
    have hB':(bW d'.L (d'.left:Int) (d'.run:Int) (d'.digits:Int) false).toList.length=260:=by rw [Array.length_toList];exact aG hdl
    refine aa.f rfl ?_
    (with_reducible repeat first|refine Nw.mk h fun b w h=> ?_|refine ag.mk h fun w h=> ?_|refine Ld.xb h rfl ?_|refine Ld.xt h rfl ?_|refine ab.xb (fun _ h=>h) rfl ?_|refine ab.xt (fun _ h=>h) rfl ?_|refine ⟨h.hb,?_⟩|refine ae.xw h rfl rfl fun w h=> ?_|(refine ae.xs h rfl rfl fun w h=> ?_;dsimp only [af,ad] at h)|(refine St.xs h rfl rfl fun w h=> ?_;dsimp only [af,ad] at h)|refine aa.yes ?_|refine aa.no ?_|refine ⟨by first|omega|decide,?_⟩)
    have h:=((((h.no 0).no 1).no 1).no 3)
    by_cases ht:t= []
    ·have hmic:aw ended c (.sym n l k m d) u= .go (.sym n l 0 0 d') (u+1):=by unfold aw;dsimp only;rw [if_pos hle,←hfs];dsimp only;rw [show bU d y=_ from hq];dsimp only;rw [if_pos ht];rfl
     refine cR (K:=fun b w=>K _ b w) (decide_eq_false (by rw [ht] at htl;simp at htl;omega)) ?_
     exact k1 _ _ _ _ hmic (aW.sh h.drop ⟨⟨hT,hC' _ _,hB'⟩,rfl,rfl,hn1,hn2,rfl,hl,hvn,rfl,hd'⟩)
    ·have hmic:aw ended c (.sym n l k m d) u= .ev (.bytes t) (.sym n l 0 0 d') (u+1):=by unfold aw;dsimp only;rw [if_pos hle,←hfs];dsimp only;rw [show bU d y=_ from hq];dsimp only;rw [if_neg ht];rfl
     refine cR (K:=fun b w=>K _ b w) (decide_eq_true (by have:=List.length_pos_iff.2 ht;omega)) ?_
     exact k3 (.bytes t) _ _ _ _ hmic hb' (aW.sh (s:= .sym n l 0 0 d') (h.at 1) ⟨⟨hT,hC' _ _,hB'⟩,rfl,rfl,hn1,hn2,rfl,hl,hvn,rfl,hd'⟩).p1
   ·have hdl:=hd.1.len
    have htl:=h.cN
    simp only [List.length_map,Nat.mul_one] at htl
    refine Nw.mk h fun b38 w h=> ?_
    refine an.q h (by simp) (aG hdl) aH fun w h=> ?_
    (with_reducible repeat first|refine Nw.mk h fun b w h=> ?_|refine ag.mk h fun w h=> ?_|refine Ld.xb h rfl ?_|refine Ld.xt h rfl ?_|refine ab.xb (fun _ h=>h) rfl ?_|refine ab.xt (fun _ h=>h) rfl ?_|refine ⟨h.hb,?_⟩|refine ae.xw h rfl rfl fun w h=> ?_|(refine ae.xs h rfl rfl fun w h=> ?_;dsimp only [af,ad] at h)|(refine St.xs h rfl rfl fun w h=> ?_;dsimp only [af,ad] at h)|refine aa.yes ?_|refine aa.no ?_|refine ⟨by first|omega|decide,?_⟩)
    refine Ld.xw h (aG hdl) ?_
    refine xC h hT (hC' _ _) hB (aG hdl) aH fun w h=> ?_
    have hB':(bW d.L 0 0 0 true).toList.length=260:=by rw [Array.length_toList];exact aG hdl
    refine aa.t rfl ?_
    refine ca (n:=5) h (fun w h=> ?_) (by simp)
    (with_reducible repeat first|refine Nw.mk h fun b w h=> ?_|refine ag.mk h fun w h=> ?_|refine Ld.xb h rfl ?_|refine Ld.xt h rfl ?_|refine ab.xb (fun _ h=>h) rfl ?_|refine ab.xt (fun _ h=>h) rfl ?_|refine ⟨h.hb,?_⟩|refine ae.xw h rfl rfl fun w h=> ?_|(refine ae.xs h rfl rfl fun w h=> ?_;dsimp only [af,ad] at h)|(refine St.xs h rfl rfl fun w h=> ?_;dsimp only [af,ad] at h)|refine aa.yes ?_|refine aa.no ?_|refine ⟨by first|omega|decide,?_⟩)
    have h:=((((h.no 0).no 1).no 1).no 3)
    by_cases ht:t= []
    ·have hmic:aw ended c (.sym n l k m d) u= .go (.pad n) (u+1):=by unfold aw;dsimp only;rw [if_pos hle,←hfs];dsimp only;rw [show bU d y=_ from hq];dsimp only;rw [if_pos ht];rfl
     refine cR (K:=fun b w=>K _ b w) (decide_eq_false (by rw [ht] at htl;simp at htl;omega)) ?_
     exact k1 _ _ _ _ hmic (aW.sh h.drop ⟨⟨hT,hC' _ _,hB'⟩,rfl,rfl,hn1,hn2⟩)
    ·have hmic:aw ended c (.sym n l k m d) u= .ev (.bytes t) (.pad n) (u+1):=by unfold aw;dsimp only;rw [if_pos hle,←hfs];dsimp only;rw [show bU d y=_ from hq];dsimp only;rw [if_neg ht];rfl
     refine cR (K:=fun b w=>K _ b w) (decide_eq_true (by have:=List.length_pos_iff.2 ht;omega)) ?_
     exact k3 (.bytes t) _ _ _ _ hmic (rb hd hq).1 (aW.sh (s:= .pad n) (h.at 1) ⟨⟨hT,hC' _ _,hB'⟩,rfl,rfl,hn1,hn2⟩).p1
 ·(with_reducible repeat first|refine Nw.mk h fun b w h=> ?_|refine ag.mk h fun w h=> ?_|refine Ld.xb h rfl ?_|refine Ld.xt h rfl ?_|refine ab.xb (fun _ h=>h) rfl ?_|refine ab.xt (fun _ h=>h) rfl ?_|refine ⟨h.hb,?_⟩|refine ae.xw h rfl rfl fun w h=> ?_|(refine ae.xs h rfl rfl fun w h=> ?_;dsimp only [af,ad] at h)|(refine St.xs h rfl rfl fun w h=> ?_;dsimp only [af,ad] at h)|refine aa.yes ?_|refine aa.no ?_|refine ⟨by first|omega|decide,?_⟩)
  have hmic:aw ended c (.sym n l k m d) u= .ev (.bad 50) (.bad n 50) u:=by
   unfold aw short;dsimp only;rw [if_neg hle,he];rfl
  subst he
  refine k3 _ _ _ _ _ hmic (fun _ hx=>by cases hx) (Hp.bh (aW.sh (s:= .bad n 50) ((h.no 0).no 2) ⟨⟨hT,hC,hB⟩,rfl,rfl,rfl⟩) 1)
 ·(with_reducible repeat first|refine Nw.mk h fun b w h=> ?_|refine ag.mk h fun w h=> ?_|refine Ld.xb h rfl ?_|refine Ld.xt h rfl ?_|refine ab.xb (fun _ h=>h) rfl ?_|refine ab.xt (fun _ h=>h) rfl ?_|refine ⟨h.hb,?_⟩|refine ae.xw h rfl rfl fun w h=> ?_|(refine ae.xs h rfl rfl fun w h=> ?_;dsimp only [af,ad] at h)|(refine St.xs h rfl rfl fun w h=> ?_;dsimp only [af,ad] at h)|refine aa.yes ?_|refine aa.no ?_|refine ⟨by first|omega|decide,?_⟩)
  have hmic:aw ended c (.sym n l k m d) u= .need:=by
   unfold aw short;dsimp only;rw [if_neg hle,he];rfl
  subst he
  refine k2 _ hmic (aW.sh ((h.no 0).no 2) ⟨⟨hT,hC,hB⟩,rfl,rfl,hn1,hn2,hCe,hl,hv,hBe,hd⟩)
end
end Go.Proofs.YtgglghjnakclmaaGreat
set_option maxRecDepth 20000
namespace Go.Vc
open Go
def qY (P:Program) (ops:Array Oper) (S:World→Prop) (K:AF→World→Prop) (J:Array Bool→AF→World→Prop) (listed:Array Bool) (f:AF) (w:World):Prop:=
 match Region.ready .any ops listed with
 | []=>K f w
 |r::rs=>match (r::rs).find? (fun i=>(match ops[i]? with|some o=>cL P o.op|none=>false)&&Region.free .any ops listed i) with
  |some i=>match ops[i]? with
   |some o=>guarded ops o f
     (fun f=>gm P S f (fun v=>J (listed.setIfInBounds i true) (bk f o.dst v) w) o.op)
     (fun f=>J (listed.setIfInBounds i true) (bk f o.dst (some undef)) w)
   |none=>False
  |none=>lj (r::rs) fun i=>match ops[i]? with
   |some o=>guarded ops o f
     (fun f=>fI P f o w fun v w'=>S w'∧J (listed.setIfInBounds i true) (bk f o.dst v) w')
     (fun f=>J (listed.setIfInBounds i true) (bk f o.dst (some undef)) w)
   |none=>False
theorem a9 {P:Program} {ops:Array Oper} {S:World→Prop} {K:AF→World→Prop} {n:Nat} {listed:Array Bool} {f:AF} {w:World} (h:qY P ops S K (az P ops S K n) listed f w):az P ops S K (n+1) listed f w:=h
noncomputable def ob:Code→List Bool→Code
 |c,[]=>c
 | .seq x _,false::l=>ob x l
 | .seq _ y,true::l=>ob y l
 |c,_=>c
noncomputable def At:Code→Array Oper
 | .region _ ops _=>ops
 |_=> #[]
def wD (P:Program) (ops:Array Oper) (i:Nat):Bool:=match ops[i]? with|some o=>cL P o.op|none=>false
def jE (P:Program) (ops:Array Oper) (listed:Array Bool) (i:Nat):Bool:=wD P ops i&&Region.free .any ops listed i
def aV (P:Program) (ops:Array Oper) (S:World→Prop) (J:Array Bool→AF→World→Prop) (listed:Array Bool) (f:AF) (w:World) (i:Nat):Prop:=match ops[i]? with
 |some o=>guarded ops o f
   (fun f=>fI P f o w fun v w'=>S w'∧J (listed.setIfInBounds i true) (bk f o.dst v) w')
   (fun f=>J (listed.setIfInBounds i true) (bk f o.dst (some undef)) w)
 |none=>False
def dZ (P:Program) (ops:Array Oper) (S:World→Prop) (J:Array Bool→AF→World→Prop) (listed:Array Bool) (f:AF) (w:World) (i:Nat):Prop:=match ops[i]? with
 |some o=>guarded ops o f
   (fun f=>gm P S f (fun v=>J (listed.setIfInBounds i true) (bk f o.dst v) w) o.op)
   (fun f=>J (listed.setIfInBounds i true) (bk f o.dst (some undef)) w)
 |none=>False
theorem tY {F:Nat→Prop}: ∀{l:List Nat},(∀i∈l,F i)→lj l F
 | [],_=>trivial
 | [i],h=>h i (by simp)
 |i::j::l,h=>⟨h i (by simp),tY fun k hk=>h k (List.mem_cons_of_mem _ hk)⟩
theorem qt {P:Program} {ops:Array Oper} {S:World→Prop} {K:AF→World→Prop} {J:Array Bool→AF→World→Prop} {listed:Array Bool} {f:AF} {w:World} {rs:List Nat}
  (hr:Region.ready .any ops listed=rs) (hn:rs≠ []) (hf:rs.find? (jE P ops listed)=none) (h: ∀i∈rs,aV P ops S J listed f w i):qY P ops S K J listed f w:=by
 unfold qY
 rw [hr]
 cases rs with
 |nil=>exact absurd rfl hn
 |cons r rs=>
  have hf':(r::rs).find? (fun i=>(match ops[i]? with|some o=>cL P o.op|none=>false)&&Region.free .any ops listed i)=none:=hf
  dsimp only
  rw [hf']
  exact tY h
theorem bm {P:Program} {ops:Array Oper} {S:World→Prop} {K:AF→World→Prop} {J:Array Bool→AF→World→Prop} {listed:Array Bool} {f:AF} {w:World} {rs:List Nat} {i:Nat}
  (hr:Region.ready .any ops listed=rs) (hf:rs.find? (jE P ops listed)=some i) (h:dZ P ops S J listed f w i):qY P ops S K J listed f w:=by
 unfold qY
 rw [hr]
 cases rs with
 |nil=>cases hf
 |cons r rs=>
  have hf':(r::rs).find? (fun i=>(match ops[i]? with|some o=>cL P o.op|none=>false)&&Region.free .any ops listed i)=some i:=hf
  dsimp only
  rw [hf']
  exact h
end Go.Vc
set_option maxRecDepth 20000
namespace Go.Vc
def r5 (A:List (List Nat)) (g:Nat→Bool):List Nat:=(List.range A.length).filter fun i=> !g i&&(A.getD i []).all g
def dW (n:Nat) (g:Nat→Bool):Array Bool:=⟨(List.range n).map g⟩
theorem ky {n r:Nat} {g:Nat→Bool} {d:Bool} (h:r<n):(dW n g).getD r d=g r:=by
 simp [dW,Array.getD,h]
theorem xi {n r:Nat} {g g':Nat→Bool} (h: ∀q,q<n→g' q=((q==r)||g q)):(dW n g).setIfInBounds r true=dW n g':=by
 apply Array.ext_getElem?
 intro q
 rw [Array.getElem?_setIfInBounds]
 by_cases hq:q<n
 ·have h1: ∀g:Nat→Bool,(dW n g)[q]? =some (g q):=fun g=>by simp [dW,hq]
  have h2:(dW n g).size=n:=by simp [dW]
  rw [h1,h1,h2,h q hq]
  by_cases e:r=q
  ·subst e
   rw [if_pos rfl,if_pos hq,beq_self_eq_true,Bool.true_or]
  ·rw [if_neg e,beq_eq_false_iff_ne.2 (Ne.symm e),Bool.false_or]
 ·have h1: ∀g:Nat→Bool,(dW n g)[q]? =none:=fun g=>by simp [dW];omega
  have h2:(dW n g).size=n:=by simp [dW]
  rw [h1,h1,h2]
  split
  ·rw [if_neg (by omega)]
  ·rfl
theorem jZ {α β:Type} {p:β→Bool} {f:α→β} {q:α→Bool}: ∀(l:List α),((l.filter q).map f).all p=l.all fun e=> !q e||p (f e)
 | []=>rfl
 |a::l=>by
  have:=jZ (p:=p) (f:=f) (q:=q) l
  cases hq:q a
  ·rw [List.filter_cons_of_neg (by simp [hq]),List.all_cons,hq,this];rfl
  ·rw [List.filter_cons_of_pos hq,List.map_cons,List.all_cons,List.all_cons,hq,this];rfl
theorem xL {ops:Array Oper} {A:List (List Nat)} {g:Nat→Bool} (h:ops.toList.map (fun o=>(o.after.toList.filter fun e=>Region.binds .any e).map (·.on))=A) (hA: ∀l∈A,∀x∈l,x<A.length):
  Region.ready .any ops (dW A.length g)=r5 A g:=by
 have hl:ops.size=A.length:=by rw [←h];simp
 unfold Region.ready r5
 rw [hl]
 refine List.filter_congr fun i hi=> ?_
 have hi:i<A.length:=by simpa using hi
 rw [ky hi]
 congr 1
 have ho: ∃o,ops[i]? =some o∧A.getD i []=((o.after.toList.filter fun e=>Region.binds .any e).map (·.on)):=by
  refine ⟨ops[i]'(by omega),by simp [hl,hi],?_⟩
  subst h
  simp at hi
  simp [List.getD_eq_getElem?_getD,hi]
 obtain ⟨o,ho,hAi⟩:=ho
 rw [ho,hAi]
 simp only [Option.map_some,Option.getD_some]
 rw [jZ,←Array.all_toList]
 have hm: ∀e∈o.after.toList,Region.binds .any e=true→e.on<A.length:=fun e he hb=>by
  refine hA (A.getD i []) ?_ _ ?_
  ·rw [List.getD_eq_getElem?_getD,List.getElem?_eq_getElem hi];exact List.getElem_mem hi
  ·rw [hAi];exact List.mem_map.2 ⟨e,List.mem_filter.2 ⟨he,hb⟩,rfl⟩
 rw [Bool.eq_iff_iff,List.all_eq_true,List.all_eq_true]
 refine ⟨fun hh e he=> ?_,fun hh e he=> ?_⟩
 ·have:=hh e he
  cases hb:Region.binds .any e with
  |false=>rfl
  |true=>rw [hb] at this;simpa [ky (hm e he hb)] using this
 ·have:=hh e he
  cases hb:Region.binds .any e with
  |false=>rfl
  |true=>rw [hb] at this;simpa [ky (hm e he hb)] using this
end Go.Vc
namespace Go.Proofs.YtgglghjnakclmaaGreat
open Go Go.Vc Go.aX Go.Srt Go.Inc Go.Sym Go.Tab Go.Hd Go.Prs
noncomputable section
def ar:Array Oper:=At (ob (Tryz.f19.body.getD .skip) [true,true,false])
end
def vO:List (List Nat):= []::(List.range 33).tail.map (fun r=>if r=1 then [] else if r % 4=1 then [r - 4] else if r % 4=2 then [] else if r % 4=3 then [r - 1] else [0,r - 3,r - 1])++ [List.range 33,[33,29]++List.range 34]
set_option maxRecDepth 100000 in
theorem uZ:ar.toList.map (fun o=>(o.after.toList.filter fun e=>Region.binds .any e).map (·.on))=vO:=by kernel_rfl
theorem zu:vO.length=35:=by decide
theorem AK: ∀l∈vO,∀x∈l,x<vO.length:=by decide
set_option maxRecDepth 100000 in
theorem vj:((List.range 35).map fun r=>wD Tryz.prog ar r)=(List.range 35).map fun r=>decide (33≤r)||r % 4==2||r % 4==3:=by kernel_rfl
def gM (made:Bool) (i T r:Nat):Bool:=Nat.blt r 33&&(Nat.beq (r % 4) 2||Nat.beq (r % 4) 3||(Nat.beq r 0&&made)||(Nat.beq (r % 4) 1&&Nat.blt (r/4) i)||(Nat.beq (r % 4) 0&&Nat.blt 0 r&&Nat.beq ((T/2^(r/4 - 1)) % 2) 1))
def LM (made:Bool) (i T:Nat):Array Bool:=dW 35 (gM made i T)
def nQ (made:Bool) (i T:Nat):List Nat:=(if made then [] else [0])++((List.range i).filter fun j=>made&&Nat.beq ((T/2^j) % 2) 0).map (fun j=>4+4*j)++(if Nat.blt i 8 then [1+4*i] else [])
def pS (made:Bool) (i T r:Nat):Nat→Bool:=if r=0 then gM true i T else if r % 4=1 then gM made (i+1) T else gM made i (T+2^(r/4 - 1))
def yL (made:Bool) (i T:Nat):Bool:=
 (Nat.beq i 8&&Nat.beq T 255)||(r5 vO (gM made i T)==nQ made i T)&&((nQ made i T).all fun r=>(List.range 35).all fun q=>pS made i T r q==(Nat.beq q r||gM made i T q))
theorem Cm:((List.range 9).all fun i=>yL false i 0)=true:=by kernel_rfl
theorem B4:((List.range 9).all fun i=>(List.range (2^i)).all fun T=>yL true i T)=true:=by kernel_rfl
end Go.Proofs.YtgglghjnakclmaaGreat
set_option maxRecDepth 20000
namespace Go.Proofs.YtgglghjnakclmaaGreat
open Go Go.Vc Go.aX Go.Srt Go.Inc Go.Sym Go.Tab Go.Hd Go.Prs
set_option maxRecDepth 100000
abbrev bM:TypeId:=126
abbrev gw:Nat→FuncId
 |0=>eE|1=>dw|2=>cZ|3=>dA|4=>dy|5=>dj|6=>ee|_=>eR
abbrev AY:Nat→FuncId
 |0=>dH|1=>dK|2=>dB|3=>c9|4=>c8|5=>dJ|6=>ea|_=>dG
abbrev cd (p:Option Addr) (k:Nat):Value:= .func (.func (AY k)) ⟨[.pointer p]⟩ ⟨[]⟩
abbrev bj (n:Int):Value:= .agg ⟨[.int .i64 n]⟩
noncomputable def DC (b:Nat) (p r:Option Addr):AF:=aU (aU (aU (kT [.pointer p,.pointer r] 69) 4 (some (.pointer (some ⟨b,0,none⟩)))) 8 (some (.pointer p))) 9 (some (.bool (Option.isNone p)))
noncomputable def fc (b:Nat) (p r:Option Addr):Nat→AF
 |0=>DC b p r
 |k+1=>aU (aU (fc b p r k) (13+3*k) (some (.pointer p))) (14+3*k) (some (cd p k))
noncomputable def fr (b:Nat) (p r:Option Addr) (mm:Option (Option Nat)):Nat→AF
 |0=>match mm with|none=>fc b p r 8|some m=>aU (fc b p r 8) 11 (some (.map m))
 |k+1=>aU (fr b p r mm k) (12+3*k) (some (bj ((k+1:Nat):Int)))
def LC:Nat→Array Bool
 |0=>Array.replicate 35 false
 |k+1=>((LC k).setIfInBounds (2+4*k) true).setIfInBounds (3+4*k) true
noncomputable abbrev Cf:Code:=Tryz.f19.body.getD .skip
section
variable {S:World→Prop} {K:AF→World→Prop} {J:Array Bool→AF→World→Prop} {L:Array Bool} {b:Nat} {p r:Option Addr} {m:Option Nat} {w:World} {n:Nat}
theorem CW (h:az Tryz.prog ar S K n (LC 1) (fc b p r 1) w):az Tryz.prog ar S K (n+2) (LC 0) (fc b p r 0) w:=
 a9 (bm (i:=2) rfl (by kernel_rfl) (Eq.mpr (by kernel_rfl:dZ Tryz.prog ar S (az Tryz.prog ar S K (n+1)) (LC 0) (fc b p r 0) w 2=az Tryz.prog ar S K (n+1) ((LC 0).setIfInBounds 2 true) (aU (fc b p r 0) 13 (some (.pointer p))) w)
  (a9 (bm (i:=3) rfl (by kernel_rfl) (Eq.mpr (by kernel_rfl:dZ Tryz.prog ar S (az Tryz.prog ar S K n) ((LC 0).setIfInBounds 2 true) (aU (fc b p r 0) 13 (some (.pointer p))) w 3=az Tryz.prog ar S K n (LC 1) (fc b p r 1) w) h)))))
theorem CV (h:az Tryz.prog ar S K n (LC 2) (fc b p r 2) w):az Tryz.prog ar S K (n+2) (LC 1) (fc b p r 1) w:=
 a9 (bm (i:=6) rfl (by kernel_rfl) (Eq.mpr (by kernel_rfl:dZ Tryz.prog ar S (az Tryz.prog ar S K (n+1)) (LC 1) (fc b p r 1) w 6=az Tryz.prog ar S K (n+1) ((LC 1).setIfInBounds 6 true) (aU (fc b p r 1) 16 (some (.pointer p))) w)
  (a9 (bm (i:=7) rfl (by kernel_rfl) (Eq.mpr (by kernel_rfl:dZ Tryz.prog ar S (az Tryz.prog ar S K n) ((LC 1).setIfInBounds 6 true) (aU (fc b p r 1) 16 (some (.pointer p))) w 7=az Tryz.prog ar S K n (LC 2) (fc b p r 2) w) h)))))
theorem Db (h:az Tryz.prog ar S K n (LC 3) (fc b p r 3) w):az Tryz.prog ar S K (n+2) (LC 2) (fc b p r 2) w:=
 a9 (bm (i:=10) rfl (by kernel_rfl) (Eq.mpr (by kernel_rfl:dZ Tryz.prog ar S (az Tryz.prog ar S K (n+1)) (LC 2) (fc b p r 2) w 10=az Tryz.prog ar S K (n+1) ((LC 2).setIfInBounds 10 true) (aU (fc b p r 2) 19 (some (.pointer p))) w)
  (a9 (bm (i:=11) rfl (by kernel_rfl) (Eq.mpr (by kernel_rfl:dZ Tryz.prog ar S (az Tryz.prog ar S K n) ((LC 2).setIfInBounds 10 true) (aU (fc b p r 2) 19 (some (.pointer p))) w 11=az Tryz.prog ar S K n (LC 3) (fc b p r 3) w) h)))))
theorem CP (h:az Tryz.prog ar S K n (LC 4) (fc b p r 4) w):az Tryz.prog ar S K (n+2) (LC 3) (fc b p r 3) w:=
 a9 (bm (i:=14) rfl (by kernel_rfl) (Eq.mpr (by kernel_rfl:dZ Tryz.prog ar S (az Tryz.prog ar S K (n+1)) (LC 3) (fc b p r 3) w 14=az Tryz.prog ar S K (n+1) ((LC 3).setIfInBounds 14 true) (aU (fc b p r 3) 22 (some (.pointer p))) w)
  (a9 (bm (i:=15) rfl (by kernel_rfl) (Eq.mpr (by kernel_rfl:dZ Tryz.prog ar S (az Tryz.prog ar S K n) ((LC 3).setIfInBounds 14 true) (aU (fc b p r 3) 22 (some (.pointer p))) w 15=az Tryz.prog ar S K n (LC 4) (fc b p r 4) w) h)))))
theorem Dx (h:az Tryz.prog ar S K n (LC 5) (fc b p r 5) w):az Tryz.prog ar S K (n+2) (LC 4) (fc b p r 4) w:=
 a9 (bm (i:=18) rfl (by kernel_rfl) (Eq.mpr (by kernel_rfl:dZ Tryz.prog ar S (az Tryz.prog ar S K (n+1)) (LC 4) (fc b p r 4) w 18=az Tryz.prog ar S K (n+1) ((LC 4).setIfInBounds 18 true) (aU (fc b p r 4) 25 (some (.pointer p))) w)
  (a9 (bm (i:=19) rfl (by kernel_rfl) (Eq.mpr (by kernel_rfl:dZ Tryz.prog ar S (az Tryz.prog ar S K n) ((LC 4).setIfInBounds 18 true) (aU (fc b p r 4) 25 (some (.pointer p))) w 19=az Tryz.prog ar S K n (LC 5) (fc b p r 5) w) h)))))
theorem Dd (h:az Tryz.prog ar S K n (LC 6) (fc b p r 6) w):az Tryz.prog ar S K (n+2) (LC 5) (fc b p r 5) w:=
 a9 (bm (i:=22) rfl (by kernel_rfl) (Eq.mpr (by kernel_rfl:dZ Tryz.prog ar S (az Tryz.prog ar S K (n+1)) (LC 5) (fc b p r 5) w 22=az Tryz.prog ar S K (n+1) ((LC 5).setIfInBounds 22 true) (aU (fc b p r 5) 28 (some (.pointer p))) w)
  (a9 (bm (i:=23) rfl (by kernel_rfl) (Eq.mpr (by kernel_rfl:dZ Tryz.prog ar S (az Tryz.prog ar S K n) ((LC 5).setIfInBounds 22 true) (aU (fc b p r 5) 28 (some (.pointer p))) w 23=az Tryz.prog ar S K n (LC 6) (fc b p r 6) w) h)))))
theorem CO (h:az Tryz.prog ar S K n (LC 7) (fc b p r 7) w):az Tryz.prog ar S K (n+2) (LC 6) (fc b p r 6) w:=
 a9 (bm (i:=26) rfl (by kernel_rfl) (Eq.mpr (by kernel_rfl:dZ Tryz.prog ar S (az Tryz.prog ar S K (n+1)) (LC 6) (fc b p r 6) w 26=az Tryz.prog ar S K (n+1) ((LC 6).setIfInBounds 26 true) (aU (fc b p r 6) 31 (some (.pointer p))) w)
  (a9 (bm (i:=27) rfl (by kernel_rfl) (Eq.mpr (by kernel_rfl:dZ Tryz.prog ar S (az Tryz.prog ar S K n) ((LC 6).setIfInBounds 26 true) (aU (fc b p r 6) 31 (some (.pointer p))) w 27=az Tryz.prog ar S K n (LC 7) (fc b p r 7) w) h)))))
theorem C5 (h:az Tryz.prog ar S K n (LC 8) (fc b p r 8) w):az Tryz.prog ar S K (n+2) (LC 7) (fc b p r 7) w:=
 a9 (bm (i:=30) rfl (by kernel_rfl) (Eq.mpr (by kernel_rfl:dZ Tryz.prog ar S (az Tryz.prog ar S K (n+1)) (LC 7) (fc b p r 7) w 30=az Tryz.prog ar S K (n+1) ((LC 7).setIfInBounds 30 true) (aU (fc b p r 7) 34 (some (.pointer p))) w)
  (a9 (bm (i:=31) rfl (by kernel_rfl) (Eq.mpr (by kernel_rfl:dZ Tryz.prog ar S (az Tryz.prog ar S K n) ((LC 7).setIfInBounds 30 true) (aU (fc b p r 7) 34 (some (.pointer p))) w 31=az Tryz.prog ar S K n (LC 8) (fc b p r 8) w) h)))))
theorem C6:aV Tryz.prog ar S J L (fr b p r none 0) w 0=aA Tryz.prog (Instr.makeMap bM none) kM w fun m w'=>S w'∧J (L.setIfInBounds 0 true) (fr b p r (some m) 0) w':=by kernel_rfl
theorem Dq:aV Tryz.prog ar S J L (fr b p r none 1) w 0=aA Tryz.prog (Instr.makeMap bM none) kM w fun m w'=>S w'∧J (L.setIfInBounds 0 true) (fr b p r (some m) 1) w':=by kernel_rfl
theorem CY:aV Tryz.prog ar S J L (fr b p r none 2) w 0=aA Tryz.prog (Instr.makeMap bM none) kM w fun m w'=>S w'∧J (L.setIfInBounds 0 true) (fr b p r (some m) 2) w':=by kernel_rfl
theorem De:aV Tryz.prog ar S J L (fr b p r none 3) w 0=aA Tryz.prog (Instr.makeMap bM none) kM w fun m w'=>S w'∧J (L.setIfInBounds 0 true) (fr b p r (some m) 3) w':=by kernel_rfl
theorem Dt:aV Tryz.prog ar S J L (fr b p r none 4) w 0=aA Tryz.prog (Instr.makeMap bM none) kM w fun m w'=>S w'∧J (L.setIfInBounds 0 true) (fr b p r (some m) 4) w':=by kernel_rfl
theorem C3:aV Tryz.prog ar S J L (fr b p r none 5) w 0=aA Tryz.prog (Instr.makeMap bM none) kM w fun m w'=>S w'∧J (L.setIfInBounds 0 true) (fr b p r (some m) 5) w':=by kernel_rfl
theorem CT:aV Tryz.prog ar S J L (fr b p r none 6) w 0=aA Tryz.prog (Instr.makeMap bM none) kM w fun m w'=>S w'∧J (L.setIfInBounds 0 true) (fr b p r (some m) 6) w':=by kernel_rfl
theorem C8:aV Tryz.prog ar S J L (fr b p r none 7) w 0=aA Tryz.prog (Instr.makeMap bM none) kM w fun m w'=>S w'∧J (L.setIfInBounds 0 true) (fr b p r (some m) 7) w':=by kernel_rfl
theorem Dg:aV Tryz.prog ar S J L (fr b p r none 8) w 0=aA Tryz.prog (Instr.makeMap bM none) kM w fun m w'=>S w'∧J (L.setIfInBounds 0 true) (fr b p r (some m) 8) w':=by kernel_rfl
theorem BS:aV Tryz.prog ar S J L (fr b p r none 0) w 1=Cl Tryz.prog [.st [.int .i64]] (gw 0) ⟨[]⟩ w fun x w'=>S w'∧J (L.setIfInBounds 1 true) (aU (fr b p r none 0) 12 (some (bj x.1))) w':=by kernel_rfl
theorem Co:aV Tryz.prog ar S J L (fr b p r (some m) 0) w 1=Cl Tryz.prog [.st [.int .i64]] (gw 0) ⟨[]⟩ w fun x w'=>S w'∧J (L.setIfInBounds 1 true) (aU (fr b p r (some m) 0) 12 (some (bj x.1))) w':=by kernel_rfl
theorem Cn:aV Tryz.prog ar S J L (fr b p r none 1) w 5=Cl Tryz.prog [.st [.int .i64]] (gw 1) ⟨[]⟩ w fun x w'=>S w'∧J (L.setIfInBounds 5 true) (aU (fr b p r none 1) 15 (some (bj x.1))) w':=by kernel_rfl
theorem BQ:aV Tryz.prog ar S J L (fr b p r (some m) 1) w 5=Cl Tryz.prog [.st [.int .i64]] (gw 1) ⟨[]⟩ w fun x w'=>S w'∧J (L.setIfInBounds 5 true) (aU (fr b p r (some m) 1) 15 (some (bj x.1))) w':=by kernel_rfl
theorem B2:aV Tryz.prog ar S J L (fr b p r none 2) w 9=Cl Tryz.prog [.st [.int .i64]] (gw 2) ⟨[]⟩ w fun x w'=>S w'∧J (L.setIfInBounds 9 true) (aU (fr b p r none 2) 18 (some (bj x.1))) w':=by kernel_rfl
theorem Cq:aV Tryz.prog ar S J L (fr b p r (some m) 2) w 9=Cl Tryz.prog [.st [.int .i64]] (gw 2) ⟨[]⟩ w fun x w'=>S w'∧J (L.setIfInBounds 9 true) (aU (fr b p r (some m) 2) 18 (some (bj x.1))) w':=by kernel_rfl
theorem Ca:aV Tryz.prog ar S J L (fr b p r none 3) w 13=Cl Tryz.prog [.st [.int .i64]] (gw 3) ⟨[]⟩ w fun x w'=>S w'∧J (L.setIfInBounds 13 true) (aU (fr b p r none 3) 21 (some (bj x.1))) w':=by kernel_rfl
theorem BV:aV Tryz.prog ar S J L (fr b p r (some m) 3) w 13=Cl Tryz.prog [.st [.int .i64]] (gw 3) ⟨[]⟩ w fun x w'=>S w'∧J (L.setIfInBounds 13 true) (aU (fr b p r (some m) 3) 21 (some (bj x.1))) w':=by kernel_rfl
theorem Ck:aV Tryz.prog ar S J L (fr b p r none 4) w 17=Cl Tryz.prog [.st [.int .i64]] (gw 4) ⟨[]⟩ w fun x w'=>S w'∧J (L.setIfInBounds 17 true) (aU (fr b p r none 4) 24 (some (bj x.1))) w':=by kernel_rfl
theorem BR:aV Tryz.prog ar S J L (fr b p r (some m) 4) w 17=Cl Tryz.prog [.st [.int .i64]] (gw 4) ⟨[]⟩ w fun x w'=>S w'∧J (L.setIfInBounds 17 true) (aU (fr b p r (some m) 4) 24 (some (bj x.1))) w':=by kernel_rfl
theorem B7:aV Tryz.prog ar S J L (fr b p r none 5) w 21=Cl Tryz.prog [.st [.int .i64]] (gw 5) ⟨[]⟩ w fun x w'=>S w'∧J (L.setIfInBounds 21 true) (aU (fr b p r none 5) 27 (some (bj x.1))) w':=by kernel_rfl
theorem B0:aV Tryz.prog ar S J L (fr b p r (some m) 5) w 21=Cl Tryz.prog [.st [.int .i64]] (gw 5) ⟨[]⟩ w fun x w'=>S w'∧J (L.setIfInBounds 21 true) (aU (fr b p r (some m) 5) 27 (some (bj x.1))) w':=by kernel_rfl
theorem Cj:aV Tryz.prog ar S J L (fr b p r none 6) w 25=Cl Tryz.prog [.st [.int .i64]] (gw 6) ⟨[]⟩ w fun x w'=>S w'∧J (L.setIfInBounds 25 true) (aU (fr b p r none 6) 30 (some (bj x.1))) w':=by kernel_rfl
theorem Cc:aV Tryz.prog ar S J L (fr b p r (some m) 6) w 25=Cl Tryz.prog [.st [.int .i64]] (gw 6) ⟨[]⟩ w fun x w'=>S w'∧J (L.setIfInBounds 25 true) (aU (fr b p r (some m) 6) 30 (some (bj x.1))) w':=by kernel_rfl
theorem B8:aV Tryz.prog ar S J L (fr b p r none 7) w 29=Cl Tryz.prog [.st [.int .i64]] (gw 7) ⟨[]⟩ w fun x w'=>S w'∧J (L.setIfInBounds 29 true) (aU (fr b p r none 7) 33 (some (bj x.1))) w':=by kernel_rfl
theorem B3:aV Tryz.prog ar S J L (fr b p r (some m) 7) w 29=Cl Tryz.prog [.st [.int .i64]] (gw 7) ⟨[]⟩ w fun x w'=>S w'∧J (L.setIfInBounds 29 true) (aU (fr b p r (some m) 7) 33 (some (bj x.1))) w':=by kernel_rfl
theorem AG:aV Tryz.prog ar S J L (fr b p r (some m) 1) w 4=aA Tryz.prog (do Instr.mapUpdate bM (.map m) (bj (1:Nat)) (cd p 0);pure undef) kV w fun _ w'=>S w'∧J (L.setIfInBounds 4 true) (fr b p r (some m) 1) w':=by kernel_rfl
theorem Ap:aV Tryz.prog ar S J L (fr b p r (some m) 2) w 4=aA Tryz.prog (do Instr.mapUpdate bM (.map m) (bj (1:Nat)) (cd p 0);pure undef) kV w fun _ w'=>S w'∧J (L.setIfInBounds 4 true) (fr b p r (some m) 2) w':=by kernel_rfl
theorem Aq:aV Tryz.prog ar S J L (fr b p r (some m) 2) w 8=aA Tryz.prog (do Instr.mapUpdate bM (.map m) (bj (2:Nat)) (cd p 1);pure undef) kV w fun _ w'=>S w'∧J (L.setIfInBounds 8 true) (fr b p r (some m) 2) w':=by kernel_rfl
theorem AP:aV Tryz.prog ar S J L (fr b p r (some m) 3) w 4=aA Tryz.prog (do Instr.mapUpdate bM (.map m) (bj (1:Nat)) (cd p 0);pure undef) kV w fun _ w'=>S w'∧J (L.setIfInBounds 4 true) (fr b p r (some m) 3) w':=by kernel_rfl
theorem A9:aV Tryz.prog ar S J L (fr b p r (some m) 3) w 8=aA Tryz.prog (do Instr.mapUpdate bM (.map m) (bj (2:Nat)) (cd p 1);pure undef) kV w fun _ w'=>S w'∧J (L.setIfInBounds 8 true) (fr b p r (some m) 3) w':=by kernel_rfl
theorem Bx:aV Tryz.prog ar S J L (fr b p r (some m) 3) w 12=aA Tryz.prog (do Instr.mapUpdate bM (.map m) (bj (3:Nat)) (cd p 2);pure undef) kV w fun _ w'=>S w'∧J (L.setIfInBounds 12 true) (fr b p r (some m) 3) w':=by kernel_rfl
theorem Bf:aV Tryz.prog ar S J L (fr b p r (some m) 4) w 4=aA Tryz.prog (do Instr.mapUpdate bM (.map m) (bj (1:Nat)) (cd p 0);pure undef) kV w fun _ w'=>S w'∧J (L.setIfInBounds 4 true) (fr b p r (some m) 4) w':=by kernel_rfl
theorem Ak:aV Tryz.prog ar S J L (fr b p r (some m) 4) w 8=aA Tryz.prog (do Instr.mapUpdate bM (.map m) (bj (2:Nat)) (cd p 1);pure undef) kV w fun _ w'=>S w'∧J (L.setIfInBounds 8 true) (fr b p r (some m) 4) w':=by kernel_rfl
theorem AJ:aV Tryz.prog ar S J L (fr b p r (some m) 4) w 12=aA Tryz.prog (do Instr.mapUpdate bM (.map m) (bj (3:Nat)) (cd p 2);pure undef) kV w fun _ w'=>S w'∧J (L.setIfInBounds 12 true) (fr b p r (some m) 4) w':=by kernel_rfl
theorem Ae:aV Tryz.prog ar S J L (fr b p r (some m) 4) w 16=aA Tryz.prog (do Instr.mapUpdate bM (.map m) (bj (4:Nat)) (cd p 3);pure undef) kV w fun _ w'=>S w'∧J (L.setIfInBounds 16 true) (fr b p r (some m) 4) w':=by kernel_rfl
theorem Af:aV Tryz.prog ar S J L (fr b p r (some m) 5) w 4=aA Tryz.prog (do Instr.mapUpdate bM (.map m) (bj (1:Nat)) (cd p 0);pure undef) kV w fun _ w'=>S w'∧J (L.setIfInBounds 4 true) (fr b p r (some m) 5) w':=by kernel_rfl
theorem z8:aV Tryz.prog ar S J L (fr b p r (some m) 5) w 8=aA Tryz.prog (do Instr.mapUpdate bM (.map m) (bj (2:Nat)) (cd p 1);pure undef) kV w fun _ w'=>S w'∧J (L.setIfInBounds 8 true) (fr b p r (some m) 5) w':=by kernel_rfl
theorem Ax:aV Tryz.prog ar S J L (fr b p r (some m) 5) w 12=aA Tryz.prog (do Instr.mapUpdate bM (.map m) (bj (3:Nat)) (cd p 2);pure undef) kV w fun _ w'=>S w'∧J (L.setIfInBounds 12 true) (fr b p r (some m) 5) w':=by kernel_rfl
theorem BP:aV Tryz.prog ar S J L (fr b p r (some m) 5) w 16=aA Tryz.prog (do Instr.mapUpdate bM (.map m) (bj (4:Nat)) (cd p 3);pure undef) kV w fun _ w'=>S w'∧J (L.setIfInBounds 16 true) (fr b p r (some m) 5) w':=by kernel_rfl
theorem Au:aV Tryz.prog ar S J L (fr b p r (some m) 5) w 20=aA Tryz.prog (do Instr.mapUpdate bM (.map m) (bj (5:Nat)) (cd p 4);pure undef) kV w fun _ w'=>S w'∧J (L.setIfInBounds 20 true) (fr b p r (some m) 5) w':=by kernel_rfl
theorem BA:aV Tryz.prog ar S J L (fr b p r (some m) 6) w 4=aA Tryz.prog (do Instr.mapUpdate bM (.map m) (bj (1:Nat)) (cd p 0);pure undef) kV w fun _ w'=>S w'∧J (L.setIfInBounds 4 true) (fr b p r (some m) 6) w':=by kernel_rfl
theorem Bo:aV Tryz.prog ar S J L (fr b p r (some m) 6) w 8=aA Tryz.prog (do Instr.mapUpdate bM (.map m) (bj (2:Nat)) (cd p 1);pure undef) kV w fun _ w'=>S w'∧J (L.setIfInBounds 8 true) (fr b p r (some m) 6) w':=by kernel_rfl
theorem BC:aV Tryz.prog ar S J L (fr b p r (some m) 6) w 12=aA Tryz.prog (do Instr.mapUpdate bM (.map m) (bj (3:Nat)) (cd p 2);pure undef) kV w fun _ w'=>S w'∧J (L.setIfInBounds 12 true) (fr b p r (some m) 6) w':=by kernel_rfl
theorem AE:aV Tryz.prog ar S J L (fr b p r (some m) 6) w 16=aA Tryz.prog (do Instr.mapUpdate bM (.map m) (bj (4:Nat)) (cd p 3);pure undef) kV w fun _ w'=>S w'∧J (L.setIfInBounds 16 true) (fr b p r (some m) 6) w':=by kernel_rfl
theorem BB:aV Tryz.prog ar S J L (fr b p r (some m) 6) w 20=aA Tryz.prog (do Instr.mapUpdate bM (.map m) (bj (5:Nat)) (cd p 4);pure undef) kV w fun _ w'=>S w'∧J (L.setIfInBounds 20 true) (fr b p r (some m) 6) w':=by kernel_rfl
theorem A1:aV Tryz.prog ar S J L (fr b p r (some m) 6) w 24=aA Tryz.prog (do Instr.mapUpdate bM (.map m) (bj (6:Nat)) (cd p 5);pure undef) kV w fun _ w'=>S w'∧J (L.setIfInBounds 24 true) (fr b p r (some m) 6) w':=by kernel_rfl
theorem Av:aV Tryz.prog ar S J L (fr b p r (some m) 7) w 4=aA Tryz.prog (do Instr.mapUpdate bM (.map m) (bj (1:Nat)) (cd p 0);pure undef) kV w fun _ w'=>S w'∧J (L.setIfInBounds 4 true) (fr b p r (some m) 7) w':=by kernel_rfl
theorem BN:aV Tryz.prog ar S J L (fr b p r (some m) 7) w 8=aA Tryz.prog (do Instr.mapUpdate bM (.map m) (bj (2:Nat)) (cd p 1);pure undef) kV w fun _ w'=>S w'∧J (L.setIfInBounds 8 true) (fr b p r (some m) 7) w':=by kernel_rfl
theorem Bg:aV Tryz.prog ar S J L (fr b p r (some m) 7) w 12=aA Tryz.prog (do Instr.mapUpdate bM (.map m) (bj (3:Nat)) (cd p 2);pure undef) kV w fun _ w'=>S w'∧J (L.setIfInBounds 12 true) (fr b p r (some m) 7) w':=by kernel_rfl
theorem Bv:aV Tryz.prog ar S J L (fr b p r (some m) 7) w 16=aA Tryz.prog (do Instr.mapUpdate bM (.map m) (bj (4:Nat)) (cd p 3);pure undef) kV w fun _ w'=>S w'∧J (L.setIfInBounds 16 true) (fr b p r (some m) 7) w':=by kernel_rfl
theorem z6:aV Tryz.prog ar S J L (fr b p r (some m) 7) w 20=aA Tryz.prog (do Instr.mapUpdate bM (.map m) (bj (5:Nat)) (cd p 4);pure undef) kV w fun _ w'=>S w'∧J (L.setIfInBounds 20 true) (fr b p r (some m) 7) w':=by kernel_rfl
theorem Aw:aV Tryz.prog ar S J L (fr b p r (some m) 7) w 24=aA Tryz.prog (do Instr.mapUpdate bM (.map m) (bj (6:Nat)) (cd p 5);pure undef) kV w fun _ w'=>S w'∧J (L.setIfInBounds 24 true) (fr b p r (some m) 7) w':=by kernel_rfl
theorem AS:aV Tryz.prog ar S J L (fr b p r (some m) 7) w 28=aA Tryz.prog (do Instr.mapUpdate bM (.map m) (bj (7:Nat)) (cd p 6);pure undef) kV w fun _ w'=>S w'∧J (L.setIfInBounds 28 true) (fr b p r (some m) 7) w':=by kernel_rfl
theorem BE:aV Tryz.prog ar S J L (fr b p r (some m) 8) w 4=aA Tryz.prog (do Instr.mapUpdate bM (.map m) (bj (1:Nat)) (cd p 0);pure undef) kV w fun _ w'=>S w'∧J (L.setIfInBounds 4 true) (fr b p r (some m) 8) w':=by kernel_rfl
theorem AT:aV Tryz.prog ar S J L (fr b p r (some m) 8) w 8=aA Tryz.prog (do Instr.mapUpdate bM (.map m) (bj (2:Nat)) (cd p 1);pure undef) kV w fun _ w'=>S w'∧J (L.setIfInBounds 8 true) (fr b p r (some m) 8) w':=by kernel_rfl
theorem AO:aV Tryz.prog ar S J L (fr b p r (some m) 8) w 12=aA Tryz.prog (do Instr.mapUpdate bM (.map m) (bj (3:Nat)) (cd p 2);pure undef) kV w fun _ w'=>S w'∧J (L.setIfInBounds 12 true) (fr b p r (some m) 8) w':=by kernel_rfl
theorem BF:aV Tryz.prog ar S J L (fr b p r (some m) 8) w 16=aA Tryz.prog (do Instr.mapUpdate bM (.map m) (bj (4:Nat)) (cd p 3);pure undef) kV w fun _ w'=>S w'∧J (L.setIfInBounds 16 true) (fr b p r (some m) 8) w':=by kernel_rfl
theorem AV:aV Tryz.prog ar S J L (fr b p r (some m) 8) w 20=aA Tryz.prog (do Instr.mapUpdate bM (.map m) (bj (5:Nat)) (cd p 4);pure undef) kV w fun _ w'=>S w'∧J (L.setIfInBounds 20 true) (fr b p r (some m) 8) w':=by kernel_rfl
theorem A7:aV Tryz.prog ar S J L (fr b p r (some m) 8) w 24=aA Tryz.prog (do Instr.mapUpdate bM (.map m) (bj (6:Nat)) (cd p 5);pure undef) kV w fun _ w'=>S w'∧J (L.setIfInBounds 24 true) (fr b p r (some m) 8) w':=by kernel_rfl
theorem Bu:aV Tryz.prog ar S J L (fr b p r (some m) 8) w 28=aA Tryz.prog (do Instr.mapUpdate bM (.map m) (bj (7:Nat)) (cd p 6);pure undef) kV w fun _ w'=>S w'∧J (L.setIfInBounds 28 true) (fr b p r (some m) 8) w':=by kernel_rfl
theorem AH:aV Tryz.prog ar S J L (fr b p r (some m) 8) w 32=aA Tryz.prog (do Instr.mapUpdate bM (.map m) (bj (8:Nat)) (cd p 7);pure undef) kV w fun _ w'=>S w'∧J (L.setIfInBounds 32 true) (fr b p r (some m) 8) w':=by kernel_rfl
theorem AU {i:Nat} (hi:i≤8):aV Tryz.prog ar S J L (fr b p r none i) w 0=aA Tryz.prog (Instr.makeMap bM none) kM w fun m w'=>S w'∧J (L.setIfInBounds 0 true) (fr b p r (some m) i) w':=
 match i,hi with
 |0,_=>C6
 |1,_=>Dq
 |2,_=>CY
 |3,_=>De
 |4,_=>Dt
 |5,_=>C3
 |6,_=>CT
 |7,_=>C8
 |8,_=>Dg
 |i+9,h=>by omega
theorem Df {i:Nat} (hi:i<8):aV Tryz.prog ar S J L (fr b p r none i) w (1+4*i)=Cl Tryz.prog [.st [.int .i64]] (gw i) ⟨[]⟩ w fun x w'=>S w'∧J (L.setIfInBounds (1+4*i) true) (aU (fr b p r none i) (12+3*i) (some (bj x.1))) w':=
 match i,hi with
 |0,_=>BS
 |1,_=>Cn
 |2,_=>B2
 |3,_=>Ca
 |4,_=>Ck
 |5,_=>B7
 |6,_=>Cj
 |7,_=>B8
 |i+8,h=>by omega
theorem Dl {i:Nat} (hi:i<8):aV Tryz.prog ar S J L (fr b p r (some m) i) w (1+4*i)=Cl Tryz.prog [.st [.int .i64]] (gw i) ⟨[]⟩ w fun x w'=>S w'∧J (L.setIfInBounds (1+4*i) true) (aU (fr b p r (some m) i) (12+3*i) (some (bj x.1))) w':=
 match i,hi with
 |0,_=>Co
 |1,_=>BQ
 |2,_=>Cq
 |3,_=>BV
 |4,_=>BR
 |5,_=>B0
 |6,_=>Cc
 |7,_=>B3
 |i+8,h=>by omega
theorem Ab {i j:Nat} (hi:i≤8) (hj:j<i):aV Tryz.prog ar S J L (fr b p r (some m) i) w (4+4*j)=aA Tryz.prog (do Instr.mapUpdate bM (.map m) (bj ((j+1:Nat):Int)) (cd p j);pure undef) kV w fun _ w'=>S w'∧J (L.setIfInBounds (4+4*j) true) (fr b p r (some m) i) w':=
 match i,j,hi,hj with
 |1,0,_,_=>AG
 |2,0,_,_=>Ap
 |2,1,_,_=>Aq
 |3,0,_,_=>AP
 |3,1,_,_=>A9
 |3,2,_,_=>Bx
 |4,0,_,_=>Bf
 |4,1,_,_=>Ak
 |4,2,_,_=>AJ
 |4,3,_,_=>Ae
 |5,0,_,_=>Af
 |5,1,_,_=>z8
 |5,2,_,_=>Ax
 |5,3,_,_=>BP
 |5,4,_,_=>Au
 |6,0,_,_=>BA
 |6,1,_,_=>Bo
 |6,2,_,_=>BC
 |6,3,_,_=>AE
 |6,4,_,_=>BB
 |6,5,_,_=>A1
 |7,0,_,_=>Av
 |7,1,_,_=>BN
 |7,2,_,_=>Bg
 |7,3,_,_=>Bv
 |7,4,_,_=>z6
 |7,5,_,_=>Aw
 |7,6,_,_=>AS
 |8,0,_,_=>BE
 |8,1,_,_=>AT
 |8,2,_,_=>AO
 |8,3,_,_=>BF
 |8,4,_,_=>AV
 |8,5,_,_=>A7
 |8,6,_,_=>Bu
 |8,7,_,_=>AH
 |0,_,_,h=>by omega
 |1,j+1,_,h=>by omega
 |2,j+2,_,h=>by omega
 |3,j+3,_,h=>by omega
 |4,j+4,_,h=>by omega
 |5,j+5,_,h=>by omega
 |6,j+6,_,h=>by omega
 |7,j+7,_,h=>by omega
 |8,j+8,_,h=>by omega
 |i+9,_,h,_=>by omega
theorem BY (h:K (aU (aU (fr b p r (some m) 8) 36 (some (.map m))) 5 (some (.map m))) w):az Tryz.prog ar S K (n+2) (LM true 8 255) (fr b p r (some m) 8) w:=
 a9 (bm (i:=33) rfl (by kernel_rfl) (Eq.mpr (by kernel_rfl:dZ Tryz.prog ar S (az Tryz.prog ar S K (n+1)) (LM true 8 255) (fr b p r (some m) 8) w 33=az Tryz.prog ar S K (n+1) ((LM true 8 255).setIfInBounds 33 true) (aU (fr b p r (some m) 8) 36 (some (.map m))) w)
  (a9 (bm (i:=34) rfl (by kernel_rfl) (Eq.mpr (by kernel_rfl:dZ Tryz.prog ar S (az Tryz.prog ar S K n) ((LM true 8 255).setIfInBounds 33 true) (aU (fr b p r (some m) 8) 36 (some (.map m))) w 34=az Tryz.prog ar S K n (((LM true 8 255).setIfInBounds 33 true).setIfInBounds 34 true) (aU (aU (fr b p r (some m) 8) 36 (some (.map m))) 5 (some (.map m))) w)
   (by
    cases n with
    |zero=>exact Eq.mpr (by kernel_rfl:c6 (Region.ready .any ar (((LM true 8 255).setIfInBounds 33 true).setIfInBounds 34 true)).isEmpty (K (aU (aU (fr b p r (some m) 8) 36 (some (.map m))) 5 (some (.map m))) w)=K (aU (aU (fr b p r (some m) 8) 36 (some (.map m))) 5 (some (.map m))) w) h
    |succ n=>
     unfold az
     rw [(by kernel_rfl:Region.ready .any ar (((LM true 8 255).setIfInBounds 33 true).setIfInBounds 34 true)= [])]
     exact h))))))
end
def oz (b4:Nat) (m_:Option Nat) (p1 r2:Option Addr) (R:(TT [.int .u8,.int .i64,.int .i64,.int .i64,.int .u32,.sl,.int .i64])→World→Prop) (w_7:World):Prop:=
 ∃(I_8:World→Prop) (m_9:World→Nat),I_8 w_7∧
 ∀(w_10:World),I_8 w_10→
 cJ w_10 fun (S11:World→Prop) (w_12:World)=>
 aa (Option.isNone (r2:Option Addr))
 (aO p1 fun (p13:Addr)=>
 ab (.st [.int .i64]) (p13.add 0) S11 fun (part14:(TT [.int .i64]))=>
 Cl Tryz.prog [(.st [.int .i64])] ee ⟨[]⟩ w_12 fun (r16:(TT [.int .i64])) (w_15:World)=>
 S11 w_15∧
 aa (!((part14.1:Int)==(r16.1:Int)))
 (aO p1 fun (p17:Addr)=>
 ab (.st [.int .i64]) (p17.add 0) S11 fun (part18:(TT [.int .i64]))=>
 Cl Tryz.prog [(.st [.int .i64])] eR ⟨[]⟩ w_15 fun (r20:(TT [.int .i64])) (w_19:World)=>
 S11 w_19∧
 aa (!((part18.1:Int)==(r20.1:Int)))
 (ae (⟨b4,0,none⟩:Addr) [(.int .u8 1),(.int .i64 0),(.int .i64 0),(.int .i64 0),(.int .u32 0),(.slice none 0 0),(.int .i64 0)] 0 w_19 fun (w_21:World)=>
 Ld (.st [.int .u8,.int .i64,.int .i64,.int .i64,.int .u32,.sl,.int .i64]) (⟨b4,0,none⟩:Addr) w_21 fun (res22:(TT [.int .u8,.int .i64,.int .i64,.int .i64,.int .u32,.sl,.int .i64]))=>
 R (res22) w_21)
 (aO p1 fun (p23:Addr)=>
 Ld (.st [.int .i64]) (p23.add 0) w_19 fun (part24:(TT [.int .i64]))=>
 aA Tryz.prog (Instr.lookup 126 (.map m_) (.agg ⟨[(.int .i64 part24.1)]⟩) false) kV w_19 fun (e26:Value) (w_25:World)=>
 jx Tryz.prog e26 [(.st [.int .u8,.int .i64,.int .i64,.int .i64,.int .u32,.sl,.int .i64]),kB] [(.pointer r2)] w_25 fun (r28:(TT [.int .u8,.int .i64,.int .i64,.int .i64,.int .u32,.sl,.int .i64])) (r29:Bool) (w_27:World)=>
 Nw 29 ⟨[(.int .u8 0),(.int .i64 0),(.int .i64 0),(.int .i64 0),(.int .u32 0),(.slice none 0 0),(.int .i64 0)]⟩ w_27 fun (b31:Nat) (w_30:World)=>
 ae (⟨b31,0,none⟩:Addr) [(.int .u8 r28.1),(.int .i64 r28.2.1),(.int .i64 r28.2.2.1),(.int .i64 r28.2.2.2.1),(.int .u32 r28.2.2.2.2.1),(.slice r28.2.2.2.2.2.1.base r28.2.2.2.2.2.1.len r28.2.2.2.2.2.1.cap),(.int .i64 r28.2.2.2.2.2.2.1)] 0 w_30 fun (w_32:World)=>
 aa r29
 (Ld (.st [.int .u8,.int .i64,.int .i64,.int .i64,.int .u32,.sl,.int .i64]) (⟨b31,0,none⟩:Addr) w_32 fun (x33:(TT [.int .u8,.int .i64,.int .i64,.int .i64,.int .u32,.sl,.int .i64]))=>
 ae (⟨b4,0,none⟩:Addr) [(.int .u8 x33.1),(.int .i64 x33.2.1),(.int .i64 x33.2.2.1),(.int .i64 x33.2.2.2.1),(.int .u32 x33.2.2.2.2.1),(.slice x33.2.2.2.2.2.1.base x33.2.2.2.2.2.1.len x33.2.2.2.2.2.1.cap),(.int .i64 x33.2.2.2.2.2.2.1)] 0 w_32 fun (w_34:World)=>
 Ld (.st [.int .u8,.int .i64,.int .i64,.int .i64,.int .u32,.sl,.int .i64]) (⟨b4,0,none⟩:Addr) w_34 fun (res35:(TT [.int .u8,.int .i64,.int .i64,.int .i64,.int .u32,.sl,.int .i64]))=>
 R (res35) w_34)
 (I_8 w_32∧m_9 w_32<m_9 w_10)))
 (aO p1 fun (p36:Addr)=>
 Ld (.st [.int .i64]) (p36.add 0) w_15 fun (part37:(TT [.int .i64]))=>
 aA Tryz.prog (Instr.lookup 126 (.map m_) (.agg ⟨[(.int .i64 part37.1)]⟩) false) kV w_15 fun (e39:Value) (w_38:World)=>
 jx Tryz.prog e39 [(.st [.int .u8,.int .i64,.int .i64,.int .i64,.int .u32,.sl,.int .i64]),kB] [(.pointer r2)] w_38 fun (r41:(TT [.int .u8,.int .i64,.int .i64,.int .i64,.int .u32,.sl,.int .i64])) (r42:Bool) (w_40:World)=>
 Nw 29 ⟨[(.int .u8 0),(.int .i64 0),(.int .i64 0),(.int .i64 0),(.int .u32 0),(.slice none 0 0),(.int .i64 0)]⟩ w_40 fun (b44:Nat) (w_43:World)=>
 ae (⟨b44,0,none⟩:Addr) [(.int .u8 r41.1),(.int .i64 r41.2.1),(.int .i64 r41.2.2.1),(.int .i64 r41.2.2.2.1),(.int .u32 r41.2.2.2.2.1),(.slice r41.2.2.2.2.2.1.base r41.2.2.2.2.2.1.len r41.2.2.2.2.2.1.cap),(.int .i64 r41.2.2.2.2.2.2.1)] 0 w_43 fun (w_45:World)=>
 aa r42
 (Ld (.st [.int .u8,.int .i64,.int .i64,.int .i64,.int .u32,.sl,.int .i64]) (⟨b44,0,none⟩:Addr) w_45 fun (x46:(TT [.int .u8,.int .i64,.int .i64,.int .i64,.int .u32,.sl,.int .i64]))=>
 ae (⟨b4,0,none⟩:Addr) [(.int .u8 x46.1),(.int .i64 x46.2.1),(.int .i64 x46.2.2.1),(.int .i64 x46.2.2.2.1),(.int .u32 x46.2.2.2.2.1),(.slice x46.2.2.2.2.2.1.base x46.2.2.2.2.2.1.len x46.2.2.2.2.2.1.cap),(.int .i64 x46.2.2.2.2.2.2.1)] 0 w_45 fun (w_47:World)=>
 Ld (.st [.int .u8,.int .i64,.int .i64,.int .i64,.int .u32,.sl,.int .i64]) (⟨b4,0,none⟩:Addr) w_47 fun (res48:(TT [.int .u8,.int .i64,.int .i64,.int .i64,.int .u32,.sl,.int .i64]))=>
 R (res48) w_47)
 (I_8 w_45∧m_9 w_45<m_9 w_10)))
 (aO p1 fun (p49:Addr)=>
 Ld (.st [.int .i64]) (p49.add 0) w_12 fun (part50:(TT [.int .i64]))=>
 aA Tryz.prog (Instr.lookup 126 (.map m_) (.agg ⟨[(.int .i64 part50.1)]⟩) false) kV w_12 fun (e52:Value) (w_51:World)=>
 jx Tryz.prog e52 [(.st [.int .u8,.int .i64,.int .i64,.int .i64,.int .u32,.sl,.int .i64]),kB] [(.pointer r2)] w_51 fun (r54:(TT [.int .u8,.int .i64,.int .i64,.int .i64,.int .u32,.sl,.int .i64])) (r55:Bool) (w_53:World)=>
 Nw 29 ⟨[(.int .u8 0),(.int .i64 0),(.int .i64 0),(.int .i64 0),(.int .u32 0),(.slice none 0 0),(.int .i64 0)]⟩ w_53 fun (b57:Nat) (w_56:World)=>
 ae (⟨b57,0,none⟩:Addr) [(.int .u8 r54.1),(.int .i64 r54.2.1),(.int .i64 r54.2.2.1),(.int .i64 r54.2.2.2.1),(.int .u32 r54.2.2.2.2.1),(.slice r54.2.2.2.2.2.1.base r54.2.2.2.2.2.1.len r54.2.2.2.2.2.1.cap),(.int .i64 r54.2.2.2.2.2.2.1)] 0 w_56 fun (w_58:World)=>
 aa r55
 (Ld (.st [.int .u8,.int .i64,.int .i64,.int .i64,.int .u32,.sl,.int .i64]) (⟨b57,0,none⟩:Addr) w_58 fun (x59:(TT [.int .u8,.int .i64,.int .i64,.int .i64,.int .u32,.sl,.int .i64]))=>
 ae (⟨b4,0,none⟩:Addr) [(.int .u8 x59.1),(.int .i64 x59.2.1),(.int .i64 x59.2.2.1),(.int .i64 x59.2.2.2.1),(.int .u32 x59.2.2.2.2.1),(.slice x59.2.2.2.2.2.1.base x59.2.2.2.2.2.1.len x59.2.2.2.2.2.1.cap),(.int .i64 x59.2.2.2.2.2.2.1)] 0 w_58 fun (w_60:World)=>
 Ld (.st [.int .u8,.int .i64,.int .i64,.int .i64,.int .u32,.sl,.int .i64]) (⟨b4,0,none⟩:Addr) w_60 fun (res61:(TT [.int .u8,.int .i64,.int .i64,.int .i64,.int .u32,.sl,.int .i64]))=>
 R (res61) w_60)
 (I_8 w_58∧m_9 w_58<m_9 w_10))
noncomputable def An (R:(TT [.int .u8,.int .i64,.int .i64,.int .i64,.int .u32,.sl,.int .i64])→World→Prop):AF→World→Prop:=fun f w=>vc Tryz.prog 69 (ob Cf [true,true,true]) (.b (.l [] (.b (.s (.s .o (.c (.s .o .o) .o)) (.s .o (.s .o (.c (.s .o .o) .o))))))) (rT Tryz.prog [.cell 4 29] [(.st [.int .u8,.int .i64,.int .i64,.int .i64,.int .u32,.sl,.int .i64])] R) f w
theorem Bs {b:Nat} {m:Option Nat} {p r:Option Addr} {R:(TT [.int .u8,.int .i64,.int .i64,.int .i64,.int .u32,.sl,.int .i64])→World→Prop} {w:World}:An R (aU (aU (fr b p r (some m) 8) 36 (some (.map m))) 5 (some (.map m))) w=oz b m p r R w:=by kernel_rfl
theorem oO (p1 r2:Option Addr) (R:(TT [.int .u8,.int .i64,.int .i64,.int .i64,.int .u32,.sl,.int .i64])→World→Prop) (w:World) (h:
 Nw 29 ⟨[(.int .u8 0),(.int .i64 0),(.int .i64 0),(.int .i64 0),(.int .u32 0),(.slice none 0 0),(.int .i64 0)]⟩ w fun (b4:Nat) (w_3:World)=>
 aa (Option.isNone (p1:Option Addr))
 (ae (⟨b4,0,none⟩:Addr) [(.int .u8 0),(.int .i64 0),(.int .i64 0),(.int .i64 0),(.int .u32 0),(.slice none 0 0),(.int .i64 0)] 0 w_3 fun (w_5:World)=>
 Ld (.st [.int .u8,.int .i64,.int .i64,.int .i64,.int .u32,.sl,.int .i64]) (⟨b4,0,none⟩:Addr) w_5 fun (res6:(TT [.int .u8,.int .i64,.int .i64,.int .i64,.int .u32,.sl,.int .i64]))=>
 R (res6) w_5)
 (cJ w_3 fun S w_7=>az Tryz.prog ar S (An R) 35 (LC 0) (fc b4 p1 r2 0) w_7)):Cl Tryz.prog [(.st [.int .u8,.int .i64,.int .i64,.int .i64,.int .u32,.sl,.int .i64])] aE ⟨[.pointer p1,.pointer r2]⟩ w R:=
 mK Tryz.mix Tryz.f19 [.pointer p1,.pointer r2] [(.st [.int .u8,.int .i64,.int .i64,.int .i64,.int .u32,.sl,.int .i64])] R 69 [.cell 4 29] (by kernel_rfl) (by kernel_rfl) (by kernel_rfl) (by kernel_rfl) (by kernel_rfl)
  (.s .o (.s (.s .o (.c (.s .o .o) .o)) (.s .o (.b (.l [] (.b (.s (.s .o (.c (.s .o .o) .o)) (.s .o (.s .o (.c (.s .o .o) .o))))))))))
  (by kernel_rfl) h
end Go.Proofs.YtgglghjnakclmaaGreat
set_option maxRecDepth 20000
namespace Go.Vc
open Go
theorem oB {α β:Type} [DecidableEq α] {a k:α} {b:β}: ∀(l:List (α×β)) (i:Nat),(findAt k (ec a b l) i).map (·.2)=if k=a then some b else (findAt k l i).map (·.2)
 | [],i=>by
  unfold ec findAt
  by_cases h:k=a
  ·rw [if_pos h,if_pos h];rfl
  ·rw [if_neg h,if_neg h];rfl
 |p::l,i=>by
  unfold ec
  by_cases h:a=p.1
  ·rw [if_pos h]
   unfold findAt
   by_cases hk:k=a
   ·rw [if_pos hk,if_pos (by rw [hk])];rfl
   ·rw [if_neg hk,if_neg (by first|exact hk|(rw [←h];exact hk)),if_neg (by rw [←h];exact hk)]
  ·rw [if_neg h]
   unfold findAt
   by_cases hk:k=p.1
   ·rw [if_pos hk,if_pos hk]
    by_cases hka:k=a
    ·exact absurd (hka.symm.trans hk) h
    ·rw [if_neg hka]
   ·rw [if_neg hk,if_neg hk]
    exact oB l (i+1)
end Go.Vc
