/- Texts packed together by program; spaces struck by program. Conditions: as each theorem states. -/
import Derived.Laws.CopyRow
import Derived.Laws.IdiomCopy
import Derived.Lib.MakeNoZero
import Derived.Test.YtgglghjnakclmaaGreatQeb
set_option linter.unusedSimpArgs false
set_option linter.unusedVariables false
set_option maxRecDepth 20000
namespace Go.Srt
def cn (l:List Nat):Bool:=decide (aR l=32768)&&decide (0<l.getD 257 0)
theorem j9 {l:List Nat}:cn l=true↔aR l=32768∧0<l.getD 257 0:=by simp [cn]
def q9 (l:List Nat) (n p:Nat):Nat:=((List.range l.length).find? fun s=>(l.getD s 0==n)&&(fS l s==p)).getD 0
theorem uO {l:List Nat} {n p:Nat} (h:p<l.count n):q9 l n p<l.length∧l.getD (q9 l n p) 0=n∧fS l (q9 l n p)=p:=by
 obtain ⟨s,hs,h1,h2⟩:=F1 l n p h
 unfold q9
 cases hf:(List.range l.length).find? fun s=>(l.getD s 0==n)&&(fS l s==p) with
 |none=>
  have:=List.find?_eq_none.1 hf s (by simpa using hs)
  simp only [Bool.and_eq_true,beq_iff_eq] at this
  exact absurd ⟨h1,h2⟩ this
 |some t=>
  have h3:=List.find?_some hf
  have h4:=List.mem_of_find?_eq_some hf
  simp only [Bool.and_eq_true,beq_iff_eq] at h3
  exact ⟨by simpa using h4,h3⟩
def my (l:List Nat) (c b:Nat):Prop:=cn l=true∧b<15∧c<2^b∧fst l b+many l b≤c
def eA (l:List Nat) (c b x:Nat):(Nat×Nat)×Option Nat:=
 if fst l (b+1)+many l (b+1)≤2*c+x then ((2*c+x,b+1),none) else ((0,0),some (q9 l (b+1) (2*c+x - fst l (b+1))))
theorem my.zero {l:List Nat} (h:cn l=true):my l 0 0:=⟨h,by decide,by decide,by simp [fst,many]⟩
theorem my.ge {l:List Nat} {c b:Nat} (h:my l c b):fst l (b+1)≤2*c:=by rw [fst];have:=h.2.2.2;omega
theorem Ik {l:List Nat} (h:cn l=true):fst l 15+many l 15=32768:=by
 have h1:=sr l 15 (by decide)
 have h2:=EO (l:=l) (by rw [(j9.1 h).1];decide)
 rw [(j9.1 h).1] at h2
 rw [low] at h2
 omega
theorem my.next {l:List Nat} {c b x:Nat} (h:my l c b) (hx:x≤1):my l (eA l c b x).1.1 (eA l c b x).1.2:=by
 unfold eA
 split
 ·rename_i hc
  have hp:(2:Nat)^(b+1)=2*2^b:=by rw [Nat.pow_succ,Nat.mul_comm]
  have h2:=h.2.2.1
  refine ⟨h.1,?_,by show 2*c+x<2^(b+1);omega,hc⟩
  rcases Nat.lt_or_ge (b+1) 15 with h1|h1
  ·exact h1
  ·have:b=14:=by have:=h.2.1;omega
   subst this
   have:=Ik h.1
   have:(2:Nat)^14=16384:=by decide
   simp only [Nat.reduceAdd] at hc
   omega
 ·exact my.zero h.1
theorem xe {l:List Nat} {c b x s:Nat} (hl:l.length=258) (h:my l c b) (hx:x≤1) (hs:(eA l c b x).2=some s):s<258∧l.getD s 0=b+1∧code l s=2*c+x∧b<15:=by
 unfold eA at hs
 split at hs
 ·cases hs
 ·rename_i hc
  have h1:s=q9 l (b+1) (2*c+x - fst l (b+1)):=by injection hs with hs;exact hs.symm
  have hge:=h.ge
  have hm:many l (b+1)=l.count (b+1):=by unfold many;rw [if_neg (by omega)]
  obtain ⟨h2,h3,h4⟩:=uO (l:=l) (n:=b+1) (p:=2*c+x - fst l (b+1)) (by omega)
  rw [←h1] at h2 h3 h4
  refine ⟨by omega,h3,?_,h.2.1⟩
  unfold code
  rw [h3,h4];omega
theorem Eb {l:List Nat} {c b x:Nat} (hs:(eA l c b x).2=none):(eA l c b x).1=(2*c+x,b+1):=by
 unfold eA at hs⊢
 split
 ·rfl
 ·rename_i h;rw [if_neg h] at hs;cases hs
theorem Eu {l:List Nat} {c b x s:Nat} (hs:(eA l c b x).2=some s):(eA l c b x).1=(0,0):=by
 unfold eA at hs⊢
 split
 ·rename_i h;rw [if_pos h] at hs;cases hs
 ·rfl
theorem ri {l:List Nat} (hl:l.length≤258): ∀n,fst l n+516≤516*2^n
 |0=>by simp [fst]
 |n+1=>by
  have:=ri hl n
  have h2:many l n≤258:=by
   unfold many
   split
   ·omega
   ·exact Nat.le_trans List.count_le_length hl
  rw [fst,Nat.pow_succ];omega
theorem sU {l:List Nat} (hl:l.length≤258) (n:Nat):many l n≤258:=by
 unfold many
 split
 ·omega
 ·exact Nat.le_trans List.count_le_length hl
end Go.Srt
namespace Go.Proofs.YtgglghjnakclmaaGreat
open Go Go.Vc Go.Srt
section
variable {E w:World} {F:List HP}
theorem nC {l:List Nat} {i:Nat} {k:IntKind} (h:i<l.length):(ai k l)[((i:Nat):Int).toNat]? =some (Sc.enc (.int k) (l.getD i 0:Int)):=by
 rw [Int.toNat_natCast,gj h,bE h]
theorem Ap {l:List Nat} {K:Bool→World→Prop} (h:Hp E w F) (hl:l.length=258) (hK: ∀w',Hp E w' F→K (decide (aR l=32768)) w'):Cl Tryz.prog [kB] gL ⟨[.agg (ai .u8 l)]⟩ w K:=by
 refine sP.ok _ _ _ ?_
 refine Nw.mk h fun b w1 h1=>Ld.arr h1 (by rw [aJ,hl]) (z5 h1 hl fun w2 h2=> ?_)
 have:((aR l:Int)==32768)=decide (aR l=32768):=by rw [Bool.eq_iff_iff];simp;omega
 rw [this]
 exact hK _ h2.drop
theorem sS {l:List Nat} {K:Bool→World→Prop} (h:Hp E w F) (hl:l.length=258) (hK: ∀w',Hp E w' F→K (cn l) w'):Cl Tryz.prog [kB] dE ⟨[.agg (ai .u8 l)]⟩ w K:=by
 refine xB.ok _ _ _ ?_
 refine Nw.mk h fun b w1 h1=>Ld.arr h1 (by rw [aJ,hl]) (Ap h1 hl fun w2 h2=>aa.mk (fun hv=> ?_) (fun hv=> ?_))
 ·refine aC.rd (s:= .int .u8) h2 (by decide) (by decide) (l.getD 257 0:Int) (nC (i:=257) (by omega)) ?_
  have:decide ((l.getD 257 0:Int)>0)=cn l:=by
   unfold cn;rw [hv,Bool.true_and,Bool.eq_iff_iff,decide_eq_true_eq,decide_eq_true_eq];omega
  rw [this]
  exact hK _ h2.drop
 ·have:false=cn l:=by unfold cn;rw [hv,Bool.false_and]
  rw [this]
  exact hK _ h2.drop
abbrev EF:List Sc:= [.int .i64,.int .i64,.int .i64,.int .i64,.int .i64,.int .i64,.int .i64,.int .i64,.int .i64,.int .i64,.int .i64,.int .i64,.int .i64,.int .i64,.int .i64,.int .i64]
def t16 (f:Nat→Int):TT EF:=(f 0,f 1,f 2,f 3,f 4,f 5,f 6,f 7,f 8,f 9,f 10,f 11,f 12,f 13,f 14,f 15,())
theorem IT (f:Nat→Int):cK 16 f=⟨cV EF (t16 f)⟩:=rfl
theorem GK (f:Nat→Int): ∀v∈ [(.int .i64 (f 0):Value),.int .i64 (f 1),.int .i64 (f 2),.int .i64 (f 3),.int .i64 (f 4),.int .i64 (f 5),.int .i64 (f 6),.int .i64 (f 7),.int .i64 (f 8),.int .i64 (f 9),.int .i64 (f 10),.int .i64 (f 11),.int .i64 (f 12),.int .i64 (f 13),.int .i64 (f 14),.int .i64 (f 15)],ay v=true:=by
 intro v hv
 simp only [List.mem_cons,List.not_mem_nil,or_false] at hv
 rcases hv with rfl|rfl|rfl|rfl|rfl|rfl|rfl|rfl|rfl|rfl|rfl|rfl|rfl|rfl|rfl|rfl<;>rfl
theorem rM:(⟨List.replicate 16 (.int .i64 0)⟩:Array Value)=cK 16 fun _=>0:=rfl
set_option maxRecDepth 20000 in
theorem Du {l:List Nat} {K:TT EF→World→Prop} (h:Hp E w F) (hl:l.length=258) (h15: ∀x∈l,x≤15) (hK: ∀w',Hp E w' F→K (t16 fun j=>(l.count j:Int)) w'):Cl Tryz.prog [.st EF] iF ⟨[.agg (ai .u8 l)]⟩ w K:=by
 refine wb.ok _ _ _ ?_
 rw [rM]
 refine Nw.mk h fun b w1 h1=>Nw.mk h1 fun b2 w2 h2=>Ld.arr h2.p1 (by rw [aJ,hl]) ?_
 refine ⟨fun i w'=> ∃k:Nat,i=(k:Int)∧k≤258∧Hp E w' (ao b2 (.cells (cK 16 fun j=>((l.take k).count j:Int)) 309 (0,0))::F),fun i _=>258 - i.toNat,⟨0,rfl,by omega,?_⟩,?_⟩
 ·have:=h2.p1.drop
  rwa [eF (g:=fun j=>((l.take 0).count j:Int)) (fun i _=>by simp)] at this
 rintro i w' ⟨k,rfl,hk,hh⟩
 refine aa.mk (fun hlt=> ?_) (fun hge=> ?_)
 ·have hlt:k<258:=by have:=of_decide_eq_true hlt;omega
  have hkl:k<l.length:=by omega
  have hcl: ∀x,(l.take k).count x≤258:=fun x=>Nat.le_trans List.count_le_length (by rw [List.length_take];omega)
  refine gg.rd (s:= .int .u8) (by omega) (by omega) (l[k]:Int) (by rw [Int.toNat_natCast];exact gj hkl) ?_
  have h16:=h15 _ (List.getElem_mem hkl)
  rw [aj (x:=(l[k]:Int)) (by omega)]
  refine aa.t (decide_eq_true (by omega)) ?_
  refine aC.rd (s:= .int .i64) hh (by omega) (by omega) ((l.take k).count l[k]:Int) (by rw [Int.toNat_natCast];exact qh (by omega)) ?_
  have:=hcl l[k]
  refine aC.wr hh (by omega) (by omega) cO rfl fun w3 h3=> ?_
  rw [aj (by omega),Int.toNat_natCast,mW] at h3
  rw [aj (by omega)]
  refine ⟨⟨k+1,rfl,by omega,?_⟩,by dsimp only;omega⟩
  rw [eF (g:=fun j=>((l.take (k+1)).count j:Int))] at h3
  ·exact h3
  ·intro j hj
   rw [cP hkl]
   by_cases e:j=l[k]
   ·subst e;rw [if_pos rfl,if_pos rfl];omega
   ·rw [if_neg e,if_neg (Ne.symm e)];omega
 ·have hge:k=258:=by have:=of_decide_eq_false hge;omega
  subst hge
  rw [←hl,List.take_length] at hh
  refine Ld.uC hh (t16 fun j=>(l.count j:Int)) (IT _) (ae.aD hh (by rw [cO];rfl) (GK fun j=>(l.count j:Int)) fun w3 h3=> ?_)
  exact Ld.uC h3 (t16 fun j=>(l.count j:Int)) rfl (hK _ h3.drop)
set_option maxRecDepth 20000 in
theorem tn {l:List Nat} {n:Nat} {K:Int→Int→World→Prop} (h:Hp E w F) (hl:l.length=258) (h15: ∀x∈l,x≤15) (hn:n≤15) (hK: ∀w',Hp E w' F→K (Srt.fst l n:Int) (many l n:Int) w'):
  Cl Tryz.prog [kI,kI] ec ⟨[.agg (ai .u8 l),.int .i64 (n:Int)]⟩ w K:=by
 refine qV.ok _ _ _ _ ?_
 refine Nw.mk h fun b w1 h1=>Ld.arr h1 (by rw [aJ,hl]) (Du h1.drop hl h15 fun w2 h2=> ?_)
 rw [rM]
 refine Nw.mk h2 fun b2 w3 h3=>ae.aD h3 (by rw [cO];rfl) (GK fun j=>(l.count j:Int)) fun w4 h4=> ?_
 have h4:Hp E w4 (ao b2 (.cells (cK 16 fun j=>(l.count j:Int)) 309 (0,0))::F):=h4
 refine aC.wr h4 (by decide) (by decide) cO rfl fun w5 h5=> ?_
 rw [show (0:Int).toNat=0 from rfl,mW,eF (g:=fun j=>(many l j:Int)) (fun i _=>by unfold many;by_cases e:i=0<;>simp [e])] at h5
 refine ⟨fun c m w'=> ∃k:Nat,m=(k:Int)+1∧k≤n∧c=(Srt.fst l k:Int)∧Hp E w' (ao b2 (.cells (cK 16 fun j=>(many l j:Int)) 309 (0,0))::F),fun _ m _=>18 - m.toNat,⟨0,rfl,by omega,rfl,h5⟩,?_⟩
 rintro c m w' ⟨k,rfl,hk,rfl,hh⟩
 refine aa.mk (fun hlt=> ?_) (fun hge=> ?_)
 ·have hlt:k<n:=by have:=of_decide_eq_true hlt;omega
  rw [aj (x:=(k:Int)+1 - 1) (by omega),show (k:Int)+1 - 1=(k:Int) by omega]
  refine aC.rd (s:= .int .i64) hh (by omega) (by omega) (many l k:Int) (by rw [Int.toNat_natCast];exact qh (by omega)) ?_
  have h1:=ri (l:=l) (by omega) k
  have h2:=sU (l:=l) (by omega) k
  have h3:(2:Nat)^k≤2^15:=Nat.pow_le_pow_right (by decide) (by omega)
  have h4:(2:Nat)^15=32768:=by decide
  rw [aj (x:=(Srt.fst l k:Int)+(many l k:Int)) (by omega),aj (x:=(k:Int)+1+1) (by omega)]
  have e:=cW (k:= .i64) (a:=Srt.fst l k+many l k) (b:=1) (by decide) (by have:IntKind.max .i64=9223372036854775807:=rfl;omega)
  have e2:a9 .i64 ((Srt.fst l k:Int)+(many l k:Int)) 1=(Srt.fst l (k+1):Int):=by
   rw [show (Srt.fst l k:Int)+(many l k:Int)=((Srt.fst l k+many l k:Nat):Int) by omega,show (1:Int)=((1:Nat):Int) from rfl,e,Srt.fst]
   omega
  rw [e2]
  exact ⟨by decide,⟨k+1,by omega,by omega,rfl,hh⟩,by dsimp only;omega⟩
 ·have hge:k=n:=by have:=of_decide_eq_false hge;omega
  subst hge
  refine ah.mk hh fun w6 h6=>aC.rd (s:= .int .i64) h6 (by omega) (by omega) (many l k:Int) (by rw [Int.toNat_natCast];exact qh (by omega)) (hK _ h6.drop)
set_option maxRecDepth 20000 in
theorem GD {l:List Nat} {n p:Nat} {K:Int→World→Prop} (h:Hp E w F) (hl:l.length=258) (h15: ∀x∈l,x≤15) (hp:p<l.count n) (hK: ∀w',Hp E w' F→K (q9 l n p:Int) w'):
  Cl Tryz.prog [kI] fT ⟨[.agg (ai .u8 l),.int .i64 (n:Int),.int .i64 (p:Int)]⟩ w K:=by
 refine xk.ok _ _ _ _ _ ?_
 have hs:=uO hp
 refine Nw.mk h fun b w1 h1=>Ld.arr h1 (by rw [aJ,hl]) ?_
 have hcl:l.count n≤258:=Nat.le_trans List.count_le_length (by omega)
 refine ⟨fun q i w'=> ∃k:Nat,i=(k:Int)∧k≤258∧(l.take k).count n≤p∧q=(p:Int) - ((l.take k).count n:Int)∧Hp E w' F,fun _ i _=>258 - i.toNat,⟨0,rfl,by omega,by simp,by simp,h1.drop⟩,?_⟩
 rintro q i w' ⟨k,rfl,hk,hc,rfl,hh⟩
 refine aa.mk (fun hlt=> ?_) (fun hge=> ?_)
 ·have hlt:k<258:=by have:=of_decide_eq_true hlt;omega
  have hkl:k<l.length:=by omega
  have h16:=h15 _ (List.getElem_mem hkl)
  have hsu:=cP hkl n
  refine gg.rd (s:= .int .u8) (by omega) (by omega) (l[k]:Int) (by rw [Int.toNat_natCast];exact gj hkl) ?_
  rw [aj (x:=(l[k]:Int)) (by omega),aj (x:=(k:Int)+1) (by omega)]
  refine aa.mk (fun hne=> ?_) (fun he=>aa.mk (fun hz=> ?_) (fun hz=> ?_))
  ·have hne:l[k]≠n:=by rw [bne_iff_ne] at hne;omega
   rw [if_neg hne] at hsu
   exact ⟨⟨k+1,rfl,by omega,by omega,by omega,hh⟩,by dsimp only;omega⟩
  ·have he:l[k]=n:=by have:=bne_eq_false_iff_eq.1 he;omega
   have hz:(l.take k).count n=p:=by rw [beq_iff_eq] at hz;omega
   have:k=q9 l n p:=by
    refine wU hkl hs.1 (by rw [hs.2.1,bE hkl,he]) ?_
    rw [hs.2.2];unfold fS;rw [bE hkl,he,hz]
   rw [this];exact hK _ hh
  ·have he:l[k]=n:=by have:=bne_eq_false_iff_eq.1 he;omega
   have hz:(l.take k).count n≠p:=by have:=beq_eq_false_iff_ne.1 hz;omega
   rw [if_pos he] at hsu
   rw [aj (by omega)]
   exact ⟨⟨k+1,rfl,by omega,by omega,by omega,hh⟩,by dsimp only;omega⟩
 ·have hge:k=258:=by have:=of_decide_eq_false hge;omega
  subst hge
  rw [←hl,List.take_length] at hc
  omega
def db (l:List Nat) (c b:Nat):Array Value:=⟨(l.map fun (n:Nat)=>Value.int .u8 (n:Int))++ [.int .i64 (c:Int),.int .i64 (b:Int)]⟩
theorem bH {l:List Nat} {c b:Nat} (hl:l.length=258):(db l c b).size=260:=by simp [db,hl]
theorem da {l:List Nat} {c b:Nat}: ∀v∈(db l c b).toList,ay v=true:=by
 intro v hv
 unfold db at hv
 simp only [List.mem_append,List.mem_map,List.mem_cons,List.not_mem_nil,or_false] at hv
 rcases hv with ⟨n,_,rfl⟩|rfl|rfl<;>rfl
theorem dR (l:List Nat) (c b:Nat):db l c b=⟨[]++(l.map fun (n:Nat)=>Value.int .u8 (n:Int))++ [.int .i64 (c:Int),.int .i64 (b:Int)]⟩:=rfl
theorem pn {l:List Nat} {c b:Nat} (hl:l.length=258):(db l c b)[258]? =some (Sc.enc (.int .i64) (c:Int)):=by
 unfold db;rw [List.getElem?_toArray,List.getElem?_append_right (by simp [hl])];simp [hl]
theorem ns {l:List Nat} {c b:Nat} (hl:l.length=258):(db l c b)[259]? =some (Sc.enc (.int .i64) (b:Int)):=by
 unfold db;rw [List.getElem?_toArray,List.getElem?_append_right (by simp [hl])];simp [hl]
theorem vA:(⟨List.replicate 258 (.int .u8 0)++ [.int .i64 0,.int .i64 0]⟩:Array Value)=db (List.replicate 258 0) 0 0:=by unfold db;rw [List.map_replicate];rfl
theorem qa (ps:List (Nat×Value)):Tryz.prog.built 108 ps=Instr.fill (#[(0,258),(258,1),(259,1)][·]?) ⟨List.replicate 258 (.int .u8 0)++ [.int .i64 0,.int .i64 0]⟩ ps:=by kernel_rfl
theorem u0 {l:List Nat} (hl:l.length=258) (rest:List (Nat×Value)):Instr.fill (#[(0,258),(258,1),(259,1)][·]?) ⟨List.replicate 258 (.int .u8 0)++ [.int .i64 0,.int .i64 0]⟩ ((0,.agg (ai .u8 l))::rest)
  =Instr.fill (#[(0,258),(258,1),(259,1)][·]?) (db l 0 0) rest:=by
 have:=fH (place:=(#[(0,258),(258,1),(259,1)][·]?)) (i:=0) (v:= .agg (ai .u8 l)) (rest:=rest) (pre:= []) (mid:=List.replicate 258 (.int .u8 0)) (post:= [.int .i64 0,.int .i64 0]) rfl rfl List.length_replicate (by show (ai .u8 l).size=_;rw [aJ,hl])
 exact this
theorem Ho {l:List Nat} {c c0 b:Nat} (hl:l.length=258) (rest:List (Nat×Value)):Instr.fill (#[(0,258),(258,1),(259,1)][·]?) (db l c0 b) ((1,.int .i64 (c:Int))::rest)=Instr.fill (#[(0,258),(258,1),(259,1)][·]?) (db l c b) rest:=by
 have:=fH (place:=(#[(0,258),(258,1),(259,1)][·]?)) (i:=1) (v:= .int .i64 (c:Int)) (rest:=rest) (pre:=l.map fun (n:Nat)=>Value.int .u8 (n:Int)) (mid:= [.int .i64 (c0:Int)]) (post:= [.int .i64 (b:Int)]) rfl (by simp [hl]) rfl rfl
 unfold db
 rw [show (l.map fun (n:Nat)=>Value.int .u8 (n:Int))++ [.int .i64 (c0:Int),.int .i64 (b:Int)]=(l.map fun (n:Nat)=>Value.int .u8 (n:Int))++ [.int .i64 (c0:Int)]++ [.int .i64 (b:Int)] by simp,this]
 congr 2
 simp [Value.cells]
theorem HU {l:List Nat} {c b0 b:Nat} (hl:l.length=258) (rest:List (Nat×Value)):Instr.fill (#[(0,258),(258,1),(259,1)][·]?) (db l c b0) ((2,.int .i64 (b:Int))::rest)=Instr.fill (#[(0,258),(258,1),(259,1)][·]?) (db l c b) rest:=by
 have:=fH (place:=(#[(0,258),(258,1),(259,1)][·]?)) (i:=2) (v:= .int .i64 (b:Int)) (rest:=rest) (pre:=(l.map fun (n:Nat)=>Value.int .u8 (n:Int))++ [.int .i64 (c:Int)]) (mid:= [.int .i64 (b0:Int)]) (post:= []) rfl (by simp [hl]) rfl rfl
 unfold db
 rw [show (l.map fun (n:Nat)=>Value.int .u8 (n:Int))++ [.int .i64 (c:Int),.int .i64 (b0:Int)]=(l.map fun (n:Nat)=>Value.int .u8 (n:Int))++ [.int .i64 (c:Int)]++ [.int .i64 (b0:Int)]++ [] by simp,this]
 congr 2
 simp [Value.cells]
theorem cf.Hj {l:List Nat} {K:Array Value→Prop} (hl:l.length=258) (hK:K (db l 0 0)):cf Tryz.prog 108 [(0,.agg (ai .u8 l))] K:=⟨db l 0 0,by rw [qa,u0 hl];rfl,hK⟩
theorem cf.Ib {l:List Nat} {c b:Nat} {K:Array Value→Prop} (hl:l.length=258) (hK:K (db l c b)):cf Tryz.prog 108 [(0,.agg (ai .u8 l)),(1,.int .i64 (c:Int)),(2,.int .i64 (b:Int))] K:=
 ⟨db l c b,by rw [qa,u0 hl,Ho hl,HU hl];rfl,hK⟩
theorem cf.Ka {K:Array Value→Prop} (hK:K (db (List.replicate 258 0) 0 0)):cf Tryz.prog 108 [] K:=⟨_,qa [],by rw [vA];exact hK⟩
theorem Io {l:List Nat} {K:Array Value→Int→World→Prop} (h:Hp E w F) (hl:l.length=258) (hK1:cn l=false→∀w',Hp E w' F→K (db (List.replicate 258 0) 0 0) 2 w') (hK2:cn l=true→∀w',Hp E w' F→K (db l 0 0) 0 w'):
  Cl Tryz.prog [.arr 260,kI] ij ⟨[.agg (ai .u8 l)]⟩ w K:=by
 refine ue.ok _ _ _ ?_
 rw [vA]
 have hz:(db (List.replicate 258 0) 0 0).size=260:=bH List.length_replicate
 refine Nw.mk h fun b w1 h1=>Nw.mk h1 fun b2 w2 h2=>Ld.arr h2.p1 (by rw [aJ,hl]) (sS h2 hl fun w3 h3=>aa.mk (fun hv=> ?_) (fun hv=> ?_))
 ·exact cf.Ka (aq.aD h3 hz hz da fun w4 h4=>Ld.arr h4 hz (hK1 (by simpa using hv) _ h4.drop.drop))
 ·exact Ld.arr h3.p1 (by rw [aJ,hl]) (cf.Hj hl (aq.aD h3 hz (bH hl) da fun w4 h4=>Ld.arr h4 (bH hl) (hK2 (by simpa using hv) _ h4.drop.drop)))
theorem HR {l:List Nat} (h:cn l=true): ∀x∈l,x≤15:=fun x hx=>by
 obtain ⟨i,hi,rfl⟩:=List.getElem_of_mem hx
 have:=fp (l:=l) (by rw [(j9.1 h).1];decide) i
 rwa [bE hi] at this
theorem CM {l:List Nat} {c b:Nat} {K:Bool→World→Prop} (h:Hp E w F) (hl:l.length=258) (hb:b<15) (hc:c<2^b) (hK: ∀w',Hp E w' F→K (cn l&&decide (Srt.fst l b+many l b≤c)) w'):
  Cl Tryz.prog [kB] gb ⟨[.agg (db l c b)]⟩ w K:=by
 refine rE.ok _ _ _ ?_
 simp only [au,al,Nat.zero_add]
 refine Nw.mk h fun b3 w1 h1=> ?_
 rw [dR] at h1
 have hml:(l.map fun (n:Nat)=>Value.int .u8 (n:Int)).length=258:=by simp [hl]
 refine Ld.sub h1 rfl hml (sS h1 hl fun w2 h2=>aa.mk (fun hv=> ?_) (fun hv=> ?_))
 ·have hv:cn l=false:=by simpa using hv
  rw [hv,Bool.false_and] at hK
  exact hK _ h2.drop
 have hv:cn l=true:=by simpa using hv
 rw [hv,Bool.true_and] at hK
 rw [←dR] at h2
 have hp:(2:Nat)^b≤2^15:=Nat.pow_le_pow_right (by decide) (by omega)
 have hp2:(2:Nat)^15=32768:=by decide
 refine Ld.aD (s:= .int .i64) h2 (b:Int) (ns hl) (aa.f (decide_eq_false (by omega)) ?_)
 refine Ld.aD (s:= .int .i64) h2 (b:Int) (ns hl) (aa.f (decide_eq_false (by omega)) ?_)
 refine Ld.aD (s:= .int .i64) h2 (c:Int) (pn hl) (aa.f (decide_eq_false (by omega)) ?_)
 refine Ld.aD (s:= .int .i64) h2 (c:Int) (pn hl) (Ld.aD (s:= .int .i64) h2 (b:Int) (ns hl) ⟨by omega,?_⟩)
 rw [eP (by have:IntKind.bits .i64=64:=rfl;omega),Nat.div_eq_of_lt hc]
 refine aa.f (by decide) ?_
 rw [dR] at h2
 refine Ld.sub h2 rfl hml ?_
 rw [←dR] at h2
 refine Ld.aD (s:= .int .i64) h2 (b:Int) (ns hl) (tn h2 hl (HR hv) (by omega) fun w3 h3=>Ld.aD (s:= .int .i64) h3 (c:Int) (pn hl) ?_)
 have h1:=ri (l:=l) (by omega) b
 have h2:=sU (l:=l) (by omega) b
 rw [aj (by omega)]
 have e:decide ((c:Int)≥(Srt.fst l b:Int)+(many l b:Int))=decide (Srt.fst l b+many l b≤c):=by rw [Bool.eq_iff_iff,decide_eq_true_eq,decide_eq_true_eq];omega
 rw [e]
 exact hK _ h3.drop
theorem Bi {c x:Nat} (hx:x≤1) (hc:c<16384):jg .i64 (a9 .i64 (c:Int) 1) (x:Int)=((2*c+x:Nat):Int):=by
 have hm:IntKind.max .i64=9223372036854775807:=rfl
 have e:=cW (k:= .i64) (a:=c) (b:=1) (by decide) (by omega)
 have h2:c*2^1|||x=2*c+x:=by
  have:=Nat.two_pow_add_eq_or_of_lt (i:=1) (b:=x) (by omega) c
  rw [Nat.mul_comm c,←this,Nat.mul_comm]
 rw [show (1:Int)=((1:Nat):Int) from rfl,e,pj (by omega) (by omega) (by rw [h2];omega),h2]
theorem Hq {l:List Nat} {c b x:Nat} {K:Array Value→Int→Bool→World→Prop} (h:Hp E w F) (hl:l.length=258) (hs:my l c b) (hx:x≤1)
  (hK: ∀w',Hp E w' F→K (db l (eA l c b x).1.1 (eA l c b x).1.2) (((eA l c b x).2.getD 0:Nat):Int) (eA l c b x).2.isSome w'):
  Cl Tryz.prog [.arr 260,kI,kB] gT ⟨[.agg (db l c b),.int .i64 (x:Int)]⟩ w K:=by
 refine sI.ok _ _ _ _ ?_
 simp only [au,al,Nat.zero_add]
 rw [vA]
 have hz:(db (List.replicate 258 0) 0 0).size=260:=bH List.length_replicate
 have hml:(l.map fun (n:Nat)=>Value.int .u8 (n:Int)).length=258:=by simp [hl]
 have hp:(2:Nat)^b≤2^14:=Nat.pow_le_pow_right (by decide) (by have:=hs.2.1;omega)
 have hp2:(2:Nat)^14=16384:=by decide
 have hc:=hs.2.2.1
 have hb:=hs.2.1
 have h15:=HR hs.1
 refine Nw.mk h fun b4 w1 h1=>Nw.mk h1 fun b6 w2 h2=> ?_
 have e1:cp .i64 (x:Int) 1=0:=by
  rw [show (1:Int)=((1:Nat):Int) from rfl,eP (by decide)]
  omega
 rw [e1]
 refine ⟨by decide,aa.f (by decide) ?_⟩
 refine Ld.arr h2.p1 (bH hl) (CM h2 hl hb hc fun w3 h3=> ?_)
 refine aa.f (by rw [hs.1,decide_eq_true hs.2.2.2];rfl) ?_
 have h3':=h3.p1
 rw [dR l c b] at h3'
 refine Ld.sub h3' rfl hml (Ld.aD (s:= .int .i64) h3.p1 (c:Int) (pn hl) ⟨by decide,Ld.aD (s:= .int .i64) h3.p1 (b:Int) (ns hl) ?_⟩)
 rw [Bi hx (by omega),aj (x:=(b:Int)+1) (by omega)]
 refine cf.Ib (b:=b+1) hl (aq.aD h3 hz (bH hl) da fun w4 h4=> ?_)
 have h4':=h4
 rw [dR l (2*c+x) (b+1)] at h4'
 refine Ld.sub h4' rfl hml (Ld.aD (s:= .int .i64) h4 ((b+1:Nat):Int) (ns hl) (tn h4 hl h15 (by omega) fun w5 h5=>Ld.aD (s:= .int .i64) h5 ((2*c+x:Nat):Int) (pn hl) ?_))
 have hf:=ri (l:=l) (by omega) (b+1)
 have hm:=sU (l:=l) (by omega) (b+1)
 have hp3:(2:Nat)^(b+1)=2*2^b:=by rw [Nat.pow_succ,Nat.mul_comm]
 rw [aj (by omega)]
 by_cases hcase:Srt.fst l (b+1)+many l (b+1)≤2*c+x
 ·refine aa.t (decide_eq_true (by omega)) (Ld.arr h5 (bH hl) (aq.aD h5 (bH hl) (bH hl) da fun w6 h6=>Ld.arr h6 (bH hl) ?_))
  have e:eA l c b x=((2*c+x,b+1),none):=by unfold eA;rw [if_pos hcase]
  rw [e] at hK
  exact hK _ h6.drop.drop
 ·refine aa.f (decide_eq_false (by omega)) ?_
  have e:eA l c b x=((0,0),some (q9 l (b+1) (2*c+x - Srt.fst l (b+1)))):=by unfold eA;rw [if_neg hcase]
  rw [e] at hK
  have hge:=hs.ge
  have hmn:many l (b+1)=l.count (b+1):=by unfold many;rw [if_neg (by omega)]
  refine ah.mk h5 fun w6 h6=> ?_
  have h6':=h6
  rw [dR l (2*c+x) (b+1)] at h6'
  refine Ld.sub h6' rfl hml (Ld.aD (s:= .int .i64) h6 ((b+1:Nat):Int) (ns hl) (Ld.aD (s:= .int .i64) h6 ((2*c+x:Nat):Int) (pn hl) ?_))
  rw [aj (x:=((2*c+x:Nat):Int) - (Srt.fst l (b+1):Int)) (by omega),show ((2*c+x:Nat):Int) - (Srt.fst l (b+1):Int)=((2*c+x - Srt.fst l (b+1):Nat):Int) by omega]
  constructor
  ·have h7':=h6.p1
   rw [dR l c b] at h7'
   refine Ld.sub h7' rfl hml (cf.Hj hl (GD h6 hl h15 (by omega) fun w7 h7=> ?_))
   exact aq.aD h7 (bH hl) (bH hl) da fun w8 h8=>Ld.arr h8 (bH hl) (hK _ h8.drop.drop)
  ·refine GD h6 hl h15 (by omega) fun w7 h7=> ?_
   have h7':=h7.p1
   rw [dR l c b] at h7'
   refine Ld.sub h7' rfl hml (cf.Hj hl ?_)
   exact aq.aD h7 (bH hl) (bH hl) da fun w8 h8=>Ld.arr h8 (bH hl) (hK _ h8.drop.drop)
end
end Go.Proofs.YtgglghjnakclmaaGreat
set_option maxRecDepth 20000
namespace Go.Tab
open Go.Inc
structure TS where
 l:List Nat
 bits:Nat
 now:Nat
 way:Nat
def t0:TS:=⟨[],0,0,0⟩
def bd (ok:List Nat→Bool) (s:TS) (b:Nat):u7 TS (List Nat) Nat:=
 if s.bits<4 then .more ⟨s.l,s.bits+1,2*s.now+b,s.way⟩
 else if s.bits=4 then
  if b=0 then
   if s.l.length+1<258 then .more ⟨s.l++ [s.now],4,s.now,0⟩
   else if ok (s.l++ [s.now]) then .fin (s.l++ [s.now]) else .bad 100
  else .more ⟨s.l,5,s.now,s.way⟩
 else if b=0 then
  if s.way≠2∧s.now<15 then .more ⟨s.l,4,s.now+1,1⟩ else .bad 100
 else if s.way≠1∧0<s.now then .more ⟨s.l,4,s.now - 1,2⟩ else .bad 100
def oS:Nat→List Nat
 |0=> []
 |k+1=>1::0::oS k
def jd:Nat→List Nat
 |0=> []
 |k+1=>1::1::jd k
def g0 (was now:Nat):List Nat:=(if now<was then jd (was - now) else oS (now - was))++ [0]
def fl:Nat→List Nat→List Nat
 |_,[]=> []
 |was,n::l=>g0 was n++fl n l
def four (n:Nat):List Nat:= [n/8 % 2,n/4 % 2,n/2 % 2,n % 2]
def lQ (l:List Nat):List Nat:=four (l.headD 0)++fl (l.headD 0) l
section
variable {ok:List Nat→Bool}
theorem yD: ∀(k:Nat) (l:List Nat) (now way:Nat) (r:List Nat),way≠2→now+k≤15→∃way',run (bd ok) ⟨l,4,now,way⟩ (oS k++r)=run (bd ok) ⟨l,4,now+k,way'⟩ r
 |0,l,now,way,r,_,_=>⟨way,rfl⟩
 |k+1,l,now,way,r,hw,hk=>by
  obtain ⟨way',h⟩:=yD k l (now+1) 1 r (by decide) (by omega)
  refine ⟨way',?_⟩
  have h1:bd ok ⟨l,4,now,way⟩ 1= .more ⟨l,5,now,way⟩:=rfl
  have h2:bd ok ⟨l,5,now,way⟩ 0= .more ⟨l,4,now+1,1⟩:=by
   simp only [bd]
   rw [if_neg (by decide),if_neg (by decide),if_pos trivial,if_pos ⟨hw,by omega⟩]
  show run (bd ok) ⟨l,4,now,way⟩ (1::0::(oS k++r))=_
  rw [cF h1,cF h2,h,show now+1+k=now+(k+1) by omega]
theorem tp: ∀(k:Nat) (l:List Nat) (now way:Nat) (r:List Nat),way≠1→k≤now→∃way',run (bd ok) ⟨l,4,now,way⟩ (jd k++r)=run (bd ok) ⟨l,4,now - k,way'⟩ r
 |0,l,now,way,r,_,_=>⟨way,rfl⟩
 |k+1,l,now,way,r,hw,hk=>by
  obtain ⟨way',h⟩:=tp k l (now - 1) 2 r (by decide) (by omega)
  refine ⟨way',?_⟩
  have h1:bd ok ⟨l,4,now,way⟩ 1= .more ⟨l,5,now,way⟩:=rfl
  have h2:bd ok ⟨l,5,now,way⟩ 1= .more ⟨l,4,now - 1,2⟩:=by
   simp only [bd]
   rw [if_neg (by decide),if_neg (by decide),if_neg (by decide),if_pos ⟨hw,by omega⟩]
  show run (bd ok) ⟨l,4,now,way⟩ (1::1::(jd k++r))=_
  rw [cF h1,cF h2,h,show now - 1 - k=now - (k+1) by omega]
theorem Fc (l:List Nat) (was n:Nat) (r:List Nat) (h1:was≤15) (h2:n≤15): ∃way,run (bd ok) ⟨l,4,was,0⟩ (g0 was n++r)=run (bd ok) ⟨l,4,n,way⟩ (0::r):=by
 unfold g0
 rw [List.append_assoc]
 split
 ·obtain ⟨way,h⟩:=tp (ok:=ok) (was - n) l was 0 ([0]++r) (by decide) (by omega)
  exact ⟨way,by rw [h,show was - (was - n)=n by omega];rfl⟩
 ·obtain ⟨way,h⟩:=yD (ok:=ok) (n - was) l was 0 ([0]++r) (by decide) (by omega)
  exact ⟨way,by rw [h,show was+(n - was)=n by omega];rfl⟩
theorem uN: ∀(m:List Nat) (l:List Nat) (was:Nat) (r:List Nat),m≠ []→was≤15→(∀x∈m,x≤15)→l.length+m.length=258→ok (l++m)=true→run (bd ok) ⟨l,4,was,0⟩ (fl was m++r)= .fin (l++m) r
 | [],_,_,_,h,_,_,_,_=>absurd rfl h
 |n::m,l,was,r,_,hw,hm,hl,hok=>by
  rw [fl,List.append_assoc]
  obtain ⟨way,h⟩:=Fc (ok:=ok) l was n (fl n m++r) hw (hm n List.mem_cons_self)
  rw [h]
  cases m with
  |nil=>
   refine sZ ?_
   simp only [List.length_cons,List.length_nil] at hl
   simp only [bd]
   rw [if_neg (by decide),if_pos trivial,if_pos trivial,if_neg (by omega),if_pos hok]
  |cons x m=>
   simp only [List.length_cons] at hl
   have h1:bd ok ⟨l,4,n,way⟩ 0= .more ⟨l++ [n],4,n,0⟩:=by
    simp only [bd]
    rw [if_neg (by decide),if_pos trivial,if_pos trivial,if_pos (by omega)]
   rw [cF h1,uN (x::m) (l++ [n]) n r (by simp) (hm n List.mem_cons_self) (fun y hy=>hm y (List.mem_cons_of_mem _ hy)) (by simp;omega) (by rw [List.append_assoc];exact hok),List.append_assoc]
   rfl
theorem AV {l:List Nat} (r:List Nat) (hl:l.length=258) (hm: ∀x∈l,x≤15) (hok:ok l=true):run (bd ok) t0 (lQ l++r)= .fin l r:=by
 unfold lQ
 rw [List.append_assoc]
 have hh:l.headD 0≤15:=by
  cases l with
  |nil=>simp at hl
  |cons x l=>exact hm x List.mem_cons_self
 have h4:run (bd ok) t0 (four (l.headD 0)++(fl (l.headD 0) l++r))=run (bd ok) ⟨[],4,l.headD 0,0⟩ (fl (l.headD 0) l++r):=by
  generalize l.headD 0=n at hh⊢
  have e:2*(2*(2*(2*0+n/8 % 2)+n/4 % 2)+n/2 % 2)+n % 2=n:=by omega
  show run (bd ok) ⟨[],4,2*(2*(2*(2*0+n/8 % 2)+n/4 % 2)+n/2 % 2)+n % 2,0⟩ _=_
  rw [e];rfl
 rw [h4]
 exact uN l [] (l.headD 0) r (by intro e;rw [e] at hl;simp at hl) hh hm (by simpa using hl) hok
end
end Go.Tab
set_option maxRecDepth 20000
namespace Go.Tab
open Go.Inc
def k8 (l:List Nat) (now way:Nat):Prop:=
 if l= [] then way=0∨(way=1∧0<now)∨(way=2∧now<15)
 else (way=0∧l.getLastD 0=now)∨(way=1∧l.getLastD 0<now)∨(way=2∧now<l.getLastD 0)
def gd (t:TS):Prop:=
 (t.bits<4∧t.l= []∧t.now<2^t.bits∧t.way=0)∨
 ((t.bits=4∨t.bits=5)∧t.l.length<258∧t.now≤15∧(∀x∈t.l,x≤15)∧k8 t.l t.now t.way)
theorem gd.zero:gd t0:= .inl ⟨by decide,rfl,by decide,rfl⟩
theorem wi {ok:List Nat→Bool} {t t':TS} {b:Nat} (h:gd t) (hb:b≤1) (he:bd ok t b= .more t'):gd t':=by
 obtain ⟨l,bits,now,way⟩:=t
 unfold gd at h
 unfold bd at he
 dsimp only at h he
 rcases h with ⟨h1,h2,h3,h4⟩|⟨h1,h2,h3,h4,h5⟩
 ·rw [if_pos h1] at he
  cases he
  subst h2 h4
  by_cases h:bits=3
  ·subst h
   right
   refine ⟨.inl rfl,by simp,by simp at h3;dsimp only;omega,by simp,?_⟩
   simp [k8]
  ·left
   refine ⟨by dsimp only;omega,rfl,?_,rfl⟩
   dsimp only
   rw [Nat.pow_succ];omega
 ·rw [if_neg (by omega)] at he
  split at he
  ·split at he
   ·split at he
    ·cases he
     right
     refine ⟨.inl rfl,by simp;omega,h3,?_,?_⟩
     ·intro x hx
      rcases List.mem_append.1 hx with hx|hx
      ·exact h4 x hx
      ·rw [List.mem_singleton] at hx;omega
     ·unfold k8
      dsimp only
      rw [if_neg (by simp)]
      left
      simp
    ·split at he<;>cases he
   ·cases he
    right
    exact ⟨.inr rfl,h2,h3,h4,h5⟩
  ·split at he
   ·split at he
    ·rename_i hw
     cases he
     right
     refine ⟨.inl rfl,h2,by dsimp only;omega,h4,?_⟩
     unfold k8 at h5⊢
     dsimp only
     split at h5
     ·rename_i hl
      rw [if_pos hl];omega
     ·rename_i hl
      rw [if_neg hl];omega
    ·cases he
   ·split at he
    ·rename_i hw
     cases he
     right
     refine ⟨.inl rfl,h2,by dsimp only;omega,h4,?_⟩
     unfold k8 at h5⊢
     dsimp only
     split at h5
     ·rename_i hl
      rw [if_pos hl];omega
     ·rename_i hl
      rw [if_neg hl];omega
    ·cases he
theorem tN {ok:List Nat→Bool} {t:TS} {b:Nat} {l:List Nat} (h:gd t) (he:bd ok t b= .fin l):l.length=258∧ok l=true:=by
 obtain ⟨l',bits,now,way⟩:=t
 unfold gd at h
 unfold bd at he
 dsimp only at h he
 split at he
 ·cases he
 ·split at he
  ·split at he
   ·split at he
    ·cases he
    ·split at he
     ·rename_i hok
      cases he
      refine ⟨?_,hok⟩
      simp
      omega
     ·cases he
   ·cases he
  ·split at he
   ·split at he<;>cases he
   ·split at he<;>cases he
def pad (l:List Nat):List Nat:=l++List.replicate (258 - l.length) 0
theorem bx {l:List Nat} (h:l.length≤258):(pad l).length=258:=by simp [pad];omega
theorem D4 {l:List Nat} (h:l.length=258):pad l=l:=by simp [pad,h]
theorem Fh {l:List Nat} {x:Nat} (h:l.length<258):(pad l).set l.length x=pad (l++ [x]):=by
 unfold pad
 rw [List.set_append_right _ _ (Nat.le_refl _),Nat.sub_self]
 obtain ⟨m,hm⟩: ∃m,258 - l.length=m+1:=⟨257 - l.length,by omega⟩
 rw [hm,List.replicate_succ,List.set_cons_zero,List.length_append,List.length_singleton,show 258 - (l.length+1)=m by omega]
 simp
theorem Dk {l:List Nat} (h:l≠ []) (h2:l.length≤258):(pad l)[l.length - 1]? =some (l.getLastD 0):=by
 unfold pad
 have:0<l.length:=List.length_pos_iff.2 h
 rw [List.getElem?_append_left (by omega),List.getElem?_eq_getElem (by omega)]
 cases l with
 |nil=>exact absurd rfl h
 |cons a l=>simp [List.getLastD,List.getLast_eq_getElem]
theorem G6 {l:List Nat} {i:Nat} (h1:l.length≤i):(pad l).getD i 0=0:=by
 unfold pad
 rw [List.getD_eq_getElem?_getD,List.getElem?_append_right h1,List.getElem?_replicate]
 split<;>rfl
theorem Gy {l:List Nat} (h: ∀x∈l,x≤15): ∀x∈pad l,x≤15:=by
 intro x hx
 rcases List.mem_append.1 hx with hx|hx
 ·exact h x hx
 ·have:=(List.mem_replicate.1 hx).2;omega
end Go.Tab
namespace Go.Proofs.YtgglghjnakclmaaGreat
open Go Go.Vc Go.Srt Go.Inc Go.Tab
abbrev wq (l:List Nat):List Value:=l.map fun (n:Nat)=>Value.int .u8 (n:Int)
abbrev dP (l:List Nat) (s b n wy:Int):Array Value:=⟨wq l++ [.int .i64 s,.int .i64 b,.int .i64 n,.int .i64 wy]⟩
theorem eu {l:List Nat} (h:l.length=258):(wq l).length=258:=by simp [h]
section
variable {E w:World} {F:List HP}
theorem CW:(Tryz.prog.fieldsOf 106).toList.map (fun f=>(f.name== "_",f.type,f.offset))= [(false,104,0),(false,3,258),(false,3,259),(false,3,260),(false,3,261)]:=by kernel_rfl
theorem IP:Tryz.prog.underlying 106=some (.struct (Tryz.prog.fieldsOf 106)):=by kernel_rfl
theorem H2:Tryz.prog.stoodInHeld 106=false:=by kernel_rfl
set_option maxRecDepth 20000 in
theorem rH.tb {l:List Nat} {s b n wy:Int} {K:Bool→Prop} (hl:l.length=258) (hK:K true):rH Tryz.prog 106 (dP l s b n wy) (dP l s b n wy) K:=by
 obtain ⟨it,hit⟩:=yK
 obtain ⟨jt,hjt,hjs⟩:=Gf
 obtain ⟨kt,hkt,hks⟩:=BQ
 obtain ⟨f1,f2,f3,f4,f5,hfs,hf1,hf2,hf3,hf4,hf5⟩: ∃f1 f2 f3 f4 f5,(Tryz.prog.fieldsOf 106).toList= [f1,f2,f3,f4,f5]∧(f1.name== "_",f1.type,f1.offset)=(false,104,0)∧(f2.name== "_",f2.type,f2.offset)=(false,3,258)∧(f3.name== "_",f3.type,f3.offset)=(false,3,259)∧(f4.name== "_",f4.type,f4.offset)=(false,3,260)∧(f5.name== "_",f5.type,f5.offset)=(false,3,261):=by
  have h:=CW
  generalize (Tryz.prog.fieldsOf 106).toList=fs at h
  match fs,h with
  | [],h=>simp at h
  | [_],h=>simp at h
  | [_,_],h=>simp at h
  | [_,_,_],h=>simp at h
  | [_,_,_,_],h=>simp at h
  |_::_::_::_::_::_::_,h=>simp at h
  | [f1,f2,f3,f4,f5],h=>
   simp only [List.map_cons,List.map_nil,List.cons.injEq,and_true] at h
   exact ⟨f1,f2,f3,f4,f5,rfl,h.1,h.2.1,h.2.2.1,h.2.2.2.1,h.2.2.2.2⟩
 simp only [Prod.mk.injEq] at hf1 hf2 hf3 hf4 hf5
 have hL:=eu hl
 have hc:(((dP l s b n wy).toList.drop 0).take 258)=(l.map fun (x:Nat)=>(x:Int)).map (.int .u8):=by
  rw [List.drop_zero,List.take_append_of_le_length (by omega),List.take_of_length_le (by omega),List.map_map];rfl
 have hint: ∀(x:Int) (D:Nat) (_:9≤D) (w:World),(Op.equalIn D 3 (.int .i64 x) (.int .i64 x)).run Tryz.prog w= .ok true w:=fun x D hD w=>by
  obtain ⟨D,rfl⟩: ∃k,D=k+1:=⟨D - 1,by omega⟩
  rw [run_equalIn_int w D _ _ _ _ _ Cz]
  simp
 obtain ⟨r,hr,hK'⟩:=im (P:=Tryz.prog) (d:=9) (rec:=fun t x y K=> ∃b,(∀D,9≤D→∀w,(Op.equalIn D t x y).run Tryz.prog w= .ok b w)∧K b) (fun t x y K h=>h) (xs:=dP l s b n wy) (ys:=dP l s b n wy) (fs:= [f1,f2,f3,f4,f5]) (K:=K) (by
  unfold gQ
  rw [hf1.1]
  refine jZ (it:=jt) (by rw [hf1.2.1];kernel_rfl) (by rw [hf1.2.1];exact hjt) (jZ (it:=jt) (by rw [hf1.2.1];kernel_rfl) (by rw [hf1.2.1];exact hjt) ?_)
  rw [hf1.2.2,hjs,hf1.2.1,hc]
  refine ⟨_,fun D hD w=>tC Gu ES hkt hks (by simpa using hl) (by simpa using hl) D (by omega) w,?_⟩
  unfold gQ
  rw [hf2.1]
  refine dc (it:=it) (v:= .int .i64 s) (by rw [hf2.2.1];kernel_rfl) (by rw [hf2.2.1];exact hit) (by rw [hf2.2.2];exact iz (k:=0) hL) (dc (it:=it) (v:= .int .i64 s) (by rw [hf2.2.1];kernel_rfl) (by rw [hf2.2.1];exact hit) (by rw [hf2.2.2];exact iz (k:=0) hL) ?_)
  rw [hf2.2.1]
  refine ⟨true,hint s,?_⟩
  unfold gQ
  rw [hf3.1]
  refine dc (it:=it) (v:= .int .i64 b) (by rw [hf3.2.1];kernel_rfl) (by rw [hf3.2.1];exact hit) (by rw [hf3.2.2];exact iz (k:=1) hL) (dc (it:=it) (v:= .int .i64 b) (by rw [hf3.2.1];kernel_rfl) (by rw [hf3.2.1];exact hit) (by rw [hf3.2.2];exact iz (k:=1) hL) ?_)
  rw [hf3.2.1]
  refine ⟨true,hint b,?_⟩
  unfold gQ
  rw [hf4.1]
  refine dc (it:=it) (v:= .int .i64 n) (by rw [hf4.2.1];kernel_rfl) (by rw [hf4.2.1];exact hit) (by rw [hf4.2.2];exact iz (k:=2) hL) (dc (it:=it) (v:= .int .i64 n) (by rw [hf4.2.1];kernel_rfl) (by rw [hf4.2.1];exact hit) (by rw [hf4.2.2];exact iz (k:=2) hL) ?_)
  rw [hf4.2.1]
  refine ⟨true,hint n,?_⟩
  unfold gQ
  rw [hf5.1]
  refine dc (it:=it) (v:= .int .i64 wy) (by rw [hf5.2.1];kernel_rfl) (by rw [hf5.2.1];exact hit) (by rw [hf5.2.2];exact iz (k:=3) hL) (dc (it:=it) (v:= .int .i64 wy) (by rw [hf5.2.1];kernel_rfl) (by rw [hf5.2.1];exact hit) (by rw [hf5.2.2];exact iz (k:=3) hL) ?_)
  rw [hf5.2.1]
  refine ⟨true,hint wy,?_⟩
  simpa using hK)
 refine ⟨r,fun w=> ?_,hK'⟩
 rw [run_equalIn_struct w 9999 _ _ _ IP H2,hfs]
 exact hr 9999 (by decide) w
end
end Go.Proofs.YtgglghjnakclmaaGreat
namespace Go.Proofs.YtgglghjnakclmaaGreat
open Go Go.Vc Go.Srt Go.Inc Go.Tab
section
variable {E w:World} {F:List HP}
theorem Cr (b n:Int):(⟨List.replicate 258 (.int .u8 0)++ [.int .i64 0,.int .i64 b,.int .i64 n,.int .i64 0]⟩:Array Value)=dP (List.replicate 258 0) 0 b n 0:=by
 unfold dP wq
 rw [List.map_replicate];rfl
theorem cf.tb {b n:Int} {K:Array Value→Prop} (hK:K (dP (List.replicate 258 0) 0 b n 0)):cf Tryz.prog 106 [(2,.int .i64 b),(3,.int .i64 n)] K:=by
 refine ⟨_,(by kernel_rfl:Tryz.prog.built 106 [(2,.int .i64 b),(3,.int .i64 n)]=some ⟨List.replicate 258 (.int .u8 0)++ [.int .i64 0,.int .i64 b,.int .i64 n,.int .i64 0]⟩),?_⟩
 rw [Cr];exact hK
set_option maxRecDepth 20000
theorem I7 {c x:Nat} (hx:x≤1) (hc:c<16384):jg .i64 (a9 .i64 (c:Int) 1) (x:Int)=((2*c+x:Nat):Int):=Bi hx hc
theorem br {l:List Nat} {s b n wy:Int}:(dP l s b n wy).toList.all ay=true:=by
 unfold dP wq
 rw [List.all_append,List.all_map]
 rw [Bool.and_eq_true]
 exact ⟨List.all_eq_true.2 fun _ _=>rfl,rfl⟩
theorem bC {l:List Nat} {s b n wy:Int} (hl:l.length=258):(dP l s b n wy).size=262:=by simp [hl]
theorem FW {l:List Nat} {i x:Nat}:(wq l).set i (.int .u8 (x:Int))=wq (l.set i x):=by
 unfold wq
 rw [List.map_set]
def Ke (t:TS) (x:Nat) (E:World) (F:List HP) (K:Array Value→Bool→World→Prop):Prop:=
 (∀t' w',bd cn t x= .more t'→Hp E w' F→K (dP (pad t'.l) (t'.l.length:Int) (t'.bits:Int) (t'.now:Int) (t'.way:Int)) true w')∧
 (∀l n w',bd cn t x= .fin l→Hp E w' F→K (dP l 258 4 n 0) true w')∧
 (∀o w',bd cn t x= .bad 100→o.size=262→o.toList.all ay=true→Hp E w' F→K o false w')
theorem Fk {t:TS} {x:Nat} {K:Array Value→Bool→World→Prop} (h:Hp E w F) (ht:gd t) (hx:x≤1) (hK:Ke t x E F K):
  Cl Tryz.prog [.arr 262,kB] fB ⟨[.agg (dP (pad t.l) (t.l.length:Int) (t.bits:Int) (t.now:Int) (t.way:Int)),.int .i64 (x:Int)]⟩ w K:=by
 obtain ⟨k1,k2,k3⟩:=hK
 obtain ⟨l,bits,now,way⟩:=t
 unfold gd at ht
 unfold bd at k1 k2 k3
 dsimp only at ht k1 k2 k3⊢
 have hl:l.length≤258:=by
  rcases ht with ⟨_,h,_⟩|⟨_,h,_⟩
  ·rw [h];simp
  ·omega
 have hL:=eu (bx hl)
 have hz:((⟨List.replicate 258 (.int .u8 0)++ [.int .i64 0,.int .i64 0,.int .i64 0,.int .i64 0]⟩:Array Value)).size=262:=by simp
 refine qy.ok _ _ _ _ ?_
 (try simp only [au,ak,al,Nat.zero_add,Nat.add_zero,Nat.reduceAdd,Bool.not_true,Bool.not_false,aH,aE,Option.isNone])
 refine Nw.mk h fun b4 w h=>Nw.mk h fun b6 w h=> ?_
 have out: ∀{w:World} {l':List Nat} {s b n wy:Int} {K':World→Array Value→Prop},l'.length=258→
   Hp E w (ao b6 (.cells ⟨List.replicate 258 (.int .u8 0)++ [.int .i64 0,.int .i64 0,.int .i64 0,.int .i64 0]⟩ 106 (0,0))::ao b4 (.cells (dP l' s b n wy) 106 (0,0))::F)→
   (∀w',Hp E w' F→K' w' (dP l' s b n wy))→
   aq 262 ⟨b6,0,none⟩ (dP l' s b n wy) w fun w1=>Ld (.arr 262) ⟨b6,0,none⟩ w1 fun r=>K' w1 r:=by
  intro w l' s b n wy K' hl' h hk
  refine aq.q h hz (bC hl') br fun w h=> ?_
  exact Ld.xw h (bC hl') (hk _ h.tl)
 rcases ht with ⟨h1,h2,h3,h4⟩|⟨h1,h2,h3,h4,h5⟩
 ·subst h2 h4
  simp only [if_pos h1] at k1 k2 k3
  have hnow:now<16384:=by
   have:2^bits≤2^3:=Nat.pow_le_pow_right (by decide) (by omega)
   omega
  (with_reducible repeat first|refine Nw.mk h fun b w h=> ?_|refine ah.mk h fun w h=> ?_|refine Ld.q h hL rfl rfl ?_|refine ad.q (fun _ h=>h) hL rfl rfl ?_|refine Ld.p h hL ?_|refine ad.p (fun _ h=>h) hL ?_|refine Ld.qw h hL rfl ?_|refine ad.qw (fun _ h=>h) hL rfl ?_|refine ⟨h.hb,?_⟩|(refine St.q h hL rfl rfl rfl fun w h=> ?_;dsimp only [af,ab] at h)|refine aa.yes ?_|refine aa.no ?_|refine ⟨by first|omega|decide,?_⟩)
  rw [I7 hx hnow,aj (by omega)] at h⊢
  exact out (K':=fun w x=>K x true w) (bx hl) h fun w h=>k1 _ _ rfl h
 ·simp only [if_neg (show¬bits<4 by omega)] at k1 k2 k3
  (with_reducible repeat first|refine Nw.mk h fun b w h=> ?_|refine ah.mk h fun w h=> ?_|refine Ld.q h hL rfl rfl ?_|refine ad.q (fun _ h=>h) hL rfl rfl ?_|refine Ld.p h hL ?_|refine ad.p (fun _ h=>h) hL ?_|refine Ld.qw h hL rfl ?_|refine ad.qw (fun _ h=>h) hL rfl ?_|refine ⟨h.hb,?_⟩|(refine St.q h hL rfl rfl rfl fun w h=> ?_;dsimp only [af,ab] at h)|refine aa.yes ?_|refine aa.no ?_|refine ⟨by first|omega|decide,?_⟩)
  by_cases hb:bits=4
  ·subst hb
   simp only [if_true] at k1 k2 k3
   by_cases hx0:x=0
   ·subst hx0
    simp only [if_true] at k1 k2 k3
    (with_reducible repeat first|refine Nw.mk h fun b w h=> ?_|refine ah.mk h fun w h=> ?_|refine Ld.q h hL rfl rfl ?_|refine ad.q (fun _ h=>h) hL rfl rfl ?_|refine Ld.p h hL ?_|refine ad.p (fun _ h=>h) hL ?_|refine Ld.qw h hL rfl ?_|refine ad.qw (fun _ h=>h) hL rfl ?_|refine ⟨h.hb,?_⟩|(refine St.q h hL rfl rfl rfl fun w h=> ?_;dsimp only [af,ab] at h)|refine aa.yes ?_|refine aa.no ?_|refine ⟨by first|omega|decide,?_⟩)
    refine ⟨by omega,by omega,?_⟩
    rw [show (((l.length:Int)).toNat*1)=l.length by omega,eb (by omega)]
    (try simp only [au,ak,al,Nat.zero_add,Nat.add_zero,Nat.reduceAdd,Bool.not_true,Bool.not_false,aH,aE,Option.isNone])
    refine St.g h (by omega) rfl fun w h=> ?_
    rw [FW,Fh h2] at h
    have hl2:(l++ [now]).length≤258:=by simp;omega
    have hL:=eu (bx hl2)
    (with_reducible repeat first|refine Nw.mk h fun b w h=> ?_|refine ah.mk h fun w h=> ?_|refine Ld.q h hL rfl rfl ?_|refine ad.q (fun _ h=>h) hL rfl rfl ?_|refine Ld.p h hL ?_|refine ad.p (fun _ h=>h) hL ?_|refine Ld.qw h hL rfl ?_|refine ad.qw (fun _ h=>h) hL rfl ?_|refine ⟨h.hb,?_⟩|(refine St.q h hL rfl rfl rfl fun w h=> ?_;dsimp only [af,ab] at h)|refine aa.yes ?_|refine aa.no ?_|refine ⟨by first|omega|decide,?_⟩)
    rw [aj (by omega),show (l.length:Int)+1=((l++ [now]).length:Int) by simp] at h
    have h:=h.drew (n:=w.drawn+1)
    refine ⟨cr b4 _ _ _,h.hb,?_⟩
    dsimp only
    (with_reducible repeat first|refine Nw.mk h fun b w h=> ?_|refine ah.mk h fun w h=> ?_|refine Ld.q h hL rfl rfl ?_|refine ad.q (fun _ h=>h) hL rfl rfl ?_|refine Ld.p h hL ?_|refine ad.p (fun _ h=>h) hL ?_|refine Ld.qw h hL rfl ?_|refine ad.qw (fun _ h=>h) hL rfl ?_|refine ⟨h.hb,?_⟩|(refine St.q h hL rfl rfl rfl fun w h=> ?_;dsimp only [af,ab] at h)|refine aa.yes ?_|refine aa.no ?_|refine ⟨by first|omega|decide,?_⟩)
    by_cases hf:l.length+1<258
    ·rw [if_pos hf] at k1 k2 k3
     refine aa.dt (by simp;omega) ?_
     refine aq.q h hz (bC (bx hl2)) br fun w h=> ?_
     (with_reducible repeat first|refine Nw.mk h fun b w h=> ?_|refine ah.mk h fun w h=> ?_|refine Ld.q h hL rfl rfl ?_|refine ad.q (fun _ h=>h) hL rfl rfl ?_|refine Ld.p h hL ?_|refine ad.p (fun _ h=>h) hL ?_|refine Ld.qw h hL rfl ?_|refine ad.qw (fun _ h=>h) hL rfl ?_|refine ⟨h.hb,?_⟩|(refine St.q h hL rfl rfl rfl fun w h=> ?_;dsimp only [af,ab] at h)|refine aa.yes ?_|refine aa.no ?_|refine ⟨by first|omega|decide,?_⟩)
     exact k1 _ _ rfl h.tl
    ·rw [if_neg hf] at k1 k2 k3
     have hfull:(l++ [now]).length=258:=by simp;omega
     refine aa.df (by simp;omega) ?_
     (with_reducible repeat first|refine Nw.mk h fun b w h=> ?_|refine ah.mk h fun w h=> ?_|refine Ld.q h hL rfl rfl ?_|refine ad.q (fun _ h=>h) hL rfl rfl ?_|refine Ld.p h hL ?_|refine ad.p (fun _ h=>h) hL ?_|refine Ld.qw h hL rfl ?_|refine ad.qw (fun _ h=>h) hL rfl ?_|refine ⟨h.hb,?_⟩|(refine St.q h hL rfl rfl rfl fun w h=> ?_;dsimp only [af,ab] at h)|refine aa.yes ?_|refine aa.no ?_|refine ⟨by first|omega|decide,?_⟩)
     rw [D4 hfull] at h⊢
     refine sS h hfull fun w h=> ?_
     refine ⟨h.hb,?_⟩
     refine aq.q h hz (bC hfull) br fun w h=>⟨h.hb,?_⟩
     refine Ld.xw h (bC hfull) ?_
     by_cases hok:cn (l++ [now])=true
     ·rw [if_pos hok] at k1 k2 k3
      rw [hok]
      have:=k2 _ (now:Int) _ rfl h.tl
      rw [hfull]
      exact this
     ·rw [if_neg hok] at k1 k2 k3
      rw [show cn (l++ [now])=false by simpa using hok]
      exact k3 _ _ rfl (bC hfull) br h.tl
   ·simp only [if_neg hx0] at k1 k2 k3
    (with_reducible repeat first|refine Nw.mk h fun b w h=> ?_|refine ah.mk h fun w h=> ?_|refine Ld.q h hL rfl rfl ?_|refine ad.q (fun _ h=>h) hL rfl rfl ?_|refine Ld.p h hL ?_|refine ad.p (fun _ h=>h) hL ?_|refine Ld.qw h hL rfl ?_|refine ad.qw (fun _ h=>h) hL rfl ?_|refine ⟨h.hb,?_⟩|(refine St.q h hL rfl rfl rfl fun w h=> ?_;dsimp only [af,ab] at h)|refine aa.yes ?_|refine aa.no ?_|refine ⟨by first|omega|decide,?_⟩)
    exact out (K':=fun w x=>K x true w) (bx hl) h fun w h=>k1 _ _ rfl h
  ·simp only [if_neg hb] at k1 k2 k3
   have hb5:bits=5:=by omega
   subst hb5
   by_cases hx0:x=0
   ·subst hx0
    simp only [if_true] at k1 k2 k3
    (with_reducible repeat first|refine Nw.mk h fun b w h=> ?_|refine ah.mk h fun w h=> ?_|refine Ld.q h hL rfl rfl ?_|refine ad.q (fun _ h=>h) hL rfl rfl ?_|refine Ld.p h hL ?_|refine ad.p (fun _ h=>h) hL ?_|refine Ld.qw h hL rfl ?_|refine ad.qw (fun _ h=>h) hL rfl ?_|refine ⟨h.hb,?_⟩|(refine St.q h hL rfl rfl rfl fun w h=> ?_;dsimp only [af,ab] at h)|refine aa.yes ?_|refine aa.no ?_|refine ⟨by first|omega|decide,?_⟩)
    by_cases hw:way=2
    ·subst hw
     (with_reducible repeat first|refine Nw.mk h fun b w h=> ?_|refine ah.mk h fun w h=> ?_|refine Ld.q h hL rfl rfl ?_|refine ad.q (fun _ h=>h) hL rfl rfl ?_|refine Ld.p h hL ?_|refine ad.p (fun _ h=>h) hL ?_|refine Ld.qw h hL rfl ?_|refine ad.qw (fun _ h=>h) hL rfl ?_|refine ⟨h.hb,?_⟩|(refine St.q h hL rfl rfl rfl fun w h=> ?_;dsimp only [af,ab] at h)|refine aa.yes ?_|refine aa.no ?_|refine ⟨by first|omega|decide,?_⟩)
     exact out (K':=fun w x=>K x false w) (bx hl) h fun w h=>k3 _ _ (by simp) (bC (bx hl)) br h
    ·(with_reducible repeat first|refine Nw.mk h fun b w h=> ?_|refine ah.mk h fun w h=> ?_|refine Ld.q h hL rfl rfl ?_|refine ad.q (fun _ h=>h) hL rfl rfl ?_|refine Ld.p h hL ?_|refine ad.p (fun _ h=>h) hL ?_|refine Ld.qw h hL rfl ?_|refine ad.qw (fun _ h=>h) hL rfl ?_|refine ⟨h.hb,?_⟩|(refine St.q h hL rfl rfl rfl fun w h=> ?_;dsimp only [af,ab] at h)|refine aa.yes ?_|refine aa.no ?_|refine ⟨by first|omega|decide,?_⟩)
     refine out (K':=fun w x=>K x (decide ((now:Int)<15)) w) (bx hl) h fun w h=> ?_
     have ei:i64 ((now:Int)+1)=(now:Int)+1:=aj (by omega)
     try rw [ei]
     try rw [aj (x:=(now:Int) - 1) (by omega)]
     by_cases hn:now<15
     ·rw [if_pos ⟨hw,hn⟩] at k1
      exact dw (K:=fun b w=>K _ b w) (decide_eq_true (by omega)) (k1 _ _ rfl h)
     ·rw [if_neg (fun hh=>hn hh.2)] at k3
      exact dw (K:=fun b w=>K _ b w) (decide_eq_false (by omega)) (k3 _ _ rfl (bC (bx hl)) br h)
   ·have hx1:x=1:=by omega
    subst hx1
    simp only [if_neg hx0] at k1 k2 k3
    (with_reducible repeat first|refine Nw.mk h fun b w h=> ?_|refine ah.mk h fun w h=> ?_|refine Ld.q h hL rfl rfl ?_|refine ad.q (fun _ h=>h) hL rfl rfl ?_|refine Ld.p h hL ?_|refine ad.p (fun _ h=>h) hL ?_|refine Ld.qw h hL rfl ?_|refine ad.qw (fun _ h=>h) hL rfl ?_|refine ⟨h.hb,?_⟩|(refine St.q h hL rfl rfl rfl fun w h=> ?_;dsimp only [af,ab] at h)|refine aa.yes ?_|refine aa.no ?_|refine ⟨by first|omega|decide,?_⟩)
    by_cases hw:way=1
    ·subst hw
     (with_reducible repeat first|refine Nw.mk h fun b w h=> ?_|refine ah.mk h fun w h=> ?_|refine Ld.q h hL rfl rfl ?_|refine ad.q (fun _ h=>h) hL rfl rfl ?_|refine Ld.p h hL ?_|refine ad.p (fun _ h=>h) hL ?_|refine Ld.qw h hL rfl ?_|refine ad.qw (fun _ h=>h) hL rfl ?_|refine ⟨h.hb,?_⟩|(refine St.q h hL rfl rfl rfl fun w h=> ?_;dsimp only [af,ab] at h)|refine aa.yes ?_|refine aa.no ?_|refine ⟨by first|omega|decide,?_⟩)
     exact out (K':=fun w x=>K x false w) (bx hl) h fun w h=>k3 _ _ (by simp) (bC (bx hl)) br h
    ·(with_reducible repeat first|refine Nw.mk h fun b w h=> ?_|refine ah.mk h fun w h=> ?_|refine Ld.q h hL rfl rfl ?_|refine ad.q (fun _ h=>h) hL rfl rfl ?_|refine Ld.p h hL ?_|refine ad.p (fun _ h=>h) hL ?_|refine Ld.qw h hL rfl ?_|refine ad.qw (fun _ h=>h) hL rfl ?_|refine ⟨h.hb,?_⟩|(refine St.q h hL rfl rfl rfl fun w h=> ?_;dsimp only [af,ab] at h)|refine aa.yes ?_|refine aa.no ?_|refine ⟨by first|omega|decide,?_⟩)
     refine out (K':=fun w x=>K x (decide ((now:Int)>0)) w) (bx hl) h fun w h=> ?_
     have ei:i64 ((now:Int)+1)=(now:Int)+1:=aj (by omega)
     try rw [ei]
     try rw [aj (x:=(now:Int) - 1) (by omega)]
     by_cases hn:0<now
     ·rw [if_pos ⟨hw,hn⟩] at k1
      rw [show (now:Int) - 1=((now - 1:Nat):Int) by omega]
      exact dw (K:=fun b w=>K _ b w) (decide_eq_true (by omega)) (k1 _ _ rfl h)
     ·rw [if_neg (fun hh=>hn hh.2)] at k3
      exact dw (K:=fun b w=>K _ b w) (decide_eq_false (by omega)) (k3 _ _ rfl (bC (bx hl)) br h)
end
end Go.Proofs.YtgglghjnakclmaaGreat
namespace Go.Proofs.YtgglghjnakclmaaGreat
open Go Go.Vc Go.Srt Go.Inc Go.Tab
section
variable {E w:World} {F:List HP}
set_option maxRecDepth 20000
theorem fE {a b c:Int} {K:Bool→World→Prop} (hK:K (decide (b≤a∧a≤c)) w):Cl Tryz.prog [kB] bB ⟨[.int .i64 a,.int .i64 b,.int .i64 c]⟩ w K:=by
 refine oN.ok _ _ _ _ _ ?_
 (first|refine aa.dm (fun hb=> ?_) (fun hb=> ?_)|refine aa.em (fun hb=> ?_) (fun hb=> ?_)|refine aa.nm (fun hb=> ?_) (fun hb=> ?_)|refine aa.mk (fun hb=> ?_) (fun hb=> ?_))
 ·refine dw (decide_eq_decide.2 ?_) hK
  omega
 ·refine dw (decide_eq_false ?_).symm hK
  omega
theorem DY {a b c:Nat} {K:Bool→World→Prop} (hc:(c=0∧a=b)∨(c=1∧a<b)∨(c=2∧b<a)) (hK:K true w):Cl Tryz.prog [kB] eH ⟨[.int .i64 (a:Int),.int .i64 (b:Int),.int .i64 (c:Int)]⟩ w K:=by
 refine oq.ok _ _ _ _ _ ?_
 rcases hc with ⟨rfl,h⟩|⟨rfl,h⟩|⟨rfl,h⟩
 ·(with_reducible repeat first|refine Nw.mk h fun b w h=> ?_|refine ah.mk h fun w h=> ?_|refine Ld.xb h rfl ?_|refine Ld.xt h rfl ?_|refine ad.xb (fun _ h=>h) rfl ?_|refine ad.xt (fun _ h=>h) rfl ?_|refine ⟨h.hb,?_⟩|refine ae.xw h rfl rfl fun w h=> ?_|(refine ae.xs h rfl rfl fun w h=> ?_;dsimp only [af,ab] at h)|(refine St.xs h rfl rfl fun w h=> ?_;dsimp only [af,ab] at h)|refine aa.yes ?_|refine aa.no ?_|refine ⟨by first|omega|decide,?_⟩)
  exact dw (beq_iff_eq.2 (by omega)) hK
 ·(with_reducible repeat first|refine Nw.mk h fun b w h=> ?_|refine ah.mk h fun w h=> ?_|refine Ld.xb h rfl ?_|refine Ld.xt h rfl ?_|refine ad.xb (fun _ h=>h) rfl ?_|refine ad.xt (fun _ h=>h) rfl ?_|refine ⟨h.hb,?_⟩|refine ae.xw h rfl rfl fun w h=> ?_|(refine ae.xs h rfl rfl fun w h=> ?_;dsimp only [af,ab] at h)|(refine St.xs h rfl rfl fun w h=> ?_;dsimp only [af,ab] at h)|refine aa.yes ?_|refine aa.no ?_|refine ⟨by first|omega|decide,?_⟩)
  exact dw (decide_eq_true (by omega)) hK
 ·(with_reducible repeat first|refine Nw.mk h fun b w h=> ?_|refine ah.mk h fun w h=> ?_|refine Ld.xb h rfl ?_|refine Ld.xt h rfl ?_|refine ad.xb (fun _ h=>h) rfl ?_|refine ad.xt (fun _ h=>h) rfl ?_|refine ⟨h.hb,?_⟩|refine ae.xw h rfl rfl fun w h=> ?_|(refine ae.xs h rfl rfl fun w h=> ?_;dsimp only [af,ab] at h)|(refine St.xs h rfl rfl fun w h=> ?_;dsimp only [af,ab] at h)|refine aa.yes ?_|refine aa.no ?_|refine ⟨by first|omega|decide,?_⟩)
  exact dw (decide_eq_true (by omega)) hK
set_option maxRecDepth 20000 in
theorem Fb {l:List Nat} {b n wy:Int} {K:Bool→World→Prop} (h:Hp E w F) (hl:l.length≤258) (h15: ∀x∈l,x≤15) (hK: ∀w',Hp E w' F→K true w'):
  Cl Tryz.prog [kB] fh ⟨[.agg (dP (pad l) (l.length:Int) b n wy)]⟩ w K:=by
 have hp:=bx hl
 have hL:=eu hp
 refine pD.ok _ _ _ ?_
 (try simp only [au,ak,al,Nat.zero_add,Nat.add_zero,Nat.reduceAdd,Bool.not_true,Bool.not_false,aH,aE,Option.isNone])
 refine Nw.mk h fun b3 w h=>Ld.p h hL ?_
 refine ⟨fun i w'=> ∃k:Nat,i=(k:Int)∧k≤258∧Hp E w' (ao b3 (.cells (dP (pad l) (l.length:Int) b n wy) 106 (0,0))::F),fun i _=>258 - i.toNat,⟨0,rfl,by omega,h⟩,?_⟩
 rintro i w ⟨k,rfl,hk,h⟩
 (first|refine aa.dm (fun hb=> ?_) (fun hb=> ?_)|refine aa.em (fun hb=> ?_) (fun hb=> ?_)|refine aa.nm (fun hb=> ?_) (fun hb=> ?_)|refine aa.mk (fun hb=> ?_) (fun hb=> ?_))
 ·refine gg.rd (s:= .int .u8) (by omega) (by omega) ((pad l).getD k 0:Int) ?_ ?_
  ·rw [Int.toNat_natCast]
   simp [List.getD_eq_getElem?_getD,show k<(pad l).length by omega]
  have h15':(pad l).getD k 0≤15:=by
   have hk2:k<(pad l).length:=by omega
   rw [List.getD_eq_getElem?_getD,List.getElem?_eq_getElem hk2]
   exact Gy h15 _ (List.getElem_mem hk2)
  (with_reducible repeat first|refine Nw.mk h fun b w h=> ?_|refine ah.mk h fun w h=> ?_|refine Ld.q h hL rfl rfl ?_|refine ad.q (fun _ h=>h) hL rfl rfl ?_|refine Ld.p h hL ?_|refine ad.p (fun _ h=>h) hL ?_|refine Ld.qw h hL rfl ?_|refine ad.qw (fun _ h=>h) hL rfl ?_|refine ⟨h.hb,?_⟩|(refine St.q h hL rfl rfl rfl fun w h=> ?_;dsimp only [af,ab] at h)|refine aa.yes ?_|refine aa.no ?_|refine ⟨by first|omega|decide,?_⟩)
  have next:(∃k':Nat,i64 ((k:Int)+1)=(k':Int)∧k'≤258∧Hp E w (ao b3 (.cells (dP (pad l) (l.length:Int) b n wy) 106 (0,0))::F))∧258 - (i64 ((k:Int)+1)).toNat<258 - ((k:Int)).toNat:=by
   rw [aj (by omega)]
   exact ⟨⟨k+1,rfl,by omega,h⟩,by omega⟩
  (first|refine aa.dm (fun hb=> ?_) (fun hb=> ?_)|refine aa.em (fun hb=> ?_) (fun hb=> ?_)|refine aa.nm (fun hb=> ?_) (fun hb=> ?_)|refine aa.mk (fun hb=> ?_) (fun hb=> ?_))
  ·have:=G6 (l:=l) (i:=k) (by omega)
   rw [this]
   (with_reducible repeat first|refine Nw.mk h fun b w h=> ?_|refine ah.mk h fun w h=> ?_|refine Ld.q h hL rfl rfl ?_|refine ad.q (fun _ h=>h) hL rfl rfl ?_|refine Ld.p h hL ?_|refine ad.p (fun _ h=>h) hL ?_|refine Ld.qw h hL rfl ?_|refine ad.qw (fun _ h=>h) hL rfl ?_|refine ⟨h.hb,?_⟩|(refine St.q h hL rfl rfl rfl fun w h=> ?_;dsimp only [af,ab] at h)|refine aa.yes ?_|refine aa.no ?_|refine ⟨by first|omega|decide,?_⟩)
   exact next
  ·exact next
 ·exact hK _ h.tl
theorem Ej {l:List Nat} {s n:Int} {b:Nat} {wy:Int} {K:Bool→World→Prop} (h:Hp E w F) (hl:l.length=258) (hb:4≤b) (hK: ∀w',Hp E w' F→K false w'):
  Cl Tryz.prog [kB] cE ⟨[.agg (dP l s (b:Int) n wy)]⟩ w K:=by
 have hL:=eu hl
 refine hJ.ok _ _ _ ?_
 (try simp only [au,ak,al,Nat.zero_add,Nat.add_zero,Nat.reduceAdd,Bool.not_true,Bool.not_false,aH,aE,Option.isNone])
 refine Nw.mk h fun b3 w h=> ?_
 have h:=h.drew (n:=w.drawn+1)
 refine ⟨cr b3 _ _ _,h.hb,?_⟩
 dsimp only
 (with_reducible repeat first|refine Nw.mk h fun b w h=> ?_|refine ah.mk h fun w h=> ?_|refine Ld.q h hL rfl rfl ?_|refine ad.q (fun _ h=>h) hL rfl rfl ?_|refine Ld.p h hL ?_|refine ad.p (fun _ h=>h) hL ?_|refine Ld.qw h hL rfl ?_|refine ad.qw (fun _ h=>h) hL rfl ?_|refine ⟨h.hb,?_⟩|(refine St.q h hL rfl rfl rfl fun w h=> ?_;dsimp only [af,ab] at h)|refine aa.yes ?_|refine aa.no ?_|refine ⟨by first|omega|decide,?_⟩)
 refine fE ?_
 (with_reducible repeat first|refine Nw.mk h fun b w h=> ?_|refine ah.mk h fun w h=> ?_|refine Ld.q h hL rfl rfl ?_|refine ad.q (fun _ h=>h) hL rfl rfl ?_|refine Ld.p h hL ?_|refine ad.p (fun _ h=>h) hL ?_|refine Ld.qw h hL rfl ?_|refine ad.qw (fun _ h=>h) hL rfl ?_|refine ⟨h.hb,?_⟩|(refine St.q h hL rfl rfl rfl fun w h=> ?_;dsimp only [af,ab] at h)|refine aa.yes ?_|refine aa.no ?_|refine ⟨by first|omega|decide,?_⟩)
 exact hK _ h.tl
theorem DX {n b:Nat} {K:Bool→World→Prop} (h:Hp E w F) (hb:b<4) (hn:n<2^b) (hK: ∀w',Hp E w' F→K true w'):
  Cl Tryz.prog [kB] cE ⟨[.agg (dP (List.replicate 258 0) 0 (b:Int) (n:Int) 0)]⟩ w K:=by
 have hl:(List.replicate 258 0:List Nat).length=258:=List.length_replicate
 have hL:=eu hl
 refine hJ.ok _ _ _ ?_
 (try simp only [au,ak,al,Nat.zero_add,Nat.add_zero,Nat.reduceAdd,Bool.not_true,Bool.not_false,aH,aE,Option.isNone])
 refine Nw.mk h fun b3 w h=> ?_
 have h:=h.drew (n:=w.drawn+1)
 refine ⟨cr b3 _ _ _,h.hb,?_⟩
 dsimp only
 have e:i64 (a9 .i64 1 (b:Int) - 1)=((2^b - 1:Nat):Int):=by
  have:b=0∨b=1∨b=2∨b=3:=by omega
  rcases this with rfl|rfl|rfl|rfl<;>rfl
 have hp:=Nat.two_pow_pos b
 (with_reducible repeat first|refine Nw.mk h fun b w h=> ?_|refine ah.mk h fun w h=> ?_|refine Ld.q h hL rfl rfl ?_|refine ad.q (fun _ h=>h) hL rfl rfl ?_|refine Ld.p h hL ?_|refine ad.p (fun _ h=>h) hL ?_|refine Ld.qw h hL rfl ?_|refine ad.qw (fun _ h=>h) hL rfl ?_|refine ⟨h.hb,?_⟩|(refine St.q h hL rfl rfl rfl fun w h=> ?_;dsimp only [af,ab] at h)|refine aa.yes ?_|refine aa.no ?_|refine ⟨by first|omega|decide,?_⟩)
 refine fE ?_
 (with_reducible repeat first|refine Nw.mk h fun b w h=> ?_|refine ah.mk h fun w h=> ?_|refine Ld.q h hL rfl rfl ?_|refine ad.q (fun _ h=>h) hL rfl rfl ?_|refine Ld.p h hL ?_|refine ad.p (fun _ h=>h) hL ?_|refine Ld.qw h hL rfl ?_|refine ad.qw (fun _ h=>h) hL rfl ?_|refine ⟨h.hb,?_⟩|(refine St.q h hL rfl rfl rfl fun w h=> ?_;dsimp only [af,ab] at h)|refine aa.yes ?_|refine aa.no ?_|refine ⟨by first|omega|decide,?_⟩)
 refine fE ?_
 rw [e]
 (with_reducible repeat first|refine Nw.mk h fun b w h=> ?_|refine ah.mk h fun w h=> ?_|refine Ld.q h hL rfl rfl ?_|refine ad.q (fun _ h=>h) hL rfl rfl ?_|refine Ld.p h hL ?_|refine ad.p (fun _ h=>h) hL ?_|refine Ld.qw h hL rfl ?_|refine ad.qw (fun _ h=>h) hL rfl ?_|refine ⟨h.hb,?_⟩|(refine St.q h hL rfl rfl rfl fun w h=> ?_;dsimp only [af,ab] at h)|refine aa.yes ?_|refine aa.no ?_|refine ⟨by first|omega|decide,?_⟩)
 exact cf.tb (rH.tb hl (hK _ h.tl))
theorem C8 {t:TS} {K:Bool→World→Prop} (h:Hp E w F) (ht:gd t) (hK: ∀w',Hp E w' F→K true w'):
  Cl Tryz.prog [kB] fk ⟨[.agg (dP (pad t.l) (t.l.length:Int) (t.bits:Int) (t.now:Int) (t.way:Int))]⟩ w K:=by
 obtain ⟨l,bits,now,way⟩:=t
 unfold gd at ht
 dsimp only at ht⊢
 have hl:l.length≤258:=by
  rcases ht with ⟨_,h,_⟩|⟨_,h,_⟩
  ·rw [h];simp
  ·omega
 have hL:=eu (bx hl)
 refine pC.ok _ _ _ ?_
 (try simp only [au,ak,al,Nat.zero_add,Nat.add_zero,Nat.reduceAdd,Bool.not_true,Bool.not_false,aH,aE,Option.isNone])
 (with_reducible repeat first|refine Nw.mk h fun b w h=> ?_|refine ah.mk h fun w h=> ?_|refine Ld.q h hL rfl rfl ?_|refine ad.q (fun _ h=>h) hL rfl rfl ?_|refine Ld.p h hL ?_|refine ad.p (fun _ h=>h) hL ?_|refine Ld.qw h hL rfl ?_|refine ad.qw (fun _ h=>h) hL rfl ?_|refine ⟨h.hb,?_⟩|(refine St.q h hL rfl rfl rfl fun w h=> ?_;dsimp only [af,ab] at h)|refine aa.yes ?_|refine aa.no ?_|refine ⟨by first|omega|decide,?_⟩)
 rcases ht with ⟨h1,h2,h3,h4⟩|⟨h1,h2,h3,h4,h5⟩
 ·subst h2 h4
  refine DX h h1 h3 fun w h=> ?_
  (with_reducible repeat first|refine Nw.mk h fun b w h=> ?_|refine ah.mk h fun w h=> ?_|refine Ld.q h hL rfl rfl ?_|refine ad.q (fun _ h=>h) hL rfl rfl ?_|refine Ld.p h hL ?_|refine ad.p (fun _ h=>h) hL ?_|refine Ld.qw h hL rfl ?_|refine ad.qw (fun _ h=>h) hL rfl ?_|refine ⟨h.hb,?_⟩|(refine St.q h hL rfl rfl rfl fun w h=> ?_;dsimp only [af,ab] at h)|refine aa.yes ?_|refine aa.no ?_|refine ⟨by first|omega|decide,?_⟩)
  exact hK _ h.tl
 ·refine Ej h (bx hl) (by omega) fun w h=> ?_
  (with_reducible repeat first|refine Nw.mk h fun b w h=> ?_|refine ah.mk h fun w h=> ?_|refine Ld.q h hL rfl rfl ?_|refine ad.q (fun _ h=>h) hL rfl rfl ?_|refine Ld.p h hL ?_|refine ad.p (fun _ h=>h) hL ?_|refine Ld.qw h hL rfl ?_|refine ad.qw (fun _ h=>h) hL rfl ?_|refine ⟨h.hb,?_⟩|(refine St.q h hL rfl rfl rfl fun w h=> ?_;dsimp only [af,ab] at h)|refine aa.yes ?_|refine aa.no ?_|refine ⟨by first|omega|decide,?_⟩)
  refine fE ?_
  (with_reducible repeat first|refine Nw.mk h fun b w h=> ?_|refine ah.mk h fun w h=> ?_|refine Ld.q h hL rfl rfl ?_|refine ad.q (fun _ h=>h) hL rfl rfl ?_|refine Ld.p h hL ?_|refine ad.p (fun _ h=>h) hL ?_|refine Ld.qw h hL rfl ?_|refine ad.qw (fun _ h=>h) hL rfl ?_|refine ⟨h.hb,?_⟩|(refine St.q h hL rfl rfl rfl fun w h=> ?_;dsimp only [af,ab] at h)|refine aa.yes ?_|refine aa.no ?_|refine ⟨by first|omega|decide,?_⟩)
  refine fE ?_
  (with_reducible repeat first|refine Nw.mk h fun b w h=> ?_|refine ah.mk h fun w h=> ?_|refine Ld.q h hL rfl rfl ?_|refine ad.q (fun _ h=>h) hL rfl rfl ?_|refine Ld.p h hL ?_|refine ad.p (fun _ h=>h) hL ?_|refine Ld.qw h hL rfl ?_|refine ad.qw (fun _ h=>h) hL rfl ?_|refine ⟨h.hb,?_⟩|(refine St.q h hL rfl rfl rfl fun w h=> ?_;dsimp only [af,ab] at h)|refine aa.yes ?_|refine aa.no ?_|refine ⟨by first|omega|decide,?_⟩)
  refine fE ?_
  (with_reducible repeat first|refine Nw.mk h fun b w h=> ?_|refine ah.mk h fun w h=> ?_|refine Ld.q h hL rfl rfl ?_|refine ad.q (fun _ h=>h) hL rfl rfl ?_|refine Ld.p h hL ?_|refine ad.p (fun _ h=>h) hL ?_|refine Ld.qw h hL rfl ?_|refine ad.qw (fun _ h=>h) hL rfl ?_|refine ⟨h.hb,?_⟩|(refine St.q h hL rfl rfl rfl fun w h=> ?_;dsimp only [af,ab] at h)|refine aa.yes ?_|refine aa.no ?_|refine ⟨by first|omega|decide,?_⟩)
  refine fE ?_
  have hw:way≤2:=by unfold k8 at h5;split at h5<;>omega
  (with_reducible repeat first|refine Nw.mk h fun b w h=> ?_|refine ah.mk h fun w h=> ?_|refine Ld.q h hL rfl rfl ?_|refine ad.q (fun _ h=>h) hL rfl rfl ?_|refine Ld.p h hL ?_|refine ad.p (fun _ h=>h) hL ?_|refine Ld.qw h hL rfl ?_|refine ad.qw (fun _ h=>h) hL rfl ?_|refine ⟨h.hb,?_⟩|(refine St.q h hL rfl rfl rfl fun w h=> ?_;dsimp only [af,ab] at h)|refine aa.yes ?_|refine aa.no ?_|refine ⟨by first|omega|decide,?_⟩)
  refine Fb h hl h4 fun w h=> ?_
  (with_reducible repeat first|refine Nw.mk h fun b w h=> ?_|refine ah.mk h fun w h=> ?_|refine Ld.q h hL rfl rfl ?_|refine ad.q (fun _ h=>h) hL rfl rfl ?_|refine Ld.p h hL ?_|refine ad.p (fun _ h=>h) hL ?_|refine Ld.qw h hL rfl ?_|refine ad.qw (fun _ h=>h) hL rfl ?_|refine ⟨h.hb,?_⟩|(refine St.q h hL rfl rfl rfl fun w h=> ?_;dsimp only [af,ab] at h)|refine aa.yes ?_|refine aa.no ?_|refine ⟨by first|omega|decide,?_⟩)
  unfold k8 at h5
  by_cases hn:l= []
  ·subst hn
   rw [if_pos rfl] at h5
   (with_reducible repeat first|refine Nw.mk h fun b w h=> ?_|refine ah.mk h fun w h=> ?_|refine Ld.q h hL rfl rfl ?_|refine ad.q (fun _ h=>h) hL rfl rfl ?_|refine Ld.p h hL ?_|refine ad.p (fun _ h=>h) hL ?_|refine Ld.qw h hL rfl ?_|refine ad.qw (fun _ h=>h) hL rfl ?_|refine ⟨h.hb,?_⟩|(refine St.q h hL rfl rfl rfl fun w h=> ?_;dsimp only [af,ab] at h)|refine aa.yes ?_|refine aa.no ?_|refine ⟨by first|omega|decide,?_⟩)
   rcases h5 with h5|⟨h5,h6⟩|⟨h5,h6⟩
   ·subst h5
    (with_reducible repeat first|refine Nw.mk h fun b w h=> ?_|refine ah.mk h fun w h=> ?_|refine Ld.q h hL rfl rfl ?_|refine ad.q (fun _ h=>h) hL rfl rfl ?_|refine Ld.p h hL ?_|refine ad.p (fun _ h=>h) hL ?_|refine Ld.qw h hL rfl ?_|refine ad.qw (fun _ h=>h) hL rfl ?_|refine ⟨h.hb,?_⟩|(refine St.q h hL rfl rfl rfl fun w h=> ?_;dsimp only [af,ab] at h)|refine aa.yes ?_|refine aa.no ?_|refine ⟨by first|omega|decide,?_⟩)
    exact hK _ h.tl
   ·subst h5
    (with_reducible repeat first|refine Nw.mk h fun b w h=> ?_|refine ah.mk h fun w h=> ?_|refine Ld.q h hL rfl rfl ?_|refine ad.q (fun _ h=>h) hL rfl rfl ?_|refine Ld.p h hL ?_|refine ad.p (fun _ h=>h) hL ?_|refine Ld.qw h hL rfl ?_|refine ad.qw (fun _ h=>h) hL rfl ?_|refine ⟨h.hb,?_⟩|(refine St.q h hL rfl rfl rfl fun w h=> ?_;dsimp only [af,ab] at h)|refine aa.yes ?_|refine aa.no ?_|refine ⟨by first|omega|decide,?_⟩)
    exact hK _ h.tl
   ·subst h5
    (with_reducible repeat first|refine Nw.mk h fun b w h=> ?_|refine ah.mk h fun w h=> ?_|refine Ld.q h hL rfl rfl ?_|refine ad.q (fun _ h=>h) hL rfl rfl ?_|refine Ld.p h hL ?_|refine ad.p (fun _ h=>h) hL ?_|refine Ld.qw h hL rfl ?_|refine ad.qw (fun _ h=>h) hL rfl ?_|refine ⟨h.hb,?_⟩|(refine St.q h hL rfl rfl rfl fun w h=> ?_;dsimp only [af,ab] at h)|refine aa.yes ?_|refine aa.no ?_|refine ⟨by first|omega|decide,?_⟩)
    exact dw (decide_eq_true (by omega)) (hK _ h.tl)
  ·rw [if_neg hn] at h5
   have hpos:=List.length_pos_iff.2 hn
   (with_reducible repeat first|refine Nw.mk h fun b w h=> ?_|refine ah.mk h fun w h=> ?_|refine Ld.q h hL rfl rfl ?_|refine ad.q (fun _ h=>h) hL rfl rfl ?_|refine Ld.p h hL ?_|refine ad.p (fun _ h=>h) hL ?_|refine Ld.qw h hL rfl ?_|refine ad.qw (fun _ h=>h) hL rfl ?_|refine ⟨h.hb,?_⟩|(refine St.q h hL rfl rfl rfl fun w h=> ?_;dsimp only [af,ab] at h)|refine aa.yes ?_|refine aa.no ?_|refine ⟨by first|omega|decide,?_⟩)
   rw [aj (by omega)]
   refine ⟨by omega,by omega,?_⟩
   rw [show (((l.length:Int) - 1).toNat*1)=l.length - 1 by omega]
   (try simp only [au,ak,al,Nat.zero_add,Nat.add_zero,Nat.reduceAdd,Bool.not_true,Bool.not_false,aH,aE,Option.isNone])
   refine Ld.g (x:=(l.getLastD 0:Int)) h ?_ ?_
   ·rw [List.getElem?_map,Dk hn hl];rfl
   have hlast:l.getLastD 0≤15:=by
    cases l with
    |nil=>exact absurd rfl hn
    |cons a l=>rw [List.getLastD_cons,←List.getLast_eq_getLastD (h:=List.cons_ne_nil _ _)];exact h4 _ (List.getLast_mem _)
   (with_reducible repeat first|refine Nw.mk h fun b w h=> ?_|refine ah.mk h fun w h=> ?_|refine Ld.q h hL rfl rfl ?_|refine ad.q (fun _ h=>h) hL rfl rfl ?_|refine Ld.p h hL ?_|refine ad.p (fun _ h=>h) hL ?_|refine Ld.qw h hL rfl ?_|refine ad.qw (fun _ h=>h) hL rfl ?_|refine ⟨h.hb,?_⟩|(refine St.q h hL rfl rfl rfl fun w h=> ?_;dsimp only [af,ab] at h)|refine aa.yes ?_|refine aa.no ?_|refine ⟨by first|omega|decide,?_⟩)
   rw [aj (by omega)]
   refine DY (by omega) ?_
   exact hK _ h.tl
end
end Go.Proofs.YtgglghjnakclmaaGreat
namespace Go.Proofs.YtgglghjnakclmaaGreat
open Go Go.Vc Go.Srt Go.Inc Go.Tab
section
variable {E w:World} {F:List HP}
set_option maxRecDepth 20000
theorem F2 {t:TS} {x:Nat} {K:Array Value→Bool→Int→World→Prop} (h:Hp E w F) (ht:gd t) (hx:x≤1)
  (hmore: ∀t' w',bd cn t x= .more t'→Hp E w' F→K (dP (pad t'.l) (t'.l.length:Int) (t'.bits:Int) (t'.now:Int) (t'.way:Int)) false 0 w')
  (hfin: ∀l n w',bd cn t x= .fin l→Hp E w' F→K (dP l 258 4 n 0) true 0 w')
  (hbad: ∀o w',bd cn t x= .bad 100→o.size=262→o.toList.all ay=true→Hp E w' F→K o false 100 w'):
  Cl Tryz.prog [.arr 262,kB,kI] fP ⟨[.agg (dP (pad t.l) (t.l.length:Int) (t.bits:Int) (t.now:Int) (t.way:Int)),.int .i64 (x:Int)]⟩ w K:=by
 have hl:t.l.length<258:=by
  rcases ht with ⟨_,h,_⟩|⟨_,h,_⟩
  ·rw [h];simp
  ·omega
 have hL:=eu (bx (Nat.le_of_lt hl))
 have hz:((⟨List.replicate 258 (.int .u8 0)++ [.int .i64 0,.int .i64 0,.int .i64 0,.int .i64 0]⟩:Array Value)).size=262:=by simp
 refine qb.ok _ _ _ _ ?_
 (try simp only [au,ak,al,Nat.zero_add,Nat.add_zero,Nat.reduceAdd,Bool.not_true,Bool.not_false,aH,aE,Option.isNone])
 refine Nw.mk h fun b4 w h=>Nw.mk h fun b6 w h=> ?_
 (with_reducible repeat first|refine Nw.mk h fun b w h=> ?_|refine ah.mk h fun w h=> ?_|refine Ld.q h hL rfl rfl ?_|refine ad.q (fun _ h=>h) hL rfl rfl ?_|refine Ld.p h hL ?_|refine ad.p (fun _ h=>h) hL ?_|refine Ld.qw h hL rfl ?_|refine ad.qw (fun _ h=>h) hL rfl ?_|refine ⟨h.hb,?_⟩|(refine St.q h hL rfl rfl rfl fun w h=> ?_;dsimp only [af,ab] at h)|refine aa.yes ?_|refine aa.no ?_|refine ⟨by first|omega|decide,?_⟩)
 refine C8 h ht fun w h=> ?_
 (with_reducible repeat first|refine Nw.mk h fun b w h=> ?_|refine ah.mk h fun w h=> ?_|refine Ld.q h hL rfl rfl ?_|refine ad.q (fun _ h=>h) hL rfl rfl ?_|refine Ld.p h hL ?_|refine ad.p (fun _ h=>h) hL ?_|refine Ld.qw h hL rfl ?_|refine ad.qw (fun _ h=>h) hL rfl ?_|refine ⟨h.hb,?_⟩|(refine St.q h hL rfl rfl rfl fun w h=> ?_;dsimp only [af,ab] at h)|refine aa.yes ?_|refine aa.no ?_|refine ⟨by first|omega|decide,?_⟩)
 have e1:cp .i64 (x:Int) 1=0:=by
  have:x=0∨x=1:=by omega
  rcases this with rfl|rfl<;>rfl
 rw [e1]
 (with_reducible repeat first|refine Nw.mk h fun b w h=> ?_|refine ah.mk h fun w h=> ?_|refine Ld.q h hL rfl rfl ?_|refine ad.q (fun _ h=>h) hL rfl rfl ?_|refine Ld.p h hL ?_|refine ad.p (fun _ h=>h) hL ?_|refine Ld.qw h hL rfl ?_|refine ad.qw (fun _ h=>h) hL rfl ?_|refine ⟨h.hb,?_⟩|(refine St.q h hL rfl rfl rfl fun w h=> ?_;dsimp only [af,ab] at h)|refine aa.yes ?_|refine aa.no ?_|refine ⟨by first|omega|decide,?_⟩)
 refine Fk h ht hx ⟨fun t' w he h=> ?_,fun l n w he h=> ?_,fun o w he ho hos h=> ?_⟩
 ·have ht':=wi ht hx he
  have hl':t'.l.length<258:=by
   rcases ht' with ⟨_,h,_⟩|⟨_,h,_⟩
   ·rw [h];simp
   ·omega
  have hL:=eu (bx (Nat.le_of_lt hl'))
  refine aq.q h (bC (bx (Nat.le_of_lt hl))) (bC (bx (Nat.le_of_lt hl'))) br fun w h=> ?_
  (with_reducible repeat first|refine Nw.mk h fun b w h=> ?_|refine ah.mk h fun w h=> ?_|refine Ld.q h hL rfl rfl ?_|refine ad.q (fun _ h=>h) hL rfl rfl ?_|refine Ld.p h hL ?_|refine ad.p (fun _ h=>h) hL ?_|refine Ld.qw h hL rfl ?_|refine ad.qw (fun _ h=>h) hL rfl ?_|refine ⟨h.hb,?_⟩|(refine St.q h hL rfl rfl rfl fun w h=> ?_;dsimp only [af,ab] at h)|refine aa.yes ?_|refine aa.no ?_|refine ⟨by first|omega|decide,?_⟩)
  have h:=h.drew (n:=w.drawn+1)
  refine ⟨cr b4 _ _ _,h.hb,?_⟩
  dsimp only
  (with_reducible repeat first|refine Nw.mk h fun b w h=> ?_|refine ah.mk h fun w h=> ?_|refine Ld.q h hL rfl rfl ?_|refine ad.q (fun _ h=>h) hL rfl rfl ?_|refine Ld.p h hL ?_|refine ad.p (fun _ h=>h) hL ?_|refine Ld.qw h hL rfl ?_|refine ad.qw (fun _ h=>h) hL rfl ?_|refine ⟨h.hb,?_⟩|(refine St.q h hL rfl rfl rfl fun w h=> ?_;dsimp only [af,ab] at h)|refine aa.yes ?_|refine aa.no ?_|refine ⟨by first|omega|decide,?_⟩)
  refine aq.q h hz (bC (bx (Nat.le_of_lt hl'))) br fun w h=>⟨h.hb,?_⟩
  (with_reducible repeat first|refine Nw.mk h fun b w h=> ?_|refine ah.mk h fun w h=> ?_|refine Ld.q h hL rfl rfl ?_|refine ad.q (fun _ h=>h) hL rfl rfl ?_|refine Ld.p h hL ?_|refine ad.p (fun _ h=>h) hL ?_|refine Ld.qw h hL rfl ?_|refine ad.qw (fun _ h=>h) hL rfl ?_|refine ⟨h.hb,?_⟩|(refine St.q h hL rfl rfl rfl fun w h=> ?_;dsimp only [af,ab] at h)|refine aa.yes ?_|refine aa.no ?_|refine ⟨by first|omega|decide,?_⟩)
  have e6:((t'.l.length:Int)==258)=false:=beq_eq_false_iff_ne.2 (by omega)
  have h6:=hmore t' _ he h.tl
  rw [←e6] at h6
  exact h6
 ·have hf:=(tN ht he).1
  have hL:=eu hf
  refine aq.q h (bC (bx (Nat.le_of_lt hl))) (bC hf) br fun w h=> ?_
  (with_reducible repeat first|refine Nw.mk h fun b w h=> ?_|refine ah.mk h fun w h=> ?_|refine Ld.q h hL rfl rfl ?_|refine ad.q (fun _ h=>h) hL rfl rfl ?_|refine Ld.p h hL ?_|refine ad.p (fun _ h=>h) hL ?_|refine Ld.qw h hL rfl ?_|refine ad.qw (fun _ h=>h) hL rfl ?_|refine ⟨h.hb,?_⟩|(refine St.q h hL rfl rfl rfl fun w h=> ?_;dsimp only [af,ab] at h)|refine aa.yes ?_|refine aa.no ?_|refine ⟨by first|omega|decide,?_⟩)
  have h:=h.drew (n:=w.drawn+1)
  refine ⟨cr b4 _ _ _,h.hb,?_⟩
  dsimp only
  (with_reducible repeat first|refine Nw.mk h fun b w h=> ?_|refine ah.mk h fun w h=> ?_|refine Ld.q h hL rfl rfl ?_|refine ad.q (fun _ h=>h) hL rfl rfl ?_|refine Ld.p h hL ?_|refine ad.p (fun _ h=>h) hL ?_|refine Ld.qw h hL rfl ?_|refine ad.qw (fun _ h=>h) hL rfl ?_|refine ⟨h.hb,?_⟩|(refine St.q h hL rfl rfl rfl fun w h=> ?_;dsimp only [af,ab] at h)|refine aa.yes ?_|refine aa.no ?_|refine ⟨by first|omega|decide,?_⟩)
  refine aq.q h hz (bC hf) br fun w h=>⟨h.hb,?_⟩
  (with_reducible repeat first|refine Nw.mk h fun b w h=> ?_|refine ah.mk h fun w h=> ?_|refine Ld.q h hL rfl rfl ?_|refine ad.q (fun _ h=>h) hL rfl rfl ?_|refine Ld.p h hL ?_|refine ad.p (fun _ h=>h) hL ?_|refine Ld.qw h hL rfl ?_|refine ad.qw (fun _ h=>h) hL rfl ?_|refine ⟨h.hb,?_⟩|(refine St.q h hL rfl rfl rfl fun w h=> ?_;dsimp only [af,ab] at h)|refine aa.yes ?_|refine aa.no ?_|refine ⟨by first|omega|decide,?_⟩)
  exact hfin l n _ he h.tl
 ·refine aq.q h (bC (bx (Nat.le_of_lt hl))) ho hos fun w h=> ?_
  (with_reducible repeat first|refine Nw.mk h fun b w h=> ?_|refine ah.mk h fun w h=> ?_|refine Ld.q h hL rfl rfl ?_|refine ad.q (fun _ h=>h) hL rfl rfl ?_|refine Ld.p h hL ?_|refine ad.p (fun _ h=>h) hL ?_|refine Ld.qw h hL rfl ?_|refine ad.qw (fun _ h=>h) hL rfl ?_|refine ⟨h.hb,?_⟩|(refine St.q h hL rfl rfl rfl fun w h=> ?_;dsimp only [af,ab] at h)|refine aa.yes ?_|refine aa.no ?_|refine ⟨by first|omega|decide,?_⟩)
  refine Ld.xw h hz ?_
  refine aq.q h hz hz (by decide) fun w h=> ?_
  refine Ld.xw h hz ?_
  exact hbad _ _ he hz (by decide) h.tl
end
end Go.Proofs.YtgglghjnakclmaaGreat
namespace Go.Proofs.YtgglghjnakclmaaGreat
open Go Go.Vc
set_option maxRecDepth 100000
theorem zW.ok (a:Int) (R:(Array Value)→World→Prop) w (h:
 Nw 112 ⟨List.replicate 256 (.int .u8 0)++ [(ni 0),(ni 0),(ni 0),(.bool false)]⟩ w fun c b=>
 aa (decide (a<1))
 (Ld (.arr 260) ⟨c,0,none⟩ b fun d=>
 aq 260 ⟨c,0,none⟩ d b fun e=>
 Ld (.arr 260) ⟨c,0,none⟩ e fun f=>
 R f e)
 (aa (decide (a>65536))
 (Ld (.arr 260) ⟨c,0,none⟩ b fun g=>
 aq 260 ⟨c,0,none⟩ g b fun h=>
 Ld (.arr 260) ⟨c,0,none⟩ h fun i=>
 R i h)
 (Cl Pg [(.arr 256)] od ⟨[]⟩ b fun k j=>
 cf Pg 112 [(0,(.agg k)),(1,(ni a))] fun l=>
 aq 260 ⟨c,0,none⟩ l j fun m=>
 Ld (.arr 260) ⟨c,0,none⟩ m fun n=>
 R n m))):Cl Pg [(.arr 260)] ld ⟨[(ni a)]⟩ w R:=co Tryz.f119 [] h
theorem xN.ok (a:(Array Value)) (b:Int) (R:(Array Value)→Sl→Bool→Int→World→Prop) w (h:
 Nw 112 a w fun d c=>
 Nw 112 ⟨List.replicate 256 (.int .u8 0)++ [(ni 0),(ni 0),(ni 0),(.bool false)]⟩ c fun f e=>
 bg (fun (y:World)=>
 Ld (.arr 260) ⟨d,0,none⟩ y fun z=>
 Cl Pg [(.arr 260),kS,kB] jP ⟨[(.agg z),(ni b)]⟩ y fun b1 (c1:Sl) (d1:Bool) a1=>
 aq 260 ⟨f,0,none⟩ b1 a1 fun e1=>
 aa (!d1)
 (Ld (.arr 260) ⟨d,0,none⟩ e1 fun f1=>
 aq 260 ⟨f,0,none⟩ f1 e1 fun g1=>
 Ld (.arr 260) ⟨f,0,none⟩ g1 fun h1=>
 R h1 (⟨none,0,0⟩:Sl) false 160 g1)
 (Ld (.arr 260) ⟨f,0,none⟩ e1 fun i1=>
 Ld kB (Addr.add ⟨f,0,none⟩ 259) e1 fun (j1:Bool)=>
 aq 260 ⟨f,0,none⟩ i1 e1 fun k1=>
 Ld (.arr 260) ⟨f,0,none⟩ k1 fun l1=>
 R l1 c1 j1 0 k1)) fun g=>
 Ld (.arr 260) ⟨d,0,none⟩ e fun h=>
 Cl Pg [kB] iH ⟨[(.agg h)]⟩ e fun (j:Bool) i=>
 aa (!j)
 (Ld (.arr 260) ⟨d,0,none⟩ i fun k=>
 aq 260 ⟨f,0,none⟩ k i fun l=>
 Ld (.arr 260) ⟨f,0,none⟩ l fun m=>
 R m (⟨none,0,0⟩:Sl) false 2 l)
 (Ld kB (Addr.add ⟨d,0,none⟩ 259) i fun (n:Bool)=>
 aa n
 (Ld (.arr 260) ⟨d,0,none⟩ i fun o=>
 aq 260 ⟨f,0,none⟩ o i fun p=>
 Ld (.arr 260) ⟨f,0,none⟩ p fun q=>
 R q (⟨none,0,0⟩:Sl) false 2 p)
 (aa (decide (b<0))
 (Ld (.arr 260) ⟨d,0,none⟩ i fun r=>
 aq 260 ⟨f,0,none⟩ r i fun s=>
 Ld (.arr 260) ⟨f,0,none⟩ s fun t=>
 R t (⟨none,0,0⟩:Sl) false 2 s)
 (aa (decide (b>257))
 (Ld (.arr 260) ⟨d,0,none⟩ i fun u=>
 aq 260 ⟨f,0,none⟩ u i fun v=>
 Ld (.arr 260) ⟨f,0,none⟩ v fun x=>
 R x (⟨none,0,0⟩:Sl) false 2 v)
 (g i))))):Cl Pg [(.arr 260),kS,kB,kI] jD ⟨[(.agg a),(ni b)]⟩ w R:=co Tryz.f121 [(2,[])] h
theorem wK.ok (a:(Array Value)) (R:Bool→World→Prop) w (h:
 Nw 112 a w fun c b=>
 bg (fun (o:World)=>
 Ld kI (Addr.add ⟨c,0,none⟩ 258) o fun (p:Int)=>
 0≤p∧
 Ld kI (Addr.add ⟨c,0,none⟩ 257) o fun (q:Int)=>
 aa (decide (q<(i64 ((a9 .i64 (1:Int) p) - 1))))
 (R false o)
 (Ld kI (Addr.add ⟨c,0,none⟩ 257) o fun (r:Int)=>
 aa (decide (r>(i64 ((2:Int)*(i64 ((a9 .i64 (1:Int) p) - 1))))))
 (R false o)
 (Ld kB (Addr.add ⟨c,0,none⟩ 259) o fun (s:Bool)=>
 aa (!s)
 (R true o)
 (Ld (.arr 260) ⟨c,0,none⟩ o fun t=>
 Ld (.arr 256) (Addr.add ⟨c,0,none⟩ 0) o fun u=>
 cf Pg 112 [(0,(.agg u)),(4,(.bool true))] fun v=>
 rH Pg 112 t v fun x=>
 R x o)))) fun d=>
 Ld (.arr 256) (Addr.add ⟨c,0,none⟩ 0) b fun e=>
 Cl Pg [kB] lK ⟨[(.agg e)]⟩ b fun (g:Bool) f=>
 aa (!g)
 (R false f)
 (Ld kI (Addr.add ⟨c,0,none⟩ 256) f fun (h:Int)=>
 aa (decide (h<0))
 (R false f)
 (Ld kI (Addr.add ⟨c,0,none⟩ 256) f fun (i:Int)=>
 aa (decide (i>65536))
 (R false f)
 (Ld kI (Addr.add ⟨c,0,none⟩ 257) f fun (j:Int)=>
 aa (decide (j<0))
 (R false f)
 (Ld kI (Addr.add ⟨c,0,none⟩ 257) f fun (k:Int)=>
 Ld kI (Addr.add ⟨c,0,none⟩ 256) f fun (l:Int)=>
 aa (decide (k>l))
 (R false f)
 (Ld kI (Addr.add ⟨c,0,none⟩ 258) f fun (m:Int)=>
 aa (decide (m<0))
 (R false f)
 (Ld kI (Addr.add ⟨c,0,none⟩ 258) f fun (n:Int)=>
 aa (decide (n>16))
 (R false f)
 (d f)))))))):Cl Pg [kB] iH ⟨[(.agg a)]⟩ w R:=co Tryz.f178 [(2,[])] h
theorem yl.ok (a:(Array Value)) (b:Int) (R:(Array Value)→Sl→Bool→World→Prop) w (h:
 Nw 112 a w fun d c=>
 Nw 112 ⟨List.replicate 256 (.int .u8 0)++ [(ni 0),(ni 0),(ni 0),(.bool false)]⟩ c fun f e=>
 bg (fun (h:Bool) (i:World)=>
 aa h
 (Ld kI (Addr.add ⟨d,0,none⟩ 257) i fun (j:Int)=>
 Ld kI (Addr.add ⟨d,0,none⟩ 258) i fun (k:Int)=>
 Cl Pg [kI,kI] gJ ⟨[(ni j),(ni k),(ni b)]⟩ i fun (m:Int) (n:Int) l=>
 St (Addr.add ⟨d,0,none⟩ 257) (ni m) l fun o=>
 Ld kI (Addr.add ⟨d,0,none⟩ 258) o fun (p:Int)=>
 St (Addr.add ⟨d,0,none⟩ 258) (ni (i64 (p+1))) o fun q=>
 fN q fun r s=>
 ad (.arr 260) ⟨d,0,none⟩ r fun t=>
 ad kI (Addr.add ⟨d,0,none⟩ 257) r fun (u:Int)=>
 ad kI (Addr.add ⟨d,0,none⟩ 256) r fun (v:Int)=>
 aq 260 ⟨f,0,none⟩ t s fun x=>
 r x∧
 Ld (.arr 260) ⟨f,0,none⟩ x fun y=>
 R y (⟨none,0,0⟩:Sl) (decide (u≤v)) x)
 (aa (b==257)
 (fN i fun z a1=>
 ad (.arr 256) (Addr.add ⟨d,0,none⟩ 0) z fun b1=>
 cf Pg 112 [(0,(.agg b1)),(4,(.bool true))] fun c1=>
 ad (.arr 260) ⟨d,0,none⟩ z fun d1=>
 ad kI (Addr.add ⟨d,0,none⟩ 257) z fun (e1:Int)=>
 ad kI (Addr.add ⟨d,0,none⟩ 256) z fun (f1:Int)=>
 Cl Pg [kS] il ⟨[(.agg d1)]⟩ a1 fun (h1:Sl) g1=>
 z g1∧
 aq 260 ⟨f,0,none⟩ c1 g1 fun i1=>
 z i1∧
 Ld (.arr 260) ⟨f,0,none⟩ i1 fun j1=>
 R j1 h1 (e1==f1) i1)
 (Ld kI (Addr.add ⟨d,0,none⟩ 257) i fun (k1:Int)=>
 Ld kI (Addr.add ⟨d,0,none⟩ 256) i fun (l1:Int)=>
 aa (k1==l1)
 (Ld (.arr 260) ⟨d,0,none⟩ i fun m1=>
 aq 260 ⟨f,0,none⟩ m1 i fun n1=>
 Ld (.arr 260) ⟨f,0,none⟩ n1 fun o1=>
 R o1 (⟨none,0,0⟩:Sl) false n1)
 (Ld (.arr 256) (Addr.add ⟨d,0,none⟩ 0) i fun p1=>
 Cl Pg [(.arr 256),(az .u8),kB] mQ ⟨[(.agg p1),(ni (i64 (b - 1)))]⟩ i fun r1 (s1:Int) (t1:Bool) q1=>
 Nw 110 ⟨List.replicate 256 (.int .u8 0)⟩ q1 fun v1 u1=>
 aq 256 ⟨v1,0,none⟩ r1 u1 fun x1=>
 Ld (.arr 260) ⟨d,0,none⟩ x1 fun y1=>
 Cl Pg [kS] il ⟨[(.agg y1)]⟩ x1 fun (a2:Sl) z1=>
 Nw 5 ⟨[(.int .u8 s1)]⟩ z1 fun c2 b2=>
 aw Pg (Builtin.append_ #[26,26] 26 ⟨[(an a2),(an (⟨some ⟨c2,0,none⟩,1,1⟩:Sl))]⟩) kS b2 fun (e2:Sl) d2=>
 Ld (.arr 256) ⟨v1,0,none⟩ d2 fun f2=>
 Ld kI (Addr.add ⟨d,0,none⟩ 256) d2 fun (g2:Int)=>
 cf Pg 112 [(0,(.agg f2)),(1,(ni (i64 (g2 - (e2.len:Int)))))] fun h2=>
 aq 260 ⟨f,0,none⟩ h2 d2 fun i2=>
 Ld (.arr 260) ⟨f,0,none⟩ i2 fun j2=>
 R j2 e2 true i2)))) fun g=>
 aa (b==0)
 (g true e)
 (g (b==1) e)):Cl Pg [(.arr 260),kS,kB] jP ⟨[(.agg a),(ni b)]⟩ w R:=co Tryz.f179 [(3,[(10,kB)])] h
theorem AH.ok (a:(Array Value)) (R:Sl→World→Prop) w (h:
 Nw 112 a w fun c b=>
 ah b fun d=>
 bF (⟨some (Addr.add ⟨c,0,none⟩ 0),256,256⟩:Sl) 0 1 256 1 fun e=>
 Ld kI (Addr.add ⟨c,0,none⟩ 257) d fun (f:Int)=>
 Cl Pg [kS] iO ⟨[(an e),(ni f)]⟩ d fun (h:Sl) g=>
 R h g):Cl Pg [kS] il ⟨[(.agg a)]⟩ w R:=co Tryz.f239 [] h
end Go.Proofs.YtgglghjnakclmaaGreat
namespace Go.Proofs.YtgglghjnakclmaaGreat
open Go Go.Vc
set_option maxRecDepth 100000
theorem ui.ok (a:Int) (b:Int) (R:Int→Int→World→Prop) w (h:
 Cl Pg [(az .u64),(az .u64)] jR ⟨[(.int .u64 a),(.int .u64 b)]⟩ w fun (d:Int) (e:Int) c=>
 R d e c):Cl Pg [(az .u64),(az .u64)] ik ⟨[(.int .u64 a),(.int .u64 b)]⟩ w R:=co Tryz.f321 [] h
theorem q0.ok (a:Int) (b:Int) (R:Int→Int→World→Prop) w (h:
 0≤(32:Int)∧
 0≤(32:Int)∧
 0≤(32:Int)∧
 0≤(32:Int)∧
 0≤(32:Int)∧
 R (u64 ((u64 ((u64 ((cp .u64 a (32:Int))*(cp .u64 b (32:Int))))+(cp .u64 (u64 ((u64 ((cp .u64 a (32:Int))*(cL .u64 b 4294967295)))+(cp .u64 (u64 ((cL .u64 a 4294967295)*(cL .u64 b 4294967295))) (32:Int)))) (32:Int))))+(cp .u64 (u64 ((cL .u64 (u64 ((u64 ((cp .u64 a (32:Int))*(cL .u64 b 4294967295)))+(cp .u64 (u64 ((cL .u64 a 4294967295)*(cL .u64 b 4294967295))) (32:Int)))) 4294967295)+(u64 ((cL .u64 a 4294967295)*(cp .u64 b (32:Int)))))) (32:Int)))) (u64 (a*b)) w):Cl Pg [(az .u64),(az .u64)] jR ⟨[(.int .u64 a),(.int .u64 b)]⟩ w R:=co Tryz.f331 [] h
end Go.Proofs.YtgglghjnakclmaaGreat
set_option maxRecDepth 20000
namespace Go.Vc
open Go
section
variable {P:Program} {E w:World} {l:List HP} {b o:Nat} {c:Array Value} {t:TypeId} {fr:Nat×Nat} {put:Obj→List HP}
theorem Hp.E6 {F:List HP} {cs:Array Value} {fr:Nat×Nat} (h:Hp E w (ao b (.cells c t fr)::F)):Hp E (w.setRow b cs) (ao b (.cells cs t fr)::F):=by
 have hb:=h.aD
 refine h.setObj (o':= .cells cs t fr) ?_ rfl rfl rfl
 apply Array.ext_getElem?
 intro r
 have hlt:b<w.heap.size:=by
  rcases Nat.lt_or_ge b w.heap.size with hh|hh
  ·exact hh
  ·simp [Array.getElem?_eq_none hh] at hb
 simp only [World.setRow,Array.getElem?_modify,Array.set!_eq_setIfInBounds,Array.getElem?_setIfInBounds]
 by_cases hr:b=r
 ·subst hr
  have hv:w.heap[b]= .cells c t fr:=by simpa [hlt] using hb
  simp [hlt,hv]
 ·simp [hr]
theorem oz {dT sT ty e:TypeId} {dLen dCap:Nat} {s:Sl} {ys:List Value} {K:Int→World→Prop} [hf:bo b l c t (0,0) put] (hu:P.underlying dT=some (.slice e)) (hs:(P.info? e).map (·.size)=some 1)
  (h:Hp E w l) (hsrc:aG 1 s ys w) (hsc: ∀v∈ys,ay v=true) (hfit:o+dLen≤c.size)
  (hK: ∀w',Hp E w' (put (.cells ⟨c.toList.take o++(ys.take dLen++c.toList.drop (o+min ys.length dLen))⟩ t (0,0)))→K ((min ys.length dLen:Nat):Int) w'):
  aw P (Builtin.copy_ #[dT,sT] ty ⟨[.slice (some ⟨b,o,none⟩) dLen dCap,.slice s.base s.len s.cap]⟩) kI w K:=by
 have hl:=hsrc.1
 rw [Nat.mul_one] at hl
 obtain ⟨r,h1,h2⟩:=hf.perm
 have hh:=h.perm h1
 unfold aw
 by_cases h0:min ys.length dLen=0
 ·rw [show (⟨[.slice (some ⟨b,o,none⟩) dLen dCap,.slice s.base s.len s.cap]⟩:Array Value)= #[.slice (some ⟨b,o,none⟩) dLen dCap,.slice s.base s.len s.cap] from rfl,run_copy_none (P:=P) w dT sT ty e _ _ _ _ _ _ hu hs (by rw [←hl];exact h0)]
  have hk:=hK w
  rw [h0] at hk
  have e1:ys.take dLen= []:=by
   rcases Nat.eq_zero_or_pos dLen with hd|hd
   ·rw [hd];rfl
   ·have:ys= []:=List.length_eq_zero_iff.1 (by omega)
    rw [this];simp
  rw [e1,List.nil_append,Nat.add_zero,List.take_append_drop] at hk
  exact hk (hh.perm (by have:=h2 (.cells c t (0,0));simpa using this))
 ·have hpos:0<ys.length:=by omega
  obtain ⟨p,hp,_⟩:=hsrc.2 0 hpos
  rw [hp]
  have hmin:(ys.take dLen).length=Nat.min s.len dLen:=by
   rw [List.length_take,←hl,Nat.min_comm]
  have:=run_copy_row (P:=P) w dT sT ty e b o dLen dCap p s.len s.cap c t (ys.take dLen) hu hs hh.aD hmin (fun j v hv=> ?_) (by
   rw [List.length_take];omega) (fun v hv=>jT (hsc v (List.mem_of_mem_take hv)))
  ·rw [show (⟨[.slice (some ⟨b,o,none⟩) dLen dCap,.slice (some p) s.len s.cap]⟩:Array Value)= #[.slice (some ⟨b,o,none⟩) dLen dCap,.slice (some p) s.len s.cap] from rfl,this]
   have hlen:(ys.take dLen).length=min ys.length dLen:=by rw [List.length_take,Nat.min_comm]
   rw [hlen,List.append_assoc]
   exact hK _ ((hh.E6).perm (h2 _))
  ·have hj:j<(ys.take dLen).length:=by
    rcases Nat.lt_or_ge j (ys.take dLen).length with h|h
    ·exact h
    ·rw [List.getElem?_eq_none h] at hv;cases hv
   rw [List.length_take] at hj
   obtain ⟨p',hp',hc⟩:=hsrc.2 j (by omega)
   rw [hp] at hp'
   cases hp'
   rw [hc]
   rw [List.getElem?_take_of_lt (by omega),List.getElem?_eq_getElem (by omega)] at hv
   exact hv
end
end Go.Vc
namespace Go.Vc
open Go
section
variable {E w:World} {l:List HP} {b:Nat} {c:Array Value} {t:TypeId} {fr:Nat×Nat} {put:Obj→List HP}
theorem Hp.J8 {n m:Nat} {xs:List Value} [bo b l c t fr put] (h:Hp E w l) (hl:xs.length=n) (hx: ∀i (hi:i<xs.length),c[i]? =some xs[i]):aG 1 ⟨some ⟨b,0,none⟩,n,m⟩ xs w:=
 ⟨by simpa using hl,fun i hi=>⟨_,rfl,by rw [al,h.fc,Nat.zero_add];exact hx i hi⟩⟩
end
end Go.Vc
namespace Go.Proofs.YtgglghjnakclmaaGreat
open Go Go.Vc
section
variable {E w:World} {F:List HP}
theorem Hb {n:Nat} {K:Int→Int→World→Prop} (hn:n≤4294967295) (hK:K 0 (n:Int) w):Cl Tryz.prog [az .u64,az .u64] ik ⟨[.int .u64 1,.int .u64 (n:Int)]⟩ w K:=by
 refine ui.ok _ _ _ _ ?_
 refine q0.ok _ _ _ _ ?_
 refine ⟨by decide,by decide,by decide,by decide,by decide,?_⟩
 have hmx:IntKind.max .u64=18446744073709551615:=rfl
 have e1:cp .u64 1 32=0:=by decide
 have e2:cp .u64 (n:Int) 32=0:=by
  have:=eP (k:= .u64) (a:=n) (b:=32) (by decide)
  rw [Nat.div_eq_of_lt (by omega)] at this
  simpa using this
 have e3:cL .u64 1 4294967295=1:=by decide
 have e4:cL .u64 (n:Int) 4294967295=(n:Int):=by
  have:=kx (k:= .u64) (a:=n) (b:=4294967295) (by rw [hmx];omega) (by rw [hmx];omega)
  rw [show n&&&4294967295=n % 2^32 from Nat.and_two_pow_sub_one_eq_mod n 32,Nat.mod_eq_of_lt (by omega)] at this
  simpa using this
 have e5:u64 (n:Int)=(n:Int):=fQ (by omega)
 have e6:u64 0=0:=by decide
 have e7:cp .u64 0 32=0:=by decide
 have e8:cL .u64 0 4294967295=0:=by decide
 simp only [e1,e2,e3,e4,Int.zero_mul,Int.one_mul,Int.mul_zero,e5,e6,Int.add_zero,e7,e8]
 exact hK
set_option maxRecDepth 20000
theorem zD:Tryz.prog.underlying 26=some (.slice 5):=by kernel_rfl
theorem I9:(Tryz.prog.info? 5).map (·.size)=some 1:=by kernel_rfl
theorem DQ {n:Nat} {K:Sl→World→Prop} (h:Hp E w F) (hn:n≤65536) (hK: ∀b cs w',n≤cs.size→Hp E w' (ao b (.cells cs 5 (0,0))::F)→K ⟨some ⟨b,0,none⟩,n,cs.size⟩ w'):
  Ext Tryz.prog bW ⟨[.int .i64 (n:Int)]⟩ [kS] w K:=by
 obtain ⟨cs,hrun,hcs,_⟩:=Go.Lib.run_makeNoZero (P:=Tryz.prog) w #[3] 26 5 zD n (by omega)
 have hx:(callFunc bW #[.int .i64 (n:Int)]).run Tryz.prog w= .ok (.value (.slice (some ⟨w.heap.size,0,none⟩) n cs.size)) (w.drew.drew.alloc (.cells cs 5)):=by
  rw [run_callFunc_extern Tryz.func322 (by kernel_rfl) (by kernel_rfl) (by kernel_rfl) (e:=Extern.BytealgMakeNoZero.makeNoZero #[3] #[26]) (by kernel_rfl),hrun];rfl
 unfold Ext
 rw [show (⟨[.int .i64 (n:Int)]⟩:Array Value)= #[.int .i64 (n:Int)] from rfl,hx]
 have h2:Hp E w.drew.drew F:=h.same rfl rfl rfl rfl
 exact hK _ _ _ hcs (h2.alloc _)
set_option maxRecDepth 20000
theorem Eg {s:Sl} {c n:Nat} {K:Sl→World→Prop} (h:Hp E w F) (hs:ag F (aG 1 s [.int .u8 (c:Int)])) (hn:n≤65536) (hK: ∀s' w',Hp E w' (aA 1 s' ((List.replicate n c).map vB)::F)→K s' w'):
  Cl Tryz.prog [kS] iO ⟨[.slice s.base s.len s.cap,.int .i64 (n:Int)]⟩ w K:=by
 refine wx.ok _ _ _ _ ?_
 have hl1:s.len=1:=by have:=(h.av hs).1;simpa using this.symm
 obtain ⟨sb,sl,sc⟩:=s
 dsimp only at hl1⊢
 subst hl1
 (try simp only [au,ak,al,Nat.zero_add,Nat.add_zero,Nat.reduceAdd,Bool.not_true,Bool.not_false,aH,aE,Option.isNone])
 by_cases h0:n=0
 ·subst h0
  refine aa.et (by omega) ?_
  refine Nw.mk h fun b w h=> ?_
  exact hK _ _ (h.ia (n:=0) (sz:=1) rfl)
 refine aa.ef (by omega) (aa.df (by omega) ?_)
 rw [fQ (x:=((1:Nat):Int)) (by omega),fQ (x:=(n:Int)) (by omega)]
 refine Hb (by omega) ?_
 refine aa.df (by omega) (aa.df (by omega) ?_)
 refine aa.ef (by omega) ?_
 rw [aj (x:=(n:Int)) (by omega)]
 have main: ∀mx:Int,1≤mx→Ext Tryz.prog bW ⟨[.int .i64 (n:Int)]⟩ [kS] w fun r21 w_20=>
   bF r21 0 (n:Int) (n:Int) 1 fun s22=>
   aw Tryz.prog (Builtin.copy_ #[26,26] 3 ⟨[(.slice s22.base s22.len s22.cap),(.slice sb (1:Nat) sc)]⟩) kI w_20 fun (n24:Int) w_23=>
   ∃(I_25:Int→World→Prop) (m_26:Int→World→Nat),I_25 (n24) w_23∧
   ∀(bp27:Int),∀(w_28:World),I_25 bp27 w_28→
   aa (decide (bp27<(n:Int)))
   (ah w_28 fun w_29=>
   bF s22 bp27 (s22).len (s22).cap 1 fun s30=>
   bF s22 0 (if mx<bp27 then mx else bp27) (s22).cap 1 fun s31=>
   aw Tryz.prog (Builtin.copy_ #[26,26] 3 ⟨[(.slice s30.base s30.len s30.cap),(.slice s31.base s31.len s31.cap)]⟩) kI w_29 fun (n33:Int) w_32=>
   I_25 ((i64 (bp27+n33))) w_32∧m_26 ((i64 (bp27+n33))) w_32<m_26 bp27 w_28)
   (K (s22) w_28):=by
  intro mx hmx
  refine DQ h hn fun b cs w hcs h=> ?_
  refine ⟨by omega,by omega,by omega,by simp only;omega,?_⟩
  simp only [Int.toNat_natCast,Int.toNat_zero,Nat.sub_zero,if_neg h0,Option.map_some,Nat.zero_mul,al,Nat.zero_add]
  have hs1:=h.av hs.cons
  refine oz (s:=⟨sb,1,sc⟩) (ys:= [.int .u8 (c:Int)]) zD I9 h hs1 (by simp [ay]) (by omega) fun w h=> ?_
  have e0:(⟨cs.toList.take 0++(([.int .u8 (c:Int)]:List Value).take n++cs.toList.drop (0+min ([.int .u8 (c:Int)]:List Value).length n))⟩:Array Value)=⟨(List.replicate 1 c).map vB++cs.toList.drop 1⟩:=by
   rw [List.take_zero,List.nil_append,List.take_of_length_le (by simp;omega),show min ([.int .u8 (c:Int)]:List Value).length n=1 by simp;omega,Nat.zero_add]
   rfl
  rw [e0] at h
  rw [show ((min ([.int .u8 (c:Int)]:List Value).length n:Nat):Int)=((1:Nat):Int) by congr 1;simp;omega]
  refine ⟨fun bp w'=> ∃k:Nat,bp=(k:Int)∧1≤k∧k≤n∧Hp E w' (ao b (.cells ⟨(List.replicate k c).map vB++cs.toList.drop k⟩ 5 (0,0))::F),fun bp _=>n - bp.toNat,⟨1,rfl,by omega,by omega,h⟩,?_⟩
  rintro bp w ⟨k,rfl,hk1,hkn,h⟩
  have hsz:(⟨(List.replicate k c).map vB++cs.toList.drop k⟩:Array Value).size=cs.size:=by simp;omega
  (first|refine aa.dm (fun hb=> ?_) (fun hb=> ?_)|refine aa.em (fun hb=> ?_) (fun hb=> ?_)|refine aa.nm (fun hb=> ?_) (fun hb=> ?_)|refine aa.mk (fun hb=> ?_) (fun hb=> ?_))
  ·obtain ⟨q,hq,hq1,hqk⟩: ∃q:Nat,(if mx<(k:Int) then mx else (k:Int))=(q:Int)∧1≤q∧q≤k:=by
    by_cases hm:mx<(k:Int)
    ·rw [if_pos hm];exact ⟨mx.toNat,by omega,by omega,by omega⟩
    ·rw [if_neg hm];exact ⟨k,rfl,hk1,Nat.le_refl _⟩
   rw [hq]
   refine ah.mk h fun w h=> ?_
   dsimp only
   refine ⟨by omega,by omega,by omega,by dsimp only;omega,?_⟩
   rw [if_neg (by omega)]
   simp only [Int.toNat_natCast,Option.map_some,al,Nat.zero_add,Nat.mul_one]
   refine ⟨by omega,by omega,by omega,by dsimp only;omega,?_⟩
   rw [if_neg (by simp only [Int.toNat_natCast,Int.toNat_zero];omega)]
   simp only [Int.toNat_natCast,Int.toNat_zero,Nat.sub_zero,Option.map_some,al,Nat.zero_add,Nat.zero_mul]
   have hsrc:aG 1 ⟨some ⟨b,0,none⟩,q,n⟩ ((List.replicate q c).map vB) w:=h.J8 (by simp) (fun i hi=>by
    simp at hi
    simp [List.getElem?_append,show i<k by omega])
   refine oz (ys:=(List.replicate q c).map vB) zD I9 h hsrc lq (by rw [hsz];omega) fun w h=> ?_
   have hlen:((List.replicate q c).map vB).length=q:=by simp
   rw [hlen] at h⊢
   have e1:(⟨(⟨(List.replicate k c).map vB++cs.toList.drop k⟩:Array Value).toList.take k++(((List.replicate q c).map vB).take (n - k)++(⟨(List.replicate k c).map vB++cs.toList.drop k⟩:Array Value).toList.drop (k+min q (n - k)))⟩:Array Value)
     =⟨(List.replicate (k+min q (n - k)) c).map vB++cs.toList.drop (k+min q (n - k))⟩:=by
    dsimp only
    rw [List.take_left' (by simp),←List.map_take,List.take_replicate,List.drop_append,List.drop_of_length_le (by simp),List.nil_append,List.drop_drop,←List.append_assoc,←List.map_append,List.replicate_append_replicate]
    simp only [List.length_map,List.length_replicate]
    rw [show k+(k+min q (n - k) - k)=k+min q (n - k) by omega,Nat.min_comm (n - k) q]
   rw [e1] at h
   rw [aj (by omega)]
   refine ⟨⟨k+min q (n - k),by omega,by omega,by omega,h⟩,by omega⟩
  ·have hk:k=n:=by omega
   subst hk
   refine hK _ _ (h.kh (by simp) rfl (by simp) (by simp<;>omega) fun i hi=> ?_)
   simp at hi
   simp [List.getElem?_append,hi]
 by_cases hbig:(n:Int)>8192
 ·refine aa.dt hbig ⟨by omega,?_⟩
  refine aa.ef (by decide) ?_
  exact main _ (by decide)
 ·exact aa.df hbig (main _ (by omega))
end
end Go.Proofs.YtgglghjnakclmaaGreat
namespace Go.Proofs.YtgglghjnakclmaaGreat
open Go Go.Vc
set_option maxRecDepth 100000
theorem Fx.ok (R:(Array Value)→World→Prop) w (h:
 Nw 110 ⟨List.replicate 256 (.int .u8 0)⟩ w fun b a=>
 gx 0 a fun c d (e:Int) f=>
 aa (decide (e<256))
 (aC ⟨b,0,none⟩ 256 e 1 fun g=>
 St g (.int .u8 (u8 e)) f fun h=>
 c (i64 (e+1)) h∧d (i64 (e+1)) h<d e f)
 (Ld (.arr 256) ⟨b,0,none⟩ f fun i=>
 aq 256 ⟨b,0,none⟩ i f fun j=>
 Ld (.arr 256) ⟨b,0,none⟩ j fun k=>
 R k j)):Cl Pg [(.arr 256)] od ⟨[]⟩ w R:=co Tryz.f174 [(5,[(2,kI)])] h
theorem BN.ok (a:(Array Value)) (R:Bool→World→Prop) w (h:
 Nw 110 a w fun c b=>
 Nw 351 ⟨List.replicate 256 (ni 0)⟩ b fun e d=>
 Ld (.arr 256) ⟨c,0,none⟩ d fun f=>
 gx 0 d fun g h (i:Int) j=>
 aa (decide (i<256))
 (gg (.int .u8) f 256 i fun (k:Int)=>
 aC ⟨e,0,none⟩ 256 k 1 fun l=>
 St l (ni 1) j fun m=>
 g (i64 (i+1)) m∧h (i64 (i+1)) m<h i j)
 (fN j fun n o=>
 ad (.arr 256) ⟨e,0,none⟩ n fun p=>
 Cl Pg [(.arr 256)] nz ⟨[]⟩ o fun r q=>
 n q∧
 rB .i64 256 p r fun s=>
 R s q)):Cl Pg [kB] lK ⟨[(.agg a)]⟩ w R:=co Tryz.f237 [(7,[(7,kI)])] h
theorem CT.ok (a:(Array Value)) (b:Int) (R:(Array Value)→Int→Bool→World→Prop) w (h:
 Nw 110 a w fun d c=>
 Nw 110 ⟨List.replicate 256 (.int .u8 0)⟩ c fun f e=>
 aa (decide (b<0))
 (Ld (.arr 256) ⟨d,0,none⟩ e fun g=>
 aq 256 ⟨f,0,none⟩ g e fun h=>
 Ld (.arr 256) ⟨f,0,none⟩ h fun i=>
 R i 0 false h)
 (aa (decide (b≥256))
 (Ld (.arr 256) ⟨d,0,none⟩ e fun j=>
 aq 256 ⟨f,0,none⟩ j e fun k=>
 Ld (.arr 256) ⟨f,0,none⟩ k fun l=>
 R l 0 false k)
 (ah e fun m=>
 Ld (.arr 256) ⟨d,0,none⟩ m fun n=>
 aC ⟨d,0,none⟩ 256 b 1 fun o=>
 Ld (az .u8) o m fun (p:Int)=>
 aq 256 ⟨f,0,none⟩ n m fun q=>
 ah q fun r=>
 bF (⟨some ⟨f,0,none⟩,256,256⟩:Sl) 1 (i64 (b+1)) 256 1 fun s=>
 bF (⟨some ⟨d,0,none⟩,256,256⟩:Sl) 0 b 256 1 fun t=>
 aw Pg (Builtin.copy_ #[26,26] 3 ⟨[(an s),(an t)]⟩) kI r fun (v:Int) u=>
 aC ⟨f,0,none⟩ 256 0 1 fun x=>
 St x (.int .u8 p) u fun y=>
 Ld (.arr 256) ⟨f,0,none⟩ y fun z=>
 aq 256 ⟨f,0,none⟩ z y fun a1=>
 Ld (.arr 256) ⟨f,0,none⟩ a1 fun b1=>
 R b1 p true a1))):Cl Pg [(.arr 256),(az .u8),kB] mQ ⟨[(.agg a),(ni b)]⟩ w R:=co Tryz.f240 [] h
theorem Ef.ok (R:(Array Value)→World→Prop) w (h:
 Nw 351 ⟨List.replicate 256 (ni 0)⟩ w fun b a=>
 gx 0 a fun c d (e:Int) f=>
 aa (decide (e<256))
 (aC ⟨b,0,none⟩ 256 e 1 fun g=>
 St g (ni 1) f fun h=>
 c (i64 (e+1)) h∧d (i64 (e+1)) h<d e f)
 (Ld (.arr 256) ⟨b,0,none⟩ f fun i=>
 aq 256 ⟨b,0,none⟩ i f fun j=>
 Ld (.arr 256) ⟨b,0,none⟩ j fun k=>
 R k j)):Cl Pg [(.arr 256)] nz ⟨[]⟩ w R:=co Tryz.f291 [(5,[(2,kI)])] h
end Go.Proofs.YtgglghjnakclmaaGreat
namespace Go.Proofs.YtgglghjnakclmaaGreat
open Go Go.Vc
set_option maxRecDepth 100000
theorem yg.ok (a:Int) (b:Int) (c:Int) (R:Int→Int→World→Prop) w (h:
 bg (fun (e:World)=>
 0≤b∧
 aa (decide ((i64 (a+(a9 .i64 (i64 ((1:Int)+c)) b)))>2147483647))
 (R 0 2 e)
 (R (i64 (a+(a9 .i64 (i64 ((1:Int)+c)) b))) 0 e)) fun d=>
 aa (decide (a<0))
 (R 0 2 w)
 (aa (decide (a>2147483647))
 (R 0 2 w)
 (aa (decide (b<0))
 (R 0 2 w)
 (aa (decide (b>30))
 (R 0 2 w)
 (aa (c !=0)
 (aa (c !=1)
 (R 0 2 w)
 (d w))
 (d w)))))):Cl Pg [kI,kI] gJ ⟨[(ni a),(ni b),(ni c)]⟩ w R:=co Tryz.f238 [(2,[])] h
end Go.Proofs.YtgglghjnakclmaaGreat
set_option maxRecDepth 20000
namespace Go.Sym
open Go.Inc
def bu (L:List Nat) (p:Nat):List Nat:=L.getD p 0::L.eraseIdx p
theorem nv {L:List Nat} {p:Nat} (hp:p<L.length):(bu L p).Perm L:=by
 unfold bu
 have e:L.getD p 0=L[p]:=by simp [List.getD,hp]
 rw [e]
 rw [List.eraseIdx_eq_take_drop_succ]
 have h2:L.take p++L[p]::L.drop (p+1)=L:=by rw [List.getElem_cons_drop,List.take_append_drop]
 exact List.perm_middle.symm.trans (List.Perm.of_eq h2)
theorem Bt {L:List Nat} {p:Nat} (hp:p<L.length):(bu L p).length=L.length:=(nv hp).length_eq
def a7 (L:List Nat):Prop:=L.Perm (List.range 256)
theorem a7.len {L:List Nat} (h:a7 L):L.length=256:=by rw [h.length_eq,List.length_range]
theorem a7.mem {L:List Nat} (h:a7 L) {c:Nat}:c∈L↔c<256:=by rw [h.mem_iff,List.mem_range]
theorem a7.nodup {L:List Nat} (h:a7 L):L.Nodup:=h.nodup_iff.2 List.nodup_range
theorem a7.take {L:List Nat} (h:a7 L) {p:Nat} (hp:p<256):a7 (bu L p):=(nv (by rw [h.len];exact hp)).trans h
theorem a7.range:a7 (List.range 256):=List.Perm.refl _
theorem a7.get {L:List Nat} (h:a7 L) {p:Nat} (hp:p<256):L.getD p 0<256:=by
 have hl:=h.len
 have:L.getD p 0=L[p]:=by simp [List.getD,hl,hp]
 rw [this]
 exact h.mem.1 (List.getElem_mem _)
theorem a7.idx {L:List Nat} (h:a7 L) {c:Nat} (hc:c<256):L.idxOf c<256∧L.getD (L.idxOf c) 0=c:=by
 have hm:=h.mem.2 hc
 have hl:=h.len
 have h1:=List.idxOf_lt_length_of_mem hm
 refine ⟨by omega,?_⟩
 rw [List.getD,List.getElem?_eq_getElem h1,List.getElem_idxOf h1];rfl
theorem a7.kG {L:List Nat} (h:a7 L) {p:Nat} (hp:p<256):L.idxOf (L.getD p 0)=p:=by
 have hl:=h.len
 have e:L.getD p 0=L[p]:=by simp [List.getD,hl,hp]
 have h1:=h.idx (h.get hp)
 have e2:L[L.idxOf (L.getD p 0)]'(by omega)=L[p]:=by
  have:=h1.2
  rw [List.getD,List.getElem?_eq_getElem (by omega)] at this
  exact this.trans e
 exact (List.getElem_inj h.nodup).1 e2
def fM (n:Nat):List Nat:=if _h:n=0 then [] else (n - 1) % 2::fM ((n - 1)/2)
termination_by n
decreasing_by omega
theorem kQ:fM 0= []:=by rw [fM];simp
theorem kn {n:Nat} (h:0<n):fM n=(n - 1) % 2::fM ((n - 1)/2):=by rw [fM,dif_neg (by omega)]
theorem zp (n:Nat): ∀d∈fM n,d<2:=by
 induction n using Nat.strongRecOn with
 |ind n ih=>
  rcases Nat.eq_zero_or_pos n with e|e
  ·rw [e,kQ];simp
  ·rw [kn e]
   intro d hd
   rcases List.mem_cons.1 hd with h|h
   ·omega
   ·exact ih _ (by omega) d h
def cb:List Nat→Nat→List Nat→List Nat×List Nat×Nat
 |L,r,[]=>([],L,r)
 |L,r,c::b=>
  if L.idxOf c=0 then cb (bu L 0) (r+1) b
  else
   let x:=cb (bu L (L.idxOf c)) 0 b
   (fM r++(L.idxOf c+1)::x.1,x.2)
def cg (L:List Nat) (r:Nat) (b:List Nat):List Nat:=(cb L r b).1++fM (cb L r b).2.2++ [257]
def syms (b:List Nat):List Nat:=cg (List.range 256) 0 b
theorem ic (L:List Nat) (r:Nat):cg L r []=fM r++ [257]:=by simp [cg,cb]
theorem gK {L:List Nat} {r c:Nat} {b:List Nat} (h:L.idxOf c=0):cg L r (c::b)=cg (bu L 0) (r+1) b:=by
 unfold cg;rw [cb,if_pos h]
theorem iw {L:List Nat} {r c:Nat} {b:List Nat} (h:L.idxOf c≠0):cg L r (c::b)=fM r++(L.idxOf c+1)::cg (bu L (L.idxOf c)) 0 b:=by
 unfold cg;rw [cb,if_neg h];simp
structure DS where
 L:List Nat
 left:Nat
 run:Nat
 digits:Nat
def bX (d:DS) (s:Nat):Option (DS×List Nat×Bool):=
 if s<2 then
  if d.run+(1+s)*2^d.digits≤d.left then some (⟨d.L,d.left,d.run+(1+s)*2^d.digits,d.digits+1⟩,[],false) else none
 else if s=257 then
  if d.run=d.left then some (⟨d.L,0,0,0⟩,List.replicate d.run (d.L.getD 0 0),true) else none
 else if d.run=d.left then none
 else some (⟨bu d.L (s - 1),d.left - (d.run+1),0,0⟩,List.replicate d.run (d.L.getD 0 0)++ [d.L.getD (s - 1) 0],false)
def gI (d:DS×List Nat) (s:Nat):u7 (DS×List Nat) (List Nat) Nat:=match bX d.1 s with
 |none=> .bad 160
 |some (_,t,true)=> .fin (d.2++t)
 |some (d',t,false)=> .more (d',d.2++t)
theorem qp {d d':DS} {acc t:List Nat} {s:Nat} (h:bX d s=some (d',t,false)):gI (d,acc) s= .more (d',acc++t):=by unfold gI;rw [h]
theorem yJ {d d':DS} {acc t:List Nat} {s:Nat} (h:bX d s=some (d',t,true)):gI (d,acc) s= .fin (acc++t):=by unfold gI;rw [h]
theorem Fy {d:DS} {acc:List Nat} {s:Nat} (h:bX d s=none):gI (d,acc) s= .bad 160:=by unfold gI;rw [h]
theorem wo (L:List Nat) (left:Nat) (acc rest:List Nat): ∀(n q k:Nat),q+n*2^k≤left→∃k',run gI (⟨L,left,q,k⟩,acc) (fM n++rest)=run gI (⟨L,left,q+n*2^k,k'⟩,acc) rest:=by
 intro n
 induction n using Nat.strongRecOn with
 |ind n ih=>
  intro q k hle
  rcases Nat.eq_zero_or_pos n with e|e
  ·subst e
   exact ⟨k,by rw [kQ];simp⟩
  ·rw [kn e]
   have hs:(1+(n - 1) % 2)*2^k+(n - 1)/2*2^(k+1)=n*2^k:=by
    rw [Nat.pow_succ,Nat.mul_comm (2^k) 2,←Nat.mul_assoc,←Nat.add_mul]
    congr 1;omega
   obtain ⟨k',h⟩:=ih ((n - 1)/2) (by omega) (q+(1+(n - 1) % 2)*2^k) (k+1) (by omega)
   refine ⟨k',?_⟩
   have h1:bX ⟨L,left,q,k⟩ ((n - 1) % 2)=some (⟨L,left,q+(1+(n - 1) % 2)*2^k,k+1⟩,[],false):=by
    unfold bX
    simp only
    rw [if_pos (by omega),if_pos (by omega)]
   rw [List.cons_append,cF (qp h1),List.append_nil,h]
   congr 3
   omega
theorem nc {L:List Nat} (hL:a7 L) {c:Nat} (hc:c<256) (h:L.idxOf c=0):L.getD 0 0=c∧bu L 0=L:=by
 have:=(hL.idx hc).2
 rw [h] at this
 refine ⟨this,?_⟩
 unfold bu
 cases L with
 |nil=>have:=hL.len;simp at this
 |cons x L=>rfl
theorem nX: ∀(b L:List Nat) (r left:Nat) (acc rest:List Nat),a7 L→(∀x∈b,x<256)→left=r+b.length→
  run gI (⟨L,left,0,0⟩,acc) (cg L r b++rest)= .fin (acc++List.replicate r (L.getD 0 0)++b) rest
 | [],L,r,left,acc,rest,hL,_,hl=>by
  rw [ic,List.append_assoc]
  obtain ⟨k',h⟩:=wo L left acc ([257]++rest) r 0 0 (by simp at hl;omega)
  rw [h]
  have h1:bX ⟨L,left,0+r*2^0,k'⟩ 257=some (⟨L,0,0,0⟩,List.replicate r (L.getD 0 0),true):=by
   unfold bX
   simp only [Nat.zero_add,Nat.pow_zero,Nat.mul_one]
   rw [if_neg (by decide),if_pos trivial,if_pos (by simp at hl;omega)]
  show run gI _ (257::rest)=_
  rw [sZ (yJ h1)]
  simp
 |c::b,L,r,left,acc,rest,hL,hb,hl=>by
  have hc:=hb c List.mem_cons_self
  have hb': ∀x∈b,x<256:=fun x hx=>hb x (List.mem_cons_of_mem _ hx)
  simp only [List.length_cons] at hl
  by_cases h0:L.idxOf c=0
  ·obtain ⟨e1,e2⟩:=nc hL hc h0
   rw [gK h0,e2,nX b L (r+1) left acc rest hL hb' (by omega),e1,List.replicate_succ']
   simp
  ·obtain ⟨i1,i2⟩:=hL.idx hc
   rw [iw h0,List.append_assoc]
   obtain ⟨k',h⟩:=wo L left acc ((L.idxOf c+1)::cg (bu L (L.idxOf c)) 0 b++rest) r 0 0 (by omega)
   rw [h]
   have h1:bX ⟨L,left,0+r*2^0,k'⟩ (L.idxOf c+1)=some (⟨bu L (L.idxOf c),left - (r+1),0,0⟩,List.replicate r (L.getD 0 0)++ [c],false):=by
    unfold bX
    simp only [Nat.zero_add,Nat.pow_zero,Nat.mul_one,Nat.add_sub_cancel,i2]
    rw [if_neg (by omega),if_neg (by omega),if_neg (by omega)]
   rw [List.cons_append,cF (qp h1)]
   rw [nX b (bu L (L.idxOf c)) 0 (left - (r+1)) _ rest (hL.take i1) hb' (by omega)]
   simp
theorem CQ {b:List Nat} (hb: ∀x∈b,x<256) (rest:List Nat):run gI (⟨List.range 256,b.length,0,0⟩,[]) (syms b++rest)= .fin b rest:=by
 unfold syms
 rw [nX b _ 0 b.length [] rest a7.range hb (by omega)]
 simp
theorem lV: ∀(b L:List Nat) (r:Nat),a7 L→(∀x∈b,x<256)→∀s∈cg L r b,s≤257
 | [],L,r,_,_=>fun s hs=>by
  rw [ic] at hs
  rcases List.mem_append.1 hs with h|h
  ·have:=zp _ s h;omega
  ·rw [List.mem_singleton] at h;omega
 |c::b,L,r,hL,hb=>fun s hs=>by
  have hc:=hb c List.mem_cons_self
  have hb': ∀x∈b,x<256:=fun x hx=>hb x (List.mem_cons_of_mem _ hx)
  obtain ⟨i1,_⟩:=hL.idx hc
  by_cases h0:L.idxOf c=0
  ·rw [gK h0] at hs
   exact lV b _ (r+1) (hL.take (by decide)) hb' s hs
  ·rw [iw h0] at hs
   rcases List.mem_append.1 hs with h|h
   ·have:=zp _ s h;omega
   ·rcases List.mem_cons.1 h with h|h
    ·omega
    ·exact lV b _ 0 (hL.take i1) hb' s h
theorem oX {b:List Nat} (hb: ∀x∈b,x<256): ∀s∈syms b,s≤257:=lV b _ 0 a7.range hb
end Go.Sym
namespace Go.Vc
theorem xT {n:Nat} {f:Nat→Int}:(cK n f).toList.all ay=true:=by
 unfold cK
 rw [List.all_map]
 exact List.all_eq_true.2 fun _ _=>rfl
theorem td {n:Nat}:cK n (fun _=>0)=⟨List.replicate n (.int .i64 0)⟩:=by
 unfold cK
 rw [List.map_const',List.length_range]
theorem rB.row {n:Nat} {f g:Nat→Int} {K:Bool→Prop} (hK:K (((List.range n).map f)==((List.range n).map g))):rB .i64 n (cK n f) (cK n g) K:=
 ⟨(List.range n).map f,(List.range n).map g,by simp [cK],by simp [cK],by simp,by simp,hK⟩
end Go.Vc
namespace Go.Proofs.YtgglghjnakclmaaGreat
open Go Go.Vc Go.Inc Go.Sym
abbrev aY (l:List Nat):List Value:=l.map fun (n:Nat)=>Value.int .u8 (n:Int)
theorem eY {L:List Nat} (h:L.length=256):(aY L).length=256:=by simp [h]
theorem bS {l:List Nat}:(aY l).all ay=true:=by
 unfold aY
 rw [List.all_map]
 exact List.all_eq_true.2 fun _ _=>rfl
section
variable {E w:World} {F:List HP}
theorem F5:Tryz.prog.underlying 26=some (.slice 5):=by kernel_rfl
theorem GM:(Tryz.prog.info? 5).map (·.size)=some 1:=by kernel_rfl
set_option maxRecDepth 20000
theorem HT {K:Array Value→World→Prop} (h:Hp E w F) (hK: ∀w',Hp E w' F→K ⟨aY (List.range 256)⟩ w'):Cl Tryz.prog [.arr 256] od ⟨[]⟩ w K:=by
 refine Fx.ok _ _ ?_
 (try simp only [au,ak,al,Nat.zero_add,Nat.add_zero,Nat.reduceAdd,Bool.not_true,Bool.not_false,aH,aE,Option.isNone])
 refine Nw.mk h fun b2 w h=> ?_
 have hlen: ∀k,k≤256→(aY (List.range k++List.replicate (256 - k) 0)).length=256:=fun k hk=>by simp;omega
 refine ⟨fun i w'=> ∃k:Nat,i=(k:Int)∧k≤256∧Hp E w' (ao b2 (.cells ⟨aY (List.range k++List.replicate (256 - k) 0)⟩ 110 (0,0))::F),fun i _=>256 - i.toNat,⟨0,rfl,by omega,by
  have:(⟨aY (List.range 0++List.replicate (256 - 0) 0)⟩:Array Value)=⟨List.replicate 256 (.int .u8 0)⟩:=by simp
  rw [this];exact h⟩,?_⟩
 rintro i w ⟨k,rfl,hk,h⟩
 (first|refine aa.dm (fun hb=> ?_) (fun hb=> ?_)|refine aa.em (fun hb=> ?_) (fun hb=> ?_)|refine aa.nm (fun hb=> ?_) (fun hb=> ?_)|refine aa.mk (fun hb=> ?_) (fun hb=> ?_))
 ·refine ⟨by omega,by omega,?_⟩
  rw [show ((k:Int)).toNat*1=k by omega]
  (try simp only [au,ak,al,Nat.zero_add,Nat.add_zero,Nat.reduceAdd,Bool.not_true,Bool.not_false,aH,aE,Option.isNone])
  have hk:=hlen k (by omega)
  refine St.xb h (by simp;omega) rfl fun w h=> ?_
  rw [aj (by omega)]
  refine ⟨⟨k+1,rfl,by omega,?_⟩,by omega⟩
  have e:(⟨aY (List.range k++List.replicate (256 - k) 0)⟩:Array Value).setIfInBounds k (.int .u8 (u8 (k:Int)))=⟨aY (List.range (k+1)++List.replicate (256 - (k+1)) 0)⟩:=by
   rw [eb (by omega)]
   apply Array.ext'
   rw [Array.toList_setIfInBounds]
   have:(aY (List.range k++List.replicate (256 - k) 0)).set k (.int .u8 (k:Int))=aY ((List.range k++List.replicate (256 - k) 0).set k k):=by rw [aY,aY,List.map_set]
   rw [this,List.set_append_right _ _ (by simp),List.length_range,Nat.sub_self]
   obtain ⟨m,hm⟩: ∃m,256 - k=m+1:=⟨255 - k,by omega⟩
   rw [hm,List.replicate_succ,List.set_cons_zero,List.range_succ,show 256 - (k+1)=m by omega]
   simp
  rw [e] at h
  exact h
 ·have hk2:k=256:=by omega
  subst hk2
  have e:(⟨aY (List.range 256++List.replicate (256 - 256) 0)⟩:Array Value)=⟨aY (List.range 256)⟩:=by simp
  rw [e] at h
  have hn:(⟨aY (List.range 256)⟩:Array Value).size=256:=by simp
  refine Ld.xw h hn ?_
  refine aq.q h hn hn bS fun w h=> ?_
  exact Ld.xw h hn (hK _ h.tl)
theorem HW {K:Array Value→World→Prop} (h:Hp E w F) (hK: ∀w',Hp E w' F→K (cK 256 fun _=>1) w'):Cl Tryz.prog [.arr 256] nz ⟨[]⟩ w K:=by
 refine Ef.ok _ _ ?_
 (try simp only [au,ak,al,Nat.zero_add,Nat.add_zero,Nat.reduceAdd,Bool.not_true,Bool.not_false,aH,aE,Option.isNone])
 refine Nw.mk h fun b2 w h=> ?_
 refine ⟨fun i w'=> ∃k:Nat,i=(k:Int)∧k≤256∧Hp E w' (ao b2 (.cells (cK 256 fun j=>if j<k then 1 else 0) 351 (0,0))::F),fun i _=>256 - i.toNat,⟨0,rfl,by omega,by
  rw [eF (g:=fun _=>0) (fun i _=>by simp),td];exact h⟩,?_⟩
 rintro i w ⟨k,rfl,hk,h⟩
 (first|refine aa.dm (fun hb=> ?_) (fun hb=> ?_)|refine aa.em (fun hb=> ?_) (fun hb=> ?_)|refine aa.nm (fun hb=> ?_) (fun hb=> ?_)|refine aa.mk (fun hb=> ?_) (fun hb=> ?_))
 ·refine ⟨by omega,by omega,?_⟩
  rw [show ((k:Int)).toNat*1=k by omega]
  (try simp only [au,ak,al,Nat.zero_add,Nat.add_zero,Nat.reduceAdd,Bool.not_true,Bool.not_false,aH,aE,Option.isNone])
  refine St.xb h (by rw [cO];omega) rfl fun w h=> ?_
  rw [aj (by omega)]
  refine ⟨⟨k+1,rfl,by omega,?_⟩,by omega⟩
  rw [mW] at h
  rw [eF (g:=fun j=>if j<k+1 then 1 else 0) (fun i _=>by
   by_cases h1:i=k
   ·subst h1;simp
   ·by_cases h2:i<k
    ·simp [h1,h2];omega
    ·simp [h1,h2];omega)] at h
  exact h
 ·have hk2:k=256:=by omega
  subst hk2
  rw [eF (g:=fun _=>1) (fun i hi=>by simp [hi])] at h
  refine Ld.xw h cO ?_
  refine aq.q h cO cO xT fun w h=> ?_
  exact Ld.xw h cO (hK _ h.tl)
theorem BP {L:List Nat} {K:Bool→World→Prop} (h:Hp E w F) (hL:a7 L) (hK: ∀w',Hp E w' F→K true w'):Cl Tryz.prog [kB] lK ⟨[.agg ⟨aY L⟩]⟩ w K:=by
 have hl:=hL.len
 have hlt: ∀x∈L,x<256:=fun x hx=>by simpa using hL.mem_iff.1 hx
 refine BN.ok _ _ _ ?_
 (try simp only [au,ak,al,Nat.zero_add,Nat.add_zero,Nat.reduceAdd,Bool.not_true,Bool.not_false,aH,aE,Option.isNone])
 have hn:(⟨aY L⟩:Array Value).size=256:=by simp [hl]
 refine Nw.mk h fun b3 w h=>Nw.mk h fun b5 w h=>Ld.xw h hn ?_
 refine ⟨fun i w'=> ∃k:Nat,i=(k:Int)∧k≤256∧Hp E w' (ao b5 (.cells (cK 256 fun j=>if j∈L.take k then 1 else 0) 351 (0,0))::ao b3 (.cells ⟨aY L⟩ 110 (0,0))::F),fun i _=>256 - i.toNat,⟨0,rfl,by omega,by
  rw [eF (g:=fun _=>0) (fun i _=>by simp),td];exact h⟩,?_⟩
 rintro i w ⟨k,rfl,hk,h⟩
 (first|refine aa.dm (fun hb=> ?_) (fun hb=> ?_)|refine aa.em (fun hb=> ?_) (fun hb=> ?_)|refine aa.nm (fun hb=> ?_) (fun hb=> ?_)|refine aa.mk (fun hb=> ?_) (fun hb=> ?_))
 ·have hkl:k<L.length:=by omega
  refine gg.rd (s:= .int .u8) (by omega) (by omega) (L[k]:Int) ?_ ?_
  ·simp [hkl]
  have hx:=hlt _ (List.getElem_mem hkl)
  refine ⟨by omega,by omega,?_⟩
  rw [show ((L[k]:Int)).toNat*1=L[k] by omega]
  (try simp only [au,ak,al,Nat.zero_add,Nat.add_zero,Nat.reduceAdd,Bool.not_true,Bool.not_false,aH,aE,Option.isNone])
  refine St.xb h (by rw [cO];omega) rfl fun w h=> ?_
  rw [aj (by omega)]
  refine ⟨⟨k+1,rfl,by omega,?_⟩,by omega⟩
  rw [mW] at h
  rw [eF (g:=fun j=>if j∈L.take (k+1) then 1 else 0) (fun i _=>by
   have hmem:i∈L.take (k+1)↔i∈L.take k∨i=L[k]:=by
    rw [List.take_add_one,List.getElem?_eq_getElem hkl,List.mem_append]
    exact or_congr Iff.rfl List.mem_singleton
   by_cases h1:i=L[k]
   ·rw [if_pos h1,if_pos (hmem.2 (.inr h1))]
   ·rw [if_neg h1]
    by_cases h2:i∈L.take k
    ·rw [if_pos h2,if_pos (hmem.2 (.inl h2))]
    ·rw [if_neg h2,if_neg (fun hh=>(hmem.1 hh).elim h2 h1)])] at h
  exact h
 ·have hk2:k=256:=by omega
  subst hk2
  rw [eF (g:=fun _=>1) (fun i hi=>by
   rw [List.take_of_length_le (by omega),if_pos]
   exact hL.mem_iff.2 (by simpa using hi))] at h
  have h:=h.drew (n:=w.drawn+1)
  refine ⟨cr b5 _ _ _,h.hb,?_⟩
  dsimp only
  refine ad.xw (fun _ h=>h) cO ?_
  refine HW h fun w h=>⟨h.hb,?_⟩
  refine rB.row ?_
  rw [beq_self_eq_true]
  exact hK _ h.tl
theorem Ew {L:List Nat} {p:Nat} (hl:L.length=256) (hp:p<256):((aY L).take 1++((aY (L.take p)).take p++(aY L).drop (1+min (aY (L.take p)).length p))).set 0 (.int .u8 (L.getD p 0:Int))=aY (bu L p):=by
 have e1:(aY (L.take p)).length=p:=by simp;omega
 rw [e1,Nat.min_self,List.take_of_length_le (l:=aY (L.take p)) (by omega),Nat.add_comm 1 p]
 unfold bu
 rw [List.eraseIdx_eq_take_drop_succ]
 cases L with
 |nil=>simp at hl
 |cons a L=>simp [aY,List.map_take,List.map_drop]
theorem Ff {L:List Nat} {p:Nat} {K:Array Value→Int→Bool→World→Prop} (h:Hp E w F) (hl:L.length=256) (hp:p<256) (hK: ∀w',Hp E w' F→K ⟨aY (bu L p)⟩ (L.getD p 0:Int) true w'):
  Cl Tryz.prog [.arr 256,az .u8,kB] mQ ⟨[.agg ⟨aY L⟩,.int .i64 (p:Int)]⟩ w K:=by
 refine CT.ok _ _ _ _ ?_
 (try simp only [au,ak,al,Nat.zero_add,Nat.add_zero,Nat.reduceAdd,Bool.not_true,Bool.not_false,aH,aE,Option.isNone])
 have hn:(⟨aY L⟩:Array Value).size=256:=by simp [hl]
 have hz:(⟨List.replicate 256 (.int .u8 0)⟩:Array Value).size=256:=by simp
 have hpl:p<L.length:=by omega
 refine Nw.mk h fun b4 w h=>Nw.mk h fun b6 w h=> ?_
 (with_reducible repeat first|refine Nw.mk h fun b w h=> ?_|refine ah.mk h fun w h=> ?_|refine Ld.q h hL rfl rfl ?_|refine ad.q (fun _ h=>h) hL rfl rfl ?_|refine Ld.p h hL ?_|refine ad.p (fun _ h=>h) hL ?_|refine Ld.qw h hL rfl ?_|refine ad.qw (fun _ h=>h) hL rfl ?_|refine ⟨h.hb,?_⟩|(refine St.q h hL rfl rfl rfl fun w h=> ?_;dsimp only [af,ab] at h)|refine aa.yes ?_|refine aa.no ?_|refine ⟨by first|omega|decide,?_⟩)
 refine Ld.xw h hn ?_
 refine ⟨by omega,by omega,?_⟩
 rw [show ((p:Int)).toNat*1=p by omega]
 (try simp only [au,ak,al,Nat.zero_add,Nat.add_zero,Nat.reduceAdd,Bool.not_true,Bool.not_false,aH,aE,Option.isNone])
 refine Ld.xb (x:=(L.getD p 0:Int)) h ?_ ?_
 ·simp [List.getD_eq_getElem?_getD,hpl]
 refine aq.q h hz hn bS fun w h=>ah.mk h fun w h=> ?_
 rw [aj (by omega)]
 refine ⟨by omega,by omega,by omega,by simp,?_⟩
 rw [if_neg (by simp),show (1:Int).toNat*1=1 by decide,show ((p:Int)+1).toNat - (1:Int).toNat=p by omega,show (256:Int).toNat - (1:Int).toNat=255 by decide]
 refine ⟨by omega,by omega,by omega,by simp,?_⟩
 rw [if_neg (by decide),show (0:Int).toNat*1=0 by decide,show ((p:Int)).toNat - (0:Int).toNat=p by omega,show (256:Int).toNat - (0:Int).toNat=256 by decide]
 simp only [Option.map_some,al,Nat.zero_add]
 have hsrc:aG 1 ⟨some ⟨b4,0,none⟩,p,256⟩ (aY (L.take p)) w:=by
  refine ⟨by simp;omega,fun i hi=>⟨⟨b4,0,none⟩,rfl,?_⟩⟩
  rw [al,h.fc]
  simp at hi⊢
  simp [show i<L.length by omega]
 refine oz (ys:=aY (L.take p)) F5 GM h hsrc (List.all_eq_true.1 bS) (by rw [hn];dsimp only;omega) fun w h=> ?_
 refine ⟨by omega,by omega,?_⟩
 rw [show ((0:Int)).toNat*1=0 by decide]
 (try simp only [au,ak,al,Nat.zero_add,Nat.add_zero,Nat.reduceAdd,Bool.not_true,Bool.not_false,aH,aE,Option.isNone])
 refine St.xb h (by simp;omega) rfl fun w h=> ?_
 have e:(⟨(⟨aY L⟩:Array Value).toList.take 1++((aY (L.take p)).take p++(⟨aY L⟩:Array Value).toList.drop (1+min (aY (L.take p)).length p))⟩:Array Value).setIfInBounds 0 (.int .u8 (L.getD p 0:Int))=⟨aY (bu L p)⟩:=by
  apply Array.ext'
  rw [Array.toList_setIfInBounds]
  exact Ew hl hp
 rw [e] at h
 have hm:(⟨aY (bu L p)⟩:Array Value).size=256:=by
  have:(bu L p).length=256:=by unfold bu;simp [List.length_eraseIdx,hpl];omega
  simp [this]
 refine Ld.xw h hm ?_
 refine aq.q h hm hm bS fun w h=> ?_
 exact Ld.xw h hm (hK _ h.tl)
theorem GF {n many d:Nat} {K:Int→Int→World→Prop} (hn:n≤65536) (hm:many≤16) (hd:d≤1) (hK:K ((n+(1+d)*2^many:Nat):Int) 0 w):
  Cl Tryz.prog [kI,kI] gJ ⟨[.int .i64 (n:Int),.int .i64 (many:Int),.int .i64 (d:Int)]⟩ w K:=by
 have hp:2^many≤65536:=Nat.pow_le_pow_right (n:=2) (by decide) hm
 have hpp:=Nat.two_pow_pos many
 have hb:(1+d)*2^many≤131072:=by
  have:=Nat.mul_le_mul (show 1+d≤2 by omega) hp
  omega
 refine yg.ok _ _ _ _ _ ?_
 have fin:0≤(many:Int)∧aa (decide (i64 ((n:Int)+a9 .i64 (i64 (1+(d:Int))) (many:Int))>2147483647)) (K 0 2 w) (K (i64 ((n:Int)+a9 .i64 (i64 (1+(d:Int))) (many:Int))) 0 w):=by
  refine ⟨by omega,?_⟩
  have hmx:IntKind.max .i64=9223372036854775807:=rfl
  rw [aj (x:=1+(d:Int)) (by omega),show 1+(d:Int)=((1+d:Nat):Int) by omega,cW (k:= .i64) (by have:IntKind.bits .i64=64:=rfl;omega) (by rw [hmx];omega),aj (by omega)]
  exact aa.df (by omega) (by rw [←Int.natCast_add];exact hK)
 (try simp only [au,ak,al,Nat.zero_add,Nat.add_zero,Nat.reduceAdd,Bool.not_true,Bool.not_false,aH,aE,Option.isNone])
 refine aa.df (by omega) (aa.df (by omega) (aa.df (by omega) (aa.df (by omega) ?_)))
 by_cases h0:d=0
 ·exact aa.nf (by omega) fin
 ·exact aa.nt (by omega) (aa.nf (by omega) fin)
end
end Go.Proofs.YtgglghjnakclmaaGreat
namespace Go.Sym
def jF (d:DS):Prop:=a7 d.L∧d.left≤65536∧d.run≤d.left∧2^d.digits - 1≤d.run∧d.run≤2*(2^d.digits - 1)
theorem jF.fM {d:DS} (h:jF d):d.digits≤16:=by
 obtain ⟨_,h2,h3,h4,_⟩:=h
 rcases Nat.lt_or_ge d.digits 17 with hh|hh
 ·omega
 ·have:2^17≤2^d.digits:=Nat.pow_le_pow_right (by decide) hh
  omega
set_option maxRecDepth 20000 in
theorem jF.zero {m:Nat} (hm:m≤65536):jF ⟨List.range 256,m,0,0⟩:=⟨.range,hm,by simp,by simp,by simp⟩
theorem yG {d d':DS} {s:Nat} {t:List Nat} (h:jF d) (hs:s<258) (he:bX d s=some (d',t,false)):jF d'∧(∀x∈t,x<256)∧t.length+d'.left≤d.left:=by
 obtain ⟨L,left,run,digits⟩:=d
 obtain ⟨h1,h2,h3,h4,h5⟩:=h
 unfold bX at he
 dsimp only at h1 h2 h3 h4 h5 he
 split at he
 ·split at he
  ·rename_i hs2 hle
   simp only [Option.some.injEq,Prod.mk.injEq] at he
   obtain ⟨rfl,rfl,_⟩:=he
   have hp:=Nat.two_pow_pos digits
   refine ⟨⟨h1,h2,hle,?_,?_⟩,by simp,by simp⟩
   ·dsimp only
    rw [Nat.pow_succ]
    have:=Nat.mul_le_mul_right (2^digits) (show 1≤1+s by omega)
    omega
   ·dsimp only
    rw [Nat.pow_succ]
    have:=Nat.mul_le_mul_right (2^digits) (show 1+s≤2 by omega)
    omega
  ·cases he
 ·split at he
  ·split at he
   ·simp at he
   ·cases he
  ·split at he
   ·cases he
   ·rename_i hs2 hs3 hne
    simp only [Option.some.injEq,Prod.mk.injEq] at he
    obtain ⟨rfl,rfl,_⟩:=he
    refine ⟨⟨h1.take (by omega),by dsimp only;omega,by simp,by simp,by simp⟩,?_,?_⟩
    ·intro x hx
     rcases List.mem_append.1 hx with hx|hx
     ·rw [(List.mem_replicate.1 hx).2];exact h1.get (by omega)
     ·rw [List.mem_singleton] at hx;rw [hx];exact h1.get (by omega)
    ·simp;omega
theorem CU {d d':DS} {s:Nat} {t:List Nat} (h:jF d) (he:bX d s=some (d',t,true)):(∀x∈t,x<256)∧t.length≤d.left:=by
 obtain ⟨L,left,run,digits⟩:=d
 obtain ⟨h1,h2,h3,h4,h5⟩:=h
 unfold bX at he
 dsimp only at h1 h2 h3 h4 h5 he
 split at he
 ·split at he
  ·simp at he
  ·cases he
 ·split at he
  ·split at he
   ·simp only [Option.some.injEq,Prod.mk.injEq] at he
    obtain ⟨rfl,rfl,_⟩:=he
    refine ⟨fun x hx=> ?_,by simp;omega⟩
    rw [(List.mem_replicate.1 hx).2];exact h1.get (by omega)
   ·cases he
  ·split at he
   ·cases he
   ·simp at he
end Go.Sym
namespace Go.Proofs.YtgglghjnakclmaaGreat
open Go Go.Vc Go.Inc Go.Sym
abbrev fF (L:List Nat) (left run digits:Int) (d:Bool):Array Value:=⟨aY L++ [.int .i64 left,.int .i64 run,.int .i64 digits,.bool d]⟩
theorem bk {L:List Nat} {a b c:Int} {d:Bool}:(fF L a b c d).toList.all ay=true:=by
 unfold fF
 rw [List.all_append,bS]
 rfl
theorem aV {L:List Nat} {a b c:Int} {d:Bool} (h:L.length=256):(fF L a b c d).size=260:=by simp [h]
section
variable {E w:World} {F:List HP}
theorem Ck:bZ Tryz.prog 26 5 1 1:=bZ.of (by kernel_rfl) (by kernel_rfl)
abbrev yI:Nat→Option (Nat×Nat):=(#[(0,256),(256,1),(257,1),(258,1),(259,1)][·]?)
theorem vD (ps:List (Nat×Value)):Tryz.prog.built 112 ps=Instr.fill yI ⟨List.replicate 256 (.int .u8 0)++ [.int .i64 0,.int .i64 0,.int .i64 0,.bool false]⟩ ps:=by kernel_rfl
theorem vW {L:List Nat} (hl:L.length=256) (rest:List (Nat×Value)):Instr.fill yI ⟨List.replicate 256 (.int .u8 0)++ [.int .i64 0,.int .i64 0,.int .i64 0,.bool false]⟩ ((0,.agg ⟨aY L⟩)::rest)=Instr.fill yI (fF L 0 0 0 false) rest:=by
 have:=fH (place:=yI) (i:=0) (v:= .agg ⟨aY L⟩) (rest:=rest) (pre:= []) (mid:=List.replicate 256 (.int .u8 0)) (post:= [.int .i64 0,.int .i64 0,.int .i64 0,.bool false]) rfl rfl List.length_replicate (by show (⟨aY L⟩:Array Value).size=_;simp [hl])
 exact this
theorem cf.Jk {L:List Nat} {m:Int} {K:Array Value→Prop} (hl:L.length=256) (hK:K (fF L m 0 0 false)):cf Tryz.prog 112 [(0,.agg ⟨aY L⟩),(1,.int .i64 m)] K:=by
 refine ⟨_,?_,hK⟩
 rw [vD,vW hl]
 have:=fH (place:=yI) (i:=1) (v:= .int .i64 m) (rest:= []) (pre:=aY L) (mid:= [.int .i64 0]) (post:= [.int .i64 0,.int .i64 0,.bool false]) rfl (by simp [hl]) rfl rfl
 unfold fF
 rw [show aY L++ [.int .i64 (0:Int),.int .i64 0,.int .i64 0,.bool false]=aY L++ [.int .i64 0]++ [.int .i64 0,.int .i64 0,.bool false] by simp,this]
 simp [Value.cells,Instr.fill]
theorem cf.J7 {L:List Nat} {K:Array Value→Prop} (hl:L.length=256) (hK:K (fF L 0 0 0 true)):cf Tryz.prog 112 [(0,.agg ⟨aY L⟩),(4,.bool true)] K:=by
 refine ⟨_,?_,hK⟩
 rw [vD,vW hl]
 have:=fH (place:=yI) (i:=4) (v:= .bool true) (rest:= []) (pre:=aY L++ [.int .i64 0,.int .i64 0,.int .i64 0]) (mid:= [.bool false]) (post:= []) rfl (by simp [hl]) rfl rfl
 unfold fF
 rw [show aY L++ [.int .i64 (0:Int),.int .i64 0,.int .i64 0,.bool false]=aY L++ [.int .i64 0,.int .i64 0,.int .i64 0]++ [.bool false]++ [] by simp,this]
 simp [Value.cells,Instr.fill]
set_option maxRecDepth 20000
theorem E4 {m:Nat} {K:Array Value→World→Prop} (h:Hp E w F) (hm:1≤m) (hm2:m≤65536) (hK: ∀w',Hp E w' F→K (fF (List.range 256) (m:Int) 0 0 false) w'):Cl Tryz.prog [.arr 260] ld ⟨[.int .i64 (m:Int)]⟩ w K:=by
 refine zW.ok _ _ _ ?_
 (try simp only [au,ak,al,Nat.zero_add,Nat.add_zero,Nat.reduceAdd,Bool.not_true,Bool.not_false,aH,aE,Option.isNone])
 refine Nw.mk h fun b3 w h=>aa.df (by omega) (aa.df (by omega) ?_)
 refine HT h fun w h=>cf.Jk (by simp) ?_
 have hz:(⟨List.replicate 256 (.int .u8 0)++ [.int .i64 0,.int .i64 0,.int .i64 0,.bool false]⟩:Array Value).size=260:=by simp
 have hd:(fF (List.range 256) (m:Int) 0 0 false).size=260:=aV (by simp)
 refine aq.q h hz hd bk fun w h=> ?_
 exact Ld.xw h hd (hK _ h.tl)
theorem Bz {d:DS} {K:Bool→World→Prop} (h:Hp E w F) (hd:jF d) (hK: ∀w',Hp E w' F→K true w'):Cl Tryz.prog [kB] iH ⟨[.agg (fF d.L (d.left:Int) (d.run:Int) (d.digits:Int) false)]⟩ w K:=by
 have hdig:=hd.fM
 obtain ⟨L,left,run,digits⟩:=d
 obtain ⟨h1,h2,h3,h4,h5⟩:=hd
 dsimp only at h1 h2 h3 h4 h5 hdig⊢
 have hL:=eY h1.len
 refine wK.ok _ _ _ ?_
 have hp:2^digits≤65536:=Nat.pow_le_pow_right (n:=2) (by decide) hdig
 have hpp:=Nat.two_pow_pos digits
 have e1:i64 (a9 .i64 1 (digits:Int) - 1)=((2^digits - 1:Nat):Int):=by
  have hmx:IntKind.max .i64=9223372036854775807:=rfl
  have:=cW (k:= .i64) (a:=1) (b:=digits) (by have:IntKind.bits .i64=64:=rfl;omega) (by rw [hmx];omega)
  have e0:a9 .i64 1 (digits:Int)=((2^digits:Nat):Int):=by simpa using this
  rw [e0,aj (by omega)];omega
 (try simp only [au,ak,al,Nat.zero_add,Nat.add_zero,Nat.reduceAdd,Bool.not_true,Bool.not_false,aH,aE,Option.isNone])
 (with_reducible repeat first|refine Nw.mk h fun b w h=> ?_|refine ah.mk h fun w h=> ?_|refine Ld.q h hL rfl rfl ?_|refine ad.q (fun _ h=>h) hL rfl rfl ?_|refine Ld.p h hL ?_|refine ad.p (fun _ h=>h) hL ?_|refine Ld.qw h hL rfl ?_|refine ad.qw (fun _ h=>h) hL rfl ?_|refine ⟨h.hb,?_⟩|(refine St.q h hL rfl rfl rfl fun w h=> ?_;dsimp only [af,ab] at h)|refine aa.yes ?_|refine aa.no ?_|refine ⟨by first|omega|decide,?_⟩)
 refine BP h h1 fun w h=> ?_
 (with_reducible repeat first|refine Nw.mk h fun b w h=> ?_|refine ah.mk h fun w h=> ?_|refine Ld.q h hL rfl rfl ?_|refine ad.q (fun _ h=>h) hL rfl rfl ?_|refine Ld.p h hL ?_|refine ad.p (fun _ h=>h) hL ?_|refine Ld.qw h hL rfl ?_|refine ad.qw (fun _ h=>h) hL rfl ?_|refine ⟨h.hb,?_⟩|(refine St.q h hL rfl rfl rfl fun w h=> ?_;dsimp only [af,ab] at h)|refine aa.yes ?_|refine aa.no ?_|refine ⟨by first|omega|decide,?_⟩)
 rw [e1]
 (with_reducible repeat first|refine Nw.mk h fun b w h=> ?_|refine ah.mk h fun w h=> ?_|refine Ld.q h hL rfl rfl ?_|refine ad.q (fun _ h=>h) hL rfl rfl ?_|refine Ld.p h hL ?_|refine ad.p (fun _ h=>h) hL ?_|refine Ld.qw h hL rfl ?_|refine ad.qw (fun _ h=>h) hL rfl ?_|refine ⟨h.hb,?_⟩|(refine St.q h hL rfl rfl rfl fun w h=> ?_;dsimp only [af,ab] at h)|refine aa.yes ?_|refine aa.no ?_|refine ⟨by first|omega|decide,?_⟩)
 rw [aj (by omega)]
 (with_reducible repeat first|refine Nw.mk h fun b w h=> ?_|refine ah.mk h fun w h=> ?_|refine Ld.q h hL rfl rfl ?_|refine ad.q (fun _ h=>h) hL rfl rfl ?_|refine Ld.p h hL ?_|refine ad.p (fun _ h=>h) hL ?_|refine Ld.qw h hL rfl ?_|refine ad.qw (fun _ h=>h) hL rfl ?_|refine ⟨h.hb,?_⟩|(refine St.q h hL rfl rfl rfl fun w h=> ?_;dsimp only [af,ab] at h)|refine aa.yes ?_|refine aa.no ?_|refine ⟨by first|omega|decide,?_⟩)
 exact hK _ h.tl
theorem yW {L:List Nat} {left digits:Int} {run:Nat} {d:Bool} {K:Sl→World→Prop} (h:Hp E w F) (hl:L.length=256) (hr:run≤65536) (hK: ∀s' w',Hp E w' (aA 1 s' ((List.replicate run (L.getD 0 0)).map vB)::F)→K s' w'):
  Cl Tryz.prog [kS] il ⟨[.agg (fF L left (run:Int) digits d)]⟩ w K:=by
 have hL:=eY hl
 refine AH.ok _ _ _ ?_
 (try simp only [au,ak,al,Nat.zero_add,Nat.add_zero,Nat.reduceAdd,Bool.not_true,Bool.not_false,aH,aE,Option.isNone])
 (with_reducible repeat first|refine Nw.mk h fun b w h=> ?_|refine ah.mk h fun w h=> ?_|refine Ld.q h hL rfl rfl ?_|refine ad.q (fun _ h=>h) hL rfl rfl ?_|refine Ld.p h hL ?_|refine ad.p (fun _ h=>h) hL ?_|refine Ld.qw h hL rfl ?_|refine ad.qw (fun _ h=>h) hL rfl ?_|refine ⟨h.hb,?_⟩|(refine St.q h hL rfl rfl rfl fun w h=> ?_;dsimp only [af,ab] at h)|refine aa.yes ?_|refine aa.no ?_|refine ⟨by first|omega|decide,?_⟩)
 refine ⟨by omega,by omega,by omega,by simp,?_⟩
 rw [if_neg (by decide)]
 simp only [Option.map_some,al,show (0:Int).toNat=0 from rfl,Nat.zero_mul,Nat.zero_add,show (1:Int).toNat=1 from rfl,show (256:Int).toNat=256 from rfl,Nat.sub_zero]
 (with_reducible repeat first|refine Nw.mk h fun b w h=> ?_|refine ah.mk h fun w h=> ?_|refine Ld.q h hL rfl rfl ?_|refine ad.q (fun _ h=>h) hL rfl rfl ?_|refine Ld.p h hL ?_|refine ad.p (fun _ h=>h) hL ?_|refine Ld.qw h hL rfl ?_|refine ad.qw (fun _ h=>h) hL rfl ?_|refine ⟨h.hb,?_⟩|(refine St.q h hL rfl rfl rfl fun w h=> ?_;dsimp only [af,ab] at h)|refine aa.yes ?_|refine aa.no ?_|refine ⟨by first|omega|decide,?_⟩)
 refine Eg (s:=⟨some ⟨b,0,none⟩,1,256⟩) (c:=L.getD 0 0) h ?_ hr fun s' w h=>hK _ _ (h.at 1).drop
 rintro w' f a ⟨g,k,hd,rfl,rfl,h2⟩
 refine ⟨rfl,fun i hi=>⟨⟨b,0,none⟩,rfl,?_⟩⟩
 have:w'.heap[b]? =some (.cells (fF L left (run:Int) digits d) 112 (0,0)):=a b _ (by simp [aM.add,aM.one])
 simp only [List.length_singleton] at hi
 have hi0:i=0:=by omega
 subst hi0
 rw [al]
 simp only [World.cell?,this]
 simp [List.getElem?_append,hl,List.getD_eq_getElem?_getD]
theorem Dz {d:DS} {s:Nat} {K:Array Value→Sl→Bool→World→Prop} (h:Hp E w F) (hd:jF d) (hs:s<258)
  (hn: ∀o sl w',bX d s=none→o.size=260→o.toList.all ay=true→Hp E w' F→K o sl false w')
  (hm: ∀d' t sl w',bX d s=some (d',t,false)→Hp E w' (aA 1 sl (t.map vB)::F)→K (fF d'.L (d'.left:Int) (d'.run:Int) (d'.digits:Int) false) sl true w')
  (he: ∀d' t sl w',bX d s=some (d',t,true)→Hp E w' (aA 1 sl (t.map vB)::F)→K (fF d.L 0 0 0 true) sl true w'):
  Cl Tryz.prog [.arr 260,kS,kB] jP ⟨[.agg (fF d.L (d.left:Int) (d.run:Int) (d.digits:Int) false),.int .i64 (s:Int)]⟩ w K:=by
 have hdig:=hd.fM
 obtain ⟨L,left,run,digits⟩:=d
 obtain ⟨h1,h2,h3,h4,h5⟩:=hd
 unfold bX at hn hm he
 dsimp only at h1 h2 h3 h4 h5 hdig hn hm he⊢
 have hl:=h1.len
 have hL:=eY hl
 have hz:(⟨List.replicate 256 (.int .u8 0)++ [.int .i64 0,.int .i64 0,.int .i64 0,.bool false]⟩:Array Value).size=260:=by simp
 have hp:2^digits≤65536:=Nat.pow_le_pow_right (n:=2) (by decide) hdig
 refine yl.ok _ _ _ _ ?_
 (try simp only [au,ak,al,Nat.zero_add,Nat.add_zero,Nat.reduceAdd,Bool.not_true,Bool.not_false,aH,aE,Option.isNone])
 refine Nw.mk h fun b4 w h=>Nw.mk h fun b6 w h=> ?_
 by_cases hs2:s<2
 ·simp only [if_pos hs2] at hn hm he
  have hb:(1+s)*2^digits≤131072:=by
   have:=Nat.mul_le_mul (show 1+s≤2 by omega) hp
   omega
  have fin: ∀w,Hp E w (ao b6 (.cells ⟨List.replicate 256 (.int .u8 0)++ [.int .i64 0,.int .i64 0,.int .i64 0,.bool false]⟩ 112 (0,0))::ao b4 (.cells (fF L (left:Int) (run:Int) (digits:Int) false) 112 (0,0))::F)→
   Ld kI ⟨b4,257,none⟩ w fun (Run10:Int)=>Ld kI ⟨b4,258,none⟩ w fun (Digits11:Int)=>
   Cl Tryz.prog [kI,kI] gJ ⟨[.int .i64 Run10,.int .i64 Digits11,.int .i64 (s:Int)]⟩ w fun r13 _ w_12=>
   St ⟨b4,257,none⟩ (.int .i64 r13) w_12 fun w_15=>Ld kI ⟨b4,258,none⟩ w_15 fun (Digits16:Int)=>St ⟨b4,258,none⟩ (.int .i64 (i64 (Digits16+1))) w_15 fun w_17=>
   fN w_17 fun S18 w_19=>ad (.arr 260) ⟨b4,0,none⟩ S18 fun x20=>ad kI ⟨b4,257,none⟩ S18 fun (Run21:Int)=>ad kI ⟨b4,256,none⟩ S18 fun (Left22:Int)=>
   aq 260 ⟨b6,0,none⟩ x20 w_19 fun w_23=>S18 w_23∧Ld (.arr 260) ⟨b6,0,none⟩ w_23 fun res24=>K res24 ⟨none,0,0⟩ (decide (Run21≤Left22)) w_23:=by
   intro w h
   (with_reducible repeat first|refine Nw.mk h fun b w h=> ?_|refine ah.mk h fun w h=> ?_|refine Ld.q h hL rfl rfl ?_|refine ad.q (fun _ h=>h) hL rfl rfl ?_|refine Ld.p h hL ?_|refine ad.p (fun _ h=>h) hL ?_|refine Ld.qw h hL rfl ?_|refine ad.qw (fun _ h=>h) hL rfl ?_|refine ⟨h.hb,?_⟩|(refine St.q h hL rfl rfl rfl fun w h=> ?_;dsimp only [af,ab] at h)|refine aa.yes ?_|refine aa.no ?_|refine ⟨by first|omega|decide,?_⟩)
   refine GF (by omega) hdig (by omega) ?_
   generalize (1+s)*2^digits=q at hb hm hn⊢
   (with_reducible repeat first|refine Nw.mk h fun b w h=> ?_|refine ah.mk h fun w h=> ?_|refine Ld.q h hL rfl rfl ?_|refine ad.q (fun _ h=>h) hL rfl rfl ?_|refine Ld.p h hL ?_|refine ad.p (fun _ h=>h) hL ?_|refine Ld.qw h hL rfl ?_|refine ad.qw (fun _ h=>h) hL rfl ?_|refine ⟨h.hb,?_⟩|(refine St.q h hL rfl rfl rfl fun w h=> ?_;dsimp only [af,ab] at h)|refine aa.yes ?_|refine aa.no ?_|refine ⟨by first|omega|decide,?_⟩)
   rw [aj (by omega)] at h
   have h:=h.drew (n:=w.drawn+1)
   refine ⟨cr b4 _ _ _,h.hb,?_⟩
   dsimp only
   (with_reducible repeat first|refine Nw.mk h fun b w h=> ?_|refine ah.mk h fun w h=> ?_|refine Ld.q h hL rfl rfl ?_|refine ad.q (fun _ h=>h) hL rfl rfl ?_|refine Ld.p h hL ?_|refine ad.p (fun _ h=>h) hL ?_|refine Ld.qw h hL rfl ?_|refine ad.qw (fun _ h=>h) hL rfl ?_|refine ⟨h.hb,?_⟩|(refine St.q h hL rfl rfl rfl fun w h=> ?_;dsimp only [af,ab] at h)|refine aa.yes ?_|refine aa.no ?_|refine ⟨by first|omega|decide,?_⟩)
   refine aq.q h hz (aV hl) bk fun w h=>⟨h.hb,?_⟩
   (with_reducible repeat first|refine Nw.mk h fun b w h=> ?_|refine ah.mk h fun w h=> ?_|refine Ld.q h hL rfl rfl ?_|refine ad.q (fun _ h=>h) hL rfl rfl ?_|refine Ld.p h hL ?_|refine ad.p (fun _ h=>h) hL ?_|refine Ld.qw h hL rfl ?_|refine ad.qw (fun _ h=>h) hL rfl ?_|refine ⟨h.hb,?_⟩|(refine St.q h hL rfl rfl rfl fun w h=> ?_;dsimp only [af,ab] at h)|refine aa.yes ?_|refine aa.no ?_|refine ⟨by first|omega|decide,?_⟩)
   by_cases hle:run+q≤left
   ·rw [if_pos hle] at hm
    exact dw (K:=fun b w=>K _ _ b w) (decide_eq_true (by omega)) (hm ⟨L,left,run+q,digits+1⟩ [] _ _ rfl (h.tl.aW 1))
   ·rw [if_neg hle] at hn
    exact dw (K:=fun b w=>K _ _ b w) (decide_eq_false (by omega)) (hn _ _ _ rfl (aV hl) bk h.tl)
  by_cases h0:s=0
  ·exact aa.et (by omega) (fin _ h)
  ·refine aa.ef (by omega) ?_
   exact aa.et (by omega) (fin _ h)
 ·simp only [if_neg hs2] at hn hm he
  refine aa.ef (by omega) (aa.ef (by omega) ?_)
  by_cases hs3:s=257
  ·simp only [if_pos hs3] at hn hm he
   refine aa.et (by omega) ?_
   have h:=h.drew (n:=w.drawn+1)
   refine ⟨cr b4 _ _ _,h.hb,?_⟩
   dsimp only
   (with_reducible repeat first|refine Nw.mk h fun b w h=> ?_|refine ah.mk h fun w h=> ?_|refine Ld.q h hL rfl rfl ?_|refine ad.q (fun _ h=>h) hL rfl rfl ?_|refine Ld.p h hL ?_|refine ad.p (fun _ h=>h) hL ?_|refine Ld.qw h hL rfl ?_|refine ad.qw (fun _ h=>h) hL rfl ?_|refine ⟨h.hb,?_⟩|(refine St.q h hL rfl rfl rfl fun w h=> ?_;dsimp only [af,ab] at h)|refine aa.yes ?_|refine aa.no ?_|refine ⟨by first|omega|decide,?_⟩)
   refine cf.J7 hl ?_
   (with_reducible repeat first|refine Nw.mk h fun b w h=> ?_|refine ah.mk h fun w h=> ?_|refine Ld.q h hL rfl rfl ?_|refine ad.q (fun _ h=>h) hL rfl rfl ?_|refine Ld.p h hL ?_|refine ad.p (fun _ h=>h) hL ?_|refine Ld.qw h hL rfl ?_|refine ad.qw (fun _ h=>h) hL rfl ?_|refine ⟨h.hb,?_⟩|(refine St.q h hL rfl rfl rfl fun w h=> ?_;dsimp only [af,ab] at h)|refine aa.yes ?_|refine aa.no ?_|refine ⟨by first|omega|decide,?_⟩)
   refine yW h hl (by omega) fun sl w h=>⟨h.hb,?_⟩
   refine aq.q h hz (aV hl) bk fun w h=>⟨h.hb,?_⟩
   refine Ld.xw h (aV hl) ?_
   by_cases hrl:run=left
   ·rw [if_pos hrl] at he
    exact dw (K:=fun b w=>K _ _ b w) (beq_iff_eq.2 (by omega)) (he _ _ _ _ rfl ((h.no 1).no 1))
   ·rw [if_neg hrl] at hn
    exact dw (K:=fun b w=>K _ _ b w) (beq_eq_false_iff_ne.2 (by omega)) (hn _ _ _ rfl (aV hl) bk h.tl)
  ·simp only [if_neg hs3] at hn hm he
   refine aa.ef (by omega) ?_
   (with_reducible repeat first|refine Nw.mk h fun b w h=> ?_|refine ah.mk h fun w h=> ?_|refine Ld.q h hL rfl rfl ?_|refine ad.q (fun _ h=>h) hL rfl rfl ?_|refine Ld.p h hL ?_|refine ad.p (fun _ h=>h) hL ?_|refine Ld.qw h hL rfl ?_|refine ad.qw (fun _ h=>h) hL rfl ?_|refine ⟨h.hb,?_⟩|(refine St.q h hL rfl rfl rfl fun w h=> ?_;dsimp only [af,ab] at h)|refine aa.yes ?_|refine aa.no ?_|refine ⟨by first|omega|decide,?_⟩)
   by_cases hrl:run=left
   ·rw [if_pos hrl] at hn
    refine aa.et (by omega) ?_
    (with_reducible repeat first|refine Nw.mk h fun b w h=> ?_|refine ah.mk h fun w h=> ?_|refine Ld.q h hL rfl rfl ?_|refine ad.q (fun _ h=>h) hL rfl rfl ?_|refine Ld.p h hL ?_|refine ad.p (fun _ h=>h) hL ?_|refine Ld.qw h hL rfl ?_|refine ad.qw (fun _ h=>h) hL rfl ?_|refine ⟨h.hb,?_⟩|(refine St.q h hL rfl rfl rfl fun w h=> ?_;dsimp only [af,ab] at h)|refine aa.yes ?_|refine aa.no ?_|refine ⟨by first|omega|decide,?_⟩)
    refine aq.q h hz (aV hl) bk fun w h=> ?_
    (with_reducible repeat first|refine Nw.mk h fun b w h=> ?_|refine ah.mk h fun w h=> ?_|refine Ld.q h hL rfl rfl ?_|refine ad.q (fun _ h=>h) hL rfl rfl ?_|refine Ld.p h hL ?_|refine ad.p (fun _ h=>h) hL ?_|refine Ld.qw h hL rfl ?_|refine ad.qw (fun _ h=>h) hL rfl ?_|refine ⟨h.hb,?_⟩|(refine St.q h hL rfl rfl rfl fun w h=> ?_;dsimp only [af,ab] at h)|refine aa.yes ?_|refine aa.no ?_|refine ⟨by first|omega|decide,?_⟩)
    exact hn _ _ _ rfl (aV hl) bk h.tl
   ·rw [if_neg hrl] at hm
    refine aa.ef (by omega) ?_
    (with_reducible repeat first|refine Nw.mk h fun b w h=> ?_|refine ah.mk h fun w h=> ?_|refine Ld.q h hL rfl rfl ?_|refine ad.q (fun _ h=>h) hL rfl rfl ?_|refine Ld.p h hL ?_|refine ad.p (fun _ h=>h) hL ?_|refine Ld.qw h hL rfl ?_|refine ad.qw (fun _ h=>h) hL rfl ?_|refine ⟨h.hb,?_⟩|(refine St.q h hL rfl rfl rfl fun w h=> ?_;dsimp only [af,ab] at h)|refine aa.yes ?_|refine aa.no ?_|refine ⟨by first|omega|decide,?_⟩)
    rw [aj (by omega),show (s:Int) - 1=((s - 1:Nat):Int) by omega]
    refine Ff h hl (by omega) fun w h=> ?_
    have hml:(bu L (s - 1)).length=256:=by rw [Bt (by omega)];exact hl
    have hM:(⟨aY (bu L (s - 1))⟩:Array Value).size=256:=by simp [hml]
    refine Nw.mk h fun b47 w h=> ?_
    refine aq.q h (by simp) hM bS fun w h=> ?_
    (with_reducible repeat first|refine Nw.mk h fun b w h=> ?_|refine ah.mk h fun w h=> ?_|refine Ld.q h hL rfl rfl ?_|refine ad.q (fun _ h=>h) hL rfl rfl ?_|refine Ld.p h hL ?_|refine ad.p (fun _ h=>h) hL ?_|refine Ld.qw h hL rfl ?_|refine ad.qw (fun _ h=>h) hL rfl ?_|refine ⟨h.hb,?_⟩|(refine St.q h hL rfl rfl rfl fun w h=> ?_;dsimp only [af,ab] at h)|refine aa.yes ?_|refine aa.no ?_|refine ⟨by first|omega|decide,?_⟩)
    refine yW h hl (by omega) fun sl w h=> ?_
    refine Nw.mk h fun b53 w h=> ?_
    have hsl:=(h.at 1).bU
    simp only [List.length_map,List.length_replicate,Nat.mul_one] at hsl
    refine bq (ys:= [vB (L.getD (s - 1) 0)]) (n:=1) Ck (by decide) (.inl ⟨5,by kernel_rfl⟩) (h.at 1) (.inl ⟨some ⟨b53,0,none⟩,1,1,rfl,rfl,h.av (ag.aD rfl rfl)⟩) rfl (fun y hy=>by simp at hy;subst hy;rfl) (by omega) (by omega) fun s' w h hs'=> ?_
    refine Ld.xw h hM ?_
    (with_reducible repeat first|refine Nw.mk h fun b w h=> ?_|refine ah.mk h fun w h=> ?_|refine Ld.q h hL rfl rfl ?_|refine ad.q (fun _ h=>h) hL rfl rfl ?_|refine Ld.p h hL ?_|refine ad.p (fun _ h=>h) hL ?_|refine Ld.qw h hL rfl ?_|refine ad.qw (fun _ h=>h) hL rfl ?_|refine ⟨h.hb,?_⟩|(refine St.q h hL rfl rfl rfl fun w h=> ?_;dsimp only [af,ab] at h)|refine aa.yes ?_|refine aa.no ?_|refine ⟨by first|omega|decide,?_⟩)
    rw [hs',aj (by omega),show (left:Int) - ((sl.len+1:Nat):Int)=((left - (run+1):Nat):Int) by omega]
    refine cf.Jk hml ?_
    refine aq.q h hz (aV hml) bk fun w h=> ?_
    refine Ld.xw h (aV hml) ?_
    refine hm ⟨bu L (s - 1),left - (run+1),0,0⟩ _ _ _ rfl ?_
    have e:(List.replicate run (L.getD 0 0)).map vB++ [vB (L.getD (s - 1) 0)]=(List.replicate run (L.getD 0 0)++ [L.getD (s - 1) 0]).map vB:=by simp
    rw [e] at h
    exact (((h.no 1).no 1).no 1).no 1
theorem DL {d:DS} {s:Nat} {K:Array Value→Sl→Bool→Int→World→Prop} (h:Hp E w F) (hd:jF d) (hs:s<258)
  (hn: ∀o w',bX d s=none→o.size=260→o.toList.all ay=true→Hp E w' F→K o ⟨none,0,0⟩ false 160 w')
  (hm: ∀d' t sl w',bX d s=some (d',t,false)→Hp E w' (aA 1 sl (t.map vB)::F)→K (fF d'.L (d'.left:Int) (d'.run:Int) (d'.digits:Int) false) sl false 0 w')
  (he: ∀d' t sl w',bX d s=some (d',t,true)→Hp E w' (aA 1 sl (t.map vB)::F)→K (fF d.L 0 0 0 true) sl true 0 w'):
  Cl Tryz.prog [.arr 260,kS,kB,kI] jD ⟨[.agg (fF d.L (d.left:Int) (d.run:Int) (d.digits:Int) false),.int .i64 (s:Int)]⟩ w K:=by
 have hl:=hd.1.len
 have hL:=eY hl
 have hz:(⟨List.replicate 256 (.int .u8 0)++ [.int .i64 0,.int .i64 0,.int .i64 0,.bool false]⟩:Array Value).size=260:=by simp
 refine xN.ok _ _ _ _ ?_
 (try simp only [au,ak,al,Nat.zero_add,Nat.add_zero,Nat.reduceAdd,Bool.not_true,Bool.not_false,aH,aE,Option.isNone])
 refine Nw.mk h fun b4 w h=>Nw.mk h fun b6 w h=> ?_
 (with_reducible repeat first|refine Nw.mk h fun b w h=> ?_|refine ah.mk h fun w h=> ?_|refine Ld.q h hL rfl rfl ?_|refine ad.q (fun _ h=>h) hL rfl rfl ?_|refine Ld.p h hL ?_|refine ad.p (fun _ h=>h) hL ?_|refine Ld.qw h hL rfl ?_|refine ad.qw (fun _ h=>h) hL rfl ?_|refine ⟨h.hb,?_⟩|(refine St.q h hL rfl rfl rfl fun w h=> ?_;dsimp only [af,ab] at h)|refine aa.yes ?_|refine aa.no ?_|refine ⟨by first|omega|decide,?_⟩)
 refine Bz h hd fun w h=> ?_
 (with_reducible repeat first|refine Nw.mk h fun b w h=> ?_|refine ah.mk h fun w h=> ?_|refine Ld.q h hL rfl rfl ?_|refine ad.q (fun _ h=>h) hL rfl rfl ?_|refine Ld.p h hL ?_|refine ad.p (fun _ h=>h) hL ?_|refine Ld.qw h hL rfl ?_|refine ad.qw (fun _ h=>h) hL rfl ?_|refine ⟨h.hb,?_⟩|(refine St.q h hL rfl rfl rfl fun w h=> ?_;dsimp only [af,ab] at h)|refine aa.yes ?_|refine aa.no ?_|refine ⟨by first|omega|decide,?_⟩)
 refine Dz h hd hs (fun o sl w hq ho hos h=> ?_) (fun d' t sl w hq h=> ?_) (fun d' t sl w hq h=> ?_)
 ·refine aq.q h hz ho hos fun w h=> ?_
  (with_reducible repeat first|refine Nw.mk h fun b w h=> ?_|refine ah.mk h fun w h=> ?_|refine Ld.q h hL rfl rfl ?_|refine ad.q (fun _ h=>h) hL rfl rfl ?_|refine Ld.p h hL ?_|refine ad.p (fun _ h=>h) hL ?_|refine Ld.qw h hL rfl ?_|refine ad.qw (fun _ h=>h) hL rfl ?_|refine ⟨h.hb,?_⟩|(refine St.q h hL rfl rfl rfl fun w h=> ?_;dsimp only [af,ab] at h)|refine aa.yes ?_|refine aa.no ?_|refine ⟨by first|omega|decide,?_⟩)
  refine aq.q h ho (aV hl) bk fun w h=> ?_
  refine Ld.xw h (aV hl) ?_
  exact hn _ _ hq (aV hl) bk h.tl
 ·have hl':=(yG hd hs hq).1.1.len
  have hL:=eY hl'
  refine aq.q h hz (aV hl') bk fun w h=> ?_
  (with_reducible repeat first|refine Nw.mk h fun b w h=> ?_|refine ah.mk h fun w h=> ?_|refine Ld.q h hL rfl rfl ?_|refine ad.q (fun _ h=>h) hL rfl rfl ?_|refine Ld.p h hL ?_|refine ad.p (fun _ h=>h) hL ?_|refine Ld.qw h hL rfl ?_|refine ad.qw (fun _ h=>h) hL rfl ?_|refine ⟨h.hb,?_⟩|(refine St.q h hL rfl rfl rfl fun w h=> ?_;dsimp only [af,ab] at h)|refine aa.yes ?_|refine aa.no ?_|refine ⟨by first|omega|decide,?_⟩)
  refine aq.q h (aV hl') (aV hl') bk fun w h=> ?_
  refine Ld.xw h (aV hl') ?_
  exact hm _ _ _ _ hq ((h.no 1).no 1)
 ·refine aq.q h hz (aV hl) bk fun w h=> ?_
  (with_reducible repeat first|refine Nw.mk h fun b w h=> ?_|refine ah.mk h fun w h=> ?_|refine Ld.q h hL rfl rfl ?_|refine ad.q (fun _ h=>h) hL rfl rfl ?_|refine Ld.p h hL ?_|refine ad.p (fun _ h=>h) hL ?_|refine Ld.qw h hL rfl ?_|refine ad.qw (fun _ h=>h) hL rfl ?_|refine ⟨h.hb,?_⟩|(refine St.q h hL rfl rfl rfl fun w h=> ?_;dsimp only [af,ab] at h)|refine aa.yes ?_|refine aa.no ?_|refine ⟨by first|omega|decide,?_⟩)
  refine aq.q h (aV hl) (aV hl) bk fun w h=> ?_
  refine Ld.xw h (aV hl) ?_
  exact he _ _ _ _ hq ((h.no 1).no 1)
end
end Go.Proofs.YtgglghjnakclmaaGreat
set_option maxRecDepth 20000
namespace Go.Srt
open Go.aK
def tT (b:List Nat) (j:Nat):Nat:=
 b.getD (8*j) 0*128+b.getD (8*j+1) 0*64+b.getD (8*j+2) 0*32+b.getD (8*j+3) 0*16+b.getD (8*j+4) 0*8+b.getD (8*j+5) 0*4+b.getD (8*j+6) 0*2+b.getD (8*j+7) 0
def eX (b:List Nat) (m:Nat):List Nat:=(List.range m).map (tT b)
def pack (b:List Nat):List Nat:=eX b ((b.length+7)/8)
def aK (b:List Nat):Prop:= ∀x∈b,x≤1
theorem aK.getD {b:List Nat} (h:aK b) (i:Nat):b.getD i 0≤1:=by
 rw [List.getD_eq_getElem?_getD]
 cases hx:b[i]? with
 |none=>simp
 |some x=>exact h x (List.mem_of_getElem? hx)
theorem aK.app {a b:List Nat} (ha:aK a) (hb:aK b):aK (a++b):=fun x hx=>by
 rcases List.mem_append.1 hx with h|h
 ·exact ha x h
 ·exact hb x h
theorem rz (b:List Nat) (m:Nat):(eX b m).length=m:=by simp [eX]
theorem z8 {b:List Nat} {m j:Nat} (h:j<m):(eX b m).getD j 0=tT b j:=by
 unfold eX
 rw [List.getD_eq_getElem?_getD,List.getElem?_map,List.getElem?_range h];rfl
theorem Hn {b:List Nat} (h:aK b) (j:Nat):tT b j<256:=by
 unfold tT
 have h0:=h.getD (8*j);have h1:=h.getD (8*j+1);have h2:=h.getD (8*j+2);have h3:=h.getD (8*j+3)
 have h4:=h.getD (8*j+4);have h5:=h.getD (8*j+5);have h6:=h.getD (8*j+6);have h7:=h.getD (8*j+7)
 omega
theorem CR {b:List Nat} (h:aK b) (m:Nat): ∀y∈eX b m,y<256:=fun y hy=>by
 obtain ⟨j,_,rfl⟩:=List.mem_map.1 hy
 exact Hn h j
theorem kg {b:List Nat} {i:Nat} (h:b.length≤i):b.getD i 0=0:=by rw [List.getD_eq_getElem?_getD,List.getElem?_eq_none h];rfl
theorem CO (b:List Nat) (x i:Nat):(b++ [x]).getD i 0=b.getD i 0+if i=b.length then x else 0:=by
 rcases Nat.lt_trichotomy i b.length with h|h|h
 ·rw [if_neg (by omega),List.getD_eq_getElem?_getD,List.getElem?_append_left h,←List.getD_eq_getElem?_getD];rfl
 ·subst h
  rw [if_pos rfl,kg (Nat.le_refl _),List.getD_eq_getElem?_getD,List.getElem?_append_right (Nat.le_refl _),Nat.sub_self]
  simp
 ·rw [if_neg (by omega),kg (b:=b++ [x]) (by simp;omega),kg (b:=b) (by omega)]
theorem uZ {b:List Nat} (h:aK b) {m i:Nat} (hi:i<8*m):bR (eX b m) i=b.getD i 0:=by
 unfold bR
 rw [z8 (by omega)]
 have hr:i=8*(i/8)+i % 8:=by omega
 have h8:i % 8<8:=Nat.mod_lt _ (by decide)
 generalize i/8=j at hr
 generalize i % 8=r at hr h8
 subst hr
 unfold tT
 have h0:=h.getD (8*j);have h1:=h.getD (8*j+1);have h2:=h.getD (8*j+2);have h3:=h.getD (8*j+3)
 have h4:=h.getD (8*j+4);have h5:=h.getD (8*j+5);have h6:=h.getD (8*j+6);have h7:=h.getD (8*j+7)
 have:r=0∨r=1∨r=2∨r=3∨r=4∨r=5∨r=6∨r=7:=by omega
 rcases this with rfl|rfl|rfl|rfl|rfl|rfl|rfl|rfl<;>simp only [Nat.reduceSub,Nat.reducePow,Nat.add_zero]<;>omega
theorem nr (b:List Nat):(pack b).length=(b.length+7)/8:=rz _ _
end Go.Srt
set_option maxRecDepth 20000
namespace Go.Srt
open Go.aK
def bn:Nat→Nat→List Nat
 |0,_=> []
 |n+1,v=>bn n (v/2)++ [v % 2]
theorem oM: ∀n v,(bn n v).length=n
 |0,_=>rfl
 |n+1,v=>by rw [bn,List.length_append,oM n];rfl
theorem yS: ∀n v,aK (bn n v)
 |0,_=>fun x hx=>by cases hx
 |n+1,v=>(yS n _).app fun x hx=>by have:x=v % 2:=by simpa using hx
                                   omega
theorem v9: ∀n v i,i<n→(bn n v).getD i 0=v/2^(n - 1 - i) % 2
 |0,_,_,h=>by omega
 |n+1,v,i,h=>by
  rw [bn,CO,oM]
  by_cases e:i=n
  ·subst e
   rw [if_pos rfl,kg (by rw [oM];exact Nat.le_refl _),show i+1 - 1 - i=0 by omega];simp
  ·rw [if_neg e,v9 n _ i (by omega),Nat.add_zero,Nat.div_div_eq_div_mul]
   congr 2
   rw [show n+1 - 1 - i=(n - 1 - i)+1 by omega,Nat.pow_succ,Nat.mul_comm]
def iB (l:List Nat) (s:Nat):Prop:=s<258∧0<l.getD s 0
def kE (l:List Nat) (s:Nat):List Nat:=bn (l.getD s 0) (code l s)
def enc (l:List Nat) (ss:List Nat):List Nat:=ss.flatMap (kE l)
theorem DG (l:List Nat) (ss:List Nat):aK (enc l ss):=fun x hx=>by
 obtain ⟨s,_,h⟩:=List.mem_flatMap.1 hx
 exact yS _ _ x h
theorem FO (l a b:List Nat):enc l (a++b)=enc l a++enc l b:=List.flatMap_append
theorem we (l:List Nat) (s:Nat) (b:List Nat):enc l (s::b)=kE l s++enc l b:=List.flatMap_cons
def c7 (l:List Nat) (c n:Nat):Option Nat:=(List.range 258).find? fun s=>decide (0<l.getD s 0)&&(l.getD s 0==n)&&(code l s==c)
theorem m9 {l:List Nat} {c n s:Nat} (h:c7 l c n=some s):iB l s∧l.getD s 0=n∧code l s=c:=by
 unfold c7 at h
 have h1:=List.find?_some h
 have h2:=List.mem_of_find?_eq_some h
 simp only [Bool.and_eq_true,decide_eq_true_eq,beq_iff_eq] at h1
 exact ⟨⟨by simpa using h2,h1.1.1⟩,h1.1.2,h1.2⟩
theorem zE {l:List Nat} {c n:Nat} (h:c7 l c n=none) {s:Nat} (hs:iB l s): ¬(l.getD s 0=n∧code l s=c):=by
 unfold c7 at h
 have:=List.find?_eq_none.1 h s (by simpa using hs.1)
 simp only [Bool.and_eq_true,decide_eq_true_eq,beq_iff_eq] at this
 exact fun hh=>this ⟨⟨hs.2,hh.1⟩,hh.2⟩
theorem DA {l:List Nat} (hl:l.length=258) {s t:Nat} (hs:iB l s) (ht:iB l t) (h1:l.getD s 0=l.getD t 0) (h2:code l s=code l t):s=t:=by
 have h3:=hs.1;have h4:=ht.1
 refine wU (by omega) (by omega) h1 ?_
 unfold code at h2
 rw [h1] at h2
 omega
theorem qO {l:List Nat} (hl:l.length=258) {s:Nat} (hs:iB l s):c7 l (code l s) (l.getD s 0)=some s:=by
 cases h:c7 l (code l s) (l.getD s 0) with
 |none=>exact absurd ⟨rfl,rfl⟩ (zE h hs)
 |some t=>
  obtain ⟨h1,h2,h3⟩:=m9 h
  rw [DA hl h1 hs h2 h3]
theorem Bm {l:List Nat} (hl:l.length=258) (hv:aR l≤32768) {s m:Nat} (hs:iB l s) (hm:m<l.getD s 0):c7 l (code l s/2^(l.getD s 0 - m)) m=none:=by
 cases h:c7 l (code l s/2^(l.getD s 0 - m)) m with
 |none=>rfl
 |some t=>
  exfalso
  obtain ⟨h1,h2,h3⟩:=m9 h
  have h15:=fp hv s
  have p1:=mJ hv s
  have p2:=mJ hv t
  rw [h2,h3] at p2
  have e:2^(15 - m)=2^(l.getD s 0 - m)*2^(15 - l.getD s 0):=by rw [←Nat.pow_add];congr 1;omega
  have hq:=Nat.div_mul_le_self (code l s) (2^(l.getD s 0 - m))
  have hr:=Nat.lt_div_mul_add (a:=code l s) (b:=2^(l.getD s 0 - m)) (Nat.two_pow_pos _)
  have ha:pos l t≤pos l s:=by
   rw [←p1,←p2,e,←Nat.mul_assoc];exact Nat.mul_le_mul_right _ hq
  have hb:pos l s<pos l t+2^(15 - l.getD t 0):=by
   rw [h2,←p1,←p2,e,←Nat.mul_assoc,←Nat.add_mul]
   exact Nat.mul_lt_mul_of_pos_right hr (Nat.two_pow_pos _)
  have h4:=hs.1;have h5:=h1.1
  have:s=t:=DM (x:=pos l s) (by omega) (by omega) hs.2 h1.2 (Nat.le_refl _) (by have:=Nat.two_pow_pos (15 - l.getD s 0);omega) ha hb
  subst this
  omega
def bitsOf (b:List Nat) (n:Nat):List Nat:=(List.range n).map (bR b)
theorem Ak (b:List Nat) (n:Nat):(bitsOf b n).length=n:=by simp [bitsOf]
end Go.Srt
set_option maxRecDepth 20000
namespace Go.Crc
def half (c:Nat):Nat:=(c/2)^^^(if c % 2=1 then 3988292384 else 0)
def row (c:Nat):Nat:=half (half (half (half (half (half (half (half c)))))))
def step (c b:Nat):Nat:=row ((c % 256)^^^b)^^^(c/256)
def feed (c:Nat) (b:List Nat):Nat:=b.foldl step c
def lH (b:List Nat):Nat:=feed 4294967295 b^^^4294967295
theorem fa {c:Nat} (h:c<4294967296):half c<4294967296:=by
 unfold half
 exact Nat.xor_lt_two_pow (n:=32) (by omega) (by split<;>decide)
theorem BL {c:Nat} (h:c<4294967296):row c<4294967296:=fa (fa (fa (fa (fa (fa (fa (fa h)))))))
theorem ze {c b:Nat} (h:c<4294967296) (hb:b<256):step c b<4294967296:=by
 unfold step
 have h1:(c % 256)^^^b<256:=Nat.xor_lt_two_pow (n:=8) (by omega) hb
 exact Nat.xor_lt_two_pow (n:=32) (BL (by omega)) (by omega)
theorem px: ∀(b:List Nat) (c:Nat),c<4294967296→(∀x∈b,x<256)→feed c b<4294967296
 | [],_,h,_=>h
 |x::b,c,h,hb=>by
  rw [feed,List.foldl_cons]
  exact px b _ (ze h (hb x List.mem_cons_self)) fun y hy=>hb y (List.mem_cons_of_mem _ hy)
theorem D7 (a b:List Nat) (c:Nat):feed c (a++b)=feed (feed c a) b:=List.foldl_append
theorem rf {b:List Nat} (hb: ∀x∈b,x<256):lH b<4294967296:=Nat.xor_lt_two_pow (n:=32) (px b _ (by decide) hb) (by decide)
end Go.Crc
set_option maxRecDepth 20000
namespace Go.Bw
open Go.Rk
abbrev lx:List Nat→List Nat→Bool:=Go.Vc.Je
theorem qY (x:List Nat):lx x []=false:=by cases x<;>rfl
theorem iI (a b:Nat) (x y:List Nat):lx (a::x) (b::y)=(decide (a<b)||(a==b&&lx x y)):=rfl
theorem oC: ∀x,lx x x=false
 | []=>rfl
 |a::x=>by rw [iI,oC x];simp
theorem qB: ∀x y z,lx x y=true→lx y z=true→lx x z=true
 |_,[],_,h,_=>by rw [qY] at h;cases h
 |_,_::_,[],_,h=>by rw [qY] at h;cases h
 | [],_::_,_::_,_,_=>rfl
 |a::x,b::y,c::z,h1,h2=>by
  rw [iI] at*
  simp only [Bool.or_eq_true,Bool.and_eq_true,decide_eq_true_eq,beq_iff_eq] at*
  rcases h1 with h1|⟨h1,h3⟩<;>rcases h2 with h2|⟨h2,h4⟩
  ·left;omega
  ·left;omega
  ·left;omega
  ·exact .inr ⟨by omega,qB x y z h3 h4⟩
theorem qD: ∀x y,lx x y=false→lx y x=false→x=y
 | [],[],_,_=>rfl
 | [],_::_,h,_=>by cases h
 |_::_,[],_,h=>by cases h
 |a::x,b::y,h1,h2=>by
  rw [iI] at*
  simp only [Bool.or_eq_false_iff,Bool.and_eq_false_iff,decide_eq_false_iff_not,beq_eq_false_iff_ne] at*
  have hab:a=b:=by omega
  subst hab
  rw [qD x y (by rcases h1.2 with h|h;exact absurd rfl h;exact h) (by rcases h2.2 with h|h;exact absurd rfl h;exact h)]
theorem Ba (x y z:List Nat) (h1:lx x y=false) (h2:lx y z=false):lx x z=false:=by
 cases h:lx x z with
 |false=>rfl
 |true=>
  by_cases e:x=y
  ·subst e;rw [h] at h2;cases h2
  ·have hyx:lx y x=true:=by
    cases hh:lx y x with
    |true=>rfl
    |false=>exact absurd (qD x y h1 hh) e
   have:=qB _ _ _ hyx h
   rw [h2] at this;cases this
theorem Ct: ∀(k c d:List Nat),lx (k++c) (k++d)=lx c d
 | [],_,_=>rfl
 |a::k,c,d=>by rw [List.cons_append,List.cons_append,iI,Ct k];simp
theorem wj: ∀(a b c d:List Nat),a≠b→(a.length<b.length→c= [])→(b.length<a.length→d= [])→lx (a++c) (b++d)=lx a b
 | [],[],_,_,h,_,_=>absurd rfl h
 | [],y::b,c,d,_,h1,_=>by rw [h1 (by simp)];rfl
 |x::a,[],c,d,_,_,h2=>by rw [h2 (by simp)];rfl
 |x::a,y::b,c,d,h,h1,h2=>by
  rw [List.cons_append,List.cons_append,iI,iI]
  by_cases e:x=y
  ·subst e
   rw [wj a b c d (fun e=>h (by rw [e])) (fun hl=>h1 (by simpa using hl)) (fun hl=>h2 (by simpa using hl))]
  ·rw [beq_eq_false_iff_ne.2 e,Bool.false_and,Bool.false_and]
def sl (t:List Nat) (i k:Nat):Bool:=lx (t.drop i) (t.drop k)
theorem j0 (t:List Nat):SO (sl t):=⟨fun _=>oC _,fun _ _ _=>qB _ _ _,fun _ _ _=>Ba _ _ _⟩
theorem DW {t:List Nat} {i k:Nat} (hi:i≤t.length) (hk:k≤t.length) (h:t.drop i=t.drop k):i=k:=by
 have:=congrArg List.length h
 simp only [List.length_drop] at this
 omega
def rows (t:List Nat):List Nat:=List.range (t.length+1)
theorem fG {t:List Nat} {i:Nat}:i∈rows t↔i≤t.length:=by unfold rows;rw [List.mem_range];omega
theorem j5 (t:List Nat):(rows t).Nodup:=List.nodup_range
theorem uX (t:List Nat):(rows t).length=t.length+1:=List.length_range
theorem mr (t:List Nat):zn (sl t) (rows t):=fun x hx y hy e=>by
 rw [fG] at hx hy
 cases h1:sl t x y with
 |true=>exact .inl rfl
 |false=>
  right
  cases h2:sl t y x with
  |true=>rfl
  |false=>exact absurd (DW hx hy (qD _ _ h1 h2)) e
def c8 (t:List Nat):List Nat:=pH (sl t) (rows t)
def om (t:List Nat) (i:Nat):Nat:=rk (sl t) (rows t) i
theorem qc (t:List Nat):(c8 t).length=t.length+1:=by unfold c8;rw [zx,uX]
theorem Dy {t:List Nat} {i:Nat}:i∈c8 t↔i≤t.length:=by unfold c8;rw [(dY _).mem_iff,fG]
theorem H6 {t:List Nat} {i:Nat} (hi:i≤t.length):om t i<t.length+1:=by
 have:=Cy (j0 t) (j5 t) (mr t) (fG.2 hi)
 rwa [uX] at this
theorem FV {t:List Nat} {i:Nat} (hi:i≤t.length): ∃h:om t i<(c8 t).length,(c8 t)[om t i]=i:=AU (j0 t) (j5 t) (mr t) (fG.2 hi)
theorem FL {t:List Nat} {r:Nat} (hr:r<(c8 t).length):om t (c8 t)[r]=r:=Ix (j0 t) (j5 t) (mr t) hr
theorem F4 {t:List Nat} {i k:Nat} (hi:i≤t.length) (hk:k≤t.length) (h:om t i=om t k):i=k:=Ii (j0 t) (mr t) (fG.2 hi) (fG.2 hk) h
theorem xy (t:List Nat):(c8 t).Pairwise fun a b=>sl t a b=true:=mM (j0 t) (j5 t) (mr t)
theorem qn {t:List Nat} {j:Nat} (hj:j<t.length):t.drop j=t.getD j 0::t.drop (j+1):=by
 rw [List.drop_eq_getElem_cons hj];simp [List.getD,hj]
theorem yT {t:List Nat} {i k:Nat} (hi:i<t.length) (hk:k<t.length):sl t i k=(decide (t.getD i 0<t.getD k 0)||(t.getD i 0==t.getD k 0&&sl t (i+1) (k+1))):=by
 unfold sl
 rw [qn hi,qn hk,iI]
theorem Fg (t:List Nat):om t t.length=0:=by
 unfold om rk
 rw [List.countP_eq_zero]
 intro x _
 unfold sl
 rw [List.drop_length,qY];decide
def dZ (t:List Nat):Nat:=om t 0
def Dn (t:List Nat):List Nat:=(c8 t).filter fun i=>i !=0
def bf (t:List Nat):List Nat:=(Dn t).map fun i=>t.getD (i - 1) 0
def J9 (index row:Nat):Nat:=if row>index then row - 1 else row
theorem yE (t:List Nat):dZ t≤t.length:=by have:=H6 (t:=t) (i:=0) (by omega);unfold dZ;omega
theorem CX (t:List Nat) {r:Nat} (hr:r<(c8 t).length):(c8 t)[r]=0↔r=dZ t:=by
 constructor
 ·intro h
  have:=FL hr
  rw [h] at this;exact this.symm
 ·rintro rfl
  exact (FV (t:=t) (i:=0) (by omega)).2
theorem tK (t:List Nat):(Dn t).Perm ((List.range t.length).map (·+1)):=by
 have h:=(dY (lt:=sl t) (rows t)).filter fun i=>i !=0
 have e:(rows t).filter (fun i=>i !=0)=(List.range t.length).map (·+1):=by
  unfold rows
  rw [List.range_succ_eq_map,List.filter_cons,if_neg (by simp),List.filter_eq_self.2 fun x hx=>by obtain ⟨y,_,rfl⟩:=List.mem_map.1 hx;simp]
 rw [e] at h
 exact h
theorem Db (t:List Nat):(Dn t).length=t.length:=by rw [(tK t).length_eq];simp
theorem dQ (t:List Nat):(bf t).length=t.length:=by unfold bf;rw [List.length_map,Db]
theorem zV (t:List Nat):(bf t).Perm t:=by
 have h:=(tK t).map fun i=>t.getD (i - 1) 0
 have e:((List.range t.length).map (·+1)).map (fun i=>t.getD (i - 1) 0)=t:=by
  apply List.ext_getElem
  ·simp
  ·intro i h1 h2
   simp [List.getD,h2]
 rw [e] at h
 exact h
theorem o6 {t:List Nat} (hb: ∀x∈t,x<256): ∀x∈bf t,x<256:=fun x hx=>hb x ((zV t).mem_iff.1 hx)
def pl (last:List Nat) (a b:Nat):Bool:=decide (last.getD a 0<last.getD b 0)||(last.getD a 0==last.getD b 0&&decide (a<b))
def nx (last:List Nat) (a:Nat):Nat:=1+rk (pl last) (List.range last.length) a
def wk (last:List Nat) (index:Nat):Nat→Nat
 |0=>0
 |k+1=>nx last (J9 index (wk last index k))
def okB (last:List Nat) (index:Nat):Prop:=index≤last.length∧(∀k,k<last.length→wk last index k≠index)∧wk last index last.length=index
instance (last:List Nat) (index:Nat):Decidable (okB last index):=by unfold okB;infer_instance
end Go.Bw
set_option maxRecDepth 20000
namespace Go.ao
open Go.Inc Go.Srt Go.Sym Go.aK Go.Tab Go.Hd Go.Crc Go.Bw
def ba (b:List Nat):List Nat:=bitsOf b (8*b.length)
theorem bD (b:List Nat):(ba b).length=8*b.length:=Ak _ _
theorem pF (a b:List Nat):ba (a++b)=ba a++ba b:=by
 unfold ba bitsOf
 rw [List.length_append,Nat.mul_add,List.range_add,List.map_append]
 congr 1
 ·refine List.map_congr_left fun i hi=> ?_
  rw [List.mem_range] at hi
  unfold bR
  rw [List.getD,List.getD,List.getElem?_append_left (by omega)]
 ·rw [List.map_map]
  refine List.map_congr_left fun i hi=> ?_
  simp only [Function.comp]
  unfold bR
  rw [List.getD,List.getD,List.getElem?_append_right (by omega),show (8*a.length+i)/8 - a.length=i/8 by omega,show (8*a.length+i) % 8=i % 8 by omega]
def dS (b:List Nat):Nat:=8*((b.length+7)/8) - b.length
theorem zv (b:List Nat):dS b<8:=by unfold dS;omega
theorem vg {b:List Nat} (h:aK b):ba (pack b)=b++List.replicate (dS b) 0:=by
 unfold ba bitsOf dS
 rw [nr]
 refine List.ext_getElem? fun i=> ?_
 rw [List.getElem?_map]
 by_cases hi:i<8*((b.length+7)/8)
 ·rw [List.getElem?_range hi,Option.map_some]
  unfold pack
  rw [uZ h hi]
  by_cases hb:i<b.length
  ·rw [List.getElem?_append_left hb,List.getD,List.getElem?_eq_getElem hb];rfl
  ·rw [List.getElem?_append_right (by omega),List.getElem?_replicate,if_pos (by omega),kg (by omega)]
 ·rw [List.getElem?_eq_none (by simp;omega),List.getElem?_eq_none (by simp;omega)];rfl
def body (l last:List Nat):List Nat:=lQ l++enc l (syms last)
def me (l x:List Nat):List Nat:=jC x.length (dZ x.reverse) (lH x)++pack (body l (bf x.reverse))
def po (left:List Nat):Bool:=(left.take (left.length % 8)).all (·==0)
theorem vC: ∀k,aK (oS k)
 |0=>fun x hx=>by cases hx
 |k+1=>fun x hx=>by
  rcases List.mem_cons.1 hx with h|h
  ·omega
  ·rcases List.mem_cons.1 h with h|h
   ·omega
   ·exact vC k x h
theorem qU: ∀k,aK (jd k)
 |0=>fun x hx=>by cases hx
 |k+1=>fun x hx=>by
  rcases List.mem_cons.1 hx with h|h
  ·omega
  ·rcases List.mem_cons.1 h with h|h
   ·omega
   ·exact qU k x h
theorem D3 (a b:Nat):aK (g0 a b):=by
 unfold g0
 refine aK.app ?_ (fun x hx=>by rw [List.mem_singleton] at hx;omega)
 split
 ·exact qU _
 ·exact vC _
theorem tE: ∀(m:List Nat) (was:Nat),aK (fl was m)
 | [],_=>fun x hx=>by cases hx
 |n::m,was=>aK.app (D3 was n) (tE m n)
theorem BE (l:List Nat):aK (lQ l):=aK.app (fun x hx=>by simp [four] at hx;omega) (tE _ _)
theorem nZ (l last:List Nat):aK (body l last):=aK.app (BE l) (DG _ _)
section
variable {l:List Nat}
structure p9 (l last:List Nat):Prop where
 len:l.length=258
 ok:cn l=true
 good: ∀s∈syms last,iB l s
theorem p9.v {last:List Nat} (h:p9 l last):aR l≤32768:=by rw [(j9.1 h.ok).1];decide
theorem ru (h:cn l=true): ∀x∈l,x≤15:=fun x hx=>by
 obtain ⟨i,hi,rfl⟩:=List.mem_iff_getElem.1 hx
 have:=fp (l:=l) (by rw [(j9.1 h).1];decide) i
 rwa [bE hi] at this
theorem Bs (b:List Nat) (z:List Nat):po (List.replicate (dS b) 0++ba z)=true:=by
 unfold po
 have:=zv b
 rw [List.length_append,List.length_replicate,bD,show (dS b+8*z.length) % 8=dS b by omega,List.take_append_of_le_length (by simp),List.take_of_length_le (by simp)]
 simp
theorem oo {t:List Nat} (h:0<t.length):0<dZ t∧dZ t≤t.length:=by
 refine ⟨?_,yE t⟩
 rcases Nat.eq_zero_or_pos (dZ t) with e|e
 ·have:=F4 (t:=t) (i:=0) (k:=t.length) (by omega) (by omega) (by rw [Fg];exact e)
  omega
 ·exact e
end
end Go.ao
set_option maxRecDepth 20000
namespace Go.Stm
open Go.Inc Go.Srt Go.Sym Go.aK Go.Tab Go.Hd Go.Crc Go.Bw Go.ao
def kW (n:Nat) (x:List Nat):List (List Nat):=if _h:x= []∨n=0 then [] else x.take n::kW n (x.drop n)
termination_by x.length
decreasing_by
 have h1:x≠ []:=fun e=>_h (.inl e)
 have h2:n≠0:=fun e=>_h (.inr e)
 have:=List.length_pos_iff.2 h1
 rw [List.length_drop];omega
def bA (n:Nat) (parts:List (List Nat)):List (List Nat):=parts.flatMap (kW n)
theorem p7 (n:Nat):kW n []= []:=by rw [kW];simp
theorem p0 {n:Nat} {x:List Nat} (h:x≠ []) (hn:0<n):kW n x=x.take n::kW n (x.drop n):=by
 rw [kW,dif_neg (by intro e;rcases e with e|e;exact h e;omega)]
theorem Cv {n:Nat} (hn:0<n) (x:List Nat):(kW n x).flatten=x:=by
 induction hk:x.length using Nat.strongRecOn generalizing x with
 |ind k ih=>
  by_cases h:x= []
  ·rw [h,p7];rfl
  ·have:=List.length_pos_iff.2 h
   rw [p0 h hn,List.flatten_cons,ih (x.drop n).length (by rw [List.length_drop];omega) (x.drop n) rfl,List.take_append_drop]
theorem DT {n:Nat} (hn:0<n) (x:List Nat): ∀y∈kW n x,0<y.length∧y.length≤n∧∀c∈y,c∈x:=by
 induction hk:x.length using Nat.strongRecOn generalizing x with
 |ind k ih=>
  by_cases h:x= []
  ·rw [h,p7];intro y hy;cases hy
  ·have:=List.length_pos_iff.2 h
   rw [p0 h hn]
   intro y hy
   rcases List.mem_cons.1 hy with h|h
   ·subst h
    exact ⟨by rw [List.length_take];omega,by rw [List.length_take];omega,fun c hc=>List.mem_of_mem_take hc⟩
   ·obtain ⟨h1,h2,h3⟩:=ih (x.drop n).length (by rw [List.length_drop];omega) (x.drop n) rfl y h
    exact ⟨h1,h2,fun c hc=>List.mem_of_mem_drop (h3 c hc)⟩
theorem tV {n:Nat} (hn:0<n) (parts:List (List Nat)):(bA n parts).flatten=parts.flatten:=by
 induction parts with
 |nil=>rfl
 |cons x l ih=>rw [bA,List.flatMap_cons,List.flatten_append,Cv hn,List.flatten_cons];exact congrArg _ ih
theorem vM {n:Nat} (hn:0<n) {parts:List (List Nat)}: ∀y∈bA n parts,0<y.length∧y.length≤n∧∀c∈y,c∈parts.flatten:=by
 intro y hy
 obtain ⟨x,hx,hy⟩:=List.mem_flatMap.1 hy
 obtain ⟨h1,h2,h3⟩:=DT hn x y hy
 exact ⟨h1,h2,fun c hc=>List.mem_flatten.2 ⟨x,hx,h3 c hc⟩⟩
section
variable (L:List Nat→List Nat)
def mK (x:List Nat):List Nat:=me (L x) x
def blocks (l:List (List Nat)):List Nat:=l.flatMap (mK L)
def np (n:Nat) (parts:List (List Nat)):List Nat:=iJ n++(blocks L (bA n parts)++jA (lH parts.flatten))
def dv:Prop:= ∀x:List Nat,0<x.length→(∀c∈x,c<256)→p9 (L x) (bf x.reverse)
end
section
variable {L:List Nat→List Nat} {n:Nat}
theorem EX {x:List Nat} (hx: ∀c∈x,c<256): ∀y∈bf x.reverse,y<256:=o6 fun y hy=>hx y (List.mem_reverse.1 hy)
theorem iG (hn:0<n) {parts:List (List Nat)} (hb: ∀c∈parts.flatten,c<256): ∀x∈bA n parts,0<x.length∧x.length≤n∧∀c∈x,c<256:=fun x hx=>by
 obtain ⟨h1,h2,h3⟩:=vM hn x hx
 exact ⟨h1,h2,fun c hc=>hb c (h3 c hc)⟩
end
end Go.Stm
set_option maxRecDepth 20000
namespace Go.Prs
open Go.Inc Go.Srt Go.Sym Go.aK Go.Tab Go.Hd Go.Crc Go.Bw Go.ao
inductive Ev where
 |hdr (n:Nat)|aD (M P sum:Nat)|bytes (t:List Nat)|bend|tail (sum:Nat)|fin|bad (e:Nat)
deriving DecidableEq
inductive PS where
 |head (h:HS)|mark (n:Nat) (m:MS)|tab (n M:Nat) (t:TS)|sym (n:Nat) (l:List Nat) (k m:Nat) (d:DS)|pad (n:Nat)|behind (n:Nat)|ab (n:Nat)|bad (n e:Nat)
inductive Jb where
 |go (s:PS) (u:Nat)|need|ev (e:Ev) (s:PS) (u:Nat)
def hO (u:Nat):Nat:=if u % 8=0 then 0 else 8 - u % 8
def short (ended:Bool) (n u:Nat):Jb:=if ended then .ev (.bad 50) (.bad n 50) u else .need
def aF (ended:Bool) (c:List Nat):PS→Nat→Jb
 | .head h,u=>if u+8≤8*c.length then (match cq h (val c u 8) with
   | .more h'=> .go (.head h') (u+8)
   | .fin n=> .ev (.hdr n) (.mark n gh) (u+8)
   | .bad e=> .ev (.bad e) (.bad 0 e) (u+8)) else short ended 0 u
 | .mark n m,u=>if u+8≤8*c.length then (match aX n m (val c u 8) with
   | .more m'=> .go (.mark n m') (u+8)
   | .fin (.tail s)=> .ev (.tail s) (.behind n) (u+8)
   | .fin (.aD M P s)=> .ev (.aD M P s) (.tab n M t0) (u+8)
   | .bad e=> .ev (.bad e) (.bad n e) (u+8)) else short ended n u
 | .tab n M t,u=>if u+1≤8*c.length then (match bd cn t (bR c u) with
   | .more t'=> .go (.tab n M t') (u+1)
   | .fin l=> .go (.sym n l 0 0 ⟨List.range 256,M,0,0⟩) (u+1)
   | .bad e=> .ev (.bad e) (.bad n e) (u+1)) else short ended n u
 | .sym n l k m d,u=>if u+1≤8*c.length then (match c7 l (2*k+bR c u) (m+1) with
   |none=> .go (.sym n l (2*k+bR c u) (m+1) d) (u+1)
   |some y=>match bX d y with
    |none=> .ev (.bad 160) (.bad n 160) (u+1)
    |some (d',t,en)=>if t= [] then .go (if en then .pad n else .sym n l 0 0 d') (u+1) else .ev (.bytes t) (if en then .pad n else .sym n l 0 0 d') (u+1)) else short ended n u
 | .pad n,u=>if val c u (hO u)=0 then .ev .bend (.mark n gh) (u+hO u) else .ev (.bad 160) (.bad n 160) (u+hO u)
 | .behind n,u=>if u<8*c.length then .ev (.bad 261) (.bad n 261) u else if ended then .ev .fin (.ab n) u else .need
 | .ab n,u=> .ev .fin (.ab n) u
 | .bad n e,u=> .ev (.bad e) (.bad n e) u
def PS.n:PS→Nat
 | .head _=>0| .mark n _=>n| .tab n _ _=>n| .sym n _ _ _ _=>n| .pad n=>n| .behind n=>n| .ab n=>n| .bad n _=>n
def dU (c:List Nat) (s:PS) (u:Nat):Nat:=2*(8*c.length - u)+match s with
 | .pad _=>1
 |_=>0
def final:Ev→Bool
 | .fin=>true| .bad _=>true|_=>false
theorem Bc {c:List Nat} {u:Nat} (h:u≤8*c.length):u+hO u≤8*c.length:=by unfold hO;split<;>omega
theorem mi {ended:Bool} {c:List Nat} {s s':PS} {u u':Nat} (h:aF ended c s u= .go s' u'):dU c s' u'<dU c s u∧u<u'∧u'≤8*c.length:=by
 unfold aF short at h
 unfold dU
 split at h
 all_goals try (split at h)
 all_goals try (split at h)
 all_goals try (split at h)
 all_goals try (split at h)
 all_goals first
  |(cases h;done)
  |(injection h with h1 h2;subst h1;subst h2;refine ⟨?_,by omega,by omega⟩;first|(dsimp only;omega)|((try split)<;>(try split)<;>omega))
  |skip
theorem Bu {ended:Bool} {c:List Nat} {s s':PS} {u u':Nat} {e:Ev} (hu:u≤8*c.length) (h:aF ended c s u= .ev e s' u'):(final e=false→dU c s' u'<dU c s u)∧u≤u'∧u'≤8*c.length:=by
 have hg:=Bc hu
 unfold aF short at h
 unfold dU
 split at h
 all_goals try (split at h)
 all_goals try (split at h)
 all_goals try (split at h)
 all_goals try (split at h)
 all_goals first
  |(cases h;done)
  |(injection h with h1 h2 h3;subst h1;subst h2;subst h3;refine ⟨fun hf=> ?_,by omega,by omega⟩;first|(cases hf;done)|(dsimp only;omega)|((try split)<;>(try split)<;>omega))
  |skip
def cQ (ended:Bool) (c:List Nat) (s:PS) (u:Nat):Option Ev×PS×Nat:=match aF ended c s u with
 | .ev e s' u'=>(some e,s',u')
 | .need=>(none,s,u)
 | .go s' u'=>if _h:dU c s' u'<dU c s u then cQ ended c s' u' else (none,s,u)
termination_by dU c s u
def cS (ended:Bool) (c:List Nat) (s:PS) (u:Nat):List Ev:=match aF ended c s u with
 | .ev e s' u'=>e::if _h:final e=false∧dU c s' u'<dU c s u then cS ended c s' u' else []
 | .need=> []
 | .go s' u'=>if _h:dU c s' u'<dU c s u then cS ended c s' u' else []
termination_by dU c s u
section
variable {ended:Bool} {c:List Nat} {s s':PS} {u u':Nat} {e:Ev}
theorem oL (h:aF ended c s u= .go s' u'):cQ ended c s u=cQ ended c s' u':=by
 rw [cQ,h];simp only;rw [dif_pos (mi h).1]
theorem kO (h:aF ended c s u= .ev e s' u'):cQ ended c s u=(some e,s',u'):=by rw [cQ,h]
theorem lf (h:aF ended c s u= .need):cQ ended c s u=(none,s,u):=by rw [cQ,h]
theorem jn (h:aF ended c s u= .go s' u'):cS ended c s u=cS ended c s' u':=by
 rw [cS,h];simp only;rw [dif_pos (mi h).1]
theorem k7 (hu:u≤8*c.length) (h:aF ended c s u= .ev e s' u') (hf:final e=false):cS ended c s u=e::cS ended c s' u':=by
 rw [cS,h];simp only;rw [dif_pos ⟨hf,(Bu hu h).1 hf⟩]
theorem fY (h:aF ended c s u= .ev e s' u') (hf:final e=true):cS ended c s u= [e]:=by
 rw [cS,h];simp only;rw [dif_neg (by rw [hf];simp)]
theorem qd (h:aF ended c s u= .need):cS ended c s u= []:=by rw [cS,h]
end
theorem Fa {ended:Bool} {c:List Nat}: ∀(k:Nat) (s:PS) (u:Nat),dU c s u=k→u≤8*c.length→match cQ ended c s u with
  |(none,s',u')=>cS ended c s u= []∧u'≤8*c.length∧aF ended c s' u'= .need∧u≤u'
  |(some e,s',u')=>cS ended c s u=e::(if final e then [] else cS ended c s' u')∧u'≤8*c.length∧u≤u':=by
 intro k
 induction k using Nat.strongRecOn with
 |ind k ih=>
  intro s u hk hu
  cases hm:aF ended c s u with
  |need=>rw [lf hm];exact ⟨qd hm,hu,hm,Nat.le_refl _⟩
  |ev e s' u'=>
   rw [kO hm]
   have:=Bu hu hm
   refine ⟨?_,this.2.2,this.2.1⟩
   cases hf:final e with
   |true=>rw [fY hm hf];rfl
   |false=>rw [k7 hu hm hf];rfl
  |go s' u'=>
   have hd:=mi hm
   have:=ih (dU c s' u') (by omega) s' u' rfl hd.2.2
   rw [oL hm,jn hm]
   revert this
   rcases cQ ended c s' u' with ⟨o,s'',u''⟩
   cases o with
   |none=>exact fun ⟨h1,h2,h3,h4⟩=>⟨h1,h2,h3,by omega⟩
   |some e=>exact fun ⟨h1,h2,h4⟩=>⟨h1,h2,by omega⟩
end Go.Prs
set_option maxRecDepth 20000
namespace Go.Prs
open Go.Inc Go.Srt Go.Sym Go.aK Go.Tab Go.Hd Go.Crc Go.Bw Go.ao Go.Stm
def sh (ended:Bool):List Ev:=if ended then [.bad 50] else []
inductive Jn where
 |fin (rest:List Nat)|bad (e:Nat)|short
def cy (l:List Nat):Nat→Nat→DS→List Nat→List Ev×Jn
 |_,_,_,[]=>([],.short)
 |k,m,d,x::b=>match c7 l (2*k+x) (m+1) with
  |none=>cy l (2*k+x) (m+1) d b
  |some y=>match bX d y with
   |none=>([],.bad 160)
   |some (_,t,true)=>(if t= [] then [] else [.bytes t],.fin b)
   |some (d',t,false)=>let r:=cy l 0 0 d' b;(if t= [] then r.1 else .bytes t::r.1,r.2)
def pE (ended:Bool) (M:Nat) (rest:List Nat):List Ev×Option (List Nat):=match run (bd cn) t0 (ba rest) with
 | .short _=>(sh ended,none)
 | .bad e=>([.bad e],none)
 | .fin l more=>match cy l 0 0 ⟨List.range 256,M,0,0⟩ more with
  |(du,.short)=>(du++sh ended,none)
  |(du,.bad e)=>(du++ [.bad e],none)
  |(du,.fin left)=>if po left then (du++ [.bend],some (rest.drop (rest.length - left.length/8))) else (du++ [.bad 160],none)
def vY (ended:Bool) (n:Nat):Nat→List Nat→List Ev
 |0,_=> []
 |k+1,b=>match run (aX n) gh b with
  | .short _=>sh ended
  | .bad e=> [.bad e]
  | .fin (.tail s) rest=> .tail s::(if rest≠ [] then [.bad 261] else if ended then [.fin] else [])
  | .fin (.aD M P s) rest=> .aD M P s::((pE ended M rest).1++match (pE ended M rest).2 with
   |none=> []
   |some behind=>vY ended n k behind)
def du (ended:Bool) (c:List Nat):List Ev:=match run cq ⟨0,0⟩ c with
 | .short _=>sh ended
 | .bad e=> [.bad e]
 | .fin n rest=> .hdr n::vY ended n (rest.length+1) rest
theorem yA {c:List Nat} (hc: ∀x∈c,x<256) {i:Nat} (hi:i<c.length):val c (8*i) 8=c[i]:=by
 have e:c.getD i 0=c[i]:=by simp [List.getD,hi]
 rw [vl c i (by rw [e];exact hc _ (List.getElem_mem hi)),e]
theorem yr {c:List Nat} {i:Nat} (hi:i<c.length):c.drop i=c[i]::c.drop (i+1):=List.drop_eq_getElem_cons hi
theorem yy {c:List Nat} {u:Nat} (hu:u<8*c.length):(ba c).drop u=bR c u::(ba c).drop (u+1):=by
 have hl:=bD c
 rw [List.drop_eq_getElem_cons (by omega)]
 congr 1
 simp [ba,bitsOf]
theorem vO {c:List Nat} {u:Nat} (hu:8*c.length≤u):(ba c).drop u= []:=List.drop_of_length_le (by rw [bD];exact hu)
theorem oA (c:List Nat) (i:Nat):ba (c.drop i)=(ba c).drop (8*i):=by
 rcases Nat.le_total i c.length with h|h
 ·have:=pF (c.take i) (c.drop i)
  rw [List.take_append_drop] at this
  rw [this,List.drop_append_of_le_length (by rw [bD,List.length_take];omega),List.drop_of_length_le (l:=ba (c.take i)) (by rw [bD,List.length_take];omega),List.nil_append]
 ·rw [List.drop_of_length_le h,List.drop_of_length_le (by rw [bD];omega)];rfl
section
variable {ended:Bool} {c:List Nat}
theorem lC {s:PS} {n u:Nat} (h:aF ended c s u=short ended n u):cS ended c s u=sh ended:=by
 unfold short at h
 unfold sh
 cases ended with
 |true=>exact fY h rfl
 |false=>exact qd h
theorem v7 (hc: ∀x∈c,x<256): ∀(k i:Nat) (h:HS),c.length - i=k→i≤c.length→cS ended c (.head h) (8*i)=match run cq h (c.drop i) with
  | .short _=>sh ended
  | .bad e=> [.bad e]
  | .fin n rest=> .hdr n::cS ended c (.mark n gh) (8*(c.length - rest.length))
 |0,i,h,hk,hi=>by
  rw [List.drop_of_length_le (by omega),sV]
  exact lC (by simp only [aF];rw [if_neg (by omega)])
 |k+1,i,h,hk,hi=>by
  have hlt:i<c.length:=by omega
  rw [yr hlt,eL]
  have hm:aF ended c (.head h) (8*i)=match cq h c[i] with
   | .more h'=> .go (.head h') (8*i+8)
   | .fin n=> .ev (.hdr n) (.mark n gh) (8*i+8)
   | .bad e=> .ev (.bad e) (.bad 0 e) (8*i+8):=by
   simp only [aF];rw [if_pos (by omega),yA hc hlt]<;>rfl
  cases hh:cq h c[i] with
  |more h'=>
   rw [hh] at hm
   rw [jn hm,show 8*i+8=8*(i+1) by omega]
   exact v7 hc k (i+1) h' (by omega) (by omega)
  |fin n=>
   rw [hh] at hm
   rw [k7 (by omega) hm rfl];simp only [List.length_drop];rw [show c.length - (c.length - (i+1))=i+1 by omega,show 8*i+8=8*(i+1) by omega]
  |bad e=>
   rw [hh] at hm
   rw [fY hm rfl]
theorem uP (hc: ∀x∈c,x<256) (n:Nat): ∀(k i:Nat) (m:MS),c.length - i=k→i≤c.length→cS ended c (.mark n m) (8*i)=match run (aX n) m (c.drop i) with
  | .short _=>sh ended
  | .bad e=> [.bad e]
  | .fin (.tail s) rest=> .tail s::cS ended c (.behind n) (8*(c.length - rest.length))
  | .fin (.aD M P s) rest=> .aD M P s::cS ended c (.tab n M t0) (8*(c.length - rest.length))
 |0,i,h,hk,hi=>by
  rw [List.drop_of_length_le (by omega),sV]
  exact lC (n:=n) (by simp only [aF];rw [if_neg (by omega)])
 |k+1,i,m,hk,hi=>by
  have hlt:i<c.length:=by omega
  rw [yr hlt,eL]
  have hm:aF ended c (.mark n m) (8*i)=match aX n m c[i] with
   | .more m'=> .go (.mark n m') (8*i+8)
   | .fin (.tail s)=> .ev (.tail s) (.behind n) (8*i+8)
   | .fin (.aD M P s)=> .ev (.aD M P s) (.tab n M t0) (8*i+8)
   | .bad e=> .ev (.bad e) (.bad n e) (8*i+8):=by
   simp only [aF];rw [if_pos (by omega),yA hc hlt]<;>rfl
  cases hh:aX n m c[i] with
  |more m'=>
   rw [hh] at hm
   rw [jn hm,show 8*i+8=8*(i+1) by omega]
   exact uP hc n k (i+1) m' (by omega) (by omega)
  |fin mk=>
   rw [hh] at hm
   cases mk with
   |tail s=>rw [k7 (by omega) hm rfl];simp only [List.length_drop];rw [show c.length - (c.length - (i+1))=i+1 by omega,show 8*i+8=8*(i+1) by omega]
   |aD M P s=>rw [k7 (by omega) hm rfl];simp only [List.length_drop];rw [show c.length - (c.length - (i+1))=i+1 by omega,show 8*i+8=8*(i+1) by omega]
  |bad e=>
   rw [hh] at hm
   rw [fY hm rfl]
theorem yV (n M:Nat): ∀(k u:Nat) (t:TS),8*c.length - u=k→u≤8*c.length→cS ended c (.tab n M t) u=match run (bd cn) t ((ba c).drop u) with
  | .short _=>sh ended
  | .bad e=> [.bad e]
  | .fin l more=>cS ended c (.sym n l 0 0 ⟨List.range 256,M,0,0⟩) (8*c.length - more.length)
 |0,u,t,hk,hu=>by
  rw [vO (by omega),sV]
  exact lC (n:=n) (by simp only [aF];rw [if_neg (by omega)])
 |k+1,u,t,hk,hu=>by
  rw [yy (by omega),eL]
  have hm:aF ended c (.tab n M t) u=match bd cn t (bR c u) with
   | .more t'=> .go (.tab n M t') (u+1)
   | .fin l=> .go (.sym n l 0 0 ⟨List.range 256,M,0,0⟩) (u+1)
   | .bad e=> .ev (.bad e) (.bad n e) (u+1):=by
   simp only [aF];rw [if_pos (by omega)]<;>rfl
  cases hh:bd cn t (bR c u) with
  |more t'=>
   rw [hh] at hm
   rw [jn hm]
   exact yV n M k (u+1) t' (by omega) (by omega)
  |fin l=>
   rw [hh] at hm
   rw [jn hm];simp only [List.length_drop,bD];rw [show 8*c.length - (8*c.length - (u+1))=u+1 by omega]
  |bad e=>
   rw [hh] at hm
   rw [fY hm rfl]
theorem s9 (n:Nat) (l:List Nat): ∀(q u k m:Nat) (d:DS),8*c.length - u=q→u≤8*c.length→cS ended c (.sym n l k m d) u=match cy l k m d ((ba c).drop u) with
  |(du,.short)=>du++sh ended
  |(du,.bad e)=>du++ [.bad e]
  |(du,.fin left)=>du++cS ended c (.pad n) (8*c.length - left.length)
 |0,u,k,m,d,hk,hu=>by
  rw [vO (by omega)]
  exact lC (n:=n) (by simp only [aF];rw [if_neg (by omega)])
 |q+1,u,k,m,d,hk,hu=>by
  rw [yy (by omega),cy]
  have hm:aF ended c (.sym n l k m d) u=match c7 l (2*k+bR c u) (m+1) with
   |none=> .go (.sym n l (2*k+bR c u) (m+1) d) (u+1)
   |some y=>match bX d y with
    |none=> .ev (.bad 160) (.bad n 160) (u+1)
    |some (d',t,en)=>if t= [] then .go (if en then .pad n else .sym n l 0 0 d') (u+1) else .ev (.bytes t) (if en then .pad n else .sym n l 0 0 d') (u+1):=by
   simp only [aF];rw [if_pos (by omega)]<;>rfl
  cases hf:c7 l (2*k+bR c u) (m+1) with
  |none=>
   rw [hf] at hm
   rw [jn hm]
   exact s9 n l q (u+1) _ _ d (by omega) (by omega)
  |some y=>
   rw [hf] at hm
   simp only at hm
   simp only
   cases hd:bX d y with
   |none=>
    rw [hd] at hm
    rw [fY hm rfl];rfl
   |some p=>
    obtain ⟨d',t,en⟩:=p
    rw [hd] at hm
    simp only at hm
    cases en with
    |true=>
     simp only
     by_cases ht:t= []
     ·rw [if_pos ht] at hm
      rw [if_pos ht,jn hm];simp only [List.length_drop,bD];rw [show 8*c.length - (8*c.length - (u+1))=u+1 by omega];rfl
     ·rw [if_neg ht] at hm
      rw [if_neg ht,k7 hu hm rfl];simp only [List.length_drop,bD];rw [show 8*c.length - (8*c.length - (u+1))=u+1 by omega];rfl
    |false=>
     have ih:=s9 n l q (u+1) 0 0 d' (by omega) (by omega)
     simp only
     by_cases ht:t= []
     ·rw [if_pos ht] at hm
      rw [if_pos ht,jn hm]
      exact ih
     ·rw [if_neg ht] at hm
      rw [if_neg ht,k7 hu hm rfl]
      simp only [Bool.false_eq_true,if_false]
      rw [ih]
      rcases cy l 0 0 d' ((ba c).drop (u+1)) with ⟨du,r⟩
      cases r<;>rfl
theorem mS {α:Type} {a b:List α} (h: ∃x,b=x++a):a=b.drop (b.length - a.length):=by
 obtain ⟨x,rfl⟩:=h
 rw [List.length_append,Nat.add_sub_cancel,List.drop_left]
theorem r7 {α σ β ε:Type} {f:σ→α→u7 σ β ε} {l:List α} {s:σ} {b:β} {r:List α} (h:run f s l= .fin b r):(∃x,l=x++r)∧r.length<l.length:=by
 obtain ⟨a,c,s',e,_,_⟩:=tH h
 refine ⟨⟨a++ [c],by rw [e];simp⟩,by rw [e];simp;omega⟩
theorem pZ (l:List Nat): ∀(b:List Nat) (k m:Nat) (d:DS) (du:List Ev) (left:List Nat),cy l k m d b=(du,.fin left)→(∃x,b=x++left)∧left.length<b.length
 | [],_,_,_,_,_,h=>by simp [cy] at h
 |x::b,k,m,d,du,left,h=>by
  rw [cy] at h
  have up:((∃y,b=y++left)∧left.length<b.length)→(∃y,x::b=y++left)∧left.length<(x::b).length:=fun ⟨⟨y,e⟩,hl⟩=>⟨⟨x::y,by rw [e];rfl⟩,by rw [List.length_cons];omega⟩
  cases hf:c7 l (2*k+x) (m+1) with
  |none=>rw [hf] at h;exact up (pZ l b _ _ d du left h)
  |some y=>
   rw [hf] at h
   simp only at h
   cases hd:bX d y with
   |none=>rw [hd] at h;simp at h
   |some p=>
    obtain ⟨d',t,en⟩:=p
    rw [hd] at h
    cases en with
    |true=>
     simp only at h
     injection h with h1 h2
     injection h2 with h2
     exact ⟨⟨[x],by rw [h2];rfl⟩,by rw [h2];simp⟩
    |false=>
     simp only at h
     injection h with h1 h2
     refine up (pZ l b 0 0 d' (cy l 0 0 d' b).1 left ?_)
     rw [←h2]
theorem val_zero (b:List Nat) (a:Nat): ∀n,val b a n=0↔∀j,j<n→bR b (a+j)=0
 |0=>by simp [val]
 |n+1=>by
  have ih:=val_zero b a n
  rw [val]
  constructor
  ·intro h j hj
   by_cases e:j=n
   ·rw [e];omega
   ·exact ih.1 (by omega) j (by omega)
  ·intro h
   have:=ih.2 fun j hj=>h j (by omega)
   have:=h n (by omega)
   omega
theorem Cf {u:Nat} (hu:u≤8*c.length):po ((ba c).drop u)=true↔val c u (hO u)=0:=by
 rw [val_zero]
 unfold po
 rw [List.all_eq_true,List.length_drop,bD]
 have hg:(8*c.length - u) % 8=hO u:=by unfold hO;split<;>omega
 have hle:=Bc (c:=c) hu
 rw [hg]
 have at_: ∀j,j<hO u→(((ba c).drop u).take (hO u))[j]? =some (bR c (u+j)):=fun j hj=>by
  rw [List.getElem?_take,if_pos hj,List.getElem?_drop]
  simp [ba,bitsOf,show u+j<8*c.length by omega]
 constructor
 ·intro h j hj
  have:=h (bR c (u+j)) (List.mem_of_getElem? (at_ j hj))
  simpa using this
 ·intro h x hx
  obtain ⟨j,hj,e⟩:=List.mem_iff_getElem.1 hx
  have hj2:j<hO u:=by rw [List.length_take] at hj;omega
  have:=at_ j hj2
  rw [List.getElem?_eq_getElem hj,e] at this
  injection this with this
  rw [this,h j hj2];rfl
theorem Ch (n M:Nat) {i:Nat} (hi:i≤c.length):cS ended c (.tab n M t0) (8*i)=(pE ended M (c.drop i)).1++match (pE ended M (c.drop i)).2 with
  |none=> []
  |some behind=>cS ended c (.mark n gh) (8*(c.length - behind.length)):=by
 rw [yV n M _ (8*i) t0 rfl (by omega),←oA]
 unfold pE
 cases hr:run (bd cn) t0 (ba (c.drop i)) with
 |short s=>simp
 |bad e=>simp
 |fin l more=>
  simp only
  obtain ⟨h1,h2⟩:=r7 hr
  rw [oA] at h1 h2
  have hm:more=(ba c).drop (8*c.length - more.length):=by
   have:=mS h1
   rw [List.drop_drop,List.length_drop,bD] at this
   rw [List.length_drop,bD] at h2
   rwa [show 8*i+(8*c.length - 8*i - more.length)=8*c.length - more.length by omega] at this
  rw [List.length_drop,bD] at h2
  rw [s9 n l _ _ 0 0 _ rfl (by omega),←hm]
  cases hs:cy l 0 0 ⟨List.range 256,M,0,0⟩ more with
  |mk du r=>
   cases r with
   |short=>simp
   |bad e=>simp
   |fin left=>
    simp only
    obtain ⟨h3,h4⟩:=pZ l _ _ _ _ _ _ hs
    generalize hu:8*c.length - left.length=u
    have hul:u≤8*c.length:=by omega
    have hleft:left=(ba c).drop u:=by
     have:=mS h3
     rw [hm,List.drop_drop,List.length_drop,bD] at this
     rwa [show 8*c.length - more.length+(8*c.length - (8*c.length - more.length) - left.length)=u by omega] at this
    have hp:=Cf (c:=c) hul
    rw [←hleft] at hp
    by_cases hpo:po left=true
    ·have hmic:aF ended c (.pad n) u= .ev .bend (.mark n gh) (u+hO u):=by simp only [aF];rw [if_pos (hp.1 hpo)]
     rw [if_pos hpo,k7 hul hmic rfl]
     simp only
     rw [List.length_drop,List.length_drop,show u+hO u=8*(c.length - (c.length - i - (c.length - i - left.length/8))) by unfold hO;split<;>omega]
     simp
    ·have hmic:aF ended c (.pad n) u= .ev (.bad 160) (.bad n 160) (u+hO u):=by simp only [aF];rw [if_neg (fun e=>hpo (hp.2 e))]
     rw [if_neg hpo,fY hmic rfl]
     simp
theorem CS {M:Nat} {rest behind:List Nat} (h:(pE ended M rest).2=some behind): ∃k,behind=rest.drop k:=by
 unfold pE at h
 cases hr:run (bd cn) t0 (ba rest) with
 |short s=>rw [hr] at h;simp at h
 |bad e=>rw [hr] at h;simp at h
 |fin l more=>
  rw [hr] at h
  simp only at h
  cases hs:cy l 0 0 ⟨List.range 256,M,0,0⟩ more with
  |mk du r=>
   rw [hs] at h
   cases r with
   |short=>simp at h
   |bad e=>simp at h
   |fin left=>
    simp only at h
    split at h
    ·simp only at h;injection h with h;exact ⟨_,h.symm⟩
    ·simp at h
theorem yM (hc: ∀x∈c,x<256) (n:Nat): ∀(k i:Nat),i≤c.length→c.length - i<k→cS ended c (.mark n gh) (8*i)=vY ended n k (c.drop i)
 |0,i,hi,hk=>by omega
 |k+1,i,hi,hk=>by
  rw [uP hc n _ i gh rfl hi,vY]
  cases hr:run (aX n) gh (c.drop i) with
  |short s=>rfl
  |bad e=>rfl
  |fin mk rest=>
   obtain ⟨h1,h2⟩:=r7 hr
   rw [List.length_drop] at h2
   have hrest:rest=c.drop (c.length - rest.length):=by
    have:=mS h1
    rw [List.drop_drop,List.length_drop] at this
    rwa [show i+(c.length - i - rest.length)=c.length - rest.length by omega] at this
   cases mk with
   |tail s=>
    simp only
    congr 1
    by_cases hz:rest= []
    ·have hl:rest.length=0:=by rw [hz];rfl
     cases hE:ended with
     |true=>
      have hmic:aF true c (.behind n) (8*(c.length - rest.length))= .ev .fin (.ab n) (8*(c.length - rest.length)):=by simp only [aF];rw [if_neg (by omega)]<;>rfl
      rw [fY hmic rfl];simp [hz]
     |false=>
      have hmic:aF false c (.behind n) (8*(c.length - rest.length))= .need:=by simp only [aF];rw [if_neg (by omega)]<;>rfl
      rw [qd hmic];simp [hz]
    ·have hl:=List.length_pos_iff.2 hz
     have hmic:aF ended c (.behind n) (8*(c.length - rest.length))= .ev (.bad 261) (.bad n 261) (8*(c.length - rest.length)):=by simp only [aF];rw [if_pos (by omega)]
     rw [fY hmic rfl];simp [hz]
   |aD M P s=>
    simp only
    congr 1
    rw [Ch n M (by omega),←hrest]
    congr 1
    cases hb:(pE ended M rest).2 with
    |none=>rfl
    |some behind=>
     simp only
     obtain ⟨q,e⟩:=CS hb
     have hbl:behind.length≤rest.length:=by rw [e,List.length_drop];omega
     rw [yM hc n k _ (by omega) (by omega)]
     congr 1
     rw [e,hrest,List.drop_drop,List.length_drop]
     rcases Nat.le_total q rest.length with hq|hq
     ·congr 1;omega
     ·rw [List.drop_of_length_le (by omega),List.drop_of_length_le (by omega)]
theorem E8 (hc: ∀x∈c,x<256):cS ended c (.head ⟨0,0⟩) 0=du ended c:=by
 have h:=v7 (ended:=ended) hc _ 0 ⟨0,0⟩ rfl (by omega)
 rw [Nat.mul_zero,List.drop_zero] at h
 rw [h]
 unfold du
 cases hr:run cq ⟨0,0⟩ c with
 |short s=>rfl
 |bad e=>rfl
 |fin n rest=>
  obtain ⟨h1,h2⟩:=r7 hr
  have hrest:=mS h1
  simp only
  congr 1
  rw [yM hc n (rest.length+1) _ (by omega) (by omega),←hrest]
end
end Go.Prs
set_option maxRecDepth 20000
namespace Go.Srt
theorem Er {l:List Nat} {c b x:Nat} (hl:l.length=258) (h:my l c b) (hx:x≤1):(eA l c b x).2=c7 l (2*c+x) (b+1):=by
 cases hs:(eA l c b x).2 with
 |some s=>
  obtain ⟨h1,h2,h3,h4⟩:=xe hl h hx hs
  have:=qO hl (s:=s) ⟨h1,by omega⟩
  rw [h2,h3] at this
  exact this.symm
 |none=>
  cases hf:c7 l (2*c+x) (b+1) with
  |none=>rfl
  |some s=>
   obtain ⟨⟨h1,h2⟩,h3,h4⟩:=m9 hf
   have hr:=zj (l:=l) (s:=s) (by omega) h2
   unfold code at h4
   unfold eA at hs
   split at hs
   ·rename_i hle
    rw [h3] at h4 hr
    omega
   ·cases hs
theorem FP {l:List Nat} {c b x:Nat}:(eA l c b x).1=match (eA l c b x).2 with|none=>(2*c+x,b+1)|some _=>(0,0):=by
 cases hs:(eA l c b x).2 with
 |none=>exact Eb hs
 |some s=>exact Eu hs
end Go.Srt
namespace Go.Proofs.YtgglghjnakclmaaGreat
open Go Go.Vc Go.aK Go.Srt Go.Inc Go.Sym Go.Tab Go.Hd Go.Prs
abbrev gu:=Int×Int×Int×Int×Int×Sl×Int×Unit
abbrev je:Ki:= .st [.int .u8,.int .i64,.int .i64,.int .i64,.int .u32,.sl,.int .i64]
def fj (o:Option Ev) (s:Sl):gu:=match o with
 |none=>(1,0,0,0,0,s,0,())
 |some (.hdr n)=>(2,(n:Int),0,0,0,s,0,())
 |some (.aD M P u)=>(3,0,(M:Int),(P:Int),(u:Int),s,0,())
 |some (.bytes _)=>(4,0,0,0,0,s,0,())
 |some .bend=>(5,0,0,0,0,s,0,())
 |some (.tail u)=>(6,0,0,0,(u:Int),s,0,())
 |some .fin=>(7,0,0,0,0,s,0,())
 |some (.bad e)=>(8,0,0,0,0,s,(e:Int),())
def jf (o:Option Ev):List Nat:=match o with
 |some (.bytes t)=>t
 |_=> []
structure PF where
 a:Int
 h0:Int
 h1:Int
 h2:Int
 h3:Int
 m0:Int
 m1:Int
 m2:Int
 m3:Int
 m4:Int
 m5:Int
 m6:Int
 T:List Value
 C:List Value
 B:List Value
 e:Int
abbrev nG (a h0 h1 h2 h3 m0 m1 m2 m3 m4 m5 m6:Int) (T C B:List Value) (e:Int):Array Value:=
 ⟨.int .i64 a:: .int .i64 h0:: .int .i64 h1:: .int .i64 h2:: .int .i64 h3:: .int .i64 m0:: .int .i64 m1:: .int .i64 m2:: .int .i64 m3:: .int .i64 m4:: .int .u32 m5:: .int .i64 m6::(T++(C++(B++ [.int .i64 e])))⟩
def rD (s:PS) (y:PF):Prop:=(y.T.length=262∧y.C.length=260∧y.B.length=260)∧match s with
 | .head h=>y.a=1∧y.h0=(h.at_:Int)∧y.h1=(h.v:Int)∧y.h2=(vm h.v:Int)∧y.h3=0∧y.m0=0∧y.m1=0∧y.m2=0∧y.m3=0∧y.m4=0∧y.m5=0∧y.m6=0∧wD h
 | .mark n m=>y.a=2∧y.h3=(n:Int)∧y.m0=(m.at_:Int)∧y.m1=(m.v:Int)∧y.m2=(vm m.v:Int)∧y.m3=(m.M:Int)∧y.m4=(m.P:Int)∧y.m5=(m.sum:Int)∧y.m6=(m.many:Int)∧1≤n∧n≤65536∧l5 n m
 | .tab n M t=>y.a=3∧y.h3=(n:Int)∧y.m3=(M:Int)∧1≤M∧M≤n∧n≤65536∧y.T=(dP (pad t.l) (t.l.length:Int) (t.bits:Int) (t.now:Int) (t.way:Int)).toList∧gd t
 | .sym n l k m d=>y.a=4∧y.h3=(n:Int)∧1≤n∧n≤65536∧y.C=(db l k m).toList∧l.length=258∧my l k m∧y.B=(fF d.L (d.left:Int) (d.run:Int) (d.digits:Int) false).toList∧jF d
 | .pad n=>y.a=5∧y.h3=(n:Int)∧1≤n∧n≤65536
 | .behind n=>y.a=6∧y.h3=(n:Int)
 | .ab n=>y.a=7∧y.h3=(n:Int)
 | .bad n e=>y.a=8∧y.h3=(n:Int)∧y.e=(e:Int)
def aS (b:Nat) (s:PS):HP:=fun f=> ∃y:PF,rD s y∧Sat [ao b (.cells (nG y.a y.h0 y.h1 y.h2 y.h3 y.m0 y.m1 y.m2 y.m3 y.m4 y.m5 y.m6 y.T y.C y.B y.e) 114 (0,0))] f
section
variable {E w:World} {F:List HP} {b:Nat} {s:PS}
theorem aS.fo (h:Hp E w (aS b s::F)): ∃y:PF,rD s y∧Hp E w (ao b (.cells (nG y.a y.h0 y.h1 y.h2 y.h3 y.m0 y.m1 y.m2 y.m3 y.m4 y.m5 y.m6 y.T y.C y.B y.e) 114 (0,0))::F):=by
 obtain ⟨y,h1,h⟩:=h.EP (X:=fun y:PF=>rD s y) (L:=fun y=> [ao b (.cells (nG y.a y.h0 y.h1 y.h2 y.h3 y.m0 y.m1 y.m2 y.m3 y.m4 y.m5 y.m6 y.T y.C y.B y.e) 114 (0,0))]) (fun f hf=>hf)
 exact ⟨y,h1,h⟩
theorem aS.shut (y:PF) (hr:rD s y) (h:Hp E w (ao b (.cells (nG y.a y.h0 y.h1 y.h2 y.h3 y.m0 y.m1 y.m2 y.m3 y.m4 y.m5 y.m6 y.T y.C y.B y.e) 114 (0,0))::F)):Hp E w (aS b s::F):=
 Hp.ED (l:= [_]) (fun f hf=>⟨y,hr,hf⟩) h
theorem aS.sh {a h0 h1 h2 h3 m0 m1 m2 m3 m4 m5 m6 e:Int} {T C B:List Value} (h:Hp E w (ao b (.cells (nG a h0 h1 h2 h3 m0 m1 m2 m3 m4 m5 m6 T C B e) 114 (0,0))::F)) (hr:rD s ⟨a,h0,h1,h2,h3,m0,m1,m2,m3,m4,m5,m6,T,C,B,e⟩):Hp E w (aS b s::F):=
 aS.shut ⟨a,h0,h1,h2,h3,m0,m1,m2,m3,m4,m5,m6,T,C,B,e⟩ hr h
end
section
variable {E w:World} {l F:List HP} {b:Nat} {x0 x1 x2 x3 x4 x5 x6 x7 x8 x9 x10 x11:Value} {T C B post:List Value} {z:Value} {t:TypeId} {fr:Nat×Nat} {put:Obj→List HP} {cs:Array Value} {K:World→Prop} {KA:Array Value→Prop}
abbrev nJ (x0 x1 x2 x3 x4 x5 x6 x7 x8 x9 x10 x11:Value) (R:List Value):Array Value:=⟨x0::x1::x2::x3::x4::x5::x6::x7::x8::x9::x10::x11::R⟩
theorem Aa [bo b l (nJ x0 x1 x2 x3 x4 x5 x6 x7 x8 x9 x10 x11 (T++post)) t (0,0) put] (h:Hp E w l) (hT:T.length=262) (hcs:cs.size=262) (hv:cs.toList.all ay=true)
  (hK: ∀w',Hp E w' (put (.cells (nJ x0 x1 x2 x3 x4 x5 x6 x7 x8 x9 x10 x11 (cs.toList++post)) t (0,0)))→K w'):aq 262 ⟨b,12,none⟩ cs w K:=
 aq.xm (pre:= [x0,x1,x2,x3,x4,x5,x6,x7,x8,x9,x10,x11]) (mid:=T) (post:=post) h rfl rfl hT hcs (List.all_eq_true.1 hv) hK
theorem Hl [bo b l (nJ x0 x1 x2 x3 x4 x5 x6 x7 x8 x9 x10 x11 (T++(C++post))) t (0,0) put] (h:Hp E w l) (hT:T.length=262) (hC:C.length=260) (hcs:cs.size=260) (hv:cs.toList.all ay=true)
  (hK: ∀w',Hp E w' (put (.cells (nJ x0 x1 x2 x3 x4 x5 x6 x7 x8 x9 x10 x11 (T++(cs.toList++post))) t (0,0)))→K w'):aq 260 ⟨b,274,none⟩ cs w K:=
 aq.xm (pre:=x0::x1::x2::x3::x4::x5::x6::x7::x8::x9::x10::x11::T) (mid:=C) (post:=post) h rfl (by simp [hT]) hC hcs (List.all_eq_true.1 hv) hK
theorem C7 [bo b l (nJ x0 x1 x2 x3 x4 x5 x6 x7 x8 x9 x10 x11 (T++(C++(B++post)))) t (0,0) put] (h:Hp E w l) (hT:T.length=262) (hC:C.length=260) (hB:B.length=260) (hcs:cs.size=260) (hv:cs.toList.all ay=true)
  (hK: ∀w',Hp E w' (put (.cells (nJ x0 x1 x2 x3 x4 x5 x6 x7 x8 x9 x10 x11 (T++(C++(cs.toList++post)))) t (0,0)))→K w'):aq 260 ⟨b,534,none⟩ cs w K:=
 aq.xm (pre:=x0::x1::x2::x3::x4::x5::x6::x7::x8::x9::x10::x11::(T++C)) (mid:=B) (post:=post) h (by simp) (by simp [hT,hC]) hB hcs (List.all_eq_true.1 hv) (fun w' h'=>hK w' (by simpa using h'))
theorem JE {v:Value} [bo b l (nJ x0 x1 x2 x3 x4 x5 x6 x7 x8 x9 x10 x11 (T++(C++(B++ [z])))) t (0,0) put] (h:Hp E w l) (hT:T.length=262) (hC:C.length=260) (hB:B.length=260) (hv:ay v=true)
  (hK: ∀w',Hp E w' (put (.cells (nJ x0 x1 x2 x3 x4 x5 x6 x7 x8 x9 x10 x11 (T++(C++(B++ [v])))) t (0,0)))→K w'):St ⟨b,794,none⟩ v w K:=
 St.xm (pre:=x0::x1::x2::x3::x4::x5::x6::x7::x8::x9::x10::x11::(T++(C++B))) (u:=z) (post:= []) h (by simp) (by simp [hT,hC,hB]) hv (fun w' h'=>hK w' (by simpa using h'))
theorem J2 [bo b l (nJ x0 x1 x2 x3 x4 x5 x6 x7 x8 x9 x10 x11 (T++post)) t fr put] (h:Hp E w l) (hT:T.length=262) (hK:KA ⟨T⟩):Ld (.arr 262) ⟨b,12,none⟩ w KA:=
 Ld.xa (mid:=T) (post:=post) h rfl hT hK
theorem J0 [bo b l (nJ x0 x1 x2 x3 x4 x5 x6 x7 x8 x9 x10 x11 (T++(C++post))) t fr put] (h:Hp E w l) (hT:T.length=262) (hC:C.length=260) (hK:KA ⟨C⟩):Ld (.arr 260) ⟨b,274,none⟩ w KA:=
 Ld.xa (mid:=C) (post:=post) h (by show (T++(C++post)).drop 262=_;rw [List.drop_left' hT]) hC hK
theorem JJ [bo b l (nJ x0 x1 x2 x3 x4 x5 x6 x7 x8 x9 x10 x11 (T++(C++(B++post)))) t fr put] (h:Hp E w l) (hT:T.length=262) (hC:C.length=260) (hB:B.length=260) (hK:KA ⟨B⟩):Ld (.arr 260) ⟨b,534,none⟩ w KA:=
 Ld.xa (mid:=B) (post:=post) h (by show (T++(C++(B++post))).drop 522=_;rw [←List.append_assoc,List.drop_left' (by simp [hT,hC])]) hB hK
theorem Jp {e:Int} {KI:Int→Prop} [bo b l (nJ x0 x1 x2 x3 x4 x5 x6 x7 x8 x9 x10 x11 (T++(C++(B++ [.int .i64 e])))) t fr put] (h:Hp E w l) (hT:T.length=262) (hC:C.length=260) (hB:B.length=260) (hK:KI e):Ld kI ⟨b,794,none⟩ w KI:=by
 refine Ld.xb (x:=e) h ?_ hK
 show (T++(C++(B++ [.int .i64 e])))[782]? =_
 rw [←List.append_assoc,←List.append_assoc,List.getElem?_append_right (by simp [hT,hC,hB])]
 simp [hT,hC,hB]
end
section
variable {E w:World} {F:List HP} {b pr:Nat} {c:List Nat} {u:Nat} {ended:Bool}
theorem cm {n:Nat} {K:Int×Unit→World→Prop} (h:Hp E w F) (hK: ∀w',Hp E w' F→K ((n:Int),()) w') (hn:n=1∨n=2∨n=3∨n=4∨n=5∨n=6∨n=7∨n=8):
  Cl Tryz.prog [.st [.int .i64]] (match n with|1=>fu|2=>dI|3=>dq|4=>dF|5=>dM|6=>dN|7=>eV|_=>fJ) ⟨[]⟩ w K:=by
 rcases hn with rfl|rfl|rfl|rfl|rfl|rfl|rfl|rfl
 ·refine uq.ok _ _ ?_
  (with_reducible repeat first|refine Nw.mk h fun b w h=> ?_|refine ah.mk h fun w h=> ?_|refine Ld.xb h rfl ?_|refine Ld.xt h rfl ?_|refine ad.xb (fun _ h=>h) rfl ?_|refine ad.xt (fun _ h=>h) rfl ?_|refine ⟨h.hb,?_⟩|refine ae.xw h rfl rfl fun w h=> ?_|(refine ae.xs h rfl rfl fun w h=> ?_;dsimp only [af,ab] at h)|(refine St.xs h rfl rfl fun w h=> ?_;dsimp only [af,ab] at h)|refine aa.yes ?_|refine aa.no ?_|refine ⟨by first|omega|decide,?_⟩)
  exact hK _ h.tl
 ·refine uj.ok _ _ ?_
  (with_reducible repeat first|refine Nw.mk h fun b w h=> ?_|refine ah.mk h fun w h=> ?_|refine Ld.xb h rfl ?_|refine Ld.xt h rfl ?_|refine ad.xb (fun _ h=>h) rfl ?_|refine ad.xt (fun _ h=>h) rfl ?_|refine ⟨h.hb,?_⟩|refine ae.xw h rfl rfl fun w h=> ?_|(refine ae.xs h rfl rfl fun w h=> ?_;dsimp only [af,ab] at h)|(refine St.xs h rfl rfl fun w h=> ?_;dsimp only [af,ab] at h)|refine aa.yes ?_|refine aa.no ?_|refine ⟨by first|omega|decide,?_⟩)
  exact hK _ h.tl
 ·refine sw.ok _ _ ?_
  (with_reducible repeat first|refine Nw.mk h fun b w h=> ?_|refine ah.mk h fun w h=> ?_|refine Ld.xb h rfl ?_|refine Ld.xt h rfl ?_|refine ad.xb (fun _ h=>h) rfl ?_|refine ad.xt (fun _ h=>h) rfl ?_|refine ⟨h.hb,?_⟩|refine ae.xw h rfl rfl fun w h=> ?_|(refine ae.xs h rfl rfl fun w h=> ?_;dsimp only [af,ab] at h)|(refine St.xs h rfl rfl fun w h=> ?_;dsimp only [af,ab] at h)|refine aa.yes ?_|refine aa.no ?_|refine ⟨by first|omega|decide,?_⟩)
  exact hK _ h.tl
 ·refine qE.ok _ _ ?_
  (with_reducible repeat first|refine Nw.mk h fun b w h=> ?_|refine ah.mk h fun w h=> ?_|refine Ld.xb h rfl ?_|refine Ld.xt h rfl ?_|refine ad.xb (fun _ h=>h) rfl ?_|refine ad.xt (fun _ h=>h) rfl ?_|refine ⟨h.hb,?_⟩|refine ae.xw h rfl rfl fun w h=> ?_|(refine ae.xs h rfl rfl fun w h=> ?_;dsimp only [af,ab] at h)|(refine St.xs h rfl rfl fun w h=> ?_;dsimp only [af,ab] at h)|refine aa.yes ?_|refine aa.no ?_|refine ⟨by first|omega|decide,?_⟩)
  exact hK _ h.tl
 ·refine qt.ok _ _ ?_
  (with_reducible repeat first|refine Nw.mk h fun b w h=> ?_|refine ah.mk h fun w h=> ?_|refine Ld.xb h rfl ?_|refine Ld.xt h rfl ?_|refine ad.xb (fun _ h=>h) rfl ?_|refine ad.xt (fun _ h=>h) rfl ?_|refine ⟨h.hb,?_⟩|refine ae.xw h rfl rfl fun w h=> ?_|(refine ae.xs h rfl rfl fun w h=> ?_;dsimp only [af,ab] at h)|(refine St.xs h rfl rfl fun w h=> ?_;dsimp only [af,ab] at h)|refine aa.yes ?_|refine aa.no ?_|refine ⟨by first|omega|decide,?_⟩)
  exact hK _ h.tl
 ·refine ud.ok _ _ ?_
  (with_reducible repeat first|refine Nw.mk h fun b w h=> ?_|refine ah.mk h fun w h=> ?_|refine Ld.xb h rfl ?_|refine Ld.xt h rfl ?_|refine ad.xb (fun _ h=>h) rfl ?_|refine ad.xt (fun _ h=>h) rfl ?_|refine ⟨h.hb,?_⟩|refine ae.xw h rfl rfl fun w h=> ?_|(refine ae.xs h rfl rfl fun w h=> ?_;dsimp only [af,ab] at h)|(refine St.xs h rfl rfl fun w h=> ?_;dsimp only [af,ab] at h)|refine aa.yes ?_|refine aa.no ?_|refine ⟨by first|omega|decide,?_⟩)
  exact hK _ h.tl
 ·refine xp.ok _ _ ?_
  (with_reducible repeat first|refine Nw.mk h fun b w h=> ?_|refine ah.mk h fun w h=> ?_|refine Ld.xb h rfl ?_|refine Ld.xt h rfl ?_|refine ad.xb (fun _ h=>h) rfl ?_|refine ad.xt (fun _ h=>h) rfl ?_|refine ⟨h.hb,?_⟩|refine ae.xw h rfl rfl fun w h=> ?_|(refine ae.xs h rfl rfl fun w h=> ?_;dsimp only [af,ab] at h)|(refine St.xs h rfl rfl fun w h=> ?_;dsimp only [af,ab] at h)|refine aa.yes ?_|refine aa.no ?_|refine ⟨by first|omega|decide,?_⟩)
  exact hK _ h.tl
 ·refine AO.ok _ _ ?_
  (with_reducible repeat first|refine Nw.mk h fun b w h=> ?_|refine ah.mk h fun w h=> ?_|refine Ld.xb h rfl ?_|refine Ld.xt h rfl ?_|refine ad.xb (fun _ h=>h) rfl ?_|refine ad.xt (fun _ h=>h) rfl ?_|refine ⟨h.hb,?_⟩|refine ae.xw h rfl rfl fun w h=> ?_|(refine ae.xs h rfl rfl fun w h=> ?_;dsimp only [af,ab] at h)|(refine St.xs h rfl rfl fun w h=> ?_;dsimp only [af,ab] at h)|refine aa.yes ?_|refine aa.no ?_|refine ⟨by first|omega|decide,?_⟩)
  exact hK _ h.tl
set_option maxRecDepth 20000
theorem g9 {a h0 h1 h2 h3 m0 m1 m2 m3 m4 m5 m6 e0 e:Int} {T C B:List Value} {K:gu→Bool→World→Prop} (hT:T.length=262) (hC:C.length=260) (hB:B.length=260)
  (h:Hp E w (ao b (.cells (nG a h0 h1 h2 h3 m0 m1 m2 m3 m4 m5 m6 T C B e0) 114 (0,0))::F))
  (hK: ∀w',Hp E w' (ao b (.cells (nG 8 h0 h1 h2 h3 m0 m1 m2 m3 m4 m5 m6 T C B e) 114 (0,0))::F)→K (8,0,0,0,0,⟨none,0,0⟩,e,()) true w'):
  Cl Tryz.prog [je,kB] a6 ⟨[.pointer (some ⟨b,0,none⟩),.int .i64 e]⟩ w K:=by
 refine nS.ok _ _ _ _ ?_
 (try simp only [au,ak,al,Nat.zero_add,Nat.add_zero,Nat.reduceAdd,Bool.not_true,Bool.not_false,aH,aE,Option.isNone])
 (with_reducible repeat first|refine Nw.mk h fun b w h=> ?_|refine ah.mk h fun w h=> ?_|refine Ld.xb h rfl ?_|refine Ld.xt h rfl ?_|refine ad.xb (fun _ h=>h) rfl ?_|refine ad.xt (fun _ h=>h) rfl ?_|refine ⟨h.hb,?_⟩|refine ae.xw h rfl rfl fun w h=> ?_|(refine ae.xs h rfl rfl fun w h=> ?_;dsimp only [af,ab] at h)|(refine St.xs h rfl rfl fun w h=> ?_;dsimp only [af,ab] at h)|refine aa.yes ?_|refine aa.no ?_|refine ⟨by first|omega|decide,?_⟩)
 refine cm (n:=8) h (fun w h=> ?_) (by simp)
 (with_reducible repeat first|refine Nw.mk h fun b w h=> ?_|refine ah.mk h fun w h=> ?_|refine Ld.xb h rfl ?_|refine Ld.xt h rfl ?_|refine ad.xb (fun _ h=>h) rfl ?_|refine ad.xt (fun _ h=>h) rfl ?_|refine ⟨h.hb,?_⟩|refine ae.xw h rfl rfl fun w h=> ?_|(refine ae.xs h rfl rfl fun w h=> ?_;dsimp only [af,ab] at h)|(refine St.xs h rfl rfl fun w h=> ?_;dsimp only [af,ab] at h)|refine aa.yes ?_|refine aa.no ?_|refine ⟨by first|omega|decide,?_⟩)
 refine JE h hT hC hB rfl fun w h=> ?_
 (with_reducible repeat first|refine Nw.mk h fun b w h=> ?_|refine ah.mk h fun w h=> ?_|refine Ld.xb h rfl ?_|refine Ld.xt h rfl ?_|refine ad.xb (fun _ h=>h) rfl ?_|refine ad.xt (fun _ h=>h) rfl ?_|refine ⟨h.hb,?_⟩|refine ae.xw h rfl rfl fun w h=> ?_|(refine ae.xs h rfl rfl fun w h=> ?_;dsimp only [af,ab] at h)|(refine St.xs h rfl rfl fun w h=> ?_;dsimp only [af,ab] at h)|refine aa.yes ?_|refine aa.no ?_|refine ⟨by first|omega|decide,?_⟩)
 exact hK _ (h.no 0)
theorem pv {a h0 h1 h2 h3 m0 m1 m2 m3 m4 m5 m6 e0:Int} {width:Nat} {T C B:List Value} {K:Int→gu→Bool→World→Prop} (hT:T.length=262) (hC:C.length=260) (hB:B.length=260) (hw:width≤32)
  (h:Hp E w (ao b (.cells (nG a h0 h1 h2 h3 m0 m1 m2 m3 m4 m5 m6 T C B e0) 114 (0,0))::Rd ⟨pr,0,none⟩ c u ended::F))
  (hgot:u+width≤8*c.length→∀w',Hp E w' (ao b (.cells (nG a h0 h1 h2 h3 m0 m1 m2 m3 m4 m5 m6 T C B e0) 114 (0,0))::Rd ⟨pr,0,none⟩ c (u+width) ended::F)→K (val c u width:Int) (0,0,0,0,0,⟨none,0,0⟩,0,()) true w')
  (hend: ¬u+width≤8*c.length→ended=true→∀w',Hp E w' (ao b (.cells (nG 8 h0 h1 h2 h3 m0 m1 m2 m3 m4 m5 m6 T C B 50) 114 (0,0))::Rd ⟨pr,0,none⟩ c u ended::F)→K 0 (8,0,0,0,0,⟨none,0,0⟩,50,()) false w')
  (hneed: ¬u+width≤8*c.length→ended=false→∀w',Hp E w' (ao b (.cells (nG a h0 h1 h2 h3 m0 m1 m2 m3 m4 m5 m6 T C B e0) 114 (0,0))::Rd ⟨pr,0,none⟩ c u ended::F)→K 0 (1,0,0,0,0,⟨none,0,0⟩,0,()) false w'):
  Cl Tryz.prog [az .u32,je,kB] cc ⟨[.pointer (some ⟨b,0,none⟩),.pointer (some ⟨pr,0,none⟩),.int .i64 (width:Int)]⟩ w K:=by
 refine n6.ok _ _ _ _ _ ?_
 have hpk:fq c u (width:Int)=decide (u+width≤8*c.length):=by
  unfold fq
  obtain ⟨_,_,_,_,hu,_⟩:=Rd.fo (h.at 1)
  exact decide_eq_decide.2 (by omega)
 (with_reducible repeat first|refine Nw.mk h fun b w h=> ?_|refine ah.mk h fun w h=> ?_|refine Ld.xb h rfl ?_|refine Ld.xt h rfl ?_|refine ad.xb (fun _ h=>h) rfl ?_|refine ad.xt (fun _ h=>h) rfl ?_|refine ⟨h.hb,?_⟩|refine ae.xw h rfl rfl fun w h=> ?_|(refine ae.xs h rfl rfl fun w h=> ?_;dsimp only [af,ab] at h)|(refine St.xs h rfl rfl fun w h=> ?_;dsimp only [af,ab] at h)|refine aa.yes ?_|refine aa.no ?_|refine ⟨by first|omega|decide,?_⟩)
 refine Cw (h.at 2) fun w h=> ?_
 rw [hpk] at h⊢
 by_cases hle:u+width≤8*c.length
 ·rw [decide_eq_true hle] at h⊢
  rw [if_pos rfl,Int.toNat_natCast] at h
  have hv:gC c u (width:Int)=(val c u width:Int):=by
   unfold gC
   rw [if_pos (by omega),Int.toNat_natCast]
  rw [hv]
  (with_reducible repeat first|refine Nw.mk h fun b w h=> ?_|refine ah.mk h fun w h=> ?_|refine Ld.xb h rfl ?_|refine Ld.xt h rfl ?_|refine ad.xb (fun _ h=>h) rfl ?_|refine ad.xt (fun _ h=>h) rfl ?_|refine ⟨h.hb,?_⟩|refine ae.xw h rfl rfl fun w h=> ?_|(refine ae.xs h rfl rfl fun w h=> ?_;dsimp only [af,ab] at h)|(refine St.xs h rfl rfl fun w h=> ?_;dsimp only [af,ab] at h)|refine aa.yes ?_|refine aa.no ?_|refine ⟨by first|omega|decide,?_⟩)
  exact hgot hle _ ((h.at 0).no 1|>.at 1)
 ·rw [decide_eq_false hle] at h⊢
  rw [if_neg (by simp)] at h
  (with_reducible repeat first|refine Nw.mk h fun b w h=> ?_|refine ah.mk h fun w h=> ?_|refine Ld.xb h rfl ?_|refine Ld.xt h rfl ?_|refine ad.xb (fun _ h=>h) rfl ?_|refine ad.xt (fun _ h=>h) rfl ?_|refine ⟨h.hb,?_⟩|refine ae.xw h rfl rfl fun w h=> ?_|(refine ae.xs h rfl rfl fun w h=> ?_;dsimp only [af,ab] at h)|(refine St.xs h rfl rfl fun w h=> ?_;dsimp only [af,ab] at h)|refine aa.yes ?_|refine aa.no ?_|refine ⟨by first|omega|decide,?_⟩)
  refine yF h ?_
  cases ended
  ·(with_reducible repeat first|refine Nw.mk h fun b w h=> ?_|refine ah.mk h fun w h=> ?_|refine Ld.xb h rfl ?_|refine Ld.xt h rfl ?_|refine ad.xb (fun _ h=>h) rfl ?_|refine ad.xt (fun _ h=>h) rfl ?_|refine ⟨h.hb,?_⟩|refine ae.xw h rfl rfl fun w h=> ?_|(refine ae.xs h rfl rfl fun w h=> ?_;dsimp only [af,ab] at h)|(refine St.xs h rfl rfl fun w h=> ?_;dsimp only [af,ab] at h)|refine aa.yes ?_|refine aa.no ?_|refine ⟨by first|omega|decide,?_⟩)
   exact hneed hle rfl _ ((h.no 1).at 1)
  ·(with_reducible repeat first|refine Nw.mk h fun b w h=> ?_|refine ah.mk h fun w h=> ?_|refine Ld.xb h rfl ?_|refine Ld.xt h rfl ?_|refine ad.xb (fun _ h=>h) rfl ?_|refine ad.xt (fun _ h=>h) rfl ?_|refine ⟨h.hb,?_⟩|refine ae.xw h rfl rfl fun w h=> ?_|(refine ae.xs h rfl rfl fun w h=> ?_;dsimp only [af,ab] at h)|(refine St.xs h rfl rfl fun w h=> ?_;dsimp only [af,ab] at h)|refine aa.yes ?_|refine aa.no ?_|refine ⟨by first|omega|decide,?_⟩)
   refine g9 hT hC hB (h.at 2) fun w h=> ?_
   (with_reducible repeat first|refine Nw.mk h fun b w h=> ?_|refine ah.mk h fun w h=> ?_|refine Ld.xb h rfl ?_|refine Ld.xt h rfl ?_|refine ad.xb (fun _ h=>h) rfl ?_|refine ad.xt (fun _ h=>h) rfl ?_|refine ⟨h.hb,?_⟩|refine ae.xw h rfl rfl fun w h=> ?_|(refine ae.xs h rfl rfl fun w h=> ?_;dsimp only [af,ab] at h)|(refine St.xs h rfl rfl fun w h=> ?_;dsimp only [af,ab] at h)|refine aa.yes ?_|refine aa.no ?_|refine ⟨by first|omega|decide,?_⟩)
   exact hend hle rfl _ (h.no 2)
end
end Go.Proofs.YtgglghjnakclmaaGreat
namespace Go.Proofs.YtgglghjnakclmaaGreat
open Go Go.Vc Go.aK Go.Srt Go.Inc Go.Sym Go.Tab Go.Hd Go.Prs
section
variable {E w:World} {F:List HP} {b pr:Nat} {c:List Nat} {u:Nat} {ended:Bool}
def nk (b pr:Nat) (c:List Nat) (ended:Bool) (s:PS) (u:Nat) (E:World) (F:List HP) (K:gu→Bool→World→Prop):Prop:=
 (∀s' u' x w',aF ended c s u= .go s' u'→Hp E w' (aS b s'::Rd ⟨pr,0,none⟩ c u' ended::F)→K x false w')∧
 (∀w',aF ended c s u= .need→Hp E w' (aS b s::Rd ⟨pr,0,none⟩ c u ended::F)→K (fj none ⟨none,0,0⟩) true w')∧
 (∀e s' u' sl w',aF ended c s u= .ev e s' u'→(∀x∈jf (some e),x<256)→Hp E w' (aA 1 sl ((jf (some e)).map vB)::aS b s'::Rd ⟨pr,0,none⟩ c u' ended::F)→K (fj (some e) sl) true w')
theorem yN {c:List Nat} {u:Nat}:val c u 8<256:=iq c u 8
theorem wM {c:List Nat} {u:Nat}:val c u 1=bR c u:=by
 have h1:=FE c u 1 0 (by decide)
 have h2:=iq c u 1
 simp at h1
 omega
set_option maxRecDepth 20000
theorem Ft {hs:HS} {K:gu→Bool→World→Prop} (h:Hp E w (aS b (.head hs)::Rd ⟨pr,0,none⟩ c u ended::F)) (hK:nk b pr c ended (.head hs) u E F K):
  Cl Tryz.prog [je,kB] eo ⟨[.pointer (some ⟨b,0,none⟩),.pointer (some ⟨pr,0,none⟩)]⟩ w K:=by
 obtain ⟨k1,k2,k3⟩:=hK
 obtain ⟨⟨a,h0,h1,h2,h3,m0,m1,m2,m3,m4,m5,m6,T,C,B,e⟩,⟨⟨hT,hC,hB⟩,hr⟩,h⟩:=aS.fo h
 dsimp only at hT hC hB hr h
 obtain ⟨rfl,rfl,rfl,rfl,rfl,rfl,rfl,rfl,rfl,rfl,rfl,rfl,hok⟩:=hr
 refine nT.ok _ _ _ _ ?_
 (try simp only [au,ak,al,Nat.zero_add,Nat.add_zero,Nat.reduceAdd,Bool.not_true,Bool.not_false,aH,aE,Option.isNone])
 (with_reducible repeat first|refine Nw.mk h fun b w h=> ?_|refine ah.mk h fun w h=> ?_|refine Ld.xb h rfl ?_|refine Ld.xt h rfl ?_|refine ad.xb (fun _ h=>h) rfl ?_|refine ad.xt (fun _ h=>h) rfl ?_|refine ⟨h.hb,?_⟩|refine ae.xw h rfl rfl fun w h=> ?_|(refine ae.xs h rfl rfl fun w h=> ?_;dsimp only [af,ab] at h)|(refine St.xs h rfl rfl fun w h=> ?_;dsimp only [af,ab] at h)|refine aa.yes ?_|refine aa.no ?_|refine ⟨by first|omega|decide,?_⟩)
 refine pv (width:=8) hT hC hB (by decide) (h.at 1|>.at 2|>.at 1) (fun hle w h=> ?_) (fun hle he w h=> ?_) (fun hle he w h=> ?_)
 ·have hv:=yN (c:=c) (u:=u)
  (with_reducible repeat first|refine Nw.mk h fun b w h=> ?_|refine ah.mk h fun w h=> ?_|refine Ld.xb h rfl ?_|refine Ld.xt h rfl ?_|refine ad.xb (fun _ h=>h) rfl ?_|refine ad.xt (fun _ h=>h) rfl ?_|refine ⟨h.hb,?_⟩|refine ae.xw h rfl rfl fun w h=> ?_|(refine ae.xs h rfl rfl fun w h=> ?_;dsimp only [af,ab] at h)|(refine St.xs h rfl rfl fun w h=> ?_;dsimp only [af,ab] at h)|refine aa.yes ?_|refine aa.no ?_|refine ⟨by first|omega|decide,?_⟩)
  rw [eb (by omega)]
  refine FZ h hok hv (fun s' w hq h=> ?_) (fun n w hq h=> ?_) (fun er o w hq h=> ?_)
  ·(with_reducible repeat first|refine Nw.mk h fun b w h=> ?_|refine ah.mk h fun w h=> ?_|refine Ld.xb h rfl ?_|refine Ld.xt h rfl ?_|refine ad.xb (fun _ h=>h) rfl ?_|refine ad.xt (fun _ h=>h) rfl ?_|refine ⟨h.hb,?_⟩|refine ae.xw h rfl rfl fun w h=> ?_|(refine ae.xs h rfl rfl fun w h=> ?_;dsimp only [af,ab] at h)|(refine St.xs h rfl rfl fun w h=> ?_;dsimp only [af,ab] at h)|refine aa.yes ?_|refine aa.no ?_|refine ⟨by first|omega|decide,?_⟩)
   have hmic:aF ended c (.head hs) u= .go (.head s') (u+8):=by unfold aF;dsimp only;rw [if_pos hle,hq]
   refine k1 _ _ _ _ hmic (aS.sh ((((h.no 0).no 0).no 2)) ⟨⟨hT,hC,hB⟩,rfl,rfl,rfl,rfl,rfl,rfl,rfl,rfl,rfl,rfl,rfl,rfl,DU hok hv hq⟩)
  ·(with_reducible repeat first|refine Nw.mk h fun b w h=> ?_|refine ah.mk h fun w h=> ?_|refine Ld.xb h rfl ?_|refine Ld.xt h rfl ?_|refine ad.xb (fun _ h=>h) rfl ?_|refine ad.xt (fun _ h=>h) rfl ?_|refine ⟨h.hb,?_⟩|refine ae.xw h rfl rfl fun w h=> ?_|(refine ae.xs h rfl rfl fun w h=> ?_;dsimp only [af,ab] at h)|(refine St.xs h rfl rfl fun w h=> ?_;dsimp only [af,ab] at h)|refine aa.yes ?_|refine aa.no ?_|refine ⟨by first|omega|decide,?_⟩)
   refine cm (n:=2) h (fun w h=> ?_) (by simp)
   (with_reducible repeat first|refine Nw.mk h fun b w h=> ?_|refine ah.mk h fun w h=> ?_|refine Ld.xb h rfl ?_|refine Ld.xt h rfl ?_|refine ad.xb (fun _ h=>h) rfl ?_|refine ad.xt (fun _ h=>h) rfl ?_|refine ⟨h.hb,?_⟩|refine ae.xw h rfl rfl fun w h=> ?_|(refine ae.xs h rfl rfl fun w h=> ?_;dsimp only [af,ab] at h)|(refine St.xs h rfl rfl fun w h=> ?_;dsimp only [af,ab] at h)|refine aa.yes ?_|refine aa.no ?_|refine ⟨by first|omega|decide,?_⟩)
   have hmic:aF ended c (.head hs) u= .ev (.hdr n) (.mark n gh) (u+8):=by unfold aF;dsimp only;rw [if_pos hle,hq]
   have hn:=Cu hv hq
   refine k3 _ _ _ _ _ hmic (fun _ hx=>by cases hx) (Hp.aW (aS.sh (s:= .mark n gh) ((((h.no 0).no 0).no 2)) ⟨⟨hT,hC,hB⟩,rfl,rfl,rfl,rfl,rfl,rfl,rfl,rfl,rfl,hn.1,hn.2,.inl ⟨rfl,rfl⟩⟩) 1)
  ·(with_reducible repeat first|refine Nw.mk h fun b w h=> ?_|refine ah.mk h fun w h=> ?_|refine Ld.xb h rfl ?_|refine Ld.xt h rfl ?_|refine ad.xb (fun _ h=>h) rfl ?_|refine ad.xt (fun _ h=>h) rfl ?_|refine ⟨h.hb,?_⟩|refine ae.xw h rfl rfl fun w h=> ?_|(refine ae.xs h rfl rfl fun w h=> ?_;dsimp only [af,ab] at h)|(refine St.xs h rfl rfl fun w h=> ?_;dsimp only [af,ab] at h)|refine aa.yes ?_|refine aa.no ?_|refine ⟨by first|omega|decide,?_⟩)
   have:er≠0:=by
    rintro rfl
    unfold cq at hq
    split at hq
    ·split at hq
     ·cases hq
     ·split at hq<;>cases hq
    ·split at hq<;>cases hq
   refine aa.nt (by omega) ?_
   refine g9 hT hC hB (h.at 2) fun w h=> ?_
   (with_reducible repeat first|refine Nw.mk h fun b w h=> ?_|refine ah.mk h fun w h=> ?_|refine Ld.xb h rfl ?_|refine Ld.xt h rfl ?_|refine ad.xb (fun _ h=>h) rfl ?_|refine ad.xt (fun _ h=>h) rfl ?_|refine ⟨h.hb,?_⟩|refine ae.xw h rfl rfl fun w h=> ?_|(refine ae.xs h rfl rfl fun w h=> ?_;dsimp only [af,ab] at h)|(refine St.xs h rfl rfl fun w h=> ?_;dsimp only [af,ab] at h)|refine aa.yes ?_|refine aa.no ?_|refine ⟨by first|omega|decide,?_⟩)
   have hmic:aF ended c (.head hs) u= .ev (.bad er) (.bad 0 er) (u+8):=by unfold aF;dsimp only;rw [if_pos hle,hq]
   refine k3 _ _ _ _ _ hmic (fun _ hx=>by cases hx) (Hp.aW (aS.sh (s:= .bad 0 er) ((((h.no 1).no 1).no 2)) ⟨⟨hT,hC,hB⟩,rfl,rfl,rfl⟩) 1)
 ·(with_reducible repeat first|refine Nw.mk h fun b w h=> ?_|refine ah.mk h fun w h=> ?_|refine Ld.xb h rfl ?_|refine Ld.xt h rfl ?_|refine ad.xb (fun _ h=>h) rfl ?_|refine ad.xt (fun _ h=>h) rfl ?_|refine ⟨h.hb,?_⟩|refine ae.xw h rfl rfl fun w h=> ?_|(refine ae.xs h rfl rfl fun w h=> ?_;dsimp only [af,ab] at h)|(refine St.xs h rfl rfl fun w h=> ?_;dsimp only [af,ab] at h)|refine aa.yes ?_|refine aa.no ?_|refine ⟨by first|omega|decide,?_⟩)
  have hmic:aF ended c (.head hs) u= .ev (.bad 50) (.bad 0 50) u:=by
   unfold aF short;dsimp only;rw [if_neg hle,he];rfl
  subst he
  refine k3 _ _ _ _ _ hmic (fun _ hx=>by cases hx) (Hp.aW (aS.sh (s:= .bad 0 50) (((h.no 0).no 2)) ⟨⟨hT,hC,hB⟩,rfl,rfl,rfl⟩) 1)
 ·(with_reducible repeat first|refine Nw.mk h fun b w h=> ?_|refine ah.mk h fun w h=> ?_|refine Ld.xb h rfl ?_|refine Ld.xt h rfl ?_|refine ad.xb (fun _ h=>h) rfl ?_|refine ad.xt (fun _ h=>h) rfl ?_|refine ⟨h.hb,?_⟩|refine ae.xw h rfl rfl fun w h=> ?_|(refine ae.xs h rfl rfl fun w h=> ?_;dsimp only [af,ab] at h)|(refine St.xs h rfl rfl fun w h=> ?_;dsimp only [af,ab] at h)|refine aa.yes ?_|refine aa.no ?_|refine ⟨by first|omega|decide,?_⟩)
  have hmic:aF ended c (.head hs) u= .need:=by
   unfold aF short;dsimp only;rw [if_neg hle,he];rfl
  subst he
  refine k2 _ hmic (aS.sh (((h.no 0).no 2)) ⟨⟨hT,hC,hB⟩,rfl,rfl,rfl,rfl,rfl,rfl,rfl,rfl,rfl,rfl,rfl,rfl,hok⟩)
end
end Go.Proofs.YtgglghjnakclmaaGreat
namespace Go.Proofs.YtgglghjnakclmaaGreat
open Go Go.Vc Go.aK Go.Srt Go.Inc Go.Sym Go.Tab Go.Hd Go.Prs
section
variable {E w:World} {F:List HP} {b pr:Nat} {c:List Nat} {u:Nat} {ended:Bool}
set_option maxRecDepth 20000
theorem cf.Jj {K:Array Value→Prop} (hK:K (dP (List.replicate 258 0) 0 0 0 0)):cf Tryz.prog 106 [] K:=by
 refine ⟨_,(by kernel_rfl:Tryz.prog.built 106 []=some ⟨List.replicate 258 (.int .u8 0)++ [.int .i64 0,.int .i64 0,.int .i64 0,.int .i64 0]⟩),?_⟩
 rw [Cr];exact hK
theorem qX {n:Nat} {m:MS} {x e:Nat} (h:aX n m x= .bad e):e=242:=by
 unfold aX at h
 split at h
 ·split at h
  ·cases h
  ·split at h<;>cases h
   rfl
 ·split at h
  ·split at h<;>cases h
   rfl
  ·split at h
   ·split at h<;>cases h
    rfl
   ·split at h
    ·split at h<;>cases h
    ·cases h
theorem FF {n:Nat} {m:MS} {K:gu→Bool→World→Prop} (h:Hp E w (aS b (.mark n m)::Rd ⟨pr,0,none⟩ c u ended::F)) (hK:nk b pr c ended (.mark n m) u E F K):
  Cl Tryz.prog [je,kB] eg ⟨[.pointer (some ⟨b,0,none⟩),.pointer (some ⟨pr,0,none⟩)]⟩ w K:=by
 obtain ⟨k1,k2,k3⟩:=hK
 obtain ⟨⟨a,h0,h1,h2,h3,m0,m1,m2,m3,m4,m5,m6,T,C,B,e⟩,⟨⟨hT,hC,hB⟩,hr⟩,h⟩:=aS.fo h
 dsimp only at hT hC hB hr h
 obtain ⟨rfl,rfl,rfl,rfl,rfl,rfl,rfl,rfl,rfl,hn1,hn2,hok⟩:=hr
 refine nP.ok _ _ _ _ ?_
 (try simp only [au,ak,al,Nat.zero_add,Nat.add_zero,Nat.reduceAdd,Bool.not_true,Bool.not_false,aH,aE,Option.isNone])
 refine Nw.mk h fun b4 w h=> ?_
 refine pv (width:=8) hT hC hB (by decide) (h.at 1|>.at 2|>.at 1) (fun hle w h=> ?_) (fun hle he w h=> ?_) (fun hle he w h=> ?_)
 ·have hv:=yN (c:=c) (u:=u)
  refine Nw.mk h fun b10 w h=> ?_
  (with_reducible repeat first|refine Nw.mk h fun b w h=> ?_|refine ah.mk h fun w h=> ?_|refine Ld.xb h rfl ?_|refine Ld.xt h rfl ?_|refine ad.xb (fun _ h=>h) rfl ?_|refine ad.xt (fun _ h=>h) rfl ?_|refine ⟨h.hb,?_⟩|refine ae.xw h rfl rfl fun w h=> ?_|(refine ae.xs h rfl rfl fun w h=> ?_;dsimp only [af,ab] at h)|(refine St.xs h rfl rfl fun w h=> ?_;dsimp only [af,ab] at h)|refine aa.yes ?_|refine aa.no ?_|refine ⟨by first|omega|decide,?_⟩)
  rw [eb (by omega)]
  have rest: ∀(bs:Nat) (w:World) (r:lg) (d:Bool) (e':Int) (G:List HP),
    G= [ao b10 (.cells ⟨[.int .u8 0,.int .i64 0,.int .i64 0,.int .i64 0,.int .u32 0,.slice none 0 0,.int .i64 0]⟩ 29 (0,0))]→True:=fun _ _ _ _ _ _ _=>trivial
  have h:=h.drew (n:=w.drawn+1)
  refine ⟨cr b _ _ _,h.hb,?_⟩
  dsimp only
  (with_reducible repeat first|refine Nw.mk h fun b w h=> ?_|refine ah.mk h fun w h=> ?_|refine Ld.xb h rfl ?_|refine Ld.xt h rfl ?_|refine ad.xb (fun _ h=>h) rfl ?_|refine ad.xt (fun _ h=>h) rfl ?_|refine ⟨h.hb,?_⟩|refine ae.xw h rfl rfl fun w h=> ?_|(refine ae.xs h rfl rfl fun w h=> ?_;dsimp only [af,ab] at h)|(refine St.xs h rfl rfl fun w h=> ?_;dsimp only [af,ab] at h)|refine aa.yes ?_|refine aa.no ?_|refine ⟨by first|omega|decide,?_⟩)
  constructor
  ·refine yL h hn1 hn2 hok hv (fun m' w hq h=>⟨h.hb,?_⟩) (fun M P s w hq h=>⟨h.hb,?_⟩) (fun s w hq h=>⟨h.hb,?_⟩) (fun er o w hq h=>⟨h.hb,?_⟩)
   ·have hmic:aF ended c (.mark n m) u= .go (.mark n m') (u+8):=by unfold aF;dsimp only;rw [if_pos hle,hq]
    (with_reducible repeat first|refine Nw.mk h fun b w h=> ?_|refine ah.mk h fun w h=> ?_|refine Ld.xb h rfl ?_|refine Ld.xt h rfl ?_|refine ad.xb (fun _ h=>h) rfl ?_|refine ad.xt (fun _ h=>h) rfl ?_|refine ⟨h.hb,?_⟩|refine ae.xw h rfl rfl fun w h=> ?_|(refine ae.xs h rfl rfl fun w h=> ?_;dsimp only [af,ab] at h)|(refine St.xs h rfl rfl fun w h=> ?_;dsimp only [af,ab] at h)|refine aa.yes ?_|refine aa.no ?_|refine ⟨by first|omega|decide,?_⟩)
    refine k1 _ _ _ _ hmic (aS.sh (((h.no 0).no 0).no 2) ⟨⟨hT,hC,hB⟩,rfl,rfl,rfl,rfl,rfl,rfl,rfl,rfl,rfl,hn1,hn2,v8 hok hv hq⟩)
   ·have hmic:aF ended c (.mark n m) u= .ev (.aD M P s) (.tab n M t0) (u+8):=by unfold aF;dsimp only;rw [if_pos hle,hq]
    have hM:=tO hok hq
    (with_reducible repeat first|refine Nw.mk h fun b w h=> ?_|refine ah.mk h fun w h=> ?_|refine Ld.xb h rfl ?_|refine Ld.xt h rfl ?_|refine ad.xb (fun _ h=>h) rfl ?_|refine ad.xt (fun _ h=>h) rfl ?_|refine ⟨h.hb,?_⟩|refine ae.xw h rfl rfl fun w h=> ?_|(refine ae.xs h rfl rfl fun w h=> ?_;dsimp only [af,ab] at h)|(refine St.xs h rfl rfl fun w h=> ?_;dsimp only [af,ab] at h)|refine aa.yes ?_|refine aa.no ?_|refine ⟨by first|omega|decide,?_⟩)
    refine cm (n:=3) h (fun w h=> ?_) (by simp)
    refine cf.Jj ?_
    (with_reducible repeat first|refine Nw.mk h fun b w h=> ?_|refine ah.mk h fun w h=> ?_|refine Ld.xb h rfl ?_|refine Ld.xt h rfl ?_|refine ad.xb (fun _ h=>h) rfl ?_|refine ad.xt (fun _ h=>h) rfl ?_|refine ⟨h.hb,?_⟩|refine ae.xw h rfl rfl fun w h=> ?_|(refine ae.xs h rfl rfl fun w h=> ?_;dsimp only [af,ab] at h)|(refine St.xs h rfl rfl fun w h=> ?_;dsimp only [af,ab] at h)|refine aa.yes ?_|refine aa.no ?_|refine ⟨by first|omega|decide,?_⟩)
    refine Aa h hT (bC List.length_replicate) br fun w h=> ?_
    (with_reducible repeat first|refine Nw.mk h fun b w h=> ?_|refine ah.mk h fun w h=> ?_|refine Ld.xb h rfl ?_|refine Ld.xt h rfl ?_|refine ad.xb (fun _ h=>h) rfl ?_|refine ad.xt (fun _ h=>h) rfl ?_|refine ⟨h.hb,?_⟩|refine ae.xw h rfl rfl fun w h=> ?_|(refine ae.xs h rfl rfl fun w h=> ?_;dsimp only [af,ab] at h)|(refine St.xs h rfl rfl fun w h=> ?_;dsimp only [af,ab] at h)|refine aa.yes ?_|refine aa.no ?_|refine ⟨by first|omega|decide,?_⟩)
    refine k3 _ _ _ _ _ hmic (fun _ hx=>by cases hx) (Hp.aW (aS.sh (s:= .tab n M t0) (((h.no 0).no 0).no 2) ⟨⟨by simp,hC,hB⟩,rfl,rfl,rfl,hM.1,hM.2.1,hn2,rfl,gd.zero⟩) 1)
   ·have hmic:aF ended c (.mark n m) u= .ev (.tail s) (.behind n) (u+8):=by unfold aF;dsimp only;rw [if_pos hle,hq]
    (with_reducible repeat first|refine Nw.mk h fun b w h=> ?_|refine ah.mk h fun w h=> ?_|refine Ld.xb h rfl ?_|refine Ld.xt h rfl ?_|refine ad.xb (fun _ h=>h) rfl ?_|refine ad.xt (fun _ h=>h) rfl ?_|refine ⟨h.hb,?_⟩|refine ae.xw h rfl rfl fun w h=> ?_|(refine ae.xs h rfl rfl fun w h=> ?_;dsimp only [af,ab] at h)|(refine St.xs h rfl rfl fun w h=> ?_;dsimp only [af,ab] at h)|refine aa.yes ?_|refine aa.no ?_|refine ⟨by first|omega|decide,?_⟩)
    refine cm (n:=6) h (fun w h=> ?_) (by simp)
    (with_reducible repeat first|refine Nw.mk h fun b w h=> ?_|refine ah.mk h fun w h=> ?_|refine Ld.xb h rfl ?_|refine Ld.xt h rfl ?_|refine ad.xb (fun _ h=>h) rfl ?_|refine ad.xt (fun _ h=>h) rfl ?_|refine ⟨h.hb,?_⟩|refine ae.xw h rfl rfl fun w h=> ?_|(refine ae.xs h rfl rfl fun w h=> ?_;dsimp only [af,ab] at h)|(refine St.xs h rfl rfl fun w h=> ?_;dsimp only [af,ab] at h)|refine aa.yes ?_|refine aa.no ?_|refine ⟨by first|omega|decide,?_⟩)
    refine k3 _ _ _ _ _ hmic (fun _ hx=>by cases hx) (Hp.aW (aS.sh (s:= .behind n) (((h.no 0).no 0).no 2) ⟨⟨hT,hC,hB⟩,rfl,rfl⟩) 1)
   ·have hmic:aF ended c (.mark n m) u= .ev (.bad er) (.bad n er) (u+8):=by unfold aF;dsimp only;rw [if_pos hle,hq]
    have:=qX hq
    (with_reducible repeat first|refine Nw.mk h fun b w h=> ?_|refine ah.mk h fun w h=> ?_|refine Ld.xb h rfl ?_|refine Ld.xt h rfl ?_|refine ad.xb (fun _ h=>h) rfl ?_|refine ad.xt (fun _ h=>h) rfl ?_|refine ⟨h.hb,?_⟩|refine ae.xw h rfl rfl fun w h=> ?_|(refine ae.xs h rfl rfl fun w h=> ?_;dsimp only [af,ab] at h)|(refine St.xs h rfl rfl fun w h=> ?_;dsimp only [af,ab] at h)|refine aa.yes ?_|refine aa.no ?_|refine ⟨by first|omega|decide,?_⟩)
    refine g9 hT hC hB (h.at 2) fun w h=> ?_
    (with_reducible repeat first|refine Nw.mk h fun b w h=> ?_|refine ah.mk h fun w h=> ?_|refine Ld.xb h rfl ?_|refine Ld.xt h rfl ?_|refine ad.xb (fun _ h=>h) rfl ?_|refine ad.xt (fun _ h=>h) rfl ?_|refine ⟨h.hb,?_⟩|refine ae.xw h rfl rfl fun w h=> ?_|(refine ae.xs h rfl rfl fun w h=> ?_;dsimp only [af,ab] at h)|(refine St.xs h rfl rfl fun w h=> ?_;dsimp only [af,ab] at h)|refine aa.yes ?_|refine aa.no ?_|refine ⟨by first|omega|decide,?_⟩)
    refine k3 _ _ _ _ _ hmic (fun _ hx=>by cases hx) (Hp.aW (aS.sh (s:= .bad n er) (((h.no 1).no 1).no 2) ⟨⟨hT,hC,hB⟩,rfl,rfl,rfl⟩) 1)
  ·refine Nw.mk h fun bn w h=>⟨h.hb,?_⟩
   refine yL h hn1 hn2 hok hv (fun m' w hq h=>⟨h.hb,?_⟩) (fun M P s w hq h=>⟨h.hb,?_⟩) (fun s w hq h=>⟨h.hb,?_⟩) (fun er o w hq h=>⟨h.hb,?_⟩)
   ·have hmic:aF ended c (.mark n m) u= .go (.mark n m') (u+8):=by unfold aF;dsimp only;rw [if_pos hle,hq]
    (with_reducible repeat first|refine Nw.mk h fun b w h=> ?_|refine ah.mk h fun w h=> ?_|refine Ld.xb h rfl ?_|refine Ld.xt h rfl ?_|refine ad.xb (fun _ h=>h) rfl ?_|refine ad.xt (fun _ h=>h) rfl ?_|refine ⟨h.hb,?_⟩|refine ae.xw h rfl rfl fun w h=> ?_|(refine ae.xs h rfl rfl fun w h=> ?_;dsimp only [af,ab] at h)|(refine St.xs h rfl rfl fun w h=> ?_;dsimp only [af,ab] at h)|refine aa.yes ?_|refine aa.no ?_|refine ⟨by first|omega|decide,?_⟩)
    refine k1 _ _ _ _ hmic (aS.sh (((h.no 0).no 0).no 2) ⟨⟨hT,hC,hB⟩,rfl,rfl,rfl,rfl,rfl,rfl,rfl,rfl,rfl,hn1,hn2,v8 hok hv hq⟩)
   ·have hmic:aF ended c (.mark n m) u= .ev (.aD M P s) (.tab n M t0) (u+8):=by unfold aF;dsimp only;rw [if_pos hle,hq]
    have hM:=tO hok hq
    (with_reducible repeat first|refine Nw.mk h fun b w h=> ?_|refine ah.mk h fun w h=> ?_|refine Ld.xb h rfl ?_|refine Ld.xt h rfl ?_|refine ad.xb (fun _ h=>h) rfl ?_|refine ad.xt (fun _ h=>h) rfl ?_|refine ⟨h.hb,?_⟩|refine ae.xw h rfl rfl fun w h=> ?_|(refine ae.xs h rfl rfl fun w h=> ?_;dsimp only [af,ab] at h)|(refine St.xs h rfl rfl fun w h=> ?_;dsimp only [af,ab] at h)|refine aa.yes ?_|refine aa.no ?_|refine ⟨by first|omega|decide,?_⟩)
    refine cm (n:=3) h (fun w h=> ?_) (by simp)
    refine cf.Jj ?_
    (with_reducible repeat first|refine Nw.mk h fun b w h=> ?_|refine ah.mk h fun w h=> ?_|refine Ld.xb h rfl ?_|refine Ld.xt h rfl ?_|refine ad.xb (fun _ h=>h) rfl ?_|refine ad.xt (fun _ h=>h) rfl ?_|refine ⟨h.hb,?_⟩|refine ae.xw h rfl rfl fun w h=> ?_|(refine ae.xs h rfl rfl fun w h=> ?_;dsimp only [af,ab] at h)|(refine St.xs h rfl rfl fun w h=> ?_;dsimp only [af,ab] at h)|refine aa.yes ?_|refine aa.no ?_|refine ⟨by first|omega|decide,?_⟩)
    refine Aa h hT (bC List.length_replicate) br fun w h=> ?_
    (with_reducible repeat first|refine Nw.mk h fun b w h=> ?_|refine ah.mk h fun w h=> ?_|refine Ld.xb h rfl ?_|refine Ld.xt h rfl ?_|refine ad.xb (fun _ h=>h) rfl ?_|refine ad.xt (fun _ h=>h) rfl ?_|refine ⟨h.hb,?_⟩|refine ae.xw h rfl rfl fun w h=> ?_|(refine ae.xs h rfl rfl fun w h=> ?_;dsimp only [af,ab] at h)|(refine St.xs h rfl rfl fun w h=> ?_;dsimp only [af,ab] at h)|refine aa.yes ?_|refine aa.no ?_|refine ⟨by first|omega|decide,?_⟩)
    refine k3 _ _ _ _ _ hmic (fun _ hx=>by cases hx) (Hp.aW (aS.sh (s:= .tab n M t0) (((h.no 0).no 0).no 2) ⟨⟨by simp,hC,hB⟩,rfl,rfl,rfl,hM.1,hM.2.1,hn2,rfl,gd.zero⟩) 1)
   ·have hmic:aF ended c (.mark n m) u= .ev (.tail s) (.behind n) (u+8):=by unfold aF;dsimp only;rw [if_pos hle,hq]
    (with_reducible repeat first|refine Nw.mk h fun b w h=> ?_|refine ah.mk h fun w h=> ?_|refine Ld.xb h rfl ?_|refine Ld.xt h rfl ?_|refine ad.xb (fun _ h=>h) rfl ?_|refine ad.xt (fun _ h=>h) rfl ?_|refine ⟨h.hb,?_⟩|refine ae.xw h rfl rfl fun w h=> ?_|(refine ae.xs h rfl rfl fun w h=> ?_;dsimp only [af,ab] at h)|(refine St.xs h rfl rfl fun w h=> ?_;dsimp only [af,ab] at h)|refine aa.yes ?_|refine aa.no ?_|refine ⟨by first|omega|decide,?_⟩)
    refine cm (n:=6) h (fun w h=> ?_) (by simp)
    (with_reducible repeat first|refine Nw.mk h fun b w h=> ?_|refine ah.mk h fun w h=> ?_|refine Ld.xb h rfl ?_|refine Ld.xt h rfl ?_|refine ad.xb (fun _ h=>h) rfl ?_|refine ad.xt (fun _ h=>h) rfl ?_|refine ⟨h.hb,?_⟩|refine ae.xw h rfl rfl fun w h=> ?_|(refine ae.xs h rfl rfl fun w h=> ?_;dsimp only [af,ab] at h)|(refine St.xs h rfl rfl fun w h=> ?_;dsimp only [af,ab] at h)|refine aa.yes ?_|refine aa.no ?_|refine ⟨by first|omega|decide,?_⟩)
    refine k3 _ _ _ _ _ hmic (fun _ hx=>by cases hx) (Hp.aW (aS.sh (s:= .behind n) (((h.no 0).no 0).no 2) ⟨⟨hT,hC,hB⟩,rfl,rfl⟩) 1)
   ·have hmic:aF ended c (.mark n m) u= .ev (.bad er) (.bad n er) (u+8):=by unfold aF;dsimp only;rw [if_pos hle,hq]
    have:=qX hq
    (with_reducible repeat first|refine Nw.mk h fun b w h=> ?_|refine ah.mk h fun w h=> ?_|refine Ld.xb h rfl ?_|refine Ld.xt h rfl ?_|refine ad.xb (fun _ h=>h) rfl ?_|refine ad.xt (fun _ h=>h) rfl ?_|refine ⟨h.hb,?_⟩|refine ae.xw h rfl rfl fun w h=> ?_|(refine ae.xs h rfl rfl fun w h=> ?_;dsimp only [af,ab] at h)|(refine St.xs h rfl rfl fun w h=> ?_;dsimp only [af,ab] at h)|refine aa.yes ?_|refine aa.no ?_|refine ⟨by first|omega|decide,?_⟩)
    refine g9 hT hC hB (h.at 2) fun w h=> ?_
    (with_reducible repeat first|refine Nw.mk h fun b w h=> ?_|refine ah.mk h fun w h=> ?_|refine Ld.xb h rfl ?_|refine Ld.xt h rfl ?_|refine ad.xb (fun _ h=>h) rfl ?_|refine ad.xt (fun _ h=>h) rfl ?_|refine ⟨h.hb,?_⟩|refine ae.xw h rfl rfl fun w h=> ?_|(refine ae.xs h rfl rfl fun w h=> ?_;dsimp only [af,ab] at h)|(refine St.xs h rfl rfl fun w h=> ?_;dsimp only [af,ab] at h)|refine aa.yes ?_|refine aa.no ?_|refine ⟨by first|omega|decide,?_⟩)
    refine k3 _ _ _ _ _ hmic (fun _ hx=>by cases hx) (Hp.aW (aS.sh (s:= .bad n er) (((h.no 1).no 1).no 2) ⟨⟨hT,hC,hB⟩,rfl,rfl,rfl⟩) 1)
 ·(with_reducible repeat first|refine Nw.mk h fun b w h=> ?_|refine ah.mk h fun w h=> ?_|refine Ld.xb h rfl ?_|refine Ld.xt h rfl ?_|refine ad.xb (fun _ h=>h) rfl ?_|refine ad.xt (fun _ h=>h) rfl ?_|refine ⟨h.hb,?_⟩|refine ae.xw h rfl rfl fun w h=> ?_|(refine ae.xs h rfl rfl fun w h=> ?_;dsimp only [af,ab] at h)|(refine St.xs h rfl rfl fun w h=> ?_;dsimp only [af,ab] at h)|refine aa.yes ?_|refine aa.no ?_|refine ⟨by first|omega|decide,?_⟩)
  have hmic:aF ended c (.mark n m) u= .ev (.bad 50) (.bad n 50) u:=by
   unfold aF short;dsimp only;rw [if_neg hle,he];rfl
  subst he
  refine k3 _ _ _ _ _ hmic (fun _ hx=>by cases hx) (Hp.aW (aS.sh (s:= .bad n 50) ((h.no 0).no 2) ⟨⟨hT,hC,hB⟩,rfl,rfl,rfl⟩) 1)
 ·(with_reducible repeat first|refine Nw.mk h fun b w h=> ?_|refine ah.mk h fun w h=> ?_|refine Ld.xb h rfl ?_|refine Ld.xt h rfl ?_|refine ad.xb (fun _ h=>h) rfl ?_|refine ad.xt (fun _ h=>h) rfl ?_|refine ⟨h.hb,?_⟩|refine ae.xw h rfl rfl fun w h=> ?_|(refine ae.xs h rfl rfl fun w h=> ?_;dsimp only [af,ab] at h)|(refine St.xs h rfl rfl fun w h=> ?_;dsimp only [af,ab] at h)|refine aa.yes ?_|refine aa.no ?_|refine ⟨by first|omega|decide,?_⟩)
  have hmic:aF ended c (.mark n m) u= .need:=by
   unfold aF short;dsimp only;rw [if_neg hle,he];rfl
  subst he
  refine k2 _ hmic (aS.sh ((h.no 0).no 2) ⟨⟨hT,hC,hB⟩,rfl,rfl,rfl,rfl,rfl,rfl,rfl,rfl,rfl,hn1,hn2,hok⟩)
theorem Ci {n:Nat} {K:gu→Bool→World→Prop} (h:Hp E w (aS b (.pad n)::Rd ⟨pr,0,none⟩ c u ended::F)) (hK:nk b pr c ended (.pad n) u E F K):
  Cl Tryz.prog [je,kB] dy ⟨[.pointer (some ⟨b,0,none⟩),.pointer (some ⟨pr,0,none⟩)]⟩ w K:=by
 obtain ⟨k1,k2,k3⟩:=hK
 obtain ⟨⟨a,h0,h1,h2,h3,m0,m1,m2,m3,m4,m5,m6,T,C,B,e⟩,⟨⟨hT,hC,hB⟩,hr⟩,h⟩:=aS.fo h
 dsimp only at hT hC hB hr h
 obtain ⟨rfl,rfl,hn1,hn2⟩:=hr
 refine mE.ok _ _ _ _ ?_
 (try simp only [au,ak,al,Nat.zero_add,Nat.add_zero,Nat.reduceAdd,Bool.not_true,Bool.not_false,aH,aE,Option.isNone])
 refine Nw.mk h fun b4 w h=> ?_
 refine FH (h.at 2) fun w h=> ?_
 rw [show dS u=hO u from rfl] at h⊢
 by_cases hv:val c u (hO u)=0
 ·have hmic:aF ended c (.pad n) u= .ev .bend (.mark n gh) (u+hO u):=by unfold aF;dsimp only;rw [if_pos hv]
  (with_reducible repeat first|refine Nw.mk h fun b w h=> ?_|refine ah.mk h fun w h=> ?_|refine Ld.xb h rfl ?_|refine Ld.xt h rfl ?_|refine ad.xb (fun _ h=>h) rfl ?_|refine ad.xt (fun _ h=>h) rfl ?_|refine ⟨h.hb,?_⟩|refine ae.xw h rfl rfl fun w h=> ?_|(refine ae.xs h rfl rfl fun w h=> ?_;dsimp only [af,ab] at h)|(refine St.xs h rfl rfl fun w h=> ?_;dsimp only [af,ab] at h)|refine aa.yes ?_|refine aa.no ?_|refine ⟨by first|omega|decide,?_⟩)
  refine cm (n:=2) h (fun w h=> ?_) (by simp)
  (with_reducible repeat first|refine Nw.mk h fun b w h=> ?_|refine ah.mk h fun w h=> ?_|refine Ld.xb h rfl ?_|refine Ld.xt h rfl ?_|refine ad.xb (fun _ h=>h) rfl ?_|refine ad.xt (fun _ h=>h) rfl ?_|refine ⟨h.hb,?_⟩|refine ae.xw h rfl rfl fun w h=> ?_|(refine ae.xs h rfl rfl fun w h=> ?_;dsimp only [af,ab] at h)|(refine St.xs h rfl rfl fun w h=> ?_;dsimp only [af,ab] at h)|refine aa.yes ?_|refine aa.no ?_|refine ⟨by first|omega|decide,?_⟩)
  refine k3 _ _ _ _ _ hmic (fun _ hx=>by cases hx) (Hp.aW (aS.sh (s:= .mark n gh) ((h.no 1).at 1) ⟨⟨hT,hC,hB⟩,rfl,rfl,rfl,rfl,rfl,rfl,rfl,rfl,rfl,hn1,hn2,.inl ⟨rfl,rfl⟩⟩) 1)
 ·have hmic:aF ended c (.pad n) u= .ev (.bad 160) (.bad n 160) (u+hO u):=by unfold aF;dsimp only;rw [if_neg hv]
  (with_reducible repeat first|refine Nw.mk h fun b w h=> ?_|refine ah.mk h fun w h=> ?_|refine Ld.xb h rfl ?_|refine Ld.xt h rfl ?_|refine ad.xb (fun _ h=>h) rfl ?_|refine ad.xt (fun _ h=>h) rfl ?_|refine ⟨h.hb,?_⟩|refine ae.xw h rfl rfl fun w h=> ?_|(refine ae.xs h rfl rfl fun w h=> ?_;dsimp only [af,ab] at h)|(refine St.xs h rfl rfl fun w h=> ?_;dsimp only [af,ab] at h)|refine aa.yes ?_|refine aa.no ?_|refine ⟨by first|omega|decide,?_⟩)
  refine g9 hT hC hB (h.at 2) fun w h=> ?_
  (with_reducible repeat first|refine Nw.mk h fun b w h=> ?_|refine ah.mk h fun w h=> ?_|refine Ld.xb h rfl ?_|refine Ld.xt h rfl ?_|refine ad.xb (fun _ h=>h) rfl ?_|refine ad.xt (fun _ h=>h) rfl ?_|refine ⟨h.hb,?_⟩|refine ae.xw h rfl rfl fun w h=> ?_|(refine ae.xs h rfl rfl fun w h=> ?_;dsimp only [af,ab] at h)|(refine St.xs h rfl rfl fun w h=> ?_;dsimp only [af,ab] at h)|refine aa.yes ?_|refine aa.no ?_|refine ⟨by first|omega|decide,?_⟩)
  refine k3 _ _ _ _ _ hmic (fun _ hx=>by cases hx) (Hp.aW (aS.sh (s:= .bad n 160) (h.no 2) ⟨⟨hT,hC,hB⟩,rfl,rfl,rfl⟩) 1)
theorem FK {n:Nat} {K:gu→Bool→World→Prop} (h:Hp E w (aS b (.behind n)::Rd ⟨pr,0,none⟩ c u ended::F)) (hK:nk b pr c ended (.behind n) u E F K):
  Cl Tryz.prog [je,kB] ee ⟨[.pointer (some ⟨b,0,none⟩),.pointer (some ⟨pr,0,none⟩)]⟩ w K:=by
 obtain ⟨k1,k2,k3⟩:=hK
 obtain ⟨⟨a,h0,h1,h2,h3,m0,m1,m2,m3,m4,m5,m6,T,C,B,e⟩,⟨⟨hT,hC,hB⟩,hr⟩,h⟩:=aS.fo h
 dsimp only at hT hC hB hr h
 obtain ⟨rfl,rfl⟩:=hr
 refine nR.ok _ _ _ _ ?_
 (try simp only [au,ak,al,Nat.zero_add,Nat.add_zero,Nat.reduceAdd,Bool.not_true,Bool.not_false,aH,aE,Option.isNone])
 refine Nw.mk h fun b4 w h=> ?_
 refine rK (h.at 2) fun w h _=> ?_
 by_cases hv:u<8*c.length
 ·have hmic:aF ended c (.behind n) u= .ev (.bad 261) (.bad n 261) u:=by unfold aF;dsimp only;rw [if_pos hv]
  (with_reducible repeat first|refine Nw.mk h fun b w h=> ?_|refine ah.mk h fun w h=> ?_|refine Ld.xb h rfl ?_|refine Ld.xt h rfl ?_|refine ad.xb (fun _ h=>h) rfl ?_|refine ad.xt (fun _ h=>h) rfl ?_|refine ⟨h.hb,?_⟩|refine ae.xw h rfl rfl fun w h=> ?_|(refine ae.xs h rfl rfl fun w h=> ?_;dsimp only [af,ab] at h)|(refine St.xs h rfl rfl fun w h=> ?_;dsimp only [af,ab] at h)|refine aa.yes ?_|refine aa.no ?_|refine ⟨by first|omega|decide,?_⟩)
  refine g9 hT hC hB (h.at 2) fun w h=> ?_
  (with_reducible repeat first|refine Nw.mk h fun b w h=> ?_|refine ah.mk h fun w h=> ?_|refine Ld.xb h rfl ?_|refine Ld.xt h rfl ?_|refine ad.xb (fun _ h=>h) rfl ?_|refine ad.xt (fun _ h=>h) rfl ?_|refine ⟨h.hb,?_⟩|refine ae.xw h rfl rfl fun w h=> ?_|(refine ae.xs h rfl rfl fun w h=> ?_;dsimp only [af,ab] at h)|(refine St.xs h rfl rfl fun w h=> ?_;dsimp only [af,ab] at h)|refine aa.yes ?_|refine aa.no ?_|refine ⟨by first|omega|decide,?_⟩)
  refine k3 _ _ _ _ _ hmic (fun _ hx=>by cases hx) (Hp.aW (aS.sh (s:= .bad n 261) (h.no 2) ⟨⟨hT,hC,hB⟩,rfl,rfl,rfl⟩) 1)
 ·(with_reducible repeat first|refine Nw.mk h fun b w h=> ?_|refine ah.mk h fun w h=> ?_|refine Ld.xb h rfl ?_|refine Ld.xt h rfl ?_|refine ad.xb (fun _ h=>h) rfl ?_|refine ad.xt (fun _ h=>h) rfl ?_|refine ⟨h.hb,?_⟩|refine ae.xw h rfl rfl fun w h=> ?_|(refine ae.xs h rfl rfl fun w h=> ?_;dsimp only [af,ab] at h)|(refine St.xs h rfl rfl fun w h=> ?_;dsimp only [af,ab] at h)|refine aa.yes ?_|refine aa.no ?_|refine ⟨by first|omega|decide,?_⟩)
  refine yF h ?_
  cases ended
  ·have hmic:aF false c (.behind n) u= .need:=by unfold aF;dsimp only;rw [if_neg hv];rfl
   (with_reducible repeat first|refine Nw.mk h fun b w h=> ?_|refine ah.mk h fun w h=> ?_|refine Ld.xb h rfl ?_|refine Ld.xt h rfl ?_|refine ad.xb (fun _ h=>h) rfl ?_|refine ad.xt (fun _ h=>h) rfl ?_|refine ⟨h.hb,?_⟩|refine ae.xw h rfl rfl fun w h=> ?_|(refine ae.xs h rfl rfl fun w h=> ?_;dsimp only [af,ab] at h)|(refine St.xs h rfl rfl fun w h=> ?_;dsimp only [af,ab] at h)|refine aa.yes ?_|refine aa.no ?_|refine ⟨by first|omega|decide,?_⟩)
   refine k2 _ hmic (aS.sh ((h.no 1).at 1) ⟨⟨hT,hC,hB⟩,rfl,rfl⟩)
  ·have hmic:aF true c (.behind n) u= .ev .fin (.ab n) u:=by unfold aF;dsimp only;rw [if_neg hv];rfl
   (with_reducible repeat first|refine Nw.mk h fun b w h=> ?_|refine ah.mk h fun w h=> ?_|refine Ld.xb h rfl ?_|refine Ld.xt h rfl ?_|refine ad.xb (fun _ h=>h) rfl ?_|refine ad.xt (fun _ h=>h) rfl ?_|refine ⟨h.hb,?_⟩|refine ae.xw h rfl rfl fun w h=> ?_|(refine ae.xs h rfl rfl fun w h=> ?_;dsimp only [af,ab] at h)|(refine St.xs h rfl rfl fun w h=> ?_;dsimp only [af,ab] at h)|refine aa.yes ?_|refine aa.no ?_|refine ⟨by first|omega|decide,?_⟩)
   refine cm (n:=7) h (fun w h=> ?_) (by simp)
   (with_reducible repeat first|refine Nw.mk h fun b w h=> ?_|refine ah.mk h fun w h=> ?_|refine Ld.xb h rfl ?_|refine Ld.xt h rfl ?_|refine ad.xb (fun _ h=>h) rfl ?_|refine ad.xt (fun _ h=>h) rfl ?_|refine ⟨h.hb,?_⟩|refine ae.xw h rfl rfl fun w h=> ?_|(refine ae.xs h rfl rfl fun w h=> ?_;dsimp only [af,ab] at h)|(refine St.xs h rfl rfl fun w h=> ?_;dsimp only [af,ab] at h)|refine aa.yes ?_|refine aa.no ?_|refine ⟨by first|omega|decide,?_⟩)
   refine k3 _ _ _ _ _ hmic (fun _ hx=>by cases hx) (Hp.aW (aS.sh (s:= .ab n) ((h.no 1).at 1) ⟨⟨hT,hC,hB⟩,rfl,rfl⟩) 1)
theorem HQ {n:Nat} {r:Option Addr} {K:gu→Bool→World→Prop} (h:Hp E w (aS b (.ab n)::F)) (hK: ∀w',Hp E w' (aS b (.ab n)::F)→K (fj (some .fin) ⟨none,0,0⟩) true w'):
  Cl Tryz.prog [je,kB] eE ⟨[.pointer (some ⟨b,0,none⟩),.pointer r]⟩ w K:=by
 refine nW.ok _ _ _ _ ?_
 (with_reducible repeat first|refine Nw.mk h fun b w h=> ?_|refine ah.mk h fun w h=> ?_|refine Ld.xb h rfl ?_|refine Ld.xt h rfl ?_|refine ad.xb (fun _ h=>h) rfl ?_|refine ad.xt (fun _ h=>h) rfl ?_|refine ⟨h.hb,?_⟩|refine ae.xw h rfl rfl fun w h=> ?_|(refine ae.xs h rfl rfl fun w h=> ?_;dsimp only [af,ab] at h)|(refine St.xs h rfl rfl fun w h=> ?_;dsimp only [af,ab] at h)|refine aa.yes ?_|refine aa.no ?_|refine ⟨by first|omega|decide,?_⟩)
 exact hK _ h.tl
theorem FT {n er:Nat} {r:Option Addr} {K:gu→Bool→World→Prop} (h:Hp E w (aS b (.bad n er)::F)) (hK: ∀w',Hp E w' (aS b (.bad n er)::F)→K (fj (some (.bad er)) ⟨none,0,0⟩) true w'):
  Cl Tryz.prog [je,kB] ez ⟨[.pointer (some ⟨b,0,none⟩),.pointer r]⟩ w K:=by
 obtain ⟨⟨a,h0,h1,h2,h3,m0,m1,m2,m3,m4,m5,m6,T,C,B,e⟩,⟨⟨hT,hC,hB⟩,hr⟩,h⟩:=aS.fo h
 dsimp only at hT hC hB hr h
 obtain ⟨rfl,rfl,rfl⟩:=hr
 refine nQ.ok _ _ _ _ ?_
 (try simp only [au,ak,al,Nat.zero_add,Nat.add_zero,Nat.reduceAdd,Bool.not_true,Bool.not_false,aH,aE,Option.isNone])
 (with_reducible repeat first|refine Nw.mk h fun b w h=> ?_|refine ah.mk h fun w h=> ?_|refine Ld.xb h rfl ?_|refine Ld.xt h rfl ?_|refine ad.xb (fun _ h=>h) rfl ?_|refine ad.xt (fun _ h=>h) rfl ?_|refine ⟨h.hb,?_⟩|refine ae.xw h rfl rfl fun w h=> ?_|(refine ae.xs h rfl rfl fun w h=> ?_;dsimp only [af,ab] at h)|(refine St.xs h rfl rfl fun w h=> ?_;dsimp only [af,ab] at h)|refine aa.yes ?_|refine aa.no ?_|refine ⟨by first|omega|decide,?_⟩)
 refine Jp h hT hC hB ?_
 (with_reducible repeat first|refine Nw.mk h fun b w h=> ?_|refine ah.mk h fun w h=> ?_|refine Ld.xb h rfl ?_|refine Ld.xt h rfl ?_|refine ad.xb (fun _ h=>h) rfl ?_|refine ad.xt (fun _ h=>h) rfl ?_|refine ⟨h.hb,?_⟩|refine ae.xw h rfl rfl fun w h=> ?_|(refine ae.xs h rfl rfl fun w h=> ?_;dsimp only [af,ab] at h)|(refine St.xs h rfl rfl fun w h=> ?_;dsimp only [af,ab] at h)|refine aa.yes ?_|refine aa.no ?_|refine ⟨by first|omega|decide,?_⟩)
 exact hK _ (aS.sh (s:= .bad n er) (h.no 0) ⟨⟨hT,hC,hB⟩,rfl,rfl,rfl⟩)
end
end Go.Proofs.YtgglghjnakclmaaGreat
namespace Go.Proofs.YtgglghjnakclmaaGreat
open Go Go.Vc Go.aK Go.Srt Go.Inc Go.Sym Go.Tab Go.Hd Go.Prs
section
variable {E w:World} {F:List HP} {b pr:Nat} {c:List Nat} {u:Nat} {ended:Bool}
theorem By {c:List Nat} {u:Nat}:bR c u≤1:=by have:=qz c u;omega
set_option maxRecDepth 20000
theorem Ji {t:TS} (h:gd t):t.l.length<258:=by
 rcases h with ⟨_,h,_⟩|⟨_,h,_⟩
 ·rw [h];simp
 ·omega
theorem Ed {n M:Nat} {t:TS} {K:gu→Bool→World→Prop} (h:Hp E w (aS b (.tab n M t)::Rd ⟨pr,0,none⟩ c u ended::F)) (hK:nk b pr c ended (.tab n M t) u E F K):
  Cl Tryz.prog [je,kB] dV ⟨[.pointer (some ⟨b,0,none⟩),.pointer (some ⟨pr,0,none⟩)]⟩ w K:=by
 obtain ⟨k1,k2,k3⟩:=hK
 obtain ⟨⟨a,h0,h1,h2,h3,m0,m1,m2,m3,m4,m5,m6,T,C,B,e⟩,⟨⟨hT,hC,hB⟩,hr⟩,h⟩:=aS.fo h
 dsimp only at hT hC hB hr h
 obtain ⟨rfl,rfl,rfl,hM1,hM2,hn2,hTe,hok⟩:=hr
 refine mT.ok _ _ _ _ ?_
 (try simp only [au,ak,al,Nat.zero_add,Nat.add_zero,Nat.reduceAdd,Bool.not_true,Bool.not_false,aH,aE,Option.isNone])
 refine Nw.mk h fun b4 w h=> ?_
 refine pv (width:=1) hT hC hB (by decide) (h.at 1|>.at 2|>.at 1) (fun hle w h=> ?_) (fun hle he w h=> ?_) (fun hle he w h=> ?_)
 ·have hbit:=By (c:=c) (u:=u)
  rw [wM]
  refine Nw.mk h fun b10 w h=> ?_
  (with_reducible repeat first|refine Nw.mk h fun b w h=> ?_|refine ah.mk h fun w h=> ?_|refine Ld.xb h rfl ?_|refine Ld.xt h rfl ?_|refine ad.xb (fun _ h=>h) rfl ?_|refine ad.xt (fun _ h=>h) rfl ?_|refine ⟨h.hb,?_⟩|refine ae.xw h rfl rfl fun w h=> ?_|(refine ae.xs h rfl rfl fun w h=> ?_;dsimp only [af,ab] at h)|(refine St.xs h rfl rfl fun w h=> ?_;dsimp only [af,ab] at h)|refine aa.yes ?_|refine aa.no ?_|refine ⟨by first|omega|decide,?_⟩)
  refine J2 h hT ?_
  rw [aj (by omega),hTe]
  refine F2 h hok hbit (fun t' w hq h=> ?_) (fun l nn w hq h=> ?_) (fun o w hq ho hos h=> ?_)
  ·have hmic:aF ended c (.tab n M t) u= .go (.tab n M t') (u+1):=by unfold aF;dsimp only;rw [if_pos hle,hq]
   have hok':=wi hok hbit hq
   have hs:=bC (s:=(t'.l.length:Int)) (b:=(t'.bits:Int)) (n:=(t'.now:Int)) (wy:=(t'.way:Int)) (bx (Nat.le_of_lt (Ji hok')))
   refine Nw.mk h fun b22 w h=> ?_
   refine aq.q h (by simp) hs br fun w h=> ?_
   (with_reducible repeat first|refine Nw.mk h fun b w h=> ?_|refine ah.mk h fun w h=> ?_|refine Ld.xb h rfl ?_|refine Ld.xt h rfl ?_|refine ad.xb (fun _ h=>h) rfl ?_|refine ad.xt (fun _ h=>h) rfl ?_|refine ⟨h.hb,?_⟩|refine ae.xw h rfl rfl fun w h=> ?_|(refine ae.xs h rfl rfl fun w h=> ?_;dsimp only [af,ab] at h)|(refine St.xs h rfl rfl fun w h=> ?_;dsimp only [af,ab] at h)|refine aa.yes ?_|refine aa.no ?_|refine ⟨by first|omega|decide,?_⟩)
   refine Ld.xw h hs ?_
   refine Aa h hT hs br fun w h=> ?_
   (with_reducible repeat first|refine Nw.mk h fun b w h=> ?_|refine ah.mk h fun w h=> ?_|refine Ld.xb h rfl ?_|refine Ld.xt h rfl ?_|refine ad.xb (fun _ h=>h) rfl ?_|refine ad.xt (fun _ h=>h) rfl ?_|refine ⟨h.hb,?_⟩|refine ae.xw h rfl rfl fun w h=> ?_|(refine ae.xs h rfl rfl fun w h=> ?_;dsimp only [af,ab] at h)|(refine St.xs h rfl rfl fun w h=> ?_;dsimp only [af,ab] at h)|refine aa.yes ?_|refine aa.no ?_|refine ⟨by first|omega|decide,?_⟩)
   refine k1 _ _ _ _ hmic (aS.sh (((h.no 0).no 0).no 2) ⟨⟨?_,hC,hB⟩,rfl,rfl,rfl,hM1,hM2,hn2,rfl,hok'⟩)
   simp [bx (Nat.le_of_lt (Ji hok'))]
  ·have hmic:aF ended c (.tab n M t) u= .go (.sym n l 0 0 ⟨List.range 256,M,0,0⟩) (u+1):=by unfold aF;dsimp only;rw [if_pos hle,hq]
   obtain ⟨hl,hlok⟩:=tN hok hq
   have hs:=bC (s:=258) (b:=4) (n:=nn) (wy:=0) hl
   refine Nw.mk h fun b22 w h=> ?_
   refine aq.q h (by simp) hs br fun w h=> ?_
   (with_reducible repeat first|refine Nw.mk h fun b w h=> ?_|refine ah.mk h fun w h=> ?_|refine Ld.xb h rfl ?_|refine Ld.xt h rfl ?_|refine ad.xb (fun _ h=>h) rfl ?_|refine ad.xt (fun _ h=>h) rfl ?_|refine ⟨h.hb,?_⟩|refine ae.xw h rfl rfl fun w h=> ?_|(refine ae.xs h rfl rfl fun w h=> ?_;dsimp only [af,ab] at h)|(refine St.xs h rfl rfl fun w h=> ?_;dsimp only [af,ab] at h)|refine aa.yes ?_|refine aa.no ?_|refine ⟨by first|omega|decide,?_⟩)
   refine Ld.xw h hs ?_
   refine Aa h hT hs br fun w h=> ?_
   (with_reducible repeat first|refine Nw.mk h fun b w h=> ?_|refine ah.mk h fun w h=> ?_|refine Ld.xb h rfl ?_|refine Ld.xt h rfl ?_|refine ad.xb (fun _ h=>h) rfl ?_|refine ad.xt (fun _ h=>h) rfl ?_|refine ⟨h.hb,?_⟩|refine ae.xw h rfl rfl fun w h=> ?_|(refine ae.xs h rfl rfl fun w h=> ?_;dsimp only [af,ab] at h)|(refine St.xs h rfl rfl fun w h=> ?_;dsimp only [af,ab] at h)|refine aa.yes ?_|refine aa.no ?_|refine ⟨by first|omega|decide,?_⟩)
   refine Ld.p h (eu hl) ?_
   refine Io h hl (fun hno=>by rw [hlok] at hno;cases hno) (fun _ w h=> ?_)
   have hT':(dP l 258 4 nn 0).toList.length=262:=by simp [hl]
   refine Hl h hT' hC (bH hl) (List.all_eq_true.2 da) fun w h=> ?_
   (with_reducible repeat first|refine Nw.mk h fun b w h=> ?_|refine ah.mk h fun w h=> ?_|refine Ld.xb h rfl ?_|refine Ld.xt h rfl ?_|refine ad.xb (fun _ h=>h) rfl ?_|refine ad.xt (fun _ h=>h) rfl ?_|refine ⟨h.hb,?_⟩|refine ae.xw h rfl rfl fun w h=> ?_|(refine ae.xs h rfl rfl fun w h=> ?_;dsimp only [af,ab] at h)|(refine St.xs h rfl rfl fun w h=> ?_;dsimp only [af,ab] at h)|refine aa.yes ?_|refine aa.no ?_|refine ⟨by first|omega|decide,?_⟩)
   refine E4 h hM1 (by omega) fun w h=> ?_
   refine C7 h hT' (by have:=bH (c:=0) (b:=0) hl;simpa using this) hB (aV (by simp)) bk fun w h=> ?_
   refine cm (n:=4) h (fun w h=> ?_) (by simp)
   (with_reducible repeat first|refine Nw.mk h fun b w h=> ?_|refine ah.mk h fun w h=> ?_|refine Ld.xb h rfl ?_|refine Ld.xt h rfl ?_|refine ad.xb (fun _ h=>h) rfl ?_|refine ad.xt (fun _ h=>h) rfl ?_|refine ⟨h.hb,?_⟩|refine ae.xw h rfl rfl fun w h=> ?_|(refine ae.xs h rfl rfl fun w h=> ?_;dsimp only [af,ab] at h)|(refine St.xs h rfl rfl fun w h=> ?_;dsimp only [af,ab] at h)|refine aa.yes ?_|refine aa.no ?_|refine ⟨by first|omega|decide,?_⟩)
   refine k1 _ _ _ _ hmic (aS.sh (((h.no 0).no 0).no 2) ⟨⟨hT',?_,?_⟩,rfl,rfl,by omega,hn2,rfl,hl,my.zero hlok,rfl,jF.zero (by omega)⟩)
   ·have:=bH (c:=0) (b:=0) hl;simpa using this
   ·simp
  ·have hmic:aF ended c (.tab n M t) u= .ev (.bad 100) (.bad n 100) (u+1):=by unfold aF;dsimp only;rw [if_pos hle,hq]
   refine Nw.mk h fun b22 w h=> ?_
   refine aq.q h (by simp) ho hos fun w h=> ?_
   (with_reducible repeat first|refine Nw.mk h fun b w h=> ?_|refine ah.mk h fun w h=> ?_|refine Ld.xb h rfl ?_|refine Ld.xt h rfl ?_|refine ad.xb (fun _ h=>h) rfl ?_|refine ad.xt (fun _ h=>h) rfl ?_|refine ⟨h.hb,?_⟩|refine ae.xw h rfl rfl fun w h=> ?_|(refine ae.xs h rfl rfl fun w h=> ?_;dsimp only [af,ab] at h)|(refine St.xs h rfl rfl fun w h=> ?_;dsimp only [af,ab] at h)|refine aa.yes ?_|refine aa.no ?_|refine ⟨by first|omega|decide,?_⟩)
   refine g9 hT hC hB (h.at 2) fun w h=> ?_
   (with_reducible repeat first|refine Nw.mk h fun b w h=> ?_|refine ah.mk h fun w h=> ?_|refine Ld.xb h rfl ?_|refine Ld.xt h rfl ?_|refine ad.xb (fun _ h=>h) rfl ?_|refine ad.xt (fun _ h=>h) rfl ?_|refine ⟨h.hb,?_⟩|refine ae.xw h rfl rfl fun w h=> ?_|(refine ae.xs h rfl rfl fun w h=> ?_;dsimp only [af,ab] at h)|(refine St.xs h rfl rfl fun w h=> ?_;dsimp only [af,ab] at h)|refine aa.yes ?_|refine aa.no ?_|refine ⟨by first|omega|decide,?_⟩)
   refine k3 _ _ _ _ _ hmic (fun _ hx=>by cases hx) (Hp.aW (aS.sh (s:= .bad n 100) (((h.no 1).no 1).no 2) ⟨⟨hT,hC,hB⟩,rfl,rfl,rfl⟩) 1)
 ·(with_reducible repeat first|refine Nw.mk h fun b w h=> ?_|refine ah.mk h fun w h=> ?_|refine Ld.xb h rfl ?_|refine Ld.xt h rfl ?_|refine ad.xb (fun _ h=>h) rfl ?_|refine ad.xt (fun _ h=>h) rfl ?_|refine ⟨h.hb,?_⟩|refine ae.xw h rfl rfl fun w h=> ?_|(refine ae.xs h rfl rfl fun w h=> ?_;dsimp only [af,ab] at h)|(refine St.xs h rfl rfl fun w h=> ?_;dsimp only [af,ab] at h)|refine aa.yes ?_|refine aa.no ?_|refine ⟨by first|omega|decide,?_⟩)
  have hmic:aF ended c (.tab n M t) u= .ev (.bad 50) (.bad n 50) u:=by
   unfold aF short;dsimp only;rw [if_neg hle,he];rfl
  subst he
  refine k3 _ _ _ _ _ hmic (fun _ hx=>by cases hx) (Hp.aW (aS.sh (s:= .bad n 50) ((h.no 0).no 2) ⟨⟨hT,hC,hB⟩,rfl,rfl,rfl⟩) 1)
 ·(with_reducible repeat first|refine Nw.mk h fun b w h=> ?_|refine ah.mk h fun w h=> ?_|refine Ld.xb h rfl ?_|refine Ld.xt h rfl ?_|refine ad.xb (fun _ h=>h) rfl ?_|refine ad.xt (fun _ h=>h) rfl ?_|refine ⟨h.hb,?_⟩|refine ae.xw h rfl rfl fun w h=> ?_|(refine ae.xs h rfl rfl fun w h=> ?_;dsimp only [af,ab] at h)|(refine St.xs h rfl rfl fun w h=> ?_;dsimp only [af,ab] at h)|refine aa.yes ?_|refine aa.no ?_|refine ⟨by first|omega|decide,?_⟩)
  have hmic:aF ended c (.tab n M t) u= .need:=by
   unfold aF short;dsimp only;rw [if_neg hle,he];rfl
  subst he
  refine k2 _ hmic (aS.sh ((h.no 0).no 2) ⟨⟨hT,hC,hB⟩,rfl,rfl,rfl,hM1,hM2,hn2,hTe,hok⟩)
theorem zL {n k m:Nat} {l:List Nat} {d:DS} {K:gu→Bool→World→Prop} (h:Hp E w (aS b (.sym n l k m d)::Rd ⟨pr,0,none⟩ c u ended::F)) (hK:nk b pr c ended (.sym n l k m d) u E F K):
  Cl Tryz.prog [je,kB] dx ⟨[.pointer (some ⟨b,0,none⟩),.pointer (some ⟨pr,0,none⟩)]⟩ w K:=by
 obtain ⟨k1,k2,k3⟩:=hK
 obtain ⟨⟨a,h0,h1,h2,h3,m0,m1,m2,m3,m4,m5,m6,T,C,B,e⟩,⟨⟨hT,hC,hB⟩,hr⟩,h⟩:=aS.fo h
 dsimp only at hT hC hB hr h
 obtain ⟨rfl,rfl,hn1,hn2,hCe,hl,hv,hBe,hd⟩:=hr
 refine mH.ok _ _ _ _ ?_
 (try simp only [au,ak,al,Nat.zero_add,Nat.add_zero,Nat.reduceAdd,Bool.not_true,Bool.not_false,aH,aE,Option.isNone])
 refine Nw.mk h fun b4 w h=> ?_
 refine pv (width:=1) hT hC hB (by decide) (h.at 1|>.at 2|>.at 1) (fun hle w h=> ?_) (fun hle he w h=> ?_) (fun hle he w h=> ?_)
 ·have hbit:=By (c:=c) (u:=u)
  rw [wM]
  refine Nw.mk h fun b10 w h=> ?_
  (with_reducible repeat first|refine Nw.mk h fun b w h=> ?_|refine ah.mk h fun w h=> ?_|refine Ld.xb h rfl ?_|refine Ld.xt h rfl ?_|refine ad.xb (fun _ h=>h) rfl ?_|refine ad.xt (fun _ h=>h) rfl ?_|refine ⟨h.hb,?_⟩|refine ae.xw h rfl rfl fun w h=> ?_|(refine ae.xs h rfl rfl fun w h=> ?_;dsimp only [af,ab] at h)|(refine St.xs h rfl rfl fun w h=> ?_;dsimp only [af,ab] at h)|refine aa.yes ?_|refine aa.no ?_|refine ⟨by first|omega|decide,?_⟩)
  refine J0 h hT hC ?_
  rw [aj (by omega),hCe]
  have hfs:=Er hl hv hbit
  have hfst:=FP (l:=l) (c:=k) (b:=m) (x:=bR c u)
  have hvn:=hv.next hbit
  refine Hq h hl hv hbit fun w h=> ?_
  have hsz:=fun (x y:Nat)=>bH (c:=x) (b:=y) hl
  refine Nw.mk h fun b22 w h=> ?_
  refine aq.q h (by simp) (hsz _ _) (List.all_eq_true.2 da) fun w h=> ?_
  refine Ld.xw h (hsz _ _) ?_
  refine Hl h hT hC (hsz _ _) (List.all_eq_true.2 da) fun w h=> ?_
  have hC': ∀x y:Nat,(db l x y).toList.length=260:=fun x y=>by rw [Array.length_toList];exact hsz x y
  cases hs:(eA l k m (bR c u)).2 with
  |none=>
   rw [hs] at hfs hfst
   rw [hfst] at h hvn
   have hmic:aF ended c (.sym n l k m d) u= .go (.sym n l (2*k+bR c u) (m+1) d) (u+1):=by unfold aF;dsimp only;rw [if_pos hle,←hfs]
   refine aa.t rfl ?_
   (with_reducible repeat first|refine Nw.mk h fun b w h=> ?_|refine ah.mk h fun w h=> ?_|refine Ld.xb h rfl ?_|refine Ld.xt h rfl ?_|refine ad.xb (fun _ h=>h) rfl ?_|refine ad.xt (fun _ h=>h) rfl ?_|refine ⟨h.hb,?_⟩|refine ae.xw h rfl rfl fun w h=> ?_|(refine ae.xs h rfl rfl fun w h=> ?_;dsimp only [af,ab] at h)|(refine St.xs h rfl rfl fun w h=> ?_;dsimp only [af,ab] at h)|refine aa.yes ?_|refine aa.no ?_|refine ⟨by first|omega|decide,?_⟩)
   exact k1 _ _ _ _ hmic (aS.sh (((h.no 0).no 0).no 2) ⟨⟨hT,hC' _ _,hB⟩,rfl,rfl,hn1,hn2,rfl,hl,hvn,hBe,hd⟩)
  |some y=>
   rw [hs] at hfs hfst
   rw [hfst] at h hvn
   have hy:y<258:=(xe hl hv hbit hs).1
   refine aa.f rfl ?_
   refine JJ h hT (hC' _ _) hB ?_
   rw [hBe]
   refine DL (s:=y) h hd hy (fun o w hq ho hos h=> ?_) (fun d' t sl w hq h=> ?_) (fun d' t sl w hq h=> ?_)
   ·have hmic:aF ended c (.sym n l k m d) u= .ev (.bad 160) (.bad n 160) (u+1):=by unfold aF;dsimp only;rw [if_pos hle,←hfs];dsimp only;rw [show bX d y=_ from hq]
    refine Nw.mk h fun b38 w h=> ?_
    refine aq.q h (by simp) ho hos fun w h=> ?_
    (with_reducible repeat first|refine Nw.mk h fun b w h=> ?_|refine ah.mk h fun w h=> ?_|refine Ld.xb h rfl ?_|refine Ld.xt h rfl ?_|refine ad.xb (fun _ h=>h) rfl ?_|refine ad.xt (fun _ h=>h) rfl ?_|refine ⟨h.hb,?_⟩|refine ae.xw h rfl rfl fun w h=> ?_|(refine ae.xs h rfl rfl fun w h=> ?_;dsimp only [af,ab] at h)|(refine St.xs h rfl rfl fun w h=> ?_;dsimp only [af,ab] at h)|refine aa.yes ?_|refine aa.no ?_|refine ⟨by first|omega|decide,?_⟩)
    refine g9 hT (hC' _ _) hB (h.at 3) fun w h=> ?_
    (with_reducible repeat first|refine Nw.mk h fun b w h=> ?_|refine ah.mk h fun w h=> ?_|refine Ld.xb h rfl ?_|refine Ld.xt h rfl ?_|refine ad.xb (fun _ h=>h) rfl ?_|refine ad.xt (fun _ h=>h) rfl ?_|refine ⟨h.hb,?_⟩|refine ae.xw h rfl rfl fun w h=> ?_|(refine ae.xs h rfl rfl fun w h=> ?_;dsimp only [af,ab] at h)|(refine St.xs h rfl rfl fun w h=> ?_;dsimp only [af,ab] at h)|refine aa.yes ?_|refine aa.no ?_|refine ⟨by first|omega|decide,?_⟩)
    exact k3 _ _ _ _ _ hmic (fun _ hx=>by cases hx) (Hp.aW (aS.sh (s:= .bad n 160) ((((h.no 1).no 1).no 1).no 2) ⟨⟨hT,hC' _ _,hB⟩,rfl,rfl,rfl⟩) 1)
   ·obtain ⟨hd',hb',_⟩:=yG hd hy hq
    have hdl:=hd'.1.len
    have htl:=h.bU
    simp only [List.length_map,Nat.mul_one] at htl
    refine Nw.mk h fun b38 w h=> ?_
    refine aq.q h (by simp) (aV hdl) bk fun w h=> ?_
    (with_reducible repeat first|refine Nw.mk h fun b w h=> ?_|refine ah.mk h fun w h=> ?_|refine Ld.xb h rfl ?_|refine Ld.xt h rfl ?_|refine ad.xb (fun _ h=>h) rfl ?_|refine ad.xt (fun _ h=>h) rfl ?_|refine ⟨h.hb,?_⟩|refine ae.xw h rfl rfl fun w h=> ?_|(refine ae.xs h rfl rfl fun w h=> ?_;dsimp only [af,ab] at h)|(refine St.xs h rfl rfl fun w h=> ?_;dsimp only [af,ab] at h)|refine aa.yes ?_|refine aa.no ?_|refine ⟨by first|omega|decide,?_⟩)
    refine Ld.xw h (aV hdl) ?_
    refine C7 h hT (hC' _ _) hB (aV hdl) bk fun w h=> ?_
    have hB':(fF d'.L (d'.left:Int) (d'.run:Int) (d'.digits:Int) false).toList.length=260:=by rw [Array.length_toList];exact aV hdl
    refine aa.f rfl ?_
    (with_reducible repeat first|refine Nw.mk h fun b w h=> ?_|refine ah.mk h fun w h=> ?_|refine Ld.xb h rfl ?_|refine Ld.xt h rfl ?_|refine ad.xb (fun _ h=>h) rfl ?_|refine ad.xt (fun _ h=>h) rfl ?_|refine ⟨h.hb,?_⟩|refine ae.xw h rfl rfl fun w h=> ?_|(refine ae.xs h rfl rfl fun w h=> ?_;dsimp only [af,ab] at h)|(refine St.xs h rfl rfl fun w h=> ?_;dsimp only [af,ab] at h)|refine aa.yes ?_|refine aa.no ?_|refine ⟨by first|omega|decide,?_⟩)
    have h:=((((h.no 0).no 1).no 1).no 3)
    by_cases ht:t= []
    ·have hmic:aF ended c (.sym n l k m d) u= .go (.sym n l 0 0 d') (u+1):=by unfold aF;dsimp only;rw [if_pos hle,←hfs];dsimp only;rw [show bX d y=_ from hq];dsimp only;rw [if_pos ht];rfl
     refine dw (K:=fun b w=>K _ b w) (decide_eq_false (by rw [ht] at htl;simp at htl;omega)) ?_
     exact k1 _ _ _ _ hmic (aS.sh h.drop ⟨⟨hT,hC' _ _,hB'⟩,rfl,rfl,hn1,hn2,rfl,hl,hvn,rfl,hd'⟩)
    ·have hmic:aF ended c (.sym n l k m d) u= .ev (.bytes t) (.sym n l 0 0 d') (u+1):=by unfold aF;dsimp only;rw [if_pos hle,←hfs];dsimp only;rw [show bX d y=_ from hq];dsimp only;rw [if_neg ht];rfl
     refine dw (K:=fun b w=>K _ b w) (decide_eq_true (by have:=List.length_pos_iff.2 ht;omega)) ?_
     exact k3 (.bytes t) _ _ _ _ hmic hb' (aS.sh (s:= .sym n l 0 0 d') (h.at 1) ⟨⟨hT,hC' _ _,hB'⟩,rfl,rfl,hn1,hn2,rfl,hl,hvn,rfl,hd'⟩).p1
   ·have hdl:=hd.1.len
    have htl:=h.bU
    simp only [List.length_map,Nat.mul_one] at htl
    refine Nw.mk h fun b38 w h=> ?_
    refine aq.q h (by simp) (aV hdl) bk fun w h=> ?_
    (with_reducible repeat first|refine Nw.mk h fun b w h=> ?_|refine ah.mk h fun w h=> ?_|refine Ld.xb h rfl ?_|refine Ld.xt h rfl ?_|refine ad.xb (fun _ h=>h) rfl ?_|refine ad.xt (fun _ h=>h) rfl ?_|refine ⟨h.hb,?_⟩|refine ae.xw h rfl rfl fun w h=> ?_|(refine ae.xs h rfl rfl fun w h=> ?_;dsimp only [af,ab] at h)|(refine St.xs h rfl rfl fun w h=> ?_;dsimp only [af,ab] at h)|refine aa.yes ?_|refine aa.no ?_|refine ⟨by first|omega|decide,?_⟩)
    refine Ld.xw h (aV hdl) ?_
    refine C7 h hT (hC' _ _) hB (aV hdl) bk fun w h=> ?_
    have hB':(fF d.L 0 0 0 true).toList.length=260:=by rw [Array.length_toList];exact aV hdl
    refine aa.t rfl ?_
    refine cm (n:=5) h (fun w h=> ?_) (by simp)
    (with_reducible repeat first|refine Nw.mk h fun b w h=> ?_|refine ah.mk h fun w h=> ?_|refine Ld.xb h rfl ?_|refine Ld.xt h rfl ?_|refine ad.xb (fun _ h=>h) rfl ?_|refine ad.xt (fun _ h=>h) rfl ?_|refine ⟨h.hb,?_⟩|refine ae.xw h rfl rfl fun w h=> ?_|(refine ae.xs h rfl rfl fun w h=> ?_;dsimp only [af,ab] at h)|(refine St.xs h rfl rfl fun w h=> ?_;dsimp only [af,ab] at h)|refine aa.yes ?_|refine aa.no ?_|refine ⟨by first|omega|decide,?_⟩)
    have h:=((((h.no 0).no 1).no 1).no 3)
    by_cases ht:t= []
    ·have hmic:aF ended c (.sym n l k m d) u= .go (.pad n) (u+1):=by unfold aF;dsimp only;rw [if_pos hle,←hfs];dsimp only;rw [show bX d y=_ from hq];dsimp only;rw [if_pos ht];rfl
     refine dw (K:=fun b w=>K _ b w) (decide_eq_false (by rw [ht] at htl;simp at htl;omega)) ?_
     exact k1 _ _ _ _ hmic (aS.sh h.drop ⟨⟨hT,hC' _ _,hB'⟩,rfl,rfl,hn1,hn2⟩)
    ·have hmic:aF ended c (.sym n l k m d) u= .ev (.bytes t) (.pad n) (u+1):=by unfold aF;dsimp only;rw [if_pos hle,←hfs];dsimp only;rw [show bX d y=_ from hq];dsimp only;rw [if_neg ht];rfl
     refine dw (K:=fun b w=>K _ b w) (decide_eq_true (by have:=List.length_pos_iff.2 ht;omega)) ?_
     exact k3 (.bytes t) _ _ _ _ hmic (CU hd hq).1 (aS.sh (s:= .pad n) (h.at 1) ⟨⟨hT,hC' _ _,hB'⟩,rfl,rfl,hn1,hn2⟩).p1
 ·(with_reducible repeat first|refine Nw.mk h fun b w h=> ?_|refine ah.mk h fun w h=> ?_|refine Ld.xb h rfl ?_|refine Ld.xt h rfl ?_|refine ad.xb (fun _ h=>h) rfl ?_|refine ad.xt (fun _ h=>h) rfl ?_|refine ⟨h.hb,?_⟩|refine ae.xw h rfl rfl fun w h=> ?_|(refine ae.xs h rfl rfl fun w h=> ?_;dsimp only [af,ab] at h)|(refine St.xs h rfl rfl fun w h=> ?_;dsimp only [af,ab] at h)|refine aa.yes ?_|refine aa.no ?_|refine ⟨by first|omega|decide,?_⟩)
  have hmic:aF ended c (.sym n l k m d) u= .ev (.bad 50) (.bad n 50) u:=by
   unfold aF short;dsimp only;rw [if_neg hle,he];rfl
  subst he
  refine k3 _ _ _ _ _ hmic (fun _ hx=>by cases hx) (Hp.aW (aS.sh (s:= .bad n 50) ((h.no 0).no 2) ⟨⟨hT,hC,hB⟩,rfl,rfl,rfl⟩) 1)
 ·(with_reducible repeat first|refine Nw.mk h fun b w h=> ?_|refine ah.mk h fun w h=> ?_|refine Ld.xb h rfl ?_|refine Ld.xt h rfl ?_|refine ad.xb (fun _ h=>h) rfl ?_|refine ad.xt (fun _ h=>h) rfl ?_|refine ⟨h.hb,?_⟩|refine ae.xw h rfl rfl fun w h=> ?_|(refine ae.xs h rfl rfl fun w h=> ?_;dsimp only [af,ab] at h)|(refine St.xs h rfl rfl fun w h=> ?_;dsimp only [af,ab] at h)|refine aa.yes ?_|refine aa.no ?_|refine ⟨by first|omega|decide,?_⟩)
  have hmic:aF ended c (.sym n l k m d) u= .need:=by
   unfold aF short;dsimp only;rw [if_neg hle,he];rfl
  subst he
  refine k2 _ hmic (aS.sh ((h.no 0).no 2) ⟨⟨hT,hC,hB⟩,rfl,rfl,hn1,hn2,hCe,hl,hv,hBe,hd⟩)
end
end Go.Proofs.YtgglghjnakclmaaGreat
set_option maxRecDepth 20000
namespace Go.Vc
open Go
def wZ (P:Program) (ops:Array Oper) (S:World→Prop) (K:AF→World→Prop) (J:Array Bool→AF→World→Prop) (listed:Array Bool) (f:AF) (w:World):Prop:=
 match Region.ready .any ops listed with
 | []=>K f w
 |r::rs=>match (r::rs).find? (fun i=>(match ops[i]? with|some o=>cY P o.op|none=>false)&&Region.free .any ops listed i) with
  |some i=>match ops[i]? with
   |some o=>guarded ops o f
     (fun f=>ig P S f (fun v=>J (listed.setIfInBounds i true) (bj f o.dst v) w) o.op)
     (fun f=>J (listed.setIfInBounds i true) (bj f o.dst (some undef)) w)
   |none=>False
  |none=>n0 (r::rs) fun i=>match ops[i]? with
   |some o=>guarded ops o f
     (fun f=>gU P f o w fun v w'=>S w'∧J (listed.setIfInBounds i true) (bj f o.dst v) w')
     (fun f=>J (listed.setIfInBounds i true) (bj f o.dst (some undef)) w)
   |none=>False
theorem aZ {P:Program} {ops:Array Oper} {S:World→Prop} {K:AF→World→Prop} {n:Nat} {listed:Array Bool} {f:AF} {w:World} (h:wZ P ops S K (aB P ops S K n) listed f w):aB P ops S K (n+1) listed f w:=h
noncomputable def qS:Code→List Bool→Code
 |c,[]=>c
 | .seq x _,false::l=>qS x l
 | .seq _ y,true::l=>qS y l
 |c,_=>c
noncomputable def Gv:Code→Array Oper
 | .region _ ops _=>ops
 |_=> #[]
def A8 (P:Program) (ops:Array Oper) (i:Nat):Bool:=match ops[i]? with|some o=>cY P o.op|none=>false
def lD (P:Program) (ops:Array Oper) (listed:Array Bool) (i:Nat):Bool:=A8 P ops i&&Region.free .any ops listed i
def aU (P:Program) (ops:Array Oper) (S:World→Prop) (J:Array Bool→AF→World→Prop) (listed:Array Bool) (f:AF) (w:World) (i:Nat):Prop:=match ops[i]? with
 |some o=>guarded ops o f
   (fun f=>gU P f o w fun v w'=>S w'∧J (listed.setIfInBounds i true) (bj f o.dst v) w')
   (fun f=>J (listed.setIfInBounds i true) (bj f o.dst (some undef)) w)
 |none=>False
def eM (P:Program) (ops:Array Oper) (S:World→Prop) (J:Array Bool→AF→World→Prop) (listed:Array Bool) (f:AF) (w:World) (i:Nat):Prop:=match ops[i]? with
 |some o=>guarded ops o f
   (fun f=>ig P S f (fun v=>J (listed.setIfInBounds i true) (bj f o.dst v) w) o.op)
   (fun f=>J (listed.setIfInBounds i true) (bj f o.dst (some undef)) w)
 |none=>False
theorem zu {F:Nat→Prop}: ∀{l:List Nat},(∀i∈l,F i)→n0 l F
 | [],_=>trivial
 | [i],h=>h i (by simp)
 |i::j::l,h=>⟨h i (by simp),zu fun k hk=>h k (List.mem_cons_of_mem _ hk)⟩
theorem vo {P:Program} {ops:Array Oper} {S:World→Prop} {K:AF→World→Prop} {J:Array Bool→AF→World→Prop} {listed:Array Bool} {f:AF} {w:World} {rs:List Nat}
  (hr:Region.ready .any ops listed=rs) (hn:rs≠ []) (hf:rs.find? (lD P ops listed)=none) (h: ∀i∈rs,aU P ops S J listed f w i):wZ P ops S K J listed f w:=by
 unfold wZ
 rw [hr]
 cases rs with
 |nil=>exact absurd rfl hn
 |cons r rs=>
  have hf':(r::rs).find? (fun i=>(match ops[i]? with|some o=>cY P o.op|none=>false)&&Region.free .any ops listed i)=none:=hf
  dsimp only
  rw [hf']
  exact zu h
theorem bt {P:Program} {ops:Array Oper} {S:World→Prop} {K:AF→World→Prop} {J:Array Bool→AF→World→Prop} {listed:Array Bool} {f:AF} {w:World} {rs:List Nat} {i:Nat}
  (hr:Region.ready .any ops listed=rs) (hf:rs.find? (lD P ops listed)=some i) (h:eM P ops S J listed f w i):wZ P ops S K J listed f w:=by
 unfold wZ
 rw [hr]
 cases rs with
 |nil=>cases hf
 |cons r rs=>
  have hf':(r::rs).find? (fun i=>(match ops[i]? with|some o=>cY P o.op|none=>false)&&Region.free .any ops listed i)=some i:=hf
  dsimp only
  rw [hf']
  exact h
end Go.Vc
set_option maxRecDepth 20000
namespace Go.Vc
def wN (A:List (List Nat)) (g:Nat→Bool):List Nat:=(List.range A.length).filter fun i=> !g i&&(A.getD i []).all g
def eC (n:Nat) (g:Nat→Bool):Array Bool:=⟨(List.range n).map g⟩
theorem nb {n r:Nat} {g:Nat→Bool} {d:Bool} (h:r<n):(eC n g).getD r d=g r:=by
 simp [eC,Array.getD,h]
theorem CC {n r:Nat} {g g':Nat→Bool} (h: ∀q,q<n→g' q=((q==r)||g q)):(eC n g).setIfInBounds r true=eC n g':=by
 apply Array.ext_getElem?
 intro q
 rw [Array.getElem?_setIfInBounds]
 by_cases hq:q<n
 ·have h1: ∀g:Nat→Bool,(eC n g)[q]? =some (g q):=fun g=>by simp [eC,hq]
  have h2:(eC n g).size=n:=by simp [eC]
  rw [h1,h1,h2,h q hq]
  by_cases e:r=q
  ·subst e
   rw [if_pos rfl,if_pos hq,beq_self_eq_true,Bool.true_or]
  ·rw [if_neg e,beq_eq_false_iff_ne.2 (Ne.symm e),Bool.false_or]
 ·have h1: ∀g:Nat→Bool,(eC n g)[q]? =none:=fun g=>by simp [eC];omega
  have h2:(eC n g).size=n:=by simp [eC]
  rw [h1,h1,h2]
  split
  ·rw [if_neg (by omega)]
  ·rfl
theorem mD {α β:Type} {p:β→Bool} {f:α→β} {q:α→Bool}: ∀(l:List α),((l.filter q).map f).all p=l.all fun e=> !q e||p (f e)
 | []=>rfl
 |a::l=>by
  have:=mD (p:=p) (f:=f) (q:=q) l
  cases hq:q a
  ·rw [List.filter_cons_of_neg (by simp [hq]),List.all_cons,hq,this];rfl
  ·rw [List.filter_cons_of_pos hq,List.map_cons,List.all_cons,List.all_cons,hq,this];rfl
theorem Ek {ops:Array Oper} {A:List (List Nat)} {g:Nat→Bool} (h:ops.toList.map (fun o=>(o.after.toList.filter fun e=>Region.binds .any e).map (·.on))=A) (hA: ∀l∈A,∀x∈l,x<A.length):
  Region.ready .any ops (eC A.length g)=wN A g:=by
 have hl:ops.size=A.length:=by rw [←h];simp
 unfold Region.ready wN
 rw [hl]
 refine List.filter_congr fun i hi=> ?_
 have hi:i<A.length:=by simpa using hi
 rw [nb hi]
 congr 1
 have ho: ∃o,ops[i]? =some o∧A.getD i []=((o.after.toList.filter fun e=>Region.binds .any e).map (·.on)):=by
  refine ⟨ops[i]'(by omega),by simp [hl,hi],?_⟩
  subst h
  simp at hi
  simp [List.getD_eq_getElem?_getD,hi]
 obtain ⟨o,ho,hAi⟩:=ho
 rw [ho,hAi]
 simp only [Option.map_some,Option.getD_some]
 rw [mD,←Array.all_toList]
 have hm: ∀e∈o.after.toList,Region.binds .any e=true→e.on<A.length:=fun e he hb=>by
  refine hA (A.getD i []) ?_ _ ?_
  ·rw [List.getD_eq_getElem?_getD,List.getElem?_eq_getElem hi];exact List.getElem_mem hi
  ·rw [hAi];exact List.mem_map.2 ⟨e,List.mem_filter.2 ⟨he,hb⟩,rfl⟩
 rw [Bool.eq_iff_iff,List.all_eq_true,List.all_eq_true]
 refine ⟨fun hh e he=> ?_,fun hh e he=> ?_⟩
 ·have:=hh e he
  cases hb:Region.binds .any e with
  |false=>rfl
  |true=>rw [hb] at this;simpa [nb (hm e he hb)] using this
 ·have:=hh e he
  cases hb:Region.binds .any e with
  |false=>rfl
  |true=>rw [hb] at this;simpa [nb (hm e he hb)] using this
end Go.Vc
namespace Go.Proofs.YtgglghjnakclmaaGreat
open Go Go.Vc Go.aK Go.Srt Go.Inc Go.Sym Go.Tab Go.Hd Go.Prs
noncomputable section
def ar:Array Oper:=Gv (qS (Tryz.f19.body.getD .skip) [true,true,false])
end
def CL:List (List Nat):= []::(List.range 33).tail.map (fun r=>if r=1 then [] else if r % 4=1 then [r - 4] else if r % 4=2 then [] else if r % 4=3 then [r - 1] else [0,r - 3,r - 1])++ [List.range 33,[33,29]++List.range 34]
set_option maxRecDepth 100000 in
theorem z7:ar.toList.map (fun o=>(o.after.toList.filter fun e=>Region.binds .any e).map (·.on))=CL:=by kernel_rfl
theorem FB:CL.length=35:=by decide
theorem HZ: ∀l∈CL,∀x∈l,x<CL.length:=by decide
set_option maxRecDepth 100000 in
theorem Am:((List.range 35).map fun r=>A8 Tryz.prog ar r)=(List.range 35).map fun r=>decide (33≤r)||r % 4==2||r % 4==3:=by kernel_rfl
def gM (made:Bool) (i T r:Nat):Bool:=Nat.blt r 33&&(Nat.beq (r % 4) 2||Nat.beq (r % 4) 3||(Nat.beq r 0&&made)||(Nat.beq (r % 4) 1&&Nat.blt (r/4) i)||(Nat.beq (r % 4) 0&&Nat.blt 0 r&&Nat.beq ((T/2^(r/4 - 1)) % 2) 1))
def LM (made:Bool) (i T:Nat):Array Bool:=eC 35 (gM made i T)
def rU (made:Bool) (i T:Nat):List Nat:=(if made then [] else [0])++((List.range i).filter fun j=>made&&Nat.beq ((T/2^j) % 2) 0).map (fun j=>4+4*j)++(if Nat.blt i 8 then [1+4*i] else [])
def tg (made:Bool) (i T r:Nat):Nat→Bool:=if r=0 then gM true i T else if r % 4=1 then gM made (i+1) T else gM made i (T+2^(r/4 - 1))
def E3 (made:Bool) (i T:Nat):Bool:=
 (Nat.beq i 8&&Nat.beq T 255)||(wN CL (gM made i T)==rU made i T)&&((rU made i T).all fun r=>(List.range 35).all fun q=>tg made i T r q==(Nat.beq q r||gM made i T q))
theorem IQ:((List.range 9).all fun i=>E3 false i 0)=true:=by kernel_rfl
theorem IG:((List.range 9).all fun i=>(List.range (2^i)).all fun T=>E3 true i T)=true:=by kernel_rfl
end Go.Proofs.YtgglghjnakclmaaGreat
set_option maxRecDepth 20000
namespace Go.Proofs.YtgglghjnakclmaaGreat
open Go Go.Vc Go.aK Go.Srt Go.Inc Go.Sym Go.Tab Go.Hd Go.Prs
set_option maxRecDepth 100000
abbrev bV:TypeId:=126
abbrev iA:Nat→FuncId
 |0=>fu|1=>dI|2=>dq|3=>dF|4=>dM|5=>dN|6=>eV|_=>fJ
abbrev He:Nat→FuncId
 |0=>eo|1=>eg|2=>dV|3=>dx|4=>dy|5=>ee|6=>eE|_=>ez
abbrev cu (p:Option Addr) (k:Nat):Value:= .func (.func (He k)) ⟨[.pointer p]⟩ ⟨[]⟩
abbrev bh (n:Int):Value:= .agg ⟨[.int .i64 n]⟩
noncomputable def Kd (b:Nat) (p r:Option Addr):AF:=aQ (aQ (aQ (mV [.pointer p,.pointer r] 69) 4 (some (.pointer (some ⟨b,0,none⟩)))) 8 (some (.pointer p))) 9 (some (.bool (Option.isNone p)))
noncomputable def fc (b:Nat) (p r:Option Addr):Nat→AF
 |0=>Kd b p r
 |k+1=>aQ (aQ (fc b p r k) (13+3*k) (some (.pointer p))) (14+3*k) (some (cu p k))
noncomputable def fr (b:Nat) (p r:Option Addr) (mm:Option (Option Nat)):Nat→AF
 |0=>match mm with|none=>fc b p r 8|some m=>aQ (fc b p r 8) 11 (some (.map m))
 |k+1=>aQ (fr b p r mm k) (12+3*k) (some (bh ((k+1:Nat):Int)))
def LC:Nat→Array Bool
 |0=>Array.replicate 35 false
 |k+1=>((LC k).setIfInBounds (2+4*k) true).setIfInBounds (3+4*k) true
noncomputable abbrev Iy:Code:=Tryz.f19.body.getD .skip
section
variable {S:World→Prop} {K:AF→World→Prop} {J:Array Bool→AF→World→Prop} {L:Array Bool} {b:Nat} {p r:Option Addr} {m:Option Nat} {w:World} {n:Nat}
theorem Jq (h:aB Tryz.prog ar S K n (LC 1) (fc b p r 1) w):aB Tryz.prog ar S K (n+2) (LC 0) (fc b p r 0) w:=
 aZ (bt (i:=2) rfl (by kernel_rfl) (Eq.mpr (by kernel_rfl:eM Tryz.prog ar S (aB Tryz.prog ar S K (n+1)) (LC 0) (fc b p r 0) w 2=aB Tryz.prog ar S K (n+1) ((LC 0).setIfInBounds 2 true) (aQ (fc b p r 0) 13 (some (.pointer p))) w)
  (aZ (bt (i:=3) rfl (by kernel_rfl) (Eq.mpr (by kernel_rfl:eM Tryz.prog ar S (aB Tryz.prog ar S K n) ((LC 0).setIfInBounds 2 true) (aQ (fc b p r 0) 13 (some (.pointer p))) w 3=aB Tryz.prog ar S K n (LC 1) (fc b p r 1) w) h)))))
theorem J3 (h:aB Tryz.prog ar S K n (LC 2) (fc b p r 2) w):aB Tryz.prog ar S K (n+2) (LC 1) (fc b p r 1) w:=
 aZ (bt (i:=6) rfl (by kernel_rfl) (Eq.mpr (by kernel_rfl:eM Tryz.prog ar S (aB Tryz.prog ar S K (n+1)) (LC 1) (fc b p r 1) w 6=aB Tryz.prog ar S K (n+1) ((LC 1).setIfInBounds 6 true) (aQ (fc b p r 1) 16 (some (.pointer p))) w)
  (aZ (bt (i:=7) rfl (by kernel_rfl) (Eq.mpr (by kernel_rfl:eM Tryz.prog ar S (aB Tryz.prog ar S K n) ((LC 1).setIfInBounds 6 true) (aQ (fc b p r 1) 16 (some (.pointer p))) w 7=aB Tryz.prog ar S K n (LC 2) (fc b p r 2) w) h)))))
theorem JU (h:aB Tryz.prog ar S K n (LC 3) (fc b p r 3) w):aB Tryz.prog ar S K (n+2) (LC 2) (fc b p r 2) w:=
 aZ (bt (i:=10) rfl (by kernel_rfl) (Eq.mpr (by kernel_rfl:eM Tryz.prog ar S (aB Tryz.prog ar S K (n+1)) (LC 2) (fc b p r 2) w 10=aB Tryz.prog ar S K (n+1) ((LC 2).setIfInBounds 10 true) (aQ (fc b p r 2) 19 (some (.pointer p))) w)
  (aZ (bt (i:=11) rfl (by kernel_rfl) (Eq.mpr (by kernel_rfl:eM Tryz.prog ar S (aB Tryz.prog ar S K n) ((LC 2).setIfInBounds 10 true) (aQ (fc b p r 2) 19 (some (.pointer p))) w 11=aB Tryz.prog ar S K n (LC 3) (fc b p r 3) w) h)))))
theorem JC (h:aB Tryz.prog ar S K n (LC 4) (fc b p r 4) w):aB Tryz.prog ar S K (n+2) (LC 3) (fc b p r 3) w:=
 aZ (bt (i:=14) rfl (by kernel_rfl) (Eq.mpr (by kernel_rfl:eM Tryz.prog ar S (aB Tryz.prog ar S K (n+1)) (LC 3) (fc b p r 3) w 14=aB Tryz.prog ar S K (n+1) ((LC 3).setIfInBounds 14 true) (aQ (fc b p r 3) 22 (some (.pointer p))) w)
  (aZ (bt (i:=15) rfl (by kernel_rfl) (Eq.mpr (by kernel_rfl:eM Tryz.prog ar S (aB Tryz.prog ar S K n) ((LC 3).setIfInBounds 14 true) (aQ (fc b p r 3) 22 (some (.pointer p))) w 15=aB Tryz.prog ar S K n (LC 4) (fc b p r 4) w) h)))))
theorem JS (h:aB Tryz.prog ar S K n (LC 5) (fc b p r 5) w):aB Tryz.prog ar S K (n+2) (LC 4) (fc b p r 4) w:=
 aZ (bt (i:=18) rfl (by kernel_rfl) (Eq.mpr (by kernel_rfl:eM Tryz.prog ar S (aB Tryz.prog ar S K (n+1)) (LC 4) (fc b p r 4) w 18=aB Tryz.prog ar S K (n+1) ((LC 4).setIfInBounds 18 true) (aQ (fc b p r 4) 25 (some (.pointer p))) w)
  (aZ (bt (i:=19) rfl (by kernel_rfl) (Eq.mpr (by kernel_rfl:eM Tryz.prog ar S (aB Tryz.prog ar S K n) ((LC 4).setIfInBounds 18 true) (aQ (fc b p r 4) 25 (some (.pointer p))) w 19=aB Tryz.prog ar S K n (LC 5) (fc b p r 5) w) h)))))
theorem JG (h:aB Tryz.prog ar S K n (LC 6) (fc b p r 6) w):aB Tryz.prog ar S K (n+2) (LC 5) (fc b p r 5) w:=
 aZ (bt (i:=22) rfl (by kernel_rfl) (Eq.mpr (by kernel_rfl:eM Tryz.prog ar S (aB Tryz.prog ar S K (n+1)) (LC 5) (fc b p r 5) w 22=aB Tryz.prog ar S K (n+1) ((LC 5).setIfInBounds 22 true) (aQ (fc b p r 5) 28 (some (.pointer p))) w)
  (aZ (bt (i:=23) rfl (by kernel_rfl) (Eq.mpr (by kernel_rfl:eM Tryz.prog ar S (aB Tryz.prog ar S K n) ((LC 5).setIfInBounds 22 true) (aQ (fc b p r 5) 28 (some (.pointer p))) w 23=aB Tryz.prog ar S K n (LC 6) (fc b p r 6) w) h)))))
theorem JO (h:aB Tryz.prog ar S K n (LC 7) (fc b p r 7) w):aB Tryz.prog ar S K (n+2) (LC 6) (fc b p r 6) w:=
 aZ (bt (i:=26) rfl (by kernel_rfl) (Eq.mpr (by kernel_rfl:eM Tryz.prog ar S (aB Tryz.prog ar S K (n+1)) (LC 6) (fc b p r 6) w 26=aB Tryz.prog ar S K (n+1) ((LC 6).setIfInBounds 26 true) (aQ (fc b p r 6) 31 (some (.pointer p))) w)
  (aZ (bt (i:=27) rfl (by kernel_rfl) (Eq.mpr (by kernel_rfl:eM Tryz.prog ar S (aB Tryz.prog ar S K n) ((LC 6).setIfInBounds 26 true) (aQ (fc b p r 6) 31 (some (.pointer p))) w 27=aB Tryz.prog ar S K n (LC 7) (fc b p r 7) w) h)))))
theorem JK (h:aB Tryz.prog ar S K n (LC 8) (fc b p r 8) w):aB Tryz.prog ar S K (n+2) (LC 7) (fc b p r 7) w:=
 aZ (bt (i:=30) rfl (by kernel_rfl) (Eq.mpr (by kernel_rfl:eM Tryz.prog ar S (aB Tryz.prog ar S K (n+1)) (LC 7) (fc b p r 7) w 30=aB Tryz.prog ar S K (n+1) ((LC 7).setIfInBounds 30 true) (aQ (fc b p r 7) 34 (some (.pointer p))) w)
  (aZ (bt (i:=31) rfl (by kernel_rfl) (Eq.mpr (by kernel_rfl:eM Tryz.prog ar S (aB Tryz.prog ar S K n) ((LC 7).setIfInBounds 30 true) (aQ (fc b p r 7) 34 (some (.pointer p))) w 31=aB Tryz.prog ar S K n (LC 8) (fc b p r 8) w) h)))))
theorem JW:aU Tryz.prog ar S J L (fr b p r none 0) w 0=aw Tryz.prog (Instr.makeMap bV none) kM w fun m w'=>S w'∧J (L.setIfInBounds 0 true) (fr b p r (some m) 0) w':=by kernel_rfl
theorem JB:aU Tryz.prog ar S J L (fr b p r none 1) w 0=aw Tryz.prog (Instr.makeMap bV none) kM w fun m w'=>S w'∧J (L.setIfInBounds 0 true) (fr b p r (some m) 1) w':=by kernel_rfl
theorem Jz:aU Tryz.prog ar S J L (fr b p r none 2) w 0=aw Tryz.prog (Instr.makeMap bV none) kM w fun m w'=>S w'∧J (L.setIfInBounds 0 true) (fr b p r (some m) 2) w':=by kernel_rfl
theorem Jt:aU Tryz.prog ar S J L (fr b p r none 3) w 0=aw Tryz.prog (Instr.makeMap bV none) kM w fun m w'=>S w'∧J (L.setIfInBounds 0 true) (fr b p r (some m) 3) w':=by kernel_rfl
theorem Jw:aU Tryz.prog ar S J L (fr b p r none 4) w 0=aw Tryz.prog (Instr.makeMap bV none) kM w fun m w'=>S w'∧J (L.setIfInBounds 0 true) (fr b p r (some m) 4) w':=by kernel_rfl
theorem JN:aU Tryz.prog ar S J L (fr b p r none 5) w 0=aw Tryz.prog (Instr.makeMap bV none) kM w fun m w'=>S w'∧J (L.setIfInBounds 0 true) (fr b p r (some m) 5) w':=by kernel_rfl
theorem JV:aU Tryz.prog ar S J L (fr b p r none 6) w 0=aw Tryz.prog (Instr.makeMap bV none) kM w fun m w'=>S w'∧J (L.setIfInBounds 0 true) (fr b p r (some m) 6) w':=by kernel_rfl
theorem Ju:aU Tryz.prog ar S J L (fr b p r none 7) w 0=aw Tryz.prog (Instr.makeMap bV none) kM w fun m w'=>S w'∧J (L.setIfInBounds 0 true) (fr b p r (some m) 7) w':=by kernel_rfl
theorem Jr:aU Tryz.prog ar S J L (fr b p r none 8) w 0=aw Tryz.prog (Instr.makeMap bV none) kM w fun m w'=>S w'∧J (L.setIfInBounds 0 true) (fr b p r (some m) 8) w':=by kernel_rfl
theorem I4:aU Tryz.prog ar S J L (fr b p r none 0) w 1=Cl Tryz.prog [.st [.int .i64]] (iA 0) ⟨[]⟩ w fun x w'=>S w'∧J (L.setIfInBounds 1 true) (aQ (fr b p r none 0) 12 (some (bh x.1))) w':=by kernel_rfl
theorem IJ:aU Tryz.prog ar S J L (fr b p r (some m) 0) w 1=Cl Tryz.prog [.st [.int .i64]] (iA 0) ⟨[]⟩ w fun x w'=>S w'∧J (L.setIfInBounds 1 true) (aQ (fr b p r (some m) 0) 12 (some (bh x.1))) w':=by kernel_rfl
theorem Iz:aU Tryz.prog ar S J L (fr b p r none 1) w 5=Cl Tryz.prog [.st [.int .i64]] (iA 1) ⟨[]⟩ w fun x w'=>S w'∧J (L.setIfInBounds 5 true) (aQ (fr b p r none 1) 15 (some (bh x.1))) w':=by kernel_rfl
theorem Iv:aU Tryz.prog ar S J L (fr b p r (some m) 1) w 5=Cl Tryz.prog [.st [.int .i64]] (iA 1) ⟨[]⟩ w fun x w'=>S w'∧J (L.setIfInBounds 5 true) (aQ (fr b p r (some m) 1) 15 (some (bh x.1))) w':=by kernel_rfl
theorem I5:aU Tryz.prog ar S J L (fr b p r none 2) w 9=Cl Tryz.prog [.st [.int .i64]] (iA 2) ⟨[]⟩ w fun x w'=>S w'∧J (L.setIfInBounds 9 true) (aQ (fr b p r none 2) 18 (some (bh x.1))) w':=by kernel_rfl
theorem I3:aU Tryz.prog ar S J L (fr b p r (some m) 2) w 9=Cl Tryz.prog [.st [.int .i64]] (iA 2) ⟨[]⟩ w fun x w'=>S w'∧J (L.setIfInBounds 9 true) (aQ (fr b p r (some m) 2) 18 (some (bh x.1))) w':=by kernel_rfl
theorem IV:aU Tryz.prog ar S J L (fr b p r none 3) w 13=Cl Tryz.prog [.st [.int .i64]] (iA 3) ⟨[]⟩ w fun x w'=>S w'∧J (L.setIfInBounds 13 true) (aQ (fr b p r none 3) 21 (some (bh x.1))) w':=by kernel_rfl
theorem Is:aU Tryz.prog ar S J L (fr b p r (some m) 3) w 13=Cl Tryz.prog [.st [.int .i64]] (iA 3) ⟨[]⟩ w fun x w'=>S w'∧J (L.setIfInBounds 13 true) (aQ (fr b p r (some m) 3) 21 (some (bh x.1))) w':=by kernel_rfl
theorem IS:aU Tryz.prog ar S J L (fr b p r none 4) w 17=Cl Tryz.prog [.st [.int .i64]] (iA 4) ⟨[]⟩ w fun x w'=>S w'∧J (L.setIfInBounds 17 true) (aQ (fr b p r none 4) 24 (some (bh x.1))) w':=by kernel_rfl
theorem Ir:aU Tryz.prog ar S J L (fr b p r (some m) 4) w 17=Cl Tryz.prog [.st [.int .i64]] (iA 4) ⟨[]⟩ w fun x w'=>S w'∧J (L.setIfInBounds 17 true) (aQ (fr b p r (some m) 4) 24 (some (bh x.1))) w':=by kernel_rfl
theorem Il:aU Tryz.prog ar S J L (fr b p r none 5) w 21=Cl Tryz.prog [.st [.int .i64]] (iA 5) ⟨[]⟩ w fun x w'=>S w'∧J (L.setIfInBounds 21 true) (aQ (fr b p r none 5) 27 (some (bh x.1))) w':=by kernel_rfl
theorem IN:aU Tryz.prog ar S J L (fr b p r (some m) 5) w 21=Cl Tryz.prog [.st [.int .i64]] (iA 5) ⟨[]⟩ w fun x w'=>S w'∧J (L.setIfInBounds 21 true) (aQ (fr b p r (some m) 5) 27 (some (bh x.1))) w':=by kernel_rfl
theorem IU:aU Tryz.prog ar S J L (fr b p r none 6) w 25=Cl Tryz.prog [.st [.int .i64]] (iA 6) ⟨[]⟩ w fun x w'=>S w'∧J (L.setIfInBounds 25 true) (aQ (fr b p r none 6) 30 (some (bh x.1))) w':=by kernel_rfl
theorem IE:aU Tryz.prog ar S J L (fr b p r (some m) 6) w 25=Cl Tryz.prog [.st [.int .i64]] (iA 6) ⟨[]⟩ w fun x w'=>S w'∧J (L.setIfInBounds 25 true) (aQ (fr b p r (some m) 6) 30 (some (bh x.1))) w':=by kernel_rfl
theorem ID:aU Tryz.prog ar S J L (fr b p r none 7) w 29=Cl Tryz.prog [.st [.int .i64]] (iA 7) ⟨[]⟩ w fun x w'=>S w'∧J (L.setIfInBounds 29 true) (aQ (fr b p r none 7) 33 (some (bh x.1))) w':=by kernel_rfl
theorem II:aU Tryz.prog ar S J L (fr b p r (some m) 7) w 29=Cl Tryz.prog [.st [.int .i64]] (iA 7) ⟨[]⟩ w fun x w'=>S w'∧J (L.setIfInBounds 29 true) (aQ (fr b p r (some m) 7) 33 (some (bh x.1))) w':=by kernel_rfl
theorem Gi:aU Tryz.prog ar S J L (fr b p r (some m) 1) w 4=aw Tryz.prog (do Instr.mapUpdate bV (.map m) (bh (1:Nat)) (cu p 0);pure undef) kV w fun _ w'=>S w'∧J (L.setIfInBounds 4 true) (fr b p r (some m) 1) w':=by kernel_rfl
theorem HN:aU Tryz.prog ar S J L (fr b p r (some m) 2) w 4=aw Tryz.prog (do Instr.mapUpdate bV (.map m) (bh (1:Nat)) (cu p 0);pure undef) kV w fun _ w'=>S w'∧J (L.setIfInBounds 4 true) (fr b p r (some m) 2) w':=by kernel_rfl
theorem G8:aU Tryz.prog ar S J L (fr b p r (some m) 2) w 8=aw Tryz.prog (do Instr.mapUpdate bV (.map m) (bh (2:Nat)) (cu p 1);pure undef) kV w fun _ w'=>S w'∧J (L.setIfInBounds 8 true) (fr b p r (some m) 2) w':=by kernel_rfl
theorem GP:aU Tryz.prog ar S J L (fr b p r (some m) 3) w 4=aw Tryz.prog (do Instr.mapUpdate bV (.map m) (bh (1:Nat)) (cu p 0);pure undef) kV w fun _ w'=>S w'∧J (L.setIfInBounds 4 true) (fr b p r (some m) 3) w':=by kernel_rfl
theorem Ig:aU Tryz.prog ar S J L (fr b p r (some m) 3) w 8=aw Tryz.prog (do Instr.mapUpdate bV (.map m) (bh (2:Nat)) (cu p 1);pure undef) kV w fun _ w'=>S w'∧J (L.setIfInBounds 8 true) (fr b p r (some m) 3) w':=by kernel_rfl
theorem Hz:aU Tryz.prog ar S J L (fr b p r (some m) 3) w 12=aw Tryz.prog (do Instr.mapUpdate bV (.map m) (bh (3:Nat)) (cu p 2);pure undef) kV w fun _ w'=>S w'∧J (L.setIfInBounds 12 true) (fr b p r (some m) 3) w':=by kernel_rfl
theorem Ie:aU Tryz.prog ar S J L (fr b p r (some m) 4) w 4=aw Tryz.prog (do Instr.mapUpdate bV (.map m) (bh (1:Nat)) (cu p 0);pure undef) kV w fun _ w'=>S w'∧J (L.setIfInBounds 4 true) (fr b p r (some m) 4) w':=by kernel_rfl
theorem Gl:aU Tryz.prog ar S J L (fr b p r (some m) 4) w 8=aw Tryz.prog (do Instr.mapUpdate bV (.map m) (bh (2:Nat)) (cu p 1);pure undef) kV w fun _ w'=>S w'∧J (L.setIfInBounds 8 true) (fr b p r (some m) 4) w':=by kernel_rfl
theorem GC:aU Tryz.prog ar S J L (fr b p r (some m) 4) w 12=aw Tryz.prog (do Instr.mapUpdate bV (.map m) (bh (3:Nat)) (cu p 2);pure undef) kV w fun _ w'=>S w'∧J (L.setIfInBounds 12 true) (fr b p r (some m) 4) w':=by kernel_rfl
theorem Hc:aU Tryz.prog ar S J L (fr b p r (some m) 4) w 16=aw Tryz.prog (do Instr.mapUpdate bV (.map m) (bh (4:Nat)) (cu p 3);pure undef) kV w fun _ w'=>S w'∧J (L.setIfInBounds 16 true) (fr b p r (some m) 4) w':=by kernel_rfl
theorem H4:aU Tryz.prog ar S J L (fr b p r (some m) 5) w 4=aw Tryz.prog (do Instr.mapUpdate bV (.map m) (bh (1:Nat)) (cu p 0);pure undef) kV w fun _ w'=>S w'∧J (L.setIfInBounds 4 true) (fr b p r (some m) 5) w':=by kernel_rfl
theorem GI:aU Tryz.prog ar S J L (fr b p r (some m) 5) w 8=aw Tryz.prog (do Instr.mapUpdate bV (.map m) (bh (2:Nat)) (cu p 1);pure undef) kV w fun _ w'=>S w'∧J (L.setIfInBounds 8 true) (fr b p r (some m) 5) w':=by kernel_rfl
theorem Hr:aU Tryz.prog ar S J L (fr b p r (some m) 5) w 12=aw Tryz.prog (do Instr.mapUpdate bV (.map m) (bh (3:Nat)) (cu p 2);pure undef) kV w fun _ w'=>S w'∧J (L.setIfInBounds 12 true) (fr b p r (some m) 5) w':=by kernel_rfl
theorem Gs:aU Tryz.prog ar S J L (fr b p r (some m) 5) w 16=aw Tryz.prog (do Instr.mapUpdate bV (.map m) (bh (4:Nat)) (cu p 3);pure undef) kV w fun _ w'=>S w'∧J (L.setIfInBounds 16 true) (fr b p r (some m) 5) w':=by kernel_rfl
theorem GO:aU Tryz.prog ar S J L (fr b p r (some m) 5) w 20=aw Tryz.prog (do Instr.mapUpdate bV (.map m) (bh (5:Nat)) (cu p 4);pure undef) kV w fun _ w'=>S w'∧J (L.setIfInBounds 20 true) (fr b p r (some m) 5) w':=by kernel_rfl
theorem Ht:aU Tryz.prog ar S J L (fr b p r (some m) 6) w 4=aw Tryz.prog (do Instr.mapUpdate bV (.map m) (bh (1:Nat)) (cu p 0);pure undef) kV w fun _ w'=>S w'∧J (L.setIfInBounds 4 true) (fr b p r (some m) 6) w':=by kernel_rfl
theorem Gk:aU Tryz.prog ar S J L (fr b p r (some m) 6) w 8=aw Tryz.prog (do Instr.mapUpdate bV (.map m) (bh (2:Nat)) (cu p 1);pure undef) kV w fun _ w'=>S w'∧J (L.setIfInBounds 8 true) (fr b p r (some m) 6) w':=by kernel_rfl
theorem HH:aU Tryz.prog ar S J L (fr b p r (some m) 6) w 12=aw Tryz.prog (do Instr.mapUpdate bV (.map m) (bh (3:Nat)) (cu p 2);pure undef) kV w fun _ w'=>S w'∧J (L.setIfInBounds 12 true) (fr b p r (some m) 6) w':=by kernel_rfl
theorem Hv:aU Tryz.prog ar S J L (fr b p r (some m) 6) w 16=aw Tryz.prog (do Instr.mapUpdate bV (.map m) (bh (4:Nat)) (cu p 3);pure undef) kV w fun _ w'=>S w'∧J (L.setIfInBounds 16 true) (fr b p r (some m) 6) w':=by kernel_rfl
theorem H0:aU Tryz.prog ar S J L (fr b p r (some m) 6) w 20=aw Tryz.prog (do Instr.mapUpdate bV (.map m) (bh (5:Nat)) (cu p 4);pure undef) kV w fun _ w'=>S w'∧J (L.setIfInBounds 20 true) (fr b p r (some m) 6) w':=by kernel_rfl
theorem GV:aU Tryz.prog ar S J L (fr b p r (some m) 6) w 24=aw Tryz.prog (do Instr.mapUpdate bV (.map m) (bh (6:Nat)) (cu p 5);pure undef) kV w fun _ w'=>S w'∧J (L.setIfInBounds 24 true) (fr b p r (some m) 6) w':=by kernel_rfl
theorem GU:aU Tryz.prog ar S J L (fr b p r (some m) 7) w 4=aw Tryz.prog (do Instr.mapUpdate bV (.map m) (bh (1:Nat)) (cu p 0);pure undef) kV w fun _ w'=>S w'∧J (L.setIfInBounds 4 true) (fr b p r (some m) 7) w':=by kernel_rfl
theorem Gr:aU Tryz.prog ar S J L (fr b p r (some m) 7) w 8=aw Tryz.prog (do Instr.mapUpdate bV (.map m) (bh (2:Nat)) (cu p 1);pure undef) kV w fun _ w'=>S w'∧J (L.setIfInBounds 8 true) (fr b p r (some m) 7) w':=by kernel_rfl
theorem HL:aU Tryz.prog ar S J L (fr b p r (some m) 7) w 12=aw Tryz.prog (do Instr.mapUpdate bV (.map m) (bh (3:Nat)) (cu p 2);pure undef) kV w fun _ w'=>S w'∧J (L.setIfInBounds 12 true) (fr b p r (some m) 7) w':=by kernel_rfl
theorem GN:aU Tryz.prog ar S J L (fr b p r (some m) 7) w 16=aw Tryz.prog (do Instr.mapUpdate bV (.map m) (bh (4:Nat)) (cu p 3);pure undef) kV w fun _ w'=>S w'∧J (L.setIfInBounds 16 true) (fr b p r (some m) 7) w':=by kernel_rfl
theorem GY:aU Tryz.prog ar S J L (fr b p r (some m) 7) w 20=aw Tryz.prog (do Instr.mapUpdate bV (.map m) (bh (5:Nat)) (cu p 4);pure undef) kV w fun _ w'=>S w'∧J (L.setIfInBounds 20 true) (fr b p r (some m) 7) w':=by kernel_rfl
theorem H5:aU Tryz.prog ar S J L (fr b p r (some m) 7) w 24=aw Tryz.prog (do Instr.mapUpdate bV (.map m) (bh (6:Nat)) (cu p 5);pure undef) kV w fun _ w'=>S w'∧J (L.setIfInBounds 24 true) (fr b p r (some m) 7) w':=by kernel_rfl
theorem HI:aU Tryz.prog ar S J L (fr b p r (some m) 7) w 28=aw Tryz.prog (do Instr.mapUpdate bV (.map m) (bh (7:Nat)) (cu p 6);pure undef) kV w fun _ w'=>S w'∧J (L.setIfInBounds 28 true) (fr b p r (some m) 7) w':=by kernel_rfl
theorem HO:aU Tryz.prog ar S J L (fr b p r (some m) 8) w 4=aw Tryz.prog (do Instr.mapUpdate bV (.map m) (bh (1:Nat)) (cu p 0);pure undef) kV w fun _ w'=>S w'∧J (L.setIfInBounds 4 true) (fr b p r (some m) 8) w':=by kernel_rfl
theorem GR:aU Tryz.prog ar S J L (fr b p r (some m) 8) w 8=aw Tryz.prog (do Instr.mapUpdate bV (.map m) (bh (2:Nat)) (cu p 1);pure undef) kV w fun _ w'=>S w'∧J (L.setIfInBounds 8 true) (fr b p r (some m) 8) w':=by kernel_rfl
theorem HC:aU Tryz.prog ar S J L (fr b p r (some m) 8) w 12=aw Tryz.prog (do Instr.mapUpdate bV (.map m) (bh (3:Nat)) (cu p 2);pure undef) kV w fun _ w'=>S w'∧J (L.setIfInBounds 12 true) (fr b p r (some m) 8) w':=by kernel_rfl
theorem Gm:aU Tryz.prog ar S J L (fr b p r (some m) 8) w 16=aw Tryz.prog (do Instr.mapUpdate bV (.map m) (bh (4:Nat)) (cu p 3);pure undef) kV w fun _ w'=>S w'∧J (L.setIfInBounds 16 true) (fr b p r (some m) 8) w':=by kernel_rfl
theorem H7:aU Tryz.prog ar S J L (fr b p r (some m) 8) w 20=aw Tryz.prog (do Instr.mapUpdate bV (.map m) (bh (5:Nat)) (cu p 4);pure undef) kV w fun _ w'=>S w'∧J (L.setIfInBounds 20 true) (fr b p r (some m) 8) w':=by kernel_rfl
theorem H3:aU Tryz.prog ar S J L (fr b p r (some m) 8) w 24=aw Tryz.prog (do Instr.mapUpdate bV (.map m) (bh (6:Nat)) (cu p 5);pure undef) kV w fun _ w'=>S w'∧J (L.setIfInBounds 24 true) (fr b p r (some m) 8) w':=by kernel_rfl
theorem Gw:aU Tryz.prog ar S J L (fr b p r (some m) 8) w 28=aw Tryz.prog (do Instr.mapUpdate bV (.map m) (bh (7:Nat)) (cu p 6);pure undef) kV w fun _ w'=>S w'∧J (L.setIfInBounds 28 true) (fr b p r (some m) 8) w':=by kernel_rfl
theorem HB:aU Tryz.prog ar S J L (fr b p r (some m) 8) w 32=aw Tryz.prog (do Instr.mapUpdate bV (.map m) (bh (8:Nat)) (cu p 7);pure undef) kV w fun _ w'=>S w'∧J (L.setIfInBounds 32 true) (fr b p r (some m) 8) w':=by kernel_rfl
theorem Ia {i:Nat} (hi:i≤8):aU Tryz.prog ar S J L (fr b p r none i) w 0=aw Tryz.prog (Instr.makeMap bV none) kM w fun m w'=>S w'∧J (L.setIfInBounds 0 true) (fr b p r (some m) i) w':=
 match i,hi with
 |0,_=>JW
 |1,_=>JB
 |2,_=>Jz
 |3,_=>Jt
 |4,_=>Jw
 |5,_=>JN
 |6,_=>JV
 |7,_=>Ju
 |8,_=>Jr
 |i+9,h=>by omega
theorem J5 {i:Nat} (hi:i<8):aU Tryz.prog ar S J L (fr b p r none i) w (1+4*i)=Cl Tryz.prog [.st [.int .i64]] (iA i) ⟨[]⟩ w fun x w'=>S w'∧J (L.setIfInBounds (1+4*i) true) (aQ (fr b p r none i) (12+3*i) (some (bh x.1))) w':=
 match i,hi with
 |0,_=>I4
 |1,_=>Iz
 |2,_=>I5
 |3,_=>IV
 |4,_=>IS
 |5,_=>Il
 |6,_=>IU
 |7,_=>ID
 |i+8,h=>by omega
theorem JM {i:Nat} (hi:i<8):aU Tryz.prog ar S J L (fr b p r (some m) i) w (1+4*i)=Cl Tryz.prog [.st [.int .i64]] (iA i) ⟨[]⟩ w fun x w'=>S w'∧J (L.setIfInBounds (1+4*i) true) (aQ (fr b p r (some m) i) (12+3*i) (some (bh x.1))) w':=
 match i,hi with
 |0,_=>IJ
 |1,_=>Iv
 |2,_=>I3
 |3,_=>Is
 |4,_=>Ir
 |5,_=>IN
 |6,_=>IE
 |7,_=>II
 |i+8,h=>by omega
theorem H9 {i j:Nat} (hi:i≤8) (hj:j<i):aU Tryz.prog ar S J L (fr b p r (some m) i) w (4+4*j)=aw Tryz.prog (do Instr.mapUpdate bV (.map m) (bh ((j+1:Nat):Int)) (cu p j);pure undef) kV w fun _ w'=>S w'∧J (L.setIfInBounds (4+4*j) true) (fr b p r (some m) i) w':=
 match i,j,hi,hj with
 |1,0,_,_=>Gi
 |2,0,_,_=>HN
 |2,1,_,_=>G8
 |3,0,_,_=>GP
 |3,1,_,_=>Ig
 |3,2,_,_=>Hz
 |4,0,_,_=>Ie
 |4,1,_,_=>Gl
 |4,2,_,_=>GC
 |4,3,_,_=>Hc
 |5,0,_,_=>H4
 |5,1,_,_=>GI
 |5,2,_,_=>Hr
 |5,3,_,_=>Gs
 |5,4,_,_=>GO
 |6,0,_,_=>Ht
 |6,1,_,_=>Gk
 |6,2,_,_=>HH
 |6,3,_,_=>Hv
 |6,4,_,_=>H0
 |6,5,_,_=>GV
 |7,0,_,_=>GU
 |7,1,_,_=>Gr
 |7,2,_,_=>HL
 |7,3,_,_=>GN
 |7,4,_,_=>GY
 |7,5,_,_=>H5
 |7,6,_,_=>HI
 |8,0,_,_=>HO
 |8,1,_,_=>GR
 |8,2,_,_=>HC
 |8,3,_,_=>Gm
 |8,4,_,_=>H7
 |8,5,_,_=>H3
 |8,6,_,_=>Gw
 |8,7,_,_=>HB
 |0,_,_,h=>by omega
 |1,j+1,_,h=>by omega
 |2,j+2,_,h=>by omega
 |3,j+3,_,h=>by omega
 |4,j+4,_,h=>by omega
 |5,j+5,_,h=>by omega
 |6,j+6,_,h=>by omega
 |7,j+7,_,h=>by omega
 |8,j+8,_,h=>by omega
 |i+9,_,h,_=>by omega
theorem Iq (h:K (aQ (aQ (fr b p r (some m) 8) 36 (some (.map m))) 5 (some (.map m))) w):aB Tryz.prog ar S K (n+2) (LM true 8 255) (fr b p r (some m) 8) w:=
 aZ (bt (i:=33) rfl (by kernel_rfl) (Eq.mpr (by kernel_rfl:eM Tryz.prog ar S (aB Tryz.prog ar S K (n+1)) (LM true 8 255) (fr b p r (some m) 8) w 33=aB Tryz.prog ar S K (n+1) ((LM true 8 255).setIfInBounds 33 true) (aQ (fr b p r (some m) 8) 36 (some (.map m))) w)
  (aZ (bt (i:=34) rfl (by kernel_rfl) (Eq.mpr (by kernel_rfl:eM Tryz.prog ar S (aB Tryz.prog ar S K n) ((LM true 8 255).setIfInBounds 33 true) (aQ (fr b p r (some m) 8) 36 (some (.map m))) w 34=aB Tryz.prog ar S K n (((LM true 8 255).setIfInBounds 33 true).setIfInBounds 34 true) (aQ (aQ (fr b p r (some m) 8) 36 (some (.map m))) 5 (some (.map m))) w)
   (by
    cases n with
    |zero=>exact Eq.mpr (by kernel_rfl:dp (Region.ready .any ar (((LM true 8 255).setIfInBounds 33 true).setIfInBounds 34 true)).isEmpty (K (aQ (aQ (fr b p r (some m) 8) 36 (some (.map m))) 5 (some (.map m))) w)=K (aQ (aQ (fr b p r (some m) 8) 36 (some (.map m))) 5 (some (.map m))) w) h
    |succ n=>
     unfold aB
     rw [(by kernel_rfl:Region.ready .any ar (((LM true 8 255).setIfInBounds 33 true).setIfInBounds 34 true)= [])]
     exact h))))))
end
def ra (b4:Nat) (m_:Option Nat) (p1 r2:Option Addr) (R:(TT [.int .u8,.int .i64,.int .i64,.int .i64,.int .u32,.sl,.int .i64])→World→Prop) (w_7:World):Prop:=
 ∃(I_8:World→Prop) (m_9:World→Nat),I_8 w_7∧
 ∀(w_10:World),I_8 w_10→
 fN w_10 fun (S11:World→Prop) (w_12:World)=>
 aa (Option.isNone (r2:Option Addr))
 (aN p1 fun (p13:Addr)=>
 ad (.st [.int .i64]) (p13.add 0) S11 fun (part14:(TT [.int .i64]))=>
 Cl Tryz.prog [(.st [.int .i64])] eV ⟨[]⟩ w_12 fun (r16:(TT [.int .i64])) (w_15:World)=>
 S11 w_15∧
 aa (!((part14.1:Int)==(r16.1:Int)))
 (aN p1 fun (p17:Addr)=>
 ad (.st [.int .i64]) (p17.add 0) S11 fun (part18:(TT [.int .i64]))=>
 Cl Tryz.prog [(.st [.int .i64])] fJ ⟨[]⟩ w_15 fun (r20:(TT [.int .i64])) (w_19:World)=>
 S11 w_19∧
 aa (!((part18.1:Int)==(r20.1:Int)))
 (ae (⟨b4,0,none⟩:Addr) [(.int .u8 1),(.int .i64 0),(.int .i64 0),(.int .i64 0),(.int .u32 0),(.slice none 0 0),(.int .i64 0)] 0 w_19 fun (w_21:World)=>
 Ld (.st [.int .u8,.int .i64,.int .i64,.int .i64,.int .u32,.sl,.int .i64]) (⟨b4,0,none⟩:Addr) w_21 fun (res22:(TT [.int .u8,.int .i64,.int .i64,.int .i64,.int .u32,.sl,.int .i64]))=>
 R (res22) w_21)
 (aN p1 fun (p23:Addr)=>
 Ld (.st [.int .i64]) (p23.add 0) w_19 fun (part24:(TT [.int .i64]))=>
 aw Tryz.prog (Instr.lookup 126 (.map m_) (.agg ⟨[(.int .i64 part24.1)]⟩) false) kV w_19 fun (e26:Value) (w_25:World)=>
 ln Tryz.prog e26 [(.st [.int .u8,.int .i64,.int .i64,.int .i64,.int .u32,.sl,.int .i64]),kB] [(.pointer r2)] w_25 fun (r28:(TT [.int .u8,.int .i64,.int .i64,.int .i64,.int .u32,.sl,.int .i64])) (r29:Bool) (w_27:World)=>
 Nw 29 ⟨[(.int .u8 0),(.int .i64 0),(.int .i64 0),(.int .i64 0),(.int .u32 0),(.slice none 0 0),(.int .i64 0)]⟩ w_27 fun (b31:Nat) (w_30:World)=>
 ae (⟨b31,0,none⟩:Addr) [(.int .u8 r28.1),(.int .i64 r28.2.1),(.int .i64 r28.2.2.1),(.int .i64 r28.2.2.2.1),(.int .u32 r28.2.2.2.2.1),(.slice r28.2.2.2.2.2.1.base r28.2.2.2.2.2.1.len r28.2.2.2.2.2.1.cap),(.int .i64 r28.2.2.2.2.2.2.1)] 0 w_30 fun (w_32:World)=>
 aa r29
 (Ld (.st [.int .u8,.int .i64,.int .i64,.int .i64,.int .u32,.sl,.int .i64]) (⟨b31,0,none⟩:Addr) w_32 fun (x33:(TT [.int .u8,.int .i64,.int .i64,.int .i64,.int .u32,.sl,.int .i64]))=>
 ae (⟨b4,0,none⟩:Addr) [(.int .u8 x33.1),(.int .i64 x33.2.1),(.int .i64 x33.2.2.1),(.int .i64 x33.2.2.2.1),(.int .u32 x33.2.2.2.2.1),(.slice x33.2.2.2.2.2.1.base x33.2.2.2.2.2.1.len x33.2.2.2.2.2.1.cap),(.int .i64 x33.2.2.2.2.2.2.1)] 0 w_32 fun (w_34:World)=>
 Ld (.st [.int .u8,.int .i64,.int .i64,.int .i64,.int .u32,.sl,.int .i64]) (⟨b4,0,none⟩:Addr) w_34 fun (res35:(TT [.int .u8,.int .i64,.int .i64,.int .i64,.int .u32,.sl,.int .i64]))=>
 R (res35) w_34)
 (I_8 w_32∧m_9 w_32<m_9 w_10)))
 (aN p1 fun (p36:Addr)=>
 Ld (.st [.int .i64]) (p36.add 0) w_15 fun (part37:(TT [.int .i64]))=>
 aw Tryz.prog (Instr.lookup 126 (.map m_) (.agg ⟨[(.int .i64 part37.1)]⟩) false) kV w_15 fun (e39:Value) (w_38:World)=>
 ln Tryz.prog e39 [(.st [.int .u8,.int .i64,.int .i64,.int .i64,.int .u32,.sl,.int .i64]),kB] [(.pointer r2)] w_38 fun (r41:(TT [.int .u8,.int .i64,.int .i64,.int .i64,.int .u32,.sl,.int .i64])) (r42:Bool) (w_40:World)=>
 Nw 29 ⟨[(.int .u8 0),(.int .i64 0),(.int .i64 0),(.int .i64 0),(.int .u32 0),(.slice none 0 0),(.int .i64 0)]⟩ w_40 fun (b44:Nat) (w_43:World)=>
 ae (⟨b44,0,none⟩:Addr) [(.int .u8 r41.1),(.int .i64 r41.2.1),(.int .i64 r41.2.2.1),(.int .i64 r41.2.2.2.1),(.int .u32 r41.2.2.2.2.1),(.slice r41.2.2.2.2.2.1.base r41.2.2.2.2.2.1.len r41.2.2.2.2.2.1.cap),(.int .i64 r41.2.2.2.2.2.2.1)] 0 w_43 fun (w_45:World)=>
 aa r42
 (Ld (.st [.int .u8,.int .i64,.int .i64,.int .i64,.int .u32,.sl,.int .i64]) (⟨b44,0,none⟩:Addr) w_45 fun (x46:(TT [.int .u8,.int .i64,.int .i64,.int .i64,.int .u32,.sl,.int .i64]))=>
 ae (⟨b4,0,none⟩:Addr) [(.int .u8 x46.1),(.int .i64 x46.2.1),(.int .i64 x46.2.2.1),(.int .i64 x46.2.2.2.1),(.int .u32 x46.2.2.2.2.1),(.slice x46.2.2.2.2.2.1.base x46.2.2.2.2.2.1.len x46.2.2.2.2.2.1.cap),(.int .i64 x46.2.2.2.2.2.2.1)] 0 w_45 fun (w_47:World)=>
 Ld (.st [.int .u8,.int .i64,.int .i64,.int .i64,.int .u32,.sl,.int .i64]) (⟨b4,0,none⟩:Addr) w_47 fun (res48:(TT [.int .u8,.int .i64,.int .i64,.int .i64,.int .u32,.sl,.int .i64]))=>
 R (res48) w_47)
 (I_8 w_45∧m_9 w_45<m_9 w_10)))
 (aN p1 fun (p49:Addr)=>
 Ld (.st [.int .i64]) (p49.add 0) w_12 fun (part50:(TT [.int .i64]))=>
 aw Tryz.prog (Instr.lookup 126 (.map m_) (.agg ⟨[(.int .i64 part50.1)]⟩) false) kV w_12 fun (e52:Value) (w_51:World)=>
 ln Tryz.prog e52 [(.st [.int .u8,.int .i64,.int .i64,.int .i64,.int .u32,.sl,.int .i64]),kB] [(.pointer r2)] w_51 fun (r54:(TT [.int .u8,.int .i64,.int .i64,.int .i64,.int .u32,.sl,.int .i64])) (r55:Bool) (w_53:World)=>
 Nw 29 ⟨[(.int .u8 0),(.int .i64 0),(.int .i64 0),(.int .i64 0),(.int .u32 0),(.slice none 0 0),(.int .i64 0)]⟩ w_53 fun (b57:Nat) (w_56:World)=>
 ae (⟨b57,0,none⟩:Addr) [(.int .u8 r54.1),(.int .i64 r54.2.1),(.int .i64 r54.2.2.1),(.int .i64 r54.2.2.2.1),(.int .u32 r54.2.2.2.2.1),(.slice r54.2.2.2.2.2.1.base r54.2.2.2.2.2.1.len r54.2.2.2.2.2.1.cap),(.int .i64 r54.2.2.2.2.2.2.1)] 0 w_56 fun (w_58:World)=>
 aa r55
 (Ld (.st [.int .u8,.int .i64,.int .i64,.int .i64,.int .u32,.sl,.int .i64]) (⟨b57,0,none⟩:Addr) w_58 fun (x59:(TT [.int .u8,.int .i64,.int .i64,.int .i64,.int .u32,.sl,.int .i64]))=>
 ae (⟨b4,0,none⟩:Addr) [(.int .u8 x59.1),(.int .i64 x59.2.1),(.int .i64 x59.2.2.1),(.int .i64 x59.2.2.2.1),(.int .u32 x59.2.2.2.2.1),(.slice x59.2.2.2.2.2.1.base x59.2.2.2.2.2.1.len x59.2.2.2.2.2.1.cap),(.int .i64 x59.2.2.2.2.2.2.1)] 0 w_58 fun (w_60:World)=>
 Ld (.st [.int .u8,.int .i64,.int .i64,.int .i64,.int .u32,.sl,.int .i64]) (⟨b4,0,none⟩:Addr) w_60 fun (res61:(TT [.int .u8,.int .i64,.int .i64,.int .i64,.int .u32,.sl,.int .i64]))=>
 R (res61) w_60)
 (I_8 w_58∧m_9 w_58<m_9 w_10))
noncomputable def G0 (R:(TT [.int .u8,.int .i64,.int .i64,.int .i64,.int .u32,.sl,.int .i64])→World→Prop):AF→World→Prop:=fun f w=>vc Tryz.prog 69 (qS Iy [true,true,true]) (.b (.l [] (.b (.s (.s .o (.c (.s .o .o) .o)) (.s .o (.s .o (.c (.s .o .o) .o))))))) (wQ Tryz.prog [.cell 4 29] [(.st [.int .u8,.int .i64,.int .i64,.int .i64,.int .u32,.sl,.int .i64])] R) f w
theorem Gx {b:Nat} {m:Option Nat} {p r:Option Addr} {R:(TT [.int .u8,.int .i64,.int .i64,.int .i64,.int .u32,.sl,.int .i64])→World→Prop} {w:World}:G0 R (aQ (aQ (fr b p r (some m) 8) 36 (some (.map m))) 5 (some (.map m))) w=ra b m p r R w:=by kernel_rfl
theorem s8 (p1 r2:Option Addr) (R:(TT [.int .u8,.int .i64,.int .i64,.int .i64,.int .u32,.sl,.int .i64])→World→Prop) (w:World) (h:
 Nw 29 ⟨[(.int .u8 0),(.int .i64 0),(.int .i64 0),(.int .i64 0),(.int .u32 0),(.slice none 0 0),(.int .i64 0)]⟩ w fun (b4:Nat) (w_3:World)=>
 aa (Option.isNone (p1:Option Addr))
 (ae (⟨b4,0,none⟩:Addr) [(.int .u8 0),(.int .i64 0),(.int .i64 0),(.int .i64 0),(.int .u32 0),(.slice none 0 0),(.int .i64 0)] 0 w_3 fun (w_5:World)=>
 Ld (.st [.int .u8,.int .i64,.int .i64,.int .i64,.int .u32,.sl,.int .i64]) (⟨b4,0,none⟩:Addr) w_5 fun (res6:(TT [.int .u8,.int .i64,.int .i64,.int .i64,.int .u32,.sl,.int .i64]))=>
 R (res6) w_5)
 (fN w_3 fun S w_7=>aB Tryz.prog ar S (G0 R) 35 (LC 0) (fc b4 p1 r2 0) w_7)):Cl Tryz.prog [(.st [.int .u8,.int .i64,.int .i64,.int .i64,.int .u32,.sl,.int .i64])] ax ⟨[.pointer p1,.pointer r2]⟩ w R:=
 pR Tryz.mix Tryz.f19 [.pointer p1,.pointer r2] [(.st [.int .u8,.int .i64,.int .i64,.int .i64,.int .u32,.sl,.int .i64])] R 69 [.cell 4 29] (by kernel_rfl) (by kernel_rfl) (by kernel_rfl) (by kernel_rfl) (by kernel_rfl)
  (.s .o (.s (.s .o (.c (.s .o .o) .o)) (.s .o (.b (.l [] (.b (.s (.s .o (.c (.s .o .o) .o)) (.s .o (.s .o (.c (.s .o .o) .o))))))))))
  (by kernel_rfl) h
end Go.Proofs.YtgglghjnakclmaaGreat
set_option maxRecDepth 20000
namespace Go.Vc
open Go
theorem rN {α β:Type} [DecidableEq α] {a k:α} {b:β}: ∀(l:List (α×β)) (i:Nat),(findAt k (eK a b l) i).map (·.2)=if k=a then some b else (findAt k l i).map (·.2)
 | [],i=>by
  unfold eK findAt
  by_cases h:k=a
  ·rw [if_pos h,if_pos h];rfl
  ·rw [if_neg h,if_neg h];rfl
 |p::l,i=>by
  unfold eK
  by_cases h:a=p.1
  ·rw [if_pos h]
   unfold findAt
   by_cases hk:k=a
   ·rw [if_pos hk,if_pos (by rw [hk])];rfl
   ·rw [if_neg hk,if_neg (by first|exact hk|(rw [←h];exact hk)),if_neg (by rw [←h];exact hk)]
  ·rw [if_neg h]
   unfold findAt
   by_cases hk:k=p.1
   ·rw [if_pos hk,if_pos hk]
    by_cases hka:k=a
    ·exact absurd (hka.symm.trans hk) h
    ·rw [if_neg hka]
   ·rw [if_neg hk,if_neg hk]
    exact rN l (i+1)
end Go.Vc
