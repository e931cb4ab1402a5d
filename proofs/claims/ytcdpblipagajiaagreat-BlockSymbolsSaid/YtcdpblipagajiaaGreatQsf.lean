/- Texts packed together by program; spaces struck by program. Conditions: as each theorem states. -/
import Derived.Carry
import Derived.OpenShut
import Derived.ProofKit
import Derived.SizedLaws
import Derived.Test.YtcdpblipagajiaaGreatQse
set_option linter.unusedSimpArgs false
set_option linter.unusedVariables false
namespace Go.Proofs.YtcdpblipagajiaaGreat
open Go Go.Vc Go.Srt Go.Inc Go.Bits Go.Blk Go.Sym
section
variable {E w:World} {F:List HP}
set_option maxRecDepth 20000
abbrev bL (b:Nat) (L:List Nat):HP:=Blk b (.cells ⟨byV L⟩ 108 (0,0))
theorem z256:(⟨List.replicate 256 (.int .u8 0)⟩:Array Value).size=256:=by simp
theorem byA {L:List Nat} (h:L.length=256):(⟨byV L⟩:Array Value).size=256:=by simp [h]
theorem byV_get {L:List Nat} {i:Nat} (h:i<L.length):(⟨byV L⟩:Array Value).toList[i]? =some (Sc.enc (.int .u8) (L[i]:Int)):=by simp [h]
theorem byV_set {L:List Nat} {i x:Nat}:(⟨byV L⟩:Array Value).setIfInBounds i (.int .u8 (x:Int))=⟨byV (L.set i x)⟩:=by
 apply Array.ext'
 rw [Array.toList_setIfInBounds]
 show (byV L).set i _=byV (L.set i x)
 unfold byV
 rw [List.map_set]
theorem rnew13_c {K:Array Value→World→Prop} (h:Hp E w F) (hK: ∀w',Hp E w' F→K ⟨byV (List.range 256)⟩ w'):Cl Tryz.prog [.arr 256] n_ref13_New ⟨[]⟩ w K:=by
 refine ref13_New.ok _ _ ?_
 unfold ref13_New.E
 refine Nw.mk h fun b2 w h=>Nw.mk h fun b4 w h=> ?_
 have hlen: ∀k,k≤256→(byV (List.range k++List.replicate (256 - k) 0)).length=256:=fun k hk=>by simp;omega
 refine ⟨fun i w'=> ∃k:Nat,i=(k:Int)∧k≤256∧Hp E w' (bL b4 (List.range k++List.replicate (256 - k) 0)::Blk b2 (.cells ⟨List.replicate 256 (.int .u8 0)⟩ 108 (0,0))::F),fun i _=>256 - i.toNat,⟨0,rfl,by omega,by
  have:(⟨byV (List.range 0++List.replicate (256 - 0) 0)⟩:Array Value)=⟨List.replicate 256 (.int .u8 0)⟩:=by simp
  unfold bL
  rw [this];exact h⟩,?_⟩
 rintro i w ⟨k,rfl,hk,h⟩
 refine IfB.dm (fun hlt=> ?_) (fun hge=> ?_)
 ·refine ⟨by omega,by omega,?_⟩
  rw [show ((k:Int)).toNat*1=k by omega]
  (try simp only [Join_eq,NilCk_some,add_mk,Nat.zero_add,Nat.add_zero,Nat.reduceAdd,Bool.not_true,Bool.not_false,IfB_t,IfB_f,Option.isNone])
  have hk:=hlen k (by omega)
  rw [u8_id (by omega),i64_id (by omega)]
  refine St.xb h (by simp;omega) rfl fun w h=> ?_
  refine ⟨⟨k+1,rfl,by omega,?_⟩,by first|omega|(dsimp only;omega)⟩
  rw [byV_set] at h
  have e:(List.range k++List.replicate (256 - k) 0).set k k=List.range (k+1)++List.replicate (256 - (k+1)) 0:=by
   rw [List.set_append_right _ _ (by simp),List.length_range,Nat.sub_self]
   obtain ⟨m,hm⟩: ∃m,256 - k=m+1:=⟨255 - k,by omega⟩
   rw [hm,List.replicate_succ,List.set_cons_zero,List.range_succ,show 256 - (k+1)=m by omega]
   simp
  rw [e] at h
  exact h
 ·have hk2:k=256:=by omega
  subst hk2
  have e:List.range 256++List.replicate (256 - 256) 0=List.range 256:=by rw [Nat.sub_self,List.replicate_zero,List.append_nil]
  rw [e] at h
  have hn:(⟨byV (List.range 256)⟩:Array Value).size=256:=by simp
  refine Ld.xw h hn (StA.q (b:=b2) h z256 hn byV_scalar fun w h=>Ld.xw h hn (hK _ h.tl))
theorem rvalid13_c {L:List Nat} {K:Bool→World→Prop} (h:Hp E w F) (hL:All256 L) (hK: ∀w',Hp E w' F→K true w'):Cl Tryz.prog [kB] n_ref13_Valid ⟨[.agg ⟨byV L⟩]⟩ w K:=by
 refine ref13_Valid.ok _ _ _ ?_
 unfold ref13_Valid.E
 have hl:=hL.len
 refine Nw.mk h fun b3 w h=> ?_
 refine ⟨fun i w=> ∃k:Nat,i=(k:Int)∧k≤256∧Hp E w (bL b3 L::F),fun i _=>256 - i.toNat,⟨0,rfl,by omega,h⟩,?_⟩
 rintro i w ⟨k,rfl,hk,h⟩
 refine IfB.dm (fun hlt=> ?_) (fun hge=>hK _ h.tl)
 refine ⟨fun i w=> ∃j:Nat,i=(j:Int)∧j≤k∧Hp E w (bL b3 L::F),fun i _=>k - i.toNat,⟨0,rfl,by omega,h⟩,?_⟩
 rintro i w ⟨j,rfl,hj,h⟩
 have hkl:k<L.length:=by omega
 have hjl:j<L.length:=by omega
 refine IfB.dm (fun hlt2=> ?_) (fun hge2=> ?_)
 ·refine Drw.mk h fun w h=>⟨by omega,by omega,?_⟩
  rw [show ((j:Int)).toNat*1=j by omega]
  (try simp only [Join_eq,NilCk_some,add_mk,Nat.zero_add,Nat.add_zero,Nat.reduceAdd,Bool.not_true,Bool.not_false,IfB_t,IfB_f,Option.isNone])
  refine Ld.xb (x:=(L[j]:Int)) h (byV_get hjl) ⟨by omega,by omega,?_⟩
  rw [show ((k:Int)).toNat*1=k by omega]
  (try simp only [Join_eq,NilCk_some,add_mk,Nat.zero_add,Nat.add_zero,Nat.reduceAdd,Bool.not_true,Bool.not_false,IfB_t,IfB_f,Option.isNone])
  refine Ld.xb (x:=(L[k]:Int)) h (byV_get hkl) ?_
  have hne:L[j]≠L[k]:=fun e=>by
   have h1:=hL.idx_at (p:=j) (by omega)
   have h2:=hL.idx_at (p:=k) (by omega)
   rw [getD_get hjl,e] at h1
   rw [getD_get hkl] at h2
   omega
  refine IfB.ef (by omega) ?_
  rw [i64_id (by omega)]
  exact ⟨⟨j+1,rfl,by omega,h⟩,by first|omega|(dsimp only;omega)⟩
 ·rw [i64_id (by omega)]
  exact ⟨⟨k+1,rfl,by omega,h⟩,by first|omega|(dsimp only;omega)⟩
def shf (L:List Nat) (p i:Nat):List Nat:=L.take (i+1)++((L.take p).drop i++L.drop (p+1))
theorem shf_top {L:List Nat} {p:Nat} (hp:p<L.length):shf L p p=L:=by
 unfold shf
 rw [List.drop_of_length_le (by simp;omega),List.nil_append,List.take_append_drop]
theorem shf_len {L:List Nat} {p i:Nat} (hp:p<L.length) (hi:i≤p):(shf L p i).length=L.length:=by
 unfold shf
 simp;omega
theorem shf_get {L:List Nat} {p i j:Nat} (hi:i≤p) (hj:j≤i) (hp:p<L.length):(shf L p i)[j]? =L[j]? :=by
 unfold shf
 rw [List.getElem?_append_left (by simp;omega),List.getElem?_take_of_lt (by omega)]
theorem shf_step {L:List Nat} {p i:Nat} (hp:p<L.length) (hi:i+1≤p):(shf L p (i+1)).set (i+1) (L[i]'(by omega))=shf L p i:=by
 have h1:L.take (i+1+1)=L.take (i+1)++ [L[i+1]'(by omega)]:=by rw [List.take_add_one,List.getElem?_eq_getElem (by omega)];rfl
 have hl:(L.take (i+1)).length=i+1:=by rw [List.length_take];omega
 have h2:(L.take p).drop i=L[i]'(by omega)::(L.take p).drop (i+1):=by
  rw [List.drop_eq_getElem_cons (by simp;omega),List.getElem_take]
 unfold shf
 rw [h1,h2,List.append_assoc,List.set_append_right _ _ (by omega),hl,Nat.sub_self]
 simp
theorem shf_end {L:List Nat} {p:Nat} (hp:p<L.length):(shf L p 0).set 0 (L.getD p 0)=mtake L p:=by
 unfold shf mtake
 rw [List.drop_zero,List.eraseIdx_eq_take_drop_succ]
 cases L with
 |nil=>simp at hp
 |cons a L=>simp
theorem rtake13_c {L:List Nat} {p:Nat} {K:Array Value→Int→Bool→World→Prop} (h:Hp E w F) (hl:L.length=256) (hp:p<256) (hK: ∀w',Hp E w' F→K ⟨byV (mtake L p)⟩ (L.getD p 0:Int) true w'):
  Cl Tryz.prog [.arr 256,kInt .u8,kB] n_ref13_Take ⟨[.agg ⟨byV L⟩,.int .i64 (p:Int)]⟩ w K:=by
 refine ref13_Take.ok _ _ _ _ ?_
 unfold ref13_Take.E
 have hpl:p<L.length:=by omega
 refine Nw.mk h fun b4 w h=>Nw.mk h fun b6 w h=>IfB.df (by omega) (IfB.df (by omega) ⟨by omega,by omega,?_⟩)
 rw [show ((p:Int)).toNat*1=p by omega]
 (try simp only [Join_eq,NilCk_some,add_mk,Nat.zero_add,Nat.add_zero,Nat.reduceAdd,Bool.not_true,Bool.not_false,IfB_t,IfB_f,Option.isNone])
 have hgp:L.getD p 0=L[p]:=getD_get hpl
 refine Ld.xb (x:=(L.getD p 0:Int)) h (by rw [hgp];exact byV_get hpl) ?_
 refine ⟨fun i w=> ∃k:Nat,i=(k:Int)∧k≤p∧Hp E w (Blk b6 (.cells ⟨List.replicate 256 (.int .u8 0)⟩ 108 (0,0))::bL b4 (shf L p k)::F),fun i _=>i.toNat,⟨p,rfl,by omega,by rw [shf_top hpl];exact h⟩,?_⟩
 rintro i w ⟨k,rfl,hk,h⟩
 have hsl:=shf_len hpl hk
 refine IfB.dm (fun hlt=> ?_) (fun hge=> ?_)
 ·obtain ⟨j,rfl⟩: ∃j,k=j+1:=⟨k - 1,by omega⟩
  rw [i64_id (by omega)]
  refine ⟨by omega,by omega,?_⟩
  rw [show (((j+1:Nat):Int) - 1).toNat*1=j by omega]
  (try simp only [Join_eq,NilCk_some,add_mk,Nat.zero_add,Nat.add_zero,Nat.reduceAdd,Bool.not_true,Bool.not_false,IfB_t,IfB_f,Option.isNone])
  have hg:=shf_get (L:=L) (p:=p) (i:=j+1) (j:=j) hk (by omega) hpl
  refine Ld.xb (x:=(L[j]:Int)) h ?_ ⟨by omega,by omega,?_⟩
  ·show (byV (shf L p (j+1)))[j]? =_
   unfold byV
   rw [List.getElem?_map,hg,List.getElem?_eq_getElem (by omega)];rfl
  rw [show (((j+1:Nat):Int)).toNat*1=j+1 by omega]
  (try simp only [Join_eq,NilCk_some,add_mk,Nat.zero_add,Nat.add_zero,Nat.reduceAdd,Bool.not_true,Bool.not_false,IfB_t,IfB_f,Option.isNone])
  refine St.xb (b:=b4) h (by simp;omega) rfl fun w h=> ?_
  rw [byV_set,shf_step hpl hk] at h
  exact ⟨⟨j,by omega,by omega,h⟩,by first|omega|(dsimp only;omega)⟩
 ·have hk0:k=0:=by omega
  subst hk0
  refine ⟨by decide,by decide,?_⟩
  (try simp only [Join_eq,NilCk_some,add_mk,Nat.zero_add,Nat.add_zero,Nat.reduceAdd,Bool.not_true,Bool.not_false,IfB_t,IfB_f,Option.isNone])
  refine St.xb (b:=b4) h (by simp;omega) rfl fun w h=> ?_
  have h:Hp E w (Blk b6 (.cells ⟨List.replicate 256 (.int .u8 0)⟩ 108 (0,0))::Blk b4 (.cells ((⟨byV (shf L p 0)⟩:Array Value).setIfInBounds 0 (.int .u8 (L.getD p 0:Int))) 108 (0,0))::F):=h
  rw [byV_set,shf_end hpl] at h
  have hm:(⟨byV (mtake L p)⟩:Array Value).size=256:=byA (by rw [(mtake_perm hpl).length_eq,hl])
  refine Ld.xw h hm (StA.q (b:=b6) h z256 hm byV_scalar fun w h=>Ld.xw h hm (hK _ h.tl))
theorem rput13_c {L:List Nat} {c:Nat} {K:Array Value→Int→World→Prop} (h:Hp E w F) (hL:All256 L) (hc:c<256) (hK: ∀w',Hp E w' F→K ⟨byV (mtake L (L.idxOf c))⟩ (L.idxOf c:Int) w'):
  Cl Tryz.prog [.arr 256,kI] n_ref13_Put ⟨[.agg ⟨byV L⟩,.int .u8 (c:Int)]⟩ w K:=by
 refine ref13_Put.ok _ _ _ _ ?_
 unfold ref13_Put.E
 have hl:=hL.len
 have hi:=hL.idx hc
 have hn:=byA hl
 have hm:=byA (hL.take hi.1).len
 refine Nw.mk h fun b4 w h=>Nw.mk h fun b6 w h=> ?_
 refine ⟨fun i w=> ∃k:Nat,i=(k:Int)∧k≤L.idxOf c∧Hp E w (Blk b6 (.cells ⟨List.replicate 256 (.int .u8 0)⟩ 108 (0,0))::bL b4 L::F),fun i _=>256 - i.toNat,⟨0,rfl,by omega,h⟩,?_⟩
 rintro i w ⟨k,rfl,hk,h⟩
 have hkl:k<L.length:=by omega
 refine IfB.dt (by omega) ⟨by omega,by omega,?_⟩
 rw [show ((k:Int)).toNat*1=k by omega]
 (try simp only [Join_eq,NilCk_some,add_mk,Nat.zero_add,Nat.add_zero,Nat.reduceAdd,Bool.not_true,Bool.not_false,IfB_t,IfB_f,Option.isNone])
 refine Ld.xb (b:=b4) (x:=(L[k]:Int)) h (byV_get hkl) ?_
 have hat:=hL.idx_at (p:=k) (by omega)
 rw [getD_get hkl] at hat
 by_cases he:L[k]=c
 ·rw [he] at hat
  subst hat
  refine IfB.et (by omega) (Ld.xw (b:=b4) h hn (rtake13_c h hl hi.1 fun w h=>Nw.mk h fun b19 w h=> ?_))
  refine StA.q h z256 hm byV_scalar fun w h=>Ld.xw h hm (StA.q (b:=b6) h z256 hm byV_scalar fun w h=>Ld.xw h hm (hK _ h.tl))
 ·refine IfB.ef (by omega) ?_
  rw [i64_id (by omega)]
  have hne:k≠L.idxOf c:=fun e=>by
   have h2:=hi.2
   rw [←e,getD_get hkl] at h2
   exact he h2
  exact ⟨⟨k+1,rfl,by omega,h⟩,by first|omega|(dsimp only;omega)⟩
theorem rrun_c {n:Nat} {K:Sl→World→Prop} (h:Hp E w F) (hn:n≤1000000) (hK: ∀s w',Hp E w' (OI s (dig n)::F)→K s w'):Cl Tryz.prog [kS] n_ref15_Run ⟨[.int .i64 (n:Int)]⟩ w K:=by
 refine ref15_Run.ok _ _ _ ?_
 unfold ref15_Run.E
 have hl:=dig_le n
 refine ⟨fun m o w=> ∃(q:Nat) (l:List Nat),m=(q:Int)∧q≤2147483647∧dig n=l++dig q∧Hp E w (OI o l::F),fun m _ _=>m.toNat,⟨n,[],rfl,by omega,rfl,h.ownNil 1⟩,?_⟩
 rintro m o w ⟨q,l,rfl,hq,hd,h⟩
 have hll:l.length≤1000000:=by rw [hd,List.length_append] at hl;omega
 refine IfB.dm (fun hpos=> ?_) (fun hz=> ?_)
 ·have hq0:0<q:=by omega
  rw [dig_pos hq0] at hd
  rw [show (2:Int)=((2:Nat):Int) from rfl,tmod2]
  refine ⟨by decide,?_⟩
  refine IfB.em (fun h1=> ?_) (fun h1=> ?_)
  ·refine Nw.mk h fun b w h=>put1I (x:=0) h (by omega) fun s' w h=>⟨by decide,?_⟩
   rw [i64_id (x:=(q:Int) - 1) (by omega),show (q:Int) - 1=((q - 1:Nat):Int) by omega,tdiv2,i64_id (by omega)]
   refine ⟨⟨(q - 1)/2,l++ [0],rfl,by omega,?_,h⟩,by first|omega|(dsimp only;omega)⟩
   rw [hd,show (q - 1) % 2=0 by omega];simp
  ·refine Nw.mk h fun b w h=>put1I (x:=1) h (by omega) fun s' w h=>⟨by decide,?_⟩
   rw [show ((2:Nat):Int)=2 from rfl,i64_id (x:=(q:Int) - 2) (by omega),show (q:Int) - 2=((q - 2:Nat):Int) by omega,show (2:Int)=((2:Nat):Int) from rfl,tdiv2,i64_id (by omega)]
   refine ⟨⟨(q - 2)/2,l++ [1],rfl,by omega,?_,h⟩,by first|omega|(dsimp only;omega)⟩
   rw [hd,show (q - 1) % 2=1 by omega,show (q - 1)/2=(q - 2)/2 by omega];simp
 ·have hq0:q=0:=by omega
  subst hq0
  rw [dig_zero,List.append_nil] at hd
  rw [hd] at hK
  exact hK _ _ h
theorem rsnew_c {K:Array Value→World→Prop} (h:Hp E w F) (hK: ∀w',Hp E w' F→K (esA (List.range 256) 0) w'):Cl Tryz.prog [.arr 257] n_ref15_New ⟨[]⟩ w K:=by
 refine ref15_New.ok _ _ ?_
 unfold ref15_New.E
 refine Nw.mk h fun b2 w h=>rnew13_c h fun w h=>Bld.es (by simp) ?_
 have hd:(esA (List.range 256) 0).size=257:=esA_size (by simp)
 refine StA.q h es_z hd esA_scalar fun w h=> ?_
 exact Ld.xw h hd (hK _ h.tl)
theorem rsvalid_c {L:List Nat} {r:Nat} {K:Bool→World→Prop} (h:Hp E w F) (hL:All256 L) (hr:r≤2147483647) (hK: ∀w',Hp E w' F→K true w'):Cl Tryz.prog [kB] n_ref15_Valid ⟨[.agg (esA L (r:Int))]⟩ w K:=by
 refine ref15_Valid.ok _ _ _ ?_
 unfold ref15_Valid.E
 have hLb:=byV_len hL.len
 (try simp only [Join_eq,NilCk_some,add_mk,Nat.zero_add,Nat.add_zero,Nat.reduceAdd,Bool.not_true,Bool.not_false,IfB_t,IfB_f,Option.isNone])
 refine Nw.mk h fun b3 w h=>Ld.p h hLb (rvalid13_c h hL fun w h=> ?_)
 refine IfB.t rfl (Ld.q h hLb rfl rfl (IfB.dt (by omega) (Ld.q h hLb rfl rfl ?_)))
 rw [show decide ((r:Int)≤2147483647)=true from decide_eq_true (by omega)]
 exact hK _ h.tl
theorem rsend_c {L:List Nat} {r:Nat} {K:Sl→Int→World→Prop} (h:Hp E w F) (hL:All256 L) (hr:r≤1000000) (hK: ∀s' w',Hp E w' (OI s' (dig r++ [257])::F)→K s' 0 w'):Cl Tryz.prog [kS,kI] n_ref15_End ⟨[.agg (esA L (r:Int))]⟩ w K:=by
 refine ref15_End.ok _ _ _ ?_
 unfold ref15_End.E
 have hLb:=byV_len hL.len
 have hdl:=dig_le r
 (try simp only [Join_eq,NilCk_some,add_mk,Nat.zero_add,Nat.add_zero,Nat.reduceAdd,Bool.not_true,Bool.not_false,IfB_t,IfB_f,Option.isNone])
 refine Nw.mk h fun b3 w h=>Ld.qw h hLb rfl (rsvalid_c h hL (by omega) fun w h=> ?_)
 with_reducible refine IfB.ntt ?_
 refine Ld.q h hLb rfl rfl (rrun_c h hr fun s1 w h=>Nw.mk h fun b12 w h=>put1I (x:=257) h (by omega) fun s w h=>hK s w ?_)
 exact h.keep1
theorem rsstep_c {L:List Nat} {r:Nat} {s:Sl} {b:List Nat} {K:Array Value→Sl→Int→World→Prop} (h:Hp E w F) (hL:All256 L) (hs:Tells F (SlT 1 s (b.map vB))) (hb: ∀x∈b,x<256) (hr:r+b.length≤1000000)
  (hK: ∀s' w',Hp E w' (OI s' (encS L r b).1::F)→All256 (encS L r b).2.1→(encS L r b).2.2≤1000000→K (esA (encS L r b).2.1 ((encS L r b).2.2:Int)) s' 0 w'):
  Cl Tryz.prog [.arr 257,kS,kI] n_ref15_Step ⟨[.agg (esA L (r:Int)),.slice s.base s.len s.cap]⟩ w K:=by
 refine ref15_Step.ok _ _ _ _ ?_
 unfold ref15_Step.E
 have hLb:=byV_len hL.len
 have hlen:=slLenB (h.tells hs)
 (try simp only [Join_eq,NilCk_some,add_mk,Nat.zero_add,Nat.add_zero,Nat.reduceAdd,Bool.not_true,Bool.not_false,IfB_t,IfB_f,Option.isNone])
 refine Nw.mk h fun b4 w h=>Nw.mk h fun b6 w h=> ?_
 refine Ld.qw h hLb rfl (rsvalid_c h hL (by omega) fun w h=> ?_)
 with_reducible refine IfB.ntt ?_
 refine Ld.q h hLb rfl rfl ?_
 rw [i64_id (by omega)]
 refine IfB.df (by omega) ?_
 refine ⟨fun o i w=> ∃(k:Nat) (L':List Nat) (r':Nat) (out:List Nat),i=(k:Int)∧k≤b.length∧All256 L'∧out.length+r'≤r+k∧
  encS L r b=(out++(encS L' r' (b.drop k)).1,(encS L' r' (b.drop k)).2)∧
  Hp E w (OI o out::Blk b6 (.cells esZ 110 (0,0))::Blk b4 (.cells (esA L' (r':Int)) 110 (0,0))::F),
  fun _ i _=>b.length - i.toNat,⟨0,L,r,[],rfl,by omega,hL,by simp,by simp,h.ownNil 1⟩,?_⟩
 rintro o i w ⟨k,L',r',out,rfl,hk,hL',hlo,he,h⟩
 have hLb':=byV_len hL'.len
 refine IfB.dm (fun hlt=> ?_) (fun hge=> ?_)
 ·have hlt:k<b.length:=by omega
  have hc:=hb _ (List.getElem_mem hlt)
  have hi:=hL'.idx hc
  have hm:=byA (hL'.take hi.1).len
  have hLm:=hL'.take hi.1
  have hLbm:=byV_len hLm.len
  have hdl:=dig_le r'
  rw [List.drop_eq_getElem_cons hlt] at he
  have rest: ∀(b33:Nat) (w:World) (G:Sl→Int→World→Prop),(∀o' k' w',k'=((k+1:Nat):Int)→(∃(L':List Nat) (r':Nat) (out:List Nat),All256 L'∧out.length+r'≤r+(k+1)∧encS L r b=(out++(encS L' r' (b.drop (k+1))).1,(encS L' r' (b.drop (k+1))).2)∧
    Hp E w' (OI o' out::Blk b6 (.cells esZ 110 (0,0))::Blk b4 (.cells (esA L' (r':Int)) 110 (0,0))::F))→G o' k' w')→
    Hp E w (Blk b33 (.cells ⟨byV (mtake L' (L'.idxOf b[k]))⟩ 108 (0,0))::OI o out::Blk b6 (.cells esZ 110 (0,0))::Blk b4 (.cells (esA L' (r':Int)) 110 (0,0))::F)→
    Ld (.arr 256) ⟨b33,0,none⟩ w fun x35=>StA 256 ⟨b4,0,none⟩ x35 w fun w_36=>
     IfB ((L'.idxOf b[k]:Int)==0)
      (Ld kI ⟨b4,256,none⟩ w_36 fun Run37=>St ⟨b4,256,none⟩ (.int .i64 (i64 (Run37+1))) w_36 fun w_38=>G o (i64 ((k:Int)+1)) w_38)
      (Ld kI ⟨b4,256,none⟩ w_36 fun Run39=>Cl Tryz.prog [kS] n_ref15_Run ⟨[.int .i64 Run39]⟩ w_36 fun r41 w_40=>
       Run Tryz.prog (Builtin.append_ #[33,33] 33 ⟨[.slice o.base o.len o.cap,.slice r41.base r41.len r41.cap]⟩) kS w_40 fun s43 w_42=>
       Nw 3 ⟨[.int .i64 (i64 ((L'.idxOf b[k]:Int)+1))]⟩ w_42 fun b45 w_44=>
       Run Tryz.prog (Builtin.append_ #[33,33] 33 ⟨[.slice s43.base s43.len s43.cap,.slice (some ⟨b45,0,none⟩) 1 1]⟩) kS w_44 fun s47 w_46=>
       St ⟨b4,256,none⟩ (.int .i64 0) w_46 fun w_48=>G s47 (i64 ((k:Int)+1)) w_48):=by
   intro b33 w G hG h
   rw [i64_id (x:=(k:Int)+1) (by omega)]
   refine Ld.xw h hm ?_
   refine StA.xm (b:=b4) (pre:= []) (mid:=byV L') (post:= [.int .i64 (r':Int)]) h rfl rfl hLb' hm (fun v hv=>List.all_eq_true.1 byV_scalar v hv) fun w h=> ?_
   have h:Hp E w (Blk b33 (.cells ⟨byV (mtake L' (L'.idxOf b[k]))⟩ 108 (0,0))::OI o out::Blk b6 (.cells esZ 110 (0,0))::Blk b4 (.cells (esA (mtake L' (L'.idxOf b[k])) (r':Int)) 110 (0,0))::F):=h
   have h:=h.no 0
   by_cases h0:L'.idxOf b[k]=0
   ·rw [encS,if_pos h0] at he
    rw [h0] at h hLm hLbm⊢
    refine IfB.et rfl (Ld.q h hLbm rfl rfl ?_)
    rw [i64_id (by omega)]
    refine St.q h hLbm rfl rfl rfl fun w h=> ?_
    dsimp only [spl,over] at h
    rw [show (r':Int)+1=((r'+1:Nat):Int) by omega] at h
    exact hG _ _ _ (by omega) ⟨_,r'+1,out,hLm,by omega,he,h⟩
   ·rw [encS,if_neg h0] at he
    refine IfB.ef (by omega) (Ld.q h hLbm rfl rfl (rrun_c h (by omega) fun s1 w h=> ?_))
    refine catI (h.at 1) Tells.own (by omega) (by omega) fun s2 w h=>Nw.mk (h.no 1) fun b40 w h=> ?_
    rw [i64_id (by omega),show (L'.idxOf b[k]:Int)+1=((L'.idxOf b[k]+1:Nat):Int) by omega] at h
    refine put1I h (by rw [List.length_append];omega) fun s3 w h=> ?_
    refine St.q (b:=b4) h hLbm rfl rfl rfl fun w h=> ?_
    dsimp only [spl,over] at h
    refine hG _ _ _ (by omega) ⟨_,0,out++dig r'++ [L'.idxOf b[k]+1],hLm,?_,?_,h⟩
    ·rw [List.length_append,List.length_append,List.length_singleton];omega
    ·rw [he];simp
  have hG: ∀o' k' w',k'=((k+1:Nat):Int)→(∃(L':List Nat) (r':Nat) (out:List Nat),All256 L'∧out.length+r'≤r+(k+1)∧encS L r b=(out++(encS L' r' (b.drop (k+1))).1,(encS L' r' (b.drop (k+1))).2)∧
    Hp E w' (OI o' out::Blk b6 (.cells esZ 110 (0,0))::Blk b4 (.cells (esA L' (r':Int)) 110 (0,0))::F))→
    (∃(k:Nat) (L':List Nat) (r':Nat) (out:List Nat),k'=(k:Int)∧k≤b.length∧All256 L'∧out.length+r'≤r+k∧encS L r b=(out++(encS L' r' (b.drop k)).1,(encS L' r' (b.drop k)).2)∧
    Hp E w' (OI o' out::Blk b6 (.cells esZ 110 (0,0))::Blk b4 (.cells (esA L' (r':Int)) 110 (0,0))::F))∧b.length - k'.toNat<b.length - ((k:Int)).toNat:=by
   rintro o' k' w' rfl ⟨L2,r2,out2,h1,h2,h3,h4⟩
   exact ⟨⟨k+1,L2,r2,out2,rfl,by omega,h1,h2,h3,h4⟩,by omega⟩
  have h:=h.drew (n:=w.drawn+1)
  have hSl: ∀{w:World} {l:List HP} [TailOf l F],Hp E w l→SlT 1 s (b.map vB) w:=fun h=>(h.tl:Hp E _ F).tells hs
  refine ⟨fun w=>HoldB b4 (esA L' (r':Int)) 110 (0,0) w∧SlT 1 s (b.map vB) w,⟨h.hb,hSl h⟩,?_⟩
  refine LdS.p (fun _ h=>h.1) hLb' ?_
  refine Idx.ldP (sc:= .int .u8) (hSl h) (fun _ h=>h.2) rfl (by rw [List.length_map];exact hlt) (b[k]:Int) (by simp [Sc.enc,vB,hlt]) ⟨?_,?_⟩
  ·refine rput13_c h hL' hc fun w h=>⟨⟨h.hb,hSl h⟩,Nw.mk h fun b33 w h=>⟨⟨h.hb,hSl h⟩,?_⟩⟩
   refine StA.q h z256 hm byV_scalar fun w h=>⟨⟨h.hb,hSl h⟩,?_⟩
   exact rest b33 w _ hG h
  ·refine Nw.mk h fun b33 w h=>⟨⟨h.hb,hSl h⟩,rput13_c h hL' hc fun w h=>⟨⟨h.hb,hSl h⟩,?_⟩⟩
   refine StA.q h z256 hm byV_scalar fun w h=>⟨⟨h.hb,hSl h⟩,?_⟩
   exact rest b33 w _ hG h
 ·have hk2:k=b.length:=by omega
  subst hk2
  rw [List.drop_of_length_le (Nat.le_refl _),encS,List.append_nil] at he
  rw [he] at hK
  dsimp only at hK
  refine Ld.qw h hLb' rfl ?_
  refine StA.q h es_z (esA_size hL'.len) esA_scalar fun w h=>Ld.xw h (esA_size hL'.len) (hK o w h.keep1 hL' (by omega))
theorem encS_len: ∀(b L:List Nat) (r:Nat),(encS L r b).1.length+(encS L r b).2.2≤r+b.length
 | [],L,r=>by simp [encS]
 |c::b,L,r=>by
  rw [encS]
  split
  ·have:=encS_len b (mtake L 0) (r+1)
   simp only [List.length_cons];omega
  ·have:=encS_len b (mtake L (L.idxOf c)) 0
   have:=dig_le r
   simp only [List.length_append,List.length_cons];omega
theorem rsall_c {s:Sl} {b:List Nat} {K:Sl→World→Prop} (h:Hp E w F) (hs:Tells F (SlT 1 s (b.map vB))) (hb: ∀x∈b,x<256) (hr:b.length≤1000000) (hK: ∀s' w',Hp E w' (OI s' (syms b)::F)→K s' w'):
  Cl Tryz.prog [kS] n_ref15_All ⟨[.slice s.base s.len s.cap]⟩ w K:=by
 refine ref15_All.ok _ _ _ ?_
 unfold ref15_All.E
 refine rsnew_c h fun w h=>rsstep_c (r:=0) h All256.range hs hb (by rw [Nat.zero_add];exact hr) fun s1 w h hL2 hr2=>Nw.mk h fun b9 w h=> ?_
 refine StA.q h es_z (esA_size hL2.len) esA_scalar fun w h=>Ld.xw h (esA_size hL2.len) ?_
 have e0:=encS_len b (List.range 256) 0
 have hdl:=dig_le (encS (List.range 256) 0 b).2.2
 refine rsend_c h hL2 hr2 fun s2 w h=> ?_
 refine catI (h.at 2) Tells.own (by omega) (by rw [List.length_append,List.length_singleton];omega) fun s3 w h=>hK s3 w ?_
 rw [show syms b=(encS (List.range 256) 0 b).1++(dig (encS (List.range 256) 0 b).2.2++ [257]) by unfold syms symsFrom;simp]
 exact h.keep1
end
end Go.Proofs.YtcdpblipagajiaaGreat
namespace Go.Proofs.YtcdpblipagajiaaGreat
open Go Go.Vc
set_option maxRecDepth 100000 in
def ref06_Of.E (symbols1:Sl) (R:(Array Value)→Int→World→Prop) (w:World):Prop:=
 Nw 41 ⟨List.replicate 258 (.int .i64 0)⟩ w fun (b3:Nat) (w_2:World)=>
 Bld Tryz.prog 41 [] fun (cs4:Array Value)=>
 Cl Tryz.prog [(.arr 258),kI] n_ref06_Add ⟨[(.agg cs4),(.slice symbols1.base symbols1.len symbols1.cap)]⟩ w_2 fun (r6:(Array Value)) (r7:Int) (w_5:World)=>
 StA 258 (⟨b3,0,none⟩:Addr) r6 w_5 fun (w_8:World)=>
 Ld (.arr 258) (⟨b3,0,none⟩:Addr) w_8 fun (res9:(Array Value))=>
 R (res9) (r7) w_8
set_option maxRecDepth 100000 in
theorem ref06_Of.ok (symbols1:Sl) (R:(Array Value)→Int→World→Prop) (w:World) (h:ref06_Of.E symbols1 R w):Cl Tryz.prog [(.arr 258),kI] n_ref06_Of ⟨[(.slice symbols1.base symbols1.len symbols1.cap)]⟩ w R:=
 calls_of_eq Tryz.mix Tryz.f63 [(.slice symbols1.base symbols1.len symbols1.cap)] [(.arr 258),kI] R 9 [.cell 2 41,.tmp 3] (by kernel_rfl) (by kernel_rfl) (by kernel_rfl) (by kernel_rfl) (by kernel_rfl)
  (.s .o (.s .o .o))
  (by kernel_rfl) h
set_option maxRecDepth 100000 in
def ref06_Add.E (t1:(Array Value)) (symbols2:Sl) (R:(Array Value)→Int→World→Prop) (w:World):Prop:=
 Nw 41 t1 w fun (b4:Nat) (w_3:World)=>
 Nw 41 ⟨List.replicate 258 (.int .i64 0)⟩ w_3 fun (b6:Nat) (w_5:World)=>
 Ld (.arr 258) (⟨b4,0,none⟩:Addr) w_5 fun (x7:(Array Value))=>
 Cl Tryz.prog [kB] n_ref06_Valid ⟨[(.agg x7)]⟩ w_5 fun (r9:Bool) (w_8:World)=>
 IfB (!r9)
 (Ld (.arr 258) (⟨b4,0,none⟩:Addr) w_8 fun (x10:(Array Value))=>
 StA 258 (⟨b6,0,none⟩:Addr) x10 w_8 fun (w_11:World)=>
 Ld (.arr 258) (⟨b6,0,none⟩:Addr) w_11 fun (res12:(Array Value))=>
 R (res12) (2) w_11)
 (Ld (.arr 258) (⟨b4,0,none⟩:Addr) w_8 fun (x13:(Array Value))=>
 Nw 41 ⟨List.replicate 258 (.int .i64 0)⟩ w_8 fun (b15:Nat) (w_14:World)=>
 StA 258 (⟨b15,0,none⟩:Addr) x13 w_14 fun (w_16:World)=>
 ∃(I_17:Int→World→Prop) (m_18:Int→World→Nat),I_17 (0) w_16∧
 ∀(i19:Int),∀(w_20:World),I_17 i19 w_20→
 IfB (decide ((i19:Int)<((symbols2.len:Int):Int)))
 (Idx symbols2 i19 1 fun (q21:Addr)=>
 Ld kI q21 w_20 fun (x22:Int)=>
 IfB (decide ((x22:Int)<(0:Int)))
 (Ld (.arr 258) (⟨b4,0,none⟩:Addr) w_20 fun (x23:(Array Value))=>
 StA 258 (⟨b6,0,none⟩:Addr) x23 w_20 fun (w_24:World)=>
 Ld (.arr 258) (⟨b6,0,none⟩:Addr) w_24 fun (res25:(Array Value))=>
 R (res25) (2) w_24)
 (Idx symbols2 i19 1 fun (q26:Addr)=>
 Ld kI q26 w_20 fun (x27:Int)=>
 IfB (decide ((x27:Int)≥(258:Int)))
 (Ld (.arr 258) (⟨b4,0,none⟩:Addr) w_20 fun (x28:(Array Value))=>
 StA 258 (⟨b6,0,none⟩:Addr) x28 w_20 fun (w_29:World)=>
 Ld (.arr 258) (⟨b6,0,none⟩:Addr) w_29 fun (res30:(Array Value))=>
 R (res30) (2) w_29)
 (Idx symbols2 i19 1 fun (q31:Addr)=>
 Ld kI q31 w_20 fun (x32:Int)=>
 IdxP (⟨b15,0,none⟩:Addr) 258 x32 1 fun (q33:Addr)=>
 Ld kI q33 w_20 fun (x34:Int)=>
 IdxP (⟨b15,0,none⟩:Addr) 258 x32 1 fun (q35:Addr)=>
 St q35 (.int .i64 (i64 ((x34:Int)+(1:Int)))) w_20 fun (w_36:World)=>
 I_17 ((i64 ((i19:Int)+(1:Int)))) w_36∧m_18 ((i64 ((i19:Int)+(1:Int)))) w_36<m_18 i19 w_20)))
 (Ld (.arr 258) (⟨b15,0,none⟩:Addr) w_20 fun (x37:(Array Value))=>
 Cl Tryz.prog [kB] n_ref06_Valid ⟨[(.agg x37)]⟩ w_20 fun (r39:Bool) (w_38:World)=>
 IfB (!r39)
 (Ld (.arr 258) (⟨b4,0,none⟩:Addr) w_38 fun (x40:(Array Value))=>
 StA 258 (⟨b6,0,none⟩:Addr) x40 w_38 fun (w_41:World)=>
 Ld (.arr 258) (⟨b6,0,none⟩:Addr) w_41 fun (res42:(Array Value))=>
 R (res42) (2) w_41)
 (Ld (.arr 258) (⟨b15,0,none⟩:Addr) w_38 fun (x43:(Array Value))=>
 StA 258 (⟨b6,0,none⟩:Addr) x43 w_38 fun (w_44:World)=>
 Ld (.arr 258) (⟨b6,0,none⟩:Addr) w_44 fun (res45:(Array Value))=>
 R (res45) (0) w_44)))
set_option maxRecDepth 100000 in
theorem ref06_Add.ok (t1:(Array Value)) (symbols2:Sl) (R:(Array Value)→Int→World→Prop) (w:World) (h:ref06_Add.E t1 symbols2 R w):Cl Tryz.prog [(.arr 258),kI] n_ref06_Add ⟨[(.agg t1),(.slice symbols2.base symbols2.len symbols2.cap)]⟩ w R:=
 calls_of_eq Tryz.mix Tryz.f116 [(.agg t1),(.slice symbols2.base symbols2.len symbols2.cap)] [(.arr 258),kI] R 45 [.cell 4 41,.tmp 5] (by kernel_rfl) (by kernel_rfl) (by kernel_rfl) (by kernel_rfl) (by kernel_rfl)
  (.s .o (.s (.s .o (.c (.s .o .o) .o)) (.s .o (.s (.s .o (.b (.l [(7,kI)] (.s (.s .o (.c .o .o)) (.s (.b (.s (.s .o (.c (.s .o .o) .o)) .o)) .o))))) (.s (.s .o (.c (.s .o .o) .o)) (.s .o .o))))))
  (by kernel_rfl) h
def ref06_Valid.E (t1:(Array Value)) (R:Bool→World→Prop) (w:World):Prop:=
 Nw 41 t1 w fun (b3:Nat) (w_2:World)=>
 ∃(I_4:Int→World→Prop) (m_5:Int→World→Nat),I_4 (0) w_2∧
 ∀(s6:Int),∀(w_7:World),I_4 s6 w_7→
 IfB (decide ((s6:Int)<(258:Int)))
 (IdxP (⟨b3,0,none⟩:Addr) 258 s6 1 fun (q8:Addr)=>
 Ld kI q8 w_7 fun (x9:Int)=>
 IfB (decide ((x9:Int)<(0:Int)))
 (R (false) w_7)
 (IdxP (⟨b3,0,none⟩:Addr) 258 s6 1 fun (q10:Addr)=>
 Ld kI q10 w_7 fun (x11:Int)=>
 IfB (decide ((x11:Int)>(2147483647:Int)))
 (R (false) w_7)
 (I_4 ((i64 ((s6:Int)+(1:Int)))) w_7∧m_5 ((i64 ((s6:Int)+(1:Int)))) w_7<m_5 s6 w_7)))
 (R (true) w_7)
theorem ref06_Valid.ok (t1:(Array Value)) (R:Bool→World→Prop) (w:World) (h:ref06_Valid.E t1 R w):Cl Tryz.prog [kB] n_ref06_Valid ⟨[(.agg t1)]⟩ w R:=
 calls_of_eq Tryz.mix Tryz.f165 [(.agg t1)] [kB] R 18 [.tmp 2] (by kernel_rfl) (by kernel_rfl) (by kernel_rfl) (by kernel_rfl) (by kernel_rfl)
  (.s .o (.s (.s .o (.b (.l [(3,kI)] (.s (.s .o (.c .o .o)) (.s (.b (.s .o (.c (.s .o .o) .o))) .o))))) (.s .o .o)))
  (by kernel_rfl) h
end Go.Proofs.YtcdpblipagajiaaGreat
set_option maxRecDepth 20000
namespace Go.Proofs.YtcdpblipagajiaaGreat
open Go Go.Vc Go.Hs
section
variable {E w:World} {F:List HP}
set_option maxRecDepth 20000 in
theorem rValid6_c {t:List Int} {K:Bool→World→Prop} (h:Hp E w F) (ht:t.length=258) (hK: ∀w',Hp E w' F→K (validT t) w'):Cl Tryz.prog [kB] n_ref06_Valid ⟨[.agg (Vc.aT t)]⟩ w K:=by
 refine ref06_Valid.ok _ _ _ ?_
 unfold ref06_Valid.E
 refine Nw.mk h fun b3 w1 h1=> ?_
 refine ⟨fun i w'=> ∃k:Nat,i=(k:Int)∧k≤258∧(∀j,j<k→0≤t.getD j 0∧t.getD j 0≤2147483647)∧Hp E w' (Blk b3 (.cells (Vc.aT t) 41 (0,0))::F),fun i _=>258 - i.toNat,⟨0,rfl,by omega,fun j hj=>by omega,h1⟩,?_⟩
 rintro i w2 ⟨k,rfl,hk,hg,hh⟩
 have bad: ∀hlt:k<258,¬(0≤t.getD k 0∧t.getD k 0≤2147483647)→K false w2:=fun hlt hb=>by
  have:=hK w2 hh.drop
  rwa [validT_f (by omega) hb] at this
 refine IfB.mk (fun hlt=> ?_) (fun hge=> ?_)
 ·have hlt:k<258:=by have:=of_decide_eq_true hlt;omega
  refine IdxP.aT hh rfl ht hlt (IfB.mk (fun h0=>bad hlt (by have:=of_decide_eq_true h0;omega)) (fun h0=> ?_))
  refine IdxP.aT hh rfl ht hlt (IfB.mk (fun h9=>bad hlt (by have:=of_decide_eq_true h9;omega)) (fun h9=> ?_))
  have h0:=of_decide_eq_false h0
  have h9:=of_decide_eq_false h9
  rw [i64_id (by omega)]
  refine ⟨⟨k+1,by omega,by omega,fun j hj=> ?_,hh⟩,by dsimp only;omega⟩
  by_cases e:j=k
  ·subst e;omega
  ·exact hg j (by omega)
 ·have hge:k=258:=by have:=of_decide_eq_false hge;omega
  subst hge
  have:=hK w2 hh.drop
  rwa [validT_iff.2 fun i hi=>hg i (by omega)] at this
set_option maxRecDepth 20000 in
theorem rAdd6_c {t zs:List Int} {s:Sl} {K:Array Value→Int→World→Prop} (h:Hp E w F) (ht:t.length=258) (hs:Tells F (SlT 1 s (zs.map vI))) (hn:zs.length≤big)
  (hK: ∀w',Hp E w' F→K (Vc.aT ((addT t zs).getD t)) (erO (addT t zs)) w'):Cl Tryz.prog [.arr 258,kI] n_ref06_Add ⟨[.agg (Vc.aT t),.slice s.base s.len s.cap]⟩ w K:=by
 refine ref06_Add.ok _ _ _ _ ?_
 unfold ref06_Add.E
 rw [Vc.aT_zero]
 have hz:(Vc.aT (List.replicate 258 0)).size=258:=by rw [Vc.aT_size];exact List.length_replicate
 have hT: ∀{u:List Int},u.length=258→(Vc.aT u).size=258:=fun hu=>by rw [Vc.aT_size,hu]
 have hsl:=(h.tells hs).1
 simp only [List.length_map,Nat.mul_one] at hsl
 rw [big_eq] at hn
 have hKn:addT t zs=none→∀w',Hp E w' F→K (Vc.aT t) 2 w':=fun e w' h'=>by have:=hK w' h';rwa [e] at this
 refine Nw.mk h fun b4 w1 h1=>Nw.mk h1 fun b6 w2 h2=>Ld.arr h2.p1 (hT ht) (rValid6_c h2 ht fun w3 h3=> ?_)
 refine IfB.mk (fun hv=> ?_) (fun hv=> ?_)
 ·have hv:validT t=false:=by simpa using hv
  exact Ld.arr h3.p1 (hT ht) (StA.blk h3 hz (hT ht) Vc.aT_scalar fun w4 h4=>Ld.arr h4 (hT ht) (hKn (addT_invalid hv) w4 h4.drop.drop))
 have hv:validT t=true:=by simpa using hv
 refine Ld.arr h3.p1 (hT ht) (Nw.mk h3 fun b15 w4 h4=>StA.blk h4 hz (hT ht) Vc.aT_scalar fun w5 h5=> ?_)
 refine ⟨fun i w'=> ∃k:Nat,i=(k:Int)∧k≤zs.length∧(zs.take k).all isS=true∧Hp E w' (Blk b15 (.cells (Vc.aT (cnt t (zs.take k))) 41 (0,0))::Blk b6 (.cells (Vc.aT (List.replicate 258 0)) 41 (0,0))::Blk b4 (.cells (Vc.aT t) 41 (0,0))::F),fun i _=>zs.length - i.toNat,⟨0,rfl,by omega,rfl,h5⟩,?_⟩
 rintro i w6 ⟨k,rfl,hk,hg,hh⟩
 have bad:addT t zs=none→Ld (.arr 258) ⟨b4,0,none⟩ w6 fun x30=>StA 258 ⟨b6,0,none⟩ x30 w6 fun w31=>Ld (.arr 258) ⟨b6,0,none⟩ w31 fun res=>K res 2 w31:=fun e=>
  Ld.arr hh.p2 (hT ht) (StA.blk hh.p1 hz (hT ht) Vc.aT_scalar fun w7 h7=>Ld.arr h7 (hT ht) (hKn e w7 h7.drop.drop.drop))
 have hcl:(cnt t (zs.take k)).length=258:=by rw [cnt_len,ht]
 have hSl:Tells (Blk b15 (.cells (Vc.aT (cnt t (zs.take k))) 41 (0,0))::Blk b6 (.cells (Vc.aT (List.replicate 258 0)) 41 (0,0))::Blk b4 (.cells (Vc.aT t) 41 (0,0))::F) (SlT 1 s (zs.map vI)):=Tells.cons (Tells.cons (Tells.cons hs))
 refine IfB.mk (fun hlt=> ?_) (fun hge=> ?_)
 ·have hlt:k<zs.length:=by have:=of_decide_eq_true hlt;omega
  refine Idx.nI (hh.tells hSl) rfl hlt (IfB.mk (fun hb=>bad (addT_bad hlt ?_)) (fun h0=> ?_))
  ·have:=of_decide_eq_true hb
   rw [Bool.eq_false_iff,ne_eq,isS_iff];omega
  refine Idx.nI (hh.tells hSl) rfl hlt (IfB.mk (fun hb=>bad (addT_bad hlt ?_)) (fun h1=> ?_))
  ·have:=of_decide_eq_true hb
   rw [Bool.eq_false_iff,ne_eq,isS_iff];omega
  have h0:=of_decide_eq_false h0
  have h1:=of_decide_eq_false h1
  have hb:isS (zs.getD k 0)=true:=isS_iff.2 (by omega)
  have hvz:=validT_iff.1 hv (zs.getD k 0).toNat (by omega)
  have hc:=cnt_get hg ht (zs.getD k 0).toNat
  have hcc:=List.count_le_length (a:=(((zs.getD k 0).toNat:Nat):Int)) (l:=zs.take k)
  rw [List.length_take] at hcc
  refine Idx.nI (hh.tells hSl) rfl hlt (IdxP.aT hh (j:=(zs.getD k 0).toNat) (by omega) hcl (by omega) ?_)
  rw [i64_id (x:=(cnt t (zs.take k)).getD (zs.getD k 0).toNat 0+1) (by omega),i64_id (by omega)]
  refine IdxP.aTset hh (j:=(zs.getD k 0).toNat) (by omega) hcl (by omega) fun w7 h7=>⟨⟨k+1,by omega,by omega,?_,?_⟩,by dsimp only;omega⟩
  ·rw [take_snocD hlt,List.all_append,hg,List.all_cons,hb];rfl
  ·rw [take_snocD hlt,cnt_snoc]
   exact h7
 ·have hge:k=zs.length:=by have:=of_decide_eq_false hge;omega
  subst hge
  rw [List.take_length] at hg hh hcl
  refine Ld.arr hh (hT hcl) (rValid6_c hh hcl fun w7 h7=>IfB.mk (fun hb=> ?_) (fun hb=> ?_))
  ·have hb:validT (cnt t zs)=false:=by simpa using hb
   exact Ld.arr h7.p2 (hT ht) (StA.blk h7.p1 hz (hT ht) Vc.aT_scalar fun w8 h8=>Ld.arr h8 (hT ht) (hKn (addT_big hb) w8 h8.drop.drop.drop))
  ·have hb:validT (cnt t zs)=true:=by simpa using hb
   refine Ld.arr h7 (hT hcl) (StA.blk h7.p1 hz (hT hcl) Vc.aT_scalar fun w8 h8=>Ld.arr h8 (hT hcl) ?_)
   have:=hK w8 h8.drop.drop.drop
   rwa [addT_all hv hg hb] at this
theorem addO_len (zs:List Int):((addT zero258 zs).getD zero258).length=258:=by
 cases ha:addT zero258 zs with
 |none=>exact zero258_len
 |some u=>
  obtain ⟨_,_,rfl,_⟩:=addT_some ha
  show (cnt zero258 zs).length=258
  rw [cnt_len,zero258_len]
set_option maxRecDepth 20000 in
theorem rOf6_c {zs:List Int} {s:Sl} {K:Array Value→Int→World→Prop} (h:Hp E w F) (hs:Tells F (SlT 1 s (zs.map vI))) (hn:zs.length≤big)
  (hK: ∀w',Hp E w' F→K (Vc.aT ((addT zero258 zs).getD zero258)) (erO (addT zero258 zs)) w'):Cl Tryz.prog [.arr 258,kI] n_ref06_Of ⟨[.slice s.base s.len s.cap]⟩ w K:=by
 refine ref06_Of.ok _ _ _ ?_
 unfold ref06_Of.E
 rw [Vc.aT_zero]
 have hl:=addO_len zs
 refine Nw.mk h fun b3 w1 h1=>bld_zero (rAdd6_c h1 zero258_len (Tells.cons hs) hn fun w2 h2=>StA.blk h2 (by rw [Vc.aT_size];exact List.length_replicate) (by rw [Vc.aT_size,hl]) Vc.aT_scalar fun w3 h3=>Ld.arr h3 (by rw [Vc.aT_size,hl]) (hK w3 h3.drop))
end
end Go.Proofs.YtcdpblipagajiaaGreat
namespace Go.Proofs.YtcdpblipagajiaaGreat
open Go Go.Vc
set_option maxRecDepth 100000 in
def ref09_Codes.E (l1:(Array Value)) (R:(Array Value)→Int→World→Prop) (w:World):Prop:=
 Nw 36 l1 w fun (b3:Nat) (w_2:World)=>
 Nw 101 ⟨List.replicate 258 (.int .u32 0)⟩ w_2 fun (b5:Nat) (w_4:World)=>
 Nw 101 ⟨List.replicate 258 (.int .u32 0)⟩ w_4 fun (b7:Nat) (w_6:World)=>
 Ld (.arr 258) (⟨b3,0,none⟩:Addr) w_6 fun (x8:(Array Value))=>
 Cl Tryz.prog [kB] n_ref09_Valid ⟨[(.agg x8)]⟩ w_6 fun (r10:Bool) (w_9:World)=>
 IfB (!r10)
 (Ld (.arr 258) (⟨b7,0,none⟩:Addr) w_9 fun (x11:(Array Value))=>
 StA 258 (⟨b5,0,none⟩:Addr) x11 w_9 fun (w_12:World)=>
 Ld (.arr 258) (⟨b5,0,none⟩:Addr) w_12 fun (res13:(Array Value))=>
 R (res13) (2) w_12)
 (Ld (.arr 258) (⟨b3,0,none⟩:Addr) w_9 fun (x14:(Array Value))=>
 Cl Tryz.prog [kS] n_ref09_Order ⟨[(.agg x14)]⟩ w_9 fun (r16:Sl) (w_15:World)=>
 ∃(I_17:Int→World→Prop) (m_18:Int→World→Nat),I_17 (1) w_15∧
 ∀(i19:Int),∀(w_20:World),I_17 i19 w_20→
 IfB (decide ((i19:Int)<((r16.len:Int):Int)))
 (Idx r16 (i64 ((i19:Int) - (1:Int))) 1 fun (q21:Addr)=>
 Ld kI q21 w_20 fun (x22:Int)=>
 IdxP (⟨b7,0,none⟩:Addr) 258 x22 1 fun (q23:Addr)=>
 Ld (kInt .u32) q23 w_20 fun (x24:Int)=>
 Idx r16 (i64 ((i19:Int) - (1:Int))) 1 fun (q25:Addr)=>
 Ld kI q25 w_20 fun (x26:Int)=>
 IdxP (⟨b3,0,none⟩:Addr) 258 x26 1 fun (q27:Addr)=>
 Ld (kInt .u8) q27 w_20 fun (x28:Int)=>
 ∃(I_29:Int→Int→World→Prop) (m_30:Int→Int→World→Nat),I_29 ((u32 ((x24:Int)+(1:Int)))) (x28) w_20∧
 ∀(c31:Int) (k32:Int),∀(w_33:World),I_29 c31 k32 w_33→
 Idx r16 i19 1 fun (q34:Addr)=>
 Ld kI q34 w_33 fun (x35:Int)=>
 IdxP (⟨b3,0,none⟩:Addr) 258 x35 1 fun (q36:Addr)=>
 Ld (kInt .u8) q36 w_33 fun (x37:Int)=>
 IfB (decide ((k32:Int)<(x37:Int)))
 (I_29 ((u32 ((2:Int)*(c31:Int)))) ((u8 ((k32:Int)+(1:Int)))) w_33∧m_30 ((u32 ((2:Int)*(c31:Int)))) ((u8 ((k32:Int)+(1:Int)))) w_33<m_30 c31 k32 w_33)
 (Idx r16 i19 1 fun (q38:Addr)=>
 Ld kI q38 w_33 fun (x39:Int)=>
 IdxP (⟨b7,0,none⟩:Addr) 258 x39 1 fun (q40:Addr)=>
 St q40 (.int .u32 c31) w_33 fun (w_41:World)=>
 I_17 ((i64 ((i19:Int)+(1:Int)))) w_41∧m_18 ((i64 ((i19:Int)+(1:Int)))) w_41<m_18 i19 w_20))
 (Ld (.arr 258) (⟨b7,0,none⟩:Addr) w_20 fun (x42:(Array Value))=>
 StA 258 (⟨b5,0,none⟩:Addr) x42 w_20 fun (w_43:World)=>
 Ld (.arr 258) (⟨b5,0,none⟩:Addr) w_43 fun (res44:(Array Value))=>
 R (res44) (0) w_43))
set_option maxRecDepth 100000 in
theorem ref09_Codes.ok (l1:(Array Value)) (R:(Array Value)→Int→World→Prop) (w:World) (h:ref09_Codes.E l1 R w):Cl Tryz.prog [(.arr 258),kI] n_ref09_Codes ⟨[(.agg l1)]⟩ w R:=
 calls_of_eq Tryz.mix Tryz.f70 [(.agg l1)] [(.arr 258),kI] R 55 [.cell 2 101,.tmp 3] (by kernel_rfl) (by kernel_rfl) (by kernel_rfl) (by kernel_rfl) (by kernel_rfl)
  (.s .o (.s .o (.s (.s .o (.c (.s .o .o) .o)) (.s .o (.s (.s .o (.b (.l [(6,kI)] (.s (.s .o (.c .o .o)) (.s (.b (.s .o (.s (.s .o (.b (.l [(7,(kInt .u32)),(8,(kInt .u8))] (.s (.s .o (.c .o .o)) (.s (.b .o) .o))))) .o))) .o))))) (.s .o .o))))))
  (by kernel_rfl) h
def ref09_Valid.E (l1:(Array Value)) (R:Bool→World→Prop) (w:World):Prop:=
 Nw 36 l1 w fun (b3:Nat) (w_2:World)=>
 Ld (.arr 258) (⟨b3,0,none⟩:Addr) w_2 fun (x4:(Array Value))=>
 Cl Tryz.prog [kI] n_ref07_Sum ⟨[(.agg x4)]⟩ w_2 fun (r6:Int) (w_5:World)=>
 R ((decide ((r6:Int)≤(32768:Int)))) w_5
theorem ref09_Valid.ok (l1:(Array Value)) (R:Bool→World→Prop) (w:World) (h:ref09_Valid.E l1 R w):Cl Tryz.prog [kB] n_ref09_Valid ⟨[(.agg l1)]⟩ w R:=
 calls_of_eq Tryz.mix Tryz.f120 [(.agg l1)] [kB] R 6 [.tmp 2] (by kernel_rfl) (by kernel_rfl) (by kernel_rfl) (by kernel_rfl) (by kernel_rfl)
  (.s .o (.s .o .o))
  (by kernel_rfl) h
set_option maxRecDepth 100000 in
def ref09_Order.E (l1:(Array Value)) (R:Sl→World→Prop) (w:World):Prop:=
 Nw 36 l1 w fun (b3:Nat) (w_2:World)=>
 ∃(I_4:Sl→Int→World→Prop) (m_5:Sl→Int→World→Nat),I_4 ((⟨none,0,0⟩:Sl)) (1) w_2∧
 ∀(out6:Sl) (n7:Int),∀(w_8:World),I_4 out6 n7 w_8→
 IfB (decide ((n7:Int)≤(15:Int)))
 (Ld (.arr 258) (⟨b3,0,none⟩:Addr) w_8 fun (x9:(Array Value))=>
 Cl Tryz.prog [kB] n_ref09_Valid ⟨[(.agg x9)]⟩ w_8 fun (r11:Bool) (w_10:World)=>
 IfB r11
 (∃(I_12:Sl→Int→World→Prop) (m_13:Sl→Int→World→Nat),I_12 (out6) (0) w_10∧
 ∀(out14:Sl) (s15:Int),∀(w_16:World),I_12 out14 s15 w_16→
 IfB (decide ((s15:Int)<(258:Int)))
 (IdxP (⟨b3,0,none⟩:Addr) 258 s15 1 fun (q17:Addr)=>
 Ld (kInt .u8) q17 w_16 fun (x18:Int)=>
 IfB (((i64 x18):Int)==(n7:Int))
 (Nw 3 ⟨[(.int .i64 s15)]⟩ w_16 fun (b20:Nat) (w_19:World)=>
 Run Tryz.prog (Builtin.append_ #[33,33] 33 ⟨[(.slice out14.base out14.len out14.cap),(.slice (⟨some ⟨b20,0,none⟩,1,1⟩:Sl).base (⟨some ⟨b20,0,none⟩,1,1⟩:Sl).len (⟨some ⟨b20,0,none⟩,1,1⟩:Sl).cap)]⟩) kS w_19 fun (s22:Sl) (w_21:World)=>
 I_12 (s22) ((i64 ((s15:Int)+(1:Int)))) w_21∧m_13 (s22) ((i64 ((s15:Int)+(1:Int)))) w_21<m_13 out14 s15 w_16)
 (I_12 (out14) ((i64 ((s15:Int)+(1:Int)))) w_16∧m_13 (out14) ((i64 ((s15:Int)+(1:Int)))) w_16<m_13 out14 s15 w_16))
 (I_4 (out14) ((i64 ((n7:Int)+(1:Int)))) w_16∧m_5 (out14) ((i64 ((n7:Int)+(1:Int)))) w_16<m_5 out6 n7 w_8))
 (R (out6) w_10))
 (R (out6) w_8)
set_option maxRecDepth 100000 in
theorem ref09_Order.ok (l1:(Array Value)) (R:Sl→World→Prop) (w:World) (h:ref09_Order.E l1 R w):Cl Tryz.prog [kS] n_ref09_Order ⟨[(.agg l1)]⟩ w R:=
 calls_of_eq Tryz.mix Tryz.f121 [(.agg l1)] [kS] R 29 [.tmp 2] (by kernel_rfl) (by kernel_rfl) (by kernel_rfl) (by kernel_rfl) (by kernel_rfl)
  (.s .o (.s .o (.s (.s .o (.b (.l [(3,kS),(4,kI)] (.s (.s .o (.c .o .o)) (.s (.b (.s .o (.b (.l [(3,kS),(5,kI)] (.s (.s .o (.c .o .o)) (.s (.b (.s .o (.c .o .o))) .o)))))) .o))))) (.s .o .o))))
  (by kernel_rfl) h
end Go.Proofs.YtcdpblipagajiaaGreat
set_option maxRecDepth 20000
namespace Go.Srt
def ordL (l:List Nat) (N:Nat):List Nat:=(List.range N).flatMap fun n=>(List.range 258).filter fun s=>l.getD s 0==n+1
theorem ordL_mem {l:List Nat} {N s:Nat}:s∈ordL l N↔s<258∧0<l.getD s 0∧l.getD s 0≤N:=by
 unfold ordL
 simp only [List.mem_flatMap,List.mem_range,List.mem_filter,beq_iff_eq]
 constructor
 ·rintro ⟨n,h1,h2,h3⟩;omega
 ·rintro ⟨h1,h2,h3⟩;exact ⟨l.getD s 0 - 1,by omega,h1,by omega⟩
theorem ordL_sorted (l:List Nat) (N:Nat):(ordL l N).Pairwise fun a b=>l.getD a 0<l.getD b 0∨(l.getD a 0=l.getD b 0∧a<b):=by
 unfold ordL
 rw [List.pairwise_flatMap]
 refine ⟨fun n _=> ?_,?_⟩
 ·have h:(List.range 258).Pairwise fun a b=>a<b:=List.pairwise_lt_range
  refine List.Pairwise.imp_of_mem ?_ (h.filter _)
  intro a b ha hb hab
  have ha:=(List.mem_filter.1 ha).2
  have hb:=(List.mem_filter.1 hb).2
  rw [beq_iff_eq] at ha hb
  omega
 ·refine List.pairwise_lt_range.imp ?_
  intro m n hmn a ha b hb
  have ha:=(List.mem_filter.1 ha).2
  have hb:=(List.mem_filter.1 hb).2
  rw [beq_iff_eq] at ha hb
  omega
theorem ordL_ord {l:List Nat} (hl:l.length=258) (hv:ksum l≤32768):IsOrd l (ordL l 15):=by
 refine ⟨?_,ordL_sorted l 15⟩
 have n1:(ordL l 15).Nodup:=(ordL_sorted l 15).imp fun h=>by rintro rfl;omega
 have n2:(used l).Nodup:=(List.nodup_range).filter _
 rw [List.perm_ext_iff_of_nodup n1 n2]
 intro s
 rw [ordL_mem,used_mem,hl]
 have:=len15 hv s
 omega
theorem ordL_succ (l:List Nat) (N:Nat):ordL l (N+1)=ordL l N++(List.range 258).filter fun s=>l.getD s 0==N+1:=by
 unfold ordL
 rw [List.range_succ (n:=N),List.flatMap_append]
 simp
end Go.Srt
namespace Go.Proofs.YtcdpblipagajiaaGreat
open Go Go.Vc Go.Srt Go.Bits
section
variable {E w:World} {F:List HP}
theorem rValid9_c {l:List Nat} {K:Bool→World→Prop} (h:Hp E w F) (hl:l.length=258) (hK: ∀w',Hp E w' F→K (decide (ksum l≤32768)) w'):Cl Tryz.prog [kB] n_ref09_Valid ⟨[.agg (ai .u8 l)]⟩ w K:=by
 refine ref09_Valid.ok _ _ _ ?_
 unfold ref09_Valid.E
 refine Nw.mk h fun b w1 h1=>Ld.arr h1 (by rw [ai_size,hl]) (rsum_c h1 hl fun r w2 hr _ h2=> ?_)
 have:decide ((r:Int)≤32768)=decide (ksum l≤32768):=by rw [Bool.eq_iff_iff,decide_eq_true_eq,decide_eq_true_eq];omega
 rw [this]
 exact hK _ h2.drop
set_option maxRecDepth 20000 in
theorem rOrder9_c {l:List Nat} {K:Sl→World→Prop} (h:Hp E w F) (hl:l.length=258) (h8: ∀x∈l,x≤255) (hv:ksum l≤32768) (hK: ∀ys s w',IsOrd l ys→Hp E w' (OwnS 1 s ((ints ys).map vI)::F)→K s w'):Cl Tryz.prog [kS] n_ref09_Order ⟨[.agg (ai .u8 l)]⟩ w K:=by
 refine ref09_Order.ok _ _ _ ?_
 unfold ref09_Order.E
 have hlen: ∀N,(ordL l N).length≤258:=fun N=>by
  have h1:(ordL l N).Nodup:=(ordL_sorted l N).imp fun h=>by rintro rfl;omega
  have h2:ordL l N⊆List.range 258:=fun s hs=>by have:=(ordL_mem.1 hs).1;simpa using this
  have:=h1.length_le_of_subset h2
  simpa using this
 refine Nw.mk h fun b w1 h1=> ?_
 refine ⟨fun o n w'=> ∃N:Nat,n=(N:Int)+1∧N≤15∧Hp E w' (OwnS 1 o ((ints (ordL l N)).map vI)::Blk b (.cells (ai .u8 l) 36 (0,0))::F),fun _ n _=>20 - n.toNat,⟨0,rfl,by omega,h1.ownNil 1⟩,?_⟩
 rintro o n w' ⟨N,rfl,hN,hh⟩
 refine IfB.mk (fun hlt=> ?_) (fun hge=> ?_)
 ·have hlt:N<15:=by have:=of_decide_eq_true hlt;omega
  refine Ld.arr hh.p1 (by rw [ai_size,hl]) (rValid9_c hh hl fun w2 h2=>IfB.t (decide_eq_true hv) ?_)
  refine ⟨fun o s w'=> ∃k:Nat,s=(k:Int)∧k≤258∧Hp E w' (OwnS 1 o ((ints (ordL l N++(List.range k).filter fun s=>l.getD s 0==N+1)).map vI)::Blk b (.cells (ai .u8 l) 36 (0,0))::F),fun _ s _=>258 - s.toNat,⟨0,rfl,by omega,by simpa using h2⟩,?_⟩
  rintro o2 s w3 ⟨k,rfl,hk,h3⟩
  refine IfB.mk (fun hlt2=> ?_) (fun hge2=> ?_)
  ·have hlt2:k<258:=by have:=of_decide_eq_true hlt2;omega
   have hg:l.getD k 0≤255:=by rw [getD_get (by omega)];exact h8 _ (List.getElem_mem _)
   have hrs:(List.range (k+1)).filter (fun s=>l.getD s 0==N+1)=(List.range k).filter (fun s=>l.getD s 0==N+1)++if l.getD k 0=N+1 then [k] else []:=by
    rw [List.range_succ,List.filter_append]
    congr 1
    by_cases e:l.getD k 0=N+1
    ·rw [if_pos e,List.filter_cons_of_pos (by rw [beq_iff_eq];exact e)];rfl
    ·rw [if_neg e,List.filter_cons_of_neg (by rw [beq_iff_eq];exact e)];rfl
   refine IdxP.rd (s:= .int .u8) h3.p1 (by omega) (by omega) (l.getD k 0:Int) (getN (by omega)) ?_
   rw [i64_id (x:=(l.getD k 0:Int)) (by omega),i64_id (x:=(k:Int)+1) (by omega)]
   refine IfB.mk (fun heq=> ?_) (fun hne=> ?_)
   ·have heq:l.getD k 0=N+1:=by rw [beq_iff_eq] at heq;omega
    rw [if_pos heq] at hrs
    have hol:=h3.ownLen
    have hl1:=hlen N
    have hl2:=List.length_filter_le (fun s=>l.getD s 0==N+1) (List.range k)
    rw [List.length_range] at hl2
    rw [List.length_map,ints,List.length_map,List.length_append,Nat.mul_one] at hol
    refine Nw.mk h3 fun b20 w4 h4=>run_append (ys:= [vI (k:Int)]) (n:=1) ty_ints (by decide) (.inl ⟨3,by kernel_rfl⟩) h4.p1 (.inl ⟨some ⟨b20,0,none⟩,1,1,rfl,rfl,h4.tells (Tells.blk rfl rfl)⟩) rfl one_scalar (by omega) (by omega) fun s' w5 h5 hs'=>⟨⟨k+1,rfl,by omega,?_⟩,by dsimp only;omega⟩
    rw [hrs,←List.append_assoc,ints_app,List.map_append]
    exact h5.p1.drop
   ·have hne:l.getD k 0≠N+1:=by have:=beq_eq_false_iff_ne.1 hne;omega
    rw [if_neg hne,List.append_nil] at hrs
    exact ⟨⟨k+1,rfl,by omega,by rw [hrs];exact h3⟩,by dsimp only;omega⟩
  ·have hge2:k=258:=by have:=of_decide_eq_false hge2;omega
   subst hge2
   rw [i64_id (by omega)]
   rw [←ordL_succ] at h3
   exact ⟨⟨N+1,by omega,by omega,h3⟩,by dsimp only;omega⟩
 ·have hge:N=15:=by have:=of_decide_eq_false hge;omega
  subst hge
  exact hK _ _ _ (ordL_ord hl hv) hh.p1.drop
set_option maxRecDepth 20000 in
theorem rCodes9_c {l:List Nat} {K:Array Value→Int→World→Prop} (h:Hp E w F) (hl:l.length=258) (h8: ∀x∈l,x≤255) (hK1: ¬ksum l≤32768→∀w',Hp E w' F→K (ai .u32 (List.replicate 258 0)) 2 w')
  (hK2:ksum l≤32768→∀ys w',IsOrd l ys→Hp E w' F→K (ai .u32 (codesTo l ys ys.length)) 0 w'):Cl Tryz.prog [.arr 258,kI] n_ref09_Codes ⟨[.agg (ai .u8 l)]⟩ w K:=by
 refine ref09_Codes.ok _ _ _ ?_
 unfold ref09_Codes.E
 rw [ai_zero]
 have hz:(ai .u32 (List.replicate 258 0)).size=258:=by rw [ai_size];exact List.length_replicate
 refine Nw.mk h fun b3 w1 h1=>Nw.mk h1 fun b5 w2 h2=>Nw.mk h2 fun b7 w3 h3=>Ld.arr h3.p2 (by rw [ai_size,hl]) (rValid9_c h3 hl fun w4 h4=>IfB.mk (fun hv=> ?_) (fun hv=> ?_))
 ·have hv: ¬ksum l≤32768:=by simpa using hv
  exact Ld.arr h4 hz (StA.blk h4.p1 hz hz ai_scalar fun w5 h5=>Ld.arr h5 hz (hK1 hv w5 h5.drop.drop.drop))
 have hv:ksum l≤32768:=by simpa using hv
 refine Ld.arr h4.p2 (by rw [ai_size,hl]) (rOrder9_c h4 hl h8 hv fun ys so w5 hys h5=> ?_)
 have hpl:=h5.ownLen
 simp only [ints,List.length_map,Nat.mul_one] at hpl
 have hylen:=ord_le hl hys
 have sized: ∀i,(ai .u32 (codesTo l ys i)).size=258:=fun i=>by rw [ai_size,codesTo_len]
 have hc1:0<ys.length→codesTo l ys 1=List.replicate 258 0:=fun h0=>by
  rw [codesTo,codesTo]
  have:codeAt l ys 0=0:=by unfold codeAt Srt.start;simp
  rw [this,List.set_replicate_self]
 have fin: ∀w' k,k=ys.length→Hp E w' (OwnS 1 so ((ints ys).map vI)::Blk b7 (.cells (ai .u32 (codesTo l ys k)) 101 (0,0))::Blk b5 (.cells (ai .u32 (List.replicate 258 0)) 101 (0,0))::Blk b3 (.cells (ai .u8 l) 36 (0,0))::F)→
   Ld (.arr 258) (⟨b7,0,none⟩:Addr) w' fun (x42:(Array Value))=>StA 258 (⟨b5,0,none⟩:Addr) x42 w' fun (w_43:World)=>Ld (.arr 258) (⟨b5,0,none⟩:Addr) w_43 fun (res44:(Array Value))=>K res44 0 w_43:=by
  rintro w' k rfl h'
  exact Ld.arr h'.p1 (sized _) (StA.blk h'.p2 hz (sized _) ai_scalar fun w6 h6=>Ld.arr h6 (sized _) (hK2 hv ys w6 hys h6.drop.drop.drop.drop))
 refine ⟨fun i w'=> ∃k:Nat,i=(k:Int)∧1≤k∧(k≤ys.length∨(ys.length=0∧k=1))∧Hp E w' (OwnS 1 so ((ints ys).map vI)::Blk b7 (.cells (ai .u32 (codesTo l ys (if ys.length=0 then 0 else k))) 101 (0,0))::Blk b5 (.cells (ai .u32 (List.replicate 258 0)) 101 (0,0))::Blk b3 (.cells (ai .u8 l) 36 (0,0))::F),
  fun i _=>ys.length+1 - i.toNat,⟨1,rfl,by omega,by omega,?_⟩,?_⟩
 ·by_cases e:ys.length=0
  ·rw [if_pos e];exact h5
  ·rw [if_neg e,hc1 (by omega)];exact h5
 rintro i w6 ⟨k,rfl,hk1,hk,hh⟩
 refine IfB.mk (fun hlt=> ?_) (fun hge=>fin w6 (if ys.length=0 then 0 else k) ?_ hh)
 ·have hlt:k<ys.length:=by have:=of_decide_eq_true hlt;omega
  rw [if_neg (by omega)] at hh
  obtain ⟨j,rfl⟩: ∃j,k=j+1:=⟨k - 1,by omega⟩
  have hj:j<ys.length:=by omega
  have hin0:=ord_in hl hys _ (List.getElem_mem hj)
  have hin1:=ord_in hl hys _ (List.getElem_mem hlt)
  have h15a:=len15 hv ys[j]
  have h15b:=len15 hv ys[j+1]
  have hmono:=ord_len hys hlt (show j≤j+1 by omega)
  rw [i64_id (x:=((j+1:Nat):Int) - 1) (by omega),show ((j+1:Nat):Int) - 1=(j:Int) by omega]
  have rdo: ∀{w':World} {F':List HP} {m:Nat} {K:Int→Prop} (hm:m<ys.length),Hp E w' (OwnS 1 so ((ints ys).map vI)::F')→K (ys[m]:Int)→Idx so (m:Int) 1 fun q=>Ld kI q w' K:=fun {w' F' m K} hm h' hK=>by
   refine Idx.rd (h'.tells Tells.own) (by omega) (by omega) fun q hq hc=>Ld.sc (s:= .int .i64) (ys[m]:Int) (by rw [hc];simp [ints,vI,Sc.enc]) hK
  have hca:=codesTo_at hys (fun s hs=>(ord_in hl hys s hs).1) (j+1) (by omega) j hj (by omega)
  have hcl:=codeAt_lt hv hys hj
  have hp:2^l.getD ys[j] 0≤2^15:=Nat.pow_le_pow_right (by decide) h15a
  have hp2:(2:Nat)^15=32768:=by decide
  refine rdo hj hh (IdxP.rd (s:= .int .u32) hh.p1 (by omega) (by omega) ((codesTo l ys (j+1)).getD ys[j] 0:Int) (getN (by rw [codesTo_len];omega)) ?_)
  refine rdo hj hh (IdxP.rd (s:= .int .u8) hh.p3 (by omega) (by omega) (l.getD ys[j] 0:Int) (getN (by omega)) ?_)
  rw [hca,u32_id (by omega)]
  have hnew:(codeAt l ys j+1)*2^(l.getD ys[j+1] 0 - l.getD ys[j] 0)=codeAt l ys (j+1):=by
   have e1:=codeAt_mul hys hj
   have e2:=codeAt_mul hys hlt
   have e3:=start_succ (l:=l) hj
   refine Nat.eq_of_mul_eq_mul_right (sh_pos l ys[j+1]) ?_
   rw [e2,e3,←e1,Nat.mul_assoc]
   have:2^(l.getD ys[j+1] 0 - l.getD ys[j] 0)*sh l ys[j+1]=sh l ys[j]:=by
    unfold sh;rw [←Nat.pow_add];congr 1;omega
   rw [this,Nat.succ_mul]
  have hcl1:=codeAt_lt hv hys hlt
  have hp1:2^l.getD ys[j+1] 0≤2^15:=Nat.pow_le_pow_right (by decide) h15b
  refine ⟨fun c kk w'=> ∃n:Nat,kk=((l.getD ys[j] 0+n:Nat):Int)∧l.getD ys[j] 0+n≤l.getD ys[j+1] 0∧c=(((codeAt l ys j+1)*2^n:Nat):Int)∧Hp E w' (OwnS 1 so ((ints ys).map vI)::Blk b7 (.cells (ai .u32 (codesTo l ys (j+1))) 101 (0,0))::Blk b5 (.cells (ai .u32 (List.replicate 258 0)) 101 (0,0))::Blk b3 (.cells (ai .u8 l) 36 (0,0))::F),
   fun _ kk _=>16 - kk.toNat,⟨0,by omega,by omega,by simp,hh⟩,?_⟩
  rintro c kk w7 ⟨n,rfl,hn,rfl,h7⟩
  refine rdo hlt h7 (IdxP.rd (s:= .int .u8) h7.p3 (by omega) (by omega) (l.getD ys[j+1] 0:Int) (getN (by omega)) (IfB.mk (fun hl2=> ?_) (fun hg2=> ?_)))
  ·have hl2:=of_decide_eq_true hl2
   have hle:(codeAt l ys j+1)*2^(n+1)≤codeAt l ys (j+1):=by
    rw [←hnew];exact Nat.mul_le_mul_left _ (Nat.pow_le_pow_right (by decide) (by omega))
   have hpw:(codeAt l ys j+1)*2^(n+1)=2*((codeAt l ys j+1)*2^n):=by rw [Nat.pow_succ,←Nat.mul_assoc,Nat.mul_comm]
   rw [u32_id (by omega),u8_id (by omega)]
   exact ⟨⟨n+1,by omega,by omega,by rw [hpw];omega,h7⟩,by dsimp only;omega⟩
  ·have hg2:=of_decide_eq_false hg2
   have hne:l.getD ys[j+1] 0 - l.getD ys[j] 0=n:=by omega
   rw [hne] at hnew
   rw [hnew]
   refine rdo hlt h7 (IdxP.wr h7.p1 (by omega) (by omega) (sized _) rfl fun w8 h8=> ?_)
   rw [Int.toNat_natCast,ai_set] at h8
   rw [i64_id (by omega)]
   refine ⟨⟨j+1+1,by omega,by omega,by omega,?_⟩,by dsimp only;omega⟩
   rw [if_neg (by omega)]
   have:codesTo l ys (j+1+1)=(codesTo l ys (j+1)).set ys[j+1] (codeAt l ys (j+1)):=by rw [codesTo,getD_at hlt]
   rw [this]
   exact h8.p1
 ·have:=of_decide_eq_false hge
  by_cases e:ys.length=0
  ·rw [if_pos e];omega
  ·rw [if_neg e];omega
end
end Go.Proofs.YtcdpblipagajiaaGreat
namespace Go.Proofs.YtcdpblipagajiaaGreat
open Go Go.Vc
set_option maxRecDepth 100000 in
def ref11_Bits.E (l1:(Array Value)) (symbols2:Sl) (R:Sl→Bool→World→Prop) (w:World):Prop:=
 Nw 36 l1 w fun (b4:Nat) (w_3:World)=>
 Ld (.arr 258) (⟨b4,0,none⟩:Addr) w_3 fun (x5:(Array Value))=>
 Cl Tryz.prog [(.arr 258),kI] n_ref09_Codes ⟨[(.agg x5)]⟩ w_3 fun (r7:(Array Value)) (r8:Int) (w_6:World)=>
 Nw 101 ⟨List.replicate 258 (.int .u32 0)⟩ w_6 fun (b10:Nat) (w_9:World)=>
 StA 258 (⟨b10,0,none⟩:Addr) r7 w_9 fun (w_11:World)=>
 IfB ((r8:Int) !=(0:Int))
 (R ((⟨none,0,0⟩:Sl)) (false) w_11)
 (∃(I_12:Sl→Int→World→Prop) (m_13:Sl→Int→World→Nat),I_12 ((⟨none,0,0⟩:Sl)) (0) w_11∧
 ∀(out14:Sl) (i15:Int),∀(w_16:World),I_12 out14 i15 w_16→
 IfB (decide ((i15:Int)<((symbols2.len:Int):Int)))
 (Idx symbols2 i15 1 fun (q17:Addr)=>
 Ld kI q17 w_16 fun (x18:Int)=>
 Join (fun (w_22:World)=>
 IdxP (⟨b4,0,none⟩:Addr) 258 x18 1 fun (q23:Addr)=>
 Ld (kInt .u8) q23 w_22 fun (x24:Int)=>
 ∃(I_25:Sl→Int→World→Prop) (m_26:Sl→Int→World→Nat),I_25 (out14) ((i64 (((i64 x24):Int) - (1:Int)))) w_22∧
 ∀(out27:Sl) (k28:Int),∀(w_29:World),I_25 out27 k28 w_29→
 IfB (decide ((k28:Int)≥(0:Int)))
 (IdxP (⟨b10,0,none⟩:Addr) 258 x18 1 fun (q30:Addr)=>
 Ld (kInt .u32) q30 w_29 fun (x31:Int)=>
 0≤((u64 k28):Int)∧
 Nw 3 ⟨[(.int .i64 (i64 (iand .u32 ((ishr .u32 (x31:Int) ((u64 k28):Int)):Int) (1:Int))))]⟩ w_29 fun (b33:Nat) (w_32:World)=>
 Run Tryz.prog (Builtin.append_ #[33,33] 33 ⟨[(.slice out27.base out27.len out27.cap),(.slice (⟨some ⟨b33,0,none⟩,1,1⟩:Sl).base (⟨some ⟨b33,0,none⟩,1,1⟩:Sl).len (⟨some ⟨b33,0,none⟩,1,1⟩:Sl).cap)]⟩) kS w_32 fun (s35:Sl) (w_34:World)=>
 I_25 (s35) ((i64 ((k28:Int) - (1:Int)))) w_34∧m_26 (s35) ((i64 ((k28:Int) - (1:Int)))) w_34<m_26 out27 k28 w_29)
 (I_12 (out27) ((i64 ((i15:Int)+(1:Int)))) w_29∧m_13 (out27) ((i64 ((i15:Int)+(1:Int)))) w_29<m_13 out14 i15 w_16)) fun (K_19:World→Prop)=>
 IfB (decide ((x18:Int)<(0:Int)))
 (R ((⟨none,0,0⟩:Sl)) (false) w_16)
 (IfB (decide ((x18:Int)≥(258:Int)))
 (R ((⟨none,0,0⟩:Sl)) (false) w_16)
 (IdxP (⟨b4,0,none⟩:Addr) 258 x18 1 fun (q20:Addr)=>
 Ld (kInt .u8) q20 w_16 fun (x21:Int)=>
 IfB ((x21:Int)==(0:Int))
 (R ((⟨none,0,0⟩:Sl)) (false) w_16)
 (K_19 w_16))))
 (R (out14) (true) w_16))
set_option maxRecDepth 100000 in
theorem ref11_Bits.ok (l1:(Array Value)) (symbols2:Sl) (R:Sl→Bool→World→Prop) (w:World) (h:ref11_Bits.E l1 symbols2 R w):Cl Tryz.prog [kS,kB] n_ref11_Bits ⟨[(.agg l1),(.slice symbols2.base symbols2.len symbols2.cap)]⟩ w R:=
 calls_of_eq Tryz.mix Tryz.f25 [(.agg l1),(.slice symbols2.base symbols2.len symbols2.cap)] [kS,kB] R 62 [.tmp 4,.tmp 5] (by kernel_rfl) (by kernel_rfl) (by kernel_rfl) (by kernel_rfl) (by kernel_rfl)
  (.s .o (.s .o (.s (.s .o (.c (.s .o .o) .o)) (.s .o (.s (.s .o (.b (.l [(8,kS),(9,kI)] (.s (.s .o (.c .o .o)) (.s (.b (.s .o (.j [] (.s .o (.c (.s .o .o) .o)) (.s .o (.b (.l [(8,kS),(11,kI)] (.s (.s .o (.c .o .o)) (.s (.b .o) .o)))))))) .o))))) (.s .o .o))))))
  (by kernel_rfl) h
end Go.Proofs.YtcdpblipagajiaaGreat
set_option maxRecDepth 20000
namespace Go.Proofs.YtcdpblipagajiaaGreat
open Go Go.Vc Go.Srt Go.Bits
section
variable {E w:World} {F:List HP}
set_option maxRecDepth 20000 in
theorem rBits_c {l:List Nat} {s:Sl} {zs:List Int} {K:Sl→Bool→World→Prop} (h:Hp E w F) (hl:l.length=258) (h8: ∀x∈l,x≤255) (hs:Tells F (SlT 1 s (zs.map vI))) (hn:zs.length≤100000)
  (hK1: ¬(ksum l≤32768∧allG l zs=true)→∀w',Hp E w' F→K ⟨none,0,0⟩ false w') (hK2:ksum l≤32768→allG l zs=true→∀s' w',Hp E w' (OwnS 1 s' ((ints (encZ l zs)).map vI)::F)→K s' true w'):
  Cl Tryz.prog [kS,kB] n_ref11_Bits ⟨[.agg (ai .u8 l),.slice s.base s.len s.cap]⟩ w K:=by
 refine ref11_Bits.ok _ _ _ _ ?_
 unfold ref11_Bits.E
 simp only [Join_eq]
 rw [ai_zero]
 have hsl:=(h.tells hs).1
 simp only [List.length_map,Nat.mul_one] at hsl
 refine Nw.mk h fun b4 w1 h1=>Ld.arr h1 (by rw [ai_size,hl]) (rCodes9_c h1 hl h8 (fun hv w2 h2=> ?_) (fun hv ys w2 hys h2=> ?_))
 ·exact Nw.mk h2 fun b10 w3 h3=>StA.blk h3 (by rw [ai_size];simp) (by rw [ai_size];simp) ai_scalar fun w4 h4=>IfB.t (by decide) (hK1 (fun hh=>hv hh.1) w4 h4.drop.drop)
 refine Nw.mk h2 fun b10 w3 h3=>StA.blk h3 (by rw [ai_size];simp) (by rw [ai_size,codesTo_len]) ai_scalar fun w4 h4=>IfB.f (by decide) ?_
 refine ⟨fun o i w'=> ∃k:Nat,i=(k:Int)∧k≤zs.length∧allG l (zs.take k)=true∧Hp E w' (OwnS 1 o ((ints (encZ l (zs.take k))).map vI)::Blk b10 (.cells (ai .u32 (codesTo l ys ys.length)) 101 (0,0))::Blk b4 (.cells (ai .u8 l) 36 (0,0))::F),fun _ i _=>zs.length - i.toNat,⟨0,rfl,by omega,rfl,h4.ownNil 1⟩,?_⟩
 rintro o i w5 ⟨k,rfl,hk,hg,hh⟩
 refine IfB.mk (fun hlt=> ?_) (fun hge=> ?_)
 ·have hlt:k<zs.length:=by have:=of_decide_eq_true hlt;omega
  have bad:goodI l zs[k]=false→K ⟨none,0,0⟩ false w5:=fun hb=>hK1 (fun hh=>by rw [allG_not hlt hb] at hh;exact absurd hh.2 (by decide)) w5 hh.drop.drop.drop
  refine Idx.rd (hh.tells (Tells.cons (Tells.cons (Tells.cons hs)))) (by omega) (by omega) fun q hq hc=>Ld.sc (s:= .int .i64) zs[k] (by rw [hc];simp [vI,Sc.enc]) ?_
  refine IfB.mk (fun h0=>bad ?_) (fun h0=>IfB.mk (fun h1=>bad ?_) (fun h1=> ?_))
  ·have:=of_decide_eq_true h0
   unfold goodI;rw [decide_eq_false (show¬0≤zs[k] by omega)];rfl
  ·have:=of_decide_eq_true h1
   unfold goodI;rw [decide_eq_false (show¬zs[k]<258 by omega)];simp
  have h0:=of_decide_eq_false h0
  have h1:=of_decide_eq_false h1
  obtain ⟨m,hm⟩: ∃m:Nat,zs[k]=(m:Int):=⟨zs[k].toNat,by omega⟩
  have hm2:zs[k].toNat=m:=by omega
  rw [hm]
  refine IdxP.rd (s:= .int .u8) hh.p2 (by omega) (by omega) (l.getD m 0:Int) (getN (by omega)) (IfB.mk (fun hz=>bad ?_) (fun hz=> ?_))
  ·have:l.getD m 0=0:=by rw [beq_iff_eq] at hz;omega
   unfold goodI;rw [hm2,this];simp
  have hz:0<l.getD m 0:=by have:=beq_eq_false_iff_ne.1 hz;omega
  have h15:=len15 hv m
  have hle:=encZ_le hv (zs.take k)
  rw [List.length_take] at hle
  have hcl:=code_lt hl hv (show m<258 by omega) hz
  have hp:2^l.getD m 0≤2^15:=Nat.pow_le_pow_right (by decide) h15
  have hp2:(2:Nat)^15=32768:=by decide
  refine IdxP.rd (s:= .int .u8) hh.p2 (by omega) (by omega) (l.getD m 0:Int) (getN (by omega)) ?_
  rw [i64_id (x:=(l.getD m 0:Int)) (by omega),i64_id (x:=(l.getD m 0:Int) - 1) (by omega),i64_id (x:=(k:Int)+1) (by omega)]
  have hel:=encB_len l m
  refine ⟨fun o2 kk w'=> ∃j:Nat,kk=(l.getD m 0:Int) - 1 - (j:Int)∧j≤l.getD m 0∧Hp E w' (OwnS 1 o2 ((ints (encZ l (zs.take k)++(encB l m).take j)).map vI)::Blk b10 (.cells (ai .u32 (codesTo l ys ys.length)) 101 (0,0))::Blk b4 (.cells (ai .u8 l) 36 (0,0))::F),fun _ kk _=>(kk+1).toNat,
   ⟨0,by omega,by omega,by simpa using hh⟩,?_⟩
  rintro o2 kk w6 ⟨j,rfl,hj,h6⟩
  refine IfB.mk (fun hge2=> ?_) (fun hlt2=> ?_)
  ·have hj2:j<l.getD m 0:=by have:=of_decide_eq_true hge2;omega
   refine IdxP.rd (s:= .int .u32) h6.p1 (by omega) (by omega) ((codesTo l ys ys.length).getD m 0:Int) (getN (by rw [codesTo_len];omega)) ?_
   rw [codes_code hl hv hys (by omega) hz,u64_id (by omega),show (l.getD m 0:Int) - 1 - (j:Int)=((l.getD m 0 - 1 - j:Nat):Int) by omega]
   have hd:=Nat.div_le_self (code l m) (2^(l.getD m 0 - 1 - j))
   have e1:iand .u32 (ishr .u32 (code l m:Int) ((l.getD m 0 - 1 - j:Nat):Int)) 1=((code l m/2^(l.getD m 0 - 1 - j) % 2:Nat):Int):=by
    have hmx:IntKind.max .u32=4294967295:=rfl
    rw [ishr_nat (by have:IntKind.bits .u32=32:=rfl;omega),show (1:Int)=((1:Nat):Int) from rfl,iand_nat (by omega) (by omega),Nat.and_one_is_mod]
   rw [e1,i64_id (x:=((code l m/2^(l.getD m 0 - 1 - j) % 2:Nat):Int)) (by omega)]
   refine ⟨by omega,?_⟩
   have hol:=h6.ownLen
   rw [List.length_map,ints,List.length_map,List.length_append,List.length_take,hel,Nat.mul_one] at hol
   refine Nw.mk h6 fun b33 w7 h7=>run_append (ys:= [vI ((code l m/2^(l.getD m 0 - 1 - j) % 2:Nat):Int)]) (n:=1) ty_ints (by decide) (.inl ⟨3,by kernel_rfl⟩) h7.p1 (.inl ⟨some ⟨b33,0,none⟩,1,1,rfl,rfl,h7.tells (Tells.blk rfl rfl)⟩) rfl one_scalar (by omega) (by omega) fun s' w8 h8 hs'=>⟨⟨j+1,by rw [i64_id (by omega)];omega,by omega,?_⟩,by dsimp only;rw [i64_id (by omega)];omega⟩
   have e2:(encB l m).take (j+1)=(encB l m).take j++ [code l m/2^(l.getD m 0 - 1 - j) % 2]:=by
    have hjl:j<(encB l m).length:=by omega
    rw [List.take_add_one,List.getElem?_eq_getElem hjl]
    have:=bn_get (l.getD m 0) (code l m) j hj2
    rw [←this]
    show _=_++ [(encB l m).getD j 0]
    rw [getD_get hjl];rfl
   rw [e2,←List.append_assoc,ints_app,List.map_append]
   exact h8.p1.drop
  ·have hj2:j=l.getD m 0:=by have:=of_decide_eq_false hlt2;omega
   subst hj2
   rw [List.take_of_length_le (l:=encB l m) (by omega)] at h6
   refine ⟨⟨k+1,by omega,by omega,allG_take hlt hg (goodI_iff.2 ⟨by omega,by omega,by rw [hm2];exact hz⟩),?_⟩,by dsimp only;omega⟩
   rw [encZ_take hlt,hm2]
   exact h6
 ·have hge:k=zs.length:=by have:=of_decide_eq_false hge;omega
  subst hge
  rw [List.take_length] at hg hh
  exact hK2 hv hg _ _ hh.p1.drop.p1.drop
end
end Go.Proofs.YtcdpblipagajiaaGreat
namespace Go.Proofs.YtcdpblipagajiaaGreat
open Go Go.Vc
def ref17_Turned.E (text1:Sl) (R:Sl→World→Prop) (w:World):Prop:=
 ∃(I_2:Sl→Int→World→Prop) (m_3:Sl→Int→World→Nat),I_2 ((⟨none,0,0⟩:Sl)) ((i64 (((text1.len:Int):Int) - (1:Int)))) w∧
 ∀(out4:Sl) (i5:Int),∀(w_6:World),I_2 out4 i5 w_6→
 IfB (decide ((i5:Int)≥(0:Int)))
 (Idx text1 i5 1 fun (q7:Addr)=>
 Ld (kInt .u8) q7 w_6 fun (x8:Int)=>
 Nw 5 ⟨[(.int .u8 x8)]⟩ w_6 fun (b10:Nat) (w_9:World)=>
 Run Tryz.prog (Builtin.append_ #[22,22] 22 ⟨[(.slice out4.base out4.len out4.cap),(.slice (⟨some ⟨b10,0,none⟩,1,1⟩:Sl).base (⟨some ⟨b10,0,none⟩,1,1⟩:Sl).len (⟨some ⟨b10,0,none⟩,1,1⟩:Sl).cap)]⟩) kS w_9 fun (s12:Sl) (w_11:World)=>
 I_2 (s12) ((i64 ((i5:Int) - (1:Int)))) w_11∧m_3 (s12) ((i64 ((i5:Int) - (1:Int)))) w_11<m_3 out4 i5 w_6)
 (R (out4) w_6)
theorem ref17_Turned.ok (text1:Sl) (R:Sl→World→Prop) (w:World) (h:ref17_Turned.E text1 R w):Cl Tryz.prog [kS] n_ref17_Turned ⟨[(.slice text1.base text1.len text1.cap)]⟩ w R:=
 calls_of_eq Tryz.mix Tryz.f30 [(.slice text1.base text1.len text1.cap)] [kS] R 20 [.tmp 2] (by kernel_rfl) (by kernel_rfl) (by kernel_rfl) (by kernel_rfl) (by kernel_rfl)
  (.s .o (.s .o (.s (.s .o (.b (.l [(3,kS),(4,kI)] (.s (.s .o (.c .o .o)) (.s (.b .o) .o))))) (.s .o .o))))
  (by kernel_rfl) h
set_option maxRecDepth 100000 in
def ref17_Turn.E (text1:Sl) (R:Sl→Int→World→Prop) (w:World):Prop:=
 Cl Tryz.prog [kS] n_ref17_Order ⟨[(.slice text1.base text1.len text1.cap)]⟩ w fun (r3:Sl) (w_2:World)=>
 ∃(I_4:Sl→Int→Int→World→Prop) (m_5:Sl→Int→Int→World→Nat),I_4 ((⟨none,0,0⟩:Sl)) (0) (0) w_2∧
 ∀(last6:Sl) (index7:Int) (row8:Int),∀(w_9:World),I_4 last6 index7 row8 w_9→
 IfB (decide ((row8:Int)<((r3.len:Int):Int)))
 (Idx r3 row8 1 fun (q10:Addr)=>
 Ld kI q10 w_9 fun (x11:Int)=>
 IfB ((x11:Int)==(0:Int))
 (I_4 (last6) (row8) ((i64 ((row8:Int)+(1:Int)))) w_9∧m_5 (last6) (row8) ((i64 ((row8:Int)+(1:Int)))) w_9<m_5 last6 index7 row8 w_9)
 (Idx r3 row8 1 fun (q12:Addr)=>
 Ld kI q12 w_9 fun (x13:Int)=>
 Idx text1 (i64 ((x13:Int) - (1:Int))) 1 fun (q14:Addr)=>
 Ld (kInt .u8) q14 w_9 fun (x15:Int)=>
 Nw 5 ⟨[(.int .u8 x15)]⟩ w_9 fun (b17:Nat) (w_16:World)=>
 Run Tryz.prog (Builtin.append_ #[22,22] 22 ⟨[(.slice last6.base last6.len last6.cap),(.slice (⟨some ⟨b17,0,none⟩,1,1⟩:Sl).base (⟨some ⟨b17,0,none⟩,1,1⟩:Sl).len (⟨some ⟨b17,0,none⟩,1,1⟩:Sl).cap)]⟩) kS w_16 fun (s19:Sl) (w_18:World)=>
 I_4 (s19) (index7) ((i64 ((row8:Int)+(1:Int)))) w_18∧m_5 (s19) (index7) ((i64 ((row8:Int)+(1:Int)))) w_18<m_5 last6 index7 row8 w_9))
 (R (last6) (index7) w_9)
set_option maxRecDepth 100000 in
theorem ref17_Turn.ok (text1:Sl) (R:Sl→Int→World→Prop) (w:World) (h:ref17_Turn.E text1 R w):Cl Tryz.prog [kS,kI] n_ref17_Turn ⟨[(.slice text1.base text1.len text1.cap)]⟩ w R:=
 calls_of_eq Tryz.mix Tryz.f62 [(.slice text1.base text1.len text1.cap)] [kS,kI] R 35 [.tmp 2,.tmp 3] (by kernel_rfl) (by kernel_rfl) (by kernel_rfl) (by kernel_rfl) (by kernel_rfl)
  (.s .o (.s .o (.s .o (.s .o (.s (.s .o (.b (.l [(4,kS),(5,kI),(7,kI)] (.s (.s .o (.c .o .o)) (.s (.b (.s .o (.c .o .o))) .o))))) (.s .o .o))))))
  (by kernel_rfl) h
set_option maxRecDepth 100000 in
def ref17_Order.E (text1:Sl) (R:Sl→World→Prop) (w:World):Prop:=
 ∃(I_2:Sl→Int→World→Prop) (m_3:Sl→Int→World→Nat),I_2 ((⟨none,0,0⟩:Sl)) (0) w∧
 ∀(out4:Sl) (i5:Int),∀(w_6:World),I_2 out4 i5 w_6→
 IfB (decide ((i5:Int)≤((text1.len:Int):Int)))
 (∃(I_7:Int→World→Prop) (m_8:Int→World→Nat),I_7 ((out4.len:Int)) w_6∧
 ∀(k9:Int),∀(w_10:World),I_7 k9 w_10→
 IfB (decide ((k9:Int)>(0:Int)))
 (Idx out4 (i64 ((k9:Int) - (1:Int))) 1 fun (q11:Addr)=>
 Ld kI q11 w_10 fun (x12:Int)=>
 Cl Tryz.prog [kB] n_ref17_Less ⟨[(.slice text1.base text1.len text1.cap),(.int .i64 i5),(.int .i64 x12)]⟩ w_10 fun (r14:Bool) (w_13:World)=>
 IfB r14
 (I_7 ((i64 ((k9:Int) - (1:Int)))) w_13∧m_8 ((i64 ((k9:Int) - (1:Int)))) w_13<m_8 k9 w_10)
 (Slc out4 0 k9 (out4).cap 1 fun (s15:Sl)=>
 Run Tryz.prog (Builtin.append_ #[33,33] 33 ⟨[(.slice none 0 0),(.slice s15.base s15.len s15.cap)]⟩) kS w_13 fun (s17:Sl) (w_16:World)=>
 Nw 3 ⟨[(.int .i64 i5)]⟩ w_16 fun (b19:Nat) (w_18:World)=>
 Run Tryz.prog (Builtin.append_ #[33,33] 33 ⟨[(.slice s17.base s17.len s17.cap),(.slice (⟨some ⟨b19,0,none⟩,1,1⟩:Sl).base (⟨some ⟨b19,0,none⟩,1,1⟩:Sl).len (⟨some ⟨b19,0,none⟩,1,1⟩:Sl).cap)]⟩) kS w_18 fun (s21:Sl) (w_20:World)=>
 Slc out4 k9 (out4).len (out4).cap 1 fun (s22:Sl)=>
 Run Tryz.prog (Builtin.append_ #[33,33] 33 ⟨[(.slice s21.base s21.len s21.cap),(.slice s22.base s22.len s22.cap)]⟩) kS w_20 fun (s24:Sl) (w_23:World)=>
 I_2 (s24) ((i64 ((i5:Int)+(1:Int)))) w_23∧m_3 (s24) ((i64 ((i5:Int)+(1:Int)))) w_23<m_3 out4 i5 w_6))
 (Slc out4 0 k9 (out4).cap 1 fun (s25:Sl)=>
 Run Tryz.prog (Builtin.append_ #[33,33] 33 ⟨[(.slice none 0 0),(.slice s25.base s25.len s25.cap)]⟩) kS w_10 fun (s27:Sl) (w_26:World)=>
 Nw 3 ⟨[(.int .i64 i5)]⟩ w_26 fun (b29:Nat) (w_28:World)=>
 Run Tryz.prog (Builtin.append_ #[33,33] 33 ⟨[(.slice s27.base s27.len s27.cap),(.slice (⟨some ⟨b29,0,none⟩,1,1⟩:Sl).base (⟨some ⟨b29,0,none⟩,1,1⟩:Sl).len (⟨some ⟨b29,0,none⟩,1,1⟩:Sl).cap)]⟩) kS w_28 fun (s31:Sl) (w_30:World)=>
 Slc out4 k9 (out4).len (out4).cap 1 fun (s32:Sl)=>
 Run Tryz.prog (Builtin.append_ #[33,33] 33 ⟨[(.slice s31.base s31.len s31.cap),(.slice s32.base s32.len s32.cap)]⟩) kS w_30 fun (s34:Sl) (w_33:World)=>
 I_2 (s34) ((i64 ((i5:Int)+(1:Int)))) w_33∧m_3 (s34) ((i64 ((i5:Int)+(1:Int)))) w_33<m_3 out4 i5 w_6))
 (R (out4) w_6)
set_option maxRecDepth 100000 in
theorem ref17_Order.ok (text1:Sl) (R:Sl→World→Prop) (w:World) (h:ref17_Order.E text1 R w):Cl Tryz.prog [kS] n_ref17_Order ⟨[(.slice text1.base text1.len text1.cap)]⟩ w R:=
 calls_of_eq Tryz.mix Tryz.f115 [(.slice text1.base text1.len text1.cap)] [kS] R 44 [.tmp 2] (by kernel_rfl) (by kernel_rfl) (by kernel_rfl) (by kernel_rfl) (by kernel_rfl)
  (.s .o (.s .o (.s (.s .o (.b (.l [(3,kS),(4,kI)] (.s (.s .o (.c .o .o)) (.s (.b (.s .o (.s (.b (.l [(5,kI)] (.s (.s .o (.c .o .o)) (.b .o)))) (.s .o (.s .o (.s .o .o)))))) .o))))) (.s .o .o))))
  (by kernel_rfl) h
set_option maxRecDepth 100000 in
def ref17_Less.E (text1:Sl) (i2:Int) (k3:Int) (R:Bool→World→Prop) (w:World):Prop:=
 Join (fun (w_5:World)=>
 Join (fun (i17:Int) (k18:Int) (w_19:World)=>
 IfB ((i17:Int)==(k18:Int))
 (R (false) w_19)
 (IfB ((k18:Int)==((text1.len:Int):Int))
 (R (false) w_19)
 (Drw w_19 fun (w_20:World)=>
 IfB ((i17:Int)==((text1.len:Int):Int))
 (R (true) w_20)
 (Idx text1 i17 1 fun (q21:Addr)=>
 Ld (kInt .u8) q21 w_20 fun (x22:Int)=>
 Idx text1 k18 1 fun (q23:Addr)=>
 Ld (kInt .u8) q23 w_20 fun (x24:Int)=>
 R ((decide ((x22:Int)<(x24:Int)))) w_20)))) fun (K_6:Int→Int→World→Prop)=>
 ∃(I_7:Int→Int→World→Prop) (m_8:Int→Int→World→Nat),I_7 (i2) (k3) w_5∧
 ∀(i9:Int) (k10:Int),∀(w_11:World),I_7 i9 k10 w_11→
 Drw w_11 fun (w_12:World)=>
 IfB (decide ((i9:Int)<((text1.len:Int):Int)))
 (IfB (decide ((k10:Int)<((text1.len:Int):Int)))
 (Idx text1 i9 1 fun (q13:Addr)=>
 Ld (kInt .u8) q13 w_12 fun (x14:Int)=>
 Idx text1 k10 1 fun (q15:Addr)=>
 Ld (kInt .u8) q15 w_12 fun (x16:Int)=>
 IfB ((x14:Int)==(x16:Int))
 (IfB ((i9:Int) !=(k10:Int))
 (I_7 ((i64 ((i9:Int)+(1:Int)))) ((i64 ((k10:Int)+(1:Int)))) w_12∧m_8 ((i64 ((i9:Int)+(1:Int)))) ((i64 ((k10:Int)+(1:Int)))) w_12<m_8 i9 k10 w_11)
 (K_6 (i9) (k10) w_12))
 (K_6 (i9) (k10) w_12))
 (K_6 (i9) (k10) w_12))
 (K_6 (i9) (k10) w_12)) fun (K_4:World→Prop)=>
 IfB (decide ((i2:Int)<(0:Int)))
 (R (false) w)
 (IfB (decide ((i2:Int)>((text1.len:Int):Int)))
 (R (false) w)
 (IfB (decide ((k3:Int)<(0:Int)))
 (R (false) w)
 (IfB (decide ((k3:Int)>((text1.len:Int):Int)))
 (R (false) w)
 (K_4 w))))
set_option maxRecDepth 100000 in
theorem ref17_Less.ok (text1:Sl) (i2:Int) (k3:Int) (R:Bool→World→Prop) (w:World) (h:ref17_Less.E text1 i2 k3 R w):Cl Tryz.prog [kB] n_ref17_Less ⟨[(.slice text1.base text1.len text1.cap),(.int .i64 i2),(.int .i64 k3)]⟩ w R:=
 calls_of_eq Tryz.mix Tryz.f164 [(.slice text1.base text1.len text1.cap),(.int .i64 i2),(.int .i64 k3)] [kB] R 79 [.tmp 6] (by kernel_rfl) (by kernel_rfl) (by kernel_rfl) (by kernel_rfl) (by kernel_rfl)
  (.s .o (.j [] (.s .o (.c (.s .o .o) .o)) (.j [(1,kI),(2,kI)] (.b (.l [(1,kI),(2,kI)] (.s (.s .o (.c .o .o)) (.b (.s .o .o))))) (.s (.s .o (.c (.s .o .o) .o)) (.s .o .o)))))
  (by kernel_rfl) h
end Go.Proofs.YtcdpblipagajiaaGreat
set_option maxRecDepth 20000
namespace Go.Proofs.YtcdpblipagajiaaGreat
open Go Go.Vc Go.Bw Go.Hs
section
variable {E w:World} {F:List HP}
set_option maxRecDepth 20000 in
theorem rLess17_c {t:List Nat} {s:Sl} {i k:Int} {K:Bool→World→Prop} (h:Hp E w F) (hs:Tells F (SlT 1 s (t.map vB))) (hn:t.length≤big) (hK: ∀w',Hp E w' F→K (lessI t i k) w'):
  Cl Tryz.prog [kB] n_ref17_Less ⟨[.slice s.base s.len s.cap,.int .i64 i,.int .i64 k]⟩ w K:=by
 refine ref17_Less.ok _ _ _ _ _ ?_
 unfold ref17_Less.E
 simp only [Join_eq]
 have hl:=(h.tells hs).1
 simp only [List.length_map,Nat.mul_one] at hl
 rw [big_eq] at hn
 have no: ¬(0≤i∧i≤t.length∧0≤k∧k≤t.length)→K false w:=fun hn=>by
  have:=hK w h
  unfold lessI at this
  rwa [decide_eq_false hn,Bool.false_and] at this
 refine IfB.mk (fun g=>no (by have:=of_decide_eq_true g;omega)) (fun g1=>IfB.mk (fun g=>no (by have:=of_decide_eq_true g;omega)) (fun g2=>IfB.mk (fun g=>no (by have:=of_decide_eq_true g;omega)) (fun g3=>IfB.mk (fun g=>no (by have:=of_decide_eq_true g;omega)) (fun g4=> ?_))))
 have g1:=of_decide_eq_false g1
 have g2:=of_decide_eq_false g2
 have g3:=of_decide_eq_false g3
 have g4:=of_decide_eq_false g4
 obtain ⟨a0,rfl⟩:=Int.eq_ofNat_of_zero_le (show 0≤i by omega)
 obtain ⟨b0,rfl⟩:=Int.eq_ofNat_of_zero_le (show 0≤k by omega)
 have hK2: ∀w',Hp E w' F→K (sl t a0 b0) w':=fun w' h'=>by
  have:=hK w' h'
  unfold lessI at this
  rwa [decide_eq_true ⟨by omega,by omega,by omega,by omega⟩,Bool.true_and,Int.toNat_natCast,Int.toNat_natCast] at this
 refine ⟨fun x y w'=> ∃a b:Nat,x=(a:Int)∧y=(b:Int)∧a≤t.length∧b≤t.length∧sl t a b=sl t a0 b0∧Hp E w' F,fun x _ _=>t.length - x.toNat,⟨a0,b0,rfl,rfl,by omega,by omega,rfl,h⟩,?_⟩
 rintro x y w1 ⟨a,b,rfl,rfl,ha,hb,hab,h1⟩
 refine Drw.mk h1 fun w2 h2=> ?_
 have fin:(a<t.length→b<t.length→t.getD a 0=t.getD b 0→a=b)→IfB ((a:Int)==(b:Int)) (K false w2) (IfB ((b:Int)==(s.len:Int)) (K false w2) (Drw w2 fun w_20=>IfB ((a:Int)==(s.len:Int)) (K true w_20) (Idx s (a:Int) 1 fun q21=>Ld (kInt .u8) q21 w_20 fun x22=>Idx s (b:Int) 1 fun q23=>Ld (kInt .u8) q23 w_20 fun x24=>K (decide (x22<x24)) w_20))):=fun hd=>by
  refine IfB.mk (fun e=> ?_) (fun e=>IfB.mk (fun e2=> ?_) (fun e2=>Drw.mk h2 fun w3 h3=>IfB.mk (fun e3=> ?_) (fun e3=> ?_)))
  ·have e:a=b:=by have:=beq_iff_eq.1 e;omega
   have:=hK2 w2 h2
   rw [←hab,e,(sl_so t).irr] at this;exact this
  ·have e2:b=t.length:=by have:=beq_iff_eq.1 e2;omega
   have:=hK2 w2 h2
   have e4:sl t a b=false:=by unfold sl;rw [e2,List.drop_length,lx_nil]
   rw [←hab,e4] at this;exact this
  ·have e2:b<t.length:=by have:=beq_eq_false_iff_ne.1 e2;omega
   have e3:a=t.length:=by have:=beq_iff_eq.1 e3;omega
   have:=hK2 w3 h3
   have e4:sl t a b=true:=by unfold sl;rw [e3,List.drop_length,drop_get e2];rfl
   rw [←hab,e4] at this;exact this
  ·have e:=beq_eq_false_iff_ne.1 e
   have e2:b<t.length:=by have:=beq_eq_false_iff_ne.1 e2;omega
   have e3:a<t.length:=by have:=beq_eq_false_iff_ne.1 e3;omega
   have hne:t.getD a 0≠t.getD b 0:=fun h=>e (by rw [hd e3 e2 h])
   refine Idx.nB (h3.tells hs) rfl e3 (Idx.nB (h3.tells hs) rfl e2 ?_)
   have:=hK2 w3 h3
   have e4:sl t a b=decide ((t.getD a 0:Int)<(t.getD b 0:Int)):=by
    rw [sl_step e3 e2,beq_eq_false_iff_ne.2 hne,Bool.false_and,Bool.or_false,decide_eq_decide];omega
   rw [←hab,e4] at this;exact this
 refine IfB.mk (fun c1=>IfB.mk (fun c2=> ?_) (fun c2=>fin fun _ hb' _=>by have:=of_decide_eq_false c2;omega)) (fun c1=>fin fun ha' _ _=>by have:=of_decide_eq_false c1;omega)
 have c1:a<t.length:=by have:=of_decide_eq_true c1;omega
 have c2:b<t.length:=by have:=of_decide_eq_true c2;omega
 refine Idx.nB (h2.tells hs) rfl c1 (Idx.nB (h2.tells hs) rfl c2 ?_)
 refine IfB.mk (fun c3=>IfB.mk (fun c4=> ?_) (fun c4=>fin fun _ _ _=>(by have h9:(a:Int)=(b:Int):=(by simpa using c4);omega))) (fun c3=>fin fun _ _ he=>absurd (by rw [he]) (beq_eq_false_iff_ne.1 c3))
 have c3:t.getD a 0=t.getD b 0:=by have:=beq_iff_eq.1 c3;omega
 refine ⟨⟨a+1,b+1,by rw [i64_id (by omega)];omega,by rw [i64_id (by omega)];omega,by omega,by omega,?_,h2⟩,by dsimp only;rw [i64_id (x:=(a:Int)+1) (by omega)];omega⟩
 rw [←hab,sl_step c1 c2,c3];simp
set_option maxRecDepth 20000 in
theorem rOrder17_c {t:List Nat} {s:Sl} {K:Sl→World→Prop} (h:Hp E w F) (hs:Tells F (SlT 1 s (t.map vB))) (hn:t.length≤400000)
  (hK: ∀s' w',Hp E w' (OwnS 1 s' ((zl (ordB t)).map vI)::F)→K s' w'):Cl Tryz.prog [kS] n_ref17_Order ⟨[.slice s.base s.len s.cap]⟩ w K:=by
 refine ref17_Order.ok _ _ _ ?_
 unfold ref17_Order.E
 have hl:=(h.tells hs).1
 simp only [List.length_map,Nat.mul_one] at hl
 refine ⟨fun o i w'=> ∃(k:Nat) (L:List Nat),i=(k:Int)∧k≤t.length+1∧L.Perm (List.range k)∧L.Pairwise (fun a b=>sl t a b=true)∧Hp E w' (OwnS 1 o ((zl L).map vI)::F),fun _ i _=>t.length+1 - i.toNat,⟨0,[],rfl,by omega,List.Perm.refl _,List.Pairwise.nil,h.ownNil 1⟩,?_⟩
 rintro o i w1 ⟨k,L,rfl,hk,hp,hpw,h1⟩
 have hLl:L.length=k:=by rw [hp.length_eq,List.length_range]
 have hol:=h1.ownLen
 rw [List.length_map,zl_len,Nat.mul_one] at hol
 have hcap:=h1.ownCap
 refine IfB.mk (fun hlt=> ?_) (fun hge=> ?_)
 ·have hlt:k≤t.length:=by have:=of_decide_eq_true hlt;omega
  have hin: ∀j (hj:j<L.length),L[j]<k:=fun j hj=>by
   have:=hp.mem_iff.1 (List.getElem_mem hj)
   rwa [List.mem_range] at this
  have hgd: ∀j (hj:j<L.length),(zl L).getD j 0=(L[j]:Int):=fun j hj=>by simp [zl,List.getD,hj]
  refine ⟨fun c w'=> ∃m:Nat,c=(m:Int)∧m≤k∧(∀j (hj:j<L.length),m≤j→sl t k L[j]=true)∧Hp E w' (OwnS 1 o ((zl L).map vI)::F),fun c _=>c.toNat,⟨k,by omega,by omega,fun j hj h=>by omega,h1⟩,?_⟩
  rintro c w2 ⟨m,rfl,hm,hgt,h2⟩
  have fin: ∀{w3:World},Hp E w3 (OwnS 1 o ((zl L).map vI)::F)→(m=0∨∃hj:m - 1<L.length,sl t k L[m - 1]=false)→
    Slc o 0 (m:Int) (o.cap:Int) 1 fun s15=>Run Tryz.prog (Builtin.append_ #[33,33] 33 ⟨[.slice none 0 0,.slice s15.base s15.len s15.cap]⟩) kS w3 fun s17 w_16=>
     Nw 3 ⟨[.int .i64 (k:Int)]⟩ w_16 fun b19 w_18=>Run Tryz.prog (Builtin.append_ #[33,33] 33 ⟨[.slice s17.base s17.len s17.cap,.slice (some ⟨b19,0,none⟩) 1 1]⟩) kS w_18 fun s21 w_20=>
     Slc o (m:Int) (o.len:Int) (o.cap:Int) 1 fun s22=>Run Tryz.prog (Builtin.append_ #[33,33] 33 ⟨[.slice s21.base s21.len s21.cap,.slice s22.base s22.len s22.cap]⟩) kS w_20 fun s24 w_23=>
     (∃(k':Nat) (L':List Nat),i64 ((k:Int)+1)=(k':Int)∧k'≤t.length+1∧L'.Perm (List.range k')∧L'.Pairwise (fun a b=>sl t a b=true)∧Hp E w_23 (OwnS 1 s24 ((zl L').map vI)::F))∧t.length+1 - (i64 ((k:Int)+1)).toNat<t.length+1 - (k:Int).toNat:=fun {w3} h3 hst=>by
   refine Slc.rd (h3.tells Tells.own) (by omega) (by omega) (by omega) (by omega) (by omega) fun s15 h15 hl15=> ?_
   have ht15:SlT 1 s15 ((zl (L.take m)).map vI) w3:=by
    have:=h15 w3 (h3.tells Tells.own)
    rwa [show (0:Int).toNat=0 from rfl,List.drop_zero,Nat.sub_zero,Int.toNat_natCast,←List.map_take,show (zl L).take m=zl (L.take m) by unfold zl;rw [List.map_take]] at this
   have hA:=h3.ownNil 1
   refine run_append (s:=⟨none,0,0⟩) (ys:=(zl (L.take m)).map vI) (n:=m) ty_zsB (by decide) (.inl ⟨3,by kernel_rfl⟩) hA (.inl ⟨s15.base,s15.len,s15.cap,rfl,by rw [hl15];omega,ht15⟩) (by rw [List.length_map,zl_len,List.length_take];omega) vI_scalar (by show (2*(0+m)+1024)*8≤2^48;omega) (by show 0+m<2^62;omega) fun s17 w4 h4 hs17=> ?_
   rw [List.nil_append] at h4
   refine app_n ty_zsB rfl h4 (by rw [zl_len,List.length_take,big_eq];omega) fun s21 w5 h5 hs21=> ?_
   rw [zl_len,List.length_take] at hs21
   refine Slc.rd (h5.tells (Tells.cons Tells.own)) (by omega) (by omega) (by omega) (by omega) (by omega) fun s22 h22 hl22=> ?_
   have ht22:SlT 1 s22 ((zl (L.drop m)).map vI) w5:=by
    have:=h22 w5 (h5.tells (Tells.cons Tells.own))
    rwa [Int.toNat_natCast,Int.toNat_natCast,←List.map_drop,List.take_of_length_le (by rw [List.length_map,List.length_drop,zl_len];omega),show (zl L).drop m=zl (L.drop m) by unfold zl;rw [List.map_drop]] at this
   refine run_append (ys:=(zl (L.drop m)).map vI) (n:=k - m) ty_zsB (by decide) (.inl ⟨3,by kernel_rfl⟩) h5 (.inl ⟨s22.base,s22.len,s22.cap,rfl,by rw [hl22];omega,ht22⟩) (by rw [List.length_map,zl_len,List.length_drop];omega) vI_scalar (by omega) (by omega) fun s24 w6 h6 hs24=> ?_
   rw [i64_id (by omega)]
   refine ⟨⟨k+1,L.take m++ [k]++L.drop m,by omega,by omega,?_,?_,?_⟩,by omega⟩
   ·rw [List.range_succ]
    refine (List.Perm.append_right _ List.perm_append_comm).trans ?_
    rw [List.append_assoc,List.take_append_drop]
    exact (List.perm_append_comm (l₁:= [k]) (l₂:=L)).trans (hp.append_right _)
   ·have hlo: ∀a∈L.take m,sl t a k=true:=fun a ha=>by
     obtain ⟨j,hj,rfl⟩:=List.getElem_of_mem ha
     rw [List.length_take] at hj
     rw [List.getElem_take]
     rcases hst with h0|⟨hj1,hf⟩
     ·omega
     ·have hne:L[m - 1]≠k:=by have:=hin (m - 1) hj1;omega
      have h8:sl t L[m - 1] k=true:=by
       rcases sl_tot t k (rows_mem.2 hlt) L[m - 1] (rows_mem.2 (by have:=hin (m - 1) hj1;omega)) (fun e=>hne e.symm) with h9|h9
       ·rw [hf] at h9;cases h9
       ·exact h9
      by_cases e:j=m - 1
      ·subst e;exact h8
      ·exact (sl_so t).trans _ _ _ (List.pairwise_iff_getElem.1 hpw j (m - 1) (by omega) hj1 (by omega)) h8
    have hhi: ∀b∈L.drop m,sl t k b=true:=fun b hb=>by
     obtain ⟨j,hj,rfl⟩:=List.getElem_of_mem hb
     rw [List.length_drop] at hj
     rw [List.getElem_drop]
     exact hgt _ (by omega) (by omega)
    rw [List.append_assoc]
    refine List.pairwise_append.2 ⟨hpw.sublist (List.take_sublist ..),List.pairwise_append.2 ⟨by simp,hpw.sublist (List.drop_sublist ..),fun a ha b hb=> ?_⟩,fun a ha b hb=> ?_⟩
    ·rw [List.mem_singleton] at ha
     subst ha;exact hhi b hb
    ·rcases List.mem_append.1 hb with hb|hb
     ·rw [List.mem_singleton] at hb
      subst hb;exact hlo a ha
     ·exact (sl_so t).trans _ _ _ (hlo a ha) (hhi b hb)
   ·have e:(zl (L.take m)++ [(k:Int)]).map vI++(zl (L.drop m)).map vI=(zl (L.take m++ [k]++L.drop m)).map vI:=by
     rw [zl_app,zl_app,List.map_append,List.map_append,List.map_append];rfl
    rw [e] at h6
    exact h6.p1.drop
  refine IfB.mk (fun hpos=> ?_) (fun hpos=>fin h2 (.inl (by have:=of_decide_eq_false hpos;omega)))
  have hpos:0<m:=by have:=of_decide_eq_true hpos;omega
  have e1:i64 ((m:Int) - 1)=((m - 1:Nat):Int):=by rw [i64_id (by omega)];omega
  rw [e1]
  refine Idx.nI (h2.tells Tells.own) rfl (by rw [zl_len];omega) ?_
  rw [hgd (m - 1) (by omega)]
  have hlm:=hin (m - 1) (by omega)
  refine rLess17_c h2 (Tells.cons hs) (by rw [big_eq];omega) fun w3 h3=> ?_
  have hle:lessI t (k:Int) (L[m - 1]:Int)=sl t k L[m - 1]:=by
   unfold lessI
   rw [decide_eq_true ⟨by omega,by omega,by omega,by omega⟩,Bool.true_and,Int.toNat_natCast,Int.toNat_natCast]
  rw [hle]
  refine IfB.mk (fun hsl=> ?_) (fun hsl=>fin h3 (.inr ⟨by omega,hsl⟩))
  refine ⟨⟨m - 1,rfl,by omega,fun j hj hmj=> ?_,h3⟩,by dsimp only;omega⟩
  by_cases e:j=m - 1
  ·subst e;exact hsl
  ·exact hgt j hj (by omega)
 ·have hge:k=t.length+1:=by have:=of_decide_eq_false hge;omega
  subst hge
  have:L=ordB t:=Rk.sorted_eq (sl_so t) (hp.trans (Rk.srt_perm (lt:=sl t) (rows t)).symm) hpw (ordB_sorted t)
  rw [this] at h1
  exact hK o w1 h1
end
end Go.Proofs.YtcdpblipagajiaaGreat
set_option maxRecDepth 20000
namespace Go.Proofs.YtcdpblipagajiaaGreat
open Go Go.Vc Go.Bw Go.Hs
section
variable {E w:World} {F:List HP}
set_option maxRecDepth 200000 in
theorem rTurn17_c {t:List Nat} {s:Sl} {K:Sl→Int→World→Prop} (h:Hp E w F) (hs:Tells F (SlT 1 s (t.map vB))) (hn:t.length≤400000)
  (hK: ∀s' w',Hp E w' (OwnS 1 s' ((lastB t).map vB)::F)→K s' (idxB t:Int) w'):Cl Tryz.prog [kS,kI] n_ref17_Turn ⟨[.slice s.base s.len s.cap]⟩ w K:=by
 refine ref17_Turn.ok _ _ _ ?_
 unfold ref17_Turn.E
 have hl:=(h.tells hs).1
 simp only [List.length_map,Nat.mul_one] at hl
 refine rOrder17_c h hs hn fun s3 w1 h1=> ?_
 have hl3:=h1.ownLen
 rw [List.length_map,zl_len,ordB_len,Nat.mul_one] at hl3
 refine ⟨fun o ix i w'=> ∃k:Nat,i=(k:Int)∧k≤t.length+1∧ix=(if idxB t<k then (idxB t:Int) else 0)∧Hp E w' (OwnS 1 o (((((ordB t).take k).filter fun i=>i !=0).map fun i=>t.getD (i - 1) 0).map vB)::OwnS 1 s3 ((zl (ordB t)).map vI)::F),
  fun _ _ i _=>t.length+1 - i.toNat,⟨0,rfl,by omega,rfl,h1.ownNil 1⟩,?_⟩
 rintro o ix i w2 ⟨k,rfl,hk,rfl,h2⟩
 refine IfB.mk (fun hlt=> ?_) (fun hge=> ?_)
 ·have hlt:k<t.length+1:=by have:=of_decide_eq_true hlt;omega
  have hko:k<(ordB t).length:=by rw [ordB_len];exact hlt
  have hix:=ordB_idx t hko
  have hle:(ordB t)[k]≤t.length:=ordB_mem.1 (List.getElem_mem hko)
  have e0:(zl (ordB t)).getD k 0=((ordB t)[k]:Int):=by simp [zl,List.getD,hko]
  refine Idx.nI (h2.tells (Tells.cons Tells.own)) rfl (by rw [zl_len];exact hko) ?_
  rw [e0]
  have hf:=filter_take_succ hko
  refine IfB.mk (fun hz=> ?_) (fun hz=> ?_)
  ·have hz:(ordB t)[k]=0:=by have:=beq_iff_eq.1 hz;omega
   rw [if_pos hz,List.append_nil] at hf
   have hke:=hix.1 hz
   refine ⟨⟨k+1,by rw [i64_id (by omega)];omega,by omega,by rw [if_pos (by omega)];omega,by rw [hf];exact h2⟩,by dsimp only;rw [i64_id (by omega)];omega⟩
  ·have hz:(ordB t)[k]≠0:=by have:=beq_eq_false_iff_ne.1 hz;omega
   rw [if_neg hz] at hf
   have hke:k≠idxB t:=fun e=>hz (hix.2 e)
   refine Idx.nI (h2.tells (Tells.cons Tells.own)) rfl (by rw [zl_len];exact hko) ?_
   rw [e0]
   have e1:i64 (((ordB t)[k]:Int) - 1)=(((ordB t)[k] - 1:Nat):Int):=by rw [i64_id (by omega)];omega
   rw [e1]
   refine Idx.nB (h2.tells (Tells.cons (Tells.cons hs))) rfl (by omega) ?_
   refine app_b ty_bs rfl h2 (by rw [List.length_map,big_eq];exact Nat.le_trans (List.length_filter_le ..) (by rw [List.length_take];omega)) fun s' w3 h3 _=>⟨⟨k+1,by rw [i64_id (by omega)];omega,by omega,?_,?_⟩,by dsimp only;rw [i64_id (x:=(k:Int)+1) (by omega)];omega⟩
   ·by_cases e:idxB t<k
    ·rw [if_pos e,if_pos (by omega)]
    ·rw [if_neg e,if_neg (by omega)]
   ·rw [hf,List.map_append]
    exact h3
 ·have hge:k=t.length+1:=by have:=of_decide_eq_false hge;omega
  subst hge
  have hil:=idxB_le t
  rw [if_pos (by omega)]
  rw [List.take_of_length_le (by rw [ordB_len];exact Nat.le_refl _)] at h2
  exact hK o w2 h2.p1.drop
set_option maxRecDepth 200000 in
theorem rTurned17_c {b:List Nat} {s:Sl} {K:Sl→World→Prop} (h:Hp E w F) (hs:Tells F (SlT 1 s (b.map vB))) (hn:b.length≤400000)
  (hK: ∀s' w',Hp E w' (OwnS 1 s' (b.reverse.map vB)::F)→K s' w'):Cl Tryz.prog [kS] n_ref17_Turned ⟨[.slice s.base s.len s.cap]⟩ w K:=by
 refine ref17_Turned.ok _ _ _ ?_
 unfold ref17_Turned.E
 have hl:=(h.tells hs).1
 simp only [List.length_map,Nat.mul_one] at hl
 refine ⟨fun o i w'=> ∃k:Nat,i=(b.length:Int) - 1 - (k:Int)∧k≤b.length∧Hp E w' (OwnS 1 o ((b.reverse.take k).map vB)::F),fun _ i _=>(i+1).toNat,⟨0,by rw [i64_id (by omega)];omega,by omega,h.ownNil 1⟩,?_⟩
 rintro o i w1 ⟨k,rfl,hk,h1⟩
 refine IfB.mk (fun hge=> ?_) (fun hlt=> ?_)
 ·have hge:k<b.length:=by have:=of_decide_eq_true hge;omega
  refine Idx.nB (j:=b.length - 1 - k) (h1.tells (Tells.cons hs)) (by omega) (by omega) ?_
  refine app_b ty_bs rfl h1 (by rw [List.length_take,List.length_reverse,big_eq];omega) fun s' w2 h2 _=>⟨⟨k+1,by rw [i64_id (by omega)];omega,by omega,?_⟩,by dsimp only;rw [i64_id (by omega)];omega⟩
  have e:b.reverse.take (k+1)=b.reverse.take k++ [b.getD (b.length - 1 - k) 0]:=by
   rw [List.take_add_one,List.getElem?_reverse hge]
   simp [List.getD,show b.length - 1 - k<b.length by omega]
  rw [e];exact h2
 ·have hke:k=b.length:=by have:=of_decide_eq_false hlt;omega
  subst hke
  rw [List.take_of_length_le (by rw [List.length_reverse];exact Nat.le_refl _)] at h1
  exact hK o w1 h1
end
end Go.Proofs.YtcdpblipagajiaaGreat
namespace Go.Blk
open Go.Inc Go.Srt Go.Sym Go.Bits
end Go.Blk
namespace Go.Proofs.YtcdpblipagajiaaGreat
open Go Go.Vc Go.Srt Go.Inc Go.Sym Go.Tab Go.Hd Go.Bw Go.Bits Go.Blk Go.Crc
section
variable {E w:World} {F:List HP}
set_option maxRecDepth 20000
theorem rcolumn_c {s:Sl} {x:List Nat} {K:Sl→Int→World→Prop} (h:Hp E w F) (hs:Tells F (SlT 1 s (x.map vB))) (hn:x.length≤400000) (hK: ∀s' w',Hp E w' (OB s' (lastB x.reverse)::F)→K s' (idxB x.reverse:Int) w'):
  Cl Tryz.prog [kS,kI] n_ref25_Column ⟨[.slice s.base s.len s.cap]⟩ w K:=by
 refine ref25_Column.ok _ _ _ ?_
 unfold ref25_Column.E
 refine rTurned17_c h hs hn fun s' w h=> ?_
 exact rTurn17_c h Tells.own (by simpa using hn) fun s2 w h=>hK s2 w h.keep1
theorem rsymbols_c {s:Sl} {x:List Nat} {K:Sl→World→Prop} (h:Hp E w F) (hs:Tells F (SlT 1 s (x.map vB))) (hb: ∀y∈x,y<256) (hn:x.length≤400000) (hK: ∀s' w',Hp E w' (OI s' (syms (lastB x.reverse))::F)→K s' w'):
  Cl Tryz.prog [kS] n_ref25_Symbols ⟨[.slice s.base s.len s.cap]⟩ w K:=by
 refine ref25_Symbols.ok _ _ _ ?_
 unfold ref25_Symbols.E
 refine rcolumn_c h hs hn fun s' w h=> ?_
 exact rsall_c h Tells.own (lastB_b fun y hy=>hb y (List.mem_reverse.1 hy)) (by rw [lastB_len,List.length_reverse];omega) fun s2 w h=>hK s2 w h.keep1
theorem rlengths_c {s:Sl} {x:List Nat} {K:Array Value→World→Prop} (h:Hp E w F) (hs:Tells F (SlT 1 s (x.map vB))) (hb: ∀y∈x,y<256) (hn:x.length≤400000) (hK: ∀w',Hp E w' F→K (ai .u8 (lensX x)) w'):
  Cl Tryz.prog [.arr 258] n_ref25_Lengths ⟨[.slice s.base s.len s.cap]⟩ w K:=by
 refine ref25_Lengths.ok _ _ _ ?_
 unfold ref25_Lengths.E
 have h257:=syms_257 hb
 have hfew:=syms_few hn
 have hct:=cnt_tal h257
 have hall:(ints (syms (lastB x.reverse))).all Hs.isS=true:=by
  refine List.all_eq_true.2 fun z hz=> ?_
  obtain ⟨y,hy,rfl⟩:=List.mem_map.1 hz
  have:=h257 y hy
  exact Hs.isS_iff.2 (by omega)
 have hmx:=tal_max (ss:=syms (lastB x.reverse)) (by omega)
 have hadd:Hs.addT (List.replicate 258 0) (ints (syms (lastB x.reverse)))=some (ints (tal (syms (lastB x.reverse)))):=by
  rw [←hct]
  exact Hs.addT_all (by decide) hall (by rw [hct];exact ints_valid hmx)
 have hsz:(aT (ints (tal (syms (lastB x.reverse))))).size=258:=by rw [aT_size,ints_len,tal_len]
 have hsc:(aT (ints (tal (syms (lastB x.reverse))))).toList.all scalarB=true:=List.all_eq_true.2 Vc.aT_scalar
 have hls:(ai .u8 (lensX x)).size=258:=by rw [ai_size];exact lensY_len _
 have hlc:(ai .u8 (lensX x)).toList.all scalarB=true:=List.all_eq_true.2 ai_scalar
 refine Nw.mk h fun b3 w h=>rsymbols_c h (Tells.cons hs) hb hn fun s' w h=>rOf6_c h Tells.own (by rw [ints_len,big_eq];omega) fun w h=> ?_
 rw [show zero258=List.replicate 258 0 from rfl,hadd]
 refine Nw.mk h fun b8 w h=>StA.q h (by simp) hsz hsc fun w h=>Ld.xw h hsz ?_
 refine rLen_ok (lensY_good (by omega)) h fun w h=> ?_
 refine Nw.mk h fun b15 w h=>StA.q h (by simp) hls hlc fun w h=>Ld.xw h hls ?_
 refine StA.q (b:=b3) h (by simp) hls hlc fun w h=>Ld.xw (b:=b3) h hls (hK w h.tl)
end
end Go.Proofs.YtcdpblipagajiaaGreat
namespace Go.Blk
open Go.Inc Go.Srt Go.Sym Go.Bits Go.Tab Go.Hd Go.Crc Go.Bw Go.Rk Go.Proofs.YtcdpblipagajiaaGreat
theorem nil_lens:ksum (lensX [])≤32768∧allG (lensX []) (ints [257])=true∧∀y∈lensX [],y≤255:=by
 have hord:IsOrd (tal [257]) [257]:=⟨by decide+kernel,by decide+kernel⟩
 have e:lensX []=lensOf (tal [257]) [257] 15:=by
  unfold lensX lensY
  rw [show ([]:List Nat).reverse= [] from rfl,last_nil,nil_syms]
  have:=ord_same (ordL_ok (tal [257])) hord
  rw [this]
 rw [e]
 exact ⟨by decide+kernel,by decide+kernel,by decide+kernel⟩
end Go.Blk
namespace Go.Proofs.YtcdpblipagajiaaGreat
open Go Go.Vc Go.Srt Go.Inc Go.Sym Go.Tab Go.Hd Go.Bw Go.Bits Go.Blk Go.Crc
section
variable {E w:World} {F:List HP}
set_option maxRecDepth 20000
theorem blockSymbols_law {x:List Nat} {s:Sl} {K:Bool→World→Prop} (h:Hp E w F) (hs:Tells F (SlT 1 s (x.map vB))) (hb: ∀y∈x,y<256) (hK: ∀w',Hp E w' F→K true w'):
  Cl Tryz.prog [kB] n_law25_BlockSymbols ⟨[.slice s.base s.len s.cap]⟩ w K:=by
 refine law25_BlockSymbols.ok _ _ _ ?_
 unfold law25_BlockSymbols.E
 have hl:=slLenB (h.tells hs)
 refine IfB.dm (fun _=>wakes25_c h hK) (fun g1=> ?_)
 have hls:(ai .u8 (lensX x)).size=258:=by rw [ai_size];exact lensY_len _
 have hlc:(ai .u8 (lensX x)).toList.all scalarB=true:=List.all_eq_true.2 ai_scalar
 refine symbols_c h hs hb (by omega) fun s5 w h=>lengthsX_c h hs.cons hb (by omega) fun w h=> ?_
 refine Nw.mk h fun b9 w h=>StA.q h (by simp) hls hlc fun w h=>rcolumn_c h hs.cons.cons (by omega) fun s12 w h=>Ld.xw h hls ?_
 have h257:=syms_257 hb
 have hfew:=syms_len (lastB x.reverse)
 rw [lastB_len,List.length_reverse] at hfew
 have hlens:(lensX x).length=258:=lensY_len _
 have hP:=Stm.lastP hb
 obtain ⟨hv,hg,h8⟩:ksum (lensX x)≤32768∧allG (lensX x) (ints (syms (lastB x.reverse)))=true∧∀y∈lensX x,y≤255:=by
  by_cases hx0:x.length=0
  ·have hx:x= []:=List.length_eq_zero_iff.1 hx0
   subst hx
   rw [show ([]:List Nat).reverse= [] from rfl,last_nil,nil_syms]
   exact nil_lens
  ·have hL:=lensX_lens (x:=x) (by omega) (by omega) hb
   have h15:=okT_15 hL.ok
   exact ⟨hL.v,allG_ints hL.good h257,fun y hy=>by have:=h15 y hy;omega⟩
 have hsl:(syms (lastB x.reverse)).length≤100000:=by omega
 refine rBits_c h hlens h8 (Tells.at 2 Tells.own) (by rw [ints_len];omega) (fun hno=>absurd ⟨hv,hg⟩ hno) fun _ _ s16 w h=> ?_
 refine rlengths_c h hs.cons.cons.cons.cons hb (by omega) fun w h=>rsymbols_c h hs.cons.cons.cons.cons hb (by omega) fun s21 w h=> ?_
 refine rBits_c h hlens h8 Tells.own (by rw [ints_len];omega) (fun hno=>absurd ⟨hv,hg⟩ hno) fun _ _ s23 w h=> ?_
 refine rsall_c h (Tells.at 3 Tells.own) hP (by rw [lastB_len,List.length_reverse];omega) fun s26 w h=> ?_
 refine ints_c h (Tells.at 6 Tells.own) Tells.own (by rw [ints_len,big_eq];omega) fun w h=> ?_
 have l16:=(h.at 3).ownLen
 have l23:=(h.at 1).ownLen
 refine IfB.t (by simp) (IfB.t rfl (IfB.et (by omega) (IfB.em (fun _=>wakes25_c h fun w h=>hK w h.tl) (fun hx0=>Ld.xw (b:=b9) h hls ?_))))
 have hL:=lensX_lens (x:=x) (by omega) (by omega) hb
 have hks:=(okT_iff.1 hL.ok).1
 refine rsum_c h hlens fun r w _ hr h=> ?_
 rw [hr (by omega),hks]
 refine IfB.t rfl (wakes25_c h fun w h=>hK w h.tl)
end
end Go.Proofs.YtcdpblipagajiaaGreat
set_option maxRecDepth 20000
namespace Go.Vc
open Go Go.RowKit Go.ChangeShapes Go.WideShapes
section
variable {H:Type} {enc:TypeId×Value→H} {P:Program} {W:World}
def Trd (enc:TypeId×Value→H) (P:Program) (W:World) (t:TypeId) (cs:List Value):Prop:= ∃fuel x,DataW.trod enc P W 0 (fun _=>true) true fuel t cs=some x
theorem Trd.int {t:TypeId} {k:IntKind} {cs:List Value} (h:Trd enc P W t cs) (ht:P.underlying t=some (.int k)): ∃n,cs= [.int k n]∧(Lit.int k n).wf=true:=by
 obtain ⟨m,x,h⟩:=h
 obtain ⟨n,h1,_,h2⟩:=DataW.trod_int ht h
 exact ⟨n,h1,h2⟩
theorem Trd.bool {t:TypeId} {cs:List Value} (h:Trd enc P W t cs) (ht:P.underlying t=some .bool): ∃b,cs= [.bool b]:=by
 obtain ⟨m,x,h⟩:=h
 obtain ⟨n,h1,_⟩:=DataW.trod_bool ht h
 exact ⟨n,h1⟩
theorem Trd.string {t:TypeId} {cs:List Value} (h:Trd enc P W t cs) (ht:P.underlying t=some .string): ∃s:ByteArray,cs= [.string s]∧s.size≤maxLen:=by
 obtain ⟨m,x,h⟩:=h
 obtain ⟨n,h1,_,h2⟩:=DataW.trod_string ht h
 exact ⟨n,h1,h2⟩
theorem cells_get {a:Addr} {n:Nat} {cs:List Value} (h:W.cells? 0 a n=some cs):cs.length=n∧∀i (hi:i<cs.length),W.cell? (a.add i)=some cs[i]:=by
 unfold World.cells? at h
 rw [if_pos (Nat.zero_le _)] at h
 have hl:cs.length=n:=by simpa using mapM_some_length h
 refine ⟨hl,fun i hi=> ?_⟩
 have:=mapM_some_get h i i (List.getElem?_range (by omega))
 rw [this,List.getElem?_eq_getElem hi]
theorem flatten_get {α:Type} {sz:Nat}: ∀{xs:List (List α)} (_: ∀x∈xs,x.length=sz) (i j:Nat) (hi:i<xs.length) (_:j<sz),xs.flatten[i*sz+j]? =xs[i][j]?
 |x::xs,h,0,j,_,hj=>by
  have hx:=h x (by simp)
  rw [List.flatten_cons,List.getElem?_append_left (by omega),Nat.zero_mul,Nat.zero_add];rfl
 |x::xs,h,i+1,j,hi,hj=>by
  have hx:=h x (by simp)
  rw [List.flatten_cons,List.getElem?_append_right (by rw [hx,Nat.succ_mul];omega),hx,show (i+1)*sz+j - sz=i*sz+j by rw [Nat.succ_mul];omega,
   flatten_get (fun y hy=>h y (List.mem_cons_of_mem _ hy)) i j (by simpa using hi) hj]
  rfl
theorem flat_len {α:Type} {sz:Nat}: ∀{xs:List (List α)} (_: ∀x∈xs,x.length=sz),xs.flatten.length=xs.length*sz
 | [],_=>by simp
 |x::xs,h=>by
  rw [List.flatten_cons,List.length_append,h x (by simp),flat_len (fun y hy=>h y (List.mem_cons_of_mem _ hy)),List.length_cons,Nat.succ_mul];omega
theorem Trd.slice {t e:TypeId} {cs:List Value} (h:Trd enc P W t cs) (ht:P.underlying t=some (.slice e)):
  ∃(s:Sl) (xs:List (List Value)),cs= [.slice s.base s.len s.cap]∧s.len≤s.cap∧s.cap≤maxLen∧xs.length=s.len∧(∀x∈xs,Trd enc P W e x)∧(∀x∈xs,x.length=P.cellsOf e)∧SlT (P.cellsOf e) s xs.flatten W:=by
 obtain ⟨m,x,h⟩:=h
 rcases DataW.trod_slice ht h with ⟨h1,_⟩|⟨a,len,cap,elems,rest,n,rfl,h1,_,_,hlc,hcm,hel,hget,_⟩
 ·exact ⟨⟨none,0,0⟩,[],h1,Nat.le_refl _,Nat.zero_le _,rfl,by simp,by simp,by simp,by simp⟩
 ·have hx: ∀i,i<len→∃cs,W.cells? 0 (a.add (i*P.cellsOf e)) (P.cellsOf e)=some cs∧Trd enc P W e cs:=by
   intro i hi
   have:=hget i hi
   rw [List.getElem?_eq_getElem (by omega)] at this
   obtain ⟨cs,h2,h3⟩:=Option.bind_eq_some_iff.1 this
   exact ⟨cs,h2,n,_,h3⟩
  have key: ∀k,k≤len→∃xs:List (List Value),xs.length=k∧∀i (hi:i<xs.length),W.cells? 0 (a.add (i*P.cellsOf e)) (P.cellsOf e)=some xs[i]∧Trd enc P W e xs[i]:=by
   intro k
   induction k with
   |zero=>exact fun _=>⟨[],rfl,fun i hi=>by simp at hi⟩
   |succ k ih=>
    intro hk
    obtain ⟨xs,hl,hxs⟩:=ih (by omega)
    obtain ⟨cs,h2,h3⟩:=hx k (by omega)
    refine ⟨xs++ [cs],by simp [hl],fun i hi=> ?_⟩
    by_cases hik:i<xs.length
    ·rw [List.getElem_append_left hik];exact hxs i hik
    ·have:i=k:=by simp [hl] at hi;omega
     subst this
     rw [List.getElem_append_right (by omega)]
     simp only [hl,Nat.sub_self,List.getElem_cons_zero]
     exact ⟨h2,h3⟩
  obtain ⟨xs,hl,hxs⟩:=key len (Nat.le_refl _)
  have hsz: ∀x∈xs,x.length=P.cellsOf e:=by
   intro x hx
   obtain ⟨i,hi,rfl⟩:=List.getElem_of_mem hx
   exact (cells_get (hxs i hi).1).1
  refine ⟨⟨some a,len,cap⟩,xs,h1,hlc,hcm,hl,fun x hx=> ?_,hsz,?_,fun i hi=>⟨a,rfl,?_⟩⟩
  ·obtain ⟨i,hi,rfl⟩:=List.getElem_of_mem hx
   exact (hxs i hi).2
  ·rw [flat_len hsz,hl]
  ·rw [flat_len hsz,hl] at hi
   have hz:0<P.cellsOf e:=by
    rcases Nat.eq_zero_or_pos (P.cellsOf e) with h0|h0
    ·rw [h0] at hi;simp at hi
    ·exact h0
   have e1:i/P.cellsOf e*P.cellsOf e+i % P.cellsOf e=i:=by rw [Nat.mul_comm];exact Nat.div_add_mod i _
   have hq:i/P.cellsOf e<xs.length:=by rw [hl];exact (Nat.div_lt_iff_lt_mul hz).2 hi
   have hr:=Nat.mod_lt i hz
   obtain ⟨c1,c2⟩:=cells_get (hxs _ hq).1
   have c3:=c2 (i % P.cellsOf e) (by omega)
   have c4:=flatten_get hsz _ _ hq hr
   have c5:(a.add (i/P.cellsOf e*P.cellsOf e)).add (i % P.cellsOf e)=a.add i:=by
    conv=>rhs;rw [←e1]
    unfold Addr.add
    by_cases e1:i/P.cellsOf e*P.cellsOf e=0<;>by_cases e2:i % P.cellsOf e=0<;>simp [e1,e2,Nat.add_assoc]
   rw [c5] at c3
   rw [c3,←List.getElem?_eq_getElem,←c4]
   simp only [e1]
   exact List.getElem?_eq_getElem _
theorem Trd.struct {t:TypeId} {fs:Array Field} {cs:List Value} (h:Trd enc P W t cs) (ht:P.underlying t=some (.struct fs)):cs.length=P.cellsOf t∧∀(i:Nat) (f:Field),fs[i]? =some f→Trd enc P W f.type ((cs.drop f.offset).take (P.cellsOf f.type)):=by
 obtain ⟨m,x,h⟩:=h
 obtain ⟨xs,n,_,_,h2,h3,h4⟩:=DataW.trod_struct ht h
 refine ⟨h2,fun i f hf=> ?_⟩
 have hi:i<fs.size:=by
  rcases Nat.lt_or_ge i fs.size with hh|hh
  ·exact hh
  ·rw [Array.getElem?_eq_none hh] at hf;cases hf
 have:=h4 i f hf
 rw [List.getElem?_eq_getElem (by omega)] at this
 exact ⟨n,_,this⟩
def fieldB (P:Program) (t:TypeId) (i:Nat) (ft:TypeId) (off n:Nat):Bool:=match P.underlying t with
 |some (.struct fs)=>match fs[i]? with
  |some f=>f.type==ft&&f.offset==off&&P.cellsOf ft==n
  |none=>false
 |_=>false
theorem Trd.field {t:TypeId} {cs:List Value} (h:Trd enc P W t cs) (i:Nat) (ft:TypeId) (off n:Nat) (hf:fieldB P t i ft off n=true):Trd enc P W ft ((cs.drop off).take n):=by
 unfold fieldB at hf
 split at hf
 ·rename_i fs ht
  split at hf
  ·rename_i f hfi
   simp only [Bool.and_eq_true,beq_iff_eq] at hf
   obtain ⟨⟨rfl,rfl⟩,rfl⟩:=hf
   exact (h.struct ht).2 i f hfi
  ·cases hf
 ·cases hf
theorem Trd.array {t e:TypeId} {n:Nat} {cs:List Value} (h:Trd enc P W t cs) (ht:P.underlying t=some (.array n e)):cs.length=P.cellsOf t∧∀i,i<n→Trd enc P W e ((cs.drop (i*P.cellsOf e)).take (P.cellsOf e)):=by
 obtain ⟨m,x,h⟩:=h
 obtain ⟨xs,n',_,_,h2,h3,h4⟩:=DataW.trod_array ht h
 refine ⟨h2,fun i hi=> ?_⟩
 have:=h4 i hi
 rw [List.getElem?_eq_getElem (by omega)] at this
 exact ⟨n',_,this⟩
theorem rows_of {α β:Type} {g:α→β} {Good:α→Prop}: ∀{xs:List β} (_: ∀x∈xs,∃a,x=g a∧Good a),∃l:List α,xs=l.map g∧∀a∈l,Good a
 | [],_=>⟨[],rfl,by simp⟩
 |x::xs,h=>by
  obtain ⟨a,rfl,ha⟩:=h x (by simp)
  obtain ⟨l,rfl,hl⟩:=rows_of (fun y hy=>h y (List.mem_cons_of_mem _ hy))
  exact ⟨a::l,rfl,by simpa using ⟨ha,hl⟩⟩
theorem flatten_map1 {α β:Type} {g:α→β} (l:List α):(l.map fun a=> [g a]).flatten=l.map g:=by
 induction l with
 |nil=>rfl
 |cons a l ih=>simp [ih]
theorem wf_u8 {n:Int} (h:(Lit.int .u8 n).wf=true):0≤n∧n≤255:=by
 simp [Lit.wf,IntKind.min,IntKind.max,IntKind.signed,IntKind.bits] at h
 exact h
def IsBytes (W:World) (s:Sl) (b:List Nat):Prop:=SlT 1 s (b.map vB) W∧(∀y∈b,y<256)∧s.len≤s.cap∧s.cap≤maxLen
theorem Trd.bytes {t e:TypeId} {cs:List Value} (h:Trd enc P W t cs) (ht:P.underlying t=some (.slice e)) (he:P.underlying e=some (.int .u8)) (hc:P.cellsOf e=1): ∃s b,cs= [.slice s.base s.len s.cap]∧IsBytes W s b:=by
 obtain ⟨s,xs,h1,h2,h3,h4,h5,h6,h7⟩:=h.slice ht
 obtain ⟨l,rfl,hl⟩:=rows_of (g:=fun y:Nat=> [vB y]) (Good:=fun y=>y<256) (xs:=xs) fun x hx=>by
  obtain ⟨n,rfl,hn⟩:=(h5 x hx).int he
  have:=wf_u8 hn
  obtain ⟨m,rfl⟩:=Int.eq_ofNat_of_zero_le this.1
  exact ⟨m,rfl,by omega⟩
 rw [flatten_map1,hc] at h7
 exact ⟨s,l,h1,h7,hl,h2,h3⟩
theorem Trd.ints {t e:TypeId} {k:IntKind} {cs:List Value} (h:Trd enc P W t cs) (ht:P.underlying t=some (.slice e)) (he:P.underlying e=some (.int k)) (hc:P.cellsOf e=1):
  ∃s,∃l:List Int,cs= [.slice s.base s.len s.cap]∧SlT 1 s (l.map (.int k)) W∧(∀y∈l,(Lit.int k y).wf=true)∧s.len≤s.cap∧s.cap≤maxLen:=by
 obtain ⟨s,xs,h1,h2,h3,h4,h5,h6,h7⟩:=h.slice ht
 obtain ⟨l,rfl,hl⟩:=rows_of (g:=fun y:Int=> [Value.int k y]) (Good:=fun y=>(Lit.int k y).wf=true) (xs:=xs) fun x hx=>by
  obtain ⟨n,rfl,hn⟩:=(h5 x hx).int he
  exact ⟨n,rfl,hn⟩
 rw [flatten_map1,hc] at h7
 exact ⟨s,l,h1,h7,hl,h2,h3⟩
def Arg (enc:TypeId×Value→H) (P:Program) (W:World) (t:TypeId) (v:Value):Prop:=(∃base,Value.okWide P W .any base t v)∧Trd enc P W t v.cells.toList
def ArgL (enc:TypeId×Value→H) (P:Program) (W:World):List TypeId→List Value→Prop
 | [],vs=>vs= []
 |t::ts,vs=> ∃v vs',vs=v::vs'∧Arg enc P W t v∧ArgL enc P W ts vs'
theorem Arg.one {t:TypeId} {v:Value} (h:Arg enc P W t v) (hv:v.cells.toList= [v]):Trd enc P W t [v]:=by
 have:=h.2
 rwa [hv] at this
theorem Arg.slice {t e:TypeId} {v:Value} (h:Arg enc P W t v) (ht:P.underlying t=some (.slice e)):Trd enc P W t [v]:=by
 obtain ⟨base,hb⟩:=h.1
 obtain ⟨a,l,c,rfl⟩:=okWide_slice ht hb
 exact h.one rfl
theorem Arg.bytes {t e:TypeId} {v:Value} (h:Arg enc P W t v) (ht:P.underlying t=some (.slice e)) (he:P.underlying e=some (.int .u8)) (hc:P.cellsOf e=1): ∃s b,v= .slice s.base s.len s.cap∧IsBytes W s b:=by
 obtain ⟨s,b,h1,h2⟩:=(h.slice ht).bytes ht he hc
 exact ⟨s,b,by simpa using h1,h2⟩
theorem Arg.ints {t e:TypeId} {k:IntKind} {v:Value} (h:Arg enc P W t v) (ht:P.underlying t=some (.slice e)) (he:P.underlying e=some (.int k)) (hc:P.cellsOf e=1):
  ∃s,∃l:List Int,v= .slice s.base s.len s.cap∧SlT 1 s (l.map (.int k)) W∧(∀y∈l,(Lit.int k y).wf=true)∧s.len≤s.cap∧s.cap≤maxLen:=by
 obtain ⟨s,l,h1,h2⟩:=(h.slice ht).ints ht he hc
 exact ⟨s,l,by simpa using h1,h2⟩
theorem Arg.int {t:TypeId} {k:IntKind} {v:Value} (h:Arg enc P W t v) (ht:P.underlying t=some (.int k)): ∃n,v= .int k n∧(Lit.int k n).wf=true:=by
 obtain ⟨base,hb⟩:=h.1
 obtain ⟨n,rfl⟩:=okWide_int ht hb
 obtain ⟨m,h1,h2⟩:=(h.one rfl).int ht
 cases h1
 exact ⟨n,rfl,h2⟩
theorem Arg.string {t:TypeId} {v:Value} (h:Arg enc P W t v) (ht:P.underlying t=some .string): ∃s:ByteArray,v= .string s∧s.size≤maxLen:=by
 obtain ⟨base,hb⟩:=h.1
 obtain ⟨n,rfl⟩:=okWide_string ht hb
 obtain ⟨m,h1,h2⟩:=(h.one rfl).string ht
 cases h1
 exact ⟨n,rfl,h2⟩
theorem Arg.struct {t:TypeId} {fs:Array Field} {v:Value} (h:Arg enc P W t v) (ht:P.underlying t=some (.struct fs)): ∃cs,v= .agg cs∧Trd enc P W t cs.toList:=by
 obtain ⟨base,hb⟩:=h.1
 obtain ⟨cs,rfl,_⟩:=okWide_struct ht hb
 exact ⟨cs,rfl,h.2⟩
theorem argL_of: ∀{ts:List TypeId} {vs:List Value} {ds:List (DataW H)} {ps:List MemPlace},DataW.TrodAll enc P W 0 (fun _=>true) true ts vs ds ps→(∀(j:Nat) t v,ts[j]? =some t→vs[j]? =some v→∃base,Value.okWide P W .any base t v)→ArgL enc P W ts vs
 | [],[],[],_,_,_=>rfl
 |t::ts,v::vs,d::ds,ps,h,hv=>by
  obtain ⟨p,q,⟨fuel,h1⟩,h2,_⟩:=h
  exact ⟨v,vs,rfl,⟨hv 0 t v rfl rfl,fuel,_,h1⟩,argL_of h2 fun j t' v' a b=>hv (j+1) t' v' a b⟩
theorem trodAll_len: ∀{ts:List TypeId} {vs:List Value} {ds:List (DataW H)} {ps:List MemPlace},DataW.TrodAll enc P W 0 (fun _=>true) true ts vs ds ps→ds.length=ts.length
 | [],[],[],_,_=>rfl
 |_::_,_::_,_::_,_,h=>by
  obtain ⟨p,q,_,h2,_⟩:=h
  simp [trodAll_len h2]
theorem below_trodAll (hl:laidOutB P=true) {W':World} (hb:Below W.heap.size W W'): ∀{ts:List TypeId} {vs:List Value} {ds:List (DataW H)} {ps:List MemPlace},DataW.TrodAll enc P W 0 (fun _=>true) true ts vs ds ps→
  (∀t∈ts,P.readableRec t=true∧t<P.types.size)→∃qs,DataW.TrodAll enc P W' 0 (fun b=>decide (b<W.heap.size)) true ts vs ds qs
 | [],[],[],_,_,_=>⟨[],rfl⟩
 |t::ts,v::vs,d::ds,ps,h,hr=>by
  obtain ⟨p,q,h1,h2,_⟩:=h
  obtain ⟨qs,h3⟩:=below_trodAll hl hb h2 fun t ht=>hr t (List.mem_cons_of_mem _ ht)
  obtain ⟨ht1,ht2⟩:=hr t (by simp)
  have hlt: ∀x∈p,x.block<W.heap.size:=by obtain ⟨m,hm⟩:=h1;exact DataW.trod_lt m _ _ _ hm
  exact ⟨_,p,qs,Below.trod hl ht1 ht2 h1 hb hlt,h3,rfl⟩
theorem law_lift {C:Checked} {os:Os} {f:FuncId} {fn:Func} {s:ChangeSpec} {conds:List PathCond} {tb:TypeId}
  (own:ownKnob C.prog.godebug=none) (started:os.Started) (noInit:C.prog.inits.idxOf? f=none) (hfn:C.prog.funcs[f]? =some fn)
  (witness: ∃(w:World) (tape:Tape) (i:Input),w.os=os∧(w.forCall tape i).Shaped C.prog∧i.vars= []∧Input.okWide C.prog (w.forCall tape i) .any w.heap.size f i∧
   s.pre6 enc C.prog fn conds false (w.forCall tape i).memory i.args∧({}:Assume).holds C.prog (lone (Frame.enter C.prog f i.args .normal) [] (w.forCall tape i)))
  (hvars:s.vars= []) (hres:fn.resultTypes= #[tb]) (htb:C.prog.underlying tb=some .bool)
  (hspec: ∀ds:List (DataW H),ds.length=fn.params.toList.length→s.fn H ds={results:= [.lit (.bool true)],args:=ds})
  (laid:laidOutB C.prog=true) (hr:fn.params.toList.all (fun t=>C.prog.readableRec t&&decide (t<C.prog.types.size))=true)
  (contract: ∀(W:World) (args:Array Value) (ds:List (DataW H)),ArgL enc C.prog W fn.params.toList args.toList→(DataW.weightsEach C.prog fn.params.toList ds).all (·≤reachBytes)=true→
   Cl C.prog [kB] f args W (fun b w'=>b=true∧Below W.heap.size W w')):
  ReturnsInHanded {} C os f .any (s.pre6 enc C.prog fn conds false) (s.post enc C.prog fn false true false false):=by
 refine returnsInHanded_of_change_sized own started noInit hfn witness ?_
 intro W base args ds gs before hval hW _ hz _
 have hW':=hW
 obtain ⟨p,q,hA,hV,rfl,hfz,hnd⟩:=hW
 rw [hvars] at hV
 obtain ⟨rfl,rfl⟩:=trodVars_none hV
 have hlen:=trodAll_len hA
 have hz':(DataW.weightsEach C.prog fn.params.toList ds).all (·≤reachBytes)=true:=by
  have e:s.plain.varTypes C.prog= []:=by
   simp [DataSpec.varTypes,ChangeSpec.plain,hvars]
  rw [e,List.append_nil,List.append_nil] at hz
  exact hz
 have hargs:=argL_of (vs:=args.toList) hA fun j t v ht hv=>⟨base,hval j t v (by simpa using ht) (by simpa using hv)⟩
 refine Calls.mono (contract W args ds hargs hz') fun e W' hp=> ?_
 cases e with
 |returned v=>
  obtain ⟨b,hv,hb,bel⟩:=Ki.dec_sound (k:=kB) hp
  subst hb
  have hv:v= .bool true:=hv
  subst hv
  have hsp:=hspec ds hlen
  obtain ⟨qs,hq⟩:=below_trodAll laid bel hA fun t ht=>by
   have:=List.all_eq_true.1 hr t ht
   simpa using this
  refine ⟨_,rfl,ds,[],_,[],qs,[],hW',?_,?_,?_,bel.frame _,fun h=>by cases h⟩
  ·rw [List.append_nil,hsp,hres]
   exact trodAll_mk1 (shut_bool htb _)
  ·rw [List.append_nil,hsp];exact hq
  ·rw [hvars]
   have:(s.fn H (ds++ [])).vars= []:=by rw [List.append_nil,hsp]
   rw [this];rfl
 |_=>exact absurd hp (by intro h;exact h)
end
end Go.Vc
set_option maxRecDepth 20000
namespace Go.Vc
open Go Go.RowKit Go.ChangeShapes Go.WideShapes
section
variable {H:Type} {enc:TypeId×Value→H} {P:Program} {W:World}
theorem Arg.agg {t e:TypeId} {n:Nat} {v:Value} (h:Arg enc P W t v) (ht:P.underlying t=some (.array n e)): ∃cs,v= .agg cs∧Trd enc P W t cs.toList:=by
 obtain ⟨base,hb⟩:=h.1
 simp only [Value.okWide,ht] at hb
 obtain ⟨cs,rfl,_⟩:=hb
 exact ⟨cs,rfl,h.2⟩
theorem Trd.nums {t e:TypeId} {n:Nat} {k:IntKind} {cs:List Value} (h:Trd enc P W t cs) (ht:P.underlying t=some (.array n e)) (he:P.underlying e=some (.int k)) (hc:P.cellsOf e=1) (hn:P.cellsOf t=n):
  ∃l:List Int,cs=l.map (.int k)∧l.length=n∧∀y∈l,(Lit.int k y).wf=true:=by
 obtain ⟨h1,h2⟩:=h.array ht
 rw [hn] at h1
 rw [hc] at h2
 have key: ∀m,m≤n→∃l:List Int,cs.take m=l.map (.int k)∧l.length=m∧∀y∈l,(Lit.int k y).wf=true:=by
  intro m
  induction m with
  |zero=>exact fun _=>⟨[],by simp,rfl,by simp⟩
  |succ m ih=>
   intro hm
   obtain ⟨l,e1,e2,e3⟩:=ih (by omega)
   obtain ⟨x,hx,hw⟩:=(h2 m (by omega)).int he
   rw [Nat.mul_one] at hx
   have hmc:m<cs.length:=by omega
   have hx2:cs[m]= .int k x:=by
    rw [List.drop_eq_getElem_cons hmc,List.take_succ_cons,List.take_zero] at hx
    exact (List.cons.inj hx).1
   refine ⟨l++ [x],?_,by simp [e2],?_⟩
   ·rw [List.take_add_one,e1,List.getElem?_eq_getElem hmc,hx2];simp
   ·intro y hy
    rcases List.mem_append.1 hy with hy|hy
    ·exact e3 y hy
    ·have:y=x:=by simpa using hy
     rw [this];exact hw
 obtain ⟨l,e1,e2,e3⟩:=key n (Nat.le_refl _)
 rw [List.take_of_length_le (by omega)] at e1
 exact ⟨l,e1,e2,e3⟩
end
end Go.Vc
