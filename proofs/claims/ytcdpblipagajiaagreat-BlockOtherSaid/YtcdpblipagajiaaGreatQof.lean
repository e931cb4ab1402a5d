/- Texts packed together by program; spaces struck by program. Conditions: as each theorem states. -/
import Derived.Carry
import Derived.OpenShut
import Derived.ProofKit
import Derived.SizedLaws
import Derived.Test.YtcdpblipagajiaaGreatQoe
set_option linter.unusedSimpArgs false
set_option linter.unusedVariables false
namespace Go.Proofs.YtcdpblipagajiaaGreat
open Go Go.Vc Go.Srt Go.Inc Go.Bits Go.Blk Go.Sym
section
variable {E w:World} {F:List HP}
set_option maxRecDepth 20000
abbrev bL (b:Nat) (L:List Nat):HP:=Blk b (.cells ⟨byV L⟩ 108 (0,0))
theorem z256:(⟨List.replicate 256 (.int .u8 0)⟩:Array Value).size=256:=by simp
theorem byA {L:List Nat} (h:L.length=256):(⟨byV L⟩:Array Value).size=256:=by simp [h]
theorem byV_get {L:List Nat} {i:Nat} (h:i<L.length):(⟨byV L⟩:Array Value).toList[i]? =some (Sc.enc (.int .u8) (L[i]:Int)):=by simp [h]
theorem byV_set {L:List Nat} {i x:Nat}:(⟨byV L⟩:Array Value).setIfInBounds i (.int .u8 (x:Int))=⟨byV (L.set i x)⟩:=by
 apply Array.ext'
 rw [Array.toList_setIfInBounds]
 show (byV L).set i _=byV (L.set i x)
 unfold byV
 rw [List.map_set]
theorem rnew13_c {K:Array Value→World→Prop} (h:Hp E w F) (hK: ∀w',Hp E w' F→K ⟨byV (List.range 256)⟩ w'):Cl Tryz.prog [.arr 256] n_ref13_New ⟨[]⟩ w K:=by
 refine ref13_New.ok _ _ ?_
 unfold ref13_New.E
 refine Nw.mk h fun b2 w h=>Nw.mk h fun b4 w h=> ?_
 have hlen: ∀k,k≤256→(byV (List.range k++List.replicate (256 - k) 0)).length=256:=fun k hk=>by simp;omega
 refine ⟨fun i w'=> ∃k:Nat,i=(k:Int)∧k≤256∧Hp E w' (bL b4 (List.range k++List.replicate (256 - k) 0)::Blk b2 (.cells ⟨List.replicate 256 (.int .u8 0)⟩ 108 (0,0))::F),fun i _=>256 - i.toNat,⟨0,rfl,by omega,by
  have:(⟨byV (List.range 0++List.replicate (256 - 0) 0)⟩:Array Value)=⟨List.replicate 256 (.int .u8 0)⟩:=by simp
  unfold bL
  rw [this];exact h⟩,?_⟩
 rintro i w ⟨k,rfl,hk,h⟩
 refine IfB.dm (fun hlt=> ?_) (fun hge=> ?_)
 ·refine ⟨by omega,by omega,?_⟩
  rw [show ((k:Int)).toNat*1=k by omega]
  (try simp only [Join_eq,NilCk_some,add_mk,Nat.zero_add,Nat.add_zero,Nat.reduceAdd,Bool.not_true,Bool.not_false,IfB_t,IfB_f,Option.isNone])
  have hk:=hlen k (by omega)
  rw [u8_id (by omega),i64_id (by omega)]
  refine St.xb h (by simp;omega) rfl fun w h=> ?_
  refine ⟨⟨k+1,rfl,by omega,?_⟩,by first|omega|(dsimp only;omega)⟩
  rw [byV_set] at h
  have e:(List.range k++List.replicate (256 - k) 0).set k k=List.range (k+1)++List.replicate (256 - (k+1)) 0:=by
   rw [List.set_append_right _ _ (by simp),List.length_range,Nat.sub_self]
   obtain ⟨m,hm⟩: ∃m,256 - k=m+1:=⟨255 - k,by omega⟩
   rw [hm,List.replicate_succ,List.set_cons_zero,List.range_succ,show 256 - (k+1)=m by omega]
   simp
  rw [e] at h
  exact h
 ·have hk2:k=256:=by omega
  subst hk2
  have e:List.range 256++List.replicate (256 - 256) 0=List.range 256:=by rw [Nat.sub_self,List.replicate_zero,List.append_nil]
  rw [e] at h
  have hn:(⟨byV (List.range 256)⟩:Array Value).size=256:=by simp
  refine Ld.xw h hn (StA.q (b:=b2) h z256 hn byV_scalar fun w h=>Ld.xw h hn (hK _ h.tl))
theorem rvalid13_c {L:List Nat} {K:Bool→World→Prop} (h:Hp E w F) (hL:All256 L) (hK: ∀w',Hp E w' F→K true w'):Cl Tryz.prog [kB] n_ref13_Valid ⟨[.agg ⟨byV L⟩]⟩ w K:=by
 refine ref13_Valid.ok _ _ _ ?_
 unfold ref13_Valid.E
 have hl:=hL.len
 refine Nw.mk h fun b3 w h=> ?_
 refine ⟨fun i w=> ∃k:Nat,i=(k:Int)∧k≤256∧Hp E w (bL b3 L::F),fun i _=>256 - i.toNat,⟨0,rfl,by omega,h⟩,?_⟩
 rintro i w ⟨k,rfl,hk,h⟩
 refine IfB.dm (fun hlt=> ?_) (fun hge=>hK _ h.tl)
 refine ⟨fun i w=> ∃j:Nat,i=(j:Int)∧j≤k∧Hp E w (bL b3 L::F),fun i _=>k - i.toNat,⟨0,rfl,by omega,h⟩,?_⟩
 rintro i w ⟨j,rfl,hj,h⟩
 have hkl:k<L.length:=by omega
 have hjl:j<L.length:=by omega
 refine IfB.dm (fun hlt2=> ?_) (fun hge2=> ?_)
 ·refine Drw.mk h fun w h=>⟨by omega,by omega,?_⟩
  rw [show ((j:Int)).toNat*1=j by omega]
  (try simp only [Join_eq,NilCk_some,add_mk,Nat.zero_add,Nat.add_zero,Nat.reduceAdd,Bool.not_true,Bool.not_false,IfB_t,IfB_f,Option.isNone])
  refine Ld.xb (x:=(L[j]:Int)) h (byV_get hjl) ⟨by omega,by omega,?_⟩
  rw [show ((k:Int)).toNat*1=k by omega]
  (try simp only [Join_eq,NilCk_some,add_mk,Nat.zero_add,Nat.add_zero,Nat.reduceAdd,Bool.not_true,Bool.not_false,IfB_t,IfB_f,Option.isNone])
  refine Ld.xb (x:=(L[k]:Int)) h (byV_get hkl) ?_
  have hne:L[j]≠L[k]:=fun e=>by
   have h1:=hL.idx_at (p:=j) (by omega)
   have h2:=hL.idx_at (p:=k) (by omega)
   rw [getD_get hjl,e] at h1
   rw [getD_get hkl] at h2
   omega
  refine IfB.ef (by omega) ?_
  rw [i64_id (by omega)]
  exact ⟨⟨j+1,rfl,by omega,h⟩,by first|omega|(dsimp only;omega)⟩
 ·rw [i64_id (by omega)]
  exact ⟨⟨k+1,rfl,by omega,h⟩,by first|omega|(dsimp only;omega)⟩
def shf (L:List Nat) (p i:Nat):List Nat:=L.take (i+1)++((L.take p).drop i++L.drop (p+1))
theorem shf_top {L:List Nat} {p:Nat} (hp:p<L.length):shf L p p=L:=by
 unfold shf
 rw [List.drop_of_length_le (by simp;omega),List.nil_append,List.take_append_drop]
theorem shf_len {L:List Nat} {p i:Nat} (hp:p<L.length) (hi:i≤p):(shf L p i).length=L.length:=by
 unfold shf
 simp;omega
theorem shf_get {L:List Nat} {p i j:Nat} (hi:i≤p) (hj:j≤i) (hp:p<L.length):(shf L p i)[j]? =L[j]? :=by
 unfold shf
 rw [List.getElem?_append_left (by simp;omega),List.getElem?_take_of_lt (by omega)]
theorem shf_step {L:List Nat} {p i:Nat} (hp:p<L.length) (hi:i+1≤p):(shf L p (i+1)).set (i+1) (L[i]'(by omega))=shf L p i:=by
 have h1:L.take (i+1+1)=L.take (i+1)++ [L[i+1]'(by omega)]:=by rw [List.take_add_one,List.getElem?_eq_getElem (by omega)];rfl
 have hl:(L.take (i+1)).length=i+1:=by rw [List.length_take];omega
 have h2:(L.take p).drop i=L[i]'(by omega)::(L.take p).drop (i+1):=by
  rw [List.drop_eq_getElem_cons (by simp;omega),List.getElem_take]
 unfold shf
 rw [h1,h2,List.append_assoc,List.set_append_right _ _ (by omega),hl,Nat.sub_self]
 simp
theorem shf_end {L:List Nat} {p:Nat} (hp:p<L.length):(shf L p 0).set 0 (L.getD p 0)=mtake L p:=by
 unfold shf mtake
 rw [List.drop_zero,List.eraseIdx_eq_take_drop_succ]
 cases L with
 |nil=>simp at hp
 |cons a L=>simp
theorem rtake13_c {L:List Nat} {p:Nat} {K:Array Value→Int→Bool→World→Prop} (h:Hp E w F) (hl:L.length=256) (hp:p<256) (hK: ∀w',Hp E w' F→K ⟨byV (mtake L p)⟩ (L.getD p 0:Int) true w'):
  Cl Tryz.prog [.arr 256,kInt .u8,kB] n_ref13_Take ⟨[.agg ⟨byV L⟩,.int .i64 (p:Int)]⟩ w K:=by
 refine ref13_Take.ok _ _ _ _ ?_
 unfold ref13_Take.E
 have hpl:p<L.length:=by omega
 refine Nw.mk h fun b4 w h=>Nw.mk h fun b6 w h=>IfB.df (by omega) (IfB.df (by omega) ⟨by omega,by omega,?_⟩)
 rw [show ((p:Int)).toNat*1=p by omega]
 (try simp only [Join_eq,NilCk_some,add_mk,Nat.zero_add,Nat.add_zero,Nat.reduceAdd,Bool.not_true,Bool.not_false,IfB_t,IfB_f,Option.isNone])
 have hgp:L.getD p 0=L[p]:=getD_get hpl
 refine Ld.xb (x:=(L.getD p 0:Int)) h (by rw [hgp];exact byV_get hpl) ?_
 refine ⟨fun i w=> ∃k:Nat,i=(k:Int)∧k≤p∧Hp E w (Blk b6 (.cells ⟨List.replicate 256 (.int .u8 0)⟩ 108 (0,0))::bL b4 (shf L p k)::F),fun i _=>i.toNat,⟨p,rfl,by omega,by rw [shf_top hpl];exact h⟩,?_⟩
 rintro i w ⟨k,rfl,hk,h⟩
 have hsl:=shf_len hpl hk
 refine IfB.dm (fun hlt=> ?_) (fun hge=> ?_)
 ·obtain ⟨j,rfl⟩: ∃j,k=j+1:=⟨k - 1,by omega⟩
  rw [i64_id (by omega)]
  refine ⟨by omega,by omega,?_⟩
  rw [show (((j+1:Nat):Int) - 1).toNat*1=j by omega]
  (try simp only [Join_eq,NilCk_some,add_mk,Nat.zero_add,Nat.add_zero,Nat.reduceAdd,Bool.not_true,Bool.not_false,IfB_t,IfB_f,Option.isNone])
  have hg:=shf_get (L:=L) (p:=p) (i:=j+1) (j:=j) hk (by omega) hpl
  refine Ld.xb (x:=(L[j]:Int)) h ?_ ⟨by omega,by omega,?_⟩
  ·show (byV (shf L p (j+1)))[j]? =_
   unfold byV
   rw [List.getElem?_map,hg,List.getElem?_eq_getElem (by omega)];rfl
  rw [show (((j+1:Nat):Int)).toNat*1=j+1 by omega]
  (try simp only [Join_eq,NilCk_some,add_mk,Nat.zero_add,Nat.add_zero,Nat.reduceAdd,Bool.not_true,Bool.not_false,IfB_t,IfB_f,Option.isNone])
  refine St.xb (b:=b4) h (by simp;omega) rfl fun w h=> ?_
  rw [byV_set,shf_step hpl hk] at h
  exact ⟨⟨j,by omega,by omega,h⟩,by first|omega|(dsimp only;omega)⟩
 ·have hk0:k=0:=by omega
  subst hk0
  refine ⟨by decide,by decide,?_⟩
  (try simp only [Join_eq,NilCk_some,add_mk,Nat.zero_add,Nat.add_zero,Nat.reduceAdd,Bool.not_true,Bool.not_false,IfB_t,IfB_f,Option.isNone])
  refine St.xb (b:=b4) h (by simp;omega) rfl fun w h=> ?_
  have h:Hp E w (Blk b6 (.cells ⟨List.replicate 256 (.int .u8 0)⟩ 108 (0,0))::Blk b4 (.cells ((⟨byV (shf L p 0)⟩:Array Value).setIfInBounds 0 (.int .u8 (L.getD p 0:Int))) 108 (0,0))::F):=h
  rw [byV_set,shf_end hpl] at h
  have hm:(⟨byV (mtake L p)⟩:Array Value).size=256:=byA (by rw [(mtake_perm hpl).length_eq,hl])
  refine Ld.xw h hm (StA.q (b:=b6) h z256 hm byV_scalar fun w h=>Ld.xw h hm (hK _ h.tl))
theorem rput13_c {L:List Nat} {c:Nat} {K:Array Value→Int→World→Prop} (h:Hp E w F) (hL:All256 L) (hc:c<256) (hK: ∀w',Hp E w' F→K ⟨byV (mtake L (L.idxOf c))⟩ (L.idxOf c:Int) w'):
  Cl Tryz.prog [.arr 256,kI] n_ref13_Put ⟨[.agg ⟨byV L⟩,.int .u8 (c:Int)]⟩ w K:=by
 refine ref13_Put.ok _ _ _ _ ?_
 unfold ref13_Put.E
 have hl:=hL.len
 have hi:=hL.idx hc
 have hn:=byA hl
 have hm:=byA (hL.take hi.1).len
 refine Nw.mk h fun b4 w h=>Nw.mk h fun b6 w h=> ?_
 refine ⟨fun i w=> ∃k:Nat,i=(k:Int)∧k≤L.idxOf c∧Hp E w (Blk b6 (.cells ⟨List.replicate 256 (.int .u8 0)⟩ 108 (0,0))::bL b4 L::F),fun i _=>256 - i.toNat,⟨0,rfl,by omega,h⟩,?_⟩
 rintro i w ⟨k,rfl,hk,h⟩
 have hkl:k<L.length:=by omega
 refine IfB.dt (by omega) ⟨by omega,by omega,?_⟩
 rw [show ((k:Int)).toNat*1=k by omega]
 (try simp only [Join_eq,NilCk_some,add_mk,Nat.zero_add,Nat.add_zero,Nat.reduceAdd,Bool.not_true,Bool.not_false,IfB_t,IfB_f,Option.isNone])
 refine Ld.xb (b:=b4) (x:=(L[k]:Int)) h (byV_get hkl) ?_
 have hat:=hL.idx_at (p:=k) (by omega)
 rw [getD_get hkl] at hat
 by_cases he:L[k]=c
 ·rw [he] at hat
  subst hat
  refine IfB.et (by omega) (Ld.xw (b:=b4) h hn (rtake13_c h hl hi.1 fun w h=>Nw.mk h fun b19 w h=> ?_))
  refine StA.q h z256 hm byV_scalar fun w h=>Ld.xw h hm (StA.q (b:=b6) h z256 hm byV_scalar fun w h=>Ld.xw h hm (hK _ h.tl))
 ·refine IfB.ef (by omega) ?_
  rw [i64_id (by omega)]
  have hne:k≠L.idxOf c:=fun e=>by
   have h2:=hi.2
   rw [←e,getD_get hkl] at h2
   exact he h2
  exact ⟨⟨k+1,rfl,by omega,h⟩,by first|omega|(dsimp only;omega)⟩
theorem rrun_c {n:Nat} {K:Sl→World→Prop} (h:Hp E w F) (hn:n≤1000000) (hK: ∀s w',Hp E w' (OI s (dig n)::F)→K s w'):Cl Tryz.prog [kS] n_ref15_Run ⟨[.int .i64 (n:Int)]⟩ w K:=by
 refine ref15_Run.ok _ _ _ ?_
 unfold ref15_Run.E
 have hl:=dig_le n
 refine ⟨fun m o w=> ∃(q:Nat) (l:List Nat),m=(q:Int)∧q≤2147483647∧dig n=l++dig q∧Hp E w (OI o l::F),fun m _ _=>m.toNat,⟨n,[],rfl,by omega,rfl,h.ownNil 1⟩,?_⟩
 rintro m o w ⟨q,l,rfl,hq,hd,h⟩
 have hll:l.length≤1000000:=by rw [hd,List.length_append] at hl;omega
 refine IfB.dm (fun hpos=> ?_) (fun hz=> ?_)
 ·have hq0:0<q:=by omega
  rw [dig_pos hq0] at hd
  rw [show (2:Int)=((2:Nat):Int) from rfl,tmod2]
  refine ⟨by decide,?_⟩
  refine IfB.em (fun h1=> ?_) (fun h1=> ?_)
  ·refine Nw.mk h fun b w h=>put1I (x:=0) h (by omega) fun s' w h=>⟨by decide,?_⟩
   rw [i64_id (x:=(q:Int) - 1) (by omega),show (q:Int) - 1=((q - 1:Nat):Int) by omega,tdiv2,i64_id (by omega)]
   refine ⟨⟨(q - 1)/2,l++ [0],rfl,by omega,?_,h⟩,by first|omega|(dsimp only;omega)⟩
   rw [hd,show (q - 1) % 2=0 by omega];simp
  ·refine Nw.mk h fun b w h=>put1I (x:=1) h (by omega) fun s' w h=>⟨by decide,?_⟩
   rw [show ((2:Nat):Int)=2 from rfl,i64_id (x:=(q:Int) - 2) (by omega),show (q:Int) - 2=((q - 2:Nat):Int) by omega,show (2:Int)=((2:Nat):Int) from rfl,tdiv2,i64_id (by omega)]
   refine ⟨⟨(q - 2)/2,l++ [1],rfl,by omega,?_,h⟩,by first|omega|(dsimp only;omega)⟩
   rw [hd,show (q - 1) % 2=1 by omega,show (q - 1)/2=(q - 2)/2 by omega];simp
 ·have hq0:q=0:=by omega
  subst hq0
  rw [dig_zero,List.append_nil] at hd
  rw [hd] at hK
  exact hK _ _ h
theorem rsnew_c {K:Array Value→World→Prop} (h:Hp E w F) (hK: ∀w',Hp E w' F→K (esA (List.range 256) 0) w'):Cl Tryz.prog [.arr 257] n_ref15_New ⟨[]⟩ w K:=by
 refine ref15_New.ok _ _ ?_
 unfold ref15_New.E
 refine Nw.mk h fun b2 w h=>rnew13_c h fun w h=>Bld.es (by simp) ?_
 have hd:(esA (List.range 256) 0).size=257:=esA_size (by simp)
 refine StA.q h es_z hd esA_scalar fun w h=> ?_
 exact Ld.xw h hd (hK _ h.tl)
theorem rsvalid_c {L:List Nat} {r:Nat} {K:Bool→World→Prop} (h:Hp E w F) (hL:All256 L) (hr:r≤2147483647) (hK: ∀w',Hp E w' F→K true w'):Cl Tryz.prog [kB] n_ref15_Valid ⟨[.agg (esA L (r:Int))]⟩ w K:=by
 refine ref15_Valid.ok _ _ _ ?_
 unfold ref15_Valid.E
 have hLb:=byV_len hL.len
 (try simp only [Join_eq,NilCk_some,add_mk,Nat.zero_add,Nat.add_zero,Nat.reduceAdd,Bool.not_true,Bool.not_false,IfB_t,IfB_f,Option.isNone])
 refine Nw.mk h fun b3 w h=>Ld.p h hLb (rvalid13_c h hL fun w h=> ?_)
 refine IfB.t rfl (Ld.q h hLb rfl rfl (IfB.dt (by omega) (Ld.q h hLb rfl rfl ?_)))
 rw [show decide ((r:Int)≤2147483647)=true from decide_eq_true (by omega)]
 exact hK _ h.tl
theorem rsend_c {L:List Nat} {r:Nat} {K:Sl→Int→World→Prop} (h:Hp E w F) (hL:All256 L) (hr:r≤1000000) (hK: ∀s' w',Hp E w' (OI s' (dig r++ [257])::F)→K s' 0 w'):Cl Tryz.prog [kS,kI] n_ref15_End ⟨[.agg (esA L (r:Int))]⟩ w K:=by
 refine ref15_End.ok _ _ _ ?_
 unfold ref15_End.E
 have hLb:=byV_len hL.len
 have hdl:=dig_le r
 (try simp only [Join_eq,NilCk_some,add_mk,Nat.zero_add,Nat.add_zero,Nat.reduceAdd,Bool.not_true,Bool.not_false,IfB_t,IfB_f,Option.isNone])
 refine Nw.mk h fun b3 w h=>Ld.qw h hLb rfl (rsvalid_c h hL (by omega) fun w h=> ?_)
 with_reducible refine IfB.ntt ?_
 refine Ld.q h hLb rfl rfl (rrun_c h hr fun s1 w h=>Nw.mk h fun b12 w h=>put1I (x:=257) h (by omega) fun s w h=>hK s w ?_)
 exact h.keep1
theorem rsstep_c {L:List Nat} {r:Nat} {s:Sl} {b:List Nat} {K:Array Value→Sl→Int→World→Prop} (h:Hp E w F) (hL:All256 L) (hs:Tells F (SlT 1 s (b.map vB))) (hb: ∀x∈b,x<256) (hr:r+b.length≤1000000)
  (hK: ∀s' w',Hp E w' (OI s' (encS L r b).1::F)→All256 (encS L r b).2.1→(encS L r b).2.2≤1000000→K (esA (encS L r b).2.1 ((encS L r b).2.2:Int)) s' 0 w'):
  Cl Tryz.prog [.arr 257,kS,kI] n_ref15_Step ⟨[.agg (esA L (r:Int)),.slice s.base s.len s.cap]⟩ w K:=by
 refine ref15_Step.ok _ _ _ _ ?_
 unfold ref15_Step.E
 have hLb:=byV_len hL.len
 have hlen:=slLenB (h.tells hs)
 (try simp only [Join_eq,NilCk_some,add_mk,Nat.zero_add,Nat.add_zero,Nat.reduceAdd,Bool.not_true,Bool.not_false,IfB_t,IfB_f,Option.isNone])
 refine Nw.mk h fun b4 w h=>Nw.mk h fun b6 w h=> ?_
 refine Ld.qw h hLb rfl (rsvalid_c h hL (by omega) fun w h=> ?_)
 with_reducible refine IfB.ntt ?_
 refine Ld.q h hLb rfl rfl ?_
 rw [i64_id (by omega)]
 refine IfB.df (by omega) ?_
 refine ⟨fun o i w=> ∃(k:Nat) (L':List Nat) (r':Nat) (out:List Nat),i=(k:Int)∧k≤b.length∧All256 L'∧out.length+r'≤r+k∧
  encS L r b=(out++(encS L' r' (b.drop k)).1,(encS L' r' (b.drop k)).2)∧
  Hp E w (OI o out::Blk b6 (.cells esZ 110 (0,0))::Blk b4 (.cells (esA L' (r':Int)) 110 (0,0))::F),
  fun _ i _=>b.length - i.toNat,⟨0,L,r,[],rfl,by omega,hL,by simp,by simp,h.ownNil 1⟩,?_⟩
 rintro o i w ⟨k,L',r',out,rfl,hk,hL',hlo,he,h⟩
 have hLb':=byV_len hL'.len
 refine IfB.dm (fun hlt=> ?_) (fun hge=> ?_)
 ·have hlt:k<b.length:=by omega
  have hc:=hb _ (List.getElem_mem hlt)
  have hi:=hL'.idx hc
  have hm:=byA (hL'.take hi.1).len
  have hLm:=hL'.take hi.1
  have hLbm:=byV_len hLm.len
  have hdl:=dig_le r'
  rw [List.drop_eq_getElem_cons hlt] at he
  have rest: ∀(b33:Nat) (w:World) (G:Sl→Int→World→Prop),(∀o' k' w',k'=((k+1:Nat):Int)→(∃(L':List Nat) (r':Nat) (out:List Nat),All256 L'∧out.length+r'≤r+(k+1)∧encS L r b=(out++(encS L' r' (b.drop (k+1))).1,(encS L' r' (b.drop (k+1))).2)∧
    Hp E w' (OI o' out::Blk b6 (.cells esZ 110 (0,0))::Blk b4 (.cells (esA L' (r':Int)) 110 (0,0))::F))→G o' k' w')→
    Hp E w (Blk b33 (.cells ⟨byV (mtake L' (L'.idxOf b[k]))⟩ 108 (0,0))::OI o out::Blk b6 (.cells esZ 110 (0,0))::Blk b4 (.cells (esA L' (r':Int)) 110 (0,0))::F)→
    Ld (.arr 256) ⟨b33,0,none⟩ w fun x35=>StA 256 ⟨b4,0,none⟩ x35 w fun w_36=>
     IfB ((L'.idxOf b[k]:Int)==0)
      (Ld kI ⟨b4,256,none⟩ w_36 fun Run37=>St ⟨b4,256,none⟩ (.int .i64 (i64 (Run37+1))) w_36 fun w_38=>G o (i64 ((k:Int)+1)) w_38)
      (Ld kI ⟨b4,256,none⟩ w_36 fun Run39=>Cl Tryz.prog [kS] n_ref15_Run ⟨[.int .i64 Run39]⟩ w_36 fun r41 w_40=>
       Run Tryz.prog (Builtin.append_ #[33,33] 33 ⟨[.slice o.base o.len o.cap,.slice r41.base r41.len r41.cap]⟩) kS w_40 fun s43 w_42=>
       Nw 3 ⟨[.int .i64 (i64 ((L'.idxOf b[k]:Int)+1))]⟩ w_42 fun b45 w_44=>
       Run Tryz.prog (Builtin.append_ #[33,33] 33 ⟨[.slice s43.base s43.len s43.cap,.slice (some ⟨b45,0,none⟩) 1 1]⟩) kS w_44 fun s47 w_46=>
       St ⟨b4,256,none⟩ (.int .i64 0) w_46 fun w_48=>G s47 (i64 ((k:Int)+1)) w_48):=by
   intro b33 w G hG h
   rw [i64_id (x:=(k:Int)+1) (by omega)]
   refine Ld.xw h hm ?_
   refine StA.xm (b:=b4) (pre:= []) (mid:=byV L') (post:= [.int .i64 (r':Int)]) h rfl rfl hLb' hm (fun v hv=>List.all_eq_true.1 byV_scalar v hv) fun w h=> ?_
   have h:Hp E w (Blk b33 (.cells ⟨byV (mtake L' (L'.idxOf b[k]))⟩ 108 (0,0))::OI o out::Blk b6 (.cells esZ 110 (0,0))::Blk b4 (.cells (esA (mtake L' (L'.idxOf b[k])) (r':Int)) 110 (0,0))::F):=h
   have h:=h.no 0
   by_cases h0:L'.idxOf b[k]=0
   ·rw [encS,if_pos h0] at he
    rw [h0] at h hLm hLbm⊢
    refine IfB.et rfl (Ld.q h hLbm rfl rfl ?_)
    rw [i64_id (by omega)]
    refine St.q h hLbm rfl rfl rfl fun w h=> ?_
    dsimp only [spl,over] at h
    rw [show (r':Int)+1=((r'+1:Nat):Int) by omega] at h
    exact hG _ _ _ (by omega) ⟨_,r'+1,out,hLm,by omega,he,h⟩
   ·rw [encS,if_neg h0] at he
    refine IfB.ef (by omega) (Ld.q h hLbm rfl rfl (rrun_c h (by omega) fun s1 w h=> ?_))
    refine catI (h.at 1) Tells.own (by omega) (by omega) fun s2 w h=>Nw.mk (h.no 1) fun b40 w h=> ?_
    rw [i64_id (by omega),show (L'.idxOf b[k]:Int)+1=((L'.idxOf b[k]+1:Nat):Int) by omega] at h
    refine put1I h (by rw [List.length_append];omega) fun s3 w h=> ?_
    refine St.q (b:=b4) h hLbm rfl rfl rfl fun w h=> ?_
    dsimp only [spl,over] at h
    refine hG _ _ _ (by omega) ⟨_,0,out++dig r'++ [L'.idxOf b[k]+1],hLm,?_,?_,h⟩
    ·rw [List.length_append,List.length_append,List.length_singleton];omega
    ·rw [he];simp
  have hG: ∀o' k' w',k'=((k+1:Nat):Int)→(∃(L':List Nat) (r':Nat) (out:List Nat),All256 L'∧out.length+r'≤r+(k+1)∧encS L r b=(out++(encS L' r' (b.drop (k+1))).1,(encS L' r' (b.drop (k+1))).2)∧
    Hp E w' (OI o' out::Blk b6 (.cells esZ 110 (0,0))::Blk b4 (.cells (esA L' (r':Int)) 110 (0,0))::F))→
    (∃(k:Nat) (L':List Nat) (r':Nat) (out:List Nat),k'=(k:Int)∧k≤b.length∧All256 L'∧out.length+r'≤r+k∧encS L r b=(out++(encS L' r' (b.drop k)).1,(encS L' r' (b.drop k)).2)∧
    Hp E w' (OI o' out::Blk b6 (.cells esZ 110 (0,0))::Blk b4 (.cells (esA L' (r':Int)) 110 (0,0))::F))∧b.length - k'.toNat<b.length - ((k:Int)).toNat:=by
   rintro o' k' w' rfl ⟨L2,r2,out2,h1,h2,h3,h4⟩
   exact ⟨⟨k+1,L2,r2,out2,rfl,by omega,h1,h2,h3,h4⟩,by omega⟩
  have h:=h.drew (n:=w.drawn+1)
  have hSl: ∀{w:World} {l:List HP} [TailOf l F],Hp E w l→SlT 1 s (b.map vB) w:=fun h=>(h.tl:Hp E _ F).tells hs
  refine ⟨fun w=>HoldB b4 (esA L' (r':Int)) 110 (0,0) w∧SlT 1 s (b.map vB) w,⟨h.hb,hSl h⟩,?_⟩
  refine LdS.p (fun _ h=>h.1) hLb' ?_
  refine Idx.ldP (sc:= .int .u8) (hSl h) (fun _ h=>h.2) rfl (by rw [List.length_map];exact hlt) (b[k]:Int) (by simp [Sc.enc,vB,hlt]) ⟨?_,?_⟩
  ·refine rput13_c h hL' hc fun w h=>⟨⟨h.hb,hSl h⟩,Nw.mk h fun b33 w h=>⟨⟨h.hb,hSl h⟩,?_⟩⟩
   refine StA.q h z256 hm byV_scalar fun w h=>⟨⟨h.hb,hSl h⟩,?_⟩
   exact rest b33 w _ hG h
  ·refine Nw.mk h fun b33 w h=>⟨⟨h.hb,hSl h⟩,rput13_c h hL' hc fun w h=>⟨⟨h.hb,hSl h⟩,?_⟩⟩
   refine StA.q h z256 hm byV_scalar fun w h=>⟨⟨h.hb,hSl h⟩,?_⟩
   exact rest b33 w _ hG h
 ·have hk2:k=b.length:=by omega
  subst hk2
  rw [List.drop_of_length_le (Nat.le_refl _),encS,List.append_nil] at he
  rw [he] at hK
  dsimp only at hK
  refine Ld.qw h hLb' rfl ?_
  refine StA.q h es_z (esA_size hL'.len) esA_scalar fun w h=>Ld.xw h (esA_size hL'.len) (hK o w h.keep1 hL' (by omega))
theorem encS_len: ∀(b L:List Nat) (r:Nat),(encS L r b).1.length+(encS L r b).2.2≤r+b.length
 | [],L,r=>by simp [encS]
 |c::b,L,r=>by
  rw [encS]
  split
  ·have:=encS_len b (mtake L 0) (r+1)
   simp only [List.length_cons];omega
  ·have:=encS_len b (mtake L (L.idxOf c)) 0
   have:=dig_le r
   simp only [List.length_append,List.length_cons];omega
theorem rsall_c {s:Sl} {b:List Nat} {K:Sl→World→Prop} (h:Hp E w F) (hs:Tells F (SlT 1 s (b.map vB))) (hb: ∀x∈b,x<256) (hr:b.length≤1000000) (hK: ∀s' w',Hp E w' (OI s' (syms b)::F)→K s' w'):
  Cl Tryz.prog [kS] n_ref15_All ⟨[.slice s.base s.len s.cap]⟩ w K:=by
 refine ref15_All.ok _ _ _ ?_
 unfold ref15_All.E
 refine rsnew_c h fun w h=>rsstep_c (r:=0) h All256.range hs hb (by rw [Nat.zero_add];exact hr) fun s1 w h hL2 hr2=>Nw.mk h fun b9 w h=> ?_
 refine StA.q h es_z (esA_size hL2.len) esA_scalar fun w h=>Ld.xw h (esA_size hL2.len) ?_
 have e0:=encS_len b (List.range 256) 0
 have hdl:=dig_le (encS (List.range 256) 0 b).2.2
 refine rsend_c h hL2 hr2 fun s2 w h=> ?_
 refine catI (h.at 2) Tells.own (by omega) (by rw [List.length_append,List.length_singleton];omega) fun s3 w h=>hK s3 w ?_
 rw [show syms b=(encS (List.range 256) 0 b).1++(dig (encS (List.range 256) 0 b).2.2++ [257]) by unfold syms symsFrom;simp]
 exact h.keep1
end
end Go.Proofs.YtcdpblipagajiaaGreat
namespace Go.Proofs.YtcdpblipagajiaaGreat
open Go Go.Vc
def ref10_Of.E (l1:(Array Value)) (R:Sl→Int→World→Prop) (w:World):Prop:=
 Nw 36 l1 w fun (b3:Nat) (w_2:World)=>
 Ld (.arr 258) (⟨b3,0,none⟩:Addr) w_2 fun (x4:(Array Value))=>
 Cl Tryz.prog [kB] n_ref08_Table ⟨[(.agg x4)]⟩ w_2 fun (r6:Bool) (w_5:World)=>
 IfB (!r6)
 (R ((⟨none,0,0⟩:Sl)) (2) w_5)
 (Ld (.arr 258) (⟨b3,0,none⟩:Addr) w_5 fun (x7:(Array Value))=>
 IdxP (⟨b3,0,none⟩:Addr) 258 0 1 fun (q8:Addr)=>
 Ld (kInt .u8) q8 w_5 fun (x9:Int)=>
 Cl Tryz.prog [kS] n_ref10_Bits ⟨[(.agg x7),(.int .i64 (i64 x9))]⟩ w_5 fun (r11:Sl) (w_10:World)=>
 R (r11) (0) w_10)
theorem ref10_Of.ok (l1:(Array Value)) (R:Sl→Int→World→Prop) (w:World) (h:ref10_Of.E l1 R w):Cl Tryz.prog [kS,kI] n_ref10_Of ⟨[(.agg l1)]⟩ w R:=
 calls_of_eq Tryz.mix Tryz.f24 [(.agg l1)] [kS,kI] R 12 [.tmp 2,.tmp 3] (by kernel_rfl) (by kernel_rfl) (by kernel_rfl) (by kernel_rfl) (by kernel_rfl)
  (.s .o (.s (.s .o (.c (.s .o .o) .o)) (.s .o .o)))
  (by kernel_rfl) h
set_option maxRecDepth 100000 in
def ref10_Bits.E (l1:(Array Value)) (first_2:Int) (R:Sl→World→Prop) (w:World):Prop:=
 Nw 36 l1 w fun (b4:Nat) (w_3:World)=>
 (8:Int)≠0∧
 (2:Int)≠0∧
 (4:Int)≠0∧
 (2:Int)≠0∧
 (2:Int)≠0∧
 (2:Int)≠0∧
 (2:Int)≠0∧
 Nw 3 ⟨[(.int .i64 (Int.tmod ((i64 (Int.tdiv (first_2:Int) (8:Int))):Int) (2:Int))),(.int .i64 (Int.tmod ((i64 (Int.tdiv (first_2:Int) (4:Int))):Int) (2:Int))),(.int .i64 (Int.tmod ((i64 (Int.tdiv (first_2:Int) (2:Int))):Int) (2:Int))),(.int .i64 (Int.tmod (first_2:Int) (2:Int)))]⟩ w_3 fun (b6:Nat) (w_5:World)=>
 ∃(I_7:Int→Sl→Int→World→Prop) (m_8:Int→Sl→Int→World→Nat),I_7 (first_2) ((⟨some ⟨b6,0,none⟩,4,4⟩:Sl)) (0) w_5∧
 ∀(first_9:Int) (out10:Sl) (s11:Int),∀(w_12:World),I_7 first_9 out10 s11 w_12→
 IfB (decide ((s11:Int)<(258:Int)))
 (IdxP (⟨b4,0,none⟩:Addr) 258 s11 1 fun (q13:Addr)=>
 Ld (kInt .u8) q13 w_12 fun (x14:Int)=>
 Cl Tryz.prog [kS] n_ref10_put ⟨[(.int .i64 first_9),(.int .i64 (i64 x14))]⟩ w_12 fun (r16:Sl) (w_15:World)=>
 Run Tryz.prog (Builtin.append_ #[33,33] 33 ⟨[(.slice out10.base out10.len out10.cap),(.slice r16.base r16.len r16.cap)]⟩) kS w_15 fun (s18:Sl) (w_17:World)=>
 IdxP (⟨b4,0,none⟩:Addr) 258 s11 1 fun (q19:Addr)=>
 Ld (kInt .u8) q19 w_17 fun (x20:Int)=>
 I_7 ((i64 x20)) (s18) ((i64 ((s11:Int)+(1:Int)))) w_17∧m_8 ((i64 x20)) (s18) ((i64 ((s11:Int)+(1:Int)))) w_17<m_8 first_9 out10 s11 w_12)
 (R (out10) w_12)
set_option maxRecDepth 100000 in
theorem ref10_Bits.ok (l1:(Array Value)) (first_2:Int) (R:Sl→World→Prop) (w:World) (h:ref10_Bits.E l1 first_2 R w):Cl Tryz.prog [kS] n_ref10_Bits ⟨[(.agg l1),(.int .i64 first_2)]⟩ w R:=
 calls_of_eq Tryz.mix Tryz.f69 [(.agg l1),(.int .i64 first_2)] [kS] R 36 [.tmp 4] (by kernel_rfl) (by kernel_rfl) (by kernel_rfl) (by kernel_rfl) (by kernel_rfl)
  (.s .o (.s .o (.s (.s .o (.b (.l [(1,kI),(5,kS),(6,kI)] (.s (.s .o (.c .o .o)) (.s (.b (.s .o .o)) .o))))) (.s .o .o))))
  (by kernel_rfl) h
set_option maxRecDepth 100000 in
def ref10_put.E (was1:Int) (now2:Int) (R:Sl→World→Prop) (w:World):Prop:=
 ∃(I_3:Int→Sl→World→Prop) (m_4:Int→Sl→World→Nat),I_3 (was1) ((⟨none,0,0⟩:Sl)) w∧
 ∀(was5:Int) (out6:Sl),∀(w_7:World),I_3 was5 out6 w_7→
 IfB (decide ((was5:Int)<(now2:Int)))
 (Nw 3 ⟨[(.int .i64 1),(.int .i64 0)]⟩ w_7 fun (b9:Nat) (w_8:World)=>
 Run Tryz.prog (Builtin.append_ #[33,33] 33 ⟨[(.slice out6.base out6.len out6.cap),(.slice (⟨some ⟨b9,0,none⟩,2,2⟩:Sl).base (⟨some ⟨b9,0,none⟩,2,2⟩:Sl).len (⟨some ⟨b9,0,none⟩,2,2⟩:Sl).cap)]⟩) kS w_8 fun (s11:Sl) (w_10:World)=>
 I_3 ((i64 ((was5:Int)+(1:Int)))) (s11) w_10∧m_4 ((i64 ((was5:Int)+(1:Int)))) (s11) w_10<m_4 was5 out6 w_7)
 (∃(I_12:Int→Sl→World→Prop) (m_13:Int→Sl→World→Nat),I_12 (was5) (out6) w_7∧
 ∀(was14:Int) (out15:Sl),∀(w_16:World),I_12 was14 out15 w_16→
 IfB (decide ((was14:Int)>(now2:Int)))
 (Nw 3 ⟨[(.int .i64 1),(.int .i64 1)]⟩ w_16 fun (b18:Nat) (w_17:World)=>
 Run Tryz.prog (Builtin.append_ #[33,33] 33 ⟨[(.slice out15.base out15.len out15.cap),(.slice (⟨some ⟨b18,0,none⟩,2,2⟩:Sl).base (⟨some ⟨b18,0,none⟩,2,2⟩:Sl).len (⟨some ⟨b18,0,none⟩,2,2⟩:Sl).cap)]⟩) kS w_17 fun (s20:Sl) (w_19:World)=>
 I_12 ((i64 ((was14:Int) - (1:Int)))) (s20) w_19∧m_13 ((i64 ((was14:Int) - (1:Int)))) (s20) w_19<m_13 was14 out15 w_16)
 (Nw 3 ⟨[(.int .i64 0)]⟩ w_16 fun (b22:Nat) (w_21:World)=>
 Run Tryz.prog (Builtin.append_ #[33,33] 33 ⟨[(.slice out15.base out15.len out15.cap),(.slice (⟨some ⟨b22,0,none⟩,1,1⟩:Sl).base (⟨some ⟨b22,0,none⟩,1,1⟩:Sl).len (⟨some ⟨b22,0,none⟩,1,1⟩:Sl).cap)]⟩) kS w_21 fun (s24:Sl) (w_23:World)=>
 R (s24) w_23))
set_option maxRecDepth 100000 in
theorem ref10_put.ok (was1:Int) (now2:Int) (R:Sl→World→Prop) (w:World) (h:ref10_put.E was1 now2 R w):Cl Tryz.prog [kS] n_ref10_put ⟨[(.int .i64 was1),(.int .i64 now2)]⟩ w R:=
 calls_of_eq Tryz.mix Tryz.f119 [(.int .i64 was1),(.int .i64 now2)] [kS] R 25 [.tmp 4] (by kernel_rfl) (by kernel_rfl) (by kernel_rfl) (by kernel_rfl) (by kernel_rfl)
  (.s .o (.s .o (.s (.b (.l [(0,kI),(5,kS)] (.s (.s .o (.c .o .o)) (.b (.s .o .o))))) (.s (.b (.l [(0,kI),(5,kS)] (.s (.s .o (.c .o .o)) (.b (.s .o .o))))) (.s .o .o)))))
  (by kernel_rfl) h
end Go.Proofs.YtcdpblipagajiaaGreat
namespace Go.Proofs.YtcdpblipagajiaaGreat
open Go Go.Vc
def ref08_Table.E (l1:(Array Value)) (R:Bool→World→Prop) (w:World):Prop:=
 Nw 36 l1 w fun (b3:Nat) (w_2:World)=>
 Ld (.arr 258) (⟨b3,0,none⟩:Addr) w_2 fun (x4:(Array Value))=>
 Cl Tryz.prog [kI] n_ref08_Sum ⟨[(.agg x4)]⟩ w_2 fun (r6:Int) (w_5:World)=>
 IfB ((r6:Int)==(32768:Int))
 (IdxP (⟨b3,0,none⟩:Addr) 258 257 1 fun (q7:Addr)=>
 Ld (kInt .u8) q7 w_5 fun (x8:Int)=>
 R (((x8:Int) !=(0:Int))) w_5)
 (R (false) w_5)
theorem ref08_Table.ok (l1:(Array Value)) (R:Bool→World→Prop) (w:World) (h:ref08_Table.E l1 R w):Cl Tryz.prog [kB] n_ref08_Table ⟨[(.agg l1)]⟩ w R:=
 calls_of_eq Tryz.mix Tryz.f68 [(.agg l1)] [kB] R 11 [.tmp 2] (by kernel_rfl) (by kernel_rfl) (by kernel_rfl) (by kernel_rfl) (by kernel_rfl)
  (.s .o (.s .o .o))
  (by kernel_rfl) h
def ref08_Sum.E (l1:(Array Value)) (R:Int→World→Prop) (w:World):Prop:=
 Nw 36 l1 w fun (b3:Nat) (w_2:World)=>
 ∃(I_4:Int→Int→World→Prop) (m_5:Int→Int→World→Nat),I_4 (0) (0) w_2∧
 ∀(n6:Int) (s7:Int),∀(w_8:World),I_4 n6 s7 w_8→
 IfB (decide ((s7:Int)<(258:Int)))
 (IdxP (⟨b3,0,none⟩:Addr) 258 s7 1 fun (q9:Addr)=>
 Ld (kInt .u8) q9 w_8 fun (x10:Int)=>
 Cl Tryz.prog [kI] n_ref08_Share ⟨[(.int .u8 x10)]⟩ w_8 fun (r12:Int) (w_11:World)=>
 I_4 ((i64 ((n6:Int)+(r12:Int)))) ((i64 ((s7:Int)+(1:Int)))) w_11∧m_5 ((i64 ((n6:Int)+(r12:Int)))) ((i64 ((s7:Int)+(1:Int)))) w_11<m_5 n6 s7 w_8)
 (R (n6) w_8)
theorem ref08_Sum.ok (l1:(Array Value)) (R:Int→World→Prop) (w:World) (h:ref08_Sum.E l1 R w):Cl Tryz.prog [kI] n_ref08_Sum ⟨[(.agg l1)]⟩ w R:=
 calls_of_eq Tryz.mix Tryz.f118 [(.agg l1)] [kI] R 16 [.tmp 2] (by kernel_rfl) (by kernel_rfl) (by kernel_rfl) (by kernel_rfl) (by kernel_rfl)
  (.s .o (.s .o (.s (.s .o (.b (.l [(3,kI),(4,kI)] (.s (.s .o (.c .o .o)) (.s (.b .o) .o))))) (.s .o .o))))
  (by kernel_rfl) h
def ref08_Share.E (n1:Int) (R:Int→World→Prop) (w:World):Prop:=
 IfB ((n1:Int)==(0:Int))
 (R (0) w)
 (IfB (decide ((n1:Int)>(15:Int)))
 (R (32769) w)
 (∃(I_2:Int→Int→World→Prop) (m_3:Int→Int→World→Nat),I_2 (32768) (0) w∧
 ∀(v4:Int) (i5:Int),∀(w_6:World),I_2 v4 i5 w_6→
 IfB (decide ((i5:Int)<(n1:Int)))
 ((2:Int)≠0∧
 I_2 ((i64 (Int.tdiv (v4:Int) (2:Int)))) ((u8 ((i5:Int)+(1:Int)))) w_6∧m_3 ((i64 (Int.tdiv (v4:Int) (2:Int)))) ((u8 ((i5:Int)+(1:Int)))) w_6<m_3 v4 i5 w_6)
 (R (v4) w_6)))
theorem ref08_Share.ok (n1:Int) (R:Int→World→Prop) (w:World) (h:ref08_Share.E n1 R w):Cl Tryz.prog [kI] n_ref08_Share ⟨[(.int .u8 n1)]⟩ w R:=
 calls_of_eq Tryz.mix Tryz.f166 [(.int .u8 n1)] [kI] R 17 [.tmp 2] (by kernel_rfl) (by kernel_rfl) (by kernel_rfl) (by kernel_rfl) (by kernel_rfl)
  (.s .o (.s (.s .o (.c (.s .o .o) .o)) (.s (.s .o (.c (.s .o .o) .o)) (.s .o (.s (.s .o (.b (.l [(3,kI),(4,(kInt .u8))] (.s (.s .o (.c .o .o)) (.s (.b .o) .o))))) (.s .o .o))))))
  (by kernel_rfl) h
end Go.Proofs.YtcdpblipagajiaaGreat
set_option maxRecDepth 20000
namespace Go.Proofs.YtcdpblipagajiaaGreat
open Go Go.Vc Go.Srt
section
variable {E w:World} {F:List HP}
theorem rShare_c {n:Nat} {K:Int→World→Prop} (hn:n≤255) (hK:K (wt n:Int) w):Cl Tryz.prog [kI] n_ref08_Share ⟨[.int .u8 (n:Int)]⟩ w K:=by
 refine ref08_Share.ok _ _ _ ?_
 unfold ref08_Share.E
 unfold wt at hK
 refine IfB.mk (fun h=> ?_) (fun h=>IfB.mk (fun h2=> ?_) (fun h2=> ?_))
 ·have h:n=0:=by have:=of_decide_eq_true h;omega
  rw [if_pos h] at hK;exact hK
 ·have h:n≠0:=by have:=of_decide_eq_false h;omega
  have h2:n>15:=by have:=of_decide_eq_true h2;omega
  rw [if_neg h,if_pos h2] at hK;exact hK
 ·have h:n≠0:=by have:=of_decide_eq_false h;omega
  have h2: ¬n>15:=by have:=of_decide_eq_false h2;omega
  rw [if_neg h,if_neg h2] at hK
  refine ⟨fun v i w'=> ∃k v':Nat,i=(k:Int)∧k≤n∧v=(v':Int)∧v'=2^(15 - k)∧w'=w,fun _ i _=>15 - i.toNat,⟨0,32768,rfl,by omega,rfl,by decide,rfl⟩,?_⟩
  rintro v i w' ⟨k,v',rfl,hk,rfl,hv,rfl⟩
  refine IfB.mk (fun hlt=> ?_) (fun hge=> ?_)
  ·have hlt:k<n:=by have:=of_decide_eq_true hlt;omega
   have e:2^(15 - k)=2*2^(15 - (k+1)):=by rw [show 15 - k=(15 - (k+1))+1 by omega,Nat.pow_succ,Nat.mul_comm]
   have hb:2^(15 - (k+1))≤2^15:=Nat.pow_le_pow_right (by decide) (by omega)
   have hb2:(2:Nat)^15=32768:=by decide
   have e2:Int.tdiv (v':Int) 2=((2^(15 - (k+1)):Nat):Int):=by
    rw [Int.tdiv_eq_ediv_of_nonneg (by omega),hv,e];omega
   rw [e2,i64_id (by omega),u8_id (by omega)]
   exact ⟨by decide,⟨k+1,_,rfl,by omega,rfl,rfl,rfl⟩,by dsimp only;omega⟩
  ·have hge:k=n:=by have:=of_decide_eq_false hge;omega
   subst hge;rw [hv];exact hK
set_option maxRecDepth 20000 in
theorem rSum8_c {l:List Nat} {K:Int→World→Prop} (h:Hp E w F) (hl:l.length=258) (h8: ∀x∈l,x≤255) (hK: ∀w',Hp E w' F→K (ksum l:Int) w'):Cl Tryz.prog [kI] n_ref08_Sum ⟨[.agg (ai .u8 l)]⟩ w K:=by
 refine ref08_Sum.ok _ _ _ ?_
 unfold ref08_Sum.E
 have hb:=ksum_le l
 refine Nw.mk h fun b w1 h1=>⟨fun sm i w'=> ∃k:Nat,i=(k:Int)∧k≤258∧sm=(ksum (l.take k):Int)∧Hp E w' (Blk b (.cells (ai .u8 l) 36 (0,0))::F),fun _ i _=>258 - i.toNat,⟨0,rfl,by omega,by simp [ksum],h1⟩,?_⟩
 rintro sm i w' ⟨k,rfl,hk,rfl,hh⟩
 refine IfB.mk (fun hlt=> ?_) (fun hge=> ?_)
 ·have hlt:k<258:=by have:=of_decide_eq_true hlt;omega
  have hkl:k<l.length:=by omega
  refine IdxP.rd (s:= .int .u8) hh (by omega) (by omega) (l[k]:Int) (by rw [Int.toNat_natCast];exact ai_get hkl) (rShare_c (h8 _ (List.getElem_mem hkl)) ?_)
  have e:=ksum_succ hkl
  have:=ksum_take (l:=l) (k:=k+1)
  rw [i64_id (x:=(ksum (l.take k):Int)+(wt l[k]:Int)) (by omega),i64_id (by omega)]
  exact ⟨⟨k+1,rfl,by omega,by rw [e];rfl,hh⟩,by dsimp only;omega⟩
 ·have hge:k=258:=by have:=of_decide_eq_false hge;omega
  subst hge
  rw [←hl,List.take_length]
  exact hK _ hh.drop
theorem rTable_c {l:List Nat} {K:Bool→World→Prop} (h:Hp E w F) (hl:l.length=258) (h8: ∀x∈l,x≤255) (hK: ∀w',Hp E w' F→K (okT l) w'):Cl Tryz.prog [kB] n_ref08_Table ⟨[.agg (ai .u8 l)]⟩ w K:=by
 refine ref08_Table.ok _ _ _ ?_
 unfold ref08_Table.E
 refine Nw.mk h fun b w1 h1=>Ld.arr h1 (by rw [ai_size,hl]) (rSum8_c h1 hl h8 fun w2 h2=> ?_)
 have e:((ksum l:Int)==32768)=decide (ksum l=32768):=by rw [Bool.eq_iff_iff];simp;omega
 rw [e]
 refine IfB.mk (fun hv=> ?_) (fun hv=> ?_)
 ·refine IdxP.rd (s:= .int .u8) h2 (by decide) (by decide) (l.getD 257 0:Int) (getN (i:=257) (by omega)) ?_
  have:((l.getD 257 0:Int) !=0)=okT l:=by
   unfold okT;rw [hv,Bool.true_and,Bool.eq_iff_iff,bne_iff_ne,decide_eq_true_eq];omega
  rw [this]
  exact hK _ h2.drop
 ·have:false=okT l:=by unfold okT;rw [hv,Bool.false_and]
  rw [this]
  exact hK _ h2.drop
end
end Go.Proofs.YtcdpblipagajiaaGreat
namespace Go.Vc
end Go.Vc
namespace Go.Proofs.YtcdpblipagajiaaGreat
open Go Go.Vc Go.Srt Go.Inc Go.Tab Go.Bits
section
variable {E w:World} {F:List HP}
set_option maxRecDepth 20000
theorem put2I {s:Sl} {b x y:Nat} {t:TypeId} {xs:List Nat} {K:Sl→World→Prop} (h:Hp E w (Blk b (.cells ⟨[.int .i64 (x:Int),.int .i64 (y:Int)]⟩ t (0,0))::OI s xs::F)) (hl:xs.length≤10000000000) (hK: ∀s' w',Hp E w' (OI s' (xs++ [x,y])::F)→K s' w'):
  Run Tryz.prog (Builtin.append_ #[33,33] 33 ⟨[.slice s.base s.len s.cap,.slice (some ⟨b,0,none⟩) 2 2]⟩) kS w K:=by
 have hol:=OI.len (h.at 1)
 refine run_append (ys:= [vI (x:Int),vI (y:Int)]) (n:=2) ty_ints (by decide) (.inl ⟨3,by kernel_rfl⟩) (h.at 1) (.inl ⟨some ⟨b,0,none⟩,2,2,rfl,rfl,h.tells (Tells.blk rfl rfl)⟩) rfl (by
  intro z hz
  simp only [List.mem_cons,List.not_mem_nil,or_false] at hz
  rcases hz with rfl|rfl<;>rfl) (by omega) (by omega) fun s' w' h _=>hK s' w' ?_
 unfold OI
 rw [intsV_app]
 exact h.keep1
theorem rput10_c {was now:Nat} {K:Sl→World→Prop} (h:Hp E w F) (h1:was≤255) (h2:now≤255) (hK: ∀s w',Hp E w' (OI s (chg was now)::F)→K s w'):Cl Tryz.prog [kS] n_ref10_put ⟨[.int .i64 (was:Int),.int .i64 (now:Int)]⟩ w K:=by
 refine ref10_put.ok _ _ _ _ ?_
 unfold ref10_put.E
 refine ⟨fun m o w=> ∃(q:Nat) (l:List Nat),m=(q:Int)∧q≤255∧l.length≤2*(q+was)∧chg was now=l++chg q now∧Hp E w (OI o l::F),fun m _ _=>255 - m.toNat,⟨was,[],rfl,h1,by simp,rfl,h.ownNil 1⟩,?_⟩
 rintro m o w ⟨q,l,rfl,hq,hl,hc,h⟩
 refine IfB.dm (fun hlt=> ?_) (fun hge=> ?_)
 ·refine Nw.mk h fun b w h=>put2I (x:=1) (y:=0) h (by omega) fun s w h=> ?_
  rw [i64_id (by omega)]
  refine ⟨⟨q+1,l++ [1,0],rfl,by omega,by rw [List.length_append];simp;omega,?_,h⟩,by first|omega|(dsimp only;omega)⟩
  rw [hc]
  unfold chg
  rw [if_neg (by omega),if_neg (by omega)]
  obtain ⟨j,hj⟩: ∃j,now - q=j+1:=⟨now - q - 1,by omega⟩
  rw [hj,show now - (q+1)=j by omega,show ups (j+1)=1::0::ups j from rfl]
  simp
 ·refine ⟨fun m o w=> ∃(q:Nat) (l:List Nat),m=(q:Int)∧q≤255∧now≤q∧l.length≤2*(255 - q)+2000∧chg was now=l++chg q now∧Hp E w (OI o l::F),fun m _ _=>m.toNat,⟨q,l,rfl,hq,by omega,by omega,hc,h⟩,?_⟩
  rintro m o w ⟨q,l,rfl,hq,hnq,hl,hc,h⟩
  refine IfB.dm (fun hlt=> ?_) (fun hge=> ?_)
  ·refine Nw.mk h fun b w h=>put2I (x:=1) (y:=1) h (by omega) fun s w h=> ?_
   rw [i64_id (by omega),show (q:Int) - 1=((q - 1:Nat):Int) by omega]
   refine ⟨⟨q - 1,l++ [1,1],rfl,by omega,by omega,by rw [List.length_append];simp;omega,?_,h⟩,by first|omega|(dsimp only;omega)⟩
   rw [hc]
   obtain ⟨j,hj⟩: ∃j,q - now=j+1:=⟨q - now - 1,by omega⟩
   have e1:chg q now=1::1::(downs j++ [0]):=by
    unfold chg
    rw [if_pos (by omega),hj];rfl
   have e2:chg (q - 1) now=downs j++ [0]:=by
    unfold chg
    split
    ·rw [show q - 1 - now=j by omega]
    ·have:j=0:=by omega
     subst this
     rw [show now - (q - 1)=0 by omega];rfl
   rw [e1,e2];simp
  ·have e:q=now:=by omega
   subst e
   refine Nw.mk h fun b w h=>put1I (x:=0) h (by omega) fun s w h=>hK s w ?_
   rw [hc,show chg q q= [0] by unfold chg;simp [ups]]
   exact h
theorem rbits10_c {l:List Nat} {K:Sl→World→Prop} (h:Hp E w F) (hl:l.length=258) (h8: ∀x∈l,x≤15) (hK: ∀s w',Hp E w' (OI s (tput l)::F)→K s w'):Cl Tryz.prog [kS] n_ref10_Bits ⟨[.agg (ai .u8 l),.int .i64 (l.headD 0:Int)]⟩ w K:=by
 obtain ⟨x,m,rfl⟩: ∃x m,l=x::m:=by
  cases l with
  |nil=>simp at hl
  |cons x m=>exact ⟨x,m,rfl⟩
 have hx15:=h8 x List.mem_cons_self
 refine ref10_Bits.ok _ _ _ _ ?_
 unfold ref10_Bits.E
 show Nw _ _ _ _
 rw [show ((x::m).headD 0)=x from rfl]
 refine Nw.mk h fun b4 w h=>⟨by decide,by decide,by decide,by decide,by decide,by decide,by decide,?_⟩
 rw [show (8:Int)=((8:Nat):Int) from rfl,show (4:Int)=((4:Nat):Int) from rfl,show (2:Int)=((2:Nat):Int) from rfl,tdiv2,tdiv2,tdiv2,tmod2,i64_id (x:=((x/8:Nat):Int)) (by omega),i64_id (x:=((x/4:Nat):Int)) (by omega),i64_id (x:=((x/2:Nat):Int)) (by omega),tmod2,tmod2,tmod2]
 refine Nw.mk h fun b6 w h=> ?_
 have h:=Hp.ownNew (n:=4) (sz:=1) h rfl
 have h:Hp E w (OI ⟨some ⟨b6,0,none⟩,4,4⟩ (four x++tabs x ((x::m).take 0))::Blk b4 (.cells (ai .u8 (x::m)) 36 (0,0))::F):=h
 refine ⟨fun was o i w=> ∃k:Nat,i=(k:Int)∧k≤258∧was=((((x::m).take k).getLastD x:Nat):Int)∧Hp E w (OI o (four x++tabs x ((x::m).take k))::Blk b4 (.cells (ai .u8 (x::m)) 36 (0,0))::F),fun _ _ i _=>258 - i.toNat,⟨0,rfl,by omega,rfl,h⟩,?_⟩
 rintro was o i w ⟨k,rfl,hk,rfl,h⟩
 refine IfB.dm (fun hlt=> ?_) (fun hge=> ?_)
 ·have hlt:k<258:=by omega
  have hlt2:k<(x::m).length:=by omega
  have hn15:=h8 _ (List.getElem_mem hlt2)
  have hw15:((x::m).take k).getLastD x≤15:=by
   cases hc:((x::m).take k).getLast? with
   |none=>rw [List.getLastD_eq_getLast?,hc];exact hx15
   |some y=>
    rw [List.getLastD_eq_getLast?,hc]
    exact h8 y (List.mem_of_mem_take (List.mem_of_getLast? hc))
  have hk':((x::m).take k++ [(x::m)[k]])=(x::m).take (k+1):=by rw [List.take_add_one,List.getElem?_eq_getElem hlt2];rfl
  have htl:=tabs_len ((x::m).take k) x hx15 fun y hy=>h8 y (List.mem_of_mem_take hy)
  rw [List.length_take] at htl
  have hcl:=chg_len hw15 hn15
  refine IdxP.rd (s:= .int .u8) (h.at 1) (by omega) (by omega) ((x::m)[k]:Int) (ai_get hlt2) ?_
  rw [i64_id (x:=((x::m)[k]:Int)) (by omega)]
  refine rput10_c h (by omega) (by omega) fun s16 w h=> ?_
  refine catI (h.at 1) Tells.own (by rw [List.length_append,show (four x).length=4 from rfl];omega) (by omega) fun s18 w h=> ?_
  refine IdxP.rd (s:= .int .u8) (h.at 2) (by omega) (by omega) ((x::m)[k]:Int) (ai_get hlt2) ?_
  rw [i64_id (x:=((x::m)[k]:Int)) (by omega),i64_id (x:=(k:Int)+1) (by omega)]
  refine ⟨⟨k+1,rfl,by omega,?_,?_⟩,by first|omega|(dsimp only;omega)⟩
  ·rw [←hk',List.getLastD_concat]
  ·rw [List.append_assoc,←tabs_snoc,hk'] at h
   exact h.no 1
 ·have hk2:k=258:=by omega
  subst hk2
  rw [List.take_of_length_le (by omega)] at h
  exact hK o w h.keep1
theorem rof10_c {l:List Nat} {K:Sl→Int→World→Prop} (h:Hp E w F) (hl:l.length=258) (h8: ∀x∈l,x≤255) (hbad:okT l=false→∀w',Hp E w' F→K ⟨none,0,0⟩ 2 w')
  (hK:okT l=true→∀s w',Hp E w' (OI s (tput l)::F)→K s 0 w'):Cl Tryz.prog [kS,kI] n_ref10_Of ⟨[.agg (ai .u8 l)]⟩ w K:=by
 refine ref10_Of.ok _ _ _ ?_
 unfold ref10_Of.E
 have hsz:(ai .u8 l).size=258:=by rw [ai_size,hl]
 refine Nw.mk h fun b3 w h=>Ld.xw h hsz (rTable_c h hl h8 fun w h=> ?_)
 by_cases hok:okT l=true
 ·rw [hok]
  have h15:=Blk.okT_15 hok
  have h0:0<l.length:=by omega
  have hhd:l.headD 0=l[0]:=by
   cases l with
   |nil=>simp at h0
   |cons x m=>rfl
  refine IfB.f rfl (Ld.xw h hsz (IdxP.rd (s:= .int .u8) h (by omega) (by omega) (l[0]:Int) (ai_get h0) ?_))
  have:=h15 _ (List.getElem_mem h0)
  rw [i64_id (by omega),←hhd]
  exact rbits10_c h hl h15 fun s w h=>hK hok s w h.keep1
 ·rw [show okT l=false by simpa using hok]
  exact IfB.t rfl (hbad (by simpa using hok) w h.tl)
end
end Go.Proofs.YtcdpblipagajiaaGreat
namespace Go.Proofs.YtcdpblipagajiaaGreat
open Go Go.Vc
def ref05_Put.E (n1:Int) (R:Sl→Int→World→Prop) (w:World):Prop:=
 IfB (decide ((n1:Int)<(0:Int)))
 (R ((⟨none,0,0⟩:Sl)) (2) w)
 (IfB (decide ((n1:Int)>(2147483647:Int)))
 (R ((⟨none,0,0⟩:Sl)) (2) w)
 ((128:Int)≠0∧
 Nw 5 ⟨[(.int .u8 (u8 (Int.tmod (n1:Int) (128:Int))))]⟩ w fun (b3:Nat) (w_2:World)=>
 (128:Int)≠0∧
 ∃(I_4:Int→Sl→World→Prop) (m_5:Int→Sl→World→Nat),I_4 ((i64 (Int.tdiv (n1:Int) (128:Int)))) ((⟨some ⟨b3,0,none⟩,1,1⟩:Sl)) w_2∧
 ∀(n6:Int) (out7:Sl),∀(w_8:World),I_4 n6 out7 w_8→
 IfB (decide ((n6:Int)>(0:Int)))
 ((128:Int)≠0∧
 Nw 5 ⟨[(.int .u8 (u8 (i64 ((128:Int)+((Int.tmod (n6:Int) (128:Int)):Int)))))]⟩ w_8 fun (b10:Nat) (w_9:World)=>
 Run Tryz.prog (Builtin.append_ #[22,22] 22 ⟨[(.slice (⟨some ⟨b10,0,none⟩,1,1⟩:Sl).base (⟨some ⟨b10,0,none⟩,1,1⟩:Sl).len (⟨some ⟨b10,0,none⟩,1,1⟩:Sl).cap),(.slice out7.base out7.len out7.cap)]⟩) kS w_9 fun (s12:Sl) (w_11:World)=>
 (128:Int)≠0∧
 I_4 ((i64 (Int.tdiv (n6:Int) (128:Int)))) (s12) w_11∧m_5 ((i64 (Int.tdiv (n6:Int) (128:Int)))) (s12) w_11<m_5 n6 out7 w_8)
 (R (out7) (0) w_8)))
theorem ref05_Put.ok (n1:Int) (R:Sl→Int→World→Prop) (w:World) (h:ref05_Put.E n1 R w):Cl Tryz.prog [kS,kI] n_ref05_Put ⟨[(.int .i64 n1)]⟩ w R:=
 calls_of_eq Tryz.mix Tryz.f71 [(.int .i64 n1)] [kS,kI] R 29 [.tmp 2,.tmp 3] (by kernel_rfl) (by kernel_rfl) (by kernel_rfl) (by kernel_rfl) (by kernel_rfl)
  (.s .o (.s (.s .o (.c (.s .o .o) .o)) (.s .o (.s (.s .o (.b (.l [(0,kI),(4,kS)] (.s (.s .o (.c .o .o)) (.s (.b .o) .o))))) (.s .o .o)))))
  (by kernel_rfl) h
end Go.Proofs.YtcdpblipagajiaaGreat
namespace Go.Proofs.YtcdpblipagajiaaGreat
open Go Go.Vc
set_option maxRecDepth 100000 in
def ref24_PutBlock.E (n1:Int) (h2:(TT [.int .i64,.int .i64,.int .u32])) (R:Sl→Int→World→Prop) (w:World):Prop:=
 Nw 53 ⟨[(.int .i64 h2.1),(.int .i64 h2.2.1),(.int .u32 h2.2.2.1)]⟩ w fun (b4:Nat) (w_3:World)=>
 Join (fun (w_11:World)=>
 Ld kI ((⟨b4,0,none⟩:Addr).add 0) w_11 fun (M12:Int)=>
 Cl Tryz.prog [kS,kI] n_ref05_Put ⟨[(.int .i64 M12)]⟩ w_11 fun (r14:Sl) (r15:Int) (w_13:World)=>
 Ld kI ((⟨b4,0,none⟩:Addr).add 1) w_13 fun (P16:Int)=>
 Cl Tryz.prog [kS,kI] n_ref05_Put ⟨[(.int .i64 P16)]⟩ w_13 fun (r18:Sl) (r19:Int) (w_17:World)=>
 Nw 5 ⟨[(.int .u8 1)]⟩ w_17 fun (b21:Nat) (w_20:World)=>
 Run Tryz.prog (Builtin.append_ #[22,22] 22 ⟨[(.slice (⟨some ⟨b21,0,none⟩,1,1⟩:Sl).base (⟨some ⟨b21,0,none⟩,1,1⟩:Sl).len (⟨some ⟨b21,0,none⟩,1,1⟩:Sl).cap),(.slice r14.base r14.len r14.cap)]⟩) kS w_20 fun (s23:Sl) (w_22:World)=>
 Run Tryz.prog (Builtin.append_ #[22,22] 22 ⟨[(.slice s23.base s23.len s23.cap),(.slice r18.base r18.len r18.cap)]⟩) kS w_22 fun (s25:Sl) (w_24:World)=>
 Ld (kInt .u32) ((⟨b4,0,none⟩:Addr).add 2) w_24 fun (Sum26:Int)=>
 Cl Tryz.prog [kS] n_ref04_Put ⟨[(.int .u32 Sum26)]⟩ w_24 fun (r28:Sl) (w_27:World)=>
 Run Tryz.prog (Builtin.append_ #[22,22] 22 ⟨[(.slice s25.base s25.len s25.cap),(.slice r28.base r28.len r28.cap)]⟩) kS w_27 fun (s30:Sl) (w_29:World)=>
 R (s30) (0) w_29) fun (K_5:World→Prop)=>
 IfB (decide ((n1:Int)<(1:Int)))
 (R ((⟨none,0,0⟩:Sl)) (2) w_3)
 (IfB (decide ((n1:Int)>(65536:Int)))
 (R ((⟨none,0,0⟩:Sl)) (2) w_3)
 (Ld kI ((⟨b4,0,none⟩:Addr).add 0) w_3 fun (M6:Int)=>
 IfB (decide ((M6:Int)<(1:Int)))
 (R ((⟨none,0,0⟩:Sl)) (2) w_3)
 (Ld kI ((⟨b4,0,none⟩:Addr).add 0) w_3 fun (M7:Int)=>
 IfB (decide ((M7:Int)>(n1:Int)))
 (R ((⟨none,0,0⟩:Sl)) (2) w_3)
 (Ld kI ((⟨b4,0,none⟩:Addr).add 1) w_3 fun (P8:Int)=>
 IfB (decide ((P8:Int)<(1:Int)))
 (R ((⟨none,0,0⟩:Sl)) (2) w_3)
 (Ld kI ((⟨b4,0,none⟩:Addr).add 1) w_3 fun (P9:Int)=>
 Ld kI ((⟨b4,0,none⟩:Addr).add 0) w_3 fun (M10:Int)=>
 IfB (decide ((P9:Int)>(M10:Int)))
 (R ((⟨none,0,0⟩:Sl)) (2) w_3)
 (K_5 w_3))))))
set_option maxRecDepth 100000 in
theorem ref24_PutBlock.ok (n1:Int) (h2:(TT [.int .i64,.int .i64,.int .u32])) (R:Sl→Int→World→Prop) (w:World) (h:ref24_PutBlock.E n1 h2 R w):Cl Tryz.prog [kS,kI] n_ref24_PutBlock ⟨[(.int .i64 n1),(.agg ⟨[(.int .i64 h2.1),(.int .i64 h2.2.1),(.int .u32 h2.2.2.1)]⟩)]⟩ w R:=
 calls_of_eq Tryz.mix Tryz.f26 [(.int .i64 n1),(.agg ⟨[(.int .i64 h2.1),(.int .i64 h2.2.1),(.int .u32 h2.2.2.1)]⟩)] [kS,kI] R 63 [.tmp 4,.tmp 5] (by kernel_rfl) (by kernel_rfl) (by kernel_rfl) (by kernel_rfl) (by kernel_rfl)
  (.s .o (.j [] (.s .o (.c (.s .o .o) .o)) (.s .o (.s .o (.s .o (.s .o (.s .o .o)))))))
  (by kernel_rfl) h
end Go.Proofs.YtcdpblipagajiaaGreat
namespace Go.Proofs.YtcdpblipagajiaaGreat
open Go Go.Vc
def ref04_Of.E (parts1:Sl) (R:Int→World→Prop) (w:World):Prop:=
 Cl Tryz.prog [(kInt .u32)] n_ref04_Feed ⟨[(.int .u32 0),(.slice parts1.base parts1.len parts1.cap)]⟩ w fun (r3:Int) (w_2:World)=>
 R (r3) w_2
theorem ref04_Of.ok (parts1:Sl) (R:Int→World→Prop) (w:World) (h:ref04_Of.E parts1 R w):Cl Tryz.prog [(kInt .u32)] n_ref04_Of ⟨[(.slice parts1.base parts1.len parts1.cap)]⟩ w R:=
 calls_of_eq Tryz.mix Tryz.f27 [(.slice parts1.base parts1.len parts1.cap)] [(kInt .u32)] R 5 [.tmp 2] (by kernel_rfl) (by kernel_rfl) (by kernel_rfl) (by kernel_rfl) (by kernel_rfl)
  (.s .o (.s .o .o))
  (by kernel_rfl) h
def ref04_Put.E (c1:Int) (R:Sl→World→Prop) (w:World):Prop:=
 (16777216:Int)≠0∧
 (65536:Int)≠0∧
 (256:Int)≠0∧
 (256:Int)≠0∧
 (256:Int)≠0∧
 (256:Int)≠0∧
 Nw 5 ⟨[(.int .u8 (u8 (u32 (Int.tdiv (c1:Int) (16777216:Int))))),(.int .u8 (u8 (Int.tmod ((u32 (Int.tdiv (c1:Int) (65536:Int))):Int) (256:Int)))),(.int .u8 (u8 (Int.tmod ((u32 (Int.tdiv (c1:Int) (256:Int))):Int) (256:Int)))),(.int .u8 (u8 (Int.tmod (c1:Int) (256:Int))))]⟩ w fun (b3:Nat) (w_2:World)=>
 R ((⟨some ⟨b3,0,none⟩,4,4⟩:Sl)) w_2
theorem ref04_Put.ok (c1:Int) (R:Sl→World→Prop) (w:World) (h:ref04_Put.E c1 R w):Cl Tryz.prog [kS] n_ref04_Put ⟨[(.int .u32 c1)]⟩ w R:=
 calls_of_eq Tryz.mix Tryz.f72 [(.int .u32 c1)] [kS] R 18 [.tmp 2] (by kernel_rfl) (by kernel_rfl) (by kernel_rfl) (by kernel_rfl) (by kernel_rfl)
  (.s .o (.s .o .o))
  (by kernel_rfl) h
def ref04_Feed.E (c1:Int) (parts2:Sl) (R:Int→World→Prop) (w:World):Prop:=
 ∃(I_3:Int→Int→World→Prop) (m_4:Int→Int→World→Nat),I_3 ((ixor .u32 (c1:Int) (4294967295:Int))) (0) w∧
 ∀(c5:Int) (i6:Int),∀(w_7:World),I_3 c5 i6 w_7→
 IfB (decide ((i6:Int)<((parts2.len:Int):Int)))
 (∃(I_8:Int→Int→World→Prop) (m_9:Int→Int→World→Nat),I_8 (c5) (0) w_7∧
 ∀(c10:Int) (k11:Int),∀(w_12:World),I_8 c10 k11 w_12→
 Idx parts2 i6 1 fun (q13:Addr)=>
 Ld kS q13 w_12 fun (x14:Sl)=>
 IfB (decide ((k11:Int)<((x14.len:Int):Int)))
 (Idx parts2 i6 1 fun (q15:Addr)=>
 Ld kS q15 w_12 fun (x16:Sl)=>
 Idx x16 k11 1 fun (q17:Addr)=>
 Ld (kInt .u8) q17 w_12 fun (x18:Int)=>
 Cl Tryz.prog [(kInt .u32)] n_ref04_Step ⟨[(.int .u32 c10),(.int .u8 x18)]⟩ w_12 fun (r20:Int) (w_19:World)=>
 I_8 (r20) ((i64 ((k11:Int)+(1:Int)))) w_19∧m_9 (r20) ((i64 ((k11:Int)+(1:Int)))) w_19<m_9 c10 k11 w_12)
 (I_3 (c10) ((i64 ((i6:Int)+(1:Int)))) w_12∧m_4 (c10) ((i64 ((i6:Int)+(1:Int)))) w_12<m_4 c5 i6 w_7))
 (R ((ixor .u32 (c5:Int) (4294967295:Int))) w_7)
theorem ref04_Feed.ok (c1:Int) (parts2:Sl) (R:Int→World→Prop) (w:World) (h:ref04_Feed.E c1 parts2 R w):Cl Tryz.prog [(kInt .u32)] n_ref04_Feed ⟨[(.int .u32 c1),(.slice parts2.base parts2.len parts2.cap)]⟩ w R:=
 calls_of_eq Tryz.mix Tryz.f73 [(.int .u32 c1),(.slice parts2.base parts2.len parts2.cap)] [(kInt .u32)] R 35 [.tmp 4] (by kernel_rfl) (by kernel_rfl) (by kernel_rfl) (by kernel_rfl) (by kernel_rfl)
  (.s .o (.s .o (.s (.s .o (.b (.l [(0,(kInt .u32)),(5,kI)] (.s (.s .o (.c .o .o)) (.s (.b (.s .o (.b (.l [(0,(kInt .u32)),(6,kI)] (.s (.s .o (.c .o .o)) (.s (.b .o) .o)))))) .o))))) (.s .o .o))))
  (by kernel_rfl) h
def ref04_Step.E (c1:Int) (b2:Int) (R:Int→World→Prop) (w:World):Prop:=
 (256:Int)≠0∧
 Cl Tryz.prog [(kInt .u32)] n_ref04_Row ⟨[(.int .u8 (ixor .u8 ((u8 (Int.tmod (c1:Int) (256:Int))):Int) (b2:Int)))]⟩ w fun (r4:Int) (w_3:World)=>
 (256:Int)≠0∧
 R ((ixor .u32 (r4:Int) ((u32 (Int.tdiv (c1:Int) (256:Int))):Int))) w_3
theorem ref04_Step.ok (c1:Int) (b2:Int) (R:Int→World→Prop) (w:World) (h:ref04_Step.E c1 b2 R w):Cl Tryz.prog [(kInt .u32)] n_ref04_Step ⟨[(.int .u32 c1),(.int .u8 b2)]⟩ w R:=
 calls_of_eq Tryz.mix Tryz.f122 [(.int .u32 c1),(.int .u8 b2)] [(kInt .u32)] R 14 [.tmp 4] (by kernel_rfl) (by kernel_rfl) (by kernel_rfl) (by kernel_rfl) (by kernel_rfl)
  (.s .o (.s .o .o))
  (by kernel_rfl) h
def ref04_Row.E (b1:Int) (R:Int→World→Prop) (w:World):Prop:=
 ∃(I_2:Int→Int→World→Prop) (m_3:Int→Int→World→Nat),I_2 ((u32 b1)) (0) w∧
 ∀(c4:Int) (i5:Int),∀(w_6:World),I_2 c4 i5 w_6→
 IfB (decide ((i5:Int)<(8:Int)))
 ((2:Int)≠0∧
 (2:Int)≠0∧
 IfB (((Int.tmod (c4:Int) (2:Int)):Int)==(1:Int))
 (I_2 ((ixor .u32 ((u32 (Int.tdiv (c4:Int) (2:Int))):Int) (3988292384:Int))) ((i64 ((i5:Int)+(1:Int)))) w_6∧m_3 ((ixor .u32 ((u32 (Int.tdiv (c4:Int) (2:Int))):Int) (3988292384:Int))) ((i64 ((i5:Int)+(1:Int)))) w_6<m_3 c4 i5 w_6)
 (I_2 ((u32 (Int.tdiv (c4:Int) (2:Int)))) ((i64 ((i5:Int)+(1:Int)))) w_6∧m_3 ((u32 (Int.tdiv (c4:Int) (2:Int)))) ((i64 ((i5:Int)+(1:Int)))) w_6<m_3 c4 i5 w_6))
 (R (c4) w_6)
theorem ref04_Row.ok (b1:Int) (R:Int→World→Prop) (w:World) (h:ref04_Row.E b1 R w):Cl Tryz.prog [(kInt .u32)] n_ref04_Row ⟨[(.int .u8 b1)]⟩ w R:=
 calls_of_eq Tryz.mix Tryz.f167 [(.int .u8 b1)] [(kInt .u32)] R 21 [.tmp 2] (by kernel_rfl) (by kernel_rfl) (by kernel_rfl) (by kernel_rfl) (by kernel_rfl)
  (.s .o (.s .o (.s (.s .o (.b (.l [(3,(kInt .u32)),(4,kI)] (.s (.s .o (.c .o .o)) (.s (.b (.s .o (.s .o (.s .o (.c .o .o))))) .o))))) (.s .o .o))))
  (by kernel_rfl) h
end Go.Proofs.YtcdpblipagajiaaGreat
namespace Go.Proofs.YtcdpblipagajiaaGreat
open Go Go.Vc Go.Bits Go.Crc
section
variable {E w:World} {F:List HP}
set_option maxRecDepth 20000
theorem tmod_nat (a b:Nat):Int.tmod (a:Int) (b:Int)=((a % b:Nat):Int):=rfl
theorem tdiv_nat (a b:Nat):Int.tdiv (a:Int) (b:Int)=((a/b:Nat):Int):=rfl
theorem row4_c {b:Nat} {K:Int→World→Prop} (hb:b<256) (hK:K (row b:Int) w):Cl Tryz.prog [kInt .u32] n_ref04_Row ⟨[.int .u8 (b:Int)]⟩ w K:=by
 refine ref04_Row.ok _ _ _ ?_
 unfold ref04_Row.E
 refine ⟨fun c i w'=>w'=w∧∃k:Nat,i=(k:Int)∧k≤8∧c=(halves k b:Int),fun _ i _=>8 - i.toNat,⟨rfl,0,rfl,by omega,by rw [u32_id (by omega)];rfl⟩,?_⟩
 rintro c i w' ⟨rfl,k,rfl,hk,rfl⟩
 refine IfB.dm (fun hlt=> ?_) (fun hge=> ?_)
 ·have hlt:k<8:=by omega
  have hb:=halves_lt k b (by omega)
  have hm:IntKind.max .u32=4294967295:=rfl
  have h2:=half_lt hb
  have e1:u32 (Int.tdiv (halves k b:Int) 2)=((halves k b/2:Nat):Int):=by
   rw [show (2:Int)=((2:Nat):Int) from rfl,tdiv_nat,u32_id (by omega)]
  have e2:Int.tmod (halves k b:Int) 2=((halves k b % 2:Nat):Int):=tmod_nat _ 2
  rw [e1,e2,i64_id (by omega)]
  have hs:halves (k+1) b=half (halves k b):=rfl
  refine ⟨by decide,by decide,IfB.mk (fun ho=> ?_) (fun he=> ?_)⟩
  ·have ho:halves k b % 2=1:=by rw [beq_iff_eq] at ho;omega
   have hh:halves k b/2^^^3988292384=halves (k+1) b:=by rw [hs];unfold half;rw [if_pos ho]
   refine ⟨⟨rfl,k+1,rfl,by omega,?_⟩,by first|omega|(dsimp only;omega)⟩
   rw [show (3988292384:Int)=((3988292384:Nat):Int) from rfl,ixor_nat (by omega) (by omega) (by rw [hh,hs];omega),hh]
  ·have ho: ¬halves k b % 2=1:=by rw [beq_eq_false_iff_ne] at he;omega
   have hh:halves k b/2=halves (k+1) b:=by rw [hs];unfold half;rw [if_neg ho,Nat.xor_zero]
   exact ⟨⟨rfl,k+1,rfl,by omega,by rw [hh]⟩,by first|omega|(dsimp only;omega)⟩
 ·have:k=8:=by omega
  subst this
  exact hK
theorem step4_c {c x:Nat} {K:Int→World→Prop} (hc:c<4294967296) (hx:x<256) (hK:K (Crc.step c x:Int) w):Cl Tryz.prog [kInt .u32] n_ref04_Step ⟨[.int .u32 (c:Int),.int .u8 (x:Int)]⟩ w K:=by
 refine ref04_Step.ok _ _ _ _ ?_
 unfold ref04_Step.E
 have hm:IntKind.max .u32=4294967295:=rfl
 have hm8:IntKind.max .u8=255:=rfl
 have hi:=cidx_lt (c:=c) hx
 have hr:=row_lt (c:=c % 256^^^x) (by omega)
 have hs:=step_lt hc hx
 have e1:ixor .u8 (u8 (Int.tmod (c:Int) 256)) (x:Int)=((c % 256^^^x:Nat):Int):=by
  rw [show (256:Int)=((256:Nat):Int) from rfl,tmod_nat,u8_id (by omega),ixor_nat (by omega) (by omega) (by omega)]
 rw [e1]
 refine ⟨by decide,row4_c hi ⟨by decide,?_⟩⟩
 unfold Crc.step at hs hK
 rw [show (256:Int)=((256:Nat):Int) from rfl,tdiv_nat,u32_id (by omega),ixor_nat (by omega) (by omega) (by omega)]
 exact hK
theorem xor4 {c:Nat} (h:c<4294967296):ixor .u32 (c:Int) 4294967295=((c^^^4294967295:Nat):Int):=by
 have hm:IntKind.max .u32=4294967295:=rfl
 have hx:c^^^4294967295<2^32:=Nat.xor_lt_two_pow (by omega) (by decide)
 rw [show (4294967295:Int)=((4294967295:Nat):Int) from rfl,ixor_nat (by omega) (by omega) (by omega)]
theorem feed4_c {c:Nat} {K:Int→World→Prop} {s:Sl} {cs:List Sl} {bs:List (List Nat)} (h:Hp E w F) (hc0:c<4294967296)
  (hs:Tells F (SlT 1 s (cs.map fun x=> .slice x.base x.len x.cap))) (hl:cs.length=bs.length) (hcl:cs.length≤big) (hc: ∀i (h:i<cs.length),Tells F (SlT 1 cs[i] ((bs.getD i []).map vB)))
  (hby: ∀b∈bs,∀y∈b,y<256) (hbig: ∀b∈bs,b.length≤big)
  (hK:K ((Crc.feed (c^^^4294967295) bs.flatten^^^4294967295:Nat):Int) w):Cl Tryz.prog [kInt .u32] n_ref04_Feed ⟨[.int .u32 (c:Int),.slice s.base s.len s.cap]⟩ w K:=by
 refine ref04_Feed.ok _ _ _ _ ?_
 unfold ref04_Feed.E
 have hlen:s.len=cs.length:=by have:=(h.tells hs).1;simpa using this.symm
 have hflat: ∀y∈bs.flatten,y<256:=fun y hy=>by
  obtain ⟨b,hb1,hb2⟩:=List.mem_flatten.1 hy
  exact hby b hb1 y hb2
 have hc1:c^^^4294967295<4294967296:=Nat.xor_lt_two_pow (n:=32) hc0 (by decide)
 rw [big_eq] at hcl
 rw [xor4 hc0]
 refine ⟨fun x i w'=>w'=w∧∃k:Nat,i=(k:Int)∧k≤cs.length∧x=(Crc.feed (c^^^4294967295) (bs.take k).flatten:Int),fun _ i _=>cs.length - i.toNat,⟨rfl,0,rfl,by omega,rfl⟩,?_⟩
 rintro x i w ⟨rfl,k,rfl,hk,rfl⟩
 refine IfB.dm (fun hlt=> ?_) (fun hge=> ?_)
 ·have hlt:k<cs.length:=by omega
  have hkb:k<bs.length:=by omega
  have hgd:bs.getD k []=bs[k]:=by rw [List.getD_eq_getElem?_getD,List.getElem?_eq_getElem hkb];rfl
  have hck:=hc k hlt
  rw [hgd] at hck
  have hmem:=List.getElem_mem hkb
  have hblen:=hbig _ hmem
  rw [big_eq] at hblen
  have hlk:=(h.tells hck).1
  simp only [List.length_map,Nat.mul_one] at hlk
  have rdp: ∀{G:Sl→Prop},G cs[k]→Idx s (k:Int) 1 fun q=>Ld kS q w G:=fun hG=>Idx.rd (h.tells hs) (by omega) (by omega) fun q hi hq=>Ld.sc _ (by simpa using hq:w.cell? q=some (Sc.sl.enc cs[k])) hG
  refine ⟨fun x i w'=>w'=w∧∃j:Nat,i=(j:Int)∧j≤bs[k].length∧x=(Crc.feed (c^^^4294967295) ((bs.take k).flatten++bs[k].take j):Int),fun _ i _=>bs[k].length - i.toNat,⟨rfl,0,rfl,by omega,by simp⟩,?_⟩
  rintro x i w' ⟨rfl,j,rfl,hj,rfl⟩
  have hpre: ∀y∈(bs.take k).flatten++bs[k].take j,y<256:=fun y hy=>by
   rcases List.mem_append.1 hy with hy|hy
   ·obtain ⟨b,hb1,hb2⟩:=List.mem_flatten.1 hy
    exact hby b (List.mem_of_mem_take hb1) y hb2
   ·exact hby _ hmem y (List.mem_of_mem_take hy)
  have hfl:=Crc.feed_lt _ _ hc1 hpre
  refine rdp (IfB.dm (fun hlt2=> ?_) (fun hge2=> ?_))
  ·have hjl:j<bs[k].length:=by omega
   have hy:=hby _ hmem _ (List.getElem_mem hjl)
   refine rdp (Idx.rd (h.tells hck) (by omega) (by omega) fun q hi hq=> ?_)
   refine Ld.sc (s:= .int .u8) (bs[k][j]:Int) (by simpa [vB] using hq) ?_
   refine step4_c hfl hy ?_
   rw [i64_id (by omega)]
   refine ⟨⟨rfl,j+1,rfl,by omega,?_⟩,by first|omega|(dsimp only;omega)⟩
   rw [List.take_add_one,List.getElem?_eq_getElem hjl,←List.append_assoc,Crc.feed_app ((bs.take k).flatten++bs[k].take j)];rfl
  ·have hjl:j=bs[k].length:=by omega
   subst hjl
   rw [i64_id (by omega),List.take_length]
   exact ⟨⟨rfl,k+1,rfl,by omega,by rw [flat_next hkb,hgd]⟩,by first|omega|(dsimp only;omega)⟩
 ·have hkl:k=bs.length:=by omega
  subst hkl
  rw [List.take_length]
  have hfl:=Crc.feed_lt _ _ hc1 hflat
  rw [xor4 hfl]
  exact hK
theorem of4_c {K:Int→World→Prop} {s:Sl} {cs:List Sl} {bs:List (List Nat)} (h:Hp E w F)
  (hs:Tells F (SlT 1 s (cs.map fun x=> .slice x.base x.len x.cap))) (hl:cs.length=bs.length) (hcl:cs.length≤big) (hc: ∀i (h:i<cs.length),Tells F (SlT 1 cs[i] ((bs.getD i []).map vB)))
  (hby: ∀b∈bs,∀y∈b,y<256) (hbig: ∀b∈bs,b.length≤big)
  (hK:K (Crc.crc bs.flatten:Int) w):Cl Tryz.prog [kInt .u32] n_ref04_Of ⟨[.slice s.base s.len s.cap]⟩ w K:=by
 refine ref04_Of.ok _ _ _ ?_
 unfold ref04_Of.E
 exact feed4_c (c:=0) h (by decide) hs hl hcl hc hby hbig hK
theorem put4_c {c:Nat} {K:Sl→World→Prop} (h:Hp E w F) (hc:c<4294967296) (hK: ∀s w',Hp E w' (OwnS 1 s ((Hd.be4 c).map vB)::F)→K s w'):Cl Tryz.prog [kS] n_ref04_Put ⟨[.int .u32 (c:Int)]⟩ w K:=by
 refine ref04_Put.ok _ _ _ ?_
 unfold ref04_Put.E
 refine ⟨by decide,by decide,by decide,by decide,by decide,by decide,?_⟩
 have e1:u8 (u32 (Int.tdiv (c:Int) 16777216))=((c/16777216 % 256:Nat):Int):=by
  rw [show (16777216:Int)=((16777216:Nat):Int) from rfl,tdiv_nat,u32_id (by omega),u8_mod];omega
 have e2:u8 (Int.tmod (u32 (Int.tdiv (c:Int) 65536)) 256)=((c/65536 % 256:Nat):Int):=by
  rw [show (65536:Int)=((65536:Nat):Int) from rfl,tdiv_nat,u32_id (by omega),show (256:Int)=((256:Nat):Int) from rfl,tmod_nat,u8_id (by omega)]
 have e3:u8 (Int.tmod (u32 (Int.tdiv (c:Int) 256)) 256)=((c/256 % 256:Nat):Int):=by
  rw [show (256:Int)=((256:Nat):Int) from rfl,tdiv_nat,u32_id (by omega),tmod_nat,u8_id (by omega)]
 have e4:u8 (Int.tmod (c:Int) 256)=((c % 256:Nat):Int):=by
  rw [show (256:Int)=((256:Nat):Int) from rfl,tmod_nat,u8_id (by omega)]
 rw [e1,e2,e3,e4]
 exact Nw.mk h fun b3 w h=>hK _ w (h.ownNew (n:=4) (sz:=1) rfl)
end
end Go.Proofs.YtcdpblipagajiaaGreat
namespace Go.Proofs.YtcdpblipagajiaaGreat
open Go Go.Vc Go.Srt Go.Inc Go.Hd Go.Crc
section
variable {E w:World} {F:List HP}
set_option maxRecDepth 20000
theorem rvput_c {n:Nat} {K:Sl→Int→World→Prop} (h:Hp E w F) (hn:n≤65536) (hK: ∀s w',Hp E w' (OB s (vput n)::F)→K s 0 w'):Cl Tryz.prog [kS,kI] n_ref05_Put ⟨[.int .i64 (n:Int)]⟩ w K:=by
 refine ref05_Put.ok _ _ _ ?_
 unfold ref05_Put.E
 refine IfB.df (by omega) (IfB.df (by omega) ⟨by decide,?_⟩)
 have e128: ∀m:Nat,Int.tmod (m:Int) 128=((m % 128:Nat):Int):=fun _=>rfl
 have d128: ∀m:Nat,Int.tdiv (m:Int) 128=((m/128:Nat):Int):=fun _=>rfl
 rw [e128,d128,u8_id (by omega),i64_id (by omega)]
 refine Nw.mk h fun b3 w h=>⟨by decide,?_⟩
 have h:=Hp.ownNew (n:=1) (sz:=1) h rfl
 refine ⟨fun x s w'=> ∃(m:Nat) (l:List Nat),x=(m:Int)∧m≤512∧l.length+m≤513∧vgr m++l=vput n∧Hp E w' (OB s l::F),fun x _ _=>x.toNat,⟨n/128,[n % 128],rfl,by omega,by simp;omega,rfl,h⟩,?_⟩
 rintro x s w ⟨m,l,rfl,hm5,hl,hv,h⟩
 refine IfB.dm (fun hlt=> ?_) (fun hge=> ?_)
 ·have hm0:0<m:=by omega
  rw [e128,d128,i64_id (x:=128+((m % 128:Nat):Int)) (by omega),u8_id (by omega),i64_id (by omega),show 128+((m % 128:Nat):Int)=((128+m % 128:Nat):Int) by omega]
  refine ⟨by decide,Nw.mk h fun b12 w h=>pre1B h (by omega) fun s w h=>⟨by decide,?_⟩⟩
  refine ⟨⟨m/128,(128+m % 128)::l,rfl,by omega,by rw [List.length_cons];omega,?_,h⟩,by first|omega|(dsimp only;omega)⟩
  rw [←hv,vgr_pos hm0]
  simp
 ·have hm0:m=0:=by omega
  subst hm0
  rw [vgr_zero,List.nil_append] at hv
  rw [hv] at h
  exact hK s w h
theorem rputBlk_c {n:Int} {M P u:Nat} {K:Sl→Int→World→Prop} (h:Hp E w F) (hM:M≤65536) (hP:P≤65536) (hu:u<4294967296)
  (hgood:1≤n→n≤65536→1≤M→(M:Int)≤n→1≤P→P≤M→∀s w',Hp E w' (OB s (mblk M P u)::F)→K s 0 w')
  (hbad: ¬(1≤n∧n≤65536∧1≤M∧(M:Int)≤n∧1≤P∧P≤M)→∀w',Hp E w' F→K ⟨none,0,0⟩ 2 w'):
  Cl Tryz.prog [kS,kI] n_ref24_PutBlock ⟨[.int .i64 n,.agg ⟨[.int .i64 (M:Int),.int .i64 (P:Int),.int .u32 (u:Int)]⟩]⟩ w K:=by
 refine ref24_PutBlock.ok _ ((M:Int),(P:Int),(u:Int),()) _ _ ?_
 unfold ref24_PutBlock.E
 (try simp only [Join_eq,NilCk_some,add_mk,Nat.zero_add,Nat.add_zero,Nat.reduceAdd,Bool.not_true,Bool.not_false,IfB_t,IfB_f,Option.isNone])
 refine Nw.mk h fun b4 w h=> ?_
 refine IfB.dm (fun h1=>hbad (by omega) _ h.tl) (fun h1=>IfB.dm (fun h2=>hbad (by omega) _ h.tl) (fun h2=>Ld.xb h rfl (IfB.dm (fun h3=>hbad (by omega) _ h.tl) (fun h3=>Ld.xb h rfl (IfB.dm (fun h4=>hbad (by omega) _ h.tl) (fun h4=>Ld.xb h rfl (IfB.dm (fun h5=>hbad (by omega) _ h.tl) (fun h5=>Ld.xb h rfl (Ld.xb h rfl (IfB.dm (fun h6=>hbad (by omega) _ h.tl) (fun h6=> ?_)))))))))))
 refine Ld.xb h rfl (rvput_c h hM fun s1 w h=>Ld.xb (b:=b4) h rfl (rvput_c h hP fun s2 w h=>Nw.mk h fun b21 w h=> ?_))
 have l1:=vput_len hM
 have l2:=vput_len hP
 refine pre1B (h.at 2).p1 (by omega) fun s3 w h=>catB h Tells.own (by rw [List.length_cons];omega) (by omega) fun s4 w h=>Ld.xb (b:=b4) h rfl (put4_c h hu fun s5 w h=> ?_)
 refine catB (h.at 1) Tells.own (by rw [List.length_append,List.length_cons];omega) (by simp [be4]) fun s6 w h=>hgood (by omega) (by omega) (by omega) (by omega) (by omega) (by omega) s6 w ?_
 have e:1::vput M++vput P++be4 u=mblk M P u:=by simp [mblk]
 rw [e] at h
 exact h.keep1
end
end Go.Proofs.YtcdpblipagajiaaGreat
namespace Go.Proofs.YtcdpblipagajiaaGreat
open Go Go.Vc
set_option maxRecDepth 100000 in
def ref09_Codes.E (l1:(Array Value)) (R:(Array Value)→Int→World→Prop) (w:World):Prop:=
 Nw 36 l1 w fun (b3:Nat) (w_2:World)=>
 Nw 101 ⟨List.replicate 258 (.int .u32 0)⟩ w_2 fun (b5:Nat) (w_4:World)=>
 Nw 101 ⟨List.replicate 258 (.int .u32 0)⟩ w_4 fun (b7:Nat) (w_6:World)=>
 Ld (.arr 258) (⟨b3,0,none⟩:Addr) w_6 fun (x8:(Array Value))=>
 Cl Tryz.prog [kB] n_ref09_Valid ⟨[(.agg x8)]⟩ w_6 fun (r10:Bool) (w_9:World)=>
 IfB (!r10)
 (Ld (.arr 258) (⟨b7,0,none⟩:Addr) w_9 fun (x11:(Array Value))=>
 StA 258 (⟨b5,0,none⟩:Addr) x11 w_9 fun (w_12:World)=>
 Ld (.arr 258) (⟨b5,0,none⟩:Addr) w_12 fun (res13:(Array Value))=>
 R (res13) (2) w_12)
 (Ld (.arr 258) (⟨b3,0,none⟩:Addr) w_9 fun (x14:(Array Value))=>
 Cl Tryz.prog [kS] n_ref09_Order ⟨[(.agg x14)]⟩ w_9 fun (r16:Sl) (w_15:World)=>
 ∃(I_17:Int→World→Prop) (m_18:Int→World→Nat),I_17 (1) w_15∧
 ∀(i19:Int),∀(w_20:World),I_17 i19 w_20→
 IfB (decide ((i19:Int)<((r16.len:Int):Int)))
 (Idx r16 (i64 ((i19:Int) - (1:Int))) 1 fun (q21:Addr)=>
 Ld kI q21 w_20 fun (x22:Int)=>
 IdxP (⟨b7,0,none⟩:Addr) 258 x22 1 fun (q23:Addr)=>
 Ld (kInt .u32) q23 w_20 fun (x24:Int)=>
 Idx r16 (i64 ((i19:Int) - (1:Int))) 1 fun (q25:Addr)=>
 Ld kI q25 w_20 fun (x26:Int)=>
 IdxP (⟨b3,0,none⟩:Addr) 258 x26 1 fun (q27:Addr)=>
 Ld (kInt .u8) q27 w_20 fun (x28:Int)=>
 ∃(I_29:Int→Int→World→Prop) (m_30:Int→Int→World→Nat),I_29 ((u32 ((x24:Int)+(1:Int)))) (x28) w_20∧
 ∀(c31:Int) (k32:Int),∀(w_33:World),I_29 c31 k32 w_33→
 Idx r16 i19 1 fun (q34:Addr)=>
 Ld kI q34 w_33 fun (x35:Int)=>
 IdxP (⟨b3,0,none⟩:Addr) 258 x35 1 fun (q36:Addr)=>
 Ld (kInt .u8) q36 w_33 fun (x37:Int)=>
 IfB (decide ((k32:Int)<(x37:Int)))
 (I_29 ((u32 ((2:Int)*(c31:Int)))) ((u8 ((k32:Int)+(1:Int)))) w_33∧m_30 ((u32 ((2:Int)*(c31:Int)))) ((u8 ((k32:Int)+(1:Int)))) w_33<m_30 c31 k32 w_33)
 (Idx r16 i19 1 fun (q38:Addr)=>
 Ld kI q38 w_33 fun (x39:Int)=>
 IdxP (⟨b7,0,none⟩:Addr) 258 x39 1 fun (q40:Addr)=>
 St q40 (.int .u32 c31) w_33 fun (w_41:World)=>
 I_17 ((i64 ((i19:Int)+(1:Int)))) w_41∧m_18 ((i64 ((i19:Int)+(1:Int)))) w_41<m_18 i19 w_20))
 (Ld (.arr 258) (⟨b7,0,none⟩:Addr) w_20 fun (x42:(Array Value))=>
 StA 258 (⟨b5,0,none⟩:Addr) x42 w_20 fun (w_43:World)=>
 Ld (.arr 258) (⟨b5,0,none⟩:Addr) w_43 fun (res44:(Array Value))=>
 R (res44) (0) w_43))
set_option maxRecDepth 100000 in
theorem ref09_Codes.ok (l1:(Array Value)) (R:(Array Value)→Int→World→Prop) (w:World) (h:ref09_Codes.E l1 R w):Cl Tryz.prog [(.arr 258),kI] n_ref09_Codes ⟨[(.agg l1)]⟩ w R:=
 calls_of_eq Tryz.mix Tryz.f70 [(.agg l1)] [(.arr 258),kI] R 55 [.cell 2 101,.tmp 3] (by kernel_rfl) (by kernel_rfl) (by kernel_rfl) (by kernel_rfl) (by kernel_rfl)
  (.s .o (.s .o (.s (.s .o (.c (.s .o .o) .o)) (.s .o (.s (.s .o (.b (.l [(6,kI)] (.s (.s .o (.c .o .o)) (.s (.b (.s .o (.s (.s .o (.b (.l [(7,(kInt .u32)),(8,(kInt .u8))] (.s (.s .o (.c .o .o)) (.s (.b .o) .o))))) .o))) .o))))) (.s .o .o))))))
  (by kernel_rfl) h
def ref09_Valid.E (l1:(Array Value)) (R:Bool→World→Prop) (w:World):Prop:=
 Nw 36 l1 w fun (b3:Nat) (w_2:World)=>
 Ld (.arr 258) (⟨b3,0,none⟩:Addr) w_2 fun (x4:(Array Value))=>
 Cl Tryz.prog [kI] n_ref07_Sum ⟨[(.agg x4)]⟩ w_2 fun (r6:Int) (w_5:World)=>
 R ((decide ((r6:Int)≤(32768:Int)))) w_5
theorem ref09_Valid.ok (l1:(Array Value)) (R:Bool→World→Prop) (w:World) (h:ref09_Valid.E l1 R w):Cl Tryz.prog [kB] n_ref09_Valid ⟨[(.agg l1)]⟩ w R:=
 calls_of_eq Tryz.mix Tryz.f120 [(.agg l1)] [kB] R 6 [.tmp 2] (by kernel_rfl) (by kernel_rfl) (by kernel_rfl) (by kernel_rfl) (by kernel_rfl)
  (.s .o (.s .o .o))
  (by kernel_rfl) h
set_option maxRecDepth 100000 in
def ref09_Order.E (l1:(Array Value)) (R:Sl→World→Prop) (w:World):Prop:=
 Nw 36 l1 w fun (b3:Nat) (w_2:World)=>
 ∃(I_4:Sl→Int→World→Prop) (m_5:Sl→Int→World→Nat),I_4 ((⟨none,0,0⟩:Sl)) (1) w_2∧
 ∀(out6:Sl) (n7:Int),∀(w_8:World),I_4 out6 n7 w_8→
 IfB (decide ((n7:Int)≤(15:Int)))
 (Ld (.arr 258) (⟨b3,0,none⟩:Addr) w_8 fun (x9:(Array Value))=>
 Cl Tryz.prog [kB] n_ref09_Valid ⟨[(.agg x9)]⟩ w_8 fun (r11:Bool) (w_10:World)=>
 IfB r11
 (∃(I_12:Sl→Int→World→Prop) (m_13:Sl→Int→World→Nat),I_12 (out6) (0) w_10∧
 ∀(out14:Sl) (s15:Int),∀(w_16:World),I_12 out14 s15 w_16→
 IfB (decide ((s15:Int)<(258:Int)))
 (IdxP (⟨b3,0,none⟩:Addr) 258 s15 1 fun (q17:Addr)=>
 Ld (kInt .u8) q17 w_16 fun (x18:Int)=>
 IfB (((i64 x18):Int)==(n7:Int))
 (Nw 3 ⟨[(.int .i64 s15)]⟩ w_16 fun (b20:Nat) (w_19:World)=>
 Run Tryz.prog (Builtin.append_ #[33,33] 33 ⟨[(.slice out14.base out14.len out14.cap),(.slice (⟨some ⟨b20,0,none⟩,1,1⟩:Sl).base (⟨some ⟨b20,0,none⟩,1,1⟩:Sl).len (⟨some ⟨b20,0,none⟩,1,1⟩:Sl).cap)]⟩) kS w_19 fun (s22:Sl) (w_21:World)=>
 I_12 (s22) ((i64 ((s15:Int)+(1:Int)))) w_21∧m_13 (s22) ((i64 ((s15:Int)+(1:Int)))) w_21<m_13 out14 s15 w_16)
 (I_12 (out14) ((i64 ((s15:Int)+(1:Int)))) w_16∧m_13 (out14) ((i64 ((s15:Int)+(1:Int)))) w_16<m_13 out14 s15 w_16))
 (I_4 (out14) ((i64 ((n7:Int)+(1:Int)))) w_16∧m_5 (out14) ((i64 ((n7:Int)+(1:Int)))) w_16<m_5 out6 n7 w_8))
 (R (out6) w_10))
 (R (out6) w_8)
set_option maxRecDepth 100000 in
theorem ref09_Order.ok (l1:(Array Value)) (R:Sl→World→Prop) (w:World) (h:ref09_Order.E l1 R w):Cl Tryz.prog [kS] n_ref09_Order ⟨[(.agg l1)]⟩ w R:=
 calls_of_eq Tryz.mix Tryz.f121 [(.agg l1)] [kS] R 29 [.tmp 2] (by kernel_rfl) (by kernel_rfl) (by kernel_rfl) (by kernel_rfl) (by kernel_rfl)
  (.s .o (.s .o (.s (.s .o (.b (.l [(3,kS),(4,kI)] (.s (.s .o (.c .o .o)) (.s (.b (.s .o (.b (.l [(3,kS),(5,kI)] (.s (.s .o (.c .o .o)) (.s (.b (.s .o (.c .o .o))) .o)))))) .o))))) (.s .o .o))))
  (by kernel_rfl) h
end Go.Proofs.YtcdpblipagajiaaGreat
set_option maxRecDepth 20000
namespace Go.Srt
def ordL (l:List Nat) (N:Nat):List Nat:=(List.range N).flatMap fun n=>(List.range 258).filter fun s=>l.getD s 0==n+1
theorem ordL_mem {l:List Nat} {N s:Nat}:s∈ordL l N↔s<258∧0<l.getD s 0∧l.getD s 0≤N:=by
 unfold ordL
 simp only [List.mem_flatMap,List.mem_range,List.mem_filter,beq_iff_eq]
 constructor
 ·rintro ⟨n,h1,h2,h3⟩;omega
 ·rintro ⟨h1,h2,h3⟩;exact ⟨l.getD s 0 - 1,by omega,h1,by omega⟩
theorem ordL_sorted (l:List Nat) (N:Nat):(ordL l N).Pairwise fun a b=>l.getD a 0<l.getD b 0∨(l.getD a 0=l.getD b 0∧a<b):=by
 unfold ordL
 rw [List.pairwise_flatMap]
 refine ⟨fun n _=> ?_,?_⟩
 ·have h:(List.range 258).Pairwise fun a b=>a<b:=List.pairwise_lt_range
  refine List.Pairwise.imp_of_mem ?_ (h.filter _)
  intro a b ha hb hab
  have ha:=(List.mem_filter.1 ha).2
  have hb:=(List.mem_filter.1 hb).2
  rw [beq_iff_eq] at ha hb
  omega
 ·refine List.pairwise_lt_range.imp ?_
  intro m n hmn a ha b hb
  have ha:=(List.mem_filter.1 ha).2
  have hb:=(List.mem_filter.1 hb).2
  rw [beq_iff_eq] at ha hb
  omega
theorem ordL_ord {l:List Nat} (hl:l.length=258) (hv:ksum l≤32768):IsOrd l (ordL l 15):=by
 refine ⟨?_,ordL_sorted l 15⟩
 have n1:(ordL l 15).Nodup:=(ordL_sorted l 15).imp fun h=>by rintro rfl;omega
 have n2:(used l).Nodup:=(List.nodup_range).filter _
 rw [List.perm_ext_iff_of_nodup n1 n2]
 intro s
 rw [ordL_mem,used_mem,hl]
 have:=len15 hv s
 omega
theorem ordL_succ (l:List Nat) (N:Nat):ordL l (N+1)=ordL l N++(List.range 258).filter fun s=>l.getD s 0==N+1:=by
 unfold ordL
 rw [List.range_succ (n:=N),List.flatMap_append]
 simp
end Go.Srt
namespace Go.Proofs.YtcdpblipagajiaaGreat
open Go Go.Vc Go.Srt Go.Bits
section
variable {E w:World} {F:List HP}
theorem rValid9_c {l:List Nat} {K:Bool→World→Prop} (h:Hp E w F) (hl:l.length=258) (hK: ∀w',Hp E w' F→K (decide (ksum l≤32768)) w'):Cl Tryz.prog [kB] n_ref09_Valid ⟨[.agg (ai .u8 l)]⟩ w K:=by
 refine ref09_Valid.ok _ _ _ ?_
 unfold ref09_Valid.E
 refine Nw.mk h fun b w1 h1=>Ld.arr h1 (by rw [ai_size,hl]) (rsum_c h1 hl fun r w2 hr _ h2=> ?_)
 have:decide ((r:Int)≤32768)=decide (ksum l≤32768):=by rw [Bool.eq_iff_iff,decide_eq_true_eq,decide_eq_true_eq];omega
 rw [this]
 exact hK _ h2.drop
set_option maxRecDepth 20000 in
theorem rOrder9_c {l:List Nat} {K:Sl→World→Prop} (h:Hp E w F) (hl:l.length=258) (h8: ∀x∈l,x≤255) (hv:ksum l≤32768) (hK: ∀ys s w',IsOrd l ys→Hp E w' (OwnS 1 s ((ints ys).map vI)::F)→K s w'):Cl Tryz.prog [kS] n_ref09_Order ⟨[.agg (ai .u8 l)]⟩ w K:=by
 refine ref09_Order.ok _ _ _ ?_
 unfold ref09_Order.E
 have hlen: ∀N,(ordL l N).length≤258:=fun N=>by
  have h1:(ordL l N).Nodup:=(ordL_sorted l N).imp fun h=>by rintro rfl;omega
  have h2:ordL l N⊆List.range 258:=fun s hs=>by have:=(ordL_mem.1 hs).1;simpa using this
  have:=h1.length_le_of_subset h2
  simpa using this
 refine Nw.mk h fun b w1 h1=> ?_
 refine ⟨fun o n w'=> ∃N:Nat,n=(N:Int)+1∧N≤15∧Hp E w' (OwnS 1 o ((ints (ordL l N)).map vI)::Blk b (.cells (ai .u8 l) 36 (0,0))::F),fun _ n _=>20 - n.toNat,⟨0,rfl,by omega,h1.ownNil 1⟩,?_⟩
 rintro o n w' ⟨N,rfl,hN,hh⟩
 refine IfB.mk (fun hlt=> ?_) (fun hge=> ?_)
 ·have hlt:N<15:=by have:=of_decide_eq_true hlt;omega
  refine Ld.arr hh.p1 (by rw [ai_size,hl]) (rValid9_c hh hl fun w2 h2=>IfB.t (decide_eq_true hv) ?_)
  refine ⟨fun o s w'=> ∃k:Nat,s=(k:Int)∧k≤258∧Hp E w' (OwnS 1 o ((ints (ordL l N++(List.range k).filter fun s=>l.getD s 0==N+1)).map vI)::Blk b (.cells (ai .u8 l) 36 (0,0))::F),fun _ s _=>258 - s.toNat,⟨0,rfl,by omega,by simpa using h2⟩,?_⟩
  rintro o2 s w3 ⟨k,rfl,hk,h3⟩
  refine IfB.mk (fun hlt2=> ?_) (fun hge2=> ?_)
  ·have hlt2:k<258:=by have:=of_decide_eq_true hlt2;omega
   have hg:l.getD k 0≤255:=by rw [getD_get (by omega)];exact h8 _ (List.getElem_mem _)
   have hrs:(List.range (k+1)).filter (fun s=>l.getD s 0==N+1)=(List.range k).filter (fun s=>l.getD s 0==N+1)++if l.getD k 0=N+1 then [k] else []:=by
    rw [List.range_succ,List.filter_append]
    congr 1
    by_cases e:l.getD k 0=N+1
    ·rw [if_pos e,List.filter_cons_of_pos (by rw [beq_iff_eq];exact e)];rfl
    ·rw [if_neg e,List.filter_cons_of_neg (by rw [beq_iff_eq];exact e)];rfl
   refine IdxP.rd (s:= .int .u8) h3.p1 (by omega) (by omega) (l.getD k 0:Int) (getN (by omega)) ?_
   rw [i64_id (x:=(l.getD k 0:Int)) (by omega),i64_id (x:=(k:Int)+1) (by omega)]
   refine IfB.mk (fun heq=> ?_) (fun hne=> ?_)
   ·have heq:l.getD k 0=N+1:=by rw [beq_iff_eq] at heq;omega
    rw [if_pos heq] at hrs
    have hol:=h3.ownLen
    have hl1:=hlen N
    have hl2:=List.length_filter_le (fun s=>l.getD s 0==N+1) (List.range k)
    rw [List.length_range] at hl2
    rw [List.length_map,ints,List.length_map,List.length_append,Nat.mul_one] at hol
    refine Nw.mk h3 fun b20 w4 h4=>run_append (ys:= [vI (k:Int)]) (n:=1) ty_ints (by decide) (.inl ⟨3,by kernel_rfl⟩) h4.p1 (.inl ⟨some ⟨b20,0,none⟩,1,1,rfl,rfl,h4.tells (Tells.blk rfl rfl)⟩) rfl one_scalar (by omega) (by omega) fun s' w5 h5 hs'=>⟨⟨k+1,rfl,by omega,?_⟩,by dsimp only;omega⟩
    rw [hrs,←List.append_assoc,ints_app,List.map_append]
    exact h5.p1.drop
   ·have hne:l.getD k 0≠N+1:=by have:=beq_eq_false_iff_ne.1 hne;omega
    rw [if_neg hne,List.append_nil] at hrs
    exact ⟨⟨k+1,rfl,by omega,by rw [hrs];exact h3⟩,by dsimp only;omega⟩
  ·have hge2:k=258:=by have:=of_decide_eq_false hge2;omega
   subst hge2
   rw [i64_id (by omega)]
   rw [←ordL_succ] at h3
   exact ⟨⟨N+1,by omega,by omega,h3⟩,by dsimp only;omega⟩
 ·have hge:N=15:=by have:=of_decide_eq_false hge;omega
  subst hge
  exact hK _ _ _ (ordL_ord hl hv) hh.p1.drop
set_option maxRecDepth 20000 in
theorem rCodes9_c {l:List Nat} {K:Array Value→Int→World→Prop} (h:Hp E w F) (hl:l.length=258) (h8: ∀x∈l,x≤255) (hK1: ¬ksum l≤32768→∀w',Hp E w' F→K (ai .u32 (List.replicate 258 0)) 2 w')
  (hK2:ksum l≤32768→∀ys w',IsOrd l ys→Hp E w' F→K (ai .u32 (codesTo l ys ys.length)) 0 w'):Cl Tryz.prog [.arr 258,kI] n_ref09_Codes ⟨[.agg (ai .u8 l)]⟩ w K:=by
 refine ref09_Codes.ok _ _ _ ?_
 unfold ref09_Codes.E
 rw [ai_zero]
 have hz:(ai .u32 (List.replicate 258 0)).size=258:=by rw [ai_size];exact List.length_replicate
 refine Nw.mk h fun b3 w1 h1=>Nw.mk h1 fun b5 w2 h2=>Nw.mk h2 fun b7 w3 h3=>Ld.arr h3.p2 (by rw [ai_size,hl]) (rValid9_c h3 hl fun w4 h4=>IfB.mk (fun hv=> ?_) (fun hv=> ?_))
 ·have hv: ¬ksum l≤32768:=by simpa using hv
  exact Ld.arr h4 hz (StA.blk h4.p1 hz hz ai_scalar fun w5 h5=>Ld.arr h5 hz (hK1 hv w5 h5.drop.drop.drop))
 have hv:ksum l≤32768:=by simpa using hv
 refine Ld.arr h4.p2 (by rw [ai_size,hl]) (rOrder9_c h4 hl h8 hv fun ys so w5 hys h5=> ?_)
 have hpl:=h5.ownLen
 simp only [ints,List.length_map,Nat.mul_one] at hpl
 have hylen:=ord_le hl hys
 have sized: ∀i,(ai .u32 (codesTo l ys i)).size=258:=fun i=>by rw [ai_size,codesTo_len]
 have hc1:0<ys.length→codesTo l ys 1=List.replicate 258 0:=fun h0=>by
  rw [codesTo,codesTo]
  have:codeAt l ys 0=0:=by unfold codeAt Srt.start;simp
  rw [this,List.set_replicate_self]
 have fin: ∀w' k,k=ys.length→Hp E w' (OwnS 1 so ((ints ys).map vI)::Blk b7 (.cells (ai .u32 (codesTo l ys k)) 101 (0,0))::Blk b5 (.cells (ai .u32 (List.replicate 258 0)) 101 (0,0))::Blk b3 (.cells (ai .u8 l) 36 (0,0))::F)→
   Ld (.arr 258) (⟨b7,0,none⟩:Addr) w' fun (x42:(Array Value))=>StA 258 (⟨b5,0,none⟩:Addr) x42 w' fun (w_43:World)=>Ld (.arr 258) (⟨b5,0,none⟩:Addr) w_43 fun (res44:(Array Value))=>K res44 0 w_43:=by
  rintro w' k rfl h'
  exact Ld.arr h'.p1 (sized _) (StA.blk h'.p2 hz (sized _) ai_scalar fun w6 h6=>Ld.arr h6 (sized _) (hK2 hv ys w6 hys h6.drop.drop.drop.drop))
 refine ⟨fun i w'=> ∃k:Nat,i=(k:Int)∧1≤k∧(k≤ys.length∨(ys.length=0∧k=1))∧Hp E w' (OwnS 1 so ((ints ys).map vI)::Blk b7 (.cells (ai .u32 (codesTo l ys (if ys.length=0 then 0 else k))) 101 (0,0))::Blk b5 (.cells (ai .u32 (List.replicate 258 0)) 101 (0,0))::Blk b3 (.cells (ai .u8 l) 36 (0,0))::F),
  fun i _=>ys.length+1 - i.toNat,⟨1,rfl,by omega,by omega,?_⟩,?_⟩
 ·by_cases e:ys.length=0
  ·rw [if_pos e];exact h5
  ·rw [if_neg e,hc1 (by omega)];exact h5
 rintro i w6 ⟨k,rfl,hk1,hk,hh⟩
 refine IfB.mk (fun hlt=> ?_) (fun hge=>fin w6 (if ys.length=0 then 0 else k) ?_ hh)
 ·have hlt:k<ys.length:=by have:=of_decide_eq_true hlt;omega
  rw [if_neg (by omega)] at hh
  obtain ⟨j,rfl⟩: ∃j,k=j+1:=⟨k - 1,by omega⟩
  have hj:j<ys.length:=by omega
  have hin0:=ord_in hl hys _ (List.getElem_mem hj)
  have hin1:=ord_in hl hys _ (List.getElem_mem hlt)
  have h15a:=len15 hv ys[j]
  have h15b:=len15 hv ys[j+1]
  have hmono:=ord_len hys hlt (show j≤j+1 by omega)
  rw [i64_id (x:=((j+1:Nat):Int) - 1) (by omega),show ((j+1:Nat):Int) - 1=(j:Int) by omega]
  have rdo: ∀{w':World} {F':List HP} {m:Nat} {K:Int→Prop} (hm:m<ys.length),Hp E w' (OwnS 1 so ((ints ys).map vI)::F')→K (ys[m]:Int)→Idx so (m:Int) 1 fun q=>Ld kI q w' K:=fun {w' F' m K} hm h' hK=>by
   refine Idx.rd (h'.tells Tells.own) (by omega) (by omega) fun q hq hc=>Ld.sc (s:= .int .i64) (ys[m]:Int) (by rw [hc];simp [ints,vI,Sc.enc]) hK
  have hca:=codesTo_at hys (fun s hs=>(ord_in hl hys s hs).1) (j+1) (by omega) j hj (by omega)
  have hcl:=codeAt_lt hv hys hj
  have hp:2^l.getD ys[j] 0≤2^15:=Nat.pow_le_pow_right (by decide) h15a
  have hp2:(2:Nat)^15=32768:=by decide
  refine rdo hj hh (IdxP.rd (s:= .int .u32) hh.p1 (by omega) (by omega) ((codesTo l ys (j+1)).getD ys[j] 0:Int) (getN (by rw [codesTo_len];omega)) ?_)
  refine rdo hj hh (IdxP.rd (s:= .int .u8) hh.p3 (by omega) (by omega) (l.getD ys[j] 0:Int) (getN (by omega)) ?_)
  rw [hca,u32_id (by omega)]
  have hnew:(codeAt l ys j+1)*2^(l.getD ys[j+1] 0 - l.getD ys[j] 0)=codeAt l ys (j+1):=by
   have e1:=codeAt_mul hys hj
   have e2:=codeAt_mul hys hlt
   have e3:=start_succ (l:=l) hj
   refine Nat.eq_of_mul_eq_mul_right (sh_pos l ys[j+1]) ?_
   rw [e2,e3,←e1,Nat.mul_assoc]
   have:2^(l.getD ys[j+1] 0 - l.getD ys[j] 0)*sh l ys[j+1]=sh l ys[j]:=by
    unfold sh;rw [←Nat.pow_add];congr 1;omega
   rw [this,Nat.succ_mul]
  have hcl1:=codeAt_lt hv hys hlt
  have hp1:2^l.getD ys[j+1] 0≤2^15:=Nat.pow_le_pow_right (by decide) h15b
  refine ⟨fun c kk w'=> ∃n:Nat,kk=((l.getD ys[j] 0+n:Nat):Int)∧l.getD ys[j] 0+n≤l.getD ys[j+1] 0∧c=(((codeAt l ys j+1)*2^n:Nat):Int)∧Hp E w' (OwnS 1 so ((ints ys).map vI)::Blk b7 (.cells (ai .u32 (codesTo l ys (j+1))) 101 (0,0))::Blk b5 (.cells (ai .u32 (List.replicate 258 0)) 101 (0,0))::Blk b3 (.cells (ai .u8 l) 36 (0,0))::F),
   fun _ kk _=>16 - kk.toNat,⟨0,by omega,by omega,by simp,hh⟩,?_⟩
  rintro c kk w7 ⟨n,rfl,hn,rfl,h7⟩
  refine rdo hlt h7 (IdxP.rd (s:= .int .u8) h7.p3 (by omega) (by omega) (l.getD ys[j+1] 0:Int) (getN (by omega)) (IfB.mk (fun hl2=> ?_) (fun hg2=> ?_)))
  ·have hl2:=of_decide_eq_true hl2
   have hle:(codeAt l ys j+1)*2^(n+1)≤codeAt l ys (j+1):=by
    rw [←hnew];exact Nat.mul_le_mul_left _ (Nat.pow_le_pow_right (by decide) (by omega))
   have hpw:(codeAt l ys j+1)*2^(n+1)=2*((codeAt l ys j+1)*2^n):=by rw [Nat.pow_succ,←Nat.mul_assoc,Nat.mul_comm]
   rw [u32_id (by omega),u8_id (by omega)]
   exact ⟨⟨n+1,by omega,by omega,by rw [hpw];omega,h7⟩,by dsimp only;omega⟩
  ·have hg2:=of_decide_eq_false hg2
   have hne:l.getD ys[j+1] 0 - l.getD ys[j] 0=n:=by omega
   rw [hne] at hnew
   rw [hnew]
   refine rdo hlt h7 (IdxP.wr h7.p1 (by omega) (by omega) (sized _) rfl fun w8 h8=> ?_)
   rw [Int.toNat_natCast,ai_set] at h8
   rw [i64_id (by omega)]
   refine ⟨⟨j+1+1,by omega,by omega,by omega,?_⟩,by dsimp only;omega⟩
   rw [if_neg (by omega)]
   have:codesTo l ys (j+1+1)=(codesTo l ys (j+1)).set ys[j+1] (codeAt l ys (j+1)):=by rw [codesTo,getD_at hlt]
   rw [this]
   exact h8.p1
 ·have:=of_decide_eq_false hge
  by_cases e:ys.length=0
  ·rw [if_pos e];omega
  ·rw [if_neg e];omega
end
end Go.Proofs.YtcdpblipagajiaaGreat
namespace Go.Proofs.YtcdpblipagajiaaGreat
open Go Go.Vc
set_option maxRecDepth 100000 in
def ref11_Bits.E (l1:(Array Value)) (symbols2:Sl) (R:Sl→Bool→World→Prop) (w:World):Prop:=
 Nw 36 l1 w fun (b4:Nat) (w_3:World)=>
 Ld (.arr 258) (⟨b4,0,none⟩:Addr) w_3 fun (x5:(Array Value))=>
 Cl Tryz.prog [(.arr 258),kI] n_ref09_Codes ⟨[(.agg x5)]⟩ w_3 fun (r7:(Array Value)) (r8:Int) (w_6:World)=>
 Nw 101 ⟨List.replicate 258 (.int .u32 0)⟩ w_6 fun (b10:Nat) (w_9:World)=>
 StA 258 (⟨b10,0,none⟩:Addr) r7 w_9 fun (w_11:World)=>
 IfB ((r8:Int) !=(0:Int))
 (R ((⟨none,0,0⟩:Sl)) (false) w_11)
 (∃(I_12:Sl→Int→World→Prop) (m_13:Sl→Int→World→Nat),I_12 ((⟨none,0,0⟩:Sl)) (0) w_11∧
 ∀(out14:Sl) (i15:Int),∀(w_16:World),I_12 out14 i15 w_16→
 IfB (decide ((i15:Int)<((symbols2.len:Int):Int)))
 (Idx symbols2 i15 1 fun (q17:Addr)=>
 Ld kI q17 w_16 fun (x18:Int)=>
 Join (fun (w_22:World)=>
 IdxP (⟨b4,0,none⟩:Addr) 258 x18 1 fun (q23:Addr)=>
 Ld (kInt .u8) q23 w_22 fun (x24:Int)=>
 ∃(I_25:Sl→Int→World→Prop) (m_26:Sl→Int→World→Nat),I_25 (out14) ((i64 (((i64 x24):Int) - (1:Int)))) w_22∧
 ∀(out27:Sl) (k28:Int),∀(w_29:World),I_25 out27 k28 w_29→
 IfB (decide ((k28:Int)≥(0:Int)))
 (IdxP (⟨b10,0,none⟩:Addr) 258 x18 1 fun (q30:Addr)=>
 Ld (kInt .u32) q30 w_29 fun (x31:Int)=>
 0≤((u64 k28):Int)∧
 Nw 3 ⟨[(.int .i64 (i64 (iand .u32 ((ishr .u32 (x31:Int) ((u64 k28):Int)):Int) (1:Int))))]⟩ w_29 fun (b33:Nat) (w_32:World)=>
 Run Tryz.prog (Builtin.append_ #[33,33] 33 ⟨[(.slice out27.base out27.len out27.cap),(.slice (⟨some ⟨b33,0,none⟩,1,1⟩:Sl).base (⟨some ⟨b33,0,none⟩,1,1⟩:Sl).len (⟨some ⟨b33,0,none⟩,1,1⟩:Sl).cap)]⟩) kS w_32 fun (s35:Sl) (w_34:World)=>
 I_25 (s35) ((i64 ((k28:Int) - (1:Int)))) w_34∧m_26 (s35) ((i64 ((k28:Int) - (1:Int)))) w_34<m_26 out27 k28 w_29)
 (I_12 (out27) ((i64 ((i15:Int)+(1:Int)))) w_29∧m_13 (out27) ((i64 ((i15:Int)+(1:Int)))) w_29<m_13 out14 i15 w_16)) fun (K_19:World→Prop)=>
 IfB (decide ((x18:Int)<(0:Int)))
 (R ((⟨none,0,0⟩:Sl)) (false) w_16)
 (IfB (decide ((x18:Int)≥(258:Int)))
 (R ((⟨none,0,0⟩:Sl)) (false) w_16)
 (IdxP (⟨b4,0,none⟩:Addr) 258 x18 1 fun (q20:Addr)=>
 Ld (kInt .u8) q20 w_16 fun (x21:Int)=>
 IfB ((x21:Int)==(0:Int))
 (R ((⟨none,0,0⟩:Sl)) (false) w_16)
 (K_19 w_16))))
 (R (out14) (true) w_16))
set_option maxRecDepth 100000 in
theorem ref11_Bits.ok (l1:(Array Value)) (symbols2:Sl) (R:Sl→Bool→World→Prop) (w:World) (h:ref11_Bits.E l1 symbols2 R w):Cl Tryz.prog [kS,kB] n_ref11_Bits ⟨[(.agg l1),(.slice symbols2.base symbols2.len symbols2.cap)]⟩ w R:=
 calls_of_eq Tryz.mix Tryz.f25 [(.agg l1),(.slice symbols2.base symbols2.len symbols2.cap)] [kS,kB] R 62 [.tmp 4,.tmp 5] (by kernel_rfl) (by kernel_rfl) (by kernel_rfl) (by kernel_rfl) (by kernel_rfl)
  (.s .o (.s .o (.s (.s .o (.c (.s .o .o) .o)) (.s .o (.s (.s .o (.b (.l [(8,kS),(9,kI)] (.s (.s .o (.c .o .o)) (.s (.b (.s .o (.j [] (.s .o (.c (.s .o .o) .o)) (.s .o (.b (.l [(8,kS),(11,kI)] (.s (.s .o (.c .o .o)) (.s (.b .o) .o)))))))) .o))))) (.s .o .o))))))
  (by kernel_rfl) h
end Go.Proofs.YtcdpblipagajiaaGreat
set_option maxRecDepth 20000
namespace Go.Proofs.YtcdpblipagajiaaGreat
open Go Go.Vc Go.Srt Go.Bits
section
variable {E w:World} {F:List HP}
set_option maxRecDepth 20000 in
theorem rBits_c {l:List Nat} {s:Sl} {zs:List Int} {K:Sl→Bool→World→Prop} (h:Hp E w F) (hl:l.length=258) (h8: ∀x∈l,x≤255) (hs:Tells F (SlT 1 s (zs.map vI))) (hn:zs.length≤100000)
  (hK1: ¬(ksum l≤32768∧allG l zs=true)→∀w',Hp E w' F→K ⟨none,0,0⟩ false w') (hK2:ksum l≤32768→allG l zs=true→∀s' w',Hp E w' (OwnS 1 s' ((ints (encZ l zs)).map vI)::F)→K s' true w'):
  Cl Tryz.prog [kS,kB] n_ref11_Bits ⟨[.agg (ai .u8 l),.slice s.base s.len s.cap]⟩ w K:=by
 refine ref11_Bits.ok _ _ _ _ ?_
 unfold ref11_Bits.E
 simp only [Join_eq]
 rw [ai_zero]
 have hsl:=(h.tells hs).1
 simp only [List.length_map,Nat.mul_one] at hsl
 refine Nw.mk h fun b4 w1 h1=>Ld.arr h1 (by rw [ai_size,hl]) (rCodes9_c h1 hl h8 (fun hv w2 h2=> ?_) (fun hv ys w2 hys h2=> ?_))
 ·exact Nw.mk h2 fun b10 w3 h3=>StA.blk h3 (by rw [ai_size];simp) (by rw [ai_size];simp) ai_scalar fun w4 h4=>IfB.t (by decide) (hK1 (fun hh=>hv hh.1) w4 h4.drop.drop)
 refine Nw.mk h2 fun b10 w3 h3=>StA.blk h3 (by rw [ai_size];simp) (by rw [ai_size,codesTo_len]) ai_scalar fun w4 h4=>IfB.f (by decide) ?_
 refine ⟨fun o i w'=> ∃k:Nat,i=(k:Int)∧k≤zs.length∧allG l (zs.take k)=true∧Hp E w' (OwnS 1 o ((ints (encZ l (zs.take k))).map vI)::Blk b10 (.cells (ai .u32 (codesTo l ys ys.length)) 101 (0,0))::Blk b4 (.cells (ai .u8 l) 36 (0,0))::F),fun _ i _=>zs.length - i.toNat,⟨0,rfl,by omega,rfl,h4.ownNil 1⟩,?_⟩
 rintro o i w5 ⟨k,rfl,hk,hg,hh⟩
 refine IfB.mk (fun hlt=> ?_) (fun hge=> ?_)
 ·have hlt:k<zs.length:=by have:=of_decide_eq_true hlt;omega
  have bad:goodI l zs[k]=false→K ⟨none,0,0⟩ false w5:=fun hb=>hK1 (fun hh=>by rw [allG_not hlt hb] at hh;exact absurd hh.2 (by decide)) w5 hh.drop.drop.drop
  refine Idx.rd (hh.tells (Tells.cons (Tells.cons (Tells.cons hs)))) (by omega) (by omega) fun q hq hc=>Ld.sc (s:= .int .i64) zs[k] (by rw [hc];simp [vI,Sc.enc]) ?_
  refine IfB.mk (fun h0=>bad ?_) (fun h0=>IfB.mk (fun h1=>bad ?_) (fun h1=> ?_))
  ·have:=of_decide_eq_true h0
   unfold goodI;rw [decide_eq_false (show¬0≤zs[k] by omega)];rfl
  ·have:=of_decide_eq_true h1
   unfold goodI;rw [decide_eq_false (show¬zs[k]<258 by omega)];simp
  have h0:=of_decide_eq_false h0
  have h1:=of_decide_eq_false h1
  obtain ⟨m,hm⟩: ∃m:Nat,zs[k]=(m:Int):=⟨zs[k].toNat,by omega⟩
  have hm2:zs[k].toNat=m:=by omega
  rw [hm]
  refine IdxP.rd (s:= .int .u8) hh.p2 (by omega) (by omega) (l.getD m 0:Int) (getN (by omega)) (IfB.mk (fun hz=>bad ?_) (fun hz=> ?_))
  ·have:l.getD m 0=0:=by rw [beq_iff_eq] at hz;omega
   unfold goodI;rw [hm2,this];simp
  have hz:0<l.getD m 0:=by have:=beq_eq_false_iff_ne.1 hz;omega
  have h15:=len15 hv m
  have hle:=encZ_le hv (zs.take k)
  rw [List.length_take] at hle
  have hcl:=code_lt hl hv (show m<258 by omega) hz
  have hp:2^l.getD m 0≤2^15:=Nat.pow_le_pow_right (by decide) h15
  have hp2:(2:Nat)^15=32768:=by decide
  refine IdxP.rd (s:= .int .u8) hh.p2 (by omega) (by omega) (l.getD m 0:Int) (getN (by omega)) ?_
  rw [i64_id (x:=(l.getD m 0:Int)) (by omega),i64_id (x:=(l.getD m 0:Int) - 1) (by omega),i64_id (x:=(k:Int)+1) (by omega)]
  have hel:=encB_len l m
  refine ⟨fun o2 kk w'=> ∃j:Nat,kk=(l.getD m 0:Int) - 1 - (j:Int)∧j≤l.getD m 0∧Hp E w' (OwnS 1 o2 ((ints (encZ l (zs.take k)++(encB l m).take j)).map vI)::Blk b10 (.cells (ai .u32 (codesTo l ys ys.length)) 101 (0,0))::Blk b4 (.cells (ai .u8 l) 36 (0,0))::F),fun _ kk _=>(kk+1).toNat,
   ⟨0,by omega,by omega,by simpa using hh⟩,?_⟩
  rintro o2 kk w6 ⟨j,rfl,hj,h6⟩
  refine IfB.mk (fun hge2=> ?_) (fun hlt2=> ?_)
  ·have hj2:j<l.getD m 0:=by have:=of_decide_eq_true hge2;omega
   refine IdxP.rd (s:= .int .u32) h6.p1 (by omega) (by omega) ((codesTo l ys ys.length).getD m 0:Int) (getN (by rw [codesTo_len];omega)) ?_
   rw [codes_code hl hv hys (by omega) hz,u64_id (by omega),show (l.getD m 0:Int) - 1 - (j:Int)=((l.getD m 0 - 1 - j:Nat):Int) by omega]
   have hd:=Nat.div_le_self (code l m) (2^(l.getD m 0 - 1 - j))
   have e1:iand .u32 (ishr .u32 (code l m:Int) ((l.getD m 0 - 1 - j:Nat):Int)) 1=((code l m/2^(l.getD m 0 - 1 - j) % 2:Nat):Int):=by
    have hmx:IntKind.max .u32=4294967295:=rfl
    rw [ishr_nat (by have:IntKind.bits .u32=32:=rfl;omega),show (1:Int)=((1:Nat):Int) from rfl,iand_nat (by omega) (by omega),Nat.and_one_is_mod]
   rw [e1,i64_id (x:=((code l m/2^(l.getD m 0 - 1 - j) % 2:Nat):Int)) (by omega)]
   refine ⟨by omega,?_⟩
   have hol:=h6.ownLen
   rw [List.length_map,ints,List.length_map,List.length_append,List.length_take,hel,Nat.mul_one] at hol
   refine Nw.mk h6 fun b33 w7 h7=>run_append (ys:= [vI ((code l m/2^(l.getD m 0 - 1 - j) % 2:Nat):Int)]) (n:=1) ty_ints (by decide) (.inl ⟨3,by kernel_rfl⟩) h7.p1 (.inl ⟨some ⟨b33,0,none⟩,1,1,rfl,rfl,h7.tells (Tells.blk rfl rfl)⟩) rfl one_scalar (by omega) (by omega) fun s' w8 h8 hs'=>⟨⟨j+1,by rw [i64_id (by omega)];omega,by omega,?_⟩,by dsimp only;rw [i64_id (by omega)];omega⟩
   have e2:(encB l m).take (j+1)=(encB l m).take j++ [code l m/2^(l.getD m 0 - 1 - j) % 2]:=by
    have hjl:j<(encB l m).length:=by omega
    rw [List.take_add_one,List.getElem?_eq_getElem hjl]
    have:=bn_get (l.getD m 0) (code l m) j hj2
    rw [←this]
    show _=_++ [(encB l m).getD j 0]
    rw [getD_get hjl];rfl
   rw [e2,←List.append_assoc,ints_app,List.map_append]
   exact h8.p1.drop
  ·have hj2:j=l.getD m 0:=by have:=of_decide_eq_false hlt2;omega
   subst hj2
   rw [List.take_of_length_le (l:=encB l m) (by omega)] at h6
   refine ⟨⟨k+1,by omega,by omega,allG_take hlt hg (goodI_iff.2 ⟨by omega,by omega,by rw [hm2];exact hz⟩),?_⟩,by dsimp only;omega⟩
   rw [encZ_take hlt,hm2]
   exact h6
 ·have hge:k=zs.length:=by have:=of_decide_eq_false hge;omega
  subst hge
  rw [List.take_length] at hg hh
  exact hK2 hv hg _ _ hh.p1.drop.p1.drop
end
end Go.Proofs.YtcdpblipagajiaaGreat
namespace Go.Proofs.YtcdpblipagajiaaGreat
open Go Go.Vc
def ref17_Turned.E (text1:Sl) (R:Sl→World→Prop) (w:World):Prop:=
 ∃(I_2:Sl→Int→World→Prop) (m_3:Sl→Int→World→Nat),I_2 ((⟨none,0,0⟩:Sl)) ((i64 (((text1.len:Int):Int) - (1:Int)))) w∧
 ∀(out4:Sl) (i5:Int),∀(w_6:World),I_2 out4 i5 w_6→
 IfB (decide ((i5:Int)≥(0:Int)))
 (Idx text1 i5 1 fun (q7:Addr)=>
 Ld (kInt .u8) q7 w_6 fun (x8:Int)=>
 Nw 5 ⟨[(.int .u8 x8)]⟩ w_6 fun (b10:Nat) (w_9:World)=>
 Run Tryz.prog (Builtin.append_ #[22,22] 22 ⟨[(.slice out4.base out4.len out4.cap),(.slice (⟨some ⟨b10,0,none⟩,1,1⟩:Sl).base (⟨some ⟨b10,0,none⟩,1,1⟩:Sl).len (⟨some ⟨b10,0,none⟩,1,1⟩:Sl).cap)]⟩) kS w_9 fun (s12:Sl) (w_11:World)=>
 I_2 (s12) ((i64 ((i5:Int) - (1:Int)))) w_11∧m_3 (s12) ((i64 ((i5:Int) - (1:Int)))) w_11<m_3 out4 i5 w_6)
 (R (out4) w_6)
theorem ref17_Turned.ok (text1:Sl) (R:Sl→World→Prop) (w:World) (h:ref17_Turned.E text1 R w):Cl Tryz.prog [kS] n_ref17_Turned ⟨[(.slice text1.base text1.len text1.cap)]⟩ w R:=
 calls_of_eq Tryz.mix Tryz.f30 [(.slice text1.base text1.len text1.cap)] [kS] R 20 [.tmp 2] (by kernel_rfl) (by kernel_rfl) (by kernel_rfl) (by kernel_rfl) (by kernel_rfl)
  (.s .o (.s .o (.s (.s .o (.b (.l [(3,kS),(4,kI)] (.s (.s .o (.c .o .o)) (.s (.b .o) .o))))) (.s .o .o))))
  (by kernel_rfl) h
set_option maxRecDepth 100000 in
def ref17_Turn.E (text1:Sl) (R:Sl→Int→World→Prop) (w:World):Prop:=
 Cl Tryz.prog [kS] n_ref17_Order ⟨[(.slice text1.base text1.len text1.cap)]⟩ w fun (r3:Sl) (w_2:World)=>
 ∃(I_4:Sl→Int→Int→World→Prop) (m_5:Sl→Int→Int→World→Nat),I_4 ((⟨none,0,0⟩:Sl)) (0) (0) w_2∧
 ∀(last6:Sl) (index7:Int) (row8:Int),∀(w_9:World),I_4 last6 index7 row8 w_9→
 IfB (decide ((row8:Int)<((r3.len:Int):Int)))
 (Idx r3 row8 1 fun (q10:Addr)=>
 Ld kI q10 w_9 fun (x11:Int)=>
 IfB ((x11:Int)==(0:Int))
 (I_4 (last6) (row8) ((i64 ((row8:Int)+(1:Int)))) w_9∧m_5 (last6) (row8) ((i64 ((row8:Int)+(1:Int)))) w_9<m_5 last6 index7 row8 w_9)
 (Idx r3 row8 1 fun (q12:Addr)=>
 Ld kI q12 w_9 fun (x13:Int)=>
 Idx text1 (i64 ((x13:Int) - (1:Int))) 1 fun (q14:Addr)=>
 Ld (kInt .u8) q14 w_9 fun (x15:Int)=>
 Nw 5 ⟨[(.int .u8 x15)]⟩ w_9 fun (b17:Nat) (w_16:World)=>
 Run Tryz.prog (Builtin.append_ #[22,22] 22 ⟨[(.slice last6.base last6.len last6.cap),(.slice (⟨some ⟨b17,0,none⟩,1,1⟩:Sl).base (⟨some ⟨b17,0,none⟩,1,1⟩:Sl).len (⟨some ⟨b17,0,none⟩,1,1⟩:Sl).cap)]⟩) kS w_16 fun (s19:Sl) (w_18:World)=>
 I_4 (s19) (index7) ((i64 ((row8:Int)+(1:Int)))) w_18∧m_5 (s19) (index7) ((i64 ((row8:Int)+(1:Int)))) w_18<m_5 last6 index7 row8 w_9))
 (R (last6) (index7) w_9)
set_option maxRecDepth 100000 in
theorem ref17_Turn.ok (text1:Sl) (R:Sl→Int→World→Prop) (w:World) (h:ref17_Turn.E text1 R w):Cl Tryz.prog [kS,kI] n_ref17_Turn ⟨[(.slice text1.base text1.len text1.cap)]⟩ w R:=
 calls_of_eq Tryz.mix Tryz.f62 [(.slice text1.base text1.len text1.cap)] [kS,kI] R 35 [.tmp 2,.tmp 3] (by kernel_rfl) (by kernel_rfl) (by kernel_rfl) (by kernel_rfl) (by kernel_rfl)
  (.s .o (.s .o (.s .o (.s .o (.s (.s .o (.b (.l [(4,kS),(5,kI),(7,kI)] (.s (.s .o (.c .o .o)) (.s (.b (.s .o (.c .o .o))) .o))))) (.s .o .o))))))
  (by kernel_rfl) h
set_option maxRecDepth 100000 in
def ref17_Order.E (text1:Sl) (R:Sl→World→Prop) (w:World):Prop:=
 ∃(I_2:Sl→Int→World→Prop) (m_3:Sl→Int→World→Nat),I_2 ((⟨none,0,0⟩:Sl)) (0) w∧
 ∀(out4:Sl) (i5:Int),∀(w_6:World),I_2 out4 i5 w_6→
 IfB (decide ((i5:Int)≤((text1.len:Int):Int)))
 (∃(I_7:Int→World→Prop) (m_8:Int→World→Nat),I_7 ((out4.len:Int)) w_6∧
 ∀(k9:Int),∀(w_10:World),I_7 k9 w_10→
 IfB (decide ((k9:Int)>(0:Int)))
 (Idx out4 (i64 ((k9:Int) - (1:Int))) 1 fun (q11:Addr)=>
 Ld kI q11 w_10 fun (x12:Int)=>
 Cl Tryz.prog [kB] n_ref17_Less ⟨[(.slice text1.base text1.len text1.cap),(.int .i64 i5),(.int .i64 x12)]⟩ w_10 fun (r14:Bool) (w_13:World)=>
 IfB r14
 (I_7 ((i64 ((k9:Int) - (1:Int)))) w_13∧m_8 ((i64 ((k9:Int) - (1:Int)))) w_13<m_8 k9 w_10)
 (Slc out4 0 k9 (out4).cap 1 fun (s15:Sl)=>
 Run Tryz.prog (Builtin.append_ #[33,33] 33 ⟨[(.slice none 0 0),(.slice s15.base s15.len s15.cap)]⟩) kS w_13 fun (s17:Sl) (w_16:World)=>
 Nw 3 ⟨[(.int .i64 i5)]⟩ w_16 fun (b19:Nat) (w_18:World)=>
 Run Tryz.prog (Builtin.append_ #[33,33] 33 ⟨[(.slice s17.base s17.len s17.cap),(.slice (⟨some ⟨b19,0,none⟩,1,1⟩:Sl).base (⟨some ⟨b19,0,none⟩,1,1⟩:Sl).len (⟨some ⟨b19,0,none⟩,1,1⟩:Sl).cap)]⟩) kS w_18 fun (s21:Sl) (w_20:World)=>
 Slc out4 k9 (out4).len (out4).cap 1 fun (s22:Sl)=>
 Run Tryz.prog (Builtin.append_ #[33,33] 33 ⟨[(.slice s21.base s21.len s21.cap),(.slice s22.base s22.len s22.cap)]⟩) kS w_20 fun (s24:Sl) (w_23:World)=>
 I_2 (s24) ((i64 ((i5:Int)+(1:Int)))) w_23∧m_3 (s24) ((i64 ((i5:Int)+(1:Int)))) w_23<m_3 out4 i5 w_6))
 (Slc out4 0 k9 (out4).cap 1 fun (s25:Sl)=>
 Run Tryz.prog (Builtin.append_ #[33,33] 33 ⟨[(.slice none 0 0),(.slice s25.base s25.len s25.cap)]⟩) kS w_10 fun (s27:Sl) (w_26:World)=>
 Nw 3 ⟨[(.int .i64 i5)]⟩ w_26 fun (b29:Nat) (w_28:World)=>
 Run Tryz.prog (Builtin.append_ #[33,33] 33 ⟨[(.slice s27.base s27.len s27.cap),(.slice (⟨some ⟨b29,0,none⟩,1,1⟩:Sl).base (⟨some ⟨b29,0,none⟩,1,1⟩:Sl).len (⟨some ⟨b29,0,none⟩,1,1⟩:Sl).cap)]⟩) kS w_28 fun (s31:Sl) (w_30:World)=>
 Slc out4 k9 (out4).len (out4).cap 1 fun (s32:Sl)=>
 Run Tryz.prog (Builtin.append_ #[33,33] 33 ⟨[(.slice s31.base s31.len s31.cap),(.slice s32.base s32.len s32.cap)]⟩) kS w_30 fun (s34:Sl) (w_33:World)=>
 I_2 (s34) ((i64 ((i5:Int)+(1:Int)))) w_33∧m_3 (s34) ((i64 ((i5:Int)+(1:Int)))) w_33<m_3 out4 i5 w_6))
 (R (out4) w_6)
set_option maxRecDepth 100000 in
theorem ref17_Order.ok (text1:Sl) (R:Sl→World→Prop) (w:World) (h:ref17_Order.E text1 R w):Cl Tryz.prog [kS] n_ref17_Order ⟨[(.slice text1.base text1.len text1.cap)]⟩ w R:=
 calls_of_eq Tryz.mix Tryz.f115 [(.slice text1.base text1.len text1.cap)] [kS] R 44 [.tmp 2] (by kernel_rfl) (by kernel_rfl) (by kernel_rfl) (by kernel_rfl) (by kernel_rfl)
  (.s .o (.s .o (.s (.s .o (.b (.l [(3,kS),(4,kI)] (.s (.s .o (.c .o .o)) (.s (.b (.s .o (.s (.b (.l [(5,kI)] (.s (.s .o (.c .o .o)) (.b .o)))) (.s .o (.s .o (.s .o .o)))))) .o))))) (.s .o .o))))
  (by kernel_rfl) h
set_option maxRecDepth 100000 in
def ref17_Less.E (text1:Sl) (i2:Int) (k3:Int) (R:Bool→World→Prop) (w:World):Prop:=
 Join (fun (w_5:World)=>
 Join (fun (i17:Int) (k18:Int) (w_19:World)=>
 IfB ((i17:Int)==(k18:Int))
 (R (false) w_19)
 (IfB ((k18:Int)==((text1.len:Int):Int))
 (R (false) w_19)
 (Drw w_19 fun (w_20:World)=>
 IfB ((i17:Int)==((text1.len:Int):Int))
 (R (true) w_20)
 (Idx text1 i17 1 fun (q21:Addr)=>
 Ld (kInt .u8) q21 w_20 fun (x22:Int)=>
 Idx text1 k18 1 fun (q23:Addr)=>
 Ld (kInt .u8) q23 w_20 fun (x24:Int)=>
 R ((decide ((x22:Int)<(x24:Int)))) w_20)))) fun (K_6:Int→Int→World→Prop)=>
 ∃(I_7:Int→Int→World→Prop) (m_8:Int→Int→World→Nat),I_7 (i2) (k3) w_5∧
 ∀(i9:Int) (k10:Int),∀(w_11:World),I_7 i9 k10 w_11→
 Drw w_11 fun (w_12:World)=>
 IfB (decide ((i9:Int)<((text1.len:Int):Int)))
 (IfB (decide ((k10:Int)<((text1.len:Int):Int)))
 (Idx text1 i9 1 fun (q13:Addr)=>
 Ld (kInt .u8) q13 w_12 fun (x14:Int)=>
 Idx text1 k10 1 fun (q15:Addr)=>
 Ld (kInt .u8) q15 w_12 fun (x16:Int)=>
 IfB ((x14:Int)==(x16:Int))
 (IfB ((i9:Int) !=(k10:Int))
 (I_7 ((i64 ((i9:Int)+(1:Int)))) ((i64 ((k10:Int)+(1:Int)))) w_12∧m_8 ((i64 ((i9:Int)+(1:Int)))) ((i64 ((k10:Int)+(1:Int)))) w_12<m_8 i9 k10 w_11)
 (K_6 (i9) (k10) w_12))
 (K_6 (i9) (k10) w_12))
 (K_6 (i9) (k10) w_12))
 (K_6 (i9) (k10) w_12)) fun (K_4:World→Prop)=>
 IfB (decide ((i2:Int)<(0:Int)))
 (R (false) w)
 (IfB (decide ((i2:Int)>((text1.len:Int):Int)))
 (R (false) w)
 (IfB (decide ((k3:Int)<(0:Int)))
 (R (false) w)
 (IfB (decide ((k3:Int)>((text1.len:Int):Int)))
 (R (false) w)
 (K_4 w))))
set_option maxRecDepth 100000 in
theorem ref17_Less.ok (text1:Sl) (i2:Int) (k3:Int) (R:Bool→World→Prop) (w:World) (h:ref17_Less.E text1 i2 k3 R w):Cl Tryz.prog [kB] n_ref17_Less ⟨[(.slice text1.base text1.len text1.cap),(.int .i64 i2),(.int .i64 k3)]⟩ w R:=
 calls_of_eq Tryz.mix Tryz.f164 [(.slice text1.base text1.len text1.cap),(.int .i64 i2),(.int .i64 k3)] [kB] R 79 [.tmp 6] (by kernel_rfl) (by kernel_rfl) (by kernel_rfl) (by kernel_rfl) (by kernel_rfl)
  (.s .o (.j [] (.s .o (.c (.s .o .o) .o)) (.j [(1,kI),(2,kI)] (.b (.l [(1,kI),(2,kI)] (.s (.s .o (.c .o .o)) (.b (.s .o .o))))) (.s (.s .o (.c (.s .o .o) .o)) (.s .o .o)))))
  (by kernel_rfl) h
end Go.Proofs.YtcdpblipagajiaaGreat
set_option maxRecDepth 20000
namespace Go.Proofs.YtcdpblipagajiaaGreat
open Go Go.Vc Go.Bw Go.Hs
section
variable {E w:World} {F:List HP}
set_option maxRecDepth 20000 in
theorem rLess17_c {t:List Nat} {s:Sl} {i k:Int} {K:Bool→World→Prop} (h:Hp E w F) (hs:Tells F (SlT 1 s (t.map vB))) (hn:t.length≤big) (hK: ∀w',Hp E w' F→K (lessI t i k) w'):
  Cl Tryz.prog [kB] n_ref17_Less ⟨[.slice s.base s.len s.cap,.int .i64 i,.int .i64 k]⟩ w K:=by
 refine ref17_Less.ok _ _ _ _ _ ?_
 unfold ref17_Less.E
 simp only [Join_eq]
 have hl:=(h.tells hs).1
 simp only [List.length_map,Nat.mul_one] at hl
 rw [big_eq] at hn
 have no: ¬(0≤i∧i≤t.length∧0≤k∧k≤t.length)→K false w:=fun hn=>by
  have:=hK w h
  unfold lessI at this
  rwa [decide_eq_false hn,Bool.false_and] at this
 refine IfB.mk (fun g=>no (by have:=of_decide_eq_true g;omega)) (fun g1=>IfB.mk (fun g=>no (by have:=of_decide_eq_true g;omega)) (fun g2=>IfB.mk (fun g=>no (by have:=of_decide_eq_true g;omega)) (fun g3=>IfB.mk (fun g=>no (by have:=of_decide_eq_true g;omega)) (fun g4=> ?_))))
 have g1:=of_decide_eq_false g1
 have g2:=of_decide_eq_false g2
 have g3:=of_decide_eq_false g3
 have g4:=of_decide_eq_false g4
 obtain ⟨a0,rfl⟩:=Int.eq_ofNat_of_zero_le (show 0≤i by omega)
 obtain ⟨b0,rfl⟩:=Int.eq_ofNat_of_zero_le (show 0≤k by omega)
 have hK2: ∀w',Hp E w' F→K (sl t a0 b0) w':=fun w' h'=>by
  have:=hK w' h'
  unfold lessI at this
  rwa [decide_eq_true ⟨by omega,by omega,by omega,by omega⟩,Bool.true_and,Int.toNat_natCast,Int.toNat_natCast] at this
 refine ⟨fun x y w'=> ∃a b:Nat,x=(a:Int)∧y=(b:Int)∧a≤t.length∧b≤t.length∧sl t a b=sl t a0 b0∧Hp E w' F,fun x _ _=>t.length - x.toNat,⟨a0,b0,rfl,rfl,by omega,by omega,rfl,h⟩,?_⟩
 rintro x y w1 ⟨a,b,rfl,rfl,ha,hb,hab,h1⟩
 refine Drw.mk h1 fun w2 h2=> ?_
 have fin:(a<t.length→b<t.length→t.getD a 0=t.getD b 0→a=b)→IfB ((a:Int)==(b:Int)) (K false w2) (IfB ((b:Int)==(s.len:Int)) (K false w2) (Drw w2 fun w_20=>IfB ((a:Int)==(s.len:Int)) (K true w_20) (Idx s (a:Int) 1 fun q21=>Ld (kInt .u8) q21 w_20 fun x22=>Idx s (b:Int) 1 fun q23=>Ld (kInt .u8) q23 w_20 fun x24=>K (decide (x22<x24)) w_20))):=fun hd=>by
  refine IfB.mk (fun e=> ?_) (fun e=>IfB.mk (fun e2=> ?_) (fun e2=>Drw.mk h2 fun w3 h3=>IfB.mk (fun e3=> ?_) (fun e3=> ?_)))
  ·have e:a=b:=by have:=beq_iff_eq.1 e;omega
   have:=hK2 w2 h2
   rw [←hab,e,(sl_so t).irr] at this;exact this
  ·have e2:b=t.length:=by have:=beq_iff_eq.1 e2;omega
   have:=hK2 w2 h2
   have e4:sl t a b=false:=by unfold sl;rw [e2,List.drop_length,lx_nil]
   rw [←hab,e4] at this;exact this
  ·have e2:b<t.length:=by have:=beq_eq_false_iff_ne.1 e2;omega
   have e3:a=t.length:=by have:=beq_iff_eq.1 e3;omega
   have:=hK2 w3 h3
   have e4:sl t a b=true:=by unfold sl;rw [e3,List.drop_length,drop_get e2];rfl
   rw [←hab,e4] at this;exact this
  ·have e:=beq_eq_false_iff_ne.1 e
   have e2:b<t.length:=by have:=beq_eq_false_iff_ne.1 e2;omega
   have e3:a<t.length:=by have:=beq_eq_false_iff_ne.1 e3;omega
   have hne:t.getD a 0≠t.getD b 0:=fun h=>e (by rw [hd e3 e2 h])
   refine Idx.nB (h3.tells hs) rfl e3 (Idx.nB (h3.tells hs) rfl e2 ?_)
   have:=hK2 w3 h3
   have e4:sl t a b=decide ((t.getD a 0:Int)<(t.getD b 0:Int)):=by
    rw [sl_step e3 e2,beq_eq_false_iff_ne.2 hne,Bool.false_and,Bool.or_false,decide_eq_decide];omega
   rw [←hab,e4] at this;exact this
 refine IfB.mk (fun c1=>IfB.mk (fun c2=> ?_) (fun c2=>fin fun _ hb' _=>by have:=of_decide_eq_false c2;omega)) (fun c1=>fin fun ha' _ _=>by have:=of_decide_eq_false c1;omega)
 have c1:a<t.length:=by have:=of_decide_eq_true c1;omega
 have c2:b<t.length:=by have:=of_decide_eq_true c2;omega
 refine Idx.nB (h2.tells hs) rfl c1 (Idx.nB (h2.tells hs) rfl c2 ?_)
 refine IfB.mk (fun c3=>IfB.mk (fun c4=> ?_) (fun c4=>fin fun _ _ _=>(by have h9:(a:Int)=(b:Int):=(by simpa using c4);omega))) (fun c3=>fin fun _ _ he=>absurd (by rw [he]) (beq_eq_false_iff_ne.1 c3))
 have c3:t.getD a 0=t.getD b 0:=by have:=beq_iff_eq.1 c3;omega
 refine ⟨⟨a+1,b+1,by rw [i64_id (by omega)];omega,by rw [i64_id (by omega)];omega,by omega,by omega,?_,h2⟩,by dsimp only;rw [i64_id (x:=(a:Int)+1) (by omega)];omega⟩
 rw [←hab,sl_step c1 c2,c3];simp
set_option maxRecDepth 20000 in
theorem rOrder17_c {t:List Nat} {s:Sl} {K:Sl→World→Prop} (h:Hp E w F) (hs:Tells F (SlT 1 s (t.map vB))) (hn:t.length≤400000)
  (hK: ∀s' w',Hp E w' (OwnS 1 s' ((zl (ordB t)).map vI)::F)→K s' w'):Cl Tryz.prog [kS] n_ref17_Order ⟨[.slice s.base s.len s.cap]⟩ w K:=by
 refine ref17_Order.ok _ _ _ ?_
 unfold ref17_Order.E
 have hl:=(h.tells hs).1
 simp only [List.length_map,Nat.mul_one] at hl
 refine ⟨fun o i w'=> ∃(k:Nat) (L:List Nat),i=(k:Int)∧k≤t.length+1∧L.Perm (List.range k)∧L.Pairwise (fun a b=>sl t a b=true)∧Hp E w' (OwnS 1 o ((zl L).map vI)::F),fun _ i _=>t.length+1 - i.toNat,⟨0,[],rfl,by omega,List.Perm.refl _,List.Pairwise.nil,h.ownNil 1⟩,?_⟩
 rintro o i w1 ⟨k,L,rfl,hk,hp,hpw,h1⟩
 have hLl:L.length=k:=by rw [hp.length_eq,List.length_range]
 have hol:=h1.ownLen
 rw [List.length_map,zl_len,Nat.mul_one] at hol
 have hcap:=h1.ownCap
 refine IfB.mk (fun hlt=> ?_) (fun hge=> ?_)
 ·have hlt:k≤t.length:=by have:=of_decide_eq_true hlt;omega
  have hin: ∀j (hj:j<L.length),L[j]<k:=fun j hj=>by
   have:=hp.mem_iff.1 (List.getElem_mem hj)
   rwa [List.mem_range] at this
  have hgd: ∀j (hj:j<L.length),(zl L).getD j 0=(L[j]:Int):=fun j hj=>by simp [zl,List.getD,hj]
  refine ⟨fun c w'=> ∃m:Nat,c=(m:Int)∧m≤k∧(∀j (hj:j<L.length),m≤j→sl t k L[j]=true)∧Hp E w' (OwnS 1 o ((zl L).map vI)::F),fun c _=>c.toNat,⟨k,by omega,by omega,fun j hj h=>by omega,h1⟩,?_⟩
  rintro c w2 ⟨m,rfl,hm,hgt,h2⟩
  have fin: ∀{w3:World},Hp E w3 (OwnS 1 o ((zl L).map vI)::F)→(m=0∨∃hj:m - 1<L.length,sl t k L[m - 1]=false)→
    Slc o 0 (m:Int) (o.cap:Int) 1 fun s15=>Run Tryz.prog (Builtin.append_ #[33,33] 33 ⟨[.slice none 0 0,.slice s15.base s15.len s15.cap]⟩) kS w3 fun s17 w_16=>
     Nw 3 ⟨[.int .i64 (k:Int)]⟩ w_16 fun b19 w_18=>Run Tryz.prog (Builtin.append_ #[33,33] 33 ⟨[.slice s17.base s17.len s17.cap,.slice (some ⟨b19,0,none⟩) 1 1]⟩) kS w_18 fun s21 w_20=>
     Slc o (m:Int) (o.len:Int) (o.cap:Int) 1 fun s22=>Run Tryz.prog (Builtin.append_ #[33,33] 33 ⟨[.slice s21.base s21.len s21.cap,.slice s22.base s22.len s22.cap]⟩) kS w_20 fun s24 w_23=>
     (∃(k':Nat) (L':List Nat),i64 ((k:Int)+1)=(k':Int)∧k'≤t.length+1∧L'.Perm (List.range k')∧L'.Pairwise (fun a b=>sl t a b=true)∧Hp E w_23 (OwnS 1 s24 ((zl L').map vI)::F))∧t.length+1 - (i64 ((k:Int)+1)).toNat<t.length+1 - (k:Int).toNat:=fun {w3} h3 hst=>by
   refine Slc.rd (h3.tells Tells.own) (by omega) (by omega) (by omega) (by omega) (by omega) fun s15 h15 hl15=> ?_
   have ht15:SlT 1 s15 ((zl (L.take m)).map vI) w3:=by
    have:=h15 w3 (h3.tells Tells.own)
    rwa [show (0:Int).toNat=0 from rfl,List.drop_zero,Nat.sub_zero,Int.toNat_natCast,←List.map_take,show (zl L).take m=zl (L.take m) by unfold zl;rw [List.map_take]] at this
   have hA:=h3.ownNil 1
   refine run_append (s:=⟨none,0,0⟩) (ys:=(zl (L.take m)).map vI) (n:=m) ty_zsB (by decide) (.inl ⟨3,by kernel_rfl⟩) hA (.inl ⟨s15.base,s15.len,s15.cap,rfl,by rw [hl15];omega,ht15⟩) (by rw [List.length_map,zl_len,List.length_take];omega) vI_scalar (by show (2*(0+m)+1024)*8≤2^48;omega) (by show 0+m<2^62;omega) fun s17 w4 h4 hs17=> ?_
   rw [List.nil_append] at h4
   refine app_n ty_zsB rfl h4 (by rw [zl_len,List.length_take,big_eq];omega) fun s21 w5 h5 hs21=> ?_
   rw [zl_len,List.length_take] at hs21
   refine Slc.rd (h5.tells (Tells.cons Tells.own)) (by omega) (by omega) (by omega) (by omega) (by omega) fun s22 h22 hl22=> ?_
   have ht22:SlT 1 s22 ((zl (L.drop m)).map vI) w5:=by
    have:=h22 w5 (h5.tells (Tells.cons Tells.own))
    rwa [Int.toNat_natCast,Int.toNat_natCast,←List.map_drop,List.take_of_length_le (by rw [List.length_map,List.length_drop,zl_len];omega),show (zl L).drop m=zl (L.drop m) by unfold zl;rw [List.map_drop]] at this
   refine run_append (ys:=(zl (L.drop m)).map vI) (n:=k - m) ty_zsB (by decide) (.inl ⟨3,by kernel_rfl⟩) h5 (.inl ⟨s22.base,s22.len,s22.cap,rfl,by rw [hl22];omega,ht22⟩) (by rw [List.length_map,zl_len,List.length_drop];omega) vI_scalar (by omega) (by omega) fun s24 w6 h6 hs24=> ?_
   rw [i64_id (by omega)]
   refine ⟨⟨k+1,L.take m++ [k]++L.drop m,by omega,by omega,?_,?_,?_⟩,by omega⟩
   ·rw [List.range_succ]
    refine (List.Perm.append_right _ List.perm_append_comm).trans ?_
    rw [List.append_assoc,List.take_append_drop]
    exact (List.perm_append_comm (l₁:= [k]) (l₂:=L)).trans (hp.append_right _)
   ·have hlo: ∀a∈L.take m,sl t a k=true:=fun a ha=>by
     obtain ⟨j,hj,rfl⟩:=List.getElem_of_mem ha
     rw [List.length_take] at hj
     rw [List.getElem_take]
     rcases hst with h0|⟨hj1,hf⟩
     ·omega
     ·have hne:L[m - 1]≠k:=by have:=hin (m - 1) hj1;omega
      have h8:sl t L[m - 1] k=true:=by
       rcases sl_tot t k (rows_mem.2 hlt) L[m - 1] (rows_mem.2 (by have:=hin (m - 1) hj1;omega)) (fun e=>hne e.symm) with h9|h9
       ·rw [hf] at h9;cases h9
       ·exact h9
      by_cases e:j=m - 1
      ·subst e;exact h8
      ·exact (sl_so t).trans _ _ _ (List.pairwise_iff_getElem.1 hpw j (m - 1) (by omega) hj1 (by omega)) h8
    have hhi: ∀b∈L.drop m,sl t k b=true:=fun b hb=>by
     obtain ⟨j,hj,rfl⟩:=List.getElem_of_mem hb
     rw [List.length_drop] at hj
     rw [List.getElem_drop]
     exact hgt _ (by omega) (by omega)
    rw [List.append_assoc]
    refine List.pairwise_append.2 ⟨hpw.sublist (List.take_sublist ..),List.pairwise_append.2 ⟨by simp,hpw.sublist (List.drop_sublist ..),fun a ha b hb=> ?_⟩,fun a ha b hb=> ?_⟩
    ·rw [List.mem_singleton] at ha
     subst ha;exact hhi b hb
    ·rcases List.mem_append.1 hb with hb|hb
     ·rw [List.mem_singleton] at hb
      subst hb;exact hlo a ha
     ·exact (sl_so t).trans _ _ _ (hlo a ha) (hhi b hb)
   ·have e:(zl (L.take m)++ [(k:Int)]).map vI++(zl (L.drop m)).map vI=(zl (L.take m++ [k]++L.drop m)).map vI:=by
     rw [zl_app,zl_app,List.map_append,List.map_append,List.map_append];rfl
    rw [e] at h6
    exact h6.p1.drop
  refine IfB.mk (fun hpos=> ?_) (fun hpos=>fin h2 (.inl (by have:=of_decide_eq_false hpos;omega)))
  have hpos:0<m:=by have:=of_decide_eq_true hpos;omega
  have e1:i64 ((m:Int) - 1)=((m - 1:Nat):Int):=by rw [i64_id (by omega)];omega
  rw [e1]
  refine Idx.nI (h2.tells Tells.own) rfl (by rw [zl_len];omega) ?_
  rw [hgd (m - 1) (by omega)]
  have hlm:=hin (m - 1) (by omega)
  refine rLess17_c h2 (Tells.cons hs) (by rw [big_eq];omega) fun w3 h3=> ?_
  have hle:lessI t (k:Int) (L[m - 1]:Int)=sl t k L[m - 1]:=by
   unfold lessI
   rw [decide_eq_true ⟨by omega,by omega,by omega,by omega⟩,Bool.true_and,Int.toNat_natCast,Int.toNat_natCast]
  rw [hle]
  refine IfB.mk (fun hsl=> ?_) (fun hsl=>fin h3 (.inr ⟨by omega,hsl⟩))
  refine ⟨⟨m - 1,rfl,by omega,fun j hj hmj=> ?_,h3⟩,by dsimp only;omega⟩
  by_cases e:j=m - 1
  ·subst e;exact hsl
  ·exact hgt j hj (by omega)
 ·have hge:k=t.length+1:=by have:=of_decide_eq_false hge;omega
  subst hge
  have:L=ordB t:=Rk.sorted_eq (sl_so t) (hp.trans (Rk.srt_perm (lt:=sl t) (rows t)).symm) hpw (ordB_sorted t)
  rw [this] at h1
  exact hK o w1 h1
end
end Go.Proofs.YtcdpblipagajiaaGreat
set_option maxRecDepth 20000
namespace Go.Proofs.YtcdpblipagajiaaGreat
open Go Go.Vc Go.Bw Go.Hs
section
variable {E w:World} {F:List HP}
set_option maxRecDepth 200000 in
theorem rTurn17_c {t:List Nat} {s:Sl} {K:Sl→Int→World→Prop} (h:Hp E w F) (hs:Tells F (SlT 1 s (t.map vB))) (hn:t.length≤400000)
  (hK: ∀s' w',Hp E w' (OwnS 1 s' ((lastB t).map vB)::F)→K s' (idxB t:Int) w'):Cl Tryz.prog [kS,kI] n_ref17_Turn ⟨[.slice s.base s.len s.cap]⟩ w K:=by
 refine ref17_Turn.ok _ _ _ ?_
 unfold ref17_Turn.E
 have hl:=(h.tells hs).1
 simp only [List.length_map,Nat.mul_one] at hl
 refine rOrder17_c h hs hn fun s3 w1 h1=> ?_
 have hl3:=h1.ownLen
 rw [List.length_map,zl_len,ordB_len,Nat.mul_one] at hl3
 refine ⟨fun o ix i w'=> ∃k:Nat,i=(k:Int)∧k≤t.length+1∧ix=(if idxB t<k then (idxB t:Int) else 0)∧Hp E w' (OwnS 1 o (((((ordB t).take k).filter fun i=>i !=0).map fun i=>t.getD (i - 1) 0).map vB)::OwnS 1 s3 ((zl (ordB t)).map vI)::F),
  fun _ _ i _=>t.length+1 - i.toNat,⟨0,rfl,by omega,rfl,h1.ownNil 1⟩,?_⟩
 rintro o ix i w2 ⟨k,rfl,hk,rfl,h2⟩
 refine IfB.mk (fun hlt=> ?_) (fun hge=> ?_)
 ·have hlt:k<t.length+1:=by have:=of_decide_eq_true hlt;omega
  have hko:k<(ordB t).length:=by rw [ordB_len];exact hlt
  have hix:=ordB_idx t hko
  have hle:(ordB t)[k]≤t.length:=ordB_mem.1 (List.getElem_mem hko)
  have e0:(zl (ordB t)).getD k 0=((ordB t)[k]:Int):=by simp [zl,List.getD,hko]
  refine Idx.nI (h2.tells (Tells.cons Tells.own)) rfl (by rw [zl_len];exact hko) ?_
  rw [e0]
  have hf:=filter_take_succ hko
  refine IfB.mk (fun hz=> ?_) (fun hz=> ?_)
  ·have hz:(ordB t)[k]=0:=by have:=beq_iff_eq.1 hz;omega
   rw [if_pos hz,List.append_nil] at hf
   have hke:=hix.1 hz
   refine ⟨⟨k+1,by rw [i64_id (by omega)];omega,by omega,by rw [if_pos (by omega)];omega,by rw [hf];exact h2⟩,by dsimp only;rw [i64_id (by omega)];omega⟩
  ·have hz:(ordB t)[k]≠0:=by have:=beq_eq_false_iff_ne.1 hz;omega
   rw [if_neg hz] at hf
   have hke:k≠idxB t:=fun e=>hz (hix.2 e)
   refine Idx.nI (h2.tells (Tells.cons Tells.own)) rfl (by rw [zl_len];exact hko) ?_
   rw [e0]
   have e1:i64 (((ordB t)[k]:Int) - 1)=(((ordB t)[k] - 1:Nat):Int):=by rw [i64_id (by omega)];omega
   rw [e1]
   refine Idx.nB (h2.tells (Tells.cons (Tells.cons hs))) rfl (by omega) ?_
   refine app_b ty_bs rfl h2 (by rw [List.length_map,big_eq];exact Nat.le_trans (List.length_filter_le ..) (by rw [List.length_take];omega)) fun s' w3 h3 _=>⟨⟨k+1,by rw [i64_id (by omega)];omega,by omega,?_,?_⟩,by dsimp only;rw [i64_id (x:=(k:Int)+1) (by omega)];omega⟩
   ·by_cases e:idxB t<k
    ·rw [if_pos e,if_pos (by omega)]
    ·rw [if_neg e,if_neg (by omega)]
   ·rw [hf,List.map_append]
    exact h3
 ·have hge:k=t.length+1:=by have:=of_decide_eq_false hge;omega
  subst hge
  have hil:=idxB_le t
  rw [if_pos (by omega)]
  rw [List.take_of_length_le (by rw [ordB_len];exact Nat.le_refl _)] at h2
  exact hK o w2 h2.p1.drop
set_option maxRecDepth 200000 in
theorem rTurned17_c {b:List Nat} {s:Sl} {K:Sl→World→Prop} (h:Hp E w F) (hs:Tells F (SlT 1 s (b.map vB))) (hn:b.length≤400000)
  (hK: ∀s' w',Hp E w' (OwnS 1 s' (b.reverse.map vB)::F)→K s' w'):Cl Tryz.prog [kS] n_ref17_Turned ⟨[.slice s.base s.len s.cap]⟩ w K:=by
 refine ref17_Turned.ok _ _ _ ?_
 unfold ref17_Turned.E
 have hl:=(h.tells hs).1
 simp only [List.length_map,Nat.mul_one] at hl
 refine ⟨fun o i w'=> ∃k:Nat,i=(b.length:Int) - 1 - (k:Int)∧k≤b.length∧Hp E w' (OwnS 1 o ((b.reverse.take k).map vB)::F),fun _ i _=>(i+1).toNat,⟨0,by rw [i64_id (by omega)];omega,by omega,h.ownNil 1⟩,?_⟩
 rintro o i w1 ⟨k,rfl,hk,h1⟩
 refine IfB.mk (fun hge=> ?_) (fun hlt=> ?_)
 ·have hge:k<b.length:=by have:=of_decide_eq_true hge;omega
  refine Idx.nB (j:=b.length - 1 - k) (h1.tells (Tells.cons hs)) (by omega) (by omega) ?_
  refine app_b ty_bs rfl h1 (by rw [List.length_take,List.length_reverse,big_eq];omega) fun s' w2 h2 _=>⟨⟨k+1,by rw [i64_id (by omega)];omega,by omega,?_⟩,by dsimp only;rw [i64_id (by omega)];omega⟩
  have e:b.reverse.take (k+1)=b.reverse.take k++ [b.getD (b.length - 1 - k) 0]:=by
   rw [List.take_add_one,List.getElem?_reverse hge]
   simp [List.getD,show b.length - 1 - k<b.length by omega]
  rw [e];exact h2
 ·have hke:k=b.length:=by have:=of_decide_eq_false hlt;omega
  subst hke
  rw [List.take_of_length_le (by rw [List.length_reverse];exact Nat.le_refl _)] at h1
  exact hK o w1 h1
end
end Go.Proofs.YtcdpblipagajiaaGreat
namespace Go.Blk
open Go.Inc Go.Srt Go.Sym Go.Bits
end Go.Blk
namespace Go.Proofs.YtcdpblipagajiaaGreat
open Go Go.Vc Go.Srt Go.Inc Go.Sym Go.Tab Go.Hd Go.Bw Go.Bits Go.Blk Go.Crc
section
variable {E w:World} {F:List HP}
set_option maxRecDepth 20000
theorem rcolumn_c {s:Sl} {x:List Nat} {K:Sl→Int→World→Prop} (h:Hp E w F) (hs:Tells F (SlT 1 s (x.map vB))) (hn:x.length≤400000) (hK: ∀s' w',Hp E w' (OB s' (lastB x.reverse)::F)→K s' (idxB x.reverse:Int) w'):
  Cl Tryz.prog [kS,kI] n_ref25_Column ⟨[.slice s.base s.len s.cap]⟩ w K:=by
 refine ref25_Column.ok _ _ _ ?_
 unfold ref25_Column.E
 refine rTurned17_c h hs hn fun s' w h=> ?_
 exact rTurn17_c h Tells.own (by simpa using hn) fun s2 w h=>hK s2 w h.keep1
theorem rsymbols_c {s:Sl} {x:List Nat} {K:Sl→World→Prop} (h:Hp E w F) (hs:Tells F (SlT 1 s (x.map vB))) (hb: ∀y∈x,y<256) (hn:x.length≤400000) (hK: ∀s' w',Hp E w' (OI s' (syms (lastB x.reverse))::F)→K s' w'):
  Cl Tryz.prog [kS] n_ref25_Symbols ⟨[.slice s.base s.len s.cap]⟩ w K:=by
 refine ref25_Symbols.ok _ _ _ ?_
 unfold ref25_Symbols.E
 refine rcolumn_c h hs hn fun s' w h=> ?_
 exact rsall_c h Tells.own (lastB_b fun y hy=>hb y (List.mem_reverse.1 hy)) (by rw [lastB_len,List.length_reverse];omega) fun s2 w h=>hK s2 w h.keep1
end
end Go.Proofs.YtcdpblipagajiaaGreat
namespace Go.Blk
open Go.Inc Go.Srt Go.Sym Go.Bits Go.Tab Go.Hd Go.Crc Go.Bw Go.Rk Go.Proofs.YtcdpblipagajiaaGreat
theorem blk_b {l x:List Nat} (hb: ∀y∈x,y<256): ∀y∈blkL l x,y<256:=by
 unfold blkL mblk
 intro y hy
 rcases List.mem_append.1 hy with hy|hy
 ·rcases List.mem_cons.1 hy with rfl|hy
  ·decide
  ·rcases List.mem_append.1 hy with hy|hy
   ·rcases List.mem_append.1 hy with hy|hy
    ·exact vput_b _ y hy
    ·exact vput_b _ y hy
   ·exact be4_b _ y hy
 ·exact packTo_lt (body_bits _ _) _ y hy
end Go.Blk
namespace Go.Proofs.YtcdpblipagajiaaGreat
open Go Go.Vc Go.Srt Go.Inc Go.Sym Go.Tab Go.Hd Go.Bw Go.Bits Go.Blk Go.Crc
section
variable {E w:World} {F:List HP}
set_option maxRecDepth 20000
end
end Go.Proofs.YtcdpblipagajiaaGreat
namespace Go.Proofs.YtcdpblipagajiaaGreat
open Go Go.Vc Go.Srt Go.Inc Go.Sym Go.Tab Go.Hd Go.Bw Go.Bits Go.Blk Go.Crc
theorem intsG (u:List Nat) (j:Nat):(ints u).getD j 0=(u.getD j 0:Int):=by
 unfold ints
 simp only [List.getD_eq_getElem?_getD,List.getElem?_map]
 cases u[j]? <;>rfl
theorem intsS (u:List Nat) (j v:Nat):(ints u).set j (v:Int)=ints (u.set j v):=by unfold ints;rw [List.map_set]
theorem natS {l:List Nat} {i j x:Nat} (hi:i<l.length):(l.set i x).getD j 0=if j=i then x else l.getD j 0:=by
 simp only [List.getD,List.getElem?_set]
 by_cases h:i=j
 ·subst h;simp [hi]
 ·rw [if_neg h,if_neg (fun e=>h e.symm)]
section
variable {E w:World} {F:List HP}
set_option maxRecDepth 20000
theorem blockOther_law {x:List Nat} {zs:List Int} {s sc:Sl} {K:Bool→World→Prop} (h:Hp E w F) (hs:Tells F (SlT 1 s (x.map vB))) (hsc:Tells F (SlT 1 sc (zs.map vI))) (hb: ∀y∈x,y<256) (hK: ∀w',Hp E w' F→K true w'):
  Cl Tryz.prog [kB] n_law25_BlockOther ⟨[.slice s.base s.len s.cap,.slice sc.base sc.len sc.cap]⟩ w K:=by
 refine law25_BlockOther.ok _ _ _ _ ?_
 unfold law25_BlockOther.E
 simp only [Join_eq]
 have hl:=slLenB (h.tells hs)
 have hlc:zs.length=sc.len:=by have:=(h.tells hsc).1;simpa using this
 refine IfB.em (fun _=>IfB.t rfl (wakes25_c h hK)) (fun g1=>IfB.dm (fun _=>IfB.t rfl (wakes25_c h hK)) (fun g2=>IfB.dm (fun _=>wakes25_c h hK) (fun g3=> ?_)))
 have hx0:0<x.length:=by omega
 have hP:=Stm.lastP hb
 have h257:=syms_257 hb
 have hfew:=syms_len (lastB x.reverse)
 have hll:(lastB x.reverse).length=x.length:=by rw [lastB_len,List.length_reverse]
 rw [hll] at hfew
 refine rsymbols_c h hs hb (by omega) fun s11 w h=> ?_
 obtain ⟨ss,hss⟩: ∃ss,ss=syms (lastB x.reverse):=⟨_,rfl⟩
 rw [←hss] at h h257 hfew
 have l11:=OI.len h
 rw [aT_zero]
 refine Nw.mk h fun b13 w h=> ?_
 refine ⟨fun i w=> ∃(k:Nat) (u:List Nat),i=(k:Int)∧k≤ss.length∧u.length=258∧(∀j,u.getD j 0≤1000)∧(∀y∈ss.take k,0<u.getD y 0)∧Hp E w (Blk b13 (.cells (Vc.aT (ints u)) 41 (0,0))::OI s11 ss::F),fun i _=>ss.length - i.toNat,
  ⟨0,List.replicate 258 0,rfl,by omega,List.length_replicate,fun j=>by rw [List.getD_eq_getElem?_getD,List.getElem?_replicate];split<;>simp,by simp,by rw [show ints (List.replicate 258 0)=List.replicate 258 (0:Int) by simp [ints]];exact h⟩,?_⟩
 rintro i w ⟨k,u,rfl,hk,hu,hm,hp,h⟩
 refine IfB.dm (fun hlt=> ?_) (fun hge=> ?_)
 ·have hlt:k<ss.length:=by omega
  have hy:=h257 _ (List.getElem_mem hlt)
  refine Idx.rI (j:=k) ((h.at 1).tells Tells.own) rfl hlt ?_
  refine IdxP.aTset (j:=ss[k]) h rfl (by rw [ints_len,hu]) (by omega) fun w h=> ?_
  rw [show (1:Int)=((1:Nat):Int) from rfl,intsS] at h
  rw [i64_id (by omega)]
  refine ⟨⟨k+1,_,rfl,by omega,by rw [List.length_set];exact hu,fun j=> ?_,fun y hy=> ?_,h⟩,by first|omega|(dsimp only;omega)⟩
  ·rw [natS (by omega)]
   split
   ·omega
   ·exact hm j
  ·rw [natS (by omega)]
   split
   ·omega
   ·rename_i hne
    rw [List.take_add_one,List.getElem?_eq_getElem hlt] at hy
    rcases List.mem_append.1 hy with hy|hy
    ·exact hp y hy
    ·simp at hy;exact absurd hy hne
 ·have hk2:k=ss.length:=by omega
  subst hk2
  rw [List.take_of_length_le (Nat.le_refl _)] at hp
  refine ⟨fun i w=> ∃(k:Nat) (u:List Nat),i=(k:Int)∧k≤zs.length∧u.length=258∧(∀j,u.getD j 0≤1000)∧(∀y∈ss,0<u.getD y 0)∧Hp E w (Blk b13 (.cells (Vc.aT (ints u)) 41 (0,0))::OI s11 ss::F),fun i _=>zs.length - i.toNat,
   ⟨0,u,rfl,by omega,hu,hm,hp,h⟩,?_⟩
  rintro i w ⟨k,u,rfl,hk,hu,hm,hp,h⟩
  refine IfB.dm (fun hlt=> ?_) (fun hge=> ?_)
  ·have hlt:k<zs.length:=by omega
   refine Drw.mk h fun w h=> ?_
   refine IdxP.aT h rfl (by rw [ints_len,hu]) (by omega) ?_
   rw [intsG]
   refine Idx.rd (h.tells hsc.cons.cons) (by omega) (by omega) fun q _ hq=>Ld.sc (s:= .int .i64) zs[k] (by rw [hq];simp [Sc.enc,vI]) ?_
   have hmk:=hm k
   obtain ⟨v,hv,hv1,hv2⟩: ∃v:Nat,(if (if (1000:Int)<(if 0>zs[k] then 0 else zs[k]) then 1000 else (if 0>zs[k] then 0 else zs[k]))>(u.getD k 0:Int) then (if (1000:Int)<(if 0>zs[k] then 0 else zs[k]) then 1000 else (if 0>zs[k] then 0 else zs[k])) else (u.getD k 0:Int))=(v:Int)∧u.getD k 0≤v∧v≤1000:=by
    refine ⟨(if (if (1000:Int)<(if 0>zs[k] then 0 else zs[k]) then 1000 else (if 0>zs[k] then 0 else zs[k]))>(u.getD k 0:Int) then (if (1000:Int)<(if 0>zs[k] then 0 else zs[k]) then 1000 else (if 0>zs[k] then 0 else zs[k])) else (u.getD k 0:Int)).toNat,?_,?_,?_⟩<;>repeat' split
    all_goals omega
   rw [hv]
   refine IdxP.aTset h rfl (by rw [ints_len,hu]) (by omega) fun w h=> ?_
   rw [intsS] at h
   rw [i64_id (by omega)]
   refine ⟨⟨k+1,_,rfl,by omega,by rw [List.length_set];exact hu,fun j=> ?_,fun y hy=> ?_,h⟩,by first|omega|(dsimp only;omega)⟩
   ·rw [natS (by omega)]
    split
    ·omega
    ·exact hm j
   ·rw [natS (by omega)]
    have:=hp y hy
    split
    ·rename_i e;subst e;omega
    ·exact this
  ·have hmx:MaxT u:=fun y hy=>by
    obtain ⟨j,hj,rfl⟩:=List.mem_iff_getElem.1 hy
    have:=hm j
    rw [getD_get hj] at this
    omega
   have hord:=ordL_ok u
   have hsz:(Vc.aT (ints u)).size=258:=by rw [Vc.aT_size,ints_len,hu]
   have hL:Lens (lensOf u (ordL u) 15) (lastB x.reverse):=by
    have hne:lastB x.reverse≠ []:=fun e=>by rw [e] at hll;simp at hll;omega
    obtain ⟨z,hz1,hz2⟩:=syms_two hne hP
    exact lens_of hu hmx hord (hp _ (by rw [hss];exact syms_end _)) ⟨z,hz2,hp z (by rw [hss];exact hz1)⟩ (fun z hz=>hp z (by rw [hss];exact hz)) hP
   obtain ⟨l,hle⟩: ∃l,l=lensOf u (ordL u) 15:=⟨_,rfl⟩
   have h15:=okT_15 hL.ok
   rw [←hle] at hL h15
   have h8: ∀y∈l,y≤255:=fun y hy=>by have:=h15 y hy;omega
   have hls:(ai .u8 l).size=258:=by rw [ai_size];exact hL.len
   have hlc:(ai .u8 l).toList.all scalarB=true:=List.all_eq_true.2 ai_scalar
   refine Ld.xw h hsz (rLen_ok (good_of hu hmx hord) h fun w h=> ?_)
   rw [←hle]
   refine Nw.mk h fun b46 w h=>StA.q h (by simp) hls hlc fun w h=>Ld.xw h hls ?_
   refine rof10_c h hL.len h8 (fun hno=>absurd hL.ok (by rw [hno];decide)) fun _ s50 w h=>Ld.xw (b:=b46) h hls ?_
   have hgd:=hL.good
   rw [←hss] at hgd
   refine rBits_c h hL.len h8 (Tells.at 3 Tells.own) (by rw [ints_len];omega) (fun hno=>absurd ⟨hL.v,allG_ints hgd h257⟩ hno) fun _ _ s54 w h=> ?_
   rw [encZ_ints] at h
   refine rcolumn_c h hs.cons.cons.cons.cons.cons (by omega) fun s57 w h=>Nw.mk h fun b60 w h=> ?_
   refine of4_c (s:=⟨some ⟨b60,0,none⟩,1,1⟩) (cs:= [s]) (bs:= [x]) h (Tells.blk rfl rfl) rfl (by rw [big_eq];simp) (fun i hi=> ?_) (by simpa using hb) (by simp [big_eq];omega) ?_
   ·match i,hi with
    |0,_=>exact hs.cons.cons.cons.cons.cons.cons.cons
   rw [show [x].flatten=x by simp,show (s.len:Int)=(x.length:Int) by omega]
   have hidx:=idx_in (t:=x.reverse) (by rw [List.length_reverse];exact hx0)
   rw [List.length_reverse] at hidx
   refine rputBlk_c h (by omega) (by omega) (crc_lt hb) (fun _ _ _ _ _ _ s64 w h=> ?_) (fun hno=>absurd ⟨by omega,by omega,by omega,by omega,by omega,by omega⟩ hno)
   refine IfB.f rfl (IfB.f rfl (IfB.f rfl (IfB.f rfl ?_)))
   have htl:=tput_short hL.len hL.ok
   have hel:=encZ_le hL.v (ints ss)
   rw [encZ_ints,ints_len] at hel
   refine Nw.mk h fun b72 w h=> ?_
   have h:=Hp.ownNew (n:=0) (sz:=1) h rfl
   have key:=fun (K':Sl→World→Prop)=>catI (s:=⟨some ⟨b72,0,none⟩,0,0⟩) (xs:= []) (ys:=tput l) (K:=K') h (Tells.at 4 Tells.own) (Nat.zero_le _) (by omega)
   refine key _ fun s74 w h=> ?_
   rw [List.nil_append] at h
   refine catI h (Tells.at 3 Tells.own) (by omega) (by omega) fun s76 w h=> ?_
   have hbd:tput l++enc l ss=body l (lastB x.reverse):=by rw [hss];rfl
   rw [hbd] at h
   have hbl:(body l (lastB x.reverse)).length≤20000:=by rw [←hbd,List.length_append];omega
   refine rbytes2_c h Tells.own (body_bits _ _) (by omega) fun s78 w h=> ?_
   have hpl:=pack_len (body l (lastB x.reverse))
   have hml:(mblk x.length (idxB x.reverse) (crc x)).length≤20:=by
    have h1:=vput_len (n:=x.length) (by omega)
    have h2:=vput_len (n:=idxB x.reverse) (by omega)
    unfold mblk
    simp [be4]
    omega
   refine catB (h.at 2) Tells.own (by omega) (by omega) fun s80 w h=> ?_
   have h:Hp E w (OB s80 (blkL l x)::_):=h
   have hlen:(blkL l x).length≤10000000:=by unfold blkL;rw [List.length_append];omega
   have ub:=unpack_blk (n:=x.length) hL hP hb hx0 (Nat.le_refl _) []
   rw [List.append_nil] at ub
   refine unpackOk_c (n:=x.length) h Tells.own (blk_b hb) hlen h.ownCap (by omega) (by omega) ub fun s82 s83 w h=> ?_
   have l83:=OB.len (h.at 1)
   refine IfB.t rfl (str_c (h.tells Tells.own) (str_c ((h.tl:Hp E _ F).tells hs) (IfB.t (eqS _) (IfB.et (by simp at l83;omega) ?_))))
   exact wakes25_c h fun w h=>hK w h.tl
end
end Go.Proofs.YtcdpblipagajiaaGreat
set_option maxRecDepth 20000
namespace Go.Vc
open Go Go.RowKit Go.ChangeShapes Go.WideShapes
section
variable {H:Type} {enc:TypeId×Value→H} {P:Program} {W:World}
def Trd (enc:TypeId×Value→H) (P:Program) (W:World) (t:TypeId) (cs:List Value):Prop:= ∃fuel x,DataW.trod enc P W 0 (fun _=>true) true fuel t cs=some x
theorem Trd.int {t:TypeId} {k:IntKind} {cs:List Value} (h:Trd enc P W t cs) (ht:P.underlying t=some (.int k)): ∃n,cs= [.int k n]∧(Lit.int k n).wf=true:=by
 obtain ⟨m,x,h⟩:=h
 obtain ⟨n,h1,_,h2⟩:=DataW.trod_int ht h
 exact ⟨n,h1,h2⟩
theorem Trd.bool {t:TypeId} {cs:List Value} (h:Trd enc P W t cs) (ht:P.underlying t=some .bool): ∃b,cs= [.bool b]:=by
 obtain ⟨m,x,h⟩:=h
 obtain ⟨n,h1,_⟩:=DataW.trod_bool ht h
 exact ⟨n,h1⟩
theorem Trd.string {t:TypeId} {cs:List Value} (h:Trd enc P W t cs) (ht:P.underlying t=some .string): ∃s:ByteArray,cs= [.string s]∧s.size≤maxLen:=by
 obtain ⟨m,x,h⟩:=h
 obtain ⟨n,h1,_,h2⟩:=DataW.trod_string ht h
 exact ⟨n,h1,h2⟩
theorem cells_get {a:Addr} {n:Nat} {cs:List Value} (h:W.cells? 0 a n=some cs):cs.length=n∧∀i (hi:i<cs.length),W.cell? (a.add i)=some cs[i]:=by
 unfold World.cells? at h
 rw [if_pos (Nat.zero_le _)] at h
 have hl:cs.length=n:=by simpa using mapM_some_length h
 refine ⟨hl,fun i hi=> ?_⟩
 have:=mapM_some_get h i i (List.getElem?_range (by omega))
 rw [this,List.getElem?_eq_getElem hi]
theorem flatten_get {α:Type} {sz:Nat}: ∀{xs:List (List α)} (_: ∀x∈xs,x.length=sz) (i j:Nat) (hi:i<xs.length) (_:j<sz),xs.flatten[i*sz+j]? =xs[i][j]?
 |x::xs,h,0,j,_,hj=>by
  have hx:=h x (by simp)
  rw [List.flatten_cons,List.getElem?_append_left (by omega),Nat.zero_mul,Nat.zero_add];rfl
 |x::xs,h,i+1,j,hi,hj=>by
  have hx:=h x (by simp)
  rw [List.flatten_cons,List.getElem?_append_right (by rw [hx,Nat.succ_mul];omega),hx,show (i+1)*sz+j - sz=i*sz+j by rw [Nat.succ_mul];omega,
   flatten_get (fun y hy=>h y (List.mem_cons_of_mem _ hy)) i j (by simpa using hi) hj]
  rfl
theorem flat_len {α:Type} {sz:Nat}: ∀{xs:List (List α)} (_: ∀x∈xs,x.length=sz),xs.flatten.length=xs.length*sz
 | [],_=>by simp
 |x::xs,h=>by
  rw [List.flatten_cons,List.length_append,h x (by simp),flat_len (fun y hy=>h y (List.mem_cons_of_mem _ hy)),List.length_cons,Nat.succ_mul];omega
theorem Trd.slice {t e:TypeId} {cs:List Value} (h:Trd enc P W t cs) (ht:P.underlying t=some (.slice e)):
  ∃(s:Sl) (xs:List (List Value)),cs= [.slice s.base s.len s.cap]∧s.len≤s.cap∧s.cap≤maxLen∧xs.length=s.len∧(∀x∈xs,Trd enc P W e x)∧(∀x∈xs,x.length=P.cellsOf e)∧SlT (P.cellsOf e) s xs.flatten W:=by
 obtain ⟨m,x,h⟩:=h
 rcases DataW.trod_slice ht h with ⟨h1,_⟩|⟨a,len,cap,elems,rest,n,rfl,h1,_,_,hlc,hcm,hel,hget,_⟩
 ·exact ⟨⟨none,0,0⟩,[],h1,Nat.le_refl _,Nat.zero_le _,rfl,by simp,by simp,by simp,by simp⟩
 ·have hx: ∀i,i<len→∃cs,W.cells? 0 (a.add (i*P.cellsOf e)) (P.cellsOf e)=some cs∧Trd enc P W e cs:=by
   intro i hi
   have:=hget i hi
   rw [List.getElem?_eq_getElem (by omega)] at this
   obtain ⟨cs,h2,h3⟩:=Option.bind_eq_some_iff.1 this
   exact ⟨cs,h2,n,_,h3⟩
  have key: ∀k,k≤len→∃xs:List (List Value),xs.length=k∧∀i (hi:i<xs.length),W.cells? 0 (a.add (i*P.cellsOf e)) (P.cellsOf e)=some xs[i]∧Trd enc P W e xs[i]:=by
   intro k
   induction k with
   |zero=>exact fun _=>⟨[],rfl,fun i hi=>by simp at hi⟩
   |succ k ih=>
    intro hk
    obtain ⟨xs,hl,hxs⟩:=ih (by omega)
    obtain ⟨cs,h2,h3⟩:=hx k (by omega)
    refine ⟨xs++ [cs],by simp [hl],fun i hi=> ?_⟩
    by_cases hik:i<xs.length
    ·rw [List.getElem_append_left hik];exact hxs i hik
    ·have:i=k:=by simp [hl] at hi;omega
     subst this
     rw [List.getElem_append_right (by omega)]
     simp only [hl,Nat.sub_self,List.getElem_cons_zero]
     exact ⟨h2,h3⟩
  obtain ⟨xs,hl,hxs⟩:=key len (Nat.le_refl _)
  have hsz: ∀x∈xs,x.length=P.cellsOf e:=by
   intro x hx
   obtain ⟨i,hi,rfl⟩:=List.getElem_of_mem hx
   exact (cells_get (hxs i hi).1).1
  refine ⟨⟨some a,len,cap⟩,xs,h1,hlc,hcm,hl,fun x hx=> ?_,hsz,?_,fun i hi=>⟨a,rfl,?_⟩⟩
  ·obtain ⟨i,hi,rfl⟩:=List.getElem_of_mem hx
   exact (hxs i hi).2
  ·rw [flat_len hsz,hl]
  ·rw [flat_len hsz,hl] at hi
   have hz:0<P.cellsOf e:=by
    rcases Nat.eq_zero_or_pos (P.cellsOf e) with h0|h0
    ·rw [h0] at hi;simp at hi
    ·exact h0
   have e1:i/P.cellsOf e*P.cellsOf e+i % P.cellsOf e=i:=by rw [Nat.mul_comm];exact Nat.div_add_mod i _
   have hq:i/P.cellsOf e<xs.length:=by rw [hl];exact (Nat.div_lt_iff_lt_mul hz).2 hi
   have hr:=Nat.mod_lt i hz
   obtain ⟨c1,c2⟩:=cells_get (hxs _ hq).1
   have c3:=c2 (i % P.cellsOf e) (by omega)
   have c4:=flatten_get hsz _ _ hq hr
   have c5:(a.add (i/P.cellsOf e*P.cellsOf e)).add (i % P.cellsOf e)=a.add i:=by
    conv=>rhs;rw [←e1]
    unfold Addr.add
    by_cases e1:i/P.cellsOf e*P.cellsOf e=0<;>by_cases e2:i % P.cellsOf e=0<;>simp [e1,e2,Nat.add_assoc]
   rw [c5] at c3
   rw [c3,←List.getElem?_eq_getElem,←c4]
   simp only [e1]
   exact List.getElem?_eq_getElem _
theorem Trd.struct {t:TypeId} {fs:Array Field} {cs:List Value} (h:Trd enc P W t cs) (ht:P.underlying t=some (.struct fs)):cs.length=P.cellsOf t∧∀(i:Nat) (f:Field),fs[i]? =some f→Trd enc P W f.type ((cs.drop f.offset).take (P.cellsOf f.type)):=by
 obtain ⟨m,x,h⟩:=h
 obtain ⟨xs,n,_,_,h2,h3,h4⟩:=DataW.trod_struct ht h
 refine ⟨h2,fun i f hf=> ?_⟩
 have hi:i<fs.size:=by
  rcases Nat.lt_or_ge i fs.size with hh|hh
  ·exact hh
  ·rw [Array.getElem?_eq_none hh] at hf;cases hf
 have:=h4 i f hf
 rw [List.getElem?_eq_getElem (by omega)] at this
 exact ⟨n,_,this⟩
def fieldB (P:Program) (t:TypeId) (i:Nat) (ft:TypeId) (off n:Nat):Bool:=match P.underlying t with
 |some (.struct fs)=>match fs[i]? with
  |some f=>f.type==ft&&f.offset==off&&P.cellsOf ft==n
  |none=>false
 |_=>false
theorem Trd.field {t:TypeId} {cs:List Value} (h:Trd enc P W t cs) (i:Nat) (ft:TypeId) (off n:Nat) (hf:fieldB P t i ft off n=true):Trd enc P W ft ((cs.drop off).take n):=by
 unfold fieldB at hf
 split at hf
 ·rename_i fs ht
  split at hf
  ·rename_i f hfi
   simp only [Bool.and_eq_true,beq_iff_eq] at hf
   obtain ⟨⟨rfl,rfl⟩,rfl⟩:=hf
   exact (h.struct ht).2 i f hfi
  ·cases hf
 ·cases hf
theorem Trd.array {t e:TypeId} {n:Nat} {cs:List Value} (h:Trd enc P W t cs) (ht:P.underlying t=some (.array n e)):cs.length=P.cellsOf t∧∀i,i<n→Trd enc P W e ((cs.drop (i*P.cellsOf e)).take (P.cellsOf e)):=by
 obtain ⟨m,x,h⟩:=h
 obtain ⟨xs,n',_,_,h2,h3,h4⟩:=DataW.trod_array ht h
 refine ⟨h2,fun i hi=> ?_⟩
 have:=h4 i hi
 rw [List.getElem?_eq_getElem (by omega)] at this
 exact ⟨n',_,this⟩
theorem rows_of {α β:Type} {g:α→β} {Good:α→Prop}: ∀{xs:List β} (_: ∀x∈xs,∃a,x=g a∧Good a),∃l:List α,xs=l.map g∧∀a∈l,Good a
 | [],_=>⟨[],rfl,by simp⟩
 |x::xs,h=>by
  obtain ⟨a,rfl,ha⟩:=h x (by simp)
  obtain ⟨l,rfl,hl⟩:=rows_of (fun y hy=>h y (List.mem_cons_of_mem _ hy))
  exact ⟨a::l,rfl,by simpa using ⟨ha,hl⟩⟩
theorem flatten_map1 {α β:Type} {g:α→β} (l:List α):(l.map fun a=> [g a]).flatten=l.map g:=by
 induction l with
 |nil=>rfl
 |cons a l ih=>simp [ih]
theorem wf_u8 {n:Int} (h:(Lit.int .u8 n).wf=true):0≤n∧n≤255:=by
 simp [Lit.wf,IntKind.min,IntKind.max,IntKind.signed,IntKind.bits] at h
 exact h
def IsBytes (W:World) (s:Sl) (b:List Nat):Prop:=SlT 1 s (b.map vB) W∧(∀y∈b,y<256)∧s.len≤s.cap∧s.cap≤maxLen
theorem Trd.bytes {t e:TypeId} {cs:List Value} (h:Trd enc P W t cs) (ht:P.underlying t=some (.slice e)) (he:P.underlying e=some (.int .u8)) (hc:P.cellsOf e=1): ∃s b,cs= [.slice s.base s.len s.cap]∧IsBytes W s b:=by
 obtain ⟨s,xs,h1,h2,h3,h4,h5,h6,h7⟩:=h.slice ht
 obtain ⟨l,rfl,hl⟩:=rows_of (g:=fun y:Nat=> [vB y]) (Good:=fun y=>y<256) (xs:=xs) fun x hx=>by
  obtain ⟨n,rfl,hn⟩:=(h5 x hx).int he
  have:=wf_u8 hn
  obtain ⟨m,rfl⟩:=Int.eq_ofNat_of_zero_le this.1
  exact ⟨m,rfl,by omega⟩
 rw [flatten_map1,hc] at h7
 exact ⟨s,l,h1,h7,hl,h2,h3⟩
theorem Trd.ints {t e:TypeId} {k:IntKind} {cs:List Value} (h:Trd enc P W t cs) (ht:P.underlying t=some (.slice e)) (he:P.underlying e=some (.int k)) (hc:P.cellsOf e=1):
  ∃s,∃l:List Int,cs= [.slice s.base s.len s.cap]∧SlT 1 s (l.map (.int k)) W∧(∀y∈l,(Lit.int k y).wf=true)∧s.len≤s.cap∧s.cap≤maxLen:=by
 obtain ⟨s,xs,h1,h2,h3,h4,h5,h6,h7⟩:=h.slice ht
 obtain ⟨l,rfl,hl⟩:=rows_of (g:=fun y:Int=> [Value.int k y]) (Good:=fun y=>(Lit.int k y).wf=true) (xs:=xs) fun x hx=>by
  obtain ⟨n,rfl,hn⟩:=(h5 x hx).int he
  exact ⟨n,rfl,hn⟩
 rw [flatten_map1,hc] at h7
 exact ⟨s,l,h1,h7,hl,h2,h3⟩
def Arg (enc:TypeId×Value→H) (P:Program) (W:World) (t:TypeId) (v:Value):Prop:=(∃base,Value.okWide P W .any base t v)∧Trd enc P W t v.cells.toList
def ArgL (enc:TypeId×Value→H) (P:Program) (W:World):List TypeId→List Value→Prop
 | [],vs=>vs= []
 |t::ts,vs=> ∃v vs',vs=v::vs'∧Arg enc P W t v∧ArgL enc P W ts vs'
theorem Arg.one {t:TypeId} {v:Value} (h:Arg enc P W t v) (hv:v.cells.toList= [v]):Trd enc P W t [v]:=by
 have:=h.2
 rwa [hv] at this
theorem Arg.slice {t e:TypeId} {v:Value} (h:Arg enc P W t v) (ht:P.underlying t=some (.slice e)):Trd enc P W t [v]:=by
 obtain ⟨base,hb⟩:=h.1
 obtain ⟨a,l,c,rfl⟩:=okWide_slice ht hb
 exact h.one rfl
theorem Arg.bytes {t e:TypeId} {v:Value} (h:Arg enc P W t v) (ht:P.underlying t=some (.slice e)) (he:P.underlying e=some (.int .u8)) (hc:P.cellsOf e=1): ∃s b,v= .slice s.base s.len s.cap∧IsBytes W s b:=by
 obtain ⟨s,b,h1,h2⟩:=(h.slice ht).bytes ht he hc
 exact ⟨s,b,by simpa using h1,h2⟩
theorem Arg.ints {t e:TypeId} {k:IntKind} {v:Value} (h:Arg enc P W t v) (ht:P.underlying t=some (.slice e)) (he:P.underlying e=some (.int k)) (hc:P.cellsOf e=1):
  ∃s,∃l:List Int,v= .slice s.base s.len s.cap∧SlT 1 s (l.map (.int k)) W∧(∀y∈l,(Lit.int k y).wf=true)∧s.len≤s.cap∧s.cap≤maxLen:=by
 obtain ⟨s,l,h1,h2⟩:=(h.slice ht).ints ht he hc
 exact ⟨s,l,by simpa using h1,h2⟩
theorem Arg.int {t:TypeId} {k:IntKind} {v:Value} (h:Arg enc P W t v) (ht:P.underlying t=some (.int k)): ∃n,v= .int k n∧(Lit.int k n).wf=true:=by
 obtain ⟨base,hb⟩:=h.1
 obtain ⟨n,rfl⟩:=okWide_int ht hb
 obtain ⟨m,h1,h2⟩:=(h.one rfl).int ht
 cases h1
 exact ⟨n,rfl,h2⟩
theorem Arg.string {t:TypeId} {v:Value} (h:Arg enc P W t v) (ht:P.underlying t=some .string): ∃s:ByteArray,v= .string s∧s.size≤maxLen:=by
 obtain ⟨base,hb⟩:=h.1
 obtain ⟨n,rfl⟩:=okWide_string ht hb
 obtain ⟨m,h1,h2⟩:=(h.one rfl).string ht
 cases h1
 exact ⟨n,rfl,h2⟩
theorem Arg.struct {t:TypeId} {fs:Array Field} {v:Value} (h:Arg enc P W t v) (ht:P.underlying t=some (.struct fs)): ∃cs,v= .agg cs∧Trd enc P W t cs.toList:=by
 obtain ⟨base,hb⟩:=h.1
 obtain ⟨cs,rfl,_⟩:=okWide_struct ht hb
 exact ⟨cs,rfl,h.2⟩
theorem argL_of: ∀{ts:List TypeId} {vs:List Value} {ds:List (DataW H)} {ps:List MemPlace},DataW.TrodAll enc P W 0 (fun _=>true) true ts vs ds ps→(∀(j:Nat) t v,ts[j]? =some t→vs[j]? =some v→∃base,Value.okWide P W .any base t v)→ArgL enc P W ts vs
 | [],[],[],_,_,_=>rfl
 |t::ts,v::vs,d::ds,ps,h,hv=>by
  obtain ⟨p,q,⟨fuel,h1⟩,h2,_⟩:=h
  exact ⟨v,vs,rfl,⟨hv 0 t v rfl rfl,fuel,_,h1⟩,argL_of h2 fun j t' v' a b=>hv (j+1) t' v' a b⟩
theorem trodAll_len: ∀{ts:List TypeId} {vs:List Value} {ds:List (DataW H)} {ps:List MemPlace},DataW.TrodAll enc P W 0 (fun _=>true) true ts vs ds ps→ds.length=ts.length
 | [],[],[],_,_=>rfl
 |_::_,_::_,_::_,_,h=>by
  obtain ⟨p,q,_,h2,_⟩:=h
  simp [trodAll_len h2]
theorem below_trodAll (hl:laidOutB P=true) {W':World} (hb:Below W.heap.size W W'): ∀{ts:List TypeId} {vs:List Value} {ds:List (DataW H)} {ps:List MemPlace},DataW.TrodAll enc P W 0 (fun _=>true) true ts vs ds ps→
  (∀t∈ts,P.readableRec t=true∧t<P.types.size)→∃qs,DataW.TrodAll enc P W' 0 (fun b=>decide (b<W.heap.size)) true ts vs ds qs
 | [],[],[],_,_,_=>⟨[],rfl⟩
 |t::ts,v::vs,d::ds,ps,h,hr=>by
  obtain ⟨p,q,h1,h2,_⟩:=h
  obtain ⟨qs,h3⟩:=below_trodAll hl hb h2 fun t ht=>hr t (List.mem_cons_of_mem _ ht)
  obtain ⟨ht1,ht2⟩:=hr t (by simp)
  have hlt: ∀x∈p,x.block<W.heap.size:=by obtain ⟨m,hm⟩:=h1;exact DataW.trod_lt m _ _ _ hm
  exact ⟨_,p,qs,Below.trod hl ht1 ht2 h1 hb hlt,h3,rfl⟩
theorem law_lift {C:Checked} {os:Os} {f:FuncId} {fn:Func} {s:ChangeSpec} {conds:List PathCond} {tb:TypeId}
  (own:ownKnob C.prog.godebug=none) (started:os.Started) (noInit:C.prog.inits.idxOf? f=none) (hfn:C.prog.funcs[f]? =some fn)
  (witness: ∃(w:World) (tape:Tape) (i:Input),w.os=os∧(w.forCall tape i).Shaped C.prog∧i.vars= []∧Input.okWide C.prog (w.forCall tape i) .any w.heap.size f i∧
   s.pre6 enc C.prog fn conds false (w.forCall tape i).memory i.args∧({}:Assume).holds C.prog (lone (Frame.enter C.prog f i.args .normal) [] (w.forCall tape i)))
  (hvars:s.vars= []) (hres:fn.resultTypes= #[tb]) (htb:C.prog.underlying tb=some .bool)
  (hspec: ∀ds:List (DataW H),ds.length=fn.params.toList.length→s.fn H ds={results:= [.lit (.bool true)],args:=ds})
  (laid:laidOutB C.prog=true) (hr:fn.params.toList.all (fun t=>C.prog.readableRec t&&decide (t<C.prog.types.size))=true)
  (contract: ∀(W:World) (args:Array Value) (ds:List (DataW H)),ArgL enc C.prog W fn.params.toList args.toList→(DataW.weightsEach C.prog fn.params.toList ds).all (·≤reachBytes)=true→
   Cl C.prog [kB] f args W (fun b w'=>b=true∧Below W.heap.size W w')):
  ReturnsInHanded {} C os f .any (s.pre6 enc C.prog fn conds false) (s.post enc C.prog fn false true false false):=by
 refine returnsInHanded_of_change_sized own started noInit hfn witness ?_
 intro W base args ds gs before hval hW _ hz _
 have hW':=hW
 obtain ⟨p,q,hA,hV,rfl,hfz,hnd⟩:=hW
 rw [hvars] at hV
 obtain ⟨rfl,rfl⟩:=trodVars_none hV
 have hlen:=trodAll_len hA
 have hz':(DataW.weightsEach C.prog fn.params.toList ds).all (·≤reachBytes)=true:=by
  have e:s.plain.varTypes C.prog= []:=by
   simp [DataSpec.varTypes,ChangeSpec.plain,hvars]
  rw [e,List.append_nil,List.append_nil] at hz
  exact hz
 have hargs:=argL_of (vs:=args.toList) hA fun j t v ht hv=>⟨base,hval j t v (by simpa using ht) (by simpa using hv)⟩
 refine Calls.mono (contract W args ds hargs hz') fun e W' hp=> ?_
 cases e with
 |returned v=>
  obtain ⟨b,hv,hb,bel⟩:=Ki.dec_sound (k:=kB) hp
  subst hb
  have hv:v= .bool true:=hv
  subst hv
  have hsp:=hspec ds hlen
  obtain ⟨qs,hq⟩:=below_trodAll laid bel hA fun t ht=>by
   have:=List.all_eq_true.1 hr t ht
   simpa using this
  refine ⟨_,rfl,ds,[],_,[],qs,[],hW',?_,?_,?_,bel.frame _,fun h=>by cases h⟩
  ·rw [List.append_nil,hsp,hres]
   exact trodAll_mk1 (shut_bool htb _)
  ·rw [List.append_nil,hsp];exact hq
  ·rw [hvars]
   have:(s.fn H (ds++ [])).vars= []:=by rw [List.append_nil,hsp]
   rw [this];rfl
 |_=>exact absurd hp (by intro h;exact h)
end
end Go.Vc
set_option maxRecDepth 20000
namespace Go.Vc
open Go Go.RowKit Go.ChangeShapes Go.WideShapes
section
variable {H:Type} {enc:TypeId×Value→H} {P:Program} {W:World}
theorem Arg.agg {t e:TypeId} {n:Nat} {v:Value} (h:Arg enc P W t v) (ht:P.underlying t=some (.array n e)): ∃cs,v= .agg cs∧Trd enc P W t cs.toList:=by
 obtain ⟨base,hb⟩:=h.1
 simp only [Value.okWide,ht] at hb
 obtain ⟨cs,rfl,_⟩:=hb
 exact ⟨cs,rfl,h.2⟩
theorem Trd.nums {t e:TypeId} {n:Nat} {k:IntKind} {cs:List Value} (h:Trd enc P W t cs) (ht:P.underlying t=some (.array n e)) (he:P.underlying e=some (.int k)) (hc:P.cellsOf e=1) (hn:P.cellsOf t=n):
  ∃l:List Int,cs=l.map (.int k)∧l.length=n∧∀y∈l,(Lit.int k y).wf=true:=by
 obtain ⟨h1,h2⟩:=h.array ht
 rw [hn] at h1
 rw [hc] at h2
 have key: ∀m,m≤n→∃l:List Int,cs.take m=l.map (.int k)∧l.length=m∧∀y∈l,(Lit.int k y).wf=true:=by
  intro m
  induction m with
  |zero=>exact fun _=>⟨[],by simp,rfl,by simp⟩
  |succ m ih=>
   intro hm
   obtain ⟨l,e1,e2,e3⟩:=ih (by omega)
   obtain ⟨x,hx,hw⟩:=(h2 m (by omega)).int he
   rw [Nat.mul_one] at hx
   have hmc:m<cs.length:=by omega
   have hx2:cs[m]= .int k x:=by
    rw [List.drop_eq_getElem_cons hmc,List.take_succ_cons,List.take_zero] at hx
    exact (List.cons.inj hx).1
   refine ⟨l++ [x],?_,by simp [e2],?_⟩
   ·rw [List.take_add_one,e1,List.getElem?_eq_getElem hmc,hx2];simp
   ·intro y hy
    rcases List.mem_append.1 hy with hy|hy
    ·exact e3 y hy
    ·have:y=x:=by simpa using hy
     rw [this];exact hw
 obtain ⟨l,e1,e2,e3⟩:=key n (Nat.le_refl _)
 rw [List.take_of_length_le (by omega)] at e1
 exact ⟨l,e1,e2,e3⟩
end
end Go.Vc
