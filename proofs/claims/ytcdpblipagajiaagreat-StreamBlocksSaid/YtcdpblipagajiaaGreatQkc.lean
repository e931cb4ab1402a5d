/- Texts packed together by program; spaces struck by program. Conditions: as each theorem states. -/
import Derived.Ground.SlsfProg
import Derived.Laws.CopyRow
import Derived.Laws.IdiomCopy
import Derived.Laws.MakeOwn
import Derived.MapKept
import Derived.Shelf.SlGeneric
import Derived.Shelf.SlSortCmp.NoneTotal
import Derived.Test.YtcdpblipagajiaaGreatProg
import Derived.Test.YtcdpblipagajiaaGreatQkb
set_option linter.unusedSimpArgs false
set_option linter.unusedVariables false
set_option maxRecDepth 20000
namespace Go.Vc
open Go
section
variable {P:Program} {E w:World} {l:List HP} {b o:Nat} {c:Array Value} {t:TypeId} {fr:Nat×Nat} {put:Obj→List HP}
theorem Hp.HR {F:List HP} {cs:Array Value} {fr:Nat×Nat} (h:Hp E w (aj b (.cells c t fr)::F)):Hp E (w.setRow b cs) (aj b (.cells cs t fr)::F):=by
 have hb:=h.aC
 refine h.setObj (o':= .cells cs t fr) ?_ rfl rfl rfl
 apply Array.ext_getElem?
 intro r
 have hlt:b<w.heap.size:=by
  rcases Nat.lt_or_ge b w.heap.size with hh|hh
  ·exact hh
  ·simp [Array.getElem?_eq_none hh] at hb
 simp only [World.setRow,Array.getElem?_modify,Array.set!_eq_setIfInBounds,Array.getElem?_setIfInBounds]
 by_cases hr:b=r
 ·subst hr
  have hv:w.heap[b]= .cells c t fr:=by simpa [hlt] using hb
  simp [hlt,hv]
 ·simp [hr]
theorem qg {dT sT ty e:TypeId} {dLen dCap:Nat} {s:Sl} {ys:List Value} {K:Int→World→Prop} [hf:bC b l c t (0,0) put] (hu:P.underlying dT=some (.slice e)) (hs:(P.info? e).map (·.size)=some 1)
  (h:Hp E w l) (hsrc:aA 1 s ys w) (hsc: ∀v∈ys,ay v=true) (hfit:o+dLen≤c.size)
  (hK: ∀w',Hp E w' (put (.cells ⟨c.toList.take o++(ys.take dLen++c.toList.drop (o+min ys.length dLen))⟩ t (0,0)))→K ((min ys.length dLen:Nat):Int) w'):
  aD P (Builtin.copy_ #[dT,sT] ty ⟨[.slice (some ⟨b,o,none⟩) dLen dCap,.slice s.base s.len s.cap]⟩) kI w K:=by
 have hl:=hsrc.1
 rw [Nat.mul_one] at hl
 obtain ⟨r,h1,h2⟩:=hf.perm
 have hh:=h.perm h1
 unfold aD
 by_cases h0:min ys.length dLen=0
 ·rw [show (⟨[.slice (some ⟨b,o,none⟩) dLen dCap,.slice s.base s.len s.cap]⟩:Array Value)= #[.slice (some ⟨b,o,none⟩) dLen dCap,.slice s.base s.len s.cap] from rfl,run_copy_none (P:=P) w dT sT ty e _ _ _ _ _ _ hu hs (by rw [←hl];exact h0)]
  have hk:=hK w
  rw [h0] at hk
  have e1:ys.take dLen= []:=by
   rcases Nat.eq_zero_or_pos dLen with hd|hd
   ·rw [hd];rfl
   ·have:ys= []:=List.length_eq_zero_iff.1 (by omega)
    rw [this];simp
  rw [e1,List.nil_append,Nat.add_zero,List.take_append_drop] at hk
  exact hk (hh.perm (by have:=h2 (.cells c t (0,0));simpa using this))
 ·have hpos:0<ys.length:=by omega
  obtain ⟨p,hp,_⟩:=hsrc.2 0 hpos
  rw [hp]
  have hmin:(ys.take dLen).length=Nat.min s.len dLen:=by
   rw [List.length_take,←hl,Nat.min_comm]
  have:=run_copy_row (P:=P) w dT sT ty e b o dLen dCap p s.len s.cap c t (ys.take dLen) hu hs hh.aC hmin (fun j v hv=> ?_) (by
   rw [List.length_take];omega) (fun v hv=>lL (hsc v (List.mem_of_mem_take hv)))
  ·rw [show (⟨[.slice (some ⟨b,o,none⟩) dLen dCap,.slice (some p) s.len s.cap]⟩:Array Value)= #[.slice (some ⟨b,o,none⟩) dLen dCap,.slice (some p) s.len s.cap] from rfl,this]
   have hlen:(ys.take dLen).length=min ys.length dLen:=by rw [List.length_take,Nat.min_comm]
   rw [hlen,List.append_assoc]
   exact hK _ ((hh.HR).perm (h2 _))
  ·have hj:j<(ys.take dLen).length:=by
    rcases Nat.lt_or_ge j (ys.take dLen).length with h|h
    ·exact h
    ·rw [List.getElem?_eq_none h] at hv;cases hv
   rw [List.length_take] at hj
   obtain ⟨p',hp',hc⟩:=hsrc.2 j (by omega)
   rw [hp] at hp'
   cases hp'
   rw [hc]
   rw [List.getElem?_take_of_lt (by omega),List.getElem?_eq_getElem (by omega)] at hv
   exact hv
end
end Go.Vc
namespace Go.Vc
theorem A7 {n:Nat} {f:Nat→Int}:(cX n f).toList.all ay=true:=by
 unfold cX
 rw [List.all_map]
 exact List.all_eq_true.2 fun _ _=>rfl
theorem vN {n:Nat}:cX n (fun _=>0)=⟨List.replicate n (.int .i64 0)⟩:=by
 unfold cX
 rw [List.map_const',List.length_range]
theorem tU.row {n:Nat} {f g:Nat→Int} {K:Bool→Prop} (hK:K (((List.range n).map f)==((List.range n).map g))):tU .i64 n (cX n f) (cX n g) K:=
 ⟨(List.range n).map f,(List.range n).map g,by simp [cX],by simp [cX],by simp,by simp,hK⟩
end Go.Vc
namespace Go.Proofs.YtcdpblipagajiaaGreat
open Go Go.Vc Go.Inc Go.Sym
abbrev bj (l:List Nat):List Value:=l.map fun (n:Nat)=>Value.int .u8 (n:Int)
theorem fN {L:List Nat} (h:L.length=256):(bj L).length=256:=by simp [h]
theorem cP {l:List Nat}:(bj l).all ay=true:=by
 unfold bj
 rw [List.all_map]
 exact List.all_eq_true.2 fun _ _=>rfl
section
variable {E w:World} {F:List HP}
theorem H9:Tryz.prog.underlying 22=some (.slice 5):=by kernel_rfl
theorem Jq:(Tryz.prog.info? 5).map (·.size)=some 1:=by kernel_rfl
set_option maxRecDepth 20000
theorem D1 {K:Array Value→World→Prop} (h:Hp E w F) (hK: ∀w',Hp E w' F→K ⟨bj (List.range 256)⟩ w'):Cl Tryz.prog [.arr 256] nA ⟨[]⟩ w K:=by
 refine HT.ok _ _ ?_
 (try simp only [ax,au,aq,Nat.zero_add,Nat.add_zero,Nat.reduceAdd,Bool.not_true,Bool.not_false,aQ,aR,Option.isNone])
 refine Nw.mk h fun b2 w h=> ?_
 have hlen: ∀k,k≤256→(bj (List.range k++List.replicate (256 - k) 0)).length=256:=fun k hk=>by simp;omega
 refine ⟨fun i w'=> ∃k:Nat,i=(k:Int)∧k≤256∧Hp E w' (aj b2 (.cells ⟨bj (List.range k++List.replicate (256 - k) 0)⟩ 108 (0,0))::F),fun i _=>256 - i.toNat,⟨0,rfl,by omega,by
  have:(⟨bj (List.range 0++List.replicate (256 - 0) 0)⟩:Array Value)=⟨List.replicate 256 (.int .u8 0)⟩:=by simp
  rw [this];exact h⟩,?_⟩
 rintro i w ⟨k,rfl,hk,h⟩
 (first|refine aa.dm (fun hb=> ?_) (fun hb=> ?_)|refine aa.em (fun hb=> ?_) (fun hb=> ?_)|refine aa.nm (fun hb=> ?_) (fun hb=> ?_)|refine aa.mk (fun hb=> ?_) (fun hb=> ?_))
 ·refine ⟨by omega,by omega,?_⟩
  rw [show ((k:Int)).toNat*1=k by omega]
  (try simp only [ax,au,aq,Nat.zero_add,Nat.add_zero,Nat.reduceAdd,Bool.not_true,Bool.not_false,aQ,aR,Option.isNone])
  have hk:=hlen k (by omega)
  refine St.xb h (by simp;omega) rfl fun w h=> ?_
  rw [ag (by omega)]
  refine ⟨⟨k+1,rfl,by omega,?_⟩,by omega⟩
  have e:(⟨bj (List.range k++List.replicate (256 - k) 0)⟩:Array Value).setIfInBounds k (.int .u8 (u8 (k:Int)))=⟨bj (List.range (k+1)++List.replicate (256 - (k+1)) 0)⟩:=by
   rw [oY (by omega)]
   apply Array.ext'
   rw [Array.toList_setIfInBounds]
   have:(bj (List.range k++List.replicate (256 - k) 0)).set k (.int .u8 (k:Int))=bj ((List.range k++List.replicate (256 - k) 0).set k k):=by rw [bj,bj,List.map_set]
   rw [this,List.set_append_right _ _ (by simp),List.length_range,Nat.sub_self]
   obtain ⟨m,hm⟩: ∃m,256 - k=m+1:=⟨255 - k,by omega⟩
   rw [hm,List.replicate_succ,List.set_cons_zero,List.range_succ,show 256 - (k+1)=m by omega]
   simp
  rw [e] at h
  exact h
 ·have hk2:k=256:=by omega
  subst hk2
  have e:(⟨bj (List.range 256++List.replicate (256 - 256) 0)⟩:Array Value)=⟨bj (List.range 256)⟩:=by simp
  rw [e] at h
  have hn:(⟨bj (List.range 256)⟩:Array Value).size=256:=by simp
  refine Ld.xw h hn ?_
  refine aw.q h hn hn cP fun w h=> ?_
  exact Ld.xw h hn (hK _ h.tl)
theorem Jd {K:Array Value→World→Prop} (h:Hp E w F) (hK: ∀w',Hp E w' F→K (cX 256 fun _=>1) w'):Cl Tryz.prog [.arr 256] oW ⟨[]⟩ w K:=by
 refine GJ.ok _ _ ?_
 (try simp only [ax,au,aq,Nat.zero_add,Nat.add_zero,Nat.reduceAdd,Bool.not_true,Bool.not_false,aQ,aR,Option.isNone])
 refine Nw.mk h fun b2 w h=> ?_
 refine ⟨fun i w'=> ∃k:Nat,i=(k:Int)∧k≤256∧Hp E w' (aj b2 (.cells (cX 256 fun j=>if j<k then 1 else 0) 171 (0,0))::F),fun i _=>256 - i.toNat,⟨0,rfl,by omega,by
  rw [fB (g:=fun _=>0) (fun i _=>by simp),vN];exact h⟩,?_⟩
 rintro i w ⟨k,rfl,hk,h⟩
 (first|refine aa.dm (fun hb=> ?_) (fun hb=> ?_)|refine aa.em (fun hb=> ?_) (fun hb=> ?_)|refine aa.nm (fun hb=> ?_) (fun hb=> ?_)|refine aa.mk (fun hb=> ?_) (fun hb=> ?_))
 ·refine ⟨by omega,by omega,?_⟩
  rw [show ((k:Int)).toNat*1=k by omega]
  (try simp only [ax,au,aq,Nat.zero_add,Nat.add_zero,Nat.reduceAdd,Bool.not_true,Bool.not_false,aQ,aR,Option.isNone])
  refine St.xb h (by rw [cV];omega) rfl fun w h=> ?_
  rw [ag (by omega)]
  refine ⟨⟨k+1,rfl,by omega,?_⟩,by omega⟩
  rw [pD] at h
  rw [fB (g:=fun j=>if j<k+1 then 1 else 0) (fun i _=>by
   by_cases h1:i=k
   ·subst h1;simp
   ·by_cases h2:i<k
    ·simp [h1,h2];omega
    ·simp [h1,h2];omega)] at h
  exact h
 ·have hk2:k=256:=by omega
  subst hk2
  rw [fB (g:=fun _=>1) (fun i hi=>by simp [hi])] at h
  refine Ld.xw h cV ?_
  refine aw.q h cV cV A7 fun w h=> ?_
  exact Ld.xw h cV (hK _ h.tl)
theorem vb {L:List Nat} {K:Bool→World→Prop} (h:Hp E w F) (hL:a6 L) (hK: ∀w',Hp E w' F→K true w'):Cl Tryz.prog [kB] kG ⟨[.agg ⟨bj L⟩]⟩ w K:=by
 have hl:=hL.len
 have hlt: ∀x∈L,x<256:=fun x hx=>by simpa using hL.mem_iff.1 hx
 refine E2.ok _ _ _ ?_
 (try simp only [ax,au,aq,Nat.zero_add,Nat.add_zero,Nat.reduceAdd,Bool.not_true,Bool.not_false,aQ,aR,Option.isNone])
 have hn:(⟨bj L⟩:Array Value).size=256:=by simp [hl]
 refine Nw.mk h fun b3 w h=>Nw.mk h fun b5 w h=>Ld.xw h hn ?_
 refine ⟨fun i w'=> ∃k:Nat,i=(k:Int)∧k≤256∧Hp E w' (aj b5 (.cells (cX 256 fun j=>if j∈L.take k then 1 else 0) 171 (0,0))::aj b3 (.cells ⟨bj L⟩ 108 (0,0))::F),fun i _=>256 - i.toNat,⟨0,rfl,by omega,by
  rw [fB (g:=fun _=>0) (fun i _=>by simp),vN];exact h⟩,?_⟩
 rintro i w ⟨k,rfl,hk,h⟩
 (first|refine aa.dm (fun hb=> ?_) (fun hb=> ?_)|refine aa.em (fun hb=> ?_) (fun hb=> ?_)|refine aa.nm (fun hb=> ?_) (fun hb=> ?_)|refine aa.mk (fun hb=> ?_) (fun hb=> ?_))
 ·have hkl:k<L.length:=by omega
  refine eH.rd (s:= .int .u8) (by omega) (by omega) (L[k]:Int) ?_ ?_
  ·simp [hkl]
  have hx:=hlt _ (List.getElem_mem hkl)
  refine ⟨by omega,by omega,?_⟩
  rw [show ((L[k]:Int)).toNat*1=L[k] by omega]
  (try simp only [ax,au,aq,Nat.zero_add,Nat.add_zero,Nat.reduceAdd,Bool.not_true,Bool.not_false,aQ,aR,Option.isNone])
  refine St.xb h (by rw [cV];omega) rfl fun w h=> ?_
  rw [ag (by omega)]
  refine ⟨⟨k+1,rfl,by omega,?_⟩,by omega⟩
  rw [pD] at h
  rw [fB (g:=fun j=>if j∈L.take (k+1) then 1 else 0) (fun i _=>by
   have hmem:i∈L.take (k+1)↔i∈L.take k∨i=L[k]:=by
    rw [List.take_add_one,List.getElem?_eq_getElem hkl,List.mem_append]
    exact or_congr Iff.rfl List.mem_singleton
   by_cases h1:i=L[k]
   ·rw [if_pos h1,if_pos (hmem.2 (.inr h1))]
   ·rw [if_neg h1]
    by_cases h2:i∈L.take k
    ·rw [if_pos h2,if_pos (hmem.2 (.inl h2))]
    ·rw [if_neg h2,if_neg (fun hh=>(hmem.1 hh).elim h2 h1)])] at h
  exact h
 ·have hk2:k=256:=by omega
  subst hk2
  rw [fB (g:=fun _=>1) (fun i hi=>by
   rw [List.take_of_length_le (by omega),if_pos]
   exact hL.mem_iff.2 (by simpa using hi))] at h
  have h:=h.drew (n:=w.drawn+1)
  refine ⟨bF b5 _ _ _,h.hb,?_⟩
  dsimp only
  refine ad.xw (fun _ h=>h) cV ?_
  refine Jd h fun w h=>⟨h.hb,?_⟩
  refine tU.row ?_
  rw [beq_self_eq_true]
  exact hK _ h.tl
theorem GC {L:List Nat} {p:Nat} (hl:L.length=256) (hp:p<256):((bj L).take 1++((bj (L.take p)).take p++(bj L).drop (1+min (bj (L.take p)).length p))).set 0 (.int .u8 (L.getD p 0:Int))=bj (bu L p):=by
 have e1:(bj (L.take p)).length=p:=by simp;omega
 rw [e1,Nat.min_self,List.take_of_length_le (l:=bj (L.take p)) (by omega),Nat.add_comm 1 p]
 unfold bu
 rw [List.eraseIdx_eq_take_drop_succ]
 cases L with
 |nil=>simp at hl
 |cons a L=>simp [bj,List.map_take,List.map_drop]
theorem Ca {L:List Nat} {p:Nat} {K:Array Value→Int→Bool→World→Prop} (h:Hp E w F) (hl:L.length=256) (hp:p<256) (hK: ∀w',Hp E w' F→K ⟨bj (bu L p)⟩ (L.getD p 0:Int) true w'):
  Cl Tryz.prog [.arr 256,aL .u8,kB] lH ⟨[.agg ⟨bj L⟩,.int .i64 (p:Int)]⟩ w K:=by
 refine GD.ok _ _ _ _ ?_
 (try simp only [ax,au,aq,Nat.zero_add,Nat.add_zero,Nat.reduceAdd,Bool.not_true,Bool.not_false,aQ,aR,Option.isNone])
 have hn:(⟨bj L⟩:Array Value).size=256:=by simp [hl]
 have hz:(⟨List.replicate 256 (.int .u8 0)⟩:Array Value).size=256:=by simp
 have hpl:p<L.length:=by omega
 refine Nw.mk h fun b4 w h=>Nw.mk h fun b6 w h=> ?_
 (with_reducible repeat first|refine Nw.mk h fun b w h=> ?_|refine ao.mk h fun w h=> ?_|refine Ld.q h hL rfl rfl ?_|refine ad.q (fun _ h=>h) hL rfl rfl ?_|refine Ld.p h hL ?_|refine ad.p (fun _ h=>h) hL ?_|refine Ld.qw h hL rfl ?_|refine ad.qw (fun _ h=>h) hL rfl ?_|refine ⟨h.hb,?_⟩|(refine St.q h hL rfl rfl rfl fun w h=> ?_;dsimp only [ah,ae] at h)|refine aa.yes ?_|refine aa.no ?_|refine ⟨by first|omega|decide,?_⟩)
 refine Ld.xw h hn ?_
 refine ⟨by omega,by omega,?_⟩
 rw [show ((p:Int)).toNat*1=p by omega]
 (try simp only [ax,au,aq,Nat.zero_add,Nat.add_zero,Nat.reduceAdd,Bool.not_true,Bool.not_false,aQ,aR,Option.isNone])
 refine Ld.xb (x:=(L.getD p 0:Int)) h ?_ ?_
 ·simp [List.getD_eq_getElem?_getD,hpl]
 refine aw.q h hz hn cP fun w h=>ao.mk h fun w h=> ?_
 rw [ag (by omega)]
 refine ⟨by omega,by omega,by omega,by simp,?_⟩
 rw [if_neg (by simp),show (1:Int).toNat*1=1 by decide,show ((p:Int)+1).toNat - (1:Int).toNat=p by omega,show (256:Int).toNat - (1:Int).toNat=255 by decide]
 refine ⟨by omega,by omega,by omega,by simp,?_⟩
 rw [if_neg (by decide),show (0:Int).toNat*1=0 by decide,show ((p:Int)).toNat - (0:Int).toNat=p by omega,show (256:Int).toNat - (0:Int).toNat=256 by decide]
 simp only [Option.map_some,aq,Nat.zero_add]
 have hsrc:aA 1 ⟨some ⟨b4,0,none⟩,p,256⟩ (bj (L.take p)) w:=by
  refine ⟨by simp;omega,fun i hi=>⟨⟨b4,0,none⟩,rfl,?_⟩⟩
  rw [aq,h.fc]
  simp at hi⊢
  simp [show i<L.length by omega]
 refine qg (ys:=bj (L.take p)) H9 Jq h hsrc (List.all_eq_true.1 cP) (by rw [hn];dsimp only;omega) fun w h=> ?_
 refine ⟨by omega,by omega,?_⟩
 rw [show ((0:Int)).toNat*1=0 by decide]
 (try simp only [ax,au,aq,Nat.zero_add,Nat.add_zero,Nat.reduceAdd,Bool.not_true,Bool.not_false,aQ,aR,Option.isNone])
 refine St.xb h (by simp;omega) rfl fun w h=> ?_
 have e:(⟨(⟨bj L⟩:Array Value).toList.take 1++((bj (L.take p)).take p++(⟨bj L⟩:Array Value).toList.drop (1+min (bj (L.take p)).length p))⟩:Array Value).setIfInBounds 0 (.int .u8 (L.getD p 0:Int))=⟨bj (bu L p)⟩:=by
  apply Array.ext'
  rw [Array.toList_setIfInBounds]
  exact GC hl hp
 rw [e] at h
 have hm:(⟨bj (bu L p)⟩:Array Value).size=256:=by
  have:(bu L p).length=256:=by unfold bu;simp [List.length_eraseIdx,hpl];omega
  simp [this]
 refine Ld.xw h hm ?_
 refine aw.q h hm hm cP fun w h=> ?_
 exact Ld.xw h hm (hK _ h.tl)
theorem Jx {n many d:Nat} {K:Int→Int→World→Prop} (hn:n≤65536) (hm:many≤16) (hd:d≤1) (hK:K ((n+(1+d)*2^many:Nat):Int) 0 w):
  Cl Tryz.prog [kI,kI] iC ⟨[.int .i64 (n:Int),.int .i64 (many:Int),.int .i64 (d:Int)]⟩ w K:=by
 have hp:2^many≤65536:=Nat.pow_le_pow_right (n:=2) (by decide) hm
 have hpp:=Nat.two_pow_pos many
 have hb:(1+d)*2^many≤131072:=by
  have:=Nat.mul_le_mul (show 1+d≤2 by omega) hp
  omega
 refine AK.ok _ _ _ _ _ ?_
 have fin:0≤(many:Int)∧aa (decide (i64 ((n:Int)+a8 .i64 (i64 (1+(d:Int))) (many:Int))>2147483647)) (K 0 2 w) (K (i64 ((n:Int)+a8 .i64 (i64 (1+(d:Int))) (many:Int))) 0 w):=by
  refine ⟨by omega,?_⟩
  have hmx:IntKind.max .i64=9223372036854775807:=rfl
  rw [ag (x:=1+(d:Int)) (by omega),show 1+(d:Int)=((1+d:Nat):Int) by omega,dJ (k:= .i64) (by have:IntKind.bits .i64=64:=rfl;omega) (by rw [hmx];omega),ag (by omega)]
  exact aa.df (by omega) (by rw [←Int.natCast_add];exact hK)
 (try simp only [ax,au,aq,Nat.zero_add,Nat.add_zero,Nat.reduceAdd,Bool.not_true,Bool.not_false,aQ,aR,Option.isNone])
 refine aa.df (by omega) (aa.df (by omega) (aa.df (by omega) (aa.df (by omega) ?_)))
 by_cases h0:d=0
 ·exact aa.nf (by omega) fin
 ·exact aa.nt (by omega) (aa.nf (by omega) fin)
end
end Go.Proofs.YtcdpblipagajiaaGreat
namespace Go.Proofs.YtcdpblipagajiaaGreat
open Go Go.Vc
set_option maxRecDepth 100000
theorem rF.ok (a:Sl) (R:Sl→World→Prop) w (h:
 aa (Option.isNone (a).base)
 (R (⟨none,0,0⟩:Sl) w)
 (Nw 5 ⟨[]⟩ w fun c b=>
 aD Pg (Builtin.append_ #[22,22] 22 ⟨[(an (⟨some ⟨c,0,none⟩,0,0⟩:Sl)),(an a)]⟩) kS b fun (e:Sl) d=>
 R e d)):Cl Pg [kS] cu ⟨[(an a)]⟩ w R:=co Tryz.f57 [] h
theorem Az.ok (a:Sl) (b:Sl) (R:Bool→World→Prop) w (h:
 aD Pg (convert 22 9 (an a)) nM w fun (d:ByteArray) c=>
 aD Pg (convert 22 9 (an b)) nM c fun (f:ByteArray) e=>
 R ((d).toList==(f).toList) e):Cl Pg [kB] k8 ⟨[(an a),(an b)]⟩ w R:=co Tryz.f82 [] h
theorem sQ.ok (a:Sl) (b:Int) (R:Int→World→Prop) w (h:
 Ext Pg cJ ⟨[(an a),(.int .u8 b)]⟩ [kI] w fun (d:Int) c=>
 R d c):Cl Pg [kI] lC ⟨[(an a),(.int .u8 b)]⟩ w R:=co Tryz.f174 [] h
theorem zW.ok (a:Sl) (b:Int) (R:Sl→World→Prop) w (h:
 aa (b==0)
 (Nw 5 ⟨[]⟩ w fun d c=>
 R (⟨some ⟨d,0,none⟩,0,0⟩:Sl) c)
 (bo (fun (g:World)=>
 Cl Pg [(aL .u64),(aL .u64)] jL ⟨[(.int .u64 (u64 (a.len:Int))),(.int .u64 (u64 b))]⟩ g fun (i:Int) (j:Int) h=>
 bo (fun (n:World)=>
 aa ((a.len:Int)==0)
 (Nw 5 ⟨[]⟩ n fun p o=>
 R (⟨some ⟨p,0,none⟩,0,0⟩:Sl) o)
 (bo (fun (r:Int) (s:World)=>
 Ext Pg bM ⟨[(ni (i64 j))]⟩ [kS] s fun (u:Sl) t=>
 aZ u 0 (i64 j) (i64 j) 1 fun v=>
 aD Pg (Builtin.copy_ #[22,22] 3 ⟨[(an v),(an a)]⟩) kI t fun (y:Int) x=>
 dN y x fun z a1 (b1:Int) c1=>
 aa (decide (b1<(i64 j)))
 (ao c1 fun d1=>
 aZ v b1 (v).len (v).cap 1 fun e1=>
 aZ v 0 (if r<b1 then r else b1) (v).cap 1 fun f1=>
 aD Pg (Builtin.copy_ #[22,22] 3 ⟨[(an e1),(an f1)]⟩) kI d1 fun (h1:Int) g1=>
 z (i64 (b1+h1)) g1∧a1 (i64 (b1+h1)) g1<a1 b1 c1)
 (R v c1)) fun q=>
 aa (decide ((i64 j)>8192))
 ((a.len:Int)≠0∧
 aa ((i64 ((i64 (Int.tdiv (8192:Int) (a.len:Int)))*(a.len:Int)))==0)
 (q (a.len:Int) n)
 (q (i64 ((i64 (Int.tdiv (8192:Int) (a.len:Int)))*(a.len:Int))) n))
 (q (i64 j) n))) fun k=>
 aa (decide (i>0))
 (False)
 (aa (decide (j>9223372036854775807))
 (False)
 (k h))) fun e=>
 aa (decide (b<0))
 (False)
 (e w))):Cl Pg [kS] kj ⟨[(an a),(ni b)]⟩ w R:=co Tryz.f207 [(7,[]),(13,[]),(26,[(8,kI)]),(39,[(10,kI)])] h
end Go.Proofs.YtcdpblipagajiaaGreat
namespace Go.Proofs.YtcdpblipagajiaaGreat
open Go Go.Vc
set_option maxRecDepth 100000
theorem sW.ok (a:(Array Value)) (R:(Array Value)→Int→World→Prop) w (h:
 Nw 36 a w fun c b=>
 Nw 101 ⟨List.replicate 258 (.int .u32 0)⟩ b fun e d=>
 Ld (.arr 258) ⟨c,0,none⟩ d fun f=>
 Cl Pg [kB] dr ⟨[(.agg f)]⟩ d fun (h:Bool) g=>
 aa (!h)
 (Ld (.arr 258) ⟨e,0,none⟩ g fun i=>
 aw 258 ⟨e,0,none⟩ i g fun j=>
 Ld (.arr 258) ⟨e,0,none⟩ j fun k=>
 R k 2 j)
 (Ld (.arr 258) ⟨c,0,none⟩ g fun l=>
 Cl Pg [kS] gY ⟨[(.agg l)]⟩ g fun (n:Sl) m=>
 El 0 0 0 m fun o p (q:Int) (r:Int) (s:Int) t=>
 aa (decide (s<(n.len:Int)))
 (ar n s 1 fun u=>
 Ld kI u t fun (v:Int)=>
 aI ⟨c,0,none⟩ 258 v 1 fun x=>
 Ld (aL .u8) x t fun (y:Int)=>
 0≤(u8 (y - r))∧
 cA t fun z a1=>
 aI ⟨c,0,none⟩ 258 v 1 fun b1=>
 ad (aL .u8) b1 z fun (c1:Int)=>
 aI ⟨e,0,none⟩ 258 v 1 fun d1=>
 St d1 (.int .u32 (a8 .u32 q (u8 (y - r)))) a1 fun e1=>
 z e1∧
 o (u32 ((a8 .u32 q (u8 (y - r)))+1)) c1 (i64 (s+1)) e1∧p (u32 ((a8 .u32 q (u8 (y - r)))+1)) c1 (i64 (s+1)) e1<p q r s t)
 (Ld (.arr 258) ⟨e,0,none⟩ t fun f1=>
 aw 258 ⟨e,0,none⟩ f1 t fun g1=>
 Ld (.arr 258) ⟨e,0,none⟩ g1 fun h1=>
 R h1 0 g1))):Cl Pg [(.arr 258),kI] hC ⟨[(.agg a)]⟩ w R:=co Tryz.f97 [(12,[(4,(aL .u32)),(5,(aL .u8)),(15,kI)])] h
theorem tJ.ok (a:(Array Value)) (R:Bool→World→Prop) w (h:
 Nw 36 a w fun c b=>
 Ld (.arr 258) ⟨c,0,none⟩ b fun d=>
 Cl Pg [kB] mb ⟨[(.agg d)]⟩ b fun (f:Bool) e=>
 R f e):Cl Pg [kB] dr ⟨[(.agg a)]⟩ w R:=co Tryz.f147 [] h
theorem td.ok (a:(Array Value)) (R:Sl→World→Prop) w (h:
 Nw 36 a w fun c b=>
 Ld (.arr 258) ⟨c,0,none⟩ b fun d=>
 Cl Pg [kB] dr ⟨[(.agg d)]⟩ b fun (f:Bool) e=>
 aa (!f)
 (R (⟨none,0,0⟩:Sl) e)
 (Ld (.arr 258) ⟨c,0,none⟩ e fun g=>
 db (⟨none,0,0⟩:Sl) 0 e fun h i (j:Sl) (k:Int) l=>
 aa (decide (k<258))
 (eH (.int .u8) g 258 k fun (m:Int)=>
 aa (decide (m>0))
 (Nw 3 ⟨[(ni k)]⟩ l fun o n=>
 aD Pg (Builtin.append_ #[33,33] 33 ⟨[(an j),(an (⟨some ⟨o,0,none⟩,1,1⟩:Sl))]⟩) kS n fun (q:Sl) p=>
 h q (i64 (k+1)) p∧i q (i64 (k+1)) p<i j k l)
 (h j (i64 (k+1)) l∧i j (i64 (k+1)) l<i j k l))
 (Cl Pg [] bB ⟨[(an j),(.func (.func 188) ⟨[]⟩ ⟨[(.pointer (some ⟨c,0,none⟩))]⟩)]⟩ l fun r=>
 R j r))):Cl Pg [kS] gY ⟨[(.agg a)]⟩ w R:=co Tryz.f148 [(10,[(2,kS),(9,kI)])] h
theorem rp.ok (a:Int) (b:Int) (c:Addr) (R:Int→World→Prop) w (h:
 ao w fun d=>
 aI c 258 a 1 fun e=>
 Ld (aL .u8) e d fun (f:Int)=>
 aI c 258 b 1 fun g=>
 Ld (aL .u8) g d fun (h:Int)=>
 Cl Pg [kI] fS ⟨[(.int .u8 f),(.int .u8 h)]⟩ d fun (j:Int) i=>
 R j i):Cl Pg [kI] jS ⟨[(ni a),(ni b),(.pointer (some c))]⟩ w R:=co Tryz.f188 [] h
end Go.Proofs.YtcdpblipagajiaaGreat
namespace Go.Proofs.YtcdpblipagajiaaGreat
open Go Go.Vc
set_option maxRecDepth 100000
theorem nc.ok (a:Int) (b:Int) (R:Int→World→Prop) w (h:
 Cl Pg [kB] gd ⟨[(ni a)]⟩ w fun (d:Bool) c=>
 Cl Pg [kB] gd ⟨[(ni b)]⟩ c fun (f:Bool) e=>
 aa d
 (aa f
 (R 0 e)
 (R (-1) e))
 (aa f
 (R 1 e)
 (aa (decide (a<b))
 (R (-1) e)
 (aa (decide (a>b))
 (R 1 e)
 (R 0 e))))):Cl Pg [kI] cq ⟨[(ni a),(ni b)]⟩ w R:=co Tryz.f181 [] h
theorem rm.ok (a:Int) (b:Int) (R:Int→World→Prop) w (h:
 Cl Pg [kB] gZ ⟨[(.int .u8 a)]⟩ w fun (d:Bool) c=>
 Cl Pg [kB] gZ ⟨[(.int .u8 b)]⟩ c fun (f:Bool) e=>
 aa d
 (aa f
 (R 0 e)
 (R (-1) e))
 (aa f
 (R 1 e)
 (aa (decide (a<b))
 (R (-1) e)
 (aa (decide (a>b))
 (R 1 e)
 (R 0 e))))):Cl Pg [kI] fS ⟨[(.int .u8 a),(.int .u8 b)]⟩ w R:=co Tryz.f189 [] h
theorem cmp_isNaN_int.ok (a:Int) (R:Bool→World→Prop) w (h:
 R (a !=a) w):Cl Pg [kB] gd ⟨[(ni a)]⟩ w R:=co Tryz.f202 [] h
theorem nh.ok (a:Int) (R:Bool→World→Prop) w (h:
 R (a !=a) w):Cl Pg [kB] gZ ⟨[(.int .u8 a)]⟩ w R:=co Tryz.f205 [] h
theorem CU.ok (a:Sl) (R:Int→World→Prop) w (h:
 dN 0 w fun b c (d:Int) e=>
 aa (decide (d<(a.len:Int)))
 (ar a d 1 fun f=>
 Ld kI f e fun (g:Int)=>
 aa (g !=0)
 (R g e)
 (b (i64 (d+1)) e∧c (i64 (d+1)) e<c d e))
 (R 0 e)):Cl Pg [kI] mi ⟨[(an a)]⟩ w R:=co Tryz.f211 [(7,[(8,kI)])] h
end Go.Proofs.YtcdpblipagajiaaGreat
namespace Go.Proofs.YtcdpblipagajiaaGreat
open Go Go.Vc
set_option maxRecDepth 100000
theorem mT.ok (a:Sl) (b:Int) (R:Bool→World→Prop) w (h:
 Cl Pg [kI] iA ⟨[(an a),(ni b)]⟩ w fun (d:Int) c=>
 R (decide (d≥0)) c):Cl Pg [kB] dx ⟨[(an a),(ni b)]⟩ w R:=co Tryz.f54 [] h
theorem mS.ok (a:Sl) (R:Sl→World→Prop) w (h:
 db 0 0 w fun b c (d:Int) (e:Int) f=>
 aa (decide (e<(a.len:Int)))
 (ar a e 1 fun g=>
 Ld kS g f fun (h:Sl)=>
 aa (decide ((i64 (d+(h.len:Int)))<0))
 (False)
 (b (i64 (d+(h.len:Int))) (i64 (e+1)) f∧c (i64 (d+(h.len:Int))) (i64 (e+1)) f<c d e f))
 (Cl Pg [kS] dZ ⟨[(.slice none 0 0),(ni d)]⟩ f fun (k:Sl) j=>
 db k 0 j fun l m (n:Sl) (o:Int) p=>
 aa (decide (o<(a.len:Int)))
 (ar a o 1 fun q=>
 Ld kS q p fun (r:Sl)=>
 aD Pg (Builtin.append_ #[22,22] 22 ⟨[(an n),(an r)]⟩) kS p fun (t:Sl) s=>
 l t (i64 (o+1)) s∧m t (i64 (o+1)) s<m n o p)
 (R n p))):Cl Pg [kS] dC ⟨[(an a)]⟩ w R:=co Tryz.f86 [(7,[(3,kI),(11,kI)]),(25,[(6,kS),(27,kI)])] h
theorem o7.ok (a:Sl) (b:Int) (R:Int→World→Prop) w (h:
 dN 0 w fun c d (e:Int) f=>
 aa (decide (e<(a.len:Int)))
 (ar a e 1 fun g=>
 Ld kI g f fun (h:Int)=>
 aa (b==h)
 (R e f)
 (c (i64 (e+1)) f∧d (i64 (e+1)) f<d e f))
 (R (-1) f)):Cl Pg [kI] iA ⟨[(an a),(ni b)]⟩ w R:=co Tryz.f105 [(5,[(8,kI)])] h
theorem mr.ok (a:Sl) (R:World→Prop) w (h:
 db 0 (i64 ((a.len:Int) - 1)) w fun b c (d:Int) (e:Int) f=>
 aa (decide (d<e))
 (ao f fun g=>
 ar a e 1 fun h=>
 Ld (aL .u8) h g fun (i:Int)=>
 ar a d 1 fun j=>
 Ld (aL .u8) j g fun (k:Int)=>
 ar a d 1 fun l=>
 St l (.int .u8 i) g fun m=>
 ar a e 1 fun n=>
 St n (.int .u8 k) m fun o=>
 b (i64 (d+1)) (i64 (e - 1)) o∧c (i64 (d+1)) (i64 (e - 1)) o<c d e f)
 (R f)):Cl Pg [] ca ⟨[(an a)]⟩ w R:=co Tryz.f108 [(2,[(2,kI),(3,kI)])] h
theorem n9.ok (a:Sl) (b:Int) (R:Sl→World→Prop) w (h:
 aa (decide (b<0))
 (False)
 (aa (decide ((i64 (b - (i64 ((a.cap:Int) - (a.len:Int)))))>0))
 (aZ a 0 (a.cap:Int) (a).cap 1 fun d=>
 aD Pg (Builtin.append_ #[22,3] 22 ⟨[(an d),(ni (i64 (b - (i64 ((a.cap:Int) - (a.len:Int))))))]⟩) kS w fun (f:Sl) e=>
 aZ f 0 (a.len:Int) (f).cap 1 fun g=>
 R g e)
 (R a w))):Cl Pg [kS] dZ ⟨[(an a),(ni b)]⟩ w R:=co Tryz.f131 [] h
theorem jQ.ok (a:Sl) (b:Value) (R:World→Prop) w (h:
 Cl Pg [] di ⟨[(an a),(ni (a.len:Int)),b]⟩ w fun c=>
 R c):Cl Pg [] bB ⟨[(an a),b]⟩ w R:=co Tryz.f179 [] h
theorem kH.ok (a:Sl) (b:Value) (R:Bool→World→Prop) w (h:
 Cl Pg [kI] fF ⟨[(an a),b]⟩ w fun (d:Int) c=>
 R (decide (d≥0)) c):Cl Pg [kB] eO ⟨[(an a),b]⟩ w R:=co Tryz.f182 [] h
theorem mN.ok (a:Sl) (b:Int) (c:Value) (R:World→Prop) w (h:
 db 0 20 w fun d e (f:Int) (g:Int) h=>
 aa (decide (g≤b))
 (Cl Pg [] bt ⟨[(an a),(ni f),(ni g),c]⟩ h fun i=>
 d g (i64 (g+20)) i∧e g (i64 (g+20)) i<e f g h)
 (Cl Pg [] bt ⟨[(an a),(ni f),(ni b),c]⟩ h fun j=>
 dN 20 j fun k l (m:Int) n=>
 aa (decide (m<b))
 (db 0 (i64 ((2:Int)*m)) n fun o p (q:Int) (r:Int) s=>
 aa (decide (r≤b))
 (Cl Pg [] aS ⟨[(an a),(ni q),(ni (i64 (q+m))),(ni r),c]⟩ s fun t=>
 o r (i64 (r+(i64 ((2:Int)*m)))) t∧p r (i64 (r+(i64 ((2:Int)*m)))) t<p q r s)
 (aa (decide ((i64 (q+m))<b))
 (Cl Pg [] aS ⟨[(an a),(ni q),(ni (i64 (q+m))),(ni b),c]⟩ s fun u=>
 k (i64 (m*2)) u∧l (i64 (m*2)) u<l m n)
 (k (i64 (m*2)) s∧l (i64 (m*2)) s<l m n)))
 (R n))):Cl Pg [] di ⟨[(an a),(ni b),c]⟩ w R:=co Tryz.f201 [(5,[(7,kI),(8,kI)]),(16,[(6,kI)]),(23,[(7,kI),(8,kI)])] h
theorem mu.ok (a:Sl) (b:Value) (R:Int→World→Prop) w (h:
 dN 0 w fun c d (e:Int) f=>
 aa (decide (e<(a.len:Int)))
 (ar a e 1 fun g=>
 Ld kI g f fun (h:Int)=>
 gW Pg b [kB] [(ni h)] f fun (j:Bool) i=>
 aa j
 (R e i)
 (c (i64 (e+1)) i∧d (i64 (e+1)) i<d e f))
 (R (-1) f)):Cl Pg [kI] fF ⟨[(an a),b]⟩ w R:=co Tryz.f203 [(5,[(8,kI)])] h
theorem jx.ok (a:Sl) (R:Sl→World→Prop) w (h:
 aa (Option.isNone (a).base)
 (R (⟨none,0,0⟩:Sl) w)
 (Nw 239 ⟨[]⟩ w fun c b=>
 aD Pg (Builtin.append_ #[237,237] 237 ⟨[(an (⟨some ⟨c,0,none⟩,0,0⟩:Sl)),(an a)]⟩) kS b fun (e:Sl) d=>
 R e d)):Cl Pg [kS] cf ⟨[(an a)]⟩ w R:=co Tryz.f208 [] h
theorem jg.ok (a:Sl) (b:Int) (c:Int) (d:Value) (R:World→Prop) w (h:
 dN (i64 (b+1)) w fun e f (g:Int) h=>
 aa (decide (g<c))
 (dN g h fun i j (k:Int) l=>
 ao l fun m=>
 aa (decide (k>b))
 (ar a k 1 fun n=>
 Ld kI n m fun (o:Int)=>
 ar a (i64 (k - 1)) 1 fun p=>
 Ld kI p m fun (q:Int)=>
 gW Pg d [kI] [(ni o),(ni q)] m fun (s:Int) r=>
 aa (decide (s<0))
 (ao r fun t=>
 ar a (i64 (k - 1)) 1 fun u=>
 Ld kI u t fun (v:Int)=>
 ar a k 1 fun x=>
 Ld kI x t fun (y:Int)=>
 ar a k 1 fun z=>
 St z (ni v) t fun a1=>
 ar a (i64 (k - 1)) 1 fun b1=>
 St b1 (ni y) a1 fun c1=>
 i (i64 (k - 1)) c1∧j (i64 (k - 1)) c1<j k l)
 (e (i64 (g+1)) r∧f (i64 (g+1)) r<f g h))
 (e (i64 (g+1)) m∧f (i64 (g+1)) m<f g h))
 (R h)):Cl Pg [] bt ⟨[(an a),(ni b),(ni c),d]⟩ w R:=co Tryz.f213 [(2,[(8,kI)]),(9,[(9,kI)])] h
theorem ln.ok (a:Sl) (b:Int) (c:Int) (d:Int) (e:Value) (R:World→Prop) w (h:
 aa ((i64 (c - b))==1)
 (db c d w fun f g (h:Int) (i:Int) j=>
 aa (decide (h<i))
 (0≤(1:Int)∧
 ao j fun k=>
 ar a (i64 (aF .u64 (u64 (i64 (h+i))) (1:Int))) 1 fun l=>
 Ld kI l k fun (m:Int)=>
 ar a b 1 fun n=>
 Ld kI n k fun (o:Int)=>
 gW Pg e [kI] [(ni m),(ni o)] k fun (q:Int) p=>
 aa (decide (q<0))
 (f (i64 ((i64 (aF .u64 (u64 (i64 (h+i))) (1:Int)))+1)) i p∧g (i64 ((i64 (aF .u64 (u64 (i64 (h+i))) (1:Int)))+1)) i p<g h i j)
 (f h (i64 (aF .u64 (u64 (i64 (h+i))) (1:Int))) p∧g h (i64 (aF .u64 (u64 (i64 (h+i))) (1:Int))) p<g h i j))
 (dN b j fun r s (t:Int) u=>
 aa (decide (t<(i64 (h - 1))))
 (ao u fun v=>
 ar a (i64 (t+1)) 1 fun x=>
 Ld kI x v fun (y:Int)=>
 ar a t 1 fun z=>
 Ld kI z v fun (a1:Int)=>
 ar a t 1 fun b1=>
 St b1 (ni y) v fun c1=>
 ar a (i64 (t+1)) 1 fun d1=>
 St d1 (ni a1) c1 fun e1=>
 r (i64 (t+1)) e1∧s (i64 (t+1)) e1<s t u)
 (R u)))
 (aa ((i64 (d - c))==1)
 (db b c w fun f1 g1 (h1:Int) (i1:Int) j1=>
 aa (decide (h1<i1))
 (0≤(1:Int)∧
 ao j1 fun k1=>
 ar a c 1 fun l1=>
 Ld kI l1 k1 fun (m1:Int)=>
 ar a (i64 (aF .u64 (u64 (i64 (h1+i1))) (1:Int))) 1 fun n1=>
 Ld kI n1 k1 fun (o1:Int)=>
 gW Pg e [kI] [(ni m1),(ni o1)] k1 fun (q1:Int) p1=>
 aa (!(decide (q1<0)))
 (f1 (i64 ((i64 (aF .u64 (u64 (i64 (h1+i1))) (1:Int)))+1)) i1 p1∧g1 (i64 ((i64 (aF .u64 (u64 (i64 (h1+i1))) (1:Int)))+1)) i1 p1<g1 h1 i1 j1)
 (f1 h1 (i64 (aF .u64 (u64 (i64 (h1+i1))) (1:Int))) p1∧g1 h1 (i64 (aF .u64 (u64 (i64 (h1+i1))) (1:Int))) p1<g1 h1 i1 j1))
 (dN c j1 fun r1 s1 (t1:Int) u1=>
 aa (decide (t1>h1))
 (ao u1 fun v1=>
 ar a (i64 (t1 - 1)) 1 fun x1=>
 Ld kI x1 v1 fun (y1:Int)=>
 ar a t1 1 fun z1=>
 Ld kI z1 v1 fun (a2:Int)=>
 ar a t1 1 fun b2=>
 St b2 (ni y1) v1 fun c2=>
 ar a (i64 (t1 - 1)) 1 fun d2=>
 St d2 (ni a2) c2 fun e2=>
 r1 (i64 (t1 - 1)) e2∧s1 (i64 (t1 - 1)) e2<s1 t1 u1)
 (R u1)))
 (0≤(1:Int)∧
 bo (fun (g2:Int) (h2:Int) (i2:World)=>
 db g2 h2 i2 fun j2 k2 (l2:Int) (m2:Int) n2=>
 aa (decide (l2<m2))
 (0≤(1:Int)∧
 ao n2 fun o2=>
 ar a (i64 ((i64 ((i64 ((i64 (aF .u64 (u64 (i64 (b+d))) (1:Int)))+c)) - 1)) - (i64 (aF .u64 (u64 (i64 (l2+m2))) (1:Int))))) 1 fun p2=>
 Ld kI p2 o2 fun (q2:Int)=>
 ar a (i64 (aF .u64 (u64 (i64 (l2+m2))) (1:Int))) 1 fun r2=>
 Ld kI r2 o2 fun (s2:Int)=>
 gW Pg e [kI] [(ni q2),(ni s2)] o2 fun (u2:Int) t2=>
 aa (!(decide (u2<0)))
 (j2 (i64 ((i64 (aF .u64 (u64 (i64 (l2+m2))) (1:Int)))+1)) m2 t2∧k2 (i64 ((i64 (aF .u64 (u64 (i64 (l2+m2))) (1:Int)))+1)) m2 t2<k2 l2 m2 n2)
 (j2 l2 (i64 (aF .u64 (u64 (i64 (l2+m2))) (1:Int))) t2∧k2 l2 (i64 (aF .u64 (u64 (i64 (l2+m2))) (1:Int))) t2<k2 l2 m2 n2))
 (bo (fun (y2:World)=>
 aa (decide (b<l2))
 (aa (decide (l2<(i64 (aF .u64 (u64 (i64 (b+d))) (1:Int)))))
 (Cl Pg [] aS ⟨[(an a),(ni b),(ni l2),(ni (i64 (aF .u64 (u64 (i64 (b+d))) (1:Int)))),e]⟩ y2 fun z2=>
 aa (decide ((i64 (aF .u64 (u64 (i64 (b+d))) (1:Int)))<(i64 ((i64 ((i64 (aF .u64 (u64 (i64 (b+d))) (1:Int)))+c)) - l2))))
 (aa (decide ((i64 ((i64 ((i64 (aF .u64 (u64 (i64 (b+d))) (1:Int)))+c)) - l2))<d))
 (Cl Pg [] aS ⟨[(an a),(ni (i64 (aF .u64 (u64 (i64 (b+d))) (1:Int)))),(ni (i64 ((i64 ((i64 (aF .u64 (u64 (i64 (b+d))) (1:Int)))+c)) - l2))),(ni d),e]⟩ z2 fun a3=>
 R a3)
 (R z2))
 (R z2))
 (aa (decide ((i64 (aF .u64 (u64 (i64 (b+d))) (1:Int)))<(i64 ((i64 ((i64 (aF .u64 (u64 (i64 (b+d))) (1:Int)))+c)) - l2))))
 (aa (decide ((i64 ((i64 ((i64 (aF .u64 (u64 (i64 (b+d))) (1:Int)))+c)) - l2))<d))
 (Cl Pg [] aS ⟨[(an a),(ni (i64 (aF .u64 (u64 (i64 (b+d))) (1:Int)))),(ni (i64 ((i64 ((i64 (aF .u64 (u64 (i64 (b+d))) (1:Int)))+c)) - l2))),(ni d),e]⟩ y2 fun b3=>
 R b3)
 (R y2))
 (R y2)))
 (aa (decide ((i64 (aF .u64 (u64 (i64 (b+d))) (1:Int)))<(i64 ((i64 ((i64 (aF .u64 (u64 (i64 (b+d))) (1:Int)))+c)) - l2))))
 (aa (decide ((i64 ((i64 ((i64 (aF .u64 (u64 (i64 (b+d))) (1:Int)))+c)) - l2))<d))
 (Cl Pg [] aS ⟨[(an a),(ni (i64 (aF .u64 (u64 (i64 (b+d))) (1:Int)))),(ni (i64 ((i64 ((i64 (aF .u64 (u64 (i64 (b+d))) (1:Int)))+c)) - l2))),(ni d),e]⟩ y2 fun c3=>
 R c3)
 (R y2))
 (R y2))) fun v2=>
 aa (decide (l2<c))
 (aa (decide (c<(i64 ((i64 ((i64 (aF .u64 (u64 (i64 (b+d))) (1:Int)))+c)) - l2))))
 (Cl Pg [] dj ⟨[(an a),(ni l2),(ni c),(ni (i64 ((i64 ((i64 (aF .u64 (u64 (i64 (b+d))) (1:Int)))+c)) - l2))),e]⟩ n2 fun x2=>
 v2 x2)
 (v2 n2))
 (v2 n2))) fun f2=>
 aa (decide (c>(i64 (aF .u64 (u64 (i64 (b+d))) (1:Int)))))
 (f2 (i64 ((i64 ((i64 (aF .u64 (u64 (i64 (b+d))) (1:Int)))+c)) - d)) (i64 (aF .u64 (u64 (i64 (b+d))) (1:Int))) w)
 (f2 b c w)))):Cl Pg [] aS ⟨[(an a),(ni b),(ni c),(ni d),e]⟩ w R:=co Tryz.f214 [(8,[(10,kI),(11,kI)]),(21,[(13,kI)]),(36,[(14,kI),(15,kI)]),(49,[(17,kI)]),(62,[(20,kI),(21,kI)]),(74,[(20,kI),(21,kI)]),(86,[])] h
theorem mQ.ok (a:Sl) (b:Int) (c:Int) (d:Int) (e:Value) (R:World→Prop) w (h:
 db (i64 (c - b)) (i64 (d - c)) w fun f g (h:Int) (i:Int) j=>
 aa (h !=i)
 (aa (decide (h>i))
 (Cl Pg [] bq ⟨[(an a),(ni (i64 (c - h))),(ni c),(ni i),e]⟩ j fun k=>
 f (i64 (h - i)) i k∧g (i64 (h - i)) i k<g h i j)
 (Cl Pg [] bq ⟨[(an a),(ni (i64 (c - h))),(ni (i64 ((i64 (c+i)) - h))),(ni h),e]⟩ j fun l=>
 f h (i64 (i - h)) l∧g h (i64 (i - h)) l<g h i j))
 (Cl Pg [] bq ⟨[(an a),(ni (i64 (c - h))),(ni c),(ni h),e]⟩ j fun m=>
 R m)):Cl Pg [] dj ⟨[(an a),(ni b),(ni c),(ni d),e]⟩ w R:=co Tryz.f220 [(5,[(10,kI),(11,kI)])] h
theorem kL.ok (a:Sl) (b:Int) (c:Int) (d:Int) (e:Value) (R:World→Prop) w (h:
 dN 0 w fun f g (h:Int) i=>
 aa (decide (h<d))
 (ao i fun j=>
 ar a (i64 (c+h)) 1 fun k=>
 Ld kI k j fun (l:Int)=>
 ar a (i64 (b+h)) 1 fun m=>
 Ld kI m j fun (n:Int)=>
 ar a (i64 (b+h)) 1 fun o=>
 St o (ni l) j fun p=>
 ar a (i64 (c+h)) 1 fun q=>
 St q (ni n) p fun r=>
 f (i64 (h+1)) r∧g (i64 (h+1)) r<g h i)
 (R i)):Cl Pg [] bq ⟨[(an a),(ni b),(ni c),(ni d),e]⟩ w R:=co Tryz.f233 [(2,[(10,kI)])] h
end Go.Proofs.YtcdpblipagajiaaGreat
set_option maxRecDepth 20000
namespace Go.Srt
def Ky (key:Int→Int) (x y:Int):Prop:=key x<key y∨(key x=key y∧x<y)
theorem Ky.trans {key:Int→Int} {x y z:Int} (h:Ky key x y) (h2:Ky key y z):Ky key x z:=by
 unfold Ky at*;omega
abbrev Sd (key:Int→Int) (l:List Int):Prop:=l.Pairwise (Ky key)
theorem n0 {α:Type} (P Q:List α) (x y:α):(P++x::Q).set P.length y=P++y::Q:=by
 rw [List.set_append_right _ _ (Nat.le_refl _)];simp
theorem Hj {α:Type} (P Q:List α) (x:α) (h:P.length<(P++x::Q).length):(P++x::Q)[P.length]=x:=by
 rw [List.getElem_append_right (Nat.le_refl _)];simp
end Go.Srt
namespace Go.Proofs.YtcdpblipagajiaaGreat
open Go Go.Vc Go.Srt
section
variable {E w:World} {F:List HP}
theorem Fe {s:Sl} {xs:List Int} {i j:Int} {K:World→Prop} (h:Hp E w (ak 1 s (xs.map vI)::F)) (hi0:0≤i) (hi:i.toNat<xs.length) (hj0:0≤j) (hj:j.toNat<xs.length)
  (hK: ∀w',Hp E w' (ak 1 s (((xs.set i.toNat xs[j.toNat]).set j.toNat xs[i.toNat]).map vI)::F)→K w'):
  ar s j 1 fun q=>Ld kI q w fun x=>ar s i 1 fun q'=>Ld kI q' w fun y=>ar s i 1 fun q2=>St q2 (.int .i64 x) w fun w1=>ar s j 1 fun q3=>St q3 (.int .i64 y) w1 K:=by
 have hl:=h.aH
 simp only [List.length_map,Nat.mul_one] at hl
 refine ar.rd (h.al ab.own) hj0 (by omega) fun q hq hc=> ?_
 refine Ld.sc (s:= .int .i64) xs[j.toNat] (by rw [hc];simp [vI]) ?_
 refine ar.rd (h.al ab.own) hi0 (by omega) fun q' hq' hc'=> ?_
 refine Ld.sc (s:= .int .i64) xs[i.toNat] (by rw [hc'];simp [vI]) ?_
 refine St.own h hi0 (by omega) rfl fun w1 h1=> ?_
 refine St.own h1 hj0 (by omega) rfl fun w2 h2=>hK _ ?_
 rw [List.map_set,List.map_set]
 exact h2
theorem Ib {s:Sl} {P Q:List Int} {x y:Int} {i j:Int} {K:World→Prop} (h:Hp E w (ak 1 s ((P++x::y::Q).map vI)::F)) (hi:i=(P.length:Int)) (hj:j=(P.length:Int)+1)
  (hK: ∀w',Hp E w' (ak 1 s ((P++y::x::Q).map vI)::F)→K w'):
  ar s j 1 fun q=>Ld kI q w fun x=>ar s i 1 fun q'=>Ld kI q' w fun y=>ar s i 1 fun q2=>St q2 (.int .i64 x) w fun w1=>ar s j 1 fun q3=>St q3 (.int .i64 y) w1 K:=by
 refine Fe h (by omega) (by simp;omega) (by omega) (by simp;omega) fun w' h'=>hK _ ?_
 have e1:i.toNat=P.length:=by omega
 have e2:j.toNat=(P++ [x]).length:=by simp;omega
 have g1:(P++x::y::Q)[i.toNat]'(by simp;omega)=x:=by simp only [e1];exact Hj _ _ _ _
 have g2:(P++x::y::Q)[j.toNat]'(by simp;omega)=y:=by
  have:=Hj (P++ [x]) Q y (by simp)
  simp only [e2];simp
 rw [g1,g2,e1,n0,e2,show (P++y::y::Q)=(P++ [y])++y::Q by simp,show (P++ [x]).length=(P++ [y]).length by simp,n0] at h'
 simpa using h'
theorem BA {s:Sl} {P Q:List Int} {x y:Int} {i j:Int} {K:World→Prop} (h:Hp E w (ak 1 s ((P++x::y::Q).map vI)::F)) (hi:i=(P.length:Int)) (hj:j=(P.length:Int)+1)
  (hK: ∀w',Hp E w' (ak 1 s ((P++y::x::Q).map vI)::F)→K w'):
  ar s i 1 fun q=>Ld kI q w fun x=>ar s j 1 fun q'=>Ld kI q' w fun y=>ar s j 1 fun q2=>St q2 (.int .i64 x) w fun w1=>ar s i 1 fun q3=>St q3 (.int .i64 y) w1 K:=by
 refine Fe h (by omega) (by simp;omega) (by omega) (by simp;omega) fun w' h'=>hK _ ?_
 have e1:i.toNat=P.length:=by omega
 have e2:j.toNat=(P++ [x]).length:=by simp;omega
 have g1:(P++x::y::Q)[i.toNat]'(by simp;omega)=x:=by simp only [e1];exact Hj _ _ _ _
 have g2:(P++x::y::Q)[j.toNat]'(by simp;omega)=y:=by
  have:=Hj (P++ [x]) Q y (by simp)
  simp only [e2];simp
 rw [g1,g2,e2,show (P++x::y::Q)=(P++ [x])++y::Q by simp,n0,e1,show (P++ [x])++x::Q=P++x::x::Q by simp,n0] at h'
 simpa using h'
theorem xE {s:Sl} {P A C B Q:List Int} {fv:Value} {a b n:Int} {K:World→Prop} (h:Hp E w (ak 1 s ((P++A++C++B++Q).map vI)::F)) (hab:A.length=B.length) (hbig:(P++A++C++B++Q).length≤bR)
  (ha:a=(P.length:Int)) (hb:b=((P++A++C).length:Int)) (hn:n=(A.length:Int)) (hK: ∀w',Hp E w' (ak 1 s ((P++B++C++A++Q).map vI)::F)→K w'):
  Cl Tryz.prog [] bq ⟨[.slice s.base s.len s.cap,.int .i64 a,.int .i64 b,.int .i64 n,fv]⟩ w K:=by
 subst ha;subst hb;subst hn
 refine kL.ok _ _ _ _ _ _ _ ?_
 rw [av] at hbig
 simp only [List.length_append] at hbig
 refine ⟨fun i w'=> ∃k:Nat,i=(k:Int)∧k≤A.length∧Hp E w' (ak 1 s ((P++(B.take k++A.drop k)++C++(A.take k++B.drop k)++Q).map vI)::F),fun i _=>A.length - i.toNat,⟨0,rfl,by omega,by simpa using h⟩,?_⟩
 rintro i w' ⟨k,rfl,hk,hh⟩
 refine aa.mk (fun hlt=> ?_) (fun hge=> ?_)
 ·have hlt:k<A.length:=by have:=of_decide_eq_true hlt;omega
  refine ao.mk hh fun w1 h1=> ?_
  simp only [List.length_append]
  rw [ag (x:=((P.length+A.length+C.length:Nat):Int)+(k:Int)) (by omega),ag (x:=(P.length:Int)+(k:Int)) (by omega)]
  have hkB:k<B.length:=by omega
  refine Fe h1 (by omega) (by simp;omega) (by omega) (by simp;omega) fun w2 h2=> ?_
  rw [ag (by omega)]
  refine ⟨⟨k+1,rfl,by omega,?_⟩,by omega⟩
  have e1:((P.length:Int)+(k:Int)).toNat=P.length+k:=by omega
  have e2:(((P.length+A.length+C.length:Nat):Int)+(k:Int)).toNat=P.length+A.length+C.length+k:=by omega
  have dA:A.drop k=A[k]::A.drop (k+1):=(List.drop_eq_getElem_cons hlt)
  have dB:B.drop k=B[k]::B.drop (k+1):=(List.drop_eq_getElem_cons hkB)
  have tA:A.take (k+1)=A.take k++ [A[k]]:=by rw [List.take_add_one,List.getElem?_eq_getElem hlt];rfl
  have tB:B.take (k+1)=B.take k++ [B[k]]:=by rw [List.take_add_one,List.getElem?_eq_getElem hkB];rfl
  have X:P++(B.take k++A.drop k)++C++(A.take k++B.drop k)++Q=(P++B.take k)++A[k]::(A.drop (k+1)++C++A.take k++B[k]::(B.drop (k+1)++Q)):=by rw [dA,dB];simp only [List.append_assoc,List.cons_append,List.nil_append]
  have l1:(P++B.take k).length=P.length+k:=by simp;omega
  have X2: ∀z,(P++B.take k)++z::(A.drop (k+1)++C++A.take k++B[k]::(B.drop (k+1)++Q))=(P++B.take k++z::(A.drop (k+1)++C++A.take k))++B[k]::(B.drop (k+1)++Q):=by intro z;simp only [List.append_assoc,List.cons_append,List.nil_append]
  have l2: ∀z:Int,(P++B.take k++z::(A.drop (k+1)++C++A.take k)).length=P.length+A.length+C.length+k:=by intro z;simp;omega
  have g1:(P++(B.take k++A.drop k)++C++(A.take k++B.drop k)++Q)[((P.length:Int)+(k:Int)).toNat]? =some A[k]:=by
   rw [X,e1,←l1,List.getElem?_append_right (Nat.le_refl _)];simp
  have g2:(P++(B.take k++A.drop k)++C++(A.take k++B.drop k)++Q)[(((P.length+A.length+C.length:Nat):Int)+(k:Int)).toNat]? =some B[k]:=by
   rw [X,X2,e2,←l2 A[k],List.getElem?_append_right (Nat.le_refl _)];simp
  have g1':=(List.getElem?_eq_some_iff.1 g1).2
  have g2':=(List.getElem?_eq_some_iff.1 g2).2
  rw [g1',g2',e1,e2,X] at h2
  rw [←l1,n0,X2,←l2 B[k],n0] at h2
  have Y:P++B.take k++B[k]::(A.drop (k+1)++C++A.take k)++A[k]::(B.drop (k+1)++Q)=P++(B.take (k+1)++A.drop (k+1))++C++(A.take (k+1)++B.drop (k+1))++Q:=by rw [tA,tB];simp only [List.append_assoc,List.cons_append,List.nil_append]
  rw [Y] at h2
  exact h2
 ·have hge:k=A.length:=by have:=of_decide_eq_false hge;omega
  subst hge
  refine hK _ ?_
  rw [List.drop_eq_nil_of_le (Nat.le_refl _),List.take_length,List.take_of_length_le (by omega),List.drop_eq_nil_of_le (by omega)] at hh
  simpa using hh
theorem E8 {s:Sl} {P A B Q:List Int} {fv:Value} {a m b:Int} {K:World→Prop} (h:Hp E w (ak 1 s ((P++A++B++Q).map vI)::F)) (hA:A≠ []) (hB:B≠ []) (hbig:(P++A++B++Q).length≤bR)
  (ha:a=(P.length:Int)) (hm:m=((P++A).length:Int)) (hb:b=((P++A++B).length:Int)) (hK: ∀w',Hp E w' (ak 1 s ((P++B++A++Q).map vI)::F)→K w'):
  Cl Tryz.prog [] dj ⟨[.slice s.base s.len s.cap,.int .i64 a,.int .i64 m,.int .i64 b,fv]⟩ w K:=by
 subst ha;subst hm;subst hb
 refine mQ.ok _ _ _ _ _ _ _ ?_
 have hbg:=hbig
 rw [av] at hbig
 simp only [List.length_append] at hbig
 have hA1:=List.length_pos_iff.2 hA
 have hB1:=List.length_pos_iff.2 hB
 refine ⟨fun i j w'=> ∃P' A' B' Q':List Int,i=(A'.length:Int)∧j=(B'.length:Int)∧A'≠ []∧B'≠ []∧(P'++A').length=(P++A).length∧P'++B'++A'++Q'=P++B++A++Q∧Hp E w' (ak 1 s ((P'++A'++B'++Q').map vI)::F),
  fun i j _=>i.toNat+j.toNat,⟨P,A,B,Q,?_,?_,hA,hB,rfl,rfl,h⟩,?_⟩
 ·simp only [List.length_append];rw [ag (by omega)];omega
 ·simp only [List.length_append];rw [ag (by omega)];omega
 ·rintro i j w' ⟨P',A',B',Q',rfl,rfl,hA',hB',hm',htot,hh⟩
  have hA2:=List.length_pos_iff.2 hA'
  have hB2:=List.length_pos_iff.2 hB'
  have hlen:=congrArg List.length htot
  simp only [List.length_append] at hlen hm'⊢
  refine aa.mk (fun hne=>aa.mk (fun hgt=> ?_) (fun hle=> ?_)) (fun heq=> ?_)
  ·have hgt:=of_decide_eq_true hgt
   have hsp:A'.take B'.length++A'.drop B'.length=A':=List.take_append_drop _ _
   have ht:(A'.take B'.length).length=B'.length:=by simp;omega
   generalize A'.take B'.length=A1 at hsp ht
   generalize A'.drop B'.length=A2 at hsp
   subst hsp
   simp only [List.length_append] at hgt hlen hm' hA2⊢
   rw [ag (by omega),ag (by omega)]
   refine xE (P:=P') (A:=A1) (C:=A2) (B:=B') (Q:=Q') (by simpa using hh) ht (by rw [av];simp only [List.length_append];omega) (by omega) (by simp only [List.length_append];omega) (by omega) fun w2 h2=> ?_
   refine ⟨⟨P'++B',A2,A1,Q',by omega,by omega,?_,?_,by simp only [List.length_append];omega,by rw [←htot];simp only [List.append_assoc],by simpa using h2⟩,by omega⟩
   ·intro h0;rw [h0] at hgt;simp at hgt;omega
   ·intro h0;rw [h0] at ht;simp at ht;omega
  ·have hle:=of_decide_eq_false hle
   have hne: ¬(A'.length:Int)=(B'.length:Int):=by simpa using hne
   have hsp:B'.take (B'.length - A'.length)++B'.drop (B'.length - A'.length)=B':=List.take_append_drop _ _
   have ht:(B'.drop (B'.length - A'.length)).length=A'.length:=by simp;omega
   generalize B'.take (B'.length - A'.length)=B1 at hsp
   generalize B'.drop (B'.length - A'.length)=B2 at hsp ht
   subst hsp
   simp only [List.length_append] at hle hlen hne hB2⊢
   simp (disch:=omega) only [ag]
   refine xE (P:=P') (A:=A') (C:=B1) (B:=B2) (Q:=Q') (by simpa using hh) ht.symm (by rw [av];simp only [List.length_append];omega) (by omega) (by simp only [List.length_append];omega) rfl fun w2 h2=> ?_
   refine ⟨⟨P',B2,B1,A'++Q',by omega,by omega,?_,?_,by omega,by rw [←htot];simp only [List.append_assoc],by simpa using h2⟩,by omega⟩
   ·intro h0;rw [h0] at ht;simp at ht;omega
   ·intro h0;rw [h0] at hne;simp at hne;omega
  ·have heq:(A'.length:Int)=(B'.length:Int):=by simpa using heq
   rw [ag (by omega)]
   refine xE (P:=P') (A:=A') (C:= []) (B:=B') (Q:=Q') (by simpa using hh) (by omega) (by rw [av];simp;omega) (by omega) (by simp;omega) rfl fun w2 h2=>hK _ ?_
   rw [←htot]
   simpa using h2
def qL (E:World) (F:List HP) (fv:Value) (key:Int→Int) (D:Int→Prop):Prop:=
 ∀(A:List HP) (w:World) (y x:Int) (K:Int→World→Prop),Hp E w (A++F)→D x→D y→(∀z w',(z<0↔key y<key x)→Hp E w' (A++F)→K z w')→gW Tryz.prog fv [kI] [.int .i64 y,.int .i64 x] w K
theorem ud {key:Int→Int} {x y:Int} (h:x<y):(key y<key x↔Ky key y x)∧(¬key y<key x↔Ky key x y):=by
 unfold Ky;constructor<;>constructor<;>intro h2<;>omega
theorem Ir {key:Int→Int} {S:List Int} {y x:Int} (h:Sd key (S++ [y])) (hy:Ky key y x): ∀z∈S++ [y],Ky key z x:=by
 intro z hz
 rcases List.mem_append.1 hz with hz|hz
 ·have:=(List.pairwise_append.1 h).2.2 z hz y (by simp)
  exact this.trans hy
 ·have:z=y:=by simpa using hz
  subst this;exact hy
theorem rB {s:Sl} {P L Q:List Int} {fv:Value} {key:Int→Int} {D:Int→Prop} {a b:Int} {K:World→Prop} (h:Hp E w (ak 1 s ((P++L++Q).map vI)::F)) (hbig:(P++L++Q).length≤bR)
  (hc:qL E F fv key D) (hD: ∀x∈L,D x) (hL:L.Pairwise (·< ·)) (ha:a=(P.length:Int)) (hb:b=((P++L).length:Int))
  (hK: ∀M w',M.Perm L→Sd key M→Hp E w' (ak 1 s ((P++M++Q).map vI)::F)→K w'):
  Cl Tryz.prog [] bt ⟨[.slice s.base s.len s.cap,.int .i64 a,.int .i64 b,fv]⟩ w K:=by
 subst ha;subst hb
 refine jg.ok _ _ _ _ _ _ ?_
 rw [av] at hbig
 simp only [List.length_append] at hbig⊢
 refine ⟨fun i w'=> ∃(k:Nat) (S:List Int),i=((P.length+k:Nat):Int)∧1≤k∧S.Perm (L.take k)∧Sd key S∧Hp E w' (ak 1 s ((P++S++L.drop k++Q).map vI)::F),fun i _=>P.length+L.length - i.toNat,⟨1,L.take 1,?_,by omega,List.Perm.refl _,?_,by rw [List.append_assoc P,List.take_append_drop];exact h⟩,?_⟩
 ·rw [ag (by omega)];omega
 ·cases L<;>simp
 rintro i w' ⟨k,S,rfl,hk1,hS,hsd,hh⟩
 refine aa.mk (fun hlt=> ?_) (fun hge=> ?_)
 ·have hlt:k<L.length:=by have:=of_decide_eq_true hlt;omega
  have hSl:S.length=k:=by have:=hS.length_eq;rw [List.length_take] at this;omega
  have dL:L.drop k=L[k]::L.drop (k+1):=List.drop_eq_getElem_cons hlt
  have tL:L.take (k+1)=L.take k++ [L[k]]:=by rw [List.take_add_one,List.getElem?_eq_getElem hlt];rfl
  have hxin:L[k]∈L:=List.getElem_mem hlt
  have hless: ∀y∈S,y<L[k]:=by
   intro y hy
   have hy':y∈L.take k:=hS.mem_iff.1 hy
   rw [←List.take_append_drop k L,List.pairwise_append] at hL
   exact hL.2.2 y hy' L[k] (by rw [dL];exact List.mem_cons_self ..)
  have hSin: ∀y∈S,y∈L:=fun y hy=>List.mem_of_mem_take (hS.mem_iff.1 hy)
  generalize L[k]=x at*
  refine ⟨fun j w'=> ∃S1 S2:List Int,j=((P.length+S1.length:Nat):Int)∧S=S1++S2∧(∀y∈S2,Ky key x y)∧Hp E w' (ak 1 s ((P++S1++x::S2++L.drop (k+1)++Q).map vI)::F),fun j _=>j.toNat - P.length,⟨S,[],by omega,by simp,by simp,?_⟩,?_⟩
  ·rw [dL] at hh;simpa using hh
  rintro j w' ⟨S1,S2,rfl,rfl,hS2,hh⟩
  have fin: ∀w',(∀y∈S1,Ky key y x)→Hp E w' (ak 1 s ((P++S1++x::S2++L.drop (k+1)++Q).map vI)::F)→
    (∃(k_1:Nat) (S:List Int),i64 (((P.length+k:Nat):Int)+1)=((P.length+k_1:Nat):Int)∧1≤k_1∧S.Perm (L.take k_1)∧Sd key S∧Hp E w' (ak 1 s ((P++S++L.drop k_1++Q).map vI)::F))∧P.length+L.length - (i64 (((P.length+k:Nat):Int)+1)).toNat<P.length+L.length - (((P.length+k:Nat):Int)).toNat:=by
   intro w' hS1 hh
   rw [ag (by omega)]
   refine ⟨⟨k+1,S1++x::S2,by omega,by omega,?_,?_,by simpa using hh⟩,by omega⟩
   ·rw [tL]
    refine List.perm_middle.trans ?_
    exact (List.Perm.cons x hS).trans (List.perm_append_comm (l₁:= [x]))
   ·obtain ⟨p1,p2,p3⟩:=List.pairwise_append.1 hsd
    refine List.pairwise_append.2 ⟨p1,List.pairwise_cons.2 ⟨hS2,p2⟩,fun y hy z hz=> ?_⟩
    rcases List.mem_cons.1 hz with rfl|hz
    ·exact hS1 y hy
    ·exact p3 y hy z hz
  refine ao.mk hh fun w1 h1=>aa.mk (fun hgt=> ?_) (fun hle=> ?_)
  ·have hgt:=of_decide_eq_true hgt
   rcases List.eq_nil_or_concat S1 with rfl|⟨S1',y,rfl⟩
   ·simp at hgt
   ·rw [List.concat_eq_append] at*
    simp only [List.length_append,List.length_cons,List.length_nil] at*
    have hln:=h1.aH
    simp only [List.length_map,List.length_append,List.length_cons,List.length_nil,Nat.mul_one] at hln
    rw [ag (by omega)]
    have hform:P++(S1'++ [y])++x::S2++L.drop (k+1)++Q=(P++S1')++y::x::(S2++L.drop (k+1)++Q):=by simp
    have gx:(P++(S1'++ [y])++x::S2++L.drop (k+1)++Q)[P.length+S1'.length+1]? =some x:=by
     rw [hform,show P.length+S1'.length+1=(P++S1').length+1 by simp,List.getElem?_append_right (by omega)];simp
    have gy:(P++(S1'++ [y])++x::S2++L.drop (k+1)++Q)[P.length+S1'.length]? =some y:=by
     rw [hform,show P.length+S1'.length=(P++S1').length by simp,List.getElem?_append_right (by omega)];simp
    refine ar.rd (h1.al ab.own) (by omega) (by omega) fun q hq hc1=> ?_
    refine Ld.sc (s:= .int .i64) x (by
     rw [hc1,←List.getElem?_eq_getElem,List.getElem?_map,show (((P.length+(S1'.length+(0+1)):Nat):Int)).toNat=P.length+S1'.length+1 by omega,gx];rfl) ?_
    refine ar.rd (h1.al ab.own) (by omega) (by omega) fun q2 hq2 hc2=> ?_
    refine Ld.sc (s:= .int .i64) y (by
     rw [hc2,←List.getElem?_eq_getElem,List.getElem?_map,show (((P.length+(S1'.length+(0+1)):Nat):Int) - 1).toNat=P.length+S1'.length by omega,gy];rfl) ?_
    refine hc [_] w1 x y _ h1 (hD y (hSin y (by simp))) (hD x hxin) fun z w2 hz h2=> ?_
    have hyx:=ud (key:=key) (hless y (by simp))
    refine aa.mk (fun hneg=> ?_) (fun hpos=> ?_)
    ·have hneg:=hyx.1.1 (hz.1 (of_decide_eq_true hneg))
     refine ao.mk h2 fun w3 h3=> ?_
     refine BA (P:=P++S1') (Q:=S2++L.drop (k+1)++Q) (x:=y) (y:=x) (by rw [←hform];exact h3) (by simp;omega) (by simp;omega) fun w4 h4=> ?_
     refine ⟨⟨S1',y::S2,by omega,by simp,?_,by simpa using h4⟩,by omega⟩
     intro z hz
     rcases List.mem_cons.1 hz with rfl|hz
     ·exact hneg
     ·exact hS2 z hz
    ·have hpos:=hyx.2.1 (fun hk=>(of_decide_eq_false hpos) (hz.2 hk))
     exact fin w2 (Ir (List.pairwise_append.1 hsd).1 hpos) h2
  ·have hle:=of_decide_eq_false hle
   have:S1= []:=List.length_eq_zero_iff.1 (by omega)
   subst this
   exact fin w1 (by simp) h1
 ·have hge:L.length≤k:=by have:=of_decide_eq_false hge;omega
  rw [List.take_of_length_le hge] at hS
  rw [List.drop_eq_nil_of_le hge] at hh
  exact hK S _ hS hsd (by simpa using hh)
end
end Go.Proofs.YtcdpblipagajiaaGreat
set_option maxRecDepth 20000
namespace Go.Proofs.YtcdpblipagajiaaGreat
open Go Go.Vc Go.Srt
section
variable {E w:World} {F:List HP}
theorem zN {s:Sl} {xs:List Int} {i:Int} {x:Int} {K:Int→Prop} (h:Hp E w (ak 1 s (xs.map vI)::F)) (h0:0≤i) (hx:xs[i.toNat]? =some x) (hK:K x):ar s i 1 fun q=>Ld kI q w K:=by
 have hl:=h.aH
 simp only [List.length_map,Nat.mul_one] at hl
 have hi:=(List.getElem?_eq_some_iff.1 hx).1
 refine ar.rd (h.al ab.own) h0 (by omega) fun q hq hc=> ?_
 refine Ld.sc (s:= .int .i64) x (by rw [hc,←List.getElem?_eq_getElem,List.getElem?_map,hx];rfl) hK
theorem ifs {c1 c2:Bool} {X Y:Prop} (h1:c1=true→c2=true→Y) (h2:c1=false∨c2=false→X):aa c1 (aa c2 Y X) X:=by
 cases c1<;>cases c2<;>simp [aa]<;>first|exact h1 rfl rfl|exact h2 (.inl rfl)|exact h2 (.inr rfl)
theorem zX {α:Type} {r:α} {k:α→Prop} (C:α→Prop) (h1:C r) (h2: ∀K,C K→k K):bo r k:=h2 r h1
theorem xh {a b:Int} {k:Nat} (h:a+b=(k:Int)) (hk:k≤4*bR):i64 (aF .u64 (u64 (i64 (a+b))) 1)=((k/2:Nat):Int):=by
 rw [av] at hk
 rw [h,ag (x:=(k:Int)) (by omega),mo (x:=(k:Int)) (by omega)]
 have:=bG (k:= .u64) (a:=k) (b:=1) (by decide)
 rw [show (1:Int)=((1:Nat):Int) from rfl,this,ag (by omega)]
theorem wV {key:Int→Int} {R:List Int} (h:Sd key R) {t u:Nat} (hu:u<R.length) (ht:t≤u) {x:Int} (hx:Ky key R[u] x):Ky key (R[t]'(by omega)) x:=by
 by_cases e:t=u
 ·subst e;exact hx
 ·exact ((List.pairwise_iff_getElem.1 h) t u (by omega) hu (by omega)).trans hx
theorem wX {key:Int→Int} {R:List Int} (h:Sd key R) {t u:Nat} (hu:u<R.length) (ht:t≤u) {x:Int} (hx:Ky key x (R[t]'(by omega))):Ky key x R[u]:=by
 by_cases e:t=u
 ·subst e;exact hx
 ·exact hx.trans ((List.pairwise_iff_getElem.1 h) t u (by omega) hu (by omega))
theorem DB {key:Int→Int} {A B:List Int} {x:Int} (h:Sd key (A++B)) (h1: ∀y∈A,Ky key y x) (h2: ∀y∈B,Ky key x y):Sd key (A++x::B):=by
 obtain ⟨p1,p2,p3⟩:=List.pairwise_append.1 h
 refine List.pairwise_append.2 ⟨p1,List.pairwise_cons.2 ⟨h2,p2⟩,fun y hy z hz=> ?_⟩
 rcases List.mem_cons.1 hz with rfl|hz
 ·exact h1 y hy
 ·exact p3 y hy z hz
theorem lI {s:Sl} {fv:Value} {key:Int→Int} {D:Int→Prop} (hc:qL E F fv key D):
  ∀(N:Nat) {P L R Q:List Int} {w:World} {a m b:Int} {K:World→Prop},L.length+R.length≤N→Hp E w (ak 1 s ((P++L++R++Q).map vI)::F)→(P++L++R++Q).length≤bR→
  L≠ []→R≠ []→Sd key L→Sd key R→(∀x∈L,∀y∈R,x<y)→(∀x∈L,D x)→(∀x∈R,D x)→a=(P.length:Int)→m=((P.length+L.length:Nat):Int)→b=((P.length+L.length+R.length:Nat):Int)→
  (∀M w',M.Perm (L++R)→Sd key M→Hp E w' (ak 1 s ((P++M++Q).map vI)::F)→K w')→
  Cl Tryz.prog [] aS ⟨[.slice s.base s.len s.cap,.int .i64 a,.int .i64 m,.int .i64 b,fv]⟩ w K
 |0,P,L,R,Q,w,a,m,b,K,hN,_,_,hL,_,_,_,_,_,_,_,_,_,_=>absurd (List.length_eq_zero_iff.1 (by omega:L.length=0)) hL
 |N+1,P,L,R,Q,w,a,m,b,K,hN,h,hbig,hL,hR,hsL,hsR,hLR,hDL,hDR,ha,hm,hb,hK=>by
  subst ha;subst hm;subst hb
  refine ln.ok _ _ _ _ _ _ _ ?_
  have hbg:=hbig
  rw [av] at hbig
  simp only [List.length_append] at hbig
  have hL1:=List.length_pos_iff.2 hL
  have hR1:=List.length_pos_iff.2 hR
  refine aa.mk (fun h1=> ?_) (fun h1=>aa.mk (fun h2=> ?_) (fun h2=> ?_))
  ·have h1:L.length=1:=by
    rw [ag (by omega)] at h1
    have:=of_decide_eq_true h1;omega
   obtain ⟨x,rfl⟩:=List.length_eq_one_iff.1 h1
   simp only [List.length_cons,List.length_nil,Nat.zero_add] at hbig⊢
   have gR: ∀t (ht:t<R.length),(P++ [x]++R++Q)[P.length+1+t]? =some R[t]:=by
    intro t ht
    rw [List.append_assoc (P++ [x]),List.getElem?_append_right (by simp<;>omega),List.getElem?_append_left (by simp<;>omega)]
    simp only [List.length_append,List.length_cons,List.length_nil]
    rw [show P.length+1+t - (P.length+(0+1))=t by omega,List.getElem?_eq_getElem ht]
   have gx:(P++ [x]++R++Q)[P.length]? =some x:=by
    rw [show P++ [x]++R++Q=P++x::(R++Q) by simp,List.getElem?_append_right (Nat.le_refl _)];simp
   refine ⟨fun i j w'=> ∃u v:Nat,i=((P.length+1+u:Nat):Int)∧j=((P.length+1+v:Nat):Int)∧u≤v∧v≤R.length∧(∀t (_:t<u) (h:t<R.length),Ky key R[t] x)∧(∀t (_:v≤t) (h:t<R.length),Ky key x R[t])∧Hp E w' (ak 1 s ((P++ [x]++R++Q).map vI)::F),
    fun i j _=>j.toNat - i.toNat,⟨0,R.length,rfl,by omega,by omega,Nat.le_refl _,fun t ht=>by omega,fun t ht h=>by omega,h⟩,?_⟩
   rintro i j w' ⟨u,v,rfl,rfl,huv,hv,hlo,hhi,hh⟩
   refine aa.mk (fun hlt=> ?_) (fun hge=> ?_)
   ·have hlt:=of_decide_eq_true hlt
    have hlt:u<v:=by omega
    refine ⟨by decide,ao.mk hh fun w1 h1=> ?_⟩
    rw [xh (k:=P.length+1+u+(P.length+1+v)) (by omega) (by rw [av];omega)]
    obtain ⟨t,ht⟩: ∃t,(P.length+1+u+(P.length+1+v))/2=P.length+1+t:=⟨(u+v)/2,by omega⟩
    rw [ht]
    have htu:u≤t:=by omega
    have htv:t<v:=by omega
    have htR:t<R.length:=by omega
    refine zN h1 (by omega) (x:=R[t]) (by rw [Int.toNat_natCast];exact gR t htR) ?_
    refine zN h1 (by omega) (x:=x) (by rw [Int.toNat_natCast];exact gx) ?_
    have hxy:=hLR x (by simp) R[t] (List.getElem_mem htR)
    have hyx:=ud (key:=key) hxy
    refine hc [_] w1 R[t] x _ h1 (hDL x (by simp)) (hDR _ (List.getElem_mem htR)) fun z w2 hz h2=> ?_
    refine aa.mk (fun hneg=> ?_) (fun hpos=> ?_)
    ·have hneg:=hyx.1.1 (hz.1 (of_decide_eq_true hneg))
     rw [ag (by omega)]
     exact ⟨⟨t+1,v,by omega,rfl,by omega,hv,fun t' h' hl=>wV hsR htR (by omega) hneg,hhi,h2⟩,by dsimp only;omega⟩
    ·have hpos:=hyx.2.1 (fun hk=>(of_decide_eq_false hpos) (hz.2 hk))
     exact ⟨⟨u,t,rfl,rfl,htu,by omega,hlo,fun t' h' hl=>wX hsR hl h' hpos,h2⟩,by dsimp only;omega⟩
   ·have hge:u=v:=by have:=of_decide_eq_false hge;omega
    subst hge
    refine ⟨fun k w'=> ∃t:Nat,k=((P.length+t:Nat):Int)∧t≤u∧Hp E w' (ak 1 s ((P++R.take t++x::R.drop t++Q).map vI)::F),fun k _=>P.length+u - k.toNat,⟨0,rfl,by omega,by simpa using hh⟩,?_⟩
    rintro k w' ⟨t,rfl,htu,hh⟩
    rw [ag (by omega)]
    refine aa.mk (fun hlt=> ?_) (fun hge=> ?_)
    ·have hlt:t<u:=by have:=of_decide_eq_true hlt;omega
     have htR:t<R.length:=by omega
     have dR:R.drop t=R[t]::R.drop (t+1):=List.drop_eq_getElem_cons htR
     have tR:R.take (t+1)=R.take t++ [R[t]]:=by rw [List.take_add_one,List.getElem?_eq_getElem htR];rfl
     refine ao.mk hh fun w1 h1=> ?_
     rw [ag (x:=((P.length+t:Nat):Int)+1) (by omega)]
     refine Ib (P:=P++R.take t) (Q:=R.drop (t+1)++Q) (x:=x) (y:=R[t]) (by rw [dR] at h1;simpa only [List.append_assoc,List.cons_append] using h1) (by simp;omega) (by simp;omega) fun w2 h2=> ?_
     exact ⟨⟨t+1,by omega,by omega,by rw [tR];simpa only [List.append_assoc,List.cons_append,List.nil_append] using h2⟩,by dsimp only;omega⟩
    ·have hge:t=u:=by have:=of_decide_eq_false hge;omega
     subst hge
     refine hK (R.take t++x::R.drop t) _ ?_ ?_ (by simpa only [List.append_assoc,List.cons_append] using hh)
     ·refine List.perm_middle.trans ?_
      rw [List.take_append_drop];exact List.Perm.refl _
     ·refine DB (by rw [List.take_append_drop];exact hsR) (fun y hy=> ?_) (fun y hy=> ?_)
      ·obtain ⟨i,hi,rfl⟩:=List.getElem_of_mem hy
       rw [List.getElem_take]
       exact hlo i (by simp at hi;omega) _
      ·obtain ⟨i,hi,rfl⟩:=List.getElem_of_mem hy
       rw [List.getElem_drop]
       exact hhi _ (by omega) _
  ·have h2:R.length=1:=by
    rw [ag (by omega)] at h2
    have:=of_decide_eq_true h2;omega
   obtain ⟨y,rfl⟩:=List.length_eq_one_iff.1 h2
   simp only [List.length_cons,List.length_nil,Nat.zero_add] at hbig⊢
   have gL: ∀t (ht:t<L.length),(P++L++ [y]++Q)[P.length+t]? =some L[t]:=by
    intro t ht
    rw [List.append_assoc (P++L),List.append_assoc P,List.getElem?_append_right (by omega),List.getElem?_append_left (by omega)]
    rw [show P.length+t - P.length=t by omega,List.getElem?_eq_getElem ht]
   have gy:(P++L++ [y]++Q)[P.length+L.length]? =some y:=by
    rw [show P++L++ [y]++Q=(P++L)++y::Q by simp,List.getElem?_append_right (by simp)];simp
   refine ⟨fun i j w'=> ∃u v:Nat,i=((P.length+u:Nat):Int)∧j=((P.length+v:Nat):Int)∧u≤v∧v≤L.length∧(∀t (_:t<u) (h:t<L.length),Ky key L[t] y)∧(∀t (_:v≤t) (h:t<L.length),Ky key y L[t])∧Hp E w' (ak 1 s ((P++L++ [y]++Q).map vI)::F),
    fun i j _=>j.toNat - i.toNat,⟨0,L.length,rfl,rfl,by omega,Nat.le_refl _,fun t ht=>by omega,fun t ht h=>by omega,h⟩,?_⟩
   rintro i j w' ⟨u,v,rfl,rfl,huv,hv,hlo,hhi,hh⟩
   refine aa.mk (fun hlt=> ?_) (fun hge=> ?_)
   ·have hlt:=of_decide_eq_true hlt
    have hlt:u<v:=by omega
    refine ⟨by decide,ao.mk hh fun w1 h1=> ?_⟩
    rw [xh (k:=P.length+u+(P.length+v)) (by omega) (by rw [av];omega)]
    obtain ⟨t,ht⟩: ∃t,(P.length+u+(P.length+v))/2=P.length+t:=⟨(u+v)/2,by omega⟩
    rw [ht]
    have htu:u≤t:=by omega
    have htv:t<v:=by omega
    have htL:t<L.length:=by omega
    refine zN h1 (by omega) (x:=y) (by rw [Int.toNat_natCast];exact gy) ?_
    refine zN h1 (by omega) (x:=L[t]) (by rw [Int.toNat_natCast];exact gL t htL) ?_
    have hxy:=hLR L[t] (List.getElem_mem htL) y (by simp)
    have hyx:=ud (key:=key) hxy
    refine hc [_] w1 y L[t] _ h1 (hDL _ (List.getElem_mem htL)) (hDR y (by simp)) fun z w2 hz h2=> ?_
    refine aa.mk (fun hneg=> ?_) (fun hpos=> ?_)
    ·have hneg: ¬z<0:=by simpa using hneg
     have hneg:=hyx.2.1 (fun hk=>hneg (hz.2 hk))
     rw [ag (by omega)]
     exact ⟨⟨t+1,v,by omega,rfl,by omega,hv,fun t' h' hl=>wV hsL htL (by omega) hneg,hhi,h2⟩,by dsimp only;omega⟩
    ·have hpos:z<0:=by simpa using hpos
     have hpos:=hyx.1.1 (hz.1 hpos)
     exact ⟨⟨u,t,rfl,rfl,htu,by omega,hlo,fun t' h' hl=>wX hsL hl h' hpos,h2⟩,by dsimp only;omega⟩
   ·have hge:u=v:=by have:=of_decide_eq_false hge;omega
    subst hge
    refine ⟨fun k w'=> ∃t:Nat,k=((P.length+t:Nat):Int)∧u≤t∧t≤L.length∧Hp E w' (ak 1 s ((P++L.take t++y::L.drop t++Q).map vI)::F),fun k _=>k.toNat,⟨L.length,rfl,by omega,Nat.le_refl _,by simpa using hh⟩,?_⟩
    rintro k w' ⟨t,rfl,htu,htl,hh⟩
    refine aa.mk (fun hlt=> ?_) (fun hge=> ?_)
    ·have hlt:u<t:=by have:=of_decide_eq_true hlt;omega
     obtain ⟨t,rfl⟩: ∃t',t=t'+1:=⟨t - 1,by omega⟩
     have htL:t<L.length:=by omega
     have dL:L.drop t=L[t]::L.drop (t+1):=List.drop_eq_getElem_cons htL
     have tL:L.take (t+1)=L.take t++ [L[t]]:=by rw [List.take_add_one,List.getElem?_eq_getElem htL];rfl
     refine ao.mk hh fun w1 h1=> ?_
     rw [ag (x:=((P.length+(t+1):Nat):Int) - 1) (by omega)]
     refine BA (P:=P++L.take t) (Q:=L.drop (t+1)++Q) (x:=L[t]) (y:=y) (by rw [tL] at h1;simpa only [List.append_assoc,List.cons_append,List.nil_append] using h1) (by simp;omega) (by simp;omega) fun w2 h2=> ?_
     exact ⟨⟨t,by omega,by omega,by omega,by rw [dL];simpa only [List.append_assoc,List.cons_append,List.nil_append] using h2⟩,by dsimp only;omega⟩
    ·have hge:t=u:=by have:=of_decide_eq_false hge;omega
     subst hge
     refine hK (L.take t++y::L.drop t) _ ?_ ?_ (by simpa only [List.append_assoc,List.cons_append] using hh)
     ·refine List.perm_middle.trans ?_
      rw [List.take_append_drop];exact List.perm_append_comm (l₁:= [y])
     ·refine DB (by rw [List.take_append_drop];exact hsL) (fun y hy=> ?_) (fun y hy=> ?_)
      ·obtain ⟨i,hi,rfl⟩:=List.getElem_of_mem hy
       rw [List.getElem_take]
       exact hlo i (by simp at hi;omega) _
      ·obtain ⟨i,hi,rfl⟩:=List.getElem_of_mem hy
       rw [List.getElem_drop]
       exact hhi _ (by omega) _
  ·have h1:L.length≠1:=by
    intro h0
    rw [ag (by omega)] at h1
    have h1:=of_decide_eq_false h1;omega
   have h2:R.length≠1:=by
    intro h0
    rw [ag (by omega)] at h2
    have h2:=of_decide_eq_false h2;omega
   have hmid:i64 (aF .u64 (u64 (i64 ((P.length:Int)+((P.length+L.length+R.length:Nat):Int)))) 1)=((P.length+(L.length+R.length)/2:Nat):Int):=by
    rw [xh (k:=P.length+(P.length+L.length+R.length)) (by omega) (by rw [av];omega)]
    omega
   simp only [hmid]
   refine ⟨by decide,?_⟩
   obtain ⟨hf,hfe⟩: ∃hf,(L.length+R.length)/2=hf:=⟨_,rfl⟩
   rw [hfe]
   have gL: ∀t (ht:t<L.length),(P++L++R++Q)[P.length+t]? =some L[t]:=by
    intro t ht
    rw [List.append_assoc (P++L),List.append_assoc P,List.getElem?_append_right (by omega),List.getElem?_append_left (by omega)]
    rw [show P.length+t - P.length=t by omega,List.getElem?_eq_getElem ht]
   have gR: ∀t (ht:t<R.length),(P++L++R++Q)[P.length+L.length+t]? =some R[t]:=by
    intro t ht
    rw [List.append_assoc (P++L),List.getElem?_append_right (by simp),List.getElem?_append_left (by simp;omega)]
    rw [List.length_append,show P.length+L.length+t - (P.length+L.length)=t by omega,List.getElem?_eq_getElem ht]
   refine zX (fun K2=> ∀(u0 v0:Nat) (i j:Int),i=((P.length+u0:Nat):Int)→j=((P.length+v0:Nat):Int)→u0≤v0→v0≤hf→v0≤L.length→hf≤u0+R.length→(u0=0∨hf=u0+R.length)→(v0=hf∨v0=L.length)→K2 i j w) ?_ fun K2 hK2=> ?_
   ·rintro u0 v0 i j rfl rfl huv0 hv1 hv2 hu1 hu2 hv3
    refine ⟨fun i j w'=> ∃u v:Nat,i=((P.length+u:Nat):Int)∧j=((P.length+v:Nat):Int)∧u0≤u∧u≤v∧v≤v0∧(u=u0∨∃x y,L[u - 1]? =some x∧R[hf - u]? =some y∧Ky key x y)∧(v=v0∨∃x y,L[v]? =some x∧R[hf - 1 - v]? =some y∧Ky key y x)∧Hp E w' (ak 1 s ((P++L++R++Q).map vI)::F),
     fun i j _=>j.toNat - i.toNat,⟨u0,v0,rfl,rfl,by omega,huv0,by omega,.inl rfl,.inl rfl,h⟩,?_⟩
    rintro i j w' ⟨u,v,rfl,rfl,hu0,huv,hv0,hlo,hhi,hh⟩
    refine aa.mk (fun hlt=> ?_) (fun hge=> ?_)
    ·have hlt:=of_decide_eq_true hlt
     have hlt:u<v:=by omega
     refine ⟨by decide,ao.mk hh fun w1 h1=> ?_⟩
     rw [xh (k:=P.length+u+(P.length+v)) (by omega) (by rw [av];omega)]
     obtain ⟨t,ht⟩: ∃t,(P.length+u+(P.length+v))/2=P.length+t:=⟨(u+v)/2,by omega⟩
     rw [ht]
     have htu:u≤t:=by omega
     have htv:t<v:=by omega
     have htL:t<L.length:=by omega
     have htR:hf - 1 - t<R.length:=by omega
     simp (disch:=omega) only [ag]
     refine zN h1 (by omega) (x:=R[hf - 1 - t]) (by
      rw [show (((P.length+hf:Nat):Int)+((P.length+L.length:Nat):Int) - 1 - ((P.length+t:Nat):Int)).toNat=P.length+L.length+(hf - 1 - t) by omega];exact gR _ htR) ?_
     refine zN h1 (by omega) (x:=L[t]) (by rw [Int.toNat_natCast];exact gL t htL) ?_
     have hxy:=hLR L[t] (List.getElem_mem htL) _ (List.getElem_mem htR)
     have hyx:=ud (key:=key) hxy
     refine hc [_] w1 _ L[t] _ h1 (hDL _ (List.getElem_mem htL)) (hDR _ (List.getElem_mem htR)) fun z w2 hz h2=> ?_
     refine aa.mk (fun hneg=> ?_) (fun hpos=> ?_)
     ·have hneg: ¬z<0:=by simpa using hneg
      have hneg:=hyx.2.1 (fun hk=>hneg (hz.2 hk))
      refine ⟨⟨t+1,v,by omega,rfl,by omega,by omega,hv0,.inr ⟨L[t],R[hf - 1 - t],?_,?_,hneg⟩,hhi,h2⟩,by omega⟩
      ·simp [htL]
      ·rw [show hf - (t+1)=hf - 1 - t by omega];exact List.getElem?_eq_getElem htR
     ·have hpos:z<0:=by simpa using hpos
      have hpos:=hyx.1.1 (hz.1 hpos)
      exact ⟨⟨u,t,rfl,rfl,hu0,htu,by omega,hlo,.inr ⟨L[t],R[hf - 1 - t],List.getElem?_eq_getElem htL,List.getElem?_eq_getElem htR,hpos⟩,h2⟩,by omega⟩
    ·have hge:u=v:=by have:=of_decide_eq_false hge;omega
     subst hge
     have huL:u≤L.length:=by omega
     have huR:hf - u≤R.length:=by omega
     have hend:i64 (i64 (((P.length+hf:Nat):Int)+((P.length+L.length:Nat):Int)) - ((P.length+u:Nat):Int))=((P.length+L.length+(hf - u):Nat):Int):=by
      simp (disch:=omega) only [ag];omega
     simp only [hend]
     have c1: ∀x∈L.take u,∀y∈R.drop (hf - u),Ky key x y:=by
      intro x hx y hy
      obtain ⟨i,hi,rfl⟩:=List.getElem_of_mem hx
      obtain ⟨j,hj,rfl⟩:=List.getElem_of_mem hy
      simp only [List.length_take,List.length_drop] at hi hj
      rw [List.getElem_take,List.getElem_drop]
      rcases hlo with h0|⟨x,y,hx,hy,hk⟩
      ·rcases hu2 with h0'|h0'<;>omega
      ·obtain ⟨q1,q2⟩:=List.getElem?_eq_some_iff.1 hx
       obtain ⟨q3,q4⟩:=List.getElem?_eq_some_iff.1 hy
       subst q2;subst q4
       exact wX hsR (by omega) (by omega) (wV hsL q1 (by omega) hk)
     have c2: ∀y∈R.take (hf - u),∀x∈L.drop u,Ky key y x:=by
      intro y hy x hx
      obtain ⟨i,hi,rfl⟩:=List.getElem_of_mem hy
      obtain ⟨j,hj,rfl⟩:=List.getElem_of_mem hx
      simp only [List.length_take,List.length_drop] at hi hj
      rw [List.getElem_take,List.getElem_drop]
      rcases hhi with h0|⟨x,y,hx,hy,hk⟩
      ·rcases hv3 with h0'|h0'<;>omega
      ·obtain ⟨q1,q2⟩:=List.getElem?_eq_some_iff.1 hx
       obtain ⟨q3,q4⟩:=List.getElem?_eq_some_iff.1 hy
       subst q2;subst q4
       exact wX hsL (by omega) (by omega) (wV hsR q3 (by omega) hk)
     have eL:L.take u++L.drop u=L:=List.take_append_drop _ _
     have eR:R.take (hf - u)++R.drop (hf - u)=R:=List.take_append_drop _ _
     have lL1:(L.take u).length=u:=by simp;omega
     have lL2:(L.drop u).length=L.length - u:=by simp
     have lR1:(R.take (hf - u)).length=hf - u:=by simp;omega
     have lR2:(R.drop (hf - u)).length=R.length - (hf - u):=by simp
     clear hlo hhi gL gR
     generalize L.take u=L1 at*
     generalize L.drop u=L2 at*
     generalize R.take (hf - u)=R1 at*
     generalize R.drop (hf - u)=R2 at*
     obtain ⟨sL1,sL2,sL3⟩:=List.pairwise_append.1 (eL▸hsL)
     obtain ⟨sR1,sR2,sR3⟩:=List.pairwise_append.1 (eR▸hsR)
     have mL1: ∀x∈L1,x∈L:=fun x hx=>by rw [←eL];exact List.mem_append_left _ hx
     have mL2: ∀x∈L2,x∈L:=fun x hx=>by rw [←eL];exact List.mem_append_right _ hx
     have mR1: ∀x∈R1,x∈R:=fun x hx=>by rw [←eR];exact List.mem_append_left _ hx
     have mR2: ∀x∈R2,x∈R:=fun x hx=>by rw [←eR];exact List.mem_append_right _ hx
     have last: ∀(M1 M2:List Int) (w':World),M1.Perm (L1++R1)→M2.Perm (L2++R2)→Sd key M1→Sd key M2→Hp E w' (ak 1 s ((P++M1++M2++Q).map vI)::F)→K w':=by
      intro M1 M2 w' p1 p2 s1 s2 hh
      refine hK (M1++M2) w' ?_ ?_ (by simpa only [List.append_assoc] using hh)
      ·refine (List.Perm.append p1 p2).trans ?_
       rw [←eL,←eR]
       simp only [List.append_assoc]
       refine List.Perm.append_left _ ?_
       rw [←List.append_assoc,←List.append_assoc]
       exact List.Perm.append_right _ List.perm_append_comm
      ·refine List.pairwise_append.2 ⟨s1,s2,fun x hx y hy=> ?_⟩
       rcases List.mem_append.1 (p1.mem_iff.1 hx) with hx|hx<;>rcases List.mem_append.1 (p2.mem_iff.1 hy) with hy|hy
       ·exact sL3 x hx y hy
       ·exact c1 x hx y hy
       ·exact c2 x hx y hy
       ·exact sR3 x hx y hy
     refine zX (fun K3=> ∀w',Hp E w' (ak 1 s ((P++L1++R1++L2++R2++Q).map vI)::F)→K3 w') ?_ fun K3 hK3=> ?_
     ·intro w3 h3
      have second: ∀(M1:List Int) (w4:World),M1.Perm (L1++R1)→Sd key M1→Hp E w4 (ak 1 s ((P++M1++L2++R2++Q).map vI)::F)→
        aa (decide (((P.length+hf:Nat):Int)<((P.length+L.length+(hf - u):Nat):Int))) (aa (decide (((P.length+L.length+(hf - u):Nat):Int)<((P.length+L.length+R.length:Nat):Int)))
         (Cl Tryz.prog [] aS ⟨[.slice s.base s.len s.cap,.int .i64 ((P.length+hf:Nat):Int),.int .i64 ((P.length+L.length+(hf - u):Nat):Int),.int .i64 ((P.length+L.length+R.length:Nat):Int),fv]⟩ w4 fun w5=>K w5) (K w4)) (K w4):=by
       intro M1 w4 p1 s1 h4
       have lM:=p1.length_eq
       rw [List.length_append] at lM
       refine ifs (fun q1 q2=> ?_) (fun q=> ?_)
       ·have q1:=of_decide_eq_true q1
        have q2:=of_decide_eq_true q2
        refine lI hc N (P:=P++M1) (L:=L2) (R:=R2) (Q:=Q) (by omega) h4 (by rw [av];simp only [List.length_append];omega) (fun e=>by rw [e] at lL2;simp at lL2;omega) (fun e=>by rw [e] at lR2;simp at lR2;omega) sL2 sR2
         (fun x hx y hy=>hLR x (mL2 x hx) y (mR2 y hy)) (fun x hx=>hDL x (mL2 x hx)) (fun x hx=>hDR x (mR2 x hx)) (by simp only [List.length_append];omega) (by simp only [List.length_append];omega) (by simp only [List.length_append];omega) fun M2 w5 p2 s2 h5=> ?_
        exact last M1 M2 w5 p1 p2 s1 s2 h5
       ·have hor:L2= []∨R2= []:=by
         rcases q with q|q
         ·have q:=of_decide_eq_false q;exact .inl (List.length_eq_zero_iff.1 (by omega))
         ·have q:=of_decide_eq_false q;exact .inr (List.length_eq_zero_iff.1 (by omega))
        rcases hor with e|e
        ·subst e
         exact last M1 R2 w4 p1 (List.Perm.refl _) s1 sR2 (by simpa using h4)
        ·subst e
         exact last M1 L2 w4 p1 (by simp) s1 sL2 (by simpa using h4)
      refine ifs (fun q1 q2=> ?_) (fun q=> ?_)
      ·have q1:=of_decide_eq_true q1
       have q2:=of_decide_eq_true q2
       refine lI hc N (P:=P) (L:=L1) (R:=R1) (Q:=L2++R2++Q) (by omega) (by simpa only [List.append_assoc] using h3) (by rw [av];simp only [List.length_append];omega) (fun e=>by rw [e] at lL1;simp at lL1;omega) (fun e=>by rw [e] at lR1;simp at lR1;omega) sL1 sR1
        (fun x hx y hy=>hLR x (mL1 x hx) y (mR1 y hy)) (fun x hx=>hDL x (mL1 x hx)) (fun x hx=>hDR x (mR1 x hx)) rfl (by omega) (by omega) fun M1 w5 p1 s1 h5=> ?_
       exact second M1 w5 p1 s1 (by simpa only [List.append_assoc] using h5)
      ·have hor:L1= []∨R1= []:=by
        rcases q with q|q
        ·have q:=of_decide_eq_false q;exact .inl (List.length_eq_zero_iff.1 (by omega))
        ·have q:=of_decide_eq_false q;exact .inr (List.length_eq_zero_iff.1 (by omega))
       rcases hor with e|e
       ·subst e
        exact second R1 w3 (List.Perm.refl _) sR1 (by simpa using h3)
       ·subst e
        exact second L1 w3 (by simp) sL1 (by simpa using h3)
     ·have hh':Hp E w' (ak 1 s ((P++L1++L2++R1++R2++Q).map vI)::F):=by
       rw [←eL,←eR] at hh;simpa only [List.append_assoc] using hh
      refine ifs (fun q1 q2=> ?_) (fun q=> ?_)
      ·have q1:=of_decide_eq_true q1
       have q2:=of_decide_eq_true q2
       refine E8 (P:=P++L1) (A:=L2) (B:=R1) (Q:=R2++Q) (by simpa only [List.append_assoc] using hh') (fun e=>by rw [e] at lL2;simp at lL2;omega) (fun e=>by rw [e] at lR1;simp at lR1;omega) (by rw [av];simp only [List.length_append];omega)
        (by simp only [List.length_append];omega) (by simp only [List.length_append];omega) (by simp only [List.length_append];omega) fun w5 h5=>hK3 w5 (by simpa only [List.append_assoc] using h5)
      ·have hor:L2= []∨R1= []:=by
        rcases q with q|q
        ·have q:=of_decide_eq_false q;exact .inl (List.length_eq_zero_iff.1 (by omega))
        ·have q:=of_decide_eq_false q;exact .inr (List.length_eq_zero_iff.1 (by omega))
       refine hK3 _ ?_
       rcases hor with e|e
       ·subst e;simpa using hh'
       ·subst e;simpa using hh'
   ·refine aa.mk (fun q=> ?_) (fun q=> ?_)
    ·have q:=of_decide_eq_true q
     refine hK2 (hf - R.length) hf _ _ ?_ rfl (by omega) (Nat.le_refl _) (by omega) (by omega) (.inr (by omega)) (.inl rfl)
     simp (disch:=omega) only [ag];omega
    ·have q:=of_decide_eq_false q
     exact hK2 0 L.length _ _ rfl rfl (by omega) (by omega) (Nat.le_refl _) (by omega) (.inl rfl) (.inr rfl)
end
end Go.Proofs.YtcdpblipagajiaaGreat
set_option maxRecDepth 20000
namespace Go.Srt
inductive Ck (key:Int→Int) (sz:Nat):List Int→List Int→Prop where
 |nil:Ck key sz [] []
 |last (A B:List Int) (h1:A.length<sz) (h2:B.Perm A) (h3:Sd key B):Ck key sz A B
 |cons (A B X Y:List Int) (h1:A.length=sz) (h2:B.Perm A) (h3:Sd key B) (h4:Ck key sz X Y):Ck key sz (A++X) (B++Y)
theorem Ck.len {key:Int→Int} {sz:Nat} {X Y:List Int} (h:Ck key sz X Y):Y.length=X.length:=by
 induction h with
 |nil=>rfl
 |last A B h1 h2 h3=>exact h2.length_eq
 |cons A B X Y h1 h2 h3 h4 ih=>simp [h2.length_eq,ih]
theorem Ck.one {key:Int→Int} {sz:Nat} {X Y:List Int} (h:Ck key sz X Y) (hl:X.length≤sz):Y.Perm X∧Sd key Y:=by
 cases h with
 |nil=>exact ⟨List.Perm.refl _,List.Pairwise.nil⟩
 |last _ _ h1 h2 h3=>exact ⟨h2,h3⟩
 |cons A B X Y h1 h2 h3 h4=>
  rw [List.length_append] at hl
  have hX:X= []:=List.length_eq_zero_iff.1 (by omega)
  have hY:Y= []:=List.length_eq_zero_iff.1 (by rw [h4.len,hX];rfl)
  subst hX;subst hY
  simpa using ⟨h2,h3⟩
theorem Ck.first {key:Int→Int} {sz:Nat} {X Y:List Int} (h:Ck key sz X Y) (hl:sz≤X.length) (h0:0<sz): ∃A B X' Y',X=A++X'∧Y=B++Y'∧A.length=sz∧B.Perm A∧Sd key B∧Ck key sz X' Y':=by
 cases h with
 |nil=>simp at hl;omega
 |last _ _ h1 h2 h3=>omega
 |cons A B X Y h1 h2 h3 h4=>exact ⟨A,B,X,Y,rfl,rfl,h1,h2,h3,h4⟩
end Go.Srt
namespace Go.Proofs.YtcdpblipagajiaaGreat
open Go Go.Vc Go.Srt
section
variable {E w:World} {F:List HP}
theorem Eb {A1 A2 B1 B2:List Int} (h:(A1++A2).Pairwise (·< ·)) (p1:B1.Perm A1) (p2:B2.Perm A2): ∀x∈B1,∀y∈B2,x<y:=
 fun x hx y hy=>(List.pairwise_append.1 h).2.2 x (p1.mem_iff.1 hx) y (p2.mem_iff.1 hy)
theorem F0 {s:Sl} {xs:List Int} {fv:Value} {key:Int→Int} {D:Int→Prop} {n:Int} {K:World→Prop} (h:Hp E w (ak 1 s (xs.map vI)::F)) (hbig:xs.length≤bR)
  (hc:qL E F fv key D) (hD: ∀x∈xs,D x) (hL:xs.Pairwise (·< ·)) (hn:n=(xs.length:Int))
  (hK: ∀ys w',ys.Perm xs→Sd key ys→Hp E w' (ak 1 s (ys.map vI)::F)→K w'):
  Cl Tryz.prog [] di ⟨[.slice s.base s.len s.cap,.int .i64 n,fv]⟩ w K:=by
 subst hn
 refine mN.ok _ _ _ _ _ ?_
 have hbg:=hbig
 rw [av] at hbig
 refine ⟨fun a b w'=> ∃Xd Z X:List Int,a=(Xd.length:Int)∧b=((Xd.length+20:Nat):Int)∧xs=Xd++X∧Z.length=Xd.length∧(∀X' Y',Ck key 20 X' Y'→Ck key 20 (Xd++X') (Z++Y'))∧Hp E w' (ak 1 s ((Z++X).map vI)::F),
  fun a _ _=>xs.length - a.toNat,⟨[],[],xs,rfl,rfl,rfl,rfl,fun X' Y' h=>h,h⟩,?_⟩
 rintro a b w' ⟨Xd,Z,X,rfl,rfl,hxs,hZ,hck,hh⟩
 have hlen:xs.length=Xd.length+X.length:=by rw [hxs,List.length_append]
 have hX: ∀x∈X,x∈xs:=fun x hx=>by rw [hxs];exact List.mem_append_right _ hx
 have hasc:X.Pairwise (·< ·):=by rw [hxs] at hL;exact (List.pairwise_append.1 hL).2.1
 refine aa.mk (fun hle=> ?_) (fun hgt=> ?_)
 ·have hle:=of_decide_eq_true hle
  have e:X.take 20++X.drop 20=X:=List.take_append_drop _ _
  have l1:(X.take 20).length=20:=by simp;omega
  generalize X.take 20=A at e l1
  generalize X.drop 20=X2 at e
  subst e
  rw [List.length_append] at hlen
  refine rB (P:=Z) (L:=A) (Q:=X2) (key:=key) (D:=D) (by simpa only [List.append_assoc] using hh) (by rw [av];simp only [List.length_append];omega) hc (fun x hx=>hD x (hX x (List.mem_append_left _ hx))) (List.pairwise_append.1 hasc).1
   (by omega) (by simp only [List.length_append];omega) fun M w2 p1 s1 h2=> ?_
  rw [ag (by omega)]
  refine ⟨⟨Xd++A,Z++M,X2,by simp only [List.length_append];omega,by simp only [List.length_append];omega,by rw [hxs,List.append_assoc],by simp only [List.length_append];rw [p1.length_eq];omega,fun X' Y' hk=> ?_,h2⟩,by dsimp only;omega⟩
  rw [List.append_assoc,List.append_assoc]
  exact hck _ _ (.cons A M X' Y' l1 p1 s1 hk)
 ·have hgt:=of_decide_eq_false hgt
  refine rB (P:=Z) (L:=X) (Q:= []) (key:=key) (D:=D) (by simpa using hh) (by rw [av];simp only [List.length_append,List.length_nil];omega) hc (fun x hx=>hD x (hX x hx)) hasc
   (by omega) (by simp only [List.length_append];omega) fun M w2 p1 s1 h2=> ?_
  have hck:=hck _ _ (.last X M (by omega) p1 s1)
  rw [←hxs] at hck
  refine ⟨fun bs w'=> ∃(sz:Nat) (ys:List Int),bs=(sz:Int)∧20≤sz∧sz≤2*bR∧Ck key sz xs ys∧Hp E w' (ak 1 s (ys.map vI)::F),fun bs _=>xs.length - bs.toNat,⟨20,Z++M,rfl,by omega,by rw [av];omega,hck,by simpa using h2⟩,?_⟩
  rintro bs w' ⟨sz,ys,rfl,hsz,hszb,hck,hh⟩
  rw [av] at hszb
  refine aa.mk (fun hlt=> ?_) (fun hge=> ?_)
  ·have hlt:=of_decide_eq_true hlt
   have hlt:sz<xs.length:=by omega
   refine ⟨fun a b w'=> ∃Xd Z X Y:List Int,a=(Xd.length:Int)∧b=((Xd.length+2*sz:Nat):Int)∧xs=Xd++X∧Z.length=Xd.length∧Ck key sz X Y∧(∀X' Y',Ck key (2*sz) X' Y'→Ck key (2*sz) (Xd++X') (Z++Y'))∧Hp E w' (ak 1 s ((Z++Y).map vI)::F),
    fun a _ _=>xs.length - a.toNat,⟨[],[],xs,ys,rfl,?_,rfl,rfl,hck,fun X' Y' h=>h,hh⟩,?_⟩
   ·rw [ag (by omega)];simp
   rintro a b w' ⟨Xd,Z,X,Y,rfl,rfl,hxs,hZ,hck,hco,hh⟩
   have hlen:xs.length=Xd.length+X.length:=by rw [hxs,List.length_append]
   have hX: ∀x∈X,x∈xs:=fun x hx=>by rw [hxs];exact List.mem_append_right _ hx
   have hasc:X.Pairwise (·< ·):=by rw [hxs] at hL;exact (List.pairwise_append.1 hL).2.1
   rw [ag (x:=(Xd.length:Int)+(sz:Int)) (by omega),ag (x:=(sz:Int)*2) (by omega)]
   have next: ∀(w2:World) (ys:List Int),Ck key (2*sz) xs ys→Hp E w2 (ak 1 s (ys.map vI)::F)→
     (∃(sz_1:Nat) (ys:List Int),(sz:Int)*2=(sz_1:Int)∧20≤sz_1∧sz_1≤2*bR∧Ck key sz_1 xs ys∧Hp E w2 (ak 1 s (ys.map vI)::F))∧xs.length - ((sz:Int)*2).toNat<xs.length - ((sz:Int)).toNat:=
    fun w2 ys h1 h2=>⟨⟨2*sz,ys,by omega,by omega,by rw [av];omega,h1,h2⟩,by omega⟩
   refine aa.mk (fun hle=> ?_) (fun hgt=> ?_)
   ·have hle:=of_decide_eq_true hle
    obtain ⟨A1,B1,X1,Y1,rfl,rfl,a1,b1,c1,hck1⟩:=hck.first (by omega) (by omega)
    rw [List.length_append] at hlen
    obtain ⟨A2,B2,X2,Y2,rfl,rfl,a2,b2,c2,hck2⟩:=hck1.first (by omega) (by omega)
    rw [List.length_append] at hlen
    have hasc12:(A1++A2).Pairwise (·< ·):=by rw [←List.append_assoc] at hasc;exact (List.pairwise_append.1 hasc).1
    have lb1:=b1.length_eq
    have lb2:=b2.length_eq
    have lY2:=hck2.len
    rw [ag (x:=2*(sz:Int)) (by omega),ag (by omega)]
    refine lI hc (B1.length+B2.length) (P:=Z) (L:=B1) (R:=B2) (Q:=Y2) (Nat.le_refl _) (by simpa only [List.append_assoc] using hh) (by rw [av];simp only [List.length_append];omega)
     (fun e=>by rw [e] at lb1;simp at lb1;omega) (fun e=>by rw [e] at lb2;simp at lb2;omega) c1 c2 (Eb hasc12 b1 b2) (fun x hx=>hD x (hX x (by simp [b1.mem_iff.1 hx]))) (fun x hx=>hD x (hX x (by simp [b2.mem_iff.1 hx])))
     (by omega) (by omega) (by omega) fun M w2 p1 s1 h2=> ?_
    have pM:M.Perm (A1++A2):=p1.trans (List.Perm.append b1 b2)
    refine ⟨⟨Xd++(A1++A2),Z++M,X2,Y2,by simp only [List.length_append];omega,by simp only [List.length_append];omega,by rw [hxs];simp only [List.append_assoc],by simp only [List.length_append];rw [pM.length_eq,List.length_append];omega,hck2,fun X' Y' hk=> ?_,h2⟩,by dsimp only;omega⟩
    rw [List.append_assoc Xd,List.append_assoc Z]
    exact hco _ _ (.cons (A1++A2) M X' Y' (by rw [List.length_append];omega) pM s1 hk)
   ·have hgt:=of_decide_eq_false hgt
    refine aa.mk (fun hm=> ?_) (fun hm=> ?_)
    ·have hm:=of_decide_eq_true hm
     obtain ⟨A1,B1,X1,Y1,rfl,rfl,a1,b1,c1,hck1⟩:=hck.first (by omega) (by omega)
     rw [List.length_append] at hlen
     obtain ⟨b2,c2⟩:=hck1.one (by omega)
     have lb1:=b1.length_eq
     have lb2:=b2.length_eq
     refine lI hc (B1.length+Y1.length) (P:=Z) (L:=B1) (R:=Y1) (Q:= []) (Nat.le_refl _) (by simpa using hh) (by rw [av];simp only [List.length_append,List.length_nil];omega)
      (fun e=>by rw [e] at lb1;simp at lb1;omega) (fun e=>by rw [e] at lb2;simp at lb2;omega) c1 c2 (Eb hasc b1 b2) (fun x hx=>hD x (hX x (by simp [b1.mem_iff.1 hx]))) (fun x hx=>hD x (hX x (by simp [b2.mem_iff.1 hx])))
      (by omega) (by omega) (by omega) fun M w2 p1 s1 h2=> ?_
     have pM:M.Perm (A1++X1):=p1.trans (List.Perm.append b1 b2)
     refine next w2 (Z++M) ?_ (by simpa using h2)
     rw [hxs]
     exact hco _ _ (.last _ M (by rw [List.length_append];omega) pM s1)
    ·have hm:=of_decide_eq_false hm
     obtain ⟨p1,s1⟩:=hck.one (by omega)
     refine next w' (Z++Y) ?_ hh
     rw [hxs]
     exact hco _ _ (.last _ Y (by omega) p1 s1)
  ·have hge:=of_decide_eq_false hge
   obtain ⟨p1,s1⟩:=hck.one (by omega)
   exact hK ys w' p1 s1 hh
theorem qz {s:Sl} {xs:List Int} {fv:Value} {key:Int→Int} {D:Int→Prop} {K:World→Prop} (h:Hp E w (ak 1 s (xs.map vI)::F)) (hbig:xs.length≤bR)
  (hc:qL E F fv key D) (hD: ∀x∈xs,D x) (hL:xs.Pairwise (·< ·))
  (hK: ∀ys w',ys.Perm xs→Sd key ys→Hp E w' (ak 1 s (ys.map vI)::F)→K w'):
  Cl Tryz.prog [] bB ⟨[.slice s.base s.len s.cap,fv]⟩ w K:=by
 refine jQ.ok _ _ _ _ ?_
 have hl:=h.aH
 simp only [List.length_map,Nat.mul_one] at hl
 exact F0 h hbig hc hD hL (by omega) hK
end
end Go.Proofs.YtcdpblipagajiaaGreat
set_option maxRecDepth 20000
namespace Go.Proofs.YtcdpblipagajiaaGreat
open Go Go.Vc Go.Srt
section
variable {E w:World} {F:List HP}
theorem Jm {l:List Nat} {K:Bool→World→Prop} (h:Hp E w F) (hl:l.length=258) (hK: ∀w',Hp E w' F→K (decide (aV l≤32768)) w'):Cl Tryz.prog [kB] mb ⟨[.agg (ai .u8 l)]⟩ w K:=by
 refine CW.ok _ _ _ ?_
 refine Nw.mk h fun b w1 h1=>Ld.arr h1 (by rw [aM,hl]) (tO h1 hl fun w2 h2=> ?_)
 have:decide ((aV l:Int)≤32768)=decide (aV l≤32768):=by rw [Bool.eq_iff_iff];simp;omega
 rw [this]
 exact hK _ h2.drop
theorem sf {l:List Nat} {K:Bool→World→Prop} (h:Hp E w F) (hl:l.length=258) (hK: ∀w',Hp E w' F→K (decide (aV l≤32768)) w'):Cl Tryz.prog [kB] dr ⟨[.agg (ai .u8 l)]⟩ w K:=by
 refine tJ.ok _ _ _ ?_
 exact Nw.mk h fun b w1 h1=>Ld.arr h1 (by rw [aM,hl]) (Jm h1 hl fun w2 h2=>hK _ h2.drop)
theorem Hu {x y:Int} {K:Int→World→Prop} (hK: ∀z:Int,(z<0↔x<y)→K z w):Cl Tryz.prog [kI] fS ⟨[.int .u8 x,.int .u8 y]⟩ w K:=by
 refine rm.ok _ _ _ _ ?_
 refine nh.ok _ _ _ (nh.ok _ _ _ ?_)
 refine aa.f (by simp) (aa.f (by simp) (aa.mk (fun h=>hK _ ?_) (fun h=>aa.mk (fun h2=>hK _ ?_) (fun h2=>hK _ ?_))))
 ·have:=of_decide_eq_true h;omega
 ·have:=of_decide_eq_false h;omega
 ·have:=of_decide_eq_false h;omega
theorem JN {l:List Nat} {b:Nat} {t:TypeId} (hl:l.length=258):qL E (aj b (.cells (ai .u8 l) t (0,0))::F) (.func (.func jS) ⟨[]⟩ ⟨[.pointer (some ⟨b,0,none⟩)]⟩) (r5 l) (fun x=>0≤x∧x<258):=by
 rintro A w y x K h ⟨hx0,hx⟩ ⟨hy0,hy⟩ hK
 refine gW.mk (by kernel_rfl) ?_
 refine rp.ok y x ⟨b,0,none⟩ K w ?_
 have h':=h.perm List.perm_append_comm
 have hx':x.toNat<l.length:=by omega
 have hy':y.toNat<l.length:=by omega
 refine ao.mk h fun w1 h1=> ?_
 have h1':=h1.perm List.perm_append_comm
 refine aI.rd (s:= .int .u8) h1' hy0 (by omega) (l[y.toNat]:Int) (fH hy') ?_
 refine aI.rd (s:= .int .u8) h1' hx0 (by omega) (l[x.toNat]:Int) (fH hx') ?_
 refine Hu fun z hz=>hK z w1 ?_ h1
 rw [hz]
 unfold r5
 rw [List.getD_eq_getElem?_getD,List.getD_eq_getElem?_getD,List.getElem?_eq_getElem hx',List.getElem?_eq_getElem hy']
 rfl
theorem iY:bK Tryz.prog 33 3 1 8:=bK.of (by kernel_rfl) (by kernel_rfl)
def eZ (l:List Nat) (k:Nat):List Nat:=(List.range k).filter fun s=>decide (0<l.getD s 0)
theorem kF {l:List Nat} {k:Nat}:eZ l (k+1)=eZ l k++if 0<l.getD k 0 then [k] else []:=by
 unfold eZ
 rw [List.range_succ,List.filter_append]
 congr 1
 by_cases h:0<l.getD k 0
 ·rw [if_pos h,List.filter_cons_of_pos (by simpa using h)];rfl
 ·rw [if_neg h,List.filter_cons_of_neg (by simpa using h)];rfl
theorem sY {z:Int}: ∀y∈ [vI z],ay y=true:=by
 intro y hy
 have:y=vI z:=by simpa using hy
 rw [this];rfl
theorem lP (l:List Nat) (k:Nat):(eZ l k).length≤k:=by
 have:=List.length_filter_le (fun s=>decide (0<l.getD s 0)) (List.range k)
 simpa [eZ] using this
def ints (l:List Nat):List Int:=l.map fun (x:Nat)=>(x:Int)
theorem ya {a b:List Nat}:ints (a++b)=ints a++ints b:=List.map_append
set_option maxRecDepth 20000 in
theorem HM {l:List Nat} {K:Sl→World→Prop} (h:Hp E w F) (hl:l.length=258) (hK1: ¬aV l≤32768→∀w',Hp E w' F→K ⟨none,0,0⟩ w')
  (hK2:aV l≤32768→∀ys s w',bD l ys→Hp E w' (ak 1 s ((ints ys).map vI)::F)→K s w'):Cl Tryz.prog [kS] gY ⟨[.agg (ai .u8 l)]⟩ w K:=by
 refine td.ok _ _ _ ?_
 refine Nw.mk h fun b w1 h1=>Ld.arr h1 (by rw [aM,hl]) (sf h1 hl fun w2 h2=> ?_)
 refine aa.mk (fun hv=>hK1 (by simpa using hv) w2 h2.drop) (fun hv=> ?_)
 have hv:aV l≤32768:=by simpa using hv
 refine Ld.arr h2 (by rw [aM,hl]) ?_
 refine ⟨fun o i w'=> ∃k:Nat,i=(k:Int)∧k≤258∧Hp E w' (ak 1 o ((ints (eZ l k)).map vI)::aj b (.cells (ai .u8 l) 36 (0,0))::F),fun _ i _=>258 - i.toNat,⟨0,rfl,by omega,h2.bJ 1⟩,?_⟩
 intro o i w' hI
 obtain ⟨k,hi,hk,hh⟩:=hI
 subst hi
 refine aa.mk (fun hlt=> ?_) (fun hge=> ?_)
 ·have hlt:k<258:=by have:=of_decide_eq_true hlt;omega
  have hkl:k<l.length:=by omega
  have hg:l.getD k 0=l[k]:=by rw [List.getD_eq_getElem?_getD,List.getElem?_eq_getElem hkl];rfl
  refine eH.rd (s:= .int .u8) (by omega) (by omega) (l[k]:Int) (by rw [Int.toNat_natCast];exact fH hkl) ?_
  refine aa.mk (fun hp=> ?_) (fun hp=> ?_)
  ·have hp:0<l[k]:=by have:=of_decide_eq_true hp;omega
   refine Nw.mk hh fun b2 w3 h3=> ?_
   have ho:=hh.aH
   have hu:=lP l k
   simp only [List.length_map,ints,Nat.mul_one] at ho
   refine aN (ys:= [vI (k:Int)]) (n:=1) iY (by decide) (.inl ⟨3,by kernel_rfl⟩) h3.p1 (.inl ⟨some ⟨b2,0,none⟩,1,1,rfl,rfl,h3.al (ab.aC rfl rfl)⟩) rfl sY (by omega) (by omega) fun s' w4 h4 hs'=> ?_
   rw [ag (by omega)]
   refine ⟨⟨k+1,rfl,by omega,?_⟩,by dsimp only;omega⟩
   rw [kF,hg,if_pos hp,ya,List.map_append]
   exact h4.p1.drop
  ·have hp: ¬0<l[k]:=by have:=of_decide_eq_false hp;omega
   rw [ag (by omega)]
   refine ⟨⟨k+1,rfl,by omega,?_⟩,by dsimp only;omega⟩
   rw [kF,hg,if_neg hp,List.append_nil]
   exact hh
 ·have hge:k=258:=by have:=of_decide_eq_false hge;omega
  subst hge
  have hin: ∀x∈eZ l 258,x<258:=fun x hx=>by
   have:=(List.mem_filter.1 hx).1
   simpa using this
  refine qz (key:=r5 l) (D:=fun x=>0≤x∧x<258) hh (by have:=lP l 258;rw [av];simp only [ints,List.length_map];omega) (JN hl) (fun x hx=> ?_) ?_ fun ys w3 hp hs h3=> ?_
  ·obtain ⟨y,hy,rfl⟩:=List.mem_map.1 hx
   have:=hin y hy
   omega
  ·unfold ints
   refine List.Pairwise.map _ (fun a b hab=>Int.ofNat_lt.2 hab) ?_
   exact List.Pairwise.filter _ List.pairwise_lt_range
  ·have hU:eZ l 258=used l:=by unfold eZ used;rw [hl]
   rw [hU] at hp
   have e:ys=ints (ys.map Int.toNat):=by
    unfold ints
    rw [List.map_map]
    refine (List.map_id ys).symm.trans (List.map_congr_left fun x hx=> ?_)
    obtain ⟨y,_,rfl⟩:=List.mem_map.1 (hp.mem_iff.1 hx)
    simp
   have pN:(ys.map Int.toNat).Perm (used l):=by
    have:=hp.map Int.toNat
    refine this.trans ?_
    unfold ints
    rw [List.map_map]
    refine List.Perm.of_eq ((List.map_congr_left fun x _=> ?_).trans (List.map_id _))
    simp
   rw [e] at h3 hs
   refine hK2 hv (ys.map Int.toNat) _ w3 ⟨pN,?_⟩ h3.p1.drop
   refine (List.pairwise_map.1 hs).imp fun {a b} hab=> ?_
   unfold Ky r5 at hab
   simp only [Int.toNat_natCast] at hab
   omega
end
end Go.Proofs.YtcdpblipagajiaaGreat
set_option maxRecDepth 20000
namespace Go.Vc
open Go
def jn (b:Nat) (w:World):Nat:=match w.cell? ⟨b,0,none⟩ with
 |some (.int _ v)=>v.toNat
 |_=>0
theorem kb {E w:World} {l:List HP} {b:Nat} {c:Array Value} {t:TypeId} {fr:Nat×Nat} {put:Obj→List HP} [bC b l c t fr put] {k:IntKind} {v:Int} (h:Hp E w l) (hc:c[0]? =some (.int k v)):jn b w=v.toNat:=by
 unfold jn
 rw [h.fc,hc]
end Go.Vc
namespace Go.Proofs.YtcdpblipagajiaaGreat
open Go Go.Vc
section
variable {E w:World} {F:List HP}
abbrev bI (b:Nat) (n:Nat):HP:=aj b (.cells ⟨[.int .i64 (n:Int)]⟩ 3 (0,0))
abbrev lB (s:Sl):Value:= .slice s.base s.len s.cap
abbrev fE (b:Nat) (xs:List Nat):HP:=G4 (fun (_:Sl)=>True) fun s=> [aj b (.cells ⟨[lB s]⟩ 33 (0,0)),ak 1 s ((ints xs).map vI)]
theorem fE.shut {b:Nat} {s:Sl} {xs:List Nat} (h:Hp E w (aj b (.cells ⟨[lB s]⟩ 33 (0,0))::ak 1 s ((ints xs).map vI)::F)):Hp E w (fE b xs::F):=Hp.IH s trivial h
theorem fE.put {b b2:Nat} {s:Sl} {xs:List Nat} {x:Nat} {t2:TypeId} {l:List HP} {K:World→Prop} (h:Hp E w (l++aj b2 (.cells ⟨[.int .i64 (x:Int)]⟩ t2 (0,0))::aj b (.cells ⟨[lB s]⟩ 33 (0,0))::ak 1 s ((ints xs).map vI)::F)) (hl:xs.length≤1000000)
  (hK: ∀w',Hp E w' (fE b (xs++ [x])::F)→K w'):
  aD Tryz.prog (Builtin.append_ #[33,33] 33 ⟨[lB s,.slice (some ⟨b2,0,none⟩) 1 1]⟩) kS w fun s28 w_27=>St (⟨b,0,none⟩:Addr) (lB s28) w_27 fun w_29=>K w_29:=by
 have h:=h.pC
 have hol:=(h.at 2).aH
 simp only [ints,List.length_map,Nat.mul_one] at hol
 refine aN (ys:= [vI (x:Int)]) (n:=1) iY (by decide) (.inl ⟨3,by kernel_rfl⟩) (h.at 2) (.inl ⟨some ⟨b2,0,none⟩,1,1,rfl,rfl,h.al (ab.aC rfl rfl)⟩) rfl (by intro y hy;rw [List.mem_singleton] at hy;rw [hy];rfl) (by omega) (by omega) fun s' w' h _=> ?_
 refine St.xs h rfl rfl fun w h=>hK w ?_
 dsimp only [ah,ae] at h
 have h:=(h.no 1).p1
 refine fE.shut (s:=s') ?_
 rw [show (ints (xs++ [x])).map vI=(ints xs).map vI++ [vI (x:Int)] by simp [ints]]
 exact h
end
end Go.Proofs.YtcdpblipagajiaaGreat
set_option maxRecDepth 20000
namespace Go.Proofs.YtcdpblipagajiaaGreat
open Go Go.Vc
section
variable {E w:World} {F:List HP}
theorem AG {s:Sl} {b:List Nat} (hs:aA 1 s (b.map vB) w):(Extern.Bytes.bytesOf (.slice s.base s.len s.cap)).run Tryz.prog w= .ok (strOf b) w:=by
 have hl:=hs.1
 simp only [List.length_map,Nat.mul_one] at hl
 cases hb:s.base with
 |none=>
  have:b= []:=by
   cases b with
   |nil=>rfl
   |cons x b=>
    obtain ⟨p,hp,_⟩:=hs.2 0 (by simp)
    rw [hb] at hp;cases hp
  subst this
  rfl
 |some p=>
  have:=Lib.run_loadBytesX (P:=Tryz.prog) w (b.map fun (x:Nat)=>(x:Int)) p .empty (fun j x hx=>by
   rw [List.getElem?_map] at hx
   cases hj:b[j]? with
   |none=>rw [hj] at hx;cases hx
   |some y=>
    rw [hj] at hx
    obtain rfl:=Option.some.inj hx
    obtain ⟨hjl,hje⟩:=List.getElem?_eq_some_iff.1 hj
    obtain ⟨q,hq,hc⟩:=hs.2 j (by simpa using hjl)
    rw [hb] at hq
    obtain rfl:=Option.some.inj hq
    rw [hc]
    simp [vB,hje])
  rw [List.length_map,hl] at this
  show (Extern.Bytes.loadBytes p s.len .empty).run Tryz.prog w=_
  rw [this]
  congr 1
  unfold strOf strOfNums Lib.bytesOf
  simp [ByteArray.empty,ByteArray.emptyWithCapacity]
  try rfl
end
end Go.Proofs.YtcdpblipagajiaaGreat
namespace Go.Proofs.YtcdpblipagajiaaGreat
open Go Go.Vc Go.Inc Go.Sym
section
variable {E w:World} {F:List HP}
set_option maxRecDepth 20000
theorem J7 {L:List Nat} {s:Sl} {c:Nat} {K:Int→World→Prop} (hL:a6 L) (hc:c<256) (hs:aA 1 s (L.map vB) w) (hK:K (L.idxOf c:Int) w):
  Ext Tryz.prog cJ ⟨[.slice s.base s.len s.cap,.int .u8 (c:Int)]⟩ [kI] w K:=by
 have hi:=hL.idx hc
 have hll:=hL.len
 have hsz:(strOf L).size=256:=by
  have:=congrArg List.length (sH L)
  rw [List.length_map,hll] at this
  simpa using this
 have hget: ∀i,i<256→(strOf L)[i]! =UInt8.ofNat (L.getD i 0):=fun i h=>by
  have h1:=sH L
  have h2:(strOf L).data.toList[i]? =some (UInt8.ofNat (L.getD i 0)):=by
   rw [h1,List.getElem?_map,List.getD_eq_getElem?_getD,List.getElem?_eq_getElem (by omega)];rfl
  have h3:i<(strOf L).size:=by omega
  rw [getElem!_pos (strOf L) i h3]
  rw [Array.getElem?_toList] at h2
  have h4:i<(strOf L).data.size:=h3
  rw [Array.getElem?_eq_getElem h4] at h2
  exact Option.some.inj h2
 have hf:(List.range (strOf L).size).find? (fun i=>(strOf L)[i]! ==UInt8.ofNat c)=some (L.idxOf c):=by
  rw [hsz,List.find?_range_eq_some]
  refine ⟨?_,List.mem_range.2 hi.1,fun j hj=> ?_⟩
  ·rw [hget _ hi.1,hi.2];simp
  ·rw [hget j (by omega)]
   have hjl:=hL.get (p:=j) (by omega)
   have hne:L.getD j 0≠c:=fun e=>by
    have:=hL.qF (p:=j) (by omega)
    rw [e] at this;omega
   simp only [Bool.not_eq_true',beq_eq_false_iff_ne,ne_eq]
   intro e
   have:=congrArg UInt8.toNat e
   simp only [UInt8.toNat_ofNat'] at this
   omega
 have hr:(Extern.BytealgIndexByte.indexByte #[.slice s.base s.len s.cap,.int .u8 (c:Int)]).run Tryz.prog w= .ok (.int .i64 (L.idxOf c:Int)) w:=by
  show Sem.run _ (do
   let x←Extern.Bytes.bytesOf (.slice s.base s.len s.cap)
   let y←Extern.Bytes.asByte (.int .u8 (c:Int))
   match (List.range x.size).find? fun i=>x[i]! ==y with
   |some i=>pure (goInt i)
   |none=>pure (goInt (-1))) w=_
  have hb:(Extern.Bytes.asByte (.int .u8 (c:Int))).run Tryz.prog w= .ok (UInt8.ofNat c) w:=rfl
  simp only [Sem.run_bind,AG hs,hb,Result.andThen_ok]
  rw [hf]
  rfl
 have hx:(callFunc cJ #[.slice s.base s.len s.cap,.int .u8 (c:Int)]).run Tryz.prog w= .ok (.value (.int .i64 (L.idxOf c:Int))) w:=by
  rw [run_callFunc_extern Tryz.func199 (by kernel_rfl) (by kernel_rfl) (by kernel_rfl) (e:=Extern.BytealgIndexByte.indexByte) (by kernel_rfl),hr];rfl
 unfold Ext
 rw [show (⟨[.slice s.base s.len s.cap,.int .u8 (c:Int)]⟩:Array Value)= #[.slice s.base s.len s.cap,.int .u8 (c:Int)] from rfl,hx]
 exact hK
theorem JV {L:List Nat} {c:Nat} {K:Array Value→Int→World→Prop} (h:Hp E w F) (hL:a6 L) (hc:c<256) (hK: ∀w',Hp E w' F→K ⟨bj (bu L (L.idxOf c))⟩ (L.idxOf c:Int) w'):
  Cl Tryz.prog [.arr 256,kI] pW ⟨[.agg ⟨bj L⟩,.int .u8 (c:Int)]⟩ w K:=by
 refine Iu.ok _ _ _ _ ?_
 have hl:=hL.len
 have hi:=hL.idx hc
 have hn:(⟨bj L⟩:Array Value).size=256:=by simp [hl]
 have hz:(⟨List.replicate 256 (.int .u8 0)⟩:Array Value).size=256:=by simp
 have hm:(⟨bj (bu L (L.idxOf c))⟩:Array Value).size=256:=by simp [(hL.take hi.1).len]
 refine Nw.mk h fun b4 w h=>Nw.mk h fun b6 w h=>aZ.whole (by decide) rfl rfl ?_
 refine sQ.ok _ _ _ _ ?_
 refine J7 hL hc (s:=⟨some ⟨b4,0,none⟩,256,256⟩) (h.al (ab.cons (ab.aC (n:=256) (m:=256) (sz:=1) rfl (by simp [hl])))) ?_
 refine Ld.xw h hn ?_
 refine Ca h hl hi.1 fun w h=> ?_
 refine aw.q h hz hm cP fun w h=>Ld.xw h hm ?_
 refine aw.q h hm hm cP fun w h=>Ld.xw h hm (hK w h.tl)
theorem C5 {n b:Nat} (hn:n≤2147483647):ri Tryz.prog E (.func (.func me) ⟨[]⟩ ⟨[.pointer (some ⟨b,0,none⟩)]⟩) (bL n).length (fun i=> [Ki.enc kI (((bL n).getD i 0:Nat):Int)]) [bI b n] (fun _=>True):=by
 intro yv C G w K hg hy h hK hKG
 refine og.mk (by kernel_rfl) (um.ok yv ⟨b,0,none⟩ K w ?_)
 have h:Hp E w (bI b n::C 0):=h
 refine ⟨fun w=> ∃k m:Nat,m≤2147483647∧(bL n).drop k=bL m∧k≤(bL n).length∧Hp E w (bI b m::C k),fun w=>jn b w,⟨0,n,hn,rfl,Nat.zero_le _,h⟩,?_⟩
 rintro w ⟨k,m,hm,hd,hk,h⟩
 refine Ld.xb (x:=(m:Int)) h rfl (aa.dm (fun hlt=> ?_) (fun hge=> ?_))
 ·have hm0:0<m:=by omega
  rw [l5 hm0] at hd
  have hlt:k<(bL n).length:=by
   rcases Nat.lt_or_ge k (bL n).length with q|q
   ·exact q
   ·rw [List.drop_eq_nil_of_le q] at hd;cases hd
  have hx:(bL n).getD k 0=(m - 1) % 2:=by
   rw [List.drop_eq_getElem_cons hlt] at hd
   injection hd with e _
   rw [List.getD_eq_getElem?_getD,List.getElem?_eq_getElem hlt,Option.getD_some,e]
  have hd2:(bL n).drop (k+1)=bL ((m - 1)/2):=by rw [←List.drop_drop,hd];rfl
  refine Ld.xb (x:=(m:Int)) h rfl ?_
  have hmx:IntKind.max .i64=9223372036854775807:=rfl
  have e1:i64 ((m:Int) - 1)=((m - 1:Nat):Int):=by rw [ag (by omega)];omega
  have e2:bl .i64 ((m - 1:Nat):Int) 1=(((m - 1) % 2:Nat):Int):=by
   rw [show (1:Int)=((1:Nat):Int) from rfl,eI (by omega) (by omega),Nat.and_one_is_mod]
  have e3:aF .i64 ((m - 1:Nat):Int) 1=(((m - 1)/2:Nat):Int):=by
   rw [show (1:Int)=((1:Nat):Int) from rfl,bG (by decide)]
  rw [e1,e2]
  have he: [Value.int .i64 (((m - 1) % 2:Nat):Int)]= [Ki.enc kI (((bL n).getD k 0:Nat):Int)]:=by rw [hx]
  rw [he]
  refine hy k hlt [bI b m] w _ (h.perm (List.perm_append_comm (l₁:= [bI b m]))) (fun w h=> ?_) (fun w h=> ?_)
  ·have h:Hp E w (bI b m::C (k+1)):=h.perm (List.perm_append_comm (l₂:= [bI b m]))
   refine aa.f rfl (Ld.xb (x:=(m:Int)) h rfl ⟨by decide,?_⟩)
   rw [e1,e3]
   refine St.xb h (by simp) rfl fun w3 h3=> ?_
   have h3:Hp E w3 (bI b ((m - 1)/2)::C (k+1)):=h3
   refine ⟨rfl,⟨k+1,(m - 1)/2,by omega,hd2,by omega,h3⟩,?_⟩
   show jn b w3<jn b _
   rw [kb (v:=(((m - 1)/2:Nat):Int)) h3 rfl,kb (v:=(m:Int)) (by assumption) rfl]
   omega
  ·exact aa.t rfl (hKG k w hlt (h.perm (List.perm_append_comm (l₂:= [bI b m]))).drop)
 ·have hm0:m=0:=by omega
  subst hm0
  rw [ma] at hd
  have:k=(bL n).length:=by
   have:=congrArg List.length hd
   rw [List.length_drop,List.length_nil] at this;omega
  subst this
  exact hK w h.drop
theorem Dv {n:Nat} {K:Sl→Int→World→Prop} (h:Hp E w F) (hn:n≤2147483647) (hl:(bL n).length≤1000000) (hK: ∀s w',Hp E w' (ak 1 s ((ints (bL n)).map vI)::F)→K s 0 w'):Cl Tryz.prog [kS,kI] fo ⟨[.int .i64 (n:Int)]⟩ w K:=by
 refine uA.ok _ _ _ ?_
 refine Nw.mk h fun b3 w h=>aa.df (by omega) (aa.df (by omega) ?_)
 refine zQ.ok _ _ _ ?_
 refine Nw.mk h fun b w h=> ?_
 have h0:Hp E w (fE b3 []::bI b n::F):=fE.shut (s:=⟨none,0,0⟩) ((h.bJ 1).at 2)
 refine ek.CZ (E:=E) (k:=kI) (x:=fun i=>(((bL n).getD i 0:Nat):Int)) (n:=(bL n).length) (fun i=>fE b3 ((bL n).take i)::F) (fun _=> [uD]) (A:= [bI b n]) h0.p1 (fun _=>ab.const trivial) (C5 hn) ?_ ?_ ?_
 ·intro lr rec i A w Kt Kf hi h hKt _
  refine om.mk h fun w h=> ?_
  obtain ⟨s,_,h⟩:=(h.p1).ex
  have h:Hp E w (aj b3 (.cells ⟨[lB s]⟩ 33 (0,0))::ak 1 s ((ints ((bL n).take i)).map vI)::aj lr (rec 1)::(F++A)):=h
  refine Ld.xb (x:=s) h rfl (Nw.mk h fun b49 w h=> ?_)
  refine fE.put (l:= []) h (by rw [List.length_take];omega) fun w h=>km.mk h.p1 fun w h=>hKt w ?_
  have e:(bL n).take i++ [(bL n).getD i 0]=(bL n).take (i+1):=by
   rw [List.take_add_one,List.getElem?_eq_getElem hi,List.getD_eq_getElem?_getD,List.getElem?_eq_getElem hi];rfl
  rw [e] at h
  exact h
 ·intro D w h
  rw [List.take_of_length_le (Nat.le_refl _)] at h
  obtain ⟨s,_,h⟩:=(h.p1).ex
  have h:Hp E w (aj b3 (.cells ⟨[lB s]⟩ 33 (0,0))::ak 1 s ((ints (bL n)).map vI)::aj D (.deferred (some []))::F):=h
  refine Ld.xb (x:=s) h rfl (St.xs h rfl rfl fun w h=> ?_)
  dsimp only [ah,ae] at h
  refine gm.rJ (h.at 2) fun w h=>Ld.xb (x:=s) h rfl (hK s w h.drop)
 ·intro i D w hi h
  exact (Hp.Ab h).elim
end
end Go.Proofs.YtcdpblipagajiaaGreat
set_option maxRecDepth 20000
namespace Go.Vc
open Go
section
variable {E w:World} {F:List HP}
theorem vC {P:Program} {t e:TypeId} {n:Nat} {k:IntKind} {it:TypeInfo} (hu:P.underlying t=some (.array n e)) (hue:P.underlying e=some (.int k)) (hi:P.info? e=some it) (hs:it.size=1) {a b:List Int} (ha:a.length=n) (hb:b.length=n)
  (D:Nat) (hD:2≤D) (w:World):(Op.equalIn D t (.agg ⟨a.map (.int k)⟩) (.agg ⟨b.map (.int k)⟩)).run P w= .ok (a==b) w:=by
 obtain ⟨D,rfl⟩: ∃d,D=d+1+1:=⟨D - 2,by omega⟩
 rw [run_equalIn_array w (D+1) _ _ hu hi,mL hi,hs,←ha,iO hue (ha.trans hb.symm) _ (by simp),all_eq (ha.trans hb.symm)]
theorem lQ {P:Program} {t:TypeId} {it:TypeInfo} {cs:List Value} {off:Nat} {K:Option Value→Prop} (h1:fG P t=some true) (h2:P.info? t=some it) (h:K (some (.agg ⟨(cs.drop off).take it.size⟩))):eh P t cs off K:=by
 unfold eh;rw [h1,h2];exact h
theorem dE {P:Program} {t:TypeId} {it:TypeInfo} {cs:List Value} {off:Nat} {v:Value} {K:Option Value→Prop} (h1:fG P t=some false) (h2:P.info? t=some it) (hv:cs[off]? =some v) (h:K (some v)):eh P t cs off K:=by
 unfold eh;rw [h1,h2,hv];exact h
end
end Go.Vc
namespace Go.Proofs.YtcdpblipagajiaaGreat
open Go Go.Vc
theorem B5: ∃it,Tryz.prog.info? 3=some it:=by
 have:(Tryz.prog.info? 3).isSome=true:=by kernel_rfl
 exact Option.isSome_iff_exists.1 this
theorem H7: ∃it,Tryz.prog.info? 36=some it∧it.size=258:=by
 have h:(Tryz.prog.info? 36).map (·.size)=some 258:=by kernel_rfl
 obtain ⟨it,h1,h2⟩:=Option.map_eq_some_iff.1 h
 exact ⟨it,h1,h2⟩
theorem Du: ∃it,Tryz.prog.info? 5=some it∧it.size=1:=by
 have h:(Tryz.prog.info? 5).map (·.size)=some 1:=by kernel_rfl
 obtain ⟨it,h1,h2⟩:=Option.map_eq_some_iff.1 h
 exact ⟨it,h1,h2⟩
theorem Ju:Tryz.prog.underlying 36=some (.array 258 5):=by kernel_rfl
theorem He:Tryz.prog.underlying 5=some (.int .u8):=by kernel_rfl
theorem DT:Tryz.prog.underlying 3=some (.int .i64):=by kernel_rfl
end Go.Proofs.YtcdpblipagajiaaGreat
namespace Go.Sym
theorem tZ (n:Nat):(bL n).length≤n:=by
 induction n using Nat.strongRecOn with
 |ind n ih=>
  rcases Nat.eq_zero_or_pos n with h|h
  ·rw [h,ma];exact Nat.le_refl _
  ·rw [l5 h,List.length_cons]
   have:=ih ((n - 1)/2) (by omega)
   omega
end Go.Sym
namespace Go.Proofs.YtcdpblipagajiaaGreat
open Go Go.Vc Go.Inc Go.Sym
abbrev jD (L:List Nat) (r:Int):Array Value:=⟨bj L++ [.int .i64 r]⟩
theorem mP {L:List Nat} {r:Int} (h:L.length=256):(jD L r).size=257:=by simp [h]
theorem oV {L:List Nat} {r:Int}:(jD L r).toList.all ay=true:=by
 unfold jD
 rw [List.all_append,cP]
 rfl
section
variable {E w:World} {F:List HP}
set_option maxRecDepth 20000
theorem GL:(Tryz.prog.fieldsOf 110).toList.map (fun f=>(f.name== "_",f.type,f.offset))= [(false,108,0),(false,3,256)]:=by kernel_rfl
theorem KE:Tryz.prog.underlying 110=some (.struct (Tryz.prog.fieldsOf 110)):=by kernel_rfl
theorem Iy: ∃it,Tryz.prog.info? 108=some it∧it.size=256:=by
 have h:(Tryz.prog.info? 108).map (·.size)=some 256:=by kernel_rfl
 obtain ⟨it,h1,h2⟩:=Option.map_eq_some_iff.1 h
 exact ⟨it,h1,h2⟩
theorem Jg:Tryz.prog.underlying 108=some (.array 256 5):=by kernel_rfl
theorem sA.es {L L':List Nat} {r r':Int} {K:Bool→Prop} (hl:L.length=256) (hl':L'.length=256) (hK: ∀b,K b):sA Tryz.prog 110 (jD L r) (jD L' r') K:=by
 obtain ⟨it,hit⟩:=B5
 obtain ⟨jt,hjt,hjs⟩:=Iy
 obtain ⟨kt,hkt,hks⟩:=Du
 obtain ⟨f1,f2,hfs,hf1,hf2⟩: ∃f1 f2,(Tryz.prog.fieldsOf 110).toList= [f1,f2]∧(f1.name== "_",f1.type,f1.offset)=(false,108,0)∧(f2.name== "_",f2.type,f2.offset)=(false,3,256):=by
  have h:=GL
  generalize (Tryz.prog.fieldsOf 110).toList=fs at h
  match fs,h with
  | [],h=>simp at h
  | [_],h=>simp at h
  |_::_::_::_,h=>simp at h
  | [f1,f2],h=>
   simp only [List.map_cons,List.map_nil,List.cons.injEq,and_true] at h
   exact ⟨f1,f2,rfl,h.1,h.2⟩
 simp only [Prod.mk.injEq] at hf1 hf2
 have hc: ∀{L:List Nat} {r:Int},L.length=256→(((jD L r).toList.drop 0).take 256)=(L.map fun (x:Nat)=>(x:Int)).map (.int .u8):=fun {L r} hl=>by
  unfold jD
  rw [List.drop_zero,List.take_append_of_le_length (by simp [hl]),List.take_of_length_le (by simp [hl]),List.map_map];rfl
 have hr: ∀{L:List Nat} {r:Int},L.length=256→(jD L r)[256]? =some (.int .i64 r):=fun {L r} hl=>by
  rw [←Array.getElem?_toList]
  show (bj L++ [.int .i64 r])[256]? =_
  rw [List.getElem?_append_right (by simp [hl])]
  simp [hl]
 obtain ⟨b,hb,hK'⟩:=jJ (P:=Tryz.prog) (d:=9) (rec:=fun t x y K=> ∃b,(∀D,9≤D→∀w,(Op.equalIn D t x y).run Tryz.prog w= .ok b w)∧K b) (fun t x y K h=>h) (xs:=jD L r) (ys:=jD L' r') (fs:= [f1,f2]) (K:=K) (by
  unfold iU
  rw [hf1.1]
  refine lQ (it:=jt) (by rw [hf1.2.1];kernel_rfl) (by rw [hf1.2.1];exact hjt) (lQ (it:=jt) (by rw [hf1.2.1];kernel_rfl) (by rw [hf1.2.1];exact hjt) ?_)
  rw [hf1.2.2,hjs,hf1.2.1,hc hl,hc hl']
  refine ⟨_,fun D hD w=>vC Jg He hkt hks (by simpa using hl) (by simpa using hl') D (by omega) w,?_⟩
  unfold iU
  rw [hf2.1]
  refine dE (it:=it) (v:= .int .i64 r) (by rw [hf2.2.1];kernel_rfl) (by rw [hf2.2.1];exact hit) (by rw [hf2.2.2,Array.getElem?_toList];exact hr hl) (dE (it:=it) (v:= .int .i64 r') (by rw [hf2.2.1];kernel_rfl) (by rw [hf2.2.1];exact hit) (by rw [hf2.2.2,Array.getElem?_toList];exact hr hl') ?_)
  rw [hf2.2.1]
  exact ⟨r==r',fun D hD w=>by obtain ⟨D,rfl⟩: ∃k,D=k+1:=⟨D - 1,by omega⟩;exact run_equalIn_int w D _ _ _ _ _ DT,hK _⟩)
 refine ⟨b,fun w=> ?_,hK'⟩
 rw [run_equalIn_struct w 9999 _ _ _ KE (by kernel_rfl),hfs]
 exact hb 9999 (by decide) w
abbrev KM:Nat→Option (Nat×Nat):=(#[(0,256),(256,1)][·]?)
theorem F9 (ps:List (Nat×Value)):Tryz.prog.built 110 ps=Instr.fill KM ⟨List.replicate 256 (.int .u8 0)++ [.int .i64 0]⟩ ps:=by kernel_rfl
theorem cO.es {L:List Nat} {K:Array Value→Prop} (hl:L.length=256) (hK:K (jD L 0)):cO Tryz.prog 110 [(0,.agg ⟨bj L⟩)] K:=by
 refine ⟨_,?_,hK⟩
 rw [F9]
 have:=gj (place:=KM) (i:=0) (v:= .agg ⟨bj L⟩) (rest:= []) (pre:= []) (mid:=List.replicate 256 (.int .u8 0)) (post:= [.int .i64 0]) rfl rfl List.length_replicate (by show (⟨bj L⟩:Array Value).size=_;simp [hl])
 exact this
abbrev KP:Array Value:=⟨List.replicate 256 (Value.int .u8 0)++ [Value.int .i64 0]⟩
theorem FH:(⟨List.replicate 256 (.int .u8 0)++ [.int .i64 0]⟩:Array Value).size=257:=by simp
theorem By {K:Array Value→World→Prop} (h:Hp E w F) (hK: ∀w',Hp E w' F→K (jD (List.range 256) 0) w'):Cl Tryz.prog [.arr 257] jI ⟨[]⟩ w K:=by
 refine Co.ok _ _ ?_
 refine Nw.mk h fun b2 w h=>D1 h fun w h=>cO.es (by simp) ?_
 have hd:(jD (List.range 256) 0).size=257:=mP (by simp)
 refine aw.q h FH hd oV fun w h=> ?_
 exact Ld.xw h hd (hK _ h.tl)
theorem vO {L:List Nat} {r:Nat} {K:Bool→World→Prop} (h:Hp E w F) (hL:a6 L) (hr:r≤2147483647) (hK: ∀w',Hp E w' F→K true w'):Cl Tryz.prog [kB] gP ⟨[.agg (jD L (r:Int))]⟩ w K:=by
 refine ze.ok _ _ _ ?_
 have hLb:=fN hL.len
 refine Nw.mk h fun b3 w h=> ?_
 have h:=h.drew (n:=w.drawn+1)
 refine ⟨bF b3 _ _ _,h.hb,?_⟩
 refine ad.qw (fun _ h=>h) hLb rfl ?_
 refine By h fun w h=>⟨h.hb,?_⟩
 refine sA.es hL.len (by simp) fun b=> ?_
 refine aa.mk (fun _=>hK _ h.tl) fun _=> ?_
 (try simp only [ax,au,aq,Nat.zero_add,Nat.add_zero,Nat.reduceAdd,Bool.not_true,Bool.not_false,aQ,aR,Option.isNone])
 refine ad.q (fun _ h=>h) hLb rfl rfl (aa.dt (by omega) ?_)
 refine ad.q (fun _ h=>h) hLb rfl rfl (aa.dt (by omega) ?_)
 refine ad.p (fun _ h=>h) hLb ?_
 exact vb h hL fun w h=>⟨h.hb,hK _ h.tl⟩
theorem F5 {L:List Nat} {r:Nat} {s:Sl} {b:List Nat} {K:Array Value→Sl→Int→World→Prop} (h:Hp E w F) (hL:a6 L) (hs:ab F (aA 1 s (b.map vB))) (hb: ∀x∈b,x<256) (hr:r+b.length≤1000000)
  (hK: ∀s' w',Hp E w' (ak 1 s' ((ints (cB L r b).1).map vI)::F)→a6 (cB L r b).2.1→(cB L r b).2.2≤1000000→K (jD (cB L r b).2.1 ((cB L r b).2.2:Int)) s' 0 w'):
  Cl Tryz.prog [.arr 257,kS,kI] lu ⟨[.agg (jD L (r:Int)),.slice s.base s.len s.cap]⟩ w K:=by
 refine Al.ok _ _ _ _ ?_
 have hLb:=fN hL.len
 have hlen:b.length=s.len:=by have:=(h.al hs).1;simpa using this
 (try simp only [ax,au,aq,Nat.zero_add,Nat.add_zero,Nat.reduceAdd,Bool.not_true,Bool.not_false,aQ,aR,Option.isNone])
 refine Nw.mk h fun b4 w h=>Nw.mk h fun b6 w h=> ?_
 refine Ld.qw h hLb rfl (vO h hL (by omega) fun w h=> ?_)
 with_reducible refine aa.EV ?_
 refine Ld.q h hLb rfl rfl ?_
 rw [ag (by omega)]
 refine aa.df (by omega) ?_
 refine ⟨fun o i w=> ∃(k:Nat) (L':List Nat) (r':Nat) (out:List Nat),i=(k:Int)∧k≤b.length∧a6 L'∧out.length+r'≤r+k∧
  cB L r b=(out++(cB L' r' (b.drop k)).1,(cB L' r' (b.drop k)).2)∧
  Hp E w (ak 1 o ((ints out).map vI)::aj b6 (.cells KP 110 (0,0))::aj b4 (.cells (jD L' (r':Int)) 110 (0,0))::F),
  fun _ i _=>b.length - i.toNat,⟨0,L,r,[],rfl,by omega,hL,by simp,by simp,h.bJ 1⟩,?_⟩
 rintro o i w ⟨k,L',r',out,rfl,hk,hL',hlo,he,h⟩
 have hLb':=fN hL'.len
 refine aa.dm (fun hlt=> ?_) (fun hge=> ?_)
 ·have hlt:k<b.length:=by omega
  have hc:=hb _ (List.getElem_mem hlt)
  have hi:=hL'.idx hc
  refine ar.rd ((h.tl:Hp E w F).al hs) (by omega) (by omega) fun q _ hq=> ?_
  refine Ld.sc (s:= .int .u8) (b[k]:Int) (by rw [hq];simp [Sc.enc,vB]) ?_
  refine Ld.p h hLb' (JV h hL' hc fun w h=> ?_)
  have hm:(⟨bj (bu L' (L'.idxOf b[k]))⟩:Array Value).size=256:=by simp [(hL'.take hi.1).len]
  have hLm:=hL'.take hi.1
  have hLbm:=fN hLm.len
  refine aw.xm (pre:= []) (mid:=bj L') (post:= [.int .i64 (r':Int)]) h rfl rfl hLb' hm (fun v hv=>List.all_eq_true.1 cP v hv) fun w h=> ?_
  have h:Hp E w (ak 1 o ((ints out).map vI)::aj b6 (.cells KP 110 (0,0))::aj b4 (.cells (jD (bu L' (L'.idxOf b[k])) (r':Int)) 110 (0,0))::F):=h
  rw [List.drop_eq_getElem_cons hlt] at he
  rw [ag (x:=(k:Int)+1) (by omega)]
  by_cases h0:L'.idxOf b[k]=0
  ·rw [cB,if_pos h0] at he
   rw [h0] at h hLm hLbm⊢
   refine aa.et rfl (Ld.q h hLbm rfl rfl ?_)
   rw [ag (by omega)]
   refine St.q h hLbm rfl rfl rfl fun w h=> ?_
   dsimp only [ah,ae] at h
   rw [show (r':Int)+1=((r'+1:Nat):Int) by omega] at h
   exact ⟨⟨k+1,_,r'+1,out,by omega,by omega,hLm,by omega,he,h⟩,by first|omega|(dsimp only;omega)⟩
  ·rw [cB,if_neg h0] at he
   refine aa.ef (by omega) (Ld.q h hLbm rfl rfl ?_)
   have hdl:=tZ r'
   refine Dv h (by omega) (by omega) fun s1 w h=> ?_
   have l1:=h.aH
   have l2:=(h.at 1).aH
   simp only [ints,List.length_map,Nat.mul_one] at l1 l2
   refine aN (s:=o) (ys:=(ints (bL r')).map vI) (n:=s1.len) iY (by decide) (.inl ⟨3,by kernel_rfl⟩) (h.at 1) (.inl ⟨s1.base,s1.len,s1.cap,rfl,rfl,h.al ab.own⟩) (by simp [ints,l1]) vD (by omega) (by omega) fun s2 w h hl2=> ?_
   have h:=h.no 1
   refine Nw.mk h fun b40 w h=> ?_
   rw [ag (by omega)] at h
   refine aN (s:=s2) (ys:= [vI ((L'.idxOf b[k]:Int)+1)]) (n:=1) iY (by decide) (.inl ⟨3,by kernel_rfl⟩) (h.at 1) (.inl ⟨some ⟨b40,0,none⟩,1,1,rfl,rfl,h.al (ab.aC rfl rfl)⟩) rfl (by intro y hy;rw [List.mem_singleton] at hy;rw [hy];rfl) (by omega) (by omega) fun s3 w h _=> ?_
   have h:=h.no 1
   refine St.q (b:=b4) h hLbm rfl rfl rfl fun w h=> ?_
   dsimp only [ah,ae] at h
   refine ⟨⟨k+1,_,0,out++(bL r'++ [L'.idxOf b[k]+1]),by omega,by omega,hLm,?_,?_,?_⟩,by first|omega|(dsimp only;omega)⟩
   ·rw [List.length_append,List.length_append,List.length_singleton];omega
   ·rw [he];simp
   ·rw [show (ints (out++(bL r'++ [L'.idxOf b[k]+1]))).map vI=(ints out).map vI++(ints (bL r')).map vI++ [vI ((L'.idxOf b[k]:Int)+1)] by simp [ints]]
    exact h
 ·have hk2:k=b.length:=by omega
  subst hk2
  rw [List.drop_of_length_le (Nat.le_refl _),cB,List.append_nil] at he
  rw [he] at hK
  dsimp only at hK
  refine Ld.qw h hLb' rfl ?_
  refine aw.q h FH (mP hL'.len) oV fun w h=>Ld.xw h (mP hL'.len) (hK o w h.eA hL' (by omega))
theorem H5 {L:List Nat} {r:Nat} {K:Sl→Int→World→Prop} (h:Hp E w F) (hL:a6 L) (hr:r≤1000000) (hK: ∀s' w',Hp E w' (ak 1 s' ((ints (bL r++ [257])).map vI)::F)→K s' 0 w'):Cl Tryz.prog [kS,kI] mI ⟨[.agg (jD L (r:Int))]⟩ w K:=by
 refine CB.ok _ _ _ ?_
 have hLb:=fN hL.len
 (try simp only [ax,au,aq,Nat.zero_add,Nat.add_zero,Nat.reduceAdd,Bool.not_true,Bool.not_false,aQ,aR,Option.isNone])
 refine Nw.mk h fun b3 w h=>Ld.qw h hLb rfl (vO h hL (by omega) fun w h=> ?_)
 with_reducible refine aa.EV ?_
 have hdl:=tZ r
 refine Ld.q h hLb rfl rfl (Dv h (by omega) (by omega) fun s1 w h=>Nw.mk h fun b12 w h=> ?_)
 have l1:=(h.at 1).aH
 simp only [ints,List.length_map,Nat.mul_one] at l1
 refine aN (s:=s1) (ys:= [vI 257]) (n:=1) iY (by decide) (.inl ⟨3,by kernel_rfl⟩) (h.at 1) (.inl ⟨some ⟨b12,0,none⟩,1,1,rfl,rfl,h.al (ab.aC rfl rfl)⟩) rfl (by intro y hy;rw [List.mem_singleton] at hy;rw [hy];rfl) (by omega) (by omega) fun s3 w h _=>hK s3 w ?_
 rw [show (ints (bL r++ [257])).map vI=(ints (bL r)).map vI++ [vI 257] by simp [ints]]
 exact h.eA
theorem Hy {s:Sl} {b:List Nat} {K:Sl→World→Prop} (h:Hp E w F) (hs:ab F (aA 1 s (b.map vB))) (hb: ∀x∈b,x<256) (hr:b.length≤1000000) (hK: ∀s' w',Hp E w' (ak 1 s' ((ints (syms b)).map vI)::F)→K s' w'):
  Cl Tryz.prog [kS] mO ⟨[.slice s.base s.len s.cap]⟩ w K:=by
 refine Cq.ok _ _ _ ?_
 refine By h fun w h=>F5 (r:=0) h a6.range hs hb (by rw [Nat.zero_add];exact hr) fun s1 w h hL2 hr2=>Nw.mk h fun b9 w h=> ?_
 refine aw.q h FH (mP hL2.len) oV fun w h=>Ld.xw h (mP hL2.len) ?_
 refine H5 h hL2 hr2 fun s2 w h=> ?_
 have l1:=h.aH
 have l2:=(h.at 2).aH
 have e0:(cB (List.range 256) 0 b).1.length+(cB (List.range 256) 0 b).2.2≤b.length:=by
  have: ∀(b L:List Nat) (r:Nat),(cB L r b).1.length+(cB L r b).2.2≤r+b.length:=by
   intro b
   induction b with
   |nil=>intro L r;simp [cB]
   |cons c b ih=>
    intro L r
    rw [cB]
    split
    ·have:=ih (bu L 0) (r+1)
     simp only [List.length_cons];omega
    ·have:=ih (bu L (L.idxOf c)) 0
     have:=tZ r
     simp only [List.length_append,List.length_cons];omega
  simpa using this b (List.range 256) 0
 have hdl:=tZ (cB (List.range 256) 0 b).2.2
 simp only [ints,List.length_map,Nat.mul_one,List.length_append,List.length_singleton] at l1 l2
 refine aN (s:=s1) (ys:=(ints (bL (cB (List.range 256) 0 b).2.2++ [257])).map vI) (n:=s2.len) iY (by decide) (.inl ⟨3,by kernel_rfl⟩) (h.at 2) (.inl ⟨s2.base,s2.len,s2.cap,rfl,rfl,h.al ab.own⟩) (by simp [ints,←l1]) vD (by omega) (by omega) fun s3 w h _=>hK s3 w ?_
 rw [show (ints (syms b)).map vI=(ints (cB (List.range 256) 0 b).1).map vI++(ints (bL (cB (List.range 256) 0 b).2.2++ [257])).map vI by unfold syms bV;simp [ints]]
 exact h.eA
end
end Go.Proofs.YtcdpblipagajiaaGreat
namespace Go.Proofs.YtcdpblipagajiaaGreat
open Go Go.Vc
set_option maxRecDepth 100000
theorem tG.ok (a:(Option Addr)) (b:(Array Value)) (R:Int→World→Prop) w (h:
 Nw 36 b w fun d c=>
 Ld (.arr 258) ⟨d,0,none⟩ c fun e=>
 Cl Pg [kS,kI] iN ⟨[(.agg e)]⟩ c fun (g:Sl) (h:Int) f=>
 aa (h !=0)
 (R 2 f)
 (aa (Option.isNone (a:Option Addr))
 (R 2 f)
 (dN 0 f fun i j (k:Int) l=>
 aa (decide (k<(g.len:Int)))
 (ar g k 1 fun m=>
 Ld kI m l fun (n:Int)=>
 Cl Pg [kB] cR ⟨[(.pointer a),(.int .u32 (u32 n)),(ni 1)]⟩ l fun (p:Bool) o=>
 i (i64 (k+1)) o∧j (i64 (k+1)) o<j k l)
 (R 0 l)))):Cl Pg [kI] ib ⟨[(.pointer a),(.agg b)]⟩ w R:=co Tryz.f47 [(12,[(22,kI)])] h
theorem rZ.ok (a:Sl) (R:(Array Value)→Int→Int→World→Prop) w (h:
 Nw 36 ⟨List.replicate 258 (.int .u8 0)⟩ w fun c b=>
 Nw 141 ⟨List.replicate 258 (.int .u8 0)++ [(ni 0),(ni 0),(ni 0),(ni 0)]⟩ b fun e d=>
 dN 0 d fun f g (h:Int) i=>
 aa (decide (h<(a.len:Int)))
 (ar a h 1 fun j=>
 Ld kI j i fun (k:Int)=>
 0≤(1:Int)∧
 aa ((aF .i64 k (1:Int)) !=0)
 (Ld (.arr 258) ⟨c,0,none⟩ i fun l=>
 aw 258 ⟨c,0,none⟩ l i fun m=>
 Ld (.arr 258) ⟨c,0,none⟩ m fun n=>
 R n 0 2 m)
 (Ld (.arr 262) ⟨e,0,none⟩ i fun o=>
 Cl Pg [(.arr 262),kB] gz ⟨[(.agg o),(ni k)]⟩ i fun q (r:Bool) p=>
 Nw 141 ⟨List.replicate 258 (.int .u8 0)++ [(ni 0),(ni 0),(ni 0),(ni 0)]⟩ p fun t s=>
 aw 262 ⟨t,0,none⟩ q s fun u=>
 aa (!r)
 (Ld (.arr 258) ⟨c,0,none⟩ u fun v=>
 aw 258 ⟨c,0,none⟩ v u fun x=>
 Ld (.arr 258) ⟨c,0,none⟩ x fun y=>
 R y 0 100 x)
 (Ld (.arr 262) ⟨t,0,none⟩ u fun z=>
 aw 262 ⟨e,0,none⟩ z u fun a1=>
 Ld kI (Addr.add ⟨e,0,none⟩ 258) a1 fun (b1:Int)=>
 aa (b1==258)
 (Ld (.arr 258) (Addr.add ⟨e,0,none⟩ 0) a1 fun c1=>
 aw 258 ⟨c,0,none⟩ c1 a1 fun d1=>
 Ld (.arr 258) ⟨c,0,none⟩ d1 fun e1=>
 R e1 (i64 (h+1)) 0 d1)
 (f (i64 (h+1)) a1∧g (i64 (h+1)) a1<g h i))))
 (Ld (.arr 258) ⟨c,0,none⟩ i fun f1=>
 aw 258 ⟨c,0,none⟩ f1 i fun g1=>
 Ld (.arr 258) ⟨c,0,none⟩ g1 fun h1=>
 R h1 0 50 g1)):Cl Pg [(.arr 258),kI,kI] gp ⟨[(an a)]⟩ w R:=co Tryz.f52 [(7,[(12,kI)])] h
theorem uW.ok (a:(Array Value)) (R:Sl→Int→World→Prop) w (h:
 Nw 36 a w fun c b=>
 Nw 33 ⟨[(.slice none 0 0)]⟩ b fun e d=>
 Ld (.arr 258) ⟨c,0,none⟩ d fun f=>
 Cl Pg [kB] ea ⟨[(.agg f)]⟩ d fun (h:Bool) g=>
 aa (!h)
 (St ⟨e,0,none⟩ (.slice none 0 0) g fun i=>
 Ld kS ⟨e,0,none⟩ i fun (j:Sl)=>
 R j 2 i)
 (aI ⟨c,0,none⟩ 258 0 1 fun k=>
 Ld (aL .u8) k g fun (l:Int)=>
 ∃(m:Int→World→Prop) (n:Int→World→Nat),m (0) g∧
 ∀(o:Int),∀(p:World),m o p→
 aa (decide (o<4))
 (ao p fun q=>
 0≤(i64 ((3:Int) - o))∧
 (Ld kS ⟨e,0,none⟩ q fun (r:Sl)=>
 Nw 3 ⟨[(ni (bl .i64 (aF .i64 (i64 l) (i64 ((3:Int) - o))) 1))]⟩ q fun t s=>
 aD Pg (Builtin.append_ #[33,33] 33 ⟨[(an r),(an (⟨some ⟨t,0,none⟩,1,1⟩:Sl))]⟩) kS s fun (v:Sl) u=>
 St ⟨e,0,none⟩ (an v) u fun x=>
 ([]:List Nat)=([]:List Nat)∧m (i64 (o+1)) x∧n (i64 (o+1)) x<n o p)∧
 (Nw 3 ⟨[(ni (bl .i64 (aF .i64 (i64 l) (i64 ((3:Int) - o))) 1))]⟩ q fun z y=>
 Ld kS ⟨e,0,none⟩ y fun (a1:Sl)=>
 aD Pg (Builtin.append_ #[33,33] 33 ⟨[(an a1),(an (⟨some ⟨z,0,none⟩,1,1⟩:Sl))]⟩) kS y fun (c1:Sl) b1=>
 St ⟨e,0,none⟩ (an c1) b1 fun d1=>
 ([]:List Nat)=([]:List Nat)∧m (i64 (o+1)) d1∧n (i64 (o+1)) d1<n o p))
 (Ld (.arr 258) ⟨c,0,none⟩ p fun e1=>
 ∃(f1:List Nat→Int→Int→World→Prop) (g1:Int→Int→World→Nat),f1 ([]:List Nat) ((i64 l)) (0) p∧
 ∀(k1:List Nat),∀(h1:Int) (i1:Int),∀(j1:World),f1 k1 h1 i1 j1→
 aa (decide (i1<258))
 (eH (.int .u8) e1 258 i1 fun (l1:Int)=>
 Cl Pg [kV] jb ⟨[(ni h1),(ni (i64 l1))]⟩ j1 fun n1 m1=>
 ek Pg n1 [kI] m1 (fun (o1:Nat) (p1:Nat→Obj) (t1:Int) (q1:World) (r1 s1:World→Prop)=>
 om o1 p1 q1 fun u1=>
 Ld kS ⟨e,0,none⟩ u1 fun (v1:Sl)=>
 Nw 3 ⟨[(ni t1)]⟩ u1 fun y1 x1=>
 aD Pg (Builtin.append_ #[33,33] 33 ⟨[(an v1),(an (⟨some ⟨y1,0,none⟩,1,1⟩:Sl))]⟩) kS x1 fun (a2:Sl) z1=>
 St ⟨e,0,none⟩ (an a2) z1 fun b2=>
 km o1 p1 b2 r1)
 (fun c2 d2=>
 f1 (c2::k1:List Nat) (i64 l1) (i64 (i1+1)) d2∧g1 (i64 l1) (i64 (i1+1)) d2<g1 h1 i1 j1)
 (fun e2 f2=>
 gm (e2::k1:List Nat) f2 fun g2=>
 Ld kS ⟨e,0,none⟩ g2 fun (h2:Sl)=>
 R h2 0 g2))
 (Ld kS ⟨e,0,none⟩ j1 fun (i2:Sl)=>
 St ⟨e,0,none⟩ (an i2) j1 fun j2=>
 gm (k1:List Nat) j2 fun k2=>
 Ld kS ⟨e,0,none⟩ k2 fun (l2:Sl)=>
 R l2 0 k2)))):Cl Pg [kS,kI] iN ⟨[(.agg a)]⟩ w R:=tf Tryz.f94 (.s .o (.s (.s .o (.c (.s .o .o) .o)) (.s .o (.s (.s .o (.b (.l [(15,kI)] (.s .o (.s (.c .o .o) (.s (.b (.s .o (.b .o))) .o)))))) (.s (.s .o (.b (.l [(4,kI),(28,kI)] (.s .o (.s (.c .o .o) (.s (.b (.s .o (.s (.s .o (.b (.r [kI] .o (.b .o)))) .o))) .o)))))) (.s .o .o)))))) h
theorem si.ok (a:(Array Value)) (b:Int) (R:(Array Value)→Bool→World→Prop) w (h:
 Nw 141 a w fun d c=>
 Nw 141 ⟨List.replicate 258 (.int .u8 0)++ [(ni 0),(ni 0),(ni 0),(ni 0)]⟩ c fun f e=>
 Ld kI (Addr.add ⟨d,0,none⟩ 259) e fun (g:Int)=>
 aa (decide (g<4))
 (Ld kI (Addr.add ⟨d,0,none⟩ 260) e fun (h:Int)=>
 0≤(1:Int)∧
 Ld kI (Addr.add ⟨d,0,none⟩ 259) e fun (i:Int)=>
 St (Addr.add ⟨d,0,none⟩ 260) (ni (jP .i64 (a8 .i64 h (1:Int)) b)) e fun j=>
 St (Addr.add ⟨d,0,none⟩ 259) (ni (i64 (i+1))) j fun k=>
 Ld (.arr 262) ⟨d,0,none⟩ k fun l=>
 aw 262 ⟨f,0,none⟩ l k fun m=>
 Ld (.arr 262) ⟨f,0,none⟩ m fun n=>
 R n true m)
 (bo (fun (q:Bool) (r:World)=>
 aa q
 (Ld kI (Addr.add ⟨d,0,none⟩ 258) r fun (s:Int)=>
 Ld kI (Addr.add ⟨d,0,none⟩ 260) r fun (t:Int)=>
 aI (Addr.add ⟨d,0,none⟩ 0) 258 s 1 fun u=>
 St u (.int .u8 (u8 t)) r fun v=>
 Ld kI (Addr.add ⟨d,0,none⟩ 258) v fun (x:Int)=>
 St (Addr.add ⟨d,0,none⟩ 258) (ni (i64 (x+1))) v fun y=>
 St (Addr.add ⟨d,0,none⟩ 261) (ni 0) y fun z=>
 cA z fun a1 b1=>
 ad (.arr 262) ⟨d,0,none⟩ a1 fun c1=>
 ad kI (Addr.add ⟨d,0,none⟩ 258) a1 fun (d1:Int)=>
 aa (decide (d1<258))
 (aw 262 ⟨f,0,none⟩ c1 b1 fun e1=>
 a1 e1∧
 Ld (.arr 262) ⟨f,0,none⟩ e1 fun f1=>
 R f1 true e1)
 (ad (.arr 258) (Addr.add ⟨d,0,none⟩ 0) a1 fun g1=>
 Cl Pg [kB] ea ⟨[(.agg g1)]⟩ b1 fun (i1:Bool) h1=>
 a1 h1∧
 aw 262 ⟨f,0,none⟩ c1 h1 fun j1=>
 a1 j1∧
 Ld (.arr 262) ⟨f,0,none⟩ j1 fun k1=>
 R k1 i1 j1))
 (Ld kI (Addr.add ⟨d,0,none⟩ 259) r fun (l1:Int)=>
 aa (l1==4)
 (St (Addr.add ⟨d,0,none⟩ 259) (ni 5) r fun m1=>
 Ld (.arr 262) ⟨d,0,none⟩ m1 fun n1=>
 aw 262 ⟨f,0,none⟩ n1 m1 fun o1=>
 Ld (.arr 262) ⟨f,0,none⟩ o1 fun p1=>
 R p1 true o1)
 (aa (b==0)
 (Ld kI (Addr.add ⟨d,0,none⟩ 261) r fun (q1:Int)=>
 aa (q1 !=2)
 (Ld kI (Addr.add ⟨d,0,none⟩ 260) r fun (r1:Int)=>
 Ld kI (Addr.add ⟨d,0,none⟩ 260) r fun (s1:Int)=>
 St (Addr.add ⟨d,0,none⟩ 260) (ni (i64 (s1+1))) r fun t1=>
 St (Addr.add ⟨d,0,none⟩ 261) (ni 1) t1 fun u1=>
 St (Addr.add ⟨d,0,none⟩ 259) (ni 4) u1 fun v1=>
 Ld (.arr 262) ⟨d,0,none⟩ v1 fun x1=>
 aw 262 ⟨f,0,none⟩ x1 v1 fun y1=>
 Ld (.arr 262) ⟨f,0,none⟩ y1 fun z1=>
 R z1 (decide (r1<15)) y1)
 (Ld kI (Addr.add ⟨d,0,none⟩ 260) r fun (a2:Int)=>
 St (Addr.add ⟨d,0,none⟩ 260) (ni (i64 (a2+1))) r fun b2=>
 St (Addr.add ⟨d,0,none⟩ 261) (ni 1) b2 fun c2=>
 St (Addr.add ⟨d,0,none⟩ 259) (ni 4) c2 fun d2=>
 Ld (.arr 262) ⟨d,0,none⟩ d2 fun e2=>
 aw 262 ⟨f,0,none⟩ e2 d2 fun f2=>
 Ld (.arr 262) ⟨f,0,none⟩ f2 fun g2=>
 R g2 false f2))
 (Ld kI (Addr.add ⟨d,0,none⟩ 261) r fun (h2:Int)=>
 aa (h2 !=1)
 (Ld kI (Addr.add ⟨d,0,none⟩ 260) r fun (i2:Int)=>
 Ld kI (Addr.add ⟨d,0,none⟩ 260) r fun (j2:Int)=>
 St (Addr.add ⟨d,0,none⟩ 260) (ni (i64 (j2 - 1))) r fun k2=>
 St (Addr.add ⟨d,0,none⟩ 261) (ni 2) k2 fun l2=>
 St (Addr.add ⟨d,0,none⟩ 259) (ni 4) l2 fun m2=>
 Ld (.arr 262) ⟨d,0,none⟩ m2 fun n2=>
 aw 262 ⟨f,0,none⟩ n2 m2 fun o2=>
 Ld (.arr 262) ⟨f,0,none⟩ o2 fun p2=>
 R p2 (decide (i2>0)) o2)
 (Ld kI (Addr.add ⟨d,0,none⟩ 260) r fun (q2:Int)=>
 St (Addr.add ⟨d,0,none⟩ 260) (ni (i64 (q2 - 1))) r fun r2=>
 St (Addr.add ⟨d,0,none⟩ 261) (ni 2) r2 fun s2=>
 St (Addr.add ⟨d,0,none⟩ 259) (ni 4) s2 fun t2=>
 Ld (.arr 262) ⟨d,0,none⟩ t2 fun u2=>
 aw 262 ⟨f,0,none⟩ u2 t2 fun v2=>
 Ld (.arr 262) ⟨f,0,none⟩ v2 fun x2=>
 R x2 false v2))))) fun o=>
 Ld kI (Addr.add ⟨d,0,none⟩ 259) e fun (p:Int)=>
 aa (p==4)
 (o (b==0) e)
 (o false e))):Cl Pg [(.arr 262),kB] gz ⟨[(.agg a),(ni b)]⟩ w R:=co Tryz.f100 [(6,[(38,kB)])] h
theorem pT.ok (a:Int) (b:Int) (R:Value→World→Prop) w (h:
 Nw 3 ⟨[(ni a)]⟩ w fun d c=>
 Nw 3 ⟨[(ni b)]⟩ c fun f e=>
 R (.func (.func 185) ⟨[]⟩ ⟨[(.pointer (some ⟨f,0,none⟩)),(.pointer (some ⟨d,0,none⟩))]⟩) e):Cl Pg [kV] jb ⟨[(ni a),(ni b)]⟩ w R:=co Tryz.f143 [] h
theorem ot.ok (a:Value) (b:Addr) (c:Addr) (R:World→Prop) w (h:
 Ld kI b w fun (d:Int)=>
 Ld kI c w fun (e:Int)=>
 aa (decide (d<e))
 (∃(f:World→Prop) (g:World→Nat),f w∧
 ∀(h:World),f h→
 Ld kI c h fun (i:Int)=>
 Ld kI b h fun (j:Int)=>
 aa (i !=j)
 (jR Pg a [kB] [(ni 1)] h fun (l:Bool) k=>
 aa (!l)
 (R k)
 (jR Pg a [kB] [(ni 1)] k fun (n:Bool) m=>
 aa (!n)
 (R m)
 (Ld kI c m fun (o:Int)=>
 St c (ni (i64 (o+(i64 ((1:Int) - (i64 ((2:Int)*1))))))) m fun p=>
 ([]:List Nat)=([]:List Nat)∧f p∧g p<g h)))
 (jR Pg a [kB] [(ni 0)] h fun (r:Bool) q=>
 R q))
 (∃(s:World→Prop) (t:World→Nat),s w∧
 ∀(u:World),s u→
 Ld kI c u fun (v:Int)=>
 Ld kI b u fun (x:Int)=>
 aa (v !=x)
 (jR Pg a [kB] [(ni 1)] u fun (z:Bool) y=>
 aa (!z)
 (R y)
 (jR Pg a [kB] [(ni 0)] y fun (b1:Bool) a1=>
 aa (!b1)
 (R a1)
 (Ld kI c a1 fun (c1:Int)=>
 St c (ni (i64 (c1+(i64 ((1:Int) - (i64 ((2:Int)*0))))))) a1 fun d1=>
 ([]:List Nat)=([]:List Nat)∧s d1∧t d1<t u)))
 (jR Pg a [kB] [(ni 0)] u fun (f1:Bool) e1=>
 R e1))):Cl Pg [] gS ⟨[a,(.pointer (some b)),(.pointer (some c))]⟩ w R:=tf Tryz.f185 (.s .o (.s (.s .o (.c .o .o)) (.s (.b (.l [] (.s (.s .o (.c .o .o)) (.s (.b (.s .o (.c .o .o))) .o)))) .o))) h
end Go.Proofs.YtcdpblipagajiaaGreat
set_option maxRecDepth 20000
namespace Go.Tab
open Go.Inc
def qv (l:List Nat) (now way:Nat):Prop:=
 if l= [] then way=0∨(way=1∧0<now)∨(way=2∧now<15)
 else (way=0∧l.getLastD 0=now)∨(way=1∧l.getLastD 0<now)∨(way=2∧now<l.getLastD 0)
def ki (t:TS):Prop:=
 (t.bits<4∧t.l= []∧t.now<2^t.bits∧t.way=0)∨
 ((t.bits=4∨t.bits=5)∧t.l.length<258∧t.now≤15∧(∀x∈t.l,x≤15)∧qv t.l t.now t.way)
theorem ki.zero:ki t0:= .inl ⟨by decide,rfl,by decide,rfl⟩
theorem xZ {ok:List Nat→Bool} {t t':TS} {b:Nat} (h:ki t) (hb:b≤1) (he:bg ok t b= .more t'):ki t':=by
 obtain ⟨l,bits,now,way⟩:=t
 unfold ki at h
 unfold bg at he
 dsimp only at h he
 rcases h with ⟨h1,h2,h3,h4⟩|⟨h1,h2,h3,h4,h5⟩
 ·rw [if_pos h1] at he
  cases he
  subst h2 h4
  by_cases h:bits=3
  ·subst h
   right
   refine ⟨.inl rfl,by simp,by simp at h3;dsimp only;omega,by simp,?_⟩
   simp [qv]
  ·left
   refine ⟨by dsimp only;omega,rfl,?_,rfl⟩
   dsimp only
   rw [Nat.pow_succ];omega
 ·rw [if_neg (by omega)] at he
  split at he
  ·split at he
   ·split at he
    ·cases he
     right
     refine ⟨.inl rfl,by simp;omega,h3,?_,?_⟩
     ·intro x hx
      rcases List.mem_append.1 hx with hx|hx
      ·exact h4 x hx
      ·rw [List.mem_singleton] at hx;omega
     ·unfold qv
      dsimp only
      rw [if_neg (by simp)]
      left
      simp
    ·split at he<;>cases he
   ·cases he
    right
    exact ⟨.inr rfl,h2,h3,h4,h5⟩
  ·split at he
   ·split at he
    ·rename_i hw
     cases he
     right
     refine ⟨.inl rfl,h2,by dsimp only;omega,h4,?_⟩
     unfold qv at h5⊢
     dsimp only
     split at h5
     ·rename_i hl
      rw [if_pos hl];omega
     ·rename_i hl
      rw [if_neg hl];omega
    ·cases he
   ·split at he
    ·rename_i hw
     cases he
     right
     refine ⟨.inl rfl,h2,by dsimp only;omega,h4,?_⟩
     unfold qv at h5⊢
     dsimp only
     split at h5
     ·rename_i hl
      rw [if_pos hl];omega
     ·rename_i hl
      rw [if_neg hl];omega
    ·cases he
theorem we {ok:List Nat→Bool} {t:TS} {b:Nat} {l:List Nat} (h:ki t) (he:bg ok t b= .fin l):l.length=258∧ok l=true:=by
 obtain ⟨l',bits,now,way⟩:=t
 unfold ki at h
 unfold bg at he
 dsimp only at h he
 split at he
 ·cases he
 ·split at he
  ·split at he
   ·split at he
    ·cases he
    ·split at he
     ·rename_i hok
      cases he
      refine ⟨?_,hok⟩
      simp
      omega
     ·cases he
   ·cases he
  ·split at he
   ·split at he<;>cases he
   ·split at he<;>cases he
def pad (l:List Nat):List Nat:=l++List.replicate (258 - l.length) 0
theorem cM {l:List Nat} (h:l.length≤258):(pad l).length=258:=by simp [pad];omega
theorem Gd {l:List Nat} (h:l.length=258):pad l=l:=by simp [pad,h]
theorem Ih {l:List Nat} {x:Nat} (h:l.length<258):(pad l).set l.length x=pad (l++ [x]):=by
 unfold pad
 rw [List.set_append_right _ _ (Nat.le_refl _),Nat.sub_self]
 obtain ⟨m,hm⟩: ∃m,258 - l.length=m+1:=⟨257 - l.length,by omega⟩
 rw [hm,List.replicate_succ,List.set_cons_zero,List.length_append,List.length_singleton,show 258 - (l.length+1)=m by omega]
 simp
end Go.Tab
namespace Go.Proofs.YtcdpblipagajiaaGreat
open Go Go.Vc Go.Srt Go.Inc Go.Tab
abbrev wm (l:List Nat):List Value:=l.map fun (n:Nat)=>Value.int .u8 (n:Int)
abbrev ji (l:List Nat) (s b n wy:Int):Array Value:=⟨wm l++ [.int .i64 s,.int .i64 b,.int .i64 n,.int .i64 wy]⟩
theorem od {l:List Nat} (h:l.length=258):(wm l).length=258:=by simp [h]
section
variable {E w:World} {F:List HP}
theorem Gk:(Tryz.prog.fieldsOf 141).toList.map (fun f=>(f.name== "_",f.type,f.offset))= [(false,36,0),(false,3,258),(false,3,259),(false,3,260),(false,3,261)]:=by kernel_rfl
theorem J5:Tryz.prog.underlying 141=some (.struct (Tryz.prog.fieldsOf 141)):=by kernel_rfl
theorem IZ:Tryz.prog.stoodInHeld 141=false:=by kernel_rfl
set_option maxRecDepth 20000 in
theorem sA.tb {l:List Nat} {s b n wy:Int} {K:Bool→Prop} (hl:l.length=258) (hK:K true):sA Tryz.prog 141 (ji l s b n wy) (ji l s b n wy) K:=by
 obtain ⟨it,hit⟩:=B5
 obtain ⟨jt,hjt,hjs⟩:=H7
 obtain ⟨kt,hkt,hks⟩:=Du
 obtain ⟨f1,f2,f3,f4,f5,hfs,hf1,hf2,hf3,hf4,hf5⟩: ∃f1 f2 f3 f4 f5,(Tryz.prog.fieldsOf 141).toList= [f1,f2,f3,f4,f5]∧(f1.name== "_",f1.type,f1.offset)=(false,36,0)∧(f2.name== "_",f2.type,f2.offset)=(false,3,258)∧(f3.name== "_",f3.type,f3.offset)=(false,3,259)∧(f4.name== "_",f4.type,f4.offset)=(false,3,260)∧(f5.name== "_",f5.type,f5.offset)=(false,3,261):=by
  have h:=Gk
  generalize (Tryz.prog.fieldsOf 141).toList=fs at h
  match fs,h with
  | [],h=>simp at h
  | [_],h=>simp at h
  | [_,_],h=>simp at h
  | [_,_,_],h=>simp at h
  | [_,_,_,_],h=>simp at h
  |_::_::_::_::_::_::_,h=>simp at h
  | [f1,f2,f3,f4,f5],h=>
   simp only [List.map_cons,List.map_nil,List.cons.injEq,and_true] at h
   exact ⟨f1,f2,f3,f4,f5,rfl,h.1,h.2.1,h.2.2.1,h.2.2.2.1,h.2.2.2.2⟩
 simp only [Prod.mk.injEq] at hf1 hf2 hf3 hf4 hf5
 have hL:=od hl
 have hc:(((ji l s b n wy).toList.drop 0).take 258)=(l.map fun (x:Nat)=>(x:Int)).map (.int .u8):=by
  rw [List.drop_zero,List.take_append_of_le_length (by omega),List.take_of_length_le (by omega),List.map_map];rfl
 have hint: ∀(x:Int) (D:Nat) (_:9≤D) (w:World),(Op.equalIn D 3 (.int .i64 x) (.int .i64 x)).run Tryz.prog w= .ok true w:=fun x D hD w=>by
  obtain ⟨D,rfl⟩: ∃k,D=k+1:=⟨D - 1,by omega⟩
  rw [run_equalIn_int w D _ _ _ _ _ DT]
  simp
 obtain ⟨r,hr,hK'⟩:=jJ (P:=Tryz.prog) (d:=9) (rec:=fun t x y K=> ∃b,(∀D,9≤D→∀w,(Op.equalIn D t x y).run Tryz.prog w= .ok b w)∧K b) (fun t x y K h=>h) (xs:=ji l s b n wy) (ys:=ji l s b n wy) (fs:= [f1,f2,f3,f4,f5]) (K:=K) (by
  unfold iU
  rw [hf1.1]
  refine lQ (it:=jt) (by rw [hf1.2.1];kernel_rfl) (by rw [hf1.2.1];exact hjt) (lQ (it:=jt) (by rw [hf1.2.1];kernel_rfl) (by rw [hf1.2.1];exact hjt) ?_)
  rw [hf1.2.2,hjs,hf1.2.1,hc]
  refine ⟨_,fun D hD w=>vC Ju He hkt hks (by simpa using hl) (by simpa using hl) D (by omega) w,?_⟩
  unfold iU
  rw [hf2.1]
  refine dE (it:=it) (v:= .int .i64 s) (by rw [hf2.2.1];kernel_rfl) (by rw [hf2.2.1];exact hit) (by rw [hf2.2.2];exact jN (k:=0) hL) (dE (it:=it) (v:= .int .i64 s) (by rw [hf2.2.1];kernel_rfl) (by rw [hf2.2.1];exact hit) (by rw [hf2.2.2];exact jN (k:=0) hL) ?_)
  rw [hf2.2.1]
  refine ⟨true,hint s,?_⟩
  unfold iU
  rw [hf3.1]
  refine dE (it:=it) (v:= .int .i64 b) (by rw [hf3.2.1];kernel_rfl) (by rw [hf3.2.1];exact hit) (by rw [hf3.2.2];exact jN (k:=1) hL) (dE (it:=it) (v:= .int .i64 b) (by rw [hf3.2.1];kernel_rfl) (by rw [hf3.2.1];exact hit) (by rw [hf3.2.2];exact jN (k:=1) hL) ?_)
  rw [hf3.2.1]
  refine ⟨true,hint b,?_⟩
  unfold iU
  rw [hf4.1]
  refine dE (it:=it) (v:= .int .i64 n) (by rw [hf4.2.1];kernel_rfl) (by rw [hf4.2.1];exact hit) (by rw [hf4.2.2];exact jN (k:=2) hL) (dE (it:=it) (v:= .int .i64 n) (by rw [hf4.2.1];kernel_rfl) (by rw [hf4.2.1];exact hit) (by rw [hf4.2.2];exact jN (k:=2) hL) ?_)
  rw [hf4.2.1]
  refine ⟨true,hint n,?_⟩
  unfold iU
  rw [hf5.1]
  refine dE (it:=it) (v:= .int .i64 wy) (by rw [hf5.2.1];kernel_rfl) (by rw [hf5.2.1];exact hit) (by rw [hf5.2.2];exact jN (k:=3) hL) (dE (it:=it) (v:= .int .i64 wy) (by rw [hf5.2.1];kernel_rfl) (by rw [hf5.2.1];exact hit) (by rw [hf5.2.2];exact jN (k:=3) hL) ?_)
  rw [hf5.2.1]
  refine ⟨true,hint wy,?_⟩
  simpa using hK)
 refine ⟨r,fun w=> ?_,hK'⟩
 rw [run_equalIn_struct w 9999 _ _ _ J5 IZ,hfs]
 exact hr 9999 (by decide) w
end
end Go.Proofs.YtcdpblipagajiaaGreat
namespace Go.Proofs.YtcdpblipagajiaaGreat
open Go Go.Vc
set_option maxRecDepth 100000
theorem wE.ok (R:(Option Addr)→World→Prop) w (h:
 Nw 133 ⟨[(.slice none 0 0),(ni 0)]⟩ w fun b a=>
 R (some ⟨b,0,none⟩) a):Cl Pg [kP] jA ⟨[]⟩ w R:=co Tryz.f46 [] h
theorem nR.ok (a:(Option Addr)) (R:Sl→World→Prop) w (h:
 aa (Option.isNone (a:Option Addr))
 (R (⟨none,0,0⟩:Sl) w)
 (dO a fun b=>
 Ld kS (b.add 0) w fun (c:Sl)=>
 Cl Pg [kS] cu ⟨[(an c)]⟩ w fun (e:Sl) d=>
 R e d)):Cl Pg [kS] dI ⟨[(.pointer a)]⟩ w R:=co Tryz.f49 [] h
theorem zS.ok (a:Sl) (R:Sl→World→Prop) w (h:
 db (⟨none,0,0⟩:Sl) 0 w fun b c (d:Sl) (e:Int) f=>
 aa (decide (e<(i64 ((8:Int)*(a.len:Int)))))
 (Cl Pg [(aL .u8)] jm ⟨[(an a),(ni e)]⟩ f fun (h:Int) g=>
 Nw 3 ⟨[(ni (i64 h))]⟩ g fun j i=>
 aD Pg (Builtin.append_ #[33,33] 33 ⟨[(an d),(an (⟨some ⟨j,0,none⟩,1,1⟩:Sl))]⟩) kS i fun (l:Sl) k=>
 b l (i64 (e+1)) k∧c l (i64 (e+1)) k<c d e f)
 (R d f)):Cl Pg [kS] kg ⟨[(an a)]⟩ w R:=co Tryz.f51 [(5,[(2,kS),(7,kI)])] h
theorem pA.ok (a:(Option Addr)) (b:Int) (c:Int) (R:Bool→World→Prop) w (h:
 Nw 80 ⟨[(.pointer a)]⟩ w fun e d=>
 Ld kP ⟨e,0,none⟩ d fun f=>
 aa (Option.isNone (f:Option Addr))
 (R false d)
 (Cl Pg [kB] iX ⟨[(.int .u32 b),(ni c)]⟩ d fun (h:Bool) g=>
 aa (!h)
 (R false g)
 (Cl Pg [kV] mK ⟨[(.int .u32 b),(ni c)]⟩ g fun j i=>
 ek Pg j [(aL .u8)] i (fun (k:Nat) (l:Nat→Obj) (p:Int) (m:World) (n o:World→Prop)=>
 om k l m fun q=>
 Ld kP ⟨e,0,none⟩ q fun r=>
 Cl Pg [] eJ ⟨[(.pointer r),(.int .u8 p)]⟩ q fun s=>
 km k l s n)
 (fun t u=>
 gm (t:: []:List Nat) u fun v=>
 R true v)
 (fun x y=>
 gm (x:: []:List Nat) y fun z=>
 R false z)))):Cl Pg [kB] cR ⟨[(.pointer a),(.int .u32 b),(ni c)]⟩ w R:=tf Tryz.f95 (.s .o (.s (.s .o (.c (.s .o .o) .o)) (.s (.s .o (.b (.r [(aL .u8)] .o (.b .o)))) (.s .o .o)))) h
theorem wH.ok (a:Sl) (b:Int) (R:Int→World→Prop) w (h:
 0≤(3:Int)∧
 ar a (aF .i64 b (3:Int)) 1 fun c=>
 Ld (aL .u8) c w fun (d:Int)=>
 0≤(i64 ((7:Int) - (bl .i64 b 7)))∧
 R (bl .u8 (aF .u8 d (i64 ((7:Int) - (bl .i64 b 7)))) 1) w):Cl Pg [(aL .u8)] jm ⟨[(an a),(ni b)]⟩ w R:=co Tryz.f99 [] h
theorem uz.ok (a:Int) (b:Int) (R:Bool→World→Prop) w (h:
 aa (decide (b≥0))
 (aa (decide (b≤32))
 (0≤b∧
 R ((aF .u64 (u64 a) b)==0) w)
 (R false w))
 (R false w)):Cl Pg [kB] iX ⟨[(.int .u32 a),(ni b)]⟩ w R:=co Tryz.f144 [] h
theorem ui.ok (a:Int) (b:Int) (R:Value→World→Prop) w (h:
 Nw 49 ⟨[(.int .u32 a)]⟩ w fun d c=>
 Nw 3 ⟨[(ni b)]⟩ c fun f e=>
 R (.func (.func 186) ⟨[]⟩ ⟨[(.pointer (some ⟨f,0,none⟩)),(.pointer (some ⟨d,0,none⟩))]⟩) e):Cl Pg [kV] mK ⟨[(.int .u32 a),(ni b)]⟩ w R:=co Tryz.f145 [] h
theorem pG.ok (a:(Option Addr)) (b:Int) (R:World→Prop) w (h:
 dO a fun c=>
 Ld kI (c.add 1) w fun (d:Int)=>
 aa ((bl .i64 d 7)==0)
 (dO a fun e=>
 Ld kS (e.add 0) w fun (f:Sl)=>
 Nw 5 ⟨[(.int .u8 0)]⟩ w fun h g=>
 aD Pg (Builtin.append_ #[22,22] 22 ⟨[(an f),(an (⟨some ⟨h,0,none⟩,1,1⟩:Sl))]⟩) kS g fun (j:Sl) i=>
 dO a fun k=>
 St (k.add 0) (an j) i fun l=>
 ao l fun m=>
 dO a fun n=>
 Ld kS (n.add 0) m fun (o:Sl)=>
 dO a fun p=>
 Ld kI (p.add 1) m fun (q:Int)=>
 0≤(3:Int)∧
 ar o (aF .i64 q (3:Int)) 1 fun r=>
 Ld (aL .u8) r m fun (s:Int)=>
 dO a fun t=>
 Ld kI (t.add 1) m fun (u:Int)=>
 0≤(i64 ((7:Int) - (bl .i64 u 7)))∧
 ar o (aF .i64 q (3:Int)) 1 fun v=>
 St v (.int .u8 (jP .u8 s (a8 .u8 b (i64 ((7:Int) - (bl .i64 u 7)))))) m fun x=>
 dO a fun y=>
 Ld kI (y.add 1) x fun (z:Int)=>
 dO a fun a1=>
 St (a1.add 1) (ni (i64 (z+1))) x fun b1=>
 R b1)
 (ao w fun c1=>
 dO a fun d1=>
 Ld kS (d1.add 0) c1 fun (e1:Sl)=>
 dO a fun f1=>
 Ld kI (f1.add 1) c1 fun (g1:Int)=>
 0≤(3:Int)∧
 ar e1 (aF .i64 g1 (3:Int)) 1 fun h1=>
 Ld (aL .u8) h1 c1 fun (i1:Int)=>
 dO a fun j1=>
 Ld kI (j1.add 1) c1 fun (k1:Int)=>
 0≤(i64 ((7:Int) - (bl .i64 k1 7)))∧
 ar e1 (aF .i64 g1 (3:Int)) 1 fun l1=>
 St l1 (.int .u8 (jP .u8 i1 (a8 .u8 b (i64 ((7:Int) - (bl .i64 k1 7)))))) c1 fun m1=>
 dO a fun n1=>
 Ld kI (n1.add 1) m1 fun (o1:Int)=>
 dO a fun p1=>
 St (p1.add 1) (ni (i64 (o1+1))) m1 fun q1=>
 R q1)):Cl Pg [] eJ ⟨[(.pointer a),(.int .u8 b)]⟩ w R:=co Tryz.f146 [] h
theorem rX.ok (a:Value) (b:Addr) (c:Addr) (R:World→Prop) w (h:
 Ld kI b w fun (d:Int)=>
 ∃(e:Int→World→Prop) (f:Int→World→Nat),e ((i64 (d - 1))) w∧
 ∀(g:Int),∀(h:World),e g h→
 aa (decide (g≥0))
 (Ld (aL .u32) c h fun (i:Int)=>
 0≤g∧
 jR Pg a [kB] [(.int .u8 (bl .u8 (u8 (aF .u32 i g)) 1))] h fun (k:Bool) j=>
 aa (!k)
 (R j)
 (([]:List Nat)=([]:List Nat)∧e (i64 (g - 1)) j∧f (i64 (g - 1)) j<f g h))
 (R h)):Cl Pg [] kO ⟨[a,(.pointer (some b)),(.pointer (some c))]⟩ w R:=tf Tryz.f186 (.s .o (.b (.l [(4,kI)] (.s (.s .o (.c .o .o)) (.s (.b (.s .o (.c .o .o))) .o))))) h
end Go.Proofs.YtcdpblipagajiaaGreat
set_option maxRecDepth 20000
namespace Go.Proofs.YtcdpblipagajiaaGreat
open Go Go.Vc Go.Srt Go.Bits
def Wr (b:Nat) (bits:List Nat):HP:=fun f=> ∃s:Sl,(Srt.Bits bits∧bits.length≤bR)∧
 Sat [aj b (.cells ⟨[.slice s.base s.len s.cap,.int .i64 (bits.length:Int)]⟩ 133 (0,0)),ak 1 s ((pack bits).map vB)] f
section
variable {E w:World} {F A:List HP} {b:Nat} {bits:List Nat}
theorem Wr.KQ (h:Hp E w (Wr b bits::F)): ∃s:Sl,Srt.Bits bits∧bits.length≤bR∧Hp E w (aj b (.cells ⟨[.slice s.base s.len s.cap,.int .i64 (bits.length:Int)]⟩ 133 (0,0))::ak 1 s ((pack bits).map vB)::F):=by
 obtain ⟨s,⟨h1,h2⟩,h⟩:=h.Hq (X:=fun _:Sl=>Srt.Bits bits∧bits.length≤bR) (L:=fun s=> [aj b (.cells ⟨[.slice s.base s.len s.cap,.int .i64 (bits.length:Int)]⟩ 133 (0,0)),ak 1 s ((pack bits).map vB)]) (fun f hf=>hf)
 exact ⟨s,h1,h2,h⟩
theorem Wr.shut {s:Sl} (h1:Srt.Bits bits) (h2:bits.length≤bR) (h:Hp E w (aj b (.cells ⟨[.slice s.base s.len s.cap,.int .i64 (bits.length:Int)]⟩ 133 (0,0))::ak 1 s ((pack bits).map vB)::F)):Hp E w (Wr b bits::F):=
 Hp.G7 (l:= [_,_]) (fun f hf=>⟨s,⟨h1,h2⟩,hf⟩) h
theorem JM {K:Option Addr→World→Prop} (h:Hp E w F) (hK: ∀b w',Hp E w' (Wr b []::F)→K (some ⟨b,0,none⟩) w'):Cl Tryz.prog [kP] jA ⟨[]⟩ w K:=by
 refine wE.ok _ _ ?_
 exact Nw.mk h fun b w1 h1=>hK b w1 (Wr.shut (s:=⟨none,0,0⟩) (fun x hx=>by cases hx) (Nat.zero_le _) ((h1.bJ 1).p1))
theorem FJ {v width:Nat} {K:Bool→World→Prop} (hw:width≤32) (hv:v<2^width) (hv2:v≤4294967295) (hK:K true w):Cl Tryz.prog [kB] iX ⟨[.int .u32 (v:Int),.int .i64 (width:Int)]⟩ w K:=by
 refine uz.ok _ _ _ _ ?_
 refine aa.t (decide_eq_true (by omega)) (aa.t (decide_eq_true (by omega)) ⟨by omega,?_⟩)
 rw [mo (by omega),bG (by have:IntKind.bits .u64=64:=rfl;omega),Nat.div_eq_of_lt hv]
 exact hK
theorem pc:bK Tryz.prog 22 5 1 1:=bK.of (by kernel_rfl) (by kernel_rfl)
theorem Bi {x:Nat} (hx:x≤1):Srt.Bits [x]:=fun y hy=>by
 have:y=x:=by simpa using hy
 omega
theorem zv {x:Nat}: ∀y∈ [vB x],ay y=true:=fun y hy=>by
 have:y=vB x:=by simpa using hy
 subst this;rfl
theorem JG (n:Nat) (h:n≤bR):bl .i64 (n:Int) 7=((n % 8:Nat):Int):=by
 have hm:IntKind.max .i64=9223372036854775807:=rfl
 rw [av] at h
 rw [show (7:Int)=((7:Nat):Int) from rfl,eI (by omega) (by omega),show (7:Nat)=2^3 - 1 from rfl,Nat.and_two_pow_sub_one_eq_mod]
set_option maxRecDepth 20000 in
theorem Ks {x:Nat} {K:World→Prop} (h:Hp E w (Wr b bits::F)) (hx:x≤1) (hbig:bits.length+1≤bR) (hK: ∀w',Hp E w' (Wr b (bits++ [x])::F)→K w'):
  Cl Tryz.prog [] eJ ⟨[.pointer (some ⟨b,0,none⟩),.int .u8 (x:Int)]⟩ w K:=by
 refine pG.ok _ _ _ _ ?_
 simp only [au,aq,Nat.zero_add]
 obtain ⟨s,hb,hle,h1⟩:=Wr.KQ h
 have hbg:=hbig
 rw [av] at hbg hle
 have hr8:bits.length % 8<8:=Nat.mod_lt _ (by decide)
 refine Ld.aC (s:= .int .i64) h1 (bits.length:Int) rfl ?_
 rw [JG _ (by rw [av];omega)]
 have tail: ∀(s':Sl) (w2:World),Hp E w2 (aj b (.cells ⟨[.slice s'.base s'.len s'.cap,.int .i64 (bits.length:Int)]⟩ 133 (0,0))::ak 1 s' ((room bits).map vB)::F)→
   ao w2 fun (w_13:World)=>Ld kS (⟨b,0,none⟩:Addr) w_13 fun (b15:Sl)=>Ld kI (⟨b,1,none⟩:Addr) w_13 fun (many17:Int)=>0≤(3:Int)∧ar b15 (aF .i64 many17 3) 1 fun (q18:Addr)=>Ld (aL .u8) q18 w_13 fun (x19:Int)=>
    Ld kI (⟨b,1,none⟩:Addr) w_13 fun (many21:Int)=>0≤((i64 ((7:Int) - (bl .i64 many21 7))):Int)∧ar b15 (aF .i64 many17 3) 1 fun (q22:Addr)=>
    St q22 (.int .u8 (jP .u8 x19 (a8 .u8 (x:Int) (i64 ((7:Int) - (bl .i64 many21 7)))))) w_13 fun (w_23:World)=>Ld kI (⟨b,1,none⟩:Addr) w_23 fun (many25:Int)=>St (⟨b,1,none⟩:Addr) (.int .i64 (i64 (many25+1))) w_23 fun (w_27:World)=>K w_27:=by
  intro s' w2 h2
  refine ao.mk h2 fun w3 h3=>Ld.aC (s:= .sl) h3 s' rfl (Ld.aC (s:= .int .i64) h3 (bits.length:Int) rfl ⟨by decide,?_⟩)
  have hol:=h3.p1.aH
  have hrl:(room bits).length=bits.length/8+1:=oQ _ _
  rw [List.length_map,hrl,Nat.mul_one] at hol
  have e3:aF .i64 (bits.length:Int) 3=((bits.length/8:Nat):Int):=by
   rw [show (3:Int)=((3:Nat):Int) from rfl,bG (by decide)]
  rw [e3]
  refine ar.rd (h3.al (ab.cons ab.own)) (by omega) (by omega) fun q hq hc=> ?_
  have hby:((room bits).map vB)[((bits.length/8:Nat):Int).toNat]'hq= .int .u8 (kN bits (bits.length/8):Int):=by
   rw [List.getElem_map]
   have:=sO (b:=bits) (m:=bits.length/8+1) (j:=bits.length/8) (by omega)
   rw [bT (by rw [oQ];omega)] at this
   show vB _=_
   unfold vB
   rw [←this];rfl
  refine Ld.sc (s:= .int .u8) (kN bits (bits.length/8):Int) (by rw [hc,hby]) (Ld.aC (s:= .int .i64) h3 (bits.length:Int) rfl ?_)
  rw [JG _ (by rw [av];omega),ag (x:=(7:Int) - ((bits.length % 8:Nat):Int)) (by omega),show (7:Int) - ((bits.length % 8:Nat):Int)=((7 - bits.length % 8:Nat):Int) by omega]
  have hnew:=EX (hb.app (Bi hx)) (bits.length/8)
  rw [xB,if_pos rfl] at hnew
  have hm8:IntKind.max .u8=255:=rfl
  have e4:a8 .u8 (x:Int) ((7 - bits.length % 8:Nat):Int)=((x*2^(7 - bits.length % 8):Nat):Int):=dJ (by have:IntKind.bits .u8=8:=rfl;omega) (by omega)
  have e5:=H3 hr8 (IE bits) hx
  rw [e4,ou (by omega) (by omega) (by rw [e5];omega),e5]
  refine ⟨by omega,?_⟩
  refine St.own h3.p1 (by omega) (by omega) rfl fun w4 h4=> ?_
  refine Ld.aC (s:= .int .i64) h4.p1 (bits.length:Int) rfl ?_
  rw [ag (by omega)]
  refine St.aC h4.p1 (show 1<2 by decide) rfl fun w5 h5=>hK w5 (Wr.shut (s:=s') (hb.app (Bi hx)) (by simpa using hbig) ?_)
  rw [DN]
  have:((room bits).set (bits.length/8) (kN bits (bits.length/8)+x*2^(7 - bits.length % 8))).map vB=((room bits).map vB).set ((bits.length/8:Nat):Int).toNat (.int .u8 ((kN bits (bits.length/8)+x*2^(7 - bits.length % 8):Nat):Int)):=by
   rw [Int.toNat_natCast,List.map_set];rfl
  rw [this,List.length_append,List.length_singleton]
  exact h5
 refine aa.mk (fun hz=> ?_) (fun hz=> ?_)
 ·have hz:bits.length % 8=0:=by rw [beq_iff_eq] at hz;omega
  refine Ld.aC (s:= .sl) h1 s rfl (Nw.mk h1 fun b8 w2 h2=> ?_)
  have hol:=h2.p2.aH
  rw [List.length_map,j8,Nat.mul_one] at hol
  refine aN (ys:= [vB 0]) (n:=1) pc (by decide) (.inl ⟨5,by kernel_rfl⟩) h2.p2 (.inl ⟨some ⟨b8,0,none⟩,1,1,rfl,rfl,h2.al (ab.aC rfl rfl)⟩) rfl zv (by omega) (by omega) fun s' w3 h3 hs'=> ?_
  refine St.aC h3.p2 (show 0<2 by decide) rfl fun w4 h4=> ?_
  refine tail s' w4 ?_
  have e:(room bits).map vB=(pack bits).map vB++ [vB 0]:=by rw [Br,if_pos hz,List.map_append];rfl
  rw [e]
  exact h4.p2.drop
 ·have hz:bits.length % 8≠0:=by have:=beq_eq_false_iff_ne.1 hz;omega
  refine tail s w ?_
  rw [Br,if_neg hz]
  exact h1
set_option maxRecDepth 20000 in
theorem Fl {K:Sl→World→Prop} (h:Hp E w (Wr b bits::F)) (hK: ∀s w',Hp E w' (ak 1 s ((pack bits).map vB)::Wr b bits::F)→K s w'):Cl Tryz.prog [kS] dI ⟨[.pointer (some ⟨b,0,none⟩)]⟩ w K:=by
 refine nR.ok _ _ _ ?_
 simp only [au,aq,Nat.zero_add]
 obtain ⟨s,hb,hle,h1⟩:=Wr.KQ h
 refine aa.f rfl (Ld.aC (s:= .sl) h1 s rfl (rF.ok _ _ _ ?_))
 have hol:=h1.p1.aH
 have hpl:=j8 bits
 rw [List.length_map,Nat.mul_one] at hol
 rw [av] at hle
 refine aa.mk (fun hn=> ?_) (fun hn=> ?_)
 ·have hn:s.base=none:=by simpa using hn
  obtain ⟨rfl,he,h2⟩|⟨b0,off,arr,t,hbase,_⟩:=h1.p1.j9
  ·refine hK _ w ?_
   rw [he]
   refine Hp.bJ (Wr.shut (s:=⟨none,0,0⟩) hb (by rw [av];exact hle) ?_) 1
   rw [he]
   exact (h2.bJ 1).p1
  ·rw [hn] at hbase;cases hbase
 ·refine Nw.mk h1 fun b3 w2 h2=> ?_
  have h3:=h2.iw (n:=0) (sz:=1) rfl
  have hsrc:aA 1 s ((pack bits).map vB) w2:=h2.al (ab.cons (ab.cons ab.own))
  refine aN (s:=⟨some ⟨b3,0,none⟩,0,0⟩) (ys:=(pack bits).map vB) (n:=s.len) pc (by decide) (.inl ⟨5,by kernel_rfl⟩) h3 (.inl ⟨s.base,s.len,s.cap,rfl,rfl,hsrc⟩) (by rw [List.length_map,Nat.mul_one];exact hol) cy (by show (2*(0+s.len)+1024)*1≤2^48;omega) (by show 0+s.len<2^62;omega) fun s' w4 h4 _=> ?_
  exact hK s' w4 (Wr.shut (s:=s) hb (by rw [av];exact hle) h4.q2).p1
set_option maxRecDepth 20000 in
theorem D2 {v width b4 b6:Nat} (hw:width≤32) (hv:v≤4294967295):Iter Tryz.prog E (.func (.func kO) ⟨[]⟩ ⟨[.pointer (some ⟨b6,0,none⟩),.pointer (some ⟨b4,0,none⟩)]⟩) width (fun i=> [Ki.enc (aL .u8) ((v/2^(width - 1 - i) % 2:Nat):Int)])
  (aj b6 (.cells ⟨[.int .i64 (width:Int)]⟩ 3 (0,0))::aj b4 (.cells ⟨[.int .u32 (v:Int)]⟩ 49 (0,0))::A):=by
 intro yv C G w K hy h hK hKG
 refine og.mk (by kernel_rfl) (rX.ok yv ⟨b6,0,none⟩ ⟨b4,0,none⟩ K w ?_)
 have h0:=h.perm (List.perm_middle.trans (List.Perm.cons _ List.perm_middle))
 refine Ld.aC (s:= .int .i64) h0 (width:Int) rfl ?_
 refine ⟨fun i w'=> ∃k:Nat,i=(width:Int) - 1 - (k:Int)∧k≤width∧Hp E w' (aj b6 (.cells ⟨[.int .i64 (width:Int)]⟩ 3 (0,0))::aj b4 (.cells ⟨[.int .u32 (v:Int)]⟩ 49 (0,0))::(C k++A)),fun i _=>(i+1).toNat,⟨0,by rw [ag (by omega)];omega,by omega,h0⟩,?_⟩
 rintro i w1 ⟨k,rfl,hk,h1⟩
 refine aa.mk (fun hge=> ?_) (fun hlt=> ?_)
 ·have hlt:k<width:=by have:=of_decide_eq_true hge;omega
  refine Ld.aC (s:= .int .u32) h1.p1 (v:Int) rfl ⟨by omega,?_⟩
  have hd:v/2^(width - 1 - k)≤v:=Nat.div_le_self _ _
  have e:bl .u8 (u8 (aF .u32 (v:Int) ((width:Int) - 1 - (k:Int)))) 1=((v/2^(width - 1 - k) % 2:Nat):Int):=by
   have hm:IntKind.max .u8=255:=rfl
   rw [show (width:Int) - 1 - (k:Int)=((width - 1 - k:Nat):Int) by omega,bG (by have:IntKind.bits .u32=32:=rfl;omega),te,show (((v/2^(width - 1 - k):Nat):Int) % 256)=((v/2^(width - 1 - k) % 256:Nat):Int) by omega,
    show (1:Int)=((1:Nat):Int) from rfl,eI (by omega) (by omega),Nat.and_one_is_mod]
   omega
  rw [e]
  refine hy k hlt (aj b6 (.cells ⟨[.int .i64 (width:Int)]⟩ 3 (0,0))::aj b4 (.cells ⟨[.int .u32 (v:Int)]⟩ 49 (0,0))::A) w1 _ (h1.perm ((List.Perm.cons _ List.perm_middle.symm).trans List.perm_middle.symm)) (fun w5 h5=> ?_) (fun w5 h5=> ?_)
  ·refine aa.f rfl ⟨rfl,⟨k+1,by rw [ag (by omega)];omega,by omega,h5.perm (List.perm_middle.trans (List.Perm.cons _ List.perm_middle))⟩,by dsimp only;rw [ag (by omega)];omega⟩
  ·exact aa.t rfl (hKG k w5 hlt h5)
 ·have hge:k=width:=by have:=of_decide_eq_false hlt;omega
  subst hge
  exact hK _ (h1.perm ((List.Perm.cons _ List.perm_middle.symm).trans List.perm_middle.symm))
theorem DU {v width:Nat} {K:Bool→World→Prop} (h:Hp E w (Wr b bits::F)) (hw:width≤32) (hv:v<2^width) (hv2:v≤4294967295) (hbig:bits.length+width≤bR) (hK: ∀w',Hp E w' (Wr b (bits++bn width v)::F)→K true w'):
  Cl Tryz.prog [kB] cR ⟨[.pointer (some ⟨b,0,none⟩),.int .u32 (v:Int),.int .i64 (width:Int)]⟩ w K:=by
 refine pA.ok _ _ _ _ _ ?_
 refine Nw.mk h fun b5 w1 h1=>Ld.aC (s:= .ptr) h1 (some ⟨b,0,none⟩) rfl (aa.f rfl (FJ hw hv hv2 (aa.f rfl (ui.ok _ _ _ _ ?_))))
 refine Nw.mk h1 fun b4 w2 h2=>Nw.mk h2 fun b6 w3 h3=> ?_
 have h3:Hp E w3 ([aj b5 (.cells ⟨[.pointer (some ⟨b,0,none⟩)]⟩ 80 (0,0)),Wr b (bits++(bn width v).take 0)]++(aj b6 (.cells ⟨[.int .i64 (width:Int)]⟩ 3 (0,0))::aj b4 (.cells ⟨[.int .u32 (v:Int)]⟩ 49 (0,0))::F)):=by
  rw [List.take_zero,List.append_nil]
  exact h3.p3.p3
 have hbl:=oh width v
 refine ek.rJ (k:=aL .u8) (x:=fun i=>((v/2^(width - 1 - i) % 2:Nat):Int)) (n:=width) (fun i=> [aj b5 (.cells ⟨[.pointer (some ⟨b,0,none⟩)]⟩ 80 (0,0)),Wr b (bits++(bn width v).take i)]) (fun _=> [uD]) h3 (D2 hw hv2) ?_ ?_ ?_
 ·intro lr rec i A w5 Kt Kf hi h5 hKt _
  have h5:Hp E w5 (aj lr (rec 0)::aj b5 (.cells ⟨[.pointer (some ⟨b,0,none⟩)]⟩ 80 (0,0))::Wr b (bits++(bn width v).take i)::A):=h5
  refine om.mk h5 fun w6 h6=>Ld.aC (s:= .ptr) h6.p1 (some ⟨b,0,none⟩) rfl ?_
  refine Ks h6.p2 (by omega) (by rw [List.length_append,List.length_take,hbl];omega) fun w7 h7=>km.mk h7.p1 fun w8 h8=>hKt w8 ?_
  have e:(bits++(bn width v).take i)++ [v/2^(width - 1 - i) % 2]=bits++(bn width v).take (i+1):=by
   rw [List.append_assoc,List.take_add_one,List.getElem?_eq_getElem (by rw [hbl];exact hi),←zM width v i hi,bT (by rw [hbl];exact hi)];rfl
  rw [e] at h8
  exact h8.p2.p1
 ·intro D w5 h5
  have h5:Hp E w5 (aj D (.deferred (some []))::aj b5 (.cells ⟨[.pointer (some ⟨b,0,none⟩)]⟩ 80 (0,0))::Wr b (bits++(bn width v).take width)::aj b6 (.cells ⟨[.int .i64 (width:Int)]⟩ 3 (0,0))::aj b4 (.cells ⟨[.int .u32 (v:Int)]⟩ 49 (0,0))::F):=h5
  rw [List.take_of_length_le (by omega)] at h5
  exact gm.rJ h5 fun w6 h6=>hK w6 h6.drop.p1.drop.p1.drop
 ·intro i D w5 hi h5
  exact (Hp.Ab h5).elim
end
end Go.Proofs.YtcdpblipagajiaaGreat
namespace Go.Proofs.YtcdpblipagajiaaGreat
open Go Go.Vc Go.Srt Go.Inc Go.Tab Go.Bits
section
variable {E w:World} {F:List HP}
set_option maxRecDepth 20000
theorem zz {was now b4 b6:Nat} (h1:was≤255) (h2:now≤255):ri Tryz.prog E (.func (.func gS) ⟨[]⟩ ⟨[.pointer (some ⟨b6,0,none⟩),.pointer (some ⟨b4,0,none⟩)]⟩) (cD was now).length
  (fun i=> [Ki.enc kI (((cD was now).getD i 0:Nat):Int)]) [bI b6 now,bI b4 was] (fun _=>True):=by
 intro yv C G w K hg hy h hK hKG
 refine og.mk (by kernel_rfl) (ot.ok yv ⟨b6,0,none⟩ ⟨b4,0,none⟩ K w ?_)
 have h:Hp E w (bI b6 now::bI b4 was::C 0):=h
 have one: ∀(k x:Nat) (rest:List Nat) (was':Nat) (w:World) (Kb:Bool→World→Prop),(cD was now).drop k=x::rest→Hp E w (bI b6 now::bI b4 was'::C k)→
   (∀w',Hp E w' (bI b6 now::bI b4 was'::C (k+1))→Kb true w')→(∀w',k<(cD was now).length→Hp E w' (G k)→Kb false w')→jR Tryz.prog yv [kB] [.int .i64 (x:Int)] w Kb:=by
  intro k x rest was' w Kb hd h hk hf
  have hlt:k<(cD was now).length:=by
   rcases Nat.lt_or_ge k (cD was now).length with q|q
   ·exact q
   ·rw [List.drop_eq_nil_of_le q] at hd;cases hd
  have hx:(cD was now).getD k 0=x:=by
   rw [List.drop_eq_getElem_cons hlt] at hd
   injection hd with e _
   rw [List.getD_eq_getElem?_getD,List.getElem?_eq_getElem hlt,Option.getD_some,e]
  have he: [Value.int .i64 (x:Int)]= [Ki.enc kI (((cD was now).getD k 0:Nat):Int)]:=by rw [hx]
  rw [he]
  refine hy k hlt [bI b6 now,bI b4 was'] w _ (h.perm (List.perm_append_comm (l₁:= [bI b6 now,bI b4 was']))) (fun w h=> ?_) (fun w h=> ?_)
  ·exact hk w (h.perm (List.perm_append_comm (l₂:= [bI b6 now,bI b4 was'])))
  ·exact hf w hlt (h.perm (List.perm_append_comm (l₂:= [bI b6 now,bI b4 was']))).drop.drop
 have last: ∀(k was':Nat) (w:World),(cD was now).drop k= [0]→Hp E w (bI b6 now::bI b4 was'::C k)→jR Tryz.prog yv [kB] [.int .i64 0] w fun _ w=>K w:=by
  intro k was' w hd h
  have hlen:(cD was now).length=k+1:=by
   have:=congrArg List.length hd
   simp at this;omega
  refine one k 0 [] was' w _ hd h (fun w h=> ?_) (fun w hk h=>hKG k w hk h)
  rw [←hlen] at h
  exact hK w h.drop.drop
 have hdn: ∀j,ga (j+1)=1::1::ga j:=fun _=>rfl
 have hup: ∀j,nz (j+1)=1::0::nz j:=fun _=>rfl
 refine Ld.xb (x:=(now:Int)) h rfl (Ld.xb (x:=(was:Int)) h rfl (aa.dm (fun hlt=> ?_) (fun hge=> ?_)))
 ·have hlt:now<was:=by omega
  refine ⟨fun w=> ∃k was':Nat,now≤was'∧was'≤was∧(cD was now).drop k=ga (was' - now)++ [0]∧k+2*(was' - now)+1=(cD was now).length∧Hp E w (bI b6 now::bI b4 was'::C k),
   fun w=>jn b4 w,⟨0,was,by omega,by omega,?_,?_,h⟩,?_⟩
  ·unfold cD;rw [if_pos hlt];rfl
  ·unfold cD;rw [if_pos hlt]
   have: ∀j,(ga j).length=2*j:=fun j=>by
    induction j with
    |zero=>rfl
    |succ j ih=>rw [hdn,List.length_cons,List.length_cons,ih];omega
   simp [this]
  rintro w ⟨k,was',h3,h4,hd,hkl,h⟩
  refine Ld.xb (x:=(was':Int)) h rfl (Ld.xb (x:=(now:Int)) h rfl (aa.nm (fun hne=> ?_) (fun he=> ?_)))
  ·obtain ⟨j,hj⟩: ∃j,was' - now=j+1:=⟨was' - now - 1,by omega⟩
   rw [hj,hdn] at hd
   have hd2:(cD was now).drop (k+1)=1::(ga j++ [0]):=by rw [←List.drop_drop,hd];rfl
   have hd3:(cD was now).drop (k+2)=ga j++ [0]:=by rw [show k+2=(k+1)+1 by omega,←List.drop_drop,hd2];rfl
   refine one k 1 _ was' w _ hd h (fun w1 h1=> ?_) (fun w1 hk1 h1=>aa.t rfl (hKG k w1 hk1 h1))
   refine aa.f rfl ?_
   refine one (k+1) 1 _ was' w1 _ hd2 h1 (fun w2 h2=> ?_) (fun w2 hk2 h2=>aa.t rfl (hKG (k+1) w2 hk2 h2))
   refine aa.f rfl ?_
   refine Ld.xb (x:=(was':Int)) h2 rfl ?_
   rw [ag (x:=(2:Int)*1) (by omega),ag (x:=(1:Int) - 2*1) (by omega),ag (by omega)]
   refine St.xb h2 (by simp) rfl fun w3 h3'=> ?_
   rw [show (was':Int)+(1 - 2*1)=((was' - 1:Nat):Int) by omega] at h3'
   have h3':Hp E w3 (bI b6 now::bI b4 (was' - 1)::C (k+2)):=h3'
   refine ⟨rfl,⟨k+2,was' - 1,by omega,by omega,?_,by omega,h3'⟩,?_⟩
   ·rw [hd3,show was' - 1 - now=j by omega]
   ·show jn b4 w3<jn b4 w
    rw [kb (v:=((was' - 1:Nat):Int)) h3' rfl,kb (v:=(was':Int)) h rfl]
    omega
  ·have e:was' - now=0:=by omega
   rw [e] at hd
   exact last k was' w hd h
 ·refine ⟨fun w=> ∃k was':Nat,was'≤now∧was≤was'∧(cD was now).drop k=nz (now - was')++ [0]∧k+2*(now - was')+1=(cD was now).length∧Hp E w (bI b6 now::bI b4 was'::C k),
   fun w=>255 - jn b4 w,⟨0,was,by omega,by omega,?_,?_,h⟩,?_⟩
  ·unfold cD;rw [if_neg (by omega)];rfl
  ·unfold cD;rw [if_neg (by omega)]
   have: ∀j,(nz j).length=2*j:=fun j=>by
    induction j with
    |zero=>rfl
    |succ j ih=>rw [hup,List.length_cons,List.length_cons,ih];omega
   simp [this]
  rintro w ⟨k,was',h3,h4,hd,hkl,h⟩
  refine Ld.xb (x:=(was':Int)) h rfl (Ld.xb (x:=(now:Int)) h rfl (aa.nm (fun hne=> ?_) (fun he=> ?_)))
  ·obtain ⟨j,hj⟩: ∃j,now - was'=j+1:=⟨now - was' - 1,by omega⟩
   rw [hj,hup] at hd
   have hd2:(cD was now).drop (k+1)=0::(nz j++ [0]):=by rw [←List.drop_drop,hd];rfl
   have hd3:(cD was now).drop (k+2)=nz j++ [0]:=by rw [show k+2=(k+1)+1 by omega,←List.drop_drop,hd2];rfl
   refine one k 1 _ was' w _ hd h (fun w1 h1=> ?_) (fun w1 hk1 h1=>aa.t rfl (hKG k w1 hk1 h1))
   refine aa.f rfl ?_
   refine one (k+1) 0 _ was' w1 _ hd2 h1 (fun w2 h2=> ?_) (fun w2 hk2 h2=>aa.t rfl (hKG (k+1) w2 hk2 h2))
   refine aa.f rfl ?_
   refine Ld.xb (x:=(was':Int)) h2 rfl ?_
   rw [ag (x:=(2:Int)*0) (by omega),ag (x:=(1:Int) - 2*0) (by omega),ag (by omega)]
   refine St.xb h2 (by simp) rfl fun w3 h3'=> ?_
   rw [show (was':Int)+(1 - 2*0)=((was'+1:Nat):Int) by omega] at h3'
   have h3':Hp E w3 (bI b6 now::bI b4 (was'+1)::C (k+2)):=h3'
   refine ⟨rfl,⟨k+2,was'+1,by omega,by omega,?_,by omega,h3'⟩,?_⟩
   ·rw [hd3,show now - (was'+1)=j by omega]
   ·show 255 - jn b4 w3<255 - jn b4 w
    rw [kb (v:=((was'+1:Nat):Int)) h3' rfl,kb (v:=(was':Int)) h rfl]
    omega
  ·have e:now - was'=0:=by omega
   rw [e] at hd
   exact last k was' w hd h
theorem vW: ∀(m:List Nat) (was n:Nat),cZ was (m++ [n])=cZ was m++cD (m.getLastD was) n
 | [],was,n=>by simp [cZ]
 |x::m,was,n=>by
  rw [List.cons_append,cZ,cZ,vW m x n,List.append_assoc]
  congr 2
  cases m<;>rfl
theorem BC {a b:Nat} (ha:a≤15) (hb:b≤15):(cD a b).length≤31:=by
 have hd: ∀j,(ga j).length=2*j:=fun j=>by
  induction j with
  |zero=>rfl
  |succ j ih=>rw [show ga (j+1)=1::1::ga j from rfl,List.length_cons,List.length_cons,ih];omega
 have hu: ∀j,(nz j).length=2*j:=fun j=>by
  induction j with
  |zero=>rfl
  |succ j ih=>rw [show nz (j+1)=1::0::nz j from rfl,List.length_cons,List.length_cons,ih];omega
 unfold cD
 rw [List.length_append,List.length_singleton]
 split
 ·rw [hd];omega
 ·rw [hu];omega
theorem sq: ∀(m:List Nat) (was:Nat),was≤15→(∀x∈m,x≤15)→(cZ was m).length≤31*m.length
 | [],_,_,_=>by simp [cZ]
 |x::m,was,h,hm=>by
  have h1:=hm x List.mem_cons_self
  have h2:=BC h h1
  have h3:=sq m x h1 fun y hy=>hm y (List.mem_cons_of_mem _ hy)
  rw [cZ,List.length_append,List.length_cons];omega
theorem Gu {x k:Nat} (hx:x≤15) (hk:k<4):(four x)[k]? =some (x/2^(3 - k) % 2):=by
 match k,hk with
 |0,_=>rfl
 |1,_=>rfl
 |2,_=>rfl
 |3,_=>simp [four]
theorem Kz {l:List Nat} {K:Sl→Int→World→Prop} (h:Hp E w F) (hl:l.length=258) (hbad:cn l=false→∀w',Hp E w' F→K ⟨none,0,0⟩ 2 w')
  (hK:cn l=true→∀s w',Hp E w' (ak 1 s ((ints (eG l)).map vI)::F)→K s 0 w'):Cl Tryz.prog [kS,kI] iN ⟨[.agg (ai .u8 l)]⟩ w K:=by
 refine uW.ok _ _ _ ?_
 (try simp only [ax,au,aq,Nat.zero_add,Nat.add_zero,Nat.reduceAdd,Bool.not_true,Bool.not_false,aQ,aR,Option.isNone])
 have hsz:(ai .u8 l).size=258:=by rw [aM,hl]
 refine Nw.mk h fun b3 w h=>Nw.mk h fun b5 w h=>Ld.xw h hsz (qO h hl fun w h=> ?_)
 by_cases hok:cn l=true
 ·rw [hok]
  refine aa.f rfl ?_
  have h15:=aj.xW hok
  obtain ⟨x,m,rfl⟩: ∃x m,l=x::m:=by
   cases l with
   |nil=>simp at hl
   |cons x m=>exact ⟨x,m,rfl⟩
  have hx15:=h15 x List.mem_cons_self
  refine ⟨by decide,by decide,Ld.xb (x:=(x:Int)) h rfl ?_⟩
  rw [ag (by omega)]
  have h0:Hp E w (fE b5 []::aj b3 (.cells (ai .u8 (x::m)) 36 (0,0))::F):=fE.shut (s:=⟨none,0,0⟩) ((h.bJ 1).p1)
  refine ⟨fun i w=> ∃k:Nat,i=(k:Int)∧k≤4∧Hp E w (fE b5 ((four x).take k)::aj b3 (.cells (ai .u8 (x::m)) 36 (0,0))::F),fun i _=>4 - i.toNat,⟨0,rfl,by omega,h0⟩,?_⟩
  rintro i w ⟨k,rfl,hk,h⟩
  refine aa.dm (fun hlt=> ?_) (fun hge=> ?_)
  ·have hlt:k<4:=by omega
   refine ao.mk h fun w h=> ?_
   have ebit:bl .i64 (aF .i64 (x:Int) (i64 (3 - (k:Int)))) 1=((x/2^(3 - k) % 2:Nat):Int):=by
    have hmx:IntKind.max .i64=9223372036854775807:=rfl
    have hd:x/2^(3 - k)≤x:=Nat.div_le_self _ _
    rw [ag (by omega),show (3:Int) - (k:Int)=((3 - k:Nat):Int) by omega,bG (by have:IntKind.bits .i64=64:=rfl;omega),show (1:Int)=((1:Nat):Int) from rfl,eI (by omega) (by omega),Nat.and_one_is_mod]
   rw [ebit]
   have e4:(four x).take k++ [x/2^(3 - k) % 2]=(four x).take (k+1):=by rw [List.take_add_one,Gu hx15 hlt];rfl
   have hl4:((four x).take k).length≤1000000:=by rw [List.length_take];simp [four];omega
   rw [ag (x:=(3:Int) - (k:Int)) (by omega),ag (x:=(k:Int)+1) (by omega)]
   have fin: ∀w',Hp E w' (fE b5 ((four x).take k++ [x/2^(3 - k) % 2])::aj b3 (.cells (ai .u8 (x::m)) 36 (0,0))::F)→True∧(∃k':Nat,(k:Int)+1=(k':Int)∧k'≤4∧Hp E w' (fE b5 ((four x).take k')::aj b3 (.cells (ai .u8 (x::m)) 36 (0,0))::F))∧4 - ((k:Int)+1).toNat<4 - ((k:Int)).toNat:=fun w' h=>by
    rw [e4] at h
    exact ⟨trivial,⟨k+1,by omega,by omega,h⟩,by omega⟩
   obtain ⟨s,_,h⟩:=h.ex
   have h:Hp E w (aj b5 (.cells ⟨[lB s]⟩ 33 (0,0))::ak 1 s ((ints ((four x).take k)).map vI)::aj b3 (.cells (ai .u8 (x::m)) 36 (0,0))::F):=h
   refine ⟨by omega,?_,?_⟩
   ·refine Ld.xb (x:=s) h rfl (Nw.mk h fun b20 w h=> ?_)
    exact fE.put (l:= []) h hl4 fin
   ·refine Nw.mk h fun b20 w h=>Ld.xb (x:=s) h rfl ?_
    exact fE.put (l:= []) h hl4 fin
  ·have hk4:k=4:=by omega
   subst hk4
   refine Ld.xw h hsz ?_
   have e0:(four x).take 4=four x++cZ x ((x::m).take 0):=by simp [four,cZ]
   rw [e0] at h
   refine ⟨fun ms was i w=> ∃k:Nat,i=(k:Int)∧k≤258∧was=((((x::m).take k).getLastD x:Nat):Int)∧Hp E w (fE b5 (four x++cZ x ((x::m).take k))::aj b3 (.cells (ai .u8 (x::m)) 36 (0,0))::(ms.map (fun D=>aj D (.deferred (some [])))++F)),
    fun _ i _=>258 - i.toNat,⟨0,rfl,by omega,rfl,h⟩,?_⟩
   rintro ms was i w ⟨k,rfl,hk,rfl,h⟩
   refine aa.dm (fun hlt=> ?_) (fun hge=> ?_)
   ·have hlt:k<258:=by omega
    have hlt2:k<(x::m).length:=by omega
    have hn15:=h15 _ (List.getElem_mem hlt2)
    have hw15:((x::m).take k).getLastD x≤15:=by
     cases hc:((x::m).take k).getLast? with
     |none=>rw [List.getLastD_eq_getLast?,hc];exact hx15
     |some y=>
      rw [List.getLastD_eq_getLast?,hc]
      exact h15 y (List.mem_of_mem_take (List.mem_of_getLast? hc))
    have hk':((x::m).take k++ [(x::m)[k]])=(x::m).take (k+1):=by rw [List.take_add_one,List.getElem?_eq_getElem hlt2];rfl
    have htl:(four x++cZ x ((x::m).take k)).length≤9000:=by
     have:=sq ((x::m).take k) x hx15 fun y hy=>h15 y (List.mem_of_mem_take hy)
     rw [List.length_append,show (four x).length=4 from rfl]
     rw [List.length_take] at this
     omega
    generalize hwas:((x::m).take k).getLastD x=was at hw15 h⊢
    generalize hnow:(x::m)[k]=now at hn15 hk'
    refine ⟨by omega,by omega,(now:Int),by rw [show ((k:Int)).toNat=k by omega,fH hlt2,hnow],?_⟩
    dsimp only
    rw [ag (x:=(now:Int)) (by omega),ag (x:=(k:Int)+1) (by omega)]
    refine pT.ok _ _ _ _ ?_
    refine Nw.mk h fun b4 w h=>Nw.mk h fun b6 w h=> ?_
    have hcl:=BC hw15 hn15
    refine ek.CZ (E:=E) (k:=kI) (x:=fun i=>(((cD was now).getD i 0:Nat):Int)) (n:=(cD was now).length) (fun i=>fE b5 (four x++cZ x ((x::m).take k)++(cD was now).take i)::aj b3 (.cells (ai .u8 (x::m)) 36 (0,0))::(ms.map (fun D=>aj D (.deferred (some [])))++F)) (fun _=> [uD])
     (A:= [bI b6 now,bI b4 was]) ?_ (fun _=>ab.const trivial) (zz (by omega) (by omega)) ?_ ?_ ?_
    ·rw [List.take_zero,List.append_nil];exact h
    ·intro lr rec i A w Kt Kf hi h hKt _
     refine om.mk h fun w h=> ?_
     obtain ⟨s,_,h⟩:=(h.p1).ex
     have h:Hp E w (aj b5 (.cells ⟨[lB s]⟩ 33 (0,0))::ak 1 s ((ints (four x++cZ x ((x::m).take k)++(cD was now).take i)).map vI)::aj lr (rec 1)::aj b3 (.cells (ai .u8 (x::m)) 36 (0,0))::((ms.map (fun D=>aj D (.deferred (some [])))++F)++A)):=h
     refine Ld.xb (x:=s) h rfl (Nw.mk h fun b49 w h=> ?_)
     refine fE.put (l:= []) h (by rw [List.length_append,List.length_take];omega) fun w h=>km.mk h.p1 fun w h=>hKt w ?_
     have e:four x++cZ x ((x::m).take k)++(cD was now).take i++ [(cD was now).getD i 0]=four x++cZ x ((x::m).take k)++(cD was now).take (i+1):=by
      rw [List.append_assoc,List.take_add_one,List.getElem?_eq_getElem hi,List.getD_eq_getElem?_getD,List.getElem?_eq_getElem hi];rfl
     rw [e] at h
     exact h
    ·intro D w h
     rw [List.take_of_length_le (Nat.le_refl _),List.append_assoc,←hwas,←vW,hk'] at h
     refine ⟨⟨k+1,by omega,by omega,?_,?_⟩,by first|omega|(dsimp only;omega)⟩
     ·rw [←hk',List.getLastD_concat]
     ·exact h.q2
    ·intro i D w hi h
     exact (Hp.Ab h).elim
   ·have hk2:k=258:=by omega
    subst hk2
    rw [List.take_of_length_le (by omega)] at h
    obtain ⟨s,_,h⟩:=h.ex
    have h:Hp E w (aj b5 (.cells ⟨[lB s]⟩ 33 (0,0))::ak 1 s ((ints (four x++cZ x (x::m))).map vI)::aj b3 (.cells (ai .u8 (x::m)) 36 (0,0))::(ms.map (fun D=>aj D (.deferred (some [])))++F)):=h
    refine Ld.xb (x:=s) h rfl (St.xs h rfl rfl fun w h=> ?_)
    dsimp only [ah,ae] at h
    refine gm.mk (ms:=ms) (F:=aj b5 (.cells ⟨[lB s]⟩ 33 (0,0))::ak 1 s ((ints (four x++cZ x (x::m))).map vI)::aj b3 (.cells (ai .u8 (x::m)) 36 (0,0))::F) (h.perm (List.perm_append_comm_assoc [_,_,_] _ _)) fun w h=>Ld.xb (x:=s) h rfl (hK hok s w ?_)
    exact h.drop.eA
 ·rw [show cn l=false by simpa using hok]
  refine aa.t rfl (St.xs h rfl rfl fun w h=> ?_)
  dsimp only [ah,ae] at h
  exact Ld.xb (x:=⟨none,0,0⟩) h rfl (hbad (by simpa using hok) w h.tl)
theorem ju {l:List Nat} (hl:l.length=258) (hok:cn l=true):(eG l).length≤9000:=by
 have h15:=aj.xW hok
 have hh:l.headD 0≤15:=by
  cases l with
  |nil=>simp at hl
  |cons x l=>exact h15 x List.mem_cons_self
 have:=sq l (l.headD 0) hh h15
 unfold eG
 rw [List.length_append,show (four (l.headD 0)).length=4 from rfl]
 omega
theorem Il {l:List Nat} {b:Nat} {bits:List Nat} {K:Int→World→Prop} (h:Hp E w (Wr b bits::F)) (hl:l.length=258) (hok:cn l=true) (hbig:bits.length≤1000000)
  (hK: ∀w',Hp E w' (Wr b (bits++eG l)::F)→K 0 w'):Cl Tryz.prog [kI] ib ⟨[.pointer (some ⟨b,0,none⟩),.agg (ai .u8 l)]⟩ w K:=by
 refine tG.ok _ _ _ _ ?_
 have hsz:(ai .u8 l).size=258:=by rw [aM,hl]
 refine Nw.mk h fun b4 w h=>Ld.xw h hsz (Kz h hl (fun hf=>absurd hok (by rw [hf];decide)) fun _ s w h=>aa.f rfl (aa.f rfl ?_))
 have hlen:=(h.aH)
 simp only [ints,List.length_map,Nat.mul_one] at hlen
 have hb:=aj.vH l
 have htl:=ju hl hok
 refine ⟨fun i w=> ∃k:Nat,i=(k:Int)∧k≤(eG l).length∧Hp E w (ak 1 s ((ints (eG l)).map vI)::Wr b (bits++(eG l).take k)::F),fun i _=>(eG l).length - i.toNat,⟨0,rfl,by omega,by rw [List.take_zero,List.append_nil];exact h.no 1⟩,?_⟩
 rintro i w ⟨k,rfl,hk,h⟩
 refine aa.dm (fun hlt=> ?_) (fun hge=> ?_)
 ·have hlt:k<(eG l).length:=by omega
  have hx:=hb _ (List.getElem_mem hlt)
  refine ar.rd (h.al ab.own) (by omega) (by omega) fun q hi hq=> ?_
  refine Ld.sc (s:= .int .i64) ((eG l)[k]:Int) (by rw [hq];simp [Sc.enc,vI,ints]) ?_
  rw [kK (by omega)]
  refine DU (width:=1) h.p1 (by decide) (by omega) (by omega) (by rw [List.length_append,List.length_take,av];omega) fun w h=> ?_
  rw [ag (by omega)]
  refine ⟨⟨k+1,rfl,by omega,?_⟩,by first|omega|(dsimp only;omega)⟩
  have e:bits++(eG l).take k++bn 1 (eG l)[k]=bits++(eG l).take (k+1):=by
   rw [List.append_assoc,List.take_add_one,List.getElem?_eq_getElem hlt]
   congr 2
   generalize (eG l)[k]=x at hx
   have:x=0∨x=1:=by omega
   rcases this with rfl|rfl<;>rfl
  rw [e] at h
  exact h.p1
 ·have hk2:k=(eG l).length:=by omega
  subst hk2
  rw [List.take_of_length_le (Nat.le_refl _)] at h
  exact hK w h.drop
end
end Go.Proofs.YtcdpblipagajiaaGreat
namespace Go.Proofs.YtcdpblipagajiaaGreat
open Go Go.Vc
set_option maxRecDepth 100000
theorem wD.ok (a:(Option Addr)) (b:(Array Value)) (c:Sl) (R:Int→World→Prop) w (h:
 Nw 36 b w fun e d=>
 Ld (.arr 258) ⟨e,0,none⟩ d fun f=>
 Cl Pg [kI,kI] iW ⟨[(.agg f),(an c)]⟩ d fun (h:Int) (i:Int) g=>
 bo (fun (k:World)=>
 Ld (.arr 258) ⟨e,0,none⟩ k fun l=>
 Cl Pg [(.arr 258),kI] hC ⟨[(.agg l)]⟩ k fun n (o:Int) m=>
 Nw 101 ⟨List.replicate 258 (.int .u32 0)⟩ m fun q p=>
 aw 258 ⟨q,0,none⟩ n p fun r=>
 dN 0 r fun s t (u:Int) v=>
 aa (decide (u<(c.len:Int)))
 (ar c u 1 fun x=>
 Ld kI x v fun (y:Int)=>
 ao v fun z=>
 aI ⟨q,0,none⟩ 258 y 1 fun a1=>
 Ld (aL .u32) a1 z fun (b1:Int)=>
 aI ⟨e,0,none⟩ 258 y 1 fun c1=>
 Ld (aL .u8) c1 z fun (d1:Int)=>
 Cl Pg [kB] cR ⟨[(.pointer a),(.int .u32 b1),(ni (i64 d1))]⟩ z fun (f1:Bool) e1=>
 s (i64 (u+1)) e1∧t (i64 (u+1)) e1<t u v)
 (R 0 v)) fun j=>
 aa (Option.isNone (a:Option Addr))
 (R 2 g)
 (aa (i !=0)
 (R 2 g)
 (j g))):Cl Pg [kI] jH ⟨[(.pointer a),(.agg b),(an c)]⟩ w R:=co Tryz.f48 [(4,[]),(14,[(32,kI)])] h
theorem uY.ok (a:(Array Value)) (b:Sl) (R:Int→Int→World→Prop) w (h:
 Nw 36 a w fun d c=>
 Ld (.arr 258) ⟨d,0,none⟩ c fun e=>
 Cl Pg [kB] dr ⟨[(.agg e)]⟩ c fun (g:Bool) f=>
 aa (!g)
 (R 0 2 f)
 (db 0 0 f fun h i (j:Int) (k:Int) l=>
 aa (decide (k<(b.len:Int)))
 (ar b k 1 fun m=>
 Ld kI m l fun (n:Int)=>
 aa (decide (n<0))
 (R 0 2 l)
 (aa (decide (n≥258))
 (R 0 2 l)
 (aI ⟨d,0,none⟩ 258 n 1 fun o=>
 Ld (aL .u8) o l fun (p:Int)=>
 aa (p==0)
 (R 0 2 l)
 (aI ⟨d,0,none⟩ 258 n 1 fun q=>
 Ld (aL .u8) q l fun (r:Int)=>
 h (i64 (j+(i64 r))) (i64 (k+1)) l∧i (i64 (j+(i64 r))) (i64 (k+1)) l<i j k l))))
 (R j 0 l))):Cl Pg [kI,kI] iW ⟨[(.agg a),(an b)]⟩ w R:=co Tryz.f96 [(10,[(4,kI),(13,kI)])] h
end Go.Proofs.YtcdpblipagajiaaGreat
set_option maxRecDepth 20000
namespace Go.Proofs.YtcdpblipagajiaaGreat
open Go Go.Vc Go.Srt
section
variable {E w:World} {F:List HP}
set_option maxRecDepth 20000 in
theorem HZ {l:List Nat} {K:Array Value→Int→World→Prop} (h:Hp E w F) (hl:l.length=258) (hK1: ¬aV l≤32768→∀w',Hp E w' F→K (ai .u32 (List.replicate 258 0)) 2 w')
  (hK2:aV l≤32768→∀ys w',bD l ys→Hp E w' F→K (ai .u32 (c6 l ys ys.length)) 0 w'):Cl Tryz.prog [.arr 258,kI] hC ⟨[.agg (ai .u8 l)]⟩ w K:=by
 refine sW.ok _ _ _ ?_
 rw [uh]
 refine Nw.mk h fun b3 w1 h1=>Nw.mk h1 fun b5 w2 h2=>Ld.arr h2.p1 (by rw [aM,hl]) (sf h2 hl fun w3 h3=> ?_)
 refine aa.mk (fun hv=> ?_) (fun hv=> ?_)
 ·have hv: ¬aV l≤32768:=by simpa using hv
  refine Ld.arr h3 (by rw [aM];simp) (aw.aC h3 (by rw [aM];simp) (by rw [aM];simp) fe fun w4 h4=>Ld.arr h4 (by rw [aM];simp) (hK1 hv w4 h4.drop.drop))
 ·have hv:aV l≤32768:=by simpa using hv
  refine Ld.arr h3.p1 (by rw [aM,hl]) (HM h3 hl (fun hn=>absurd hv hn) fun _ ys s w4 hys h4=> ?_)
  have hpl:=h4.aH
  simp only [ints,List.length_map,Nat.mul_one] at hpl
  have hin: ∀s∈ys,s<258∧0<l.getD s 0:=fun s hs=>by
   have:=dH.1 (hys.1.mem_iff.1 hs)
   rw [hl] at this;exact this
  have hlen:ys.length≤258:=by
   rw [hys.1.length_eq,←hl]
   have:=List.length_filter_le (fun s=>decide (0<l.getD s 0)) (List.range l.length)
   simpa [used] using this
  refine ⟨fun nx la i w'=> ∃k n a:Nat,i=(k:Int)∧nx=(n:Int)∧la=(a:Int)∧k≤ys.length∧n*2^(15 - a)=Srt.start l ys k∧a≤15∧(∀j (hj:j<ys.length),k≤j→a≤l.getD ys[j] 0)∧
    Hp E w' (ak 1 s ((ints ys).map vI)::aj b5 (.cells (ai .u32 (c6 l ys k)) 101 (0,0))::aj b3 (.cells (ai .u8 l) 36 (0,0))::F),
   fun _ _ i _=>ys.length - i.toNat,⟨0,0,0,rfl,rfl,rfl,by omega,by simp [Srt.start],by omega,fun j hj _=>Nat.zero_le _,h4⟩,?_⟩
  intro nx la i w' hI
  obtain ⟨k,n,a,hi,hn,ha,hk,hst,ha15,hmono,hh⟩:=hI
  subst hi;subst hn;subst ha
  refine aa.mk (fun hlt=> ?_) (fun hge=> ?_)
  ·have hlt:k<ys.length:=by have:=of_decide_eq_true hlt;omega
   have hin2:=hin _ (List.getElem_mem hlt)
   have hyl:ys[k]<l.length:=by omega
   have hg:l.getD ys[k] 0=l[ys[k]]:=by rw [List.getD_eq_getElem?_getD,List.getElem?_eq_getElem hyl];rfl
   refine zN hh (by omega) (x:=(ys[k]:Int)) (by simp [ints,hlt]) ?_
   refine aI.rd (s:= .int .u8) hh.p2 (by omega) (by omega) (l[ys[k]]:Int) (by rw [Int.toNat_natCast];exact fH hyl) ?_
   have ha:=hmono k hlt (Nat.le_refl _)
   have h15:=gb hv ys[k]
   rw [hg] at ha h15 hin2
   rw [oY (by omega)]
   refine ⟨by omega,?_⟩
   have hd:Hp E {w' with drawn:=w'.drawn+1} _:=hh.drew
   refine ⟨fun w'=> ∃cs,Hp E w' (ak 1 s ((ints ys).map vI)::aj b5 (.cells cs 101 (0,0))::aj b3 (.cells (ai .u8 l) 36 (0,0))::F),⟨_,hd⟩,by omega,by omega,(l[ys[k]]:Int),?_,?_⟩
   ·rintro w2 ⟨cs,h2⟩
    rw [aq,h2.p2.cell,Int.toNat_natCast,Nat.zero_add,Nat.mul_one]
    exact fH hyl
   ·have hsk:=oR (l:=l) hlt
    have hcm:=oT hys hlt
    have hcl:=DQ hv hys hlt
    have hp15:2^l.getD ys[k] 0≤2^15:=Nat.pow_le_pow_right (by decide) (gb hv _)
    have hcode:n*2^(l[ys[k]] - a)=fI l ys k:=by
     have h1:n*2^(l[ys[k]] - a)*sh l ys[k]=fI l ys k*sh l ys[k]:=by
      rw [hcm,←hst]
      unfold sh
      rw [hg,Nat.mul_assoc,←Nat.pow_add]
      congr 2;omega
     exact Nat.eq_of_mul_eq_mul_right (zx l ys[k]) h1
    have e1:a8 .u32 (n:Int) ((l[ys[k]]:Int) - (a:Int))=(fI l ys k:Int):=by
     have hmx:IntKind.max .u32=4294967295:=rfl
     have:=dJ (k:= .u32) (a:=n) (b:=l[ys[k]] - a) (by have:IntKind.bits .u32=32:=rfl;omega) (by rw [hmx,hcode];omega)
     rw [hcode] at this
     rw [←this]
     congr 1;omega
    rw [e1]
    refine aI.wr hd.p1 (by omega) (by omega) (by rw [aM,cS]) rfl fun w3 h3=> ?_
    rw [Int.toNat_natCast,xJ] at h3
    refine ⟨⟨_,h3.p1⟩,?_⟩
    rw [kK (by omega),ag (by omega)]
    refine ⟨⟨k+1,fI l ys k+1,l[ys[k]],rfl,rfl,rfl,by omega,?_,h15,fun j hj hkj=> ?_,?_⟩,by dsimp only;omega⟩
    ·rw [hsk,←hcm]
     unfold sh
     rw [hg,Nat.succ_mul]
    ·rw [←hg];exact Bt hys hj (by omega)
    ·have:c6 l ys (k+1)=(c6 l ys k).set ys[k] (fI l ys k):=by rw [c6,q5 hlt]
     rw [this];exact h3.p1
  ·have hge:k=ys.length:=by have:=of_decide_eq_false hge;omega
   subst hge
   refine Ld.arr hh.p1 (by rw [aM,cS]) (aw.aC hh.p1 (by rw [aM,cS]) (by rw [aM,cS]) fe fun w5 h5=>Ld.arr h5 (by rw [aM,cS]) (hK2 hv ys w5 hys h5.drop.drop.drop))
end
end Go.Proofs.YtcdpblipagajiaaGreat
set_option maxRecDepth 20000
namespace Go.Vc
open Go
set_option linter.unusedSectionVars false
structure nE (P:Program) {α:Type} [DecidableEq α] (kt:TypeId) (ke:α→Value):Prop where
 und: ∃d,P.underlying kt=some d∧∀a b,Instr.sameNow d (ke a) (ke b)=none∨Instr.sameNow d (ke a) (ke b)=some (decide (a=b))
 check: ∀e a w,(Instr.checkKey e 10000 kt (ke a)).run P w= .ok () w
 eq: ∀a b w,(Op.equal kt (ke a) (ke b)).run P w= .ok (decide (a=b)) w
 same: ∀a,Instr.sameBits 10000 (ke a) (ke a)=true
section
variable {P:Program} {α β:Type} [DecidableEq α] {ke:α→Value} {ve:β→Value} {kt:TypeId}
def eC (ke:α→Value) (ve:β→Value) (es:List MapEntry) (l:List (α×β)):Prop:=es.map (fun e=>(e.key,e.val))=l.map fun p=>(ke p.1,ve p.2)
def findAt (a:α):List (α×β)→Nat→Option (Nat×β)
 | [],_=>none
 |p::l,i=>if a=p.1 then some (i,p.2) else findAt a l (i+1)
theorem nj {e:MapEntry} {es:List MapEntry} {l:List (α×β)} (h:eC ke ve (e::es) l): ∃p l',l=p::l'∧e.key=ke p.1∧e.val=ve p.2∧eC ke ve es l':=by
 unfold eC at h
 cases l with
 |nil=>simp at h
 |cons p l'=>
  simp only [List.map_cons,List.cons.injEq,Prod.mk.injEq] at h
  exact ⟨p,l',rfl,h.1.1,h.1.2,h.2⟩
theorem s9 (hk:nE P kt ke) (a:α) (w:World): ∀(es:List MapEntry) (l:List (α×β)) (i:Nat),eC ke ve es l→(Instr.findAsking kt (ke a) es i).run P w= .ok ((findAt a l i).map fun q=>(q.1,ve q.2)) w
 | [],l,i,h=>by
  have:l= []:=by unfold eC at h;cases l<;>simp at h⊢
  subst this
  simp [Instr.findAsking,findAt]
 |e::es,l,i,h=>by
  obtain ⟨p,l',rfl,h1,h2,h3⟩:=nj h
  simp only [Instr.findAsking,Sem.run_bind,h1,hk.eq,Result.andThen_ok,findAt]
  by_cases hq:a=p.1
  ·simp [hq,h2]
  ·simp [hq,s9 hk a w es l' (i+1) h3]
theorem Dy {d:TypeDesc} (hd: ∀a b,Instr.sameNow d (ke a) (ke b)=none∨Instr.sameNow d (ke a) (ke b)=some (decide (a=b))) (a:α): ∀(es:List MapEntry) (l:List (α×β)) (i:Nat),eC ke ve es l→
  Instr.findNow d (ke a) es i=none∨Instr.findNow d (ke a) es i=some ((findAt a l i).map fun q=>(q.1,ve q.2))
 | [],l,i,h=>by
  have:l= []:=by unfold eC at h;cases l<;>simp at h⊢
  subst this
  exact .inr rfl
 |e::es,l,i,h=>by
  obtain ⟨p,l',rfl,h1,h2,h3⟩:=nj h
  unfold Instr.findNow
  rw [h1]
  rcases hd a p.1 with h0|h0
  ·rw [h0];exact .inl rfl
  ·rw [h0]
   by_cases hq:a=p.1
   ·right;simp [findAt,hq,h2]
   ·simp only [hq,decide_false,findAt,if_false]
    exact Dy hd a es l' (i+1) h3
theorem nW (hk:nE P kt ke) (a:α) (w:World) (es:List MapEntry) (l:List (α×β)) (h:eC ke ve es l):(Instr.findKey kt (ke a) es).run P w= .ok ((findAt a l 0).map fun q=>(q.1,ve q.2)) w:=by
 obtain ⟨d,hu,hd⟩:=hk.und
 simp only [Instr.findKey,Sem.run_bind,run_underlying hu,Result.andThen_ok]
 rcases Dy (ve:=ve) hd a es l 0 h with h0|h0
 ·rw [h0];exact s9 hk a w es l 0 h
 ·rw [h0];rfl
def iD (a:α) (b:β):List (α×β)→List (α×β)
 | []=> [(a,b)]
 |p::l=>if a=p.1 then (a,b)::l else p::iD a b l
theorem qa {a:α}: ∀{l:List (α×β)} {i j:Nat} {v:β},findAt a l i=some (j,v)→i≤j
 | [],i,j,v,h=>by simp [findAt] at h
 |p::l,i,j,v,h=>by
  unfold findAt at h
  split at h
  ·simp at h;omega
  ·have:=qa h;omega
theorem xA {a:α} {b:β} {f:MapEntry→MapEntry} (hf: ∀e,e.key=ke a→(f e).key=ke a∧(f e).val=ve b): ∀{es:List MapEntry} {l:List (α×β)} {i j:Nat} {v:β},eC ke ve es l→findAt a l i=some (i+j,v)→
  eC ke ve (es.modify j f) (iD a b l)
 | [],l,i,j,v,h,hf2=>by
  have:l= []:=by unfold eC at h;cases l<;>simp at h⊢
  subst this
  simp [findAt] at hf2
 |e::es,l,i,j,v,h,hf2=>by
  obtain ⟨p,l',rfl,h1,h2,h3⟩:=nj h
  unfold findAt at hf2
  unfold iD
  by_cases hq:a=p.1
  ·rw [if_pos hq] at hf2⊢
   have:j=0:=by simp at hf2;omega
   subst this
   obtain ⟨q1,q2⟩:=hf e (by rw [h1,hq])
   unfold eC at h3⊢
   simp [List.modify,q1,q2,h3]
  ·rw [if_neg hq] at hf2⊢
   have hge:=qa hf2
   obtain ⟨j,rfl⟩: ∃j',j=j'+1:=⟨j - 1,by omega⟩
   have ih:=xA (f:=f) hf (i:=i+1) (j:=j) (v:=v) h3 (by rw [hf2];congr 2;omega)
   unfold eC at ih⊢
   simp only [List.modify_succ_cons,List.map_cons,ih,h1,h2]
theorem zY {a:α}: ∀{es:List MapEntry} {l:List (α×β)} {i j:Nat} {v:β},eC ke ve es l→findAt a l i=some (i+j,v)→∃e,es[j]? =some e∧e.key=ke a
 | [],l,i,j,v,h,hf2=>by
  have:l= []:=by unfold eC at h;cases l<;>simp at h⊢
  subst this
  simp [findAt] at hf2
 |e::es,l,i,j,v,h,hf2=>by
  obtain ⟨p,l',rfl,h1,h2,h3⟩:=nj h
  unfold findAt at hf2
  by_cases hq:a=p.1
  ·rw [if_pos hq] at hf2
   have:j=0:=by simp at hf2;omega
   subst this
   exact ⟨e,rfl,by rw [h1,hq]⟩
  ·rw [if_neg hq] at hf2
   have hge:=qa hf2
   obtain ⟨j,rfl⟩: ∃j',j=j'+1:=⟨j - 1,by omega⟩
   obtain ⟨e',h4,h5⟩:=zY (i:=i+1) (j:=j) (v:=v) h3 (by rw [hf2];congr 2;omega)
   exact ⟨e',by simpa using h4,h5⟩
theorem qG {a:α} {b:β}: ∀{l:List (α×β)} {i:Nat},findAt a l i=none→iD a b l=l++ [(a,b)]
 | [],_,_=>rfl
 |p::l,i,h=>by
  unfold findAt at h
  unfold iD
  by_cases hq:a=p.1
  ·rw [if_pos hq] at h;cases h
  ·rw [if_neg hq] at h⊢
   rw [qG h];rfl
end
def kd {α β:Type} (ke:α→Value) (ve:β→Value) (m:Option Nat) (l:List (α×β)):HP:=fun f=> ∃b es clock,m=some b∧eC ke ve es.toList l∧f=aJ.one b (.map es clock)
section
variable {P:Program} {α β:Type} [DecidableEq α] {ke:α→Value} {ve:β→Value} {kt vt t:TypeId} {E w:World} {F:List HP} {m:Option Nat} {l:List (α×β)}
theorem Hp.ra (h:Hp E w (kd ke ve m l::F)): ∃b es clock,m=some b∧eC ke ve es.toList l∧Hp E w (aj b (.map es clock)::F):=by
 obtain ⟨f,a,g,k,hd,e,⟨b,es,clock,h1,h2,h3⟩,h4⟩:=h.frag
 exact ⟨b,es,clock,h1,h2,h.os,h.output,h.tape,f,a,g,k,hd,e,h3,h4⟩
theorem Hp.B3 {b clock:Nat} {es:Array MapEntry} (h:Hp E w (aj b (.map es clock)::F)) (he:eC ke ve es.toList l):Hp E w (kd ke ve (some b) l::F):=
 h.Gj fun _ hf=>⟨b,es,clock,rfl,he,hf⟩
theorem run_makeMap {K:Option Nat→World→Prop} (h:Hp E w F) (hK: ∀m w',Hp E w' (kd ke ve m []::F)→K m w'):aD P (Instr.makeMap t none) kM w K:=by
 unfold aD
 have e:(Instr.makeMap t none).run P w= .ok (.map (some w.heap.size)) (w.alloc (.map #[] 0)):=rfl
 rw [e]
 exact hK _ _ (Hp.B3 (h.alloc _) rfl)
theorem ed (hk:nE P kt ke) (hu:P.underlying t=some (.map kt vt)) {a:α} {b:β} {K:Value→World→Prop} (h:Hp E w (kd ke ve m l::F)) (hK: ∀w',Hp E w' (kd ke ve m (iD a b l)::F)→K undef w'):
  aD P (do Instr.mapUpdate t (.map m) (ke a) (ve b);pure undef) kV w K:=by
 obtain ⟨r,es,clock,rfl,he,hB⟩:=h.ra
 have hb:=hB.aC
 have hfk:=nW (ve:=ve) hk a w es.toList l he
 have key: ∀es' clock',(do Instr.mapUpdate t (.map (some r)) (ke a) (ve b);pure undef:Sem Value).run P w= .ok undef {w with heap:=w.heap.setIfInBounds r (.map es' clock')}→eC ke ve es'.toList (iD a b l)→
   aD P (do Instr.mapUpdate t (.map (some r)) (ke a) (ve b);pure undef) kV w K:=by
  intro es' clock' h1 h2
  unfold aD
  rw [h1]
  exact hK _ (Hp.B3 (hB.setObj rfl rfl rfl rfl) h2)
 cases hf:findAt a l 0 with
 |none=>
  rw [hf] at hfk
  refine key (es.push ⟨ke a,ve b,clock⟩) (clock+1) ?_ ?_
  ·simp [Instr.mapUpdate,run_underlying hu,MapKept.run_getObj_map hb,hk.check,hfk,MapKept.run_setObj_map _ hb]
  ·rw [qG hf]
   unfold eC at he⊢
   simp [he]
 |some q=>
  obtain ⟨j,v⟩:=q
  rw [hf] at hfk
  have hfk':(Instr.findKey kt (ke a) es.toList).run P w= .ok (some (j,ve v)) w:=hfk
  have hkey:((es[j]?).map (·.key)).getD (ke a)=ke a:=by
   obtain ⟨e,he1,he2⟩:=zY (ke:=ke) (ve:=ve) he (i:=0) (j:=j) (v:=v) (by simpa using hf)
   have:es[j]? =some e:=by simpa using he1
   rw [this];exact he2
  refine key (es.modify j fun e=>{e with key:=ke a,val:=ve b}) clock ?_ ?_
  ·simp [Instr.mapUpdate,run_underlying hu,MapKept.run_getObj_map hb,hk.check,hfk',hkey,Instr.keyThatStays,hk.same,MapKept.run_setObj_map _ hb]
  ·rw [Array.toList_modify]
   exact xA (ke:=ke) (ve:=ve) (a:=a) (b:=b) (fun e _=>⟨rfl,rfl⟩) he (i:=0) (j:=j) (v:=v) (by simpa using hf)
theorem C8 (hk:nE P kt ke) (hu:P.underlying t=some (.map kt vt)) {a:α} {z:Value} (hz: ∀w,(zeroValue vt).run P w= .ok z w) (h:Hp E w (kd ke ve m l::F)):
  (Instr.lookup t (.map m) (ke a) true).run P w= .ok (.tuple #[(match findAt a l 0 with|some q=>ve q.2|none=>z),.bool (findAt a l 0).isSome]) w:=by
 obtain ⟨r,es,clock,rfl,he,hB⟩:=h.ra
 have hb:=hB.aC
 have hfk:=nW (ve:=ve) hk a w es.toList l he
 cases hf:findAt a l 0 with
 |none=>
  rw [hf] at hfk
  simp [Instr.lookup,run_underlying hu,MapKept.run_getObj_map hb,hk.check,hfk,hz]
 |some q=>
  rw [hf] at hfk
  simp [Instr.lookup,run_underlying hu,MapKept.run_getObj_map hb,hk.check,hfk]
end
end Go.Vc
set_option maxRecDepth 20000
namespace Go.Proofs.YtcdpblipagajiaaGreat
open Go Go.Vc Go.Srt
theorem Jn {l ys:List Nat} (hl:l.length=258) (h:bD l ys): ∀s∈ys,s<258∧0<l.getD s 0:=fun s hs=>by
 have:=dH.1 (h.1.mem_iff.1 hs)
 rw [hl] at this;exact this
theorem Jt {l ys:List Nat} (hl:l.length=258) (h:bD l ys):ys.length≤258:=by
 rw [h.1.length_eq,←hl]
 have:=List.length_filter_le (fun s=>decide (0<l.getD s 0)) (List.range l.length)
 simpa [used] using this
theorem Fy {l ys zs:List Nat} (h:bD l ys) (h2:bD l zs):ys=zs:=by
 refine List.Perm.eq_of_pairwise (le:=fun a b=>l.getD a 0<l.getD b 0∨(l.getD a 0=l.getD b 0∧a<b)) ?_ h.2 h2.2 (h.1.trans h2.1.symm)
 intro a b _ _ h3 h4
 omega
theorem FE {l:List Nat} {i:Nat} {k:IntKind} (h:i<l.length):(ai k l)[((i:Nat):Int).toNat]? =some (Sc.enc (.int k) (l.getD i 0:Int)):=by
 rw [Int.toNat_natCast,fH h,List.getD_eq_getElem?_getD,List.getElem?_eq_getElem h];rfl
end Go.Proofs.YtcdpblipagajiaaGreat
set_option maxRecDepth 20000
namespace Go.Srt
def kE (l:List Nat) (z:Int):Bool:=decide (0≤z)&&decide (z<258)&&decide (0<l.getD z.toNat 0)
def k6 (l:List Nat) (zs:List Int):Bool:=zs.all (kE l)
def jy (l:List Nat) (zs:List Int):List Nat:=enc l (zs.map Int.toNat)
theorem qu {l:List Nat} {z:Int}:kE l z=true↔0≤z∧z<258∧0<l.getD z.toNat 0:=by simp [kE,and_assoc]
theorem xF {l:List Nat} {zs:List Int} (h:k6 l zs=true) {z:Int} (hz:z∈zs):kE l z=true:=List.all_eq_true.1 h z hz
theorem FT {l:List Nat} {zs:List Int} {k:Nat} (hk:k<zs.length) (h:kE l zs[k]=false):k6 l zs=false:=by
 cases ha:k6 l zs with
 |false=>rfl
 |true=>have:=xF ha (List.getElem_mem hk);rw [h] at this;cases this
theorem vl {zs:List Int} {k:Nat} (hk:k<zs.length):zs.take (k+1)=zs.take k++ [zs[k]]:=by rw [List.take_add_one,List.getElem?_eq_getElem hk];rfl
theorem DI {l:List Nat} {zs:List Int} {k:Nat} (hk:k<zs.length) (h:k6 l (zs.take k)=true) (hg:kE l zs[k]=true):k6 l (zs.take (k+1))=true:=by
 unfold k6 at h⊢
 rw [vl hk,List.all_append,h];simp [hg]
theorem vU {l:List Nat} {zs:List Int} {k:Nat} (hk:k<zs.length):jy l (zs.take (k+1))=jy l (zs.take k)++yw l zs[k].toNat:=by
 unfold jy
 rw [vl hk,List.map_append,HO]
 congr 1
 simp [enc]
theorem zZ (l:List Nat) (s:Nat):(yw l s).length=l.getD s 0:=oh _ _
theorem l7 {l:List Nat} (hv:aV l≤32768): ∀zs:List Int,(jy l zs).length≤15*zs.length
 | []=>by simp [jy,enc]
 |z::zs=>by
  have:=l7 hv zs
  have h15:=gb hv z.toNat
  unfold jy at this⊢
  rw [List.map_cons,zT,List.length_append,zZ,List.length_cons]
  omega
end Go.Srt
namespace Go.Proofs.YtcdpblipagajiaaGreat
open Go Go.Vc Go.Srt Go.Bits
section
variable {E w:World} {F:List HP}
set_option maxRecDepth 20000 in
theorem JL {l:List Nat} {s:Sl} {zs:List Int} {K:Int→Int→World→Prop} (h:Hp E w F) (hl:l.length=258) (hs:ab F (aA 1 s (zs.map vI))) (hn:zs.length≤100000)
  (hK1: ¬(aV l≤32768∧k6 l zs=true)→∀w',Hp E w' F→K 0 2 w') (hK2:aV l≤32768→k6 l zs=true→∀w',Hp E w' F→K ((jy l zs).length:Int) 0 w'):
  Cl Tryz.prog [kI,kI] iW ⟨[.agg (ai .u8 l),.slice s.base s.len s.cap]⟩ w K:=by
 refine uY.ok _ _ _ _ ?_
 have hsl:=(h.al hs).1
 simp only [List.length_map,Nat.mul_one] at hsl
 refine Nw.mk h fun b w1 h1=>Ld.arr h1 (by rw [aM,hl]) (sf h1 hl fun w2 h2=>aa.mk (fun hv=>hK1 (fun hh=>by simp [hh.1] at hv) w2 h2.drop) (fun hv=> ?_))
 have hv:aV l≤32768:=by simpa using hv
 refine ⟨fun n i w'=> ∃k:Nat,i=(k:Int)∧k≤zs.length∧n=((jy l (zs.take k)).length:Int)∧k6 l (zs.take k)=true∧Hp E w' (aj b (.cells (ai .u8 l) 36 (0,0))::F),fun _ i _=>zs.length - i.toNat,⟨0,rfl,by omega,rfl,rfl,h2⟩,?_⟩
 rintro n i w' ⟨k,rfl,hk,rfl,hg,hh⟩
 refine aa.mk (fun hlt=> ?_) (fun hge=> ?_)
 ·have hlt:k<zs.length:=by have:=of_decide_eq_true hlt;omega
  have bad:kE l zs[k]=false→K 0 2 w':=fun hb=>hK1 (fun hh=>by rw [FT hlt hb] at hh;exact absurd hh.2 (by decide)) w' hh.drop
  refine ar.rd (hh.al (ab.cons hs)) (by omega) (by omega) fun q hq hc=>Ld.sc (s:= .int .i64) zs[k] (by rw [hc];simp [vI,Sc.enc]) ?_
  refine aa.mk (fun h0=>bad ?_) (fun h0=>aa.mk (fun h1=>bad ?_) (fun h1=> ?_))
  ·have:=of_decide_eq_true h0
   unfold kE;rw [decide_eq_false (show¬0≤zs[k] by omega)];rfl
  ·have:=of_decide_eq_true h1
   unfold kE;rw [decide_eq_false (show¬zs[k]<258 by omega)];simp
  have h0:=of_decide_eq_false h0
  have h1:=of_decide_eq_false h1
  obtain ⟨m,hm⟩: ∃m:Nat,zs[k]=(m:Int):=⟨zs[k].toNat,by omega⟩
  have hm2:zs[k].toNat=m:=by omega
  rw [hm]
  refine aI.rd (s:= .int .u8) hh (by omega) (by omega) (l.getD m 0:Int) (zy (by omega)) (aa.mk (fun hz=>bad ?_) (fun hz=> ?_))
  ·have:l.getD m 0=0:=by rw [beq_iff_eq] at hz;omega
   unfold kE;rw [hm2,this];simp
  have hz:0<l.getD m 0:=by have:=beq_eq_false_iff_ne.1 hz;omega
  refine aI.rd (s:= .int .u8) hh (by omega) (by omega) (l.getD m 0:Int) (zy (by omega)) ?_
  have h15:=gb hv m
  have hle:=l7 hv (zs.take k)
  rw [List.length_take] at hle
  rw [ag (x:=(l.getD m 0:Int)) (by omega),ag (x:=((jy l (zs.take k)).length:Int)+(l.getD m 0:Int)) (by omega),ag (by omega)]
  refine ⟨⟨k+1,rfl,by omega,?_,DI hlt hg (qu.2 ⟨by omega,by omega,by rw [hm2];exact hz⟩),hh⟩,by dsimp only;omega⟩
  rw [vU hlt,List.length_append,zZ,hm2];omega
 ·have hge:k=zs.length:=by have:=of_decide_eq_false hge;omega
  subst hge
  rw [List.take_length] at hg⊢
  exact hK2 hv hg w' hh.drop
set_option maxRecDepth 20000 in
theorem JR {l:List Nat} {s:Sl} {zs:List Int} {b:Nat} {bits:List Nat} {K:Int→World→Prop} (h:Hp E w (Wr b bits::F)) (hl:l.length=258) (hs:ab F (aA 1 s (zs.map vI))) (hn:zs.length≤100000) (hbig:bits.length≤100000000)
  (hK1: ¬(aV l≤32768∧k6 l zs=true)→∀w',Hp E w' (Wr b bits::F)→K 2 w') (hK2:aV l≤32768→k6 l zs=true→∀w',Hp E w' (Wr b (bits++jy l zs)::F)→K 0 w'):
  Cl Tryz.prog [kI] jH ⟨[.pointer (some ⟨b,0,none⟩),.agg (ai .u8 l),.slice s.base s.len s.cap]⟩ w K:=by
 refine wD.ok _ _ _ _ _ ?_
 simp only [ax]
 have hsl:=(h.al (ab.cons hs)).1
 simp only [List.length_map,Nat.mul_one] at hsl
 rw [uh]
 refine Nw.mk h fun b5 w1 h1=>Ld.arr h1 (by rw [aM,hl]) (JL h1 hl (ab.cons (ab.cons hs)) hn (fun hb w2 h2=> ?_) (fun hv hg w2 h2=> ?_))
 ·exact aa.f rfl (aa.t (by decide) (hK1 hb w2 h2.drop))
 refine aa.f rfl (aa.f (by decide) (Ld.arr h2 (by rw [aM,hl]) (HZ h2 hl (fun hb=>absurd hv hb) fun _ ys w3 hys h3=> ?_)))
 refine Nw.mk h3 fun b17 w4 h4=>aw.aC h4 (by rw [aM];simp) (by rw [aM,cS]) fe fun w5 h5=> ?_
 refine ⟨fun i w'=> ∃k:Nat,i=(k:Int)∧k≤zs.length∧Hp E w' (Wr b (bits++jy l (zs.take k))::aj b17 (.cells (ai .u32 (c6 l ys ys.length)) 101 (0,0))::aj b5 (.cells (ai .u8 l) 36 (0,0))::F),fun i _=>zs.length - i.toNat,⟨0,rfl,by omega,?_⟩,?_⟩
 ·rw [List.take_zero]
  have e:jy l []= []:=rfl
  rw [e,List.append_nil]
  exact h5.p2
 rintro i w' ⟨k,rfl,hk,hh⟩
 refine aa.mk (fun hlt=> ?_) (fun hge=> ?_)
 ·have hlt:k<zs.length:=by have:=of_decide_eq_true hlt;omega
  refine ar.rd (hh.al (ab.cons (ab.cons (ab.cons hs)))) (by omega) (by omega) fun q hq hc=>Ld.sc (s:= .int .i64) zs[k] (by rw [hc];simp [vI,Sc.enc]) ?_
  obtain ⟨g1,g2,g3⟩:=qu.1 (xF hg (List.getElem_mem hlt))
  obtain ⟨m,hm⟩: ∃m:Nat,zs[k]=(m:Int):=⟨zs[k].toNat,by omega⟩
  have hm2:zs[k].toNat=m:=by omega
  rw [hm2] at g3
  rw [hm]
  refine ao.mk hh fun w6 h6=> ?_
  refine aI.rd (s:= .int .u32) h6.p1 (by omega) (by omega) ((c6 l ys ys.length).getD m 0:Int) (zy (by rw [cS];omega)) ?_
  refine aI.rd (s:= .int .u8) h6.p2 (by omega) (by omega) (l.getD m 0:Int) (zy (by omega)) ?_
  have h15:=gb hv m
  rw [ag (x:=(l.getD m 0:Int)) (by omega),CE hl hv hys (by omega) g3,ag (x:=(k:Int)+1) (by omega)]
  have hcl:=BN hl hv (by omega) g3
  have hp:2^l.getD m 0≤2^15:=Nat.pow_le_pow_right (by decide) h15
  have hp2:(2:Nat)^15=32768:=by decide
  have hle:=l7 hv (zs.take k)
  rw [List.length_take] at hle
  refine DU h6 (by omega) hcl (by omega) (by rw [List.length_append,av];omega) fun w7 h7=>⟨⟨k+1,by omega,by omega,?_⟩,by dsimp only;omega⟩
  rw [vU hlt,hm2,←List.append_assoc]
  exact h7
 ·have hge:k=zs.length:=by have:=of_decide_eq_false hge;omega
  subst hge
  rw [List.take_length] at hh
  exact hK2 hv hg w' (hh.p1.drop.p1.drop)
end
end Go.Proofs.YtcdpblipagajiaaGreat
namespace Go.Proofs.YtcdpblipagajiaaGreat
open Go Go.Vc
set_option maxRecDepth 100000
theorem Fx.ok (a:Sl) (b:Int) (R:Sl→Int→World→Prop) w (h:
 bo (fun (d:World)=>
 Cl Pg [kS] mm ⟨[(an a),(ni b)]⟩ d fun (f:Sl) e=>
 aD Pg (Instr.makeSlice 22 (ni (a.len:Int)) (ni (a.len:Int))) kS e fun (h:Sl) g=>
 db 0 (i64 ((a.len:Int) - 1)) g fun i j (k:Int) (l:Int) m=>
 aa (decide (l≥0))
 (Cl Pg [kI,kB] kv ⟨[(an a),(ni b),(ni k)]⟩ m fun (o:Int) (p:Bool) n=>
 aa (!p)
 (R (⟨none,0,0⟩:Sl) 170 n)
 (ar a o 1 fun q=>
 Ld (aL .u8) q n fun (r:Int)=>
 ar h l 1 fun s=>
 St s (.int .u8 r) n fun t=>
 ar f k 1 fun u=>
 Ld kI u t fun (v:Int)=>
 i v (i64 (l - 1)) t∧j v (i64 (l - 1)) t<j k l m))
 (aa (k !=b)
 (R (⟨none,0,0⟩:Sl) 170 m)
 (R h 0 m))) fun c=>
 aa (decide (b<0))
 (R (⟨none,0,0⟩:Sl) 170 w)
 (aa (decide (b>(a.len:Int)))
 (R (⟨none,0,0⟩:Sl) 170 w)
 (aa (b==0)
 (aa (decide ((a.len:Int)>0))
 (R (⟨none,0,0⟩:Sl) 170 w)
 (c w))
 (c w)))):Cl Pg [kS,kI] o4 ⟨[(an a),(ni b)]⟩ w R:=co Tryz.f55 [(4,[]),(16,[(9,kI),(10,kI)])] h
theorem GN.ok (a:Sl) (R:Sl→Int→World→Prop) w (h:
 Cl Pg [kS] nN ⟨[(an a)]⟩ w fun (c:Sl) b=>
 El (⟨none,0,0⟩:Sl) 0 0 b fun d e (f:Sl) (g:Int) (h:Int) i=>
 aa (decide (h<(c.len:Int)))
 (ar c h 1 fun j=>
 Ld kI j i fun (k:Int)=>
 aa (k==0)
 (d f h (i64 (h+1)) i∧e f h (i64 (h+1)) i<e f g h i)
 (ar a (i64 (k - 1)) 1 fun l=>
 Ld (aL .u8) l i fun (m:Int)=>
 Nw 5 ⟨[(.int .u8 m)]⟩ i fun o n=>
 aD Pg (Builtin.append_ #[22,22] 22 ⟨[(an f),(an (⟨some ⟨o,0,none⟩,1,1⟩:Sl))]⟩) kS n fun (q:Sl) p=>
 d q g (i64 (h+1)) p∧e q g (i64 (h+1)) p<e f g h i))
 (R f g i)):Cl Pg [kS,kI] pF ⟨[(an a)]⟩ w R:=co Tryz.f61 [(5,[(2,kS),(3,kI),(9,kI)])] h
theorem Cs.ok (a:Sl) (b:Int) (R:Sl→World→Prop) w (h:
 Nw 212 ⟨List.replicate 257 (ni 0)⟩ w fun d c=>
 dN 0 c fun e f (g:Int) h=>
 aa (decide (g<(a.len:Int)))
 (ar a g 1 fun i=>
 Ld (aL .u8) i h fun (j:Int)=>
 aI ⟨d,0,none⟩ 257 (i64 ((i64 j)+1)) 1 fun k=>
 Ld kI k h fun (l:Int)=>
 aI ⟨d,0,none⟩ 257 (i64 ((i64 j)+1)) 1 fun m=>
 St m (ni (i64 (l+1))) h fun n=>
 e (i64 (g+1)) n∧f (i64 (g+1)) n<f g h)
 (dN 0 h fun o p (q:Int) r=>
 aa (decide (q<256))
 (ao r fun s=>
 aI ⟨d,0,none⟩ 257 (i64 (q+1)) 1 fun t=>
 Ld kI t s fun (u:Int)=>
 aI ⟨d,0,none⟩ 257 q 1 fun v=>
 Ld kI v s fun (x:Int)=>
 aI ⟨d,0,none⟩ 257 (i64 (q+1)) 1 fun y=>
 St y (ni (i64 (u+x))) s fun z=>
 o (i64 (q+1)) z∧p (i64 (q+1)) z<p q r)
 (aD Pg (Instr.makeSlice 33 (ni (i64 ((a.len:Int)+1))) (ni (i64 ((a.len:Int)+1)))) kS r fun (b1:Sl) a1=>
 dN 0 a1 fun c1 d1 (e1:Int) f1=>
 aa (decide (e1<(b1.len:Int)))
 (Cl Pg [kI,kB] kv ⟨[(an a),(ni b),(ni e1)]⟩ f1 fun (h1:Int) (i1:Bool) g1=>
 aa i1
 (ar a h1 1 fun j1=>
 Ld (aL .u8) j1 g1 fun (k1:Int)=>
 aI ⟨d,0,none⟩ 257 k1 1 fun l1=>
 Ld kI l1 g1 fun (m1:Int)=>
 aI ⟨d,0,none⟩ 257 k1 1 fun n1=>
 St n1 (ni (i64 (m1+1))) g1 fun o1=>
 aI ⟨d,0,none⟩ 257 k1 1 fun p1=>
 Ld kI p1 o1 fun (q1:Int)=>
 ar b1 e1 1 fun r1=>
 St r1 (ni q1) o1 fun s1=>
 c1 (i64 (e1+1)) s1∧d1 (i64 (e1+1)) s1<d1 e1 f1)
 (c1 (i64 (e1+1)) g1∧d1 (i64 (e1+1)) g1<d1 e1 f1))
 (R b1 f1)))):Cl Pg [kS] mm ⟨[(an a),(ni b)]⟩ w R:=co Tryz.f106 [(7,[(16,kI)]),(19,[(28,kI)]),(33,[(47,kI)])] h
theorem Ex.ok (a:Sl) (b:Int) (c:Int) (R:Int→Bool→World→Prop) w (h:
 aa (decide (b<0))
 (R 0 false w)
 (aa (decide (b>(a.len:Int)))
 (R 0 false w)
 (aa (decide (c<0))
 (R 0 false w)
 (aa (decide (c>(a.len:Int)))
 (R 0 false w)
 (aa (c==b)
 (R 0 false w)
 (aa (decide (c>b))
 (R (i64 (c - 1)) true w)
 (R c true w))))))):Cl Pg [kI,kB] kv ⟨[(an a),(ni b),(ni c)]⟩ w R:=co Tryz.f107 [] h
theorem Ef.ok (a:Sl) (R:Sl→World→Prop) w (h:
 Cl Pg [kS] nS ⟨[(an a)]⟩ w fun (c:Sl) b=>
 aD Pg (Instr.makeSlice 33 (ni (c.len:Int)) (ni (c.len:Int))) kS b fun (e:Sl) d=>
 dN 0 d fun f g (h:Int) i=>
 aa (decide (h<(c.len:Int)))
 (ar c h 1 fun j=>
 Ld kI j i fun (k:Int)=>
 ar e k 1 fun l=>
 St l (ni h) i fun m=>
 f (i64 (h+1)) m∧g (i64 (h+1)) m<g h i)
 (R e i)):Cl Pg [kS] nN ⟨[(an a)]⟩ w R:=co Tryz.f114 [(9,[(14,kI)])] h
theorem DH.ok (a:Sl) (R:Sl→World→Prop) w (h:
 aD Pg (Instr.makeSlice 237 (ni (i64 ((a.len:Int)+1))) (ni (i64 ((a.len:Int)+1)))) kS w fun (c:Sl) b=>
 dN 0 b fun d e (f:Int) g=>
 aa (decide (f<(a.len:Int)))
 (ar a f 1 fun h=>
 Ld (aL .u8) h g fun (i:Int)=>
 ar c f 2 fun j=>
 St (j.add 0) (ni (i64 ((1:Int)+(i64 i)))) g fun k=>
 d (i64 (f+1)) k∧e (i64 (f+1)) k<e f g)
 (Cl Pg [kS,kI] gw ⟨[(an c)]⟩ g fun (m:Sl) (n:Int) l=>
 El m n 1 l fun o p (q:Sl) (r:Int) (s:Int) t=>
 aa (decide (r<(c.len:Int)))
 (dN 0 t fun u v (x:Int) y=>
 aa (decide (x<(c.len:Int)))
 (ar q x 1 fun z=>
 Ld kI z y fun (a1:Int)=>
 ar c x 2 fun b1=>
 af b1 [(ni a1),(ni (-1))] 0 y fun c1=>
 aa (decide ((i64 (x+s))<(c.len:Int)))
 (ar q (i64 (x+s)) 1 fun d1=>
 Ld kI d1 c1 fun (e1:Int)=>
 ar c x 2 fun f1=>
 St (f1.add 1) (ni e1) c1 fun g1=>
 u (i64 (x+1)) g1∧v (i64 (x+1)) g1<v x y)
 (u (i64 (x+1)) c1∧v (i64 (x+1)) c1<v x y))
 (Cl Pg [kS,kI] gw ⟨[(an c)]⟩ y fun (i1:Sl) (j1:Int) h1=>
 0≤(1:Int)∧
 o i1 j1 (a8 .i64 s (1:Int)) h1∧p i1 j1 (a8 .i64 s (1:Int)) h1<p q r s t))
 (R q t))):Cl Pg [kS] nS ⟨[(an a)]⟩ w R:=co Tryz.f163 [(7,[(16,kI)]),(21,[(6,kS),(7,kI),(8,kI)]),(29,[(42,kI)])] h
theorem CL.ok (a:Sl) (R:Sl→Int→World→Prop) w (h:
 Cl Pg [kS] cf ⟨[(an a)]⟩ w fun (c:Sl) b=>
 Cl Pg [] dg ⟨[(an c),(.func (.func 210) ⟨[]⟩ ⟨[]⟩)]⟩ b fun d=>
 aD Pg (Instr.makeMap 250 none) kM d fun f e=>
 dN 0 e fun g h (i:Int) j=>
 aa (decide (i<(c.len:Int)))
 (ar c i 2 fun k=>
 Ld (.st [.int .i64,.int .i64]) k j fun l=>
 Nw 239 ⟨[(ni 0),(ni 0)]⟩ j fun n m=>
 af ⟨n,0,none⟩ [(ni l.1),(ni l.2.1)] 0 m fun o=>
 Ld (.st [.int .i64,.int .i64]) ⟨n,0,none⟩ o fun p=>
 lq Pg (Instr.lookup 250 (.map f) (.agg ⟨[(ni p.1),(ni p.2.1)]⟩) true) [kI,kB] o fun (r:Int) (s:Bool) q=>
 aa (!s)
 (Ld (.st [.int .i64,.int .i64]) ⟨n,0,none⟩ q fun t=>
 aD Pg (Builtin.len_ #[250] 3 ⟨[(.map f)]⟩) kI q fun (v:Int) u=>
 aD Pg (do Instr.mapUpdate 250 (.map f) (.agg ⟨[(ni t.1),(ni t.2.1)]⟩) (ni v);pure undef) kV u fun _ x=>
 g (i64 (i+1)) x∧h (i64 (i+1)) x<h i j)
 (g (i64 (i+1)) q∧h (i64 (i+1)) q<h i j))
 (db (⟨none,0,0⟩:Sl) 0 j fun y z (a1:Sl) (b1:Int) c1=>
 aa (decide (b1<(a.len:Int)))
 (ar a b1 2 fun d1=>
 Ld (.st [.int .i64,.int .i64]) d1 c1 fun e1=>
 Nw 239 ⟨[(ni 0),(ni 0)]⟩ c1 fun g1 f1=>
 af ⟨g1,0,none⟩ [(ni e1.1),(ni e1.2.1)] 0 f1 fun h1=>
 Ld (.st [.int .i64,.int .i64]) ⟨g1,0,none⟩ h1 fun i1=>
 aD Pg (Instr.lookup 250 (.map f) (.agg ⟨[(ni i1.1),(ni i1.2.1)]⟩) false) kI h1 fun (k1:Int) j1=>
 Nw 3 ⟨[(ni k1)]⟩ j1 fun m1 l1=>
 aD Pg (Builtin.append_ #[33,33] 33 ⟨[(an a1),(an (⟨some ⟨m1,0,none⟩,1,1⟩:Sl))]⟩) kS l1 fun (o1:Sl) n1=>
 y o1 (i64 (b1+1)) n1∧z o1 (i64 (b1+1)) n1<z a1 b1 c1)
 (aD Pg (Builtin.len_ #[250] 3 ⟨[(.map f)]⟩) kI c1 fun (q1:Int) p1=>
 R a1 q1 p1))):Cl Pg [kS,kI] gw ⟨[(an a)]⟩ w R:=co Tryz.f195 [(11,[(19,kI)]),(27,[(2,kS),(38,kI)])] h
theorem zw.ok (a:(TT [.int .i64,.int .i64])) (b:(TT [.int .i64,.int .i64])) (R:Int→World→Prop) w (h:
 Nw 239 ⟨[(ni a.1),(ni a.2.1)]⟩ w fun d c=>
 Nw 239 ⟨[(ni b.1),(ni b.2.1)]⟩ c fun f e=>
 cA e fun g h=>
 ad kI (Addr.add ⟨d,0,none⟩ 0) g fun (i:Int)=>
 ad kI (Addr.add ⟨f,0,none⟩ 0) g fun (j:Int)=>
 ad kI (Addr.add ⟨d,0,none⟩ 1) g fun (k:Int)=>
 ad kI (Addr.add ⟨f,0,none⟩ 1) g fun (l:Int)=>
 Cl Pg [kI] cq ⟨[(ni i),(ni j)]⟩ h fun (n:Int) m=>
 g m∧
 Cl Pg [kI] cq ⟨[(ni k),(ni l)]⟩ m fun (p:Int) o=>
 g o∧
 Nw 3 ⟨[(ni n),(ni p)]⟩ o fun r q=>
 g q∧
 Cl Pg [kI] mi ⟨[(an (⟨some ⟨r,0,none⟩,2,2⟩:Sl))]⟩ q fun (t:Int) s=>
 g s∧
 R t s):Cl Pg [kI] kf ⟨[(.agg ⟨[(ni a.1),(ni a.2.1)]⟩),(.agg ⟨[(ni b.1),(ni b.2.1)]⟩)]⟩ w R:=co Tryz.f210 [] h
end Go.Proofs.YtcdpblipagajiaaGreat
set_option maxRecDepth 20000
namespace Go.Vc
open Go
def aT (t:List Int):Array Value:=⟨t.map vI⟩
def zl (l:List Nat):List Int:=l.map fun (x:Nat)=>(x:Int)
theorem zG (l:List Nat):(zl l).length=l.length:=List.length_map ..
theorem dG {t:List Int}:(aT t).size=t.length:=by simp [aT]
theorem yM {t:List Int} {i:Nat} (h:i<t.length):(aT t)[i]? =some (Sc.enc (.int .i64) (t.getD i 0)):=by simp [aT,h,vI,List.getD]
theorem jd {t:List Int}: ∀v∈(aT t).toList,ay v=true:=by
 intro v hv
 simp only [aT,List.mem_map] at hv
 obtain ⟨x,_,rfl⟩:=hv
 rfl
theorem J4 {t:List Int} {i:Nat} {x:Int}:(aT t).setIfInBounds i (.int .i64 x)=aT (t.set i x):=by
 unfold aT
 apply Array.ext'
 simp [List.map_set,vI]
theorem uE {n:Nat}:(⟨List.replicate n (.int .i64 0)⟩:Array Value)=aT (List.replicate n 0):=by unfold aT;simp [vI]
theorem tU.aT {n:Nat} {a b:List Int} {K:Bool→Prop} (ha:a.length=n) (hb:b.length=n) (h:K (a==b)):tU .i64 n (aT a) (aT b) K:=⟨a,b,rfl,rfl,ha,hb,h⟩
theorem eD {l:List Int} {i j:Nat} {x:Int} (hi:i<l.length):(l.set i x).getD j 0=if j=i then x else l.getD j 0:=by
 simp only [List.getD,List.getElem?_set]
 by_cases h:i=j
 ·subst h;simp [hi]
 ·rw [if_neg h,if_neg (fun e=>h e.symm)]
section
variable {E w:World} {F:List HP}
theorem aI.aT {b n:Nat} {t:List Int} {ty:TypeId} {fr:Nat×Nat} {i:Int} {j:Nat} {K:Int→Prop} (h:Hp E w (aj b (.cells (Vc.aT t) ty fr)::F)) (hi:i=(j:Int)) (hn:t.length=n) (hj:j<n) (hK:K (t.getD j 0)):aI ⟨b,0,none⟩ n i 1 fun q=>Ld kI q w K:=by
 subst hi
 exact aI.rd (s:= .int .i64) h (by omega) (by omega) _ (by rw [Int.toNat_natCast];exact yM (by omega)) hK
theorem aI.wT {b n:Nat} {t:List Int} {ty:TypeId} {i:Int} {j:Nat} {v:Int} {K:World→Prop} (h:Hp E w (aj b (.cells (Vc.aT t) ty (0,0))::F)) (hi:i=(j:Int)) (hn:t.length=n) (hj:j<n)
  (hK: ∀w',Hp E w' (aj b (.cells (Vc.aT (t.set j v)) ty (0,0))::F)→K w'):aI ⟨b,0,none⟩ n i 1 fun q=>St q (.int .i64 v) w K:=by
 subst hi
 exact aI.wr h (by omega) (by omega) (by rw [dG,hn]) rfl (by rw [Int.toNat_natCast,J4];exact hK)
theorem eH.aT {n:Nat} {t:List Int} {i:Int} {j:Nat} {K:Int→Prop} (hi:i=(j:Int)) (hn:t.length=n) (hj:j<n) (hK:K (t.getD j 0)):eH (.int .i64) (Vc.aT t) n i K:=by
 subst hi
 exact eH.rd (s:= .int .i64) (by omega) (by omega) _ (by rw [Int.toNat_natCast];exact yM (by omega)) hK
theorem ar.nI {s:Sl} {zs:List Int} {i:Int} {j:Nat} {K:Int→Prop} (hs:aA 1 s (zs.map vI) w) (hi:i=(j:Int)) (hj:j<zs.length) (hK:K (zs.getD j 0)):ar s i 1 fun q=>Ld kI q w K:=by
 subst hi
 have hl:=hs.1
 simp only [List.length_map,Nat.mul_one] at hl
 refine ar.rd hs (by omega) (by omega) fun p hp hc=>Ld.sc (s:= .int .i64) _ ?_ hK
 rw [hc]
 simp [vI,List.getD,hj]
theorem ar.nB {s:Sl} {bs:List Nat} {i:Int} {j:Nat} {K:Int→Prop} (hs:aA 1 s (bs.map vB) w) (hi:i=(j:Int)) (hj:j<bs.length) (hK:K (bs.getD j 0:Int)):ar s i 1 fun q=>Ld (aL .u8) q w K:=by
 subst hi
 have hl:=hs.1
 simp only [List.length_map,Nat.mul_one] at hl
 refine ar.rd hs (by omega) (by omega) fun p hp hc=>Ld.sc (s:= .int .u8) (bs.getD j 0:Int) ?_ hK
 rw [hc]
 simp [vB,List.getD,hj]
theorem ar.Ja {s:Sl} {zs:List Int} {i:Int} {j:Nat} {x:Int} {K:World→Prop} (hh:Hp E w (ak 1 s (zs.map vI)::F)) (hi:i=(j:Int)) (hj:j<zs.length) (h: ∀w',Hp E w' (ak 1 s ((zs.set j x).map vI)::F)→K w'):ar s i 1 fun q=>St q (.int .i64 x) w K:=by
 subst hi
 have hl:=hh.aH
 rw [List.length_map,Nat.mul_one] at hl
 refine St.own hh (by omega) (by omega) rfl fun w' h'=>h w' ?_
 rw [Int.toNat_natCast] at h'
 rw [List.map_set]
 exact h'
theorem ar.JI {s:Sl} {bs:List Nat} {i:Int} {j x:Nat} {K:World→Prop} (hh:Hp E w (ak 1 s (bs.map vB)::F)) (hi:i=(j:Int)) (hj:j<bs.length) (h: ∀w',Hp E w' (ak 1 s ((bs.set j x).map vB)::F)→K w'):ar s i 1 fun q=>St q (.int .u8 (x:Int)) w K:=by
 subst hi
 have hl:=hh.aH
 rw [List.length_map,Nat.mul_one] at hl
 refine St.own hh (by omega) (by omega) rfl fun w' h'=>h w' ?_
 rw [Int.toNat_natCast] at h'
 rw [List.map_set]
 exact h'
theorem KD {P:Program} {t ty e e2:TypeId} {s:Sl} {zs:List Int} {x:Int} {cs:Array Value} {K:Sl→World→Prop} (he:bK P t e 1 8) (hcs:cs=⟨[vI x]⟩) (hh:Hp E w (ak 1 s (zs.map vI)::F)) (hb:zs.length≤bR)
  (h: ∀s' w',Hp E w' (ak 1 s' ((zs++ [x]).map vI)::F)→s'.len=zs.length+1→K s' w'):
  Nw e2 cs w fun b w1=>aD P (Builtin.append_ #[t,t] ty ⟨[.slice s.base s.len s.cap,.slice (some ⟨b,0,none⟩) 1 1]⟩) kS w1 K:=by
 have hl:=hh.aH
 rw [List.length_map,Nat.mul_one] at hl
 rw [av] at hb
 refine Nw.mk hh fun b w1 h1=>aN (ys:= [vI x]) (n:=1) he (by decide) (.inl ⟨e,he.und⟩) h1.p1 (.inl ⟨some ⟨b,0,none⟩,1,1,rfl,rfl,h1.al (ab.aC (by rw [hcs]) rfl)⟩) rfl (fun y hy=>by
  rw [List.mem_singleton] at hy;subst hy;rfl) (by omega) (by omega) fun s' w2 h2 hs'=>h s' w2 ?_ (by omega)
 rw [List.map_append]
 exact h2.p1.drop
end
end Go.Vc
set_option maxRecDepth 20000
namespace Go.Hs
open Go Go.Vc
def bf (t:List Int):Bool:=t.all fun x=>decide (0≤x)&&decide (x≤2147483647)
theorem gM {t:List Int}:bf t=true↔∀i,i<t.length→0≤t.getD i 0∧t.getD i 0≤2147483647:=by
 unfold bf
 rw [List.all_eq_true]
 constructor
 ·intro h i hi
  have:=h t[i] (List.getElem_mem hi)
  simpa [List.getD,hi] using this
 ·intro h x hx
  obtain ⟨i,hi,rfl⟩:=List.getElem_of_mem hx
  simpa [List.getD,hi] using h i hi
theorem GR {t:List Int} {i:Nat} (hi:i<t.length) (h: ¬(0≤t.getD i 0∧t.getD i 0≤2147483647)):bf t=false:=by
 cases hv:bf t with
 |false=>rfl
 |true=>exact absurd (gM.1 hv i hi) h
def lA (z:Int):Bool:=decide (0≤z)&&decide (z<258)
theorem n4 {z:Int}:lA z=true↔0≤z∧z<258:=by simp [lA]
def inc (t:List Int) (z:Int):List Int:=t.set z.toNat (t.getD z.toNat 0+1)
def gV (t:List Int) (zs:List Int):List Int:=zs.foldl inc t
theorem uG (t:List Int) (z:Int):(inc t z).length=t.length:=List.length_set ..
theorem oe: ∀(zs t:List Int),(gV t zs).length=t.length
 | [],_=>rfl
 |z::zs,t=>by
  show (gV (inc t z) zs).length=_
  rw [oe zs,uG]
theorem zU (t zs:List Int) (z:Int):gV t (zs++ [z])=inc (gV t zs) z:=by simp [gV]
theorem B6 {t:List Int} {z:Int} (hz:lA z=true) (ht:t.length=258) (i:Nat):(inc t z).getD i 0=t.getD i 0+if z=(i:Int) then 1 else 0:=by
 rw [n4] at hz
 unfold inc
 rw [eD (by omega)]
 by_cases h:z=(i:Int)
 ·have:i=z.toNat:=by omega
  rw [if_pos this,if_pos h,this]
 ·rw [if_neg (by omega),if_neg h];omega
theorem qQ: ∀{zs t:List Int},zs.all lA=true→t.length=258→∀i:Nat,(gV t zs).getD i 0=t.getD i 0+(zs.count (i:Int):Int)
 | [],t,_,_,i=>by simp [gV]
 |z::zs,t,h,ht,i=>by
  rw [List.all_cons,Bool.and_eq_true] at h
  show (gV (inc t z) zs).getD i 0=_
  rw [qQ h.2 (by rw [uG,ht]),B6 h.1 ht,List.count_cons]
  by_cases e:z=(i:Int)
  ·rw [if_pos e,if_pos (by simp [e])];omega
  ·rw [if_neg e,if_neg (by simp [e])];omega
def fw (t zs:List Int):Option (List Int):=if bf t&&zs.all lA&&bf (gV t zs) then some (gV t zs) else none
def KJ (o:Option (List Int)):Int:=if o.isSome then 0 else 2
theorem zo {t zs:List Int} (h:bf t=false):fw t zs=none:=by simp [fw,h]
theorem Gw {t zs:List Int} {k:Nat} (hk:k<zs.length) (h:lA (zs.getD k 0)=false):fw t zs=none:=by
 unfold fw
 rw [if_neg]
 intro hh
 simp only [Bool.and_eq_true] at hh
 have:=List.all_eq_true.1 hh.1.2 zs[k] (List.getElem_mem hk)
 simp [List.getD,hk,this] at h
theorem iB (zs:List Int) (z:Int) (k:Nat):(zs.take k).count z≤zs.count z:=by
 have:zs.count z=(zs.take k).count z+(zs.drop k).count z:=by rw [←List.count_append,List.take_append_drop]
 omega
theorem EL {t zs:List Int} {k:Nat} (ht:t.length=258) (hk:k<zs.length) (hg:(zs.take k).all lA=true) (hz:lA (zs.getD k 0)=true) (h:2147483647≤(gV t (zs.take k)).getD (zs.getD k 0).toNat 0):fw t zs=none:=by
 unfold fw
 rw [if_neg]
 intro hh
 simp only [Bool.and_eq_true] at hh
 have hr:=n4.1 hz
 have hv:=gM.1 hh.2 (zs.getD k 0).toNat (by rw [oe];omega)
 rw [qQ hh.1.2 ht] at hv
 rw [qQ hg ht] at h
 have e:(((zs.getD k 0).toNat:Nat):Int)=zs.getD k 0:=by omega
 rw [e] at hv h
 have h1:=iB zs (zs.getD k 0) (k+1)
 have h2:(zs.take (k+1)).count (zs.getD k 0)=(zs.take k).count (zs.getD k 0)+1:=by
  rw [List.take_add_one,List.getElem?_eq_getElem hk,List.count_append]
  simp [List.getD,hk]
 omega
theorem o6 {zs:List Int} {k:Nat} (hk:k<zs.length):zs.take (k+1)=zs.take k++ [zs.getD k 0]:=by
 rw [List.take_add_one,List.getElem?_eq_getElem hk]
 simp [List.getD,hk]
theorem xp {t zs:List Int} (h1:bf t=true) (h2:zs.all lA=true) (h3:bf (gV t zs)=true):fw t zs=some (gV t zs):=by simp [fw,h1,h2,h3]
theorem DK {t zs u:List Int} (h:fw t zs=some u):bf t=true∧zs.all lA=true∧u=gV t zs∧bf u=true:=by
 unfold fw at h
 split at h
 ·rename_i hh
  simp only [Bool.and_eq_true] at hh
  obtain rfl:=Option.some.inj h
  exact ⟨hh.1.1,hh.1.2,rfl,hh.2⟩
 ·cases h
end Go.Hs
set_option maxRecDepth 20000
namespace Go.Vc
open Go Go.Sort
set_option linter.unusedSectionVars false
def ba (x:Int×Int):List Value:= [.int .i64 x.1,.int .i64 x.2]
theorem bO (x:Int×Int):(ba x).length=2:=rfl
theorem Av (x:Int×Int): ∀y∈ba x,ay y=true:=by
 intro y hy
 simp only [ba,List.mem_cons,List.not_mem_nil,or_false] at hy
 rcases hy with rfl|rfl<;>rfl
def qA (a b:Int):Int:=if a<b then -1 else if a>b then 1 else 0
def uu (x y:Int×Int):Int:=if qA x.1 y.1 !=0 then qA x.1 y.1 else qA x.2 y.2
def ff (x y:Int×Int):Bool:=decide (x.1<y.1)||(decide (x.1=y.1)&&decide (x.2<y.2))
theorem bw {x y:Int×Int}:ff x y=true↔x.1<y.1∨(x.1=y.1∧x.2<y.2):=by simp [ff]
theorem qi:Go.Proofs.ltOf uu=ff:=by
 funext x y
 rw [Bool.eq_iff_iff,bw]
 unfold Go.Proofs.ltOf uu qA
 rw [decide_eq_true_iff]
 by_cases h1:x.1<y.1
 ·simp [h1]
 ·by_cases h2:x.1>y.1
  ·simp [h1,h2];omega
  ·by_cases h3:x.2<y.2
   ·simp [h1,h2,h3];omega
   ·by_cases h4:x.2>y.2
    ·simp [h1,h2,h3,h4]
    ·simp [h1,h2,h3,h4]
theorem Ie:SWO (Go.Proofs.ltOf uu):=by
 rw [qi]
 refine ⟨fun x=> ?_,fun x y z h1 h2=> ?_,fun x y z h1 h2=> ?_⟩
 ·rw [Bool.eq_false_iff];intro h;rw [bw] at h;omega
 ·rw [bw] at*;omega
 ·rw [Bool.eq_false_iff] at*;simp only [ne_eq,bw] at*;omega
def a7 (xs:List (Int×Int)):List (Int×Int):=xs.mergeSort fun x y=> !ff y x
section
variable {E w:World} {F:List HP}
theorem Hp.grown {l:List HP} (h:Hp E w l) (os:Array Obj):Hp E (grow w os) l:=by
 obtain ⟨f,a,b⟩:=h.frag
 refine ⟨h.os,h.output,h.tape,f,fun r o hr=> ?_,b⟩
 have:=a r o hr
 show (w.heap++os)[r]? =some o
 have hlt:r<w.heap.size:=by obtain ⟨hh,_⟩:=Array.getElem?_eq_some_iff.1 this;exact hh
 rw [Array.getElem?_append_left hlt,this]
theorem Hp.IU {b:Nat} {c:Array Value} {t:TypeId} (h:Hp E w (aj b (.cells c t (0,0))::F)) (f:Array Value→Array Value):Hp E (mapBlock w b f) (aj b (.cells (f c) t (0,0))::F):=by
 refine h.setObj ?_ rfl rfl rfl
 show w.heap.modify b (onCells f)=_
 have hb:=h.aC
 apply Array.ext_getElem?
 intro k
 have hlt:b<w.heap.size:=(Array.getElem?_eq_some_iff.1 hb).1
 simp only [Array.getElem?_modify,Array.set!_eq_setIfInBounds,Array.getElem?_setIfInBounds]
 by_cases hk:b=k
 ·subst hk
  simp only [if_true,hlt,hb,Option.map_some,onCells]
 ·simp [hk]
theorem GZ (d:Array (Int×Int)):(flatK ba 2 d).toList=d.toList.flatMap ba:=by
 apply List.ext_getElem?
 intro i
 by_cases hi:i<d.size*2
 ·have hm:i=i/2*2+i % 2:=by omega
  have hd:i/2<d.toList.length:=by rw [Array.length_toList];omega
  have:=ir (g:=ba) (sz:=2) bO d.toList (i/2) (i % 2) hd (by omega)
  rw [←hm] at this
  rw [this]
  have h2:=get_flatK ba 2 d i hi
  have hs:i<(flatK ba 2 d).size:=by simpa using hi
  rw [getElem!_pos (flatK ba 2 d) i hs,getElem!_pos d (i/2) (by omega)] at h2
  rw [List.getElem?_eq_getElem (by simpa using hi),Array.getElem_toList,h2]
  have:i % 2=0∨i % 2=1:=by omega
  rcases this with e|e<;>rw [e]<;>simp [ba]
 ·rw [List.getElem?_eq_none (by simp;omega),List.getElem?_eq_none (by rw [cE bO];simp;omega)]
theorem jf (xs:List (Int×Int)):(a7 xs).length=xs.length:=List.length_mergeSort ..
theorem Hw {P:Program} {ρ:Go.Shelf.Ren} (L:Go.Proofs.SlLaysF0.n6 P ρ) (aE: ∀w,(isAgg (ρ.t 24)).run P w= .ok true w) (zE: ∀w,(Go.sizeOf (ρ.t 24)).run P w= .ok 2 w) {g:Nat} (eg:kU P g=true)
  (hcl: ∀(x y:Int×Int) (W:World),Calls P g #[.agg ⟨ba x⟩,.agg ⟨ba y⟩] W fun e w'=>e= .returned (.int .i64 (uu x y))∧∃q os',w'=grow (W.drewN q) os')
  {s:Sl} {xs:List (Int×Int)} {K:World→Prop} (h:Hp E w (ak 2 s (xs.flatMap ba)::F)) (hsz:xs.length<4611686018427387904) (hK: ∀w',Hp E w' (ak 2 s ((a7 xs).flatMap ba)::F)→K w'):
  Cl P [] (ρ.f 6) ⟨[.slice s.base s.len s.cap,.func (.func g) ⟨[]⟩ ⟨[]⟩]⟩ w K:=by
 have hlen:=aA.len bO (by decide) (h.al ab.own)
 unfold Cl
 by_cases h0:xs.length=0
 ·obtain rfl:xs= []:=List.length_eq_zero_iff.1 h0
  have hs0:s.len=0:=hlen
  rw [hs0]
  refine (Go.Proofs.AnyF.slices_SortFunc_none {L with} s.base s.cap _ w).mono fun e w' he=> ?_
  obtain ⟨rfl,rfl⟩:=he
  exact hK _ (by rw [show a7 []= [] from List.length_eq_zero_iff.1 (jf [])];exact h)
 rcases h.j9 with ⟨rfl,h1,_⟩|⟨b,off,arr,t,h1,h2,h3,h4,h5⟩
 ·exact absurd (by simpa using hlen.symm) h0
 have hd:xs.toArray.size=s.len:=by simp [hlen]
 have hH:HoldsK ba 2 w b off xs.toArray:=by
  intro j hj
  rw [size_flatK,hd] at hj
  have hfl:(xs.flatMap ba).length=xs.length*2:=cE bO xs
  have e1:=h4 j (by rw [hfl,←hlen];exact hj)
  refine ⟨?_,?_⟩
  ·rw [h5.cell (i:=off+j),e1]
   congr 1
   have e2:(flatK ba 2 xs.toArray)[j]! =(flatK ba 2 xs.toArray)[j]'(by rw [size_flatK,hd];exact hj):=getElem!_pos _ _ _
   show _=(flatK ba 2 xs.toArray)[j]!
   rw [e2,←Array.getElem_toList]
   simp only [GZ]
  ·have hb:=h5.aC
   simp [World.frozen?,hb]
 have key:=Go.Proofs.AnyQ.slices_SortFunc_total L 2 aE zE ba bO (fun x v hv=>by
   simp only [ba,List.mem_cons,List.not_mem_nil,or_false] at hv
   rcases hv with rfl|rfl<;>rfl) uu Ie g ⟨[]⟩ b off s.cap xs.toArray w (oU eg)
  (fun m os dk _ x y=>hcl x y _) hH (by have:=h5.aC;exact (Array.getElem?_eq_some_iff.1 this).1) (by rw [hd,hlen];exact hsz)
  (fun x y h1 h2=>by
   rw [qi,Bool.eq_false_iff] at h1 h2
   simp only [ne_eq,bw] at h1 h2
   exact Prod.ext (by omega) (by omega))
 rw [hd,←h1] at key
 refine Calls.mono key fun e w' he=> ?_
 obtain ⟨rfl,n,os,rfl⟩:=he
 rw [qi]
 refine hK _ ?_
 unfold Go.Proofs.sortWorldK
 refine Hp.grown ?_ os
 have h6:Hp E (Sort.ahead w n) (aj b (.cells arr t (0,0))::F):=h5.drew
 have h7:=h6.IU (putCells id off (flatK ba 2 (a7 xs).toArray))
 have hl2:((a7 xs).flatMap ba).length=s.len*2:=by rw [cE bO,jf,hlen]
 refine h7.fM (s:=s) hl2 h1 h2 (by simpa [putCells] using h3) fun i hi=> ?_
 have hi2:i<s.len*2:=by rw [←hl2];exact hi
 have hb:off+i<arr.size:=by
  have:s.len*2≤s.cap*2:=Nat.mul_le_mul_right _ h2
  omega
 have hsF:i<(flatK ba 2 (a7 xs).toArray).size:=by rw [size_flatK];simp [jf];omega
 have e2:(flatK ba 2 (a7 xs).toArray)[i]! =((a7 xs).flatMap ba)[i]:=by
  rw [getElem!_pos (flatK ba 2 (a7 xs).toArray) i hsF,←Array.getElem_toList]
  simp only [GZ]
 unfold putCells
 rw [Array.getElem?_mapIdx,Array.getElem?_eq_getElem hb]
 simp only [Option.map_some]
 rw [if_pos ⟨by omega,by omega⟩,show off+i - off=i by omega,id,e2]
end
end Go.Vc
set_option maxRecDepth 20000
namespace Go.Hs
open Go Go.Vc
theorem gN (xs:List (Int×Int)):(a7 xs).Perm xs:=List.mergeSort_perm ..
theorem ml (xs:List (Int×Int)):(a7 xs).Pairwise fun a b=>ff b a=false:=by
 have h:=List.pairwise_mergeSort (le:=fun x y:Int×Int=> !ff y x) (fun a b c h1 h2=>by
   simp only [Bool.not_eq_true',Bool.eq_false_iff,ne_eq,bw] at*;omega) (fun a b=>by
   simp only [Bool.or_eq_true,Bool.not_eq_true',Bool.eq_false_iff,ne_eq,bw];omega) xs
 exact h.imp fun {a b} h=>by simpa using h
theorem wi {a b:Int×Int} (h:a≠b) (h2:ff b a=false):ff a b=true:=by
 rw [bw]
 rw [Bool.eq_false_iff,ne_eq,bw] at h2
 have: ¬(a.1=b.1∧a.2=b.2):=fun e=>h (Prod.ext e.1 e.2)
 omega
theorem xX {xs:List (Int×Int)} (hn:xs.Nodup):(a7 xs).Pairwise fun a b=>ff a b=true:=by
 have h1:=ml xs
 have h2:(a7 xs).Nodup:=(gN xs).nodup_iff.2 hn
 exact (h1.and h2).imp fun {a b} h=>wi h.2 h.1
theorem lY (a:Int×Int):ff a a=false:=by rw [Bool.eq_false_iff,ne_eq,bw];omega
theorem Gg {a b:Int×Int} (h:ff a b=true):ff b a=false:=by rw [Bool.eq_false_iff,ne_eq,bw];rw [bw] at h;omega
theorem ka: ∀{S:List (Int×Int)},S.Pairwise (fun a b=>ff a b=true)→∀(j:Nat) (hj:j<S.length),S.countP (fun x=>ff x S[j])=j
 | [],_,j,hj=>by simp at hj
 |a::S,h,0,_=>by
  rw [List.pairwise_cons] at h
  rw [List.countP_cons,List.getElem_cons_zero,lY,List.countP_eq_zero.2 fun x hx=>by rw [Gg (h.1 x hx)];decide]
  rfl
 |a::S,h,j+1,hj=>by
  rw [List.pairwise_cons] at h
  have hj':j<S.length:=by simpa using hj
  rw [List.countP_cons,List.getElem_cons_succ,ka h.2 j hj',h.1 _ (List.getElem_mem hj')]
  rfl
theorem qM {S:List (Int×Int)} (h:S.Pairwise (fun a b=>ff a b=true)) {x:Int×Int} (hx:x∈S): ∃hj:S.countP (fun y=>ff y x)<S.length,S[S.countP (fun y=>ff y x)]=x:=by
 obtain ⟨j,hj,rfl⟩:=List.getElem_of_mem hx
 have:=ka h j hj
 exact ⟨by omega,by simp only [this]⟩
def fi {α:Type} [DecidableEq α] (acc:List α) (t:α):List α:=if t∈acc then acc else acc++ [t]
def bP {α:Type} [DecidableEq α] (l:List α):List α:=l.foldl fi []
theorem JS {α:Type} [DecidableEq α] {acc:List α} {t x:α}:x∈fi acc t↔x∈acc∨x=t:=by
 unfold fi
 split
 ·rename_i h
  constructor
  ·exact .inl
  ·rintro (h1|rfl)
   ·exact h1
   ·exact h
 ·simp
theorem AD {α:Type} [DecidableEq α] (l:List α) (t:α):bP (l++ [t])=fi (bP l) t:=by simp [bP]
theorem qJ {α:Type} [DecidableEq α]: ∀(l acc:List α) (x:α),x∈l.foldl fi acc↔x∈acc∨x∈l
 | [],acc,x=>by simp
 |t::l,acc,x=>by
  rw [List.foldl_cons,qJ l,JS,List.mem_cons,or_assoc]
theorem px {α:Type} [DecidableEq α] {l:List α} {x:α}:x∈bP l↔x∈l:=by
 rw [bP,qJ];simp
end Go.Hs
set_option maxRecDepth 20000
namespace Go.Bw
open Go Go.Vc Go.Rk Go.Hs
theorem sR:SO ff:=⟨lY,fun a b c h1 h2=>by rw [bw] at*;omega,fun a b c h1 h2=>by
 rw [Bool.eq_false_iff] at*;simp only [ne_eq,bw] at*;omega⟩
theorem B7 (dom:List (Int×Int)):tF ff dom:=fun x _ y _ e=>by
 rw [bw,bw]
 have: ¬(x.1=y.1∧x.2=y.2):=fun h=>e (Prod.ext h.1 h.2)
 omega
def dd (l:List (Int×Int)):List (Int×Int):=bP (a7 l)
theorem nQ {S:List (Int×Int)} {k:Nat} (hk:k<S.length):bP (S.take (k+1))=fi (bP (S.take k)) S[k]:=by
 rw [List.take_add_one,List.getElem?_eq_getElem hk]
 exact AD _ _
theorem k7 {S:List (Int×Int)} (hS:S.Pairwise fun a b=>ff b a=false): ∀k,k≤S.length→(bP (S.take k)).Pairwise fun a b=>ff a b=true
 |0,_=>List.Pairwise.nil
 |k+1,hk=>by
  have ih:=k7 hS k (by omega)
  rw [nQ (by omega)]
  unfold fi
  split
  ·exact ih
  ·rename_i hn
   refine List.pairwise_append.2 ⟨ih,by simp,fun a ha b hb=> ?_⟩
   rw [List.mem_singleton] at hb
   subst hb
   have ha2:=px.1 ha
   obtain ⟨i,hi,e⟩:=List.getElem_of_mem ha2
   rw [List.length_take] at hi
   rw [List.getElem_take] at e
   have h1:=List.pairwise_iff_getElem.1 hS i k (by omega) (by omega) (by omega)
   rw [e] at h1
   exact wi (fun e=>hn (by rw [←e];exact ha)) h1
theorem nw (l:List (Int×Int)):(dd l).Pairwise fun a b=>ff a b=true:=by
 have:=k7 (ml l) (a7 l).length (Nat.le_refl _)
 rwa [List.take_length] at this
theorem n5 {l:List (Int×Int)} {p:Int×Int}:p∈dd l↔p∈l:=by unfold dd;rw [px,(gN l).mem_iff]
def ep (l:List (Int×Int)) (p:Int×Int):Nat:=rk ff (dd l) p
theorem Iq {l:List (Int×Int)} {p q:Int×Int} (hp:p∈l) (hq:q∈l):ep l p<ep l q↔ff p q=true:=Jp sR (B7 _) (n5.2 hp) (n5.2 hq)
theorem HQ {l:List (Int×Int)} {p q:Int×Int} (hp:p∈l) (hq:q∈l) (h:ep l p=ep l q):p=q:=DR sR (B7 _) (n5.2 hp) (n5.2 hq) h
theorem Kl {l:List (Int×Int)} {p:Int×Int} (hp:p∈l): ∃h:ep l p<(dd l).length,(dd l)[ep l p]=p:=qM sR (nw l) (n5.2 hp)
theorem nY {S:List (Int×Int)}: ∀k,k≤S.length→(bP (S.take k)).length≤k∧(k≤(bP (S.take k)).length→(S.take k).Nodup)
 |0,_=>⟨by simp [bP],fun _=>by simp⟩
 |k+1,hk=>by
  have ih:=nY k (by omega:k≤S.length)
  rw [nQ (by omega)]
  unfold fi
  split
  ·exact ⟨by omega,fun h=>by omega⟩
  ·rename_i hn
   rw [List.length_append,List.length_singleton]
   refine ⟨by omega,fun h=> ?_⟩
   rw [List.take_add_one,List.getElem?_eq_getElem (by omega)]
   refine List.nodup_append.2 ⟨ih.2 (by omega),by simp,fun a ha b hb=> ?_⟩
   simp only [Option.toList_some,List.mem_singleton] at hb
   subst hb
   exact fun e=>hn (by rw [px,←e];exact ha)
theorem HD {l:List (Int×Int)} (h:l.length≤(dd l).length):l.Nodup:=by
 have:=(nY (S:=a7 l) (a7 l).length (Nat.le_refl _)).2
 rw [List.take_length,jf] at this
 exact (gN l).nodup_iff.1 (this h)
theorem yC {l:List (Int×Int)} (h:l.Nodup):dd l=a7 l:=by
 have h2:(dd l).Perm (a7 l):=by
  have hdn:(dd l).Nodup:=(nw l).imp fun {a b} hab e=>by subst e;rw [lY] at hab;cases hab
  refine (List.perm_ext_iff_of_nodup hdn ((gN l).nodup_iff.2 h)).2 fun a=> ?_
  rw [n5,(gN l).mem_iff]
 exact EM sR h2 (nw l) (xX h)
theorem D8 {l:List (Int×Int)} (h:l.Nodup) (p:Int×Int):ep l p=rk ff l p:=by
 unfold ep rk
 rw [yC h,(gN l).countP_eq]
def key (t:List Nat) (h i:Nat):List Nat:=(t.drop i).take h
def oc (t:List Nat) (h:Nat) (f:Nat→Int×Int):Prop:= ∀i j,i≤t.length→j≤t.length→(ff (f i) (f j)=true↔lx (key t h i) (key t h j)=true)∧(f i=f j↔key t h i=key t h j)
def Qr (t:List Nat) (h:Nat) (r:Nat→Int):Prop:= ∀i j,i≤t.length→j≤t.length→(r i<r j↔lx (key t h i) (key t h j)=true)∧(r i=r j↔key t h i=key t h j)
def aG (t:List Nat) (f:Nat→Int×Int):List (Int×Int):=(List.range (t.length+1)).map f
theorem ny {t:List Nat} {f:Nat→Int×Int} {i:Nat} (hi:i≤t.length):f i∈aG t f:=List.mem_map.2 ⟨i,List.mem_range.2 (by omega),rfl⟩
theorem cr (t:List Nat) (f:Nat→Int×Int):(aG t f).length=t.length+1:=by simp [aG]
def cj (t:List Nat) (i:Nat):Int×Int:=if i<t.length then (1+(t.getD i 0:Int),0) else (0,0)
theorem fO {t:List Nat} {h i:Nat}:(key t h i).length=min h (t.length - i):=by unfold key;rw [List.length_take,List.length_drop]
theorem Iz (t:List Nat):oc t 1 (cj t):=by
 intro i j hi hj
 have e1: ∀i,i<t.length→key t 1 i= [t.getD i 0]:=fun i hi=>by
  unfold key
  rw [oP hi];rfl
 have e0:key t 1 t.length= []:=by unfold key;rw [List.drop_length];rfl
 unfold cj
 rcases Nat.lt_or_ge i t.length with h1|h1<;>rcases Nat.lt_or_ge j t.length with h2|h2
 ·rw [if_pos h1,if_pos h2,e1 i h1,e1 j h2,bw,iZ]
  simp only [lx,Go.Vc.GV,Bool.and_false,Bool.or_false,decide_eq_true_eq,Prod.mk.injEq,List.cons.injEq,and_true]
  omega
 ·have:j=t.length:=by omega
  subst this
  rw [if_pos h1,if_neg (by omega),e1 i h1,e0,bw,qb]
  simp only [Prod.mk.injEq]
  refine ⟨?_,?_⟩
  ·simp;omega
  ·simp;omega
 ·have:i=t.length:=by omega
  subst this
  rw [if_neg (by omega),if_pos h2,e1 j h2,e0,bw]
  simp only [Prod.mk.injEq]
  refine ⟨?_,?_⟩
  ·simp [lx,Go.Vc.GV];omega
  ·simp;omega
 ·have:i=t.length:=by omega
  have:j=t.length:=by omega
  subst this
  obtain rfl:i=t.length:=by omega
  rw [if_neg (by omega),e0,bw,qb]
  simp
def dQ (t:List Nat) (h:Nat) (r:Nat→Int) (i:Nat):Int×Int:=(r i,if i+h≤t.length then r (i+h) else -1)
theorem qS (t:List Nat) (h i:Nat):key t (h+h) i=key t h i++key t h (i+h):=by
 unfold key
 rw [List.take_add,List.drop_drop]
theorem Es {t:List Nat} {h i j:Nat} (hi:i≤t.length) (hj:j≤t.length) (he:key t h i=key t h j) (hne:i≠j):i+h≤t.length∧j+h≤t.length:=by
 have:=congrArg List.length he
 rw [fO,fO] at this
 omega
theorem H2 {t:List Nat} {h i:Nat} (hh:t.length≤i+h):key t h (i+h)= []:=by
 unfold key
 rw [List.drop_eq_nil_of_le hh];simp
theorem Ij {t:List Nat} {h:Nat} {r:Nat→Int} (hr:Qr t h r):oc t (h+h) (dQ t h r):=by
 intro i j hi hj
 obtain ⟨h1,h2⟩:=hr i j hi hj
 rw [qS,qS]
 by_cases hij:i=j
 ·subst hij
  simp [lY,p6]
 by_cases he:key t h i=key t h j
 ·obtain ⟨g1,g2⟩:=Es hi hj he hij
  obtain ⟨h3,h4⟩:=hr (i+h) (j+h) g1 g2
  have hre:=h2.2 he
  rw [←he,Dz]
  unfold dQ
  rw [if_pos g1,if_pos g2,bw]
  simp only [Prod.mk.injEq,List.append_cancel_left_eq]
  rw [←h3,←h4]
  omega
 ·have hre:r i≠r j:=fun e=>he (h2.1 e)
  have hl: ∀{a b:Nat},a≤t.length→(key t h a).length<(key t h b).length→key t h (a+h)= []:=fun {a b} ha hlt=>by
   rw [fO,fO] at hlt
   exact H2 (by omega)
  rw [zR _ _ _ _ he (hl hi) (hl hj),←h1]
  unfold dQ
  rw [bw]
  simp only [Prod.mk.injEq]
  refine ⟨by omega,⟨fun e=>absurd e.1 hre,fun e=> ?_⟩⟩
  exfalso
  have hlen:=congrArg List.length e
  apply he
  have e1:(key t h i++key t h (i+h)).take h=key t h i∧(key t h j++key t h (j+h)).take h=key t h j:=by
   rw [←qS,←qS]
   unfold key
   rw [List.take_take,List.take_take,Nat.min_eq_left (by omega)]
   exact ⟨rfl,rfl⟩
  rw [←e1.1,←e1.2,e]
theorem Im {t:List Nat} {h:Nat} {f:Nat→Int×Int} (hf:oc t h f):Qr t h fun i=>(ep (aG t f) (f i):Int):=by
 intro i j hi hj
 obtain ⟨h1,h2⟩:=hf i j hi hj
 have h3:=Iq (ny (f:=f) hi) (ny (f:=f) hj)
 rw [←h1,←h2]
 dsimp only
 refine ⟨by rw [←h3];omega,⟨fun e=>HQ (ny (f:=f) hi) (ny (f:=f) hj) (by omega),fun e=>by rw [e]⟩⟩
theorem tu {t:List Nat} {f:Nat→Int×Int} (hd: ∀i j,i≤t.length→j≤t.length→f i=f j→i=j):(aG t f).Nodup:=by
 refine List.pairwise_map.2 (List.Pairwise.imp_of_mem (fun {a b} ha hb hab e=> ?_) List.nodup_range)
 rw [List.mem_range] at ha hb
 exact hab (hd a b (by omega) (by omega) e)
theorem GH {t:List Nat} {h:Nat} {f:Nat→Int×Int} (hf:oc t h f) (hd:(dd (aG t f)).length<t.length+1):h≤t.length:=by
 rcases Nat.lt_or_ge t.length h with hh|hh
 ·exfalso
  have hn:(aG t f).Nodup:=tu fun i j hi hj e=>by
   have:=((hf i j hi hj).2).1 e
   have:=congrArg List.length this
   rw [fO,fO] at this
   omega
  rw [yC hn,jf,cr] at hd
  omega
 ·exact hh
theorem done {t:List Nat} {h:Nat} {f:Nat→Int×Int} (hf:oc t h f) (hd:t.length+1≤(dd (aG t f)).length) {i:Nat} (hi:i≤t.length):ep (aG t f) (f i)=fa t i:=by
 have hn:(aG t f).Nodup:=HD (by rw [cr];exact hd)
 have hinj: ∀a b,a≤t.length→b≤t.length→key t h a=key t h b→a=b:=fun a b ha hb e=>by
  have hfe:=((hf a b ha hb).2).2 e
  have hp:=List.pairwise_map.1 hn
  rcases Nat.lt_trichotomy a b with h1|h1|h1
  ·have:=List.pairwise_iff_getElem.1 hp a b (by simp;omega) (by simp;omega) h1
   simp only [List.getElem_range] at this
   exact absurd hfe this
  ·exact h1
  ·have:=List.pairwise_iff_getElem.1 hp b a (by simp;omega) (by simp;omega) h1
   simp only [List.getElem_range] at this
   exact absurd hfe.symm this
 rw [D8 hn]
 unfold rk fa rk aG rows
 rw [List.countP_map]
 refine List.countP_congr fun j hj=> ?_
 rw [List.mem_range] at hj
 simp only [Function.comp]
 rw [(hf j i (by omega) hi).1]
 unfold sl
 by_cases hij:j=i
 ·subst hij;rw [p6,p6]
 ·have hne:key t h j≠key t h i:=fun e=>hij (hinj j i (by omega) hi e)
  have hs: ∀a,t.drop a=key t h a++t.drop (a+h):=fun a=>by
   unfold key
   rw [←List.drop_drop,List.take_append_drop]
  rw [hs j,hs i,zR _ _ _ _ hne]
  ·intro hlt
   rw [fO,fO] at hlt
   exact List.drop_eq_nil_of_le (by omega)
  ·intro hlt
   rw [fO,fO] at hlt
   exact List.drop_eq_nil_of_le (by omega)
end Go.Bw
set_option maxRecDepth 20000
namespace Go.Bw
open Go.Rk
def nV (last:List Nat) (c:Nat):Nat:=last.countP fun x=>decide (x<c)
theorem Dw (last:List Nat):nV last 0=0:=by unfold nV;rw [List.countP_eq_zero];intro x _;simp
theorem vS (c:Nat): ∀last:List Nat,nV last (c+1)=nV last c+last.count c
 | []=>rfl
 |x::last=>by
  have ih:=vS c last
  unfold nV at ih⊢
  rw [List.countP_cons,List.countP_cons,List.count_cons,ih]
  by_cases h1:x<c
  ·rw [if_pos (by simp;omega),if_pos (by simp [h1]),if_neg (by simp;omega)];omega
  ·by_cases h2:x=c
   ·rw [if_pos (by simp;omega),if_neg (by simp [h1]),if_pos (by simp [h2])];omega
   ·rw [if_neg (by simp;omega),if_neg (by simp [h1]),if_neg (by simp [h2])];omega
theorem Cz (l:List Nat):l=(List.range l.length).map fun i=>l.getD i 0:=by
 apply List.ext_getElem (by simp)
 intro i h1 h2
 simp [List.getD,h1]
theorem tH (l:List Nat) (p:Nat→Bool):(List.range l.length).countP (fun i=>p (l.getD i 0))=l.countP p:=by
 conv=>rhs;rw [Cz l,List.countP_map]
 rfl
theorem A8 (q:Nat→Bool) (a:Nat): ∀n,a≤n→(List.range n).countP (fun i=>q i&&decide (i<a))=(List.range a).countP q
 |n,h=>by
  induction n with
  |zero=>obtain rfl:a=0:=by omega
         rfl
  |succ n ih=>
   rw [List.range_succ,List.countP_append,List.countP_cons,List.countP_nil]
   by_cases e:a=n+1
   ·subst e
    rw [List.range_succ,List.countP_append,List.countP_cons,List.countP_nil]
    congr 1
    ·refine List.countP_congr fun i hi=> ?_
     rw [List.mem_range] at hi
     simp;omega
    ·congr 1;simp
   ·rw [ih (by omega)];simp;omega
theorem Cx (l:List Nat) (c a:Nat) (h:a≤l.length):(l.take a).count c=(List.range a).countP fun i=>l.getD i 0==c:=by
 have:=tH (l.take a) (fun x=>x==c)
 rw [List.length_take,Nat.min_eq_left h] at this
 show (l.take a).countP (·==c)=_
 rw [←this]
 refine List.countP_congr fun i hi=> ?_
 rw [List.mem_range] at hi
 simp only [List.getD,List.getElem?_take_of_lt hi]
def IG (last:List Nat) (a k:Nat):Nat:=(List.range k).countP fun i=>pl last i a
theorem Kv (last:List Nat) (a:Nat):nx last a=1+IG last a last.length:=rfl
theorem vd {α:Type} (p q:α→Bool) (h: ∀x,p x=true→q x=false): ∀l:List α,l.countP (fun x=>p x||q x)=l.countP p+l.countP q
 | []=>rfl
 |x::l=>by
  rw [List.countP_cons,List.countP_cons,List.countP_cons,vd p q h l]
  cases hp:p x with
  |true=>rw [h x hp];simp;omega
  |false=>simp;omega
theorem J0 {last:List Nat} {a:Nat} (ha:a<last.length):nx last a=nV last (last.getD a 0)+(last.take a).count (last.getD a 0)+1:=by
 have e1:IG last a last.length=nV last (last.getD a 0)+(last.take a).count (last.getD a 0):=by
  unfold IG
  have:(List.range last.length).countP (fun i=>pl last i a)=(List.range last.length).countP fun i=>(decide (last.getD i 0<last.getD a 0)||(last.getD i 0==last.getD a 0&&decide (i<a))):=rfl
  rw [this,vd (fun i=>decide (last.getD i 0<last.getD a 0)) (fun i=>(last.getD i 0==last.getD a 0&&decide (i<a))) fun i h=>by
   have:=of_decide_eq_true h
   rw [show (last.getD i 0==last.getD a 0)=false from beq_eq_false_iff_ne.2 (by omega)];rfl]
  rw [A8 (fun i=>last.getD i 0==last.getD a 0) a _ (by omega),←Cx _ _ _ (by omega)]
  congr 1
  exact tH last fun x=>decide (x<last.getD a 0)
 rw [Kv,e1];omega
theorem Gq {index row:Nat} (hne:row≠index):bS index (row+1)=bS index row+1:=by unfold bS;split<;>split<;>omega
theorem Gf (index:Nat):bS index (index+1)=bS index index:=by unfold bS;rw [if_pos (by omega),if_neg (by omega)];omega
theorem F3 {last T:List Nat} {index:Nat} (hl:T.length=last.length) (h: ∀k,k<last.length→T.getD (last.length - 1 - k) 0=last.getD (bS index (wk last index k)) 0):T=eT last index:=by
 apply List.ext_getElem (by rw [ql,hl])
 intro i h1 h2
 have e1:=h (last.length - 1 - i) (by omega)
 have e2:=u6 (last:=last) (index:=index) (k:=last.length - 1 - i) (by omega)
 rw [show last.length - 1 - (last.length - 1 - i)=i by omega] at e1 e2
 rw [←e2] at e1
 simpa [List.getD,h1,h2] using e1
theorem FA {last:List Nat} (h:0<last.length): ¬okB last 0:=fun ⟨_,h2,_⟩=>h2 0 h rfl
end Go.Bw
set_option maxRecDepth 20000
namespace Go.Vc
open Go
theorem uZ {P:Program} {t e:TypeId} {z:Value} {n bytes:Nat} {E w:World} {F:List HP} {K:Sl→World→Prop} (ht:P.underlying t=some (.slice e)) (hi: ∃i,P.info? e=some i∧i.zero=some z∧i.size=1∧i.bytes=bytes) (hz:z.cells= #[z])
  (hn:n≤1000000) (hb:bytes≤8) (h:Hp E w F) (hK: ∀s w',s.len=n→Hp E w' (ak 1 s (List.replicate n z)::F)→K s w'):aD P (Instr.makeSlice t (.int .i64 (n:Int)) (.int .i64 (n:Int))) kS w K:=by
 obtain ⟨i,h1,h2,h3,h4⟩:=hi
 have hbn:bytes*n≤8*n:=Nat.mul_le_mul_right _ hb
 have hbb:((bytes:Int)*(n:Int))≤281474976710656:=by
  have:((bytes:Int)*(n:Int))=((bytes*n:Nat):Int):=by simp
  omega
 have hm:=run_makeSlice (w:=w) t e i z ht h1 h2 .i64 .i64 (n:Int) (n:Int) (by omega) (by omega) (by rw [h3,Int.toNat_natCast];omega) (by rw [h4];exact hbb) (by omega)
 unfold aD
 rw [hm]
 have hc:madeCells z.cells (n*1)=⟨List.replicate n z⟩:=by
  unfold madeCells
  rw [hz,Nat.mul_one]
  apply Array.ext
  ·simp
  ·intro j h1 h2
   simp [Nat.mod_one]
 rw [h3,Int.toNat_natCast,hc]
 refine hK ⟨some ⟨w.heap.size,0,none⟩,n,n⟩ _ rfl ?_
 have:=(h.alloc (.cells ⟨List.replicate n z⟩ e)).iw (n:=n) (sz:=1) (by simp)
 exact this
theorem IA {P:Program} {t e:TypeId} {α:Type} {g:α→List Value} {x:α} {z:Value} {n sz bytes:Nat} {E w:World} {F:List HP} {K:Sl→World→Prop} (ht:P.underlying t=some (.slice e)) (hi: ∃i,P.info? e=some i∧i.zero=some z∧i.size=sz∧i.bytes=bytes) (hz:z.cells=⟨g x⟩) (hg: ∀x,(g x).length=sz) (h0:0<sz)
  (hn:n*sz≤1000000) (hb:bytes≤8*sz) (h:Hp E w F) (hK: ∀s w',s.len=n→Hp E w' (ak sz s ((List.replicate n x).flatMap g)::F)→K s w'):aD P (Instr.makeSlice t (.int .i64 (n:Int)) (.int .i64 (n:Int))) kS w K:=by
 obtain ⟨i,h1,h2,h3,h4⟩:=hi
 have hn1:n≤n*sz:=Nat.le_mul_of_pos_right _ h0
 have hbn:bytes*n≤8*sz*n:=Nat.mul_le_mul_right _ hb
 have hbn2:8*sz*n=8*(n*sz):=by rw [Nat.mul_assoc,Nat.mul_comm sz n]
 have hbb:((bytes:Int)*(n:Int))≤281474976710656:=by
  have:((bytes:Int)*(n:Int))=((bytes*n:Nat):Int):=by simp
  omega
 have hm:=run_makeSlice (w:=w) t e i z ht h1 h2 .i64 .i64 (n:Int) (n:Int) (by omega) (by omega) (by rw [h3,Int.toNat_natCast];omega) (by rw [h4];exact hbb) (by omega)
 unfold aD
 rw [hm]
 have hc:madeCells z.cells (n*sz)=⟨(List.replicate n x).flatMap g⟩:=by
  unfold madeCells
  rw [hz]
  apply Array.ext'
  apply List.ext_getElem?
  intro j
  have hfl:=cE hg (List.replicate n x)
  rw [List.length_replicate] at hfl
  by_cases hj:j<n*sz
  ·have hdj:j/sz<n:=by rw [Nat.div_lt_iff_lt_mul h0];exact hj
   have hmj:j/sz*sz+j % sz=j:=Nat.div_add_mod' j sz
   have:=ir hg (List.replicate n x) (j/sz) (j % sz) (by simpa using hdj) (Nat.mod_lt _ h0)
   rw [hmj] at this
   show _=((List.replicate n x).flatMap g)[j]?
   rw [this,List.getElem_replicate]
   have hm2:j % sz<(g x).length:=by rw [hg];exact Nat.mod_lt _ h0
   simp only [Array.toList_map,Array.toList_range,List.getElem?_map,List.getElem?_range hj,Option.map_some,List.size_toArray,hg]
   rw [List.getElem?_eq_getElem hm2]
   simp [hm2]
  ·rw [List.getElem?_eq_none (by simpa using hj),List.getElem?_eq_none (by simp only [hfl];omega)]
 rw [h3,Int.toNat_natCast,hc]
 refine hK ⟨some ⟨w.heap.size,0,none⟩,n,n⟩ _ rfl ?_
 exact (h.alloc (.cells ⟨(List.replicate n x).flatMap g⟩ e)).iw (n:=n) (sz:=sz) (by
  show ((List.replicate n x).flatMap g).length=_
  rw [cE hg,List.length_replicate])
end Go.Vc
set_option maxRecDepth 20000
namespace Go.Vc
open Go
def mw (xs:List Value):Nat→List Value→List Value
 |_,[]=>xs
 |a,v::vs=>mw (xs.set a v) (a+1) vs
theorem tv: ∀(vs xs:List Value) (a i:Nat),a+vs.length≤xs.length→(mw xs a vs)[i]? =if a≤i∧i<a+vs.length then vs[i - a]? else xs[i]?
 | [],xs,a,i,_=>by rw [mw,if_neg (by simp)]
 |v::vs,xs,a,i,h=>by
  simp only [List.length_cons] at h
  rw [mw,tv vs _ _ _ (by rw [List.length_set];omega),List.length_cons,List.getElem?_set]
  by_cases h1:a=i
  ·subst h1
   rw [if_neg (by omega),if_pos rfl,if_pos (by omega),if_pos (by omega),Nat.sub_self]
   rfl
  ·by_cases h2:a+1≤i∧i<a+1+vs.length
   ·rw [if_pos h2,if_pos (by omega)]
    obtain ⟨d,rfl⟩: ∃d,i=a+1+d:=⟨i - (a+1),by omega⟩
    rw [show a+1+d - (a+1)=d by omega,show a+1+d - a=d+1 by omega,List.getElem?_cons_succ]
   ·rw [if_neg h2,if_neg h1,if_neg (by omega)]
section
variable {α:Type} {g:α→List Value} {sz:Nat}
theorem JU (hg: ∀x,(g x).length=sz) {l:List α} {j k:Nat} {v:Value} {x:α} (hj:j<l.length) (hk:k<sz) (hx:g x=(g l[j]).set k v):(l.flatMap g).set (j*sz+k) v=(l.set j x).flatMap g:=by
 have h0:0<sz:=by omega
 have hm:(j+1)*sz≤l.length*sz:=Nat.mul_le_mul_right _ hj
 rw [Nat.succ_mul] at hm
 apply List.ext_getElem?
 intro i
 have hfl:=cE hg l
 have hfl2:=cE hg (l.set j x)
 rw [List.length_set] at hfl2
 by_cases hi:i<l.length*sz
 ·obtain ⟨q,hq⟩: ∃q,i/sz=q:=⟨_,rfl⟩
  obtain ⟨r,hr⟩: ∃r,i % sz=r:=⟨_,rfl⟩
  have hdi:q<l.length:=by rw [←hq,Nat.div_lt_iff_lt_mul h0];exact hi
  have hmi:q*sz+r=i:=by rw [←hq,←hr];exact Nat.div_add_mod' i sz
  have hlt:r<sz:=by rw [←hr];exact Nat.mod_lt _ h0
  clear hq hr
  subst hmi
  have e1:=ir hg l q r hdi hlt
  have e2:=ir hg (l.set j x) q r (by rw [List.length_set];exact hdi) hlt
  have hd: ∀a b:Nat,b<sz→(a*sz+b)/sz=a:=fun a b hb=>by rw [Nat.mul_comm,Nat.mul_add_div h0,Nat.div_eq_of_lt hb,Nat.add_zero]
  have hmd: ∀a b:Nat,b<sz→(a*sz+b) % sz=b:=fun a b hb=>by rw [Nat.mul_comm,Nat.mul_add_mod,Nat.mod_eq_of_lt hb]
  rw [e2,List.getElem?_set,e1,List.getElem_set]
  by_cases hji:j=q
  ·subst hji
   rw [if_pos rfl,hx,List.getElem?_set,hg]
   by_cases hki:k=r
   ·subst hki
    rw [if_pos rfl,if_pos (by rw [hfl];omega),if_pos rfl,if_pos hk]
   ·rw [if_neg (by omega),if_neg hki]
  ·rw [if_neg hji,if_neg (fun e=>hji ((hd j k hk).symm.trans ((congrArg (fun y=>y/sz) e).trans (hd q r hlt))))]
 ·rw [List.getElem?_eq_none (by rw [List.length_set,hfl];omega),List.getElem?_eq_none (by rw [hfl2];omega)]
theorem DW (hg: ∀x,(g x).length=sz) {l:List α} {j:Nat} {x:α} (h0:0<sz) (hj:j<l.length):mw (l.flatMap g) (j*sz) (g x)=(l.set j x).flatMap g:=by
 have hm:(j+1)*sz≤l.length*sz:=Nat.mul_le_mul_right _ hj
 rw [Nat.succ_mul] at hm
 have hfl:=cE hg l
 have hfl2:=cE hg (l.set j x)
 rw [List.length_set] at hfl2
 apply List.ext_getElem?
 intro i
 rw [tv _ _ _ _ (by rw [hg,hfl];exact hm),hg]
 by_cases hi:i<l.length*sz
 ·have hdi:i/sz<l.length:=by rw [Nat.div_lt_iff_lt_mul h0];exact hi
  have hmi:i/sz*sz+i % sz=i:=Nat.div_add_mod' i sz
  have hlt:=Nat.mod_lt i h0
  have e1:=ir hg l (i/sz) (i % sz) hdi hlt
  have e2:=ir hg (l.set j x) (i/sz) (i % sz) (by rw [List.length_set];exact hdi) hlt
  rw [hmi] at e1 e2
  rw [e2,e1,List.getElem_set]
  by_cases hji:j=i/sz
  ·rw [if_pos hji,if_pos (by rw [hji];omega),show i - j*sz=i % sz by rw [hji];omega]
  ·rw [if_neg hji,if_neg]
   rintro ⟨h1,h2⟩
   apply hji
   obtain ⟨d,rfl⟩: ∃d,i=j*sz+d:=⟨i - j*sz,by omega⟩
   rw [Nat.mul_comm,Nat.mul_add_div h0,Nat.div_eq_of_lt (by omega),Nat.add_zero]
 ·rw [if_neg (by omega),List.getElem?_eq_none (by rw [hfl];omega),List.getElem?_eq_none (by rw [hfl2];omega)]
end
section
variable {E w:World} {F:List HP} {α:Type} {g:α→List Value} {sz:Nat} {s:Sl}
theorem St.wS {xs:List Value} {i j:Nat} {v:Value} {p:Addr} {K:World→Prop} (hh:Hp E w (ak sz s xs::F)) (hp:s.base=some p) (hi:i<s.len) (hj:j<sz) (hv:ay v=true) (h: ∀w',Hp E w' (ak sz s (xs.set (i*sz+j) v)::F)→K w'):St ((p.add (i*sz)).add j) v w K:=by
 obtain ⟨p',h1,_,_,h4⟩:=St.Gp (i:=(i:Int)) (K:=K) hh hj (by omega) (by omega) hv (by rw [Int.toNat_natCast];exact h)
 rw [hp] at h1
 obtain rfl:=Option.some.inj h1
 rw [Int.toNat_natCast] at h4
 exact h4
theorem af.wS {i:Nat} {p:Addr} (hp:s.base=some p) (hi:i<s.len): ∀(vs:List Value) (k:Nat) {w:World} {xs:List Value} {K:World→Prop},Hp E w (ak sz s xs::F)→k+vs.length≤sz→(∀v∈vs,ay v=true)→
  (∀w',Hp E w' (ak sz s (mw xs (i*sz+k) vs)::F)→K w')→af (p.add (i*sz)) vs k w K
 | [],_,w,_,_,hh,_,_,h=>h w hh
 |v::vs,k,w,xs,K,hh,hk,hv,h=>by
  simp only [List.length_cons] at hk
  refine St.wS (K:=fun w'=>af (p.add (i*sz)) vs (k+1) w' K) hh hp hi (by omega) (hv v (by simp)) fun w' h'=> ?_
  exact af.wS hp hi vs (k+1) h' (by omega) (fun x hx=>hv x (List.mem_cons_of_mem _ hx)) fun w'' h''=>h w'' (by rw [mw];exact h'')
theorem ar.Ko {l:List α} {i:Int} {j:Nat} {x:α} {K:World→Prop} (hg: ∀x,(g x).length=sz) (h0:0<sz) (hh:Hp E w (ak sz s (l.flatMap g)::F)) (hi:i=(j:Int)) (hj:j<l.length) (hv: ∀v∈g x,ay v=true)
  (h: ∀w',Hp E w' (ak sz s ((l.set j x).flatMap g)::F)→K w'):ar s i sz fun q=>af q (g x) 0 w K:=by
 subst hi
 have hlen:=aA.len hg h0 (hh.al ab.own)
 rcases hh.j9 with ⟨rfl,h1,_⟩|⟨b,off,arr,t,e1,_,_,_,_⟩
 ·have:l.length=0:=by simpa using hlen.symm
  omega
 ·refine ⟨_,e1,by omega,by omega,?_⟩
  rw [Int.toNat_natCast]
  exact af.wS e1 (by omega) (g x) 0 hh (by rw [hg];omega) hv fun w' h'=>h w' (by rw [Nat.add_zero,DW hg h0 hj] at h';exact h')
theorem ar.setCell {l:List α} {i:Int} {j k:Nat} {v:Value} {x:α} {K:World→Prop} (hg: ∀x,(g x).length=sz) (h0:k<sz) (hh:Hp E w (ak sz s (l.flatMap g)::F)) (hi:i=(j:Int)) (hj:j<l.length) (hv:ay v=true) (hx:g x=(g l[j]).set k v)
  (h: ∀w',Hp E w' (ak sz s ((l.set j x).flatMap g)::F)→K w'):ar s i sz fun q=>St (q.add k) v w K:=by
 subst hi
 have hlen:=aA.len hg (by omega) (hh.al ab.own)
 refine St.Gp hh h0 (by omega) (by omega) hv fun w' h'=>h w' ?_
 rw [Int.toNat_natCast,JU hg hj h0 hx] at h'
 exact h'
end
end Go.Vc
set_option maxRecDepth 20000
namespace Go.Vc
open Go
theorem Kk {P:Program} {t ty e e2:TypeId} {E w:World} {F:List HP} {s:Sl} {bs:List Nat} {x:Nat} {cs:Array Value} {K:Sl→World→Prop} (he:bK P t e 1 1) (hcs:cs=⟨[vB x]⟩) (hh:Hp E w (ak 1 s (bs.map vB)::F)) (hb:bs.length≤bR)
  (h: ∀s' w',Hp E w' (ak 1 s' ((bs++ [x]).map vB)::F)→s'.len=bs.length+1→K s' w'):
  Nw e2 cs w fun b w1=>aD P (Builtin.append_ #[t,t] ty ⟨[.slice s.base s.len s.cap,.slice (some ⟨b,0,none⟩) 1 1]⟩) kS w1 K:=by
 have hl:=hh.aH
 rw [List.length_map,Nat.mul_one] at hl
 rw [av] at hb
 refine Nw.mk hh fun b w1 h1=>aN (ys:= [vB x]) (n:=1) he (by decide) (.inl ⟨e,he.und⟩) h1.p1 (.inl ⟨some ⟨b,0,none⟩,1,1,rfl,rfl,h1.al (ab.aC (by rw [hcs]) rfl)⟩) rfl (fun y hy=>by
  rw [List.mem_singleton] at hy;subst hy;rfl) (by omega) (by omega) fun s' w2 h2 hs'=>h s' w2 ?_ (by omega)
 rw [List.map_append]
 exact h2.p1.drop
end Go.Vc
namespace Go.Proofs.YtcdpblipagajiaaGreat
open Go Go.Vc Go.Bw
theorem KG:bK Tryz.prog 22 5 1 1:= .of (by kernel_rfl) (by kernel_rfl)
theorem Bs: ∃i,Tryz.prog.info? 3=some i∧i.zero=some (.int .i64 0)∧i.size=1∧i.bytes=8:=by
 have h:(Tryz.prog.info? 3).map (fun i=>(i.zero,i.size,i.bytes))=some (some (.int .i64 0),1,8):=by kernel_rfl
 obtain ⟨i,h1,h2⟩:=Option.map_eq_some_iff.1 h
 simp only [Prod.mk.injEq] at h2
 exact ⟨i,h1,h2⟩
theorem HV: ∃i,Tryz.prog.info? 5=some i∧i.zero=some (.int .u8 0)∧i.size=1∧i.bytes=1:=by
 have h:(Tryz.prog.info? 5).map (fun i=>(i.zero,i.size,i.bytes))=some (some (.int .u8 0),1,1):=by kernel_rfl
 obtain ⟨i,h1,h2⟩:=Option.map_eq_some_iff.1 h
 simp only [Prod.mk.injEq] at h2
 exact ⟨i,h1,h2⟩
theorem ED {n:Nat}:List.replicate n (Value.int .i64 0)=(List.replicate n (0:Int)).map vI:=by simp [vI]
theorem BW (n i:Nat):(List.replicate n (0:Int)).getD i 0=0:=by
 simp only [List.getD,List.getElem?_replicate]
 split<;>rfl
theorem Jz {n:Nat}:List.replicate n (Value.int .u8 0)=(List.replicate n (0:Nat)).map vB:=by simp [vB]
section
variable {E w:World} {F:List HP}
def xe (m:Nat) (index row:Int):Prop:=0≤index∧index≤m∧0≤row∧row≤m∧row≠index
theorem Bl {m:Nat} {s:Sl} {index row:Int} {K:Int→Bool→World→Prop} (hm:s.len=m) (hbig:m≤bR) (h1:xe m index row→K (bS index.toNat row.toNat:Int) true w) (h2: ¬xe m index row→K 0 false w):
  Cl Tryz.prog [kI,kB] kv ⟨[.slice s.base s.len s.cap,.int .i64 index,.int .i64 row]⟩ w K:=by
 refine Ex.ok _ _ _ _ _ ?_
 subst hm
 rw [av] at hbig
 unfold xe at h1 h2
 refine aa.mk (fun g=>h2 (by have:=of_decide_eq_true g;omega)) (fun g1=>aa.mk (fun g=>h2 (by have:=of_decide_eq_true g;omega)) (fun g2=>aa.mk (fun g=>h2 (by have:=of_decide_eq_true g;omega)) (fun g3=>aa.mk (fun g=>h2 (by have:=of_decide_eq_true g;omega)) (fun g4=>aa.mk (fun g=>h2 (by have:=beq_iff_eq.1 g;omega)) (fun g5=> ?_)))))
 have g1:=of_decide_eq_false g1
 have g2:=of_decide_eq_false g2
 have g3:=of_decide_eq_false g3
 have g4:=of_decide_eq_false g4
 have g5:=beq_eq_false_iff_ne.1 g5
 have hk:=h1 (by omega)
 refine aa.mk (fun g=> ?_) (fun g=> ?_)
 ·have g:=of_decide_eq_true g
  have e:(bS index.toNat row.toNat:Int)=row - 1:=by unfold bS;rw [if_pos (by omega)];omega
  rw [ag (by omega),←e];exact hk
 ·have g:=of_decide_eq_false g
  have e:(bS index.toNat row.toNat:Int)=row:=by unfold bS;rw [if_neg (by omega)];omega
  rw [←e];rw [e] at hk⊢;exact hk
theorem yz {m:Nat} {index row:Int} (h:xe m index row):bS index.toNat row.toNat<m:=by
 obtain ⟨h1,h2,h3,h4,h5⟩:=h
 unfold bS;split<;>omega
def lE (last:List Nat) (index:Nat):List Int:=(List.range (last.length+1)).map fun r=>if r=index then 0 else (nx last (bS index r):Int)
theorem vQ (last:List Nat) (index:Nat):(lE last index).length=last.length+1:=by simp [lE]
theorem vA {last:List Nat} {index r:Nat} (hr:r≤last.length) (hne:r≠index):(lE last index).getD r 0=(nx last (bS index r):Int):=by
 unfold lE
 simp [List.getD,show r<last.length+1 by omega,hne]
set_option maxRecDepth 20000 in
theorem E5 {last:List Nat} {s:Sl} {index:Nat} {K:Sl→World→Prop} (h:Hp E w F) (hs:ab F (aA 1 s (last.map vB))) (hb: ∀x∈last,x<256) (hn:last.length≤900000) (hi:index≤last.length)
  (hK: ∀s' w',Hp E w' (ak 1 s' ((lE last index).map vI)::F)→K s' w'):Cl Tryz.prog [kS] mm ⟨[.slice s.base s.len s.cap,.int .i64 (index:Int)]⟩ w K:=by
 refine Cs.ok _ _ _ _ ?_
 rw [Vc.uE]
 have hl:=(h.al hs).1
 simp only [List.length_map,Nat.mul_one] at hl
 have hg: ∀k,k<last.length→last.getD k 0<256:=fun k hk=>by
  rw [List.getD,List.getElem?_eq_getElem hk]
  exact hb _ (List.getElem_mem hk)
 have hcl: ∀(k c:Nat),(last.take k).count c≤last.length:=fun k c=>by
  refine Nat.le_trans List.count_le_length ?_
  rw [List.length_take];omega
 have hcc: ∀c:Nat,nV last c≤last.length:=fun c=>List.countP_le_length
 refine Nw.mk h fun b4 w1 h1=> ?_
 refine ⟨fun i w'=> ∃(k:Nat) (u:List Int),i=(k:Int)∧k≤last.length∧u.length=257∧(u.getD 0 0=0∧∀c,c<256→u.getD (c+1) 0=((last.take k).count c:Int))∧Hp E w' (aj b4 (.cells (Vc.aT u) 212 (0,0))::F),fun i _=>last.length - i.toNat,
  ⟨0,_,rfl,by omega,List.length_replicate,⟨BW ..,fun c hc=>by rw [BW];simp⟩,h1⟩,?_⟩
 rintro i w2 ⟨k,u,rfl,hk,hul,hu,h2⟩
 refine aa.mk (fun hlt=> ?_) (fun hge=> ?_)
 ·have hlt:k<last.length:=by have:=of_decide_eq_true hlt;omega
  have hx:=hg k hlt
  have hq:=hu.2 (last.getD k 0) hx
  have hcb:=hcl k (last.getD k 0)
  refine ar.nB (h2.al (ab.cons hs)) rfl hlt ?_
  rw [ag (x:=(last.getD k 0:Int)) (by omega),ag (x:=(last.getD k 0:Int)+1) (by omega)]
  refine aI.aT (j:=last.getD k 0+1) h2 (by omega) hul (by omega) (aI.wT (j:=last.getD k 0+1) h2 (by omega) hul (by omega) fun w3 h3=> ?_)
  rw [ag (x:=(k:Int)+1) (by omega)]
  refine ⟨⟨k+1,_,by omega,by omega,by rw [List.length_set];exact hul,⟨?_,fun c hc=> ?_⟩,h3⟩,by dsimp only;omega⟩
  ·rw [eD (by omega),if_neg (by omega)];exact hu.1
  ·rw [eD (by omega),List.take_add_one,List.getElem?_eq_getElem hlt,List.count_append]
   have e:last.getD k 0=last[k]:=by simp [List.getD,hlt]
   by_cases ec:c=last.getD k 0
   ·subst ec
    rw [if_pos rfl,hq,ag (by omega),e];simp
   ·rw [if_neg (by omega),hu.2 c hc]
    have:List.count c (some last[k]).toList=0:=by
     rw [List.count_eq_zero]
     simp only [Option.toList_some,List.mem_singleton]
     rw [←e];exact ec
    rw [this];simp
 have hge:k=last.length:=by have:=of_decide_eq_false hge;omega
 subst hge
 rw [List.take_length] at hu
 refine ⟨fun i w'=> ∃(k:Nat) (u:List Int),i=(k:Int)∧k≤256∧u.length=257∧(∀c,c≤k→u.getD c 0=(nV last c:Int))∧(∀c,k<c+1→c<256→u.getD (c+1) 0=(last.count c:Int))∧Hp E w' (aj b4 (.cells (Vc.aT u) 212 (0,0))::F),fun i _=>256 - i.toNat,
  ⟨0,u,rfl,by omega,hul,fun c hc=>by obtain rfl:c=0:=by omega
                                     rw [hu.1,Dw];rfl,fun c _ hc=>hu.2 c hc,h2⟩,?_⟩
 rintro i w3 ⟨k,v,rfl,hk,hvl,hv1,hv2,h3⟩
 refine aa.mk (fun hlt=> ?_) (fun hge=> ?_)
 ·have hlt:k<256:=by have:=of_decide_eq_true hlt;omega
  refine ao.mk h3 fun w4 h4=> ?_
  rw [ag (x:=(k:Int)+1) (by omega)]
  have e1:=hv2 k (by omega) hlt
  have e2:=hv1 k (by omega)
  have e3:=vS k last
  have e4:=hcc (k+1)
  refine aI.aT (j:=k+1) h4 (by omega) hvl (by omega) (aI.aT (j:=k) h4 rfl hvl (by omega) (aI.wT (j:=k+1) h4 (by omega) hvl (by omega) fun w5 h5=> ?_))
  refine ⟨⟨k+1,_,by omega,by omega,by rw [List.length_set];exact hvl,fun c hc=> ?_,fun c hc1 hc2=> ?_,h5⟩,by dsimp only;omega⟩
  ·rw [eD (by omega)]
   by_cases ec:c=k+1
   ·subst ec
    rw [if_pos rfl,e1,e2,ag (by omega),e3];omega
   ·rw [if_neg ec];exact hv1 c (by omega)
  ·rw [eD (by omega),if_neg (by omega)]
   exact hv2 c (by omega) hc2
 have hge:k=256:=by have:=of_decide_eq_false hge;omega
 subst hge
 rw [show i64 ((s.len:Int)+1)=((last.length+1:Nat):Int) by rw [ag (by omega)];omega]
 refine uZ (by kernel_rfl) Bs rfl (by omega) (by decide) h3 fun s27 w4 hs27 h4=> ?_
 rw [ED] at h4
 refine ⟨fun i w'=> ∃(k:Nat) (v out:List Int),i=(k:Int)∧k≤last.length+1∧v.length=257∧(∀c,c<256→v.getD c 0=(nV last c:Int)+((last.take (bS index k)).count c:Int))∧out.length=last.length+1∧
   (∀r,r<k→out.getD r 0=(lE last index).getD r 0)∧(∀r,k≤r→out.getD r 0=0)∧Hp E w' (ak 1 s27 (out.map vI)::aj b4 (.cells (Vc.aT v) 212 (0,0))::F),fun i _=>last.length+1 - i.toNat,
  ⟨0,v,_,rfl,by omega,hvl,fun c hc=>by rw [hv1 c (by omega)];simp [bS],List.length_replicate,fun r hr=>by omega,fun r _=>by simp only [List.getD,List.getElem?_replicate];split<;>rfl,h4⟩,?_⟩
 rintro i w5 ⟨k,v,out,rfl,hk,hvl,hv,hol,ho1,ho2,h5⟩
 refine aa.mk (fun hlt=> ?_) (fun hge=> ?_)
 ·have hlt:k<last.length+1:=by have:=of_decide_eq_true hlt;omega
  refine Bl hl.symm (by rw [av];omega) (fun hin=>aa.t rfl ?_) (fun hin=>aa.f rfl ?_)
  ·have hat:=yz hin
   have hne:k≠index:=by have:=hin.2.2.2.2;omega
   rw [Int.toNat_natCast,Int.toNat_natCast] at hat⊢
   have hx:=hg _ hat
   have hvx:=hv _ hx
   have hcn:=J0 hat
   have hnl:=GY hat
   refine ar.nB (h5.al (ab.cons (ab.cons hs))) rfl hat ?_
   refine aI.aT (j:=last.getD (bS index k) 0) h5.p1 rfl hvl (by omega) (aI.wT (j:=last.getD (bS index k) 0) h5.p1 rfl hvl (by omega) fun w6 h6=> ?_)
   have hset:i64 (v.getD (last.getD (bS index k) 0) 0+1)=(nx last (bS index k):Int):=by rw [hvx,ag (by omega)];omega
   rw [hset] at h6
   refine aI.aT (j:=last.getD (bS index k) 0) h6 rfl (by rw [List.length_set];exact hvl) (by omega) ?_
   rw [eD (by omega),if_pos rfl]
   refine ar.Ja h6.p1 rfl (by omega) fun w7 h7=> ?_
   rw [ag (x:=(k:Int)+1) (by omega)]
   refine ⟨⟨k+1,_,_,by omega,by omega,by rw [List.length_set];exact hvl,fun c hc=> ?_,by rw [List.length_set];exact hol,fun r hr=> ?_,fun r hr=> ?_,h7⟩,by dsimp only;omega⟩
   ·rw [eD (by omega),Gq hne,List.take_add_one,List.getElem?_eq_getElem hat,List.count_append]
    have e:last.getD (bS index k) 0=last[bS index k]:=by simp [List.getD,hat]
    by_cases ec:c=last.getD (bS index k) 0
    ·subst ec
     rw [if_pos rfl,hcn,e];simp;omega
    ·rw [if_neg ec,hv c hc]
     have:List.count c (some last[bS index k]).toList=0:=by
      rw [List.count_eq_zero]
      simp only [Option.toList_some,List.mem_singleton]
      rw [←e];exact ec
     rw [this];simp
   ·rw [eD (by omega)]
    by_cases er:r=k
    ·subst er
     rw [if_pos rfl,vA (by omega) hne]
    ·rw [if_neg er];exact ho1 r (by omega)
   ·rw [eD (by omega),if_neg (by omega)];exact ho2 r (by omega)
  ·have hke:k=index:=by
    rcases Nat.lt_trichotomy k index with h|h|h
    ·exact absurd ⟨by omega,by omega,by omega,by omega,by omega⟩ hin
    ·exact h
    ·exact absurd ⟨by omega,by omega,by omega,by omega,by omega⟩ hin
   rw [ag (x:=(k:Int)+1) (by omega)]
   refine ⟨⟨k+1,v,out,by omega,by omega,hvl,fun c hc=> ?_,hol,fun r hr=> ?_,fun r hr=>ho2 r (by omega),h5⟩,by dsimp only;omega⟩
   ·rw [hv c hc,hke,Gf]
   ·by_cases er:r=k
    ·subst er
     rw [ho2 r (Nat.le_refl _)]
     unfold lE
     rw [List.getD,List.getElem?_map,List.getElem?_range (by omega)]
     simp [hke]
    ·exact ho1 r (by omega)
 ·have hge:k=last.length+1:=by
   have:=of_decide_eq_false hge;omega
  subst hge
  have:out=lE last index:=by
   apply List.ext_getElem (by rw [hol,vQ])
   intro r h1 h2
   have:=ho1 r (by omega)
   simpa [List.getD,h1,h2] using this
  rw [this] at h5
  exact hK s27 w5 h5.p1.drop
end
end Go.Proofs.YtcdpblipagajiaaGreat
set_option maxRecDepth 20000
namespace Go.Vc
open Go Go.Sort
def Gr (W w:World):Prop:= ∃q os,w=grow (W.drewN q) os
theorem Gr.refl (W:World):Gr W W:=⟨0,#[],by simp [World.drewN]⟩
theorem Gr.alloc {W w:World} (h:Gr W w) (o:Obj):Gr W (w.alloc o):=by
 obtain ⟨q,os,rfl⟩:=h
 exact ⟨q,os++ #[o],by rw [alloc_eq_grow,grow_grow]⟩
theorem Gr.drew {W w:World} (h:Gr W w):Gr W {w with drawn:=w.drawn+1}:=by
 obtain ⟨q,os,rfl⟩:=h
 exact ⟨q+1,os,rfl⟩
theorem Nw.gr {W E w:World} {F:List HP} {t:TypeId} {cs:Array Value} {K:Nat→World→Prop} (hh:Hp E w F) (hg:Gr W w) (h: ∀b w',Hp E w' (aj b (.cells cs t (0,0))::F)→Gr W w'→K b w'):Nw t cs w K:=h _ _ (hh.alloc _) (hg.alloc _)
end Go.Vc
namespace Go.Proofs.YtcdpblipagajiaaGreat
open Go Go.Vc Go.Sort
section
variable {E w:World} {F:List HP}
theorem Bu {x:Int} {K:Bool→World→Prop} (hK:K false w):Cl Tryz.prog [kB] gd ⟨[.int .i64 x]⟩ w K:=by
 refine cmp_isNaN_int.ok _ _ _ ?_
 simpa using hK
theorem vy {x y:Int} {K:Int→World→Prop} (hK:K (qA x y) w):Cl Tryz.prog [kI] cq ⟨[.int .i64 x,.int .i64 y]⟩ w K:=by
 refine nc.ok _ _ _ _ ?_
 refine Bu (Bu (aa.f rfl (aa.f rfl ?_)))
 unfold qA at hK
 by_cases h1:x<y
 ·rw [if_pos h1] at hK;exact aa.t (decide_eq_true h1) hK
 ·rw [if_neg h1] at hK
  refine aa.f (decide_eq_false h1) ?_
  by_cases h2:x>y
  ·rw [if_pos h2] at hK;exact aa.t (decide_eq_true h2) hK
  ·rw [if_neg h2] at hK;exact aa.f (decide_eq_false h2) hK
theorem KU {a b:Int} {s:Sl} {K:Int→World→Prop} (hs:aA 1 s [vI a,vI b] w) (hl:s.len=2) (hK:K (if a !=0 then a else b) w):Cl Tryz.prog [kI] mi ⟨[.slice s.base s.len s.cap]⟩ w K:=by
 refine CU.ok _ _ _ ?_
 refine ⟨fun i w'=>w'=w∧(i=0∨(i=1∧a=0)∨(i=2∧a=0∧b=0)),fun i _=>(2 - i).toNat,⟨rfl,.inl rfl⟩,?_⟩
 rintro i w' ⟨rfl,hi⟩
 rw [hl]
 rcases hi with rfl|⟨rfl,rfl⟩|⟨rfl,rfl,rfl⟩
 ·refine aa.t (by decide) (ar.rd hs (by omega) (by rw [hl];decide) fun p hp hc=>Ld.sc (s:= .int .i64) a hc ?_)
  refine aa.mk (fun h=> ?_) (fun h=> ?_)
  ·rw [h] at hK;exact hK
  ·exact ⟨⟨rfl,.inr (.inl ⟨by decide,by simpa using h⟩)⟩,by dsimp only;decide⟩
 ·refine aa.t (by decide) (ar.rd hs (by omega) (by rw [hl];decide) fun p hp hc=>Ld.sc (s:= .int .i64) b hc ?_)
  refine aa.mk (fun h=> ?_) (fun h=> ?_)
  ·exact hK
  ·exact ⟨⟨rfl,.inr (.inr ⟨by decide,rfl,by simpa using h⟩)⟩,by dsimp only;decide⟩
 ·exact aa.f (by decide) hK
theorem FO {i:FuncId} {args:Array Value} {r:Int} (h:Cl Tryz.prog [kI] i args w fun x w'=>x=r∧Gr w w'):Calls Tryz.prog i args w fun e w'=>e= .returned (.int .i64 r)∧∃q os',w'=grow (w.drewN q) os':=by
 refine Calls.mono h fun e w' he=> ?_
 cases e with
 |returned v=>
  obtain ⟨x,rfl,rfl,hg⟩:=Ki.bY (k:=kI) he
  exact ⟨rfl,hg⟩
 |panicked=>exact he.elim
 |outgrown=>exact he.elim
end
end Go.Proofs.YtcdpblipagajiaaGreat
set_option maxRecDepth 20000
namespace Go.Proofs.YtcdpblipagajiaaGreat
open Go Go.Vc Go.Sort
theorem Dk (x y:Int×Int) (W:World):Calls Tryz.prog kf #[.agg ⟨ba x⟩,.agg ⟨ba y⟩] W fun e w'=>e= .returned (.int .i64 (uu x y))∧∃q os',w'=grow (W.drewN q) os':=by
 refine FO (zw.ok (x.1,x.2,()) (y.1,y.2,()) _ _ ?_)
 refine Nw.gr (Hp.start W) (Gr.refl W) fun b1 w1 h1 g1=>Nw.gr h1 g1 fun b2 w2 h2 g2=> ?_
 refine ⟨dy W _,dy.mk h2.drew,?_⟩
 refine ad.aC (s:= .int .i64) (fun w h=>h.DC) x.1 rfl ?_
 refine ad.aC (s:= .int .i64) (fun w h=>h.front) y.1 rfl ?_
 refine ad.aC (s:= .int .i64) (fun w h=>h.DC) x.2 rfl ?_
 refine ad.aC (s:= .int .i64) (fun w h=>h.front) y.2 rfl ?_
 refine vy ⟨dy.mk h2.drew,vy ⟨dy.mk h2.drew,?_⟩⟩
 refine Nw.gr (h2.drew (n:=w2.drawn+1)) g2.drew fun b3 w3 h3 g3=>⟨dy.rJ h3,?_⟩
 refine KU (a:=qA x.1 y.1) (b:=qA x.2 y.2) (s:=⟨some ⟨b3,0,none⟩,2,2⟩) (h3.al (ab.aC rfl rfl)) rfl ⟨dy.rJ h3,rfl,g3⟩
end Go.Proofs.YtcdpblipagajiaaGreat
set_option maxRecDepth 20000
namespace Go.Vc
open Go
set_option linter.unusedSectionVars false
section
variable {P:Program} {α β:Type} [DecidableEq α] {ke:α→Value} {ve:β→Value} {kt vt t ty:TypeId} {E w:World} {F:List HP} {m:Option Nat} {l:List (α×β)}
theorem F4 {es:List MapEntry} (h:eC ke ve es l):es.length=l.length:=by
 have:=congrArg List.length h
 simpa using this
theorem rS (hk:nE P kt ke) (hu:P.underlying t=some (.map kt vt)) {a:α} {z:Value} (hz: ∀w,(zeroValue vt).run P w= .ok z w) (h:Hp E w (kd ke ve m l::F)):
  (Instr.lookup t (.map m) (ke a) false).run P w= .ok (match findAt a l 0 with|some q=>ve q.2|none=>z) w:=by
 obtain ⟨r,es,clock,rfl,he,hB⟩:=h.ra
 have hb:=hB.aC
 have hfk:=nW (ve:=ve) hk a w es.toList l he
 cases hf:findAt a l 0 with
 |none=>
  rw [hf] at hfk
  simp [Instr.lookup,run_underlying hu,MapKept.run_getObj_map hb,hk.check,hfk,hz]
 |some q=>
  rw [hf] at hfk
  simp [Instr.lookup,run_underlying hu,MapKept.run_getObj_map hb,hk.check,hfk]
theorem yU (hu:P.underlying t=some (.map kt vt)) {K:Int→World→Prop} (h:Hp E w (kd ke ve m l::F)) (hK:K (l.length:Int) w):aD P (Builtin.len_ #[t] ty ⟨[.map m]⟩) kI w K:=by
 obtain ⟨r,es,clock,rfl,he,hB⟩:=h.ra
 have hb:=hB.aC
 have hl:=F4 he
 unfold aD
 have:(Builtin.len_ #[t] ty ⟨[.map (some r)]⟩).run P w= .ok (.int .i64 (l.length:Int)) w:=by
  simp [Builtin.len_,run_underlying hu,MapKept.run_getObj_map hb,goInt,←hl]
 rw [this]
 exact hK
end
end Go.Vc
namespace Go.Proofs
open Go.Shelf
def Tryz.qB:Go.Shelf.Ren:=⟨fun|6=>209|15=>219|14=>218|28=>231|29=>232|20=>223|21=>224|22=>225|23=>226|24=>227|25=>228|26=>229|27=>230|46=>234|47=>235|48=>236|49=>237|50=>238|57=>239|n=>n,fun|22=>237|24=>239|25=>249|3=>3|39=>88|0=>0|53=>49|55=>213|4=>4|46=>265|45=>264|50=>157|5=>5|9=>9|66=>272|70=>276|76=>278|77=>206|n=>n,fun|n=>n⟩
theorem Tryz.Fp:Go.Proofs.SlLaysF0.n6 Tryz.prog Tryz.qB:={
 mixed:=by kernel_rfl
 f6:=⟨Tryz.f209.name,by decide,Tryz.func209.trans (congrArg some (by kernel_rfl))⟩
 f14:=⟨Tryz.f218.name,by decide,Tryz.func218.trans (congrArg some (by kernel_rfl))⟩
 f15:=Tryz.func219.trans (congrArg some (by kernel_rfl))
 f20:=⟨Tryz.f223.name,by decide,Tryz.func223.trans (congrArg some (by kernel_rfl))⟩
 f21:=⟨Tryz.f224.name,by decide,Tryz.func224.trans (congrArg some (by kernel_rfl))⟩
 f22:=⟨Tryz.f225.name,by decide,Tryz.func225.trans (congrArg some (by kernel_rfl))⟩
 f23:=⟨Tryz.f226.name,by decide,Tryz.func226.trans (congrArg some (by kernel_rfl))⟩
 f24:=⟨Tryz.f227.name,by decide,Tryz.func227.trans (congrArg some (by kernel_rfl))⟩
 f25:=⟨Tryz.f228.name,by decide,Tryz.func228.trans (congrArg some (by kernel_rfl))⟩
 f26:=⟨Tryz.f229.name,by decide,Tryz.func229.trans (congrArg some (by kernel_rfl))⟩
 f27:=⟨Tryz.f230.name,by decide,Tryz.func230.trans (congrArg some (by kernel_rfl))⟩
 f28:=Tryz.func231.trans (congrArg some (by kernel_rfl))
 f29:=Tryz.func232.trans (congrArg some (by kernel_rfl))
 f46:=⟨Tryz.f234.name,by decide,Tryz.func234.trans (congrArg some (by kernel_rfl))⟩
 f47:=Tryz.func235.trans (congrArg some (by kernel_rfl))
 f48:=Tryz.func236.trans (congrArg some (by kernel_rfl))
 f49:=⟨Tryz.f237.name,by decide,Tryz.func237.trans (congrArg some (by kernel_rfl))⟩
 f50:=⟨Tryz.f238.name,by decide,Tryz.func238.trans (congrArg some (by kernel_rfl))⟩
 f57:=⟨Tryz.f239.name,by decide,Tryz.func239.trans (congrArg some (by kernel_rfl))⟩
 t0:=Tryz.underlying0
 a0:=Tryz.isAgg0
 z0:=Tryz.sizeOf0
 v0:=Tryz.zeroValue0
 t3:=Tryz.underlying3
 a3:=Tryz.isAgg3
 z3:=Tryz.sizeOf3
 v3:=Tryz.zeroValue3
 t4:=Tryz.underlying4
 a4:=Tryz.isAgg4
 z4:=Tryz.sizeOf4
 v4:=Tryz.zeroValue4
 t5:=Tryz.underlying5
 a5:=Tryz.isAgg5
 z5:=Tryz.sizeOf5
 v5:=Tryz.zeroValue5
 t9:=Tryz.underlying9
 a9:=Tryz.isAgg9
 z9:=Tryz.sizeOf9
 v9:=Tryz.zeroValue9
 t22:=Tryz.underlying237
 a22:=Tryz.isAgg237
 z22:=Tryz.sizeOf237
 v22:=Tryz.zeroValue237
 t25:=Tryz.underlying249
 a25:=Tryz.isAgg249
 z25:=Tryz.sizeOf249
 v25:=Tryz.zeroValue249
 t39:=Tryz.underlying88
 a39:=Tryz.isAgg88
 z39:=Tryz.sizeOf88
 v39:=Tryz.zeroValue88
 t45:=Tryz.underlying264
 a45:=Tryz.isAgg264
 z45:=Tryz.sizeOf264
 v45:=Tryz.zeroValue264
 t46:=Tryz.underlying265
 a46:=Tryz.isAgg265
 z46:=Tryz.sizeOf265
 v46:=Tryz.zeroValue265
 t50:=Tryz.underlying157
 a50:=Tryz.isAgg157
 z50:=Tryz.sizeOf157
 v50:=Tryz.zeroValue157
 t53:=Tryz.underlying49
 a53:=Tryz.isAgg49
 z53:=Tryz.sizeOf49
 v53:=Tryz.zeroValue49
 t55:=Tryz.underlying213
 a55:=Tryz.isAgg213
 z55:=Tryz.sizeOf213
 v55:=Tryz.zeroValue213
 t66:=Tryz.underlying272
 a66:=Tryz.isAgg272
 z66:=Tryz.sizeOf272
 v66:=Tryz.zeroValue272
 t70:=Tryz.underlying276
 a70:=Tryz.isAgg276
 z70:=Tryz.sizeOf276
 v70:=Tryz.zeroValue276
 t76:=Tryz.underlying278
 a76:=Tryz.isAgg278
 z76:=Tryz.sizeOf278
 v76:=Tryz.zeroValue278
 t77:=Tryz.underlying206
 a77:=Tryz.isAgg206
 z77:=Tryz.sizeOf206
 v77:=Tryz.zeroValue206}
end Go.Proofs
set_option maxRecDepth 20000
namespace Go.Vc
open Go
theorem rG {α β:Type} [DecidableEq α] {a:α}: ∀{l:List (α×β)} {i:Nat},a∉l.map (·.1)→findAt a l i=none
 | [],_,_=>rfl
 |p::l,i,h=>by
  simp only [List.map_cons,List.mem_cons,not_or] at h
  unfold findAt
  rw [if_neg h.1,rG h.2]
theorem qH {α β:Type} [DecidableEq α] {a:α}: ∀{l:List (α×β)} {i j:Nat} {v:β},(l.map (·.1)).Nodup→l[j]? =some (a,v)→findAt a l i=some (i+j,v)
 | [],_,_,_,_,h=>by simp at h
 |p::l,i,0,v,_,h=>by
  have:p=(a,v):=by simpa using h
  subst this
  unfold findAt
  rw [if_pos rfl];rfl
 |p::l,i,j+1,v,hn,h=>by
  have h':l[j]? =some (a,v):=by simpa using h
  rw [List.map_cons,List.nodup_cons] at hn
  have hne:a≠p.1:=fun e=>hn.1 (by rw [←e];exact List.mem_map.2 ⟨(a,v),List.mem_of_getElem? h',rfl⟩)
  unfold findAt
  rw [if_neg hne,qH hn.2 h']
  congr 2;omega
theorem lq.KK {P:Program} {s:Sem Value} {w:World} {K:Int→Bool→World→Prop} (x:Int) (b:Bool) (h:s.run P w= .ok (.tuple #[.int .i64 x,.bool b]) w) (hK:K x b w):lq P s [kI,kB] w K:=by
 unfold lq
 rw [h]
 exact hK
theorem K4.of {P:Program} {s:Sem Value} {w:World} {K:Int→World→Prop} (x:Int) (h:s.run P w= .ok (.int .i64 x) w) (hK:K x w):aD P s kI w K:=by
 unfold aD
 rw [h]
 exact hK
def zm (a:Int×Int):Value:= .agg ⟨[.int .i64 a.1,.int .i64 a.2]⟩
def vz (z:Int):Value:= .int .i64 z
def fU (d:List (Int×Int)):List ((Int×Int)×Int):=d.zipIdx.map fun p=>(p.1,(p.2:Int))
theorem pV (d:List (Int×Int)):(fU d).map (·.1)=d:=by
 unfold fU
 rw [List.map_map]
 have:((fun x:(Int×Int)×Int=>x.1)∘fun p:(Int×Int)×Nat=>(p.1,(p.2:Int)))=Prod.fst:=rfl
 rw [this,List.zipIdx_map_fst]
theorem Ee (d:List (Int×Int)) (x:Int×Int):fU (d++ [x])=fU d++ [(x,(d.length:Int))]:=by
 unfold fU
 rw [List.zipIdx_append,List.map_append]
 simp
theorem yp (d:List (Int×Int)):(fU d).length=d.length:=by simp [fU]
theorem BU {d:List (Int×Int)} {j:Nat} (hj:j<d.length):(fU d)[j]? =some (d[j],(j:Int)):=by
 unfold fU
 simp [hj]
end Go.Vc
namespace Go.Proofs.YtcdpblipagajiaaGreat
open Go Go.Vc Go.Bw Go.Hs
theorem BR {α:Type} (f:Nat→α) (n i:Nat) (x:α):((List.range n).map f).set i x=(List.range n).map fun j=>if j=i then x else f j:=by
 apply List.ext_getElem (by simp)
 intro j h1 h2
 simp only [List.getElem_set,List.getElem_map,List.getElem_range]
 by_cases e:i=j
 ·rw [if_pos e,if_pos e.symm]
 ·rw [if_neg e,if_neg (fun h=>e h.symm)]
section
variable {E w:World} {F:List HP}
def E1 (last:List Nat) (index:Int):Prop:=0≤index∧okB last index.toNat
set_option maxRecDepth 20000 in
theorem FM {last:List Nat} {s:Sl} {index:Int} {K:Sl→Int→World→Prop} (h:Hp E w F) (hs:ab F (aA 1 s (last.map vB))) (hb: ∀x∈last,x<256) (hn:last.length≤900000)
  (hK1:E1 last index→∀s' w',Hp E w' (ak 1 s' ((eT last index.toNat).map vB)::F)→K s' 0 w') (hK2: ¬E1 last index→∀w',Hp E w' F→K ⟨none,0,0⟩ 170 w'):
  Cl Tryz.prog [kS,kI] o4 ⟨[.slice s.base s.len s.cap,.int .i64 index]⟩ w K:=by
 refine Fx.ok _ _ _ _ ?_
 simp only [ax]
 have hl:=(h.al hs).1
 simp only [List.length_map,Nat.mul_one] at hl
 refine aa.mk (fun g=>hK2 (fun hh=>by have:=of_decide_eq_true g;have:=hh.1;omega) w h) (fun g1=> ?_)
 refine aa.mk (fun g=>hK2 (fun hh=>by have:=of_decide_eq_true g;have:=hh.2.1;have:=hh.1;omega) w h) (fun g2=> ?_)
 have g1:=of_decide_eq_false g1
 have g2:=of_decide_eq_false g2
 obtain ⟨ix,rfl⟩:=Int.eq_ofNat_of_zero_le (show 0≤index by omega)
 rw [Int.toNat_natCast] at hK1
 have hix:ix≤last.length:=by omega
 refine aa.mk (fun g3=>aa.mk (fun g4=>hK2 (fun hh=> ?_) w h) (fun g4=> ?_)) (fun g3=> ?_)
 ·have g3:=beq_iff_eq.1 g3
  have g4:=of_decide_eq_true g4
  have:=hh.2
  rw [g3] at this
  exact FA (by omega) this
 all_goals
  refine E5 h hs hb hn hix fun s6 w1 h1=> ?_
  refine uZ (by kernel_rfl) HV rfl (by omega) (by decide) h1 fun s8 w2 hs8 h2=> ?_
  rw [Jz] at h2
  refine ⟨fun row i w'=> ∃(k:Nat) (T:List Nat),i=(last.length:Int) - 1 - (k:Int)∧k≤last.length∧row=(wk last ix k:Int)∧(∀j,j<k→wk last ix j≠ix)∧T.length=last.length∧(∀j,j<k→T.getD (last.length - 1 - j) 0=last.getD (bS ix (wk last ix j)) 0)∧
    Hp E w' (ak 1 s8 (T.map vB)::ak 1 s6 ((lE last ix).map vI)::F),fun _ i _=>(i+1).toNat,
   ⟨0,_,by rw [ag (by omega)];omega,by omega,rfl,fun j hj=>by omega,by rw [List.length_replicate];omega,fun j hj=>by omega,h2⟩,?_⟩
  rintro row i w3 ⟨k,T,rfl,hk,rfl,hne,hTl,hT,h3⟩
  have hwl:=G0 hix k hne
  refine aa.mk (fun hge=> ?_) (fun hlt=> ?_)
  ·have hge:k<last.length:=by have:=of_decide_eq_true hge;omega
   refine Bl hl.symm (by rw [av];omega) (fun hin=>aa.f rfl ?_) (fun hin=>aa.t rfl (hK2 (fun hh=> ?_) w3 h3.drop.drop))
   ·have hat:=yz hin
    have hnk:wk last ix k≠ix:=by have:=hin.2.2.2.2;omega
    rw [Int.toNat_natCast,Int.toNat_natCast] at hat⊢
    refine ar.nB (h3.al (ab.cons (ab.cons hs))) rfl hat (ar.JI (j:=last.length - 1 - k) h3 (by omega) (by omega) fun w4 h4=> ?_)
    refine ar.nI (j:=wk last ix k) (h4.al (ab.cons ab.own)) rfl (by rw [vQ];omega) ?_
    rw [vA hwl hnk]
    refine ⟨⟨k+1,_,by rw [ag (by omega)];omega,by omega,rfl,fun j hj=> ?_,by rw [List.length_set];exact hTl,fun j hj=> ?_,h4⟩,by dsimp only;rw [ag (by omega)];omega⟩
    ·by_cases e:j=k
     ·subst e;exact hnk
     ·exact hne j (by omega)
    ·by_cases e:j=k
     ·subst e
      simp [List.getD,hTl,show last.length - 1 - j<last.length by omega]
     ·have:=hT j (by omega)
      rw [←this]
      simp only [List.getD,List.getElem?_set]
      rw [if_neg (by omega)]
   ·have h5:=hh.2.2.1 k hge
    rw [Int.toNat_natCast] at h5
    exact hin ⟨by omega,by omega,by omega,by omega,by omega⟩
  ·have hke:k=last.length:=by have:=of_decide_eq_false hlt;omega
   subst hke
   refine aa.mk (fun g=>hK2 (fun hh=> ?_) w3 h3.drop.drop) (fun g=> ?_)
   ·have:=hh.2.2.2
    rw [Int.toNat_natCast] at this
    rw [this] at g
    simp at g
   ·have hend:wk last ix last.length=ix:=by
     have:(wk last ix last.length:Int)=(ix:Int):=by simpa using g
     omega
    have hok:E1 last (ix:Int):=⟨by omega,by rw [Int.toNat_natCast];exact ⟨hix,hne,hend⟩⟩
    rw [F3 hTl hT] at h3
    exact hK1 hok s8 w3 h3.p1.drop
theorem I5:bK Tryz.prog 33 3 1 8:= .of (by kernel_rfl) (by kernel_rfl)
theorem Hv:bK Tryz.prog 237 239 2 16:= .of (by kernel_rfl) (by kernel_rfl)
theorem Gc: ∃i,Tryz.prog.info? 239=some i∧i.zero=some (.agg ⟨[.int .i64 0,.int .i64 0]⟩)∧i.size=2∧i.bytes=16:=by
 have h:(Tryz.prog.info? 239).map (fun i=>(i.zero,i.size,i.bytes))=some (some (.agg ⟨[.int .i64 0,.int .i64 0]⟩),2,16):=by kernel_rfl
 obtain ⟨i,h1,h2⟩:=Option.map_eq_some_iff.1 h
 simp only [Prod.mk.injEq] at h2
 exact ⟨i,h1,h2⟩
theorem CA {s:Sl} {xs:List (Int×Int)} {K:World→Prop} (h:Hp E w (ak 2 s (xs.flatMap ba)::F)) (hsz:xs.length<4611686018427387904) (hK: ∀w',Hp E w' (ak 2 s ((a7 xs).flatMap ba)::F)→K w'):
  Cl Tryz.prog [] dg ⟨[.slice s.base s.len s.cap,.func (.func kf) ⟨[]⟩ ⟨[]⟩]⟩ w K:=
 Hw (ρ:=Tryz.qB) Tryz.Fp Tryz.isAgg239 Tryz.sizeOf239 (by kernel_rfl) (fun x y W=>Dk x y W) h hsz hK
set_option maxRecDepth 200000 in
theorem As {s:Sl} {l:List (Int×Int)} {K:Sl→World→Prop} (h:Hp E w F) (hs:ab F (aA 2 s (l.flatMap ba))) (hn:l.length≤1000000) (hK: ∀s' w',Hp E w' (ak 2 s' (l.flatMap ba)::F)→K s' w'):
  Cl Tryz.prog [kS] cf ⟨[.slice s.base s.len s.cap]⟩ w K:=by
 refine jx.ok _ _ _ ?_
 refine aa.mk (fun hb=> ?_) (fun hb=> ?_)
 ·have hl:l= []:=by
   cases l with
   |nil=>rfl
   |cons x l=>
    obtain ⟨p,hp,_⟩:=(h.al hs).2 0 (by rw [cE bO];simp)
    rw [hp] at hb;cases hb
  subst hl
  exact hK _ w (h.bJ 2)
 ·refine Nw.mk h fun b w1 h1=> ?_
  have hnew:Hp E w1 (ak 2 ⟨some ⟨b,0,none⟩,0,0⟩ (([]:List (Int×Int)).flatMap ba)::F):=h1.iw (n:=0) (sz:=2) rfl
  exact JB (s:=⟨some ⟨b,0,none⟩,0,0⟩) (l:= []) (ys:=l) Hv bO (by decide) Av hnew (hnew.al (ab.cons hs)) (by simp only [List.length_nil];omega) (by simp only [List.length_nil];omega) fun s' w2 h2 _=>hK s' w2 (by rw [List.nil_append] at h2;exact h2)
set_option maxRecDepth 200000 in
theorem uk:nE Tryz.prog (α:=Int×Int) 239 zm where
 und:=⟨_,rfl,fun a b=> .inl rfl⟩
 check:=fun e a w=>by
  have: ∀(e:Bool) (c n:Int) (w:World),(Instr.checkKey e 10000 239 (.agg ⟨[.int .i64 c,.int .i64 n]⟩)).run Tryz.prog w= .ok () w:=fun e c n w=>by kernel_rfl
  exact this e a.1 a.2 w
 eq:=fun a b w=>by
  have key: ∀c n d m:Int,ru Tryz.prog 8 239 (.agg ⟨[.int .i64 c,.int .i64 n]⟩) (.agg ⟨[.int .i64 d,.int .i64 m]⟩) (fun r=>r=((c==d)&&(n==m))):=fun c n d m=>by
   have e:ru Tryz.prog 8 239 (.agg ⟨[.int .i64 c,.int .i64 n]⟩) (.agg ⟨[.int .i64 d,.int .i64 m]⟩) (fun r=>r=((c==d)&&(n==m)))=(((c==d)&&(n==m))=((c==d)&&(n==m))):=by kernel_rfl
   rw [e]
  obtain ⟨r,h1,h2⟩:=nv 8 _ _ _ _ (key a.1 a.2 b.1 b.2)
  have:=h1 10000 (by decide) w
  have e:decide (a=b)=((a.1==b.1)&&(a.2==b.2)):=by
   rw [Bool.eq_iff_iff]
   simp [Prod.ext_iff]
  rw [e,←h2];exact this
 same:=fun a=>by
  unfold zm Instr.sameBits
  simp [Instr.sameBits]
theorem oo:Tryz.prog.underlying 250=some (.map 239 3):=by kernel_rfl
theorem vq (w:World):(zeroValue 3).run Tryz.prog w= .ok (vz 0) w:=Tryz.zeroValue3 w
theorem nP {x:Int×Int}: ∀v∈ [Value.int .i64 x.1,.int .i64 x.2],ay v=true:=by
 intro v hv
 simp only [List.mem_cons,List.not_mem_nil,or_false] at hv
 rcases hv with rfl|rfl<;>rfl
set_option maxRecDepth 20000 in
theorem GO {s:Sl} {l:List (Int×Int)} {K:Sl→Int→World→Prop} (h:Hp E w F) (hs:ab F (aA 2 s (l.flatMap ba))) (hn:l.length≤1000000) (hK: ∀s' w',Hp E w' (ak 1 s' ((l.map fun p=>(ep l p:Int)).map vI)::F)→K s' ((dd l).length:Int) w'):
  Cl Tryz.prog [kS,kI] gw ⟨[.slice s.base s.len s.cap]⟩ w K:=by
 refine CL.ok _ _ _ ?_
 have hlen:=aA.len bO (by decide) (h.al hs)
 have hsl:=jf l
 refine As h hs hn fun s3 w1 h1=>CA h1 (by omega) fun w2 h2=> ?_
 have hlen3:=aA.len bO (by decide) (h2.al ab.own)
 refine run_makeMap (ke:=zm) (ve:=vz) h2 fun m w3 h3=> ?_
 refine ⟨fun i w'=> ∃k:Nat,i=(k:Int)∧k≤l.length∧Hp E w' (kd zm vz m (fU (bP ((a7 l).take k)))::ak 2 s3 ((a7 l).flatMap ba)::F),fun i _=>l.length - i.toNat,⟨0,rfl,by omega,h3⟩,?_⟩
 rintro i w4 ⟨k,rfl,hk,h4⟩
 refine aa.mk (fun hlt=> ?_) (fun hge=> ?_)
 ·have hlt:k<(a7 l).length:=by have:=of_decide_eq_true hlt;omega
  refine ar.GX (g:=ba) bO (by decide) h4 (ab.cons ab.own) rfl hlt fun p hp=> ?_
  obtain ⟨x,hx⟩: ∃x,x=(a7 l)[k]:=⟨_,rfl⟩
  rw [←hx] at hp
  refine Ld.st (x.1,x.2,()) (fun j hj=>h4.al (hp j hj)) ?_
  refine Nw.mk h4 fun b14 w5 h5=>af.aC h5 rfl nP fun w6 h6=> ?_
  refine Ld.pw h6 (x.1,x.2,()) rfl ?_
  have h7:=h6.p1
  have hft:=nQ (S:=a7 l) hlt
  rw [←hx] at hft
  have hfl:=(nY (S:=a7 l) k (by omega)).1
  have step: ∀{w':World} {A:HP},Hp E w' (kd zm vz m (fU (bP ((a7 l).take (k+1))))::A::ak 2 s3 ((a7 l).flatMap ba)::F)→
    (∃k':Nat,i64 ((k:Int)+1)=(k':Int)∧k'≤l.length∧Hp E w' (kd zm vz m (fU (bP ((a7 l).take k')))::ak 2 s3 ((a7 l).flatMap ba)::F))∧l.length - (i64 ((k:Int)+1)).toNat<l.length - (k:Int).toNat:=fun {w' A} h'=>
   ⟨⟨k+1,by rw [ag (by omega)];omega,by omega,h'.p1.drop⟩,by rw [ag (by omega)];omega⟩
  have hlk:=C8 (kt:=239) (vt:=3) (a:=x) (z:=vz 0) uk oo vq h7
  by_cases hm:x∈bP ((a7 l).take k)
  ·obtain ⟨j,hj,hje⟩:=List.getElem_of_mem hm
   have hfa:findAt x (fU (bP ((a7 l).take k))) 0=some (0+j,(j:Int)):=qH (by
    rw [pV]
    exact (k7 (ml l) k (by omega)).imp fun {a b} hab e=>by subst e;rw [lY] at hab;cases hab) (by rw [BU hj,hje])
   rw [hfa] at hlk
   refine lq.KK (j:Int) true hlk (aa.f rfl ?_)
   have hfe:bP ((a7 l).take (k+1))=bP ((a7 l).take k):=by rw [hft];unfold fi;rw [if_pos hm]
   exact step (by rw [hfe];exact h7)
  ·have hfa:findAt x (fU (bP ((a7 l).take k))) 0=none:=rG (by rw [pV];exact hm)
   rw [hfa] at hlk
   refine lq.KK 0 false hlk (aa.t rfl ?_)
   refine Ld.pw h6 (x.1,x.2,()) rfl ?_
   refine yU oo h7 ?_
   rw [yp]
   refine ed (kt:=239) (vt:=3) (a:=x) (b:=((bP ((a7 l).take k)).length:Int)) uk oo h7 fun w7 h8=> ?_
   have hfe:bP ((a7 l).take (k+1))=bP ((a7 l).take k)++ [x]:=by rw [hft];unfold fi;rw [if_neg hm]
   rw [qG hfa,←Ee,←hfe] at h8
   exact step h8
 have hge:k=(a7 l).length:=by have:=of_decide_eq_false hge;omega
 subst hge
 rw [List.take_length] at h4
 have hdn:((fU (dd l)).map (·.1)).Nodup:=by
  rw [pV]
  exact (nw l).imp fun {a b} hab e=>by subst e;rw [lY] at hab;cases hab
 refine ⟨fun o i w'=> ∃k:Nat,i=(k:Int)∧k≤l.length∧Hp E w' (ak 1 o (((l.take k).map fun p=>(ep l p:Int)).map vI)::kd zm vz m (fU (dd l))::ak 2 s3 ((a7 l).flatMap ba)::F),fun _ i _=>l.length - i.toNat,⟨0,rfl,by omega,h4.bJ 1⟩,?_⟩
 rintro o i w5 ⟨k,rfl,hk,h5⟩
 refine aa.mk (fun hlt=> ?_) (fun hge=> ?_)
 ·have hlt:k<l.length:=by have:=of_decide_eq_true hlt;omega
  refine ar.GX (g:=ba) bO (by decide) h5 (ab.cons (ab.cons (ab.cons hs))) rfl hlt fun p hp=> ?_
  obtain ⟨x,hx⟩: ∃x,x=l[k]:=⟨_,rfl⟩
  have hxl:x∈l:=by rw [hx];exact List.getElem_mem hlt
  rw [←hx] at hp
  refine Ld.st (x.1,x.2,()) (fun j hj=>h5.al (hp j hj)) ?_
  refine Nw.mk h5 fun b32 w6 h6=>af.aC h6 rfl nP fun w7 h7=> ?_
  refine Ld.pw h7 (x.1,x.2,()) rfl ?_
  obtain ⟨hj,hje⟩:=Kl hxl
  have hfa:findAt x (fU (dd l)) 0=some (0+ep l x,(ep l x:Int)):=qH hdn (by rw [BU hj,hje])
  have hlk:=rS (kt:=239) (vt:=3) (a:=x) (z:=vz 0) uk oo vq h7.p2
  rw [hfa] at hlk
  refine K4.of (ep l x:Int) hlk ?_
  refine KD I5 rfl h7.p1 (by rw [List.length_map,List.length_take,av];omega) fun s' w8 h8 _=>⟨⟨k+1,by rw [ag (by omega)];omega,by omega,?_⟩,by dsimp only;rw [ag (by omega)];omega⟩
  have e:(l.take (k+1)).map (fun p=>(ep l p:Int))=(l.take k).map (fun p=>(ep l p:Int))++ [(ep l x:Int)]:=by
   rw [List.take_add_one,List.getElem?_eq_getElem hlt,List.map_append,←hx];rfl
  rw [e]
  exact h8.p1.drop
 ·have hge:k=l.length:=by have:=of_decide_eq_false hge;omega
  subst hge
  rw [List.take_length] at h5
  refine yU oo h5.p1 ?_
  rw [yp]
  exact hK o w5 h5.p1.drop.p1.drop
end
end Go.Proofs.YtcdpblipagajiaaGreat
set_option maxRecDepth 20000
namespace Go.Proofs.YtcdpblipagajiaaGreat
open Go Go.Vc Go.Bw Go.Hs
section
variable {E w:World} {F:List HP}
def dY (t:List Nat) (f:Nat→Int×Int):List (Int×Int):=(List.range (t.length+1)).map f
theorem py (t:List Nat) (f:Nat→Int×Int):(dY t f).length=t.length+1:=by simp [dY]
theorem Aa {t:List Nat} {f:Nat→Int×Int} {i:Nat} (hi:i<(dY t f).length):(dY t f)[i]=f i:=by simp [dY]
theorem sk {t:List Nat} {f g:Nat→Int×Int} (h: ∀i,i≤t.length→f i=g i):dY t f=dY t g:=by
 unfold dY
 refine List.map_congr_left fun i hi=> ?_
 rw [List.mem_range] at hi
 exact h i (by omega)
set_option maxRecDepth 200000 in
theorem ID {t:List Nat} {s:Sl} {K:Sl→World→Prop} (h:Hp E w F) (hs:ab F (aA 1 s (t.map vB))) (hb: ∀x∈t,x<256) (hn:t.length≤400000)
  (hK: ∀s' w',Hp E w' (ak 1 s' (((List.range (t.length+1)).map fun i=>(fa t i:Int)).map vI)::F)→K s' w'):Cl Tryz.prog [kS] nS ⟨[.slice s.base s.len s.cap]⟩ w K:=by
 refine DH.ok _ _ _ ?_
 have hl:=(h.al hs).1
 simp only [List.length_map,Nat.mul_one] at hl
 rw [show i64 ((s.len:Int)+1)=((t.length+1:Nat):Int) by rw [ag (by omega)];omega]
 refine IA (g:=ba) (x:=((0,0):Int×Int)) (by kernel_rfl) Gc rfl bO (by decide) (by omega) (by decide) h fun s3 w1 hs3 h1=> ?_
 have e0:List.replicate (t.length+1) ((0,0):Int×Int)=dY t fun _=>(0,0):=by
  apply List.ext_getElem (by rw [py,List.length_replicate])
  intro i h1 h2
  rw [Aa,List.getElem_replicate]
 rw [e0] at h1
 refine ⟨fun i w'=> ∃k:Nat,i=(k:Int)∧k≤t.length∧Hp E w' (ak 2 s3 ((dY t fun j=>if j<k then Bw.cj t j else (0,0)).flatMap ba)::F),fun i _=>t.length - i.toNat,⟨0,rfl,by omega,by simpa using h1⟩,?_⟩
 rintro i w2 ⟨k,rfl,hk,h2⟩
 refine aa.mk (fun hlt=> ?_) (fun hge=> ?_)
 ·have hlt:k<t.length:=by have:=of_decide_eq_true hlt;omega
  have hx:t.getD k 0<256:=by
   rw [List.getD,List.getElem?_eq_getElem hlt]
   exact hb _ (List.getElem_mem hlt)
  refine ar.nB (h2.al (ab.cons hs)) rfl hlt ?_
  rw [ag (x:=(t.getD k 0:Int)) (by omega),ag (x:=1+(t.getD k 0:Int)) (by omega),ag (x:=(k:Int)+1) (by omega)]
  refine ar.setCell (j:=k) (k:=0) (x:=Bw.cj t k) bO (by decide) h2 rfl (by rw [py];omega) rfl ?_ fun w3 h3=>⟨⟨k+1,by omega,by omega,?_⟩,by dsimp only;omega⟩
  ·rw [Aa]
   unfold Bw.cj
   rw [if_neg (Nat.lt_irrefl k),if_pos hlt];rfl
  ·have:(dY t fun j=>if j<k then Bw.cj t j else (0,0)).set k (Bw.cj t k)=dY t fun j=>if j<k+1 then Bw.cj t j else (0,0):=by
    unfold dY
    rw [BR]
    refine List.map_congr_left fun j _=> ?_
    by_cases e:j=k
    ·subst e;rw [if_pos rfl,if_pos (by omega)]
    ·rw [if_neg e]
     by_cases e2:j<k
     ·rw [if_pos e2,if_pos (by omega)]
     ·rw [if_neg e2,if_neg (by omega)]
   rw [←this];exact h3
 have hge:k=t.length:=by have:=of_decide_eq_false hge;omega
 subst hge
 have e1:(dY t fun j=>if j<t.length then Bw.cj t j else (0,0))=aG t (Bw.cj t):=sk fun i hi=>by
  by_cases e:i<t.length
  ·rw [if_pos e]
  ·rw [if_neg e];unfold Bw.cj;rw [if_neg e]
 rw [e1] at h2
 have rk1: ∀{w:World} {f:Nat→Int×Int} {K:Sl→Int→World→Prop},Hp E w (ak 2 s3 ((aG t f).flatMap ba)::F)→(∀s' w',Hp E w' (ak 1 s' (((List.range (t.length+1)).map fun i=>(ep (aG t f) (f i):Int)).map vI)::ak 2 s3 ((aG t f).flatMap ba)::F)→K s' ((dd (aG t f)).length:Int) w')→
   Cl Tryz.prog [kS,kI] gw ⟨[.slice s3.base s3.len s3.cap]⟩ w K:=fun {w f K} h hK=>
  GO (l:=aG t f) h ab.own (by rw [Bw.cr];omega) fun s' w' h'=>hK s' w' (by
   have e:(aG t f).map (fun p=>(ep (aG t f) p:Int))=(List.range (t.length+1)).map fun i=>(ep (aG t f) (f i):Int):=by
    conv=>lhs;rw [show (aG t f).map (fun p=>(ep (aG t f) p:Int))=((List.range (t.length+1)).map f).map (fun p=>(ep (aG t f) p:Int)) from rfl]
    rw [List.map_map];rfl
   rw [←e];exact h')
 refine rk1 h2 fun s13 w3 h3=> ?_
 have hl3:=aA.len bO (by decide) (h3.al (ab.cons ab.own))
 rw [Bw.cr] at hl3
 refine ⟨fun r a wd w'=> ∃(hh:Nat) (f:Nat→Int×Int),wd=(hh:Int)∧1≤hh∧hh≤2*t.length+1∧oc t hh f∧a=((dd (aG t f)).length:Int)∧Hp E w' (ak 1 r (((List.range (t.length+1)).map fun i=>(ep (aG t f) (f i):Int)).map vI)::ak 2 s3 ((aG t f).flatMap ba)::F),
  fun _ _ wd _=>2*t.length+2 - wd.toNat,⟨1,Bw.cj t,rfl,by omega,by omega,Iz t,rfl,h3⟩,?_⟩
 rintro r a wd w4 ⟨hh,f,rfl,h1',hle,hf,rfl,h4⟩
 refine aa.mk (fun hlt=> ?_) (fun hge=> ?_)
 ·have hlt:(dd (aG t f)).length<t.length+1:=by have:=of_decide_eq_true hlt;omega
  have hht:=GH hf hlt
  have hrl:((List.range (t.length+1)).map fun i=>(ep (aG t f) (f i):Int)).length=t.length+1:=by simp
  have hrg: ∀i,i≤t.length→((List.range (t.length+1)).map fun i=>(ep (aG t f) (f i):Int)).getD i 0=(ep (aG t f) (f i):Int):=fun i hi=>by
   rw [List.getD,List.getElem?_map,List.getElem?_range (by omega)];rfl
  obtain ⟨rr,hrr⟩: ∃rr:Nat→Int,rr=fun i=>(ep (aG t f) (f i):Int):=⟨_,rfl⟩
  have hQ:=Im hf
  rw [←hrr] at h4 hrl hrg hQ
  have hrg: ∀i,i≤t.length→((List.range (t.length+1)).map rr).getD i 0=rr i:=fun i hi=>by rw [hrg i hi,hrr]
  refine ⟨fun i w'=> ∃k:Nat,i=(k:Int)∧k≤t.length+1∧Hp E w' (ak 2 s3 ((dY t fun j=>if j<k then dQ t hh rr j else f j).flatMap ba)::ak 1 r (((List.range (t.length+1)).map rr).map vI)::F),fun i _=>t.length+1 - i.toNat,⟨0,rfl,by omega,?_⟩,?_⟩
  ·have:(dY t fun j=>if j<0 then dQ t hh rr j else f j)=aG t f:=sk fun i _=>by rw [if_neg (by omega)]
   rw [this];exact h4.p1
  rintro i w5 ⟨k,rfl,hk,h5⟩
  refine aa.mk (fun hklt=> ?_) (fun hkge=> ?_)
  ·have hklt:k<t.length+1:=by have:=of_decide_eq_true hklt;omega
   refine ar.nI (h5.al (ab.cons ab.own)) rfl (by rw [hrl];exact hklt) ?_
   rw [hrg k (by omega)]
   refine ar.Ko (g:=ba) (j:=k) (x:=((rr k,-1):Int×Int)) bO (by decide) h5 rfl (by rw [py];exact hklt) nP fun w6 h6=> ?_
   have fin: ∀{w':World},Hp E w' (ak 2 s3 (((dY t fun j=>if j<k then dQ t hh rr j else f j).set k (dQ t hh rr k)).flatMap ba)::ak 1 r (((List.range (t.length+1)).map rr).map vI)::F)→
     (∃k':Nat,i64 ((k:Int)+1)=(k':Int)∧k'≤t.length+1∧Hp E w' (ak 2 s3 ((dY t fun j=>if j<k' then dQ t hh rr j else f j).flatMap ba)::ak 1 r (((List.range (t.length+1)).map rr).map vI)::F))∧t.length+1 - (i64 ((k:Int)+1)).toNat<t.length+1 - (k:Int).toNat:=fun {w'} h'=>by
    rw [ag (by omega)]
    refine ⟨⟨k+1,by omega,by omega,?_⟩,by omega⟩
    have:(dY t fun j=>if j<k then dQ t hh rr j else f j).set k (dQ t hh rr k)=dY t fun j=>if j<k+1 then dQ t hh rr j else f j:=by
     unfold dY
     rw [BR]
     refine List.map_congr_left fun j _=> ?_
     by_cases e:j=k
     ·subst e;rw [if_pos rfl,if_pos (by omega)]
     ·rw [if_neg e]
      by_cases e2:j<k
      ·rw [if_pos e2,if_pos (by omega)]
      ·rw [if_neg e2,if_neg (by omega)]
    rw [←this];exact h'
   rw [ag (x:=(k:Int)+(hh:Int)) (by omega)]
   refine aa.mk (fun hin=> ?_) (fun hin=> ?_)
   ·have hin:k+hh≤t.length:=by have:=of_decide_eq_true hin;omega
    refine ar.nI (j:=k+hh) (h6.al (ab.cons ab.own)) (by omega) (by rw [hrl];omega) ?_
    rw [hrg (k+hh) hin]
    refine ar.setCell (j:=k) (k:=1) (x:=dQ t hh rr k) bO (by decide) h6 rfl (by rw [List.length_set,py];exact hklt) rfl ?_ fun w7 h7=>fin ?_
    ·rw [List.getElem_set_self]
     unfold dQ
     rw [if_pos hin];rfl
    ·rw [List.set_set] at h7
     exact h7
   ·have hin: ¬k+hh≤t.length:=by have:=of_decide_eq_false hin;omega
    have e:((rr k,-1):Int×Int)=dQ t hh rr k:=by unfold dQ;rw [if_neg hin]
    rw [e] at h6
    exact fin h6
  ·have hke:k=t.length+1:=by have:=of_decide_eq_false hkge;omega
   subst hke
   have e2:(dY t fun j=>if j<t.length+1 then dQ t hh rr j else f j)=aG t (dQ t hh rr):=sk fun i hi=>by rw [if_pos (by omega)]
   rw [e2] at h5
   have h5:=h5.p1.drop
   refine rk1 h5 fun s34 w6 h6=>⟨by decide,?_⟩
   have e3:a8 .i64 (hh:Int) 1=((hh+hh:Nat):Int):=by
    have hmx:IntKind.max .i64=9223372036854775807:=rfl
    have:=dJ (k:= .i64) (a:=hh) (b:=1) (by decide) (by omega)
    rw [show ((1:Nat):Int)=1 from rfl] at this
    rw [this];omega
   rw [e3]
   exact ⟨⟨hh+hh,dQ t hh rr,rfl,by omega,by omega,Ij hQ,rfl,h6⟩,by dsimp only;omega⟩
 ·have hge:t.length+1≤(dd (aG t f)).length:=by have:=of_decide_eq_false hge;omega
  have e4:(List.range (t.length+1)).map (fun i=>(ep (aG t f) (f i):Int))=(List.range (t.length+1)).map fun i=>(fa t i:Int):=List.map_congr_left fun i hi=>by
   rw [List.mem_range] at hi
   rw [done hf hge (by omega)]
  rw [e4] at h4
  exact hK r w4 h4.p1.drop
set_option maxRecDepth 200000 in
theorem D5 {t:List Nat} {s:Sl} {K:Sl→World→Prop} (h:Hp E w F) (hs:ab F (aA 1 s (t.map vB))) (hb: ∀x∈t,x<256) (hn:t.length≤400000)
  (hK: ∀s' w',Hp E w' (ak 1 s' ((zl (ck t)).map vI)::F)→K s' w'):Cl Tryz.prog [kS] nN ⟨[.slice s.base s.len s.cap]⟩ w K:=by
 refine Ef.ok _ _ _ ?_
 refine ID h hs hb hn fun s3 w1 h1=> ?_
 have hl3:=h1.aH
 rw [List.length_map,List.length_map,List.length_range,Nat.mul_one] at hl3
 refine uZ (by kernel_rfl) Bs rfl (by omega) (by decide) h1 fun s5 w2 hs5 h2=> ?_
 rw [ED] at h2
 have hrg: ∀i,i≤t.length→((List.range (t.length+1)).map fun i=>(fa t i:Int)).getD i 0=(fa t i:Int):=fun i hi=>by
  rw [List.getD,List.getElem?_map,List.getElem?_range (by omega)];rfl
 refine ⟨fun i w'=> ∃(k:Nat) (out:List Int),i=(k:Int)∧k≤t.length+1∧out.length=t.length+1∧(∀j,j<k→out.getD (fa t j) 0=(j:Int))∧Hp E w' (ak 1 s5 (out.map vI)::ak 1 s3 (((List.range (t.length+1)).map fun i=>(fa t i:Int)).map vI)::F),
  fun i _=>t.length+1 - i.toNat,⟨0,_,rfl,by omega,by rw [List.length_replicate];omega,fun j hj=>by omega,h2⟩,?_⟩
 rintro i w3 ⟨k,out,rfl,hk,hol,ho,h3⟩
 refine aa.mk (fun hlt=> ?_) (fun hge=> ?_)
 ·have hlt:k<t.length+1:=by have:=of_decide_eq_true hlt;omega
  have hrk:=D6 (t:=t) (i:=k) (by omega)
  refine ar.nI (h3.al (ab.cons ab.own)) rfl (by simp;omega) ?_
  rw [hrg k (by omega)]
  refine ar.Ja h3 rfl (by omega) fun w4 h4=>⟨⟨k+1,_,by rw [ag (by omega)];omega,by omega,by rw [List.length_set];exact hol,fun j hj=> ?_,h4⟩,by dsimp only;rw [ag (by omega)];omega⟩
  rw [eD (by omega)]
  by_cases e:j=k
  ·subst e;rw [if_pos rfl]
  ·rw [if_neg (fun e2=>e (oq (by omega) (by omega) e2))]
   exact ho j (by omega)
 ·have hge:k=t.length+1:=by have:=of_decide_eq_false hge;omega
  subst hge
  have:out=zl (ck t):=by
   apply List.ext_getElem (by rw [hol,zG,mJ])
   intro r h1 h2
   have hr:r<(ck t).length:=by rw [mJ];omega
   have hm:(ck t)[r]≤t.length:=xO.1 (List.getElem_mem hr)
   have:=ho (ck t)[r] (by omega)
   rw [BD hr] at this
   have e:out.getD r 0=out[r]:=by simp [List.getD,h1]
   rw [←e,this]
   simp [zl]
  rw [this] at h3
  exact hK s5 w3 h3.p1.drop
theorem r4 {l:List Nat} {k:Nat} (hk:k<l.length):((l.take (k+1)).filter fun i=>i !=0)=((l.take k).filter fun i=>i !=0)++if l[k]=0 then [] else [l[k]]:=by
 rw [List.take_add_one,List.getElem?_eq_getElem hk,List.filter_append]
 congr 1
 by_cases e:l[k]=0
 ·rw [if_pos e];simp [e]
 ·rw [if_neg e];simp [e]
set_option maxRecDepth 200000 in
theorem GB {t:List Nat} {s:Sl} {K:Sl→Int→World→Prop} (h:Hp E w F) (hs:ab F (aA 1 s (t.map vB))) (hb: ∀x∈t,x<256) (hn:t.length≤400000)
  (hK: ∀s' w',Hp E w' (ak 1 s' ((aW t).map vB)::F)→K s' (bU t:Int) w'):Cl Tryz.prog [kS,kI] pF ⟨[.slice s.base s.len s.cap]⟩ w K:=by
 refine GN.ok _ _ _ ?_
 have hl:=(h.al hs).1
 simp only [List.length_map,Nat.mul_one] at hl
 refine D5 h hs hb hn fun s3 w1 h1=> ?_
 have hl3:=h1.aH
 rw [List.length_map,zG,mJ,Nat.mul_one] at hl3
 refine ⟨fun o ix i w'=> ∃k:Nat,i=(k:Int)∧k≤t.length+1∧ix=(if bU t<k then (bU t:Int) else 0)∧Hp E w' (ak 1 o (((((ck t).take k).filter fun i=>i !=0).map fun i=>t.getD (i - 1) 0).map vB)::ak 1 s3 ((zl (ck t)).map vI)::F),
  fun _ _ i _=>t.length+1 - i.toNat,⟨0,rfl,by omega,rfl,h1.bJ 1⟩,?_⟩
 rintro o ix i w2 ⟨k,rfl,hk,rfl,h2⟩
 refine aa.mk (fun hlt=> ?_) (fun hge=> ?_)
 ·have hlt:k<t.length+1:=by have:=of_decide_eq_true hlt;omega
  have hko:k<(ck t).length:=by rw [mJ];exact hlt
  have hix:=yN t hko
  have hle:(ck t)[k]≤t.length:=xO.1 (List.getElem_mem hko)
  refine ar.nI (h2.al (ab.cons ab.own)) rfl (by rw [zG];exact hko) ?_
  have e0:(zl (ck t)).getD k 0=((ck t)[k]:Int):=by simp [zl,List.getD,hko]
  rw [e0]
  have hf:=r4 hko
  refine aa.mk (fun hz=> ?_) (fun hz=> ?_)
  ·have hz:(ck t)[k]=0:=by have:=beq_iff_eq.1 hz;omega
   rw [if_pos hz,List.append_nil] at hf
   have hke:=hix.1 hz
   refine ⟨⟨k+1,by rw [ag (by omega)];omega,by omega,by rw [if_pos (by omega)];omega,by rw [hf];exact h2⟩,by dsimp only;rw [ag (by omega)];omega⟩
  ·have hz:(ck t)[k]≠0:=by have:=beq_eq_false_iff_ne.1 hz;omega
   rw [if_neg hz] at hf
   have hke:k≠bU t:=fun e=>hz (hix.2 e)
   have e1:i64 (((ck t)[k]:Int) - 1)=(((ck t)[k] - 1:Nat):Int):=by rw [ag (by omega)];omega
   rw [e1]
   refine ar.nB (h2.al (ab.cons (ab.cons hs))) rfl (by omega) ?_
   refine Kk KG rfl h2 (by rw [List.length_map,av];exact Nat.le_trans (List.length_filter_le ..) (by rw [List.length_take];omega)) fun s' w3 h3 _=>⟨⟨k+1,by rw [ag (by omega)];omega,by omega,?_,?_⟩,by dsimp only;rw [ag (x:=(k:Int)+1) (by omega)];omega⟩
   ·by_cases e:bU t<k
    ·rw [if_pos e,if_pos (by omega)]
    ·rw [if_neg e,if_neg (by omega)]
   ·rw [hf,List.map_append]
    exact h3
 ·have hge:k=t.length+1:=by have:=of_decide_eq_false hge;omega
  subst hge
  have hil:=uP t
  rw [if_pos (by omega)]
  rw [List.take_of_length_le (by rw [mJ];exact Nat.le_refl _)] at h2
  exact hK o w2 h2.p1.drop
end
end Go.Proofs.YtcdpblipagajiaaGreat
