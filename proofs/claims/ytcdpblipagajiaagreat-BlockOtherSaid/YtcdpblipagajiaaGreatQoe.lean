/- Texts packed together by program; spaces struck by program. Conditions: as each theorem states. -/
import Derived.Test.YtcdpblipagajiaaGreatQod
set_option linter.unusedSimpArgs false
set_option linter.unusedVariables false
namespace Go.Proofs.YtcdpblipagajiaaGreat
open Go Go.Vc Go.Bits
section
variable {E w:World} {F:List HP}
set_option maxRecDepth 20000
theorem be4_get {c k:Nat} (hk:k<4):(Hd.be4 c)[k]? =some (c/2^(24 - 8*k) % 256):=by
 match k,hk with
 |0,_=>rfl
 |1,_=>rfl
 |2,_=>rfl
 |3,_=>simp [Hd.be4]
theorem cput_c {c:Nat} {K:Sl→World→Prop} (h:Hp E w F) (hc:c<4294967296) (hK: ∀s w',Hp E w' (OwnS 1 s ((Hd.be4 c).map vB)::F)→K s w'):Cl Tryz.prog [kS] n_crc_Put ⟨[.int .u32 (c:Int)]⟩ w K:=by
 refine crc_Put.ok _ _ _ ?_
 unfold crc_Put.E
 refine Nw.mk h fun b3 w h=> ?_
 have hlen: ∀k,k≤4→(((Hd.be4 c).take k++List.replicate (4 - k) 0).map vB).length=4:=fun k hk=>by
  rw [List.length_map,List.length_append,List.length_take,List.length_replicate,show (Hd.be4 c).length=4 from rfl];omega
 refine ⟨fun i w'=> ∃k:Nat,i=(k:Int)∧k≤4∧Hp E w' (Blk b3 (.cells ⟨((Hd.be4 c).take k++List.replicate (4 - k) 0).map vB⟩ 184 (0,0))::F),fun i _=>4 - i.toNat,⟨0,rfl,by omega,h⟩,?_⟩
 rintro i w ⟨k,rfl,hk,h⟩
 refine IfB.dm (fun hlt=> ?_) (fun hge=> ?_)
 ·have hlt:k<4:=by omega
  rw [i64_id (x:=(8:Int)*(k:Int)) (by omega),i64_id (by omega),show (24:Int) - 8*(k:Int)=((24 - 8*k:Nat):Int) by omega,ishr_nat (by have:IntKind.bits .u32=32:=rfl;omega),u8_mod,i64_id (by omega)]
  refine ⟨by omega,by omega,by omega,?_⟩
  rw [show ((k:Int)).toNat*1=k by omega]
  simp only [add_mk,Nat.zero_add]
  have hkl:=hlen k (by omega)
  refine St.xb h (by show k<(((Hd.be4 c).take k++List.replicate (4 - k) 0).map vB).length;omega) rfl fun w h=> ?_
  refine ⟨⟨k+1,rfl,by omega,?_⟩,by first|omega|(dsimp only;omega)⟩
  have e:(⟨((Hd.be4 c).take k++List.replicate (4 - k) 0).map vB⟩:Array Value).setIfInBounds k (.int .u8 (((c/2^(24 - 8*k):Nat):Int) % 256))=⟨((Hd.be4 c).take (k+1)++List.replicate (4 - (k+1)) 0).map vB⟩:=by
   apply Array.ext'
   rw [Array.toList_setIfInBounds]
   have e1:(Value.int .u8 (((c/2^(24 - 8*k):Nat):Int) % 256))=vB (c/2^(24 - 8*k) % 256):=by
    unfold vB;congr 1
   have hl:((Hd.be4 c).take k).length=k:=by rw [List.length_take,show (Hd.be4 c).length=4 from rfl];omega
   obtain ⟨m,hm⟩: ∃m,4 - k=m+1:=⟨3 - k,by omega⟩
   show (((Hd.be4 c).take k++List.replicate (4 - k) 0).map vB).set k _=_
   rw [e1,←List.map_set,List.set_append_right _ _ (by omega),hl,Nat.sub_self,hm,List.replicate_succ,List.set_cons_zero,List.take_add_one,be4_get hlt,show 4 - (k+1)=m by omega]
   simp
  rw [e] at h
  exact h
 ·have hk4:k=4:=by omega
  subst hk4
  rw [List.take_of_length_le (Nat.le_refl 4:(Hd.be4 c).length≤4),Nat.sub_self,List.replicate_zero,List.append_nil] at h
  refine Slc.whole (by decide) rfl rfl ?_
  refine hK _ w (h.ownNew (n:=4) (sz:=1) rfl)
end
end Go.Proofs.YtcdpblipagajiaaGreat
set_option maxRecDepth 20000
namespace Go.Proofs.YtcdpblipagajiaaGreat
open Go Go.Vc Go.Srt Go.Inc Go.Hd
theorem vput_len {n:Nat} (h:n≤65536):(vput n).length≤4:=by
 unfold vput
 have: ∀k m:Nat,m<128^k→(vgr m).length≤k:=by
  intro k
  induction k with
  |zero=>intro m hm;have:m=0:=by simpa using hm
         rw [this,vgr_zero];exact Nat.le_refl _
  |succ k ih=>
   intro m hm
   rcases Nat.eq_zero_or_pos m with e|e
   ·rw [e,vgr_zero];exact Nat.zero_le _
   ·rw [vgr_pos e,List.length_append,List.length_singleton]
    have:=ih (m/128) (by rw [Nat.pow_succ] at hm;omega)
    omega
 have:=this 3 (n/128) (by omega)
 rw [List.length_append,List.length_singleton];omega
section
variable {E w:World} {F:List HP}
theorem hnumber_c {n:Nat} {most:Int} {K:Sl→Bool→World→Prop} (h:Hp E w F) (hn:n≤65536) (hK: ∀s w',Hp E w' (OwnS 1 s ((vput n).map vB)::F)→K s (decide (1≤(n:Int)∧(n:Int)≤most)) w'):
  Cl Tryz.prog [kS,kB] n_header_number ⟨[.int .i64 (n:Int),.int .i64 most]⟩ w K:=by
 refine header_number.ok _ _ _ _ ?_
 unfold header_number.E
 exact vput_c h hn fun s w h=>within_c (hK _ _ h)
theorem hputBlk_c {n:Int} {M P u:Nat} {K:Sl→Int→World→Prop} (h:Hp E w F) (hM:M≤65536) (hP:P≤65536) (hu:u<4294967296)
  (hgood:1≤n→n≤65536→1≤M→(M:Int)≤n→1≤P→P≤M→∀s w',Hp E w' (OwnS 1 s ((mblk M P u).map vB)::F)→K s 0 w')
  (hbad: ¬(1≤n∧n≤65536∧1≤M∧(M:Int)≤n∧1≤P∧P≤M)→∀w',Hp E w' F→K ⟨none,0,0⟩ 2 w'):
  Cl Tryz.prog [kS,kI] n_header_PutBlock ⟨[.int .i64 n,.agg ⟨[.int .i64 (M:Int),.int .i64 (P:Int),.int .u32 (u:Int)]⟩]⟩ w K:=by
 refine header_PutBlock.ok _ ((M:Int),(P:Int),(u:Int),()) _ _ ?_
 unfold header_PutBlock.E
 (try simp only [Join_eq,NilCk_some,add_mk,Nat.zero_add,Nat.add_zero,Nat.reduceAdd,Bool.not_true,Bool.not_false,IfB_t,IfB_f,Option.isNone])
 (with_reducible repeat first|refine Nw.mk h fun b w h=> ?_|refine Drw.mk h fun w h=> ?_|refine Ld.xb h rfl ?_|refine Ld.xt h rfl ?_|refine LdS.xb (fun _ h=>h) rfl ?_|refine LdS.xt (fun _ h=>h) rfl ?_|refine ⟨h.hb,?_⟩|refine StC.xw h rfl rfl fun w h=> ?_|(refine StC.xs h rfl rfl fun w h=> ?_;dsimp only [spl,over] at h)|(refine St.xs h rfl rfl fun w h=> ?_;dsimp only [spl,over] at h)|refine IfB.yes ?_|refine IfB.no ?_|refine ⟨by first|omega|decide,?_⟩)
 refine hnumber_c h hM fun s1 w h=> ?_
 (with_reducible repeat first|refine Nw.mk h fun b w h=> ?_|refine Drw.mk h fun w h=> ?_|refine Ld.xb h rfl ?_|refine Ld.xt h rfl ?_|refine LdS.xb (fun _ h=>h) rfl ?_|refine LdS.xt (fun _ h=>h) rfl ?_|refine ⟨h.hb,?_⟩|refine StC.xw h rfl rfl fun w h=> ?_|(refine StC.xs h rfl rfl fun w h=> ?_;dsimp only [spl,over] at h)|(refine St.xs h rfl rfl fun w h=> ?_;dsimp only [spl,over] at h)|refine IfB.yes ?_|refine IfB.no ?_|refine ⟨by first|omega|decide,?_⟩)
 refine hnumber_c h hP fun s2 w h=>within_c ?_
 by_cases hn:1≤n∧n≤65536
 ·refine IfB.ndt hn ?_
  by_cases hm:1≤(M:Int)∧(M:Int)≤n
  ·refine IfB.ndt hm ?_
   by_cases hp:1≤(P:Int)∧(P:Int)≤(M:Int)
   ·refine IfB.ndt hp ?_
    (with_reducible repeat first|refine Nw.mk h fun b w h=> ?_|refine Drw.mk h fun w h=> ?_|refine Ld.xb h rfl ?_|refine Ld.xt h rfl ?_|refine LdS.xb (fun _ h=>h) rfl ?_|refine LdS.xt (fun _ h=>h) rfl ?_|refine ⟨h.hb,?_⟩|refine StC.xw h rfl rfl fun w h=> ?_|(refine StC.xs h rfl rfl fun w h=> ?_;dsimp only [spl,over] at h)|(refine St.xs h rfl rfl fun w h=> ?_;dsimp only [spl,over] at h)|refine IfB.yes ?_|refine IfB.no ?_|refine ⟨by first|omega|decide,?_⟩)
    refine cput_c h hu fun s3 w h=>Nw.mk h fun b22 w h=> ?_
    have l1:=vput_len hM
    have l2:=vput_len hP
    refine concat_c (s:=⟨some ⟨b22,0,none⟩,4,4⟩) (cs:= [⟨some ⟨b,0,none⟩,1,1⟩,s1,s2,s3]) (bs:= [[1],vput M,vput P,be4 u]) h (Tells.blk rfl rfl) rfl (by rw [big_eq];simp) ?_ ?_ fun s w h=> ?_
    ·intro i hi
     match i,hi with
     |0,_=>exact Tells.at 2 (Tells.blk rfl rfl)
     |1,_=>exact Tells.at 4 Tells.own
     |2,_=>exact Tells.at 3 Tells.own
     |3,_=>exact Tells.at 1 Tells.own
    ·rw [big_eq]
     simp [be4]
     omega
    ·refine hgood hn.1 hn.2 (by omega) hm.2 (by omega) (by omega) s w ?_
     have e: [[1],vput M,vput P,be4 u].flatten=mblk M P u:=by simp [mblk]
     rw [e] at h
     exact h.keep1
   ·exact IfB.ndf hp (hbad (by omega) _ h.tl)
  ·exact IfB.ndf hm (hbad (by omega) _ h.tl)
 ·exact IfB.ndf hn (hbad (by omega) _ h.tl)
theorem run_drop {α σ β ε:Type} {f:σ→α→Stp σ β ε} {s s':σ} {l:List α} {k:Nat} (h:run f s (l.take k)= .short s'):run f s l=run f s' (l.drop k):=by
 conv=>lhs;rw [←List.take_append_drop k l]
 exact run_short h _
theorem mstep_bad {n:Nat} {st:MS} {c e:Nat} (he:mstep n st c= .bad e):e=242:=by
 unfold mstep at he
 repeat' split at he
 all_goals first|cases he;rfl|cases he
abbrev mkZ:MarkK:=(0,0,0,0,0,0,0,())
theorem htmarkBad_c {n:Int} {s:Sl} {K:MarkK→Sl→Int→World→Prop} (h:Hp E w F) (hn: ¬(1≤n∧n≤65536)) (hK: ∀w',Hp E w' F→K mkZ ⟨none,0,0⟩ 2 w'):
  Cl Tryz.prog [.st [.int .i64,.int .i64,.int .i64,.int .i64,.int .i64,.int .u32,.int .i64],kS,kI] n_header_TakeMark ⟨[.int .i64 n,.slice s.base s.len s.cap]⟩ w K:=by
 refine header_TakeMark.ok _ _ _ _ ?_
 unfold header_TakeMark.E
 (try simp only [Join_eq,NilCk_some,add_mk,Nat.zero_add,Nat.add_zero,Nat.reduceAdd,Bool.not_true,Bool.not_false,IfB_t,IfB_f,Option.isNone])
 refine Nw.mk h fun b w h=>within_c (IfB.ndf hn ?_)
 (with_reducible repeat first|refine Nw.mk h fun b w h=> ?_|refine Drw.mk h fun w h=> ?_|refine Ld.xb h rfl ?_|refine Ld.xt h rfl ?_|refine LdS.xb (fun _ h=>h) rfl ?_|refine LdS.xt (fun _ h=>h) rfl ?_|refine ⟨h.hb,?_⟩|refine StC.xw h rfl rfl fun w h=> ?_|(refine StC.xs h rfl rfl fun w h=> ?_;dsimp only [spl,over] at h)|(refine St.xs h rfl rfl fun w h=> ?_;dsimp only [spl,over] at h)|refine IfB.yes ?_|refine IfB.no ?_|refine ⟨by first|omega|decide,?_⟩)
 exact hK w h.tl
theorem htmark_c {n:Nat} {s:Sl} {bs:List Nat} {K:MarkK→Sl→Int→World→Prop} (h:Hp E w F) (hn:1≤n) (hn2:n≤65536) (hs:Tells F (SlT 1 s (bs.map vB))) (hb: ∀y∈bs,y<256) (hbig:bs.length≤big) (hcap:s.len≤s.cap)
  (hshort: ∀s' w',run (mstep n) ms0 bs= .short s'→Hp E w' F→K mkZ ⟨none,0,0⟩ 50 w')
  (hbad: ∀w',run (mstep n) ms0 bs= .bad 242→Hp E w' F→K mkZ ⟨none,0,0⟩ 242 w')
  (hblk: ∀M P u r s' w',run (mstep n) ms0 bs= .fin (.blk M P u) r→Hp E w' (OwnS 1 s' (r.map vB)::F)→K (4,0,0,(M:Int),(P:Int),(u:Int),4,()) s' 0 w')
  (htail: ∀u r s' w',run (mstep n) ms0 bs= .fin (.tail u) r→Hp E w' (OwnS 1 s' (r.map vB)::F)→K (6,0,0,0,0,(u:Int),4,()) s' 0 w'):
  Cl Tryz.prog [.st [.int .i64,.int .i64,.int .i64,.int .i64,.int .i64,.int .u32,.int .i64],kS,kI] n_header_TakeMark ⟨[.int .i64 (n:Int),.slice s.base s.len s.cap]⟩ w K:=by
 refine header_TakeMark.ok _ _ _ _ ?_
 unfold header_TakeMark.E
 (try simp only [Join_eq,NilCk_some,add_mk,Nat.zero_add,Nat.add_zero,Nat.reduceAdd,Bool.not_true,Bool.not_false,IfB_t,IfB_f,Option.isNone])
 have hlen:bs.length=s.len:=by have:=(h.tells hs).1;simpa using this
 rw [big_eq] at hbig
 refine Nw.mk h fun b4 w h=>within_c (IfB.ndt (show (1:Int)≤(n:Int)∧(n:Int)≤65536 by omega) ?_)
 refine ⟨fun i w'=> ∃(k:Nat) (st:MS),i=(k:Int)∧k≤bs.length∧MsOk n st∧run (mstep n) ms0 (bs.take k)= .short st∧
  Hp E w' (Blk b4 (.cells ⟨[.int .i64 (st.at_:Int),.int .i64 (st.v:Int),.int .i64 (vm st.v:Int),.int .i64 (st.M:Int),.int .i64 (st.P:Int),.int .u32 (st.sum:Int),.int .i64 (st.many:Int)]⟩ 74 (0,0))::F),
  fun i _=>bs.length - i.toNat,⟨0,ms0,rfl,by omega,.inl ⟨rfl,rfl⟩,rfl,h⟩,?_⟩
 rintro i w ⟨k,st,rfl,hk,hst,hrun,h⟩
 refine IfB.dm (fun hlt=> ?_) (fun hge=> ?_)
 ·have hlt:k<bs.length:=by omega
  refine Idx.rd (h.tl.tells hs) (by omega) (by omega) fun q hi hq=> ?_
  have hby:bs[k]<256:=hb _ (List.getElem_mem _)
  refine Ld.sc (s:= .int .u8) (bs[k]:Int) (by rw [hq];simp [Sc.enc,vB]) ?_
  (with_reducible repeat first|refine Nw.mk h fun b w h=> ?_|refine Drw.mk h fun w h=> ?_|refine Ld.xb h rfl ?_|refine Ld.xt h rfl ?_|refine LdS.xb (fun _ h=>h) rfl ?_|refine LdS.xt (fun _ h=>h) rfl ?_|refine ⟨h.hb,?_⟩|refine StC.xw h rfl rfl fun w h=> ?_|(refine StC.xs h rfl rfl fun w h=> ?_;dsimp only [spl,over] at h)|(refine St.xs h rfl rfl fun w h=> ?_;dsimp only [spl,over] at h)|refine IfB.yes ?_|refine IfB.no ?_|refine ⟨by first|omega|decide,?_⟩)
  have done: ∀{w:World} {A B C D G:Int} {b:Nat},Hp E w (Blk b (.cells ⟨[.int .i64 A,.int .i64 0,.int .i64 0,.int .i64 B,.int .i64 C,.int .u32 D,.int .i64 G]⟩ 74 (0,0))::Blk b4 (.cells ⟨[.int .i64 A,.int .i64 0,.int .i64 0,.int .i64 B,.int .i64 C,.int .u32 D,.int .i64 G]⟩ 74 (0,0))::F)→
    (∀s' w',Hp E w' (OwnS 1 s' ((bs.drop (k+1)).map vB)::F)→K (A,0,0,B,C,D,G,()) s' 0 w')→
    Held w fun S28 w_29=>LdS (.st [.int .i64,.int .i64,.int .i64,.int .i64,.int .i64,.int .u32,.int .i64]) (⟨b4,0,none⟩:Addr) S28 fun x30=>
     Slc s (i64 ((k:Int)+1)) (s.len:Int) (s.cap:Int) 1 fun s31=>Cl Tryz.prog [kS] n_bytes_Clone ⟨[.slice s31.base s31.len s31.cap]⟩ w_29 fun r33 w_32=>S28 w_32∧
     StC (⟨b4,0,none⟩:Addr) [(.int .i64 x30.1),(.int .i64 x30.2.1),(.int .i64 x30.2.2.1),(.int .i64 x30.2.2.2.1),(.int .i64 x30.2.2.2.2.1),(.int .u32 x30.2.2.2.2.2.1),(.int .i64 x30.2.2.2.2.2.2.1)] 0 w_32 fun w_34=>S28 w_34∧
     Ld (.st [.int .i64,.int .i64,.int .i64,.int .i64,.int .i64,.int .u32,.int .i64]) (⟨b4,0,none⟩:Addr) w_34 fun res35=>K res35 r33 0 w_34:=by
   intro w A B C D G b h hk
   have h:=h.drew (n:=w.drawn+1)
   refine ⟨HoldB b4 _ _ _,h.hb,?_⟩
   (with_reducible repeat first|refine Nw.mk h fun b w h=> ?_|refine Drw.mk h fun w h=> ?_|refine Ld.xb h rfl ?_|refine Ld.xt h rfl ?_|refine LdS.xb (fun _ h=>h) rfl ?_|refine LdS.xt (fun _ h=>h) rfl ?_|refine ⟨h.hb,?_⟩|refine StC.xw h rfl rfl fun w h=> ?_|(refine StC.xs h rfl rfl fun w h=> ?_;dsimp only [spl,over] at h)|(refine St.xs h rfl rfl fun w h=> ?_;dsimp only [spl,over] at h)|refine IfB.yes ?_|refine IfB.no ?_|refine ⟨by first|omega|decide,?_⟩)
   rw [i64_id (by omega)]
   refine Slc.rd (h.tl.tells hs) (by omega) (by omega) (by omega) (by omega) (by omega) fun s' hs' hl'=> ?_
   have e1:(bs.map vB).drop ((k:Int)+1).toNat=(bs.drop (k+1)).map vB:=by rw [show ((k:Int)+1).toNat=k+1 by omega,List.map_drop]
   rw [e1,List.take_of_length_le (by simp;omega)] at hs'
   have hT:Tells F (SlT 1 s' ((bs.drop (k+1)).map vB)):=hs.imp fun w h=>hs' w h
   refine clone_c h (Tells.cons (Tells.cons hT)) (by simp;rw [big_eq];omega) fun s2 w h=>⟨h.hb,?_⟩
   (with_reducible repeat first|refine Nw.mk h fun b w h=> ?_|refine Drw.mk h fun w h=> ?_|refine Ld.xb h rfl ?_|refine Ld.xt h rfl ?_|refine LdS.xb (fun _ h=>h) rfl ?_|refine LdS.xt (fun _ h=>h) rfl ?_|refine ⟨h.hb,?_⟩|refine StC.xw h rfl rfl fun w h=> ?_|(refine StC.xs h rfl rfl fun w h=> ?_;dsimp only [spl,over] at h)|(refine St.xs h rfl rfl fun w h=> ?_;dsimp only [spl,over] at h)|refine IfB.yes ?_|refine IfB.no ?_|refine ⟨by first|omega|decide,?_⟩)
   exact hk s2 w h.keep1
  refine mstep_c h hn hn2 hst hby (fun st' w he h=> ?_) (fun M P u w he h=> ?_) (fun u w he h=> ?_) (fun e o w he h=> ?_)
  ·(with_reducible repeat first|refine Nw.mk h fun b w h=> ?_|refine Drw.mk h fun w h=> ?_|refine Ld.xb h rfl ?_|refine Ld.xt h rfl ?_|refine LdS.xb (fun _ h=>h) rfl ?_|refine LdS.xt (fun _ h=>h) rfl ?_|refine ⟨h.hb,?_⟩|refine StC.xw h rfl rfl fun w h=> ?_|(refine StC.xs h rfl rfl fun w h=> ?_;dsimp only [spl,over] at h)|(refine St.xs h rfl rfl fun w h=> ?_;dsimp only [spl,over] at h)|refine IfB.yes ?_|refine IfB.no ?_|refine ⟨by first|omega|decide,?_⟩)
   rw [i64_id (by omega)]
   refine ⟨⟨k+1,st',rfl,by omega,mstep_ok hst hby he,?_,(h.no 0)⟩,by first|omega|(dsimp only;omega)⟩
   rw [List.take_add_one,List.getElem?_eq_getElem hlt]
   show run (mstep n) ms0 (bs.take k++ [bs[k]])=_
   rw [run_short hrun,run_more he];rfl
  ·(with_reducible repeat first|refine Nw.mk h fun b w h=> ?_|refine Drw.mk h fun w h=> ?_|refine Ld.xb h rfl ?_|refine Ld.xt h rfl ?_|refine LdS.xb (fun _ h=>h) rfl ?_|refine LdS.xt (fun _ h=>h) rfl ?_|refine ⟨h.hb,?_⟩|refine StC.xw h rfl rfl fun w h=> ?_|(refine StC.xs h rfl rfl fun w h=> ?_;dsimp only [spl,over] at h)|(refine St.xs h rfl rfl fun w h=> ?_;dsimp only [spl,over] at h)|refine IfB.yes ?_|refine IfB.no ?_|refine ⟨by first|omega|decide,?_⟩)
   refine done h fun s' w' h=>hblk M P u (bs.drop (k+1)) s' w' ?_ h
   rw [run_drop hrun,List.drop_eq_getElem_cons hlt,run_fin he]
  ·(with_reducible repeat first|refine Nw.mk h fun b w h=> ?_|refine Drw.mk h fun w h=> ?_|refine Ld.xb h rfl ?_|refine Ld.xt h rfl ?_|refine LdS.xb (fun _ h=>h) rfl ?_|refine LdS.xt (fun _ h=>h) rfl ?_|refine ⟨h.hb,?_⟩|refine StC.xw h rfl rfl fun w h=> ?_|(refine StC.xs h rfl rfl fun w h=> ?_;dsimp only [spl,over] at h)|(refine St.xs h rfl rfl fun w h=> ?_;dsimp only [spl,over] at h)|refine IfB.yes ?_|refine IfB.no ?_|refine ⟨by first|omega|decide,?_⟩)
   refine done h fun s' w' h=>htail u (bs.drop (k+1)) s' w' ?_ h
   rw [run_drop hrun,List.drop_eq_getElem_cons hlt,run_fin he]
  ·have:=mstep_bad he
   subst this
   (with_reducible repeat first|refine Nw.mk h fun b w h=> ?_|refine Drw.mk h fun w h=> ?_|refine Ld.xb h rfl ?_|refine Ld.xt h rfl ?_|refine LdS.xb (fun _ h=>h) rfl ?_|refine LdS.xt (fun _ h=>h) rfl ?_|refine ⟨h.hb,?_⟩|refine StC.xw h rfl rfl fun w h=> ?_|(refine StC.xs h rfl rfl fun w h=> ?_;dsimp only [spl,over] at h)|(refine St.xs h rfl rfl fun w h=> ?_;dsimp only [spl,over] at h)|refine IfB.yes ?_|refine IfB.no ?_|refine ⟨by first|omega|decide,?_⟩)
   refine hbad w ?_ h.tl
   rw [run_drop hrun,List.drop_eq_getElem_cons hlt,run_bad he]
 ·have hk2:k=bs.length:=by omega
  subst hk2
  rw [List.take_of_length_le (Nat.le_refl _)] at hrun
  (with_reducible repeat first|refine Nw.mk h fun b w h=> ?_|refine Drw.mk h fun w h=> ?_|refine Ld.xb h rfl ?_|refine Ld.xt h rfl ?_|refine LdS.xb (fun _ h=>h) rfl ?_|refine LdS.xt (fun _ h=>h) rfl ?_|refine ⟨h.hb,?_⟩|refine StC.xw h rfl rfl fun w h=> ?_|(refine StC.xs h rfl rfl fun w h=> ?_;dsimp only [spl,over] at h)|(refine St.xs h rfl rfl fun w h=> ?_;dsimp only [spl,over] at h)|refine IfB.yes ?_|refine IfB.no ?_|refine ⟨by first|omega|decide,?_⟩)
  exact hshort st w hrun h.tl
end
end Go.Proofs.YtcdpblipagajiaaGreat
set_option maxRecDepth 20000
namespace Go.Stm
open Go.Inc Go.Srt Go.Sym Go.Bits Go.Tab Go.Hd Go.Crc Go.Bw Go.Blk
section
variable (L:List Nat→List Nat)
def GoodL:Prop:= ∀x:List Nat,0<x.length→(∀c∈x,c<256)→Lens (L x) (lastB x.reverse)
end
section
variable {L:List Nat→List Nat} {n:Nat}
theorem lastP {x:List Nat} (hx: ∀c∈x,c<256): ∀y∈lastB x.reverse,y<256:=lastB_b fun y hy=>hx y (List.mem_reverse.1 hy)
end
end Go.Stm
namespace Go.Proofs.YtcdpblipagajiaaGreat
open Go Go.Vc
def ref07_Ints.E (a1:Sl) (b2:Sl) (R:Bool→World→Prop) (w:World):Prop:=
 IfB (((a1.len:Int):Int) !=((b2.len:Int):Int))
 (R (false) w)
 (∃(I_3:Int→World→Prop) (m_4:Int→World→Nat),I_3 (0) w∧
 ∀(i5:Int),∀(w_6:World),I_3 i5 w_6→
 IfB (decide ((i5:Int)<((a1.len:Int):Int)))
 (Drw w_6 fun (w_7:World)=>
 Idx a1 i5 1 fun (q8:Addr)=>
 Ld kI q8 w_7 fun (x9:Int)=>
 Idx b2 i5 1 fun (q10:Addr)=>
 Ld kI q10 w_7 fun (x11:Int)=>
 IfB ((x9:Int) !=(x11:Int))
 (R (false) w_7)
 (I_3 ((i64 ((i5:Int)+(1:Int)))) w_7∧m_4 ((i64 ((i5:Int)+(1:Int)))) w_7<m_4 i5 w_6))
 (R (true) w_6))
theorem ref07_Ints.ok (a1:Sl) (b2:Sl) (R:Bool→World→Prop) (w:World) (h:ref07_Ints.E a1 b2 R w):Cl Tryz.prog [kB] n_ref07_Ints ⟨[(.slice a1.base a1.len a1.cap),(.slice b2.base b2.len b2.cap)]⟩ w R:=
 calls_of_eq Tryz.mix Tryz.f18 [(.slice a1.base a1.len a1.cap),(.slice b2.base b2.len b2.cap)] [kB] R 26 [.tmp 4] (by kernel_rfl) (by kernel_rfl) (by kernel_rfl) (by kernel_rfl) (by kernel_rfl)
  (.s .o (.s (.s .o (.c (.s .o .o) .o)) (.s (.s .o (.b (.l [(5,kI)] (.s (.s .o (.c .o .o)) (.s (.b (.s .o (.c (.s .o .o) .o))) .o))))) (.s .o .o))))
  (by kernel_rfl) h
set_option maxRecDepth 100000 in
def ref07_Lengths.E (t1:(Array Value)) (limit2:Int) (R:(Array Value)→Int→World→Prop) (w:World):Prop:=
 Nw 41 t1 w fun (b4:Nat) (w_3:World)=>
 Nw 36 ⟨List.replicate 258 (.int .u8 0)⟩ w_3 fun (b6:Nat) (w_5:World)=>
 Nw 36 ⟨List.replicate 258 (.int .u8 0)⟩ w_5 fun (b8:Nat) (w_7:World)=>
 Ld (.arr 258) (⟨b4,0,none⟩:Addr) w_7 fun (x9:(Array Value))=>
 Cl Tryz.prog [kS] n_ref07_Order ⟨[(.agg x9)]⟩ w_7 fun (r11:Sl) (w_10:World)=>
 Join (fun (w_28:World)=>
 IfB (((r11.len:Int):Int)==(1:Int))
 (Idx r11 0 1 fun (q29:Addr)=>
 Ld kI q29 w_28 fun (x30:Int)=>
 IdxP (⟨b8,0,none⟩:Addr) 258 x30 1 fun (q31:Addr)=>
 St q31 (.int .u8 1) w_28 fun (w_32:World)=>
 Ld (.arr 258) (⟨b8,0,none⟩:Addr) w_32 fun (x33:(Array Value))=>
 StA 258 (⟨b6,0,none⟩:Addr) x33 w_32 fun (w_34:World)=>
 Ld (.arr 258) (⟨b6,0,none⟩:Addr) w_34 fun (res35:(Array Value))=>
 R (res35) (0) w_34)
 (Ld (.arr 258) (⟨b4,0,none⟩:Addr) w_28 fun (x36:(Array Value))=>
 Cl Tryz.prog [kS] n_ref07_rows ⟨[(.agg x36),(.int .i64 limit2)]⟩ w_28 fun (r38:Sl) (w_37:World)=>
 ∃(I_39:Int→World→Prop) (m_40:Int→World→Nat),I_39 (0) w_37∧
 ∀(i41:Int),∀(w_42:World),I_39 i41 w_42→
 IfB (decide ((i41:Int)<((i64 (((i64 ((2:Int)*((r11.len:Int):Int))):Int) - (2:Int))):Int)))
 (Ld (.arr 258) (⟨b8,0,none⟩:Addr) w_42 fun (x43:(Array Value))=>
 Cl Tryz.prog [(.arr 258)] n_ref07_count ⟨[(.agg x43),(.slice r38.base r38.len r38.cap),(.int .i64 (i64 ((limit2:Int) - (1:Int)))),(.int .i64 i41)]⟩ w_42 fun (r45:(Array Value)) (w_44:World)=>
 StA 258 (⟨b8,0,none⟩:Addr) r45 w_44 fun (w_46:World)=>
 I_39 ((i64 ((i41:Int)+(1:Int)))) w_46∧m_40 ((i64 ((i41:Int)+(1:Int)))) w_46<m_40 i41 w_42)
 (Ld (.arr 258) (⟨b8,0,none⟩:Addr) w_42 fun (x47:(Array Value))=>
 StA 258 (⟨b6,0,none⟩:Addr) x47 w_42 fun (w_48:World)=>
 Ld (.arr 258) (⟨b6,0,none⟩:Addr) w_48 fun (res49:(Array Value))=>
 R (res49) (0) w_48))) fun (K_12:World→Prop)=>
 Ld (.arr 258) (⟨b4,0,none⟩:Addr) w_10 fun (x13:(Array Value))=>
 Cl Tryz.prog [kB] n_ref07_Valid ⟨[(.agg x13)]⟩ w_10 fun (r15:Bool) (w_14:World)=>
 IfB (!r15)
 (Ld (.arr 258) (⟨b8,0,none⟩:Addr) w_14 fun (x16:(Array Value))=>
 StA 258 (⟨b6,0,none⟩:Addr) x16 w_14 fun (w_17:World)=>
 Ld (.arr 258) (⟨b6,0,none⟩:Addr) w_17 fun (res18:(Array Value))=>
 R (res18) (2) w_17)
 (IfB (decide ((limit2:Int)<(1:Int)))
 (Ld (.arr 258) (⟨b8,0,none⟩:Addr) w_14 fun (x19:(Array Value))=>
 StA 258 (⟨b6,0,none⟩:Addr) x19 w_14 fun (w_20:World)=>
 Ld (.arr 258) (⟨b6,0,none⟩:Addr) w_20 fun (res21:(Array Value))=>
 R (res21) (2) w_20)
 (IfB (decide ((limit2:Int)>(15:Int)))
 (Ld (.arr 258) (⟨b8,0,none⟩:Addr) w_14 fun (x22:(Array Value))=>
 StA 258 (⟨b6,0,none⟩:Addr) x22 w_14 fun (w_23:World)=>
 Ld (.arr 258) (⟨b6,0,none⟩:Addr) w_23 fun (res24:(Array Value))=>
 R (res24) (2) w_23)
 (0≤((u64 limit2):Int)∧
 IfB (decide (((r11.len:Int):Int)>((ishl .i64 (1:Int) ((u64 limit2):Int)):Int)))
 (Ld (.arr 258) (⟨b8,0,none⟩:Addr) w_14 fun (x25:(Array Value))=>
 StA 258 (⟨b6,0,none⟩:Addr) x25 w_14 fun (w_26:World)=>
 Ld (.arr 258) (⟨b6,0,none⟩:Addr) w_26 fun (res27:(Array Value))=>
 R (res27) (2) w_26)
 (K_12 w_14))))
set_option maxRecDepth 100000 in
theorem ref07_Lengths.ok (t1:(Array Value)) (limit2:Int) (R:(Array Value)→Int→World→Prop) (w:World) (h:ref07_Lengths.E t1 limit2 R w):Cl Tryz.prog [(.arr 258),kI] n_ref07_Lengths ⟨[(.agg t1),(.int .i64 limit2)]⟩ w R:=
 calls_of_eq Tryz.mix Tryz.f23 [(.agg t1),(.int .i64 limit2)] [(.arr 258),kI] R 58 [.cell 4 36,.tmp 5] (by kernel_rfl) (by kernel_rfl) (by kernel_rfl) (by kernel_rfl) (by kernel_rfl)
  (.s .o (.s .o (.s .o (.j [] (.s .o (.c (.s .o .o) .o)) (.s (.s .o (.c (.s .o (.s .o .o)) .o)) (.s .o (.s (.s .o (.b (.l [(9,kI)] (.s (.s .o (.c .o .o)) (.s (.b .o) .o))))) (.s .o .o))))))))
  (by kernel_rfl) h
def ref07_Sum.E (l1:(Array Value)) (R:Int→World→Prop) (w:World):Prop:=
 Nw 36 l1 w fun (b3:Nat) (w_2:World)=>
 ∃(I_4:Int→Int→World→Prop) (m_5:Int→Int→World→Nat),I_4 (0) (0) w_2∧
 ∀(n6:Int) (s7:Int),∀(w_8:World),I_4 n6 s7 w_8→
 IfB (decide ((s7:Int)<(258:Int)))
 (IdxP (⟨b3,0,none⟩:Addr) 258 s7 1 fun (q9:Addr)=>
 Ld (kInt .u8) q9 w_8 fun (x10:Int)=>
 IfB (decide ((x10:Int)>(15:Int)))
 (R (32769) w_8)
 (IdxP (⟨b3,0,none⟩:Addr) 258 s7 1 fun (q11:Addr)=>
 Ld (kInt .u8) q11 w_8 fun (x12:Int)=>
 IfB (decide ((x12:Int)>(0:Int)))
 (IdxP (⟨b3,0,none⟩:Addr) 258 s7 1 fun (q13:Addr)=>
 Ld (kInt .u8) q13 w_8 fun (x14:Int)=>
 0≤((u64 (i64 ((15:Int) - ((i64 x14):Int)))):Int)∧
 I_4 ((i64 ((n6:Int)+((ishl .i64 (1:Int) ((u64 (i64 ((15:Int) - ((i64 x14):Int)))):Int)):Int)))) ((i64 ((s7:Int)+(1:Int)))) w_8∧m_5 ((i64 ((n6:Int)+((ishl .i64 (1:Int) ((u64 (i64 ((15:Int) - ((i64 x14):Int)))):Int)):Int)))) ((i64 ((s7:Int)+(1:Int)))) w_8<m_5 n6 s7 w_8)
 (I_4 (n6) ((i64 ((s7:Int)+(1:Int)))) w_8∧m_5 (n6) ((i64 ((s7:Int)+(1:Int)))) w_8<m_5 n6 s7 w_8)))
 (R (n6) w_8)
theorem ref07_Sum.ok (l1:(Array Value)) (R:Int→World→Prop) (w:World) (h:ref07_Sum.E l1 R w):Cl Tryz.prog [kI] n_ref07_Sum ⟨[(.agg l1)]⟩ w R:=
 calls_of_eq Tryz.mix Tryz.f32 [(.agg l1)] [kI] R 27 [.tmp 2] (by kernel_rfl) (by kernel_rfl) (by kernel_rfl) (by kernel_rfl) (by kernel_rfl)
  (.s .o (.s .o (.s (.s .o (.b (.l [(3,kI),(4,kI)] (.s (.s .o (.c .o .o)) (.s (.b (.s (.s .o (.c (.s .o .o) .o)) (.s .o (.c .o .o)))) .o))))) (.s .o .o))))
  (by kernel_rfl) h
set_option maxRecDepth 100000 in
def ref07_Order.E (t1:(Array Value)) (R:Sl→World→Prop) (w:World):Prop:=
 Nw 41 t1 w fun (b3:Nat) (w_2:World)=>
 ∃(I_4:Sl→Int→World→Prop) (m_5:Sl→Int→World→Nat),I_4 ((⟨none,0,0⟩:Sl)) (0) w_2∧
 ∀(out6:Sl) (s7:Int),∀(w_8:World),I_4 out6 s7 w_8→
 Join (fun (w_13:World)=>
 IdxP (⟨b3,0,none⟩:Addr) 258 s7 1 fun (q14:Addr)=>
 Ld kI q14 w_13 fun (x15:Int)=>
 IfB ((x15:Int)==(0:Int))
 (I_4 (out6) ((i64 ((s7:Int)+(1:Int)))) w_13∧m_5 (out6) ((i64 ((s7:Int)+(1:Int)))) w_13<m_5 out6 s7 w_8)
 (∃(I_16:Int→World→Prop) (m_17:Int→World→Nat),I_16 ((out6.len:Int)) w_13∧
 ∀(k18:Int),∀(w_19:World),I_16 k18 w_19→
 Drw w_19 fun (w_20:World)=>
 IfB (decide ((k18:Int)>(0:Int)))
 (Idx out6 (i64 ((k18:Int) - (1:Int))) 1 fun (q21:Addr)=>
 Ld kI q21 w_20 fun (x22:Int)=>
 IdxP (⟨b3,0,none⟩:Addr) 258 x22 1 fun (q23:Addr)=>
 Ld kI q23 w_20 fun (x24:Int)=>
 IdxP (⟨b3,0,none⟩:Addr) 258 s7 1 fun (q25:Addr)=>
 Ld kI q25 w_20 fun (x26:Int)=>
 IfB (decide ((x24:Int)>(x26:Int)))
 (I_16 ((i64 ((k18:Int) - (1:Int)))) w_20∧m_17 ((i64 ((k18:Int) - (1:Int)))) w_20<m_17 k18 w_19)
 (Slc out6 0 k18 (out6).cap 1 fun (s27:Sl)=>
 Run Tryz.prog (Builtin.append_ #[33,33] 33 ⟨[(.slice none 0 0),(.slice s27.base s27.len s27.cap)]⟩) kS w_20 fun (s29:Sl) (w_28:World)=>
 Nw 3 ⟨[(.int .i64 s7)]⟩ w_28 fun (b31:Nat) (w_30:World)=>
 Run Tryz.prog (Builtin.append_ #[33,33] 33 ⟨[(.slice s29.base s29.len s29.cap),(.slice (⟨some ⟨b31,0,none⟩,1,1⟩:Sl).base (⟨some ⟨b31,0,none⟩,1,1⟩:Sl).len (⟨some ⟨b31,0,none⟩,1,1⟩:Sl).cap)]⟩) kS w_30 fun (s33:Sl) (w_32:World)=>
 Slc out6 k18 (out6).len (out6).cap 1 fun (s34:Sl)=>
 Run Tryz.prog (Builtin.append_ #[33,33] 33 ⟨[(.slice s33.base s33.len s33.cap),(.slice s34.base s34.len s34.cap)]⟩) kS w_32 fun (s36:Sl) (w_35:World)=>
 I_4 (s36) ((i64 ((s7:Int)+(1:Int)))) w_35∧m_5 (s36) ((i64 ((s7:Int)+(1:Int)))) w_35<m_5 out6 s7 w_8))
 (Slc out6 0 k18 (out6).cap 1 fun (s37:Sl)=>
 Run Tryz.prog (Builtin.append_ #[33,33] 33 ⟨[(.slice none 0 0),(.slice s37.base s37.len s37.cap)]⟩) kS w_20 fun (s39:Sl) (w_38:World)=>
 Nw 3 ⟨[(.int .i64 s7)]⟩ w_38 fun (b41:Nat) (w_40:World)=>
 Run Tryz.prog (Builtin.append_ #[33,33] 33 ⟨[(.slice s39.base s39.len s39.cap),(.slice (⟨some ⟨b41,0,none⟩,1,1⟩:Sl).base (⟨some ⟨b41,0,none⟩,1,1⟩:Sl).len (⟨some ⟨b41,0,none⟩,1,1⟩:Sl).cap)]⟩) kS w_40 fun (s43:Sl) (w_42:World)=>
 Slc out6 k18 (out6).len (out6).cap 1 fun (s44:Sl)=>
 Run Tryz.prog (Builtin.append_ #[33,33] 33 ⟨[(.slice s43.base s43.len s43.cap),(.slice s44.base s44.len s44.cap)]⟩) kS w_42 fun (s46:Sl) (w_45:World)=>
 I_4 (s46) ((i64 ((s7:Int)+(1:Int)))) w_45∧m_5 (s46) ((i64 ((s7:Int)+(1:Int)))) w_45<m_5 out6 s7 w_8))) fun (K_9:World→Prop)=>
 IfB (decide ((s7:Int)<(258:Int)))
 (Ld (.arr 258) (⟨b3,0,none⟩:Addr) w_8 fun (x10:(Array Value))=>
 Cl Tryz.prog [kB] n_ref07_Valid ⟨[(.agg x10)]⟩ w_8 fun (r12:Bool) (w_11:World)=>
 IfB r12
 (K_9 w_11)
 (R (out6) w_11))
 (R (out6) w_8)
set_option maxRecDepth 100000 in
theorem ref07_Order.ok (t1:(Array Value)) (R:Sl→World→Prop) (w:World) (h:ref07_Order.E t1 R w):Cl Tryz.prog [kS] n_ref07_Order ⟨[(.agg t1)]⟩ w R:=
 calls_of_eq Tryz.mix Tryz.f64 [(.agg t1)] [kS] R 53 [.tmp 2] (by kernel_rfl) (by kernel_rfl) (by kernel_rfl) (by kernel_rfl) (by kernel_rfl)
  (.s .o (.s .o (.s (.s .o (.b (.l [(3,kS),(4,kI)] (.j [] (.s .o (.c .o .o)) (.s (.b (.s (.s .o (.c .o .o)) (.s .o (.s (.b (.l [(5,kI)] (.s (.s .o (.c .o .o)) (.b .o)))) (.s .o (.s .o (.s .o .o))))))) .o))))) (.s .o .o))))
  (by kernel_rfl) h
def ref07_Valid.E (t1:(Array Value)) (R:Bool→World→Prop) (w:World):Prop:=
 Nw 41 t1 w fun (b3:Nat) (w_2:World)=>
 ∃(I_4:Int→World→Prop) (m_5:Int→World→Nat),I_4 (0) w_2∧
 ∀(i6:Int),∀(w_7:World),I_4 i6 w_7→
 IfB (decide ((i6:Int)<(258:Int)))
 (IdxP (⟨b3,0,none⟩:Addr) 258 i6 1 fun (q8:Addr)=>
 Ld kI q8 w_7 fun (x9:Int)=>
 IfB (decide ((x9:Int)<(0:Int)))
 (R (false) w_7)
 (IdxP (⟨b3,0,none⟩:Addr) 258 i6 1 fun (q10:Addr)=>
 Ld kI q10 w_7 fun (x11:Int)=>
 IfB (decide ((x11:Int)>(2147483647:Int)))
 (R (false) w_7)
 (I_4 ((i64 ((i6:Int)+(1:Int)))) w_7∧m_5 ((i64 ((i6:Int)+(1:Int)))) w_7<m_5 i6 w_7)))
 (R (true) w_7)
theorem ref07_Valid.ok (t1:(Array Value)) (R:Bool→World→Prop) (w:World) (h:ref07_Valid.E t1 R w):Cl Tryz.prog [kB] n_ref07_Valid ⟨[(.agg t1)]⟩ w R:=
 calls_of_eq Tryz.mix Tryz.f65 [(.agg t1)] [kB] R 18 [.tmp 2] (by kernel_rfl) (by kernel_rfl) (by kernel_rfl) (by kernel_rfl) (by kernel_rfl)
  (.s .o (.s (.s .o (.b (.l [(3,kI)] (.s (.s .o (.c .o .o)) (.s (.b (.s .o (.c (.s .o .o) .o))) .o))))) (.s .o .o)))
  (by kernel_rfl) h
set_option maxRecDepth 100000 in
def ref07_rows.E (t1:(Array Value)) (limit2:Int) (R:Sl→World→Prop) (w:World):Prop:=
 Nw 41 t1 w fun (b4:Nat) (w_3:World)=>
 Ld (.arr 258) (⟨b4,0,none⟩:Addr) w_3 fun (x5:(Array Value))=>
 Cl Tryz.prog [kS] n_ref07_Order ⟨[(.agg x5)]⟩ w_3 fun (r7:Sl) (w_6:World)=>
 ∃(I_8:Sl→Int→World→Prop) (m_9:Sl→Int→World→Nat),I_8 ((⟨none,0,0⟩:Sl)) (0) w_6∧
 ∀(leaves10:Sl) (i11:Int),∀(w_12:World),I_8 leaves10 i11 w_12→
 IfB (decide ((i11:Int)<((r7.len:Int):Int)))
 (Held w_12 fun (S13:World→Prop) (w_14:World)=>
 Idx r7 i11 1 fun (q15:Addr)=>
 LdS kI q15 S13 fun (x16:Int)=>
 IdxP (⟨b4,0,none⟩:Addr) 258 x16 1 fun (q17:Addr)=>
 LdS kI q17 S13 fun (x18:Int)=>
 Idx r7 i11 1 fun (q19:Addr)=>
 LdS kI q19 S13 fun (x20:Int)=>
 Nw 166 ⟨[(.int .i64 x18),(.int .i64 x20),(.int .i64 0),(.int .i64 0)]⟩ w_14 fun (b22:Nat) (w_21:World)=>
 S13 w_21∧
 Run Tryz.prog (Builtin.append_ #[164,164] 164 ⟨[(.slice leaves10.base leaves10.len leaves10.cap),(.slice (⟨some ⟨b22,0,none⟩,1,1⟩:Sl).base (⟨some ⟨b22,0,none⟩,1,1⟩:Sl).len (⟨some ⟨b22,0,none⟩,1,1⟩:Sl).cap)]⟩) kS w_21 fun (s24:Sl) (w_23:World)=>
 S13 w_23∧
 I_8 (s24) ((i64 ((i11:Int)+(1:Int)))) w_23∧m_9 (s24) ((i64 ((i11:Int)+(1:Int)))) w_23<m_9 leaves10 i11 w_12)
 (Nw 164 ⟨[(.slice leaves10.base leaves10.len leaves10.cap)]⟩ w_12 fun (b26:Nat) (w_25:World)=>
 ∃(I_27:Sl→Int→World→Prop) (m_28:Sl→Int→World→Nat),I_27 ((⟨some ⟨b26,0,none⟩,1,1⟩:Sl)) (1) w_25∧
 ∀(out29:Sl) (k30:Int),∀(w_31:World),I_27 out29 k30 w_31→
 IfB (decide ((k30:Int)<(limit2:Int)))
 (Idx out29 (i64 ((k30:Int) - (1:Int))) 1 fun (q32:Addr)=>
 Ld kS q32 w_31 fun (x33:Sl)=>
 Nw 166 ⟨[]⟩ w_31 fun (b35:Nat) (w_34:World)=>
 Run Tryz.prog (Builtin.append_ #[164,164] 164 ⟨[(.slice (⟨some ⟨b35,0,none⟩,0,0⟩:Sl).base (⟨some ⟨b35,0,none⟩,0,0⟩:Sl).len (⟨some ⟨b35,0,none⟩,0,0⟩:Sl).cap),(.slice leaves10.base leaves10.len leaves10.cap)]⟩) kS w_34 fun (s37:Sl) (w_36:World)=>
 ∃(I_38:Sl→Int→World→Prop) (m_39:Sl→Int→World→Nat),I_38 (s37) (0) w_36∧
 ∀(row40:Sl) (i41:Int),∀(w_42:World),I_38 row40 i41 w_42→
 IfB (decide (((i64 ((i41:Int)+(1:Int))):Int)<((x33.len:Int):Int)))
 (Drw w_42 fun (w_43:World)=>
 Idx x33 i41 4 fun (q44:Addr)=>
 Ld kI (q44.add 0) w_43 fun (Weight45:Int)=>
 Idx x33 (i64 ((i41:Int)+(1:Int))) 4 fun (q46:Addr)=>
 Ld kI (q46.add 0) w_43 fun (Weight47:Int)=>
 Cl Tryz.prog [kS] n_ref07_put ⟨[(.slice row40.base row40.len row40.cap),(.agg ⟨[(.int .i64 (i64 ((Weight45:Int)+(Weight47:Int)))),(.int .i64 (-1)),(.int .i64 i41),(.int .i64 (i64 ((i41:Int)+(1:Int))))]⟩)]⟩ w_43 fun (r49:Sl) (w_48:World)=>
 I_38 (r49) ((i64 ((i41:Int)+(2:Int)))) w_48∧m_39 (r49) ((i64 ((i41:Int)+(2:Int)))) w_48<m_39 row40 i41 w_42)
 (Nw 164 ⟨[(.slice row40.base row40.len row40.cap)]⟩ w_42 fun (b51:Nat) (w_50:World)=>
 Run Tryz.prog (Builtin.append_ #[95,95] 95 ⟨[(.slice out29.base out29.len out29.cap),(.slice (⟨some ⟨b51,0,none⟩,1,1⟩:Sl).base (⟨some ⟨b51,0,none⟩,1,1⟩:Sl).len (⟨some ⟨b51,0,none⟩,1,1⟩:Sl).cap)]⟩) kS w_50 fun (s53:Sl) (w_52:World)=>
 I_27 (s53) ((i64 ((k30:Int)+(1:Int)))) w_52∧m_28 (s53) ((i64 ((k30:Int)+(1:Int)))) w_52<m_28 out29 k30 w_31))
 (R (out29) w_31))
set_option maxRecDepth 100000 in
theorem ref07_rows.ok (t1:(Array Value)) (limit2:Int) (R:Sl→World→Prop) (w:World) (h:ref07_rows.E t1 limit2 R w):Cl Tryz.prog [kS] n_ref07_rows ⟨[(.agg t1),(.int .i64 limit2)]⟩ w R:=
 calls_of_eq Tryz.mix Tryz.f66 [(.agg t1),(.int .i64 limit2)] [kS] R 80 [.tmp 4] (by kernel_rfl) (by kernel_rfl) (by kernel_rfl) (by kernel_rfl) (by kernel_rfl)
  (.s .o (.s .o (.s .o (.s (.s .o (.b (.l [(6,kS),(7,kI)] (.s (.s .o (.c .o .o)) (.s (.b .o) .o))))) (.s .o (.s (.s .o (.b (.l [(8,kS),(9,kI)] (.s (.s .o (.c .o .o)) (.s (.b (.s .o (.s .o (.s (.s .o (.b (.l [(11,kS),(12,kI)] (.s (.s .o (.c .o .o)) (.s (.b .o) .o))))) .o)))) .o))))) (.s .o .o)))))))
  (by kernel_rfl) h
set_option maxRecDepth 100000 in
def ref07_count.E (l1:(Array Value)) (all_2:Sl) (row3:Int) (i4:Int) (R:(Array Value)→World→Prop) (w:World):Prop:=
 Nw 36 l1 w fun (b6:Nat) (w_5:World)=>
 Nw 36 ⟨List.replicate 258 (.int .u8 0)⟩ w_5 fun (b8:Nat) (w_7:World)=>
 Idx all_2 row3 1 fun (q9:Addr)=>
 Ld kS q9 w_7 fun (x10:Sl)=>
 Idx x10 i4 4 fun (q11:Addr)=>
 Ld (.st [.int .i64,.int .i64,.int .i64,.int .i64]) q11 w_7 fun (x12:(TT [.int .i64,.int .i64,.int .i64,.int .i64]))=>
 Nw 166 ⟨[(.int .i64 0),(.int .i64 0),(.int .i64 0),(.int .i64 0)]⟩ w_7 fun (b14:Nat) (w_13:World)=>
 StC (⟨b14,0,none⟩:Addr) [(.int .i64 x12.1),(.int .i64 x12.2.1),(.int .i64 x12.2.2.1),(.int .i64 x12.2.2.2.1)] 0 w_13 fun (w_15:World)=>
 Ld kI ((⟨b14,0,none⟩:Addr).add 1) w_15 fun (Symbol16:Int)=>
 IfB (decide ((Symbol16:Int)≥(0:Int)))
 (Ld kI ((⟨b14,0,none⟩:Addr).add 1) w_15 fun (Symbol17:Int)=>
 IdxP (⟨b6,0,none⟩:Addr) 258 Symbol17 1 fun (q18:Addr)=>
 Ld (kInt .u8) q18 w_15 fun (x19:Int)=>
 IdxP (⟨b6,0,none⟩:Addr) 258 Symbol17 1 fun (q20:Addr)=>
 St q20 (.int .u8 (u8 ((x19:Int)+(1:Int)))) w_15 fun (w_21:World)=>
 Ld (.arr 258) (⟨b6,0,none⟩:Addr) w_21 fun (x22:(Array Value))=>
 StA 258 (⟨b8,0,none⟩:Addr) x22 w_21 fun (w_23:World)=>
 Ld (.arr 258) (⟨b8,0,none⟩:Addr) w_23 fun (res24:(Array Value))=>
 R (res24) w_23)
 (Held w_15 fun (S25:World→Prop) (w_26:World)=>
 LdS (.arr 258) (⟨b6,0,none⟩:Addr) S25 fun (x27:(Array Value))=>
 LdS kI ((⟨b14,0,none⟩:Addr).add 2) S25 fun (One28:Int)=>
 LdS kI ((⟨b14,0,none⟩:Addr).add 3) S25 fun (Two29:Int)=>
 Cl Tryz.prog [(.arr 258)] n_ref07_count ⟨[(.agg x27),(.slice all_2.base all_2.len all_2.cap),(.int .i64 (i64 ((row3:Int) - (1:Int)))),(.int .i64 One28)]⟩ w_26 fun (r31:(Array Value)) (w_30:World)=>
 S25 w_30∧
 Cl Tryz.prog [(.arr 258)] n_ref07_count ⟨[(.agg r31),(.slice all_2.base all_2.len all_2.cap),(.int .i64 (i64 ((row3:Int) - (1:Int)))),(.int .i64 Two29)]⟩ w_30 fun (r33:(Array Value)) (w_32:World)=>
 S25 w_32∧
 StA 258 (⟨b8,0,none⟩:Addr) r33 w_32 fun (w_34:World)=>
 S25 w_34∧
 Ld (.arr 258) (⟨b8,0,none⟩:Addr) w_34 fun (res35:(Array Value))=>
 R (res35) w_34)
set_option maxRecDepth 100000 in
theorem ref07_count.ok (l1:(Array Value)) (all_2:Sl) (row3:Int) (i4:Int) (R:(Array Value)→World→Prop) (w:World) (h:ref07_count.E l1 all_2 row3 i4 R w):Cl Tryz.prog [(.arr 258)] n_ref07_count ⟨[(.agg l1),(.slice all_2.base all_2.len all_2.cap),(.int .i64 row3),(.int .i64 i4)]⟩ w R:=
 calls_of_eq Tryz.mix Tryz.f67 [(.agg l1),(.slice all_2.base all_2.len all_2.cap),(.int .i64 row3),(.int .i64 i4)] [(.arr 258)] R 40 [.cell 8 36] (by kernel_rfl) (by kernel_rfl) (by kernel_rfl) (by kernel_rfl) (by kernel_rfl)
  (.s .o (.s .o (.s (.s .o (.c (.s .o (.s .o .o)) .o)) (.s .o .o))))
  (by kernel_rfl) h
set_option maxRecDepth 100000 in
def ref07_put.E (row1:Sl) (x2:(TT [.int .i64,.int .i64,.int .i64,.int .i64])) (R:Sl→World→Prop) (w:World):Prop:=
 Nw 166 ⟨[(.int .i64 x2.1),(.int .i64 x2.2.1),(.int .i64 x2.2.2.1),(.int .i64 x2.2.2.2.1)]⟩ w fun (b4:Nat) (w_3:World)=>
 ∃(I_5:Int→World→Prop) (m_6:Int→World→Nat),I_5 ((row1.len:Int)) w_3∧
 ∀(k7:Int),∀(w_8:World),I_5 k7 w_8→
 Drw w_8 fun (w_9:World)=>
 IfB (decide ((k7:Int)>(0:Int)))
 (Idx row1 (i64 ((k7:Int) - (1:Int))) 4 fun (q10:Addr)=>
 Ld kI (q10.add 0) w_9 fun (Weight11:Int)=>
 Ld kI ((⟨b4,0,none⟩:Addr).add 0) w_9 fun (Weight12:Int)=>
 IfB (decide ((Weight11:Int)>(Weight12:Int)))
 (I_5 ((i64 ((k7:Int) - (1:Int)))) w_9∧m_6 ((i64 ((k7:Int) - (1:Int)))) w_9<m_6 k7 w_8)
 (Slc row1 0 k7 (row1).cap 4 fun (s13:Sl)=>
 Run Tryz.prog (Builtin.append_ #[164,164] 164 ⟨[(.slice none 0 0),(.slice s13.base s13.len s13.cap)]⟩) kS w_9 fun (s15:Sl) (w_14:World)=>
 Ld (.st [.int .i64,.int .i64,.int .i64,.int .i64]) (⟨b4,0,none⟩:Addr) w_14 fun (x16:(TT [.int .i64,.int .i64,.int .i64,.int .i64]))=>
 Nw 166 ⟨[(.int .i64 x16.1),(.int .i64 x16.2.1),(.int .i64 x16.2.2.1),(.int .i64 x16.2.2.2.1)]⟩ w_14 fun (b18:Nat) (w_17:World)=>
 Run Tryz.prog (Builtin.append_ #[164,164] 164 ⟨[(.slice s15.base s15.len s15.cap),(.slice (⟨some ⟨b18,0,none⟩,1,1⟩:Sl).base (⟨some ⟨b18,0,none⟩,1,1⟩:Sl).len (⟨some ⟨b18,0,none⟩,1,1⟩:Sl).cap)]⟩) kS w_17 fun (s20:Sl) (w_19:World)=>
 Slc row1 k7 (row1).len (row1).cap 4 fun (s21:Sl)=>
 Run Tryz.prog (Builtin.append_ #[164,164] 164 ⟨[(.slice s20.base s20.len s20.cap),(.slice s21.base s21.len s21.cap)]⟩) kS w_19 fun (s23:Sl) (w_22:World)=>
 R (s23) w_22))
 (Slc row1 0 k7 (row1).cap 4 fun (s24:Sl)=>
 Run Tryz.prog (Builtin.append_ #[164,164] 164 ⟨[(.slice none 0 0),(.slice s24.base s24.len s24.cap)]⟩) kS w_9 fun (s26:Sl) (w_25:World)=>
 Ld (.st [.int .i64,.int .i64,.int .i64,.int .i64]) (⟨b4,0,none⟩:Addr) w_25 fun (x27:(TT [.int .i64,.int .i64,.int .i64,.int .i64]))=>
 Nw 166 ⟨[(.int .i64 x27.1),(.int .i64 x27.2.1),(.int .i64 x27.2.2.1),(.int .i64 x27.2.2.2.1)]⟩ w_25 fun (b29:Nat) (w_28:World)=>
 Run Tryz.prog (Builtin.append_ #[164,164] 164 ⟨[(.slice s26.base s26.len s26.cap),(.slice (⟨some ⟨b29,0,none⟩,1,1⟩:Sl).base (⟨some ⟨b29,0,none⟩,1,1⟩:Sl).len (⟨some ⟨b29,0,none⟩,1,1⟩:Sl).cap)]⟩) kS w_28 fun (s31:Sl) (w_30:World)=>
 Slc row1 k7 (row1).len (row1).cap 4 fun (s32:Sl)=>
 Run Tryz.prog (Builtin.append_ #[164,164] 164 ⟨[(.slice s31.base s31.len s31.cap),(.slice s32.base s32.len s32.cap)]⟩) kS w_30 fun (s34:Sl) (w_33:World)=>
 R (s34) w_33)
set_option maxRecDepth 100000 in
theorem ref07_put.ok (row1:Sl) (x2:(TT [.int .i64,.int .i64,.int .i64,.int .i64])) (R:Sl→World→Prop) (w:World) (h:ref07_put.E row1 x2 R w):Cl Tryz.prog [kS] n_ref07_put ⟨[(.slice row1.base row1.len row1.cap),(.agg ⟨[(.int .i64 x2.1),(.int .i64 x2.2.1),(.int .i64 x2.2.2.1),(.int .i64 x2.2.2.2.1)]⟩)]⟩ w R:=
 calls_of_eq Tryz.mix Tryz.f117 [(.slice row1.base row1.len row1.cap),(.agg ⟨[(.int .i64 x2.1),(.int .i64 x2.2.1),(.int .i64 x2.2.2.1),(.int .i64 x2.2.2.2.1)]⟩)] [kS] R 38 [.tmp 4] (by kernel_rfl) (by kernel_rfl) (by kernel_rfl) (by kernel_rfl) (by kernel_rfl)
  (.s .o (.s .o (.s (.b (.l [(5,kI)] (.s (.s .o (.c .o .o)) (.b .o)))) (.s .o (.s .o (.s .o (.s .o .o)))))))
  (by kernel_rfl) h
end Go.Proofs.YtcdpblipagajiaaGreat
namespace Go.Proofs.YtcdpblipagajiaaGreat
open Go Go.Vc
set_option maxRecDepth 100000 in
def packagemerge_Lengths.E (t1:(Array Value)) (limit2:Int) (R:(Array Value)→Int→World→Prop) (w:World):Prop:=
 Nw 41 t1 w fun (b4:Nat) (w_3:World)=>
 Nw 36 ⟨List.replicate 258 (.int .u8 0)⟩ w_3 fun (b6:Nat) (w_5:World)=>
 Ld (.arr 258) (⟨b4,0,none⟩:Addr) w_5 fun (x7:(Array Value))=>
 Cl Tryz.prog [kS] n_packagemerge_Order ⟨[(.agg x7)]⟩ w_5 fun (r9:Sl) (w_8:World)=>
 Join (fun (w_26:World)=>
 IfB (((r9.len:Int):Int)==(1:Int))
 (Idx r9 0 1 fun (q27:Addr)=>
 Ld kI q27 w_26 fun (x28:Int)=>
 IdxP (⟨b6,0,none⟩:Addr) 258 x28 1 fun (q29:Addr)=>
 St q29 (.int .u8 1) w_26 fun (w_30:World)=>
 Ld (.arr 258) (⟨b6,0,none⟩:Addr) w_30 fun (x31:(Array Value))=>
 StA 258 (⟨b6,0,none⟩:Addr) x31 w_30 fun (w_32:World)=>
 Ld (.arr 258) (⟨b6,0,none⟩:Addr) w_32 fun (res33:(Array Value))=>
 R (res33) (0) w_32)
 (Ld (.arr 258) (⟨b4,0,none⟩:Addr) w_26 fun (x34:(Array Value))=>
 Cl Tryz.prog [kS] n_packagemerge_leaves ⟨[(.agg x34),(.slice r9.base r9.len r9.cap)]⟩ w_26 fun (r36:Sl) (w_35:World)=>
 Nw 189 ⟨[(.slice r36.base r36.len r36.cap)]⟩ w_35 fun (b38:Nat) (w_37:World)=>
 ∃(I_39:Sl→Int→World→Prop) (m_40:Sl→Int→World→Nat),I_39 ((⟨some ⟨b38,0,none⟩,1,1⟩:Sl)) (1) w_37∧
 ∀(rows41:Sl) (k42:Int),∀(w_43:World),I_39 rows41 k42 w_43→
 IfB (decide ((k42:Int)<(limit2:Int)))
 (Held w_43 fun (S44:World→Prop) (w_45:World)=>
 Idx rows41 0 1 fun (q46:Addr)=>
 LdS kS q46 S44 fun (x47:Sl)=>
 Idx rows41 (i64 ((k42:Int) - (1:Int))) 1 fun (q48:Addr)=>
 LdS kS q48 S44 fun (x49:Sl)=>
 Cl Tryz.prog [kS] n_packagemerge_next ⟨[(.slice x47.base x47.len x47.cap),(.slice x49.base x49.len x49.cap)]⟩ w_45 fun (r51:Sl) (w_50:World)=>
 S44 w_50∧
 Nw 189 ⟨[(.slice r51.base r51.len r51.cap)]⟩ w_50 fun (b53:Nat) (w_52:World)=>
 S44 w_52∧
 Run Tryz.prog (Builtin.append_ #[191,191] 191 ⟨[(.slice rows41.base rows41.len rows41.cap),(.slice (⟨some ⟨b53,0,none⟩,1,1⟩:Sl).base (⟨some ⟨b53,0,none⟩,1,1⟩:Sl).len (⟨some ⟨b53,0,none⟩,1,1⟩:Sl).cap)]⟩) kS w_52 fun (s55:Sl) (w_54:World)=>
 S44 w_54∧
 I_39 (s55) ((i64 ((k42:Int)+(1:Int)))) w_54∧m_40 (s55) ((i64 ((k42:Int)+(1:Int)))) w_54<m_40 rows41 k42 w_43)
 (∃(I_56:Int→Int→World→Prop) (m_57:Int→Int→World→Nat),I_56 ((i64 (((i64 ((2:Int)*((r9.len:Int):Int))):Int) - (2:Int)))) ((i64 ((limit2:Int) - (1:Int)))) w_43∧
 ∀(many58:Int) (k59:Int),∀(w_60:World),I_56 many58 k59 w_60→
 Join (fun (w_68:World)=>
 Idx rows41 k59 1 fun (q69:Addr)=>
 Ld kS q69 w_68 fun (x70:Sl)=>
 Slc x70 0 many58 (x70).cap 2 fun (s71:Sl)=>
 ∃(I_72:Int→Int→World→Prop) (m_73:Int→Int→World→Nat),I_72 (0) (0) w_68∧
 ∀(whole74:Int) (t86_75:Int),∀(w_76:World),I_72 whole74 t86_75 w_76→
 IfB (decide ((t86_75:Int)<((s71.len:Int):Int)))
 (Idx s71 t86_75 2 fun (q77:Addr)=>
 Ld (.st [.int .i64,.bool]) q77 w_76 fun (x78:(TT [.int .i64,.bool]))=>
 Nw 194 ⟨[(.int .i64 0),(.bool false)]⟩ w_76 fun (b80:Nat) (w_79:World)=>
 StC (⟨b80,0,none⟩:Addr) [(.int .i64 x78.1),(.bool x78.2.1)] 0 w_79 fun (w_81:World)=>
 Ld kB ((⟨b80,0,none⟩:Addr).add 1) w_81 fun (leaf_82:Bool)=>
 IfB leaf_82
 (Idx r9 whole74 1 fun (q83:Addr)=>
 Ld kI q83 w_81 fun (x84:Int)=>
 IdxP (⟨b6,0,none⟩:Addr) 258 x84 1 fun (q85:Addr)=>
 Ld (kInt .u8) q85 w_81 fun (x86:Int)=>
 IdxP (⟨b6,0,none⟩:Addr) 258 x84 1 fun (q87:Addr)=>
 St q87 (.int .u8 (u8 ((x86:Int)+(1:Int)))) w_81 fun (w_88:World)=>
 I_72 ((i64 ((whole74:Int)+(1:Int)))) ((i64 ((t86_75:Int)+(1:Int)))) w_88∧m_73 ((i64 ((whole74:Int)+(1:Int)))) ((i64 ((t86_75:Int)+(1:Int)))) w_88<m_73 whole74 t86_75 w_76)
 (I_72 (whole74) ((i64 ((t86_75:Int)+(1:Int)))) w_81∧m_73 (whole74) ((i64 ((t86_75:Int)+(1:Int)))) w_81<m_73 whole74 t86_75 w_76))
 (I_56 ((i64 ((2:Int)*((i64 ((many58:Int) - (whole74:Int))):Int)))) ((i64 ((k59:Int) - (1:Int)))) w_76∧m_57 ((i64 ((2:Int)*((i64 ((many58:Int) - (whole74:Int))):Int)))) ((i64 ((k59:Int) - (1:Int)))) w_76<m_57 many58 k59 w_60)) fun (K_61:World→Prop)=>
 IfB (decide ((k59:Int)≥(0:Int)))
 (IfB (decide ((many58:Int)>(0:Int)))
 (K_61 w_60)
 (Ld (.arr 258) (⟨b6,0,none⟩:Addr) w_60 fun (x62:(Array Value))=>
 StA 258 (⟨b6,0,none⟩:Addr) x62 w_60 fun (w_63:World)=>
 Ld (.arr 258) (⟨b6,0,none⟩:Addr) w_63 fun (res64:(Array Value))=>
 R (res64) (0) w_63))
 (Ld (.arr 258) (⟨b6,0,none⟩:Addr) w_60 fun (x65:(Array Value))=>
 StA 258 (⟨b6,0,none⟩:Addr) x65 w_60 fun (w_66:World)=>
 Ld (.arr 258) (⟨b6,0,none⟩:Addr) w_66 fun (res67:(Array Value))=>
 R (res67) (0) w_66)))) fun (K_10:World→Prop)=>
 Ld (.arr 258) (⟨b4,0,none⟩:Addr) w_8 fun (x11:(Array Value))=>
 Cl Tryz.prog [kB] n_packagemerge_Valid ⟨[(.agg x11)]⟩ w_8 fun (r13:Bool) (w_12:World)=>
 IfB (!r13)
 (Ld (.arr 258) (⟨b6,0,none⟩:Addr) w_12 fun (x14:(Array Value))=>
 StA 258 (⟨b6,0,none⟩:Addr) x14 w_12 fun (w_15:World)=>
 Ld (.arr 258) (⟨b6,0,none⟩:Addr) w_15 fun (res16:(Array Value))=>
 R (res16) (2) w_15)
 (IfB (decide ((limit2:Int)<(1:Int)))
 (Ld (.arr 258) (⟨b6,0,none⟩:Addr) w_12 fun (x17:(Array Value))=>
 StA 258 (⟨b6,0,none⟩:Addr) x17 w_12 fun (w_18:World)=>
 Ld (.arr 258) (⟨b6,0,none⟩:Addr) w_18 fun (res19:(Array Value))=>
 R (res19) (2) w_18)
 (IfB (decide ((limit2:Int)>(15:Int)))
 (Ld (.arr 258) (⟨b6,0,none⟩:Addr) w_12 fun (x20:(Array Value))=>
 StA 258 (⟨b6,0,none⟩:Addr) x20 w_12 fun (w_21:World)=>
 Ld (.arr 258) (⟨b6,0,none⟩:Addr) w_21 fun (res22:(Array Value))=>
 R (res22) (2) w_21)
 (0≤((u64 limit2):Int)∧
 IfB (decide (((r9.len:Int):Int)>((ishl .i64 (1:Int) ((u64 limit2):Int)):Int)))
 (Ld (.arr 258) (⟨b6,0,none⟩:Addr) w_12 fun (x23:(Array Value))=>
 StA 258 (⟨b6,0,none⟩:Addr) x23 w_12 fun (w_24:World)=>
 Ld (.arr 258) (⟨b6,0,none⟩:Addr) w_24 fun (res25:(Array Value))=>
 R (res25) (2) w_24)
 (K_10 w_12))))
set_option maxRecDepth 100000 in
theorem packagemerge_Lengths.ok (t1:(Array Value)) (limit2:Int) (R:(Array Value)→Int→World→Prop) (w:World) (h:packagemerge_Lengths.E t1 limit2 R w):Cl Tryz.prog [(.arr 258),kI] n_packagemerge_Lengths ⟨[(.agg t1),(.int .i64 limit2)]⟩ w R:=
 calls_of_eq Tryz.mix Tryz.f93 [(.agg t1),(.int .i64 limit2)] [(.arr 258),kI] R 108 [.cell 4 36,.tmp 5] (by kernel_rfl) (by kernel_rfl) (by kernel_rfl) (by kernel_rfl) (by kernel_rfl)
  (.s .o (.s .o (.j [] (.s .o (.c (.s .o .o) .o)) (.s (.s .o (.c (.s .o (.s .o .o)) .o)) (.s .o (.s (.s .o (.b (.l [(7,kS),(8,kI)] (.s (.s .o (.c .o .o)) (.s (.b .o) .o))))) (.s .o (.s (.s .o (.b (.l [(9,kI),(10,kI)] (.j [] (.s .o (.c .o .o)) (.s (.b (.s .o (.s (.s .o (.b (.l [(11,kI),(86,kI)] (.s .o (.s (.c .o .o) (.s (.b (.s .o (.s .o (.c (.s .o .o) .o)))) .o)))))) .o))) .o))))) (.s .o .o)))))))))
  (by kernel_rfl) h
set_option maxRecDepth 100000 in
def packagemerge_Order.E (t1:(Array Value)) (R:Sl→World→Prop) (w:World):Prop:=
 Nw 41 t1 w fun (b3:Nat) (w_2:World)=>
 Ld (.arr 258) (⟨b3,0,none⟩:Addr) w_2 fun (x4:(Array Value))=>
 Cl Tryz.prog [kB] n_packagemerge_Valid ⟨[(.agg x4)]⟩ w_2 fun (r6:Bool) (w_5:World)=>
 IfB (!r6)
 (R ((⟨none,0,0⟩:Sl)) w_5)
 (Ld (.arr 258) (⟨b3,0,none⟩:Addr) w_5 fun (x7:(Array Value))=>
 ∃(I_8:Sl→Int→World→Prop) (m_9:Sl→Int→World→Nat),I_8 ((⟨none,0,0⟩:Sl)) (0) w_5∧
 ∀(l10:Sl) (t9_11:Int),∀(w_12:World),I_8 l10 t9_11 w_12→
 IfB (decide ((t9_11:Int)<(258:Int)))
 (IdxV (.int .i64) x7 258 t9_11 fun (e13:Int)=>
 IfB (decide ((e13:Int)>(0:Int)))
 (Nw 3 ⟨[(.int .i64 t9_11)]⟩ w_12 fun (b15:Nat) (w_14:World)=>
 Run Tryz.prog (Builtin.append_ #[33,33] 33 ⟨[(.slice l10.base l10.len l10.cap),(.slice (⟨some ⟨b15,0,none⟩,1,1⟩:Sl).base (⟨some ⟨b15,0,none⟩,1,1⟩:Sl).len (⟨some ⟨b15,0,none⟩,1,1⟩:Sl).cap)]⟩) kS w_14 fun (s17:Sl) (w_16:World)=>
 I_8 (s17) ((i64 ((t9_11:Int)+(1:Int)))) w_16∧m_9 (s17) ((i64 ((t9_11:Int)+(1:Int)))) w_16<m_9 l10 t9_11 w_12)
 (I_8 (l10) ((i64 ((t9_11:Int)+(1:Int)))) w_12∧m_9 (l10) ((i64 ((t9_11:Int)+(1:Int)))) w_12<m_9 l10 t9_11 w_12))
 (Cl Tryz.prog [] n_slices_SortStableFunc_int_int ⟨[(.slice l10.base l10.len l10.cap),(.func (.func 180) ⟨[]⟩ ⟨[(.pointer (some (⟨b3,0,none⟩:Addr)))]⟩)]⟩ w_12 fun (w_18:World)=>
 R (l10) w_18))
set_option maxRecDepth 100000 in
theorem packagemerge_Order.ok (t1:(Array Value)) (R:Sl→World→Prop) (w:World) (h:packagemerge_Order.E t1 R w):Cl Tryz.prog [kS] n_packagemerge_Order ⟨[(.agg t1)]⟩ w R:=
 calls_of_eq Tryz.mix Tryz.f138 [(.agg t1)] [kS] R 24 [.tmp 2] (by kernel_rfl) (by kernel_rfl) (by kernel_rfl) (by kernel_rfl) (by kernel_rfl)
  (.s .o (.s (.s .o (.c (.s .o .o) .o)) (.s (.s .o (.b (.l [(2,kS),(9,kI)] (.s .o (.s (.c .o .o) (.s (.b (.s .o (.s .o (.c .o .o)))) .o)))))) (.s .o (.s .o .o)))))
  (by kernel_rfl) h
def packagemerge_Valid.E (t1:(Array Value)) (R:Bool→World→Prop) (w:World):Prop:=
 Nw 41 t1 w fun (b3:Nat) (w_2:World)=>
 Slc (⟨some (⟨b3,0,none⟩:Addr),258,258⟩:Sl) 0 258 258 1 fun (s4:Sl)=>
 Cl Tryz.prog [kB] n_slices_ContainsFunc_int_int ⟨[(.slice s4.base s4.len s4.cap),(.func (.func 183) ⟨[]⟩ ⟨[]⟩)]⟩ w_2 fun (r6:Bool) (w_5:World)=>
 R ((!r6)) w_5
theorem packagemerge_Valid.ok (t1:(Array Value)) (R:Bool→World→Prop) (w:World) (h:packagemerge_Valid.E t1 R w):Cl Tryz.prog [kB] n_packagemerge_Valid ⟨[(.agg t1)]⟩ w R:=
 calls_of_eq Tryz.mix Tryz.f139 [(.agg t1)] [kB] R 6 [.tmp 2] (by kernel_rfl) (by kernel_rfl) (by kernel_rfl) (by kernel_rfl) (by kernel_rfl)
  (.s .o (.s .o .o))
  (by kernel_rfl) h
def packagemerge_leaves.E (t1:(Array Value)) (l2:Sl) (R:Sl→World→Prop) (w:World):Prop:=
 Nw 41 t1 w fun (b4:Nat) (w_3:World)=>
 ∃(I_5:Sl→Int→World→Prop) (m_6:Sl→Int→World→Nat),I_5 ((⟨none,0,0⟩:Sl)) (0) w_3∧
 ∀(row7:Sl) (t9_8:Int),∀(w_9:World),I_5 row7 t9_8 w_9→
 IfB (decide ((t9_8:Int)<((l2.len:Int):Int)))
 (Idx l2 t9_8 1 fun (q10:Addr)=>
 Ld kI q10 w_9 fun (x11:Int)=>
 IdxP (⟨b4,0,none⟩:Addr) 258 x11 1 fun (q12:Addr)=>
 Ld kI q12 w_9 fun (x13:Int)=>
 Nw 194 ⟨[(.int .i64 x13),(.bool true)]⟩ w_9 fun (b15:Nat) (w_14:World)=>
 Run Tryz.prog (Builtin.append_ #[189,189] 189 ⟨[(.slice row7.base row7.len row7.cap),(.slice (⟨some ⟨b15,0,none⟩,1,1⟩:Sl).base (⟨some ⟨b15,0,none⟩,1,1⟩:Sl).len (⟨some ⟨b15,0,none⟩,1,1⟩:Sl).cap)]⟩) kS w_14 fun (s17:Sl) (w_16:World)=>
 I_5 (s17) ((i64 ((t9_8:Int)+(1:Int)))) w_16∧m_6 (s17) ((i64 ((t9_8:Int)+(1:Int)))) w_16<m_6 row7 t9_8 w_9)
 (R (row7) w_9)
theorem packagemerge_leaves.ok (t1:(Array Value)) (l2:Sl) (R:Sl→World→Prop) (w:World) (h:packagemerge_leaves.E t1 l2 R w):Cl Tryz.prog [kS] n_packagemerge_leaves ⟨[(.agg t1),(.slice l2.base l2.len l2.cap)]⟩ w R:=
 calls_of_eq Tryz.mix Tryz.f140 [(.agg t1),(.slice l2.base l2.len l2.cap)] [kS] R 22 [.tmp 4] (by kernel_rfl) (by kernel_rfl) (by kernel_rfl) (by kernel_rfl) (by kernel_rfl)
  (.s .o (.s (.s .o (.b (.l [(4,kS),(9,kI)] (.s .o (.s (.c .o .o) (.s (.b (.s .o .o)) .o)))))) (.s .o .o)))
  (by kernel_rfl) h
set_option maxRecDepth 100000 in
def packagemerge_next.E (first_1:Sl) (row2:Sl) (R:Sl→World→Prop) (w:World):Prop:=
 ∃(I_3:Sl→Int→Int→World→Prop) (m_4:Sl→Int→Int→World→Nat),I_3 ((⟨none,0,0⟩:Sl)) (0) (0) w∧
 ∀(out5:Sl) (k6:Int) (i7:Int),∀(w_8:World),I_3 out5 k6 i7 w_8→
 IfB (decide (((i64 ((i7:Int)+(1:Int))):Int)<((row2.len:Int):Int)))
 (Held w_8 fun (S9:World→Prop) (w_10:World)=>
 Idx row2 i7 2 fun (q11:Addr)=>
 LdS kI (q11.add 0) S9 fun (weight12:Int)=>
 Idx row2 (i64 ((i7:Int)+(1:Int))) 2 fun (q13:Addr)=>
 LdS kI (q13.add 0) S9 fun (weight14:Int)=>
 Nw 194 ⟨[(.int .i64 0),(.bool false)]⟩ w_10 fun (b16:Nat) (w_15:World)=>
 S9 w_15∧
 StC (⟨b16,0,none⟩:Addr) [(.int .i64 (i64 ((weight12:Int)+(weight14:Int)))),(.bool false)] 0 w_15 fun (w_17:World)=>
 S9 w_17∧
 ∃(I_18:Sl→Int→World→Prop) (m_19:Sl→Int→World→Nat),I_18 (out5) (k6) w_17∧
 ∀(out20:Sl) (k21:Int),∀(w_22:World),I_18 out20 k21 w_22→
 Drw w_22 fun (w_23:World)=>
 IfB (decide ((k21:Int)<((first_1.len:Int):Int)))
 (Idx first_1 k21 2 fun (q24:Addr)=>
 Ld kI (q24.add 0) w_23 fun (weight25:Int)=>
 Ld kI ((⟨b16,0,none⟩:Addr).add 0) w_23 fun (weight26:Int)=>
 IfB (decide ((weight25:Int)≤(weight26:Int)))
 (Idx first_1 k21 2 fun (q27:Addr)=>
 Ld (.st [.int .i64,.bool]) q27 w_23 fun (x28:(TT [.int .i64,.bool]))=>
 Nw 194 ⟨[(.int .i64 x28.1),(.bool x28.2.1)]⟩ w_23 fun (b30:Nat) (w_29:World)=>
 Run Tryz.prog (Builtin.append_ #[189,189] 189 ⟨[(.slice out20.base out20.len out20.cap),(.slice (⟨some ⟨b30,0,none⟩,1,1⟩:Sl).base (⟨some ⟨b30,0,none⟩,1,1⟩:Sl).len (⟨some ⟨b30,0,none⟩,1,1⟩:Sl).cap)]⟩) kS w_29 fun (s32:Sl) (w_31:World)=>
 I_18 (s32) ((i64 ((k21:Int)+(1:Int)))) w_31∧m_19 (s32) ((i64 ((k21:Int)+(1:Int)))) w_31<m_19 out20 k21 w_22)
 (Ld (.st [.int .i64,.bool]) (⟨b16,0,none⟩:Addr) w_23 fun (x33:(TT [.int .i64,.bool]))=>
 Nw 194 ⟨[(.int .i64 x33.1),(.bool x33.2.1)]⟩ w_23 fun (b35:Nat) (w_34:World)=>
 Run Tryz.prog (Builtin.append_ #[189,189] 189 ⟨[(.slice out20.base out20.len out20.cap),(.slice (⟨some ⟨b35,0,none⟩,1,1⟩:Sl).base (⟨some ⟨b35,0,none⟩,1,1⟩:Sl).len (⟨some ⟨b35,0,none⟩,1,1⟩:Sl).cap)]⟩) kS w_34 fun (s37:Sl) (w_36:World)=>
 I_3 (s37) (k21) ((i64 ((i7:Int)+(2:Int)))) w_36∧m_4 (s37) (k21) ((i64 ((i7:Int)+(2:Int)))) w_36<m_4 out5 k6 i7 w_8))
 (Ld (.st [.int .i64,.bool]) (⟨b16,0,none⟩:Addr) w_23 fun (x38:(TT [.int .i64,.bool]))=>
 Nw 194 ⟨[(.int .i64 x38.1),(.bool x38.2.1)]⟩ w_23 fun (b40:Nat) (w_39:World)=>
 Run Tryz.prog (Builtin.append_ #[189,189] 189 ⟨[(.slice out20.base out20.len out20.cap),(.slice (⟨some ⟨b40,0,none⟩,1,1⟩:Sl).base (⟨some ⟨b40,0,none⟩,1,1⟩:Sl).len (⟨some ⟨b40,0,none⟩,1,1⟩:Sl).cap)]⟩) kS w_39 fun (s42:Sl) (w_41:World)=>
 I_3 (s42) (k21) ((i64 ((i7:Int)+(2:Int)))) w_41∧m_4 (s42) (k21) ((i64 ((i7:Int)+(2:Int)))) w_41<m_4 out5 k6 i7 w_8))
 (Slc first_1 k6 (first_1).len (first_1).cap 2 fun (s43:Sl)=>
 Run Tryz.prog (Builtin.append_ #[189,189] 189 ⟨[(.slice out5.base out5.len out5.cap),(.slice s43.base s43.len s43.cap)]⟩) kS w_8 fun (s45:Sl) (w_44:World)=>
 R (s45) w_44)
set_option maxRecDepth 100000 in
theorem packagemerge_next.ok (first_1:Sl) (row2:Sl) (R:Sl→World→Prop) (w:World) (h:packagemerge_next.E first_1 row2 R w):Cl Tryz.prog [kS] n_packagemerge_next ⟨[(.slice first_1.base first_1.len first_1.cap),(.slice row2.base row2.len row2.cap)]⟩ w R:=
 calls_of_eq Tryz.mix Tryz.f141 [(.slice first_1.base first_1.len first_1.cap),(.slice row2.base row2.len row2.cap)] [kS] R 60 [.tmp 4] (by kernel_rfl) (by kernel_rfl) (by kernel_rfl) (by kernel_rfl) (by kernel_rfl)
  (.s .o (.s .o (.s (.s .o (.b (.l [(4,kS),(5,kI),(6,kI)] (.s (.s .o (.c .o .o)) (.s (.b (.s .o (.s (.b (.l [(4,kS),(5,kI)] (.s (.s .o (.c .o .o)) (.s (.b .o) .o)))) .o))) .o))))) (.s .o .o))))
  (by kernel_rfl) h
def packagemerge_Order_1.E (a1:Int) (b2:Int) (c3:Addr) (R:Int→World→Prop) (w:World):Prop:=
 Drw w fun (w_4:World)=>
 IdxP c3 258 a1 1 fun (q5:Addr)=>
 Ld kI q5 w_4 fun (x6:Int)=>
 IdxP c3 258 b2 1 fun (q7:Addr)=>
 Ld kI q7 w_4 fun (x8:Int)=>
 Cl Tryz.prog [kI] n_cmp_Compare_int ⟨[(.int .i64 x6),(.int .i64 x8)]⟩ w_4 fun (r10:Int) (w_9:World)=>
 R (r10) w_9
theorem packagemerge_Order_1.ok (a1:Int) (b2:Int) (c3:Addr) (R:Int→World→Prop) (w:World) (h:packagemerge_Order_1.E a1 b2 c3 R w):Cl Tryz.prog [kI] n_packagemerge_Order_1 ⟨[(.int .i64 a1),(.int .i64 b2),(.pointer (some c3))]⟩ w R:=
 calls_of_eq Tryz.mix Tryz.f180 [(.int .i64 a1),(.int .i64 b2),(.pointer (some c3))] [kI] R 13 [.tmp 5] (by kernel_rfl) (by kernel_rfl) (by kernel_rfl) (by kernel_rfl) (by kernel_rfl)
  (.s .o (.s .o .o))
  (by kernel_rfl) h
def packagemerge_Valid_1.E (n1:Int) (R:Bool→World→Prop) (w:World):Prop:=
 IfB (decide ((n1:Int)<(0:Int)))
 (R (true) w)
 (R ((decide ((n1:Int)>(2147483647:Int)))) w)
theorem packagemerge_Valid_1.ok (n1:Int) (R:Bool→World→Prop) (w:World) (h:packagemerge_Valid_1.E n1 R w):Cl Tryz.prog [kB] n_packagemerge_Valid_1 ⟨[(.int .i64 n1)]⟩ w R:=
 calls_of_eq Tryz.mix Tryz.f183 [(.int .i64 n1)] [kB] R 9 [.tmp 2] (by kernel_rfl) (by kernel_rfl) (by kernel_rfl) (by kernel_rfl) (by kernel_rfl)
  (.s .o (.s .o .o))
  (by kernel_rfl) h
end Go.Proofs.YtcdpblipagajiaaGreat
namespace Go.Pm
abbrev It:=Nat×Bool
def wts (l:List It):Nat:=(l.map (·.1)).sum
def leafs (l:List It):Nat:=(l.filter (·.2)).length
def Up (l:List It):Prop:=l.Pairwise fun a b=>a.1≤b.1
def pairs:List It→List It
 |a::b::l=>(a.1+b.1,false)::pairs l
 |_=> []
def mrg (A:List It):List It→List It
 | []=>A
 |p::B=>A.takeWhile (fun a=>decide (a.1≤p.1))++p::mrg (A.dropWhile fun a=>decide (a.1≤p.1)) B
theorem mrg_nil {A:List It}:mrg A []=A:=rfl
theorem nil_mrg: ∀{B:List It},mrg [] B=B
 | []=>rfl
 |p::B=>by simp [mrg,nil_mrg]
theorem mrg_le {a p:It} {A B:List It} (h:a.1≤p.1):mrg (a::A) (p::B)=a::mrg A (p::B):=by simp [mrg,h]
theorem mrg_gt {a p:It} {A B:List It} (h: ¬a.1≤p.1):mrg (a::A) (p::B)=p::mrg (a::A) B:=by simp [mrg,h]
theorem mrg_ind {P:List It→List It→Prop} (h1: ∀B,P [] B) (h2: ∀a A,P (a::A) []) (h3: ∀a A p B,a.1≤p.1→P A (p::B)→P (a::A) (p::B)) (h4: ∀a A p B,¬a.1≤p.1→P (a::A) B→P (a::A) (p::B)):
  ∀A B,P A B
 | [],B=>h1 B
 |a::A,[]=>h2 a A
 |a::A,p::B=>if h:a.1≤p.1 then h3 a A p B h (mrg_ind h1 h2 h3 h4 A (p::B)) else h4 a A p B h (mrg_ind h1 h2 h3 h4 (a::A) B)
theorem mrg_perm: ∀A B,(mrg A B).Perm (A++B):=by
 refine mrg_ind (fun B=>by rw [nil_mrg];exact .refl _) (fun a A=>by rw [mrg_nil];simp) (fun a A p B h ih=> ?_) (fun a A p B h ih=> ?_)
 ·rw [mrg_le h];exact ih.cons a
 ·rw [mrg_gt h]
  exact (ih.cons p).trans (List.perm_middle.symm)
theorem mrg_len (A B:List It):(mrg A B).length=A.length+B.length:=by rw [(mrg_perm A B).length_eq,List.length_append]
theorem mrg_up: ∀A B,Up A→Up B→Up (mrg A B):=by
 refine mrg_ind (fun B _ h=>by rw [nil_mrg];exact h) (fun a A h _=>by rw [mrg_nil];exact h) (fun a A p B h ih hA hB=> ?_) (fun a A p B h ih hA hB=> ?_)
 ·rw [mrg_le h]
  refine List.pairwise_cons.2 ⟨fun x hx=> ?_,ih (List.pairwise_cons.1 hA).2 hB⟩
  rcases List.mem_append.1 ((mrg_perm _ _).mem_iff.1 hx) with hx|hx
  ·exact (List.pairwise_cons.1 hA).1 x hx
  ·rcases List.mem_cons.1 hx with rfl|hx
   ·exact h
   ·exact Nat.le_trans h ((List.pairwise_cons.1 hB).1 x hx)
 ·rw [mrg_gt h]
  refine List.pairwise_cons.2 ⟨fun x hx=> ?_,ih hA (List.pairwise_cons.1 hB).2⟩
  rcases List.mem_append.1 ((mrg_perm _ _).mem_iff.1 hx) with hx|hx
  ·rcases List.mem_cons.1 hx with rfl|hx
   ·omega
   ·have:=(List.pairwise_cons.1 hA).1 x hx;omega
  ·exact (List.pairwise_cons.1 hB).1 x hx
theorem mrg_cut: ∀A B,Up A→∀m,m≤A.length+B.length→∃a b,a+b=m∧a≤A.length∧b≤B.length∧((mrg A B).take m).Perm (A.take a++B.take b)∧∀x∈B.take b,∀y∈A.drop a,x.1<y.1:=by
 refine mrg_ind (fun B _ m hm=> ?_) (fun a A _ m hm=> ?_) (fun a A p B h ih hA m hm=> ?_) (fun a A p B h ih hA m hm=> ?_)
 ·exact ⟨0,m,by omega,Nat.le_refl _,by simpa using hm,by rw [nil_mrg];simp,by simp⟩
 ·exact ⟨m,0,rfl,by simpa using hm,Nat.le_refl _,by rw [mrg_nil];simp,by simp⟩
 ·cases m with
  |zero=>exact ⟨0,0,rfl,Nat.zero_le _,Nat.zero_le _,by simp,by simp⟩
  |succ m=>
   obtain ⟨x,y,h1,h2,h3,h4,h5⟩:=ih (List.pairwise_cons.1 hA).2 m (by simp at hm⊢;omega)
   refine ⟨x+1,y,by omega,by simpa using h2,h3,?_,by simpa using h5⟩
   rw [mrg_le h,List.take_succ_cons,List.take_succ_cons]
   exact h4.cons a
 ·cases m with
  |zero=>exact ⟨0,0,rfl,Nat.zero_le _,Nat.zero_le _,by simp,by simp⟩
  |succ m=>
   obtain ⟨x,y,h1,h2,h3,h4,h5⟩:=ih hA m (by simp at hm⊢;omega)
   refine ⟨x,y+1,by omega,h2,by simpa using h3,?_,?_⟩
   ·rw [mrg_gt h,List.take_succ_cons,List.take_succ_cons]
    exact (h4.cons p).trans List.perm_middle.symm
   ·intro u hu v hv
    rw [List.take_succ_cons] at hu
    rcases List.mem_cons.1 hu with rfl|hu
    ·have hv:v∈a::A:=List.mem_of_mem_drop hv
     rcases List.mem_cons.1 hv with rfl|hv
     ·omega
     ·have:=(List.pairwise_cons.1 hA).1 v hv;omega
    ·exact h5 u hu v hv
theorem wts_cons (a:It) (l:List It):wts (a::l)=a.1+wts l:=by simp [wts]
theorem wts_append (l l':List It):wts (l++l')=wts l+wts l':=by simp [wts]
theorem wts_perm {l l':List It} (h:l.Perm l'):wts l=wts l':=(h.map _).sum_nat
theorem leafs_append (l l':List It):leafs (l++l')=leafs l+leafs l':=by simp [leafs]
theorem leafs_perm {l l':List It} (h:l.Perm l'):leafs l=leafs l':=(h.filter _).length_eq
theorem pairs_len: ∀l:List It,(pairs l).length=l.length/2
 | []=>rfl
 | [_]=>by simp [pairs]
 |_::_::l=>by
  simp only [pairs,List.length_cons,pairs_len l];omega
theorem pairs_leaf: ∀(l:List It) (x:It),x∈pairs l→x.2=false
 | [],_,h=>by simp [pairs] at h
 | [_],_,h=>by simp [pairs] at h
 |a::b::l,x,h=>by
  rw [pairs] at h
  rcases List.mem_cons.1 h with rfl|h
  ·rfl
  ·exact pairs_leaf l x h
theorem pairs_take: ∀(l:List It) (b:Nat),2*b≤l.length→wts ((pairs l).take b)=wts (l.take (2*b))
 |_,0,_=>by simp [wts]
 | [],b+1,h=>by simp at h
 | [_],b+1,h=>by simp only [List.length_singleton] at h;omega
 |x::y::l,b+1,h=>by
  rw [pairs,List.take_succ_cons,wts_cons,show 2*(b+1)=(2*b+1)+1 by omega,List.take_succ_cons,List.take_succ_cons,wts_cons,wts_cons,pairs_take l b (by simp only [List.length_cons] at h;omega)]
  omega
theorem pairs_in: ∀(l:List It) (b:Nat) (x:It),2*b≤l.length→x∈l.take (2*b)→∃p∈(pairs l).take b,x.1≤p.1
 |_,0,_,_,h=>by simp at h
 | [],b+1,_,h,_=>by simp at h
 | [_],b+1,_,h,_=>by simp only [List.length_singleton] at h;omega
 |u::v::l,b+1,x,h,hx=>by
  rw [show 2*(b+1)=(2*b+1)+1 by omega,List.take_succ_cons,List.take_succ_cons] at hx
  rw [pairs,List.take_succ_cons]
  rcases List.mem_cons.1 hx with rfl|hx
  ·exact ⟨_,List.mem_cons_self,by simp⟩
  ·rcases List.mem_cons.1 hx with rfl|hx
   ·exact ⟨_,List.mem_cons_self,by simp⟩
   ·obtain ⟨p,hp,hl⟩:=pairs_in l b x (by simp only [List.length_cons] at h;omega) hx
    exact ⟨p,List.mem_cons_of_mem _ hp,hl⟩
theorem pairs_up: ∀l:List It,Up l→Up (pairs l)
 | [],_=>List.Pairwise.nil
 | [_],_=>List.Pairwise.nil
 |a::b::l,h=>by
  obtain ⟨h1,h2⟩:=List.pairwise_cons.1 h
  obtain ⟨h3,h4⟩:=List.pairwise_cons.1 h2
  refine List.pairwise_cons.2 ⟨fun p hp=> ?_,pairs_up l h4⟩
  have: ∀(l:List It),(∀x∈l,a.1≤x.1∧b.1≤x.1)→∀p∈pairs l,a.1+b.1≤p.1:=by
   intro l
   induction l using pairs.induct with
   |case1 u v l ih=>
    intro hx p hp
    rw [pairs] at hp
    rcases List.mem_cons.1 hp with rfl|hp
    ·have:=hx u (by simp);have:=hx v (by simp);simp only;omega
    ·exact ih (fun x hx'=>hx x (by simp [hx'])) p hp
   |case2 l hl=>intro _ p hp;rw [pairs] at hp
                ·simp at hp
                ·exact hl
  exact this l (fun x hx=>⟨h1 x (List.mem_cons_of_mem _ hx),h3 x hx⟩) p hp
def lv0 (ws:List Nat):List It:=ws.map fun w=>(w,true)
def row (ws:List Nat):Nat→List It
 |0=>lv0 ws
 |k+1=>mrg (lv0 ws) (pairs (row ws k))
def Asc (ws:List Nat):Prop:=ws.Pairwise (·≤·)
theorem lv0_up {ws:List Nat} (h:Asc ws):Up (lv0 ws):=List.Pairwise.map _ (fun _ _ h=>h) h
theorem row_up {ws:List Nat} (h:Asc ws): ∀k,Up (row ws k)
 |0=>lv0_up h
 |k+1=>mrg_up _ _ (lv0_up h) (pairs_up _ (row_up h k))
theorem lv0_len (ws:List Nat):(lv0 ws).length=ws.length:=List.length_map _
theorem row_len (ws:List Nat) (k:Nat):(row ws (k+1)).length=ws.length+(row ws k).length/2:=by rw [row,mrg_len,lv0_len,pairs_len]
theorem lv0_wts (ws:List Nat):wts (lv0 ws)=ws.sum:=by
 unfold wts lv0
 rw [List.map_map]
 congr 1
 exact List.map_id _
theorem lv0_take (ws:List Nat) (a:Nat):(lv0 ws).take a=lv0 (ws.take a):=List.map_take.symm
theorem lv0_leafs (ws:List Nat):leafs (lv0 ws)=ws.length:=by
 unfold leafs lv0
 rw [List.filter_eq_self.2]
 ·simp
 ·intro x hx;obtain ⟨w,_,rfl⟩:=List.mem_map.1 hx;rfl
theorem pk_leafs {l:List It} (h: ∀x∈l,x.2=false):leafs l=0:=by
 unfold leafs
 rw [List.length_eq_zero_iff,List.filter_eq_nil_iff]
 intro x hx;simp [h x hx]
theorem row_enough {ws:List Nat}: ∀k,ws.length≤2^(k+1)→2*ws.length - 2≤(row ws k).length:=by
 have key: ∀k c,2^k*c≥ws.length→1≤c→2*ws.length≤(row ws k).length+c:=by
  intro k
  induction k with
  |zero=>intro c h _;simp only [row,lv0_len];omega
  |succ k ih=>
   intro c h hc
   have:=ih (2*c) (by rw [Nat.pow_succ] at h;rw [←Nat.mul_assoc];exact h) (by omega)
   rw [row_len];omega
 intro k h
 have:=key k 2 (by rw [Nat.pow_succ] at h;exact h) (by omega)
 omega
theorem row_cut {ws:List Nat} (h:Asc ws) (k m:Nat) (hm:m≤(row ws (k+1)).length):leafs ((row ws (k+1)).take m)≤m∧leafs ((row ws (k+1)).take m)≤ws.length∧2*(m - leafs ((row ws (k+1)).take m))≤(row ws k).length∧
  wts ((row ws (k+1)).take m)=(ws.take (leafs ((row ws (k+1)).take m))).sum+wts ((row ws k).take (2*(m - leafs ((row ws (k+1)).take m))))∧
  (∀x∈(row ws k).take (2*(m - leafs ((row ws (k+1)).take m))),∀y∈ws.drop (leafs ((row ws (k+1)).take m)),x.1<y):=by
 have hl:=row_len ws k
 obtain ⟨a,b,h1,h2,h3,h4,h5⟩:=mrg_cut (lv0 ws) (pairs (row ws k)) (lv0_up h) m (by rw [lv0_len,pairs_len,←hl];exact hm)
 rw [lv0_len] at h2
 rw [pairs_len] at h3
 have hlf:leafs ((row ws (k+1)).take m)=a:=by
  rw [row,leafs_perm h4,leafs_append,lv0_take,lv0_leafs,pk_leafs fun x hx=>pairs_leaf _ x (List.mem_of_mem_take hx),List.length_take]
  omega
 rw [hlf]
 have hb:m - a=b:=by omega
 rw [hb]
 refine ⟨by omega,h2,by omega,?_,?_⟩
 ·rw [row,wts_perm h4,wts_append,lv0_take,lv0_wts,pairs_take _ _ (by omega)]
 ·intro x hx y hy
  obtain ⟨p,hp,hxp⟩:=pairs_in _ _ _ (by omega) hx
  have:=h5 p hp (y,true) (by
   unfold lv0
   rw [←List.map_drop]
   exact List.mem_map_of_mem hy)
  exact Nat.lt_of_le_of_lt hxp this
theorem row_cut0 {ws:List Nat} (m:Nat) (hm:m≤ws.length):leafs ((row ws 0).take m)=m∧wts ((row ws 0).take m)=(ws.take m).sum:=by
 rw [row,lv0_take]
 exact ⟨by rw [lv0_leafs,List.length_take];omega,lv0_wts _⟩
def whole (ws:List Nat) (k m:Nat):Nat:=leafs ((row ws k).take m)
def lv (ws:List Nat):Nat→Nat→Nat→Nat
 |0,m,i=>if i<whole ws 0 m then 1 else 0
 |k+1,m,i=>(if i<whole ws (k+1) m then 1 else 0)+lv ws k (2*(m - whole ws (k+1) m)) i
theorem nested {ws:List Nat} (h:Asc ws) (k m:Nat) (hm:m≤(row ws (k+1)).length):whole ws k (2*(m - whole ws (k+1) m))≤whole ws (k+1) m:=by
 obtain ⟨c1,c2,c3,c4,c5⟩:=row_cut h k m hm
 generalize hq:whole ws (k+1) m=a
 unfold whole at hq
 rw [hq] at c1 c2 c3 c4 c5
 rcases Nat.lt_or_ge a (whole ws k (2*(m - a))) with hlt|hge
 ·exfalso
  have hmem: ∀i,i<whole ws k (2*(m - a))→∃(hi:i<ws.length),(ws[i],true)∈(row ws k).take (2*(m - a)):=by
   cases k with
   |zero=>
    intro i hi
    have e0:=row_cut0 (ws:=ws) (2*(m - a)) (by rw [row,lv0_len] at c3;exact c3)
    unfold whole at hi
    rw [e0.1] at hi
    rw [row,lv0_len] at c3
    refine ⟨by omega,?_⟩
    rw [row,lv0_take]
    unfold lv0
    refine List.mem_map_of_mem ?_
    rw [List.mem_iff_getElem]
    exact ⟨i,by rw [List.length_take];omega,by simp⟩
   |succ k=>
    intro i hi
    obtain ⟨a',b',h1,h2,h3,h4,h5⟩:=mrg_cut (lv0 ws) (pairs (row ws k)) (lv0_up h) (2*(m - a)) (by rw [lv0_len,pairs_len,←row_len];exact c3)
    rw [lv0_len] at h2
    have hlf:whole ws (k+1) (2*(m - a))=a':=by
     unfold whole
     rw [row,leafs_perm h4,leafs_append,lv0_take,lv0_leafs,pk_leafs fun x hx=>pairs_leaf _ x (List.mem_of_mem_take hx),List.length_take]
     omega
    rw [hlf] at hi
    refine ⟨by omega,?_⟩
    rw [row,h4.mem_iff,List.mem_append]
    left
    rw [lv0_take]
    unfold lv0
    refine List.mem_map_of_mem ?_
    rw [List.mem_iff_getElem]
    exact ⟨i,by rw [List.length_take];omega,by simp⟩
  obtain ⟨hi,hx⟩:=hmem a hlt
  have:=c5 _ hx ws[a] (by rw [List.mem_iff_getElem];exact ⟨0,by rw [List.length_drop];omega,by simp⟩)
  simp at this
 ·exact hge
theorem lv_zero {ws:List Nat} (h:Asc ws): ∀(k m i:Nat),m≤(row ws k).length→whole ws k m≤i→lv ws k m i=0
 |0,m,i,_,hi=>by unfold lv;rw [if_neg (by omega)]
 |k+1,m,i,hm,hi=>by
  have hn:=nested h k m hm
  unfold lv
  rw [if_neg (by omega),Nat.zero_add]
  exact lv_zero h k _ i (row_cut h k m hm).2.2.1 (by omega)
theorem lv_le (ws:List Nat): ∀(k m i:Nat),lv ws k m i≤k+1
 |0,m,i=>by unfold lv;split<;>omega
 |k+1,m,i=>by
  have:=lv_le ws k (2*(m - whole ws (k+1) m)) i
  unfold lv;split<;>omega
def over (n:Nat) (f:Nat→Nat):Nat:=((List.range n).map f).sum
theorem over_succ (n:Nat) (f:Nat→Nat):over (n+1) f=over n f+f n:=by
 unfold over
 rw [List.range_succ,List.map_append,List.sum_append];simp
theorem over_add (n:Nat) (f g:Nat→Nat):over n (fun i=>f i+g i)=over n f+over n g:=by
 induction n with
 |zero=>rfl
 |succ n ih=>rw [over_succ,over_succ,over_succ,ih];omega
theorem over_congr {n:Nat} {f g:Nat→Nat} (h: ∀i,i<n→f i=g i):over n f=over n g:=by
 unfold over
 congr 1
 exact List.map_congr_left fun i hi=>h i (List.mem_range.1 hi)
theorem over_const (n c:Nat):over n (fun _=>c)=n*c:=by
 induction n with
 |zero=>simp [over]
 |succ n ih=>rw [over_succ,ih,Nat.succ_mul]
theorem over_mul (n c:Nat) (f:Nat→Nat):over n (fun i=>c*f i)=c*over n f:=by
 induction n with
 |zero=>rfl
 |succ n ih=>rw [over_succ,over_succ,ih,Nat.mul_add]
theorem over_below (n a:Nat) (ha:a≤n) (c:Nat):over n (fun i=>(if i<a then 1 else 0)*c)=a*c:=by
 have key: ∀n,over n (fun i=>(if i<a then 1 else 0)*c)=min n a*c:=by
  intro n
  induction n with
  |zero=>simp [over]
  |succ n ih=>
   rw [over_succ,ih]
   by_cases hna:n<a
   ·rw [if_pos hna,Nat.min_eq_left (by omega),Nat.min_eq_left (by omega),Nat.one_mul,Nat.succ_mul]
   ·rw [if_neg hna,Nat.min_eq_right (by omega),Nat.min_eq_right (by omega)];simp
 rw [key,Nat.min_eq_right ha]
def lw (ws:List Nat):Nat→Nat→Nat→Nat
 |0,m,i=>if i<whole ws 0 m then 1 else 0
 |k+1,m,i=>(if i<whole ws (k+1) m then 1 else 0)*2^(k+1)+lw ws k (2*(m - whole ws (k+1) m)) i
theorem lw_sum {ws:List Nat} (h:Asc ws): ∀(k m:Nat),m≤(row ws k).length→over ws.length (lw ws k m)=m*2^k
 |0,m,hm=>by
  have hm':m≤ws.length:=by rw [row,lv0_len] at hm;exact hm
  have e:=row_cut0 (ws:=ws) m hm'
  have:=over_below ws.length m hm' 1
  have e2:over ws.length (lw ws 0 m)=over ws.length (fun i=>(if i<m then 1 else 0)*1):=over_congr fun i _=>by
   unfold lw whole
   rw [e.1,Nat.mul_one]
  rw [e2,this]
 |k+1,m,hm=>by
  obtain ⟨c1,c2,c3,c4,c5⟩:=row_cut h k m hm
  have ih:=lw_sum h k (2*(m - whole ws (k+1) m)) c3
  have e:over ws.length (lw ws (k+1) m)=over ws.length (fun i=>(if i<whole ws (k+1) m then 1 else 0)*2^(k+1)+lw ws k (2*(m - whole ws (k+1) m)) i):=rfl
  have c1':whole ws (k+1) m≤m:=c1
  have c2':whole ws (k+1) m≤ws.length:=c2
  rw [e,over_add,over_below _ _ c2',ih,Nat.mul_comm 2,Nat.mul_assoc,←Nat.pow_succ',←Nat.add_mul]
  congr 1;omega
theorem lw_lv {ws:List Nat} (h:Asc ws): ∀(k m i:Nat),m≤(row ws k).length→lw ws k m i+2^(k+1 - lv ws k m i)=2^(k+1)
 |0,m,i,_=>by unfold lw lv;split<;>rfl
 |k+1,m,i,hm=>by
  have c3:=(row_cut h k m hm).2.2.1
  have ih:=lw_lv h k (2*(m - whole ws (k+1) m)) i c3
  have hle:=lv_le ws k (2*(m - whole ws (k+1) m)) i
  have hp:=Nat.pow_succ (n:=2) (m:=k+1)
  unfold lw lv
  by_cases hi:i<whole ws (k+1) m
  ·rw [if_pos hi,Nat.one_mul,show k+1+1 - (1+lv ws k (2*(m - whole ws (k+1) m)) i)=k+1 - lv ws k (2*(m - whole ws (k+1) m)) i by omega]
   omega
  ·have hn:=nested h k m hm
   have hz:=lv_zero h k (2*(m - whole ws (k+1) m)) i c3 (by omega)
   rw [hz] at ih⊢
   rw [if_neg hi]
   simp only [Nat.zero_mul,Nat.zero_add,Nat.sub_zero] at ih⊢
   omega
theorem lv_kraft {ws:List Nat} (h:Asc ws) (k:Nat) (hn:2≤ws.length) (hk:ws.length≤2^(k+1)):over ws.length (fun i=>2^(k+1 - lv ws k (2*ws.length - 2) i))=2^(k+1):=by
 have hm:=row_enough (ws:=ws) k hk
 have h1:=lw_sum h k _ hm
 have h2:=over_add ws.length (lw ws k (2*ws.length - 2)) (fun i=>2^(k+1 - lv ws k (2*ws.length - 2) i))
 rw [over_congr (g:=fun _=>2^(k+1)) fun i _=>lw_lv h k _ i hm,over_const,h1] at h2
 have e1:(2*ws.length - 2)*2^k+2^(k+1)=ws.length*2^(k+1):=by
  have:2*ws.length - 2=2*(ws.length - 1):=by omega
  rw [this,Nat.mul_comm 2,Nat.mul_assoc,←Nat.pow_succ']
  have:ws.length=ws.length - 1+1:=by omega
  conv=>rhs;rw [this,Nat.succ_mul]
 omega
theorem over_single {n:Nat} {f:Nat→Nat} {i:Nat} (hi:i<n):f i≤over n f:=by
 induction n with
 |zero=>omega
 |succ n ih=>
  rw [over_succ]
  by_cases h:i=n
  ·subst h;omega
  ·have:=ih (by omega);omega
theorem over_two {n:Nat} {f:Nat→Nat} {i j:Nat} (hi:i<n) (hj:j<n) (hij:i<j):f i+f j≤over n f:=by
 induction n with
 |zero=>omega
 |succ n ih=>
  rw [over_succ]
  by_cases h:j=n
  ·subst h
   have:=over_single (f:=f) hij
   omega
  ·have:=ih (by omega) (by omega);omega
theorem lv_pos {ws:List Nat} (h:Asc ws) (k:Nat) (hn:2≤ws.length) (hk:ws.length≤2^(k+1)) {i:Nat} (hi:i<ws.length):1≤lv ws k (2*ws.length - 2) i:=by
 have h1:=lv_kraft h k hn hk
 rcases Nat.eq_zero_or_pos (lv ws k (2*ws.length - 2) i) with h0|h0
 ·exfalso
  have hp: ∀j,0<2^(k+1 - lv ws k (2*ws.length - 2) j):=fun j=>Nat.two_pow_pos _
  have e:2^(k+1 - lv ws k (2*ws.length - 2) i)=2^(k+1):=by rw [h0,Nat.sub_zero]
  by_cases hi0:i=0
  ·subst hi0
   have:=over_two (f:=fun i=>2^(k+1 - lv ws k (2*ws.length - 2) i)) hi (show 1<ws.length by omega) (by omega)
   have:=hp 1
   omega
  ·have:=over_two (f:=fun i=>2^(k+1 - lv ws k (2*ws.length - 2) i)) (show 0<ws.length by omega) hi (by omega)
   have:=hp 0
   omega
 ·exact h0
end Go.Pm
set_option maxRecDepth 20000
namespace Go.Pm
def width (S:Nat→List Nat):Nat→Nat
 |0=>(S 0).length
 |k+1=>(S (k+1)).length*2^(k+1)+width S k
def lenOf (ws:List Nat) (L i:Nat):Nat:=if ws.length=1 then 1 else lv ws (L - 1) (2*ws.length - 2) i
theorem lenOf_in {ws:List Nat} {L:Nat} (ha:Asc ws) (hL:1≤L) (hn:ws.length≤2^L) {i:Nat} (hi:i<ws.length):1≤lenOf ws L i∧lenOf ws L i≤L:=by
 unfold lenOf
 split
 ·exact ⟨Nat.le_refl _,hL⟩
 ·obtain ⟨K,rfl⟩: ∃K,L=K+1:=⟨L - 1,by omega⟩
  exact ⟨lv_pos ha K (by omega) hn hi,lv_le ..⟩
end Go.Pm
set_option maxRecDepth 20000
namespace Go.Srt
def validT (t:List Int):Bool:=t.all fun x=>decide (0≤x)&&decide (x≤2147483647)
def MaxT (l:List Nat):Prop:= ∀x∈l,x≤2147483647
def wsOf (l ys:List Nat):List Nat:=ys.map fun s=>l.getD s 0
end Go.Srt
namespace Go.Proofs.YtcdpblipagajiaaGreat
open Go Go.Vc Go.Srt Go.Pm
section
variable {E w:World} {F:List HP}
def aT (t:List Int):Array Value:=⟨t.map vI⟩
theorem aT_size {t:List Int}:(aT t).size=t.length:=by simp [aT]
theorem aT_get {t:List Int} {i:Nat} (h:i<t.length):(aT t)[i]? =some (Sc.enc (.int .i64) t[i]):=by simp [aT,h,vI]
theorem aT_ints {l:List Nat}:aT (ints l)=ai .i64 l:=by
 unfold aT ints ai
 rw [List.map_map];rfl
theorem valid_ints {t:List Int} (h:validT t=true): ∃l:List Nat,t=ints l∧MaxT l:=by
 have h:=List.all_eq_true.1 h
 have h': ∀x∈t,0≤x∧x≤2147483647:=fun x hx=>by have:=h x hx;simpa using this
 refine ⟨t.map Int.toNat,?_,fun y hy=> ?_⟩
 ·unfold ints
  rw [List.map_map]
  refine (List.map_id t).symm.trans (List.map_congr_left fun x hx=> ?_)
  have:=h' x hx
  simp;omega
 ·obtain ⟨x,hx,rfl⟩:=List.mem_map.1 hy
  have:=h' x hx
  omega
theorem ints_valid {l:List Nat} (h:MaxT l):validT (ints l)=true:=by
 refine List.all_eq_true.2 fun x hx=> ?_
 obtain ⟨y,hy,rfl⟩:=List.mem_map.1 hx
 have:=h y hy
 simp;omega
theorem ints_len {l:List Nat}:(ints l).length=l.length:=List.length_map _
theorem bad_c {x:Int} {K:Bool→World→Prop} (hK:K (!(decide (0≤x)&&decide (x≤2147483647))) w):ClX Tryz.prog (.func (.func n_packagemerge_Valid_1) ⟨[]⟩ ⟨[]⟩) [kB] [.int .i64 x] w K:=by
 refine ClX.mk (by kernel_rfl) (packagemerge_Valid_1.ok x K w ?_)
 unfold packagemerge_Valid_1.E
 refine IfB.mk (fun h=> ?_) (fun h=> ?_)
 ·have h:=of_decide_eq_true h
  have e:(!(decide (0≤x)&&decide (x≤2147483647)))=true:=by simp;omega
  rw [e] at hK;exact hK
 ·have h:=of_decide_eq_false h
  have e:(!(decide (0≤x)&&decide (x≤2147483647)))=decide (x>2147483647):=by
   rw [Bool.eq_iff_iff];simp;omega
  rw [e] at hK;exact hK
set_option maxRecDepth 20000 in
theorem pmValid_c {t:List Int} {K:Bool→World→Prop} (h:Hp E w F) (hl:t.length=258) (hK: ∀w',Hp E w' F→K (validT t) w'):Cl Tryz.prog [kB] n_packagemerge_Valid ⟨[.agg (aT t)]⟩ w K:=by
 refine packagemerge_Valid.ok _ _ _ ?_
 unfold packagemerge_Valid.E
 refine Nw.mk h fun b w1 h1=> ?_
 refine Slc.whole (by decide) rfl rfl ?_
 refine slices_ContainsFunc_int_int.ok _ _ _ _ ?_
 unfold slices_ContainsFunc_int_int.E
 refine slices_IndexFunc_int_int.ok _ _ _ _ ?_
 unfold slices_IndexFunc_int_int.E
 refine ⟨fun i w'=> ∃k:Nat,i=(k:Int)∧k≤258∧validT (t.take k)=true∧Hp E w' (Blk b (.cells (aT t) 41 (0,0))::F),fun i _=>258 - i.toNat,⟨0,rfl,by omega,rfl,h1⟩,?_⟩
 rintro i w' ⟨k,rfl,hk,hv,hh⟩
 refine IfB.mk (fun hlt=> ?_) (fun hge=> ?_)
 ·have hlt:k<258:=by have:=of_decide_eq_true hlt;simp only at this;omega
  have hkl:k<t.length:=by omega
  have hsl:SlT 1 ⟨some ⟨b,0,none⟩,258,258⟩ (t.map vI) w':=hh.tells (Tells.blk (by simp [aT]) (by simpa using hl))
  refine Idx.rd hsl (by omega) (by simp only;omega) fun q hq hc=>Ld.sc (s:= .int .i64) t[k] (by rw [hc];simp [vI]) (bad_c ?_)
  have es:validT (t.take (k+1))=(validT (t.take k)&&(decide (0≤t[k])&&decide (t[k]≤2147483647))):=by
   unfold validT
   rw [List.take_add_one,List.all_append,List.getElem?_eq_getElem hkl];simp
  rw [hv,Bool.true_and] at es
  rw [←es]
  refine IfB.mk (fun hb=> ?_) (fun hb=> ?_)
  ·have hb:validT (t.take (k+1))=false:=by simpa using hb
   have e1:validT t=false:=by
    have:=List.take_append_drop (k+1) t
    rw [←this]
    unfold validT at hb⊢
    rw [List.all_append,hb,Bool.false_and]
   have e2:decide ((k:Int)≥0)=true:=by simp
   show K (!decide ((k:Int)≥0)) w'
   rw [e2]
   have:=hK w' hh.drop
   rw [e1] at this;exact this
  ·have hb:validT (t.take (k+1))=true:=by simpa using hb
   rw [i64_id (by omega)]
   exact ⟨⟨k+1,rfl,by omega,hb,hh⟩,by dsimp only;omega⟩
 ·have hge:k=258:=by have:=of_decide_eq_false hge;simp only at this;omega
  subst hge
  have e2:decide ((-1:Int)≥0)=false:=by decide
  show K (!decide ((-1:Int)≥0)) w'
  rw [e2]
  have:=hK w' hh.drop
  rw [List.take_of_length_le (by omega)] at hv
  rw [hv] at this;exact this
theorem cmpInt_c {x y:Int} {K:Int→World→Prop} (hK: ∀z:Int,(z<0↔x<y)→K z w):Cl Tryz.prog [kI] n_cmp_Compare_int ⟨[.int .i64 x,.int .i64 y]⟩ w K:=by
 refine cmp_Compare_int.ok _ _ _ _ ?_
 unfold cmp_Compare_int.E
 refine cmp_isNaN_int.ok _ _ _ (cmp_isNaN_int.ok _ _ _ ?_)
 refine IfB.f (by simp) (IfB.f (by simp) (IfB.mk (fun h=>hK _ ?_) (fun h=>IfB.mk (fun h2=>hK _ ?_) (fun h2=>hK _ ?_))))
 ·have:=of_decide_eq_true h;omega
 ·have:=of_decide_eq_false h;omega
 ·have:=of_decide_eq_false h;omega
theorem getI' {l:List Nat} {i:Nat} {k:IntKind} (h:i<l.length):(ai k l)[i]? =some (Sc.enc (.int k) (l.getD i 0:Int)):=by
 rw [ai_get h,List.getD_eq_getElem?_getD,List.getElem?_eq_getElem h];rfl
theorem pmCmp {l:List Nat} {b:Nat} {t:TypeId} (hl:l.length=258):CmpOk E (Blk b (.cells (ai .i64 l) t (0,0))::F) (.func (.func n_packagemerge_Order_1) ⟨[]⟩ ⟨[.pointer (some ⟨b,0,none⟩)]⟩) (lkey l) (fun x=>0≤x∧x<258):=by
 rintro A w y x K h ⟨hx0,hx⟩ ⟨hy0,hy⟩ hK
 refine ClX.mk (by kernel_rfl) ?_
 refine packagemerge_Order_1.ok y x ⟨b,0,none⟩ K w ?_
 unfold packagemerge_Order_1.E
 refine Drw.mk h fun w1 h1=> ?_
 have h1':=h1.perm List.perm_append_comm
 refine IdxP.rd (s:= .int .i64) h1' hy0 (by omega) _ (getI' (by omega)) ?_
 refine IdxP.rd (s:= .int .i64) h1' hx0 (by omega) _ (getI' (by omega)) ?_
 refine cmpInt_c fun z hz=>hK z w1 ?_ h1
 rw [hz];rfl
set_option maxRecDepth 20000 in
theorem pmOrder_c {t:List Int} {K:Sl→World→Prop} (h:Hp E w F) (hl:t.length=258) (hK1:validT t=false→∀w',Hp E w' F→K ⟨none,0,0⟩ w')
  (hK2: ∀l,t=ints l→MaxT l→l.length=258→∀ys s w',IsOrd l ys→Hp E w' (OwnS 1 s ((ints ys).map vI)::F)→K s w'):Cl Tryz.prog [kS] n_packagemerge_Order ⟨[.agg (aT t)]⟩ w K:=by
 refine packagemerge_Order.ok _ _ _ ?_
 unfold packagemerge_Order.E
 refine Nw.mk h fun b w1 h1=>Ld.arr h1 (by rw [aT_size,hl]) (pmValid_c h1 hl fun w2 h2=> ?_)
 refine IfB.mk (fun hv=>hK1 (by simpa using hv) w2 h2.drop) (fun hv=> ?_)
 have hv:validT t=true:=by simpa using hv
 obtain ⟨l,rfl,hm⟩:=valid_ints hv
 rw [ints_len] at hl
 rw [aT_ints] at h2
 refine Ld.arr h2 (by rw [ai_size,hl]) ?_
 refine ⟨fun o i w'=> ∃k:Nat,i=(k:Int)∧k≤258∧Hp E w' (OwnS 1 o ((ints (usedTo l k)).map vI)::Blk b (.cells (ai .i64 l) 41 (0,0))::F),fun _ i _=>258 - i.toNat,⟨0,rfl,by omega,h2.ownNil 1⟩,?_⟩
 intro o i w' hI
 obtain ⟨k,hi,hk,hh⟩:=hI
 subst hi
 refine IfB.mk (fun hlt=> ?_) (fun hge=> ?_)
 ·have hlt:k<258:=by have:=of_decide_eq_true hlt;omega
  have hkl:k<l.length:=by omega
  refine IdxV.rd (s:= .int .i64) (by omega) (by omega) _ (getI hkl) ?_
  refine IfB.mk (fun hp=> ?_) (fun hp=> ?_)
  ·have hp:0<l.getD k 0:=by have:=of_decide_eq_true hp;omega
   refine Nw.mk hh fun b2 w3 h3=> ?_
   have ho:=hh.ownLen
   have hu:=usedTo_len l k
   simp only [List.length_map,ints,Nat.mul_one] at ho
   refine run_append (ys:= [vI (k:Int)]) (n:=1) ty_ints (by decide) (.inl ⟨3,by kernel_rfl⟩) h3.p1 (.inl ⟨some ⟨b2,0,none⟩,1,1,rfl,rfl,h3.tells (Tells.blk rfl rfl)⟩) rfl one_scalar (by omega) (by omega) fun s' w4 h4 hs'=> ?_
   rw [i64_id (by omega)]
   refine ⟨⟨k+1,rfl,by omega,?_⟩,by dsimp only;omega⟩
   rw [usedTo_succ,if_pos hp,ints_app,List.map_append]
   exact h4.p1.drop
  ·have hp: ¬0<l.getD k 0:=by have:=of_decide_eq_false hp;omega
   rw [i64_id (by omega)]
   refine ⟨⟨k+1,rfl,by omega,?_⟩,by dsimp only;omega⟩
   rw [usedTo_succ,if_neg hp,List.append_nil]
   exact hh
 ·have hge:k=258:=by have:=of_decide_eq_false hge;omega
  subst hge
  have hin: ∀x∈usedTo l 258,x<258:=fun x hx=>by
   have:=(List.mem_filter.1 hx).1
   simpa using this
  refine sortStable_c (key:=lkey l) (D:=fun x=>0≤x∧x<258) hh (by have:=usedTo_len l 258;rw [big_eq];simp only [ints,List.length_map];omega) (pmCmp hl) (fun x hx=> ?_) ?_ fun ys w3 hp hs h3=> ?_
  ·obtain ⟨y,hy,rfl⟩:=List.mem_map.1 hx
   have:=hin y hy
   omega
  ·unfold ints
   refine List.Pairwise.map _ (fun a b hab=>Int.ofNat_lt.2 hab) ?_
   exact List.Pairwise.filter _ List.pairwise_lt_range
  ·have hU:usedTo l 258=used l:=by unfold usedTo used;rw [hl]
   rw [hU] at hp
   have e:ys=ints (ys.map Int.toNat):=by
    unfold ints
    rw [List.map_map]
    refine (List.map_id ys).symm.trans (List.map_congr_left fun x hx=> ?_)
    obtain ⟨y,_,rfl⟩:=List.mem_map.1 (hp.mem_iff.1 hx)
    simp
   have pN:(ys.map Int.toNat).Perm (used l):=by
    have:=hp.map Int.toNat
    refine this.trans ?_
    unfold ints
    rw [List.map_map]
    refine List.Perm.of_eq ((List.map_congr_left fun x _=> ?_).trans (List.map_id _))
    simp
   rw [e] at h3 hs
   refine hK2 l rfl hm hl (ys.map Int.toNat) _ w3 ⟨pN,?_⟩ h3.p1.drop
   refine (List.pairwise_map.1 hs).imp fun {a b} hab=> ?_
   unfold Ky lkey at hab
   simp only [Int.toNat_natCast] at hab
   omega
def cIt (x:It):List Value:= [.int .i64 (x.1:Int),.bool x.2]
theorem cIt_len: ∀x,(cIt x).length=2:=fun _=>rfl
theorem cIt_sc: ∀x,∀y∈cIt x,scalarB y=true:=by
 intro x y hy
 simp only [cIt,List.mem_cons,List.not_mem_nil,or_false] at hy
 rcases hy with rfl|rfl<;>rfl
theorem ty_things:ElemT Tryz.prog 189 194 2 16:=ElemT.of (by kernel_rfl) (by kernel_rfl)
theorem lv0_succ {ws:List Nat} {k:Nat} (h:k<ws.length):lv0 (ws.take (k+1))=lv0 (ws.take k)++ [(ws[k],true)]:=by
 unfold lv0
 rw [List.take_add_one,List.map_append,List.getElem?_eq_getElem h];rfl
theorem rdT {s:Sl} {ys:List Nat} {i:Nat} {K:Int→Prop} (hs:SlT 1 s ((ints ys).map vI) w) (hi:i<ys.length) (hK:K (ys[i]:Int)):Idx s (i:Int) 1 fun q=>Ld kI q w K:=by
 have hl:=hs.1
 simp only [List.length_map,ints,Nat.mul_one] at hl
 refine Idx.rd hs (by omega) (by omega) fun q hq hc=>Ld.sc (s:= .int .i64) (ys[i]:Int) ?_ hK
 rw [hc];simp [vI,ints]
set_option maxRecDepth 20000 in
theorem leaves_c {l ys:List Nat} {s:Sl} {K:Sl→World→Prop} (h:Hp E w F) (hl:l.length=258) (hs:Tells F (SlT 1 s ((ints ys).map vI))) (hin: ∀x∈ys,x<258) (hlen:ys.length≤258)
  (hK: ∀s' w',Hp E w' (OwnS 2 s' ((lv0 (wsOf l ys)).flatMap cIt)::F)→K s' w'):Cl Tryz.prog [kS] n_packagemerge_leaves ⟨[.agg (ai .i64 l),.slice s.base s.len s.cap]⟩ w K:=by
 refine packagemerge_leaves.ok _ _ _ _ ?_
 unfold packagemerge_leaves.E
 have hsl:=(h.tells hs).1
 simp only [List.length_map,ints,Nat.mul_one] at hsl
 have hwl:(wsOf l ys).length=ys.length:=List.length_map _
 refine Nw.mk h fun b w1 h1=>⟨fun o i w'=> ∃k:Nat,i=(k:Int)∧k≤ys.length∧Hp E w' (OwnS 2 o ((lv0 ((wsOf l ys).take k)).flatMap cIt)::Blk b (.cells (ai .i64 l) 41 (0,0))::F),fun _ i _=>ys.length - i.toNat,⟨0,rfl,by omega,by simpa [lv0] using h1.ownNil 2⟩,?_⟩
 rintro o i w' ⟨k,rfl,hk,hh⟩
 refine IfB.mk (fun hlt=> ?_) (fun hge=> ?_)
 ·have hlt:k<ys.length:=by have:=of_decide_eq_true hlt;omega
  have hx:=hin _ (List.getElem_mem hlt)
  refine rdT (hh.drop.drop.tells hs) hlt ?_
  refine IdxP.rd (s:= .int .i64) hh.p1 (by omega) (by omega) _ (getI (by omega)) ?_
  have hw:(wsOf l ys)[k]'(by omega)=l.getD ys[k] 0:=by simp [wsOf]
  refine app1 (g:=cIt) (x:=(l.getD ys[k] 0,true)) ty_things cIt_len (by decide) rfl (cIt_sc _) hh (by rw [lv0_len,List.length_take];omega) (by rw [lv0_len,List.length_take];omega) fun s' w3 h3 _=> ?_
  rw [i64_id (by omega)]
  refine ⟨⟨k+1,rfl,by omega,?_⟩,by dsimp only;omega⟩
  rw [lv0_succ (by omega),hw];exact h3
 ·have hge:k=ys.length:=by have:=of_decide_eq_false hge;omega
  subst hge
  rw [List.take_of_length_le (by omega)] at hh
  exact hK _ _ hh.p1.drop
end
end Go.Proofs.YtcdpblipagajiaaGreat
set_option maxRecDepth 20000
namespace Go.Srt
def plc (ys:List Nat) (f:Nat→Nat):List Nat:=(List.range 258).map fun s=>if s∈ys then f (ys.idxOf s) else 0
theorem plc_len (ys:List Nat) (f:Nat→Nat):(plc ys f).length=258:=by simp [plc]
theorem plc_at {ys:List Nat} {f:Nat→Nat} {s:Nat} (hs:s<258):(plc ys f).getD s 0=if s∈ys then f (ys.idxOf s) else 0:=by
 unfold plc
 rw [List.getD_eq_getElem?_getD,List.getElem?_map,List.getElem?_range hs];rfl
theorem idx_at: ∀{ys:List Nat} (_:ys.Nodup) {i:Nat} (hi:i<ys.length),ys.idxOf ys[i]=i
 |y::ys,h,0,_=>by simp [List.idxOf_cons]
 |y::ys,h,i+1,hi=>by
  obtain ⟨h1,h2⟩:=List.nodup_cons.1 h
  have hi':i<ys.length:=by simpa using hi
  have hne: ¬y=ys[i]:=fun e=>h1 (e▸List.getElem_mem hi')
  have:=idx_at h2 hi'
  have e:(y==ys[i])=false:=by simpa using hne
  simp only [List.getElem_cons_succ,List.idxOf_cons,this,e,cond_false]
theorem plc_get {ys:List Nat} {f:Nat→Nat} (hn:ys.Nodup) (hin: ∀s∈ys,s<258) {i:Nat} (hi:i<ys.length):(plc ys f).getD ys[i] 0=f i:=by
 rw [plc_at (hin _ (List.getElem_mem hi)),if_pos (List.getElem_mem hi),idx_at hn hi]
theorem plc_congr {ys:List Nat} {f g:Nat→Nat} (h: ∀i,i<ys.length→f i=g i):plc ys f=plc ys g:=by
 unfold plc
 refine List.map_congr_left fun s _=> ?_
 by_cases hs:s∈ys
 ·rw [if_pos hs,if_pos hs,h _ (List.idxOf_lt_length_of_mem hs)]
 ·rw [if_neg hs,if_neg hs]
theorem plc_set {ys:List Nat} {f:Nat→Nat} {i v:Nat} (hn:ys.Nodup) (hi:i<ys.length):(plc ys f).set ys[i] v=plc ys (fun j=>if j=i then v else f j):=by
 refine List.ext_getElem (by simp [plc]) fun s h1 h2=> ?_
 have hs:s<258:=by rw [plc_len] at h2;exact h2
 rw [List.getElem_set]
 unfold plc
 simp only [List.getElem_map,List.getElem_range]
 by_cases e:ys[i]=s
 ·rw [if_pos e]
  subst e
  rw [if_pos (List.getElem_mem hi),idx_at hn hi,if_pos rfl]
 ·rw [if_neg e]
  by_cases hm:s∈ys
  ·rw [if_pos hm,if_pos hm]
   have hlt:=List.idxOf_lt_length_of_mem hm
   have:ys.idxOf s≠i:=by
    intro e2
    apply e
    have:=List.getElem_idxOf hlt
    rw [←this]
    simp only [e2]
   rw [if_neg this]
  ·rw [if_neg hm,if_neg hm]
theorem plc_zero (ys:List Nat):plc ys (fun _=>0)=List.replicate 258 0:=by
 refine List.eq_replicate_iff.2 ⟨plc_len ..,fun x hx=> ?_⟩
 obtain ⟨s,_,rfl⟩:=List.mem_map.1 hx
 split<;>rfl
theorem ord_nodup {l ys:List Nat} (h:IsOrd l ys):ys.Nodup:=h.2.imp fun {a b} hab e=>by subst e;omega
theorem ord_asc {l ys:List Nat} (h:IsOrd l ys):Pm.Asc (wsOf l ys):=List.Pairwise.map _ (fun _ _ hab=>hab) (h.2.imp fun {a b} hab=>by omega)
end Go.Srt
namespace Go.Proofs.YtcdpblipagajiaaGreat
open Go Go.Vc Go.Srt Go.Pm
section
variable {E w:World} {F:List HP}
theorem two_more {R:List It} {j:Nat} (h:2*j+1<R.length):pairs (R.drop (2*j))=((R[2*j]'(by omega)).1+R[2*j+1].1,false)::pairs (R.drop (2*(j+1))):=by
 rw [List.drop_eq_getElem_cons (show 2*j<R.length by omega),List.drop_eq_getElem_cons (show 2*j+1<R.length by omega),pairs]
 rfl
theorem none_more {R:List It} {j:Nat} (h: ¬2*j+1<R.length):pairs (R.drop (2*j))= []:=by
 have:(pairs (R.drop (2*j))).length=0:=by rw [pairs_len,List.length_drop];omega
 exact List.length_eq_zero_iff.1 this
set_option maxRecDepth 20000 in
theorem next_c {f1 f2:Sl} {A R:List It} {K:Sl→World→Prop} (h:Hp E w F) (hA:Tells F (SlT 2 f1 (A.flatMap cIt))) (hR:Tells F (SlT 2 f2 (R.flatMap cIt))) (hcap:f1.len≤f1.cap)
  (hb: ∀x∈R,x.1≤2^60) (hlA:A.length≤2^20) (hlR:R.length≤2^20)
  (hK: ∀s' w',Hp E w' (OwnS 2 s' ((mrg A (pairs R)).flatMap cIt)::F)→K s' w'):Cl Tryz.prog [kS] n_packagemerge_next ⟨[.slice f1.base f1.len f1.cap,.slice f2.base f2.len f2.cap]⟩ w K:=by
 refine packagemerge_next.ok _ _ _ _ ?_
 unfold packagemerge_next.E
 have la:=SlT.len cIt_len (by decide) (h.tells hA)
 have lr:=SlT.len cIt_len (by decide) (h.tells hR)
 have hpl:=pairs_len R
 have htl:(mrg A (pairs R)).length=A.length+R.length/2:=by rw [mrg_len,hpl]
 have hsz: ∀o X:List It,o++X=mrg A (pairs R)→o.length≤2^21:=fun o X e=>by
  have:=congrArg List.length e
  rw [List.length_append,htl] at this
  omega
 refine ⟨fun o k i w'=> ∃(a j:Nat) (l:List It),k=(a:Int)∧i=((2*j:Nat):Int)∧a≤A.length∧2*j≤R.length∧l++mrg (A.drop a) (pairs (R.drop (2*j)))=mrg A (pairs R)∧Hp E w' (OwnS 2 o (l.flatMap cIt)::F),
  fun _ _ i _=>R.length - i.toNat,⟨0,0,[],rfl,rfl,by omega,by omega,by simp,h.ownNil 2⟩,?_⟩
 rintro o k i w' ⟨a,j,l,rfl,rfl,ha,hj,heq,hh⟩
 have hll:=hsz _ _ heq
 rw [i64_id (x:=((2*j:Nat):Int)+1) (by omega)]
 refine IfB.mk (fun hlt=> ?_) (fun hge=> ?_)
 ·have hlt:2*j+1<R.length:=by have:=of_decide_eq_true hlt;omega
  rw [two_more hlt] at heq
  have hx1:=hb _ (List.getElem_mem (show 2*j<R.length by omega))
  have hx2:=hb _ (List.getElem_mem hlt)
  have hd:Hp E {w' with drawn:=w'.drawn+1} (OwnS 2 o (l.flatMap cIt)::F):=hh.drew
  refine ⟨HasF E F,HasF.mk1 hd,?_⟩
  refine Idx.elT (n:=2*j) cIt_len (by decide) hd.drop hR rfl (by omega) fun p hp=> ?_
  refine LdS.sc (s:= .int .i64) ((R[2*j]'(by omega)).1:Int) (fun w2 h2=>(h2.tells (hp 0 (by decide))).trans (by simp [cIt])) ?_
  refine Idx.elT (n:=2*j+1) cIt_len (by decide) hd.drop hR (by omega) hlt fun q hq=> ?_
  refine LdS.sc (s:= .int .i64) (R[2*j+1].1:Int) (fun w2 h2=>(h2.tells (hq 0 (by decide))).trans (by simp [cIt])) ?_
  rw [i64_id (x:=((R[2*j]'(by omega)).1:Int)+(R[2*j+1].1:Int)) (by omega)]
  generalize hp1:(R[2*j]'(by omega)).1+R[2*j+1].1=p1 at heq
  have hp1':((R[2*j]'(by omega)).1:Int)+(R[2*j+1].1:Int)=(p1:Int):=by omega
  rw [hp1']
  refine Nw.mk hd fun b w3 h3=>⟨HasF.mk2 h3,?_⟩
  refine StC.blk h3 rfl (cIt_sc (p1,false)) fun w4 h4=>⟨HasF.mk2 h4,?_⟩
  refine ⟨fun o k w'=> ∃(a:Nat) (l:List It),k=(a:Int)∧a≤A.length∧l++mrg (A.drop a) ((p1,false)::pairs (R.drop (2*(j+1))))=mrg A (pairs R)∧Hp E w' (OwnS 2 o (l.flatMap cIt)::Blk b (.cells ⟨cIt (p1,false)⟩ 194 (0,0))::F),
   fun _ k _=>A.length - k.toNat,⟨a,l,rfl,ha,heq,h4.p1⟩,?_⟩
  rintro o k w5 ⟨a,l,rfl,ha,heq,hh⟩
  have hll:=hsz _ _ heq
  refine Drw.mk hh fun w6 h6=> ?_
  rw [i64_id (x:=((2*j:Nat):Int)+2) (by omega)]
  have last:A.drop a= []∨(∃(_:a<A.length),¬A[a].1≤p1)→(l++ [(p1,false)])++mrg (A.drop a) (pairs (R.drop (2*(j+1))))=mrg A (pairs R):=by
   rintro (e|⟨hal,hgt⟩)
   ·rw [e,nil_mrg] at heq
    rw [e,nil_mrg,←heq];simp
   ·rw [List.drop_eq_getElem_cons hal,mrg_gt hgt] at heq
    rw [List.drop_eq_getElem_cons hal,←heq];simp
  refine IfB.mk (fun hka=> ?_) (fun hka=> ?_)
  ·have hka:a<A.length:=by have:=of_decide_eq_true hka;omega
   refine Idx.el (n:=a) cIt_len (by decide) (h6.drop.drop.tells hA) rfl hka fun p hp=> ?_
   refine Ld.sc (s:= .int .i64) (A[a].1:Int) (by rw [hp 0 (by decide)];simp [cIt]) ?_
   rw [add_mk]
   refine Ld.blk h6.p1 (p1:Int) (by simp [cIt]) ?_
   refine IfB.mk (fun hle=> ?_) (fun hgt=> ?_)
   ·have hle:A[a].1≤p1:=by have:=of_decide_eq_true hle;omega
    rw [List.drop_eq_getElem_cons hka,mrg_le hle] at heq
    refine Idx.el (n:=a) cIt_len (by decide) (h6.drop.drop.tells hA) rfl hka fun p hp=> ?_
    refine Ld.st (ks:= [.int .i64,.bool]) ((A[a].1:Int),A[a].2,()) (fun j hj=>hp j hj) ?_
    refine app1 (g:=cIt) (x:=A[a]) ty_things cIt_len (by decide) rfl (cIt_sc _) h6 (by omega) (by omega) fun s' w7 h7 _=> ?_
    rw [i64_id (by omega)]
    refine ⟨⟨a+1,l++ [A[a]],rfl,by omega,?_,h7⟩,by dsimp only;omega⟩
    rw [←heq];simp
   ·have hgt: ¬A[a].1≤p1:=by have:=of_decide_eq_false hgt;omega
    refine Ld.stBlk (ks:= [.int .i64,.bool]) h6.p1 ((p1:Int),false,()) rfl ?_
    refine app1 (g:=cIt) (x:=(p1,false)) ty_things cIt_len (by decide) rfl (cIt_sc _) h6 (by omega) (by omega) fun s' w7 h7 _=> ?_
    exact ⟨⟨a,j+1,l++ [(p1,false)],rfl,by omega,ha,by omega,last (.inr ⟨hka,hgt⟩),h7.p1.drop⟩,by dsimp only;omega⟩
  ·have hka:A.drop a= []:=by
    have:=of_decide_eq_false hka
    exact List.drop_eq_nil_of_le (by omega)
   refine Ld.stBlk (ks:= [.int .i64,.bool]) h6.p1 ((p1:Int),false,()) rfl ?_
   refine app1 (g:=cIt) (x:=(p1,false)) ty_things cIt_len (by decide) rfl (cIt_sc _) h6 (by omega) (by omega) fun s' w7 h7 _=> ?_
   exact ⟨⟨a,j+1,l++ [(p1,false)],rfl,by omega,ha,by omega,last (.inl hka),h7.p1.drop⟩,by dsimp only;omega⟩
 ·have hge: ¬2*j+1<R.length:=by have:=of_decide_eq_false hge;omega
  rw [none_more hge,mrg_nil] at heq
  refine Slc.el (a:=a) (b:=A.length) (l:=A) cIt_len la rfl (by rw [la]) ha (Nat.le_refl _) (by omega) (Int.le_refl _) fun s' hs' hl' _=> ?_
  have hd:=hs' w' (hh.drop.tells hA)
  rw [List.take_of_length_le (by rw [List.length_drop];omega)] at hd
  have hdl:(A.drop a).length≤2^20:=by rw [List.length_drop];omega
  refine appN (g:=cIt) ty_things cIt_len (by decide) cIt_sc hh hd (by omega) (by omega) fun s2 w2 h2 _=>hK s2 w2 ?_
  rw [←heq];exact h2
end
end Go.Proofs.YtcdpblipagajiaaGreat
set_option maxRecDepth 20000
namespace Go.Pm
theorem pairs_bound {M:Nat}: ∀{l:List It},(∀x∈l,x.1≤M)→∀x∈pairs l,x.1≤2*M
 | [],_,x,h=>by simp [pairs] at h
 | [_],_,x,h=>by simp [pairs] at h
 |a::b::l,hl,x,h=>by
  rw [pairs] at h
  rcases List.mem_cons.1 h with rfl|h
  ·have:=hl a (by simp);have:=hl b (by simp);simp only;omega
  ·exact pairs_bound (fun y hy=>hl y (by simp [hy])) x h
theorem row_bound {ws:List Nat} {M:Nat} (h: ∀x∈ws,x≤M): ∀k,∀x∈row ws k,x.1≤M*2^k
 |0,x,hx=>by
  obtain ⟨y,hy,rfl⟩:=List.mem_map.1 hx
  simpa using h y hy
 |k+1,x,hx=>by
  rcases List.mem_append.1 ((mrg_perm _ _).mem_iff.1 hx) with hx|hx
  ·obtain ⟨y,hy,rfl⟩:=List.mem_map.1 hx
   have:=h y hy
   have:=Nat.le_mul_of_pos_right M (Nat.two_pow_pos (k+1))
   simp only;omega
  ·have:=pairs_bound (row_bound h k) x hx
   rw [Nat.pow_succ];rw [←Nat.mul_assoc];omega
theorem row_len_le (ws:List Nat): ∀k,(row ws k).length≤2*ws.length
 |0=>by rw [row,lv0_len];omega
 |k+1=>by
  have:=row_len_le ws k
  rw [row_len];omega
theorem leafs_succ {l:List It} {j:Nat} (h:j<l.length):leafs (l.take (j+1))=leafs (l.take j)+if l[j].2=true then 1 else 0:=by
 unfold leafs
 rw [List.take_add_one,List.filter_append,List.length_append,List.getElem?_eq_getElem h]
 congr 1
 by_cases e:l[j].2=true
 ·rw [if_pos e];simp [e]
 ·rw [if_neg e];simp [e]
theorem leafs_mono {l:List It} {a b:Nat} (h:a≤b):leafs (l.take a)≤leafs (l.take b):=by
 have:=List.take_append_drop a (l.take b)
 rw [List.take_take,Nat.min_eq_left h] at this
 have h2:=congrArg leafs this
 rw [leafs_append] at h2
 omega
theorem lenOf_le (ws:List Nat) {L:Nat} (hL:1≤L) (i:Nat):lenOf ws L i≤L:=by
 unfold lenOf
 split
 ·exact hL
 ·have:=lv_le ws (L - 1) (2*ws.length - 2) i
  omega
theorem row_leafs {ws:List Nat} (h:Asc ws) (k m:Nat) (hm:m≤(row ws k).length):leafs ((row ws k).take m)≤ws.length:=by
 cases k with
 |zero=>
  rw [row,lv0_len] at hm
  rw [(row_cut0 m hm).1];exact hm
 |succ k=>exact (row_cut h k m hm).2.1
end Go.Pm
namespace Go.Proofs.YtcdpblipagajiaaGreat
open Go Go.Vc Go.Srt Go.Pm
section
variable {E w:World} {F:List HP}
theorem fin_c {b:Nat} {t:TypeId} {l:List Nat} {K:Array Value→World→Prop} (h:Hp E w (Blk b (.cells (ai .u8 l) t (0,0))::F)) (hl:l.length=258) (hK: ∀w',Hp E w' (Blk b (.cells (ai .u8 l) t (0,0))::F)→K (ai .u8 l) w'):
  Ld (.arr 258) ⟨b,0,none⟩ w fun x=>StA 258 ⟨b,0,none⟩ x w fun w2=>Ld (.arr 258) ⟨b,0,none⟩ w2 fun r=>K r w2:=
 Ld.arr h (by rw [ai_size,hl]) (StA.blk h (by rw [ai_size,hl]) (by rw [ai_size,hl]) ai_scalar fun w2 h2=>Ld.arr h2 (by rw [ai_size,hl]) (hK w2 h2))
def gSl (s:Sl):List Value:= [.slice s.base s.len s.cap]
theorem gSl_len: ∀x,(gSl x).length=1:=fun _=>rfl
theorem gSl_sc: ∀x,∀y∈gSl x,scalarB y=true:=by
 intro x y hy
 have:y= .slice x.base x.len x.cap:=by simpa [gSl] using hy
 rw [this];rfl
theorem ty_rows:ElemT Tryz.prog 191 189 1 24:=ElemT.of (by kernel_rfl) (by kernel_rfl)
def RowsOk (ws:List Nat) (rs:List Sl) (G:List HP):Prop:= ∀j (hj:j<rs.length),Tells G (SlT 2 rs[j] ((row ws j).flatMap cIt))∧rs[j].len≤rs[j].cap
theorem RowsOk.more {ws:List Nat} {rs:List Sl} {G:List HP} {s:Sl} (h:RowsOk ws rs G) (hc:s.len≤s.cap):RowsOk ws (rs++ [s]) (OwnS 2 s ((row ws rs.length).flatMap cIt)::G):=by
 intro j hj
 rcases Nat.lt_or_ge j rs.length with hlt|hge
 ·rw [List.getElem_append_left hlt]
  exact ⟨(h j hlt).1.cons,(h j hlt).2⟩
 ·have:j=rs.length:=by simp at hj;omega
  subst this
  simp only [List.getElem_append_right (Nat.le_refl _),Nat.sub_self,List.getElem_cons_zero]
  exact ⟨Tells.own,hc⟩
theorem shl_one {L:Nat} (hL:L≤15):ishl .i64 1 (u64 (L:Int))=((2^L:Nat):Int)∧(0:Int)≤u64 (L:Int):=by
 rw [u64_id (by omega)]
 have hp:2^L≤2^15:=Nat.pow_le_pow_right (by decide) hL
 have hm:IntKind.max .i64=9223372036854775807:=rfl
 have:=ishl_nat (k:= .i64) (a:=1) (b:=L) (by have:IntKind.bits .i64=64:=rfl;omega) (by rw [hm];omega)
 rw [Nat.one_mul] at this
 exact ⟨this,by omega⟩
theorem wsOf_bound {l ys:List Nat} (hm:MaxT l): ∀x∈wsOf l ys,x≤2147483647:=by
 intro x hx
 obtain ⟨s,_,rfl⟩:=List.mem_map.1 hx
 rw [List.getD_eq_getElem?_getD]
 cases h:l[s]? with
 |none=>simp
 |some y=>exact hm y (List.mem_of_getElem? h)
theorem weigh {l ys:List Nat} (hm:MaxT l) {k:Nat} (hk:k≤15): ∀x∈row (wsOf l ys) k,x.1≤2^60:=by
 intro x hx
 have h1:=row_bound (wsOf_bound (ys:=ys) hm) k x hx
 have hp:2^k≤2^15:=Nat.pow_le_pow_right (by decide) hk
 have:=Nat.mul_le_mul_left 2147483647 hp
 omega
set_option maxRecDepth 20000 in
theorem pmLengths_c {t:List Int} {L:Int} {K:Array Value→Int→World→Prop} (h:Hp E w F) (hl:t.length=258)
  (hK1:(validT t=false∨L<1∨15<L∨∃l,t=ints l∧(2:Int)^L.toNat<(used l).length)→∀w',Hp E w' F→K (ai .u8 (List.replicate 258 0)) 2 w')
  (hK2: ∀l ys w',t=ints l→MaxT l→IsOrd l ys→1≤L→L≤15→ys.length≤2^L.toNat→Hp E w' F→K (ai .u8 (plc ys (lenOf (wsOf l ys) L.toNat))) 0 w'):
  Cl Tryz.prog [.arr 258,kI] n_packagemerge_Lengths ⟨[.agg (aT t),.int .i64 L]⟩ w K:=by
 refine packagemerge_Lengths.ok _ _ _ _ ?_
 unfold packagemerge_Lengths.E
 rw [ai_zero]
 simp only [Join_eq]
 refine Nw.mk h fun b4 w1 h1=>Nw.mk h1 fun b6 w2 h2=>Ld.arr h2.p1 (by rw [aT_size,hl]) (pmOrder_c h2 hl (fun hv w3 h3=> ?_) (fun l hte hm hll ys s w3 hys h3=> ?_))
 ·refine Ld.arr h3.p1 (by rw [aT_size,hl]) (pmValid_c h3 hl fun w4 h4=>IfB.t (by rw [hv];rfl) (fin_c h4 (by simp) fun w5 h5=>hK1 (.inl hv) w5 h5.drop.drop))
 ·subst hte
  have hlen:=ord_le hll hys
  have hin:=ord_in hll hys
  have hsl:s.len=ys.length:=by
   have:=(h3.tells Tells.own).1
   simp only [List.length_map,ints,Nat.mul_one] at this
   exact this.symm
  refine Ld.arr h3.p2 (by rw [aT_size,hl]) (pmValid_c h3 hl fun w4 h4=>IfB.f (by rw [ints_valid hm];rfl) ?_)
  refine IfB.mk (fun hlt=>fin_c h4.p1 (by simp) fun w5 h5=>hK1 (.inr (.inl (of_decide_eq_true hlt))) w5 h5.drop.drop.drop) (fun hge=> ?_)
  have hge:=of_decide_eq_false hge
  refine IfB.mk (fun hgt=>fin_c h4.p1 (by simp) fun w5 h5=>hK1 (.inr (.inr (.inl (by have:=of_decide_eq_true hgt;omega)))) w5 h5.drop.drop.drop) (fun hle=> ?_)
  have hle:=of_decide_eq_false hle
  obtain ⟨N,rfl⟩:=Int.eq_ofNat_of_zero_le (show 0≤L by omega)
  have hN:N≤15:=by omega
  have hN1:1≤N:=by omega
  obtain ⟨e1,e2⟩:=shl_one hN
  rw [e1]
  refine ⟨e2,IfB.mk (fun hgt=>fin_c h4.p1 (by simp) fun w5 h5=>hK1 (.inr (.inr (.inr ⟨l,rfl,?_⟩))) w5 h5.drop.drop.drop) (fun hle2=> ?_)⟩
  ·have hgt:=of_decide_eq_true hgt
   rw [Int.toNat_natCast,←hys.1.length_eq,←hsl]
   rw [show (2:Int)^N=((2^N:Nat):Int) by norm_cast]
   exact hgt
  have hle2:ys.length≤2^N:=by have:=of_decide_eq_false hle2;omega
  have hasc:=ord_asc hys
  have hwl:(wsOf l ys).length=ys.length:=List.length_map _
  have hnd:=ord_nodup hys
  have hin2: ∀s∈ys,s<258:=fun s hs=>(hin s hs).1
  have fine: ∀w',Hp E w' F→K (ai .u8 (plc ys (lenOf (wsOf l ys) N))) 0 w':=fun w' h'=>hK2 l ys w' rfl hm hys (by omega) (by omega) (by rw [Int.toNat_natCast];exact hle2) h'
  rw [←plc_zero ys] at h4
  refine IfB.mk (fun h1=> ?_) (fun h1=> ?_)
  ·have h1:ys.length=1:=by have:(s.len:Int)=1:=by simpa using h1
                           omega
   refine rdT (i:=0) (h4.tells Tells.own) (by omega) ?_
   have hx:=hin2 _ (List.getElem_mem (show 0<ys.length by omega))
   refine IdxP.wr h4.p1 (by omega) (by omega) (by rw [ai_size,plc_len]) rfl fun w5 h5=> ?_
   rw [Int.toNat_natCast] at h5
   have e:=ai_set (k:= .u8) (l:=plc ys fun _=>0) (i:=ys[0]) (x:=1)
   rw [show (Value.int .u8 1)= .int .u8 ((1:Nat):Int) from rfl,e,plc_set hnd (by omega)] at h5
   have e3:plc ys (fun j=>if j=0 then 1 else 0)=plc ys (lenOf (wsOf l ys) N):=plc_congr fun i hi=>by
    have:i=0:=by omega
    subst this
    unfold lenOf
    rw [if_pos rfl,if_pos (by omega)]
   rw [e3] at h5
   exact fin_c h5 (plc_len ..) fun w6 h6=>fine w6 h6.drop.drop.drop
  ·have h1:ys.length≠1:=by
    intro e
    have: ¬(s.len:Int)=1:=by simpa using h1
    omega
   rw [aT_ints] at h4
   refine Ld.arr h4.p2 (by rw [ai_size,hll]) (leaves_c h4 hll Tells.own hin2 hlen fun s0 w5 h5=>Nw.mk h5 fun b38 w6 h6=> ?_)
   have hc0:=h5.ownCap
   refine ⟨fun rows k w'=> ∃(rs:List Sl) (G:List HP),k=(rs.length:Int)∧1≤rs.length∧rs.length≤N∧RowsOk (wsOf l ys) rs G∧
     Hp E w' (OwnS 1 rows (rs.flatMap gSl)::Blk b6 (.cells (ai .u8 (plc ys fun _=>0)) 36 (0,0))::OwnS 1 s ((ints ys).map vI)::Blk b4 (.cells (ai .i64 l) 41 (0,0))::(G++F)),
    fun _ k _=>N - k.toNat,⟨[s0],[OwnS 2 s0 ((lv0 (wsOf l ys)).flatMap cIt)],rfl,Nat.le_refl _,hN1,?_,?_⟩,?_⟩
   ·intro j hj
    have:j=0:=by simp at hj;omega
    subst this
    exact ⟨Tells.own,hc0⟩
   ·exact ((h6.ownNew (sz:=1) (n:=1) rfl).p1.q4).p2.p1
   rintro rows k w7 ⟨rs,G,rfl,hr1,hrN,hrs,hh⟩
   have hrl:=SlT.len gSl_len (by decide) (hh.tells Tells.own)
   refine IfB.mk (fun hlt=> ?_) (fun hge=> ?_)
   ·have hlt:rs.length<N:=by have:=of_decide_eq_true hlt;omega
    have hd:Hp E {w7 with drawn:=w7.drawn+1} _:=hh.drew
    have hrd: ∀w',Hp E w' (OwnS 1 rows (rs.flatMap gSl)::Blk b6 (.cells (ai .u8 (plc ys fun _=>0)) 36 (0,0))::OwnS 1 s ((ints ys).map vI)::Blk b4 (.cells (ai .i64 l) 41 (0,0))::(G++F))→SlT 1 rows (rs.flatMap gSl) w':=fun w' h'=>h'.tells Tells.own
    have key: ∀(i:Nat) (hi:i<rs.length) {K:Addr→Prop},(∀p,(∀w,SlT 1 rows (rs.flatMap gSl) w→w.cell? p=some (.slice rs[i].base rs[i].len rs[i].cap))→K p)→Idx rows (i:Int) 1 K:=by
     intro i hi K hK
     obtain ⟨p,hp,_⟩:=(hrd _ hd).2 i (by rw [fm_len gSl_len];omega)
     refine ⟨p,hp,by omega,by omega,hK _ fun w2 h2=> ?_⟩
     obtain ⟨q,hq,hc⟩:=h2.2 i (by rw [fm_len gSl_len];omega)
     have:q=p:=Option.some.inj (hq.symm.trans hp)
     subst this
     rw [Int.toNat_natCast,Nat.mul_one,hc]
     have:=fm_get gSl_len rs i 0 hi (by decide)
     rw [Nat.mul_one,Nat.add_zero] at this
     rw [←List.getElem?_eq_getElem,this];rfl
    have hr0:=hrs 0 (by omega)
    have hrk:=hrs (rs.length - 1) (by omega)
    refine ⟨SlT 1 rows (rs.flatMap gSl),hrd _ hd,?_⟩
    refine key 0 (by omega) fun p hp=>LdS.sc (s:= .sl) rs[0] hp ?_
    rw [show i64 ((rs.length:Int) - 1)=((rs.length - 1:Nat):Int) by rw [i64_id (by omega)];omega]
    refine key (rs.length - 1) (by omega) fun q hq=>LdS.sc (s:= .sl) rs[rs.length - 1] hq ?_
    have hlr:=row_len_le (wsOf l ys) (rs.length - 1)
    refine next_c hd (Tells.cons (Tells.cons (Tells.cons (Tells.cons hr0.1.appL)))) (Tells.cons (Tells.cons (Tells.cons (Tells.cons hrk.1.appL)))) hr0.2 (weigh hm (by omega)) (by rw [row,lv0_len];omega) (by omega) fun s' w8 h8=> ?_
    have hcs:=h8.ownCap
    refine ⟨hrd _ h8.drop,Nw.mk h8 fun b53 w9 h9=>⟨hrd _ h9.drop.drop,?_⟩⟩
    refine run_appendK (ys:=gSl s') (n:=1) ty_rows (by decide) (.inl ⟨189,by kernel_rfl⟩) h9.p2 (.inl ⟨_,_,_,rfl,rfl,h9.tells (Tells.blk rfl rfl)⟩) rfl (gSl_sc s') (by omega) (by omega) fun s2 w10 h10 _ hold=>⟨hold,?_⟩
    have e:rs.length - 1+1=rs.length:=by omega
    have er:mrg (row (wsOf l ys) 0) (pairs (row (wsOf l ys) (rs.length - 1)))=row (wsOf l ys) rs.length:=by
     conv=>rhs;rw [←e,row]
     rfl
    rw [er] at h10
    rw [i64_id (by omega)]
    refine ⟨⟨rs++ [s'],OwnS 2 s' ((row (wsOf l ys) rs.length).flatMap cIt)::G,by simp,by simp,by simp;omega,hrs.more hcs,?_⟩,by dsimp only;omega⟩
    have h11:=h10.p1.drop
    rw [List.flatMap_append,show [s'].flatMap gSl=gSl s' by simp]
    exact h11.p1.q4
   ·have hge:rs.length=N:=by have:=of_decide_eq_false hge;omega
    have tot15: ∀i,lenOf (wsOf l ys) N i≤15:=fun i=>Nat.le_trans (lenOf_le _ hN1 i) hN
    have htot: ∀i,lenOf (wsOf l ys) N i=lv (wsOf l ys) (N - 1) (2*ys.length - 2) i:=fun i=>by
     unfold lenOf
     rw [if_neg (by omega),hwl]
    refine ⟨fun many k w'=> ∃f:Nat→Nat,(((k= -1∨many≤0)∧ -1≤k∧k<N∧∀i,i<ys.length→f i=lenOf (wsOf l ys) N i)∨
       (∃kk m:Nat,k=(kk:Int)∧kk<N∧many=(m:Int)∧m≤(row (wsOf l ys) kk).length∧∀i,i<ys.length→f i+lv (wsOf l ys) kk m i=lenOf (wsOf l ys) N i))∧
      Hp E w' (Blk b6 (.cells (ai .u8 (plc ys f)) 36 (0,0))::OwnS 1 rows (rs.flatMap gSl)::OwnS 1 s ((ints ys).map vI)::Blk b4 (.cells (ai .i64 l) 41 (0,0))::(G++F)),
     fun _ k _=>(k+1).toNat,⟨fun _=>0,?_,hh.p1⟩,?_⟩
    ·rw [i64_id (x:=2*(s.len:Int)) (by omega),i64_id (x:=2*(s.len:Int) - 2) (by omega),i64_id (by omega)]
     rcases Nat.eq_zero_or_pos ys.length with h0|h0
     ·exact .inl ⟨.inr (by omega),by omega,by omega,fun i hi=>by omega⟩
     ·refine .inr ⟨N - 1,2*ys.length - 2,by omega,by omega,by omega,?_,fun i _=>by rw [htot,Nat.zero_add]⟩
      rw [←hwl]
      exact row_enough (N - 1) (by rw [hwl,show N - 1+1=N by omega];exact hle2)
    rintro many k w8 ⟨f,hf,hh⟩
    have done:(∀i,i<ys.length→f i=lenOf (wsOf l ys) N i)→Hp E w8 (Blk b6 (.cells (ai .u8 (plc ys (lenOf (wsOf l ys) N))) 36 (0,0))::OwnS 1 rows (rs.flatMap gSl)::OwnS 1 s ((ints ys).map vI)::Blk b4 (.cells (ai .i64 l) 41 (0,0))::(G++F)):=fun hi=>by
     rw [←plc_congr hi];exact hh
    refine IfB.mk (fun hk=> ?_) (fun hk=> ?_)
    ·have hk:=of_decide_eq_true hk
     refine IfB.mk (fun hmany=> ?_) (fun hmany=> ?_)
     ·have hmany:=of_decide_eq_true hmany
      rcases hf with ⟨h0,_⟩|⟨kk,m,rfl,hkN,rfl,hm2,hf⟩
      ·omega
      have hrk:=hrs kk (by omega)
      have hlr:=row_len_le (wsOf l ys) kk
      refine Idx.el (n:=kk) gSl_len (by decide) (hh.p1.tells Tells.own) rfl (by omega) fun p hp=> ?_
      refine Ld.sc (s:= .sl) rs[kk] (by have:=hp 0 (by decide);rw [add_zero] at this;rw [this];rfl) ?_
      have hrt:Tells (G++F) (SlT 2 rs[kk] ((row (wsOf l ys) kk).flatMap cIt)):=hrk.1.appL
      have hrl2:=SlT.len cIt_len (by decide) (hh.drop.drop.drop.drop.tells hrt)
      refine Slc.el (a:=0) (b:=m) (l:=row (wsOf l ys) kk) cIt_len hrl2 rfl rfl (by omega) hm2 (by omega) (Int.le_refl _) fun sm hsm hsml _=> ?_
      have hsm2:Tells (G++F) (SlT 2 sm (((row (wsOf l ys) kk).take m).flatMap cIt)):=hrt.imp fun w' hw'=>by simpa using hsm w' hw'
      refine ⟨fun wh j w'=> ∃jj:Nat,j=(jj:Int)∧jj≤m∧wh=(leafs ((row (wsOf l ys) kk).take jj):Int)∧
        Hp E w' (Blk b6 (.cells (ai .u8 (plc ys fun i=>f i+if i<leafs ((row (wsOf l ys) kk).take jj) then 1 else 0)) 36 (0,0))::OwnS 1 rows (rs.flatMap gSl)::OwnS 1 s ((ints ys).map vI)::Blk b4 (.cells (ai .i64 l) 41 (0,0))::(G++F)),
       fun _ j _=>m - j.toNat,⟨0,rfl,by omega,rfl,hh⟩,?_⟩
      rintro wh j w9 ⟨jj,rfl,hj,rfl,hh⟩
      have hlfm:=leafs_mono (l:=row (wsOf l ys) kk) (show jj≤m from hj)
      have hlfn:=row_leafs hasc kk m hm2
      refine IfB.mk (fun hjm=> ?_) (fun hjm=> ?_)
      ·have hjm:jj<m:=by have:=of_decide_eq_true hjm;omega
       have hjr:jj<(row (wsOf l ys) kk).length:=by omega
       have hls:=leafs_succ hjr
       have hlfm2:=leafs_mono (l:=row (wsOf l ys) kk) (show jj+1≤m from hjm)
       refine Idx.el (n:=jj) cIt_len (by decide) (hh.drop.drop.drop.drop.tells hsm2) rfl (by rw [List.length_take];omega) fun p hp=> ?_
       rw [List.getElem_take] at hp
       refine Ld.st (ks:= [.int .i64,.bool]) (((row (wsOf l ys) kk)[jj].1:Int),(row (wsOf l ys) kk)[jj].2,()) (fun j hj=>hp j hj) ?_
       refine Nw.mk hh fun b80 w10 h10=>StC.blk h10 rfl (cIt_sc (row (wsOf l ys) kk)[jj]) fun w11 h11=> ?_
       rw [add_mk]
       refine Ld.blk h11 (row (wsOf l ys) kk)[jj].2 (by simp [cIt]) ?_
       have h12:=h11.drop
       refine IfB.mk (fun hlf=> ?_) (fun hlf=> ?_)
       ·rw [if_pos hlf] at hls
        have hwn:leafs ((row (wsOf l ys) kk).take jj)<ys.length:=by omega
        have hx:=hin2 _ (List.getElem_mem hwn)
        have hfi:=hf _ hwn
        have h15:=tot15 (leafs ((row (wsOf l ys) kk).take jj))
        have hlv:1≤lv (wsOf l ys) kk m (leafs ((row (wsOf l ys) kk).take jj)):=by
         cases kk with
         |zero=>unfold lv whole;rw [if_pos (by omega)];exact Nat.le_refl _
         |succ kk=>unfold lv whole;rw [if_pos (by omega)];omega
        refine rdT (h12.p2.tells Tells.own) hwn ?_
        refine IdxP.rd (s:= .int .u8) h12 (by omega) (by omega) _ (getI (by rw [plc_len];omega)) ?_
        rw [plc_get hnd hin2 hwn,if_neg (by omega),Nat.add_zero]
        refine IdxP.wr h12 (by omega) (by omega) (by rw [ai_size,plc_len]) rfl fun w13 h13=> ?_
        rw [Int.toNat_natCast,u8_id (by omega),show ((f (leafs ((row (wsOf l ys) kk).take jj)):Int)+1)=((f (leafs ((row (wsOf l ys) kk).take jj))+1:Nat):Int) by omega,ai_set,plc_set hnd hwn] at h13
        rw [i64_id (x:=(leafs ((row (wsOf l ys) kk).take jj):Int)+1) (by omega),i64_id (by omega)]
        refine ⟨⟨jj+1,rfl,by omega,by omega,?_⟩,by dsimp only;omega⟩
        rw [hls]
        have e:plc ys (fun i=>f i+if i<leafs ((row (wsOf l ys) kk).take jj)+1 then 1 else 0)=plc ys (fun j=>if j=leafs ((row (wsOf l ys) kk).take jj) then f (leafs ((row (wsOf l ys) kk).take jj))+1 else f j+if j<leafs ((row (wsOf l ys) kk).take jj) then 1 else 0):=plc_congr fun i _=>by
         by_cases hi:i=leafs ((row (wsOf l ys) kk).take jj)
         ·subst hi;rw [if_pos (by omega),if_pos rfl]
         ·rw [if_neg hi]
          congr 1
          by_cases hi2:i<leafs ((row (wsOf l ys) kk).take jj)
          ·rw [if_pos hi2,if_pos (by omega)]
          ·rw [if_neg hi2,if_neg (by omega)]
        rw [e];exact h13
       ·rw [if_neg (by rw [hlf];simp)] at hls
        have hls:leafs ((row (wsOf l ys) kk).take (jj+1))=leafs ((row (wsOf l ys) kk).take jj):=hls
        rw [i64_id (by omega)]
        refine ⟨⟨jj+1,rfl,by omega,by rw [hls],?_⟩,by dsimp only;omega⟩
        rw [hls];exact h12
      ·have hjm:jj=m:=by have:=of_decide_eq_false hjm;omega
       subst hjm
       have hlj:leafs ((row (wsOf l ys) kk).take jj)≤jj:=by
        unfold leafs
        have:=List.length_filter_le (fun x:It=>x.2) ((row (wsOf l ys) kk).take jj)
        rw [List.length_take] at this;omega
       rw [i64_id (x:=(jj:Int) - _) (by omega),i64_id (x:=2*_) (by omega),i64_id (by omega)]
       refine ⟨⟨_,?_,hh⟩,by dsimp only;omega⟩
       cases kk with
       |zero=>
        refine .inl ⟨.inl (by omega),by omega,by omega,fun i hi=> ?_⟩
        have:=hf i hi
        unfold lv whole at this
        exact this
       |succ kk=>
        refine .inr ⟨kk,2*(jj - whole (wsOf l ys) (kk+1) jj),by omega,by omega,?_,(row_cut hasc kk jj hm2).2.2.1,fun i hi=> ?_⟩
        ·show 2*((jj:Int) - (whole (wsOf l ys) (kk+1) jj:Int))=_
         have:whole (wsOf l ys) (kk+1) jj≤jj:=hlj
         omega
        ·have:=hf i hi
         rw [lv] at this
         rw [←this]
         unfold whole
         omega
     ·have hmany:=of_decide_eq_false hmany
      refine fin_c (done ?_) (plc_len ..) fun w9 h9=>fine w9 h9.drop.drop.drop.drop.dropL
      rcases hf with ⟨_,_,_,h0⟩|⟨kk,m,rfl,hkN,rfl,hm2,hf⟩
      ·exact h0
      ·intro i hi
       have h0:=hf i hi
       have hm0:m=0:=by omega
       subst hm0
       rw [lv_zero hasc kk 0 i hm2 (by simp [whole,leafs]),Nat.add_zero] at h0
       exact h0
    ·have hk:=of_decide_eq_false hk
     refine fin_c (done ?_) (plc_len ..) fun w9 h9=>fine w9 h9.drop.drop.drop.drop.dropL
     rcases hf with ⟨_,_,_,h0⟩|⟨kk,m,rfl,hkN,rfl,hm2,hf⟩
     ·exact h0
     ·omega
end
end Go.Proofs.YtcdpblipagajiaaGreat
set_option maxRecDepth 20000
namespace Go.Srt
theorem ord_insert {l ys:List Nat} {s k:Nat} (hp:ys.Perm ((List.range s).filter fun s=>decide (0<l.getD s 0))) (ho:ys.Pairwise fun a b=>l.getD a 0<l.getD b 0∨(l.getD a 0=l.getD b 0∧a<b)) (hk:k≤ys.length)
  (h1: ∀j (hj:j<ys.length),k≤j→l.getD s 0<l.getD ys[j] 0) (h2:k=0∨∃h:k - 1<ys.length,l.getD ys[k - 1] 0≤l.getD s 0):
  (ys.take k++s::ys.drop k).Pairwise fun a b=>l.getD a 0<l.getD b 0∨(l.getD a 0=l.getD b 0∧a<b):=by
 have hlt: ∀x∈ys,x<s:=fun x hx=>by
  have:=(List.mem_filter.1 (hp.mem_iff.1 hx)).1
  simpa using this
 have hA: ∀x∈ys.take k,l.getD x 0≤l.getD s 0:=by
  intro x hx
  obtain ⟨i,hi,rfl⟩:=List.getElem_of_mem hx
  rw [List.length_take] at hi
  rw [List.getElem_take]
  rcases h2 with h2|⟨hk1,h2⟩
  ·omega
  ·by_cases e:i=k - 1
   ·subst e;exact h2
   ·have:=(List.pairwise_iff_getElem.1 ho) i (k - 1) (by omega) hk1 (by omega)
    omega
 have hB: ∀x∈ys.drop k,l.getD s 0<l.getD x 0:=by
  intro x hx
  obtain ⟨i,hi,rfl⟩:=List.getElem_of_mem hx
  rw [List.length_drop] at hi
  rw [List.getElem_drop]
  exact h1 _ (by omega) (by omega)
 have hs:(ys.take k++ys.drop k).Pairwise fun a b=>l.getD a 0<l.getD b 0∨(l.getD a 0=l.getD b 0∧a<b):=by rw [List.take_append_drop];exact ho
 obtain ⟨p1,p2,p3⟩:=List.pairwise_append.1 hs
 refine List.pairwise_append.2 ⟨p1,List.pairwise_cons.2 ⟨fun x hx=> .inl (hB x hx),p2⟩,fun x hx y hy=> ?_⟩
 rcases List.mem_cons.1 hy with rfl|hy
 ·have h3:=hA x hx
  have h4:=hlt x (List.mem_of_mem_take hx)
  omega
 ·exact p3 x hx y hy
end Go.Srt
namespace Go.Proofs.YtcdpblipagajiaaGreat
open Go Go.Vc Go.Srt Go.Pm
section
variable {E w:World} {F:List HP}
set_option maxRecDepth 20000 in
theorem rValid_c {t:List Int} {K:Bool→World→Prop} (h:Hp E w F) (hl:t.length=258) (hK: ∀w',Hp E w' F→K (validT t) w'):Cl Tryz.prog [kB] n_ref07_Valid ⟨[.agg (aT t)]⟩ w K:=by
 refine ref07_Valid.ok _ _ _ ?_
 unfold ref07_Valid.E
 refine Nw.mk h fun b w1 h1=> ?_
 refine ⟨fun i w'=> ∃k:Nat,i=(k:Int)∧k≤258∧validT (t.take k)=true∧Hp E w' (Blk b (.cells (aT t) 41 (0,0))::F),fun i _=>258 - i.toNat,⟨0,rfl,by omega,rfl,h1⟩,?_⟩
 rintro i w' ⟨k,rfl,hk,hv,hh⟩
 refine IfB.mk (fun hlt=> ?_) (fun hge=> ?_)
 ·have hlt:k<258:=by have:=of_decide_eq_true hlt;omega
  have hkl:k<t.length:=by omega
  have es:validT (t.take (k+1))=(validT (t.take k)&&(decide (0≤t[k])&&decide (t[k]≤2147483647))):=by
   unfold validT
   rw [List.take_add_one,List.all_append,List.getElem?_eq_getElem hkl];simp
  rw [hv,Bool.true_and] at es
  have bad:(decide (0≤t[k])&&decide (t[k]≤2147483647))=false→K false w':=fun hb=>by
   rw [←es] at hb
   have e1:validT t=false:=by
    have:=List.take_append_drop (k+1) t
    rw [←this]
    unfold validT at hb⊢
    rw [List.all_append,hb,Bool.false_and]
   have:=hK w' hh.drop
   rw [e1] at this;exact this
  have hx:(aT t)[((k:Nat):Int).toNat]? =some (Sc.enc (.int .i64) t[k]):=by rw [Int.toNat_natCast];exact aT_get hkl
  refine IdxP.rd (s:= .int .i64) hh (by omega) (by omega) _ hx ?_
  refine IfB.mk (fun hb=>bad (by have:=of_decide_eq_true hb;simp;omega)) (fun hb=> ?_)
  refine IdxP.rd (s:= .int .i64) hh (by omega) (by omega) _ hx ?_
  refine IfB.mk (fun hb2=>bad (by have:=of_decide_eq_true hb2;simp;omega)) (fun hb2=> ?_)
  have hb:=of_decide_eq_false hb
  have hb2:=of_decide_eq_false hb2
  rw [i64_id (by omega)]
  exact ⟨⟨k+1,rfl,by omega,by rw [es];simp;omega,hh⟩,by dsimp only;omega⟩
 ·have hge:k=258:=by have:=of_decide_eq_false hge;omega
  subst hge
  have:=hK w' hh.drop
  rw [List.take_of_length_le (by omega)] at hv
  rw [hv] at this;exact this
def gN (x:Nat):List Value:= [vI (x:Int)]
theorem gN_len: ∀x,(gN x).length=1:=fun _=>rfl
theorem gN_sc: ∀x,∀y∈gN x,scalarB y=true:=by
 intro x y hy
 have:y=vI (x:Int):=by simpa [gN] using hy
 rw [this];rfl
theorem gN_eq (ys:List Nat):(ints ys).map vI=ys.flatMap gN:=by
 unfold ints
 induction ys with
 |nil=>rfl
 |cons y ys ih=>rw [List.flatMap_cons,←ih];rfl
theorem splice_c {P:Program} {α:Type} {g:α→List Value} {sz bytes:Nat} {t e:TypeId} {e2:TypeId} {s:Sl} {l:List α} {x:α} {k:Nat} {K:Sl→World→Prop} (he:ElemT P t e sz bytes) (hg: ∀x,(g x).length=sz) (hz:0<sz) (hsc: ∀x,∀y∈g x,scalarB y=true)
  {A:List HP} (h:Hp E w (A++F)) (hs:Tells A (SlT sz s (l.flatMap g))) (hcap:s.len≤s.cap) (hk:k≤l.length) (hlen:l.length≤2^20) (hby:bytes≤1024) {cs:Array Value} (hcs:cs=⟨g x⟩)
  (hK: ∀s' w',Hp E w' (OwnS sz s' ((l.take k++x::l.drop k).flatMap g)::(A++F))→K s' w'):
  Slc s 0 (k:Int) s.cap sz fun s1=>Run P (Builtin.append_ #[t,t] t ⟨[.slice none 0 0,.slice s1.base s1.len s1.cap]⟩) kS w fun s2 w2=>
   Nw e2 cs w2 fun b w3=>Run P (Builtin.append_ #[t,t] t ⟨[.slice s2.base s2.len s2.cap,.slice (some ⟨b,0,none⟩) 1 1]⟩) kS w3 fun s3 w4=>
   Slc s (k:Int) s.len s.cap sz fun s4=>Run P (Builtin.append_ #[t,t] t ⟨[.slice s3.base s3.len s3.cap,.slice s4.base s4.len s4.cap]⟩) kS w4 K:=by
 have hsT:Tells (A++F) (SlT sz s (l.flatMap g)):=hs.appL
 have hl:=SlT.len hg hz (h.tells hsT)
 have hb: ∀n,n≤2*l.length+4→(2*n+1024)*bytes≤2^48:=fun n hn=>by
  have:(2*n+1024)*bytes≤8388608*1024:=Nat.mul_le_mul (by omega) hby
  omega
 refine Slc.el (a:=0) (b:=k) (l:=l) hg hl rfl rfl (by omega) hk (by omega) (Int.le_refl _) fun s1 hs1 hl1 _=> ?_
 have h1:=hs1 w (h.tells hsT)
 simp only [List.drop_zero,Nat.sub_zero] at h1
 refine appN (s:=⟨none,0,0⟩) (l:= []) he hg hz hsc (h.ownNil sz) h1 (hb _ (by simp;omega)) (by simp;omega) fun s2 w2 h2 _=> ?_
 rw [List.nil_append] at h2
 refine app1 (g:=g) (x:=x) he hg hz hcs (hsc x) h2 (hb _ (by simp;omega)) (by simp;omega) fun s3 w3 h3 _=> ?_
 refine Slc.el (a:=k) (b:=l.length) (l:=l) hg hl rfl (by rw [hl]) hk (Nat.le_refl _) (by omega) (Int.le_refl _) fun s4 hs4 hl4 _=> ?_
 have h4:=hs4 w3 (h3.drop.tells hsT)
 rw [List.take_of_length_le (by rw [List.length_drop];omega)] at h4
 refine appN he hg hz hsc h3 h4 (hb _ (by simp;omega)) (by simp;omega) fun s5 w5 h5 _=>hK s5 w5 ?_
 rw [List.append_assoc] at h5
 exact h5
end
end Go.Proofs.YtcdpblipagajiaaGreat
set_option maxRecDepth 20000
namespace Go.Pm
structure RIt where
 w:Nat
 sym:Int
 one:Nat
 two:Nat
def lab (ys:List Nat):List It→Nat→Nat→List RIt
 | [],_,_=> []
 |(w,true)::l,a,b=>⟨w,(ys.getD a 0:Int),0,0⟩::lab ys l (a+1) b
 |(w,false)::l,a,b=>⟨w,-1,2*b,2*b+1⟩::lab ys l a (b+1)
def packs (l:List It):Nat:=(l.filter fun x=> !x.2).length
theorem leafs_packs: ∀l:List It,leafs l+packs l=l.length
 | []=>rfl
 |(w,true)::l=>by
  have:=leafs_packs l
  simp only [leafs,packs,List.filter_cons] at*
  simp;omega
 |(w,false)::l=>by
  have:=leafs_packs l
  simp only [leafs,packs,List.filter_cons] at*
  simp;omega
theorem lab_len (ys:List Nat): ∀(l:List It) (a b:Nat),(lab ys l a b).length=l.length
 | [],_,_=>rfl
 |(w,true)::l,a,b=>by rw [lab,List.length_cons,lab_len ys l,List.length_cons]
 |(w,false)::l,a,b=>by rw [lab,List.length_cons,lab_len ys l,List.length_cons]
theorem lab_app (ys:List Nat): ∀(l l':List It) (a b:Nat),lab ys (l++l') a b=lab ys l a b++lab ys l' (a+leafs l) (b+packs l)
 | [],l',a,b=>rfl
 |(w,true)::l,l',a,b=>by
  rw [List.cons_append,lab,lab,lab_app ys l,List.cons_append]
  have e1:leafs ((w,true)::l)=leafs l+1:=by simp [leafs]
  have e2:packs ((w,true)::l)=packs l:=by simp [packs]
  rw [e1,e2,show a+1+leafs l=a+(leafs l+1) by omega]
 |(w,false)::l,l',a,b=>by
  rw [List.cons_append,lab,lab,lab_app ys l,List.cons_append]
  have e1:leafs ((w,false)::l)=leafs l:=by simp [leafs]
  have e2:packs ((w,false)::l)=packs l+1:=by simp [packs]
  rw [e1,e2,show b+1+packs l=b+(packs l+1) by omega]
theorem lab_leaves (ys:List Nat): ∀(l:List It) (a b c:Nat),(∀x∈l,x.2=true)→lab ys l a b=lab ys l a c
 | [],_,_,_,_=>rfl
 |(w,true)::l,a,b,c,h=>by rw [lab,lab,lab_leaves ys l (a+1) b c fun x hx=>h x (List.mem_cons_of_mem _ hx)]
 |(w,false)::l,a,b,c,h=>by have:=h (w,false) (by simp);cases this
theorem lab_get (ys:List Nat) (l:List It) {i:Nat} (hi:i<l.length):(lab ys l 0 0)[i]'(by rw [lab_len];exact hi)=
  if l[i].2=true then ⟨l[i].1,(ys.getD (leafs (l.take i)) 0:Int),0,0⟩ else ⟨l[i].1,-1,2*(i - leafs (l.take i)),2*(i - leafs (l.take i))+1⟩:=by
 have e:l=l.take i++l[i]::l.drop (i+1):=by rw [List.getElem_cons_drop,List.take_append_drop]
 have hp:=leafs_packs (l.take i)
 rw [List.length_take] at hp
 have hl:(lab ys (l.take i) 0 0).length=i:=by rw [lab_len,List.length_take];omega
 have key:(lab ys l 0 0)[i]? =some (if l[i].2=true then ⟨l[i].1,(ys.getD (leafs (l.take i)) 0:Int),0,0⟩ else ⟨l[i].1,-1,2*(i - leafs (l.take i)),2*(i - leafs (l.take i))+1⟩):=by
  have e2:lab ys l 0 0=lab ys (l.take i) 0 0++lab ys (l[i]::l.drop (i+1)) (0+leafs (l.take i)) (0+packs (l.take i)):=by
   rw [←lab_app,←e]
  rw [e2,List.getElem?_append_right (by omega),hl,Nat.sub_self,Nat.zero_add,Nat.zero_add,show packs (l.take i)=i - leafs (l.take i) by omega]
  generalize l[i]=x
  obtain ⟨w,b⟩:=x
  cases b<;>rfl
 rw [List.getElem?_eq_getElem (by rw [lab_len];exact hi)] at key
 exact Option.some.inj key
theorem lab_w (ys:List Nat) (l:List It) {i:Nat} (hi:i<l.length):((lab ys l 0 0)[i]'(by rw [lab_len];exact hi)).w=l[i].1:=by
 rw [lab_get ys l hi]
 split<;>rfl
def insW (l:List It) (p:It):List It:=l.takeWhile (fun a=>decide (a.1≤p.1))++p::l.dropWhile fun a=>decide (a.1≤p.1)
theorem tw_all {q:It→Bool}: ∀{l:List It},(∀x∈l,q x=true)→l.takeWhile q=l∧l.dropWhile q= []
 | [],_=>⟨rfl,rfl⟩
 |x::l,h=>by
  obtain ⟨h1,h2⟩:=tw_all fun y hy=>h y (List.mem_cons_of_mem x hy)
  have:=h x (by simp)
  exact ⟨by rw [List.takeWhile_cons_of_pos this,h1],by rw [List.dropWhile_cons_of_pos this,h2]⟩
theorem insW_mrg (p:It): ∀A B,(∀q∈B,q.1≤p.1)→insW (mrg A B) p=mrg A (B++ [p]):=by
 refine mrg_ind (fun B hB=> ?_) (fun a A hB=> ?_) (fun a A q B h ih hB=> ?_) (fun a A q B h ih hB=> ?_)
 ·rw [nil_mrg,nil_mrg]
  unfold insW
  obtain ⟨h1,h2⟩:=tw_all (q:=fun a=>decide (a.1≤p.1)) (l:=B) (fun x hx=>by simpa using hB x hx)
  rw [h1,h2]
 ·rw [mrg_nil,List.nil_append];rfl
 ·rw [mrg_le h,List.cons_append,mrg_le h,←List.cons_append,←ih hB]
  have:a.1≤p.1:=Nat.le_trans h (hB q (by simp))
  simp [insW,this]
 ·rw [mrg_gt h,List.cons_append,mrg_gt h,←ih fun x hx=>hB x (List.mem_cons_of_mem _ hx)]
  have:q.1≤p.1:=hB q (by simp)
  simp [insW,this]
theorem insW_at {p:It}: ∀{l:List It} {k:Nat},Up l→k≤l.length→(∀j (hj:j<l.length),k≤j→p.1<l[j].1)→(k=0∨∃h:k - 1<l.length,l[k - 1].1≤p.1)→insW l p=l.take k++p::l.drop k
 | [],k,_,hk,_,_=>by
  have:k=0:=by simpa using hk
  subst this;rfl
 |x::l,0,_,_,h1,_=>by
  have:=h1 0 (by simp) (Nat.le_refl _)
  have h: ¬x.1≤p.1:=by simp only [List.getElem_cons_zero] at this;omega
  simp [insW,h]
 |x::l,k+1,hu,hk,h1,h2=>by
  obtain ⟨u1,u2⟩:=List.pairwise_cons.1 hu
  have hkl:k≤l.length:=by simpa using hk
  have h2': ∃h:k<(x::l).length,(x::l)[k].1≤p.1:=by
   rcases h2 with h2|h2
   ·omega
   ·simpa using h2
  obtain ⟨hk1,h2'⟩:=h2'
  have hx:x.1≤p.1:=by
   cases k with
   |zero=>exact h2'
   |succ k=>exact Nat.le_trans (u1 _ (List.getElem_mem (by simp at hk1;omega))) h2'
  have ih:=insW_at (p:=p) (l:=l) (k:=k) u2 hkl (fun j hj hkj=>by have:=h1 (j+1) (by simp;omega) (by omega);simpa using this) (by
   cases k with
   |zero=>exact .inl rfl
   |succ k=>exact .inr ⟨by simp at hk1;omega,by simpa using h2'⟩)
  have e:insW (x::l) p=x::insW l p:=by simp [insW,hx]
  rw [e,ih,List.take_succ_cons,List.drop_succ_cons,List.cons_append]
def cov (ws:List Nat):Nat→Nat→Nat→Nat
 |0,i,j=>if j=i then 1 else 0
 |k+1,i,j=>if ((row ws (k+1)).getD i (0,true)).2=true then (if j=leafs ((row ws (k+1)).take i) then 1 else 0) else
   cov ws k (2*(i - leafs ((row ws (k+1)).take i))) j+cov ws k (2*(i - leafs ((row ws (k+1)).take i))+1) j
theorem cov_succ (ws:List Nat) (k i j:Nat):cov ws (k+1) i j=if ((row ws (k+1)).getD i (0,true)).2=true then (if j=leafs ((row ws (k+1)).take i) then 1 else 0) else
   cov ws k (2*(i - leafs ((row ws (k+1)).take i))) j+cov ws k (2*(i - leafs ((row ws (k+1)).take i))+1) j:=rfl
theorem leafs_le (l:List It):leafs l≤l.length:=by have:=leafs_packs l;omega
theorem leafs_next {l:List It} {j:Nat} (h:j<l.length):leafs (l.take (j+1))=leafs (l.take j)+if l[j].2=true then 1 else 0:=by
 unfold leafs
 rw [List.take_add_one,List.filter_append,List.length_append,List.getElem?_eq_getElem h]
 congr 1
 by_cases e:l[j].2=true
 ·rw [if_pos e];simp [e]
 ·rw [if_neg e];simp [e]
theorem over_cov {ws:List Nat} (h:Asc ws) (j:Nat): ∀(k m:Nat),m≤(row ws k).length→over m (fun i=>cov ws k i j)=lv ws k m j
 |0,m,hm=>by
  have hm':m≤ws.length:=by rw [row,lv0_len] at hm;exact hm
  unfold lv whole
  rw [(row_cut0 m hm').1]
  have key: ∀m,over m (fun i=>cov ws 0 i j)=if j<m then 1 else 0:=by
   intro m
   induction m with
   |zero=>simp [over]
   |succ m ih=>
    rw [over_succ,ih]
    unfold cov
    by_cases h1:j<m
    ·rw [if_pos h1,if_neg (by omega),if_pos (by omega)]
    ·by_cases h2:j=m
     ·rw [if_neg h1,if_pos h2,if_pos (by omega)]
     ·rw [if_neg h1,if_neg h2,if_neg (by omega)]
  exact key m
 |k+1,m,hm=>by
  have key: ∀m,m≤(row ws (k+1)).length→over m (fun i=>cov ws (k+1) i j)=(if j<leafs ((row ws (k+1)).take m) then 1 else 0)+over (2*(m - leafs ((row ws (k+1)).take m))) (fun i=>cov ws k i j):=by
   intro m
   induction m with
   |zero=>intro _;simp [over,leafs]
   |succ m ih=>
    intro hm
    have hlt:m<(row ws (k+1)).length:=by omega
    have hl:=leafs_le ((row ws (k+1)).take m)
    rw [List.length_take] at hl
    have hg:(row ws (k+1)).getD m (0,true)=(row ws (k+1))[m]:=by rw [List.getD_eq_getElem?_getD,List.getElem?_eq_getElem hlt];rfl
    rw [over_succ,ih (by omega),leafs_next hlt,cov_succ ws k m j,hg]
    generalize hq:leafs ((row ws (k+1)).take m)=q at hl
    by_cases e:(row ws (k+1))[m].2=true
    ·rw [if_pos e,if_pos e,show m+1 - (q+1)=m - q by omega]
     by_cases h1:j<q
     ·rw [if_pos h1,if_neg (by omega),if_pos (by omega)];rfl
     ·by_cases h2:j=q
      ·rw [if_neg h1,if_pos h2,if_pos (by omega)];omega
      ·rw [if_neg h1,if_neg h2,if_neg (by omega)];omega
    ·rw [if_neg e,if_neg e,show q+0=q from rfl,show 2*(m+1 - q)=2*(m - q)+1+1 by omega,over_succ,over_succ]
     omega
  have c3:=(row_cut h k m hm).2.2.1
  rw [key m hm,over_cov h j k _ c3,lv]
  rfl
end Go.Pm
set_option maxRecDepth 20000
namespace Go.Proofs.YtcdpblipagajiaaGreat
open Go Go.Vc Go.Srt Go.Pm
section
variable {E w:World} {F:List HP}
theorem ty_ints':ElemT Tryz.prog 33 3 1 8:=ElemT.of (by kernel_rfl) (by kernel_rfl)
set_option maxRecDepth 20000 in
theorem rOrder_c {t:List Int} {K:Sl→World→Prop} (h:Hp E w F) (hl:t.length=258) (hK1:validT t=false→∀w',Hp E w' F→K ⟨none,0,0⟩ w')
  (hK2: ∀l,t=ints l→MaxT l→l.length=258→∀ys s w',IsOrd l ys→Hp E w' (OwnS 1 s ((ints ys).map vI)::F)→K s w'):Cl Tryz.prog [kS] n_ref07_Order ⟨[.agg (aT t)]⟩ w K:=by
 refine ref07_Order.ok _ _ _ ?_
 unfold ref07_Order.E
 simp only [Join_eq]
 refine Nw.mk h fun b w1 h1=>(Bool.eq_false_or_eq_true (validT t)).symm.elim (fun hv=> ?_) (fun hv=> ?_)
 ·refine ⟨fun o i w'=>o=⟨none,0,0⟩∧i=0∧Hp E w' (Blk b (.cells (aT t) 41 (0,0))::F),fun _ _ _=>0,⟨rfl,rfl,h1⟩,?_⟩
  rintro o i w' ⟨rfl,rfl,hh⟩
  exact IfB.t (by decide) (Ld.arr hh (by rw [aT_size,hl]) (rValid_c hh hl fun w3 h3=>IfB.f hv (hK1 hv w3 h3.drop)))
 obtain ⟨l,rfl,hm⟩:=valid_ints hv
 have hl':l.length=258:=by rw [ints_len] at hl;exact hl
 refine ⟨fun o i w'=> ∃(k:Nat) (ys:List Nat),i=(k:Int)∧k≤258∧ys.Perm ((List.range k).filter fun s=>decide (0<l.getD s 0))∧(ys.Pairwise fun a b=>l.getD a 0<l.getD b 0∨(l.getD a 0=l.getD b 0∧a<b))∧
    Hp E w' (OwnS 1 o (ys.flatMap gN)::Blk b (.cells (aT (ints l)) 41 (0,0))::F),fun _ i _=>258 - i.toNat,⟨0,[],rfl,by omega,.refl _,.nil,h1.ownNil 1⟩,?_⟩
 rintro o i w' ⟨k,ys,rfl,hk,hp,ho,hh⟩
 have fin:k=258→K o w':=fun e=>by
  subst e
  refine hK2 l rfl hm hl' ys o w' ⟨?_,ho⟩ ?_
  ·unfold used;rw [hl'];exact hp
  ·rw [gN_eq];exact hh.p1.drop
 refine IfB.mk (fun hlt=> ?_) (fun hge=>fin (by have:=of_decide_eq_false hge;omega))
 have hlt:k<258:=by have:=of_decide_eq_true hlt;omega
 have hin: ∀x∈ys,x<k:=fun x hx=>by
  have:=(List.mem_filter.1 (hp.mem_iff.1 hx)).1
  simpa using this
 have hyl:ys.length≤k:=by
  rw [hp.length_eq]
  have:=List.length_filter_le (fun s=>decide (0<l.getD s 0)) (List.range k)
  simpa using this
 refine Ld.arr hh.p1 (by rw [aT_size,hl]) (rValid_c hh hl fun w3 h3=>IfB.t hv ?_)
 have h3':=h3
 rw [aT_ints] at h3'
 refine IdxP.rd (s:= .int .i64) h3'.p1 (by omega) (by omega) _ (getI (by omega)) ?_
 rw [i64_id (x:=(k:Int)+1) (by omega)]
 have es:(List.range (k+1)).filter (fun s=>decide (0<l.getD s 0))=(List.range k).filter (fun s=>decide (0<l.getD s 0))++if 0<l.getD k 0 then [k] else []:=usedTo_succ
 refine IfB.mk (fun h0=> ?_) (fun h0=> ?_)
 ·have h0:l.getD k 0=0:=by have:(l.getD k 0:Int)=0:=by simpa using h0
                           omega
  rw [if_neg (by omega),List.append_nil] at es
  exact ⟨⟨k+1,ys,rfl,by omega,by rw [es];exact hp,ho,h3⟩,by dsimp only;omega⟩
 ·have h0:0<l.getD k 0:=by have: ¬(l.getD k 0:Int)=0:=by simpa using h0
                           omega
  rw [if_pos h0] at es
  have hol:=SlT.len gN_len (by decide) (h3.tells Tells.own)
  have hoc:=h3.ownCap
  refine ⟨fun i w'=> ∃n:Nat,i=(n:Int)∧n≤ys.length∧(∀j (hj:j<ys.length),n≤j→l.getD k 0<l.getD ys[j] 0)∧Hp E w' (OwnS 1 o (ys.flatMap gN)::Blk b (.cells (aT (ints l)) 41 (0,0))::F),fun i _=>i.toNat,⟨ys.length,by rw [hol],Nat.le_refl _,fun j hj hn=>by omega,h3⟩,?_⟩
  rintro i w4 ⟨n,rfl,hn,hgt,hh⟩
  refine Drw.mk hh fun w5 h5=> ?_
  have put: ∀w5,Hp E w5 ([OwnS 1 o (ys.flatMap gN)]++(Blk b (.cells (aT (ints l)) 41 (0,0))::F))→(n=0∨∃h:n - 1<ys.length,l.getD ys[n - 1] 0≤l.getD k 0)→∀s' w',Hp E w' (OwnS 1 s' ((ys.take n++k::ys.drop n).flatMap gN)::([OwnS 1 o (ys.flatMap gN)]++(Blk b (.cells (aT (ints l)) 41 (0,0))::F)))→
    (∃(k':Nat) (zs:List Nat),(k:Int)+1=(k':Int)∧k'≤258∧zs.Perm ((List.range k').filter fun s=>decide (0<l.getD s 0))∧(zs.Pairwise fun a b=>l.getD a 0<l.getD b 0∨(l.getD a 0=l.getD b 0∧a<b))∧
    Hp E w' (OwnS 1 s' (zs.flatMap gN)::Blk b (.cells (aT (ints l)) 41 (0,0))::F))∧258 - ((k:Int)+1).toNat<258 - (k:Int).toNat:=by
   intro w5 h5 hle s' w6 h6
   refine ⟨⟨k+1,ys.take n++k::ys.drop n,rfl,by omega,?_,ord_insert hp ho hn hgt hle,h6.p1.drop⟩,by omega⟩
   rw [es]
   refine List.perm_middle.trans ?_
   rw [List.take_append_drop]
   refine (List.Perm.cons k hp).trans ?_
   exact (List.perm_append_singleton k _).symm
  refine IfB.mk (fun hpos=> ?_) (fun hpos=> ?_)
  ·have hpos:0<n:=by have:=of_decide_eq_true hpos;omega
   have hn1:n - 1<ys.length:=by omega
   have hx:=hin _ (List.getElem_mem hn1)
   have h5':=h5
   rw [aT_ints] at h5'
   rw [show i64 ((n:Int) - 1)=((n - 1:Nat):Int) by rw [i64_id (by omega)];omega]
   refine rdT (i:=n - 1) (ys:=ys) (by rw [gN_eq];exact h5.tells Tells.own) hn1 ?_
   refine IdxP.rd (s:= .int .i64) h5'.p1 (by omega) (by omega) _ (getI (by omega)) ?_
   refine IdxP.rd (s:= .int .i64) h5'.p1 (by omega) (by omega) _ (getI (by omega)) ?_
   refine IfB.mk (fun hc=> ?_) (fun hc=> ?_)
   ·have hc:l.getD k 0<l.getD ys[n - 1] 0:=by have:=of_decide_eq_true hc;omega
    refine ⟨⟨n - 1,rfl,by omega,fun j hj hnj=> ?_,h5⟩,by dsimp only;omega⟩
    by_cases e:j=n - 1
    ·subst e;exact hc
    ·exact hgt j hj (by omega)
   ·have hc:l.getD ys[n - 1] 0≤l.getD k 0:=by have:=of_decide_eq_false hc;omega
    exact splice_c (e:=3) ty_ints' gN_len (by decide) gN_sc (A:= [OwnS 1 o (ys.flatMap gN)]) (F:=Blk b (.cells (aT (ints l)) 41 (0,0))::F) h5 Tells.own hoc hn (by omega) (by decide) rfl (put w5 h5 (.inr ⟨hn1,hc⟩))
  ·have hpos:n=0:=by have:=of_decide_eq_false hpos;omega
   exact splice_c (e:=3) ty_ints' gN_len (by decide) gN_sc (A:= [OwnS 1 o (ys.flatMap gN)]) (F:=Blk b (.cells (aT (ints l)) 41 (0,0))::F) h5 Tells.own hoc hn (by omega) (by decide) rfl (put w5 h5 (.inl hpos))
end
end Go.Proofs.YtcdpblipagajiaaGreat
set_option maxRecDepth 20000
namespace Go.Proofs.YtcdpblipagajiaaGreat
open Go Go.Vc Go.Srt Go.Pm
section
variable {E w:World} {F:List HP}
def cR (x:RIt):List Value:= [.int .i64 (x.w:Int),.int .i64 x.sym,.int .i64 (x.one:Int),.int .i64 (x.two:Int)]
theorem cR_len: ∀x,(cR x).length=4:=fun _=>rfl
theorem cR_sc: ∀x,∀y∈cR x,scalarB y=true:=by
 intro x y hy
 simp only [cR,List.mem_cons,List.not_mem_nil,or_false] at hy
 rcases hy with rfl|rfl|rfl|rfl<;>rfl
theorem ty_rt:ElemT Tryz.prog 164 166 4 32:=ElemT.of (by kernel_rfl) (by kernel_rfl)
theorem ty_rts:ElemT Tryz.prog 95 164 1 24:=ElemT.of (by kernel_rfl) (by kernel_rfl)
abbrev RK:List Sc:= [.int .i64,.int .i64,.int .i64,.int .i64]
def tR (x:RIt):TT RK:=((x.w:Int),x.sym,(x.one:Int),(x.two:Int),())
set_option maxRecDepth 20000 in
theorem put_c {s:Sl} {l:List RIt} {x:RIt} {K:Sl→World→Prop} (h:Hp E w F) (hs:Tells F (SlT 4 s (l.flatMap cR))) (hcap:s.len≤s.cap) (hlen:l.length≤2^20)
  (hK: ∀k s' w',k≤l.length→(∀j (hj:j<l.length),k≤j→x.w<l[j].w)→(k=0∨∃h:k - 1<l.length,l[k - 1].w≤x.w)→Hp E w' (OwnS 4 s' ((l.take k++x::l.drop k).flatMap cR)::F)→K s' w'):
  Cl Tryz.prog [kS] n_ref07_put ⟨[.slice s.base s.len s.cap,.agg ⟨encs RK (tR x)⟩]⟩ w K:=by
 refine ref07_put.ok s (tR x) _ _ ?_
 unfold ref07_put.E
 have hl:=SlT.len cR_len (by decide) (h.tells hs)
 refine Nw.mk h fun b w1 h1=> ?_
 refine ⟨fun i w'=> ∃n:Nat,i=(n:Int)∧n≤l.length∧(∀j (hj:j<l.length),n≤j→x.w<l[j].w)∧Hp E w' (Blk b (.cells ⟨cR x⟩ 166 (0,0))::F),fun i _=>i.toNat,⟨l.length,by rw [hl],Nat.le_refl _,fun j hj hn=>by omega,h1⟩,?_⟩
 rintro i w2 ⟨n,rfl,hn,hgt,hh⟩
 refine Drw.mk hh fun w3 h3=> ?_
 refine IfB.mk (fun hpos=> ?_) (fun hpos=> ?_)
 ·have hpos:0<n:=by have:=of_decide_eq_true hpos;omega
  have hn1:n - 1<l.length:=by omega
  rw [show i64 ((n:Int) - 1)=((n - 1:Nat):Int) by rw [i64_id (by omega)];omega]
  refine Idx.el (n:=n - 1) cR_len (by decide) (h3.drop.tells hs) rfl hn1 fun p hp=> ?_
  refine Ld.sc (s:= .int .i64) (l[n - 1].w:Int) (by rw [hp 0 (by decide)];simp [cR]) ?_
  rw [add_mk]
  refine Ld.blk h3 (x.w:Int) (by simp [cR]) ?_
  refine IfB.mk (fun hc=> ?_) (fun hc=> ?_)
  ·have hc:x.w<l[n - 1].w:=by have:=of_decide_eq_true hc;omega
   refine ⟨⟨n - 1,rfl,by omega,fun j hj hnj=> ?_,h3⟩,by dsimp only;omega⟩
   by_cases e:j=n - 1
   ·subst e;exact hc
   ·exact hgt j hj (by omega)
  ·have hc:l[n - 1].w≤x.w:=by have:=of_decide_eq_false hc;omega
   refine Slc.el (a:=0) (b:=n) (l:=l) cR_len hl rfl rfl (by omega) hn (by omega) (Int.le_refl _) fun s1 hs1 hl1 _=> ?_
   have q1:=hs1 w3 (h3.drop.tells hs)
   simp only [List.drop_zero,Nat.sub_zero] at q1
   refine appN (s:=⟨none,0,0⟩) (l:= []) ty_rt cR_len (by decide) cR_sc (h3.ownNil 4) q1 (by simp;omega) (by simp;omega) fun s2 w4 h4 _=> ?_
   rw [List.nil_append] at h4
   refine Ld.stBlk (ks:=RK) h4.p1 (tR x) rfl ?_
   refine app1 (g:=cR) (x:=x) ty_rt cR_len (by decide) rfl (cR_sc x) h4 (by simp;omega) (by simp;omega) fun s3 w5 h5 _=> ?_
   refine Slc.el (a:=n) (b:=l.length) (l:=l) cR_len hl rfl (by rw [hl]) hn (Nat.le_refl _) (by omega) (Int.le_refl _) fun s4 hs4 hl4 _=> ?_
   have q4:=hs4 w5 (h5.drop.drop.tells hs)
   rw [List.take_of_length_le (by rw [List.length_drop];omega)] at q4
   refine appN ty_rt cR_len (by decide) cR_sc h5 q4 (by simp;omega) (by simp;omega) fun s5 w6 h6 _=>hK n s5 w6 hn hgt (.inr ⟨hn1,hc⟩) ?_
   rw [List.append_assoc] at h6
   exact h6.p1.drop
 ·have hpos:n=0:=by have:=of_decide_eq_false hpos;omega
  refine Slc.el (a:=0) (b:=n) (l:=l) cR_len hl rfl rfl (by omega) hn (by omega) (Int.le_refl _) fun s1 hs1 hl1 _=> ?_
  have q1:=hs1 w3 (h3.drop.tells hs)
  simp only [List.drop_zero,Nat.sub_zero] at q1
  refine appN (s:=⟨none,0,0⟩) (l:= []) ty_rt cR_len (by decide) cR_sc (h3.ownNil 4) q1 (by simp;omega) (by simp;omega) fun s2 w4 h4 _=> ?_
  rw [List.nil_append] at h4
  refine Ld.stBlk (ks:=RK) h4.p1 (tR x) rfl ?_
  refine app1 (g:=cR) (x:=x) ty_rt cR_len (by decide) rfl (cR_sc x) h4 (by simp;omega) (by simp;omega) fun s3 w5 h5 _=> ?_
  refine Slc.el (a:=n) (b:=l.length) (l:=l) cR_len hl rfl (by rw [hl]) hn (Nat.le_refl _) (by omega) (Int.le_refl _) fun s4 hs4 hl4 _=> ?_
  have q4:=hs4 w5 (h5.drop.drop.tells hs)
  rw [List.take_of_length_le (by rw [List.length_drop];omega)] at q4
  refine appN ty_rt cR_len (by decide) cR_sc h5 q4 (by simp;omega) (by simp;omega) fun s5 w6 h6 _=>hK n s5 w6 hn hgt (.inl hpos) ?_
  rw [List.append_assoc] at h6
  exact h6.p1.drop
def RowsOkR (ys ws:List Nat) (rs:List Sl) (G:List HP):Prop:= ∀j (hj:j<rs.length),Tells G (SlT 4 rs[j] ((lab ys (row ws j) 0 0).flatMap cR))∧rs[j].len≤rs[j].cap
theorem RowsOkR.more {ys ws:List Nat} {rs:List Sl} {G:List HP} {s:Sl} (h:RowsOkR ys ws rs G) (hc:s.len≤s.cap):RowsOkR ys ws (rs++ [s]) (OwnS 4 s ((lab ys (row ws rs.length) 0 0).flatMap cR)::G):=by
 intro j hj
 rcases Nat.lt_or_ge j rs.length with hlt|hge
 ·rw [List.getElem_append_left hlt]
  exact ⟨(h j hlt).1.cons,(h j hlt).2⟩
 ·have:j=rs.length:=by simp at hj;omega
  subst this
  simp only [List.getElem_append_right (Nat.le_refl _),Nat.sub_self,List.getElem_cons_zero]
  exact ⟨Tells.own,hc⟩
theorem RowsOkR.imp {ys ws:List Nat} {rs:List Sl} {G G':List HP} (h:RowsOkR ys ws rs G) (hG: ∀φ,Tells G φ→Tells G' φ):RowsOkR ys ws rs G':=fun j hj=>⟨hG _ (h j hj).1,(h j hj).2⟩
theorem lab_put {ys ws:List Nat} {P:List It} {p:It} {k:Nat} (hw:Asc ws) (hu:Up P) (hP: ∀q∈P,q.1≤p.1) (hf: ∀q∈P,q.2=false) (hp:p.2=false) (hk:k≤(lab ys (mrg (lv0 ws) P) 0 0).length)
  (h1: ∀j (hj:j<(lab ys (mrg (lv0 ws) P) 0 0).length),k≤j→p.1<(lab ys (mrg (lv0 ws) P) 0 0)[j].w) (h2:k=0∨∃h:k - 1<(lab ys (mrg (lv0 ws) P) 0 0).length,(lab ys (mrg (lv0 ws) P) 0 0)[k - 1].w≤p.1):
  (lab ys (mrg (lv0 ws) P) 0 0).take k++⟨p.1,-1,2*P.length,2*P.length+1⟩::(lab ys (mrg (lv0 ws) P) 0 0).drop k=lab ys (mrg (lv0 ws) (P++ [p])) 0 0:=by
 rw [lab_len] at hk
 have h1': ∀j (hj:j<(mrg (lv0 ws) P).length),k≤j→p.1<(mrg (lv0 ws) P)[j].1:=fun j hj hkj=>by
  have:=h1 j (by rw [lab_len];exact hj) hkj
  rwa [lab_w ys _ hj] at this
 have h2':k=0∨∃h:k - 1<(mrg (lv0 ws) P).length,(mrg (lv0 ws) P)[k - 1].1≤p.1:=by
  rcases h2 with h2|⟨h3,h2⟩
  ·exact .inl h2
  ·rw [lab_len] at h3
   refine .inr ⟨h3,?_⟩
   rwa [lab_w ys _ h3] at h2
 have hins:=insW_at (p:=p) (mrg_up _ _ (lv0_up hw) hu) hk h1' h2'
 rw [insW_mrg p _ _ hP] at hins
 have hleaf: ∀x∈(mrg (lv0 ws) P).drop k,x.2=true:=by
  intro x hx
  obtain ⟨i,hi,rfl⟩:=List.getElem_of_mem hx
  rw [List.length_drop] at hi
  rw [List.getElem_drop]
  have hgt:=h1' (k+i) (by omega) (by omega)
  rcases List.mem_append.1 ((mrg_perm _ _).mem_iff.1 (List.getElem_mem (show k+i<(mrg (lv0 ws) P).length by omega))) with hm|hm
  ·obtain ⟨y,_,e⟩:=List.mem_map.1 hm
   rw [←e]
  ·have:=hP _ hm
   omega
 have hpk:packs ((mrg (lv0 ws) P).take k)=P.length:=by
  have e1:packs (mrg (lv0 ws) P)=P.length:=by
   have hperm:=mrg_perm (lv0 ws) P
   have:packs (mrg (lv0 ws) P)=packs (lv0 ws++P):=(hperm.filter _).length_eq
   rw [this]
   unfold packs
   rw [List.filter_append,List.length_append,List.filter_eq_nil_iff.2,List.filter_eq_self.2]
   ·simp
   ·intro x hx;simp [hf x hx]
   ·intro x hx;obtain ⟨y,_,rfl⟩:=List.mem_map.1 hx;simp
  have e2:packs ((mrg (lv0 ws) P).drop k)=0:=by
   unfold packs
   rw [List.length_eq_zero_iff,List.filter_eq_nil_iff]
   intro x hx;simp [hleaf x hx]
  have e3:packs (mrg (lv0 ws) P)=packs ((mrg (lv0 ws) P).take k)+packs ((mrg (lv0 ws) P).drop k):=by
   conv=>lhs;rw [←List.take_append_drop k (mrg (lv0 ws) P)]
   unfold packs
   rw [List.filter_append,List.length_append]
  omega
 rw [hins]
 generalize hX:(mrg (lv0 ws) P).take k=X at hpk
 generalize hY:(mrg (lv0 ws) P).drop k=Y at hleaf
 have hXY:mrg (lv0 ws) P=X++Y:=by rw [←hX,←hY,List.take_append_drop]
 have hXl:(lab ys X 0 0).length=k:=by rw [lab_len,←hX,List.length_take];omega
 rw [hXY,lab_app,lab_app,←hXl,List.take_left,List.drop_left]
 obtain ⟨pw,pb⟩:=p
 simp only at hp
 subst hp
 rw [lab,Nat.zero_add,Nat.zero_add,hpk,lab_leaves ys Y _ P.length (P.length+1) hleaf]
theorem pairs_snoc {R:List It} {j:Nat} (h:2*j+1<R.length):(pairs R).take (j+1)=(pairs R).take j++ [((R[2*j]'(by omega)).1+R[2*j+1].1,false)]:=by
 have key: ∀(j:Nat) (R:List It) (h:2*j+1<R.length),(pairs R)[j]? =some ((R[2*j]'(by omega)).1+R[2*j+1].1,false):=by
  intro j
  induction j with
  |zero=>
   intro R h
   match R,h with
   |a::b::R,_=>rfl
  |succ j ih=>
   intro R h
   match R,h with
   |a::b::R,h=>
    rw [pairs,List.getElem?_cons_succ,ih R (by simp at h;omega)]
    rfl
 rw [List.take_add_one,key j R h];rfl
end
end Go.Proofs.YtcdpblipagajiaaGreat
set_option maxRecDepth 20000
namespace Go.Proofs.YtcdpblipagajiaaGreat
open Go Go.Vc Go.Srt Go.Pm
section
variable {E w:World} {F:List HP}
theorem lab_lv0 {ys ws:List Nat} {k:Nat} (h:k<ws.length):lab ys (lv0 (ws.take (k+1))) 0 0=lab ys (lv0 (ws.take k)) 0 0++ [⟨ws[k],(ys.getD k 0:Int),0,0⟩]:=by
 rw [lv0_succ h,lab_app,lv0_leafs,List.length_take,Nat.zero_add,Nat.min_eq_left (by omega)]
 rfl
set_option maxRecDepth 20000 in
theorem rows_c {l ys:List Nat} {N:Nat} {K:Sl→World→Prop} (h:Hp E w F) (hl:l.length=258) (hm:MaxT l) (hN1:1≤N) (hN:N≤15) (hys:IsOrd l ys)
  (hK: ∀out rs G w',rs.length=N→RowsOkR ys (wsOf l ys) rs G→Hp E w' (OwnS 1 out (rs.flatMap gSl)::(G++F))→K out w'):Cl Tryz.prog [kS] n_ref07_rows ⟨[.agg (ai .i64 l),.int .i64 (N:Int)]⟩ w K:=by
 refine ref07_rows.ok _ _ _ _ ?_
 unfold ref07_rows.E
 have hvl:validT (ints l)=true:=ints_valid hm
 have hlen:=ord_le hl hys
 have hin2: ∀s∈ys,s<258:=fun s hs=>(ord_in hl hys s hs).1
 have hwl:(wsOf l ys).length=ys.length:=List.length_map _
 have hasc:=ord_asc hys
 refine Nw.mk h fun b4 w1 h1=>Ld.arr h1 (by rw [ai_size,hl]) ?_
 rw [←aT_ints] at h1⊢
 refine rOrder_c h1 (by rw [ints_len,hl]) (fun hv=>by rw [hvl] at hv;cases hv) fun l' hll hm' hl' zs s w2 hzs h2=> ?_
 have:l=l':=(List.map_inj_right (fun x y h=>by have h:(x:Int)=(y:Int):=h;omega)).1 hll
 subst this
 obtain rfl:=ord_same hys hzs
 rw [gN_eq,aT_ints] at h2
 have hsl:=SlT.len gN_len (by decide) (h2.tells Tells.own)
 refine ⟨fun o i w'=> ∃k:Nat,i=(k:Int)∧k≤ys.length∧Hp E w' (OwnS 4 o ((lab ys (lv0 ((wsOf l ys).take k)) 0 0).flatMap cR)::OwnS 1 s (ys.flatMap gN)::Blk b4 (.cells (ai .i64 l) 41 (0,0))::F),fun _ i _=>ys.length - i.toNat,⟨0,rfl,by omega,h2.ownNil 4⟩,?_⟩
 rintro o i w3 ⟨k,rfl,hk,hh⟩
 refine IfB.mk (fun hlt=> ?_) (fun hge=> ?_)
 ·have hlt:k<ys.length:=by have:=of_decide_eq_true hlt;omega
  have hx:=hin2 _ (List.getElem_mem hlt)
  have hd:Hp E {w3 with drawn:=w3.drawn+1} _:=hh.drew
  refine ⟨HasF E (OwnS 1 s (ys.flatMap gN)::Blk b4 (.cells (ai .i64 l) 41 (0,0))::F),HasF.mk1 hd,?_⟩
  have rd: ∀{K:Int→Prop},K (ys[k]:Int)→Idx s (k:Int) 1 fun q=>LdS kI q (HasF E (OwnS 1 s (ys.flatMap gN)::Blk b4 (.cells (ai .i64 l) 41 (0,0))::F)) K:=fun {K} hK=>
   Idx.elT (n:=k) gN_len (by decide) hd.drop Tells.own rfl hlt fun p hp=>LdS.sc (s:= .int .i64) (ys[k]:Int) (fun w2 h2=>by
    have:=h2.tells (hp 0 (by decide))
    rw [add_zero] at this
    rw [this];rfl) hK
  refine rd ⟨by omega,by omega,?_⟩
  rw [add_mk]
  refine LdS.blk (s:= .int .i64) (fun w2 h2=>h2.front2) (l.getD ys[k] 0:Int) (by rw [Nat.zero_add,Nat.mul_one];exact getI (by omega)) ?_
  refine rd (Nw.mk hd fun b22 w4 h4=>⟨HasF.mk2 h4,?_⟩)
  have hol:=SlT.len cR_len (by decide) (hh.tells Tells.own)
  have hll2:(lab ys (lv0 ((wsOf l ys).take k)) 0 0).length=k:=by rw [lab_len,lv0_len,List.length_take];omega
  refine run_append (ys:=cR ⟨l.getD ys[k] 0,(ys[k]:Int),0,0⟩) (n:=1) ty_rt (by decide) (.inl ⟨166,by kernel_rfl⟩) h4.p1 (.inl ⟨_,_,_,rfl,rfl,h4.tells (Tells.blk rfl rfl)⟩) rfl (cR_sc _) (by omega) (by omega) fun s' w5 h5 _=>⟨HasF.mk2 h5,?_⟩
  rw [i64_id (by omega)]
  refine ⟨⟨k+1,rfl,by omega,?_⟩,by dsimp only;omega⟩
  have e:(wsOf l ys)[k]'(by omega)=l.getD ys[k] 0:=by simp [wsOf]
  rw [lab_lv0 (by omega),List.flatMap_append,e,getD_at hlt]
  simpa using h5.p1.drop
 ·have hge:k=ys.length:=by have:=of_decide_eq_false hge;omega
  subst hge
  rw [List.take_of_length_le (by omega)] at hh
  have hoc:=hh.ownCap
  refine Nw.mk hh fun b26 w5 h5=> ?_
  refine ⟨fun out k w'=> ∃(rs:List Sl) (G:List HP),k=(rs.length:Int)∧1≤rs.length∧rs.length≤N∧rs[0]? =some o∧RowsOkR ys (wsOf l ys) rs G∧
    Hp E w' (OwnS 1 out (rs.flatMap gSl)::OwnS 1 s (ys.flatMap gN)::Blk b4 (.cells (ai .i64 l) 41 (0,0))::(G++F)),
   fun _ k _=>N - k.toNat,⟨[o],[OwnS 4 o ((lab ys (lv0 (wsOf l ys)) 0 0).flatMap cR)],rfl,Nat.le_refl _,hN1,rfl,?_,?_⟩,?_⟩
  ·intro j hj
   have:j=0:=by simp at hj;omega
   subst this
   exact ⟨Tells.own,hoc⟩
  ·exact (h5.ownNew (sz:=1) (n:=1) rfl).p1.q3
  rintro out k w6 ⟨rs,G,rfl,hr1,hrN,hr0,hrs,hh⟩
  have hrl:=SlT.len gSl_len (by decide) (hh.tells Tells.own)
  refine IfB.mk (fun hlt=> ?_) (fun hge=>hK out rs G w6 (by have:=of_decide_eq_false hge;omega) hrs (hh.p1.drop.p1.drop))
  have hlt:rs.length<N:=by have:=of_decide_eq_true hlt;omega
  have hr0':rs[0]=o:=by rw [List.getElem?_eq_getElem (by omega)] at hr0;exact Option.some.inj hr0
  rw [show i64 ((rs.length:Int) - 1)=((rs.length - 1:Nat):Int) by rw [i64_id (by omega)];omega]
  refine Idx.el (n:=rs.length - 1) gSl_len (by decide) (hh.tells Tells.own) rfl (by omega) fun p hp=> ?_
  refine Ld.sc (s:= .sl) rs[rs.length - 1] (by have:=hp 0 (by decide);rw [add_zero] at this;rw [this];rfl) ?_
  have ht0:=(hrs 0 (by omega)).1
  rw [hr0'] at ht0
  have htk:=hrs (rs.length - 1) (by omega)
  refine Nw.mk hh fun b35 w7 h7=> ?_
  have ht0':Tells (OwnS 1 out (rs.flatMap gSl)::OwnS 1 s (ys.flatMap gN)::Blk b4 (.cells (ai .i64 l) 41 (0,0))::(G++F)) (SlT 4 o ((lab ys (row (wsOf l ys) 0) 0 0).flatMap cR)):=Tells.cons (Tells.cons (Tells.cons ht0.appL))
  have htk':Tells (OwnS 1 out (rs.flatMap gSl)::OwnS 1 s (ys.flatMap gN)::Blk b4 (.cells (ai .i64 l) 41 (0,0))::(G++F)) (SlT 4 rs[rs.length - 1] ((lab ys (row (wsOf l ys) (rs.length - 1)) 0 0).flatMap cR)):=Tells.cons (Tells.cons (Tells.cons htk.1.appL))
  have hx0:=SlT.len cR_len (by decide) (h7.drop.tells htk')
  rw [lab_len] at hx0
  have hrk2:=row_len_le (wsOf l ys) (rs.length - 1)
  have hw60:=weigh (ys:=ys) hm (k:=rs.length - 1) (by omega)
  have h0l:(lab ys (row (wsOf l ys) 0) 0 0).length=ys.length:=by rw [lab_len,row,lv0_len,hwl]
  refine appN (s:=⟨some ⟨b35,0,none⟩,0,0⟩) (l:= []) ty_rt cR_len (by decide) cR_sc (h7.ownNew (sz:=4) (n:=0) rfl) (h7.drop.tells ht0') (by simp;omega) (by simp;omega) fun s37 w8 h8 _=> ?_
  rw [List.nil_append] at h8
  generalize hR:row (wsOf l ys) (rs.length - 1)=R at*
  have hpl:=pairs_len R
  refine ⟨fun rw41 i w'=> ∃j:Nat,i=((2*j:Nat):Int)∧2*j≤R.length∧Hp E w' (OwnS 4 rw41 ((lab ys (mrg (lv0 (wsOf l ys)) ((pairs R).take j)) 0 0).flatMap cR)::OwnS 1 out (rs.flatMap gSl)::OwnS 1 s (ys.flatMap gN)::Blk b4 (.cells (ai .i64 l) 41 (0,0))::(G++F)),
   fun _ i _=>R.length - i.toNat,⟨0,rfl,by omega,by simpa [row,mrg_nil] using h8⟩,?_⟩
  rintro rw41 i w9 ⟨j,rfl,hj,hh⟩
  have hml:(lab ys (mrg (lv0 (wsOf l ys)) ((pairs R).take j)) 0 0).length≤2^20:=by rw [lab_len,mrg_len,lv0_len,List.length_take];omega
  rw [i64_id (x:=((2*j:Nat):Int)+1) (by omega)]
  refine IfB.mk (fun hlt2=> ?_) (fun hge2=> ?_)
  ·have hlt2:2*j+1<R.length:=by have:=of_decide_eq_true hlt2;omega
   have hx1:=hw60 _ (List.getElem_mem (show 2*j<R.length by omega))
   have hx2:=hw60 _ (List.getElem_mem hlt2)
   refine Drw.mk hh fun w10 h10=> ?_
   refine Idx.el (n:=2*j) cR_len (by decide) (h10.drop.tells htk') rfl (by rw [lab_len];omega) fun p hp=> ?_
   refine Ld.sc (s:= .int .i64) ((R[2*j]'(by omega)).1:Int) (by rw [hp 0 (by decide)];simp only [cR,List.getElem?_cons_zero];rw [lab_w ys R (by omega)]) ?_
   refine Idx.el (n:=2*j+1) cR_len (by decide) (h10.drop.tells htk') (by omega) (by rw [lab_len];omega) fun q hq=> ?_
   refine Ld.sc (s:= .int .i64) (R[2*j+1].1:Int) (by rw [hq 0 (by decide)];simp only [cR,List.getElem?_cons_zero];rw [lab_w ys R hlt2]) ?_
   have hsn:=pairs_snoc hlt2
   have hup:=pairs_up R (by rw [←hR];exact row_up hasc _)
   rw [i64_id (x:=((R[2*j]'(by omega)).1:Int)+(R[2*j+1].1:Int)) (by omega),i64_id (x:=((2*j:Nat):Int)+2) (by omega)]
   generalize hp1:(R[2*j]'(by omega)).1+R[2*j+1].1=p1 at hsn
   rw [show ((R[2*j]'(by omega)).1:Int)+(R[2*j+1].1:Int)=(p1:Int) by omega,show ((2*j:Nat):Int)+1=((2*j+1:Nat):Int) by omega]
   have hall: ∀q∈(pairs R).take j,q.1≤p1:=by
    have hu2:Up ((pairs R).take (j+1)):=List.Pairwise.sublist (List.take_sublist ..) hup
    rw [hsn] at hu2
    intro q hq
    exact (List.pairwise_append.1 hu2).2.2 q hq (p1,false) (by simp)
   have hjl:((pairs R).take j).length=j:=by rw [List.length_take];omega
   refine put_c (x:=⟨p1,-1,2*j,2*j+1⟩) h10 Tells.own h10.ownCap hml fun kk s' w11 hkk hk1 hk2 h11=> ?_
   have hlp:=lab_put (ys:=ys) (ws:=wsOf l ys) (P:=(pairs R).take j) (p:=(p1,false)) hasc (List.Pairwise.sublist (List.take_sublist ..) hup) hall (fun q hq=>pairs_leaf R q (List.mem_of_mem_take hq)) rfl hkk hk1 hk2
   rw [hjl,←hsn] at hlp
   rw [hlp] at h11
   exact ⟨⟨j+1,by omega,by omega,h11.p1.drop⟩,by dsimp only;omega⟩
  ·have hge2: ¬2*j+1<R.length:=by have:=of_decide_eq_false hge2;omega
   have e:mrg (lv0 (wsOf l ys)) ((pairs R).take j)=row (wsOf l ys) rs.length:=by
    rw [List.take_of_length_le (by omega)]
    have:rs.length=(rs.length - 1)+1:=by omega
    rw [this,row,hR]
   rw [e] at hh
   have hcs:=hh.ownCap
   refine app1 (g:=gSl) (x:=rw41) ty_rts gSl_len (by decide) rfl (gSl_sc _) hh.p1 (by omega) (by omega) fun s53 w12 h12 _=> ?_
   rw [i64_id (by omega)]
   refine ⟨⟨rs++ [rw41],OwnS 4 rw41 ((lab ys (row (wsOf l ys) rs.length) 0 0).flatMap cR)::G,by simp,by simp,by simp;omega,?_,hrs.more hcs,h12.p1.q3⟩,by dsimp only;omega⟩
   rw [List.getElem?_append_left (by omega)];exact hr0
theorem row_getD {ws:List Nat} {k i:Nat} (hi:i<(row ws k).length):(row ws k).getD i (0,true)=(row ws k)[i]:=by
 rw [List.getD_eq_getElem?_getD,List.getElem?_eq_getElem hi];rfl
set_option maxRecDepth 20000 in
theorem count_c {ys ws:List Nat} {rs:List Sl} {all:Sl} (hasc:Asc ws) (hwl:ws.length=ys.length) (hnd:ys.Nodup) (hin: ∀s∈ys,s<258) (hrn:rs.length≤15):
  ∀(k i:Nat) {w:World} {F:List HP} {f:Nat→Nat} {K:Array Value→World→Prop} (_:Hp E w F) (_:Tells F (SlT 1 all (rs.flatMap gSl))) (_:RowsOkR ys ws rs F) (_:k<rs.length) (_:i<(row ws k).length) (_: ∀j,j<ys.length→f j+cov ws k i j≤255)
   (_: ∀w',Hp E w' F→K (ai .u8 (plc ys fun j=>f j+cov ws k i j)) w'),
   Cl Tryz.prog [.arr 258] n_ref07_count ⟨[.agg (ai .u8 (plc ys f)),.slice all.base all.len all.cap,.int .i64 (k:Int),.int .i64 (i:Int)]⟩ w K:=by
 intro k
 induction k with
 |zero=>
  intro i w F f K h hall hrs hk hi hb hK
  refine ref07_count.ok _ _ _ _ _ _ ?_
  unfold ref07_count.E
  rw [ai_zero]
  refine Nw.mk h fun b6 w1 h1=>Nw.mk h1 fun b8 w2 h2=> ?_
  refine Idx.el (n:=0) gSl_len (by decide) (h2.drop.drop.tells hall) rfl hk fun p hp=> ?_
  refine Ld.sc (s:= .sl) rs[0] (by have:=hp 0 (by decide);rw [add_zero] at this;rw [this];rfl) ?_
  have hr:=hrs 0 hk
  refine Idx.el (n:=i) cR_len (by decide) (h2.drop.drop.tells hr.1) rfl (by rw [lab_len];exact hi) fun q hq=> ?_
  have hi':i<ws.length:=by rw [row,lv0_len] at hi;exact hi
  have hx:=lab_get ys (row ws 0) hi
  have h0:(row ws 0)[i].2=true:=by simp [row,lv0]
  rw [if_pos h0,(row_cut0 i (by omega)).1] at hx
  rw [hx] at hq
  refine Ld.st (ks:=RK) (tR ⟨(row ws 0)[i].1,(ys.getD i 0:Int),0,0⟩) (fun j hj=>hq j hj) ?_
  refine Nw.mk h2 fun b14 w3 h3=>StC.blk h3 rfl (cR_sc ⟨(row ws 0)[i].1,(ys.getD i 0:Int),0,0⟩) fun w4 h4=> ?_
  rw [add_mk]
  refine Ld.blk h4 (ys.getD i 0:Int) rfl (IfB.t (decide_eq_true (by omega)) ?_)
  refine Ld.blk h4 (ys.getD i 0:Int) rfl ?_
  have hiy:i<ys.length:=by omega
  rw [getD_at hiy]
  have hy:=hin _ (List.getElem_mem hiy)
  have hcov: ∀j,cov ws 0 i j=if j=i then 1 else 0:=fun j=>rfl
  have hbi:=hb i hiy
  rw [hcov,if_pos rfl] at hbi
  refine IdxP.rd (s:= .int .u8) h4.p2 (by omega) (by omega) _ (getI (by rw [plc_len];omega)) ?_
  refine IdxP.wr h4.p2 (by omega) (by omega) (by rw [ai_size,plc_len]) rfl fun w5 h5=> ?_
  rw [plc_get hnd hin hiy,u8_id (by omega),Int.toNat_natCast,show ((f i:Int)+1)=((f i+1:Nat):Int) by omega,ai_set,plc_set hnd hiy] at h5
  have e:plc ys (fun j=>if j=i then f i+1 else f j)=plc ys (fun j=>f j+cov ws 0 i j):=plc_congr fun j _=>by
   rw [hcov]
   by_cases hj:j=i
   ·subst hj;rw [if_pos rfl,if_pos rfl]
   ·rw [if_neg hj,if_neg hj];rfl
  rw [e] at h5
  exact Ld.arr h5 (by rw [ai_size,plc_len]) (StA.blk h5.p2 (by rw [ai_size];simp) (by rw [ai_size,plc_len]) ai_scalar fun w6 h6=>Ld.arr h6 (by rw [ai_size,plc_len]) (hK w6 h6.drop.drop.drop))
 |succ k ih=>
  intro i w F f K h hall hrs hk hi hb hK
  refine ref07_count.ok _ _ _ _ _ _ ?_
  unfold ref07_count.E
  rw [ai_zero]
  refine Nw.mk h fun b6 w1 h1=>Nw.mk h1 fun b8 w2 h2=> ?_
  refine Idx.el (n:=k+1) gSl_len (by decide) (h2.drop.drop.tells hall) rfl hk fun p hp=> ?_
  refine Ld.sc (s:= .sl) rs[k+1] (by have:=hp 0 (by decide);rw [add_zero] at this;rw [this];rfl) ?_
  have hr:=hrs (k+1) hk
  refine Idx.el (n:=i) cR_len (by decide) (h2.drop.drop.tells hr.1) rfl (by rw [lab_len];exact hi) fun q hq=> ?_
  have hx:=lab_get ys (row ws (k+1)) hi
  have hnx:=leafs_next hi
  obtain ⟨c1,c2,c3,_,_⟩:=row_cut hasc k (i+1) hi
  have hle:=leafs_le ((row ws (k+1)).take i)
  rw [List.length_take] at hle
  have hcov: ∀j,cov ws (k+1) i j=if (row ws (k+1))[i].2=true then (if j=leafs ((row ws (k+1)).take i) then 1 else 0) else cov ws k (2*(i - leafs ((row ws (k+1)).take i))) j+cov ws k (2*(i - leafs ((row ws (k+1)).take i))+1) j:=fun j=>by
   rw [cov_succ,row_getD hi]
  generalize hqq:leafs ((row ws (k+1)).take i)=m at*
  by_cases hlf:(row ws (k+1))[i].2=true
  ·rw [if_pos hlf] at hx hnx
   rw [hx] at hq
   refine Ld.st (ks:=RK) (tR ⟨(row ws (k+1))[i].1,(ys.getD m 0:Int),0,0⟩) (fun j hj=>hq j hj) ?_
   refine Nw.mk h2 fun b14 w3 h3=>StC.blk h3 rfl (cR_sc ⟨(row ws (k+1))[i].1,(ys.getD m 0:Int),0,0⟩) fun w4 h4=> ?_
   rw [add_mk]
   refine Ld.blk h4 (ys.getD m 0:Int) rfl (IfB.t (decide_eq_true (by omega)) ?_)
   refine Ld.blk h4 (ys.getD m 0:Int) rfl ?_
   have hiy:m<ys.length:=by omega
   rw [getD_at hiy]
   have hy:=hin _ (List.getElem_mem hiy)
   have hbi:=hb m hiy
   rw [hcov,if_pos hlf,if_pos rfl] at hbi
   refine IdxP.rd (s:= .int .u8) h4.p2 (by omega) (by omega) _ (getI (by rw [plc_len];omega)) ?_
   refine IdxP.wr h4.p2 (by omega) (by omega) (by rw [ai_size,plc_len]) rfl fun w5 h5=> ?_
   rw [plc_get hnd hin hiy,u8_id (by omega),Int.toNat_natCast,show ((f m:Int)+1)=((f m+1:Nat):Int) by omega,ai_set,plc_set hnd hiy] at h5
   have e:plc ys (fun j=>if j=m then f m+1 else f j)=plc ys (fun j=>f j+cov ws (k+1) i j):=plc_congr fun j _=>by
    rw [hcov,if_pos hlf]
    by_cases hj:j=m
    ·subst hj;rw [if_pos rfl,if_pos rfl]
    ·rw [if_neg hj,if_neg hj];rfl
   rw [e] at h5
   exact Ld.arr h5 (by rw [ai_size,plc_len]) (StA.blk h5.p2 (by rw [ai_size];simp) (by rw [ai_size,plc_len]) ai_scalar fun w6 h6=>Ld.arr h6 (by rw [ai_size,plc_len]) (hK w6 h6.drop.drop.drop))
  ·rw [if_neg hlf] at hx hnx
   rw [hx] at hq
   have hcov': ∀j,cov ws (k+1) i j=cov ws k (2*(i - m)) j+cov ws k (2*(i - m)+1) j:=fun j=>by rw [hcov,if_neg hlf]
   rw [hnx,show i+1 - (m+0)=i - m+1 by omega] at c3
   refine Ld.st (ks:=RK) (tR ⟨(row ws (k+1))[i].1,-1,2*(i - m),2*(i - m)+1⟩) (fun j hj=>hq j hj) ?_
   refine Nw.mk h2 fun b14 w3 h3=>StC.blk h3 rfl (cR_sc ⟨(row ws (k+1))[i].1,-1,2*(i - m),2*(i - m)+1⟩) fun w4 h4=> ?_
   rw [add_mk,add_mk,add_mk]
   refine Ld.blk h4 (-1:Int) rfl (IfB.f (by decide) ?_)
   have h4':Hp E w4 (Blk b8 _::Blk b14 _::Blk b6 _::F):=h4.p1
   have hd:Hp E {w4 with drawn:=w4.drawn+1} _:=h4'.drew
   refine ⟨HasF E (Blk b14 (.cells ⟨cR ⟨(row ws (k+1))[i].1,-1,2*(i - m),2*(i - m)+1⟩⟩ 166 (0,0))::Blk b6 (.cells (ai .u8 (plc ys f)) 36 (0,0))::F),HasF.mk1 hd,?_⟩
   refine LdS.arrBlk (fun w2 h2=>h2.front2) (by rw [ai_size,plc_len]) ?_
   refine LdS.blk (s:= .int .i64) (fun w2 h2=>h2.front) ((2*(i - m):Nat):Int) rfl ?_
   refine LdS.blk (s:= .int .i64) (fun w2 h2=>h2.front) ((2*(i - m)+1:Nat):Int) rfl ?_
   rw [show i64 (((k+1:Nat):Int) - 1)=(k:Int) by rw [i64_id (by omega)];omega]
   refine ih (2*(i - m)) hd (hall.cons.cons.cons) (hrs.imp fun φ h=>h.cons.cons.cons) (by omega) (by omega) (fun j hj=>by have:=hb j hj;rw [hcov'] at this;omega) fun w5 h5=>⟨HasF.mk1 h5,?_⟩
   refine ih (2*(i - m)+1) (f:=fun j=>f j+cov ws k (2*(i - m)) j) h5 (hall.cons.cons.cons) (hrs.imp fun φ h=>h.cons.cons.cons) (by omega) (by omega) (fun j hj=>by have:=hb j hj;rw [hcov'] at this;omega) fun w6 h6=>⟨HasF.mk1 h6,?_⟩
   have e:plc ys (fun j=>f j+cov ws k (2*(i - m)) j+cov ws k (2*(i - m)+1) j)=plc ys (fun j=>f j+cov ws (k+1) i j):=plc_congr fun j _=>by rw [hcov'];omega
   rw [e]
   exact StA.blk h6 (by rw [ai_size];simp) (by rw [ai_size,plc_len]) ai_scalar fun w7 h7=>⟨HasF.mk1 h7,Ld.arr h7 (by rw [ai_size,plc_len]) (hK w7 h7.drop.drop.drop)⟩
theorem over_mono {m n:Nat} (h:m≤n) (f:Nat→Nat):over m f≤over n f:=by
 induction n with
 |zero=>have:m=0:=by omega
        subst this;exact Nat.le_refl _
 |succ n ih=>
  rw [over_succ]
  by_cases e:m=n+1
  ·subst e;rw [over_succ];exact Nat.le_refl _
  ·have:=ih (by omega);omega
theorem fin2_c {b b2:Nat} {t t2:TypeId} {l l2:List Nat} {K:Array Value→World→Prop} (h:Hp E w (Blk b (.cells (ai .u8 l) t (0,0))::Blk b2 (.cells (ai .u8 l2) t2 (0,0))::F)) (hl:l.length=258) (hl2:l2.length=258) (hK: ∀w',Hp E w' (Blk b2 (.cells (ai .u8 l) t2 (0,0))::Blk b (.cells (ai .u8 l) t (0,0))::F)→K (ai .u8 l) w'):
  Ld (.arr 258) ⟨b,0,none⟩ w fun x=>StA 258 ⟨b2,0,none⟩ x w fun w2=>Ld (.arr 258) ⟨b2,0,none⟩ w2 fun r=>K r w2:=
 Ld.arr h (by rw [ai_size,hl]) (StA.blk h.p1 (by rw [ai_size,hl2]) (by rw [ai_size,hl]) ai_scalar fun w2 h2=>Ld.arr h2 (by rw [ai_size,hl]) (hK w2 h2))
set_option maxRecDepth 20000 in
theorem rLengths_c {t:List Int} {L:Int} {K:Array Value→Int→World→Prop} (h:Hp E w F) (hl:t.length=258)
  (hK1:(validT t=false∨L<1∨15<L∨∃l,t=ints l∧(2:Int)^L.toNat<(used l).length)→∀w',Hp E w' F→K (ai .u8 (List.replicate 258 0)) 2 w')
  (hK2: ∀l ys w',t=ints l→MaxT l→IsOrd l ys→1≤L→L≤15→ys.length≤2^L.toNat→Hp E w' F→K (ai .u8 (plc ys (lenOf (wsOf l ys) L.toNat))) 0 w'):
  Cl Tryz.prog [.arr 258,kI] n_ref07_Lengths ⟨[.agg (aT t),.int .i64 L]⟩ w K:=by
 refine ref07_Lengths.ok _ _ _ _ ?_
 unfold ref07_Lengths.E
 rw [ai_zero]
 simp only [Join_eq]
 have hz:(List.replicate 258 0).length=258:=List.length_replicate
 refine Nw.mk h fun b4 w1 h1=>Nw.mk h1 fun b6 w2 h2=>Nw.mk h2 fun b8 w3 h3=>Ld.arr h3.p2 (by rw [aT_size,hl]) (rOrder_c h3 hl (fun hv w4 h4=> ?_) (fun l hte hm hll ys s w4 hys h4=> ?_))
 ·exact Ld.arr h4.p2 (by rw [aT_size,hl]) (rValid_c h4 hl fun w5 h5=>IfB.t (by rw [hv];rfl) (fin2_c h5 hz hz fun w6 h6=>hK1 (.inl hv) w6 h6.drop.drop.drop))
 ·subst hte
  have hlen:=ord_le hll hys
  have hin:=ord_in hll hys
  have hsl:s.len=ys.length:=by
   have:=(h4.tells Tells.own).1
   simp only [List.length_map,ints,Nat.mul_one] at this
   exact this.symm
  refine Ld.arr h4.p3 (by rw [aT_size,hl]) (rValid_c h4 hl fun w5 h5=>IfB.f (by rw [ints_valid hm];rfl) ?_)
  have h5:Hp E w5 (Blk b8 _::Blk b6 _::OwnS 1 s _::Blk b4 _::F):=h5.q2
  refine IfB.mk (fun hlt=>fin2_c h5 hz hz fun w6 h6=>hK1 (.inr (.inl (of_decide_eq_true hlt))) w6 h6.drop.drop.drop.drop) (fun hge=> ?_)
  have hge:=of_decide_eq_false hge
  refine IfB.mk (fun hgt=>fin2_c h5 hz hz fun w6 h6=>hK1 (.inr (.inr (.inl (by have:=of_decide_eq_true hgt;omega)))) w6 h6.drop.drop.drop.drop) (fun hle=> ?_)
  have hle:=of_decide_eq_false hle
  obtain ⟨N,rfl⟩:=Int.eq_ofNat_of_zero_le (show 0≤L by omega)
  have hN:N≤15:=by omega
  have hN1:1≤N:=by omega
  obtain ⟨e1,e2⟩:=shl_one hN
  rw [e1]
  refine ⟨e2,IfB.mk (fun hgt=>fin2_c h5 hz hz fun w6 h6=>hK1 (.inr (.inr (.inr ⟨l,rfl,?_⟩))) w6 h6.drop.drop.drop.drop) (fun hle2=> ?_)⟩
  ·have hgt:=of_decide_eq_true hgt
   rw [Int.toNat_natCast,←hys.1.length_eq,←hsl]
   rw [show (2:Int)^N=((2^N:Nat):Int) by norm_cast]
   exact hgt
  have hle2:ys.length≤2^N:=by have:=of_decide_eq_false hle2;omega
  have hasc:=ord_asc hys
  have hwl:(wsOf l ys).length=ys.length:=List.length_map _
  have hnd:=ord_nodup hys
  have hin2: ∀s∈ys,s<258:=fun s hs=>(hin s hs).1
  have fine: ∀w',Hp E w' F→K (ai .u8 (plc ys (lenOf (wsOf l ys) N))) 0 w':=fun w' h'=>hK2 l ys w' rfl hm hys (by omega) (by omega) (by rw [Int.toNat_natCast];exact hle2) h'
  rw [←plc_zero ys] at h5
  refine IfB.mk (fun h1=> ?_) (fun h1=> ?_)
  ·have h1:ys.length=1:=by have:(s.len:Int)=1:=by simpa using h1
                           omega
   refine rdT (i:=0) (h5.p2.tells Tells.own) (by omega) ?_
   have hx:=hin2 _ (List.getElem_mem (show 0<ys.length by omega))
   refine IdxP.wr h5 (by omega) (by omega) (by rw [ai_size,plc_len]) rfl fun w6 h6=> ?_
   rw [Int.toNat_natCast] at h6
   have e:=ai_set (k:= .u8) (l:=plc ys fun _=>0) (i:=ys[0]) (x:=1)
   rw [show (Value.int .u8 1)= .int .u8 ((1:Nat):Int) from rfl,e,plc_set hnd (by omega)] at h6
   have e3:plc ys (fun j=>if j=0 then 1 else 0)=plc ys (lenOf (wsOf l ys) N):=plc_congr fun i hi=>by
    have:i=0:=by omega
    subst this
    unfold lenOf
    rw [if_pos rfl,if_pos (by omega)]
   rw [e3] at h6
   exact fin2_c h6 (plc_len ..) (plc_len ..) fun w7 h7=>fine w7 h7.drop.drop.drop.drop
  ·have h1:ys.length≠1:=by
    intro e
    have: ¬(s.len:Int)=1:=by simpa using h1
    omega
   rw [aT_ints] at h5
   refine Ld.arr h5.p3 (by rw [ai_size,hll]) (rows_c h5 hll hm hN1 hN hys fun out rs G w6 hrN hrs h6=> ?_)
   have h7:=(h6.perm (List.Perm.cons _ List.perm_middle)).p1
   have hcl: ∀i,i<ys.length→lenOf (wsOf l ys) N i=lv (wsOf l ys) (N - 1) (2*ys.length - 2) i:=fun i _=>by
    unfold lenOf
    rw [if_neg (by omega),hwl]
   have hrow:ys.length≠0→2*ys.length - 2≤(row (wsOf l ys) (N - 1)).length:=fun _=>by
    rw [←hwl]
    exact row_enough (N - 1) (by rw [hwl,show N - 1+1=N by omega];exact hle2)
   rw [i64_id (x:=2*(s.len:Int)) (by omega),i64_id (x:=2*(s.len:Int) - 2) (by omega),show i64 ((N:Int) - 1)=((N - 1:Nat):Int) by rw [i64_id (by omega)];omega]
   refine ⟨fun i w'=> ∃k:Nat,i=(k:Int)∧(k=0∨k≤2*ys.length - 2)∧Hp E w' (Blk b8 (.cells (ai .u8 (plc ys fun j=>over k fun i=>cov (wsOf l ys) (N - 1) i j)) 36 (0,0))::OwnS 1 out (rs.flatMap gSl)::(G++(Blk b6 (.cells (ai .u8 (plc ys fun _=>0)) 36 (0,0))::OwnS 1 s ((ints ys).map vI)::Blk b4 (.cells (ai .i64 l) 41 (0,0))::F))),
    fun i _=>2*ys.length - i.toNat,⟨0,rfl,.inl rfl,h7⟩,?_⟩
   rintro i w8 ⟨k,rfl,hk,hh⟩
   refine IfB.mk (fun hlt=> ?_) (fun hge=> ?_)
   ·have hlt:k+2<2*ys.length:=by have:=of_decide_eq_true hlt;omega
    have hr:=hrow (by omega)
    refine Ld.arr hh (by rw [ai_size,plc_len]) ?_
    refine count_c hasc hwl hnd hin2 (by omega) (N - 1) k hh (Tells.cons Tells.own) (hrs.imp fun φ h=>h.appL.cons.cons) (by omega) (by omega) (fun j hj=> ?_) fun w9 h9=> ?_
    ·have h1:=over_mono (show k+1≤2*ys.length - 2 by omega) fun i=>cov (wsOf l ys) (N - 1) i j
     rw [over_cov hasc j (N - 1) _ hr,over_succ] at h1
     have:=lv_le (wsOf l ys) (N - 1) (2*ys.length - 2) j
     omega
    ·refine StA.blk h9 (by rw [ai_size,plc_len]) (by rw [ai_size,plc_len]) ai_scalar fun w10 h10=> ?_
     rw [i64_id (by omega)]
     refine ⟨⟨k+1,rfl,.inr (by omega),?_⟩,by dsimp only;omega⟩
     have e:plc ys (fun j=>over (k+1) fun i=>cov (wsOf l ys) (N - 1) i j)=plc ys (fun j=>(over k fun i=>cov (wsOf l ys) (N - 1) i j)+cov (wsOf l ys) (N - 1) k j):=plc_congr fun j _=>over_succ ..
     rw [e];exact h10
   ·have hge: ¬k+2<2*ys.length:=by have:=of_decide_eq_false hge;omega
    have e:plc ys (fun j=>over k fun i=>cov (wsOf l ys) (N - 1) i j)=plc ys (lenOf (wsOf l ys) N):=plc_congr fun j hj=>by
     have hr:=hrow (by omega)
     have:k=2*ys.length - 2:=by omega
     rw [hcl j hj,←over_cov hasc j (N - 1) _ hr,this]
    rw [e] at hh
    have hh2:=(hh.perm (List.Perm.cons _ (List.Perm.cons _ List.perm_middle))).perm (List.Perm.cons _ (List.Perm.swap ..))
    exact fin2_c hh2 (plc_len ..) (plc_len ..) fun w9 h9=>fine w9 h9.drop.drop.drop.dropL.drop.drop
end
end Go.Proofs.YtcdpblipagajiaaGreat
set_option maxRecDepth 20000
namespace Go.Srt
theorem ord_exists (l:List Nat): ∃ys,IsOrd l ys:=by
 have tr: ∀a b c:Nat,decide (l.getD a 0<l.getD b 0∨(l.getD a 0=l.getD b 0∧a≤b))=true→decide (l.getD b 0<l.getD c 0∨(l.getD b 0=l.getD c 0∧b≤c))=true→decide (l.getD a 0<l.getD c 0∨(l.getD a 0=l.getD c 0∧a≤c))=true:=by
  intro a b c h1 h2
  simp only [decide_eq_true_eq] at*;omega
 have to: ∀a b:Nat,(decide (l.getD a 0<l.getD b 0∨(l.getD a 0=l.getD b 0∧a≤b))||decide (l.getD b 0<l.getD a 0∨(l.getD b 0=l.getD a 0∧b≤a)))=true:=by
  intro a b
  simp only [Bool.or_eq_true,decide_eq_true_eq];omega
 have hs:=List.pairwise_mergeSort (le:=fun a b=>decide (l.getD a 0<l.getD b 0∨(l.getD a 0=l.getD b 0∧a≤b))) tr to (used l)
 have hp:=List.mergeSort_perm (used l) (fun a b=>decide (l.getD a 0<l.getD b 0∨(l.getD a 0=l.getD b 0∧a≤b)))
 have hn:(used l).Nodup:=List.Pairwise.filter _ (List.nodup_range (n:=l.length))
 have hn2:=hp.nodup_iff.2 hn
 exact ⟨_,hp,(hs.and hn2).imp fun {a b} h=>by have:=of_decide_eq_true h.1;have:=h.2;omega⟩
structure GoodL (t:List Int) (L:Int) (u ys:List Nat) (N:Nat):Prop where
 eq:t=Proofs.YtcdpblipagajiaaGreat.ints u
 max:MaxT u
 len:u.length=258
 ord:IsOrd u ys
 lim:L=(N:Int)
 one:1≤N
 top:N≤15
 few:ys.length≤2^N
theorem ints_inj {u v:List Nat} (h:Proofs.YtcdpblipagajiaaGreat.ints u=Proofs.YtcdpblipagajiaaGreat.ints v):u=v:=(List.map_inj_right (fun x y h=>by have h:(x:Int)=(y:Int):=h;omega)).1 h
end Go.Srt
namespace Go.Proofs.YtcdpblipagajiaaGreat
open Go Go.Vc Go.Srt Go.Pm
section
variable {E w:World} {F:List HP}
theorem bad_not {t:List Int} {L:Int} {u ys:List Nat} {N:Nat} (hg:GoodL t L u ys N): ¬(validT t=false∨L<1∨15<L∨∃l,t=ints l∧(2:Int)^L.toNat<(used l).length):=by
 obtain ⟨rfl,hm,hl,hys,rfl,h1,h2,h3⟩:=hg
 rintro (h|h|h|⟨l,h,h4⟩)
 ·rw [ints_valid hm] at h;cases h
 ·omega
 ·omega
 ·obtain rfl:=ints_inj h
  rw [←hys.1.length_eq,Int.toNat_natCast,show (2:Int)^N=((2^N:Nat):Int) by norm_cast] at h4
  omega
def lensOf (u ys:List Nat) (N:Nat):List Nat:=plc ys (lenOf (wsOf u ys) N)
theorem lensOf_len (u ys:List Nat) (N:Nat):(lensOf u ys N).length=258:=plc_len ..
theorem pmLen_ok {t:List Int} {L:Int} {u ys:List Nat} {N:Nat} {K:Array Value→Int→World→Prop} (hg:GoodL t L u ys N) (h:Hp E w F) (hK: ∀w',Hp E w' F→K (ai .u8 (lensOf u ys N)) 0 w'):Cl Tryz.prog [.arr 258,kI] n_packagemerge_Lengths ⟨[.agg (aT t),.int .i64 L]⟩ w K:=by
 refine pmLengths_c h (by rw [hg.eq,ints_len,hg.len]) (fun hb=>absurd hb (bad_not hg)) fun l zs w' h0 hm hzs h1 h2 h3 h'=> ?_
 have:l=u:=ints_inj (h0.symm.trans hg.eq)
 subst this
 obtain rfl:=ord_same hzs hg.ord
 have hk:=hK w' h'
 rw [hg.lim,Int.toNat_natCast]
 exact hk
theorem rLen_ok {t:List Int} {L:Int} {u ys:List Nat} {N:Nat} {K:Array Value→Int→World→Prop} (hg:GoodL t L u ys N) (h:Hp E w F) (hK: ∀w',Hp E w' F→K (ai .u8 (lensOf u ys N)) 0 w'):Cl Tryz.prog [.arr 258,kI] n_ref07_Lengths ⟨[.agg (aT t),.int .i64 L]⟩ w K:=by
 refine rLengths_c h (by rw [hg.eq,ints_len,hg.len]) (fun hb=>absurd hb (bad_not hg)) fun l zs w' h0 hm hzs h1 h2 h3 h'=> ?_
 have:l=u:=ints_inj (h0.symm.trans hg.eq)
 subst this
 obtain rfl:=ord_same hzs hg.ord
 have hk:=hK w' h'
 rw [hg.lim,Int.toNat_natCast]
 exact hk
end
end Go.Proofs.YtcdpblipagajiaaGreat
namespace Go.Srt
open Go.Pm
theorem sum_over (ys:List Nat) (g:Nat→Nat):(ys.map g).sum=over ys.length fun i=>g (ys.getD i 0):=by
 unfold over
 congr 1
 refine List.ext_getElem (by simp) fun i h1 h2=> ?_
 have hi:i<ys.length:=by simpa using h1
 simp [hi]
theorem used_lens {u ys:List Nat} {f:Nat→Nat} (hl:u.length=258) (hys:IsOrd u ys) (hf: ∀i,i<ys.length→1≤f i):used (plc ys f)=used u:=by
 unfold used
 rw [plc_len,hl]
 refine List.filter_congr fun s hs=> ?_
 have hs:s<258:=by simpa using hs
 rw [plc_at hs]
 have hm:s∈ys↔0<u.getD s 0:=by
  rw [hys.1.mem_iff,used_mem,hl]
  exact ⟨fun h=>h.2,fun h=>⟨hs,h⟩⟩
 by_cases h:s∈ys
 ·have:=hf _ (List.idxOf_lt_length_of_mem h)
  rw [if_pos h,decide_eq_true (hm.1 h),decide_eq_true (by omega)]
 ·rw [if_neg h,decide_eq_false (fun h'=>h (hm.2 h'))];rfl
theorem ksum_lens {u ys:List Nat} {f:Nat→Nat} (hl:u.length=258) (hys:IsOrd u ys) (hf: ∀i,i<ys.length→1≤f i∧f i≤15):ksum (plc ys f)=over ys.length fun i=>2^(15 - f i):=by
 have hin: ∀s∈ys,s<258:=fun s hs=>by have:=(used_mem.1 (hys.1.mem_iff.1 hs)).1;omega
 rw [ksum_used,used_lens hl hys fun i hi=>(hf i hi).1,←(hys.1.map _).sum_nat,sum_over]
 refine over_congr fun i hi=> ?_
 rw [getD_at hi,plc_get (ord_nodup hys) hin hi]
 have:=hf i hi
 unfold wt
 rw [if_neg (by omega),if_neg (by omega)]
section
variable {t:List Int} {L:Int} {u ys:List Nat} {N:Nat}
theorem GoodL.wl (hg:GoodL t L u ys N):(wsOf u ys).length=ys.length:=List.length_map _
theorem GoodL.inOf (hg:GoodL t L u ys N) {i:Nat} (hi:i<ys.length):1≤lenOf (wsOf u ys) N i∧lenOf (wsOf u ys) N i≤N:=
 lenOf_in (ord_asc hg.ord) hg.one (by rw [hg.wl];exact hg.few) (by rw [hg.wl];exact hi)
theorem p15:2^15=32768:=by decide
theorem GoodL.sum2 (hg:GoodL t L u ys N) (hn:2≤ys.length):ksum (Proofs.YtcdpblipagajiaaGreat.lensOf u ys N)=32768:=by
 have hN:=hg.top
 have h1:=hg.one
 have e:=ksum_lens (f:=lenOf (wsOf u ys) N) hg.len hg.ord fun i hi=>by have:=hg.inOf hi;omega
 have hk:=lv_kraft (ord_asc hg.ord) (N - 1) (by rw [hg.wl];exact hn) (by rw [hg.wl,show N - 1+1=N by omega];exact hg.few)
 rw [hg.wl,show N - 1+1=N by omega] at hk
 unfold Proofs.YtcdpblipagajiaaGreat.lensOf
 rw [e,over_congr (g:=fun i=>2^(15 - N)*2^(N - lv (wsOf u ys) (N - 1) (2*ys.length - 2) i)) fun i hi=>by
  have:=hg.inOf hi
  have e2:lenOf (wsOf u ys) N i=lv (wsOf u ys) (N - 1) (2*ys.length - 2) i:=by
   unfold lenOf;rw [if_neg (by rw [hg.wl];omega),hg.wl]
  rw [e2] at this⊢
  rw [←Nat.pow_add,show 15 - N+(N - lv (wsOf u ys) (N - 1) (2*ys.length - 2) i)=15 - lv (wsOf u ys) (N - 1) (2*ys.length - 2) i by omega],over_mul,hk,←Nat.pow_add,show 15 - N+N=15 by omega,p15]
theorem GoodL.sum1 (hg:GoodL t L u ys N) (hn:ys.length=1):ksum (Proofs.YtcdpblipagajiaaGreat.lensOf u ys N)=16384:=by
 have hN:=hg.top
 have e:=ksum_lens (f:=lenOf (wsOf u ys) N) hg.len hg.ord fun i hi=>by have:=hg.inOf hi;omega
 unfold Proofs.YtcdpblipagajiaaGreat.lensOf
 rw [e,hn,over_succ]
 unfold lenOf
 rw [if_pos (by rw [hg.wl];exact hn)]
 simp [over]
theorem GoodL.bytes (hg:GoodL t L u ys N): ∀y∈Proofs.YtcdpblipagajiaaGreat.lensOf u ys N,y<256:=by
 intro y hy
 obtain ⟨s,_,rfl⟩:=List.mem_map.1 hy
 have hN:=hg.top
 split
 ·rename_i h
  have:=hg.inOf (List.idxOf_lt_length_of_mem h)
  omega
 ·decide
theorem GoodL.at (hg:GoodL t L u ys N) {i:Nat} (hi:i<ys.length):(Proofs.YtcdpblipagajiaaGreat.lensOf u ys N).getD ys[i] 0=lenOf (wsOf u ys) N i:=
 plc_get (ord_nodup hg.ord) (fun s hs=>by have:=(used_mem.1 (hg.ord.1.mem_iff.1 hs)).1;have:=hg.len;omega) hi
end
end Go.Srt
set_option maxRecDepth 20000
namespace Go.Sym
theorem symsFrom_two: ∀(b L:List Nat) (r:Nat),All256 L→(∀x∈b,x<256)→(b≠ []∨0<r)→∃s∈symsFrom L r b,s<257
 | [],L,r,_,_,h=>by
  have hr:0<r:=by
   rcases h with h|h
   ·exact absurd rfl h
   ·exact h
  rw [symsFrom_nil,dig_pos hr]
  exact ⟨(r - 1) % 2,by simp,by omega⟩
 |c::b,L,r,hL,hb,_=>by
  by_cases h0:L.idxOf c=0
  ·rw [symsFrom_zero h0]
   exact symsFrom_two b _ _ (hL.take (by decide)) (fun x hx=>hb x (List.mem_cons_of_mem _ hx)) (.inr (by omega))
  ·rw [symsFrom_pos h0]
   have:=hL.idx (hb c List.mem_cons_self)
   exact ⟨L.idxOf c+1,by simp,by omega⟩
theorem syms_two {b:List Nat} (h:b≠ []) (hb: ∀x∈b,x<256): ∃s∈syms b,s<257:=symsFrom_two b _ 0 All256.range hb (.inl h)
theorem syms_end (b:List Nat):257∈syms b:=by unfold syms symsFrom;simp
theorem dig_len (n:Nat):(dig n).length≤n:=by
 induction n using Nat.strongRecOn with
 |ind n ih=>
  by_cases h:n=0
  ·subst h;rw [dig_zero];exact Nat.le_refl _
  ·rw [dig_pos (by omega),List.length_cons]
   have:=ih ((n - 1)/2) (by omega)
   omega
theorem symsFrom_len: ∀(b L:List Nat) (r:Nat),(symsFrom L r b).length≤r+b.length+1
 | [],L,r=>by
  rw [symsFrom_nil,List.length_append]
  have:=dig_len r
  simp;omega
 |c::b,L,r=>by
  by_cases h0:L.idxOf c=0
  ·rw [symsFrom_zero h0]
   have:=symsFrom_len b (mtake L 0) (r+1)
   rw [List.length_cons];omega
  ·rw [symsFrom_pos h0,List.length_append,List.length_cons,List.length_cons]
   have:=symsFrom_len b (mtake L (L.idxOf c)) 0
   have:=dig_len r
   omega
theorem syms_len (b:List Nat):(syms b).length≤b.length+1:=by
 have:=symsFrom_len b (List.range 256) 0
 unfold syms;omega
end Go.Sym
namespace Go.Blk
open Go.Inc Go.Srt Go.Sym Go.Bits Go.Tab Go.Bw Go.Pm
def tal (ss:List Nat):List Nat:=(List.range 258).map fun s=>ss.count s
theorem tal_len (ss:List Nat):(tal ss).length=258:=by unfold tal;simp
theorem tal_get (ss:List Nat) {s:Nat} (h:s<258):(tal ss).getD s 0=ss.count s:=by
 unfold tal
 rw [List.getD_eq_getElem?_getD,List.getElem?_map,List.getElem?_range h];rfl
theorem tal_max {ss:List Nat} (h:ss.length≤2147483647):MaxT (tal ss):=fun x hx=>by
 obtain ⟨s,_,rfl⟩:=List.mem_map.1 hx
 exact Nat.le_trans List.count_le_length h
theorem used_mem {u:List Nat} {s:Nat}:s∈used u↔s<u.length∧0<u.getD s 0:=by
 unfold used
 rw [List.mem_filter,List.mem_range,decide_eq_true_iff]
theorem ord_mem {u ys:List Nat} (h:IsOrd u ys) {s:Nat}:s∈ys↔s<u.length∧0<u.getD s 0:=by rw [h.1.mem_iff,used_mem]
theorem ord_few {u ys:List Nat} (hl:u.length=258) (h:IsOrd u ys):ys.length≤258:=by
 rw [h.1.length_eq,←hl]
 unfold used
 exact Nat.le_trans (List.length_filter_le ..) (by simp)
theorem good_of {u ys:List Nat} (hl:u.length=258) (hm:MaxT u) (hys:IsOrd u ys):GoodL (Proofs.YtcdpblipagajiaaGreat.ints u) 15 u ys 15 where
 eq:=rfl
 max:=hm
 len:=hl
 ord:=hys
 lim:=rfl
 one:=by decide
 top:=by decide
 few:=Nat.le_trans (ord_few hl hys) (by decide)
theorem lens_of {u ys last:List Nat} (hl:u.length=258) (hm:MaxT u) (hys:IsOrd u ys) (h257:0<u.getD 257 0) (hs: ∃s,s<257∧0<u.getD s 0) (hg: ∀s∈syms last,0<u.getD s 0) (hb: ∀x∈last,x<256):
  Lens (Proofs.YtcdpblipagajiaaGreat.lensOf u ys 15) last:=by
 have g:=good_of hl hm hys
 have hpos: ∀s,s<258→0<u.getD s 0→0<(Proofs.YtcdpblipagajiaaGreat.lensOf u ys 15).getD s 0:=by
  intro s h1 h2
  have hmem:s∈ys:=(ord_mem hys).2 ⟨by omega,h2⟩
  obtain ⟨i,hi,e⟩:=List.mem_iff_getElem.1 hmem
  have h3:=g.at hi
  have h4:=(g.inOf hi).1
  rw [e] at h3
  omega
 have h2:2≤ys.length:=by
  obtain ⟨s,h1,h3⟩:=hs
  have m1:s∈ys:=(ord_mem hys).2 ⟨by omega,h3⟩
  have m2:257∈ys:=(ord_mem hys).2 ⟨by omega,h257⟩
  match ys,m1,m2 with
  | [a],m1,m2=>
   rw [List.mem_singleton] at m1 m2
   omega
  |_::_::_,_,_=>simp
 refine ⟨Proofs.YtcdpblipagajiaaGreat.lensOf_len _ _ _,okT_iff.2 ⟨g.sum2 h2,hpos 257 (by decide) h257⟩,fun s h=> ?_⟩
 have:=syms_le hb s h
 exact ⟨by omega,hpos s (by omega) (hg s h)⟩
noncomputable def ordL (u:List Nat):List Nat:=Classical.choose (ord_exists u)
theorem ordL_ok (u:List Nat):IsOrd u (ordL u):=Classical.choose_spec (ord_exists u)
noncomputable def lensY (ss:List Nat):List Nat:=Proofs.YtcdpblipagajiaaGreat.lensOf (tal ss) (ordL (tal ss)) 15
theorem lensY_len (ss:List Nat):(lensY ss).length=258:=Proofs.YtcdpblipagajiaaGreat.lensOf_len _ _ _
noncomputable def lensX (x:List Nat):List Nat:=lensY (syms (lastB x.reverse))
theorem lensY_good {ss:List Nat} (h:ss.length≤2147483647):GoodL (Proofs.YtcdpblipagajiaaGreat.ints (tal ss)) 15 (tal ss) (ordL (tal ss)) 15:=good_of (tal_len ss) (tal_max h) (ordL_ok _)
theorem lensX_lens {x:List Nat} (h0:0<x.length) (hl:x.length≤1000000) (hx: ∀c∈x,c<256):Lens (lensX x) (lastB x.reverse):=by
 have hb:=Stm.lastP hx
 have hn:lastB x.reverse≠ []:=by
  intro e
  have:=congrArg List.length e
  rw [lastB_len,List.length_reverse,List.length_nil] at this;omega
 have hlen:(syms (lastB x.reverse)).length≤2147483647:=by
  have:=syms_len (lastB x.reverse)
  rw [lastB_len,List.length_reverse] at this;omega
 have hp: ∀s∈syms (lastB x.reverse),0<(tal (syms (lastB x.reverse))).getD s 0:=by
  intro s h
  have:=syms_le hb s h
  rw [tal_get _ (by omega)]
  exact List.count_pos_iff.2 h
 obtain ⟨s,hs,hlt⟩:=syms_two hn hb
 exact lens_of (tal_len _) (tal_max hlen) (ordL_ok _) (hp 257 (syms_end _)) ⟨s,hlt,hp s hs⟩ hp hb
theorem cnt_tal {ss:List Nat} (h: ∀s∈ss,s≤257):Hs.cnt (List.replicate 258 0) (Proofs.YtcdpblipagajiaaGreat.ints ss)=Proofs.YtcdpblipagajiaaGreat.ints (tal ss):=by
 have hall:(Proofs.YtcdpblipagajiaaGreat.ints ss).all Hs.isS=true:=by
  refine List.all_eq_true.2 fun z hz=> ?_
  obtain ⟨s,hs,rfl⟩:=List.mem_map.1 hz
  have:=h s hs
  exact Hs.isS_iff.2 (by omega)
 refine List.ext_getElem? fun i=> ?_
 have hl:(Hs.cnt (List.replicate 258 0) (Proofs.YtcdpblipagajiaaGreat.ints ss)).length=258:=by rw [Hs.cnt_len];simp
 by_cases hi:i<258
 ·have h1:=Hs.cnt_get (zs:=Proofs.YtcdpblipagajiaaGreat.ints ss) (t:=List.replicate 258 0) hall (by simp) i
  rw [List.getD_eq_getElem?_getD,List.getElem?_eq_getElem (by omega)] at h1
  rw [List.getElem?_eq_getElem (by omega)]
  have h2:=tal_get ss hi
  rw [List.getD_eq_getElem?_getD,List.getElem?_eq_getElem (by rw [tal_len];exact hi)] at h2
  have h4:(Proofs.YtcdpblipagajiaaGreat.ints (tal ss))[i]? =some (((tal ss)[i]'(by rw [tal_len];exact hi):Nat):Int):=by
   unfold Proofs.YtcdpblipagajiaaGreat.ints
   rw [List.getElem?_map,List.getElem?_eq_getElem (by rw [tal_len];exact hi)];rfl
  rw [h4]
  simp only [Option.getD_some] at h1 h2
  rw [h1,h2]
  have h3:((Proofs.YtcdpblipagajiaaGreat.ints ss).count (i:Int))=ss.count i:=by
   unfold Proofs.YtcdpblipagajiaaGreat.ints
   rw [List.count_eq_countP,List.countP_map,List.count_eq_countP]
   refine List.countP_congr fun x _=> ?_
   simp only [Function.comp,beq_iff_eq]
   omega
  rw [h3,List.getD_eq_getElem?_getD,List.getElem?_replicate,if_pos hi]
  simp
 ·rw [List.getElem?_eq_none (by omega),List.getElem?_eq_none (by rw [Proofs.YtcdpblipagajiaaGreat.ints_len,tal_len];omega)]
end Go.Blk
namespace Go.Proofs.YtcdpblipagajiaaGreat
open Go Go.Vc
set_option maxRecDepth 100000 in
def histogram_Of.E (symbols1:Sl) (R:(Array Value)→Int→World→Prop) (w:World):Prop:=
 Nw 41 ⟨List.replicate 258 (.int .i64 0)⟩ w fun (b3:Nat) (w_2:World)=>
 Bld Tryz.prog 41 [] fun (cs4:Array Value)=>
 Cl Tryz.prog [(.arr 258),kI] n_histogram_Add ⟨[(.agg cs4),(.slice symbols1.base symbols1.len symbols1.cap)]⟩ w_2 fun (r6:(Array Value)) (r7:Int) (w_5:World)=>
 StA 258 (⟨b3,0,none⟩:Addr) r6 w_5 fun (w_8:World)=>
 Ld (.arr 258) (⟨b3,0,none⟩:Addr) w_8 fun (res9:(Array Value))=>
 R (res9) (r7) w_8
set_option maxRecDepth 100000 in
theorem histogram_Of.ok (symbols1:Sl) (R:(Array Value)→Int→World→Prop) (w:World) (h:histogram_Of.E symbols1 R w):Cl Tryz.prog [(.arr 258),kI] n_histogram_Of ⟨[(.slice symbols1.base symbols1.len symbols1.cap)]⟩ w R:=
 calls_of_eq Tryz.mix Tryz.f92 [(.slice symbols1.base symbols1.len symbols1.cap)] [(.arr 258),kI] R 9 [.cell 2 41,.tmp 3] (by kernel_rfl) (by kernel_rfl) (by kernel_rfl) (by kernel_rfl) (by kernel_rfl)
  (.s .o (.s .o .o))
  (by kernel_rfl) h
set_option maxRecDepth 100000 in
def histogram_Add.E (t1:(Array Value)) (symbols2:Sl) (R:(Array Value)→Int→World→Prop) (w:World):Prop:=
 Nw 41 t1 w fun (b4:Nat) (w_3:World)=>
 Nw 41 ⟨List.replicate 258 (.int .i64 0)⟩ w_3 fun (b6:Nat) (w_5:World)=>
 Ld (.arr 258) (⟨b4,0,none⟩:Addr) w_5 fun (x7:(Array Value))=>
 Cl Tryz.prog [kB] n_histogram_Valid ⟨[(.agg x7)]⟩ w_5 fun (r9:Bool) (w_8:World)=>
 IfB (!r9)
 (Ld (.arr 258) (⟨b4,0,none⟩:Addr) w_8 fun (x10:(Array Value))=>
 StA 258 (⟨b6,0,none⟩:Addr) x10 w_8 fun (w_11:World)=>
 Ld (.arr 258) (⟨b6,0,none⟩:Addr) w_11 fun (res12:(Array Value))=>
 R (res12) (2) w_11)
 (Ld (.arr 258) (⟨b4,0,none⟩:Addr) w_8 fun (x13:(Array Value))=>
 Nw 41 ⟨List.replicate 258 (.int .i64 0)⟩ w_8 fun (b15:Nat) (w_14:World)=>
 StA 258 (⟨b15,0,none⟩:Addr) x13 w_14 fun (w_16:World)=>
 ∃(I_17:Int→World→Prop) (m_18:Int→World→Nat),I_17 (0) w_16∧
 ∀(t16_19:Int),∀(w_20:World),I_17 t16_19 w_20→
 IfB (decide ((t16_19:Int)<((symbols2.len:Int):Int)))
 (Idx symbols2 t16_19 1 fun (q21:Addr)=>
 Ld kI q21 w_20 fun (x22:Int)=>
 Cl Tryz.prog [kB] n_histogram_is ⟨[(.int .i64 x22)]⟩ w_20 fun (r24:Bool) (w_23:World)=>
 IfB (!r24)
 (Ld (.arr 258) (⟨b15,0,none⟩:Addr) w_23 fun (x25:(Array Value))=>
 StA 258 (⟨b6,0,none⟩:Addr) x25 w_23 fun (w_26:World)=>
 Ld (.arr 258) (⟨b6,0,none⟩:Addr) w_26 fun (res27:(Array Value))=>
 R (res27) (2) w_26)
 (IdxP (⟨b4,0,none⟩:Addr) 258 x22 1 fun (q28:Addr)=>
 Ld kI q28 w_23 fun (x29:Int)=>
 IfB ((x29:Int)==(2147483647:Int))
 (Ld (.arr 258) (⟨b15,0,none⟩:Addr) w_23 fun (x30:(Array Value))=>
 StA 258 (⟨b6,0,none⟩:Addr) x30 w_23 fun (w_31:World)=>
 Ld (.arr 258) (⟨b6,0,none⟩:Addr) w_31 fun (res32:(Array Value))=>
 R (res32) (2) w_31)
 (IdxP (⟨b4,0,none⟩:Addr) 258 x22 1 fun (q33:Addr)=>
 Ld kI q33 w_23 fun (x34:Int)=>
 IdxP (⟨b4,0,none⟩:Addr) 258 x22 1 fun (q35:Addr)=>
 St q35 (.int .i64 (i64 ((x34:Int)+(1:Int)))) w_23 fun (w_36:World)=>
 I_17 ((i64 ((t16_19:Int)+(1:Int)))) w_36∧m_18 ((i64 ((t16_19:Int)+(1:Int)))) w_36<m_18 t16_19 w_20)))
 (Ld (.arr 258) (⟨b4,0,none⟩:Addr) w_20 fun (x37:(Array Value))=>
 StA 258 (⟨b6,0,none⟩:Addr) x37 w_20 fun (w_38:World)=>
 Ld (.arr 258) (⟨b6,0,none⟩:Addr) w_38 fun (res39:(Array Value))=>
 R (res39) (0) w_38))
set_option maxRecDepth 100000 in
theorem histogram_Add.ok (t1:(Array Value)) (symbols2:Sl) (R:(Array Value)→Int→World→Prop) (w:World) (h:histogram_Add.E t1 symbols2 R w):Cl Tryz.prog [(.arr 258),kI] n_histogram_Add ⟨[(.agg t1),(.slice symbols2.base symbols2.len symbols2.cap)]⟩ w R:=
 calls_of_eq Tryz.mix Tryz.f137 [(.agg t1),(.slice symbols2.base symbols2.len symbols2.cap)] [(.arr 258),kI] R 37 [.cell 4 41,.tmp 5] (by kernel_rfl) (by kernel_rfl) (by kernel_rfl) (by kernel_rfl) (by kernel_rfl)
  (.s .o (.s (.s .o (.c (.s .o .o) .o)) (.s .o (.s (.s .o (.b (.l [(16,kI)] (.s .o (.s (.c .o .o) (.s (.b (.s .o (.s (.s .o (.c (.s .o .o) .o)) .o))) .o)))))) (.s .o .o)))))
  (by kernel_rfl) h
def histogram_Valid.E (t1:(Array Value)) (R:Bool→World→Prop) (w:World):Prop:=
 Nw 41 t1 w fun (b3:Nat) (w_2:World)=>
 Ld (.arr 258) (⟨b3,0,none⟩:Addr) w_2 fun (x4:(Array Value))=>
 ∃(I_5:Int→World→Prop) (m_6:Int→World→Nat),I_5 (0) w_2∧
 ∀(t6_7:Int),∀(w_8:World),I_5 t6_7 w_8→
 IfB (decide ((t6_7:Int)<(258:Int)))
 (IdxV (.int .i64) x4 258 t6_7 fun (e9:Int)=>
 IfB (decide ((e9:Int)<(0:Int)))
 (R (false) w_8)
 (IfB (decide ((e9:Int)>(2147483647:Int)))
 (R (false) w_8)
 (I_5 ((i64 ((t6_7:Int)+(1:Int)))) w_8∧m_6 ((i64 ((t6_7:Int)+(1:Int)))) w_8<m_6 t6_7 w_8)))
 (R (true) w_8)
theorem histogram_Valid.ok (t1:(Array Value)) (R:Bool→World→Prop) (w:World) (h:histogram_Valid.E t1 R w):Cl Tryz.prog [kB] n_histogram_Valid ⟨[(.agg t1)]⟩ w R:=
 calls_of_eq Tryz.mix Tryz.f177 [(.agg t1)] [kB] R 16 [.tmp 2] (by kernel_rfl) (by kernel_rfl) (by kernel_rfl) (by kernel_rfl) (by kernel_rfl)
  (.s .o (.s (.s .o (.b (.l [(6,kI)] (.s .o (.s (.c .o .o) (.s (.b (.s .o (.s .o (.c (.s .o .o) .o)))) .o)))))) (.s .o .o)))
  (by kernel_rfl) h
def histogram_is.E (s1:Int) (R:Bool→World→Prop) (w:World):Prop:=
 IfB (decide ((s1:Int)≥(0:Int)))
 (R ((decide ((s1:Int)<(258:Int)))) w)
 (R (false) w)
theorem histogram_is.ok (s1:Int) (R:Bool→World→Prop) (w:World) (h:histogram_is.E s1 R w):Cl Tryz.prog [kB] n_histogram_is ⟨[(.int .i64 s1)]⟩ w R:=
 calls_of_eq Tryz.mix Tryz.f178 [(.int .i64 s1)] [kB] R 9 [.tmp 2] (by kernel_rfl) (by kernel_rfl) (by kernel_rfl) (by kernel_rfl) (by kernel_rfl)
  (.s .o (.s .o .o))
  (by kernel_rfl) h
end Go.Proofs.YtcdpblipagajiaaGreat
set_option maxRecDepth 20000
namespace Go.Proofs.YtcdpblipagajiaaGreat
open Go Go.Vc Go.Hs
section
variable {E w:World} {F:List HP}
set_option maxRecDepth 20000 in
theorem hValid_c {t:List Int} {K:Bool→World→Prop} (h:Hp E w F) (ht:t.length=258) (hK: ∀w',Hp E w' F→K (validT t) w'):Cl Tryz.prog [kB] n_histogram_Valid ⟨[.agg (Vc.aT t)]⟩ w K:=by
 refine histogram_Valid.ok _ _ _ ?_
 unfold histogram_Valid.E
 have hT:(Vc.aT t).size=258:=by rw [Vc.aT_size,ht]
 refine Nw.mk h fun b3 w1 h1=>Ld.arr h1 hT ?_
 refine ⟨fun i w'=> ∃k:Nat,i=(k:Int)∧k≤258∧(∀j,j<k→0≤t.getD j 0∧t.getD j 0≤2147483647)∧Hp E w' F,fun i _=>258 - i.toNat,⟨0,rfl,by omega,fun j hj=>by omega,h1.drop⟩,?_⟩
 rintro i w2 ⟨k,rfl,hk,hg,hh⟩
 have bad: ∀hlt:k<258,¬(0≤t.getD k 0∧t.getD k 0≤2147483647)→K false w2:=fun hlt hb=>by
  have:=hK w2 hh
  rwa [validT_f (by omega) hb] at this
 refine IfB.mk (fun hlt=> ?_) (fun hge=> ?_)
 ·have hlt:k<258:=by have:=of_decide_eq_true hlt;omega
  refine IdxV.aT rfl ht hlt ?_
  refine IfB.mk (fun h0=>bad hlt (by have:=of_decide_eq_true h0;omega)) (fun h0=>IfB.mk (fun h9=>bad hlt (by have:=of_decide_eq_true h9;omega)) (fun h9=> ?_))
  have h0:=of_decide_eq_false h0
  have h9:=of_decide_eq_false h9
  rw [i64_id (by omega)]
  refine ⟨⟨k+1,by omega,by omega,fun j hj=> ?_,hh⟩,by dsimp only;omega⟩
  by_cases e:j=k
  ·subst e;omega
  ·exact hg j (by omega)
 ·have hge:k=258:=by have:=of_decide_eq_false hge;omega
  subst hge
  have:=hK w2 hh
  rwa [validT_iff.2 fun i hi=>hg i (by omega)] at this
theorem hIs_c {z:Int} {K:Bool→World→Prop} (hK:K (isS z) w):Cl Tryz.prog [kB] n_histogram_is ⟨[.int .i64 z]⟩ w K:=by
 refine histogram_is.ok _ _ _ ?_
 unfold histogram_is.E
 unfold isS at hK
 refine IfB.mk (fun h=> ?_) (fun h=> ?_)
 ·rw [show decide (0≤z)=true from decide_eq_true (of_decide_eq_true h)] at hK;exact hK
 ·rw [show decide (0≤z)=false from decide_eq_false (of_decide_eq_false h)] at hK;exact hK
set_option maxRecDepth 20000 in
theorem hAdd_c {t zs:List Int} {s:Sl} {K:Array Value→Int→World→Prop} (h:Hp E w F) (ht:t.length=258) (hs:Tells F (SlT 1 s (zs.map vI))) (hn:zs.length≤big)
  (hK: ∀w',Hp E w' F→K (Vc.aT ((addT t zs).getD t)) (erO (addT t zs)) w'):Cl Tryz.prog [.arr 258,kI] n_histogram_Add ⟨[.agg (Vc.aT t),.slice s.base s.len s.cap]⟩ w K:=by
 refine histogram_Add.ok _ _ _ _ ?_
 unfold histogram_Add.E
 rw [Vc.aT_zero]
 have hz:(Vc.aT (List.replicate 258 0)).size=258:=by rw [Vc.aT_size];exact List.length_replicate
 have hT: ∀{u:List Int},u.length=258→(Vc.aT u).size=258:=fun hu=>by rw [Vc.aT_size,hu]
 have hsl:=(h.tells hs).1
 simp only [List.length_map,Nat.mul_one] at hsl
 rw [big_eq] at hn
 have hKn:addT t zs=none→∀w',Hp E w' F→K (Vc.aT t) 2 w':=fun e w' h'=>by have:=hK w' h';rwa [e] at this
 refine Nw.mk h fun b4 w1 h1=>Nw.mk h1 fun b6 w2 h2=>Ld.arr h2.p1 (hT ht) (hValid_c h2 ht fun w3 h3=> ?_)
 refine IfB.mk (fun hv=> ?_) (fun hv=> ?_)
 ·have hv:validT t=false:=by simpa using hv
  exact Ld.arr h3.p1 (hT ht) (StA.blk h3 hz (hT ht) Vc.aT_scalar fun w4 h4=>Ld.arr h4 (hT ht) (hKn (addT_invalid hv) w4 h4.drop.drop))
 have hv:validT t=true:=by simpa using hv
 refine Ld.arr h3.p1 (hT ht) (Nw.mk h3 fun b15 w4 h4=>StA.blk h4 hz (hT ht) Vc.aT_scalar fun w5 h5=> ?_)
 refine ⟨fun i w'=> ∃k:Nat,i=(k:Int)∧k≤zs.length∧(zs.take k).all isS=true∧validT (cnt t (zs.take k))=true∧Hp E w' (Blk b15 (.cells (Vc.aT t) 41 (0,0))::Blk b6 (.cells (Vc.aT (List.replicate 258 0)) 41 (0,0))::Blk b4 (.cells (Vc.aT (cnt t (zs.take k))) 41 (0,0))::F),fun i _=>zs.length - i.toNat,⟨0,rfl,by omega,rfl,hv,h5⟩,?_⟩
 rintro i w6 ⟨k,rfl,hk,hg,hvk,hh⟩
 have bad:addT t zs=none→Ld (.arr 258) ⟨b15,0,none⟩ w6 fun x30=>StA 258 ⟨b6,0,none⟩ x30 w6 fun w31=>Ld (.arr 258) ⟨b6,0,none⟩ w31 fun res=>K res 2 w31:=fun e=>
  Ld.arr hh (hT ht) (StA.blk hh.p1 hz (hT ht) Vc.aT_scalar fun w7 h7=>Ld.arr h7 (hT ht) (hKn e w7 h7.drop.drop.drop))
 have hcl:(cnt t (zs.take k)).length=258:=by rw [cnt_len,ht]
 refine IfB.mk (fun hlt=> ?_) (fun hge=> ?_)
 ·have hlt:k<zs.length:=by have:=of_decide_eq_true hlt;omega
  refine Idx.nI (hh.tells (Tells.cons (Tells.cons (Tells.cons hs)))) rfl hlt (hIs_c ?_)
  refine IfB.mk (fun hb=>bad (addT_bad hlt (by simpa using hb))) (fun hb=> ?_)
  have hb:isS (zs.getD k 0)=true:=by simpa using hb
  have hr:=isS_iff.1 hb
  have hvz:=validT_iff.1 hvk (zs.getD k 0).toNat (by omega)
  refine IdxP.aT hh.p2 (j:=(zs.getD k 0).toNat) (by omega) hcl (by omega) ?_
  refine IfB.mk (fun hm=>bad (addT_over ht hlt hg hb (by have:=beq_iff_eq.1 hm;omega))) (fun hm=> ?_)
  have hm: ¬(cnt t (zs.take k)).getD (zs.getD k 0).toNat 0=2147483647:=beq_eq_false_iff_ne.1 hm
  refine IdxP.aT hh.p2 (j:=(zs.getD k 0).toNat) (by omega) hcl (by omega) ?_
  rw [i64_id (x:=(cnt t (zs.take k)).getD (zs.getD k 0).toNat 0+1) (by omega),i64_id (by omega)]
  refine IdxP.aTset hh.p2 (j:=(zs.getD k 0).toNat) (by omega) hcl (by omega) fun w7 h7=>⟨⟨k+1,by omega,by omega,?_,?_,?_⟩,by dsimp only;omega⟩
  ·rw [take_snocD hlt,List.all_append,hg,List.all_cons,hb];rfl
  ·rw [take_snocD hlt,cnt_snoc]
   refine validT_iff.2 fun i hi=> ?_
   have:=validT_iff.1 hvk i (by rw [inc_len] at hi;exact hi)
   rw [inc_get hb hcl]
   split
   ·rename_i e
    rw [e,Int.toNat_natCast] at hm hvz
    omega
   ·omega
  ·rw [take_snocD hlt,cnt_snoc]
   exact h7.q2
 ·have hge:k=zs.length:=by have:=of_decide_eq_false hge;omega
  subst hge
  rw [List.take_length] at hg hvk hh hcl
  refine Ld.arr hh.p2 (hT hcl) (StA.blk hh.p1 hz (hT hcl) Vc.aT_scalar fun w7 h7=>Ld.arr h7 (hT hcl) ?_)
  have:=hK w7 h7.drop.drop.drop
  rwa [addT_all hv hg hvk] at this
def zero258:List Int:=List.replicate 258 0
theorem zero258_len:zero258.length=258:=List.length_replicate
theorem bld_zero {K:Array Value→Prop} (hK:K (Vc.aT zero258)):Bld Tryz.prog 41 [] K:=⟨Vc.aT zero258,by kernel_rfl,hK⟩
set_option maxRecDepth 20000 in
theorem hOf_c {zs:List Int} {s:Sl} {K:Array Value→Int→World→Prop} (h:Hp E w F) (hs:Tells F (SlT 1 s (zs.map vI))) (hn:zs.length≤big)
  (hK: ∀w',Hp E w' F→K (Vc.aT ((addT zero258 zs).getD zero258)) (erO (addT zero258 zs)) w'):Cl Tryz.prog [.arr 258,kI] n_histogram_Of ⟨[.slice s.base s.len s.cap]⟩ w K:=by
 refine histogram_Of.ok _ _ _ ?_
 unfold histogram_Of.E
 rw [Vc.aT_zero]
 have hl:((addT zero258 zs).getD zero258).length=258:=by
  cases ha:addT zero258 zs with
  |none=>exact zero258_len
  |some u=>
   obtain ⟨_,_,rfl,_⟩:=addT_some ha
   show (cnt zero258 zs).length=258
   rw [cnt_len,zero258_len]
 refine Nw.mk h fun b3 w1 h1=>bld_zero (hAdd_c h1 zero258_len (Tells.cons hs) hn fun w2 h2=>StA.blk h2 (by rw [Vc.aT_size];exact List.length_replicate) (by rw [Vc.aT_size,hl]) Vc.aT_scalar fun w3 h3=>Ld.arr h3 (by rw [Vc.aT_size,hl]) (hK w3 h3.drop))
end
end Go.Proofs.YtcdpblipagajiaaGreat
namespace Go.Proofs.YtcdpblipagajiaaGreat
open Go Go.Vc Go.Srt Go.Inc Go.Sym Go.Tab Go.Hd Go.Bw Go.Bits Go.Blk Go.Crc
section
variable {E w:World} {F:List HP}
set_option maxRecDepth 20000
theorem turned_c' {s:Sl} {b:List Nat} {K:Sl→World→Prop} (h:Hp E w F) (hs:Tells F (SlT 1 s (b.map vB))) (hn:b.length≤big) (hK: ∀s' w',Hp E w' (OwnS 1 s' (b.reverse.map vB)::F)→K s' w'):
  Cl Tryz.prog [kS] n_block_turned ⟨[.slice s.base s.len s.cap]⟩ w K:=by
 refine block_turned.ok _ _ _ ?_
 unfold block_turned.E
 exact clone_c h hs (by omega) fun s' w h=>reverse_c h hn fun w h=>hK s' w h
theorem column_c {s:Sl} {x:List Nat} {K:Sl→Int→World→Prop} (h:Hp E w F) (hs:Tells F (SlT 1 s (x.map vB))) (hb: ∀y∈x,y<256) (hn:x.length≤400000) (hK: ∀s' w',Hp E w' (OwnS 1 s' ((lastB x.reverse).map vB)::F)→K s' (idxB x.reverse:Int) w'):
  Cl Tryz.prog [kS,kI] n_block_Column ⟨[.slice s.base s.len s.cap]⟩ w K:=by
 refine block_Column.ok _ _ _ ?_
 unfold block_Column.E
 refine turned_c' h hs (by rw [big_eq];omega) fun s' w h=> ?_
 exact bwTurn_c h Tells.own (fun y hy=>hb y (List.mem_reverse.1 hy)) (by simpa using hn) fun s2 w h=>hK s2 w h.keep1
theorem symbols_c {s:Sl} {x:List Nat} {K:Sl→World→Prop} (h:Hp E w F) (hs:Tells F (SlT 1 s (x.map vB))) (hb: ∀y∈x,y<256) (hn:x.length≤400000) (hK: ∀s' w',Hp E w' (OwnS 1 s' ((ints (syms (lastB x.reverse))).map vI)::F)→K s' w'):
  Cl Tryz.prog [kS] n_block_Symbols ⟨[.slice s.base s.len s.cap]⟩ w K:=by
 refine block_Symbols.ok _ _ _ ?_
 unfold block_Symbols.E
 refine column_c h hs hb hn fun s' w h=> ?_
 exact seall_c h Tells.own (lastB_b fun y hy=>hb y (List.mem_reverse.1 hy)) (by rw [lastB_len,List.length_reverse];omega) fun s2 w h=>hK s2 w h.keep1
theorem lengths_c {s:Sl} {ss:List Nat} {K:Array Value→World→Prop} (h:Hp E w F) (hs:Tells F (SlT 1 s ((ints ss).map vI))) (hb: ∀y∈ss,y≤257) (hn:ss.length≤1000000) (hK: ∀w',Hp E w' F→K (ai .u8 (lensY ss)) w'):
  Cl Tryz.prog [.arr 258] n_block_lengths ⟨[.slice s.base s.len s.cap]⟩ w K:=by
 refine block_lengths.ok _ _ _ ?_
 unfold block_lengths.E
 have hct:=cnt_tal hb
 have hall:(ints ss).all Hs.isS=true:=by
  refine List.all_eq_true.2 fun z hz=> ?_
  obtain ⟨y,hy,rfl⟩:=List.mem_map.1 hz
  have:=hb y hy
  exact Hs.isS_iff.2 (by omega)
 have hmx:=tal_max (ss:=ss) (by omega)
 have hval:Hs.validT (ints (tal ss))=true:=ints_valid hmx
 have hadd:Hs.addT (List.replicate 258 0) (ints ss)=some (ints (tal ss)):=by
  rw [←hct]
  exact Hs.addT_all (by decide) hall (by rw [hct];exact hval)
 have hsz:(aT (ints (tal ss))).size=258:=by rw [aT_size,ints_len,tal_len]
 have hsc:(aT (ints (tal ss))).toList.all scalarB=true:=List.all_eq_true.2 Vc.aT_scalar
 have hlen:=lensY_len ss
 have hls:(ai .u8 (lensY ss)).size=258:=by rw [ai_size,hlen]
 have hlc:(ai .u8 (lensY ss)).toList.all scalarB=true:=List.all_eq_true.2 ai_scalar
 refine Nw.mk h fun b3 w h=>hOf_c h (Tells.cons hs) (by rw [ints_len,big_eq];omega) fun w h=> ?_
 rw [show zero258=List.replicate 258 0 from rfl,hadd]
 refine Nw.mk h fun b8 w h=>StA.q h (by simp) hsz hsc fun w h=>Ld.xw h hsz ?_
 refine pmLen_ok (lensY_good (by omega)) h fun w h=> ?_
 refine Nw.mk h fun b15 w h=>StA.q h (by simp) hls hlc fun w h=>Ld.xw h hls ?_
 refine StA.q h (by simp) hls hlc fun w h=>Ld.xw h hls (hK w h.tl)
theorem syms_few {x:List Nat} (hn:x.length≤400000):(syms (lastB x.reverse)).length≤400001:=by
 have:=syms_len (lastB x.reverse)
 rw [lastB_len,List.length_reverse] at this
 omega
theorem syms_257 {x:List Nat} (hb: ∀y∈x,y<256): ∀y∈syms (lastB x.reverse),y≤257:=fun y hy=>by
 have:=Sym.syms_le (b:=lastB x.reverse) (lastB_b fun y hy=>hb y (List.mem_reverse.1 hy)) y hy
 omega
theorem lengthsX_c {s:Sl} {x:List Nat} {K:Array Value→World→Prop} (h:Hp E w F) (hs:Tells F (SlT 1 s (x.map vB))) (hb: ∀y∈x,y<256) (hn:x.length≤400000) (hK: ∀w',Hp E w' F→K (ai .u8 (lensX x)) w'):
  Cl Tryz.prog [.arr 258] n_block_Lengths ⟨[.slice s.base s.len s.cap]⟩ w K:=by
 refine block_Lengths.ok _ _ _ ?_
 unfold block_Lengths.E
 have hls:(ai .u8 (lensX x)).size=258:=by rw [ai_size];exact lensY_len _
 have hlc:(ai .u8 (lensX x)).toList.all scalarB=true:=List.all_eq_true.2 ai_scalar
 refine Nw.mk h fun b3 w h=>symbols_c h (Tells.cons hs) hb hn fun s' w h=> ?_
 refine lengths_c h Tells.own (syms_257 hb) (by have:=syms_few hn;omega) fun w h=> ?_
 refine StA.q h (by simp) hls hlc fun w h=>Ld.xw h hls (hK w h.tl)
theorem encZ_ints (l ss:List Nat):encZ l (ints ss)=enc l ss:=by
 unfold encZ ints
 rw [List.map_map]
 congr 1
 exact (List.map_congr_left fun x _=>by simp).trans (List.map_id _)
theorem allG_ints {l ss:List Nat} (h: ∀s∈ss,goodS l s) (hs: ∀s∈ss,s≤257):allG l (ints ss)=true:=by
 refine List.all_eq_true.2 fun z hz=> ?_
 obtain ⟨y,hy,rfl⟩:=List.mem_map.1 hz
 have:=h y hy
 have:=hs y hy
 exact goodI_iff.2 ⟨by omega,by omega,by simpa using (h y hy).2⟩
theorem pack_c {n:Int} {s:Sl} {x:List Nat} {K:Sl→Int→World→Prop} (h:Hp E w F) (hs:Tells F (SlT 1 s (x.map vB))) (hb: ∀y∈x,y<256) (hn:x.length≤65536)
  (hgood:1≤n→n≤65536→1≤x.length→(x.length:Int)≤n→∀s' w',Hp E w' (OwnS 1 s' ((blkL (lensX x) x).map vB)::F)→K s' 0 w')
  (hbad: ¬(1≤n∧n≤65536∧1≤x.length∧(x.length:Int)≤n)→∀w',Hp E w' F→K ⟨none,0,0⟩ 2 w'):
  Cl Tryz.prog [kS,kI] n_block_Pack ⟨[.int .i64 n,.slice s.base s.len s.cap]⟩ w K:=by
 refine block_Pack.ok _ _ _ _ ?_
 unfold block_Pack.E
 have hlen:x.length=s.len:=by have:=(h.tells hs).1;simpa using this
 refine column_c h hs hb (by omega) fun s4 w h=>Nw.mk h fun b7 w h=> ?_
 have hcrc:crc x<4294967296:=crc_lt hb
 refine cof_c (s:=⟨some ⟨b7,0,none⟩,1,1⟩) (cs:= [s]) (bs:= [x]) h (Tells.blk rfl rfl) rfl (by rw [big_eq];simp) (fun i hi=> ?_) (by simpa using hb) (by simp [big_eq];omega) fun w h=> ?_
 ·match i,hi with
  |0,_=>exact Tells.cons (Tells.cons hs)
 rw [show [x].flatten=x by simp,←hlen]
 have hidx:idxB x.reverse≤x.length:=by
  by_cases h0:x= []
  ·subst h0;decide
  ·have:=idx_in (t:=x.reverse) (by rw [List.length_reverse];exact List.length_pos_iff.2 h0)
   rw [List.length_reverse] at this;omega
 refine hputBlk_c h (by omega) (by omega) hcrc (fun h1 h2 h3 h4 h5 h6 s11 w h=> ?_) (fun hno w h=> ?_)
 ·refine IfB.nf rfl ?_
  have hL:=lensX_lens h3 (by omega) hb
  have hbl: ∀y∈lastB x.reverse,y<256:=lastB_b fun y hy=>hb y (List.mem_reverse.1 hy)
  have hls:(ai .u8 (lensX x)).size=258:=by rw [ai_size];exact hL.len
  have hlc:(ai .u8 (lensX x)).toList.all scalarB=true:=List.all_eq_true.2 ai_scalar
  refine seall_c h (Tells.at 2 Tells.own) hbl (by rw [lastB_len,List.length_reverse];omega) fun s14 w h=> ?_
  refine lengths_c h Tells.own (syms_257 hb) (by have:=syms_few (x:=x) (by omega);omega) fun w h=> ?_
  refine Nw.mk h fun b18 w h=>StA.q h (by simp) hls hlc fun w h=>newW_c h fun b w h=>Ld.xw h hls ?_
  refine tputW_c h hL.len hL.ok (by simp) fun w h=>Ld.xw h hls ?_
  have hsl:=syms_few (x:=x) (by omega)
  refine putE_c h hL.len (Tells.at 1 Tells.own) (by rw [ints_len];have:=syms_len (lastB x.reverse);rw [lastB_len,List.length_reverse] at this;omega) ?_ (fun hno=>absurd ⟨hL.v,allG_ints hL.good (syms_257 hb)⟩ hno) fun _ _ w h=> ?_
  ·have:=tput_short hL.len hL.ok
   rw [List.nil_append];omega
  rw [List.nil_append,encZ_ints] at h
  refine bytesW_c h fun s29 w h=> ?_
  have hpl:=pack_len (tput (lensX x)++enc (lensX x) (syms (lastB x.reverse)))
  have hel:=encZ_le hL.v (ints (syms (lastB x.reverse)))
  rw [encZ_ints,ints_len] at hel
  have htl:=tput_short hL.len hL.ok
  have l1:=h.ownLen
  have l2:=(h.at 4).ownLen
  rw [List.length_map,Nat.mul_one] at l1 l2
  have hml:(mblk x.length (idxB x.reverse) (crc x)).length≤20:=by
   have h1:=vput_len (n:=x.length) (by omega)
   have h2:=vput_len (n:=idxB x.reverse) (by omega)
   unfold mblk
   simp [be4]
   omega
  rw [List.length_append] at hpl
  refine run_append (s:=s11) (n:=s29.len) ty_b (by decide) (.inl ⟨5,by kernel_rfl⟩) (h.at 4) (.inl ⟨s29.base,s29.len,s29.cap,rfl,rfl,h.tells Tells.own⟩) (by rw [List.length_map,l1,Nat.mul_one]) vB_scalar (by omega) (by omega) fun s31 w h _=>hgood h1 h2 h3 h4 s31 w ?_
  rw [show (blkL (lensX x) x).map vB=(mblk x.length (idxB x.reverse) (crc x)).map vB++(pack (tput (lensX x)++enc (lensX x) (syms (lastB x.reverse)))).map vB by unfold blkL body;rw [List.map_append]]
  exact h.keep1
 ·refine IfB.nt (by decide) (hbad (fun hh=>hno ?_) w h.tl)
  have:=idx_in (t:=x.reverse) (by rw [List.length_reverse];omega)
  rw [List.length_reverse] at this
  exact ⟨hh.1,hh.2.1,hh.2.2.1,hh.2.2.2,this.1,this.2⟩
end
end Go.Proofs.YtcdpblipagajiaaGreat
namespace Go.Blk
open Go.Inc Go.Srt Go.Sym Go.Bits Go.Tab Go.Hd Go.Crc Go.Bw Go.Proofs.YtcdpblipagajiaaGreat
theorem blk_short {x:List Nat} (h0:0<x.length) (hb: ∀y∈x,y<256) (hn:x.length≤65536):(blkL (lensX x) x).length≤200000:=by
 have hL:=lensX_lens h0 (by omega) hb
 have h1:=vput_len (n:=x.length) (by omega)
 have hidx:=idx_in (t:=x.reverse) (by rw [List.length_reverse];exact h0)
 rw [List.length_reverse] at hidx
 have h2:=vput_len (n:=idxB x.reverse) (by omega)
 have h3:=tput_short hL.len hL.ok
 have h4:=encZ_le hL.v (ints (syms (lastB x.reverse)))
 rw [encZ_ints,ints_len] at h4
 have h5:=syms_len (lastB x.reverse)
 rw [lastB_len,List.length_reverse] at h5
 unfold blkL mblk body
 rw [List.length_append,pack_len,List.length_append,List.length_cons,List.length_append,List.length_append,show (be4 (crc x)).length=4 from rfl]
 omega
end Go.Blk
namespace Go.Proofs.YtcdpblipagajiaaGreat
open Go Go.Vc Go.Srt Go.Inc Go.Tab
section
variable {E w:World} {F:List HP}
theorem zeroTb (b n:Int):(⟨List.replicate 258 (.int .u8 0)++ [.int .i64 0,.int .i64 b,.int .i64 n,.int .i64 0]⟩:Array Value)=tbA (List.replicate 258 0) 0 b n 0:=by
 unfold tbA tbV
 rw [List.map_replicate];rfl
theorem Bld.tb {b n:Int} {K:Array Value→Prop} (hK:K (tbA (List.replicate 258 0) 0 b n 0)):Bld Tryz.prog 141 [(2,.int .i64 b),(3,.int .i64 n)] K:=by
 refine ⟨_,(by kernel_rfl:Tryz.prog.built 141 [(2,.int .i64 b),(3,.int .i64 n)]=some ⟨List.replicate 258 (.int .u8 0)++ [.int .i64 0,.int .i64 b,.int .i64 n,.int .i64 0]⟩),?_⟩
 rw [zeroTb];exact hK
set_option maxRecDepth 20000
theorem orbit {c x:Nat} (hx:x≤1) (hc:c<16384):ior .i64 (ishl .i64 (c:Int) 1) (x:Int)=((2*c+x:Nat):Int):=or_bit hx hc
theorem tbA_scalar {l:List Nat} {s b n wy:Int}:(tbA l s b n wy).toList.all scalarB=true:=by
 unfold tbA tbV
 rw [List.all_append,List.all_map]
 rw [Bool.and_eq_true]
 exact ⟨List.all_eq_true.2 fun _ _=>rfl,rfl⟩
theorem tbA_size {l:List Nat} {s b n wy:Int} (hl:l.length=258):(tbA l s b n wy).size=262:=by simp [hl]
theorem tbV_set {l:List Nat} {i x:Nat}:(tbV l).set i (.int .u8 (x:Int))=tbV (l.set i x):=by
 unfold tbV
 rw [List.map_set]
def TnR (t:TS) (x:Nat) (E:World) (F:List HP) (K:Array Value→Bool→World→Prop):Prop:=
 (∀t' w',tstep okT t x= .more t'→Hp E w' F→K (tbA (pad t'.l) (t'.l.length:Int) (t'.bits:Int) (t'.now:Int) (t'.way:Int)) true w')∧
 (∀l n w',tstep okT t x= .fin l→Hp E w' F→K (tbA l 258 4 n 0) true w')∧
 (∀o w',tstep okT t x= .bad 100→o.size=262→o.toList.all scalarB=true→Hp E w' F→K o false w')
theorem tnext_c {t:TS} {x:Nat} {K:Array Value→Bool→World→Prop} (h:Hp E w F) (ht:TsOk t) (hx:x≤1) (hK:TnR t x E F K):
  Cl Tryz.prog [.arr 262,kB] n_lengthtable_next ⟨[.agg (tbA (pad t.l) (t.l.length:Int) (t.bits:Int) (t.now:Int) (t.way:Int)),.int .i64 (x:Int)]⟩ w K:=by
 obtain ⟨k1,k2,k3⟩:=hK
 obtain ⟨l,bits,now,way⟩:=t
 unfold TsOk at ht
 unfold tstep at k1 k2 k3
 dsimp only at ht k1 k2 k3⊢
 have hl:l.length≤258:=by
  rcases ht with ⟨_,h,_⟩|⟨_,h,_⟩
  ·rw [h];simp
  ·omega
 have hL:=tbV_len (pad_len hl)
 have hz:((⟨List.replicate 258 (.int .u8 0)++ [.int .i64 0,.int .i64 0,.int .i64 0,.int .i64 0]⟩:Array Value)).size=262:=by simp
 refine lengthtable_next.ok _ _ _ _ ?_
 unfold lengthtable_next.E
 (try simp only [Join_eq,NilCk_some,add_mk,Nat.zero_add,Nat.add_zero,Nat.reduceAdd,Bool.not_true,Bool.not_false,IfB_t,IfB_f,Option.isNone])
 refine Nw.mk h fun b4 w h=>Nw.mk h fun b6 w h=> ?_
 have out: ∀{w:World} {l':List Nat} {s b n wy:Int} {K':World→Array Value→Prop},l'.length=258→
   Hp E w (Blk b6 (.cells ⟨List.replicate 258 (.int .u8 0)++ [.int .i64 0,.int .i64 0,.int .i64 0,.int .i64 0]⟩ 141 (0,0))::Blk b4 (.cells (tbA l' s b n wy) 141 (0,0))::F)→
   (∀w',Hp E w' F→K' w' (tbA l' s b n wy))→
   StA 262 ⟨b6,0,none⟩ (tbA l' s b n wy) w fun w1=>Ld (.arr 262) ⟨b6,0,none⟩ w1 fun r=>K' w1 r:=by
  intro w l' s b n wy K' hl' h hk
  refine StA.q h hz (tbA_size hl') tbA_scalar fun w h=> ?_
  exact Ld.xw h (tbA_size hl') (hk _ h.tl)
 rcases ht with ⟨h1,h2,h3,h4⟩|⟨h1,h2,h3,h4,h5⟩
 ·subst h2 h4
  simp only [if_pos h1] at k1 k2 k3
  have hnow:now<16384:=by
   have:2^bits≤2^3:=Nat.pow_le_pow_right (by decide) (by omega)
   omega
  (with_reducible repeat first|refine Nw.mk h fun b w h=> ?_|refine Drw.mk h fun w h=> ?_|refine Ld.q h hL rfl rfl ?_|refine LdS.q (fun _ h=>h) hL rfl rfl ?_|refine Ld.p h hL ?_|refine LdS.p (fun _ h=>h) hL ?_|refine Ld.qw h hL rfl ?_|refine LdS.qw (fun _ h=>h) hL rfl ?_|refine ⟨h.hb,?_⟩|(refine St.q h hL rfl rfl rfl fun w h=> ?_;dsimp only [spl,over] at h)|refine IfB.yes ?_|refine IfB.no ?_|refine ⟨by first|omega|decide,?_⟩)
  rw [orbit hx hnow,i64_id (by omega)] at h⊢
  exact out (K':=fun w x=>K x true w) (pad_len hl) h fun w h=>k1 _ _ rfl h
 ·simp only [if_neg (show¬bits<4 by omega)] at k1 k2 k3
  (with_reducible repeat first|refine Nw.mk h fun b w h=> ?_|refine Drw.mk h fun w h=> ?_|refine Ld.q h hL rfl rfl ?_|refine LdS.q (fun _ h=>h) hL rfl rfl ?_|refine Ld.p h hL ?_|refine LdS.p (fun _ h=>h) hL ?_|refine Ld.qw h hL rfl ?_|refine LdS.qw (fun _ h=>h) hL rfl ?_|refine ⟨h.hb,?_⟩|(refine St.q h hL rfl rfl rfl fun w h=> ?_;dsimp only [spl,over] at h)|refine IfB.yes ?_|refine IfB.no ?_|refine ⟨by first|omega|decide,?_⟩)
  by_cases hb:bits=4
  ·subst hb
   simp only [if_true] at k1 k2 k3
   by_cases hx0:x=0
   ·subst hx0
    simp only [if_true] at k1 k2 k3
    (with_reducible repeat first|refine Nw.mk h fun b w h=> ?_|refine Drw.mk h fun w h=> ?_|refine Ld.q h hL rfl rfl ?_|refine LdS.q (fun _ h=>h) hL rfl rfl ?_|refine Ld.p h hL ?_|refine LdS.p (fun _ h=>h) hL ?_|refine Ld.qw h hL rfl ?_|refine LdS.qw (fun _ h=>h) hL rfl ?_|refine ⟨h.hb,?_⟩|(refine St.q h hL rfl rfl rfl fun w h=> ?_;dsimp only [spl,over] at h)|refine IfB.yes ?_|refine IfB.no ?_|refine ⟨by first|omega|decide,?_⟩)
    refine ⟨by omega,by omega,?_⟩
    rw [show (((l.length:Int)).toNat*1)=l.length by omega,u8_id (by omega)]
    (try simp only [Join_eq,NilCk_some,add_mk,Nat.zero_add,Nat.add_zero,Nat.reduceAdd,Bool.not_true,Bool.not_false,IfB_t,IfB_f,Option.isNone])
    refine St.g h (by omega) rfl fun w h=> ?_
    rw [tbV_set,pad_set h2] at h
    have hl2:(l++ [now]).length≤258:=by simp;omega
    have hL:=tbV_len (pad_len hl2)
    (with_reducible repeat first|refine Nw.mk h fun b w h=> ?_|refine Drw.mk h fun w h=> ?_|refine Ld.q h hL rfl rfl ?_|refine LdS.q (fun _ h=>h) hL rfl rfl ?_|refine Ld.p h hL ?_|refine LdS.p (fun _ h=>h) hL ?_|refine Ld.qw h hL rfl ?_|refine LdS.qw (fun _ h=>h) hL rfl ?_|refine ⟨h.hb,?_⟩|(refine St.q h hL rfl rfl rfl fun w h=> ?_;dsimp only [spl,over] at h)|refine IfB.yes ?_|refine IfB.no ?_|refine ⟨by first|omega|decide,?_⟩)
    rw [i64_id (by omega),show (l.length:Int)+1=((l++ [now]).length:Int) by simp] at h
    have h:=h.drew (n:=w.drawn+1)
    refine ⟨HoldB b4 _ _ _,h.hb,?_⟩
    dsimp only
    (with_reducible repeat first|refine Nw.mk h fun b w h=> ?_|refine Drw.mk h fun w h=> ?_|refine Ld.q h hL rfl rfl ?_|refine LdS.q (fun _ h=>h) hL rfl rfl ?_|refine Ld.p h hL ?_|refine LdS.p (fun _ h=>h) hL ?_|refine Ld.qw h hL rfl ?_|refine LdS.qw (fun _ h=>h) hL rfl ?_|refine ⟨h.hb,?_⟩|(refine St.q h hL rfl rfl rfl fun w h=> ?_;dsimp only [spl,over] at h)|refine IfB.yes ?_|refine IfB.no ?_|refine ⟨by first|omega|decide,?_⟩)
    by_cases hf:l.length+1<258
    ·rw [if_pos hf] at k1 k2 k3
     refine IfB.dt (by simp;omega) ?_
     refine StA.q h hz (tbA_size (pad_len hl2)) tbA_scalar fun w h=> ?_
     (with_reducible repeat first|refine Nw.mk h fun b w h=> ?_|refine Drw.mk h fun w h=> ?_|refine Ld.q h hL rfl rfl ?_|refine LdS.q (fun _ h=>h) hL rfl rfl ?_|refine Ld.p h hL ?_|refine LdS.p (fun _ h=>h) hL ?_|refine Ld.qw h hL rfl ?_|refine LdS.qw (fun _ h=>h) hL rfl ?_|refine ⟨h.hb,?_⟩|(refine St.q h hL rfl rfl rfl fun w h=> ?_;dsimp only [spl,over] at h)|refine IfB.yes ?_|refine IfB.no ?_|refine ⟨by first|omega|decide,?_⟩)
     exact k1 _ _ rfl h.tl
    ·rw [if_neg hf] at k1 k2 k3
     have hfull:(l++ [now]).length=258:=by simp;omega
     refine IfB.df (by simp;omega) ?_
     (with_reducible repeat first|refine Nw.mk h fun b w h=> ?_|refine Drw.mk h fun w h=> ?_|refine Ld.q h hL rfl rfl ?_|refine LdS.q (fun _ h=>h) hL rfl rfl ?_|refine Ld.p h hL ?_|refine LdS.p (fun _ h=>h) hL ?_|refine Ld.qw h hL rfl ?_|refine LdS.qw (fun _ h=>h) hL rfl ?_|refine ⟨h.hb,?_⟩|(refine St.q h hL rfl rfl rfl fun w h=> ?_;dsimp only [spl,over] at h)|refine IfB.yes ?_|refine IfB.no ?_|refine ⟨by first|omega|decide,?_⟩)
     rw [pad_full hfull] at h⊢
     refine table_c h hfull fun w h=> ?_
     refine ⟨h.hb,?_⟩
     refine StA.q h hz (tbA_size hfull) tbA_scalar fun w h=>⟨h.hb,?_⟩
     refine Ld.xw h (tbA_size hfull) ?_
     by_cases hok:okT (l++ [now])=true
     ·rw [if_pos hok] at k1 k2 k3
      rw [hok]
      have:=k2 _ (now:Int) _ rfl h.tl
      rw [hfull]
      exact this
     ·rw [if_neg hok] at k1 k2 k3
      rw [show okT (l++ [now])=false by simpa using hok]
      exact k3 _ _ rfl (tbA_size hfull) tbA_scalar h.tl
   ·simp only [if_neg hx0] at k1 k2 k3
    (with_reducible repeat first|refine Nw.mk h fun b w h=> ?_|refine Drw.mk h fun w h=> ?_|refine Ld.q h hL rfl rfl ?_|refine LdS.q (fun _ h=>h) hL rfl rfl ?_|refine Ld.p h hL ?_|refine LdS.p (fun _ h=>h) hL ?_|refine Ld.qw h hL rfl ?_|refine LdS.qw (fun _ h=>h) hL rfl ?_|refine ⟨h.hb,?_⟩|(refine St.q h hL rfl rfl rfl fun w h=> ?_;dsimp only [spl,over] at h)|refine IfB.yes ?_|refine IfB.no ?_|refine ⟨by first|omega|decide,?_⟩)
    exact out (K':=fun w x=>K x true w) (pad_len hl) h fun w h=>k1 _ _ rfl h
  ·simp only [if_neg hb] at k1 k2 k3
   have hb5:bits=5:=by omega
   subst hb5
   by_cases hx0:x=0
   ·subst hx0
    simp only [if_true] at k1 k2 k3
    (with_reducible repeat first|refine Nw.mk h fun b w h=> ?_|refine Drw.mk h fun w h=> ?_|refine Ld.q h hL rfl rfl ?_|refine LdS.q (fun _ h=>h) hL rfl rfl ?_|refine Ld.p h hL ?_|refine LdS.p (fun _ h=>h) hL ?_|refine Ld.qw h hL rfl ?_|refine LdS.qw (fun _ h=>h) hL rfl ?_|refine ⟨h.hb,?_⟩|(refine St.q h hL rfl rfl rfl fun w h=> ?_;dsimp only [spl,over] at h)|refine IfB.yes ?_|refine IfB.no ?_|refine ⟨by first|omega|decide,?_⟩)
    by_cases hw:way=2
    ·subst hw
     (with_reducible repeat first|refine Nw.mk h fun b w h=> ?_|refine Drw.mk h fun w h=> ?_|refine Ld.q h hL rfl rfl ?_|refine LdS.q (fun _ h=>h) hL rfl rfl ?_|refine Ld.p h hL ?_|refine LdS.p (fun _ h=>h) hL ?_|refine Ld.qw h hL rfl ?_|refine LdS.qw (fun _ h=>h) hL rfl ?_|refine ⟨h.hb,?_⟩|(refine St.q h hL rfl rfl rfl fun w h=> ?_;dsimp only [spl,over] at h)|refine IfB.yes ?_|refine IfB.no ?_|refine ⟨by first|omega|decide,?_⟩)
     exact out (K':=fun w x=>K x false w) (pad_len hl) h fun w h=>k3 _ _ (by simp) (tbA_size (pad_len hl)) tbA_scalar h
    ·(with_reducible repeat first|refine Nw.mk h fun b w h=> ?_|refine Drw.mk h fun w h=> ?_|refine Ld.q h hL rfl rfl ?_|refine LdS.q (fun _ h=>h) hL rfl rfl ?_|refine Ld.p h hL ?_|refine LdS.p (fun _ h=>h) hL ?_|refine Ld.qw h hL rfl ?_|refine LdS.qw (fun _ h=>h) hL rfl ?_|refine ⟨h.hb,?_⟩|(refine St.q h hL rfl rfl rfl fun w h=> ?_;dsimp only [spl,over] at h)|refine IfB.yes ?_|refine IfB.no ?_|refine ⟨by first|omega|decide,?_⟩)
     refine out (K':=fun w x=>K x (decide ((now:Int)<15)) w) (pad_len hl) h fun w h=> ?_
     have ei:i64 ((now:Int)+1)=(now:Int)+1:=i64_id (by omega)
     try rw [ei]
     try rw [i64_id (x:=(now:Int) - 1) (by omega)]
     by_cases hn:now<15
     ·rw [if_pos ⟨hw,hn⟩] at k1
      exact as1 (K:=fun b w=>K _ b w) (decide_eq_true (by omega)) (k1 _ _ rfl h)
     ·rw [if_neg (fun hh=>hn hh.2)] at k3
      exact as1 (K:=fun b w=>K _ b w) (decide_eq_false (by omega)) (k3 _ _ rfl (tbA_size (pad_len hl)) tbA_scalar h)
   ·have hx1:x=1:=by omega
    subst hx1
    simp only [if_neg hx0] at k1 k2 k3
    (with_reducible repeat first|refine Nw.mk h fun b w h=> ?_|refine Drw.mk h fun w h=> ?_|refine Ld.q h hL rfl rfl ?_|refine LdS.q (fun _ h=>h) hL rfl rfl ?_|refine Ld.p h hL ?_|refine LdS.p (fun _ h=>h) hL ?_|refine Ld.qw h hL rfl ?_|refine LdS.qw (fun _ h=>h) hL rfl ?_|refine ⟨h.hb,?_⟩|(refine St.q h hL rfl rfl rfl fun w h=> ?_;dsimp only [spl,over] at h)|refine IfB.yes ?_|refine IfB.no ?_|refine ⟨by first|omega|decide,?_⟩)
    by_cases hw:way=1
    ·subst hw
     (with_reducible repeat first|refine Nw.mk h fun b w h=> ?_|refine Drw.mk h fun w h=> ?_|refine Ld.q h hL rfl rfl ?_|refine LdS.q (fun _ h=>h) hL rfl rfl ?_|refine Ld.p h hL ?_|refine LdS.p (fun _ h=>h) hL ?_|refine Ld.qw h hL rfl ?_|refine LdS.qw (fun _ h=>h) hL rfl ?_|refine ⟨h.hb,?_⟩|(refine St.q h hL rfl rfl rfl fun w h=> ?_;dsimp only [spl,over] at h)|refine IfB.yes ?_|refine IfB.no ?_|refine ⟨by first|omega|decide,?_⟩)
     exact out (K':=fun w x=>K x false w) (pad_len hl) h fun w h=>k3 _ _ (by simp) (tbA_size (pad_len hl)) tbA_scalar h
    ·(with_reducible repeat first|refine Nw.mk h fun b w h=> ?_|refine Drw.mk h fun w h=> ?_|refine Ld.q h hL rfl rfl ?_|refine LdS.q (fun _ h=>h) hL rfl rfl ?_|refine Ld.p h hL ?_|refine LdS.p (fun _ h=>h) hL ?_|refine Ld.qw h hL rfl ?_|refine LdS.qw (fun _ h=>h) hL rfl ?_|refine ⟨h.hb,?_⟩|(refine St.q h hL rfl rfl rfl fun w h=> ?_;dsimp only [spl,over] at h)|refine IfB.yes ?_|refine IfB.no ?_|refine ⟨by first|omega|decide,?_⟩)
     refine out (K':=fun w x=>K x (decide ((now:Int)>0)) w) (pad_len hl) h fun w h=> ?_
     have ei:i64 ((now:Int)+1)=(now:Int)+1:=i64_id (by omega)
     try rw [ei]
     try rw [i64_id (x:=(now:Int) - 1) (by omega)]
     by_cases hn:0<now
     ·rw [if_pos ⟨hw,hn⟩] at k1
      rw [show (now:Int) - 1=((now - 1:Nat):Int) by omega]
      exact as1 (K:=fun b w=>K _ b w) (decide_eq_true (by omega)) (k1 _ _ rfl h)
     ·rw [if_neg (fun hh=>hn hh.2)] at k3
      exact as1 (K:=fun b w=>K _ b w) (decide_eq_false (by omega)) (k3 _ _ rfl (tbA_size (pad_len hl)) tbA_scalar h)
end
end Go.Proofs.YtcdpblipagajiaaGreat
namespace Go.Inc
theorem run_take {α σ β ε:Type} {f:σ→α→Stp σ β ε} {s s':σ} {l:List α} {k:Nat} (h:run f s (l.take k)= .short s'):run f s l=run f s' (l.drop k):=by
 conv=>lhs;rw [←List.take_append_drop k l]
 exact run_short h _
end Go.Inc
namespace Go.Proofs.YtcdpblipagajiaaGreat
open Go Go.Vc Go.Srt Go.Inc Go.Tab
section
variable {E w:World} {F:List HP}
set_option maxRecDepth 20000
abbrev z258:Array Value:=⟨List.replicate 258 (.int .u8 0)⟩
theorem tread_c {bs:List Nat} {s:Sl} {K:Array Value→Int→Int→World→Prop} (h:Hp E w F) (hs:Tells F (SlT 1 s ((ints bs).map vI))) (hb: ∀x∈bs,x≤1) (hbig:bs.length≤big)
  (hshort: ∀s' w',run (tstep okT) t0 bs= .short s'→Hp E w' F→K z258 0 50 w')
  (hbad: ∀w',run (tstep okT) t0 bs= .bad 100→Hp E w' F→K z258 0 100 w')
  (hfin: ∀l r w',run (tstep okT) t0 bs= .fin l r→Hp E w' F→K (ai .u8 l) ((bs.length - r.length:Nat):Int) 0 w'):
  Cl Tryz.prog [.arr 258,kI,kI] n_lengthtable_Read ⟨[.slice s.base s.len s.cap]⟩ w K:=by
 have hz:(⟨List.replicate 258 (.int .u8 0)++ [.int .i64 0,.int .i64 0,.int .i64 0,.int .i64 0]⟩:Array Value)=tbA (pad t0.l) (t0.l.length:Int) (t0.bits:Int) (t0.now:Int) (t0.way:Int):=by
  rw [zeroTb];rfl
 have hz0:z258.size=258:=by simp
 have hz1:z258.toList.all scalarB=true:=by decide
 refine lengthtable_Read.ok _ _ _ ?_
 unfold lengthtable_Read.E
 (try simp only [Join_eq,NilCk_some,add_mk,Nat.zero_add,Nat.add_zero,Nat.reduceAdd,Bool.not_true,Bool.not_false,IfB_t,IfB_f,Option.isNone])
 have hlen:bs.length=s.len:=by have:=(h.tells hs).1;simpa [ints] using this
 rw [big_eq] at hbig
 refine Nw.mk h fun b3 w h=>Nw.mk h fun b5 w h=> ?_
 rw [hz] at h
 have out: ∀{w:World} {K':Array Value→World→Prop} {l:List HP},Hp E w (l++(Blk b3 (.cells z258 36 (0,0))::F))→(∀w',Hp E w' F→K' z258 w')→
   Ld (.arr 258) ⟨b3,0,none⟩ w fun x22=>StA 258 ⟨b3,0,none⟩ x22 w fun w_23=>Ld (.arr 258) ⟨b3,0,none⟩ w_23 fun res24=>K' res24 w_23:=by
  intro w K' l h hk
  have h:=h.dropL
  refine Ld.xw h hz0 (StA.q h hz0 hz0 hz1 fun w h=>Ld.xw h hz0 (hk _ h.tl))
 refine ⟨fun i w'=> ∃(k:Nat) (t:TS),i=(k:Int)∧k≤bs.length∧TsOk t∧run (tstep okT) t0 (bs.take k)= .short t∧
  Hp E w' (Blk b5 (.cells (tbA (pad t.l) (t.l.length:Int) (t.bits:Int) (t.now:Int) (t.way:Int)) 141 (0,0))::Blk b3 (.cells z258 36 (0,0))::F),
  fun i _=>bs.length - i.toNat,⟨0,t0,rfl,by omega,TsOk.zero,rfl,h⟩,?_⟩
 rintro i w ⟨k,t,rfl,hk,ht,hrun,h⟩
 refine IfB.dm (fun hlt=> ?_) (fun hge=> ?_)
 ·have hlt:k<bs.length:=by omega
  refine Idx.rd (h.tl.tells hs) (by omega) (by omega) fun q hi hq=> ?_
  have hx:=hb _ (List.getElem_mem hlt)
  refine Ld.sc (s:= .int .i64) (bs[k]:Int) (by rw [hq];simp [Sc.enc,vI,ints]) ⟨by decide,?_⟩
  have e1:ishr .i64 (bs[k]:Int) 1=0:=by
   have:bs[k]=0∨bs[k]=1:=by omega
   rcases this with e|e<;>rw [e]<;>rfl
  rw [e1]
  refine IfB.nf rfl ?_
  have htl:(pad t.l).length=258:=pad_len (by
   rcases ht with ⟨_,h,_⟩|⟨_,h,_⟩
   ·rw [h];simp
   ·omega)
  refine Ld.xw h (tbA_size htl) ?_
  refine tnext_c h ht hx ⟨fun t' w he h=> ?_,fun l n w he h=> ?_,fun o w he ho hos h=> ?_⟩
  ·have ht':=tstep_ok ht hx he
   have hl':t'.l.length<258:=by
    rcases ht' with ⟨_,h,_⟩|⟨_,h,_⟩
    ·rw [h];simp
    ·omega
   have hp:=pad_len (Nat.le_of_lt hl')
   refine Nw.mk h fun b20 w h=> ?_
   refine StA.q h (by simp) (tbA_size hp) tbA_scalar fun w h=> ?_
   with_reducible refine IfB.ntt ?_
   refine Ld.xw h (tbA_size hp) ?_
   refine StA.q h (tbA_size htl) (tbA_size hp) tbA_scalar fun w h=> ?_
   have hL:=tbV_len hp
   refine Ld.q h hL rfl rfl ?_
   refine IfB.ef (by omega) ?_
   rw [i64_id (by omega)]
   refine ⟨⟨k+1,t',rfl,by omega,ht',?_,h.no 0⟩,by first|omega|(dsimp only;omega)⟩
   rw [List.take_add_one,List.getElem?_eq_getElem hlt]
   show run (tstep okT) t0 (bs.take k++ [bs[k]])=_
   rw [run_short hrun,run_more he];rfl
  ·have hf:=(tstep_fin ht he).1
   refine Nw.mk h fun b20 w h=> ?_
   refine StA.q h (by simp) (tbA_size hf) tbA_scalar fun w h=> ?_
   with_reducible refine IfB.ntt ?_
   refine Ld.xw h (tbA_size hf) ?_
   refine StA.q h (tbA_size htl) (tbA_size hf) tbA_scalar fun w h=> ?_
   have hL:=tbV_len hf
   refine Ld.q h hL rfl rfl ?_
   refine IfB.et rfl ?_
   refine Ld.p (b:=b5) h hL ?_
   have hls:(⟨tbV l⟩:Array Value).size=258:=by simpa using hf
   refine StA.q h hz0 hls (List.all_eq_true.2 ai_scalar) fun w h=>Ld.xw h hls ?_
   rw [i64_id (by omega)]
   have hr:=hfin l (bs.drop (k+1)) w (by rw [run_take hrun,List.drop_eq_getElem_cons hlt,run_fin he]) h.tl
   rw [List.length_drop,show bs.length - (bs.length - (k+1))=k+1 by omega] at hr
   exact hr
  ·refine Nw.mk h fun b20 w h=> ?_
   refine StA.q h (by simp) ho hos fun w h=> ?_
   with_reducible refine IfB.nff ?_
   refine out (l:= [_,_]) h fun w h=>hbad w ?_ h
   rw [run_take hrun,List.drop_eq_getElem_cons hlt,run_bad he]
 ·have hk2:k=bs.length:=by omega
  subst hk2
  rw [List.take_of_length_le (Nat.le_refl _)] at hrun
  exact out (l:= [_]) h fun w h=>hshort t w hrun h
end
end Go.Proofs.YtcdpblipagajiaaGreat
namespace Go.Blk
open Go.Inc Go.Srt Go.Sym Go.Bits Go.Tab Go.Hd Go.Crc Go.Bw Go.Proofs.YtcdpblipagajiaaGreat
theorem mrun_fin {n M P u:Nat} {r:List Nat}: ∀(b:List Nat) (s:MS),MsOk n s→(∀c∈b,c<256)→run (mstep n) s b= .fin (.blk M P u) r→1≤M∧M≤n∧1≤P∧P≤M
 | [],s,_,_,h=>by cases h
 |c::b,s,hs,hb,h=>by
  rw [run_cons] at h
  cases hc:mstep n s c with
  |more s'=>
   rw [hc] at h
   exact mrun_fin b s' (mstep_ok hs (hb c (by simp)) hc) (fun y hy=>hb y (by simp [hy])) h
  |fin m=>
   rw [hc] at h
   cases h
   exact mstep_fin hs hc
  |bad e=>rw [hc] at h;cases h
theorem run_suffix {α σ β ε:Type} {f:σ→α→Stp σ β ε} {r:List α} {x:β}: ∀(b:List α) (s:σ),run f s b= .fin x r→∃a,b=a++r
 | [],s,h=>by cases h
 |c::b,s,h=>by
  rw [run_cons] at h
  cases hc:f s c with
  |more s'=>
   rw [hc] at h
   obtain ⟨a,e⟩:=run_suffix b s' h
   exact ⟨c::a,by rw [e];rfl⟩
  |fin m=>
   rw [hc] at h
   cases h
   exact ⟨[c],rfl⟩
  |bad e=>rw [hc] at h;cases h
theorem trun_fin {l r:List Nat}: ∀(b:List Nat) (t:TS),TsOk t→(∀c∈b,c≤1)→run (tstep okT) t b= .fin l r→l.length=258∧okT l=true
 | [],s,_,_,h=>by cases h
 |c::b,s,hs,hb,h=>by
  rw [run_cons] at h
  cases hc:tstep okT s c with
  |more s'=>
   rw [hc] at h
   exact trun_fin b s' (tstep_ok hs (hb c (by simp)) hc) (fun y hy=>hb y (by simp [hy])) h
  |fin m=>
   rw [hc] at h
   cases h
   exact tstep_fin hs hc
  |bad e=>rw [hc] at h;cases h
theorem padOk_mem {left:List Nat} (hb: ∀x∈left,x≤1):padOk left= !decide (1∈left.take (left.length % 8)):=by
 unfold padOk
 rw [Bool.eq_iff_iff]
 simp only [List.all_eq_true,beq_iff_eq,Bool.not_eq_true',decide_eq_false_iff_not]
 constructor
 ·intro h hm
  have:=h 1 hm
  omega
 ·intro h x hx
  have:=hb x (List.mem_of_mem_take hx)
  have:x≠1:=fun e=>h (e▸hx)
  omega
end Go.Blk
namespace Go.Proofs.YtcdpblipagajiaaGreat
open Go Go.Vc Go.Srt Go.Inc Go.Sym Go.Tab Go.Hd Go.Bw Go.Bits Go.Blk Go.Crc
section
variable {E w:World} {F:List HP}
set_option maxRecDepth 20000
theorem unpack_c {n:Int} {s:Sl} {b:List Nat} {K:Sl→Sl→Int→World→Prop} (h:Hp E w F) (hs:Tells F (SlT 1 s (b.map vB))) (hb: ∀y∈b,y<256) (hbig:b.length≤10000000) (hcap:s.len≤s.cap)
  (harg: ¬(1≤n∧n≤65536)→∀w',Hp E w' F→K ⟨none,0,0⟩ ⟨none,0,0⟩ 2 w')
  (herr:1≤n→n≤65536→∀e w',unpackB n.toNat b= .error e→e≠0→Hp E w' F→K ⟨none,0,0⟩ ⟨none,0,0⟩ (e:Int) w')
  (hok:1≤n→n≤65536→∀x r s1 s2 w',unpackB n.toNat b= .ok (x,r)→(∀y∈x,y<256)→(∀y∈r,y<256)→x.length≤65536→Hp E w' (OwnS 1 s1 (x.map vB)::OwnS 1 s2 (r.map vB)::F)→K s1 s2 0 w'):
  Cl Tryz.prog [kS,kS,kI] n_block_Unpack ⟨[.int .i64 n,.slice s.base s.len s.cap]⟩ w K:=by
 refine block_Unpack.ok _ _ _ _ ?_
 unfold block_Unpack.E
 (try simp only [Join_eq,NilCk_some,add_mk,Nat.zero_add,Nat.add_zero,Nat.reduceAdd,Bool.not_true,Bool.not_false,IfB_t,IfB_f,Option.isNone])
 by_cases hn: ¬(1≤n∧n≤65536)
 ·refine htmarkBad_c h hn fun w h=> ?_
  (with_reducible repeat first|refine Nw.mk h fun b w h=> ?_|refine Drw.mk h fun w h=> ?_|refine Ld.xb h rfl ?_|refine Ld.xt h rfl ?_|refine LdS.xb (fun _ h=>h) rfl ?_|refine LdS.xt (fun _ h=>h) rfl ?_|refine ⟨h.hb,?_⟩|refine StC.xw h rfl rfl fun w h=> ?_|(refine StC.xs h rfl rfl fun w h=> ?_;dsimp only [spl,over] at h)|(refine St.xs h rfl rfl fun w h=> ?_;dsimp only [spl,over] at h)|refine IfB.yes ?_|refine IfB.no ?_|refine ⟨by first|omega|decide,?_⟩)
  exact harg hn w h.tl
 have hn:1≤n∧n≤65536:=Decidable.not_not.1 hn
 obtain ⟨m,rfl⟩: ∃m:Nat,n=(m:Int):=⟨n.toNat,by omega⟩
 have herr:=herr hn.1 hn.2
 have hok:=hok hn.1 hn.2
 rw [Int.toNat_natCast] at herr hok
 unfold unpackB at herr hok
 refine htmark_c h (by omega) (by omega) hs hb (by rw [big_eq];omega) hcap (fun s' w hr h=> ?_) (fun w hr h=> ?_) (fun M P u r s5 w hr h=> ?_) (fun u r s5 w hr h=> ?_)
 ·rw [hr] at herr
  (with_reducible repeat first|refine Nw.mk h fun b w h=> ?_|refine Drw.mk h fun w h=> ?_|refine Ld.xb h rfl ?_|refine Ld.xt h rfl ?_|refine LdS.xb (fun _ h=>h) rfl ?_|refine LdS.xt (fun _ h=>h) rfl ?_|refine ⟨h.hb,?_⟩|refine StC.xw h rfl rfl fun w h=> ?_|(refine StC.xs h rfl rfl fun w h=> ?_;dsimp only [spl,over] at h)|(refine St.xs h rfl rfl fun w h=> ?_;dsimp only [spl,over] at h)|refine IfB.yes ?_|refine IfB.no ?_|refine ⟨by first|omega|decide,?_⟩)
  exact herr 50 w rfl (by decide) h.tl
 ·rw [hr] at herr
  (with_reducible repeat first|refine Nw.mk h fun b w h=> ?_|refine Drw.mk h fun w h=> ?_|refine Ld.xb h rfl ?_|refine Ld.xt h rfl ?_|refine LdS.xb (fun _ h=>h) rfl ?_|refine LdS.xt (fun _ h=>h) rfl ?_|refine ⟨h.hb,?_⟩|refine StC.xw h rfl rfl fun w h=> ?_|(refine StC.xs h rfl rfl fun w h=> ?_;dsimp only [spl,over] at h)|(refine St.xs h rfl rfl fun w h=> ?_;dsimp only [spl,over] at h)|refine IfB.yes ?_|refine IfB.no ?_|refine ⟨by first|omega|decide,?_⟩)
  exact herr 242 w rfl (by decide) h.tl
 ·rw [hr] at herr hok
  dsimp only at herr hok
  have hM:=mrun_fin b ms0 (.inl ⟨rfl,rfl⟩) hb hr
  obtain ⟨a,hsuf⟩:=run_suffix b ms0 hr
  have hrb: ∀y∈r,y<256:=fun y hy=>hb y (by rw [hsuf];exact List.mem_append.2 (.inr hy))
  have hrl:r.length≤b.length:=by rw [hsuf,List.length_append];omega
  have hl5:=h.ownLen
  have hc5:=h.ownCap
  rw [List.length_map,Nat.mul_one] at hl5
  (with_reducible repeat first|refine Nw.mk h fun b w h=> ?_|refine Drw.mk h fun w h=> ?_|refine Ld.xb h rfl ?_|refine Ld.xt h rfl ?_|refine LdS.xb (fun _ h=>h) rfl ?_|refine LdS.xt (fun _ h=>h) rfl ?_|refine ⟨h.hb,?_⟩|refine StC.xw h rfl rfl fun w h=> ?_|(refine StC.xs h rfl rfl fun w h=> ?_;dsimp only [spl,over] at h)|(refine St.xs h rfl rfl fun w h=> ?_;dsimp only [spl,over] at h)|refine IfB.yes ?_|refine IfB.no ?_|refine ⟨by first|omega|decide,?_⟩)
  refine bwof_c h (Tells.at 1 Tells.own) hrb (by omega) fun s12 w h=> ?_
  have hal:=allBits_len r
  have hab: ∀x∈allBits r,x≤1:=fun x hx=>by have:=bitsOf_bits r (8*r.length) x hx;omega
  have hl12:=h.ownLen
  have hc12:=h.ownCap
  simp only [ints,List.length_map,Nat.mul_one] at hl12
  unfold colB at herr hok
  refine tread_c h Tells.own hab (by rw [big_eq];omega) (fun t w hq h=> ?_) (fun w hq h=> ?_) (fun l more w hq h=> ?_)
  ·rw [hq] at herr
   refine Nw.mk h fun b18 w h=>StA.q h (by simp) (by simp) (by decide) fun w h=>IfB.nt (by decide) (herr 50 w rfl (by decide) h.tl)
  ·rw [hq] at herr
   refine Nw.mk h fun b18 w h=>StA.q h (by simp) (by simp) (by decide) fun w h=>IfB.nt (by decide) (herr 100 w rfl (by decide) h.tl)
  ·rw [hq] at herr hok
   dsimp only at herr hok
   obtain ⟨hl,hokT⟩:=trun_fin _ t0 TsOk.zero hab hq
   obtain ⟨a2,hsuf2⟩:=run_suffix _ t0 hq
   have hls:(ai .u8 l).size=258:=by rw [ai_size,hl]
   have hlc:(ai .u8 l).toList.all scalarB=true:=List.all_eq_true.2 ai_scalar
   have hmore:more=(allBits r).drop ((allBits r).length - more.length):=by
    conv=>rhs;rw [hsuf2]
    rw [List.length_append,show a2.length+more.length - more.length=a2.length by omega,List.drop_left]
   have hml:more.length≤(allBits r).length:=by rw [hsuf2,List.length_append];omega
   refine Nw.mk h fun b18 w h=>StA.q h (by simp) hls hlc fun w h=>IfB.nf rfl (Drw.mk h fun w h=> ?_)
   refine Ld.xb (x:=(M:Int)) h rfl (Ld.xw h hls ?_)
   have e12: ∀k:Nat,(((ints (allBits r)).map vI).drop k)=(ints ((allBits r).drop k)).map vI:=fun k=>by simp [ints]
   refine Slc.rd ((h.at 1).tells Tells.own) (by omega) (by omega) (by omega) (by omega) (by omega) fun s32 hs32 hl32=> ?_
   simp only [Int.toNat_natCast] at hs32 hl32
   rw [e12,←hmore,List.take_of_length_le (by simp [ints];omega)] at hs32
   have hmb: ∀x∈more,x≤1:=fun x hx=>hab x (by rw [hsuf2];exact List.mem_append.2 (.inr hx))
   refine bcolumn_c h hl hokT (by omega) (by omega) ((Tells.at 1 Tells.own).imp fun w hw=>hs32 w hw) hmb (by rw [big_eq];omega) (fun t w hq2 h=> ?_) (fun w hq2 h=> ?_) (fun last left s34 w hq2 hlb hll h=> ?_)
   ·rw [hq2] at herr
    exact IfB.nt (by decide) (herr 50 w rfl (by decide) h.tl)
   ·rw [hq2] at herr
    exact IfB.nt (by decide) (herr 160 w rfl (by decide) h.tl)
   ·rw [hq2] at herr hok
    dsimp only at herr hok
    obtain ⟨a3,hsuf3⟩:=run_suffix _ _ hq2
    have hleft:left=(allBits r).drop ((allBits r).length - left.length):=by
     conv=>rhs;rw [hsuf2,hsuf3]
     rw [←List.append_assoc,List.length_append,show (a2++a3).length+left.length - left.length=(a2++a3).length by omega,List.drop_left]
    have hll2:left.length≤more.length:=by rw [hsuf3,List.length_append];omega
    have hlb1: ∀x∈left,x≤1:=fun x hx=>hmb x (by rw [hsuf3];exact List.mem_append.2 (.inr hx))
    have hpad:=padOk_mem hlb1
    obtain ⟨p,hp⟩: ∃p,p=(allBits r).length - left.length:=⟨_,rfl⟩
    have e1:(((allBits r).length - more.length:Nat):Int)+((more.length - left.length:Nat):Int)=(p:Int):=by omega
    have hmx:IntKind.max .i64=9223372036854775807:=rfl
    have e2:ishr .i64 ((p:Int)+7) 3=(((p+7)/8:Nat):Int):=by
     rw [show (p:Int)+7=((p+7:Nat):Int) by omega,show (3:Int)=((3:Nat):Int) from rfl,ishr_nat (by decide)]
    have e3:ishl .i64 (((p+7)/8:Nat):Int) 3=((8*((p+7)/8):Nat):Int):=by
     have:=ishl_nat (k:= .i64) (a:=(p+7)/8) (b:=3) (by decide) (by rw [hmx];omega)
     rw [show (3:Int)=((3:Nat):Int) from rfl,this]
     congr 1;omega
    rw [e1,i64_id (x:=(p:Int)) (by omega),i64_id (x:=(p:Int)+7) (by omega),e2,e3]
    refine IfB.nf rfl ⟨by decide,by decide,?_⟩
    refine Slc.rd ((h.at 2).tells Tells.own) (by omega) (by omega) (by omega) (by omega) (by omega) fun s37 hs37 hl37=> ?_
    simp only [Int.toNat_natCast] at hs37 hl37
    rw [e12,hp,←hleft,←hp,show 8*((p+7)/8) - p=left.length % 8 by omega] at hs37
    rw [show (((ints left).map vI).take (left.length % 8))=(ints (left.take (left.length % 8))).map vI by simp [ints]] at hs37
    refine index1_c h ((Tells.at 2 Tells.own).imp fun w hw=>hs37 w hw) (by rw [List.length_take,big_eq];omega) fun w h=> ?_
    by_cases hpo:1∈left.take (left.length % 8)
    ·rw [hpad,decide_eq_true hpo] at herr
     rw [decide_eq_true hpo]
     exact IfB.t rfl (herr 160 w rfl (by decide) h.tl)
    ·rw [hpad,decide_eq_false hpo] at herr hok
     rw [decide_eq_false hpo]
     refine IfB.f rfl (Ld.xb (x:=(P:Int)) h rfl ?_)
     unfold textOf at herr hok
     simp only [Bool.not_false,if_true] at herr hok
     refine bwBack_c h Tells.own hlb (by omega) (fun ho s42 w h=> ?_) (fun ho w h=> ?_)
     ·have ho:okB last P:=by simpa [okI] using ho
      rw [if_pos ho] at herr hok
      refine IfB.nf rfl ?_
      have htl:=textB_len last P
      have htb: ∀y∈textB last P,y<256:=fun y hy=>by
       unfold textB at hy
       simp only [List.mem_reverse,List.mem_map,List.mem_range] at hy
       obtain ⟨k,_,rfl⟩:=hy
       rw [List.getD_eq_getElem?_getD]
       cases hg:last[atB P (wk last P k)]? with
       |none=>decide
       |some z=>exact hlb z (List.mem_of_getElem? hg)
      refine turned_c' h Tells.own (by rw [Int.toNat_natCast,htl,big_eq];omega) fun s45 w h=> ?_
      rw [Int.toNat_natCast] at h
      have hl45:=h.ownLen
      rw [List.length_map,Nat.mul_one,List.length_reverse] at hl45
      have h:=h.drew (n:=w.drawn+1)
      refine ⟨HoldB b _ _ _,h.hb,?_⟩
      refine LdS.xb (x:=(u:Int)) (fun _ h=>h) rfl (Nw.mk h fun b58 w h=>⟨h.hb,?_⟩)
      refine cof_c (s:=⟨some ⟨b58,0,none⟩,1,1⟩) (cs:= [s45]) (bs:= [(textB last P).reverse]) h (Tells.blk rfl rfl) rfl (by rw [big_eq];simp) (fun i hi=> ?_) (fun z hz y hy=> ?_) (fun z hz=> ?_) fun w h=>⟨h.hb,?_⟩
      ·match i,hi with
       |0,_=>exact Tells.cons Tells.own
      ·rw [List.mem_singleton] at hz
       rw [hz] at hy
       exact htb y (List.mem_reverse.1 hy)
      ·rw [List.mem_singleton] at hz
       rw [hz,List.length_reverse,htl,big_eq];omega
      rw [show [(textB last P).reverse].flatten=(textB last P).reverse by simp]
      by_cases hc:crc (textB last P).reverse=u
      ·rw [if_pos hc] at hok
       refine IfB.nf (by omega) ?_
       have hrd:(r.map vB).drop ((p+7)/8)=(r.drop ((p+7)/8)).map vB:=by rw [List.map_drop]
       refine Slc.rd ((h.at 7).tells Tells.own) (by omega) (by omega) (by omega) (by omega) (by omega) fun s61 hs61 hl61=> ?_
       simp only [Int.toNat_natCast] at hs61 hl61
       rw [hrd,List.take_of_length_le (by simp;omega)] at hs61
       refine clone_c h ((Tells.at 7 Tells.own).imp fun w hw=>hs61 w hw) (by rw [List.length_drop,big_eq];omega) fun s63 w h=> ?_
       have e9:r.length - left.length/8=(p+7)/8:=by omega
       refine hok (textB last P).reverse (r.drop ((p+7)/8)) s45 s63 w (by rw [e9]) (fun y hy=>htb y (List.mem_reverse.1 hy)) (fun y hy=>hrb y (List.mem_of_mem_drop hy)) (by rw [List.length_reverse,htl];omega) ?_
       exact ((h.no 1).p1).keep2
      ·rw [if_neg hc] at herr
       exact IfB.nt (by omega) (herr 250 w rfl (by decide) h.tl)
     ·have ho: ¬okB last P:=by simpa [okI] using ho
      rw [if_neg ho] at herr
      exact IfB.nt (by decide) (herr 170 w rfl (by decide) h.tl)
 ·rw [hr] at herr
  (with_reducible repeat first|refine Nw.mk h fun b w h=> ?_|refine Drw.mk h fun w h=> ?_|refine Ld.xb h rfl ?_|refine Ld.xt h rfl ?_|refine LdS.xb (fun _ h=>h) rfl ?_|refine LdS.xt (fun _ h=>h) rfl ?_|refine ⟨h.hb,?_⟩|refine StC.xw h rfl rfl fun w h=> ?_|(refine StC.xs h rfl rfl fun w h=> ?_;dsimp only [spl,over] at h)|(refine St.xs h rfl rfl fun w h=> ?_;dsimp only [spl,over] at h)|refine IfB.yes ?_|refine IfB.no ?_|refine ⟨by first|omega|decide,?_⟩)
  exact herr 242 w rfl (by decide) h.tl
end
end Go.Proofs.YtcdpblipagajiaaGreat
set_option maxRecDepth 20000
namespace Go.Bw
open Go Go.Vc Go.Rk
theorem last_nil:lastB []= []:=List.length_eq_zero_iff.1 (lastB_len [])
end Go.Bw
namespace Go.Proofs.YtcdpblipagajiaaGreat
open Go Go.Vc
section
variable {w:World}
set_option maxRecDepth 200000 in
theorem str_c {s:Sl} {b:List Nat} {K:ByteArray→World→Prop} (hs:SlT 1 s (b.map vB) w) (hK:K (strOf b) w):Run Tryz.prog (convert 22 9 (.slice s.base s.len s.cap)) kStr w K:=
 run_toStr (s:=s) (b:=b) (e:=5) (by kernel_rfl) (by kernel_rfl) (by kernel_rfl) hs hK
end
end Go.Proofs.YtcdpblipagajiaaGreat
set_option maxRecDepth 20000
namespace Go.Proofs.YtcdpblipagajiaaGreat
open Go Go.Vc
section
variable {E w:World} {F:List HP} {K:Sl→World→Prop} {s s2:Sl} {b x:Nat} {t:TypeId}
abbrev OI (s:Sl) (xs:List Nat):HP:=OwnS 1 s ((ints xs).map vI)
abbrev OB (s:Sl) (xs:List Nat):HP:=OwnS 1 s (xs.map vB)
abbrev blkI (b x:Nat) (t:TypeId):HP:=Blk b (.cells ⟨[.int .i64 (x:Int)]⟩ t (0,0))
abbrev blkB (b x:Nat) (t:TypeId):HP:=Blk b (.cells ⟨[.int .u8 (x:Int)]⟩ t (0,0))
theorem OI.len {xs:List Nat} (h:Hp E w (OI s xs::F)):xs.length=s.len:=by have:=h.ownLen;simpa [ints] using this
theorem OB.len {xs:List Nat} (h:Hp E w (OB s xs::F)):xs.length=s.len:=by have:=h.ownLen;simpa using this
theorem sc1I: ∀y∈ [vI (x:Int)],scalarB y=true:=by intro y hy;rw [List.mem_singleton] at hy;rw [hy];rfl
theorem sc1B: ∀y∈ [vB x],scalarB y=true:=by intro y hy;rw [List.mem_singleton] at hy;rw [hy];rfl
theorem intsV_app (xs ys:List Nat):(ints (xs++ys)).map vI=(ints xs).map vI++(ints ys).map vI:=by simp [ints]
theorem slLenI {xs:List Nat} (h:SlT 1 s ((ints xs).map vI) w):xs.length=s.len:=by have:=h.1;simpa [ints] using this
theorem slLenB {xs:List Nat} (h:SlT 1 s (xs.map vB) w):xs.length=s.len:=by have:=h.1;simpa using this
theorem put1I {xs:List Nat} (h:Hp E w (blkI b x t::OI s xs::F)) (hl:xs.length≤10000000000) (hK: ∀s' w',Hp E w' (OI s' (xs++ [x])::F)→K s' w'):
  Run Tryz.prog (Builtin.append_ #[33,33] 33 ⟨[.slice s.base s.len s.cap,.slice (some ⟨b,0,none⟩) 1 1]⟩) kS w K:=by
 have hol:=OI.len (h.at 1)
 refine run_append (ys:= [vI (x:Int)]) (n:=1) ty_ints (by decide) (.inl ⟨3,by kernel_rfl⟩) (h.at 1) (.inl ⟨some ⟨b,0,none⟩,1,1,rfl,rfl,h.tells (Tells.blk rfl rfl)⟩) rfl sc1I (by omega) (by omega) fun s' w' h _=>hK s' w' ?_
 unfold OI
 rw [intsV_app]
 exact h.keep1
theorem put1B {xs:List Nat} (h:Hp E w (blkB b x t::OB s xs::F)) (hl:xs.length≤10000000000) (hK: ∀s' w',Hp E w' (OB s' (xs++ [x])::F)→K s' w'):
  Run Tryz.prog (Builtin.append_ #[22,22] 22 ⟨[.slice s.base s.len s.cap,.slice (some ⟨b,0,none⟩) 1 1]⟩) kS w K:=by
 have hol:=OB.len (h.at 1)
 refine run_append (ys:= [vB x]) (n:=1) ty_b (by decide) (.inl ⟨5,by kernel_rfl⟩) (h.at 1) (.inl ⟨some ⟨b,0,none⟩,1,1,rfl,rfl,h.tells (Tells.blk rfl rfl)⟩) rfl sc1B (by omega) (by omega) fun s' w' h _=>hK s' w' ?_
 unfold OB
 rw [List.map_append]
 exact h.keep1
theorem pre1B {xs:List Nat} (h:Hp E w (blkB b x t::OB s xs::F)) (hl:xs.length≤10000000000) (hK: ∀s' w',Hp E w' (OB s' (x::xs)::F)→K s' w'):
  Run Tryz.prog (Builtin.append_ #[22,22] 22 ⟨[.slice (some ⟨b,0,none⟩) 1 1,.slice s.base s.len s.cap]⟩) kS w K:=by
 have hol:=OB.len (h.at 1)
 have h2:=Hp.ownNew (n:=1) (sz:=1) h rfl
 refine run_append (s:=⟨some ⟨b,0,none⟩,1,1⟩) (xs:= [vB x]) (ys:=xs.map vB) (n:=s.len) ty_b (by decide) (.inl ⟨5,by kernel_rfl⟩) h2 (.inl ⟨s.base,s.len,s.cap,rfl,rfl,(h2.at 1).tells Tells.own⟩) (by simp [hol]) vB_scalar (by dsimp only;omega) (by dsimp only;omega) fun s' w' h _=>hK s' w' ?_
 exact h.keep1
theorem catI {xs ys:List Nat} (h:Hp E w (OI s xs::F)) (h2:Tells F (SlT 1 s2 ((ints ys).map vI))) (hl:xs.length≤10000000000) (hl2:ys.length≤10000000000) (hK: ∀s' w',Hp E w' (OI s' (xs++ys)::F)→K s' w'):
  Run Tryz.prog (Builtin.append_ #[33,33] 33 ⟨[.slice s.base s.len s.cap,.slice s2.base s2.len s2.cap]⟩) kS w K:=by
 have hol:=OI.len h
 have hol2:=slLenI (h.drop.tells h2)
 refine run_append (ys:=(ints ys).map vI) (n:=s2.len) ty_ints (by decide) (.inl ⟨3,by kernel_rfl⟩) h (.inl ⟨s2.base,s2.len,s2.cap,rfl,rfl,h.drop.tells h2⟩) (by simp [ints,hol2]) vI_scalar (by omega) (by omega) fun s' w' h _=>hK s' w' ?_
 unfold OI
 rw [intsV_app]
 exact h
theorem catB {xs ys:List Nat} (h:Hp E w (OB s xs::F)) (h2:Tells F (SlT 1 s2 (ys.map vB))) (hl:xs.length≤1000000000000) (hl2:ys.length≤1000000000000) (hK: ∀s' w',Hp E w' (OB s' (xs++ys)::F)→K s' w'):
  Run Tryz.prog (Builtin.append_ #[22,22] 22 ⟨[.slice s.base s.len s.cap,.slice s2.base s2.len s2.cap]⟩) kS w K:=by
 have hol:=OB.len h
 have hol2:=slLenB (h.drop.tells h2)
 refine run_append (ys:=ys.map vB) (n:=s2.len) ty_b (by decide) (.inl ⟨5,by kernel_rfl⟩) h (.inl ⟨s2.base,s2.len,s2.cap,rfl,rfl,h.drop.tells h2⟩) (by simp [hol2]) vB_scalar (by omega) (by omega) fun s' w' h _=>hK s' w' ?_
 unfold OB
 rw [List.map_append]
 exact h
theorem Idx.rI {xs:List Nat} {i:Int} {j:Nat} {K:Int→Prop} (hs:SlT 1 s ((ints xs).map vI) w) (hi:i=(j:Int)) (hj:j<xs.length) (hK:K (xs[j]:Int)):Idx s i 1 fun q=>Ld kI q w K:=by
 subst hi
 have hl:=slLenI hs
 refine Idx.rd hs (by omega) (by omega) fun q _ hq=>Ld.sc (s:= .int .i64) (xs[j]:Int) (by rw [hq];simp [Sc.enc,vI,ints]) hK
end
end Go.Proofs.YtcdpblipagajiaaGreat
set_option maxRecDepth 20000
namespace Go.Proofs.YtcdpblipagajiaaGreat
open Go Go.Vc Go.Srt
section
variable {E w:World} {F:List HP}
set_option maxRecDepth 20000 in
theorem rsum_c {l:List Nat} {K:Int→World→Prop} (h:Hp E w F) (hl:l.length=258) (hK: ∀(r:Nat) w',(r≤32768↔ksum l≤32768)→(ksum l≤32768→r=ksum l)→Hp E w' F→K (r:Int) w'):
  Cl Tryz.prog [kI] n_ref07_Sum ⟨[.agg (ai .u8 l)]⟩ w K:=by
 refine ref07_Sum.ok _ _ _ ?_
 unfold ref07_Sum.E
 refine Nw.mk h fun b w1 h1=> ?_
 have hb:=ksum_le l
 refine ⟨fun sm i w'=> ∃k:Nat,i=(k:Int)∧k≤258∧sm=(ksum (l.take k):Int)∧Hp E w' (Blk b (.cells (ai .u8 l) 36 (0,0))::F),fun _ i _=>258 - i.toNat,⟨0,rfl,by omega,by simp [ksum],h1⟩,?_⟩
 intro sm i w' hI
 obtain ⟨k,hi,hk,hs,hh⟩:=hI
 subst hi;subst hs
 refine IfB.mk (fun hlt=> ?_) (fun hge=> ?_)
 ·have hlt:k<258:=by have:=of_decide_eq_true hlt;omega
  have hkl:k<l.length:=by omega
  have hx:(ai .u8 l)[((k:Int)).toNat]? =some (Sc.enc (.int .u8) (l[k]:Int)):=by rw [Int.toNat_natCast];exact ai_get hkl
  have e:=ksum_succ hkl
  have ht:=ksum_take (l:=l) (k:=k+1)
  refine IdxP.rd (s:= .int .u8) hh (by omega) (by omega) (l[k]:Int) hx (IfB.mk (fun h15=> ?_) (fun h15=> ?_))
  ·have h15:=of_decide_eq_true h15
   have hw:wt l[k]=32769:=by unfold wt;rw [if_neg (by omega),if_pos (by omega)]
   exact hK 32769 w' (by omega) (by omega) hh.drop
  ·have h15:l[k]≤15:=by have:=of_decide_eq_false h15;omega
   refine IdxP.rd (s:= .int .u8) hh (by omega) (by omega) (l[k]:Int) hx (IfB.mk (fun hp=> ?_) (fun hp=> ?_))
   ·have hp:0<l[k]:=by have:=of_decide_eq_true hp;omega
    have hw:wt l[k]=2^(15 - l[k]):=by unfold wt;rw [if_neg (by omega),if_neg (by omega)]
    have hp15:2^(15 - l[k])≤2^15:=Nat.pow_le_pow_right (by decide) (by omega)
    refine IdxP.rd (s:= .int .u8) hh (by omega) (by omega) (l[k]:Int) hx ?_
    have e1:u64 (i64 (15 - i64 (l[k]:Int)))=((15 - l[k]:Nat):Int):=by
     rw [i64_id (x:=(l[k]:Int)) (by omega),i64_id (by omega),u64_id (by omega)];omega
    have hmx:IntKind.max .i64=9223372036854775807:=rfl
    have e2:=ishl_nat (k:= .i64) (a:=1) (b:=15 - l[k]) (by have:IntKind.bits .i64=64:=rfl;omega) (by rw [hmx];omega)
    rw [e1]
    rw [show (1:Int)=((1:Nat):Int) from rfl,e2,Nat.one_mul]
    refine ⟨by omega,?_⟩
    rw [hw] at e
    rw [i64_id (x:=(ksum (l.take k):Int)+((2^(15 - l[k]):Nat):Int)) (by omega),i64_id (by omega)]
    exact ⟨⟨k+1,rfl,by omega,by rw [e];rfl,hh⟩,by dsimp only;omega⟩
   ·have hp:l[k]=0:=by have:=of_decide_eq_false hp;omega
    have hw:wt l[k]=0:=by unfold wt;rw [if_pos hp]
    rw [i64_id (by omega)]
    exact ⟨⟨k+1,rfl,by omega,by rw [e,hw];rfl,hh⟩,by dsimp only;omega⟩
 ·have hge:k=258:=by have:=of_decide_eq_false hge;omega
  subst hge
  rw [←hl,List.take_length]
  exact hK _ _ Iff.rfl (fun _=>rfl) hh.drop
theorem ints_c {s s2:Sl} {a b:List Int} {K:Bool→World→Prop} (h:Hp E w F) (ha:Tells F (SlT 1 s (a.map vI))) (hb:Tells F (SlT 1 s2 (b.map vI))) (hbig:a.length≤big) (hK: ∀w',Hp E w' F→K (a==b) w'):
  Cl Tryz.prog [kB] n_ref07_Ints ⟨[.slice s.base s.len s.cap,.slice s2.base s2.len s2.cap]⟩ w K:=by
 refine ref07_Ints.ok _ _ _ _ ?_
 unfold ref07_Ints.E
 have la:=(h.tells ha).1
 have lb:=(h.tells hb).1
 simp only [List.length_map,Nat.mul_one] at la lb
 rw [big_eq] at hbig
 refine IfB.mk (fun hne=> ?_) (fun heq=> ?_)
 ·have hne: ¬(s.len:Int)=(s2.len:Int):=by simpa using hne
  have:(a==b)=false:=by
   rw [beq_eq_false_iff_ne];rintro rfl;omega
  have hk:=hK w h
  rw [this] at hk;exact hk
 ·have heq:(s.len:Int)=(s2.len:Int):=by simpa using heq
  refine ⟨fun i w'=> ∃k:Nat,i=(k:Int)∧k≤a.length∧a.take k=b.take k∧Hp E w' F,fun i _=>a.length - i.toNat,⟨0,rfl,by omega,by simp,h⟩,?_⟩
  rintro i w' ⟨k,rfl,hk,hab,hh⟩
  refine IfB.mk (fun hlt=> ?_) (fun hge=> ?_)
  ·have hlt:k<a.length:=by have:=of_decide_eq_true hlt;omega
   have hltb:k<b.length:=by omega
   refine Drw.mk hh fun w1 h1=> ?_
   refine Idx.rd (h1.tells ha) (by omega) (by omega) fun q hq hc=> ?_
   refine Ld.sc (s:= .int .i64) a[k] (by rw [hc];simp [vI]) ?_
   refine Idx.rd (h1.tells hb) (by omega) (by omega) fun q2 hq2 hc2=> ?_
   refine Ld.sc (s:= .int .i64) b[k] (by rw [hc2];simp [vI]) ?_
   refine IfB.mk (fun hne=> ?_) (fun hee=> ?_)
   ·have hne: ¬a[k]=b[k]:=by simpa using hne
    have:(a==b)=false:=by
     rw [beq_eq_false_iff_ne];rintro rfl;exact hne rfl
    have hk:=hK w1 h1
    rw [this] at hk;exact hk
   ·have hee:a[k]=b[k]:=by simpa using hee
    rw [i64_id (by omega)]
    refine ⟨⟨k+1,rfl,by omega,?_,h1⟩,by dsimp only;omega⟩
    rw [List.take_add_one,List.take_add_one,hab,List.getElem?_eq_getElem hlt,List.getElem?_eq_getElem hltb,hee]
  ·have hge:k=a.length:=by have:=of_decide_eq_false hge;omega
   subst hge
   rw [List.take_length,List.take_of_length_le (by omega)] at hab
   have hk:=hK w' hh
   rw [hab] at hk
   simpa using hk
end
end Go.Proofs.YtcdpblipagajiaaGreat
namespace Go.Vc
open Go
theorem Slc.rdc {w:World} {s:Sl} {xs:List Value} {lo hi mx:Int} {K:Sl→Prop} (hs:SlT 1 s xs w) (h0:0≤lo) (h1:lo≤hi) (h2:hi≤(s.len:Int)) (h3:hi≤mx) (h4:mx≤(s.cap:Int))
  (h: ∀s':Sl,(∀w',SlT 1 s xs w'→SlT 1 s' ((xs.drop lo.toNat).take (hi.toNat - lo.toNat)) w')→s'.len=hi.toNat - lo.toNat→s'.len≤s'.cap→K s'):Slc s lo hi mx 1 K:=by
 obtain ⟨a,b,c,d,e⟩:=Slc.rd (K:=fun s'=>s'.len≤s'.cap→K s') hs h0 h1 h2 h3 h4 fun s' a b c=>h s' a b c
 exact ⟨a,b,c,d,e (by simp only;omega)⟩
end Go.Vc
namespace Go.Stm
end Go.Stm
namespace Go.Proofs.YtcdpblipagajiaaGreat
open Go Go.Vc Go.Stm
section
variable {E w:World} {F:List HP}
set_option maxRecDepth 20000
end
end Go.Proofs.YtcdpblipagajiaaGreat
namespace Go.Blk
open Go.Inc Go.Srt Go.Sym Go.Bits Go.Tab Go.Hd Go.Crc Go.Bw Go.Rk Go.Proofs.YtcdpblipagajiaaGreat
theorem one_last:lastB [97]= [97]:=by
 have:ordB [97]= [1,0]:=sorted_eq (sl_so [97]) ((srt_perm _).trans (by decide+kernel)) (ordB_sorted [97]) (by decide+kernel)
 unfold lastB colE;rw [this];decide+kernel
theorem one_idx:idxB [97]=1:=by decide+kernel
theorem ab_last:lastB [98,97]= [97,98]:=by
 have:ordB [98,97]= [2,1,0]:=sorted_eq (sl_so [98,97]) ((srt_perm _).trans (by decide+kernel)) (ordB_sorted [98,97]) (by decide+kernel)
 unfold lastB colE;rw [this];decide+kernel
theorem ab_idx:idxB [98,97]=2:=by decide+kernel
theorem one_syms:syms [97]= [98,257]:=by decide+kernel
theorem nil_syms:syms []= [257]:=by decide+kernel
theorem one_crc:crc [97]=3904355907:=by decide+kernel
theorem one_lens:(lensX [97]).getD 98 0=1∧(lensX [97]).getD 257 0=1:=by
 have hord:IsOrd (tal [98,257]) [98,257]:=⟨by decide+kernel,by decide+kernel⟩
 have e:lensX [97]=lensOf (tal [98,257]) [98,257] 15:=by
  unfold lensX lensY
  rw [show ([97]:List Nat).reverse= [97] from rfl,one_last,one_syms]
  have:=ord_same (ordL_ok (tal [98,257])) hord
  rw [this]
 rw [e]
 exact ⟨by decide+kernel,by decide+kernel⟩
noncomputable abbrev oneL:List Nat:=lensX [97]
theorem oneL_lens:Lens oneL [97]:=by
 have:=lensX_lens (x:= [97]) (by decide) (by decide) (by decide)
 rwa [show ([97]:List Nat).reverse= [97] from rfl,one_last] at this
noncomputable abbrev oneT:List Nat:=pack (body oneL [97])
theorem one_blk:blkL oneL [97]= [1,1,1,232,183,190,67]++oneT:=by
 unfold blkL
 rw [show ([97]:List Nat).reverse= [97] from rfl,one_last,one_idx,one_crc]
 congr 1
 decide+kernel
theorem oneT_pos:0<oneT.length:=by
 have h:=pack_len (body oneL [97])
 have:0<(body oneL [97]).length:=by unfold body;rw [List.length_append];unfold tput four;simp;omega
 unfold oneT;rw [h];omega
theorem oneT_b: ∀y∈oneT,y<256:=packTo_lt (body_bits _ _) _
theorem un_end:unpackB 10 [0,0,0,0,0]= .error 242:=rfl
theorem un_one (z:List Nat):unpackB 10 ([1,1,1,232,183,190,67]++oneT++z)= .ok ([97],z):=by
 rw [←one_blk]
 refine unpack_blk ?_ ?_ (by decide) (by decide) (by decide) z
 ·rw [show ([97]:List Nat).reverse= [97] from rfl,one_last];exact oneL_lens
 ·rw [show ([97]:List Nat).reverse= [97] from rfl,one_last];decide
theorem un_cut:unpackB 10 [1,1,1,232,183,190,67]= .error 50:=by
 have h:=oneT_pos
 have:=unpack_cut (l:=oneL) (n:=10) (x:= [97]) (by rw [show ([97]:List Nat).reverse= [97] from rfl,one_last];exact oneL_lens) (by rw [show ([97]:List Nat).reverse= [97] from rfl,one_last];decide) (by decide) (by decide) (by decide) (k:=7) (by rw [one_blk,List.length_append];simp;exact h)
 rw [one_blk] at this
 exact this
theorem un_bad:unpackB 10 ([1,1,1,0,183,190,67]++oneT)= .error 250:=by
 have:=unpack_body (n:=10) (P:=1) (sum:=12041795) oneL_lens (by decide) (by decide) (by decide) (by decide) (by decide) (by decide) []
 rw [List.append_nil,show mblk [97].length 1 12041795= [1,1,1,0,183,190,67] by decide+kernel] at this
 have e:textOf 1 12041795 [97]= .error 250:=by
  unfold textOf
  rw [if_pos (by decide+kernel),if_neg (by decide+kernel)]
 rw [e] at this
 exact this
end Go.Blk
namespace Go.Proofs.YtcdpblipagajiaaGreat
open Go Go.Vc Go.Srt Go.Inc Go.Sym Go.Tab Go.Hd Go.Bw Go.Bits Go.Blk Go.Crc
section
variable {E w:World} {F:List HP}
set_option maxRecDepth 20000
theorem cpyB {b:Nat} {s:Sl} {xs:List Nat} {K:Sl→World→Prop} (h:Hp E w (Blk b (.cells ⟨[]⟩ 5 (0,0))::F)) (hs:Tells F (SlT 1 s (xs.map vB))) (hl:xs.length≤1000000000000) (hK: ∀s' w',Hp E w' (OB s' xs::F)→K s' w'):
  Run Tryz.prog (Builtin.append_ #[22,22] 22 ⟨[.slice (some ⟨b,0,none⟩) 0 0,.slice s.base s.len s.cap]⟩) kS w K:=by
 have h:=Hp.ownNew (n:=0) (sz:=1) h rfl
 have key:=fun (K':Sl→World→Prop)=>catB (s:=⟨some ⟨b,0,none⟩,0,0⟩) (xs:= []) (ys:=xs) (K:=K') h hs (Nat.zero_le _) hl
 exact key _ fun s3 w h=>hK s3 w h
theorem packOk_c {n:Int} {s:Sl} {x:List Nat} {K:Sl→Int→World→Prop} (h:Hp E w F) (hs:Tells F (SlT 1 s (x.map vB))) (hb: ∀y∈x,y<256) (h1:1≤n) (h2:n≤65536) (h3:1≤x.length) (h4:(x.length:Int)≤n)
  (hK: ∀s' w',Hp E w' (OB s' (blkL (lensX x) x)::F)→K s' 0 w'):Cl Tryz.prog [kS,kI] n_block_Pack ⟨[.int .i64 n,.slice s.base s.len s.cap]⟩ w K:=
 pack_c h hs hb (by omega) (fun _ _ _ _=>hK) fun hno=>absurd ⟨h1,h2,h3,h4⟩ hno
theorem packNo_c {n:Int} {s:Sl} {x:List Nat} {K:Sl→Int→World→Prop} (h:Hp E w F) (hs:Tells F (SlT 1 s (x.map vB))) (hb: ∀y∈x,y<256) (hl:x.length≤65536) (hno: ¬(1≤n∧n≤65536∧1≤x.length∧(x.length:Int)≤n))
  (hK: ∀w',Hp E w' F→K ⟨none,0,0⟩ 2 w'):Cl Tryz.prog [kS,kI] n_block_Pack ⟨[.int .i64 n,.slice s.base s.len s.cap]⟩ w K:=
 pack_c h hs hb hl (fun h1 h2 h3 h4=>absurd ⟨h1,h2,h3,h4⟩ hno) fun _=>hK
theorem unpackOk_c {n:Nat} {s:Sl} {b x r:List Nat} {K:Sl→Sl→Int→World→Prop} (h:Hp E w F) (hs:Tells F (SlT 1 s (b.map vB))) (hb: ∀y∈b,y<256) (hbig:b.length≤10000000) (hcap:s.len≤s.cap) (h1:1≤n) (h2:n≤65536) (he:unpackB n b= .ok (x,r))
  (hK: ∀s1 s2 w',Hp E w' (OB s1 x::OB s2 r::F)→K s1 s2 0 w'):Cl Tryz.prog [kS,kS,kI] n_block_Unpack ⟨[.int .i64 (n:Int),.slice s.base s.len s.cap]⟩ w K:=by
 refine unpack_c h hs hb hbig hcap (fun hn=>absurd (show 1≤(n:Int)∧(n:Int)≤65536 by omega) hn) (fun _ _ e w h3=> ?_) (fun _ _ x' r' s1 s2 w h3 _ _ _ h=> ?_)
 ·rw [Int.toNat_natCast,he] at h3;cases h3
 ·rw [Int.toNat_natCast,he] at h3;cases h3;exact hK s1 s2 w h
theorem unpackErr_c {n e:Nat} {s:Sl} {b:List Nat} {K:Sl→Sl→Int→World→Prop} (h:Hp E w F) (hs:Tells F (SlT 1 s (b.map vB))) (hb: ∀y∈b,y<256) (hbig:b.length≤10000000) (hcap:s.len≤s.cap) (h1:1≤n) (h2:n≤65536) (he:unpackB n b= .error e)
  (hK: ∀w',Hp E w' F→K ⟨none,0,0⟩ ⟨none,0,0⟩ (e:Int) w'):Cl Tryz.prog [kS,kS,kI] n_block_Unpack ⟨[.int .i64 (n:Int),.slice s.base s.len s.cap]⟩ w K:=by
 refine unpack_c h hs hb hbig hcap (fun hn=>absurd (show 1≤(n:Int)∧(n:Int)≤65536 by omega) hn) (fun _ _ e' w h3 _ h=> ?_) (fun _ _ x' r' s1 s2 w h3 _ _ _ h=> ?_)
 ·rw [Int.toNat_natCast,he] at h3;cases h3;exact hK w h
 ·rw [Int.toNat_natCast,he] at h3;cases h3
theorem eqS (x:List Nat):((strOf x).toList==(strOf x).toList)=true:=by simp
theorem wakes25_c {K:Bool→World→Prop} (h:Hp E w F) (hK: ∀w',Hp E w' F→K true w'):Cl Tryz.prog [kB] n_law25_wakes ⟨[]⟩ w K:=by
 refine law25_wakes.ok _ _ ?_
 unfold law25_wakes.E
 simp only [Join_eq]
 have b1: ∀y∈([97]:List Nat),y<256:=by decide
 have hTb:=oneT_b
 have hTp:=oneT_pos
 have hTl:=blk_short (x:= [97]) (by decide) b1 (by decide)
 rw [show lensX [97]=oneL from rfl,one_blk,List.length_append] at hTl
 simp only [List.length_cons,List.length_nil] at hTl
 have b7: ∀y∈([1,1,1,232,183,190,67]:List Nat),y<256:=by decide
 have hBb: ∀y∈ [1,1,1,232,183,190,67]++oneT,y<256:=fun y hy=>by
  rcases List.mem_append.1 hy with hy|hy
  ·exact b7 y hy
  ·exact hTb y hy
 refine Nw.mk h fun b2 w h=>packOk_c (n:=10) (s:=⟨some ⟨b2,0,none⟩,1,1⟩) (x:= [97]) h (Tells.blk rfl rfl) b1 (by decide) (by decide) (by decide) (by decide) fun s4 w h=> ?_
 rw [show lensX [97]=oneL from rfl,one_blk] at h
 have l4:=OB.len h
 have c4:=h.ownCap
 rw [List.length_append] at l4
 simp only [List.length_cons,List.length_nil] at l4
 refine packNo_c (n:=10) (s:=⟨none,0,0⟩) (x:= []) h Tells.nil (by simp) (by simp) (by simp) fun w h=> ?_
 refine Nw.mk h fun b10 w h=>packNo_c (n:=0) (s:=⟨some ⟨b10,0,none⟩,1,1⟩) (x:= [97]) h (Tells.blk rfl rfl) b1 (by decide) (by decide) fun w h=> ?_
 (with_reducible repeat first|refine Nw.mk h fun b w h=> ?_|refine Drw.mk h fun w h=> ?_|refine Ld.xb h rfl ?_|refine Ld.xt h rfl ?_|refine LdS.xb (fun _ h=>h) rfl ?_|refine LdS.xt (fun _ h=>h) rfl ?_|refine ⟨h.hb,?_⟩|refine StC.xw h rfl rfl fun w h=> ?_|(refine StC.xs h rfl rfl fun w h=> ?_;dsimp only [spl,over] at h)|(refine St.xs h rfl rfl fun w h=> ?_;dsimp only [spl,over] at h)|refine IfB.yes ?_|refine IfB.no ?_|refine ⟨by first|omega|decide,?_⟩)
 refine cpyB h (Tells.at 1 Tells.own) (by rw [List.length_append];simp only [List.length_cons,List.length_nil];omega) fun s22 w h=> ?_
 refine Nw.mk h fun b24 w h=>put1B (x:=7) h (by rw [List.length_append];simp only [List.length_cons,List.length_nil];omega) fun s26 w h=> ?_
 have hl2:([1,1,1,232,183,190,67]++oneT++ [7]).length≤10000000:=by rw [List.length_append,List.length_append];simp only [List.length_cons,List.length_nil];omega
 refine unpackOk_c (n:=10) h Tells.own (fun y hy=> ?_) hl2 h.ownCap (by decide) (by decide) (un_one [7]) fun s28 s29 w h=> ?_
 ·rcases List.mem_append.1 hy with hy|hy
  ·exact hBb y hy
  ·rw [List.mem_singleton] at hy;omega
 refine Nw.mk h fun b32 w h=>unpackErr_c (n:=10) (s:=⟨some ⟨b32,0,none⟩,5,5⟩) (b:= [0,0,0,0,0]) h (Tells.blk rfl rfl) (by decide) (by decide) (Nat.le_refl _) (by decide) (by decide) un_end fun w h=> ?_
 refine Slc.rdc ((h.at 5).tells Tells.own) (by omega) (by omega) (by omega) (by omega) (by omega) fun s37 hs37 hl37 hc37=> ?_
 have hs37: ∀w,SlT 1 s4 (([1,1,1,232,183,190,67]++oneT).map vB) w→SlT 1 s37 (([1,1,1,232,183,190,67]:List Nat).map vB) w:=fun w hw=>hs37 w hw
 refine unpackErr_c (n:=10) h ((Tells.at 5 Tells.own).imp hs37) b7 (by decide) hc37 (by decide) (by decide) un_cut fun w h=> ?_
 refine Nw.mk h fun b43 w h=>cpyB h (Tells.at 5 Tells.own) (by rw [List.length_append];simp only [List.length_cons,List.length_nil];omega) fun s45 w h=> ?_
 refine Idx.setB (j:=3) (x:=0) h rfl (by rw [List.length_append];simp only [List.length_cons,List.length_nil];omega) fun w h=> ?_
 have h:Hp E w (OB s45 ([1,1,1,0,183,190,67]++oneT)::_):=h
 refine unpackErr_c (n:=10) h Tells.own (fun y hy=> ?_) (by rw [List.length_append];simp only [List.length_cons,List.length_nil];omega) h.ownCap (by decide) (by decide) un_bad fun w h=> ?_
 ·rcases List.mem_append.1 hy with hy|hy
  ·have hk: ∀y∈([1,1,1,0,183,190,67]:List Nat),y<256:=by decide
   exact hk y hy
  ·exact hTb y hy
 refine Nw.mk h fun b53 w h=>lengthsX_c (s:=⟨some ⟨b53,0,none⟩,1,1⟩) (x:= [97]) h (Tells.blk rfl rfl) b1 (by decide) fun w h=> ?_
 have hls:(ai .u8 (lensX [97])).size=258:=by rw [ai_size];exact lensY_len _
 have hlc:(ai .u8 (lensX [97])).toList.all scalarB=true:=List.all_eq_true.2 ai_scalar
 refine Nw.mk h fun b57 w h=>StA.q h (by simp) hls hlc fun w h=>Nw.mk h fun b60 w h=>marked_c h fun w h=> ?_
 refine column_c (s:=⟨some ⟨b60,0,none⟩,2,2⟩) (x:= [97,98]) h (Tells.blk rfl rfl) (by decide) (by decide) fun s64 w h=> ?_
 rw [show ([97,98]:List Nat).reverse= [98,97] from rfl,ab_idx]
 rw [show ([97,98]:List Nat).reverse= [98,97] from rfl,ab_last] at h
 refine Slc.rdc ((h.at 10).tells Tells.own) (by omega) (by omega) (by omega) (by omega) (by omega) fun s66 hs66 hl66 hc66=> ?_
 have hs66: ∀w,SlT 1 s4 (([1,1,1,232,183,190,67]++oneT).map vB) w→SlT 1 s66 (([1,1,1,232,183,190,67]:List Nat).map vB) w:=fun w hw=>hs66 w hw
 refine str_c (hs66 _ (h.tells (Tells.at 10 Tells.own))) (IfB.t (by rw [show (ByteArray.mk #[1,1,1,232,183,190,67])=strOf [1,1,1,232,183,190,67] from rfl];exact eqS _) ?_)
 refine str_c (h.tells (Tells.at 6 Tells.own)) (IfB.t (by rw [show (ByteArray.mk #[97])=strOf [97] from rfl];exact eqS _) ?_)
 refine str_c (h.tells (Tells.at 7 Tells.own)) (IfB.t (by rw [show (ByteArray.mk #[7])=strOf [7] from rfl];exact eqS _) ?_)
 refine IfB.t rfl (IfB.t rfl (IfB.t rfl (IfB.t rfl ?_)))
 have hL:=lensY_len (syms (lastB ([97]:List Nat).reverse))
 refine IdxP.rd (s:= .int .u8) (h.at 2) (by decide) (by decide) ((lensX [97]).getD 98 0:Int) (getN (by rw [show (lensX [97]).length=258 from hL];decide)) ?_
 rw [one_lens.1]
 refine IfB.t rfl ?_
 refine IdxP.rd (s:= .int .u8) (h.at 2) (by decide) (by decide) ((lensX [97]).getD 257 0:Int) (getN (by rw [show (lensX [97]).length=258 from hL];decide)) ?_
 rw [one_lens.2]
 refine IfB.t rfl ?_
 refine Nw.mk h fun b78 w h=>symbols_c (s:=⟨some ⟨b78,0,none⟩,1,1⟩) (x:= [97]) h (Tells.blk rfl rfl) b1 (by decide) fun s80 w h=> ?_
 rw [show ([97]:List Nat).reverse= [97] from rfl,one_last,one_syms] at h
 refine Nw.mk h fun b82 w h=>ints_c (s2:=⟨some ⟨b82,0,none⟩,2,2⟩) (b:=ints [98,257]) h (Tells.at 1 Tells.own) (Tells.blk rfl rfl) (by decide) fun w h=> ?_
 refine IfB.t (by simp) ?_
 refine str_c (h.tells (Tells.at 3 Tells.own)) (IfB.t (by rw [show (ByteArray.mk #[97,98])=strOf [97,98] from rfl];exact eqS _) (IfB.t rfl ?_))
 refine symbols_c (s:=⟨none,0,0⟩) (x:= []) h Tells.nil (by simp) (by simp) fun s88 w h=> ?_
 rw [show ([]:List Nat).reverse= [] from rfl,last_nil,nil_syms] at h
 refine Nw.mk h fun b90 w h=>ints_c (s2:=⟨some ⟨b90,0,none⟩,1,1⟩) (b:=ints [257]) h (Tells.at 1 Tells.own) (Tells.blk rfl rfl) (by decide) fun w h=> ?_
 exact as1 (by simp) (hK w h.tl)
end
end Go.Proofs.YtcdpblipagajiaaGreat
namespace Go.Proofs.YtcdpblipagajiaaGreat
open Go Go.Vc
def ref25_Column.E (x1:Sl) (R:Sl→Int→World→Prop) (w:World):Prop:=
 Cl Tryz.prog [kS] n_ref17_Turned ⟨[(.slice x1.base x1.len x1.cap)]⟩ w fun (r3:Sl) (w_2:World)=>
 Cl Tryz.prog [kS,kI] n_ref17_Turn ⟨[(.slice r3.base r3.len r3.cap)]⟩ w_2 fun (r5:Sl) (r6:Int) (w_4:World)=>
 R (r5) (r6) w_4
theorem ref25_Column.ok (x1:Sl) (R:Sl→Int→World→Prop) (w:World) (h:ref25_Column.E x1 R w):Cl Tryz.prog [kS,kI] n_ref25_Column ⟨[(.slice x1.base x1.len x1.cap)]⟩ w R:=
 calls_of_eq Tryz.mix Tryz.f17 [(.slice x1.base x1.len x1.cap)] [kS,kI] R 9 [.tmp 2,.tmp 3] (by kernel_rfl) (by kernel_rfl) (by kernel_rfl) (by kernel_rfl) (by kernel_rfl)
  (.s .o (.s .o .o))
  (by kernel_rfl) h
def ref25_Symbols.E (x1:Sl) (R:Sl→World→Prop) (w:World):Prop:=
 Cl Tryz.prog [kS,kI] n_ref25_Column ⟨[(.slice x1.base x1.len x1.cap)]⟩ w fun (r3:Sl) (r4:Int) (w_2:World)=>
 Cl Tryz.prog [kS] n_ref15_All ⟨[(.slice r3.base r3.len r3.cap)]⟩ w_2 fun (r6:Sl) (w_5:World)=>
 R (r6) w_5
theorem ref25_Symbols.ok (x1:Sl) (R:Sl→World→Prop) (w:World) (h:ref25_Symbols.E x1 R w):Cl Tryz.prog [kS] n_ref25_Symbols ⟨[(.slice x1.base x1.len x1.cap)]⟩ w R:=
 calls_of_eq Tryz.mix Tryz.f20 [(.slice x1.base x1.len x1.cap)] [kS] R 12 [.tmp 2] (by kernel_rfl) (by kernel_rfl) (by kernel_rfl) (by kernel_rfl) (by kernel_rfl)
  (.s .o (.s .o (.s .o .o)))
  (by kernel_rfl) h
end Go.Proofs.YtcdpblipagajiaaGreat
namespace Go.Proofs.YtcdpblipagajiaaGreat
open Go Go.Vc
set_option maxRecDepth 100000 in
def ref15_All.E (b1:Sl) (R:Sl→World→Prop) (w:World):Prop:=
 Cl Tryz.prog [(.arr 257)] n_ref15_New ⟨[]⟩ w fun (r3:(Array Value)) (w_2:World)=>
 Cl Tryz.prog [(.arr 257),kS,kI] n_ref15_Step ⟨[(.agg r3),(.slice b1.base b1.len b1.cap)]⟩ w_2 fun (r5:(Array Value)) (r6:Sl) (r7:Int) (w_4:World)=>
 Nw 110 ⟨List.replicate 256 (.int .u8 0)++ [(.int .i64 0)]⟩ w_4 fun (b9:Nat) (w_8:World)=>
 StA 257 (⟨b9,0,none⟩:Addr) r5 w_8 fun (w_10:World)=>
 Ld (.arr 257) (⟨b9,0,none⟩:Addr) w_10 fun (x11:(Array Value))=>
 Cl Tryz.prog [kS,kI] n_ref15_End ⟨[(.agg x11)]⟩ w_10 fun (r13:Sl) (r14:Int) (w_12:World)=>
 Run Tryz.prog (Builtin.append_ #[33,33] 33 ⟨[(.slice r6.base r6.len r6.cap),(.slice r13.base r13.len r13.cap)]⟩) kS w_12 fun (s16:Sl) (w_15:World)=>
 R (s16) w_15
set_option maxRecDepth 100000 in
theorem ref15_All.ok (b1:Sl) (R:Sl→World→Prop) (w:World) (h:ref15_All.E b1 R w):Cl Tryz.prog [kS] n_ref15_All ⟨[(.slice b1.base b1.len b1.cap)]⟩ w R:=
 calls_of_eq Tryz.mix Tryz.f31 [(.slice b1.base b1.len b1.cap)] [kS] R 23 [.tmp 2] (by kernel_rfl) (by kernel_rfl) (by kernel_rfl) (by kernel_rfl) (by kernel_rfl)
  (.s .o (.s .o (.s .o (.s .o .o))))
  (by kernel_rfl) h
set_option maxRecDepth 100000 in
def ref15_Step.E (f1:(Array Value)) (b2:Sl) (R:(Array Value)→Sl→Int→World→Prop) (w:World):Prop:=
 Nw 110 f1 w fun (b4:Nat) (w_3:World)=>
 Nw 110 ⟨List.replicate 256 (.int .u8 0)++ [(.int .i64 0)]⟩ w_3 fun (b6:Nat) (w_5:World)=>
 Join (fun (w_18:World)=>
 ∃(I_19:Sl→Int→World→Prop) (m_20:Sl→Int→World→Nat),I_19 ((⟨none,0,0⟩:Sl)) (0) w_18∧
 ∀(out21:Sl) (i22:Int),∀(w_23:World),I_19 out21 i22 w_23→
 IfB (decide ((i22:Int)<((b2.len:Int):Int)))
 (Held w_23 fun (S24:World→Prop) (w_25:World)=>
 LdS (.arr 256) ((⟨b4,0,none⟩:Addr).add 0) S24 fun (List26:(Array Value))=>
 Idx b2 i22 1 fun (q27:Addr)=>
 LdS (kInt .u8) q27 S24 fun (x28:Int)=>
 (Cl Tryz.prog [(.arr 256),kI] n_ref13_Put ⟨[(.agg List26),(.int .u8 x28)]⟩ w_25 fun (r30:(Array Value)) (r31:Int) (w_29:World)=>
 S24 w_29∧
 Nw 108 ⟨List.replicate 256 (.int .u8 0)⟩ w_29 fun (b33:Nat) (w_32:World)=>
 S24 w_32∧
 StA 256 (⟨b33,0,none⟩:Addr) r30 w_32 fun (w_34:World)=>
 S24 w_34∧
 Ld (.arr 256) (⟨b33,0,none⟩:Addr) w_34 fun (x35:(Array Value))=>
 StA 256 ((⟨b4,0,none⟩:Addr).add 0) x35 w_34 fun (w_36:World)=>
 IfB ((r31:Int)==(0:Int))
 (Ld kI ((⟨b4,0,none⟩:Addr).add 256) w_36 fun (Run37:Int)=>
 St ((⟨b4,0,none⟩:Addr).add 256) (.int .i64 (i64 ((Run37:Int)+(1:Int)))) w_36 fun (w_38:World)=>
 I_19 (out21) ((i64 ((i22:Int)+(1:Int)))) w_38∧m_20 (out21) ((i64 ((i22:Int)+(1:Int)))) w_38<m_20 out21 i22 w_23)
 (Ld kI ((⟨b4,0,none⟩:Addr).add 256) w_36 fun (Run39:Int)=>
 Cl Tryz.prog [kS] n_ref15_Run ⟨[(.int .i64 Run39)]⟩ w_36 fun (r41:Sl) (w_40:World)=>
 Run Tryz.prog (Builtin.append_ #[33,33] 33 ⟨[(.slice out21.base out21.len out21.cap),(.slice r41.base r41.len r41.cap)]⟩) kS w_40 fun (s43:Sl) (w_42:World)=>
 Nw 3 ⟨[(.int .i64 (i64 ((r31:Int)+(1:Int))))]⟩ w_42 fun (b45:Nat) (w_44:World)=>
 Run Tryz.prog (Builtin.append_ #[33,33] 33 ⟨[(.slice s43.base s43.len s43.cap),(.slice (⟨some ⟨b45,0,none⟩,1,1⟩:Sl).base (⟨some ⟨b45,0,none⟩,1,1⟩:Sl).len (⟨some ⟨b45,0,none⟩,1,1⟩:Sl).cap)]⟩) kS w_44 fun (s47:Sl) (w_46:World)=>
 St ((⟨b4,0,none⟩:Addr).add 256) (.int .i64 0) w_46 fun (w_48:World)=>
 I_19 (s47) ((i64 ((i22:Int)+(1:Int)))) w_48∧m_20 (s47) ((i64 ((i22:Int)+(1:Int)))) w_48<m_20 out21 i22 w_23))∧
 (Nw 108 ⟨List.replicate 256 (.int .u8 0)⟩ w_25 fun (b50:Nat) (w_49:World)=>
 S24 w_49∧
 Cl Tryz.prog [(.arr 256),kI] n_ref13_Put ⟨[(.agg List26),(.int .u8 x28)]⟩ w_49 fun (r52:(Array Value)) (r53:Int) (w_51:World)=>
 S24 w_51∧
 StA 256 (⟨b50,0,none⟩:Addr) r52 w_51 fun (w_54:World)=>
 S24 w_54∧
 Ld (.arr 256) (⟨b50,0,none⟩:Addr) w_54 fun (x55:(Array Value))=>
 StA 256 ((⟨b4,0,none⟩:Addr).add 0) x55 w_54 fun (w_56:World)=>
 IfB ((r53:Int)==(0:Int))
 (Ld kI ((⟨b4,0,none⟩:Addr).add 256) w_56 fun (Run57:Int)=>
 St ((⟨b4,0,none⟩:Addr).add 256) (.int .i64 (i64 ((Run57:Int)+(1:Int)))) w_56 fun (w_58:World)=>
 I_19 (out21) ((i64 ((i22:Int)+(1:Int)))) w_58∧m_20 (out21) ((i64 ((i22:Int)+(1:Int)))) w_58<m_20 out21 i22 w_23)
 (Ld kI ((⟨b4,0,none⟩:Addr).add 256) w_56 fun (Run59:Int)=>
 Cl Tryz.prog [kS] n_ref15_Run ⟨[(.int .i64 Run59)]⟩ w_56 fun (r61:Sl) (w_60:World)=>
 Run Tryz.prog (Builtin.append_ #[33,33] 33 ⟨[(.slice out21.base out21.len out21.cap),(.slice r61.base r61.len r61.cap)]⟩) kS w_60 fun (s63:Sl) (w_62:World)=>
 Nw 3 ⟨[(.int .i64 (i64 ((r53:Int)+(1:Int))))]⟩ w_62 fun (b65:Nat) (w_64:World)=>
 Run Tryz.prog (Builtin.append_ #[33,33] 33 ⟨[(.slice s63.base s63.len s63.cap),(.slice (⟨some ⟨b65,0,none⟩,1,1⟩:Sl).base (⟨some ⟨b65,0,none⟩,1,1⟩:Sl).len (⟨some ⟨b65,0,none⟩,1,1⟩:Sl).cap)]⟩) kS w_64 fun (s67:Sl) (w_66:World)=>
 St ((⟨b4,0,none⟩:Addr).add 256) (.int .i64 0) w_66 fun (w_68:World)=>
 I_19 (s67) ((i64 ((i22:Int)+(1:Int)))) w_68∧m_20 (s67) ((i64 ((i22:Int)+(1:Int)))) w_68<m_20 out21 i22 w_23)))
 (Ld (.arr 257) (⟨b4,0,none⟩:Addr) w_23 fun (x69:(Array Value))=>
 StA 257 (⟨b6,0,none⟩:Addr) x69 w_23 fun (w_70:World)=>
 Ld (.arr 257) (⟨b6,0,none⟩:Addr) w_70 fun (res71:(Array Value))=>
 R (res71) (out21) (0) w_70)) fun (K_7:World→Prop)=>
 Ld (.arr 257) (⟨b4,0,none⟩:Addr) w_5 fun (x8:(Array Value))=>
 Cl Tryz.prog [kB] n_ref15_Valid ⟨[(.agg x8)]⟩ w_5 fun (r10:Bool) (w_9:World)=>
 IfB (!r10)
 (Ld (.arr 257) (⟨b4,0,none⟩:Addr) w_9 fun (x11:(Array Value))=>
 StA 257 (⟨b6,0,none⟩:Addr) x11 w_9 fun (w_12:World)=>
 Ld (.arr 257) (⟨b6,0,none⟩:Addr) w_12 fun (res13:(Array Value))=>
 R (res13) ((⟨none,0,0⟩:Sl)) (2) w_12)
 (Ld kI ((⟨b4,0,none⟩:Addr).add 256) w_9 fun (Run14:Int)=>
 IfB (decide (((b2.len:Int):Int)>((i64 ((2147483647:Int) - (Run14:Int))):Int)))
 (Ld (.arr 257) (⟨b4,0,none⟩:Addr) w_9 fun (x15:(Array Value))=>
 StA 257 (⟨b6,0,none⟩:Addr) x15 w_9 fun (w_16:World)=>
 Ld (.arr 257) (⟨b6,0,none⟩:Addr) w_16 fun (res17:(Array Value))=>
 R (res17) ((⟨none,0,0⟩:Sl)) (2) w_16)
 (K_7 w_9))
set_option maxRecDepth 100000 in
theorem ref15_Step.ok (f1:(Array Value)) (b2:Sl) (R:(Array Value)→Sl→Int→World→Prop) (w:World) (h:ref15_Step.E f1 b2 R w):Cl Tryz.prog [(.arr 257),kS,kI] n_ref15_Step ⟨[(.agg f1),(.slice b2.base b2.len b2.cap)]⟩ w R:=
 calls_of_eq Tryz.mix Tryz.f75 [(.agg f1),(.slice b2.base b2.len b2.cap)] [(.arr 257),kS,kI] R 60 [.cell 4 110,.tmp 5,.tmp 6] (by kernel_rfl) (by kernel_rfl) (by kernel_rfl) (by kernel_rfl) (by kernel_rfl)
  (.s .o (.j [] (.s .o (.c (.s .o .o) .o)) (.s .o (.s (.s .o (.b (.l [(7,kS),(8,kI)] (.s (.s .o (.c .o .o)) (.s (.b (.s .o (.s .o (.s .o (.c .o (.s .o (.s .o .o))))))) .o))))) (.s .o .o)))))
  (by kernel_rfl) h
set_option maxRecDepth 100000 in
def ref15_New.E (R:(Array Value)→World→Prop) (w:World):Prop:=
 Nw 110 ⟨List.replicate 256 (.int .u8 0)++ [(.int .i64 0)]⟩ w fun (b2:Nat) (w_1:World)=>
 Cl Tryz.prog [(.arr 256)] n_ref13_New ⟨[]⟩ w_1 fun (r4:(Array Value)) (w_3:World)=>
 Bld Tryz.prog 110 [(0,(.agg r4))] fun (cs5:Array Value)=>
 StA 257 (⟨b2,0,none⟩:Addr) cs5 w_3 fun (w_6:World)=>
 Ld (.arr 257) (⟨b2,0,none⟩:Addr) w_6 fun (res7:(Array Value))=>
 R (res7) w_6
set_option maxRecDepth 100000 in
theorem ref15_New.ok (R:(Array Value)→World→Prop) (w:World) (h:ref15_New.E R w):Cl Tryz.prog [(.arr 257)] n_ref15_New ⟨[]⟩ w R:=
 calls_of_eq Tryz.mix Tryz.f76 [] [(.arr 257)] R 3 [.cell 0 110] (by kernel_rfl) (by kernel_rfl) (by kernel_rfl) (by kernel_rfl) (by kernel_rfl)
  (.s .o (.s .o .o))
  (by kernel_rfl) h
def ref15_End.E (f1:(Array Value)) (R:Sl→Int→World→Prop) (w:World):Prop:=
 Nw 110 f1 w fun (b3:Nat) (w_2:World)=>
 Ld (.arr 257) (⟨b3,0,none⟩:Addr) w_2 fun (x4:(Array Value))=>
 Cl Tryz.prog [kB] n_ref15_Valid ⟨[(.agg x4)]⟩ w_2 fun (r6:Bool) (w_5:World)=>
 IfB (!r6)
 (R ((⟨none,0,0⟩:Sl)) (2) w_5)
 (Ld kI ((⟨b3,0,none⟩:Addr).add 256) w_5 fun (Run7:Int)=>
 Cl Tryz.prog [kS] n_ref15_Run ⟨[(.int .i64 Run7)]⟩ w_5 fun (r9:Sl) (w_8:World)=>
 Nw 3 ⟨[(.int .i64 257)]⟩ w_8 fun (b11:Nat) (w_10:World)=>
 Run Tryz.prog (Builtin.append_ #[33,33] 33 ⟨[(.slice r9.base r9.len r9.cap),(.slice (⟨some ⟨b11,0,none⟩,1,1⟩:Sl).base (⟨some ⟨b11,0,none⟩,1,1⟩:Sl).len (⟨some ⟨b11,0,none⟩,1,1⟩:Sl).cap)]⟩) kS w_10 fun (s13:Sl) (w_12:World)=>
 R (s13) (0) w_12)
theorem ref15_End.ok (f1:(Array Value)) (R:Sl→Int→World→Prop) (w:World) (h:ref15_End.E f1 R w):Cl Tryz.prog [kS,kI] n_ref15_End ⟨[(.agg f1)]⟩ w R:=
 calls_of_eq Tryz.mix Tryz.f77 [(.agg f1)] [kS,kI] R 12 [.tmp 2,.tmp 3] (by kernel_rfl) (by kernel_rfl) (by kernel_rfl) (by kernel_rfl) (by kernel_rfl)
  (.s .o (.s (.s .o (.c (.s .o .o) .o)) (.s .o .o)))
  (by kernel_rfl) h
def ref15_Valid.E (f1:(Array Value)) (R:Bool→World→Prop) (w:World):Prop:=
 Nw 110 f1 w fun (b3:Nat) (w_2:World)=>
 Ld (.arr 256) ((⟨b3,0,none⟩:Addr).add 0) w_2 fun (List4:(Array Value))=>
 Cl Tryz.prog [kB] n_ref13_Valid ⟨[(.agg List4)]⟩ w_2 fun (r6:Bool) (w_5:World)=>
 IfB r6
 (Ld kI ((⟨b3,0,none⟩:Addr).add 256) w_5 fun (Run7:Int)=>
 IfB (decide ((Run7:Int)≥(0:Int)))
 (Ld kI ((⟨b3,0,none⟩:Addr).add 256) w_5 fun (Run8:Int)=>
 R ((decide ((Run8:Int)≤(2147483647:Int)))) w_5)
 (R (false) w_5))
 (R (false) w_5)
theorem ref15_Valid.ok (f1:(Array Value)) (R:Bool→World→Prop) (w:World) (h:ref15_Valid.E f1 R w):Cl Tryz.prog [kB] n_ref15_Valid ⟨[(.agg f1)]⟩ w R:=
 calls_of_eq Tryz.mix Tryz.f123 [(.agg f1)] [kB] R 16 [.tmp 2] (by kernel_rfl) (by kernel_rfl) (by kernel_rfl) (by kernel_rfl) (by kernel_rfl)
  (.s .o (.s .o .o))
  (by kernel_rfl) h
set_option maxRecDepth 100000 in
def ref15_Run.E (n1:Int) (R:Sl→World→Prop) (w:World):Prop:=
 ∃(I_2:Int→Sl→World→Prop) (m_3:Int→Sl→World→Nat),I_2 (n1) ((⟨none,0,0⟩:Sl)) w∧
 ∀(n4:Int) (out5:Sl),∀(w_6:World),I_2 n4 out5 w_6→
 IfB (decide ((n4:Int)>(0:Int)))
 ((2:Int)≠0∧
 IfB (((Int.tmod (n4:Int) (2:Int)):Int)==(1:Int))
 (Nw 3 ⟨[(.int .i64 0)]⟩ w_6 fun (b8:Nat) (w_7:World)=>
 Run Tryz.prog (Builtin.append_ #[33,33] 33 ⟨[(.slice out5.base out5.len out5.cap),(.slice (⟨some ⟨b8,0,none⟩,1,1⟩:Sl).base (⟨some ⟨b8,0,none⟩,1,1⟩:Sl).len (⟨some ⟨b8,0,none⟩,1,1⟩:Sl).cap)]⟩) kS w_7 fun (s10:Sl) (w_9:World)=>
 (2:Int)≠0∧
 I_2 ((i64 (Int.tdiv ((i64 ((n4:Int) - (1:Int))):Int) (2:Int)))) (s10) w_9∧m_3 ((i64 (Int.tdiv ((i64 ((n4:Int) - (1:Int))):Int) (2:Int)))) (s10) w_9<m_3 n4 out5 w_6)
 (Nw 3 ⟨[(.int .i64 1)]⟩ w_6 fun (b12:Nat) (w_11:World)=>
 Run Tryz.prog (Builtin.append_ #[33,33] 33 ⟨[(.slice out5.base out5.len out5.cap),(.slice (⟨some ⟨b12,0,none⟩,1,1⟩:Sl).base (⟨some ⟨b12,0,none⟩,1,1⟩:Sl).len (⟨some ⟨b12,0,none⟩,1,1⟩:Sl).cap)]⟩) kS w_11 fun (s14:Sl) (w_13:World)=>
 (2:Int)≠0∧
 I_2 ((i64 (Int.tdiv ((i64 ((n4:Int) - (2:Int))):Int) (2:Int)))) (s14) w_13∧m_3 ((i64 (Int.tdiv ((i64 ((n4:Int) - (2:Int))):Int) (2:Int)))) (s14) w_13<m_3 n4 out5 w_6))
 (R (out5) w_6)
set_option maxRecDepth 100000 in
theorem ref15_Run.ok (n1:Int) (R:Sl→World→Prop) (w:World) (h:ref15_Run.E n1 R w):Cl Tryz.prog [kS] n_ref15_Run ⟨[(.int .i64 n1)]⟩ w R:=
 calls_of_eq Tryz.mix Tryz.f125 [(.int .i64 n1)] [kS] R 22 [.tmp 2] (by kernel_rfl) (by kernel_rfl) (by kernel_rfl) (by kernel_rfl) (by kernel_rfl)
  (.s .o (.s .o (.s (.b (.l [(0,kI),(3,kS)] (.s (.s .o (.c .o .o)) (.b (.s .o (.c (.s .o .o) (.s .o .o))))))) (.s .o .o))))
  (by kernel_rfl) h
end Go.Proofs.YtcdpblipagajiaaGreat
namespace Go.Proofs.YtcdpblipagajiaaGreat
open Go Go.Vc
set_option maxRecDepth 100000 in
def ref02_Bytes.E (l1:Sl) (R:Sl→World→Prop) (w:World):Prop:=
 ∃(I_2:Sl→Int→World→Prop) (m_3:Sl→Int→World→Nat),I_2 ((⟨none,0,0⟩:Sl)) (0) w∧
 ∀(out4:Sl) (i5:Int),∀(w_6:World),I_2 out4 i5 w_6→
 IfB (decide ((i5:Int)<((l1.len:Int):Int)))
 (∃(I_7:Int→Int→World→Prop) (m_8:Int→Int→World→Nat),I_7 (0) (i5) w_6∧
 ∀(v9:Int) (k10:Int),∀(w_11:World),I_7 v9 k10 w_11→
 IfB (decide ((k10:Int)<((i64 ((i5:Int)+(8:Int))):Int)))
 (IfB (decide ((k10:Int)<((l1.len:Int):Int)))
 (Idx l1 k10 1 fun (q12:Addr)=>
 Ld kI q12 w_11 fun (x13:Int)=>
 I_7 ((i64 (((i64 ((2:Int)*(v9:Int))):Int)+(x13:Int)))) ((i64 ((k10:Int)+(1:Int)))) w_11∧m_8 ((i64 (((i64 ((2:Int)*(v9:Int))):Int)+(x13:Int)))) ((i64 ((k10:Int)+(1:Int)))) w_11<m_8 v9 k10 w_11)
 (I_7 ((i64 ((2:Int)*(v9:Int)))) ((i64 ((k10:Int)+(1:Int)))) w_11∧m_8 ((i64 ((2:Int)*(v9:Int)))) ((i64 ((k10:Int)+(1:Int)))) w_11<m_8 v9 k10 w_11))
 (Nw 5 ⟨[(.int .u8 (u8 v9))]⟩ w_11 fun (b15:Nat) (w_14:World)=>
 Run Tryz.prog (Builtin.append_ #[22,22] 22 ⟨[(.slice out4.base out4.len out4.cap),(.slice (⟨some ⟨b15,0,none⟩,1,1⟩:Sl).base (⟨some ⟨b15,0,none⟩,1,1⟩:Sl).len (⟨some ⟨b15,0,none⟩,1,1⟩:Sl).cap)]⟩) kS w_14 fun (s17:Sl) (w_16:World)=>
 I_2 (s17) ((i64 ((i5:Int)+(8:Int)))) w_16∧m_3 (s17) ((i64 ((i5:Int)+(8:Int)))) w_16<m_3 out4 i5 w_6))
 (R (out4) w_6)
set_option maxRecDepth 100000 in
theorem ref02_Bytes.ok (l1:Sl) (R:Sl→World→Prop) (w:World) (h:ref02_Bytes.E l1 R w):Cl Tryz.prog [kS] n_ref02_Bytes ⟨[(.slice l1.base l1.len l1.cap)]⟩ w R:=
 calls_of_eq Tryz.mix Tryz.f28 [(.slice l1.base l1.len l1.cap)] [kS] R 38 [.tmp 2] (by kernel_rfl) (by kernel_rfl) (by kernel_rfl) (by kernel_rfl) (by kernel_rfl)
  (.s .o (.s .o (.s (.s .o (.b (.l [(3,kS),(4,kI)] (.s (.s .o (.c .o .o)) (.s (.b (.s .o (.s (.s .o (.b (.l [(5,kI),(6,kI)] (.s (.s .o (.c .o .o)) (.s (.b (.s .o (.s .o (.c .o .o)))) .o))))) .o))) .o))))) (.s .o .o))))
  (by kernel_rfl) h
end Go.Proofs.YtcdpblipagajiaaGreat
namespace Go.Proofs.YtcdpblipagajiaaGreat
open Go Go.Vc
set_option maxRecDepth 100000 in
def ref13_Put.E (l1:(Array Value)) (c2:Int) (R:(Array Value)→Int→World→Prop) (w:World):Prop:=
 Nw 108 l1 w fun (b4:Nat) (w_3:World)=>
 Nw 108 ⟨List.replicate 256 (.int .u8 0)⟩ w_3 fun (b6:Nat) (w_5:World)=>
 ∃(I_7:Int→World→Prop) (m_8:Int→World→Nat),I_7 (0) w_5∧
 ∀(i9:Int),∀(w_10:World),I_7 i9 w_10→
 IfB (decide ((i9:Int)<(256:Int)))
 (IdxP (⟨b4,0,none⟩:Addr) 256 i9 1 fun (q11:Addr)=>
 Ld (kInt .u8) q11 w_10 fun (x12:Int)=>
 IfB ((x12:Int)==(c2:Int))
 (Ld (.arr 256) (⟨b4,0,none⟩:Addr) w_10 fun (x13:(Array Value))=>
 Cl Tryz.prog [(.arr 256),(kInt .u8),kB] n_ref13_Take ⟨[(.agg x13),(.int .i64 i9)]⟩ w_10 fun (r15:(Array Value)) (r16:Int) (r17:Bool) (w_14:World)=>
 Nw 108 ⟨List.replicate 256 (.int .u8 0)⟩ w_14 fun (b19:Nat) (w_18:World)=>
 StA 256 (⟨b19,0,none⟩:Addr) r15 w_18 fun (w_20:World)=>
 Ld (.arr 256) (⟨b19,0,none⟩:Addr) w_20 fun (x21:(Array Value))=>
 StA 256 (⟨b6,0,none⟩:Addr) x21 w_20 fun (w_22:World)=>
 Ld (.arr 256) (⟨b6,0,none⟩:Addr) w_22 fun (res23:(Array Value))=>
 R (res23) (i9) w_22)
 (I_7 ((i64 ((i9:Int)+(1:Int)))) w_10∧m_8 ((i64 ((i9:Int)+(1:Int)))) w_10<m_8 i9 w_10))
 (Ld (.arr 256) (⟨b4,0,none⟩:Addr) w_10 fun (x24:(Array Value))=>
 StA 256 (⟨b6,0,none⟩:Addr) x24 w_10 fun (w_25:World)=>
 Ld (.arr 256) (⟨b6,0,none⟩:Addr) w_25 fun (res26:(Array Value))=>
 R (res26) ((-1)) w_25)
set_option maxRecDepth 100000 in
theorem ref13_Put.ok (l1:(Array Value)) (c2:Int) (R:(Array Value)→Int→World→Prop) (w:World) (h:ref13_Put.E l1 c2 R w):Cl Tryz.prog [(.arr 256),kI] n_ref13_Put ⟨[(.agg l1),(.int .u8 c2)]⟩ w R:=
 calls_of_eq Tryz.mix Tryz.f124 [(.agg l1),(.int .u8 c2)] [(.arr 256),kI] R 29 [.cell 4 108,.tmp 5] (by kernel_rfl) (by kernel_rfl) (by kernel_rfl) (by kernel_rfl) (by kernel_rfl)
  (.s .o (.s (.s .o (.b (.l [(6,kI)] (.s (.s .o (.c .o .o)) (.s (.b (.s .o (.c (.s .o (.s .o .o)) .o))) .o))))) (.s .o .o)))
  (by kernel_rfl) h
set_option maxRecDepth 100000 in
def ref13_New.E (R:(Array Value)→World→Prop) (w:World):Prop:=
 Nw 108 ⟨List.replicate 256 (.int .u8 0)⟩ w fun (b2:Nat) (w_1:World)=>
 Nw 108 ⟨List.replicate 256 (.int .u8 0)⟩ w_1 fun (b4:Nat) (w_3:World)=>
 ∃(I_5:Int→World→Prop) (m_6:Int→World→Nat),I_5 (0) w_3∧
 ∀(i7:Int),∀(w_8:World),I_5 i7 w_8→
 IfB (decide ((i7:Int)<(256:Int)))
 (IdxP (⟨b4,0,none⟩:Addr) 256 i7 1 fun (q9:Addr)=>
 St q9 (.int .u8 (u8 i7)) w_8 fun (w_10:World)=>
 I_5 ((i64 ((i7:Int)+(1:Int)))) w_10∧m_6 ((i64 ((i7:Int)+(1:Int)))) w_10<m_6 i7 w_8)
 (Ld (.arr 256) (⟨b4,0,none⟩:Addr) w_8 fun (x11:(Array Value))=>
 StA 256 (⟨b2,0,none⟩:Addr) x11 w_8 fun (w_12:World)=>
 Ld (.arr 256) (⟨b2,0,none⟩:Addr) w_12 fun (res13:(Array Value))=>
 R (res13) w_12)
set_option maxRecDepth 100000 in
theorem ref13_New.ok (R:(Array Value)→World→Prop) (w:World) (h:ref13_New.E R w):Cl Tryz.prog [(.arr 256)] n_ref13_New ⟨[]⟩ w R:=
 calls_of_eq Tryz.mix Tryz.f126 [] [(.arr 256)] R 12 [.cell 0 108] (by kernel_rfl) (by kernel_rfl) (by kernel_rfl) (by kernel_rfl) (by kernel_rfl)
  (.s .o (.s .o (.s (.s .o (.b (.l [(2,kI)] (.s (.s .o (.c .o .o)) (.s (.b .o) .o))))) (.s .o .o))))
  (by kernel_rfl) h
set_option maxRecDepth 100000 in
def ref13_Take.E (l1:(Array Value)) (place2:Int) (R:(Array Value)→Int→Bool→World→Prop) (w:World):Prop:=
 Nw 108 l1 w fun (b4:Nat) (w_3:World)=>
 Nw 108 ⟨List.replicate 256 (.int .u8 0)⟩ w_3 fun (b6:Nat) (w_5:World)=>
 IfB (decide ((place2:Int)<(0:Int)))
 (Ld (.arr 256) (⟨b4,0,none⟩:Addr) w_5 fun (x7:(Array Value))=>
 StA 256 (⟨b6,0,none⟩:Addr) x7 w_5 fun (w_8:World)=>
 Ld (.arr 256) (⟨b6,0,none⟩:Addr) w_8 fun (res9:(Array Value))=>
 R (res9) (0) (false) w_8)
 (IfB (decide ((place2:Int)>(255:Int)))
 (Ld (.arr 256) (⟨b4,0,none⟩:Addr) w_5 fun (x10:(Array Value))=>
 StA 256 (⟨b6,0,none⟩:Addr) x10 w_5 fun (w_11:World)=>
 Ld (.arr 256) (⟨b6,0,none⟩:Addr) w_11 fun (res12:(Array Value))=>
 R (res12) (0) (false) w_11)
 (IdxP (⟨b4,0,none⟩:Addr) 256 place2 1 fun (q13:Addr)=>
 Ld (kInt .u8) q13 w_5 fun (x14:Int)=>
 ∃(I_15:Int→World→Prop) (m_16:Int→World→Nat),I_15 (place2) w_5∧
 ∀(i17:Int),∀(w_18:World),I_15 i17 w_18→
 IfB (decide ((i17:Int)>(0:Int)))
 (IdxP (⟨b4,0,none⟩:Addr) 256 (i64 ((i17:Int) - (1:Int))) 1 fun (q19:Addr)=>
 Ld (kInt .u8) q19 w_18 fun (x20:Int)=>
 IdxP (⟨b4,0,none⟩:Addr) 256 i17 1 fun (q21:Addr)=>
 St q21 (.int .u8 x20) w_18 fun (w_22:World)=>
 I_15 ((i64 ((i17:Int) - (1:Int)))) w_22∧m_16 ((i64 ((i17:Int) - (1:Int)))) w_22<m_16 i17 w_18)
 (IdxP (⟨b4,0,none⟩:Addr) 256 0 1 fun (q23:Addr)=>
 St q23 (.int .u8 x14) w_18 fun (w_24:World)=>
 Ld (.arr 256) (⟨b4,0,none⟩:Addr) w_24 fun (x25:(Array Value))=>
 StA 256 (⟨b6,0,none⟩:Addr) x25 w_24 fun (w_26:World)=>
 Ld (.arr 256) (⟨b6,0,none⟩:Addr) w_26 fun (res27:(Array Value))=>
 R (res27) (x14) (true) w_26)))
set_option maxRecDepth 100000 in
theorem ref13_Take.ok (l1:(Array Value)) (place2:Int) (R:(Array Value)→Int→Bool→World→Prop) (w:World) (h:ref13_Take.E l1 place2 R w):Cl Tryz.prog [(.arr 256),(kInt .u8),kB] n_ref13_Take ⟨[(.agg l1),(.int .i64 place2)]⟩ w R:=
 calls_of_eq Tryz.mix Tryz.f162 [(.agg l1),(.int .i64 place2)] [(.arr 256),(kInt .u8),kB] R 34 [.cell 4 108,.tmp 5,.tmp 6] (by kernel_rfl) (by kernel_rfl) (by kernel_rfl) (by kernel_rfl) (by kernel_rfl)
  (.s .o (.s (.s .o (.c (.s .o .o) .o)) (.s .o (.s (.s .o (.b (.l [(8,kI)] (.s (.s .o (.c .o .o)) (.s (.b .o) .o))))) (.s .o (.s .o .o))))))
  (by kernel_rfl) h
def ref13_Valid.E (l1:(Array Value)) (R:Bool→World→Prop) (w:World):Prop:=
 Nw 108 l1 w fun (b3:Nat) (w_2:World)=>
 ∃(I_4:Int→World→Prop) (m_5:Int→World→Nat),I_4 (0) w_2∧
 ∀(i6:Int),∀(w_7:World),I_4 i6 w_7→
 IfB (decide ((i6:Int)<(256:Int)))
 (∃(I_8:Int→World→Prop) (m_9:Int→World→Nat),I_8 (0) w_7∧
 ∀(k10:Int),∀(w_11:World),I_8 k10 w_11→
 IfB (decide ((k10:Int)<(i6:Int)))
 (Drw w_11 fun (w_12:World)=>
 IdxP (⟨b3,0,none⟩:Addr) 256 k10 1 fun (q13:Addr)=>
 Ld (kInt .u8) q13 w_12 fun (x14:Int)=>
 IdxP (⟨b3,0,none⟩:Addr) 256 i6 1 fun (q15:Addr)=>
 Ld (kInt .u8) q15 w_12 fun (x16:Int)=>
 IfB ((x14:Int)==(x16:Int))
 (R (false) w_12)
 (I_8 ((i64 ((k10:Int)+(1:Int)))) w_12∧m_9 ((i64 ((k10:Int)+(1:Int)))) w_12<m_9 k10 w_11))
 (I_4 ((i64 ((i6:Int)+(1:Int)))) w_11∧m_5 ((i64 ((i6:Int)+(1:Int)))) w_11<m_5 i6 w_7))
 (R (true) w_7)
theorem ref13_Valid.ok (l1:(Array Value)) (R:Bool→World→Prop) (w:World) (h:ref13_Valid.E l1 R w):Cl Tryz.prog [kB] n_ref13_Valid ⟨[(.agg l1)]⟩ w R:=
 calls_of_eq Tryz.mix Tryz.f168 [(.agg l1)] [kB] R 21 [.tmp 2] (by kernel_rfl) (by kernel_rfl) (by kernel_rfl) (by kernel_rfl) (by kernel_rfl)
  (.s .o (.s (.s .o (.b (.l [(3,kI)] (.s (.s .o (.c .o .o)) (.s (.b (.s .o (.b (.l [(4,kI)] (.s (.s .o (.c .o .o)) (.s (.b (.s .o (.c (.s .o .o) .o))) .o)))))) .o))))) (.s .o .o)))
  (by kernel_rfl) h
end Go.Proofs.YtcdpblipagajiaaGreat
namespace Go.Srt
def acc8 (b:List Nat) (i:Nat):Nat→Nat
 |0=>0
 |t+1=>2*acc8 b i t+b.getD (i+t) 0
theorem acc8_by8 (b:List Nat) (j:Nat):acc8 b (8*j) 8=by8 b j:=by
 simp only [acc8,by8,Nat.add_zero]
 omega
theorem acc8_lt {b:List Nat} (h:Bits b) (i:Nat): ∀t,acc8 b i t<2^t
 |0=>by simp [acc8]
 |t+1=>by
  have:=acc8_lt h i t
  have:=h.getD (i+t)
  rw [acc8,Nat.pow_succ];omega
end Go.Srt
namespace Go.Blk
open Go.Srt Go.Bits
end Go.Blk
namespace Go.Sym
end Go.Sym
namespace Go.Proofs.YtcdpblipagajiaaGreat
open Go Go.Vc Go.Srt Go.Bits Go.Blk Go.Sym
section
variable {E w:World} {F:List HP}
set_option maxRecDepth 20000
theorem tdiv2 (n k:Nat):Int.tdiv (n:Int) (k:Int)=((n/k:Nat):Int):=rfl
theorem tmod2 (n k:Nat):Int.tmod (n:Int) (k:Int)=((n % k:Nat):Int):=rfl
theorem rbytes2_c {s:Sl} {bits:List Nat} {K:Sl→World→Prop} (h:Hp E w F) (hs:Tells F (SlT 1 s ((ints bits).map vI))) (hb:Bits bits) (hn:bits.length≤10000000) (hK: ∀s' w',Hp E w' (OB s' (pack bits)::F)→K s' w'):
  Cl Tryz.prog [kS] n_ref02_Bytes ⟨[.slice s.base s.len s.cap]⟩ w K:=by
 refine ref02_Bytes.ok _ _ _ ?_
 unfold ref02_Bytes.E
 have hl:=slLenI (h.tells hs)
 refine ⟨fun o i w=> ∃j:Nat,i=((8*j:Nat):Int)∧j≤(bits.length+7)/8∧Hp E w (OB o (packTo bits j)::F),fun _ i _=>bits.length+8 - i.toNat,⟨0,rfl,by omega,h.ownNil 1⟩,?_⟩
 rintro o i w ⟨j,rfl,hj,h⟩
 refine IfB.dm (fun hlt=> ?_) (fun hge=> ?_)
 ·refine ⟨fun v k w=> ∃t:Nat,k=((8*j+t:Nat):Int)∧t≤8∧v=(acc8 bits (8*j) t:Int)∧Hp E w (OB o (packTo bits j)::F),fun _ k _=>8*j+8 - k.toNat,⟨0,by simp,by omega,rfl,h⟩,?_⟩
  rintro v k w ⟨t,rfl,ht,rfl,h⟩
  have ha:=acc8_lt hb (8*j) t
  have hp:2^t≤2^8:=Nat.pow_le_pow_right (by decide) ht
  rw [i64_id (x:=((8*j:Nat):Int)+8) (by omega),i64_id (x:=(2:Int)*(acc8 bits (8*j) t:Int)) (by omega)]
  refine IfB.dm (fun hlt2=> ?_) (fun hge2=> ?_)
  ·have hb1:=hb.getD (8*j+t)
   rw [i64_id (x:=((8*j+t:Nat):Int)+1) (by omega)]
   refine IfB.dm (fun hin=> ?_) (fun hout=> ?_)
   ·have hin:8*j+t<bits.length:=by omega
    refine Idx.rI (h.drop.tells hs) rfl hin ?_
    have e:bits.getD (8*j+t) 0=bits[8*j+t]:=getD_get hin
    rw [e] at hb1
    rw [i64_id (by omega)]
    exact ⟨⟨t+1,by omega,by omega,by rw [acc8,e];omega,h⟩,by first|omega|(dsimp only;omega)⟩
   ·have e:bits.getD (8*j+t) 0=0:=getD_ge (by omega)
    exact ⟨⟨t+1,by omega,by omega,by rw [acc8,e];omega,h⟩,by first|omega|(dsimp only;omega)⟩
  ·have ht8:t=8:=by omega
   subst ht8
   rw [acc8_by8] at ha⊢
   rw [u8_id (by omega)]
   refine Nw.mk h fun b w h=>put1B h (by rw [packTo_len];omega) fun s' w h=>⟨⟨j+1,by omega,by omega,?_⟩,by first|omega|(dsimp only;omega)⟩
   have:packTo bits (j+1)=packTo bits j++ [by8 bits j]:=by unfold packTo;rw [List.range_succ,List.map_append];rfl
   rw [this];exact h
 ·have hj2:j=(bits.length+7)/8:=by omega
  subst hj2
  exact hK _ _ h
end
end Go.Proofs.YtcdpblipagajiaaGreat
