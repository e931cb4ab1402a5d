/- Texts packed together by program; spaces struck by program. Conditions: as each theorem states. -/
import Derived.Ground.SlsfProg
import Derived.Laws.MakeOwn
import Derived.MapKept
import Derived.Shelf.SlGeneric
import Derived.Shelf.SlSortCmp.NoneTotal
import Derived.Test.YtcdpblipagajiaaGreatProg
import Derived.Test.YtcdpblipagajiaaGreatQoc
set_option linter.unusedSimpArgs false
set_option linter.unusedVariables false
namespace Go.Proofs.YtcdpblipagajiaaGreat
open Go Go.Vc Go.Srt Go.Inc Go.Tab Go.Bits
section
variable {E w:World} {F:List HP}
set_option maxRecDepth 20000
theorem changes_iter {was now b4 b6:Nat} (h1:was≤255) (h2:now≤255):Iter2 Tryz.prog E (.func (.func n_lengthtable_changes_1) ⟨[]⟩ ⟨[.pointer (some ⟨b6,0,none⟩),.pointer (some ⟨b4,0,none⟩)]⟩) (chg was now).length
  (fun i=> [Ki.enc kI (((chg was now).getD i 0:Nat):Int)]) [bI b6 now,bI b4 was] (fun _=>True):=by
 intro yv C G w K hg hy h hK hKG
 refine ClV.mk (by kernel_rfl) (lengthtable_changes_1.ok yv ⟨b6,0,none⟩ ⟨b4,0,none⟩ K w ?_)
 unfold lengthtable_changes_1.E
 have h:Hp E w (bI b6 now::bI b4 was::C 0):=h
 have one: ∀(k x:Nat) (rest:List Nat) (was':Nat) (w:World) (Kb:Bool→World→Prop),(chg was now).drop k=x::rest→Hp E w (bI b6 now::bI b4 was'::C k)→
   (∀w',Hp E w' (bI b6 now::bI b4 was'::C (k+1))→Kb true w')→(∀w',k<(chg was now).length→Hp E w' (G k)→Kb false w')→ClY Tryz.prog yv [kB] [.int .i64 (x:Int)] w Kb:=by
  intro k x rest was' w Kb hd h hk hf
  have hlt:k<(chg was now).length:=by
   rcases Nat.lt_or_ge k (chg was now).length with q|q
   ·exact q
   ·rw [List.drop_eq_nil_of_le q] at hd;cases hd
  have hx:(chg was now).getD k 0=x:=by
   rw [List.drop_eq_getElem_cons hlt] at hd
   injection hd with e _
   rw [List.getD_eq_getElem?_getD,List.getElem?_eq_getElem hlt,Option.getD_some,e]
  have he: [Value.int .i64 (x:Int)]= [Ki.enc kI (((chg was now).getD k 0:Nat):Int)]:=by rw [hx]
  rw [he]
  refine hy k hlt [bI b6 now,bI b4 was'] w _ (h.perm (List.perm_append_comm (l₁:= [bI b6 now,bI b4 was']))) (fun w h=> ?_) (fun w h=> ?_)
  ·exact hk w (h.perm (List.perm_append_comm (l₂:= [bI b6 now,bI b4 was'])))
  ·exact hf w hlt (h.perm (List.perm_append_comm (l₂:= [bI b6 now,bI b4 was']))).drop.drop
 have last: ∀(k was':Nat) (w:World),(chg was now).drop k= [0]→Hp E w (bI b6 now::bI b4 was'::C k)→ClY Tryz.prog yv [kB] [.int .i64 0] w fun _ w=>K w:=by
  intro k was' w hd h
  have hlen:(chg was now).length=k+1:=by
   have:=congrArg List.length hd
   simp at this;omega
  refine one k 0 [] was' w _ hd h (fun w h=> ?_) (fun w hk h=>hKG k w hk h)
  rw [←hlen] at h
  exact hK w h.drop.drop
 have hdn: ∀j,downs (j+1)=1::1::downs j:=fun _=>rfl
 have hup: ∀j,ups (j+1)=1::0::ups j:=fun _=>rfl
 refine Ld.xb (x:=(now:Int)) h rfl (Ld.xb (x:=(was:Int)) h rfl (IfB.dm (fun hlt=> ?_) (fun hge=> ?_)))
 ·have hlt:now<was:=by omega
  refine ⟨fun w=> ∃k was':Nat,now≤was'∧was'≤was∧(chg was now).drop k=downs (was' - now)++ [0]∧k+2*(was' - now)+1=(chg was now).length∧Hp E w (bI b6 now::bI b4 was'::C k),
   fun w=>cellN b4 w,⟨0,was,by omega,by omega,?_,?_,h⟩,?_⟩
  ·unfold chg;rw [if_pos hlt];rfl
  ·unfold chg;rw [if_pos hlt]
   have: ∀j,(downs j).length=2*j:=fun j=>by
    induction j with
    |zero=>rfl
    |succ j ih=>rw [hdn,List.length_cons,List.length_cons,ih];omega
   simp [this]
  rintro w ⟨k,was',h3,h4,hd,hkl,h⟩
  refine Ld.xb (x:=(was':Int)) h rfl (Ld.xb (x:=(now:Int)) h rfl (IfB.nm (fun hne=> ?_) (fun he=> ?_)))
  ·obtain ⟨j,hj⟩: ∃j,was' - now=j+1:=⟨was' - now - 1,by omega⟩
   rw [hj,hdn] at hd
   have hd2:(chg was now).drop (k+1)=1::(downs j++ [0]):=by rw [←List.drop_drop,hd];rfl
   have hd3:(chg was now).drop (k+2)=downs j++ [0]:=by rw [show k+2=(k+1)+1 by omega,←List.drop_drop,hd2];rfl
   refine one k 1 _ was' w _ hd h (fun w1 h1=> ?_) (fun w1 hk1 h1=>IfB.t rfl (hKG k w1 hk1 h1))
   refine IfB.f rfl ?_
   refine one (k+1) 1 _ was' w1 _ hd2 h1 (fun w2 h2=> ?_) (fun w2 hk2 h2=>IfB.t rfl (hKG (k+1) w2 hk2 h2))
   refine IfB.f rfl ?_
   refine Ld.xb (x:=(was':Int)) h2 rfl ?_
   rw [i64_id (x:=(2:Int)*1) (by omega),i64_id (x:=(1:Int) - 2*1) (by omega),i64_id (by omega)]
   refine St.xb h2 (by simp) rfl fun w3 h3'=> ?_
   rw [show (was':Int)+(1 - 2*1)=((was' - 1:Nat):Int) by omega] at h3'
   have h3':Hp E w3 (bI b6 now::bI b4 (was' - 1)::C (k+2)):=h3'
   refine ⟨rfl,⟨k+2,was' - 1,by omega,by omega,?_,by omega,h3'⟩,?_⟩
   ·rw [hd3,show was' - 1 - now=j by omega]
   ·show cellN b4 w3<cellN b4 w
    rw [cellN_eq (v:=((was' - 1:Nat):Int)) h3' rfl,cellN_eq (v:=(was':Int)) h rfl]
    omega
  ·have e:was' - now=0:=by omega
   rw [e] at hd
   exact last k was' w hd h
 ·refine ⟨fun w=> ∃k was':Nat,was'≤now∧was≤was'∧(chg was now).drop k=ups (now - was')++ [0]∧k+2*(now - was')+1=(chg was now).length∧Hp E w (bI b6 now::bI b4 was'::C k),
   fun w=>255 - cellN b4 w,⟨0,was,by omega,by omega,?_,?_,h⟩,?_⟩
  ·unfold chg;rw [if_neg (by omega)];rfl
  ·unfold chg;rw [if_neg (by omega)]
   have: ∀j,(ups j).length=2*j:=fun j=>by
    induction j with
    |zero=>rfl
    |succ j ih=>rw [hup,List.length_cons,List.length_cons,ih];omega
   simp [this]
  rintro w ⟨k,was',h3,h4,hd,hkl,h⟩
  refine Ld.xb (x:=(was':Int)) h rfl (Ld.xb (x:=(now:Int)) h rfl (IfB.nm (fun hne=> ?_) (fun he=> ?_)))
  ·obtain ⟨j,hj⟩: ∃j,now - was'=j+1:=⟨now - was' - 1,by omega⟩
   rw [hj,hup] at hd
   have hd2:(chg was now).drop (k+1)=0::(ups j++ [0]):=by rw [←List.drop_drop,hd];rfl
   have hd3:(chg was now).drop (k+2)=ups j++ [0]:=by rw [show k+2=(k+1)+1 by omega,←List.drop_drop,hd2];rfl
   refine one k 1 _ was' w _ hd h (fun w1 h1=> ?_) (fun w1 hk1 h1=>IfB.t rfl (hKG k w1 hk1 h1))
   refine IfB.f rfl ?_
   refine one (k+1) 0 _ was' w1 _ hd2 h1 (fun w2 h2=> ?_) (fun w2 hk2 h2=>IfB.t rfl (hKG (k+1) w2 hk2 h2))
   refine IfB.f rfl ?_
   refine Ld.xb (x:=(was':Int)) h2 rfl ?_
   rw [i64_id (x:=(2:Int)*0) (by omega),i64_id (x:=(1:Int) - 2*0) (by omega),i64_id (by omega)]
   refine St.xb h2 (by simp) rfl fun w3 h3'=> ?_
   rw [show (was':Int)+(1 - 2*0)=((was'+1:Nat):Int) by omega] at h3'
   have h3':Hp E w3 (bI b6 now::bI b4 (was'+1)::C (k+2)):=h3'
   refine ⟨rfl,⟨k+2,was'+1,by omega,by omega,?_,by omega,h3'⟩,?_⟩
   ·rw [hd3,show now - (was'+1)=j by omega]
   ·show 255 - cellN b4 w3<255 - cellN b4 w
    rw [cellN_eq (v:=((was'+1:Nat):Int)) h3' rfl,cellN_eq (v:=(was':Int)) h rfl]
    omega
  ·have e:now - was'=0:=by omega
   rw [e] at hd
   exact last k was' w hd h
theorem tabs_snoc: ∀(m:List Nat) (was n:Nat),tabs was (m++ [n])=tabs was m++chg (m.getLastD was) n
 | [],was,n=>by simp [tabs]
 |x::m,was,n=>by
  rw [List.cons_append,tabs,tabs,tabs_snoc m x n,List.append_assoc]
  congr 2
  cases m<;>rfl
theorem chg_len {a b:Nat} (ha:a≤15) (hb:b≤15):(chg a b).length≤31:=by
 have hd: ∀j,(downs j).length=2*j:=fun j=>by
  induction j with
  |zero=>rfl
  |succ j ih=>rw [show downs (j+1)=1::1::downs j from rfl,List.length_cons,List.length_cons,ih];omega
 have hu: ∀j,(ups j).length=2*j:=fun j=>by
  induction j with
  |zero=>rfl
  |succ j ih=>rw [show ups (j+1)=1::0::ups j from rfl,List.length_cons,List.length_cons,ih];omega
 unfold chg
 rw [List.length_append,List.length_singleton]
 split
 ·rw [hd];omega
 ·rw [hu];omega
theorem tabs_len: ∀(m:List Nat) (was:Nat),was≤15→(∀x∈m,x≤15)→(tabs was m).length≤31*m.length
 | [],_,_,_=>by simp [tabs]
 |x::m,was,h,hm=>by
  have h1:=hm x List.mem_cons_self
  have h2:=chg_len h h1
  have h3:=tabs_len m x h1 fun y hy=>hm y (List.mem_cons_of_mem _ hy)
  rw [tabs,List.length_append,List.length_cons];omega
theorem four_bit {x k:Nat} (hx:x≤15) (hk:k<4):(four x)[k]? =some (x/2^(3 - k) % 2):=by
 match k,hk with
 |0,_=>rfl
 |1,_=>rfl
 |2,_=>rfl
 |3,_=>simp [four]
theorem tof_c {l:List Nat} {K:Sl→Int→World→Prop} (h:Hp E w F) (hl:l.length=258) (hbad:okT l=false→∀w',Hp E w' F→K ⟨none,0,0⟩ 2 w')
  (hK:okT l=true→∀s w',Hp E w' (OwnS 1 s ((ints (tput l)).map vI)::F)→K s 0 w'):Cl Tryz.prog [kS,kI] n_lengthtable_Of ⟨[.agg (ai .u8 l)]⟩ w K:=by
 refine lengthtable_Of.ok _ _ _ ?_
 unfold lengthtable_Of.E
 (try simp only [Join_eq,NilCk_some,add_mk,Nat.zero_add,Nat.add_zero,Nat.reduceAdd,Bool.not_true,Bool.not_false,IfB_t,IfB_f,Option.isNone])
 have hsz:(ai .u8 l).size=258:=by rw [ai_size,hl]
 refine Nw.mk h fun b3 w h=>Nw.mk h fun b5 w h=>Ld.xw h hsz (table_c h hl fun w h=> ?_)
 by_cases hok:okT l=true
 ·rw [hok]
  refine IfB.f rfl ?_
  have h15:=Blk.okT_15 hok
  obtain ⟨x,m,rfl⟩: ∃x m,l=x::m:=by
   cases l with
   |nil=>simp at hl
   |cons x m=>exact ⟨x,m,rfl⟩
  have hx15:=h15 x List.mem_cons_self
  refine ⟨by decide,by decide,Ld.xb (x:=(x:Int)) h rfl ?_⟩
  rw [i64_id (by omega)]
  have h0:Hp E w (OutI b5 []::Blk b3 (.cells (ai .u8 (x::m)) 36 (0,0))::F):=OutI.shut (s:=⟨none,0,0⟩) ((h.ownNil 1).p1)
  refine ⟨fun i w=> ∃k:Nat,i=(k:Int)∧k≤4∧Hp E w (OutI b5 ((four x).take k)::Blk b3 (.cells (ai .u8 (x::m)) 36 (0,0))::F),fun i _=>4 - i.toNat,⟨0,rfl,by omega,h0⟩,?_⟩
  rintro i w ⟨k,rfl,hk,h⟩
  refine IfB.dm (fun hlt=> ?_) (fun hge=> ?_)
  ·have hlt:k<4:=by omega
   refine Drw.mk h fun w h=> ?_
   have ebit:iand .i64 (ishr .i64 (x:Int) (i64 (3 - (k:Int)))) 1=((x/2^(3 - k) % 2:Nat):Int):=by
    have hmx:IntKind.max .i64=9223372036854775807:=rfl
    have hd:x/2^(3 - k)≤x:=Nat.div_le_self _ _
    rw [i64_id (by omega),show (3:Int) - (k:Int)=((3 - k:Nat):Int) by omega,ishr_nat (by have:IntKind.bits .i64=64:=rfl;omega),show (1:Int)=((1:Nat):Int) from rfl,iand_nat (by omega) (by omega),Nat.and_one_is_mod]
   rw [ebit]
   have e4:(four x).take k++ [x/2^(3 - k) % 2]=(four x).take (k+1):=by rw [List.take_add_one,four_bit hx15 hlt];rfl
   have hl4:((four x).take k).length≤1000000:=by rw [List.length_take];simp [four];omega
   rw [i64_id (x:=(3:Int) - (k:Int)) (by omega),i64_id (x:=(k:Int)+1) (by omega)]
   have fin: ∀w',Hp E w' (OutI b5 ((four x).take k++ [x/2^(3 - k) % 2])::Blk b3 (.cells (ai .u8 (x::m)) 36 (0,0))::F)→True∧(∃k':Nat,(k:Int)+1=(k':Int)∧k'≤4∧Hp E w' (OutI b5 ((four x).take k')::Blk b3 (.cells (ai .u8 (x::m)) 36 (0,0))::F))∧4 - ((k:Int)+1).toNat<4 - ((k:Int)).toNat:=fun w' h=>by
    rw [e4] at h
    exact ⟨trivial,⟨k+1,by omega,by omega,h⟩,by omega⟩
   obtain ⟨s,_,h⟩:=h.ex
   have h:Hp E w (Blk b5 (.cells ⟨[slV s]⟩ 33 (0,0))::OwnS 1 s ((ints ((four x).take k)).map vI)::Blk b3 (.cells (ai .u8 (x::m)) 36 (0,0))::F):=h
   refine ⟨by omega,?_,?_⟩
   ·refine Ld.xb (x:=s) h rfl (Nw.mk h fun b20 w h=> ?_)
    exact OutI.put (l:= []) h hl4 fin
   ·refine Nw.mk h fun b20 w h=>Ld.xb (x:=s) h rfl ?_
    exact OutI.put (l:= []) h hl4 fin
  ·have hk4:k=4:=by omega
   subst hk4
   refine Ld.xw h hsz ?_
   have e0:(four x).take 4=four x++tabs x ((x::m).take 0):=by simp [four,tabs]
   rw [e0] at h
   refine ⟨fun ms was i w=> ∃k:Nat,i=(k:Int)∧k≤258∧was=((((x::m).take k).getLastD x:Nat):Int)∧Hp E w (OutI b5 (four x++tabs x ((x::m).take k))::Blk b3 (.cells (ai .u8 (x::m)) 36 (0,0))::(ms.map (fun D=>Blk D (.deferred (some [])))++F)),
    fun _ i _=>258 - i.toNat,⟨0,rfl,by omega,rfl,h⟩,?_⟩
   rintro ms was i w ⟨k,rfl,hk,rfl,h⟩
   refine IfB.dm (fun hlt=> ?_) (fun hge=> ?_)
   ·have hlt:k<258:=by omega
    have hlt2:k<(x::m).length:=by omega
    have hn15:=h15 _ (List.getElem_mem hlt2)
    have hw15:((x::m).take k).getLastD x≤15:=by
     cases hc:((x::m).take k).getLast? with
     |none=>rw [List.getLastD_eq_getLast?,hc];exact hx15
     |some y=>
      rw [List.getLastD_eq_getLast?,hc]
      exact h15 y (List.mem_of_mem_take (List.mem_of_getLast? hc))
    have hk':((x::m).take k++ [(x::m)[k]])=(x::m).take (k+1):=by rw [List.take_add_one,List.getElem?_eq_getElem hlt2];rfl
    have htl:(four x++tabs x ((x::m).take k)).length≤9000:=by
     have:=tabs_len ((x::m).take k) x hx15 fun y hy=>h15 y (List.mem_of_mem_take hy)
     rw [List.length_append,show (four x).length=4 from rfl]
     rw [List.length_take] at this
     omega
    generalize hwas:((x::m).take k).getLastD x=was at hw15 h⊢
    generalize hnow:(x::m)[k]=now at hn15 hk'
    refine ⟨by omega,by omega,(now:Int),by rw [show ((k:Int)).toNat=k by omega,ai_get hlt2,hnow],?_⟩
    dsimp only
    rw [i64_id (x:=(now:Int)) (by omega),i64_id (x:=(k:Int)+1) (by omega)]
    refine lengthtable_changes.ok _ _ _ _ ?_
    unfold lengthtable_changes.E
    refine Nw.mk h fun b4 w h=>Nw.mk h fun b6 w h=> ?_
    have hcl:=chg_len hw15 hn15
    refine Rng.one2 (E:=E) (k:=kI) (x:=fun i=>(((chg was now).getD i 0:Nat):Int)) (n:=(chg was now).length) (fun i=>OutI b5 (four x++tabs x ((x::m).take k)++(chg was now).take i)::Blk b3 (.cells (ai .u8 (x::m)) 36 (0,0))::(ms.map (fun D=>Blk D (.deferred (some [])))++F)) (fun _=> [Nope])
     (A:= [bI b6 now,bI b4 was]) ?_ (fun _=>Tells.const trivial) (changes_iter (by omega) (by omega)) ?_ ?_ ?_
    ·rw [List.take_zero,List.append_nil];exact h
    ·intro lr rec i A w Kt Kf hi h hKt _
     refine Beg.mk h fun w h=> ?_
     obtain ⟨s,_,h⟩:=(h.p1).ex
     have h:Hp E w (Blk b5 (.cells ⟨[slV s]⟩ 33 (0,0))::OwnS 1 s ((ints (four x++tabs x ((x::m).take k)++(chg was now).take i)).map vI)::Blk lr (rec 1)::Blk b3 (.cells (ai .u8 (x::m)) 36 (0,0))::((ms.map (fun D=>Blk D (.deferred (some [])))++F)++A)):=h
     refine Ld.xb (x:=s) h rfl (Nw.mk h fun b49 w h=> ?_)
     refine OutI.put (l:= []) h (by rw [List.length_append,List.length_take];omega) fun w h=>EndT.mk h.p1 fun w h=>hKt w ?_
     have e:four x++tabs x ((x::m).take k)++(chg was now).take i++ [(chg was now).getD i 0]=four x++tabs x ((x::m).take k)++(chg was now).take (i+1):=by
      rw [List.append_assoc,List.take_add_one,List.getElem?_eq_getElem hi,List.getD_eq_getElem?_getD,List.getElem?_eq_getElem hi];rfl
     rw [e] at h
     exact h
    ·intro D w h
     rw [List.take_of_length_le (Nat.le_refl _),List.append_assoc,←hwas,←tabs_snoc,hk'] at h
     refine ⟨⟨k+1,by omega,by omega,?_,?_⟩,by first|omega|(dsimp only;omega)⟩
     ·rw [←hk',List.getLastD_concat]
     ·exact h.q2
    ·intro i D w hi h
     exact (Hp.nope h).elim
   ·have hk2:k=258:=by omega
    subst hk2
    rw [List.take_of_length_le (by omega)] at h
    obtain ⟨s,_,h⟩:=h.ex
    have h:Hp E w (Blk b5 (.cells ⟨[slV s]⟩ 33 (0,0))::OwnS 1 s ((ints (four x++tabs x (x::m))).map vI)::Blk b3 (.cells (ai .u8 (x::m)) 36 (0,0))::(ms.map (fun D=>Blk D (.deferred (some [])))++F)):=h
    refine Ld.xb (x:=s) h rfl (St.xs h rfl rfl fun w h=> ?_)
    dsimp only [spl,over] at h
    refine Dfr.mk (ms:=ms) (F:=Blk b5 (.cells ⟨[slV s]⟩ 33 (0,0))::OwnS 1 s ((ints (four x++tabs x (x::m))).map vI)::Blk b3 (.cells (ai .u8 (x::m)) 36 (0,0))::F) (h.perm (List.perm_append_comm_assoc [_,_,_] _ _)) fun w h=>Ld.xb (x:=s) h rfl (hK hok s w ?_)
    exact h.drop.keep1
 ·rw [show okT l=false by simpa using hok]
  refine IfB.t rfl (St.xs h rfl rfl fun w h=> ?_)
  dsimp only [spl,over] at h
  exact Ld.xb (x:=⟨none,0,0⟩) h rfl (hbad (by simpa using hok) w h.tl)
theorem tput_short {l:List Nat} (hl:l.length=258) (hok:okT l=true):(tput l).length≤9000:=by
 have h15:=Blk.okT_15 hok
 have hh:l.headD 0≤15:=by
  cases l with
  |nil=>simp at hl
  |cons x l=>exact h15 x List.mem_cons_self
 have:=tabs_len l (l.headD 0) hh h15
 unfold tput
 rw [List.length_append,show (four (l.headD 0)).length=4 from rfl]
 omega
theorem tputW_c {l:List Nat} {b:Nat} {bits:List Nat} {K:Int→World→Prop} (h:Hp E w (Wr b bits::F)) (hl:l.length=258) (hok:okT l=true) (hbig:bits.length≤1000000)
  (hK: ∀w',Hp E w' (Wr b (bits++tput l)::F)→K 0 w'):Cl Tryz.prog [kI] n_lengthtable_Put ⟨[.pointer (some ⟨b,0,none⟩),.agg (ai .u8 l)]⟩ w K:=by
 refine lengthtable_Put.ok _ _ _ _ ?_
 unfold lengthtable_Put.E
 have hsz:(ai .u8 l).size=258:=by rw [ai_size,hl]
 refine Nw.mk h fun b4 w h=>Ld.xw h hsz (tof_c h hl (fun hf=>absurd hok (by rw [hf];decide)) fun _ s w h=>IfB.f rfl (IfB.f rfl ?_))
 have hlen:=(h.ownLen)
 simp only [ints,List.length_map,Nat.mul_one] at hlen
 have hb:=Blk.tput_bits l
 have htl:=tput_short hl hok
 refine ⟨fun i w=> ∃k:Nat,i=(k:Int)∧k≤(tput l).length∧Hp E w (OwnS 1 s ((ints (tput l)).map vI)::Wr b (bits++(tput l).take k)::F),fun i _=>(tput l).length - i.toNat,⟨0,rfl,by omega,by rw [List.take_zero,List.append_nil];exact h.no 1⟩,?_⟩
 rintro i w ⟨k,rfl,hk,h⟩
 refine IfB.dm (fun hlt=> ?_) (fun hge=> ?_)
 ·have hlt:k<(tput l).length:=by omega
  have hx:=hb _ (List.getElem_mem hlt)
  refine Idx.rd (h.tells Tells.own) (by omega) (by omega) fun q hi hq=> ?_
  refine Ld.sc (s:= .int .i64) ((tput l)[k]:Int) (by rw [hq];simp [Sc.enc,vI,ints]) ?_
  rw [u32_id (by omega)]
  refine putW_c (width:=1) h.p1 (by decide) (by omega) (by omega) (by rw [List.length_append,List.length_take,big_eq];omega) fun w h=> ?_
  rw [i64_id (by omega)]
  refine ⟨⟨k+1,rfl,by omega,?_⟩,by first|omega|(dsimp only;omega)⟩
  have e:bits++(tput l).take k++bn 1 (tput l)[k]=bits++(tput l).take (k+1):=by
   rw [List.append_assoc,List.take_add_one,List.getElem?_eq_getElem hlt]
   congr 2
   generalize (tput l)[k]=x at hx
   have:x=0∨x=1:=by omega
   rcases this with rfl|rfl<;>rfl
  rw [e] at h
  exact h.p1
 ·have hk2:k=(tput l).length:=by omega
  subst hk2
  rw [List.take_of_length_le (Nat.le_refl _)] at h
  exact hK w h.drop
end
end Go.Proofs.YtcdpblipagajiaaGreat
namespace Go.Proofs.YtcdpblipagajiaaGreat
open Go Go.Vc
set_option maxRecDepth 100000 in
def prefixenc_Put.E (w_1:(Option Addr)) (l2:(Array Value)) (symbols3:Sl) (R:Int→World→Prop) (w:World):Prop:=
 Nw 36 l2 w fun (b5:Nat) (w_4:World)=>
 Ld (.arr 258) (⟨b5,0,none⟩:Addr) w_4 fun (x6:(Array Value))=>
 Cl Tryz.prog [kI,kI] n_prefixenc_Size ⟨[(.agg x6),(.slice symbols3.base symbols3.len symbols3.cap)]⟩ w_4 fun (r8:Int) (r9:Int) (w_7:World)=>
 Join (fun (w_11:World)=>
 Ld (.arr 258) (⟨b5,0,none⟩:Addr) w_11 fun (x12:(Array Value))=>
 Cl Tryz.prog [(.arr 258),kI] n_canonical_Codes ⟨[(.agg x12)]⟩ w_11 fun (r14:(Array Value)) (r15:Int) (w_13:World)=>
 Nw 101 ⟨List.replicate 258 (.int .u32 0)⟩ w_13 fun (b17:Nat) (w_16:World)=>
 StA 258 (⟨b17,0,none⟩:Addr) r14 w_16 fun (w_18:World)=>
 ∃(I_19:Int→World→Prop) (m_20:Int→World→Nat),I_19 (0) w_18∧
 ∀(t32_21:Int),∀(w_22:World),I_19 t32_21 w_22→
 IfB (decide ((t32_21:Int)<((symbols3.len:Int):Int)))
 (Idx symbols3 t32_21 1 fun (q23:Addr)=>
 Ld kI q23 w_22 fun (x24:Int)=>
 Drw w_22 fun (w_25:World)=>
 IdxP (⟨b17,0,none⟩:Addr) 258 x24 1 fun (q26:Addr)=>
 Ld (kInt .u32) q26 w_25 fun (x27:Int)=>
 IdxP (⟨b5,0,none⟩:Addr) 258 x24 1 fun (q28:Addr)=>
 Ld (kInt .u8) q28 w_25 fun (x29:Int)=>
 Cl Tryz.prog [kB] n_bitwriter_Writer_Put ⟨[(.pointer w_1),(.int .u32 x27),(.int .i64 (i64 x29))]⟩ w_25 fun (r31:Bool) (w_30:World)=>
 I_19 ((i64 ((t32_21:Int)+(1:Int)))) w_30∧m_20 ((i64 ((t32_21:Int)+(1:Int)))) w_30<m_20 t32_21 w_22)
 (R (0) w_22)) fun (K_10:World→Prop)=>
 IfB (Option.isNone (w_1:Option Addr))
 (R (2) w_7)
 (IfB ((r9:Int) !=(0:Int))
 (R (2) w_7)
 (K_10 w_7))
set_option maxRecDepth 100000 in
theorem prefixenc_Put.ok (w_1:(Option Addr)) (l2:(Array Value)) (symbols3:Sl) (R:Int→World→Prop) (w:World) (h:prefixenc_Put.E w_1 l2 symbols3 R w):Cl Tryz.prog [kI] n_prefixenc_Put ⟨[(.pointer w_1),(.agg l2),(.slice symbols3.base symbols3.len symbols3.cap)]⟩ w R:=
 calls_of_eq Tryz.mix Tryz.f48 [(.pointer w_1),(.agg l2),(.slice symbols3.base symbols3.len symbols3.cap)] [kI] R 46 [.tmp 6] (by kernel_rfl) (by kernel_rfl) (by kernel_rfl) (by kernel_rfl) (by kernel_rfl)
  (.s .o (.s .o (.j [] (.s .o (.c (.s .o .o) .o)) (.s .o (.s (.s .o (.b (.l [(32,kI)] (.s .o (.s (.c .o .o) (.s (.b (.s .o .o)) .o)))))) (.s .o .o))))))
  (by kernel_rfl) h
def prefixenc_Size.E (l1:(Array Value)) (symbols2:Sl) (R:Int→Int→World→Prop) (w:World):Prop:=
 Nw 36 l1 w fun (b4:Nat) (w_3:World)=>
 Ld (.arr 258) (⟨b4,0,none⟩:Addr) w_3 fun (x5:(Array Value))=>
 Cl Tryz.prog [kB] n_canonical_Valid ⟨[(.agg x5)]⟩ w_3 fun (r7:Bool) (w_6:World)=>
 IfB (!r7)
 (R (0) (2) w_6)
 (∃(I_8:Int→Int→World→Prop) (m_9:Int→Int→World→Nat),I_8 (0) (0) w_6∧
 ∀(n10:Int) (t13_11:Int),∀(w_12:World),I_8 n10 t13_11 w_12→
 IfB (decide ((t13_11:Int)<((symbols2.len:Int):Int)))
 (Idx symbols2 t13_11 1 fun (q13:Addr)=>
 Ld kI q13 w_12 fun (x14:Int)=>
 IfB (decide ((x14:Int)<(0:Int)))
 (R (0) (2) w_12)
 (IfB (decide ((x14:Int)≥(258:Int)))
 (R (0) (2) w_12)
 (IdxP (⟨b4,0,none⟩:Addr) 258 x14 1 fun (q15:Addr)=>
 Ld (kInt .u8) q15 w_12 fun (x16:Int)=>
 IfB ((x16:Int)==(0:Int))
 (R (0) (2) w_12)
 (IdxP (⟨b4,0,none⟩:Addr) 258 x14 1 fun (q17:Addr)=>
 Ld (kInt .u8) q17 w_12 fun (x18:Int)=>
 I_8 ((i64 ((n10:Int)+((i64 x18):Int)))) ((i64 ((t13_11:Int)+(1:Int)))) w_12∧m_9 ((i64 ((n10:Int)+((i64 x18):Int)))) ((i64 ((t13_11:Int)+(1:Int)))) w_12<m_9 n10 t13_11 w_12))))
 (R (n10) (0) w_12))
theorem prefixenc_Size.ok (l1:(Array Value)) (symbols2:Sl) (R:Int→Int→World→Prop) (w:World) (h:prefixenc_Size.E l1 symbols2 R w):Cl Tryz.prog [kI,kI] n_prefixenc_Size ⟨[(.agg l1),(.slice symbols2.base symbols2.len symbols2.cap)]⟩ w R:=
 calls_of_eq Tryz.mix Tryz.f96 [(.agg l1),(.slice symbols2.base symbols2.len symbols2.cap)] [kI,kI] R 37 [.tmp 4,.tmp 5] (by kernel_rfl) (by kernel_rfl) (by kernel_rfl) (by kernel_rfl) (by kernel_rfl)
  (.s .o (.s (.s .o (.c (.s .o .o) .o)) (.s (.s .o (.b (.l [(4,kI),(13,kI)] (.s .o (.s (.c .o .o) (.s (.b (.s .o (.s (.s .o (.c (.s .o .o) .o)) .o))) .o)))))) (.s .o .o))))
  (by kernel_rfl) h
end Go.Proofs.YtcdpblipagajiaaGreat
set_option maxRecDepth 20000
namespace Go.Proofs.YtcdpblipagajiaaGreat
open Go Go.Vc Go.Srt
section
variable {E w:World} {F:List HP}
set_option maxRecDepth 20000 in
theorem codes_c {l:List Nat} {K:Array Value→Int→World→Prop} (h:Hp E w F) (hl:l.length=258) (hK1: ¬ksum l≤32768→∀w',Hp E w' F→K (ai .u32 (List.replicate 258 0)) 2 w')
  (hK2:ksum l≤32768→∀ys w',IsOrd l ys→Hp E w' F→K (ai .u32 (codesTo l ys ys.length)) 0 w'):Cl Tryz.prog [.arr 258,kI] n_canonical_Codes ⟨[.agg (ai .u8 l)]⟩ w K:=by
 refine canonical_Codes.ok _ _ _ ?_
 unfold canonical_Codes.E
 rw [ai_zero]
 refine Nw.mk h fun b3 w1 h1=>Nw.mk h1 fun b5 w2 h2=>Ld.arr h2.p1 (by rw [ai_size,hl]) (cvalid_c h2 hl fun w3 h3=> ?_)
 refine IfB.mk (fun hv=> ?_) (fun hv=> ?_)
 ·have hv: ¬ksum l≤32768:=by simpa using hv
  refine Ld.arr h3 (by rw [ai_size];simp) (StA.blk h3 (by rw [ai_size];simp) (by rw [ai_size];simp) ai_scalar fun w4 h4=>Ld.arr h4 (by rw [ai_size];simp) (hK1 hv w4 h4.drop.drop))
 ·have hv:ksum l≤32768:=by simpa using hv
  refine Ld.arr h3.p1 (by rw [ai_size,hl]) (order_c h3 hl (fun hn=>absurd hv hn) fun _ ys s w4 hys h4=> ?_)
  have hpl:=h4.ownLen
  simp only [ints,List.length_map,Nat.mul_one] at hpl
  have hin: ∀s∈ys,s<258∧0<l.getD s 0:=fun s hs=>by
   have:=used_mem.1 (hys.1.mem_iff.1 hs)
   rw [hl] at this;exact this
  have hlen:ys.length≤258:=by
   rw [hys.1.length_eq,←hl]
   have:=List.length_filter_le (fun s=>decide (0<l.getD s 0)) (List.range l.length)
   simpa [used] using this
  refine ⟨fun nx la i w'=> ∃k n a:Nat,i=(k:Int)∧nx=(n:Int)∧la=(a:Int)∧k≤ys.length∧n*2^(15 - a)=Srt.start l ys k∧a≤15∧(∀j (hj:j<ys.length),k≤j→a≤l.getD ys[j] 0)∧
    Hp E w' (OwnS 1 s ((ints ys).map vI)::Blk b5 (.cells (ai .u32 (codesTo l ys k)) 101 (0,0))::Blk b3 (.cells (ai .u8 l) 36 (0,0))::F),
   fun _ _ i _=>ys.length - i.toNat,⟨0,0,0,rfl,rfl,rfl,by omega,by simp [Srt.start],by omega,fun j hj _=>Nat.zero_le _,h4⟩,?_⟩
  intro nx la i w' hI
  obtain ⟨k,n,a,hi,hn,ha,hk,hst,ha15,hmono,hh⟩:=hI
  subst hi;subst hn;subst ha
  refine IfB.mk (fun hlt=> ?_) (fun hge=> ?_)
  ·have hlt:k<ys.length:=by have:=of_decide_eq_true hlt;omega
   have hin2:=hin _ (List.getElem_mem hlt)
   have hyl:ys[k]<l.length:=by omega
   have hg:l.getD ys[k] 0=l[ys[k]]:=by rw [List.getD_eq_getElem?_getD,List.getElem?_eq_getElem hyl];rfl
   refine rdI hh (by omega) (x:=(ys[k]:Int)) (by simp [ints,hlt]) ?_
   refine IdxP.rd (s:= .int .u8) hh.p2 (by omega) (by omega) (l[ys[k]]:Int) (by rw [Int.toNat_natCast];exact ai_get hyl) ?_
   have ha:=hmono k hlt (Nat.le_refl _)
   have h15:=len15 hv ys[k]
   rw [hg] at ha h15 hin2
   rw [u8_id (by omega)]
   refine ⟨by omega,?_⟩
   have hd:Hp E {w' with drawn:=w'.drawn+1} _:=hh.drew
   refine ⟨fun w'=> ∃cs,Hp E w' (OwnS 1 s ((ints ys).map vI)::Blk b5 (.cells cs 101 (0,0))::Blk b3 (.cells (ai .u8 l) 36 (0,0))::F),⟨_,hd⟩,by omega,by omega,(l[ys[k]]:Int),?_,?_⟩
   ·rintro w2 ⟨cs,h2⟩
    rw [add_mk,h2.p2.cell,Int.toNat_natCast,Nat.zero_add,Nat.mul_one]
    exact ai_get hyl
   ·have hsk:=start_succ (l:=l) hlt
    have hcm:=codeAt_mul hys hlt
    have hcl:=codeAt_lt hv hys hlt
    have hp15:2^l.getD ys[k] 0≤2^15:=Nat.pow_le_pow_right (by decide) (len15 hv _)
    have hcode:n*2^(l[ys[k]] - a)=codeAt l ys k:=by
     have h1:n*2^(l[ys[k]] - a)*sh l ys[k]=codeAt l ys k*sh l ys[k]:=by
      rw [hcm,←hst]
      unfold sh
      rw [hg,Nat.mul_assoc,←Nat.pow_add]
      congr 2;omega
     exact Nat.eq_of_mul_eq_mul_right (sh_pos l ys[k]) h1
    have e1:ishl .u32 (n:Int) ((l[ys[k]]:Int) - (a:Int))=(codeAt l ys k:Int):=by
     have hmx:IntKind.max .u32=4294967295:=rfl
     have:=ishl_nat (k:= .u32) (a:=n) (b:=l[ys[k]] - a) (by have:IntKind.bits .u32=32:=rfl;omega) (by rw [hmx,hcode];omega)
     rw [hcode] at this
     rw [←this]
     congr 1;omega
    rw [e1]
    refine IdxP.wr hd.p1 (by omega) (by omega) (by rw [ai_size,codesTo_len]) rfl fun w3 h3=> ?_
    rw [Int.toNat_natCast,ai_set] at h3
    refine ⟨⟨_,h3.p1⟩,?_⟩
    rw [u32_id (by omega),i64_id (by omega)]
    refine ⟨⟨k+1,codeAt l ys k+1,l[ys[k]],rfl,rfl,rfl,by omega,?_,h15,fun j hj hkj=> ?_,?_⟩,by dsimp only;omega⟩
    ·rw [hsk,←hcm]
     unfold sh
     rw [hg,Nat.succ_mul]
    ·rw [←hg];exact ord_len hys hj (by omega)
    ·have:codesTo l ys (k+1)=(codesTo l ys k).set ys[k] (codeAt l ys k):=by rw [codesTo,getD_at hlt]
     rw [this];exact h3.p1
  ·have hge:k=ys.length:=by have:=of_decide_eq_false hge;omega
   subst hge
   refine Ld.arr hh.p1 (by rw [ai_size,codesTo_len]) (StA.blk hh.p1 (by rw [ai_size,codesTo_len]) (by rw [ai_size,codesTo_len]) ai_scalar fun w5 h5=>Ld.arr h5 (by rw [ai_size,codesTo_len]) (hK2 hv ys w5 hys h5.drop.drop.drop))
end
end Go.Proofs.YtcdpblipagajiaaGreat
set_option maxRecDepth 20000
namespace Go.Vc
open Go
set_option linter.unusedSectionVars false
structure KeyOk (P:Program) {α:Type} [DecidableEq α] (kt:TypeId) (ke:α→Value):Prop where
 und: ∃d,P.underlying kt=some d∧∀a b,Instr.sameNow d (ke a) (ke b)=none∨Instr.sameNow d (ke a) (ke b)=some (decide (a=b))
 check: ∀e a w,(Instr.checkKey e 10000 kt (ke a)).run P w= .ok () w
 eq: ∀a b w,(Op.equal kt (ke a) (ke b)).run P w= .ok (decide (a=b)) w
 same: ∀a,Instr.sameBits 10000 (ke a) (ke a)=true
section
variable {P:Program} {α β:Type} [DecidableEq α] {ke:α→Value} {ve:β→Value} {kt:TypeId}
def Ents (ke:α→Value) (ve:β→Value) (es:List MapEntry) (l:List (α×β)):Prop:=es.map (fun e=>(e.key,e.val))=l.map fun p=>(ke p.1,ve p.2)
def findAt (a:α):List (α×β)→Nat→Option (Nat×β)
 | [],_=>none
 |p::l,i=>if a=p.1 then some (i,p.2) else findAt a l (i+1)
theorem ents_cons {e:MapEntry} {es:List MapEntry} {l:List (α×β)} (h:Ents ke ve (e::es) l): ∃p l',l=p::l'∧e.key=ke p.1∧e.val=ve p.2∧Ents ke ve es l':=by
 unfold Ents at h
 cases l with
 |nil=>simp at h
 |cons p l'=>
  simp only [List.map_cons,List.cons.injEq,Prod.mk.injEq] at h
  exact ⟨p,l',rfl,h.1.1,h.1.2,h.2⟩
theorem asking_run (hk:KeyOk P kt ke) (a:α) (w:World): ∀(es:List MapEntry) (l:List (α×β)) (i:Nat),Ents ke ve es l→(Instr.findAsking kt (ke a) es i).run P w= .ok ((findAt a l i).map fun q=>(q.1,ve q.2)) w
 | [],l,i,h=>by
  have:l= []:=by unfold Ents at h;cases l<;>simp at h⊢
  subst this
  simp [Instr.findAsking,findAt]
 |e::es,l,i,h=>by
  obtain ⟨p,l',rfl,h1,h2,h3⟩:=ents_cons h
  simp only [Instr.findAsking,Sem.run_bind,h1,hk.eq,Result.andThen_ok,findAt]
  by_cases hq:a=p.1
  ·simp [hq,h2]
  ·simp [hq,asking_run hk a w es l' (i+1) h3]
theorem now_eq {d:TypeDesc} (hd: ∀a b,Instr.sameNow d (ke a) (ke b)=none∨Instr.sameNow d (ke a) (ke b)=some (decide (a=b))) (a:α): ∀(es:List MapEntry) (l:List (α×β)) (i:Nat),Ents ke ve es l→
  Instr.findNow d (ke a) es i=none∨Instr.findNow d (ke a) es i=some ((findAt a l i).map fun q=>(q.1,ve q.2))
 | [],l,i,h=>by
  have:l= []:=by unfold Ents at h;cases l<;>simp at h⊢
  subst this
  exact .inr rfl
 |e::es,l,i,h=>by
  obtain ⟨p,l',rfl,h1,h2,h3⟩:=ents_cons h
  unfold Instr.findNow
  rw [h1]
  rcases hd a p.1 with h0|h0
  ·rw [h0];exact .inl rfl
  ·rw [h0]
   by_cases hq:a=p.1
   ·right;simp [findAt,hq,h2]
   ·simp only [hq,decide_false,findAt,if_false]
    exact now_eq hd a es l' (i+1) h3
theorem findKey_run (hk:KeyOk P kt ke) (a:α) (w:World) (es:List MapEntry) (l:List (α×β)) (h:Ents ke ve es l):(Instr.findKey kt (ke a) es).run P w= .ok ((findAt a l 0).map fun q=>(q.1,ve q.2)) w:=by
 obtain ⟨d,hu,hd⟩:=hk.und
 simp only [Instr.findKey,Sem.run_bind,run_underlying hu,Result.andThen_ok]
 rcases now_eq (ve:=ve) hd a es l 0 h with h0|h0
 ·rw [h0];exact asking_run hk a w es l 0 h
 ·rw [h0];rfl
def updAt (a:α) (b:β):List (α×β)→List (α×β)
 | []=> [(a,b)]
 |p::l=>if a=p.1 then (a,b)::l else p::updAt a b l
theorem findAt_ge {a:α}: ∀{l:List (α×β)} {i j:Nat} {v:β},findAt a l i=some (j,v)→i≤j
 | [],i,j,v,h=>by simp [findAt] at h
 |p::l,i,j,v,h=>by
  unfold findAt at h
  split at h
  ·simp at h;omega
  ·have:=findAt_ge h;omega
theorem ents_upd {a:α} {b:β} {f:MapEntry→MapEntry} (hf: ∀e,e.key=ke a→(f e).key=ke a∧(f e).val=ve b): ∀{es:List MapEntry} {l:List (α×β)} {i j:Nat} {v:β},Ents ke ve es l→findAt a l i=some (i+j,v)→
  Ents ke ve (es.modify j f) (updAt a b l)
 | [],l,i,j,v,h,hf2=>by
  have:l= []:=by unfold Ents at h;cases l<;>simp at h⊢
  subst this
  simp [findAt] at hf2
 |e::es,l,i,j,v,h,hf2=>by
  obtain ⟨p,l',rfl,h1,h2,h3⟩:=ents_cons h
  unfold findAt at hf2
  unfold updAt
  by_cases hq:a=p.1
  ·rw [if_pos hq] at hf2⊢
   have:j=0:=by simp at hf2;omega
   subst this
   obtain ⟨q1,q2⟩:=hf e (by rw [h1,hq])
   unfold Ents at h3⊢
   simp [List.modify,q1,q2,h3]
  ·rw [if_neg hq] at hf2⊢
   have hge:=findAt_ge hf2
   obtain ⟨j,rfl⟩: ∃j',j=j'+1:=⟨j - 1,by omega⟩
   have ih:=ents_upd (f:=f) hf (i:=i+1) (j:=j) (v:=v) h3 (by rw [hf2];congr 2;omega)
   unfold Ents at ih⊢
   simp only [List.modify_succ_cons,List.map_cons,ih,h1,h2]
theorem ents_key {a:α}: ∀{es:List MapEntry} {l:List (α×β)} {i j:Nat} {v:β},Ents ke ve es l→findAt a l i=some (i+j,v)→∃e,es[j]? =some e∧e.key=ke a
 | [],l,i,j,v,h,hf2=>by
  have:l= []:=by unfold Ents at h;cases l<;>simp at h⊢
  subst this
  simp [findAt] at hf2
 |e::es,l,i,j,v,h,hf2=>by
  obtain ⟨p,l',rfl,h1,h2,h3⟩:=ents_cons h
  unfold findAt at hf2
  by_cases hq:a=p.1
  ·rw [if_pos hq] at hf2
   have:j=0:=by simp at hf2;omega
   subst this
   exact ⟨e,rfl,by rw [h1,hq]⟩
  ·rw [if_neg hq] at hf2
   have hge:=findAt_ge hf2
   obtain ⟨j,rfl⟩: ∃j',j=j'+1:=⟨j - 1,by omega⟩
   obtain ⟨e',h4,h5⟩:=ents_key (i:=i+1) (j:=j) (v:=v) h3 (by rw [hf2];congr 2;omega)
   exact ⟨e',by simpa using h4,h5⟩
theorem updAt_new {a:α} {b:β}: ∀{l:List (α×β)} {i:Nat},findAt a l i=none→updAt a b l=l++ [(a,b)]
 | [],_,_=>rfl
 |p::l,i,h=>by
  unfold findAt at h
  unfold updAt
  by_cases hq:a=p.1
  ·rw [if_pos hq] at h;cases h
  ·rw [if_neg hq] at h⊢
   rw [updAt_new h];rfl
end
def OwnM {α β:Type} (ke:α→Value) (ve:β→Value) (m:Option Nat) (l:List (α×β)):HP:=fun f=> ∃b es clock,m=some b∧Ents ke ve es.toList l∧f=Frag.one b (.map es clock)
section
variable {P:Program} {α β:Type} [DecidableEq α] {ke:α→Value} {ve:β→Value} {kt vt t:TypeId} {E w:World} {F:List HP} {m:Option Nat} {l:List (α×β)}
theorem Hp.mapOpen (h:Hp E w (OwnM ke ve m l::F)): ∃b es clock,m=some b∧Ents ke ve es.toList l∧Hp E w (Blk b (.map es clock)::F):=by
 obtain ⟨f,a,g,k,hd,e,⟨b,es,clock,h1,h2,h3⟩,h4⟩:=h.frag
 exact ⟨b,es,clock,h1,h2,h.os,h.output,h.tape,f,a,g,k,hd,e,h3,h4⟩
theorem Hp.mapShut {b clock:Nat} {es:Array MapEntry} (h:Hp E w (Blk b (.map es clock)::F)) (he:Ents ke ve es.toList l):Hp E w (OwnM ke ve (some b) l::F):=
 h.weak fun _ hf=>⟨b,es,clock,rfl,he,hf⟩
theorem run_makeMap {K:Option Nat→World→Prop} (h:Hp E w F) (hK: ∀m w',Hp E w' (OwnM ke ve m []::F)→K m w'):Run P (Instr.makeMap t none) kM w K:=by
 unfold Run
 have e:(Instr.makeMap t none).run P w= .ok (.map (some w.heap.size)) (w.alloc (.map #[] 0)):=rfl
 rw [e]
 exact hK _ _ (Hp.mapShut (h.alloc _) rfl)
theorem run_mapUpdate (hk:KeyOk P kt ke) (hu:P.underlying t=some (.map kt vt)) {a:α} {b:β} {K:Value→World→Prop} (h:Hp E w (OwnM ke ve m l::F)) (hK: ∀w',Hp E w' (OwnM ke ve m (updAt a b l)::F)→K undef w'):
  Run P (do Instr.mapUpdate t (.map m) (ke a) (ve b);pure undef) kV w K:=by
 obtain ⟨r,es,clock,rfl,he,hB⟩:=h.mapOpen
 have hb:=hB.blk
 have hfk:=findKey_run (ve:=ve) hk a w es.toList l he
 have key: ∀es' clock',(do Instr.mapUpdate t (.map (some r)) (ke a) (ve b);pure undef:Sem Value).run P w= .ok undef {w with heap:=w.heap.setIfInBounds r (.map es' clock')}→Ents ke ve es'.toList (updAt a b l)→
   Run P (do Instr.mapUpdate t (.map (some r)) (ke a) (ve b);pure undef) kV w K:=by
  intro es' clock' h1 h2
  unfold Run
  rw [h1]
  exact hK _ (Hp.mapShut (hB.setObj rfl rfl rfl rfl) h2)
 cases hf:findAt a l 0 with
 |none=>
  rw [hf] at hfk
  refine key (es.push ⟨ke a,ve b,clock⟩) (clock+1) ?_ ?_
  ·simp [Instr.mapUpdate,run_underlying hu,MapKept.run_getObj_map hb,hk.check,hfk,MapKept.run_setObj_map _ hb]
  ·rw [updAt_new hf]
   unfold Ents at he⊢
   simp [he]
 |some q=>
  obtain ⟨j,v⟩:=q
  rw [hf] at hfk
  have hfk':(Instr.findKey kt (ke a) es.toList).run P w= .ok (some (j,ve v)) w:=hfk
  have hkey:((es[j]?).map (·.key)).getD (ke a)=ke a:=by
   obtain ⟨e,he1,he2⟩:=ents_key (ke:=ke) (ve:=ve) he (i:=0) (j:=j) (v:=v) (by simpa using hf)
   have:es[j]? =some e:=by simpa using he1
   rw [this];exact he2
  refine key (es.modify j fun e=>{e with key:=ke a,val:=ve b}) clock ?_ ?_
  ·simp [Instr.mapUpdate,run_underlying hu,MapKept.run_getObj_map hb,hk.check,hfk',hkey,Instr.keyThatStays,hk.same,MapKept.run_setObj_map _ hb]
  ·rw [Array.toList_modify]
   exact ents_upd (ke:=ke) (ve:=ve) (a:=a) (b:=b) (fun e _=>⟨rfl,rfl⟩) he (i:=0) (j:=j) (v:=v) (by simpa using hf)
theorem run_lookup (hk:KeyOk P kt ke) (hu:P.underlying t=some (.map kt vt)) {a:α} {z:Value} (hz: ∀w,(zeroValue vt).run P w= .ok z w) (h:Hp E w (OwnM ke ve m l::F)):
  (Instr.lookup t (.map m) (ke a) true).run P w= .ok (.tuple #[(match findAt a l 0 with|some q=>ve q.2|none=>z),.bool (findAt a l 0).isSome]) w:=by
 obtain ⟨r,es,clock,rfl,he,hB⟩:=h.mapOpen
 have hb:=hB.blk
 have hfk:=findKey_run (ve:=ve) hk a w es.toList l he
 cases hf:findAt a l 0 with
 |none=>
  rw [hf] at hfk
  simp [Instr.lookup,run_underlying hu,MapKept.run_getObj_map hb,hk.check,hfk,hz]
 |some q=>
  rw [hf] at hfk
  simp [Instr.lookup,run_underlying hu,MapKept.run_getObj_map hb,hk.check,hfk]
end
end Go.Vc
set_option maxRecDepth 20000
namespace Go.Proofs.YtcdpblipagajiaaGreat
open Go Go.Vc Go.Srt
theorem ord_in {l ys:List Nat} (hl:l.length=258) (h:IsOrd l ys): ∀s∈ys,s<258∧0<l.getD s 0:=fun s hs=>by
 have:=used_mem.1 (h.1.mem_iff.1 hs)
 rw [hl] at this;exact this
theorem ord_le {l ys:List Nat} (hl:l.length=258) (h:IsOrd l ys):ys.length≤258:=by
 rw [h.1.length_eq,←hl]
 have:=List.length_filter_le (fun s=>decide (0<l.getD s 0)) (List.range l.length)
 simpa [used] using this
theorem ord_same {l ys zs:List Nat} (h:IsOrd l ys) (h2:IsOrd l zs):ys=zs:=by
 refine List.Perm.eq_of_pairwise (le:=fun a b=>l.getD a 0<l.getD b 0∨(l.getD a 0=l.getD b 0∧a<b)) ?_ h.2 h2.2 (h.1.trans h2.1.symm)
 intro a b _ _ h3 h4
 omega
theorem getI {l:List Nat} {i:Nat} {k:IntKind} (h:i<l.length):(ai k l)[((i:Nat):Int).toNat]? =some (Sc.enc (.int k) (l.getD i 0:Int)):=by
 rw [Int.toNat_natCast,ai_get h,List.getD_eq_getElem?_getD,List.getElem?_eq_getElem h];rfl
end Go.Proofs.YtcdpblipagajiaaGreat
set_option maxRecDepth 20000
namespace Go.Srt
def goodI (l:List Nat) (z:Int):Bool:=decide (0≤z)&&decide (z<258)&&decide (0<l.getD z.toNat 0)
def allG (l:List Nat) (zs:List Int):Bool:=zs.all (goodI l)
def encZ (l:List Nat) (zs:List Int):List Nat:=enc l (zs.map Int.toNat)
theorem goodI_iff {l:List Nat} {z:Int}:goodI l z=true↔0≤z∧z<258∧0<l.getD z.toNat 0:=by simp [goodI,and_assoc]
theorem allG_mem {l:List Nat} {zs:List Int} (h:allG l zs=true) {z:Int} (hz:z∈zs):goodI l z=true:=List.all_eq_true.1 h z hz
theorem allG_not {l:List Nat} {zs:List Int} {k:Nat} (hk:k<zs.length) (h:goodI l zs[k]=false):allG l zs=false:=by
 cases ha:allG l zs with
 |false=>rfl
 |true=>have:=allG_mem ha (List.getElem_mem hk);rw [h] at this;cases this
theorem take_snoc {zs:List Int} {k:Nat} (hk:k<zs.length):zs.take (k+1)=zs.take k++ [zs[k]]:=by rw [List.take_add_one,List.getElem?_eq_getElem hk];rfl
theorem allG_take {l:List Nat} {zs:List Int} {k:Nat} (hk:k<zs.length) (h:allG l (zs.take k)=true) (hg:goodI l zs[k]=true):allG l (zs.take (k+1))=true:=by
 unfold allG at h⊢
 rw [take_snoc hk,List.all_append,h];simp [hg]
theorem encZ_take {l:List Nat} {zs:List Int} {k:Nat} (hk:k<zs.length):encZ l (zs.take (k+1))=encZ l (zs.take k)++encB l zs[k].toNat:=by
 unfold encZ
 rw [take_snoc hk,List.map_append,enc_app]
 congr 1
 simp [enc]
theorem encB_len (l:List Nat) (s:Nat):(encB l s).length=l.getD s 0:=bn_len _ _
theorem encZ_le {l:List Nat} (hv:ksum l≤32768): ∀zs:List Int,(encZ l zs).length≤15*zs.length
 | []=>by simp [encZ,enc]
 |z::zs=>by
  have:=encZ_le hv zs
  have h15:=len15 hv z.toNat
  unfold encZ at this⊢
  rw [List.map_cons,enc_cons,List.length_append,encB_len,List.length_cons]
  omega
end Go.Srt
namespace Go.Proofs.YtcdpblipagajiaaGreat
open Go Go.Vc Go.Srt Go.Bits
section
variable {E w:World} {F:List HP}
set_option maxRecDepth 20000 in
theorem size_c {l:List Nat} {s:Sl} {zs:List Int} {K:Int→Int→World→Prop} (h:Hp E w F) (hl:l.length=258) (hs:Tells F (SlT 1 s (zs.map vI))) (hn:zs.length≤100000)
  (hK1: ¬(ksum l≤32768∧allG l zs=true)→∀w',Hp E w' F→K 0 2 w') (hK2:ksum l≤32768→allG l zs=true→∀w',Hp E w' F→K ((encZ l zs).length:Int) 0 w'):
  Cl Tryz.prog [kI,kI] n_prefixenc_Size ⟨[.agg (ai .u8 l),.slice s.base s.len s.cap]⟩ w K:=by
 refine prefixenc_Size.ok _ _ _ _ ?_
 unfold prefixenc_Size.E
 have hsl:=(h.tells hs).1
 simp only [List.length_map,Nat.mul_one] at hsl
 refine Nw.mk h fun b w1 h1=>Ld.arr h1 (by rw [ai_size,hl]) (cvalid_c h1 hl fun w2 h2=>IfB.mk (fun hv=>hK1 (fun hh=>by simp [hh.1] at hv) w2 h2.drop) (fun hv=> ?_))
 have hv:ksum l≤32768:=by simpa using hv
 refine ⟨fun n i w'=> ∃k:Nat,i=(k:Int)∧k≤zs.length∧n=((encZ l (zs.take k)).length:Int)∧allG l (zs.take k)=true∧Hp E w' (Blk b (.cells (ai .u8 l) 36 (0,0))::F),fun _ i _=>zs.length - i.toNat,⟨0,rfl,by omega,rfl,rfl,h2⟩,?_⟩
 rintro n i w' ⟨k,rfl,hk,rfl,hg,hh⟩
 refine IfB.mk (fun hlt=> ?_) (fun hge=> ?_)
 ·have hlt:k<zs.length:=by have:=of_decide_eq_true hlt;omega
  have bad:goodI l zs[k]=false→K 0 2 w':=fun hb=>hK1 (fun hh=>by rw [allG_not hlt hb] at hh;exact absurd hh.2 (by decide)) w' hh.drop
  refine Idx.rd (hh.tells (Tells.cons hs)) (by omega) (by omega) fun q hq hc=>Ld.sc (s:= .int .i64) zs[k] (by rw [hc];simp [vI,Sc.enc]) ?_
  refine IfB.mk (fun h0=>bad ?_) (fun h0=>IfB.mk (fun h1=>bad ?_) (fun h1=> ?_))
  ·have:=of_decide_eq_true h0
   unfold goodI;rw [decide_eq_false (show¬0≤zs[k] by omega)];rfl
  ·have:=of_decide_eq_true h1
   unfold goodI;rw [decide_eq_false (show¬zs[k]<258 by omega)];simp
  have h0:=of_decide_eq_false h0
  have h1:=of_decide_eq_false h1
  obtain ⟨m,hm⟩: ∃m:Nat,zs[k]=(m:Int):=⟨zs[k].toNat,by omega⟩
  have hm2:zs[k].toNat=m:=by omega
  rw [hm]
  refine IdxP.rd (s:= .int .u8) hh (by omega) (by omega) (l.getD m 0:Int) (getN (by omega)) (IfB.mk (fun hz=>bad ?_) (fun hz=> ?_))
  ·have:l.getD m 0=0:=by rw [beq_iff_eq] at hz;omega
   unfold goodI;rw [hm2,this];simp
  have hz:0<l.getD m 0:=by have:=beq_eq_false_iff_ne.1 hz;omega
  refine IdxP.rd (s:= .int .u8) hh (by omega) (by omega) (l.getD m 0:Int) (getN (by omega)) ?_
  have h15:=len15 hv m
  have hle:=encZ_le hv (zs.take k)
  rw [List.length_take] at hle
  rw [i64_id (x:=(l.getD m 0:Int)) (by omega),i64_id (x:=((encZ l (zs.take k)).length:Int)+(l.getD m 0:Int)) (by omega),i64_id (by omega)]
  refine ⟨⟨k+1,rfl,by omega,?_,allG_take hlt hg (goodI_iff.2 ⟨by omega,by omega,by rw [hm2];exact hz⟩),hh⟩,by dsimp only;omega⟩
  rw [encZ_take hlt,List.length_append,encB_len,hm2];omega
 ·have hge:k=zs.length:=by have:=of_decide_eq_false hge;omega
  subst hge
  rw [List.take_length] at hg⊢
  exact hK2 hv hg w' hh.drop
set_option maxRecDepth 20000 in
theorem putE_c {l:List Nat} {s:Sl} {zs:List Int} {b:Nat} {bits:List Nat} {K:Int→World→Prop} (h:Hp E w (Wr b bits::F)) (hl:l.length=258) (hs:Tells F (SlT 1 s (zs.map vI))) (hn:zs.length≤100000) (hbig:bits.length≤100000000)
  (hK1: ¬(ksum l≤32768∧allG l zs=true)→∀w',Hp E w' (Wr b bits::F)→K 2 w') (hK2:ksum l≤32768→allG l zs=true→∀w',Hp E w' (Wr b (bits++encZ l zs)::F)→K 0 w'):
  Cl Tryz.prog [kI] n_prefixenc_Put ⟨[.pointer (some ⟨b,0,none⟩),.agg (ai .u8 l),.slice s.base s.len s.cap]⟩ w K:=by
 refine prefixenc_Put.ok _ _ _ _ _ ?_
 unfold prefixenc_Put.E
 simp only [Join_eq]
 have hsl:=(h.tells (Tells.cons hs)).1
 simp only [List.length_map,Nat.mul_one] at hsl
 rw [ai_zero]
 refine Nw.mk h fun b5 w1 h1=>Ld.arr h1 (by rw [ai_size,hl]) (size_c h1 hl (Tells.cons (Tells.cons hs)) hn (fun hb w2 h2=> ?_) (fun hv hg w2 h2=> ?_))
 ·exact IfB.f rfl (IfB.t (by decide) (hK1 hb w2 h2.drop))
 refine IfB.f rfl (IfB.f (by decide) (Ld.arr h2 (by rw [ai_size,hl]) (codes_c h2 hl (fun hb=>absurd hv hb) fun _ ys w3 hys h3=> ?_)))
 refine Nw.mk h3 fun b17 w4 h4=>StA.blk h4 (by rw [ai_size];simp) (by rw [ai_size,codesTo_len]) ai_scalar fun w5 h5=> ?_
 refine ⟨fun i w'=> ∃k:Nat,i=(k:Int)∧k≤zs.length∧Hp E w' (Wr b (bits++encZ l (zs.take k))::Blk b17 (.cells (ai .u32 (codesTo l ys ys.length)) 101 (0,0))::Blk b5 (.cells (ai .u8 l) 36 (0,0))::F),fun i _=>zs.length - i.toNat,⟨0,rfl,by omega,?_⟩,?_⟩
 ·rw [List.take_zero]
  have e:encZ l []= []:=rfl
  rw [e,List.append_nil]
  exact h5.p2
 rintro i w' ⟨k,rfl,hk,hh⟩
 refine IfB.mk (fun hlt=> ?_) (fun hge=> ?_)
 ·have hlt:k<zs.length:=by have:=of_decide_eq_true hlt;omega
  refine Idx.rd (hh.tells (Tells.cons (Tells.cons (Tells.cons hs)))) (by omega) (by omega) fun q hq hc=>Ld.sc (s:= .int .i64) zs[k] (by rw [hc];simp [vI,Sc.enc]) ?_
  obtain ⟨g1,g2,g3⟩:=goodI_iff.1 (allG_mem hg (List.getElem_mem hlt))
  obtain ⟨m,hm⟩: ∃m:Nat,zs[k]=(m:Int):=⟨zs[k].toNat,by omega⟩
  have hm2:zs[k].toNat=m:=by omega
  rw [hm2] at g3
  rw [hm]
  refine Drw.mk hh fun w6 h6=> ?_
  refine IdxP.rd (s:= .int .u32) h6.p1 (by omega) (by omega) ((codesTo l ys ys.length).getD m 0:Int) (getN (by rw [codesTo_len];omega)) ?_
  refine IdxP.rd (s:= .int .u8) h6.p2 (by omega) (by omega) (l.getD m 0:Int) (getN (by omega)) ?_
  have h15:=len15 hv m
  rw [i64_id (x:=(l.getD m 0:Int)) (by omega),codes_code hl hv hys (by omega) g3,i64_id (x:=(k:Int)+1) (by omega)]
  have hcl:=code_lt hl hv (by omega) g3
  have hp:2^l.getD m 0≤2^15:=Nat.pow_le_pow_right (by decide) h15
  have hp2:(2:Nat)^15=32768:=by decide
  have hle:=encZ_le hv (zs.take k)
  rw [List.length_take] at hle
  refine putW_c h6 (by omega) hcl (by omega) (by rw [List.length_append,big_eq];omega) fun w7 h7=>⟨⟨k+1,by omega,by omega,?_⟩,by dsimp only;omega⟩
  rw [encZ_take hlt,hm2,←List.append_assoc]
  exact h7
 ·have hge:k=zs.length:=by have:=of_decide_eq_false hge;omega
  subst hge
  rw [List.take_length] at hh
  exact hK2 hv hg w' (hh.p1.drop.p1.drop)
end
end Go.Proofs.YtcdpblipagajiaaGreat
namespace Go.Proofs.YtcdpblipagajiaaGreat
open Go Go.Vc
set_option maxRecDepth 100000 in
def bwt_Back.E (last1:Sl) (index2:Int) (R:Sl→Int→World→Prop) (w:World):Prop:=
 Join (fun (w_4:World)=>
 Cl Tryz.prog [kS] n_bwt_behind ⟨[(.slice last1.base last1.len last1.cap),(.int .i64 index2)]⟩ w_4 fun (r6:Sl) (w_5:World)=>
 Run Tryz.prog (Instr.makeSlice 22 (.int .i64 (last1.len:Int)) (.int .i64 (last1.len:Int))) kS w_5 fun (s8:Sl) (w_7:World)=>
 ∃(I_9:Int→Int→World→Prop) (m_10:Int→Int→World→Nat),I_9 (0) ((i64 (((last1.len:Int):Int) - (1:Int)))) w_7∧
 ∀(row11:Int) (i12:Int),∀(w_13:World),I_9 row11 i12 w_13→
 IfB (decide ((i12:Int)≥(0:Int)))
 (Cl Tryz.prog [kI,kB] n_bwt_place ⟨[(.slice last1.base last1.len last1.cap),(.int .i64 index2),(.int .i64 row11)]⟩ w_13 fun (r15:Int) (r16:Bool) (w_14:World)=>
 IfB (!r16)
 (R ((⟨none,0,0⟩:Sl)) (170) w_14)
 (Idx last1 r15 1 fun (q17:Addr)=>
 Ld (kInt .u8) q17 w_14 fun (x18:Int)=>
 Idx s8 i12 1 fun (q19:Addr)=>
 St q19 (.int .u8 x18) w_14 fun (w_20:World)=>
 Idx r6 row11 1 fun (q21:Addr)=>
 Ld kI q21 w_20 fun (x22:Int)=>
 I_9 (x22) ((i64 ((i12:Int) - (1:Int)))) w_20∧m_10 (x22) ((i64 ((i12:Int) - (1:Int)))) w_20<m_10 row11 i12 w_13))
 (IfB ((row11:Int) !=(index2:Int))
 (R ((⟨none,0,0⟩:Sl)) (170) w_13)
 (R (s8) (0) w_13))) fun (K_3:World→Prop)=>
 IfB (decide ((index2:Int)<(0:Int)))
 (R ((⟨none,0,0⟩:Sl)) (170) w)
 (IfB (decide ((index2:Int)>((last1.len:Int):Int)))
 (R ((⟨none,0,0⟩:Sl)) (170) w)
 (IfB ((index2:Int)==(0:Int))
 (IfB (decide (((last1.len:Int):Int)>(0:Int)))
 (R ((⟨none,0,0⟩:Sl)) (170) w)
 (K_3 w))
 (K_3 w)))
set_option maxRecDepth 100000 in
theorem bwt_Back.ok (last1:Sl) (index2:Int) (R:Sl→Int→World→Prop) (w:World) (h:bwt_Back.E last1 index2 R w):Cl Tryz.prog [kS,kI] n_bwt_Back ⟨[(.slice last1.base last1.len last1.cap),(.int .i64 index2)]⟩ w R:=
 calls_of_eq Tryz.mix Tryz.f55 [(.slice last1.base last1.len last1.cap),(.int .i64 index2)] [kS,kI] R 65 [.tmp 4,.tmp 5] (by kernel_rfl) (by kernel_rfl) (by kernel_rfl) (by kernel_rfl) (by kernel_rfl)
  (.s .o (.s .o (.j [] (.s .o (.c (.s .o .o) .o)) (.s .o (.s .o (.s (.s .o (.b (.l [(9,kI),(10,kI)] (.s (.s .o (.c .o .o)) (.s (.b (.s .o (.s (.s .o (.c (.s .o .o) .o)) (.s .o .o)))) .o))))) (.s (.s .o (.c (.s .o .o) .o)) (.s .o .o))))))))
  (by kernel_rfl) h
set_option maxRecDepth 100000 in
def bwt_Turn.E (text1:Sl) (R:Sl→Int→World→Prop) (w:World):Prop:=
 Cl Tryz.prog [kS] n_bwt_Order ⟨[(.slice text1.base text1.len text1.cap)]⟩ w fun (r3:Sl) (w_2:World)=>
 ∃(I_4:Sl→Int→Int→World→Prop) (m_5:Sl→Int→Int→World→Nat),I_4 ((⟨none,0,0⟩:Sl)) (0) (0) w_2∧
 ∀(last6:Sl) (index7:Int) (t9_8:Int),∀(w_9:World),I_4 last6 index7 t9_8 w_9→
 IfB (decide ((t9_8:Int)<((r3.len:Int):Int)))
 (Idx r3 t9_8 1 fun (q10:Addr)=>
 Ld kI q10 w_9 fun (x11:Int)=>
 IfB ((x11:Int)==(0:Int))
 (I_4 (last6) (t9_8) ((i64 ((t9_8:Int)+(1:Int)))) w_9∧m_5 (last6) (t9_8) ((i64 ((t9_8:Int)+(1:Int)))) w_9<m_5 last6 index7 t9_8 w_9)
 (Idx text1 (i64 ((x11:Int) - (1:Int))) 1 fun (q12:Addr)=>
 Ld (kInt .u8) q12 w_9 fun (x13:Int)=>
 Nw 5 ⟨[(.int .u8 x13)]⟩ w_9 fun (b15:Nat) (w_14:World)=>
 Run Tryz.prog (Builtin.append_ #[22,22] 22 ⟨[(.slice last6.base last6.len last6.cap),(.slice (⟨some ⟨b15,0,none⟩,1,1⟩:Sl).base (⟨some ⟨b15,0,none⟩,1,1⟩:Sl).len (⟨some ⟨b15,0,none⟩,1,1⟩:Sl).cap)]⟩) kS w_14 fun (s17:Sl) (w_16:World)=>
 I_4 (s17) (index7) ((i64 ((t9_8:Int)+(1:Int)))) w_16∧m_5 (s17) (index7) ((i64 ((t9_8:Int)+(1:Int)))) w_16<m_5 last6 index7 t9_8 w_9))
 (R (last6) (index7) w_9)
set_option maxRecDepth 100000 in
theorem bwt_Turn.ok (text1:Sl) (R:Sl→Int→World→Prop) (w:World) (h:bwt_Turn.E text1 R w):Cl Tryz.prog [kS,kI] n_bwt_Turn ⟨[(.slice text1.base text1.len text1.cap)]⟩ w R:=
 calls_of_eq Tryz.mix Tryz.f61 [(.slice text1.base text1.len text1.cap)] [kS,kI] R 28 [.tmp 2,.tmp 3] (by kernel_rfl) (by kernel_rfl) (by kernel_rfl) (by kernel_rfl) (by kernel_rfl)
  (.s .o (.s (.s .o (.b (.l [(2,kS),(3,kI),(9,kI)] (.s .o (.s (.c .o .o) (.s (.b (.s .o (.s (.s .o (.c (.s .o .o) .o)) .o))) .o)))))) (.s .o .o)))
  (by kernel_rfl) h
set_option maxRecDepth 100000 in
def bwt_behind.E (last1:Sl) (index2:Int) (R:Sl→World→Prop) (w:World):Prop:=
 Nw 212 ⟨List.replicate 257 (.int .i64 0)⟩ w fun (b4:Nat) (w_3:World)=>
 ∃(I_5:Int→World→Prop) (m_6:Int→World→Nat),I_5 (0) w_3∧
 ∀(t16_7:Int),∀(w_8:World),I_5 t16_7 w_8→
 IfB (decide ((t16_7:Int)<((last1.len:Int):Int)))
 (Idx last1 t16_7 1 fun (q9:Addr)=>
 Ld (kInt .u8) q9 w_8 fun (x10:Int)=>
 IdxP (⟨b4,0,none⟩:Addr) 257 (i64 (((i64 x10):Int)+(1:Int))) 1 fun (q11:Addr)=>
 Ld kI q11 w_8 fun (x12:Int)=>
 IdxP (⟨b4,0,none⟩:Addr) 257 (i64 (((i64 x10):Int)+(1:Int))) 1 fun (q13:Addr)=>
 St q13 (.int .i64 (i64 ((x12:Int)+(1:Int)))) w_8 fun (w_14:World)=>
 I_5 ((i64 ((t16_7:Int)+(1:Int)))) w_14∧m_6 ((i64 ((t16_7:Int)+(1:Int)))) w_14<m_6 t16_7 w_8)
 (∃(I_15:Int→World→Prop) (m_16:Int→World→Nat),I_15 (0) w_8∧
 ∀(t28_17:Int),∀(w_18:World),I_15 t28_17 w_18→
 IfB (decide ((t28_17:Int)<(256:Int)))
 (Drw w_18 fun (w_19:World)=>
 IdxP (⟨b4,0,none⟩:Addr) 257 (i64 ((t28_17:Int)+(1:Int))) 1 fun (q20:Addr)=>
 Ld kI q20 w_19 fun (x21:Int)=>
 IdxP (⟨b4,0,none⟩:Addr) 257 t28_17 1 fun (q22:Addr)=>
 Ld kI q22 w_19 fun (x23:Int)=>
 IdxP (⟨b4,0,none⟩:Addr) 257 (i64 ((t28_17:Int)+(1:Int))) 1 fun (q24:Addr)=>
 St q24 (.int .i64 (i64 ((x21:Int)+(x23:Int)))) w_19 fun (w_25:World)=>
 I_15 ((i64 ((t28_17:Int)+(1:Int)))) w_25∧m_16 ((i64 ((t28_17:Int)+(1:Int)))) w_25<m_16 t28_17 w_18)
 (Run Tryz.prog (Instr.makeSlice 33 (.int .i64 (i64 (((last1.len:Int):Int)+(1:Int)))) (.int .i64 (i64 (((last1.len:Int):Int)+(1:Int))))) kS w_18 fun (s27:Sl) (w_26:World)=>
 ∃(I_28:Int→World→Prop) (m_29:Int→World→Nat),I_28 (0) w_26∧
 ∀(t47_30:Int),∀(w_31:World),I_28 t47_30 w_31→
 IfB (decide ((t47_30:Int)<((s27.len:Int):Int)))
 (Cl Tryz.prog [kI,kB] n_bwt_place ⟨[(.slice last1.base last1.len last1.cap),(.int .i64 index2),(.int .i64 t47_30)]⟩ w_31 fun (r33:Int) (r34:Bool) (w_32:World)=>
 IfB r34
 (Idx last1 r33 1 fun (q35:Addr)=>
 Ld (kInt .u8) q35 w_32 fun (x36:Int)=>
 IdxP (⟨b4,0,none⟩:Addr) 257 x36 1 fun (q37:Addr)=>
 Ld kI q37 w_32 fun (x38:Int)=>
 IdxP (⟨b4,0,none⟩:Addr) 257 x36 1 fun (q39:Addr)=>
 St q39 (.int .i64 (i64 ((x38:Int)+(1:Int)))) w_32 fun (w_40:World)=>
 IdxP (⟨b4,0,none⟩:Addr) 257 x36 1 fun (q41:Addr)=>
 Ld kI q41 w_40 fun (x42:Int)=>
 Idx s27 t47_30 1 fun (q43:Addr)=>
 St q43 (.int .i64 x42) w_40 fun (w_44:World)=>
 I_28 ((i64 ((t47_30:Int)+(1:Int)))) w_44∧m_29 ((i64 ((t47_30:Int)+(1:Int)))) w_44<m_29 t47_30 w_31)
 (I_28 ((i64 ((t47_30:Int)+(1:Int)))) w_32∧m_29 ((i64 ((t47_30:Int)+(1:Int)))) w_32<m_29 t47_30 w_31))
 (R (s27) w_31)))
set_option maxRecDepth 100000 in
theorem bwt_behind.ok (last1:Sl) (index2:Int) (R:Sl→World→Prop) (w:World) (h:bwt_behind.E last1 index2 R w):Cl Tryz.prog [kS] n_bwt_behind ⟨[(.slice last1.base last1.len last1.cap),(.int .i64 index2)]⟩ w R:=
 calls_of_eq Tryz.mix Tryz.f106 [(.slice last1.base last1.len last1.cap),(.int .i64 index2)] [kS] R 75 [.tmp 4] (by kernel_rfl) (by kernel_rfl) (by kernel_rfl) (by kernel_rfl) (by kernel_rfl)
  (.s .o (.s .o (.s (.s .o (.b (.l [(16,kI)] (.s .o (.s (.c .o .o) (.s (.b (.s .o .o)) .o)))))) (.s (.s .o (.b (.l [(28,kI)] (.s .o (.s (.c .o .o) (.s (.b (.s .o .o)) .o)))))) (.s .o (.s (.s .o (.b (.l [(47,kI)] (.s .o (.s (.c .o .o) (.s (.b (.s .o (.s .o (.s .o (.c (.s .o (.s .o .o)) .o))))) .o)))))) (.s .o .o)))))))
  (by kernel_rfl) h
def bwt_place.E (last1:Sl) (index2:Int) (row3:Int) (R:Int→Bool→World→Prop) (w:World):Prop:=
 IfB (decide ((index2:Int)<(0:Int)))
 (R (0) (false) w)
 (IfB (decide ((index2:Int)>((last1.len:Int):Int)))
 (R (0) (false) w)
 (IfB (decide ((row3:Int)<(0:Int)))
 (R (0) (false) w)
 (IfB (decide ((row3:Int)>((last1.len:Int):Int)))
 (R (0) (false) w)
 (IfB ((row3:Int)==(index2:Int))
 (R (0) (false) w)
 (IfB (decide ((row3:Int)>(index2:Int)))
 (R ((i64 ((row3:Int) - (1:Int)))) (true) w)
 (R (row3) (true) w))))))
theorem bwt_place.ok (last1:Sl) (index2:Int) (row3:Int) (R:Int→Bool→World→Prop) (w:World) (h:bwt_place.E last1 index2 row3 R w):Cl Tryz.prog [kI,kB] n_bwt_place ⟨[(.slice last1.base last1.len last1.cap),(.int .i64 index2),(.int .i64 row3)]⟩ w R:=
 calls_of_eq Tryz.mix Tryz.f107 [(.slice last1.base last1.len last1.cap),(.int .i64 index2),(.int .i64 row3)] [kI,kB] R 37 [.tmp 6,.tmp 7] (by kernel_rfl) (by kernel_rfl) (by kernel_rfl) (by kernel_rfl) (by kernel_rfl)
  (.s .o (.s (.s .o (.c (.s .o .o) .o)) (.s (.s .o (.c .o .o)) (.s .o .o))))
  (by kernel_rfl) h
def bwt_Order.E (text1:Sl) (R:Sl→World→Prop) (w:World):Prop:=
 Cl Tryz.prog [kS] n_bwt_ranks ⟨[(.slice text1.base text1.len text1.cap)]⟩ w fun (r3:Sl) (w_2:World)=>
 Run Tryz.prog (Instr.makeSlice 33 (.int .i64 (r3.len:Int)) (.int .i64 (r3.len:Int))) kS w_2 fun (s5:Sl) (w_4:World)=>
 ∃(I_6:Int→World→Prop) (m_7:Int→World→Nat),I_6 (0) w_4∧
 ∀(t14_8:Int),∀(w_9:World),I_6 t14_8 w_9→
 IfB (decide ((t14_8:Int)<((r3.len:Int):Int)))
 (Idx r3 t14_8 1 fun (q10:Addr)=>
 Ld kI q10 w_9 fun (x11:Int)=>
 Idx s5 x11 1 fun (q12:Addr)=>
 St q12 (.int .i64 t14_8) w_9 fun (w_13:World)=>
 I_6 ((i64 ((t14_8:Int)+(1:Int)))) w_13∧m_7 ((i64 ((t14_8:Int)+(1:Int)))) w_13<m_7 t14_8 w_9)
 (R (s5) w_9)
theorem bwt_Order.ok (text1:Sl) (R:Sl→World→Prop) (w:World) (h:bwt_Order.E text1 R w):Cl Tryz.prog [kS] n_bwt_Order ⟨[(.slice text1.base text1.len text1.cap)]⟩ w R:=
 calls_of_eq Tryz.mix Tryz.f114 [(.slice text1.base text1.len text1.cap)] [kS] R 25 [.tmp 2] (by kernel_rfl) (by kernel_rfl) (by kernel_rfl) (by kernel_rfl) (by kernel_rfl)
  (.s .o (.s .o (.s .o (.s (.s .o (.b (.l [(14,kI)] (.s .o (.s (.c .o .o) (.s (.b (.s .o .o)) .o)))))) (.s .o .o)))))
  (by kernel_rfl) h
set_option maxRecDepth 100000 in
def bwt_ranks.E (text1:Sl) (R:Sl→World→Prop) (w:World):Prop:=
 Run Tryz.prog (Instr.makeSlice 237 (.int .i64 (i64 (((text1.len:Int):Int)+(1:Int)))) (.int .i64 (i64 (((text1.len:Int):Int)+(1:Int))))) kS w fun (s3:Sl) (w_2:World)=>
 ∃(I_4:Int→World→Prop) (m_5:Int→World→Nat),I_4 (0) w_2∧
 ∀(t16_6:Int),∀(w_7:World),I_4 t16_6 w_7→
 IfB (decide ((t16_6:Int)<((text1.len:Int):Int)))
 (Idx text1 t16_6 1 fun (q8:Addr)=>
 Ld (kInt .u8) q8 w_7 fun (x9:Int)=>
 Idx s3 t16_6 2 fun (q10:Addr)=>
 St (q10.add 0) (.int .i64 (i64 ((1:Int)+((i64 x9):Int)))) w_7 fun (w_11:World)=>
 I_4 ((i64 ((t16_6:Int)+(1:Int)))) w_11∧m_5 ((i64 ((t16_6:Int)+(1:Int)))) w_11<m_5 t16_6 w_7)
 (Cl Tryz.prog [kS,kI] n_bwt_ranked ⟨[(.slice s3.base s3.len s3.cap)]⟩ w_7 fun (r13:Sl) (r14:Int) (w_12:World)=>
 ∃(I_15:Sl→Int→Int→World→Prop) (m_16:Sl→Int→Int→World→Nat),I_15 (r13) (r14) (1) w_12∧
 ∀(r17:Sl) (all_18:Int) (wide19:Int),∀(w_20:World),I_15 r17 all_18 wide19 w_20→
 IfB (decide ((all_18:Int)<((s3.len:Int):Int)))
 (∃(I_21:Int→World→Prop) (m_22:Int→World→Nat),I_21 (0) w_20∧
 ∀(t42_23:Int),∀(w_24:World),I_21 t42_23 w_24→
 IfB (decide ((t42_23:Int)<((s3.len:Int):Int)))
 (Idx r17 t42_23 1 fun (q25:Addr)=>
 Ld kI q25 w_24 fun (x26:Int)=>
 Idx s3 t42_23 2 fun (q27:Addr)=>
 StC q27 [(.int .i64 x26),(.int .i64 (-1))] 0 w_24 fun (w_28:World)=>
 IfB (decide (((i64 ((t42_23:Int)+(wide19:Int))):Int)<((s3.len:Int):Int)))
 (Idx r17 (i64 ((t42_23:Int)+(wide19:Int))) 1 fun (q29:Addr)=>
 Ld kI q29 w_28 fun (x30:Int)=>
 Idx s3 t42_23 2 fun (q31:Addr)=>
 St (q31.add 1) (.int .i64 x30) w_28 fun (w_32:World)=>
 I_21 ((i64 ((t42_23:Int)+(1:Int)))) w_32∧m_22 ((i64 ((t42_23:Int)+(1:Int)))) w_32<m_22 t42_23 w_24)
 (I_21 ((i64 ((t42_23:Int)+(1:Int)))) w_28∧m_22 ((i64 ((t42_23:Int)+(1:Int)))) w_28<m_22 t42_23 w_24))
 (Cl Tryz.prog [kS,kI] n_bwt_ranked ⟨[(.slice s3.base s3.len s3.cap)]⟩ w_24 fun (r34:Sl) (r35:Int) (w_33:World)=>
 0≤(1:Int)∧
 I_15 (r34) (r35) ((ishl .i64 (wide19:Int) (1:Int))) w_33∧m_16 (r34) (r35) ((ishl .i64 (wide19:Int) (1:Int))) w_33<m_16 r17 all_18 wide19 w_20))
 (R (r17) w_20))
set_option maxRecDepth 100000 in
theorem bwt_ranks.ok (text1:Sl) (R:Sl→World→Prop) (w:World) (h:bwt_ranks.E text1 R w):Cl Tryz.prog [kS] n_bwt_ranks ⟨[(.slice text1.base text1.len text1.cap)]⟩ w R:=
 calls_of_eq Tryz.mix Tryz.f163 [(.slice text1.base text1.len text1.cap)] [kS] R 76 [.tmp 2] (by kernel_rfl) (by kernel_rfl) (by kernel_rfl) (by kernel_rfl) (by kernel_rfl)
  (.s .o (.s .o (.s (.s .o (.b (.l [(16,kI)] (.s .o (.s (.c .o .o) (.s (.b (.s .o .o)) .o)))))) (.s .o (.s (.s .o (.b (.l [(6,kS),(7,kI),(8,kI)] (.s (.s .o (.c .o .o)) (.s (.b (.s (.s .o (.b (.l [(42,kI)] (.s .o (.s (.c .o .o) (.s (.b (.s .o (.s .o (.s .o (.c .o .o))))) .o)))))) .o)) .o))))) (.s .o .o))))))
  (by kernel_rfl) h
set_option maxRecDepth 100000 in
def bwt_ranked.E (l1:Sl) (R:Sl→Int→World→Prop) (w:World):Prop:=
 Cl Tryz.prog [kS] n_slices_Clone_bwt_pair_bwt_pair ⟨[(.slice l1.base l1.len l1.cap)]⟩ w fun (r3:Sl) (w_2:World)=>
 Cl Tryz.prog [] n_slices_SortFunc_bwt_pair_bwt_pair ⟨[(.slice r3.base r3.len r3.cap),(.func (.func 210) ⟨[]⟩ ⟨[]⟩)]⟩ w_2 fun (w_4:World)=>
 Run Tryz.prog (Instr.makeMap 250 none) kM w_4 fun (m_6:Option Nat) (w_5:World)=>
 ∃(I_7:Int→World→Prop) (m_8:Int→World→Nat),I_7 (0) w_5∧
 ∀(t19_9:Int),∀(w_10:World),I_7 t19_9 w_10→
 IfB (decide ((t19_9:Int)<((r3.len:Int):Int)))
 (Idx r3 t19_9 2 fun (q11:Addr)=>
 Ld (.st [.int .i64,.int .i64]) q11 w_10 fun (x12:(TT [.int .i64,.int .i64]))=>
 Nw 239 ⟨[(.int .i64 0),(.int .i64 0)]⟩ w_10 fun (b14:Nat) (w_13:World)=>
 StC (⟨b14,0,none⟩:Addr) [(.int .i64 x12.1),(.int .i64 x12.2.1)] 0 w_13 fun (w_15:World)=>
 Ld (.st [.int .i64,.int .i64]) (⟨b14,0,none⟩:Addr) w_15 fun (x16:(TT [.int .i64,.int .i64]))=>
 RunR Tryz.prog (Instr.lookup 250 (.map m_6) (.agg ⟨[(.int .i64 x16.1),(.int .i64 x16.2.1)]⟩) true) [kI,kB] w_15 fun (e18:Int) (e19:Bool) (w_17:World)=>
 IfB (!e19)
 (Ld (.st [.int .i64,.int .i64]) (⟨b14,0,none⟩:Addr) w_17 fun (x20:(TT [.int .i64,.int .i64]))=>
 Run Tryz.prog (Builtin.len_ #[250] 3 ⟨[(.map m_6)]⟩) kI w_17 fun (n22:Int) (w_21:World)=>
 Run Tryz.prog (do Instr.mapUpdate 250 (.map m_6) (.agg ⟨[(.int .i64 x20.1),(.int .i64 x20.2.1)]⟩) (.int .i64 n22);pure undef) kV w_21 fun (_:Value) (w_23:World)=>
 I_7 ((i64 ((t19_9:Int)+(1:Int)))) w_23∧m_8 ((i64 ((t19_9:Int)+(1:Int)))) w_23<m_8 t19_9 w_10)
 (I_7 ((i64 ((t19_9:Int)+(1:Int)))) w_17∧m_8 ((i64 ((t19_9:Int)+(1:Int)))) w_17<m_8 t19_9 w_10))
 (∃(I_24:Sl→Int→World→Prop) (m_25:Sl→Int→World→Nat),I_24 ((⟨none,0,0⟩:Sl)) (0) w_10∧
 ∀(ranks26:Sl) (t38_27:Int),∀(w_28:World),I_24 ranks26 t38_27 w_28→
 IfB (decide ((t38_27:Int)<((l1.len:Int):Int)))
 (Idx l1 t38_27 2 fun (q29:Addr)=>
 Ld (.st [.int .i64,.int .i64]) q29 w_28 fun (x30:(TT [.int .i64,.int .i64]))=>
 Nw 239 ⟨[(.int .i64 0),(.int .i64 0)]⟩ w_28 fun (b32:Nat) (w_31:World)=>
 StC (⟨b32,0,none⟩:Addr) [(.int .i64 x30.1),(.int .i64 x30.2.1)] 0 w_31 fun (w_33:World)=>
 Ld (.st [.int .i64,.int .i64]) (⟨b32,0,none⟩:Addr) w_33 fun (x34:(TT [.int .i64,.int .i64]))=>
 Run Tryz.prog (Instr.lookup 250 (.map m_6) (.agg ⟨[(.int .i64 x34.1),(.int .i64 x34.2.1)]⟩) false) kI w_33 fun (e36:Int) (w_35:World)=>
 Nw 3 ⟨[(.int .i64 e36)]⟩ w_35 fun (b38:Nat) (w_37:World)=>
 Run Tryz.prog (Builtin.append_ #[33,33] 33 ⟨[(.slice ranks26.base ranks26.len ranks26.cap),(.slice (⟨some ⟨b38,0,none⟩,1,1⟩:Sl).base (⟨some ⟨b38,0,none⟩,1,1⟩:Sl).len (⟨some ⟨b38,0,none⟩,1,1⟩:Sl).cap)]⟩) kS w_37 fun (s40:Sl) (w_39:World)=>
 I_24 (s40) ((i64 ((t38_27:Int)+(1:Int)))) w_39∧m_25 (s40) ((i64 ((t38_27:Int)+(1:Int)))) w_39<m_25 ranks26 t38_27 w_28)
 (Run Tryz.prog (Builtin.len_ #[250] 3 ⟨[(.map m_6)]⟩) kI w_28 fun (n42:Int) (w_41:World)=>
 R (ranks26) (n42) w_41))
set_option maxRecDepth 100000 in
theorem bwt_ranked.ok (l1:Sl) (R:Sl→Int→World→Prop) (w:World) (h:bwt_ranked.E l1 R w):Cl Tryz.prog [kS,kI] n_bwt_ranked ⟨[(.slice l1.base l1.len l1.cap)]⟩ w R:=
 calls_of_eq Tryz.mix Tryz.f195 [(.slice l1.base l1.len l1.cap)] [kS,kI] R 52 [.tmp 2,.tmp 3] (by kernel_rfl) (by kernel_rfl) (by kernel_rfl) (by kernel_rfl) (by kernel_rfl)
  (.s .o (.s .o (.s .o (.s .o (.s (.s .o (.b (.l [(19,kI)] (.s .o (.s (.c .o .o) (.s (.b (.s .o (.s .o (.s .o (.c .o .o))))) .o)))))) (.s (.s .o (.b (.l [(2,kS),(38,kI)] (.s .o (.s (.c .o .o) (.s (.b (.s .o .o)) .o)))))) (.s .o .o)))))))
  (by kernel_rfl) h
def bwt_ranked_1.E (a1:(TT [.int .i64,.int .i64])) (b2:(TT [.int .i64,.int .i64])) (R:Int→World→Prop) (w:World):Prop:=
 Nw 239 ⟨[(.int .i64 a1.1),(.int .i64 a1.2.1)]⟩ w fun (b4:Nat) (w_3:World)=>
 Nw 239 ⟨[(.int .i64 b2.1),(.int .i64 b2.2.1)]⟩ w_3 fun (b6:Nat) (w_5:World)=>
 Held w_5 fun (S7:World→Prop) (w_8:World)=>
 LdS kI ((⟨b4,0,none⟩:Addr).add 0) S7 fun (first_9:Int)=>
 LdS kI ((⟨b6,0,none⟩:Addr).add 0) S7 fun (first_10:Int)=>
 LdS kI ((⟨b4,0,none⟩:Addr).add 1) S7 fun (second11:Int)=>
 LdS kI ((⟨b6,0,none⟩:Addr).add 1) S7 fun (second12:Int)=>
 Cl Tryz.prog [kI] n_cmp_Compare_int ⟨[(.int .i64 first_9),(.int .i64 first_10)]⟩ w_8 fun (r14:Int) (w_13:World)=>
 S7 w_13∧
 Cl Tryz.prog [kI] n_cmp_Compare_int ⟨[(.int .i64 second11),(.int .i64 second12)]⟩ w_13 fun (r16:Int) (w_15:World)=>
 S7 w_15∧
 Nw 3 ⟨[(.int .i64 r14),(.int .i64 r16)]⟩ w_15 fun (b18:Nat) (w_17:World)=>
 S7 w_17∧
 Cl Tryz.prog [kI] n_cmp_Or_int ⟨[(.slice (⟨some ⟨b18,0,none⟩,2,2⟩:Sl).base (⟨some ⟨b18,0,none⟩,2,2⟩:Sl).len (⟨some ⟨b18,0,none⟩,2,2⟩:Sl).cap)]⟩ w_17 fun (r20:Int) (w_19:World)=>
 S7 w_19∧
 R (r20) w_19
theorem bwt_ranked_1.ok (a1:(TT [.int .i64,.int .i64])) (b2:(TT [.int .i64,.int .i64])) (R:Int→World→Prop) (w:World) (h:bwt_ranked_1.E a1 b2 R w):Cl Tryz.prog [kI] n_bwt_ranked_1 ⟨[(.agg ⟨[(.int .i64 a1.1),(.int .i64 a1.2.1)]⟩),(.agg ⟨[(.int .i64 b2.1),(.int .i64 b2.2.1)]⟩)]⟩ w R:=
 calls_of_eq Tryz.mix Tryz.f210 [(.agg ⟨[(.int .i64 a1.1),(.int .i64 a1.2.1)]⟩),(.agg ⟨[(.int .i64 b2.1),(.int .i64 b2.2.1)]⟩)] [kI] R 17 [.tmp 4] (by kernel_rfl) (by kernel_rfl) (by kernel_rfl) (by kernel_rfl) (by kernel_rfl)
  (.s .o (.s .o .o))
  (by kernel_rfl) h
end Go.Proofs.YtcdpblipagajiaaGreat
set_option maxRecDepth 20000
namespace Go.Vc
open Go
def aT (t:List Int):Array Value:=⟨t.map vI⟩
def zl (l:List Nat):List Int:=l.map fun (x:Nat)=>(x:Int)
theorem zl_len (l:List Nat):(zl l).length=l.length:=List.length_map ..
theorem zl_app (a b:List Nat):zl (a++b)=zl a++zl b:=List.map_append
theorem aT_size {t:List Int}:(aT t).size=t.length:=by simp [aT]
theorem aT_get {t:List Int} {i:Nat} (h:i<t.length):(aT t)[i]? =some (Sc.enc (.int .i64) (t.getD i 0)):=by simp [aT,h,vI,List.getD]
theorem aT_scalar {t:List Int}: ∀v∈(aT t).toList,scalarB v=true:=by
 intro v hv
 simp only [aT,List.mem_map] at hv
 obtain ⟨x,_,rfl⟩:=hv
 rfl
theorem aT_set {t:List Int} {i:Nat} {x:Int}:(aT t).setIfInBounds i (.int .i64 x)=aT (t.set i x):=by
 unfold aT
 apply Array.ext'
 simp [List.map_set,vI]
theorem aT_zero {n:Nat}:(⟨List.replicate n (.int .i64 0)⟩:Array Value)=aT (List.replicate n 0):=by unfold aT;simp [vI]
theorem EqA.aT {n:Nat} {a b:List Int} {K:Bool→Prop} (ha:a.length=n) (hb:b.length=n) (h:K (a==b)):EqA .i64 n (aT a) (aT b) K:=⟨a,b,rfl,rfl,ha,hb,h⟩
theorem getD_set {l:List Int} {i j:Nat} {x:Int} (hi:i<l.length):(l.set i x).getD j 0=if j=i then x else l.getD j 0:=by
 simp only [List.getD,List.getElem?_set]
 by_cases h:i=j
 ·subst h;simp [hi]
 ·rw [if_neg h,if_neg (fun e=>h e.symm)]
section
variable {E w:World} {F:List HP}
theorem IdxP.aT {b n:Nat} {t:List Int} {ty:TypeId} {fr:Nat×Nat} {i:Int} {j:Nat} {K:Int→Prop} (h:Hp E w (Blk b (.cells (Vc.aT t) ty fr)::F)) (hi:i=(j:Int)) (hn:t.length=n) (hj:j<n) (hK:K (t.getD j 0)):IdxP ⟨b,0,none⟩ n i 1 fun q=>Ld kI q w K:=by
 subst hi
 exact IdxP.rd (s:= .int .i64) h (by omega) (by omega) _ (by rw [Int.toNat_natCast];exact aT_get (by omega)) hK
theorem IdxP.aTset {b n:Nat} {t:List Int} {ty:TypeId} {i:Int} {j:Nat} {v:Int} {K:World→Prop} (h:Hp E w (Blk b (.cells (Vc.aT t) ty (0,0))::F)) (hi:i=(j:Int)) (hn:t.length=n) (hj:j<n)
  (hK: ∀w',Hp E w' (Blk b (.cells (Vc.aT (t.set j v)) ty (0,0))::F)→K w'):IdxP ⟨b,0,none⟩ n i 1 fun q=>St q (.int .i64 v) w K:=by
 subst hi
 exact IdxP.wr h (by omega) (by omega) (by rw [aT_size,hn]) rfl (by rw [Int.toNat_natCast,aT_set];exact hK)
theorem IdxV.aT {n:Nat} {t:List Int} {i:Int} {j:Nat} {K:Int→Prop} (hi:i=(j:Int)) (hn:t.length=n) (hj:j<n) (hK:K (t.getD j 0)):IdxV (.int .i64) (Vc.aT t) n i K:=by
 subst hi
 exact IdxV.rd (s:= .int .i64) (by omega) (by omega) _ (by rw [Int.toNat_natCast];exact aT_get (by omega)) hK
theorem Idx.nI {s:Sl} {zs:List Int} {i:Int} {j:Nat} {K:Int→Prop} (hs:SlT 1 s (zs.map vI) w) (hi:i=(j:Int)) (hj:j<zs.length) (hK:K (zs.getD j 0)):Idx s i 1 fun q=>Ld kI q w K:=by
 subst hi
 have hl:=hs.1
 simp only [List.length_map,Nat.mul_one] at hl
 refine Idx.rd hs (by omega) (by omega) fun p hp hc=>Ld.sc (s:= .int .i64) _ ?_ hK
 rw [hc]
 simp [vI,List.getD,hj]
theorem Idx.nB {s:Sl} {bs:List Nat} {i:Int} {j:Nat} {K:Int→Prop} (hs:SlT 1 s (bs.map vB) w) (hi:i=(j:Int)) (hj:j<bs.length) (hK:K (bs.getD j 0:Int)):Idx s i 1 fun q=>Ld (kInt .u8) q w K:=by
 subst hi
 have hl:=hs.1
 simp only [List.length_map,Nat.mul_one] at hl
 refine Idx.rd hs (by omega) (by omega) fun p hp hc=>Ld.sc (s:= .int .u8) (bs.getD j 0:Int) ?_ hK
 rw [hc]
 simp [vB,List.getD,hj]
theorem Idx.setI {s:Sl} {zs:List Int} {i:Int} {j:Nat} {x:Int} {K:World→Prop} (hh:Hp E w (OwnS 1 s (zs.map vI)::F)) (hi:i=(j:Int)) (hj:j<zs.length) (h: ∀w',Hp E w' (OwnS 1 s ((zs.set j x).map vI)::F)→K w'):Idx s i 1 fun q=>St q (.int .i64 x) w K:=by
 subst hi
 have hl:=hh.ownLen
 rw [List.length_map,Nat.mul_one] at hl
 refine St.own hh (by omega) (by omega) rfl fun w' h'=>h w' ?_
 rw [Int.toNat_natCast] at h'
 rw [List.map_set]
 exact h'
theorem Idx.setB {s:Sl} {bs:List Nat} {i:Int} {j x:Nat} {K:World→Prop} (hh:Hp E w (OwnS 1 s (bs.map vB)::F)) (hi:i=(j:Int)) (hj:j<bs.length) (h: ∀w',Hp E w' (OwnS 1 s ((bs.set j x).map vB)::F)→K w'):Idx s i 1 fun q=>St q (.int .u8 (x:Int)) w K:=by
 subst hi
 have hl:=hh.ownLen
 rw [List.length_map,Nat.mul_one] at hl
 refine St.own hh (by omega) (by omega) rfl fun w' h'=>h w' ?_
 rw [Int.toNat_natCast] at h'
 rw [List.map_set]
 exact h'
theorem app_n {P:Program} {t ty e e2:TypeId} {s:Sl} {zs:List Int} {x:Int} {cs:Array Value} {K:Sl→World→Prop} (he:ElemT P t e 1 8) (hcs:cs=⟨[vI x]⟩) (hh:Hp E w (OwnS 1 s (zs.map vI)::F)) (hb:zs.length≤big)
  (h: ∀s' w',Hp E w' (OwnS 1 s' ((zs++ [x]).map vI)::F)→s'.len=zs.length+1→K s' w'):
  Nw e2 cs w fun b w1=>Run P (Builtin.append_ #[t,t] ty ⟨[.slice s.base s.len s.cap,.slice (some ⟨b,0,none⟩) 1 1]⟩) kS w1 K:=by
 have hl:=hh.ownLen
 rw [List.length_map,Nat.mul_one] at hl
 rw [big_eq] at hb
 refine Nw.mk hh fun b w1 h1=>run_append (ys:= [vI x]) (n:=1) he (by decide) (.inl ⟨e,he.und⟩) h1.p1 (.inl ⟨some ⟨b,0,none⟩,1,1,rfl,rfl,h1.tells (Tells.blk (by rw [hcs]) rfl)⟩) rfl (fun y hy=>by
  rw [List.mem_singleton] at hy;subst hy;rfl) (by omega) (by omega) fun s' w2 h2 hs'=>h s' w2 ?_ (by omega)
 rw [List.map_append]
 exact h2.p1.drop
end
end Go.Vc
set_option maxRecDepth 20000
namespace Go.Hs
open Go Go.Vc
def validT (t:List Int):Bool:=t.all fun x=>decide (0≤x)&&decide (x≤2147483647)
theorem validT_iff {t:List Int}:validT t=true↔∀i,i<t.length→0≤t.getD i 0∧t.getD i 0≤2147483647:=by
 unfold validT
 rw [List.all_eq_true]
 constructor
 ·intro h i hi
  have:=h t[i] (List.getElem_mem hi)
  simpa [List.getD,hi] using this
 ·intro h x hx
  obtain ⟨i,hi,rfl⟩:=List.getElem_of_mem hx
  simpa [List.getD,hi] using h i hi
theorem validT_f {t:List Int} {i:Nat} (hi:i<t.length) (h: ¬(0≤t.getD i 0∧t.getD i 0≤2147483647)):validT t=false:=by
 cases hv:validT t with
 |false=>rfl
 |true=>exact absurd (validT_iff.1 hv i hi) h
def isS (z:Int):Bool:=decide (0≤z)&&decide (z<258)
theorem isS_iff {z:Int}:isS z=true↔0≤z∧z<258:=by simp [isS]
def inc (t:List Int) (z:Int):List Int:=t.set z.toNat (t.getD z.toNat 0+1)
def cnt (t:List Int) (zs:List Int):List Int:=zs.foldl inc t
theorem inc_len (t:List Int) (z:Int):(inc t z).length=t.length:=List.length_set ..
theorem cnt_len: ∀(zs t:List Int),(cnt t zs).length=t.length
 | [],_=>rfl
 |z::zs,t=>by
  show (cnt (inc t z) zs).length=_
  rw [cnt_len zs,inc_len]
theorem cnt_snoc (t zs:List Int) (z:Int):cnt t (zs++ [z])=inc (cnt t zs) z:=by simp [cnt]
theorem inc_get {t:List Int} {z:Int} (hz:isS z=true) (ht:t.length=258) (i:Nat):(inc t z).getD i 0=t.getD i 0+if z=(i:Int) then 1 else 0:=by
 rw [isS_iff] at hz
 unfold inc
 rw [getD_set (by omega)]
 by_cases h:z=(i:Int)
 ·have:i=z.toNat:=by omega
  rw [if_pos this,if_pos h,this]
 ·rw [if_neg (by omega),if_neg h];omega
theorem cnt_get: ∀{zs t:List Int},zs.all isS=true→t.length=258→∀i:Nat,(cnt t zs).getD i 0=t.getD i 0+(zs.count (i:Int):Int)
 | [],t,_,_,i=>by simp [cnt]
 |z::zs,t,h,ht,i=>by
  rw [List.all_cons,Bool.and_eq_true] at h
  show (cnt (inc t z) zs).getD i 0=_
  rw [cnt_get h.2 (by rw [inc_len,ht]),inc_get h.1 ht,List.count_cons]
  by_cases e:z=(i:Int)
  ·rw [if_pos e,if_pos (by simp [e])];omega
  ·rw [if_neg e,if_neg (by simp [e])];omega
def addT (t zs:List Int):Option (List Int):=if validT t&&zs.all isS&&validT (cnt t zs) then some (cnt t zs) else none
def erO (o:Option (List Int)):Int:=if o.isSome then 0 else 2
theorem addT_invalid {t zs:List Int} (h:validT t=false):addT t zs=none:=by simp [addT,h]
theorem addT_bad {t zs:List Int} {k:Nat} (hk:k<zs.length) (h:isS (zs.getD k 0)=false):addT t zs=none:=by
 unfold addT
 rw [if_neg]
 intro hh
 simp only [Bool.and_eq_true] at hh
 have:=List.all_eq_true.1 hh.1.2 zs[k] (List.getElem_mem hk)
 simp [List.getD,hk,this] at h
theorem count_take_le (zs:List Int) (z:Int) (k:Nat):(zs.take k).count z≤zs.count z:=by
 have:zs.count z=(zs.take k).count z+(zs.drop k).count z:=by rw [←List.count_append,List.take_append_drop]
 omega
theorem addT_over {t zs:List Int} {k:Nat} (ht:t.length=258) (hk:k<zs.length) (hg:(zs.take k).all isS=true) (hz:isS (zs.getD k 0)=true) (h:2147483647≤(cnt t (zs.take k)).getD (zs.getD k 0).toNat 0):addT t zs=none:=by
 unfold addT
 rw [if_neg]
 intro hh
 simp only [Bool.and_eq_true] at hh
 have hr:=isS_iff.1 hz
 have hv:=validT_iff.1 hh.2 (zs.getD k 0).toNat (by rw [cnt_len];omega)
 rw [cnt_get hh.1.2 ht] at hv
 rw [cnt_get hg ht] at h
 have e:(((zs.getD k 0).toNat:Nat):Int)=zs.getD k 0:=by omega
 rw [e] at hv h
 have h1:=count_take_le zs (zs.getD k 0) (k+1)
 have h2:(zs.take (k+1)).count (zs.getD k 0)=(zs.take k).count (zs.getD k 0)+1:=by
  rw [List.take_add_one,List.getElem?_eq_getElem hk,List.count_append]
  simp [List.getD,hk]
 omega
theorem take_snocD {zs:List Int} {k:Nat} (hk:k<zs.length):zs.take (k+1)=zs.take k++ [zs.getD k 0]:=by
 rw [List.take_add_one,List.getElem?_eq_getElem hk]
 simp [List.getD,hk]
theorem addT_all {t zs:List Int} (h1:validT t=true) (h2:zs.all isS=true) (h3:validT (cnt t zs)=true):addT t zs=some (cnt t zs):=by simp [addT,h1,h2,h3]
theorem addT_some {t zs u:List Int} (h:addT t zs=some u):validT t=true∧zs.all isS=true∧u=cnt t zs∧validT u=true:=by
 unfold addT at h
 split at h
 ·rename_i hh
  simp only [Bool.and_eq_true] at hh
  obtain rfl:=Option.some.inj h
  exact ⟨hh.1.1,hh.1.2,rfl,hh.2⟩
 ·cases h
end Go.Hs
set_option maxRecDepth 20000
namespace Go.Vc
open Go Go.Sort
set_option linter.unusedSectionVars false
def enc2 (x:Int×Int):List Value:= [.int .i64 x.1,.int .i64 x.2]
theorem enc2_len (x:Int×Int):(enc2 x).length=2:=rfl
theorem enc2_scalar (x:Int×Int): ∀y∈enc2 x,scalarB y=true:=by
 intro y hy
 simp only [enc2,List.mem_cons,List.not_mem_nil,or_false] at hy
 rcases hy with rfl|rfl<;>rfl
def cmpI (a b:Int):Int:=if a<b then -1 else if a>b then 1 else 0
def cmp2 (x y:Int×Int):Int:=if cmpI x.1 y.1 !=0 then cmpI x.1 y.1 else cmpI x.2 y.2
def lt2 (x y:Int×Int):Bool:=decide (x.1<y.1)||(decide (x.1=y.1)&&decide (x.2<y.2))
theorem lt2_iff {x y:Int×Int}:lt2 x y=true↔x.1<y.1∨(x.1=y.1∧x.2<y.2):=by simp [lt2]
theorem ltOf_cmp2:Go.Proofs.ltOf cmp2=lt2:=by
 funext x y
 rw [Bool.eq_iff_iff,lt2_iff]
 unfold Go.Proofs.ltOf cmp2 cmpI
 rw [decide_eq_true_iff]
 by_cases h1:x.1<y.1
 ·simp [h1]
 ·by_cases h2:x.1>y.1
  ·simp [h1,h2];omega
  ·by_cases h3:x.2<y.2
   ·simp [h1,h2,h3];omega
   ·by_cases h4:x.2>y.2
    ·simp [h1,h2,h3,h4]
    ·simp [h1,h2,h3,h4]
theorem lt2_swo:SWO (Go.Proofs.ltOf cmp2):=by
 rw [ltOf_cmp2]
 refine ⟨fun x=> ?_,fun x y z h1 h2=> ?_,fun x y z h1 h2=> ?_⟩
 ·rw [Bool.eq_false_iff];intro h;rw [lt2_iff] at h;omega
 ·rw [lt2_iff] at*;omega
 ·rw [Bool.eq_false_iff] at*;simp only [ne_eq,lt2_iff] at*;omega
def sort2 (xs:List (Int×Int)):List (Int×Int):=xs.mergeSort fun x y=> !lt2 y x
section
variable {E w:World} {F:List HP}
theorem Hp.grown {l:List HP} (h:Hp E w l) (os:Array Obj):Hp E (grow w os) l:=by
 obtain ⟨f,a,b⟩:=h.frag
 refine ⟨h.os,h.output,h.tape,f,fun r o hr=> ?_,b⟩
 have:=a r o hr
 show (w.heap++os)[r]? =some o
 have hlt:r<w.heap.size:=by obtain ⟨hh,_⟩:=Array.getElem?_eq_some_iff.1 this;exact hh
 rw [Array.getElem?_append_left hlt,this]
theorem Hp.mapBlk {b:Nat} {c:Array Value} {t:TypeId} (h:Hp E w (Blk b (.cells c t (0,0))::F)) (f:Array Value→Array Value):Hp E (mapBlock w b f) (Blk b (.cells (f c) t (0,0))::F):=by
 refine h.setObj ?_ rfl rfl rfl
 show w.heap.modify b (onCells f)=_
 have hb:=h.blk
 apply Array.ext_getElem?
 intro k
 have hlt:b<w.heap.size:=(Array.getElem?_eq_some_iff.1 hb).1
 simp only [Array.getElem?_modify,Array.set!_eq_setIfInBounds,Array.getElem?_setIfInBounds]
 by_cases hk:b=k
 ·subst hk
  simp only [if_true,hlt,hb,Option.map_some,onCells]
 ·simp [hk]
theorem flat2 (d:Array (Int×Int)):(flatK enc2 2 d).toList=d.toList.flatMap enc2:=by
 apply List.ext_getElem?
 intro i
 by_cases hi:i<d.size*2
 ·have hm:i=i/2*2+i % 2:=by omega
  have hd:i/2<d.toList.length:=by rw [Array.length_toList];omega
  have:=fm_get (g:=enc2) (sz:=2) enc2_len d.toList (i/2) (i % 2) hd (by omega)
  rw [←hm] at this
  rw [this]
  have h2:=get_flatK enc2 2 d i hi
  have hs:i<(flatK enc2 2 d).size:=by simpa using hi
  rw [getElem!_pos (flatK enc2 2 d) i hs,getElem!_pos d (i/2) (by omega)] at h2
  rw [List.getElem?_eq_getElem (by simpa using hi),Array.getElem_toList,h2]
  have:i % 2=0∨i % 2=1:=by omega
  rcases this with e|e<;>rw [e]<;>simp [enc2]
 ·rw [List.getElem?_eq_none (by simp;omega),List.getElem?_eq_none (by rw [fm_len enc2_len];simp;omega)]
theorem sort2_len (xs:List (Int×Int)):(sort2 xs).length=xs.length:=List.length_mergeSort ..
theorem sortF_c {P:Program} {ρ:Go.Shelf.Ren} (L:Go.Proofs.SlLaysF0.n6 P ρ) (aE: ∀w,(isAgg (ρ.t 24)).run P w= .ok true w) (zE: ∀w,(Go.sizeOf (ρ.t 24)).run P w= .ok 2 w) {g:Nat} (eg:okCall P g=true)
  (hcl: ∀(x y:Int×Int) (W:World),Calls P g #[.agg ⟨enc2 x⟩,.agg ⟨enc2 y⟩] W fun e w'=>e= .returned (.int .i64 (cmp2 x y))∧∃q os',w'=grow (W.drewN q) os')
  {s:Sl} {xs:List (Int×Int)} {K:World→Prop} (h:Hp E w (OwnS 2 s (xs.flatMap enc2)::F)) (hsz:xs.length<4611686018427387904) (hK: ∀w',Hp E w' (OwnS 2 s ((sort2 xs).flatMap enc2)::F)→K w'):
  Cl P [] (ρ.f 6) ⟨[.slice s.base s.len s.cap,.func (.func g) ⟨[]⟩ ⟨[]⟩]⟩ w K:=by
 have hlen:=SlT.len enc2_len (by decide) (h.tells Tells.own)
 unfold Cl
 by_cases h0:xs.length=0
 ·obtain rfl:xs= []:=List.length_eq_zero_iff.1 h0
  have hs0:s.len=0:=hlen
  rw [hs0]
  refine (Go.Proofs.AnyF.slices_SortFunc_none {L with} s.base s.cap _ w).mono fun e w' he=> ?_
  obtain ⟨rfl,rfl⟩:=he
  exact hK _ (by rw [show sort2 []= [] from List.length_eq_zero_iff.1 (sort2_len [])];exact h)
 rcases h.ownOpen with ⟨rfl,h1,_⟩|⟨b,off,arr,t,h1,h2,h3,h4,h5⟩
 ·exact absurd (by simpa using hlen.symm) h0
 have hd:xs.toArray.size=s.len:=by simp [hlen]
 have hH:HoldsK enc2 2 w b off xs.toArray:=by
  intro j hj
  rw [size_flatK,hd] at hj
  have hfl:(xs.flatMap enc2).length=xs.length*2:=fm_len enc2_len xs
  have e1:=h4 j (by rw [hfl,←hlen];exact hj)
  refine ⟨?_,?_⟩
  ·rw [h5.cell (i:=off+j),e1]
   congr 1
   have e2:(flatK enc2 2 xs.toArray)[j]! =(flatK enc2 2 xs.toArray)[j]'(by rw [size_flatK,hd];exact hj):=getElem!_pos _ _ _
   show _=(flatK enc2 2 xs.toArray)[j]!
   rw [e2,←Array.getElem_toList]
   simp only [flat2]
  ·have hb:=h5.blk
   simp [World.frozen?,hb]
 have key:=Go.Proofs.AnyQ.slices_SortFunc_total L 2 aE zE enc2 enc2_len (fun x v hv=>by
   simp only [enc2,List.mem_cons,List.not_mem_nil,or_false] at hv
   rcases hv with rfl|rfl<;>rfl) cmp2 lt2_swo g ⟨[]⟩ b off s.cap xs.toArray w (okCall_run eg)
  (fun m os dk _ x y=>hcl x y _) hH (by have:=h5.blk;exact (Array.getElem?_eq_some_iff.1 this).1) (by rw [hd,hlen];exact hsz)
  (fun x y h1 h2=>by
   rw [ltOf_cmp2,Bool.eq_false_iff] at h1 h2
   simp only [ne_eq,lt2_iff] at h1 h2
   exact Prod.ext (by omega) (by omega))
 rw [hd,←h1] at key
 refine Calls.mono key fun e w' he=> ?_
 obtain ⟨rfl,n,os,rfl⟩:=he
 rw [ltOf_cmp2]
 refine hK _ ?_
 unfold Go.Proofs.sortWorldK
 refine Hp.grown ?_ os
 have h6:Hp E (Sort.ahead w n) (Blk b (.cells arr t (0,0))::F):=h5.drew
 have h7:=h6.mapBlk (putCells id off (flatK enc2 2 (sort2 xs).toArray))
 have hl2:((sort2 xs).flatMap enc2).length=s.len*2:=by rw [fm_len enc2_len,sort2_len,hlen]
 refine h7.ownShut (s:=s) hl2 h1 h2 (by simpa [putCells] using h3) fun i hi=> ?_
 have hi2:i<s.len*2:=by rw [←hl2];exact hi
 have hb:off+i<arr.size:=by
  have:s.len*2≤s.cap*2:=Nat.mul_le_mul_right _ h2
  omega
 have hsF:i<(flatK enc2 2 (sort2 xs).toArray).size:=by rw [size_flatK];simp [sort2_len];omega
 have e2:(flatK enc2 2 (sort2 xs).toArray)[i]! =((sort2 xs).flatMap enc2)[i]:=by
  rw [getElem!_pos (flatK enc2 2 (sort2 xs).toArray) i hsF,←Array.getElem_toList]
  simp only [flat2]
 unfold putCells
 rw [Array.getElem?_mapIdx,Array.getElem?_eq_getElem hb]
 simp only [Option.map_some]
 rw [if_pos ⟨by omega,by omega⟩,show off+i - off=i by omega,id,e2]
end
end Go.Vc
set_option maxRecDepth 20000
namespace Go.Hs
open Go Go.Vc
theorem sort2_perm (xs:List (Int×Int)):(sort2 xs).Perm xs:=List.mergeSort_perm ..
theorem sort2_sorted (xs:List (Int×Int)):(sort2 xs).Pairwise fun a b=>lt2 b a=false:=by
 have h:=List.pairwise_mergeSort (le:=fun x y:Int×Int=> !lt2 y x) (fun a b c h1 h2=>by
   simp only [Bool.not_eq_true',Bool.eq_false_iff,ne_eq,lt2_iff] at*;omega) (fun a b=>by
   simp only [Bool.or_eq_true,Bool.not_eq_true',Bool.eq_false_iff,ne_eq,lt2_iff];omega) xs
 exact h.imp fun {a b} h=>by simpa using h
theorem lt2_total {a b:Int×Int} (h:a≠b) (h2:lt2 b a=false):lt2 a b=true:=by
 rw [lt2_iff]
 rw [Bool.eq_false_iff,ne_eq,lt2_iff] at h2
 have: ¬(a.1=b.1∧a.2=b.2):=fun e=>h (Prod.ext e.1 e.2)
 omega
theorem sort2_strict {xs:List (Int×Int)} (hn:xs.Nodup):(sort2 xs).Pairwise fun a b=>lt2 a b=true:=by
 have h1:=sort2_sorted xs
 have h2:(sort2 xs).Nodup:=(sort2_perm xs).nodup_iff.2 hn
 exact (h1.and h2).imp fun {a b} h=>lt2_total h.2 h.1
theorem lt2_irr (a:Int×Int):lt2 a a=false:=by rw [Bool.eq_false_iff,ne_eq,lt2_iff];omega
theorem lt2_asym {a b:Int×Int} (h:lt2 a b=true):lt2 b a=false:=by rw [Bool.eq_false_iff,ne_eq,lt2_iff];rw [lt2_iff] at h;omega
theorem rank_at: ∀{S:List (Int×Int)},S.Pairwise (fun a b=>lt2 a b=true)→∀(j:Nat) (hj:j<S.length),S.countP (fun x=>lt2 x S[j])=j
 | [],_,j,hj=>by simp at hj
 |a::S,h,0,_=>by
  rw [List.pairwise_cons] at h
  rw [List.countP_cons,List.getElem_cons_zero,lt2_irr,List.countP_eq_zero.2 fun x hx=>by rw [lt2_asym (h.1 x hx)];decide]
  rfl
 |a::S,h,j+1,hj=>by
  rw [List.pairwise_cons] at h
  have hj':j<S.length:=by simpa using hj
  rw [List.countP_cons,List.getElem_cons_succ,rank_at h.2 j hj',h.1 _ (List.getElem_mem hj')]
  rfl
theorem rank_of {S:List (Int×Int)} (h:S.Pairwise (fun a b=>lt2 a b=true)) {x:Int×Int} (hx:x∈S): ∃hj:S.countP (fun y=>lt2 y x)<S.length,S[S.countP (fun y=>lt2 y x)]=x:=by
 obtain ⟨j,hj,rfl⟩:=List.getElem_of_mem hx
 have:=rank_at h j hj
 exact ⟨by omega,by simp only [this]⟩
def fi {α:Type} [DecidableEq α] (acc:List α) (t:α):List α:=if t∈acc then acc else acc++ [t]
def firsts {α:Type} [DecidableEq α] (l:List α):List α:=l.foldl fi []
theorem fi_mem {α:Type} [DecidableEq α] {acc:List α} {t x:α}:x∈fi acc t↔x∈acc∨x=t:=by
 unfold fi
 split
 ·rename_i h
  constructor
  ·exact .inl
  ·rintro (h1|rfl)
   ·exact h1
   ·exact h
 ·simp
theorem firsts_snoc {α:Type} [DecidableEq α] (l:List α) (t:α):firsts (l++ [t])=fi (firsts l) t:=by simp [firsts]
theorem foldl_fi_mem {α:Type} [DecidableEq α]: ∀(l acc:List α) (x:α),x∈l.foldl fi acc↔x∈acc∨x∈l
 | [],acc,x=>by simp
 |t::l,acc,x=>by
  rw [List.foldl_cons,foldl_fi_mem l,fi_mem,List.mem_cons,or_assoc]
theorem firsts_mem {α:Type} [DecidableEq α] {l:List α} {x:α}:x∈firsts l↔x∈l:=by
 rw [firsts,foldl_fi_mem];simp
end Go.Hs
set_option maxRecDepth 20000
namespace Go.Bw
open Go Go.Vc Go.Rk Go.Hs
theorem lt2_so:SO lt2:=⟨lt2_irr,fun a b c h1 h2=>by rw [lt2_iff] at*;omega,fun a b c h1 h2=>by
 rw [Bool.eq_false_iff] at*;simp only [ne_eq,lt2_iff] at*;omega⟩
theorem lt2_tot (dom:List (Int×Int)):Tot lt2 dom:=fun x _ y _ e=>by
 rw [lt2_iff,lt2_iff]
 have: ¬(x.1=y.1∧x.2=y.2):=fun h=>e (Prod.ext h.1 h.2)
 omega
def dd (l:List (Int×Int)):List (Int×Int):=firsts (sort2 l)
theorem firsts_take {S:List (Int×Int)} {k:Nat} (hk:k<S.length):firsts (S.take (k+1))=fi (firsts (S.take k)) S[k]:=by
 rw [List.take_add_one,List.getElem?_eq_getElem hk]
 exact firsts_snoc _ _
theorem firsts_sorted {S:List (Int×Int)} (hS:S.Pairwise fun a b=>lt2 b a=false): ∀k,k≤S.length→(firsts (S.take k)).Pairwise fun a b=>lt2 a b=true
 |0,_=>List.Pairwise.nil
 |k+1,hk=>by
  have ih:=firsts_sorted hS k (by omega)
  rw [firsts_take (by omega)]
  unfold fi
  split
  ·exact ih
  ·rename_i hn
   refine List.pairwise_append.2 ⟨ih,by simp,fun a ha b hb=> ?_⟩
   rw [List.mem_singleton] at hb
   subst hb
   have ha2:=firsts_mem.1 ha
   obtain ⟨i,hi,e⟩:=List.getElem_of_mem ha2
   rw [List.length_take] at hi
   rw [List.getElem_take] at e
   have h1:=List.pairwise_iff_getElem.1 hS i k (by omega) (by omega) (by omega)
   rw [e] at h1
   exact lt2_total (fun e=>hn (by rw [←e];exact ha)) h1
theorem dd_sorted (l:List (Int×Int)):(dd l).Pairwise fun a b=>lt2 a b=true:=by
 have:=firsts_sorted (sort2_sorted l) (sort2 l).length (Nat.le_refl _)
 rwa [List.take_length] at this
theorem dd_mem {l:List (Int×Int)} {p:Int×Int}:p∈dd l↔p∈l:=by unfold dd;rw [firsts_mem,(sort2_perm l).mem_iff]
def rkP (l:List (Int×Int)) (p:Int×Int):Nat:=rk lt2 (dd l) p
theorem rkP_iff {l:List (Int×Int)} {p q:Int×Int} (hp:p∈l) (hq:q∈l):rkP l p<rkP l q↔lt2 p q=true:=rk_iff lt2_so (lt2_tot _) (dd_mem.2 hp) (dd_mem.2 hq)
theorem rkP_inj {l:List (Int×Int)} {p q:Int×Int} (hp:p∈l) (hq:q∈l) (h:rkP l p=rkP l q):p=q:=rk_inj lt2_so (lt2_tot _) (dd_mem.2 hp) (dd_mem.2 hq) h
theorem dd_at {l:List (Int×Int)} {p:Int×Int} (hp:p∈l): ∃h:rkP l p<(dd l).length,(dd l)[rkP l p]=p:=rank_of lt2_so (dd_sorted l) (dd_mem.2 hp)
theorem firsts_full {S:List (Int×Int)}: ∀k,k≤S.length→(firsts (S.take k)).length≤k∧(k≤(firsts (S.take k)).length→(S.take k).Nodup)
 |0,_=>⟨by simp [firsts],fun _=>by simp⟩
 |k+1,hk=>by
  have ih:=firsts_full k (by omega:k≤S.length)
  rw [firsts_take (by omega)]
  unfold fi
  split
  ·exact ⟨by omega,fun h=>by omega⟩
  ·rename_i hn
   rw [List.length_append,List.length_singleton]
   refine ⟨by omega,fun h=> ?_⟩
   rw [List.take_add_one,List.getElem?_eq_getElem (by omega)]
   refine List.nodup_append.2 ⟨ih.2 (by omega),by simp,fun a ha b hb=> ?_⟩
   simp only [Option.toList_some,List.mem_singleton] at hb
   subst hb
   exact fun e=>hn (by rw [firsts_mem,←e];exact ha)
theorem dd_full {l:List (Int×Int)} (h:l.length≤(dd l).length):l.Nodup:=by
 have:=(firsts_full (S:=sort2 l) (sort2 l).length (Nat.le_refl _)).2
 rw [List.take_length,sort2_len] at this
 exact (sort2_perm l).nodup_iff.1 (this h)
theorem dd_nodup {l:List (Int×Int)} (h:l.Nodup):dd l=sort2 l:=by
 have h2:(dd l).Perm (sort2 l):=by
  have hdn:(dd l).Nodup:=(dd_sorted l).imp fun {a b} hab e=>by subst e;rw [lt2_irr] at hab;cases hab
  refine (List.perm_ext_iff_of_nodup hdn ((sort2_perm l).nodup_iff.2 h)).2 fun a=> ?_
  rw [dd_mem,(sort2_perm l).mem_iff]
 exact sorted_eq lt2_so h2 (dd_sorted l) (sort2_strict h)
theorem rkP_nodup {l:List (Int×Int)} (h:l.Nodup) (p:Int×Int):rkP l p=rk lt2 l p:=by
 unfold rkP rk
 rw [dd_nodup h,(sort2_perm l).countP_eq]
def key (t:List Nat) (h i:Nat):List Nat:=(t.drop i).take h
def PairOk (t:List Nat) (h:Nat) (f:Nat→Int×Int):Prop:= ∀i j,i≤t.length→j≤t.length→(lt2 (f i) (f j)=true↔lx (key t h i) (key t h j)=true)∧(f i=f j↔key t h i=key t h j)
def Qr (t:List Nat) (h:Nat) (r:Nat→Int):Prop:= ∀i j,i≤t.length→j≤t.length→(r i<r j↔lx (key t h i) (key t h j)=true)∧(r i=r j↔key t h i=key t h j)
def pairs (t:List Nat) (f:Nat→Int×Int):List (Int×Int):=(List.range (t.length+1)).map f
theorem pairs_mem {t:List Nat} {f:Nat→Int×Int} {i:Nat} (hi:i≤t.length):f i∈pairs t f:=List.mem_map.2 ⟨i,List.mem_range.2 (by omega),rfl⟩
theorem pairs_len (t:List Nat) (f:Nat→Int×Int):(pairs t f).length=t.length+1:=by simp [pairs]
def initF (t:List Nat) (i:Nat):Int×Int:=if i<t.length then (1+(t.getD i 0:Int),0) else (0,0)
theorem key_len {t:List Nat} {h i:Nat}:(key t h i).length=min h (t.length - i):=by unfold key;rw [List.length_take,List.length_drop]
theorem init_ok (t:List Nat):PairOk t 1 (initF t):=by
 intro i j hi hj
 have e1: ∀i,i<t.length→key t 1 i= [t.getD i 0]:=fun i hi=>by
  unfold key
  rw [drop_get hi];rfl
 have e0:key t 1 t.length= []:=by unfold key;rw [List.drop_length];rfl
 unfold initF
 rcases Nat.lt_or_ge i t.length with h1|h1<;>rcases Nat.lt_or_ge j t.length with h2|h2
 ·rw [if_pos h1,if_pos h2,e1 i h1,e1 j h2,lt2_iff,lx_cons]
  simp only [lx,Go.Vc.lxb,Bool.and_false,Bool.or_false,decide_eq_true_eq,Prod.mk.injEq,List.cons.injEq,and_true]
  omega
 ·have:j=t.length:=by omega
  subst this
  rw [if_pos h1,if_neg (by omega),e1 i h1,e0,lt2_iff,lx_nil]
  simp only [Prod.mk.injEq]
  refine ⟨?_,?_⟩
  ·simp;omega
  ·simp;omega
 ·have:i=t.length:=by omega
  subst this
  rw [if_neg (by omega),if_pos h2,e1 j h2,e0,lt2_iff]
  simp only [Prod.mk.injEq]
  refine ⟨?_,?_⟩
  ·simp [lx,Go.Vc.lxb];omega
  ·simp;omega
 ·have:i=t.length:=by omega
  have:j=t.length:=by omega
  subst this
  obtain rfl:i=t.length:=by omega
  rw [if_neg (by omega),e0,lt2_iff,lx_nil]
  simp
def stepF (t:List Nat) (h:Nat) (r:Nat→Int) (i:Nat):Int×Int:=(r i,if i+h≤t.length then r (i+h) else -1)
theorem key_add (t:List Nat) (h i:Nat):key t (h+h) i=key t h i++key t h (i+h):=by
 unfold key
 rw [List.take_add,List.drop_drop]
theorem key_short {t:List Nat} {h i j:Nat} (hi:i≤t.length) (hj:j≤t.length) (he:key t h i=key t h j) (hne:i≠j):i+h≤t.length∧j+h≤t.length:=by
 have:=congrArg List.length he
 rw [key_len,key_len] at this
 omega
theorem key_end {t:List Nat} {h i:Nat} (hh:t.length≤i+h):key t h (i+h)= []:=by
 unfold key
 rw [List.drop_eq_nil_of_le hh];simp
theorem step_ok {t:List Nat} {h:Nat} {r:Nat→Int} (hr:Qr t h r):PairOk t (h+h) (stepF t h r):=by
 intro i j hi hj
 obtain ⟨h1,h2⟩:=hr i j hi hj
 rw [key_add,key_add]
 by_cases hij:i=j
 ·subst hij
  simp [lt2_irr,lx_irr]
 by_cases he:key t h i=key t h j
 ·obtain ⟨g1,g2⟩:=key_short hi hj he hij
  obtain ⟨h3,h4⟩:=hr (i+h) (j+h) g1 g2
  have hre:=h2.2 he
  rw [←he,lx_app]
  unfold stepF
  rw [if_pos g1,if_pos g2,lt2_iff]
  simp only [Prod.mk.injEq,List.append_cancel_left_eq]
  rw [←h3,←h4]
  omega
 ·have hre:r i≠r j:=fun e=>he (h2.1 e)
  have hl: ∀{a b:Nat},a≤t.length→(key t h a).length<(key t h b).length→key t h (a+h)= []:=fun {a b} ha hlt=>by
   rw [key_len,key_len] at hlt
   exact key_end (by omega)
  rw [lx_pre _ _ _ _ he (hl hi) (hl hj),←h1]
  unfold stepF
  rw [lt2_iff]
  simp only [Prod.mk.injEq]
  refine ⟨by omega,⟨fun e=>absurd e.1 hre,fun e=> ?_⟩⟩
  exfalso
  have hlen:=congrArg List.length e
  apply he
  have e1:(key t h i++key t h (i+h)).take h=key t h i∧(key t h j++key t h (j+h)).take h=key t h j:=by
   rw [←key_add,←key_add]
   unfold key
   rw [List.take_take,List.take_take,Nat.min_eq_left (by omega)]
   exact ⟨rfl,rfl⟩
  rw [←e1.1,←e1.2,e]
theorem rank_ok {t:List Nat} {h:Nat} {f:Nat→Int×Int} (hf:PairOk t h f):Qr t h fun i=>(rkP (pairs t f) (f i):Int):=by
 intro i j hi hj
 obtain ⟨h1,h2⟩:=hf i j hi hj
 have h3:=rkP_iff (pairs_mem (f:=f) hi) (pairs_mem (f:=f) hj)
 rw [←h1,←h2]
 dsimp only
 refine ⟨by rw [←h3];omega,⟨fun e=>rkP_inj (pairs_mem (f:=f) hi) (pairs_mem (f:=f) hj) (by omega),fun e=>by rw [e]⟩⟩
theorem pairs_nodup_iff {t:List Nat} {f:Nat→Int×Int} (hd: ∀i j,i≤t.length→j≤t.length→f i=f j→i=j):(pairs t f).Nodup:=by
 refine List.pairwise_map.2 (List.Pairwise.imp_of_mem (fun {a b} ha hb hab e=> ?_) List.nodup_range)
 rw [List.mem_range] at ha hb
 exact hab (hd a b (by omega) (by omega) e)
theorem not_done {t:List Nat} {h:Nat} {f:Nat→Int×Int} (hf:PairOk t h f) (hd:(dd (pairs t f)).length<t.length+1):h≤t.length:=by
 rcases Nat.lt_or_ge t.length h with hh|hh
 ·exfalso
  have hn:(pairs t f).Nodup:=pairs_nodup_iff fun i j hi hj e=>by
   have:=((hf i j hi hj).2).1 e
   have:=congrArg List.length this
   rw [key_len,key_len] at this
   omega
  rw [dd_nodup hn,sort2_len,pairs_len] at hd
  omega
 ·exact hh
theorem done {t:List Nat} {h:Nat} {f:Nat→Int×Int} (hf:PairOk t h f) (hd:t.length+1≤(dd (pairs t f)).length) {i:Nat} (hi:i≤t.length):rkP (pairs t f) (f i)=rkB t i:=by
 have hn:(pairs t f).Nodup:=dd_full (by rw [pairs_len];exact hd)
 have hinj: ∀a b,a≤t.length→b≤t.length→key t h a=key t h b→a=b:=fun a b ha hb e=>by
  have hfe:=((hf a b ha hb).2).2 e
  have hp:=List.pairwise_map.1 hn
  rcases Nat.lt_trichotomy a b with h1|h1|h1
  ·have:=List.pairwise_iff_getElem.1 hp a b (by simp;omega) (by simp;omega) h1
   simp only [List.getElem_range] at this
   exact absurd hfe this
  ·exact h1
  ·have:=List.pairwise_iff_getElem.1 hp b a (by simp;omega) (by simp;omega) h1
   simp only [List.getElem_range] at this
   exact absurd hfe.symm this
 rw [rkP_nodup hn]
 unfold rk rkB rk pairs rows
 rw [List.countP_map]
 refine List.countP_congr fun j hj=> ?_
 rw [List.mem_range] at hj
 simp only [Function.comp]
 rw [(hf j i (by omega) hi).1]
 unfold sl
 by_cases hij:j=i
 ·subst hij;rw [lx_irr,lx_irr]
 ·have hne:key t h j≠key t h i:=fun e=>hij (hinj j i (by omega) hi e)
  have hs: ∀a,t.drop a=key t h a++t.drop (a+h):=fun a=>by
   unfold key
   rw [←List.drop_drop,List.take_append_drop]
  rw [hs j,hs i,lx_pre _ _ _ _ hne]
  ·intro hlt
   rw [key_len,key_len] at hlt
   exact List.drop_eq_nil_of_le (by omega)
  ·intro hlt
   rw [key_len,key_len] at hlt
   exact List.drop_eq_nil_of_le (by omega)
end Go.Bw
set_option maxRecDepth 20000
namespace Go.Bw
open Go.Rk
def cntL (last:List Nat) (c:Nat):Nat:=last.countP fun x=>decide (x<c)
theorem cntL_zero (last:List Nat):cntL last 0=0:=by unfold cntL;rw [List.countP_eq_zero];intro x _;simp
theorem cntL_succ (c:Nat): ∀last:List Nat,cntL last (c+1)=cntL last c+last.count c
 | []=>rfl
 |x::last=>by
  have ih:=cntL_succ c last
  unfold cntL at ih⊢
  rw [List.countP_cons,List.countP_cons,List.count_cons,ih]
  by_cases h1:x<c
  ·rw [if_pos (by simp;omega),if_pos (by simp [h1]),if_neg (by simp;omega)];omega
  ·by_cases h2:x=c
   ·rw [if_pos (by simp;omega),if_neg (by simp [h1]),if_pos (by simp [h2])];omega
   ·rw [if_neg (by simp;omega),if_neg (by simp [h1]),if_neg (by simp [h2])];omega
theorem list_range (l:List Nat):l=(List.range l.length).map fun i=>l.getD i 0:=by
 apply List.ext_getElem (by simp)
 intro i h1 h2
 simp [List.getD,h1]
theorem countP_get (l:List Nat) (p:Nat→Bool):(List.range l.length).countP (fun i=>p (l.getD i 0))=l.countP p:=by
 conv=>rhs;rw [list_range l,List.countP_map]
 rfl
theorem countP_upto (q:Nat→Bool) (a:Nat): ∀n,a≤n→(List.range n).countP (fun i=>q i&&decide (i<a))=(List.range a).countP q
 |n,h=>by
  induction n with
  |zero=>obtain rfl:a=0:=by omega
         rfl
  |succ n ih=>
   rw [List.range_succ,List.countP_append,List.countP_cons,List.countP_nil]
   by_cases e:a=n+1
   ·subst e
    rw [List.range_succ,List.countP_append,List.countP_cons,List.countP_nil]
    congr 1
    ·refine List.countP_congr fun i hi=> ?_
     rw [List.mem_range] at hi
     simp;omega
    ·congr 1;simp
   ·rw [ih (by omega)];simp;omega
theorem count_take (l:List Nat) (c a:Nat) (h:a≤l.length):(l.take a).count c=(List.range a).countP fun i=>l.getD i 0==c:=by
 have:=countP_get (l.take a) (fun x=>x==c)
 rw [List.length_take,Nat.min_eq_left h] at this
 show (l.take a).countP (·==c)=_
 rw [←this]
 refine List.countP_congr fun i hi=> ?_
 rw [List.mem_range] at hi
 simp only [List.getD,List.getElem?_take_of_lt hi]
def plN (last:List Nat) (a k:Nat):Nat:=(List.range k).countP fun i=>pl last i a
theorem nx_pl (last:List Nat) (a:Nat):nx last a=1+plN last a last.length:=rfl
theorem countP_or {α:Type} (p q:α→Bool) (h: ∀x,p x=true→q x=false): ∀l:List α,l.countP (fun x=>p x||q x)=l.countP p+l.countP q
 | []=>rfl
 |x::l=>by
  rw [List.countP_cons,List.countP_cons,List.countP_cons,countP_or p q h l]
  cases hp:p x with
  |true=>rw [h x hp];simp;omega
  |false=>simp;omega
theorem nx_cnt {last:List Nat} {a:Nat} (ha:a<last.length):nx last a=cntL last (last.getD a 0)+(last.take a).count (last.getD a 0)+1:=by
 have e1:plN last a last.length=cntL last (last.getD a 0)+(last.take a).count (last.getD a 0):=by
  unfold plN
  have:(List.range last.length).countP (fun i=>pl last i a)=(List.range last.length).countP fun i=>(decide (last.getD i 0<last.getD a 0)||(last.getD i 0==last.getD a 0&&decide (i<a))):=rfl
  rw [this,countP_or (fun i=>decide (last.getD i 0<last.getD a 0)) (fun i=>(last.getD i 0==last.getD a 0&&decide (i<a))) fun i h=>by
   have:=of_decide_eq_true h
   rw [show (last.getD i 0==last.getD a 0)=false from beq_eq_false_iff_ne.2 (by omega)];rfl]
  rw [countP_upto (fun i=>last.getD i 0==last.getD a 0) a _ (by omega),←count_take _ _ _ (by omega)]
  congr 1
  exact countP_get last fun x=>decide (x<last.getD a 0)
 rw [nx_pl,e1];omega
theorem atB_succ {index row:Nat} (hne:row≠index):atB index (row+1)=atB index row+1:=by unfold atB;split<;>split<;>omega
theorem atB_same (index:Nat):atB index (index+1)=atB index index:=by unfold atB;rw [if_pos (by omega),if_neg (by omega)];omega
theorem textB_eq {last T:List Nat} {index:Nat} (hl:T.length=last.length) (h: ∀k,k<last.length→T.getD (last.length - 1 - k) 0=last.getD (atB index (wk last index k)) 0):T=textB last index:=by
 apply List.ext_getElem (by rw [textB_len,hl])
 intro i h1 h2
 have e1:=h (last.length - 1 - i) (by omega)
 have e2:=textB_get (last:=last) (index:=index) (k:=last.length - 1 - i) (by omega)
 rw [show last.length - 1 - (last.length - 1 - i)=i by omega] at e1 e2
 rw [←e2] at e1
 simpa [List.getD,h1,h2] using e1
theorem okB_zero {last:List Nat} (h:0<last.length): ¬okB last 0:=fun ⟨_,h2,_⟩=>h2 0 h rfl
end Go.Bw
set_option maxRecDepth 20000
namespace Go.Vc
open Go
theorem run_mk1 {P:Program} {t e:TypeId} {z:Value} {n bytes:Nat} {E w:World} {F:List HP} {K:Sl→World→Prop} (ht:P.underlying t=some (.slice e)) (hi: ∃i,P.info? e=some i∧i.zero=some z∧i.size=1∧i.bytes=bytes) (hz:z.cells= #[z])
  (hn:n≤1000000) (hb:bytes≤8) (h:Hp E w F) (hK: ∀s w',s.len=n→Hp E w' (OwnS 1 s (List.replicate n z)::F)→K s w'):Run P (Instr.makeSlice t (.int .i64 (n:Int)) (.int .i64 (n:Int))) kS w K:=by
 obtain ⟨i,h1,h2,h3,h4⟩:=hi
 have hbn:bytes*n≤8*n:=Nat.mul_le_mul_right _ hb
 have hbb:((bytes:Int)*(n:Int))≤281474976710656:=by
  have:((bytes:Int)*(n:Int))=((bytes*n:Nat):Int):=by simp
  omega
 have hm:=run_makeSlice (w:=w) t e i z ht h1 h2 .i64 .i64 (n:Int) (n:Int) (by omega) (by omega) (by rw [h3,Int.toNat_natCast];omega) (by rw [h4];exact hbb) (by omega)
 unfold Run
 rw [hm]
 have hc:madeCells z.cells (n*1)=⟨List.replicate n z⟩:=by
  unfold madeCells
  rw [hz,Nat.mul_one]
  apply Array.ext
  ·simp
  ·intro j h1 h2
   simp [Nat.mod_one]
 rw [h3,Int.toNat_natCast,hc]
 refine hK ⟨some ⟨w.heap.size,0,none⟩,n,n⟩ _ rfl ?_
 have:=(h.alloc (.cells ⟨List.replicate n z⟩ e)).ownNew (n:=n) (sz:=1) (by simp)
 exact this
theorem run_mkK {P:Program} {t e:TypeId} {α:Type} {g:α→List Value} {x:α} {z:Value} {n sz bytes:Nat} {E w:World} {F:List HP} {K:Sl→World→Prop} (ht:P.underlying t=some (.slice e)) (hi: ∃i,P.info? e=some i∧i.zero=some z∧i.size=sz∧i.bytes=bytes) (hz:z.cells=⟨g x⟩) (hg: ∀x,(g x).length=sz) (h0:0<sz)
  (hn:n*sz≤1000000) (hb:bytes≤8*sz) (h:Hp E w F) (hK: ∀s w',s.len=n→Hp E w' (OwnS sz s ((List.replicate n x).flatMap g)::F)→K s w'):Run P (Instr.makeSlice t (.int .i64 (n:Int)) (.int .i64 (n:Int))) kS w K:=by
 obtain ⟨i,h1,h2,h3,h4⟩:=hi
 have hn1:n≤n*sz:=Nat.le_mul_of_pos_right _ h0
 have hbn:bytes*n≤8*sz*n:=Nat.mul_le_mul_right _ hb
 have hbn2:8*sz*n=8*(n*sz):=by rw [Nat.mul_assoc,Nat.mul_comm sz n]
 have hbb:((bytes:Int)*(n:Int))≤281474976710656:=by
  have:((bytes:Int)*(n:Int))=((bytes*n:Nat):Int):=by simp
  omega
 have hm:=run_makeSlice (w:=w) t e i z ht h1 h2 .i64 .i64 (n:Int) (n:Int) (by omega) (by omega) (by rw [h3,Int.toNat_natCast];omega) (by rw [h4];exact hbb) (by omega)
 unfold Run
 rw [hm]
 have hc:madeCells z.cells (n*sz)=⟨(List.replicate n x).flatMap g⟩:=by
  unfold madeCells
  rw [hz]
  apply Array.ext'
  apply List.ext_getElem?
  intro j
  have hfl:=fm_len hg (List.replicate n x)
  rw [List.length_replicate] at hfl
  by_cases hj:j<n*sz
  ·have hdj:j/sz<n:=by rw [Nat.div_lt_iff_lt_mul h0];exact hj
   have hmj:j/sz*sz+j % sz=j:=Nat.div_add_mod' j sz
   have:=fm_get hg (List.replicate n x) (j/sz) (j % sz) (by simpa using hdj) (Nat.mod_lt _ h0)
   rw [hmj] at this
   show _=((List.replicate n x).flatMap g)[j]?
   rw [this,List.getElem_replicate]
   have hm2:j % sz<(g x).length:=by rw [hg];exact Nat.mod_lt _ h0
   simp only [Array.toList_map,Array.toList_range,List.getElem?_map,List.getElem?_range hj,Option.map_some,List.size_toArray,hg]
   rw [List.getElem?_eq_getElem hm2]
   simp [hm2]
  ·rw [List.getElem?_eq_none (by simpa using hj),List.getElem?_eq_none (by simp only [hfl];omega)]
 rw [h3,Int.toNat_natCast,hc]
 refine hK ⟨some ⟨w.heap.size,0,none⟩,n,n⟩ _ rfl ?_
 exact (h.alloc (.cells ⟨(List.replicate n x).flatMap g⟩ e)).ownNew (n:=n) (sz:=sz) (by
  show ((List.replicate n x).flatMap g).length=_
  rw [fm_len hg,List.length_replicate])
end Go.Vc
set_option maxRecDepth 20000
namespace Go.Vc
open Go
def setRun (xs:List Value):Nat→List Value→List Value
 |_,[]=>xs
 |a,v::vs=>setRun (xs.set a v) (a+1) vs
theorem setRun_get: ∀(vs xs:List Value) (a i:Nat),a+vs.length≤xs.length→(setRun xs a vs)[i]? =if a≤i∧i<a+vs.length then vs[i - a]? else xs[i]?
 | [],xs,a,i,_=>by rw [setRun,if_neg (by simp)]
 |v::vs,xs,a,i,h=>by
  simp only [List.length_cons] at h
  rw [setRun,setRun_get vs _ _ _ (by rw [List.length_set];omega),List.length_cons,List.getElem?_set]
  by_cases h1:a=i
  ·subst h1
   rw [if_neg (by omega),if_pos rfl,if_pos (by omega),if_pos (by omega),Nat.sub_self]
   rfl
  ·by_cases h2:a+1≤i∧i<a+1+vs.length
   ·rw [if_pos h2,if_pos (by omega)]
    obtain ⟨d,rfl⟩: ∃d,i=a+1+d:=⟨i - (a+1),by omega⟩
    rw [show a+1+d - (a+1)=d by omega,show a+1+d - a=d+1 by omega,List.getElem?_cons_succ]
   ·rw [if_neg h2,if_neg h1,if_neg (by omega)]
section
variable {α:Type} {g:α→List Value} {sz:Nat}
theorem fm_set (hg: ∀x,(g x).length=sz) {l:List α} {j k:Nat} {v:Value} {x:α} (hj:j<l.length) (hk:k<sz) (hx:g x=(g l[j]).set k v):(l.flatMap g).set (j*sz+k) v=(l.set j x).flatMap g:=by
 have h0:0<sz:=by omega
 have hm:(j+1)*sz≤l.length*sz:=Nat.mul_le_mul_right _ hj
 rw [Nat.succ_mul] at hm
 apply List.ext_getElem?
 intro i
 have hfl:=fm_len hg l
 have hfl2:=fm_len hg (l.set j x)
 rw [List.length_set] at hfl2
 by_cases hi:i<l.length*sz
 ·obtain ⟨q,hq⟩: ∃q,i/sz=q:=⟨_,rfl⟩
  obtain ⟨r,hr⟩: ∃r,i % sz=r:=⟨_,rfl⟩
  have hdi:q<l.length:=by rw [←hq,Nat.div_lt_iff_lt_mul h0];exact hi
  have hmi:q*sz+r=i:=by rw [←hq,←hr];exact Nat.div_add_mod' i sz
  have hlt:r<sz:=by rw [←hr];exact Nat.mod_lt _ h0
  clear hq hr
  subst hmi
  have e1:=fm_get hg l q r hdi hlt
  have e2:=fm_get hg (l.set j x) q r (by rw [List.length_set];exact hdi) hlt
  have hd: ∀a b:Nat,b<sz→(a*sz+b)/sz=a:=fun a b hb=>by rw [Nat.mul_comm,Nat.mul_add_div h0,Nat.div_eq_of_lt hb,Nat.add_zero]
  have hmd: ∀a b:Nat,b<sz→(a*sz+b) % sz=b:=fun a b hb=>by rw [Nat.mul_comm,Nat.mul_add_mod,Nat.mod_eq_of_lt hb]
  rw [e2,List.getElem?_set,e1,List.getElem_set]
  by_cases hji:j=q
  ·subst hji
   rw [if_pos rfl,hx,List.getElem?_set,hg]
   by_cases hki:k=r
   ·subst hki
    rw [if_pos rfl,if_pos (by rw [hfl];omega),if_pos rfl,if_pos hk]
   ·rw [if_neg (by omega),if_neg hki]
  ·rw [if_neg hji,if_neg (fun e=>hji ((hd j k hk).symm.trans ((congrArg (fun y=>y/sz) e).trans (hd q r hlt))))]
 ·rw [List.getElem?_eq_none (by rw [List.length_set,hfl];omega),List.getElem?_eq_none (by rw [hfl2];omega)]
theorem fm_setAll (hg: ∀x,(g x).length=sz) {l:List α} {j:Nat} {x:α} (h0:0<sz) (hj:j<l.length):setRun (l.flatMap g) (j*sz) (g x)=(l.set j x).flatMap g:=by
 have hm:(j+1)*sz≤l.length*sz:=Nat.mul_le_mul_right _ hj
 rw [Nat.succ_mul] at hm
 have hfl:=fm_len hg l
 have hfl2:=fm_len hg (l.set j x)
 rw [List.length_set] at hfl2
 apply List.ext_getElem?
 intro i
 rw [setRun_get _ _ _ _ (by rw [hg,hfl];exact hm),hg]
 by_cases hi:i<l.length*sz
 ·have hdi:i/sz<l.length:=by rw [Nat.div_lt_iff_lt_mul h0];exact hi
  have hmi:i/sz*sz+i % sz=i:=Nat.div_add_mod' i sz
  have hlt:=Nat.mod_lt i h0
  have e1:=fm_get hg l (i/sz) (i % sz) hdi hlt
  have e2:=fm_get hg (l.set j x) (i/sz) (i % sz) (by rw [List.length_set];exact hdi) hlt
  rw [hmi] at e1 e2
  rw [e2,e1,List.getElem_set]
  by_cases hji:j=i/sz
  ·rw [if_pos hji,if_pos (by rw [hji];omega),show i - j*sz=i % sz by rw [hji];omega]
  ·rw [if_neg hji,if_neg]
   rintro ⟨h1,h2⟩
   apply hji
   obtain ⟨d,rfl⟩: ∃d,i=j*sz+d:=⟨i - j*sz,by omega⟩
   rw [Nat.mul_comm,Nat.mul_add_div h0,Nat.div_eq_of_lt (by omega),Nat.add_zero]
 ·rw [if_neg (by omega),List.getElem?_eq_none (by rw [hfl];omega),List.getElem?_eq_none (by rw [hfl2];omega)]
end
section
variable {E w:World} {F:List HP} {α:Type} {g:α→List Value} {sz:Nat} {s:Sl}
theorem St.ownAt {xs:List Value} {i j:Nat} {v:Value} {p:Addr} {K:World→Prop} (hh:Hp E w (OwnS sz s xs::F)) (hp:s.base=some p) (hi:i<s.len) (hj:j<sz) (hv:scalarB v=true) (h: ∀w',Hp E w' (OwnS sz s (xs.set (i*sz+j) v)::F)→K w'):St ((p.add (i*sz)).add j) v w K:=by
 obtain ⟨p',h1,_,_,h4⟩:=St.ownN (i:=(i:Int)) (K:=K) hh hj (by omega) (by omega) hv (by rw [Int.toNat_natCast];exact h)
 rw [hp] at h1
 obtain rfl:=Option.some.inj h1
 rw [Int.toNat_natCast] at h4
 exact h4
theorem StC.ownAt {i:Nat} {p:Addr} (hp:s.base=some p) (hi:i<s.len): ∀(vs:List Value) (k:Nat) {w:World} {xs:List Value} {K:World→Prop},Hp E w (OwnS sz s xs::F)→k+vs.length≤sz→(∀v∈vs,scalarB v=true)→
  (∀w',Hp E w' (OwnS sz s (setRun xs (i*sz+k) vs)::F)→K w')→StC (p.add (i*sz)) vs k w K
 | [],_,w,_,_,hh,_,_,h=>h w hh
 |v::vs,k,w,xs,K,hh,hk,hv,h=>by
  simp only [List.length_cons] at hk
  refine St.ownAt (K:=fun w'=>StC (p.add (i*sz)) vs (k+1) w' K) hh hp hi (by omega) (hv v (by simp)) fun w' h'=> ?_
  exact StC.ownAt hp hi vs (k+1) h' (by omega) (fun x hx=>hv x (List.mem_cons_of_mem _ hx)) fun w'' h''=>h w'' (by rw [setRun];exact h'')
theorem Idx.setEl {l:List α} {i:Int} {j:Nat} {x:α} {K:World→Prop} (hg: ∀x,(g x).length=sz) (h0:0<sz) (hh:Hp E w (OwnS sz s (l.flatMap g)::F)) (hi:i=(j:Int)) (hj:j<l.length) (hv: ∀v∈g x,scalarB v=true)
  (h: ∀w',Hp E w' (OwnS sz s ((l.set j x).flatMap g)::F)→K w'):Idx s i sz fun q=>StC q (g x) 0 w K:=by
 subst hi
 have hlen:=SlT.len hg h0 (hh.tells Tells.own)
 rcases hh.ownOpen with ⟨rfl,h1,_⟩|⟨b,off,arr,t,e1,_,_,_,_⟩
 ·have:l.length=0:=by simpa using hlen.symm
  omega
 ·refine ⟨_,e1,by omega,by omega,?_⟩
  rw [Int.toNat_natCast]
  exact StC.ownAt e1 (by omega) (g x) 0 hh (by rw [hg];omega) hv fun w' h'=>h w' (by rw [Nat.add_zero,fm_setAll hg h0 hj] at h';exact h')
theorem Idx.setCell {l:List α} {i:Int} {j k:Nat} {v:Value} {x:α} {K:World→Prop} (hg: ∀x,(g x).length=sz) (h0:k<sz) (hh:Hp E w (OwnS sz s (l.flatMap g)::F)) (hi:i=(j:Int)) (hj:j<l.length) (hv:scalarB v=true) (hx:g x=(g l[j]).set k v)
  (h: ∀w',Hp E w' (OwnS sz s ((l.set j x).flatMap g)::F)→K w'):Idx s i sz fun q=>St (q.add k) v w K:=by
 subst hi
 have hlen:=SlT.len hg (by omega) (hh.tells Tells.own)
 refine St.ownN hh h0 (by omega) (by omega) hv fun w' h'=>h w' ?_
 rw [Int.toNat_natCast,fm_set hg hj h0 hx] at h'
 exact h'
end
end Go.Vc
set_option maxRecDepth 20000
namespace Go.Vc
open Go
theorem app_b {P:Program} {t ty e e2:TypeId} {E w:World} {F:List HP} {s:Sl} {bs:List Nat} {x:Nat} {cs:Array Value} {K:Sl→World→Prop} (he:ElemT P t e 1 1) (hcs:cs=⟨[vB x]⟩) (hh:Hp E w (OwnS 1 s (bs.map vB)::F)) (hb:bs.length≤big)
  (h: ∀s' w',Hp E w' (OwnS 1 s' ((bs++ [x]).map vB)::F)→s'.len=bs.length+1→K s' w'):
  Nw e2 cs w fun b w1=>Run P (Builtin.append_ #[t,t] ty ⟨[.slice s.base s.len s.cap,.slice (some ⟨b,0,none⟩) 1 1]⟩) kS w1 K:=by
 have hl:=hh.ownLen
 rw [List.length_map,Nat.mul_one] at hl
 rw [big_eq] at hb
 refine Nw.mk hh fun b w1 h1=>run_append (ys:= [vB x]) (n:=1) he (by decide) (.inl ⟨e,he.und⟩) h1.p1 (.inl ⟨some ⟨b,0,none⟩,1,1,rfl,rfl,h1.tells (Tells.blk (by rw [hcs]) rfl)⟩) rfl (fun y hy=>by
  rw [List.mem_singleton] at hy;subst hy;rfl) (by omega) (by omega) fun s' w2 h2 hs'=>h s' w2 ?_ (by omega)
 rw [List.map_append]
 exact h2.p1.drop
end Go.Vc
namespace Go.Proofs.YtcdpblipagajiaaGreat
open Go Go.Vc Go.Bw
theorem ty_bs:ElemT Tryz.prog 22 5 1 1:= .of (by kernel_rfl) (by kernel_rfl)
theorem infoI64: ∃i,Tryz.prog.info? 3=some i∧i.zero=some (.int .i64 0)∧i.size=1∧i.bytes=8:=by
 have h:(Tryz.prog.info? 3).map (fun i=>(i.zero,i.size,i.bytes))=some (some (.int .i64 0),1,8):=by kernel_rfl
 obtain ⟨i,h1,h2⟩:=Option.map_eq_some_iff.1 h
 simp only [Prod.mk.injEq] at h2
 exact ⟨i,h1,h2⟩
theorem infoU8b: ∃i,Tryz.prog.info? 5=some i∧i.zero=some (.int .u8 0)∧i.size=1∧i.bytes=1:=by
 have h:(Tryz.prog.info? 5).map (fun i=>(i.zero,i.size,i.bytes))=some (some (.int .u8 0),1,1):=by kernel_rfl
 obtain ⟨i,h1,h2⟩:=Option.map_eq_some_iff.1 h
 simp only [Prod.mk.injEq] at h2
 exact ⟨i,h1,h2⟩
theorem rep_vI {n:Nat}:List.replicate n (Value.int .i64 0)=(List.replicate n (0:Int)).map vI:=by simp [vI]
theorem rep_get (n i:Nat):(List.replicate n (0:Int)).getD i 0=0:=by
 simp only [List.getD,List.getElem?_replicate]
 split<;>rfl
theorem rep_vB {n:Nat}:List.replicate n (Value.int .u8 0)=(List.replicate n (0:Nat)).map vB:=by simp [vB]
section
variable {E w:World} {F:List HP}
def lessI (t:List Nat) (i k:Int):Bool:=decide (0≤i∧i≤t.length∧0≤k∧k≤t.length)&&sl t i.toNat k.toNat
def inRow (m:Nat) (index row:Int):Prop:=0≤index∧index≤m∧0≤row∧row≤m∧row≠index
theorem place_c {m:Nat} {s:Sl} {index row:Int} {K:Int→Bool→World→Prop} (hm:s.len=m) (hbig:m≤big) (h1:inRow m index row→K (atB index.toNat row.toNat:Int) true w) (h2: ¬inRow m index row→K 0 false w):
  Cl Tryz.prog [kI,kB] n_bwt_place ⟨[.slice s.base s.len s.cap,.int .i64 index,.int .i64 row]⟩ w K:=by
 refine bwt_place.ok _ _ _ _ _ ?_
 unfold bwt_place.E
 subst hm
 rw [big_eq] at hbig
 unfold inRow at h1 h2
 refine IfB.mk (fun g=>h2 (by have:=of_decide_eq_true g;omega)) (fun g1=>IfB.mk (fun g=>h2 (by have:=of_decide_eq_true g;omega)) (fun g2=>IfB.mk (fun g=>h2 (by have:=of_decide_eq_true g;omega)) (fun g3=>IfB.mk (fun g=>h2 (by have:=of_decide_eq_true g;omega)) (fun g4=>IfB.mk (fun g=>h2 (by have:=beq_iff_eq.1 g;omega)) (fun g5=> ?_)))))
 have g1:=of_decide_eq_false g1
 have g2:=of_decide_eq_false g2
 have g3:=of_decide_eq_false g3
 have g4:=of_decide_eq_false g4
 have g5:=beq_eq_false_iff_ne.1 g5
 have hk:=h1 (by omega)
 refine IfB.mk (fun g=> ?_) (fun g=> ?_)
 ·have g:=of_decide_eq_true g
  have e:(atB index.toNat row.toNat:Int)=row - 1:=by unfold atB;rw [if_pos (by omega)];omega
  rw [i64_id (by omega),←e];exact hk
 ·have g:=of_decide_eq_false g
  have e:(atB index.toNat row.toNat:Int)=row:=by unfold atB;rw [if_neg (by omega)];omega
  rw [←e];rw [e] at hk⊢;exact hk
theorem inRow_at {m:Nat} {index row:Int} (h:inRow m index row):atB index.toNat row.toNat<m:=by
 obtain ⟨h1,h2,h3,h4,h5⟩:=h
 unfold atB;split<;>omega
def rowsB (last:List Nat) (index:Nat):List Int:=(List.range (last.length+1)).map fun r=>if r=index then 0 else (nx last (atB index r):Int)
theorem rowsB_len (last:List Nat) (index:Nat):(rowsB last index).length=last.length+1:=by simp [rowsB]
theorem rowsB_get {last:List Nat} {index r:Nat} (hr:r≤last.length) (hne:r≠index):(rowsB last index).getD r 0=(nx last (atB index r):Int):=by
 unfold rowsB
 simp [List.getD,show r<last.length+1 by omega,hne]
set_option maxRecDepth 20000 in
theorem behind_c {last:List Nat} {s:Sl} {index:Nat} {K:Sl→World→Prop} (h:Hp E w F) (hs:Tells F (SlT 1 s (last.map vB))) (hb: ∀x∈last,x<256) (hn:last.length≤900000) (hi:index≤last.length)
  (hK: ∀s' w',Hp E w' (OwnS 1 s' ((rowsB last index).map vI)::F)→K s' w'):Cl Tryz.prog [kS] n_bwt_behind ⟨[.slice s.base s.len s.cap,.int .i64 (index:Int)]⟩ w K:=by
 refine bwt_behind.ok _ _ _ _ ?_
 unfold bwt_behind.E
 rw [Vc.aT_zero]
 have hl:=(h.tells hs).1
 simp only [List.length_map,Nat.mul_one] at hl
 have hg: ∀k,k<last.length→last.getD k 0<256:=fun k hk=>by
  rw [List.getD,List.getElem?_eq_getElem hk]
  exact hb _ (List.getElem_mem hk)
 have hcl: ∀(k c:Nat),(last.take k).count c≤last.length:=fun k c=>by
  refine Nat.le_trans List.count_le_length ?_
  rw [List.length_take];omega
 have hcc: ∀c:Nat,cntL last c≤last.length:=fun c=>List.countP_le_length
 refine Nw.mk h fun b4 w1 h1=> ?_
 refine ⟨fun i w'=> ∃(k:Nat) (u:List Int),i=(k:Int)∧k≤last.length∧u.length=257∧(u.getD 0 0=0∧∀c,c<256→u.getD (c+1) 0=((last.take k).count c:Int))∧Hp E w' (Blk b4 (.cells (Vc.aT u) 212 (0,0))::F),fun i _=>last.length - i.toNat,
  ⟨0,_,rfl,by omega,List.length_replicate,⟨rep_get ..,fun c hc=>by rw [rep_get];simp⟩,h1⟩,?_⟩
 rintro i w2 ⟨k,u,rfl,hk,hul,hu,h2⟩
 refine IfB.mk (fun hlt=> ?_) (fun hge=> ?_)
 ·have hlt:k<last.length:=by have:=of_decide_eq_true hlt;omega
  have hx:=hg k hlt
  have hq:=hu.2 (last.getD k 0) hx
  have hcb:=hcl k (last.getD k 0)
  refine Idx.nB (h2.tells (Tells.cons hs)) rfl hlt ?_
  rw [i64_id (x:=(last.getD k 0:Int)) (by omega),i64_id (x:=(last.getD k 0:Int)+1) (by omega)]
  refine IdxP.aT (j:=last.getD k 0+1) h2 (by omega) hul (by omega) (IdxP.aTset (j:=last.getD k 0+1) h2 (by omega) hul (by omega) fun w3 h3=> ?_)
  rw [i64_id (x:=(k:Int)+1) (by omega)]
  refine ⟨⟨k+1,_,by omega,by omega,by rw [List.length_set];exact hul,⟨?_,fun c hc=> ?_⟩,h3⟩,by dsimp only;omega⟩
  ·rw [getD_set (by omega),if_neg (by omega)];exact hu.1
  ·rw [getD_set (by omega),List.take_add_one,List.getElem?_eq_getElem hlt,List.count_append]
   have e:last.getD k 0=last[k]:=by simp [List.getD,hlt]
   by_cases ec:c=last.getD k 0
   ·subst ec
    rw [if_pos rfl,hq,i64_id (by omega),e];simp
   ·rw [if_neg (by omega),hu.2 c hc]
    have:List.count c (some last[k]).toList=0:=by
     rw [List.count_eq_zero]
     simp only [Option.toList_some,List.mem_singleton]
     rw [←e];exact ec
    rw [this];simp
 have hge:k=last.length:=by have:=of_decide_eq_false hge;omega
 subst hge
 rw [List.take_length] at hu
 refine ⟨fun i w'=> ∃(k:Nat) (u:List Int),i=(k:Int)∧k≤256∧u.length=257∧(∀c,c≤k→u.getD c 0=(cntL last c:Int))∧(∀c,k<c+1→c<256→u.getD (c+1) 0=(last.count c:Int))∧Hp E w' (Blk b4 (.cells (Vc.aT u) 212 (0,0))::F),fun i _=>256 - i.toNat,
  ⟨0,u,rfl,by omega,hul,fun c hc=>by obtain rfl:c=0:=by omega
                                     rw [hu.1,cntL_zero];rfl,fun c _ hc=>hu.2 c hc,h2⟩,?_⟩
 rintro i w3 ⟨k,v,rfl,hk,hvl,hv1,hv2,h3⟩
 refine IfB.mk (fun hlt=> ?_) (fun hge=> ?_)
 ·have hlt:k<256:=by have:=of_decide_eq_true hlt;omega
  refine Drw.mk h3 fun w4 h4=> ?_
  rw [i64_id (x:=(k:Int)+1) (by omega)]
  have e1:=hv2 k (by omega) hlt
  have e2:=hv1 k (by omega)
  have e3:=cntL_succ k last
  have e4:=hcc (k+1)
  refine IdxP.aT (j:=k+1) h4 (by omega) hvl (by omega) (IdxP.aT (j:=k) h4 rfl hvl (by omega) (IdxP.aTset (j:=k+1) h4 (by omega) hvl (by omega) fun w5 h5=> ?_))
  refine ⟨⟨k+1,_,by omega,by omega,by rw [List.length_set];exact hvl,fun c hc=> ?_,fun c hc1 hc2=> ?_,h5⟩,by dsimp only;omega⟩
  ·rw [getD_set (by omega)]
   by_cases ec:c=k+1
   ·subst ec
    rw [if_pos rfl,e1,e2,i64_id (by omega),e3];omega
   ·rw [if_neg ec];exact hv1 c (by omega)
  ·rw [getD_set (by omega),if_neg (by omega)]
   exact hv2 c (by omega) hc2
 have hge:k=256:=by have:=of_decide_eq_false hge;omega
 subst hge
 rw [show i64 ((s.len:Int)+1)=((last.length+1:Nat):Int) by rw [i64_id (by omega)];omega]
 refine run_mk1 (by kernel_rfl) infoI64 rfl (by omega) (by decide) h3 fun s27 w4 hs27 h4=> ?_
 rw [rep_vI] at h4
 refine ⟨fun i w'=> ∃(k:Nat) (v out:List Int),i=(k:Int)∧k≤last.length+1∧v.length=257∧(∀c,c<256→v.getD c 0=(cntL last c:Int)+((last.take (atB index k)).count c:Int))∧out.length=last.length+1∧
   (∀r,r<k→out.getD r 0=(rowsB last index).getD r 0)∧(∀r,k≤r→out.getD r 0=0)∧Hp E w' (OwnS 1 s27 (out.map vI)::Blk b4 (.cells (Vc.aT v) 212 (0,0))::F),fun i _=>last.length+1 - i.toNat,
  ⟨0,v,_,rfl,by omega,hvl,fun c hc=>by rw [hv1 c (by omega)];simp [atB],List.length_replicate,fun r hr=>by omega,fun r _=>by simp only [List.getD,List.getElem?_replicate];split<;>rfl,h4⟩,?_⟩
 rintro i w5 ⟨k,v,out,rfl,hk,hvl,hv,hol,ho1,ho2,h5⟩
 refine IfB.mk (fun hlt=> ?_) (fun hge=> ?_)
 ·have hlt:k<last.length+1:=by have:=of_decide_eq_true hlt;omega
  refine place_c hl.symm (by rw [big_eq];omega) (fun hin=>IfB.t rfl ?_) (fun hin=>IfB.f rfl ?_)
  ·have hat:=inRow_at hin
   have hne:k≠index:=by have:=hin.2.2.2.2;omega
   rw [Int.toNat_natCast,Int.toNat_natCast] at hat⊢
   have hx:=hg _ hat
   have hvx:=hv _ hx
   have hcn:=nx_cnt hat
   have hnl:=nx_le hat
   refine Idx.nB (h5.tells (Tells.cons (Tells.cons hs))) rfl hat ?_
   refine IdxP.aT (j:=last.getD (atB index k) 0) h5.p1 rfl hvl (by omega) (IdxP.aTset (j:=last.getD (atB index k) 0) h5.p1 rfl hvl (by omega) fun w6 h6=> ?_)
   have hset:i64 (v.getD (last.getD (atB index k) 0) 0+1)=(nx last (atB index k):Int):=by rw [hvx,i64_id (by omega)];omega
   rw [hset] at h6
   refine IdxP.aT (j:=last.getD (atB index k) 0) h6 rfl (by rw [List.length_set];exact hvl) (by omega) ?_
   rw [getD_set (by omega),if_pos rfl]
   refine Idx.setI h6.p1 rfl (by omega) fun w7 h7=> ?_
   rw [i64_id (x:=(k:Int)+1) (by omega)]
   refine ⟨⟨k+1,_,_,by omega,by omega,by rw [List.length_set];exact hvl,fun c hc=> ?_,by rw [List.length_set];exact hol,fun r hr=> ?_,fun r hr=> ?_,h7⟩,by dsimp only;omega⟩
   ·rw [getD_set (by omega),atB_succ hne,List.take_add_one,List.getElem?_eq_getElem hat,List.count_append]
    have e:last.getD (atB index k) 0=last[atB index k]:=by simp [List.getD,hat]
    by_cases ec:c=last.getD (atB index k) 0
    ·subst ec
     rw [if_pos rfl,hcn,e];simp;omega
    ·rw [if_neg ec,hv c hc]
     have:List.count c (some last[atB index k]).toList=0:=by
      rw [List.count_eq_zero]
      simp only [Option.toList_some,List.mem_singleton]
      rw [←e];exact ec
     rw [this];simp
   ·rw [getD_set (by omega)]
    by_cases er:r=k
    ·subst er
     rw [if_pos rfl,rowsB_get (by omega) hne]
    ·rw [if_neg er];exact ho1 r (by omega)
   ·rw [getD_set (by omega),if_neg (by omega)];exact ho2 r (by omega)
  ·have hke:k=index:=by
    rcases Nat.lt_trichotomy k index with h|h|h
    ·exact absurd ⟨by omega,by omega,by omega,by omega,by omega⟩ hin
    ·exact h
    ·exact absurd ⟨by omega,by omega,by omega,by omega,by omega⟩ hin
   rw [i64_id (x:=(k:Int)+1) (by omega)]
   refine ⟨⟨k+1,v,out,by omega,by omega,hvl,fun c hc=> ?_,hol,fun r hr=> ?_,fun r hr=>ho2 r (by omega),h5⟩,by dsimp only;omega⟩
   ·rw [hv c hc,hke,atB_same]
   ·by_cases er:r=k
    ·subst er
     rw [ho2 r (Nat.le_refl _)]
     unfold rowsB
     rw [List.getD,List.getElem?_map,List.getElem?_range (by omega)]
     simp [hke]
    ·exact ho1 r (by omega)
 ·have hge:k=last.length+1:=by
   have:=of_decide_eq_false hge;omega
  subst hge
  have:out=rowsB last index:=by
   apply List.ext_getElem (by rw [hol,rowsB_len])
   intro r h1 h2
   have:=ho1 r (by omega)
   simpa [List.getD,h1,h2] using this
  rw [this] at h5
  exact hK s27 w5 h5.p1.drop
end
end Go.Proofs.YtcdpblipagajiaaGreat
set_option maxRecDepth 20000
namespace Go.Vc
open Go Go.Sort
def Gr (W w:World):Prop:= ∃q os,w=grow (W.drewN q) os
theorem Gr.refl (W:World):Gr W W:=⟨0,#[],by simp [World.drewN]⟩
theorem Gr.alloc {W w:World} (h:Gr W w) (o:Obj):Gr W (w.alloc o):=by
 obtain ⟨q,os,rfl⟩:=h
 exact ⟨q,os++ #[o],by rw [alloc_eq_grow,grow_grow]⟩
theorem Gr.drew {W w:World} (h:Gr W w):Gr W {w with drawn:=w.drawn+1}:=by
 obtain ⟨q,os,rfl⟩:=h
 exact ⟨q+1,os,rfl⟩
theorem Nw.gr {W E w:World} {F:List HP} {t:TypeId} {cs:Array Value} {K:Nat→World→Prop} (hh:Hp E w F) (hg:Gr W w) (h: ∀b w',Hp E w' (Blk b (.cells cs t (0,0))::F)→Gr W w'→K b w'):Nw t cs w K:=h _ _ (hh.alloc _) (hg.alloc _)
end Go.Vc
namespace Go.Proofs.YtcdpblipagajiaaGreat
open Go Go.Vc Go.Sort
section
variable {E w:World} {F:List HP}
theorem isNaN_c {x:Int} {K:Bool→World→Prop} (hK:K false w):Cl Tryz.prog [kB] n_cmp_isNaN_int ⟨[.int .i64 x]⟩ w K:=by
 refine cmp_isNaN_int.ok _ _ _ ?_
 unfold cmp_isNaN_int.E
 simpa using hK
theorem compare_c {x y:Int} {K:Int→World→Prop} (hK:K (cmpI x y) w):Cl Tryz.prog [kI] n_cmp_Compare_int ⟨[.int .i64 x,.int .i64 y]⟩ w K:=by
 refine cmp_Compare_int.ok _ _ _ _ ?_
 unfold cmp_Compare_int.E
 refine isNaN_c (isNaN_c (IfB.f rfl (IfB.f rfl ?_)))
 unfold cmpI at hK
 by_cases h1:x<y
 ·rw [if_pos h1] at hK;exact IfB.t (decide_eq_true h1) hK
 ·rw [if_neg h1] at hK
  refine IfB.f (decide_eq_false h1) ?_
  by_cases h2:x>y
  ·rw [if_pos h2] at hK;exact IfB.t (decide_eq_true h2) hK
  ·rw [if_neg h2] at hK;exact IfB.f (decide_eq_false h2) hK
theorem or_c {a b:Int} {s:Sl} {K:Int→World→Prop} (hs:SlT 1 s [vI a,vI b] w) (hl:s.len=2) (hK:K (if a !=0 then a else b) w):Cl Tryz.prog [kI] n_cmp_Or_int ⟨[.slice s.base s.len s.cap]⟩ w K:=by
 refine cmp_Or_int.ok _ _ _ ?_
 unfold cmp_Or_int.E
 refine ⟨fun i w'=>w'=w∧(i=0∨(i=1∧a=0)∨(i=2∧a=0∧b=0)),fun i _=>(2 - i).toNat,⟨rfl,.inl rfl⟩,?_⟩
 rintro i w' ⟨rfl,hi⟩
 rw [hl]
 rcases hi with rfl|⟨rfl,rfl⟩|⟨rfl,rfl,rfl⟩
 ·refine IfB.t (by decide) (Idx.rd hs (by omega) (by rw [hl];decide) fun p hp hc=>Ld.sc (s:= .int .i64) a hc ?_)
  refine IfB.mk (fun h=> ?_) (fun h=> ?_)
  ·rw [h] at hK;exact hK
  ·exact ⟨⟨rfl,.inr (.inl ⟨by decide,by simpa using h⟩)⟩,by dsimp only;decide⟩
 ·refine IfB.t (by decide) (Idx.rd hs (by omega) (by rw [hl];decide) fun p hp hc=>Ld.sc (s:= .int .i64) b hc ?_)
  refine IfB.mk (fun h=> ?_) (fun h=> ?_)
  ·exact hK
  ·exact ⟨⟨rfl,.inr (.inr ⟨by decide,rfl,by simpa using h⟩)⟩,by dsimp only;decide⟩
 ·exact IfB.f (by decide) hK
theorem gr_calls {i:FuncId} {args:Array Value} {r:Int} (h:Cl Tryz.prog [kI] i args w fun x w'=>x=r∧Gr w w'):Calls Tryz.prog i args w fun e w'=>e= .returned (.int .i64 r)∧∃q os',w'=grow (w.drewN q) os':=by
 refine Calls.mono h fun e w' he=> ?_
 cases e with
 |returned v=>
  obtain ⟨x,rfl,rfl,hg⟩:=Ki.dec_sound (k:=kI) he
  exact ⟨rfl,hg⟩
 |panicked=>exact he.elim
 |outgrown=>exact he.elim
end
end Go.Proofs.YtcdpblipagajiaaGreat
set_option maxRecDepth 20000
namespace Go.Proofs.YtcdpblipagajiaaGreat
open Go Go.Vc Go.Sort
theorem ranked1_c (x y:Int×Int) (W:World):Calls Tryz.prog n_bwt_ranked_1 #[.agg ⟨enc2 x⟩,.agg ⟨enc2 y⟩] W fun e w'=>e= .returned (.int .i64 (cmp2 x y))∧∃q os',w'=grow (W.drewN q) os':=by
 refine gr_calls (bwt_ranked_1.ok (x.1,x.2,()) (y.1,y.2,()) _ _ ?_)
 unfold bwt_ranked_1.E
 refine Nw.gr (Hp.start W) (Gr.refl W) fun b1 w1 h1 g1=>Nw.gr h1 g1 fun b2 w2 h2 g2=> ?_
 refine ⟨HasF W _,HasF.mk h2.drew,?_⟩
 refine LdS.blk (s:= .int .i64) (fun w h=>h.front2) x.1 rfl ?_
 refine LdS.blk (s:= .int .i64) (fun w h=>h.front) y.1 rfl ?_
 refine LdS.blk (s:= .int .i64) (fun w h=>h.front2) x.2 rfl ?_
 refine LdS.blk (s:= .int .i64) (fun w h=>h.front) y.2 rfl ?_
 refine compare_c ⟨HasF.mk h2.drew,compare_c ⟨HasF.mk h2.drew,?_⟩⟩
 refine Nw.gr (h2.drew (n:=w2.drawn+1)) g2.drew fun b3 w3 h3 g3=>⟨HasF.mk1 h3,?_⟩
 refine or_c (a:=cmpI x.1 y.1) (b:=cmpI x.2 y.2) (s:=⟨some ⟨b3,0,none⟩,2,2⟩) (h3.tells (Tells.blk rfl rfl)) rfl ⟨HasF.mk1 h3,rfl,g3⟩
end Go.Proofs.YtcdpblipagajiaaGreat
set_option maxRecDepth 20000
namespace Go.Vc
open Go
set_option linter.unusedSectionVars false
section
variable {P:Program} {α β:Type} [DecidableEq α] {ke:α→Value} {ve:β→Value} {kt vt t ty:TypeId} {E w:World} {F:List HP} {m:Option Nat} {l:List (α×β)}
theorem ents_len {es:List MapEntry} (h:Ents ke ve es l):es.length=l.length:=by
 have:=congrArg List.length h
 simpa using this
theorem run_lookup1 (hk:KeyOk P kt ke) (hu:P.underlying t=some (.map kt vt)) {a:α} {z:Value} (hz: ∀w,(zeroValue vt).run P w= .ok z w) (h:Hp E w (OwnM ke ve m l::F)):
  (Instr.lookup t (.map m) (ke a) false).run P w= .ok (match findAt a l 0 with|some q=>ve q.2|none=>z) w:=by
 obtain ⟨r,es,clock,rfl,he,hB⟩:=h.mapOpen
 have hb:=hB.blk
 have hfk:=findKey_run (ve:=ve) hk a w es.toList l he
 cases hf:findAt a l 0 with
 |none=>
  rw [hf] at hfk
  simp [Instr.lookup,run_underlying hu,MapKept.run_getObj_map hb,hk.check,hfk,hz]
 |some q=>
  rw [hf] at hfk
  simp [Instr.lookup,run_underlying hu,MapKept.run_getObj_map hb,hk.check,hfk]
theorem run_lenM (hu:P.underlying t=some (.map kt vt)) {K:Int→World→Prop} (h:Hp E w (OwnM ke ve m l::F)) (hK:K (l.length:Int) w):Run P (Builtin.len_ #[t] ty ⟨[.map m]⟩) kI w K:=by
 obtain ⟨r,es,clock,rfl,he,hB⟩:=h.mapOpen
 have hb:=hB.blk
 have hl:=ents_len he
 unfold Run
 have:(Builtin.len_ #[t] ty ⟨[.map (some r)]⟩).run P w= .ok (.int .i64 (l.length:Int)) w:=by
  simp [Builtin.len_,run_underlying hu,MapKept.run_getObj_map hb,goInt,←hl]
 rw [this]
 exact hK
end
end Go.Vc
namespace Go.Proofs
open Go.Shelf
def Tryz.sortPair_ren:Go.Shelf.Ren:=⟨fun|6=>209|15=>219|14=>218|28=>231|29=>232|20=>223|21=>224|22=>225|23=>226|24=>227|25=>228|26=>229|27=>230|46=>234|47=>235|48=>236|49=>237|50=>238|57=>239|n=>n,fun|22=>237|24=>239|25=>249|3=>3|39=>88|0=>0|53=>49|55=>213|4=>4|46=>265|45=>264|50=>157|5=>5|9=>9|66=>272|70=>276|76=>278|77=>206|n=>n,fun|n=>n⟩
theorem Tryz.sortPair:Go.Proofs.SlLaysF0.n6 Tryz.prog Tryz.sortPair_ren:={
 mixed:=by kernel_rfl
 f6:=⟨Tryz.f209.name,by decide,Tryz.func209.trans (congrArg some (by kernel_rfl))⟩
 f14:=⟨Tryz.f218.name,by decide,Tryz.func218.trans (congrArg some (by kernel_rfl))⟩
 f15:=Tryz.func219.trans (congrArg some (by kernel_rfl))
 f20:=⟨Tryz.f223.name,by decide,Tryz.func223.trans (congrArg some (by kernel_rfl))⟩
 f21:=⟨Tryz.f224.name,by decide,Tryz.func224.trans (congrArg some (by kernel_rfl))⟩
 f22:=⟨Tryz.f225.name,by decide,Tryz.func225.trans (congrArg some (by kernel_rfl))⟩
 f23:=⟨Tryz.f226.name,by decide,Tryz.func226.trans (congrArg some (by kernel_rfl))⟩
 f24:=⟨Tryz.f227.name,by decide,Tryz.func227.trans (congrArg some (by kernel_rfl))⟩
 f25:=⟨Tryz.f228.name,by decide,Tryz.func228.trans (congrArg some (by kernel_rfl))⟩
 f26:=⟨Tryz.f229.name,by decide,Tryz.func229.trans (congrArg some (by kernel_rfl))⟩
 f27:=⟨Tryz.f230.name,by decide,Tryz.func230.trans (congrArg some (by kernel_rfl))⟩
 f28:=Tryz.func231.trans (congrArg some (by kernel_rfl))
 f29:=Tryz.func232.trans (congrArg some (by kernel_rfl))
 f46:=⟨Tryz.f234.name,by decide,Tryz.func234.trans (congrArg some (by kernel_rfl))⟩
 f47:=Tryz.func235.trans (congrArg some (by kernel_rfl))
 f48:=Tryz.func236.trans (congrArg some (by kernel_rfl))
 f49:=⟨Tryz.f237.name,by decide,Tryz.func237.trans (congrArg some (by kernel_rfl))⟩
 f50:=⟨Tryz.f238.name,by decide,Tryz.func238.trans (congrArg some (by kernel_rfl))⟩
 f57:=⟨Tryz.f239.name,by decide,Tryz.func239.trans (congrArg some (by kernel_rfl))⟩
 t0:=Tryz.underlying0
 a0:=Tryz.isAgg0
 z0:=Tryz.sizeOf0
 v0:=Tryz.zeroValue0
 t3:=Tryz.underlying3
 a3:=Tryz.isAgg3
 z3:=Tryz.sizeOf3
 v3:=Tryz.zeroValue3
 t4:=Tryz.underlying4
 a4:=Tryz.isAgg4
 z4:=Tryz.sizeOf4
 v4:=Tryz.zeroValue4
 t5:=Tryz.underlying5
 a5:=Tryz.isAgg5
 z5:=Tryz.sizeOf5
 v5:=Tryz.zeroValue5
 t9:=Tryz.underlying9
 a9:=Tryz.isAgg9
 z9:=Tryz.sizeOf9
 v9:=Tryz.zeroValue9
 t22:=Tryz.underlying237
 a22:=Tryz.isAgg237
 z22:=Tryz.sizeOf237
 v22:=Tryz.zeroValue237
 t25:=Tryz.underlying249
 a25:=Tryz.isAgg249
 z25:=Tryz.sizeOf249
 v25:=Tryz.zeroValue249
 t39:=Tryz.underlying88
 a39:=Tryz.isAgg88
 z39:=Tryz.sizeOf88
 v39:=Tryz.zeroValue88
 t45:=Tryz.underlying264
 a45:=Tryz.isAgg264
 z45:=Tryz.sizeOf264
 v45:=Tryz.zeroValue264
 t46:=Tryz.underlying265
 a46:=Tryz.isAgg265
 z46:=Tryz.sizeOf265
 v46:=Tryz.zeroValue265
 t50:=Tryz.underlying157
 a50:=Tryz.isAgg157
 z50:=Tryz.sizeOf157
 v50:=Tryz.zeroValue157
 t53:=Tryz.underlying49
 a53:=Tryz.isAgg49
 z53:=Tryz.sizeOf49
 v53:=Tryz.zeroValue49
 t55:=Tryz.underlying213
 a55:=Tryz.isAgg213
 z55:=Tryz.sizeOf213
 v55:=Tryz.zeroValue213
 t66:=Tryz.underlying272
 a66:=Tryz.isAgg272
 z66:=Tryz.sizeOf272
 v66:=Tryz.zeroValue272
 t70:=Tryz.underlying276
 a70:=Tryz.isAgg276
 z70:=Tryz.sizeOf276
 v70:=Tryz.zeroValue276
 t76:=Tryz.underlying278
 a76:=Tryz.isAgg278
 z76:=Tryz.sizeOf278
 v76:=Tryz.zeroValue278
 t77:=Tryz.underlying206
 a77:=Tryz.isAgg206
 z77:=Tryz.sizeOf206
 v77:=Tryz.zeroValue206}
end Go.Proofs
set_option maxRecDepth 20000
namespace Go.Vc
open Go
theorem findAt_none {α β:Type} [DecidableEq α] {a:α}: ∀{l:List (α×β)} {i:Nat},a∉l.map (·.1)→findAt a l i=none
 | [],_,_=>rfl
 |p::l,i,h=>by
  simp only [List.map_cons,List.mem_cons,not_or] at h
  unfold findAt
  rw [if_neg h.1,findAt_none h.2]
theorem findAt_at {α β:Type} [DecidableEq α] {a:α}: ∀{l:List (α×β)} {i j:Nat} {v:β},(l.map (·.1)).Nodup→l[j]? =some (a,v)→findAt a l i=some (i+j,v)
 | [],_,_,_,_,h=>by simp at h
 |p::l,i,0,v,_,h=>by
  have:p=(a,v):=by simpa using h
  subst this
  unfold findAt
  rw [if_pos rfl];rfl
 |p::l,i,j+1,v,hn,h=>by
  have h':l[j]? =some (a,v):=by simpa using h
  rw [List.map_cons,List.nodup_cons] at hn
  have hne:a≠p.1:=fun e=>hn.1 (by rw [←e];exact List.mem_map.2 ⟨(a,v),List.mem_of_getElem? h',rfl⟩)
  unfold findAt
  rw [if_neg hne,findAt_at hn.2 h']
  congr 2;omega
theorem RunR.lk2 {P:Program} {s:Sem Value} {w:World} {K:Int→Bool→World→Prop} (x:Int) (b:Bool) (h:s.run P w= .ok (.tuple #[.int .i64 x,.bool b]) w) (hK:K x b w):RunR P s [kI,kB] w K:=by
 unfold RunR
 rw [h]
 exact hK
theorem Run1.of {P:Program} {s:Sem Value} {w:World} {K:Int→World→Prop} (x:Int) (h:s.run P w= .ok (.int .i64 x) w) (hK:K x w):Run P s kI w K:=by
 unfold Run
 rw [h]
 exact hK
def keP (a:Int×Int):Value:= .agg ⟨[.int .i64 a.1,.int .i64 a.2]⟩
def vN' (z:Int):Value:= .int .i64 z
def nums (d:List (Int×Int)):List ((Int×Int)×Int):=d.zipIdx.map fun p=>(p.1,(p.2:Int))
theorem nums_keys (d:List (Int×Int)):(nums d).map (·.1)=d:=by
 unfold nums
 rw [List.map_map]
 have:((fun x:(Int×Int)×Int=>x.1)∘fun p:(Int×Int)×Nat=>(p.1,(p.2:Int)))=Prod.fst:=rfl
 rw [this,List.zipIdx_map_fst]
theorem nums_snoc (d:List (Int×Int)) (x:Int×Int):nums (d++ [x])=nums d++ [(x,(d.length:Int))]:=by
 unfold nums
 rw [List.zipIdx_append,List.map_append]
 simp
theorem nums_len (d:List (Int×Int)):(nums d).length=d.length:=by simp [nums]
theorem nums_at {d:List (Int×Int)} {j:Nat} (hj:j<d.length):(nums d)[j]? =some (d[j],(j:Int)):=by
 unfold nums
 simp [hj]
end Go.Vc
namespace Go.Proofs.YtcdpblipagajiaaGreat
open Go Go.Vc Go.Bw Go.Hs
theorem set_map {α:Type} (f:Nat→α) (n i:Nat) (x:α):((List.range n).map f).set i x=(List.range n).map fun j=>if j=i then x else f j:=by
 apply List.ext_getElem (by simp)
 intro j h1 h2
 simp only [List.getElem_set,List.getElem_map,List.getElem_range]
 by_cases e:i=j
 ·rw [if_pos e,if_pos e.symm]
 ·rw [if_neg e,if_neg (fun h=>e h.symm)]
section
variable {E w:World} {F:List HP}
def okI (last:List Nat) (index:Int):Prop:=0≤index∧okB last index.toNat
set_option maxRecDepth 20000 in
theorem bwBack_c {last:List Nat} {s:Sl} {index:Int} {K:Sl→Int→World→Prop} (h:Hp E w F) (hs:Tells F (SlT 1 s (last.map vB))) (hb: ∀x∈last,x<256) (hn:last.length≤900000)
  (hK1:okI last index→∀s' w',Hp E w' (OwnS 1 s' ((textB last index.toNat).map vB)::F)→K s' 0 w') (hK2: ¬okI last index→∀w',Hp E w' F→K ⟨none,0,0⟩ 170 w'):
  Cl Tryz.prog [kS,kI] n_bwt_Back ⟨[.slice s.base s.len s.cap,.int .i64 index]⟩ w K:=by
 refine bwt_Back.ok _ _ _ _ ?_
 unfold bwt_Back.E
 simp only [Join_eq]
 have hl:=(h.tells hs).1
 simp only [List.length_map,Nat.mul_one] at hl
 refine IfB.mk (fun g=>hK2 (fun hh=>by have:=of_decide_eq_true g;have:=hh.1;omega) w h) (fun g1=> ?_)
 refine IfB.mk (fun g=>hK2 (fun hh=>by have:=of_decide_eq_true g;have:=hh.2.1;have:=hh.1;omega) w h) (fun g2=> ?_)
 have g1:=of_decide_eq_false g1
 have g2:=of_decide_eq_false g2
 obtain ⟨ix,rfl⟩:=Int.eq_ofNat_of_zero_le (show 0≤index by omega)
 rw [Int.toNat_natCast] at hK1
 have hix:ix≤last.length:=by omega
 refine IfB.mk (fun g3=>IfB.mk (fun g4=>hK2 (fun hh=> ?_) w h) (fun g4=> ?_)) (fun g3=> ?_)
 ·have g3:=beq_iff_eq.1 g3
  have g4:=of_decide_eq_true g4
  have:=hh.2
  rw [g3] at this
  exact okB_zero (by omega) this
 all_goals
  refine behind_c h hs hb hn hix fun s6 w1 h1=> ?_
  refine run_mk1 (by kernel_rfl) infoU8b rfl (by omega) (by decide) h1 fun s8 w2 hs8 h2=> ?_
  rw [rep_vB] at h2
  refine ⟨fun row i w'=> ∃(k:Nat) (T:List Nat),i=(last.length:Int) - 1 - (k:Int)∧k≤last.length∧row=(wk last ix k:Int)∧(∀j,j<k→wk last ix j≠ix)∧T.length=last.length∧(∀j,j<k→T.getD (last.length - 1 - j) 0=last.getD (atB ix (wk last ix j)) 0)∧
    Hp E w' (OwnS 1 s8 (T.map vB)::OwnS 1 s6 ((rowsB last ix).map vI)::F),fun _ i _=>(i+1).toNat,
   ⟨0,_,by rw [i64_id (by omega)];omega,by omega,rfl,fun j hj=>by omega,by rw [List.length_replicate];omega,fun j hj=>by omega,h2⟩,?_⟩
  rintro row i w3 ⟨k,T,rfl,hk,rfl,hne,hTl,hT,h3⟩
  have hwl:=wk_le hix k hne
  refine IfB.mk (fun hge=> ?_) (fun hlt=> ?_)
  ·have hge:k<last.length:=by have:=of_decide_eq_true hge;omega
   refine place_c hl.symm (by rw [big_eq];omega) (fun hin=>IfB.f rfl ?_) (fun hin=>IfB.t rfl (hK2 (fun hh=> ?_) w3 h3.drop.drop))
   ·have hat:=inRow_at hin
    have hnk:wk last ix k≠ix:=by have:=hin.2.2.2.2;omega
    rw [Int.toNat_natCast,Int.toNat_natCast] at hat⊢
    refine Idx.nB (h3.tells (Tells.cons (Tells.cons hs))) rfl hat (Idx.setB (j:=last.length - 1 - k) h3 (by omega) (by omega) fun w4 h4=> ?_)
    refine Idx.nI (j:=wk last ix k) (h4.tells (Tells.cons Tells.own)) rfl (by rw [rowsB_len];omega) ?_
    rw [rowsB_get hwl hnk]
    refine ⟨⟨k+1,_,by rw [i64_id (by omega)];omega,by omega,rfl,fun j hj=> ?_,by rw [List.length_set];exact hTl,fun j hj=> ?_,h4⟩,by dsimp only;rw [i64_id (by omega)];omega⟩
    ·by_cases e:j=k
     ·subst e;exact hnk
     ·exact hne j (by omega)
    ·by_cases e:j=k
     ·subst e
      simp [List.getD,hTl,show last.length - 1 - j<last.length by omega]
     ·have:=hT j (by omega)
      rw [←this]
      simp only [List.getD,List.getElem?_set]
      rw [if_neg (by omega)]
   ·have h5:=hh.2.2.1 k hge
    rw [Int.toNat_natCast] at h5
    exact hin ⟨by omega,by omega,by omega,by omega,by omega⟩
  ·have hke:k=last.length:=by have:=of_decide_eq_false hlt;omega
   subst hke
   refine IfB.mk (fun g=>hK2 (fun hh=> ?_) w3 h3.drop.drop) (fun g=> ?_)
   ·have:=hh.2.2.2
    rw [Int.toNat_natCast] at this
    rw [this] at g
    simp at g
   ·have hend:wk last ix last.length=ix:=by
     have:(wk last ix last.length:Int)=(ix:Int):=by simpa using g
     omega
    have hok:okI last (ix:Int):=⟨by omega,by rw [Int.toNat_natCast];exact ⟨hix,hne,hend⟩⟩
    rw [textB_eq hTl hT] at h3
    exact hK1 hok s8 w3 h3.p1.drop
theorem ty_zsB:ElemT Tryz.prog 33 3 1 8:= .of (by kernel_rfl) (by kernel_rfl)
theorem ty_pair:ElemT Tryz.prog 237 239 2 16:= .of (by kernel_rfl) (by kernel_rfl)
theorem infoPair: ∃i,Tryz.prog.info? 239=some i∧i.zero=some (.agg ⟨[.int .i64 0,.int .i64 0]⟩)∧i.size=2∧i.bytes=16:=by
 have h:(Tryz.prog.info? 239).map (fun i=>(i.zero,i.size,i.bytes))=some (some (.agg ⟨[.int .i64 0,.int .i64 0]⟩),2,16):=by kernel_rfl
 obtain ⟨i,h1,h2⟩:=Option.map_eq_some_iff.1 h
 simp only [Prod.mk.injEq] at h2
 exact ⟨i,h1,h2⟩
theorem sortPair_c {s:Sl} {xs:List (Int×Int)} {K:World→Prop} (h:Hp E w (OwnS 2 s (xs.flatMap enc2)::F)) (hsz:xs.length<4611686018427387904) (hK: ∀w',Hp E w' (OwnS 2 s ((sort2 xs).flatMap enc2)::F)→K w'):
  Cl Tryz.prog [] n_slices_SortFunc_bwt_pair_bwt_pair ⟨[.slice s.base s.len s.cap,.func (.func n_bwt_ranked_1) ⟨[]⟩ ⟨[]⟩]⟩ w K:=
 sortF_c (ρ:=Tryz.sortPair_ren) Tryz.sortPair Tryz.isAgg239 Tryz.sizeOf239 (by kernel_rfl) (fun x y W=>ranked1_c x y W) h hsz hK
set_option maxRecDepth 200000 in
theorem clonePair_c {s:Sl} {l:List (Int×Int)} {K:Sl→World→Prop} (h:Hp E w F) (hs:Tells F (SlT 2 s (l.flatMap enc2))) (hn:l.length≤1000000) (hK: ∀s' w',Hp E w' (OwnS 2 s' (l.flatMap enc2)::F)→K s' w'):
  Cl Tryz.prog [kS] n_slices_Clone_bwt_pair_bwt_pair ⟨[.slice s.base s.len s.cap]⟩ w K:=by
 refine slices_Clone_bwt_pair_bwt_pair.ok _ _ _ ?_
 unfold slices_Clone_bwt_pair_bwt_pair.E
 refine IfB.mk (fun hb=> ?_) (fun hb=> ?_)
 ·have hl:l= []:=by
   cases l with
   |nil=>rfl
   |cons x l=>
    obtain ⟨p,hp,_⟩:=(h.tells hs).2 0 (by rw [fm_len enc2_len];simp)
    rw [hp] at hb;cases hb
  subst hl
  exact hK _ w (h.ownNil 2)
 ·refine Nw.mk h fun b w1 h1=> ?_
  have hnew:Hp E w1 (OwnS 2 ⟨some ⟨b,0,none⟩,0,0⟩ (([]:List (Int×Int)).flatMap enc2)::F):=h1.ownNew (n:=0) (sz:=2) rfl
  exact appN (s:=⟨some ⟨b,0,none⟩,0,0⟩) (l:= []) (ys:=l) ty_pair enc2_len (by decide) enc2_scalar hnew (hnew.tells (Tells.cons hs)) (by simp only [List.length_nil];omega) (by simp only [List.length_nil];omega) fun s' w2 h2 _=>hK s' w2 (by rw [List.nil_append] at h2;exact h2)
set_option maxRecDepth 200000 in
theorem keyOk_P:KeyOk Tryz.prog (α:=Int×Int) 239 keP where
 und:=⟨_,rfl,fun a b=> .inl rfl⟩
 check:=fun e a w=>by
  have: ∀(e:Bool) (c n:Int) (w:World),(Instr.checkKey e 10000 239 (.agg ⟨[.int .i64 c,.int .i64 n]⟩)).run Tryz.prog w= .ok () w:=fun e c n w=>by kernel_rfl
  exact this e a.1 a.2 w
 eq:=fun a b w=>by
  have key: ∀c n d m:Int,eqV Tryz.prog 8 239 (.agg ⟨[.int .i64 c,.int .i64 n]⟩) (.agg ⟨[.int .i64 d,.int .i64 m]⟩) (fun r=>r=((c==d)&&(n==m))):=fun c n d m=>by
   have e:eqV Tryz.prog 8 239 (.agg ⟨[.int .i64 c,.int .i64 n]⟩) (.agg ⟨[.int .i64 d,.int .i64 m]⟩) (fun r=>r=((c==d)&&(n==m)))=(((c==d)&&(n==m))=((c==d)&&(n==m))):=by kernel_rfl
   rw [e]
  obtain ⟨r,h1,h2⟩:=eqV_sound 8 _ _ _ _ (key a.1 a.2 b.1 b.2)
  have:=h1 10000 (by decide) w
  have e:decide (a=b)=((a.1==b.1)&&(a.2==b.2)):=by
   rw [Bool.eq_iff_iff]
   simp [Prod.ext_iff]
  rw [e,←h2];exact this
 same:=fun a=>by
  unfold keP Instr.sameBits
  simp [Instr.sameBits]
theorem ty_mapP:Tryz.prog.underlying 250=some (.map 239 3):=by kernel_rfl
theorem zero_intP (w:World):(zeroValue 3).run Tryz.prog w= .ok (vN' 0) w:=Tryz.zeroValue3 w
theorem pair_scalar {x:Int×Int}: ∀v∈ [Value.int .i64 x.1,.int .i64 x.2],scalarB v=true:=by
 intro v hv
 simp only [List.mem_cons,List.not_mem_nil,or_false] at hv
 rcases hv with rfl|rfl<;>rfl
set_option maxRecDepth 20000 in
theorem ranked_c {s:Sl} {l:List (Int×Int)} {K:Sl→Int→World→Prop} (h:Hp E w F) (hs:Tells F (SlT 2 s (l.flatMap enc2))) (hn:l.length≤1000000) (hK: ∀s' w',Hp E w' (OwnS 1 s' ((l.map fun p=>(rkP l p:Int)).map vI)::F)→K s' ((dd l).length:Int) w'):
  Cl Tryz.prog [kS,kI] n_bwt_ranked ⟨[.slice s.base s.len s.cap]⟩ w K:=by
 refine bwt_ranked.ok _ _ _ ?_
 unfold bwt_ranked.E
 have hlen:=SlT.len enc2_len (by decide) (h.tells hs)
 have hsl:=sort2_len l
 refine clonePair_c h hs hn fun s3 w1 h1=>sortPair_c h1 (by omega) fun w2 h2=> ?_
 have hlen3:=SlT.len enc2_len (by decide) (h2.tells Tells.own)
 refine run_makeMap (ke:=keP) (ve:=vN') h2 fun m w3 h3=> ?_
 refine ⟨fun i w'=> ∃k:Nat,i=(k:Int)∧k≤l.length∧Hp E w' (OwnM keP vN' m (nums (firsts ((sort2 l).take k)))::OwnS 2 s3 ((sort2 l).flatMap enc2)::F),fun i _=>l.length - i.toNat,⟨0,rfl,by omega,h3⟩,?_⟩
 rintro i w4 ⟨k,rfl,hk,h4⟩
 refine IfB.mk (fun hlt=> ?_) (fun hge=> ?_)
 ·have hlt:k<(sort2 l).length:=by have:=of_decide_eq_true hlt;omega
  refine Idx.elT (g:=enc2) enc2_len (by decide) h4 (Tells.cons Tells.own) rfl hlt fun p hp=> ?_
  obtain ⟨x,hx⟩: ∃x,x=(sort2 l)[k]:=⟨_,rfl⟩
  rw [←hx] at hp
  refine Ld.st (x.1,x.2,()) (fun j hj=>h4.tells (hp j hj)) ?_
  refine Nw.mk h4 fun b14 w5 h5=>StC.blk h5 rfl pair_scalar fun w6 h6=> ?_
  refine Ld.stBlk h6 (x.1,x.2,()) rfl ?_
  have h7:=h6.p1
  have hft:=firsts_take (S:=sort2 l) hlt
  rw [←hx] at hft
  have hfl:=(firsts_full (S:=sort2 l) k (by omega)).1
  have step: ∀{w':World} {A:HP},Hp E w' (OwnM keP vN' m (nums (firsts ((sort2 l).take (k+1))))::A::OwnS 2 s3 ((sort2 l).flatMap enc2)::F)→
    (∃k':Nat,i64 ((k:Int)+1)=(k':Int)∧k'≤l.length∧Hp E w' (OwnM keP vN' m (nums (firsts ((sort2 l).take k')))::OwnS 2 s3 ((sort2 l).flatMap enc2)::F))∧l.length - (i64 ((k:Int)+1)).toNat<l.length - (k:Int).toNat:=fun {w' A} h'=>
   ⟨⟨k+1,by rw [i64_id (by omega)];omega,by omega,h'.p1.drop⟩,by rw [i64_id (by omega)];omega⟩
  have hlk:=run_lookup (kt:=239) (vt:=3) (a:=x) (z:=vN' 0) keyOk_P ty_mapP zero_intP h7
  by_cases hm:x∈firsts ((sort2 l).take k)
  ·obtain ⟨j,hj,hje⟩:=List.getElem_of_mem hm
   have hfa:findAt x (nums (firsts ((sort2 l).take k))) 0=some (0+j,(j:Int)):=findAt_at (by
    rw [nums_keys]
    exact (firsts_sorted (sort2_sorted l) k (by omega)).imp fun {a b} hab e=>by subst e;rw [lt2_irr] at hab;cases hab) (by rw [nums_at hj,hje])
   rw [hfa] at hlk
   refine RunR.lk2 (j:Int) true hlk (IfB.f rfl ?_)
   have hfe:firsts ((sort2 l).take (k+1))=firsts ((sort2 l).take k):=by rw [hft];unfold fi;rw [if_pos hm]
   exact step (by rw [hfe];exact h7)
  ·have hfa:findAt x (nums (firsts ((sort2 l).take k))) 0=none:=findAt_none (by rw [nums_keys];exact hm)
   rw [hfa] at hlk
   refine RunR.lk2 0 false hlk (IfB.t rfl ?_)
   refine Ld.stBlk h6 (x.1,x.2,()) rfl ?_
   refine run_lenM ty_mapP h7 ?_
   rw [nums_len]
   refine run_mapUpdate (kt:=239) (vt:=3) (a:=x) (b:=((firsts ((sort2 l).take k)).length:Int)) keyOk_P ty_mapP h7 fun w7 h8=> ?_
   have hfe:firsts ((sort2 l).take (k+1))=firsts ((sort2 l).take k)++ [x]:=by rw [hft];unfold fi;rw [if_neg hm]
   rw [updAt_new hfa,←nums_snoc,←hfe] at h8
   exact step h8
 have hge:k=(sort2 l).length:=by have:=of_decide_eq_false hge;omega
 subst hge
 rw [List.take_length] at h4
 have hdn:((nums (dd l)).map (·.1)).Nodup:=by
  rw [nums_keys]
  exact (dd_sorted l).imp fun {a b} hab e=>by subst e;rw [lt2_irr] at hab;cases hab
 refine ⟨fun o i w'=> ∃k:Nat,i=(k:Int)∧k≤l.length∧Hp E w' (OwnS 1 o (((l.take k).map fun p=>(rkP l p:Int)).map vI)::OwnM keP vN' m (nums (dd l))::OwnS 2 s3 ((sort2 l).flatMap enc2)::F),fun _ i _=>l.length - i.toNat,⟨0,rfl,by omega,h4.ownNil 1⟩,?_⟩
 rintro o i w5 ⟨k,rfl,hk,h5⟩
 refine IfB.mk (fun hlt=> ?_) (fun hge=> ?_)
 ·have hlt:k<l.length:=by have:=of_decide_eq_true hlt;omega
  refine Idx.elT (g:=enc2) enc2_len (by decide) h5 (Tells.cons (Tells.cons (Tells.cons hs))) rfl hlt fun p hp=> ?_
  obtain ⟨x,hx⟩: ∃x,x=l[k]:=⟨_,rfl⟩
  have hxl:x∈l:=by rw [hx];exact List.getElem_mem hlt
  rw [←hx] at hp
  refine Ld.st (x.1,x.2,()) (fun j hj=>h5.tells (hp j hj)) ?_
  refine Nw.mk h5 fun b32 w6 h6=>StC.blk h6 rfl pair_scalar fun w7 h7=> ?_
  refine Ld.stBlk h7 (x.1,x.2,()) rfl ?_
  obtain ⟨hj,hje⟩:=dd_at hxl
  have hfa:findAt x (nums (dd l)) 0=some (0+rkP l x,(rkP l x:Int)):=findAt_at hdn (by rw [nums_at hj,hje])
  have hlk:=run_lookup1 (kt:=239) (vt:=3) (a:=x) (z:=vN' 0) keyOk_P ty_mapP zero_intP h7.p2
  rw [hfa] at hlk
  refine Run1.of (rkP l x:Int) hlk ?_
  refine app_n ty_zsB rfl h7.p1 (by rw [List.length_map,List.length_take,big_eq];omega) fun s' w8 h8 _=>⟨⟨k+1,by rw [i64_id (by omega)];omega,by omega,?_⟩,by dsimp only;rw [i64_id (by omega)];omega⟩
  have e:(l.take (k+1)).map (fun p=>(rkP l p:Int))=(l.take k).map (fun p=>(rkP l p:Int))++ [(rkP l x:Int)]:=by
   rw [List.take_add_one,List.getElem?_eq_getElem hlt,List.map_append,←hx];rfl
  rw [e]
  exact h8.p1.drop
 ·have hge:k=l.length:=by have:=of_decide_eq_false hge;omega
  subst hge
  rw [List.take_length] at h5
  refine run_lenM ty_mapP h5.p1 ?_
  rw [nums_len]
  exact hK o w5 h5.p1.drop.p1.drop
end
end Go.Proofs.YtcdpblipagajiaaGreat
set_option maxRecDepth 20000
namespace Go.Proofs.YtcdpblipagajiaaGreat
open Go Go.Vc Go.Bw Go.Hs
section
variable {E w:World} {F:List HP}
def rowF (t:List Nat) (f:Nat→Int×Int):List (Int×Int):=(List.range (t.length+1)).map f
theorem rowF_len (t:List Nat) (f:Nat→Int×Int):(rowF t f).length=t.length+1:=by simp [rowF]
theorem rowF_get {t:List Nat} {f:Nat→Int×Int} {i:Nat} (hi:i<(rowF t f).length):(rowF t f)[i]=f i:=by simp [rowF]
theorem rowF_ext {t:List Nat} {f g:Nat→Int×Int} (h: ∀i,i≤t.length→f i=g i):rowF t f=rowF t g:=by
 unfold rowF
 refine List.map_congr_left fun i hi=> ?_
 rw [List.mem_range] at hi
 exact h i (by omega)
set_option maxRecDepth 200000 in
theorem ranks_c {t:List Nat} {s:Sl} {K:Sl→World→Prop} (h:Hp E w F) (hs:Tells F (SlT 1 s (t.map vB))) (hb: ∀x∈t,x<256) (hn:t.length≤400000)
  (hK: ∀s' w',Hp E w' (OwnS 1 s' (((List.range (t.length+1)).map fun i=>(rkB t i:Int)).map vI)::F)→K s' w'):Cl Tryz.prog [kS] n_bwt_ranks ⟨[.slice s.base s.len s.cap]⟩ w K:=by
 refine bwt_ranks.ok _ _ _ ?_
 unfold bwt_ranks.E
 have hl:=(h.tells hs).1
 simp only [List.length_map,Nat.mul_one] at hl
 rw [show i64 ((s.len:Int)+1)=((t.length+1:Nat):Int) by rw [i64_id (by omega)];omega]
 refine run_mkK (g:=enc2) (x:=((0,0):Int×Int)) (by kernel_rfl) infoPair rfl enc2_len (by decide) (by omega) (by decide) h fun s3 w1 hs3 h1=> ?_
 have e0:List.replicate (t.length+1) ((0,0):Int×Int)=rowF t fun _=>(0,0):=by
  apply List.ext_getElem (by rw [rowF_len,List.length_replicate])
  intro i h1 h2
  rw [rowF_get,List.getElem_replicate]
 rw [e0] at h1
 refine ⟨fun i w'=> ∃k:Nat,i=(k:Int)∧k≤t.length∧Hp E w' (OwnS 2 s3 ((rowF t fun j=>if j<k then Bw.initF t j else (0,0)).flatMap enc2)::F),fun i _=>t.length - i.toNat,⟨0,rfl,by omega,by simpa using h1⟩,?_⟩
 rintro i w2 ⟨k,rfl,hk,h2⟩
 refine IfB.mk (fun hlt=> ?_) (fun hge=> ?_)
 ·have hlt:k<t.length:=by have:=of_decide_eq_true hlt;omega
  have hx:t.getD k 0<256:=by
   rw [List.getD,List.getElem?_eq_getElem hlt]
   exact hb _ (List.getElem_mem hlt)
  refine Idx.nB (h2.tells (Tells.cons hs)) rfl hlt ?_
  rw [i64_id (x:=(t.getD k 0:Int)) (by omega),i64_id (x:=1+(t.getD k 0:Int)) (by omega),i64_id (x:=(k:Int)+1) (by omega)]
  refine Idx.setCell (j:=k) (k:=0) (x:=Bw.initF t k) enc2_len (by decide) h2 rfl (by rw [rowF_len];omega) rfl ?_ fun w3 h3=>⟨⟨k+1,by omega,by omega,?_⟩,by dsimp only;omega⟩
  ·rw [rowF_get]
   unfold Bw.initF
   rw [if_neg (Nat.lt_irrefl k),if_pos hlt];rfl
  ·have:(rowF t fun j=>if j<k then Bw.initF t j else (0,0)).set k (Bw.initF t k)=rowF t fun j=>if j<k+1 then Bw.initF t j else (0,0):=by
    unfold rowF
    rw [set_map]
    refine List.map_congr_left fun j _=> ?_
    by_cases e:j=k
    ·subst e;rw [if_pos rfl,if_pos (by omega)]
    ·rw [if_neg e]
     by_cases e2:j<k
     ·rw [if_pos e2,if_pos (by omega)]
     ·rw [if_neg e2,if_neg (by omega)]
   rw [←this];exact h3
 have hge:k=t.length:=by have:=of_decide_eq_false hge;omega
 subst hge
 have e1:(rowF t fun j=>if j<t.length then Bw.initF t j else (0,0))=pairs t (Bw.initF t):=rowF_ext fun i hi=>by
  by_cases e:i<t.length
  ·rw [if_pos e]
  ·rw [if_neg e];unfold Bw.initF;rw [if_neg e]
 rw [e1] at h2
 have rk1: ∀{w:World} {f:Nat→Int×Int} {K:Sl→Int→World→Prop},Hp E w (OwnS 2 s3 ((pairs t f).flatMap enc2)::F)→(∀s' w',Hp E w' (OwnS 1 s' (((List.range (t.length+1)).map fun i=>(rkP (pairs t f) (f i):Int)).map vI)::OwnS 2 s3 ((pairs t f).flatMap enc2)::F)→K s' ((dd (pairs t f)).length:Int) w')→
   Cl Tryz.prog [kS,kI] n_bwt_ranked ⟨[.slice s3.base s3.len s3.cap]⟩ w K:=fun {w f K} h hK=>
  ranked_c (l:=pairs t f) h Tells.own (by rw [Bw.pairs_len];omega) fun s' w' h'=>hK s' w' (by
   have e:(pairs t f).map (fun p=>(rkP (pairs t f) p:Int))=(List.range (t.length+1)).map fun i=>(rkP (pairs t f) (f i):Int):=by
    conv=>lhs;rw [show (pairs t f).map (fun p=>(rkP (pairs t f) p:Int))=((List.range (t.length+1)).map f).map (fun p=>(rkP (pairs t f) p:Int)) from rfl]
    rw [List.map_map];rfl
   rw [←e];exact h')
 refine rk1 h2 fun s13 w3 h3=> ?_
 have hl3:=SlT.len enc2_len (by decide) (h3.tells (Tells.cons Tells.own))
 rw [Bw.pairs_len] at hl3
 refine ⟨fun r a wd w'=> ∃(hh:Nat) (f:Nat→Int×Int),wd=(hh:Int)∧1≤hh∧hh≤2*t.length+1∧PairOk t hh f∧a=((dd (pairs t f)).length:Int)∧Hp E w' (OwnS 1 r (((List.range (t.length+1)).map fun i=>(rkP (pairs t f) (f i):Int)).map vI)::OwnS 2 s3 ((pairs t f).flatMap enc2)::F),
  fun _ _ wd _=>2*t.length+2 - wd.toNat,⟨1,Bw.initF t,rfl,by omega,by omega,init_ok t,rfl,h3⟩,?_⟩
 rintro r a wd w4 ⟨hh,f,rfl,h1',hle,hf,rfl,h4⟩
 refine IfB.mk (fun hlt=> ?_) (fun hge=> ?_)
 ·have hlt:(dd (pairs t f)).length<t.length+1:=by have:=of_decide_eq_true hlt;omega
  have hht:=not_done hf hlt
  have hrl:((List.range (t.length+1)).map fun i=>(rkP (pairs t f) (f i):Int)).length=t.length+1:=by simp
  have hrg: ∀i,i≤t.length→((List.range (t.length+1)).map fun i=>(rkP (pairs t f) (f i):Int)).getD i 0=(rkP (pairs t f) (f i):Int):=fun i hi=>by
   rw [List.getD,List.getElem?_map,List.getElem?_range (by omega)];rfl
  obtain ⟨rr,hrr⟩: ∃rr:Nat→Int,rr=fun i=>(rkP (pairs t f) (f i):Int):=⟨_,rfl⟩
  have hQ:=rank_ok hf
  rw [←hrr] at h4 hrl hrg hQ
  have hrg: ∀i,i≤t.length→((List.range (t.length+1)).map rr).getD i 0=rr i:=fun i hi=>by rw [hrg i hi,hrr]
  refine ⟨fun i w'=> ∃k:Nat,i=(k:Int)∧k≤t.length+1∧Hp E w' (OwnS 2 s3 ((rowF t fun j=>if j<k then stepF t hh rr j else f j).flatMap enc2)::OwnS 1 r (((List.range (t.length+1)).map rr).map vI)::F),fun i _=>t.length+1 - i.toNat,⟨0,rfl,by omega,?_⟩,?_⟩
  ·have:(rowF t fun j=>if j<0 then stepF t hh rr j else f j)=pairs t f:=rowF_ext fun i _=>by rw [if_neg (by omega)]
   rw [this];exact h4.p1
  rintro i w5 ⟨k,rfl,hk,h5⟩
  refine IfB.mk (fun hklt=> ?_) (fun hkge=> ?_)
  ·have hklt:k<t.length+1:=by have:=of_decide_eq_true hklt;omega
   refine Idx.nI (h5.tells (Tells.cons Tells.own)) rfl (by rw [hrl];exact hklt) ?_
   rw [hrg k (by omega)]
   refine Idx.setEl (g:=enc2) (j:=k) (x:=((rr k,-1):Int×Int)) enc2_len (by decide) h5 rfl (by rw [rowF_len];exact hklt) pair_scalar fun w6 h6=> ?_
   have fin: ∀{w':World},Hp E w' (OwnS 2 s3 (((rowF t fun j=>if j<k then stepF t hh rr j else f j).set k (stepF t hh rr k)).flatMap enc2)::OwnS 1 r (((List.range (t.length+1)).map rr).map vI)::F)→
     (∃k':Nat,i64 ((k:Int)+1)=(k':Int)∧k'≤t.length+1∧Hp E w' (OwnS 2 s3 ((rowF t fun j=>if j<k' then stepF t hh rr j else f j).flatMap enc2)::OwnS 1 r (((List.range (t.length+1)).map rr).map vI)::F))∧t.length+1 - (i64 ((k:Int)+1)).toNat<t.length+1 - (k:Int).toNat:=fun {w'} h'=>by
    rw [i64_id (by omega)]
    refine ⟨⟨k+1,by omega,by omega,?_⟩,by omega⟩
    have:(rowF t fun j=>if j<k then stepF t hh rr j else f j).set k (stepF t hh rr k)=rowF t fun j=>if j<k+1 then stepF t hh rr j else f j:=by
     unfold rowF
     rw [set_map]
     refine List.map_congr_left fun j _=> ?_
     by_cases e:j=k
     ·subst e;rw [if_pos rfl,if_pos (by omega)]
     ·rw [if_neg e]
      by_cases e2:j<k
      ·rw [if_pos e2,if_pos (by omega)]
      ·rw [if_neg e2,if_neg (by omega)]
    rw [←this];exact h'
   rw [i64_id (x:=(k:Int)+(hh:Int)) (by omega)]
   refine IfB.mk (fun hin=> ?_) (fun hin=> ?_)
   ·have hin:k+hh≤t.length:=by have:=of_decide_eq_true hin;omega
    refine Idx.nI (j:=k+hh) (h6.tells (Tells.cons Tells.own)) (by omega) (by rw [hrl];omega) ?_
    rw [hrg (k+hh) hin]
    refine Idx.setCell (j:=k) (k:=1) (x:=stepF t hh rr k) enc2_len (by decide) h6 rfl (by rw [List.length_set,rowF_len];exact hklt) rfl ?_ fun w7 h7=>fin ?_
    ·rw [List.getElem_set_self]
     unfold stepF
     rw [if_pos hin];rfl
    ·rw [List.set_set] at h7
     exact h7
   ·have hin: ¬k+hh≤t.length:=by have:=of_decide_eq_false hin;omega
    have e:((rr k,-1):Int×Int)=stepF t hh rr k:=by unfold stepF;rw [if_neg hin]
    rw [e] at h6
    exact fin h6
  ·have hke:k=t.length+1:=by have:=of_decide_eq_false hkge;omega
   subst hke
   have e2:(rowF t fun j=>if j<t.length+1 then stepF t hh rr j else f j)=pairs t (stepF t hh rr):=rowF_ext fun i hi=>by rw [if_pos (by omega)]
   rw [e2] at h5
   have h5:=h5.p1.drop
   refine rk1 h5 fun s34 w6 h6=>⟨by decide,?_⟩
   have e3:ishl .i64 (hh:Int) 1=((hh+hh:Nat):Int):=by
    have hmx:IntKind.max .i64=9223372036854775807:=rfl
    have:=ishl_nat (k:= .i64) (a:=hh) (b:=1) (by decide) (by omega)
    rw [show ((1:Nat):Int)=1 from rfl] at this
    rw [this];omega
   rw [e3]
   exact ⟨⟨hh+hh,stepF t hh rr,rfl,by omega,by omega,step_ok hQ,rfl,h6⟩,by dsimp only;omega⟩
 ·have hge:t.length+1≤(dd (pairs t f)).length:=by have:=of_decide_eq_false hge;omega
  have e4:(List.range (t.length+1)).map (fun i=>(rkP (pairs t f) (f i):Int))=(List.range (t.length+1)).map fun i=>(rkB t i:Int):=List.map_congr_left fun i hi=>by
   rw [List.mem_range] at hi
   rw [done hf hge (by omega)]
  rw [e4] at h4
  exact hK r w4 h4.p1.drop
set_option maxRecDepth 200000 in
theorem bwOrder_c {t:List Nat} {s:Sl} {K:Sl→World→Prop} (h:Hp E w F) (hs:Tells F (SlT 1 s (t.map vB))) (hb: ∀x∈t,x<256) (hn:t.length≤400000)
  (hK: ∀s' w',Hp E w' (OwnS 1 s' ((zl (ordB t)).map vI)::F)→K s' w'):Cl Tryz.prog [kS] n_bwt_Order ⟨[.slice s.base s.len s.cap]⟩ w K:=by
 refine bwt_Order.ok _ _ _ ?_
 unfold bwt_Order.E
 refine ranks_c h hs hb hn fun s3 w1 h1=> ?_
 have hl3:=h1.ownLen
 rw [List.length_map,List.length_map,List.length_range,Nat.mul_one] at hl3
 refine run_mk1 (by kernel_rfl) infoI64 rfl (by omega) (by decide) h1 fun s5 w2 hs5 h2=> ?_
 rw [rep_vI] at h2
 have hrg: ∀i,i≤t.length→((List.range (t.length+1)).map fun i=>(rkB t i:Int)).getD i 0=(rkB t i:Int):=fun i hi=>by
  rw [List.getD,List.getElem?_map,List.getElem?_range (by omega)];rfl
 refine ⟨fun i w'=> ∃(k:Nat) (out:List Int),i=(k:Int)∧k≤t.length+1∧out.length=t.length+1∧(∀j,j<k→out.getD (rkB t j) 0=(j:Int))∧Hp E w' (OwnS 1 s5 (out.map vI)::OwnS 1 s3 (((List.range (t.length+1)).map fun i=>(rkB t i:Int)).map vI)::F),
  fun i _=>t.length+1 - i.toNat,⟨0,_,rfl,by omega,by rw [List.length_replicate];omega,fun j hj=>by omega,h2⟩,?_⟩
 rintro i w3 ⟨k,out,rfl,hk,hol,ho,h3⟩
 refine IfB.mk (fun hlt=> ?_) (fun hge=> ?_)
 ·have hlt:k<t.length+1:=by have:=of_decide_eq_true hlt;omega
  have hrk:=rkB_lt (t:=t) (i:=k) (by omega)
  refine Idx.nI (h3.tells (Tells.cons Tells.own)) rfl (by simp;omega) ?_
  rw [hrg k (by omega)]
  refine Idx.setI h3 rfl (by omega) fun w4 h4=>⟨⟨k+1,_,by rw [i64_id (by omega)];omega,by omega,by rw [List.length_set];exact hol,fun j hj=> ?_,h4⟩,by dsimp only;rw [i64_id (by omega)];omega⟩
  rw [getD_set (by omega)]
  by_cases e:j=k
  ·subst e;rw [if_pos rfl]
  ·rw [if_neg (fun e2=>e (rkB_inj (by omega) (by omega) e2))]
   exact ho j (by omega)
 ·have hge:k=t.length+1:=by have:=of_decide_eq_false hge;omega
  subst hge
  have:out=zl (ordB t):=by
   apply List.ext_getElem (by rw [hol,zl_len,ordB_len])
   intro r h1 h2
   have hr:r<(ordB t).length:=by rw [ordB_len];omega
   have hm:(ordB t)[r]≤t.length:=ordB_mem.1 (List.getElem_mem hr)
   have:=ho (ordB t)[r] (by omega)
   rw [rk_ordB hr] at this
   have e:out.getD r 0=out[r]:=by simp [List.getD,h1]
   rw [←e,this]
   simp [zl]
  rw [this] at h3
  exact hK s5 w3 h3.p1.drop
theorem filter_take_succ {l:List Nat} {k:Nat} (hk:k<l.length):((l.take (k+1)).filter fun i=>i !=0)=((l.take k).filter fun i=>i !=0)++if l[k]=0 then [] else [l[k]]:=by
 rw [List.take_add_one,List.getElem?_eq_getElem hk,List.filter_append]
 congr 1
 by_cases e:l[k]=0
 ·rw [if_pos e];simp [e]
 ·rw [if_neg e];simp [e]
set_option maxRecDepth 200000 in
theorem bwTurn_c {t:List Nat} {s:Sl} {K:Sl→Int→World→Prop} (h:Hp E w F) (hs:Tells F (SlT 1 s (t.map vB))) (hb: ∀x∈t,x<256) (hn:t.length≤400000)
  (hK: ∀s' w',Hp E w' (OwnS 1 s' ((lastB t).map vB)::F)→K s' (idxB t:Int) w'):Cl Tryz.prog [kS,kI] n_bwt_Turn ⟨[.slice s.base s.len s.cap]⟩ w K:=by
 refine bwt_Turn.ok _ _ _ ?_
 unfold bwt_Turn.E
 have hl:=(h.tells hs).1
 simp only [List.length_map,Nat.mul_one] at hl
 refine bwOrder_c h hs hb hn fun s3 w1 h1=> ?_
 have hl3:=h1.ownLen
 rw [List.length_map,zl_len,ordB_len,Nat.mul_one] at hl3
 refine ⟨fun o ix i w'=> ∃k:Nat,i=(k:Int)∧k≤t.length+1∧ix=(if idxB t<k then (idxB t:Int) else 0)∧Hp E w' (OwnS 1 o (((((ordB t).take k).filter fun i=>i !=0).map fun i=>t.getD (i - 1) 0).map vB)::OwnS 1 s3 ((zl (ordB t)).map vI)::F),
  fun _ _ i _=>t.length+1 - i.toNat,⟨0,rfl,by omega,rfl,h1.ownNil 1⟩,?_⟩
 rintro o ix i w2 ⟨k,rfl,hk,rfl,h2⟩
 refine IfB.mk (fun hlt=> ?_) (fun hge=> ?_)
 ·have hlt:k<t.length+1:=by have:=of_decide_eq_true hlt;omega
  have hko:k<(ordB t).length:=by rw [ordB_len];exact hlt
  have hix:=ordB_idx t hko
  have hle:(ordB t)[k]≤t.length:=ordB_mem.1 (List.getElem_mem hko)
  refine Idx.nI (h2.tells (Tells.cons Tells.own)) rfl (by rw [zl_len];exact hko) ?_
  have e0:(zl (ordB t)).getD k 0=((ordB t)[k]:Int):=by simp [zl,List.getD,hko]
  rw [e0]
  have hf:=filter_take_succ hko
  refine IfB.mk (fun hz=> ?_) (fun hz=> ?_)
  ·have hz:(ordB t)[k]=0:=by have:=beq_iff_eq.1 hz;omega
   rw [if_pos hz,List.append_nil] at hf
   have hke:=hix.1 hz
   refine ⟨⟨k+1,by rw [i64_id (by omega)];omega,by omega,by rw [if_pos (by omega)];omega,by rw [hf];exact h2⟩,by dsimp only;rw [i64_id (by omega)];omega⟩
  ·have hz:(ordB t)[k]≠0:=by have:=beq_eq_false_iff_ne.1 hz;omega
   rw [if_neg hz] at hf
   have hke:k≠idxB t:=fun e=>hz (hix.2 e)
   have e1:i64 (((ordB t)[k]:Int) - 1)=(((ordB t)[k] - 1:Nat):Int):=by rw [i64_id (by omega)];omega
   rw [e1]
   refine Idx.nB (h2.tells (Tells.cons (Tells.cons hs))) rfl (by omega) ?_
   refine app_b ty_bs rfl h2 (by rw [List.length_map,big_eq];exact Nat.le_trans (List.length_filter_le ..) (by rw [List.length_take];omega)) fun s' w3 h3 _=>⟨⟨k+1,by rw [i64_id (by omega)];omega,by omega,?_,?_⟩,by dsimp only;rw [i64_id (x:=(k:Int)+1) (by omega)];omega⟩
   ·by_cases e:idxB t<k
    ·rw [if_pos e,if_pos (by omega)]
    ·rw [if_neg e,if_neg (by omega)]
   ·rw [hf,List.map_append]
    exact h3
 ·have hge:k=t.length+1:=by have:=of_decide_eq_false hge;omega
  subst hge
  have hil:=idxB_le t
  rw [if_pos (by omega)]
  rw [List.take_of_length_le (by rw [ordB_len];exact Nat.le_refl _)] at h2
  exact hK o w2 h2.p1.drop
end
end Go.Proofs.YtcdpblipagajiaaGreat
namespace Go.Proofs.YtcdpblipagajiaaGreat
open Go Go.Vc
set_option maxRecDepth 100000 in
def header_PutBlock.E (n1:Int) (h2:(TT [.int .i64,.int .i64,.int .u32])) (R:Sl→Int→World→Prop) (w:World):Prop:=
 Nw 53 ⟨[(.int .i64 h2.1),(.int .i64 h2.2.1),(.int .u32 h2.2.2.1)]⟩ w fun (b4:Nat) (w_3:World)=>
 Ld kI ((⟨b4,0,none⟩:Addr).add 0) w_3 fun (M5:Int)=>
 Cl Tryz.prog [kS,kB] n_header_number ⟨[(.int .i64 M5),(.int .i64 n1)]⟩ w_3 fun (r7:Sl) (r8:Bool) (w_6:World)=>
 Ld kI ((⟨b4,0,none⟩:Addr).add 1) w_6 fun (P9:Int)=>
 Ld kI ((⟨b4,0,none⟩:Addr).add 0) w_6 fun (M10:Int)=>
 Cl Tryz.prog [kS,kB] n_header_number ⟨[(.int .i64 P9),(.int .i64 M10)]⟩ w_6 fun (r12:Sl) (r13:Bool) (w_11:World)=>
 Cl Tryz.prog [kB] n_header_within ⟨[(.int .i64 n1),(.int .i64 1),(.int .i64 65536)]⟩ w_11 fun (r15:Bool) (w_14:World)=>
 IfB (!r15)
 (R ((⟨none,0,0⟩:Sl)) (2) w_14)
 (IfB (!r8)
 (R ((⟨none,0,0⟩:Sl)) (2) w_14)
 (IfB (!r13)
 (R ((⟨none,0,0⟩:Sl)) (2) w_14)
 (Nw 5 ⟨[(.int .u8 1)]⟩ w_14 fun (b17:Nat) (w_16:World)=>
 Ld (kInt .u32) ((⟨b4,0,none⟩:Addr).add 2) w_16 fun (Sum18:Int)=>
 Cl Tryz.prog [kS] n_crc_Put ⟨[(.int .u32 Sum18)]⟩ w_16 fun (r20:Sl) (w_19:World)=>
 Nw 22 ⟨[(.slice (⟨some ⟨b17,0,none⟩,1,1⟩:Sl).base (⟨some ⟨b17,0,none⟩,1,1⟩:Sl).len (⟨some ⟨b17,0,none⟩,1,1⟩:Sl).cap),(.slice r7.base r7.len r7.cap),(.slice r12.base r12.len r12.cap),(.slice r20.base r20.len r20.cap)]⟩ w_19 fun (b22:Nat) (w_21:World)=>
 Cl Tryz.prog [kS] n_slices_Concat_byte_byte ⟨[(.slice (⟨some ⟨b22,0,none⟩,4,4⟩:Sl).base (⟨some ⟨b22,0,none⟩,4,4⟩:Sl).len (⟨some ⟨b22,0,none⟩,4,4⟩:Sl).cap)]⟩ w_21 fun (r24:Sl) (w_23:World)=>
 R (r24) (0) w_23)))
set_option maxRecDepth 100000 in
theorem header_PutBlock.ok (n1:Int) (h2:(TT [.int .i64,.int .i64,.int .u32])) (R:Sl→Int→World→Prop) (w:World) (h:header_PutBlock.E n1 h2 R w):Cl Tryz.prog [kS,kI] n_header_PutBlock ⟨[(.int .i64 n1),(.agg ⟨[(.int .i64 h2.1),(.int .i64 h2.2.1),(.int .u32 h2.2.2.1)]⟩)]⟩ w R:=
 calls_of_eq Tryz.mix Tryz.f42 [(.int .i64 n1),(.agg ⟨[(.int .i64 h2.1),(.int .i64 h2.2.1),(.int .u32 h2.2.2.1)]⟩)] [kS,kI] R 44 [.tmp 4,.tmp 5] (by kernel_rfl) (by kernel_rfl) (by kernel_rfl) (by kernel_rfl) (by kernel_rfl)
  (.s .o (.s .o (.s .o (.s (.s .o (.c (.s .o .o) .o)) (.s .o .o)))))
  (by kernel_rfl) h
set_option maxRecDepth 100000 in
def header_TakeMark.E (n1:Int) (b2:Sl) (R:(TT [.int .i64,.int .i64,.int .i64,.int .i64,.int .i64,.int .u32,.int .i64])→Sl→Int→World→Prop) (w:World):Prop:=
 Nw 74 ⟨[(.int .i64 0),(.int .i64 0),(.int .i64 0),(.int .i64 0),(.int .i64 0),(.int .u32 0),(.int .i64 0)]⟩ w fun (b4:Nat) (w_3:World)=>
 Cl Tryz.prog [kB] n_header_within ⟨[(.int .i64 n1),(.int .i64 1),(.int .i64 65536)]⟩ w_3 fun (r6:Bool) (w_5:World)=>
 IfB (!r6)
 (Ld (.st [.int .i64,.int .i64,.int .i64,.int .i64,.int .i64,.int .u32,.int .i64]) (⟨b4,0,none⟩:Addr) w_5 fun (x7:(TT [.int .i64,.int .i64,.int .i64,.int .i64,.int .i64,.int .u32,.int .i64]))=>
 StC (⟨b4,0,none⟩:Addr) [(.int .i64 x7.1),(.int .i64 x7.2.1),(.int .i64 x7.2.2.1),(.int .i64 x7.2.2.2.1),(.int .i64 x7.2.2.2.2.1),(.int .u32 x7.2.2.2.2.2.1),(.int .i64 x7.2.2.2.2.2.2.1)] 0 w_5 fun (w_8:World)=>
 Ld (.st [.int .i64,.int .i64,.int .i64,.int .i64,.int .i64,.int .u32,.int .i64]) (⟨b4,0,none⟩:Addr) w_8 fun (res9:(TT [.int .i64,.int .i64,.int .i64,.int .i64,.int .i64,.int .u32,.int .i64]))=>
 R (res9) ((⟨none,0,0⟩:Sl)) (2) w_8)
 (∃(I_10:Int→World→Prop) (m_11:Int→World→Nat),I_10 (0) w_5∧
 ∀(t18_12:Int),∀(w_13:World),I_10 t18_12 w_13→
 IfB (decide ((t18_12:Int)<((b2.len:Int):Int)))
 (Idx b2 t18_12 1 fun (q14:Addr)=>
 Ld (kInt .u8) q14 w_13 fun (x15:Int)=>
 Ld (.st [.int .i64,.int .i64,.int .i64,.int .i64,.int .i64,.int .u32,.int .i64]) (⟨b4,0,none⟩:Addr) w_13 fun (x16:(TT [.int .i64,.int .i64,.int .i64,.int .i64,.int .i64,.int .u32,.int .i64]))=>
 Cl Tryz.prog [(.st [.int .i64,.int .i64,.int .i64,.int .i64,.int .i64,.int .u32,.int .i64]),kB,kI] n_header_StepMark ⟨[(.int .i64 n1),(.agg ⟨[(.int .i64 x16.1),(.int .i64 x16.2.1),(.int .i64 x16.2.2.1),(.int .i64 x16.2.2.2.1),(.int .i64 x16.2.2.2.2.1),(.int .u32 x16.2.2.2.2.2.1),(.int .i64 x16.2.2.2.2.2.2.1)]⟩),(.int .u8 x15)]⟩ w_13 fun (r18:(TT [.int .i64,.int .i64,.int .i64,.int .i64,.int .i64,.int .u32,.int .i64])) (r19:Bool) (r20:Int) (w_17:World)=>
 Nw 74 ⟨[(.int .i64 0),(.int .i64 0),(.int .i64 0),(.int .i64 0),(.int .i64 0),(.int .u32 0),(.int .i64 0)]⟩ w_17 fun (b22:Nat) (w_21:World)=>
 StC (⟨b22,0,none⟩:Addr) [(.int .i64 r18.1),(.int .i64 r18.2.1),(.int .i64 r18.2.2.1),(.int .i64 r18.2.2.2.1),(.int .i64 r18.2.2.2.2.1),(.int .u32 r18.2.2.2.2.2.1),(.int .i64 r18.2.2.2.2.2.2.1)] 0 w_21 fun (w_23:World)=>
 IfB ((r20:Int) !=(0:Int))
 (StC (⟨b4,0,none⟩:Addr) [(.int .i64 0),(.int .i64 0),(.int .i64 0),(.int .i64 0),(.int .i64 0),(.int .u32 0),(.int .i64 0)] 0 w_23 fun (w_24:World)=>
 Ld (.st [.int .i64,.int .i64,.int .i64,.int .i64,.int .i64,.int .u32,.int .i64]) (⟨b4,0,none⟩:Addr) w_24 fun (res25:(TT [.int .i64,.int .i64,.int .i64,.int .i64,.int .i64,.int .u32,.int .i64]))=>
 R (res25) ((⟨none,0,0⟩:Sl)) (r20) w_24)
 (Ld (.st [.int .i64,.int .i64,.int .i64,.int .i64,.int .i64,.int .u32,.int .i64]) (⟨b22,0,none⟩:Addr) w_23 fun (x26:(TT [.int .i64,.int .i64,.int .i64,.int .i64,.int .i64,.int .u32,.int .i64]))=>
 StC (⟨b4,0,none⟩:Addr) [(.int .i64 x26.1),(.int .i64 x26.2.1),(.int .i64 x26.2.2.1),(.int .i64 x26.2.2.2.1),(.int .i64 x26.2.2.2.2.1),(.int .u32 x26.2.2.2.2.2.1),(.int .i64 x26.2.2.2.2.2.2.1)] 0 w_23 fun (w_27:World)=>
 IfB r19
 (Held w_27 fun (S28:World→Prop) (w_29:World)=>
 LdS (.st [.int .i64,.int .i64,.int .i64,.int .i64,.int .i64,.int .u32,.int .i64]) (⟨b4,0,none⟩:Addr) S28 fun (x30:(TT [.int .i64,.int .i64,.int .i64,.int .i64,.int .i64,.int .u32,.int .i64]))=>
 Slc b2 (i64 ((t18_12:Int)+(1:Int))) (b2).len (b2).cap 1 fun (s31:Sl)=>
 Cl Tryz.prog [kS] n_bytes_Clone ⟨[(.slice s31.base s31.len s31.cap)]⟩ w_29 fun (r33:Sl) (w_32:World)=>
 S28 w_32∧
 StC (⟨b4,0,none⟩:Addr) [(.int .i64 x30.1),(.int .i64 x30.2.1),(.int .i64 x30.2.2.1),(.int .i64 x30.2.2.2.1),(.int .i64 x30.2.2.2.2.1),(.int .u32 x30.2.2.2.2.2.1),(.int .i64 x30.2.2.2.2.2.2.1)] 0 w_32 fun (w_34:World)=>
 S28 w_34∧
 Ld (.st [.int .i64,.int .i64,.int .i64,.int .i64,.int .i64,.int .u32,.int .i64]) (⟨b4,0,none⟩:Addr) w_34 fun (res35:(TT [.int .i64,.int .i64,.int .i64,.int .i64,.int .i64,.int .u32,.int .i64]))=>
 R (res35) (r33) (0) w_34)
 (I_10 ((i64 ((t18_12:Int)+(1:Int)))) w_27∧m_11 ((i64 ((t18_12:Int)+(1:Int)))) w_27<m_11 t18_12 w_13)))
 (StC (⟨b4,0,none⟩:Addr) [(.int .i64 0),(.int .i64 0),(.int .i64 0),(.int .i64 0),(.int .i64 0),(.int .u32 0),(.int .i64 0)] 0 w_13 fun (w_36:World)=>
 Ld (.st [.int .i64,.int .i64,.int .i64,.int .i64,.int .i64,.int .u32,.int .i64]) (⟨b4,0,none⟩:Addr) w_36 fun (res37:(TT [.int .i64,.int .i64,.int .i64,.int .i64,.int .i64,.int .u32,.int .i64]))=>
 R (res37) ((⟨none,0,0⟩:Sl)) (50) w_36))
set_option maxRecDepth 100000 in
theorem header_TakeMark.ok (n1:Int) (b2:Sl) (R:(TT [.int .i64,.int .i64,.int .i64,.int .i64,.int .i64,.int .u32,.int .i64])→Sl→Int→World→Prop) (w:World) (h:header_TakeMark.E n1 b2 R w):Cl Tryz.prog [(.st [.int .i64,.int .i64,.int .i64,.int .i64,.int .i64,.int .u32,.int .i64]),kS,kI] n_header_TakeMark ⟨[(.int .i64 n1),(.slice b2.base b2.len b2.cap)]⟩ w R:=
 calls_of_eq Tryz.mix Tryz.f50 [(.int .i64 n1),(.slice b2.base b2.len b2.cap)] [(.st [.int .i64,.int .i64,.int .i64,.int .i64,.int .i64,.int .u32,.int .i64]),kS,kI] R 45 [.cell 4 74,.tmp 5,.tmp 6] (by kernel_rfl) (by kernel_rfl) (by kernel_rfl) (by kernel_rfl) (by kernel_rfl)
  (.s .o (.s (.s .o (.c (.s .o .o) .o)) (.s (.s .o (.b (.l [(18,kI)] (.s .o (.s (.c .o .o) (.s (.b (.s .o (.s .o (.s (.s .o (.c (.s .o .o) .o)) (.s .o (.s .o (.c (.s .o .o) .o))))))) .o)))))) (.s .o .o))))
  (by kernel_rfl) h
def header_number.E (n1:Int) (most2:Int) (R:Sl→Bool→World→Prop) (w:World):Prop:=
 Cl Tryz.prog [kS,kI] n_varint_Put ⟨[(.int .i64 n1)]⟩ w fun (r4:Sl) (r5:Int) (w_3:World)=>
 Cl Tryz.prog [kB] n_header_within ⟨[(.int .i64 n1),(.int .i64 1),(.int .i64 most2)]⟩ w_3 fun (r7:Bool) (w_6:World)=>
 R (r4) (r7) w_6
theorem header_number.ok (n1:Int) (most2:Int) (R:Sl→Bool→World→Prop) (w:World) (h:header_number.E n1 most2 R w):Cl Tryz.prog [kS,kB] n_header_number ⟨[(.int .i64 n1),(.int .i64 most2)]⟩ w R:=
 calls_of_eq Tryz.mix Tryz.f84 [(.int .i64 n1),(.int .i64 most2)] [kS,kB] R 17 [.tmp 4,.tmp 5] (by kernel_rfl) (by kernel_rfl) (by kernel_rfl) (by kernel_rfl) (by kernel_rfl)
  (.s .o (.s .o (.s .o .o)))
  (by kernel_rfl) h
def header_within.E (n1:Int) (low2:Int) (high3:Int) (R:Bool→World→Prop) (w:World):Prop:=
 IfB (decide ((n1:Int)≥(low2:Int)))
 (R ((decide ((n1:Int)≤(high3:Int)))) w)
 (R (false) w)
theorem header_within.ok (n1:Int) (low2:Int) (high3:Int) (R:Bool→World→Prop) (w:World) (h:header_within.E n1 low2 high3 R w):Cl Tryz.prog [kB] n_header_within ⟨[(.int .i64 n1),(.int .i64 low2),(.int .i64 high3)]⟩ w R:=
 calls_of_eq Tryz.mix Tryz.f85 [(.int .i64 n1),(.int .i64 low2),(.int .i64 high3)] [kB] R 15 [.tmp 6] (by kernel_rfl) (by kernel_rfl) (by kernel_rfl) (by kernel_rfl) (by kernel_rfl)
  (.s .o (.s .o .o))
  (by kernel_rfl) h
set_option maxRecDepth 100000 in
def header_StepMark.E (n1:Int) (s2:(TT [.int .i64,.int .i64,.int .i64,.int .i64,.int .i64,.int .u32,.int .i64])) (c3:Int) (R:(TT [.int .i64,.int .i64,.int .i64,.int .i64,.int .i64,.int .u32,.int .i64])→Bool→Int→World→Prop) (w:World):Prop:=
 Nw 74 ⟨[(.int .i64 s2.1),(.int .i64 s2.2.1),(.int .i64 s2.2.2.1),(.int .i64 s2.2.2.2.1),(.int .i64 s2.2.2.2.2.1),(.int .u32 s2.2.2.2.2.2.1),(.int .i64 s2.2.2.2.2.2.2.1)]⟩ w fun (b5:Nat) (w_4:World)=>
 Nw 74 ⟨[(.int .i64 0),(.int .i64 0),(.int .i64 0),(.int .i64 0),(.int .i64 0),(.int .u32 0),(.int .i64 0)]⟩ w_4 fun (b7:Nat) (w_6:World)=>
 Run Tryz.prog (Instr.makeMap 202 none) kM w_6 fun (m_9:Option Nat) (w_8:World)=>
 Run Tryz.prog (do Instr.mapUpdate 202 (.map m_9) (.int .i64 0) (.func (.func 149) ⟨[]⟩ ⟨[]⟩);pure undef) kV w_8 fun (_:Value) (w_10:World)=>
 Run Tryz.prog (do Instr.mapUpdate 202 (.map m_9) (.int .i64 1) (.func (.func 150) ⟨[]⟩ ⟨[]⟩);pure undef) kV w_10 fun (_:Value) (w_11:World)=>
 Run Tryz.prog (do Instr.mapUpdate 202 (.map m_9) (.int .i64 2) (.func (.func 151) ⟨[]⟩ ⟨[]⟩);pure undef) kV w_11 fun (_:Value) (w_12:World)=>
 Run Tryz.prog (do Instr.mapUpdate 202 (.map m_9) (.int .i64 3) (.func (.func 152) ⟨[]⟩ ⟨[]⟩);pure undef) kV w_12 fun (_:Value) (w_13:World)=>
 Run Tryz.prog (do Instr.mapUpdate 202 (.map m_9) (.int .i64 5) (.func (.func 152) ⟨[]⟩ ⟨[]⟩);pure undef) kV w_13 fun (_:Value) (w_14:World)=>
 Ld kI ((⟨b5,0,none⟩:Addr).add 0) w_14 fun (At15:Int)=>
 Run Tryz.prog (Instr.lookup 202 (.map m_9) (.int .i64 At15) false) kV w_14 fun (e17:Value) (w_16:World)=>
 FnNil e17 fun (isnil18:Bool)=>
 IfB isnil18
 (Ld (.st [.int .i64,.int .i64,.int .i64,.int .i64,.int .i64,.int .u32,.int .i64]) (⟨b7,0,none⟩:Addr) w_16 fun (x19:(TT [.int .i64,.int .i64,.int .i64,.int .i64,.int .i64,.int .u32,.int .i64]))=>
 StC (⟨b7,0,none⟩:Addr) [(.int .i64 x19.1),(.int .i64 x19.2.1),(.int .i64 x19.2.2.1),(.int .i64 x19.2.2.2.1),(.int .i64 x19.2.2.2.2.1),(.int .u32 x19.2.2.2.2.2.1),(.int .i64 x19.2.2.2.2.2.2.1)] 0 w_16 fun (w_20:World)=>
 Ld (.st [.int .i64,.int .i64,.int .i64,.int .i64,.int .i64,.int .u32,.int .i64]) (⟨b7,0,none⟩:Addr) w_20 fun (res21:(TT [.int .i64,.int .i64,.int .i64,.int .i64,.int .i64,.int .u32,.int .i64]))=>
 R (res21) (false) (2) w_20)
 (Ld (.st [.int .i64,.int .i64,.int .i64,.int .i64,.int .i64,.int .u32,.int .i64]) (⟨b5,0,none⟩:Addr) w_16 fun (x22:(TT [.int .i64,.int .i64,.int .i64,.int .i64,.int .i64,.int .u32,.int .i64]))=>
 Cl Tryz.prog [kB] n_header_ValidMark ⟨[(.int .i64 n1),(.agg ⟨[(.int .i64 x22.1),(.int .i64 x22.2.1),(.int .i64 x22.2.2.1),(.int .i64 x22.2.2.2.1),(.int .i64 x22.2.2.2.2.1),(.int .u32 x22.2.2.2.2.2.1),(.int .i64 x22.2.2.2.2.2.2.1)]⟩)]⟩ w_16 fun (r24:Bool) (w_23:World)=>
 IfB (!r24)
 (Ld (.st [.int .i64,.int .i64,.int .i64,.int .i64,.int .i64,.int .u32,.int .i64]) (⟨b7,0,none⟩:Addr) w_23 fun (x25:(TT [.int .i64,.int .i64,.int .i64,.int .i64,.int .i64,.int .u32,.int .i64]))=>
 StC (⟨b7,0,none⟩:Addr) [(.int .i64 x25.1),(.int .i64 x25.2.1),(.int .i64 x25.2.2.1),(.int .i64 x25.2.2.2.1),(.int .i64 x25.2.2.2.2.1),(.int .u32 x25.2.2.2.2.2.1),(.int .i64 x25.2.2.2.2.2.2.1)] 0 w_23 fun (w_26:World)=>
 Ld (.st [.int .i64,.int .i64,.int .i64,.int .i64,.int .i64,.int .u32,.int .i64]) (⟨b7,0,none⟩:Addr) w_26 fun (res27:(TT [.int .i64,.int .i64,.int .i64,.int .i64,.int .i64,.int .u32,.int .i64]))=>
 R (res27) (false) (2) w_26)
 (Ld (.st [.int .i64,.int .i64,.int .i64,.int .i64,.int .i64,.int .u32,.int .i64]) (⟨b5,0,none⟩:Addr) w_23 fun (x28:(TT [.int .i64,.int .i64,.int .i64,.int .i64,.int .i64,.int .u32,.int .i64]))=>
 ClX Tryz.prog e17 [(.st [.int .i64,.int .i64,.int .i64,.int .i64,.int .i64,.int .u32,.int .i64]),kB] [(.int .i64 n1),(.agg ⟨[(.int .i64 x28.1),(.int .i64 x28.2.1),(.int .i64 x28.2.2.1),(.int .i64 x28.2.2.2.1),(.int .i64 x28.2.2.2.2.1),(.int .u32 x28.2.2.2.2.2.1),(.int .i64 x28.2.2.2.2.2.2.1)]⟩),(.int .u8 c3)] w_23 fun (r30:(TT [.int .i64,.int .i64,.int .i64,.int .i64,.int .i64,.int .u32,.int .i64])) (r31:Bool) (w_29:World)=>
 StC (⟨b5,0,none⟩:Addr) [(.int .i64 r30.1),(.int .i64 r30.2.1),(.int .i64 r30.2.2.1),(.int .i64 r30.2.2.2.1),(.int .i64 r30.2.2.2.2.1),(.int .u32 r30.2.2.2.2.2.1),(.int .i64 r30.2.2.2.2.2.2.1)] 0 w_29 fun (w_32:World)=>
 IfB (!r31)
 (Ld (.st [.int .i64,.int .i64,.int .i64,.int .i64,.int .i64,.int .u32,.int .i64]) (⟨b7,0,none⟩:Addr) w_32 fun (x33:(TT [.int .i64,.int .i64,.int .i64,.int .i64,.int .i64,.int .u32,.int .i64]))=>
 StC (⟨b7,0,none⟩:Addr) [(.int .i64 x33.1),(.int .i64 x33.2.1),(.int .i64 x33.2.2.1),(.int .i64 x33.2.2.2.1),(.int .i64 x33.2.2.2.2.1),(.int .u32 x33.2.2.2.2.2.1),(.int .i64 x33.2.2.2.2.2.2.1)] 0 w_32 fun (w_34:World)=>
 Ld (.st [.int .i64,.int .i64,.int .i64,.int .i64,.int .i64,.int .u32,.int .i64]) (⟨b7,0,none⟩:Addr) w_34 fun (res35:(TT [.int .i64,.int .i64,.int .i64,.int .i64,.int .i64,.int .u32,.int .i64]))=>
 R (res35) (false) (242) w_34)
 (Held w_32 fun (S36:World→Prop) (w_37:World)=>
 LdS (.st [.int .i64,.int .i64,.int .i64,.int .i64,.int .i64,.int .u32,.int .i64]) (⟨b5,0,none⟩:Addr) S36 fun (x38:(TT [.int .i64,.int .i64,.int .i64,.int .i64,.int .i64,.int .u32,.int .i64]))=>
 LdS kI ((⟨b5,0,none⟩:Addr).add 0) S36 fun (At39:Int)=>
 IfB ((At39:Int)==(4:Int))
 (StC (⟨b7,0,none⟩:Addr) [(.int .i64 x38.1),(.int .i64 x38.2.1),(.int .i64 x38.2.2.1),(.int .i64 x38.2.2.2.1),(.int .i64 x38.2.2.2.2.1),(.int .u32 x38.2.2.2.2.2.1),(.int .i64 x38.2.2.2.2.2.2.1)] 0 w_37 fun (w_40:World)=>
 S36 w_40∧
 Ld (.st [.int .i64,.int .i64,.int .i64,.int .i64,.int .i64,.int .u32,.int .i64]) (⟨b7,0,none⟩:Addr) w_40 fun (res41:(TT [.int .i64,.int .i64,.int .i64,.int .i64,.int .i64,.int .u32,.int .i64]))=>
 R (res41) (true) (0) w_40)
 (LdS kI ((⟨b5,0,none⟩:Addr).add 0) S36 fun (At42:Int)=>
 StC (⟨b7,0,none⟩:Addr) [(.int .i64 x38.1),(.int .i64 x38.2.1),(.int .i64 x38.2.2.1),(.int .i64 x38.2.2.2.1),(.int .i64 x38.2.2.2.2.1),(.int .u32 x38.2.2.2.2.2.1),(.int .i64 x38.2.2.2.2.2.2.1)] 0 w_37 fun (w_43:World)=>
 S36 w_43∧
 Ld (.st [.int .i64,.int .i64,.int .i64,.int .i64,.int .i64,.int .u32,.int .i64]) (⟨b7,0,none⟩:Addr) w_43 fun (res44:(TT [.int .i64,.int .i64,.int .i64,.int .i64,.int .i64,.int .u32,.int .i64]))=>
 R (res44) (((At42:Int)==(6:Int))) (0) w_43))))
set_option maxRecDepth 100000 in
theorem header_StepMark.ok (n1:Int) (s2:(TT [.int .i64,.int .i64,.int .i64,.int .i64,.int .i64,.int .u32,.int .i64])) (c3:Int) (R:(TT [.int .i64,.int .i64,.int .i64,.int .i64,.int .i64,.int .u32,.int .i64])→Bool→Int→World→Prop) (w:World) (h:header_StepMark.E n1 s2 c3 R w):Cl Tryz.prog [(.st [.int .i64,.int .i64,.int .i64,.int .i64,.int .i64,.int .u32,.int .i64]),kB,kI] n_header_StepMark ⟨[(.int .i64 n1),(.agg ⟨[(.int .i64 s2.1),(.int .i64 s2.2.1),(.int .i64 s2.2.2.1),(.int .i64 s2.2.2.2.1),(.int .i64 s2.2.2.2.2.1),(.int .u32 s2.2.2.2.2.2.1),(.int .i64 s2.2.2.2.2.2.2.1)]⟩),(.int .u8 c3)]⟩ w R:=
 calls_of_eq Tryz.mix Tryz.f98 [(.int .i64 n1),(.agg ⟨[(.int .i64 s2.1),(.int .i64 s2.2.1),(.int .i64 s2.2.2.1),(.int .i64 s2.2.2.2.1),(.int .i64 s2.2.2.2.2.1),(.int .u32 s2.2.2.2.2.2.1),(.int .i64 s2.2.2.2.2.2.2.1)]⟩),(.int .u8 c3)] [(.st [.int .i64,.int .i64,.int .i64,.int .i64,.int .i64,.int .u32,.int .i64]),kB,kI] R 47 [.cell 6 74,.tmp 7,.tmp 8] (by kernel_rfl) (by kernel_rfl) (by kernel_rfl) (by kernel_rfl) (by kernel_rfl)
  (.s .o (.s .o (.s .o (.s (.s .o (.c (.s .o .o) .o)) (.s .o (.s (.s .o (.c (.s .o .o) .o)) (.s .o .o)))))))
  (by kernel_rfl) h
set_option maxRecDepth 100000 in
def header_mark.E (a1:Int) (s2:(TT [.int .i64,.int .i64,.int .i64,.int .i64,.int .i64,.int .u32,.int .i64])) (c3:Int) (R:(TT [.int .i64,.int .i64,.int .i64,.int .i64,.int .i64,.int .u32,.int .i64])→Bool→World→Prop) (w:World):Prop:=
 Nw 74 ⟨[(.int .i64 s2.1),(.int .i64 s2.2.1),(.int .i64 s2.2.2.1),(.int .i64 s2.2.2.2.1),(.int .i64 s2.2.2.2.2.1),(.int .u32 s2.2.2.2.2.2.1),(.int .i64 s2.2.2.2.2.2.2.1)]⟩ w fun (b5:Nat) (w_4:World)=>
 Nw 74 ⟨[(.int .i64 0),(.int .i64 0),(.int .i64 0),(.int .i64 0),(.int .i64 0),(.int .u32 0),(.int .i64 0)]⟩ w_4 fun (b7:Nat) (w_6:World)=>
 St ((⟨b5,0,none⟩:Addr).add 0) (.int .i64 1) w_6 fun (w_8:World)=>
 IfB ((c3:Int)==(0:Int))
 (St ((⟨b5,0,none⟩:Addr).add 0) (.int .i64 5) w_8 fun (w_9:World)=>
 Ld (.st [.int .i64,.int .i64,.int .i64,.int .i64,.int .i64,.int .u32,.int .i64]) (⟨b5,0,none⟩:Addr) w_9 fun (x10:(TT [.int .i64,.int .i64,.int .i64,.int .i64,.int .i64,.int .u32,.int .i64]))=>
 StC (⟨b7,0,none⟩:Addr) [(.int .i64 x10.1),(.int .i64 x10.2.1),(.int .i64 x10.2.2.1),(.int .i64 x10.2.2.2.1),(.int .i64 x10.2.2.2.2.1),(.int .u32 x10.2.2.2.2.2.1),(.int .i64 x10.2.2.2.2.2.2.1)] 0 w_9 fun (w_11:World)=>
 Ld (.st [.int .i64,.int .i64,.int .i64,.int .i64,.int .i64,.int .u32,.int .i64]) (⟨b7,0,none⟩:Addr) w_11 fun (res12:(TT [.int .i64,.int .i64,.int .i64,.int .i64,.int .i64,.int .u32,.int .i64]))=>
 R (res12) ((decide ((c3:Int)≤(1:Int)))) w_11)
 (Ld (.st [.int .i64,.int .i64,.int .i64,.int .i64,.int .i64,.int .u32,.int .i64]) (⟨b5,0,none⟩:Addr) w_8 fun (x13:(TT [.int .i64,.int .i64,.int .i64,.int .i64,.int .i64,.int .u32,.int .i64]))=>
 StC (⟨b7,0,none⟩:Addr) [(.int .i64 x13.1),(.int .i64 x13.2.1),(.int .i64 x13.2.2.1),(.int .i64 x13.2.2.2.1),(.int .i64 x13.2.2.2.2.1),(.int .u32 x13.2.2.2.2.2.1),(.int .i64 x13.2.2.2.2.2.2.1)] 0 w_8 fun (w_14:World)=>
 Ld (.st [.int .i64,.int .i64,.int .i64,.int .i64,.int .i64,.int .u32,.int .i64]) (⟨b7,0,none⟩:Addr) w_14 fun (res15:(TT [.int .i64,.int .i64,.int .i64,.int .i64,.int .i64,.int .u32,.int .i64]))=>
 R (res15) ((decide ((c3:Int)≤(1:Int)))) w_14)
set_option maxRecDepth 100000 in
theorem header_mark.ok (a1:Int) (s2:(TT [.int .i64,.int .i64,.int .i64,.int .i64,.int .i64,.int .u32,.int .i64])) (c3:Int) (R:(TT [.int .i64,.int .i64,.int .i64,.int .i64,.int .i64,.int .u32,.int .i64])→Bool→World→Prop) (w:World) (h:header_mark.E a1 s2 c3 R w):Cl Tryz.prog [(.st [.int .i64,.int .i64,.int .i64,.int .i64,.int .i64,.int .u32,.int .i64]),kB] n_header_mark ⟨[(.int .i64 a1),(.agg ⟨[(.int .i64 s2.1),(.int .i64 s2.2.1),(.int .i64 s2.2.2.1),(.int .i64 s2.2.2.2.1),(.int .i64 s2.2.2.2.2.1),(.int .u32 s2.2.2.2.2.2.1),(.int .i64 s2.2.2.2.2.2.2.1)]⟩),(.int .u8 c3)]⟩ w R:=
 calls_of_eq Tryz.mix Tryz.f149 [(.int .i64 a1),(.agg ⟨[(.int .i64 s2.1),(.int .i64 s2.2.1),(.int .i64 s2.2.2.1),(.int .i64 s2.2.2.2.1),(.int .i64 s2.2.2.2.2.1),(.int .u32 s2.2.2.2.2.2.1),(.int .i64 s2.2.2.2.2.2.2.1)]⟩),(.int .u8 c3)] [(.st [.int .i64,.int .i64,.int .i64,.int .i64,.int .i64,.int .u32,.int .i64]),kB] R 15 [.cell 6 74,.tmp 7] (by kernel_rfl) (by kernel_rfl) (by kernel_rfl) (by kernel_rfl) (by kernel_rfl)
  (.s .o (.s (.s .o (.s .o (.c .o .o))) (.s .o .o)))
  (by kernel_rfl) h
set_option maxRecDepth 100000 in
def header_many.E (n1:Int) (s2:(TT [.int .i64,.int .i64,.int .i64,.int .i64,.int .i64,.int .u32,.int .i64])) (c3:Int) (R:(TT [.int .i64,.int .i64,.int .i64,.int .i64,.int .i64,.int .u32,.int .i64])→Bool→World→Prop) (w:World):Prop:=
 Nw 74 ⟨[(.int .i64 s2.1),(.int .i64 s2.2.1),(.int .i64 s2.2.2.1),(.int .i64 s2.2.2.2.1),(.int .i64 s2.2.2.2.2.1),(.int .u32 s2.2.2.2.2.2.1),(.int .i64 s2.2.2.2.2.2.2.1)]⟩ w fun (b5:Nat) (w_4:World)=>
 Nw 74 ⟨[(.int .i64 0),(.int .i64 0),(.int .i64 0),(.int .i64 0),(.int .i64 0),(.int .u32 0),(.int .i64 0)]⟩ w_4 fun (b7:Nat) (w_6:World)=>
 Ld (.st [.int .i64,.int .i64]) ((⟨b5,0,none⟩:Addr).add 1) w_6 fun (Number8:(TT [.int .i64,.int .i64]))=>
 Cl Tryz.prog [(.st [.int .i64,.int .i64]),kB,kB] n_header_grow ⟨[(.agg ⟨[(.int .i64 Number8.1),(.int .i64 Number8.2.1)]⟩),(.int .u8 c3),(.int .i64 n1)]⟩ w_6 fun (r10:(TT [.int .i64,.int .i64])) (r11:Bool) (r12:Bool) (w_9:World)=>
 Nw 72 ⟨[(.int .i64 0),(.int .i64 0)]⟩ w_9 fun (b14:Nat) (w_13:World)=>
 StC (⟨b14,0,none⟩:Addr) [(.int .i64 r10.1),(.int .i64 r10.2.1)] 0 w_13 fun (w_15:World)=>
 Ld (.st [.int .i64,.int .i64]) (⟨b14,0,none⟩:Addr) w_15 fun (x16:(TT [.int .i64,.int .i64]))=>
 StC ((⟨b5,0,none⟩:Addr).add 1) [(.int .i64 x16.1),(.int .i64 x16.2.1)] 0 w_15 fun (w_17:World)=>
 IfB r11
 (Ld kI ((⟨b14,0,none⟩:Addr).add 0) w_17 fun (Value18:Int)=>
 StC (⟨b5,0,none⟩:Addr) [(.int .i64 2),(.int .i64 0),(.int .i64 0),(.int .i64 Value18),(.int .i64 0),(.int .u32 0),(.int .i64 0)] 0 w_17 fun (w_19:World)=>
 Ld (.st [.int .i64,.int .i64,.int .i64,.int .i64,.int .i64,.int .u32,.int .i64]) (⟨b5,0,none⟩:Addr) w_19 fun (x20:(TT [.int .i64,.int .i64,.int .i64,.int .i64,.int .i64,.int .u32,.int .i64]))=>
 StC (⟨b7,0,none⟩:Addr) [(.int .i64 x20.1),(.int .i64 x20.2.1),(.int .i64 x20.2.2.1),(.int .i64 x20.2.2.2.1),(.int .i64 x20.2.2.2.2.1),(.int .u32 x20.2.2.2.2.2.1),(.int .i64 x20.2.2.2.2.2.2.1)] 0 w_19 fun (w_21:World)=>
 Ld (.st [.int .i64,.int .i64,.int .i64,.int .i64,.int .i64,.int .u32,.int .i64]) (⟨b7,0,none⟩:Addr) w_21 fun (res22:(TT [.int .i64,.int .i64,.int .i64,.int .i64,.int .i64,.int .u32,.int .i64]))=>
 R (res22) (r12) w_21)
 (Ld (.st [.int .i64,.int .i64,.int .i64,.int .i64,.int .i64,.int .u32,.int .i64]) (⟨b5,0,none⟩:Addr) w_17 fun (x23:(TT [.int .i64,.int .i64,.int .i64,.int .i64,.int .i64,.int .u32,.int .i64]))=>
 StC (⟨b7,0,none⟩:Addr) [(.int .i64 x23.1),(.int .i64 x23.2.1),(.int .i64 x23.2.2.1),(.int .i64 x23.2.2.2.1),(.int .i64 x23.2.2.2.2.1),(.int .u32 x23.2.2.2.2.2.1),(.int .i64 x23.2.2.2.2.2.2.1)] 0 w_17 fun (w_24:World)=>
 Ld (.st [.int .i64,.int .i64,.int .i64,.int .i64,.int .i64,.int .u32,.int .i64]) (⟨b7,0,none⟩:Addr) w_24 fun (res25:(TT [.int .i64,.int .i64,.int .i64,.int .i64,.int .i64,.int .u32,.int .i64]))=>
 R (res25) (r12) w_24)
set_option maxRecDepth 100000 in
theorem header_many.ok (n1:Int) (s2:(TT [.int .i64,.int .i64,.int .i64,.int .i64,.int .i64,.int .u32,.int .i64])) (c3:Int) (R:(TT [.int .i64,.int .i64,.int .i64,.int .i64,.int .i64,.int .u32,.int .i64])→Bool→World→Prop) (w:World) (h:header_many.E n1 s2 c3 R w):Cl Tryz.prog [(.st [.int .i64,.int .i64,.int .i64,.int .i64,.int .i64,.int .u32,.int .i64]),kB] n_header_many ⟨[(.int .i64 n1),(.agg ⟨[(.int .i64 s2.1),(.int .i64 s2.2.1),(.int .i64 s2.2.2.1),(.int .i64 s2.2.2.2.1),(.int .i64 s2.2.2.2.2.1),(.int .u32 s2.2.2.2.2.2.1),(.int .i64 s2.2.2.2.2.2.2.1)]⟩),(.int .u8 c3)]⟩ w R:=
 calls_of_eq Tryz.mix Tryz.f150 [(.int .i64 n1),(.agg ⟨[(.int .i64 s2.1),(.int .i64 s2.2.1),(.int .i64 s2.2.2.1),(.int .i64 s2.2.2.2.1),(.int .i64 s2.2.2.2.2.1),(.int .u32 s2.2.2.2.2.2.1),(.int .i64 s2.2.2.2.2.2.2.1)]⟩),(.int .u8 c3)] [(.st [.int .i64,.int .i64,.int .i64,.int .i64,.int .i64,.int .u32,.int .i64]),kB] R 29 [.cell 6 74,.tmp 7] (by kernel_rfl) (by kernel_rfl) (by kernel_rfl) (by kernel_rfl) (by kernel_rfl)
  (.s .o (.s .o (.s (.s .o (.s .o (.c .o .o))) (.s .o .o))))
  (by kernel_rfl) h
set_option maxRecDepth 100000 in
def header_index.E (a1:Int) (s2:(TT [.int .i64,.int .i64,.int .i64,.int .i64,.int .i64,.int .u32,.int .i64])) (c3:Int) (R:(TT [.int .i64,.int .i64,.int .i64,.int .i64,.int .i64,.int .u32,.int .i64])→Bool→World→Prop) (w:World):Prop:=
 Nw 74 ⟨[(.int .i64 s2.1),(.int .i64 s2.2.1),(.int .i64 s2.2.2.1),(.int .i64 s2.2.2.2.1),(.int .i64 s2.2.2.2.2.1),(.int .u32 s2.2.2.2.2.2.1),(.int .i64 s2.2.2.2.2.2.2.1)]⟩ w fun (b5:Nat) (w_4:World)=>
 Nw 74 ⟨[(.int .i64 0),(.int .i64 0),(.int .i64 0),(.int .i64 0),(.int .i64 0),(.int .u32 0),(.int .i64 0)]⟩ w_4 fun (b7:Nat) (w_6:World)=>
 Ld (.st [.int .i64,.int .i64]) ((⟨b5,0,none⟩:Addr).add 1) w_6 fun (Number8:(TT [.int .i64,.int .i64]))=>
 Ld kI (((⟨b5,0,none⟩:Addr).add 3).add 0) w_6 fun (M9:Int)=>
 Cl Tryz.prog [(.st [.int .i64,.int .i64]),kB,kB] n_header_grow ⟨[(.agg ⟨[(.int .i64 Number8.1),(.int .i64 Number8.2.1)]⟩),(.int .u8 c3),(.int .i64 M9)]⟩ w_6 fun (r11:(TT [.int .i64,.int .i64])) (r12:Bool) (r13:Bool) (w_10:World)=>
 Nw 72 ⟨[(.int .i64 0),(.int .i64 0)]⟩ w_10 fun (b15:Nat) (w_14:World)=>
 StC (⟨b15,0,none⟩:Addr) [(.int .i64 r11.1),(.int .i64 r11.2.1)] 0 w_14 fun (w_16:World)=>
 Ld (.st [.int .i64,.int .i64]) (⟨b15,0,none⟩:Addr) w_16 fun (x17:(TT [.int .i64,.int .i64]))=>
 StC ((⟨b5,0,none⟩:Addr).add 1) [(.int .i64 x17.1),(.int .i64 x17.2.1)] 0 w_16 fun (w_18:World)=>
 IfB r12
 (Ld kI (((⟨b5,0,none⟩:Addr).add 3).add 0) w_18 fun (M19:Int)=>
 Ld kI ((⟨b15,0,none⟩:Addr).add 0) w_18 fun (Value20:Int)=>
 StC (⟨b5,0,none⟩:Addr) [(.int .i64 3),(.int .i64 0),(.int .i64 0),(.int .i64 M19),(.int .i64 Value20),(.int .u32 0),(.int .i64 0)] 0 w_18 fun (w_21:World)=>
 Ld (.st [.int .i64,.int .i64,.int .i64,.int .i64,.int .i64,.int .u32,.int .i64]) (⟨b5,0,none⟩:Addr) w_21 fun (x22:(TT [.int .i64,.int .i64,.int .i64,.int .i64,.int .i64,.int .u32,.int .i64]))=>
 StC (⟨b7,0,none⟩:Addr) [(.int .i64 x22.1),(.int .i64 x22.2.1),(.int .i64 x22.2.2.1),(.int .i64 x22.2.2.2.1),(.int .i64 x22.2.2.2.2.1),(.int .u32 x22.2.2.2.2.2.1),(.int .i64 x22.2.2.2.2.2.2.1)] 0 w_21 fun (w_23:World)=>
 Ld (.st [.int .i64,.int .i64,.int .i64,.int .i64,.int .i64,.int .u32,.int .i64]) (⟨b7,0,none⟩:Addr) w_23 fun (res24:(TT [.int .i64,.int .i64,.int .i64,.int .i64,.int .i64,.int .u32,.int .i64]))=>
 R (res24) (r13) w_23)
 (Ld (.st [.int .i64,.int .i64,.int .i64,.int .i64,.int .i64,.int .u32,.int .i64]) (⟨b5,0,none⟩:Addr) w_18 fun (x25:(TT [.int .i64,.int .i64,.int .i64,.int .i64,.int .i64,.int .u32,.int .i64]))=>
 StC (⟨b7,0,none⟩:Addr) [(.int .i64 x25.1),(.int .i64 x25.2.1),(.int .i64 x25.2.2.1),(.int .i64 x25.2.2.2.1),(.int .i64 x25.2.2.2.2.1),(.int .u32 x25.2.2.2.2.2.1),(.int .i64 x25.2.2.2.2.2.2.1)] 0 w_18 fun (w_26:World)=>
 Ld (.st [.int .i64,.int .i64,.int .i64,.int .i64,.int .i64,.int .u32,.int .i64]) (⟨b7,0,none⟩:Addr) w_26 fun (res27:(TT [.int .i64,.int .i64,.int .i64,.int .i64,.int .i64,.int .u32,.int .i64]))=>
 R (res27) (r13) w_26)
set_option maxRecDepth 100000 in
theorem header_index.ok (a1:Int) (s2:(TT [.int .i64,.int .i64,.int .i64,.int .i64,.int .i64,.int .u32,.int .i64])) (c3:Int) (R:(TT [.int .i64,.int .i64,.int .i64,.int .i64,.int .i64,.int .u32,.int .i64])→Bool→World→Prop) (w:World) (h:header_index.E a1 s2 c3 R w):Cl Tryz.prog [(.st [.int .i64,.int .i64,.int .i64,.int .i64,.int .i64,.int .u32,.int .i64]),kB] n_header_index ⟨[(.int .i64 a1),(.agg ⟨[(.int .i64 s2.1),(.int .i64 s2.2.1),(.int .i64 s2.2.2.1),(.int .i64 s2.2.2.2.1),(.int .i64 s2.2.2.2.2.1),(.int .u32 s2.2.2.2.2.2.1),(.int .i64 s2.2.2.2.2.2.2.1)]⟩),(.int .u8 c3)]⟩ w R:=
 calls_of_eq Tryz.mix Tryz.f151 [(.int .i64 a1),(.agg ⟨[(.int .i64 s2.1),(.int .i64 s2.2.1),(.int .i64 s2.2.2.1),(.int .i64 s2.2.2.2.1),(.int .i64 s2.2.2.2.2.1),(.int .u32 s2.2.2.2.2.2.1),(.int .i64 s2.2.2.2.2.2.2.1)]⟩),(.int .u8 c3)] [(.st [.int .i64,.int .i64,.int .i64,.int .i64,.int .i64,.int .u32,.int .i64]),kB] R 34 [.cell 6 74,.tmp 7] (by kernel_rfl) (by kernel_rfl) (by kernel_rfl) (by kernel_rfl) (by kernel_rfl)
  (.s .o (.s .o (.s (.s .o (.s .o (.c .o .o))) (.s .o .o))))
  (by kernel_rfl) h
set_option maxRecDepth 100000 in
def header_sum.E (a1:Int) (s2:(TT [.int .i64,.int .i64,.int .i64,.int .i64,.int .i64,.int .u32,.int .i64])) (c3:Int) (R:(TT [.int .i64,.int .i64,.int .i64,.int .i64,.int .i64,.int .u32,.int .i64])→Bool→World→Prop) (w:World):Prop:=
 Nw 74 ⟨[(.int .i64 s2.1),(.int .i64 s2.2.1),(.int .i64 s2.2.2.1),(.int .i64 s2.2.2.2.1),(.int .i64 s2.2.2.2.2.1),(.int .u32 s2.2.2.2.2.2.1),(.int .i64 s2.2.2.2.2.2.2.1)]⟩ w fun (b5:Nat) (w_4:World)=>
 Nw 74 ⟨[(.int .i64 0),(.int .i64 0),(.int .i64 0),(.int .i64 0),(.int .i64 0),(.int .u32 0),(.int .i64 0)]⟩ w_4 fun (b7:Nat) (w_6:World)=>
 Ld (kInt .u32) (((⟨b5,0,none⟩:Addr).add 3).add 2) w_6 fun (Sum8:Int)=>
 0≤(8:Int)∧
 St (((⟨b5,0,none⟩:Addr).add 3).add 2) (.int .u32 (ior .u32 ((ishl .u32 (Sum8:Int) (8:Int)):Int) ((u32 c3):Int))) w_6 fun (w_9:World)=>
 Ld kI ((⟨b5,0,none⟩:Addr).add 6) w_9 fun (Many10:Int)=>
 St ((⟨b5,0,none⟩:Addr).add 6) (.int .i64 (i64 ((Many10:Int)+(1:Int)))) w_9 fun (w_11:World)=>
 Ld kI ((⟨b5,0,none⟩:Addr).add 6) w_11 fun (Many12:Int)=>
 IfB ((Many12:Int)==(4:Int))
 (Ld kI ((⟨b5,0,none⟩:Addr).add 0) w_11 fun (At13:Int)=>
 St ((⟨b5,0,none⟩:Addr).add 0) (.int .i64 (i64 ((At13:Int)+(1:Int)))) w_11 fun (w_14:World)=>
 Ld (.st [.int .i64,.int .i64,.int .i64,.int .i64,.int .i64,.int .u32,.int .i64]) (⟨b5,0,none⟩:Addr) w_14 fun (x15:(TT [.int .i64,.int .i64,.int .i64,.int .i64,.int .i64,.int .u32,.int .i64]))=>
 StC (⟨b7,0,none⟩:Addr) [(.int .i64 x15.1),(.int .i64 x15.2.1),(.int .i64 x15.2.2.1),(.int .i64 x15.2.2.2.1),(.int .i64 x15.2.2.2.2.1),(.int .u32 x15.2.2.2.2.2.1),(.int .i64 x15.2.2.2.2.2.2.1)] 0 w_14 fun (w_16:World)=>
 Ld (.st [.int .i64,.int .i64,.int .i64,.int .i64,.int .i64,.int .u32,.int .i64]) (⟨b7,0,none⟩:Addr) w_16 fun (res17:(TT [.int .i64,.int .i64,.int .i64,.int .i64,.int .i64,.int .u32,.int .i64]))=>
 R (res17) (true) w_16)
 (Ld (.st [.int .i64,.int .i64,.int .i64,.int .i64,.int .i64,.int .u32,.int .i64]) (⟨b5,0,none⟩:Addr) w_11 fun (x18:(TT [.int .i64,.int .i64,.int .i64,.int .i64,.int .i64,.int .u32,.int .i64]))=>
 StC (⟨b7,0,none⟩:Addr) [(.int .i64 x18.1),(.int .i64 x18.2.1),(.int .i64 x18.2.2.1),(.int .i64 x18.2.2.2.1),(.int .i64 x18.2.2.2.2.1),(.int .u32 x18.2.2.2.2.2.1),(.int .i64 x18.2.2.2.2.2.2.1)] 0 w_11 fun (w_19:World)=>
 Ld (.st [.int .i64,.int .i64,.int .i64,.int .i64,.int .i64,.int .u32,.int .i64]) (⟨b7,0,none⟩:Addr) w_19 fun (res20:(TT [.int .i64,.int .i64,.int .i64,.int .i64,.int .i64,.int .u32,.int .i64]))=>
 R (res20) (true) w_19)
set_option maxRecDepth 100000 in
theorem header_sum.ok (a1:Int) (s2:(TT [.int .i64,.int .i64,.int .i64,.int .i64,.int .i64,.int .u32,.int .i64])) (c3:Int) (R:(TT [.int .i64,.int .i64,.int .i64,.int .i64,.int .i64,.int .u32,.int .i64])→Bool→World→Prop) (w:World) (h:header_sum.E a1 s2 c3 R w):Cl Tryz.prog [(.st [.int .i64,.int .i64,.int .i64,.int .i64,.int .i64,.int .u32,.int .i64]),kB] n_header_sum ⟨[(.int .i64 a1),(.agg ⟨[(.int .i64 s2.1),(.int .i64 s2.2.1),(.int .i64 s2.2.2.1),(.int .i64 s2.2.2.2.1),(.int .i64 s2.2.2.2.2.1),(.int .u32 s2.2.2.2.2.2.1),(.int .i64 s2.2.2.2.2.2.2.1)]⟩),(.int .u8 c3)]⟩ w R:=
 calls_of_eq Tryz.mix Tryz.f152 [(.int .i64 a1),(.agg ⟨[(.int .i64 s2.1),(.int .i64 s2.2.1),(.int .i64 s2.2.2.1),(.int .i64 s2.2.2.2.1),(.int .i64 s2.2.2.2.2.1),(.int .u32 s2.2.2.2.2.2.1),(.int .i64 s2.2.2.2.2.2.2.1)]⟩),(.int .u8 c3)] [(.st [.int .i64,.int .i64,.int .i64,.int .i64,.int .i64,.int .u32,.int .i64]),kB] R 29 [.cell 6 74,.tmp 7] (by kernel_rfl) (by kernel_rfl) (by kernel_rfl) (by kernel_rfl) (by kernel_rfl)
  (.s .o (.s .o (.s (.s .o (.s .o (.c .o .o))) (.s .o .o))))
  (by kernel_rfl) h
set_option maxRecDepth 100000 in
def header_ValidMark.E (n1:Int) (s2:(TT [.int .i64,.int .i64,.int .i64,.int .i64,.int .i64,.int .u32,.int .i64])) (R:Bool→World→Prop) (w:World):Prop:=
 Nw 74 ⟨[(.int .i64 s2.1),(.int .i64 s2.2.1),(.int .i64 s2.2.2.1),(.int .i64 s2.2.2.2.1),(.int .i64 s2.2.2.2.2.1),(.int .u32 s2.2.2.2.2.2.1),(.int .i64 s2.2.2.2.2.2.2.1)]⟩ w fun (b4:Nat) (w_3:World)=>
 Ld (.st [.int .i64,.int .i64,.int .u32]) ((⟨b4,0,none⟩:Addr).add 3) w_3 fun (Head5:(TT [.int .i64,.int .i64,.int .u32]))=>
 Nw 53 ⟨[(.int .i64 0),(.int .i64 0),(.int .u32 0)]⟩ w_3 fun (b7:Nat) (w_6:World)=>
 StC (⟨b7,0,none⟩:Addr) [(.int .i64 Head5.1),(.int .i64 Head5.2.1),(.int .u32 Head5.2.2.1)] 0 w_6 fun (w_8:World)=>
 Join (fun (block17:Bool) (w_18:World)=>
 Cl Tryz.prog [kB] n_header_within ⟨[(.int .i64 n1),(.int .i64 1),(.int .i64 65536)]⟩ w_18 fun (r20:Bool) (w_19:World)=>
 IfB (!r20)
 (R (false) w_19)
 (Ld kI ((⟨b4,0,none⟩:Addr).add 0) w_19 fun (At21:Int)=>
 IfB ((At21:Int)==(0:Int))
 (Ld (.st [.int .i64,.int .i64,.int .i64,.int .i64,.int .i64,.int .u32,.int .i64]) (⟨b4,0,none⟩:Addr) w_19 fun (x22:(TT [.int .i64,.int .i64,.int .i64,.int .i64,.int .i64,.int .u32,.int .i64]))=>
 R ((((x22.1:Int)==(0:Int))&&((((x22.2.1:Int)==(0:Int))&&((x22.2.2.1:Int)==(0:Int)))&&((((x22.2.2.2.1:Int)==(0:Int))&&(((x22.2.2.2.2.1:Int)==(0:Int))&&((x22.2.2.2.2.2.1:Int)==(0:Int))))&&((x22.2.2.2.2.2.2.1:Int)==(0:Int)))))) w_19)
 (IfB ((At21:Int)==(1:Int))
 (Ld (.st [.int .i64,.int .i64]) ((⟨b4,0,none⟩:Addr).add 1) w_19 fun (Number23:(TT [.int .i64,.int .i64]))=>
 Cl Tryz.prog [kB] n_header_comes ⟨[(.agg ⟨[(.int .i64 Number23.1),(.int .i64 Number23.2.1)]⟩),(.int .i64 n1)]⟩ w_19 fun (r25:Bool) (w_24:World)=>
 IfB r25
 (Ld (.st [.int .i64,.int .i64,.int .i64,.int .i64,.int .i64,.int .u32,.int .i64]) (⟨b4,0,none⟩:Addr) w_24 fun (x26:(TT [.int .i64,.int .i64,.int .i64,.int .i64,.int .i64,.int .u32,.int .i64]))=>
 Ld (.st [.int .i64,.int .i64]) ((⟨b4,0,none⟩:Addr).add 1) w_24 fun (Number27:(TT [.int .i64,.int .i64]))=>
 R ((((x26.1:Int)==(1:Int))&&((((x26.2.1:Int)==(Number27.1:Int))&&((x26.2.2.1:Int)==(Number27.2.1:Int)))&&((((x26.2.2.2.1:Int)==(0:Int))&&(((x26.2.2.2.2.1:Int)==(0:Int))&&((x26.2.2.2.2.2.1:Int)==(0:Int))))&&((x26.2.2.2.2.2.2.1:Int)==(0:Int)))))) w_24)
 (R (false) w_24))
 (IfB ((At21:Int)==(2:Int))
 (Ld kI ((⟨b7,0,none⟩:Addr).add 0) w_19 fun (M28:Int)=>
 Cl Tryz.prog [kB] n_header_within ⟨[(.int .i64 M28),(.int .i64 1),(.int .i64 n1)]⟩ w_19 fun (r30:Bool) (w_29:World)=>
 IfB r30
 (Ld (.st [.int .i64,.int .i64]) ((⟨b4,0,none⟩:Addr).add 1) w_29 fun (Number31:(TT [.int .i64,.int .i64]))=>
 Ld kI ((⟨b7,0,none⟩:Addr).add 0) w_29 fun (M32:Int)=>
 Cl Tryz.prog [kB] n_header_comes ⟨[(.agg ⟨[(.int .i64 Number31.1),(.int .i64 Number31.2.1)]⟩),(.int .i64 M32)]⟩ w_29 fun (r34:Bool) (w_33:World)=>
 IfB r34
 (Ld (.st [.int .i64,.int .i64,.int .i64,.int .i64,.int .i64,.int .u32,.int .i64]) (⟨b4,0,none⟩:Addr) w_33 fun (x35:(TT [.int .i64,.int .i64,.int .i64,.int .i64,.int .i64,.int .u32,.int .i64]))=>
 Ld (.st [.int .i64,.int .i64]) ((⟨b4,0,none⟩:Addr).add 1) w_33 fun (Number36:(TT [.int .i64,.int .i64]))=>
 Ld kI ((⟨b7,0,none⟩:Addr).add 0) w_33 fun (M37:Int)=>
 R ((((x35.1:Int)==(2:Int))&&((((x35.2.1:Int)==(Number36.1:Int))&&((x35.2.2.1:Int)==(Number36.2.1:Int)))&&((((x35.2.2.2.1:Int)==(M37:Int))&&(((x35.2.2.2.2.1:Int)==(0:Int))&&((x35.2.2.2.2.2.1:Int)==(0:Int))))&&((x35.2.2.2.2.2.2.1:Int)==(0:Int)))))) w_33)
 (R (false) w_33))
 (R (false) w_29))
 (IfB ((At21:Int)==(3:Int))
 (IfB block17
 (Ld (kInt .u32) ((⟨b7,0,none⟩:Addr).add 2) w_19 fun (Sum38:Int)=>
 Ld kI ((⟨b4,0,none⟩:Addr).add 6) w_19 fun (Many39:Int)=>
 Cl Tryz.prog [kB] n_header_sums ⟨[(.int .u32 Sum38),(.int .i64 Many39)]⟩ w_19 fun (r41:Bool) (w_40:World)=>
 IfB r41
 (Ld (.st [.int .i64,.int .i64]) ((⟨b4,0,none⟩:Addr).add 1) w_40 fun (Number42:(TT [.int .i64,.int .i64]))=>
 R ((((Number42.1:Int)==(0:Int))&&((Number42.2.1:Int)==(0:Int)))) w_40)
 (R (false) w_40))
 (R (false) w_19))
 (IfB ((At21:Int)==(4:Int))
 (IfB block17
 (Ld (.st [.int .i64,.int .i64,.int .i64,.int .i64,.int .i64,.int .u32,.int .i64]) (⟨b4,0,none⟩:Addr) w_19 fun (x43:(TT [.int .i64,.int .i64,.int .i64,.int .i64,.int .i64,.int .u32,.int .i64]))=>
 Ld (.st [.int .i64,.int .i64,.int .u32]) (⟨b7,0,none⟩:Addr) w_19 fun (x44:(TT [.int .i64,.int .i64,.int .u32]))=>
 R ((((x43.1:Int)==(4:Int))&&((((x43.2.1:Int)==(0:Int))&&((x43.2.2.1:Int)==(0:Int)))&&((((x43.2.2.2.1:Int)==(x44.1:Int))&&(((x43.2.2.2.2.1:Int)==(x44.2.1:Int))&&((x43.2.2.2.2.2.1:Int)==(x44.2.2.1:Int))))&&((x43.2.2.2.2.2.2.1:Int)==(4:Int)))))) w_19)
 (R (false) w_19))
 (IfB ((At21:Int)==(5:Int))
 (Ld (kInt .u32) ((⟨b7,0,none⟩:Addr).add 2) w_19 fun (Sum45:Int)=>
 Ld kI ((⟨b4,0,none⟩:Addr).add 6) w_19 fun (Many46:Int)=>
 Cl Tryz.prog [kB] n_header_sums ⟨[(.int .u32 Sum45),(.int .i64 Many46)]⟩ w_19 fun (r48:Bool) (w_47:World)=>
 IfB r48
 (Ld (.st [.int .i64,.int .i64,.int .i64,.int .i64,.int .i64,.int .u32,.int .i64]) (⟨b4,0,none⟩:Addr) w_47 fun (x49:(TT [.int .i64,.int .i64,.int .i64,.int .i64,.int .i64,.int .u32,.int .i64]))=>
 Ld (kInt .u32) ((⟨b7,0,none⟩:Addr).add 2) w_47 fun (Sum50:Int)=>
 Ld kI ((⟨b4,0,none⟩:Addr).add 6) w_47 fun (Many51:Int)=>
 R ((((x49.1:Int)==(5:Int))&&((((x49.2.1:Int)==(0:Int))&&((x49.2.2.1:Int)==(0:Int)))&&((((x49.2.2.2.1:Int)==(0:Int))&&(((x49.2.2.2.2.1:Int)==(0:Int))&&((x49.2.2.2.2.2.1:Int)==(Sum50:Int))))&&((x49.2.2.2.2.2.2.1:Int)==(Many51:Int)))))) w_47)
 (R (false) w_47))
 (IfB ((At21:Int)==(6:Int))
 (Ld (.st [.int .i64,.int .i64,.int .i64,.int .i64,.int .i64,.int .u32,.int .i64]) (⟨b4,0,none⟩:Addr) w_19 fun (x52:(TT [.int .i64,.int .i64,.int .i64,.int .i64,.int .i64,.int .u32,.int .i64]))=>
 Ld (kInt .u32) ((⟨b7,0,none⟩:Addr).add 2) w_19 fun (Sum53:Int)=>
 R ((((x52.1:Int)==(6:Int))&&((((x52.2.1:Int)==(0:Int))&&((x52.2.2.1:Int)==(0:Int)))&&((((x52.2.2.2.1:Int)==(0:Int))&&(((x52.2.2.2.2.1:Int)==(0:Int))&&((x52.2.2.2.2.2.1:Int)==(Sum53:Int))))&&((x52.2.2.2.2.2.2.1:Int)==(4:Int)))))) w_19)
 (R (false) w_19))))))))) fun (K_9:Bool→World→Prop)=>
 Ld kI ((⟨b7,0,none⟩:Addr).add 0) w_8 fun (M10:Int)=>
 Cl Tryz.prog [kB] n_header_within ⟨[(.int .i64 M10),(.int .i64 1),(.int .i64 n1)]⟩ w_8 fun (r12:Bool) (w_11:World)=>
 IfB r12
 (Ld kI ((⟨b7,0,none⟩:Addr).add 1) w_11 fun (P13:Int)=>
 Ld kI ((⟨b7,0,none⟩:Addr).add 0) w_11 fun (M14:Int)=>
 Cl Tryz.prog [kB] n_header_within ⟨[(.int .i64 P13),(.int .i64 1),(.int .i64 M14)]⟩ w_11 fun (r16:Bool) (w_15:World)=>
 K_9 (r16) w_15)
 (K_9 (false) w_11)
set_option maxRecDepth 100000 in
theorem header_ValidMark.ok (n1:Int) (s2:(TT [.int .i64,.int .i64,.int .i64,.int .i64,.int .i64,.int .u32,.int .i64])) (R:Bool→World→Prop) (w:World) (h:header_ValidMark.E n1 s2 R w):Cl Tryz.prog [kB] n_header_ValidMark ⟨[(.int .i64 n1),(.agg ⟨[(.int .i64 s2.1),(.int .i64 s2.2.1),(.int .i64 s2.2.2.1),(.int .i64 s2.2.2.2.1),(.int .i64 s2.2.2.2.2.1),(.int .u32 s2.2.2.2.2.2.1),(.int .i64 s2.2.2.2.2.2.2.1)]⟩)]⟩ w R:=
 calls_of_eq Tryz.mix Tryz.f153 [(.int .i64 n1),(.agg ⟨[(.int .i64 s2.1),(.int .i64 s2.2.1),(.int .i64 s2.2.2.1),(.int .i64 s2.2.2.2.1),(.int .i64 s2.2.2.2.2.1),(.int .u32 s2.2.2.2.2.2.1),(.int .i64 s2.2.2.2.2.2.2.1)]⟩)] [kB] R 116 [.tmp 4] (by kernel_rfl) (by kernel_rfl) (by kernel_rfl) (by kernel_rfl) (by kernel_rfl)
  (.s .o (.s .o (.j [(6,kB)] .o (.s (.s .o (.c (.s .o .o) .o)) (.s (.s .o (.b (.s .o (.c (.s .o .o) (.s .o (.c (.s .o .o) (.s .o (.c (.s .o .o) (.s .o (.c (.s .o .o) (.s .o (.c (.s .o .o) (.s .o (.c (.s .o .o) (.s .o (.c (.s .o .o) .o)))))))))))))))) (.s .o .o))))))
  (by kernel_rfl) h
set_option maxRecDepth 100000 in
def header_grow.E (v1:(TT [.int .i64,.int .i64])) (c2:Int) (most3:Int) (R:(TT [.int .i64,.int .i64])→Bool→Bool→World→Prop) (w:World):Prop:=
 Nw 72 ⟨[(.int .i64 v1.1),(.int .i64 v1.2.1)]⟩ w fun (b5:Nat) (w_4:World)=>
 Nw 72 ⟨[(.int .i64 0),(.int .i64 0)]⟩ w_4 fun (b7:Nat) (w_6:World)=>
 Ld (.st [.int .i64,.int .i64]) (⟨b5,0,none⟩:Addr) w_6 fun (x8:(TT [.int .i64,.int .i64]))=>
 Cl Tryz.prog [(.st [.int .i64,.int .i64]),kB,kI] n_varint_Step ⟨[(.agg ⟨[(.int .i64 x8.1),(.int .i64 x8.2.1)]⟩),(.int .u8 c2)]⟩ w_6 fun (r10:(TT [.int .i64,.int .i64])) (r11:Bool) (r12:Int) (w_9:World)=>
 StC (⟨b7,0,none⟩:Addr) [(.int .i64 r10.1),(.int .i64 r10.2.1)] 0 w_9 fun (w_13:World)=>
 Ld (.st [.int .i64,.int .i64]) (⟨b7,0,none⟩:Addr) w_13 fun (x14:(TT [.int .i64,.int .i64]))=>
 IfB ((r12:Int)==(0:Int))
 (Ld kI ((⟨b7,0,none⟩:Addr).add 0) w_13 fun (Value15:Int)=>
 IfB (decide ((Value15:Int)≤(most3:Int)))
 (IfB (!r11)
 (StC (⟨b7,0,none⟩:Addr) [(.int .i64 x14.1),(.int .i64 x14.2.1)] 0 w_13 fun (w_16:World)=>
 Ld (.st [.int .i64,.int .i64]) (⟨b7,0,none⟩:Addr) w_16 fun (res17:(TT [.int .i64,.int .i64]))=>
 R (res17) (r11) (true) w_16)
 (Ld kI ((⟨b7,0,none⟩:Addr).add 0) w_13 fun (Value18:Int)=>
 StC (⟨b7,0,none⟩:Addr) [(.int .i64 x14.1),(.int .i64 x14.2.1)] 0 w_13 fun (w_19:World)=>
 Ld (.st [.int .i64,.int .i64]) (⟨b7,0,none⟩:Addr) w_19 fun (res20:(TT [.int .i64,.int .i64]))=>
 R (res20) (r11) ((decide ((Value18:Int)>(0:Int)))) w_19))
 (StC (⟨b7,0,none⟩:Addr) [(.int .i64 x14.1),(.int .i64 x14.2.1)] 0 w_13 fun (w_21:World)=>
 Ld (.st [.int .i64,.int .i64]) (⟨b7,0,none⟩:Addr) w_21 fun (res22:(TT [.int .i64,.int .i64]))=>
 R (res22) (r11) (false) w_21))
 (StC (⟨b7,0,none⟩:Addr) [(.int .i64 x14.1),(.int .i64 x14.2.1)] 0 w_13 fun (w_23:World)=>
 Ld (.st [.int .i64,.int .i64]) (⟨b7,0,none⟩:Addr) w_23 fun (res24:(TT [.int .i64,.int .i64]))=>
 R (res24) (r11) (false) w_23)
set_option maxRecDepth 100000 in
theorem header_grow.ok (v1:(TT [.int .i64,.int .i64])) (c2:Int) (most3:Int) (R:(TT [.int .i64,.int .i64])→Bool→Bool→World→Prop) (w:World) (h:header_grow.E v1 c2 most3 R w):Cl Tryz.prog [(.st [.int .i64,.int .i64]),kB,kB] n_header_grow ⟨[(.agg ⟨[(.int .i64 v1.1),(.int .i64 v1.2.1)]⟩),(.int .u8 c2),(.int .i64 most3)]⟩ w R:=
 calls_of_eq Tryz.mix Tryz.f170 [(.agg ⟨[(.int .i64 v1.1),(.int .i64 v1.2.1)]⟩),(.int .u8 c2),(.int .i64 most3)] [(.st [.int .i64,.int .i64]),kB,kB] R 36 [.cell 6 72,.tmp 7,.tmp 8] (by kernel_rfl) (by kernel_rfl) (by kernel_rfl) (by kernel_rfl) (by kernel_rfl)
  (.s .o (.s .o (.s .o .o)))
  (by kernel_rfl) h
def header_comes.E (v1:(TT [.int .i64,.int .i64])) (most2:Int) (R:Bool→World→Prop) (w:World):Prop:=
 Nw 72 ⟨[(.int .i64 v1.1),(.int .i64 v1.2.1)]⟩ w fun (b4:Nat) (w_3:World)=>
 Ld (.st [.int .i64,.int .i64]) (⟨b4,0,none⟩:Addr) w_3 fun (x5:(TT [.int .i64,.int .i64]))=>
 Cl Tryz.prog [kB] n_varint_Valid ⟨[(.agg ⟨[(.int .i64 x5.1),(.int .i64 x5.2.1)]⟩)]⟩ w_3 fun (r7:Bool) (w_6:World)=>
 IfB r7
 (Ld kI ((⟨b4,0,none⟩:Addr).add 0) w_6 fun (Value8:Int)=>
 R ((decide ((Value8:Int)≤(most2:Int)))) w_6)
 (R (false) w_6)
theorem header_comes.ok (v1:(TT [.int .i64,.int .i64])) (most2:Int) (R:Bool→World→Prop) (w:World) (h:header_comes.E v1 most2 R w):Cl Tryz.prog [kB] n_header_comes ⟨[(.agg ⟨[(.int .i64 v1.1),(.int .i64 v1.2.1)]⟩),(.int .i64 most2)]⟩ w R:=
 calls_of_eq Tryz.mix Tryz.f190 [(.agg ⟨[(.int .i64 v1.1),(.int .i64 v1.2.1)]⟩),(.int .i64 most2)] [kB] R 13 [.tmp 4] (by kernel_rfl) (by kernel_rfl) (by kernel_rfl) (by kernel_rfl) (by kernel_rfl)
  (.s .o (.s .o .o))
  (by kernel_rfl) h
def header_sums.E (sum1:Int) (many2:Int) (R:Bool→World→Prop) (w:World):Prop:=
 Cl Tryz.prog [kB] n_header_within ⟨[(.int .i64 many2),(.int .i64 0),(.int .i64 3)]⟩ w fun (r4:Bool) (w_3:World)=>
 IfB r4
 (0≤((i64 ((8:Int)*(many2:Int))):Int)∧
 R ((((ishr .u64 ((u64 sum1):Int) ((i64 ((8:Int)*(many2:Int))):Int)):Int)==(0:Int))) w_3)
 (R (false) w_3)
theorem header_sums.ok (sum1:Int) (many2:Int) (R:Bool→World→Prop) (w:World) (h:header_sums.E sum1 many2 R w):Cl Tryz.prog [kB] n_header_sums ⟨[(.int .u32 sum1),(.int .i64 many2)]⟩ w R:=
 calls_of_eq Tryz.mix Tryz.f191 [(.int .u32 sum1),(.int .i64 many2)] [kB] R 15 [.tmp 4] (by kernel_rfl) (by kernel_rfl) (by kernel_rfl) (by kernel_rfl) (by kernel_rfl)
  (.s .o (.s .o .o))
  (by kernel_rfl) h
end Go.Proofs.YtcdpblipagajiaaGreat
namespace Go.Proofs.YtcdpblipagajiaaGreat
open Go Go.Vc
set_option maxRecDepth 100000 in
def varint_Put.E (n1:Int) (R:Sl→Int→World→Prop) (w:World):Prop:=
 IfB (decide ((n1:Int)<(0:Int)))
 (R ((⟨none,0,0⟩:Sl)) (2) w)
 (IfB (decide ((n1:Int)>(2147483647:Int)))
 (R ((⟨none,0,0⟩:Sl)) (2) w)
 (Nw 5 ⟨[(.int .u8 (u8 (iand .i64 (n1:Int) (127:Int))))]⟩ w fun (b3:Nat) (w_2:World)=>
 Run Tryz.prog (Builtin.append_ #[22,22] 22 ⟨[(.slice none 0 0),(.slice (⟨some ⟨b3,0,none⟩,1,1⟩:Sl).base (⟨some ⟨b3,0,none⟩,1,1⟩:Sl).len (⟨some ⟨b3,0,none⟩,1,1⟩:Sl).cap)]⟩) kS w_2 fun (s5:Sl) (w_4:World)=>
 0≤(7:Int)∧
 ∃(I_6:Int→Sl→World→Prop) (m_7:Int→Sl→World→Nat),I_6 ((ishr .i64 (n1:Int) (7:Int))) (s5) w_4∧
 ∀(n8:Int) (b9:Sl),∀(w_10:World),I_6 n8 b9 w_10→
 IfB (decide ((n8:Int)>(0:Int)))
 (Nw 5 ⟨[(.int .u8 (ior .u8 ((u8 (iand .i64 (n8:Int) (127:Int))):Int) (128:Int)))]⟩ w_10 fun (b12:Nat) (w_11:World)=>
 Run Tryz.prog (Builtin.append_ #[22,22] 22 ⟨[(.slice b9.base b9.len b9.cap),(.slice (⟨some ⟨b12,0,none⟩,1,1⟩:Sl).base (⟨some ⟨b12,0,none⟩,1,1⟩:Sl).len (⟨some ⟨b12,0,none⟩,1,1⟩:Sl).cap)]⟩) kS w_11 fun (s14:Sl) (w_13:World)=>
 0≤(7:Int)∧
 I_6 ((ishr .i64 (n8:Int) (7:Int))) (s14) w_13∧m_7 ((ishr .i64 (n8:Int) (7:Int))) (s14) w_13<m_7 n8 b9 w_10)
 (Cl Tryz.prog [] n_slices_Reverse_byte_byte ⟨[(.slice b9.base b9.len b9.cap)]⟩ w_10 fun (w_15:World)=>
 R (b9) (0) w_15)))
set_option maxRecDepth 100000 in
theorem varint_Put.ok (n1:Int) (R:Sl→Int→World→Prop) (w:World) (h:varint_Put.E n1 R w):Cl Tryz.prog [kS,kI] n_varint_Put ⟨[(.int .i64 n1)]⟩ w R:=
 calls_of_eq Tryz.mix Tryz.f130 [(.int .i64 n1)] [kS,kI] R 32 [.tmp 2,.tmp 3] (by kernel_rfl) (by kernel_rfl) (by kernel_rfl) (by kernel_rfl) (by kernel_rfl)
  (.s .o (.s (.s .o (.c (.s .o .o) .o)) (.s .o (.s (.s .o (.b (.l [(0,kI),(2,kS)] (.s (.s .o (.c .o .o)) (.s (.b .o) .o))))) (.s .o (.s .o .o))))))
  (by kernel_rfl) h
set_option maxRecDepth 100000 in
def varint_Step.E (v1:(TT [.int .i64,.int .i64])) (c2:Int) (R:(TT [.int .i64,.int .i64])→Bool→Int→World→Prop) (w:World):Prop:=
 Nw 72 ⟨[(.int .i64 v1.1),(.int .i64 v1.2.1)]⟩ w fun (b4:Nat) (w_3:World)=>
 Nw 72 ⟨[(.int .i64 0),(.int .i64 0)]⟩ w_3 fun (b6:Nat) (w_5:World)=>
 Ld kI ((⟨b4,0,none⟩:Addr).add 0) w_5 fun (Value7:Int)=>
 0≤(7:Int)∧
 Join (fun (w_33:World)=>
 Ld kI ((⟨b4,0,none⟩:Addr).add 1) w_33 fun (Many34:Int)=>
 StC (⟨b6,0,none⟩:Addr) [(.int .i64 (ior .i64 ((ishl .i64 (Value7:Int) (7:Int)):Int) ((i64 (iand .u8 (c2:Int) (127:Int))):Int))),(.int .i64 (i64 ((Many34:Int)+(1:Int))))] 0 w_33 fun (w_35:World)=>
 Ld (.st [.int .i64,.int .i64]) (⟨b6,0,none⟩:Addr) w_35 fun (res36:(TT [.int .i64,.int .i64]))=>
 R (res36) ((decide ((c2:Int)<(128:Int)))) (0) w_35) fun (K_8:World→Prop)=>
 Ld (.st [.int .i64,.int .i64]) (⟨b4,0,none⟩:Addr) w_5 fun (x9:(TT [.int .i64,.int .i64]))=>
 Cl Tryz.prog [kB] n_varint_Valid ⟨[(.agg ⟨[(.int .i64 x9.1),(.int .i64 x9.2.1)]⟩)]⟩ w_5 fun (r11:Bool) (w_10:World)=>
 IfB (!r11)
 (Ld (.st [.int .i64,.int .i64]) (⟨b6,0,none⟩:Addr) w_10 fun (x12:(TT [.int .i64,.int .i64]))=>
 StC (⟨b6,0,none⟩:Addr) [(.int .i64 x12.1),(.int .i64 x12.2.1)] 0 w_10 fun (w_13:World)=>
 Ld (.st [.int .i64,.int .i64]) (⟨b6,0,none⟩:Addr) w_13 fun (res14:(TT [.int .i64,.int .i64]))=>
 R (res14) (false) (2) w_13)
 (IfB ((c2:Int)==(128:Int))
 (Ld kI ((⟨b4,0,none⟩:Addr).add 1) w_10 fun (Many15:Int)=>
 IfB ((Many15:Int)==(0:Int))
 (Ld (.st [.int .i64,.int .i64]) (⟨b6,0,none⟩:Addr) w_10 fun (x16:(TT [.int .i64,.int .i64]))=>
 StC (⟨b6,0,none⟩:Addr) [(.int .i64 x16.1),(.int .i64 x16.2.1)] 0 w_10 fun (w_17:World)=>
 Ld (.st [.int .i64,.int .i64]) (⟨b6,0,none⟩:Addr) w_17 fun (res18:(TT [.int .i64,.int .i64]))=>
 R (res18) (false) (51) w_17)
 (IfB (decide (((ior .i64 ((ishl .i64 (Value7:Int) (7:Int)):Int) ((i64 (iand .u8 (c2:Int) (127:Int))):Int)):Int)>(2147483647:Int)))
 (Ld (.st [.int .i64,.int .i64]) (⟨b6,0,none⟩:Addr) w_10 fun (x19:(TT [.int .i64,.int .i64]))=>
 StC (⟨b6,0,none⟩:Addr) [(.int .i64 x19.1),(.int .i64 x19.2.1)] 0 w_10 fun (w_20:World)=>
 Ld (.st [.int .i64,.int .i64]) (⟨b6,0,none⟩:Addr) w_20 fun (res21:(TT [.int .i64,.int .i64]))=>
 R (res21) (false) (52) w_20)
 (Ld kI ((⟨b4,0,none⟩:Addr).add 1) w_10 fun (Many22:Int)=>
 IfB ((Many22:Int)==(4:Int))
 (IfB (decide ((c2:Int)≥(128:Int)))
 (Ld (.st [.int .i64,.int .i64]) (⟨b6,0,none⟩:Addr) w_10 fun (x23:(TT [.int .i64,.int .i64]))=>
 StC (⟨b6,0,none⟩:Addr) [(.int .i64 x23.1),(.int .i64 x23.2.1)] 0 w_10 fun (w_24:World)=>
 Ld (.st [.int .i64,.int .i64]) (⟨b6,0,none⟩:Addr) w_24 fun (res25:(TT [.int .i64,.int .i64]))=>
 R (res25) (false) (52) w_24)
 (K_8 w_10))
 (K_8 w_10))))
 (IfB (decide (((ior .i64 ((ishl .i64 (Value7:Int) (7:Int)):Int) ((i64 (iand .u8 (c2:Int) (127:Int))):Int)):Int)>(2147483647:Int)))
 (Ld (.st [.int .i64,.int .i64]) (⟨b6,0,none⟩:Addr) w_10 fun (x26:(TT [.int .i64,.int .i64]))=>
 StC (⟨b6,0,none⟩:Addr) [(.int .i64 x26.1),(.int .i64 x26.2.1)] 0 w_10 fun (w_27:World)=>
 Ld (.st [.int .i64,.int .i64]) (⟨b6,0,none⟩:Addr) w_27 fun (res28:(TT [.int .i64,.int .i64]))=>
 R (res28) (false) (52) w_27)
 (Ld kI ((⟨b4,0,none⟩:Addr).add 1) w_10 fun (Many29:Int)=>
 IfB ((Many29:Int)==(4:Int))
 (IfB (decide ((c2:Int)≥(128:Int)))
 (Ld (.st [.int .i64,.int .i64]) (⟨b6,0,none⟩:Addr) w_10 fun (x30:(TT [.int .i64,.int .i64]))=>
 StC (⟨b6,0,none⟩:Addr) [(.int .i64 x30.1),(.int .i64 x30.2.1)] 0 w_10 fun (w_31:World)=>
 Ld (.st [.int .i64,.int .i64]) (⟨b6,0,none⟩:Addr) w_31 fun (res32:(TT [.int .i64,.int .i64]))=>
 R (res32) (false) (52) w_31)
 (K_8 w_10))
 (K_8 w_10))))
set_option maxRecDepth 100000 in
theorem varint_Step.ok (v1:(TT [.int .i64,.int .i64])) (c2:Int) (R:(TT [.int .i64,.int .i64])→Bool→Int→World→Prop) (w:World) (h:varint_Step.E v1 c2 R w):Cl Tryz.prog [(.st [.int .i64,.int .i64]),kB,kI] n_varint_Step ⟨[(.agg ⟨[(.int .i64 v1.1),(.int .i64 v1.2.1)]⟩),(.int .u8 c2)]⟩ w R:=
 calls_of_eq Tryz.mix Tryz.f196 [(.agg ⟨[(.int .i64 v1.1),(.int .i64 v1.2.1)]⟩),(.int .u8 c2)] [(.st [.int .i64,.int .i64]),kB,kI] R 49 [.cell 4 72,.tmp 5,.tmp 6] (by kernel_rfl) (by kernel_rfl) (by kernel_rfl) (by kernel_rfl) (by kernel_rfl)
  (.s .o (.s .o (.j [] (.b (.s .o (.c (.s .o .o) (.s .o (.c (.s .o .o) (.s .o (.c (.s .o .o) .o))))))) (.s .o .o))))
  (by kernel_rfl) h
set_option maxRecDepth 100000 in
def varint_Valid.E (v1:(TT [.int .i64,.int .i64])) (R:Bool→World→Prop) (w:World):Prop:=
 Nw 72 ⟨[(.int .i64 v1.1),(.int .i64 v1.2.1)]⟩ w fun (b3:Nat) (w_2:World)=>
 Ld kI ((⟨b3,0,none⟩:Addr).add 1) w_2 fun (Many4:Int)=>
 IfB (decide ((Many4:Int)<(1:Int)))
 (Ld (.st [.int .i64,.int .i64]) (⟨b3,0,none⟩:Addr) w_2 fun (x5:(TT [.int .i64,.int .i64]))=>
 R ((((x5.1:Int)==(0:Int))&&((x5.2.1:Int)==(0:Int)))) w_2)
 (Ld kI ((⟨b3,0,none⟩:Addr).add 1) w_2 fun (Many6:Int)=>
 IfB (decide ((Many6:Int)>(4:Int)))
 (Ld (.st [.int .i64,.int .i64]) (⟨b3,0,none⟩:Addr) w_2 fun (x7:(TT [.int .i64,.int .i64]))=>
 R ((((x7.1:Int)==(0:Int))&&((x7.2.1:Int)==(0:Int)))) w_2)
 (Drw w_2 fun (w_8:World)=>
 Ld kI ((⟨b3,0,none⟩:Addr).add 0) w_8 fun (Value9:Int)=>
 Ld kI ((⟨b3,0,none⟩:Addr).add 1) w_8 fun (Many10:Int)=>
 0≤((i64 ((7:Int)*((i64 ((Many10:Int) - (1:Int))):Int))):Int)∧
 IfB (decide ((Value9:Int)≥((ishl .i64 (1:Int) ((i64 ((7:Int)*((i64 ((Many10:Int) - (1:Int))):Int))):Int)):Int)))
 (Ld kI ((⟨b3,0,none⟩:Addr).add 0) w_8 fun (Value11:Int)=>
 Ld kI ((⟨b3,0,none⟩:Addr).add 1) w_8 fun (Many12:Int)=>
 0≤((i64 ((7:Int)*(Many12:Int))):Int)∧
 R ((decide ((Value11:Int)<((ishl .i64 (1:Int) ((i64 ((7:Int)*(Many12:Int))):Int)):Int)))) w_8)
 (R (false) w_8)))
set_option maxRecDepth 100000 in
theorem varint_Valid.ok (v1:(TT [.int .i64,.int .i64])) (R:Bool→World→Prop) (w:World) (h:varint_Valid.E v1 R w):Cl Tryz.prog [kB] n_varint_Valid ⟨[(.agg ⟨[(.int .i64 v1.1),(.int .i64 v1.2.1)]⟩)]⟩ w R:=
 calls_of_eq Tryz.mix Tryz.f206 [(.agg ⟨[(.int .i64 v1.1),(.int .i64 v1.2.1)]⟩)] [kB] R 31 [.tmp 2] (by kernel_rfl) (by kernel_rfl) (by kernel_rfl) (by kernel_rfl) (by kernel_rfl)
  (.s .o (.s (.s .o (.c (.s .o .o) .o)) (.s .o .o)))
  (by kernel_rfl) h
end Go.Proofs.YtcdpblipagajiaaGreat
set_option maxRecDepth 20000
namespace Go.Srt
def vm (v:Nat):Nat:=if v=0 then 0 else if v<128 then 1 else if v<16384 then 2 else if v<2097152 then 3 else 4
theorem vm_next {v c:Nat} (hv:v≤65536) (hc:128≤c) (hc2:c<256) (h0: ¬(v=0∧c=128)):vm v+1=vm (128*v+c % 128):=by
 unfold vm
 repeat' split
 all_goals omega
theorem vm_cases {v:Nat} (hv:v≤65536):(v=0∧vm v=0)∨(1≤v∧v<128∧vm v=1)∨(128≤v∧v<16384∧vm v=2)∨(16384≤v∧v<2097152∧vm v=3):=by
 unfold vm
 repeat' split
 all_goals omega
theorem vm_le {v:Nat} (hv:v≤65536):vm v≤3∧(vm v=0↔v=0):=by
 have:=vm_cases hv
 omega
end Go.Srt
namespace Go.Vc
theorem or128 {v c:Nat} (hv:v≤65536) (hc:c<256):ior .i64 (ishl .i64 (v:Int) 7) (i64 (iand .u8 (c:Int) 127))=((128*v+c % 128:Nat):Int):=by
 have hmx:IntKind.max .i64=9223372036854775807:=rfl
 have hm8:IntKind.max .u8=255:=rfl
 have e1:ishl .i64 (v:Int) 7=((v*128:Nat):Int):=by
  have:=ishl_nat (k:= .i64) (a:=v) (b:=7) (by decide) (by rw [hmx];omega)
  simpa using this
 have e2:iand .u8 (c:Int) 127=((c % 128:Nat):Int):=by
  have:=iand_nat (k:= .u8) (a:=c) (b:=127) (by rw [hm8];omega) (by rw [hm8];omega)
  rw [show c&&&127=c % 128 from Nat.and_two_pow_sub_one_eq_mod c 7] at this
  simpa using this
 have e3:v*128|||c % 128=128*v+c % 128:=by
  rw [Nat.mul_comm v 128]
  exact (Nat.two_pow_add_eq_or_of_lt (i:=7) (by omega) v).symm
 rw [e1,e2,i64_id (by omega),ior_nat (by rw [hmx];omega) (by rw [hmx];omega) (by rw [e3,hmx];omega),e3]
end Go.Vc
namespace Go.Proofs.YtcdpblipagajiaaGreat
open Go Go.Vc Go.Srt
section
variable {E w:World} {F:List HP}
theorem vvalid_c {v:Nat} {K:Bool→World→Prop} (h:Hp E w F) (hv:v≤65536) (hK: ∀w',Hp E w' F→K true w'):
  Cl Tryz.prog [kB] n_varint_Valid ⟨[.agg ⟨[.int .i64 (v:Int),.int .i64 (vm v:Int)]⟩]⟩ w K:=by
 refine varint_Valid.ok ((v:Int),(vm v:Int),()) _ _ ?_
 unfold varint_Valid.E
 (try simp only [Join_eq,NilCk_some,add_mk,Nat.zero_add,Nat.add_zero,Nat.reduceAdd,Bool.not_true,Bool.not_false,IfB_t,IfB_f,Option.isNone])
 (with_reducible repeat first|refine Nw.mk h fun b w h=> ?_|refine Drw.mk h fun w h=> ?_|refine Ld.xb h rfl ?_|refine Ld.xt h rfl ?_|refine LdS.xb (fun _ h=>h) rfl ?_|refine LdS.xt (fun _ h=>h) rfl ?_|refine ⟨h.hb,?_⟩|refine StC.xw h rfl rfl fun w h=> ?_|(refine StC.xs h rfl rfl fun w h=> ?_;dsimp only [spl,over] at h)|(refine St.xs h rfl rfl fun w h=> ?_;dsimp only [spl,over] at h)|refine IfB.yes ?_|refine IfB.no ?_|refine ⟨by first|omega|decide,?_⟩)
 rcases vm_cases hv with ⟨h1,h2⟩|⟨h0,h1,h2⟩|⟨h0,h1,h2⟩|⟨h0,h1,h2⟩
 all_goals rw [h2] at h⊢
 ·subst h1
  (with_reducible repeat first|refine Nw.mk h fun b w h=> ?_|refine Drw.mk h fun w h=> ?_|refine Ld.xb h rfl ?_|refine Ld.xt h rfl ?_|refine LdS.xb (fun _ h=>h) rfl ?_|refine LdS.xt (fun _ h=>h) rfl ?_|refine ⟨h.hb,?_⟩|refine StC.xw h rfl rfl fun w h=> ?_|(refine StC.xs h rfl rfl fun w h=> ?_;dsimp only [spl,over] at h)|(refine St.xs h rfl rfl fun w h=> ?_;dsimp only [spl,over] at h)|refine IfB.yes ?_|refine IfB.no ?_|refine ⟨by first|omega|decide,?_⟩)
  exact hK _ h.tl
 all_goals
  (with_reducible repeat first|refine Nw.mk h fun b w h=> ?_|refine Drw.mk h fun w h=> ?_|refine Ld.xb h rfl ?_|refine Ld.xt h rfl ?_|refine LdS.xb (fun _ h=>h) rfl ?_|refine LdS.xt (fun _ h=>h) rfl ?_|refine ⟨h.hb,?_⟩|refine StC.xw h rfl rfl fun w h=> ?_|(refine StC.xs h rfl rfl fun w h=> ?_;dsimp only [spl,over] at h)|(refine St.xs h rfl rfl fun w h=> ?_;dsimp only [spl,over] at h)|refine IfB.yes ?_|refine IfB.no ?_|refine ⟨by first|omega|decide,?_⟩)
  refine IfB.dt ?_ ?_
  ·first
   |rw [show ishl .i64 1 (i64 (7*i64 (((1:Nat):Int) - 1)))=1 by decide];omega
   |rw [show ishl .i64 1 (i64 (7*i64 (((2:Nat):Int) - 1)))=128 by decide];omega
   |rw [show ishl .i64 1 (i64 (7*i64 (((3:Nat):Int) - 1)))=16384 by decide];omega
  (with_reducible repeat first|refine Nw.mk h fun b w h=> ?_|refine Drw.mk h fun w h=> ?_|refine Ld.xb h rfl ?_|refine Ld.xt h rfl ?_|refine LdS.xb (fun _ h=>h) rfl ?_|refine LdS.xt (fun _ h=>h) rfl ?_|refine ⟨h.hb,?_⟩|refine StC.xw h rfl rfl fun w h=> ?_|(refine StC.xs h rfl rfl fun w h=> ?_;dsimp only [spl,over] at h)|(refine St.xs h rfl rfl fun w h=> ?_;dsimp only [spl,over] at h)|refine IfB.yes ?_|refine IfB.no ?_|refine ⟨by first|omega|decide,?_⟩)
  refine as1 ?_ (hK _ h.tl)
  refine decide_eq_true ?_
  first
   |rw [show ishl .i64 1 (i64 (7*((1:Nat):Int)))=128 by decide];omega
   |rw [show ishl .i64 1 (i64 (7*((2:Nat):Int)))=16384 by decide];omega
   |rw [show ishl .i64 1 (i64 (7*((3:Nat):Int)))=2097152 by decide];omega
theorem vstep_c {v c:Nat} {K:Int×Int×Unit→Bool→Int→World→Prop} (h:Hp E w F) (hv:v≤65536) (hc:c<256)
  (hbad:v=0∧c=128→∀w',Hp E w' F→K (0,0,()) false 51 w')
  (hK: ¬(v=0∧c=128)→∀w',Hp E w' F→K (((128*v+c % 128:Nat):Int),((vm v+1:Nat):Int),()) (decide (c<128)) 0 w'):
  Cl Tryz.prog [.st [.int .i64,.int .i64],kB,kI] n_varint_Step ⟨[.agg ⟨[.int .i64 (v:Int),.int .i64 (vm v:Int)]⟩,.int .u8 (c:Int)]⟩ w K:=by
 refine varint_Step.ok ((v:Int),(vm v:Int),()) _ _ _ ?_
 unfold varint_Step.E
 (try simp only [Join_eq,NilCk_some,add_mk,Nat.zero_add,Nat.add_zero,Nat.reduceAdd,Bool.not_true,Bool.not_false,IfB_t,IfB_f,Option.isNone])
 (with_reducible repeat first|refine Nw.mk h fun b w h=> ?_|refine Drw.mk h fun w h=> ?_|refine Ld.xb h rfl ?_|refine Ld.xt h rfl ?_|refine LdS.xb (fun _ h=>h) rfl ?_|refine LdS.xt (fun _ h=>h) rfl ?_|refine ⟨h.hb,?_⟩|refine StC.xw h rfl rfl fun w h=> ?_|(refine StC.xs h rfl rfl fun w h=> ?_;dsimp only [spl,over] at h)|(refine St.xs h rfl rfl fun w h=> ?_;dsimp only [spl,over] at h)|refine IfB.yes ?_|refine IfB.no ?_|refine ⟨by first|omega|decide,?_⟩)
 refine vvalid_c h hv fun w h=> ?_
 (try simp only [Join_eq,NilCk_some,add_mk,Nat.zero_add,Nat.add_zero,Nat.reduceAdd,Bool.not_true,Bool.not_false,IfB_t,IfB_f,Option.isNone])
 rw [or128 hv hc]
 have hvm:=vm_le hv
 have fin: ∀w,¬(v=0∧c=128)→Hp E w F→K (((128*v+c % 128:Nat):Int),i64 ((vm v:Int)+1),()) (decide ((c:Int)<128)) 0 w:=fun w hn h=>by
  have:=hK hn w h
  rw [i64_id (by omega)]
  rw [show ((vm v+1:Nat):Int)=(vm v:Int)+1 from rfl] at this
  rwa [show decide ((c:Int)<128)=decide (c<128) from decide_eq_decide.2 (by omega)]
 (first|refine IfB.dm (fun hb=> ?_) (fun hb=> ?_)|refine IfB.em (fun hb=> ?_) (fun hb=> ?_)|refine IfB.nm (fun hb=> ?_) (fun hb=> ?_)|refine IfB.mk (fun hb=> ?_) (fun hb=> ?_))
 ·(with_reducible repeat first|refine Nw.mk h fun b w h=> ?_|refine Drw.mk h fun w h=> ?_|refine Ld.xb h rfl ?_|refine Ld.xt h rfl ?_|refine LdS.xb (fun _ h=>h) rfl ?_|refine LdS.xt (fun _ h=>h) rfl ?_|refine ⟨h.hb,?_⟩|refine StC.xw h rfl rfl fun w h=> ?_|(refine StC.xs h rfl rfl fun w h=> ?_;dsimp only [spl,over] at h)|(refine St.xs h rfl rfl fun w h=> ?_;dsimp only [spl,over] at h)|refine IfB.yes ?_|refine IfB.no ?_|refine ⟨by first|omega|decide,?_⟩)
  (first|refine IfB.dm (fun hb=> ?_) (fun hb=> ?_)|refine IfB.em (fun hb=> ?_) (fun hb=> ?_)|refine IfB.nm (fun hb=> ?_) (fun hb=> ?_)|refine IfB.mk (fun hb=> ?_) (fun hb=> ?_))
  ·(with_reducible repeat first|refine Nw.mk h fun b w h=> ?_|refine Drw.mk h fun w h=> ?_|refine Ld.xb h rfl ?_|refine Ld.xt h rfl ?_|refine LdS.xb (fun _ h=>h) rfl ?_|refine LdS.xt (fun _ h=>h) rfl ?_|refine ⟨h.hb,?_⟩|refine StC.xw h rfl rfl fun w h=> ?_|(refine StC.xs h rfl rfl fun w h=> ?_;dsimp only [spl,over] at h)|(refine St.xs h rfl rfl fun w h=> ?_;dsimp only [spl,over] at h)|refine IfB.yes ?_|refine IfB.no ?_|refine ⟨by first|omega|decide,?_⟩)
   exact hbad (by omega) _ h.tl
  ·(with_reducible repeat first|refine Nw.mk h fun b w h=> ?_|refine Drw.mk h fun w h=> ?_|refine Ld.xb h rfl ?_|refine Ld.xt h rfl ?_|refine LdS.xb (fun _ h=>h) rfl ?_|refine LdS.xt (fun _ h=>h) rfl ?_|refine ⟨h.hb,?_⟩|refine StC.xw h rfl rfl fun w h=> ?_|(refine StC.xs h rfl rfl fun w h=> ?_;dsimp only [spl,over] at h)|(refine St.xs h rfl rfl fun w h=> ?_;dsimp only [spl,over] at h)|refine IfB.yes ?_|refine IfB.no ?_|refine ⟨by first|omega|decide,?_⟩)
   exact fin _ (by omega) h.tl
 ·(with_reducible repeat first|refine Nw.mk h fun b w h=> ?_|refine Drw.mk h fun w h=> ?_|refine Ld.xb h rfl ?_|refine Ld.xt h rfl ?_|refine LdS.xb (fun _ h=>h) rfl ?_|refine LdS.xt (fun _ h=>h) rfl ?_|refine ⟨h.hb,?_⟩|refine StC.xw h rfl rfl fun w h=> ?_|(refine StC.xs h rfl rfl fun w h=> ?_;dsimp only [spl,over] at h)|(refine St.xs h rfl rfl fun w h=> ?_;dsimp only [spl,over] at h)|refine IfB.yes ?_|refine IfB.no ?_|refine ⟨by first|omega|decide,?_⟩)
  exact fin _ (by omega) h.tl
end
end Go.Proofs.YtcdpblipagajiaaGreat
set_option maxRecDepth 20000
namespace Go.Vc
theorem or256 {v c:Nat} (hv:v<16777216) (hc:c<256):ior .u32 (ishl .u32 (v:Int) 8) (u32 (c:Int))=((256*v+c:Nat):Int):=by
 have hmx:IntKind.max .u32=4294967295:=rfl
 have e1:ishl .u32 (v:Int) 8=((v*256:Nat):Int):=by
  have:=ishl_nat (k:= .u32) (a:=v) (b:=8) (by decide) (by rw [hmx];omega)
  simpa using this
 have e3:v*256|||c=256*v+c:=by
  rw [Nat.mul_comm v 256]
  exact (Nat.two_pow_add_eq_or_of_lt (i:=8) (by omega) v).symm
 rw [e1,u32_id (by omega),ior_nat (by rw [hmx];omega) (by rw [hmx];omega) (by rw [e3,hmx];omega),e3]
end Go.Vc
namespace Go.Hd
open Go.Inc Go.Srt
def MsOk (n:Nat) (m:MS):Prop:=
 (m.at_=0∧m=ms0)∨(m.at_=1∧m.v≤n∧m.M=0∧m.P=0∧m.sum=0∧m.many=0)∨(m.at_=2∧1≤m.M∧m.M≤n∧m.v≤m.M∧m.P=0∧m.sum=0∧m.many=0)∨
 (m.at_=3∧1≤m.M∧m.M≤n∧1≤m.P∧m.P≤m.M∧m.v=0∧m.many≤3∧m.sum<256^m.many)∨
 (m.at_=5∧m.M=0∧m.P=0∧m.v=0∧m.many≤3∧m.sum<256^m.many)
theorem mstep_ok {n:Nat} {s s':MS} {c:Nat} (h:MsOk n s) (hc:c<256) (he:mstep n s c= .more s'):MsOk n s':=by
 obtain ⟨at_,v,M,P,sum,many⟩:=s
 unfold MsOk at h
 unfold mstep at he
 dsimp only at h he
 split at he
 ·split at he
  ·cases he
   right;right;right;right;simp
  ·split at he
   ·cases he
    right;left;simp
   ·cases he
 ·split at he
  ·split at he
   ·cases he
   ·rename_i m hg
    have:=grow_le hc hg
    cases he
    right;right;left;simp;omega
   ·rename_i m hg
    have:=grow_le hc hg
    cases he
    right;left;simp;omega
  ·split at he
   ·split at he
    ·cases he
    ·rename_i m hg
     have:=grow_le hc hg
     cases he
     right;right;right;left;simp;omega
    ·rename_i m hg
     have:=grow_le hc hg
     cases he
     right;right;left;simp;omega
   ·split at he
    ·split at he<;>cases he
    ·cases he
     rename_i h3
     rcases h with ⟨h,_⟩|⟨h,_⟩|⟨h,_⟩|⟨h,h1⟩|⟨h,h1⟩
     ·omega
     ·omega
     ·omega
     ·right;right;right;left
      simp only
      have:256*sum+c<256^(many+1):=by rw [Nat.pow_succ];omega
      refine ⟨h,?_⟩
      omega
     ·right;right;right;right
      simp only
      have:256*sum+c<256^(many+1):=by rw [Nat.pow_succ];omega
      refine ⟨h,?_⟩
      omega
theorem mstep_fin {n:Nat} {s:MS} {c:Nat} {M P u:Nat} (h:MsOk n s) (he:mstep n s c= .fin (.blk M P u)):1≤M∧M≤n∧1≤P∧P≤M:=by
 obtain ⟨at_,v,M',P',sum,many⟩:=s
 unfold MsOk at h
 unfold mstep at he
 dsimp only at h he
 split at he
 ·split at he
  ·cases he
  ·split at he<;>cases he
 ·split at he
  ·split at he<;>cases he
  ·split at he
   ·split at he<;>cases he
   ·split at he
    ·split at he
     ·cases he
      omega
     ·cases he
    ·cases he
end Go.Hd
namespace Go.Proofs.YtcdpblipagajiaaGreat
open Go Go.Vc Go.Srt Go.Inc Go.Hd
abbrev T2:=Int×Int×Unit
abbrev hsT (s:HS):Int×Int×Int×Int×Unit:=((s.at_:Int),(s.v:Int),(vm s.v:Int),0,())
abbrev msT (m:MS):Int×Int×Int×Int×Int×Int×Int×Unit:=((m.at_:Int),(m.v:Int),(vm m.v:Int),(m.M:Int),(m.P:Int),(m.sum:Int),(m.many:Int),())
section
variable {E w:World} {F:List HP}
theorem undI:Tryz.prog.underlying 3=some (.int .i64):=by kernel_rfl
theorem keyOk_I:KeyOk Tryz.prog (α:=Int) 3 (fun n=>Value.int .i64 n) where
 und:=⟨_,undI,fun a b=> .inr rfl⟩
 check:=fun e a w=>by
  have: ∀(e:Bool) (c:Int) (w:World),(Instr.checkKey e 10000 3 (.int .i64 c)).run Tryz.prog w= .ok () w:=fun e c w=>by kernel_rfl
  exact this e a w
 eq:=fun a b w=>by
  exact (run_equalIn_int w 9999 _ _ _ _ _ undI).trans (by rw [show (a==b)=decide (a=b) from rfl])
 same:=fun a=>by simp [Instr.sameBits]
theorem within_c {a b c:Int} {K:Bool→World→Prop} (hK:K (decide (b≤a∧a≤c)) w):Cl Tryz.prog [kB] n_header_within ⟨[.int .i64 a,.int .i64 b,.int .i64 c]⟩ w K:=by
 refine header_within.ok _ _ _ _ _ ?_
 unfold header_within.E
 (first|refine IfB.dm (fun hb=> ?_) (fun hb=> ?_)|refine IfB.em (fun hb=> ?_) (fun hb=> ?_)|refine IfB.nm (fun hb=> ?_) (fun hb=> ?_)|refine IfB.mk (fun hb=> ?_) (fun hb=> ?_))
 ·refine as1 (decide_eq_decide.2 ?_) hK
  omega
 ·refine as1 (decide_eq_false ?_).symm hK
  omega
theorem comes_c {v:Nat} {most:Int} {K:Bool→World→Prop} (h:Hp E w F) (hv:v≤65536) (hm:(v:Int)≤most) (hK: ∀w',Hp E w' F→K true w'):
  Cl Tryz.prog [kB] n_header_comes ⟨[.agg ⟨[.int .i64 (v:Int),.int .i64 (vm v:Int)]⟩,.int .i64 most]⟩ w K:=by
 refine header_comes.ok ((v:Int),(vm v:Int),()) _ _ _ ?_
 unfold header_comes.E
 (try simp only [Join_eq,NilCk_some,add_mk,Nat.zero_add,Nat.add_zero,Nat.reduceAdd,Bool.not_true,Bool.not_false,IfB_t,IfB_f,Option.isNone])
 (with_reducible repeat first|refine Nw.mk h fun b w h=> ?_|refine Drw.mk h fun w h=> ?_|refine Ld.xb h rfl ?_|refine Ld.xt h rfl ?_|refine LdS.xb (fun _ h=>h) rfl ?_|refine LdS.xt (fun _ h=>h) rfl ?_|refine ⟨h.hb,?_⟩|refine StC.xw h rfl rfl fun w h=> ?_|(refine StC.xs h rfl rfl fun w h=> ?_;dsimp only [spl,over] at h)|(refine St.xs h rfl rfl fun w h=> ?_;dsimp only [spl,over] at h)|refine IfB.yes ?_|refine IfB.no ?_|refine ⟨by first|omega|decide,?_⟩)
 refine vvalid_c h hv fun w h=> ?_
 (with_reducible repeat first|refine Nw.mk h fun b w h=> ?_|refine Drw.mk h fun w h=> ?_|refine Ld.xb h rfl ?_|refine Ld.xt h rfl ?_|refine LdS.xb (fun _ h=>h) rfl ?_|refine LdS.xt (fun _ h=>h) rfl ?_|refine ⟨h.hb,?_⟩|refine StC.xw h rfl rfl fun w h=> ?_|(refine StC.xs h rfl rfl fun w h=> ?_;dsimp only [spl,over] at h)|(refine St.xs h rfl rfl fun w h=> ?_;dsimp only [spl,over] at h)|refine IfB.yes ?_|refine IfB.no ?_|refine ⟨by first|omega|decide,?_⟩)
 exact as1 (decide_eq_true hm) (hK _ h.tl)
theorem grow_c {v c most:Nat} {K:T2→Bool→Bool→World→Prop} (h:Hp E w F) (hv:v≤most) (hm:most≤65536) (hc:c<256)
  (hbad:grow most v c=none→∀o d w',Hp E w' F→K o d false w')
  (hK: ∀n d,grow most v c=some (n,d)→∀k w',(d=false→k=(vm n:Int))→Hp E w' F→K ((n:Int),k,()) d true w'):
  Cl Tryz.prog [.st [.int .i64,.int .i64],kB,kB] n_header_grow ⟨[.agg ⟨[.int .i64 (v:Int),.int .i64 (vm v:Int)]⟩,.int .u8 (c:Int),.int .i64 (most:Int)]⟩ w K:=by
 refine header_grow.ok ((v:Int),(vm v:Int),()) _ _ _ _ ?_
 unfold header_grow.E
 (try simp only [Join_eq,NilCk_some,add_mk,Nat.zero_add,Nat.add_zero,Nat.reduceAdd,Bool.not_true,Bool.not_false,IfB_t,IfB_f,Option.isNone])
 (with_reducible repeat first|refine Nw.mk h fun b w h=> ?_|refine Drw.mk h fun w h=> ?_|refine Ld.xb h rfl ?_|refine Ld.xt h rfl ?_|refine LdS.xb (fun _ h=>h) rfl ?_|refine LdS.xt (fun _ h=>h) rfl ?_|refine ⟨h.hb,?_⟩|refine StC.xw h rfl rfl fun w h=> ?_|(refine StC.xs h rfl rfl fun w h=> ?_;dsimp only [spl,over] at h)|(refine St.xs h rfl rfl fun w h=> ?_;dsimp only [spl,over] at h)|refine IfB.yes ?_|refine IfB.no ?_|refine ⟨by first|omega|decide,?_⟩)
 refine vstep_c h (by omega) hc (fun hb w h=> ?_) (fun hb w h=> ?_)
 ·(with_reducible repeat first|refine Nw.mk h fun b w h=> ?_|refine Drw.mk h fun w h=> ?_|refine Ld.xb h rfl ?_|refine Ld.xt h rfl ?_|refine LdS.xb (fun _ h=>h) rfl ?_|refine LdS.xt (fun _ h=>h) rfl ?_|refine ⟨h.hb,?_⟩|refine StC.xw h rfl rfl fun w h=> ?_|(refine StC.xs h rfl rfl fun w h=> ?_;dsimp only [spl,over] at h)|(refine St.xs h rfl rfl fun w h=> ?_;dsimp only [spl,over] at h)|refine IfB.yes ?_|refine IfB.no ?_|refine ⟨by first|omega|decide,?_⟩)
  exact hbad (by unfold grow;rw [if_pos hb]) _ _ _ h.tl
 ·(with_reducible repeat first|refine Nw.mk h fun b w h=> ?_|refine Drw.mk h fun w h=> ?_|refine Ld.xb h rfl ?_|refine Ld.xt h rfl ?_|refine LdS.xb (fun _ h=>h) rfl ?_|refine LdS.xt (fun _ h=>h) rfl ?_|refine ⟨h.hb,?_⟩|refine StC.xw h rfl rfl fun w h=> ?_|(refine StC.xs h rfl rfl fun w h=> ?_;dsimp only [spl,over] at h)|(refine St.xs h rfl rfl fun w h=> ?_;dsimp only [spl,over] at h)|refine IfB.yes ?_|refine IfB.no ?_|refine ⟨by first|omega|decide,?_⟩)
  by_cases hc1:c<128
  ·rw [decide_eq_true hc1]
   by_cases hle:128*v+c % 128≤most
   ·(with_reducible repeat first|refine Nw.mk h fun b w h=> ?_|refine Drw.mk h fun w h=> ?_|refine Ld.xb h rfl ?_|refine Ld.xt h rfl ?_|refine LdS.xb (fun _ h=>h) rfl ?_|refine LdS.xt (fun _ h=>h) rfl ?_|refine ⟨h.hb,?_⟩|refine StC.xw h rfl rfl fun w h=> ?_|(refine StC.xs h rfl rfl fun w h=> ?_;dsimp only [spl,over] at h)|(refine St.xs h rfl rfl fun w h=> ?_;dsimp only [spl,over] at h)|refine IfB.yes ?_|refine IfB.no ?_|refine ⟨by first|omega|decide,?_⟩)
    (try simp only [Join_eq,NilCk_some,add_mk,Nat.zero_add,Nat.add_zero,Nat.reduceAdd,Bool.not_true,Bool.not_false,IfB_t,IfB_f,Option.isNone])
    (with_reducible repeat first|refine Nw.mk h fun b w h=> ?_|refine Drw.mk h fun w h=> ?_|refine Ld.xb h rfl ?_|refine Ld.xt h rfl ?_|refine LdS.xb (fun _ h=>h) rfl ?_|refine LdS.xt (fun _ h=>h) rfl ?_|refine ⟨h.hb,?_⟩|refine StC.xw h rfl rfl fun w h=> ?_|(refine StC.xs h rfl rfl fun w h=> ?_;dsimp only [spl,over] at h)|(refine St.xs h rfl rfl fun w h=> ?_;dsimp only [spl,over] at h)|refine IfB.yes ?_|refine IfB.no ?_|refine ⟨by first|omega|decide,?_⟩)
    by_cases h0:0<128*v+c % 128
    ·refine as1 (decide_eq_true (by omega)) (hK _ true ?_ _ _ (fun hh=>by cases hh) h.tl)
     unfold grow
     rw [if_neg hb,if_pos ⟨hle,fun _=>h0⟩,decide_eq_true hc1]
    ·refine as1 (decide_eq_false (by omega)) (hbad ?_ _ _ _ h.tl)
     unfold grow
     rw [if_neg hb,if_neg (fun hh=>h0 (hh.2 hc1))]
   ·(with_reducible repeat first|refine Nw.mk h fun b w h=> ?_|refine Drw.mk h fun w h=> ?_|refine Ld.xb h rfl ?_|refine Ld.xt h rfl ?_|refine LdS.xb (fun _ h=>h) rfl ?_|refine LdS.xt (fun _ h=>h) rfl ?_|refine ⟨h.hb,?_⟩|refine StC.xw h rfl rfl fun w h=> ?_|(refine StC.xs h rfl rfl fun w h=> ?_;dsimp only [spl,over] at h)|(refine St.xs h rfl rfl fun w h=> ?_;dsimp only [spl,over] at h)|refine IfB.yes ?_|refine IfB.no ?_|refine ⟨by first|omega|decide,?_⟩)
    refine hbad ?_ _ _ _ h.tl
    unfold grow
    rw [if_neg hb,if_neg (fun hh=>hle hh.1)]
  ·rw [decide_eq_false hc1]
   by_cases hle:128*v+c % 128≤most
   ·(with_reducible repeat first|refine Nw.mk h fun b w h=> ?_|refine Drw.mk h fun w h=> ?_|refine Ld.xb h rfl ?_|refine Ld.xt h rfl ?_|refine LdS.xb (fun _ h=>h) rfl ?_|refine LdS.xt (fun _ h=>h) rfl ?_|refine ⟨h.hb,?_⟩|refine StC.xw h rfl rfl fun w h=> ?_|(refine StC.xs h rfl rfl fun w h=> ?_;dsimp only [spl,over] at h)|(refine St.xs h rfl rfl fun w h=> ?_;dsimp only [spl,over] at h)|refine IfB.yes ?_|refine IfB.no ?_|refine ⟨by first|omega|decide,?_⟩)
    (try simp only [Join_eq,NilCk_some,add_mk,Nat.zero_add,Nat.add_zero,Nat.reduceAdd,Bool.not_true,Bool.not_false,IfB_t,IfB_f,Option.isNone])
    (with_reducible repeat first|refine Nw.mk h fun b w h=> ?_|refine Drw.mk h fun w h=> ?_|refine Ld.xb h rfl ?_|refine Ld.xt h rfl ?_|refine LdS.xb (fun _ h=>h) rfl ?_|refine LdS.xt (fun _ h=>h) rfl ?_|refine ⟨h.hb,?_⟩|refine StC.xw h rfl rfl fun w h=> ?_|(refine StC.xs h rfl rfl fun w h=> ?_;dsimp only [spl,over] at h)|(refine St.xs h rfl rfl fun w h=> ?_;dsimp only [spl,over] at h)|refine IfB.yes ?_|refine IfB.no ?_|refine ⟨by first|omega|decide,?_⟩)
    refine hK _ false ?_ _ _ (fun _=>by rw [vm_next (by omega) (by omega) hc hb]) h.tl
    unfold grow
    rw [if_neg hb,if_pos ⟨hle,fun hh=>absurd hh hc1⟩,decide_eq_false hc1]
   ·(with_reducible repeat first|refine Nw.mk h fun b w h=> ?_|refine Drw.mk h fun w h=> ?_|refine Ld.xb h rfl ?_|refine Ld.xt h rfl ?_|refine LdS.xb (fun _ h=>h) rfl ?_|refine LdS.xt (fun _ h=>h) rfl ?_|refine ⟨h.hb,?_⟩|refine StC.xw h rfl rfl fun w h=> ?_|(refine StC.xs h rfl rfl fun w h=> ?_;dsimp only [spl,over] at h)|(refine St.xs h rfl rfl fun w h=> ?_;dsimp only [spl,over] at h)|refine IfB.yes ?_|refine IfB.no ?_|refine ⟨by first|omega|decide,?_⟩)
    refine hbad ?_ _ _ _ h.tl
    unfold grow
    rw [if_neg hb,if_neg (fun hh=>hle hh.1)]
end
end Go.Proofs.YtcdpblipagajiaaGreat
set_option maxRecDepth 20000
namespace Go.Proofs.YtcdpblipagajiaaGreat
open Go Go.Vc Go.Srt Go.Inc Go.Hd
section
variable {E w:World} {F:List HP}
theorem sums_c {s m:Nat} {K:Bool→World→Prop} (hm:m≤3) (hs:s<256^m) (hK:K true w):Cl Tryz.prog [kB] n_header_sums ⟨[.int .u32 (s:Int),.int .i64 (m:Int)]⟩ w K:=by
 refine header_sums.ok _ _ _ _ ?_
 unfold header_sums.E
 refine within_c ?_
 (with_reducible repeat first|refine Nw.mk h fun b w h=> ?_|refine Drw.mk h fun w h=> ?_|refine Ld.xb h rfl ?_|refine Ld.xt h rfl ?_|refine LdS.xb (fun _ h=>h) rfl ?_|refine LdS.xt (fun _ h=>h) rfl ?_|refine ⟨h.hb,?_⟩|refine StC.xw h rfl rfl fun w h=> ?_|(refine StC.xs h rfl rfl fun w h=> ?_;dsimp only [spl,over] at h)|(refine St.xs h rfl rfl fun w h=> ?_;dsimp only [spl,over] at h)|refine IfB.yes ?_|refine IfB.no ?_|refine ⟨by first|omega|decide,?_⟩)
 rw [i64_id (by omega)]
 refine ⟨by omega,as1 ?_ hK⟩
 rw [show (8*(m:Int))=((8*m:Nat):Int) by omega,u64_id (by
  have:m=0∨m=1∨m=2∨m=3:=by omega
  rcases this with rfl|rfl|rfl|rfl<;>simp at hs<;>omega),ishr_nat (by have:IntKind.bits .u64=64:=rfl;omega),Nat.pow_mul,Nat.div_eq_of_lt (by simpa using hs)]
 rfl
theorem mvalid_c {n:Nat} {m:MS} {K:Bool→World→Prop} (h:Hp E w F) (hn:1≤n) (hn2:n≤65536) (hm:MsOk n m) (hK: ∀w',Hp E w' F→K true w'):
  Cl Tryz.prog [kB] n_header_ValidMark ⟨[.int .i64 (n:Int),.agg ⟨[.int .i64 (m.at_:Int),.int .i64 (m.v:Int),.int .i64 (vm m.v:Int),.int .i64 (m.M:Int),.int .i64 (m.P:Int),.int .u32 (m.sum:Int),.int .i64 (m.many:Int)]⟩]⟩ w K:=by
 obtain ⟨at_,v,M,P,sum,many⟩:=m
 unfold MsOk at hm
 dsimp only at hm⊢
 refine header_ValidMark.ok _ ((at_:Int),(v:Int),(vm v:Int),(M:Int),(P:Int),(sum:Int),(many:Int),()) _ _ ?_
 unfold header_ValidMark.E
 (try simp only [Join_eq,NilCk_some,add_mk,Nat.zero_add,Nat.add_zero,Nat.reduceAdd,Bool.not_true,Bool.not_false,IfB_t,IfB_f,Option.isNone])
 (with_reducible repeat first|refine Nw.mk h fun b w h=> ?_|refine Drw.mk h fun w h=> ?_|refine Ld.xb h rfl ?_|refine Ld.xt h rfl ?_|refine LdS.xb (fun _ h=>h) rfl ?_|refine LdS.xt (fun _ h=>h) rfl ?_|refine ⟨h.hb,?_⟩|refine StC.xw h rfl rfl fun w h=> ?_|(refine StC.xs h rfl rfl fun w h=> ?_;dsimp only [spl,over] at h)|(refine St.xs h rfl rfl fun w h=> ?_;dsimp only [spl,over] at h)|refine IfB.yes ?_|refine IfB.no ?_|refine ⟨by first|omega|decide,?_⟩)
 refine within_c ?_
 rcases hm with ⟨h1,h2⟩|⟨h1,h2,h3,h4,h5,h6⟩|⟨h1,h2,h3,h4,h5,h6,h7⟩|⟨h1,h2,h3,h4,h5,h6,h7,h8⟩|⟨h1,h2,h3,h4,h5,h6⟩
 ·cases h2
  (with_reducible repeat first|refine Nw.mk h fun b w h=> ?_|refine Drw.mk h fun w h=> ?_|refine Ld.xb h rfl ?_|refine Ld.xt h rfl ?_|refine LdS.xb (fun _ h=>h) rfl ?_|refine LdS.xt (fun _ h=>h) rfl ?_|refine ⟨h.hb,?_⟩|refine StC.xw h rfl rfl fun w h=> ?_|(refine StC.xs h rfl rfl fun w h=> ?_;dsimp only [spl,over] at h)|(refine St.xs h rfl rfl fun w h=> ?_;dsimp only [spl,over] at h)|refine IfB.yes ?_|refine IfB.no ?_|refine ⟨by first|omega|decide,?_⟩)
  refine within_c ?_
  (with_reducible repeat first|refine Nw.mk h fun b w h=> ?_|refine Drw.mk h fun w h=> ?_|refine Ld.xb h rfl ?_|refine Ld.xt h rfl ?_|refine LdS.xb (fun _ h=>h) rfl ?_|refine LdS.xt (fun _ h=>h) rfl ?_|refine ⟨h.hb,?_⟩|refine StC.xw h rfl rfl fun w h=> ?_|(refine StC.xs h rfl rfl fun w h=> ?_;dsimp only [spl,over] at h)|(refine St.xs h rfl rfl fun w h=> ?_;dsimp only [spl,over] at h)|refine IfB.yes ?_|refine IfB.no ?_|refine ⟨by first|omega|decide,?_⟩)
  exact hK _ h.tl
 ·subst h1 h3 h4 h5 h6
  (with_reducible repeat first|refine Nw.mk h fun b w h=> ?_|refine Drw.mk h fun w h=> ?_|refine Ld.xb h rfl ?_|refine Ld.xt h rfl ?_|refine LdS.xb (fun _ h=>h) rfl ?_|refine LdS.xt (fun _ h=>h) rfl ?_|refine ⟨h.hb,?_⟩|refine StC.xw h rfl rfl fun w h=> ?_|(refine StC.xs h rfl rfl fun w h=> ?_;dsimp only [spl,over] at h)|(refine St.xs h rfl rfl fun w h=> ?_;dsimp only [spl,over] at h)|refine IfB.yes ?_|refine IfB.no ?_|refine ⟨by first|omega|decide,?_⟩)
  refine within_c ?_
  (with_reducible repeat first|refine Nw.mk h fun b w h=> ?_|refine Drw.mk h fun w h=> ?_|refine Ld.xb h rfl ?_|refine Ld.xt h rfl ?_|refine LdS.xb (fun _ h=>h) rfl ?_|refine LdS.xt (fun _ h=>h) rfl ?_|refine ⟨h.hb,?_⟩|refine StC.xw h rfl rfl fun w h=> ?_|(refine StC.xs h rfl rfl fun w h=> ?_;dsimp only [spl,over] at h)|(refine St.xs h rfl rfl fun w h=> ?_;dsimp only [spl,over] at h)|refine IfB.yes ?_|refine IfB.no ?_|refine ⟨by first|omega|decide,?_⟩)
  refine comes_c h (by omega) (by omega) fun w h=> ?_
  (with_reducible repeat first|refine Nw.mk h fun b w h=> ?_|refine Drw.mk h fun w h=> ?_|refine Ld.xb h rfl ?_|refine Ld.xt h rfl ?_|refine LdS.xb (fun _ h=>h) rfl ?_|refine LdS.xt (fun _ h=>h) rfl ?_|refine ⟨h.hb,?_⟩|refine StC.xw h rfl rfl fun w h=> ?_|(refine StC.xs h rfl rfl fun w h=> ?_;dsimp only [spl,over] at h)|(refine St.xs h rfl rfl fun w h=> ?_;dsimp only [spl,over] at h)|refine IfB.yes ?_|refine IfB.no ?_|refine ⟨by first|omega|decide,?_⟩)
  refine as1 ?_ (hK _ h.tl)
  simp
 ·subst h1 h5 h6 h7
  (with_reducible repeat first|refine Nw.mk h fun b w h=> ?_|refine Drw.mk h fun w h=> ?_|refine Ld.xb h rfl ?_|refine Ld.xt h rfl ?_|refine LdS.xb (fun _ h=>h) rfl ?_|refine LdS.xt (fun _ h=>h) rfl ?_|refine ⟨h.hb,?_⟩|refine StC.xw h rfl rfl fun w h=> ?_|(refine StC.xs h rfl rfl fun w h=> ?_;dsimp only [spl,over] at h)|(refine St.xs h rfl rfl fun w h=> ?_;dsimp only [spl,over] at h)|refine IfB.yes ?_|refine IfB.no ?_|refine ⟨by first|omega|decide,?_⟩)
  refine within_c ?_
  (with_reducible repeat first|refine Nw.mk h fun b w h=> ?_|refine Drw.mk h fun w h=> ?_|refine Ld.xb h rfl ?_|refine Ld.xt h rfl ?_|refine LdS.xb (fun _ h=>h) rfl ?_|refine LdS.xt (fun _ h=>h) rfl ?_|refine ⟨h.hb,?_⟩|refine StC.xw h rfl rfl fun w h=> ?_|(refine StC.xs h rfl rfl fun w h=> ?_;dsimp only [spl,over] at h)|(refine St.xs h rfl rfl fun w h=> ?_;dsimp only [spl,over] at h)|refine IfB.yes ?_|refine IfB.no ?_|refine ⟨by first|omega|decide,?_⟩)
  refine within_c ?_
  (with_reducible repeat first|refine Nw.mk h fun b w h=> ?_|refine Drw.mk h fun w h=> ?_|refine Ld.xb h rfl ?_|refine Ld.xt h rfl ?_|refine LdS.xb (fun _ h=>h) rfl ?_|refine LdS.xt (fun _ h=>h) rfl ?_|refine ⟨h.hb,?_⟩|refine StC.xw h rfl rfl fun w h=> ?_|(refine StC.xs h rfl rfl fun w h=> ?_;dsimp only [spl,over] at h)|(refine St.xs h rfl rfl fun w h=> ?_;dsimp only [spl,over] at h)|refine IfB.yes ?_|refine IfB.no ?_|refine ⟨by first|omega|decide,?_⟩)
  refine within_c ?_
  (with_reducible repeat first|refine Nw.mk h fun b w h=> ?_|refine Drw.mk h fun w h=> ?_|refine Ld.xb h rfl ?_|refine Ld.xt h rfl ?_|refine LdS.xb (fun _ h=>h) rfl ?_|refine LdS.xt (fun _ h=>h) rfl ?_|refine ⟨h.hb,?_⟩|refine StC.xw h rfl rfl fun w h=> ?_|(refine StC.xs h rfl rfl fun w h=> ?_;dsimp only [spl,over] at h)|(refine St.xs h rfl rfl fun w h=> ?_;dsimp only [spl,over] at h)|refine IfB.yes ?_|refine IfB.no ?_|refine ⟨by first|omega|decide,?_⟩)
  refine comes_c h (by omega) (by omega) fun w h=> ?_
  (with_reducible repeat first|refine Nw.mk h fun b w h=> ?_|refine Drw.mk h fun w h=> ?_|refine Ld.xb h rfl ?_|refine Ld.xt h rfl ?_|refine LdS.xb (fun _ h=>h) rfl ?_|refine LdS.xt (fun _ h=>h) rfl ?_|refine ⟨h.hb,?_⟩|refine StC.xw h rfl rfl fun w h=> ?_|(refine StC.xs h rfl rfl fun w h=> ?_;dsimp only [spl,over] at h)|(refine St.xs h rfl rfl fun w h=> ?_;dsimp only [spl,over] at h)|refine IfB.yes ?_|refine IfB.no ?_|refine ⟨by first|omega|decide,?_⟩)
  refine as1 ?_ (hK _ h.tl)
  simp
 ·subst h1 h6
  (with_reducible repeat first|refine Nw.mk h fun b w h=> ?_|refine Drw.mk h fun w h=> ?_|refine Ld.xb h rfl ?_|refine Ld.xt h rfl ?_|refine LdS.xb (fun _ h=>h) rfl ?_|refine LdS.xt (fun _ h=>h) rfl ?_|refine ⟨h.hb,?_⟩|refine StC.xw h rfl rfl fun w h=> ?_|(refine StC.xs h rfl rfl fun w h=> ?_;dsimp only [spl,over] at h)|(refine St.xs h rfl rfl fun w h=> ?_;dsimp only [spl,over] at h)|refine IfB.yes ?_|refine IfB.no ?_|refine ⟨by first|omega|decide,?_⟩)
  refine within_c ?_
  rw [decide_eq_true (show 1≤(P:Int)∧(P:Int)≤(M:Int) by omega)]
  refine within_c ?_
  (with_reducible repeat first|refine Nw.mk h fun b w h=> ?_|refine Drw.mk h fun w h=> ?_|refine Ld.xb h rfl ?_|refine Ld.xt h rfl ?_|refine LdS.xb (fun _ h=>h) rfl ?_|refine LdS.xt (fun _ h=>h) rfl ?_|refine ⟨h.hb,?_⟩|refine StC.xw h rfl rfl fun w h=> ?_|(refine StC.xs h rfl rfl fun w h=> ?_;dsimp only [spl,over] at h)|(refine St.xs h rfl rfl fun w h=> ?_;dsimp only [spl,over] at h)|refine IfB.yes ?_|refine IfB.no ?_|refine ⟨by first|omega|decide,?_⟩)
  refine sums_c h7 h8 ?_
  (with_reducible repeat first|refine Nw.mk h fun b w h=> ?_|refine Drw.mk h fun w h=> ?_|refine Ld.xb h rfl ?_|refine Ld.xt h rfl ?_|refine LdS.xb (fun _ h=>h) rfl ?_|refine LdS.xt (fun _ h=>h) rfl ?_|refine ⟨h.hb,?_⟩|refine StC.xw h rfl rfl fun w h=> ?_|(refine StC.xs h rfl rfl fun w h=> ?_;dsimp only [spl,over] at h)|(refine St.xs h rfl rfl fun w h=> ?_;dsimp only [spl,over] at h)|refine IfB.yes ?_|refine IfB.no ?_|refine ⟨by first|omega|decide,?_⟩)
  exact hK _ h.tl
 ·subst h1 h2 h3 h4
  (with_reducible repeat first|refine Nw.mk h fun b w h=> ?_|refine Drw.mk h fun w h=> ?_|refine Ld.xb h rfl ?_|refine Ld.xt h rfl ?_|refine LdS.xb (fun _ h=>h) rfl ?_|refine LdS.xt (fun _ h=>h) rfl ?_|refine ⟨h.hb,?_⟩|refine StC.xw h rfl rfl fun w h=> ?_|(refine StC.xs h rfl rfl fun w h=> ?_;dsimp only [spl,over] at h)|(refine St.xs h rfl rfl fun w h=> ?_;dsimp only [spl,over] at h)|refine IfB.yes ?_|refine IfB.no ?_|refine ⟨by first|omega|decide,?_⟩)
  refine within_c ?_
  (with_reducible repeat first|refine Nw.mk h fun b w h=> ?_|refine Drw.mk h fun w h=> ?_|refine Ld.xb h rfl ?_|refine Ld.xt h rfl ?_|refine LdS.xb (fun _ h=>h) rfl ?_|refine LdS.xt (fun _ h=>h) rfl ?_|refine ⟨h.hb,?_⟩|refine StC.xw h rfl rfl fun w h=> ?_|(refine StC.xs h rfl rfl fun w h=> ?_;dsimp only [spl,over] at h)|(refine St.xs h rfl rfl fun w h=> ?_;dsimp only [spl,over] at h)|refine IfB.yes ?_|refine IfB.no ?_|refine ⟨by first|omega|decide,?_⟩)
  refine sums_c h5 h6 ?_
  (with_reducible repeat first|refine Nw.mk h fun b w h=> ?_|refine Drw.mk h fun w h=> ?_|refine Ld.xb h rfl ?_|refine Ld.xt h rfl ?_|refine LdS.xb (fun _ h=>h) rfl ?_|refine LdS.xt (fun _ h=>h) rfl ?_|refine ⟨h.hb,?_⟩|refine StC.xw h rfl rfl fun w h=> ?_|(refine StC.xs h rfl rfl fun w h=> ?_;dsimp only [spl,over] at h)|(refine St.xs h rfl rfl fun w h=> ?_;dsimp only [spl,over] at h)|refine IfB.yes ?_|refine IfB.no ?_|refine ⟨by first|omega|decide,?_⟩)
  refine as1 ?_ (hK _ h.tl)
  simp [vm]
end
end Go.Proofs.YtcdpblipagajiaaGreat
namespace Go.Vc
open Go
section
variable {P:Program} {α β:Type} [DecidableEq α] {ke:α→Value} {ve:β→Value} {kt vt t:TypeId} {E w:World} {F:List HP} {m:Option Nat} {l:List (α×β)}
theorem FnNil.fn {t:Fn} {a b:Array Value} {K:Bool→Prop} (h:K false):FnNil (.func t a b) K:=h
theorem Run.found (hk:KeyOk P kt ke) (hu:P.underlying t=some (.map kt vt)) {a:α} {q:Nat×β} {z:Value} {k:Ki} {x:k.T} {K:k.T→World→Prop} (hz: ∀w,(zeroValue vt).run P w= .ok z w) (h:Hp E w (OwnM ke ve m l::F)) (hf:findAt a l 0=some q) (hx:ve q.2=k.enc x) (hK:K x w):
  Run P (Instr.lookup t (.map m) (ke a) false) k w K:=by
 unfold Run
 rw [run_lookup1 hk hu hz h,hf]
 dsimp only
 rw [hx]
 exact Ki.dec_enc.2 hK
end
end Go.Vc
namespace Go.Proofs.YtcdpblipagajiaaGreat
open Go Go.Vc Go.Srt Go.Inc Go.Hd
abbrev MarkK:=Int×Int×Int×Int×Int×Int×Int×Unit
section
variable {E w:World} {F:List HP}
def MkR (n:Nat) (m:MS) (c:Nat) (E:World) (F:List HP) (K:MarkK→Bool→World→Prop):Prop:=
 (∀m' w',mstep n m c= .more m'→m'.at_≠4→m'.at_≠6→Hp E w' F→K (msT m') true w')∧
 (∀M P u w',mstep n m c= .fin (.blk M P u)→Hp E w' F→K (4,0,0,(M:Int),(P:Int),(u:Int),4,()) true w')∧
 (∀u w',mstep n m c= .fin (.tail u)→Hp E w' F→K (6,0,0,0,0,(u:Int),4,()) true w')∧
 (∀e o w',mstep n m c= .bad e→e=242→Hp E w' F→K o false w')
theorem mark_c {n:Nat} {c:Nat} {K:MarkK→Bool→World→Prop} (h:Hp E w F) (hc:c<256) (hK:MkR n ms0 c E F K):
  Cl Tryz.prog [.st [.int .i64,.int .i64,.int .i64,.int .i64,.int .i64,.int .u32,.int .i64],kB] n_header_mark ⟨[.int .i64 (n:Int),.agg ⟨[.int .i64 0,.int .i64 0,.int .i64 0,.int .i64 0,.int .i64 0,.int .u32 0,.int .i64 0]⟩,.int .u8 (c:Int)]⟩ w K:=by
 obtain ⟨k1,_,_,k4⟩:=hK
 refine header_mark.ok _ (0,0,0,0,0,0,0,()) _ _ _ ?_
 unfold header_mark.E
 (try simp only [Join_eq,NilCk_some,add_mk,Nat.zero_add,Nat.add_zero,Nat.reduceAdd,Bool.not_true,Bool.not_false,IfB_t,IfB_f,Option.isNone])
 (with_reducible repeat first|refine Nw.mk h fun b w h=> ?_|refine Drw.mk h fun w h=> ?_|refine Ld.xb h rfl ?_|refine Ld.xt h rfl ?_|refine LdS.xb (fun _ h=>h) rfl ?_|refine LdS.xt (fun _ h=>h) rfl ?_|refine ⟨h.hb,?_⟩|refine StC.xw h rfl rfl fun w h=> ?_|(refine StC.xs h rfl rfl fun w h=> ?_;dsimp only [spl,over] at h)|(refine St.xs h rfl rfl fun w h=> ?_;dsimp only [spl,over] at h)|refine IfB.yes ?_|refine IfB.no ?_|refine ⟨by first|omega|decide,?_⟩)
 by_cases h0:c=0
 ·subst h0
  (with_reducible repeat first|refine Nw.mk h fun b w h=> ?_|refine Drw.mk h fun w h=> ?_|refine Ld.xb h rfl ?_|refine Ld.xt h rfl ?_|refine LdS.xb (fun _ h=>h) rfl ?_|refine LdS.xt (fun _ h=>h) rfl ?_|refine ⟨h.hb,?_⟩|refine StC.xw h rfl rfl fun w h=> ?_|(refine StC.xs h rfl rfl fun w h=> ?_;dsimp only [spl,over] at h)|(refine St.xs h rfl rfl fun w h=> ?_;dsimp only [spl,over] at h)|refine IfB.yes ?_|refine IfB.no ?_|refine ⟨by first|omega|decide,?_⟩)
  exact k1 ⟨5,0,0,0,0,0⟩ _ rfl (by dsimp only;decide) (by dsimp only;decide) h.tl
 ·(with_reducible repeat first|refine Nw.mk h fun b w h=> ?_|refine Drw.mk h fun w h=> ?_|refine Ld.xb h rfl ?_|refine Ld.xt h rfl ?_|refine LdS.xb (fun _ h=>h) rfl ?_|refine LdS.xt (fun _ h=>h) rfl ?_|refine ⟨h.hb,?_⟩|refine StC.xw h rfl rfl fun w h=> ?_|(refine StC.xs h rfl rfl fun w h=> ?_;dsimp only [spl,over] at h)|(refine St.xs h rfl rfl fun w h=> ?_;dsimp only [spl,over] at h)|refine IfB.yes ?_|refine IfB.no ?_|refine ⟨by first|omega|decide,?_⟩)
  by_cases h1:c=1
  ·subst h1
   exact k1 ⟨1,0,0,0,0,0⟩ _ rfl (by dsimp only;decide) (by dsimp only;decide) h.tl
  ·refine as1 (decide_eq_false (by omega)) (k4 242 _ _ ?_ rfl h.tl)
   unfold mstep ms0
   simp [h0,h1]
theorem many_c {n v:Nat} {c:Nat} {K:MarkK→Bool→World→Prop} (h:Hp E w F) (hn:n≤65536) (hv:v≤n) (hc:c<256) (hK:MkR n ⟨1,v,0,0,0,0⟩ c E F K):
  Cl Tryz.prog [.st [.int .i64,.int .i64,.int .i64,.int .i64,.int .i64,.int .u32,.int .i64],kB] n_header_many ⟨[.int .i64 (n:Int),.agg ⟨[.int .i64 1,.int .i64 (v:Int),.int .i64 (vm v:Int),.int .i64 0,.int .i64 0,.int .u32 0,.int .i64 0]⟩,.int .u8 (c:Int)]⟩ w K:=by
 obtain ⟨k1,_,_,k4⟩:=hK
 refine header_many.ok _ (1,(v:Int),(vm v:Int),0,0,0,0,()) _ _ _ ?_
 unfold header_many.E
 (try simp only [Join_eq,NilCk_some,add_mk,Nat.zero_add,Nat.add_zero,Nat.reduceAdd,Bool.not_true,Bool.not_false,IfB_t,IfB_f,Option.isNone])
 (with_reducible repeat first|refine Nw.mk h fun b w h=> ?_|refine Drw.mk h fun w h=> ?_|refine Ld.xb h rfl ?_|refine Ld.xt h rfl ?_|refine LdS.xb (fun _ h=>h) rfl ?_|refine LdS.xt (fun _ h=>h) rfl ?_|refine ⟨h.hb,?_⟩|refine StC.xw h rfl rfl fun w h=> ?_|(refine StC.xs h rfl rfl fun w h=> ?_;dsimp only [spl,over] at h)|(refine St.xs h rfl rfl fun w h=> ?_;dsimp only [spl,over] at h)|refine IfB.yes ?_|refine IfB.no ?_|refine ⟨by first|omega|decide,?_⟩)
 refine grow_c h hv hn hc (fun hg o d w h=> ?_) (fun m d hg k w hk h=> ?_)
 ·(with_reducible repeat first|refine Nw.mk h fun b w h=> ?_|refine Drw.mk h fun w h=> ?_|refine Ld.xb h rfl ?_|refine Ld.xt h rfl ?_|refine LdS.xb (fun _ h=>h) rfl ?_|refine LdS.xt (fun _ h=>h) rfl ?_|refine ⟨h.hb,?_⟩|refine StC.xw h rfl rfl fun w h=> ?_|(refine StC.xs h rfl rfl fun w h=> ?_;dsimp only [spl,over] at h)|(refine St.xs h rfl rfl fun w h=> ?_;dsimp only [spl,over] at h)|refine IfB.yes ?_|refine IfB.no ?_|refine ⟨by first|omega|decide,?_⟩)
  cases d
  ·(with_reducible repeat first|refine Nw.mk h fun b w h=> ?_|refine Drw.mk h fun w h=> ?_|refine Ld.xb h rfl ?_|refine Ld.xt h rfl ?_|refine LdS.xb (fun _ h=>h) rfl ?_|refine LdS.xt (fun _ h=>h) rfl ?_|refine ⟨h.hb,?_⟩|refine StC.xw h rfl rfl fun w h=> ?_|(refine StC.xs h rfl rfl fun w h=> ?_;dsimp only [spl,over] at h)|(refine St.xs h rfl rfl fun w h=> ?_;dsimp only [spl,over] at h)|refine IfB.yes ?_|refine IfB.no ?_|refine ⟨by first|omega|decide,?_⟩)
   exact k4 242 _ _ (by unfold mstep;simp [hg]) rfl h.tl
  ·(with_reducible repeat first|refine Nw.mk h fun b w h=> ?_|refine Drw.mk h fun w h=> ?_|refine Ld.xb h rfl ?_|refine Ld.xt h rfl ?_|refine LdS.xb (fun _ h=>h) rfl ?_|refine LdS.xt (fun _ h=>h) rfl ?_|refine ⟨h.hb,?_⟩|refine StC.xw h rfl rfl fun w h=> ?_|(refine StC.xs h rfl rfl fun w h=> ?_;dsimp only [spl,over] at h)|(refine St.xs h rfl rfl fun w h=> ?_;dsimp only [spl,over] at h)|refine IfB.yes ?_|refine IfB.no ?_|refine ⟨by first|omega|decide,?_⟩)
   exact k4 242 _ _ (by unfold mstep;simp [hg]) rfl h.tl
 ·cases d
  ·have:=hk rfl
   subst this
   (with_reducible repeat first|refine Nw.mk h fun b w h=> ?_|refine Drw.mk h fun w h=> ?_|refine Ld.xb h rfl ?_|refine Ld.xt h rfl ?_|refine LdS.xb (fun _ h=>h) rfl ?_|refine LdS.xt (fun _ h=>h) rfl ?_|refine ⟨h.hb,?_⟩|refine StC.xw h rfl rfl fun w h=> ?_|(refine StC.xs h rfl rfl fun w h=> ?_;dsimp only [spl,over] at h)|(refine St.xs h rfl rfl fun w h=> ?_;dsimp only [spl,over] at h)|refine IfB.yes ?_|refine IfB.no ?_|refine ⟨by first|omega|decide,?_⟩)
   exact k1 ⟨1,m,0,0,0,0⟩ _ (by unfold mstep;simp [hg]) (by dsimp only;decide) (by dsimp only;decide) h.tl
  ·(with_reducible repeat first|refine Nw.mk h fun b w h=> ?_|refine Drw.mk h fun w h=> ?_|refine Ld.xb h rfl ?_|refine Ld.xt h rfl ?_|refine LdS.xb (fun _ h=>h) rfl ?_|refine LdS.xt (fun _ h=>h) rfl ?_|refine ⟨h.hb,?_⟩|refine StC.xw h rfl rfl fun w h=> ?_|(refine StC.xs h rfl rfl fun w h=> ?_;dsimp only [spl,over] at h)|(refine St.xs h rfl rfl fun w h=> ?_;dsimp only [spl,over] at h)|refine IfB.yes ?_|refine IfB.no ?_|refine ⟨by first|omega|decide,?_⟩)
   exact k1 ⟨2,0,m,0,0,0⟩ _ (by unfold mstep;simp [hg]) (by dsimp only;decide) (by dsimp only;decide) h.tl
theorem index_c {n v M:Nat} {c:Nat} {K:MarkK→Bool→World→Prop} (h:Hp E w F) (hn:M≤65536) (hv:v≤M) (hc:c<256) (hK:MkR n ⟨2,v,M,0,0,0⟩ c E F K):
  Cl Tryz.prog [.st [.int .i64,.int .i64,.int .i64,.int .i64,.int .i64,.int .u32,.int .i64],kB] n_header_index ⟨[.int .i64 (n:Int),.agg ⟨[.int .i64 2,.int .i64 (v:Int),.int .i64 (vm v:Int),.int .i64 (M:Int),.int .i64 0,.int .u32 0,.int .i64 0]⟩,.int .u8 (c:Int)]⟩ w K:=by
 obtain ⟨k1,_,_,k4⟩:=hK
 refine header_index.ok _ (2,(v:Int),(vm v:Int),(M:Int),0,0,0,()) _ _ _ ?_
 unfold header_index.E
 (try simp only [Join_eq,NilCk_some,add_mk,Nat.zero_add,Nat.add_zero,Nat.reduceAdd,Bool.not_true,Bool.not_false,IfB_t,IfB_f,Option.isNone])
 (with_reducible repeat first|refine Nw.mk h fun b w h=> ?_|refine Drw.mk h fun w h=> ?_|refine Ld.xb h rfl ?_|refine Ld.xt h rfl ?_|refine LdS.xb (fun _ h=>h) rfl ?_|refine LdS.xt (fun _ h=>h) rfl ?_|refine ⟨h.hb,?_⟩|refine StC.xw h rfl rfl fun w h=> ?_|(refine StC.xs h rfl rfl fun w h=> ?_;dsimp only [spl,over] at h)|(refine St.xs h rfl rfl fun w h=> ?_;dsimp only [spl,over] at h)|refine IfB.yes ?_|refine IfB.no ?_|refine ⟨by first|omega|decide,?_⟩)
 refine grow_c h hv hn hc (fun hg o d w h=> ?_) (fun m d hg k w hk h=> ?_)
 ·(with_reducible repeat first|refine Nw.mk h fun b w h=> ?_|refine Drw.mk h fun w h=> ?_|refine Ld.xb h rfl ?_|refine Ld.xt h rfl ?_|refine LdS.xb (fun _ h=>h) rfl ?_|refine LdS.xt (fun _ h=>h) rfl ?_|refine ⟨h.hb,?_⟩|refine StC.xw h rfl rfl fun w h=> ?_|(refine StC.xs h rfl rfl fun w h=> ?_;dsimp only [spl,over] at h)|(refine St.xs h rfl rfl fun w h=> ?_;dsimp only [spl,over] at h)|refine IfB.yes ?_|refine IfB.no ?_|refine ⟨by first|omega|decide,?_⟩)
  cases d
  ·(with_reducible repeat first|refine Nw.mk h fun b w h=> ?_|refine Drw.mk h fun w h=> ?_|refine Ld.xb h rfl ?_|refine Ld.xt h rfl ?_|refine LdS.xb (fun _ h=>h) rfl ?_|refine LdS.xt (fun _ h=>h) rfl ?_|refine ⟨h.hb,?_⟩|refine StC.xw h rfl rfl fun w h=> ?_|(refine StC.xs h rfl rfl fun w h=> ?_;dsimp only [spl,over] at h)|(refine St.xs h rfl rfl fun w h=> ?_;dsimp only [spl,over] at h)|refine IfB.yes ?_|refine IfB.no ?_|refine ⟨by first|omega|decide,?_⟩)
   exact k4 242 _ _ (by unfold mstep;simp [hg]) rfl h.tl
  ·(with_reducible repeat first|refine Nw.mk h fun b w h=> ?_|refine Drw.mk h fun w h=> ?_|refine Ld.xb h rfl ?_|refine Ld.xt h rfl ?_|refine LdS.xb (fun _ h=>h) rfl ?_|refine LdS.xt (fun _ h=>h) rfl ?_|refine ⟨h.hb,?_⟩|refine StC.xw h rfl rfl fun w h=> ?_|(refine StC.xs h rfl rfl fun w h=> ?_;dsimp only [spl,over] at h)|(refine St.xs h rfl rfl fun w h=> ?_;dsimp only [spl,over] at h)|refine IfB.yes ?_|refine IfB.no ?_|refine ⟨by first|omega|decide,?_⟩)
   exact k4 242 _ _ (by unfold mstep;simp [hg]) rfl h.tl
 ·cases d
  ·have:=hk rfl
   subst this
   (with_reducible repeat first|refine Nw.mk h fun b w h=> ?_|refine Drw.mk h fun w h=> ?_|refine Ld.xb h rfl ?_|refine Ld.xt h rfl ?_|refine LdS.xb (fun _ h=>h) rfl ?_|refine LdS.xt (fun _ h=>h) rfl ?_|refine ⟨h.hb,?_⟩|refine StC.xw h rfl rfl fun w h=> ?_|(refine StC.xs h rfl rfl fun w h=> ?_;dsimp only [spl,over] at h)|(refine St.xs h rfl rfl fun w h=> ?_;dsimp only [spl,over] at h)|refine IfB.yes ?_|refine IfB.no ?_|refine ⟨by first|omega|decide,?_⟩)
   exact k1 ⟨2,m,M,0,0,0⟩ _ (by unfold mstep;simp [hg]) (by dsimp only;decide) (by dsimp only;decide) h.tl
  ·(with_reducible repeat first|refine Nw.mk h fun b w h=> ?_|refine Drw.mk h fun w h=> ?_|refine Ld.xb h rfl ?_|refine Ld.xt h rfl ?_|refine LdS.xb (fun _ h=>h) rfl ?_|refine LdS.xt (fun _ h=>h) rfl ?_|refine ⟨h.hb,?_⟩|refine StC.xw h rfl rfl fun w h=> ?_|(refine StC.xs h rfl rfl fun w h=> ?_;dsimp only [spl,over] at h)|(refine St.xs h rfl rfl fun w h=> ?_;dsimp only [spl,over] at h)|refine IfB.yes ?_|refine IfB.no ?_|refine ⟨by first|omega|decide,?_⟩)
   exact k1 ⟨3,0,M,m,0,0⟩ _ (by unfold mstep;simp [hg]) (by dsimp only;decide) (by dsimp only;decide) h.tl
theorem sum_c {n a M P sum many:Nat} {c:Nat} {K:MarkK→Bool→World→Prop} (h:Hp E w F) (ha:a=3∨(a=5∧M=0∧P=0)) (hm:many≤3) (hs:sum<256^many) (hc:c<256) (hK:MkR n ⟨a,0,M,P,sum,many⟩ c E F K):
  Cl Tryz.prog [.st [.int .i64,.int .i64,.int .i64,.int .i64,.int .i64,.int .u32,.int .i64],kB] n_header_sum ⟨[.int .i64 (n:Int),.agg ⟨[.int .i64 (a:Int),.int .i64 0,.int .i64 0,.int .i64 (M:Int),.int .i64 (P:Int),.int .u32 (sum:Int),.int .i64 (many:Int)]⟩,.int .u8 (c:Int)]⟩ w K:=by
 obtain ⟨k1,k2,k3,k4⟩:=hK
 have hs2:sum<16777216:=by
  have:256^many≤256^3:=Nat.pow_le_pow_right (by decide) hm
  omega
 refine header_sum.ok _ ((a:Int),0,0,(M:Int),(P:Int),(sum:Int),(many:Int),()) _ _ _ ?_
 unfold header_sum.E
 (try simp only [Join_eq,NilCk_some,add_mk,Nat.zero_add,Nat.add_zero,Nat.reduceAdd,Bool.not_true,Bool.not_false,IfB_t,IfB_f,Option.isNone])
 (with_reducible repeat first|refine Nw.mk h fun b w h=> ?_|refine Drw.mk h fun w h=> ?_|refine Ld.xb h rfl ?_|refine Ld.xt h rfl ?_|refine LdS.xb (fun _ h=>h) rfl ?_|refine LdS.xt (fun _ h=>h) rfl ?_|refine ⟨h.hb,?_⟩|refine StC.xw h rfl rfl fun w h=> ?_|(refine StC.xs h rfl rfl fun w h=> ?_;dsimp only [spl,over] at h)|(refine St.xs h rfl rfl fun w h=> ?_;dsimp only [spl,over] at h)|refine IfB.yes ?_|refine IfB.no ?_|refine ⟨by first|omega|decide,?_⟩)
 rw [i64_id (x:=(many:Int)+1) (by omega)] at h⊢
 rw [or256 hs2 hc] at h
 by_cases hm3:many=3
 ·subst hm3
  (with_reducible repeat first|refine Nw.mk h fun b w h=> ?_|refine Drw.mk h fun w h=> ?_|refine Ld.xb h rfl ?_|refine Ld.xt h rfl ?_|refine LdS.xb (fun _ h=>h) rfl ?_|refine LdS.xt (fun _ h=>h) rfl ?_|refine ⟨h.hb,?_⟩|refine StC.xw h rfl rfl fun w h=> ?_|(refine StC.xs h rfl rfl fun w h=> ?_;dsimp only [spl,over] at h)|(refine St.xs h rfl rfl fun w h=> ?_;dsimp only [spl,over] at h)|refine IfB.yes ?_|refine IfB.no ?_|refine ⟨by first|omega|decide,?_⟩)
  rw [i64_id (by omega)] at h⊢
  rcases ha with rfl|⟨rfl,rfl,rfl⟩
  ·exact k2 M P (256*sum+c) _ (by unfold mstep;simp) h.tl
  ·exact k3 (256*sum+c) _ (by unfold mstep;simp) h.tl
 ·(with_reducible repeat first|refine Nw.mk h fun b w h=> ?_|refine Drw.mk h fun w h=> ?_|refine Ld.xb h rfl ?_|refine Ld.xt h rfl ?_|refine LdS.xb (fun _ h=>h) rfl ?_|refine LdS.xt (fun _ h=>h) rfl ?_|refine ⟨h.hb,?_⟩|refine StC.xw h rfl rfl fun w h=> ?_|(refine StC.xs h rfl rfl fun w h=> ?_;dsimp only [spl,over] at h)|(refine St.xs h rfl rfl fun w h=> ?_;dsimp only [spl,over] at h)|refine IfB.yes ?_|refine IfB.no ?_|refine ⟨by first|omega|decide,?_⟩)
  refine k1 ⟨a,0,M,P,256*sum+c,many+1⟩ _ ?_ ?_ ?_ h.tl
  ·unfold mstep
   rcases ha with rfl|⟨rfl,rfl,rfl⟩<;>simp [hm3]
  ·dsimp only;omega
  ·dsimp only;omega
theorem und98:Tryz.prog.underlying 202=some (.map 3 203):=by kernel_rfl
theorem zero_part (w:World):(zeroValue 203).run Tryz.prog w= .ok .nilFunc w:=by kernel_rfl
set_option maxRecDepth 20000
abbrev fv (i:Nat):Value:= .func (.func i) ⟨[]⟩ ⟨[]⟩
theorem mstep_c {n:Nat} {m:MS} {c:Nat} {K:MarkK→Bool→Int→World→Prop} (h:Hp E w F) (hn:1≤n) (hn2:n≤65536) (hm:MsOk n m) (hc:c<256)
  (hmore: ∀m' w',mstep n m c= .more m'→Hp E w' F→K (msT m') false 0 w')
  (hblk: ∀M P u w',mstep n m c= .fin (.blk M P u)→Hp E w' F→K (4,0,0,(M:Int),(P:Int),(u:Int),4,()) true 0 w')
  (htail: ∀u w',mstep n m c= .fin (.tail u)→Hp E w' F→K (6,0,0,0,0,(u:Int),4,()) true 0 w')
  (hbad: ∀e o w',mstep n m c= .bad e→Hp E w' F→K o false (e:Int) w'):
  Cl Tryz.prog [.st [.int .i64,.int .i64,.int .i64,.int .i64,.int .i64,.int .u32,.int .i64],kB,kI] n_header_StepMark ⟨[.int .i64 (n:Int),.agg ⟨[.int .i64 (m.at_:Int),.int .i64 (m.v:Int),.int .i64 (vm m.v:Int),.int .i64 (m.M:Int),.int .i64 (m.P:Int),.int .u32 (m.sum:Int),.int .i64 (m.many:Int)]⟩,.int .u8 (c:Int)]⟩ w K:=by
 have main: ∀(q:Nat) (i:Nat),findAt (m.at_:Int) [((0:Int),fv n_header_mark),(1,fv n_header_many),(2,fv n_header_index),(3,fv n_header_sum),(5,fv n_header_sum)] 0=some (q,fv i)→okCall Tryz.prog i=true→
   (∀(F':List HP) (w:World) (K':MarkK→Bool→World→Prop),Hp E w F'→MkR n m c E F' K'→Cl Tryz.prog [.st [.int .i64,.int .i64,.int .i64,.int .i64,.int .i64,.int .u32,.int .i64],kB] i ⟨[.int .i64 (n:Int),.agg ⟨[.int .i64 (m.at_:Int),.int .i64 (m.v:Int),.int .i64 (vm m.v:Int),.int .i64 (m.M:Int),.int .i64 (m.P:Int),.int .u32 (m.sum:Int),.int .i64 (m.many:Int)]⟩,.int .u8 (c:Int)]⟩ w K')→
   Cl Tryz.prog [.st [.int .i64,.int .i64,.int .i64,.int .i64,.int .i64,.int .u32,.int .i64],kB,kI] n_header_StepMark ⟨[.int .i64 (n:Int),.agg ⟨[.int .i64 (m.at_:Int),.int .i64 (m.v:Int),.int .i64 (vm m.v:Int),.int .i64 (m.M:Int),.int .i64 (m.P:Int),.int .u32 (m.sum:Int),.int .i64 (m.many:Int)]⟩,.int .u8 (c:Int)]⟩ w K:=by
  intro q i hq hok hcall
  refine header_StepMark.ok _ (msT m) _ _ _ ?_
  unfold header_StepMark.E
  (try simp only [Join_eq,NilCk_some,add_mk,Nat.zero_add,Nat.add_zero,Nat.reduceAdd,Bool.not_true,Bool.not_false,IfB_t,IfB_f,Option.isNone])
  refine Nw.mk h fun b5 w h=>Nw.mk h fun b7 w h=> ?_
  refine run_makeMap (ke:=fun n:Int=>Value.int .i64 n) (ve:=fun v:Value=>v) h fun mp w h=> ?_
  refine run_mapUpdate (ke:=fun n:Int=>Value.int .i64 n) (ve:=fun v:Value=>v) (l:=_) keyOk_I und98 (a:=0) (b:=fv n_header_mark) h fun w h=> ?_
  refine run_mapUpdate (ke:=fun n:Int=>Value.int .i64 n) (ve:=fun v:Value=>v) (l:=_) keyOk_I und98 (a:=1) (b:=fv n_header_many) h fun w h=> ?_
  refine run_mapUpdate (ke:=fun n:Int=>Value.int .i64 n) (ve:=fun v:Value=>v) (l:=_) keyOk_I und98 (a:=2) (b:=fv n_header_index) h fun w h=> ?_
  refine run_mapUpdate (ke:=fun n:Int=>Value.int .i64 n) (ve:=fun v:Value=>v) (l:=_) keyOk_I und98 (a:=3) (b:=fv n_header_sum) h fun w h=> ?_
  refine run_mapUpdate (ke:=fun n:Int=>Value.int .i64 n) (ve:=fun v:Value=>v) (l:=_) keyOk_I und98 (a:=5) (b:=fv n_header_sum) h fun w h=> ?_
  rw [show updAt (5:Int) (fv n_header_sum) (updAt 3 (fv n_header_sum) (updAt 2 (fv n_header_index) (updAt 1 (fv n_header_many) (updAt 0 (fv n_header_mark) []))))
   = [((0:Int),fv n_header_mark),(1,fv n_header_many),(2,fv n_header_index),(3,fv n_header_sum),(5,fv n_header_sum)] from rfl] at h
  (with_reducible repeat first|refine Nw.mk h fun b w h=> ?_|refine Drw.mk h fun w h=> ?_|refine Ld.xb h rfl ?_|refine Ld.xt h rfl ?_|refine LdS.xb (fun _ h=>h) rfl ?_|refine LdS.xt (fun _ h=>h) rfl ?_|refine ⟨h.hb,?_⟩|refine StC.xw h rfl rfl fun w h=> ?_|(refine StC.xs h rfl rfl fun w h=> ?_;dsimp only [spl,over] at h)|(refine St.xs h rfl rfl fun w h=> ?_;dsimp only [spl,over] at h)|refine IfB.yes ?_|refine IfB.no ?_|refine ⟨by first|omega|decide,?_⟩)
  refine Run.found (ke:=fun n:Int=>Value.int .i64 n) (ve:=fun v:Value=>v) keyOk_I und98 (a:=(m.at_:Int)) (x:=fv i) zero_part h hq rfl ?_
  refine FnNil.fn ?_
  have h:=h.drop
  (with_reducible repeat first|refine Nw.mk h fun b w h=> ?_|refine Drw.mk h fun w h=> ?_|refine Ld.xb h rfl ?_|refine Ld.xt h rfl ?_|refine LdS.xb (fun _ h=>h) rfl ?_|refine LdS.xt (fun _ h=>h) rfl ?_|refine ⟨h.hb,?_⟩|refine StC.xw h rfl rfl fun w h=> ?_|(refine StC.xs h rfl rfl fun w h=> ?_;dsimp only [spl,over] at h)|(refine St.xs h rfl rfl fun w h=> ?_;dsimp only [spl,over] at h)|refine IfB.yes ?_|refine IfB.no ?_|refine ⟨by first|omega|decide,?_⟩)
  refine mvalid_c h hn hn2 hm fun w h=> ?_
  (with_reducible repeat first|refine Nw.mk h fun b w h=> ?_|refine Drw.mk h fun w h=> ?_|refine Ld.xb h rfl ?_|refine Ld.xt h rfl ?_|refine LdS.xb (fun _ h=>h) rfl ?_|refine LdS.xt (fun _ h=>h) rfl ?_|refine ⟨h.hb,?_⟩|refine StC.xw h rfl rfl fun w h=> ?_|(refine StC.xs h rfl rfl fun w h=> ?_;dsimp only [spl,over] at h)|(refine St.xs h rfl rfl fun w h=> ?_;dsimp only [spl,over] at h)|refine IfB.yes ?_|refine IfB.no ?_|refine ⟨by first|omega|decide,?_⟩)
  refine ClX.mk hok (hcall _ _ _ h ⟨fun m' w h1 h2 h3 h=> ?_,fun M P u w h1 h=> ?_,fun u w h1 h=> ?_,fun e o w h1 h2 h=> ?_⟩)
  ·(with_reducible repeat first|refine Nw.mk h fun b w h=> ?_|refine Drw.mk h fun w h=> ?_|refine Ld.xb h rfl ?_|refine Ld.xt h rfl ?_|refine LdS.xb (fun _ h=>h) rfl ?_|refine LdS.xt (fun _ h=>h) rfl ?_|refine ⟨h.hb,?_⟩|refine StC.xw h rfl rfl fun w h=> ?_|(refine StC.xs h rfl rfl fun w h=> ?_;dsimp only [spl,over] at h)|(refine St.xs h rfl rfl fun w h=> ?_;dsimp only [spl,over] at h)|refine IfB.yes ?_|refine IfB.no ?_|refine ⟨by first|omega|decide,?_⟩)
   have h:=h.drew (n:=w.drawn+1)
   refine ⟨HoldB b5 _ _ _,h.hb,?_⟩
   (with_reducible repeat first|refine Nw.mk h fun b w h=> ?_|refine Drw.mk h fun w h=> ?_|refine Ld.xb h rfl ?_|refine Ld.xt h rfl ?_|refine LdS.xb (fun _ h=>h) rfl ?_|refine LdS.xt (fun _ h=>h) rfl ?_|refine ⟨h.hb,?_⟩|refine StC.xw h rfl rfl fun w h=> ?_|(refine StC.xs h rfl rfl fun w h=> ?_;dsimp only [spl,over] at h)|(refine St.xs h rfl rfl fun w h=> ?_;dsimp only [spl,over] at h)|refine IfB.yes ?_|refine IfB.no ?_|refine ⟨by first|omega|decide,?_⟩)
   refine IfB.ef (show¬(m'.at_:Int)=4 by omega) ?_
   (with_reducible repeat first|refine Nw.mk h fun b w h=> ?_|refine Drw.mk h fun w h=> ?_|refine Ld.xb h rfl ?_|refine Ld.xt h rfl ?_|refine LdS.xb (fun _ h=>h) rfl ?_|refine LdS.xt (fun _ h=>h) rfl ?_|refine ⟨h.hb,?_⟩|refine StC.xw h rfl rfl fun w h=> ?_|(refine StC.xs h rfl rfl fun w h=> ?_;dsimp only [spl,over] at h)|(refine St.xs h rfl rfl fun w h=> ?_;dsimp only [spl,over] at h)|refine IfB.yes ?_|refine IfB.no ?_|refine ⟨by first|omega|decide,?_⟩)
   have e6:((m'.at_:Int)==6)=false:=beq_eq_false_iff_ne.2 (by omega)
   have h6:=hmore m' _ h1 h.tl
   rw [←e6] at h6
   exact h6
  ·(with_reducible repeat first|refine Nw.mk h fun b w h=> ?_|refine Drw.mk h fun w h=> ?_|refine Ld.xb h rfl ?_|refine Ld.xt h rfl ?_|refine LdS.xb (fun _ h=>h) rfl ?_|refine LdS.xt (fun _ h=>h) rfl ?_|refine ⟨h.hb,?_⟩|refine StC.xw h rfl rfl fun w h=> ?_|(refine StC.xs h rfl rfl fun w h=> ?_;dsimp only [spl,over] at h)|(refine St.xs h rfl rfl fun w h=> ?_;dsimp only [spl,over] at h)|refine IfB.yes ?_|refine IfB.no ?_|refine ⟨by first|omega|decide,?_⟩)
   have h:=h.drew (n:=w.drawn+1)
   refine ⟨HoldB b5 _ _ _,h.hb,?_⟩
   (with_reducible repeat first|refine Nw.mk h fun b w h=> ?_|refine Drw.mk h fun w h=> ?_|refine Ld.xb h rfl ?_|refine Ld.xt h rfl ?_|refine LdS.xb (fun _ h=>h) rfl ?_|refine LdS.xt (fun _ h=>h) rfl ?_|refine ⟨h.hb,?_⟩|refine StC.xw h rfl rfl fun w h=> ?_|(refine StC.xs h rfl rfl fun w h=> ?_;dsimp only [spl,over] at h)|(refine St.xs h rfl rfl fun w h=> ?_;dsimp only [spl,over] at h)|refine IfB.yes ?_|refine IfB.no ?_|refine ⟨by first|omega|decide,?_⟩)
   exact hblk M P u _ h1 h.tl
  ·(with_reducible repeat first|refine Nw.mk h fun b w h=> ?_|refine Drw.mk h fun w h=> ?_|refine Ld.xb h rfl ?_|refine Ld.xt h rfl ?_|refine LdS.xb (fun _ h=>h) rfl ?_|refine LdS.xt (fun _ h=>h) rfl ?_|refine ⟨h.hb,?_⟩|refine StC.xw h rfl rfl fun w h=> ?_|(refine StC.xs h rfl rfl fun w h=> ?_;dsimp only [spl,over] at h)|(refine St.xs h rfl rfl fun w h=> ?_;dsimp only [spl,over] at h)|refine IfB.yes ?_|refine IfB.no ?_|refine ⟨by first|omega|decide,?_⟩)
   have h:=h.drew (n:=w.drawn+1)
   refine ⟨HoldB b5 _ _ _,h.hb,?_⟩
   (with_reducible repeat first|refine Nw.mk h fun b w h=> ?_|refine Drw.mk h fun w h=> ?_|refine Ld.xb h rfl ?_|refine Ld.xt h rfl ?_|refine LdS.xb (fun _ h=>h) rfl ?_|refine LdS.xt (fun _ h=>h) rfl ?_|refine ⟨h.hb,?_⟩|refine StC.xw h rfl rfl fun w h=> ?_|(refine StC.xs h rfl rfl fun w h=> ?_;dsimp only [spl,over] at h)|(refine St.xs h rfl rfl fun w h=> ?_;dsimp only [spl,over] at h)|refine IfB.yes ?_|refine IfB.no ?_|refine ⟨by first|omega|decide,?_⟩)
   exact htail u _ h1 h.tl
  ·(with_reducible repeat first|refine Nw.mk h fun b w h=> ?_|refine Drw.mk h fun w h=> ?_|refine Ld.xb h rfl ?_|refine Ld.xt h rfl ?_|refine LdS.xb (fun _ h=>h) rfl ?_|refine LdS.xt (fun _ h=>h) rfl ?_|refine ⟨h.hb,?_⟩|refine StC.xw h rfl rfl fun w h=> ?_|(refine StC.xs h rfl rfl fun w h=> ?_;dsimp only [spl,over] at h)|(refine St.xs h rfl rfl fun w h=> ?_;dsimp only [spl,over] at h)|refine IfB.yes ?_|refine IfB.no ?_|refine ⟨by first|omega|decide,?_⟩)
   subst h2
   exact hbad 242 _ _ h1 h.tl
 obtain ⟨at_,v,M,P,sum,many⟩:=m
 have hm0:=hm
 unfold MsOk at hm0
 dsimp only at hm0
 rcases hm0 with ⟨h1,h2⟩|⟨h1,h2,h3,h4,h5,h6⟩|⟨h1,h2,h3,h4,h5,h6,h7⟩|⟨h1,h2,h3,h4,h5,h6,h7,h8⟩|⟨h1,h2,h3,h4,h5,h6⟩
 ·cases h2
  exact main 0 n_header_mark rfl (by kernel_rfl) fun F' w K' h hK=>mark_c h hc hK
 ·subst h1 h3 h4 h5 h6
  exact main 1 n_header_many rfl (by kernel_rfl) fun F' w K' h hK=>many_c h hn2 h2 hc hK
 ·subst h1 h5 h6 h7
  exact main 2 n_header_index rfl (by kernel_rfl) fun F' w K' h hK=>index_c (M:=M) h (by omega) h4 hc hK
 ·subst h1 h6
  exact main 3 n_header_sum rfl (by kernel_rfl) fun F' w K' h hK=>sum_c h (.inl rfl) h7 h8 hc hK
 ·subst h1 h2 h3 h4
  exact main 4 n_header_sum rfl (by kernel_rfl) fun F' w K' h hK=>sum_c h (.inr ⟨rfl,rfl,rfl⟩) h5 h6 hc hK
end
end Go.Proofs.YtcdpblipagajiaaGreat
set_option maxRecDepth 20000
namespace Go.Vc
def rvN (l:List Nat) (i:Nat):List Nat:=(List.range l.length).map fun p=>if p<i∨l.length - i≤p then l.getD (l.length - 1 - p) 0 else l.getD p 0
theorem rvN_len (l:List Nat) (i:Nat):(rvN l i).length=l.length:=by unfold rvN;simp
theorem rvN_get {l:List Nat} {i p:Nat} (h:p<l.length):(rvN l i)[p]? =some (if p<i∨l.length - i≤p then l.getD (l.length - 1 - p) 0 else l.getD p 0):=by
 unfold rvN
 rw [List.getElem?_map,List.getElem?_range h];rfl
theorem rvN_zero (l:List Nat):rvN l 0=l:=by
 refine List.ext_getElem? fun p=> ?_
 by_cases h:p<l.length
 ·rw [rvN_get h,if_neg (by omega),List.getElem?_eq_getElem h,List.getD_eq_getElem?_getD,List.getElem?_eq_getElem h];rfl
 ·rw [List.getElem?_eq_none (by rw [rvN_len];omega),List.getElem?_eq_none (by omega)]
theorem rvN_step {l:List Nat} {i:Nat} (h:2*i+1<l.length):((rvN l i).set i (l.getD (l.length - 1 - i) 0)).set (l.length - 1 - i) (l.getD i 0)=rvN l (i+1):=by
 refine List.ext_getElem? fun p=> ?_
 by_cases hp:p<l.length
 ·rw [rvN_get hp,List.getElem?_set,List.getElem?_set,rvN_get hp]
  by_cases h1:l.length - 1 - i=p
  ·subst h1
   rw [if_pos rfl,if_pos (by rw [List.length_set,rvN_len];omega),if_pos (by omega),show l.length - 1 - (l.length - 1 - i)=i by omega]
  ·rw [if_neg h1]
   by_cases h2:i=p
   ·subst h2
    rw [if_pos rfl,if_pos (by rw [rvN_len];omega),if_pos (by omega)]
   ·rw [if_neg h2]
    by_cases h3:p<i∨l.length - i≤p
    ·rw [if_pos h3,if_pos (by omega)]
    ·rw [if_neg h3,if_neg (by omega)]
 ·rw [List.getElem?_eq_none (by rw [List.length_set,List.length_set,rvN_len];omega),List.getElem?_eq_none (by rw [rvN_len];omega)]
theorem rvN_end {l:List Nat} {i:Nat} (h:l.length≤2*i+1):rvN l i=l.reverse:=by
 refine List.ext_getElem? fun p=> ?_
 by_cases hp:p<l.length
 ·rw [rvN_get hp,List.getElem?_reverse hp]
  have e: ∀q,q<l.length→l[q]? =some (l.getD q 0):=fun q hq=>by rw [List.getD_eq_getElem?_getD,List.getElem?_eq_getElem hq];rfl
  rw [e _ (by omega)]
  by_cases h3:p<i∨l.length - i≤p
  ·rw [if_pos h3]
  ·rw [if_neg h3,show l.length - 1 - p=p by omega]
 ·rw [List.getElem?_eq_none (by rw [rvN_len];omega),List.getElem?_eq_none (by rw [List.length_reverse];omega)]
end Go.Vc
namespace Go.Proofs.YtcdpblipagajiaaGreat
open Go Go.Vc
section
variable {E w:World} {F:List HP}
theorem reverse_c {s:Sl} {l:List Nat} {K:World→Prop} (h:Hp E w (OwnS 1 s (l.map vB)::F)) (hbig:l.length≤big) (hK: ∀w',Hp E w' (OwnS 1 s (l.reverse.map vB)::F)→K w'):
  Cl Tryz.prog [] n_slices_Reverse_byte_byte ⟨[.slice s.base s.len s.cap]⟩ w K:=by
 refine slices_Reverse_byte_byte.ok _ _ _ ?_
 unfold slices_Reverse_byte_byte.E
 have hlen:=h.ownLen
 rw [List.length_map,Nat.mul_one] at hlen
 rw [big_eq] at hbig
 rw [i64_id (by omega)]
 refine ⟨fun i j w'=> ∃k:Nat,i=(k:Int)∧j=(l.length:Int) - 1 - (k:Int)∧k≤l.length∧Hp E w' (OwnS 1 s ((rvN l k).map vB)::F),fun i _ _=>l.length - i.toNat,⟨0,rfl,by omega,by omega,by rw [rvN_zero];exact h⟩,?_⟩
 rintro i j w ⟨k,rfl,rfl,hk,h⟩
 refine IfB.dm (fun hlt=> ?_) (fun hge=> ?_)
 ·have hg: ∀p,(hp:p<l.length)→((rvN l k).map vB)[p]? =some (vB (if p<k∨l.length - k≤p then l.getD (l.length - 1 - p) 0 else l.getD p 0)):=fun p hp=>by rw [List.getElem?_map,rvN_get hp];rfl
  have hj:((l.length:Int) - 1 - (k:Int)).toNat=l.length - 1 - k:=by omega
  refine Drw.mk h fun w h=> ?_
  refine Idx.rd (h.tells Tells.own) (by omega) (by omega) fun q hi hq=> ?_
  have e1:((rvN l k).map vB)[((l.length:Int) - 1 - (k:Int)).toNat]'hi=vB (l.getD (l.length - 1 - k) 0):=by
   have:=hg (l.length - 1 - k) (by omega)
   rw [if_neg (by omega)] at this
   rw [List.getElem_eq_iff,hj];exact this
  refine Ld.sc (s:= .int .u8) (l.getD (l.length - 1 - k) 0:Int) (by rw [hq,e1];rfl) ?_
  refine Idx.rd (h.tells Tells.own) (by omega) (by omega) fun q2 hi2 hq2=> ?_
  have e2:((rvN l k).map vB)[((k:Int)).toNat]'hi2=vB (l.getD k 0):=by
   have:=hg k (by omega)
   rw [if_neg (by omega)] at this
   rw [List.getElem_eq_iff,Int.toNat_natCast];exact this
  refine Ld.sc (s:= .int .u8) (l.getD k 0:Int) (by rw [hq2,e2];rfl) ?_
  refine St.own h (by omega) (by omega) rfl fun w h=> ?_
  refine St.own h (by omega) (by omega) rfl fun w h=> ?_
  rw [i64_id (by omega),i64_id (by omega)]
  refine ⟨⟨k+1,by omega,by omega,by omega,?_⟩,by first|omega|(dsimp only;omega)⟩
  rw [hj,Int.toNat_natCast] at h
  have e3:(((rvN l k).map vB).set k (.int .u8 (l.getD (l.length - 1 - k) 0:Int))).set (l.length - 1 - k) (.int .u8 (l.getD k 0:Int))=(rvN l (k+1)).map vB:=by
   rw [←rvN_step (by omega),List.map_set,List.map_set];rfl
  rw [e3] at h
  exact h
 ·rw [rvN_end (by omega)] at h
  exact hK _ h
end
end Go.Proofs.YtcdpblipagajiaaGreat
set_option maxRecDepth 20000
namespace Go.Proofs.YtcdpblipagajiaaGreat
open Go Go.Vc Go.Hd
section
variable {E w:World} {F:List HP}
theorem vput_c {n:Nat} {K:Sl→Int→World→Prop} (h:Hp E w F) (hn:n≤65536) (hK: ∀s w',Hp E w' (OwnS 1 s ((vput n).map vB)::F)→K s 0 w'):Cl Tryz.prog [kS,kI] n_varint_Put ⟨[.int .i64 (n:Int)]⟩ w K:=by
 refine varint_Put.ok _ _ _ ?_
 unfold varint_Put.E
 refine IfB.df (by omega) (IfB.df (by omega) ?_)
 have hm:IntKind.max .i64=9223372036854775807:=rfl
 have and127: ∀m:Nat,m≤65536→iand .i64 (m:Int) 127=((m % 128:Nat):Int):=fun m h=>by
  rw [show (127:Int)=((127:Nat):Int) from rfl,iand_nat (by omega) (by omega),show (127:Nat)=2^7 - 1 from rfl,Nat.and_two_pow_sub_one_eq_mod]
 have hshr: ∀m:Nat,ishr .i64 (m:Int) 7=((m/128:Nat):Int):=fun m=>by
  rw [show (7:Int)=((7:Nat):Int) from rfl,ishr_nat (by decide)]
 rw [and127 n hn,u8_id (by omega)]
 refine Nw.mk h fun b3 w h=> ?_
 refine run_append (s:=⟨none,0,0⟩) (ys:= [vB (n % 128)]) (n:=1) ty_bytes (by decide) (.inl ⟨5,by kernel_rfl⟩) (h.ownNil 1) (.inl ⟨some ⟨b3,0,none⟩,1,1,rfl,rfl,h.tells (Tells.blk rfl rfl)⟩) rfl vB_one (by decide) (by decide) fun s w h _=> ?_
 refine ⟨by decide,?_⟩
 rw [hshr]
 refine ⟨fun x s w'=> ∃(m:Nat) (l:List Nat),x=(m:Int)∧m≤512∧l.length+m≤513∧vgr m++l.reverse=vput n∧Hp E w' (OwnS 1 s (l.map vB)::F),fun x _ _=>x.toNat,⟨n/128,[n % 128],rfl,by omega,by simp;omega,rfl,h.p1.drop⟩,?_⟩
 rintro x s w ⟨m,l,rfl,hm5,hl,hv,h⟩
 refine IfB.dm (fun hlt=> ?_) (fun hge=> ?_)
 ·have hm0:0<m:=by omega
  have hor:ior .u8 ((m % 128:Nat):Int) 128=((128+m % 128:Nat):Int):=by
   have hm8:IntKind.max .u8=255:=rfl
   have e:=Nat.two_pow_add_eq_or_of_lt (i:=7) (b:=m % 128) (by omega) 1
   have e2:m % 128|||128=128+m % 128:=by rw [Nat.or_comm];exact e.symm
   rw [show (128:Int)=((128:Nat):Int) from rfl,ior_nat (by omega) (by omega) (by rw [e2];omega),e2]
  rw [and127 m (by omega),u8_id (by omega),hor]
  have hol:=h.ownLen
  rw [List.length_map,Nat.mul_one] at hol
  refine Nw.mk h fun b12 w h=> ?_
  refine run_append (ys:= [vB (128+m % 128)]) (n:=1) ty_bytes (by decide) (.inl ⟨5,by kernel_rfl⟩) h.p1 (.inl ⟨some ⟨b12,0,none⟩,1,1,rfl,rfl,h.tells (Tells.blk rfl rfl)⟩) rfl vB_one (by omega) (by omega) fun s w h _=> ?_
  refine ⟨by decide,?_⟩
  rw [hshr]
  refine ⟨⟨m/128,l++ [128+m % 128],rfl,by omega,by rw [List.length_append,List.length_singleton];omega,?_,by rw [List.map_append];exact h.p1.drop⟩,by first|omega|(dsimp only;omega)⟩
  rw [List.reverse_append,←hv,vgr_pos hm0]
  simp
 ·have hm0:m=0:=by omega
  subst hm0
  rw [vgr_zero,List.nil_append] at hv
  refine reverse_c h (by rw [big_eq];omega) fun w h=>hK s w ?_
  rw [hv] at h
  exact h
end
end Go.Proofs.YtcdpblipagajiaaGreat
namespace Go.Proofs.YtcdpblipagajiaaGreat
open Go Go.Vc
def crc_Of.E (parts1:Sl) (R:Int→World→Prop) (w:World):Prop:=
 Cl Tryz.prog [(kInt .u32)] n_crc_Feed ⟨[(.int .u32 0),(.slice parts1.base parts1.len parts1.cap)]⟩ w fun (r3:Int) (w_2:World)=>
 R (r3) w_2
theorem crc_Of.ok (parts1:Sl) (R:Int→World→Prop) (w:World) (h:crc_Of.E parts1 R w):Cl Tryz.prog [(kInt .u32)] n_crc_Of ⟨[(.slice parts1.base parts1.len parts1.cap)]⟩ w R:=
 calls_of_eq Tryz.mix Tryz.f43 [(.slice parts1.base parts1.len parts1.cap)] [(kInt .u32)] R 5 [.tmp 2] (by kernel_rfl) (by kernel_rfl) (by kernel_rfl) (by kernel_rfl) (by kernel_rfl)
  (.s .o (.s .o .o))
  (by kernel_rfl) h
def crc_Put.E (c1:Int) (R:Sl→World→Prop) (w:World):Prop:=
 Nw 184 ⟨[(.int .u8 0),(.int .u8 0),(.int .u8 0),(.int .u8 0)]⟩ w fun (b3:Nat) (w_2:World)=>
 ∃(I_4:Int→World→Prop) (m_5:Int→World→Nat),I_4 (0) w_2∧
 ∀(t5_6:Int),∀(w_7:World),I_4 t5_6 w_7→
 IfB (decide ((t5_6:Int)<(4:Int)))
 (0≤((i64 ((24:Int) - ((i64 ((8:Int)*(t5_6:Int))):Int))):Int)∧
 IdxP (⟨b3,0,none⟩:Addr) 4 t5_6 1 fun (q8:Addr)=>
 St q8 (.int .u8 (u8 (ishr .u32 (c1:Int) ((i64 ((24:Int) - ((i64 ((8:Int)*(t5_6:Int))):Int))):Int)))) w_7 fun (w_9:World)=>
 I_4 ((i64 ((t5_6:Int)+(1:Int)))) w_9∧m_5 ((i64 ((t5_6:Int)+(1:Int)))) w_9<m_5 t5_6 w_7)
 (Slc (⟨some (⟨b3,0,none⟩:Addr),4,4⟩:Sl) 0 4 4 1 fun (s10:Sl)=>
 R (s10) w_7)
theorem crc_Put.ok (c1:Int) (R:Sl→World→Prop) (w:World) (h:crc_Put.E c1 R w):Cl Tryz.prog [kS] n_crc_Put ⟨[(.int .u32 c1)]⟩ w R:=
 calls_of_eq Tryz.mix Tryz.f87 [(.int .u32 c1)] [kS] R 18 [.tmp 2] (by kernel_rfl) (by kernel_rfl) (by kernel_rfl) (by kernel_rfl) (by kernel_rfl)
  (.s .o (.s .o (.s (.s .o (.b (.l [(5,kI)] (.s .o (.s (.c .o .o) (.s (.b (.s .o .o)) .o)))))) (.s .o .o))))
  (by kernel_rfl) h
set_option maxRecDepth 100000 in
def crc_Feed.E (c1:Int) (parts2:Sl) (R:Int→World→Prop) (w:World):Prop:=
 Cl Tryz.prog [(.arr 256)] n_crc_Table ⟨[]⟩ w fun (r4:(Array Value)) (w_3:World)=>
 Nw 185 ⟨List.replicate 256 (.int .u32 0)⟩ w_3 fun (b6:Nat) (w_5:World)=>
 StA 256 (⟨b6,0,none⟩:Addr) r4 w_5 fun (w_7:World)=>
 ∃(I_8:Int→Int→World→Prop) (m_9:Int→Int→World→Nat),I_8 ((ixor .u32 (if IntKind.signed .u32 then -1 else IntKind.max .u32) c1)) (0) w_7∧
 ∀(c10:Int) (t15_11:Int),∀(w_12:World),I_8 c10 t15_11 w_12→
 IfB (decide ((t15_11:Int)<((parts2.len:Int):Int)))
 (Idx parts2 t15_11 1 fun (q13:Addr)=>
 Ld kS q13 w_12 fun (x14:Sl)=>
 ∃(I_15:Int→Int→World→Prop) (m_16:Int→Int→World→Nat),I_15 (c10) (0) w_12∧
 ∀(c17:Int) (t21_18:Int),∀(w_19:World),I_15 c17 t21_18 w_19→
 IfB (decide ((t21_18:Int)<((x14.len:Int):Int)))
 (Idx x14 t21_18 1 fun (q20:Addr)=>
 Ld (kInt .u8) q20 w_19 fun (x21:Int)=>
 IdxP (⟨b6,0,none⟩:Addr) 256 (ixor .u8 ((u8 c17):Int) (x21:Int)) 1 fun (q22:Addr)=>
 Ld (kInt .u32) q22 w_19 fun (x23:Int)=>
 0≤(8:Int)∧
 I_15 ((ixor .u32 (x23:Int) ((ishr .u32 (c17:Int) (8:Int)):Int))) ((i64 ((t21_18:Int)+(1:Int)))) w_19∧m_16 ((ixor .u32 (x23:Int) ((ishr .u32 (c17:Int) (8:Int)):Int))) ((i64 ((t21_18:Int)+(1:Int)))) w_19<m_16 c17 t21_18 w_19)
 (I_8 (c17) ((i64 ((t15_11:Int)+(1:Int)))) w_19∧m_9 (c17) ((i64 ((t15_11:Int)+(1:Int)))) w_19<m_9 c10 t15_11 w_12))
 (R ((ixor .u32 (if IntKind.signed .u32 then -1 else IntKind.max .u32) c10)) w_12)
set_option maxRecDepth 100000 in
theorem crc_Feed.ok (c1:Int) (parts2:Sl) (R:Int→World→Prop) (w:World) (h:crc_Feed.E c1 parts2 R w):Cl Tryz.prog [(kInt .u32)] n_crc_Feed ⟨[(.int .u32 c1),(.slice parts2.base parts2.len parts2.cap)]⟩ w R:=
 calls_of_eq Tryz.mix Tryz.f88 [(.int .u32 c1),(.slice parts2.base parts2.len parts2.cap)] [(kInt .u32)] R 38 [.tmp 4] (by kernel_rfl) (by kernel_rfl) (by kernel_rfl) (by kernel_rfl) (by kernel_rfl)
  (.s .o (.s .o (.s .o (.s (.s .o (.b (.l [(0,(kInt .u32)),(15,kI)] (.s .o (.s (.c .o .o) (.s (.b (.s .o (.s .o (.b (.l [(0,(kInt .u32)),(21,kI)] (.s .o (.s (.c .o .o) (.s (.b (.s .o .o)) .o)))))))) .o)))))) (.s .o .o)))))
  (by kernel_rfl) h
set_option maxRecDepth 100000 in
def crc_Table.E (R:(Array Value)→World→Prop) (w:World):Prop:=
 Nw 185 ⟨List.replicate 256 (.int .u32 0)⟩ w fun (b2:Nat) (w_1:World)=>
 ∃(I_3:Int→World→Prop) (m_4:Int→World→Nat),I_3 (0) w_1∧
 ∀(t2_5:Int),∀(w_6:World),I_3 t2_5 w_6→
 IfB (decide ((t2_5:Int)<(256:Int)))
 (Cl Tryz.prog [(kInt .u32)] n_crc_row ⟨[(.int .u8 (u8 t2_5))]⟩ w_6 fun (r8:Int) (w_7:World)=>
 IdxP (⟨b2,0,none⟩:Addr) 256 t2_5 1 fun (q9:Addr)=>
 St q9 (.int .u32 r8) w_7 fun (w_10:World)=>
 I_3 ((i64 ((t2_5:Int)+(1:Int)))) w_10∧m_4 ((i64 ((t2_5:Int)+(1:Int)))) w_10<m_4 t2_5 w_6)
 (Ld (.arr 256) (⟨b2,0,none⟩:Addr) w_6 fun (x11:(Array Value))=>
 StA 256 (⟨b2,0,none⟩:Addr) x11 w_6 fun (w_12:World)=>
 Ld (.arr 256) (⟨b2,0,none⟩:Addr) w_12 fun (res13:(Array Value))=>
 R (res13) w_12)
set_option maxRecDepth 100000 in
theorem crc_Table.ok (R:(Array Value)→World→Prop) (w:World) (h:crc_Table.E R w):Cl Tryz.prog [(.arr 256)] n_crc_Table ⟨[]⟩ w R:=
 calls_of_eq Tryz.mix Tryz.f132 [] [(.arr 256)] R 12 [.cell 0 185] (by kernel_rfl) (by kernel_rfl) (by kernel_rfl) (by kernel_rfl) (by kernel_rfl)
  (.s .o (.s (.s .o (.b (.l [(2,kI)] (.s .o (.s (.c .o .o) (.s (.b (.s .o .o)) .o)))))) (.s .o .o)))
  (by kernel_rfl) h
def crc_row.E (b1:Int) (R:Int→World→Prop) (w:World):Prop:=
 ∃(I_2:Int→Int→World→Prop) (m_3:Int→Int→World→Nat),I_2 ((u32 b1)) (0) w∧
 ∀(c4:Int) (t6_5:Int),∀(w_6:World),I_2 c4 t6_5 w_6→
 IfB (decide ((t6_5:Int)<(8:Int)))
 (0≤(1:Int)∧
 I_2 ((ixor .u32 ((ishr .u32 (c4:Int) (1:Int)):Int) ((u32 ((3988292384:Int)*((iand .u32 (c4:Int) (1:Int)):Int))):Int))) ((i64 ((t6_5:Int)+(1:Int)))) w_6∧m_3 ((ixor .u32 ((ishr .u32 (c4:Int) (1:Int)):Int) ((u32 ((3988292384:Int)*((iand .u32 (c4:Int) (1:Int)):Int))):Int))) ((i64 ((t6_5:Int)+(1:Int)))) w_6<m_3 c4 t6_5 w_6)
 (R (c4) w_6)
theorem crc_row.ok (b1:Int) (R:Int→World→Prop) (w:World) (h:crc_row.E b1 R w):Cl Tryz.prog [(kInt .u32)] n_crc_row ⟨[(.int .u8 b1)]⟩ w R:=
 calls_of_eq Tryz.mix Tryz.f172 [(.int .u8 b1)] [(kInt .u32)] R 16 [.tmp 2] (by kernel_rfl) (by kernel_rfl) (by kernel_rfl) (by kernel_rfl) (by kernel_rfl)
  (.s .o (.s .o (.s (.s .o (.b (.l [(3,(kInt .u32)),(6,kI)] (.s .o (.s (.c .o .o) (.s (.b .o) .o)))))) (.s .o .o))))
  (by kernel_rfl) h
end Go.Proofs.YtcdpblipagajiaaGreat
namespace Go.Crc
theorem half_mul (c:Nat):(c/2)^^^(3988292384*(c % 2))=half c:=by
 unfold half
 rcases Nat.mod_two_eq_zero_or_one c with e|e
 ·rw [e];rfl
 ·rw [e];rfl
def halves:Nat→Nat→Nat
 |0,c=>c
 |k+1,c=>half (halves k c)
theorem halves_lt: ∀(k c:Nat),c<4294967296→halves k c<4294967296
 |0,_,h=>h
 |k+1,c,h=>half_lt (halves_lt k c h)
end Go.Crc
namespace Go.Proofs.YtcdpblipagajiaaGreat
open Go Go.Vc Go.Crc
section
variable {E w:World} {F:List HP}
theorem crow_c {b:Nat} {K:Int→World→Prop} (hb:b<256) (hK:K (row b:Int) w):Cl Tryz.prog [kInt .u32] n_crc_row ⟨[.int .u8 (b:Int)]⟩ w K:=by
 refine crc_row.ok _ _ _ ?_
 unfold crc_row.E
 refine ⟨fun c i w'=>w'=w∧∃k:Nat,i=(k:Int)∧k≤8∧c=(halves k b:Int),fun _ i _=>8 - i.toNat,⟨rfl,0,rfl,by omega,by rw [u32_id (by omega)];rfl⟩,?_⟩
 rintro c i w' ⟨rfl,k,rfl,hk,rfl⟩
 refine IfB.dm (fun hlt=> ?_) (fun hge=> ?_)
 ·have hlt:k<8:=by omega
  have hb:=halves_lt k b (by omega)
  have hm:IntKind.max .u32=4294967295:=rfl
  have h2:=half_lt hb
  have e1:ishr .u32 (halves k b:Int) 1=((halves k b/2:Nat):Int):=by
   rw [show (1:Int)=((1:Nat):Int) from rfl,ishr_nat (by decide)]
  have e2:iand .u32 (halves k b:Int) 1=((halves k b % 2:Nat):Int):=by
   rw [show (1:Int)=((1:Nat):Int) from rfl,iand_nat (by omega) (by omega),Nat.and_one_is_mod]
  have e3:u32 ((3988292384:Int)*((halves k b % 2:Nat):Int))=((3988292384*(halves k b % 2):Nat):Int):=by
   rw [u32_id (by omega)];omega
  have e4:ixor .u32 ((halves k b/2:Nat):Int) ((3988292384*(halves k b % 2):Nat):Int)=(halves (k+1) b:Int):=by
   have hh:=half_mul (halves k b)
   rw [ixor_nat (by omega) (by omega) (by rw [hh];omega),hh];rfl
  rw [e1,e2,e3,e4,i64_id (by omega)]
  exact ⟨by decide,⟨rfl,k+1,rfl,by omega,rfl⟩,by dsimp only;omega⟩
 ·have:k=8:=by omega
  subst this
  exact hK
def ctab:List Nat:=(List.range 256).map row
theorem ctab_len:ctab.length=256:=by unfold ctab;simp
theorem ctab_get {b:Nat} (h:b<256):ctab[b]? =some (row b):=by unfold ctab;rw [List.getElem?_map,List.getElem?_range h];rfl
abbrev wdV (l:List Nat):List Value:=l.map fun (n:Nat)=>Value.int .u32 (n:Int)
theorem wdV_scalar {l:List Nat}:(wdV l).all scalarB=true:=by
 unfold wdV
 rw [List.all_map]
 exact List.all_eq_true.2 fun _ _=>rfl
set_option maxRecDepth 20000
theorem ctab_c {K:Array Value→World→Prop} (h:Hp E w F) (hK: ∀w',Hp E w' F→K ⟨wdV ctab⟩ w'):Cl Tryz.prog [.arr 256] n_crc_Table ⟨[]⟩ w K:=by
 refine crc_Table.ok _ _ ?_
 unfold crc_Table.E
 refine Nw.mk h fun b2 w h=> ?_
 have hlen: ∀k,k≤256→(wdV (ctab.take k++List.replicate (256 - k) 0)).length=256:=fun k hk=>by simp [ctab_len];omega
 refine ⟨fun i w'=> ∃k:Nat,i=(k:Int)∧k≤256∧Hp E w' (Blk b2 (.cells ⟨wdV (ctab.take k++List.replicate (256 - k) 0)⟩ 185 (0,0))::F),fun i _=>256 - i.toNat,⟨0,rfl,by omega,by
  have:(⟨wdV (ctab.take 0++List.replicate (256 - 0) 0)⟩:Array Value)=⟨List.replicate 256 (.int .u32 0)⟩:=by simp
  rw [this];exact h⟩,?_⟩
 rintro i w ⟨k,rfl,hk,h⟩
 refine IfB.dm (fun hlt=> ?_) (fun hge=> ?_)
 ·have hlt:k<256:=by omega
  rw [u8_id (by omega)]
  refine crow_c hlt ?_
  refine ⟨by omega,by omega,?_⟩
  rw [show ((k:Int)).toNat*1=k by omega]
  simp only [add_mk,Nat.zero_add]
  have hkl:=hlen k (by omega)
  refine St.xb h (by show k<(wdV (ctab.take k++List.replicate (256 - k) 0)).length;omega) rfl fun w h=> ?_
  rw [i64_id (by omega)]
  refine ⟨⟨k+1,rfl,by omega,?_⟩,by first|omega|(dsimp only;omega)⟩
  have e:(⟨wdV (ctab.take k++List.replicate (256 - k) 0)⟩:Array Value).setIfInBounds k (.int .u32 (row k:Int))=⟨wdV (ctab.take (k+1)++List.replicate (256 - (k+1)) 0)⟩:=by
   apply Array.ext'
   rw [Array.toList_setIfInBounds]
   have:(wdV (ctab.take k++List.replicate (256 - k) 0)).set k (.int .u32 (row k:Int))=wdV ((ctab.take k++List.replicate (256 - k) 0).set k (row k)):=by rw [wdV,wdV,List.map_set]
   have hl:(ctab.take k).length=k:=by rw [List.length_take,ctab_len];omega
   rw [this,List.set_append_right _ _ (by omega),hl,Nat.sub_self]
   obtain ⟨m,hm⟩: ∃m,256 - k=m+1:=⟨255 - k,by omega⟩
   rw [hm,List.replicate_succ,List.set_cons_zero,List.take_add_one,ctab_get hlt,show 256 - (k+1)=m by omega]
   simp
  rw [e] at h
  exact h
 ·have hk2:k=256:=by omega
  subst hk2
  have e:(⟨wdV (ctab.take 256++List.replicate (256 - 256) 0)⟩:Array Value)=⟨wdV ctab⟩:=by
   rw [List.take_of_length_le (by rw [ctab_len];omega)];simp
  rw [e] at h
  have hn:(⟨wdV ctab⟩:Array Value).size=256:=by simp [ctab_len]
  refine Ld.xw h hn ?_
  refine StA.q h hn hn wdV_scalar fun w h=> ?_
  exact Ld.xw h hn (hK _ h.tl)
theorem max32:(if IntKind.signed .u32 then (-1:Int) else IntKind.max .u32)=((4294967295:Nat):Int):=rfl
theorem not32 {c:Nat} (h:c<4294967296):ixor .u32 (if IntKind.signed .u32 then (-1:Int) else IntKind.max .u32) (c:Int)=((c^^^4294967295:Nat):Int):=by
 have hm:IntKind.max .u32=4294967295:=rfl
 have hx:4294967295^^^c<2^32:=Nat.xor_lt_two_pow (by decide) (by omega)
 rw [max32,ixor_nat (by omega) (by omega) (by omega),Nat.xor_comm]
theorem cstep_eq {c x:Nat} (hc:c<4294967296) (hx:x<256):ixor .u8 (u8 (c:Int)) (x:Int)=((c % 256^^^x:Nat):Int):=by
 have hm:IntKind.max .u8=255:=rfl
 have h2:c % 256^^^x<2^8:=Nat.xor_lt_two_pow (by omega) (by omega)
 rw [u8_mod,show ((c:Int) % 256)=((c % 256:Nat):Int) by omega,ixor_nat (by omega) (by omega) (by omega)]
theorem cidx_lt {c x:Nat} (hx:x<256):c % 256^^^x<256:=by
 have:c % 256^^^x<2^8:=Nat.xor_lt_two_pow (by omega) (by omega)
 omega
theorem cstep2_eq {c x:Nat} (hc:c<4294967296) (hx:x<256):ixor .u32 (row (c % 256^^^x):Int) (ishr .u32 (c:Int) 8)=(Crc.step c x:Int):=by
 have hm:IntKind.max .u32=4294967295:=rfl
 have hr:=row_lt (c:=c % 256^^^x) (by have:=cidx_lt (c:=c) hx;omega)
 have hs:=step_lt hc hx
 unfold Crc.step at hs⊢
 rw [show (8:Int)=((8:Nat):Int) from rfl,ishr_nat (by decide),show (2:Nat)^8=256 from rfl,ixor_nat (by omega) (by omega) (by omega)]
end
end Go.Proofs.YtcdpblipagajiaaGreat
namespace Go.Proofs.YtcdpblipagajiaaGreat
open Go Go.Vc Go.Bits
section
variable {E w:World} {F:List HP}
set_option maxRecDepth 20000
theorem flat_next {bs:List (List Nat)} {k:Nat} (h:k<bs.length):(bs.take (k+1)).flatten=(bs.take k).flatten++bs.getD k []:=by
 rw [List.take_add_one,List.flatten_append]
 congr 1
 simp [h]
theorem wdget {b:Nat} (h:b<256):(⟨wdV ctab⟩:Array Value)[b]? =some (Sc.enc (.int .u32) (Crc.row b:Int)):=by
 rw [List.getElem?_toArray,wdV,List.getElem?_map,ctab_get h];rfl
theorem cfeed_c {c:Nat} {K:Int→World→Prop} {s:Sl} {cs:List Sl} {bs:List (List Nat)} (h:Hp E w F) (hc0:c<4294967296)
  (hs:Tells F (SlT 1 s (cs.map fun x=> .slice x.base x.len x.cap))) (hl:cs.length=bs.length) (hcl:cs.length≤big) (hc: ∀i (h:i<cs.length),Tells F (SlT 1 cs[i] ((bs.getD i []).map vB)))
  (hby: ∀b∈bs,∀y∈b,y<256) (hbig: ∀b∈bs,b.length≤big)
  (hK: ∀w',Hp E w' F→K ((Crc.feed (c^^^4294967295) bs.flatten^^^4294967295:Nat):Int) w'):Cl Tryz.prog [kInt .u32] n_crc_Feed ⟨[.int .u32 (c:Int),.slice s.base s.len s.cap]⟩ w K:=by
 refine crc_Feed.ok _ _ _ _ ?_
 unfold crc_Feed.E
 have hlen:s.len=cs.length:=by have:=(h.tells hs).1;simpa using this.symm
 have hflat: ∀y∈bs.flatten,y<256:=fun y hy=>by
  obtain ⟨b,hb1,hb2⟩:=List.mem_flatten.1 hy
  exact hby b hb1 y hb2
 have hc1:c^^^4294967295<4294967296:=Nat.xor_lt_two_pow (n:=32) hc0 (by decide)
 rw [big_eq] at hcl
 refine ctab_c h fun w h=>Nw.mk h fun b6 w h=> ?_
 have hn:(⟨wdV ctab⟩:Array Value).size=256:=by simp [ctab_len]
 refine StA.q h (by simp) hn wdV_scalar fun w h=> ?_
 rw [not32 hc0]
 refine ⟨fun x i w'=> ∃k:Nat,i=(k:Int)∧k≤cs.length∧x=(Crc.feed (c^^^4294967295) (bs.take k).flatten:Int)∧Hp E w' (Blk b6 (.cells ⟨wdV ctab⟩ 185 (0,0))::F),fun _ i _=>cs.length - i.toNat,⟨0,rfl,by omega,rfl,h⟩,?_⟩
 rintro x i w ⟨k,rfl,hk,rfl,h⟩
 refine IfB.dm (fun hlt=> ?_) (fun hge=> ?_)
 ·have hlt:k<cs.length:=by omega
  have hkb:k<bs.length:=by omega
  refine Idx.rd (h.tl.tells hs) (by omega) (by omega) fun q hi hq=> ?_
  have hq':w.cell? q=some (Sc.sl.enc cs[k]):=by simpa using hq
  refine Ld.sc _ hq' ?_
  have hgd:bs.getD k []=bs[k]:=by rw [List.getD_eq_getElem?_getD,List.getElem?_eq_getElem hkb];rfl
  have hck:=hc k hlt
  rw [hgd] at hck
  have hmem:=List.getElem_mem hkb
  have hblen:=hbig _ hmem
  rw [big_eq] at hblen
  have hlk:=(h.tl.tells hck).1
  simp only [List.length_map,Nat.mul_one] at hlk
  refine ⟨fun x i w'=> ∃j:Nat,i=(j:Int)∧j≤bs[k].length∧x=(Crc.feed (c^^^4294967295) ((bs.take k).flatten++bs[k].take j):Int)∧Hp E w' (Blk b6 (.cells ⟨wdV ctab⟩ 185 (0,0))::F),fun _ i _=>bs[k].length - i.toNat,⟨0,rfl,by omega,by simp,h⟩,?_⟩
  rintro x i w ⟨j,rfl,hj,rfl,h⟩
  have hpre: ∀y∈(bs.take k).flatten++bs[k].take j,y<256:=fun y hy=>by
   rcases List.mem_append.1 hy with hy|hy
   ·obtain ⟨b,hb1,hb2⟩:=List.mem_flatten.1 hy
    exact hby b (List.mem_of_mem_take hb1) y hb2
   ·exact hby _ hmem y (List.mem_of_mem_take hy)
  have hfl:=Crc.feed_lt _ _ hc1 hpre
  refine IfB.dm (fun hlt2=> ?_) (fun hge2=> ?_)
  ·have hjl:j<bs[k].length:=by omega
   have hy:=hby _ hmem _ (List.getElem_mem hjl)
   refine Idx.rd (h.tl.tells hck) (by omega) (by omega) fun q hi hq=> ?_
   refine Ld.sc (s:= .int .u8) (bs[k][j]:Int) (by simpa [vB] using hq) ?_
   rw [cstep_eq hfl hy]
   refine IdxP.rd (s:= .int .u32) h (by omega) (by have:=cidx_lt (c:=Crc.feed (c^^^4294967295) ((bs.take k).flatten++bs[k].take j)) hy;omega) (Crc.row (Crc.feed (c^^^4294967295) ((bs.take k).flatten++bs[k].take j) % 256^^^bs[k][j]):Int) ?_ ?_
   ·rw [Int.toNat_natCast]
    exact wdget (cidx_lt (c:=Crc.feed (c^^^4294967295) ((bs.take k).flatten++bs[k].take j)) hy)
   rw [cstep2_eq hfl hy,i64_id (by omega)]
   refine ⟨by decide,⟨j+1,rfl,by omega,?_,h⟩,by first|omega|(dsimp only;omega)⟩
   rw [List.take_add_one,List.getElem?_eq_getElem hjl,←List.append_assoc,Crc.feed_app ((bs.take k).flatten++bs[k].take j)];rfl
  ·have hjl:j=bs[k].length:=by omega
   subst hjl
   rw [i64_id (by omega),List.take_length]
   exact ⟨⟨k+1,rfl,by omega,by rw [flat_next hkb,hgd],h⟩,by first|omega|(dsimp only;omega)⟩
 ·have hkl:k=bs.length:=by omega
  subst hkl
  rw [List.take_length]
  have hfl:=Crc.feed_lt _ _ hc1 hflat
  rw [not32 hfl]
  exact hK _ h.tl
theorem cof_c {K:Int→World→Prop} {s:Sl} {cs:List Sl} {bs:List (List Nat)} (h:Hp E w F)
  (hs:Tells F (SlT 1 s (cs.map fun x=> .slice x.base x.len x.cap))) (hl:cs.length=bs.length) (hcl:cs.length≤big) (hc: ∀i (h:i<cs.length),Tells F (SlT 1 cs[i] ((bs.getD i []).map vB)))
  (hby: ∀b∈bs,∀y∈b,y<256) (hbig: ∀b∈bs,b.length≤big)
  (hK: ∀w',Hp E w' F→K (Crc.crc bs.flatten:Int) w'):Cl Tryz.prog [kInt .u32] n_crc_Of ⟨[.slice s.base s.len s.cap]⟩ w K:=by
 refine crc_Of.ok _ _ _ ?_
 unfold crc_Of.E
 exact cfeed_c (c:=0) h (by decide) hs hl hcl hc hby hbig hK
end
end Go.Proofs.YtcdpblipagajiaaGreat
