/- Texts packed together by program; spaces struck by program. Conditions: as each theorem states. -/
import Derived.Carry
import Derived.OpenShut
import Derived.ProofKit
import Derived.SizedLaws
import Derived.Test.YtcdpblipagajiaaGreatQcd
set_option linter.unusedSimpArgs false
set_option linter.unusedVariables false
namespace Go.Sym
def km (d:DS):Prop:=aZ d.L∧d.left≤65536∧d.run≤d.left∧2^d.digits - 1≤d.run∧d.run≤2*(2^d.digits - 1)
theorem km.bK {d:DS} (h:km d):d.digits≤16:=by
 obtain ⟨_,h2,h3,h4,_⟩:=h
 rcases Nat.lt_or_ge d.digits 17 with hh|hh
 ·omega
 ·have:2^17≤2^d.digits:=Nat.pow_le_pow_right (by decide) hh
  omega
set_option maxRecDepth 20000 in
theorem km.zero {m:Nat} (hm:m≤65536):km ⟨List.range 256,m,0,0⟩:=⟨.range,hm,by simp,by simp,by simp⟩
theorem Bg {d d':DS} {s:Nat} {t:List Nat} (h:km d) (hs:s<258) (he:cH d s=some (d',t,false)):km d'∧(∀x∈t,x<256)∧t.length+d'.left≤d.left:=by
 obtain ⟨L,left,run,digits⟩:=d
 obtain ⟨h1,h2,h3,h4,h5⟩:=h
 unfold cH at he
 dsimp only at h1 h2 h3 h4 h5 he
 split at he
 ·split at he
  ·rename_i hs2 hle
   simp only [Option.some.injEq,Prod.mk.injEq] at he
   obtain ⟨rfl,rfl,_⟩:=he
   have hp:=Nat.two_pow_pos digits
   refine ⟨⟨h1,h2,hle,?_,?_⟩,by simp,by simp⟩
   ·dsimp only
    rw [Nat.pow_succ]
    have:=Nat.mul_le_mul_right (2^digits) (show 1≤1+s by omega)
    omega
   ·dsimp only
    rw [Nat.pow_succ]
    have:=Nat.mul_le_mul_right (2^digits) (show 1+s≤2 by omega)
    omega
  ·cases he
 ·split at he
  ·split at he
   ·simp at he
   ·cases he
  ·split at he
   ·cases he
   ·rename_i hs2 hs3 hne
    simp only [Option.some.injEq,Prod.mk.injEq] at he
    obtain ⟨rfl,rfl,_⟩:=he
    refine ⟨⟨h1.take (by omega),by dsimp only;omega,by simp,by simp,by simp⟩,?_,?_⟩
    ·intro x hx
     rcases List.mem_append.1 hx with hx|hx
     ·rw [(List.mem_replicate.1 hx).2];exact h1.get (by omega)
     ·rw [List.mem_singleton] at hx;rw [hx];exact h1.get (by omega)
    ·simp;omega
theorem FZ {d d':DS} {s:Nat} {t:List Nat} (h:km d) (he:cH d s=some (d',t,true)):(∀x∈t,x<256)∧t.length≤d.left:=by
 obtain ⟨L,left,run,digits⟩:=d
 obtain ⟨h1,h2,h3,h4,h5⟩:=h
 unfold cH at he
 dsimp only at h1 h2 h3 h4 h5 he
 split at he
 ·split at he
  ·simp at he
  ·cases he
 ·split at he
  ·split at he
   ·simp only [Option.some.injEq,Prod.mk.injEq] at he
    obtain ⟨rfl,rfl,_⟩:=he
    refine ⟨fun x hx=> ?_,by simp;omega⟩
    rw [(List.mem_replicate.1 hx).2];exact h1.get (by omega)
   ·cases he
  ·split at he
   ·cases he
   ·simp at he
end Go.Sym
namespace Go.Proofs.YtcdpblipagajiaaGreat
open Go Go.Vc Go.Inc Go.Sym
abbrev gQ (L:List Nat) (left run digits:Int) (d:Bool):Array Value:=⟨bh L++ [.int .i64 left,.int .i64 run,.int .i64 digits,.bool d]⟩
theorem bb {L:List Nat} {a b c:Int} {d:Bool}:(gQ L a b c d).toList.all ax=true:=by
 unfold gQ
 rw [List.all_append,cQ]
 rfl
theorem aU {L:List Nat} {a b c:Int} {d:Bool} (h:L.length=256):(gQ L a b c d).size=260:=by simp [h]
section
variable {E w:World} {F:List HP}
theorem Ds:bJ Tryz.prog 22 5 1 1:=bJ.of (by kernel_rfl) (by kernel_rfl)
abbrev BT:Nat→Option (Nat×Nat):=(#[(0,256),(256,1),(257,1),(258,1),(259,1)][·]?)
theorem xT (ps:List (Nat×Value)):Tryz.prog.built 149 ps=Instr.fill BT ⟨List.replicate 256 (.int .u8 0)++ [.int .i64 0,.int .i64 0,.int .i64 0,.bool false]⟩ ps:=by kernel_rfl
theorem yB {L:List Nat} (hl:L.length=256) (rest:List (Nat×Value)):Instr.fill BT ⟨List.replicate 256 (.int .u8 0)++ [.int .i64 0,.int .i64 0,.int .i64 0,.bool false]⟩ ((0,.agg ⟨bh L⟩)::rest)=Instr.fill BT (gQ L 0 0 0 false) rest:=by
 have:=gd (place:=BT) (i:=0) (v:= .agg ⟨bh L⟩) (rest:=rest) (pre:= []) (mid:=List.replicate 256 (.int .u8 0)) (post:= [.int .i64 0,.int .i64 0,.int .i64 0,.bool false]) rfl rfl List.length_replicate (by show (⟨bh L⟩:Array Value).size=_;simp [hl])
 exact this
theorem cP.Kw {L:List Nat} {m:Int} {K:Array Value→Prop} (hl:L.length=256) (hK:K (gQ L m 0 0 false)):cP Tryz.prog 149 [(0,.agg ⟨bh L⟩),(1,.int .i64 m)] K:=by
 refine ⟨_,?_,hK⟩
 rw [xT,yB hl]
 have:=gd (place:=BT) (i:=1) (v:= .int .i64 m) (rest:= []) (pre:=bh L) (mid:= [.int .i64 0]) (post:= [.int .i64 0,.int .i64 0,.bool false]) rfl (by simp [hl]) rfl rfl
 unfold gQ
 rw [show bh L++ [.int .i64 (0:Int),.int .i64 0,.int .i64 0,.bool false]=bh L++ [.int .i64 0]++ [.int .i64 0,.int .i64 0,.bool false] by simp,this]
 simp [Value.cells,Instr.fill]
theorem cP.KS {L:List Nat} {K:Array Value→Prop} (hl:L.length=256) (hK:K (gQ L 0 0 0 true)):cP Tryz.prog 149 [(0,.agg ⟨bh L⟩),(4,.bool true)] K:=by
 refine ⟨_,?_,hK⟩
 rw [xT,yB hl]
 have:=gd (place:=BT) (i:=4) (v:= .bool true) (rest:= []) (pre:=bh L++ [.int .i64 0,.int .i64 0,.int .i64 0]) (mid:= [.bool false]) (post:= []) rfl (by simp [hl]) rfl rfl
 unfold gQ
 rw [show bh L++ [.int .i64 (0:Int),.int .i64 0,.int .i64 0,.bool false]=bh L++ [.int .i64 0,.int .i64 0,.int .i64 0]++ [.bool false]++ [] by simp,this]
 simp [Value.cells,Instr.fill]
set_option maxRecDepth 20000
theorem HC {m:Nat} {K:Array Value→World→Prop} (h:Hp E w F) (hm:1≤m) (hm2:m≤65536) (hK: ∀w',Hp E w' F→K (gQ (List.range 256) (m:Int) 0 0 false) w'):Cl Tryz.prog [.arr 260] mD ⟨[.int .i64 (m:Int)]⟩ w K:=by
 refine CX.ok _ _ _ ?_
 (try simp only [aB,av,aq,Nat.zero_add,Nat.add_zero,Nat.reduceAdd,Bool.not_true,Bool.not_false,aR,aS,Option.isNone])
 refine Nw.mk h fun b3 w h=>aa.df (by omega) (aa.df (by omega) ?_)
 refine Ee h fun w h=>cP.Kw (by simp) ?_
 have hz:(⟨List.replicate 256 (.int .u8 0)++ [.int .i64 0,.int .i64 0,.int .i64 0,.bool false]⟩:Array Value).size=260:=by simp
 have hd:(gQ (List.range 256) (m:Int) 0 0 false).size=260:=aU (by simp)
 refine aw.q h hz hd bb fun w h=> ?_
 exact Ld.xw h hd (hK _ h.tl)
theorem Ea {d:DS} {K:Bool→World→Prop} (h:Hp E w F) (hd:km d) (hK: ∀w',Hp E w' F→K true w'):Cl Tryz.prog [kB] kh ⟨[.agg (gQ d.L (d.left:Int) (d.run:Int) (d.digits:Int) false)]⟩ w K:=by
 have hdig:=hd.bK
 obtain ⟨L,left,run,digits⟩:=d
 obtain ⟨h1,h2,h3,h4,h5⟩:=hd
 dsimp only at h1 h2 h3 h4 h5 hdig⊢
 have hL:=fL h1.len
 refine zh.ok _ _ _ ?_
 have hp:2^digits≤65536:=Nat.pow_le_pow_right (n:=2) (by decide) hdig
 have hpp:=Nat.two_pow_pos digits
 have e1:i64 (a7 .i64 1 (digits:Int) - 1)=((2^digits - 1:Nat):Int):=by
  have hmx:IntKind.max .i64=9223372036854775807:=rfl
  have:=dJ (k:= .i64) (a:=1) (b:=digits) (by have:IntKind.bits .i64=64:=rfl;omega) (by rw [hmx];omega)
  have e0:a7 .i64 1 (digits:Int)=((2^digits:Nat):Int):=by simpa using this
  rw [e0,af (by omega)];omega
 (try simp only [aB,av,aq,Nat.zero_add,Nat.add_zero,Nat.reduceAdd,Bool.not_true,Bool.not_false,aR,aS,Option.isNone])
 (with_reducible repeat first|refine Nw.mk h fun b w h=> ?_|refine ao.mk h fun w h=> ?_|refine Ld.q h hL rfl rfl ?_|refine ad.q (fun _ h=>h) hL rfl rfl ?_|refine Ld.p h hL ?_|refine ad.p (fun _ h=>h) hL ?_|refine Ld.qw h hL rfl ?_|refine ad.qw (fun _ h=>h) hL rfl ?_|refine ⟨h.hb,?_⟩|(refine St.q h hL rfl rfl rfl fun w h=> ?_;dsimp only [ah,ae] at h)|refine aa.yes ?_|refine aa.no ?_|refine ⟨by first|omega|decide,?_⟩)
 refine vj h h1 fun w h=> ?_
 (with_reducible repeat first|refine Nw.mk h fun b w h=> ?_|refine ao.mk h fun w h=> ?_|refine Ld.q h hL rfl rfl ?_|refine ad.q (fun _ h=>h) hL rfl rfl ?_|refine Ld.p h hL ?_|refine ad.p (fun _ h=>h) hL ?_|refine Ld.qw h hL rfl ?_|refine ad.qw (fun _ h=>h) hL rfl ?_|refine ⟨h.hb,?_⟩|(refine St.q h hL rfl rfl rfl fun w h=> ?_;dsimp only [ah,ae] at h)|refine aa.yes ?_|refine aa.no ?_|refine ⟨by first|omega|decide,?_⟩)
 rw [e1]
 (with_reducible repeat first|refine Nw.mk h fun b w h=> ?_|refine ao.mk h fun w h=> ?_|refine Ld.q h hL rfl rfl ?_|refine ad.q (fun _ h=>h) hL rfl rfl ?_|refine Ld.p h hL ?_|refine ad.p (fun _ h=>h) hL ?_|refine Ld.qw h hL rfl ?_|refine ad.qw (fun _ h=>h) hL rfl ?_|refine ⟨h.hb,?_⟩|(refine St.q h hL rfl rfl rfl fun w h=> ?_;dsimp only [ah,ae] at h)|refine aa.yes ?_|refine aa.no ?_|refine ⟨by first|omega|decide,?_⟩)
 rw [af (by omega)]
 (with_reducible repeat first|refine Nw.mk h fun b w h=> ?_|refine ao.mk h fun w h=> ?_|refine Ld.q h hL rfl rfl ?_|refine ad.q (fun _ h=>h) hL rfl rfl ?_|refine Ld.p h hL ?_|refine ad.p (fun _ h=>h) hL ?_|refine Ld.qw h hL rfl ?_|refine ad.qw (fun _ h=>h) hL rfl ?_|refine ⟨h.hb,?_⟩|(refine St.q h hL rfl rfl rfl fun w h=> ?_;dsimp only [ah,ae] at h)|refine aa.yes ?_|refine aa.no ?_|refine ⟨by first|omega|decide,?_⟩)
 exact hK _ h.tl
theorem B3 {L:List Nat} {left digits:Int} {run:Nat} {d:Bool} {K:Sl→World→Prop} (h:Hp E w F) (hl:L.length=256) (hr:run≤65536) (hK: ∀s' w',Hp E w' (al 1 s' ((List.replicate run (L.getD 0 0)).map vB)::F)→K s' w'):
  Cl Tryz.prog [kS] jJ ⟨[.agg (gQ L left (run:Int) digits d)]⟩ w K:=by
 have hL:=fL hl
 refine C8.ok _ _ _ ?_
 (try simp only [aB,av,aq,Nat.zero_add,Nat.add_zero,Nat.reduceAdd,Bool.not_true,Bool.not_false,aR,aS,Option.isNone])
 (with_reducible repeat first|refine Nw.mk h fun b w h=> ?_|refine ao.mk h fun w h=> ?_|refine Ld.q h hL rfl rfl ?_|refine ad.q (fun _ h=>h) hL rfl rfl ?_|refine Ld.p h hL ?_|refine ad.p (fun _ h=>h) hL ?_|refine Ld.qw h hL rfl ?_|refine ad.qw (fun _ h=>h) hL rfl ?_|refine ⟨h.hb,?_⟩|(refine St.q h hL rfl rfl rfl fun w h=> ?_;dsimp only [ah,ae] at h)|refine aa.yes ?_|refine aa.no ?_|refine ⟨by first|omega|decide,?_⟩)
 refine ⟨by omega,by omega,by omega,by simp,?_⟩
 rw [if_neg (by decide)]
 simp only [Option.map_some,aq,show (0:Int).toNat=0 from rfl,Nat.zero_mul,Nat.zero_add,show (1:Int).toNat=1 from rfl,show (256:Int).toNat=256 from rfl,Nat.sub_zero]
 (with_reducible repeat first|refine Nw.mk h fun b w h=> ?_|refine ao.mk h fun w h=> ?_|refine Ld.q h hL rfl rfl ?_|refine ad.q (fun _ h=>h) hL rfl rfl ?_|refine Ld.p h hL ?_|refine ad.p (fun _ h=>h) hL ?_|refine Ld.qw h hL rfl ?_|refine ad.qw (fun _ h=>h) hL rfl ?_|refine ⟨h.hb,?_⟩|(refine St.q h hL rfl rfl rfl fun w h=> ?_;dsimp only [ah,ae] at h)|refine aa.yes ?_|refine aa.no ?_|refine ⟨by first|omega|decide,?_⟩)
 refine Gy (s:=⟨some ⟨b,0,none⟩,1,256⟩) (c:=L.getD 0 0) h ?_ hr fun s' w h=>hK _ _ (h.at 1).drop
 rintro w' f a ⟨g,k,hd,rfl,rfl,h2⟩
 refine ⟨rfl,fun i hi=>⟨⟨b,0,none⟩,rfl,?_⟩⟩
 have:w'.heap[b]? =some (.cells (gQ L left (run:Int) digits d) 149 (0,0)):=a b _ (by simp [aI.add,aI.one])
 simp only [List.length_singleton] at hi
 have hi0:i=0:=by omega
 subst hi0
 rw [aq]
 simp only [World.cell?,this]
 simp [List.getElem?_append,hl,List.getD_eq_getElem?_getD]
theorem Fw {d:DS} {s:Nat} {K:Array Value→Sl→Bool→World→Prop} (h:Hp E w F) (hd:km d) (hs:s<258)
  (hn: ∀o sl w',cH d s=none→o.size=260→o.toList.all ax=true→Hp E w' F→K o sl false w')
  (hm: ∀d' t sl w',cH d s=some (d',t,false)→Hp E w' (al 1 sl (t.map vB)::F)→K (gQ d'.L (d'.left:Int) (d'.run:Int) (d'.digits:Int) false) sl true w')
  (he: ∀d' t sl w',cH d s=some (d',t,true)→Hp E w' (al 1 sl (t.map vB)::F)→K (gQ d.L 0 0 0 true) sl true w'):
  Cl Tryz.prog [.arr 260,kS,kB] lb ⟨[.agg (gQ d.L (d.left:Int) (d.run:Int) (d.digits:Int) false),.int .i64 (s:Int)]⟩ w K:=by
 have hdig:=hd.bK
 obtain ⟨L,left,run,digits⟩:=d
 obtain ⟨h1,h2,h3,h4,h5⟩:=hd
 unfold cH at hn hm he
 dsimp only at h1 h2 h3 h4 h5 hdig hn hm he⊢
 have hl:=h1.len
 have hL:=fL hl
 have hz:(⟨List.replicate 256 (.int .u8 0)++ [.int .i64 0,.int .i64 0,.int .i64 0,.bool false]⟩:Array Value).size=260:=by simp
 have hp:2^digits≤65536:=Nat.pow_le_pow_right (n:=2) (by decide) hdig
 refine AI.ok _ _ _ _ ?_
 (try simp only [aB,av,aq,Nat.zero_add,Nat.add_zero,Nat.reduceAdd,Bool.not_true,Bool.not_false,aR,aS,Option.isNone])
 refine Nw.mk h fun b4 w h=>Nw.mk h fun b6 w h=> ?_
 by_cases hs2:s<2
 ·simp only [if_pos hs2] at hn hm he
  have hb:(1+s)*2^digits≤131072:=by
   have:=Nat.mul_le_mul (show 1+s≤2 by omega) hp
   omega
  have fin: ∀w,Hp E w (aj b6 (.cells ⟨List.replicate 256 (.int .u8 0)++ [.int .i64 0,.int .i64 0,.int .i64 0,.bool false]⟩ 149 (0,0))::aj b4 (.cells (gQ L (left:Int) (run:Int) (digits:Int) false) 149 (0,0))::F)→
   Ld kI ⟨b4,257,none⟩ w fun (Run10:Int)=>Ld kI ⟨b4,258,none⟩ w fun (Digits11:Int)=>
   Cl Tryz.prog [kI,kI] iy ⟨[.int .i64 Run10,.int .i64 Digits11,.int .i64 (s:Int)]⟩ w fun r13 _ w_12=>
   St ⟨b4,257,none⟩ (.int .i64 r13) w_12 fun w_15=>Ld kI ⟨b4,258,none⟩ w_15 fun (Digits16:Int)=>St ⟨b4,258,none⟩ (.int .i64 (i64 (Digits16+1))) w_15 fun w_17=>
   dX w_17 fun S18 w_19=>ad (.arr 260) ⟨b4,0,none⟩ S18 fun x20=>ad kI ⟨b4,257,none⟩ S18 fun (Run21:Int)=>ad kI ⟨b4,256,none⟩ S18 fun (Left22:Int)=>
   aw 260 ⟨b6,0,none⟩ x20 w_19 fun w_23=>S18 w_23∧Ld (.arr 260) ⟨b6,0,none⟩ w_23 fun res24=>K res24 ⟨none,0,0⟩ (decide (Run21≤Left22)) w_23:=by
   intro w h
   (with_reducible repeat first|refine Nw.mk h fun b w h=> ?_|refine ao.mk h fun w h=> ?_|refine Ld.q h hL rfl rfl ?_|refine ad.q (fun _ h=>h) hL rfl rfl ?_|refine Ld.p h hL ?_|refine ad.p (fun _ h=>h) hL ?_|refine Ld.qw h hL rfl ?_|refine ad.qw (fun _ h=>h) hL rfl ?_|refine ⟨h.hb,?_⟩|(refine St.q h hL rfl rfl rfl fun w h=> ?_;dsimp only [ah,ae] at h)|refine aa.yes ?_|refine aa.no ?_|refine ⟨by first|omega|decide,?_⟩)
   refine I2 (by omega) hdig (by omega) ?_
   generalize (1+s)*2^digits=q at hb hm hn⊢
   (with_reducible repeat first|refine Nw.mk h fun b w h=> ?_|refine ao.mk h fun w h=> ?_|refine Ld.q h hL rfl rfl ?_|refine ad.q (fun _ h=>h) hL rfl rfl ?_|refine Ld.p h hL ?_|refine ad.p (fun _ h=>h) hL ?_|refine Ld.qw h hL rfl ?_|refine ad.qw (fun _ h=>h) hL rfl ?_|refine ⟨h.hb,?_⟩|(refine St.q h hL rfl rfl rfl fun w h=> ?_;dsimp only [ah,ae] at h)|refine aa.yes ?_|refine aa.no ?_|refine ⟨by first|omega|decide,?_⟩)
   rw [af (by omega)] at h
   have h:=h.drew (n:=w.drawn+1)
   refine ⟨bV b4 _ _ _,h.hb,?_⟩
   dsimp only
   (with_reducible repeat first|refine Nw.mk h fun b w h=> ?_|refine ao.mk h fun w h=> ?_|refine Ld.q h hL rfl rfl ?_|refine ad.q (fun _ h=>h) hL rfl rfl ?_|refine Ld.p h hL ?_|refine ad.p (fun _ h=>h) hL ?_|refine Ld.qw h hL rfl ?_|refine ad.qw (fun _ h=>h) hL rfl ?_|refine ⟨h.hb,?_⟩|(refine St.q h hL rfl rfl rfl fun w h=> ?_;dsimp only [ah,ae] at h)|refine aa.yes ?_|refine aa.no ?_|refine ⟨by first|omega|decide,?_⟩)
   refine aw.q h hz (aU hl) bb fun w h=>⟨h.hb,?_⟩
   (with_reducible repeat first|refine Nw.mk h fun b w h=> ?_|refine ao.mk h fun w h=> ?_|refine Ld.q h hL rfl rfl ?_|refine ad.q (fun _ h=>h) hL rfl rfl ?_|refine Ld.p h hL ?_|refine ad.p (fun _ h=>h) hL ?_|refine Ld.qw h hL rfl ?_|refine ad.qw (fun _ h=>h) hL rfl ?_|refine ⟨h.hb,?_⟩|(refine St.q h hL rfl rfl rfl fun w h=> ?_;dsimp only [ah,ae] at h)|refine aa.yes ?_|refine aa.no ?_|refine ⟨by first|omega|decide,?_⟩)
   by_cases hle:run+q≤left
   ·rw [if_pos hle] at hm
    exact iX (K:=fun b w=>K _ _ b w) (decide_eq_true (by omega)) (hm ⟨L,left,run+q,digits+1⟩ [] _ _ rfl (h.tl.bH 1))
   ·rw [if_neg hle] at hn
    exact iX (K:=fun b w=>K _ _ b w) (decide_eq_false (by omega)) (hn _ _ _ rfl (aU hl) bb h.tl)
  by_cases h0:s=0
  ·exact aa.et (by omega) (fin _ h)
  ·refine aa.ef (by omega) ?_
   exact aa.et (by omega) (fin _ h)
 ·simp only [if_neg hs2] at hn hm he
  refine aa.ef (by omega) (aa.ef (by omega) ?_)
  by_cases hs3:s=257
  ·simp only [if_pos hs3] at hn hm he
   refine aa.et (by omega) ?_
   have h:=h.drew (n:=w.drawn+1)
   refine ⟨bV b4 _ _ _,h.hb,?_⟩
   dsimp only
   (with_reducible repeat first|refine Nw.mk h fun b w h=> ?_|refine ao.mk h fun w h=> ?_|refine Ld.q h hL rfl rfl ?_|refine ad.q (fun _ h=>h) hL rfl rfl ?_|refine Ld.p h hL ?_|refine ad.p (fun _ h=>h) hL ?_|refine Ld.qw h hL rfl ?_|refine ad.qw (fun _ h=>h) hL rfl ?_|refine ⟨h.hb,?_⟩|(refine St.q h hL rfl rfl rfl fun w h=> ?_;dsimp only [ah,ae] at h)|refine aa.yes ?_|refine aa.no ?_|refine ⟨by first|omega|decide,?_⟩)
   refine cP.KS hl ?_
   (with_reducible repeat first|refine Nw.mk h fun b w h=> ?_|refine ao.mk h fun w h=> ?_|refine Ld.q h hL rfl rfl ?_|refine ad.q (fun _ h=>h) hL rfl rfl ?_|refine Ld.p h hL ?_|refine ad.p (fun _ h=>h) hL ?_|refine Ld.qw h hL rfl ?_|refine ad.qw (fun _ h=>h) hL rfl ?_|refine ⟨h.hb,?_⟩|(refine St.q h hL rfl rfl rfl fun w h=> ?_;dsimp only [ah,ae] at h)|refine aa.yes ?_|refine aa.no ?_|refine ⟨by first|omega|decide,?_⟩)
   refine B3 h hl (by omega) fun sl w h=>⟨h.hb,?_⟩
   refine aw.q h hz (aU hl) bb fun w h=>⟨h.hb,?_⟩
   refine Ld.xw h (aU hl) ?_
   by_cases hrl:run=left
   ·rw [if_pos hrl] at he
    exact iX (K:=fun b w=>K _ _ b w) (beq_iff_eq.2 (by omega)) (he _ _ _ _ rfl ((h.no 1).no 1))
   ·rw [if_neg hrl] at hn
    exact iX (K:=fun b w=>K _ _ b w) (beq_eq_false_iff_ne.2 (by omega)) (hn _ _ _ rfl (aU hl) bb h.tl)
  ·simp only [if_neg hs3] at hn hm he
   refine aa.ef (by omega) ?_
   (with_reducible repeat first|refine Nw.mk h fun b w h=> ?_|refine ao.mk h fun w h=> ?_|refine Ld.q h hL rfl rfl ?_|refine ad.q (fun _ h=>h) hL rfl rfl ?_|refine Ld.p h hL ?_|refine ad.p (fun _ h=>h) hL ?_|refine Ld.qw h hL rfl ?_|refine ad.qw (fun _ h=>h) hL rfl ?_|refine ⟨h.hb,?_⟩|(refine St.q h hL rfl rfl rfl fun w h=> ?_;dsimp only [ah,ae] at h)|refine aa.yes ?_|refine aa.no ?_|refine ⟨by first|omega|decide,?_⟩)
   by_cases hrl:run=left
   ·rw [if_pos hrl] at hn
    refine aa.et (by omega) ?_
    (with_reducible repeat first|refine Nw.mk h fun b w h=> ?_|refine ao.mk h fun w h=> ?_|refine Ld.q h hL rfl rfl ?_|refine ad.q (fun _ h=>h) hL rfl rfl ?_|refine Ld.p h hL ?_|refine ad.p (fun _ h=>h) hL ?_|refine Ld.qw h hL rfl ?_|refine ad.qw (fun _ h=>h) hL rfl ?_|refine ⟨h.hb,?_⟩|(refine St.q h hL rfl rfl rfl fun w h=> ?_;dsimp only [ah,ae] at h)|refine aa.yes ?_|refine aa.no ?_|refine ⟨by first|omega|decide,?_⟩)
    refine aw.q h hz (aU hl) bb fun w h=> ?_
    (with_reducible repeat first|refine Nw.mk h fun b w h=> ?_|refine ao.mk h fun w h=> ?_|refine Ld.q h hL rfl rfl ?_|refine ad.q (fun _ h=>h) hL rfl rfl ?_|refine Ld.p h hL ?_|refine ad.p (fun _ h=>h) hL ?_|refine Ld.qw h hL rfl ?_|refine ad.qw (fun _ h=>h) hL rfl ?_|refine ⟨h.hb,?_⟩|(refine St.q h hL rfl rfl rfl fun w h=> ?_;dsimp only [ah,ae] at h)|refine aa.yes ?_|refine aa.no ?_|refine ⟨by first|omega|decide,?_⟩)
    exact hn _ _ _ rfl (aU hl) bb h.tl
   ·rw [if_neg hrl] at hm
    refine aa.ef (by omega) ?_
    (with_reducible repeat first|refine Nw.mk h fun b w h=> ?_|refine ao.mk h fun w h=> ?_|refine Ld.q h hL rfl rfl ?_|refine ad.q (fun _ h=>h) hL rfl rfl ?_|refine Ld.p h hL ?_|refine ad.p (fun _ h=>h) hL ?_|refine Ld.qw h hL rfl ?_|refine ad.qw (fun _ h=>h) hL rfl ?_|refine ⟨h.hb,?_⟩|(refine St.q h hL rfl rfl rfl fun w h=> ?_;dsimp only [ah,ae] at h)|refine aa.yes ?_|refine aa.no ?_|refine ⟨by first|omega|decide,?_⟩)
    rw [af (by omega),show (s:Int) - 1=((s - 1:Nat):Int) by omega]
    refine Bc h hl (by omega) fun w h=> ?_
    have hml:(bt L (s - 1)).length=256:=by rw [DW (by omega)];exact hl
    have hM:(⟨bh (bt L (s - 1))⟩:Array Value).size=256:=by simp [hml]
    refine Nw.mk h fun b47 w h=> ?_
    refine aw.q h (by simp) hM cQ fun w h=> ?_
    (with_reducible repeat first|refine Nw.mk h fun b w h=> ?_|refine ao.mk h fun w h=> ?_|refine Ld.q h hL rfl rfl ?_|refine ad.q (fun _ h=>h) hL rfl rfl ?_|refine Ld.p h hL ?_|refine ad.p (fun _ h=>h) hL ?_|refine Ld.qw h hL rfl ?_|refine ad.qw (fun _ h=>h) hL rfl ?_|refine ⟨h.hb,?_⟩|(refine St.q h hL rfl rfl rfl fun w h=> ?_;dsimp only [ah,ae] at h)|refine aa.yes ?_|refine aa.no ?_|refine ⟨by first|omega|decide,?_⟩)
    refine B3 h hl (by omega) fun sl w h=> ?_
    refine Nw.mk h fun b53 w h=> ?_
    have hsl:=(h.at 1).aH
    simp only [List.length_map,List.length_replicate,Nat.mul_one] at hsl
    refine aM (ys:= [vB (L.getD (s - 1) 0)]) (n:=1) Ds (by decide) (.inl ⟨5,by kernel_rfl⟩) (h.at 1) (.inl ⟨some ⟨b53,0,none⟩,1,1,rfl,rfl,h.an (ab.aA rfl rfl)⟩) rfl (fun y hy=>by simp at hy;subst hy;rfl) (by omega) (by omega) fun s' w h hs'=> ?_
    refine Ld.xw h hM ?_
    (with_reducible repeat first|refine Nw.mk h fun b w h=> ?_|refine ao.mk h fun w h=> ?_|refine Ld.q h hL rfl rfl ?_|refine ad.q (fun _ h=>h) hL rfl rfl ?_|refine Ld.p h hL ?_|refine ad.p (fun _ h=>h) hL ?_|refine Ld.qw h hL rfl ?_|refine ad.qw (fun _ h=>h) hL rfl ?_|refine ⟨h.hb,?_⟩|(refine St.q h hL rfl rfl rfl fun w h=> ?_;dsimp only [ah,ae] at h)|refine aa.yes ?_|refine aa.no ?_|refine ⟨by first|omega|decide,?_⟩)
    rw [hs',af (by omega),show (left:Int) - ((sl.len+1:Nat):Int)=((left - (run+1):Nat):Int) by omega]
    refine cP.Kw hml ?_
    refine aw.q h hz (aU hml) bb fun w h=> ?_
    refine Ld.xw h (aU hml) ?_
    refine hm ⟨bt L (s - 1),left - (run+1),0,0⟩ _ _ _ rfl ?_
    have e:(List.replicate run (L.getD 0 0)).map vB++ [vB (L.getD (s - 1) 0)]=(List.replicate run (L.getD 0 0)++ [L.getD (s - 1) 0]).map vB:=by simp
    rw [e] at h
    exact (((h.no 1).no 1).no 1).no 1
theorem FQ {d:DS} {s:Nat} {K:Array Value→Sl→Bool→Int→World→Prop} (h:Hp E w F) (hd:km d) (hs:s<258)
  (hn: ∀o w',cH d s=none→o.size=260→o.toList.all ax=true→Hp E w' F→K o ⟨none,0,0⟩ false 160 w')
  (hm: ∀d' t sl w',cH d s=some (d',t,false)→Hp E w' (al 1 sl (t.map vB)::F)→K (gQ d'.L (d'.left:Int) (d'.run:Int) (d'.digits:Int) false) sl false 0 w')
  (he: ∀d' t sl w',cH d s=some (d',t,true)→Hp E w' (al 1 sl (t.map vB)::F)→K (gQ d.L 0 0 0 true) sl true 0 w'):
  Cl Tryz.prog [.arr 260,kS,kB,kI] kZ ⟨[.agg (gQ d.L (d.left:Int) (d.run:Int) (d.digits:Int) false),.int .i64 (s:Int)]⟩ w K:=by
 have hl:=hd.1.len
 have hL:=fL hl
 have hz:(⟨List.replicate 256 (.int .u8 0)++ [.int .i64 0,.int .i64 0,.int .i64 0,.bool false]⟩:Array Value).size=260:=by simp
 refine AK.ok _ _ _ _ ?_
 (try simp only [aB,av,aq,Nat.zero_add,Nat.add_zero,Nat.reduceAdd,Bool.not_true,Bool.not_false,aR,aS,Option.isNone])
 refine Nw.mk h fun b4 w h=>Nw.mk h fun b6 w h=> ?_
 (with_reducible repeat first|refine Nw.mk h fun b w h=> ?_|refine ao.mk h fun w h=> ?_|refine Ld.q h hL rfl rfl ?_|refine ad.q (fun _ h=>h) hL rfl rfl ?_|refine Ld.p h hL ?_|refine ad.p (fun _ h=>h) hL ?_|refine Ld.qw h hL rfl ?_|refine ad.qw (fun _ h=>h) hL rfl ?_|refine ⟨h.hb,?_⟩|(refine St.q h hL rfl rfl rfl fun w h=> ?_;dsimp only [ah,ae] at h)|refine aa.yes ?_|refine aa.no ?_|refine ⟨by first|omega|decide,?_⟩)
 refine Ea h hd fun w h=> ?_
 (with_reducible repeat first|refine Nw.mk h fun b w h=> ?_|refine ao.mk h fun w h=> ?_|refine Ld.q h hL rfl rfl ?_|refine ad.q (fun _ h=>h) hL rfl rfl ?_|refine Ld.p h hL ?_|refine ad.p (fun _ h=>h) hL ?_|refine Ld.qw h hL rfl ?_|refine ad.qw (fun _ h=>h) hL rfl ?_|refine ⟨h.hb,?_⟩|(refine St.q h hL rfl rfl rfl fun w h=> ?_;dsimp only [ah,ae] at h)|refine aa.yes ?_|refine aa.no ?_|refine ⟨by first|omega|decide,?_⟩)
 refine Fw h hd hs (fun o sl w hq ho hos h=> ?_) (fun d' t sl w hq h=> ?_) (fun d' t sl w hq h=> ?_)
 ·refine aw.q h hz ho hos fun w h=> ?_
  (with_reducible repeat first|refine Nw.mk h fun b w h=> ?_|refine ao.mk h fun w h=> ?_|refine Ld.q h hL rfl rfl ?_|refine ad.q (fun _ h=>h) hL rfl rfl ?_|refine Ld.p h hL ?_|refine ad.p (fun _ h=>h) hL ?_|refine Ld.qw h hL rfl ?_|refine ad.qw (fun _ h=>h) hL rfl ?_|refine ⟨h.hb,?_⟩|(refine St.q h hL rfl rfl rfl fun w h=> ?_;dsimp only [ah,ae] at h)|refine aa.yes ?_|refine aa.no ?_|refine ⟨by first|omega|decide,?_⟩)
  refine aw.q h ho (aU hl) bb fun w h=> ?_
  refine Ld.xw h (aU hl) ?_
  exact hn _ _ hq (aU hl) bb h.tl
 ·have hl':=(Bg hd hs hq).1.1.len
  have hL:=fL hl'
  refine aw.q h hz (aU hl') bb fun w h=> ?_
  (with_reducible repeat first|refine Nw.mk h fun b w h=> ?_|refine ao.mk h fun w h=> ?_|refine Ld.q h hL rfl rfl ?_|refine ad.q (fun _ h=>h) hL rfl rfl ?_|refine Ld.p h hL ?_|refine ad.p (fun _ h=>h) hL ?_|refine Ld.qw h hL rfl ?_|refine ad.qw (fun _ h=>h) hL rfl ?_|refine ⟨h.hb,?_⟩|(refine St.q h hL rfl rfl rfl fun w h=> ?_;dsimp only [ah,ae] at h)|refine aa.yes ?_|refine aa.no ?_|refine ⟨by first|omega|decide,?_⟩)
  refine aw.q h (aU hl') (aU hl') bb fun w h=> ?_
  refine Ld.xw h (aU hl') ?_
  exact hm _ _ _ _ hq ((h.no 1).no 1)
 ·refine aw.q h hz (aU hl) bb fun w h=> ?_
  (with_reducible repeat first|refine Nw.mk h fun b w h=> ?_|refine ao.mk h fun w h=> ?_|refine Ld.q h hL rfl rfl ?_|refine ad.q (fun _ h=>h) hL rfl rfl ?_|refine Ld.p h hL ?_|refine ad.p (fun _ h=>h) hL ?_|refine Ld.qw h hL rfl ?_|refine ad.qw (fun _ h=>h) hL rfl ?_|refine ⟨h.hb,?_⟩|(refine St.q h hL rfl rfl rfl fun w h=> ?_;dsimp only [ah,ae] at h)|refine aa.yes ?_|refine aa.no ?_|refine ⟨by first|omega|decide,?_⟩)
  refine aw.q h (aU hl) (aU hl) bb fun w h=> ?_
  refine Ld.xw h (aU hl) ?_
  exact he _ _ _ _ hq ((h.no 1).no 1)
end
end Go.Proofs.YtcdpblipagajiaaGreat
namespace Go.Vc
open Go
theorem ar.IB {w:World} {S:World→Prop} {sc:Sc} {s:Sl} {xs:List Value} {i:Int} {j:Nat} {K:sc.T→Prop} (hw:aC 1 s xs w) (hS: ∀w,S w→aC 1 s xs w) (hi:i=(j:Int)) (hj:j<xs.length) (x:sc.T) (hx:xs[j]? =some (sc.enc x)) (hK:K x):
  ar s i 1 fun q=>ad (.sc sc) q S K:=by
 subst hi
 have hl:=hw.1
 rw [Nat.mul_one] at hl
 obtain ⟨p,hp,_⟩:=hw.2 j hj
 refine ⟨p,hp,by omega,by omega,ad.sc x (fun w' hw'=> ?_) hK⟩
 obtain ⟨p',hp',hc⟩:=(hS w' hw').2 j hj
 rw [hp] at hp'
 cases hp'
 rw [show ((j:Int)).toNat*1=j by omega,hc,←hx,List.getElem?_eq_getElem hj]
theorem bq.KJ {A B C:Type} {r:A→B→C→World→Prop} {k:(A→B→C→World→Prop)→Prop} (Q:A→B→C→World→Prop) (h1: ∀a b c w,Q a b c w→r a b c w) (h2: ∀r',(∀a b c w,Q a b c w→r' a b c w)→k r'):bq r k:=h2 r h1
end Go.Vc
namespace Go.Proofs.YtcdpblipagajiaaGreat
open Go Go.Vc Go.Srt Go.Inc Go.Sym Go.Bits Go.aj
section
variable {E w:World} {F:List HP}
set_option maxRecDepth 20000
theorem HN {s:Sl} {b:List Nat} {k:Nat} {K:Int→World→Prop} (hs:aC 1 s (b.map vB) w) (hb: ∀y∈b,y<256) (hk:k<8*b.length) (hn:b.length≤bR) (hK:K (fh b k:Int) w):
  Cl Tryz.prog [aJ .u8] ju ⟨[.slice s.base s.len s.cap,.int .i64 (k:Int)]⟩ w K:=by
 refine wF.ok _ _ _ _ ?_
 have hmx:IntKind.max .i64=9223372036854775807:=rfl
 have hm8:IntKind.max .u8=255:=rfl
 rw [au] at hn
 have e1:aD .i64 (k:Int) 3=((k/8:Nat):Int):=by rw [show (3:Int)=((3:Nat):Int) from rfl,bF (by decide)]
 have e2:bm .i64 (k:Int) 7=((k % 8:Nat):Int):=by
  rw [show (7:Int)=((7:Nat):Int) from rfl,eI (by omega) (by omega),show (7:Nat)=2^3 - 1 from rfl,Nat.and_two_pow_sub_one_eq_mod]
 have hl:=hs.1
 rw [List.length_map,Nat.mul_one] at hl
 have hlt:k/8<b.length:=by omega
 rw [e1,e2,af (by omega),show (7:Int) - ((k % 8:Nat):Int)=((7 - k % 8:Nat):Int) by omega]
 refine ⟨by decide,ar.rd hs (by omega) (by omega) fun q _ hq=> ?_⟩
 have hx:b[k/8]<256:=hb _ (List.getElem_mem hlt)
 refine Ld.sc (s:= .int .u8) (b[k/8]:Int) (by rw [hq];simp only [Int.toNat_natCast,List.getElem_map];rfl) ⟨by omega,?_⟩
 have hd:=Nat.div_le_self b[k/8] (2^(7 - k % 8))
 rw [bF (by have:IntKind.bits .u8=8:=rfl;omega),show (1:Int)=((1:Nat):Int) from rfl,eI (by omega) (by omega),Nat.and_one_is_mod]
 have:fh b k=b[k/8]/2^(7 - k % 8) % 2:=by unfold fh;rw [bT hlt]
 rw [←this];exact hK
theorem A4 {b:List Nat} {k:Nat} (hk:k<8*b.length):(aY b)[k]? =some (fh b k):=by
 unfold aY bitsOf
 rw [List.getElem?_map,List.getElem?_range hk];rfl
theorem JD {s:Sl} {b:List Nat} {K:Sl→World→Prop} (h:Hp E w F) (hs:ab F (aC 1 s (b.map vB))) (hb: ∀y∈b,y<256) (hn:b.length≤100000000) (hK: ∀s' w',Hp E w' (al 1 s' ((ints (aY b)).map vI)::F)→K s' w'):
  Cl Tryz.prog [kS] j6 ⟨[.slice s.base s.len s.cap]⟩ w K:=by
 refine yL.ok _ _ _ ?_
 have hl:=(h.an hs).1
 rw [List.length_map,Nat.mul_one] at hl
 have hal:=fJ b
 rw [af (by omega)]
 refine ⟨fun o i w=> ∃k:Nat,i=(k:Int)∧k≤8*b.length∧Hp E w (al 1 o ((ints ((aY b).take k)).map vI)::F),fun _ i _=>8*b.length - i.toNat,⟨0,rfl,by omega,h.bH 1⟩,?_⟩
 rintro o i w ⟨k,rfl,hk,h⟩
 refine aa.dm (fun hlt=> ?_) (fun hge=> ?_)
 ·have hlt:k<8*b.length:=by omega
  refine HN (h.drop.an hs) hb hlt (by rw [au];omega) ?_
  have hbl:fh b k<2:=yR b k
  rw [af (x:=(fh b k:Int)) (by omega),af (by omega)]
  refine Nw.mk h fun b10 w h=> ?_
  have hol:=(h.at 1).aH
  simp only [ints,List.length_map,Nat.mul_one,List.length_take] at hol
  refine aM (s:=o) (ys:= [vI (fh b k:Int)]) (n:=1) jb (by decide) (.inl ⟨3,by kernel_rfl⟩) (h.at 1) (.inl ⟨some ⟨b10,0,none⟩,1,1,rfl,rfl,h.an (ab.aA rfl rfl)⟩) rfl (by intro y hy;rw [List.mem_singleton] at hy;rw [hy];rfl) (by omega) (by omega) fun s3 w h _=> ?_
  refine ⟨⟨k+1,rfl,by omega,?_⟩,by first|omega|(dsimp only;omega)⟩
  rw [show (ints ((aY b).take (k+1))).map vI=(ints ((aY b).take k)).map vI++ [vI (fh b k:Int)] by rw [List.take_add_one,A4 hlt];simp [ints]]
  exact h.fq
 ·have hk2:k=8*b.length:=by omega
  subst hk2
  rw [List.take_of_length_le (by omega)] at h
  exact hK _ _ h
theorem Fk {s:Sl} {bs:List Nat} {K:Bool→World→Prop} (h:Hp E w F) (hs:ab F (aC 1 s ((ints bs).map vI))) (hn:bs.length≤bR) (hK: ∀w',Hp E w' F→K (decide (1∈bs)) w'):
  Cl Tryz.prog [kB] dz ⟨[.slice s.base s.len s.cap,.int .i64 1]⟩ w K:=by
 refine mR.ok _ _ _ _ ?_
 refine px.ok _ _ _ _ ?_
 have hl:=(h.an hs).1
 simp only [ints,List.length_map,Nat.mul_one] at hl
 rw [au] at hn
 refine ⟨fun i w=> ∃k:Nat,i=(k:Int)∧k≤bs.length∧1∉bs.take k∧Hp E w F,fun i _=>bs.length - i.toNat,⟨0,rfl,by omega,by simp,h⟩,?_⟩
 rintro i w ⟨k,rfl,hk,hno,h⟩
 refine aa.dm (fun hlt=> ?_) (fun hge=> ?_)
 ·have hlt:k<bs.length:=by omega
  refine ar.rd (h.an hs) (by omega) (by omega) fun q _ hq=> ?_
  refine Ld.sc (s:= .int .i64) (bs[k]:Int) (by rw [hq];simp [Sc.enc,vI,ints]) ?_
  refine aa.em (fun he=> ?_) (fun he=> ?_)
  ·have:decide (1∈bs)=true:=decide_eq_true (by
    have e:bs[k]=1:=by omega
    rw [←e];exact List.getElem_mem hlt)
   try dsimp only
   rw [show decide ((k:Int)≥0)=true from decide_eq_true (by omega),←this]
   exact hK w h
  ·rw [af (by omega)]
   refine ⟨⟨k+1,rfl,by omega,?_,h⟩,by first|omega|(dsimp only;omega)⟩
   rw [List.take_add_one,List.getElem?_eq_getElem hlt]
   intro hm
   rcases List.mem_append.1 hm with hm|hm
   ·exact hno hm
   ·simp at hm;omega
 ·have hk2:k=bs.length:=by omega
  subst hk2
  rw [List.take_of_length_le (Nat.le_refl _)] at hno
  try dsimp only
  rw [show decide ((-1:Int)≥0)=false from rfl,←decide_eq_false hno]
  exact hK w h
def KK (l:List Nat) (M:Nat) (s:CS):Prop:=oC l s.c s.n∧km s.d∧(∀x∈s.acc,x<256)∧s.acc.length+s.d.left≤M
theorem Dt {l:List Nat} {s:Sl} {bs:List Nat} {M:Nat} {K:Sl→Int→Int→World→Prop} (h:Hp E w F) (hl:l.length=258) (hok:cn l=true) (hM:1≤M) (hM2:M≤65536) (hs:ab F (aC 1 s ((ints bs).map vI))) (hb: ∀x∈bs,x≤1) (hbig:bs.length≤bR)
  (hshort: ∀s' w',run (c9 l) ⟨0,0,⟨List.range 256,M,0,0⟩,[]⟩ bs= .short s'→Hp E w' F→K ⟨none,0,0⟩ 0 50 w')
  (hbad: ∀w',run (c9 l) ⟨0,0,⟨List.range 256,M,0,0⟩,[]⟩ bs= .bad 160→Hp E w' F→K ⟨none,0,0⟩ 0 160 w')
  (hfin: ∀last r s' w',run (c9 l) ⟨0,0,⟨List.range 256,M,0,0⟩,[]⟩ bs= .fin last r→(∀x∈last,x<256)→last.length≤M→Hp E w' (al 1 s' (last.map vB)::F)→K s' ((bs.length - r.length:Nat):Int) 0 w'):
  Cl Tryz.prog [kS,kI,kI] jX ⟨[.int .i64 (M:Int),.agg (ai .u8 l),.slice s.base s.len s.cap]⟩ w K:=by
 refine za.ok _ _ _ _ _ ?_
 have hlen:=(h.an hs).1
 simp only [ints,List.length_map,Nat.mul_one] at hlen
 rw [au] at hbig
 have hsz:(ai .u8 l).size=258:=by rw [aK,hl]
 have hst: ∀c n,(cZ l c n).size=260:=fun c n=>bN hl
 have hz1:(⟨List.replicate 258 (.int .u8 0)++ [.int .i64 0,.int .i64 0]⟩:Array Value).size=260:=by simp
 have hz2:(⟨List.replicate 256 (.int .u8 0)++ [.int .i64 0,.int .i64 0,.int .i64 0,.bool false]⟩:Array Value).size=260:=by simp
 refine Nw.mk h fun b5 w h=>Ld.xw h hsz (Ko h hl (fun hf=>absurd hok (by rw [hf];decide)) fun _ w h=> ?_)
 refine Nw.mk h fun b11 w h=>aw.q h hz1 (hst _ _) (List.all_eq_true.2 cU) fun w h=>HC h hM hM2 fun w h=> ?_
 have hd0:km ⟨List.range 256,M,0,0⟩:=km.zero hM2
 refine Nw.mk h fun b16 w h=>aw.q h hz2 (aU (by simp)) bb fun w h=> ?_
 refine ⟨fun o i w=> ∃(k:Nat) (cs:CS),i=(k:Int)∧k≤bs.length∧KK l M cs∧run (c9 l) ⟨0,0,⟨List.range 256,M,0,0⟩,[]⟩ (bs.take k)= .short cs∧
  Hp E w (al 1 o (cs.acc.map vB)::aj b16 (.cells (gQ cs.d.L (cs.d.left:Int) (cs.d.run:Int) (cs.d.digits:Int) false) 149 (0,0))::aj b11 (.cells (cZ l cs.c cs.n) 145 (0,0))::F),
  fun _ i _=>bs.length - i.toNat,⟨0,_,rfl,by omega,⟨oC.zero hok,hd0,by simp,by simp⟩,rfl,(h.bH 1).no 3⟩,?_⟩
 rintro o i w ⟨k,cs,rfl,hk,hcs,hrun,h⟩
 refine aa.dm (fun hlt=> ?_) (fun hge=> ?_)
 ·have hlt:k<bs.length:=by omega
  have hx:=hb _ (List.getElem_mem hlt)
  obtain ⟨hv,hd,ha,hal⟩:=hcs
  have hdL:=hd.1.len
  have hfs:=EW hl hv hx
  have hfst:=H6 (l:=l) (c:=cs.c) (b:=cs.n) (x:=bs[k])
  have hvn:=hv.next hx
  refine bq.KJ (fun a i d w=> ∃b34:Nat,a=⟨b34,0,none⟩∧i=(((dQ l cs.c cs.n bs[k]).2.getD 0:Nat):Int)∧d=(dQ l cs.c cs.n bs[k]).2.isSome∧
   Hp E w (aj b34 (.cells (cZ l (dQ l cs.c cs.n bs[k]).1.1 (dQ l cs.c cs.n bs[k]).1.2) 145 (0,0))::al 1 o (cs.acc.map vB)::aj b16 (.cells (gQ cs.d.L (cs.d.left:Int) (cs.d.run:Int) (cs.d.digits:Int) false) 149 (0,0))::aj b11 (.cells (cZ l cs.c cs.n) 145 (0,0))::F)) ?_ fun r' hr'=> ?_
  ·rintro a i d w ⟨b34,rfl,rfl,rfl,h⟩
   refine Ld.xw h (hst _ _) (aw.q h (hst _ _) (hst _ _) (List.all_eq_true.2 cU) fun w h=> ?_)
   rw [af (by omega)]
   cases hsy:(dQ l cs.c cs.n bs[k]).2 with
   |none=>
    rw [hsy] at hfs hfst
    rw [hfst] at h hvn
    refine aa.t rfl ⟨⟨k+1,⟨2*cs.c+bs[k],cs.n+1,cs.d,cs.acc⟩,rfl,by omega,⟨hvn,hd,ha,hal⟩,?_,h.no 0⟩,by first|omega|(dsimp only;omega)⟩
    rw [List.take_add_one,List.getElem?_eq_getElem hlt]
    show run (c9 l) _ (bs.take k++ [bs[k]])=_
    rw [bW hrun,bw (Bl hfs.symm)];rfl
   |some y=>
    rw [hsy] at hfs hfst
    rw [hfst] at h hvn
    have hy:y<258:=(xv hl hv hx hsy).1
    have hcs:=BN (s:=cs) (x:=bs[k]) (y:=y) hfs.symm
    have hdrop:run (c9 l) ⟨0,0,⟨List.range 256,M,0,0⟩,[]⟩ bs=run (c9 l) cs (bs[k]::bs.drop (k+1)):=by
     rw [←List.drop_eq_getElem_cons hlt]
     conv=>lhs;rw [←List.take_append_drop k bs]
     exact bW hrun _
    refine aa.f rfl (Ld.xw h (aU hdL) ?_)
    refine FQ (s:=y) h hd hy (fun e w hq ho hos h=> ?_) (fun d' t sl w hq h=> ?_) (fun d' t sl w hq h=> ?_)
    ·refine Nw.mk h fun b56 w h=>aw.q h hz2 ho hos fun w h=>aa.nt (by decide) (hbad w ?_ h.tl)
     rw [hdrop]
     exact q7 (by rw [hcs,hq])
    ·obtain ⟨hd',hb',hl'⟩:=Bg hd hy hq
     have l1:=h.aH
     have l2:=(h.at 2).aH
     rw [List.length_map,Nat.mul_one] at l1 l2
     refine Nw.mk h fun b56 w h=>aw.q h hz2 (aU hd'.1.len) bb fun w h=>aa.nf rfl ?_
     have h:=h.drew (n:=w.drawn+1)
     refine ⟨bV b56 _ _ _,h.hb,ad.xw (fun _ h=>h) (aU hd'.1.len) ?_⟩
     refine aM (s:=o) (n:=sl.len) jV (by decide) (.inl ⟨5,by kernel_rfl⟩) (h.at 3) (.inl ⟨sl.base,sl.len,sl.cap,rfl,rfl,(h.at 1).an ab.own⟩) (by rw [List.length_map,l1,Nat.mul_one]) cu (by omega) (by omega) fun s3 w h _=>⟨h.hb,?_⟩
     refine aw.q (b:=b16) h (aU hdL) (aU hd'.1.len) bb fun w h=>⟨h.hb,aa.f rfl ?_⟩
     rw [←List.map_append] at h
     refine ⟨⟨k+1,⟨0,0,d',cs.acc++t⟩,rfl,by omega,⟨hvn,hd',?_,?_⟩,?_,((h.no 1).no 1).no 1⟩,by first|omega|(dsimp only;omega)⟩
     ·intro x hx
      rcases List.mem_append.1 hx with hx|hx
      ·exact ha x hx
      ·exact hb' x hx
     ·rw [List.length_append];dsimp only;omega
     ·rw [List.take_add_one,List.getElem?_eq_getElem hlt]
      show run (c9 l) _ (bs.take k++ [bs[k]])=_
      rw [bW hrun,bw (by rw [hcs,hq])];rfl
    ·obtain ⟨hb',hl'⟩:=FZ hd hq
     have l1:=h.aH
     have l2:=(h.at 2).aH
     rw [List.length_map,Nat.mul_one] at l1 l2
     refine Nw.mk h fun b56 w h=>aw.q h hz2 (aU hdL) bb fun w h=>aa.nf rfl ?_
     have h:=h.drew (n:=w.drawn+1)
     refine ⟨bV b56 _ _ _,h.hb,ad.xw (fun _ h=>h) (aU hdL) ?_⟩
     refine aM (s:=o) (n:=sl.len) jV (by decide) (.inl ⟨5,by kernel_rfl⟩) (h.at 3) (.inl ⟨sl.base,sl.len,sl.cap,rfl,rfl,(h.at 1).an ab.own⟩) (by rw [List.length_map,l1,Nat.mul_one]) cu (by omega) (by omega) fun s3 w h _=>⟨h.hb,?_⟩
     refine aw.q (b:=b16) h (aU hdL) (aU hdL) bb fun w h=>⟨h.hb,aa.t rfl ?_⟩
     rw [←List.map_append] at h
     have hr:=hfin (cs.acc++t) (bs.drop (k+1)) s3 w (by rw [hdrop];exact jg (by rw [hcs,hq])) (fun x hx=>by
      rcases List.mem_append.1 hx with hx|hx
      ·exact ha x hx
      ·exact hb' x hx) (by rw [List.length_append];omega) h.fq
     rw [List.length_drop,show bs.length - (bs.length - (k+1))=k+1 by omega] at hr
     exact hr
  ·have h:=h.drew (n:=w.drawn+1)
   refine ⟨fun w=>bV b11 (cZ l cs.c cs.n) 145 (0,0) w∧aC 1 s ((ints bs).map vI) w,⟨h.hb,(h.tl:Hp E _ F).an hs⟩,ad.xw (fun _ h=>h.1) (hst _ _) ?_⟩
   refine ar.IB (sc:= .int .i64) ((h.tl:Hp E _ F).an hs) (fun _ h=>h.2) rfl (by simp [ints];exact hlt) (bs[k]:Int) (by simp [Sc.enc,vI,ints,hlt]) ⟨?_,?_⟩
   ·refine D1 h hl hv hx fun w h=>⟨⟨h.hb,(h.tl:Hp E w F).an hs⟩,?_⟩
    refine Nw.mk h fun b34 w h=>⟨⟨h.hb,(h.tl:Hp E w F).an hs⟩,?_⟩
    refine aw.q h hz1 (hst _ _) (List.all_eq_true.2 cU) fun w h=>⟨⟨h.hb,(h.tl:Hp E w F).an hs⟩,?_⟩
    exact hr' _ _ _ _ ⟨b34,rfl,rfl,rfl,h⟩
   ·refine Nw.mk h fun b34 w h=>⟨⟨h.hb,(h.tl:Hp E w F).an hs⟩,?_⟩
    refine D1 h hl hv hx fun w h=>⟨⟨h.hb,(h.tl:Hp E w F).an hs⟩,?_⟩
    refine aw.q h hz1 (hst _ _) (List.all_eq_true.2 cU) fun w h=>⟨⟨h.hb,(h.tl:Hp E w F).an hs⟩,?_⟩
    exact hr' _ _ _ _ ⟨b34,rfl,rfl,rfl,h⟩
 ·have hk2:k=bs.length:=by omega
  subst hk2
  rw [List.take_of_length_le (Nat.le_refl _)] at hrun
  exact hshort cs w hrun h.tl
end
end Go.Proofs.YtcdpblipagajiaaGreat
namespace Go.Proofs.YtcdpblipagajiaaGreat
open Go Go.Vc Go.Srt Go.Inc Go.Tab
section
variable {E w:World} {F:List HP}
theorem En (b n:Int):(⟨List.replicate 258 (.int .u8 0)++ [.int .i64 0,.int .i64 b,.int .i64 n,.int .i64 0]⟩:Array Value)=jK (List.replicate 258 0) 0 b n 0:=by
 unfold jK wi
 rw [List.map_replicate];rfl
theorem cP.tb {b n:Int} {K:Array Value→Prop} (hK:K (jK (List.replicate 258 0) 0 b n 0)):cP Tryz.prog 141 [(2,.int .i64 b),(3,.int .i64 n)] K:=by
 refine ⟨_,(by kernel_rfl:Tryz.prog.built 141 [(2,.int .i64 b),(3,.int .i64 n)]=some ⟨List.replicate 258 (.int .u8 0)++ [.int .i64 0,.int .i64 b,.int .i64 n,.int .i64 0]⟩),?_⟩
 rw [En];exact hK
set_option maxRecDepth 20000
theorem J7 {c x:Nat} (hx:x≤1) (hc:c<16384):jM .i64 (a7 .i64 (c:Int) 1) (x:Int)=((2*c+x:Nat):Int):=DY hx hc
theorem cf {l:List Nat} {s b n wy:Int}:(jK l s b n wy).toList.all ax=true:=by
 unfold jK wi
 rw [List.all_append,List.all_map]
 rw [Bool.and_eq_true]
 exact ⟨List.all_eq_true.2 fun _ _=>rfl,rfl⟩
theorem bz {l:List Nat} {s b n wy:Int} (hl:l.length=258):(jK l s b n wy).size=262:=by simp [hl]
theorem H9 {l:List Nat} {i x:Nat}:(wi l).set i (.int .u8 (x:Int))=wi (l.set i x):=by
 unfold wi
 rw [List.map_set]
def KU (t:TS) (x:Nat) (E:World) (F:List HP) (K:Array Value→Bool→World→Prop):Prop:=
 (∀t' w',bd cn t x= .more t'→Hp E w' F→K (jK (pad t'.l) (t'.l.length:Int) (t'.bits:Int) (t'.now:Int) (t'.way:Int)) true w')∧
 (∀l n w',bd cn t x= .fin l→Hp E w' F→K (jK l 258 4 n 0) true w')∧
 (∀o w',bd cn t x= .bad 100→o.size=262→o.toList.all ax=true→Hp E w' F→K o false w')
theorem HV {t:TS} {x:Nat} {K:Array Value→Bool→World→Prop} (h:Hp E w F) (ht:jW t) (hx:x≤1) (hK:KU t x E F K):
  Cl Tryz.prog [.arr 262,kB] gz ⟨[.agg (jK (pad t.l) (t.l.length:Int) (t.bits:Int) (t.now:Int) (t.way:Int)),.int .i64 (x:Int)]⟩ w K:=by
 obtain ⟨k1,k2,k3⟩:=hK
 obtain ⟨l,bits,now,way⟩:=t
 unfold jW at ht
 unfold bd at k1 k2 k3
 dsimp only at ht k1 k2 k3⊢
 have hl:l.length≤258:=by
  rcases ht with ⟨_,h,_⟩|⟨_,h,_⟩
  ·rw [h];simp
  ·omega
 have hL:=nY (cI hl)
 have hz:((⟨List.replicate 258 (.int .u8 0)++ [.int .i64 0,.int .i64 0,.int .i64 0,.int .i64 0]⟩:Array Value)).size=262:=by simp
 refine r5.ok _ _ _ _ ?_
 (try simp only [aB,av,aq,Nat.zero_add,Nat.add_zero,Nat.reduceAdd,Bool.not_true,Bool.not_false,aR,aS,Option.isNone])
 refine Nw.mk h fun b4 w h=>Nw.mk h fun b6 w h=> ?_
 have out: ∀{w:World} {l':List Nat} {s b n wy:Int} {K':World→Array Value→Prop},l'.length=258→
   Hp E w (aj b6 (.cells ⟨List.replicate 258 (.int .u8 0)++ [.int .i64 0,.int .i64 0,.int .i64 0,.int .i64 0]⟩ 141 (0,0))::aj b4 (.cells (jK l' s b n wy) 141 (0,0))::F)→
   (∀w',Hp E w' F→K' w' (jK l' s b n wy))→
   aw 262 ⟨b6,0,none⟩ (jK l' s b n wy) w fun w1=>Ld (.arr 262) ⟨b6,0,none⟩ w1 fun r=>K' w1 r:=by
  intro w l' s b n wy K' hl' h hk
  refine aw.q h hz (bz hl') cf fun w h=> ?_
  exact Ld.xw h (bz hl') (hk _ h.tl)
 rcases ht with ⟨h1,h2,h3,h4⟩|⟨h1,h2,h3,h4,h5⟩
 ·subst h2 h4
  simp only [if_pos h1] at k1 k2 k3
  have hnow:now<16384:=by
   have:2^bits≤2^3:=Nat.pow_le_pow_right (by decide) (by omega)
   omega
  (with_reducible repeat first|refine Nw.mk h fun b w h=> ?_|refine ao.mk h fun w h=> ?_|refine Ld.q h hL rfl rfl ?_|refine ad.q (fun _ h=>h) hL rfl rfl ?_|refine Ld.p h hL ?_|refine ad.p (fun _ h=>h) hL ?_|refine Ld.qw h hL rfl ?_|refine ad.qw (fun _ h=>h) hL rfl ?_|refine ⟨h.hb,?_⟩|(refine St.q h hL rfl rfl rfl fun w h=> ?_;dsimp only [ah,ae] at h)|refine aa.yes ?_|refine aa.no ?_|refine ⟨by first|omega|decide,?_⟩)
  rw [J7 hx hnow,af (by omega)] at h⊢
  exact out (K':=fun w x=>K x true w) (cI hl) h fun w h=>k1 _ _ rfl h
 ·simp only [if_neg (show¬bits<4 by omega)] at k1 k2 k3
  (with_reducible repeat first|refine Nw.mk h fun b w h=> ?_|refine ao.mk h fun w h=> ?_|refine Ld.q h hL rfl rfl ?_|refine ad.q (fun _ h=>h) hL rfl rfl ?_|refine Ld.p h hL ?_|refine ad.p (fun _ h=>h) hL ?_|refine Ld.qw h hL rfl ?_|refine ad.qw (fun _ h=>h) hL rfl ?_|refine ⟨h.hb,?_⟩|(refine St.q h hL rfl rfl rfl fun w h=> ?_;dsimp only [ah,ae] at h)|refine aa.yes ?_|refine aa.no ?_|refine ⟨by first|omega|decide,?_⟩)
  by_cases hb:bits=4
  ·subst hb
   simp only [if_true] at k1 k2 k3
   by_cases hx0:x=0
   ·subst hx0
    simp only [if_true] at k1 k2 k3
    (with_reducible repeat first|refine Nw.mk h fun b w h=> ?_|refine ao.mk h fun w h=> ?_|refine Ld.q h hL rfl rfl ?_|refine ad.q (fun _ h=>h) hL rfl rfl ?_|refine Ld.p h hL ?_|refine ad.p (fun _ h=>h) hL ?_|refine Ld.qw h hL rfl ?_|refine ad.qw (fun _ h=>h) hL rfl ?_|refine ⟨h.hb,?_⟩|(refine St.q h hL rfl rfl rfl fun w h=> ?_;dsimp only [ah,ae] at h)|refine aa.yes ?_|refine aa.no ?_|refine ⟨by first|omega|decide,?_⟩)
    refine ⟨by omega,by omega,?_⟩
    rw [show (((l.length:Int)).toNat*1)=l.length by omega,oS (by omega)]
    (try simp only [aB,av,aq,Nat.zero_add,Nat.add_zero,Nat.reduceAdd,Bool.not_true,Bool.not_false,aR,aS,Option.isNone])
    refine St.g h (by omega) rfl fun w h=> ?_
    rw [H9,HY h2] at h
    have hl2:(l++ [now]).length≤258:=by simp;omega
    have hL:=nY (cI hl2)
    (with_reducible repeat first|refine Nw.mk h fun b w h=> ?_|refine ao.mk h fun w h=> ?_|refine Ld.q h hL rfl rfl ?_|refine ad.q (fun _ h=>h) hL rfl rfl ?_|refine Ld.p h hL ?_|refine ad.p (fun _ h=>h) hL ?_|refine Ld.qw h hL rfl ?_|refine ad.qw (fun _ h=>h) hL rfl ?_|refine ⟨h.hb,?_⟩|(refine St.q h hL rfl rfl rfl fun w h=> ?_;dsimp only [ah,ae] at h)|refine aa.yes ?_|refine aa.no ?_|refine ⟨by first|omega|decide,?_⟩)
    rw [af (by omega),show (l.length:Int)+1=((l++ [now]).length:Int) by simp] at h
    have h:=h.drew (n:=w.drawn+1)
    refine ⟨bV b4 _ _ _,h.hb,?_⟩
    dsimp only
    (with_reducible repeat first|refine Nw.mk h fun b w h=> ?_|refine ao.mk h fun w h=> ?_|refine Ld.q h hL rfl rfl ?_|refine ad.q (fun _ h=>h) hL rfl rfl ?_|refine Ld.p h hL ?_|refine ad.p (fun _ h=>h) hL ?_|refine Ld.qw h hL rfl ?_|refine ad.qw (fun _ h=>h) hL rfl ?_|refine ⟨h.hb,?_⟩|(refine St.q h hL rfl rfl rfl fun w h=> ?_;dsimp only [ah,ae] at h)|refine aa.yes ?_|refine aa.no ?_|refine ⟨by first|omega|decide,?_⟩)
    by_cases hf:l.length+1<258
    ·rw [if_pos hf] at k1 k2 k3
     refine aa.dt (by simp;omega) ?_
     refine aw.q h hz (bz (cI hl2)) cf fun w h=> ?_
     (with_reducible repeat first|refine Nw.mk h fun b w h=> ?_|refine ao.mk h fun w h=> ?_|refine Ld.q h hL rfl rfl ?_|refine ad.q (fun _ h=>h) hL rfl rfl ?_|refine Ld.p h hL ?_|refine ad.p (fun _ h=>h) hL ?_|refine Ld.qw h hL rfl ?_|refine ad.qw (fun _ h=>h) hL rfl ?_|refine ⟨h.hb,?_⟩|(refine St.q h hL rfl rfl rfl fun w h=> ?_;dsimp only [ah,ae] at h)|refine aa.yes ?_|refine aa.no ?_|refine ⟨by first|omega|decide,?_⟩)
     exact k1 _ _ rfl h.tl
    ·rw [if_neg hf] at k1 k2 k3
     have hfull:(l++ [now]).length=258:=by simp;omega
     refine aa.df (by simp;omega) ?_
     (with_reducible repeat first|refine Nw.mk h fun b w h=> ?_|refine ao.mk h fun w h=> ?_|refine Ld.q h hL rfl rfl ?_|refine ad.q (fun _ h=>h) hL rfl rfl ?_|refine Ld.p h hL ?_|refine ad.p (fun _ h=>h) hL ?_|refine Ld.qw h hL rfl ?_|refine ad.qw (fun _ h=>h) hL rfl ?_|refine ⟨h.hb,?_⟩|(refine St.q h hL rfl rfl rfl fun w h=> ?_;dsimp only [ah,ae] at h)|refine aa.yes ?_|refine aa.no ?_|refine ⟨by first|omega|decide,?_⟩)
     rw [Fi hfull] at h⊢
     refine q5 h hfull fun w h=> ?_
     refine ⟨h.hb,?_⟩
     refine aw.q h hz (bz hfull) cf fun w h=>⟨h.hb,?_⟩
     refine Ld.xw h (bz hfull) ?_
     by_cases hok:cn (l++ [now])=true
     ·rw [if_pos hok] at k1 k2 k3
      rw [hok]
      have:=k2 _ (now:Int) _ rfl h.tl
      rw [hfull]
      exact this
     ·rw [if_neg hok] at k1 k2 k3
      rw [show cn (l++ [now])=false by simpa using hok]
      exact k3 _ _ rfl (bz hfull) cf h.tl
   ·simp only [if_neg hx0] at k1 k2 k3
    (with_reducible repeat first|refine Nw.mk h fun b w h=> ?_|refine ao.mk h fun w h=> ?_|refine Ld.q h hL rfl rfl ?_|refine ad.q (fun _ h=>h) hL rfl rfl ?_|refine Ld.p h hL ?_|refine ad.p (fun _ h=>h) hL ?_|refine Ld.qw h hL rfl ?_|refine ad.qw (fun _ h=>h) hL rfl ?_|refine ⟨h.hb,?_⟩|(refine St.q h hL rfl rfl rfl fun w h=> ?_;dsimp only [ah,ae] at h)|refine aa.yes ?_|refine aa.no ?_|refine ⟨by first|omega|decide,?_⟩)
    exact out (K':=fun w x=>K x true w) (cI hl) h fun w h=>k1 _ _ rfl h
  ·simp only [if_neg hb] at k1 k2 k3
   have hb5:bits=5:=by omega
   subst hb5
   by_cases hx0:x=0
   ·subst hx0
    simp only [if_true] at k1 k2 k3
    (with_reducible repeat first|refine Nw.mk h fun b w h=> ?_|refine ao.mk h fun w h=> ?_|refine Ld.q h hL rfl rfl ?_|refine ad.q (fun _ h=>h) hL rfl rfl ?_|refine Ld.p h hL ?_|refine ad.p (fun _ h=>h) hL ?_|refine Ld.qw h hL rfl ?_|refine ad.qw (fun _ h=>h) hL rfl ?_|refine ⟨h.hb,?_⟩|(refine St.q h hL rfl rfl rfl fun w h=> ?_;dsimp only [ah,ae] at h)|refine aa.yes ?_|refine aa.no ?_|refine ⟨by first|omega|decide,?_⟩)
    by_cases hw:way=2
    ·subst hw
     (with_reducible repeat first|refine Nw.mk h fun b w h=> ?_|refine ao.mk h fun w h=> ?_|refine Ld.q h hL rfl rfl ?_|refine ad.q (fun _ h=>h) hL rfl rfl ?_|refine Ld.p h hL ?_|refine ad.p (fun _ h=>h) hL ?_|refine Ld.qw h hL rfl ?_|refine ad.qw (fun _ h=>h) hL rfl ?_|refine ⟨h.hb,?_⟩|(refine St.q h hL rfl rfl rfl fun w h=> ?_;dsimp only [ah,ae] at h)|refine aa.yes ?_|refine aa.no ?_|refine ⟨by first|omega|decide,?_⟩)
     exact out (K':=fun w x=>K x false w) (cI hl) h fun w h=>k3 _ _ (by simp) (bz (cI hl)) cf h
    ·(with_reducible repeat first|refine Nw.mk h fun b w h=> ?_|refine ao.mk h fun w h=> ?_|refine Ld.q h hL rfl rfl ?_|refine ad.q (fun _ h=>h) hL rfl rfl ?_|refine Ld.p h hL ?_|refine ad.p (fun _ h=>h) hL ?_|refine Ld.qw h hL rfl ?_|refine ad.qw (fun _ h=>h) hL rfl ?_|refine ⟨h.hb,?_⟩|(refine St.q h hL rfl rfl rfl fun w h=> ?_;dsimp only [ah,ae] at h)|refine aa.yes ?_|refine aa.no ?_|refine ⟨by first|omega|decide,?_⟩)
     refine out (K':=fun w x=>K x (decide ((now:Int)<15)) w) (cI hl) h fun w h=> ?_
     have ei:i64 ((now:Int)+1)=(now:Int)+1:=af (by omega)
     try rw [ei]
     try rw [af (x:=(now:Int) - 1) (by omega)]
     by_cases hn:now<15
     ·rw [if_pos ⟨hw,hn⟩] at k1
      exact iX (K:=fun b w=>K _ b w) (decide_eq_true (by omega)) (k1 _ _ rfl h)
     ·rw [if_neg (fun hh=>hn hh.2)] at k3
      exact iX (K:=fun b w=>K _ b w) (decide_eq_false (by omega)) (k3 _ _ rfl (bz (cI hl)) cf h)
   ·have hx1:x=1:=by omega
    subst hx1
    simp only [if_neg hx0] at k1 k2 k3
    (with_reducible repeat first|refine Nw.mk h fun b w h=> ?_|refine ao.mk h fun w h=> ?_|refine Ld.q h hL rfl rfl ?_|refine ad.q (fun _ h=>h) hL rfl rfl ?_|refine Ld.p h hL ?_|refine ad.p (fun _ h=>h) hL ?_|refine Ld.qw h hL rfl ?_|refine ad.qw (fun _ h=>h) hL rfl ?_|refine ⟨h.hb,?_⟩|(refine St.q h hL rfl rfl rfl fun w h=> ?_;dsimp only [ah,ae] at h)|refine aa.yes ?_|refine aa.no ?_|refine ⟨by first|omega|decide,?_⟩)
    by_cases hw:way=1
    ·subst hw
     (with_reducible repeat first|refine Nw.mk h fun b w h=> ?_|refine ao.mk h fun w h=> ?_|refine Ld.q h hL rfl rfl ?_|refine ad.q (fun _ h=>h) hL rfl rfl ?_|refine Ld.p h hL ?_|refine ad.p (fun _ h=>h) hL ?_|refine Ld.qw h hL rfl ?_|refine ad.qw (fun _ h=>h) hL rfl ?_|refine ⟨h.hb,?_⟩|(refine St.q h hL rfl rfl rfl fun w h=> ?_;dsimp only [ah,ae] at h)|refine aa.yes ?_|refine aa.no ?_|refine ⟨by first|omega|decide,?_⟩)
     exact out (K':=fun w x=>K x false w) (cI hl) h fun w h=>k3 _ _ (by simp) (bz (cI hl)) cf h
    ·(with_reducible repeat first|refine Nw.mk h fun b w h=> ?_|refine ao.mk h fun w h=> ?_|refine Ld.q h hL rfl rfl ?_|refine ad.q (fun _ h=>h) hL rfl rfl ?_|refine Ld.p h hL ?_|refine ad.p (fun _ h=>h) hL ?_|refine Ld.qw h hL rfl ?_|refine ad.qw (fun _ h=>h) hL rfl ?_|refine ⟨h.hb,?_⟩|(refine St.q h hL rfl rfl rfl fun w h=> ?_;dsimp only [ah,ae] at h)|refine aa.yes ?_|refine aa.no ?_|refine ⟨by first|omega|decide,?_⟩)
     refine out (K':=fun w x=>K x (decide ((now:Int)>0)) w) (cI hl) h fun w h=> ?_
     have ei:i64 ((now:Int)+1)=(now:Int)+1:=af (by omega)
     try rw [ei]
     try rw [af (x:=(now:Int) - 1) (by omega)]
     by_cases hn:0<now
     ·rw [if_pos ⟨hw,hn⟩] at k1
      rw [show (now:Int) - 1=((now - 1:Nat):Int) by omega]
      exact iX (K:=fun b w=>K _ b w) (decide_eq_true (by omega)) (k1 _ _ rfl h)
     ·rw [if_neg (fun hh=>hn hh.2)] at k3
      exact iX (K:=fun b w=>K _ b w) (decide_eq_false (by omega)) (k3 _ _ rfl (bz (cI hl)) cf h)
end
end Go.Proofs.YtcdpblipagajiaaGreat
namespace Go.Inc
theorem yA {α σ β ε:Type} {f:σ→α→ru σ β ε} {s s':σ} {l:List α} {k:Nat} (h:run f s (l.take k)= .short s'):run f s l=run f s' (l.drop k):=by
 conv=>lhs;rw [←List.take_append_drop k l]
 exact bW h _
end Go.Inc
namespace Go.Proofs.YtcdpblipagajiaaGreat
open Go Go.Vc Go.Srt Go.Inc Go.Tab
section
variable {E w:World} {F:List HP}
set_option maxRecDepth 20000
abbrev rW:Array Value:=⟨List.replicate 258 (.int .u8 0)⟩
theorem HE {bs:List Nat} {s:Sl} {K:Array Value→Int→Int→World→Prop} (h:Hp E w F) (hs:ab F (aC 1 s ((ints bs).map vI))) (hb: ∀x∈bs,x≤1) (hbig:bs.length≤bR)
  (hshort: ∀s' w',run (bd cn) t0 bs= .short s'→Hp E w' F→K rW 0 50 w')
  (hbad: ∀w',run (bd cn) t0 bs= .bad 100→Hp E w' F→K rW 0 100 w')
  (hfin: ∀l r w',run (bd cn) t0 bs= .fin l r→Hp E w' F→K (ai .u8 l) ((bs.length - r.length:Nat):Int) 0 w'):
  Cl Tryz.prog [.arr 258,kI,kI] gm ⟨[.slice s.base s.len s.cap]⟩ w K:=by
 have hz:(⟨List.replicate 258 (.int .u8 0)++ [.int .i64 0,.int .i64 0,.int .i64 0,.int .i64 0]⟩:Array Value)=jK (pad t0.l) (t0.l.length:Int) (t0.bits:Int) (t0.now:Int) (t0.way:Int):=by
  rw [En];rfl
 have hz0:rW.size=258:=by simp
 have hz1:rW.toList.all ax=true:=by decide
 refine rZ.ok _ _ _ ?_
 (try simp only [aB,av,aq,Nat.zero_add,Nat.add_zero,Nat.reduceAdd,Bool.not_true,Bool.not_false,aR,aS,Option.isNone])
 have hlen:bs.length=s.len:=by have:=(h.an hs).1;simpa [ints] using this
 rw [au] at hbig
 refine Nw.mk h fun b3 w h=>Nw.mk h fun b5 w h=> ?_
 rw [hz] at h
 have out: ∀{w:World} {K':Array Value→World→Prop} {l:List HP},Hp E w (l++(aj b3 (.cells rW 36 (0,0))::F))→(∀w',Hp E w' F→K' rW w')→
   Ld (.arr 258) ⟨b3,0,none⟩ w fun x22=>aw 258 ⟨b3,0,none⟩ x22 w fun w_23=>Ld (.arr 258) ⟨b3,0,none⟩ w_23 fun res24=>K' res24 w_23:=by
  intro w K' l h hk
  have h:=h.o7
  refine Ld.xw h hz0 (aw.q h hz0 hz0 hz1 fun w h=>Ld.xw h hz0 (hk _ h.tl))
 refine ⟨fun i w'=> ∃(k:Nat) (t:TS),i=(k:Int)∧k≤bs.length∧jW t∧run (bd cn) t0 (bs.take k)= .short t∧
  Hp E w' (aj b5 (.cells (jK (pad t.l) (t.l.length:Int) (t.bits:Int) (t.now:Int) (t.way:Int)) 141 (0,0))::aj b3 (.cells rW 36 (0,0))::F),
  fun i _=>bs.length - i.toNat,⟨0,t0,rfl,by omega,jW.zero,rfl,h⟩,?_⟩
 rintro i w ⟨k,t,rfl,hk,ht,hrun,h⟩
 refine aa.dm (fun hlt=> ?_) (fun hge=> ?_)
 ·have hlt:k<bs.length:=by omega
  refine ar.rd (h.tl.an hs) (by omega) (by omega) fun q hi hq=> ?_
  have hx:=hb _ (List.getElem_mem hlt)
  refine Ld.sc (s:= .int .i64) (bs[k]:Int) (by rw [hq];simp [Sc.enc,vI,ints]) ⟨by decide,?_⟩
  have e1:aD .i64 (bs[k]:Int) 1=0:=by
   have:bs[k]=0∨bs[k]=1:=by omega
   rcases this with e|e<;>rw [e]<;>rfl
  rw [e1]
  refine aa.nf rfl ?_
  have htl:(pad t.l).length=258:=cI (by
   rcases ht with ⟨_,h,_⟩|⟨_,h,_⟩
   ·rw [h];simp
   ·omega)
  refine Ld.xw h (bz htl) ?_
  refine HV h ht hx ⟨fun t' w he h=> ?_,fun l n w he h=> ?_,fun o w he ho hos h=> ?_⟩
  ·have ht':=zn ht hx he
   have hl':t'.l.length<258:=by
    rcases ht' with ⟨_,h,_⟩|⟨_,h,_⟩
    ·rw [h];simp
    ·omega
   have hp:=cI (Nat.le_of_lt hl')
   refine Nw.mk h fun b20 w h=> ?_
   refine aw.q h (by simp) (bz hp) cf fun w h=> ?_
   with_reducible refine aa.GX ?_
   refine Ld.xw h (bz hp) ?_
   refine aw.q h (bz htl) (bz hp) cf fun w h=> ?_
   have hL:=nY hp
   refine Ld.q h hL rfl rfl ?_
   refine aa.ef (by omega) ?_
   rw [af (by omega)]
   refine ⟨⟨k+1,t',rfl,by omega,ht',?_,h.no 0⟩,by first|omega|(dsimp only;omega)⟩
   rw [List.take_add_one,List.getElem?_eq_getElem hlt]
   show run (bd cn) t0 (bs.take k++ [bs[k]])=_
   rw [bW hrun,bw he];rfl
  ·have hf:=(vW ht he).1
   refine Nw.mk h fun b20 w h=> ?_
   refine aw.q h (by simp) (bz hf) cf fun w h=> ?_
   with_reducible refine aa.GX ?_
   refine Ld.xw h (bz hf) ?_
   refine aw.q h (bz htl) (bz hf) cf fun w h=> ?_
   have hL:=nY hf
   refine Ld.q h hL rfl rfl ?_
   refine aa.et rfl ?_
   refine Ld.p (b:=b5) h hL ?_
   have hls:(⟨wi l⟩:Array Value).size=258:=by simpa using hf
   refine aw.q h hz0 hls (List.all_eq_true.2 eZ) fun w h=>Ld.xw h hls ?_
   rw [af (by omega)]
   have hr:=hfin l (bs.drop (k+1)) w (by rw [yA hrun,List.drop_eq_getElem_cons hlt,jg he]) h.tl
   rw [List.length_drop,show bs.length - (bs.length - (k+1))=k+1 by omega] at hr
   exact hr
  ·refine Nw.mk h fun b20 w h=> ?_
   refine aw.q h (by simp) ho hos fun w h=> ?_
   with_reducible refine aa.K1 ?_
   refine out (l:= [_,_]) h fun w h=>hbad w ?_ h
   rw [yA hrun,List.drop_eq_getElem_cons hlt,q7 he]
 ·have hk2:k=bs.length:=by omega
  subst hk2
  rw [List.take_of_length_le (Nat.le_refl _)] at hrun
  exact out (l:= [_]) h fun w h=>hshort t w hrun h
end
end Go.Proofs.YtcdpblipagajiaaGreat
namespace Go.aj
open Go.Inc Go.Srt Go.Sym Go.Bits Go.Tab Go.Hd Go.Crc Go.Bw Go.Proofs.YtcdpblipagajiaaGreat
theorem yy {n M P u:Nat} {r:List Nat}: ∀(b:List Nat) (s:MS),mK n s→(∀c∈b,c<256)→run (aL n) s b= .fin (.aA M P u) r→1≤M∧M≤n∧1≤P∧P≤M
 | [],s,_,_,h=>by cases h
 |c::b,s,hs,hb,h=>by
  rw [cL] at h
  cases hc:aL n s c with
  |more s'=>
   rw [hc] at h
   exact yy b s' (xS hs (hb c (by simp)) hc) (fun y hy=>hb y (by simp [hy])) h
  |fin m=>
   rw [hc] at h
   cases h
   exact DA hs hc
  |bad e=>rw [hc] at h;cases h
theorem jw {α σ β ε:Type} {f:σ→α→ru σ β ε} {r:List α} {x:β}: ∀(b:List α) (s:σ),run f s b= .fin x r→∃a,b=a++r
 | [],s,h=>by cases h
 |c::b,s,h=>by
  rw [cL] at h
  cases hc:f s c with
  |more s'=>
   rw [hc] at h
   obtain ⟨a,e⟩:=jw b s' h
   exact ⟨c::a,by rw [e];rfl⟩
  |fin m=>
   rw [hc] at h
   cases h
   exact ⟨[c],rfl⟩
  |bad e=>rw [hc] at h;cases h
theorem zM {l r:List Nat}: ∀(b:List Nat) (t:TS),jW t→(∀c∈b,c≤1)→run (bd cn) t b= .fin l r→l.length=258∧cn l=true
 | [],s,_,_,h=>by cases h
 |c::b,s,hs,hb,h=>by
  rw [cL] at h
  cases hc:bd cn s c with
  |more s'=>
   rw [hc] at h
   exact zM b s' (zn hs (hb c (by simp)) hc) (fun y hy=>hb y (by simp [hy])) h
  |fin m=>
   rw [hc] at h
   cases h
   exact vW hs hc
  |bad e=>rw [hc] at h;cases h
theorem Eg {left:List Nat} (hb: ∀x∈left,x≤1):qY left= !decide (1∈left.take (left.length % 8)):=by
 unfold qY
 rw [Bool.eq_iff_iff]
 simp only [List.all_eq_true,beq_iff_eq,Bool.not_eq_true',decide_eq_false_iff_not]
 constructor
 ·intro h hm
  have:=h 1 hm
  omega
 ·intro h x hx
  have:=hb x (List.mem_of_mem_take hx)
  have:x≠1:=fun e=>h (e▸hx)
  omega
end Go.aj
namespace Go.Proofs.YtcdpblipagajiaaGreat
open Go Go.Vc Go.Srt Go.Inc Go.Sym Go.Tab Go.Hd Go.Bw Go.Bits Go.aj Go.Crc
section
variable {E w:World} {F:List HP}
set_option maxRecDepth 20000
theorem Gh {n:Int} {s:Sl} {b:List Nat} {K:Sl→Sl→Int→World→Prop} (h:Hp E w F) (hs:ab F (aC 1 s (b.map vB))) (hb: ∀y∈b,y<256) (hbig:b.length≤10000000) (hcap:s.len≤s.cap)
  (harg: ¬(1≤n∧n≤65536)→∀w',Hp E w' F→K ⟨none,0,0⟩ ⟨none,0,0⟩ 2 w')
  (herr:1≤n→n≤65536→∀e w',ck n.toNat b= .error e→e≠0→Hp E w' F→K ⟨none,0,0⟩ ⟨none,0,0⟩ (e:Int) w')
  (hok:1≤n→n≤65536→∀x r s1 s2 w',ck n.toNat b= .ok (x,r)→(∀y∈x,y<256)→(∀y∈r,y<256)→x.length≤65536→Hp E w' (al 1 s1 (x.map vB)::al 1 s2 (r.map vB)::F)→K s1 s2 0 w'):
  Cl Tryz.prog [kS,kS,kI] j8 ⟨[.int .i64 n,.slice s.base s.len s.cap]⟩ w K:=by
 refine yU.ok _ _ _ _ ?_
 (try simp only [aB,av,aq,Nat.zero_add,Nat.add_zero,Nat.reduceAdd,Bool.not_true,Bool.not_false,aR,aS,Option.isNone])
 by_cases hn: ¬(1≤n∧n≤65536)
 ·refine Ai h hn fun w h=> ?_
  (with_reducible repeat first|refine Nw.mk h fun b w h=> ?_|refine ao.mk h fun w h=> ?_|refine Ld.xb h rfl ?_|refine Ld.xt h rfl ?_|refine ad.xb (fun _ h=>h) rfl ?_|refine ad.xt (fun _ h=>h) rfl ?_|refine ⟨h.hb,?_⟩|refine ag.xw h rfl rfl fun w h=> ?_|(refine ag.xs h rfl rfl fun w h=> ?_;dsimp only [ah,ae] at h)|(refine St.xs h rfl rfl fun w h=> ?_;dsimp only [ah,ae] at h)|refine aa.yes ?_|refine aa.no ?_|refine ⟨by first|omega|decide,?_⟩)
  exact harg hn w h.tl
 have hn:1≤n∧n≤65536:=Decidable.not_not.1 hn
 obtain ⟨m,rfl⟩: ∃m:Nat,n=(m:Int):=⟨n.toNat,by omega⟩
 have herr:=herr hn.1 hn.2
 have hok:=hok hn.1 hn.2
 rw [Int.toNat_natCast] at herr hok
 unfold ck at herr hok
 refine xU h (by omega) (by omega) hs hb (by rw [au];omega) hcap (fun s' w hr h=> ?_) (fun w hr h=> ?_) (fun M P u r s5 w hr h=> ?_) (fun u r s5 w hr h=> ?_)
 ·rw [hr] at herr
  (with_reducible repeat first|refine Nw.mk h fun b w h=> ?_|refine ao.mk h fun w h=> ?_|refine Ld.xb h rfl ?_|refine Ld.xt h rfl ?_|refine ad.xb (fun _ h=>h) rfl ?_|refine ad.xt (fun _ h=>h) rfl ?_|refine ⟨h.hb,?_⟩|refine ag.xw h rfl rfl fun w h=> ?_|(refine ag.xs h rfl rfl fun w h=> ?_;dsimp only [ah,ae] at h)|(refine St.xs h rfl rfl fun w h=> ?_;dsimp only [ah,ae] at h)|refine aa.yes ?_|refine aa.no ?_|refine ⟨by first|omega|decide,?_⟩)
  exact herr 50 w rfl (by decide) h.tl
 ·rw [hr] at herr
  (with_reducible repeat first|refine Nw.mk h fun b w h=> ?_|refine ao.mk h fun w h=> ?_|refine Ld.xb h rfl ?_|refine Ld.xt h rfl ?_|refine ad.xb (fun _ h=>h) rfl ?_|refine ad.xt (fun _ h=>h) rfl ?_|refine ⟨h.hb,?_⟩|refine ag.xw h rfl rfl fun w h=> ?_|(refine ag.xs h rfl rfl fun w h=> ?_;dsimp only [ah,ae] at h)|(refine St.xs h rfl rfl fun w h=> ?_;dsimp only [ah,ae] at h)|refine aa.yes ?_|refine aa.no ?_|refine ⟨by first|omega|decide,?_⟩)
  exact herr 242 w rfl (by decide) h.tl
 ·rw [hr] at herr hok
  dsimp only at herr hok
  have hM:=yy b fZ (.inl ⟨rfl,rfl⟩) hb hr
  obtain ⟨a,hsuf⟩:=jw b fZ hr
  have hrb: ∀y∈r,y<256:=fun y hy=>hb y (by rw [hsuf];exact List.mem_append.2 (.inr hy))
  have hrl:r.length≤b.length:=by rw [hsuf,List.length_append];omega
  have hl5:=h.aH
  have hc5:=h.ed
  rw [List.length_map,Nat.mul_one] at hl5
  (with_reducible repeat first|refine Nw.mk h fun b w h=> ?_|refine ao.mk h fun w h=> ?_|refine Ld.xb h rfl ?_|refine Ld.xt h rfl ?_|refine ad.xb (fun _ h=>h) rfl ?_|refine ad.xt (fun _ h=>h) rfl ?_|refine ⟨h.hb,?_⟩|refine ag.xw h rfl rfl fun w h=> ?_|(refine ag.xs h rfl rfl fun w h=> ?_;dsimp only [ah,ae] at h)|(refine St.xs h rfl rfl fun w h=> ?_;dsimp only [ah,ae] at h)|refine aa.yes ?_|refine aa.no ?_|refine ⟨by first|omega|decide,?_⟩)
  refine JD h (ab.at 1 ab.own) hrb (by omega) fun s12 w h=> ?_
  have hal:=fJ r
  have hab: ∀x∈aY r,x≤1:=fun x hx=>by have:=AX r (8*r.length) x hx;omega
  have hl12:=h.aH
  have hc12:=h.ed
  simp only [ints,List.length_map,Nat.mul_one] at hl12
  unfold p6 at herr hok
  refine HE h ab.own hab (by rw [au];omega) (fun t w hq h=> ?_) (fun w hq h=> ?_) (fun l more w hq h=> ?_)
  ·rw [hq] at herr
   refine Nw.mk h fun b18 w h=>aw.q h (by simp) (by simp) (by decide) fun w h=>aa.nt (by decide) (herr 50 w rfl (by decide) h.tl)
  ·rw [hq] at herr
   refine Nw.mk h fun b18 w h=>aw.q h (by simp) (by simp) (by decide) fun w h=>aa.nt (by decide) (herr 100 w rfl (by decide) h.tl)
  ·rw [hq] at herr hok
   dsimp only at herr hok
   obtain ⟨hl,hokT⟩:=zM _ t0 jW.zero hab hq
   obtain ⟨a2,hsuf2⟩:=jw _ t0 hq
   have hls:(ai .u8 l).size=258:=by rw [aK,hl]
   have hlc:(ai .u8 l).toList.all ax=true:=List.all_eq_true.2 eZ
   have hmore:more=(aY r).drop ((aY r).length - more.length):=by
    conv=>rhs;rw [hsuf2]
    rw [List.length_append,show a2.length+more.length - more.length=a2.length by omega,List.drop_left]
   have hml:more.length≤(aY r).length:=by rw [hsuf2,List.length_append];omega
   refine Nw.mk h fun b18 w h=>aw.q h (by simp) hls hlc fun w h=>aa.nf rfl (ao.mk h fun w h=> ?_)
   refine Ld.xb (x:=(M:Int)) h rfl (Ld.xw h hls ?_)
   have e12: ∀k:Nat,(((ints (aY r)).map vI).drop k)=(ints ((aY r).drop k)).map vI:=fun k=>by simp [ints]
   refine bj.rd ((h.at 1).an ab.own) (by omega) (by omega) (by omega) (by omega) (by omega) fun s32 hs32 hl32=> ?_
   simp only [Int.toNat_natCast] at hs32 hl32
   rw [e12,←hmore,List.take_of_length_le (by simp [ints];omega)] at hs32
   have hmb: ∀x∈more,x≤1:=fun x hx=>hab x (by rw [hsuf2];exact List.mem_append.2 (.inr hx))
   refine Dt h hl hokT (by omega) (by omega) ((ab.at 1 ab.own).imp fun w hw=>hs32 w hw) hmb (by rw [au];omega) (fun t w hq2 h=> ?_) (fun w hq2 h=> ?_) (fun last left s34 w hq2 hlb hll h=> ?_)
   ·rw [hq2] at herr
    exact aa.nt (by decide) (herr 50 w rfl (by decide) h.tl)
   ·rw [hq2] at herr
    exact aa.nt (by decide) (herr 160 w rfl (by decide) h.tl)
   ·rw [hq2] at herr hok
    dsimp only at herr hok
    obtain ⟨a3,hsuf3⟩:=jw _ _ hq2
    have hleft:left=(aY r).drop ((aY r).length - left.length):=by
     conv=>rhs;rw [hsuf2,hsuf3]
     rw [←List.append_assoc,List.length_append,show (a2++a3).length+left.length - left.length=(a2++a3).length by omega,List.drop_left]
    have hll2:left.length≤more.length:=by rw [hsuf3,List.length_append];omega
    have hlb1: ∀x∈left,x≤1:=fun x hx=>hmb x (by rw [hsuf3];exact List.mem_append.2 (.inr hx))
    have hpad:=Eg hlb1
    obtain ⟨p,hp⟩: ∃p,p=(aY r).length - left.length:=⟨_,rfl⟩
    have e1:(((aY r).length - more.length:Nat):Int)+((more.length - left.length:Nat):Int)=(p:Int):=by omega
    have hmx:IntKind.max .i64=9223372036854775807:=rfl
    have e2:aD .i64 ((p:Int)+7) 3=(((p+7)/8:Nat):Int):=by
     rw [show (p:Int)+7=((p+7:Nat):Int) by omega,show (3:Int)=((3:Nat):Int) from rfl,bF (by decide)]
    have e3:a7 .i64 (((p+7)/8:Nat):Int) 3=((8*((p+7)/8):Nat):Int):=by
     have:=dJ (k:= .i64) (a:=(p+7)/8) (b:=3) (by decide) (by rw [hmx];omega)
     rw [show (3:Int)=((3:Nat):Int) from rfl,this]
     congr 1;omega
    rw [e1,af (x:=(p:Int)) (by omega),af (x:=(p:Int)+7) (by omega),e2,e3]
    refine aa.nf rfl ⟨by decide,by decide,?_⟩
    refine bj.rd ((h.at 2).an ab.own) (by omega) (by omega) (by omega) (by omega) (by omega) fun s37 hs37 hl37=> ?_
    simp only [Int.toNat_natCast] at hs37 hl37
    rw [e12,hp,←hleft,←hp,show 8*((p+7)/8) - p=left.length % 8 by omega] at hs37
    rw [show (((ints left).map vI).take (left.length % 8))=(ints (left.take (left.length % 8))).map vI by simp [ints]] at hs37
    refine Fk h ((ab.at 2 ab.own).imp fun w hw=>hs37 w hw) (by rw [List.length_take,au];omega) fun w h=> ?_
    by_cases hpo:1∈left.take (left.length % 8)
    ·rw [hpad,decide_eq_true hpo] at herr
     rw [decide_eq_true hpo]
     exact aa.t rfl (herr 160 w rfl (by decide) h.tl)
    ·rw [hpad,decide_eq_false hpo] at herr hok
     rw [decide_eq_false hpo]
     refine aa.f rfl (Ld.xb (x:=(P:Int)) h rfl ?_)
     unfold mM at herr hok
     simp only [Bool.not_false,if_true] at herr hok
     refine Fq h ab.own hlb (by omega) (fun ho s42 w h=> ?_) (fun ho w h=> ?_)
     ·have ho:okB last P:=by simpa [Du] using ho
      rw [if_pos ho] at herr hok
      refine aa.nf rfl ?_
      have htl:=pQ last P
      have htb: ∀y∈eP last P,y<256:=fun y hy=>by
       unfold eP at hy
       simp only [List.mem_reverse,List.mem_map,List.mem_range] at hy
       obtain ⟨k,_,rfl⟩:=hy
       rw [List.getD_eq_getElem?_getD]
       cases hg:last[bS P (wk last P k)]? with
       |none=>decide
       |some z=>exact hlb z (List.mem_of_getElem? hg)
      refine vu h ab.own (by rw [Int.toNat_natCast,htl,au];omega) fun s45 w h=> ?_
      rw [Int.toNat_natCast] at h
      have hl45:=h.aH
      rw [List.length_map,Nat.mul_one,List.length_reverse] at hl45
      have h:=h.drew (n:=w.drawn+1)
      refine ⟨bV b _ _ _,h.hb,?_⟩
      refine ad.xb (x:=(u:Int)) (fun _ h=>h) rfl (Nw.mk h fun b58 w h=>⟨h.hb,?_⟩)
      refine xe (s:=⟨some ⟨b58,0,none⟩,1,1⟩) (cs:= [s45]) (bs:= [(eP last P).reverse]) h (ab.aA rfl rfl) rfl (by rw [au];simp) (fun i hi=> ?_) (fun z hz y hy=> ?_) (fun z hz=> ?_) fun w h=>⟨h.hb,?_⟩
      ·match i,hi with
       |0,_=>exact ab.cons ab.own
      ·rw [List.mem_singleton] at hz
       rw [hz] at hy
       exact htb y (List.mem_reverse.1 hy)
      ·rw [List.mem_singleton] at hz
       rw [hz,List.length_reverse,htl,au];omega
      rw [show [(eP last P).reverse].flatten=(eP last P).reverse by simp]
      by_cases hc:fX (eP last P).reverse=u
      ·rw [if_pos hc] at hok
       refine aa.nf (by omega) ?_
       have hrd:(r.map vB).drop ((p+7)/8)=(r.drop ((p+7)/8)).map vB:=by rw [List.map_drop]
       refine bj.rd ((h.at 7).an ab.own) (by omega) (by omega) (by omega) (by omega) (by omega) fun s61 hs61 hl61=> ?_
       simp only [Int.toNat_natCast] at hs61 hl61
       rw [hrd,List.take_of_length_le (by simp;omega)] at hs61
       refine qN h ((ab.at 7 ab.own).imp fun w hw=>hs61 w hw) (by rw [List.length_drop,au];omega) fun s63 w h=> ?_
       have e9:r.length - left.length/8=(p+7)/8:=by omega
       refine hok (eP last P).reverse (r.drop ((p+7)/8)) s45 s63 w (by rw [e9]) (fun y hy=>htb y (List.mem_reverse.1 hy)) (fun y hy=>hrb y (List.mem_of_mem_drop hy)) (by rw [List.length_reverse,htl];omega) ?_
       exact ((h.no 1).p1).JV
      ·rw [if_neg hc] at herr
       exact aa.nt (by omega) (herr 250 w rfl (by decide) h.tl)
     ·have ho: ¬okB last P:=by simpa [Du] using ho
      rw [if_neg ho] at herr
      exact aa.nt (by decide) (herr 170 w rfl (by decide) h.tl)
 ·rw [hr] at herr
  (with_reducible repeat first|refine Nw.mk h fun b w h=> ?_|refine ao.mk h fun w h=> ?_|refine Ld.xb h rfl ?_|refine Ld.xt h rfl ?_|refine ad.xb (fun _ h=>h) rfl ?_|refine ad.xt (fun _ h=>h) rfl ?_|refine ⟨h.hb,?_⟩|refine ag.xw h rfl rfl fun w h=> ?_|(refine ag.xs h rfl rfl fun w h=> ?_;dsimp only [ah,ae] at h)|(refine St.xs h rfl rfl fun w h=> ?_;dsimp only [ah,ae] at h)|refine aa.yes ?_|refine aa.no ?_|refine ⟨by first|omega|decide,?_⟩)
  exact herr 242 w rfl (by decide) h.tl
end
end Go.Proofs.YtcdpblipagajiaaGreat
set_option maxRecDepth 20000
namespace Go.Proofs.YtcdpblipagajiaaGreat
open Go Go.Vc
section
variable {E w:World} {F:List HP}
theorem DM {s1 s2:Sl} {a b:List Nat} {K:Bool→World→Prop} (h1:aC 1 s1 (a.map vB) w) (h2:aC 1 s2 (b.map vB) w) (ha: ∀x∈a,x<256) (hb: ∀x∈b,x<256) (hK:K (a==b) w):
  Cl Tryz.prog [kB] k6 ⟨[.slice s1.base s1.len s1.cap,.slice s2.base s2.len s2.cap]⟩ w K:=by
 refine Au.ok _ _ _ _ ?_
 refine qq (e:=5) (by kernel_rfl) (by kernel_rfl) (by kernel_rfl) h1 ?_
 refine qq (e:=5) (by kernel_rfl) (by kernel_rfl) (by kernel_rfl) h2 ?_
 rw [F4 ha hb]
 exact hK
end
end Go.Proofs.YtcdpblipagajiaaGreat
namespace Go.Proofs.YtcdpblipagajiaaGreat
open Go Go.Vc Go.Srt Go.Inc Go.Sym Go.Tab Go.Hd Go.Bw Go.Bits Go.aj Go.Crc Go.Stm
theorem yi {n:Nat} {r:List Nat}: ∀(b:List Nat) (s:HS),uf s→(∀c∈b,c<256)→run bC s b= .fin n r→1≤n∧n≤65536
 | [],s,_,_,h=>by cases h
 |c::b,s,hs,hb,h=>by
  rw [cL] at h
  cases hc:bC s c with
  |more s'=>
   rw [hc] at h
   exact yi b s' (zW hs (hb c (by simp)) hc) (fun y hy=>hb y (by simp [hy])) h
  |fin m=>
   rw [hc] at h
   cases h
   unfold bC at hc
   split at hc
   ·split at hc<;>cases hc
   ·split at hc
    ·cases hc
    ·rename_i hg
     cases hc
     have:=gI (hb c (by simp)) hg
     omega
    ·cases hc
  |bad e=>rw [hc] at h;cases h
theorem zw {r:Nat}: ∀(b:List Nat) (t:HS),run bC t b= .bad r→r≠0
 | [],s,h=>by cases h
 |c::b,s,h=>by
  rw [cL] at h
  cases hc:bC s c with
  |more s'=>rw [hc] at h;exact zw b s' h
  |fin m=>rw [hc] at h;cases h
  |bad e=>
   rw [hc] at h
   cases h
   unfold bC at hc
   repeat' split at hc
   all_goals first|cases hc;done|(cases hc;decide)
section
variable {E w:World} {F:List HP}
set_option maxRecDepth 20000
theorem jc {s:Sl} {c:List Nat} {K:Sl→Int→Int→World→Prop} (h:Hp E w F) (hs:ab F (aC 1 s (c.map vB))) (hb: ∀y∈c,y<256) (hbig:c.length≤10000000) (hcap:s.len≤s.cap)
  (hK: ∀s' w',(∀y∈(c6 c).1.flatten,y<256)→Hp E w' (al 1 s' ((c6 c).1.flatten.map vB)::F)→K s' ((c6 c).1.length:Int) ((c6 c).2:Int) w'):Cl Tryz.prog [kS,kI,kI] bQ ⟨[.slice s.base s.len s.cap]⟩ w K:=by
 refine A0.ok _ _ _ ?_
 (try simp only [aB,av,aq,Nat.zero_add,Nat.add_zero,Nat.reduceAdd,Bool.not_true,Bool.not_false,aR,aS,Option.isNone])
 refine HM h hs hb (by rw [au];omega) hcap (fun t w hr h=> ?_) (fun e w hr h=> ?_) (fun n rest s4 w hr h=> ?_)
 ·rw [kn,hr] at hK
  (with_reducible repeat first|refine Nw.mk h fun b w h=> ?_|refine ao.mk h fun w h=> ?_|refine Ld.xb h rfl ?_|refine Ld.xt h rfl ?_|refine ad.xb (fun _ h=>h) rfl ?_|refine ad.xt (fun _ h=>h) rfl ?_|refine ⟨h.hb,?_⟩|refine ag.xw h rfl rfl fun w h=> ?_|(refine ag.xs h rfl rfl fun w h=> ?_;dsimp only [ah,ae] at h)|(refine St.xs h rfl rfl fun w h=> ?_;dsimp only [ah,ae] at h)|refine aa.yes ?_|refine aa.no ?_|refine ⟨by first|omega|decide,?_⟩)
  exact hK ⟨none,0,0⟩ w (by simp) ((h.tl:Hp E w F).bH 1)
 ·rw [kn,hr] at hK
  have he:=zw _ _ hr
  (with_reducible repeat first|refine Nw.mk h fun b w h=> ?_|refine ao.mk h fun w h=> ?_|refine Ld.xb h rfl ?_|refine Ld.xt h rfl ?_|refine ad.xb (fun _ h=>h) rfl ?_|refine ad.xt (fun _ h=>h) rfl ?_|refine ⟨h.hb,?_⟩|refine ag.xw h rfl rfl fun w h=> ?_|(refine ag.xs h rfl rfl fun w h=> ?_;dsimp only [ah,ae] at h)|(refine St.xs h rfl rfl fun w h=> ?_;dsimp only [ah,ae] at h)|refine aa.yes ?_|refine aa.no ?_|refine ⟨by first|omega|decide,?_⟩)
  exact hK ⟨none,0,0⟩ w (by simp) ((h.tl:Hp E w F).bH 1)
 ·rw [kn,hr] at hK
  dsimp only at hK
  have hn:=yi c ⟨0,0⟩ ⟨by decide,by simp,by decide⟩ hb hr
  obtain ⟨a,hsuf⟩:=jw c _ hr
  have hrb: ∀y∈rest,y<256:=fun y hy=>hb y (by rw [hsuf];exact List.mem_append.2 (.inr hy))
  have hrl:rest.length≤c.length:=by rw [hsuf,List.length_append];omega
  refine Nw.mk h fun b7 w h=> ?_
  (with_reducible repeat first|refine Nw.mk h fun b w h=> ?_|refine ao.mk h fun w h=> ?_|refine Ld.xb h rfl ?_|refine Ld.xt h rfl ?_|refine ad.xb (fun _ h=>h) rfl ?_|refine ad.xt (fun _ h=>h) rfl ?_|refine ⟨h.hb,?_⟩|refine ag.xw h rfl rfl fun w h=> ?_|(refine ag.xs h rfl rfl fun w h=> ?_;dsimp only [ah,ae] at h)|(refine St.xs h rfl rfl fun w h=> ?_;dsimp only [ah,ae] at h)|refine aa.yes ?_|refine aa.no ?_|refine ⟨by first|omega|decide,?_⟩)
  obtain ⟨R,hR⟩: ∃R,R=gG n rest []:=⟨_,rfl⟩
  rw [←hR] at hK
  refine ⟨fun x k left w=> ∃(acc:List (List Nat)) (r:List Nat),k=(acc.length:Int)∧(∀y∈r,y<256)∧acc.length+r.length≤c.length∧(∀z∈acc,z.length≤65536∧∀y∈z,y<256)∧R=gG n r acc∧
   Hp E w (al 1 x (acc.flatten.map vB)::al 1 left (r.map vB)::aj b7 (.cells ⟨[.int .i64 (n:Int)]⟩ 117 (0,0))::F),fun _ _ left _=>left.len,⟨[],rest,rfl,hrb,by simpa using hrl,by simp,hR,(h.p1.bH 1)⟩,?_⟩
  rintro x k left w ⟨acc,r,rfl,hrb,hlen,hacc,hRr,h⟩
  have hfl: ∀l:List (List Nat),(∀z∈l,z.length≤65536)→l.flatten.length≤65536*l.length:=fun l=>by
   induction l with
   |nil=>intro _;simp
   |cons z l ih=>
    intro hz
    have h1:=hz z List.mem_cons_self
    have h2:=ih fun y hy=>hz y (List.mem_cons_of_mem _ hy)
    rw [List.flatten_cons,List.length_append,List.length_cons];omega
  have hfa:=hfl acc fun z hz=>(hacc z hz).1
  have hfb: ∀y∈acc.flatten,y<256:=fun y hy=>by
   obtain ⟨z,hz,hy⟩:=List.mem_flatten.1 hy
   exact (hacc z hz).2 y hy
  have hlc:=(h.at 1).ed
  have hll:=(h.at 1).aH
  have hlx:=h.aH
  rw [List.length_map,Nat.mul_one] at hll hlx
  rw [mP] at hRr
  refine Ld.xb (b:=b7) (x:=(n:Int)) h rfl ?_
  have hTl: ∀{G:List HP},ab (al 1 x (acc.flatten.map vB)::al 1 left (r.map vB)::G) (aC 1 left (r.map vB)):=ab.cons ab.own
  refine xU h (by omega) (by omega) hTl hrb (by rw [au];omega) hlc (fun t w hq h=> ?_) (fun w hq h=> ?_) (fun M P u r2 s5 w hq h=> ?_) (fun u r2 s5 w hq h=> ?_)
  ·rw [hq] at hRr
   dsimp only at hRr
   (with_reducible repeat first|refine Nw.mk h fun b w h=> ?_|refine ao.mk h fun w h=> ?_|refine Ld.xb h rfl ?_|refine Ld.xt h rfl ?_|refine ad.xb (fun _ h=>h) rfl ?_|refine ad.xt (fun _ h=>h) rfl ?_|refine ⟨h.hb,?_⟩|refine ag.xw h rfl rfl fun w h=> ?_|(refine ag.xs h rfl rfl fun w h=> ?_;dsimp only [ah,ae] at h)|(refine St.xs h rfl rfl fun w h=> ?_;dsimp only [ah,ae] at h)|refine aa.yes ?_|refine aa.no ?_|refine ⟨by first|omega|decide,?_⟩)
   rw [hRr] at hK
   exact hK x w hfb (((h.no 0).no 1).no 1)
  ·rw [hq] at hRr
   dsimp only at hRr
   (with_reducible repeat first|refine Nw.mk h fun b w h=> ?_|refine ao.mk h fun w h=> ?_|refine Ld.xb h rfl ?_|refine Ld.xt h rfl ?_|refine ad.xb (fun _ h=>h) rfl ?_|refine ad.xt (fun _ h=>h) rfl ?_|refine ⟨h.hb,?_⟩|refine ag.xw h rfl rfl fun w h=> ?_|(refine ag.xs h rfl rfl fun w h=> ?_;dsimp only [ah,ae] at h)|(refine St.xs h rfl rfl fun w h=> ?_;dsimp only [ah,ae] at h)|refine aa.yes ?_|refine aa.no ?_|refine ⟨by first|omega|decide,?_⟩)
   rw [hRr] at hK
   exact hK x w hfb (((h.no 0).no 1).no 1)
  ·rw [hq] at hRr
   dsimp only at hRr
   (with_reducible repeat first|refine Nw.mk h fun b w h=> ?_|refine ao.mk h fun w h=> ?_|refine Ld.xb h rfl ?_|refine Ld.xt h rfl ?_|refine ad.xb (fun _ h=>h) rfl ?_|refine ad.xt (fun _ h=>h) rfl ?_|refine ⟨h.hb,?_⟩|refine ag.xw h rfl rfl fun w h=> ?_|(refine ag.xs h rfl rfl fun w h=> ?_;dsimp only [ah,ae] at h)|(refine St.xs h rfl rfl fun w h=> ?_;dsimp only [ah,ae] at h)|refine aa.yes ?_|refine aa.no ?_|refine ⟨by first|omega|decide,?_⟩)
   refine Gh h (ab.at 3 ab.own) hrb (by omega) hlc (fun hno=>absurd ⟨by omega,by omega⟩ hno) (fun _ _ e w hu he h=> ?_) (fun _ _ xt r3 s26 s27 w hu hxb hr3b hxl h=> ?_)
   ·rw [Int.toNat_natCast] at hu
    rw [hu] at hRr
    dsimp only at hRr
    rw [hRr] at hK
    exact aa.nt (by omega) (hK x w hfb ((((h.no 0).no 0).no 1).no 1))
   ·rw [Int.toNat_natCast] at hu
    have hless:=nK hu
    rw [hu] at hRr
    dsimp only at hRr
    have l1:=h.aH
    have l2:=(h.at 1).aH
    rw [List.length_map,Nat.mul_one] at l1 l2
    refine aa.nf rfl ?_
    refine aM (s:=x) (n:=s26.len) jV (by decide) (.inl ⟨5,by kernel_rfl⟩) (h.at 4) (.inl ⟨s26.base,s26.len,s26.cap,rfl,rfl,h.an ab.own⟩) (by rw [List.length_map,l1,Nat.mul_one]) cu (by omega) (by omega) fun s30 w h _=> ?_
    rw [af (by omega)]
    refine ⟨⟨acc++ [xt],r3,by simp,hr3b,by rw [List.length_append,List.length_singleton];omega,?_,hRr,?_⟩,by first|omega|(dsimp only;omega)⟩
    ·intro z hz
     rcases List.mem_append.1 hz with hz|hz
     ·exact hacc z hz
     ·rw [List.mem_singleton] at hz;rw [hz];exact ⟨hxl,hxb⟩
    ·rw [←List.map_append,show acc.flatten++xt=(acc++ [xt]).flatten by simp] at h
     exact ((h.no 1).no 2|>.no 2).no 2
  ·rw [hq] at hRr
   dsimp only at hRr
   (with_reducible repeat first|refine Nw.mk h fun b w h=> ?_|refine ao.mk h fun w h=> ?_|refine Ld.xb h rfl ?_|refine Ld.xt h rfl ?_|refine ad.xb (fun _ h=>h) rfl ?_|refine ad.xt (fun _ h=>h) rfl ?_|refine ⟨h.hb,?_⟩|refine ag.xw h rfl rfl fun w h=> ?_|(refine ag.xs h rfl rfl fun w h=> ?_;dsimp only [ah,ae] at h)|(refine St.xs h rfl rfl fun w h=> ?_;dsimp only [ah,ae] at h)|refine aa.yes ?_|refine aa.no ?_|refine ⟨by first|omega|decide,?_⟩)
   have l2:=(h.at 1).aH
   rw [List.length_map,Nat.mul_one] at l2
   have h:=h.drew (n:=w.drawn+1)
   refine ⟨bV b _ _ _,h.hb,?_⟩
   refine ad.xb (x:=(u:Int)) (fun _ h=>h) rfl (Nw.mk h fun b43 w h=>⟨h.hb,?_⟩)
   refine xe (s:=⟨some ⟨b43,0,none⟩,1,1⟩) (cs:= [x]) (bs:= [acc.flatten]) h (ab.aA rfl rfl) rfl (by rw [au];simp) (fun i hi=> ?_) (fun z hz y hy=> ?_) (fun z hz=> ?_) fun w h=>⟨h.hb,?_⟩
   ·match i,hi with
    |0,_=>exact ab.at 3 ab.own
   ·rw [List.mem_singleton] at hz
    rw [hz] at hy
    exact hfb y hy
   ·rw [List.mem_singleton] at hz
    rw [hz,au];omega
   rw [show [acc.flatten].flatten=acc.flatten by simp]
   have h:=((((h.no 0).no 0).no 0).no 1).no 1
   by_cases hc:u=fX acc.flatten
   ·rw [if_neg (fun hh=>hh hc)] at hRr
    refine aa.nf (by omega) ?_
    by_cases hr2:r2= []
    ·rw [if_neg (fun hh=>hh hr2)] at hRr
     rw [hRr] at hK
     refine aa.df ?_ (hK x w hfb h)
     rw [hr2] at l2;simp at l2;omega
    ·rw [if_pos hr2] at hRr
     rw [hRr] at hK
     have:0<r2.length:=List.length_pos_iff.2 hr2
     exact aa.dt (by omega) (hK x w hfb h)
   ·rw [if_pos hc] at hRr
    rw [hRr] at hK
    exact aa.nt (by omega) (hK x w hfb h)
theorem zP {s s2:Sl} {c x:List Nat} {K:Bool→World→Prop} (h:Hp E w F) (hs:ab F (aC 1 s (c.map vB))) (hb: ∀y∈c,y<256) (hbig:c.length≤10000000) (hcap:s.len≤s.cap) (hs2:ab F (aC 1 s2 (x.map vB))) (hx: ∀y∈x,y<256)
  (hK: ∀w',Hp E w' F→K (decide ((c6 c).2=0∧x=(c6 c).1.flatten)) w'):Cl Tryz.prog [kB] gD ⟨[.slice s.base s.len s.cap,.slice s2.base s2.len s2.cap]⟩ w K:=by
 refine yF.ok _ _ _ _ ?_
 refine jc h hs hb hbig hcap fun s4 w hfb h=> ?_
 by_cases he:(c6 c).2=0
 ·refine aa.et (by omega) ?_
  refine DM (h.an hs2.cons) (h.an ab.own) hx hfb ?_
  have e:(x==(c6 c).1.flatten)=decide ((c6 c).2=0∧x=(c6 c).1.flatten):=by
   rw [Bool.eq_iff_iff,beq_iff_eq,decide_eq_true_iff]
   exact ⟨fun h=>⟨he,h⟩,fun h=>h.2⟩
  rw [e]
  exact hK w h.drop
 ·refine aa.ef (by omega) ?_
  have:=hK w h.drop
  rw [decide_eq_false (fun hh=>he hh.1)] at this
  exact this
end
end Go.Proofs.YtcdpblipagajiaaGreat
set_option maxRecDepth 20000
namespace Go.Bw
open Go Go.Vc Go.Rk
end Go.Bw
namespace Go.Proofs.YtcdpblipagajiaaGreat
open Go Go.Vc
section
variable {w:World}
set_option maxRecDepth 200000 in
theorem oQ {s:Sl} {b:List Nat} {K:ByteArray→World→Prop} (hs:aC 1 s (b.map vB) w) (hK:K (strOf b) w):az Tryz.prog (convert 22 9 (.slice s.base s.len s.cap)) dy w K:=
 qq (s:=s) (b:=b) (e:=5) (by kernel_rfl) (by kernel_rfl) (by kernel_rfl) hs hK
end
end Go.Proofs.YtcdpblipagajiaaGreat
set_option maxRecDepth 20000
namespace Go.Proofs.YtcdpblipagajiaaGreat
open Go Go.Vc
section
variable {E w:World} {F:List HP} {K:Sl→World→Prop} {s s2:Sl} {b x:Nat} {t:TypeId}
abbrev OB (s:Sl) (xs:List Nat):HP:=al 1 s (xs.map vB)
abbrev KG (b x:Nat) (t:TypeId):HP:=aj b (.cells ⟨[.int .u8 (x:Int)]⟩ t (0,0))
theorem OB.len {xs:List Nat} (h:Hp E w (OB s xs::F)):xs.length=s.len:=by have:=h.aH;simpa using this
theorem KQ: ∀y∈ [vB x],ax y=true:=by intro y hy;rw [List.mem_singleton] at hy;rw [hy];rfl
theorem yo {xs:List Nat} (h:aC 1 s (xs.map vB) w):xs.length=s.len:=by have:=h.1;simpa using this
theorem J9 {xs:List Nat} (h:Hp E w (KG b x t::OB s xs::F)) (hl:xs.length≤10000000000) (hK: ∀s' w',Hp E w' (OB s' (xs++ [x])::F)→K s' w'):
  az Tryz.prog (Builtin.append_ #[22,22] 22 ⟨[.slice s.base s.len s.cap,.slice (some ⟨b,0,none⟩) 1 1]⟩) kS w K:=by
 have hol:=OB.len (h.at 1)
 refine aM (ys:= [vB x]) (n:=1) jV (by decide) (.inl ⟨5,by kernel_rfl⟩) (h.at 1) (.inl ⟨some ⟨b,0,none⟩,1,1,rfl,rfl,h.an (ab.aA rfl rfl)⟩) rfl KQ (by omega) (by omega) fun s' w' h _=>hK s' w' ?_
 unfold OB
 rw [List.map_append]
 exact h.fq
theorem Ji {xs ys:List Nat} (h:Hp E w (OB s xs::F)) (h2:ab F (aC 1 s2 (ys.map vB))) (hl:xs.length≤1000000000000) (hl2:ys.length≤1000000000000) (hK: ∀s' w',Hp E w' (OB s' (xs++ys)::F)→K s' w'):
  az Tryz.prog (Builtin.append_ #[22,22] 22 ⟨[.slice s.base s.len s.cap,.slice s2.base s2.len s2.cap]⟩) kS w K:=by
 have hol:=OB.len h
 have hol2:=yo (h.drop.an h2)
 refine aM (ys:=ys.map vB) (n:=s2.len) jV (by decide) (.inl ⟨5,by kernel_rfl⟩) h (.inl ⟨s2.base,s2.len,s2.cap,rfl,rfl,h.drop.an h2⟩) (by simp [hol2]) cu (by omega) (by omega) fun s' w' h _=>hK s' w' ?_
 unfold OB
 rw [List.map_append]
 exact h
end
end Go.Proofs.YtcdpblipagajiaaGreat
namespace Go.Proofs.YtcdpblipagajiaaGreat
open Go Go.Vc
set_option maxRecDepth 100000
theorem Ci.ok (a:Sl) (R:Sl→World→Prop) w (h:
 dr (⟨none,0,0⟩:Sl) 0 w fun b c (d:Sl) (e:Int) f=>
 aa (decide (e<(a.len:Int)))
 (ar a e 1 fun g=>
 Ld kS g f fun (h:Sl)=>
 az Pg (Builtin.append_ #[22,22] 22 ⟨[(ak d),(ak h)]⟩) kS f fun (j:Sl) i=>
 b j (i64 (e+1)) i∧c j (i64 (e+1)) i<c d e f)
 (R d f)):Cl Pg [kS] dG ⟨[(ak a)]⟩ w R:=co Tryz.f35 [(7,[(3,kS),(4,kI)])] h
end Go.Proofs.YtcdpblipagajiaaGreat
namespace Go.Proofs.YtcdpblipagajiaaGreat
open Go Go.Vc Go.Bits
section
variable {E w:World} {F:List HP}
set_option maxRecDepth 20000
theorem I3 {K:Sl→World→Prop} {s:Sl} {cs:List Sl} {bs:List (List Nat)} (h:Hp E w F)
  (hs:ab F (aC 1 s (cs.map fun x=> .slice x.base x.len x.cap))) (hl:cs.length=bs.length) (hcl:cs.length≤bR) (hc: ∀i (h:i<cs.length),ab F (aC 1 cs[i] ((bs.getD i []).map vB)))
  (hbig:bs.flatten.length≤bR)
  (hK: ∀s' w',Hp E w' (al 1 s' (bs.flatten.map vB)::F)→K s' w'):Cl Tryz.prog [kS] dG ⟨[.slice s.base s.len s.cap]⟩ w K:=by
 refine Ci.ok _ _ _ ?_
 have hlen:s.len=cs.length:=by have:=(h.an hs).1;simpa using this.symm
 refine ⟨fun o i w'=> ∃k:Nat,i=(k:Int)∧k≤cs.length∧Hp E w' (al 1 o ((bs.take k).flatten.map vB)::F),fun _ i _=>cs.length - i.toNat,⟨0,rfl,by omega,by simpa using h.bH 1⟩,?_⟩
 rintro o i w' ⟨k,rfl,hk,hh⟩
 refine aa.mk (fun hlt=> ?_) (fun hge=> ?_)
 ·have hlt:k<cs.length:=by have:=of_decide_eq_true hlt;omega
  refine ar.rd (hh.drop.an hs) (by omega) (by omega) fun q hi hq=> ?_
  have hq':w'.cell? q=some (Sc.sl.enc cs[k]):=by simpa using hq
  refine Ld.sc _ hq' ?_
  have hsrc:=hh.drop.an (hc k hlt)
  have hlen2:=hsrc.1
  simp only [List.length_map,Nat.mul_one] at hlen2
  have hfl:(bs.take (k+1)).flatten=(bs.take k).flatten++bs.getD k []:=by
   rw [List.take_add_one,List.flatten_append]
   congr 1
   have:k<bs.length:=by omega
   simp [this]
  have hle:(bs.take (k+1)).flatten.length≤bs.flatten.length:=by
   have:=congrArg (fun l=>(List.flatten l).length) (List.take_append_drop (k+1) bs)
   simp only [List.flatten_append,List.length_append] at this
   omega
  rw [hfl,List.length_append] at hle
  have ho:=hh.aH
  simp only [List.length_map,Nat.mul_one] at ho
  rw [au] at hbig hcl
  refine aM (bJ.of (by kernel_rfl) (by kernel_rfl):bJ Tryz.prog 22 5 1 1) (by decide) (.inl ⟨5,by kernel_rfl⟩) hh (.inl ⟨_,_,_,rfl,rfl,hsrc⟩) (by simpa using hlen2) cu (by omega) (by omega) fun s2 w2 h2' hs2=> ?_
  rw [af (by omega)]
  exact ⟨⟨k+1,rfl,by omega,by rw [hfl,List.map_append];exact h2'⟩,by dsimp only;omega⟩
 ·have hge:k=cs.length:=by have:=of_decide_eq_false hge;omega
  subst hge
  refine hK _ _ ?_
  rwa [hl,List.take_length] at hh
end
end Go.Proofs.YtcdpblipagajiaaGreat
namespace Go.Proofs.YtcdpblipagajiaaGreat
open Go Go.Vc
set_option maxRecDepth 100000
theorem Ah.ok (a:Sl) (R:Bool→World→Prop) w (h:
 dr 0 0 w fun b c (d:Int) (e:Int) f=>
 aa (decide (e<(a.len:Int)))
 (aa (decide (e≤20))
 (aa (decide (d≤150))
 (ar a e 1 fun g=>
 Ld kS g f fun (h:Sl)=>
 b (i64 (d+(if (200:Int)<(h.len:Int) then (200:Int) else (h.len:Int)))) (i64 (e+1)) f∧c (i64 (d+(if (200:Int)<(h.len:Int) then (200:Int) else (h.len:Int)))) (i64 (e+1)) f<c d e f)
 (aa (decide ((a.len:Int)>20))
 (R true f)
 (R (decide (d>150)) f)))
 (aa (decide ((a.len:Int)>20))
 (R true f)
 (R (decide (d>150)) f)))
 (aa (decide ((a.len:Int)>20))
 (R true f)
 (R (decide (d>150)) f))):Cl Pg [kB] lg ⟨[(ak a)]⟩ w R:=co Tryz.f33 [(7,[(3,kI),(4,kI)])] h
theorem CV.ok (a:Int) (b:Sl) (R:Sl→World→Prop) w (h:
 dr (⟨none,0,0⟩:Sl) 0 w fun c d (e:Sl) (f:Int) g=>
 aa (decide (f<(b.len:Int)))
 (dr e 0 g fun h i (j:Sl) (k:Int) l=>
 ar b f 1 fun m=>
 Ld kS m l fun (n:Sl)=>
 aa (decide (k<(n.len:Int)))
 (dX l fun o p=>
 ar b f 1 fun q=>
 ad kS q o fun (r:Sl)=>
 ar b f 1 fun s=>
 ad kS s o fun (t:Sl)=>
 bj r k (if (t.len:Int)<(i64 (k+a)) then (t.len:Int) else (i64 (k+a))) (r).cap 1 fun u=>
 Nw 22 ⟨[(ak u)]⟩ p fun x v=>
 o v∧
 az Pg (Builtin.append_ #[51,51] 51 ⟨[(ak j),(ak (⟨some ⟨x,0,none⟩,1,1⟩:Sl))]⟩) kS v fun (z:Sl) y=>
 o y∧
 h z (i64 (k+a)) y∧i z (i64 (k+a)) y<i j k l)
 (c j (i64 (f+1)) l∧d j (i64 (f+1)) l<d e f g))
 (R e g)):Cl Pg [kS] mb ⟨[(ni a),(ak b)]⟩ w R:=co Tryz.f40 [(7,[(5,kS),(6,kI)]),(14,[(5,kS),(7,kI)])] h
end Go.Proofs.YtcdpblipagajiaaGreat
namespace Go.Vc
open Go
theorem bj.G2 {w:World} {s:Sl} {xs:List Value} {lo hi mx:Int} {K:Sl→Prop} (hs:aC 1 s xs w) (h0:0≤lo) (h1:lo≤hi) (h2:hi≤(s.len:Int)) (h3:hi≤mx) (h4:mx≤(s.cap:Int))
  (h: ∀s':Sl,(∀w',aC 1 s xs w'→aC 1 s' ((xs.drop lo.toNat).take (hi.toNat - lo.toNat)) w')→s'.len=hi.toNat - lo.toNat→s'.len≤s'.cap→K s'):bj s lo hi mx 1 K:=by
 obtain ⟨a,b,c,d,e⟩:=bj.rd (K:=fun s'=>s'.len≤s'.cap→K s') hs h0 h1 h2 h3 h4 fun s' a b c=>h s' a b c
 exact ⟨a,b,c,d,e (by simp only;omega)⟩
end Go.Vc
namespace Go.Stm
theorem xY: ∀l:List (List Nat),(∀x∈l,0<x.length)→l.length≤l.flatten.length
 | [],_=>by simp
 |x::l,h=>by
  have h1:=h x List.mem_cons_self
  have h2:=xY l fun y hy=>h y (List.mem_cons_of_mem _ hy)
  rw [List.length_cons,List.flatten_cons,List.length_append];omega
theorem yz {n:Nat} (hn:0<n) (l:List (List Nat)):(aW n l).length≤l.flatten.length:=by
 have:=xY (aW n l) fun x hx=>(xn hn x hx).1
 rwa [np hn] at this
theorem ns (n:Nat) (x:List Nat) (l:List (List Nat)):aW n (x::l)=kY n x++aW n l:=by unfold aW;rw [List.flatMap_cons]
def nk (l:List (List Nat)):Nat:=(l.map fun b=>min b.length 200).sum
theorem Fv (l:List (List Nat)) (b:List Nat):nk (l++ [b])=nk l+min b.length 200:=by unfold nk;simp
theorem yn: ∀l:List (List Nat),nk l≤150→l.flatten.length≤150∧l.flatten.length=nk l
 | [],_=>by simp [nk]
 |x::l,h=>by
  have e:nk (x::l)=min x.length 200+nk l:=by unfold nk;simp
  rw [e] at h
  have ih:=yn l (by omega)
  rw [e,List.flatten_cons,List.length_append];omega
end Go.Stm
namespace Go.Proofs.YtcdpblipagajiaaGreat
open Go Go.Vc Go.Stm
section
variable {E w:World} {F:List HP}
set_option maxRecDepth 20000
theorem Ix:bJ Tryz.prog 51 22 1 24:=bJ.of (by kernel_rfl) (by kernel_rfl)
theorem B5 {s:Sl} {ps:List (Sl×List Nat)} {K:Bool→World→Prop} (hs:cq s ps w) (hK: ∀b:Bool,(b=false→ps.length≤20∧(ps.map Prod.snd).flatten.length≤150)→K b w):
  Cl Tryz.prog [kB] lg ⟨[.slice s.base s.len s.cap]⟩ w K:=by
 refine Ah.ok _ _ _ ?_
 have hlen:ps.length=s.len:=by have:=hs.tab.1;simpa using this
 refine ⟨fun n i w'=>w'=w∧∃k:Nat,i=(k:Int)∧k≤ps.length∧k≤21∧n=((nk ((ps.take k).map Prod.snd):Nat):Int)∧nk ((ps.take k).map Prod.snd)≤350,fun _ i _=>ps.length - i.toNat,⟨rfl,0,rfl,by omega,by omega,rfl,by simp [nk]⟩,?_⟩
 rintro n i w' ⟨rfl,k,rfl,hk,hk21,rfl,hg⟩
 refine aa.dm (fun hlt=> ?_) (fun hge=> ?_)
 ·have hlt:k<ps.length:=by omega
  refine aa.dm (fun h20=> ?_) (fun h20=>aa.dt (by omega) (hK true (fun hh=>by cases hh)))
  refine aa.dm (fun h150=> ?_) (fun h150=> ?_)
  ·refine ar.rd hs.tab (by omega) (by omega) fun q _ hq=> ?_
   have hT:=(hs.each _ (List.getElem_mem hlt)).1
   rw [List.length_map,Nat.mul_one] at hT
   refine Ld.sc (s:= .sl) ps[k].1 (by rw [hq];simp [Sc.enc]) ?_
   have hst:nk ((ps.take (k+1)).map Prod.snd)=nk ((ps.take k).map Prod.snd)+min ps[k].2.length 200:=by
    rw [List.take_add_one,List.getElem?_eq_getElem hlt,List.map_append]
    exact Fv _ _
   have e:(if (200:Int)<(ps[k].1.len:Int) then (200:Int) else (ps[k].1.len:Int))=((min ps[k].2.length 200:Nat):Int):=by
    split<;>omega
   rw [e,af (by omega),af (by omega)]
   exact ⟨⟨rfl,k+1,rfl,by omega,by omega,by rw [hst];omega,by omega⟩,by first|omega|(dsimp only;omega)⟩
  ·refine aa.dm (fun _=>hK true (fun hh=>by cases hh)) (fun h2=> ?_)
   rw [decide_eq_true (by omega)]
   exact hK true (fun hh=>by cases hh)
 ·have hk2:k=ps.length:=by omega
  subst hk2
  rw [List.take_of_length_le (Nat.le_refl _)] at hg⊢
  refine aa.dm (fun _=>hK true (fun hh=>by cases hh)) (fun h2=>hK _ fun hh=> ?_)
  have:=of_decide_eq_false hh
  exact ⟨by omega,(yn _ (by omega)).1⟩
theorem GB {ps:List (Sl×List Nat)} (hc: ∀x∈ps,x.1.len≤x.1.cap) (h1:ps.length≤20) (h2:(ps.map Prod.snd).flatten.length≤150):kL ps where
 caps:=hc
 few:=by rw [au];omega
 small:=fun x hx=>by
  have:x.2.length≤(ps.map Prod.snd).flatten.length:=(List.sublist_flatten_of_mem (List.mem_map.2 ⟨x,hx,rfl⟩)).length_le
  rw [au];omega
theorem Ep {n:Nat} {s:Sl} {ps:List (Sl×List Nat)} {K:Sl→World→Prop} (h:Hp E w F) (hs:ab F (cq s ps)) (hp:kL ps) (hn:0<n) (hn2:n≤65536) (hsm:(ps.map Prod.snd).flatten.length≤100000)
  (hK: ∀(pcs:List (Sl×List Nat)) (s':Sl) (w':World),pcs.map Prod.snd=aW n (ps.map Prod.snd)→(∀x∈pcs,x.1.len≤x.1.cap)→(∀w,cq s ps w→∀x∈pcs,aC 1 x.1 (x.2.map vB) w)→Hp E w' (al 1 s' (pcs.map fun x=> .slice x.1.base x.1.len x.1.cap)::F)→K s' w'):
  Cl Tryz.prog [kS] mb ⟨[.int .i64 (n:Int),.slice s.base s.len s.cap]⟩ w K:=by
 refine CV.ok _ _ _ _ ?_
 have hlen:ps.length=s.len:=by have:=(h.an hs).tab.1;simpa using this
 have hfew:=hp.few
 rw [au] at hfew
 have hcl:=yz hn (ps.map Prod.snd)
 refine ⟨fun o i w=> ∃(k:Nat) (pcs:List (Sl×List Nat)),i=(k:Int)∧k≤ps.length∧pcs.map Prod.snd++aW n ((ps.drop k).map Prod.snd)=aW n (ps.map Prod.snd)∧(∀x∈pcs,x.1.len≤x.1.cap)∧(∀w,cq s ps w→∀x∈pcs,aC 1 x.1 (x.2.map vB) w)∧
  Hp E w (al 1 o (pcs.map fun x=> .slice x.1.base x.1.len x.1.cap)::F),fun _ i _=>ps.length - i.toNat,⟨0,[],rfl,by omega,rfl,by simp,by simp,h.bH 1⟩,?_⟩
 rintro o i w ⟨k,pcs,rfl,hk,hcut,hcap,hT,h⟩
 refine aa.dm (fun hlt=> ?_) (fun hge=> ?_)
 ·have hlt:k<ps.length:=by omega
  have hmem:ps[k]∈ps:=List.getElem_mem hlt
  have hc:=hp.caps _ hmem
  have hs1:=hp.small _ hmem
  rw [au] at hs1
  rw [List.drop_eq_getElem_cons hlt,List.map_cons,ns] at hcut
  have hl1:ps[k].2.length=ps[k].1.len:=yo ((h.an hs.cons).each _ hmem)
  refine ⟨fun o a w=> ∃(j:Nat) (pcs:List (Sl×List Nat)),a=(j:Int)∧j≤ps[k].2.length+65536∧pcs.map Prod.snd++(kY n (ps[k].2.drop j)++aW n ((ps.drop (k+1)).map Prod.snd))=aW n (ps.map Prod.snd)∧(∀x∈pcs,x.1.len≤x.1.cap)∧(∀w,cq s ps w→∀x∈pcs,aC 1 x.1 (x.2.map vB) w)∧
   Hp E w (al 1 o (pcs.map fun x=> .slice x.1.base x.1.len x.1.cap)::F),fun _ a _=>ps[k].1.len - a.toNat,⟨0,pcs,rfl,by omega,hcut,hcap,hT,h⟩,?_⟩
  rintro o a w ⟨j,pcs,rfl,hj,hcut,hcap,hT,h⟩
  have hPW: ∀{w:World} {A:HP},Hp E w (A::F)→cq s ps w:=fun h=>h.an hs.cons
  refine ar.rd (hPW h).tab (by omega) (by omega) fun q _ hq=> ?_
  refine Ld.sc (s:= .sl) ps[k].1 (by rw [hq];simp [Sc.enc]) ?_
  refine aa.dm (fun hlt2=> ?_) (fun hge2=> ?_)
  ·have hlt2:j<ps[k].2.length:=by omega
   have h:=h.drew (n:=w.drawn+1)
   refine ⟨cq s ps,hPW h,?_⟩
   refine ar.IB (sc:= .sl) (hPW h).tab (fun _ h=>h.tab) rfl (by simpa using hlt) ps[k].1 (by simp [Sc.enc,hlt]) ?_
   refine ar.IB (sc:= .sl) (hPW h).tab (fun _ h=>h.tab) rfl (by simpa using hlt) ps[k].1 (by simp [Sc.enc,hlt]) ?_
   rw [af (x:=(j:Int)+(n:Int)) (by omega)]
   have hhi:(if (ps[k].1.len:Int)<(j:Int)+(n:Int) then (ps[k].1.len:Int) else (j:Int)+(n:Int))=((min (j+n) ps[k].1.len:Nat):Int):=by split<;>omega
   rw [hhi]
   refine bj.G2 ((hPW h).each _ hmem) (by omega) (by omega) (by omega) (by omega) (by omega) fun s' hs' hl' hsc=> ?_
   simp only [Int.toNat_natCast] at hs' hl'
   have hne:ps[k].2.drop j≠ []:=fun e=>by have:=congrArg List.length e;rw [List.length_drop] at this;simp at this;omega
   rw [iM hne hn,List.drop_drop] at hcut
   have etk:(((ps[k].2.map vB).drop j).take (min (j+n) ps[k].1.len - j))=((ps[k].2.drop j).take n).map vB:=by
    rw [←List.map_drop,←List.map_take]
    congr 1
    rcases Nat.le_total (j+n) ps[k].1.len with h1|h1
    ·rw [Nat.min_eq_left h1,show j+n - j=n by omega]
    ·rw [Nat.min_eq_right h1,List.take_of_length_le (by rw [List.length_drop];omega),List.take_of_length_le (by rw [List.length_drop];omega)]
   rw [etk] at hs'
   have hpl:=h.aH
   rw [List.length_map,Nat.mul_one] at hpl
   have hpc:pcs.length≤100000:=by
    have:=congrArg List.length hcut
    rw [List.length_append,List.length_map] at this
    omega
   refine Nw.mk h fun b23 w h=>⟨h.an hs.cons.cons,?_⟩
   refine aM (ys:= [.slice s'.base s'.len s'.cap]) (n:=1) Ix (by decide) (.inl ⟨22,by kernel_rfl⟩) h.p1 (.inl ⟨some ⟨b23,0,none⟩,1,1,rfl,rfl,h.an (ab.aA rfl rfl)⟩) rfl (by
    intro z hz
    rw [List.mem_singleton] at hz
    rw [hz];rfl) (by omega) (by omega) fun s2 w h _=>⟨h.an hs.cons.cons,?_⟩
   refine ⟨⟨j+n,pcs++ [(s',(ps[k].2.drop j).take n)],by omega,by omega,?_,?_,?_,?_⟩,by first|omega|(dsimp only;omega)⟩
   ·rw [←hcut];simp
   ·intro x hx
    rcases List.mem_append.1 hx with hx|hx
    ·exact hcap x hx
    ·rw [List.mem_singleton] at hx;rw [hx];exact hsc
   ·intro w hw x hx
    rcases List.mem_append.1 hx with hx|hx
    ·exact hT w hw x hx
    ·rw [List.mem_singleton] at hx;rw [hx];exact hs' w (hw.each _ hmem)
   ·rw [List.map_append]
    exact h.p1.drop
  ·have e0:ps[k].2.drop j= []:=List.drop_of_length_le (by omega)
   rw [e0,iL,List.nil_append] at hcut
   rw [af (by omega)]
   exact ⟨⟨k+1,pcs,rfl,by omega,hcut,hcap,hT,h⟩,by first|omega|(dsimp only;omega)⟩
 ·have hk2:k=ps.length:=by omega
  subst hk2
  rw [List.drop_of_length_le (Nat.le_refl _),List.map_nil,show aW n []= [] from rfl,List.append_nil] at hcut
  exact hK pcs o w hcut hcap hT h
end
end Go.Proofs.YtcdpblipagajiaaGreat
namespace Go.Stm
open Go.Inc Go.Srt Go.Sym Go.Bits Go.Tab Go.Hd Go.Crc Go.Bw Go.aj Go.Proofs.YtcdpblipagajiaaGreat
theorem IN:eE cd 300 []= [87,80,1,130,44,0,0,0,0,0]:=by
 unfold eE blocks aW
 have h1:eB 300= [87,80,1,130,44]:=by decide+kernel
 have h2:iG (fX ([]:List (List Nat)).flatten)= [0,0,0,0,0]:=by decide+kernel
 rw [h1,h2];rfl
theorem IQ:c6 [87,80,1,130,44,0,0,0,0,0]=([],0):=by decide+kernel
theorem Jd:c6 [87,80,1,130,44,0,0,0,0]=([],50):=by decide+kernel
theorem Hq:c6 [87,80,1,130,44,0,0,0,0,0,7]=([],261):=by decide+kernel
theorem IA:c6 [87,80,1,130,44,0,0,0,0,1]=([],260):=by decide+kernel
theorem nX:aW 2 [[97,98,99],[],[100]]= [[97,98],[99],[100]]:=by
 rw [ns,ns,ns,iL,iM (by decide) (by decide),iM (by decide) (by decide),iM (x:= [100]) (by decide) (by decide)]
 simp [iL,aW]
theorem Ct:c6 (eE cd 2 [[97,98,99],[],[100]])=([[97,98],[99],[100]],0):=by
 have:=vN (n:=2) B7 (by decide) (by decide) (parts:= [[97,98,99],[],[100]]) (by decide) []
 rw [List.append_nil,nX] at this
 exact this
theorem Dk {n:Nat} {parts:List (List Nat)} (hn:0<n) (hb: ∀c∈parts.flatten,c<256): ∀y∈eE cd n parts,y<256:=by
 unfold eE
 intro y hy
 rcases List.mem_append.1 hy with hy|hy
 ·unfold eB at hy
  rcases List.mem_append.1 hy with hy|hy
  ·simp at hy;omega
  ·exact xx _ y hy
 ·rcases List.mem_append.1 hy with hy|hy
  ·obtain ⟨x,hx,hy⟩:=List.mem_flatMap.1 hy
   have:=fK hn hb x hx
   unfold jB iP iO at hy
   rcases List.mem_append.1 hy with hy|hy
   ·rcases List.mem_cons.1 hy with rfl|hy
    ·decide
    ·rcases List.mem_append.1 hy with hy|hy
     ·rcases List.mem_append.1 hy with hy|hy
      ·exact xx _ y hy
      ·exact xx _ y hy
     ·exact GY _ y hy
   ·exact DZ (qi _ _) _ y hy
  ·unfold iG at hy
   rcases List.mem_cons.1 hy with rfl|hy
   ·decide
   ·exact GY _ y hy
theorem B6 {n:Nat} {parts:List (List Nat)} (hn:0<n) (hn2:n≤65536) (hb: ∀c∈parts.flatten,c<256):(eE cd n parts).length≤200000*(aW n parts).length+20:=by
 unfold eE
 have h1:=ma (aW n parts) fun x hx=>⟨(fK hn hb x hx).1,Nat.le_trans (fK hn hb x hx).2.1 hn2,(fK hn hb x hx).2.2⟩
 have h2:=di (n:=n) hn2
 rw [List.length_append,List.length_append]
 unfold eB iG
 simp only [List.length_append,List.length_cons,List.length_nil,show (dP (fX parts.flatten)).length=4 from rfl]
 omega
end Go.Stm
namespace Go.Proofs.YtcdpblipagajiaaGreat
open Go Go.Vc Go.Srt Go.Inc Go.Sym Go.Tab Go.Hd Go.Bw Go.Bits Go.aj Go.Crc Go.Stm
section
variable {E w:World} {F:List HP}
set_option maxRecDepth 20000
theorem CR {b:Nat} {s:Sl} {xs:List Nat} {K:Sl→World→Prop} (h:Hp E w (aj b (.cells ⟨[]⟩ 5 (0,0))::F)) (hs:ab F (aC 1 s (xs.map vB))) (hl:xs.length≤1000000000000) (hK: ∀s' w',Hp E w' (OB s' xs::F)→K s' w'):
  az Tryz.prog (Builtin.append_ #[22,22] 22 ⟨[.slice (some ⟨b,0,none⟩) 0 0,.slice s.base s.len s.cap]⟩) kS w K:=by
 have h:=Hp.jG (n:=0) (sz:=1) h rfl
 have key:=fun (K':Sl→World→Prop)=>Ji (s:=⟨some ⟨b,0,none⟩,0,0⟩) (xs:= []) (ys:=xs) (K:=K') h hs (Nat.zero_le _) hl
 exact key _ fun s3 w h=>hK s3 w h
theorem Cx (x:List Nat):((strOf x).toList==(strOf x).toList)=true:=by simp
theorem I8:ab F (cq ⟨none,0,0⟩ []):=(ab.nil (sz:=1)).imp fun w h=>⟨h,fun x hx=>by cases hx⟩
theorem Ih:kL [] where
 caps:=fun x hx=>by cases hx
 few:=by rw [au];simp
 small:=fun x hx=>by cases hx
abbrev pL (b1 b2:Nat):List (Sl×List Nat):= [(⟨some ⟨b1,0,none⟩,3,3⟩,[97,98,99]),(⟨none,0,0⟩,[]),(⟨some ⟨b2,0,none⟩,1,1⟩,[100])]
theorem Je {b1 b2:Nat}:kL (pL b1 b2) where
 caps:=fun x hx=>by
  simp only [List.mem_cons,List.not_mem_nil,or_false] at hx
  rcases hx with rfl|rfl|rfl<;>exact Nat.le_refl _
 few:=by rw [au];simp
 small:=fun x hx=>by
  rw [au]
  simp only [List.mem_cons,List.not_mem_nil,or_false] at hx
  rcases hx with rfl|rfl|rfl<;>simp
theorem Jx {s:Sl} {b1 b2:Nat} (h0:ab F (aC 1 s ((pL b1 b2).map fun x=> .slice x.1.base x.1.len x.1.cap))) (h1:ab F (aC 1 ⟨some ⟨b1,0,none⟩,3,3⟩ (([97,98,99]:List Nat).map vB))) (h2:ab F (aC 1 ⟨some ⟨b2,0,none⟩,1,1⟩ (([100]:List Nat).map vB))):ab F (cq s (pL b1 b2)):=
 (h0.and (h1.and (h2.and ab.nil))).imp fun w h=>⟨h.1,fun x hx=>by
  simp only [List.mem_cons,List.not_mem_nil,or_false] at hx
  rcases hx with rfl|rfl|rfl
  ·exact h.2.1
  ·exact h.2.2.2
  ·exact h.2.2.1⟩
theorem ja {K:Bool→World→Prop} (h:Hp E w F) (hK: ∀w',Hp E w' F→K true w'):Cl Tryz.prog [kB] cb ⟨[]⟩ w K:=by
 refine Ax.ok _ _ ?_
 simp only [aB]
 have b10: ∀y∈([87,80,1,130,44,0,0,0,0,0]:List Nat),y<256:=by decide
 refine r8 (n:=300) (s:=⟨none,0,0⟩) (ps:= []) h (by decide) (by decide) I8 Ih (by simp) (by decide) fun s2 w h=> ?_
 rw [List.map_nil,IN] at h
 have l2:=OB.len h
 have c2:=h.ed
 simp only [List.length_cons,List.length_nil] at l2
 refine Df (s:=⟨none,0,0⟩) h fun w h=> ?_
 refine aa.f rfl (aa.f rfl (aa.f (by rw [bne_eq_false_iff_eq];omega) ?_))
 refine jc h ab.own b10 (by decide) c2 fun s13 w _ h=> ?_
 rw [IQ] at h⊢
 refine bj.G2 ((h.at 1).an ab.own) (by omega) (by omega) (by omega) (by omega) (by omega) fun s16 hs16 hl16 hc16=> ?_
 have hs16: ∀w,aC 1 s2 (([87,80,1,130,44,0,0,0,0,0]:List Nat).map vB) w→aC 1 s16 (([87,80,1,130,44,0,0,0,0]:List Nat).map vB) w:=fun w hw=>hs16 w hw
 refine jc h ((ab.at 1 ab.own).imp hs16) (by decide) (by decide) hc16 fun s18 w _ h=> ?_
 rw [Jd] at h⊢
 refine Nw.mk h fun b22 w h=>CR h (ab.at 2 ab.own) (by decide) fun s24 w h=> ?_
 refine Nw.mk h fun b26 w h=>J9 (x:=7) h (by decide) fun s28 w h=> ?_
 refine jc (c:= [87,80,1,130,44,0,0,0,0,0,7]) h ab.own (by decide) (by decide) h.ed fun s30 w _ h=> ?_
 rw [Hq] at h⊢
 refine Nw.mk h fun b34 w h=>CR h (ab.at 4 ab.own) (by decide) fun s36 w h=> ?_
 refine ar.IK (j:=9) (x:=1) h rfl (by decide) fun w h=> ?_
 have h:Hp E w (OB s36 [87,80,1,130,44,0,0,0,0,1]::_):=h
 refine jc (c:= [87,80,1,130,44,0,0,0,0,1]) h ab.own (by decide) (by decide) h.ed fun s40 w _ h=> ?_
 rw [IA] at h⊢
 refine Nw.mk h fun b44 w h=>gw h fun w h=>Nw.mk h fun b48 w h=>gw h fun w h=>Nw.mk h fun b52 w h=> ?_
 have exb: ∀x∈pL b44 b48,∀y∈x.2,y<256:=fun x hx=>by
  simp only [List.mem_cons,List.not_mem_nil,or_false] at hx
  rcases hx with rfl|rfl|rfl<;>(dsimp only;decide)
 have exc:(aW 2 ((pL b44 b48).map Prod.snd)).length≤100000:=by rw [show (pL b44 b48).map Prod.snd= [[97,98,99],[],[100]] from rfl,nX];decide
 refine r8 (n:=2) (s:=⟨some ⟨b52,0,none⟩,3,3⟩) (ps:=pL b44 b48) h (by decide) (by decide) (Jx (ab.aA rfl rfl) (ab.at 2 (ab.aA rfl rfl)) (ab.at 1 (ab.aA rfl rfl))) Je exb exc fun s54 w h=> ?_
 rw [show (pL b44 b48).map Prod.snd= [[97,98,99],[],[100]] from rfl] at h
 have c54:=h.ed
 have l54:=OB.len h
 have hst:=B6 (n:=2) (parts:= [[97,98,99],[],[100]]) (by decide) (by decide) (by decide)
 rw [nX] at hst
 have hst:(eE cd 2 [[97,98,99],[],[100]]).length≤10000000:=Nat.le_trans hst (by decide)
 have hsb:=Dk (n:=2) (parts:= [[97,98,99],[],[100]]) (by decide) (by decide)
 refine jc h ab.own hsb hst c54 fun s57 w _ h=> ?_
 rw [Ct] at h⊢
 refine oQ (h.an (ab.at 11 ab.own)) (aa.t (by rw [show (ByteArray.mk #[87,80,1,130,44,0,0,0,0,0])=strOf [87,80,1,130,44,0,0,0,0,0] from rfl];exact Cx _) ?_)
 have l13:=OB.len (h.at 10)
 simp only [List.flatten_nil,List.length_nil] at l13
 refine aa.et (by omega) (aa.t rfl (aa.t rfl (aa.t rfl (aa.t rfl (aa.t rfl (aa.t rfl ?_))))))
 refine oQ (h.an ab.own) (aa.t (by rw [show (ByteArray.mk #[97,98,99,100])=strOf [97,98,99,100] from rfl];exact Cx _) (aa.t rfl (aa.t rfl ?_)))
 refine Nw.mk h fun b65 w h=>gw h fun w h=>zP (s2:=⟨some ⟨b65,0,none⟩,4,4⟩) (x:= [97,98,99,100]) h (ab.at 2 ab.own) hsb hst c54 (ab.aA rfl rfl) (by decide) fun w h=> ?_
 rw [Ct]
 refine aa.t (by decide) (Nw.mk h fun b71 w h=>gw h fun w h=>zP (s2:=⟨some ⟨b71,0,none⟩,3,3⟩) (x:= [97,98,99]) h (ab.at 3 ab.own) hsb hst c54 (ab.aA rfl rfl) (by decide) fun w h=> ?_)
 rw [Ct]
 refine aa.t (by decide) (Nw.mk h fun b77 w h=>gw h fun w h=>Nw.mk h fun b81 w h=>gw h fun w h=>Nw.mk h fun b85 w h=> ?_)
 have exc2:(aW 2 ((pL b77 b81).map Prod.snd)).length≤100000:=by rw [show (pL b77 b81).map Prod.snd= [[97,98,99],[],[100]] from rfl,nX];decide
 refine EI (n:=2) (s:=⟨some ⟨b85,0,none⟩,3,3⟩) (ps:=pL b77 b81) h (by decide) (by decide) (Jx (ab.aA rfl rfl) (ab.at 2 (ab.aA rfl rfl)) (ab.at 1 (ab.aA rfl rfl))) Je exc2 fun w h=> ?_
 rw [show (pL b77 b81).map Prod.snd= [[97,98,99],[],[100]] from rfl,nX]
 refine aa.t rfl (Nw.mk h fun b89 w h=>gw h fun w h=>Nw.mk h fun b93 w h=> ?_)
 exact Cs (s:=⟨some ⟨b93,0,none⟩,1,1⟩) h fun w h=>hK w h.tl
end
end Go.Proofs.YtcdpblipagajiaaGreat
namespace Go.Vc
theorem bq.KX {A:Type} {r:A→World→Prop} {k:(A→World→Prop)→Prop} (Q:A→World→Prop) (h1: ∀a w,Q a w→r a w) (h2: ∀r',(∀a w,Q a w→r' a w)→k r'):bq r k:=h2 r h1
end Go.Vc
namespace Go.Stm
open Go.Inc Go.Srt Go.Sym Go.Bits Go.Tab Go.Hd Go.Crc Go.Bw Go.aj Go.Proofs.YtcdpblipagajiaaGreat
theorem ES {x:List Nat} (h0:0<x.length) (hb: ∀y∈x,y<256) (hn:x.length≤65536):(iP (fV x) x).length≤1200+2*x.length:=by
 have hL:=lE h0 (by omega) hb
 have h1:=di (n:=x.length) (by omega)
 have hidx:=mO (t:=x.reverse) (by rw [List.length_reverse];exact h0)
 rw [List.length_reverse] at hidx
 have h2:=di (n:=bO x.reverse) (by omega)
 have h3:=jQ hL.len hL.ok
 have h4:=lY hL.v (ints (syms (aQ x.reverse)))
 rw [nC,ff] at h4
 have h5:=ml (aQ x.reverse)
 rw [cA,List.length_reverse] at h5
 unfold iP iO body
 rw [List.length_append,iT,List.length_append,List.length_cons,List.length_append,List.length_append,show (dP (fX x)).length=4 from rfl]
 omega
theorem qj: ∀(l:List (List Nat)),(∀x∈l,0<x.length∧x.length≤65536∧∀y∈x,y<256)→(blocks cd l).length≤1200*l.length+2*l.flatten.length
 | [],_=>by simp [blocks]
 |x::l,h=>by
  have h1:=h x List.mem_cons_self
  have h2:=ES h1.1 h1.2.2 h1.2.1
  have h3:=qj l fun y hy=>h y (List.mem_cons_of_mem _ hy)
  unfold blocks at h3⊢
  rw [List.flatMap_cons,List.length_append,List.length_cons,List.flatten_cons,List.length_append]
  unfold jB at h3⊢
  rw [nJ (by omega)]
  omega
theorem Cy {n:Nat} {parts:List (List Nat)} (hn:0<n) (hn2:n≤65536) (hb: ∀c∈parts.flatten,c<256):(eE cd n parts).length≤1200*(aW n parts).length+2*parts.flatten.length+20:=by
 unfold eE
 have h1:=qj (aW n parts) fun x hx=>⟨(fK hn hb x hx).1,Nat.le_trans (fK hn hb x hx).2.1 hn2,(fK hn hb x hx).2.2⟩
 rw [np hn] at h1
 have h2:=di (n:=n) hn2
 rw [List.length_append,List.length_append]
 unfold eB iG
 simp only [List.length_append,List.length_cons,List.length_nil,show (dP (fX parts.flatten)).length=4 from rfl]
 omega
theorem D0 (l:List (List Nat)) (k:Nat):(l.take k).flatten.length≤l.flatten.length:=by
 have:=congrArg (fun l=>(List.flatten l).length) (List.take_append_drop k l)
 simp only [List.flatten_append,List.length_append] at this
 omega
end Go.Stm
namespace Go.Proofs.YtcdpblipagajiaaGreat
open Go Go.Vc Go.Srt Go.Inc Go.Sym Go.Tab Go.Hd Go.Bw Go.Bits Go.aj Go.Crc Go.Stm
section
variable {E w:World} {F:List HP}
set_option maxRecDepth 20000
theorem BE {s:Sl} {ps:List (Sl×List Nat)} {K:Sl→World→Prop} (h:Hp E w F) (hs:ab F (cq s ps)) (hfew:ps.length≤bR) (hbig:(ps.map Prod.snd).flatten.length≤bR) (hK: ∀s' w',Hp E w' (OB s' (ps.map Prod.snd).flatten::F)→K s' w'):
  Cl Tryz.prog [kS] dG ⟨[.slice s.base s.len s.cap]⟩ w K:=by
 refine I3 (cs:=ps.map Prod.fst) (bs:=ps.map Prod.snd) h (hs.imp fun w h=> ?_) (by simp) (by simpa using hfew) (fun i hi=>hs.imp fun w h=> ?_) hbig hK
 ·rw [List.map_map];exact h.tab
 ·have hi2:i<ps.length:=by simpa using hi
  have:=h.each ps[i] (List.getElem_mem hi2)
  have e:(ps.map Prod.snd).getD i []=ps[i].2:=by rw [List.getD_eq_getElem?_getD,List.getElem?_map,List.getElem?_eq_getElem hi2];rfl
  rw [e,List.getElem_map]
  exact this
theorem JH {ps:List (Sl×List Nat)} (hb: ∀x∈ps,∀y∈x.2,y<256): ∀c∈(ps.map Prod.snd).flatten,c<256:=fun c hc=>by
 obtain ⟨l,hl,hc⟩:=List.mem_flatten.1 hc
 obtain ⟨x,hx,rfl⟩:=List.mem_map.1 hl
 exact hb x hx c hc
end
end Go.Proofs.YtcdpblipagajiaaGreat
namespace Go.Proofs.YtcdpblipagajiaaGreat
open Go Go.Vc Go.Srt Go.Inc Go.Sym Go.Tab Go.Hd Go.Bw Go.Bits Go.aj Go.Crc Go.Stm
section
variable {E w:World} {F:List HP}
set_option maxRecDepth 20000
theorem wA {n many:Int} {ps:List (Sl×List Nat)} {o:List Nat} {s so:Sl} {K:Bool→World→Prop} (h:Hp E w F) (hs:ab F (cq s ps)) (hcaps: ∀x∈ps,x.1.len≤x.1.cap) (hb: ∀x∈ps,∀y∈x.2,y<256) (hso:ab F (aC 1 so (o.map vB))) (ho: ∀y∈o,y<256) (hK: ∀w',Hp E w' F→K true w'):
  Cl Tryz.prog [kB] gY ⟨[.int .i64 n,.slice s.base s.len s.cap,.int .i64 many,.slice so.base so.len so.cap]⟩ w K:=by
 refine ua.ok _ _ _ _ _ _ ?_
 rw [aB];dsimp only
 rw [aB];dsimp only
 have hol:=yo (h.an hso)
 refine B5 (h.an hs) fun g hg=> ?_
 cases g with
 |true=>exact aa.t rfl (aa.t rfl (ja h hK))
 |false=>
  obtain ⟨h20,h150⟩:=hg rfl
  have hp:=GB hcaps h20 h150
  refine aa.f rfl (aa.dm (fun _=>aa.t rfl (ja h hK)) (fun g1=>aa.dm (fun _=>aa.t rfl (ja h hK)) (fun g2=>aa.em (fun _=>aa.t rfl (ja h hK)) (fun g3=>aa.dm (fun _=>ja h hK) (fun g4=> ?_)))))
  obtain ⟨N,rfl⟩: ∃N:Nat,n=(N:Int):=⟨n.toNat,by omega⟩
  have hN:1≤N:=by omega
  have hN2:N≤65536:=by omega
  have hbf:=JH hb
  have hfew:=hp.few
  have hcf:=yz hN (ps.map Prod.snd)
  have hcl:(aW N (ps.map Prod.snd)).length≤100000:=by omega
  have hTb: ∀y∈(ps.map Prod.snd).flatten,y<256:=hbf
  have hstb:=Dk hN hbf
  have hst:=Cy hN hN2 hbf
  have hst:(eE cd N (ps.map Prod.snd)).length≤1000000:=by omega
  have ho0:o≠ []:=fun e=>by rw [e] at hol;simp at hol;omega
  have hrd:c6 (eE cd N (ps.map Prod.snd)++o)=(aW N (ps.map Prod.snd),261):=by
   have:=vN B7 hN hN2 hbf o
   rwa [if_pos ho0] at this
  have hcut:=fun k hk=>FH (n:=N) B7 hN hN2 hbf (k:=k) hk
  obtain ⟨C,hC⟩: ∃C,C=eE cd N (ps.map Prod.snd):=⟨_,rfl⟩
  rw [←hC] at hstb hst hrd hcut
  obtain ⟨cs,hcs⟩: ∃cs,cs=aW N (ps.map Prod.snd):=⟨_,rfl⟩
  have hfl:cs.flatten=(ps.map Prod.snd).flatten:=by rw [hcs,np hN]
  obtain ⟨T,hT⟩: ∃T,T=(ps.map Prod.snd).flatten:=⟨_,rfl⟩
  rw [←hT] at hfl
  rw [←hcs] at hrd hcut hcl hcf
  refine BE h hs hfew (by rw [au];omega) fun s15 w h=> ?_
  rw [←hT] at h
  refine r8 h hN hN2 hs.cons hp hb (by rw [←hcs];exact hcl) fun s17 w h=> ?_
  have h:Hp E w (OB s17 (eE cd N (ps.map Prod.snd))::OB s15 T::F):=h
  rw [←hC] at h
  have c17:=h.ed
  have l17:=OB.len h
  have hC0:0<C.length:=by rw [hC];unfold eE eB;simp
  rw [aB];dsimp only
  rw [aB];dsimp only
  refine aa.f rfl (aa.ef (by omega) ?_)
  obtain ⟨k,hk,hk2⟩: ∃k:Nat,(if i64 ((s17.len:Int) - 1)<(if 0>many then 0 else many) then i64 ((s17.len:Int) - 1) else (if 0>many then 0 else many))=(k:Int)∧k<C.length:=by
   rw [af (by omega)]
   refine ⟨(if (s17.len:Int) - 1<(if 0>many then 0 else many) then (s17.len:Int) - 1 else (if 0>many then 0 else many)).toNat,?_,?_⟩<;>repeat' split
   all_goals omega
  rw [hk]
  refine bj.G2 ((h.at 0).an ab.own) (by omega) (by omega) (by omega) (by omega) (by omega) fun s24 hs24 hl24 hc24=> ?_
  have hs24: ∀w,aC 1 s17 (C.map vB) w→aC 1 s24 ((C.take k).map vB) w:=fun w hw=>by
   have:=hs24 w hw
   rw [show ((k:Int)).toNat - (0:Int).toNat=k by omega,Int.toNat_zero,List.drop_zero,←List.map_take] at this
   exact this
  obtain ⟨m,hm,hrk⟩:=hcut k hk2
  refine jc h (ab.own.imp hs24) (fun y hy=>hstb y (List.mem_of_mem_take hy)) (by rw [List.length_take];omega) hc24 fun s26 w _ h=> ?_
  rw [hrk] at h⊢
  dsimp only at h⊢
  refine Nw.mk h fun b30 w h=>CR h (ab.at 1 ab.own) (by omega) fun s32 w h=> ?_
  refine Ji h hso.cons.cons.cons (by omega) (by omega) fun s34 w h=> ?_
  refine jc h ab.own (fun y hy=> ?_) (by rw [List.length_append];omega) h.ed fun s36 w _ h=> ?_
  ·rcases List.mem_append.1 hy with hy|hy
   ·exact hstb y hy
   ·exact ho y hy
  rw [hrd] at h⊢
  dsimp only at h⊢
  rw [hfl] at h
  refine Ep h hs.cons.cons.cons.cons.cons hp hN hN2 (by omega) fun pcs s40 w hpc hpcap hpT h=> ?_
  rw [←hcs] at hpc
  have hpl:pcs.length=cs.length:=by rw [←hpc,List.length_map]
  have l40:pcs.length=s40.len:=by have:=h.aH;simpa using this
  have c40:=h.ed
  refine bq.KX (fun t w=>t=true∧Hp E w F) ?_ fun r' hr'=> ?_
  ·rintro t w ⟨rfl,h⟩
   exact hK w h
  ·have h:=h.drew (n:=w.drawn+1)
   have hml:(cs.take m).length=m:=by rw [List.length_take];omega
   refine ⟨fun _=>True,trivial,aa.t rfl (aa.dt (by omega) ?_)⟩
   refine bj.G2 (h.an ab.own) (by omega) (by omega) (by omega) (by omega) (by omega) fun s44 hs44 hl44 hc44=> ?_
   have hs44: ∀w,aC 1 s40 (pcs.map fun x=> .slice x.1.base x.1.len x.1.cap) w→aC 1 s44 ((pcs.take m).map fun x=> .slice x.1.base x.1.len x.1.cap) w:=fun w hw=>by
    have:=hs44 w hw
    rw [hml,show ((m:Int)).toNat - (0:Int).toNat=m by omega,Int.toNat_zero,List.drop_zero,←List.map_take] at this
    exact this
   obtain ⟨X,hX⟩: ∃X,X=(cs.take m).flatten:=⟨_,rfl⟩
   rw [←hX] at h
   have hXs:((pcs.take m).map Prod.snd).flatten=X:=by rw [List.map_take,hpc,hX]
   have hXl:X.length≤150:=by
    have:=D0 cs m
    rw [hfl,hT] at this
    rw [hX];omega
   obtain ⟨G,hG⟩: ∃G,G=al 1 s40 (pcs.map fun x=> .slice x.1.base x.1.len x.1.cap)::OB s36 T::OB s34 (C++o)::OB s26 X::OB s17 C::OB s15 T::F:=⟨_,rfl⟩
   have tP:ab G (cq s44 (pcs.take m)):=by
    rw [hG]
    exact (ab.and ab.own hs.cons.cons.cons.cons.cons.cons).imp fun w h=>⟨hs44 w h.1,fun x hx=>hpT w h.2 x (List.mem_of_mem_take hx)⟩
   have t26:ab G (aC 1 s26 (X.map vB)):=by rw [hG];exact ab.at 3 ab.own
   have t36:ab G (aC 1 s36 (T.map vB)):=by rw [hG];exact ab.at 1 ab.own
   have t15:ab G (aC 1 s15 (T.map vB)):=by rw [hG];exact ab.at 5 ab.own
   have toF: ∀{w:World} {A:HP},Hp E w (A::G)→Hp E w F:=fun h=>by rw [hG] at h;exact h.tl
   have h:Hp E w.drew G:=by rw [hG];exact h
   have joinR: ∀{w:World} {K':Sl→World→Prop},Hp E w G→(∀s' w',Hp E w' (OB s' X::G)→K' s' w')→Cl Tryz.prog [kS] dG ⟨[.slice s44.base s44.len s44.cap]⟩ w K':=fun h hk=>by
    refine BE h tP (by rw [List.length_take,au];omega) (by rw [hXs,au];omega) fun s' w h=> ?_
    rw [hXs] at h
    exact hk s' w h
   repeat' (first
    |exact aa.t (Cx _) (ja h fun w h=>⟨trivial,hr' _ _ ⟨rfl,toF h⟩⟩)
    |refine aa.t (Cx _) ?_
    |refine aa.t rfl ?_
    |refine aa.et (by omega) ?_
    |refine oQ (h.an t26) ⟨trivial,?_⟩
    |refine oQ (h.an t26.cons) ⟨trivial,?_⟩
    |refine oQ (h.an t36.cons) ⟨trivial,?_⟩
    |refine oQ (h.an t15.cons) ⟨trivial,?_⟩
    |refine oQ (h.an ab.own) ⟨trivial,?_⟩
    |refine joinR h fun s48 w h=>⟨trivial,?_⟩
    |refine And.intro ?_ ?_)
end
end Go.Proofs.YtcdpblipagajiaaGreat
set_option maxRecDepth 20000
namespace Go.Vc
open Go Go.RowKit Go.ChangeShapes Go.WideShapes
section
variable {H:Type} {enc:TypeId×Value→H} {P:Program} {W:World}
def dp (enc:TypeId×Value→H) (P:Program) (W:World) (t:TypeId) (cs:List Value):Prop:= ∃fuel x,DataW.trod enc P W 0 (fun _=>true) true fuel t cs=some x
theorem dp.int {t:TypeId} {k:IntKind} {cs:List Value} (h:dp enc P W t cs) (ht:P.underlying t=some (.int k)): ∃n,cs= [.int k n]∧(Lit.int k n).wf=true:=by
 obtain ⟨m,x,h⟩:=h
 obtain ⟨n,h1,_,h2⟩:=DataW.trod_int ht h
 exact ⟨n,h1,h2⟩
theorem dp.bool {t:TypeId} {cs:List Value} (h:dp enc P W t cs) (ht:P.underlying t=some .bool): ∃b,cs= [.bool b]:=by
 obtain ⟨m,x,h⟩:=h
 obtain ⟨n,h1,_⟩:=DataW.trod_bool ht h
 exact ⟨n,h1⟩
theorem dp.string {t:TypeId} {cs:List Value} (h:dp enc P W t cs) (ht:P.underlying t=some .string): ∃s:ByteArray,cs= [.string s]∧s.size≤maxLen:=by
 obtain ⟨m,x,h⟩:=h
 obtain ⟨n,h1,_,h2⟩:=DataW.trod_string ht h
 exact ⟨n,h1,h2⟩
theorem vD {a:Addr} {n:Nat} {cs:List Value} (h:W.cells? 0 a n=some cs):cs.length=n∧∀i (hi:i<cs.length),W.cell? (a.add i)=some cs[i]:=by
 unfold World.cells? at h
 rw [if_pos (Nat.zero_le _)] at h
 have hl:cs.length=n:=by simpa using mapM_some_length h
 refine ⟨hl,fun i hi=> ?_⟩
 have:=mapM_some_get h i i (List.getElem?_range (by omega))
 rw [this,List.getElem?_eq_getElem hi]
theorem rA {α:Type} {sz:Nat}: ∀{xs:List (List α)} (_: ∀x∈xs,x.length=sz) (i j:Nat) (hi:i<xs.length) (_:j<sz),xs.flatten[i*sz+j]? =xs[i][j]?
 |x::xs,h,0,j,_,hj=>by
  have hx:=h x (by simp)
  rw [List.flatten_cons,List.getElem?_append_left (by omega),Nat.zero_mul,Nat.zero_add];rfl
 |x::xs,h,i+1,j,hi,hj=>by
  have hx:=h x (by simp)
  rw [List.flatten_cons,List.getElem?_append_right (by rw [hx,Nat.succ_mul];omega),hx,show (i+1)*sz+j - sz=i*sz+j by rw [Nat.succ_mul];omega,
   rA (fun y hy=>h y (List.mem_cons_of_mem _ hy)) i j (by simpa using hi) hj]
  rfl
theorem rX {α:Type} {sz:Nat}: ∀{xs:List (List α)} (_: ∀x∈xs,x.length=sz),xs.flatten.length=xs.length*sz
 | [],_=>by simp
 |x::xs,h=>by
  rw [List.flatten_cons,List.length_append,h x (by simp),rX (fun y hy=>h y (List.mem_cons_of_mem _ hy)),List.length_cons,Nat.succ_mul];omega
theorem dp.slice {t e:TypeId} {cs:List Value} (h:dp enc P W t cs) (ht:P.underlying t=some (.slice e)):
  ∃(s:Sl) (xs:List (List Value)),cs= [.slice s.base s.len s.cap]∧s.len≤s.cap∧s.cap≤maxLen∧xs.length=s.len∧(∀x∈xs,dp enc P W e x)∧(∀x∈xs,x.length=P.cellsOf e)∧aC (P.cellsOf e) s xs.flatten W:=by
 obtain ⟨m,x,h⟩:=h
 rcases DataW.trod_slice ht h with ⟨h1,_⟩|⟨a,len,cap,elems,rest,n,rfl,h1,_,_,hlc,hcm,hel,hget,_⟩
 ·exact ⟨⟨none,0,0⟩,[],h1,Nat.le_refl _,Nat.zero_le _,rfl,by simp,by simp,by simp,by simp⟩
 ·have hx: ∀i,i<len→∃cs,W.cells? 0 (a.add (i*P.cellsOf e)) (P.cellsOf e)=some cs∧dp enc P W e cs:=by
   intro i hi
   have:=hget i hi
   rw [List.getElem?_eq_getElem (by omega)] at this
   obtain ⟨cs,h2,h3⟩:=Option.bind_eq_some_iff.1 this
   exact ⟨cs,h2,n,_,h3⟩
  have key: ∀k,k≤len→∃xs:List (List Value),xs.length=k∧∀i (hi:i<xs.length),W.cells? 0 (a.add (i*P.cellsOf e)) (P.cellsOf e)=some xs[i]∧dp enc P W e xs[i]:=by
   intro k
   induction k with
   |zero=>exact fun _=>⟨[],rfl,fun i hi=>by simp at hi⟩
   |succ k ih=>
    intro hk
    obtain ⟨xs,hl,hxs⟩:=ih (by omega)
    obtain ⟨cs,h2,h3⟩:=hx k (by omega)
    refine ⟨xs++ [cs],by simp [hl],fun i hi=> ?_⟩
    by_cases hik:i<xs.length
    ·rw [List.getElem_append_left hik];exact hxs i hik
    ·have:i=k:=by simp [hl] at hi;omega
     subst this
     rw [List.getElem_append_right (by omega)]
     simp only [hl,Nat.sub_self,List.getElem_cons_zero]
     exact ⟨h2,h3⟩
  obtain ⟨xs,hl,hxs⟩:=key len (Nat.le_refl _)
  have hsz: ∀x∈xs,x.length=P.cellsOf e:=by
   intro x hx
   obtain ⟨i,hi,rfl⟩:=List.getElem_of_mem hx
   exact (vD (hxs i hi).1).1
  refine ⟨⟨some a,len,cap⟩,xs,h1,hlc,hcm,hl,fun x hx=> ?_,hsz,?_,fun i hi=>⟨a,rfl,?_⟩⟩
  ·obtain ⟨i,hi,rfl⟩:=List.getElem_of_mem hx
   exact (hxs i hi).2
  ·rw [rX hsz,hl]
  ·rw [rX hsz,hl] at hi
   have hz:0<P.cellsOf e:=by
    rcases Nat.eq_zero_or_pos (P.cellsOf e) with h0|h0
    ·rw [h0] at hi;simp at hi
    ·exact h0
   have e1:i/P.cellsOf e*P.cellsOf e+i % P.cellsOf e=i:=by rw [Nat.mul_comm];exact Nat.div_add_mod i _
   have hq:i/P.cellsOf e<xs.length:=by rw [hl];exact (Nat.div_lt_iff_lt_mul hz).2 hi
   have hr:=Nat.mod_lt i hz
   obtain ⟨c1,c2⟩:=vD (hxs _ hq).1
   have c3:=c2 (i % P.cellsOf e) (by omega)
   have c4:=rA hsz _ _ hq hr
   have c5:(a.add (i/P.cellsOf e*P.cellsOf e)).add (i % P.cellsOf e)=a.add i:=by
    conv=>rhs;rw [←e1]
    unfold Addr.add
    by_cases e1:i/P.cellsOf e*P.cellsOf e=0<;>by_cases e2:i % P.cellsOf e=0<;>simp [e1,e2,Nat.add_assoc]
   rw [c5] at c3
   rw [c3,←List.getElem?_eq_getElem,←c4]
   simp only [e1]
   exact List.getElem?_eq_getElem _
theorem dp.struct {t:TypeId} {fs:Array Field} {cs:List Value} (h:dp enc P W t cs) (ht:P.underlying t=some (.struct fs)):cs.length=P.cellsOf t∧∀(i:Nat) (f:Field),fs[i]? =some f→dp enc P W f.type ((cs.drop f.offset).take (P.cellsOf f.type)):=by
 obtain ⟨m,x,h⟩:=h
 obtain ⟨xs,n,_,_,h2,h3,h4⟩:=DataW.trod_struct ht h
 refine ⟨h2,fun i f hf=> ?_⟩
 have hi:i<fs.size:=by
  rcases Nat.lt_or_ge i fs.size with hh|hh
  ·exact hh
  ·rw [Array.getElem?_eq_none hh] at hf;cases hf
 have:=h4 i f hf
 rw [List.getElem?_eq_getElem (by omega)] at this
 exact ⟨n,_,this⟩
def De (P:Program) (t:TypeId) (i:Nat) (ft:TypeId) (off n:Nat):Bool:=match P.underlying t with
 |some (.struct fs)=>match fs[i]? with
  |some f=>f.type==ft&&f.offset==off&&P.cellsOf ft==n
  |none=>false
 |_=>false
theorem dp.field {t:TypeId} {cs:List Value} (h:dp enc P W t cs) (i:Nat) (ft:TypeId) (off n:Nat) (hf:De P t i ft off n=true):dp enc P W ft ((cs.drop off).take n):=by
 unfold De at hf
 split at hf
 ·rename_i fs ht
  split at hf
  ·rename_i f hfi
   simp only [Bool.and_eq_true,beq_iff_eq] at hf
   obtain ⟨⟨rfl,rfl⟩,rfl⟩:=hf
   exact (h.struct ht).2 i f hfi
  ·cases hf
 ·cases hf
theorem dp.array {t e:TypeId} {n:Nat} {cs:List Value} (h:dp enc P W t cs) (ht:P.underlying t=some (.array n e)):cs.length=P.cellsOf t∧∀i,i<n→dp enc P W e ((cs.drop (i*P.cellsOf e)).take (P.cellsOf e)):=by
 obtain ⟨m,x,h⟩:=h
 obtain ⟨xs,n',_,_,h2,h3,h4⟩:=DataW.trod_array ht h
 refine ⟨h2,fun i hi=> ?_⟩
 have:=h4 i hi
 rw [List.getElem?_eq_getElem (by omega)] at this
 exact ⟨n',_,this⟩
theorem rh {α β:Type} {g:α→β} {Good:α→Prop}: ∀{xs:List β} (_: ∀x∈xs,∃a,x=g a∧Good a),∃l:List α,xs=l.map g∧∀a∈l,Good a
 | [],_=>⟨[],rfl,by simp⟩
 |x::xs,h=>by
  obtain ⟨a,rfl,ha⟩:=h x (by simp)
  obtain ⟨l,rfl,hl⟩:=rh (fun y hy=>h y (List.mem_cons_of_mem _ hy))
  exact ⟨a::l,rfl,by simpa using ⟨ha,hl⟩⟩
theorem mE {α β:Type} {g:α→β} (l:List α):(l.map fun a=> [g a]).flatten=l.map g:=by
 induction l with
 |nil=>rfl
 |cons a l ih=>simp [ih]
theorem wf_u8 {n:Int} (h:(Lit.int .u8 n).wf=true):0≤n∧n≤255:=by
 simp [Lit.wf,IntKind.min,IntKind.max,IntKind.signed,IntKind.bits] at h
 exact h
def oe (W:World) (s:Sl) (b:List Nat):Prop:=aC 1 s (b.map vB) W∧(∀y∈b,y<256)∧s.len≤s.cap∧s.cap≤maxLen
theorem dp.bytes {t e:TypeId} {cs:List Value} (h:dp enc P W t cs) (ht:P.underlying t=some (.slice e)) (he:P.underlying e=some (.int .u8)) (hc:P.cellsOf e=1): ∃s b,cs= [.slice s.base s.len s.cap]∧oe W s b:=by
 obtain ⟨s,xs,h1,h2,h3,h4,h5,h6,h7⟩:=h.slice ht
 obtain ⟨l,rfl,hl⟩:=rh (g:=fun y:Nat=> [vB y]) (Good:=fun y=>y<256) (xs:=xs) fun x hx=>by
  obtain ⟨n,rfl,hn⟩:=(h5 x hx).int he
  have:=wf_u8 hn
  obtain ⟨m,rfl⟩:=Int.eq_ofNat_of_zero_le this.1
  exact ⟨m,rfl,by omega⟩
 rw [mE,hc] at h7
 exact ⟨s,l,h1,h7,hl,h2,h3⟩
theorem dp.ints {t e:TypeId} {k:IntKind} {cs:List Value} (h:dp enc P W t cs) (ht:P.underlying t=some (.slice e)) (he:P.underlying e=some (.int k)) (hc:P.cellsOf e=1):
  ∃s,∃l:List Int,cs= [.slice s.base s.len s.cap]∧aC 1 s (l.map (.int k)) W∧(∀y∈l,(Lit.int k y).wf=true)∧s.len≤s.cap∧s.cap≤maxLen:=by
 obtain ⟨s,xs,h1,h2,h3,h4,h5,h6,h7⟩:=h.slice ht
 obtain ⟨l,rfl,hl⟩:=rh (g:=fun y:Int=> [Value.int k y]) (Good:=fun y=>(Lit.int k y).wf=true) (xs:=xs) fun x hx=>by
  obtain ⟨n,rfl,hn⟩:=(h5 x hx).int he
  exact ⟨n,rfl,hn⟩
 rw [mE,hc] at h7
 exact ⟨s,l,h1,h7,hl,h2,h3⟩
theorem dp.chunks {t e u:TypeId} {cs:List Value} (h:dp enc P W t cs) (ht:P.underlying t=some (.slice e)) (he:P.underlying e=some (.slice u)) (hu:P.underlying u=some (.int .u8)) (hc:P.cellsOf e=1) (hcu:P.cellsOf u=1):
  ∃s,∃l:List (Sl×List Nat),cs= [.slice s.base s.len s.cap]∧aC 1 s (l.map fun a=> .slice a.1.base a.1.len a.1.cap) W∧(∀a∈l,oe W a.1 a.2)∧s.len≤s.cap∧s.cap≤maxLen:=by
 obtain ⟨s,xs,h1,h2,h3,h4,h5,h6,h7⟩:=h.slice ht
 obtain ⟨l,rfl,hl⟩:=rh (g:=fun a:Sl×List Nat=> [Value.slice a.1.base a.1.len a.1.cap]) (Good:=fun a=>oe W a.1 a.2) (xs:=xs) fun x hx=>by
  obtain ⟨s,b,rfl,hb⟩:=(h5 x hx).bytes he hu hcu
  exact ⟨(s,b),rfl,hb⟩
 rw [mE,hc] at h7
 exact ⟨s,l,h1,h7,hl,h2,h3⟩
def Arg (enc:TypeId×Value→H) (P:Program) (W:World) (t:TypeId) (v:Value):Prop:=(∃base,Value.okWide P W .any base t v)∧dp enc P W t v.cells.toList
def CC (enc:TypeId×Value→H) (P:Program) (W:World):List TypeId→List Value→Prop
 | [],vs=>vs= []
 |t::ts,vs=> ∃v vs',vs=v::vs'∧Arg enc P W t v∧CC enc P W ts vs'
theorem Arg.one {t:TypeId} {v:Value} (h:Arg enc P W t v) (hv:v.cells.toList= [v]):dp enc P W t [v]:=by
 have:=h.2
 rwa [hv] at this
theorem Arg.slice {t e:TypeId} {v:Value} (h:Arg enc P W t v) (ht:P.underlying t=some (.slice e)):dp enc P W t [v]:=by
 obtain ⟨base,hb⟩:=h.1
 obtain ⟨a,l,c,rfl⟩:=okWide_slice ht hb
 exact h.one rfl
theorem Arg.bytes {t e:TypeId} {v:Value} (h:Arg enc P W t v) (ht:P.underlying t=some (.slice e)) (he:P.underlying e=some (.int .u8)) (hc:P.cellsOf e=1): ∃s b,v= .slice s.base s.len s.cap∧oe W s b:=by
 obtain ⟨s,b,h1,h2⟩:=(h.slice ht).bytes ht he hc
 exact ⟨s,b,by simpa using h1,h2⟩
theorem Arg.ints {t e:TypeId} {k:IntKind} {v:Value} (h:Arg enc P W t v) (ht:P.underlying t=some (.slice e)) (he:P.underlying e=some (.int k)) (hc:P.cellsOf e=1):
  ∃s,∃l:List Int,v= .slice s.base s.len s.cap∧aC 1 s (l.map (.int k)) W∧(∀y∈l,(Lit.int k y).wf=true)∧s.len≤s.cap∧s.cap≤maxLen:=by
 obtain ⟨s,l,h1,h2⟩:=(h.slice ht).ints ht he hc
 exact ⟨s,l,by simpa using h1,h2⟩
theorem Arg.chunks {t e u:TypeId} {v:Value} (h:Arg enc P W t v) (ht:P.underlying t=some (.slice e)) (he:P.underlying e=some (.slice u)) (hu:P.underlying u=some (.int .u8)) (hc:P.cellsOf e=1) (hcu:P.cellsOf u=1):
  ∃s,∃l:List (Sl×List Nat),v= .slice s.base s.len s.cap∧aC 1 s (l.map fun a=> .slice a.1.base a.1.len a.1.cap) W∧(∀a∈l,oe W a.1 a.2)∧s.len≤s.cap∧s.cap≤maxLen:=by
 obtain ⟨s,l,h1,h2⟩:=(h.slice ht).chunks ht he hu hc hcu
 exact ⟨s,l,by simpa using h1,h2⟩
theorem Arg.int {t:TypeId} {k:IntKind} {v:Value} (h:Arg enc P W t v) (ht:P.underlying t=some (.int k)): ∃n,v= .int k n∧(Lit.int k n).wf=true:=by
 obtain ⟨base,hb⟩:=h.1
 obtain ⟨n,rfl⟩:=okWide_int ht hb
 obtain ⟨m,h1,h2⟩:=(h.one rfl).int ht
 cases h1
 exact ⟨n,rfl,h2⟩
theorem Arg.string {t:TypeId} {v:Value} (h:Arg enc P W t v) (ht:P.underlying t=some .string): ∃s:ByteArray,v= .string s∧s.size≤maxLen:=by
 obtain ⟨base,hb⟩:=h.1
 obtain ⟨n,rfl⟩:=okWide_string ht hb
 obtain ⟨m,h1,h2⟩:=(h.one rfl).string ht
 cases h1
 exact ⟨n,rfl,h2⟩
theorem Arg.struct {t:TypeId} {fs:Array Field} {v:Value} (h:Arg enc P W t v) (ht:P.underlying t=some (.struct fs)): ∃cs,v= .agg cs∧dp enc P W t cs.toList:=by
 obtain ⟨base,hb⟩:=h.1
 obtain ⟨cs,rfl,_⟩:=okWide_struct ht hb
 exact ⟨cs,rfl,h.2⟩
theorem BX: ∀{ts:List TypeId} {vs:List Value} {ds:List (DataW H)} {ps:List MemPlace},DataW.TrodAll enc P W 0 (fun _=>true) true ts vs ds ps→(∀(j:Nat) t v,ts[j]? =some t→vs[j]? =some v→∃base,Value.okWide P W .any base t v)→CC enc P W ts vs
 | [],[],[],_,_,_=>rfl
 |t::ts,v::vs,d::ds,ps,h,hv=>by
  obtain ⟨p,q,⟨fuel,h1⟩,h2,_⟩:=h
  exact ⟨v,vs,rfl,⟨hv 0 t v rfl rfl,fuel,_,h1⟩,BX h2 fun j t' v' a b=>hv (j+1) t' v' a b⟩
theorem ry: ∀{ts:List TypeId} {vs:List Value} {ds:List (DataW H)} {ps:List MemPlace},DataW.TrodAll enc P W 0 (fun _=>true) true ts vs ds ps→ds.length=ts.length
 | [],[],[],_,_=>rfl
 |_::_,_::_,_::_,_,h=>by
  obtain ⟨p,q,_,h2,_⟩:=h
  simp [ry h2]
theorem pG (hl:laidOutB P=true) {W':World} (hb:Below W.heap.size W W'): ∀{ts:List TypeId} {vs:List Value} {ds:List (DataW H)} {ps:List MemPlace},DataW.TrodAll enc P W 0 (fun _=>true) true ts vs ds ps→
  (∀t∈ts,P.readableRec t=true∧t<P.types.size)→∃qs,DataW.TrodAll enc P W' 0 (fun b=>decide (b<W.heap.size)) true ts vs ds qs
 | [],[],[],_,_,_=>⟨[],rfl⟩
 |t::ts,v::vs,d::ds,ps,h,hr=>by
  obtain ⟨p,q,h1,h2,_⟩:=h
  obtain ⟨qs,h3⟩:=pG hl hb h2 fun t ht=>hr t (List.mem_cons_of_mem _ ht)
  obtain ⟨ht1,ht2⟩:=hr t (by simp)
  have hlt: ∀x∈p,x.block<W.heap.size:=by obtain ⟨m,hm⟩:=h1;exact DataW.trod_lt m _ _ _ hm
  exact ⟨_,p,qs,Below.trod hl ht1 ht2 h1 hb hlt,h3,rfl⟩
theorem ET {C:Checked} {os:Os} {f:FuncId} {fn:Func} {s:ChangeSpec} {conds:List PathCond} {tb:TypeId}
  (own:ownKnob C.prog.godebug=none) (started:os.Started) (noInit:C.prog.inits.idxOf? f=none) (hfn:C.prog.funcs[f]? =some fn)
  (witness: ∃(w:World) (tape:Tape) (i:Input),w.os=os∧(w.forCall tape i).Shaped C.prog∧i.vars= []∧Input.okWide C.prog (w.forCall tape i) .any w.heap.size f i∧
   s.pre6 enc C.prog fn conds false (w.forCall tape i).memory i.args∧({}:Assume).holds C.prog (lone (Frame.enter C.prog f i.args .normal) [] (w.forCall tape i)))
  (hvars:s.vars= []) (hres:fn.resultTypes= #[tb]) (htb:C.prog.underlying tb=some .bool)
  (hspec: ∀ds:List (DataW H),ds.length=fn.params.toList.length→s.fn H ds={results:= [.lit (.bool true)],args:=ds})
  (laid:laidOutB C.prog=true) (hr:fn.params.toList.all (fun t=>C.prog.readableRec t&&decide (t<C.prog.types.size))=true)
  (contract: ∀(W:World) (args:Array Value) (ds:List (DataW H)),CC enc C.prog W fn.params.toList args.toList→(DataW.weightsEach C.prog fn.params.toList ds).all (·≤reachBytes)=true→
   Cl C.prog [kB] f args W (fun b w'=>b=true∧Below W.heap.size W w')):
  ReturnsInHanded {} C os f .any (s.pre6 enc C.prog fn conds false) (s.post enc C.prog fn false true false false):=by
 refine returnsInHanded_of_change_sized own started noInit hfn witness ?_
 intro W base args ds gs before hval hW _ hz _
 have hW':=hW
 obtain ⟨p,q,hA,hV,rfl,hfz,hnd⟩:=hW
 rw [hvars] at hV
 obtain ⟨rfl,rfl⟩:=trodVars_none hV
 have hlen:=ry hA
 have hz':(DataW.weightsEach C.prog fn.params.toList ds).all (·≤reachBytes)=true:=by
  have e:s.plain.varTypes C.prog= []:=by
   simp [DataSpec.varTypes,ChangeSpec.plain,hvars]
  rw [e,List.append_nil,List.append_nil] at hz
  exact hz
 have hargs:=BX (vs:=args.toList) hA fun j t v ht hv=>⟨base,hval j t v (by simpa using ht) (by simpa using hv)⟩
 refine Calls.mono (contract W args ds hargs hz') fun e W' hp=> ?_
 cases e with
 |returned v=>
  obtain ⟨b,hv,hb,bel⟩:=Ki.bY (k:=kB) hp
  subst hb
  have hv:v= .bool true:=hv
  subst hv
  have hsp:=hspec ds hlen
  obtain ⟨qs,hq⟩:=pG laid bel hA fun t ht=>by
   have:=List.all_eq_true.1 hr t ht
   simpa using this
  refine ⟨_,rfl,ds,[],_,[],qs,[],hW',?_,?_,?_,bel.frame _,fun h=>by cases h⟩
  ·rw [List.append_nil,hsp,hres]
   exact trodAll_mk1 (shut_bool htb _)
  ·rw [List.append_nil,hsp];exact hq
  ·rw [hvars]
   have:(s.fn H (ds++ [])).vars= []:=by rw [List.append_nil,hsp]
   rw [this];rfl
 |_=>exact absurd hp (by intro h;exact h)
end
end Go.Vc
set_option maxRecDepth 20000
namespace Go.Vc
open Go Go.RowKit Go.ChangeShapes Go.WideShapes
section
variable {H:Type} {enc:TypeId×Value→H} {P:Program} {W:World}
theorem Arg.agg {t e:TypeId} {n:Nat} {v:Value} (h:Arg enc P W t v) (ht:P.underlying t=some (.array n e)): ∃cs,v= .agg cs∧dp enc P W t cs.toList:=by
 obtain ⟨base,hb⟩:=h.1
 simp only [Value.okWide,ht] at hb
 obtain ⟨cs,rfl,_⟩:=hb
 exact ⟨cs,rfl,h.2⟩
theorem dp.fQ {t e:TypeId} {n:Nat} {k:IntKind} {cs:List Value} (h:dp enc P W t cs) (ht:P.underlying t=some (.array n e)) (he:P.underlying e=some (.int k)) (hc:P.cellsOf e=1) (hn:P.cellsOf t=n):
  ∃l:List Int,cs=l.map (.int k)∧l.length=n∧∀y∈l,(Lit.int k y).wf=true:=by
 obtain ⟨h1,h2⟩:=h.array ht
 rw [hn] at h1
 rw [hc] at h2
 have key: ∀m,m≤n→∃l:List Int,cs.take m=l.map (.int k)∧l.length=m∧∀y∈l,(Lit.int k y).wf=true:=by
  intro m
  induction m with
  |zero=>exact fun _=>⟨[],by simp,rfl,by simp⟩
  |succ m ih=>
   intro hm
   obtain ⟨l,e1,e2,e3⟩:=ih (by omega)
   obtain ⟨x,hx,hw⟩:=(h2 m (by omega)).int he
   rw [Nat.mul_one] at hx
   have hmc:m<cs.length:=by omega
   have hx2:cs[m]= .int k x:=by
    rw [List.drop_eq_getElem_cons hmc,List.take_succ_cons,List.take_zero] at hx
    exact (List.cons.inj hx).1
   refine ⟨l++ [x],?_,by simp [e2],?_⟩
   ·rw [List.take_add_one,e1,List.getElem?_eq_getElem hmc,hx2];simp
   ·intro y hy
    rcases List.mem_append.1 hy with hy|hy
    ·exact e3 y hy
    ·have:y=x:=by simpa using hy
     rw [this];exact hw
 obtain ⟨l,e1,e2,e3⟩:=key n (Nat.le_refl _)
 rw [List.take_of_length_le (by omega)] at e1
 exact ⟨l,e1,e2,e3⟩
end
end Go.Vc
