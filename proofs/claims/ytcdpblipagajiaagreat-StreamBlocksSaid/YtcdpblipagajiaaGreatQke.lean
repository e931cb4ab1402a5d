/- Texts packed together by program; spaces struck by program. Conditions: as each theorem states. -/
import Derived.Carry
import Derived.OpenShut
import Derived.ProofKit
import Derived.SizedLaws
import Derived.Test.YtcdpblipagajiaaGreatQkd
set_option linter.unusedSimpArgs false
set_option linter.unusedVariables false
namespace Go.Sym
def ko (d:DS):Prop:=a6 d.L∧d.left≤65536∧d.run≤d.left∧2^d.digits - 1≤d.run∧d.run≤2*(2^d.digits - 1)
theorem ko.bL {d:DS} (h:ko d):d.digits≤16:=by
 obtain ⟨_,h2,h3,h4,_⟩:=h
 rcases Nat.lt_or_ge d.digits 17 with hh|hh
 ·omega
 ·have:2^17≤2^d.digits:=Nat.pow_le_pow_right (by decide) hh
  omega
set_option maxRecDepth 20000 in
theorem ko.zero {m:Nat} (hm:m≤65536):ko ⟨List.range 256,m,0,0⟩:=⟨.range,hm,by simp,by simp,by simp⟩
theorem Bh {d d':DS} {s:Nat} {t:List Nat} (h:ko d) (hs:s<258) (he:cG d s=some (d',t,false)):ko d'∧(∀x∈t,x<256)∧t.length+d'.left≤d.left:=by
 obtain ⟨L,left,run,digits⟩:=d
 obtain ⟨h1,h2,h3,h4,h5⟩:=h
 unfold cG at he
 dsimp only at h1 h2 h3 h4 h5 he
 split at he
 ·split at he
  ·rename_i hs2 hle
   simp only [Option.some.injEq,Prod.mk.injEq] at he
   obtain ⟨rfl,rfl,_⟩:=he
   have hp:=Nat.two_pow_pos digits
   refine ⟨⟨h1,h2,hle,?_,?_⟩,by simp,by simp⟩
   ·dsimp only
    rw [Nat.pow_succ]
    have:=Nat.mul_le_mul_right (2^digits) (show 1≤1+s by omega)
    omega
   ·dsimp only
    rw [Nat.pow_succ]
    have:=Nat.mul_le_mul_right (2^digits) (show 1+s≤2 by omega)
    omega
  ·cases he
 ·split at he
  ·split at he
   ·simp at he
   ·cases he
  ·split at he
   ·cases he
   ·rename_i hs2 hs3 hne
    simp only [Option.some.injEq,Prod.mk.injEq] at he
    obtain ⟨rfl,rfl,_⟩:=he
    refine ⟨⟨h1.take (by omega),by dsimp only;omega,by simp,by simp,by simp⟩,?_,?_⟩
    ·intro x hx
     rcases List.mem_append.1 hx with hx|hx
     ·rw [(List.mem_replicate.1 hx).2];exact h1.get (by omega)
     ·rw [List.mem_singleton] at hx;rw [hx];exact h1.get (by omega)
    ·simp;omega
theorem Gn {d d':DS} {s:Nat} {t:List Nat} (h:ko d) (he:cG d s=some (d',t,true)):(∀x∈t,x<256)∧t.length≤d.left:=by
 obtain ⟨L,left,run,digits⟩:=d
 obtain ⟨h1,h2,h3,h4,h5⟩:=h
 unfold cG at he
 dsimp only at h1 h2 h3 h4 h5 he
 split at he
 ·split at he
  ·simp at he
  ·cases he
 ·split at he
  ·split at he
   ·simp only [Option.some.injEq,Prod.mk.injEq] at he
    obtain ⟨rfl,rfl,_⟩:=he
    refine ⟨fun x hx=> ?_,by simp;omega⟩
    rw [(List.mem_replicate.1 hx).2];exact h1.get (by omega)
   ·cases he
  ·split at he
   ·cases he
   ·simp at he
end Go.Sym
namespace Go.Proofs.YtcdpblipagajiaaGreat
open Go Go.Vc Go.Inc Go.Sym
abbrev gU (L:List Nat) (left run digits:Int) (d:Bool):Array Value:=⟨bj L++ [.int .i64 left,.int .i64 run,.int .i64 digits,.bool d]⟩
theorem bd {L:List Nat} {a b c:Int} {d:Bool}:(gU L a b c d).toList.all ay=true:=by
 unfold gU
 rw [List.all_append,cP]
 rfl
theorem aU {L:List Nat} {a b c:Int} {d:Bool} (h:L.length=256):(gU L a b c d).size=260:=by simp [h]
section
variable {E w:World} {F:List HP}
theorem EU:bK Tryz.prog 22 5 1 1:=bK.of (by kernel_rfl) (by kernel_rfl)
abbrev Bq:Nat→Option (Nat×Nat):=(#[(0,256),(256,1),(257,1),(258,1),(259,1)][·]?)
theorem zK (ps:List (Nat×Value)):Tryz.prog.built 149 ps=Instr.fill Bq ⟨List.replicate 256 (.int .u8 0)++ [.int .i64 0,.int .i64 0,.int .i64 0,.bool false]⟩ ps:=by kernel_rfl
theorem xD {L:List Nat} (hl:L.length=256) (rest:List (Nat×Value)):Instr.fill Bq ⟨List.replicate 256 (.int .u8 0)++ [.int .i64 0,.int .i64 0,.int .i64 0,.bool false]⟩ ((0,.agg ⟨bj L⟩)::rest)=Instr.fill Bq (gU L 0 0 0 false) rest:=by
 have:=gj (place:=Bq) (i:=0) (v:= .agg ⟨bj L⟩) (rest:=rest) (pre:= []) (mid:=List.replicate 256 (.int .u8 0)) (post:= [.int .i64 0,.int .i64 0,.int .i64 0,.bool false]) rfl rfl List.length_replicate (by show (⟨bj L⟩:Array Value).size=_;simp [hl])
 exact this
theorem cO.KL {L:List Nat} {m:Int} {K:Array Value→Prop} (hl:L.length=256) (hK:K (gU L m 0 0 false)):cO Tryz.prog 149 [(0,.agg ⟨bj L⟩),(1,.int .i64 m)] K:=by
 refine ⟨_,?_,hK⟩
 rw [zK,xD hl]
 have:=gj (place:=Bq) (i:=1) (v:= .int .i64 m) (rest:= []) (pre:=bj L) (mid:= [.int .i64 0]) (post:= [.int .i64 0,.int .i64 0,.bool false]) rfl (by simp [hl]) rfl rfl
 unfold gU
 rw [show bj L++ [.int .i64 (0:Int),.int .i64 0,.int .i64 0,.bool false]=bj L++ [.int .i64 0]++ [.int .i64 0,.int .i64 0,.bool false] by simp,this]
 simp [Value.cells,Instr.fill]
theorem cO.Lj {L:List Nat} {K:Array Value→Prop} (hl:L.length=256) (hK:K (gU L 0 0 0 true)):cO Tryz.prog 149 [(0,.agg ⟨bj L⟩),(4,.bool true)] K:=by
 refine ⟨_,?_,hK⟩
 rw [zK,xD hl]
 have:=gj (place:=Bq) (i:=4) (v:= .bool true) (rest:= []) (pre:=bj L++ [.int .i64 0,.int .i64 0,.int .i64 0]) (mid:= [.bool false]) (post:= []) rfl (by simp [hl]) rfl rfl
 unfold gU
 rw [show bj L++ [.int .i64 (0:Int),.int .i64 0,.int .i64 0,.bool false]=bj L++ [.int .i64 0,.int .i64 0,.int .i64 0]++ [.bool false]++ [] by simp,this]
 simp [Value.cells,Instr.fill]
set_option maxRecDepth 20000
theorem HK {m:Nat} {K:Array Value→World→Prop} (h:Hp E w F) (hm:1≤m) (hm2:m≤65536) (hK: ∀w',Hp E w' F→K (gU (List.range 256) (m:Int) 0 0 false) w'):Cl Tryz.prog [.arr 260] mE ⟨[.int .i64 (m:Int)]⟩ w K:=by
 refine CJ.ok _ _ _ ?_
 (try simp only [ax,au,aq,Nat.zero_add,Nat.add_zero,Nat.reduceAdd,Bool.not_true,Bool.not_false,aQ,aR,Option.isNone])
 refine Nw.mk h fun b3 w h=>aa.df (by omega) (aa.df (by omega) ?_)
 refine D1 h fun w h=>cO.KL (by simp) ?_
 have hz:(⟨List.replicate 256 (.int .u8 0)++ [.int .i64 0,.int .i64 0,.int .i64 0,.bool false]⟩:Array Value).size=260:=by simp
 have hd:(gU (List.range 256) (m:Int) 0 0 false).size=260:=aU (by simp)
 refine aw.q h hz hd bd fun w h=> ?_
 exact Ld.xw h hd (hK _ h.tl)
theorem ER {d:DS} {K:Bool→World→Prop} (h:Hp E w F) (hd:ko d) (hK: ∀w',Hp E w' F→K true w'):Cl Tryz.prog [kB] kh ⟨[.agg (gU d.L (d.left:Int) (d.run:Int) (d.digits:Int) false)]⟩ w K:=by
 have hdig:=hd.bL
 obtain ⟨L,left,run,digits⟩:=d
 obtain ⟨h1,h2,h3,h4,h5⟩:=hd
 dsimp only at h1 h2 h3 h4 h5 hdig⊢
 have hL:=fN h1.len
 refine zO.ok _ _ _ ?_
 have hp:2^digits≤65536:=Nat.pow_le_pow_right (n:=2) (by decide) hdig
 have hpp:=Nat.two_pow_pos digits
 have e1:i64 (a8 .i64 1 (digits:Int) - 1)=((2^digits - 1:Nat):Int):=by
  have hmx:IntKind.max .i64=9223372036854775807:=rfl
  have:=dJ (k:= .i64) (a:=1) (b:=digits) (by have:IntKind.bits .i64=64:=rfl;omega) (by rw [hmx];omega)
  have e0:a8 .i64 1 (digits:Int)=((2^digits:Nat):Int):=by simpa using this
  rw [e0,ag (by omega)];omega
 (try simp only [ax,au,aq,Nat.zero_add,Nat.add_zero,Nat.reduceAdd,Bool.not_true,Bool.not_false,aQ,aR,Option.isNone])
 (with_reducible repeat first|refine Nw.mk h fun b w h=> ?_|refine ao.mk h fun w h=> ?_|refine Ld.q h hL rfl rfl ?_|refine ad.q (fun _ h=>h) hL rfl rfl ?_|refine Ld.p h hL ?_|refine ad.p (fun _ h=>h) hL ?_|refine Ld.qw h hL rfl ?_|refine ad.qw (fun _ h=>h) hL rfl ?_|refine ⟨h.hb,?_⟩|(refine St.q h hL rfl rfl rfl fun w h=> ?_;dsimp only [ah,ae] at h)|refine aa.yes ?_|refine aa.no ?_|refine ⟨by first|omega|decide,?_⟩)
 refine vb h h1 fun w h=> ?_
 (with_reducible repeat first|refine Nw.mk h fun b w h=> ?_|refine ao.mk h fun w h=> ?_|refine Ld.q h hL rfl rfl ?_|refine ad.q (fun _ h=>h) hL rfl rfl ?_|refine Ld.p h hL ?_|refine ad.p (fun _ h=>h) hL ?_|refine Ld.qw h hL rfl ?_|refine ad.qw (fun _ h=>h) hL rfl ?_|refine ⟨h.hb,?_⟩|(refine St.q h hL rfl rfl rfl fun w h=> ?_;dsimp only [ah,ae] at h)|refine aa.yes ?_|refine aa.no ?_|refine ⟨by first|omega|decide,?_⟩)
 rw [e1]
 (with_reducible repeat first|refine Nw.mk h fun b w h=> ?_|refine ao.mk h fun w h=> ?_|refine Ld.q h hL rfl rfl ?_|refine ad.q (fun _ h=>h) hL rfl rfl ?_|refine Ld.p h hL ?_|refine ad.p (fun _ h=>h) hL ?_|refine Ld.qw h hL rfl ?_|refine ad.qw (fun _ h=>h) hL rfl ?_|refine ⟨h.hb,?_⟩|(refine St.q h hL rfl rfl rfl fun w h=> ?_;dsimp only [ah,ae] at h)|refine aa.yes ?_|refine aa.no ?_|refine ⟨by first|omega|decide,?_⟩)
 rw [ag (by omega)]
 (with_reducible repeat first|refine Nw.mk h fun b w h=> ?_|refine ao.mk h fun w h=> ?_|refine Ld.q h hL rfl rfl ?_|refine ad.q (fun _ h=>h) hL rfl rfl ?_|refine Ld.p h hL ?_|refine ad.p (fun _ h=>h) hL ?_|refine Ld.qw h hL rfl ?_|refine ad.qw (fun _ h=>h) hL rfl ?_|refine ⟨h.hb,?_⟩|(refine St.q h hL rfl rfl rfl fun w h=> ?_;dsimp only [ah,ae] at h)|refine aa.yes ?_|refine aa.no ?_|refine ⟨by first|omega|decide,?_⟩)
 exact hK _ h.tl
theorem Bg {L:List Nat} {left digits:Int} {run:Nat} {d:Bool} {K:Sl→World→Prop} (h:Hp E w F) (hl:L.length=256) (hr:run≤65536) (hK: ∀s' w',Hp E w' (ak 1 s' ((List.replicate run (L.getD 0 0)).map vB)::F)→K s' w'):
  Cl Tryz.prog [kS] jE ⟨[.agg (gU L left (run:Int) digits d)]⟩ w K:=by
 have hL:=fN hl
 refine CC.ok _ _ _ ?_
 (try simp only [ax,au,aq,Nat.zero_add,Nat.add_zero,Nat.reduceAdd,Bool.not_true,Bool.not_false,aQ,aR,Option.isNone])
 (with_reducible repeat first|refine Nw.mk h fun b w h=> ?_|refine ao.mk h fun w h=> ?_|refine Ld.q h hL rfl rfl ?_|refine ad.q (fun _ h=>h) hL rfl rfl ?_|refine Ld.p h hL ?_|refine ad.p (fun _ h=>h) hL ?_|refine Ld.qw h hL rfl ?_|refine ad.qw (fun _ h=>h) hL rfl ?_|refine ⟨h.hb,?_⟩|(refine St.q h hL rfl rfl rfl fun w h=> ?_;dsimp only [ah,ae] at h)|refine aa.yes ?_|refine aa.no ?_|refine ⟨by first|omega|decide,?_⟩)
 refine ⟨by omega,by omega,by omega,by simp,?_⟩
 rw [if_neg (by decide)]
 simp only [Option.map_some,aq,show (0:Int).toNat=0 from rfl,Nat.zero_mul,Nat.zero_add,show (1:Int).toNat=1 from rfl,show (256:Int).toNat=256 from rfl,Nat.sub_zero]
 (with_reducible repeat first|refine Nw.mk h fun b w h=> ?_|refine ao.mk h fun w h=> ?_|refine Ld.q h hL rfl rfl ?_|refine ad.q (fun _ h=>h) hL rfl rfl ?_|refine Ld.p h hL ?_|refine ad.p (fun _ h=>h) hL ?_|refine Ld.qw h hL rfl ?_|refine ad.qw (fun _ h=>h) hL rfl ?_|refine ⟨h.hb,?_⟩|(refine St.q h hL rfl rfl rfl fun w h=> ?_;dsimp only [ah,ae] at h)|refine aa.yes ?_|refine aa.no ?_|refine ⟨by first|omega|decide,?_⟩)
 refine Gb (s:=⟨some ⟨b,0,none⟩,1,256⟩) (c:=L.getD 0 0) h ?_ hr fun s' w h=>hK _ _ (h.at 1).drop
 rintro w' f a ⟨g,k,hd,rfl,rfl,h2⟩
 refine ⟨rfl,fun i hi=>⟨⟨b,0,none⟩,rfl,?_⟩⟩
 have:w'.heap[b]? =some (.cells (gU L left (run:Int) digits d) 149 (0,0)):=a b _ (by simp [aJ.add,aJ.one])
 simp only [List.length_singleton] at hi
 have hi0:i=0:=by omega
 subst hi0
 rw [aq]
 simp only [World.cell?,this]
 simp [List.getElem?_append,hl,List.getD_eq_getElem?_getD]
theorem Gy {d:DS} {s:Nat} {K:Array Value→Sl→Bool→World→Prop} (h:Hp E w F) (hd:ko d) (hs:s<258)
  (hn: ∀o sl w',cG d s=none→o.size=260→o.toList.all ay=true→Hp E w' F→K o sl false w')
  (hm: ∀d' t sl w',cG d s=some (d',t,false)→Hp E w' (ak 1 sl (t.map vB)::F)→K (gU d'.L (d'.left:Int) (d'.run:Int) (d'.digits:Int) false) sl true w')
  (he: ∀d' t sl w',cG d s=some (d',t,true)→Hp E w' (ak 1 sl (t.map vB)::F)→K (gU d.L 0 0 0 true) sl true w'):
  Cl Tryz.prog [.arr 260,kS,kB] ly ⟨[.agg (gU d.L (d.left:Int) (d.run:Int) (d.digits:Int) false),.int .i64 (s:Int)]⟩ w K:=by
 have hdig:=hd.bL
 obtain ⟨L,left,run,digits⟩:=d
 obtain ⟨h1,h2,h3,h4,h5⟩:=hd
 unfold cG at hn hm he
 dsimp only at h1 h2 h3 h4 h5 hdig hn hm he⊢
 have hl:=h1.len
 have hL:=fN hl
 have hz:(⟨List.replicate 256 (.int .u8 0)++ [.int .i64 0,.int .i64 0,.int .i64 0,.bool false]⟩:Array Value).size=260:=by simp
 have hp:2^digits≤65536:=Nat.pow_le_pow_right (n:=2) (by decide) hdig
 refine AS.ok _ _ _ _ ?_
 (try simp only [ax,au,aq,Nat.zero_add,Nat.add_zero,Nat.reduceAdd,Bool.not_true,Bool.not_false,aQ,aR,Option.isNone])
 refine Nw.mk h fun b4 w h=>Nw.mk h fun b6 w h=> ?_
 by_cases hs2:s<2
 ·simp only [if_pos hs2] at hn hm he
  have hb:(1+s)*2^digits≤131072:=by
   have:=Nat.mul_le_mul (show 1+s≤2 by omega) hp
   omega
  have fin: ∀w,Hp E w (aj b6 (.cells ⟨List.replicate 256 (.int .u8 0)++ [.int .i64 0,.int .i64 0,.int .i64 0,.bool false]⟩ 149 (0,0))::aj b4 (.cells (gU L (left:Int) (run:Int) (digits:Int) false) 149 (0,0))::F)→
   Ld kI ⟨b4,257,none⟩ w fun (Run10:Int)=>Ld kI ⟨b4,258,none⟩ w fun (Digits11:Int)=>
   Cl Tryz.prog [kI,kI] iC ⟨[.int .i64 Run10,.int .i64 Digits11,.int .i64 (s:Int)]⟩ w fun r13 _ w_12=>
   St ⟨b4,257,none⟩ (.int .i64 r13) w_12 fun w_15=>Ld kI ⟨b4,258,none⟩ w_15 fun (Digits16:Int)=>St ⟨b4,258,none⟩ (.int .i64 (i64 (Digits16+1))) w_15 fun w_17=>
   cA w_17 fun S18 w_19=>ad (.arr 260) ⟨b4,0,none⟩ S18 fun x20=>ad kI ⟨b4,257,none⟩ S18 fun (Run21:Int)=>ad kI ⟨b4,256,none⟩ S18 fun (Left22:Int)=>
   aw 260 ⟨b6,0,none⟩ x20 w_19 fun w_23=>S18 w_23∧Ld (.arr 260) ⟨b6,0,none⟩ w_23 fun res24=>K res24 ⟨none,0,0⟩ (decide (Run21≤Left22)) w_23:=by
   intro w h
   (with_reducible repeat first|refine Nw.mk h fun b w h=> ?_|refine ao.mk h fun w h=> ?_|refine Ld.q h hL rfl rfl ?_|refine ad.q (fun _ h=>h) hL rfl rfl ?_|refine Ld.p h hL ?_|refine ad.p (fun _ h=>h) hL ?_|refine Ld.qw h hL rfl ?_|refine ad.qw (fun _ h=>h) hL rfl ?_|refine ⟨h.hb,?_⟩|(refine St.q h hL rfl rfl rfl fun w h=> ?_;dsimp only [ah,ae] at h)|refine aa.yes ?_|refine aa.no ?_|refine ⟨by first|omega|decide,?_⟩)
   refine Jx (by omega) hdig (by omega) ?_
   generalize (1+s)*2^digits=q at hb hm hn⊢
   (with_reducible repeat first|refine Nw.mk h fun b w h=> ?_|refine ao.mk h fun w h=> ?_|refine Ld.q h hL rfl rfl ?_|refine ad.q (fun _ h=>h) hL rfl rfl ?_|refine Ld.p h hL ?_|refine ad.p (fun _ h=>h) hL ?_|refine Ld.qw h hL rfl ?_|refine ad.qw (fun _ h=>h) hL rfl ?_|refine ⟨h.hb,?_⟩|(refine St.q h hL rfl rfl rfl fun w h=> ?_;dsimp only [ah,ae] at h)|refine aa.yes ?_|refine aa.no ?_|refine ⟨by first|omega|decide,?_⟩)
   rw [ag (by omega)] at h
   have h:=h.drew (n:=w.drawn+1)
   refine ⟨bF b4 _ _ _,h.hb,?_⟩
   dsimp only
   (with_reducible repeat first|refine Nw.mk h fun b w h=> ?_|refine ao.mk h fun w h=> ?_|refine Ld.q h hL rfl rfl ?_|refine ad.q (fun _ h=>h) hL rfl rfl ?_|refine Ld.p h hL ?_|refine ad.p (fun _ h=>h) hL ?_|refine Ld.qw h hL rfl ?_|refine ad.qw (fun _ h=>h) hL rfl ?_|refine ⟨h.hb,?_⟩|(refine St.q h hL rfl rfl rfl fun w h=> ?_;dsimp only [ah,ae] at h)|refine aa.yes ?_|refine aa.no ?_|refine ⟨by first|omega|decide,?_⟩)
   refine aw.q h hz (aU hl) bd fun w h=>⟨h.hb,?_⟩
   (with_reducible repeat first|refine Nw.mk h fun b w h=> ?_|refine ao.mk h fun w h=> ?_|refine Ld.q h hL rfl rfl ?_|refine ad.q (fun _ h=>h) hL rfl rfl ?_|refine Ld.p h hL ?_|refine ad.p (fun _ h=>h) hL ?_|refine Ld.qw h hL rfl ?_|refine ad.qw (fun _ h=>h) hL rfl ?_|refine ⟨h.hb,?_⟩|(refine St.q h hL rfl rfl rfl fun w h=> ?_;dsimp only [ah,ae] at h)|refine aa.yes ?_|refine aa.no ?_|refine ⟨by first|omega|decide,?_⟩)
   by_cases hle:run+q≤left
   ·rw [if_pos hle] at hm
    exact gX (K:=fun b w=>K _ _ b w) (decide_eq_true (by omega)) (hm ⟨L,left,run+q,digits+1⟩ [] _ _ rfl (h.tl.bJ 1))
   ·rw [if_neg hle] at hn
    exact gX (K:=fun b w=>K _ _ b w) (decide_eq_false (by omega)) (hn _ _ _ rfl (aU hl) bd h.tl)
  by_cases h0:s=0
  ·exact aa.et (by omega) (fin _ h)
  ·refine aa.ef (by omega) ?_
   exact aa.et (by omega) (fin _ h)
 ·simp only [if_neg hs2] at hn hm he
  refine aa.ef (by omega) (aa.ef (by omega) ?_)
  by_cases hs3:s=257
  ·simp only [if_pos hs3] at hn hm he
   refine aa.et (by omega) ?_
   have h:=h.drew (n:=w.drawn+1)
   refine ⟨bF b4 _ _ _,h.hb,?_⟩
   dsimp only
   (with_reducible repeat first|refine Nw.mk h fun b w h=> ?_|refine ao.mk h fun w h=> ?_|refine Ld.q h hL rfl rfl ?_|refine ad.q (fun _ h=>h) hL rfl rfl ?_|refine Ld.p h hL ?_|refine ad.p (fun _ h=>h) hL ?_|refine Ld.qw h hL rfl ?_|refine ad.qw (fun _ h=>h) hL rfl ?_|refine ⟨h.hb,?_⟩|(refine St.q h hL rfl rfl rfl fun w h=> ?_;dsimp only [ah,ae] at h)|refine aa.yes ?_|refine aa.no ?_|refine ⟨by first|omega|decide,?_⟩)
   refine cO.Lj hl ?_
   (with_reducible repeat first|refine Nw.mk h fun b w h=> ?_|refine ao.mk h fun w h=> ?_|refine Ld.q h hL rfl rfl ?_|refine ad.q (fun _ h=>h) hL rfl rfl ?_|refine Ld.p h hL ?_|refine ad.p (fun _ h=>h) hL ?_|refine Ld.qw h hL rfl ?_|refine ad.qw (fun _ h=>h) hL rfl ?_|refine ⟨h.hb,?_⟩|(refine St.q h hL rfl rfl rfl fun w h=> ?_;dsimp only [ah,ae] at h)|refine aa.yes ?_|refine aa.no ?_|refine ⟨by first|omega|decide,?_⟩)
   refine Bg h hl (by omega) fun sl w h=>⟨h.hb,?_⟩
   refine aw.q h hz (aU hl) bd fun w h=>⟨h.hb,?_⟩
   refine Ld.xw h (aU hl) ?_
   by_cases hrl:run=left
   ·rw [if_pos hrl] at he
    exact gX (K:=fun b w=>K _ _ b w) (beq_iff_eq.2 (by omega)) (he _ _ _ _ rfl ((h.no 1).no 1))
   ·rw [if_neg hrl] at hn
    exact gX (K:=fun b w=>K _ _ b w) (beq_eq_false_iff_ne.2 (by omega)) (hn _ _ _ rfl (aU hl) bd h.tl)
  ·simp only [if_neg hs3] at hn hm he
   refine aa.ef (by omega) ?_
   (with_reducible repeat first|refine Nw.mk h fun b w h=> ?_|refine ao.mk h fun w h=> ?_|refine Ld.q h hL rfl rfl ?_|refine ad.q (fun _ h=>h) hL rfl rfl ?_|refine Ld.p h hL ?_|refine ad.p (fun _ h=>h) hL ?_|refine Ld.qw h hL rfl ?_|refine ad.qw (fun _ h=>h) hL rfl ?_|refine ⟨h.hb,?_⟩|(refine St.q h hL rfl rfl rfl fun w h=> ?_;dsimp only [ah,ae] at h)|refine aa.yes ?_|refine aa.no ?_|refine ⟨by first|omega|decide,?_⟩)
   by_cases hrl:run=left
   ·rw [if_pos hrl] at hn
    refine aa.et (by omega) ?_
    (with_reducible repeat first|refine Nw.mk h fun b w h=> ?_|refine ao.mk h fun w h=> ?_|refine Ld.q h hL rfl rfl ?_|refine ad.q (fun _ h=>h) hL rfl rfl ?_|refine Ld.p h hL ?_|refine ad.p (fun _ h=>h) hL ?_|refine Ld.qw h hL rfl ?_|refine ad.qw (fun _ h=>h) hL rfl ?_|refine ⟨h.hb,?_⟩|(refine St.q h hL rfl rfl rfl fun w h=> ?_;dsimp only [ah,ae] at h)|refine aa.yes ?_|refine aa.no ?_|refine ⟨by first|omega|decide,?_⟩)
    refine aw.q h hz (aU hl) bd fun w h=> ?_
    (with_reducible repeat first|refine Nw.mk h fun b w h=> ?_|refine ao.mk h fun w h=> ?_|refine Ld.q h hL rfl rfl ?_|refine ad.q (fun _ h=>h) hL rfl rfl ?_|refine Ld.p h hL ?_|refine ad.p (fun _ h=>h) hL ?_|refine Ld.qw h hL rfl ?_|refine ad.qw (fun _ h=>h) hL rfl ?_|refine ⟨h.hb,?_⟩|(refine St.q h hL rfl rfl rfl fun w h=> ?_;dsimp only [ah,ae] at h)|refine aa.yes ?_|refine aa.no ?_|refine ⟨by first|omega|decide,?_⟩)
    exact hn _ _ _ rfl (aU hl) bd h.tl
   ·rw [if_neg hrl] at hm
    refine aa.ef (by omega) ?_
    (with_reducible repeat first|refine Nw.mk h fun b w h=> ?_|refine ao.mk h fun w h=> ?_|refine Ld.q h hL rfl rfl ?_|refine ad.q (fun _ h=>h) hL rfl rfl ?_|refine Ld.p h hL ?_|refine ad.p (fun _ h=>h) hL ?_|refine Ld.qw h hL rfl ?_|refine ad.qw (fun _ h=>h) hL rfl ?_|refine ⟨h.hb,?_⟩|(refine St.q h hL rfl rfl rfl fun w h=> ?_;dsimp only [ah,ae] at h)|refine aa.yes ?_|refine aa.no ?_|refine ⟨by first|omega|decide,?_⟩)
    rw [ag (by omega),show (s:Int) - 1=((s - 1:Nat):Int) by omega]
    refine Ca h hl (by omega) fun w h=> ?_
    have hml:(bu L (s - 1)).length=256:=by rw [EH (by omega)];exact hl
    have hM:(⟨bj (bu L (s - 1))⟩:Array Value).size=256:=by simp [hml]
    refine Nw.mk h fun b47 w h=> ?_
    refine aw.q h (by simp) hM cP fun w h=> ?_
    (with_reducible repeat first|refine Nw.mk h fun b w h=> ?_|refine ao.mk h fun w h=> ?_|refine Ld.q h hL rfl rfl ?_|refine ad.q (fun _ h=>h) hL rfl rfl ?_|refine Ld.p h hL ?_|refine ad.p (fun _ h=>h) hL ?_|refine Ld.qw h hL rfl ?_|refine ad.qw (fun _ h=>h) hL rfl ?_|refine ⟨h.hb,?_⟩|(refine St.q h hL rfl rfl rfl fun w h=> ?_;dsimp only [ah,ae] at h)|refine aa.yes ?_|refine aa.no ?_|refine ⟨by first|omega|decide,?_⟩)
    refine Bg h hl (by omega) fun sl w h=> ?_
    refine Nw.mk h fun b53 w h=> ?_
    have hsl:=(h.at 1).aH
    simp only [List.length_map,List.length_replicate,Nat.mul_one] at hsl
    refine aN (ys:= [vB (L.getD (s - 1) 0)]) (n:=1) EU (by decide) (.inl ⟨5,by kernel_rfl⟩) (h.at 1) (.inl ⟨some ⟨b53,0,none⟩,1,1,rfl,rfl,h.al (ab.aC rfl rfl)⟩) rfl (fun y hy=>by simp at hy;subst hy;rfl) (by omega) (by omega) fun s' w h hs'=> ?_
    refine Ld.xw h hM ?_
    (with_reducible repeat first|refine Nw.mk h fun b w h=> ?_|refine ao.mk h fun w h=> ?_|refine Ld.q h hL rfl rfl ?_|refine ad.q (fun _ h=>h) hL rfl rfl ?_|refine Ld.p h hL ?_|refine ad.p (fun _ h=>h) hL ?_|refine Ld.qw h hL rfl ?_|refine ad.qw (fun _ h=>h) hL rfl ?_|refine ⟨h.hb,?_⟩|(refine St.q h hL rfl rfl rfl fun w h=> ?_;dsimp only [ah,ae] at h)|refine aa.yes ?_|refine aa.no ?_|refine ⟨by first|omega|decide,?_⟩)
    rw [hs',ag (by omega),show (left:Int) - ((sl.len+1:Nat):Int)=((left - (run+1):Nat):Int) by omega]
    refine cO.KL hml ?_
    refine aw.q h hz (aU hml) bd fun w h=> ?_
    refine Ld.xw h (aU hml) ?_
    refine hm ⟨bu L (s - 1),left - (run+1),0,0⟩ _ _ _ rfl ?_
    have e:(List.replicate run (L.getD 0 0)).map vB++ [vB (L.getD (s - 1) 0)]=(List.replicate run (L.getD 0 0)++ [L.getD (s - 1) 0]).map vB:=by simp
    rw [e] at h
    exact (((h.no 1).no 1).no 1).no 1
theorem Gh {d:DS} {s:Nat} {K:Array Value→Sl→Bool→Int→World→Prop} (h:Hp E w F) (hd:ko d) (hs:s<258)
  (hn: ∀o w',cG d s=none→o.size=260→o.toList.all ay=true→Hp E w' F→K o ⟨none,0,0⟩ false 160 w')
  (hm: ∀d' t sl w',cG d s=some (d',t,false)→Hp E w' (ak 1 sl (t.map vB)::F)→K (gU d'.L (d'.left:Int) (d'.run:Int) (d'.digits:Int) false) sl false 0 w')
  (he: ∀d' t sl w',cG d s=some (d',t,true)→Hp E w' (ak 1 sl (t.map vB)::F)→K (gU d.L 0 0 0 true) sl true 0 w'):
  Cl Tryz.prog [.arr 260,kS,kB,kI] lp ⟨[.agg (gU d.L (d.left:Int) (d.run:Int) (d.digits:Int) false),.int .i64 (s:Int)]⟩ w K:=by
 have hl:=hd.1.len
 have hL:=fN hl
 have hz:(⟨List.replicate 256 (.int .u8 0)++ [.int .i64 0,.int .i64 0,.int .i64 0,.bool false]⟩:Array Value).size=260:=by simp
 refine AP.ok _ _ _ _ ?_
 (try simp only [ax,au,aq,Nat.zero_add,Nat.add_zero,Nat.reduceAdd,Bool.not_true,Bool.not_false,aQ,aR,Option.isNone])
 refine Nw.mk h fun b4 w h=>Nw.mk h fun b6 w h=> ?_
 (with_reducible repeat first|refine Nw.mk h fun b w h=> ?_|refine ao.mk h fun w h=> ?_|refine Ld.q h hL rfl rfl ?_|refine ad.q (fun _ h=>h) hL rfl rfl ?_|refine Ld.p h hL ?_|refine ad.p (fun _ h=>h) hL ?_|refine Ld.qw h hL rfl ?_|refine ad.qw (fun _ h=>h) hL rfl ?_|refine ⟨h.hb,?_⟩|(refine St.q h hL rfl rfl rfl fun w h=> ?_;dsimp only [ah,ae] at h)|refine aa.yes ?_|refine aa.no ?_|refine ⟨by first|omega|decide,?_⟩)
 refine ER h hd fun w h=> ?_
 (with_reducible repeat first|refine Nw.mk h fun b w h=> ?_|refine ao.mk h fun w h=> ?_|refine Ld.q h hL rfl rfl ?_|refine ad.q (fun _ h=>h) hL rfl rfl ?_|refine Ld.p h hL ?_|refine ad.p (fun _ h=>h) hL ?_|refine Ld.qw h hL rfl ?_|refine ad.qw (fun _ h=>h) hL rfl ?_|refine ⟨h.hb,?_⟩|(refine St.q h hL rfl rfl rfl fun w h=> ?_;dsimp only [ah,ae] at h)|refine aa.yes ?_|refine aa.no ?_|refine ⟨by first|omega|decide,?_⟩)
 refine Gy h hd hs (fun o sl w hq ho hos h=> ?_) (fun d' t sl w hq h=> ?_) (fun d' t sl w hq h=> ?_)
 ·refine aw.q h hz ho hos fun w h=> ?_
  (with_reducible repeat first|refine Nw.mk h fun b w h=> ?_|refine ao.mk h fun w h=> ?_|refine Ld.q h hL rfl rfl ?_|refine ad.q (fun _ h=>h) hL rfl rfl ?_|refine Ld.p h hL ?_|refine ad.p (fun _ h=>h) hL ?_|refine Ld.qw h hL rfl ?_|refine ad.qw (fun _ h=>h) hL rfl ?_|refine ⟨h.hb,?_⟩|(refine St.q h hL rfl rfl rfl fun w h=> ?_;dsimp only [ah,ae] at h)|refine aa.yes ?_|refine aa.no ?_|refine ⟨by first|omega|decide,?_⟩)
  refine aw.q h ho (aU hl) bd fun w h=> ?_
  refine Ld.xw h (aU hl) ?_
  exact hn _ _ hq (aU hl) bd h.tl
 ·have hl':=(Bh hd hs hq).1.1.len
  have hL:=fN hl'
  refine aw.q h hz (aU hl') bd fun w h=> ?_
  (with_reducible repeat first|refine Nw.mk h fun b w h=> ?_|refine ao.mk h fun w h=> ?_|refine Ld.q h hL rfl rfl ?_|refine ad.q (fun _ h=>h) hL rfl rfl ?_|refine Ld.p h hL ?_|refine ad.p (fun _ h=>h) hL ?_|refine Ld.qw h hL rfl ?_|refine ad.qw (fun _ h=>h) hL rfl ?_|refine ⟨h.hb,?_⟩|(refine St.q h hL rfl rfl rfl fun w h=> ?_;dsimp only [ah,ae] at h)|refine aa.yes ?_|refine aa.no ?_|refine ⟨by first|omega|decide,?_⟩)
  refine aw.q h (aU hl') (aU hl') bd fun w h=> ?_
  refine Ld.xw h (aU hl') ?_
  exact hm _ _ _ _ hq ((h.no 1).no 1)
 ·refine aw.q h hz (aU hl) bd fun w h=> ?_
  (with_reducible repeat first|refine Nw.mk h fun b w h=> ?_|refine ao.mk h fun w h=> ?_|refine Ld.q h hL rfl rfl ?_|refine ad.q (fun _ h=>h) hL rfl rfl ?_|refine Ld.p h hL ?_|refine ad.p (fun _ h=>h) hL ?_|refine Ld.qw h hL rfl ?_|refine ad.qw (fun _ h=>h) hL rfl ?_|refine ⟨h.hb,?_⟩|(refine St.q h hL rfl rfl rfl fun w h=> ?_;dsimp only [ah,ae] at h)|refine aa.yes ?_|refine aa.no ?_|refine ⟨by first|omega|decide,?_⟩)
  refine aw.q h (aU hl) (aU hl) bd fun w h=> ?_
  refine Ld.xw h (aU hl) ?_
  exact he _ _ _ _ hq ((h.no 1).no 1)
end
end Go.Proofs.YtcdpblipagajiaaGreat
namespace Go.Vc
open Go
theorem ar.Hl {w:World} {S:World→Prop} {sc:Sc} {s:Sl} {xs:List Value} {i:Int} {j:Nat} {K:sc.T→Prop} (hw:aA 1 s xs w) (hS: ∀w,S w→aA 1 s xs w) (hi:i=(j:Int)) (hj:j<xs.length) (x:sc.T) (hx:xs[j]? =some (sc.enc x)) (hK:K x):
  ar s i 1 fun q=>ad (.sc sc) q S K:=by
 subst hi
 have hl:=hw.1
 rw [Nat.mul_one] at hl
 obtain ⟨p,hp,_⟩:=hw.2 j hj
 refine ⟨p,hp,by omega,by omega,ad.sc x (fun w' hw'=> ?_) hK⟩
 obtain ⟨p',hp',hc⟩:=(hS w' hw').2 j hj
 rw [hp] at hp'
 cases hp'
 rw [show ((j:Int)).toNat*1=j by omega,hc,←hx,List.getElem?_eq_getElem hj]
theorem bo.KT {A B C:Type} {r:A→B→C→World→Prop} {k:(A→B→C→World→Prop)→Prop} (Q:A→B→C→World→Prop) (h1: ∀a b c w,Q a b c w→r a b c w) (h2: ∀r',(∀a b c w,Q a b c w→r' a b c w)→k r'):bo r k:=h2 r h1
end Go.Vc
namespace Go.Proofs.YtcdpblipagajiaaGreat
open Go Go.Vc Go.Srt Go.Inc Go.Sym Go.Bits Go.aj
section
variable {E w:World} {F:List HP}
set_option maxRecDepth 20000
theorem HG {s:Sl} {b:List Nat} {k:Nat} {K:Int→World→Prop} (hs:aA 1 s (b.map vB) w) (hb: ∀y∈b,y<256) (hk:k<8*b.length) (hn:b.length≤bR) (hK:K (fu b k:Int) w):
  Cl Tryz.prog [aL .u8] jm ⟨[.slice s.base s.len s.cap,.int .i64 (k:Int)]⟩ w K:=by
 refine wH.ok _ _ _ _ ?_
 have hmx:IntKind.max .i64=9223372036854775807:=rfl
 have hm8:IntKind.max .u8=255:=rfl
 rw [av] at hn
 have e1:aF .i64 (k:Int) 3=((k/8:Nat):Int):=by rw [show (3:Int)=((3:Nat):Int) from rfl,bG (by decide)]
 have e2:bl .i64 (k:Int) 7=((k % 8:Nat):Int):=by
  rw [show (7:Int)=((7:Nat):Int) from rfl,eI (by omega) (by omega),show (7:Nat)=2^3 - 1 from rfl,Nat.and_two_pow_sub_one_eq_mod]
 have hl:=hs.1
 rw [List.length_map,Nat.mul_one] at hl
 have hlt:k/8<b.length:=by omega
 rw [e1,e2,ag (by omega),show (7:Int) - ((k % 8:Nat):Int)=((7 - k % 8:Nat):Int) by omega]
 refine ⟨by decide,ar.rd hs (by omega) (by omega) fun q _ hq=> ?_⟩
 have hx:b[k/8]<256:=hb _ (List.getElem_mem hlt)
 refine Ld.sc (s:= .int .u8) (b[k/8]:Int) (by rw [hq];simp only [Int.toNat_natCast,List.getElem_map];rfl) ⟨by omega,?_⟩
 have hd:=Nat.div_le_self b[k/8] (2^(7 - k % 8))
 rw [bG (by have:IntKind.bits .u8=8:=rfl;omega),show (1:Int)=((1:Nat):Int) from rfl,eI (by omega) (by omega),Nat.and_one_is_mod]
 have:fu b k=b[k/8]/2^(7 - k % 8) % 2:=by unfold fu;rw [bT hlt]
 rw [←this];exact hK
theorem AE {b:List Nat} {k:Nat} (hk:k<8*b.length):(bb b)[k]? =some (fu b k):=by
 unfold bb bitsOf
 rw [List.getElem?_map,List.getElem?_range hk];rfl
theorem IJ {s:Sl} {b:List Nat} {K:Sl→World→Prop} (h:Hp E w F) (hs:ab F (aA 1 s (b.map vB))) (hb: ∀y∈b,y<256) (hn:b.length≤100000000) (hK: ∀s' w',Hp E w' (ak 1 s' ((ints (bb b)).map vI)::F)→K s' w'):
  Cl Tryz.prog [kS] kg ⟨[.slice s.base s.len s.cap]⟩ w K:=by
 refine zS.ok _ _ _ ?_
 have hl:=(h.al hs).1
 rw [List.length_map,Nat.mul_one] at hl
 have hal:=kC b
 rw [ag (by omega)]
 refine ⟨fun o i w=> ∃k:Nat,i=(k:Int)∧k≤8*b.length∧Hp E w (ak 1 o ((ints ((bb b).take k)).map vI)::F),fun _ i _=>8*b.length - i.toNat,⟨0,rfl,by omega,h.bJ 1⟩,?_⟩
 rintro o i w ⟨k,rfl,hk,h⟩
 refine aa.dm (fun hlt=> ?_) (fun hge=> ?_)
 ·have hlt:k<8*b.length:=by omega
  refine HG (h.drop.al hs) hb hlt (by rw [av];omega) ?_
  have hbl:fu b k<2:=zd b k
  rw [ag (x:=(fu b k:Int)) (by omega),ag (by omega)]
  refine Nw.mk h fun b10 w h=> ?_
  have hol:=(h.at 1).aH
  simp only [ints,List.length_map,Nat.mul_one,List.length_take] at hol
  refine aN (s:=o) (ys:= [vI (fu b k:Int)]) (n:=1) iY (by decide) (.inl ⟨3,by kernel_rfl⟩) (h.at 1) (.inl ⟨some ⟨b10,0,none⟩,1,1,rfl,rfl,h.al (ab.aC rfl rfl)⟩) rfl (by intro y hy;rw [List.mem_singleton] at hy;rw [hy];rfl) (by omega) (by omega) fun s3 w h _=> ?_
  refine ⟨⟨k+1,rfl,by omega,?_⟩,by first|omega|(dsimp only;omega)⟩
  rw [show (ints ((bb b).take (k+1))).map vI=(ints ((bb b).take k)).map vI++ [vI (fu b k:Int)] by rw [List.take_add_one,AE hlt];simp [ints]]
  exact h.eA
 ·have hk2:k=8*b.length:=by omega
  subst hk2
  rw [List.take_of_length_le (by omega)] at h
  exact hK _ _ h
theorem Fz {s:Sl} {bs:List Nat} {K:Bool→World→Prop} (h:Hp E w F) (hs:ab F (aA 1 s ((ints bs).map vI))) (hn:bs.length≤bR) (hK: ∀w',Hp E w' F→K (decide (1∈bs)) w'):
  Cl Tryz.prog [kB] dx ⟨[.slice s.base s.len s.cap,.int .i64 1]⟩ w K:=by
 refine mT.ok _ _ _ _ ?_
 refine o7.ok _ _ _ _ ?_
 have hl:=(h.al hs).1
 simp only [ints,List.length_map,Nat.mul_one] at hl
 rw [av] at hn
 refine ⟨fun i w=> ∃k:Nat,i=(k:Int)∧k≤bs.length∧1∉bs.take k∧Hp E w F,fun i _=>bs.length - i.toNat,⟨0,rfl,by omega,by simp,h⟩,?_⟩
 rintro i w ⟨k,rfl,hk,hno,h⟩
 refine aa.dm (fun hlt=> ?_) (fun hge=> ?_)
 ·have hlt:k<bs.length:=by omega
  refine ar.rd (h.al hs) (by omega) (by omega) fun q _ hq=> ?_
  refine Ld.sc (s:= .int .i64) (bs[k]:Int) (by rw [hq];simp [Sc.enc,vI,ints]) ?_
  refine aa.em (fun he=> ?_) (fun he=> ?_)
  ·have:decide (1∈bs)=true:=decide_eq_true (by
    have e:bs[k]=1:=by omega
    rw [←e];exact List.getElem_mem hlt)
   try dsimp only
   rw [show decide ((k:Int)≥0)=true from decide_eq_true (by omega),←this]
   exact hK w h
  ·rw [ag (by omega)]
   refine ⟨⟨k+1,rfl,by omega,?_,h⟩,by first|omega|(dsimp only;omega)⟩
   rw [List.take_add_one,List.getElem?_eq_getElem hlt]
   intro hm
   rcases List.mem_append.1 hm with hm|hm
   ·exact hno hm
   ·simp at hm;omega
 ·have hk2:k=bs.length:=by omega
  subst hk2
  rw [List.take_of_length_le (Nat.le_refl _)] at hno
  try dsimp only
  rw [show decide ((-1:Int)≥0)=false from rfl,←decide_eq_false hno]
  exact hK w h
def KZ (l:List Nat) (M:Nat) (s:CS):Prop:=oE l s.c s.n∧ko s.d∧(∀x∈s.acc,x<256)∧s.acc.length+s.d.left≤M
theorem DV {l:List Nat} {s:Sl} {bs:List Nat} {M:Nat} {K:Sl→Int→Int→World→Prop} (h:Hp E w F) (hl:l.length=258) (hok:cn l=true) (hM:1≤M) (hM2:M≤65536) (hs:ab F (aA 1 s ((ints bs).map vI))) (hb: ∀x∈bs,x≤1) (hbig:bs.length≤bR)
  (hshort: ∀s' w',run (c9 l) ⟨0,0,⟨List.range 256,M,0,0⟩,[]⟩ bs= .short s'→Hp E w' F→K ⟨none,0,0⟩ 0 50 w')
  (hbad: ∀w',run (c9 l) ⟨0,0,⟨List.range 256,M,0,0⟩,[]⟩ bs= .bad 160→Hp E w' F→K ⟨none,0,0⟩ 0 160 w')
  (hfin: ∀last r s' w',run (c9 l) ⟨0,0,⟨List.range 256,M,0,0⟩,[]⟩ bs= .fin last r→(∀x∈last,x<256)→last.length≤M→Hp E w' (ak 1 s' (last.map vB)::F)→K s' ((bs.length - r.length:Nat):Int) 0 w'):
  Cl Tryz.prog [kS,kI,kI] j5 ⟨[.int .i64 (M:Int),.agg (ai .u8 l),.slice s.base s.len s.cap]⟩ w K:=by
 refine z6.ok _ _ _ _ _ ?_
 have hlen:=(h.al hs).1
 simp only [ints,List.length_map,Nat.mul_one] at hlen
 rw [av] at hbig
 have hsz:(ai .u8 l).size=258:=by rw [aM,hl]
 have hst: ∀c n,(cW l c n).size=260:=fun c n=>bN hl
 have hz1:(⟨List.replicate 258 (.int .u8 0)++ [.int .i64 0,.int .i64 0]⟩:Array Value).size=260:=by simp
 have hz2:(⟨List.replicate 256 (.int .u8 0)++ [.int .i64 0,.int .i64 0,.int .i64 0,.bool false]⟩:Array Value).size=260:=by simp
 refine Nw.mk h fun b5 w h=>Ld.xw h hsz (Kh h hl (fun hf=>absurd hok (by rw [hf];decide)) fun _ w h=> ?_)
 refine Nw.mk h fun b11 w h=>aw.q h hz1 (hst _ _) (List.all_eq_true.2 cU) fun w h=>HK h hM hM2 fun w h=> ?_
 have hd0:ko ⟨List.range 256,M,0,0⟩:=ko.zero hM2
 refine Nw.mk h fun b16 w h=>aw.q h hz2 (aU (by simp)) bd fun w h=> ?_
 refine ⟨fun o i w=> ∃(k:Nat) (cs:CS),i=(k:Int)∧k≤bs.length∧KZ l M cs∧run (c9 l) ⟨0,0,⟨List.range 256,M,0,0⟩,[]⟩ (bs.take k)= .short cs∧
  Hp E w (ak 1 o (cs.acc.map vB)::aj b16 (.cells (gU cs.d.L (cs.d.left:Int) (cs.d.run:Int) (cs.d.digits:Int) false) 149 (0,0))::aj b11 (.cells (cW l cs.c cs.n) 145 (0,0))::F),
  fun _ i _=>bs.length - i.toNat,⟨0,_,rfl,by omega,⟨oE.zero hok,hd0,by simp,by simp⟩,rfl,(h.bJ 1).no 3⟩,?_⟩
 rintro o i w ⟨k,cs,rfl,hk,hcs,hrun,h⟩
 refine aa.dm (fun hlt=> ?_) (fun hge=> ?_)
 ·have hlt:k<bs.length:=by omega
  have hx:=hb _ (List.getElem_mem hlt)
  obtain ⟨hv,hd,ha,hal⟩:=hcs
  have hdL:=hd.1.len
  have hfs:=FR hl hv hx
  have hfst:=HU (l:=l) (c:=cs.c) (b:=cs.n) (x:=bs[k])
  have hvn:=hv.next hx
  refine bo.KT (fun a i d w=> ∃b34:Nat,a=⟨b34,0,none⟩∧i=(((dV l cs.c cs.n bs[k]).2.getD 0:Nat):Int)∧d=(dV l cs.c cs.n bs[k]).2.isSome∧
   Hp E w (aj b34 (.cells (cW l (dV l cs.c cs.n bs[k]).1.1 (dV l cs.c cs.n bs[k]).1.2) 145 (0,0))::ak 1 o (cs.acc.map vB)::aj b16 (.cells (gU cs.d.L (cs.d.left:Int) (cs.d.run:Int) (cs.d.digits:Int) false) 149 (0,0))::aj b11 (.cells (cW l cs.c cs.n) 145 (0,0))::F)) ?_ fun r' hr'=> ?_
  ·rintro a i d w ⟨b34,rfl,rfl,rfl,h⟩
   refine Ld.xw h (hst _ _) (aw.q h (hst _ _) (hst _ _) (List.all_eq_true.2 cU) fun w h=> ?_)
   rw [ag (by omega)]
   cases hsy:(dV l cs.c cs.n bs[k]).2 with
   |none=>
    rw [hsy] at hfs hfst
    rw [hfst] at h hvn
    refine aa.t rfl ⟨⟨k+1,⟨2*cs.c+bs[k],cs.n+1,cs.d,cs.acc⟩,rfl,by omega,⟨hvn,hd,ha,hal⟩,?_,h.no 0⟩,by first|omega|(dsimp only;omega)⟩
    rw [List.take_add_one,List.getElem?_eq_getElem hlt]
    show run (c9 l) _ (bs.take k++ [bs[k]])=_
    rw [bQ hrun,br (BZ hfs.symm)];rfl
   |some y=>
    rw [hsy] at hfs hfst
    rw [hfst] at h hvn
    have hy:y<258:=(xL hl hv hx hsy).1
    have hcs:=Bf (s:=cs) (x:=bs[k]) (y:=y) hfs.symm
    have hdrop:run (c9 l) ⟨0,0,⟨List.range 256,M,0,0⟩,[]⟩ bs=run (c9 l) cs (bs[k]::bs.drop (k+1)):=by
     rw [←List.drop_eq_getElem_cons hlt]
     conv=>lhs;rw [←List.take_append_drop k bs]
     exact bQ hrun _
    refine aa.f rfl (Ld.xw h (aU hdL) ?_)
    refine Gh (s:=y) h hd hy (fun e w hq ho hos h=> ?_) (fun d' t sl w hq h=> ?_) (fun d' t sl w hq h=> ?_)
    ·refine Nw.mk h fun b56 w h=>aw.q h hz2 ho hos fun w h=>aa.nt (by decide) (hbad w ?_ h.tl)
     rw [hdrop]
     exact oa (by rw [hcs,hq])
    ·obtain ⟨hd',hb',hl'⟩:=Bh hd hy hq
     have l1:=h.aH
     have l2:=(h.at 2).aH
     rw [List.length_map,Nat.mul_one] at l1 l2
     refine Nw.mk h fun b56 w h=>aw.q h hz2 (aU hd'.1.len) bd fun w h=>aa.nf rfl ?_
     have h:=h.drew (n:=w.drawn+1)
     refine ⟨bF b56 _ _ _,h.hb,ad.xw (fun _ h=>h) (aU hd'.1.len) ?_⟩
     refine aN (s:=o) (n:=sl.len) jX (by decide) (.inl ⟨5,by kernel_rfl⟩) (h.at 3) (.inl ⟨sl.base,sl.len,sl.cap,rfl,rfl,(h.at 1).al ab.own⟩) (by rw [List.length_map,l1,Nat.mul_one]) cy (by omega) (by omega) fun s3 w h _=>⟨h.hb,?_⟩
     refine aw.q (b:=b16) h (aU hdL) (aU hd'.1.len) bd fun w h=>⟨h.hb,aa.f rfl ?_⟩
     rw [←List.map_append] at h
     refine ⟨⟨k+1,⟨0,0,d',cs.acc++t⟩,rfl,by omega,⟨hvn,hd',?_,?_⟩,?_,((h.no 1).no 1).no 1⟩,by first|omega|(dsimp only;omega)⟩
     ·intro x hx
      rcases List.mem_append.1 hx with hx|hx
      ·exact ha x hx
      ·exact hb' x hx
     ·rw [List.length_append];dsimp only;omega
     ·rw [List.take_add_one,List.getElem?_eq_getElem hlt]
      show run (c9 l) _ (bs.take k++ [bs[k]])=_
      rw [bQ hrun,br (by rw [hcs,hq])];rfl
    ·obtain ⟨hb',hl'⟩:=Gn hd hq
     have l1:=h.aH
     have l2:=(h.at 2).aH
     rw [List.length_map,Nat.mul_one] at l1 l2
     refine Nw.mk h fun b56 w h=>aw.q h hz2 (aU hdL) bd fun w h=>aa.nf rfl ?_
     have h:=h.drew (n:=w.drawn+1)
     refine ⟨bF b56 _ _ _,h.hb,ad.xw (fun _ h=>h) (aU hdL) ?_⟩
     refine aN (s:=o) (n:=sl.len) jX (by decide) (.inl ⟨5,by kernel_rfl⟩) (h.at 3) (.inl ⟨sl.base,sl.len,sl.cap,rfl,rfl,(h.at 1).al ab.own⟩) (by rw [List.length_map,l1,Nat.mul_one]) cy (by omega) (by omega) fun s3 w h _=>⟨h.hb,?_⟩
     refine aw.q (b:=b16) h (aU hdL) (aU hdL) bd fun w h=>⟨h.hb,aa.t rfl ?_⟩
     rw [←List.map_append] at h
     have hr:=hfin (cs.acc++t) (bs.drop (k+1)) s3 w (by rw [hdrop];exact fL (by rw [hcs,hq])) (fun x hx=>by
      rcases List.mem_append.1 hx with hx|hx
      ·exact ha x hx
      ·exact hb' x hx) (by rw [List.length_append];omega) h.eA
     rw [List.length_drop,show bs.length - (bs.length - (k+1))=k+1 by omega] at hr
     exact hr
  ·have h:=h.drew (n:=w.drawn+1)
   refine ⟨fun w=>bF b11 (cW l cs.c cs.n) 145 (0,0) w∧aA 1 s ((ints bs).map vI) w,⟨h.hb,(h.tl:Hp E _ F).al hs⟩,ad.xw (fun _ h=>h.1) (hst _ _) ?_⟩
   refine ar.Hl (sc:= .int .i64) ((h.tl:Hp E _ F).al hs) (fun _ h=>h.2) rfl (by simp [ints];exact hlt) (bs[k]:Int) (by simp [Sc.enc,vI,ints,hlt]) ⟨?_,?_⟩
   ·refine Eo h hl hv hx fun w h=>⟨⟨h.hb,(h.tl:Hp E w F).al hs⟩,?_⟩
    refine Nw.mk h fun b34 w h=>⟨⟨h.hb,(h.tl:Hp E w F).al hs⟩,?_⟩
    refine aw.q h hz1 (hst _ _) (List.all_eq_true.2 cU) fun w h=>⟨⟨h.hb,(h.tl:Hp E w F).al hs⟩,?_⟩
    exact hr' _ _ _ _ ⟨b34,rfl,rfl,rfl,h⟩
   ·refine Nw.mk h fun b34 w h=>⟨⟨h.hb,(h.tl:Hp E w F).al hs⟩,?_⟩
    refine Eo h hl hv hx fun w h=>⟨⟨h.hb,(h.tl:Hp E w F).al hs⟩,?_⟩
    refine aw.q h hz1 (hst _ _) (List.all_eq_true.2 cU) fun w h=>⟨⟨h.hb,(h.tl:Hp E w F).al hs⟩,?_⟩
    exact hr' _ _ _ _ ⟨b34,rfl,rfl,rfl,h⟩
 ·have hk2:k=bs.length:=by omega
  subst hk2
  rw [List.take_of_length_le (Nat.le_refl _)] at hrun
  exact hshort cs w hrun h.tl
end
end Go.Proofs.YtcdpblipagajiaaGreat
namespace Go.Proofs.YtcdpblipagajiaaGreat
open Go Go.Vc Go.Srt Go.Inc Go.Tab
section
variable {E w:World} {F:List HP}
theorem DD (b n:Int):(⟨List.replicate 258 (.int .u8 0)++ [.int .i64 0,.int .i64 b,.int .i64 n,.int .i64 0]⟩:Array Value)=ji (List.replicate 258 0) 0 b n 0:=by
 unfold ji wm
 rw [List.map_replicate];rfl
theorem cO.tb {b n:Int} {K:Array Value→Prop} (hK:K (ji (List.replicate 258 0) 0 b n 0)):cO Tryz.prog 141 [(2,.int .i64 b),(3,.int .i64 n)] K:=by
 refine ⟨_,(by kernel_rfl:Tryz.prog.built 141 [(2,.int .i64 b),(3,.int .i64 n)]=some ⟨List.replicate 258 (.int .u8 0)++ [.int .i64 0,.int .i64 b,.int .i64 n,.int .i64 0]⟩),?_⟩
 rw [DD];exact hK
set_option maxRecDepth 20000
theorem Kw {c x:Nat} (hx:x≤1) (hc:c<16384):jP .i64 (a8 .i64 (c:Int) 1) (x:Int)=((2*c+x:Nat):Int):=EF hx hc
theorem cc {l:List Nat} {s b n wy:Int}:(ji l s b n wy).toList.all ay=true:=by
 unfold ji wm
 rw [List.all_append,List.all_map]
 rw [Bool.and_eq_true]
 exact ⟨List.all_eq_true.2 fun _ _=>rfl,rfl⟩
theorem bz {l:List Nat} {s b n wy:Int} (hl:l.length=258):(ji l s b n wy).size=262:=by simp [hl]
theorem HF {l:List Nat} {i x:Nat}:(wm l).set i (.int .u8 (x:Int))=wm (l.set i x):=by
 unfold wm
 rw [List.map_set]
def K8 (t:TS) (x:Nat) (E:World) (F:List HP) (K:Array Value→Bool→World→Prop):Prop:=
 (∀t' w',bg cn t x= .more t'→Hp E w' F→K (ji (pad t'.l) (t'.l.length:Int) (t'.bits:Int) (t'.now:Int) (t'.way:Int)) true w')∧
 (∀l n w',bg cn t x= .fin l→Hp E w' F→K (ji l 258 4 n 0) true w')∧
 (∀o w',bg cn t x= .bad 100→o.size=262→o.toList.all ay=true→Hp E w' F→K o false w')
theorem HW {t:TS} {x:Nat} {K:Array Value→Bool→World→Prop} (h:Hp E w F) (ht:ki t) (hx:x≤1) (hK:K8 t x E F K):
  Cl Tryz.prog [.arr 262,kB] gz ⟨[.agg (ji (pad t.l) (t.l.length:Int) (t.bits:Int) (t.now:Int) (t.way:Int)),.int .i64 (x:Int)]⟩ w K:=by
 obtain ⟨k1,k2,k3⟩:=hK
 obtain ⟨l,bits,now,way⟩:=t
 unfold ki at ht
 unfold bg at k1 k2 k3
 dsimp only at ht k1 k2 k3⊢
 have hl:l.length≤258:=by
  rcases ht with ⟨_,h,_⟩|⟨_,h,_⟩
  ·rw [h];simp
  ·omega
 have hL:=od (cM hl)
 have hz:((⟨List.replicate 258 (.int .u8 0)++ [.int .i64 0,.int .i64 0,.int .i64 0,.int .i64 0]⟩:Array Value)).size=262:=by simp
 refine si.ok _ _ _ _ ?_
 (try simp only [ax,au,aq,Nat.zero_add,Nat.add_zero,Nat.reduceAdd,Bool.not_true,Bool.not_false,aQ,aR,Option.isNone])
 refine Nw.mk h fun b4 w h=>Nw.mk h fun b6 w h=> ?_
 have out: ∀{w:World} {l':List Nat} {s b n wy:Int} {K':World→Array Value→Prop},l'.length=258→
   Hp E w (aj b6 (.cells ⟨List.replicate 258 (.int .u8 0)++ [.int .i64 0,.int .i64 0,.int .i64 0,.int .i64 0]⟩ 141 (0,0))::aj b4 (.cells (ji l' s b n wy) 141 (0,0))::F)→
   (∀w',Hp E w' F→K' w' (ji l' s b n wy))→
   aw 262 ⟨b6,0,none⟩ (ji l' s b n wy) w fun w1=>Ld (.arr 262) ⟨b6,0,none⟩ w1 fun r=>K' w1 r:=by
  intro w l' s b n wy K' hl' h hk
  refine aw.q h hz (bz hl') cc fun w h=> ?_
  exact Ld.xw h (bz hl') (hk _ h.tl)
 rcases ht with ⟨h1,h2,h3,h4⟩|⟨h1,h2,h3,h4,h5⟩
 ·subst h2 h4
  simp only [if_pos h1] at k1 k2 k3
  have hnow:now<16384:=by
   have:2^bits≤2^3:=Nat.pow_le_pow_right (by decide) (by omega)
   omega
  (with_reducible repeat first|refine Nw.mk h fun b w h=> ?_|refine ao.mk h fun w h=> ?_|refine Ld.q h hL rfl rfl ?_|refine ad.q (fun _ h=>h) hL rfl rfl ?_|refine Ld.p h hL ?_|refine ad.p (fun _ h=>h) hL ?_|refine Ld.qw h hL rfl ?_|refine ad.qw (fun _ h=>h) hL rfl ?_|refine ⟨h.hb,?_⟩|(refine St.q h hL rfl rfl rfl fun w h=> ?_;dsimp only [ah,ae] at h)|refine aa.yes ?_|refine aa.no ?_|refine ⟨by first|omega|decide,?_⟩)
  rw [Kw hx hnow,ag (by omega)] at h⊢
  exact out (K':=fun w x=>K x true w) (cM hl) h fun w h=>k1 _ _ rfl h
 ·simp only [if_neg (show¬bits<4 by omega)] at k1 k2 k3
  (with_reducible repeat first|refine Nw.mk h fun b w h=> ?_|refine ao.mk h fun w h=> ?_|refine Ld.q h hL rfl rfl ?_|refine ad.q (fun _ h=>h) hL rfl rfl ?_|refine Ld.p h hL ?_|refine ad.p (fun _ h=>h) hL ?_|refine Ld.qw h hL rfl ?_|refine ad.qw (fun _ h=>h) hL rfl ?_|refine ⟨h.hb,?_⟩|(refine St.q h hL rfl rfl rfl fun w h=> ?_;dsimp only [ah,ae] at h)|refine aa.yes ?_|refine aa.no ?_|refine ⟨by first|omega|decide,?_⟩)
  by_cases hb:bits=4
  ·subst hb
   simp only [if_true] at k1 k2 k3
   by_cases hx0:x=0
   ·subst hx0
    simp only [if_true] at k1 k2 k3
    (with_reducible repeat first|refine Nw.mk h fun b w h=> ?_|refine ao.mk h fun w h=> ?_|refine Ld.q h hL rfl rfl ?_|refine ad.q (fun _ h=>h) hL rfl rfl ?_|refine Ld.p h hL ?_|refine ad.p (fun _ h=>h) hL ?_|refine Ld.qw h hL rfl ?_|refine ad.qw (fun _ h=>h) hL rfl ?_|refine ⟨h.hb,?_⟩|(refine St.q h hL rfl rfl rfl fun w h=> ?_;dsimp only [ah,ae] at h)|refine aa.yes ?_|refine aa.no ?_|refine ⟨by first|omega|decide,?_⟩)
    refine ⟨by omega,by omega,?_⟩
    rw [show (((l.length:Int)).toNat*1)=l.length by omega,oY (by omega)]
    (try simp only [ax,au,aq,Nat.zero_add,Nat.add_zero,Nat.reduceAdd,Bool.not_true,Bool.not_false,aQ,aR,Option.isNone])
    refine St.g h (by omega) rfl fun w h=> ?_
    rw [HF,Ih h2] at h
    have hl2:(l++ [now]).length≤258:=by simp;omega
    have hL:=od (cM hl2)
    (with_reducible repeat first|refine Nw.mk h fun b w h=> ?_|refine ao.mk h fun w h=> ?_|refine Ld.q h hL rfl rfl ?_|refine ad.q (fun _ h=>h) hL rfl rfl ?_|refine Ld.p h hL ?_|refine ad.p (fun _ h=>h) hL ?_|refine Ld.qw h hL rfl ?_|refine ad.qw (fun _ h=>h) hL rfl ?_|refine ⟨h.hb,?_⟩|(refine St.q h hL rfl rfl rfl fun w h=> ?_;dsimp only [ah,ae] at h)|refine aa.yes ?_|refine aa.no ?_|refine ⟨by first|omega|decide,?_⟩)
    rw [ag (by omega),show (l.length:Int)+1=((l++ [now]).length:Int) by simp] at h
    have h:=h.drew (n:=w.drawn+1)
    refine ⟨bF b4 _ _ _,h.hb,?_⟩
    dsimp only
    (with_reducible repeat first|refine Nw.mk h fun b w h=> ?_|refine ao.mk h fun w h=> ?_|refine Ld.q h hL rfl rfl ?_|refine ad.q (fun _ h=>h) hL rfl rfl ?_|refine Ld.p h hL ?_|refine ad.p (fun _ h=>h) hL ?_|refine Ld.qw h hL rfl ?_|refine ad.qw (fun _ h=>h) hL rfl ?_|refine ⟨h.hb,?_⟩|(refine St.q h hL rfl rfl rfl fun w h=> ?_;dsimp only [ah,ae] at h)|refine aa.yes ?_|refine aa.no ?_|refine ⟨by first|omega|decide,?_⟩)
    by_cases hf:l.length+1<258
    ·rw [if_pos hf] at k1 k2 k3
     refine aa.dt (by simp;omega) ?_
     refine aw.q h hz (bz (cM hl2)) cc fun w h=> ?_
     (with_reducible repeat first|refine Nw.mk h fun b w h=> ?_|refine ao.mk h fun w h=> ?_|refine Ld.q h hL rfl rfl ?_|refine ad.q (fun _ h=>h) hL rfl rfl ?_|refine Ld.p h hL ?_|refine ad.p (fun _ h=>h) hL ?_|refine Ld.qw h hL rfl ?_|refine ad.qw (fun _ h=>h) hL rfl ?_|refine ⟨h.hb,?_⟩|(refine St.q h hL rfl rfl rfl fun w h=> ?_;dsimp only [ah,ae] at h)|refine aa.yes ?_|refine aa.no ?_|refine ⟨by first|omega|decide,?_⟩)
     exact k1 _ _ rfl h.tl
    ·rw [if_neg hf] at k1 k2 k3
     have hfull:(l++ [now]).length=258:=by simp;omega
     refine aa.df (by simp;omega) ?_
     (with_reducible repeat first|refine Nw.mk h fun b w h=> ?_|refine ao.mk h fun w h=> ?_|refine Ld.q h hL rfl rfl ?_|refine ad.q (fun _ h=>h) hL rfl rfl ?_|refine Ld.p h hL ?_|refine ad.p (fun _ h=>h) hL ?_|refine Ld.qw h hL rfl ?_|refine ad.qw (fun _ h=>h) hL rfl ?_|refine ⟨h.hb,?_⟩|(refine St.q h hL rfl rfl rfl fun w h=> ?_;dsimp only [ah,ae] at h)|refine aa.yes ?_|refine aa.no ?_|refine ⟨by first|omega|decide,?_⟩)
     rw [Gd hfull] at h⊢
     refine qO h hfull fun w h=> ?_
     refine ⟨h.hb,?_⟩
     refine aw.q h hz (bz hfull) cc fun w h=>⟨h.hb,?_⟩
     refine Ld.xw h (bz hfull) ?_
     by_cases hok:cn (l++ [now])=true
     ·rw [if_pos hok] at k1 k2 k3
      rw [hok]
      have:=k2 _ (now:Int) _ rfl h.tl
      rw [hfull]
      exact this
     ·rw [if_neg hok] at k1 k2 k3
      rw [show cn (l++ [now])=false by simpa using hok]
      exact k3 _ _ rfl (bz hfull) cc h.tl
   ·simp only [if_neg hx0] at k1 k2 k3
    (with_reducible repeat first|refine Nw.mk h fun b w h=> ?_|refine ao.mk h fun w h=> ?_|refine Ld.q h hL rfl rfl ?_|refine ad.q (fun _ h=>h) hL rfl rfl ?_|refine Ld.p h hL ?_|refine ad.p (fun _ h=>h) hL ?_|refine Ld.qw h hL rfl ?_|refine ad.qw (fun _ h=>h) hL rfl ?_|refine ⟨h.hb,?_⟩|(refine St.q h hL rfl rfl rfl fun w h=> ?_;dsimp only [ah,ae] at h)|refine aa.yes ?_|refine aa.no ?_|refine ⟨by first|omega|decide,?_⟩)
    exact out (K':=fun w x=>K x true w) (cM hl) h fun w h=>k1 _ _ rfl h
  ·simp only [if_neg hb] at k1 k2 k3
   have hb5:bits=5:=by omega
   subst hb5
   by_cases hx0:x=0
   ·subst hx0
    simp only [if_true] at k1 k2 k3
    (with_reducible repeat first|refine Nw.mk h fun b w h=> ?_|refine ao.mk h fun w h=> ?_|refine Ld.q h hL rfl rfl ?_|refine ad.q (fun _ h=>h) hL rfl rfl ?_|refine Ld.p h hL ?_|refine ad.p (fun _ h=>h) hL ?_|refine Ld.qw h hL rfl ?_|refine ad.qw (fun _ h=>h) hL rfl ?_|refine ⟨h.hb,?_⟩|(refine St.q h hL rfl rfl rfl fun w h=> ?_;dsimp only [ah,ae] at h)|refine aa.yes ?_|refine aa.no ?_|refine ⟨by first|omega|decide,?_⟩)
    by_cases hw:way=2
    ·subst hw
     (with_reducible repeat first|refine Nw.mk h fun b w h=> ?_|refine ao.mk h fun w h=> ?_|refine Ld.q h hL rfl rfl ?_|refine ad.q (fun _ h=>h) hL rfl rfl ?_|refine Ld.p h hL ?_|refine ad.p (fun _ h=>h) hL ?_|refine Ld.qw h hL rfl ?_|refine ad.qw (fun _ h=>h) hL rfl ?_|refine ⟨h.hb,?_⟩|(refine St.q h hL rfl rfl rfl fun w h=> ?_;dsimp only [ah,ae] at h)|refine aa.yes ?_|refine aa.no ?_|refine ⟨by first|omega|decide,?_⟩)
     exact out (K':=fun w x=>K x false w) (cM hl) h fun w h=>k3 _ _ (by simp) (bz (cM hl)) cc h
    ·(with_reducible repeat first|refine Nw.mk h fun b w h=> ?_|refine ao.mk h fun w h=> ?_|refine Ld.q h hL rfl rfl ?_|refine ad.q (fun _ h=>h) hL rfl rfl ?_|refine Ld.p h hL ?_|refine ad.p (fun _ h=>h) hL ?_|refine Ld.qw h hL rfl ?_|refine ad.qw (fun _ h=>h) hL rfl ?_|refine ⟨h.hb,?_⟩|(refine St.q h hL rfl rfl rfl fun w h=> ?_;dsimp only [ah,ae] at h)|refine aa.yes ?_|refine aa.no ?_|refine ⟨by first|omega|decide,?_⟩)
     refine out (K':=fun w x=>K x (decide ((now:Int)<15)) w) (cM hl) h fun w h=> ?_
     have ei:i64 ((now:Int)+1)=(now:Int)+1:=ag (by omega)
     try rw [ei]
     try rw [ag (x:=(now:Int) - 1) (by omega)]
     by_cases hn:now<15
     ·rw [if_pos ⟨hw,hn⟩] at k1
      exact gX (K:=fun b w=>K _ b w) (decide_eq_true (by omega)) (k1 _ _ rfl h)
     ·rw [if_neg (fun hh=>hn hh.2)] at k3
      exact gX (K:=fun b w=>K _ b w) (decide_eq_false (by omega)) (k3 _ _ rfl (bz (cM hl)) cc h)
   ·have hx1:x=1:=by omega
    subst hx1
    simp only [if_neg hx0] at k1 k2 k3
    (with_reducible repeat first|refine Nw.mk h fun b w h=> ?_|refine ao.mk h fun w h=> ?_|refine Ld.q h hL rfl rfl ?_|refine ad.q (fun _ h=>h) hL rfl rfl ?_|refine Ld.p h hL ?_|refine ad.p (fun _ h=>h) hL ?_|refine Ld.qw h hL rfl ?_|refine ad.qw (fun _ h=>h) hL rfl ?_|refine ⟨h.hb,?_⟩|(refine St.q h hL rfl rfl rfl fun w h=> ?_;dsimp only [ah,ae] at h)|refine aa.yes ?_|refine aa.no ?_|refine ⟨by first|omega|decide,?_⟩)
    by_cases hw:way=1
    ·subst hw
     (with_reducible repeat first|refine Nw.mk h fun b w h=> ?_|refine ao.mk h fun w h=> ?_|refine Ld.q h hL rfl rfl ?_|refine ad.q (fun _ h=>h) hL rfl rfl ?_|refine Ld.p h hL ?_|refine ad.p (fun _ h=>h) hL ?_|refine Ld.qw h hL rfl ?_|refine ad.qw (fun _ h=>h) hL rfl ?_|refine ⟨h.hb,?_⟩|(refine St.q h hL rfl rfl rfl fun w h=> ?_;dsimp only [ah,ae] at h)|refine aa.yes ?_|refine aa.no ?_|refine ⟨by first|omega|decide,?_⟩)
     exact out (K':=fun w x=>K x false w) (cM hl) h fun w h=>k3 _ _ (by simp) (bz (cM hl)) cc h
    ·(with_reducible repeat first|refine Nw.mk h fun b w h=> ?_|refine ao.mk h fun w h=> ?_|refine Ld.q h hL rfl rfl ?_|refine ad.q (fun _ h=>h) hL rfl rfl ?_|refine Ld.p h hL ?_|refine ad.p (fun _ h=>h) hL ?_|refine Ld.qw h hL rfl ?_|refine ad.qw (fun _ h=>h) hL rfl ?_|refine ⟨h.hb,?_⟩|(refine St.q h hL rfl rfl rfl fun w h=> ?_;dsimp only [ah,ae] at h)|refine aa.yes ?_|refine aa.no ?_|refine ⟨by first|omega|decide,?_⟩)
     refine out (K':=fun w x=>K x (decide ((now:Int)>0)) w) (cM hl) h fun w h=> ?_
     have ei:i64 ((now:Int)+1)=(now:Int)+1:=ag (by omega)
     try rw [ei]
     try rw [ag (x:=(now:Int) - 1) (by omega)]
     by_cases hn:0<now
     ·rw [if_pos ⟨hw,hn⟩] at k1
      rw [show (now:Int) - 1=((now - 1:Nat):Int) by omega]
      exact gX (K:=fun b w=>K _ b w) (decide_eq_true (by omega)) (k1 _ _ rfl h)
     ·rw [if_neg (fun hh=>hn hh.2)] at k3
      exact gX (K:=fun b w=>K _ b w) (decide_eq_false (by omega)) (k3 _ _ rfl (bz (cM hl)) cc h)
end
end Go.Proofs.YtcdpblipagajiaaGreat
namespace Go.Inc
theorem xN {α σ β ε:Type} {f:σ→α→rL σ β ε} {s s':σ} {l:List α} {k:Nat} (h:run f s (l.take k)= .short s'):run f s l=run f s' (l.drop k):=by
 conv=>lhs;rw [←List.take_append_drop k l]
 exact bQ h _
end Go.Inc
namespace Go.Proofs.YtcdpblipagajiaaGreat
open Go Go.Vc Go.Srt Go.Inc Go.Tab
section
variable {E w:World} {F:List HP}
set_option maxRecDepth 20000
abbrev sd:Array Value:=⟨List.replicate 258 (.int .u8 0)⟩
theorem Io {bs:List Nat} {s:Sl} {K:Array Value→Int→Int→World→Prop} (h:Hp E w F) (hs:ab F (aA 1 s ((ints bs).map vI))) (hb: ∀x∈bs,x≤1) (hbig:bs.length≤bR)
  (hshort: ∀s' w',run (bg cn) t0 bs= .short s'→Hp E w' F→K sd 0 50 w')
  (hbad: ∀w',run (bg cn) t0 bs= .bad 100→Hp E w' F→K sd 0 100 w')
  (hfin: ∀l r w',run (bg cn) t0 bs= .fin l r→Hp E w' F→K (ai .u8 l) ((bs.length - r.length:Nat):Int) 0 w'):
  Cl Tryz.prog [.arr 258,kI,kI] gp ⟨[.slice s.base s.len s.cap]⟩ w K:=by
 have hz:(⟨List.replicate 258 (.int .u8 0)++ [.int .i64 0,.int .i64 0,.int .i64 0,.int .i64 0]⟩:Array Value)=ji (pad t0.l) (t0.l.length:Int) (t0.bits:Int) (t0.now:Int) (t0.way:Int):=by
  rw [DD];rfl
 have hz0:sd.size=258:=by simp
 have hz1:sd.toList.all ay=true:=by decide
 refine rZ.ok _ _ _ ?_
 (try simp only [ax,au,aq,Nat.zero_add,Nat.add_zero,Nat.reduceAdd,Bool.not_true,Bool.not_false,aQ,aR,Option.isNone])
 have hlen:bs.length=s.len:=by have:=(h.al hs).1;simpa [ints] using this
 rw [av] at hbig
 refine Nw.mk h fun b3 w h=>Nw.mk h fun b5 w h=> ?_
 rw [hz] at h
 have out: ∀{w:World} {K':Array Value→World→Prop} {l:List HP},Hp E w (l++(aj b3 (.cells sd 36 (0,0))::F))→(∀w',Hp E w' F→K' sd w')→
   Ld (.arr 258) ⟨b3,0,none⟩ w fun x22=>aw 258 ⟨b3,0,none⟩ x22 w fun w_23=>Ld (.arr 258) ⟨b3,0,none⟩ w_23 fun res24=>K' res24 w_23:=by
  intro w K' l h hk
  have h:=h.pC
  refine Ld.xw h hz0 (aw.q h hz0 hz0 hz1 fun w h=>Ld.xw h hz0 (hk _ h.tl))
 refine ⟨fun i w'=> ∃(k:Nat) (t:TS),i=(k:Int)∧k≤bs.length∧ki t∧run (bg cn) t0 (bs.take k)= .short t∧
  Hp E w' (aj b5 (.cells (ji (pad t.l) (t.l.length:Int) (t.bits:Int) (t.now:Int) (t.way:Int)) 141 (0,0))::aj b3 (.cells sd 36 (0,0))::F),
  fun i _=>bs.length - i.toNat,⟨0,t0,rfl,by omega,ki.zero,rfl,h⟩,?_⟩
 rintro i w ⟨k,t,rfl,hk,ht,hrun,h⟩
 refine aa.dm (fun hlt=> ?_) (fun hge=> ?_)
 ·have hlt:k<bs.length:=by omega
  refine ar.rd (h.tl.al hs) (by omega) (by omega) fun q hi hq=> ?_
  have hx:=hb _ (List.getElem_mem hlt)
  refine Ld.sc (s:= .int .i64) (bs[k]:Int) (by rw [hq];simp [Sc.enc,vI,ints]) ⟨by decide,?_⟩
  have e1:aF .i64 (bs[k]:Int) 1=0:=by
   have:bs[k]=0∨bs[k]=1:=by omega
   rcases this with e|e<;>rw [e]<;>rfl
  rw [e1]
  refine aa.nf rfl ?_
  have htl:(pad t.l).length=258:=cM (by
   rcases ht with ⟨_,h,_⟩|⟨_,h,_⟩
   ·rw [h];simp
   ·omega)
  refine Ld.xw h (bz htl) ?_
  refine HW h ht hx ⟨fun t' w he h=> ?_,fun l n w he h=> ?_,fun o w he ho hos h=> ?_⟩
  ·have ht':=xZ ht hx he
   have hl':t'.l.length<258:=by
    rcases ht' with ⟨_,h,_⟩|⟨_,h,_⟩
    ·rw [h];simp
    ·omega
   have hp:=cM (Nat.le_of_lt hl')
   refine Nw.mk h fun b20 w h=> ?_
   refine aw.q h (by simp) (bz hp) cc fun w h=> ?_
   with_reducible refine aa.EV ?_
   refine Ld.xw h (bz hp) ?_
   refine aw.q h (bz htl) (bz hp) cc fun w h=> ?_
   have hL:=od hp
   refine Ld.q h hL rfl rfl ?_
   refine aa.ef (by omega) ?_
   rw [ag (by omega)]
   refine ⟨⟨k+1,t',rfl,by omega,ht',?_,h.no 0⟩,by first|omega|(dsimp only;omega)⟩
   rw [List.take_add_one,List.getElem?_eq_getElem hlt]
   show run (bg cn) t0 (bs.take k++ [bs[k]])=_
   rw [bQ hrun,br he];rfl
  ·have hf:=(we ht he).1
   refine Nw.mk h fun b20 w h=> ?_
   refine aw.q h (by simp) (bz hf) cc fun w h=> ?_
   with_reducible refine aa.EV ?_
   refine Ld.xw h (bz hf) ?_
   refine aw.q h (bz htl) (bz hf) cc fun w h=> ?_
   have hL:=od hf
   refine Ld.q h hL rfl rfl ?_
   refine aa.et rfl ?_
   refine Ld.p (b:=b5) h hL ?_
   have hls:(⟨wm l⟩:Array Value).size=258:=by simpa using hf
   refine aw.q h hz0 hls (List.all_eq_true.2 fe) fun w h=>Ld.xw h hls ?_
   rw [ag (by omega)]
   have hr:=hfin l (bs.drop (k+1)) w (by rw [xN hrun,List.drop_eq_getElem_cons hlt,fL he]) h.tl
   rw [List.length_drop,show bs.length - (bs.length - (k+1))=k+1 by omega] at hr
   exact hr
  ·refine Nw.mk h fun b20 w h=> ?_
   refine aw.q h (by simp) ho hos fun w h=> ?_
   with_reducible refine aa.Lh ?_
   refine out (l:= [_,_]) h fun w h=>hbad w ?_ h
   rw [xN hrun,List.drop_eq_getElem_cons hlt,oa he]
 ·have hk2:k=bs.length:=by omega
  subst hk2
  rw [List.take_of_length_le (Nat.le_refl _)] at hrun
  exact out (l:= [_]) h fun w h=>hshort t w hrun h
end
end Go.Proofs.YtcdpblipagajiaaGreat
namespace Go.aj
open Go.Inc Go.Srt Go.Sym Go.Bits Go.Tab Go.Hd Go.Crc Go.Bw Go.Proofs.YtcdpblipagajiaaGreat
theorem yy {n M P u:Nat} {r:List Nat}: ∀(b:List Nat) (s:MS),iM n s→(∀c∈b,c<256)→run (aB n) s b= .fin (.aC M P u) r→1≤M∧M≤n∧1≤P∧P≤M
 | [],s,_,_,h=>by cases h
 |c::b,s,hs,hb,h=>by
  rw [cK] at h
  cases hc:aB n s c with
  |more s'=>
   rw [hc] at h
   exact yy b s' (sg hs (hb c (by simp)) hc) (fun y hy=>hb y (by simp [hy])) h
  |fin m=>
   rw [hc] at h
   cases h
   exact Ek hs hc
  |bad e=>rw [hc] at h;cases h
theorem jq {α σ β ε:Type} {f:σ→α→rL σ β ε} {r:List α} {x:β}: ∀(b:List α) (s:σ),run f s b= .fin x r→∃a,b=a++r
 | [],s,h=>by cases h
 |c::b,s,h=>by
  rw [cK] at h
  cases hc:f s c with
  |more s'=>
   rw [hc] at h
   obtain ⟨a,e⟩:=jq b s' h
   exact ⟨c::a,by rw [e];rfl⟩
  |fin m=>
   rw [hc] at h
   cases h
   exact ⟨[c],rfl⟩
  |bad e=>rw [hc] at h;cases h
theorem yB {l r:List Nat}: ∀(b:List Nat) (t:TS),ki t→(∀c∈b,c≤1)→run (bg cn) t b= .fin l r→l.length=258∧cn l=true
 | [],s,_,_,h=>by cases h
 |c::b,s,hs,hb,h=>by
  rw [cK] at h
  cases hc:bg cn s c with
  |more s'=>
   rw [hc] at h
   exact yB b s' (xZ hs (hb c (by simp)) hc) (fun y hy=>hb y (by simp [hy])) h
  |fin m=>
   rw [hc] at h
   cases h
   exact we hs hc
  |bad e=>rw [hc] at h;cases h
theorem DP {left:List Nat} (hb: ∀x∈left,x≤1):qY left= !decide (1∈left.take (left.length % 8)):=by
 unfold qY
 rw [Bool.eq_iff_iff]
 simp only [List.all_eq_true,beq_iff_eq,Bool.not_eq_true',decide_eq_false_iff_not]
 constructor
 ·intro h hm
  have:=h 1 hm
  omega
 ·intro h x hx
  have:=hb x (List.mem_of_mem_take hx)
  have:x≠1:=fun e=>h (e▸hx)
  omega
end Go.aj
namespace Go.Proofs.YtcdpblipagajiaaGreat
open Go Go.Vc Go.Srt Go.Inc Go.Sym Go.Tab Go.Hd Go.Bw Go.Bits Go.aj Go.Crc
section
variable {E w:World} {F:List HP}
set_option maxRecDepth 20000
theorem GA {n:Int} {s:Sl} {b:List Nat} {K:Sl→Sl→Int→World→Prop} (h:Hp E w F) (hs:ab F (aA 1 s (b.map vB))) (hb: ∀y∈b,y<256) (hbig:b.length≤10000000) (hcap:s.len≤s.cap)
  (harg: ¬(1≤n∧n≤65536)→∀w',Hp E w' F→K ⟨none,0,0⟩ ⟨none,0,0⟩ 2 w')
  (herr:1≤n→n≤65536→∀e w',da n.toNat b= .error e→e≠0→Hp E w' F→K ⟨none,0,0⟩ ⟨none,0,0⟩ (e:Int) w')
  (hok:1≤n→n≤65536→∀x r s1 s2 w',da n.toNat b= .ok (x,r)→(∀y∈x,y<256)→(∀y∈r,y<256)→x.length≤65536→Hp E w' (ak 1 s1 (x.map vB)::ak 1 s2 (r.map vB)::F)→K s1 s2 0 w'):
  Cl Tryz.prog [kS,kS,kI] jU ⟨[.int .i64 n,.slice s.base s.len s.cap]⟩ w K:=by
 refine z8.ok _ _ _ _ ?_
 (try simp only [ax,au,aq,Nat.zero_add,Nat.add_zero,Nat.reduceAdd,Bool.not_true,Bool.not_false,aQ,aR,Option.isNone])
 by_cases hn: ¬(1≤n∧n≤65536)
 ·refine Ah h hn fun w h=> ?_
  (with_reducible repeat first|refine Nw.mk h fun b w h=> ?_|refine ao.mk h fun w h=> ?_|refine Ld.xb h rfl ?_|refine Ld.xt h rfl ?_|refine ad.xb (fun _ h=>h) rfl ?_|refine ad.xt (fun _ h=>h) rfl ?_|refine ⟨h.hb,?_⟩|refine af.xw h rfl rfl fun w h=> ?_|(refine af.xs h rfl rfl fun w h=> ?_;dsimp only [ah,ae] at h)|(refine St.xs h rfl rfl fun w h=> ?_;dsimp only [ah,ae] at h)|refine aa.yes ?_|refine aa.no ?_|refine ⟨by first|omega|decide,?_⟩)
  exact harg hn w h.tl
 have hn:1≤n∧n≤65536:=Decidable.not_not.1 hn
 obtain ⟨m,rfl⟩: ∃m:Nat,n=(m:Int):=⟨n.toNat,by omega⟩
 have herr:=herr hn.1 hn.2
 have hok:=hok hn.1 hn.2
 rw [Int.toNat_natCast] at herr hok
 unfold da at herr hok
 refine yX h (by omega) (by omega) hs hb (by rw [av];omega) hcap (fun s' w hr h=> ?_) (fun w hr h=> ?_) (fun M P u r s5 w hr h=> ?_) (fun u r s5 w hr h=> ?_)
 ·rw [hr] at herr
  (with_reducible repeat first|refine Nw.mk h fun b w h=> ?_|refine ao.mk h fun w h=> ?_|refine Ld.xb h rfl ?_|refine Ld.xt h rfl ?_|refine ad.xb (fun _ h=>h) rfl ?_|refine ad.xt (fun _ h=>h) rfl ?_|refine ⟨h.hb,?_⟩|refine af.xw h rfl rfl fun w h=> ?_|(refine af.xs h rfl rfl fun w h=> ?_;dsimp only [ah,ae] at h)|(refine St.xs h rfl rfl fun w h=> ?_;dsimp only [ah,ae] at h)|refine aa.yes ?_|refine aa.no ?_|refine ⟨by first|omega|decide,?_⟩)
  exact herr 50 w rfl (by decide) h.tl
 ·rw [hr] at herr
  (with_reducible repeat first|refine Nw.mk h fun b w h=> ?_|refine ao.mk h fun w h=> ?_|refine Ld.xb h rfl ?_|refine Ld.xt h rfl ?_|refine ad.xb (fun _ h=>h) rfl ?_|refine ad.xt (fun _ h=>h) rfl ?_|refine ⟨h.hb,?_⟩|refine af.xw h rfl rfl fun w h=> ?_|(refine af.xs h rfl rfl fun w h=> ?_;dsimp only [ah,ae] at h)|(refine St.xs h rfl rfl fun w h=> ?_;dsimp only [ah,ae] at h)|refine aa.yes ?_|refine aa.no ?_|refine ⟨by first|omega|decide,?_⟩)
  exact herr 242 w rfl (by decide) h.tl
 ·rw [hr] at herr hok
  dsimp only at herr hok
  have hM:=yy b dW (.inl ⟨rfl,rfl⟩) hb hr
  obtain ⟨a,hsuf⟩:=jq b dW hr
  have hrb: ∀y∈r,y<256:=fun y hy=>hb y (by rw [hsuf];exact List.mem_append.2 (.inr hy))
  have hrl:r.length≤b.length:=by rw [hsuf,List.length_append];omega
  have hl5:=h.aH
  have hc5:=h.dM
  rw [List.length_map,Nat.mul_one] at hl5
  (with_reducible repeat first|refine Nw.mk h fun b w h=> ?_|refine ao.mk h fun w h=> ?_|refine Ld.xb h rfl ?_|refine Ld.xt h rfl ?_|refine ad.xb (fun _ h=>h) rfl ?_|refine ad.xt (fun _ h=>h) rfl ?_|refine ⟨h.hb,?_⟩|refine af.xw h rfl rfl fun w h=> ?_|(refine af.xs h rfl rfl fun w h=> ?_;dsimp only [ah,ae] at h)|(refine St.xs h rfl rfl fun w h=> ?_;dsimp only [ah,ae] at h)|refine aa.yes ?_|refine aa.no ?_|refine ⟨by first|omega|decide,?_⟩)
  refine IJ h (ab.at 1 ab.own) hrb (by omega) fun s12 w h=> ?_
  have hal:=kC r
  have hab: ∀x∈bb r,x≤1:=fun x hx=>by have:=AB r (8*r.length) x hx;omega
  have hl12:=h.aH
  have hc12:=h.dM
  simp only [ints,List.length_map,Nat.mul_one] at hl12
  unfold uQ at herr hok
  refine Io h ab.own hab (by rw [av];omega) (fun t w hq h=> ?_) (fun w hq h=> ?_) (fun l more w hq h=> ?_)
  ·rw [hq] at herr
   refine Nw.mk h fun b18 w h=>aw.q h (by simp) (by simp) (by decide) fun w h=>aa.nt (by decide) (herr 50 w rfl (by decide) h.tl)
  ·rw [hq] at herr
   refine Nw.mk h fun b18 w h=>aw.q h (by simp) (by simp) (by decide) fun w h=>aa.nt (by decide) (herr 100 w rfl (by decide) h.tl)
  ·rw [hq] at herr hok
   dsimp only at herr hok
   obtain ⟨hl,hokT⟩:=yB _ t0 ki.zero hab hq
   obtain ⟨a2,hsuf2⟩:=jq _ t0 hq
   have hls:(ai .u8 l).size=258:=by rw [aM,hl]
   have hlc:(ai .u8 l).toList.all ay=true:=List.all_eq_true.2 fe
   have hmore:more=(bb r).drop ((bb r).length - more.length):=by
    conv=>rhs;rw [hsuf2]
    rw [List.length_append,show a2.length+more.length - more.length=a2.length by omega,List.drop_left]
   have hml:more.length≤(bb r).length:=by rw [hsuf2,List.length_append];omega
   refine Nw.mk h fun b18 w h=>aw.q h (by simp) hls hlc fun w h=>aa.nf rfl (ao.mk h fun w h=> ?_)
   refine Ld.xb (x:=(M:Int)) h rfl (Ld.xw h hls ?_)
   have e12: ∀k:Nat,(((ints (bb r)).map vI).drop k)=(ints ((bb r).drop k)).map vI:=fun k=>by simp [ints]
   refine aZ.rd ((h.at 1).al ab.own) (by omega) (by omega) (by omega) (by omega) (by omega) fun s32 hs32 hl32=> ?_
   simp only [Int.toNat_natCast] at hs32 hl32
   rw [e12,←hmore,List.take_of_length_le (by simp [ints];omega)] at hs32
   have hmb: ∀x∈more,x≤1:=fun x hx=>hab x (by rw [hsuf2];exact List.mem_append.2 (.inr hx))
   refine DV h hl hokT (by omega) (by omega) ((ab.at 1 ab.own).imp fun w hw=>hs32 w hw) hmb (by rw [av];omega) (fun t w hq2 h=> ?_) (fun w hq2 h=> ?_) (fun last left s34 w hq2 hlb hll h=> ?_)
   ·rw [hq2] at herr
    exact aa.nt (by decide) (herr 50 w rfl (by decide) h.tl)
   ·rw [hq2] at herr
    exact aa.nt (by decide) (herr 160 w rfl (by decide) h.tl)
   ·rw [hq2] at herr hok
    dsimp only at herr hok
    obtain ⟨a3,hsuf3⟩:=jq _ _ hq2
    have hleft:left=(bb r).drop ((bb r).length - left.length):=by
     conv=>rhs;rw [hsuf2,hsuf3]
     rw [←List.append_assoc,List.length_append,show (a2++a3).length+left.length - left.length=(a2++a3).length by omega,List.drop_left]
    have hll2:left.length≤more.length:=by rw [hsuf3,List.length_append];omega
    have hlb1: ∀x∈left,x≤1:=fun x hx=>hmb x (by rw [hsuf3];exact List.mem_append.2 (.inr hx))
    have hpad:=DP hlb1
    obtain ⟨p,hp⟩: ∃p,p=(bb r).length - left.length:=⟨_,rfl⟩
    have e1:(((bb r).length - more.length:Nat):Int)+((more.length - left.length:Nat):Int)=(p:Int):=by omega
    have hmx:IntKind.max .i64=9223372036854775807:=rfl
    have e2:aF .i64 ((p:Int)+7) 3=(((p+7)/8:Nat):Int):=by
     rw [show (p:Int)+7=((p+7:Nat):Int) by omega,show (3:Int)=((3:Nat):Int) from rfl,bG (by decide)]
    have e3:a8 .i64 (((p+7)/8:Nat):Int) 3=((8*((p+7)/8):Nat):Int):=by
     have:=dJ (k:= .i64) (a:=(p+7)/8) (b:=3) (by decide) (by rw [hmx];omega)
     rw [show (3:Int)=((3:Nat):Int) from rfl,this]
     congr 1;omega
    rw [e1,ag (x:=(p:Int)) (by omega),ag (x:=(p:Int)+7) (by omega),e2,e3]
    refine aa.nf rfl ⟨by decide,by decide,?_⟩
    refine aZ.rd ((h.at 2).al ab.own) (by omega) (by omega) (by omega) (by omega) (by omega) fun s37 hs37 hl37=> ?_
    simp only [Int.toNat_natCast] at hs37 hl37
    rw [e12,hp,←hleft,←hp,show 8*((p+7)/8) - p=left.length % 8 by omega] at hs37
    rw [show (((ints left).map vI).take (left.length % 8))=(ints (left.take (left.length % 8))).map vI by simp [ints]] at hs37
    refine Fz h ((ab.at 2 ab.own).imp fun w hw=>hs37 w hw) (by rw [List.length_take,av];omega) fun w h=> ?_
    by_cases hpo:1∈left.take (left.length % 8)
    ·rw [hpad,decide_eq_true hpo] at herr
     rw [decide_eq_true hpo]
     exact aa.t rfl (herr 160 w rfl (by decide) h.tl)
    ·rw [hpad,decide_eq_false hpo] at herr hok
     rw [decide_eq_false hpo]
     refine aa.f rfl (Ld.xb (x:=(P:Int)) h rfl ?_)
     unfold my at herr hok
     simp only [Bool.not_false,if_true] at herr hok
     refine FM h ab.own hlb (by omega) (fun ho s42 w h=> ?_) (fun ho w h=> ?_)
     ·have ho:okB last P:=by simpa [E1] using ho
      rw [if_pos ho] at herr hok
      refine aa.nf rfl ?_
      have htl:=ql last P
      have htb: ∀y∈eT last P,y<256:=fun y hy=>by
       unfold eT at hy
       simp only [List.mem_reverse,List.mem_map,List.mem_range] at hy
       obtain ⟨k,_,rfl⟩:=hy
       rw [List.getD_eq_getElem?_getD]
       cases hg:last[bS P (wk last P k)]? with
       |none=>decide
       |some z=>exact hlb z (List.mem_of_getElem? hg)
      refine vu h ab.own (by rw [Int.toNat_natCast,htl,av];omega) fun s45 w h=> ?_
      rw [Int.toNat_natCast] at h
      have hl45:=h.aH
      rw [List.length_map,Nat.mul_one,List.length_reverse] at hl45
      have h:=h.drew (n:=w.drawn+1)
      refine ⟨bF b _ _ _,h.hb,?_⟩
      refine ad.xb (x:=(u:Int)) (fun _ h=>h) rfl (Nw.mk h fun b58 w h=>⟨h.hb,?_⟩)
      refine xg (s:=⟨some ⟨b58,0,none⟩,1,1⟩) (cs:= [s45]) (bs:= [(eT last P).reverse]) h (ab.aC rfl rfl) rfl (by rw [av];simp) (fun i hi=> ?_) (fun z hz y hy=> ?_) (fun z hz=> ?_) fun w h=>⟨h.hb,?_⟩
      ·match i,hi with
       |0,_=>exact ab.cons ab.own
      ·rw [List.mem_singleton] at hz
       rw [hz] at hy
       exact htb y (List.mem_reverse.1 hy)
      ·rw [List.mem_singleton] at hz
       rw [hz,List.length_reverse,htl,av];omega
      rw [show [(eT last P).reverse].flatten=(eT last P).reverse by simp]
      by_cases hc:fg (eT last P).reverse=u
      ·rw [if_pos hc] at hok
       refine aa.nf (by omega) ?_
       have hrd:(r.map vB).drop ((p+7)/8)=(r.drop ((p+7)/8)).map vB:=by rw [List.map_drop]
       refine aZ.rd ((h.at 7).al ab.own) (by omega) (by omega) (by omega) (by omega) (by omega) fun s61 hs61 hl61=> ?_
       simp only [Int.toNat_natCast] at hs61 hl61
       rw [hrd,List.take_of_length_le (by simp;omega)] at hs61
       refine rb h ((ab.at 7 ab.own).imp fun w hw=>hs61 w hw) (by rw [List.length_drop,av];omega) fun s63 w h=> ?_
       have e9:r.length - left.length/8=(p+7)/8:=by omega
       refine hok (eT last P).reverse (r.drop ((p+7)/8)) s45 s63 w (by rw [e9]) (fun y hy=>htb y (List.mem_reverse.1 hy)) (fun y hy=>hrb y (List.mem_of_mem_drop hy)) (by rw [List.length_reverse,htl];omega) ?_
       exact ((h.no 1).p1).KC
      ·rw [if_neg hc] at herr
       exact aa.nt (by omega) (herr 250 w rfl (by decide) h.tl)
     ·have ho: ¬okB last P:=by simpa [E1] using ho
      rw [if_neg ho] at herr
      exact aa.nt (by decide) (herr 170 w rfl (by decide) h.tl)
 ·rw [hr] at herr
  (with_reducible repeat first|refine Nw.mk h fun b w h=> ?_|refine ao.mk h fun w h=> ?_|refine Ld.xb h rfl ?_|refine Ld.xt h rfl ?_|refine ad.xb (fun _ h=>h) rfl ?_|refine ad.xt (fun _ h=>h) rfl ?_|refine ⟨h.hb,?_⟩|refine af.xw h rfl rfl fun w h=> ?_|(refine af.xs h rfl rfl fun w h=> ?_;dsimp only [ah,ae] at h)|(refine St.xs h rfl rfl fun w h=> ?_;dsimp only [ah,ae] at h)|refine aa.yes ?_|refine aa.no ?_|refine ⟨by first|omega|decide,?_⟩)
  exact herr 242 w rfl (by decide) h.tl
end
end Go.Proofs.YtcdpblipagajiaaGreat
set_option maxRecDepth 20000
namespace Go.Proofs.YtcdpblipagajiaaGreat
open Go Go.Vc
section
variable {E w:World} {F:List HP}
theorem Dq {s1 s2:Sl} {a b:List Nat} {K:Bool→World→Prop} (h1:aA 1 s1 (a.map vB) w) (h2:aA 1 s2 (b.map vB) w) (ha: ∀x∈a,x<256) (hb: ∀x∈b,x<256) (hK:K (a==b) w):
  Cl Tryz.prog [kB] k8 ⟨[.slice s1.base s1.len s1.cap,.slice s2.base s2.len s2.cap]⟩ w K:=by
 refine Az.ok _ _ _ _ ?_
 refine qx (e:=5) (by kernel_rfl) (by kernel_rfl) (by kernel_rfl) h1 ?_
 refine qx (e:=5) (by kernel_rfl) (by kernel_rfl) (by kernel_rfl) h2 ?_
 rw [GG ha hb]
 exact hK
end
end Go.Proofs.YtcdpblipagajiaaGreat
namespace Go.Proofs.YtcdpblipagajiaaGreat
open Go Go.Vc Go.Srt Go.Inc Go.Sym Go.Tab Go.Hd Go.Bw Go.Bits Go.aj Go.Crc Go.Stm
theorem yh {n:Nat} {r:List Nat}: ∀(b:List Nat) (s:HS),uo s→(∀c∈b,c<256)→run bE s b= .fin n r→1≤n∧n≤65536
 | [],s,_,_,h=>by cases h
 |c::b,s,hs,hb,h=>by
  rw [cK] at h
  cases hc:bE s c with
  |more s'=>
   rw [hc] at h
   exact yh b s' (yH hs (hb c (by simp)) hc) (fun y hy=>hb y (by simp [hy])) h
  |fin m=>
   rw [hc] at h
   cases h
   unfold bE at hc
   split at hc
   ·split at hc<;>cases hc
   ·split at hc
    ·cases hc
    ·rename_i hg
     cases hc
     have:=gI (hb c (by simp)) hg
     omega
    ·cases hc
  |bad e=>rw [hc] at h;cases h
theorem xl {r:Nat}: ∀(b:List Nat) (t:HS),run bE t b= .bad r→r≠0
 | [],s,h=>by cases h
 |c::b,s,h=>by
  rw [cK] at h
  cases hc:bE s c with
  |more s'=>rw [hc] at h;exact xl b s' h
  |fin m=>rw [hc] at h;cases h
  |bad e=>
   rw [hc] at h
   cases h
   unfold bE at hc
   repeat' split at hc
   all_goals first|cases hc;done|(cases hc;decide)
section
variable {E w:World} {F:List HP}
set_option maxRecDepth 20000
theorem kr {s:Sl} {c:List Nat} {K:Sl→Int→Int→World→Prop} (h:Hp E w F) (hs:ab F (aA 1 s (c.map vB))) (hb: ∀y∈c,y<256) (hbig:c.length≤10000000) (hcap:s.len≤s.cap)
  (hK: ∀s' w',(∀y∈(dD c).1.flatten,y<256)→Hp E w' (ak 1 s' ((dD c).1.flatten.map vB)::F)→K s' ((dD c).1.length:Int) ((dD c).2:Int) w'):Cl Tryz.prog [kS,kI,kI] cb ⟨[.slice s.base s.len s.cap]⟩ w K:=by
 refine Ai.ok _ _ _ ?_
 (try simp only [ax,au,aq,Nat.zero_add,Nat.add_zero,Nat.reduceAdd,Bool.not_true,Bool.not_false,aQ,aR,Option.isNone])
 refine HA h hs hb (by rw [av];omega) hcap (fun t w hr h=> ?_) (fun e w hr h=> ?_) (fun n rest s4 w hr h=> ?_)
 ·rw [po,hr] at hK
  (with_reducible repeat first|refine Nw.mk h fun b w h=> ?_|refine ao.mk h fun w h=> ?_|refine Ld.xb h rfl ?_|refine Ld.xt h rfl ?_|refine ad.xb (fun _ h=>h) rfl ?_|refine ad.xt (fun _ h=>h) rfl ?_|refine ⟨h.hb,?_⟩|refine af.xw h rfl rfl fun w h=> ?_|(refine af.xs h rfl rfl fun w h=> ?_;dsimp only [ah,ae] at h)|(refine St.xs h rfl rfl fun w h=> ?_;dsimp only [ah,ae] at h)|refine aa.yes ?_|refine aa.no ?_|refine ⟨by first|omega|decide,?_⟩)
  exact hK ⟨none,0,0⟩ w (by simp) ((h.tl:Hp E w F).bJ 1)
 ·rw [po,hr] at hK
  have he:=xl _ _ hr
  (with_reducible repeat first|refine Nw.mk h fun b w h=> ?_|refine ao.mk h fun w h=> ?_|refine Ld.xb h rfl ?_|refine Ld.xt h rfl ?_|refine ad.xb (fun _ h=>h) rfl ?_|refine ad.xt (fun _ h=>h) rfl ?_|refine ⟨h.hb,?_⟩|refine af.xw h rfl rfl fun w h=> ?_|(refine af.xs h rfl rfl fun w h=> ?_;dsimp only [ah,ae] at h)|(refine St.xs h rfl rfl fun w h=> ?_;dsimp only [ah,ae] at h)|refine aa.yes ?_|refine aa.no ?_|refine ⟨by first|omega|decide,?_⟩)
  exact hK ⟨none,0,0⟩ w (by simp) ((h.tl:Hp E w F).bJ 1)
 ·rw [po,hr] at hK
  dsimp only at hK
  have hn:=yh c ⟨0,0⟩ ⟨by decide,by simp,by decide⟩ hb hr
  obtain ⟨a,hsuf⟩:=jq c _ hr
  have hrb: ∀y∈rest,y<256:=fun y hy=>hb y (by rw [hsuf];exact List.mem_append.2 (.inr hy))
  have hrl:rest.length≤c.length:=by rw [hsuf,List.length_append];omega
  refine Nw.mk h fun b7 w h=> ?_
  (with_reducible repeat first|refine Nw.mk h fun b w h=> ?_|refine ao.mk h fun w h=> ?_|refine Ld.xb h rfl ?_|refine Ld.xt h rfl ?_|refine ad.xb (fun _ h=>h) rfl ?_|refine ad.xt (fun _ h=>h) rfl ?_|refine ⟨h.hb,?_⟩|refine af.xw h rfl rfl fun w h=> ?_|(refine af.xs h rfl rfl fun w h=> ?_;dsimp only [ah,ae] at h)|(refine St.xs h rfl rfl fun w h=> ?_;dsimp only [ah,ae] at h)|refine aa.yes ?_|refine aa.no ?_|refine ⟨by first|omega|decide,?_⟩)
  obtain ⟨R,hR⟩: ∃R,R=fW n rest []:=⟨_,rfl⟩
  rw [←hR] at hK
  refine ⟨fun x k left w=> ∃(acc:List (List Nat)) (r:List Nat),k=(acc.length:Int)∧(∀y∈r,y<256)∧acc.length+r.length≤c.length∧(∀z∈acc,z.length≤65536∧∀y∈z,y<256)∧R=fW n r acc∧
   Hp E w (ak 1 x (acc.flatten.map vB)::ak 1 left (r.map vB)::aj b7 (.cells ⟨[.int .i64 (n:Int)]⟩ 117 (0,0))::F),fun _ _ left _=>left.len,⟨[],rest,rfl,hrb,by simpa using hrl,by simp,hR,(h.p1.bJ 1)⟩,?_⟩
  rintro x k left w ⟨acc,r,rfl,hrb,hlen,hacc,hRr,h⟩
  have hfl: ∀l:List (List Nat),(∀z∈l,z.length≤65536)→l.flatten.length≤65536*l.length:=fun l=>by
   induction l with
   |nil=>intro _;simp
   |cons z l ih=>
    intro hz
    have h1:=hz z List.mem_cons_self
    have h2:=ih fun y hy=>hz y (List.mem_cons_of_mem _ hy)
    rw [List.flatten_cons,List.length_append,List.length_cons];omega
  have hfa:=hfl acc fun z hz=>(hacc z hz).1
  have hfb: ∀y∈acc.flatten,y<256:=fun y hy=>by
   obtain ⟨z,hz,hy⟩:=List.mem_flatten.1 hy
   exact (hacc z hz).2 y hy
  have hlc:=(h.at 1).dM
  have hll:=(h.at 1).aH
  have hlx:=h.aH
  rw [List.length_map,Nat.mul_one] at hll hlx
  rw [mf] at hRr
  refine Ld.xb (b:=b7) (x:=(n:Int)) h rfl ?_
  have hTl: ∀{G:List HP},ab (ak 1 x (acc.flatten.map vB)::ak 1 left (r.map vB)::G) (aA 1 left (r.map vB)):=ab.cons ab.own
  refine yX h (by omega) (by omega) hTl hrb (by rw [av];omega) hlc (fun t w hq h=> ?_) (fun w hq h=> ?_) (fun M P u r2 s5 w hq h=> ?_) (fun u r2 s5 w hq h=> ?_)
  ·rw [hq] at hRr
   dsimp only at hRr
   (with_reducible repeat first|refine Nw.mk h fun b w h=> ?_|refine ao.mk h fun w h=> ?_|refine Ld.xb h rfl ?_|refine Ld.xt h rfl ?_|refine ad.xb (fun _ h=>h) rfl ?_|refine ad.xt (fun _ h=>h) rfl ?_|refine ⟨h.hb,?_⟩|refine af.xw h rfl rfl fun w h=> ?_|(refine af.xs h rfl rfl fun w h=> ?_;dsimp only [ah,ae] at h)|(refine St.xs h rfl rfl fun w h=> ?_;dsimp only [ah,ae] at h)|refine aa.yes ?_|refine aa.no ?_|refine ⟨by first|omega|decide,?_⟩)
   rw [hRr] at hK
   exact hK x w hfb (((h.no 0).no 1).no 1)
  ·rw [hq] at hRr
   dsimp only at hRr
   (with_reducible repeat first|refine Nw.mk h fun b w h=> ?_|refine ao.mk h fun w h=> ?_|refine Ld.xb h rfl ?_|refine Ld.xt h rfl ?_|refine ad.xb (fun _ h=>h) rfl ?_|refine ad.xt (fun _ h=>h) rfl ?_|refine ⟨h.hb,?_⟩|refine af.xw h rfl rfl fun w h=> ?_|(refine af.xs h rfl rfl fun w h=> ?_;dsimp only [ah,ae] at h)|(refine St.xs h rfl rfl fun w h=> ?_;dsimp only [ah,ae] at h)|refine aa.yes ?_|refine aa.no ?_|refine ⟨by first|omega|decide,?_⟩)
   rw [hRr] at hK
   exact hK x w hfb (((h.no 0).no 1).no 1)
  ·rw [hq] at hRr
   dsimp only at hRr
   (with_reducible repeat first|refine Nw.mk h fun b w h=> ?_|refine ao.mk h fun w h=> ?_|refine Ld.xb h rfl ?_|refine Ld.xt h rfl ?_|refine ad.xb (fun _ h=>h) rfl ?_|refine ad.xt (fun _ h=>h) rfl ?_|refine ⟨h.hb,?_⟩|refine af.xw h rfl rfl fun w h=> ?_|(refine af.xs h rfl rfl fun w h=> ?_;dsimp only [ah,ae] at h)|(refine St.xs h rfl rfl fun w h=> ?_;dsimp only [ah,ae] at h)|refine aa.yes ?_|refine aa.no ?_|refine ⟨by first|omega|decide,?_⟩)
   refine GA h (ab.at 3 ab.own) hrb (by omega) hlc (fun hno=>absurd ⟨by omega,by omega⟩ hno) (fun _ _ e w hu he h=> ?_) (fun _ _ xt r3 s26 s27 w hu hxb hr3b hxl h=> ?_)
   ·rw [Int.toNat_natCast] at hu
    rw [hu] at hRr
    dsimp only at hRr
    rw [hRr] at hK
    exact aa.nt (by omega) (hK x w hfb ((((h.no 0).no 0).no 1).no 1))
   ·rw [Int.toNat_natCast] at hu
    have hless:=ky hu
    rw [hu] at hRr
    dsimp only at hRr
    have l1:=h.aH
    have l2:=(h.at 1).aH
    rw [List.length_map,Nat.mul_one] at l1 l2
    refine aa.nf rfl ?_
    refine aN (s:=x) (n:=s26.len) jX (by decide) (.inl ⟨5,by kernel_rfl⟩) (h.at 4) (.inl ⟨s26.base,s26.len,s26.cap,rfl,rfl,h.al ab.own⟩) (by rw [List.length_map,l1,Nat.mul_one]) cy (by omega) (by omega) fun s30 w h _=> ?_
    rw [ag (by omega)]
    refine ⟨⟨acc++ [xt],r3,by simp,hr3b,by rw [List.length_append,List.length_singleton];omega,?_,hRr,?_⟩,by first|omega|(dsimp only;omega)⟩
    ·intro z hz
     rcases List.mem_append.1 hz with hz|hz
     ·exact hacc z hz
     ·rw [List.mem_singleton] at hz;rw [hz];exact ⟨hxl,hxb⟩
    ·rw [←List.map_append,show acc.flatten++xt=(acc++ [xt]).flatten by simp] at h
     exact ((h.no 1).no 2|>.no 2).no 2
  ·rw [hq] at hRr
   dsimp only at hRr
   (with_reducible repeat first|refine Nw.mk h fun b w h=> ?_|refine ao.mk h fun w h=> ?_|refine Ld.xb h rfl ?_|refine Ld.xt h rfl ?_|refine ad.xb (fun _ h=>h) rfl ?_|refine ad.xt (fun _ h=>h) rfl ?_|refine ⟨h.hb,?_⟩|refine af.xw h rfl rfl fun w h=> ?_|(refine af.xs h rfl rfl fun w h=> ?_;dsimp only [ah,ae] at h)|(refine St.xs h rfl rfl fun w h=> ?_;dsimp only [ah,ae] at h)|refine aa.yes ?_|refine aa.no ?_|refine ⟨by first|omega|decide,?_⟩)
   have l2:=(h.at 1).aH
   rw [List.length_map,Nat.mul_one] at l2
   have h:=h.drew (n:=w.drawn+1)
   refine ⟨bF b _ _ _,h.hb,?_⟩
   refine ad.xb (x:=(u:Int)) (fun _ h=>h) rfl (Nw.mk h fun b43 w h=>⟨h.hb,?_⟩)
   refine xg (s:=⟨some ⟨b43,0,none⟩,1,1⟩) (cs:= [x]) (bs:= [acc.flatten]) h (ab.aC rfl rfl) rfl (by rw [av];simp) (fun i hi=> ?_) (fun z hz y hy=> ?_) (fun z hz=> ?_) fun w h=>⟨h.hb,?_⟩
   ·match i,hi with
    |0,_=>exact ab.at 3 ab.own
   ·rw [List.mem_singleton] at hz
    rw [hz] at hy
    exact hfb y hy
   ·rw [List.mem_singleton] at hz
    rw [hz,av];omega
   rw [show [acc.flatten].flatten=acc.flatten by simp]
   have h:=((((h.no 0).no 0).no 0).no 1).no 1
   by_cases hc:u=fg acc.flatten
   ·rw [if_neg (fun hh=>hh hc)] at hRr
    refine aa.nf (by omega) ?_
    by_cases hr2:r2= []
    ·rw [if_neg (fun hh=>hh hr2)] at hRr
     rw [hRr] at hK
     refine aa.df ?_ (hK x w hfb h)
     rw [hr2] at l2;simp at l2;omega
    ·rw [if_pos hr2] at hRr
     rw [hRr] at hK
     have:0<r2.length:=List.length_pos_iff.2 hr2
     exact aa.dt (by omega) (hK x w hfb h)
   ·rw [if_pos hc] at hRr
    rw [hRr] at hK
    exact aa.nt (by omega) (hK x w hfb h)
theorem yr {s s2:Sl} {c x:List Nat} {K:Bool→World→Prop} (h:Hp E w F) (hs:ab F (aA 1 s (c.map vB))) (hb: ∀y∈c,y<256) (hbig:c.length≤10000000) (hcap:s.len≤s.cap) (hs2:ab F (aA 1 s2 (x.map vB))) (hx: ∀y∈x,y<256)
  (hK: ∀w',Hp E w' F→K (decide ((dD c).2=0∧x=(dD c).1.flatten)) w'):Cl Tryz.prog [kB] gO ⟨[.slice s.base s.len s.cap,.slice s2.base s2.len s2.cap]⟩ w K:=by
 refine yI.ok _ _ _ _ ?_
 refine kr h hs hb hbig hcap fun s4 w hfb h=> ?_
 by_cases he:(dD c).2=0
 ·refine aa.et (by omega) ?_
  refine Dq (h.al hs2.cons) (h.al ab.own) hx hfb ?_
  have e:(x==(dD c).1.flatten)=decide ((dD c).2=0∧x=(dD c).1.flatten):=by
   rw [Bool.eq_iff_iff,beq_iff_eq,decide_eq_true_iff]
   exact ⟨fun h=>⟨he,h⟩,fun h=>h.2⟩
  rw [e]
  exact hK w h.drop
 ·refine aa.ef (by omega) ?_
  have:=hK w h.drop
  rw [decide_eq_false (fun hh=>he hh.1)] at this
  exact this
end
end Go.Proofs.YtcdpblipagajiaaGreat
set_option maxRecDepth 20000
namespace Go.Bw
open Go Go.Vc Go.Rk
end Go.Bw
namespace Go.Proofs.YtcdpblipagajiaaGreat
open Go Go.Vc
section
variable {w:World}
set_option maxRecDepth 200000 in
theorem qZ {s:Sl} {b:List Nat} {K:ByteArray→World→Prop} (hs:aA 1 s (b.map vB) w) (hK:K (strOf b) w):aD Tryz.prog (convert 22 9 (.slice s.base s.len s.cap)) nM w K:=
 qx (s:=s) (b:=b) (e:=5) (by kernel_rfl) (by kernel_rfl) (by kernel_rfl) hs hK
end
end Go.Proofs.YtcdpblipagajiaaGreat
set_option maxRecDepth 20000
namespace Go.Proofs.YtcdpblipagajiaaGreat
open Go Go.Vc
section
variable {E w:World} {F:List HP} {K:Sl→World→Prop} {s s2:Sl} {b x:Nat} {t:TypeId}
abbrev OB (s:Sl) (xs:List Nat):HP:=ak 1 s (xs.map vB)
abbrev KS (b x:Nat) (t:TypeId):HP:=aj b (.cells ⟨[.int .u8 (x:Int)]⟩ t (0,0))
theorem OB.len {xs:List Nat} (h:Hp E w (OB s xs::F)):xs.length=s.len:=by have:=h.aH;simpa using this
theorem KX: ∀y∈ [vB x],ay y=true:=by intro y hy;rw [List.mem_singleton] at hy;rw [hy];rfl
theorem qd {xs:List Nat} (h:aA 1 s (xs.map vB) w):xs.length=s.len:=by have:=h.1;simpa using this
theorem Kj {xs:List Nat} (h:Hp E w (KS b x t::OB s xs::F)) (hl:xs.length≤10000000000) (hK: ∀s' w',Hp E w' (OB s' (xs++ [x])::F)→K s' w'):
  aD Tryz.prog (Builtin.append_ #[22,22] 22 ⟨[.slice s.base s.len s.cap,.slice (some ⟨b,0,none⟩) 1 1]⟩) kS w K:=by
 have hol:=OB.len (h.at 1)
 refine aN (ys:= [vB x]) (n:=1) jX (by decide) (.inl ⟨5,by kernel_rfl⟩) (h.at 1) (.inl ⟨some ⟨b,0,none⟩,1,1,rfl,rfl,h.al (ab.aC rfl rfl)⟩) rfl KX (by omega) (by omega) fun s' w' h _=>hK s' w' ?_
 unfold OB
 rw [List.map_append]
 exact h.eA
theorem GI {xs ys:List Nat} (h:Hp E w (OB s xs::F)) (h2:ab F (aA 1 s2 (ys.map vB))) (hl:xs.length≤1000000000000) (hl2:ys.length≤1000000000000) (hK: ∀s' w',Hp E w' (OB s' (xs++ys)::F)→K s' w'):
  aD Tryz.prog (Builtin.append_ #[22,22] 22 ⟨[.slice s.base s.len s.cap,.slice s2.base s2.len s2.cap]⟩) kS w K:=by
 have hol:=OB.len h
 have hol2:=qd (h.drop.al h2)
 refine aN (ys:=ys.map vB) (n:=s2.len) jX (by decide) (.inl ⟨5,by kernel_rfl⟩) h (.inl ⟨s2.base,s2.len,s2.cap,rfl,rfl,h.drop.al h2⟩) (by simp [hol2]) cy (by omega) (by omega) fun s' w' h _=>hK s' w' ?_
 unfold OB
 rw [List.map_append]
 exact h
end
end Go.Proofs.YtcdpblipagajiaaGreat
namespace Go.Proofs.YtcdpblipagajiaaGreat
open Go Go.Vc
set_option maxRecDepth 100000
theorem Ch.ok (a:Sl) (R:Sl→World→Prop) w (h:
 db (⟨none,0,0⟩:Sl) 0 w fun b c (d:Sl) (e:Int) f=>
 aa (decide (e<(a.len:Int)))
 (ar a e 1 fun g=>
 Ld kS g f fun (h:Sl)=>
 aD Pg (Builtin.append_ #[22,22] 22 ⟨[(an d),(an h)]⟩) kS f fun (j:Sl) i=>
 b j (i64 (e+1)) i∧c j (i64 (e+1)) i<c d e f)
 (R d f)):Cl Pg [kS] jv ⟨[(an a)]⟩ w R:=co Tryz.f35 [(7,[(3,kS),(4,kI)])] h
end Go.Proofs.YtcdpblipagajiaaGreat
namespace Go.Proofs.YtcdpblipagajiaaGreat
open Go Go.Vc Go.Bits
section
variable {E w:World} {F:List HP}
set_option maxRecDepth 20000
theorem JQ {K:Sl→World→Prop} {s:Sl} {cs:List Sl} {bs:List (List Nat)} (h:Hp E w F)
  (hs:ab F (aA 1 s (cs.map fun x=> .slice x.base x.len x.cap))) (hl:cs.length=bs.length) (hcl:cs.length≤bR) (hc: ∀i (h:i<cs.length),ab F (aA 1 cs[i] ((bs.getD i []).map vB)))
  (hbig:bs.flatten.length≤bR)
  (hK: ∀s' w',Hp E w' (ak 1 s' (bs.flatten.map vB)::F)→K s' w'):Cl Tryz.prog [kS] jv ⟨[.slice s.base s.len s.cap]⟩ w K:=by
 refine Ch.ok _ _ _ ?_
 have hlen:s.len=cs.length:=by have:=(h.al hs).1;simpa using this.symm
 refine ⟨fun o i w'=> ∃k:Nat,i=(k:Int)∧k≤cs.length∧Hp E w' (ak 1 o ((bs.take k).flatten.map vB)::F),fun _ i _=>cs.length - i.toNat,⟨0,rfl,by omega,by simpa using h.bJ 1⟩,?_⟩
 rintro o i w' ⟨k,rfl,hk,hh⟩
 refine aa.mk (fun hlt=> ?_) (fun hge=> ?_)
 ·have hlt:k<cs.length:=by have:=of_decide_eq_true hlt;omega
  refine ar.rd (hh.drop.al hs) (by omega) (by omega) fun q hi hq=> ?_
  have hq':w'.cell? q=some (Sc.sl.enc cs[k]):=by simpa using hq
  refine Ld.sc _ hq' ?_
  have hsrc:=hh.drop.al (hc k hlt)
  have hlen2:=hsrc.1
  simp only [List.length_map,Nat.mul_one] at hlen2
  have hfl:(bs.take (k+1)).flatten=(bs.take k).flatten++bs.getD k []:=by
   rw [List.take_add_one,List.flatten_append]
   congr 1
   have:k<bs.length:=by omega
   simp [this]
  have hle:(bs.take (k+1)).flatten.length≤bs.flatten.length:=by
   have:=congrArg (fun l=>(List.flatten l).length) (List.take_append_drop (k+1) bs)
   simp only [List.flatten_append,List.length_append] at this
   omega
  rw [hfl,List.length_append] at hle
  have ho:=hh.aH
  simp only [List.length_map,Nat.mul_one] at ho
  rw [av] at hbig hcl
  refine aN (bK.of (by kernel_rfl) (by kernel_rfl):bK Tryz.prog 22 5 1 1) (by decide) (.inl ⟨5,by kernel_rfl⟩) hh (.inl ⟨_,_,_,rfl,rfl,hsrc⟩) (by simpa using hlen2) cy (by omega) (by omega) fun s2 w2 h2' hs2=> ?_
  rw [ag (by omega)]
  exact ⟨⟨k+1,rfl,by omega,by rw [hfl,List.map_append];exact h2'⟩,by dsimp only;omega⟩
 ·have hge:k=cs.length:=by have:=of_decide_eq_false hge;omega
  subst hge
  refine hK _ _ ?_
  rwa [hl,List.take_length] at hh
end
end Go.Proofs.YtcdpblipagajiaaGreat
namespace Go.Proofs.YtcdpblipagajiaaGreat
open Go Go.Vc
set_option maxRecDepth 100000
theorem AL.ok (a:Sl) (R:Bool→World→Prop) w (h:
 db 0 0 w fun b c (d:Int) (e:Int) f=>
 aa (decide (e<(a.len:Int)))
 (aa (decide (e≤20))
 (aa (decide (d≤150))
 (ar a e 1 fun g=>
 Ld kS g f fun (h:Sl)=>
 b (i64 (d+(if (200:Int)<(h.len:Int) then (200:Int) else (h.len:Int)))) (i64 (e+1)) f∧c (i64 (d+(if (200:Int)<(h.len:Int) then (200:Int) else (h.len:Int)))) (i64 (e+1)) f<c d e f)
 (aa (decide ((a.len:Int)>20))
 (R true f)
 (R (decide (d>150)) f)))
 (aa (decide ((a.len:Int)>20))
 (R true f)
 (R (decide (d>150)) f)))
 (aa (decide ((a.len:Int)>20))
 (R true f)
 (R (decide (d>150)) f))):Cl Pg [kB] k5 ⟨[(an a)]⟩ w R:=co Tryz.f33 [(7,[(3,kI),(4,kI)])] h
theorem Cr.ok (a:Int) (b:Sl) (R:Sl→World→Prop) w (h:
 db (⟨none,0,0⟩:Sl) 0 w fun c d (e:Sl) (f:Int) g=>
 aa (decide (f<(b.len:Int)))
 (db e 0 g fun h i (j:Sl) (k:Int) l=>
 ar b f 1 fun m=>
 Ld kS m l fun (n:Sl)=>
 aa (decide (k<(n.len:Int)))
 (cA l fun o p=>
 ar b f 1 fun q=>
 ad kS q o fun (r:Sl)=>
 ar b f 1 fun s=>
 ad kS s o fun (t:Sl)=>
 aZ r k (if (t.len:Int)<(i64 (k+a)) then (t.len:Int) else (i64 (k+a))) (r).cap 1 fun u=>
 Nw 22 ⟨[(an u)]⟩ p fun x v=>
 o v∧
 aD Pg (Builtin.append_ #[51,51] 51 ⟨[(an j),(an (⟨some ⟨x,0,none⟩,1,1⟩:Sl))]⟩) kS v fun (z:Sl) y=>
 o y∧
 h z (i64 (k+a)) y∧i z (i64 (k+a)) y<i j k l)
 (c j (i64 (f+1)) l∧d j (i64 (f+1)) l<d e f g))
 (R e g)):Cl Pg [kS] mF ⟨[(ni a),(an b)]⟩ w R:=co Tryz.f40 [(7,[(5,kS),(6,kI)]),(14,[(5,kS),(7,kI)])] h
end Go.Proofs.YtcdpblipagajiaaGreat
namespace Go.Vc
open Go
theorem aZ.EK {w:World} {s:Sl} {xs:List Value} {lo hi mx:Int} {K:Sl→Prop} (hs:aA 1 s xs w) (h0:0≤lo) (h1:lo≤hi) (h2:hi≤(s.len:Int)) (h3:hi≤mx) (h4:mx≤(s.cap:Int))
  (h: ∀s':Sl,(∀w',aA 1 s xs w'→aA 1 s' ((xs.drop lo.toNat).take (hi.toNat - lo.toNat)) w')→s'.len=hi.toNat - lo.toNat→s'.len≤s'.cap→K s'):aZ s lo hi mx 1 K:=by
 obtain ⟨a,b,c,d,e⟩:=aZ.rd (K:=fun s'=>s'.len≤s'.cap→K s') hs h0 h1 h2 h3 h4 fun s' a b c=>h s' a b c
 exact ⟨a,b,c,d,e (by simp only;omega)⟩
end Go.Vc
namespace Go.Stm
theorem xY: ∀l:List (List Nat),(∀x∈l,0<x.length)→l.length≤l.flatten.length
 | [],_=>by simp
 |x::l,h=>by
  have h1:=h x List.mem_cons_self
  have h2:=xY l fun y hy=>h y (List.mem_cons_of_mem _ hy)
  rw [List.length_cons,List.flatten_cons,List.length_append];omega
theorem zI {n:Nat} (hn:0<n) (l:List (List Nat)):(aY n l).length≤l.flatten.length:=by
 have:=xY (aY n l) fun x hx=>(yd hn x hx).1
 rwa [ng hn] at this
theorem kX (n:Nat) (x:List Nat) (l:List (List Nat)):aY n (x::l)=ll n x++aY n l:=by unfold aY;rw [List.flatMap_cons]
def nF (l:List (List Nat)):Nat:=(l.map fun b=>min b.length 200).sum
theorem Fm (l:List (List Nat)) (b:List Nat):nF (l++ [b])=nF l+min b.length 200:=by unfold nF;simp
theorem yV: ∀l:List (List Nat),nF l≤150→l.flatten.length≤150∧l.flatten.length=nF l
 | [],_=>by simp [nF]
 |x::l,h=>by
  have e:nF (x::l)=min x.length 200+nF l:=by unfold nF;simp
  rw [e] at h
  have ih:=yV l (by omega)
  rw [e,List.flatten_cons,List.length_append];omega
end Go.Stm
namespace Go.Proofs.YtcdpblipagajiaaGreat
open Go Go.Vc Go.Stm
section
variable {E w:World} {F:List HP}
set_option maxRecDepth 20000
theorem JE:bK Tryz.prog 51 22 1 24:=bK.of (by kernel_rfl) (by kernel_rfl)
theorem CR {s:Sl} {ps:List (Sl×List Nat)} {K:Bool→World→Prop} (hs:ch s ps w) (hK: ∀b:Bool,(b=false→ps.length≤20∧(ps.map Prod.snd).flatten.length≤150)→K b w):
  Cl Tryz.prog [kB] k5 ⟨[.slice s.base s.len s.cap]⟩ w K:=by
 refine AL.ok _ _ _ ?_
 have hlen:ps.length=s.len:=by have:=hs.tab.1;simpa using this
 refine ⟨fun n i w'=>w'=w∧∃k:Nat,i=(k:Int)∧k≤ps.length∧k≤21∧n=((nF ((ps.take k).map Prod.snd):Nat):Int)∧nF ((ps.take k).map Prod.snd)≤350,fun _ i _=>ps.length - i.toNat,⟨rfl,0,rfl,by omega,by omega,rfl,by simp [nF]⟩,?_⟩
 rintro n i w' ⟨rfl,k,rfl,hk,hk21,rfl,hg⟩
 refine aa.dm (fun hlt=> ?_) (fun hge=> ?_)
 ·have hlt:k<ps.length:=by omega
  refine aa.dm (fun h20=> ?_) (fun h20=>aa.dt (by omega) (hK true (fun hh=>by cases hh)))
  refine aa.dm (fun h150=> ?_) (fun h150=> ?_)
  ·refine ar.rd hs.tab (by omega) (by omega) fun q _ hq=> ?_
   have hT:=(hs.each _ (List.getElem_mem hlt)).1
   rw [List.length_map,Nat.mul_one] at hT
   refine Ld.sc (s:= .sl) ps[k].1 (by rw [hq];simp [Sc.enc]) ?_
   have hst:nF ((ps.take (k+1)).map Prod.snd)=nF ((ps.take k).map Prod.snd)+min ps[k].2.length 200:=by
    rw [List.take_add_one,List.getElem?_eq_getElem hlt,List.map_append]
    exact Fm _ _
   have e:(if (200:Int)<(ps[k].1.len:Int) then (200:Int) else (ps[k].1.len:Int))=((min ps[k].2.length 200:Nat):Int):=by
    split<;>omega
   rw [e,ag (by omega),ag (by omega)]
   exact ⟨⟨rfl,k+1,rfl,by omega,by omega,by rw [hst];omega,by omega⟩,by first|omega|(dsimp only;omega)⟩
  ·refine aa.dm (fun _=>hK true (fun hh=>by cases hh)) (fun h2=> ?_)
   rw [decide_eq_true (by omega)]
   exact hK true (fun hh=>by cases hh)
 ·have hk2:k=ps.length:=by omega
  subst hk2
  rw [List.take_of_length_le (Nat.le_refl _)] at hg⊢
  refine aa.dm (fun _=>hK true (fun hh=>by cases hh)) (fun h2=>hK _ fun hh=> ?_)
  have:=of_decide_eq_false hh
  exact ⟨by omega,(yV _ (by omega)).1⟩
theorem Fk {ps:List (Sl×List Nat)} (hc: ∀x∈ps,x.1.len≤x.1.cap) (h1:ps.length≤20) (h2:(ps.map Prod.snd).flatten.length≤150):jB ps where
 caps:=hc
 few:=by rw [av];omega
 small:=fun x hx=>by
  have:x.2.length≤(ps.map Prod.snd).flatten.length:=(List.sublist_flatten_of_mem (List.mem_map.2 ⟨x,hx,rfl⟩)).length_le
  rw [av];omega
theorem EO {n:Nat} {s:Sl} {ps:List (Sl×List Nat)} {K:Sl→World→Prop} (h:Hp E w F) (hs:ab F (ch s ps)) (hp:jB ps) (hn:0<n) (hn2:n≤65536) (hsm:(ps.map Prod.snd).flatten.length≤100000)
  (hK: ∀(pcs:List (Sl×List Nat)) (s':Sl) (w':World),pcs.map Prod.snd=aY n (ps.map Prod.snd)→(∀x∈pcs,x.1.len≤x.1.cap)→(∀w,ch s ps w→∀x∈pcs,aA 1 x.1 (x.2.map vB) w)→Hp E w' (ak 1 s' (pcs.map fun x=> .slice x.1.base x.1.len x.1.cap)::F)→K s' w'):
  Cl Tryz.prog [kS] mF ⟨[.int .i64 (n:Int),.slice s.base s.len s.cap]⟩ w K:=by
 refine Cr.ok _ _ _ _ ?_
 have hlen:ps.length=s.len:=by have:=(h.al hs).tab.1;simpa using this
 have hfew:=hp.few
 rw [av] at hfew
 have hcl:=zI hn (ps.map Prod.snd)
 refine ⟨fun o i w=> ∃(k:Nat) (pcs:List (Sl×List Nat)),i=(k:Int)∧k≤ps.length∧pcs.map Prod.snd++aY n ((ps.drop k).map Prod.snd)=aY n (ps.map Prod.snd)∧(∀x∈pcs,x.1.len≤x.1.cap)∧(∀w,ch s ps w→∀x∈pcs,aA 1 x.1 (x.2.map vB) w)∧
  Hp E w (ak 1 o (pcs.map fun x=> .slice x.1.base x.1.len x.1.cap)::F),fun _ i _=>ps.length - i.toNat,⟨0,[],rfl,by omega,rfl,by simp,by simp,h.bJ 1⟩,?_⟩
 rintro o i w ⟨k,pcs,rfl,hk,hcut,hcap,hT,h⟩
 refine aa.dm (fun hlt=> ?_) (fun hge=> ?_)
 ·have hlt:k<ps.length:=by omega
  have hmem:ps[k]∈ps:=List.getElem_mem hlt
  have hc:=hp.caps _ hmem
  have hs1:=hp.small _ hmem
  rw [av] at hs1
  rw [List.drop_eq_getElem_cons hlt,List.map_cons,kX] at hcut
  have hl1:ps[k].2.length=ps[k].1.len:=qd ((h.al hs.cons).each _ hmem)
  refine ⟨fun o a w=> ∃(j:Nat) (pcs:List (Sl×List Nat)),a=(j:Int)∧j≤ps[k].2.length+65536∧pcs.map Prod.snd++(ll n (ps[k].2.drop j)++aY n ((ps.drop (k+1)).map Prod.snd))=aY n (ps.map Prod.snd)∧(∀x∈pcs,x.1.len≤x.1.cap)∧(∀w,ch s ps w→∀x∈pcs,aA 1 x.1 (x.2.map vB) w)∧
   Hp E w (ak 1 o (pcs.map fun x=> .slice x.1.base x.1.len x.1.cap)::F),fun _ a _=>ps[k].1.len - a.toNat,⟨0,pcs,rfl,by omega,hcut,hcap,hT,h⟩,?_⟩
  rintro o a w ⟨j,pcs,rfl,hj,hcut,hcap,hT,h⟩
  have hPW: ∀{w:World} {A:HP},Hp E w (A::F)→ch s ps w:=fun h=>h.al hs.cons
  refine ar.rd (hPW h).tab (by omega) (by omega) fun q _ hq=> ?_
  refine Ld.sc (s:= .sl) ps[k].1 (by rw [hq];simp [Sc.enc]) ?_
  refine aa.dm (fun hlt2=> ?_) (fun hge2=> ?_)
  ·have hlt2:j<ps[k].2.length:=by omega
   have h:=h.drew (n:=w.drawn+1)
   refine ⟨ch s ps,hPW h,?_⟩
   refine ar.Hl (sc:= .sl) (hPW h).tab (fun _ h=>h.tab) rfl (by simpa using hlt) ps[k].1 (by simp [Sc.enc,hlt]) ?_
   refine ar.Hl (sc:= .sl) (hPW h).tab (fun _ h=>h.tab) rfl (by simpa using hlt) ps[k].1 (by simp [Sc.enc,hlt]) ?_
   rw [ag (x:=(j:Int)+(n:Int)) (by omega)]
   have hhi:(if (ps[k].1.len:Int)<(j:Int)+(n:Int) then (ps[k].1.len:Int) else (j:Int)+(n:Int))=((min (j+n) ps[k].1.len:Nat):Int):=by split<;>omega
   rw [hhi]
   refine aZ.EK ((hPW h).each _ hmem) (by omega) (by omega) (by omega) (by omega) (by omega) fun s' hs' hl' hsc=> ?_
   simp only [Int.toNat_natCast] at hs' hl'
   have hne:ps[k].2.drop j≠ []:=fun e=>by have:=congrArg List.length e;rw [List.length_drop] at this;simp at this;omega
   rw [gu hne hn,List.drop_drop] at hcut
   have etk:(((ps[k].2.map vB).drop j).take (min (j+n) ps[k].1.len - j))=((ps[k].2.drop j).take n).map vB:=by
    rw [←List.map_drop,←List.map_take]
    congr 1
    rcases Nat.le_total (j+n) ps[k].1.len with h1|h1
    ·rw [Nat.min_eq_left h1,show j+n - j=n by omega]
    ·rw [Nat.min_eq_right h1,List.take_of_length_le (by rw [List.length_drop];omega),List.take_of_length_le (by rw [List.length_drop];omega)]
   rw [etk] at hs'
   have hpl:=h.aH
   rw [List.length_map,Nat.mul_one] at hpl
   have hpc:pcs.length≤100000:=by
    have:=congrArg List.length hcut
    rw [List.length_append,List.length_map] at this
    omega
   refine Nw.mk h fun b23 w h=>⟨h.al hs.cons.cons,?_⟩
   refine aN (ys:= [.slice s'.base s'.len s'.cap]) (n:=1) JE (by decide) (.inl ⟨22,by kernel_rfl⟩) h.p1 (.inl ⟨some ⟨b23,0,none⟩,1,1,rfl,rfl,h.al (ab.aC rfl rfl)⟩) rfl (by
    intro z hz
    rw [List.mem_singleton] at hz
    rw [hz];rfl) (by omega) (by omega) fun s2 w h _=>⟨h.al hs.cons.cons,?_⟩
   refine ⟨⟨j+n,pcs++ [(s',(ps[k].2.drop j).take n)],by omega,by omega,?_,?_,?_,?_⟩,by first|omega|(dsimp only;omega)⟩
   ·rw [←hcut];simp
   ·intro x hx
    rcases List.mem_append.1 hx with hx|hx
    ·exact hcap x hx
    ·rw [List.mem_singleton] at hx;rw [hx];exact hsc
   ·intro w hw x hx
    rcases List.mem_append.1 hx with hx|hx
    ·exact hT w hw x hx
    ·rw [List.mem_singleton] at hx;rw [hx];exact hs' w (hw.each _ hmem)
   ·rw [List.map_append]
    exact h.p1.drop
  ·have e0:ps[k].2.drop j= []:=List.drop_of_length_le (by omega)
   rw [e0,gE,List.nil_append] at hcut
   rw [ag (by omega)]
   exact ⟨⟨k+1,pcs,rfl,by omega,hcut,hcap,hT,h⟩,by first|omega|(dsimp only;omega)⟩
 ·have hk2:k=ps.length:=by omega
  subst hk2
  rw [List.drop_of_length_le (Nat.le_refl _),List.map_nil,show aY n []= [] from rfl,List.append_nil] at hcut
  exact hK pcs o w hcut hcap hT h
end
end Go.Proofs.YtcdpblipagajiaaGreat
namespace Go.Proofs.YtcdpblipagajiaaGreat
open Go Go.Vc
set_option maxRecDepth 100000
theorem Ct.ok (a:(TT [.int .i64,.int .i64])) (b:Int) (R:(TT [.int .i64,.int .i64])→Bool→Int→World→Prop) w (h:
 Nw 72 ⟨[(ni a.1),(ni a.2.1)]⟩ w fun d c=>
 Nw 72 ⟨[(ni 0),(ni 0)]⟩ c fun f e=>
 Ld (.st [.int .i64,.int .i64]) ⟨d,0,none⟩ e fun g=>
 Cl Pg [kB] lh ⟨[(.agg ⟨[(ni g.1),(ni g.2.1)]⟩)]⟩ e fun (i:Bool) h=>
 aa (!i)
 (af ⟨f,0,none⟩ [(ni 0),(ni 0)] 0 h fun j=>
 Ld (.st [.int .i64,.int .i64]) ⟨f,0,none⟩ j fun k=>
 R k false 2 j)
 (aa (b==128)
 (Ld kI (Addr.add ⟨d,0,none⟩ 1) h fun (l:Int)=>
 aa (l==0)
 (af ⟨f,0,none⟩ [(ni 0),(ni 0)] 0 h fun m=>
 Ld (.st [.int .i64,.int .i64]) ⟨f,0,none⟩ m fun n=>
 R n false 51 m)
 (Ld kI (Addr.add ⟨d,0,none⟩ 0) h fun (o:Int)=>
 (128:Int)≠0∧
 aa (decide ((i64 ((i64 ((128:Int)*o))+(i64 (Int.tmod b (128:Int)))))>2147483647))
 (af ⟨f,0,none⟩ [(ni 0),(ni 0)] 0 h fun p=>
 Ld (.st [.int .i64,.int .i64]) ⟨f,0,none⟩ p fun q=>
 R q false 52 p)
 (Ld kI (Addr.add ⟨d,0,none⟩ 1) h fun (r:Int)=>
 aa (r==4)
 (aa (decide (b≥128))
 (af ⟨f,0,none⟩ [(ni 0),(ni 0)] 0 h fun s=>
 Ld (.st [.int .i64,.int .i64]) ⟨f,0,none⟩ s fun t=>
 R t false 52 s)
 (Ld kI (Addr.add ⟨d,0,none⟩ 1) h fun (u:Int)=>
 af ⟨f,0,none⟩ [(ni (i64 ((i64 ((128:Int)*o))+(i64 (Int.tmod b (128:Int)))))),(ni (i64 (u+1)))] 0 h fun v=>
 Ld (.st [.int .i64,.int .i64]) ⟨f,0,none⟩ v fun x=>
 R x (decide (b<128)) 0 v))
 (Ld kI (Addr.add ⟨d,0,none⟩ 1) h fun (y:Int)=>
 af ⟨f,0,none⟩ [(ni (i64 ((i64 ((128:Int)*o))+(i64 (Int.tmod b (128:Int)))))),(ni (i64 (y+1)))] 0 h fun z=>
 Ld (.st [.int .i64,.int .i64]) ⟨f,0,none⟩ z fun a1=>
 R a1 (decide (b<128)) 0 z))))
 (Ld kI (Addr.add ⟨d,0,none⟩ 0) h fun (b1:Int)=>
 (128:Int)≠0∧
 aa (decide ((i64 ((i64 ((128:Int)*b1))+(i64 (Int.tmod b (128:Int)))))>2147483647))
 (af ⟨f,0,none⟩ [(ni 0),(ni 0)] 0 h fun c1=>
 Ld (.st [.int .i64,.int .i64]) ⟨f,0,none⟩ c1 fun d1=>
 R d1 false 52 c1)
 (Ld kI (Addr.add ⟨d,0,none⟩ 1) h fun (e1:Int)=>
 aa (e1==4)
 (aa (decide (b≥128))
 (af ⟨f,0,none⟩ [(ni 0),(ni 0)] 0 h fun f1=>
 Ld (.st [.int .i64,.int .i64]) ⟨f,0,none⟩ f1 fun g1=>
 R g1 false 52 f1)
 (Ld kI (Addr.add ⟨d,0,none⟩ 1) h fun (h1:Int)=>
 af ⟨f,0,none⟩ [(ni (i64 ((i64 ((128:Int)*b1))+(i64 (Int.tmod b (128:Int)))))),(ni (i64 (h1+1)))] 0 h fun i1=>
 Ld (.st [.int .i64,.int .i64]) ⟨f,0,none⟩ i1 fun j1=>
 R j1 (decide (b<128)) 0 i1))
 (Ld kI (Addr.add ⟨d,0,none⟩ 1) h fun (k1:Int)=>
 af ⟨f,0,none⟩ [(ni (i64 ((i64 ((128:Int)*b1))+(i64 (Int.tmod b (128:Int)))))),(ni (i64 (k1+1)))] 0 h fun l1=>
 Ld (.st [.int .i64,.int .i64]) ⟨f,0,none⟩ l1 fun m1=>
 R m1 (decide (b<128)) 0 l1))))):Cl Pg [(.st [.int .i64,.int .i64]),kB,kI] mq ⟨[(.agg ⟨[(ni a.1),(ni a.2.1)]⟩),(.int .u8 b)]⟩ w R:=co Tryz.f171 [] h
theorem AW.ok (a:(TT [.int .i64,.int .i64])) (R:Bool→World→Prop) w (h:
 Nw 72 ⟨[(ni a.1),(ni a.2.1)]⟩ w fun c b=>
 Ld kI (Addr.add ⟨c,0,none⟩ 1) b fun (d:Int)=>
 aa (d==0)
 (Ld kI (Addr.add ⟨c,0,none⟩ 0) b fun (e:Int)=>
 R (e==0) b)
 (cA b fun f g=>
 ad kI (Addr.add ⟨c,0,none⟩ 1) f fun (h:Int)=>
 aa (decide (h≥1))
 (ad kI (Addr.add ⟨c,0,none⟩ 1) f fun (i:Int)=>
 aa (decide (i≤4))
 (ad kI (Addr.add ⟨c,0,none⟩ 0) f fun (j:Int)=>
 ad kI (Addr.add ⟨c,0,none⟩ 1) f fun (k:Int)=>
 Cl Pg [kI] iJ ⟨[(ni (i64 (k - 1)))]⟩ g fun (m:Int) l=>
 f l∧
 aa (decide (j≥m))
 (ad kI (Addr.add ⟨c,0,none⟩ 0) f fun (n:Int)=>
 ad kI (Addr.add ⟨c,0,none⟩ 1) f fun (o:Int)=>
 Cl Pg [kI] iJ ⟨[(ni o)]⟩ l fun (q:Int) p=>
 f p∧
 R (decide (n<q)) p)
 (R false l))
 (R false g))
 (R false g))):Cl Pg [kB] lh ⟨[(.agg ⟨[(ni a.1),(ni a.2.1)]⟩)]⟩ w R:=co Tryz.f197 [] h
theorem AV.ok (a:Int) (R:Int→World→Prop) w (h:
 db 1 0 w fun b c (d:Int) (e:Int) f=>
 aa (decide (e<a))
 (b (i64 (d*128)) (i64 (e+1)) f∧c (i64 (d*128)) (i64 (e+1)) f<c d e f)
 (R d f)):Cl Pg [kI] iJ ⟨[(ni a)]⟩ w R:=co Tryz.f212 [(7,[(3,kI),(4,kI)])] h
end Go.Proofs.YtcdpblipagajiaaGreat
namespace Go.Proofs.YtcdpblipagajiaaGreat
open Go Go.Vc
set_option maxRecDepth 100000
theorem uX.ok (a:Int) (b:Sl) (R:(TT aK)→Sl→Int→World→Prop) w (h:
 Nw 74 ⟨[(ni 0),(ni 0),(ni 0),(ni 0),(ni 0),(.int .u32 0),(ni 0)]⟩ w fun d c=>
 bo (fun (j:World)=>
 Nw 74 ⟨[(ni 0),(ni 0),(ni 0),(ni 0),(ni 0),(.int .u32 0),(ni 0)]⟩ j fun l k=>
 dN 0 k fun m n (o:Int) p=>
 aa (decide (o<(b.len:Int)))
 (cA p fun q r=>
 ad (.st aK) ⟨l,0,none⟩ q fun s=>
 ar b o 1 fun t=>
 ad (aL .u8) t q fun (u:Int)=>
 (Cl Pg [(.st aK),kB] eb ⟨[(ni a),(.agg ⟨[(ni s.1),(ni s.2.1),(ni s.2.2.1),(ni s.2.2.2.1),(ni s.2.2.2.2.1),(.int .u32 s.2.2.2.2.2.1),(ni s.2.2.2.2.2.2.1)]⟩),(.int .u8 u)]⟩ r fun x (y:Bool) v=>
 q v∧
 Nw 74 ⟨[(ni 0),(ni 0),(ni 0),(ni 0),(ni 0),(.int .u32 0),(ni 0)]⟩ v fun a1 z=>
 q z∧
 af ⟨a1,0,none⟩ [(ni x.1),(ni x.2.1),(ni x.2.2.1),(ni x.2.2.2.1),(ni x.2.2.2.2.1),(.int .u32 x.2.2.2.2.2.1),(ni x.2.2.2.2.2.2.1)] 0 z fun b1=>
 q b1∧
 aa (!y)
 (af ⟨d,0,none⟩ [(ni 0),(ni 0),(ni 0),(ni 0),(ni 0),(.int .u32 0),(ni 0)] 0 b1 fun c1=>
 Ld (.st aK) ⟨d,0,none⟩ c1 fun d1=>
 R d1 (⟨none,0,0⟩:Sl) 242 c1)
 (Ld (.st aK) ⟨a1,0,none⟩ b1 fun e1=>
 af ⟨l,0,none⟩ [(ni e1.1),(ni e1.2.1),(ni e1.2.2.1),(ni e1.2.2.2.1),(ni e1.2.2.2.2.1),(.int .u32 e1.2.2.2.2.2.1),(ni e1.2.2.2.2.2.2.1)] 0 b1 fun f1=>
 Ld kI (Addr.add ⟨l,0,none⟩ 0) f1 fun (g1:Int)=>
 aa (g1==4)
 (cA f1 fun h1 i1=>
 ad (.st aK) ⟨l,0,none⟩ h1 fun j1=>
 aZ b (i64 (o+1)) (b).len (b).cap 1 fun k1=>
 Nw 5 ⟨[]⟩ i1 fun m1 l1=>
 h1 l1∧
 aD Pg (Builtin.append_ #[22,22] 22 ⟨[(an (⟨some ⟨m1,0,none⟩,0,0⟩:Sl)),(an k1)]⟩) kS l1 fun (o1:Sl) n1=>
 h1 n1∧
 af ⟨d,0,none⟩ [(ni j1.1),(ni j1.2.1),(ni j1.2.2.1),(ni j1.2.2.2.1),(ni j1.2.2.2.2.1),(.int .u32 j1.2.2.2.2.2.1),(ni j1.2.2.2.2.2.2.1)] 0 n1 fun p1=>
 h1 p1∧
 Ld (.st aK) ⟨d,0,none⟩ p1 fun q1=>
 R q1 o1 0 p1)
 (Ld kI (Addr.add ⟨l,0,none⟩ 0) f1 fun (r1:Int)=>
 aa (r1==6)
 (cA f1 fun s1 t1=>
 ad (.st aK) ⟨l,0,none⟩ s1 fun u1=>
 aZ b (i64 (o+1)) (b).len (b).cap 1 fun v1=>
 Nw 5 ⟨[]⟩ t1 fun y1 x1=>
 s1 x1∧
 aD Pg (Builtin.append_ #[22,22] 22 ⟨[(an (⟨some ⟨y1,0,none⟩,0,0⟩:Sl)),(an v1)]⟩) kS x1 fun (a2:Sl) z1=>
 s1 z1∧
 af ⟨d,0,none⟩ [(ni u1.1),(ni u1.2.1),(ni u1.2.2.1),(ni u1.2.2.2.1),(ni u1.2.2.2.2.1),(.int .u32 u1.2.2.2.2.2.1),(ni u1.2.2.2.2.2.2.1)] 0 z1 fun b2=>
 s1 b2∧
 Ld (.st aK) ⟨d,0,none⟩ b2 fun c2=>
 R c2 a2 0 b2)
 (m (i64 (o+1)) f1∧n (i64 (o+1)) f1<n o p))))∧
 (Nw 74 ⟨[(ni 0),(ni 0),(ni 0),(ni 0),(ni 0),(.int .u32 0),(ni 0)]⟩ r fun e2 d2=>
 q d2∧
 Cl Pg [(.st aK),kB] eb ⟨[(ni a),(.agg ⟨[(ni s.1),(ni s.2.1),(ni s.2.2.1),(ni s.2.2.2.1),(ni s.2.2.2.2.1),(.int .u32 s.2.2.2.2.2.1),(ni s.2.2.2.2.2.2.1)]⟩),(.int .u8 u)]⟩ d2 fun g2 (h2:Bool) f2=>
 q f2∧
 af ⟨e2,0,none⟩ [(ni g2.1),(ni g2.2.1),(ni g2.2.2.1),(ni g2.2.2.2.1),(ni g2.2.2.2.2.1),(.int .u32 g2.2.2.2.2.2.1),(ni g2.2.2.2.2.2.2.1)] 0 f2 fun i2=>
 q i2∧
 aa (!h2)
 (af ⟨d,0,none⟩ [(ni 0),(ni 0),(ni 0),(ni 0),(ni 0),(.int .u32 0),(ni 0)] 0 i2 fun j2=>
 Ld (.st aK) ⟨d,0,none⟩ j2 fun k2=>
 R k2 (⟨none,0,0⟩:Sl) 242 j2)
 (Ld (.st aK) ⟨e2,0,none⟩ i2 fun l2=>
 af ⟨l,0,none⟩ [(ni l2.1),(ni l2.2.1),(ni l2.2.2.1),(ni l2.2.2.2.1),(ni l2.2.2.2.2.1),(.int .u32 l2.2.2.2.2.2.1),(ni l2.2.2.2.2.2.2.1)] 0 i2 fun m2=>
 Ld kI (Addr.add ⟨l,0,none⟩ 0) m2 fun (n2:Int)=>
 aa (n2==4)
 (cA m2 fun o2 p2=>
 ad (.st aK) ⟨l,0,none⟩ o2 fun q2=>
 aZ b (i64 (o+1)) (b).len (b).cap 1 fun r2=>
 Nw 5 ⟨[]⟩ p2 fun t2 s2=>
 o2 s2∧
 aD Pg (Builtin.append_ #[22,22] 22 ⟨[(an (⟨some ⟨t2,0,none⟩,0,0⟩:Sl)),(an r2)]⟩) kS s2 fun (v2:Sl) u2=>
 o2 u2∧
 af ⟨d,0,none⟩ [(ni q2.1),(ni q2.2.1),(ni q2.2.2.1),(ni q2.2.2.2.1),(ni q2.2.2.2.2.1),(.int .u32 q2.2.2.2.2.2.1),(ni q2.2.2.2.2.2.2.1)] 0 u2 fun x2=>
 o2 x2∧
 Ld (.st aK) ⟨d,0,none⟩ x2 fun y2=>
 R y2 v2 0 x2)
 (Ld kI (Addr.add ⟨l,0,none⟩ 0) m2 fun (z2:Int)=>
 aa (z2==6)
 (cA m2 fun a3 b3=>
 ad (.st aK) ⟨l,0,none⟩ a3 fun c3=>
 aZ b (i64 (o+1)) (b).len (b).cap 1 fun d3=>
 Nw 5 ⟨[]⟩ b3 fun f3 e3=>
 a3 e3∧
 aD Pg (Builtin.append_ #[22,22] 22 ⟨[(an (⟨some ⟨f3,0,none⟩,0,0⟩:Sl)),(an d3)]⟩) kS e3 fun (h3:Sl) g3=>
 a3 g3∧
 af ⟨d,0,none⟩ [(ni c3.1),(ni c3.2.1),(ni c3.2.2.1),(ni c3.2.2.2.1),(ni c3.2.2.2.2.1),(.int .u32 c3.2.2.2.2.2.1),(ni c3.2.2.2.2.2.2.1)] 0 g3 fun i3=>
 a3 i3∧
 Ld (.st aK) ⟨d,0,none⟩ i3 fun j3=>
 R j3 h3 0 i3)
 (m (i64 (o+1)) m2∧n (i64 (o+1)) m2<n o p)))))
 (af ⟨d,0,none⟩ [(ni 0),(ni 0),(ni 0),(ni 0),(ni 0),(.int .u32 0),(ni 0)] 0 p fun k3=>
 Ld (.st aK) ⟨d,0,none⟩ k3 fun l3=>
 R l3 (⟨none,0,0⟩:Sl) 50 k3)) fun e=>
 aa (decide (a<1))
 (af ⟨d,0,none⟩ [(ni 0),(ni 0),(ni 0),(ni 0),(ni 0),(.int .u32 0),(ni 0)] 0 c fun f=>
 Ld (.st aK) ⟨d,0,none⟩ f fun g=>
 R g (⟨none,0,0⟩:Sl) 2 f)
 (aa (decide (a>65536))
 (af ⟨d,0,none⟩ [(ni 0),(ni 0),(ni 0),(ni 0),(ni 0),(.int .u32 0),(ni 0)] 0 c fun h=>
 Ld (.st aK) ⟨d,0,none⟩ h fun i=>
 R i (⟨none,0,0⟩:Sl) 2 h)
 (e c))):Cl Pg [(.st aK),kS,kI] iT ⟨[(ni a),(an b)]⟩ w R:=co Tryz.f41 [(2,[]),(12,[(8,kI)])] h
theorem Ag.ok (a:Int) (b:(TT aK)) (c:Int) (R:(TT aK)→Bool→World→Prop) w (h:
 Nw 74 ⟨[(ni b.1),(ni b.2.1),(ni b.2.2.1),(ni b.2.2.2.1),(ni b.2.2.2.2.1),(.int .u32 b.2.2.2.2.2.1),(ni b.2.2.2.2.2.2.1)]⟩ w fun e d=>
 Nw 74 ⟨[(ni 0),(ni 0),(ni 0),(ni 0),(ni 0),(.int .u32 0),(ni 0)]⟩ d fun g f=>
 Ld kI (Addr.add ⟨e,0,none⟩ 0) f fun (h:Int)=>
 aa (h==0)
 (St (Addr.add ⟨e,0,none⟩ 0) (ni 1) f fun i=>
 aa (c==0)
 (St (Addr.add ⟨e,0,none⟩ 0) (ni 5) i fun j=>
 Ld (.st aK) ⟨e,0,none⟩ j fun k=>
 aa (c==0)
 (af ⟨g,0,none⟩ [(ni k.1),(ni k.2.1),(ni k.2.2.1),(ni k.2.2.2.1),(ni k.2.2.2.2.1),(.int .u32 k.2.2.2.2.2.1),(ni k.2.2.2.2.2.2.1)] 0 j fun l=>
 Ld (.st aK) ⟨g,0,none⟩ l fun m=>
 R m true l)
 (af ⟨g,0,none⟩ [(ni k.1),(ni k.2.1),(ni k.2.2.1),(ni k.2.2.2.1),(ni k.2.2.2.2.1),(.int .u32 k.2.2.2.2.2.1),(ni k.2.2.2.2.2.2.1)] 0 j fun n=>
 Ld (.st aK) ⟨g,0,none⟩ n fun o=>
 R o (c==1) n))
 (Ld (.st aK) ⟨e,0,none⟩ i fun p=>
 aa (c==0)
 (af ⟨g,0,none⟩ [(ni p.1),(ni p.2.1),(ni p.2.2.1),(ni p.2.2.2.1),(ni p.2.2.2.2.1),(.int .u32 p.2.2.2.2.2.1),(ni p.2.2.2.2.2.2.1)] 0 i fun q=>
 Ld (.st aK) ⟨g,0,none⟩ q fun r=>
 R r true q)
 (af ⟨g,0,none⟩ [(ni p.1),(ni p.2.1),(ni p.2.2.1),(ni p.2.2.2.1),(ni p.2.2.2.2.1),(.int .u32 p.2.2.2.2.2.1),(ni p.2.2.2.2.2.2.1)] 0 i fun s=>
 Ld (.st aK) ⟨g,0,none⟩ s fun t=>
 R t (c==1) s)))
 (aa (h==1)
 (Ld (.st [.int .i64,.int .i64]) (Addr.add ⟨e,0,none⟩ 1) f fun u=>
 Cl Pg [(.st [.int .i64,.int .i64]),kB,kB] iH ⟨[(.agg ⟨[(ni u.1),(ni u.2.1)]⟩),(.int .u8 c),(ni a)]⟩ f fun x (y:Bool) (z:Bool) v=>
 Nw 72 ⟨[(ni 0),(ni 0)]⟩ v fun b1 a1=>
 af ⟨b1,0,none⟩ [(ni x.1),(ni x.2.1)] 0 a1 fun c1=>
 Ld (.st [.int .i64,.int .i64]) ⟨b1,0,none⟩ c1 fun d1=>
 af (Addr.add ⟨e,0,none⟩ 1) [(ni d1.1),(ni d1.2.1)] 0 c1 fun e1=>
 aa y
 (af (Addr.add ⟨e,0,none⟩ 1) [(ni 0),(ni 0)] 0 e1 fun f1=>
 Ld kI (Addr.add ⟨b1,0,none⟩ 0) f1 fun (g1:Int)=>
 St ((Addr.add ⟨e,0,none⟩ 3).add 0) (ni g1) f1 fun h1=>
 St (Addr.add ⟨e,0,none⟩ 0) (ni 2) h1 fun i1=>
 Ld (.st aK) ⟨e,0,none⟩ i1 fun j1=>
 af ⟨g,0,none⟩ [(ni j1.1),(ni j1.2.1),(ni j1.2.2.1),(ni j1.2.2.2.1),(ni j1.2.2.2.2.1),(.int .u32 j1.2.2.2.2.2.1),(ni j1.2.2.2.2.2.2.1)] 0 i1 fun k1=>
 Ld (.st aK) ⟨g,0,none⟩ k1 fun l1=>
 R l1 z k1)
 (Ld (.st aK) ⟨e,0,none⟩ e1 fun m1=>
 af ⟨g,0,none⟩ [(ni m1.1),(ni m1.2.1),(ni m1.2.2.1),(ni m1.2.2.2.1),(ni m1.2.2.2.2.1),(.int .u32 m1.2.2.2.2.2.1),(ni m1.2.2.2.2.2.2.1)] 0 e1 fun n1=>
 Ld (.st aK) ⟨g,0,none⟩ n1 fun o1=>
 R o1 z n1))
 (aa (h==2)
 (Ld (.st [.int .i64,.int .i64]) (Addr.add ⟨e,0,none⟩ 1) f fun p1=>
 Ld kI ((Addr.add ⟨e,0,none⟩ 3).add 0) f fun (q1:Int)=>
 Cl Pg [(.st [.int .i64,.int .i64]),kB,kB] iH ⟨[(.agg ⟨[(ni p1.1),(ni p1.2.1)]⟩),(.int .u8 c),(ni q1)]⟩ f fun s1 (t1:Bool) (u1:Bool) r1=>
 Nw 72 ⟨[(ni 0),(ni 0)]⟩ r1 fun x1 v1=>
 af ⟨x1,0,none⟩ [(ni s1.1),(ni s1.2.1)] 0 v1 fun y1=>
 Ld (.st [.int .i64,.int .i64]) ⟨x1,0,none⟩ y1 fun z1=>
 af (Addr.add ⟨e,0,none⟩ 1) [(ni z1.1),(ni z1.2.1)] 0 y1 fun a2=>
 aa t1
 (af (Addr.add ⟨e,0,none⟩ 1) [(ni 0),(ni 0)] 0 a2 fun b2=>
 Ld kI (Addr.add ⟨x1,0,none⟩ 0) b2 fun (c2:Int)=>
 St ((Addr.add ⟨e,0,none⟩ 3).add 1) (ni c2) b2 fun d2=>
 St (Addr.add ⟨e,0,none⟩ 0) (ni 3) d2 fun e2=>
 Ld (.st aK) ⟨e,0,none⟩ e2 fun f2=>
 af ⟨g,0,none⟩ [(ni f2.1),(ni f2.2.1),(ni f2.2.2.1),(ni f2.2.2.2.1),(ni f2.2.2.2.2.1),(.int .u32 f2.2.2.2.2.2.1),(ni f2.2.2.2.2.2.2.1)] 0 e2 fun g2=>
 Ld (.st aK) ⟨g,0,none⟩ g2 fun h2=>
 R h2 u1 g2)
 (Ld (.st aK) ⟨e,0,none⟩ a2 fun i2=>
 af ⟨g,0,none⟩ [(ni i2.1),(ni i2.2.1),(ni i2.2.2.1),(ni i2.2.2.2.1),(ni i2.2.2.2.2.1),(.int .u32 i2.2.2.2.2.2.1),(ni i2.2.2.2.2.2.2.1)] 0 a2 fun j2=>
 Ld (.st aK) ⟨g,0,none⟩ j2 fun k2=>
 R k2 u1 j2))
 (Ld (aL .u32) ((Addr.add ⟨e,0,none⟩ 3).add 2) f fun (l2:Int)=>
 St ((Addr.add ⟨e,0,none⟩ 3).add 2) (.int .u32 (u32 ((u32 ((256:Int)*l2))+(u32 c)))) f fun m2=>
 Ld kI (Addr.add ⟨e,0,none⟩ 6) m2 fun (n2:Int)=>
 St (Addr.add ⟨e,0,none⟩ 6) (ni (i64 (n2+1))) m2 fun o2=>
 Ld kI (Addr.add ⟨e,0,none⟩ 6) o2 fun (p2:Int)=>
 aa (p2==4)
 (Ld kI (Addr.add ⟨e,0,none⟩ 0) o2 fun (q2:Int)=>
 St (Addr.add ⟨e,0,none⟩ 0) (ni (i64 (q2+1))) o2 fun r2=>
 Ld (.st aK) ⟨e,0,none⟩ r2 fun s2=>
 af ⟨g,0,none⟩ [(ni s2.1),(ni s2.2.1),(ni s2.2.2.1),(ni s2.2.2.2.1),(ni s2.2.2.2.2.1),(.int .u32 s2.2.2.2.2.2.1),(ni s2.2.2.2.2.2.2.1)] 0 r2 fun t2=>
 Ld (.st aK) ⟨g,0,none⟩ t2 fun u2=>
 R u2 true t2)
 (Ld (.st aK) ⟨e,0,none⟩ o2 fun v2=>
 af ⟨g,0,none⟩ [(ni v2.1),(ni v2.2.1),(ni v2.2.2.1),(ni v2.2.2.2.1),(ni v2.2.2.2.2.1),(.int .u32 v2.2.2.2.2.2.1),(ni v2.2.2.2.2.2.2.1)] 0 o2 fun x2=>
 Ld (.st aK) ⟨g,0,none⟩ x2 fun y2=>
 R y2 true x2))))):Cl Pg [(.st aK),kB] eb ⟨[(ni a),(.agg ⟨[(ni b.1),(ni b.2.1),(ni b.2.2.1),(ni b.2.2.2.1),(ni b.2.2.2.2.1),(.int .u32 b.2.2.2.2.2.1),(ni b.2.2.2.2.2.2.1)]⟩),(.int .u8 c)]⟩ w R:=co Tryz.f83 [] h
theorem Aq.ok (a:(TT [.int .i64,.int .i64])) (b:Int) (c:Int) (R:(TT [.int .i64,.int .i64])→Bool→Bool→World→Prop) w (h:
 Nw 72 ⟨[(ni a.1),(ni a.2.1)]⟩ w fun e d=>
 Nw 72 ⟨[(ni 0),(ni 0)]⟩ d fun g f=>
 Ld (.st [.int .i64,.int .i64]) ⟨e,0,none⟩ f fun h=>
 Cl Pg [(.st [.int .i64,.int .i64]),kB,kI] mq ⟨[(.agg ⟨[(ni h.1),(ni h.2.1)]⟩),(.int .u8 b)]⟩ f fun j (k:Bool) (l:Int) i=>
 Nw 72 ⟨[(ni 0),(ni 0)]⟩ i fun n m=>
 af ⟨n,0,none⟩ [(ni j.1),(ni j.2.1)] 0 m fun o=>
 aa (l !=0)
 (Ld (.st [.int .i64,.int .i64]) ⟨n,0,none⟩ o fun p=>
 af ⟨g,0,none⟩ [(ni p.1),(ni p.2.1)] 0 o fun q=>
 Ld (.st [.int .i64,.int .i64]) ⟨g,0,none⟩ q fun r=>
 R r false false q)
 (Ld kI (Addr.add ⟨n,0,none⟩ 0) o fun (s:Int)=>
 aa (decide (s>c))
 (Ld (.st [.int .i64,.int .i64]) ⟨n,0,none⟩ o fun t=>
 af ⟨g,0,none⟩ [(ni t.1),(ni t.2.1)] 0 o fun u=>
 Ld (.st [.int .i64,.int .i64]) ⟨g,0,none⟩ u fun v=>
 R v false false u)
 (aa k
 (Ld kI (Addr.add ⟨n,0,none⟩ 0) o fun (x:Int)=>
 aa (decide (x<1))
 (Ld (.st [.int .i64,.int .i64]) ⟨n,0,none⟩ o fun y=>
 af ⟨g,0,none⟩ [(ni y.1),(ni y.2.1)] 0 o fun z=>
 Ld (.st [.int .i64,.int .i64]) ⟨g,0,none⟩ z fun a1=>
 R a1 false false z)
 (Ld (.st [.int .i64,.int .i64]) ⟨n,0,none⟩ o fun b1=>
 af ⟨g,0,none⟩ [(ni b1.1),(ni b1.2.1)] 0 o fun c1=>
 Ld (.st [.int .i64,.int .i64]) ⟨g,0,none⟩ c1 fun d1=>
 R d1 k true c1))
 (Ld (.st [.int .i64,.int .i64]) ⟨n,0,none⟩ o fun e1=>
 af ⟨g,0,none⟩ [(ni e1.1),(ni e1.2.1)] 0 o fun f1=>
 Ld (.st [.int .i64,.int .i64]) ⟨g,0,none⟩ f1 fun g1=>
 R g1 k true f1)))):Cl Pg [(.st [.int .i64,.int .i64]),kB,kB] iH ⟨[(.agg ⟨[(ni a.1),(ni a.2.1)]⟩),(.int .u8 b),(ni c)]⟩ w R:=co Tryz.f129 [] h
end Go.Proofs.YtcdpblipagajiaaGreat
namespace Go.Proofs.YtcdpblipagajiaaGreat
open Go Go.Vc Go.Srt Go.Inc Go.Hd Go.Crc
section
variable {E w:World} {F:List HP}
set_option maxRecDepth 20000
theorem Ei {m:Nat} {K:Int→World→Prop} (hm:m≤8) (hK:K ((128^m:Nat):Int) w):Cl Tryz.prog [kI] iJ ⟨[.int .i64 (m:Int)]⟩ w K:=by
 refine AV.ok _ _ _ ?_
 refine ⟨fun n i w'=>w'=w∧∃k:Nat,i=(k:Int)∧k≤m∧n=((128^k:Nat):Int),fun _ i _=>m - i.toNat,⟨rfl,0,rfl,by omega,rfl⟩,?_⟩
 rintro n i w' ⟨rfl,k,rfl,hk,rfl⟩
 refine aa.dm (fun hlt=> ?_) (fun hge=> ?_)
 ·have hp:128^(k+1)≤128^8:=Nat.pow_le_pow_right (by decide) (by omega)
  rw [Nat.pow_succ] at hp
  have e:=Nat.pow_succ 128 k
  generalize 128^k=p at*
  rw [ag (by omega),ag (by omega)]
  refine ⟨⟨rfl,k+1,rfl,by omega,by rw [e];omega⟩,by first|omega|(dsimp only;omega)⟩
 ·have:k=m:=by omega
  subst this
  exact hK
theorem En {v:Nat} {K:Bool→World→Prop} (h:Hp E w F) (hv:v≤65536) (hK: ∀w',Hp E w' F→K true w'):
  Cl Tryz.prog [kB] lh ⟨[.agg ⟨[.int .i64 (v:Int),.int .i64 (vm v:Int)]⟩]⟩ w K:=by
 refine AW.ok ((v:Int),(vm v:Int),()) _ _ ?_
 (try simp only [ax,au,aq,Nat.zero_add,Nat.add_zero,Nat.reduceAdd,Bool.not_true,Bool.not_false,aQ,aR,Option.isNone])
 by_cases h0:v=0
 ·subst h0
  rw [show vm 0=0 from rfl]
  (with_reducible repeat first|refine Nw.mk h fun b w h=> ?_|refine ao.mk h fun w h=> ?_|refine Ld.xb h rfl ?_|refine Ld.xt h rfl ?_|refine ad.xb (fun _ h=>h) rfl ?_|refine ad.xt (fun _ h=>h) rfl ?_|refine ⟨h.hb,?_⟩|refine af.xw h rfl rfl fun w h=> ?_|(refine af.xs h rfl rfl fun w h=> ?_;dsimp only [ah,ae] at h)|(refine St.xs h rfl rfl fun w h=> ?_;dsimp only [ah,ae] at h)|refine aa.yes ?_|refine aa.no ?_|refine ⟨by first|omega|decide,?_⟩)
  exact hK _ h.tl
 ·obtain ⟨m,hm,hm2,h1,h2⟩: ∃m,vm v=m+1∧m≤2∧128^m≤v∧v<128^(m+1):=by
   rcases r8 hv with ⟨a,b⟩|⟨a,b,c⟩|⟨a,b,c⟩|⟨a,b,c⟩
   ·omega
   ·exact ⟨0,c,by omega,by simpa using a,by simpa using b⟩
   ·exact ⟨1,c,by omega,by simpa using a,by simpa using b⟩
   ·exact ⟨2,c,by omega,by simpa using a,by simpa using b⟩
  rw [hm]
  refine Nw.mk h fun b3 w h=>Ld.xb h rfl (aa.ef (by omega) ?_)
  have h:=h.drew (n:=w.drawn+1)
  refine ⟨bF b3 _ _ _,h.hb,?_⟩
  (with_reducible repeat first|refine Nw.mk h fun b w h=> ?_|refine ao.mk h fun w h=> ?_|refine Ld.xb h rfl ?_|refine Ld.xt h rfl ?_|refine ad.xb (fun _ h=>h) rfl ?_|refine ad.xt (fun _ h=>h) rfl ?_|refine ⟨h.hb,?_⟩|refine af.xw h rfl rfl fun w h=> ?_|(refine af.xs h rfl rfl fun w h=> ?_;dsimp only [ah,ae] at h)|(refine St.xs h rfl rfl fun w h=> ?_;dsimp only [ah,ae] at h)|refine aa.yes ?_|refine aa.no ?_|refine ⟨by first|omega|decide,?_⟩)
  rw [ag (by omega),show ((m+1:Nat):Int) - 1=(m:Int) by omega]
  refine Ei (by omega) ⟨h.hb,aa.dt (by exact_mod_cast h1) ?_⟩
  (with_reducible repeat first|refine Nw.mk h fun b w h=> ?_|refine ao.mk h fun w h=> ?_|refine Ld.xb h rfl ?_|refine Ld.xt h rfl ?_|refine ad.xb (fun _ h=>h) rfl ?_|refine ad.xt (fun _ h=>h) rfl ?_|refine ⟨h.hb,?_⟩|refine af.xw h rfl rfl fun w h=> ?_|(refine af.xs h rfl rfl fun w h=> ?_;dsimp only [ah,ae] at h)|(refine St.xs h rfl rfl fun w h=> ?_;dsimp only [ah,ae] at h)|refine aa.yes ?_|refine aa.no ?_|refine ⟨by first|omega|decide,?_⟩)
  refine Ei (m:=m+1) (by omega) ⟨h.hb,?_⟩
  exact gX (decide_eq_true (by exact_mod_cast h2)) (hK _ h.tl)
theorem Gm {v c:Nat} {K:Int×Int×Unit→Bool→Int→World→Prop} (h:Hp E w F) (hv:v≤65536) (hc:c<256)
  (hbad:v=0∧c=128→∀w',Hp E w' F→K (0,0,()) false 51 w')
  (hK: ¬(v=0∧c=128)→∀w',Hp E w' F→K (((128*v+c % 128:Nat):Int),((vm v+1:Nat):Int),()) (decide (c<128)) 0 w'):
  Cl Tryz.prog [.st [.int .i64,.int .i64],kB,kI] mq ⟨[.agg ⟨[.int .i64 (v:Int),.int .i64 (vm v:Int)]⟩,.int .u8 (c:Int)]⟩ w K:=by
 refine Ct.ok ((v:Int),(vm v:Int),()) _ _ _ ?_
 (try simp only [ax,au,aq,Nat.zero_add,Nat.add_zero,Nat.reduceAdd,Bool.not_true,Bool.not_false,aQ,aR,Option.isNone])
 (with_reducible repeat first|refine Nw.mk h fun b w h=> ?_|refine ao.mk h fun w h=> ?_|refine Ld.xb h rfl ?_|refine Ld.xt h rfl ?_|refine ad.xb (fun _ h=>h) rfl ?_|refine ad.xt (fun _ h=>h) rfl ?_|refine ⟨h.hb,?_⟩|refine af.xw h rfl rfl fun w h=> ?_|(refine af.xs h rfl rfl fun w h=> ?_;dsimp only [ah,ae] at h)|(refine St.xs h rfl rfl fun w h=> ?_;dsimp only [ah,ae] at h)|refine aa.yes ?_|refine aa.no ?_|refine ⟨by first|omega|decide,?_⟩)
 refine En h hv fun w h=> ?_
 rw [show Int.tmod (c:Int) 128=((c % 128:Nat):Int) from rfl,ag (x:=((c % 128:Nat):Int)) (by omega)]
 have hvm:=G3 hv
 have fin: ∀w,¬(v=0∧c=128)→Hp E w F→K (i64 (i64 (128*(v:Int))+((c % 128:Nat):Int)),i64 ((vm v:Int)+1),()) (decide ((c:Int)<128)) 0 w:=fun w hn h=>by
  have:=hK hn w h
  rw [ag (x:=128*(v:Int)) (by omega),ag (x:=(vm v:Int)+1) (by omega),ag (by omega)]
  rw [show ((vm v+1:Nat):Int)=(vm v:Int)+1 from rfl,show ((128*v+c % 128:Nat):Int)=128*(v:Int)+((c % 128:Nat):Int) by omega] at this
  rwa [show decide ((c:Int)<128)=decide (c<128) from decide_eq_decide.2 (by omega)]
 have hle: ¬i64 (i64 (128*(v:Int))+((c % 128:Nat):Int))>2147483647:=by rw [ag (x:=128*(v:Int)) (by omega),ag (by omega)];omega
 with_reducible refine aa.EV ?_
 by_cases h8:c=128
 ·refine aa.et (by omega) (Ld.xb h rfl ?_)
  by_cases h0:v=0
  ·refine aa.et (by omega) ?_
   (with_reducible repeat first|refine Nw.mk h fun b w h=> ?_|refine ao.mk h fun w h=> ?_|refine Ld.xb h rfl ?_|refine Ld.xt h rfl ?_|refine ad.xb (fun _ h=>h) rfl ?_|refine ad.xt (fun _ h=>h) rfl ?_|refine ⟨h.hb,?_⟩|refine af.xw h rfl rfl fun w h=> ?_|(refine af.xs h rfl rfl fun w h=> ?_;dsimp only [ah,ae] at h)|(refine St.xs h rfl rfl fun w h=> ?_;dsimp only [ah,ae] at h)|refine aa.yes ?_|refine aa.no ?_|refine ⟨by first|omega|decide,?_⟩)
   exact hbad ⟨h0,h8⟩ _ h.tl
  ·refine aa.ef (by omega) (Ld.xb h rfl ⟨by decide,aa.df hle ?_⟩)
   (with_reducible repeat first|refine Nw.mk h fun b w h=> ?_|refine ao.mk h fun w h=> ?_|refine Ld.xb h rfl ?_|refine Ld.xt h rfl ?_|refine ad.xb (fun _ h=>h) rfl ?_|refine ad.xt (fun _ h=>h) rfl ?_|refine ⟨h.hb,?_⟩|refine af.xw h rfl rfl fun w h=> ?_|(refine af.xs h rfl rfl fun w h=> ?_;dsimp only [ah,ae] at h)|(refine St.xs h rfl rfl fun w h=> ?_;dsimp only [ah,ae] at h)|refine aa.yes ?_|refine aa.no ?_|refine ⟨by first|omega|decide,?_⟩)
   exact fin _ (by omega) h.tl
 ·refine aa.ef (by omega) (Ld.xb h rfl ⟨by decide,aa.df hle ?_⟩)
  (with_reducible repeat first|refine Nw.mk h fun b w h=> ?_|refine ao.mk h fun w h=> ?_|refine Ld.xb h rfl ?_|refine Ld.xt h rfl ?_|refine ad.xb (fun _ h=>h) rfl ?_|refine ad.xt (fun _ h=>h) rfl ?_|refine ⟨h.hb,?_⟩|refine af.xw h rfl rfl fun w h=> ?_|(refine af.xs h rfl rfl fun w h=> ?_;dsimp only [ah,ae] at h)|(refine St.xs h rfl rfl fun w h=> ?_;dsimp only [ah,ae] at h)|refine aa.yes ?_|refine aa.no ?_|refine ⟨by first|omega|decide,?_⟩)
  exact fin _ (by omega) h.tl
theorem zH {v c most:Nat} {K:T2→Bool→Bool→World→Prop} (h:Hp E w F) (hv:v≤most) (hm:most≤65536) (hc:c<256)
  (hbad:grow most v c=none→∀o d w',Hp E w' F→K o d false w')
  (hK: ∀n d,grow most v c=some (n,d)→∀k w',(d=false→k=(vm n:Int))→Hp E w' F→K ((n:Int),k,()) d true w'):
  Cl Tryz.prog [.st [.int .i64,.int .i64],kB,kB] iH ⟨[.agg ⟨[.int .i64 (v:Int),.int .i64 (vm v:Int)]⟩,.int .u8 (c:Int),.int .i64 (most:Int)]⟩ w K:=by
 refine Aq.ok ((v:Int),(vm v:Int),()) _ _ _ _ ?_
 (try simp only [ax,au,aq,Nat.zero_add,Nat.add_zero,Nat.reduceAdd,Bool.not_true,Bool.not_false,aQ,aR,Option.isNone])
 (with_reducible repeat first|refine Nw.mk h fun b w h=> ?_|refine ao.mk h fun w h=> ?_|refine Ld.xb h rfl ?_|refine Ld.xt h rfl ?_|refine ad.xb (fun _ h=>h) rfl ?_|refine ad.xt (fun _ h=>h) rfl ?_|refine ⟨h.hb,?_⟩|refine af.xw h rfl rfl fun w h=> ?_|(refine af.xs h rfl rfl fun w h=> ?_;dsimp only [ah,ae] at h)|(refine St.xs h rfl rfl fun w h=> ?_;dsimp only [ah,ae] at h)|refine aa.yes ?_|refine aa.no ?_|refine ⟨by first|omega|decide,?_⟩)
 refine Gm h (by omega) hc (fun hb w h=> ?_) (fun hb w h=> ?_)
 ·(with_reducible repeat first|refine Nw.mk h fun b w h=> ?_|refine ao.mk h fun w h=> ?_|refine Ld.xb h rfl ?_|refine Ld.xt h rfl ?_|refine ad.xb (fun _ h=>h) rfl ?_|refine ad.xt (fun _ h=>h) rfl ?_|refine ⟨h.hb,?_⟩|refine af.xw h rfl rfl fun w h=> ?_|(refine af.xs h rfl rfl fun w h=> ?_;dsimp only [ah,ae] at h)|(refine St.xs h rfl rfl fun w h=> ?_;dsimp only [ah,ae] at h)|refine aa.yes ?_|refine aa.no ?_|refine ⟨by first|omega|decide,?_⟩)
  exact hbad (by unfold grow;rw [if_pos hb]) _ _ _ h.tl
 ·(with_reducible repeat first|refine Nw.mk h fun b w h=> ?_|refine ao.mk h fun w h=> ?_|refine Ld.xb h rfl ?_|refine Ld.xt h rfl ?_|refine ad.xb (fun _ h=>h) rfl ?_|refine ad.xt (fun _ h=>h) rfl ?_|refine ⟨h.hb,?_⟩|refine af.xw h rfl rfl fun w h=> ?_|(refine af.xs h rfl rfl fun w h=> ?_;dsimp only [ah,ae] at h)|(refine St.xs h rfl rfl fun w h=> ?_;dsimp only [ah,ae] at h)|refine aa.yes ?_|refine aa.no ?_|refine ⟨by first|omega|decide,?_⟩)
  by_cases hc1:c<128
  ·rw [decide_eq_true hc1]
   by_cases hle:128*v+c % 128≤most
   ·(with_reducible repeat first|refine Nw.mk h fun b w h=> ?_|refine ao.mk h fun w h=> ?_|refine Ld.xb h rfl ?_|refine Ld.xt h rfl ?_|refine ad.xb (fun _ h=>h) rfl ?_|refine ad.xt (fun _ h=>h) rfl ?_|refine ⟨h.hb,?_⟩|refine af.xw h rfl rfl fun w h=> ?_|(refine af.xs h rfl rfl fun w h=> ?_;dsimp only [ah,ae] at h)|(refine St.xs h rfl rfl fun w h=> ?_;dsimp only [ah,ae] at h)|refine aa.yes ?_|refine aa.no ?_|refine ⟨by first|omega|decide,?_⟩)
    by_cases h0:0<128*v+c % 128
    ·(with_reducible repeat first|refine Nw.mk h fun b w h=> ?_|refine ao.mk h fun w h=> ?_|refine Ld.xb h rfl ?_|refine Ld.xt h rfl ?_|refine ad.xb (fun _ h=>h) rfl ?_|refine ad.xt (fun _ h=>h) rfl ?_|refine ⟨h.hb,?_⟩|refine af.xw h rfl rfl fun w h=> ?_|(refine af.xs h rfl rfl fun w h=> ?_;dsimp only [ah,ae] at h)|(refine St.xs h rfl rfl fun w h=> ?_;dsimp only [ah,ae] at h)|refine aa.yes ?_|refine aa.no ?_|refine ⟨by first|omega|decide,?_⟩)
     refine hK _ true ?_ _ _ (fun hh=>by cases hh) h.tl
     unfold grow
     rw [if_neg hb,if_pos ⟨hle,fun _=>h0⟩,decide_eq_true hc1]
    ·(with_reducible repeat first|refine Nw.mk h fun b w h=> ?_|refine ao.mk h fun w h=> ?_|refine Ld.xb h rfl ?_|refine Ld.xt h rfl ?_|refine ad.xb (fun _ h=>h) rfl ?_|refine ad.xt (fun _ h=>h) rfl ?_|refine ⟨h.hb,?_⟩|refine af.xw h rfl rfl fun w h=> ?_|(refine af.xs h rfl rfl fun w h=> ?_;dsimp only [ah,ae] at h)|(refine St.xs h rfl rfl fun w h=> ?_;dsimp only [ah,ae] at h)|refine aa.yes ?_|refine aa.no ?_|refine ⟨by first|omega|decide,?_⟩)
     refine hbad ?_ _ _ _ h.tl
     unfold grow
     rw [if_neg hb,if_neg (fun hh=>h0 (hh.2 hc1))]
   ·(with_reducible repeat first|refine Nw.mk h fun b w h=> ?_|refine ao.mk h fun w h=> ?_|refine Ld.xb h rfl ?_|refine Ld.xt h rfl ?_|refine ad.xb (fun _ h=>h) rfl ?_|refine ad.xt (fun _ h=>h) rfl ?_|refine ⟨h.hb,?_⟩|refine af.xw h rfl rfl fun w h=> ?_|(refine af.xs h rfl rfl fun w h=> ?_;dsimp only [ah,ae] at h)|(refine St.xs h rfl rfl fun w h=> ?_;dsimp only [ah,ae] at h)|refine aa.yes ?_|refine aa.no ?_|refine ⟨by first|omega|decide,?_⟩)
    refine hbad ?_ _ _ _ h.tl
    unfold grow
    rw [if_neg hb,if_neg (fun hh=>hle hh.1)]
  ·rw [decide_eq_false hc1]
   by_cases hle:128*v+c % 128≤most
   ·(with_reducible repeat first|refine Nw.mk h fun b w h=> ?_|refine ao.mk h fun w h=> ?_|refine Ld.xb h rfl ?_|refine Ld.xt h rfl ?_|refine ad.xb (fun _ h=>h) rfl ?_|refine ad.xt (fun _ h=>h) rfl ?_|refine ⟨h.hb,?_⟩|refine af.xw h rfl rfl fun w h=> ?_|(refine af.xs h rfl rfl fun w h=> ?_;dsimp only [ah,ae] at h)|(refine St.xs h rfl rfl fun w h=> ?_;dsimp only [ah,ae] at h)|refine aa.yes ?_|refine aa.no ?_|refine ⟨by first|omega|decide,?_⟩)
    refine hK _ false ?_ _ _ (fun _=>by rw [B9 (by omega) (by omega) hc hb]) h.tl
    unfold grow
    rw [if_neg hb,if_pos ⟨hle,fun hh=>absurd hh hc1⟩,decide_eq_false hc1]
   ·(with_reducible repeat first|refine Nw.mk h fun b w h=> ?_|refine ao.mk h fun w h=> ?_|refine Ld.xb h rfl ?_|refine Ld.xt h rfl ?_|refine ad.xb (fun _ h=>h) rfl ?_|refine ad.xt (fun _ h=>h) rfl ?_|refine ⟨h.hb,?_⟩|refine af.xw h rfl rfl fun w h=> ?_|(refine af.xs h rfl rfl fun w h=> ?_;dsimp only [ah,ae] at h)|(refine St.xs h rfl rfl fun w h=> ?_;dsimp only [ah,ae] at h)|refine aa.yes ?_|refine aa.no ?_|refine ⟨by first|omega|decide,?_⟩)
    refine hbad ?_ _ _ _ h.tl
    unfold grow
    rw [if_neg hb,if_neg (fun hh=>hle hh.1)]
theorem yD {n:Nat} {m:MS} {c:Nat} {K:dP→Bool→World→Prop} (h:Hp E w F) (hn2:n≤65536) (hm:iM n m) (hc:c<256) (hK:Bc n m c E F K):
  Cl Tryz.prog [.st [.int .i64,.int .i64,.int .i64,.int .i64,.int .i64,.int .u32,.int .i64],kB] eb ⟨[.int .i64 (n:Int),.agg ⟨[.int .i64 (m.at_:Int),.int .i64 (m.v:Int),.int .i64 (vm m.v:Int),.int .i64 (m.M:Int),.int .i64 (m.P:Int),.int .u32 (m.sum:Int),.int .i64 (m.many:Int)]⟩,.int .u8 (c:Int)]⟩ w K:=by
 obtain ⟨k1,k2,k3,k4⟩:=hK
 obtain ⟨at_,v,M,P,sum,many⟩:=m
 have hm0:=hm
 unfold iM at hm0
 dsimp only at hm0⊢
 refine Ag.ok _ ((at_:Int),(v:Int),(vm v:Int),(M:Int),(P:Int),(sum:Int),(many:Int),()) _ _ _ ?_
 (try simp only [ax,au,aq,Nat.zero_add,Nat.add_zero,Nat.reduceAdd,Bool.not_true,Bool.not_false,aQ,aR,Option.isNone])
 refine Nw.mk h fun b5 w h=>Nw.mk h fun b7 w h=>Ld.xb (b:=b5) h rfl ?_
 rcases hm0 with ⟨h1,h2⟩|⟨h1,h2,h3,h4,h5,h6⟩|⟨h1,h2,h3,h4,h5,h6,h7⟩|⟨h1,h2,h3,h4,h5,h6,h7,h8⟩|⟨h1,h2,h3,h4,h5,h6⟩
 ·cases h2
  rw [show vm 0=0 from rfl] at h
  refine aa.et rfl ?_
  by_cases h0:c=0
  ·subst h0
   (with_reducible repeat first|refine Nw.mk h fun b w h=> ?_|refine ao.mk h fun w h=> ?_|refine Ld.xb h rfl ?_|refine Ld.xt h rfl ?_|refine ad.xb (fun _ h=>h) rfl ?_|refine ad.xt (fun _ h=>h) rfl ?_|refine ⟨h.hb,?_⟩|refine af.xw h rfl rfl fun w h=> ?_|(refine af.xs h rfl rfl fun w h=> ?_;dsimp only [ah,ae] at h)|(refine St.xs h rfl rfl fun w h=> ?_;dsimp only [ah,ae] at h)|refine aa.yes ?_|refine aa.no ?_|refine ⟨by first|omega|decide,?_⟩)
   exact k1 ⟨5,0,0,0,0,0⟩ _ rfl (by dsimp only;decide) (by dsimp only;decide) h.tl
  ·(with_reducible repeat first|refine Nw.mk h fun b w h=> ?_|refine ao.mk h fun w h=> ?_|refine Ld.xb h rfl ?_|refine Ld.xt h rfl ?_|refine ad.xb (fun _ h=>h) rfl ?_|refine ad.xt (fun _ h=>h) rfl ?_|refine ⟨h.hb,?_⟩|refine af.xw h rfl rfl fun w h=> ?_|(refine af.xs h rfl rfl fun w h=> ?_;dsimp only [ah,ae] at h)|(refine St.xs h rfl rfl fun w h=> ?_;dsimp only [ah,ae] at h)|refine aa.yes ?_|refine aa.no ?_|refine ⟨by first|omega|decide,?_⟩)
   by_cases h1:c=1
   ·subst h1
    exact k1 ⟨1,0,0,0,0,0⟩ _ rfl (by dsimp only;decide) (by dsimp only;decide) h.tl
   ·refine gX (beq_eq_false_iff_ne.2 (by omega)) (k4 242 _ _ ?_ rfl h.tl)
    unfold aB
    simp [h0,h1]
 ·subst h1 h3 h4 h5 h6
  refine aa.ef (by decide) (aa.et rfl (Ld.xt h rfl ?_))
  refine zH h h2 hn2 hc (fun hg o d w h=> ?_) (fun m d hg k w hk h=> ?_)
  ·cases d
   ·(with_reducible repeat first|refine Nw.mk h fun b w h=> ?_|refine ao.mk h fun w h=> ?_|refine Ld.xb h rfl ?_|refine Ld.xt h rfl ?_|refine ad.xb (fun _ h=>h) rfl ?_|refine ad.xt (fun _ h=>h) rfl ?_|refine ⟨h.hb,?_⟩|refine af.xw h rfl rfl fun w h=> ?_|(refine af.xs h rfl rfl fun w h=> ?_;dsimp only [ah,ae] at h)|(refine St.xs h rfl rfl fun w h=> ?_;dsimp only [ah,ae] at h)|refine aa.yes ?_|refine aa.no ?_|refine ⟨by first|omega|decide,?_⟩)
    exact k4 242 _ _ (by unfold aB;simp [hg]) rfl h.tl
   ·(with_reducible repeat first|refine Nw.mk h fun b w h=> ?_|refine ao.mk h fun w h=> ?_|refine Ld.xb h rfl ?_|refine Ld.xt h rfl ?_|refine ad.xb (fun _ h=>h) rfl ?_|refine ad.xt (fun _ h=>h) rfl ?_|refine ⟨h.hb,?_⟩|refine af.xw h rfl rfl fun w h=> ?_|(refine af.xs h rfl rfl fun w h=> ?_;dsimp only [ah,ae] at h)|(refine St.xs h rfl rfl fun w h=> ?_;dsimp only [ah,ae] at h)|refine aa.yes ?_|refine aa.no ?_|refine ⟨by first|omega|decide,?_⟩)
    exact k4 242 _ _ (by unfold aB;simp [hg]) rfl h.tl
  ·cases d
   ·have:=hk rfl
    subst this
    (with_reducible repeat first|refine Nw.mk h fun b w h=> ?_|refine ao.mk h fun w h=> ?_|refine Ld.xb h rfl ?_|refine Ld.xt h rfl ?_|refine ad.xb (fun _ h=>h) rfl ?_|refine ad.xt (fun _ h=>h) rfl ?_|refine ⟨h.hb,?_⟩|refine af.xw h rfl rfl fun w h=> ?_|(refine af.xs h rfl rfl fun w h=> ?_;dsimp only [ah,ae] at h)|(refine St.xs h rfl rfl fun w h=> ?_;dsimp only [ah,ae] at h)|refine aa.yes ?_|refine aa.no ?_|refine ⟨by first|omega|decide,?_⟩)
    exact k1 ⟨1,m,0,0,0,0⟩ _ (by unfold aB;simp [hg]) (by dsimp only;decide) (by dsimp only;decide) h.tl
   ·(with_reducible repeat first|refine Nw.mk h fun b w h=> ?_|refine ao.mk h fun w h=> ?_|refine Ld.xb h rfl ?_|refine Ld.xt h rfl ?_|refine ad.xb (fun _ h=>h) rfl ?_|refine ad.xt (fun _ h=>h) rfl ?_|refine ⟨h.hb,?_⟩|refine af.xw h rfl rfl fun w h=> ?_|(refine af.xs h rfl rfl fun w h=> ?_;dsimp only [ah,ae] at h)|(refine St.xs h rfl rfl fun w h=> ?_;dsimp only [ah,ae] at h)|refine aa.yes ?_|refine aa.no ?_|refine ⟨by first|omega|decide,?_⟩)
    exact k1 ⟨2,0,m,0,0,0⟩ _ (by unfold aB;simp [hg]) (by dsimp only;decide) (by dsimp only;decide) h.tl
 ·subst h1 h5 h6 h7
  refine aa.ef (by decide) (aa.ef (by decide) (aa.et rfl (Ld.xt h rfl (Ld.xb (b:=b5) h rfl ?_))))
  refine zH (most:=M) h h4 (by omega) hc (fun hg o d w h=> ?_) (fun m d hg k w hk h=> ?_)
  ·cases d
   ·(with_reducible repeat first|refine Nw.mk h fun b w h=> ?_|refine ao.mk h fun w h=> ?_|refine Ld.xb h rfl ?_|refine Ld.xt h rfl ?_|refine ad.xb (fun _ h=>h) rfl ?_|refine ad.xt (fun _ h=>h) rfl ?_|refine ⟨h.hb,?_⟩|refine af.xw h rfl rfl fun w h=> ?_|(refine af.xs h rfl rfl fun w h=> ?_;dsimp only [ah,ae] at h)|(refine St.xs h rfl rfl fun w h=> ?_;dsimp only [ah,ae] at h)|refine aa.yes ?_|refine aa.no ?_|refine ⟨by first|omega|decide,?_⟩)
    exact k4 242 _ _ (by unfold aB;simp [hg]) rfl h.tl
   ·(with_reducible repeat first|refine Nw.mk h fun b w h=> ?_|refine ao.mk h fun w h=> ?_|refine Ld.xb h rfl ?_|refine Ld.xt h rfl ?_|refine ad.xb (fun _ h=>h) rfl ?_|refine ad.xt (fun _ h=>h) rfl ?_|refine ⟨h.hb,?_⟩|refine af.xw h rfl rfl fun w h=> ?_|(refine af.xs h rfl rfl fun w h=> ?_;dsimp only [ah,ae] at h)|(refine St.xs h rfl rfl fun w h=> ?_;dsimp only [ah,ae] at h)|refine aa.yes ?_|refine aa.no ?_|refine ⟨by first|omega|decide,?_⟩)
    exact k4 242 _ _ (by unfold aB;simp [hg]) rfl h.tl
  ·cases d
   ·have:=hk rfl
    subst this
    (with_reducible repeat first|refine Nw.mk h fun b w h=> ?_|refine ao.mk h fun w h=> ?_|refine Ld.xb h rfl ?_|refine Ld.xt h rfl ?_|refine ad.xb (fun _ h=>h) rfl ?_|refine ad.xt (fun _ h=>h) rfl ?_|refine ⟨h.hb,?_⟩|refine af.xw h rfl rfl fun w h=> ?_|(refine af.xs h rfl rfl fun w h=> ?_;dsimp only [ah,ae] at h)|(refine St.xs h rfl rfl fun w h=> ?_;dsimp only [ah,ae] at h)|refine aa.yes ?_|refine aa.no ?_|refine ⟨by first|omega|decide,?_⟩)
    exact k1 ⟨2,m,M,0,0,0⟩ _ (by unfold aB;simp [hg]) (by dsimp only;decide) (by dsimp only;decide) h.tl
   ·(with_reducible repeat first|refine Nw.mk h fun b w h=> ?_|refine ao.mk h fun w h=> ?_|refine Ld.xb h rfl ?_|refine Ld.xt h rfl ?_|refine ad.xb (fun _ h=>h) rfl ?_|refine ad.xt (fun _ h=>h) rfl ?_|refine ⟨h.hb,?_⟩|refine af.xw h rfl rfl fun w h=> ?_|(refine af.xs h rfl rfl fun w h=> ?_;dsimp only [ah,ae] at h)|(refine St.xs h rfl rfl fun w h=> ?_;dsimp only [ah,ae] at h)|refine aa.yes ?_|refine aa.no ?_|refine ⟨by first|omega|decide,?_⟩)
    exact k1 ⟨3,0,M,m,0,0⟩ _ (by unfold aB;simp [hg]) (by dsimp only;decide) (by dsimp only;decide) h.tl
 all_goals
  obtain ⟨ha,h7,hmy,hs⟩:(at_=3∨(at_=5∧M=0∧P=0))∧v=0∧many≤3∧sum<256^many:=by
   first
    |exact ⟨.inl h1,h6,h7,h8⟩
    |exact ⟨.inr ⟨h1,h2,h3⟩,h4,h5,h6⟩
  clear h1 h2 h3 h4 h5 h6
  subst h7
  have hs2:sum<16777216:=by
   have:256^many≤256^3:=Nat.pow_le_pow_right (by decide) hmy
   omega
  refine aa.ef (by omega) (aa.ef (by omega) (aa.ef (by omega) ?_))
  rw [show vm 0=0 from rfl] at h
  (with_reducible repeat first|refine Nw.mk h fun b w h=> ?_|refine ao.mk h fun w h=> ?_|refine Ld.xb h rfl ?_|refine Ld.xt h rfl ?_|refine ad.xb (fun _ h=>h) rfl ?_|refine ad.xt (fun _ h=>h) rfl ?_|refine ⟨h.hb,?_⟩|refine af.xw h rfl rfl fun w h=> ?_|(refine af.xs h rfl rfl fun w h=> ?_;dsimp only [ah,ae] at h)|(refine St.xs h rfl rfl fun w h=> ?_;dsimp only [ah,ae] at h)|refine aa.yes ?_|refine aa.no ?_|refine ⟨by first|omega|decide,?_⟩)
  rw [kK (x:=256*(sum:Int)) (by omega),kK (x:=(c:Int)) (by omega),kK (by omega),ag (x:=(many:Int)+1) (by omega),show 256*(sum:Int)+(c:Int)=((256*sum+c:Nat):Int) by omega] at h
  try rw [ag (x:=(many:Int)+1) (by omega)]
  by_cases hm3:many=3
  ·subst hm3
   (with_reducible repeat first|refine Nw.mk h fun b w h=> ?_|refine ao.mk h fun w h=> ?_|refine Ld.xb h rfl ?_|refine Ld.xt h rfl ?_|refine ad.xb (fun _ h=>h) rfl ?_|refine ad.xt (fun _ h=>h) rfl ?_|refine ⟨h.hb,?_⟩|refine af.xw h rfl rfl fun w h=> ?_|(refine af.xs h rfl rfl fun w h=> ?_;dsimp only [ah,ae] at h)|(refine St.xs h rfl rfl fun w h=> ?_;dsimp only [ah,ae] at h)|refine aa.yes ?_|refine aa.no ?_|refine ⟨by first|omega|decide,?_⟩)
   rw [ag (by omega)] at h
   rcases ha with rfl|⟨rfl,rfl,rfl⟩
   ·exact k2 M P (256*sum+c) _ (by unfold aB;simp) h.tl
   ·exact k3 (256*sum+c) _ (by unfold aB;simp) h.tl
  ·(with_reducible repeat first|refine Nw.mk h fun b w h=> ?_|refine ao.mk h fun w h=> ?_|refine Ld.xb h rfl ?_|refine Ld.xt h rfl ?_|refine ad.xb (fun _ h=>h) rfl ?_|refine ad.xt (fun _ h=>h) rfl ?_|refine ⟨h.hb,?_⟩|refine af.xw h rfl rfl fun w h=> ?_|(refine af.xs h rfl rfl fun w h=> ?_;dsimp only [ah,ae] at h)|(refine St.xs h rfl rfl fun w h=> ?_;dsimp only [ah,ae] at h)|refine aa.yes ?_|refine aa.no ?_|refine ⟨by first|omega|decide,?_⟩)
   refine k1 ⟨at_,0,M,P,256*sum+c,many+1⟩ _ ?_ ?_ ?_ h.tl
   ·unfold aB
    rcases ha with rfl|⟨rfl,rfl,rfl⟩<;>simp [hm3]
   ·dsimp only;omega
   ·dsimp only;omega
theorem IN {S:World→Prop} {n:Nat} {st:MS} {c:Nat} {G:Nat→dP→Bool→World→Prop} (h:Hp E w F) (hn2:n≤65536) (hm:iM n st) (hc:c<256) (hS: ∀w,Hp E w F→S w)
  (hG: ∀b (r:dP) ok w,((∃m',aB n st c= .more m'∧m'.at_≠4∧m'.at_≠6∧r=((m'.at_:Int),(m'.v:Int),(vm m'.v:Int),(m'.M:Int),(m'.P:Int),(m'.sum:Int),(m'.many:Int),())∧ok=true)∨(∃M P u:Nat,aB n st c= .fin (.aC M P u)∧r=(4,0,0,(M:Int),(P:Int),(u:Int),4,())∧ok=true)∨
    (∃u:Nat,aB n st c= .fin (.tail u)∧r=(6,0,0,0,0,(u:Int),4,())∧ok=true)∨(aB n st c= .bad 242∧ok=false))→
   Hp E w (aj b (.cells ⟨[.int .i64 r.1,.int .i64 r.2.1,.int .i64 r.2.2.1,.int .i64 r.2.2.2.1,.int .i64 r.2.2.2.2.1,.int .u32 r.2.2.2.2.2.1,.int .i64 r.2.2.2.2.2.2.1]⟩ 74 (0,0))::F)→G b r ok w):
  (Cl Tryz.prog [.st [.int .i64,.int .i64,.int .i64,.int .i64,.int .i64,.int .u32,.int .i64],kB] eb ⟨[.int .i64 (n:Int),.agg ⟨[.int .i64 (st.at_:Int),.int .i64 (st.v:Int),.int .i64 (vm st.v:Int),.int .i64 (st.M:Int),.int .i64 (st.P:Int),.int .u32 (st.sum:Int),.int .i64 (st.many:Int)]⟩,.int .u8 (c:Int)]⟩ w fun (r:dP) ok w2=>
   S w2∧Nw 74 ⟨[.int .i64 0,.int .i64 0,.int .i64 0,.int .i64 0,.int .i64 0,.int .u32 0,.int .i64 0]⟩ w2 fun b w3=>S w3∧
    af (⟨b,0,none⟩:Addr) [.int .i64 r.1,.int .i64 r.2.1,.int .i64 r.2.2.1,.int .i64 r.2.2.2.1,.int .i64 r.2.2.2.2.1,.int .u32 r.2.2.2.2.2.1,.int .i64 r.2.2.2.2.2.2.1] 0 w3 fun w4=>S w4∧G b r ok w4)∧
  (Nw 74 ⟨[.int .i64 0,.int .i64 0,.int .i64 0,.int .i64 0,.int .i64 0,.int .u32 0,.int .i64 0]⟩ w fun b w2=>S w2∧
   Cl Tryz.prog [.st [.int .i64,.int .i64,.int .i64,.int .i64,.int .i64,.int .u32,.int .i64],kB] eb ⟨[.int .i64 (n:Int),.agg ⟨[.int .i64 (st.at_:Int),.int .i64 (st.v:Int),.int .i64 (vm st.v:Int),.int .i64 (st.M:Int),.int .i64 (st.P:Int),.int .u32 (st.sum:Int),.int .i64 (st.many:Int)]⟩,.int .u8 (c:Int)]⟩ w2 fun (r:dP) ok w3=>S w3∧
    af (⟨b,0,none⟩:Addr) [.int .i64 r.1,.int .i64 r.2.1,.int .i64 r.2.2.1,.int .i64 r.2.2.2.1,.int .i64 r.2.2.2.2.1,.int .u32 r.2.2.2.2.2.1,.int .i64 r.2.2.2.2.2.2.1] 0 w3 fun w4=>S w4∧G b r ok w4):=by
 have one: ∀(r:dP) (ok:Bool) (w:World),Hp E w F→((∃m',aB n st c= .more m'∧m'.at_≠4∧m'.at_≠6∧r=((m'.at_:Int),(m'.v:Int),(vm m'.v:Int),(m'.M:Int),(m'.P:Int),(m'.sum:Int),(m'.many:Int),())∧ok=true)∨(∃M P u:Nat,aB n st c= .fin (.aC M P u)∧r=(4,0,0,(M:Int),(P:Int),(u:Int),4,())∧ok=true)∨
    (∃u:Nat,aB n st c= .fin (.tail u)∧r=(6,0,0,0,0,(u:Int),4,())∧ok=true)∨(aB n st c= .bad 242∧ok=false))→
   S w∧Nw 74 ⟨[.int .i64 0,.int .i64 0,.int .i64 0,.int .i64 0,.int .i64 0,.int .u32 0,.int .i64 0]⟩ w fun b w3=>S w3∧
    af (⟨b,0,none⟩:Addr) [.int .i64 r.1,.int .i64 r.2.1,.int .i64 r.2.2.1,.int .i64 r.2.2.2.1,.int .i64 r.2.2.2.2.1,.int .u32 r.2.2.2.2.2.1,.int .i64 r.2.2.2.2.2.2.1] 0 w3 fun w4=>S w4∧G b r ok w4:=by
  intro r ok w h hr
  refine ⟨hS w h,Nw.mk h fun b w h=>⟨hS w h.tl,?_⟩⟩
  with_reducible refine af.xw h rfl rfl (fun w h=> ?_)
  exact ⟨hS w h.tl,hG b r ok w hr h⟩
 have two: ∀(b:Nat) (r:dP) (ok:Bool) (w:World),Hp E w (aj b (.cells ⟨[.int .i64 0,.int .i64 0,.int .i64 0,.int .i64 0,.int .i64 0,.int .u32 0,.int .i64 0]⟩ 74 (0,0))::F)→((∃m',aB n st c= .more m'∧m'.at_≠4∧m'.at_≠6∧r=((m'.at_:Int),(m'.v:Int),(vm m'.v:Int),(m'.M:Int),(m'.P:Int),(m'.sum:Int),(m'.many:Int),())∧ok=true)∨(∃M P u:Nat,aB n st c= .fin (.aC M P u)∧r=(4,0,0,(M:Int),(P:Int),(u:Int),4,())∧ok=true)∨
    (∃u:Nat,aB n st c= .fin (.tail u)∧r=(6,0,0,0,0,(u:Int),4,())∧ok=true)∨(aB n st c= .bad 242∧ok=false))→
   S w∧af (⟨b,0,none⟩:Addr) [.int .i64 r.1,.int .i64 r.2.1,.int .i64 r.2.2.1,.int .i64 r.2.2.2.1,.int .i64 r.2.2.2.2.1,.int .u32 r.2.2.2.2.2.1,.int .i64 r.2.2.2.2.2.2.1] 0 w fun w4=>S w4∧G b r ok w4:=by
  intro b r ok w h hr
  refine ⟨hS w h.tl,?_⟩
  with_reducible refine af.xw h rfl rfl (fun w h=> ?_)
  exact ⟨hS w h.tl,hG b r ok w hr h⟩
 refine ⟨yD h hn2 hm hc ⟨fun m' w h1 h2 h3 h=>one ((m'.at_:Int),(m'.v:Int),(vm m'.v:Int),(m'.M:Int),(m'.P:Int),(m'.sum:Int),(m'.many:Int),()) true w h (.inl ⟨m',h1,h2,h3,rfl,rfl⟩),fun M P u w h1 h=>one (4,0,0,(M:Int),(P:Int),(u:Int),4,()) true w h (.inr (.inl ⟨M,P,u,h1,rfl,rfl⟩)),fun u w h1 h=>one (6,0,0,0,0,(u:Int),4,()) true w h (.inr (.inr (.inl ⟨u,h1,rfl,rfl⟩))),fun e o w h1 h2 h=>one o false w h (.inr (.inr (.inr ⟨h2▸h1,rfl⟩)))⟩,?_⟩
 exact Nw.mk h fun b w h=>⟨hS w h.tl,yD h hn2 hm hc ⟨fun m' w h1 h2 h3 h=>two b ((m'.at_:Int),(m'.v:Int),(vm m'.v:Int),(m'.M:Int),(m'.P:Int),(m'.sum:Int),(m'.many:Int),()) true w h (.inl ⟨m',h1,h2,h3,rfl,rfl⟩),fun M P u w h1 h=>two b (4,0,0,(M:Int),(P:Int),(u:Int),4,()) true w h (.inr (.inl ⟨M,P,u,h1,rfl,rfl⟩)),fun u w h1 h=>two b (6,0,0,0,0,(u:Int),4,()) true w h (.inr (.inr (.inl ⟨u,h1,rfl,rfl⟩))),fun e o w h1 h2 h=>two b o false w h (.inr (.inr (.inr ⟨h2▸h1,rfl⟩)))⟩⟩
theorem tW {S:World→Prop} {s:Sl} {bs:List Nat} {k:Nat} {G:Sl→World→Prop} (h:Hp E w F) (hs:ab F (aA 1 s (bs.map vB))) (hbig:bs.length≤10000000000) (hcap:s.len≤s.cap) (hk:k<bs.length) (hS: ∀w,Hp E w F→S w)
  (hG: ∀s' w',Hp E w' (OB s' (bs.drop (k+1))::F)→G s' w'):
  aZ s (i64 ((k:Int)+1)) (s.len:Int) (s.cap:Int) 1 fun s2=>Nw 5 ⟨[]⟩ w fun b w2=>S w2∧
   aD Tryz.prog (Builtin.append_ #[22,22] 22 ⟨[.slice (some ⟨b,0,none⟩) 0 0,.slice s2.base s2.len s2.cap]⟩) kS w2 fun (s3:Sl) w3=>S w3∧G s3 w3:=by
 have hlen:bs.length=s.len:=qd (h.al hs)
 rw [ag (by omega)]
 refine aZ.rd (h.al hs) (by omega) (by omega) (by omega) (by omega) (by omega) fun s' hs' hl'=> ?_
 have e1:(bs.map vB).drop ((k:Int)+1).toNat=(bs.drop (k+1)).map vB:=by rw [show ((k:Int)+1).toNat=k+1 by omega,List.map_drop]
 rw [e1,List.take_of_length_le (by simp;omega)] at hs'
 have hT:ab F (aA 1 s' ((bs.drop (k+1)).map vB)):=hs.imp fun w h=>hs' w h
 refine Nw.mk h fun b w h=>⟨hS w h.tl,?_⟩
 have h:=Hp.iw (n:=0) (sz:=1) h rfl
 have h:Hp E w (OB ⟨some ⟨b,0,none⟩,0,0⟩ []::F):=h
 have l2:(bs.drop (k+1)).length≤1000000000000:=by rw [List.length_drop];omega
 have key:=fun (K':Sl→World→Prop)=>GI (s:=⟨some ⟨b,0,none⟩,0,0⟩) (xs:= []) (ys:=bs.drop (k+1)) (K:=K') h hT (Nat.zero_le _) l2
 exact key _ fun s3 w h=>⟨hS w h.tl,hG s3 w h⟩
theorem Fv {n:Nat} {s:Sl} {bs:List Nat} {K:dP→Sl→Int→World→Prop} (h:Hp E w F) (hn:1≤n) (hn2:n≤65536) (hs:ab F (aA 1 s (bs.map vB))) (hb: ∀y∈bs,y<256) (hbig:bs.length≤10000000000) (hcap:s.len≤s.cap)
  (hshort: ∀s' w',run (aB n) dW bs= .short s'→Hp E w' F→K D7 ⟨none,0,0⟩ 50 w')
  (hbad: ∀w',run (aB n) dW bs= .bad 242→Hp E w' F→K D7 ⟨none,0,0⟩ 242 w')
  (hblk: ∀M P u r s' w',run (aB n) dW bs= .fin (.aC M P u) r→Hp E w' (OB s' r::F)→K (4,0,0,(M:Int),(P:Int),(u:Int),4,()) s' 0 w')
  (htail: ∀u r s' w',run (aB n) dW bs= .fin (.tail u) r→Hp E w' (OB s' r::F)→K (6,0,0,0,0,(u:Int),4,()) s' 0 w'):
  Cl Tryz.prog [.st [.int .i64,.int .i64,.int .i64,.int .i64,.int .i64,.int .u32,.int .i64],kS,kI] iT ⟨[.int .i64 (n:Int),.slice s.base s.len s.cap]⟩ w K:=by
 refine uX.ok _ _ _ _ ?_
 (try simp only [ax,au,aq,Nat.zero_add,Nat.add_zero,Nat.reduceAdd,Bool.not_true,Bool.not_false,aQ,aR,Option.isNone])
 have hlen:bs.length=s.len:=qd (h.al hs)
 refine Nw.mk h fun b4 w h=>aa.df (by omega) (aa.df (by omega) (Nw.mk h fun b12 w h=> ?_))
 refine ⟨fun i w'=> ∃(k:Nat) (st:MS),i=(k:Int)∧k≤bs.length∧iM n st∧run (aB n) dW (bs.take k)= .short st∧
  Hp E w' (aj b12 (.cells ⟨[.int .i64 (st.at_:Int),.int .i64 (st.v:Int),.int .i64 (vm st.v:Int),.int .i64 (st.M:Int),.int .i64 (st.P:Int),.int .u32 (st.sum:Int),.int .i64 (st.many:Int)]⟩ 74 (0,0))::aj b4 (.cells ⟨[.int .i64 0,.int .i64 0,.int .i64 0,.int .i64 0,.int .i64 0,.int .u32 0,.int .i64 0]⟩ 74 (0,0))::F),
  fun i _=>bs.length - i.toNat,⟨0,dW,rfl,by omega,.inl ⟨rfl,rfl⟩,rfl,h⟩,?_⟩
 rintro i w ⟨k,st,rfl,hk,hst,hrun,h⟩
 refine aa.dm (fun hlt=> ?_) (fun hge=> ?_)
 ·have hlt:k<bs.length:=by omega
  have hby:bs[k]<256:=hb _ (List.getElem_mem _)
  have h:=h.drew (n:=w.drawn+1)
  refine ⟨fun w=>bF b12 ⟨[.int .i64 (st.at_:Int),.int .i64 (st.v:Int),.int .i64 (vm st.v:Int),.int .i64 (st.M:Int),.int .i64 (st.P:Int),.int .u32 (st.sum:Int),.int .i64 (st.many:Int)]⟩ 74 (0,0) w∧aA 1 s (bs.map vB) w,⟨h.hb,h.tl.al hs⟩,ad.xt (fun _ h=>h.1) rfl (ar.Hl (h.tl.al hs) (fun _ h=>h.2) rfl (by simpa using hlt) (bs[k]:Int) (by simp [Sc.enc,vB,hlt]) ?_)⟩
  refine IN h hn2 hst hby (fun w h=>⟨h.hb,(h.tl:Hp E _ F).al hs⟩) fun b r ok w hr h=> ?_
  rcases hr with ⟨m',he,h4,h6,rfl,rfl⟩|⟨M,P,u,he,rfl,rfl⟩|⟨u,he,rfl,rfl⟩|⟨he,rfl⟩
  ·dsimp only at h⊢
   (with_reducible repeat first|refine Nw.mk h fun b w h=> ?_|refine ao.mk h fun w h=> ?_|refine Ld.xb h rfl ?_|refine Ld.xt h rfl ?_|refine ad.xb (fun _ h=>h) rfl ?_|refine ad.xt (fun _ h=>h) rfl ?_|refine ⟨h.hb,?_⟩|refine af.xw h rfl rfl fun w h=> ?_|(refine af.xs h rfl rfl fun w h=> ?_;dsimp only [ah,ae] at h)|(refine St.xs h rfl rfl fun w h=> ?_;dsimp only [ah,ae] at h)|refine aa.yes ?_|refine aa.no ?_|refine ⟨by first|omega|decide,?_⟩)
   rw [ag (by omega)]
   refine ⟨⟨k+1,m',rfl,by omega,sg hst hby he,?_,h.no 0⟩,by first|omega|(dsimp only;omega)⟩
   rw [List.take_add_one,List.getElem?_eq_getElem hlt]
   show run (aB n) dW (bs.take k++ [bs[k]])=_
   rw [bQ hrun,br he];rfl
  ·(with_reducible repeat first|refine Nw.mk h fun b w h=> ?_|refine ao.mk h fun w h=> ?_|refine Ld.xb h rfl ?_|refine Ld.xt h rfl ?_|refine ad.xb (fun _ h=>h) rfl ?_|refine ad.xt (fun _ h=>h) rfl ?_|refine ⟨h.hb,?_⟩|refine af.xw h rfl rfl fun w h=> ?_|(refine af.xs h rfl rfl fun w h=> ?_;dsimp only [ah,ae] at h)|(refine St.xs h rfl rfl fun w h=> ?_;dsimp only [ah,ae] at h)|refine aa.yes ?_|refine aa.no ?_|refine ⟨by first|omega|decide,?_⟩)
   have h:=h.drew (n:=w.drawn+1)
   refine ⟨bF b12 _ _ _,h.hb,ad.xt (fun _ h=>h) rfl (tW h (ab.cons (ab.cons (ab.cons hs))) hbig hcap hlt (fun w h=>h.hb) fun s' w h=> ?_)⟩
   (with_reducible repeat first|refine Nw.mk h fun b w h=> ?_|refine ao.mk h fun w h=> ?_|refine Ld.xb h rfl ?_|refine Ld.xt h rfl ?_|refine ad.xb (fun _ h=>h) rfl ?_|refine ad.xt (fun _ h=>h) rfl ?_|refine ⟨h.hb,?_⟩|refine af.xw h rfl rfl fun w h=> ?_|(refine af.xs h rfl rfl fun w h=> ?_;dsimp only [ah,ae] at h)|(refine St.xs h rfl rfl fun w h=> ?_;dsimp only [ah,ae] at h)|refine aa.yes ?_|refine aa.no ?_|refine ⟨by first|omega|decide,?_⟩)
   refine hblk M P u (bs.drop (k+1)) s' w ?_ h.eA
   rw [gq hrun,List.drop_eq_getElem_cons hlt,fL he]
  ·(with_reducible repeat first|refine Nw.mk h fun b w h=> ?_|refine ao.mk h fun w h=> ?_|refine Ld.xb h rfl ?_|refine Ld.xt h rfl ?_|refine ad.xb (fun _ h=>h) rfl ?_|refine ad.xt (fun _ h=>h) rfl ?_|refine ⟨h.hb,?_⟩|refine af.xw h rfl rfl fun w h=> ?_|(refine af.xs h rfl rfl fun w h=> ?_;dsimp only [ah,ae] at h)|(refine St.xs h rfl rfl fun w h=> ?_;dsimp only [ah,ae] at h)|refine aa.yes ?_|refine aa.no ?_|refine ⟨by first|omega|decide,?_⟩)
   have h:=h.drew (n:=w.drawn+1)
   refine ⟨bF b12 _ _ _,h.hb,ad.xt (fun _ h=>h) rfl (tW h (ab.cons (ab.cons (ab.cons hs))) hbig hcap hlt (fun w h=>h.hb) fun s' w h=> ?_)⟩
   (with_reducible repeat first|refine Nw.mk h fun b w h=> ?_|refine ao.mk h fun w h=> ?_|refine Ld.xb h rfl ?_|refine Ld.xt h rfl ?_|refine ad.xb (fun _ h=>h) rfl ?_|refine ad.xt (fun _ h=>h) rfl ?_|refine ⟨h.hb,?_⟩|refine af.xw h rfl rfl fun w h=> ?_|(refine af.xs h rfl rfl fun w h=> ?_;dsimp only [ah,ae] at h)|(refine St.xs h rfl rfl fun w h=> ?_;dsimp only [ah,ae] at h)|refine aa.yes ?_|refine aa.no ?_|refine ⟨by first|omega|decide,?_⟩)
   refine htail u (bs.drop (k+1)) s' w ?_ h.eA
   rw [gq hrun,List.drop_eq_getElem_cons hlt,fL he]
  ·(with_reducible repeat first|refine Nw.mk h fun b w h=> ?_|refine ao.mk h fun w h=> ?_|refine Ld.xb h rfl ?_|refine Ld.xt h rfl ?_|refine ad.xb (fun _ h=>h) rfl ?_|refine ad.xt (fun _ h=>h) rfl ?_|refine ⟨h.hb,?_⟩|refine af.xw h rfl rfl fun w h=> ?_|(refine af.xs h rfl rfl fun w h=> ?_;dsimp only [ah,ae] at h)|(refine St.xs h rfl rfl fun w h=> ?_;dsimp only [ah,ae] at h)|refine aa.yes ?_|refine aa.no ?_|refine ⟨by first|omega|decide,?_⟩)
   refine hbad w ?_ h.tl
   rw [gq hrun,List.drop_eq_getElem_cons hlt,oa he]
 ·have hk2:k=bs.length:=by omega
  subst hk2
  rw [List.take_of_length_le (Nat.le_refl _)] at hrun
  (with_reducible repeat first|refine Nw.mk h fun b w h=> ?_|refine ao.mk h fun w h=> ?_|refine Ld.xb h rfl ?_|refine Ld.xt h rfl ?_|refine ad.xb (fun _ h=>h) rfl ?_|refine ad.xt (fun _ h=>h) rfl ?_|refine ⟨h.hb,?_⟩|refine af.xw h rfl rfl fun w h=> ?_|(refine af.xs h rfl rfl fun w h=> ?_;dsimp only [ah,ae] at h)|(refine St.xs h rfl rfl fun w h=> ?_;dsimp only [ah,ae] at h)|refine aa.yes ?_|refine aa.no ?_|refine ⟨by first|omega|decide,?_⟩)
  exact hshort st w hrun h.tl
end
end Go.Proofs.YtcdpblipagajiaaGreat
namespace Go.Stm
open Go.Inc Go.Srt Go.Sym Go.Bits Go.Tab Go.Hd Go.Crc Go.Bw Go.aj Go.Proofs.YtcdpblipagajiaaGreat
theorem IV:iP cp 300 []= [87,80,1,130,44,0,0,0,0,0]:=by
 unfold iP blocks aY
 have h1:fp 300= [87,80,1,130,44]:=by decide+kernel
 have h2:lb (fg ([]:List (List Nat)).flatten)= [0,0,0,0,0]:=by decide+kernel
 rw [h1,h2];rfl
theorem I8:dD [87,80,1,130,44,0,0,0,0,0]=([],0):=by decide+kernel
theorem IM:dD [87,80,1,130,44,0,0,0,0]=([],50):=by decide+kernel
theorem HB:dD [87,80,1,130,44,0,0,0,0,0,7]=([],261):=by decide+kernel
theorem J3:dD [87,80,1,130,44,0,0,0,0,1]=([],260):=by decide+kernel
theorem oF:aY 2 [[97,98,99],[],[100]]= [[97,98],[99],[100]]:=by
 rw [kX,kX,kX,gE,gu (by decide) (by decide),gu (by decide) (by decide),gu (x:= [100]) (by decide) (by decide)]
 simp [gE,aY]
theorem Cd:dD (iP cp 2 [[97,98,99],[],[100]])=([[97,98],[99],[100]],0):=by
 have:=Dh (n:=2) G9 (by decide) (by decide) (parts:= [[97,98,99],[],[100]]) (by decide) []
 rw [List.append_nil,oF] at this
 exact this
theorem Ds {n:Nat} {parts:List (List Nat)} (hn:0<n) (hb: ∀c∈parts.flatten,c<256): ∀y∈iP cp n parts,y<256:=by
 unfold iP
 intro y hy
 rcases List.mem_append.1 hy with hy|hy
 ·unfold fp at hy
  rcases List.mem_append.1 hy with hy|hy
  ·simp at hy;omega
  ·exact xk _ y hy
 ·rcases List.mem_append.1 hy with hy|hy
  ·obtain ⟨x,hx,hy⟩:=List.mem_flatMap.1 hy
   have:=fP hn hb x hx
   unfold oO lg kn at hy
   rcases List.mem_append.1 hy with hy|hy
   ·rcases List.mem_cons.1 hy with rfl|hy
    ·decide
    ·rcases List.mem_append.1 hy with hy|hy
     ·rcases List.mem_append.1 hy with hy|hy
      ·exact xk _ y hy
      ·exact xk _ y hy
     ·exact Hc _ y hy
   ·exact D0 (wv _ _) _ y hy
  ·unfold lb at hy
   rcases List.mem_cons.1 hy with rfl|hy
   ·decide
   ·exact Hc _ y hy
theorem Cj {n:Nat} {parts:List (List Nat)} (hn:0<n) (hn2:n≤65536) (hb: ∀c∈parts.flatten,c<256):(iP cp n parts).length≤200000*(aY n parts).length+20:=by
 unfold iP
 have h1:=mM (aY n parts) fun x hx=>⟨(fP hn hb x hx).1,Nat.le_trans (fP hn hb x hx).2.1 hn2,(fP hn hb x hx).2.2⟩
 have h2:=dp (n:=n) hn2
 rw [List.length_append,List.length_append]
 unfold fp lb
 simp only [List.length_append,List.length_cons,List.length_nil,show (dU (fg parts.flatten)).length=4 from rfl]
 omega
end Go.Stm
namespace Go.Proofs.YtcdpblipagajiaaGreat
open Go Go.Vc Go.Srt Go.Inc Go.Sym Go.Tab Go.Hd Go.Bw Go.Bits Go.aj Go.Crc Go.Stm
section
variable {E w:World} {F:List HP}
set_option maxRecDepth 20000
theorem Ht {b:Nat} {s:Sl} {xs:List Nat} {K:Sl→World→Prop} (h:Hp E w (aj b (.cells ⟨[]⟩ 5 (0,0))::F)) (hs:ab F (aA 1 s (xs.map vB))) (hl:xs.length≤1000000000000) (hK: ∀s' w',Hp E w' (OB s' xs::F)→K s' w'):
  aD Tryz.prog (Builtin.append_ #[22,22] 22 ⟨[.slice (some ⟨b,0,none⟩) 0 0,.slice s.base s.len s.cap]⟩) kS w K:=by
 have h:=Hp.iw (n:=0) (sz:=1) h rfl
 have key:=fun (K':Sl→World→Prop)=>GI (s:=⟨some ⟨b,0,none⟩,0,0⟩) (xs:= []) (ys:=xs) (K:=K') h hs (Nat.zero_le _) hl
 exact key _ fun s3 w h=>hK s3 w h
theorem JX (x:List Nat):((strOf x).toList==(strOf x).toList)=true:=by simp
theorem IK:ab F (ch ⟨none,0,0⟩ []):=(ab.nil (sz:=1)).imp fun w h=>⟨h,fun x hx=>by cases hx⟩
theorem HE:jB [] where
 caps:=fun x hx=>by cases hx
 few:=by rw [av];simp
 small:=fun x hx=>by cases hx
abbrev pI (b1 b2:Nat):List (Sl×List Nat):= [(⟨some ⟨b1,0,none⟩,3,3⟩,[97,98,99]),(⟨none,0,0⟩,[]),(⟨some ⟨b2,0,none⟩,1,1⟩,[100])]
theorem I6 {b1 b2:Nat}:jB (pI b1 b2) where
 caps:=fun x hx=>by
  simp only [List.mem_cons,List.not_mem_nil,or_false] at hx
  rcases hx with rfl|rfl|rfl<;>exact Nat.le_refl _
 few:=by rw [av];simp
 small:=fun x hx=>by
  rw [av]
  simp only [List.mem_cons,List.not_mem_nil,or_false] at hx
  rcases hx with rfl|rfl|rfl<;>simp
theorem J2 {s:Sl} {b1 b2:Nat} (h0:ab F (aA 1 s ((pI b1 b2).map fun x=> .slice x.1.base x.1.len x.1.cap))) (h1:ab F (aA 1 ⟨some ⟨b1,0,none⟩,3,3⟩ (([97,98,99]:List Nat).map vB))) (h2:ab F (aA 1 ⟨some ⟨b2,0,none⟩,1,1⟩ (([100]:List Nat).map vB))):ab F (ch s (pI b1 b2)):=
 (h0.and (h1.and (h2.and ab.nil))).imp fun w h=>⟨h.1,fun x hx=>by
  simp only [List.mem_cons,List.not_mem_nil,or_false] at hx
  rcases hx with rfl|rfl|rfl
  ·exact h.2.1
  ·exact h.2.2.2
  ·exact h.2.2.1⟩
theorem cx {K:Bool→World→Prop} (h:Hp E w F) (hK: ∀w',Hp E w' F→K true w'):Cl Tryz.prog [kB] cz ⟨[]⟩ w K:=by
 refine AZ.ok _ _ ?_
 simp only [ax]
 have b10: ∀y∈([87,80,1,130,44,0,0,0,0,0]:List Nat),y<256:=by decide
 refine r6 (n:=300) (s:=⟨none,0,0⟩) (ps:= []) h (by decide) (by decide) IK HE (by simp) (by decide) fun s2 w h=> ?_
 rw [List.map_nil,IV] at h
 have l2:=OB.len h
 have c2:=h.dM
 simp only [List.length_cons,List.length_nil] at l2
 refine Di (s:=⟨none,0,0⟩) h fun w h=> ?_
 refine aa.f rfl (aa.f rfl (aa.f (by rw [bne_eq_false_iff_eq];omega) ?_))
 refine kr h ab.own b10 (by decide) c2 fun s13 w _ h=> ?_
 rw [I8] at h⊢
 refine aZ.EK ((h.at 1).al ab.own) (by omega) (by omega) (by omega) (by omega) (by omega) fun s16 hs16 hl16 hc16=> ?_
 have hs16: ∀w,aA 1 s2 (([87,80,1,130,44,0,0,0,0,0]:List Nat).map vB) w→aA 1 s16 (([87,80,1,130,44,0,0,0,0]:List Nat).map vB) w:=fun w hw=>hs16 w hw
 refine kr h ((ab.at 1 ab.own).imp hs16) (by decide) (by decide) hc16 fun s18 w _ h=> ?_
 rw [IM] at h⊢
 refine Nw.mk h fun b22 w h=>Ht h (ab.at 2 ab.own) (by decide) fun s24 w h=> ?_
 refine Nw.mk h fun b26 w h=>Kj (x:=7) h (by decide) fun s28 w h=> ?_
 refine kr (c:= [87,80,1,130,44,0,0,0,0,0,7]) h ab.own (by decide) (by decide) h.dM fun s30 w _ h=> ?_
 rw [HB] at h⊢
 refine Nw.mk h fun b34 w h=>Ht h (ab.at 4 ab.own) (by decide) fun s36 w h=> ?_
 refine ar.JI (j:=9) (x:=1) h rfl (by decide) fun w h=> ?_
 have h:Hp E w (OB s36 [87,80,1,130,44,0,0,0,0,1]::_):=h
 refine kr (c:= [87,80,1,130,44,0,0,0,0,1]) h ab.own (by decide) (by decide) h.dM fun s40 w _ h=> ?_
 rw [J3] at h⊢
 refine Nw.mk h fun b44 w h=>gF h fun w h=>Nw.mk h fun b48 w h=>gF h fun w h=>Nw.mk h fun b52 w h=> ?_
 have exb: ∀x∈pI b44 b48,∀y∈x.2,y<256:=fun x hx=>by
  simp only [List.mem_cons,List.not_mem_nil,or_false] at hx
  rcases hx with rfl|rfl|rfl<;>(dsimp only;decide)
 have exc:(aY 2 ((pI b44 b48).map Prod.snd)).length≤100000:=by rw [show (pI b44 b48).map Prod.snd= [[97,98,99],[],[100]] from rfl,oF];decide
 refine r6 (n:=2) (s:=⟨some ⟨b52,0,none⟩,3,3⟩) (ps:=pI b44 b48) h (by decide) (by decide) (J2 (ab.aC rfl rfl) (ab.at 2 (ab.aC rfl rfl)) (ab.at 1 (ab.aC rfl rfl))) I6 exb exc fun s54 w h=> ?_
 rw [show (pI b44 b48).map Prod.snd= [[97,98,99],[],[100]] from rfl] at h
 have c54:=h.dM
 have l54:=OB.len h
 have hst:=Cj (n:=2) (parts:= [[97,98,99],[],[100]]) (by decide) (by decide) (by decide)
 rw [oF] at hst
 have hst:(iP cp 2 [[97,98,99],[],[100]]).length≤10000000:=Nat.le_trans hst (by decide)
 have hsb:=Ds (n:=2) (parts:= [[97,98,99],[],[100]]) (by decide) (by decide)
 refine kr h ab.own hsb hst c54 fun s57 w _ h=> ?_
 rw [Cd] at h⊢
 refine qZ (h.al (ab.at 11 ab.own)) (aa.t (by rw [show (ByteArray.mk #[87,80,1,130,44,0,0,0,0,0])=strOf [87,80,1,130,44,0,0,0,0,0] from rfl];exact JX _) ?_)
 have l13:=OB.len (h.at 10)
 simp only [List.flatten_nil,List.length_nil] at l13
 refine aa.et (by omega) (aa.t rfl (aa.t rfl (aa.t rfl (aa.t rfl (aa.t rfl (aa.t rfl ?_))))))
 refine qZ (h.al ab.own) (aa.t (by rw [show (ByteArray.mk #[97,98,99,100])=strOf [97,98,99,100] from rfl];exact JX _) (aa.t rfl (aa.t rfl ?_)))
 refine Nw.mk h fun b65 w h=>gF h fun w h=>yr (s2:=⟨some ⟨b65,0,none⟩,4,4⟩) (x:= [97,98,99,100]) h (ab.at 2 ab.own) hsb hst c54 (ab.aC rfl rfl) (by decide) fun w h=> ?_
 rw [Cd]
 refine aa.t (by decide) (Nw.mk h fun b71 w h=>gF h fun w h=>yr (s2:=⟨some ⟨b71,0,none⟩,3,3⟩) (x:= [97,98,99]) h (ab.at 3 ab.own) hsb hst c54 (ab.aC rfl rfl) (by decide) fun w h=> ?_)
 rw [Cd]
 refine aa.t (by decide) (Nw.mk h fun b77 w h=>gF h fun w h=>Nw.mk h fun b81 w h=>gF h fun w h=>Nw.mk h fun b85 w h=> ?_)
 have exc2:(aY 2 ((pI b77 b81).map Prod.snd)).length≤100000:=by rw [show (pI b77 b81).map Prod.snd= [[97,98,99],[],[100]] from rfl,oF];decide
 refine Ep (n:=2) (s:=⟨some ⟨b85,0,none⟩,3,3⟩) (ps:=pI b77 b81) h (by decide) (by decide) (J2 (ab.aC rfl rfl) (ab.at 2 (ab.aC rfl rfl)) (ab.at 1 (ab.aC rfl rfl))) I6 exc2 fun w h=> ?_
 rw [show (pI b77 b81).map Prod.snd= [[97,98,99],[],[100]] from rfl,oF]
 refine aa.t rfl (Nw.mk h fun b89 w h=>gF h fun w h=>Nw.mk h fun b93 w h=> ?_)
 exact Cy (s:=⟨some ⟨b93,0,none⟩,1,1⟩) h fun w h=>hK w h.tl
end
end Go.Proofs.YtcdpblipagajiaaGreat
namespace Go.Vc
theorem bo.Lg {A:Type} {r:A→World→Prop} {k:(A→World→Prop)→Prop} (Q:A→World→Prop) (h1: ∀a w,Q a w→r a w) (h2: ∀r',(∀a w,Q a w→r' a w)→k r'):bo r k:=h2 r h1
end Go.Vc
namespace Go.Stm
open Go.Inc Go.Srt Go.Sym Go.Bits Go.Tab Go.Hd Go.Crc Go.Bw Go.aj Go.Proofs.YtcdpblipagajiaaGreat
theorem DL {x:List Nat} (h0:0<x.length) (hb: ∀y∈x,y<256) (hn:x.length≤65536):(lg (fZ x) x).length≤1200+2*x.length:=by
 have hL:=lG h0 (by omega) hb
 have h1:=dp (n:=x.length) (by omega)
 have hidx:=oD (t:=x.reverse) (by rw [List.length_reverse];exact h0)
 rw [List.length_reverse] at hidx
 have h2:=dp (n:=bU x.reverse) (by omega)
 have h3:=ju hL.len hL.ok
 have h4:=l7 hL.v (ints (syms (aW x.reverse)))
 rw [nC,fh] at h4
 have h5:=mj (aW x.reverse)
 rw [cY,List.length_reverse] at h5
 unfold lg kn body
 rw [List.length_append,j8,List.length_append,List.length_cons,List.length_append,List.length_append,show (dU (fg x)).length=4 from rfl]
 omega
theorem qE: ∀(l:List (List Nat)),(∀x∈l,0<x.length∧x.length≤65536∧∀y∈x,y<256)→(blocks cp l).length≤1200*l.length+2*l.flatten.length
 | [],_=>by simp [blocks]
 |x::l,h=>by
  have h1:=h x List.mem_cons_self
  have h2:=DL h1.1 h1.2.2 h1.2.1
  have h3:=qE l fun y hy=>h y (List.mem_cons_of_mem _ hy)
  unfold blocks at h3⊢
  rw [List.flatMap_cons,List.length_append,List.length_cons,List.flatten_cons,List.length_append]
  unfold oO at h3⊢
  rw [nO (by omega)]
  omega
theorem C1 {n:Nat} {parts:List (List Nat)} (hn:0<n) (hn2:n≤65536) (hb: ∀c∈parts.flatten,c<256):(iP cp n parts).length≤1200*(aY n parts).length+2*parts.flatten.length+20:=by
 unfold iP
 have h1:=qE (aY n parts) fun x hx=>⟨(fP hn hb x hx).1,Nat.le_trans (fP hn hb x hx).2.1 hn2,(fP hn hb x hx).2.2⟩
 rw [ng hn] at h1
 have h2:=dp (n:=n) hn2
 rw [List.length_append,List.length_append]
 unfold fp lb
 simp only [List.length_append,List.length_cons,List.length_nil,show (dU (fg parts.flatten)).length=4 from rfl]
 omega
theorem Dj (l:List (List Nat)) (k:Nat):(l.take k).flatten.length≤l.flatten.length:=by
 have:=congrArg (fun l=>(List.flatten l).length) (List.take_append_drop k l)
 simp only [List.flatten_append,List.length_append] at this
 omega
end Go.Stm
namespace Go.Proofs.YtcdpblipagajiaaGreat
open Go Go.Vc Go.Srt Go.Inc Go.Sym Go.Tab Go.Hd Go.Bw Go.Bits Go.aj Go.Crc Go.Stm
section
variable {E w:World} {F:List HP}
set_option maxRecDepth 20000
theorem IB {s:Sl} {ps:List (Sl×List Nat)} {K:Sl→World→Prop} (h:Hp E w F) (hs:ab F (ch s ps)) (hfew:ps.length≤bR) (hbig:(ps.map Prod.snd).flatten.length≤bR) (hK: ∀s' w',Hp E w' (OB s' (ps.map Prod.snd).flatten::F)→K s' w'):
  Cl Tryz.prog [kS] jv ⟨[.slice s.base s.len s.cap]⟩ w K:=by
 refine JQ (cs:=ps.map Prod.fst) (bs:=ps.map Prod.snd) h (hs.imp fun w h=> ?_) (by simp) (by simpa using hfew) (fun i hi=>hs.imp fun w h=> ?_) hbig hK
 ·rw [List.map_map];exact h.tab
 ·have hi2:i<ps.length:=by simpa using hi
  have:=h.each ps[i] (List.getElem_mem hi2)
  have e:(ps.map Prod.snd).getD i []=ps[i].2:=by rw [List.getD_eq_getElem?_getD,List.getElem?_map,List.getElem?_eq_getElem hi2];rfl
  rw [e,List.getElem_map]
  exact this
theorem JZ {ps:List (Sl×List Nat)} (hb: ∀x∈ps,∀y∈x.2,y<256): ∀c∈(ps.map Prod.snd).flatten,c<256:=fun c hc=>by
 obtain ⟨l,hl,hc⟩:=List.mem_flatten.1 hc
 obtain ⟨x,hx,rfl⟩:=List.mem_map.1 hl
 exact hb x hx c hc
end
end Go.Proofs.YtcdpblipagajiaaGreat
namespace Go.Vc
open Go
theorem aZ.K1 {E w:World} {F:List HP} {s:Sl} {xs:List Value} {hi mx:Int} {k m:Nat} {K:Sl→Prop} (hh:Hp E w (ak 1 s xs::F)) (e1:hi=(k:Int)) (e2:mx=(m:Int)) (h1:k≤s.len) (h2:k≤m) (h3:m≤s.cap)
  (h: ∀s':Sl,Hp E w (ak 1 s' (xs.take k)::F)→s'.len=k→K s'):aZ s 0 hi mx 1 K:=by
 subst e1;subst e2
 have hl:=hh.aH
 refine ⟨by omega,by omega,by omega,by omega,h _ ?_ (by simp)⟩
 rcases hh.j9 with ⟨rfl,rfl,hF⟩|⟨b,off,arr,t,e1,e2,e3,e4,hB⟩
 ·simp only at h1 h3
  have e1:k=0:=by omega
  have e2:m=0:=by omega
  subst e1;subst e2
  simpa using hh
 ·have key:(if ((m:Nat):Int).toNat=(0:Int).toNat then s.base else s.base.map (·.add ((0:Int).toNat*1)))=some ⟨b,off,none⟩:=by
   rw [e1]
   simp [aq]
  rw [key]
  have hlen:(xs.take k).length=k*1:=by rw [List.length_take];omega
  refine hB.fM (by simpa using hlen) rfl (by simp only [Int.toNat_natCast,Int.toNat_zero];omega) (by simp only [Int.toNat_natCast,Int.toNat_zero];omega) fun i hi'=> ?_
  have hi2:i<xs.length:=by rw [hlen] at hi';omega
  rw [e4 _ hi2]
  simp
end Go.Vc
namespace Go.Stm
open Go.Inc Go.Srt Go.Sym Go.Bits Go.Tab Go.Hd Go.Crc Go.Bw Go.aj Go.Proofs.YtcdpblipagajiaaGreat
theorem Ba {n:Nat} (hn:0<n): ∀l:List (List Nat),(∀x∈l,0<x.length∧x.length≤n)→aY n l=l
 | [],_=>rfl
 |x::l,h=>by
  have h1:=h x List.mem_cons_self
  have hne:x≠ []:=fun e=>by rw [e] at h1;simp at h1
  rw [kX,Ba hn l fun y hy=>h y (List.mem_cons_of_mem _ hy),gu hne hn,List.take_of_length_le h1.2,List.drop_of_length_le h1.2,gE]
  rfl
theorem vG (n:Nat): ∀(m:Nat) (b:List Nat) (acc:List (List Nat)),b.length≤m→∃r,(fW n b acc).1=acc++r
 |m,b,acc,hm=>by
  rw [mf]
  cases hr:run (aB n) dW b with
  |short s=>exact ⟨[],by simp⟩
  |bad e=>exact ⟨[],by simp⟩
  |fin mk rest=>
   cases mk with
   |tail s=>exact ⟨[],by simp⟩
   |aC M P s=>
    simp only
    cases hu:da n b with
    |error e=>exact ⟨[],by simp⟩
    |ok p=>
     have hlt:=ky hu
     match m,hm with
     |0,hm=>omega
     |m+1,hm=>
      obtain ⟨r,e⟩:=vG n m p.2 (acc++ [p.1]) (by omega)
      exact ⟨p.1::r,by simp only;rw [e];simp⟩
end Go.Stm
namespace Go.Proofs.YtcdpblipagajiaaGreat
open Go Go.Vc Go.Srt Go.Inc Go.Sym Go.Tab Go.Hd Go.Bw Go.Bits Go.aj Go.Crc Go.Stm
section
variable {E w:World} {F:List HP}
set_option maxRecDepth 20000
theorem rU {n lead:Int} {ps:List (Sl×List Nat)} {o:List Nat} {s so:Sl} {K:Bool→World→Prop} (h:Hp E w F) (hs:ab F (ch s ps)) (hcaps: ∀x∈ps,x.1.len≤x.1.cap) (hb: ∀x∈ps,∀y∈x.2,y<256) (hso:ab F (aA 1 so (o.map vB))) (ho: ∀y∈o,y<256) (hoc:so.len≤so.cap) (hK: ∀w',Hp E w' F→K true w'):
  Cl Tryz.prog [kB] fA ⟨[.int .i64 n,.slice s.base s.len s.cap,.int .i64 lead,.slice so.base so.len so.cap]⟩ w K:=by
 refine qI.ok _ _ _ _ _ _ ?_
 rw [ax];dsimp only
 rw [ax];dsimp only
 have hol:=qd (h.al hso)
 refine CR (h.al hs) fun g hg=> ?_
 cases g with
 |true=>exact aa.t rfl (aa.t rfl (cx h hK))
 |false=>
  obtain ⟨h20,h150⟩:=hg rfl
  have hp:=Fk hcaps h20 h150
  refine aa.f rfl (aa.dm (fun _=>aa.t rfl (cx h hK)) (fun g1=>aa.dm (fun _=>aa.t rfl (cx h hK)) (fun g2=>aa.dm (fun _=>cx h hK) (fun g4=> ?_))))
  obtain ⟨N,rfl⟩: ∃N:Nat,n=(N:Int):=⟨n.toNat,by omega⟩
  have hN:1≤N:=by omega
  have hN2:N≤65536:=by omega
  have hbf:=JZ hb
  have hcf:=zI hN (ps.map Prod.snd)
  have hcok:=fP hN hbf
  refine EO h hs hp hN hN2 (by omega) fun pcs s15 w hpc hpcap hpT h=> ?_
  have hpl:pcs.length≤150:=by have:=congrArg List.length hpc;rw [List.length_map] at this;omega
  have l15:pcs.length=s15.len:=by have:=h.aH;simpa using this
  have c15:=h.dM
  obtain ⟨q,hq,hq2⟩: ∃q:Nat,(if (s15.len:Int)<(if 0>lead then 0 else lead) then (s15.len:Int) else (if 0>lead then 0 else lead))=(q:Int)∧q≤pcs.length:=by
   refine ⟨(if (s15.len:Int)<(if 0>lead then 0 else lead) then (s15.len:Int) else (if 0>lead then 0 else lead)).toNat,?_,?_⟩<;>repeat' split
   all_goals omega
  rw [hq]
  refine aZ.EK (h.al ab.own) (by omega) (by omega) (by omega) (by omega) (by omega) fun s16 hs16 hl16 hc16=> ?_
  have hsub: ∀(s':Sl),(∀w',aA 1 s15 (pcs.map fun x=> .slice x.1.base x.1.len x.1.cap) w'→aA 1 s' (((pcs.map fun x=> .slice x.1.base x.1.len x.1.cap).drop (0:Int).toNat).take (((q:Nat):Int).toNat - (0:Int).toNat)) w')→∀w,aA 1 s15 (pcs.map fun x=> .slice x.1.base x.1.len x.1.cap) w→aA 1 s' ((pcs.take q).map fun x=> .slice x.1.base x.1.len x.1.cap) w:=fun s' hs' w hw=>by
   have:=hs' w hw
   rw [show ((q:Int)).toNat - (0:Int).toNat=q by omega,Int.toNat_zero,List.drop_zero,←List.map_take] at this
   exact this
  have hs16:=hsub s16 hs16
  obtain ⟨l,hl⟩: ∃l,l=(pcs.take q).map Prod.snd:=⟨_,rfl⟩
  have hlm: ∀x∈l,0<x.length∧x.length≤N∧∀c∈x,c<256:=fun x hx=>by
   rw [hl,List.map_take,hpc] at hx
   exact hcok x (List.mem_of_mem_take hx)
  have hlq:l.length=q:=by rw [hl,List.length_map,List.length_take];omega
  have hid:aY N l=l:=Ba hN l fun x hx=>⟨(hlm x hx).1,(hlm x hx).2.1⟩
  have hlf: ∀c∈l.flatten,c<256:=fun c hc=>by
   obtain ⟨x,hx,hc⟩:=List.mem_flatten.1 hc
   exact (hlm x hx).2.2 c hc
  have hlfl:l.flatten.length≤150:=by
   have h1:=Dj (aY N (ps.map Prod.snd)) q
   rw [ng hN] at h1
   rw [hl,List.map_take,hpc];omega
  have tP: ∀{s':Sl} {G:List HP},(∀w,aA 1 s15 (pcs.map fun x=> .slice x.1.base x.1.len x.1.cap) w→aA 1 s' ((pcs.take q).map fun x=> .slice x.1.base x.1.len x.1.cap) w)→ab G (aA 1 s15 (pcs.map fun x=> .slice x.1.base x.1.len x.1.cap))→ab G (ch s ps)→ab G (ch s' (pcs.take q)):=fun hs' h1 h2=>
   (ab.and h1 h2).imp fun w h=>⟨hs' w h.1,fun x hx=>hpT w h.2 x (List.mem_of_mem_take hx)⟩
  have hpq:jB (pcs.take q):={
   caps:=fun x hx=>hpcap x (List.mem_of_mem_take hx)
   few:=by rw [List.length_take,av];omega
   small:=fun x hx=>by
    have:=(hlm x.2 (by rw [hl];exact List.mem_map.2 ⟨x,hx,rfl⟩)).2.1
    rw [av];omega}
  refine r6 h hN hN2 (tP hs16 ab.own hs.cons) hpq (fun x hx=>(hlm x.2 (by rw [hl];exact List.mem_map.2 ⟨x,hx,rfl⟩)).2.2) (by rw [←hl,hid];omega) fun s18 w h=> ?_
  rw [←hl] at h
  have hst:=C1 hN hN2 hlf
  rw [hid,hlq] at hst
  have hstb:=Ds hN hlf
  obtain ⟨Z,hZ⟩: ∃Z,Z=fp N++blocks cp l:=⟨_,rfl⟩
  have hS:iP cp N l=Z++lb (fg l.flatten):=by rw [hZ];unfold iP;rw [hid,List.append_assoc]
  have hml:(lb (fg l.flatten)).length=5:=rfl
  rw [hS] at h hst hstb
  rw [List.length_append,hml] at hst
  have hZb: ∀y∈Z,y<256:=fun y hy=>hstb y (List.mem_append.2 (.inl hy))
  have h:Hp E w (OB s18 (Z++lb (fg l.flatten))::ak 1 s15 (pcs.map fun x=> .slice x.1.base x.1.len x.1.cap)::F):=h
  have l18:=OB.len h
  have c18:=h.dM
  rw [List.length_append,hml] at l18
  rw [ax];dsimp only
  rw [ax];dsimp only
  refine aa.f rfl (aa.df (by omega) ?_)
  rw [ag (by omega)]
  refine aZ.K1 (k:=Z.length) (m:=Z.length) h (by omega) (by omega) (by omega) (by omega) (by omega) fun s25 h l25=> ?_
  rw [←List.map_take,List.take_left] at h
  have h:Hp E w (OB s25 Z::ak 1 s15 (pcs.map fun x=> .slice x.1.base x.1.len x.1.cap)::F):=h
  refine GI h hso.cons (by omega) (by omega) fun s27 w h=> ?_
  have hrd:dD (Z++o)=fW N o l:=by rw [hZ,List.append_assoc];exact vX G9 hN hN2 hlm o
  refine kr h ab.own (fun y hy=> ?_) (by rw [List.length_append];omega) h.dM fun s29 w _ h=> ?_
  ·rcases List.mem_append.1 hy with hy|hy
   ·exact hZb y hy
   ·exact ho y hy
  rw [hrd] at h⊢
  obtain ⟨r,hr⟩:=vG N o.length o l (Nat.le_refl _)
  rw [hr] at h⊢
  refine aZ.EK ((h.at 2).al ab.own) (by omega) (by omega) (by omega) (by omega) (by omega) fun s32 hs32 hl32 hc32=> ?_
  have hs32:=hsub s32 hs32
  refine IB h (tP hs32 (ab.at 2 ab.own) hs.cons.cons.cons) hpq.few (by rw [←hl,av];omega) fun s34 w h=> ?_
  rw [←hl] at h
  have l29:=OB.len (h.at 1)
  have c29:=(h.at 1).dM
  have l34:=OB.len h
  rw [List.flatten_append,List.length_append] at l29
  rw [ax];dsimp only
  rw [ax];dsimp only
  refine bo.Lg (fun t w=>t=false∧Hp E w F) ?_ fun r' hr'=> ?_
  ·rintro t w ⟨rfl,h⟩
   refine aa.f rfl ?_
   have hre:=mf N o l
   refine Fv h hN hN2 hso ho (by omega) hoc (fun s' w hm h=> ?_) (fun w hm h=> ?_) (fun M P u rs s5 w hm h=> ?_) (fun u rs s5 w hm h=> ?_)
   ·rw [hm] at hre
    rw [hre] at hr⊢
    have hr0:r= []:=by simpa using hr
    (with_reducible repeat first|refine Nw.mk h fun b w h=> ?_|refine ao.mk h fun w h=> ?_|refine Ld.xb h rfl ?_|refine Ld.xt h rfl ?_|refine ad.xb (fun _ h=>h) rfl ?_|refine ad.xt (fun _ h=>h) rfl ?_|refine ⟨h.hb,?_⟩|refine af.xw h rfl rfl fun w h=> ?_|(refine af.xs h rfl rfl fun w h=> ?_;dsimp only [ah,ae] at h)|(refine St.xs h rfl rfl fun w h=> ?_;dsimp only [ah,ae] at h)|refine aa.yes ?_|refine aa.no ?_|refine ⟨by first|omega|decide,?_⟩)
    have hcn:(((l++r).length:Nat):Int)=(q:Int):=by rw [hr0,List.append_nil];omega
    first
     |exact aa.et rfl (aa.et hcn (cx h fun w h=>hK w h.tl))
     |exact aa.et hcn (cx h fun w h=>hK w h.tl)
   ·rw [hm] at hre
    rw [hre] at hr⊢
    have hr0:r= []:=by simpa using hr
    (with_reducible repeat first|refine Nw.mk h fun b w h=> ?_|refine ao.mk h fun w h=> ?_|refine Ld.xb h rfl ?_|refine Ld.xt h rfl ?_|refine ad.xb (fun _ h=>h) rfl ?_|refine ad.xt (fun _ h=>h) rfl ?_|refine ⟨h.hb,?_⟩|refine af.xw h rfl rfl fun w h=> ?_|(refine af.xs h rfl rfl fun w h=> ?_;dsimp only [ah,ae] at h)|(refine St.xs h rfl rfl fun w h=> ?_;dsimp only [ah,ae] at h)|refine aa.yes ?_|refine aa.no ?_|refine ⟨by first|omega|decide,?_⟩)
    have hcn:(((l++r).length:Nat):Int)=(q:Int):=by rw [hr0,List.append_nil];omega
    first
     |exact aa.et rfl (aa.et hcn (cx h fun w h=>hK w h.tl))
     |exact aa.et hcn (cx h fun w h=>hK w h.tl)
   ·(with_reducible repeat first|refine Nw.mk h fun b w h=> ?_|refine ao.mk h fun w h=> ?_|refine Ld.xb h rfl ?_|refine Ld.xt h rfl ?_|refine ad.xb (fun _ h=>h) rfl ?_|refine ad.xt (fun _ h=>h) rfl ?_|refine ⟨h.hb,?_⟩|refine af.xw h rfl rfl fun w h=> ?_|(refine af.xs h rfl rfl fun w h=> ?_;dsimp only [ah,ae] at h)|(refine St.xs h rfl rfl fun w h=> ?_;dsimp only [ah,ae] at h)|refine aa.yes ?_|refine aa.no ?_|refine ⟨by first|omega|decide,?_⟩)
    simp only [aq,Nat.zero_add]
    (with_reducible repeat first|refine Nw.mk h fun b w h=> ?_|refine ao.mk h fun w h=> ?_|refine Ld.xb h rfl ?_|refine Ld.xt h rfl ?_|refine ad.xb (fun _ h=>h) rfl ?_|refine ad.xt (fun _ h=>h) rfl ?_|refine ⟨h.hb,?_⟩|refine af.xw h rfl rfl fun w h=> ?_|(refine af.xs h rfl rfl fun w h=> ?_;dsimp only [ah,ae] at h)|(refine St.xs h rfl rfl fun w h=> ?_;dsimp only [ah,ae] at h)|refine aa.yes ?_|refine aa.no ?_|refine ⟨by first|omega|decide,?_⟩)
    exact cx h fun w h=>hK w h.tl
   ·rw [hm] at hre
    rw [hre] at hr⊢
    have hr0:r= []:=by simpa using hr
    have hcn:(((l++r).length:Nat):Int)=(q:Int):=by rw [hr0,List.append_nil];omega
    (with_reducible repeat first|refine Nw.mk h fun b w h=> ?_|refine ao.mk h fun w h=> ?_|refine Ld.xb h rfl ?_|refine Ld.xt h rfl ?_|refine ad.xb (fun _ h=>h) rfl ?_|refine ad.xt (fun _ h=>h) rfl ?_|refine ⟨h.hb,?_⟩|refine af.xw h rfl rfl fun w h=> ?_|(refine af.xs h rfl rfl fun w h=> ?_;dsimp only [ah,ae] at h)|(refine St.xs h rfl rfl fun w h=> ?_;dsimp only [ah,ae] at h)|refine aa.yes ?_|refine aa.no ?_|refine ⟨by first|omega|decide,?_⟩)
    simp only [aq,Nat.zero_add]
    refine Ld.xb h rfl (aa.f rfl (aa.et hcn ?_))
    by_cases h1:u≠fg l.flatten
    ·rw [if_pos h1]
     exact aa.f rfl (aa.t rfl (cx h fun w h=>hK w h.tl))
    ·rw [if_neg h1]
     by_cases h2:rs≠ []
     ·rw [if_pos h2]
      exact aa.f rfl (aa.f rfl (aa.t rfl (cx h fun w h=>hK w h.tl)))
     ·rw [if_neg h2]
      exact aa.t rfl (cx h fun w h=>hK w h.tl)
  ·have h:=h.drew (n:=w.drawn+1)
   refine ⟨fun _=>True,trivial,aa.df (by rw [List.length_append];omega) (aa.df (by omega) ?_)⟩
   refine aZ.EK ((h.at 1).al ab.own) (by omega) (by omega) (by omega) (by omega) (by omega) fun s40 hs40 hl40 hc40=> ?_
   have hs40: ∀w,aA 1 s29 ((l++r).flatten.map vB) w→aA 1 s40 (l.flatten.map vB) w:=fun w hw=>by
    have:=hs40 w hw
    rw [show ((s34.len:Int)).toNat - (0:Int).toNat=l.flatten.length by omega,Int.toNat_zero,List.drop_zero,←List.map_take,List.flatten_append,List.take_left] at this
    exact this
   refine ⟨qZ (hs40 _ (h.al (ab.at 1 ab.own))) ⟨trivial,qZ (h.al ab.own) ⟨trivial,hr' _ _ ⟨by simp,h.tl⟩⟩⟩,qZ (h.al ab.own) ⟨trivial,qZ (hs40 _ (h.al (ab.at 1 ab.own))) ⟨trivial,hr' _ _ ⟨by simp,h.tl⟩⟩⟩⟩
end
end Go.Proofs.YtcdpblipagajiaaGreat
set_option maxRecDepth 20000
namespace Go.Vc
open Go Go.RowKit Go.ChangeShapes Go.WideShapes
section
variable {H:Type} {enc:TypeId×Value→H} {P:Program} {W:World}
def du (enc:TypeId×Value→H) (P:Program) (W:World) (t:TypeId) (cs:List Value):Prop:= ∃fuel x,DataW.trod enc P W 0 (fun _=>true) true fuel t cs=some x
theorem du.int {t:TypeId} {k:IntKind} {cs:List Value} (h:du enc P W t cs) (ht:P.underlying t=some (.int k)): ∃n,cs= [.int k n]∧(Lit.int k n).wf=true:=by
 obtain ⟨m,x,h⟩:=h
 obtain ⟨n,h1,_,h2⟩:=DataW.trod_int ht h
 exact ⟨n,h1,h2⟩
theorem du.bool {t:TypeId} {cs:List Value} (h:du enc P W t cs) (ht:P.underlying t=some .bool): ∃b,cs= [.bool b]:=by
 obtain ⟨m,x,h⟩:=h
 obtain ⟨n,h1,_⟩:=DataW.trod_bool ht h
 exact ⟨n,h1⟩
theorem du.string {t:TypeId} {cs:List Value} (h:du enc P W t cs) (ht:P.underlying t=some .string): ∃s:ByteArray,cs= [.string s]∧s.size≤maxLen:=by
 obtain ⟨m,x,h⟩:=h
 obtain ⟨n,h1,_,h2⟩:=DataW.trod_string ht h
 exact ⟨n,h1,h2⟩
theorem vk {a:Addr} {n:Nat} {cs:List Value} (h:W.cells? 0 a n=some cs):cs.length=n∧∀i (hi:i<cs.length),W.cell? (a.add i)=some cs[i]:=by
 unfold World.cells? at h
 rw [if_pos (Nat.zero_le _)] at h
 have hl:cs.length=n:=by simpa using mapM_some_length h
 refine ⟨hl,fun i hi=> ?_⟩
 have:=mapM_some_get h i i (List.getElem?_range (by omega))
 rw [this,List.getElem?_eq_getElem hi]
theorem rI {α:Type} {sz:Nat}: ∀{xs:List (List α)} (_: ∀x∈xs,x.length=sz) (i j:Nat) (hi:i<xs.length) (_:j<sz),xs.flatten[i*sz+j]? =xs[i][j]?
 |x::xs,h,0,j,_,hj=>by
  have hx:=h x (by simp)
  rw [List.flatten_cons,List.getElem?_append_left (by omega),Nat.zero_mul,Nat.zero_add];rfl
 |x::xs,h,i+1,j,hi,hj=>by
  have hx:=h x (by simp)
  rw [List.flatten_cons,List.getElem?_append_right (by rw [hx,Nat.succ_mul];omega),hx,show (i+1)*sz+j - sz=i*sz+j by rw [Nat.succ_mul];omega,
   rI (fun y hy=>h y (List.mem_cons_of_mem _ hy)) i j (by simpa using hi) hj]
  rfl
theorem su {α:Type} {sz:Nat}: ∀{xs:List (List α)} (_: ∀x∈xs,x.length=sz),xs.flatten.length=xs.length*sz
 | [],_=>by simp
 |x::xs,h=>by
  rw [List.flatten_cons,List.length_append,h x (by simp),su (fun y hy=>h y (List.mem_cons_of_mem _ hy)),List.length_cons,Nat.succ_mul];omega
theorem du.slice {t e:TypeId} {cs:List Value} (h:du enc P W t cs) (ht:P.underlying t=some (.slice e)):
  ∃(s:Sl) (xs:List (List Value)),cs= [.slice s.base s.len s.cap]∧s.len≤s.cap∧s.cap≤maxLen∧xs.length=s.len∧(∀x∈xs,du enc P W e x)∧(∀x∈xs,x.length=P.cellsOf e)∧aA (P.cellsOf e) s xs.flatten W:=by
 obtain ⟨m,x,h⟩:=h
 rcases DataW.trod_slice ht h with ⟨h1,_⟩|⟨a,len,cap,elems,rest,n,rfl,h1,_,_,hlc,hcm,hel,hget,_⟩
 ·exact ⟨⟨none,0,0⟩,[],h1,Nat.le_refl _,Nat.zero_le _,rfl,by simp,by simp,by simp,by simp⟩
 ·have hx: ∀i,i<len→∃cs,W.cells? 0 (a.add (i*P.cellsOf e)) (P.cellsOf e)=some cs∧du enc P W e cs:=by
   intro i hi
   have:=hget i hi
   rw [List.getElem?_eq_getElem (by omega)] at this
   obtain ⟨cs,h2,h3⟩:=Option.bind_eq_some_iff.1 this
   exact ⟨cs,h2,n,_,h3⟩
  have key: ∀k,k≤len→∃xs:List (List Value),xs.length=k∧∀i (hi:i<xs.length),W.cells? 0 (a.add (i*P.cellsOf e)) (P.cellsOf e)=some xs[i]∧du enc P W e xs[i]:=by
   intro k
   induction k with
   |zero=>exact fun _=>⟨[],rfl,fun i hi=>by simp at hi⟩
   |succ k ih=>
    intro hk
    obtain ⟨xs,hl,hxs⟩:=ih (by omega)
    obtain ⟨cs,h2,h3⟩:=hx k (by omega)
    refine ⟨xs++ [cs],by simp [hl],fun i hi=> ?_⟩
    by_cases hik:i<xs.length
    ·rw [List.getElem_append_left hik];exact hxs i hik
    ·have:i=k:=by simp [hl] at hi;omega
     subst this
     rw [List.getElem_append_right (by omega)]
     simp only [hl,Nat.sub_self,List.getElem_cons_zero]
     exact ⟨h2,h3⟩
  obtain ⟨xs,hl,hxs⟩:=key len (Nat.le_refl _)
  have hsz: ∀x∈xs,x.length=P.cellsOf e:=by
   intro x hx
   obtain ⟨i,hi,rfl⟩:=List.getElem_of_mem hx
   exact (vk (hxs i hi).1).1
  refine ⟨⟨some a,len,cap⟩,xs,h1,hlc,hcm,hl,fun x hx=> ?_,hsz,?_,fun i hi=>⟨a,rfl,?_⟩⟩
  ·obtain ⟨i,hi,rfl⟩:=List.getElem_of_mem hx
   exact (hxs i hi).2
  ·rw [su hsz,hl]
  ·rw [su hsz,hl] at hi
   have hz:0<P.cellsOf e:=by
    rcases Nat.eq_zero_or_pos (P.cellsOf e) with h0|h0
    ·rw [h0] at hi;simp at hi
    ·exact h0
   have e1:i/P.cellsOf e*P.cellsOf e+i % P.cellsOf e=i:=by rw [Nat.mul_comm];exact Nat.div_add_mod i _
   have hq:i/P.cellsOf e<xs.length:=by rw [hl];exact (Nat.div_lt_iff_lt_mul hz).2 hi
   have hr:=Nat.mod_lt i hz
   obtain ⟨c1,c2⟩:=vk (hxs _ hq).1
   have c3:=c2 (i % P.cellsOf e) (by omega)
   have c4:=rI hsz _ _ hq hr
   have c5:(a.add (i/P.cellsOf e*P.cellsOf e)).add (i % P.cellsOf e)=a.add i:=by
    conv=>rhs;rw [←e1]
    unfold Addr.add
    by_cases e1:i/P.cellsOf e*P.cellsOf e=0<;>by_cases e2:i % P.cellsOf e=0<;>simp [e1,e2,Nat.add_assoc]
   rw [c5] at c3
   rw [c3,←List.getElem?_eq_getElem,←c4]
   simp only [e1]
   exact List.getElem?_eq_getElem _
theorem du.struct {t:TypeId} {fs:Array Field} {cs:List Value} (h:du enc P W t cs) (ht:P.underlying t=some (.struct fs)):cs.length=P.cellsOf t∧∀(i:Nat) (f:Field),fs[i]? =some f→du enc P W f.type ((cs.drop f.offset).take (P.cellsOf f.type)):=by
 obtain ⟨m,x,h⟩:=h
 obtain ⟨xs,n,_,_,h2,h3,h4⟩:=DataW.trod_struct ht h
 refine ⟨h2,fun i f hf=> ?_⟩
 have hi:i<fs.size:=by
  rcases Nat.lt_or_ge i fs.size with hh|hh
  ·exact hh
  ·rw [Array.getElem?_eq_none hh] at hf;cases hf
 have:=h4 i f hf
 rw [List.getElem?_eq_getElem (by omega)] at this
 exact ⟨n,_,this⟩
def Em (P:Program) (t:TypeId) (i:Nat) (ft:TypeId) (off n:Nat):Bool:=match P.underlying t with
 |some (.struct fs)=>match fs[i]? with
  |some f=>f.type==ft&&f.offset==off&&P.cellsOf ft==n
  |none=>false
 |_=>false
theorem du.field {t:TypeId} {cs:List Value} (h:du enc P W t cs) (i:Nat) (ft:TypeId) (off n:Nat) (hf:Em P t i ft off n=true):du enc P W ft ((cs.drop off).take n):=by
 unfold Em at hf
 split at hf
 ·rename_i fs ht
  split at hf
  ·rename_i f hfi
   simp only [Bool.and_eq_true,beq_iff_eq] at hf
   obtain ⟨⟨rfl,rfl⟩,rfl⟩:=hf
   exact (h.struct ht).2 i f hfi
  ·cases hf
 ·cases hf
theorem du.array {t e:TypeId} {n:Nat} {cs:List Value} (h:du enc P W t cs) (ht:P.underlying t=some (.array n e)):cs.length=P.cellsOf t∧∀i,i<n→du enc P W e ((cs.drop (i*P.cellsOf e)).take (P.cellsOf e)):=by
 obtain ⟨m,x,h⟩:=h
 obtain ⟨xs,n',_,_,h2,h3,h4⟩:=DataW.trod_array ht h
 refine ⟨h2,fun i hi=> ?_⟩
 have:=h4 i hi
 rw [List.getElem?_eq_getElem (by omega)] at this
 exact ⟨n',_,this⟩
theorem qP {α β:Type} {g:α→β} {Good:α→Prop}: ∀{xs:List β} (_: ∀x∈xs,∃a,x=g a∧Good a),∃l:List α,xs=l.map g∧∀a∈l,Good a
 | [],_=>⟨[],rfl,by simp⟩
 |x::xs,h=>by
  obtain ⟨a,rfl,ha⟩:=h x (by simp)
  obtain ⟨l,rfl,hl⟩:=qP (fun y hy=>h y (List.mem_cons_of_mem _ hy))
  exact ⟨a::l,rfl,by simpa using ⟨ha,hl⟩⟩
theorem mB {α β:Type} {g:α→β} (l:List α):(l.map fun a=> [g a]).flatten=l.map g:=by
 induction l with
 |nil=>rfl
 |cons a l ih=>simp [ih]
theorem wf_u8 {n:Int} (h:(Lit.int .u8 n).wf=true):0≤n∧n≤255:=by
 simp [Lit.wf,IntKind.min,IntKind.max,IntKind.signed,IntKind.bits] at h
 exact h
def ow (W:World) (s:Sl) (b:List Nat):Prop:=aA 1 s (b.map vB) W∧(∀y∈b,y<256)∧s.len≤s.cap∧s.cap≤maxLen
theorem du.bytes {t e:TypeId} {cs:List Value} (h:du enc P W t cs) (ht:P.underlying t=some (.slice e)) (he:P.underlying e=some (.int .u8)) (hc:P.cellsOf e=1): ∃s b,cs= [.slice s.base s.len s.cap]∧ow W s b:=by
 obtain ⟨s,xs,h1,h2,h3,h4,h5,h6,h7⟩:=h.slice ht
 obtain ⟨l,rfl,hl⟩:=qP (g:=fun y:Nat=> [vB y]) (Good:=fun y=>y<256) (xs:=xs) fun x hx=>by
  obtain ⟨n,rfl,hn⟩:=(h5 x hx).int he
  have:=wf_u8 hn
  obtain ⟨m,rfl⟩:=Int.eq_ofNat_of_zero_le this.1
  exact ⟨m,rfl,by omega⟩
 rw [mB,hc] at h7
 exact ⟨s,l,h1,h7,hl,h2,h3⟩
theorem du.ints {t e:TypeId} {k:IntKind} {cs:List Value} (h:du enc P W t cs) (ht:P.underlying t=some (.slice e)) (he:P.underlying e=some (.int k)) (hc:P.cellsOf e=1):
  ∃s,∃l:List Int,cs= [.slice s.base s.len s.cap]∧aA 1 s (l.map (.int k)) W∧(∀y∈l,(Lit.int k y).wf=true)∧s.len≤s.cap∧s.cap≤maxLen:=by
 obtain ⟨s,xs,h1,h2,h3,h4,h5,h6,h7⟩:=h.slice ht
 obtain ⟨l,rfl,hl⟩:=qP (g:=fun y:Int=> [Value.int k y]) (Good:=fun y=>(Lit.int k y).wf=true) (xs:=xs) fun x hx=>by
  obtain ⟨n,rfl,hn⟩:=(h5 x hx).int he
  exact ⟨n,rfl,hn⟩
 rw [mB,hc] at h7
 exact ⟨s,l,h1,h7,hl,h2,h3⟩
theorem du.chunks {t e u:TypeId} {cs:List Value} (h:du enc P W t cs) (ht:P.underlying t=some (.slice e)) (he:P.underlying e=some (.slice u)) (hu:P.underlying u=some (.int .u8)) (hc:P.cellsOf e=1) (hcu:P.cellsOf u=1):
  ∃s,∃l:List (Sl×List Nat),cs= [.slice s.base s.len s.cap]∧aA 1 s (l.map fun a=> .slice a.1.base a.1.len a.1.cap) W∧(∀a∈l,ow W a.1 a.2)∧s.len≤s.cap∧s.cap≤maxLen:=by
 obtain ⟨s,xs,h1,h2,h3,h4,h5,h6,h7⟩:=h.slice ht
 obtain ⟨l,rfl,hl⟩:=qP (g:=fun a:Sl×List Nat=> [Value.slice a.1.base a.1.len a.1.cap]) (Good:=fun a=>ow W a.1 a.2) (xs:=xs) fun x hx=>by
  obtain ⟨s,b,rfl,hb⟩:=(h5 x hx).bytes he hu hcu
  exact ⟨(s,b),rfl,hb⟩
 rw [mB,hc] at h7
 exact ⟨s,l,h1,h7,hl,h2,h3⟩
def Arg (enc:TypeId×Value→H) (P:Program) (W:World) (t:TypeId) (v:Value):Prop:=(∃base,Value.okWide P W .any base t v)∧du enc P W t v.cells.toList
def Cp (enc:TypeId×Value→H) (P:Program) (W:World):List TypeId→List Value→Prop
 | [],vs=>vs= []
 |t::ts,vs=> ∃v vs',vs=v::vs'∧Arg enc P W t v∧Cp enc P W ts vs'
theorem Arg.one {t:TypeId} {v:Value} (h:Arg enc P W t v) (hv:v.cells.toList= [v]):du enc P W t [v]:=by
 have:=h.2
 rwa [hv] at this
theorem Arg.slice {t e:TypeId} {v:Value} (h:Arg enc P W t v) (ht:P.underlying t=some (.slice e)):du enc P W t [v]:=by
 obtain ⟨base,hb⟩:=h.1
 obtain ⟨a,l,c,rfl⟩:=okWide_slice ht hb
 exact h.one rfl
theorem Arg.bytes {t e:TypeId} {v:Value} (h:Arg enc P W t v) (ht:P.underlying t=some (.slice e)) (he:P.underlying e=some (.int .u8)) (hc:P.cellsOf e=1): ∃s b,v= .slice s.base s.len s.cap∧ow W s b:=by
 obtain ⟨s,b,h1,h2⟩:=(h.slice ht).bytes ht he hc
 exact ⟨s,b,by simpa using h1,h2⟩
theorem Arg.ints {t e:TypeId} {k:IntKind} {v:Value} (h:Arg enc P W t v) (ht:P.underlying t=some (.slice e)) (he:P.underlying e=some (.int k)) (hc:P.cellsOf e=1):
  ∃s,∃l:List Int,v= .slice s.base s.len s.cap∧aA 1 s (l.map (.int k)) W∧(∀y∈l,(Lit.int k y).wf=true)∧s.len≤s.cap∧s.cap≤maxLen:=by
 obtain ⟨s,l,h1,h2⟩:=(h.slice ht).ints ht he hc
 exact ⟨s,l,by simpa using h1,h2⟩
theorem Arg.chunks {t e u:TypeId} {v:Value} (h:Arg enc P W t v) (ht:P.underlying t=some (.slice e)) (he:P.underlying e=some (.slice u)) (hu:P.underlying u=some (.int .u8)) (hc:P.cellsOf e=1) (hcu:P.cellsOf u=1):
  ∃s,∃l:List (Sl×List Nat),v= .slice s.base s.len s.cap∧aA 1 s (l.map fun a=> .slice a.1.base a.1.len a.1.cap) W∧(∀a∈l,ow W a.1 a.2)∧s.len≤s.cap∧s.cap≤maxLen:=by
 obtain ⟨s,l,h1,h2⟩:=(h.slice ht).chunks ht he hu hc hcu
 exact ⟨s,l,by simpa using h1,h2⟩
theorem Arg.int {t:TypeId} {k:IntKind} {v:Value} (h:Arg enc P W t v) (ht:P.underlying t=some (.int k)): ∃n,v= .int k n∧(Lit.int k n).wf=true:=by
 obtain ⟨base,hb⟩:=h.1
 obtain ⟨n,rfl⟩:=okWide_int ht hb
 obtain ⟨m,h1,h2⟩:=(h.one rfl).int ht
 cases h1
 exact ⟨n,rfl,h2⟩
theorem Arg.string {t:TypeId} {v:Value} (h:Arg enc P W t v) (ht:P.underlying t=some .string): ∃s:ByteArray,v= .string s∧s.size≤maxLen:=by
 obtain ⟨base,hb⟩:=h.1
 obtain ⟨n,rfl⟩:=okWide_string ht hb
 obtain ⟨m,h1,h2⟩:=(h.one rfl).string ht
 cases h1
 exact ⟨n,rfl,h2⟩
theorem Arg.struct {t:TypeId} {fs:Array Field} {v:Value} (h:Arg enc P W t v) (ht:P.underlying t=some (.struct fs)): ∃cs,v= .agg cs∧du enc P W t cs.toList:=by
 obtain ⟨base,hb⟩:=h.1
 obtain ⟨cs,rfl,_⟩:=okWide_struct ht hb
 exact ⟨cs,rfl,h.2⟩
theorem BB: ∀{ts:List TypeId} {vs:List Value} {ds:List (DataW H)} {ps:List MemPlace},DataW.TrodAll enc P W 0 (fun _=>true) true ts vs ds ps→(∀(j:Nat) t v,ts[j]? =some t→vs[j]? =some v→∃base,Value.okWide P W .any base t v)→Cp enc P W ts vs
 | [],[],[],_,_,_=>rfl
 |t::ts,v::vs,d::ds,ps,h,hv=>by
  obtain ⟨p,q,⟨fuel,h1⟩,h2,_⟩:=h
  exact ⟨v,vs,rfl,⟨hv 0 t v rfl rfl,fuel,_,h1⟩,BB h2 fun j t' v' a b=>hv (j+1) t' v' a b⟩
theorem rA: ∀{ts:List TypeId} {vs:List Value} {ds:List (DataW H)} {ps:List MemPlace},DataW.TrodAll enc P W 0 (fun _=>true) true ts vs ds ps→ds.length=ts.length
 | [],[],[],_,_=>rfl
 |_::_,_::_,_::_,_,h=>by
  obtain ⟨p,q,_,h2,_⟩:=h
  simp [rA h2]
theorem pO (hl:laidOutB P=true) {W':World} (hb:Below W.heap.size W W'): ∀{ts:List TypeId} {vs:List Value} {ds:List (DataW H)} {ps:List MemPlace},DataW.TrodAll enc P W 0 (fun _=>true) true ts vs ds ps→
  (∀t∈ts,P.readableRec t=true∧t<P.types.size)→∃qs,DataW.TrodAll enc P W' 0 (fun b=>decide (b<W.heap.size)) true ts vs ds qs
 | [],[],[],_,_,_=>⟨[],rfl⟩
 |t::ts,v::vs,d::ds,ps,h,hr=>by
  obtain ⟨p,q,h1,h2,_⟩:=h
  obtain ⟨qs,h3⟩:=pO hl hb h2 fun t ht=>hr t (List.mem_cons_of_mem _ ht)
  obtain ⟨ht1,ht2⟩:=hr t (by simp)
  have hlt: ∀x∈p,x.block<W.heap.size:=by obtain ⟨m,hm⟩:=h1;exact DataW.trod_lt m _ _ _ hm
  exact ⟨_,p,qs,Below.trod hl ht1 ht2 h1 hb hlt,h3,rfl⟩
theorem GK {C:Checked} {os:Os} {f:FuncId} {fn:Func} {s:ChangeSpec} {conds:List PathCond} {tb:TypeId}
  (own:ownKnob C.prog.godebug=none) (started:os.Started) (noInit:C.prog.inits.idxOf? f=none) (hfn:C.prog.funcs[f]? =some fn)
  (witness: ∃(w:World) (tape:Tape) (i:Input),w.os=os∧(w.forCall tape i).Shaped C.prog∧i.vars= []∧Input.okWide C.prog (w.forCall tape i) .any w.heap.size f i∧
   s.pre6 enc C.prog fn conds false (w.forCall tape i).memory i.args∧({}:Assume).holds C.prog (lone (Frame.enter C.prog f i.args .normal) [] (w.forCall tape i)))
  (hvars:s.vars= []) (hres:fn.resultTypes= #[tb]) (htb:C.prog.underlying tb=some .bool)
  (hspec: ∀ds:List (DataW H),ds.length=fn.params.toList.length→s.fn H ds={results:= [.lit (.bool true)],args:=ds})
  (laid:laidOutB C.prog=true) (hr:fn.params.toList.all (fun t=>C.prog.readableRec t&&decide (t<C.prog.types.size))=true)
  (contract: ∀(W:World) (args:Array Value) (ds:List (DataW H)),Cp enc C.prog W fn.params.toList args.toList→(DataW.weightsEach C.prog fn.params.toList ds).all (·≤reachBytes)=true→
   Cl C.prog [kB] f args W (fun b w'=>b=true∧Below W.heap.size W w')):
  ReturnsInHanded {} C os f .any (s.pre6 enc C.prog fn conds false) (s.post enc C.prog fn false true false false):=by
 refine returnsInHanded_of_change_sized own started noInit hfn witness ?_
 intro W base args ds gs before hval hW _ hz _
 have hW':=hW
 obtain ⟨p,q,hA,hV,rfl,hfz,hnd⟩:=hW
 rw [hvars] at hV
 obtain ⟨rfl,rfl⟩:=trodVars_none hV
 have hlen:=rA hA
 have hz':(DataW.weightsEach C.prog fn.params.toList ds).all (·≤reachBytes)=true:=by
  have e:s.plain.varTypes C.prog= []:=by
   simp [DataSpec.varTypes,ChangeSpec.plain,hvars]
  rw [e,List.append_nil,List.append_nil] at hz
  exact hz
 have hargs:=BB (vs:=args.toList) hA fun j t v ht hv=>⟨base,hval j t v (by simpa using ht) (by simpa using hv)⟩
 refine Calls.mono (contract W args ds hargs hz') fun e W' hp=> ?_
 cases e with
 |returned v=>
  obtain ⟨b,hv,hb,bel⟩:=Ki.bY (k:=kB) hp
  subst hb
  have hv:v= .bool true:=hv
  subst hv
  have hsp:=hspec ds hlen
  obtain ⟨qs,hq⟩:=pO laid bel hA fun t ht=>by
   have:=List.all_eq_true.1 hr t ht
   simpa using this
  refine ⟨_,rfl,ds,[],_,[],qs,[],hW',?_,?_,?_,bel.frame _,fun h=>by cases h⟩
  ·rw [List.append_nil,hsp,hres]
   exact trodAll_mk1 (shut_bool htb _)
  ·rw [List.append_nil,hsp];exact hq
  ·rw [hvars]
   have:(s.fn H (ds++ [])).vars= []:=by rw [List.append_nil,hsp]
   rw [this];rfl
 |_=>exact absurd hp (by intro h;exact h)
end
end Go.Vc
set_option maxRecDepth 20000
namespace Go.Vc
open Go Go.RowKit Go.ChangeShapes Go.WideShapes
section
variable {H:Type} {enc:TypeId×Value→H} {P:Program} {W:World}
theorem Arg.agg {t e:TypeId} {n:Nat} {v:Value} (h:Arg enc P W t v) (ht:P.underlying t=some (.array n e)): ∃cs,v= .agg cs∧du enc P W t cs.toList:=by
 obtain ⟨base,hb⟩:=h.1
 simp only [Value.okWide,ht] at hb
 obtain ⟨cs,rfl,_⟩:=hb
 exact ⟨cs,rfl,h.2⟩
theorem du.fU {t e:TypeId} {n:Nat} {k:IntKind} {cs:List Value} (h:du enc P W t cs) (ht:P.underlying t=some (.array n e)) (he:P.underlying e=some (.int k)) (hc:P.cellsOf e=1) (hn:P.cellsOf t=n):
  ∃l:List Int,cs=l.map (.int k)∧l.length=n∧∀y∈l,(Lit.int k y).wf=true:=by
 obtain ⟨h1,h2⟩:=h.array ht
 rw [hn] at h1
 rw [hc] at h2
 have key: ∀m,m≤n→∃l:List Int,cs.take m=l.map (.int k)∧l.length=m∧∀y∈l,(Lit.int k y).wf=true:=by
  intro m
  induction m with
  |zero=>exact fun _=>⟨[],by simp,rfl,by simp⟩
  |succ m ih=>
   intro hm
   obtain ⟨l,e1,e2,e3⟩:=ih (by omega)
   obtain ⟨x,hx,hw⟩:=(h2 m (by omega)).int he
   rw [Nat.mul_one] at hx
   have hmc:m<cs.length:=by omega
   have hx2:cs[m]= .int k x:=by
    rw [List.drop_eq_getElem_cons hmc,List.take_succ_cons,List.take_zero] at hx
    exact (List.cons.inj hx).1
   refine ⟨l++ [x],?_,by simp [e2],?_⟩
   ·rw [List.take_add_one,e1,List.getElem?_eq_getElem hmc,hx2];simp
   ·intro y hy
    rcases List.mem_append.1 hy with hy|hy
    ·exact e3 y hy
    ·have:y=x:=by simpa using hy
     rw [this];exact hw
 obtain ⟨l,e1,e2,e3⟩:=key n (Nat.le_refl _)
 rw [List.take_of_length_le (by omega)] at e1
 exact ⟨l,e1,e2,e3⟩
end
end Go.Vc
