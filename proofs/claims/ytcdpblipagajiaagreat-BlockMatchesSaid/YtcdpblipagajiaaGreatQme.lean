/- Texts packed together by program; spaces struck by program. Conditions: as each theorem states. -/
import Derived.Test.YtcdpblipagajiaaGreatQmd
set_option linter.unusedSimpArgs false
set_option linter.unusedVariables false
namespace Go.Proofs.YtcdpblipagajiaaGreat
open Go Go.Vc Go.Srt Go.Inc Go.Sym Go.Tab Go.Hd Go.Bw Go.Bits Go.aj Go.Crc
section
variable {E w:World} {F:List HP}
set_option maxRecDepth 20000
theorem yP {s:Sl} {b:List Nat} {K:Sl→World→Prop} (h:Hp E w F) (hs:ab F (aC 1 s (b.map vB))) (hn:b.length≤cA) (hK: ∀s' w',Hp E w' (al 1 s' (b.reverse.map vB)::F)→K s' w'):
  Cl Tryz.prog [kS] iG ⟨[.slice s.base s.len s.cap]⟩ w K:=by
 refine AQ.ok _ _ _ ?_
 exact xU h hs (by omega) fun s' w h=>xZ h hn fun w h=>hK s' w h
theorem rF {s:Sl} {x:List Nat} {K:Sl→Int→World→Prop} (h:Hp E w F) (hs:ab F (aC 1 s (x.map vB))) (hb: ∀y∈x,y<256) (hn:x.length≤400000) (hK: ∀s' w',Hp E w' (al 1 s' ((aU x.reverse).map vB)::F)→K s' (bG x.reverse:Int) w'):
  Cl Tryz.prog [kS,kI] eA ⟨[.slice s.base s.len s.cap]⟩ w K:=by
 refine Cd.ok _ _ _ ?_
 refine yP h hs (by rw [aB];omega) fun s' w h=> ?_
 exact H5 h ab.own (fun y hy=>hb y (List.mem_reverse.1 hy)) (by simpa using hn) fun s2 w h=>hK s2 w h.bY
theorem o7 {s:Sl} {x:List Nat} {K:Sl→World→Prop} (h:Hp E w F) (hs:ab F (aC 1 s (x.map vB))) (hb: ∀y∈x,y<256) (hn:x.length≤400000) (hK: ∀s' w',Hp E w' (al 1 s' ((ints (syms (aU x.reverse))).map vI)::F)→K s' w'):
  Cl Tryz.prog [kS] dI ⟨[.slice s.base s.len s.cap]⟩ w K:=by
 refine zg.ok _ _ _ ?_
 refine rF h hs hb hn fun s' w h=> ?_
 exact D0 h ab.own (qj fun y hy=>hb y (List.mem_reverse.1 hy)) (by rw [cj,List.length_reverse];omega) fun s2 w h=>hK s2 w h.bY
theorem yg {s:Sl} {ss:List Nat} {K:Array Value→World→Prop} (h:Hp E w F) (hs:ab F (aC 1 s ((ints ss).map vI))) (hb: ∀y∈ss,y≤257) (hn:ss.length≤1000000) (hK: ∀w',Hp E w' F→K (ai .u8 (tJ ss)) w'):
  Cl Tryz.prog [.arr 258] gS ⟨[.slice s.base s.len s.cap]⟩ w K:=by
 refine zu.ok _ _ _ ?_
 have hct:=Dp hb
 have hall:(ints ss).all Hs.kT=true:=by
  refine List.all_eq_true.2 fun z hz=> ?_
  obtain ⟨y,hy,rfl⟩:=List.mem_map.1 hz
  have:=hb y hy
  exact Hs.iF.2 (by omega)
 have hmx:=tM (ss:=ss) (by omega)
 have hval:Hs.a7 (ints (gM ss))=true:=iU hmx
 have hadd:Hs.cY (List.replicate 258 0) (ints ss)=some (ints (gM ss)):=by
  rw [←hct]
  exact Hs.qJ (by decide) hall (by rw [hct];exact hval)
 have hsz:(aT (ints (gM ss))).size=258:=by rw [bN,cF,j9]
 have hsc:(aT (ints (gM ss))).toList.all aA=true:=List.all_eq_true.2 Vc.cV
 have hlen:=kb ss
 have hls:(ai .u8 (tJ ss)).size=258:=by rw [ax,hlen]
 have hlc:(ai .u8 (tJ ss)).toList.all aA=true:=List.all_eq_true.2 bk
 refine Nw.mk h fun b3 w h=>Ny h (ab.cons hs) (by rw [cF,aB];omega) fun w h=> ?_
 rw [show cD=List.replicate 258 0 from rfl,hadd]
 refine Nw.mk h fun b8 w h=>an.q h (by simp) hsz hsc fun w h=>Ld.xw h hsz ?_
 refine Ib (vJ (by omega)) h fun w h=> ?_
 refine Nw.mk h fun b15 w h=>an.q h (by simp) hls hlc fun w h=>Ld.xw h hls ?_
 refine an.q h (by simp) hls hlc fun w h=>Ld.xw h hls (hK w h.tl)
theorem n5 {x:List Nat} (hn:x.length≤400000):(syms (aU x.reverse)).length≤400001:=by
 have:=lA (aU x.reverse)
 rw [cj,List.length_reverse] at this
 omega
theorem og {x:List Nat} (hb: ∀y∈x,y<256): ∀y∈syms (aU x.reverse),y≤257:=fun y hy=>by
 have:=Sym.xQ (b:=aU x.reverse) (qj fun y hy=>hb y (List.mem_reverse.1 hy)) y hy
 omega
theorem wM {s:Sl} {x:List Nat} {K:Array Value→World→Prop} (h:Hp E w F) (hs:ab F (aC 1 s (x.map vB))) (hb: ∀y∈x,y<256) (hn:x.length≤400000) (hK: ∀w',Hp E w' F→K (ai .u8 (bB x)) w'):
  Cl Tryz.prog [.arr 258] gJ ⟨[.slice s.base s.len s.cap]⟩ w K:=by
 refine zk.ok _ _ _ ?_
 have hls:(ai .u8 (bB x)).size=258:=by rw [ax];exact kb _
 have hlc:(ai .u8 (bB x)).toList.all aA=true:=List.all_eq_true.2 bk
 refine Nw.mk h fun b3 w h=>o7 h (ab.cons hs) hb hn fun s' w h=> ?_
 refine yg h ab.own (og hb) (by have:=n5 hn;omega) fun w h=> ?_
 refine an.q h (by simp) hls hlc fun w h=>Ld.xw h hls (hK w h.tl)
theorem mc (l ss:List Nat):iu l (ints ss)=enc l ss:=by
 unfold iu ints
 rw [List.map_map]
 congr 1
 exact (List.map_congr_left fun x _=>by simp).trans (List.map_id _)
theorem yM {l ss:List Nat} (h: ∀s∈ss,gU l s) (hs: ∀s∈ss,s≤257):jW l (ints ss)=true:=by
 refine List.all_eq_true.2 fun z hz=> ?_
 obtain ⟨y,hy,rfl⟩:=List.mem_map.1 hz
 have:=h y hy
 have:=hs y hy
 exact pn.2 ⟨by omega,by omega,by simpa using (h y hy).2⟩
theorem AH {n:Int} {s:Sl} {x:List Nat} {K:Sl→Int→World→Prop} (h:Hp E w F) (hs:ab F (aC 1 s (x.map vB))) (hb: ∀y∈x,y<256) (hn:x.length≤65536)
  (hgood:1≤n→n≤65536→1≤x.length→(x.length:Int)≤n→∀s' w',Hp E w' (al 1 s' ((kF (bB x) x).map vB)::F)→K s' 0 w')
  (hbad: ¬(1≤n∧n≤65536∧1≤x.length∧(x.length:Int)≤n)→∀w',Hp E w' F→K ⟨none,0,0⟩ 2 w'):
  Cl Tryz.prog [kS,kI] c8 ⟨[.int .i64 n,.slice s.base s.len s.cap]⟩ w K:=by
 refine Ft.ok _ _ _ _ ?_
 have hlen:x.length=s.len:=by have:=(h.ag hs).1;simpa using this
 refine rF h hs hb (by omega) fun s4 w h=>Nw.mk h fun b7 w h=> ?_
 have hcrc:lf x<4294967296:=sF hb
 refine JN (s:=⟨some ⟨b7,0,none⟩,1,1⟩) (cs:= [s]) (bs:= [x]) h (ab.aF rfl rfl) rfl (by rw [aB];simp) (fun i hi=> ?_) (by simpa using hb) (by simp [aB];omega) fun w h=> ?_
 ·match i,hi with
  |0,_=>exact ab.cons (ab.cons hs)
 rw [show [x].flatten=x by simp,←hlen]
 have hidx:bG x.reverse≤x.length:=by
  by_cases h0:x= []
  ·subst h0;decide
  ·have:=oJ (t:=x.reverse) (by rw [List.length_reverse];exact List.length_pos_iff.2 h0)
   rw [List.length_reverse] at this;omega
 refine Gu h (by omega) (by omega) hcrc (fun h1 h2 h3 h4 h5 h6 s11 w h=> ?_) (fun hno w h=> ?_)
 ·refine aa.nf rfl ?_
  have hL:=mM h3 (by omega) hb
  have hbl: ∀y∈aU x.reverse,y<256:=qj fun y hy=>hb y (List.mem_reverse.1 hy)
  have hls:(ai .u8 (bB x)).size=258:=by rw [ax];exact hL.len
  have hlc:(ai .u8 (bB x)).toList.all aA=true:=List.all_eq_true.2 bk
  refine D0 h (ab.at 2 ab.own) hbl (by rw [cj,List.length_reverse];omega) fun s14 w h=> ?_
  refine yg h ab.own (og hb) (by have:=n5 (x:=x) (by omega);omega) fun w h=> ?_
  refine Nw.mk h fun b18 w h=>an.q h (by simp) hls hlc fun w h=>LO h fun b w h=>Ld.xw h hls ?_
  refine K0 h hL.len hL.ok (by simp) fun w h=>Ld.xw h hls ?_
  have hsl:=n5 (x:=x) (by omega)
  refine Mi h hL.len (ab.at 1 ab.own) (by rw [cF];have:=lA (aU x.reverse);rw [cj,List.length_reverse] at this;omega) ?_ (fun hno=>absurd ⟨hL.v,yM hL.good (og hb)⟩ hno) fun _ _ w h=> ?_
  ·have:=kG hL.len hL.ok
   rw [List.nil_append];omega
  rw [List.nil_append,mc] at h
  refine JD h fun s29 w h=> ?_
  have hpl:=il (dr (bB x)++enc (bB x) (syms (aU x.reverse)))
  have hel:=lj hL.v (ints (syms (aU x.reverse)))
  rw [mc,cF] at hel
  have htl:=kG hL.len hL.ok
  have l1:=h.a6
  have l2:=(h.at 4).a6
  rw [List.length_map,Nat.mul_one] at l1 l2
  have hml:(fR x.length (bG x.reverse) (lf x)).length≤20:=by
   have h1:=fu (n:=x.length) (by omega)
   have h2:=fu (n:=bG x.reverse) (by omega)
   unfold fR
   simp [gn]
   omega
  rw [List.length_append] at hpl
  refine aP (s:=s11) (n:=s29.len) q0 (by decide) (.inl ⟨5,by kernel_rfl⟩) (h.at 4) (.inl ⟨s29.base,s29.len,s29.cap,rfl,rfl,h.ag ab.own⟩) (by rw [List.length_map,l1,Nat.mul_one]) eX (by omega) (by omega) fun s31 w h _=>hgood h1 h2 h3 h4 s31 w ?_
  rw [show (kF (bB x) x).map vB=(fR x.length (bG x.reverse) (lf x)).map vB++(pack (dr (bB x)++enc (bB x) (syms (aU x.reverse)))).map vB by unfold kF body;rw [List.map_append]]
  exact h.bY
 ·refine aa.nt (by decide) (hbad (fun hh=>hno ?_) w h.tl)
  have:=oJ (t:=x.reverse) (by rw [List.length_reverse];omega)
  rw [List.length_reverse] at this
  exact ⟨hh.1,hh.2.1,hh.2.2.1,hh.2.2.2,this.1,this.2⟩
end
end Go.Proofs.YtcdpblipagajiaaGreat
namespace Go.aj
open Go.Inc Go.Srt Go.Sym Go.Bits Go.Tab Go.Hd Go.Crc Go.Bw Go.Proofs.YtcdpblipagajiaaGreat
theorem GM {x:List Nat} (h0:0<x.length) (hb: ∀y∈x,y<256) (hn:x.length≤65536):(kF (bB x) x).length≤200000:=by
 have hL:=mM h0 (by omega) hb
 have h1:=fu (n:=x.length) (by omega)
 have hidx:=oJ (t:=x.reverse) (by rw [List.length_reverse];exact h0)
 rw [List.length_reverse] at hidx
 have h2:=fu (n:=bG x.reverse) (by omega)
 have h3:=kG hL.len hL.ok
 have h4:=lj hL.v (ints (syms (aU x.reverse)))
 rw [mc,cF] at h4
 have h5:=lA (aU x.reverse)
 rw [cj,List.length_reverse] at h5
 unfold kF fR body
 rw [List.length_append,il,List.length_append,List.length_cons,List.length_append,List.length_append,show (gn (lf x)).length=4 from rfl]
 omega
end Go.aj
namespace Go.Proofs.YtcdpblipagajiaaGreat
open Go Go.Vc Go.Srt Go.Inc Go.Tab
section
variable {E w:World} {F:List HP}
theorem Ar (b n:Int):(⟨List.replicate 258 (.int .u8 0)++ [.int .i64 0,.int .i64 b,.int .i64 n,.int .i64 0]⟩:Array Value)=dK (List.replicate 258 0) 0 b n 0:=by
 unfold dK wu
 rw [List.map_replicate];rfl
theorem bU.tb {b n:Int} {K:Array Value→Prop} (hK:K (dK (List.replicate 258 0) 0 b n 0)):bU Tryz.prog 141 [(2,.int .i64 b),(3,.int .i64 n)] K:=by
 refine ⟨_,(by kernel_rfl:Tryz.prog.built 141 [(2,.int .i64 b),(3,.int .i64 n)]=some ⟨List.replicate 258 (.int .u8 0)++ [.int .i64 0,.int .i64 b,.int .i64 n,.int .i64 0]⟩),?_⟩
 rw [Ar];exact hK
set_option maxRecDepth 20000
theorem Ni {c x:Nat} (hx:x≤1) (hc:c<16384):kR .i64 (bq .i64 (c:Int) 1) (x:Int)=((2*c+x:Nat):Int):=Hm hx hc
theorem aN {l:List Nat} {s b n wy:Int}:(dK l s b n wy).toList.all aA=true:=by
 unfold dK wu
 rw [List.all_append,List.all_map]
 rw [Bool.and_eq_true]
 exact ⟨List.all_eq_true.2 fun _ _=>rfl,rfl⟩
theorem aO {l:List Nat} {s b n wy:Int} (hl:l.length=258):(dK l s b n wy).size=262:=by simp [hl]
theorem D9 {l:List Nat} {i x:Nat}:(wu l).set i (.int .u8 (x:Int))=wu (l.set i x):=by
 unfold wu
 rw [List.map_set]
def NL (t:TS) (x:Nat) (E:World) (F:List HP) (K:Array Value→Bool→World→Prop):Prop:=
 (∀t' w',bf bz t x= .more t'→Hp E w' F→K (dK (pad t'.l) (t'.l.length:Int) (t'.bits:Int) (t'.now:Int) (t'.way:Int)) true w')∧
 (∀l n w',bf bz t x= .fin l→Hp E w' F→K (dK l 258 4 n 0) true w')∧
 (∀o w',bf bz t x= .bad 100→o.size=262→o.toList.all aA=true→Hp E w' F→K o false w')
theorem Lh {t:TS} {x:Nat} {K:Array Value→Bool→World→Prop} (h:Hp E w F) (ht:gh t) (hx:x≤1) (hK:NL t x E F K):
  Cl Tryz.prog [.arr 262,kB] iv ⟨[.agg (dK (pad t.l) (t.l.length:Int) (t.bits:Int) (t.now:Int) (t.way:Int)),.int .i64 (x:Int)]⟩ w K:=by
 obtain ⟨k1,k2,k3⟩:=hK
 obtain ⟨l,bits,now,way⟩:=t
 unfold gh at ht
 unfold bf at k1 k2 k3
 dsimp only at ht k1 k2 k3⊢
 have hl:l.length≤258:=by
  rcases ht with ⟨_,h,_⟩|⟨_,h,_⟩
  ·rw [h];simp
  ·omega
 have hL:=iL (bh hl)
 have hz:((⟨List.replicate 258 (.int .u8 0)++ [.int .i64 0,.int .i64 0,.int .i64 0,.int .i64 0]⟩:Array Value)).size=262:=by simp
 refine uD.ok _ _ _ _ ?_
 (try simp only [aD,aw,ar,Nat.zero_add,Nat.add_zero,Nat.reduceAdd,Bool.not_true,Bool.not_false,aZ,aX,Option.isNone])
 refine Nw.mk h fun b4 w h=>Nw.mk h fun b6 w h=> ?_
 have out: ∀{w:World} {l':List Nat} {s b n wy:Int} {K':World→Array Value→Prop},l'.length=258→
   Hp E w (aj b6 (.cells ⟨List.replicate 258 (.int .u8 0)++ [.int .i64 0,.int .i64 0,.int .i64 0,.int .i64 0]⟩ 141 (0,0))::aj b4 (.cells (dK l' s b n wy) 141 (0,0))::F)→
   (∀w',Hp E w' F→K' w' (dK l' s b n wy))→
   an 262 ⟨b6,0,none⟩ (dK l' s b n wy) w fun w1=>Ld (.arr 262) ⟨b6,0,none⟩ w1 fun r=>K' w1 r:=by
  intro w l' s b n wy K' hl' h hk
  refine an.q h hz (aO hl') aN fun w h=> ?_
  exact Ld.xw h (aO hl') (hk _ h.tl)
 rcases ht with ⟨h1,h2,h3,h4⟩|⟨h1,h2,h3,h4,h5⟩
 ·subst h2 h4
  simp only [if_pos h1] at k1 k2 k3
  have hnow:now<16384:=by
   have:2^bits≤2^3:=Nat.pow_le_pow_right (by decide) (by omega)
   omega
  (with_reducible repeat first|refine Nw.mk h fun b w h=> ?_|refine au.mk h fun w h=> ?_|refine Ld.q h hL rfl rfl ?_|refine ae.q (fun _ h=>h) hL rfl rfl ?_|refine Ld.p h hL ?_|refine ae.p (fun _ h=>h) hL ?_|refine Ld.qw h hL rfl ?_|refine ae.qw (fun _ h=>h) hL rfl ?_|refine ⟨h.hb,?_⟩|(refine St.q h hL rfl rfl rfl fun w h=> ?_;dsimp only [ao,af] at h)|refine aa.yes ?_|refine aa.no ?_|refine ⟨by first|omega|decide,?_⟩)
  rw [Ni hx hnow,ad (by omega)] at h⊢
  exact out (K':=fun w x=>K x true w) (bh hl) h fun w h=>k1 _ _ rfl h
 ·simp only [if_neg (show¬bits<4 by omega)] at k1 k2 k3
  (with_reducible repeat first|refine Nw.mk h fun b w h=> ?_|refine au.mk h fun w h=> ?_|refine Ld.q h hL rfl rfl ?_|refine ae.q (fun _ h=>h) hL rfl rfl ?_|refine Ld.p h hL ?_|refine ae.p (fun _ h=>h) hL ?_|refine Ld.qw h hL rfl ?_|refine ae.qw (fun _ h=>h) hL rfl ?_|refine ⟨h.hb,?_⟩|(refine St.q h hL rfl rfl rfl fun w h=> ?_;dsimp only [ao,af] at h)|refine aa.yes ?_|refine aa.no ?_|refine ⟨by first|omega|decide,?_⟩)
  by_cases hb:bits=4
  ·subst hb
   simp only [if_true] at k1 k2 k3
   by_cases hx0:x=0
   ·subst hx0
    simp only [if_true] at k1 k2 k3
    (with_reducible repeat first|refine Nw.mk h fun b w h=> ?_|refine au.mk h fun w h=> ?_|refine Ld.q h hL rfl rfl ?_|refine ae.q (fun _ h=>h) hL rfl rfl ?_|refine Ld.p h hL ?_|refine ae.p (fun _ h=>h) hL ?_|refine Ld.qw h hL rfl ?_|refine ae.qw (fun _ h=>h) hL rfl ?_|refine ⟨h.hb,?_⟩|(refine St.q h hL rfl rfl rfl fun w h=> ?_;dsimp only [ao,af] at h)|refine aa.yes ?_|refine aa.no ?_|refine ⟨by first|omega|decide,?_⟩)
    refine ⟨by omega,by omega,?_⟩
    rw [show (((l.length:Int)).toNat*1)=l.length by omega,dH (by omega)]
    (try simp only [aD,aw,ar,Nat.zero_add,Nat.add_zero,Nat.reduceAdd,Bool.not_true,Bool.not_false,aZ,aX,Option.isNone])
    refine St.g h (by omega) rfl fun w h=> ?_
    rw [D9,DP h2] at h
    have hl2:(l++ [now]).length≤258:=by simp;omega
    have hL:=iL (bh hl2)
    (with_reducible repeat first|refine Nw.mk h fun b w h=> ?_|refine au.mk h fun w h=> ?_|refine Ld.q h hL rfl rfl ?_|refine ae.q (fun _ h=>h) hL rfl rfl ?_|refine Ld.p h hL ?_|refine ae.p (fun _ h=>h) hL ?_|refine Ld.qw h hL rfl ?_|refine ae.qw (fun _ h=>h) hL rfl ?_|refine ⟨h.hb,?_⟩|(refine St.q h hL rfl rfl rfl fun w h=> ?_;dsimp only [ao,af] at h)|refine aa.yes ?_|refine aa.no ?_|refine ⟨by first|omega|decide,?_⟩)
    rw [ad (by omega),show (l.length:Int)+1=((l++ [now]).length:Int) by simp] at h
    have h:=h.drew (n:=w.drawn+1)
    refine ⟨bQ b4 _ _ _,h.hb,?_⟩
    dsimp only
    (with_reducible repeat first|refine Nw.mk h fun b w h=> ?_|refine au.mk h fun w h=> ?_|refine Ld.q h hL rfl rfl ?_|refine ae.q (fun _ h=>h) hL rfl rfl ?_|refine Ld.p h hL ?_|refine ae.p (fun _ h=>h) hL ?_|refine Ld.qw h hL rfl ?_|refine ae.qw (fun _ h=>h) hL rfl ?_|refine ⟨h.hb,?_⟩|(refine St.q h hL rfl rfl rfl fun w h=> ?_;dsimp only [ao,af] at h)|refine aa.yes ?_|refine aa.no ?_|refine ⟨by first|omega|decide,?_⟩)
    by_cases hf:l.length+1<258
    ·rw [if_pos hf] at k1 k2 k3
     refine aa.dt (by simp;omega) ?_
     refine an.q h hz (aO (bh hl2)) aN fun w h=> ?_
     (with_reducible repeat first|refine Nw.mk h fun b w h=> ?_|refine au.mk h fun w h=> ?_|refine Ld.q h hL rfl rfl ?_|refine ae.q (fun _ h=>h) hL rfl rfl ?_|refine Ld.p h hL ?_|refine ae.p (fun _ h=>h) hL ?_|refine Ld.qw h hL rfl ?_|refine ae.qw (fun _ h=>h) hL rfl ?_|refine ⟨h.hb,?_⟩|(refine St.q h hL rfl rfl rfl fun w h=> ?_;dsimp only [ao,af] at h)|refine aa.yes ?_|refine aa.no ?_|refine ⟨by first|omega|decide,?_⟩)
     exact k1 _ _ rfl h.tl
    ·rw [if_neg hf] at k1 k2 k3
     have hfull:(l++ [now]).length=258:=by simp;omega
     refine aa.df (by simp;omega) ?_
     (with_reducible repeat first|refine Nw.mk h fun b w h=> ?_|refine au.mk h fun w h=> ?_|refine Ld.q h hL rfl rfl ?_|refine ae.q (fun _ h=>h) hL rfl rfl ?_|refine Ld.p h hL ?_|refine ae.p (fun _ h=>h) hL ?_|refine Ld.qw h hL rfl ?_|refine ae.qw (fun _ h=>h) hL rfl ?_|refine ⟨h.hb,?_⟩|(refine St.q h hL rfl rfl rfl fun w h=> ?_;dsimp only [ao,af] at h)|refine aa.yes ?_|refine aa.no ?_|refine ⟨by first|omega|decide,?_⟩)
     rw [BY hfull] at h⊢
     refine tj h hfull fun w h=> ?_
     refine ⟨h.hb,?_⟩
     refine an.q h hz (aO hfull) aN fun w h=>⟨h.hb,?_⟩
     refine Ld.xw h (aO hfull) ?_
     by_cases hok:bz (l++ [now])=true
     ·rw [if_pos hok] at k1 k2 k3
      rw [hok]
      have:=k2 _ (now:Int) _ rfl h.tl
      rw [hfull]
      exact this
     ·rw [if_neg hok] at k1 k2 k3
      rw [show bz (l++ [now])=false by simpa using hok]
      exact k3 _ _ rfl (aO hfull) aN h.tl
   ·simp only [if_neg hx0] at k1 k2 k3
    (with_reducible repeat first|refine Nw.mk h fun b w h=> ?_|refine au.mk h fun w h=> ?_|refine Ld.q h hL rfl rfl ?_|refine ae.q (fun _ h=>h) hL rfl rfl ?_|refine Ld.p h hL ?_|refine ae.p (fun _ h=>h) hL ?_|refine Ld.qw h hL rfl ?_|refine ae.qw (fun _ h=>h) hL rfl ?_|refine ⟨h.hb,?_⟩|(refine St.q h hL rfl rfl rfl fun w h=> ?_;dsimp only [ao,af] at h)|refine aa.yes ?_|refine aa.no ?_|refine ⟨by first|omega|decide,?_⟩)
    exact out (K':=fun w x=>K x true w) (bh hl) h fun w h=>k1 _ _ rfl h
  ·simp only [if_neg hb] at k1 k2 k3
   have hb5:bits=5:=by omega
   subst hb5
   by_cases hx0:x=0
   ·subst hx0
    simp only [if_true] at k1 k2 k3
    (with_reducible repeat first|refine Nw.mk h fun b w h=> ?_|refine au.mk h fun w h=> ?_|refine Ld.q h hL rfl rfl ?_|refine ae.q (fun _ h=>h) hL rfl rfl ?_|refine Ld.p h hL ?_|refine ae.p (fun _ h=>h) hL ?_|refine Ld.qw h hL rfl ?_|refine ae.qw (fun _ h=>h) hL rfl ?_|refine ⟨h.hb,?_⟩|(refine St.q h hL rfl rfl rfl fun w h=> ?_;dsimp only [ao,af] at h)|refine aa.yes ?_|refine aa.no ?_|refine ⟨by first|omega|decide,?_⟩)
    by_cases hw:way=2
    ·subst hw
     (with_reducible repeat first|refine Nw.mk h fun b w h=> ?_|refine au.mk h fun w h=> ?_|refine Ld.q h hL rfl rfl ?_|refine ae.q (fun _ h=>h) hL rfl rfl ?_|refine Ld.p h hL ?_|refine ae.p (fun _ h=>h) hL ?_|refine Ld.qw h hL rfl ?_|refine ae.qw (fun _ h=>h) hL rfl ?_|refine ⟨h.hb,?_⟩|(refine St.q h hL rfl rfl rfl fun w h=> ?_;dsimp only [ao,af] at h)|refine aa.yes ?_|refine aa.no ?_|refine ⟨by first|omega|decide,?_⟩)
     exact out (K':=fun w x=>K x false w) (bh hl) h fun w h=>k3 _ _ (by simp) (aO (bh hl)) aN h
    ·(with_reducible repeat first|refine Nw.mk h fun b w h=> ?_|refine au.mk h fun w h=> ?_|refine Ld.q h hL rfl rfl ?_|refine ae.q (fun _ h=>h) hL rfl rfl ?_|refine Ld.p h hL ?_|refine ae.p (fun _ h=>h) hL ?_|refine Ld.qw h hL rfl ?_|refine ae.qw (fun _ h=>h) hL rfl ?_|refine ⟨h.hb,?_⟩|(refine St.q h hL rfl rfl rfl fun w h=> ?_;dsimp only [ao,af] at h)|refine aa.yes ?_|refine aa.no ?_|refine ⟨by first|omega|decide,?_⟩)
     refine out (K':=fun w x=>K x (decide ((now:Int)<15)) w) (bh hl) h fun w h=> ?_
     have ei:i64 ((now:Int)+1)=(now:Int)+1:=ad (by omega)
     try rw [ei]
     try rw [ad (x:=(now:Int) - 1) (by omega)]
     by_cases hn:now<15
     ·rw [if_pos ⟨hw,hn⟩] at k1
      exact iX (K:=fun b w=>K _ b w) (decide_eq_true (by omega)) (k1 _ _ rfl h)
     ·rw [if_neg (fun hh=>hn hh.2)] at k3
      exact iX (K:=fun b w=>K _ b w) (decide_eq_false (by omega)) (k3 _ _ rfl (aO (bh hl)) aN h)
   ·have hx1:x=1:=by omega
    subst hx1
    simp only [if_neg hx0] at k1 k2 k3
    (with_reducible repeat first|refine Nw.mk h fun b w h=> ?_|refine au.mk h fun w h=> ?_|refine Ld.q h hL rfl rfl ?_|refine ae.q (fun _ h=>h) hL rfl rfl ?_|refine Ld.p h hL ?_|refine ae.p (fun _ h=>h) hL ?_|refine Ld.qw h hL rfl ?_|refine ae.qw (fun _ h=>h) hL rfl ?_|refine ⟨h.hb,?_⟩|(refine St.q h hL rfl rfl rfl fun w h=> ?_;dsimp only [ao,af] at h)|refine aa.yes ?_|refine aa.no ?_|refine ⟨by first|omega|decide,?_⟩)
    by_cases hw:way=1
    ·subst hw
     (with_reducible repeat first|refine Nw.mk h fun b w h=> ?_|refine au.mk h fun w h=> ?_|refine Ld.q h hL rfl rfl ?_|refine ae.q (fun _ h=>h) hL rfl rfl ?_|refine Ld.p h hL ?_|refine ae.p (fun _ h=>h) hL ?_|refine Ld.qw h hL rfl ?_|refine ae.qw (fun _ h=>h) hL rfl ?_|refine ⟨h.hb,?_⟩|(refine St.q h hL rfl rfl rfl fun w h=> ?_;dsimp only [ao,af] at h)|refine aa.yes ?_|refine aa.no ?_|refine ⟨by first|omega|decide,?_⟩)
     exact out (K':=fun w x=>K x false w) (bh hl) h fun w h=>k3 _ _ (by simp) (aO (bh hl)) aN h
    ·(with_reducible repeat first|refine Nw.mk h fun b w h=> ?_|refine au.mk h fun w h=> ?_|refine Ld.q h hL rfl rfl ?_|refine ae.q (fun _ h=>h) hL rfl rfl ?_|refine Ld.p h hL ?_|refine ae.p (fun _ h=>h) hL ?_|refine Ld.qw h hL rfl ?_|refine ae.qw (fun _ h=>h) hL rfl ?_|refine ⟨h.hb,?_⟩|(refine St.q h hL rfl rfl rfl fun w h=> ?_;dsimp only [ao,af] at h)|refine aa.yes ?_|refine aa.no ?_|refine ⟨by first|omega|decide,?_⟩)
     refine out (K':=fun w x=>K x (decide ((now:Int)>0)) w) (bh hl) h fun w h=> ?_
     have ei:i64 ((now:Int)+1)=(now:Int)+1:=ad (by omega)
     try rw [ei]
     try rw [ad (x:=(now:Int) - 1) (by omega)]
     by_cases hn:0<now
     ·rw [if_pos ⟨hw,hn⟩] at k1
      rw [show (now:Int) - 1=((now - 1:Nat):Int) by omega]
      exact iX (K:=fun b w=>K _ b w) (decide_eq_true (by omega)) (k1 _ _ rfl h)
     ·rw [if_neg (fun hh=>hn hh.2)] at k3
      exact iX (K:=fun b w=>K _ b w) (decide_eq_false (by omega)) (k3 _ _ rfl (aO (bh hl)) aN h)
end
end Go.Proofs.YtcdpblipagajiaaGreat
namespace Go.Inc
theorem rA {α σ β ε:Type} {f:σ→α→wP σ β ε} {s s':σ} {l:List α} {k:Nat} (h:run f s (l.take k)= .short s'):run f s l=run f s' (l.drop k):=by
 conv=>lhs;rw [←List.take_append_drop k l]
 exact cU h _
end Go.Inc
namespace Go.Proofs.YtcdpblipagajiaaGreat
open Go Go.Vc Go.Srt Go.Inc Go.Tab
section
variable {E w:World} {F:List HP}
set_option maxRecDepth 20000
abbrev fG:Array Value:=⟨List.replicate 258 (.int .u8 0)⟩
theorem Lm {bs:List Nat} {s:Sl} {K:Array Value→Int→Int→World→Prop} (h:Hp E w F) (hs:ab F (aC 1 s ((ints bs).map vI))) (hb: ∀x∈bs,x≤1) (hbig:bs.length≤cA)
  (hshort: ∀s' w',run (bf bz) t0 bs= .short s'→Hp E w' F→K fG 0 50 w')
  (hbad: ∀w',run (bf bz) t0 bs= .bad 100→Hp E w' F→K fG 0 100 w')
  (hfin: ∀l r w',run (bf bz) t0 bs= .fin l r→Hp E w' F→K (ai .u8 l) ((bs.length - r.length:Nat):Int) 0 w'):
  Cl Tryz.prog [.arr 258,kI,kI] ir ⟨[.slice s.base s.len s.cap]⟩ w K:=by
 have hz:(⟨List.replicate 258 (.int .u8 0)++ [.int .i64 0,.int .i64 0,.int .i64 0,.int .i64 0]⟩:Array Value)=dK (pad t0.l) (t0.l.length:Int) (t0.bits:Int) (t0.now:Int) (t0.way:Int):=by
  rw [Ar];rfl
 have hz0:fG.size=258:=by simp
 have hz1:fG.toList.all aA=true:=by decide
 refine vb.ok _ _ _ ?_
 (try simp only [aD,aw,ar,Nat.zero_add,Nat.add_zero,Nat.reduceAdd,Bool.not_true,Bool.not_false,aZ,aX,Option.isNone])
 have hlen:bs.length=s.len:=by have:=(h.ag hs).1;simpa [ints] using this
 rw [aB] at hbig
 refine Nw.mk h fun b3 w h=>Nw.mk h fun b5 w h=> ?_
 rw [hz] at h
 have out: ∀{w:World} {K':Array Value→World→Prop} {l:List HP},Hp E w (l++(aj b3 (.cells fG 36 (0,0))::F))→(∀w',Hp E w' F→K' fG w')→
   Ld (.arr 258) ⟨b3,0,none⟩ w fun x22=>an 258 ⟨b3,0,none⟩ x22 w fun w_23=>Ld (.arr 258) ⟨b3,0,none⟩ w_23 fun res24=>K' res24 w_23:=by
  intro w K' l h hk
  have h:=h.nc
  refine Ld.xw h hz0 (an.q h hz0 hz0 hz1 fun w h=>Ld.xw h hz0 (hk _ h.tl))
 refine ⟨fun i w'=> ∃(k:Nat) (t:TS),i=(k:Int)∧k≤bs.length∧gh t∧run (bf bz) t0 (bs.take k)= .short t∧
  Hp E w' (aj b5 (.cells (dK (pad t.l) (t.l.length:Int) (t.bits:Int) (t.now:Int) (t.way:Int)) 141 (0,0))::aj b3 (.cells fG 36 (0,0))::F),
  fun i _=>bs.length - i.toNat,⟨0,t0,rfl,by omega,gh.zero,rfl,h⟩,?_⟩
 rintro i w ⟨k,t,rfl,hk,ht,hrun,h⟩
 refine aa.dm (fun hlt=> ?_) (fun hge=> ?_)
 ·have hlt:k<bs.length:=by omega
  refine aq.rd (h.tl.ag hs) (by omega) (by omega) fun q hi hq=> ?_
  have hx:=hb _ (List.getElem_mem hlt)
  refine Ld.sc (s:= .int .i64) (bs[k]:Int) (by rw [hq];simp [Sc.enc,vI,ints]) ⟨by decide,?_⟩
  have e1:aK .i64 (bs[k]:Int) 1=0:=by
   have:bs[k]=0∨bs[k]=1:=by omega
   rcases this with e|e<;>rw [e]<;>rfl
  rw [e1]
  refine aa.nf rfl ?_
  have htl:(pad t.l).length=258:=bh (by
   rcases ht with ⟨_,h,_⟩|⟨_,h,_⟩
   ·rw [h];simp
   ·omega)
  refine Ld.xw h (aO htl) ?_
  refine Lh h ht hx ⟨fun t' w he h=> ?_,fun l n w he h=> ?_,fun o w he ho hos h=> ?_⟩
  ·have ht':=oE ht hx he
   have hl':t'.l.length<258:=by
    rcases ht' with ⟨_,h,_⟩|⟨_,h,_⟩
    ·rw [h];simp
    ·omega
   have hp:=bh (Nat.le_of_lt hl')
   refine Nw.mk h fun b20 w h=> ?_
   refine an.q h (by simp) (aO hp) aN fun w h=> ?_
   with_reducible refine aa.wm ?_
   refine Ld.xw h (aO hp) ?_
   refine an.q h (aO htl) (aO hp) aN fun w h=> ?_
   have hL:=iL hp
   refine Ld.q h hL rfl rfl ?_
   refine aa.ef (by omega) ?_
   rw [ad (by omega)]
   refine ⟨⟨k+1,t',rfl,by omega,ht',?_,h.no 0⟩,by first|omega|(dsimp only;omega)⟩
   rw [List.take_add_one,List.getElem?_eq_getElem hlt]
   show run (bf bz) t0 (bs.take k++ [bs[k]])=_
   rw [cU hrun,bK he];rfl
  ·have hf:=(dE ht he).1
   refine Nw.mk h fun b20 w h=> ?_
   refine an.q h (by simp) (aO hf) aN fun w h=> ?_
   with_reducible refine aa.wm ?_
   refine Ld.xw h (aO hf) ?_
   refine an.q h (aO htl) (aO hf) aN fun w h=> ?_
   have hL:=iL hf
   refine Ld.q h hL rfl rfl ?_
   refine aa.et rfl ?_
   refine Ld.p (b:=b5) h hL ?_
   have hls:(⟨wu l⟩:Array Value).size=258:=by simpa using hf
   refine an.q h hz0 hls (List.all_eq_true.2 bk) fun w h=>Ld.xw h hls ?_
   rw [ad (by omega)]
   have hr:=hfin l (bs.drop (k+1)) w (by rw [rA hrun,List.drop_eq_getElem_cons hlt,iK he]) h.tl
   rw [List.length_drop,show bs.length - (bs.length - (k+1))=k+1 by omega] at hr
   exact hr
  ·refine Nw.mk h fun b20 w h=> ?_
   refine an.q h (by simp) ho hos fun w h=> ?_
   with_reducible refine aa.NJ ?_
   refine out (l:= [_,_]) h fun w h=>hbad w ?_ h
   rw [rA hrun,List.drop_eq_getElem_cons hlt,qo he]
 ·have hk2:k=bs.length:=by omega
  subst hk2
  rw [List.take_of_length_le (Nat.le_refl _)] at hrun
  exact out (l:= [_]) h fun w h=>hshort t w hrun h
end
end Go.Proofs.YtcdpblipagajiaaGreat
namespace Go.aj
open Go.Inc Go.Srt Go.Sym Go.Bits Go.Tab Go.Hd Go.Crc Go.Bw Go.Proofs.YtcdpblipagajiaaGreat
theorem uI {n M P u:Nat} {r:List Nat}: ∀(b:List Nat) (s:MS),j0 n s→(∀c∈b,c<256)→run (aL n) s b= .fin (.aF M P u) r→1≤M∧M≤n∧1≤P∧P≤M
 | [],s,_,_,h=>by cases h
 |c::b,s,hs,hb,h=>by
  rw [dV] at h
  cases hc:aL n s c with
  |more s'=>
   rw [hc] at h
   exact uI b s' (uV hs (hb c (by simp)) hc) (fun y hy=>hb y (by simp [hy])) h
  |fin m=>
   rw [hc] at h
   cases h
   exact HL hs hc
  |bad e=>rw [hc] at h;cases h
theorem gf {α σ β ε:Type} {f:σ→α→wP σ β ε} {r:List α} {x:β}: ∀(b:List α) (s:σ),run f s b= .fin x r→∃a,b=a++r
 | [],s,h=>by cases h
 |c::b,s,h=>by
  rw [dV] at h
  cases hc:f s c with
  |more s'=>
   rw [hc] at h
   obtain ⟨a,e⟩:=gf b s' h
   exact ⟨c::a,by rw [e];rfl⟩
  |fin m=>
   rw [hc] at h
   cases h
   exact ⟨[c],rfl⟩
  |bad e=>rw [hc] at h;cases h
theorem uH {l r:List Nat}: ∀(b:List Nat) (t:TS),gh t→(∀c∈b,c≤1)→run (bf bz) t b= .fin l r→l.length=258∧bz l=true
 | [],s,_,_,h=>by cases h
 |c::b,s,hs,hb,h=>by
  rw [dV] at h
  cases hc:bf bz s c with
  |more s'=>
   rw [hc] at h
   exact uH b s' (oE hs (hb c (by simp)) hc) (fun y hy=>hb y (by simp [hy])) h
  |fin m=>
   rw [hc] at h
   cases h
   exact dE hs hc
  |bad e=>rw [hc] at h;cases h
theorem yD {left:List Nat} (hb: ∀x∈left,x≤1):tP left= !decide (1∈left.take (left.length % 8)):=by
 unfold tP
 rw [Bool.eq_iff_iff]
 simp only [List.all_eq_true,beq_iff_eq,Bool.not_eq_true',decide_eq_false_iff_not]
 constructor
 ·intro h hm
  have:=h 1 hm
  omega
 ·intro h x hx
  have:=hb x (List.mem_of_mem_take hx)
  have:x≠1:=fun e=>h (e▸hx)
  omega
end Go.aj
namespace Go.Proofs.YtcdpblipagajiaaGreat
open Go Go.Vc Go.Srt Go.Inc Go.Sym Go.Tab Go.Hd Go.Bw Go.Bits Go.aj Go.Crc
section
variable {E w:World} {F:List HP}
set_option maxRecDepth 20000
theorem uW {n:Int} {s:Sl} {b:List Nat} {K:Sl→Sl→Int→World→Prop} (h:Hp E w F) (hs:ab F (aC 1 s (b.map vB))) (hb: ∀y∈b,y<256) (hbig:b.length≤10000000) (hcap:s.len≤s.cap)
  (harg: ¬(1≤n∧n≤65536)→∀w',Hp E w' F→K ⟨none,0,0⟩ ⟨none,0,0⟩ 2 w')
  (herr:1≤n→n≤65536→∀e w',cC n.toNat b= .error e→e≠0→Hp E w' F→K ⟨none,0,0⟩ ⟨none,0,0⟩ (e:Int) w')
  (hok:1≤n→n≤65536→∀x r s1 s2 w',cC n.toNat b= .ok (x,r)→(∀y∈x,y<256)→(∀y∈r,y<256)→x.length≤65536→Hp E w' (al 1 s1 (x.map vB)::al 1 s2 (r.map vB)::F)→K s1 s2 0 w'):
  Cl Tryz.prog [kS,kS,kI] ch ⟨[.int .i64 n,.slice s.base s.len s.cap]⟩ w K:=by
 refine Bu.ok _ _ _ _ ?_
 (try simp only [aD,aw,ar,Nat.zero_add,Nat.add_zero,Nat.reduceAdd,Bool.not_true,Bool.not_false,aZ,aX,Option.isNone])
 by_cases hn: ¬(1≤n∧n≤65536)
 ·refine Cu h hn fun w h=> ?_
  (with_reducible repeat first|refine Nw.mk h fun b w h=> ?_|refine au.mk h fun w h=> ?_|refine Ld.xb h rfl ?_|refine Ld.xt h rfl ?_|refine ae.xb (fun _ h=>h) rfl ?_|refine ae.xt (fun _ h=>h) rfl ?_|refine ⟨h.hb,?_⟩|refine ak.xw h rfl rfl fun w h=> ?_|(refine ak.xs h rfl rfl fun w h=> ?_;dsimp only [ao,af] at h)|(refine St.xs h rfl rfl fun w h=> ?_;dsimp only [ao,af] at h)|refine aa.yes ?_|refine aa.no ?_|refine ⟨by first|omega|decide,?_⟩)
  exact harg hn w h.tl
 have hn:1≤n∧n≤65536:=Decidable.not_not.1 hn
 obtain ⟨m,rfl⟩: ∃m:Nat,n=(m:Int):=⟨n.toNat,by omega⟩
 have herr:=herr hn.1 hn.2
 have hok:=hok hn.1 hn.2
 rw [Int.toNat_natCast] at herr hok
 unfold cC at herr hok
 refine I1 h (by omega) (by omega) hs hb (by rw [aB];omega) hcap (fun s' w hr h=> ?_) (fun w hr h=> ?_) (fun M P u r s5 w hr h=> ?_) (fun u r s5 w hr h=> ?_)
 ·rw [hr] at herr
  (with_reducible repeat first|refine Nw.mk h fun b w h=> ?_|refine au.mk h fun w h=> ?_|refine Ld.xb h rfl ?_|refine Ld.xt h rfl ?_|refine ae.xb (fun _ h=>h) rfl ?_|refine ae.xt (fun _ h=>h) rfl ?_|refine ⟨h.hb,?_⟩|refine ak.xw h rfl rfl fun w h=> ?_|(refine ak.xs h rfl rfl fun w h=> ?_;dsimp only [ao,af] at h)|(refine St.xs h rfl rfl fun w h=> ?_;dsimp only [ao,af] at h)|refine aa.yes ?_|refine aa.no ?_|refine ⟨by first|omega|decide,?_⟩)
  exact herr 50 w rfl (by decide) h.tl
 ·rw [hr] at herr
  (with_reducible repeat first|refine Nw.mk h fun b w h=> ?_|refine au.mk h fun w h=> ?_|refine Ld.xb h rfl ?_|refine Ld.xt h rfl ?_|refine ae.xb (fun _ h=>h) rfl ?_|refine ae.xt (fun _ h=>h) rfl ?_|refine ⟨h.hb,?_⟩|refine ak.xw h rfl rfl fun w h=> ?_|(refine ak.xs h rfl rfl fun w h=> ?_;dsimp only [ao,af] at h)|(refine St.xs h rfl rfl fun w h=> ?_;dsimp only [ao,af] at h)|refine aa.yes ?_|refine aa.no ?_|refine ⟨by first|omega|decide,?_⟩)
  exact herr 242 w rfl (by decide) h.tl
 ·rw [hr] at herr hok
  dsimp only at herr hok
  have hM:=uI b iB (.inl ⟨rfl,rfl⟩) hb hr
  obtain ⟨a,hsuf⟩:=gf b iB hr
  have hrb: ∀y∈r,y<256:=fun y hy=>hb y (by rw [hsuf];exact List.mem_append.2 (.inr hy))
  have hrl:r.length≤b.length:=by rw [hsuf,List.length_append];omega
  have hl5:=h.a6
  have hc5:=h.ee
  rw [List.length_map,Nat.mul_one] at hl5
  (with_reducible repeat first|refine Nw.mk h fun b w h=> ?_|refine au.mk h fun w h=> ?_|refine Ld.xb h rfl ?_|refine Ld.xt h rfl ?_|refine ae.xb (fun _ h=>h) rfl ?_|refine ae.xt (fun _ h=>h) rfl ?_|refine ⟨h.hb,?_⟩|refine ak.xw h rfl rfl fun w h=> ?_|(refine ak.xs h rfl rfl fun w h=> ?_;dsimp only [ao,af] at h)|(refine St.xs h rfl rfl fun w h=> ?_;dsimp only [ao,af] at h)|refine aa.yes ?_|refine aa.no ?_|refine ⟨by first|omega|decide,?_⟩)
  refine LH h (ab.at 1 ab.own) hrb (by omega) fun s12 w h=> ?_
  have hal:=dy r
  have hab: ∀x∈aM r,x≤1:=fun x hx=>by have:=tX r (8*r.length) x hx;omega
  have hl12:=h.a6
  have hc12:=h.ee
  simp only [ints,List.length_map,Nat.mul_one] at hl12
  unfold sP at herr hok
  refine Lm h ab.own hab (by rw [aB];omega) (fun t w hq h=> ?_) (fun w hq h=> ?_) (fun l more w hq h=> ?_)
  ·rw [hq] at herr
   refine Nw.mk h fun b18 w h=>an.q h (by simp) (by simp) (by decide) fun w h=>aa.nt (by decide) (herr 50 w rfl (by decide) h.tl)
  ·rw [hq] at herr
   refine Nw.mk h fun b18 w h=>an.q h (by simp) (by simp) (by decide) fun w h=>aa.nt (by decide) (herr 100 w rfl (by decide) h.tl)
  ·rw [hq] at herr hok
   dsimp only at herr hok
   obtain ⟨hl,hokT⟩:=uH _ t0 gh.zero hab hq
   obtain ⟨a2,hsuf2⟩:=gf _ t0 hq
   have hls:(ai .u8 l).size=258:=by rw [ax,hl]
   have hlc:(ai .u8 l).toList.all aA=true:=List.all_eq_true.2 bk
   have hmore:more=(aM r).drop ((aM r).length - more.length):=by
    conv=>rhs;rw [hsuf2]
    rw [List.length_append,show a2.length+more.length - more.length=a2.length by omega,List.drop_left]
   have hml:more.length≤(aM r).length:=by rw [hsuf2,List.length_append];omega
   refine Nw.mk h fun b18 w h=>an.q h (by simp) hls hlc fun w h=>aa.nf rfl (au.mk h fun w h=> ?_)
   refine Ld.xb (x:=(M:Int)) h rfl (Ld.xw h hls ?_)
   have e12: ∀k:Nat,(((ints (aM r)).map vI).drop k)=(ints ((aM r).drop k)).map vI:=fun k=>by simp [ints]
   refine bd.rd ((h.at 1).ag ab.own) (by omega) (by omega) (by omega) (by omega) (by omega) fun s32 hs32 hl32=> ?_
   simp only [Int.toNat_natCast] at hs32 hl32
   rw [e12,←hmore,List.take_of_length_le (by simp [ints];omega)] at hs32
   have hmb: ∀x∈more,x≤1:=fun x hx=>hab x (by rw [hsuf2];exact List.mem_append.2 (.inr hx))
   refine HK h hl hokT (by omega) (by omega) ((ab.at 1 ab.own).imp fun w hw=>hs32 w hw) hmb (by rw [aB];omega) (fun t w hq2 h=> ?_) (fun w hq2 h=> ?_) (fun last left s34 w hq2 hlb hll h=> ?_)
   ·rw [hq2] at herr
    exact aa.nt (by decide) (herr 50 w rfl (by decide) h.tl)
   ·rw [hq2] at herr
    exact aa.nt (by decide) (herr 160 w rfl (by decide) h.tl)
   ·rw [hq2] at herr hok
    dsimp only at herr hok
    obtain ⟨a3,hsuf3⟩:=gf _ _ hq2
    have hleft:left=(aM r).drop ((aM r).length - left.length):=by
     conv=>rhs;rw [hsuf2,hsuf3]
     rw [←List.append_assoc,List.length_append,show (a2++a3).length+left.length - left.length=(a2++a3).length by omega,List.drop_left]
    have hll2:left.length≤more.length:=by rw [hsuf3,List.length_append];omega
    have hlb1: ∀x∈left,x≤1:=fun x hx=>hmb x (by rw [hsuf3];exact List.mem_append.2 (.inr hx))
    have hpad:=yD hlb1
    obtain ⟨p,hp⟩: ∃p,p=(aM r).length - left.length:=⟨_,rfl⟩
    have e1:(((aM r).length - more.length:Nat):Int)+((more.length - left.length:Nat):Int)=(p:Int):=by omega
    have hmx:IntKind.max .i64=9223372036854775807:=rfl
    have e2:aK .i64 ((p:Int)+7) 3=(((p+7)/8:Nat):Int):=by
     rw [show (p:Int)+7=((p+7:Nat):Int) by omega,show (3:Int)=((3:Nat):Int) from rfl,cb (by decide)]
    have e3:bq .i64 (((p+7)/8:Nat):Int) 3=((8*((p+7)/8):Nat):Int):=by
     have:=dX (k:= .i64) (a:=(p+7)/8) (b:=3) (by decide) (by rw [hmx];omega)
     rw [show (3:Int)=((3:Nat):Int) from rfl,this]
     congr 1;omega
    rw [e1,ad (x:=(p:Int)) (by omega),ad (x:=(p:Int)+7) (by omega),e2,e3]
    refine aa.nf rfl ⟨by decide,by decide,?_⟩
    refine bd.rd ((h.at 2).ag ab.own) (by omega) (by omega) (by omega) (by omega) (by omega) fun s37 hs37 hl37=> ?_
    simp only [Int.toNat_natCast] at hs37 hl37
    rw [e12,hp,←hleft,←hp,show 8*((p+7)/8) - p=left.length % 8 by omega] at hs37
    rw [show (((ints left).map vI).take (left.length % 8))=(ints (left.take (left.length % 8))).map vI by simp [ints]] at hs37
    refine ID h ((ab.at 2 ab.own).imp fun w hw=>hs37 w hw) (by rw [List.length_take,aB];omega) fun w h=> ?_
    by_cases hpo:1∈left.take (left.length % 8)
    ·rw [hpad,decide_eq_true hpo] at herr
     rw [decide_eq_true hpo]
     exact aa.t rfl (herr 160 w rfl (by decide) h.tl)
    ·rw [hpad,decide_eq_false hpo] at herr hok
     rw [decide_eq_false hpo]
     refine aa.f rfl (Ld.xb (x:=(P:Int)) h rfl ?_)
     unfold kX at herr hok
     simp only [Bool.not_false,if_true] at herr hok
     refine Jd h ab.own hlb (by omega) (fun ho s42 w h=> ?_) (fun ho w h=> ?_)
     ·have ho:okB last P:=by simpa [ua] using ho
      rw [if_pos ho] at herr hok
      refine aa.nf rfl ?_
      have htl:=pt last P
      have htb: ∀y∈cX last P,y<256:=fun y hy=>by
       unfold cX at hy
       simp only [List.mem_reverse,List.mem_map,List.mem_range] at hy
       obtain ⟨k,_,rfl⟩:=hy
       rw [List.getD_eq_getElem?_getD]
       cases hg:last[bP P (wk last P k)]? with
       |none=>decide
       |some z=>exact hlb z (List.mem_of_getElem? hg)
      refine yP h ab.own (by rw [Int.toNat_natCast,htl,aB];omega) fun s45 w h=> ?_
      rw [Int.toNat_natCast] at h
      have hl45:=h.a6
      rw [List.length_map,Nat.mul_one,List.length_reverse] at hl45
      have h:=h.drew (n:=w.drawn+1)
      refine ⟨bQ b _ _ _,h.hb,?_⟩
      refine ae.xb (x:=(u:Int)) (fun _ h=>h) rfl (Nw.mk h fun b58 w h=>⟨h.hb,?_⟩)
      refine JN (s:=⟨some ⟨b58,0,none⟩,1,1⟩) (cs:= [s45]) (bs:= [(cX last P).reverse]) h (ab.aF rfl rfl) rfl (by rw [aB];simp) (fun i hi=> ?_) (fun z hz y hy=> ?_) (fun z hz=> ?_) fun w h=>⟨h.hb,?_⟩
      ·match i,hi with
       |0,_=>exact ab.cons ab.own
      ·rw [List.mem_singleton] at hz
       rw [hz] at hy
       exact htb y (List.mem_reverse.1 hy)
      ·rw [List.mem_singleton] at hz
       rw [hz,List.length_reverse,htl,aB];omega
      rw [show [(cX last P).reverse].flatten=(cX last P).reverse by simp]
      by_cases hc:lf (cX last P).reverse=u
      ·rw [if_pos hc] at hok
       refine aa.nf (by omega) ?_
       have hrd:(r.map vB).drop ((p+7)/8)=(r.drop ((p+7)/8)).map vB:=by rw [List.map_drop]
       refine bd.rd ((h.at 7).ag ab.own) (by omega) (by omega) (by omega) (by omega) (by omega) fun s61 hs61 hl61=> ?_
       simp only [Int.toNat_natCast] at hs61 hl61
       rw [hrd,List.take_of_length_le (by simp;omega)] at hs61
       refine xU h ((ab.at 7 ab.own).imp fun w hw=>hs61 w hw) (by rw [List.length_drop,aB];omega) fun s63 w h=> ?_
       have e9:r.length - left.length/8=(p+7)/8:=by omega
       refine hok (cX last P).reverse (r.drop ((p+7)/8)) s45 s63 w (by rw [e9]) (fun y hy=>htb y (List.mem_reverse.1 hy)) (fun y hy=>hrb y (List.mem_of_mem_drop hy)) (by rw [List.length_reverse,htl];omega) ?_
       exact ((h.no 1).p1).J5
      ·rw [if_neg hc] at herr
       exact aa.nt (by omega) (herr 250 w rfl (by decide) h.tl)
     ·have ho: ¬okB last P:=by simpa [ua] using ho
      rw [if_neg ho] at herr
      exact aa.nt (by decide) (herr 170 w rfl (by decide) h.tl)
 ·rw [hr] at herr
  (with_reducible repeat first|refine Nw.mk h fun b w h=> ?_|refine au.mk h fun w h=> ?_|refine Ld.xb h rfl ?_|refine Ld.xt h rfl ?_|refine ae.xb (fun _ h=>h) rfl ?_|refine ae.xt (fun _ h=>h) rfl ?_|refine ⟨h.hb,?_⟩|refine ak.xw h rfl rfl fun w h=> ?_|(refine ak.xs h rfl rfl fun w h=> ?_;dsimp only [ao,af] at h)|(refine St.xs h rfl rfl fun w h=> ?_;dsimp only [ao,af] at h)|refine aa.yes ?_|refine aa.no ?_|refine ⟨by first|omega|decide,?_⟩)
  exact herr 242 w rfl (by decide) h.tl
end
end Go.Proofs.YtcdpblipagajiaaGreat
set_option maxRecDepth 20000
namespace Go.Bw
open Go Go.Vc Go.Rk
theorem H6:aU []= []:=List.length_eq_zero_iff.1 (cj [])
end Go.Bw
namespace Go.Proofs.YtcdpblipagajiaaGreat
open Go Go.Vc
section
variable {w:World}
set_option maxRecDepth 200000 in
theorem jF {s:Sl} {b:List Nat} {K:ByteArray→World→Prop} (hs:aC 1 s (b.map vB) w) (hK:K (strOf b) w):ay Tryz.prog (convert 22 9 (.slice s.base s.len s.cap)) kK w K:=
 Ga (s:=s) (b:=b) (e:=5) (by kernel_rfl) (by kernel_rfl) (by kernel_rfl) hs hK
end
end Go.Proofs.YtcdpblipagajiaaGreat
set_option maxRecDepth 20000
namespace Go.Proofs.YtcdpblipagajiaaGreat
open Go Go.Vc
section
variable {E w:World} {F:List HP} {K:Sl→World→Prop} {s s2:Sl} {b x:Nat} {t:TypeId}
abbrev OI (s:Sl) (xs:List Nat):HP:=al 1 s ((ints xs).map vI)
abbrev OB (s:Sl) (xs:List Nat):HP:=al 1 s (xs.map vB)
abbrev MU (b x:Nat) (t:TypeId):HP:=aj b (.cells ⟨[.int .i64 (x:Int)]⟩ t (0,0))
abbrev Mc (b x:Nat) (t:TypeId):HP:=aj b (.cells ⟨[.int .u8 (x:Int)]⟩ t (0,0))
theorem OI.len {xs:List Nat} (h:Hp E w (OI s xs::F)):xs.length=s.len:=by have:=h.a6;simpa [ints] using this
theorem OB.len {xs:List Nat} (h:Hp E w (OB s xs::F)):xs.length=s.len:=by have:=h.a6;simpa using this
theorem N0: ∀y∈ [vI (x:Int)],aA y=true:=by intro y hy;rw [List.mem_singleton] at hy;rw [hy];rfl
theorem NV: ∀y∈ [vB x],aA y=true:=by intro y hy;rw [List.mem_singleton] at hy;rw [hy];rfl
theorem sC (xs ys:List Nat):(ints (xs++ys)).map vI=(ints xs).map vI++(ints ys).map vI:=by simp [ints]
theorem nP {xs:List Nat} (h:aC 1 s ((ints xs).map vI) w):xs.length=s.len:=by have:=h.1;simpa [ints] using this
theorem kL {xs:List Nat} (h:aC 1 s (xs.map vB) w):xs.length=s.len:=by have:=h.1;simpa using this
theorem oX {xs:List Nat} (h:Hp E w (MU b x t::OI s xs::F)) (hl:xs.length≤10000000000) (hK: ∀s' w',Hp E w' (OI s' (xs++ [x])::F)→K s' w'):
  ay Tryz.prog (Builtin.append_ #[33,33] 33 ⟨[.slice s.base s.len s.cap,.slice (some ⟨b,0,none⟩) 1 1]⟩) kS w K:=by
 have hol:=OI.len (h.at 1)
 refine aP (ys:= [vI (x:Int)]) (n:=1) dG (by decide) (.inl ⟨3,by kernel_rfl⟩) (h.at 1) (.inl ⟨some ⟨b,0,none⟩,1,1,rfl,rfl,h.ag (ab.aF rfl rfl)⟩) rfl N0 (by omega) (by omega) fun s' w' h _=>hK s' w' ?_
 unfold OI
 rw [sC]
 exact h.bY
theorem zL {xs:List Nat} (h:Hp E w (Mc b x t::OB s xs::F)) (hl:xs.length≤10000000000) (hK: ∀s' w',Hp E w' (OB s' (xs++ [x])::F)→K s' w'):
  ay Tryz.prog (Builtin.append_ #[22,22] 22 ⟨[.slice s.base s.len s.cap,.slice (some ⟨b,0,none⟩) 1 1]⟩) kS w K:=by
 have hol:=OB.len (h.at 1)
 refine aP (ys:= [vB x]) (n:=1) q0 (by decide) (.inl ⟨5,by kernel_rfl⟩) (h.at 1) (.inl ⟨some ⟨b,0,none⟩,1,1,rfl,rfl,h.ag (ab.aF rfl rfl)⟩) rfl NV (by omega) (by omega) fun s' w' h _=>hK s' w' ?_
 unfold OB
 rw [List.map_append]
 exact h.bY
theorem Nf {xs:List Nat} (h:Hp E w (MU b x t::OI s xs::F)) (hl:xs.length≤10000000000) (hK: ∀s' w',Hp E w' (OI s' (x::xs)::F)→K s' w'):
  ay Tryz.prog (Builtin.append_ #[33,33] 33 ⟨[.slice (some ⟨b,0,none⟩) 1 1,.slice s.base s.len s.cap]⟩) kS w K:=by
 have hol:=OI.len (h.at 1)
 have h2:=Hp.dh (n:=1) (sz:=1) h rfl
 refine aP (s:=⟨some ⟨b,0,none⟩,1,1⟩) (xs:= [vI (x:Int)]) (ys:=(ints xs).map vI) (n:=s.len) dG (by decide) (.inl ⟨3,by kernel_rfl⟩) h2 (.inl ⟨s.base,s.len,s.cap,rfl,rfl,(h2.at 1).ag ab.own⟩) (by simp [ints,hol]) j6 (by dsimp only;omega) (by dsimp only;omega) fun s' w' h _=>hK s' w' ?_
 exact h.bY
theorem JH {xs:List Nat} (h:Hp E w (Mc b x t::OB s xs::F)) (hl:xs.length≤10000000000) (hK: ∀s' w',Hp E w' (OB s' (x::xs)::F)→K s' w'):
  ay Tryz.prog (Builtin.append_ #[22,22] 22 ⟨[.slice (some ⟨b,0,none⟩) 1 1,.slice s.base s.len s.cap]⟩) kS w K:=by
 have hol:=OB.len (h.at 1)
 have h2:=Hp.dh (n:=1) (sz:=1) h rfl
 refine aP (s:=⟨some ⟨b,0,none⟩,1,1⟩) (xs:= [vB x]) (ys:=xs.map vB) (n:=s.len) q0 (by decide) (.inl ⟨5,by kernel_rfl⟩) h2 (.inl ⟨s.base,s.len,s.cap,rfl,rfl,(h2.at 1).ag ab.own⟩) (by simp [hol]) eX (by dsimp only;omega) (by dsimp only;omega) fun s' w' h _=>hK s' w' ?_
 exact h.bY
theorem A8 {xs ys:List Nat} (h:Hp E w (OI s xs::F)) (h2:ab F (aC 1 s2 ((ints ys).map vI))) (hl:xs.length≤10000000000) (hl2:ys.length≤10000000000) (hK: ∀s' w',Hp E w' (OI s' (xs++ys)::F)→K s' w'):
  ay Tryz.prog (Builtin.append_ #[33,33] 33 ⟨[.slice s.base s.len s.cap,.slice s2.base s2.len s2.cap]⟩) kS w K:=by
 have hol:=OI.len h
 have hol2:=nP (h.drop.ag h2)
 refine aP (ys:=(ints ys).map vI) (n:=s2.len) dG (by decide) (.inl ⟨3,by kernel_rfl⟩) h (.inl ⟨s2.base,s2.len,s2.cap,rfl,rfl,h.drop.ag h2⟩) (by simp [ints,hol2]) j6 (by omega) (by omega) fun s' w' h _=>hK s' w' ?_
 unfold OI
 rw [sC]
 exact h
theorem sx {xs ys:List Nat} (h:Hp E w (OB s xs::F)) (h2:ab F (aC 1 s2 (ys.map vB))) (hl:xs.length≤1000000000000) (hl2:ys.length≤1000000000000) (hK: ∀s' w',Hp E w' (OB s' (xs++ys)::F)→K s' w'):
  ay Tryz.prog (Builtin.append_ #[22,22] 22 ⟨[.slice s.base s.len s.cap,.slice s2.base s2.len s2.cap]⟩) kS w K:=by
 have hol:=OB.len h
 have hol2:=kL (h.drop.ag h2)
 refine aP (ys:=ys.map vB) (n:=s2.len) q0 (by decide) (.inl ⟨5,by kernel_rfl⟩) h (.inl ⟨s2.base,s2.len,s2.cap,rfl,rfl,h.drop.ag h2⟩) (by simp [hol2]) eX (by omega) (by omega) fun s' w' h _=>hK s' w' ?_
 unfold OB
 rw [List.map_append]
 exact h
theorem aq.rI {xs:List Nat} {i:Int} {j:Nat} {K:Int→Prop} (hs:aC 1 s ((ints xs).map vI) w) (hi:i=(j:Int)) (hj:j<xs.length) (hK:K (xs[j]:Int)):aq s i 1 fun q=>Ld kI q w K:=by
 subst hi
 have hl:=nP hs
 refine aq.rd hs (by omega) (by omega) fun q _ hq=>Ld.sc (s:= .int .i64) (xs[j]:Int) (by rw [hq];simp [Sc.enc,vI,ints]) hK
theorem aq.rB {xs:List Nat} {i:Int} {j:Nat} {K:Int→Prop} (hs:aC 1 s (xs.map vB) w) (hi:i=(j:Int)) (hj:j<xs.length) (hK:K (xs[j]:Int)):aq s i 1 fun q=>Ld (az .u8) q w K:=by
 subst hi
 have hl:=kL hs
 refine aq.rd hs (by omega) (by omega) fun q _ hq=>Ld.sc (s:= .int .u8) (xs[j]:Int) (by rw [hq];simp [Sc.enc,vB]) hK
end
end Go.Proofs.YtcdpblipagajiaaGreat
set_option maxRecDepth 20000
namespace Go.Proofs.YtcdpblipagajiaaGreat
open Go Go.Vc Go.Srt
section
variable {E w:World} {F:List HP}
set_option maxRecDepth 20000 in
theorem Ml {l:List Nat} {K:Int→World→Prop} (h:Hp E w F) (hl:l.length=258) (hK: ∀(r:Nat) w',(r≤32768↔aS l≤32768)→(aS l≤32768→r=aS l)→Hp E w' F→K (r:Int) w'):
  Cl Tryz.prog [kI] pK ⟨[.agg (ai .u8 l)]⟩ w K:=by
 refine Hh.ok _ _ _ ?_
 refine Nw.mk h fun b w1 h1=> ?_
 have hb:=tk l
 refine ⟨fun sm i w'=> ∃k:Nat,i=(k:Int)∧k≤258∧sm=(aS (l.take k):Int)∧Hp E w' (aj b (.cells (ai .u8 l) 36 (0,0))::F),fun _ i _=>258 - i.toNat,⟨0,rfl,by omega,by simp [aS],h1⟩,?_⟩
 intro sm i w' hI
 obtain ⟨k,hi,hk,hs,hh⟩:=hI
 subst hi;subst hs
 refine aa.mk (fun hlt=> ?_) (fun hge=> ?_)
 ·have hlt:k<258:=by have:=of_decide_eq_true hlt;omega
  have hkl:k<l.length:=by omega
  have hx:(ai .u8 l)[((k:Int)).toNat]? =some (Sc.enc (.int .u8) (l[k]:Int)):=by rw [Int.toNat_natCast];exact dC hkl
  have e:=mb hkl
  have ht:=oR (l:=l) (k:=k+1)
  refine av.rd (s:= .int .u8) hh (by omega) (by omega) (l[k]:Int) hx (aa.mk (fun h15=> ?_) (fun h15=> ?_))
  ·have h15:=of_decide_eq_true h15
   have hw:wt l[k]=32769:=by unfold wt;rw [if_neg (by omega),if_pos (by omega)]
   exact hK 32769 w' (by omega) (by omega) hh.drop
  ·have h15:l[k]≤15:=by have:=of_decide_eq_false h15;omega
   refine av.rd (s:= .int .u8) hh (by omega) (by omega) (l[k]:Int) hx (aa.mk (fun hp=> ?_) (fun hp=> ?_))
   ·have hp:0<l[k]:=by have:=of_decide_eq_true hp;omega
    have hw:wt l[k]=2^(15 - l[k]):=by unfold wt;rw [if_neg (by omega),if_neg (by omega)]
    have hp15:2^(15 - l[k])≤2^15:=Nat.pow_le_pow_right (by decide) (by omega)
    refine av.rd (s:= .int .u8) hh (by omega) (by omega) (l[k]:Int) hx ?_
    have e1:u64 (i64 (15 - i64 (l[k]:Int)))=((15 - l[k]:Nat):Int):=by
     rw [ad (x:=(l[k]:Int)) (by omega),ad (by omega),ik (by omega)];omega
    have hmx:IntKind.max .i64=9223372036854775807:=rfl
    have e2:=dX (k:= .i64) (a:=1) (b:=15 - l[k]) (by have:IntKind.bits .i64=64:=rfl;omega) (by rw [hmx];omega)
    rw [e1]
    rw [show (1:Int)=((1:Nat):Int) from rfl,e2,Nat.one_mul]
    refine ⟨by omega,?_⟩
    rw [hw] at e
    rw [ad (x:=(aS (l.take k):Int)+((2^(15 - l[k]):Nat):Int)) (by omega),ad (by omega)]
    exact ⟨⟨k+1,rfl,by omega,by rw [e];rfl,hh⟩,by dsimp only;omega⟩
   ·have hp:l[k]=0:=by have:=of_decide_eq_false hp;omega
    have hw:wt l[k]=0:=by unfold wt;rw [if_pos hp]
    rw [ad (by omega)]
    exact ⟨⟨k+1,rfl,by omega,by rw [e,hw];rfl,hh⟩,by dsimp only;omega⟩
 ·have hge:k=258:=by have:=of_decide_eq_false hge;omega
  subst hge
  rw [←hl,List.take_length]
  exact hK _ _ Iff.rfl (fun _=>rfl) hh.drop
theorem Ch {s s2:Sl} {a b:List Int} {K:Bool→World→Prop} (h:Hp E w F) (ha:ab F (aC 1 s (a.map vI))) (hb:ab F (aC 1 s2 (b.map vI))) (hbig:a.length≤cA) (hK: ∀w',Hp E w' F→K (a==b) w'):
  Cl Tryz.prog [kB] iC ⟨[.slice s.base s.len s.cap,.slice s2.base s2.len s2.cap]⟩ w K:=by
 refine Ep.ok _ _ _ _ ?_
 have la:=(h.ag ha).1
 have lb:=(h.ag hb).1
 simp only [List.length_map,Nat.mul_one] at la lb
 rw [aB] at hbig
 refine aa.mk (fun hne=> ?_) (fun heq=> ?_)
 ·have hne: ¬(s.len:Int)=(s2.len:Int):=by simpa using hne
  have:(a==b)=false:=by
   rw [beq_eq_false_iff_ne];rintro rfl;omega
  have hk:=hK w h
  rw [this] at hk;exact hk
 ·have heq:(s.len:Int)=(s2.len:Int):=by simpa using heq
  refine ⟨fun i w'=> ∃k:Nat,i=(k:Int)∧k≤a.length∧a.take k=b.take k∧Hp E w' F,fun i _=>a.length - i.toNat,⟨0,rfl,by omega,by simp,h⟩,?_⟩
  rintro i w' ⟨k,rfl,hk,hab,hh⟩
  refine aa.mk (fun hlt=> ?_) (fun hge=> ?_)
  ·have hlt:k<a.length:=by have:=of_decide_eq_true hlt;omega
   have hltb:k<b.length:=by omega
   refine au.mk hh fun w1 h1=> ?_
   refine aq.rd (h1.ag ha) (by omega) (by omega) fun q hq hc=> ?_
   refine Ld.sc (s:= .int .i64) a[k] (by rw [hc];simp [vI]) ?_
   refine aq.rd (h1.ag hb) (by omega) (by omega) fun q2 hq2 hc2=> ?_
   refine Ld.sc (s:= .int .i64) b[k] (by rw [hc2];simp [vI]) ?_
   refine aa.mk (fun hne=> ?_) (fun hee=> ?_)
   ·have hne: ¬a[k]=b[k]:=by simpa using hne
    have:(a==b)=false:=by
     rw [beq_eq_false_iff_ne];rintro rfl;exact hne rfl
    have hk:=hK w1 h1
    rw [this] at hk;exact hk
   ·have hee:a[k]=b[k]:=by simpa using hee
    rw [ad (by omega)]
    refine ⟨⟨k+1,rfl,by omega,?_,h1⟩,by dsimp only;omega⟩
    rw [List.take_add_one,List.take_add_one,hab,List.getElem?_eq_getElem hlt,List.getElem?_eq_getElem hltb,hee]
  ·have hge:k=a.length:=by have:=of_decide_eq_false hge;omega
   subst hge
   rw [List.take_length,List.take_of_length_le (by omega)] at hab
   have hk:=hK w' hh
   rw [hab] at hk
   simpa using hk
end
end Go.Proofs.YtcdpblipagajiaaGreat
namespace Go.Vc
open Go
theorem bd.NB {w:World} {s:Sl} {xs:List Value} {lo hi mx:Int} {K:Sl→Prop} (hs:aC 1 s xs w) (h0:0≤lo) (h1:lo≤hi) (h2:hi≤(s.len:Int)) (h3:hi≤mx) (h4:mx≤(s.cap:Int))
  (h: ∀s':Sl,(∀w',aC 1 s xs w'→aC 1 s' ((xs.drop lo.toNat).take (hi.toNat - lo.toNat)) w')→s'.len=hi.toNat - lo.toNat→s'.len≤s'.cap→K s'):bd s lo hi mx 1 K:=by
 obtain ⟨a,b,c,d,e⟩:=bd.rd (K:=fun s'=>s'.len≤s'.cap→K s') hs h0 h1 h2 h3 h4 fun s' a b c=>h s' a b c
 exact ⟨a,b,c,d,e (by simp only;omega)⟩
end Go.Vc
namespace Go.Stm
end Go.Stm
namespace Go.Proofs.YtcdpblipagajiaaGreat
open Go Go.Vc Go.Stm
section
variable {E w:World} {F:List HP}
set_option maxRecDepth 20000
end
end Go.Proofs.YtcdpblipagajiaaGreat
namespace Go.aj
open Go.Inc Go.Srt Go.Sym Go.Bits Go.Tab Go.Hd Go.Crc Go.Bw Go.Rk Go.Proofs.YtcdpblipagajiaaGreat
theorem gW:aU [97]= [97]:=by
 have:bM [97]= [1,0]:=py (iS [97]) ((dS _).trans (by decide+kernel)) (lW [97]) (by decide+kernel)
 unfold aU eF;rw [this];decide+kernel
theorem Kk:bG [97]=1:=by decide+kernel
theorem KF:aU [98,97]= [97,98]:=by
 have:bM [98,97]= [2,1,0]:=py (iS [98,97]) ((dS _).trans (by decide+kernel)) (lW [98,97]) (by decide+kernel)
 unfold aU eF;rw [this];decide+kernel
theorem Mu:bG [98,97]=2:=by decide+kernel
theorem zS:syms [97]= [98,257]:=by decide+kernel
theorem I6:syms []= [257]:=by decide+kernel
theorem Kl:lf [97]=3904355907:=by decide+kernel
theorem AT:(bB [97]).getD 98 0=1∧(bB [97]).getD 257 0=1:=by
 have hord:bA (gM [98,257]) [98,257]:=⟨by decide+kernel,by decide+kernel⟩
 have e:bB [97]=iq (gM [98,257]) [98,257] 15:=by
  unfold bB tJ
  rw [show ([97]:List Nat).reverse= [97] from rfl,gW,zS]
  have:=qW (xx (gM [98,257])) hord
  rw [this]
 rw [e]
 exact ⟨by decide+kernel,by decide+kernel⟩
noncomputable abbrev sH:List Nat:=bB [97]
theorem td:mw sH [97]:=by
 have:=mM (x:= [97]) (by decide) (by decide) (by decide)
 rwa [show ([97]:List Nat).reverse= [97] from rfl,gW] at this
noncomputable abbrev ot:List Nat:=pack (body sH [97])
theorem qq:kF sH [97]= [1,1,1,232,183,190,67]++ot:=by
 unfold kF
 rw [show ([97]:List Nat).reverse= [97] from rfl,gW,Kk,Kl]
 congr 1
 decide+kernel
theorem zW:0<ot.length:=by
 have h:=il (body sH [97])
 have:0<(body sH [97]).length:=by unfold body;rw [List.length_append];unfold dr four;simp;omega
 unfold ot;rw [h];omega
theorem LS: ∀y∈ot,y<256:=G9 (pk _ _) _
theorem MI:cC 10 [0,0,0,0,0]= .error 242:=rfl
theorem MT (z:List Nat):cC 10 ([1,1,1,232,183,190,67]++ot++z)= .ok ([97],z):=by
 rw [←qq]
 refine Fj ?_ ?_ (by decide) (by decide) (by decide) z
 ·rw [show ([97]:List Nat).reverse= [97] from rfl,gW];exact td
 ·rw [show ([97]:List Nat).reverse= [97] from rfl,gW];decide
theorem M0:cC 10 [1,1,1,232,183,190,67]= .error 50:=by
 have h:=zW
 have:=Fu (l:=sH) (n:=10) (x:= [97]) (by rw [show ([97]:List Nat).reverse= [97] from rfl,gW];exact td) (by rw [show ([97]:List Nat).reverse= [97] from rfl,gW];decide) (by decide) (by decide) (by decide) (k:=7) (by rw [qq,List.length_append];simp;exact h)
 rw [qq] at this
 exact this
theorem L6:cC 10 ([1,1,1,0,183,190,67]++ot)= .error 250:=by
 have:=ub (n:=10) (P:=1) (sum:=12041795) td (by decide) (by decide) (by decide) (by decide) (by decide) (by decide) []
 rw [List.append_nil,show fR [97].length 1 12041795= [1,1,1,0,183,190,67] by decide+kernel] at this
 have e:kX 1 12041795 [97]= .error 250:=by
  unfold kX
  rw [if_pos (by decide+kernel),if_neg (by decide+kernel)]
 rw [e] at this
 exact this
end Go.aj
namespace Go.Proofs.YtcdpblipagajiaaGreat
open Go Go.Vc Go.Srt Go.Inc Go.Sym Go.Tab Go.Hd Go.Bw Go.Bits Go.aj Go.Crc
section
variable {E w:World} {F:List HP}
set_option maxRecDepth 20000
theorem MO {b:Nat} {s:Sl} {xs:List Nat} {K:Sl→World→Prop} (h:Hp E w (aj b (.cells ⟨[]⟩ 5 (0,0))::F)) (hs:ab F (aC 1 s (xs.map vB))) (hl:xs.length≤1000000000000) (hK: ∀s' w',Hp E w' (OB s' xs::F)→K s' w'):
  ay Tryz.prog (Builtin.append_ #[22,22] 22 ⟨[.slice (some ⟨b,0,none⟩) 0 0,.slice s.base s.len s.cap]⟩) kS w K:=by
 have h:=Hp.dh (n:=0) (sz:=1) h rfl
 have key:=fun (K':Sl→World→Prop)=>sx (s:=⟨some ⟨b,0,none⟩,0,0⟩) (xs:= []) (ys:=xs) (K:=K') h hs (Nat.zero_le _) hl
 exact key _ fun s3 w h=>hK s3 w h
theorem Jl {n:Int} {s:Sl} {x:List Nat} {K:Sl→Int→World→Prop} (h:Hp E w F) (hs:ab F (aC 1 s (x.map vB))) (hb: ∀y∈x,y<256) (h1:1≤n) (h2:n≤65536) (h3:1≤x.length) (h4:(x.length:Int)≤n)
  (hK: ∀s' w',Hp E w' (OB s' (kF (bB x) x)::F)→K s' 0 w'):Cl Tryz.prog [kS,kI] c8 ⟨[.int .i64 n,.slice s.base s.len s.cap]⟩ w K:=
 AH h hs hb (by omega) (fun _ _ _ _=>hK) fun hno=>absurd ⟨h1,h2,h3,h4⟩ hno
theorem A7 {n:Int} {s:Sl} {x:List Nat} {K:Sl→Int→World→Prop} (h:Hp E w F) (hs:ab F (aC 1 s (x.map vB))) (hb: ∀y∈x,y<256) (hl:x.length≤65536) (hno: ¬(1≤n∧n≤65536∧1≤x.length∧(x.length:Int)≤n))
  (hK: ∀w',Hp E w' F→K ⟨none,0,0⟩ 2 w'):Cl Tryz.prog [kS,kI] c8 ⟨[.int .i64 n,.slice s.base s.len s.cap]⟩ w K:=
 AH h hs hb hl (fun h1 h2 h3 h4=>absurd ⟨h1,h2,h3,h4⟩ hno) fun _=>hK
theorem Fo {n:Nat} {s:Sl} {b x r:List Nat} {K:Sl→Sl→Int→World→Prop} (h:Hp E w F) (hs:ab F (aC 1 s (b.map vB))) (hb: ∀y∈b,y<256) (hbig:b.length≤10000000) (hcap:s.len≤s.cap) (h1:1≤n) (h2:n≤65536) (he:cC n b= .ok (x,r))
  (hK: ∀s1 s2 w',Hp E w' (OB s1 x::OB s2 r::F)→K s1 s2 0 w'):Cl Tryz.prog [kS,kS,kI] ch ⟨[.int .i64 (n:Int),.slice s.base s.len s.cap]⟩ w K:=by
 refine uW h hs hb hbig hcap (fun hn=>absurd (show 1≤(n:Int)∧(n:Int)≤65536 by omega) hn) (fun _ _ e w h3=> ?_) (fun _ _ x' r' s1 s2 w h3 _ _ _ h=> ?_)
 ·rw [Int.toNat_natCast,he] at h3;cases h3
 ·rw [Int.toNat_natCast,he] at h3;cases h3;exact hK s1 s2 w h
theorem pH {n e:Nat} {s:Sl} {b:List Nat} {K:Sl→Sl→Int→World→Prop} (h:Hp E w F) (hs:ab F (aC 1 s (b.map vB))) (hb: ∀y∈b,y<256) (hbig:b.length≤10000000) (hcap:s.len≤s.cap) (h1:1≤n) (h2:n≤65536) (he:cC n b= .error e)
  (hK: ∀w',Hp E w' F→K ⟨none,0,0⟩ ⟨none,0,0⟩ (e:Int) w'):Cl Tryz.prog [kS,kS,kI] ch ⟨[.int .i64 (n:Int),.slice s.base s.len s.cap]⟩ w K:=by
 refine uW h hs hb hbig hcap (fun hn=>absurd (show 1≤(n:Int)∧(n:Int)≤65536 by omega) hn) (fun _ _ e' w h3 _ h=> ?_) (fun _ _ x' r' s1 s2 w h3 _ _ _ h=> ?_)
 ·rw [Int.toNat_natCast,he] at h3;cases h3;exact hK w h
 ·rw [Int.toNat_natCast,he] at h3;cases h3
theorem J2 (x:List Nat):((strOf x).toList==(strOf x).toList)=true:=by simp
theorem su {K:Bool→World→Prop} (h:Hp E w F) (hK: ∀w',Hp E w' F→K true w'):Cl Tryz.prog [kB] jR ⟨[]⟩ w K:=by
 refine C5.ok _ _ ?_
 simp only [aD]
 have b1: ∀y∈([97]:List Nat),y<256:=by decide
 have hTb:=LS
 have hTp:=zW
 have hTl:=GM (x:= [97]) (by decide) b1 (by decide)
 rw [show bB [97]=sH from rfl,qq,List.length_append] at hTl
 simp only [List.length_cons,List.length_nil] at hTl
 have b7: ∀y∈([1,1,1,232,183,190,67]:List Nat),y<256:=by decide
 have hBb: ∀y∈ [1,1,1,232,183,190,67]++ot,y<256:=fun y hy=>by
  rcases List.mem_append.1 hy with hy|hy
  ·exact b7 y hy
  ·exact hTb y hy
 refine Nw.mk h fun b2 w h=>Jl (n:=10) (s:=⟨some ⟨b2,0,none⟩,1,1⟩) (x:= [97]) h (ab.aF rfl rfl) b1 (by decide) (by decide) (by decide) (by decide) fun s4 w h=> ?_
 rw [show bB [97]=sH from rfl,qq] at h
 have l4:=OB.len h
 have c4:=h.ee
 rw [List.length_append] at l4
 simp only [List.length_cons,List.length_nil] at l4
 refine A7 (n:=10) (s:=⟨none,0,0⟩) (x:= []) h ab.nil (by simp) (by simp) (by simp) fun w h=> ?_
 refine Nw.mk h fun b10 w h=>A7 (n:=0) (s:=⟨some ⟨b10,0,none⟩,1,1⟩) (x:= [97]) h (ab.aF rfl rfl) b1 (by decide) (by decide) fun w h=> ?_
 (with_reducible repeat first|refine Nw.mk h fun b w h=> ?_|refine au.mk h fun w h=> ?_|refine Ld.xb h rfl ?_|refine Ld.xt h rfl ?_|refine ae.xb (fun _ h=>h) rfl ?_|refine ae.xt (fun _ h=>h) rfl ?_|refine ⟨h.hb,?_⟩|refine ak.xw h rfl rfl fun w h=> ?_|(refine ak.xs h rfl rfl fun w h=> ?_;dsimp only [ao,af] at h)|(refine St.xs h rfl rfl fun w h=> ?_;dsimp only [ao,af] at h)|refine aa.yes ?_|refine aa.no ?_|refine ⟨by first|omega|decide,?_⟩)
 refine MO h (ab.at 1 ab.own) (by rw [List.length_append];simp only [List.length_cons,List.length_nil];omega) fun s22 w h=> ?_
 refine Nw.mk h fun b24 w h=>zL (x:=7) h (by rw [List.length_append];simp only [List.length_cons,List.length_nil];omega) fun s26 w h=> ?_
 have hl2:([1,1,1,232,183,190,67]++ot++ [7]).length≤10000000:=by rw [List.length_append,List.length_append];simp only [List.length_cons,List.length_nil];omega
 refine Fo (n:=10) h ab.own (fun y hy=> ?_) hl2 h.ee (by decide) (by decide) (MT [7]) fun s28 s29 w h=> ?_
 ·rcases List.mem_append.1 hy with hy|hy
  ·exact hBb y hy
  ·rw [List.mem_singleton] at hy;omega
 refine Nw.mk h fun b32 w h=>pH (n:=10) (s:=⟨some ⟨b32,0,none⟩,5,5⟩) (b:= [0,0,0,0,0]) h (ab.aF rfl rfl) (by decide) (by decide) (Nat.le_refl _) (by decide) (by decide) MI fun w h=> ?_
 refine bd.NB ((h.at 5).ag ab.own) (by omega) (by omega) (by omega) (by omega) (by omega) fun s37 hs37 hl37 hc37=> ?_
 have hs37: ∀w,aC 1 s4 (([1,1,1,232,183,190,67]++ot).map vB) w→aC 1 s37 (([1,1,1,232,183,190,67]:List Nat).map vB) w:=fun w hw=>hs37 w hw
 refine pH (n:=10) h ((ab.at 5 ab.own).imp hs37) b7 (by decide) hc37 (by decide) (by decide) M0 fun w h=> ?_
 refine Nw.mk h fun b43 w h=>MO h (ab.at 5 ab.own) (by rw [List.length_append];simp only [List.length_cons,List.length_nil];omega) fun s45 w h=> ?_
 refine aq.MM (j:=3) (x:=0) h rfl (by rw [List.length_append];simp only [List.length_cons,List.length_nil];omega) fun w h=> ?_
 have h:Hp E w (OB s45 ([1,1,1,0,183,190,67]++ot)::_):=h
 refine pH (n:=10) h ab.own (fun y hy=> ?_) (by rw [List.length_append];simp only [List.length_cons,List.length_nil];omega) h.ee (by decide) (by decide) L6 fun w h=> ?_
 ·rcases List.mem_append.1 hy with hy|hy
  ·have hk: ∀y∈([1,1,1,0,183,190,67]:List Nat),y<256:=by decide
   exact hk y hy
  ·exact hTb y hy
 refine Nw.mk h fun b53 w h=>wM (s:=⟨some ⟨b53,0,none⟩,1,1⟩) (x:= [97]) h (ab.aF rfl rfl) b1 (by decide) fun w h=> ?_
 have hls:(ai .u8 (bB [97])).size=258:=by rw [ax];exact kb _
 have hlc:(ai .u8 (bB [97])).toList.all aA=true:=List.all_eq_true.2 bk
 refine Nw.mk h fun b57 w h=>an.q h (by simp) hls hlc fun w h=>Nw.mk h fun b60 w h=>Ia h fun w h=> ?_
 refine rF (s:=⟨some ⟨b60,0,none⟩,2,2⟩) (x:= [97,98]) h (ab.aF rfl rfl) (by decide) (by decide) fun s64 w h=> ?_
 rw [show ([97,98]:List Nat).reverse= [98,97] from rfl,Mu]
 rw [show ([97,98]:List Nat).reverse= [98,97] from rfl,KF] at h
 refine bd.NB ((h.at 10).ag ab.own) (by omega) (by omega) (by omega) (by omega) (by omega) fun s66 hs66 hl66 hc66=> ?_
 have hs66: ∀w,aC 1 s4 (([1,1,1,232,183,190,67]++ot).map vB) w→aC 1 s66 (([1,1,1,232,183,190,67]:List Nat).map vB) w:=fun w hw=>hs66 w hw
 refine jF (hs66 _ (h.ag (ab.at 10 ab.own))) (aa.t (by rw [show (ByteArray.mk #[1,1,1,232,183,190,67])=strOf [1,1,1,232,183,190,67] from rfl];exact J2 _) ?_)
 refine jF (h.ag (ab.at 6 ab.own)) (aa.t (by rw [show (ByteArray.mk #[97])=strOf [97] from rfl];exact J2 _) ?_)
 refine jF (h.ag (ab.at 7 ab.own)) (aa.t (by rw [show (ByteArray.mk #[7])=strOf [7] from rfl];exact J2 _) ?_)
 refine aa.t rfl (aa.t rfl (aa.t rfl (aa.t rfl ?_)))
 have hL:=kb (syms (aU ([97]:List Nat).reverse))
 refine av.rd (s:= .int .u8) (h.at 2) (by decide) (by decide) ((bB [97]).getD 98 0:Int) (ig (by rw [show (bB [97]).length=258 from hL];decide)) ?_
 rw [AT.1]
 refine aa.t rfl ?_
 refine av.rd (s:= .int .u8) (h.at 2) (by decide) (by decide) ((bB [97]).getD 257 0:Int) (ig (by rw [show (bB [97]).length=258 from hL];decide)) ?_
 rw [AT.2]
 refine aa.t rfl ?_
 refine Nw.mk h fun b78 w h=>o7 (s:=⟨some ⟨b78,0,none⟩,1,1⟩) (x:= [97]) h (ab.aF rfl rfl) b1 (by decide) fun s80 w h=> ?_
 rw [show ([97]:List Nat).reverse= [97] from rfl,gW,zS] at h
 refine Nw.mk h fun b82 w h=>Ch (s2:=⟨some ⟨b82,0,none⟩,2,2⟩) (b:=ints [98,257]) h (ab.at 1 ab.own) (ab.aF rfl rfl) (by decide) fun w h=> ?_
 refine aa.t (by simp) ?_
 refine jF (h.ag (ab.at 3 ab.own)) (aa.t (by rw [show (ByteArray.mk #[97,98])=strOf [97,98] from rfl];exact J2 _) (aa.t rfl ?_))
 refine o7 (s:=⟨none,0,0⟩) (x:= []) h ab.nil (by simp) (by simp) fun s88 w h=> ?_
 rw [show ([]:List Nat).reverse= [] from rfl,H6,I6] at h
 refine Nw.mk h fun b90 w h=>Ch (s2:=⟨some ⟨b90,0,none⟩,1,1⟩) (b:=ints [257]) h (ab.at 1 ab.own) (ab.aF rfl rfl) (by decide) fun w h=> ?_
 exact iX (by simp) (hK w h.tl)
end
end Go.Proofs.YtcdpblipagajiaaGreat
namespace Go.Proofs.YtcdpblipagajiaaGreat
open Go Go.Vc
set_option maxRecDepth 100000
theorem FB.ok (a:Int) (b:Sl) (R:Sl→Int→World→Prop) w (h:
 Cl Pg [kS,kI] fF ⟨[(ah b)]⟩ w fun (d:Sl) (e:Int) c=>
 Nw 22 ⟨[(ah b)]⟩ c fun g f=>
 Cl Pg [(az .u32)] mL ⟨[(ah (⟨some ⟨g,0,none⟩,1,1⟩:Sl))]⟩ f fun (i:Int) h=>
 Cl Pg [kS,kI] jX ⟨[(ni a),(.agg ⟨[(ni (b.len:Int)),(ni e),(.int .u32 i)]⟩)]⟩ h fun (k:Sl) (l:Int) j=>
 aa (l !=0)
 (R (⟨none,0,0⟩:Sl) 2 j)
 (Cl Pg [(.arr 258)] gT ⟨[(ah b)]⟩ j fun n m=>
 Nw 36 ⟨List.replicate 258 (.int .u8 0)⟩ m fun p o=>
 an 258 ⟨p,0,none⟩ n o fun q=>
 Ld (.arr 258) ⟨p,0,none⟩ q fun r=>
 Cl Pg [kS,kI] ru ⟨[(.agg r)]⟩ q fun (t:Sl) (u:Int) s=>
 cL s fun v x=>
 ae (.arr 258) ⟨p,0,none⟩ v fun y=>
 Cl Pg [kS] fe ⟨[(ah b)]⟩ x fun (a1:Sl) z=>
 v z∧
 Cl Pg [kS,kB] nX ⟨[(.agg y),(ah a1)]⟩ z fun (c1:Sl) (d1:Bool) b1=>
 v b1∧
 ay Pg (Builtin.append_ #[33,33] 33 ⟨[(ah t),(ah c1)]⟩) kS b1 fun (f1:Sl) e1=>
 Cl Pg [kS] mv ⟨[(ah f1)]⟩ e1 fun (h1:Sl) g1=>
 ay Pg (Builtin.append_ #[22,22] 22 ⟨[(ah k),(ah h1)]⟩) kS g1 fun (j1:Sl) i1=>
 R j1 0 i1)):Cl Pg [kS,kI] kA ⟨[(ni a),(ah b)]⟩ w R:=co Tryz.f13 [] h
theorem A0.ok (a:Int) (b:Sl) (R:Sl→Sl→Int→World→Prop) w (h:
 Cl Pg [(.st aY),kS,kI] fV ⟨[(ni a),(ah b)]⟩ w fun d (e:Sl) (f:Int) c=>
 Nw 74 ⟨[(ni 0),(ni 0),(ni 0),(ni 0),(ni 0),(.int .u32 0),(ni 0)]⟩ c fun h g=>
 ak ⟨h,0,none⟩ [(ni d.1),(ni d.2.1),(ni d.2.2.1),(ni d.2.2.2.1),(ni d.2.2.2.2.1),(.int .u32 d.2.2.2.2.2.1),(ni d.2.2.2.2.2.2.1)] 0 g fun i=>
 aa (f !=0)
 (R (⟨none,0,0⟩:Sl) (⟨none,0,0⟩:Sl) f i)
 (Ld kI (Addr.add ⟨h,0,none⟩ 0) i fun (j:Int)=>
 aa (j !=4)
 (R (⟨none,0,0⟩:Sl) (⟨none,0,0⟩:Sl) 242 i)
 (Cl Pg [kS] rK ⟨[(ah e)]⟩ i fun (l:Sl) k=>
 Cl Pg [(.arr 258),kI,kI] nT ⟨[(ah l)]⟩ k fun n (o:Int) (p:Int) m=>
 Nw 36 ⟨List.replicate 258 (.int .u8 0)⟩ m fun r q=>
 an 258 ⟨r,0,none⟩ n q fun s=>
 aa (p !=0)
 (R (⟨none,0,0⟩:Sl) (⟨none,0,0⟩:Sl) p s)
 (au s fun d1=>
 Ld kI ((Addr.add ⟨h,0,none⟩ 3).add 0) d1 fun (e1:Int)=>
 Ld (.arr 258) ⟨r,0,none⟩ d1 fun f1=>
 bd l o (l).len (l).cap 1 fun g1=>
 Cl Pg [kS,kI,kI] lu ⟨[(ni e1),(.agg f1),(ah g1)]⟩ d1 fun (i1:Sl) (j1:Int) (k1:Int) h1=>
 aa (k1 !=0)
 (R (⟨none,0,0⟩:Sl) (⟨none,0,0⟩:Sl) k1 h1)
 (cn (i64 (o+j1)) h1 fun l1 m1 (n1:Int) o1=>
 (8:Int)≠0∧
 aa (((Int.tmod n1 (8:Int)):Int) !=0)
 (aq l n1 1 fun p1=>
 Ld kI p1 o1 fun (q1:Int)=>
 aa (q1==1)
 (R (⟨none,0,0⟩:Sl) (⟨none,0,0⟩:Sl) 160 o1)
 (l1 (i64 (n1+1)) o1∧m1 (i64 (n1+1)) o1<m1 n1 o1))
 (Ld kI ((Addr.add ⟨h,0,none⟩ 3).add 1) o1 fun (r1:Int)=>
 Cl Pg [kS,kI] nR ⟨[(ah i1),(ni r1)]⟩ o1 fun (t1:Sl) (u1:Int) s1=>
 aa (u1 !=0)
 (R (⟨none,0,0⟩:Sl) (⟨none,0,0⟩:Sl) u1 s1)
 (Cl Pg [kS] fL ⟨[(ah t1)]⟩ s1 fun (x1:Sl) v1=>
 cL v1 fun g2 h2=>
 ae (az .u32) ((Addr.add ⟨h,0,none⟩ 3).add 2) g2 fun (i2:Int)=>
 Nw 22 ⟨[(ah x1)]⟩ h2 fun k2 j2=>
 g2 j2∧
 Cl Pg [(az .u32)] mL ⟨[(ah (⟨some ⟨k2,0,none⟩,1,1⟩:Sl))]⟩ j2 fun (m2:Int) l2=>
 g2 l2∧
 aa (m2 !=i2)
 (R (⟨none,0,0⟩:Sl) (⟨none,0,0⟩:Sl) 250 l2)
 (Nw 5 ⟨[]⟩ l2 fun o2 n2=>
 (8:Int)≠0∧
 bd e (i64 (Int.tdiv n1 (8:Int))) (e).len (e).cap 1 fun p2=>
 ay Pg (Builtin.append_ #[22,22] 22 ⟨[(ah (⟨some ⟨o2,0,none⟩,0,0⟩:Sl)),(ah p2)]⟩) kS n2 fun (r2:Sl) q2=>
 R x1 r2 0 q2)))))))):Cl Pg [kS,kS,kI] iR ⟨[(ni a),(ah b)]⟩ w R:=co Tryz.f15 [(33,[(17,kI)])] h
theorem BF.ok (a:Sl) (R:Sl→Int→World→Prop) w (h:
 Cl Pg [kS] fL ⟨[(ah a)]⟩ w fun (c:Sl) b=>
 Cl Pg [kS,kI] oa ⟨[(ah c)]⟩ b fun (e:Sl) (f:Int) d=>
 R e f d):Cl Pg [kS,kI] fF ⟨[(ah a)]⟩ w R:=co Tryz.f17 [] h
theorem zw.ok (a:Sl) (R:Sl→World→Prop) w (h:
 Cl Pg [kS,kI] fF ⟨[(ah a)]⟩ w fun (c:Sl) (d:Int) b=>
 Cl Pg [kS] pA ⟨[(ah c)]⟩ b fun (f:Sl) e=>
 R f e):Cl Pg [kS] fe ⟨[(ah a)]⟩ w R:=co Tryz.f20 [] h
theorem zz.ok (a:Sl) (R:(Array Value)→World→Prop) w (h:
 Nw 36 ⟨List.replicate 258 (.int .u8 0)⟩ w fun c b=>
 Cl Pg [kS] fe ⟨[(ah a)]⟩ b fun (e:Sl) d=>
 Cl Pg [(.arr 258),kI] rf ⟨[(ah e)]⟩ d fun g (h:Int) f=>
 Nw 41 ⟨List.replicate 258 (ni 0)⟩ f fun j i=>
 an 258 ⟨j,0,none⟩ g i fun k=>
 Ld (.arr 258) ⟨j,0,none⟩ k fun l=>
 Cl Pg [(.arr 258),kI] gQ ⟨[(.agg l),(ni 15)]⟩ k fun n (o:Int) m=>
 Nw 36 ⟨List.replicate 258 (.int .u8 0)⟩ m fun q p=>
 an 258 ⟨q,0,none⟩ n p fun r=>
 Ld (.arr 258) ⟨q,0,none⟩ r fun s=>
 an 258 ⟨c,0,none⟩ s r fun t=>
 Ld (.arr 258) ⟨c,0,none⟩ t fun u=>
 R u t):Cl Pg [(.arr 258)] gT ⟨[(ah a)]⟩ w R:=co Tryz.f22 [] h
theorem B7.ok (a:Int) (b:(Array Value)) (c:Sl) (R:Sl→Int→Int→World→Prop) w (h:
 Nw 36 b w fun e d=>
 Ld (.arr 258) ⟨e,0,none⟩ d fun f=>
 Cl Pg [(.arr 258),kI] jB ⟨[(.agg f)]⟩ d fun h (i:Int) g=>
 Nw 101 ⟨List.replicate 258 (.int .u32 0)⟩ g fun k j=>
 an 258 ⟨k,0,none⟩ h j fun l=>
 Cl Pg [(.arr 260)] pB ⟨[(ni a)]⟩ l fun n m=>
 Nw 149 ⟨List.replicate 256 (.int .u8 0)++ [(ni 0),(ni 0),(ni 0),(.bool false)]⟩ m fun p o=>
 an 260 ⟨p,0,none⟩ n o fun q=>
 bE (⟨none,0,0⟩:Sl) 0 q fun r s (t:Sl) (u:Int) v=>
 Ld (.arr 258) ⟨e,0,none⟩ v fun x=>
 Ld (.arr 258) ⟨k,0,none⟩ v fun y=>
 Cl Pg [kI,kI,kB] od ⟨[(.agg x),(.agg y),(ah c),(ni u)]⟩ v fun (a1:Int) (b1:Int) (c1:Bool) z=>
 aa (!c1)
 (R (⟨none,0,0⟩:Sl) 0 50 z)
 (Ld (.arr 260) ⟨p,0,none⟩ z fun d1=>
 Cl Pg [(.arr 260),kS,kB,kI] nK ⟨[(.agg d1),(ni a1)]⟩ z fun f1 (g1:Sl) (h1:Bool) (i1:Int) e1=>
 Nw 149 ⟨List.replicate 256 (.int .u8 0)++ [(ni 0),(ni 0),(ni 0),(.bool false)]⟩ e1 fun k1 j1=>
 an 260 ⟨k1,0,none⟩ f1 j1 fun l1=>
 aa (i1 !=0)
 (R (⟨none,0,0⟩:Sl) 0 i1 l1)
 (Ld (.arr 260) ⟨k1,0,none⟩ l1 fun m1=>
 an 260 ⟨p,0,none⟩ m1 l1 fun n1=>
 ay Pg (Builtin.append_ #[22,22] 22 ⟨[(ah t),(ah g1)]⟩) kS n1 fun (p1:Sl) o1=>
 aa h1
 (R p1 (i64 (u+b1)) 0 o1)
 (r p1 (i64 (u+b1)) o1∧s p1 (i64 (u+b1)) o1<s t u v)))):Cl Pg [kS,kI,kI] lu ⟨[(ni a),(.agg b),(ah c)]⟩ w R:=co Tryz.f60 [(10,[(12,kS),(13,kI)])] h
theorem EL.ok (a:(Array Value)) (b:(Array Value)) (c:Sl) (d:Int) (R:Int→Int→Bool→World→Prop) w (h:
 Nw 36 a w fun f e=>
 Nw 101 b e fun h g=>
 bE 0 1 g fun i j (k:Int) (l:Int) m=>
 bo (fun (o:World)=>
 aq c (i64 ((i64 (d+l)) - 1)) 1 fun p=>
 Ld kI p o fun (q:Int)=>
 cn 0 o fun r s (t:Int) u=>
 aa (decide (t<258))
 (av ⟨f,0,none⟩ 258 t 1 fun v=>
 Ld (az .u8) v u fun (x:Int)=>
 aa ((i64 x)==l)
 (av ⟨h,0,none⟩ 258 t 1 fun y=>
 Ld (az .u32) y u fun (z:Int)=>
 aa (z==(u32 ((u32 ((2:Int)*k))+(u32 q))))
 (R t l true u)
 (r (i64 (t+1)) u∧s (i64 (t+1)) u<s t u))
 (r (i64 (t+1)) u∧s (i64 (t+1)) u<s t u))
 (i (u32 ((u32 ((2:Int)*k))+(u32 q))) (i64 (l+1)) u∧j (u32 ((u32 ((2:Int)*k))+(u32 q))) (i64 (l+1)) u<j k l m)) fun n=>
 aa (decide (l≤15))
 (aa (decide ((i64 (d+l))≤(c.len:Int)))
 (n m)
 (R 0 0 false m))
 (R 0 0 false m)):Cl Pg [kI,kI,kB] od ⟨[(.agg a),(.agg b),(ah c),(ni d)]⟩ w R:=co Tryz.f112 [(7,[(11,(az .u32)),(12,kI)]),(8,[]),(16,[(13,kI)])] h
end Go.Proofs.YtcdpblipagajiaaGreat
namespace Go.Proofs.YtcdpblipagajiaaGreat
open Go Go.Vc
set_option maxRecDepth 100000
theorem Hx.ok (a:Int) (R:(Array Value)→World→Prop) w (h:
 Nw 149 ⟨List.replicate 256 (.int .u8 0)++ [(ni 0),(ni 0),(ni 0),(.bool false)]⟩ w fun c b=>
 aa (decide (a<1))
 (bU Pg 149 [] fun d=>
 an 260 ⟨c,0,none⟩ d b fun e=>
 Ld (.arr 260) ⟨c,0,none⟩ e fun f=>
 R f e)
 (aa (decide (a>65536))
 (bU Pg 149 [] fun g=>
 an 260 ⟨c,0,none⟩ g b fun h=>
 Ld (.arr 260) ⟨c,0,none⟩ h fun i=>
 R i h)
 (Cl Pg [(.arr 256)] lQ ⟨[]⟩ b fun k j=>
 bU Pg 149 [(0,(.agg k)),(1,(ni a))] fun l=>
 an 260 ⟨c,0,none⟩ l j fun m=>
 Ld (.arr 260) ⟨c,0,none⟩ m fun n=>
 R n m))):Cl Pg [(.arr 260)] pB ⟨[(ni a)]⟩ w R:=co Tryz.f111 [] h
theorem Fk.ok (a:(Array Value)) (b:Int) (R:(Array Value)→Sl→Bool→Int→World→Prop) w (h:
 Nw 149 a w fun d c=>
 Nw 149 ⟨List.replicate 256 (.int .u8 0)++ [(ni 0),(ni 0),(ni 0),(.bool false)]⟩ c fun f e=>
 bo (fun (y:World)=>
 Ld (.arr 260) ⟨d,0,none⟩ y fun z=>
 Nw 149 ⟨List.replicate 256 (.int .u8 0)++ [(ni 0),(ni 0),(ni 0),(.bool false)]⟩ y fun b1 a1=>
 an 260 ⟨b1,0,none⟩ z a1 fun c1=>
 aa (decide (b<2))
 (Ld kI (Addr.add ⟨d,0,none⟩ 257) c1 fun (d1:Int)=>
 Cl Pg [kS,kI] iM ⟨[(ni d1)]⟩ c1 fun (f1:Sl) (g1:Int) e1=>
 Nw 3 ⟨[(ni b)]⟩ e1 fun i1 h1=>
 ay Pg (Builtin.append_ #[33,33] 33 ⟨[(ah f1),(ah (⟨some ⟨i1,0,none⟩,1,1⟩:Sl))]⟩) kS h1 fun (k1:Sl) j1=>
 Cl Pg [kI,kI] lK ⟨[(ah k1)]⟩ j1 fun (m1:Int) (n1:Int) l1=>
 Ld kI (Addr.add ⟨d,0,none⟩ 256) l1 fun (o1:Int)=>
 aa (decide (m1>o1))
 (Ld (.arr 260) ⟨d,0,none⟩ l1 fun p1=>
 an 260 ⟨f,0,none⟩ p1 l1 fun q1=>
 Ld (.arr 260) ⟨f,0,none⟩ q1 fun r1=>
 R r1 (⟨none,0,0⟩:Sl) false 160 q1)
 (St (Addr.add ⟨b1,0,none⟩ 257) (ni m1) l1 fun s1=>
 Ld kI (Addr.add ⟨b1,0,none⟩ 258) s1 fun (t1:Int)=>
 St (Addr.add ⟨b1,0,none⟩ 258) (ni (i64 (t1+1))) s1 fun u1=>
 Ld (.arr 260) ⟨b1,0,none⟩ u1 fun v1=>
 an 260 ⟨f,0,none⟩ v1 u1 fun x1=>
 Ld (.arr 260) ⟨f,0,none⟩ x1 fun y1=>
 R y1 (⟨none,0,0⟩:Sl) false 0 x1))
 (Ld kI (Addr.add ⟨d,0,none⟩ 257) c1 fun (z1:Int)=>
 Ld kI (Addr.add ⟨d,0,none⟩ 256) c1 fun (a2:Int)=>
 aa (!((b==257)==(z1==a2)))
 (Ld (.arr 260) ⟨d,0,none⟩ c1 fun b2=>
 an 260 ⟨f,0,none⟩ b2 c1 fun c2=>
 Ld (.arr 260) ⟨f,0,none⟩ c2 fun d2=>
 R d2 (⟨none,0,0⟩:Sl) false 160 c2)
 (bE (⟨none,0,0⟩:Sl) 0 c1 fun e2 f2 (g2:Sl) (h2:Int) i2=>
 Ld kI (Addr.add ⟨d,0,none⟩ 257) i2 fun (j2:Int)=>
 aa (decide (h2<j2))
 (av (Addr.add ⟨d,0,none⟩ 0) 256 0 1 fun k2=>
 Ld (az .u8) k2 i2 fun (l2:Int)=>
 Nw 5 ⟨[(.int .u8 l2)]⟩ i2 fun n2 m2=>
 ay Pg (Builtin.append_ #[22,22] 22 ⟨[(ah g2),(ah (⟨some ⟨n2,0,none⟩,1,1⟩:Sl))]⟩) kS m2 fun (p2:Sl) o2=>
 e2 p2 (i64 (h2+1)) o2∧f2 p2 (i64 (h2+1)) o2<f2 g2 h2 i2)
 (aa (b==257)
 (St (Addr.add ⟨b1,0,none⟩ 256) (ni 0) i2 fun q2=>
 St (Addr.add ⟨b1,0,none⟩ 257) (ni 0) q2 fun r2=>
 St (Addr.add ⟨b1,0,none⟩ 258) (ni 0) r2 fun s2=>
 St (Addr.add ⟨b1,0,none⟩ 259) (.bool true) s2 fun t2=>
 Ld (.arr 260) ⟨b1,0,none⟩ t2 fun u2=>
 an 260 ⟨f,0,none⟩ u2 t2 fun v2=>
 Ld (.arr 260) ⟨f,0,none⟩ v2 fun x2=>
 R x2 g2 true 0 v2)
 (Ld (.arr 256) (Addr.add ⟨d,0,none⟩ 0) i2 fun y2=>
 Cl Pg [(.arr 256),(az .u8),kB] ku ⟨[(.agg y2),(ni (i64 (b - 1)))]⟩ i2 fun a3 (b3:Int) (c3:Bool) z2=>
 Nw 108 ⟨List.replicate 256 (.int .u8 0)⟩ z2 fun e3 d3=>
 an 256 ⟨e3,0,none⟩ a3 d3 fun f3=>
 Nw 5 ⟨[(.int .u8 b3)]⟩ f3 fun h3 g3=>
 ay Pg (Builtin.append_ #[22,22] 22 ⟨[(ah g2),(ah (⟨some ⟨h3,0,none⟩,1,1⟩:Sl))]⟩) kS g3 fun (j3:Sl) i3=>
 Ld (.arr 256) ⟨e3,0,none⟩ i3 fun k3=>
 Ld kI (Addr.add ⟨d,0,none⟩ 256) i3 fun (l3:Int)=>
 bU Pg 149 [(0,(.agg k3)),(1,(ni (i64 (l3 - (j3.len:Int)))))] fun m3=>
 an 260 ⟨b1,0,none⟩ m3 i3 fun n3=>
 Ld (.arr 260) ⟨b1,0,none⟩ n3 fun o3=>
 an 260 ⟨f,0,none⟩ o3 n3 fun p3=>
 Ld (.arr 260) ⟨f,0,none⟩ p3 fun q3=>
 R q3 j3 false 0 p3))))) fun g=>
 Ld (.arr 260) ⟨d,0,none⟩ e fun h=>
 Cl Pg [kB] mo ⟨[(.agg h)]⟩ e fun (j:Bool) i=>
 aa (!j)
 (Ld (.arr 260) ⟨d,0,none⟩ i fun k=>
 an 260 ⟨f,0,none⟩ k i fun l=>
 Ld (.arr 260) ⟨f,0,none⟩ l fun m=>
 R m (⟨none,0,0⟩:Sl) false 2 l)
 (Ld kB (Addr.add ⟨d,0,none⟩ 259) i fun (n:Bool)=>
 aa n
 (Ld (.arr 260) ⟨d,0,none⟩ i fun o=>
 an 260 ⟨f,0,none⟩ o i fun p=>
 Ld (.arr 260) ⟨f,0,none⟩ p fun q=>
 R q (⟨none,0,0⟩:Sl) false 2 p)
 (aa (decide (b<0))
 (Ld (.arr 260) ⟨d,0,none⟩ i fun r=>
 an 260 ⟨f,0,none⟩ r i fun s=>
 Ld (.arr 260) ⟨f,0,none⟩ s fun t=>
 R t (⟨none,0,0⟩:Sl) false 2 s)
 (aa (decide (b>257))
 (Ld (.arr 260) ⟨d,0,none⟩ i fun u=>
 an 260 ⟨f,0,none⟩ u i fun v=>
 Ld (.arr 260) ⟨f,0,none⟩ v fun x=>
 R x (⟨none,0,0⟩:Sl) false 2 v)
 (g i))))):Cl Pg [(.arr 260),kS,kB,kI] nK ⟨[(.agg a),(ni b)]⟩ w R:=co Tryz.f113 [(2,[]),(37,[(13,kS),(14,kI)])] h
theorem CI.ok (a:(Array Value)) (R:Bool→World→Prop) w (h:
 Nw 149 a w fun c b=>
 bo (fun (o:World)=>
 Ld kI (Addr.add ⟨c,0,none⟩ 257) o fun (p:Int)=>
 Cl Pg [kS,kI] iM ⟨[(ni p)]⟩ o fun (r:Sl) (s:Int) q=>
 Ld kI (Addr.add ⟨c,0,none⟩ 258) q fun (t:Int)=>
 aa ((r.len:Int) !=t)
 (R false q)
 (Ld kB (Addr.add ⟨c,0,none⟩ 259) q fun (u:Bool)=>
 aa (!u)
 (R true q)
 (Ld kI (Addr.add ⟨c,0,none⟩ 256) q fun (v:Int)=>
 aa (v==0)
 (Ld kI (Addr.add ⟨c,0,none⟩ 257) q fun (x:Int)=>
 aa (x==0)
 (Ld kI (Addr.add ⟨c,0,none⟩ 258) q fun (y:Int)=>
 R (y==0) q)
 (R false q))
 (R false q)))) fun d=>
 Ld (.arr 256) (Addr.add ⟨c,0,none⟩ 0) b fun e=>
 Cl Pg [kB] jz ⟨[(.agg e)]⟩ b fun (g:Bool) f=>
 aa (!g)
 (R false f)
 (Ld kI (Addr.add ⟨c,0,none⟩ 256) f fun (h:Int)=>
 aa (decide (h<0))
 (R false f)
 (Ld kI (Addr.add ⟨c,0,none⟩ 256) f fun (i:Int)=>
 aa (decide (i>65536))
 (R false f)
 (Ld kI (Addr.add ⟨c,0,none⟩ 257) f fun (j:Int)=>
 aa (decide (j<0))
 (R false f)
 (Ld kI (Addr.add ⟨c,0,none⟩ 257) f fun (k:Int)=>
 Ld kI (Addr.add ⟨c,0,none⟩ 256) f fun (l:Int)=>
 aa (decide (k>l))
 (R false f)
 (Ld kI (Addr.add ⟨c,0,none⟩ 258) f fun (m:Int)=>
 aa (decide (m<0))
 (R false f)
 (Ld kI (Addr.add ⟨c,0,none⟩ 258) f fun (n:Int)=>
 aa (decide (n>16))
 (R false f)
 (d f)))))))):Cl Pg [kB] mo ⟨[(.agg a)]⟩ w R:=co Tryz.f159 [(2,[])] h
end Go.Proofs.YtcdpblipagajiaaGreat
namespace Go.Proofs.YtcdpblipagajiaaGreat
open Go Go.Vc
set_option maxRecDepth 100000
theorem Gm.ok (a:Sl) (R:Sl→World→Prop) w (h:
 Cl Pg [(.arr 257)] pD ⟨[]⟩ w fun c b=>
 Cl Pg [(.arr 257),kS,kI] oy ⟨[(.agg c),(ah a)]⟩ b fun e (f:Sl) (g:Int) d=>
 Nw 110 ⟨List.replicate 256 (.int .u8 0)++ [(ni 0)]⟩ d fun i h=>
 an 257 ⟨i,0,none⟩ e h fun j=>
 Ld (.arr 257) ⟨i,0,none⟩ j fun k=>
 Cl Pg [kS,kI] pG ⟨[(.agg k)]⟩ j fun (m:Sl) (n:Int) l=>
 ay Pg (Builtin.append_ #[33,33] 33 ⟨[(ah f),(ah m)]⟩) kS l fun (p:Sl) o=>
 R p o):Cl Pg [kS] pA ⟨[(ah a)]⟩ w R:=co Tryz.f31 [] h
theorem E8.ok (a:(Array Value)) (b:Sl) (R:(Array Value)→Sl→Int→World→Prop) w (h:
 Nw 110 a w fun d c=>
 Nw 110 ⟨List.replicate 256 (.int .u8 0)++ [(ni 0)]⟩ c fun f e=>
 bo (fun (r:World)=>
 bE (⟨none,0,0⟩:Sl) 0 r fun s t (u:Sl) (v:Int) x=>
 aa (decide (v<(b.len:Int)))
 (cL x fun y z=>
 ae (.arr 256) (Addr.add ⟨d,0,none⟩ 0) y fun a1=>
 aq b v 1 fun b1=>
 ae (az .u8) b1 y fun (c1:Int)=>
 (Cl Pg [(.arr 256),kI] lX ⟨[(.agg a1),(.int .u8 c1)]⟩ z fun e1 (f1:Int) d1=>
 y d1∧
 Nw 108 ⟨List.replicate 256 (.int .u8 0)⟩ d1 fun h1 g1=>
 y g1∧
 an 256 ⟨h1,0,none⟩ e1 g1 fun i1=>
 y i1∧
 Ld (.arr 256) ⟨h1,0,none⟩ i1 fun j1=>
 an 256 (Addr.add ⟨d,0,none⟩ 0) j1 i1 fun k1=>
 aa (f1==0)
 (Ld kI (Addr.add ⟨d,0,none⟩ 256) k1 fun (l1:Int)=>
 St (Addr.add ⟨d,0,none⟩ 256) (ni (i64 (l1+1))) k1 fun m1=>
 s u (i64 (v+1)) m1∧t u (i64 (v+1)) m1<t u v x)
 (Ld kI (Addr.add ⟨d,0,none⟩ 256) k1 fun (n1:Int)=>
 Cl Pg [kS] gu ⟨[(ni n1)]⟩ k1 fun (p1:Sl) o1=>
 ay Pg (Builtin.append_ #[33,33] 33 ⟨[(ah u),(ah p1)]⟩) kS o1 fun (r1:Sl) q1=>
 Nw 3 ⟨[(ni (i64 (f1+1)))]⟩ q1 fun t1 s1=>
 ay Pg (Builtin.append_ #[33,33] 33 ⟨[(ah r1),(ah (⟨some ⟨t1,0,none⟩,1,1⟩:Sl))]⟩) kS s1 fun (v1:Sl) u1=>
 St (Addr.add ⟨d,0,none⟩ 256) (ni 0) u1 fun x1=>
 s v1 (i64 (v+1)) x1∧t v1 (i64 (v+1)) x1<t u v x))∧
 (Nw 108 ⟨List.replicate 256 (.int .u8 0)⟩ z fun z1 y1=>
 y y1∧
 Cl Pg [(.arr 256),kI] lX ⟨[(.agg a1),(.int .u8 c1)]⟩ y1 fun b2 (c2:Int) a2=>
 y a2∧
 an 256 ⟨z1,0,none⟩ b2 a2 fun d2=>
 y d2∧
 Ld (.arr 256) ⟨z1,0,none⟩ d2 fun e2=>
 an 256 (Addr.add ⟨d,0,none⟩ 0) e2 d2 fun f2=>
 aa (c2==0)
 (Ld kI (Addr.add ⟨d,0,none⟩ 256) f2 fun (g2:Int)=>
 St (Addr.add ⟨d,0,none⟩ 256) (ni (i64 (g2+1))) f2 fun h2=>
 s u (i64 (v+1)) h2∧t u (i64 (v+1)) h2<t u v x)
 (Ld kI (Addr.add ⟨d,0,none⟩ 256) f2 fun (i2:Int)=>
 Cl Pg [kS] gu ⟨[(ni i2)]⟩ f2 fun (k2:Sl) j2=>
 ay Pg (Builtin.append_ #[33,33] 33 ⟨[(ah u),(ah k2)]⟩) kS j2 fun (m2:Sl) l2=>
 Nw 3 ⟨[(ni (i64 (c2+1)))]⟩ l2 fun o2 n2=>
 ay Pg (Builtin.append_ #[33,33] 33 ⟨[(ah m2),(ah (⟨some ⟨o2,0,none⟩,1,1⟩:Sl))]⟩) kS n2 fun (q2:Sl) p2=>
 St (Addr.add ⟨d,0,none⟩ 256) (ni 0) p2 fun r2=>
 s q2 (i64 (v+1)) r2∧t q2 (i64 (v+1)) r2<t u v x)))
 (Ld (.arr 257) ⟨d,0,none⟩ x fun s2=>
 an 257 ⟨f,0,none⟩ s2 x fun t2=>
 Ld (.arr 257) ⟨f,0,none⟩ t2 fun u2=>
 R u2 u 0 t2)) fun g=>
 Ld (.arr 257) ⟨d,0,none⟩ e fun h=>
 Cl Pg [kB] jC ⟨[(.agg h)]⟩ e fun (j:Bool) i=>
 aa (!j)
 (Ld (.arr 257) ⟨d,0,none⟩ i fun k=>
 an 257 ⟨f,0,none⟩ k i fun l=>
 Ld (.arr 257) ⟨f,0,none⟩ l fun m=>
 R m (⟨none,0,0⟩:Sl) 2 l)
 (Ld kI (Addr.add ⟨d,0,none⟩ 256) i fun (n:Int)=>
 aa (decide ((b.len:Int)>(i64 ((2147483647:Int) - n))))
 (Ld (.arr 257) ⟨d,0,none⟩ i fun o=>
 an 257 ⟨f,0,none⟩ o i fun p=>
 Ld (.arr 257) ⟨f,0,none⟩ p fun q=>
 R q (⟨none,0,0⟩:Sl) 2 p)
 (g i))):Cl Pg [(.arr 257),kS,kI] oy ⟨[(.agg a),(ah b)]⟩ w R:=co Tryz.f75 [(2,[]),(12,[(7,kS),(8,kI)])] h
theorem G7.ok (R:(Array Value)→World→Prop) w (h:
 Nw 110 ⟨List.replicate 256 (.int .u8 0)++ [(ni 0)]⟩ w fun b a=>
 Cl Pg [(.arr 256)] lQ ⟨[]⟩ a fun d c=>
 bU Pg 110 [(0,(.agg d))] fun e=>
 an 257 ⟨b,0,none⟩ e c fun f=>
 Ld (.arr 257) ⟨b,0,none⟩ f fun g=>
 R g f):Cl Pg [(.arr 257)] pD ⟨[]⟩ w R:=co Tryz.f76 [] h
theorem F8.ok (a:(Array Value)) (R:Sl→Int→World→Prop) w (h:
 Nw 110 a w fun c b=>
 Ld (.arr 257) ⟨c,0,none⟩ b fun d=>
 Cl Pg [kB] jC ⟨[(.agg d)]⟩ b fun (f:Bool) e=>
 aa (!f)
 (R (⟨none,0,0⟩:Sl) 2 e)
 (Ld kI (Addr.add ⟨c,0,none⟩ 256) e fun (g:Int)=>
 Cl Pg [kS] gu ⟨[(ni g)]⟩ e fun (i:Sl) h=>
 Nw 3 ⟨[(ni 257)]⟩ h fun k j=>
 ay Pg (Builtin.append_ #[33,33] 33 ⟨[(ah i),(ah (⟨some ⟨k,0,none⟩,1,1⟩:Sl))]⟩) kS j fun (m:Sl) l=>
 R m 0 l)):Cl Pg [kS,kI] pG ⟨[(.agg a)]⟩ w R:=co Tryz.f77 [] h
theorem Dk.ok (a:(Array Value)) (R:Bool→World→Prop) w (h:
 Nw 110 a w fun c b=>
 Ld (.arr 256) (Addr.add ⟨c,0,none⟩ 0) b fun d=>
 Cl Pg [kB] jz ⟨[(.agg d)]⟩ b fun (f:Bool) e=>
 aa f
 (Ld kI (Addr.add ⟨c,0,none⟩ 256) e fun (g:Int)=>
 aa (decide (g≥0))
 (Ld kI (Addr.add ⟨c,0,none⟩ 256) e fun (h:Int)=>
 R (decide (h≤2147483647)) e)
 (R false e))
 (R false e)):Cl Pg [kB] jC ⟨[(.agg a)]⟩ w R:=co Tryz.f123 [] h
theorem F5.ok (a:Int) (R:Sl→World→Prop) w (h:
 bE a (⟨none,0,0⟩:Sl) w fun b c (d:Int) (e:Sl) f=>
 aa (decide (d>0))
 ((2:Int)≠0∧
 aa (((Int.tmod d (2:Int)):Int)==1)
 (Nw 3 ⟨[(ni 0)]⟩ f fun h g=>
 ay Pg (Builtin.append_ #[33,33] 33 ⟨[(ah e),(ah (⟨some ⟨h,0,none⟩,1,1⟩:Sl))]⟩) kS g fun (j:Sl) i=>
 (2:Int)≠0∧
 b (i64 (Int.tdiv (i64 (d - 1)) (2:Int))) j i∧c (i64 (Int.tdiv (i64 (d - 1)) (2:Int))) j i<c d e f)
 (Nw 3 ⟨[(ni 1)]⟩ f fun l k=>
 ay Pg (Builtin.append_ #[33,33] 33 ⟨[(ah e),(ah (⟨some ⟨l,0,none⟩,1,1⟩:Sl))]⟩) kS k fun (n:Sl) m=>
 (2:Int)≠0∧
 b (i64 (Int.tdiv (i64 (d - 2)) (2:Int))) n m∧c (i64 (Int.tdiv (i64 (d - 2)) (2:Int))) n m<c d e f))
 (R e f)):Cl Pg [kS] gu ⟨[(ni a)]⟩ w R:=co Tryz.f125 [(5,[(0,kI),(3,kS)])] h
end Go.Proofs.YtcdpblipagajiaaGreat
namespace Go.Proofs.YtcdpblipagajiaaGreat
open Go Go.Vc
set_option maxRecDepth 100000
theorem C3.ok (a:Sl) (R:Sl→World→Prop) w (h:
 bE (⟨none,0,0⟩:Sl) 0 w fun b c (d:Sl) (e:Int) f=>
 aa (decide (e<(a.len:Int)))
 (bE 0 e f fun g h (i:Int) (j:Int) k=>
 aa (decide (j<(i64 (e+8))))
 (aa (decide (j<(a.len:Int)))
 (aq a j 1 fun l=>
 Ld kI l k fun (m:Int)=>
 g (i64 ((i64 ((2:Int)*i))+m)) (i64 (j+1)) k∧h (i64 ((i64 ((2:Int)*i))+m)) (i64 (j+1)) k<h i j k)
 (g (i64 ((2:Int)*i)) (i64 (j+1)) k∧h (i64 ((2:Int)*i)) (i64 (j+1)) k<h i j k))
 (Nw 5 ⟨[(.int .u8 (u8 i))]⟩ k fun o n=>
 ay Pg (Builtin.append_ #[22,22] 22 ⟨[(ah d),(ah (⟨some ⟨o,0,none⟩,1,1⟩:Sl))]⟩) kS n fun (q:Sl) p=>
 b q (i64 (e+8)) p∧c q (i64 (e+8)) p<c d e f))
 (R d f)):Cl Pg [kS] mv ⟨[(ah a)]⟩ w R:=co Tryz.f28 [(7,[(3,kS),(4,kI)]),(17,[(5,kI),(6,kI)])] h
theorem JF.ok (a:Sl) (R:Sl→World→Prop) w (h:
 bE (⟨none,0,0⟩:Sl) 0 w fun b c (d:Sl) (e:Int) f=>
 aa (decide (e<(a.len:Int)))
 (aq a e 1 fun g=>
 Ld (az .u8) g f fun (h:Int)=>
 Cl Pg [kS,kB] lz ⟨[(.int .u32 (u32 h)),(ni 8)]⟩ f fun (j:Sl) (k:Bool) i=>
 ay Pg (Builtin.append_ #[33,33] 33 ⟨[(ah d),(ah j)]⟩) kS i fun (m:Sl) l=>
 b m (i64 (e+1)) l∧c m (i64 (e+1)) l<c d e f)
 (R d f)):Cl Pg [kS] rK ⟨[(ah a)]⟩ w R:=co Tryz.f58 [(7,[(3,kS),(4,kI)])] h
theorem Aw.ok (a:Int) (b:Int) (R:Sl→Bool→World→Prop) w (h:
 aa (decide (b<0))
 (R (⟨none,0,0⟩:Sl) false w)
 (aa (decide (b>32))
 (R (⟨none,0,0⟩:Sl) false w)
 (vu (⟨none,0,0⟩:Sl) (u64 a) 0 w fun c d (e:Sl) (f:Int) (g:Int) h=>
 aa (decide (g<b))
 ((2:Int)≠0∧
 Nw 3 ⟨[(ni (i64 (Int.tmod f (2:Int))))]⟩ h fun j i=>
 ay Pg (Builtin.append_ #[33,33] 33 ⟨[(ah (⟨some ⟨j,0,none⟩,1,1⟩:Sl)),(ah e)]⟩) kS i fun (l:Sl) k=>
 (2:Int)≠0∧
 c l (u64 (Int.tdiv f (2:Int))) (i64 (g+1)) k∧d l (u64 (Int.tdiv f (2:Int))) (i64 (g+1)) k<d e f g h)
 (R e (f==0) h)))):Cl Pg [kS,kB] lz ⟨[(.int .u32 a),(ni b)]⟩ w R:=co Tryz.f109 [(14,[(6,kS),(7,(az .u64)),(8,kI)])] h
end Go.Proofs.YtcdpblipagajiaaGreat
namespace Go.Proofs.YtcdpblipagajiaaGreat
open Go Go.Vc
set_option maxRecDepth 100000
theorem FL.ok (a:(Array Value)) (b:Int) (R:(Array Value)→Int→World→Prop) w (h:
 Nw 108 a w fun d c=>
 Nw 108 ⟨List.replicate 256 (.int .u8 0)⟩ c fun f e=>
 cn 0 e fun g h (i:Int) j=>
 aa (decide (i<256))
 (av ⟨d,0,none⟩ 256 i 1 fun k=>
 Ld (az .u8) k j fun (l:Int)=>
 aa (l==b)
 (Ld (.arr 256) ⟨d,0,none⟩ j fun m=>
 Cl Pg [(.arr 256),(az .u8),kB] ku ⟨[(.agg m),(ni i)]⟩ j fun o (p:Int) (q:Bool) n=>
 Nw 108 ⟨List.replicate 256 (.int .u8 0)⟩ n fun s r=>
 an 256 ⟨s,0,none⟩ o r fun t=>
 Ld (.arr 256) ⟨s,0,none⟩ t fun u=>
 an 256 ⟨f,0,none⟩ u t fun v=>
 Ld (.arr 256) ⟨f,0,none⟩ v fun x=>
 R x i v)
 (g (i64 (i+1)) j∧h (i64 (i+1)) j<h i j))
 (Ld (.arr 256) ⟨d,0,none⟩ j fun y=>
 an 256 ⟨f,0,none⟩ y j fun z=>
 Ld (.arr 256) ⟨f,0,none⟩ z fun a1=>
 R a1 (-1) z)):Cl Pg [(.arr 256),kI] lX ⟨[(.agg a),(.int .u8 b)]⟩ w R:=co Tryz.f124 [(5,[(6,kI)])] h
theorem F7.ok (R:(Array Value)→World→Prop) w (h:
 Nw 108 ⟨List.replicate 256 (.int .u8 0)⟩ w fun b a=>
 Nw 108 ⟨List.replicate 256 (.int .u8 0)⟩ a fun d c=>
 cn 0 c fun e f (g:Int) h=>
 aa (decide (g<256))
 (av ⟨d,0,none⟩ 256 g 1 fun i=>
 St i (.int .u8 (u8 g)) h fun j=>
 e (i64 (g+1)) j∧f (i64 (g+1)) j<f g h)
 (Ld (.arr 256) ⟨d,0,none⟩ h fun k=>
 an 256 ⟨b,0,none⟩ k h fun l=>
 Ld (.arr 256) ⟨b,0,none⟩ l fun m=>
 R m l)):Cl Pg [(.arr 256)] lQ ⟨[]⟩ w R:=co Tryz.f126 [(7,[(2,kI)])] h
theorem EK.ok (a:(Array Value)) (b:Int) (R:(Array Value)→Int→Bool→World→Prop) w (h:
 Nw 108 a w fun d c=>
 Nw 108 ⟨List.replicate 256 (.int .u8 0)⟩ c fun f e=>
 aa (decide (b<0))
 (Ld (.arr 256) ⟨d,0,none⟩ e fun g=>
 an 256 ⟨f,0,none⟩ g e fun h=>
 Ld (.arr 256) ⟨f,0,none⟩ h fun i=>
 R i 0 false h)
 (aa (decide (b>255))
 (Ld (.arr 256) ⟨d,0,none⟩ e fun j=>
 an 256 ⟨f,0,none⟩ j e fun k=>
 Ld (.arr 256) ⟨f,0,none⟩ k fun l=>
 R l 0 false k)
 (av ⟨d,0,none⟩ 256 b 1 fun m=>
 Ld (az .u8) m e fun (n:Int)=>
 cn b e fun o p (q:Int) r=>
 aa (decide (q>0))
 (av ⟨d,0,none⟩ 256 (i64 (q - 1)) 1 fun s=>
 Ld (az .u8) s r fun (t:Int)=>
 av ⟨d,0,none⟩ 256 q 1 fun u=>
 St u (.int .u8 t) r fun v=>
 o (i64 (q - 1)) v∧p (i64 (q - 1)) v<p q r)
 (av ⟨d,0,none⟩ 256 0 1 fun x=>
 St x (.int .u8 n) r fun y=>
 Ld (.arr 256) ⟨d,0,none⟩ y fun z=>
 an 256 ⟨f,0,none⟩ z y fun a1=>
 Ld (.arr 256) ⟨f,0,none⟩ a1 fun b1=>
 R b1 n true a1)))):Cl Pg [(.arr 256),(az .u8),kB] ku ⟨[(.agg a),(ni b)]⟩ w R:=co Tryz.f162 [(12,[(8,kI)])] h
theorem CN.ok (a:(Array Value)) (R:Bool→World→Prop) w (h:
 Nw 108 a w fun c b=>
 cn 0 b fun d e (f:Int) g=>
 aa (decide (f<256))
 (cn 0 g fun h i (j:Int) k=>
 aa (decide (j<f))
 (au k fun l=>
 av ⟨c,0,none⟩ 256 j 1 fun m=>
 Ld (az .u8) m l fun (n:Int)=>
 av ⟨c,0,none⟩ 256 f 1 fun o=>
 Ld (az .u8) o l fun (p:Int)=>
 aa (n==p)
 (R false l)
 (h (i64 (j+1)) l∧i (i64 (j+1)) l<i j k))
 (d (i64 (f+1)) k∧e (i64 (f+1)) k<e f g))
 (R true g)):Cl Pg [kB] jz ⟨[(.agg a)]⟩ w R:=co Tryz.f168 [(5,[(3,kI)]),(12,[(4,kI)])] h
end Go.Proofs.YtcdpblipagajiaaGreat
namespace Go.Proofs.YtcdpblipagajiaaGreat
open Go Go.Vc
set_option maxRecDepth 100000
theorem AU.ok (a:Int) (R:Sl→Int→World→Prop) w (h:
 aa (decide (a<0))
 (R (⟨none,0,0⟩:Sl) 2 w)
 (aa (decide (a>2147483647))
 (R (⟨none,0,0⟩:Sl) 2 w)
 (bE a (⟨none,0,0⟩:Sl) w fun b c (d:Int) (e:Sl) f=>
 aa (decide (d>0))
 ((2:Int)≠0∧
 aa (((Int.tmod d (2:Int)):Int)==1)
 (Nw 3 ⟨[(ni 0)]⟩ f fun h g=>
 ay Pg (Builtin.append_ #[33,33] 33 ⟨[(ah e),(ah (⟨some ⟨h,0,none⟩,1,1⟩:Sl))]⟩) kS g fun (j:Sl) i=>
 (2:Int)≠0∧
 b (i64 (Int.tdiv (i64 (d - 1)) (2:Int))) j i∧c (i64 (Int.tdiv (i64 (d - 1)) (2:Int))) j i<c d e f)
 (Nw 3 ⟨[(ni 1)]⟩ f fun l k=>
 ay Pg (Builtin.append_ #[33,33] 33 ⟨[(ah e),(ah (⟨some ⟨l,0,none⟩,1,1⟩:Sl))]⟩) kS k fun (n:Sl) m=>
 (2:Int)≠0∧
 b (i64 (Int.tdiv (i64 (d - 2)) (2:Int))) n m∧c (i64 (Int.tdiv (i64 (d - 2)) (2:Int))) n m<c d e f))
 (R e 0 f)))):Cl Pg [kS,kI] iM ⟨[(ni a)]⟩ w R:=co Tryz.f160 [(10,[(0,kI),(4,kS)])] h
theorem Bm.ok (a:Sl) (R:Int→Int→World→Prop) w (h:
 vu 0 1 0 w fun b c (d:Int) (e:Int) (f:Int) g=>
 aa (decide (f<(a.len:Int)))
 (aq a f 1 fun h=>
 Ld kI h g fun (i:Int)=>
 aa (i !=0)
 (aq a f 1 fun j=>
 Ld kI j g fun (k:Int)=>
 aa (k !=1)
 (R 0 2 g)
 (aq a f 1 fun l=>
 Ld kI l g fun (m:Int)=>
 aa (decide ((i64 (d+(i64 ((i64 (m+1))*e))))>2147483647))
 (R 0 2 g)
 (b (i64 (d+(i64 ((i64 (m+1))*e)))) (i64 ((2:Int)*e)) (i64 (f+1)) g∧c (i64 (d+(i64 ((i64 (m+1))*e)))) (i64 ((2:Int)*e)) (i64 (f+1)) g<c d e f g)))
 (aq a f 1 fun n=>
 Ld kI n g fun (o:Int)=>
 aa (decide ((i64 (d+(i64 ((i64 (o+1))*e))))>2147483647))
 (R 0 2 g)
 (b (i64 (d+(i64 ((i64 (o+1))*e)))) (i64 ((2:Int)*e)) (i64 (f+1)) g∧c (i64 (d+(i64 ((i64 (o+1))*e)))) (i64 ((2:Int)*e)) (i64 (f+1)) g<c d e f g)))
 (R d 0 g)):Cl Pg [kI,kI] lK ⟨[(ah a)]⟩ w R:=co Tryz.f161 [(9,[(4,kI),(5,kI),(6,kI)])] h
end Go.Proofs.YtcdpblipagajiaaGreat
namespace Go.Srt
theorem Du: ∀(n v:Nat),bn (n+1) v=(v/2^n % 2)::bn n v
 |0,v=>by simp [bn]
 |n+1,v=>by
  rw [bn,Du n (v/2),bn,List.cons_append,Nat.div_div_eq_div_mul,Nat.pow_succ,Nat.mul_comm]
def pE (b:List Nat) (i:Nat):Nat→Nat
 |0=>0
 |t+1=>2*pE b i t+b.getD (i+t) 0
theorem Jr (b:List Nat) (j:Nat):pE b (8*j) 8=kn b j:=by
 simp only [pE,kn,Nat.add_zero]
 omega
theorem Ea {b:List Nat} (h:Bits b) (i:Nat): ∀t,pE b i t<2^t
 |0=>by simp [pE]
 |t+1=>by
  have:=Ea h i t
  have:=h.getD (i+t)
  rw [pE,Nat.pow_succ];omega
end Go.Srt
namespace Go.aj
open Go.Srt Go.Bits
theorem CW (x:Nat):aM [x]=bn 8 x:=by
 refine List.ext_getElem? fun i=> ?_
 by_cases hi:i<8
 ·have h1:=th 8 x i hi
  rw [List.getD_eq_getElem?_getD,List.getElem?_eq_getElem (by rw [ib];exact hi),Option.getD_some] at h1
  have h2:(bn 8 x)[i]? =some (x/2^(8 - 1 - i) % 2):=by rw [List.getElem?_eq_getElem (by rw [ib];exact hi),h1]
  rw [h2]
  unfold aM bitsOf
  rw [List.getElem?_map,List.getElem?_range (by simpa using hi),Option.map_some]
  unfold fz
  rw [show i/8=0 by omega,show i % 8=i by omega];rfl
 ·rw [List.getElem?_eq_none (by rw [dy];simp;omega),List.getElem?_eq_none (by rw [ib];omega)]
theorem BE (b:List Nat) (x:Nat):aM (b++ [x])=aM b++bn 8 x:=by rw [pY,CW]
end Go.aj
namespace Go.Sym
def dn:Nat→List Nat→Nat
 |_,[]=>0
 |w,d::l=>(d+1)*w+dn (2*w) l
theorem qL: ∀(w:Nat) (a b:List Nat),dn w (a++b)=dn w a+dn (w*2^a.length) b
 |w,[],b=>by simp [dn]
 |w,d::a,b=>by
  rw [List.cons_append,dn,dn,qL (2*w) a b,List.length_cons,Nat.pow_succ,Nat.add_assoc]
  congr 3
  rw [Nat.mul_comm 2 w,Nat.mul_assoc,Nat.mul_comm 2]
theorem Ju (n:Nat): ∀w,dn w (br n)=n*w:=by
 induction n using Nat.strongRecOn with
 |ind n ih=>
  intro w
  rcases Nat.eq_zero_or_pos n with h|h
  ·rw [h,gg];simp [dn]
  ·rw [gA h,dn,ih ((n - 1)/2) (by omega),←Nat.mul_assoc,←Nat.add_mul]
   congr 1;omega
theorem Hn (n:Nat):2^(br n).length - 1≤n∧n≤2*(2^(br n).length - 1):=by
 induction n using Nat.strongRecOn with
 |ind n ih=>
  rcases Nat.eq_zero_or_pos n with h|h
  ·rw [h,gg];simp
  ·have h1:=ih ((n - 1)/2) (by omega)
   have h2:=Nat.two_pow_pos (br ((n - 1)/2)).length
   rw [gA h,List.length_cons,Nat.pow_succ]
   omega
theorem wF {n d:Nat} (h1:2^d - 1≤n) (h2:n≤2*(2^d - 1)):(br n).length=d:=by
 obtain ⟨h3,h4⟩:=Hn n
 generalize (br n).length=e at h3 h4
 rcases Nat.lt_trichotomy e d with h|h|h
 ·have:2^(e+1)≤2^d:=Nat.pow_le_pow_right (by decide) h
  rw [Nat.pow_succ] at this
  have:=Nat.two_pow_pos e
  omega
 ·exact h
 ·have:2^(d+1)≤2^e:=Nat.pow_le_pow_right (by decide) h
  rw [Nat.pow_succ] at this
  have:=Nat.two_pow_pos d
  omega
end Go.Sym
namespace Go.Proofs.YtcdpblipagajiaaGreat
open Go Go.Vc Go.Srt Go.Bits Go.aj Go.Sym
section
variable {E w:World} {F:List HP}
set_option maxRecDepth 20000
theorem pc (n k:Nat):Int.tdiv (n:Int) (k:Int)=((n/k:Nat):Int):=rfl
theorem re (n k:Nat):Int.tmod (n:Int) (k:Int)=((n % k:Nat):Int):=rfl
theorem GR {v width:Nat} {K:Sl→Bool→World→Prop} (h:Hp E w F) (hv:v<4294967296) (hw:width≤32) (hK: ∀s' w',Hp E w' (OI s' (bn width v)::F)→K s' (decide (v/2^width=0)) w'):
  Cl Tryz.prog [kS,kB] lz ⟨[.int .u32 (v:Int),.int .i64 (width:Int)]⟩ w K:=by
 refine Aw.ok _ _ _ _ ?_
 refine aa.df (by omega) (aa.df (by omega) ?_)
 rw [ik (x:=(v:Int)) (by omega)]
 refine ⟨fun o n i w=> ∃k:Nat,i=(k:Int)∧k≤width∧n=((v/2^k:Nat):Int)∧Hp E w (OI o (bn k v)::F),fun _ _ i _=>width - i.toNat,⟨0,rfl,by omega,by simp,h.aW 1⟩,?_⟩
 rintro o n i w ⟨k,rfl,hk,rfl,h⟩
 have hd:v/2^k≤v:=Nat.div_le_self _ _
 refine aa.dm (fun hlt=> ?_) (fun hge=> ?_)
 ·have e1:i64 (((v/2^k % 2:Nat)):Int)=((v/2^k % 2:Nat):Int):=ad (by generalize v/2^k=q at hd;omega)
  have e2:u64 (((v/2^k/2:Nat)):Int)=((v/2^k/2:Nat):Int):=ik (by generalize v/2^k=q at hd;omega)
  rw [show (2:Int)=((2:Nat):Int) from rfl,re,pc,e1,e2,ad (by omega)]
  refine ⟨by decide,Nw.mk h fun b w h=>Nf h (by rw [ib];omega) fun s' w h=>⟨by decide,⟨k+1,rfl,by omega,?_,?_⟩,by first|omega|(dsimp only;omega)⟩⟩
  ·rw [Nat.div_div_eq_div_mul,Nat.pow_succ]
  ·rw [Du];exact h
 ·have hk2:k=width:=by omega
  subst hk2
  have:=hK o w h
  rw [show (((v/2^k:Nat):Int)==0)=decide (v/2^k=0) by rw [Bool.eq_iff_iff,beq_iff_eq,decide_eq_true_iff];omega]
  exact this
theorem MJ {s:Sl} {b:List Nat} {K:Sl→World→Prop} (h:Hp E w F) (hs:ab F (aC 1 s (b.map vB))) (hb: ∀y∈b,y<256) (hn:b.length≤100000000) (hK: ∀s' w',Hp E w' (OI s' (aM b)::F)→K s' w'):
  Cl Tryz.prog [kS] rK ⟨[.slice s.base s.len s.cap]⟩ w K:=by
 refine JF.ok _ _ _ ?_
 have hl:=kL (h.ag hs)
 refine ⟨fun o i w=> ∃k:Nat,i=(k:Int)∧k≤b.length∧Hp E w (OI o (aM (b.take k))::F),fun _ i _=>b.length - i.toNat,⟨0,rfl,by omega,h.aW 1⟩,?_⟩
 rintro o i w ⟨k,rfl,hk,h⟩
 refine aa.dm (fun hlt=> ?_) (fun hge=> ?_)
 ·have hlt:k<b.length:=by omega
  have hx:=hb _ (List.getElem_mem hlt)
  refine aq.rB (h.drop.ag hs) rfl hlt ?_
  rw [cW (by omega),ad (by omega)]
  refine GR (width:=8) h (by omega) (by decide) fun s10 w h=> ?_
  have hal:=dy (b.take k)
  rw [List.length_take] at hal
  have hl2:=ib 8 b[k]
  refine A8 (h.at 1) ab.own (by omega) (by omega) fun s' w h=>⟨⟨k+1,rfl,by omega,?_⟩,by first|omega|(dsimp only;omega)⟩
  rw [List.take_add_one,List.getElem?_eq_getElem hlt]
  show Hp E w (OI s' (aM (b.take k++ [b[k]]))::F)
  rw [BE]
  exact h.bY
 ·have hk2:k=b.length:=by omega
  subst hk2
  rw [List.take_of_length_le (Nat.le_refl _)] at h
  exact hK _ _ h
theorem FX {s:Sl} {bits:List Nat} {K:Sl→World→Prop} (h:Hp E w F) (hs:ab F (aC 1 s ((ints bits).map vI))) (hb:Bits bits) (hn:bits.length≤10000000) (hK: ∀s' w',Hp E w' (OB s' (pack bits)::F)→K s' w'):
  Cl Tryz.prog [kS] mv ⟨[.slice s.base s.len s.cap]⟩ w K:=by
 refine C3.ok _ _ _ ?_
 have hl:=nP (h.ag hs)
 refine ⟨fun o i w=> ∃j:Nat,i=((8*j:Nat):Int)∧j≤(bits.length+7)/8∧Hp E w (OB o (eC bits j)::F),fun _ i _=>bits.length+8 - i.toNat,⟨0,rfl,by omega,h.aW 1⟩,?_⟩
 rintro o i w ⟨j,rfl,hj,h⟩
 refine aa.dm (fun hlt=> ?_) (fun hge=> ?_)
 ·refine ⟨fun v k w=> ∃t:Nat,k=((8*j+t:Nat):Int)∧t≤8∧v=(pE bits (8*j) t:Int)∧Hp E w (OB o (eC bits j)::F),fun _ k _=>8*j+8 - k.toNat,⟨0,by simp,by omega,rfl,h⟩,?_⟩
  rintro v k w ⟨t,rfl,ht,rfl,h⟩
  have ha:=Ea hb (8*j) t
  have hp:2^t≤2^8:=Nat.pow_le_pow_right (by decide) ht
  rw [ad (x:=((8*j:Nat):Int)+8) (by omega),ad (x:=(2:Int)*(pE bits (8*j) t:Int)) (by omega)]
  refine aa.dm (fun hlt2=> ?_) (fun hge2=> ?_)
  ·have hb1:=hb.getD (8*j+t)
   rw [ad (x:=((8*j+t:Nat):Int)+1) (by omega)]
   refine aa.dm (fun hin=> ?_) (fun hout=> ?_)
   ·have hin:8*j+t<bits.length:=by omega
    refine aq.rI (h.drop.ag hs) rfl hin ?_
    have e:bits.getD (8*j+t) 0=bits[8*j+t]:=bx hin
    rw [e] at hb1
    rw [ad (by omega)]
    exact ⟨⟨t+1,by omega,by omega,by rw [pE,e];omega,h⟩,by first|omega|(dsimp only;omega)⟩
   ·have e:bits.getD (8*j+t) 0=0:=du (by omega)
    exact ⟨⟨t+1,by omega,by omega,by rw [pE,e];omega,h⟩,by first|omega|(dsimp only;omega)⟩
  ·have ht8:t=8:=by omega
   subst ht8
   rw [Jr] at ha⊢
   rw [dH (by omega)]
   refine Nw.mk h fun b w h=>zL h (by rw [mS];omega) fun s' w h=>⟨⟨j+1,by omega,by omega,?_⟩,by first|omega|(dsimp only;omega)⟩
   have:eC bits (j+1)=eC bits j++ [kn bits j]:=by unfold eC;rw [List.range_succ,List.map_append];rfl
   rw [this];exact h
 ·have hj2:j=(bits.length+7)/8:=by omega
  subst hj2
  exact hK _ _ h
theorem ze {n:Nat} {K:Sl→Int→World→Prop} (h:Hp E w F) (hn:n≤2147483647) (hl:(br n).length≤1000000) (hK: ∀s w',Hp E w' (OI s (br n)::F)→K s 0 w'):Cl Tryz.prog [kS,kI] iM ⟨[.int .i64 (n:Int)]⟩ w K:=by
 refine AU.ok _ _ _ ?_
 refine aa.df (by omega) (aa.df (by omega) ?_)
 refine ⟨fun m o w=> ∃(q:Nat) (l:List Nat),m=(q:Int)∧q≤2147483647∧br n=l++br q∧Hp E w (OI o l::F),fun m _ _=>m.toNat,⟨n,[],rfl,hn,rfl,h.aW 1⟩,?_⟩
 rintro m o w ⟨q,l,rfl,hq,hd,h⟩
 have hll:l.length≤1000000:=by rw [hd,List.length_append] at hl;omega
 refine aa.dm (fun hpos=> ?_) (fun hz=> ?_)
 ·have hq0:0<q:=by omega
  rw [gA hq0] at hd
  rw [show (2:Int)=((2:Nat):Int) from rfl,re]
  refine ⟨by decide,?_⟩
  refine aa.em (fun h1=> ?_) (fun h1=> ?_)
  ·refine Nw.mk h fun b w h=>oX (x:=0) h (by omega) fun s' w h=>⟨by decide,?_⟩
   rw [ad (x:=(q:Int) - 1) (by omega),show (q:Int) - 1=((q - 1:Nat):Int) by omega,pc,ad (by omega)]
   refine ⟨⟨(q - 1)/2,l++ [0],rfl,by omega,?_,h⟩,by first|omega|(dsimp only;omega)⟩
   rw [hd,show (q - 1) % 2=0 by omega];simp
  ·refine Nw.mk h fun b w h=>oX (x:=1) h (by omega) fun s' w h=>⟨by decide,?_⟩
   rw [show ((2:Nat):Int)=2 from rfl,ad (x:=(q:Int) - 2) (by omega),show (q:Int) - 2=((q - 2:Nat):Int) by omega,show (2:Int)=((2:Nat):Int) from rfl,pc,ad (by omega)]
   refine ⟨⟨(q - 2)/2,l++ [1],rfl,by omega,?_,h⟩,by first|omega|(dsimp only;omega)⟩
   rw [hd,show (q - 1) % 2=1 by omega,show (q - 1)/2=(q - 2)/2 by omega];simp
 ·have hq0:q=0:=by omega
  subst hq0
  rw [gg,List.append_nil] at hd
  rw [hd] at hK
  exact hK _ _ h
theorem MD {s:Sl} {l:List Nat} {K:Int→Int→World→Prop} (h:Hp E w F) (hs:ab F (aC 1 s ((ints l).map vI))) (hd: ∀x∈l,x<2) (hl:l.length≤30) (hn:dn 1 l≤2147483647) (hK: ∀w',Hp E w' F→K (dn 1 l:Int) 0 w'):
  Cl Tryz.prog [kI,kI] lK ⟨[.slice s.base s.len s.cap]⟩ w K:=by
 refine Bm.ok _ _ _ ?_
 have hll:=nP (h.ag hs)
 refine ⟨fun n wt i w=> ∃k:Nat,i=(k:Int)∧k≤l.length∧n=(dn 1 (l.take k):Int)∧wt=((2^k:Nat):Int)∧Hp E w F,fun _ _ i _=>l.length - i.toNat,⟨0,rfl,by omega,rfl,rfl,h⟩,?_⟩
 rintro n wt i w ⟨k,rfl,hk,rfl,rfl,h⟩
 refine aa.dm (fun hlt=> ?_) (fun hge=> ?_)
 ·have hlt:k<l.length:=by omega
  have hx:=hd _ (List.getElem_mem hlt)
  have htk:dn 1 (l.take (k+1))=dn 1 (l.take k)+(l[k]+1)*2^k:=by
   rw [List.take_add_one,List.getElem?_eq_getElem hlt]
   show dn 1 (l.take k++ [l[k]])=_
   rw [qL,List.length_take,Nat.min_eq_left (by omega)]
   simp [dn]
  have hle:dn 1 (l.take (k+1))≤dn 1 l:=by
   conv=>rhs;rw [←List.take_append_drop (k+1) l]
   rw [qL];omega
  have hp:2^k≤2^30:=Nat.pow_le_pow_right (by decide) (by omega)
  have hp2:(2:Nat)^30=1073741824:=by decide
  have em:i64 (i64 ((l[k]:Int)+1)*((2^k:Nat):Int))=(((l[k]+1)*2^k:Nat):Int):=by
   rw [ad (x:=(l[k]:Int)+1) (by omega),show ((l[k]:Int)+1)*((2^k:Nat):Int)=(((l[k]+1)*2^k:Nat):Int) by push_cast;rfl,ad]
   have h2:(l[k]+1)*2^k≤2*2^k:=Nat.mul_le_mul_right _ (by omega)
   generalize (l[k]+1)*2^k=z at h2
   generalize 2^k=q at hp h2
   omega
  have rest:aa (decide (i64 ((dn 1 (l.take k):Int)+i64 (i64 ((l[k]:Int)+1)*((2^k:Nat):Int)))>2147483647)) (K 0 2 w)
    ((∃k':Nat,i64 ((k:Int)+1)=(k':Int)∧k'≤l.length∧i64 ((dn 1 (l.take k):Int)+i64 (i64 ((l[k]:Int)+1)*((2^k:Nat):Int)))=(dn 1 (l.take k'):Int)∧i64 (2*((2^k:Nat):Int))=((2^k':Nat):Int)∧Hp E w F)∧
     l.length - (i64 ((k:Int)+1)).toNat<l.length - ((k:Int)).toNat):=by
   have e1:(dn 1 (l.take k):Int)+(((l[k]+1)*2^k:Nat):Int)=(dn 1 (l.take (k+1)):Int):=by rw [htk];push_cast;rfl
   have e2:i64 (2*((2^k:Nat):Int))=((2^(k+1):Nat):Int):=by
    rw [Nat.pow_succ]
    generalize 2^k=q at hp
    rw [ad (by omega)];omega
   rw [em,e1,e2,ad (x:=(dn 1 (l.take (k+1)):Int)) (by omega),ad (x:=(k:Int)+1) (by omega)]
   exact aa.df (by omega) ⟨⟨k+1,by omega,by omega,rfl,rfl,h⟩,by omega⟩
  refine aq.rI (h.ag hs) rfl hlt ?_
  refine aa.nm (fun hne=> ?_) (fun he=> ?_)
  ·refine aq.rI (h.ag hs) rfl hlt (aa.nf (by omega) ?_)
   exact aq.rI (h.ag hs) rfl hlt rest
  ·exact aq.rI (h.ag hs) rfl hlt rest
 ·have hk2:k=l.length:=by omega
  subst hk2
  rw [List.take_of_length_le (Nat.le_refl _)]
  exact hK _ h
end
end Go.Proofs.YtcdpblipagajiaaGreat
namespace Go.Proofs.YtcdpblipagajiaaGreat
open Go Go.Vc Go.Srt Go.Inc Go.Bits Go.aj Go.Sym
section
variable {E w:World} {F:List HP}
set_option maxRecDepth 20000
abbrev bL (b:Nat) (L:List Nat):HP:=aj b (.cells ⟨bc L⟩ 108 (0,0))
theorem u4:(⟨List.replicate 256 (.int .u8 0)⟩:Array Value).size=256:=by simp
theorem F6 {L:List Nat} (h:L.length=256):(⟨bc L⟩:Array Value).size=256:=by simp [h]
theorem tu {L:List Nat} {i:Nat} (h:i<L.length):(⟨bc L⟩:Array Value).toList[i]? =some (Sc.enc (.int .u8) (L[i]:Int)):=by simp [h]
theorem xK {L:List Nat} {i x:Nat}:(⟨bc L⟩:Array Value).setIfInBounds i (.int .u8 (x:Int))=⟨bc (L.set i x)⟩:=by
 apply Array.ext'
 rw [Array.toList_setIfInBounds]
 show (bc L).set i _=bc (L.set i x)
 unfold bc
 rw [List.map_set]
theorem zT {K:Array Value→World→Prop} (h:Hp E w F) (hK: ∀w',Hp E w' F→K ⟨bc (List.range 256)⟩ w'):Cl Tryz.prog [.arr 256] lQ ⟨[]⟩ w K:=by
 refine F7.ok _ _ ?_
 refine Nw.mk h fun b2 w h=>Nw.mk h fun b4 w h=> ?_
 have hlen: ∀k,k≤256→(bc (List.range k++List.replicate (256 - k) 0)).length=256:=fun k hk=>by simp;omega
 refine ⟨fun i w'=> ∃k:Nat,i=(k:Int)∧k≤256∧Hp E w' (bL b4 (List.range k++List.replicate (256 - k) 0)::aj b2 (.cells ⟨List.replicate 256 (.int .u8 0)⟩ 108 (0,0))::F),fun i _=>256 - i.toNat,⟨0,rfl,by omega,by
  have:(⟨bc (List.range 0++List.replicate (256 - 0) 0)⟩:Array Value)=⟨List.replicate 256 (.int .u8 0)⟩:=by simp
  unfold bL
  rw [this];exact h⟩,?_⟩
 rintro i w ⟨k,rfl,hk,h⟩
 refine aa.dm (fun hlt=> ?_) (fun hge=> ?_)
 ·refine ⟨by omega,by omega,?_⟩
  rw [show ((k:Int)).toNat*1=k by omega]
  (try simp only [aD,aw,ar,Nat.zero_add,Nat.add_zero,Nat.reduceAdd,Bool.not_true,Bool.not_false,aZ,aX,Option.isNone])
  have hk:=hlen k (by omega)
  rw [dH (by omega),ad (by omega)]
  refine St.xb h (by simp;omega) rfl fun w h=> ?_
  refine ⟨⟨k+1,rfl,by omega,?_⟩,by first|omega|(dsimp only;omega)⟩
  rw [xK] at h
  have e:(List.range k++List.replicate (256 - k) 0).set k k=List.range (k+1)++List.replicate (256 - (k+1)) 0:=by
   rw [List.set_append_right _ _ (by simp),List.length_range,Nat.sub_self]
   obtain ⟨m,hm⟩: ∃m,256 - k=m+1:=⟨255 - k,by omega⟩
   rw [hm,List.replicate_succ,List.set_cons_zero,List.range_succ,show 256 - (k+1)=m by omega]
   simp
  rw [e] at h
  exact h
 ·have hk2:k=256:=by omega
  subst hk2
  have e:List.range 256++List.replicate (256 - 256) 0=List.range 256:=by rw [Nat.sub_self,List.replicate_zero,List.append_nil]
  rw [e] at h
  have hn:(⟨bc (List.range 256)⟩:Array Value).size=256:=by simp
  refine Ld.xw h hn (an.q (b:=b2) h u4 hn bD fun w h=>Ld.xw h hn (hK _ h.tl))
theorem wO {L:List Nat} {K:Bool→World→Prop} (h:Hp E w F) (hL:ba L) (hK: ∀w',Hp E w' F→K true w'):Cl Tryz.prog [kB] jz ⟨[.agg ⟨bc L⟩]⟩ w K:=by
 refine CN.ok _ _ _ ?_
 have hl:=hL.len
 refine Nw.mk h fun b3 w h=> ?_
 refine ⟨fun i w=> ∃k:Nat,i=(k:Int)∧k≤256∧Hp E w (bL b3 L::F),fun i _=>256 - i.toNat,⟨0,rfl,by omega,h⟩,?_⟩
 rintro i w ⟨k,rfl,hk,h⟩
 refine aa.dm (fun hlt=> ?_) (fun hge=>hK _ h.tl)
 refine ⟨fun i w=> ∃j:Nat,i=(j:Int)∧j≤k∧Hp E w (bL b3 L::F),fun i _=>k - i.toNat,⟨0,rfl,by omega,h⟩,?_⟩
 rintro i w ⟨j,rfl,hj,h⟩
 have hkl:k<L.length:=by omega
 have hjl:j<L.length:=by omega
 refine aa.dm (fun hlt2=> ?_) (fun hge2=> ?_)
 ·refine au.mk h fun w h=>⟨by omega,by omega,?_⟩
  rw [show ((j:Int)).toNat*1=j by omega]
  (try simp only [aD,aw,ar,Nat.zero_add,Nat.add_zero,Nat.reduceAdd,Bool.not_true,Bool.not_false,aZ,aX,Option.isNone])
  refine Ld.xb (x:=(L[j]:Int)) h (tu hjl) ⟨by omega,by omega,?_⟩
  rw [show ((k:Int)).toNat*1=k by omega]
  (try simp only [aD,aw,ar,Nat.zero_add,Nat.add_zero,Nat.reduceAdd,Bool.not_true,Bool.not_false,aZ,aX,Option.isNone])
  refine Ld.xb (x:=(L[k]:Int)) h (tu hkl) ?_
  have hne:L[j]≠L[k]:=fun e=>by
   have h1:=hL.l6 (p:=j) (by omega)
   have h2:=hL.l6 (p:=k) (by omega)
   rw [bx hjl,e] at h1
   rw [bx hkl] at h2
   omega
  refine aa.ef (by omega) ?_
  rw [ad (by omega)]
  exact ⟨⟨j+1,rfl,by omega,h⟩,by first|omega|(dsimp only;omega)⟩
 ·rw [ad (by omega)]
  exact ⟨⟨k+1,rfl,by omega,h⟩,by first|omega|(dsimp only;omega)⟩
def oT (L:List Nat) (p i:Nat):List Nat:=L.take (i+1)++((L.take p).drop i++L.drop (p+1))
theorem K6 {L:List Nat} {p:Nat} (hp:p<L.length):oT L p p=L:=by
 unfold oT
 rw [List.drop_of_length_le (by simp;omega),List.nil_append,List.take_append_drop]
theorem KQ {L:List Nat} {p i:Nat} (hp:p<L.length) (hi:i≤p):(oT L p i).length=L.length:=by
 unfold oT
 simp;omega
theorem Kn {L:List Nat} {p i j:Nat} (hi:i≤p) (hj:j≤i) (hp:p<L.length):(oT L p i)[j]? =L[j]? :=by
 unfold oT
 rw [List.getElem?_append_left (by simp;omega),List.getElem?_take_of_lt (by omega)]
theorem HZ {L:List Nat} {p i:Nat} (hp:p<L.length) (hi:i+1≤p):(oT L p (i+1)).set (i+1) (L[i]'(by omega))=oT L p i:=by
 have h1:L.take (i+1+1)=L.take (i+1)++ [L[i+1]'(by omega)]:=by rw [List.take_add_one,List.getElem?_eq_getElem (by omega)];rfl
 have hl:(L.take (i+1)).length=i+1:=by rw [List.length_take];omega
 have h2:(L.take p).drop i=L[i]'(by omega)::(L.take p).drop (i+1):=by
  rw [List.drop_eq_getElem_cons (by simp;omega),List.getElem_take]
 unfold oT
 rw [h1,h2,List.append_assoc,List.set_append_right _ _ (by omega),hl,Nat.sub_self]
 simp
theorem KM {L:List Nat} {p:Nat} (hp:p<L.length):(oT L p 0).set 0 (L.getD p 0)=bj L p:=by
 unfold oT bj
 rw [List.drop_zero,List.eraseIdx_eq_take_drop_succ]
 cases L with
 |nil=>simp at hp
 |cons a L=>simp
theorem ym {L:List Nat} {p:Nat} {K:Array Value→Int→Bool→World→Prop} (h:Hp E w F) (hl:L.length=256) (hp:p<256) (hK: ∀w',Hp E w' F→K ⟨bc (bj L p)⟩ (L.getD p 0:Int) true w'):
  Cl Tryz.prog [.arr 256,az .u8,kB] ku ⟨[.agg ⟨bc L⟩,.int .i64 (p:Int)]⟩ w K:=by
 refine EK.ok _ _ _ _ ?_
 have hpl:p<L.length:=by omega
 refine Nw.mk h fun b4 w h=>Nw.mk h fun b6 w h=>aa.df (by omega) (aa.df (by omega) ⟨by omega,by omega,?_⟩)
 rw [show ((p:Int)).toNat*1=p by omega]
 (try simp only [aD,aw,ar,Nat.zero_add,Nat.add_zero,Nat.reduceAdd,Bool.not_true,Bool.not_false,aZ,aX,Option.isNone])
 have hgp:L.getD p 0=L[p]:=bx hpl
 refine Ld.xb (x:=(L.getD p 0:Int)) h (by rw [hgp];exact tu hpl) ?_
 refine ⟨fun i w=> ∃k:Nat,i=(k:Int)∧k≤p∧Hp E w (aj b6 (.cells ⟨List.replicate 256 (.int .u8 0)⟩ 108 (0,0))::bL b4 (oT L p k)::F),fun i _=>i.toNat,⟨p,rfl,by omega,by rw [K6 hpl];exact h⟩,?_⟩
 rintro i w ⟨k,rfl,hk,h⟩
 have hsl:=KQ hpl hk
 refine aa.dm (fun hlt=> ?_) (fun hge=> ?_)
 ·obtain ⟨j,rfl⟩: ∃j,k=j+1:=⟨k - 1,by omega⟩
  rw [ad (by omega)]
  refine ⟨by omega,by omega,?_⟩
  rw [show (((j+1:Nat):Int) - 1).toNat*1=j by omega]
  (try simp only [aD,aw,ar,Nat.zero_add,Nat.add_zero,Nat.reduceAdd,Bool.not_true,Bool.not_false,aZ,aX,Option.isNone])
  have hg:=Kn (L:=L) (p:=p) (i:=j+1) (j:=j) hk (by omega) hpl
  refine Ld.xb (x:=(L[j]:Int)) h ?_ ⟨by omega,by omega,?_⟩
  ·show (bc (oT L p (j+1)))[j]? =_
   unfold bc
   rw [List.getElem?_map,hg,List.getElem?_eq_getElem (by omega)];rfl
  rw [show (((j+1:Nat):Int)).toNat*1=j+1 by omega]
  (try simp only [aD,aw,ar,Nat.zero_add,Nat.add_zero,Nat.reduceAdd,Bool.not_true,Bool.not_false,aZ,aX,Option.isNone])
  refine St.xb (b:=b4) h (by simp;omega) rfl fun w h=> ?_
  rw [xK,HZ hpl hk] at h
  exact ⟨⟨j,by omega,by omega,h⟩,by first|omega|(dsimp only;omega)⟩
 ·have hk0:k=0:=by omega
  subst hk0
  refine ⟨by decide,by decide,?_⟩
  (try simp only [aD,aw,ar,Nat.zero_add,Nat.add_zero,Nat.reduceAdd,Bool.not_true,Bool.not_false,aZ,aX,Option.isNone])
  refine St.xb (b:=b4) h (by simp;omega) rfl fun w h=> ?_
  have h:Hp E w (aj b6 (.cells ⟨List.replicate 256 (.int .u8 0)⟩ 108 (0,0))::aj b4 (.cells ((⟨bc (oT L p 0)⟩:Array Value).setIfInBounds 0 (.int .u8 (L.getD p 0:Int))) 108 (0,0))::F):=h
  rw [xK,KM hpl] at h
  have hm:(⟨bc (bj L p)⟩:Array Value).size=256:=F6 (by rw [(qS hpl).length_eq,hl])
  refine Ld.xw h hm (an.q (b:=b6) h u4 hm bD fun w h=>Ld.xw h hm (hK _ h.tl))
theorem BC {L:List Nat} {c:Nat} {K:Array Value→Int→World→Prop} (h:Hp E w F) (hL:ba L) (hc:c<256) (hK: ∀w',Hp E w' F→K ⟨bc (bj L (L.idxOf c))⟩ (L.idxOf c:Int) w'):
  Cl Tryz.prog [.arr 256,kI] lX ⟨[.agg ⟨bc L⟩,.int .u8 (c:Int)]⟩ w K:=by
 refine FL.ok _ _ _ _ ?_
 have hl:=hL.len
 have hi:=hL.idx hc
 have hn:=F6 hl
 have hm:=F6 (hL.take hi.1).len
 refine Nw.mk h fun b4 w h=>Nw.mk h fun b6 w h=> ?_
 refine ⟨fun i w=> ∃k:Nat,i=(k:Int)∧k≤L.idxOf c∧Hp E w (aj b6 (.cells ⟨List.replicate 256 (.int .u8 0)⟩ 108 (0,0))::bL b4 L::F),fun i _=>256 - i.toNat,⟨0,rfl,by omega,h⟩,?_⟩
 rintro i w ⟨k,rfl,hk,h⟩
 have hkl:k<L.length:=by omega
 refine aa.dt (by omega) ⟨by omega,by omega,?_⟩
 rw [show ((k:Int)).toNat*1=k by omega]
 (try simp only [aD,aw,ar,Nat.zero_add,Nat.add_zero,Nat.reduceAdd,Bool.not_true,Bool.not_false,aZ,aX,Option.isNone])
 refine Ld.xb (b:=b4) (x:=(L[k]:Int)) h (tu hkl) ?_
 have hat:=hL.l6 (p:=k) (by omega)
 rw [bx hkl] at hat
 by_cases he:L[k]=c
 ·rw [he] at hat
  subst hat
  refine aa.et (by omega) (Ld.xw (b:=b4) h hn (ym h hl hi.1 fun w h=>Nw.mk h fun b19 w h=> ?_))
  refine an.q h u4 hm bD fun w h=>Ld.xw h hm (an.q (b:=b6) h u4 hm bD fun w h=>Ld.xw h hm (hK _ h.tl))
 ·refine aa.ef (by omega) ?_
  rw [ad (by omega)]
  have hne:k≠L.idxOf c:=fun e=>by
   have h2:=hi.2
   rw [←e,bx hkl] at h2
   exact he h2
  exact ⟨⟨k+1,rfl,by omega,h⟩,by first|omega|(dsimp only;omega)⟩
theorem GK {n:Nat} {K:Sl→World→Prop} (h:Hp E w F) (hn:n≤1000000) (hK: ∀s w',Hp E w' (OI s (br n)::F)→K s w'):Cl Tryz.prog [kS] gu ⟨[.int .i64 (n:Int)]⟩ w K:=by
 refine F5.ok _ _ _ ?_
 have hl:=kN n
 refine ⟨fun m o w=> ∃(q:Nat) (l:List Nat),m=(q:Int)∧q≤2147483647∧br n=l++br q∧Hp E w (OI o l::F),fun m _ _=>m.toNat,⟨n,[],rfl,by omega,rfl,h.aW 1⟩,?_⟩
 rintro m o w ⟨q,l,rfl,hq,hd,h⟩
 have hll:l.length≤1000000:=by rw [hd,List.length_append] at hl;omega
 refine aa.dm (fun hpos=> ?_) (fun hz=> ?_)
 ·have hq0:0<q:=by omega
  rw [gA hq0] at hd
  rw [show (2:Int)=((2:Nat):Int) from rfl,re]
  refine ⟨by decide,?_⟩
  refine aa.em (fun h1=> ?_) (fun h1=> ?_)
  ·refine Nw.mk h fun b w h=>oX (x:=0) h (by omega) fun s' w h=>⟨by decide,?_⟩
   rw [ad (x:=(q:Int) - 1) (by omega),show (q:Int) - 1=((q - 1:Nat):Int) by omega,pc,ad (by omega)]
   refine ⟨⟨(q - 1)/2,l++ [0],rfl,by omega,?_,h⟩,by first|omega|(dsimp only;omega)⟩
   rw [hd,show (q - 1) % 2=0 by omega];simp
  ·refine Nw.mk h fun b w h=>oX (x:=1) h (by omega) fun s' w h=>⟨by decide,?_⟩
   rw [show ((2:Nat):Int)=2 from rfl,ad (x:=(q:Int) - 2) (by omega),show (q:Int) - 2=((q - 2:Nat):Int) by omega,show (2:Int)=((2:Nat):Int) from rfl,pc,ad (by omega)]
   refine ⟨⟨(q - 2)/2,l++ [1],rfl,by omega,?_,h⟩,by first|omega|(dsimp only;omega)⟩
   rw [hd,show (q - 1) % 2=1 by omega,show (q - 1)/2=(q - 2)/2 by omega];simp
 ·have hq0:q=0:=by omega
  subst hq0
  rw [gg,List.append_nil] at hd
  rw [hd] at hK
  exact hK _ _ h
theorem Kq {K:Array Value→World→Prop} (h:Hp E w F) (hK: ∀w',Hp E w' F→K (ez (List.range 256) 0) w'):Cl Tryz.prog [.arr 257] pD ⟨[]⟩ w K:=by
 refine G7.ok _ _ ?_
 refine Nw.mk h fun b2 w h=>zT h fun w h=>bU.es (by simp) ?_
 have hd:(ez (List.range 256) 0).size=257:=fh (by simp)
 refine an.q h xA hd iO fun w h=> ?_
 exact Ld.xw h hd (hK _ h.tl)
theorem yr {L:List Nat} {r:Nat} {K:Bool→World→Prop} (h:Hp E w F) (hL:ba L) (hr:r≤2147483647) (hK: ∀w',Hp E w' F→K true w'):Cl Tryz.prog [kB] jC ⟨[.agg (ez L (r:Int))]⟩ w K:=by
 refine Dk.ok _ _ _ ?_
 have hLb:=cT hL.len
 (try simp only [aD,aw,ar,Nat.zero_add,Nat.add_zero,Nat.reduceAdd,Bool.not_true,Bool.not_false,aZ,aX,Option.isNone])
 refine Nw.mk h fun b3 w h=>Ld.p h hLb (wO h hL fun w h=> ?_)
 refine aa.t rfl (Ld.q h hLb rfl rfl (aa.dt (by omega) (Ld.q h hLb rfl rfl ?_)))
 rw [show decide ((r:Int)≤2147483647)=true from decide_eq_true (by omega)]
 exact hK _ h.tl
theorem KB {L:List Nat} {r:Nat} {K:Sl→Int→World→Prop} (h:Hp E w F) (hL:ba L) (hr:r≤1000000) (hK: ∀s' w',Hp E w' (OI s' (br r++ [257])::F)→K s' 0 w'):Cl Tryz.prog [kS,kI] pG ⟨[.agg (ez L (r:Int))]⟩ w K:=by
 refine F8.ok _ _ _ ?_
 have hLb:=cT hL.len
 have hdl:=kN r
 (try simp only [aD,aw,ar,Nat.zero_add,Nat.add_zero,Nat.reduceAdd,Bool.not_true,Bool.not_false,aZ,aX,Option.isNone])
 refine Nw.mk h fun b3 w h=>Ld.qw h hLb rfl (yr h hL (by omega) fun w h=> ?_)
 with_reducible refine aa.wm ?_
 refine Ld.q h hLb rfl rfl (GK h hr fun s1 w h=>Nw.mk h fun b12 w h=>oX (x:=257) h (by omega) fun s w h=>hK s w ?_)
 exact h.bY
theorem Iz {L:List Nat} {r:Nat} {s:Sl} {b:List Nat} {K:Array Value→Sl→Int→World→Prop} (h:Hp E w F) (hL:ba L) (hs:ab F (aC 1 s (b.map vB))) (hb: ∀x∈b,x<256) (hr:r+b.length≤1000000)
  (hK: ∀s' w',Hp E w' (OI s' (bm L r b).1::F)→ba (bm L r b).2.1→(bm L r b).2.2≤1000000→K (ez (bm L r b).2.1 ((bm L r b).2.2:Int)) s' 0 w'):
  Cl Tryz.prog [.arr 257,kS,kI] oy ⟨[.agg (ez L (r:Int)),.slice s.base s.len s.cap]⟩ w K:=by
 refine E8.ok _ _ _ _ ?_
 have hLb:=cT hL.len
 have hlen:=kL (h.ag hs)
 (try simp only [aD,aw,ar,Nat.zero_add,Nat.add_zero,Nat.reduceAdd,Bool.not_true,Bool.not_false,aZ,aX,Option.isNone])
 refine Nw.mk h fun b4 w h=>Nw.mk h fun b6 w h=> ?_
 refine Ld.qw h hLb rfl (yr h hL (by omega) fun w h=> ?_)
 with_reducible refine aa.wm ?_
 refine Ld.q h hLb rfl rfl ?_
 rw [ad (by omega)]
 refine aa.df (by omega) ?_
 refine ⟨fun o i w=> ∃(k:Nat) (L':List Nat) (r':Nat) (out:List Nat),i=(k:Int)∧k≤b.length∧ba L'∧out.length+r'≤r+k∧
  bm L r b=(out++(bm L' r' (b.drop k)).1,(bm L' r' (b.drop k)).2)∧
  Hp E w (OI o out::aj b6 (.cells yE 110 (0,0))::aj b4 (.cells (ez L' (r':Int)) 110 (0,0))::F),
  fun _ i _=>b.length - i.toNat,⟨0,L,r,[],rfl,by omega,hL,by simp,by simp,h.aW 1⟩,?_⟩
 rintro o i w ⟨k,L',r',out,rfl,hk,hL',hlo,he,h⟩
 have hLb':=cT hL'.len
 refine aa.dm (fun hlt=> ?_) (fun hge=> ?_)
 ·have hlt:k<b.length:=by omega
  have hc:=hb _ (List.getElem_mem hlt)
  have hi:=hL'.idx hc
  have hm:=F6 (hL'.take hi.1).len
  have hLm:=hL'.take hi.1
  have hLbm:=cT hLm.len
  have hdl:=kN r'
  rw [List.drop_eq_getElem_cons hlt] at he
  have rest: ∀(b33:Nat) (w:World) (G:Sl→Int→World→Prop),(∀o' k' w',k'=((k+1:Nat):Int)→(∃(L':List Nat) (r':Nat) (out:List Nat),ba L'∧out.length+r'≤r+(k+1)∧bm L r b=(out++(bm L' r' (b.drop (k+1))).1,(bm L' r' (b.drop (k+1))).2)∧
    Hp E w' (OI o' out::aj b6 (.cells yE 110 (0,0))::aj b4 (.cells (ez L' (r':Int)) 110 (0,0))::F))→G o' k' w')→
    Hp E w (aj b33 (.cells ⟨bc (bj L' (L'.idxOf b[k]))⟩ 108 (0,0))::OI o out::aj b6 (.cells yE 110 (0,0))::aj b4 (.cells (ez L' (r':Int)) 110 (0,0))::F)→
    Ld (.arr 256) ⟨b33,0,none⟩ w fun x35=>an 256 ⟨b4,0,none⟩ x35 w fun w_36=>
     aa ((L'.idxOf b[k]:Int)==0)
      (Ld kI ⟨b4,256,none⟩ w_36 fun Run37=>St ⟨b4,256,none⟩ (.int .i64 (i64 (Run37+1))) w_36 fun w_38=>G o (i64 ((k:Int)+1)) w_38)
      (Ld kI ⟨b4,256,none⟩ w_36 fun Run39=>Cl Tryz.prog [kS] gu ⟨[.int .i64 Run39]⟩ w_36 fun r41 w_40=>
       ay Tryz.prog (Builtin.append_ #[33,33] 33 ⟨[.slice o.base o.len o.cap,.slice r41.base r41.len r41.cap]⟩) kS w_40 fun s43 w_42=>
       Nw 3 ⟨[.int .i64 (i64 ((L'.idxOf b[k]:Int)+1))]⟩ w_42 fun b45 w_44=>
       ay Tryz.prog (Builtin.append_ #[33,33] 33 ⟨[.slice s43.base s43.len s43.cap,.slice (some ⟨b45,0,none⟩) 1 1]⟩) kS w_44 fun s47 w_46=>
       St ⟨b4,256,none⟩ (.int .i64 0) w_46 fun w_48=>G s47 (i64 ((k:Int)+1)) w_48):=by
   intro b33 w G hG h
   rw [ad (x:=(k:Int)+1) (by omega)]
   refine Ld.xw h hm ?_
   refine an.xm (b:=b4) (pre:= []) (mid:=bc L') (post:= [.int .i64 (r':Int)]) h rfl rfl hLb' hm (fun v hv=>List.all_eq_true.1 bD v hv) fun w h=> ?_
   have h:Hp E w (aj b33 (.cells ⟨bc (bj L' (L'.idxOf b[k]))⟩ 108 (0,0))::OI o out::aj b6 (.cells yE 110 (0,0))::aj b4 (.cells (ez (bj L' (L'.idxOf b[k])) (r':Int)) 110 (0,0))::F):=h
   have h:=h.no 0
   by_cases h0:L'.idxOf b[k]=0
   ·rw [bm,if_pos h0] at he
    rw [h0] at h hLm hLbm⊢
    refine aa.et rfl (Ld.q h hLbm rfl rfl ?_)
    rw [ad (by omega)]
    refine St.q h hLbm rfl rfl rfl fun w h=> ?_
    dsimp only [ao,af] at h
    rw [show (r':Int)+1=((r'+1:Nat):Int) by omega] at h
    exact hG _ _ _ (by omega) ⟨_,r'+1,out,hLm,by omega,he,h⟩
   ·rw [bm,if_neg h0] at he
    refine aa.ef (by omega) (Ld.q h hLbm rfl rfl (GK h (by omega) fun s1 w h=> ?_))
    refine A8 (h.at 1) ab.own (by omega) (by omega) fun s2 w h=>Nw.mk (h.no 1) fun b40 w h=> ?_
    rw [ad (by omega),show (L'.idxOf b[k]:Int)+1=((L'.idxOf b[k]+1:Nat):Int) by omega] at h
    refine oX h (by rw [List.length_append];omega) fun s3 w h=> ?_
    refine St.q (b:=b4) h hLbm rfl rfl rfl fun w h=> ?_
    dsimp only [ao,af] at h
    refine hG _ _ _ (by omega) ⟨_,0,out++br r'++ [L'.idxOf b[k]+1],hLm,?_,?_,h⟩
    ·rw [List.length_append,List.length_append,List.length_singleton];omega
    ·rw [he];simp
  have hG: ∀o' k' w',k'=((k+1:Nat):Int)→(∃(L':List Nat) (r':Nat) (out:List Nat),ba L'∧out.length+r'≤r+(k+1)∧bm L r b=(out++(bm L' r' (b.drop (k+1))).1,(bm L' r' (b.drop (k+1))).2)∧
    Hp E w' (OI o' out::aj b6 (.cells yE 110 (0,0))::aj b4 (.cells (ez L' (r':Int)) 110 (0,0))::F))→
    (∃(k:Nat) (L':List Nat) (r':Nat) (out:List Nat),k'=(k:Int)∧k≤b.length∧ba L'∧out.length+r'≤r+k∧bm L r b=(out++(bm L' r' (b.drop k)).1,(bm L' r' (b.drop k)).2)∧
    Hp E w' (OI o' out::aj b6 (.cells yE 110 (0,0))::aj b4 (.cells (ez L' (r':Int)) 110 (0,0))::F))∧b.length - k'.toNat<b.length - ((k:Int)).toNat:=by
   rintro o' k' w' rfl ⟨L2,r2,out2,h1,h2,h3,h4⟩
   exact ⟨⟨k+1,L2,r2,out2,rfl,by omega,h1,h2,h3,h4⟩,by omega⟩
  have h:=h.drew (n:=w.drawn+1)
  have hSl: ∀{w:World} {l:List HP} [ju l F],Hp E w l→aC 1 s (b.map vB) w:=fun h=>(h.tl:Hp E _ F).ag hs
  refine ⟨fun w=>bQ b4 (ez L' (r':Int)) 110 (0,0) w∧aC 1 s (b.map vB) w,⟨h.hb,hSl h⟩,?_⟩
  refine ae.p (fun _ h=>h.1) hLb' ?_
  refine aq.Hv (sc:= .int .u8) (hSl h) (fun _ h=>h.2) rfl (by rw [List.length_map];exact hlt) (b[k]:Int) (by simp [Sc.enc,vB,hlt]) ⟨?_,?_⟩
  ·refine BC h hL' hc fun w h=>⟨⟨h.hb,hSl h⟩,Nw.mk h fun b33 w h=>⟨⟨h.hb,hSl h⟩,?_⟩⟩
   refine an.q h u4 hm bD fun w h=>⟨⟨h.hb,hSl h⟩,?_⟩
   exact rest b33 w _ hG h
  ·refine Nw.mk h fun b33 w h=>⟨⟨h.hb,hSl h⟩,BC h hL' hc fun w h=>⟨⟨h.hb,hSl h⟩,?_⟩⟩
   refine an.q h u4 hm bD fun w h=>⟨⟨h.hb,hSl h⟩,?_⟩
   exact rest b33 w _ hG h
 ·have hk2:k=b.length:=by omega
  subst hk2
  rw [List.drop_of_length_le (Nat.le_refl _),bm,List.append_nil] at he
  rw [he] at hK
  dsimp only at hK
  refine Ld.qw h hLb' rfl ?_
  refine an.q h xA (fh hL'.len) iO fun w h=>Ld.xw h (fh hL'.len) (hK o w h.bY hL' (by omega))
theorem uC: ∀(b L:List Nat) (r:Nat),(bm L r b).1.length+(bm L r b).2.2≤r+b.length
 | [],L,r=>by simp [bm]
 |c::b,L,r=>by
  rw [bm]
  split
  ·have:=uC b (bj L 0) (r+1)
   simp only [List.length_cons];omega
  ·have:=uC b (bj L (L.idxOf c)) 0
   have:=kN r
   simp only [List.length_append,List.length_cons];omega
theorem KC {s:Sl} {b:List Nat} {K:Sl→World→Prop} (h:Hp E w F) (hs:ab F (aC 1 s (b.map vB))) (hb: ∀x∈b,x<256) (hr:b.length≤1000000) (hK: ∀s' w',Hp E w' (OI s' (syms b)::F)→K s' w'):
  Cl Tryz.prog [kS] pA ⟨[.slice s.base s.len s.cap]⟩ w K:=by
 refine Gm.ok _ _ _ ?_
 refine Kq h fun w h=>Iz (r:=0) h ba.range hs hb (by rw [Nat.zero_add];exact hr) fun s1 w h hL2 hr2=>Nw.mk h fun b9 w h=> ?_
 refine an.q h xA (fh hL2.len) iO fun w h=>Ld.xw h (fh hL2.len) ?_
 have e0:=uC b (List.range 256) 0
 have hdl:=kN (bm (List.range 256) 0 b).2.2
 refine KB h hL2 hr2 fun s2 w h=> ?_
 refine A8 (h.at 2) ab.own (by omega) (by rw [List.length_append,List.length_singleton];omega) fun s3 w h=>hK s3 w ?_
 rw [show syms b=(bm (List.range 256) 0 b).1++(br (bm (List.range 256) 0 b).2.2++ [257]) by unfold syms cy;simp]
 exact h.bY
end
end Go.Proofs.YtcdpblipagajiaaGreat
namespace Go.Proofs.YtcdpblipagajiaaGreat
open Go Go.Vc Go.Srt Go.Inc Go.Bits Go.aj Go.Sym
section
variable {E w:World} {F:List HP}
set_option maxRecDepth 20000
abbrev yl:Array Value:=⟨List.replicate 256 (Value.int .u8 0)++ [Value.int .i64 0,Value.int .i64 0,Value.int .i64 0,Value.bool false]⟩
theorem ie:yl.size=260:=by simp
theorem Gj {m:Nat} {K:Array Value→World→Prop} (h:Hp E w F) (hm:1≤m) (hm2:m≤65536) (hK: ∀w',Hp E w' F→K (cM (List.range 256) (m:Int) 0 0 false) w'):Cl Tryz.prog [.arr 260] pB ⟨[.int .i64 (m:Int)]⟩ w K:=by
 refine Hx.ok _ _ _ ?_
 refine Nw.mk h fun b3 w h=>aa.df (by omega) (aa.df (by omega) ?_)
 refine zT h fun w h=>bU.JK (by simp) ?_
 have hd:(cM (List.range 256) (m:Int) 0 0 false).size=260:=aQ (by simp)
 refine an.q h ie hd aR fun w h=> ?_
 exact Ld.xw h hd (hK _ h.tl)
theorem CP {d:DS} {K:Bool→World→Prop} (h:Hp E w F) (hd:gI d) (hK: ∀w',Hp E w' F→K true w'):Cl Tryz.prog [kB] mo ⟨[.agg (cM d.L (d.left:Int) (d.run:Int) (d.digits:Int) false)]⟩ w K:=by
 have hdig:=hd.br
 obtain ⟨L,left,run,digits⟩:=d
 obtain ⟨h1,h2,h3,h4,h5⟩:=hd
 dsimp only at h1 h2 h3 h4 h5 hdig⊢
 have hL:=cT h1.len
 have hdd:=wF h4 h5
 refine CI.ok _ _ _ ?_
 (try simp only [aD,aw,ar,Nat.zero_add,Nat.add_zero,Nat.reduceAdd,Bool.not_true,Bool.not_false,aZ,aX,Option.isNone])
 refine Nw.mk h fun b3 w h=>Ld.p h hL (wO h h1 fun w h=>aa.f rfl ?_)
 (with_reducible repeat first|refine Nw.mk h fun b w h=> ?_|refine au.mk h fun w h=> ?_|refine Ld.q h hL rfl rfl ?_|refine ae.q (fun _ h=>h) hL rfl rfl ?_|refine Ld.p h hL ?_|refine ae.p (fun _ h=>h) hL ?_|refine Ld.qw h hL rfl ?_|refine ae.qw (fun _ h=>h) hL rfl ?_|refine ⟨h.hb,?_⟩|(refine St.q h hL rfl rfl rfl fun w h=> ?_;dsimp only [ao,af] at h)|refine aa.yes ?_|refine aa.no ?_|refine ⟨by first|omega|decide,?_⟩)
 refine ze h (by omega) (by omega) fun s18 w h=> ?_
 have hl:=OI.len h
 (with_reducible repeat first|refine Nw.mk h fun b w h=> ?_|refine au.mk h fun w h=> ?_|refine Ld.q h hL rfl rfl ?_|refine ae.q (fun _ h=>h) hL rfl rfl ?_|refine Ld.p h hL ?_|refine ae.p (fun _ h=>h) hL ?_|refine Ld.qw h hL rfl ?_|refine ae.qw (fun _ h=>h) hL rfl ?_|refine ⟨h.hb,?_⟩|(refine St.q h hL rfl rfl rfl fun w h=> ?_;dsimp only [ao,af] at h)|refine aa.yes ?_|refine aa.no ?_|refine ⟨by first|omega|decide,?_⟩)
 exact hK _ h.tl
theorem EE {d:DS} {s:Nat} {K:Array Value→Sl→Bool→Int→World→Prop} (h:Hp E w F) (hd:gI d) (hs:s<258)
  (hn: ∀o w',ck d s=none→o.size=260→o.toList.all aA=true→Hp E w' F→K o ⟨none,0,0⟩ false 160 w')
  (hm: ∀d' t sl w',ck d s=some (d',t,false)→Hp E w' (OB sl t::F)→K (cM d'.L (d'.left:Int) (d'.run:Int) (d'.digits:Int) false) sl false 0 w')
  (he: ∀d' t sl w',ck d s=some (d',t,true)→Hp E w' (OB sl t::F)→K (cM d.L 0 0 0 true) sl true 0 w'):
  Cl Tryz.prog [.arr 260,kS,kB,kI] nK ⟨[.agg (cM d.L (d.left:Int) (d.run:Int) (d.digits:Int) false),.int .i64 (s:Int)]⟩ w K:=by
 have hd0:=hd
 have hdig:=hd.br
 obtain ⟨L,left,run,digits⟩:=d
 obtain ⟨h1,h2,h3,h4,h5⟩:=hd
 unfold ck at hn hm he
 dsimp only at h1 h2 h3 h4 h5 hdig hn hm he⊢
 have hl:=h1.len
 have hL:=cT hl
 have hsz: ∀{a b c:Int} {q:Bool},(cM L a b c q).size=260:=aQ hl
 have hdd:=wF h4 h5
 have hp:2^digits≤65536:=Nat.pow_le_pow_right (n:=2) (by decide) hdig
 refine Fk.ok _ _ _ _ ?_
 (try simp only [aD,aw,ar,Nat.zero_add,Nat.add_zero,Nat.reduceAdd,Bool.not_true,Bool.not_false,aZ,aX,Option.isNone])
 refine Nw.mk h fun b4 w h=>Nw.mk h fun b6 w h=>Ld.qw h hL rfl (CP (d:=⟨L,left,run,digits⟩) h hd0 fun w h=> ?_)
 with_reducible refine aa.wm ?_
 refine Ld.q h hL rfl rfl ?_
 with_reducible refine aa.f rfl ?_
 refine aa.df (by omega) (aa.df (by omega) (Ld.qw h hL rfl (Nw.mk h fun b27 w h=>an.q h ie hsz aR fun w h=> ?_)))
 have out: ∀{w:World} {A:Array Value} {l:List HP} {sl:Sl} {t:List Nat} {K':Array Value→World→Prop},A.size=260→A.toList.all aA=true→Hp E w (aj b6 (.cells yl 149 (0,0))::l)→(∀w',Hp E w' (aj b6 (.cells A 149 (0,0))::l)→K' A w')→
   an 260 ⟨b6,0,none⟩ A w fun w_42=>Ld (.arr 260) ⟨b6,0,none⟩ w_42 fun res43=>K' res43 w_42:=by
  intro w A l sl t K' hA hAs h hk
  exact an.q h ie hA hAs fun w h=>Ld.xw h hA (hk w h)
 by_cases hs2:s<2
 ·simp only [if_pos hs2] at hn hm he
  refine aa.dt (by omega) (Ld.q (b:=b4) h hL rfl rfl (ze h (by omega) (by omega) fun s31 w h=>Nw.mk h fun b34 w h=>oX h (by omega) fun s36 w h=> ?_))
  have hnw:dn 1 (br run++ [s])=run+(1+s)*2^digits:=by
   rw [qL,Ju,hdd]
   simp [dn,Nat.add_comm]
  have hb:(1+s)*2^digits≤131072:=by
   have:=Nat.mul_le_mul (show 1+s≤2 by omega) hp
   omega
  refine MD h ab.own (fun x hx=> ?_) (by rw [List.length_append,hdd,List.length_singleton];omega) (by rw [hnw];omega) fun w h=> ?_
  ·rcases List.mem_append.1 hx with hx|hx
   ·exact xl _ x hx
   ·rw [List.mem_singleton] at hx;omega
  rw [hnw]
  generalize (1+s)*2^digits=q at hb hm hn⊢
  refine Ld.q (b:=b4) h hL rfl rfl ?_
  by_cases hle:run+q≤left
  ·rw [if_pos hle] at hm
   refine aa.df (by omega) (St.q (b:=b27) h hL rfl rfl rfl fun w h=> ?_)
   dsimp only [ao,af] at h
   refine Ld.q (b:=b27) h hL rfl rfl ?_
   rw [ad (by omega)]
   refine St.q (b:=b27) h hL rfl rfl rfl fun w h=> ?_
   dsimp only [ao,af] at h
   rw [show (digits:Int)+1=((digits+1:Nat):Int) by omega] at h
   have h:Hp E w (OI s36 (br run++ [s])::aj b27 (.cells (cM L (left:Int) ((run+q:Nat):Int) ((digits+1:Nat):Int) false) 149 (0,0))::aj b6 (.cells yl 149 (0,0))::aj b4 (.cells (cM L (left:Int) (run:Int) (digits:Int) false) 149 (0,0))::F):=h
   refine Ld.xw (b:=b27) h hsz (an.q (b:=b6) h ie hsz aR fun w h=>Ld.xw (b:=b6) h hsz ?_)
   exact hm ⟨L,left,run+q,digits+1⟩ [] ⟨none,0,0⟩ _ rfl ((h.tl:Hp E w F).aW 1)
  ·rw [if_neg hle] at hn
   refine aa.dt (by omega) (Ld.xw (b:=b4) h hsz (an.q (b:=b6) h ie hsz aR fun w h=>Ld.xw (b:=b6) h hsz ?_))
   exact hn _ _ rfl hsz aR h.tl
 ·simp only [if_neg hs2] at hn hm he
  refine aa.df (by omega) (Ld.q (b:=b4) h hL rfl rfl (Ld.q (b:=b4) h hL rfl rfl ?_))
  have bad:ck ⟨L,left,run,digits⟩ s=none→∀w,Hp E w (aj b27 (.cells (cM L (left:Int) (run:Int) (digits:Int) false) 149 (0,0))::aj b6 (.cells yl 149 (0,0))::aj b4 (.cells (cM L (left:Int) (run:Int) (digits:Int) false) 149 (0,0))::F)→
    Ld (.arr 260) ⟨b4,0,none⟩ w fun x52=>an 260 ⟨b6,0,none⟩ x52 w fun w_53=>Ld (.arr 260) ⟨b6,0,none⟩ w_53 fun res54=>K res54 ⟨none,0,0⟩ false 160 w_53:=by
   intro hq w h
   refine Ld.xw (b:=b4) h hsz (an.q (b:=b6) h ie hsz aR fun w h=>Ld.xw (b:=b6) h hsz ?_)
   refine hn _ _ ?_ hsz aR h.tl
   unfold ck at hq
   simpa [hs2] using hq
  have hL0:L.getD 0 0<256:=h1.get (by decide)
  have e0:L[0]? =some (L.getD 0 0):=by rw [List.getD_eq_getElem?_getD,List.getElem?_eq_getElem (by omega)];rfl
  have loop: ∀(w:World) (G:Sl→World→Prop) (m:Sl→Int→World→Nat),Hp E w (aj b27 (.cells (cM L (left:Int) (run:Int) (digits:Int) false) 149 (0,0))::aj b6 (.cells yl 149 (0,0))::aj b4 (.cells (cM L (left:Int) (run:Int) (digits:Int) false) 149 (0,0))::F)→
    (∀o w',Hp E w' (OB o (List.replicate run (L.getD 0 0))::aj b27 (.cells (cM L (left:Int) (run:Int) (digits:Int) false) 149 (0,0))::aj b6 (.cells yl 149 (0,0))::aj b4 (.cells (cM L (left:Int) (run:Int) (digits:Int) false) 149 (0,0))::F)→G o w')→
    ∃(I_55:Sl→Int→World→Prop) (m_56:Sl→Int→World→Nat),I_55 ⟨none,0,0⟩ 0 w∧∀(text57:Sl) (i58:Int),∀(w_59:World),I_55 text57 i58 w_59→Ld kI ⟨b4,257,none⟩ w_59 fun Run60=>aa (decide (i58<Run60))
     (av ⟨b4,0,none⟩ 256 0 1 fun q61=>Ld (az .u8) q61 w_59 fun x62=>Nw 5 ⟨[.int .u8 x62]⟩ w_59 fun b64 w_63=>
      ay Tryz.prog (Builtin.append_ #[22,22] 22 ⟨[.slice text57.base text57.len text57.cap,.slice (some ⟨b64,0,none⟩) 1 1]⟩) kS w_63 fun s66 w_65=>
      I_55 s66 (i64 (i58+1)) w_65∧m_56 s66 (i64 (i58+1)) w_65<m_56 text57 i58 w_59) (G text57 w_59):=by
   intro w G m h hG
   refine ⟨fun o i w=> ∃k:Nat,i=(k:Int)∧k≤run∧Hp E w (OB o (List.replicate k (L.getD 0 0))::aj b27 (.cells (cM L (left:Int) (run:Int) (digits:Int) false) 149 (0,0))::aj b6 (.cells yl 149 (0,0))::aj b4 (.cells (cM L (left:Int) (run:Int) (digits:Int) false) 149 (0,0))::F),
    fun _ i _=>run - i.toNat,⟨0,rfl,by omega,h.aW 1⟩,?_⟩
   rintro o i w ⟨k,rfl,hk,h⟩
   refine Ld.q (b:=b4) h hL rfl rfl ?_
   refine aa.dm (fun hlt=> ?_) (fun hge=> ?_)
   ·refine ⟨by decide,by decide,?_⟩
    rw [ar]
    refine Ld.xb (b:=b4) (x:=(L.getD 0 0:Int)) h ?_ (Nw.mk h fun b64 w h=>zL h (by rw [List.length_replicate];omega) fun s66 w h=> ?_)
    ·show (bc L++_)[0]? =_
     rw [List.getElem?_append_left (by simp;omega)]
     unfold bc
     rw [List.getElem?_map,e0];rfl
    rw [ad (by omega)]
    refine ⟨⟨k+1,by omega,by omega,?_⟩,by first|omega|(dsimp only;omega)⟩
    rw [List.replicate_succ']
    exact h
   ·have hk2:k=run:=by omega
    subst hk2
    exact hG _ _ h
  by_cases h257:s=257
  ·subst h257
   simp only [if_true] at hn hm he
   by_cases hrl:run=left
   ·rw [if_pos hrl] at he
    refine aa.f (by rw [hrl];simp) ?_
    refine loop w _ (fun _ _ _=>0) h fun o w h=> ?_
    refine aa.et rfl (St.q (b:=b27) h hL rfl rfl rfl fun w h=> ?_)
    dsimp only [ao,af] at h
    refine St.q (b:=b27) h hL rfl rfl rfl fun w h=> ?_
    dsimp only [ao,af] at h
    refine St.q (b:=b27) h hL rfl rfl rfl fun w h=> ?_
    dsimp only [ao,af] at h
    refine St.q (b:=b27) h hL rfl rfl rfl fun w h=> ?_
    dsimp only [ao,af] at h
    have h:Hp E w (OB o (List.replicate run (L.getD 0 0))::aj b27 (.cells (cM L 0 0 0 true) 149 (0,0))::aj b6 (.cells yl 149 (0,0))::aj b4 (.cells (cM L (left:Int) (run:Int) (digits:Int) false) 149 (0,0))::F):=h
    refine Ld.xw (b:=b27) h hsz (an.q (b:=b6) h ie hsz aR fun w h=>Ld.xw (b:=b6) h hsz ?_)
    exact he _ _ _ _ rfl h.bY
   ·refine aa.t ?_ (bad ?_ w h)
    ·have:((run:Int)==(left:Int))=false:=beq_eq_false_iff_ne.2 (by omega)
     rw [this];rfl
    ·unfold ck;dsimp only;rw [if_neg (by decide),if_pos rfl,if_neg hrl]
  ·simp only [if_neg h257] at hn hm he
   have e257:(((s:Int))==257)=false:=beq_eq_false_iff_ne.2 (by omega)
   rw [e257]
   by_cases hrl:run=left
   ·refine aa.t (by rw [hrl];simp) (bad ?_ w h)
    unfold ck;dsimp only;rw [if_neg hs2,if_neg h257,if_pos hrl]
   ·rw [if_neg hrl] at hm
    refine aa.f (by have:((run:Int)==(left:Int))=false:=beq_eq_false_iff_ne.2 (by omega)
                    rw [this];rfl) ?_
    refine loop w _ (fun _ _ _=>0) h fun o w h=> ?_
    refine aa.f rfl ?_
    have hp1:s - 1<256:=by omega
    have hLt:=(h1.take hp1).len
    have hmt:=F6 hLt
    rw [ad (by omega),show (s:Int) - 1=((s - 1:Nat):Int) by omega]
    refine Ld.p (b:=b4) h hL (ym h hl hp1 fun w h=>Nw.mk h fun b80 w h=>an.q h u4 hmt bD fun w h=>Nw.mk h fun b83 w h=> ?_)
    refine zL (h.at 2|>.at 1) (by rw [List.length_replicate];omega) fun s85 w h=> ?_
    have hl85:=OB.len h
    rw [List.length_append,List.length_replicate,List.length_singleton] at hl85
    refine Ld.xw (b:=b80) h hmt (Ld.q (b:=b4) h hL rfl rfl ?_)
    rw [ad (by omega),show (left:Int) - (s85.len:Int)=((left - (run+1):Nat):Int) by omega]
    refine bU.JK hLt ?_
    have hsz2: ∀{a b c:Int} {q:Bool},(cM (bj L (s - 1)) a b c q).size=260:=aQ hLt
    refine an.q (b:=b27) h hsz hsz2 aR fun w h=>Ld.xw (b:=b27) h hsz2 (an.q (b:=b6) h ie hsz2 aR fun w h=>Ld.xw (b:=b6) h hsz2 ?_)
    exact hm ⟨bj L (s - 1),left - (run+1),0,0⟩ _ _ _ rfl h.bY
end
end Go.Proofs.YtcdpblipagajiaaGreat
namespace Go.Proofs.YtcdpblipagajiaaGreat
open Go Go.Vc
set_option maxRecDepth 100000
theorem Iw.ok (a:(Array Value)) (R:Sl→Int→World→Prop) w (h:
 Nw 36 a w fun c b=>
 Ld (.arr 258) ⟨c,0,none⟩ b fun d=>
 Cl Pg [kB] jI ⟨[(.agg d)]⟩ b fun (f:Bool) e=>
 aa (!f)
 (R (⟨none,0,0⟩:Sl) 2 e)
 (Ld (.arr 258) ⟨c,0,none⟩ e fun g=>
 av ⟨c,0,none⟩ 258 0 1 fun h=>
 Ld (az .u8) h e fun (i:Int)=>
 Cl Pg [kS] ox ⟨[(.agg g),(ni (i64 i))]⟩ e fun (k:Sl) j=>
 R k 0 j)):Cl Pg [kS,kI] ru ⟨[(.agg a)]⟩ w R:=co Tryz.f24 [] h
theorem Ey.ok (a:Sl) (R:(Array Value)→Int→Int→World→Prop) w (h:
 Nw 36 ⟨List.replicate 258 (.int .u8 0)⟩ w fun c b=>
 Nw 141 ⟨List.replicate 258 (.int .u8 0)++ [(ni 0),(ni 0),(ni 0),(ni 0)]⟩ b fun e d=>
 cn 0 d fun f g (h:Int) i=>
 aa (decide (h<(a.len:Int)))
 (aq a h 1 fun j=>
 Ld kI j i fun (k:Int)=>
 aa (k !=0)
 (aq a h 1 fun l=>
 Ld kI l i fun (m:Int)=>
 aa (m !=1)
 (bU Pg 36 [] fun n=>
 an 258 ⟨c,0,none⟩ n i fun o=>
 Ld (.arr 258) ⟨c,0,none⟩ o fun p=>
 R p 0 2 o)
 (cL i fun q r=>
 ae (.arr 262) ⟨e,0,none⟩ q fun s=>
 aq a h 1 fun t=>
 ae kI t q fun (u:Int)=>
 (Cl Pg [(.arr 262),kB] gw ⟨[(.agg s),(ni u)]⟩ r fun x (y:Bool) v=>
 q v∧
 Nw 141 ⟨List.replicate 258 (.int .u8 0)++ [(ni 0),(ni 0),(ni 0),(ni 0)]⟩ v fun a1 z=>
 q z∧
 an 262 ⟨a1,0,none⟩ x z fun b1=>
 q b1∧
 aa (!y)
 (bU Pg 36 [] fun c1=>
 an 258 ⟨c,0,none⟩ c1 b1 fun d1=>
 Ld (.arr 258) ⟨c,0,none⟩ d1 fun e1=>
 R e1 0 100 d1)
 (Ld (.arr 262) ⟨a1,0,none⟩ b1 fun f1=>
 an 262 ⟨e,0,none⟩ f1 b1 fun g1=>
 Ld kI (Addr.add ⟨e,0,none⟩ 258) g1 fun (h1:Int)=>
 aa (h1==258)
 (Ld (.arr 258) (Addr.add ⟨e,0,none⟩ 0) g1 fun i1=>
 an 258 ⟨c,0,none⟩ i1 g1 fun j1=>
 Ld (.arr 258) ⟨c,0,none⟩ j1 fun k1=>
 R k1 (i64 (h+1)) 0 j1)
 (f (i64 (h+1)) g1∧g (i64 (h+1)) g1<g h i)))∧
 (Nw 141 ⟨List.replicate 258 (.int .u8 0)++ [(ni 0),(ni 0),(ni 0),(ni 0)]⟩ r fun m1 l1=>
 q l1∧
 Cl Pg [(.arr 262),kB] gw ⟨[(.agg s),(ni u)]⟩ l1 fun o1 (p1:Bool) n1=>
 q n1∧
 an 262 ⟨m1,0,none⟩ o1 n1 fun q1=>
 q q1∧
 aa (!p1)
 (bU Pg 36 [] fun r1=>
 an 258 ⟨c,0,none⟩ r1 q1 fun s1=>
 Ld (.arr 258) ⟨c,0,none⟩ s1 fun t1=>
 R t1 0 100 s1)
 (Ld (.arr 262) ⟨m1,0,none⟩ q1 fun u1=>
 an 262 ⟨e,0,none⟩ u1 q1 fun v1=>
 Ld kI (Addr.add ⟨e,0,none⟩ 258) v1 fun (x1:Int)=>
 aa (x1==258)
 (Ld (.arr 258) (Addr.add ⟨e,0,none⟩ 0) v1 fun y1=>
 an 258 ⟨c,0,none⟩ y1 v1 fun z1=>
 Ld (.arr 258) ⟨c,0,none⟩ z1 fun a2=>
 R a2 (i64 (h+1)) 0 z1)
 (f (i64 (h+1)) v1∧g (i64 (h+1)) v1<g h i)))))
 (cL i fun b2 c2=>
 ae (.arr 262) ⟨e,0,none⟩ b2 fun d2=>
 aq a h 1 fun e2=>
 ae kI e2 b2 fun (f2:Int)=>
 (Cl Pg [(.arr 262),kB] gw ⟨[(.agg d2),(ni f2)]⟩ c2 fun h2 (i2:Bool) g2=>
 b2 g2∧
 Nw 141 ⟨List.replicate 258 (.int .u8 0)++ [(ni 0),(ni 0),(ni 0),(ni 0)]⟩ g2 fun k2 j2=>
 b2 j2∧
 an 262 ⟨k2,0,none⟩ h2 j2 fun l2=>
 b2 l2∧
 aa (!i2)
 (bU Pg 36 [] fun m2=>
 an 258 ⟨c,0,none⟩ m2 l2 fun n2=>
 Ld (.arr 258) ⟨c,0,none⟩ n2 fun o2=>
 R o2 0 100 n2)
 (Ld (.arr 262) ⟨k2,0,none⟩ l2 fun p2=>
 an 262 ⟨e,0,none⟩ p2 l2 fun q2=>
 Ld kI (Addr.add ⟨e,0,none⟩ 258) q2 fun (r2:Int)=>
 aa (r2==258)
 (Ld (.arr 258) (Addr.add ⟨e,0,none⟩ 0) q2 fun s2=>
 an 258 ⟨c,0,none⟩ s2 q2 fun t2=>
 Ld (.arr 258) ⟨c,0,none⟩ t2 fun u2=>
 R u2 (i64 (h+1)) 0 t2)
 (f (i64 (h+1)) q2∧g (i64 (h+1)) q2<g h i)))∧
 (Nw 141 ⟨List.replicate 258 (.int .u8 0)++ [(ni 0),(ni 0),(ni 0),(ni 0)]⟩ c2 fun x2 v2=>
 b2 v2∧
 Cl Pg [(.arr 262),kB] gw ⟨[(.agg d2),(ni f2)]⟩ v2 fun z2 (a3:Bool) y2=>
 b2 y2∧
 an 262 ⟨x2,0,none⟩ z2 y2 fun b3=>
 b2 b3∧
 aa (!a3)
 (bU Pg 36 [] fun c3=>
 an 258 ⟨c,0,none⟩ c3 b3 fun d3=>
 Ld (.arr 258) ⟨c,0,none⟩ d3 fun e3=>
 R e3 0 100 d3)
 (Ld (.arr 262) ⟨x2,0,none⟩ b3 fun f3=>
 an 262 ⟨e,0,none⟩ f3 b3 fun g3=>
 Ld kI (Addr.add ⟨e,0,none⟩ 258) g3 fun (h3:Int)=>
 aa (h3==258)
 (Ld (.arr 258) (Addr.add ⟨e,0,none⟩ 0) g3 fun i3=>
 an 258 ⟨c,0,none⟩ i3 g3 fun j3=>
 Ld (.arr 258) ⟨c,0,none⟩ j3 fun k3=>
 R k3 (i64 (h+1)) 0 j3)
 (f (i64 (h+1)) g3∧g (i64 (h+1)) g3<g h i)))))
 (bU Pg 36 [] fun l3=>
 an 258 ⟨c,0,none⟩ l3 i fun m3=>
 Ld (.arr 258) ⟨c,0,none⟩ m3 fun n3=>
 R n3 0 50 m3)):Cl Pg [(.arr 258),kI,kI] nT ⟨[(ah a)]⟩ w R:=co Tryz.f59 [(7,[(6,kI)])] h
theorem E3.ok (a:(Array Value)) (b:Int) (R:Sl→World→Prop) w (h:
 Nw 36 a w fun d c=>
 (8:Int)≠0∧
 (2:Int)≠0∧
 (4:Int)≠0∧
 (2:Int)≠0∧
 (2:Int)≠0∧
 (2:Int)≠0∧
 (2:Int)≠0∧
 Nw 3 ⟨[(ni (Int.tmod (i64 (Int.tdiv b (8:Int))) (2:Int))),(ni (Int.tmod (i64 (Int.tdiv b (4:Int))) (2:Int))),(ni (Int.tmod (i64 (Int.tdiv b (2:Int))) (2:Int))),(ni (Int.tmod b (2:Int)))]⟩ c fun f e=>
 vu b (⟨some ⟨f,0,none⟩,4,4⟩:Sl) 0 e fun g h (i:Int) (j:Sl) (k:Int) l=>
 aa (decide (k<258))
 (av ⟨d,0,none⟩ 258 k 1 fun m=>
 Ld (az .u8) m l fun (n:Int)=>
 Cl Pg [kS] pI ⟨[(ni i),(ni (i64 n))]⟩ l fun (p:Sl) o=>
 ay Pg (Builtin.append_ #[33,33] 33 ⟨[(ah j),(ah p)]⟩) kS o fun (r:Sl) q=>
 av ⟨d,0,none⟩ 258 k 1 fun s=>
 Ld (az .u8) s q fun (t:Int)=>
 g (i64 t) r (i64 (k+1)) q∧h (i64 t) r (i64 (k+1)) q<h i j k l)
 (R j l)):Cl Pg [kS] ox ⟨[(.agg a),(ni b)]⟩ w R:=co Tryz.f69 [(7,[(1,kI),(5,kS),(6,kI)])] h
theorem Hk.ok (a:(Array Value)) (b:Int) (R:(Array Value)→Bool→World→Prop) w (h:
 Nw 141 a w fun d c=>
 Nw 141 ⟨List.replicate 258 (.int .u8 0)++ [(ni 0),(ni 0),(ni 0),(ni 0)]⟩ c fun f e=>
 bo (fun (p1:World)=>
 St (Addr.add ⟨d,0,none⟩ 259) (ni 4) p1 fun q1=>
 aa (b==0)
 (Ld kI (Addr.add ⟨d,0,none⟩ 261) q1 fun (r1:Int)=>
 aa (r1==2)
 (Ld (.arr 262) ⟨d,0,none⟩ q1 fun s1=>
 an 262 ⟨f,0,none⟩ s1 q1 fun t1=>
 Ld (.arr 262) ⟨f,0,none⟩ t1 fun u1=>
 R u1 false t1)
 (Ld kI (Addr.add ⟨d,0,none⟩ 260) q1 fun (v1:Int)=>
 aa (v1==15)
 (Ld (.arr 262) ⟨d,0,none⟩ q1 fun x1=>
 an 262 ⟨f,0,none⟩ x1 q1 fun y1=>
 Ld (.arr 262) ⟨f,0,none⟩ y1 fun z1=>
 R z1 false y1)
 (Ld kI (Addr.add ⟨d,0,none⟩ 260) q1 fun (a2:Int)=>
 St (Addr.add ⟨d,0,none⟩ 260) (ni (i64 (a2+1))) q1 fun b2=>
 St (Addr.add ⟨d,0,none⟩ 261) (ni 1) b2 fun c2=>
 Ld (.arr 262) ⟨d,0,none⟩ c2 fun d2=>
 an 262 ⟨f,0,none⟩ d2 c2 fun e2=>
 Ld (.arr 262) ⟨f,0,none⟩ e2 fun f2=>
 R f2 true e2)))
 (Ld kI (Addr.add ⟨d,0,none⟩ 261) q1 fun (g2:Int)=>
 aa (g2==1)
 (Ld (.arr 262) ⟨d,0,none⟩ q1 fun h2=>
 an 262 ⟨f,0,none⟩ h2 q1 fun i2=>
 Ld (.arr 262) ⟨f,0,none⟩ i2 fun j2=>
 R j2 false i2)
 (Ld kI (Addr.add ⟨d,0,none⟩ 260) q1 fun (k2:Int)=>
 aa (k2==0)
 (Ld (.arr 262) ⟨d,0,none⟩ q1 fun l2=>
 an 262 ⟨f,0,none⟩ l2 q1 fun m2=>
 Ld (.arr 262) ⟨f,0,none⟩ m2 fun n2=>
 R n2 false m2)
 (Ld kI (Addr.add ⟨d,0,none⟩ 260) q1 fun (o2:Int)=>
 St (Addr.add ⟨d,0,none⟩ 260) (ni (i64 (o2 - 1))) q1 fun p2=>
 St (Addr.add ⟨d,0,none⟩ 261) (ni 2) p2 fun q2=>
 Ld (.arr 262) ⟨d,0,none⟩ q2 fun r2=>
 an 262 ⟨f,0,none⟩ r2 q2 fun s2=>
 Ld (.arr 262) ⟨f,0,none⟩ s2 fun t2=>
 R t2 true s2)))) fun g=>
 Ld kI (Addr.add ⟨d,0,none⟩ 259) e fun (h:Int)=>
 bo (fun (j:Bool) (k:World)=>
 aa j
 (Ld kI (Addr.add ⟨d,0,none⟩ 260) k fun (l:Int)=>
 St (Addr.add ⟨d,0,none⟩ 260) (ni (i64 ((i64 ((2:Int)*l))+b))) k fun m=>
 Ld kI (Addr.add ⟨d,0,none⟩ 259) m fun (n:Int)=>
 St (Addr.add ⟨d,0,none⟩ 259) (ni (i64 (n+1))) m fun o=>
 Ld (.arr 262) ⟨d,0,none⟩ o fun p=>
 an 262 ⟨f,0,none⟩ p o fun q=>
 Ld (.arr 262) ⟨f,0,none⟩ q fun r=>
 R r true q)
 (aa (h==4)
 (aa (b==1)
 (St (Addr.add ⟨d,0,none⟩ 259) (ni 5) k fun s=>
 Ld (.arr 262) ⟨d,0,none⟩ s fun t=>
 an 262 ⟨f,0,none⟩ t s fun u=>
 Ld (.arr 262) ⟨f,0,none⟩ u fun v=>
 R v true u)
 (Ld kI (Addr.add ⟨d,0,none⟩ 258) k fun (x:Int)=>
 Ld kI (Addr.add ⟨d,0,none⟩ 260) k fun (y:Int)=>
 av (Addr.add ⟨d,0,none⟩ 0) 258 x 1 fun z=>
 St z (.int .u8 (u8 y)) k fun a1=>
 Ld kI (Addr.add ⟨d,0,none⟩ 258) a1 fun (b1:Int)=>
 St (Addr.add ⟨d,0,none⟩ 258) (ni (i64 (b1+1))) a1 fun c1=>
 St (Addr.add ⟨d,0,none⟩ 261) (ni 0) c1 fun d1=>
 cL d1 fun e1 f1=>
 ae (.arr 262) ⟨d,0,none⟩ e1 fun g1=>
 ae kI (Addr.add ⟨d,0,none⟩ 258) e1 fun (h1:Int)=>
 aa (decide (h1<258))
 (an 262 ⟨f,0,none⟩ g1 f1 fun i1=>
 e1 i1∧
 Ld (.arr 262) ⟨f,0,none⟩ i1 fun j1=>
 R j1 true i1)
 (ae (.arr 258) (Addr.add ⟨d,0,none⟩ 0) e1 fun k1=>
 Cl Pg [kB] jI ⟨[(.agg k1)]⟩ f1 fun (m1:Bool) l1=>
 e1 l1∧
 an 262 ⟨f,0,none⟩ g1 l1 fun n1=>
 e1 n1∧
 Ld (.arr 262) ⟨f,0,none⟩ n1 fun o1=>
 R o1 m1 n1)))
 (g k))) fun i=>
 aa (h==0)
 (i (h==0) e)
 (aa (h==1)
 (i (h==1) e)
 (aa (h==2)
 (i (h==2) e)
 (i (h==3) e)))):Cl Pg [(.arr 262),kB] gw ⟨[(.agg a),(ni b)]⟩ w R:=co Tryz.f110 [(2,[]),(5,[(8,kB)])] h
theorem Gf.ok (a:Int) (b:Int) (R:Sl→World→Prop) w (h:
 bE a (⟨none,0,0⟩:Sl) w fun c d (e:Int) (f:Sl) g=>
 aa (decide (e<b))
 (Nw 3 ⟨[(ni 1),(ni 0)]⟩ g fun i h=>
 ay Pg (Builtin.append_ #[33,33] 33 ⟨[(ah f),(ah (⟨some ⟨i,0,none⟩,2,2⟩:Sl))]⟩) kS h fun (k:Sl) j=>
 c (i64 (e+1)) k j∧d (i64 (e+1)) k j<d e f g)
 (bE e f g fun l m (n:Int) (o:Sl) p=>
 aa (decide (n>b))
 (Nw 3 ⟨[(ni 1),(ni 1)]⟩ p fun r q=>
 ay Pg (Builtin.append_ #[33,33] 33 ⟨[(ah o),(ah (⟨some ⟨r,0,none⟩,2,2⟩:Sl))]⟩) kS q fun (t:Sl) s=>
 l (i64 (n - 1)) t s∧m (i64 (n - 1)) t s<m n o p)
 (Nw 3 ⟨[(ni 0)]⟩ p fun v u=>
 ay Pg (Builtin.append_ #[33,33] 33 ⟨[(ah o),(ah (⟨some ⟨v,0,none⟩,1,1⟩:Sl))]⟩) kS u fun (y:Sl) x=>
 R y x))):Cl Pg [kS] pI ⟨[(ni a),(ni b)]⟩ w R:=co Tryz.f119 [(5,[(0,kI),(5,kS)]),(13,[(0,kI),(5,kS)])] h
end Go.Proofs.YtcdpblipagajiaaGreat
namespace Go.Proofs.YtcdpblipagajiaaGreat
open Go Go.Vc
set_option maxRecDepth 100000
theorem C8.ok (a:(Array Value)) (R:Bool→World→Prop) w (h:
 Nw 36 a w fun c b=>
 Ld (.arr 258) ⟨c,0,none⟩ b fun d=>
 Cl Pg [kI] pX ⟨[(.agg d)]⟩ b fun (f:Int) e=>
 aa (f==32768)
 (av ⟨c,0,none⟩ 258 257 1 fun g=>
 Ld (az .u8) g e fun (h:Int)=>
 R (h !=0) e)
 (R false e)):Cl Pg [kB] jI ⟨[(.agg a)]⟩ w R:=co Tryz.f68 [] h
theorem F0.ok (a:(Array Value)) (R:Int→World→Prop) w (h:
 Nw 36 a w fun c b=>
 bE 0 0 b fun d e (f:Int) (g:Int) h=>
 aa (decide (g<258))
 (av ⟨c,0,none⟩ 258 g 1 fun i=>
 Ld (az .u8) i h fun (j:Int)=>
 Cl Pg [kI] my ⟨[(.int .u8 j)]⟩ h fun (l:Int) k=>
 d (i64 (f+l)) (i64 (g+1)) k∧e (i64 (f+l)) (i64 (g+1)) k<e f g h)
 (R f h)):Cl Pg [kI] pX ⟨[(.agg a)]⟩ w R:=co Tryz.f118 [(7,[(3,kI),(4,kI)])] h
theorem CY.ok (a:Int) (R:Int→World→Prop) w (h:
 aa (a==0)
 (R 0 w)
 (aa (decide (a>15))
 (R 32769 w)
 (bE 32768 0 w fun b c (d:Int) (e:Int) f=>
 aa (decide (e<a))
 ((2:Int)≠0∧
 b (i64 (Int.tdiv d (2:Int))) (u8 (e+1)) f∧c (i64 (Int.tdiv d (2:Int))) (u8 (e+1)) f<c d e f)
 (R d f)))):Cl Pg [kI] my ⟨[(.int .u8 a)]⟩ w R:=co Tryz.f166 [(17,[(3,kI),(4,(az .u8))])] h
end Go.Proofs.YtcdpblipagajiaaGreat
set_option maxRecDepth 20000
namespace Go.Proofs.YtcdpblipagajiaaGreat
open Go Go.Vc Go.Srt
section
variable {E w:World} {F:List HP}
theorem Ix {n:Nat} {K:Int→World→Prop} (hn:n≤255) (hK:K (wt n:Int) w):Cl Tryz.prog [kI] my ⟨[.int .u8 (n:Int)]⟩ w K:=by
 refine CY.ok _ _ _ ?_
 unfold wt at hK
 refine aa.mk (fun h=> ?_) (fun h=>aa.mk (fun h2=> ?_) (fun h2=> ?_))
 ·have h:n=0:=by have:=of_decide_eq_true h;omega
  rw [if_pos h] at hK;exact hK
 ·have h:n≠0:=by have:=of_decide_eq_false h;omega
  have h2:n>15:=by have:=of_decide_eq_true h2;omega
  rw [if_neg h,if_pos h2] at hK;exact hK
 ·have h:n≠0:=by have:=of_decide_eq_false h;omega
  have h2: ¬n>15:=by have:=of_decide_eq_false h2;omega
  rw [if_neg h,if_neg h2] at hK
  refine ⟨fun v i w'=> ∃k v':Nat,i=(k:Int)∧k≤n∧v=(v':Int)∧v'=2^(15 - k)∧w'=w,fun _ i _=>15 - i.toNat,⟨0,32768,rfl,by omega,rfl,by decide,rfl⟩,?_⟩
  rintro v i w' ⟨k,v',rfl,hk,rfl,hv,rfl⟩
  refine aa.mk (fun hlt=> ?_) (fun hge=> ?_)
  ·have hlt:k<n:=by have:=of_decide_eq_true hlt;omega
   have e:2^(15 - k)=2*2^(15 - (k+1)):=by rw [show 15 - k=(15 - (k+1))+1 by omega,Nat.pow_succ,Nat.mul_comm]
   have hb:2^(15 - (k+1))≤2^15:=Nat.pow_le_pow_right (by decide) (by omega)
   have hb2:(2:Nat)^15=32768:=by decide
   have e2:Int.tdiv (v':Int) 2=((2^(15 - (k+1)):Nat):Int):=by
    rw [Int.tdiv_eq_ediv_of_nonneg (by omega),hv,e];omega
   rw [e2,ad (by omega),dH (by omega)]
   exact ⟨by decide,⟨k+1,_,rfl,by omega,rfl,rfl,rfl⟩,by dsimp only;omega⟩
  ·have hge:k=n:=by have:=of_decide_eq_false hge;omega
   subst hge;rw [hv];exact hK
set_option maxRecDepth 20000 in
theorem KH {l:List Nat} {K:Int→World→Prop} (h:Hp E w F) (hl:l.length=258) (h8: ∀x∈l,x≤255) (hK: ∀w',Hp E w' F→K (aS l:Int) w'):Cl Tryz.prog [kI] pX ⟨[.agg (ai .u8 l)]⟩ w K:=by
 refine F0.ok _ _ _ ?_
 have hb:=tk l
 refine Nw.mk h fun b w1 h1=>⟨fun sm i w'=> ∃k:Nat,i=(k:Int)∧k≤258∧sm=(aS (l.take k):Int)∧Hp E w' (aj b (.cells (ai .u8 l) 36 (0,0))::F),fun _ i _=>258 - i.toNat,⟨0,rfl,by omega,by simp [aS],h1⟩,?_⟩
 rintro sm i w' ⟨k,rfl,hk,rfl,hh⟩
 refine aa.mk (fun hlt=> ?_) (fun hge=> ?_)
 ·have hlt:k<258:=by have:=of_decide_eq_true hlt;omega
  have hkl:k<l.length:=by omega
  refine av.rd (s:= .int .u8) hh (by omega) (by omega) (l[k]:Int) (by rw [Int.toNat_natCast];exact dC hkl) (Ix (h8 _ (List.getElem_mem hkl)) ?_)
  have e:=mb hkl
  have:=oR (l:=l) (k:=k+1)
  rw [ad (x:=(aS (l.take k):Int)+(wt l[k]:Int)) (by omega),ad (by omega)]
  exact ⟨⟨k+1,rfl,by omega,by rw [e];rfl,hh⟩,by dsimp only;omega⟩
 ·have hge:k=258:=by have:=of_decide_eq_false hge;omega
  subst hge
  rw [←hl,List.take_length]
  exact hK _ hh.drop
theorem Cc {l:List Nat} {K:Bool→World→Prop} (h:Hp E w F) (hl:l.length=258) (h8: ∀x∈l,x≤255) (hK: ∀w',Hp E w' F→K (bz l) w'):Cl Tryz.prog [kB] jI ⟨[.agg (ai .u8 l)]⟩ w K:=by
 refine C8.ok _ _ _ ?_
 refine Nw.mk h fun b w1 h1=>Ld.arr h1 (by rw [ax,hl]) (KH h1 hl h8 fun w2 h2=> ?_)
 have e:((aS l:Int)==32768)=decide (aS l=32768):=by rw [Bool.eq_iff_iff];simp;omega
 rw [e]
 refine aa.mk (fun hv=> ?_) (fun hv=> ?_)
 ·refine av.rd (s:= .int .u8) h2 (by decide) (by decide) (l.getD 257 0:Int) (ig (i:=257) (by omega)) ?_
  have:((l.getD 257 0:Int) !=0)=bz l:=by
   unfold bz;rw [hv,Bool.true_and,Bool.eq_iff_iff,bne_iff_ne,decide_eq_true_eq];omega
  rw [this]
  exact hK _ h2.drop
 ·have:false=bz l:=by unfold bz;rw [hv,Bool.false_and]
  rw [this]
  exact hK _ h2.drop
end
end Go.Proofs.YtcdpblipagajiaaGreat
namespace Go.Vc
theorem bo.M4 {A:Type} {r:A→World→Prop} {k:(A→World→Prop)→Prop} (Q:A→World→Prop) (h1: ∀a w,Q a w→r a w) (h2: ∀r',(∀a w,Q a w→r' a w)→k r'):bo r k:=h2 r h1
end Go.Vc
namespace Go.Proofs.YtcdpblipagajiaaGreat
open Go Go.Vc Go.Srt Go.Inc Go.Tab Go.Bits
section
variable {E w:World} {F:List HP}
set_option maxRecDepth 20000
theorem JT {s:Sl} {b x y:Nat} {t:TypeId} {xs:List Nat} {K:Sl→World→Prop} (h:Hp E w (aj b (.cells ⟨[.int .i64 (x:Int),.int .i64 (y:Int)]⟩ t (0,0))::OI s xs::F)) (hl:xs.length≤10000000000) (hK: ∀s' w',Hp E w' (OI s' (xs++ [x,y])::F)→K s' w'):
  ay Tryz.prog (Builtin.append_ #[33,33] 33 ⟨[.slice s.base s.len s.cap,.slice (some ⟨b,0,none⟩) 2 2]⟩) kS w K:=by
 have hol:=OI.len (h.at 1)
 refine aP (ys:= [vI (x:Int),vI (y:Int)]) (n:=2) dG (by decide) (.inl ⟨3,by kernel_rfl⟩) (h.at 1) (.inl ⟨some ⟨b,0,none⟩,2,2,rfl,rfl,h.ag (ab.aF rfl rfl)⟩) rfl (by
  intro z hz
  simp only [List.mem_cons,List.not_mem_nil,or_false] at hz
  rcases hz with rfl|rfl<;>rfl) (by omega) (by omega) fun s' w' h _=>hK s' w' ?_
 unfold OI
 rw [sC]
 exact h.bY
theorem I8 {was now:Nat} {K:Sl→World→Prop} (h:Hp E w F) (h1:was≤255) (h2:now≤255) (hK: ∀s w',Hp E w' (OI s (cm was now)::F)→K s w'):Cl Tryz.prog [kS] pI ⟨[.int .i64 (was:Int),.int .i64 (now:Int)]⟩ w K:=by
 refine Gf.ok _ _ _ _ ?_
 refine ⟨fun m o w=> ∃(q:Nat) (l:List Nat),m=(q:Int)∧q≤255∧l.length≤2*(q+was)∧cm was now=l++cm q now∧Hp E w (OI o l::F),fun m _ _=>255 - m.toNat,⟨was,[],rfl,h1,by simp,rfl,h.aW 1⟩,?_⟩
 rintro m o w ⟨q,l,rfl,hq,hl,hc,h⟩
 refine aa.dm (fun hlt=> ?_) (fun hge=> ?_)
 ·refine Nw.mk h fun b w h=>JT (x:=1) (y:=0) h (by omega) fun s w h=> ?_
  rw [ad (by omega)]
  refine ⟨⟨q+1,l++ [1,0],rfl,by omega,by rw [List.length_append];simp;omega,?_,h⟩,by first|omega|(dsimp only;omega)⟩
  rw [hc]
  unfold cm
  rw [if_neg (by omega),if_neg (by omega)]
  obtain ⟨j,hj⟩: ∃j,now - q=j+1:=⟨now - q - 1,by omega⟩
  rw [hj,show now - (q+1)=j by omega,show ma (j+1)=1::0::ma j from rfl]
  simp
 ·refine ⟨fun m o w=> ∃(q:Nat) (l:List Nat),m=(q:Int)∧q≤255∧now≤q∧l.length≤2*(255 - q)+2000∧cm was now=l++cm q now∧Hp E w (OI o l::F),fun m _ _=>m.toNat,⟨q,l,rfl,hq,by omega,by omega,hc,h⟩,?_⟩
  rintro m o w ⟨q,l,rfl,hq,hnq,hl,hc,h⟩
  refine aa.dm (fun hlt=> ?_) (fun hge=> ?_)
  ·refine Nw.mk h fun b w h=>JT (x:=1) (y:=1) h (by omega) fun s w h=> ?_
   rw [ad (by omega),show (q:Int) - 1=((q - 1:Nat):Int) by omega]
   refine ⟨⟨q - 1,l++ [1,1],rfl,by omega,by omega,by rw [List.length_append];simp;omega,?_,h⟩,by first|omega|(dsimp only;omega)⟩
   rw [hc]
   obtain ⟨j,hj⟩: ∃j,q - now=j+1:=⟨q - now - 1,by omega⟩
   have e1:cm q now=1::1::(fy j++ [0]):=by
    unfold cm
    rw [if_pos (by omega),hj];rfl
   have e2:cm (q - 1) now=fy j++ [0]:=by
    unfold cm
    split
    ·rw [show q - 1 - now=j by omega]
    ·have:j=0:=by omega
     subst this
     rw [show now - (q - 1)=0 by omega];rfl
   rw [e1,e2];simp
  ·have e:q=now:=by omega
   subst e
   refine Nw.mk h fun b w h=>oX (x:=0) h (by omega) fun s w h=>hK s w ?_
   rw [hc,show cm q q= [0] by unfold cm;simp [ma]]
   exact h
theorem GY {l:List Nat} {K:Sl→World→Prop} (h:Hp E w F) (hl:l.length=258) (h8: ∀x∈l,x≤15) (hK: ∀s w',Hp E w' (OI s (dr l)::F)→K s w'):Cl Tryz.prog [kS] ox ⟨[.agg (ai .u8 l),.int .i64 (l.headD 0:Int)]⟩ w K:=by
 obtain ⟨x,m,rfl⟩: ∃x m,l=x::m:=by
  cases l with
  |nil=>simp at hl
  |cons x m=>exact ⟨x,m,rfl⟩
 have hx15:=h8 x List.mem_cons_self
 refine E3.ok _ _ _ _ ?_
 show Nw _ _ _ _
 rw [show ((x::m).headD 0)=x from rfl]
 refine Nw.mk h fun b4 w h=>⟨by decide,by decide,by decide,by decide,by decide,by decide,by decide,?_⟩
 rw [show (8:Int)=((8:Nat):Int) from rfl,show (4:Int)=((4:Nat):Int) from rfl,show (2:Int)=((2:Nat):Int) from rfl,pc,pc,pc,re,ad (x:=((x/8:Nat):Int)) (by omega),ad (x:=((x/4:Nat):Int)) (by omega),ad (x:=((x/2:Nat):Int)) (by omega),re,re,re]
 refine Nw.mk h fun b6 w h=> ?_
 have h:=Hp.dh (n:=4) (sz:=1) h rfl
 have h:Hp E w (OI ⟨some ⟨b6,0,none⟩,4,4⟩ (four x++dc x ((x::m).take 0))::aj b4 (.cells (ai .u8 (x::m)) 36 (0,0))::F):=h
 refine ⟨fun was o i w=> ∃k:Nat,i=(k:Int)∧k≤258∧was=((((x::m).take k).getLastD x:Nat):Int)∧Hp E w (OI o (four x++dc x ((x::m).take k))::aj b4 (.cells (ai .u8 (x::m)) 36 (0,0))::F),fun _ _ i _=>258 - i.toNat,⟨0,rfl,by omega,rfl,h⟩,?_⟩
 rintro was o i w ⟨k,rfl,hk,rfl,h⟩
 refine aa.dm (fun hlt=> ?_) (fun hge=> ?_)
 ·have hlt:k<258:=by omega
  have hlt2:k<(x::m).length:=by omega
  have hn15:=h8 _ (List.getElem_mem hlt2)
  have hw15:((x::m).take k).getLastD x≤15:=by
   cases hc:((x::m).take k).getLast? with
   |none=>rw [List.getLastD_eq_getLast?,hc];exact hx15
   |some y=>
    rw [List.getLastD_eq_getLast?,hc]
    exact h8 y (List.mem_of_mem_take (List.mem_of_getLast? hc))
  have hk':((x::m).take k++ [(x::m)[k]])=(x::m).take (k+1):=by rw [List.take_add_one,List.getElem?_eq_getElem hlt2];rfl
  have htl:=qI ((x::m).take k) x hx15 fun y hy=>h8 y (List.mem_of_mem_take hy)
  rw [List.length_take] at htl
  have hcl:=xk hw15 hn15
  refine av.rd (s:= .int .u8) (h.at 1) (by omega) (by omega) ((x::m)[k]:Int) (dC hlt2) ?_
  rw [ad (x:=((x::m)[k]:Int)) (by omega)]
  refine I8 h (by omega) (by omega) fun s16 w h=> ?_
  refine A8 (h.at 1) ab.own (by rw [List.length_append,show (four x).length=4 from rfl];omega) (by omega) fun s18 w h=> ?_
  refine av.rd (s:= .int .u8) (h.at 2) (by omega) (by omega) ((x::m)[k]:Int) (dC hlt2) ?_
  rw [ad (x:=((x::m)[k]:Int)) (by omega),ad (x:=(k:Int)+1) (by omega)]
  refine ⟨⟨k+1,rfl,by omega,?_,?_⟩,by first|omega|(dsimp only;omega)⟩
  ·rw [←hk',List.getLastD_concat]
  ·rw [List.append_assoc,←sg,hk'] at h
   exact h.no 1
 ·have hk2:k=258:=by omega
  subst hk2
  rw [List.take_of_length_le (by omega)] at h
  exact hK o w h.bY
theorem KD {l:List Nat} {K:Sl→Int→World→Prop} (h:Hp E w F) (hl:l.length=258) (h8: ∀x∈l,x≤255) (hbad:bz l=false→∀w',Hp E w' F→K ⟨none,0,0⟩ 2 w')
  (hK:bz l=true→∀s w',Hp E w' (OI s (dr l)::F)→K s 0 w'):Cl Tryz.prog [kS,kI] ru ⟨[.agg (ai .u8 l)]⟩ w K:=by
 refine Iw.ok _ _ _ ?_
 have hsz:(ai .u8 l).size=258:=by rw [ax,hl]
 refine Nw.mk h fun b3 w h=>Ld.xw h hsz (Cc h hl h8 fun w h=> ?_)
 by_cases hok:bz l=true
 ·rw [hok]
  have h15:=aj.mh hok
  have h0:0<l.length:=by omega
  have hhd:l.headD 0=l[0]:=by
   cases l with
   |nil=>simp at h0
   |cons x m=>rfl
  refine aa.f rfl (Ld.xw h hsz (av.rd (s:= .int .u8) h (by omega) (by omega) (l[0]:Int) (dC h0) ?_))
  have:=h15 _ (List.getElem_mem h0)
  rw [ad (by omega),←hhd]
  exact GY h hl h15 fun s w h=>hK hok s w h.bY
 ·rw [show bz l=false by simpa using hok]
  exact aa.t rfl (hbad (by simpa using hok) w h.tl)
theorem vl {t:TS} {x:Nat} {K:Array Value→Bool→World→Prop} (h:Hp E w F) (ht:gh t) (hx:x≤1) (hK:NL t x E F K):
  Cl Tryz.prog [.arr 262,kB] gw ⟨[.agg (dK (pad t.l) (t.l.length:Int) (t.bits:Int) (t.now:Int) (t.way:Int)),.int .i64 (x:Int)]⟩ w K:=by
 obtain ⟨k1,k2,k3⟩:=hK
 obtain ⟨l,bits,now,way⟩:=t
 unfold gh at ht
 unfold bf at k1 k2 k3
 dsimp only at ht k1 k2 k3⊢
 have hl:l.length≤258:=by
  rcases ht with ⟨_,h,_⟩|⟨_,h,_⟩
  ·rw [h];simp
  ·omega
 have hL:=iL (bh hl)
 have hz:((⟨List.replicate 258 (.int .u8 0)++ [.int .i64 0,.int .i64 0,.int .i64 0,.int .i64 0]⟩:Array Value)).size=262:=by simp
 refine Hk.ok _ _ _ _ ?_
 simp only [ar,Nat.zero_add]
 refine Nw.mk h fun b4 w h=>Nw.mk h fun b6 w h=> ?_
 rw [aD]
 dsimp only
 have out: ∀{w:World} {l':List Nat} {s b n wy:Int} {K':World→Array Value→Prop},l'.length=258→
   Hp E w (aj b6 (.cells ⟨List.replicate 258 (.int .u8 0)++ [.int .i64 0,.int .i64 0,.int .i64 0,.int .i64 0]⟩ 141 (0,0))::aj b4 (.cells (dK l' s b n wy) 141 (0,0))::F)→
   (∀w',Hp E w' F→K' w' (dK l' s b n wy))→
   Ld (.arr 262) ⟨b4,0,none⟩ w fun x=>an 262 ⟨b6,0,none⟩ x w fun w1=>Ld (.arr 262) ⟨b6,0,none⟩ w1 fun r=>K' w1 r:=by
  intro w l' s b n wy K' hl' h hk
  refine Ld.xw h (aO hl') (an.q h hz (aO hl') aN fun w h=> ?_)
  exact Ld.xw h (aO hl') (hk _ h.tl)
 refine Ld.q (b:=b4) h hL rfl rfl ?_
 refine bo.M4 (fun t8 w=>t8=decide (bits<4)∧Hp E w (aj b6 (.cells ⟨List.replicate 258 (.int .u8 0)++ [.int .i64 0,.int .i64 0,.int .i64 0,.int .i64 0]⟩ 141 (0,0))::aj b4 (.cells (dK (pad l) (l.length:Int) (bits:Int) (now:Int) (way:Int)) 141 (0,0))::F)) ?_ fun r' hr'=> ?_
 ·rintro t8 w ⟨rfl,h⟩
  rcases ht with ⟨h1,h2,h3,h4⟩|⟨h1,h2,h3,h4,h5⟩
  ·subst h2 h4
   simp only [if_pos h1] at k1 k2 k3
   have hnow:now<16384:=by
    have:2^bits≤2^3:=Nat.pow_le_pow_right (by decide) (by omega)
    omega
   refine aa.dt h1 ?_
   refine Ld.q (b:=b4) h hL rfl rfl ?_
   rw [ad (x:=(2:Int)*(now:Int)) (by omega),ad (by omega)]
   refine St.q (b:=b4) h hL rfl rfl rfl fun w h=> ?_
   dsimp only [ao,af] at h
   refine Ld.q (b:=b4) h hL rfl rfl ?_
   rw [ad (by omega)]
   refine St.q (b:=b4) h hL rfl rfl rfl fun w h=> ?_
   dsimp only [ao,af] at h
   rw [show (2:Int)*(now:Int)+(x:Int)=((2*now+x:Nat):Int) by omega,show (bits:Int)+1=((bits+1:Nat):Int) by omega] at h
   exact out (K':=fun w x=>K x true w) (bh hl) h fun w h=>k1 _ _ rfl h
  ·simp only [if_neg (show¬bits<4 by omega)] at k1 k2 k3
   refine aa.df (by omega) ?_
   by_cases hb:bits=4
   ·subst hb
    simp only [if_true] at k1 k2 k3
    refine aa.et rfl ?_
    by_cases hx0:x=0
    ·subst hx0
     simp only [if_true] at k1 k2 k3
     refine aa.ef (by omega) ?_
     refine Ld.q (b:=b4) h hL rfl rfl (Ld.q (b:=b4) h hL rfl rfl ⟨by omega,by omega,?_⟩)
     rw [show (((l.length:Int)).toNat*1)=l.length by omega,dH (by omega),ar,Nat.zero_add]
     refine St.g (b:=b4) h (by omega) rfl fun w h=> ?_
     rw [D9,DP h2] at h
     have hl2:(l++ [now]).length≤258:=by simp;omega
     have hL2:=iL (bh hl2)
     refine Ld.q (b:=b4) h hL2 rfl rfl ?_
     rw [ad (by omega)]
     refine St.q (b:=b4) h hL2 rfl rfl rfl fun w h=> ?_
     dsimp only [ao,af] at h
     refine St.q (b:=b4) h hL2 rfl rfl rfl fun w h=> ?_
     dsimp only [ao,af] at h
     rw [show (l.length:Int)+1=((l++ [now]).length:Int) by simp] at h
     have h:=h.drew (n:=w.drawn+1)
     refine ⟨bQ b4 _ _ _,h.hb,ae.qw (fun _ h=>h) hL2 rfl (ae.q (fun _ h=>h) hL2 rfl rfl ?_)⟩
     by_cases hf:l.length+1<258
     ·rw [if_pos hf] at k1 k2 k3
      refine aa.dt (by simp;omega) ?_
      refine an.q (b:=b6) h hz (aO (bh hl2)) aN fun w h=>⟨h.hb,Ld.xw (b:=b6) h (aO (bh hl2)) ?_⟩
      exact k1 _ _ rfl h.tl
     ·rw [if_neg hf] at k1 k2 k3
      have hfull:(l++ [now]).length=258:=by simp;omega
      refine aa.df (by simp;omega) ?_
      rw [BY hfull] at h hL2⊢
      refine ae.p (fun _ h=>h) hL2 ?_
      have h8: ∀y∈l++ [now],y≤255:=fun y hy=>by
       rcases List.mem_append.1 hy with hy|hy
       ·have:=h4 y hy;omega
       ·rw [List.mem_singleton] at hy;omega
      refine Cc h hfull h8 fun w h=>⟨h.hb,?_⟩
      refine an.q (b:=b6) h hz (aO hfull) aN fun w h=>⟨h.hb,Ld.xw (b:=b6) h (aO hfull) ?_⟩
      by_cases hok:bz (l++ [now])=true
      ·rw [if_pos hok] at k1 k2 k3
       rw [hok]
       have:=k2 _ (now:Int) _ rfl h.tl
       rw [hfull]
       exact this
      ·rw [if_neg hok] at k1 k2 k3
       rw [show bz (l++ [now])=false by simpa using hok]
       exact k3 _ _ rfl (aO hfull) aN h.tl
    ·simp only [if_neg hx0] at k1 k2 k3
     refine aa.et (by omega) ?_
     refine St.q (b:=b4) h hL rfl rfl rfl fun w h=> ?_
     dsimp only [ao,af] at h
     exact out (K':=fun w x=>K x true w) (bh hl) h fun w h=>k1 _ _ rfl h
   ·simp only [if_neg hb] at k1 k2 k3
    have hb5:bits=5:=by omega
    subst hb5
    refine aa.ef (by decide) ?_
    refine St.q (b:=b4) h hL rfl rfl rfl fun w h=> ?_
    dsimp only [ao,af] at h
    by_cases hx0:x=0
    ·subst hx0
     simp only [if_true] at k1 k2 k3
     refine aa.et rfl (Ld.q (b:=b4) h hL rfl rfl ?_)
     by_cases hw:way=2
     ·subst hw
      refine aa.et rfl ?_
      exact out (K':=fun w x=>K x false w) (bh hl) h fun w h=>k3 _ _ (by simp) (aO (bh hl)) aN h
     ·refine aa.ef (by omega) (Ld.q (b:=b4) h hL rfl rfl ?_)
      by_cases hn:now<15
      ·rw [if_pos ⟨hw,hn⟩] at k1
       refine aa.ef (by omega) (Ld.q (b:=b4) h hL rfl rfl ?_)
       rw [ad (by omega)]
       refine St.q (b:=b4) h hL rfl rfl rfl fun w h=> ?_
       dsimp only [ao,af] at h
       refine St.q (b:=b4) h hL rfl rfl rfl fun w h=> ?_
       dsimp only [ao,af] at h
       rw [show (now:Int)+1=((now+1:Nat):Int) by omega] at h
       exact out (K':=fun w x=>K x true w) (bh hl) h fun w h=>k1 _ _ rfl h
      ·rw [if_neg (fun hh=>hn hh.2)] at k3
       refine aa.et (by omega) ?_
       exact out (K':=fun w x=>K x false w) (bh hl) h fun w h=>k3 _ _ rfl (aO (bh hl)) aN h
    ·have hx1:x=1:=by omega
     subst hx1
     simp only [if_neg hx0] at k1 k2 k3
     refine aa.ef (by decide) (Ld.q (b:=b4) h hL rfl rfl ?_)
     by_cases hw:way=1
     ·subst hw
      refine aa.et rfl ?_
      exact out (K':=fun w x=>K x false w) (bh hl) h fun w h=>k3 _ _ (by simp) (aO (bh hl)) aN h
     ·refine aa.ef (by omega) (Ld.q (b:=b4) h hL rfl rfl ?_)
      by_cases hn:0<now
      ·rw [if_pos ⟨hw,hn⟩] at k1
       refine aa.ef (by omega) (Ld.q (b:=b4) h hL rfl rfl ?_)
       rw [ad (by omega)]
       refine St.q (b:=b4) h hL rfl rfl rfl fun w h=> ?_
       dsimp only [ao,af] at h
       refine St.q (b:=b4) h hL rfl rfl rfl fun w h=> ?_
       dsimp only [ao,af] at h
       rw [show (now:Int) - 1=((now - 1:Nat):Int) by omega] at h
       exact out (K':=fun w x=>K x true w) (bh hl) h fun w h=>k1 _ _ rfl h
      ·rw [if_neg (fun hh=>hn hh.2)] at k3
       refine aa.et (by omega) ?_
       exact out (K':=fun w x=>K x false w) (bh hl) h fun w h=>k3 _ _ rfl (aO (bh hl)) aN h
 ·refine aa.em (fun h0=>hr' _ _ ⟨?_,h⟩) (fun h0=>aa.em (fun h1=>hr' _ _ ⟨?_,h⟩) (fun h1=>aa.em (fun h2=>hr' _ _ ⟨?_,h⟩) (fun h2=>hr' _ _ ⟨?_,h⟩)))
  ·rw [h0];exact (decide_eq_true (by omega)).symm
  ·rw [h1];exact (decide_eq_true (by omega)).symm
  ·rw [h2];exact (decide_eq_true (by omega)).symm
  ·rw [Bool.eq_iff_iff,beq_iff_eq,decide_eq_true_iff];omega
theorem KE {K:Array Value→Prop} (hK:K fG):bU Tryz.prog 36 [] K:=⟨fG,by kernel_rfl,hK⟩
theorem HF {bs:List Nat} {s:Sl} {K:Array Value→Int→Int→World→Prop} (h:Hp E w F) (hs:ab F (aC 1 s ((ints bs).map vI))) (hb: ∀x∈bs,x≤1) (hbig:bs.length≤cA)
  (hshort: ∀s' w',run (bf bz) t0 bs= .short s'→Hp E w' F→K fG 0 50 w')
  (hbad: ∀w',run (bf bz) t0 bs= .bad 100→Hp E w' F→K fG 0 100 w')
  (hfin: ∀l r w',run (bf bz) t0 bs= .fin l r→Hp E w' F→K (ai .u8 l) ((bs.length - r.length:Nat):Int) 0 w'):
  Cl Tryz.prog [.arr 258,kI,kI] nT ⟨[.slice s.base s.len s.cap]⟩ w K:=by
 have hz:(⟨List.replicate 258 (.int .u8 0)++ [.int .i64 0,.int .i64 0,.int .i64 0,.int .i64 0]⟩:Array Value)=dK (pad t0.l) (t0.l.length:Int) (t0.bits:Int) (t0.now:Int) (t0.way:Int):=by
  rw [Ar];rfl
 have hzz:(⟨List.replicate 258 (.int .u8 0)++ [.int .i64 0,.int .i64 0,.int .i64 0,.int .i64 0]⟩:Array Value).size=262:=by simp
 have hz0:fG.size=258:=by simp
 have hz1:fG.toList.all aA=true:=by decide
 refine Ey.ok _ _ _ ?_
 (try simp only [aD,aw,ar,Nat.zero_add,Nat.add_zero,Nat.reduceAdd,Bool.not_true,Bool.not_false,aZ,aX,Option.isNone])
 have hlen:=nP (h.ag hs)
 rw [aB] at hbig
 refine Nw.mk h fun b3 w h=>Nw.mk h fun b5 w h=> ?_
 have outz: ∀{w:World} {K':Array Value→World→Prop} {l:List HP},Hp E w (l++(aj b3 (.cells fG 36 (0,0))::F))→(∀w',Hp E w' F→K' fG w')→
   bU Tryz.prog 36 [] fun x22=>an 258 ⟨b3,0,none⟩ x22 w fun w_23=>Ld (.arr 258) ⟨b3,0,none⟩ w_23 fun res24=>K' res24 w_23:=by
  intro w K' l h hk
  have h:=h.nc
  exact KE (an.q h hz0 hz0 hz1 fun w h=>Ld.xw h hz0 (hk _ h.tl))
 rw [hz] at h
 refine ⟨fun i w'=> ∃(k:Nat) (t:TS),i=(k:Int)∧k≤bs.length∧gh t∧run (bf bz) t0 (bs.take k)= .short t∧
  Hp E w' (aj b5 (.cells (dK (pad t.l) (t.l.length:Int) (t.bits:Int) (t.now:Int) (t.way:Int)) 141 (0,0))::aj b3 (.cells fG 36 (0,0))::F),
  fun i _=>bs.length - i.toNat,⟨0,t0,rfl,by omega,gh.zero,rfl,h⟩,?_⟩
 rintro i w ⟨k,t,rfl,hk,ht,hrun,h⟩
 refine aa.dm (fun hlt=> ?_) (fun hge=> ?_)
 ·have hlt:k<bs.length:=by omega
  have hx:=hb _ (List.getElem_mem hlt)
  have htl:(pad t.l).length=258:=bh (by
   rcases ht with ⟨_,h,_⟩|⟨_,h,_⟩
   ·rw [h];simp
   ·omega)
  have hSl: ∀{w:World} {l:List HP} [ju l F],Hp E w l→aC 1 s ((ints bs).map vI) w:=fun h=>(h.tl:Hp E _ F).ag hs
  have after: ∀(b26:Nat) (o:Array Value) (r:Bool) (w:World) (G:World→Prop),o.size=262→o.toList.all aA=true→
    ((r=true∧∃t',bf bz t bs[k]= .more t'∧o=dK (pad t'.l) (t'.l.length:Int) (t'.bits:Int) (t'.now:Int) (t'.way:Int))∨(r=true∧∃l n,bf bz t bs[k]= .fin l∧o=dK l 258 4 n 0)∨(r=false∧bf bz t bs[k]= .bad 100))→
    (∀t' w',bf bz t bs[k]= .more t'→Hp E w' (aj b5 (.cells (dK (pad t'.l) (t'.l.length:Int) (t'.bits:Int) (t'.now:Int) (t'.way:Int)) 141 (0,0))::aj b3 (.cells fG 36 (0,0))::F)→G w')→
    Hp E w (aj b26 (.cells o 141 (0,0))::aj b5 (.cells (dK (pad t.l) (t.l.length:Int) (t.bits:Int) (t.now:Int) (t.way:Int)) 141 (0,0))::aj b3 (.cells fG 36 (0,0))::F)→
    aa (!r) (bU Tryz.prog 36 [] fun x22=>an 258 ⟨b3,0,none⟩ x22 w fun w_23=>Ld (.arr 258) ⟨b3,0,none⟩ w_23 fun res24=>K res24 0 100 w_23)
     (Ld (.arr 262) ⟨b26,0,none⟩ w fun x31=>an 262 ⟨b5,0,none⟩ x31 w fun w_32=>Ld kI ⟨b5,258,none⟩ w_32 fun Symbol33=>aa (Symbol33==258)
      (Ld (.arr 258) ⟨b5,0,none⟩ w_32 fun Lengths34=>an 258 ⟨b3,0,none⟩ Lengths34 w_32 fun w_35=>Ld (.arr 258) ⟨b3,0,none⟩ w_35 fun res36=>K res36 (i64 ((k:Int)+1)) 0 w_35)
      (G w_32)):=by
   intro b26 o r w G ho hos hcase hG h
   rw [ad (x:=(k:Int)+1) (by omega)]
   rcases hcase with ⟨rfl,t',he,rfl⟩|⟨rfl,l,n,he,rfl⟩|⟨rfl,he⟩
   ·have ht':=oE ht hx he
    have hl':t'.l.length<258:=by
     rcases ht' with ⟨_,h,_⟩|⟨_,h,_⟩
     ·rw [h];simp
     ·omega
    have hL:=iL (bh (Nat.le_of_lt hl'))
    refine aa.f rfl (Ld.xw h ho (an.q (b:=b5) h (aO htl) ho hos fun w h=>Ld.q (b:=b5) h hL rfl rfl (aa.ef (by omega) ?_)))
    exact hG t' w he (h.no 0)
   ·have hf:=(dE ht he).1
    have hL:=iL hf
    refine aa.f rfl (Ld.xw h ho (an.q (b:=b5) h (aO htl) ho hos fun w h=>Ld.q (b:=b5) h hL rfl rfl (aa.et rfl (Ld.p (b:=b5) h hL ?_))))
    have hls:(⟨wu l⟩:Array Value).size=258:=by simpa using hf
    refine an.q (b:=b3) h hz0 hls (List.all_eq_true.2 bk) fun w h=>Ld.xw (b:=b3) h hls ?_
    have hr:=hfin l (bs.drop (k+1)) w (by rw [rA hrun,List.drop_eq_getElem_cons hlt,iK he]) h.tl
    rw [List.length_drop,show bs.length - (bs.length - (k+1))=k+1 by omega] at hr
    exact hr
   ·refine aa.t rfl (outz (l:= [_,_]) h fun w h=>hbad w ?_ h)
    rw [rA hrun,List.drop_eq_getElem_cons hlt,qo he]
  have hG: ∀t' w',bf bz t bs[k]= .more t'→Hp E w' (aj b5 (.cells (dK (pad t'.l) (t'.l.length:Int) (t'.bits:Int) (t'.now:Int) (t'.way:Int)) 141 (0,0))::aj b3 (.cells fG 36 (0,0))::F)→
    (∃(k':Nat) (t:TS),i64 ((k:Int)+1)=(k':Int)∧k'≤bs.length∧gh t∧run (bf bz) t0 (bs.take k')= .short t∧Hp E w' (aj b5 (.cells (dK (pad t.l) (t.l.length:Int) (t.bits:Int) (t.now:Int) (t.way:Int)) 141 (0,0))::aj b3 (.cells fG 36 (0,0))::F))∧
     bs.length - (i64 ((k:Int)+1)).toNat<bs.length - ((k:Int)).toNat:=by
   intro t' w' he h
   rw [ad (by omega)]
   refine ⟨⟨k+1,t',rfl,by omega,oE ht hx he,?_,h⟩,by omega⟩
   rw [List.take_add_one,List.getElem?_eq_getElem hlt]
   show run (bf bz) t0 (bs.take k++ [bs[k]])=_
   rw [cU hrun,bK he];rfl
  have szt': ∀{t':TS},bf bz t bs[k]= .more t'→(dK (pad t'.l) (t'.l.length:Int) (t'.bits:Int) (t'.now:Int) (t'.way:Int)).size=262:=fun {t'} he=>aO (bh (by
   rcases oE ht hx he with ⟨_,h,_⟩|⟨_,h,_⟩
   ·rw [h];simp
   ·omega))
  have hz62:((⟨List.replicate 258 (.int .u8 0)++ [.int .i64 0,.int .i64 0,.int .i64 0,.int .i64 0]⟩:Array Value)).size=262:=by simp
  refine aq.rI (hSl h) rfl hlt ?_
  have hx01:bs[k]=0∨bs[k]=1:=by omega
  rcases hx01 with e|e
  ·refine aa.nf (by omega) ?_
   (have h:=h.drew (n:=w.drawn+1);refine ⟨fun w=>bQ b5 (dK (pad t.l) (t.l.length:Int) (t.bits:Int) (t.now:Int) (t.way:Int)) _ (0,0) w∧aC 1 s ((ints bs).map vI) w,⟨h.hb,hSl h⟩,ae.xw (fun _ h=>h.1) (aO htl) (aq.Hv (hSl h) (fun _ h=>h.2) rfl (by simpa [ints] using hlt) (bs[k]:Int) (by simp [Sc.enc,vI,ints,hlt]) ⟨?_,?_⟩)⟩;refine vl h ht hx ⟨fun t' w he h=>⟨⟨h.hb,hSl h⟩,Nw.mk h fun b26 w h=>⟨⟨h.hb,hSl h⟩,an.q (b:=b26) h hz62 (szt' he) aN fun w h=>⟨⟨h.hb,hSl h⟩,after b26 _ _ w _ (szt' he) aN (.inl ⟨rfl,t',he,rfl⟩) hG h⟩⟩⟩,fun l n w he h=>⟨⟨h.hb,hSl h⟩,Nw.mk h fun b26 w h=>⟨⟨h.hb,hSl h⟩,an.q (b:=b26) h hz62 (aO (dE ht he).1) aN fun w h=>⟨⟨h.hb,hSl h⟩,after b26 _ _ w _ (aO (dE ht he).1) aN (.inr (.inl ⟨rfl,l,n,he,rfl⟩)) hG h⟩⟩⟩,fun o w he ho hos h=>⟨⟨h.hb,hSl h⟩,Nw.mk h fun b26 w h=>⟨⟨h.hb,hSl h⟩,an.q (b:=b26) h hz62 ho hos fun w h=>⟨⟨h.hb,hSl h⟩,after b26 _ _ w _ ho hos (.inr (.inr ⟨rfl,he⟩)) hG h⟩⟩⟩⟩;refine Nw.mk h fun b38 w h=>⟨⟨h.hb,hSl h⟩,vl h ht hx ⟨fun t' w he h=>⟨⟨h.hb,hSl h⟩,an.q (b:=b38) h hz62 (szt' he) aN fun w h=>⟨⟨h.hb,hSl h⟩,after b38 _ _ w _ (szt' he) aN (.inl ⟨rfl,t',he,rfl⟩) hG h⟩⟩,fun l n w he h=>⟨⟨h.hb,hSl h⟩,an.q (b:=b38) h hz62 (aO (dE ht he).1) aN fun w h=>⟨⟨h.hb,hSl h⟩,after b38 _ _ w _ (aO (dE ht he).1) aN (.inr (.inl ⟨rfl,l,n,he,rfl⟩)) hG h⟩⟩,fun o w he ho hos h=>⟨⟨h.hb,hSl h⟩,an.q (b:=b38) h hz62 ho hos fun w h=>⟨⟨h.hb,hSl h⟩,after b38 _ _ w _ ho hos (.inr (.inr ⟨rfl,he⟩)) hG h⟩⟩⟩⟩)
  ·refine aa.nt (by omega) (aq.rI (hSl h) rfl hlt (aa.nf (by omega) ?_))
   (have h:=h.drew (n:=w.drawn+1);refine ⟨fun w=>bQ b5 (dK (pad t.l) (t.l.length:Int) (t.bits:Int) (t.now:Int) (t.way:Int)) _ (0,0) w∧aC 1 s ((ints bs).map vI) w,⟨h.hb,hSl h⟩,ae.xw (fun _ h=>h.1) (aO htl) (aq.Hv (hSl h) (fun _ h=>h.2) rfl (by simpa [ints] using hlt) (bs[k]:Int) (by simp [Sc.enc,vI,ints,hlt]) ⟨?_,?_⟩)⟩;refine vl h ht hx ⟨fun t' w he h=>⟨⟨h.hb,hSl h⟩,Nw.mk h fun b26 w h=>⟨⟨h.hb,hSl h⟩,an.q (b:=b26) h hz62 (szt' he) aN fun w h=>⟨⟨h.hb,hSl h⟩,after b26 _ _ w _ (szt' he) aN (.inl ⟨rfl,t',he,rfl⟩) hG h⟩⟩⟩,fun l n w he h=>⟨⟨h.hb,hSl h⟩,Nw.mk h fun b26 w h=>⟨⟨h.hb,hSl h⟩,an.q (b:=b26) h hz62 (aO (dE ht he).1) aN fun w h=>⟨⟨h.hb,hSl h⟩,after b26 _ _ w _ (aO (dE ht he).1) aN (.inr (.inl ⟨rfl,l,n,he,rfl⟩)) hG h⟩⟩⟩,fun o w he ho hos h=>⟨⟨h.hb,hSl h⟩,Nw.mk h fun b26 w h=>⟨⟨h.hb,hSl h⟩,an.q (b:=b26) h hz62 ho hos fun w h=>⟨⟨h.hb,hSl h⟩,after b26 _ _ w _ ho hos (.inr (.inr ⟨rfl,he⟩)) hG h⟩⟩⟩⟩;refine Nw.mk h fun b38 w h=>⟨⟨h.hb,hSl h⟩,vl h ht hx ⟨fun t' w he h=>⟨⟨h.hb,hSl h⟩,an.q (b:=b38) h hz62 (szt' he) aN fun w h=>⟨⟨h.hb,hSl h⟩,after b38 _ _ w _ (szt' he) aN (.inl ⟨rfl,t',he,rfl⟩) hG h⟩⟩,fun l n w he h=>⟨⟨h.hb,hSl h⟩,an.q (b:=b38) h hz62 (aO (dE ht he).1) aN fun w h=>⟨⟨h.hb,hSl h⟩,after b38 _ _ w _ (aO (dE ht he).1) aN (.inr (.inl ⟨rfl,l,n,he,rfl⟩)) hG h⟩⟩,fun o w he ho hos h=>⟨⟨h.hb,hSl h⟩,an.q (b:=b38) h hz62 ho hos fun w h=>⟨⟨h.hb,hSl h⟩,after b38 _ _ w _ ho hos (.inr (.inr ⟨rfl,he⟩)) hG h⟩⟩⟩⟩)
 ·have hk2:k=bs.length:=by omega
  subst hk2
  rw [List.take_of_length_le (Nat.le_refl _)] at hrun
  exact outz (l:= [_]) h fun w h=>hshort t w hrun h
end
end Go.Proofs.YtcdpblipagajiaaGreat
namespace Go.Proofs.YtcdpblipagajiaaGreat
open Go Go.Vc
set_option maxRecDepth 100000
theorem Hl.ok (a:Int) (R:Sl→Int→World→Prop) w (h:
 aa (decide (a<0))
 (R (⟨none,0,0⟩:Sl) 2 w)
 (aa (decide (a>2147483647))
 (R (⟨none,0,0⟩:Sl) 2 w)
 ((128:Int)≠0∧
 Nw 5 ⟨[(.int .u8 (u8 (Int.tmod a (128:Int))))]⟩ w fun c b=>
 (128:Int)≠0∧
 bE (i64 (Int.tdiv a (128:Int))) (⟨some ⟨c,0,none⟩,1,1⟩:Sl) b fun d e (f:Int) (g:Sl) h=>
 aa (decide (f>0))
 ((128:Int)≠0∧
 Nw 5 ⟨[(.int .u8 (u8 (i64 ((128:Int)+((Int.tmod f (128:Int)):Int)))))]⟩ h fun j i=>
 ay Pg (Builtin.append_ #[22,22] 22 ⟨[(ah (⟨some ⟨j,0,none⟩,1,1⟩:Sl)),(ah g)]⟩) kS i fun (l:Sl) k=>
 (128:Int)≠0∧
 d (i64 (Int.tdiv f (128:Int))) l k∧e (i64 (Int.tdiv f (128:Int))) l k<e f g h)
 (R g 0 h)))):Cl Pg [kS,kI] lZ ⟨[(ni a)]⟩ w R:=co Tryz.f71 [(12,[(0,kI),(4,kS)])] h
theorem EX.ok (a:(TT [.int .i64,.int .i64])) (b:Int) (R:(TT [.int .i64,.int .i64])→Bool→Int→World→Prop) w (h:
 Nw 72 ⟨[(ni a.1),(ni a.2.1)]⟩ w fun d c=>
 Nw 72 ⟨[(ni 0),(ni 0)]⟩ c fun f e=>
 Ld (.st [.int .i64,.int .i64]) ⟨d,0,none⟩ e fun g=>
 Cl Pg [kB] mn ⟨[(.agg ⟨[(ni g.1),(ni g.2.1)]⟩)]⟩ e fun (i:Bool) h=>
 aa (!i)
 (ak ⟨f,0,none⟩ [(ni 0),(ni 0)] 0 h fun j=>
 Ld (.st [.int .i64,.int .i64]) ⟨f,0,none⟩ j fun k=>
 R k false 2 j)
 (aa (b==128)
 (Ld kI (Addr.add ⟨d,0,none⟩ 1) h fun (l:Int)=>
 aa (l==0)
 (ak ⟨f,0,none⟩ [(ni 0),(ni 0)] 0 h fun m=>
 Ld (.st [.int .i64,.int .i64]) ⟨f,0,none⟩ m fun n=>
 R n false 51 m)
 (Ld kI (Addr.add ⟨d,0,none⟩ 0) h fun (o:Int)=>
 (128:Int)≠0∧
 aa (decide ((i64 ((i64 ((128:Int)*o))+(i64 (Int.tmod b (128:Int)))))>2147483647))
 (ak ⟨f,0,none⟩ [(ni 0),(ni 0)] 0 h fun p=>
 Ld (.st [.int .i64,.int .i64]) ⟨f,0,none⟩ p fun q=>
 R q false 52 p)
 (Ld kI (Addr.add ⟨d,0,none⟩ 1) h fun (r:Int)=>
 aa (r==4)
 (aa (decide (b≥128))
 (ak ⟨f,0,none⟩ [(ni 0),(ni 0)] 0 h fun s=>
 Ld (.st [.int .i64,.int .i64]) ⟨f,0,none⟩ s fun t=>
 R t false 52 s)
 (Ld kI (Addr.add ⟨d,0,none⟩ 1) h fun (u:Int)=>
 ak ⟨f,0,none⟩ [(ni (i64 ((i64 ((128:Int)*o))+(i64 (Int.tmod b (128:Int)))))),(ni (i64 (u+1)))] 0 h fun v=>
 Ld (.st [.int .i64,.int .i64]) ⟨f,0,none⟩ v fun x=>
 R x (decide (b<128)) 0 v))
 (Ld kI (Addr.add ⟨d,0,none⟩ 1) h fun (y:Int)=>
 ak ⟨f,0,none⟩ [(ni (i64 ((i64 ((128:Int)*o))+(i64 (Int.tmod b (128:Int)))))),(ni (i64 (y+1)))] 0 h fun z=>
 Ld (.st [.int .i64,.int .i64]) ⟨f,0,none⟩ z fun a1=>
 R a1 (decide (b<128)) 0 z))))
 (Ld kI (Addr.add ⟨d,0,none⟩ 0) h fun (b1:Int)=>
 (128:Int)≠0∧
 aa (decide ((i64 ((i64 ((128:Int)*b1))+(i64 (Int.tmod b (128:Int)))))>2147483647))
 (ak ⟨f,0,none⟩ [(ni 0),(ni 0)] 0 h fun c1=>
 Ld (.st [.int .i64,.int .i64]) ⟨f,0,none⟩ c1 fun d1=>
 R d1 false 52 c1)
 (Ld kI (Addr.add ⟨d,0,none⟩ 1) h fun (e1:Int)=>
 aa (e1==4)
 (aa (decide (b≥128))
 (ak ⟨f,0,none⟩ [(ni 0),(ni 0)] 0 h fun f1=>
 Ld (.st [.int .i64,.int .i64]) ⟨f,0,none⟩ f1 fun g1=>
 R g1 false 52 f1)
 (Ld kI (Addr.add ⟨d,0,none⟩ 1) h fun (h1:Int)=>
 ak ⟨f,0,none⟩ [(ni (i64 ((i64 ((128:Int)*b1))+(i64 (Int.tmod b (128:Int)))))),(ni (i64 (h1+1)))] 0 h fun i1=>
 Ld (.st [.int .i64,.int .i64]) ⟨f,0,none⟩ i1 fun j1=>
 R j1 (decide (b<128)) 0 i1))
 (Ld kI (Addr.add ⟨d,0,none⟩ 1) h fun (k1:Int)=>
 ak ⟨f,0,none⟩ [(ni (i64 ((i64 ((128:Int)*b1))+(i64 (Int.tmod b (128:Int)))))),(ni (i64 (k1+1)))] 0 h fun l1=>
 Ld (.st [.int .i64,.int .i64]) ⟨f,0,none⟩ l1 fun m1=>
 R m1 (decide (b<128)) 0 l1))))):Cl Pg [(.st [.int .i64,.int .i64]),kB,kI] nU ⟨[(.agg ⟨[(ni a.1),(ni a.2.1)]⟩),(.int .u8 b)]⟩ w R:=co Tryz.f171 [] h
theorem CV.ok (a:(TT [.int .i64,.int .i64])) (R:Bool→World→Prop) w (h:
 Nw 72 ⟨[(ni a.1),(ni a.2.1)]⟩ w fun c b=>
 Ld kI (Addr.add ⟨c,0,none⟩ 1) b fun (d:Int)=>
 aa (d==0)
 (Ld kI (Addr.add ⟨c,0,none⟩ 0) b fun (e:Int)=>
 R (e==0) b)
 (cL b fun f g=>
 ae kI (Addr.add ⟨c,0,none⟩ 1) f fun (h:Int)=>
 aa (decide (h≥1))
 (ae kI (Addr.add ⟨c,0,none⟩ 1) f fun (i:Int)=>
 aa (decide (i≤4))
 (ae kI (Addr.add ⟨c,0,none⟩ 0) f fun (j:Int)=>
 ae kI (Addr.add ⟨c,0,none⟩ 1) f fun (k:Int)=>
 Cl Pg [kI] jG ⟨[(ni (i64 (k - 1)))]⟩ g fun (m:Int) l=>
 f l∧
 aa (decide (j≥m))
 (ae kI (Addr.add ⟨c,0,none⟩ 0) f fun (n:Int)=>
 ae kI (Addr.add ⟨c,0,none⟩ 1) f fun (o:Int)=>
 Cl Pg [kI] jG ⟨[(ni o)]⟩ l fun (q:Int) p=>
 f p∧
 R (decide (n<q)) p)
 (R false l))
 (R false g))
 (R false g))):Cl Pg [kB] mn ⟨[(.agg ⟨[(ni a.1),(ni a.2.1)]⟩)]⟩ w R:=co Tryz.f197 [] h
theorem CE.ok (a:Int) (R:Int→World→Prop) w (h:
 bE 1 0 w fun b c (d:Int) (e:Int) f=>
 aa (decide (e<a))
 (b (i64 (d*128)) (i64 (e+1)) f∧c (i64 (d*128)) (i64 (e+1)) f<c d e f)
 (R d f)):Cl Pg [kI] jG ⟨[(ni a)]⟩ w R:=co Tryz.f212 [(7,[(3,kI),(4,kI)])] h
end Go.Proofs.YtcdpblipagajiaaGreat
namespace Go.Proofs.YtcdpblipagajiaaGreat
open Go Go.Vc
set_option maxRecDepth 100000
theorem xB.ok (a:Int) (b:(TT [.int .i64,.int .i64,.int .u32])) (R:Sl→Int→World→Prop) w (h:
 Nw 53 ⟨[(ni b.1),(ni b.2.1),(.int .u32 b.2.2.1)]⟩ w fun d c=>
 bo (fun (k:World)=>
 Ld kI (Addr.add ⟨d,0,none⟩ 0) k fun (l:Int)=>
 Cl Pg [kS,kI] lZ ⟨[(ni l)]⟩ k fun (n:Sl) (o:Int) m=>
 Ld kI (Addr.add ⟨d,0,none⟩ 1) m fun (p:Int)=>
 Cl Pg [kS,kI] lZ ⟨[(ni p)]⟩ m fun (r:Sl) (s:Int) q=>
 Nw 5 ⟨[(.int .u8 1)]⟩ q fun u t=>
 ay Pg (Builtin.append_ #[22,22] 22 ⟨[(ah (⟨some ⟨u,0,none⟩,1,1⟩:Sl)),(ah n)]⟩) kS t fun (x:Sl) v=>
 ay Pg (Builtin.append_ #[22,22] 22 ⟨[(ah x),(ah r)]⟩) kS v fun (z:Sl) y=>
 Ld (az .u32) (Addr.add ⟨d,0,none⟩ 2) y fun (a1:Int)=>
 Cl Pg [kS] pV ⟨[(.int .u32 a1)]⟩ y fun (c1:Sl) b1=>
 ay Pg (Builtin.append_ #[22,22] 22 ⟨[(ah z),(ah c1)]⟩) kS b1 fun (e1:Sl) d1=>
 R e1 0 d1) fun e=>
 aa (decide (a<1))
 (R (⟨none,0,0⟩:Sl) 2 c)
 (aa (decide (a>65536))
 (R (⟨none,0,0⟩:Sl) 2 c)
 (Ld kI (Addr.add ⟨d,0,none⟩ 0) c fun (f:Int)=>
 aa (decide (f<1))
 (R (⟨none,0,0⟩:Sl) 2 c)
 (Ld kI (Addr.add ⟨d,0,none⟩ 0) c fun (g:Int)=>
 aa (decide (g>a))
 (R (⟨none,0,0⟩:Sl) 2 c)
 (Ld kI (Addr.add ⟨d,0,none⟩ 1) c fun (h:Int)=>
 aa (decide (h<1))
 (R (⟨none,0,0⟩:Sl) 2 c)
 (Ld kI (Addr.add ⟨d,0,none⟩ 1) c fun (i:Int)=>
 Ld kI (Addr.add ⟨d,0,none⟩ 0) c fun (j:Int)=>
 aa (decide (i>j))
 (R (⟨none,0,0⟩:Sl) 2 c)
 (e c))))))):Cl Pg [kS,kI] jX ⟨[(ni a),(.agg ⟨[(ni b.1),(ni b.2.1),(.int .u32 b.2.2.1)]⟩)]⟩ w R:=co Tryz.f26 [(2,[])] h
theorem qn.ok (a:Int) (b:Sl) (R:(TT aY)→Sl→Int→World→Prop) w (h:
 Nw 74 ⟨[(ni 0),(ni 0),(ni 0),(ni 0),(ni 0),(.int .u32 0),(ni 0)]⟩ w fun d c=>
 bo (fun (j:World)=>
 Nw 74 ⟨[(ni 0),(ni 0),(ni 0),(ni 0),(ni 0),(.int .u32 0),(ni 0)]⟩ j fun l k=>
 cn 0 k fun m n (o:Int) p=>
 aa (decide (o<(b.len:Int)))
 (cL p fun q r=>
 ae (.st aY) ⟨l,0,none⟩ q fun s=>
 aq b o 1 fun t=>
 ae (az .u8) t q fun (u:Int)=>
 (Cl Pg [(.st aY),kB] eQ ⟨[(ni a),(.agg ⟨[(ni s.1),(ni s.2.1),(ni s.2.2.1),(ni s.2.2.2.1),(ni s.2.2.2.2.1),(.int .u32 s.2.2.2.2.2.1),(ni s.2.2.2.2.2.2.1)]⟩),(.int .u8 u)]⟩ r fun x (y:Bool) v=>
 q v∧
 Nw 74 ⟨[(ni 0),(ni 0),(ni 0),(ni 0),(ni 0),(.int .u32 0),(ni 0)]⟩ v fun a1 z=>
 q z∧
 ak ⟨a1,0,none⟩ [(ni x.1),(ni x.2.1),(ni x.2.2.1),(ni x.2.2.2.1),(ni x.2.2.2.2.1),(.int .u32 x.2.2.2.2.2.1),(ni x.2.2.2.2.2.2.1)] 0 z fun b1=>
 q b1∧
 aa (!y)
 (ak ⟨d,0,none⟩ [(ni 0),(ni 0),(ni 0),(ni 0),(ni 0),(.int .u32 0),(ni 0)] 0 b1 fun c1=>
 Ld (.st aY) ⟨d,0,none⟩ c1 fun d1=>
 R d1 (⟨none,0,0⟩:Sl) 242 c1)
 (Ld (.st aY) ⟨a1,0,none⟩ b1 fun e1=>
 ak ⟨l,0,none⟩ [(ni e1.1),(ni e1.2.1),(ni e1.2.2.1),(ni e1.2.2.2.1),(ni e1.2.2.2.2.1),(.int .u32 e1.2.2.2.2.2.1),(ni e1.2.2.2.2.2.2.1)] 0 b1 fun f1=>
 Ld kI (Addr.add ⟨l,0,none⟩ 0) f1 fun (g1:Int)=>
 aa (g1==4)
 (cL f1 fun h1 i1=>
 ae (.st aY) ⟨l,0,none⟩ h1 fun j1=>
 bd b (i64 (o+1)) (b).len (b).cap 1 fun k1=>
 Nw 5 ⟨[]⟩ i1 fun m1 l1=>
 h1 l1∧
 ay Pg (Builtin.append_ #[22,22] 22 ⟨[(ah (⟨some ⟨m1,0,none⟩,0,0⟩:Sl)),(ah k1)]⟩) kS l1 fun (o1:Sl) n1=>
 h1 n1∧
 ak ⟨d,0,none⟩ [(ni j1.1),(ni j1.2.1),(ni j1.2.2.1),(ni j1.2.2.2.1),(ni j1.2.2.2.2.1),(.int .u32 j1.2.2.2.2.2.1),(ni j1.2.2.2.2.2.2.1)] 0 n1 fun p1=>
 h1 p1∧
 Ld (.st aY) ⟨d,0,none⟩ p1 fun q1=>
 R q1 o1 0 p1)
 (Ld kI (Addr.add ⟨l,0,none⟩ 0) f1 fun (r1:Int)=>
 aa (r1==6)
 (cL f1 fun s1 t1=>
 ae (.st aY) ⟨l,0,none⟩ s1 fun u1=>
 bd b (i64 (o+1)) (b).len (b).cap 1 fun v1=>
 Nw 5 ⟨[]⟩ t1 fun y1 x1=>
 s1 x1∧
 ay Pg (Builtin.append_ #[22,22] 22 ⟨[(ah (⟨some ⟨y1,0,none⟩,0,0⟩:Sl)),(ah v1)]⟩) kS x1 fun (a2:Sl) z1=>
 s1 z1∧
 ak ⟨d,0,none⟩ [(ni u1.1),(ni u1.2.1),(ni u1.2.2.1),(ni u1.2.2.2.1),(ni u1.2.2.2.2.1),(.int .u32 u1.2.2.2.2.2.1),(ni u1.2.2.2.2.2.2.1)] 0 z1 fun b2=>
 s1 b2∧
 Ld (.st aY) ⟨d,0,none⟩ b2 fun c2=>
 R c2 a2 0 b2)
 (m (i64 (o+1)) f1∧n (i64 (o+1)) f1<n o p))))∧
 (Nw 74 ⟨[(ni 0),(ni 0),(ni 0),(ni 0),(ni 0),(.int .u32 0),(ni 0)]⟩ r fun e2 d2=>
 q d2∧
 Cl Pg [(.st aY),kB] eQ ⟨[(ni a),(.agg ⟨[(ni s.1),(ni s.2.1),(ni s.2.2.1),(ni s.2.2.2.1),(ni s.2.2.2.2.1),(.int .u32 s.2.2.2.2.2.1),(ni s.2.2.2.2.2.2.1)]⟩),(.int .u8 u)]⟩ d2 fun g2 (h2:Bool) f2=>
 q f2∧
 ak ⟨e2,0,none⟩ [(ni g2.1),(ni g2.2.1),(ni g2.2.2.1),(ni g2.2.2.2.1),(ni g2.2.2.2.2.1),(.int .u32 g2.2.2.2.2.2.1),(ni g2.2.2.2.2.2.2.1)] 0 f2 fun i2=>
 q i2∧
 aa (!h2)
 (ak ⟨d,0,none⟩ [(ni 0),(ni 0),(ni 0),(ni 0),(ni 0),(.int .u32 0),(ni 0)] 0 i2 fun j2=>
 Ld (.st aY) ⟨d,0,none⟩ j2 fun k2=>
 R k2 (⟨none,0,0⟩:Sl) 242 j2)
 (Ld (.st aY) ⟨e2,0,none⟩ i2 fun l2=>
 ak ⟨l,0,none⟩ [(ni l2.1),(ni l2.2.1),(ni l2.2.2.1),(ni l2.2.2.2.1),(ni l2.2.2.2.2.1),(.int .u32 l2.2.2.2.2.2.1),(ni l2.2.2.2.2.2.2.1)] 0 i2 fun m2=>
 Ld kI (Addr.add ⟨l,0,none⟩ 0) m2 fun (n2:Int)=>
 aa (n2==4)
 (cL m2 fun o2 p2=>
 ae (.st aY) ⟨l,0,none⟩ o2 fun q2=>
 bd b (i64 (o+1)) (b).len (b).cap 1 fun r2=>
 Nw 5 ⟨[]⟩ p2 fun t2 s2=>
 o2 s2∧
 ay Pg (Builtin.append_ #[22,22] 22 ⟨[(ah (⟨some ⟨t2,0,none⟩,0,0⟩:Sl)),(ah r2)]⟩) kS s2 fun (v2:Sl) u2=>
 o2 u2∧
 ak ⟨d,0,none⟩ [(ni q2.1),(ni q2.2.1),(ni q2.2.2.1),(ni q2.2.2.2.1),(ni q2.2.2.2.2.1),(.int .u32 q2.2.2.2.2.2.1),(ni q2.2.2.2.2.2.2.1)] 0 u2 fun x2=>
 o2 x2∧
 Ld (.st aY) ⟨d,0,none⟩ x2 fun y2=>
 R y2 v2 0 x2)
 (Ld kI (Addr.add ⟨l,0,none⟩ 0) m2 fun (z2:Int)=>
 aa (z2==6)
 (cL m2 fun a3 b3=>
 ae (.st aY) ⟨l,0,none⟩ a3 fun c3=>
 bd b (i64 (o+1)) (b).len (b).cap 1 fun d3=>
 Nw 5 ⟨[]⟩ b3 fun f3 e3=>
 a3 e3∧
 ay Pg (Builtin.append_ #[22,22] 22 ⟨[(ah (⟨some ⟨f3,0,none⟩,0,0⟩:Sl)),(ah d3)]⟩) kS e3 fun (h3:Sl) g3=>
 a3 g3∧
 ak ⟨d,0,none⟩ [(ni c3.1),(ni c3.2.1),(ni c3.2.2.1),(ni c3.2.2.2.1),(ni c3.2.2.2.2.1),(.int .u32 c3.2.2.2.2.2.1),(ni c3.2.2.2.2.2.2.1)] 0 g3 fun i3=>
 a3 i3∧
 Ld (.st aY) ⟨d,0,none⟩ i3 fun j3=>
 R j3 h3 0 i3)
 (m (i64 (o+1)) m2∧n (i64 (o+1)) m2<n o p)))))
 (ak ⟨d,0,none⟩ [(ni 0),(ni 0),(ni 0),(ni 0),(ni 0),(.int .u32 0),(ni 0)] 0 p fun k3=>
 Ld (.st aY) ⟨d,0,none⟩ k3 fun l3=>
 R l3 (⟨none,0,0⟩:Sl) 50 k3)) fun e=>
 aa (decide (a<1))
 (ak ⟨d,0,none⟩ [(ni 0),(ni 0),(ni 0),(ni 0),(ni 0),(.int .u32 0),(ni 0)] 0 c fun f=>
 Ld (.st aY) ⟨d,0,none⟩ f fun g=>
 R g (⟨none,0,0⟩:Sl) 2 f)
 (aa (decide (a>65536))
 (ak ⟨d,0,none⟩ [(ni 0),(ni 0),(ni 0),(ni 0),(ni 0),(.int .u32 0),(ni 0)] 0 c fun h=>
 Ld (.st aY) ⟨d,0,none⟩ h fun i=>
 R i (⟨none,0,0⟩:Sl) 2 h)
 (e c))):Cl Pg [(.st aY),kS,kI] fV ⟨[(ni a),(ah b)]⟩ w R:=co Tryz.f41 [(2,[]),(12,[(8,kI)])] h
theorem Cy.ok (a:Int) (b:(TT aY)) (c:Int) (R:(TT aY)→Bool→World→Prop) w (h:
 Nw 74 ⟨[(ni b.1),(ni b.2.1),(ni b.2.2.1),(ni b.2.2.2.1),(ni b.2.2.2.2.1),(.int .u32 b.2.2.2.2.2.1),(ni b.2.2.2.2.2.2.1)]⟩ w fun e d=>
 Nw 74 ⟨[(ni 0),(ni 0),(ni 0),(ni 0),(ni 0),(.int .u32 0),(ni 0)]⟩ d fun g f=>
 Ld kI (Addr.add ⟨e,0,none⟩ 0) f fun (h:Int)=>
 aa (h==0)
 (St (Addr.add ⟨e,0,none⟩ 0) (ni 1) f fun i=>
 aa (c==0)
 (St (Addr.add ⟨e,0,none⟩ 0) (ni 5) i fun j=>
 Ld (.st aY) ⟨e,0,none⟩ j fun k=>
 aa (c==0)
 (ak ⟨g,0,none⟩ [(ni k.1),(ni k.2.1),(ni k.2.2.1),(ni k.2.2.2.1),(ni k.2.2.2.2.1),(.int .u32 k.2.2.2.2.2.1),(ni k.2.2.2.2.2.2.1)] 0 j fun l=>
 Ld (.st aY) ⟨g,0,none⟩ l fun m=>
 R m true l)
 (ak ⟨g,0,none⟩ [(ni k.1),(ni k.2.1),(ni k.2.2.1),(ni k.2.2.2.1),(ni k.2.2.2.2.1),(.int .u32 k.2.2.2.2.2.1),(ni k.2.2.2.2.2.2.1)] 0 j fun n=>
 Ld (.st aY) ⟨g,0,none⟩ n fun o=>
 R o (c==1) n))
 (Ld (.st aY) ⟨e,0,none⟩ i fun p=>
 aa (c==0)
 (ak ⟨g,0,none⟩ [(ni p.1),(ni p.2.1),(ni p.2.2.1),(ni p.2.2.2.1),(ni p.2.2.2.2.1),(.int .u32 p.2.2.2.2.2.1),(ni p.2.2.2.2.2.2.1)] 0 i fun q=>
 Ld (.st aY) ⟨g,0,none⟩ q fun r=>
 R r true q)
 (ak ⟨g,0,none⟩ [(ni p.1),(ni p.2.1),(ni p.2.2.1),(ni p.2.2.2.1),(ni p.2.2.2.2.1),(.int .u32 p.2.2.2.2.2.1),(ni p.2.2.2.2.2.2.1)] 0 i fun s=>
 Ld (.st aY) ⟨g,0,none⟩ s fun t=>
 R t (c==1) s)))
 (aa (h==1)
 (Ld (.st [.int .i64,.int .i64]) (Addr.add ⟨e,0,none⟩ 1) f fun u=>
 Cl Pg [(.st [.int .i64,.int .i64]),kB,kB] jL ⟨[(.agg ⟨[(ni u.1),(ni u.2.1)]⟩),(.int .u8 c),(ni a)]⟩ f fun x (y:Bool) (z:Bool) v=>
 Nw 72 ⟨[(ni 0),(ni 0)]⟩ v fun b1 a1=>
 ak ⟨b1,0,none⟩ [(ni x.1),(ni x.2.1)] 0 a1 fun c1=>
 Ld (.st [.int .i64,.int .i64]) ⟨b1,0,none⟩ c1 fun d1=>
 ak (Addr.add ⟨e,0,none⟩ 1) [(ni d1.1),(ni d1.2.1)] 0 c1 fun e1=>
 aa y
 (ak (Addr.add ⟨e,0,none⟩ 1) [(ni 0),(ni 0)] 0 e1 fun f1=>
 Ld kI (Addr.add ⟨b1,0,none⟩ 0) f1 fun (g1:Int)=>
 St ((Addr.add ⟨e,0,none⟩ 3).add 0) (ni g1) f1 fun h1=>
 St (Addr.add ⟨e,0,none⟩ 0) (ni 2) h1 fun i1=>
 Ld (.st aY) ⟨e,0,none⟩ i1 fun j1=>
 ak ⟨g,0,none⟩ [(ni j1.1),(ni j1.2.1),(ni j1.2.2.1),(ni j1.2.2.2.1),(ni j1.2.2.2.2.1),(.int .u32 j1.2.2.2.2.2.1),(ni j1.2.2.2.2.2.2.1)] 0 i1 fun k1=>
 Ld (.st aY) ⟨g,0,none⟩ k1 fun l1=>
 R l1 z k1)
 (Ld (.st aY) ⟨e,0,none⟩ e1 fun m1=>
 ak ⟨g,0,none⟩ [(ni m1.1),(ni m1.2.1),(ni m1.2.2.1),(ni m1.2.2.2.1),(ni m1.2.2.2.2.1),(.int .u32 m1.2.2.2.2.2.1),(ni m1.2.2.2.2.2.2.1)] 0 e1 fun n1=>
 Ld (.st aY) ⟨g,0,none⟩ n1 fun o1=>
 R o1 z n1))
 (aa (h==2)
 (Ld (.st [.int .i64,.int .i64]) (Addr.add ⟨e,0,none⟩ 1) f fun p1=>
 Ld kI ((Addr.add ⟨e,0,none⟩ 3).add 0) f fun (q1:Int)=>
 Cl Pg [(.st [.int .i64,.int .i64]),kB,kB] jL ⟨[(.agg ⟨[(ni p1.1),(ni p1.2.1)]⟩),(.int .u8 c),(ni q1)]⟩ f fun s1 (t1:Bool) (u1:Bool) r1=>
 Nw 72 ⟨[(ni 0),(ni 0)]⟩ r1 fun x1 v1=>
 ak ⟨x1,0,none⟩ [(ni s1.1),(ni s1.2.1)] 0 v1 fun y1=>
 Ld (.st [.int .i64,.int .i64]) ⟨x1,0,none⟩ y1 fun z1=>
 ak (Addr.add ⟨e,0,none⟩ 1) [(ni z1.1),(ni z1.2.1)] 0 y1 fun a2=>
 aa t1
 (ak (Addr.add ⟨e,0,none⟩ 1) [(ni 0),(ni 0)] 0 a2 fun b2=>
 Ld kI (Addr.add ⟨x1,0,none⟩ 0) b2 fun (c2:Int)=>
 St ((Addr.add ⟨e,0,none⟩ 3).add 1) (ni c2) b2 fun d2=>
 St (Addr.add ⟨e,0,none⟩ 0) (ni 3) d2 fun e2=>
 Ld (.st aY) ⟨e,0,none⟩ e2 fun f2=>
 ak ⟨g,0,none⟩ [(ni f2.1),(ni f2.2.1),(ni f2.2.2.1),(ni f2.2.2.2.1),(ni f2.2.2.2.2.1),(.int .u32 f2.2.2.2.2.2.1),(ni f2.2.2.2.2.2.2.1)] 0 e2 fun g2=>
 Ld (.st aY) ⟨g,0,none⟩ g2 fun h2=>
 R h2 u1 g2)
 (Ld (.st aY) ⟨e,0,none⟩ a2 fun i2=>
 ak ⟨g,0,none⟩ [(ni i2.1),(ni i2.2.1),(ni i2.2.2.1),(ni i2.2.2.2.1),(ni i2.2.2.2.2.1),(.int .u32 i2.2.2.2.2.2.1),(ni i2.2.2.2.2.2.2.1)] 0 a2 fun j2=>
 Ld (.st aY) ⟨g,0,none⟩ j2 fun k2=>
 R k2 u1 j2))
 (Ld (az .u32) ((Addr.add ⟨e,0,none⟩ 3).add 2) f fun (l2:Int)=>
 St ((Addr.add ⟨e,0,none⟩ 3).add 2) (.int .u32 (u32 ((u32 ((256:Int)*l2))+(u32 c)))) f fun m2=>
 Ld kI (Addr.add ⟨e,0,none⟩ 6) m2 fun (n2:Int)=>
 St (Addr.add ⟨e,0,none⟩ 6) (ni (i64 (n2+1))) m2 fun o2=>
 Ld kI (Addr.add ⟨e,0,none⟩ 6) o2 fun (p2:Int)=>
 aa (p2==4)
 (Ld kI (Addr.add ⟨e,0,none⟩ 0) o2 fun (q2:Int)=>
 St (Addr.add ⟨e,0,none⟩ 0) (ni (i64 (q2+1))) o2 fun r2=>
 Ld (.st aY) ⟨e,0,none⟩ r2 fun s2=>
 ak ⟨g,0,none⟩ [(ni s2.1),(ni s2.2.1),(ni s2.2.2.1),(ni s2.2.2.2.1),(ni s2.2.2.2.2.1),(.int .u32 s2.2.2.2.2.2.1),(ni s2.2.2.2.2.2.2.1)] 0 r2 fun t2=>
 Ld (.st aY) ⟨g,0,none⟩ t2 fun u2=>
 R u2 true t2)
 (Ld (.st aY) ⟨e,0,none⟩ o2 fun v2=>
 ak ⟨g,0,none⟩ [(ni v2.1),(ni v2.2.1),(ni v2.2.2.1),(ni v2.2.2.2.1),(ni v2.2.2.2.2.1),(.int .u32 v2.2.2.2.2.2.1),(ni v2.2.2.2.2.2.2.1)] 0 o2 fun x2=>
 Ld (.st aY) ⟨g,0,none⟩ x2 fun y2=>
 R y2 true x2))))):Cl Pg [(.st aY),kB] eQ ⟨[(ni a),(.agg ⟨[(ni b.1),(ni b.2.1),(ni b.2.2.1),(ni b.2.2.2.1),(ni b.2.2.2.2.1),(.int .u32 b.2.2.2.2.2.1),(ni b.2.2.2.2.2.2.1)]⟩),(.int .u8 c)]⟩ w R:=co Tryz.f83 [] h
theorem CR.ok (a:(TT [.int .i64,.int .i64])) (b:Int) (c:Int) (R:(TT [.int .i64,.int .i64])→Bool→Bool→World→Prop) w (h:
 Nw 72 ⟨[(ni a.1),(ni a.2.1)]⟩ w fun e d=>
 Nw 72 ⟨[(ni 0),(ni 0)]⟩ d fun g f=>
 Ld (.st [.int .i64,.int .i64]) ⟨e,0,none⟩ f fun h=>
 Cl Pg [(.st [.int .i64,.int .i64]),kB,kI] nU ⟨[(.agg ⟨[(ni h.1),(ni h.2.1)]⟩),(.int .u8 b)]⟩ f fun j (k:Bool) (l:Int) i=>
 Nw 72 ⟨[(ni 0),(ni 0)]⟩ i fun n m=>
 ak ⟨n,0,none⟩ [(ni j.1),(ni j.2.1)] 0 m fun o=>
 aa (l !=0)
 (Ld (.st [.int .i64,.int .i64]) ⟨n,0,none⟩ o fun p=>
 ak ⟨g,0,none⟩ [(ni p.1),(ni p.2.1)] 0 o fun q=>
 Ld (.st [.int .i64,.int .i64]) ⟨g,0,none⟩ q fun r=>
 R r false false q)
 (Ld kI (Addr.add ⟨n,0,none⟩ 0) o fun (s:Int)=>
 aa (decide (s>c))
 (Ld (.st [.int .i64,.int .i64]) ⟨n,0,none⟩ o fun t=>
 ak ⟨g,0,none⟩ [(ni t.1),(ni t.2.1)] 0 o fun u=>
 Ld (.st [.int .i64,.int .i64]) ⟨g,0,none⟩ u fun v=>
 R v false false u)
 (aa k
 (Ld kI (Addr.add ⟨n,0,none⟩ 0) o fun (x:Int)=>
 aa (decide (x<1))
 (Ld (.st [.int .i64,.int .i64]) ⟨n,0,none⟩ o fun y=>
 ak ⟨g,0,none⟩ [(ni y.1),(ni y.2.1)] 0 o fun z=>
 Ld (.st [.int .i64,.int .i64]) ⟨g,0,none⟩ z fun a1=>
 R a1 false false z)
 (Ld (.st [.int .i64,.int .i64]) ⟨n,0,none⟩ o fun b1=>
 ak ⟨g,0,none⟩ [(ni b1.1),(ni b1.2.1)] 0 o fun c1=>
 Ld (.st [.int .i64,.int .i64]) ⟨g,0,none⟩ c1 fun d1=>
 R d1 k true c1))
 (Ld (.st [.int .i64,.int .i64]) ⟨n,0,none⟩ o fun e1=>
 ak ⟨g,0,none⟩ [(ni e1.1),(ni e1.2.1)] 0 o fun f1=>
 Ld (.st [.int .i64,.int .i64]) ⟨g,0,none⟩ f1 fun g1=>
 R g1 k true f1)))):Cl Pg [(.st [.int .i64,.int .i64]),kB,kB] jL ⟨[(.agg ⟨[(ni a.1),(ni a.2.1)]⟩),(.int .u8 b),(ni c)]⟩ w R:=co Tryz.f129 [] h
end Go.Proofs.YtcdpblipagajiaaGreat
namespace Go.Proofs.YtcdpblipagajiaaGreat
open Go Go.Vc
set_option maxRecDepth 100000
theorem IV.ok (a:Sl) (R:Int→World→Prop) w (h:
 Cl Pg [(az .u32)] nL ⟨[(.int .u32 0),(ah a)]⟩ w fun (c:Int) b=>
 R c b):Cl Pg [(az .u32)] mL ⟨[(ah a)]⟩ w R:=co Tryz.f27 [] h
theorem HJ.ok (a:Int) (R:Sl→World→Prop) w (h:
 (16777216:Int)≠0∧
 (65536:Int)≠0∧
 (256:Int)≠0∧
 (256:Int)≠0∧
 (256:Int)≠0∧
 (256:Int)≠0∧
 Nw 5 ⟨[(.int .u8 (u8 (u32 (Int.tdiv a (16777216:Int))))),(.int .u8 (u8 (Int.tmod (u32 (Int.tdiv a (65536:Int))) (256:Int)))),(.int .u8 (u8 (Int.tmod (u32 (Int.tdiv a (256:Int))) (256:Int)))),(.int .u8 (u8 (Int.tmod a (256:Int))))]⟩ w fun c b=>
 R (⟨some ⟨c,0,none⟩,4,4⟩:Sl) b):Cl Pg [kS] pV ⟨[(.int .u32 a)]⟩ w R:=co Tryz.f72 [] h
theorem EG.ok (a:Int) (b:Sl) (R:Int→World→Prop) w (h:
 bE (dZ .u32 a 4294967295) 0 w fun c d (e:Int) (f:Int) g=>
 aa (decide (f<(b.len:Int)))
 (bE e 0 g fun h i (j:Int) (k:Int) l=>
 aq b f 1 fun m=>
 Ld kS m l fun (n:Sl)=>
 aa (decide (k<(n.len:Int)))
 (aq b f 1 fun o=>
 Ld kS o l fun (p:Sl)=>
 aq p k 1 fun q=>
 Ld (az .u8) q l fun (r:Int)=>
 Cl Pg [(az .u32)] oO ⟨[(.int .u32 j),(.int .u8 r)]⟩ l fun (t:Int) s=>
 h t (i64 (k+1)) s∧i t (i64 (k+1)) s<i j k l)
 (c j (i64 (f+1)) l∧d j (i64 (f+1)) l<d e f g))
 (R (dZ .u32 e 4294967295) g)):Cl Pg [(az .u32)] nL ⟨[(.int .u32 a),(ah b)]⟩ w R:=co Tryz.f73 [(7,[(0,(az .u32)),(5,kI)]),(14,[(0,(az .u32)),(6,kI)])] h
theorem FC.ok (a:Int) (b:Int) (R:Int→World→Prop) w (h:
 (256:Int)≠0∧
 Cl Pg [(az .u32)] pT ⟨[(.int .u8 (dZ .u8 (u8 (Int.tmod a (256:Int))) b))]⟩ w fun (d:Int) c=>
 (256:Int)≠0∧
 R (dZ .u32 d (u32 (Int.tdiv a (256:Int)))) c):Cl Pg [(az .u32)] oO ⟨[(.int .u32 a),(.int .u8 b)]⟩ w R:=co Tryz.f122 [] h
theorem Gn.ok (a:Int) (R:Int→World→Prop) w (h:
 bE (u32 a) 0 w fun b c (d:Int) (e:Int) f=>
 aa (decide (e<8))
 ((2:Int)≠0∧
 (2:Int)≠0∧
 aa (((Int.tmod d (2:Int)):Int)==1)
 (b (dZ .u32 (u32 (Int.tdiv d (2:Int))) 3988292384) (i64 (e+1)) f∧c (dZ .u32 (u32 (Int.tdiv d (2:Int))) 3988292384) (i64 (e+1)) f<c d e f)
 (b (u32 (Int.tdiv d (2:Int))) (i64 (e+1)) f∧c (u32 (Int.tdiv d (2:Int))) (i64 (e+1)) f<c d e f))
 (R d f)):Cl Pg [(az .u32)] pT ⟨[(.int .u8 a)]⟩ w R:=co Tryz.f167 [(7,[(3,(az .u32)),(4,kI)])] h
end Go.Proofs.YtcdpblipagajiaaGreat
namespace Go.Proofs.YtcdpblipagajiaaGreat
open Go Go.Vc Go.Bits Go.Crc
section
variable {E w:World} {F:List HP}
set_option maxRecDepth 20000
theorem nY (a b:Nat):Int.tmod (a:Int) (b:Int)=((a % b:Nat):Int):=rfl
theorem ou (a b:Nat):Int.tdiv (a:Int) (b:Int)=((a/b:Nat):Int):=rfl
theorem LL {b:Nat} {K:Int→World→Prop} (hb:b<256) (hK:K (row b:Int) w):Cl Tryz.prog [az .u32] pT ⟨[.int .u8 (b:Int)]⟩ w K:=by
 refine Gn.ok _ _ _ ?_
 refine ⟨fun c i w'=>w'=w∧∃k:Nat,i=(k:Int)∧k≤8∧c=(bV k b:Int),fun _ i _=>8 - i.toNat,⟨rfl,0,rfl,by omega,by rw [cW (by omega)];rfl⟩,?_⟩
 rintro c i w' ⟨rfl,k,rfl,hk,rfl⟩
 refine aa.dm (fun hlt=> ?_) (fun hge=> ?_)
 ·have hlt:k<8:=by omega
  have hb:=sY k b (by omega)
  have hm:IntKind.max .u32=4294967295:=rfl
  have h2:=fM hb
  have e1:u32 (Int.tdiv (bV k b:Int) 2)=((bV k b/2:Nat):Int):=by
   rw [show (2:Int)=((2:Nat):Int) from rfl,ou,cW (by omega)]
  have e2:Int.tmod (bV k b:Int) 2=((bV k b % 2:Nat):Int):=nY _ 2
  rw [e1,e2,ad (by omega)]
  have hs:bV (k+1) b=half (bV k b):=rfl
  refine ⟨by decide,by decide,aa.mk (fun ho=> ?_) (fun he=> ?_)⟩
  ·have ho:bV k b % 2=1:=by rw [beq_iff_eq] at ho;omega
   have hh:bV k b/2^^^3988292384=bV (k+1) b:=by rw [hs];unfold half;rw [if_pos ho]
   refine ⟨⟨rfl,k+1,rfl,by omega,?_⟩,by first|omega|(dsimp only;omega)⟩
   rw [show (3988292384:Int)=((3988292384:Nat):Int) from rfl,gZ (by omega) (by omega) (by rw [hh,hs];omega),hh]
  ·have ho: ¬bV k b % 2=1:=by rw [beq_eq_false_iff_ne] at he;omega
   have hh:bV k b/2=bV (k+1) b:=by rw [hs];unfold half;rw [if_neg ho,Nat.xor_zero]
   exact ⟨⟨rfl,k+1,rfl,by omega,by rw [hh]⟩,by first|omega|(dsimp only;omega)⟩
 ·have:k=8:=by omega
  subst this
  exact hK
theorem Lb {c x:Nat} {K:Int→World→Prop} (hc:c<4294967296) (hx:x<256) (hK:K (Crc.step c x:Int) w):Cl Tryz.prog [az .u32] oO ⟨[.int .u32 (c:Int),.int .u8 (x:Int)]⟩ w K:=by
 refine FC.ok _ _ _ _ ?_
 have hm:IntKind.max .u32=4294967295:=rfl
 have hm8:IntKind.max .u8=255:=rfl
 have hi:=tH (c:=c) hx
 have hr:=Ac (c:=c % 256^^^x) (by omega)
 have hs:=xp hc hx
 have e1:dZ .u8 (u8 (Int.tmod (c:Int) 256)) (x:Int)=((c % 256^^^x:Nat):Int):=by
  rw [show (256:Int)=((256:Nat):Int) from rfl,nY,dH (by omega),gZ (by omega) (by omega) (by omega)]
 rw [e1]
 refine ⟨by decide,LL hi ⟨by decide,?_⟩⟩
 unfold Crc.step at hs hK
 rw [show (256:Int)=((256:Nat):Int) from rfl,ou,cW (by omega),gZ (by omega) (by omega) (by omega)]
 exact hK
theorem Mj {c:Nat} (h:c<4294967296):dZ .u32 (c:Int) 4294967295=((c^^^4294967295:Nat):Int):=by
 have hm:IntKind.max .u32=4294967295:=rfl
 have hx:c^^^4294967295<2^32:=Nat.xor_lt_two_pow (by omega) (by decide)
 rw [show (4294967295:Int)=((4294967295:Nat):Int) from rfl,gZ (by omega) (by omega) (by omega)]
theorem Lq {c:Nat} {K:Int→World→Prop} {s:Sl} {cs:List Sl} {bs:List (List Nat)} (h:Hp E w F) (hc0:c<4294967296)
  (hs:ab F (aC 1 s (cs.map fun x=> .slice x.base x.len x.cap))) (hl:cs.length=bs.length) (hcl:cs.length≤cA) (hc: ∀i (h:i<cs.length),ab F (aC 1 cs[i] ((bs.getD i []).map vB)))
  (hby: ∀b∈bs,∀y∈b,y<256) (hbig: ∀b∈bs,b.length≤cA)
  (hK:K ((Crc.feed (c^^^4294967295) bs.flatten^^^4294967295:Nat):Int) w):Cl Tryz.prog [az .u32] nL ⟨[.int .u32 (c:Int),.slice s.base s.len s.cap]⟩ w K:=by
 refine EG.ok _ _ _ _ ?_
 have hlen:s.len=cs.length:=by have:=(h.ag hs).1;simpa using this.symm
 have hflat: ∀y∈bs.flatten,y<256:=fun y hy=>by
  obtain ⟨b,hb1,hb2⟩:=List.mem_flatten.1 hy
  exact hby b hb1 y hb2
 have hc1:c^^^4294967295<4294967296:=Nat.xor_lt_two_pow (n:=32) hc0 (by decide)
 rw [aB] at hcl
 rw [Mj hc0]
 refine ⟨fun x i w'=>w'=w∧∃k:Nat,i=(k:Int)∧k≤cs.length∧x=(Crc.feed (c^^^4294967295) (bs.take k).flatten:Int),fun _ i _=>cs.length - i.toNat,⟨rfl,0,rfl,by omega,rfl⟩,?_⟩
 rintro x i w ⟨rfl,k,rfl,hk,rfl⟩
 refine aa.dm (fun hlt=> ?_) (fun hge=> ?_)
 ·have hlt:k<cs.length:=by omega
  have hkb:k<bs.length:=by omega
  have hgd:bs.getD k []=bs[k]:=by rw [List.getD_eq_getElem?_getD,List.getElem?_eq_getElem hkb];rfl
  have hck:=hc k hlt
  rw [hgd] at hck
  have hmem:=List.getElem_mem hkb
  have hblen:=hbig _ hmem
  rw [aB] at hblen
  have hlk:=(h.ag hck).1
  simp only [List.length_map,Nat.mul_one] at hlk
  have rdp: ∀{G:Sl→Prop},G cs[k]→aq s (k:Int) 1 fun q=>Ld kS q w G:=fun hG=>aq.rd (h.ag hs) (by omega) (by omega) fun q hi hq=>Ld.sc _ (by simpa using hq:w.cell? q=some (Sc.sl.enc cs[k])) hG
  refine ⟨fun x i w'=>w'=w∧∃j:Nat,i=(j:Int)∧j≤bs[k].length∧x=(Crc.feed (c^^^4294967295) ((bs.take k).flatten++bs[k].take j):Int),fun _ i _=>bs[k].length - i.toNat,⟨rfl,0,rfl,by omega,by simp⟩,?_⟩
  rintro x i w' ⟨rfl,j,rfl,hj,rfl⟩
  have hpre: ∀y∈(bs.take k).flatten++bs[k].take j,y<256:=fun y hy=>by
   rcases List.mem_append.1 hy with hy|hy
   ·obtain ⟨b,hb1,hb2⟩:=List.mem_flatten.1 hy
    exact hby b (List.mem_of_mem_take hb1) y hb2
   ·exact hby _ hmem y (List.mem_of_mem_take hy)
  have hfl:=Crc.nu _ _ hc1 hpre
  refine rdp (aa.dm (fun hlt2=> ?_) (fun hge2=> ?_))
  ·have hjl:j<bs[k].length:=by omega
   have hy:=hby _ hmem _ (List.getElem_mem hjl)
   refine rdp (aq.rd (h.ag hck) (by omega) (by omega) fun q hi hq=> ?_)
   refine Ld.sc (s:= .int .u8) (bs[k][j]:Int) (by simpa [vB] using hq) ?_
   refine Lb hfl hy ?_
   rw [ad (by omega)]
   refine ⟨⟨rfl,j+1,rfl,by omega,?_⟩,by first|omega|(dsimp only;omega)⟩
   rw [List.take_add_one,List.getElem?_eq_getElem hjl,←List.append_assoc,Crc.Ae ((bs.take k).flatten++bs[k].take j)];rfl
  ·have hjl:j=bs[k].length:=by omega
   subst hjl
   rw [ad (by omega),List.take_length]
   exact ⟨⟨rfl,k+1,rfl,by omega,by rw [yI hkb,hgd]⟩,by first|omega|(dsimp only;omega)⟩
 ·have hkl:k=bs.length:=by omega
  subst hkl
  rw [List.take_length]
  have hfl:=Crc.nu _ _ hc1 hflat
  rw [Mj hfl]
  exact hK
theorem J0 {K:Int→World→Prop} {s:Sl} {cs:List Sl} {bs:List (List Nat)} (h:Hp E w F)
  (hs:ab F (aC 1 s (cs.map fun x=> .slice x.base x.len x.cap))) (hl:cs.length=bs.length) (hcl:cs.length≤cA) (hc: ∀i (h:i<cs.length),ab F (aC 1 cs[i] ((bs.getD i []).map vB)))
  (hby: ∀b∈bs,∀y∈b,y<256) (hbig: ∀b∈bs,b.length≤cA)
  (hK:K (Crc.lf bs.flatten:Int) w):Cl Tryz.prog [az .u32] mL ⟨[.slice s.base s.len s.cap]⟩ w K:=by
 refine IV.ok _ _ _ ?_
 exact Lq (c:=0) h (by decide) hs hl hcl hc hby hbig hK
theorem LI {c:Nat} {K:Sl→World→Prop} (h:Hp E w F) (hc:c<4294967296) (hK: ∀s w',Hp E w' (al 1 s ((Hd.gn c).map vB)::F)→K s w'):Cl Tryz.prog [kS] pV ⟨[.int .u32 (c:Int)]⟩ w K:=by
 refine HJ.ok _ _ _ ?_
 refine ⟨by decide,by decide,by decide,by decide,by decide,by decide,?_⟩
 have e1:u8 (u32 (Int.tdiv (c:Int) 16777216))=((c/16777216 % 256:Nat):Int):=by
  rw [show (16777216:Int)=((16777216:Nat):Int) from rfl,ou,cW (by omega),sJ];omega
 have e2:u8 (Int.tmod (u32 (Int.tdiv (c:Int) 65536)) 256)=((c/65536 % 256:Nat):Int):=by
  rw [show (65536:Int)=((65536:Nat):Int) from rfl,ou,cW (by omega),show (256:Int)=((256:Nat):Int) from rfl,nY,dH (by omega)]
 have e3:u8 (Int.tmod (u32 (Int.tdiv (c:Int) 256)) 256)=((c/256 % 256:Nat):Int):=by
  rw [show (256:Int)=((256:Nat):Int) from rfl,ou,cW (by omega),nY,dH (by omega)]
 have e4:u8 (Int.tmod (c:Int) 256)=((c % 256:Nat):Int):=by
  rw [show (256:Int)=((256:Nat):Int) from rfl,nY,dH (by omega)]
 rw [e1,e2,e3,e4]
 exact Nw.mk h fun b3 w h=>hK _ w (h.dh (n:=4) (sz:=1) rfl)
end
end Go.Proofs.YtcdpblipagajiaaGreat
namespace Go.Proofs.YtcdpblipagajiaaGreat
open Go Go.Vc Go.Srt Go.Inc Go.Hd Go.Crc
section
variable {E w:World} {F:List HP}
set_option maxRecDepth 20000
theorem F1 {m:Nat} {K:Int→World→Prop} (hm:m≤8) (hK:K ((128^m:Nat):Int) w):Cl Tryz.prog [kI] jG ⟨[.int .i64 (m:Int)]⟩ w K:=by
 refine CE.ok _ _ _ ?_
 refine ⟨fun n i w'=>w'=w∧∃k:Nat,i=(k:Int)∧k≤m∧n=((128^k:Nat):Int),fun _ i _=>m - i.toNat,⟨rfl,0,rfl,by omega,rfl⟩,?_⟩
 rintro n i w' ⟨rfl,k,rfl,hk,rfl⟩
 refine aa.dm (fun hlt=> ?_) (fun hge=> ?_)
 ·have hp:128^(k+1)≤128^8:=Nat.pow_le_pow_right (by decide) (by omega)
  rw [Nat.pow_succ] at hp
  have e:=Nat.pow_succ 128 k
  generalize 128^k=p at*
  rw [ad (by omega),ad (by omega)]
  refine ⟨⟨rfl,k+1,rfl,by omega,by rw [e];omega⟩,by first|omega|(dsimp only;omega)⟩
 ·have:k=m:=by omega
  subst this
  exact hK
theorem Hc {v:Nat} {K:Bool→World→Prop} (h:Hp E w F) (hv:v≤65536) (hK: ∀w',Hp E w' F→K true w'):
  Cl Tryz.prog [kB] mn ⟨[.agg ⟨[.int .i64 (v:Int),.int .i64 (vm v:Int)]⟩]⟩ w K:=by
 refine CV.ok ((v:Int),(vm v:Int),()) _ _ ?_
 (try simp only [aD,aw,ar,Nat.zero_add,Nat.add_zero,Nat.reduceAdd,Bool.not_true,Bool.not_false,aZ,aX,Option.isNone])
 by_cases h0:v=0
 ·subst h0
  rw [show vm 0=0 from rfl]
  (with_reducible repeat first|refine Nw.mk h fun b w h=> ?_|refine au.mk h fun w h=> ?_|refine Ld.xb h rfl ?_|refine Ld.xt h rfl ?_|refine ae.xb (fun _ h=>h) rfl ?_|refine ae.xt (fun _ h=>h) rfl ?_|refine ⟨h.hb,?_⟩|refine ak.xw h rfl rfl fun w h=> ?_|(refine ak.xs h rfl rfl fun w h=> ?_;dsimp only [ao,af] at h)|(refine St.xs h rfl rfl fun w h=> ?_;dsimp only [ao,af] at h)|refine aa.yes ?_|refine aa.no ?_|refine ⟨by first|omega|decide,?_⟩)
  exact hK _ h.tl
 ·obtain ⟨m,hm,hm2,h1,h2⟩: ∃m,vm v=m+1∧m≤2∧128^m≤v∧v<128^(m+1):=by
   rcases vd hv with ⟨a,b⟩|⟨a,b,c⟩|⟨a,b,c⟩|⟨a,b,c⟩
   ·omega
   ·exact ⟨0,c,by omega,by simpa using a,by simpa using b⟩
   ·exact ⟨1,c,by omega,by simpa using a,by simpa using b⟩
   ·exact ⟨2,c,by omega,by simpa using a,by simpa using b⟩
  rw [hm]
  refine Nw.mk h fun b3 w h=>Ld.xb h rfl (aa.ef (by omega) ?_)
  have h:=h.drew (n:=w.drawn+1)
  refine ⟨bQ b3 _ _ _,h.hb,?_⟩
  (with_reducible repeat first|refine Nw.mk h fun b w h=> ?_|refine au.mk h fun w h=> ?_|refine Ld.xb h rfl ?_|refine Ld.xt h rfl ?_|refine ae.xb (fun _ h=>h) rfl ?_|refine ae.xt (fun _ h=>h) rfl ?_|refine ⟨h.hb,?_⟩|refine ak.xw h rfl rfl fun w h=> ?_|(refine ak.xs h rfl rfl fun w h=> ?_;dsimp only [ao,af] at h)|(refine St.xs h rfl rfl fun w h=> ?_;dsimp only [ao,af] at h)|refine aa.yes ?_|refine aa.no ?_|refine ⟨by first|omega|decide,?_⟩)
  rw [ad (by omega),show ((m+1:Nat):Int) - 1=(m:Int) by omega]
  refine F1 (by omega) ⟨h.hb,aa.dt (by exact_mod_cast h1) ?_⟩
  (with_reducible repeat first|refine Nw.mk h fun b w h=> ?_|refine au.mk h fun w h=> ?_|refine Ld.xb h rfl ?_|refine Ld.xt h rfl ?_|refine ae.xb (fun _ h=>h) rfl ?_|refine ae.xt (fun _ h=>h) rfl ?_|refine ⟨h.hb,?_⟩|refine ak.xw h rfl rfl fun w h=> ?_|(refine ak.xs h rfl rfl fun w h=> ?_;dsimp only [ao,af] at h)|(refine St.xs h rfl rfl fun w h=> ?_;dsimp only [ao,af] at h)|refine aa.yes ?_|refine aa.no ?_|refine ⟨by first|omega|decide,?_⟩)
  refine F1 (m:=m+1) (by omega) ⟨h.hb,?_⟩
  exact iX (decide_eq_true (by exact_mod_cast h2)) (hK _ h.tl)
theorem H2 {v c:Nat} {K:Int×Int×Unit→Bool→Int→World→Prop} (h:Hp E w F) (hv:v≤65536) (hc:c<256)
  (hbad:v=0∧c=128→∀w',Hp E w' F→K (0,0,()) false 51 w')
  (hK: ¬(v=0∧c=128)→∀w',Hp E w' F→K (((128*v+c % 128:Nat):Int),((vm v+1:Nat):Int),()) (decide (c<128)) 0 w'):
  Cl Tryz.prog [.st [.int .i64,.int .i64],kB,kI] nU ⟨[.agg ⟨[.int .i64 (v:Int),.int .i64 (vm v:Int)]⟩,.int .u8 (c:Int)]⟩ w K:=by
 refine EX.ok ((v:Int),(vm v:Int),()) _ _ _ ?_
 (try simp only [aD,aw,ar,Nat.zero_add,Nat.add_zero,Nat.reduceAdd,Bool.not_true,Bool.not_false,aZ,aX,Option.isNone])
 (with_reducible repeat first|refine Nw.mk h fun b w h=> ?_|refine au.mk h fun w h=> ?_|refine Ld.xb h rfl ?_|refine Ld.xt h rfl ?_|refine ae.xb (fun _ h=>h) rfl ?_|refine ae.xt (fun _ h=>h) rfl ?_|refine ⟨h.hb,?_⟩|refine ak.xw h rfl rfl fun w h=> ?_|(refine ak.xs h rfl rfl fun w h=> ?_;dsimp only [ao,af] at h)|(refine St.xs h rfl rfl fun w h=> ?_;dsimp only [ao,af] at h)|refine aa.yes ?_|refine aa.no ?_|refine ⟨by first|omega|decide,?_⟩)
 refine Hc h hv fun w h=> ?_
 rw [show Int.tmod (c:Int) 128=((c % 128:Nat):Int) from rfl,ad (x:=((c % 128:Nat):Int)) (by omega)]
 have hvm:=JZ hv
 have fin: ∀w,¬(v=0∧c=128)→Hp E w F→K (i64 (i64 (128*(v:Int))+((c % 128:Nat):Int)),i64 ((vm v:Int)+1),()) (decide ((c:Int)<128)) 0 w:=fun w hn h=>by
  have:=hK hn w h
  rw [ad (x:=128*(v:Int)) (by omega),ad (x:=(vm v:Int)+1) (by omega),ad (by omega)]
  rw [show ((vm v+1:Nat):Int)=(vm v:Int)+1 from rfl,show ((128*v+c % 128:Nat):Int)=128*(v:Int)+((c % 128:Nat):Int) by omega] at this
  rwa [show decide ((c:Int)<128)=decide (c<128) from decide_eq_decide.2 (by omega)]
 have hle: ¬i64 (i64 (128*(v:Int))+((c % 128:Nat):Int))>2147483647:=by rw [ad (x:=128*(v:Int)) (by omega),ad (by omega)];omega
 with_reducible refine aa.wm ?_
 by_cases h8:c=128
 ·refine aa.et (by omega) (Ld.xb h rfl ?_)
  by_cases h0:v=0
  ·refine aa.et (by omega) ?_
   (with_reducible repeat first|refine Nw.mk h fun b w h=> ?_|refine au.mk h fun w h=> ?_|refine Ld.xb h rfl ?_|refine Ld.xt h rfl ?_|refine ae.xb (fun _ h=>h) rfl ?_|refine ae.xt (fun _ h=>h) rfl ?_|refine ⟨h.hb,?_⟩|refine ak.xw h rfl rfl fun w h=> ?_|(refine ak.xs h rfl rfl fun w h=> ?_;dsimp only [ao,af] at h)|(refine St.xs h rfl rfl fun w h=> ?_;dsimp only [ao,af] at h)|refine aa.yes ?_|refine aa.no ?_|refine ⟨by first|omega|decide,?_⟩)
   exact hbad ⟨h0,h8⟩ _ h.tl
  ·refine aa.ef (by omega) (Ld.xb h rfl ⟨by decide,aa.df hle ?_⟩)
   (with_reducible repeat first|refine Nw.mk h fun b w h=> ?_|refine au.mk h fun w h=> ?_|refine Ld.xb h rfl ?_|refine Ld.xt h rfl ?_|refine ae.xb (fun _ h=>h) rfl ?_|refine ae.xt (fun _ h=>h) rfl ?_|refine ⟨h.hb,?_⟩|refine ak.xw h rfl rfl fun w h=> ?_|(refine ak.xs h rfl rfl fun w h=> ?_;dsimp only [ao,af] at h)|(refine St.xs h rfl rfl fun w h=> ?_;dsimp only [ao,af] at h)|refine aa.yes ?_|refine aa.no ?_|refine ⟨by first|omega|decide,?_⟩)
   exact fin _ (by omega) h.tl
 ·refine aa.ef (by omega) (Ld.xb h rfl ⟨by decide,aa.df hle ?_⟩)
  (with_reducible repeat first|refine Nw.mk h fun b w h=> ?_|refine au.mk h fun w h=> ?_|refine Ld.xb h rfl ?_|refine Ld.xt h rfl ?_|refine ae.xb (fun _ h=>h) rfl ?_|refine ae.xt (fun _ h=>h) rfl ?_|refine ⟨h.hb,?_⟩|refine ak.xw h rfl rfl fun w h=> ?_|(refine ak.xs h rfl rfl fun w h=> ?_;dsimp only [ao,af] at h)|(refine St.xs h rfl rfl fun w h=> ?_;dsimp only [ao,af] at h)|refine aa.yes ?_|refine aa.no ?_|refine ⟨by first|omega|decide,?_⟩)
  exact fin _ (by omega) h.tl
theorem DG {n:Nat} {K:Sl→Int→World→Prop} (h:Hp E w F) (hn:n≤65536) (hK: ∀s w',Hp E w' (OB s (fp n)::F)→K s 0 w'):Cl Tryz.prog [kS,kI] lZ ⟨[.int .i64 (n:Int)]⟩ w K:=by
 refine Hl.ok _ _ _ ?_
 refine aa.df (by omega) (aa.df (by omega) ⟨by decide,?_⟩)
 have e128: ∀m:Nat,Int.tmod (m:Int) 128=((m % 128:Nat):Int):=fun _=>rfl
 have d128: ∀m:Nat,Int.tdiv (m:Int) 128=((m/128:Nat):Int):=fun _=>rfl
 rw [e128,d128,dH (by omega),ad (by omega)]
 refine Nw.mk h fun b3 w h=>⟨by decide,?_⟩
 have h:=Hp.dh (n:=1) (sz:=1) h rfl
 refine ⟨fun x s w'=> ∃(m:Nat) (l:List Nat),x=(m:Int)∧m≤512∧l.length+m≤513∧rT m++l=fp n∧Hp E w' (OB s l::F),fun x _ _=>x.toNat,⟨n/128,[n % 128],rfl,by omega,by simp;omega,rfl,h⟩,?_⟩
 rintro x s w ⟨m,l,rfl,hm5,hl,hv,h⟩
 refine aa.dm (fun hlt=> ?_) (fun hge=> ?_)
 ·have hm0:0<m:=by omega
  rw [e128,d128,ad (x:=128+((m % 128:Nat):Int)) (by omega),dH (by omega),ad (by omega),show 128+((m % 128:Nat):Int)=((128+m % 128:Nat):Int) by omega]
  refine ⟨by decide,Nw.mk h fun b12 w h=>JH h (by omega) fun s w h=>⟨by decide,?_⟩⟩
  refine ⟨⟨m/128,(128+m % 128)::l,rfl,by omega,by rw [List.length_cons];omega,?_,h⟩,by first|omega|(dsimp only;omega)⟩
  rw [←hv,qb hm0]
  simp
 ·have hm0:m=0:=by omega
  subst hm0
  rw [lN,List.nil_append] at hv
  rw [hv] at h
  exact hK s w h
theorem Bc {v c most:Nat} {K:T2→Bool→Bool→World→Prop} (h:Hp E w F) (hv:v≤most) (hm:most≤65536) (hc:c<256)
  (hbad:grow most v c=none→∀o d w',Hp E w' F→K o d false w')
  (hK: ∀n d,grow most v c=some (n,d)→∀k w',(d=false→k=(vm n:Int))→Hp E w' F→K ((n:Int),k,()) d true w'):
  Cl Tryz.prog [.st [.int .i64,.int .i64],kB,kB] jL ⟨[.agg ⟨[.int .i64 (v:Int),.int .i64 (vm v:Int)]⟩,.int .u8 (c:Int),.int .i64 (most:Int)]⟩ w K:=by
 refine CR.ok ((v:Int),(vm v:Int),()) _ _ _ _ ?_
 (try simp only [aD,aw,ar,Nat.zero_add,Nat.add_zero,Nat.reduceAdd,Bool.not_true,Bool.not_false,aZ,aX,Option.isNone])
 (with_reducible repeat first|refine Nw.mk h fun b w h=> ?_|refine au.mk h fun w h=> ?_|refine Ld.xb h rfl ?_|refine Ld.xt h rfl ?_|refine ae.xb (fun _ h=>h) rfl ?_|refine ae.xt (fun _ h=>h) rfl ?_|refine ⟨h.hb,?_⟩|refine ak.xw h rfl rfl fun w h=> ?_|(refine ak.xs h rfl rfl fun w h=> ?_;dsimp only [ao,af] at h)|(refine St.xs h rfl rfl fun w h=> ?_;dsimp only [ao,af] at h)|refine aa.yes ?_|refine aa.no ?_|refine ⟨by first|omega|decide,?_⟩)
 refine H2 h (by omega) hc (fun hb w h=> ?_) (fun hb w h=> ?_)
 ·(with_reducible repeat first|refine Nw.mk h fun b w h=> ?_|refine au.mk h fun w h=> ?_|refine Ld.xb h rfl ?_|refine Ld.xt h rfl ?_|refine ae.xb (fun _ h=>h) rfl ?_|refine ae.xt (fun _ h=>h) rfl ?_|refine ⟨h.hb,?_⟩|refine ak.xw h rfl rfl fun w h=> ?_|(refine ak.xs h rfl rfl fun w h=> ?_;dsimp only [ao,af] at h)|(refine St.xs h rfl rfl fun w h=> ?_;dsimp only [ao,af] at h)|refine aa.yes ?_|refine aa.no ?_|refine ⟨by first|omega|decide,?_⟩)
  exact hbad (by unfold grow;rw [if_pos hb]) _ _ _ h.tl
 ·(with_reducible repeat first|refine Nw.mk h fun b w h=> ?_|refine au.mk h fun w h=> ?_|refine Ld.xb h rfl ?_|refine Ld.xt h rfl ?_|refine ae.xb (fun _ h=>h) rfl ?_|refine ae.xt (fun _ h=>h) rfl ?_|refine ⟨h.hb,?_⟩|refine ak.xw h rfl rfl fun w h=> ?_|(refine ak.xs h rfl rfl fun w h=> ?_;dsimp only [ao,af] at h)|(refine St.xs h rfl rfl fun w h=> ?_;dsimp only [ao,af] at h)|refine aa.yes ?_|refine aa.no ?_|refine ⟨by first|omega|decide,?_⟩)
  by_cases hc1:c<128
  ·rw [decide_eq_true hc1]
   by_cases hle:128*v+c % 128≤most
   ·(with_reducible repeat first|refine Nw.mk h fun b w h=> ?_|refine au.mk h fun w h=> ?_|refine Ld.xb h rfl ?_|refine Ld.xt h rfl ?_|refine ae.xb (fun _ h=>h) rfl ?_|refine ae.xt (fun _ h=>h) rfl ?_|refine ⟨h.hb,?_⟩|refine ak.xw h rfl rfl fun w h=> ?_|(refine ak.xs h rfl rfl fun w h=> ?_;dsimp only [ao,af] at h)|(refine St.xs h rfl rfl fun w h=> ?_;dsimp only [ao,af] at h)|refine aa.yes ?_|refine aa.no ?_|refine ⟨by first|omega|decide,?_⟩)
    by_cases h0:0<128*v+c % 128
    ·(with_reducible repeat first|refine Nw.mk h fun b w h=> ?_|refine au.mk h fun w h=> ?_|refine Ld.xb h rfl ?_|refine Ld.xt h rfl ?_|refine ae.xb (fun _ h=>h) rfl ?_|refine ae.xt (fun _ h=>h) rfl ?_|refine ⟨h.hb,?_⟩|refine ak.xw h rfl rfl fun w h=> ?_|(refine ak.xs h rfl rfl fun w h=> ?_;dsimp only [ao,af] at h)|(refine St.xs h rfl rfl fun w h=> ?_;dsimp only [ao,af] at h)|refine aa.yes ?_|refine aa.no ?_|refine ⟨by first|omega|decide,?_⟩)
     refine hK _ true ?_ _ _ (fun hh=>by cases hh) h.tl
     unfold grow
     rw [if_neg hb,if_pos ⟨hle,fun _=>h0⟩,decide_eq_true hc1]
    ·(with_reducible repeat first|refine Nw.mk h fun b w h=> ?_|refine au.mk h fun w h=> ?_|refine Ld.xb h rfl ?_|refine Ld.xt h rfl ?_|refine ae.xb (fun _ h=>h) rfl ?_|refine ae.xt (fun _ h=>h) rfl ?_|refine ⟨h.hb,?_⟩|refine ak.xw h rfl rfl fun w h=> ?_|(refine ak.xs h rfl rfl fun w h=> ?_;dsimp only [ao,af] at h)|(refine St.xs h rfl rfl fun w h=> ?_;dsimp only [ao,af] at h)|refine aa.yes ?_|refine aa.no ?_|refine ⟨by first|omega|decide,?_⟩)
     refine hbad ?_ _ _ _ h.tl
     unfold grow
     rw [if_neg hb,if_neg (fun hh=>h0 (hh.2 hc1))]
   ·(with_reducible repeat first|refine Nw.mk h fun b w h=> ?_|refine au.mk h fun w h=> ?_|refine Ld.xb h rfl ?_|refine Ld.xt h rfl ?_|refine ae.xb (fun _ h=>h) rfl ?_|refine ae.xt (fun _ h=>h) rfl ?_|refine ⟨h.hb,?_⟩|refine ak.xw h rfl rfl fun w h=> ?_|(refine ak.xs h rfl rfl fun w h=> ?_;dsimp only [ao,af] at h)|(refine St.xs h rfl rfl fun w h=> ?_;dsimp only [ao,af] at h)|refine aa.yes ?_|refine aa.no ?_|refine ⟨by first|omega|decide,?_⟩)
    refine hbad ?_ _ _ _ h.tl
    unfold grow
    rw [if_neg hb,if_neg (fun hh=>hle hh.1)]
  ·rw [decide_eq_false hc1]
   by_cases hle:128*v+c % 128≤most
   ·(with_reducible repeat first|refine Nw.mk h fun b w h=> ?_|refine au.mk h fun w h=> ?_|refine Ld.xb h rfl ?_|refine Ld.xt h rfl ?_|refine ae.xb (fun _ h=>h) rfl ?_|refine ae.xt (fun _ h=>h) rfl ?_|refine ⟨h.hb,?_⟩|refine ak.xw h rfl rfl fun w h=> ?_|(refine ak.xs h rfl rfl fun w h=> ?_;dsimp only [ao,af] at h)|(refine St.xs h rfl rfl fun w h=> ?_;dsimp only [ao,af] at h)|refine aa.yes ?_|refine aa.no ?_|refine ⟨by first|omega|decide,?_⟩)
    refine hK _ false ?_ _ _ (fun _=>by rw [Dy (by omega) (by omega) hc hb]) h.tl
    unfold grow
    rw [if_neg hb,if_pos ⟨hle,fun hh=>absurd hh hc1⟩,decide_eq_false hc1]
   ·(with_reducible repeat first|refine Nw.mk h fun b w h=> ?_|refine au.mk h fun w h=> ?_|refine Ld.xb h rfl ?_|refine Ld.xt h rfl ?_|refine ae.xb (fun _ h=>h) rfl ?_|refine ae.xt (fun _ h=>h) rfl ?_|refine ⟨h.hb,?_⟩|refine ak.xw h rfl rfl fun w h=> ?_|(refine ak.xs h rfl rfl fun w h=> ?_;dsimp only [ao,af] at h)|(refine St.xs h rfl rfl fun w h=> ?_;dsimp only [ao,af] at h)|refine aa.yes ?_|refine aa.no ?_|refine ⟨by first|omega|decide,?_⟩)
    refine hbad ?_ _ _ _ h.tl
    unfold grow
    rw [if_neg hb,if_neg (fun hh=>hle hh.1)]
theorem AZ {n:Nat} {m:MS} {c:Nat} {K:ej→Bool→World→Prop} (h:Hp E w F) (hn2:n≤65536) (hm:j0 n m) (hc:c<256) (hK:Ei n m c E F K):
  Cl Tryz.prog [.st [.int .i64,.int .i64,.int .i64,.int .i64,.int .i64,.int .u32,.int .i64],kB] eQ ⟨[.int .i64 (n:Int),.agg ⟨[.int .i64 (m.at_:Int),.int .i64 (m.v:Int),.int .i64 (vm m.v:Int),.int .i64 (m.M:Int),.int .i64 (m.P:Int),.int .u32 (m.sum:Int),.int .i64 (m.many:Int)]⟩,.int .u8 (c:Int)]⟩ w K:=by
 obtain ⟨k1,k2,k3,k4⟩:=hK
 obtain ⟨at_,v,M,P,sum,many⟩:=m
 have hm0:=hm
 unfold j0 at hm0
 dsimp only at hm0⊢
 refine Cy.ok _ ((at_:Int),(v:Int),(vm v:Int),(M:Int),(P:Int),(sum:Int),(many:Int),()) _ _ _ ?_
 (try simp only [aD,aw,ar,Nat.zero_add,Nat.add_zero,Nat.reduceAdd,Bool.not_true,Bool.not_false,aZ,aX,Option.isNone])
 refine Nw.mk h fun b5 w h=>Nw.mk h fun b7 w h=>Ld.xb (b:=b5) h rfl ?_
 rcases hm0 with ⟨h1,h2⟩|⟨h1,h2,h3,h4,h5,h6⟩|⟨h1,h2,h3,h4,h5,h6,h7⟩|⟨h1,h2,h3,h4,h5,h6,h7,h8⟩|⟨h1,h2,h3,h4,h5,h6⟩
 ·cases h2
  rw [show vm 0=0 from rfl] at h
  refine aa.et rfl ?_
  by_cases h0:c=0
  ·subst h0
   (with_reducible repeat first|refine Nw.mk h fun b w h=> ?_|refine au.mk h fun w h=> ?_|refine Ld.xb h rfl ?_|refine Ld.xt h rfl ?_|refine ae.xb (fun _ h=>h) rfl ?_|refine ae.xt (fun _ h=>h) rfl ?_|refine ⟨h.hb,?_⟩|refine ak.xw h rfl rfl fun w h=> ?_|(refine ak.xs h rfl rfl fun w h=> ?_;dsimp only [ao,af] at h)|(refine St.xs h rfl rfl fun w h=> ?_;dsimp only [ao,af] at h)|refine aa.yes ?_|refine aa.no ?_|refine ⟨by first|omega|decide,?_⟩)
   exact k1 ⟨5,0,0,0,0,0⟩ _ rfl (by dsimp only;decide) (by dsimp only;decide) h.tl
  ·(with_reducible repeat first|refine Nw.mk h fun b w h=> ?_|refine au.mk h fun w h=> ?_|refine Ld.xb h rfl ?_|refine Ld.xt h rfl ?_|refine ae.xb (fun _ h=>h) rfl ?_|refine ae.xt (fun _ h=>h) rfl ?_|refine ⟨h.hb,?_⟩|refine ak.xw h rfl rfl fun w h=> ?_|(refine ak.xs h rfl rfl fun w h=> ?_;dsimp only [ao,af] at h)|(refine St.xs h rfl rfl fun w h=> ?_;dsimp only [ao,af] at h)|refine aa.yes ?_|refine aa.no ?_|refine ⟨by first|omega|decide,?_⟩)
   by_cases h1:c=1
   ·subst h1
    exact k1 ⟨1,0,0,0,0,0⟩ _ rfl (by dsimp only;decide) (by dsimp only;decide) h.tl
   ·refine iX (beq_eq_false_iff_ne.2 (by omega)) (k4 242 _ _ ?_ rfl h.tl)
    unfold aL
    simp [h0,h1]
 ·subst h1 h3 h4 h5 h6
  refine aa.ef (by decide) (aa.et rfl (Ld.xt h rfl ?_))
  refine Bc h h2 hn2 hc (fun hg o d w h=> ?_) (fun m d hg k w hk h=> ?_)
  ·cases d
   ·(with_reducible repeat first|refine Nw.mk h fun b w h=> ?_|refine au.mk h fun w h=> ?_|refine Ld.xb h rfl ?_|refine Ld.xt h rfl ?_|refine ae.xb (fun _ h=>h) rfl ?_|refine ae.xt (fun _ h=>h) rfl ?_|refine ⟨h.hb,?_⟩|refine ak.xw h rfl rfl fun w h=> ?_|(refine ak.xs h rfl rfl fun w h=> ?_;dsimp only [ao,af] at h)|(refine St.xs h rfl rfl fun w h=> ?_;dsimp only [ao,af] at h)|refine aa.yes ?_|refine aa.no ?_|refine ⟨by first|omega|decide,?_⟩)
    exact k4 242 _ _ (by unfold aL;simp [hg]) rfl h.tl
   ·(with_reducible repeat first|refine Nw.mk h fun b w h=> ?_|refine au.mk h fun w h=> ?_|refine Ld.xb h rfl ?_|refine Ld.xt h rfl ?_|refine ae.xb (fun _ h=>h) rfl ?_|refine ae.xt (fun _ h=>h) rfl ?_|refine ⟨h.hb,?_⟩|refine ak.xw h rfl rfl fun w h=> ?_|(refine ak.xs h rfl rfl fun w h=> ?_;dsimp only [ao,af] at h)|(refine St.xs h rfl rfl fun w h=> ?_;dsimp only [ao,af] at h)|refine aa.yes ?_|refine aa.no ?_|refine ⟨by first|omega|decide,?_⟩)
    exact k4 242 _ _ (by unfold aL;simp [hg]) rfl h.tl
  ·cases d
   ·have:=hk rfl
    subst this
    (with_reducible repeat first|refine Nw.mk h fun b w h=> ?_|refine au.mk h fun w h=> ?_|refine Ld.xb h rfl ?_|refine Ld.xt h rfl ?_|refine ae.xb (fun _ h=>h) rfl ?_|refine ae.xt (fun _ h=>h) rfl ?_|refine ⟨h.hb,?_⟩|refine ak.xw h rfl rfl fun w h=> ?_|(refine ak.xs h rfl rfl fun w h=> ?_;dsimp only [ao,af] at h)|(refine St.xs h rfl rfl fun w h=> ?_;dsimp only [ao,af] at h)|refine aa.yes ?_|refine aa.no ?_|refine ⟨by first|omega|decide,?_⟩)
    exact k1 ⟨1,m,0,0,0,0⟩ _ (by unfold aL;simp [hg]) (by dsimp only;decide) (by dsimp only;decide) h.tl
   ·(with_reducible repeat first|refine Nw.mk h fun b w h=> ?_|refine au.mk h fun w h=> ?_|refine Ld.xb h rfl ?_|refine Ld.xt h rfl ?_|refine ae.xb (fun _ h=>h) rfl ?_|refine ae.xt (fun _ h=>h) rfl ?_|refine ⟨h.hb,?_⟩|refine ak.xw h rfl rfl fun w h=> ?_|(refine ak.xs h rfl rfl fun w h=> ?_;dsimp only [ao,af] at h)|(refine St.xs h rfl rfl fun w h=> ?_;dsimp only [ao,af] at h)|refine aa.yes ?_|refine aa.no ?_|refine ⟨by first|omega|decide,?_⟩)
    exact k1 ⟨2,0,m,0,0,0⟩ _ (by unfold aL;simp [hg]) (by dsimp only;decide) (by dsimp only;decide) h.tl
 ·subst h1 h5 h6 h7
  refine aa.ef (by decide) (aa.ef (by decide) (aa.et rfl (Ld.xt h rfl (Ld.xb (b:=b5) h rfl ?_))))
  refine Bc (most:=M) h h4 (by omega) hc (fun hg o d w h=> ?_) (fun m d hg k w hk h=> ?_)
  ·cases d
   ·(with_reducible repeat first|refine Nw.mk h fun b w h=> ?_|refine au.mk h fun w h=> ?_|refine Ld.xb h rfl ?_|refine Ld.xt h rfl ?_|refine ae.xb (fun _ h=>h) rfl ?_|refine ae.xt (fun _ h=>h) rfl ?_|refine ⟨h.hb,?_⟩|refine ak.xw h rfl rfl fun w h=> ?_|(refine ak.xs h rfl rfl fun w h=> ?_;dsimp only [ao,af] at h)|(refine St.xs h rfl rfl fun w h=> ?_;dsimp only [ao,af] at h)|refine aa.yes ?_|refine aa.no ?_|refine ⟨by first|omega|decide,?_⟩)
    exact k4 242 _ _ (by unfold aL;simp [hg]) rfl h.tl
   ·(with_reducible repeat first|refine Nw.mk h fun b w h=> ?_|refine au.mk h fun w h=> ?_|refine Ld.xb h rfl ?_|refine Ld.xt h rfl ?_|refine ae.xb (fun _ h=>h) rfl ?_|refine ae.xt (fun _ h=>h) rfl ?_|refine ⟨h.hb,?_⟩|refine ak.xw h rfl rfl fun w h=> ?_|(refine ak.xs h rfl rfl fun w h=> ?_;dsimp only [ao,af] at h)|(refine St.xs h rfl rfl fun w h=> ?_;dsimp only [ao,af] at h)|refine aa.yes ?_|refine aa.no ?_|refine ⟨by first|omega|decide,?_⟩)
    exact k4 242 _ _ (by unfold aL;simp [hg]) rfl h.tl
  ·cases d
   ·have:=hk rfl
    subst this
    (with_reducible repeat first|refine Nw.mk h fun b w h=> ?_|refine au.mk h fun w h=> ?_|refine Ld.xb h rfl ?_|refine Ld.xt h rfl ?_|refine ae.xb (fun _ h=>h) rfl ?_|refine ae.xt (fun _ h=>h) rfl ?_|refine ⟨h.hb,?_⟩|refine ak.xw h rfl rfl fun w h=> ?_|(refine ak.xs h rfl rfl fun w h=> ?_;dsimp only [ao,af] at h)|(refine St.xs h rfl rfl fun w h=> ?_;dsimp only [ao,af] at h)|refine aa.yes ?_|refine aa.no ?_|refine ⟨by first|omega|decide,?_⟩)
    exact k1 ⟨2,m,M,0,0,0⟩ _ (by unfold aL;simp [hg]) (by dsimp only;decide) (by dsimp only;decide) h.tl
   ·(with_reducible repeat first|refine Nw.mk h fun b w h=> ?_|refine au.mk h fun w h=> ?_|refine Ld.xb h rfl ?_|refine Ld.xt h rfl ?_|refine ae.xb (fun _ h=>h) rfl ?_|refine ae.xt (fun _ h=>h) rfl ?_|refine ⟨h.hb,?_⟩|refine ak.xw h rfl rfl fun w h=> ?_|(refine ak.xs h rfl rfl fun w h=> ?_;dsimp only [ao,af] at h)|(refine St.xs h rfl rfl fun w h=> ?_;dsimp only [ao,af] at h)|refine aa.yes ?_|refine aa.no ?_|refine ⟨by first|omega|decide,?_⟩)
    exact k1 ⟨3,0,M,m,0,0⟩ _ (by unfold aL;simp [hg]) (by dsimp only;decide) (by dsimp only;decide) h.tl
 all_goals
  obtain ⟨ha,h7,hmy,hs⟩:(at_=3∨(at_=5∧M=0∧P=0))∧v=0∧many≤3∧sum<256^many:=by
   first
    |exact ⟨.inl h1,h6,h7,h8⟩
    |exact ⟨.inr ⟨h1,h2,h3⟩,h4,h5,h6⟩
  clear h1 h2 h3 h4 h5 h6
  subst h7
  have hs2:sum<16777216:=by
   have:256^many≤256^3:=Nat.pow_le_pow_right (by decide) hmy
   omega
  refine aa.ef (by omega) (aa.ef (by omega) (aa.ef (by omega) ?_))
  rw [show vm 0=0 from rfl] at h
  (with_reducible repeat first|refine Nw.mk h fun b w h=> ?_|refine au.mk h fun w h=> ?_|refine Ld.xb h rfl ?_|refine Ld.xt h rfl ?_|refine ae.xb (fun _ h=>h) rfl ?_|refine ae.xt (fun _ h=>h) rfl ?_|refine ⟨h.hb,?_⟩|refine ak.xw h rfl rfl fun w h=> ?_|(refine ak.xs h rfl rfl fun w h=> ?_;dsimp only [ao,af] at h)|(refine St.xs h rfl rfl fun w h=> ?_;dsimp only [ao,af] at h)|refine aa.yes ?_|refine aa.no ?_|refine ⟨by first|omega|decide,?_⟩)
  rw [cW (x:=256*(sum:Int)) (by omega),cW (x:=(c:Int)) (by omega),cW (by omega),ad (x:=(many:Int)+1) (by omega),show 256*(sum:Int)+(c:Int)=((256*sum+c:Nat):Int) by omega] at h
  try rw [ad (x:=(many:Int)+1) (by omega)]
  by_cases hm3:many=3
  ·subst hm3
   (with_reducible repeat first|refine Nw.mk h fun b w h=> ?_|refine au.mk h fun w h=> ?_|refine Ld.xb h rfl ?_|refine Ld.xt h rfl ?_|refine ae.xb (fun _ h=>h) rfl ?_|refine ae.xt (fun _ h=>h) rfl ?_|refine ⟨h.hb,?_⟩|refine ak.xw h rfl rfl fun w h=> ?_|(refine ak.xs h rfl rfl fun w h=> ?_;dsimp only [ao,af] at h)|(refine St.xs h rfl rfl fun w h=> ?_;dsimp only [ao,af] at h)|refine aa.yes ?_|refine aa.no ?_|refine ⟨by first|omega|decide,?_⟩)
   rw [ad (by omega)] at h
   rcases ha with rfl|⟨rfl,rfl,rfl⟩
   ·exact k2 M P (256*sum+c) _ (by unfold aL;simp) h.tl
   ·exact k3 (256*sum+c) _ (by unfold aL;simp) h.tl
  ·(with_reducible repeat first|refine Nw.mk h fun b w h=> ?_|refine au.mk h fun w h=> ?_|refine Ld.xb h rfl ?_|refine Ld.xt h rfl ?_|refine ae.xb (fun _ h=>h) rfl ?_|refine ae.xt (fun _ h=>h) rfl ?_|refine ⟨h.hb,?_⟩|refine ak.xw h rfl rfl fun w h=> ?_|(refine ak.xs h rfl rfl fun w h=> ?_;dsimp only [ao,af] at h)|(refine St.xs h rfl rfl fun w h=> ?_;dsimp only [ao,af] at h)|refine aa.yes ?_|refine aa.no ?_|refine ⟨by first|omega|decide,?_⟩)
   refine k1 ⟨at_,0,M,P,256*sum+c,many+1⟩ _ ?_ ?_ ?_ h.tl
   ·unfold aL
    rcases ha with rfl|⟨rfl,rfl,rfl⟩<;>simp [hm3]
   ·dsimp only;omega
   ·dsimp only;omega
theorem FN {n:Int} {M P u:Nat} {K:Sl→Int→World→Prop} (h:Hp E w F) (hM:M≤65536) (hP:P≤65536) (hu:u<4294967296)
  (hgood:1≤n→n≤65536→1≤M→(M:Int)≤n→1≤P→P≤M→∀s w',Hp E w' (OB s (fR M P u)::F)→K s 0 w')
  (hbad: ¬(1≤n∧n≤65536∧1≤M∧(M:Int)≤n∧1≤P∧P≤M)→∀w',Hp E w' F→K ⟨none,0,0⟩ 2 w'):
  Cl Tryz.prog [kS,kI] jX ⟨[.int .i64 n,.agg ⟨[.int .i64 (M:Int),.int .i64 (P:Int),.int .u32 (u:Int)]⟩]⟩ w K:=by
 refine xB.ok _ ((M:Int),(P:Int),(u:Int),()) _ _ ?_
 (try simp only [aD,aw,ar,Nat.zero_add,Nat.add_zero,Nat.reduceAdd,Bool.not_true,Bool.not_false,aZ,aX,Option.isNone])
 refine Nw.mk h fun b4 w h=> ?_
 refine aa.dm (fun h1=>hbad (by omega) _ h.tl) (fun h1=>aa.dm (fun h2=>hbad (by omega) _ h.tl) (fun h2=>Ld.xb h rfl (aa.dm (fun h3=>hbad (by omega) _ h.tl) (fun h3=>Ld.xb h rfl (aa.dm (fun h4=>hbad (by omega) _ h.tl) (fun h4=>Ld.xb h rfl (aa.dm (fun h5=>hbad (by omega) _ h.tl) (fun h5=>Ld.xb h rfl (Ld.xb h rfl (aa.dm (fun h6=>hbad (by omega) _ h.tl) (fun h6=> ?_)))))))))))
 refine Ld.xb h rfl (DG h hM fun s1 w h=>Ld.xb (b:=b4) h rfl (DG h hP fun s2 w h=>Nw.mk h fun b21 w h=> ?_))
 have l1:=fu hM
 have l2:=fu hP
 refine JH (h.at 2).p1 (by omega) fun s3 w h=>sx h ab.own (by rw [List.length_cons];omega) (by omega) fun s4 w h=>Ld.xb (b:=b4) h rfl (LI h hu fun s5 w h=> ?_)
 refine sx (h.at 1) ab.own (by rw [List.length_append,List.length_cons];omega) (by simp [gn]) fun s6 w h=>hgood (by omega) (by omega) (by omega) (by omega) (by omega) (by omega) s6 w ?_
 have e:1::fp M++fp P++gn u=fR M P u:=by simp [fR]
 rw [e] at h
 exact h.bY
theorem Mo {S:World→Prop} {n:Nat} {st:MS} {c:Nat} {G:Nat→ej→Bool→World→Prop} (h:Hp E w F) (hn2:n≤65536) (hm:j0 n st) (hc:c<256) (hS: ∀w,Hp E w F→S w)
  (hG: ∀b (r:ej) ok w,((∃m',aL n st c= .more m'∧m'.at_≠4∧m'.at_≠6∧r=((m'.at_:Int),(m'.v:Int),(vm m'.v:Int),(m'.M:Int),(m'.P:Int),(m'.sum:Int),(m'.many:Int),())∧ok=true)∨(∃M P u:Nat,aL n st c= .fin (.aF M P u)∧r=(4,0,0,(M:Int),(P:Int),(u:Int),4,())∧ok=true)∨
    (∃u:Nat,aL n st c= .fin (.tail u)∧r=(6,0,0,0,0,(u:Int),4,())∧ok=true)∨(aL n st c= .bad 242∧ok=false))→
   Hp E w (aj b (.cells ⟨[.int .i64 r.1,.int .i64 r.2.1,.int .i64 r.2.2.1,.int .i64 r.2.2.2.1,.int .i64 r.2.2.2.2.1,.int .u32 r.2.2.2.2.2.1,.int .i64 r.2.2.2.2.2.2.1]⟩ 74 (0,0))::F)→G b r ok w):
  (Cl Tryz.prog [.st [.int .i64,.int .i64,.int .i64,.int .i64,.int .i64,.int .u32,.int .i64],kB] eQ ⟨[.int .i64 (n:Int),.agg ⟨[.int .i64 (st.at_:Int),.int .i64 (st.v:Int),.int .i64 (vm st.v:Int),.int .i64 (st.M:Int),.int .i64 (st.P:Int),.int .u32 (st.sum:Int),.int .i64 (st.many:Int)]⟩,.int .u8 (c:Int)]⟩ w fun (r:ej) ok w2=>
   S w2∧Nw 74 ⟨[.int .i64 0,.int .i64 0,.int .i64 0,.int .i64 0,.int .i64 0,.int .u32 0,.int .i64 0]⟩ w2 fun b w3=>S w3∧
    ak (⟨b,0,none⟩:Addr) [.int .i64 r.1,.int .i64 r.2.1,.int .i64 r.2.2.1,.int .i64 r.2.2.2.1,.int .i64 r.2.2.2.2.1,.int .u32 r.2.2.2.2.2.1,.int .i64 r.2.2.2.2.2.2.1] 0 w3 fun w4=>S w4∧G b r ok w4)∧
  (Nw 74 ⟨[.int .i64 0,.int .i64 0,.int .i64 0,.int .i64 0,.int .i64 0,.int .u32 0,.int .i64 0]⟩ w fun b w2=>S w2∧
   Cl Tryz.prog [.st [.int .i64,.int .i64,.int .i64,.int .i64,.int .i64,.int .u32,.int .i64],kB] eQ ⟨[.int .i64 (n:Int),.agg ⟨[.int .i64 (st.at_:Int),.int .i64 (st.v:Int),.int .i64 (vm st.v:Int),.int .i64 (st.M:Int),.int .i64 (st.P:Int),.int .u32 (st.sum:Int),.int .i64 (st.many:Int)]⟩,.int .u8 (c:Int)]⟩ w2 fun (r:ej) ok w3=>S w3∧
    ak (⟨b,0,none⟩:Addr) [.int .i64 r.1,.int .i64 r.2.1,.int .i64 r.2.2.1,.int .i64 r.2.2.2.1,.int .i64 r.2.2.2.2.1,.int .u32 r.2.2.2.2.2.1,.int .i64 r.2.2.2.2.2.2.1] 0 w3 fun w4=>S w4∧G b r ok w4):=by
 have one: ∀(r:ej) (ok:Bool) (w:World),Hp E w F→((∃m',aL n st c= .more m'∧m'.at_≠4∧m'.at_≠6∧r=((m'.at_:Int),(m'.v:Int),(vm m'.v:Int),(m'.M:Int),(m'.P:Int),(m'.sum:Int),(m'.many:Int),())∧ok=true)∨(∃M P u:Nat,aL n st c= .fin (.aF M P u)∧r=(4,0,0,(M:Int),(P:Int),(u:Int),4,())∧ok=true)∨
    (∃u:Nat,aL n st c= .fin (.tail u)∧r=(6,0,0,0,0,(u:Int),4,())∧ok=true)∨(aL n st c= .bad 242∧ok=false))→
   S w∧Nw 74 ⟨[.int .i64 0,.int .i64 0,.int .i64 0,.int .i64 0,.int .i64 0,.int .u32 0,.int .i64 0]⟩ w fun b w3=>S w3∧
    ak (⟨b,0,none⟩:Addr) [.int .i64 r.1,.int .i64 r.2.1,.int .i64 r.2.2.1,.int .i64 r.2.2.2.1,.int .i64 r.2.2.2.2.1,.int .u32 r.2.2.2.2.2.1,.int .i64 r.2.2.2.2.2.2.1] 0 w3 fun w4=>S w4∧G b r ok w4:=by
  intro r ok w h hr
  refine ⟨hS w h,Nw.mk h fun b w h=>⟨hS w h.tl,?_⟩⟩
  with_reducible refine ak.xw h rfl rfl (fun w h=> ?_)
  exact ⟨hS w h.tl,hG b r ok w hr h⟩
 have two: ∀(b:Nat) (r:ej) (ok:Bool) (w:World),Hp E w (aj b (.cells ⟨[.int .i64 0,.int .i64 0,.int .i64 0,.int .i64 0,.int .i64 0,.int .u32 0,.int .i64 0]⟩ 74 (0,0))::F)→((∃m',aL n st c= .more m'∧m'.at_≠4∧m'.at_≠6∧r=((m'.at_:Int),(m'.v:Int),(vm m'.v:Int),(m'.M:Int),(m'.P:Int),(m'.sum:Int),(m'.many:Int),())∧ok=true)∨(∃M P u:Nat,aL n st c= .fin (.aF M P u)∧r=(4,0,0,(M:Int),(P:Int),(u:Int),4,())∧ok=true)∨
    (∃u:Nat,aL n st c= .fin (.tail u)∧r=(6,0,0,0,0,(u:Int),4,())∧ok=true)∨(aL n st c= .bad 242∧ok=false))→
   S w∧ak (⟨b,0,none⟩:Addr) [.int .i64 r.1,.int .i64 r.2.1,.int .i64 r.2.2.1,.int .i64 r.2.2.2.1,.int .i64 r.2.2.2.2.1,.int .u32 r.2.2.2.2.2.1,.int .i64 r.2.2.2.2.2.2.1] 0 w fun w4=>S w4∧G b r ok w4:=by
  intro b r ok w h hr
  refine ⟨hS w h.tl,?_⟩
  with_reducible refine ak.xw h rfl rfl (fun w h=> ?_)
  exact ⟨hS w h.tl,hG b r ok w hr h⟩
 refine ⟨AZ h hn2 hm hc ⟨fun m' w h1 h2 h3 h=>one ((m'.at_:Int),(m'.v:Int),(vm m'.v:Int),(m'.M:Int),(m'.P:Int),(m'.sum:Int),(m'.many:Int),()) true w h (.inl ⟨m',h1,h2,h3,rfl,rfl⟩),fun M P u w h1 h=>one (4,0,0,(M:Int),(P:Int),(u:Int),4,()) true w h (.inr (.inl ⟨M,P,u,h1,rfl,rfl⟩)),fun u w h1 h=>one (6,0,0,0,0,(u:Int),4,()) true w h (.inr (.inr (.inl ⟨u,h1,rfl,rfl⟩))),fun e o w h1 h2 h=>one o false w h (.inr (.inr (.inr ⟨h2▸h1,rfl⟩)))⟩,?_⟩
 exact Nw.mk h fun b w h=>⟨hS w h.tl,AZ h hn2 hm hc ⟨fun m' w h1 h2 h3 h=>two b ((m'.at_:Int),(m'.v:Int),(vm m'.v:Int),(m'.M:Int),(m'.P:Int),(m'.sum:Int),(m'.many:Int),()) true w h (.inl ⟨m',h1,h2,h3,rfl,rfl⟩),fun M P u w h1 h=>two b (4,0,0,(M:Int),(P:Int),(u:Int),4,()) true w h (.inr (.inl ⟨M,P,u,h1,rfl,rfl⟩)),fun u w h1 h=>two b (6,0,0,0,0,(u:Int),4,()) true w h (.inr (.inr (.inl ⟨u,h1,rfl,rfl⟩))),fun e o w h1 h2 h=>two b o false w h (.inr (.inr (.inr ⟨h2▸h1,rfl⟩)))⟩⟩
theorem vz {S:World→Prop} {s:Sl} {bs:List Nat} {k:Nat} {G:Sl→World→Prop} (h:Hp E w F) (hs:ab F (aC 1 s (bs.map vB))) (hbig:bs.length≤10000000000) (hcap:s.len≤s.cap) (hk:k<bs.length) (hS: ∀w,Hp E w F→S w)
  (hG: ∀s' w',Hp E w' (OB s' (bs.drop (k+1))::F)→G s' w'):
  bd s (i64 ((k:Int)+1)) (s.len:Int) (s.cap:Int) 1 fun s2=>Nw 5 ⟨[]⟩ w fun b w2=>S w2∧
   ay Tryz.prog (Builtin.append_ #[22,22] 22 ⟨[.slice (some ⟨b,0,none⟩) 0 0,.slice s2.base s2.len s2.cap]⟩) kS w2 fun (s3:Sl) w3=>S w3∧G s3 w3:=by
 have hlen:bs.length=s.len:=kL (h.ag hs)
 rw [ad (by omega)]
 refine bd.rd (h.ag hs) (by omega) (by omega) (by omega) (by omega) (by omega) fun s' hs' hl'=> ?_
 have e1:(bs.map vB).drop ((k:Int)+1).toNat=(bs.drop (k+1)).map vB:=by rw [show ((k:Int)+1).toNat=k+1 by omega,List.map_drop]
 rw [e1,List.take_of_length_le (by simp;omega)] at hs'
 have hT:ab F (aC 1 s' ((bs.drop (k+1)).map vB)):=hs.imp fun w h=>hs' w h
 refine Nw.mk h fun b w h=>⟨hS w h.tl,?_⟩
 have h:=Hp.dh (n:=0) (sz:=1) h rfl
 have h:Hp E w (OB ⟨some ⟨b,0,none⟩,0,0⟩ []::F):=h
 have l2:(bs.drop (k+1)).length≤1000000000000:=by rw [List.length_drop];omega
 have key:=fun (K':Sl→World→Prop)=>sx (s:=⟨some ⟨b,0,none⟩,0,0⟩) (xs:= []) (ys:=bs.drop (k+1)) (K:=K') h hT (Nat.zero_le _) l2
 exact key _ fun s3 w h=>⟨hS w h.tl,hG s3 w h⟩
theorem C6 {n:Int} {s:Sl} {K:ej→Sl→Int→World→Prop} (h:Hp E w F) (hn: ¬(1≤n∧n≤65536)) (hK: ∀w',Hp E w' F→K Ds ⟨none,0,0⟩ 2 w'):
  Cl Tryz.prog [.st [.int .i64,.int .i64,.int .i64,.int .i64,.int .i64,.int .u32,.int .i64],kS,kI] fV ⟨[.int .i64 n,.slice s.base s.len s.cap]⟩ w K:=by
 refine qn.ok _ _ _ _ ?_
 (try simp only [aD,aw,ar,Nat.zero_add,Nat.add_zero,Nat.reduceAdd,Bool.not_true,Bool.not_false,aZ,aX,Option.isNone])
 refine Nw.mk h fun b w h=>aa.dm (fun h1=> ?_) (fun h1=>aa.dt (by omega) ?_)
 ·(with_reducible repeat first|refine Nw.mk h fun b w h=> ?_|refine au.mk h fun w h=> ?_|refine Ld.xb h rfl ?_|refine Ld.xt h rfl ?_|refine ae.xb (fun _ h=>h) rfl ?_|refine ae.xt (fun _ h=>h) rfl ?_|refine ⟨h.hb,?_⟩|refine ak.xw h rfl rfl fun w h=> ?_|(refine ak.xs h rfl rfl fun w h=> ?_;dsimp only [ao,af] at h)|(refine St.xs h rfl rfl fun w h=> ?_;dsimp only [ao,af] at h)|refine aa.yes ?_|refine aa.no ?_|refine ⟨by first|omega|decide,?_⟩)
  exact hK w h.tl
 ·(with_reducible repeat first|refine Nw.mk h fun b w h=> ?_|refine au.mk h fun w h=> ?_|refine Ld.xb h rfl ?_|refine Ld.xt h rfl ?_|refine ae.xb (fun _ h=>h) rfl ?_|refine ae.xt (fun _ h=>h) rfl ?_|refine ⟨h.hb,?_⟩|refine ak.xw h rfl rfl fun w h=> ?_|(refine ak.xs h rfl rfl fun w h=> ?_;dsimp only [ao,af] at h)|(refine St.xs h rfl rfl fun w h=> ?_;dsimp only [ao,af] at h)|refine aa.yes ?_|refine aa.no ?_|refine ⟨by first|omega|decide,?_⟩)
  exact hK w h.tl
theorem IM {n:Nat} {s:Sl} {bs:List Nat} {K:ej→Sl→Int→World→Prop} (h:Hp E w F) (hn:1≤n) (hn2:n≤65536) (hs:ab F (aC 1 s (bs.map vB))) (hb: ∀y∈bs,y<256) (hbig:bs.length≤10000000000) (hcap:s.len≤s.cap)
  (hshort: ∀s' w',run (aL n) iB bs= .short s'→Hp E w' F→K Ds ⟨none,0,0⟩ 50 w')
  (hbad: ∀w',run (aL n) iB bs= .bad 242→Hp E w' F→K Ds ⟨none,0,0⟩ 242 w')
  (hblk: ∀M P u r s' w',run (aL n) iB bs= .fin (.aF M P u) r→Hp E w' (OB s' r::F)→K (4,0,0,(M:Int),(P:Int),(u:Int),4,()) s' 0 w')
  (htail: ∀u r s' w',run (aL n) iB bs= .fin (.tail u) r→Hp E w' (OB s' r::F)→K (6,0,0,0,0,(u:Int),4,()) s' 0 w'):
  Cl Tryz.prog [.st [.int .i64,.int .i64,.int .i64,.int .i64,.int .i64,.int .u32,.int .i64],kS,kI] fV ⟨[.int .i64 (n:Int),.slice s.base s.len s.cap]⟩ w K:=by
 refine qn.ok _ _ _ _ ?_
 (try simp only [aD,aw,ar,Nat.zero_add,Nat.add_zero,Nat.reduceAdd,Bool.not_true,Bool.not_false,aZ,aX,Option.isNone])
 have hlen:bs.length=s.len:=kL (h.ag hs)
 refine Nw.mk h fun b4 w h=>aa.df (by omega) (aa.df (by omega) (Nw.mk h fun b12 w h=> ?_))
 refine ⟨fun i w'=> ∃(k:Nat) (st:MS),i=(k:Int)∧k≤bs.length∧j0 n st∧run (aL n) iB (bs.take k)= .short st∧
  Hp E w' (aj b12 (.cells ⟨[.int .i64 (st.at_:Int),.int .i64 (st.v:Int),.int .i64 (vm st.v:Int),.int .i64 (st.M:Int),.int .i64 (st.P:Int),.int .u32 (st.sum:Int),.int .i64 (st.many:Int)]⟩ 74 (0,0))::aj b4 (.cells ⟨[.int .i64 0,.int .i64 0,.int .i64 0,.int .i64 0,.int .i64 0,.int .u32 0,.int .i64 0]⟩ 74 (0,0))::F),
  fun i _=>bs.length - i.toNat,⟨0,iB,rfl,by omega,.inl ⟨rfl,rfl⟩,rfl,h⟩,?_⟩
 rintro i w ⟨k,st,rfl,hk,hst,hrun,h⟩
 refine aa.dm (fun hlt=> ?_) (fun hge=> ?_)
 ·have hlt:k<bs.length:=by omega
  have hby:bs[k]<256:=hb _ (List.getElem_mem _)
  have h:=h.drew (n:=w.drawn+1)
  refine ⟨fun w=>bQ b12 ⟨[.int .i64 (st.at_:Int),.int .i64 (st.v:Int),.int .i64 (vm st.v:Int),.int .i64 (st.M:Int),.int .i64 (st.P:Int),.int .u32 (st.sum:Int),.int .i64 (st.many:Int)]⟩ 74 (0,0) w∧aC 1 s (bs.map vB) w,⟨h.hb,h.tl.ag hs⟩,ae.xt (fun _ h=>h.1) rfl (aq.Hv (h.tl.ag hs) (fun _ h=>h.2) rfl (by simpa using hlt) (bs[k]:Int) (by simp [Sc.enc,vB,hlt]) ?_)⟩
  refine Mo h hn2 hst hby (fun w h=>⟨h.hb,(h.tl:Hp E _ F).ag hs⟩) fun b r ok w hr h=> ?_
  rcases hr with ⟨m',he,h4,h6,rfl,rfl⟩|⟨M,P,u,he,rfl,rfl⟩|⟨u,he,rfl,rfl⟩|⟨he,rfl⟩
  ·dsimp only at h⊢
   (with_reducible repeat first|refine Nw.mk h fun b w h=> ?_|refine au.mk h fun w h=> ?_|refine Ld.xb h rfl ?_|refine Ld.xt h rfl ?_|refine ae.xb (fun _ h=>h) rfl ?_|refine ae.xt (fun _ h=>h) rfl ?_|refine ⟨h.hb,?_⟩|refine ak.xw h rfl rfl fun w h=> ?_|(refine ak.xs h rfl rfl fun w h=> ?_;dsimp only [ao,af] at h)|(refine St.xs h rfl rfl fun w h=> ?_;dsimp only [ao,af] at h)|refine aa.yes ?_|refine aa.no ?_|refine ⟨by first|omega|decide,?_⟩)
   rw [ad (by omega)]
   refine ⟨⟨k+1,m',rfl,by omega,uV hst hby he,?_,h.no 0⟩,by first|omega|(dsimp only;omega)⟩
   rw [List.take_add_one,List.getElem?_eq_getElem hlt]
   show run (aL n) iB (bs.take k++ [bs[k]])=_
   rw [cU hrun,bK he];rfl
  ·(with_reducible repeat first|refine Nw.mk h fun b w h=> ?_|refine au.mk h fun w h=> ?_|refine Ld.xb h rfl ?_|refine Ld.xt h rfl ?_|refine ae.xb (fun _ h=>h) rfl ?_|refine ae.xt (fun _ h=>h) rfl ?_|refine ⟨h.hb,?_⟩|refine ak.xw h rfl rfl fun w h=> ?_|(refine ak.xs h rfl rfl fun w h=> ?_;dsimp only [ao,af] at h)|(refine St.xs h rfl rfl fun w h=> ?_;dsimp only [ao,af] at h)|refine aa.yes ?_|refine aa.no ?_|refine ⟨by first|omega|decide,?_⟩)
   have h:=h.drew (n:=w.drawn+1)
   refine ⟨bQ b12 _ _ _,h.hb,ae.xt (fun _ h=>h) rfl (vz h (ab.cons (ab.cons (ab.cons hs))) hbig hcap hlt (fun w h=>h.hb) fun s' w h=> ?_)⟩
   (with_reducible repeat first|refine Nw.mk h fun b w h=> ?_|refine au.mk h fun w h=> ?_|refine Ld.xb h rfl ?_|refine Ld.xt h rfl ?_|refine ae.xb (fun _ h=>h) rfl ?_|refine ae.xt (fun _ h=>h) rfl ?_|refine ⟨h.hb,?_⟩|refine ak.xw h rfl rfl fun w h=> ?_|(refine ak.xs h rfl rfl fun w h=> ?_;dsimp only [ao,af] at h)|(refine St.xs h rfl rfl fun w h=> ?_;dsimp only [ao,af] at h)|refine aa.yes ?_|refine aa.no ?_|refine ⟨by first|omega|decide,?_⟩)
   refine hblk M P u (bs.drop (k+1)) s' w ?_ h.bY
   rw [lG hrun,List.drop_eq_getElem_cons hlt,iK he]
  ·(with_reducible repeat first|refine Nw.mk h fun b w h=> ?_|refine au.mk h fun w h=> ?_|refine Ld.xb h rfl ?_|refine Ld.xt h rfl ?_|refine ae.xb (fun _ h=>h) rfl ?_|refine ae.xt (fun _ h=>h) rfl ?_|refine ⟨h.hb,?_⟩|refine ak.xw h rfl rfl fun w h=> ?_|(refine ak.xs h rfl rfl fun w h=> ?_;dsimp only [ao,af] at h)|(refine St.xs h rfl rfl fun w h=> ?_;dsimp only [ao,af] at h)|refine aa.yes ?_|refine aa.no ?_|refine ⟨by first|omega|decide,?_⟩)
   have h:=h.drew (n:=w.drawn+1)
   refine ⟨bQ b12 _ _ _,h.hb,ae.xt (fun _ h=>h) rfl (vz h (ab.cons (ab.cons (ab.cons hs))) hbig hcap hlt (fun w h=>h.hb) fun s' w h=> ?_)⟩
   (with_reducible repeat first|refine Nw.mk h fun b w h=> ?_|refine au.mk h fun w h=> ?_|refine Ld.xb h rfl ?_|refine Ld.xt h rfl ?_|refine ae.xb (fun _ h=>h) rfl ?_|refine ae.xt (fun _ h=>h) rfl ?_|refine ⟨h.hb,?_⟩|refine ak.xw h rfl rfl fun w h=> ?_|(refine ak.xs h rfl rfl fun w h=> ?_;dsimp only [ao,af] at h)|(refine St.xs h rfl rfl fun w h=> ?_;dsimp only [ao,af] at h)|refine aa.yes ?_|refine aa.no ?_|refine ⟨by first|omega|decide,?_⟩)
   refine htail u (bs.drop (k+1)) s' w ?_ h.bY
   rw [lG hrun,List.drop_eq_getElem_cons hlt,iK he]
  ·(with_reducible repeat first|refine Nw.mk h fun b w h=> ?_|refine au.mk h fun w h=> ?_|refine Ld.xb h rfl ?_|refine Ld.xt h rfl ?_|refine ae.xb (fun _ h=>h) rfl ?_|refine ae.xt (fun _ h=>h) rfl ?_|refine ⟨h.hb,?_⟩|refine ak.xw h rfl rfl fun w h=> ?_|(refine ak.xs h rfl rfl fun w h=> ?_;dsimp only [ao,af] at h)|(refine St.xs h rfl rfl fun w h=> ?_;dsimp only [ao,af] at h)|refine aa.yes ?_|refine aa.no ?_|refine ⟨by first|omega|decide,?_⟩)
   refine hbad w ?_ h.tl
   rw [lG hrun,List.drop_eq_getElem_cons hlt,qo he]
 ·have hk2:k=bs.length:=by omega
  subst hk2
  rw [List.take_of_length_le (Nat.le_refl _)] at hrun
  (with_reducible repeat first|refine Nw.mk h fun b w h=> ?_|refine au.mk h fun w h=> ?_|refine Ld.xb h rfl ?_|refine Ld.xt h rfl ?_|refine ae.xb (fun _ h=>h) rfl ?_|refine ae.xt (fun _ h=>h) rfl ?_|refine ⟨h.hb,?_⟩|refine ak.xw h rfl rfl fun w h=> ?_|(refine ak.xs h rfl rfl fun w h=> ?_;dsimp only [ao,af] at h)|(refine St.xs h rfl rfl fun w h=> ?_;dsimp only [ao,af] at h)|refine aa.yes ?_|refine aa.no ?_|refine ⟨by first|omega|decide,?_⟩)
  exact hshort st w hrun h.tl
end
end Go.Proofs.YtcdpblipagajiaaGreat
namespace Go.Proofs.YtcdpblipagajiaaGreat
open Go Go.Vc
set_option maxRecDepth 100000
theorem IA.ok (a:Sl) (R:(Array Value)→Int→World→Prop) w (h:
 Nw 41 ⟨List.replicate 258 (ni 0)⟩ w fun c b=>
 bU Pg 41 [] fun d=>
 Cl Pg [(.arr 258),kI] pP ⟨[(.agg d),(ah a)]⟩ b fun f (g:Int) e=>
 an 258 ⟨c,0,none⟩ f e fun h=>
 Ld (.arr 258) ⟨c,0,none⟩ h fun i=>
 R i g h):Cl Pg [(.arr 258),kI] rf ⟨[(ah a)]⟩ w R:=co Tryz.f63 [] h
theorem Ho.ok (a:(Array Value)) (b:Sl) (R:(Array Value)→Int→World→Prop) w (h:
 Nw 41 a w fun d c=>
 Nw 41 ⟨List.replicate 258 (ni 0)⟩ c fun f e=>
 Ld (.arr 258) ⟨d,0,none⟩ e fun g=>
 Cl Pg [kB] jw ⟨[(.agg g)]⟩ e fun (i:Bool) h=>
 aa (!i)
 (Ld (.arr 258) ⟨d,0,none⟩ h fun j=>
 an 258 ⟨f,0,none⟩ j h fun k=>
 Ld (.arr 258) ⟨f,0,none⟩ k fun l=>
 R l 2 k)
 (Ld (.arr 258) ⟨d,0,none⟩ h fun m=>
 Nw 41 ⟨List.replicate 258 (ni 0)⟩ h fun o n=>
 an 258 ⟨o,0,none⟩ m n fun p=>
 cn 0 p fun q r (s:Int) t=>
 aa (decide (s<(b.len:Int)))
 (aq b s 1 fun u=>
 Ld kI u t fun (v:Int)=>
 aa (decide (v<0))
 (Ld (.arr 258) ⟨d,0,none⟩ t fun x=>
 an 258 ⟨f,0,none⟩ x t fun y=>
 Ld (.arr 258) ⟨f,0,none⟩ y fun z=>
 R z 2 y)
 (aq b s 1 fun a1=>
 Ld kI a1 t fun (b1:Int)=>
 aa (decide (b1≥258))
 (Ld (.arr 258) ⟨d,0,none⟩ t fun c1=>
 an 258 ⟨f,0,none⟩ c1 t fun d1=>
 Ld (.arr 258) ⟨f,0,none⟩ d1 fun e1=>
 R e1 2 d1)
 (aq b s 1 fun f1=>
 Ld kI f1 t fun (g1:Int)=>
 av ⟨o,0,none⟩ 258 g1 1 fun h1=>
 Ld kI h1 t fun (i1:Int)=>
 av ⟨o,0,none⟩ 258 g1 1 fun j1=>
 St j1 (ni (i64 (i1+1))) t fun k1=>
 q (i64 (s+1)) k1∧r (i64 (s+1)) k1<r s t)))
 (Ld (.arr 258) ⟨o,0,none⟩ t fun l1=>
 Cl Pg [kB] jw ⟨[(.agg l1)]⟩ t fun (n1:Bool) m1=>
 aa (!n1)
 (Ld (.arr 258) ⟨d,0,none⟩ m1 fun o1=>
 an 258 ⟨f,0,none⟩ o1 m1 fun p1=>
 Ld (.arr 258) ⟨f,0,none⟩ p1 fun q1=>
 R q1 2 p1)
 (Ld (.arr 258) ⟨o,0,none⟩ m1 fun r1=>
 an 258 ⟨f,0,none⟩ r1 m1 fun s1=>
 Ld (.arr 258) ⟨f,0,none⟩ s1 fun t1=>
 R t1 0 s1)))):Cl Pg [(.arr 258),kI] pP ⟨[(.agg a),(ah b)]⟩ w R:=co Tryz.f116 [(12,[(7,kI)])] h
theorem CL.ok (a:(Array Value)) (R:Bool→World→Prop) w (h:
 Nw 41 a w fun c b=>
 cn 0 b fun d e (f:Int) g=>
 aa (decide (f<258))
 (av ⟨c,0,none⟩ 258 f 1 fun h=>
 Ld kI h g fun (i:Int)=>
 aa (decide (i<0))
 (R false g)
 (av ⟨c,0,none⟩ 258 f 1 fun j=>
 Ld kI j g fun (k:Int)=>
 aa (decide (k>2147483647))
 (R false g)
 (d (i64 (f+1)) g∧e (i64 (f+1)) g<e f g)))
 (R true g)):Cl Pg [kB] jw ⟨[(.agg a)]⟩ w R:=co Tryz.f165 [(5,[(3,kI)])] h
end Go.Proofs.YtcdpblipagajiaaGreat
set_option maxRecDepth 20000
namespace Go.Proofs.YtcdpblipagajiaaGreat
open Go Go.Vc Go.Hs
section
variable {E w:World} {F:List HP}
set_option maxRecDepth 20000 in
theorem yX {t:List Int} {K:Bool→World→Prop} (h:Hp E w F) (ht:t.length=258) (hK: ∀w',Hp E w' F→K (a7 t) w'):Cl Tryz.prog [kB] jw ⟨[.agg (Vc.aT t)]⟩ w K:=by
 refine CL.ok _ _ _ ?_
 refine Nw.mk h fun b3 w1 h1=> ?_
 refine ⟨fun i w'=> ∃k:Nat,i=(k:Int)∧k≤258∧(∀j,j<k→0≤t.getD j 0∧t.getD j 0≤2147483647)∧Hp E w' (aj b3 (.cells (Vc.aT t) 41 (0,0))::F),fun i _=>258 - i.toNat,⟨0,rfl,by omega,fun j hj=>by omega,h1⟩,?_⟩
 rintro i w2 ⟨k,rfl,hk,hg,hh⟩
 have bad: ∀hlt:k<258,¬(0≤t.getD k 0∧t.getD k 0≤2147483647)→K false w2:=fun hlt hb=>by
  have:=hK w2 hh.drop
  rwa [Ci (by omega) hb] at this
 refine aa.mk (fun hlt=> ?_) (fun hge=> ?_)
 ·have hlt:k<258:=by have:=of_decide_eq_true hlt;omega
  refine av.aT hh rfl ht hlt (aa.mk (fun h0=>bad hlt (by have:=of_decide_eq_true h0;omega)) (fun h0=> ?_))
  refine av.aT hh rfl ht hlt (aa.mk (fun h9=>bad hlt (by have:=of_decide_eq_true h9;omega)) (fun h9=> ?_))
  have h0:=of_decide_eq_false h0
  have h9:=of_decide_eq_false h9
  rw [ad (by omega)]
  refine ⟨⟨k+1,by omega,by omega,fun j hj=> ?_,hh⟩,by dsimp only;omega⟩
  by_cases e:j=k
  ·subst e;omega
  ·exact hg j (by omega)
 ·have hge:k=258:=by have:=of_decide_eq_false hge;omega
  subst hge
  have:=hK w2 hh.drop
  rwa [eS.2 fun i hi=>hg i (by omega)] at this
set_option maxRecDepth 20000 in
theorem Ll {t zs:List Int} {s:Sl} {K:Array Value→Int→World→Prop} (h:Hp E w F) (ht:t.length=258) (hs:ab F (aC 1 s (zs.map vI))) (hn:zs.length≤cA)
  (hK: ∀w',Hp E w' F→K (Vc.aT ((cY t zs).getD t)) (JO (cY t zs)) w'):Cl Tryz.prog [.arr 258,kI] pP ⟨[.agg (Vc.aT t),.slice s.base s.len s.cap]⟩ w K:=by
 refine Ho.ok _ _ _ _ ?_
 rw [Vc.nr]
 have hz:(Vc.aT (List.replicate 258 0)).size=258:=by rw [Vc.bN];exact List.length_replicate
 have hT: ∀{u:List Int},u.length=258→(Vc.aT u).size=258:=fun hu=>by rw [Vc.bN,hu]
 have hsl:=(h.ag hs).1
 simp only [List.length_map,Nat.mul_one] at hsl
 rw [aB] at hn
 have hKn:cY t zs=none→∀w',Hp E w' F→K (Vc.aT t) 2 w':=fun e w' h'=>by have:=hK w' h';rwa [e] at this
 refine Nw.mk h fun b4 w1 h1=>Nw.mk h1 fun b6 w2 h2=>Ld.arr h2.p1 (hT ht) (yX h2 ht fun w3 h3=> ?_)
 refine aa.mk (fun hv=> ?_) (fun hv=> ?_)
 ·have hv:a7 t=false:=by simpa using hv
  exact Ld.arr h3.p1 (hT ht) (an.aF h3 hz (hT ht) Vc.cV fun w4 h4=>Ld.arr h4 (hT ht) (hKn (sr hv) w4 h4.drop.drop))
 have hv:a7 t=true:=by simpa using hv
 refine Ld.arr h3.p1 (hT ht) (Nw.mk h3 fun b15 w4 h4=>an.aF h4 hz (hT ht) Vc.cV fun w5 h5=> ?_)
 refine ⟨fun i w'=> ∃k:Nat,i=(k:Int)∧k≤zs.length∧(zs.take k).all kT=true∧Hp E w' (aj b15 (.cells (Vc.aT (eK t (zs.take k))) 41 (0,0))::aj b6 (.cells (Vc.aT (List.replicate 258 0)) 41 (0,0))::aj b4 (.cells (Vc.aT t) 41 (0,0))::F),fun i _=>zs.length - i.toNat,⟨0,rfl,by omega,rfl,h5⟩,?_⟩
 rintro i w6 ⟨k,rfl,hk,hg,hh⟩
 have bad:cY t zs=none→Ld (.arr 258) ⟨b4,0,none⟩ w6 fun x30=>an 258 ⟨b6,0,none⟩ x30 w6 fun w31=>Ld (.arr 258) ⟨b6,0,none⟩ w31 fun res=>K res 2 w31:=fun e=>
  Ld.arr hh.p2 (hT ht) (an.aF hh.p1 hz (hT ht) Vc.cV fun w7 h7=>Ld.arr h7 (hT ht) (hKn e w7 h7.drop.drop.drop))
 have hcl:(eK t (zs.take k)).length=258:=by rw [lF,ht]
 have hSl:ab (aj b15 (.cells (Vc.aT (eK t (zs.take k))) 41 (0,0))::aj b6 (.cells (Vc.aT (List.replicate 258 0)) 41 (0,0))::aj b4 (.cells (Vc.aT t) 41 (0,0))::F) (aC 1 s (zs.map vI)):=ab.cons (ab.cons (ab.cons hs))
 refine aa.mk (fun hlt=> ?_) (fun hge=> ?_)
 ·have hlt:k<zs.length:=by have:=of_decide_eq_true hlt;omega
  refine aq.nI (hh.ag hSl) rfl hlt (aa.mk (fun hb=>bad (u9 hlt ?_)) (fun h0=> ?_))
  ·have:=of_decide_eq_true hb
   rw [Bool.eq_false_iff,ne_eq,iF];omega
  refine aq.nI (hh.ag hSl) rfl hlt (aa.mk (fun hb=>bad (u9 hlt ?_)) (fun h1=> ?_))
  ·have:=of_decide_eq_true hb
   rw [Bool.eq_false_iff,ne_eq,iF];omega
  have h0:=of_decide_eq_false h0
  have h1:=of_decide_eq_false h1
  have hb:kT (zs.getD k 0)=true:=iF.2 (by omega)
  have hvz:=eS.1 hv (zs.getD k 0).toNat (by omega)
  have hc:=ql hg ht (zs.getD k 0).toNat
  have hcc:=List.count_le_length (a:=(((zs.getD k 0).toNat:Nat):Int)) (l:=zs.take k)
  rw [List.length_take] at hcc
  refine aq.nI (hh.ag hSl) rfl hlt (av.aT hh (j:=(zs.getD k 0).toNat) (by omega) hcl (by omega) ?_)
  rw [ad (x:=(eK t (zs.take k)).getD (zs.getD k 0).toNat 0+1) (by omega),ad (by omega)]
  refine av.q7 hh (j:=(zs.getD k 0).toNat) (by omega) hcl (by omega) fun w7 h7=>⟨⟨k+1,by omega,by omega,?_,?_⟩,by dsimp only;omega⟩
  ·rw [kW hlt,List.all_append,hg,List.all_cons,hb];rfl
  ·rw [kW hlt,uO]
   exact h7
 ·have hge:k=zs.length:=by have:=of_decide_eq_false hge;omega
  subst hge
  rw [List.take_length] at hg hh hcl
  refine Ld.arr hh (hT hcl) (yX hh hcl fun w7 h7=>aa.mk (fun hb=> ?_) (fun hb=> ?_))
  ·have hb:a7 (eK t zs)=false:=by simpa using hb
   exact Ld.arr h7.p2 (hT ht) (an.aF h7.p1 hz (hT ht) Vc.cV fun w8 h8=>Ld.arr h8 (hT ht) (hKn (Iq hb) w8 h8.drop.drop.drop))
  ·have hb:a7 (eK t zs)=true:=by simpa using hb
   refine Ld.arr h7 (hT hcl) (an.aF h7.p1 hz (hT hcl) Vc.cV fun w8 h8=>Ld.arr h8 (hT hcl) ?_)
   have:=hK w8 h8.drop.drop.drop
   rwa [qJ hv hg hb] at this
theorem Im (zs:List Int):((cY cD zs).getD cD).length=258:=by
 cases ha:cY cD zs with
 |none=>exact gB
 |some u=>
  obtain ⟨_,_,rfl,_⟩:=yC ha
  show (eK cD zs).length=258
  rw [lF,gB]
set_option maxRecDepth 20000 in
theorem MK {zs:List Int} {s:Sl} {K:Array Value→Int→World→Prop} (h:Hp E w F) (hs:ab F (aC 1 s (zs.map vI))) (hn:zs.length≤cA)
  (hK: ∀w',Hp E w' F→K (Vc.aT ((cY cD zs).getD cD)) (JO (cY cD zs)) w'):Cl Tryz.prog [.arr 258,kI] rf ⟨[.slice s.base s.len s.cap]⟩ w K:=by
 refine IA.ok _ _ _ ?_
 rw [Vc.nr]
 have hl:=Im zs
 refine Nw.mk h fun b3 w1 h1=>BO (Ll h1 gB (ab.cons hs) hn fun w2 h2=>an.aF h2 (by rw [Vc.bN];exact List.length_replicate) (by rw [Vc.bN,hl]) Vc.cV fun w3 h3=>Ld.arr h3 (by rw [Vc.bN,hl]) (hK w3 h3.drop))
end
end Go.Proofs.YtcdpblipagajiaaGreat
namespace Go.Proofs.YtcdpblipagajiaaGreat
open Go Go.Vc
set_option maxRecDepth 100000
theorem C4.ok (a:(Array Value)) (R:(Array Value)→Int→World→Prop) w (h:
 Nw 36 a w fun c b=>
 Nw 101 ⟨List.replicate 258 (.int .u32 0)⟩ b fun e d=>
 Nw 101 ⟨List.replicate 258 (.int .u32 0)⟩ d fun g f=>
 Ld (.arr 258) ⟨c,0,none⟩ f fun h=>
 Cl Pg [kB] jE ⟨[(.agg h)]⟩ f fun (j:Bool) i=>
 aa (!j)
 (Ld (.arr 258) ⟨g,0,none⟩ i fun k=>
 an 258 ⟨e,0,none⟩ k i fun l=>
 Ld (.arr 258) ⟨e,0,none⟩ l fun m=>
 R m 2 l)
 (Ld (.arr 258) ⟨c,0,none⟩ i fun n=>
 Cl Pg [kS] mu ⟨[(.agg n)]⟩ i fun (p:Sl) o=>
 cn 1 o fun q r (s:Int) t=>
 aa (decide (s<(p.len:Int)))
 (aq p (i64 (s - 1)) 1 fun u=>
 Ld kI u t fun (v:Int)=>
 av ⟨g,0,none⟩ 258 v 1 fun x=>
 Ld (az .u32) x t fun (y:Int)=>
 aq p (i64 (s - 1)) 1 fun z=>
 Ld kI z t fun (a1:Int)=>
 av ⟨c,0,none⟩ 258 a1 1 fun b1=>
 Ld (az .u8) b1 t fun (c1:Int)=>
 bE (u32 (y+1)) c1 t fun d1 e1 (f1:Int) (g1:Int) h1=>
 aq p s 1 fun i1=>
 Ld kI i1 h1 fun (j1:Int)=>
 av ⟨c,0,none⟩ 258 j1 1 fun k1=>
 Ld (az .u8) k1 h1 fun (l1:Int)=>
 aa (decide (g1<l1))
 (d1 (u32 ((2:Int)*f1)) (u8 (g1+1)) h1∧e1 (u32 ((2:Int)*f1)) (u8 (g1+1)) h1<e1 f1 g1 h1)
 (aq p s 1 fun m1=>
 Ld kI m1 h1 fun (n1:Int)=>
 av ⟨g,0,none⟩ 258 n1 1 fun o1=>
 St o1 (.int .u32 f1) h1 fun p1=>
 q (i64 (s+1)) p1∧r (i64 (s+1)) p1<r s t))
 (Ld (.arr 258) ⟨g,0,none⟩ t fun q1=>
 an 258 ⟨e,0,none⟩ q1 t fun r1=>
 Ld (.arr 258) ⟨e,0,none⟩ r1 fun s1=>
 R s1 0 r1))):Cl Pg [(.arr 258),kI] jB ⟨[(.agg a)]⟩ w R:=co Tryz.f70 [(14,[(6,kI)]),(24,[(7,(az .u32)),(8,(az .u8))])] h
theorem Dj.ok (a:(Array Value)) (R:Bool→World→Prop) w (h:
 Nw 36 a w fun c b=>
 Ld (.arr 258) ⟨c,0,none⟩ b fun d=>
 Cl Pg [kI] pK ⟨[(.agg d)]⟩ b fun (f:Int) e=>
 R (decide (f≤32768)) e):Cl Pg [kB] jE ⟨[(.agg a)]⟩ w R:=co Tryz.f120 [] h
theorem CF.ok (a:(Array Value)) (R:Sl→World→Prop) w (h:
 Nw 36 a w fun c b=>
 bE (⟨none,0,0⟩:Sl) 1 b fun d e (f:Sl) (g:Int) h=>
 aa (decide (g≤15))
 (Ld (.arr 258) ⟨c,0,none⟩ h fun i=>
 Cl Pg [kB] jE ⟨[(.agg i)]⟩ h fun (k:Bool) j=>
 aa k
 (bE f 0 j fun l m (n:Sl) (o:Int) p=>
 aa (decide (o<258))
 (av ⟨c,0,none⟩ 258 o 1 fun q=>
 Ld (az .u8) q p fun (r:Int)=>
 aa ((i64 r)==g)
 (Nw 3 ⟨[(ni o)]⟩ p fun t s=>
 ay Pg (Builtin.append_ #[33,33] 33 ⟨[(ah n),(ah (⟨some ⟨t,0,none⟩,1,1⟩:Sl))]⟩) kS s fun (v:Sl) u=>
 l v (i64 (o+1)) u∧m v (i64 (o+1)) u<m n o p)
 (l n (i64 (o+1)) p∧m n (i64 (o+1)) p<m n o p))
 (d n (i64 (g+1)) p∧e n (i64 (g+1)) p<e f g h))
 (R f j))
 (R f h)):Cl Pg [kS] mu ⟨[(.agg a)]⟩ w R:=co Tryz.f121 [(7,[(3,kS),(4,kI)]),(14,[(3,kS),(5,kI)])] h
end Go.Proofs.YtcdpblipagajiaaGreat
set_option maxRecDepth 20000
namespace Go.Srt
def gH (l:List Nat) (N:Nat):List Nat:=(List.range N).flatMap fun n=>(List.range 258).filter fun s=>l.getD s 0==n+1
theorem Aj {l:List Nat} {N s:Nat}:s∈gH l N↔s<258∧0<l.getD s 0∧l.getD s 0≤N:=by
 unfold gH
 simp only [List.mem_flatMap,List.mem_range,List.mem_filter,beq_iff_eq]
 constructor
 ·rintro ⟨n,h1,h2,h3⟩;omega
 ·rintro ⟨h1,h2,h3⟩;exact ⟨l.getD s 0 - 1,by omega,h1,by omega⟩
theorem pz (l:List Nat) (N:Nat):(gH l N).Pairwise fun a b=>l.getD a 0<l.getD b 0∨(l.getD a 0=l.getD b 0∧a<b):=by
 unfold gH
 rw [List.pairwise_flatMap]
 refine ⟨fun n _=> ?_,?_⟩
 ·have h:(List.range 258).Pairwise fun a b=>a<b:=List.pairwise_lt_range
  refine List.Pairwise.imp_of_mem ?_ (h.filter _)
  intro a b ha hb hab
  have ha:=(List.mem_filter.1 ha).2
  have hb:=(List.mem_filter.1 hb).2
  rw [beq_iff_eq] at ha hb
  omega
 ·refine List.pairwise_lt_range.imp ?_
  intro m n hmn a ha b hb
  have ha:=(List.mem_filter.1 ha).2
  have hb:=(List.mem_filter.1 hb).2
  rw [beq_iff_eq] at ha hb
  omega
theorem Iy {l:List Nat} (hl:l.length=258) (hv:aS l≤32768):bA l (gH l 15):=by
 refine ⟨?_,pz l 15⟩
 have n1:(gH l 15).Nodup:=(pz l 15).imp fun h=>by rintro rfl;omega
 have n2:(used l).Nodup:=(List.nodup_range).filter _
 rw [List.perm_ext_iff_of_nodup n1 n2]
 intro s
 rw [Aj,dP,hl]
 have:=eu hv s
 omega
theorem Gg (l:List Nat) (N:Nat):gH l (N+1)=gH l N++(List.range 258).filter fun s=>l.getD s 0==N+1:=by
 unfold gH
 rw [List.range_succ (n:=N),List.flatMap_append]
 simp
end Go.Srt
namespace Go.Proofs.YtcdpblipagajiaaGreat
open Go Go.Vc Go.Srt Go.Bits
section
variable {E w:World} {F:List HP}
theorem yb {l:List Nat} {K:Bool→World→Prop} (h:Hp E w F) (hl:l.length=258) (hK: ∀w',Hp E w' F→K (decide (aS l≤32768)) w'):Cl Tryz.prog [kB] jE ⟨[.agg (ai .u8 l)]⟩ w K:=by
 refine Dj.ok _ _ _ ?_
 refine Nw.mk h fun b w1 h1=>Ld.arr h1 (by rw [ax,hl]) (Ml h1 hl fun r w2 hr _ h2=> ?_)
 have:decide ((r:Int)≤32768)=decide (aS l≤32768):=by rw [Bool.eq_iff_iff,decide_eq_true_eq,decide_eq_true_eq];omega
 rw [this]
 exact hK _ h2.drop
set_option maxRecDepth 20000 in
theorem GX {l:List Nat} {K:Sl→World→Prop} (h:Hp E w F) (hl:l.length=258) (h8: ∀x∈l,x≤255) (hv:aS l≤32768) (hK: ∀ys s w',bA l ys→Hp E w' (al 1 s ((ints ys).map vI)::F)→K s w'):Cl Tryz.prog [kS] mu ⟨[.agg (ai .u8 l)]⟩ w K:=by
 refine CF.ok _ _ _ ?_
 have hlen: ∀N,(gH l N).length≤258:=fun N=>by
  have h1:(gH l N).Nodup:=(pz l N).imp fun h=>by rintro rfl;omega
  have h2:gH l N⊆List.range 258:=fun s hs=>by have:=(Aj.1 hs).1;simpa using this
  have:=h1.length_le_of_subset h2
  simpa using this
 refine Nw.mk h fun b w1 h1=> ?_
 refine ⟨fun o n w'=> ∃N:Nat,n=(N:Int)+1∧N≤15∧Hp E w' (al 1 o ((ints (gH l N)).map vI)::aj b (.cells (ai .u8 l) 36 (0,0))::F),fun _ n _=>20 - n.toNat,⟨0,rfl,by omega,h1.aW 1⟩,?_⟩
 rintro o n w' ⟨N,rfl,hN,hh⟩
 refine aa.mk (fun hlt=> ?_) (fun hge=> ?_)
 ·have hlt:N<15:=by have:=of_decide_eq_true hlt;omega
  refine Ld.arr hh.p1 (by rw [ax,hl]) (yb hh hl fun w2 h2=>aa.t (decide_eq_true hv) ?_)
  refine ⟨fun o s w'=> ∃k:Nat,s=(k:Int)∧k≤258∧Hp E w' (al 1 o ((ints (gH l N++(List.range k).filter fun s=>l.getD s 0==N+1)).map vI)::aj b (.cells (ai .u8 l) 36 (0,0))::F),fun _ s _=>258 - s.toNat,⟨0,rfl,by omega,by simpa using h2⟩,?_⟩
  rintro o2 s w3 ⟨k,rfl,hk,h3⟩
  refine aa.mk (fun hlt2=> ?_) (fun hge2=> ?_)
  ·have hlt2:k<258:=by have:=of_decide_eq_true hlt2;omega
   have hg:l.getD k 0≤255:=by rw [bx (by omega)];exact h8 _ (List.getElem_mem _)
   have hrs:(List.range (k+1)).filter (fun s=>l.getD s 0==N+1)=(List.range k).filter (fun s=>l.getD s 0==N+1)++if l.getD k 0=N+1 then [k] else []:=by
    rw [List.range_succ,List.filter_append]
    congr 1
    by_cases e:l.getD k 0=N+1
    ·rw [if_pos e,List.filter_cons_of_pos (by rw [beq_iff_eq];exact e)];rfl
    ·rw [if_neg e,List.filter_cons_of_neg (by rw [beq_iff_eq];exact e)];rfl
   refine av.rd (s:= .int .u8) h3.p1 (by omega) (by omega) (l.getD k 0:Int) (ig (by omega)) ?_
   rw [ad (x:=(l.getD k 0:Int)) (by omega),ad (x:=(k:Int)+1) (by omega)]
   refine aa.mk (fun heq=> ?_) (fun hne=> ?_)
   ·have heq:l.getD k 0=N+1:=by rw [beq_iff_eq] at heq;omega
    rw [if_pos heq] at hrs
    have hol:=h3.a6
    have hl1:=hlen N
    have hl2:=List.length_filter_le (fun s=>l.getD s 0==N+1) (List.range k)
    rw [List.length_range] at hl2
    rw [List.length_map,ints,List.length_map,List.length_append,Nat.mul_one] at hol
    refine Nw.mk h3 fun b20 w4 h4=>aP (ys:= [vI (k:Int)]) (n:=1) dG (by decide) (.inl ⟨3,by kernel_rfl⟩) h4.p1 (.inl ⟨some ⟨b20,0,none⟩,1,1,rfl,rfl,h4.ag (ab.aF rfl rfl)⟩) rfl mV (by omega) (by omega) fun s' w5 h5 hs'=>⟨⟨k+1,rfl,by omega,?_⟩,by dsimp only;omega⟩
    rw [hrs,←List.append_assoc,rN,List.map_append]
    exact h5.p1.drop
   ·have hne:l.getD k 0≠N+1:=by have:=beq_eq_false_iff_ne.1 hne;omega
    rw [if_neg hne,List.append_nil] at hrs
    exact ⟨⟨k+1,rfl,by omega,by rw [hrs];exact h3⟩,by dsimp only;omega⟩
  ·have hge2:k=258:=by have:=of_decide_eq_false hge2;omega
   subst hge2
   rw [ad (by omega)]
   rw [←Gg] at h3
   exact ⟨⟨N+1,by omega,by omega,h3⟩,by dsimp only;omega⟩
 ·have hge:N=15:=by have:=of_decide_eq_false hge;omega
  subst hge
  exact hK _ _ _ (Iy hl hv) hh.p1.drop
set_option maxRecDepth 20000 in
theorem yA {l:List Nat} {K:Array Value→Int→World→Prop} (h:Hp E w F) (hl:l.length=258) (h8: ∀x∈l,x≤255) (hK1: ¬aS l≤32768→∀w',Hp E w' F→K (ai .u32 (List.replicate 258 0)) 2 w')
  (hK2:aS l≤32768→∀ys w',bA l ys→Hp E w' F→K (ai .u32 (bg l ys ys.length)) 0 w'):Cl Tryz.prog [.arr 258,kI] jB ⟨[.agg (ai .u8 l)]⟩ w K:=by
 refine C4.ok _ _ _ ?_
 rw [kj]
 have hz:(ai .u32 (List.replicate 258 0)).size=258:=by rw [ax];exact List.length_replicate
 refine Nw.mk h fun b3 w1 h1=>Nw.mk h1 fun b5 w2 h2=>Nw.mk h2 fun b7 w3 h3=>Ld.arr h3.p2 (by rw [ax,hl]) (yb h3 hl fun w4 h4=>aa.mk (fun hv=> ?_) (fun hv=> ?_))
 ·have hv: ¬aS l≤32768:=by simpa using hv
  exact Ld.arr h4 hz (an.aF h4.p1 hz hz bk fun w5 h5=>Ld.arr h5 hz (hK1 hv w5 h5.drop.drop.drop))
 have hv:aS l≤32768:=by simpa using hv
 refine Ld.arr h4.p2 (by rw [ax,hl]) (GX h4 hl h8 hv fun ys so w5 hys h5=> ?_)
 have hpl:=h5.a6
 simp only [ints,List.length_map,Nat.mul_one] at hpl
 have hylen:=wL hl hys
 have sized: ∀i,(ai .u32 (bg l ys i)).size=258:=fun i=>by rw [ax,bJ]
 have hc1:0<ys.length→bg l ys 1=List.replicate 258 0:=fun h0=>by
  rw [bg,bg]
  have:cE l ys 0=0:=by unfold cE Srt.start;simp
  rw [this,List.set_replicate_self]
 have fin: ∀w' k,k=ys.length→Hp E w' (al 1 so ((ints ys).map vI)::aj b7 (.cells (ai .u32 (bg l ys k)) 101 (0,0))::aj b5 (.cells (ai .u32 (List.replicate 258 0)) 101 (0,0))::aj b3 (.cells (ai .u8 l) 36 (0,0))::F)→
   Ld (.arr 258) (⟨b7,0,none⟩:Addr) w' fun (x42:(Array Value))=>an 258 (⟨b5,0,none⟩:Addr) x42 w' fun (w_43:World)=>Ld (.arr 258) (⟨b5,0,none⟩:Addr) w_43 fun (res44:(Array Value))=>K res44 0 w_43:=by
  rintro w' k rfl h'
  exact Ld.arr h'.p1 (sized _) (an.aF h'.p2 hz (sized _) bk fun w6 h6=>Ld.arr h6 (sized _) (hK2 hv ys w6 hys h6.drop.drop.drop.drop))
 refine ⟨fun i w'=> ∃k:Nat,i=(k:Int)∧1≤k∧(k≤ys.length∨(ys.length=0∧k=1))∧Hp E w' (al 1 so ((ints ys).map vI)::aj b7 (.cells (ai .u32 (bg l ys (if ys.length=0 then 0 else k))) 101 (0,0))::aj b5 (.cells (ai .u32 (List.replicate 258 0)) 101 (0,0))::aj b3 (.cells (ai .u8 l) 36 (0,0))::F),
  fun i _=>ys.length+1 - i.toNat,⟨1,rfl,by omega,by omega,?_⟩,?_⟩
 ·by_cases e:ys.length=0
  ·rw [if_pos e];exact h5
  ·rw [if_neg e,hc1 (by omega)];exact h5
 rintro i w6 ⟨k,rfl,hk1,hk,hh⟩
 refine aa.mk (fun hlt=> ?_) (fun hge=>fin w6 (if ys.length=0 then 0 else k) ?_ hh)
 ·have hlt:k<ys.length:=by have:=of_decide_eq_true hlt;omega
  rw [if_neg (by omega)] at hh
  obtain ⟨j,rfl⟩: ∃j,k=j+1:=⟨k - 1,by omega⟩
  have hj:j<ys.length:=by omega
  have hin0:=qB hl hys _ (List.getElem_mem hj)
  have hin1:=qB hl hys _ (List.getElem_mem hlt)
  have h15a:=eu hv ys[j]
  have h15b:=eu hv ys[j+1]
  have hmono:=xi hys hlt (show j≤j+1 by omega)
  rw [ad (x:=((j+1:Nat):Int) - 1) (by omega),show ((j+1:Nat):Int) - 1=(j:Int) by omega]
  have rdo: ∀{w':World} {F':List HP} {m:Nat} {K:Int→Prop} (hm:m<ys.length),Hp E w' (al 1 so ((ints ys).map vI)::F')→K (ys[m]:Int)→aq so (m:Int) 1 fun q=>Ld kI q w' K:=fun {w' F' m K} hm h' hK=>by
   refine aq.rd (h'.ag ab.own) (by omega) (by omega) fun q hq hc=>Ld.sc (s:= .int .i64) (ys[m]:Int) (by rw [hc];simp [ints,vI,Sc.enc]) hK
  have hca:=ra hys (fun s hs=>(qB hl hys s hs).1) (j+1) (by omega) j hj (by omega)
  have hcl:=se hv hys hj
  have hp:2^l.getD ys[j] 0≤2^15:=Nat.pow_le_pow_right (by decide) h15a
  have hp2:(2:Nat)^15=32768:=by decide
  refine rdo hj hh (av.rd (s:= .int .u32) hh.p1 (by omega) (by omega) ((bg l ys (j+1)).getD ys[j] 0:Int) (ig (by rw [bJ];omega)) ?_)
  refine rdo hj hh (av.rd (s:= .int .u8) hh.p3 (by omega) (by omega) (l.getD ys[j] 0:Int) (ig (by omega)) ?_)
  rw [hca,cW (by omega)]
  have hnew:(cE l ys j+1)*2^(l.getD ys[j+1] 0 - l.getD ys[j] 0)=cE l ys (j+1):=by
   have e1:=kD hys hj
   have e2:=kD hys hlt
   have e3:=mW (l:=l) hj
   refine Nat.eq_of_mul_eq_mul_right (vZ l ys[j+1]) ?_
   rw [e2,e3,←e1,Nat.mul_assoc]
   have:2^(l.getD ys[j+1] 0 - l.getD ys[j] 0)*sh l ys[j+1]=sh l ys[j]:=by
    unfold sh;rw [←Nat.pow_add];congr 1;omega
   rw [this,Nat.succ_mul]
  have hcl1:=se hv hys hlt
  have hp1:2^l.getD ys[j+1] 0≤2^15:=Nat.pow_le_pow_right (by decide) h15b
  refine ⟨fun c kk w'=> ∃n:Nat,kk=((l.getD ys[j] 0+n:Nat):Int)∧l.getD ys[j] 0+n≤l.getD ys[j+1] 0∧c=(((cE l ys j+1)*2^n:Nat):Int)∧Hp E w' (al 1 so ((ints ys).map vI)::aj b7 (.cells (ai .u32 (bg l ys (j+1))) 101 (0,0))::aj b5 (.cells (ai .u32 (List.replicate 258 0)) 101 (0,0))::aj b3 (.cells (ai .u8 l) 36 (0,0))::F),
   fun _ kk _=>16 - kk.toNat,⟨0,by omega,by omega,by simp,hh⟩,?_⟩
  rintro c kk w7 ⟨n,rfl,hn,rfl,h7⟩
  refine rdo hlt h7 (av.rd (s:= .int .u8) h7.p3 (by omega) (by omega) (l.getD ys[j+1] 0:Int) (ig (by omega)) (aa.mk (fun hl2=> ?_) (fun hg2=> ?_)))
  ·have hl2:=of_decide_eq_true hl2
   have hle:(cE l ys j+1)*2^(n+1)≤cE l ys (j+1):=by
    rw [←hnew];exact Nat.mul_le_mul_left _ (Nat.pow_le_pow_right (by decide) (by omega))
   have hpw:(cE l ys j+1)*2^(n+1)=2*((cE l ys j+1)*2^n):=by rw [Nat.pow_succ,←Nat.mul_assoc,Nat.mul_comm]
   rw [cW (by omega),dH (by omega)]
   exact ⟨⟨n+1,by omega,by omega,by rw [hpw];omega,h7⟩,by dsimp only;omega⟩
  ·have hg2:=of_decide_eq_false hg2
   have hne:l.getD ys[j+1] 0 - l.getD ys[j] 0=n:=by omega
   rw [hne] at hnew
   rw [hnew]
   refine rdo hlt h7 (av.wr h7.p1 (by omega) (by omega) (sized _) rfl fun w8 h8=> ?_)
   rw [Int.toNat_natCast,oC] at h8
   rw [ad (by omega)]
   refine ⟨⟨j+1+1,by omega,by omega,by omega,?_⟩,by dsimp only;omega⟩
   rw [if_neg (by omega)]
   have:bg l ys (j+1+1)=(bg l ys (j+1)).set ys[j+1] (cE l ys (j+1)):=by rw [bg,kd hlt]
   rw [this]
   exact h8.p1
 ·have:=of_decide_eq_false hge
  by_cases e:ys.length=0
  ·rw [if_pos e];omega
  ·rw [if_neg e];omega
end
end Go.Proofs.YtcdpblipagajiaaGreat
namespace Go.Proofs.YtcdpblipagajiaaGreat
open Go Go.Vc
set_option maxRecDepth 100000
theorem Ew.ok (a:(Array Value)) (b:Sl) (R:Sl→Bool→World→Prop) w (h:
 Nw 36 a w fun d c=>
 Ld (.arr 258) ⟨d,0,none⟩ c fun e=>
 Cl Pg [(.arr 258),kI] jB ⟨[(.agg e)]⟩ c fun g (h:Int) f=>
 Nw 101 ⟨List.replicate 258 (.int .u32 0)⟩ f fun j i=>
 an 258 ⟨j,0,none⟩ g i fun k=>
 aa (h !=0)
 (R (⟨none,0,0⟩:Sl) false k)
 (bE (⟨none,0,0⟩:Sl) 0 k fun l m (n:Sl) (o:Int) p=>
 aa (decide (o<(b.len:Int)))
 (aq b o 1 fun q=>
 Ld kI q p fun (r:Int)=>
 bo (fun (v:World)=>
 av ⟨d,0,none⟩ 258 r 1 fun x=>
 Ld (az .u8) x v fun (y:Int)=>
 bE n (i64 ((i64 y) - 1)) v fun z a1 (b1:Sl) (c1:Int) d1=>
 aa (decide (c1≥0))
 (av ⟨j,0,none⟩ 258 r 1 fun e1=>
 Ld (az .u32) e1 d1 fun (f1:Int)=>
 0≤(u64 c1)∧
 Nw 3 ⟨[(ni (i64 (bC .u32 (aK .u32 f1 (u64 c1)) 1)))]⟩ d1 fun h1 g1=>
 ay Pg (Builtin.append_ #[33,33] 33 ⟨[(ah b1),(ah (⟨some ⟨h1,0,none⟩,1,1⟩:Sl))]⟩) kS g1 fun (j1:Sl) i1=>
 z j1 (i64 (c1 - 1)) i1∧a1 j1 (i64 (c1 - 1)) i1<a1 b1 c1 d1)
 (l b1 (i64 (o+1)) d1∧m b1 (i64 (o+1)) d1<m n o p)) fun s=>
 aa (decide (r<0))
 (R (⟨none,0,0⟩:Sl) false p)
 (aa (decide (r≥258))
 (R (⟨none,0,0⟩:Sl) false p)
 (av ⟨d,0,none⟩ 258 r 1 fun t=>
 Ld (az .u8) t p fun (u:Int)=>
 aa (u==0)
 (R (⟨none,0,0⟩:Sl) false p)
 (s p))))
 (R n true p))):Cl Pg [kS,kB] nX ⟨[(.agg a),(ah b)]⟩ w R:=co Tryz.f25 [(14,[(8,kS),(9,kI)]),(21,[]),(28,[(8,kS),(11,kI)])] h
end Go.Proofs.YtcdpblipagajiaaGreat
set_option maxRecDepth 20000
namespace Go.Proofs.YtcdpblipagajiaaGreat
open Go Go.Vc Go.Srt Go.Bits
section
variable {E w:World} {F:List HP}
set_option maxRecDepth 20000 in
theorem KW {l:List Nat} {s:Sl} {zs:List Int} {K:Sl→Bool→World→Prop} (h:Hp E w F) (hl:l.length=258) (h8: ∀x∈l,x≤255) (hs:ab F (aC 1 s (zs.map vI))) (hn:zs.length≤100000)
  (hK1: ¬(aS l≤32768∧jW l zs=true)→∀w',Hp E w' F→K ⟨none,0,0⟩ false w') (hK2:aS l≤32768→jW l zs=true→∀s' w',Hp E w' (al 1 s' ((ints (iu l zs)).map vI)::F)→K s' true w'):
  Cl Tryz.prog [kS,kB] nX ⟨[.agg (ai .u8 l),.slice s.base s.len s.cap]⟩ w K:=by
 refine Ew.ok _ _ _ _ ?_
 simp only [aD]
 rw [kj]
 have hsl:=(h.ag hs).1
 simp only [List.length_map,Nat.mul_one] at hsl
 refine Nw.mk h fun b4 w1 h1=>Ld.arr h1 (by rw [ax,hl]) (yA h1 hl h8 (fun hv w2 h2=> ?_) (fun hv ys w2 hys h2=> ?_))
 ·exact Nw.mk h2 fun b10 w3 h3=>an.aF h3 (by rw [ax];simp) (by rw [ax];simp) bk fun w4 h4=>aa.t (by decide) (hK1 (fun hh=>hv hh.1) w4 h4.drop.drop)
 refine Nw.mk h2 fun b10 w3 h3=>an.aF h3 (by rw [ax];simp) (by rw [ax,bJ]) bk fun w4 h4=>aa.f (by decide) ?_
 refine ⟨fun o i w'=> ∃k:Nat,i=(k:Int)∧k≤zs.length∧jW l (zs.take k)=true∧Hp E w' (al 1 o ((ints (iu l (zs.take k))).map vI)::aj b10 (.cells (ai .u32 (bg l ys ys.length)) 101 (0,0))::aj b4 (.cells (ai .u8 l) 36 (0,0))::F),fun _ i _=>zs.length - i.toNat,⟨0,rfl,by omega,rfl,h4.aW 1⟩,?_⟩
 rintro o i w5 ⟨k,rfl,hk,hg,hh⟩
 refine aa.mk (fun hlt=> ?_) (fun hge=> ?_)
 ·have hlt:k<zs.length:=by have:=of_decide_eq_true hlt;omega
  have bad:gP l zs[k]=false→K ⟨none,0,0⟩ false w5:=fun hb=>hK1 (fun hh=>by rw [Ay hlt hb] at hh;exact absurd hh.2 (by decide)) w5 hh.drop.drop.drop
  refine aq.rd (hh.ag (ab.cons (ab.cons (ab.cons hs)))) (by omega) (by omega) fun q hq hc=>Ld.sc (s:= .int .i64) zs[k] (by rw [hc];simp [vI,Sc.enc]) ?_
  refine aa.mk (fun h0=>bad ?_) (fun h0=>aa.mk (fun h1=>bad ?_) (fun h1=> ?_))
  ·have:=of_decide_eq_true h0
   unfold gP;rw [decide_eq_false (show¬0≤zs[k] by omega)];rfl
  ·have:=of_decide_eq_true h1
   unfold gP;rw [decide_eq_false (show¬zs[k]<258 by omega)];simp
  have h0:=of_decide_eq_false h0
  have h1:=of_decide_eq_false h1
  obtain ⟨m,hm⟩: ∃m:Nat,zs[k]=(m:Int):=⟨zs[k].toNat,by omega⟩
  have hm2:zs[k].toNat=m:=by omega
  rw [hm]
  refine av.rd (s:= .int .u8) hh.p2 (by omega) (by omega) (l.getD m 0:Int) (ig (by omega)) (aa.mk (fun hz=>bad ?_) (fun hz=> ?_))
  ·have:l.getD m 0=0:=by rw [beq_iff_eq] at hz;omega
   unfold gP;rw [hm2,this];simp
  have hz:0<l.getD m 0:=by have:=beq_eq_false_iff_ne.1 hz;omega
  have h15:=eu hv m
  have hle:=lj hv (zs.take k)
  rw [List.length_take] at hle
  have hcl:=xv hl hv (show m<258 by omega) hz
  have hp:2^l.getD m 0≤2^15:=Nat.pow_le_pow_right (by decide) h15
  have hp2:(2:Nat)^15=32768:=by decide
  refine av.rd (s:= .int .u8) hh.p2 (by omega) (by omega) (l.getD m 0:Int) (ig (by omega)) ?_
  rw [ad (x:=(l.getD m 0:Int)) (by omega),ad (x:=(l.getD m 0:Int) - 1) (by omega),ad (x:=(k:Int)+1) (by omega)]
  have hel:=vi l m
  refine ⟨fun o2 kk w'=> ∃j:Nat,kk=(l.getD m 0:Int) - 1 - (j:Int)∧j≤l.getD m 0∧Hp E w' (al 1 o2 ((ints (iu l (zs.take k)++(oe l m).take j)).map vI)::aj b10 (.cells (ai .u32 (bg l ys ys.length)) 101 (0,0))::aj b4 (.cells (ai .u8 l) 36 (0,0))::F),fun _ kk _=>(kk+1).toNat,
   ⟨0,by omega,by omega,by simpa using hh⟩,?_⟩
  rintro o2 kk w6 ⟨j,rfl,hj,h6⟩
  refine aa.mk (fun hge2=> ?_) (fun hlt2=> ?_)
  ·have hj2:j<l.getD m 0:=by have:=of_decide_eq_true hge2;omega
   refine av.rd (s:= .int .u32) h6.p1 (by omega) (by omega) ((bg l ys ys.length).getD m 0:Int) (ig (by rw [bJ];omega)) ?_
   rw [qV hl hv hys (by omega) hz,ik (by omega),show (l.getD m 0:Int) - 1 - (j:Int)=((l.getD m 0 - 1 - j:Nat):Int) by omega]
   have hd:=Nat.div_le_self (code l m) (2^(l.getD m 0 - 1 - j))
   have e1:bC .u32 (aK .u32 (code l m:Int) ((l.getD m 0 - 1 - j:Nat):Int)) 1=((code l m/2^(l.getD m 0 - 1 - j) % 2:Nat):Int):=by
    have hmx:IntKind.max .u32=4294967295:=rfl
    rw [cb (by have:IntKind.bits .u32=32:=rfl;omega),show (1:Int)=((1:Nat):Int) from rfl,eB (by omega) (by omega),Nat.and_one_is_mod]
   rw [e1,ad (x:=((code l m/2^(l.getD m 0 - 1 - j) % 2:Nat):Int)) (by omega)]
   refine ⟨by omega,?_⟩
   have hol:=h6.a6
   rw [List.length_map,ints,List.length_map,List.length_append,List.length_take,hel,Nat.mul_one] at hol
   refine Nw.mk h6 fun b33 w7 h7=>aP (ys:= [vI ((code l m/2^(l.getD m 0 - 1 - j) % 2:Nat):Int)]) (n:=1) dG (by decide) (.inl ⟨3,by kernel_rfl⟩) h7.p1 (.inl ⟨some ⟨b33,0,none⟩,1,1,rfl,rfl,h7.ag (ab.aF rfl rfl)⟩) rfl mV (by omega) (by omega) fun s' w8 h8 hs'=>⟨⟨j+1,by rw [ad (by omega)];omega,by omega,?_⟩,by dsimp only;rw [ad (by omega)];omega⟩
   have e2:(oe l m).take (j+1)=(oe l m).take j++ [code l m/2^(l.getD m 0 - 1 - j) % 2]:=by
    have hjl:j<(oe l m).length:=by omega
    rw [List.take_add_one,List.getElem?_eq_getElem hjl]
    have:=th (l.getD m 0) (code l m) j hj2
    rw [←this]
    show _=_++ [(oe l m).getD j 0]
    rw [bx hjl];rfl
   rw [e2,←List.append_assoc,rN,List.map_append]
   exact h8.p1.drop
  ·have hj2:j=l.getD m 0:=by have:=of_decide_eq_false hlt2;omega
   subst hj2
   rw [List.take_of_length_le (l:=oe l m) (by omega)] at h6
   refine ⟨⟨k+1,by omega,by omega,yh hlt hg (pn.2 ⟨by omega,by omega,by rw [hm2];exact hz⟩),?_⟩,by dsimp only;omega⟩
   rw [sR hlt,hm2]
   exact h6
 ·have hge:k=zs.length:=by have:=of_decide_eq_false hge;omega
  subst hge
  rw [List.take_length] at hg hh
  exact hK2 hv hg _ _ hh.p1.drop.p1.drop
end
end Go.Proofs.YtcdpblipagajiaaGreat
namespace Go.Proofs.YtcdpblipagajiaaGreat
open Go Go.Vc
set_option maxRecDepth 100000
theorem EU.ok (a:Sl) (b:Int) (R:Sl→Int→World→Prop) w (h:
 bo (fun (d:World)=>
 Cl Pg [kS] mF ⟨[(ah a)]⟩ d fun (f:Sl) e=>
 vu (⟨none,0,0⟩:Sl) 0 0 e fun g h (i:Sl) (j:Int) (k:Int) l=>
 aa (decide (k<(a.len:Int)))
 (aa (j==b)
 (R (⟨none,0,0⟩:Sl) 170 l)
 (aa (decide (j>b))
 (aq a (i64 (j - 1)) 1 fun m=>
 Ld (az .u8) m l fun (n:Int)=>
 Nw 5 ⟨[(.int .u8 n)]⟩ l fun p o=>
 ay Pg (Builtin.append_ #[22,22] 22 ⟨[(ah i),(ah (⟨some ⟨p,0,none⟩,1,1⟩:Sl))]⟩) kS o fun (r:Sl) q=>
 aq f (i64 (j - 1)) 1 fun s=>
 Ld kI s q fun (t:Int)=>
 g r t (i64 (k+1)) q∧h r t (i64 (k+1)) q<h i j k l)
 (aq a j 1 fun u=>
 Ld (az .u8) u l fun (v:Int)=>
 Nw 5 ⟨[(.int .u8 v)]⟩ l fun y x=>
 ay Pg (Builtin.append_ #[22,22] 22 ⟨[(ah i),(ah (⟨some ⟨y,0,none⟩,1,1⟩:Sl))]⟩) kS x fun (a1:Sl) z=>
 aq f j 1 fun b1=>
 Ld kI b1 z fun (c1:Int)=>
 g a1 c1 (i64 (k+1)) z∧h a1 c1 (i64 (k+1)) z<h i j k l)))
 (aa (j !=b)
 (R (⟨none,0,0⟩:Sl) 170 l)
 (Cl Pg [kS] fL ⟨[(ah i)]⟩ l fun (e1:Sl) d1=>
 R e1 0 d1))) fun c=>
 aa (decide (b<0))
 (R (⟨none,0,0⟩:Sl) 170 w)
 (aa (decide (b>(a.len:Int)))
 (R (⟨none,0,0⟩:Sl) 170 w)
 (aa (b==0)
 (aa (decide ((a.len:Int)>0))
 (R (⟨none,0,0⟩:Sl) 170 w)
 (c w))
 (c w)))):Cl Pg [kS,kI] nR ⟨[(ah a),(ni b)]⟩ w R:=co Tryz.f29 [(2,[]),(16,[(7,kS),(8,kI),(9,kI)])] h
theorem Bl.ok (a:Sl) (R:Sl→World→Prop) w (h:
 bE (⟨none,0,0⟩:Sl) (i64 ((a.len:Int) - 1)) w fun b c (d:Sl) (e:Int) f=>
 aa (decide (e≥0))
 (aq a e 1 fun g=>
 Ld (az .u8) g f fun (h:Int)=>
 Nw 5 ⟨[(.int .u8 h)]⟩ f fun j i=>
 ay Pg (Builtin.append_ #[22,22] 22 ⟨[(ah d),(ah (⟨some ⟨j,0,none⟩,1,1⟩:Sl))]⟩) kS i fun (l:Sl) k=>
 b l (i64 (e - 1)) k∧c l (i64 (e - 1)) k<c d e f)
 (R d f)):Cl Pg [kS] fL ⟨[(ah a)]⟩ w R:=co Tryz.f30 [(7,[(3,kS),(4,kI)])] h
theorem Et.ok (a:Sl) (R:Sl→Int→World→Prop) w (h:
 Cl Pg [kS] mq ⟨[(ah a)]⟩ w fun (c:Sl) b=>
 vu (⟨none,0,0⟩:Sl) 0 0 b fun d e (f:Sl) (g:Int) (h:Int) i=>
 aa (decide (h<(c.len:Int)))
 (aq c h 1 fun j=>
 Ld kI j i fun (k:Int)=>
 aa (k==0)
 (d f h (i64 (h+1)) i∧e f h (i64 (h+1)) i<e f g h i)
 (aq c h 1 fun l=>
 Ld kI l i fun (m:Int)=>
 aq a (i64 (m - 1)) 1 fun n=>
 Ld (az .u8) n i fun (o:Int)=>
 Nw 5 ⟨[(.int .u8 o)]⟩ i fun q p=>
 ay Pg (Builtin.append_ #[22,22] 22 ⟨[(ah f),(ah (⟨some ⟨q,0,none⟩,1,1⟩:Sl))]⟩) kS p fun (s:Sl) r=>
 d s g (i64 (h+1)) r∧e s g (i64 (h+1)) r<e f g h i))
 (R f g i)):Cl Pg [kS,kI] oa ⟨[(ah a)]⟩ w R:=co Tryz.f62 [(11,[(4,kS),(5,kI),(7,kI)])] h
theorem CA.ok (a:Sl) (R:Sl→World→Prop) w (h:
 Nw 171 ⟨List.replicate 256 (ni 0)⟩ w fun c b=>
 Nw 171 ⟨List.replicate 256 (ni 0)⟩ b fun e d=>
 cn 0 d fun f g (h:Int) i=>
 aa (decide (h<(a.len:Int)))
 (aq a h 1 fun j=>
 Ld (az .u8) j i fun (k:Int)=>
 cn (i64 ((i64 k)+1)) i fun l m (n:Int) o=>
 aa (decide (n<256))
 (av ⟨c,0,none⟩ 256 n 1 fun p=>
 Ld kI p o fun (q:Int)=>
 av ⟨c,0,none⟩ 256 n 1 fun r=>
 St r (ni (i64 (q+1))) o fun s=>
 l (i64 (n+1)) s∧m (i64 (n+1)) s<m n o)
 (f (i64 (h+1)) o∧g (i64 (h+1)) o<g h i))
 (bE (⟨none,0,0⟩:Sl) 0 i fun t u (v:Sl) (x:Int) y=>
 aa (decide (x<(a.len:Int)))
 (aq a x 1 fun z=>
 Ld (az .u8) z y fun (a1:Int)=>
 cL y fun b1 c1=>
 av ⟨c,0,none⟩ 256 a1 1 fun d1=>
 ae kI d1 b1 fun (e1:Int)=>
 av ⟨e,0,none⟩ 256 a1 1 fun f1=>
 ae kI f1 b1 fun (g1:Int)=>
 Nw 3 ⟨[(ni (i64 ((i64 ((1:Int)+e1))+g1)))]⟩ c1 fun i1 h1=>
 b1 h1∧
 ay Pg (Builtin.append_ #[33,33] 33 ⟨[(ah v),(ah (⟨some ⟨i1,0,none⟩,1,1⟩:Sl))]⟩) kS h1 fun (k1:Sl) j1=>
 b1 j1∧
 av ⟨e,0,none⟩ 256 a1 1 fun l1=>
 Ld kI l1 j1 fun (m1:Int)=>
 av ⟨e,0,none⟩ 256 a1 1 fun n1=>
 St n1 (ni (i64 (m1+1))) j1 fun o1=>
 t k1 (i64 (x+1)) o1∧u k1 (i64 (x+1)) o1<u v x y)
 (R v y))):Cl Pg [kS] mF ⟨[(ah a)]⟩ w R:=co Tryz.f74 [(7,[(5,kI)]),(14,[(6,kI)]),(27,[(7,kS),(8,kI)])] h
theorem CZ.ok (a:Sl) (R:Sl→World→Prop) w (h:
 bE (⟨none,0,0⟩:Sl) 0 w fun b c (d:Sl) (e:Int) f=>
 aa (decide (e≤(a.len:Int)))
 (cn (d.len:Int) f fun g h (i:Int) j=>
 aa (decide (i>0))
 (aq d (i64 (i - 1)) 1 fun k=>
 Ld kI k j fun (l:Int)=>
 Cl Pg [kB] nS ⟨[(ah a),(ni e),(ni l)]⟩ j fun (n:Bool) m=>
 aa n
 (g (i64 (i - 1)) m∧h (i64 (i - 1)) m<h i j)
 (bd d 0 i (d).cap 1 fun o=>
 ay Pg (Builtin.append_ #[33,33] 33 ⟨[(.slice none 0 0),(ah o)]⟩) kS m fun (q:Sl) p=>
 Nw 3 ⟨[(ni e)]⟩ p fun s r=>
 ay Pg (Builtin.append_ #[33,33] 33 ⟨[(ah q),(ah (⟨some ⟨s,0,none⟩,1,1⟩:Sl))]⟩) kS r fun (u:Sl) t=>
 bd d i (d).len (d).cap 1 fun v=>
 ay Pg (Builtin.append_ #[33,33] 33 ⟨[(ah u),(ah v)]⟩) kS t fun (y:Sl) x=>
 b y (i64 (e+1)) x∧c y (i64 (e+1)) x<c d e f))
 (bd d 0 i (d).cap 1 fun z=>
 ay Pg (Builtin.append_ #[33,33] 33 ⟨[(.slice none 0 0),(ah z)]⟩) kS j fun (b1:Sl) a1=>
 Nw 3 ⟨[(ni e)]⟩ a1 fun d1 c1=>
 ay Pg (Builtin.append_ #[33,33] 33 ⟨[(ah b1),(ah (⟨some ⟨d1,0,none⟩,1,1⟩:Sl))]⟩) kS c1 fun (f1:Sl) e1=>
 bd d i (d).len (d).cap 1 fun g1=>
 ay Pg (Builtin.append_ #[33,33] 33 ⟨[(ah f1),(ah g1)]⟩) kS e1 fun (i1:Sl) h1=>
 b i1 (i64 (e+1)) h1∧c i1 (i64 (e+1)) h1<c d e f))
 (R d f)):Cl Pg [kS] mq ⟨[(ah a)]⟩ w R:=co Tryz.f115 [(7,[(3,kS),(4,kI)]),(15,[(5,kI)])] h
theorem Fb.ok (a:Sl) (b:Int) (c:Int) (R:Bool→World→Prop) w (h:
 bo (fun (e:World)=>
 bo (fun (q:Int) (r:Int) (s:World)=>
 aa (q==r)
 (R false s)
 (aa (r==(a.len:Int))
 (R false s)
 (au s fun t=>
 aa (q==(a.len:Int))
 (R true t)
 (aq a q 1 fun u=>
 Ld (az .u8) u t fun (v:Int)=>
 aq a r 1 fun x=>
 Ld (az .u8) x t fun (y:Int)=>
 R (decide (v<y)) t)))) fun f=>
 bE b c e fun g h (i:Int) (j:Int) k=>
 au k fun l=>
 aa (decide (i<(a.len:Int)))
 (aa (decide (j<(a.len:Int)))
 (aq a i 1 fun m=>
 Ld (az .u8) m l fun (n:Int)=>
 aq a j 1 fun o=>
 Ld (az .u8) o l fun (p:Int)=>
 aa (n==p)
 (aa (i !=j)
 (g (i64 (i+1)) (i64 (j+1)) l∧h (i64 (i+1)) (i64 (j+1)) l<h i j k)
 (f i j l))
 (f i j l))
 (f i j l))
 (f i j l)) fun d=>
 aa (decide (b<0))
 (R false w)
 (aa (decide (b>(a.len:Int)))
 (R false w)
 (aa (decide (c<0))
 (R false w)
 (aa (decide (c>(a.len:Int)))
 (R false w)
 (d w))))):Cl Pg [kB] nS ⟨[(ah a),(ni b),(ni c)]⟩ w R:=co Tryz.f164 [(2,[]),(7,[(1,kI),(2,kI)]),(8,[(1,kI),(2,kI)])] h
end Go.Proofs.YtcdpblipagajiaaGreat
set_option maxRecDepth 20000
namespace Go.Proofs.YtcdpblipagajiaaGreat
open Go Go.Vc Go.Bw Go.Hs
section
variable {E w:World} {F:List HP}
set_option maxRecDepth 20000 in
theorem Hg {t:List Nat} {s:Sl} {i k:Int} {K:Bool→World→Prop} (h:Hp E w F) (hs:ab F (aC 1 s (t.map vB))) (hn:t.length≤cA) (hK: ∀w',Hp E w' F→K (vK t i k) w'):
  Cl Tryz.prog [kB] nS ⟨[.slice s.base s.len s.cap,.int .i64 i,.int .i64 k]⟩ w K:=by
 refine Fb.ok _ _ _ _ _ ?_
 simp only [aD]
 have hl:=(h.ag hs).1
 simp only [List.length_map,Nat.mul_one] at hl
 rw [aB] at hn
 have no: ¬(0≤i∧i≤t.length∧0≤k∧k≤t.length)→K false w:=fun hn=>by
  have:=hK w h
  unfold vK at this
  rwa [decide_eq_false hn,Bool.false_and] at this
 refine aa.mk (fun g=>no (by have:=of_decide_eq_true g;omega)) (fun g1=>aa.mk (fun g=>no (by have:=of_decide_eq_true g;omega)) (fun g2=>aa.mk (fun g=>no (by have:=of_decide_eq_true g;omega)) (fun g3=>aa.mk (fun g=>no (by have:=of_decide_eq_true g;omega)) (fun g4=> ?_))))
 have g1:=of_decide_eq_false g1
 have g2:=of_decide_eq_false g2
 have g3:=of_decide_eq_false g3
 have g4:=of_decide_eq_false g4
 obtain ⟨a0,rfl⟩:=Int.eq_ofNat_of_zero_le (show 0≤i by omega)
 obtain ⟨b0,rfl⟩:=Int.eq_ofNat_of_zero_le (show 0≤k by omega)
 have hK2: ∀w',Hp E w' F→K (sl t a0 b0) w':=fun w' h'=>by
  have:=hK w' h'
  unfold vK at this
  rwa [decide_eq_true ⟨by omega,by omega,by omega,by omega⟩,Bool.true_and,Int.toNat_natCast,Int.toNat_natCast] at this
 refine ⟨fun x y w'=> ∃a b:Nat,x=(a:Int)∧y=(b:Int)∧a≤t.length∧b≤t.length∧sl t a b=sl t a0 b0∧Hp E w' F,fun x _ _=>t.length - x.toNat,⟨a0,b0,rfl,rfl,by omega,by omega,rfl,h⟩,?_⟩
 rintro x y w1 ⟨a,b,rfl,rfl,ha,hb,hab,h1⟩
 refine au.mk h1 fun w2 h2=> ?_
 have fin:(a<t.length→b<t.length→t.getD a 0=t.getD b 0→a=b)→aa ((a:Int)==(b:Int)) (K false w2) (aa ((b:Int)==(s.len:Int)) (K false w2) (au w2 fun w_20=>aa ((a:Int)==(s.len:Int)) (K true w_20) (aq s (a:Int) 1 fun q21=>Ld (az .u8) q21 w_20 fun x22=>aq s (b:Int) 1 fun q23=>Ld (az .u8) q23 w_20 fun x24=>K (decide (x22<x24)) w_20))):=fun hd=>by
  refine aa.mk (fun e=> ?_) (fun e=>aa.mk (fun e2=> ?_) (fun e2=>au.mk h2 fun w3 h3=>aa.mk (fun e3=> ?_) (fun e3=> ?_)))
  ·have e:a=b:=by have:=beq_iff_eq.1 e;omega
   have:=hK2 w2 h2
   rw [←hab,e,(iS t).irr] at this;exact this
  ·have e2:b=t.length:=by have:=beq_iff_eq.1 e2;omega
   have:=hK2 w2 h2
   have e4:sl t a b=false:=by unfold sl;rw [e2,List.drop_length,p9]
   rw [←hab,e4] at this;exact this
  ·have e2:b<t.length:=by have:=beq_eq_false_iff_ne.1 e2;omega
   have e3:a=t.length:=by have:=beq_iff_eq.1 e3;omega
   have:=hK2 w3 h3
   have e4:sl t a b=true:=by unfold sl;rw [e3,List.drop_length,oD e2];rfl
   rw [←hab,e4] at this;exact this
  ·have e:=beq_eq_false_iff_ne.1 e
   have e2:b<t.length:=by have:=beq_eq_false_iff_ne.1 e2;omega
   have e3:a<t.length:=by have:=beq_eq_false_iff_ne.1 e3;omega
   have hne:t.getD a 0≠t.getD b 0:=fun h=>e (by rw [hd e3 e2 h])
   refine aq.nB (h3.ag hs) rfl e3 (aq.nB (h3.ag hs) rfl e2 ?_)
   have:=hK2 w3 h3
   have e4:sl t a b=decide ((t.getD a 0:Int)<(t.getD b 0:Int)):=by
    rw [xV e3 e2,beq_eq_false_iff_ne.2 hne,Bool.false_and,Bool.or_false,decide_eq_decide];omega
   rw [←hab,e4] at this;exact this
 refine aa.mk (fun c1=>aa.mk (fun c2=> ?_) (fun c2=>fin fun _ hb' _=>by have:=of_decide_eq_false c2;omega)) (fun c1=>fin fun ha' _ _=>by have:=of_decide_eq_false c1;omega)
 have c1:a<t.length:=by have:=of_decide_eq_true c1;omega
 have c2:b<t.length:=by have:=of_decide_eq_true c2;omega
 refine aq.nB (h2.ag hs) rfl c1 (aq.nB (h2.ag hs) rfl c2 ?_)
 refine aa.mk (fun c3=>aa.mk (fun c4=> ?_) (fun c4=>fin fun _ _ _=>(by have h9:(a:Int)=(b:Int):=(by simpa using c4);omega))) (fun c3=>fin fun _ _ he=>absurd (by rw [he]) (beq_eq_false_iff_ne.1 c3))
 have c3:t.getD a 0=t.getD b 0:=by have:=beq_iff_eq.1 c3;omega
 refine ⟨⟨a+1,b+1,by rw [ad (by omega)];omega,by rw [ad (by omega)];omega,by omega,by omega,?_,h2⟩,by dsimp only;rw [ad (x:=(a:Int)+1) (by omega)];omega⟩
 rw [←hab,xV c1 c2,c3];simp
set_option maxRecDepth 20000 in
theorem EY {t:List Nat} {s:Sl} {K:Sl→World→Prop} (h:Hp E w F) (hs:ab F (aC 1 s (t.map vB))) (hn:t.length≤400000)
  (hK: ∀s' w',Hp E w' (al 1 s' ((zl (bM t)).map vI)::F)→K s' w'):Cl Tryz.prog [kS] mq ⟨[.slice s.base s.len s.cap]⟩ w K:=by
 refine CZ.ok _ _ _ ?_
 have hl:=(h.ag hs).1
 simp only [List.length_map,Nat.mul_one] at hl
 refine ⟨fun o i w'=> ∃(k:Nat) (L:List Nat),i=(k:Int)∧k≤t.length+1∧L.Perm (List.range k)∧L.Pairwise (fun a b=>sl t a b=true)∧Hp E w' (al 1 o ((zl L).map vI)::F),fun _ i _=>t.length+1 - i.toNat,⟨0,[],rfl,by omega,List.Perm.refl _,List.Pairwise.nil,h.aW 1⟩,?_⟩
 rintro o i w1 ⟨k,L,rfl,hk,hp,hpw,h1⟩
 have hLl:L.length=k:=by rw [hp.length_eq,List.length_range]
 have hol:=h1.a6
 rw [List.length_map,fJ,Nat.mul_one] at hol
 have hcap:=h1.ee
 refine aa.mk (fun hlt=> ?_) (fun hge=> ?_)
 ·have hlt:k≤t.length:=by have:=of_decide_eq_true hlt;omega
  have hin: ∀j (hj:j<L.length),L[j]<k:=fun j hj=>by
   have:=hp.mem_iff.1 (List.getElem_mem hj)
   rwa [List.mem_range] at this
  have hgd: ∀j (hj:j<L.length),(zl L).getD j 0=(L[j]:Int):=fun j hj=>by simp [zl,List.getD,hj]
  refine ⟨fun c w'=> ∃m:Nat,c=(m:Int)∧m≤k∧(∀j (hj:j<L.length),m≤j→sl t k L[j]=true)∧Hp E w' (al 1 o ((zl L).map vI)::F),fun c _=>c.toNat,⟨k,by omega,by omega,fun j hj h=>by omega,h1⟩,?_⟩
  rintro c w2 ⟨m,rfl,hm,hgt,h2⟩
  have fin: ∀{w3:World},Hp E w3 (al 1 o ((zl L).map vI)::F)→(m=0∨∃hj:m - 1<L.length,sl t k L[m - 1]=false)→
    bd o 0 (m:Int) (o.cap:Int) 1 fun s15=>ay Tryz.prog (Builtin.append_ #[33,33] 33 ⟨[.slice none 0 0,.slice s15.base s15.len s15.cap]⟩) kS w3 fun s17 w_16=>
     Nw 3 ⟨[.int .i64 (k:Int)]⟩ w_16 fun b19 w_18=>ay Tryz.prog (Builtin.append_ #[33,33] 33 ⟨[.slice s17.base s17.len s17.cap,.slice (some ⟨b19,0,none⟩) 1 1]⟩) kS w_18 fun s21 w_20=>
     bd o (m:Int) (o.len:Int) (o.cap:Int) 1 fun s22=>ay Tryz.prog (Builtin.append_ #[33,33] 33 ⟨[.slice s21.base s21.len s21.cap,.slice s22.base s22.len s22.cap]⟩) kS w_20 fun s24 w_23=>
     (∃(k':Nat) (L':List Nat),i64 ((k:Int)+1)=(k':Int)∧k'≤t.length+1∧L'.Perm (List.range k')∧L'.Pairwise (fun a b=>sl t a b=true)∧Hp E w_23 (al 1 s24 ((zl L').map vI)::F))∧t.length+1 - (i64 ((k:Int)+1)).toNat<t.length+1 - (k:Int).toNat:=fun {w3} h3 hst=>by
   refine bd.rd (h3.ag ab.own) (by omega) (by omega) (by omega) (by omega) (by omega) fun s15 h15 hl15=> ?_
   have ht15:aC 1 s15 ((zl (L.take m)).map vI) w3:=by
    have:=h15 w3 (h3.ag ab.own)
    rwa [show (0:Int).toNat=0 from rfl,List.drop_zero,Nat.sub_zero,Int.toNat_natCast,←List.map_take,show (zl L).take m=zl (L.take m) by unfold zl;rw [List.map_take]] at this
   have hA:=h3.aW 1
   refine aP (s:=⟨none,0,0⟩) (ys:=(zl (L.take m)).map vI) (n:=m) si (by decide) (.inl ⟨3,by kernel_rfl⟩) hA (.inl ⟨s15.base,s15.len,s15.cap,rfl,by rw [hl15];omega,ht15⟩) (by rw [List.length_map,fJ,List.length_take];omega) j6 (by show (2*(0+m)+1024)*8≤2^48;omega) (by show 0+m<2^62;omega) fun s17 w4 h4 hs17=> ?_
   rw [List.nil_append] at h4
   refine Kc si rfl h4 (by rw [fJ,List.length_take,aB];omega) fun s21 w5 h5 hs21=> ?_
   rw [fJ,List.length_take] at hs21
   refine bd.rd (h5.ag (ab.cons ab.own)) (by omega) (by omega) (by omega) (by omega) (by omega) fun s22 h22 hl22=> ?_
   have ht22:aC 1 s22 ((zl (L.drop m)).map vI) w5:=by
    have:=h22 w5 (h5.ag (ab.cons ab.own))
    rwa [Int.toNat_natCast,Int.toNat_natCast,←List.map_drop,List.take_of_length_le (by rw [List.length_map,List.length_drop,fJ];omega),show (zl L).drop m=zl (L.drop m) by unfold zl;rw [List.map_drop]] at this
   refine aP (ys:=(zl (L.drop m)).map vI) (n:=k - m) si (by decide) (.inl ⟨3,by kernel_rfl⟩) h5 (.inl ⟨s22.base,s22.len,s22.cap,rfl,by rw [hl22];omega,ht22⟩) (by rw [List.length_map,fJ,List.length_drop];omega) j6 (by omega) (by omega) fun s24 w6 h6 hs24=> ?_
   rw [ad (by omega)]
   refine ⟨⟨k+1,L.take m++ [k]++L.drop m,by omega,by omega,?_,?_,?_⟩,by omega⟩
   ·rw [List.range_succ]
    refine (List.Perm.append_right _ List.perm_append_comm).trans ?_
    rw [List.append_assoc,List.take_append_drop]
    exact (List.perm_append_comm (l₁:= [k]) (l₂:=L)).trans (hp.append_right _)
   ·have hlo: ∀a∈L.take m,sl t a k=true:=fun a ha=>by
     obtain ⟨j,hj,rfl⟩:=List.getElem_of_mem ha
     rw [List.length_take] at hj
     rw [List.getElem_take]
     rcases hst with h0|⟨hj1,hf⟩
     ·omega
     ·have hne:L[m - 1]≠k:=by have:=hin (m - 1) hj1;omega
      have h8:sl t L[m - 1] k=true:=by
       rcases qA t k (gX.2 hlt) L[m - 1] (gX.2 (by have:=hin (m - 1) hj1;omega)) (fun e=>hne e.symm) with h9|h9
       ·rw [hf] at h9;cases h9
       ·exact h9
      by_cases e:j=m - 1
      ·subst e;exact h8
      ·exact (iS t).trans _ _ _ (List.pairwise_iff_getElem.1 hpw j (m - 1) (by omega) hj1 (by omega)) h8
    have hhi: ∀b∈L.drop m,sl t k b=true:=fun b hb=>by
     obtain ⟨j,hj,rfl⟩:=List.getElem_of_mem hb
     rw [List.length_drop] at hj
     rw [List.getElem_drop]
     exact hgt _ (by omega) (by omega)
    rw [List.append_assoc]
    refine List.pairwise_append.2 ⟨hpw.sublist (List.take_sublist ..),List.pairwise_append.2 ⟨by simp,hpw.sublist (List.drop_sublist ..),fun a ha b hb=> ?_⟩,fun a ha b hb=> ?_⟩
    ·rw [List.mem_singleton] at ha
     subst ha;exact hhi b hb
    ·rcases List.mem_append.1 hb with hb|hb
     ·rw [List.mem_singleton] at hb
      subst hb;exact hlo a ha
     ·exact (iS t).trans _ _ _ (hlo a ha) (hhi b hb)
   ·have e:(zl (L.take m)++ [(k:Int)]).map vI++(zl (L.drop m)).map vI=(zl (L.take m++ [k]++L.drop m)).map vI:=by
     rw [F9,F9,List.map_append,List.map_append,List.map_append];rfl
    rw [e] at h6
    exact h6.p1.drop
  refine aa.mk (fun hpos=> ?_) (fun hpos=>fin h2 (.inl (by have:=of_decide_eq_false hpos;omega)))
  have hpos:0<m:=by have:=of_decide_eq_true hpos;omega
  have e1:i64 ((m:Int) - 1)=((m - 1:Nat):Int):=by rw [ad (by omega)];omega
  rw [e1]
  refine aq.nI (h2.ag ab.own) rfl (by rw [fJ];omega) ?_
  rw [hgd (m - 1) (by omega)]
  have hlm:=hin (m - 1) (by omega)
  refine Hg h2 (ab.cons hs) (by rw [aB];omega) fun w3 h3=> ?_
  have hle:vK t (k:Int) (L[m - 1]:Int)=sl t k L[m - 1]:=by
   unfold vK
   rw [decide_eq_true ⟨by omega,by omega,by omega,by omega⟩,Bool.true_and,Int.toNat_natCast,Int.toNat_natCast]
  rw [hle]
  refine aa.mk (fun hsl=> ?_) (fun hsl=>fin h3 (.inr ⟨by omega,hsl⟩))
  refine ⟨⟨m - 1,rfl,by omega,fun j hj hmj=> ?_,h3⟩,by dsimp only;omega⟩
  by_cases e:j=m - 1
  ·subst e;exact hsl
  ·exact hgt j hj (by omega)
 ·have hge:k=t.length+1:=by have:=of_decide_eq_false hge;omega
  subst hge
  have:L=bM t:=Rk.py (iS t) (hp.trans (Rk.dS (lt:=sl t) (rows t)).symm) hpw (lW t)
  rw [this] at h1
  exact hK o w1 h1
end
end Go.Proofs.YtcdpblipagajiaaGreat
