/- Texts packed together by program; spaces struck by program. Conditions: as each theorem states. -/
import Derived.Carry
import Derived.OpenShut
import Derived.ProofKit
import Derived.SizedLaws
import Derived.Test.YtgglghjnakclmaaGreatQed
set_option linter.unusedSimpArgs false
set_option linter.unusedVariables false
set_option maxRecDepth 20000
namespace Go.Proofs.YtgglghjnakclmaaGreat
open Go Go.Vc Go.Bw Go.Hs
section
variable {E w:World} {F:List HP}
set_option maxRecDepth 200000 in
theorem B9 {t:List Nat} {s:Sl} {K:Sl→Int→World→Prop} (h:Hp E w F) (hs:ag F (aG 1 s (t.map vB))) (hn:t.length≤400000)
  (hK: ∀s' w',Hp E w' (aA 1 s' ((bf t).map vB)::F)→K s' (dZ t:Int) w'):Cl Tryz.prog [kS,kI] kR ⟨[.slice s.base s.len s.cap]⟩ w K:=by
 refine zZ.ok _ _ _ ?_
 have hl:=(h.av hs).1
 simp only [List.length_map,Nat.mul_one] at hl
 refine zO h hs hn fun s3 w1 h1=> ?_
 have hl3:=h1.bU
 rw [List.length_map,gq,qc,Nat.mul_one] at hl3
 refine ⟨fun o ix i w'=> ∃k:Nat,i=(k:Int)∧k≤t.length+1∧ix=(if dZ t<k then (dZ t:Int) else 0)∧Hp E w' (aA 1 o (((((c8 t).take k).filter fun i=>i !=0).map fun i=>t.getD (i - 1) 0).map vB)::aA 1 s3 ((zl (c8 t)).map vI)::F),
  fun _ _ i _=>t.length+1 - i.toNat,⟨0,rfl,by omega,rfl,h1.aW 1⟩,?_⟩
 rintro o ix i w2 ⟨k,rfl,hk,rfl,h2⟩
 refine aa.mk (fun hlt=> ?_) (fun hge=> ?_)
 ·have hlt:k<t.length+1:=by have:=of_decide_eq_true hlt;omega
  have hko:k<(c8 t).length:=by rw [qc];exact hlt
  have hix:=CX t hko
  have hle:(c8 t)[k]≤t.length:=Dy.1 (List.getElem_mem hko)
  have e0:(zl (c8 t)).getD k 0=((c8 t)[k]:Int):=by simp [zl,List.getD,hko]
  refine aI.nI (h2.av (ag.cons ag.own)) rfl (by rw [gq];exact hko) ?_
  rw [e0]
  have hf:=qj hko
  refine aa.mk (fun hz=> ?_) (fun hz=> ?_)
  ·have hz:(c8 t)[k]=0:=by have:=beq_iff_eq.1 hz;omega
   rw [if_pos hz,List.append_nil] at hf
   have hke:=hix.1 hz
   refine ⟨⟨k+1,by rw [aj (by omega)];omega,by omega,by rw [if_pos (by omega)];omega,by rw [hf];exact h2⟩,by dsimp only;rw [aj (by omega)];omega⟩
  ·have hz:(c8 t)[k]≠0:=by have:=beq_eq_false_iff_ne.1 hz;omega
   rw [if_neg hz] at hf
   have hke:k≠dZ t:=fun e=>hz (hix.2 e)
   refine aI.nI (h2.av (ag.cons ag.own)) rfl (by rw [gq];exact hko) ?_
   rw [e0]
   have e1:i64 (((c8 t)[k]:Int) - 1)=(((c8 t)[k] - 1:Nat):Int):=by rw [aj (by omega)];omega
   rw [e1]
   refine aI.nB (h2.av (ag.cons (ag.cons hs))) rfl (by omega) ?_
   refine EA EJ rfl h2 (by rw [List.length_map,bM];exact Nat.le_trans (List.length_filter_le ..) (by rw [List.length_take];omega)) fun s' w3 h3 _=>⟨⟨k+1,by rw [aj (by omega)];omega,by omega,?_,?_⟩,by dsimp only;rw [aj (x:=(k:Int)+1) (by omega)];omega⟩
   ·by_cases e:dZ t<k
    ·rw [if_pos e,if_pos (by omega)]
    ·rw [if_neg e,if_neg (by omega)]
   ·rw [hf,List.map_append]
    exact h3
 ·have hge:k=t.length+1:=by have:=of_decide_eq_false hge;omega
  subst hge
  have hil:=yE t
  rw [if_pos (by omega)]
  rw [List.take_of_length_le (by rw [qc];exact Nat.le_refl _)] at h2
  exact hK o w2 h2.p1.drop
set_option maxRecDepth 200000 in
theorem ya {b:List Nat} {s:Sl} {K:Sl→World→Prop} (h:Hp E w F) (hs:ag F (aG 1 s (b.map vB))) (hn:b.length≤400000)
  (hK: ∀s' w',Hp E w' (aA 1 s' (b.reverse.map vB)::F)→K s' w'):Cl Tryz.prog [kS] iK ⟨[.slice s.base s.len s.cap]⟩ w K:=by
 refine vT.ok _ _ _ ?_
 have hl:=(h.av hs).1
 simp only [List.length_map,Nat.mul_one] at hl
 refine ⟨fun o i w'=> ∃k:Nat,i=(b.length:Int) - 1 - (k:Int)∧k≤b.length∧Hp E w' (aA 1 o ((b.reverse.take k).map vB)::F),fun _ i _=>(i+1).toNat,⟨0,by rw [aj (by omega)];omega,by omega,h.aW 1⟩,?_⟩
 rintro o i w1 ⟨k,rfl,hk,h1⟩
 refine aa.mk (fun hge=> ?_) (fun hlt=> ?_)
 ·have hge:k<b.length:=by have:=of_decide_eq_true hge;omega
  refine aI.nB (j:=b.length - 1 - k) (h1.av (ag.cons hs)) (by omega) (by omega) ?_
  refine EA EJ rfl h1 (by rw [List.length_take,List.length_reverse,bM];omega) fun s' w2 h2 _=>⟨⟨k+1,by rw [aj (by omega)];omega,by omega,?_⟩,by dsimp only;rw [aj (by omega)];omega⟩
  have e:b.reverse.take (k+1)=b.reverse.take k++ [b.getD (b.length - 1 - k) 0]:=by
   rw [List.take_add_one,List.getElem?_reverse hge]
   simp [List.getD,show b.length - 1 - k<b.length by omega]
  rw [e];exact h2
 ·have hke:k=b.length:=by have:=of_decide_eq_false hlt;omega
  subst hke
  rw [List.take_of_length_le (by rw [List.length_reverse];exact Nat.le_refl _)] at h1
  exact hK o w1 h1
end
end Go.Proofs.YtgglghjnakclmaaGreat
namespace Go.ao
open Go.Inc Go.Srt Go.Sym Go.aK
end Go.ao
namespace Go.Proofs.YtgglghjnakclmaaGreat
open Go Go.Vc Go.Srt Go.Inc Go.Sym Go.Tab Go.Hd Go.Bw Go.aK Go.ao Go.Crc
section
variable {E w:World} {F:List HP}
set_option maxRecDepth 20000
theorem oB {s:Sl} {x:List Nat} {K:Sl→Int→World→Prop} (h:Hp E w F) (hs:ag F (aG 1 s (x.map vB))) (hn:x.length≤400000) (hK: ∀s' w',Hp E w' (OB s' (bf x.reverse)::F)→K s' (dZ x.reverse:Int) w'):
  Cl Tryz.prog [kS,kI] eh ⟨[.slice s.base s.len s.cap]⟩ w K:=by
 refine uY.ok _ _ _ ?_
 refine ya h hs hn fun s' w h=> ?_
 exact B9 h ag.own (by simpa using hn) fun s2 w h=>hK s2 w h.fZ
theorem rO {s:Sl} {x:List Nat} {K:Sl→World→Prop} (h:Hp E w F) (hs:ag F (aG 1 s (x.map vB))) (hb: ∀y∈x,y<256) (hn:x.length≤400000) (hK: ∀s' w',Hp E w' (OI s' (syms (bf x.reverse))::F)→K s' w'):
  Cl Tryz.prog [kS] fm ⟨[.slice s.base s.len s.cap]⟩ w K:=by
 refine um.ok _ _ _ ?_
 refine oB h hs hn fun s' w h=> ?_
 exact Gd h ag.own (o6 fun y hy=>hb y (List.mem_reverse.1 hy)) (by rw [dQ,List.length_reverse];omega) fun s2 w h=>hK s2 w h.fZ
theorem AM {s:Sl} {x:List Nat} {K:Array Value→World→Prop} (h:Hp E w F) (hs:ag F (aG 1 s (x.map vB))) (hb: ∀y∈x,y<256) (hn:x.length≤400000) (hK: ∀w',Hp E w' F→K (ai .u8 (eQ x)) w'):
  Cl Tryz.prog [.arr 258] ir ⟨[.slice s.base s.len s.cap]⟩ w K:=by
 refine uu.ok _ _ _ ?_
 have h257:=vP hb
 have hfew:=wP hn
 have hct:=Gh h257
 have hall:(ints (syms (bf x.reverse))).all Hs.nL=true:=by
  refine List.all_eq_true.2 fun z hz=> ?_
  obtain ⟨y,hy,rfl⟩:=List.mem_map.1 hz
  have:=h257 y hy
  exact Hs.j8.2 (by omega)
 have hmx:=sO (ss:=syms (bf x.reverse)) (by omega)
 have hadd:Hs.eN (List.replicate 258 0) (ints (syms (bf x.reverse)))=some (ints (jj (syms (bf x.reverse)))):=by
  rw [←hct]
  exact Hs.uG (by decide) hall (by rw [hct];exact jU hmx)
 have hsz:(aT (ints (jj (syms (bf x.reverse))))).size=258:=by rw [de,dX,iP]
 have hsc:(aT (ints (jj (syms (bf x.reverse))))).toList.all ay=true:=List.all_eq_true.2 Vc.fy
 have hls:(ai .u8 (eQ x)).size=258:=by rw [aJ];exact B8 _
 have hlc:(ai .u8 (eQ x)).toList.all ay=true:=List.all_eq_true.2 cM
 refine Nw.mk h fun b3 w h=>rO h (ag.cons hs) hb hn fun s' w h=>Gn h ag.own (by rw [dX,bM];omega) fun w h=> ?_
 rw [show ed=List.replicate 258 0 from rfl,hadd]
 refine Nw.mk h fun b8 w h=>aq.q h (by simp) hsz hsc fun w h=>Ld.xw h hsz ?_
 refine FN (zN (by omega)) h fun w h=> ?_
 refine Nw.mk h fun b15 w h=>aq.q h (by simp) hls hlc fun w h=>Ld.xw h hls ?_
 refine aq.q (b:=b3) h (by simp) hls hlc fun w h=>Ld.xw (b:=b3) h hls (hK w h.tl)
theorem FG {n:Int} {s:Sl} {x:List Nat} {K:Sl→Int→World→Prop} (h:Hp E w F) (hs:ag F (aG 1 s (x.map vB))) (hb: ∀y∈x,y<256) (hn:x.length≤65536)
  (hgood:1≤n→n≤65536→1≤x.length→(x.length:Int)≤n→∀s' w',Hp E w' (OB s' (me (eQ x) x)::F)→K s' 0 w')
  (hbad: ¬(1≤n∧n≤65536∧1≤x.length∧(x.length:Int)≤n)→∀w',Hp E w' F→K ⟨none,0,0⟩ 2 w'):
  Cl Tryz.prog [kS,kI] kD ⟨[.int .i64 n,.slice s.base s.len s.cap]⟩ w K:=by
 refine Ag.ok _ _ _ _ ?_
 have hlen:x.length=s.len:=qR (h.av hs)
 refine oB h hs (by omega) fun s4 w h=>Nw.mk h fun b7 w h=> ?_
 have hcrc:lH x<4294967296:=rf hb
 refine EV (s:=⟨some ⟨b7,0,none⟩,1,1⟩) (cs:= [s]) (bs:= [x]) h (ag.aD rfl rfl) rfl (by rw [bM];simp) (fun i hi=> ?_) (by simpa using hb) (by simp [bM];omega) ?_
 ·match i,hi with
  |0,_=>exact ag.cons (ag.cons hs)
 rw [show [x].flatten=x by simp,show (s.len:Int)=(x.length:Int) by omega]
 have hidx:dZ x.reverse≤x.length:=by
  by_cases h0:x= []
  ·subst h0;decide
  ·have:=oo (t:=x.reverse) (by rw [List.length_reverse];exact List.length_pos_iff.2 h0)
   rw [List.length_reverse] at this;omega
 refine A3 h (by omega) (by omega) hcrc (fun h1 h2 h3 h4 h5 h6 s11 w h=> ?_) (fun hno w h=> ?_)
 ·refine aa.nf rfl ?_
  have hL:=j7 h3 (by omega) hb
  have hls:(ai .u8 (eQ x)).size=258:=by rw [aJ];exact hL.len
  have hlc:(ai .u8 (eQ x)).toList.all ay=true:=List.all_eq_true.2 cM
  have h15:=ru hL.ok
  have h8: ∀y∈eQ x,y≤255:=fun y hy=>by have:=h15 y hy;omega
  refine AM h (ag.cons (ag.cons (ag.cons hs))) hb (by omega) fun w h=> ?_
  refine Nw.mk h fun b16 w h=> ?_
  refine aq.q h (by simp) hls hlc fun w h=> ?_
  refine Ld.xw h hls ?_
  refine FU h hL.len h8 (fun hno=>absurd hL.ok (by rw [hno];decide)) fun _ s20 w h=> ?_
  have h:=h.drew (n:=w.drawn+1)
  refine ⟨cr b16 _ _ _,h.hb,ad.xw (fun _ h=>h) hls ?_⟩
  have hsl:=wP (x:=x) (by omega)
  have hsl2:=k6 (bf x.reverse)
  rw [dQ,List.length_reverse] at hsl2
  refine rO h (ag.cons (ag.cons (ag.cons (ag.cons (ag.cons hs))))) hb (by omega) fun s26 w h=>⟨h.hb,?_⟩
  refine F9 h hL.len h8 ag.own (by rw [dX];omega) (fun hno=>absurd ⟨hL.v,Cn hL.good (vP hb)⟩ hno) fun _ _ s28 w h=>⟨h.hb,?_⟩
  rw [lj] at h
  have htl:=nh hL.len hL.ok
  have hel:=mq hL.v (ints (syms (bf x.reverse)))
  rw [lj,dX] at hel
  refine zM (h.at 2) ag.own (by omega) (by omega) fun s31 w h=> ?_
  refine CN h ag.own (nZ _ _) (by rw [List.length_append];omega) fun s33 w h=> ?_
  have hpl:=nr (lQ (eQ x)++enc (eQ x) (syms (bf x.reverse)))
  rw [List.length_append] at hpl
  have hml:(jC x.length (dZ x.reverse) (lH x)).length≤20:=by
   have h1:=dr (n:=x.length) (by omega)
   have h2:=dr (n:=dZ x.reverse) (by omega)
   unfold jC
   simp [jQ]
   omega
  refine oQ (h.at 5) ag.own (by omega) (by omega) fun s35 w h=>hgood h1 h2 h3 h4 s35 w ?_
  exact h.fZ
 ·refine aa.nt (by decide) (hbad (fun hh=>hno ?_) w h.tl)
  have:=oo (t:=x.reverse) (by rw [List.length_reverse];omega)
  rw [List.length_reverse] at this
  exact ⟨hh.1,hh.2.1,hh.2.2.1,hh.2.2.2,this.1,this.2⟩
end
end Go.Proofs.YtgglghjnakclmaaGreat
namespace Go.Proofs.YtgglghjnakclmaaGreat
open Go Go.Vc
set_option maxRecDepth 100000
theorem xS.ok (a:Sl) (R:Bool→World→Prop) w (h:
 cZ 0 0 w fun b c (d:Int) (e:Int) f=>
 aa (decide (e<(a.len:Int)))
 (aa (decide (e≤20))
 (aa (decide (d≤150))
 (aI a e 1 fun g=>
 Ld kS g f fun (h:Sl)=>
 b (i64 (d+(if (200:Int)<(h.len:Int) then (200:Int) else (h.len:Int)))) (i64 (e+1)) f∧c (i64 (d+(if (200:Int)<(h.len:Int) then (200:Int) else (h.len:Int)))) (i64 (e+1)) f<c d e f)
 (aa (decide ((a.len:Int)>20))
 (R true f)
 (R (decide (d>150)) f)))
 (aa (decide ((a.len:Int)>20))
 (R true f)
 (R (decide (d>150)) f)))
 (aa (decide ((a.len:Int)>20))
 (R true f)
 (R (decide (d>150)) f))):Cl Pg [kB] jy ⟨[(an a)]⟩ w R:=co Tryz.f24 [(7,[(3,kI),(4,kI)])] h
theorem ym.ok (a:Int) (b:Sl) (R:Sl→Int→World→Prop) w (h:
 Cl Pg [kS,kI] lY ⟨[(.agg ⟨[(ni a)]⟩)]⟩ w fun (d:Sl) (e:Int) c=>
 aa (e !=0)
 (R (⟨none,0,0⟩:Sl) 2 c)
 (Cl Pg [kS] iu ⟨[(ni a),(an b)]⟩ c fun (g:Sl) f=>
 cZ d 0 f fun h i (j:Sl) (k:Int) l=>
 aa (decide (k<(g.len:Int)))
 (aI g k 1 fun m=>
 Ld kS m l fun (n:Sl)=>
 Cl Pg [kS,kI] kD ⟨[(ni a),(an n)]⟩ l fun (p:Sl) (q:Int) o=>
 aw Pg (Builtin.append_ #[26,26] 26 ⟨[(an j),(an p)]⟩) kS o fun (s:Sl) r=>
 h s (i64 (k+1)) r∧i s (i64 (k+1)) r<i j k l)
 (Cl Pg [(az .u32)] jX ⟨[(an b)]⟩ l fun (u:Int) t=>
 Cl Pg [kS] iQ ⟨[(.int .u32 u)]⟩ t fun (x:Sl) v=>
 aw Pg (Builtin.append_ #[26,26] 26 ⟨[(an j),(an x)]⟩) kS v fun (z:Sl) y=>
 R z 0 y))):Cl Pg [kS,kI] jG ⟨[(ni a),(an b)]⟩ w R:=co Tryz.f25 [(14,[(6,kS),(9,kI)])] h
theorem At.ok (a:Int) (b:Sl) (R:Sl→World→Prop) w (h:
 cZ (⟨none,0,0⟩:Sl) 0 w fun c d (e:Sl) (f:Int) g=>
 aa (decide (f<(b.len:Int)))
 (cZ e 0 g fun h i (j:Sl) (k:Int) l=>
 aI b f 1 fun m=>
 Ld kS m l fun (n:Sl)=>
 aa (decide (k<(n.len:Int)))
 (fN l fun o p=>
 aI b f 1 fun q=>
 ad kS q o fun (r:Sl)=>
 aI b f 1 fun s=>
 ad kS s o fun (t:Sl)=>
 bF r k (if (t.len:Int)<(i64 (k+a)) then (t.len:Int) else (i64 (k+a))) (r).cap 1 fun u=>
 Nw 26 ⟨[(an u)]⟩ p fun x v=>
 o v∧
 aw Pg (Builtin.append_ #[47,47] 47 ⟨[(an j),(an (⟨some ⟨x,0,none⟩,1,1⟩:Sl))]⟩) kS v fun (z:Sl) y=>
 o y∧
 h z (i64 (k+a)) y∧i z (i64 (k+a)) y<i j k l)
 (c j (i64 (f+1)) l∧d j (i64 (f+1)) l<d e f g))
 (R e g)):Cl Pg [kS] iu ⟨[(ni a),(an b)]⟩ w R:=co Tryz.f26 [(7,[(5,kS),(6,kI)]),(14,[(5,kS),(7,kI)])] h
end Go.Proofs.YtgglghjnakclmaaGreat
namespace Go.Vc
open Go Go.Stm
end Go.Vc
namespace Go.Proofs.YtgglghjnakclmaaGreat
open Go Go.Vc Go.Stm
section
variable {E w:World} {F:List HP}
set_option maxRecDepth 20000
structure fI (s:Sl) (ps:List (Sl×List Nat)) (w:World):Prop where
 tab:aG 1 s (ps.map fun x=> .slice x.1.base x.1.len x.1.cap) w
 each: ∀x∈ps,aG 1 x.1 (x.2.map vB) w
structure wY (ps:List (Sl×List Nat)):Prop where
 caps: ∀x∈ps,x.1.len≤x.1.cap
 few:ps.length≤g7
 small: ∀x∈ps,x.2.length≤g7
end
end Go.Proofs.YtgglghjnakclmaaGreat
namespace Go.Vc
open Go
theorem bF.Kb {w:World} {s:Sl} {xs:List Value} {lo hi mx:Int} {K:Sl→Prop} (hs:aG 1 s xs w) (h0:0≤lo) (h1:lo≤hi) (h2:hi≤(s.len:Int)) (h3:hi≤mx) (h4:mx≤(s.cap:Int))
  (h: ∀s':Sl,(∀w',aG 1 s xs w'→aG 1 s' ((xs.drop lo.toNat).take (hi.toNat - lo.toNat)) w')→s'.len=hi.toNat - lo.toNat→s'.len≤s'.cap→K s'):bF s lo hi mx 1 K:=by
 obtain ⟨a,b,c,d,e⟩:=bF.rd (K:=fun s'=>s'.len≤s'.cap→K s') hs h0 h1 h2 h3 h4 fun s' a b c=>h s' a b c
 exact ⟨a,b,c,d,e (by simp only;omega)⟩
end Go.Vc
namespace Go.Stm
theorem uM: ∀l:List (List Nat),(∀x∈l,0<x.length)→l.length≤l.flatten.length
 | [],_=>by simp
 |x::l,h=>by
  have h1:=h x List.mem_cons_self
  have h2:=uM l fun y hy=>h y (List.mem_cons_of_mem _ hy)
  rw [List.length_cons,List.flatten_cons,List.length_append];omega
theorem qe {n:Nat} (hn:0<n) (l:List (List Nat)):(bA n l).length≤l.flatten.length:=by
 have:=uM (bA n l) fun x hx=>(vM hn x hx).1
 rwa [tV hn] at this
theorem CP (n:Nat) (x:List Nat) (l:List (List Nat)):bA n (x::l)=kW n x++bA n l:=by unfold bA;rw [List.flatMap_cons]
def lG (l:List (List Nat)):Nat:=(l.map fun b=>min b.length 200).sum
theorem Et (l:List (List Nat)) (b:List Nat):lG (l++ [b])=lG l+min b.length 200:=by unfold lG;simp
theorem wA: ∀l:List (List Nat),lG l≤150→l.flatten.length≤150∧l.flatten.length=lG l
 | [],_=>by simp [lG]
 |x::l,h=>by
  have e:lG (x::l)=min x.length 200+lG l:=by unfold lG;simp
  rw [e] at h
  have ih:=wA l (by omega)
  rw [e,List.flatten_cons,List.length_append];omega
end Go.Stm
namespace Go.Proofs.YtgglghjnakclmaaGreat
open Go Go.Vc Go.Stm
section
variable {E w:World} {F:List HP}
set_option maxRecDepth 20000
theorem Ij:bZ Tryz.prog 47 26 1 24:=bZ.of (by kernel_rfl) (by kernel_rfl)
theorem Aw {s:Sl} {ps:List (Sl×List Nat)} {K:Bool→World→Prop} (hs:fI s ps w) (hK: ∀b:Bool,(b=false→ps.length≤20∧(ps.map Prod.snd).flatten.length≤150)→K b w):
  Cl Tryz.prog [kB] jy ⟨[.slice s.base s.len s.cap]⟩ w K:=by
 refine xS.ok _ _ _ ?_
 have hlen:ps.length=s.len:=by have:=hs.tab.1;simpa using this
 refine ⟨fun n i w'=>w'=w∧∃k:Nat,i=(k:Int)∧k≤ps.length∧k≤21∧n=((lG ((ps.take k).map Prod.snd):Nat):Int)∧lG ((ps.take k).map Prod.snd)≤350,fun _ i _=>ps.length - i.toNat,⟨rfl,0,rfl,by omega,by omega,rfl,by simp [lG]⟩,?_⟩
 rintro n i w' ⟨rfl,k,rfl,hk,hk21,rfl,hg⟩
 refine aa.dm (fun hlt=> ?_) (fun hge=> ?_)
 ·have hlt:k<ps.length:=by omega
  refine aa.dm (fun h20=> ?_) (fun h20=>aa.dt (by omega) (hK true (fun hh=>by cases hh)))
  refine aa.dm (fun h150=> ?_) (fun h150=> ?_)
  ·refine aI.rd hs.tab (by omega) (by omega) fun q _ hq=> ?_
   have hT:=(hs.each _ (List.getElem_mem hlt)).1
   rw [List.length_map,Nat.mul_one] at hT
   refine Ld.sc (s:= .sl) ps[k].1 (by rw [hq];simp [Sc.enc]) ?_
   have hst:lG ((ps.take (k+1)).map Prod.snd)=lG ((ps.take k).map Prod.snd)+min ps[k].2.length 200:=by
    rw [List.take_add_one,List.getElem?_eq_getElem hlt,List.map_append]
    exact Et _ _
   have e:(if (200:Int)<(ps[k].1.len:Int) then (200:Int) else (ps[k].1.len:Int))=((min ps[k].2.length 200:Nat):Int):=by
    split<;>omega
   rw [e,aj (by omega),aj (by omega)]
   exact ⟨⟨rfl,k+1,rfl,by omega,by omega,by rw [hst];omega,by omega⟩,by first|omega|(dsimp only;omega)⟩
  ·refine aa.dm (fun _=>hK true (fun hh=>by cases hh)) (fun h2=> ?_)
   rw [decide_eq_true (by omega)]
   exact hK true (fun hh=>by cases hh)
 ·have hk2:k=ps.length:=by omega
  subst hk2
  rw [List.take_of_length_le (Nat.le_refl _)] at hg⊢
  refine aa.dm (fun _=>hK true (fun hh=>by cases hh)) (fun h2=>hK _ fun hh=> ?_)
  have:=of_decide_eq_false hh
  exact ⟨by omega,(wA _ (by omega)).1⟩
theorem Dd {ps:List (Sl×List Nat)} (hc: ∀x∈ps,x.1.len≤x.1.cap) (h1:ps.length≤20) (h2:(ps.map Prod.snd).flatten.length≤150):wY ps where
 caps:=hc
 few:=by rw [bM];omega
 small:=fun x hx=>by
  have:x.2.length≤(ps.map Prod.snd).flatten.length:=(List.sublist_flatten_of_mem (List.mem_map.2 ⟨x,hx,rfl⟩)).length_le
  rw [bM];omega
theorem tu {n:Nat} {s:Sl} {ps:List (Sl×List Nat)} {K:Sl→World→Prop} (h:Hp E w F) (hs:ag F (fI s ps)) (hp:wY ps) (hn:0<n) (hn2:n≤65536) (hsm:(ps.map Prod.snd).flatten.length≤100000)
  (hK: ∀(pcs:List (Sl×List Nat)) (s':Sl) (w':World),pcs.map Prod.snd=bA n (ps.map Prod.snd)→(∀x∈pcs,x.1.len≤x.1.cap)→(∀w,fI s ps w→∀x∈pcs,aG 1 x.1 (x.2.map vB) w)→Hp E w' (aA 1 s' (pcs.map fun x=> .slice x.1.base x.1.len x.1.cap)::F)→K s' w'):
  Cl Tryz.prog [kS] iu ⟨[.int .i64 (n:Int),.slice s.base s.len s.cap]⟩ w K:=by
 refine At.ok _ _ _ _ ?_
 have hlen:ps.length=s.len:=by have:=(h.av hs).tab.1;simpa using this
 have hfew:=hp.few
 rw [bM] at hfew
 have hcl:=qe hn (ps.map Prod.snd)
 refine ⟨fun o i w=> ∃(k:Nat) (pcs:List (Sl×List Nat)),i=(k:Int)∧k≤ps.length∧pcs.map Prod.snd++bA n ((ps.drop k).map Prod.snd)=bA n (ps.map Prod.snd)∧(∀x∈pcs,x.1.len≤x.1.cap)∧(∀w,fI s ps w→∀x∈pcs,aG 1 x.1 (x.2.map vB) w)∧
  Hp E w (aA 1 o (pcs.map fun x=> .slice x.1.base x.1.len x.1.cap)::F),fun _ i _=>ps.length - i.toNat,⟨0,[],rfl,by omega,rfl,by simp,by simp,h.aW 1⟩,?_⟩
 rintro o i w ⟨k,pcs,rfl,hk,hcut,hcap,hT,h⟩
 refine aa.dm (fun hlt=> ?_) (fun hge=> ?_)
 ·have hlt:k<ps.length:=by omega
  have hmem:ps[k]∈ps:=List.getElem_mem hlt
  have hc:=hp.caps _ hmem
  have hs1:=hp.small _ hmem
  rw [bM] at hs1
  rw [List.drop_eq_getElem_cons hlt,List.map_cons,CP] at hcut
  have hl1:ps[k].2.length=ps[k].1.len:=qR ((h.av hs.cons).each _ hmem)
  refine ⟨fun o a w=> ∃(j:Nat) (pcs:List (Sl×List Nat)),a=(j:Int)∧j≤ps[k].2.length+65536∧pcs.map Prod.snd++(kW n (ps[k].2.drop j)++bA n ((ps.drop (k+1)).map Prod.snd))=bA n (ps.map Prod.snd)∧(∀x∈pcs,x.1.len≤x.1.cap)∧(∀w,fI s ps w→∀x∈pcs,aG 1 x.1 (x.2.map vB) w)∧
   Hp E w (aA 1 o (pcs.map fun x=> .slice x.1.base x.1.len x.1.cap)::F),fun _ a _=>ps[k].1.len - a.toNat,⟨0,pcs,rfl,by omega,hcut,hcap,hT,h⟩,?_⟩
  rintro o a w ⟨j,pcs,rfl,hj,hcut,hcap,hT,h⟩
  have hPW: ∀{w:World} {A:HP},Hp E w (A::F)→fI s ps w:=fun h=>h.av hs.cons
  refine aI.rd (hPW h).tab (by omega) (by omega) fun q _ hq=> ?_
  refine Ld.sc (s:= .sl) ps[k].1 (by rw [hq];simp [Sc.enc]) ?_
  refine aa.dm (fun hlt2=> ?_) (fun hge2=> ?_)
  ·have hlt2:j<ps[k].2.length:=by omega
   have h:=h.drew (n:=w.drawn+1)
   refine ⟨fI s ps,hPW h,?_⟩
   refine aI.GZ (sc:= .sl) (hPW h).tab (fun _ h=>h.tab) rfl (by simpa using hlt) ps[k].1 (by simp [Sc.enc,hlt]) ?_
   refine aI.GZ (sc:= .sl) (hPW h).tab (fun _ h=>h.tab) rfl (by simpa using hlt) ps[k].1 (by simp [Sc.enc,hlt]) ?_
   rw [aj (x:=(j:Int)+(n:Int)) (by omega)]
   have hhi:(if (ps[k].1.len:Int)<(j:Int)+(n:Int) then (ps[k].1.len:Int) else (j:Int)+(n:Int))=((min (j+n) ps[k].1.len:Nat):Int):=by split<;>omega
   rw [hhi]
   refine bF.Kb ((hPW h).each _ hmem) (by omega) (by omega) (by omega) (by omega) (by omega) fun s' hs' hl' hsc=> ?_
   simp only [Int.toNat_natCast] at hs' hl'
   have hne:ps[k].2.drop j≠ []:=fun e=>by have:=congrArg List.length e;rw [List.length_drop] at this;simp at this;omega
   rw [p0 hne hn,List.drop_drop] at hcut
   have etk:(((ps[k].2.map vB).drop j).take (min (j+n) ps[k].1.len - j))=((ps[k].2.drop j).take n).map vB:=by
    rw [←List.map_drop,←List.map_take]
    congr 1
    rcases Nat.le_total (j+n) ps[k].1.len with h1|h1
    ·rw [Nat.min_eq_left h1,show j+n - j=n by omega]
    ·rw [Nat.min_eq_right h1,List.take_of_length_le (by rw [List.length_drop];omega),List.take_of_length_le (by rw [List.length_drop];omega)]
   rw [etk] at hs'
   have hpl:=h.bU
   rw [List.length_map,Nat.mul_one] at hpl
   have hpc:pcs.length≤100000:=by
    have:=congrArg List.length hcut
    rw [List.length_append,List.length_map] at this
    omega
   refine Nw.mk h fun b23 w h=>⟨h.av hs.cons.cons,?_⟩
   refine bq (ys:= [.slice s'.base s'.len s'.cap]) (n:=1) Ij (by decide) (.inl ⟨26,by kernel_rfl⟩) h.p1 (.inl ⟨some ⟨b23,0,none⟩,1,1,rfl,rfl,h.av (ag.aD rfl rfl)⟩) rfl (by
    intro z hz
    rw [List.mem_singleton] at hz
    rw [hz];rfl) (by omega) (by omega) fun s2 w h _=>⟨h.av hs.cons.cons,?_⟩
   refine ⟨⟨j+n,pcs++ [(s',(ps[k].2.drop j).take n)],by omega,by omega,?_,?_,?_,?_⟩,by first|omega|(dsimp only;omega)⟩
   ·rw [←hcut];simp
   ·intro x hx
    rcases List.mem_append.1 hx with hx|hx
    ·exact hcap x hx
    ·rw [List.mem_singleton] at hx;rw [hx];exact hsc
   ·intro w hw x hx
    rcases List.mem_append.1 hx with hx|hx
    ·exact hT w hw x hx
    ·rw [List.mem_singleton] at hx;rw [hx];exact hs' w (hw.each _ hmem)
   ·rw [List.map_append]
    exact h.p1.drop
  ·have e0:ps[k].2.drop j= []:=List.drop_of_length_le (by omega)
   rw [e0,p7,List.nil_append] at hcut
   rw [aj (by omega)]
   exact ⟨⟨k+1,pcs,rfl,by omega,hcut,hcap,hT,h⟩,by first|omega|(dsimp only;omega)⟩
 ·have hk2:k=ps.length:=by omega
  subst hk2
  rw [List.drop_of_length_le (Nat.le_refl _),List.map_nil,show bA n []= [] from rfl,List.append_nil] at hcut
  exact hK pcs o w hcut hcap hT h
end
end Go.Proofs.YtgglghjnakclmaaGreat
set_option maxRecDepth 20000
namespace Go.ao
open Go.Inc Go.Srt Go.Sym Go.aK Go.Tab Go.Bw Go.Pm
noncomputable def ET:List Nat:=Proofs.YtgglghjnakclmaaGreat.gv (List.replicate 258 1) (eI (List.replicate 258 1)) 15
theorem sN {s:Nat} (h:s<258):(List.replicate 258 1).getD s 0=1:=by
 rw [List.getD_eq_getElem?_getD,List.getElem?_replicate,if_pos h];rfl
theorem Aj {last:List Nat} (hb: ∀x∈last,x<256):p9 ET last:=
 yC List.length_replicate (fun x hx=>by rw [(List.mem_replicate.1 hx).2];decide) (sE _) (by rw [sN (by decide)];decide) ⟨0,by decide,by rw [sN (by decide)];decide⟩ (fun s hs=>by rw [sN (by have:=oX hb s hs;omega)];decide) hb
noncomputable def dH (x:List Nat):List Nat:=if x.length≤1000000 then eQ x else ET
theorem l0 {x:List Nat} (h:x.length≤1000000):dH x=eQ x:=by unfold dH;rw [if_pos h]
theorem IH:Stm.dv dH:=fun x h0 hb=>by
 unfold dH
 split
 ·rename_i h
  exact j7 h0 h hb
 ·exact Aj (o6 fun y hy=>hb y (List.mem_reverse.1 hy))
end Go.ao
namespace Go.ao
open Go.Inc Go.Srt Go.Sym Go.aK Go.Tab Go.Hd Go.Crc Go.Bw Go.Proofs.YtgglghjnakclmaaGreat
theorem oJ: ∀(l:List (List Nat)),(∀x∈l,0<x.length∧x.length≤65536∧∀y∈x,y<256)→(Stm.blocks dH l).length≤200000*l.length
 | [],_=>by simp [Stm.blocks]
 |x::l,h=>by
  have h1:=h x List.mem_cons_self
  have h2:=tX h1.1 h1.2.2 h1.2.1
  have h3:=oJ l fun y hy=>h y (List.mem_cons_of_mem _ hy)
  unfold Stm.blocks at h3⊢
  rw [List.flatMap_cons,List.length_append,List.length_cons]
  unfold Stm.mK at h3⊢
  rw [l0 (by omega)]
  omega
end Go.ao
namespace Go.Proofs.YtgglghjnakclmaaGreat
open Go Go.Vc Go.Srt Go.Inc Go.Sym Go.Tab Go.Hd Go.Bw Go.aK Go.ao Go.Crc Go.Stm
section
variable {E w:World} {F:List HP}
set_option maxRecDepth 20000
end
end Go.Proofs.YtgglghjnakclmaaGreat
namespace Go.Proofs.YtgglghjnakclmaaGreat
open Go Go.Vc Go.Srt Go.Inc Go.Sym Go.Tab Go.Hd Go.Bw Go.aK Go.ao Go.Crc Go.Stm
section
variable {E w:World} {F:List HP}
set_option maxRecDepth 20000
theorem CV {n:Nat} {K:Sl→Int→World→Prop} (h:Hp E w F) (hn:n≤65536) (h0:0<n) (hK: ∀s w',Hp E w' (OB s (iJ n)::F)→K s 0 w'):Cl Tryz.prog [kS,kI] lY ⟨[.agg ⟨[.int .i64 (n:Int)]⟩]⟩ w K:=by
 refine BA.ok ((n:Int),()) _ _ ?_
 refine Nw.mk h fun b3 w h=> ?_
 refine Ld.xb (b:=b3) h rfl (aa.df (by omega) (Ld.xb (b:=b3) h rfl (aa.df (by omega) (Ld.xb (b:=b3) (x:=(n:Int)) h rfl ?_))))
 refine sB h hn fun s w h=>Nw.mk h fun b11 w h=> ?_
 have h:=Hp.ia (n:=3) (sz:=1) h rfl
 have hl:=dr hn
 refine oQ (s:=⟨some ⟨b11,0,none⟩,3,3⟩) (xs:= [87,80,1]) (ys:=fg n) h ag.own (by decide) (by omega) fun s' w h=>hK s' w ?_
 exact (h.no 1).no 1
theorem Dm {c:Nat} {K:Sl→World→Prop} (h:Hp E w F) (hc:c<4294967296) (hK: ∀s w',Hp E w' (OB s (jA c)::F)→K s w'):Cl Tryz.prog [kS] iQ ⟨[.int .u32 (c:Int)]⟩ w K:=by
 refine uQ.ok _ _ _ (Nw.mk h fun b3 w h=> ?_)
 refine Bk h hc fun s w h=> ?_
 have h:=Hp.ia (n:=1) (sz:=1) (h.at 1) rfl
 refine oQ (s:=⟨some ⟨b3,0,none⟩,1,1⟩) (xs:= [0]) (ys:=jQ c) h ag.own (by decide) (show 4≤_ by decide) fun s' w h=>hK s' w ?_
 exact h.no 1
theorem Ab {n:Nat} {s:Sl} {ps:List (Sl×List Nat)} {K:Sl→Int→World→Prop} (h:Hp E w F) (hn:1≤n) (hn2:n≤65536) (hg:ag F (fI s ps)) (hp:wY ps) (hb: ∀x∈ps,∀y∈x.2,y<256) (hsm:(ps.map Prod.snd).flatten.length≤100000)
  (hK: ∀s' w',Hp E w' (OB s' (np dH n (ps.map Prod.snd))::F)→K s' 0 w'):Cl Tryz.prog [kS,kI] jG ⟨[.int .i64 (n:Int),.slice s.base s.len s.cap]⟩ w K:=by
 have hbf: ∀c∈(ps.map Prod.snd).flatten,c<256:=fun c hc=>by
  obtain ⟨l,hl,hc⟩:=List.mem_flatten.1 hc
  obtain ⟨x,hx,rfl⟩:=List.mem_map.1 hl
  exact hb x hx c hc
 have hok:=iG (n:=n) hn hbf
 have hcf:=qe hn (ps.map Prod.snd)
 refine ym.ok _ _ _ _ (CV h hn2 hn fun s4 w h=>aa.nf rfl ?_)
 refine tu h hg.cons hp hn hn2 hsm fun pcs s7 w hpc hcap hpw h=> ?_
 have hpl:pcs.length=(bA n (ps.map Prod.snd)).length:=by rw [←hpc,List.length_map]
 have hl7:pcs.length=s7.len:=by have:=h.bU;simpa using this
 have hblen: ∀i,(iJ n++blocks dH ((bA n (ps.map Prod.snd)).take i)).length≤200000*i+10:=fun i=>by
  have h1:=oJ ((bA n (ps.map Prod.snd)).take i) fun x hx=>⟨(hok x (List.mem_of_mem_take hx)).1,Nat.le_trans (hok x (List.mem_of_mem_take hx)).2.1 hn2,(hok x (List.mem_of_mem_take hx)).2.2⟩
  have h2:=dr hn2
  have h3:((bA n (ps.map Prod.snd)).take i).length≤i:=by rw [List.length_take];omega
  have h4:=Nat.mul_le_mul_left 200000 h3
  rw [List.length_append]
  unfold iJ
  simp only [List.length_append,List.length_cons,List.length_nil]
  omega
 refine ⟨fun out i w'=> ∃k:Nat,i=(k:Int)∧k≤pcs.length∧Hp E w' (OB out (iJ n++blocks dH ((bA n (ps.map Prod.snd)).take k))::aA 1 s7 (pcs.map fun x=> .slice x.1.base x.1.len x.1.cap)::F),fun _ i _=>pcs.length - i.toNat,⟨0,rfl,by omega,?_⟩,?_⟩
 ·have e:iJ n++blocks dH ((bA n (ps.map Prod.snd)).take 0)=iJ n:=by simp [blocks]
  rw [e]
  exact h.at 1
 ·rintro out i w ⟨k,rfl,hk,h⟩
  have hbl:=hblen k
  have hgw: ∀{A B:HP},ag (A::B::F) (fI s ps):=hg.cons.cons
  refine aa.dm (fun hlt=> ?_) (fun hge=> ?_)
  ·have hlt:k<pcs.length:=by omega
   have hkc:k<(bA n (ps.map Prod.snd)).length:=by omega
   refine aI.rd (h.av (ag.at 1 ag.own)) (by omega) (by omega) fun q _ hq=> ?_
   refine Ld.sc (s:= .sl) pcs[k].1 (by rw [hq];simp [Sc.enc]) ?_
   have hx:pcs[k].2=(bA n (ps.map Prod.snd))[k]:=by
    have:=List.getElem_map Prod.snd (l:=pcs) (i:=k) (h:=by simpa using hlt)
    rw [←this]
    simp only [hpc]
   obtain ⟨c0,c1,c2⟩:=hok _ (List.getElem_mem hkc)
   refine FG (x:=(bA n (ps.map Prod.snd))[k]) h (hgw.imp fun w hw=>by rw [←hx];exact hpw w hw _ (List.getElem_mem hlt)) c2 (by omega) (fun _ _ _ _ s16 w h=> ?_) (fun hno=>absurd ⟨by omega,by omega,c0,by omega⟩ hno)
   have hbs:=tX c0 c2 (by omega)
   refine oQ (h.at 1) (ag.own) (by omega) (by omega) fun s19 w h=> ?_
   have e:iJ n++blocks dH ((bA n (ps.map Prod.snd)).take k)++me (eQ (bA n (ps.map Prod.snd))[k]) (bA n (ps.map Prod.snd))[k]=iJ n++blocks dH ((bA n (ps.map Prod.snd)).take (k+1)):=by
    rw [List.append_assoc,List.take_add_one,List.getElem?_eq_getElem hkc]
    unfold blocks mK
    rw [List.flatMap_append,Option.toList_some,List.flatMap_singleton,l0 (by omega)]
   rw [e] at h
   rw [aj (by omega)]
   exact ⟨⟨k+1,by omega,by omega,h.no 1⟩,by first|omega|(dsimp only;omega)⟩
  ·have hk2:k=pcs.length:=by omega
   subst hk2
   rw [hpl,List.take_of_length_le (Nat.le_refl _)] at h
   rw [hpl] at hbl
   rw [List.take_of_length_le (Nat.le_refl _)] at hbl
   have hcr:=rf hbf
   refine EV (cs:=ps.map Prod.fst) (bs:=ps.map Prod.snd) h (hgw.imp fun w hw=>by have:=hw.tab;rwa [List.map_map]) (by simp) (by rw [List.length_map];exact hp.few) (fun i hi=> ?_) (fun b hbm y hy=> ?_) (fun b hbm=> ?_) ?_
   ·rw [List.length_map] at hi
    refine hgw.imp fun w hw=> ?_
    have:=hw.each ps[i] (List.getElem_mem hi)
    rw [List.getD_eq_getElem?_getD,List.getElem?_map,List.getElem?_eq_getElem hi]
    simpa using this
   ·obtain ⟨x,hx,rfl⟩:=List.mem_map.1 hbm
    exact hb x hx y hy
   ·obtain ⟨x,hx,rfl⟩:=List.mem_map.1 hbm
    exact hp.small x hx
   ·refine Dm h hcr fun s23 w h=> ?_
    refine oQ (h.at 1) (ag.own) (by omega) (show 5≤_ by decide) fun s25 w h=>hK s25 w ?_
    rw [List.append_assoc] at h
    exact (h.no 1).no 1
end
end Go.Proofs.YtgglghjnakclmaaGreat
set_option maxRecDepth 20000
namespace Go.Bw
open Go Go.Vc Go.Rk
end Go.Bw
namespace Go.Proofs.YtgglghjnakclmaaGreat
open Go Go.Vc
section
variable {w:World}
set_option maxRecDepth 200000 in
theorem EM {s:Sl} {b:List Nat} {K:ByteArray→World→Prop} (hs:aG 1 s (b.map vB) w) (hK:K (strOf b) w):aw Tryz.prog (convert 26 9 (.slice s.base s.len s.cap)) sy w K:=
 oa (s:=s) (b:=b) (e:=5) (by kernel_rfl) (by kernel_rfl) (by kernel_rfl) hs hK
end
end Go.Proofs.YtgglghjnakclmaaGreat
namespace Go.Stm
open Go.Inc Go.Srt Go.Sym Go.aK Go.Tab Go.Hd Go.Crc Go.Bw Go.ao Go.Proofs.YtgglghjnakclmaaGreat
theorem Hx {n:Nat} {parts:List (List Nat)} (hn:0<n) (hb: ∀c∈parts.flatten,c<256): ∀y∈np dH n parts,y<256:=by
 unfold np
 intro y hy
 rcases List.mem_append.1 hy with hy|hy
 ·unfold iJ at hy
  rcases List.mem_append.1 hy with hy|hy
  ·simp at hy;omega
  ·exact wS _ y hy
 ·rcases List.mem_append.1 hy with hy|hy
  ·obtain ⟨x,hx,hy⟩:=List.mem_flatMap.1 hy
   have:=iG hn hb x hx
   unfold mK me jC at hy
   rcases List.mem_append.1 hy with hy|hy
   ·rcases List.mem_cons.1 hy with rfl|hy
    ·decide
    ·rcases List.mem_append.1 hy with hy|hy
     ·rcases List.mem_append.1 hy with hy|hy
      ·exact wS _ y hy
      ·exact wS _ y hy
     ·exact EH _ y hy
   ·exact CR (nZ _ _) _ y hy
  ·unfold jA at hy
   rcases List.mem_cons.1 hy with rfl|hy
   ·decide
   ·exact EH _ y hy
end Go.Stm
namespace Go.Proofs.YtgglghjnakclmaaGreat
open Go Go.Vc Go.Srt Go.Inc Go.Sym Go.Tab Go.Hd Go.Bw Go.aK Go.ao Go.Crc Go.Stm
section
variable {E w:World} {F:List HP}
set_option maxRecDepth 20000
theorem Jx (x:List Nat):((strOf x).toList==(strOf x).toList)=true:=by simp
end
end Go.Proofs.YtgglghjnakclmaaGreat
namespace Go.Vc
end Go.Vc
namespace Go.Stm
open Go.Inc Go.Srt Go.Sym Go.aK Go.Tab Go.Hd Go.Crc Go.Bw Go.ao Go.Proofs.YtgglghjnakclmaaGreat
theorem Cd {x:List Nat} (h0:0<x.length) (hb: ∀y∈x,y<256) (hn:x.length≤65536):(me (eQ x) x).length≤1200+2*x.length:=by
 have hL:=j7 h0 (by omega) hb
 have h1:=dr (n:=x.length) (by omega)
 have hidx:=oo (t:=x.reverse) (by rw [List.length_reverse];exact h0)
 rw [List.length_reverse] at hidx
 have h2:=dr (n:=dZ x.reverse) (by omega)
 have h3:=nh hL.len hL.ok
 have h4:=mq hL.v (ints (syms (bf x.reverse)))
 rw [lj,dX] at h4
 have h5:=k6 (bf x.reverse)
 rw [dQ,List.length_reverse] at h5
 unfold me jC body
 rw [List.length_append,nr,List.length_append,List.length_cons,List.length_append,List.length_append,show (jQ (lH x)).length=4 from rfl]
 omega
theorem nY: ∀(l:List (List Nat)),(∀x∈l,0<x.length∧x.length≤65536∧∀y∈x,y<256)→(blocks dH l).length≤1200*l.length+2*l.flatten.length
 | [],_=>by simp [blocks]
 |x::l,h=>by
  have h1:=h x List.mem_cons_self
  have h2:=Cd h1.1 h1.2.2 h1.2.1
  have h3:=nY l fun y hy=>h y (List.mem_cons_of_mem _ hy)
  unfold blocks at h3⊢
  rw [List.flatMap_cons,List.length_append,List.length_cons,List.flatten_cons,List.length_append]
  unfold mK at h3⊢
  rw [l0 (by omega)]
  omega
theorem Ao {n:Nat} {parts:List (List Nat)} (hn:0<n) (hn2:n≤65536) (hb: ∀c∈parts.flatten,c<256):(np dH n parts).length≤1200*(bA n parts).length+2*parts.flatten.length+20:=by
 unfold np
 have h1:=nY (bA n parts) fun x hx=>⟨(iG hn hb x hx).1,Nat.le_trans (iG hn hb x hx).2.1 hn2,(iG hn hb x hx).2.2⟩
 rw [tV hn] at h1
 have h2:=dr (n:=n) hn2
 rw [List.length_append,List.length_append]
 unfold iJ jA
 simp only [List.length_append,List.length_cons,List.length_nil,show (jQ (lH parts.flatten)).length=4 from rfl]
 omega
theorem Bj (l:List (List Nat)) (k:Nat):(l.take k).flatten.length≤l.flatten.length:=by
 have:=congrArg (fun l=>(List.flatten l).length) (List.take_append_drop k l)
 simp only [List.flatten_append,List.length_append] at this
 omega
end Go.Stm
namespace Go.Proofs.YtgglghjnakclmaaGreat
open Go Go.Vc Go.Srt Go.Inc Go.Sym Go.Tab Go.Hd Go.Bw Go.aK Go.ao Go.Crc Go.Stm
section
variable {E w:World} {F:List HP}
set_option maxRecDepth 20000
theorem Gj {ps:List (Sl×List Nat)} (hb: ∀x∈ps,∀y∈x.2,y<256): ∀c∈(ps.map Prod.snd).flatten,c<256:=fun c hc=>by
 obtain ⟨l,hl,hc⟩:=List.mem_flatten.1 hc
 obtain ⟨x,hx,rfl⟩:=List.mem_map.1 hl
 exact hb x hx c hc
end
end Go.Proofs.YtgglghjnakclmaaGreat
namespace Go.Prs
open Go.Inc Go.Srt Go.Sym Go.aK Go.Tab Go.Hd Go.Crc Go.Bw Go.ao Go.Stm
section
variable {c:List Nat} {s s':PS} {u u':Nat} {e:Ev} {es:List Ev}
theorem Fo (hs:dA s) (hu:u≤8*c.length) (h:aF true c s u= .ev e s' u'):(e= .fin→u'=8*c.length)∧(final e=false→dA s'):=by
 unfold aF short at h
 split at h
 all_goals try (split at h)
 all_goals try (split at h)
 all_goals try (split at h)
 all_goals try (split at h)
 all_goals first
  |(cases h;done)
  |exact hs.elim
  |(injection h with h1 h2 h3;subst h1;subst h2;subst h3;refine ⟨fun hf=> ?_,fun hf=> ?_⟩<;>first|(cases hf;done)|trivial|omega|(split<;>trivial))
theorem Fp (hs:dA s) (h:aF true c s u= .go s' u'):dA s':=by
 unfold aF short at h
 split at h
 all_goals try (split at h)
 all_goals try (split at h)
 all_goals try (split at h)
 all_goals try (split at h)
 all_goals first
  |(cases h;done)
  |exact hs.elim
  |(injection h with h1 h2;subst h1;subst h2;first|trivial|(split<;>trivial))
theorem GL: ∀(k:Nat) (s:PS) (u:Nat),dU c s u=k→u≤8*c.length→dA s→cQ true c s u=(some e,s',u')→(e= .fin→u'=8*c.length)∧(final e=false→dA s'):=by
 intro k
 induction k using Nat.strongRecOn with
 |ind k ih=>
  intro s u hk hu hs h
  cases hm:aF true c s u with
  |need=>rw [lf hm] at h;cases h
  |go s2 u2=>
   rw [oL hm] at h
   have:=mi hm
   exact ih _ (by rw [←hk];exact this.1) s2 u2 rfl this.2.2 (Fp hs hm) h
  |ev e2 s2 u2=>
   rw [kO hm] at h
   cases h
   exact Fo hs hu hm
theorem iE (hu:u≤8*c.length) (hs:dA s) (h:cS true c s u=e::es): ∃s' u',cQ true c s u=(some e,s',u')∧u'≤8*c.length∧(final e=false→cS true c s' u'=es∧dA s')∧(e= .fin→u'=8*c.length)∧(final e=true→Stop e s'):=by
 have hp:=Fa (ended:=true) (c:=c) _ s u rfl hu
 cases hq:cQ true c s u with
 |mk o p=>
  obtain ⟨s',u'⟩:=p
  rw [hq] at hp
  cases o with
  |none=>rw [hp.1] at h;cases h
  |some e2=>
   obtain ⟨h1,h2,h3⟩:=hp
   rw [h] at h1
   injection h1 with h1 h4
   subst h1
   have hn:=GL _ s u rfl hu hs hq
   exact ⟨s',u',rfl,h2,fun hf=>⟨by rw [h4,hf];rfl,hn.2 hf⟩,hn.1,fun hf=>Ea _ s u rfl hq hf⟩
def l7 (ts:List (List Nat)) (j:Nat):Ev:=if h:j<ts.length then .bytes ts[j] else .bend
def sk (ts:List (List Nat)) (es:List Ev) (j:Nat):List Ev:=if j<ts.length then (ts.drop (j+1)).map Ev.bytes++ .bend::es else es
theorem yQ {ts:List (List Nat)} {j:Nat}:final (l7 ts j)=false:=by unfold l7;split<;>rfl
theorem Bf {ts:List (List Nat)} {es:List Ev} {j:Nat} (h:j<ts.length):sk ts es j=l7 ts (j+1)::sk ts es (j+1):=by
 unfold sk l7
 rw [if_pos h]
 by_cases h1:j+1<ts.length
 ·rw [if_pos h1,dif_pos h1,List.drop_eq_getElem_cons h1,List.map_cons,List.cons_append]
 ·rw [if_neg h1,dif_neg h1,List.drop_of_length_le (by omega)];rfl
theorem Cp {ts:List (List Nat)} {es:List Ev}:ts.map Ev.bytes++ .bend::es=l7 ts 0::sk ts es 0:=by
 unfold sk l7
 by_cases h1:0<ts.length
 ·rw [if_pos h1,dif_pos h1]
  cases ts with
  |nil=>simp at h1
  |cons t ts=>rfl
 ·rw [if_neg h1,dif_neg h1,List.eq_nil_of_length_eq_zero (l:=ts) (by omega)];rfl
end
end Go.Prs
namespace Go.Proofs.YtgglghjnakclmaaGreat
open Go Go.Vc Go.Srt Go.Inc Go.Sym Go.Tab Go.Hd Go.Bw Go.aK Go.ao Go.Crc Go.Stm Go.Prs
section
variable {E w:World} {F:List HP} {b pr:Nat} {c:List Nat} {s:PS} {u:Nat}
set_option maxRecDepth 20000
theorem iU {e:Ev} {s':PS} {u':Nat} {K:gu→World→Prop} (h:Hp E w (aS b s::Rd ⟨pr,0,none⟩ c u true::F)) (hp:cQ true c s u=(some e,s',u'))
  (hK: ∀sl w',Hp E w' (OB sl (jf (some e))::aS b s'::Rd ⟨pr,0,none⟩ c u' true::F)→K (fj (some e) sl) w'):
  Cl Tryz.prog [je] ax ⟨[.pointer (some ⟨b,0,none⟩),.pointer (some ⟨pr,0,none⟩)]⟩ w K:=by
 refine yz h fun sl w _ h=> ?_
 rw [hp] at h⊢
 exact hK sl w h
abbrev JR (b:Nat) (e:Ev) (sl:Sl):HP:=ao b (.cells ⟨gE (e,sl)⟩ 29 (0,0))
theorem qF {n:Int} {ps:List (Sl×List Nat)} {sp:Sl} {K:Bool→World→Prop} (h:Hp E w F) (hs:ag F (fI sp ps)) (hcaps: ∀x∈ps,x.1.len≤x.1.cap) (hb: ∀x∈ps,∀y∈x.2,y<256) (hK: ∀w',Hp E w' F→K true w'):
  Cl Tryz.prog [kB] eG ⟨[.int .i64 n,.slice sp.base sp.len sp.cap]⟩ w K:=by
 refine oP.ok _ _ _ _ ?_
 refine bg.BR (fun w=>Hp E w F∧1≤n∧n≤65536∧ps.length≤20∧(ps.map Prod.snd).flatten.length≤150) (fun w ⟨h,hn1,hn2,h20,h150⟩=> ?_) fun r' hr'=> ?_
 ·obtain ⟨N,rfl⟩: ∃N:Nat,n=(N:Int):=⟨n.toNat,by omega⟩
  have hN1:1≤N:=by omega
  have hN2:N≤65536:=by omega
  have hp:=Dd hcaps h20 h150
  have hbf:=Gj hb
  refine Ab h hN1 hN2 hs hp hb (by omega) fun s13 w h=> ?_
  have hfew:=qe hN1 (ps.map Prod.snd)
  have hst:=Ao hN1 hN2 hbf
  have hstb:=Hx hN1 hbf
  obtain ⟨es,he1,he2⟩:=Es (L:=dH) (ended:=true) IH hN1 hN2 hbf
  rw [←E8 hstb] at he2
  have hcok:=iG hN1 hbf
  have hfe:(bA N (ps.map Prod.snd)).length≤150:=by omega
  have hst2:(np dH N (ps.map Prod.snd)).length≤200000:=by omega
  generalize hC:np dH N (ps.map Prod.snd)=C at h hst hstb he2 hst2
  refine sW h fun p16 w h=>rZ h fun bp w h=> ?_
  obtain ⟨pr,_,_,rfl,_⟩:=Rd.fo (h.at 1)
  refine bg.BR (fun w=>Hp E w (aS bp (.head ⟨0,0⟩)::Rd ⟨pr,0,none⟩ [] 0 false::OB s13 C::F)) (fun w h=> ?_) fun r' hr'=>by
   rw [au];dsimp only
   exact aa.f rfl (aa.f rfl (aa.f rfl (hr' w h)))
  refine Nw.mk h fun b25 w h=> ?_
  refine pc (x:=s13) (d:=C) (h.at 2) (ag.at 1 ag.own) hstb (by rw [bM];simp;omega) fun w h=> ?_
  refine EE h fun w h=> ?_
  have hCe:(if false=true then ([]:List Nat) else []++C)=C:=rfl
  rw [hCe] at h
  obtain ⟨s1,u1,p1,l1,f1,_⟩:=iE (c:=C) (Nat.zero_le _) (show dA (.head ⟨0,0⟩) from trivial) he2
  obtain ⟨f1,v1⟩:=f1 rfl
  refine iU (h.at 2) p1 fun sl w h=> ?_
  refine Nw.mk h fun b33 w h=> ?_
  (with_reducible refine ae.xw h rfl rfl (fun w h=> ?_))
  refine bg.BR (fun w=>Hp E w (aS bp s1::Rd ⟨pr,0,none⟩ C u1 true::OB s13 C::F)) (fun w h=> ?_) fun r' hr'=>by
   rw [au];dsimp only
   refine Ld.xb (b:=b33) (x:=(2:Int)) h rfl (aa.nf rfl (Ld.xb (b:=b33) (x:=(N:Int)) h rfl (aa.f (by simp) (hr' w ?_))))
   have h:=(h.no 0).no 0
   exact (h.no 2)
  refine tu h hs.cons.cons.cons hp hN1 hN2 (by omega) fun pcs s43 w hpc hcap hpw h=> ?_
  have hpl:pcs.length=(bA N (ps.map Prod.snd)).length:=by rw [←hpc,List.length_map]
  have hl43:pcs.length=s43.len:=by have:=h.bU;simpa using this
  obtain ⟨TL,hTL⟩: ∃TL,TL=(.tail (lH (ps.map Prod.snd).flatten):: [.fin]:List Ev):=⟨_,rfl⟩
  rw [if_pos rfl,←hTL] at f1
  refine ⟨fun i w=> ∃(k:Nat) (s:PS) (u:Nat) (es:List Ev),i=(k:Int)∧k≤pcs.length∧ku ((bA N (ps.map Prod.snd)).drop k) es∧cS true C s u=es++TL∧u≤8*C.length∧dA s∧Hp E w (aS bp s::Rd ⟨pr,0,none⟩ C u true::aA 1 s43 (pcs.map fun x=> .slice x.1.base x.1.len x.1.cap)::OB s13 C::F),fun i _=>pcs.length - i.toNat,⟨0,s1,u1,es,rfl,Nat.zero_le _,he1,f1,l1,v1,(h.at 2).at 2⟩,?_⟩
  rintro i w ⟨k,s,u,es,rfl,hk,hev,hf,hu,hno,h⟩
  refine aa.dm (fun hlt=> ?_) (fun hge=> ?_)
  ·have hlt:k<pcs.length:=by omega
   have hkc:k<(bA N (ps.map Prod.snd)).length:=by omega
   refine bg.BR (fun w=> ∃(s:PS) (u:Nat) (es:List Ev),ku ((bA N (ps.map Prod.snd)).drop (k+1)) es∧cS true C s u=es++TL∧u≤8*C.length∧dA s∧Hp E w (aS bp s::Rd ⟨pr,0,none⟩ C u true::aA 1 s43 (pcs.map fun x=> .slice x.1.base x.1.len x.1.cap)::OB s13 C::F)) (fun w ⟨s,u,es,a1,a2,a3,a4,h⟩=> ?_) fun r' hr'=> ?_
   ·rw [aj (by omega)]
    exact ⟨⟨k+1,s,u,es,by omega,by omega,a1,a2,a3,a4,h⟩,by first|omega|(dsimp only;omega)⟩
   rw [List.drop_eq_getElem_cons hkc] at hev
   have hx:pcs[k].2=(bA N (ps.map Prod.snd))[k]:=by
    have:=List.getElem_map Prod.snd (l:=pcs) (i:=k) (h:=by simpa using hlt)
    rw [←this]
    simp only [hpc]
   obtain ⟨c0,c1,c2⟩:=hcok _ (List.getElem_mem hkc)
   have hxw: ∀w,fI sp ps w→aG 1 pcs[k].1 ((bA N (ps.map Prod.snd))[k].map vB) w:=fun w hw=>by rw [←hx];exact hpw w hw _ (List.getElem_mem hlt)
   generalize hX:(bA N (ps.map Prod.snd))[k]=X at hev c0 c1 c2 hxw
   have hxl:X.length=pcs[k].1.len:=by have:=(hxw w (h.av hs.cons.cons.cons.cons)).1;simpa using this
   cases hev with
   | @cons x l ts es2 hpcs hr=>
    rw [List.cons_append,List.append_assoc,List.cons_append] at hf
    obtain ⟨s2,u2,p2,l2,f2,_⟩:=iE hu hno hf
    obtain ⟨f2,v2⟩:=f2 rfl
    refine iU h p2 fun sl w h=> ?_
    refine Nw.mk h fun b52 w h=> ?_
    (with_reducible refine ae.xw h rfl rfl (fun w h=> ?_))
    refine aI.rd (h.av (ag.at 4 ag.own)) (by omega) (by omega) fun q _ hq=> ?_
    refine Ld.sc (s:= .sl) pcs[k].1 (by rw [hq];simp [Sc.enc]) ?_
    refine oB h ((hs.imp hxw).cons.cons.cons.cons.cons.cons) (by omega) fun s57 w h=> ?_
    have hlen:(bf X.reverse).length=X.length:=by rw [dQ,List.length_reverse]
    have hl57:=OB.len h
    have htl:=hpcs.len
    refine bg.BR (fun w=>Hp E w (aS bp s2::Rd ⟨pr,0,none⟩ C u2 true::OB s57 (bf X.reverse)::aA 1 s43 (pcs.map fun x=> .slice x.1.base x.1.len x.1.cap)::OB s13 C::F)) (fun w h=> ?_) fun r'' hr''=> ?_
    ·rw [Cp] at f2
     obtain ⟨s3,u3,p3,l3,f3,_⟩:=iE l2 v2 f2
     obtain ⟨f3,v3⟩:=f3 yQ
     refine iU h p3 fun sl3 w h=> ?_
     refine Nw.mk h fun b73 w h=> ?_
     (with_reducible refine ae.xw h rfl rfl (fun w h=> ?_))
     have hfl:=hpcs.flat
     refine ⟨fun got k y w=> ∃(j bb:Nat) (sl:Sl) (s:PS) (u:Nat),k=(j:Int)∧j≤ts.length∧y=⟨bb,0,none⟩∧cS true C s u=sk ts (es2++TL) j∧u≤8*C.length∧dA s∧Hp E w (JR bb (l7 ts j) sl::OB sl (jf (some (l7 ts j)))::OB got (ts.take j).flatten::aS bp s::Rd ⟨pr,0,none⟩ C u true::OB s57 (bf X.reverse)::aA 1 s43 (pcs.map fun x=> .slice x.1.base x.1.len x.1.cap)::OB s13 C::F),fun _ k _ _=>ts.length+1 - k.toNat,⟨0,b73,sl3,s3,u3,rfl,Nat.zero_le _,rfl,f3,l3,v3,((h.aW 1).at 2).at 2⟩,?_⟩
     rintro got _ _ w ⟨j,bb,sl,s,u,rfl,hj,rfl,hf,hu,hno,h⟩
     by_cases hjl:j<ts.length
     ·have hE:l7 ts j= .bytes ts[j]:=dif_pos hjl
      rw [hE] at h
      have hb1:ts[j].length≤65536:=by
       have:=(List.sublist_flatten_of_mem (List.getElem_mem hjl)).length_le
       rw [hfl] at this
       omega
      have hb2:(ts.take j).flatten.length≤65536:=by
       have:=Bj ts j
       rw [hfl] at this
       omega
      refine Ld.xb (b:=bb) (x:=(4:Int)) h rfl (aa.nt (by decide) ?_)
      rw [au];dsimp only
      rw [au];dsimp only
      rw [au];dsimp only
      rw [aj (by omega)]
      refine Ld.xb (b:=bb) (x:=(4:Int)) h rfl (aa.nf rfl (aa.df (by omega) ?_))
      refine Ld.xb (b:=bb) (x:=sl) h rfl ?_
      have ht:Hp E w (OB sl ts[j]::_):=h.at 1
      refine oQ (h.at 2) (ag.at 1 (show ag (OB sl ts[j]::_) (aG 1 sl (ts[j].map vB)) from ag.own)) (by omega) (by omega) fun s91 w h=> ?_
      refine Ld.xt (b:=bb) (x:=fj (some (.bytes ts[j])) sl) h rfl (Nw.mk h fun b97 w h=> ?_)
      (with_reducible refine ae.xw h rfl rfl (fun w h=> ?_))
      rw [Bf hjl] at hf
      obtain ⟨s4,u4,p4,l4,f4,_⟩:=iE hu hno hf
      obtain ⟨f4,v4⟩:=f4 yQ
      refine iU ((h.at 5).at 5) p4 fun sl4 w h=> ?_
      (with_reducible refine ae.xw h rfl rfl (fun w h=> ?_))
      have e1:(ts.take (j+1)).flatten=(ts.take j).flatten++ts[j]:=by rw [List.take_add_one,List.getElem?_eq_getElem hjl,List.flatten_append];simp
      refine ⟨⟨j+1,b97,sl4,s4,u4,by omega,by omega,rfl,f4,l4,v4,?_⟩,by first|omega|(dsimp only;omega)⟩
      rw [e1]
      have h:=(h.no 5).no 5
      exact ((((h.at 2).at 2).at 4).at 3).at 4
     ·have hj2:j=ts.length:=by omega
      subst hj2
      have hE:l7 ts ts.length= .bend:=dif_neg hjl
      rw [hE,List.take_of_length_le (Nat.le_refl _),hfl] at h
      refine Ld.xb (b:=bb) (x:=(5:Int)) h rfl (aa.nf rfl ?_)
      refine EM (h.av (ag.at 2 ag.own)) (EM (h.av (ag.at 5 ag.own)) (aa.f (by rw [Jx];rfl) (hr' w ⟨s,u,es2,hr,?_,hu,hno,?_⟩)))
      ·rw [hf];exact if_neg hjl
      ·exact (((h.no 0).no 0).no 0).no 2
    ·rw [au];dsimp only
     refine ah.mk h fun w h=> ?_
     refine Ld.xb (b:=b52) (x:=(3:Int)) h rfl (aa.nf rfl (Ld.xb (b:=b52) (x:=(X.length:Int)) h rfl ?_))
     refine aI.rd (h.av (ag.at 5 ag.own)) (by omega) (by omega) fun q _ hq=> ?_
     refine Ld.sc (s:= .sl) pcs[k].1 (by rw [hq];simp [Sc.enc]) (aa.nf (by omega) (Ld.xb (b:=b52) (x:=(dZ X.reverse:Int)) h rfl (aa.f (by simp) (hr'' w ?_))))
     have h:=(h.no 1).no 1
     exact (h.at 2).at 2
  ·have hk2:k=pcs.length:=by omega
   subst hk2
   rw [List.drop_of_length_le (by omega)] at hev
   cases hev
   rw [List.nil_append,hTL] at hf
   obtain ⟨s2,u2,p2,l2,f2,_⟩:=iE hu hno hf
   obtain ⟨f2,v2⟩:=f2 rfl
   obtain ⟨s3,u3,p3,l3,_,e3,Ib⟩:=iE l2 v2 f2
   have p4:=Dh (ended:=true) (c:=C) (u:=u3) (Ib rfl)
   refine iU h p2 fun sa w h=> ?_
   refine iU (h.no 0) p3 fun sb w h=> ?_
   refine iU (h.no 0) p4 fun sc w h=> ?_
   refine Nw.mk h fun b1 w h=>Nw.mk h fun b2 w h=>Nw.mk h fun b3 w h=> ?_
   (with_reducible refine ae.xw h rfl rfl (fun w h=> ?_))
   (with_reducible refine ae.xw h rfl rfl (fun w h=> ?_))
   (with_reducible refine ae.xw h rfl rfl (fun w h=> ?_))
   refine Ld.xb (b:=b1) (x:=(6:Int)) h rfl (aa.t rfl (Ld.xb (b:=b2) (x:=(7:Int)) h rfl (aa.t rfl (Ld.xb (b:=b3) (x:=(7:Int)) h rfl (aa.t rfl ?_)))))
   refine rK (h.at 5) fun w h _=> ?_
   rw [e3 rfl]
   refine aa.t (by simp) (tA h fun w h=>hK w h.tl)
 ·rw [au];dsimp only
  have wk:Cl Tryz.prog [kB] eS ⟨[]⟩ w K:=tA h hK
  refine Aw (h.av hs) fun g hg=> ?_
  cases g with
  |true=>exact aa.t rfl (aa.t rfl wk)
  |false=>
   obtain ⟨h20,h150⟩:=hg rfl
   exact aa.f rfl (aa.dm (fun _=>aa.t rfl wk) (fun g1=>aa.dm (fun _=>wk) (fun g2=>hr' w ⟨h,by omega,by omega,h20,h150⟩)))
end
end Go.Proofs.YtgglghjnakclmaaGreat
set_option maxRecDepth 20000
namespace Go.Vc
open Go Go.RowKit Go.ChangeShapes Go.WideShapes
section
variable {H:Type} {enc:TypeId×Value→H} {P:Program} {W:World}
def dh (enc:TypeId×Value→H) (P:Program) (W:World) (t:TypeId) (cs:List Value):Prop:= ∃fuel x,DataW.trod enc P W 0 (fun _=>true) true fuel t cs=some x
theorem dh.int {t:TypeId} {k:IntKind} {cs:List Value} (h:dh enc P W t cs) (ht:P.underlying t=some (.int k)): ∃n,cs= [.int k n]∧(Lit.int k n).wf=true:=by
 obtain ⟨m,x,h⟩:=h
 obtain ⟨n,h1,_,h2⟩:=DataW.trod_int ht h
 exact ⟨n,h1,h2⟩
theorem dh.bool {t:TypeId} {cs:List Value} (h:dh enc P W t cs) (ht:P.underlying t=some .bool): ∃b,cs= [.bool b]:=by
 obtain ⟨m,x,h⟩:=h
 obtain ⟨n,h1,_⟩:=DataW.trod_bool ht h
 exact ⟨n,h1⟩
theorem dh.string {t:TypeId} {cs:List Value} (h:dh enc P W t cs) (ht:P.underlying t=some .string): ∃s:ByteArray,cs= [.string s]∧s.size≤maxLen:=by
 obtain ⟨m,x,h⟩:=h
 obtain ⟨n,h1,_,h2⟩:=DataW.trod_string ht h
 exact ⟨n,h1,h2⟩
theorem tv {a:Addr} {n:Nat} {cs:List Value} (h:W.cells? 0 a n=some cs):cs.length=n∧∀i (hi:i<cs.length),W.cell? (a.add i)=some cs[i]:=by
 unfold World.cells? at h
 rw [if_pos (Nat.zero_le _)] at h
 have hl:cs.length=n:=by simpa using mapM_some_length h
 refine ⟨hl,fun i hi=> ?_⟩
 have:=mapM_some_get h i i (List.getElem?_range (by omega))
 rw [this,List.getElem?_eq_getElem hi]
theorem pO {α:Type} {sz:Nat}: ∀{xs:List (List α)} (_: ∀x∈xs,x.length=sz) (i j:Nat) (hi:i<xs.length) (_:j<sz),xs.flatten[i*sz+j]? =xs[i][j]?
 |x::xs,h,0,j,_,hj=>by
  have hx:=h x (by simp)
  rw [List.flatten_cons,List.getElem?_append_left (by omega),Nat.zero_mul,Nat.zero_add];rfl
 |x::xs,h,i+1,j,hi,hj=>by
  have hx:=h x (by simp)
  rw [List.flatten_cons,List.getElem?_append_right (by rw [hx,Nat.succ_mul];omega),hx,show (i+1)*sz+j - sz=i*sz+j by rw [Nat.succ_mul];omega,
   pO (fun y hy=>h y (List.mem_cons_of_mem _ hy)) i j (by simpa using hi) hj]
  rfl
theorem qC {α:Type} {sz:Nat}: ∀{xs:List (List α)} (_: ∀x∈xs,x.length=sz),xs.flatten.length=xs.length*sz
 | [],_=>by simp
 |x::xs,h=>by
  rw [List.flatten_cons,List.length_append,h x (by simp),qC (fun y hy=>h y (List.mem_cons_of_mem _ hy)),List.length_cons,Nat.succ_mul];omega
theorem dh.slice {t e:TypeId} {cs:List Value} (h:dh enc P W t cs) (ht:P.underlying t=some (.slice e)):
  ∃(s:Sl) (xs:List (List Value)),cs= [.slice s.base s.len s.cap]∧s.len≤s.cap∧s.cap≤maxLen∧xs.length=s.len∧(∀x∈xs,dh enc P W e x)∧(∀x∈xs,x.length=P.cellsOf e)∧aG (P.cellsOf e) s xs.flatten W:=by
 obtain ⟨m,x,h⟩:=h
 rcases DataW.trod_slice ht h with ⟨h1,_⟩|⟨a,len,cap,elems,rest,n,rfl,h1,_,_,hlc,hcm,hel,hget,_⟩
 ·exact ⟨⟨none,0,0⟩,[],h1,Nat.le_refl _,Nat.zero_le _,rfl,by simp,by simp,by simp,by simp⟩
 ·have hx: ∀i,i<len→∃cs,W.cells? 0 (a.add (i*P.cellsOf e)) (P.cellsOf e)=some cs∧dh enc P W e cs:=by
   intro i hi
   have:=hget i hi
   rw [List.getElem?_eq_getElem (by omega)] at this
   obtain ⟨cs,h2,h3⟩:=Option.bind_eq_some_iff.1 this
   exact ⟨cs,h2,n,_,h3⟩
  have key: ∀k,k≤len→∃xs:List (List Value),xs.length=k∧∀i (hi:i<xs.length),W.cells? 0 (a.add (i*P.cellsOf e)) (P.cellsOf e)=some xs[i]∧dh enc P W e xs[i]:=by
   intro k
   induction k with
   |zero=>exact fun _=>⟨[],rfl,fun i hi=>by simp at hi⟩
   |succ k ih=>
    intro hk
    obtain ⟨xs,hl,hxs⟩:=ih (by omega)
    obtain ⟨cs,h2,h3⟩:=hx k (by omega)
    refine ⟨xs++ [cs],by simp [hl],fun i hi=> ?_⟩
    by_cases hik:i<xs.length
    ·rw [List.getElem_append_left hik];exact hxs i hik
    ·have:i=k:=by simp [hl] at hi;omega
     subst this
     rw [List.getElem_append_right (by omega)]
     simp only [hl,Nat.sub_self,List.getElem_cons_zero]
     exact ⟨h2,h3⟩
  obtain ⟨xs,hl,hxs⟩:=key len (Nat.le_refl _)
  have hsz: ∀x∈xs,x.length=P.cellsOf e:=by
   intro x hx
   obtain ⟨i,hi,rfl⟩:=List.getElem_of_mem hx
   exact (tv (hxs i hi).1).1
  refine ⟨⟨some a,len,cap⟩,xs,h1,hlc,hcm,hl,fun x hx=> ?_,hsz,?_,fun i hi=>⟨a,rfl,?_⟩⟩
  ·obtain ⟨i,hi,rfl⟩:=List.getElem_of_mem hx
   exact (hxs i hi).2
  ·rw [qC hsz,hl]
  ·rw [qC hsz,hl] at hi
   have hz:0<P.cellsOf e:=by
    rcases Nat.eq_zero_or_pos (P.cellsOf e) with h0|h0
    ·rw [h0] at hi;simp at hi
    ·exact h0
   have e1:i/P.cellsOf e*P.cellsOf e+i % P.cellsOf e=i:=by rw [Nat.mul_comm];exact Nat.div_add_mod i _
   have hq:i/P.cellsOf e<xs.length:=by rw [hl];exact (Nat.div_lt_iff_lt_mul hz).2 hi
   have hr:=Nat.mod_lt i hz
   obtain ⟨c1,c2⟩:=tv (hxs _ hq).1
   have c3:=c2 (i % P.cellsOf e) (by omega)
   have c4:=pO hsz _ _ hq hr
   have c5:(a.add (i/P.cellsOf e*P.cellsOf e)).add (i % P.cellsOf e)=a.add i:=by
    conv=>rhs;rw [←e1]
    unfold Addr.add
    by_cases e1:i/P.cellsOf e*P.cellsOf e=0<;>by_cases e2:i % P.cellsOf e=0<;>simp [e1,e2,Nat.add_assoc]
   rw [c5] at c3
   rw [c3,←List.getElem?_eq_getElem,←c4]
   simp only [e1]
   exact List.getElem?_eq_getElem _
theorem dh.struct {t:TypeId} {fs:Array Field} {cs:List Value} (h:dh enc P W t cs) (ht:P.underlying t=some (.struct fs)):cs.length=P.cellsOf t∧∀(i:Nat) (f:Field),fs[i]? =some f→dh enc P W f.type ((cs.drop f.offset).take (P.cellsOf f.type)):=by
 obtain ⟨m,x,h⟩:=h
 obtain ⟨xs,n,_,_,h2,h3,h4⟩:=DataW.trod_struct ht h
 refine ⟨h2,fun i f hf=> ?_⟩
 have hi:i<fs.size:=by
  rcases Nat.lt_or_ge i fs.size with hh|hh
  ·exact hh
  ·rw [Array.getElem?_eq_none hh] at hf;cases hf
 have:=h4 i f hf
 rw [List.getElem?_eq_getElem (by omega)] at this
 exact ⟨n,_,this⟩
def AX (P:Program) (t:TypeId) (i:Nat) (ft:TypeId) (off n:Nat):Bool:=match P.underlying t with
 |some (.struct fs)=>match fs[i]? with
  |some f=>f.type==ft&&f.offset==off&&P.cellsOf ft==n
  |none=>false
 |_=>false
theorem dh.field {t:TypeId} {cs:List Value} (h:dh enc P W t cs) (i:Nat) (ft:TypeId) (off n:Nat) (hf:AX P t i ft off n=true):dh enc P W ft ((cs.drop off).take n):=by
 unfold AX at hf
 split at hf
 ·rename_i fs ht
  split at hf
  ·rename_i f hfi
   simp only [Bool.and_eq_true,beq_iff_eq] at hf
   obtain ⟨⟨rfl,rfl⟩,rfl⟩:=hf
   exact (h.struct ht).2 i f hfi
  ·cases hf
 ·cases hf
theorem dh.array {t e:TypeId} {n:Nat} {cs:List Value} (h:dh enc P W t cs) (ht:P.underlying t=some (.array n e)):cs.length=P.cellsOf t∧∀i,i<n→dh enc P W e ((cs.drop (i*P.cellsOf e)).take (P.cellsOf e)):=by
 obtain ⟨m,x,h⟩:=h
 obtain ⟨xs,n',_,_,h2,h3,h4⟩:=DataW.trod_array ht h
 refine ⟨h2,fun i hi=> ?_⟩
 have:=h4 i hi
 rw [List.getElem?_eq_getElem (by omega)] at this
 exact ⟨n',_,this⟩
theorem pk {α β:Type} {g:α→β} {Good:α→Prop}: ∀{xs:List β} (_: ∀x∈xs,∃a,x=g a∧Good a),∃l:List α,xs=l.map g∧∀a∈l,Good a
 | [],_=>⟨[],rfl,by simp⟩
 |x::xs,h=>by
  obtain ⟨a,rfl,ha⟩:=h x (by simp)
  obtain ⟨l,rfl,hl⟩:=pk (fun y hy=>h y (List.mem_cons_of_mem _ hy))
  exact ⟨a::l,rfl,by simpa using ⟨ha,hl⟩⟩
theorem k9 {α β:Type} {g:α→β} (l:List α):(l.map fun a=> [g a]).flatten=l.map g:=by
 induction l with
 |nil=>rfl
 |cons a l ih=>simp [ih]
theorem wf_u8 {n:Int} (h:(Lit.int .u8 n).wf=true):0≤n∧n≤255:=by
 simp [Lit.wf,IntKind.min,IntKind.max,IntKind.signed,IntKind.bits] at h
 exact h
def mG (W:World) (s:Sl) (b:List Nat):Prop:=aG 1 s (b.map vB) W∧(∀y∈b,y<256)∧s.len≤s.cap∧s.cap≤maxLen
theorem dh.bytes {t e:TypeId} {cs:List Value} (h:dh enc P W t cs) (ht:P.underlying t=some (.slice e)) (he:P.underlying e=some (.int .u8)) (hc:P.cellsOf e=1): ∃s b,cs= [.slice s.base s.len s.cap]∧mG W s b:=by
 obtain ⟨s,xs,h1,h2,h3,h4,h5,h6,h7⟩:=h.slice ht
 obtain ⟨l,rfl,hl⟩:=pk (g:=fun y:Nat=> [vB y]) (Good:=fun y=>y<256) (xs:=xs) fun x hx=>by
  obtain ⟨n,rfl,hn⟩:=(h5 x hx).int he
  have:=wf_u8 hn
  obtain ⟨m,rfl⟩:=Int.eq_ofNat_of_zero_le this.1
  exact ⟨m,rfl,by omega⟩
 rw [k9,hc] at h7
 exact ⟨s,l,h1,h7,hl,h2,h3⟩
theorem dh.ints {t e:TypeId} {k:IntKind} {cs:List Value} (h:dh enc P W t cs) (ht:P.underlying t=some (.slice e)) (he:P.underlying e=some (.int k)) (hc:P.cellsOf e=1):
  ∃s,∃l:List Int,cs= [.slice s.base s.len s.cap]∧aG 1 s (l.map (.int k)) W∧(∀y∈l,(Lit.int k y).wf=true)∧s.len≤s.cap∧s.cap≤maxLen:=by
 obtain ⟨s,xs,h1,h2,h3,h4,h5,h6,h7⟩:=h.slice ht
 obtain ⟨l,rfl,hl⟩:=pk (g:=fun y:Int=> [Value.int k y]) (Good:=fun y=>(Lit.int k y).wf=true) (xs:=xs) fun x hx=>by
  obtain ⟨n,rfl,hn⟩:=(h5 x hx).int he
  exact ⟨n,rfl,hn⟩
 rw [k9,hc] at h7
 exact ⟨s,l,h1,h7,hl,h2,h3⟩
theorem dh.chunks {t e u:TypeId} {cs:List Value} (h:dh enc P W t cs) (ht:P.underlying t=some (.slice e)) (he:P.underlying e=some (.slice u)) (hu:P.underlying u=some (.int .u8)) (hc:P.cellsOf e=1) (hcu:P.cellsOf u=1):
  ∃s,∃l:List (Sl×List Nat),cs= [.slice s.base s.len s.cap]∧aG 1 s (l.map fun a=> .slice a.1.base a.1.len a.1.cap) W∧(∀a∈l,mG W a.1 a.2)∧s.len≤s.cap∧s.cap≤maxLen:=by
 obtain ⟨s,xs,h1,h2,h3,h4,h5,h6,h7⟩:=h.slice ht
 obtain ⟨l,rfl,hl⟩:=pk (g:=fun a:Sl×List Nat=> [Value.slice a.1.base a.1.len a.1.cap]) (Good:=fun a=>mG W a.1 a.2) (xs:=xs) fun x hx=>by
  obtain ⟨s,b,rfl,hb⟩:=(h5 x hx).bytes he hu hcu
  exact ⟨(s,b),rfl,hb⟩
 rw [k9,hc] at h7
 exact ⟨s,l,h1,h7,hl,h2,h3⟩
def Arg (enc:TypeId×Value→H) (P:Program) (W:World) (t:TypeId) (v:Value):Prop:=(∃base,Value.okWide P W .any base t v)∧dh enc P W t v.cells.toList
def AN (enc:TypeId×Value→H) (P:Program) (W:World):List TypeId→List Value→Prop
 | [],vs=>vs= []
 |t::ts,vs=> ∃v vs',vs=v::vs'∧Arg enc P W t v∧AN enc P W ts vs'
theorem Arg.one {t:TypeId} {v:Value} (h:Arg enc P W t v) (hv:v.cells.toList= [v]):dh enc P W t [v]:=by
 have:=h.2
 rwa [hv] at this
theorem Arg.slice {t e:TypeId} {v:Value} (h:Arg enc P W t v) (ht:P.underlying t=some (.slice e)):dh enc P W t [v]:=by
 obtain ⟨base,hb⟩:=h.1
 obtain ⟨a,l,c,rfl⟩:=okWide_slice ht hb
 exact h.one rfl
theorem Arg.bytes {t e:TypeId} {v:Value} (h:Arg enc P W t v) (ht:P.underlying t=some (.slice e)) (he:P.underlying e=some (.int .u8)) (hc:P.cellsOf e=1): ∃s b,v= .slice s.base s.len s.cap∧mG W s b:=by
 obtain ⟨s,b,h1,h2⟩:=(h.slice ht).bytes ht he hc
 exact ⟨s,b,by simpa using h1,h2⟩
theorem Arg.ints {t e:TypeId} {k:IntKind} {v:Value} (h:Arg enc P W t v) (ht:P.underlying t=some (.slice e)) (he:P.underlying e=some (.int k)) (hc:P.cellsOf e=1):
  ∃s,∃l:List Int,v= .slice s.base s.len s.cap∧aG 1 s (l.map (.int k)) W∧(∀y∈l,(Lit.int k y).wf=true)∧s.len≤s.cap∧s.cap≤maxLen:=by
 obtain ⟨s,l,h1,h2⟩:=(h.slice ht).ints ht he hc
 exact ⟨s,l,by simpa using h1,h2⟩
theorem Arg.chunks {t e u:TypeId} {v:Value} (h:Arg enc P W t v) (ht:P.underlying t=some (.slice e)) (he:P.underlying e=some (.slice u)) (hu:P.underlying u=some (.int .u8)) (hc:P.cellsOf e=1) (hcu:P.cellsOf u=1):
  ∃s,∃l:List (Sl×List Nat),v= .slice s.base s.len s.cap∧aG 1 s (l.map fun a=> .slice a.1.base a.1.len a.1.cap) W∧(∀a∈l,mG W a.1 a.2)∧s.len≤s.cap∧s.cap≤maxLen:=by
 obtain ⟨s,l,h1,h2⟩:=(h.slice ht).chunks ht he hu hc hcu
 exact ⟨s,l,by simpa using h1,h2⟩
theorem Arg.int {t:TypeId} {k:IntKind} {v:Value} (h:Arg enc P W t v) (ht:P.underlying t=some (.int k)): ∃n,v= .int k n∧(Lit.int k n).wf=true:=by
 obtain ⟨base,hb⟩:=h.1
 obtain ⟨n,rfl⟩:=okWide_int ht hb
 obtain ⟨m,h1,h2⟩:=(h.one rfl).int ht
 cases h1
 exact ⟨n,rfl,h2⟩
theorem Arg.string {t:TypeId} {v:Value} (h:Arg enc P W t v) (ht:P.underlying t=some .string): ∃s:ByteArray,v= .string s∧s.size≤maxLen:=by
 obtain ⟨base,hb⟩:=h.1
 obtain ⟨n,rfl⟩:=okWide_string ht hb
 obtain ⟨m,h1,h2⟩:=(h.one rfl).string ht
 cases h1
 exact ⟨n,rfl,h2⟩
theorem Arg.struct {t:TypeId} {fs:Array Field} {v:Value} (h:Arg enc P W t v) (ht:P.underlying t=some (.struct fs)): ∃cs,v= .agg cs∧dh enc P W t cs.toList:=by
 obtain ⟨base,hb⟩:=h.1
 obtain ⟨cs,rfl,_⟩:=okWide_struct ht hb
 exact ⟨cs,rfl,h.2⟩
theorem zb: ∀{ts:List TypeId} {vs:List Value} {ds:List (DataW H)} {ps:List MemPlace},DataW.TrodAll enc P W 0 (fun _=>true) true ts vs ds ps→(∀(j:Nat) t v,ts[j]? =some t→vs[j]? =some v→∃base,Value.okWide P W .any base t v)→AN enc P W ts vs
 | [],[],[],_,_,_=>rfl
 |t::ts,v::vs,d::ds,ps,h,hv=>by
  obtain ⟨p,q,⟨fuel,h1⟩,h2,_⟩:=h
  exact ⟨v,vs,rfl,⟨hv 0 t v rfl rfl,fuel,_,h1⟩,zb h2 fun j t' v' a b=>hv (j+1) t' v' a b⟩
theorem pK: ∀{ts:List TypeId} {vs:List Value} {ds:List (DataW H)} {ps:List MemPlace},DataW.TrodAll enc P W 0 (fun _=>true) true ts vs ds ps→ds.length=ts.length
 | [],[],[],_,_=>rfl
 |_::_,_::_,_::_,_,h=>by
  obtain ⟨p,q,_,h2,_⟩:=h
  simp [pK h2]
theorem nM (hl:laidOutB P=true) {W':World} (hb:Below W.heap.size W W'): ∀{ts:List TypeId} {vs:List Value} {ds:List (DataW H)} {ps:List MemPlace},DataW.TrodAll enc P W 0 (fun _=>true) true ts vs ds ps→
  (∀t∈ts,P.readableRec t=true∧t<P.types.size)→∃qs,DataW.TrodAll enc P W' 0 (fun b=>decide (b<W.heap.size)) true ts vs ds qs
 | [],[],[],_,_,_=>⟨[],rfl⟩
 |t::ts,v::vs,d::ds,ps,h,hr=>by
  obtain ⟨p,q,h1,h2,_⟩:=h
  obtain ⟨qs,h3⟩:=nM hl hb h2 fun t ht=>hr t (List.mem_cons_of_mem _ ht)
  obtain ⟨ht1,ht2⟩:=hr t (by simp)
  have hlt: ∀x∈p,x.block<W.heap.size:=by obtain ⟨m,hm⟩:=h1;exact DataW.trod_lt m _ _ _ hm
  exact ⟨_,p,qs,Below.trod hl ht1 ht2 h1 hb hlt,h3,rfl⟩
theorem DB {C:Checked} {os:Os} {f:FuncId} {fn:Func} {s:ChangeSpec} {conds:List PathCond} {tb:TypeId}
  (own:ownKnob C.prog.godebug=none) (started:os.Started) (noInit:C.prog.inits.idxOf? f=none) (hfn:C.prog.funcs[f]? =some fn)
  (witness: ∃(w:World) (tape:Tape) (i:Input),w.os=os∧(w.forCall tape i).Shaped C.prog∧i.vars= []∧Input.okWide C.prog (w.forCall tape i) .any w.heap.size f i∧
   s.pre6 enc C.prog fn conds false (w.forCall tape i).memory i.args∧({}:Assume).holds C.prog (lone (Frame.enter C.prog f i.args .normal) [] (w.forCall tape i)))
  (hvars:s.vars= []) (hres:fn.resultTypes= #[tb]) (htb:C.prog.underlying tb=some .bool)
  (hspec: ∀ds:List (DataW H),ds.length=fn.params.toList.length→s.fn H ds={results:= [.lit (.bool true)],args:=ds})
  (laid:laidOutB C.prog=true) (hr:fn.params.toList.all (fun t=>C.prog.readableRec t&&decide (t<C.prog.types.size))=true)
  (contract: ∀(W:World) (args:Array Value) (ds:List (DataW H)),AN enc C.prog W fn.params.toList args.toList→(DataW.weightsEach C.prog fn.params.toList ds).all (·≤reachBytes)=true→
   Cl C.prog [kB] f args W (fun b w'=>b=true∧Below W.heap.size W w')):
  ReturnsInHanded {} C os f .any (s.pre6 enc C.prog fn conds false) (s.post enc C.prog fn false true false false):=by
 refine returnsInHanded_of_change_sized own started noInit hfn witness ?_
 intro W base args ds gs before hval hW _ hz _
 have hW':=hW
 obtain ⟨p,q,hA,hV,rfl,hfz,hnd⟩:=hW
 rw [hvars] at hV
 obtain ⟨rfl,rfl⟩:=trodVars_none hV
 have hlen:=pK hA
 have hz':(DataW.weightsEach C.prog fn.params.toList ds).all (·≤reachBytes)=true:=by
  have e:s.plain.varTypes C.prog= []:=by
   simp [DataSpec.varTypes,ChangeSpec.plain,hvars]
  rw [e,List.append_nil,List.append_nil] at hz
  exact hz
 have hargs:=zb (vs:=args.toList) hA fun j t v ht hv=>⟨base,hval j t v (by simpa using ht) (by simpa using hv)⟩
 refine Calls.mono (contract W args ds hargs hz') fun e W' hp=> ?_
 cases e with
 |returned v=>
  obtain ⟨b,hv,hb,bel⟩:=Ki.cw (k:=kB) hp
  subst hb
  have hv:v= .bool true:=hv
  subst hv
  have hsp:=hspec ds hlen
  obtain ⟨qs,hq⟩:=nM laid bel hA fun t ht=>by
   have:=List.all_eq_true.1 hr t ht
   simpa using this
  refine ⟨_,rfl,ds,[],_,[],qs,[],hW',?_,?_,?_,bel.frame _,fun h=>by cases h⟩
  ·rw [List.append_nil,hsp,hres]
   exact trodAll_mk1 (shut_bool htb _)
  ·rw [List.append_nil,hsp];exact hq
  ·rw [hvars]
   have:(s.fn H (ds++ [])).vars= []:=by rw [List.append_nil,hsp]
   rw [this];rfl
 |_=>exact absurd hp (by intro h;exact h)
end
end Go.Vc
set_option maxRecDepth 20000
namespace Go.Vc
open Go Go.RowKit Go.ChangeShapes Go.WideShapes
section
variable {H:Type} {enc:TypeId×Value→H} {P:Program} {W:World}
theorem Arg.agg {t e:TypeId} {n:Nat} {v:Value} (h:Arg enc P W t v) (ht:P.underlying t=some (.array n e)): ∃cs,v= .agg cs∧dh enc P W t cs.toList:=by
 obtain ⟨base,hb⟩:=h.1
 simp only [Value.okWide,ht] at hb
 obtain ⟨cs,rfl,_⟩:=hb
 exact ⟨cs,rfl,h.2⟩
end
end Go.Vc
