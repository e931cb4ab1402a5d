/- Texts packed together by program; spaces struck by program. Conditions: as each theorem states. -/
import Derived.Carry
import Derived.OpenShut
import Derived.ProofKit
import Derived.SizedLaws
import Derived.Test.YtcdpblipagajiaaGreatQhd
set_option linter.unusedSimpArgs false
set_option linter.unusedVariables false
namespace Go.Proofs.YtcdpblipagajiaaGreat
open Go Go.Vc Go.Bits Go.Crc
section
variable {E w:World} {F:List HP}
set_option maxRecDepth 20000
theorem mD (a b:Nat):Int.tmod (a:Int) (b:Int)=((a % b:Nat):Int):=rfl
theorem lV (a b:Nat):Int.tdiv (a:Int) (b:Int)=((a/b:Nat):Int):=rfl
theorem IQ {b:Nat} {K:Int→World→Prop} (hb:b<256) (hK:K (row b:Int) w):Cl Tryz.prog [az .u32] nv ⟨[.int .u8 (b:Int)]⟩ w K:=by
 refine DP.ok _ _ _ ?_
 refine ⟨fun c i w'=>w'=w∧∃k:Nat,i=(k:Int)∧k≤8∧c=(bA k b:Int),fun _ i _=>8 - i.toNat,⟨rfl,0,rfl,by omega,by rw [gd (by omega)];rfl⟩,?_⟩
 rintro c i w' ⟨rfl,k,rfl,hk,rfl⟩
 refine aa.dm (fun hlt=> ?_) (fun hge=> ?_)
 ·have hlt:k<8:=by omega
  have hb:=qp k b (by omega)
  have hm:IntKind.max .u32=4294967295:=rfl
  have h2:=eP hb
  have e1:u32 (Int.tdiv (bA k b:Int) 2)=((bA k b/2:Nat):Int):=by
   rw [show (2:Int)=((2:Nat):Int) from rfl,lV,gd (by omega)]
  have e2:Int.tmod (bA k b:Int) 2=((bA k b % 2:Nat):Int):=mD _ 2
  rw [e1,e2,ad (by omega)]
  have hs:bA (k+1) b=half (bA k b):=rfl
  refine ⟨by decide,by decide,aa.mk (fun ho=> ?_) (fun he=> ?_)⟩
  ·have ho:bA k b % 2=1:=by rw [beq_iff_eq] at ho;omega
   have hh:bA k b/2^^^3988292384=bA (k+1) b:=by rw [hs];unfold half;rw [if_pos ho]
   refine ⟨⟨rfl,k+1,rfl,by omega,?_⟩,by first|omega|(dsimp only;omega)⟩
   rw [show (3988292384:Int)=((3988292384:Nat):Int) from rfl,gf (by omega) (by omega) (by rw [hh,hs];omega),hh]
  ·have ho: ¬bA k b % 2=1:=by rw [beq_eq_false_iff_ne] at he;omega
   have hh:bA k b/2=bA (k+1) b:=by rw [hs];unfold half;rw [if_neg ho,Nat.xor_zero]
   exact ⟨⟨rfl,k+1,rfl,by omega,by rw [hh]⟩,by first|omega|(dsimp only;omega)⟩
 ·have:k=8:=by omega
  subst this
  exact hK
theorem GY {c x:Nat} {K:Int→World→Prop} (hc:c<4294967296) (hx:x<256) (hK:K (Crc.step c x:Int) w):Cl Tryz.prog [az .u32] mf ⟨[.int .u32 (c:Int),.int .u8 (x:Int)]⟩ w K:=by
 refine Cd.ok _ _ _ _ ?_
 have hm:IntKind.max .u32=4294967295:=rfl
 have hm8:IntKind.max .u8=255:=rfl
 have hi:=qM (c:=c) hx
 have hr:=xR (c:=c % 256^^^x) (by omega)
 have hs:=uX hc hx
 have e1:dg .u8 (u8 (Int.tmod (c:Int) 256)) (x:Int)=((c % 256^^^x:Nat):Int):=by
  rw [show (256:Int)=((256:Nat):Int) from rfl,mD,gC (by omega),gf (by omega) (by omega) (by omega)]
 rw [e1]
 refine ⟨by decide,IQ hi ⟨by decide,?_⟩⟩
 unfold Crc.step at hs hK
 rw [show (256:Int)=((256:Nat):Int) from rfl,lV,gd (by omega),gf (by omega) (by omega) (by omega)]
 exact hK
theorem Ij {c:Nat} (h:c<4294967296):dg .u32 (c:Int) 4294967295=((c^^^4294967295:Nat):Int):=by
 have hm:IntKind.max .u32=4294967295:=rfl
 have hx:c^^^4294967295<2^32:=Nat.xor_lt_two_pow (by omega) (by decide)
 rw [show (4294967295:Int)=((4294967295:Nat):Int) from rfl,gf (by omega) (by omega) (by omega)]
theorem G2 {c:Nat} {K:Int→World→Prop} {s:Sl} {cs:List Sl} {bs:List (List Nat)} (h:Hp E w F) (hc0:c<4294967296)
  (hs:ab F (aC 1 s (cs.map fun x=> .slice x.base x.len x.cap))) (hl:cs.length=bs.length) (hcl:cs.length≤cf) (hc: ∀i (h:i<cs.length),ab F (aC 1 cs[i] ((bs.getD i []).map vB)))
  (hby: ∀b∈bs,∀y∈b,y<256) (hbig: ∀b∈bs,b.length≤cf)
  (hK:K ((Crc.feed (c^^^4294967295) bs.flatten^^^4294967295:Nat):Int) w):Cl Tryz.prog [az .u32] l7 ⟨[.int .u32 (c:Int),.slice s.base s.len s.cap]⟩ w K:=by
 refine CH.ok _ _ _ _ ?_
 have hlen:s.len=cs.length:=by have:=(h.ag hs).1;simpa using this.symm
 have hflat: ∀y∈bs.flatten,y<256:=fun y hy=>by
  obtain ⟨b,hb1,hb2⟩:=List.mem_flatten.1 hy
  exact hby b hb1 y hb2
 have hc1:c^^^4294967295<4294967296:=Nat.xor_lt_two_pow (n:=32) hc0 (by decide)
 rw [av] at hcl
 rw [Ij hc0]
 refine ⟨fun x i w'=>w'=w∧∃k:Nat,i=(k:Int)∧k≤cs.length∧x=(Crc.feed (c^^^4294967295) (bs.take k).flatten:Int),fun _ i _=>cs.length - i.toNat,⟨rfl,0,rfl,by omega,rfl⟩,?_⟩
 rintro x i w ⟨rfl,k,rfl,hk,rfl⟩
 refine aa.dm (fun hlt=> ?_) (fun hge=> ?_)
 ·have hlt:k<cs.length:=by omega
  have hkb:k<bs.length:=by omega
  have hgd:bs.getD k []=bs[k]:=by rw [List.getD_eq_getElem?_getD,List.getElem?_eq_getElem hkb];rfl
  have hck:=hc k hlt
  rw [hgd] at hck
  have hmem:=List.getElem_mem hkb
  have hblen:=hbig _ hmem
  rw [av] at hblen
  have hlk:=(h.ag hck).1
  simp only [List.length_map,Nat.mul_one] at hlk
  have rdp: ∀{G:Sl→Prop},G cs[k]→ao s (k:Int) 1 fun q=>Ld kS q w G:=fun hG=>ao.rd (h.ag hs) (by omega) (by omega) fun q hi hq=>Ld.sc _ (by simpa using hq:w.cell? q=some (Sc.sl.enc cs[k])) hG
  refine ⟨fun x i w'=>w'=w∧∃j:Nat,i=(j:Int)∧j≤bs[k].length∧x=(Crc.feed (c^^^4294967295) ((bs.take k).flatten++bs[k].take j):Int),fun _ i _=>bs[k].length - i.toNat,⟨rfl,0,rfl,by omega,by simp⟩,?_⟩
  rintro x i w' ⟨rfl,j,rfl,hj,rfl⟩
  have hpre: ∀y∈(bs.take k).flatten++bs[k].take j,y<256:=fun y hy=>by
   rcases List.mem_append.1 hy with hy|hy
   ·obtain ⟨b,hb1,hb2⟩:=List.mem_flatten.1 hy
    exact hby b (List.mem_of_mem_take hb1) y hb2
   ·exact hby _ hmem y (List.mem_of_mem_take hy)
  have hfl:=Crc.lz _ _ hc1 hpre
  refine rdp (aa.dm (fun hlt2=> ?_) (fun hge2=> ?_))
  ·have hjl:j<bs[k].length:=by omega
   have hy:=hby _ hmem _ (List.getElem_mem hjl)
   refine rdp (ao.rd (h.ag hck) (by omega) (by omega) fun q hi hq=> ?_)
   refine Ld.sc (s:= .int .u8) (bs[k][j]:Int) (by simpa [vB] using hq) ?_
   refine GY hfl hy ?_
   rw [ad (by omega)]
   refine ⟨⟨rfl,j+1,rfl,by omega,?_⟩,by first|omega|(dsimp only;omega)⟩
   rw [List.take_add_one,List.getElem?_eq_getElem hjl,←List.append_assoc,Crc.zj ((bs.take k).flatten++bs[k].take j)];rfl
  ·have hjl:j=bs[k].length:=by omega
   subst hjl
   rw [ad (by omega),List.take_length]
   exact ⟨⟨rfl,k+1,rfl,by omega,by rw [vp hkb,hgd]⟩,by first|omega|(dsimp only;omega)⟩
 ·have hkl:k=bs.length:=by omega
  subst hkl
  rw [List.take_length]
  have hfl:=Crc.lz _ _ hc1 hflat
  rw [Ij hfl]
  exact hK
theorem Gz {K:Int→World→Prop} {s:Sl} {cs:List Sl} {bs:List (List Nat)} (h:Hp E w F)
  (hs:ab F (aC 1 s (cs.map fun x=> .slice x.base x.len x.cap))) (hl:cs.length=bs.length) (hcl:cs.length≤cf) (hc: ∀i (h:i<cs.length),ab F (aC 1 cs[i] ((bs.getD i []).map vB)))
  (hby: ∀b∈bs,∀y∈b,y<256) (hbig: ∀b∈bs,b.length≤cf)
  (hK:K (Crc.bQ bs.flatten:Int) w):Cl Tryz.prog [az .u32] ln ⟨[.slice s.base s.len s.cap]⟩ w K:=by
 refine Ew.ok _ _ _ ?_
 exact G2 (c:=0) h (by decide) hs hl hcl hc hby hbig hK
theorem Ia {c:Nat} {K:Sl→World→Prop} (h:Hp E w F) (hc:c<4294967296) (hK: ∀s w',Hp E w' (ah 1 s ((Hd.eU c).map vB)::F)→K s w'):Cl Tryz.prog [kS] nF ⟨[.int .u32 (c:Int)]⟩ w K:=by
 refine DO.ok _ _ _ ?_
 refine ⟨by decide,by decide,by decide,by decide,by decide,by decide,?_⟩
 have e1:u8 (u32 (Int.tdiv (c:Int) 16777216))=((c/16777216 % 256:Nat):Int):=by
  rw [show (16777216:Int)=((16777216:Nat):Int) from rfl,lV,gd (by omega),qa];omega
 have e2:u8 (Int.tmod (u32 (Int.tdiv (c:Int) 65536)) 256)=((c/65536 % 256:Nat):Int):=by
  rw [show (65536:Int)=((65536:Nat):Int) from rfl,lV,gd (by omega),show (256:Int)=((256:Nat):Int) from rfl,mD,gC (by omega)]
 have e3:u8 (Int.tmod (u32 (Int.tdiv (c:Int) 256)) 256)=((c/256 % 256:Nat):Int):=by
  rw [show (256:Int)=((256:Nat):Int) from rfl,lV,gd (by omega),mD,gC (by omega)]
 have e4:u8 (Int.tmod (c:Int) 256)=((c % 256:Nat):Int):=by
  rw [show (256:Int)=((256:Nat):Int) from rfl,mD,gC (by omega)]
 rw [e1,e2,e3,e4]
 exact Nw.mk h fun b3 w h=>hK _ w (h.fC (n:=4) (sz:=1) rfl)
end
end Go.Proofs.YtcdpblipagajiaaGreat
namespace Go.Proofs.YtcdpblipagajiaaGreat
open Go Go.Vc Go.Srt Go.Inc Go.Hd Go.Crc
section
variable {E w:World} {F:List HP}
set_option maxRecDepth 20000
theorem Be {n:Nat} {K:Sl→Int→World→Prop} (h:Hp E w F) (hn:n≤65536) (hK: ∀s w',Hp E w' (OB s (dV n)::F)→K s 0 w'):Cl Tryz.prog [kS,kI] j8 ⟨[.int .i64 (n:Int)]⟩ w K:=by
 refine DD.ok _ _ _ ?_
 refine aa.df (by omega) (aa.df (by omega) ⟨by decide,?_⟩)
 have e128: ∀m:Nat,Int.tmod (m:Int) 128=((m % 128:Nat):Int):=fun _=>rfl
 have d128: ∀m:Nat,Int.tdiv (m:Int) 128=((m/128:Nat):Int):=fun _=>rfl
 rw [e128,d128,gC (by omega),ad (by omega)]
 refine Nw.mk h fun b3 w h=>⟨by decide,?_⟩
 have h:=Hp.fC (n:=1) (sz:=1) h rfl
 refine ⟨fun x s w'=> ∃(m:Nat) (l:List Nat),x=(m:Int)∧m≤512∧l.length+m≤513∧nT m++l=dV n∧Hp E w' (OB s l::F),fun x _ _=>x.toNat,⟨n/128,[n % 128],rfl,by omega,by simp;omega,rfl,h⟩,?_⟩
 rintro x s w ⟨m,l,rfl,hm5,hl,hv,h⟩
 refine aa.dm (fun hlt=> ?_) (fun hge=> ?_)
 ·have hm0:0<m:=by omega
  rw [e128,d128,ad (x:=128+((m % 128:Nat):Int)) (by omega),gC (by omega),ad (by omega),show 128+((m % 128:Nat):Int)=((128+m % 128:Nat):Int) by omega]
  refine ⟨by decide,Nw.mk h fun b12 w h=>Gs h (by omega) fun s w h=>⟨by decide,?_⟩⟩
  refine ⟨⟨m/128,(128+m % 128)::l,rfl,by omega,by rw [List.length_cons];omega,?_,h⟩,by first|omega|(dsimp only;omega)⟩
  rw [←hv,lO hm0]
  simp
 ·have hm0:m=0:=by omega
  subst hm0
  rw [iL,List.nil_append] at hv
  rw [hv] at h
  exact hK s w h
theorem nc {n:Int} {M P u:Nat} {K:Sl→Int→World→Prop} (h:Hp E w F) (hM:M≤65536) (hP:P≤65536) (hu:u<4294967296)
  (hgood:1≤n→n≤65536→1≤M→(M:Int)≤n→1≤P→P≤M→∀s w',Hp E w' (OB s (bN M P u)::F)→K s 0 w')
  (hbad: ¬(1≤n∧n≤65536∧1≤M∧(M:Int)≤n∧1≤P∧P≤M)→∀w',Hp E w' F→K ⟨none,0,0⟩ 2 w'):
  Cl Tryz.prog [kS,kI] cI ⟨[.int .i64 n,.agg ⟨[.int .i64 (M:Int),.int .i64 (P:Int),.int .u32 (u:Int)]⟩]⟩ w K:=by
 refine uV.ok _ ((M:Int),(P:Int),(u:Int),()) _ _ ?_
 (try simp only [aH,ay,au,Nat.zero_add,Nat.add_zero,Nat.reduceAdd,Bool.not_true,Bool.not_false,aZ,aY,Option.isNone])
 refine Nw.mk h fun b4 w h=> ?_
 refine aa.dm (fun h1=>hbad (by omega) _ h.tl) (fun h1=>aa.dm (fun h2=>hbad (by omega) _ h.tl) (fun h2=>Ld.xb h rfl (aa.dm (fun h3=>hbad (by omega) _ h.tl) (fun h3=>Ld.xb h rfl (aa.dm (fun h4=>hbad (by omega) _ h.tl) (fun h4=>Ld.xb h rfl (aa.dm (fun h5=>hbad (by omega) _ h.tl) (fun h5=>Ld.xb h rfl (Ld.xb h rfl (aa.dm (fun h6=>hbad (by omega) _ h.tl) (fun h6=> ?_)))))))))))
 refine Ld.xb h rfl (Be h hM fun s1 w h=>Ld.xb (b:=b4) h rfl (Be h hP fun s2 w h=>Nw.mk h fun b21 w h=> ?_))
 have l1:=ey hM
 have l2:=ey hP
 refine Gs (h.at 2).p1 (by omega) fun s3 w h=>uF h ab.own (by rw [List.length_cons];omega) (by omega) fun s4 w h=>Ld.xb (b:=b4) h rfl (Ia h hu fun s5 w h=> ?_)
 refine uF (h.at 1) ab.own (by rw [List.length_append,List.length_cons];omega) (by simp [eU]) fun s6 w h=>hgood (by omega) (by omega) (by omega) (by omega) (by omega) (by omega) s6 w ?_
 have e:1::dV M++dV P++eU u=bN M P u:=by simp [bN]
 rw [e] at h
 exact h.dP
end
end Go.Proofs.YtcdpblipagajiaaGreat
set_option maxRecDepth 20000
namespace Go.Srt
def CE (l:List Nat) (N:Nat):List Nat:=(List.range N).flatMap fun n=>(List.range 258).filter fun s=>l.getD s 0==n+1
end Go.Srt
namespace Go.Proofs.YtcdpblipagajiaaGreat
open Go Go.Vc Go.Srt Go.Bits
section
variable {E w:World} {F:List HP}
end
end Go.Proofs.YtcdpblipagajiaaGreat
namespace Go.Proofs.YtcdpblipagajiaaGreat
open Go Go.Vc
set_option maxRecDepth 100000
theorem CN.ok (a:Sl) (b:Int) (R:Sl→Int→World→Prop) w (h:
 bf (fun (d:World)=>
 Cl Pg [kS] kJ ⟨[(al a)]⟩ d fun (f:Sl) e=>
 AR (⟨none,0,0⟩:Sl) 0 0 e fun g h (i:Sl) (j:Int) (k:Int) l=>
 aa (decide (k<(a.len:Int)))
 (aa (j==b)
 (R (⟨none,0,0⟩:Sl) 170 l)
 (aa (decide (j>b))
 (ao a (i64 (j - 1)) 1 fun m=>
 Ld (az .u8) m l fun (n:Int)=>
 Nw 5 ⟨[(.int .u8 n)]⟩ l fun p o=>
 aA Pg (Builtin.append_ #[22,22] 22 ⟨[(al i),(al (⟨some ⟨p,0,none⟩,1,1⟩:Sl))]⟩) kS o fun (r:Sl) q=>
 ao f (i64 (j - 1)) 1 fun s=>
 Ld kI s q fun (t:Int)=>
 g r t (i64 (k+1)) q∧h r t (i64 (k+1)) q<h i j k l)
 (ao a j 1 fun u=>
 Ld (az .u8) u l fun (v:Int)=>
 Nw 5 ⟨[(.int .u8 v)]⟩ l fun y x=>
 aA Pg (Builtin.append_ #[22,22] 22 ⟨[(al i),(al (⟨some ⟨y,0,none⟩,1,1⟩:Sl))]⟩) kS x fun (a1:Sl) z=>
 ao f j 1 fun b1=>
 Ld kI b1 z fun (c1:Int)=>
 g a1 c1 (i64 (k+1)) z∧h a1 c1 (i64 (k+1)) z<h i j k l)))
 (aa (j !=b)
 (R (⟨none,0,0⟩:Sl) 170 l)
 (Cl Pg [kS] eW ⟨[(al i)]⟩ l fun (e1:Sl) d1=>
 R e1 0 d1))) fun c=>
 aa (decide (b<0))
 (R (⟨none,0,0⟩:Sl) 170 w)
 (aa (decide (b>(a.len:Int)))
 (R (⟨none,0,0⟩:Sl) 170 w)
 (aa (b==0)
 (aa (decide ((a.len:Int)>0))
 (R (⟨none,0,0⟩:Sl) 170 w)
 (c w))
 (c w)))):Cl Pg [kS,kI] jB ⟨[(al a),(ni b)]⟩ w R:=co Tryz.f29 [(2,[]),(16,[(7,kS),(8,kI),(9,kI)])] h
theorem yi.ok (a:Sl) (R:Sl→World→Prop) w (h:
 cD (⟨none,0,0⟩:Sl) (i64 ((a.len:Int) - 1)) w fun b c (d:Sl) (e:Int) f=>
 aa (decide (e≥0))
 (ao a e 1 fun g=>
 Ld (az .u8) g f fun (h:Int)=>
 Nw 5 ⟨[(.int .u8 h)]⟩ f fun j i=>
 aA Pg (Builtin.append_ #[22,22] 22 ⟨[(al d),(al (⟨some ⟨j,0,none⟩,1,1⟩:Sl))]⟩) kS i fun (l:Sl) k=>
 b l (i64 (e - 1)) k∧c l (i64 (e - 1)) k<c d e f)
 (R d f)):Cl Pg [kS] eW ⟨[(al a)]⟩ w R:=co Tryz.f30 [(7,[(3,kS),(4,kI)])] h
theorem BH.ok (a:Sl) (R:Sl→Int→World→Prop) w (h:
 Cl Pg [kS] kE ⟨[(al a)]⟩ w fun (c:Sl) b=>
 AR (⟨none,0,0⟩:Sl) 0 0 b fun d e (f:Sl) (g:Int) (h:Int) i=>
 aa (decide (h<(c.len:Int)))
 (ao c h 1 fun j=>
 Ld kI j i fun (k:Int)=>
 aa (k==0)
 (d f h (i64 (h+1)) i∧e f h (i64 (h+1)) i<e f g h i)
 (ao c h 1 fun l=>
 Ld kI l i fun (m:Int)=>
 ao a (i64 (m - 1)) 1 fun n=>
 Ld (az .u8) n i fun (o:Int)=>
 Nw 5 ⟨[(.int .u8 o)]⟩ i fun q p=>
 aA Pg (Builtin.append_ #[22,22] 22 ⟨[(al f),(al (⟨some ⟨q,0,none⟩,1,1⟩:Sl))]⟩) kS p fun (s:Sl) r=>
 d s g (i64 (h+1)) r∧e s g (i64 (h+1)) r<e f g h i))
 (R f g i)):Cl Pg [kS,kI] mr ⟨[(al a)]⟩ w R:=co Tryz.f62 [(11,[(4,kS),(5,kI),(7,kI)])] h
theorem zW.ok (a:Sl) (R:Sl→World→Prop) w (h:
 Nw 171 ⟨List.replicate 256 (ni 0)⟩ w fun c b=>
 Nw 171 ⟨List.replicate 256 (ni 0)⟩ b fun e d=>
 dn 0 d fun f g (h:Int) i=>
 aa (decide (h<(a.len:Int)))
 (ao a h 1 fun j=>
 Ld (az .u8) j i fun (k:Int)=>
 dn (i64 ((i64 k)+1)) i fun l m (n:Int) o=>
 aa (decide (n<256))
 (aB ⟨c,0,none⟩ 256 n 1 fun p=>
 Ld kI p o fun (q:Int)=>
 aB ⟨c,0,none⟩ 256 n 1 fun r=>
 St r (ni (i64 (q+1))) o fun s=>
 l (i64 (n+1)) s∧m (i64 (n+1)) s<m n o)
 (f (i64 (h+1)) o∧g (i64 (h+1)) o<g h i))
 (cD (⟨none,0,0⟩:Sl) 0 i fun t u (v:Sl) (x:Int) y=>
 aa (decide (x<(a.len:Int)))
 (ao a x 1 fun z=>
 Ld (az .u8) z y fun (a1:Int)=>
 eB y fun b1 c1=>
 aB ⟨c,0,none⟩ 256 a1 1 fun d1=>
 ae kI d1 b1 fun (e1:Int)=>
 aB ⟨e,0,none⟩ 256 a1 1 fun f1=>
 ae kI f1 b1 fun (g1:Int)=>
 Nw 3 ⟨[(ni (i64 ((i64 ((1:Int)+e1))+g1)))]⟩ c1 fun i1 h1=>
 b1 h1∧
 aA Pg (Builtin.append_ #[33,33] 33 ⟨[(al v),(al (⟨some ⟨i1,0,none⟩,1,1⟩:Sl))]⟩) kS h1 fun (k1:Sl) j1=>
 b1 j1∧
 aB ⟨e,0,none⟩ 256 a1 1 fun l1=>
 Ld kI l1 j1 fun (m1:Int)=>
 aB ⟨e,0,none⟩ 256 a1 1 fun n1=>
 St n1 (ni (i64 (m1+1))) j1 fun o1=>
 t k1 (i64 (x+1)) o1∧u k1 (i64 (x+1)) o1<u v x y)
 (R v y))):Cl Pg [kS] kJ ⟨[(al a)]⟩ w R:=co Tryz.f74 [(7,[(5,kI)]),(14,[(6,kI)]),(27,[(7,kS),(8,kI)])] h
theorem Au.ok (a:Sl) (R:Sl→World→Prop) w (h:
 cD (⟨none,0,0⟩:Sl) 0 w fun b c (d:Sl) (e:Int) f=>
 aa (decide (e≤(a.len:Int)))
 (dn (d.len:Int) f fun g h (i:Int) j=>
 aa (decide (i>0))
 (ao d (i64 (i - 1)) 1 fun k=>
 Ld kI k j fun (l:Int)=>
 Cl Pg [kB] mE ⟨[(al a),(ni e),(ni l)]⟩ j fun (n:Bool) m=>
 aa n
 (g (i64 (i - 1)) m∧h (i64 (i - 1)) m<h i j)
 (bg d 0 i (d).cap 1 fun o=>
 aA Pg (Builtin.append_ #[33,33] 33 ⟨[(.slice none 0 0),(al o)]⟩) kS m fun (q:Sl) p=>
 Nw 3 ⟨[(ni e)]⟩ p fun s r=>
 aA Pg (Builtin.append_ #[33,33] 33 ⟨[(al q),(al (⟨some ⟨s,0,none⟩,1,1⟩:Sl))]⟩) kS r fun (u:Sl) t=>
 bg d i (d).len (d).cap 1 fun v=>
 aA Pg (Builtin.append_ #[33,33] 33 ⟨[(al u),(al v)]⟩) kS t fun (y:Sl) x=>
 b y (i64 (e+1)) x∧c y (i64 (e+1)) x<c d e f))
 (bg d 0 i (d).cap 1 fun z=>
 aA Pg (Builtin.append_ #[33,33] 33 ⟨[(.slice none 0 0),(al z)]⟩) kS j fun (b1:Sl) a1=>
 Nw 3 ⟨[(ni e)]⟩ a1 fun d1 c1=>
 aA Pg (Builtin.append_ #[33,33] 33 ⟨[(al b1),(al (⟨some ⟨d1,0,none⟩,1,1⟩:Sl))]⟩) kS c1 fun (f1:Sl) e1=>
 bg d i (d).len (d).cap 1 fun g1=>
 aA Pg (Builtin.append_ #[33,33] 33 ⟨[(al f1),(al g1)]⟩) kS e1 fun (i1:Sl) h1=>
 b i1 (i64 (e+1)) h1∧c i1 (i64 (e+1)) h1<c d e f))
 (R d f)):Cl Pg [kS] kE ⟨[(al a)]⟩ w R:=co Tryz.f115 [(7,[(3,kS),(4,kI)]),(15,[(5,kI)])] h
theorem CJ.ok (a:Sl) (b:Int) (c:Int) (R:Bool→World→Prop) w (h:
 bf (fun (e:World)=>
 bf (fun (q:Int) (r:Int) (s:World)=>
 aa (q==r)
 (R false s)
 (aa (r==(a.len:Int))
 (R false s)
 (aq s fun t=>
 aa (q==(a.len:Int))
 (R true t)
 (ao a q 1 fun u=>
 Ld (az .u8) u t fun (v:Int)=>
 ao a r 1 fun x=>
 Ld (az .u8) x t fun (y:Int)=>
 R (decide (v<y)) t)))) fun f=>
 cD b c e fun g h (i:Int) (j:Int) k=>
 aq k fun l=>
 aa (decide (i<(a.len:Int)))
 (aa (decide (j<(a.len:Int)))
 (ao a i 1 fun m=>
 Ld (az .u8) m l fun (n:Int)=>
 ao a j 1 fun o=>
 Ld (az .u8) o l fun (p:Int)=>
 aa (n==p)
 (aa (i !=j)
 (g (i64 (i+1)) (i64 (j+1)) l∧h (i64 (i+1)) (i64 (j+1)) l<h i j k)
 (f i j l))
 (f i j l))
 (f i j l))
 (f i j l)) fun d=>
 aa (decide (b<0))
 (R false w)
 (aa (decide (b>(a.len:Int)))
 (R false w)
 (aa (decide (c<0))
 (R false w)
 (aa (decide (c>(a.len:Int)))
 (R false w)
 (d w))))):Cl Pg [kB] mE ⟨[(al a),(ni b),(ni c)]⟩ w R:=co Tryz.f164 [(2,[]),(7,[(1,kI),(2,kI)]),(8,[(1,kI),(2,kI)])] h
end Go.Proofs.YtcdpblipagajiaaGreat
set_option maxRecDepth 20000
namespace Go.Proofs.YtcdpblipagajiaaGreat
open Go Go.Vc Go.Bw Go.Hs
section
variable {E w:World} {F:List HP}
set_option maxRecDepth 20000 in
theorem Di {t:List Nat} {s:Sl} {i k:Int} {K:Bool→World→Prop} (h:Hp E w F) (hs:ab F (aC 1 s (t.map vB))) (hn:t.length≤cf) (hK: ∀w',Hp E w' F→K (ti t i k) w'):
  Cl Tryz.prog [kB] mE ⟨[.slice s.base s.len s.cap,.int .i64 i,.int .i64 k]⟩ w K:=by
 refine CJ.ok _ _ _ _ _ ?_
 simp only [aH]
 have hl:=(h.ag hs).1
 simp only [List.length_map,Nat.mul_one] at hl
 rw [av] at hn
 have no: ¬(0≤i∧i≤t.length∧0≤k∧k≤t.length)→K false w:=fun hn=>by
  have:=hK w h
  unfold ti at this
  rwa [decide_eq_false hn,Bool.false_and] at this
 refine aa.mk (fun g=>no (by have:=of_decide_eq_true g;omega)) (fun g1=>aa.mk (fun g=>no (by have:=of_decide_eq_true g;omega)) (fun g2=>aa.mk (fun g=>no (by have:=of_decide_eq_true g;omega)) (fun g3=>aa.mk (fun g=>no (by have:=of_decide_eq_true g;omega)) (fun g4=> ?_))))
 have g1:=of_decide_eq_false g1
 have g2:=of_decide_eq_false g2
 have g3:=of_decide_eq_false g3
 have g4:=of_decide_eq_false g4
 obtain ⟨a0,rfl⟩:=Int.eq_ofNat_of_zero_le (show 0≤i by omega)
 obtain ⟨b0,rfl⟩:=Int.eq_ofNat_of_zero_le (show 0≤k by omega)
 have hK2: ∀w',Hp E w' F→K (sl t a0 b0) w':=fun w' h'=>by
  have:=hK w' h'
  unfold ti at this
  rwa [decide_eq_true ⟨by omega,by omega,by omega,by omega⟩,Bool.true_and,Int.toNat_natCast,Int.toNat_natCast] at this
 refine ⟨fun x y w'=> ∃a b:Nat,x=(a:Int)∧y=(b:Int)∧a≤t.length∧b≤t.length∧sl t a b=sl t a0 b0∧Hp E w' F,fun x _ _=>t.length - x.toNat,⟨a0,b0,rfl,rfl,by omega,by omega,rfl,h⟩,?_⟩
 rintro x y w1 ⟨a,b,rfl,rfl,ha,hb,hab,h1⟩
 refine aq.mk h1 fun w2 h2=> ?_
 have fin:(a<t.length→b<t.length→t.getD a 0=t.getD b 0→a=b)→aa ((a:Int)==(b:Int)) (K false w2) (aa ((b:Int)==(s.len:Int)) (K false w2) (aq w2 fun w_20=>aa ((a:Int)==(s.len:Int)) (K true w_20) (ao s (a:Int) 1 fun q21=>Ld (az .u8) q21 w_20 fun x22=>ao s (b:Int) 1 fun q23=>Ld (az .u8) q23 w_20 fun x24=>K (decide (x22<x24)) w_20))):=fun hd=>by
  refine aa.mk (fun e=> ?_) (fun e=>aa.mk (fun e2=> ?_) (fun e2=>aq.mk h2 fun w3 h3=>aa.mk (fun e3=> ?_) (fun e3=> ?_)))
  ·have e:a=b:=by have:=beq_iff_eq.1 e;omega
   have:=hK2 w2 h2
   rw [←hab,e,(gG t).irr] at this;exact this
  ·have e2:b=t.length:=by have:=beq_iff_eq.1 e2;omega
   have:=hK2 w2 h2
   have e4:sl t a b=false:=by unfold sl;rw [e2,List.drop_length,og]
   rw [←hab,e4] at this;exact this
  ·have e2:b<t.length:=by have:=beq_eq_false_iff_ne.1 e2;omega
   have e3:a=t.length:=by have:=beq_iff_eq.1 e3;omega
   have:=hK2 w3 h3
   have e4:sl t a b=true:=by unfold sl;rw [e3,List.drop_length,lR e2];rfl
   rw [←hab,e4] at this;exact this
  ·have e:=beq_eq_false_iff_ne.1 e
   have e2:b<t.length:=by have:=beq_eq_false_iff_ne.1 e2;omega
   have e3:a<t.length:=by have:=beq_eq_false_iff_ne.1 e3;omega
   have hne:t.getD a 0≠t.getD b 0:=fun h=>e (by rw [hd e3 e2 h])
   refine ao.nB (h3.ag hs) rfl e3 (ao.nB (h3.ag hs) rfl e2 ?_)
   have:=hK2 w3 h3
   have e4:sl t a b=decide ((t.getD a 0:Int)<(t.getD b 0:Int)):=by
    rw [uu e3 e2,beq_eq_false_iff_ne.2 hne,Bool.false_and,Bool.or_false,decide_eq_decide];omega
   rw [←hab,e4] at this;exact this
 refine aa.mk (fun c1=>aa.mk (fun c2=> ?_) (fun c2=>fin fun _ hb' _=>by have:=of_decide_eq_false c2;omega)) (fun c1=>fin fun ha' _ _=>by have:=of_decide_eq_false c1;omega)
 have c1:a<t.length:=by have:=of_decide_eq_true c1;omega
 have c2:b<t.length:=by have:=of_decide_eq_true c2;omega
 refine ao.nB (h2.ag hs) rfl c1 (ao.nB (h2.ag hs) rfl c2 ?_)
 refine aa.mk (fun c3=>aa.mk (fun c4=> ?_) (fun c4=>fin fun _ _ _=>(by have h9:(a:Int)=(b:Int):=(by simpa using c4);omega))) (fun c3=>fin fun _ _ he=>absurd (by rw [he]) (beq_eq_false_iff_ne.1 c3))
 have c3:t.getD a 0=t.getD b 0:=by have:=beq_iff_eq.1 c3;omega
 refine ⟨⟨a+1,b+1,by rw [ad (by omega)];omega,by rw [ad (by omega)];omega,by omega,by omega,?_,h2⟩,by dsimp only;rw [ad (x:=(a:Int)+1) (by omega)];omega⟩
 rw [←hab,uu c1 c2,c3];simp
set_option maxRecDepth 20000 in
theorem Cu {t:List Nat} {s:Sl} {K:Sl→World→Prop} (h:Hp E w F) (hs:ab F (aC 1 s (t.map vB))) (hn:t.length≤400000)
  (hK: ∀s' w',Hp E w' (ah 1 s' ((zl (bt t)).map vI)::F)→K s' w'):Cl Tryz.prog [kS] kE ⟨[.slice s.base s.len s.cap]⟩ w K:=by
 refine Au.ok _ _ _ ?_
 have hl:=(h.ag hs).1
 simp only [List.length_map,Nat.mul_one] at hl
 refine ⟨fun o i w'=> ∃(k:Nat) (L:List Nat),i=(k:Int)∧k≤t.length+1∧L.Perm (List.range k)∧L.Pairwise (fun a b=>sl t a b=true)∧Hp E w' (ah 1 o ((zl L).map vI)::F),fun _ i _=>t.length+1 - i.toNat,⟨0,[],rfl,by omega,List.Perm.refl _,List.Pairwise.nil,h.bl 1⟩,?_⟩
 rintro o i w1 ⟨k,L,rfl,hk,hp,hpw,h1⟩
 have hLl:L.length=k:=by rw [hp.length_eq,List.length_range]
 have hol:=h1.aO
 rw [List.length_map,eN,Nat.mul_one] at hol
 have hcap:=h1.ej
 refine aa.mk (fun hlt=> ?_) (fun hge=> ?_)
 ·have hlt:k≤t.length:=by have:=of_decide_eq_true hlt;omega
  have hin: ∀j (hj:j<L.length),L[j]<k:=fun j hj=>by
   have:=hp.mem_iff.1 (List.getElem_mem hj)
   rwa [List.mem_range] at this
  have hgd: ∀j (hj:j<L.length),(zl L).getD j 0=(L[j]:Int):=fun j hj=>by simp [zl,List.getD,hj]
  refine ⟨fun c w'=> ∃m:Nat,c=(m:Int)∧m≤k∧(∀j (hj:j<L.length),m≤j→sl t k L[j]=true)∧Hp E w' (ah 1 o ((zl L).map vI)::F),fun c _=>c.toNat,⟨k,by omega,by omega,fun j hj h=>by omega,h1⟩,?_⟩
  rintro c w2 ⟨m,rfl,hm,hgt,h2⟩
  have fin: ∀{w3:World},Hp E w3 (ah 1 o ((zl L).map vI)::F)→(m=0∨∃hj:m - 1<L.length,sl t k L[m - 1]=false)→
    bg o 0 (m:Int) (o.cap:Int) 1 fun s15=>aA Tryz.prog (Builtin.append_ #[33,33] 33 ⟨[.slice none 0 0,.slice s15.base s15.len s15.cap]⟩) kS w3 fun s17 w_16=>
     Nw 3 ⟨[.int .i64 (k:Int)]⟩ w_16 fun b19 w_18=>aA Tryz.prog (Builtin.append_ #[33,33] 33 ⟨[.slice s17.base s17.len s17.cap,.slice (some ⟨b19,0,none⟩) 1 1]⟩) kS w_18 fun s21 w_20=>
     bg o (m:Int) (o.len:Int) (o.cap:Int) 1 fun s22=>aA Tryz.prog (Builtin.append_ #[33,33] 33 ⟨[.slice s21.base s21.len s21.cap,.slice s22.base s22.len s22.cap]⟩) kS w_20 fun s24 w_23=>
     (∃(k':Nat) (L':List Nat),i64 ((k:Int)+1)=(k':Int)∧k'≤t.length+1∧L'.Perm (List.range k')∧L'.Pairwise (fun a b=>sl t a b=true)∧Hp E w_23 (ah 1 s24 ((zl L').map vI)::F))∧t.length+1 - (i64 ((k:Int)+1)).toNat<t.length+1 - (k:Int).toNat:=fun {w3} h3 hst=>by
   refine bg.rd (h3.ag ab.own) (by omega) (by omega) (by omega) (by omega) (by omega) fun s15 h15 hl15=> ?_
   have ht15:aC 1 s15 ((zl (L.take m)).map vI) w3:=by
    have:=h15 w3 (h3.ag ab.own)
    rwa [show (0:Int).toNat=0 from rfl,List.drop_zero,Nat.sub_zero,Int.toNat_natCast,←List.map_take,show (zl L).take m=zl (L.take m) by unfold zl;rw [List.map_take]] at this
   have hA:=h3.bl 1
   refine aM (s:=⟨none,0,0⟩) (ys:=(zl (L.take m)).map vI) (n:=m) qA (by decide) (.inl ⟨3,by kernel_rfl⟩) hA (.inl ⟨s15.base,s15.len,s15.cap,rfl,by rw [hl15];omega,ht15⟩) (by rw [List.length_map,eN,List.length_take];omega) mZ (by show (2*(0+m)+1024)*8≤2^48;omega) (by show 0+m<2^62;omega) fun s17 w4 h4 hs17=> ?_
   rw [List.nil_append] at h4
   refine Gv qA rfl h4 (by rw [eN,List.length_take,av];omega) fun s21 w5 h5 hs21=> ?_
   rw [eN,List.length_take] at hs21
   refine bg.rd (h5.ag (ab.cons ab.own)) (by omega) (by omega) (by omega) (by omega) (by omega) fun s22 h22 hl22=> ?_
   have ht22:aC 1 s22 ((zl (L.drop m)).map vI) w5:=by
    have:=h22 w5 (h5.ag (ab.cons ab.own))
    rwa [Int.toNat_natCast,Int.toNat_natCast,←List.map_drop,List.take_of_length_le (by rw [List.length_map,List.length_drop,eN];omega),show (zl L).drop m=zl (L.drop m) by unfold zl;rw [List.map_drop]] at this
   refine aM (ys:=(zl (L.drop m)).map vI) (n:=k - m) qA (by decide) (.inl ⟨3,by kernel_rfl⟩) h5 (.inl ⟨s22.base,s22.len,s22.cap,rfl,by rw [hl22];omega,ht22⟩) (by rw [List.length_map,eN,List.length_drop];omega) mZ (by omega) (by omega) fun s24 w6 h6 hs24=> ?_
   rw [ad (by omega)]
   refine ⟨⟨k+1,L.take m++ [k]++L.drop m,by omega,by omega,?_,?_,?_⟩,by omega⟩
   ·rw [List.range_succ]
    refine (List.Perm.append_right _ List.perm_append_comm).trans ?_
    rw [List.append_assoc,List.take_append_drop]
    exact (List.perm_append_comm (l₁:= [k]) (l₂:=L)).trans (hp.append_right _)
   ·have hlo: ∀a∈L.take m,sl t a k=true:=fun a ha=>by
     obtain ⟨j,hj,rfl⟩:=List.getElem_of_mem ha
     rw [List.length_take] at hj
     rw [List.getElem_take]
     rcases hst with h0|⟨hj1,hf⟩
     ·omega
     ·have hne:L[m - 1]≠k:=by have:=hin (m - 1) hj1;omega
      have h8:sl t L[m - 1] k=true:=by
       rcases nU t k (gk.2 hlt) L[m - 1] (gk.2 (by have:=hin (m - 1) hj1;omega)) (fun e=>hne e.symm) with h9|h9
       ·rw [hf] at h9;cases h9
       ·exact h9
      by_cases e:j=m - 1
      ·subst e;exact h8
      ·exact (gG t).trans _ _ _ (List.pairwise_iff_getElem.1 hpw j (m - 1) (by omega) hj1 (by omega)) h8
    have hhi: ∀b∈L.drop m,sl t k b=true:=fun b hb=>by
     obtain ⟨j,hj,rfl⟩:=List.getElem_of_mem hb
     rw [List.length_drop] at hj
     rw [List.getElem_drop]
     exact hgt _ (by omega) (by omega)
    rw [List.append_assoc]
    refine List.pairwise_append.2 ⟨hpw.sublist (List.take_sublist ..),List.pairwise_append.2 ⟨by simp,hpw.sublist (List.drop_sublist ..),fun a ha b hb=> ?_⟩,fun a ha b hb=> ?_⟩
    ·rw [List.mem_singleton] at ha
     subst ha;exact hhi b hb
    ·rcases List.mem_append.1 hb with hb|hb
     ·rw [List.mem_singleton] at hb
      subst hb;exact hlo a ha
     ·exact (gG t).trans _ _ _ (hlo a ha) (hhi b hb)
   ·have e:(zl (L.take m)++ [(k:Int)]).map vI++(zl (L.drop m)).map vI=(zl (L.take m++ [k]++L.drop m)).map vI:=by
     rw [DK,DK,List.map_append,List.map_append,List.map_append];rfl
    rw [e] at h6
    exact h6.p1.drop
  refine aa.mk (fun hpos=> ?_) (fun hpos=>fin h2 (.inl (by have:=of_decide_eq_false hpos;omega)))
  have hpos:0<m:=by have:=of_decide_eq_true hpos;omega
  have e1:i64 ((m:Int) - 1)=((m - 1:Nat):Int):=by rw [ad (by omega)];omega
  rw [e1]
  refine ao.nI (h2.ag ab.own) rfl (by rw [eN];omega) ?_
  rw [hgd (m - 1) (by omega)]
  have hlm:=hin (m - 1) (by omega)
  refine Di h2 (ab.cons hs) (by rw [av];omega) fun w3 h3=> ?_
  have hle:ti t (k:Int) (L[m - 1]:Int)=sl t k L[m - 1]:=by
   unfold ti
   rw [decide_eq_true ⟨by omega,by omega,by omega,by omega⟩,Bool.true_and,Int.toNat_natCast,Int.toNat_natCast]
  rw [hle]
  refine aa.mk (fun hsl=> ?_) (fun hsl=>fin h3 (.inr ⟨by omega,hsl⟩))
  refine ⟨⟨m - 1,rfl,by omega,fun j hj hmj=> ?_,h3⟩,by dsimp only;omega⟩
  by_cases e:j=m - 1
  ·subst e;exact hsl
  ·exact hgt j hj (by omega)
 ·have hge:k=t.length+1:=by have:=of_decide_eq_false hge;omega
  subst hge
  have:L=bt t:=Rk.mI (gG t) (hp.trans (Rk.de (lt:=sl t) (rows t)).symm) hpw (jZ t)
  rw [this] at h1
  exact hK o w1 h1
end
end Go.Proofs.YtcdpblipagajiaaGreat
set_option maxRecDepth 20000
namespace Go.Proofs.YtcdpblipagajiaaGreat
open Go Go.Vc Go.Bw Go.Hs
section
variable {E w:World} {F:List HP}
set_option maxRecDepth 200000 in
theorem DH {t:List Nat} {s:Sl} {K:Sl→Int→World→Prop} (h:Hp E w F) (hs:ab F (aC 1 s (t.map vB))) (hn:t.length≤400000)
  (hK: ∀s' w',Hp E w' (ah 1 s' ((aG t).map vB)::F)→K s' (aR t:Int) w'):Cl Tryz.prog [kS,kI] mr ⟨[.slice s.base s.len s.cap]⟩ w K:=by
 refine BH.ok _ _ _ ?_
 have hl:=(h.ag hs).1
 simp only [List.length_map,Nat.mul_one] at hl
 refine Cu h hs hn fun s3 w1 h1=> ?_
 have hl3:=h1.aO
 rw [List.length_map,eN,gu,Nat.mul_one] at hl3
 refine ⟨fun o ix i w'=> ∃k:Nat,i=(k:Int)∧k≤t.length+1∧ix=(if aR t<k then (aR t:Int) else 0)∧Hp E w' (ah 1 o (((((bt t).take k).filter fun i=>i !=0).map fun i=>t.getD (i - 1) 0).map vB)::ah 1 s3 ((zl (bt t)).map vI)::F),
  fun _ _ i _=>t.length+1 - i.toNat,⟨0,rfl,by omega,rfl,h1.bl 1⟩,?_⟩
 rintro o ix i w2 ⟨k,rfl,hk,rfl,h2⟩
 refine aa.mk (fun hlt=> ?_) (fun hge=> ?_)
 ·have hlt:k<t.length+1:=by have:=of_decide_eq_true hlt;omega
  have hko:k<(bt t).length:=by rw [gu];exact hlt
  have hix:=su t hko
  have hle:(bt t)[k]≤t.length:=sg.1 (List.getElem_mem hko)
  have e0:(zl (bt t)).getD k 0=((bt t)[k]:Int):=by simp [zl,List.getD,hko]
  refine ao.nI (h2.ag (ab.cons ab.own)) rfl (by rw [eN];exact hko) ?_
  rw [e0]
  have hf:=l9 hko
  refine aa.mk (fun hz=> ?_) (fun hz=> ?_)
  ·have hz:(bt t)[k]=0:=by have:=beq_iff_eq.1 hz;omega
   rw [if_pos hz,List.append_nil] at hf
   have hke:=hix.1 hz
   refine ⟨⟨k+1,by rw [ad (by omega)];omega,by omega,by rw [if_pos (by omega)];omega,by rw [hf];exact h2⟩,by dsimp only;rw [ad (by omega)];omega⟩
  ·have hz:(bt t)[k]≠0:=by have:=beq_eq_false_iff_ne.1 hz;omega
   rw [if_neg hz] at hf
   have hke:k≠aR t:=fun e=>hz (hix.2 e)
   refine ao.nI (h2.ag (ab.cons ab.own)) rfl (by rw [eN];exact hko) ?_
   rw [e0]
   have e1:i64 (((bt t)[k]:Int) - 1)=(((bt t)[k] - 1:Nat):Int):=by rw [ad (by omega)];omega
   rw [e1]
   refine ao.nB (h2.ag (ab.cons (ab.cons hs))) rfl (by omega) ?_
   refine tT tP rfl h2 (by rw [List.length_map,av];exact Nat.le_trans (List.length_filter_le ..) (by rw [List.length_take];omega)) fun s' w3 h3 _=>⟨⟨k+1,by rw [ad (by omega)];omega,by omega,?_,?_⟩,by dsimp only;rw [ad (x:=(k:Int)+1) (by omega)];omega⟩
   ·by_cases e:aR t<k
    ·rw [if_pos e,if_pos (by omega)]
    ·rw [if_neg e,if_neg (by omega)]
   ·rw [hf,List.map_append]
    exact h3
 ·have hge:k=t.length+1:=by have:=of_decide_eq_false hge;omega
  subst hge
  have hil:=q0 t
  rw [if_pos (by omega)]
  rw [List.take_of_length_le (by rw [gu];exact Nat.le_refl _)] at h2
  exact hK o w2 h2.p1.drop
def kq (last:List Nat):List Int:=(List.range last.length).map fun i=>(nx last i:Int)
theorem C1 {last:List Nat} {k c:Nat} (hk:k<last.length):fu (last.take (k+1)) c=fu (last.take k) c+if last.getD k 0<c then 1 else 0:=by
 unfold fu
 rw [List.take_add_one,List.getElem?_eq_getElem hk,List.countP_append]
 simp [List.getD,hk]
set_option maxRecDepth 20000 in
theorem CF {last:List Nat} {s:Sl} {K:Sl→World→Prop} (h:Hp E w F) (hs:ab F (aC 1 s (last.map vB))) (hb: ∀x∈last,x<256) (hn:last.length≤400000)
  (hK: ∀s' w',Hp E w' (ah 1 s' ((kq last).map vI)::F)→K s' w'):Cl Tryz.prog [kS] kJ ⟨[.slice s.base s.len s.cap]⟩ w K:=by
 refine zW.ok _ _ _ ?_
 rw [Vc.rf]
 have hl:=(h.ag hs).1
 simp only [List.length_map,Nat.mul_one] at hl
 have hg: ∀k,k<last.length→last.getD k 0<256:=fun k hk=>by
  rw [List.getD,List.getElem?_eq_getElem hk]
  exact hb _ (List.getElem_mem hk)
 have hcb: ∀(k c:Nat),fu (last.take k) c≤last.length:=fun k c=>by
  refine Nat.le_trans List.countP_le_length ?_
  rw [List.length_take];omega
 have hcl: ∀(k c:Nat),(last.take k).count c≤last.length:=fun k c=>by
  refine Nat.le_trans List.count_le_length ?_
  rw [List.length_take];omega
 refine Nw.mk h fun b3 w1 h1=>Nw.mk h1 fun b5 w2 h2=> ?_
 refine ⟨fun i w'=> ∃(k:Nat) (u:List Int),i=(k:Int)∧k≤last.length∧u.length=256∧(∀c,c<256→u.getD c 0=(fu (last.take k) c:Int))∧Hp E w' (aj b3 (.cells (Vc.aT u) 171 (0,0))::aj b5 (.cells (Vc.aT (List.replicate 256 0)) 171 (0,0))::F),fun i _=>last.length - i.toNat,
  ⟨0,_,rfl,by omega,List.length_replicate,fun c hc=>by rw [q8];simp [fu],h2.p1⟩,?_⟩
 rintro i w3 ⟨k,u,rfl,hk,hul,hu,h3⟩
 refine aa.mk (fun hlt=> ?_) (fun hge=> ?_)
 ·have hlt:k<last.length:=by have:=of_decide_eq_true hlt;omega
  have hx:=hg k hlt
  refine ao.nB (h3.ag (ab.cons (ab.cons hs))) rfl hlt ?_
  rw [ad (x:=(last.getD k 0:Int)) (by omega),ad (x:=(last.getD k 0:Int)+1) (by omega)]
  refine ⟨fun c w'=> ∃(m:Nat) (v:List Int),c=(m:Int)∧last.getD k 0<m∧m≤256∧v.length=256∧(∀c,c<256→v.getD c 0=(fu (last.take k) c:Int)+if last.getD k 0<c∧c<m then 1 else 0)∧Hp E w' (aj b3 (.cells (Vc.aT v) 171 (0,0))::aj b5 (.cells (Vc.aT (List.replicate 256 0)) 171 (0,0))::F),fun c _=>256 - c.toNat,
   ⟨last.getD k 0+1,u,by omega,by omega,by omega,hul,fun c hc=>by rw [hu c hc,if_neg (by omega)];omega,h3⟩,?_⟩
  rintro c w4 ⟨m,v,rfl,hm1,hm2,hvl,hv,h4⟩
  refine aa.mk (fun hmlt=> ?_) (fun hmge=> ?_)
  ·have hmlt:m<256:=by have:=of_decide_eq_true hmlt;omega
   have hvm:=hv m hmlt
   rw [if_neg (by omega)] at hvm
   have hbm:=hcb k m
   refine aB.aT (j:=m) h4 rfl hvl hmlt (aB.qW (j:=m) h4 rfl hvl hmlt fun w5 h5=> ?_)
   rw [ad (x:=(m:Int)+1) (by omega)]
   refine ⟨⟨m+1,_,by omega,by omega,by omega,by rw [List.length_set];exact hvl,fun c hc=> ?_,h5⟩,by dsimp only;omega⟩
   rw [dj (by omega)]
   by_cases e:c=m
   ·subst e
    rw [if_pos rfl,hvm,if_pos (by omega),ad (by omega)];omega
   ·rw [if_neg e,hv c hc]
    by_cases e2:last.getD k 0<c∧c<m
    ·rw [if_pos e2,if_pos (by omega)]
    ·rw [if_neg e2,if_neg (by omega)]
  ·have hme:m=256:=by have:=of_decide_eq_false hmge;omega
   subst hme
   rw [ad (x:=(k:Int)+1) (by omega)]
   refine ⟨⟨k+1,v,by omega,by omega,hvl,fun c hc=> ?_,h4⟩,by dsimp only;omega⟩
   rw [hv c hc,C1 hlt]
   by_cases e:last.getD k 0<c
   ·rw [if_pos ⟨e,hc⟩,if_pos e];omega
   ·rw [if_neg (by omega),if_neg e];omega
 have hge:k=last.length:=by have:=of_decide_eq_false hge;omega
 subst hge
 rw [List.take_length] at hu
 refine ⟨fun o i w'=> ∃(k:Nat) (v:List Int),i=(k:Int)∧k≤last.length∧v.length=256∧(∀c,c<256→v.getD c 0=((last.take k).count c:Int))∧Hp E w' (ah 1 o (((List.range k).map fun i=>(nx last i:Int)).map vI)::aj b3 (.cells (Vc.aT u) 171 (0,0))::aj b5 (.cells (Vc.aT v) 171 (0,0))::F),fun _ i _=>last.length - i.toNat,
  ⟨0,_,rfl,by omega,List.length_replicate,fun c hc=>by rw [q8];simp,h3.bl 1⟩,?_⟩
 rintro o i w4 ⟨k,v,rfl,hk,hvl,hv,h4⟩
 refine aa.mk (fun hlt=> ?_) (fun hge=> ?_)
 ·have hlt:k<last.length:=by have:=of_decide_eq_true hlt;omega
  have hx:=hg k hlt
  have hvx:=hv _ hx
  have hux:=hu _ hx
  have hcx:=hcl k (last.getD k 0)
  have hnx:=D2 hlt
  have hnl:=CQ hlt
  have hcb':fu last (last.getD k 0)≤last.length:=List.countP_le_length
  refine ao.nB (h4.ag (ab.cons (ab.cons (ab.cons hs)))) rfl hlt ?_
  refine ⟨cA E [aj b3 (.cells (Vc.aT u) 171 (0,0)),aj b5 (.cells (Vc.aT v) 171 (0,0))],⟨ah 1 o (((List.range k).map fun i=>(nx last i:Int)).map vI)::F,(h4.drew (n:=w4.drawn+1)).perm (by
   simp only [List.cons_append]
   refine List.Perm.cons _ ?_
   exact List.perm_append_comm (l₁:= [_,_]) (l₂:=F))⟩,?_⟩
  have m3: ∀w,cA E [aj b3 (.cells (Vc.aT u) 171 (0,0)),aj b5 (.cells (Vc.aT v) 171 (0,0))] w→∃G,Hp E w (aj b3 (.cells (Vc.aT u) 171 (0,0))::G):=fun w h=>h.front
  have m5: ∀w,cA E [aj b3 (.cells (Vc.aT u) 171 (0,0)),aj b5 (.cells (Vc.aT v) 171 (0,0))] w→∃G,Hp E w (aj b5 (.cells (Vc.aT v) 171 (0,0))::G):=fun w h=>h.zn
  refine aB.JU m3 (j:=last.getD k 0) rfl hul (by omega) (aB.JU m5 (j:=last.getD k 0) rfl hvl (by omega) ?_)
  have e1:i64 (i64 (1+u.getD (last.getD k 0) 0)+v.getD (last.getD k 0) 0)=(nx last k:Int):=by
   rw [hux,hvx,ad (x:=1+(fu last (last.getD k 0):Int)) (by omega),ad (by omega)];omega
  rw [e1]
  have has: ∀{w':World} {A:List HP},Hp E w' (A++(aj b3 (.cells (Vc.aT u) 171 (0,0))::aj b5 (.cells (Vc.aT v) 171 (0,0))::F))→cA E [aj b3 (.cells (Vc.aT u) 171 (0,0)),aj b5 (.cells (Vc.aT v) 171 (0,0))] w':=fun {w' A} h'=>
   ⟨A++F,h'.perm (by rw [List.append_assoc];exact List.Perm.append_left _ (List.perm_append_comm (l₁:= [_,_]) (l₂:=F)))⟩
  have h5:=h4.drew (n:=w4.drawn+1)
  refine Nw.mk h5 fun b34 w5 h6=>⟨has (A:= [_,_]) h6,?_⟩
  have hol:=h6.drop.aO
  rw [List.length_map,List.length_map,List.length_range,Nat.mul_one] at hol
  refine aM (ys:= [vI (nx last k:Int)]) (n:=1) qA (by decide) (.inl ⟨3,by kernel_rfl⟩) h6.p1 (.inl ⟨some ⟨b34,0,none⟩,1,1,rfl,rfl,h6.ag (ab.aD rfl rfl)⟩) rfl (fun y hy=>by rw [List.mem_singleton] at hy;subst hy;rfl) (by omega) (by omega) fun s36 w6 h7 _=>⟨has (A:= [_,_]) h7,?_⟩
  have h7:=h7.p1.drop
  refine aB.aT (j:=last.getD k 0) h7.p2 rfl hvl (by omega) (aB.qW (j:=last.getD k 0) h7.p2 rfl hvl (by omega) fun w7 h8=> ?_)
  rw [ad (x:=(k:Int)+1) (by omega)]
  refine ⟨⟨k+1,v.set (last.getD k 0) (i64 (v.getD (last.getD k 0) 0+1)),by omega,by omega,by rw [List.length_set];exact hvl,fun c hc=> ?_,?_⟩,by dsimp only;omega⟩
  ·rw [dj (by omega),List.take_add_one,List.getElem?_eq_getElem hlt,List.count_append]
   have e:last.getD k 0=last[k]:=by simp [List.getD,hlt]
   by_cases ec:c=last.getD k 0
   ·subst ec
    rw [if_pos rfl,hvx,ad (by omega),e];simp
   ·rw [if_neg ec,hv c hc]
    have:List.count c (some last[k]).toList=0:=by
     rw [List.count_eq_zero]
     simp only [Option.toList_some,List.mem_singleton]
     rw [←e];exact ec
    rw [this];simp
  ·rw [List.range_succ,List.map_append,List.map_append]
   exact h8.q2
 ·have hge:k=last.length:=by have:=of_decide_eq_false hge;omega
  subst hge
  exact hK o w4 h4.p1.drop.p1.drop
set_option maxRecDepth 200000 in
theorem nQ {b:List Nat} {s:Sl} {K:Sl→World→Prop} (h:Hp E w F) (hs:ab F (aC 1 s (b.map vB))) (hn:b.length≤400000)
  (hK: ∀s' w',Hp E w' (ah 1 s' (b.reverse.map vB)::F)→K s' w'):Cl Tryz.prog [kS] eW ⟨[.slice s.base s.len s.cap]⟩ w K:=by
 refine yi.ok _ _ _ ?_
 have hl:=(h.ag hs).1
 simp only [List.length_map,Nat.mul_one] at hl
 refine ⟨fun o i w'=> ∃k:Nat,i=(b.length:Int) - 1 - (k:Int)∧k≤b.length∧Hp E w' (ah 1 o ((b.reverse.take k).map vB)::F),fun _ i _=>(i+1).toNat,⟨0,by rw [ad (by omega)];omega,by omega,h.bl 1⟩,?_⟩
 rintro o i w1 ⟨k,rfl,hk,h1⟩
 refine aa.mk (fun hge=> ?_) (fun hlt=> ?_)
 ·have hge:k<b.length:=by have:=of_decide_eq_true hge;omega
  refine ao.nB (j:=b.length - 1 - k) (h1.ag (ab.cons hs)) (by omega) (by omega) ?_
  refine tT tP rfl h1 (by rw [List.length_take,List.length_reverse,av];omega) fun s' w2 h2 _=>⟨⟨k+1,by rw [ad (by omega)];omega,by omega,?_⟩,by dsimp only;rw [ad (by omega)];omega⟩
  have e:b.reverse.take (k+1)=b.reverse.take k++ [b.getD (b.length - 1 - k) 0]:=by
   rw [List.take_add_one,List.getElem?_reverse hge]
   simp [List.getD,show b.length - 1 - k<b.length by omega]
  rw [e];exact h2
 ·have hke:k=b.length:=by have:=of_decide_eq_false hlt;omega
  subst hke
  rw [List.take_of_length_le (by rw [List.length_reverse];exact Nat.le_refl _)] at h1
  exact hK o w1 h1
set_option maxRecDepth 20000 in
theorem Ec {last:List Nat} {s:Sl} {index:Int} {K:Sl→Int→World→Prop} (h:Hp E w F) (hs:ab F (aC 1 s (last.map vB))) (hb: ∀x∈last,x<256) (hn:last.length≤400000)
  (hK1:ow last index→∀s' w',Hp E w' (ah 1 s' ((cc last index.toNat).map vB)::F)→K s' 0 w') (hK2: ¬ow last index→∀w',Hp E w' F→K ⟨none,0,0⟩ 170 w'):
  Cl Tryz.prog [kS,kI] jB ⟨[.slice s.base s.len s.cap,.int .i64 index]⟩ w K:=by
 refine CN.ok _ _ _ _ ?_
 simp only [aH]
 have hl:=(h.ag hs).1
 simp only [List.length_map,Nat.mul_one] at hl
 refine aa.mk (fun g=>hK2 (fun hh=>by have:=of_decide_eq_true g;have:=hh.1;omega) w h) (fun g1=> ?_)
 refine aa.mk (fun g=>hK2 (fun hh=>by have:=of_decide_eq_true g;have:=hh.2.1;have:=hh.1;omega) w h) (fun g2=> ?_)
 have g1:=of_decide_eq_false g1
 have g2:=of_decide_eq_false g2
 obtain ⟨ix,rfl⟩:=Int.eq_ofNat_of_zero_le (show 0≤index by omega)
 rw [Int.toNat_natCast] at hK1
 have hix:ix≤last.length:=by omega
 refine aa.mk (fun g3=>aa.mk (fun g4=>hK2 (fun hh=> ?_) w h) (fun g4=> ?_)) (fun g3=> ?_)
 ·have g3:=beq_iff_eq.1 g3
  have g4:=of_decide_eq_true g4
  have:=hh.2
  rw [g3] at this
  exact xq (by omega) this
 all_goals
  refine CF h hs hb hn fun s6 w1 h1=> ?_
  have hag: ∀a,a<last.length→(kq last).getD a 0=(nx last a:Int):=fun a ha=>by
   unfold kq
   rw [List.getD,List.getElem?_map,List.getElem?_range ha];rfl
  have hal:(kq last).length=last.length:=by unfold kq;rw [List.length_map,List.length_range]
  refine ⟨fun o row i w'=> ∃k:Nat,i=(k:Int)∧k≤last.length∧row=(wk last ix k:Int)∧(∀j,j<k→wk last ix j≠ix)∧
    Hp E w' (ah 1 o (((List.range k).map fun j=>last.getD (bw ix (wk last ix j)) 0).map vB)::ah 1 s6 ((kq last).map vI)::F),fun _ _ i _=>last.length - i.toNat,⟨0,rfl,by omega,rfl,fun j hj=>by omega,h1.bl 1⟩,?_⟩
  rintro o row i w2 ⟨k,rfl,hk,rfl,hne,h2⟩
  have hwl:=BI hix k hne
  refine aa.mk (fun hlt=> ?_) (fun hge=> ?_)
  ·have hlt:k<last.length:=by have:=of_decide_eq_true hlt;omega
   refine aa.mk (fun he=>hK2 (fun hh=> ?_) w2 h2.drop.drop) (fun he=> ?_)
   ·have h5:=hh.2.2.1 k hlt
    rw [Int.toNat_natCast] at h5
    have:=beq_iff_eq.1 he
    omega
   have he:wk last ix k≠ix:=by have:=beq_eq_false_iff_ne.1 he;omega
   have hat:=Eb hix hwl he
   have step: ∀{w':World} {s':Sl},Hp E w' (ah 1 s' ((((List.range k).map fun j=>last.getD (bw ix (wk last ix j)) 0)++ [last.getD (bw ix (wk last ix k)) 0]).map vB)::ah 1 s6 ((kq last).map vI)::F)→
     (∃k':Nat,i64 ((k:Int)+1)=(k':Int)∧k'≤last.length∧(nx last (bw ix (wk last ix k)):Int)=(wk last ix k':Int)∧(∀j,j<k'→wk last ix j≠ix)∧
      Hp E w' (ah 1 s' (((List.range k').map fun j=>last.getD (bw ix (wk last ix j)) 0).map vB)::ah 1 s6 ((kq last).map vI)::F))∧last.length - (i64 ((k:Int)+1)).toNat<last.length - (k:Int).toNat:=fun {w' s'} h'=>by
    rw [ad (by omega)]
    refine ⟨⟨k+1,by omega,by omega,rfl,fun j hj=> ?_,?_⟩,by omega⟩
    ·by_cases e:j=k
     ·subst e;exact he
     ·exact hne j (by omega)
    ·rw [List.range_succ,List.map_append]
     exact h'
   refine aa.mk (fun hgt=> ?_) (fun hgt=> ?_)
   ·have hgt:wk last ix k>ix:=by have:=of_decide_eq_true hgt;omega
    have e1:i64 ((wk last ix k:Int) - 1)=(bw ix (wk last ix k):Int):=by
     unfold bw
     rw [if_pos hgt,ad (by omega)];omega
    rw [e1]
    refine ao.nB (h2.ag (ab.cons (ab.cons hs))) rfl hat (tT tP rfl h2 (by rw [List.length_map,List.length_range,av];omega) fun s' w3 h3 _=> ?_)
    refine ao.nI (h3.ag (ab.cons ab.own)) rfl (by rw [hal];exact hat) ?_
    rw [hag _ hat]
    exact step h3
   ·have hgt: ¬wk last ix k>ix:=by have:=of_decide_eq_false hgt;omega
    have e1:(wk last ix k:Int)=(bw ix (wk last ix k):Int):=by
     unfold bw
     rw [if_neg hgt]
    refine ao.nB (j:=bw ix (wk last ix k)) (h2.ag (ab.cons (ab.cons hs))) e1 hat (tT tP rfl h2 (by rw [List.length_map,List.length_range,av];omega) fun s' w3 h3 _=> ?_)
    refine ao.nI (j:=bw ix (wk last ix k)) (h3.ag (ab.cons ab.own)) e1 (by rw [hal];exact hat) ?_
    rw [hag _ hat]
    exact step h3
  ·have hke:k=last.length:=by have:=of_decide_eq_false hge;omega
   subst hke
   refine aa.mk (fun g=>hK2 (fun hh=> ?_) w2 h2.drop.drop) (fun g=> ?_)
   ·have:=hh.2.2.2
    rw [Int.toNat_natCast] at this
    rw [this] at g
    simp at g
   ·have hend:wk last ix last.length=ix:=by
     have:(wk last ix last.length:Int)=(ix:Int):=by simpa using g
     omega
    have hok:ow last (ix:Int):=⟨by omega,by rw [Int.toNat_natCast];exact ⟨hix,hne,hend⟩⟩
    exact nQ h2 ab.own (by rw [List.length_map,List.length_range];exact hn) fun s' w3 h3=>hK1 hok s' w3 h3.p1.drop.p1.drop
end
end Go.Proofs.YtcdpblipagajiaaGreat
namespace Go.aj
open Go.Inc Go.Srt Go.Sym Go.Bits
end Go.aj
namespace Go.Proofs.YtcdpblipagajiaaGreat
open Go Go.Vc Go.Srt Go.Inc Go.Sym Go.Tab Go.Hd Go.Bw Go.Bits Go.aj Go.Crc
section
variable {E w:World} {F:List HP}
set_option maxRecDepth 20000
theorem DX {s:Sl} {x:List Nat} {K:Sl→Int→World→Prop} (h:Hp E w F) (hs:ab F (aC 1 s (x.map vB))) (hn:x.length≤400000) (hK: ∀s' w',Hp E w' (OB s' (aG x.reverse)::F)→K s' (aR x.reverse:Int) w'):
  Cl Tryz.prog [kS,kI] jI ⟨[.slice s.base s.len s.cap]⟩ w K:=by
 refine yF.ok _ _ _ ?_
 refine nQ h hs hn fun s' w h=> ?_
 exact DH h ab.own (by simpa using hn) fun s2 w h=>hK s2 w h.dP
end
end Go.Proofs.YtcdpblipagajiaaGreat
namespace Go.Proofs.YtcdpblipagajiaaGreat
open Go Go.Vc Go.Srt Go.Inc Go.Sym Go.Tab Go.Hd Go.Bw Go.Bits Go.aj Go.Crc
def qq (n:Int) (b:List Nat):List Nat×List Nat×Int:=if 1≤n∧n≤65536 then (match cn n.toNat b with| .error e=>([],[],(e:Int))| .ok p=>(p.1,p.2,0)) else ([],[],2)
section
variable {E w:World} {F:List HP}
set_option maxRecDepth 20000
theorem qd {n:Int} {s:Sl} {b:List Nat} {K:Sl→Sl→Int→World→Prop} (h:Hp E w F) (hs:ab F (aC 1 s (b.map vB))) (hb: ∀y∈b,y<256) (hbig:b.length≤10000000) (hcap:s.len≤s.cap)
  (hK: ∀s1 s2 w',Hp E w' (OB s1 (qq n b).1::OB s2 (qq n b).2.1::F)→K s1 s2 (qq n b).2.2 w'):Cl Tryz.prog [kS,kS,kI] bq ⟨[.int .i64 n,.slice s.base s.len s.cap]⟩ w K:=by
 unfold qq at hK
 refine rQ h hs hb hbig hcap (fun hn w h=> ?_) (fun h1 h2 e w he _ h=> ?_) (fun h1 h2 x r s1 s2 w he _ _ _ h=> ?_)
 ·rw [if_neg hn] at hK
  exact hK _ _ w ((h.bl 1).bl 1)
 ·rw [if_pos ⟨h1,h2⟩,he] at hK
  exact hK _ _ w ((h.bl 1).bl 1)
 ·rw [if_pos ⟨h1,h2⟩,he] at hK
  exact hK _ _ w h
end
end Go.Proofs.YtcdpblipagajiaaGreat
namespace Go.aj
open Go.Inc Go.Srt Go.Sym Go.Bits Go.Tab Go.Hd Go.Crc Go.Bw Go.Rk Go.Proofs.YtcdpblipagajiaaGreat
def wY (last:List Nat) (P sum:Nat):Nat:=if okB last P then (if bQ (cc last P).reverse=sum then 0 else 250) else 170
theorem AY {l last:List Nat} {P sum:Nat} (hL:gV l last) (hb: ∀x∈last,x<256) (h0:0<last.length) (h1:last.length≤65536) (h2:0<P) (h3:P≤last.length) (h4:sum<4294967296):
  (qq 65536 (bN last.length P sum++pack (body l last))).2.2=(wY last P sum:Int):=by
 have:=nK (n:=65536) hL hb h0 h1 h2 h3 h4 []
 rw [List.append_nil] at this
 unfold qq wY
 rw [if_pos (by decide),show (65536:Int).toNat=65536 from rfl,this]
 unfold jg
 by_cases ho:okB last P
 ·rw [if_pos ho,if_pos ho]
  by_cases hc:bQ (cc last P).reverse=sum
  ·rw [if_pos hc,if_pos hc];rfl
  ·rw [if_neg hc,if_neg hc]
 ·rw [if_neg ho,if_neg ho]
theorem HI {l last:List Nat} {M P sum:Nat} (hL:gV l last) (hb: ∀x∈last,x<256) (h0:0<M) (h1:M≤65536) (h2:0<P) (h3:P≤M) (h4:sum<4294967296) (hM:M≠last.length):
  (qq 65536 (bN M P sum++pack (body l last))).2.2=160:=by
 have:=Aq (n:=65536) hL hb h0 h1 h2 h3 h4 hM []
 rw [List.append_nil] at this
 unfold qq
 rw [if_pos (by decide),show (65536:Int).toNat=65536 from rfl,this]
 rfl
theorem zf (x:List Nat) (sum:Nat):wY (aG x.reverse) (aR x.reverse) sum=if bQ x=sum then 0 else 250:=by
 obtain ⟨h1,h2⟩:=vE x.reverse
 unfold wY
 rw [if_pos h1,h2,List.reverse_reverse]
theorem zz {M P u:Nat}: ∀y∈bN M P u,y<256:=by
 unfold bN
 intro y hy
 rcases List.mem_cons.1 hy with rfl|hy
 ·decide
 ·rcases List.mem_append.1 hy with hy|hy
  ·rcases List.mem_append.1 hy with hy|hy
   ·exact Ea _ y hy
   ·exact Ea _ y hy
  ·exact Jf _ y hy
theorem pf {M P u:Nat} (hM:M≤65536) (hP:P≤65536):(bN M P u).length≤20:=by
 have h1:=ey (n:=M) hM
 have h2:=ey (n:=P) hP
 unfold bN
 simp [eU]
 omega
end Go.aj
namespace Go.Proofs.YtcdpblipagajiaaGreat
open Go Go.Vc Go.Srt Go.Inc Go.Sym Go.Tab Go.Hd Go.Bw Go.Bits Go.aj Go.Crc
instance Kj (last:List Nat) (index:Int):Decidable (ow last index):=by unfold ow;infer_instance
section
variable {E w:World} {F:List HP}
set_option maxRecDepth 20000
theorem Fe {last:List Nat} {s:Sl} {index:Int} {K:Sl→Int→World→Prop} (h:Hp E w F) (hs:ab F (aC 1 s (last.map vB))) (hb: ∀x∈last,x<256) (hn:last.length≤400000)
  (hK: ∀s' w',Hp E w' (OB s' (if ow last index then cc last index.toNat else [])::F)→K s' (if ow last index then 0 else 170) w'):Cl Tryz.prog [kS,kI] jB ⟨[.slice s.base s.len s.cap,.int .i64 index]⟩ w K:=
 Ec h hs hb hn (fun ho s' w' h'=>by have:=hK s' w';rw [if_pos ho,if_pos ho] at this;exact this h') (fun ho w' h'=>by have:=hK ⟨none,0,0⟩ w';rw [if_neg ho,if_neg ho] at this;exact this (h'.bl 1))
set_option maxHeartbeats 2000000 in
theorem uf {x:List Nat} {s:Sl} {index many:Int} {sum:Nat} {K:Bool→World→Prop} (h:Hp E w F) (hs:ab F (aC 1 s (x.map vB))) (hb: ∀y∈x,y<256) (hsum:sum<4294967296) (hK: ∀w',Hp E w' F→K true w'):
  Cl Tryz.prog [kB] fW ⟨[.slice s.base s.len s.cap,.int .i64 index,.int .u32 (sum:Int),.int .i64 many]⟩ w K:=by
 refine rX.ok _ _ _ _ _ _ ?_
 have hl:=DW (h.ag hs)
 rw [aH];dsimp only
 rw [aH];dsimp only
 refine aa.em (fun _=>aa.t rfl (dE h hK)) (fun g1=>aa.dm (fun _=>aa.t rfl (dE h hK)) (fun g2=>aa.dm (fun _=>aa.t rfl (dE h hK)) (fun g3=>aa.dm (fun _=>aa.t rfl (dE h hK)) (fun g4=>aa.dm (fun _=>aa.t rfl (dE h hK)) (fun g5=>aa.dm (fun _=>dE h hK) (fun g6=> ?_))))))
 obtain ⟨I,rfl⟩: ∃I:Nat,index=(I:Int):=⟨index.toNat,by omega⟩
 obtain ⟨N,rfl⟩: ∃N:Nat,many=(N:Int):=⟨many.toNat,by omega⟩
 have hx0:0<x.length:=by omega
 have hP:=Stm.GF hb
 have hll:(aG x.reverse).length=x.length:=by rw [ca,List.length_reverse]
 have hL:=lp hx0 (by omega) hb
 have hcrc:=pU hb
 have hidx:=nX (t:=x.reverse) (by rw [List.length_reverse];exact hx0)
 rw [List.length_reverse] at hidx
 have hblk:jO (bL x) x=bN x.length (aR x.reverse) (bQ x)++pack (body (bL x) (aG x.reverse)):=rfl
 have hsh:=vn hx0 hb (by omega)
 obtain ⟨B,hB⟩: ∃B,B=pack (body (bL x) (aG x.reverse)):=⟨_,rfl⟩
 have hBb: ∀y∈B,y<256:=fun y hy=>vU (ku _ _) _ y (by rw [hB] at hy;exact hy)
 rw [hblk,←hB,List.length_append] at hsh
 refine yH (n:=65536) h hs hb (by decide) (by decide) hx0 (by omega) fun s13 w h=>DX h hs.cons (by omega) fun s16 w h=>Nw.mk h fun b19 w h=> ?_
 rw [hblk,←hB] at h
 have l13:=OB.len (h.at 2)
 have c13:=(h.at 2).ej
 rw [List.length_append] at l13
 refine Gz (s:=⟨some ⟨b19,0,none⟩,1,1⟩) (cs:= [s]) (bs:= [x]) h (ab.aD rfl rfl) rfl (by rw [av];simp) (fun i hi=> ?_) (by simpa using hb) (by simp [av];omega) ?_
 ·match i,hi with
  |0,_=>exact hs.cons.cons.cons
 rw [show [x].flatten=x by simp,show (s.len:Int)=(x.length:Int) by omega]
 refine Nw.mk h fun b23 w h=> ?_
 with_reducible refine ak.xw h rfl rfl (fun w h=> ?_)
 with_reducible refine Ld.xt h rfl ?_
 refine nc (n:=65536) h (by omega) (by omega) hcrc (fun _ _ _ _ _ _ s27 w h=> ?_) (fun hno=>absurd ⟨by omega,by omega,by omega,by omega,by omega,by omega⟩ hno)
 have l27:=OB.len h
 rw [aH];dsimp only
 rw [aH];dsimp only
 refine bf.Gq (fun t w=>t=false∧Hp E w (OB s27 (bN x.length (aR x.reverse) (bQ x))::aj b23 (.cells ⟨[.int .i64 (x.length:Int),.int .i64 (aR x.reverse:Int),.int .u32 (bQ x:Int)]⟩ 53 (0,0))::aj b19 (.cells ⟨[.slice s.base s.len s.cap]⟩ 22 (0,0))::OB s16 (aG x.reverse)::OB s13 (bN x.length (aR x.reverse) (bQ x)++B)::F)) ?_ fun r' hr'=> ?_
 ·rintro t w ⟨rfl,h⟩
  refine aa.f rfl ?_
  refine bg.Gi ((h.at 4).ag ab.own) (by omega) (by omega) (by omega) (by omega) (by omega) fun s48 hs48 hl48 hc48=> ?_
  have hs48: ∀w,aC 1 s13 ((bN x.length (aR x.reverse) (bQ x)++B).map vB) w→aC 1 s48 (B.map vB) w:=fun w hw=>by
   have:=hs48 w hw
   rw [show ((s27.len:Int)).toNat=(bN x.length (aR x.reverse) (bQ x)).length by omega,←List.map_drop,List.drop_left,List.take_of_length_le (by rw [List.length_map];omega)] at this
   exact this
  refine bf.HT (fun a b c w=> ∃b1 b2 b3,a=⟨b1,0,none⟩∧b=⟨b2,0,none⟩∧c=⟨b3,0,none⟩∧Hp E w (aj b3 (.cells ⟨[.int .i64 (x.length:Int),.int .i64 (aR x.reverse:Int),.int .u32 (bQ x:Int)]⟩ 53 (0,0))::aj b2 (.cells ⟨[.int .i64 (x.length:Int),.int .i64 (aR x.reverse:Int),.int .u32 (bQ x:Int)]⟩ 53 (0,0))::aj b1 (.cells ⟨[.int .i64 (x.length:Int),.int .i64 (aR x.reverse:Int),.int .u32 (bQ x:Int)]⟩ 53 (0,0))::OB s27 (bN x.length (aR x.reverse) (bQ x))::aj b23 (.cells ⟨[.int .i64 (x.length:Int),.int .i64 (aR x.reverse:Int),.int .u32 (bQ x:Int)]⟩ 53 (0,0))::aj b19 (.cells ⟨[.slice s.base s.len s.cap]⟩ 22 (0,0))::OB s16 (aG x.reverse)::OB s13 (bN x.length (aR x.reverse) (bQ x)++B)::F)) ?_ fun r2 hr2=> ?_
  ·rintro a b c w ⟨b1,b2,b3,rfl,rfl,rfl,h⟩
   simp only [au,Nat.zero_add]
   (with_reducible repeat first|refine Nw.mk h fun b w h=> ?_|refine aq.mk h fun w h=> ?_|refine Ld.xb h rfl ?_|refine Ld.xt h rfl ?_|refine ae.xb (fun _ h=>h) rfl ?_|refine ae.xt (fun _ h=>h) rfl ?_|refine ⟨h.hb,?_⟩|refine ak.xw h rfl rfl fun w h=> ?_|(refine ak.xs h rfl rfl fun w h=> ?_;dsimp only [an,af] at h)|(refine St.xs h rfl rfl fun w h=> ?_;dsimp only [an,af] at h)|refine aa.yes ?_|refine aa.no ?_|refine ⟨by first|omega|decide,?_⟩)
   have hm1:=pf (M:=x.length) (P:=I) (u:=bQ x) (by omega) (by omega)
   have hm2:=pf (M:=x.length) (P:=aR x.reverse) (u:=sum) (by omega) (by omega)
   have hm3:=pf (M:=N) (P:=1) (u:=bQ x) (by omega) (by omega)
   refine nc (n:=65536) (M:=x.length) (P:=I) (u:=bQ x) h (by omega) (by omega) hcrc (fun _ _ _ _ _ _ s113 w h=> ?_) (fun hno=>absurd ⟨by omega,by omega,by omega,by omega,by omega,by omega⟩ hno)
   (with_reducible repeat first|refine Nw.mk h fun b w h=> ?_|refine aq.mk h fun w h=> ?_|refine Ld.xb h rfl ?_|refine Ld.xt h rfl ?_|refine ae.xb (fun _ h=>h) rfl ?_|refine ae.xt (fun _ h=>h) rfl ?_|refine ⟨h.hb,?_⟩|refine ak.xw h rfl rfl fun w h=> ?_|(refine ak.xs h rfl rfl fun w h=> ?_;dsimp only [an,af] at h)|(refine St.xs h rfl rfl fun w h=> ?_;dsimp only [an,af] at h)|refine aa.yes ?_|refine aa.no ?_|refine ⟨by first|omega|decide,?_⟩)
   refine nc (n:=65536) (M:=x.length) (P:=aR x.reverse) (u:=sum) h (by omega) (by omega) hsum (fun _ _ _ _ _ _ s117 w h=> ?_) (fun hno=>absurd ⟨by omega,by omega,by omega,by omega,by omega,by omega⟩ hno)
   (with_reducible repeat first|refine Nw.mk h fun b w h=> ?_|refine aq.mk h fun w h=> ?_|refine Ld.xb h rfl ?_|refine Ld.xt h rfl ?_|refine ae.xb (fun _ h=>h) rfl ?_|refine ae.xt (fun _ h=>h) rfl ?_|refine ⟨h.hb,?_⟩|refine ak.xw h rfl rfl fun w h=> ?_|(refine ak.xs h rfl rfl fun w h=> ?_;dsimp only [an,af] at h)|(refine St.xs h rfl rfl fun w h=> ?_;dsimp only [an,af] at h)|refine aa.yes ?_|refine aa.no ?_|refine ⟨by first|omega|decide,?_⟩)
   refine nc (n:=65536) (M:=N) (P:=1) (u:=bQ x) h (by omega) (by omega) hcrc (fun _ _ _ _ _ _ s121 w h=> ?_) (fun hno=>absurd ⟨by omega,by omega,by omega,by omega,by omega,by omega⟩ hno)
   refine uF (h.at 2) ((ab.at 9 ab.own).imp hs48) (by omega) (by omega) fun s124 w h=> ?_
   refine qd h ab.own (fun y hy=> ?_) (by rw [List.length_append];omega) h.ej fun s126 s127 w h=> ?_
   ·rcases List.mem_append.1 hy with hy|hy
    ·exact zz y hy
    ·exact hBb y hy
   refine uF (h.at 4) ((ab.at 11 ab.own).imp hs48) (by omega) (by omega) fun s130 w h=> ?_
   refine qd h ab.own (fun y hy=> ?_) (by rw [List.length_append];omega) h.ej fun s132 s133 w h=> ?_
   ·rcases List.mem_append.1 hy with hy|hy
    ·exact zz y hy
    ·exact hBb y hy
   refine uF (h.at 6) ((ab.at 13 ab.own).imp hs48) (by omega) (by omega) fun s136 w h=> ?_
   refine qd h ab.own (fun y hy=> ?_) (by rw [List.length_append];omega) h.ej fun s138 s139 w h=> ?_
   ·rcases List.mem_append.1 hy with hy|hy
    ·exact zz y hy
    ·exact hBb y hy
   have hf:(qq 65536 (bN x.length I (bQ x)++B)).2.2=(wY (aG x.reverse) I (bQ x):Int):=by
    have:=AY hL hP (P:=I) (sum:=bQ x) (by omega) (by omega) (by omega) (by omega) hcrc
    rwa [hll,←hB] at this
   have hg:(qq 65536 (bN x.length (aR x.reverse) sum++B)).2.2=((if bQ x=sum then 0 else 250:Nat):Int):=by
    have:=AY hL hP (P:=aR x.reverse) (sum:=sum) (by omega) (by omega) (by omega) (by omega) hsum
    rwa [hll,←hB,zf] at this
   have hi:N≠x.length→(qq 65536 (bN N 1 (bQ x)++B)).2.2=160:=fun hne=>by
    rw [hB]
    exact HI hL hP (by omega) (by omega) (by decide) (by omega) hcrc (by omega)
   rw [hf,hg]
   refine Fe h (ab.at 15 ab.own) hP (by omega) fun s142 w h=> ?_
   refine bf.Gq (fun t w=>t=(wY (aG x.reverse) I (bQ x):Int)∧Hp E w (aj b23 (.cells ⟨[.int .i64 (x.length:Int),.int .i64 (aR x.reverse:Int),.int .u32 (bQ x:Int)]⟩ 53 (0,0))::F)) ?_ fun r3 hr3=> ?_
   ·rintro t w ⟨rfl,h⟩
    refine aa.et rfl ?_
    have hself:=zf x (bQ x)
    rw [if_pos rfl] at hself
    refine aa.nm (fun hne=> ?_) (fun he=>aa.et (by
     have e:I=aR x.reverse:=by omega
     rw [e,hself];rfl) ?_)
    all_goals
     refine Ld.xb h rfl ?_
     by_cases hc:bQ x=sum
     ·rw [if_pos hc]
      refine aa.t (by rw [hc];simp) (aa.t rfl (aa.em (fun _=>dE h fun w h=>hK w h.tl) (fun hn=> ?_)))
      rw [hi (by omega)]
      exact aa.t rfl (dE h fun w h=>hK w h.tl)
     ·rw [if_neg hc]
      refine aa.t (by
       rw [beq_iff_eq,Bool.eq_iff_iff,beq_iff_eq,beq_iff_eq]
       omega) (aa.f rfl (aa.t rfl (aa.em (fun _=>dE h fun w h=>hK w h.tl) (fun hn=> ?_))))
      rw [hi (by omega)]
      exact aa.t rfl (dE h fun w h=>hK w h.tl)
   ·unfold wY at hr3
    by_cases ho:ow (aG x.reverse) (I:Int)
    ·have ho2:okB (aG x.reverse) I:=by have:=ho.2;rwa [Int.toNat_natCast] at this
     rw [if_pos ho2] at hr3
     rw [if_pos ho] at h⊢
     rw [Int.toNat_natCast] at h
     have htl:=mL (aG x.reverse) I
     have htb: ∀y∈cc (aG x.reverse) I,y<256:=fun y hy=>by
      unfold cc at hy
      simp only [List.mem_reverse,List.mem_map,List.mem_range] at hy
      obtain ⟨k,_,rfl⟩:=hy
      rw [List.getD_eq_getElem?_getD]
      cases hg:(aG x.reverse)[bw I (wk (aG x.reverse) I k)]? with
      |none=>decide
      |some z=>exact hP z (List.mem_of_getElem? hg)
     refine aa.t rfl ?_
     have h:=h.drew (n:=w.drawn+1)
     refine ⟨cj b23 _ _ _,h.hb,ae.xb (x:=(bQ x:Int)) (fun _ h=>h) rfl ?_⟩
     refine nQ h ab.own (by omega) fun s159 w h=>⟨h.hb,Nw.mk h fun b161 w h=>⟨h.hb,?_⟩⟩
     refine Gz (s:=⟨some ⟨b161,0,none⟩,1,1⟩) (cs:= [s159]) (bs:= [(cc (aG x.reverse) I).reverse]) h (ab.aD rfl rfl) rfl (by rw [av];simp) (fun i hi=> ?_) (fun z hz y hy=> ?_) (fun z hz=> ?_) ⟨h.hb,?_⟩
     ·match i,hi with
      |0,_=>exact ab.cons ab.own
     ·rw [List.mem_singleton] at hz
      rw [hz] at hy
      exact htb y (List.mem_reverse.1 hy)
     ·rw [List.mem_singleton] at hz
      rw [hz,List.length_reverse,htl,av];omega
     rw [show [(cc (aG x.reverse) I).reverse].flatten=(cc (aG x.reverse) I).reverse by simp]
     by_cases hc:bQ (cc (aG x.reverse) I).reverse=bQ x
     ·rw [if_pos hc] at hr3
      exact aa.et (by omega) (hr3 0 _ ⟨rfl,(h.at 16).dP⟩)
     ·rw [if_neg hc] at hr3
      exact aa.ef (by omega) (hr3 250 _ ⟨rfl,(h.at 16).dP⟩)
    ·have ho2: ¬okB (aG x.reverse) I:=fun hh=>ho ⟨by omega,by rwa [Int.toNat_natCast]⟩
     rw [if_neg ho2] at hr3
     rw [if_neg ho] at h⊢
     exact aa.f rfl (hr3 170 _ ⟨rfl,(h.at 14).dP⟩)
  ·have h:=h.drew (n:=w.drawn+1)
   refine ⟨cj b23 _ _ _,h.hb,?_⟩
   (with_reducible repeat first|refine Nw.mk h fun b w h=> ?_|refine aq.mk h fun w h=> ?_|refine Ld.xb h rfl ?_|refine Ld.xt h rfl ?_|refine ae.xb (fun _ h=>h) rfl ?_|refine ae.xt (fun _ h=>h) rfl ?_|refine ⟨h.hb,?_⟩|refine ak.xw h rfl rfl fun w h=> ?_|(refine ak.xs h rfl rfl fun w h=> ?_;dsimp only [an,af] at h)|(refine St.xs h rfl rfl fun w h=> ?_;dsimp only [an,af] at h)|refine aa.yes ?_|refine aa.no ?_|refine ⟨by first|omega|decide,?_⟩)
   refine ⟨?_,?_,?_⟩
   all_goals
    refine Nw.mk h fun b1 w h=>⟨h.hb,?_,?_⟩
    all_goals
     refine Nw.mk h fun b2 w h=>⟨h.hb,Nw.mk h fun b3 w h=>⟨h.hb,?_⟩⟩
     (with_reducible repeat first|refine Nw.mk h fun b w h=> ?_|refine aq.mk h fun w h=> ?_|refine Ld.xb h rfl ?_|refine Ld.xt h rfl ?_|refine ae.xb (fun _ h=>h) rfl ?_|refine ae.xt (fun _ h=>h) rfl ?_|refine ⟨h.hb,?_⟩|refine ak.xw h rfl rfl fun w h=> ?_|(refine ak.xs h rfl rfl fun w h=> ?_;dsimp only [an,af] at h)|(refine St.xs h rfl rfl fun w h=> ?_;dsimp only [an,af] at h)|refine aa.yes ?_|refine aa.no ?_|refine ⟨by first|omega|decide,?_⟩)
     first
      |exact hr2 _ _ _ _ ⟨_,_,_,rfl,rfl,rfl,h⟩
      |exact hr2 _ _ _ _ ⟨_,_,_,rfl,rfl,rfl,h.p1⟩
      |exact hr2 _ _ _ _ ⟨_,_,_,rfl,rfl,rfl,h.p2⟩
      |exact hr2 _ _ _ _ ⟨_,_,_,rfl,rfl,rfl,h.p2.p1⟩
      |exact hr2 _ _ _ _ ⟨_,_,_,rfl,rfl,rfl,h.p2.p2⟩
      |exact hr2 _ _ _ _ ⟨_,_,_,rfl,rfl,rfl,h.p2.p2.p1⟩
 ·have h:=h.drew (n:=w.drawn+1)
  refine ⟨fun _=>True,trivial,aa.f rfl (aa.df (by omega) ?_)⟩
  refine bg.Gi ((h.at 4).ag ab.own) (by omega) (by omega) (by omega) (by omega) (by omega) fun s34 hs34 hl34 hc34=> ?_
  have hs34: ∀w,aC 1 s13 ((bN x.length (aR x.reverse) (bQ x)++B).map vB) w→aC 1 s34 ((bN x.length (aR x.reverse) (bQ x)).map vB) w:=fun w hw=>by
   have:=hs34 w hw
   rw [show ((s27.len:Int)).toNat - (0:Int).toNat=(bN x.length (aR x.reverse) (bQ x)).length by omega,Int.toNat_zero,List.drop_zero,←List.map_take,List.take_left] at this
   exact this
  refine ⟨np (hs34 _ (h.ag (ab.at 4 ab.own))) ⟨trivial,np (h.ag ab.own) ⟨trivial,hr' _ _ ⟨by simp,h⟩⟩⟩,np (h.ag ab.own) ⟨trivial,np (hs34 _ (h.ag (ab.at 4 ab.own))) ⟨trivial,hr' _ _ ⟨by simp,h⟩⟩⟩⟩
end
end Go.Proofs.YtcdpblipagajiaaGreat
set_option maxRecDepth 20000
namespace Go.Vc
open Go Go.RowKit Go.ChangeShapes Go.WideShapes
section
variable {H:Type} {enc:TypeId×Value→H} {P:Program} {W:World}
def dJ (enc:TypeId×Value→H) (P:Program) (W:World) (t:TypeId) (cs:List Value):Prop:= ∃fuel x,DataW.trod enc P W 0 (fun _=>true) true fuel t cs=some x
theorem dJ.int {t:TypeId} {k:IntKind} {cs:List Value} (h:dJ enc P W t cs) (ht:P.underlying t=some (.int k)): ∃n,cs= [.int k n]∧(Lit.int k n).wf=true:=by
 obtain ⟨m,x,h⟩:=h
 obtain ⟨n,h1,_,h2⟩:=DataW.trod_int ht h
 exact ⟨n,h1,h2⟩
theorem dJ.bool {t:TypeId} {cs:List Value} (h:dJ enc P W t cs) (ht:P.underlying t=some .bool): ∃b,cs= [.bool b]:=by
 obtain ⟨m,x,h⟩:=h
 obtain ⟨n,h1,_⟩:=DataW.trod_bool ht h
 exact ⟨n,h1⟩
theorem dJ.string {t:TypeId} {cs:List Value} (h:dJ enc P W t cs) (ht:P.underlying t=some .string): ∃s:ByteArray,cs= [.string s]∧s.size≤maxLen:=by
 obtain ⟨m,x,h⟩:=h
 obtain ⟨n,h1,_,h2⟩:=DataW.trod_string ht h
 exact ⟨n,h1,h2⟩
theorem vq {a:Addr} {n:Nat} {cs:List Value} (h:W.cells? 0 a n=some cs):cs.length=n∧∀i (hi:i<cs.length),W.cell? (a.add i)=some cs[i]:=by
 unfold World.cells? at h
 rw [if_pos (Nat.zero_le _)] at h
 have hl:cs.length=n:=by simpa using mapM_some_length h
 refine ⟨hl,fun i hi=> ?_⟩
 have:=mapM_some_get h i i (List.getElem?_range (by omega))
 rw [this,List.getElem?_eq_getElem hi]
theorem rD {α:Type} {sz:Nat}: ∀{xs:List (List α)} (_: ∀x∈xs,x.length=sz) (i j:Nat) (hi:i<xs.length) (_:j<sz),xs.flatten[i*sz+j]? =xs[i][j]?
 |x::xs,h,0,j,_,hj=>by
  have hx:=h x (by simp)
  rw [List.flatten_cons,List.getElem?_append_left (by omega),Nat.zero_mul,Nat.zero_add];rfl
 |x::xs,h,i+1,j,hi,hj=>by
  have hx:=h x (by simp)
  rw [List.flatten_cons,List.getElem?_append_right (by rw [hx,Nat.succ_mul];omega),hx,show (i+1)*sz+j - sz=i*sz+j by rw [Nat.succ_mul];omega,
   rD (fun y hy=>h y (List.mem_cons_of_mem _ hy)) i j (by simpa using hi) hj]
  rfl
theorem sB {α:Type} {sz:Nat}: ∀{xs:List (List α)} (_: ∀x∈xs,x.length=sz),xs.flatten.length=xs.length*sz
 | [],_=>by simp
 |x::xs,h=>by
  rw [List.flatten_cons,List.length_append,h x (by simp),sB (fun y hy=>h y (List.mem_cons_of_mem _ hy)),List.length_cons,Nat.succ_mul];omega
theorem dJ.slice {t e:TypeId} {cs:List Value} (h:dJ enc P W t cs) (ht:P.underlying t=some (.slice e)):
  ∃(s:Sl) (xs:List (List Value)),cs= [.slice s.base s.len s.cap]∧s.len≤s.cap∧s.cap≤maxLen∧xs.length=s.len∧(∀x∈xs,dJ enc P W e x)∧(∀x∈xs,x.length=P.cellsOf e)∧aC (P.cellsOf e) s xs.flatten W:=by
 obtain ⟨m,x,h⟩:=h
 rcases DataW.trod_slice ht h with ⟨h1,_⟩|⟨a,len,cap,elems,rest,n,rfl,h1,_,_,hlc,hcm,hel,hget,_⟩
 ·exact ⟨⟨none,0,0⟩,[],h1,Nat.le_refl _,Nat.zero_le _,rfl,by simp,by simp,by simp,by simp⟩
 ·have hx: ∀i,i<len→∃cs,W.cells? 0 (a.add (i*P.cellsOf e)) (P.cellsOf e)=some cs∧dJ enc P W e cs:=by
   intro i hi
   have:=hget i hi
   rw [List.getElem?_eq_getElem (by omega)] at this
   obtain ⟨cs,h2,h3⟩:=Option.bind_eq_some_iff.1 this
   exact ⟨cs,h2,n,_,h3⟩
  have key: ∀k,k≤len→∃xs:List (List Value),xs.length=k∧∀i (hi:i<xs.length),W.cells? 0 (a.add (i*P.cellsOf e)) (P.cellsOf e)=some xs[i]∧dJ enc P W e xs[i]:=by
   intro k
   induction k with
   |zero=>exact fun _=>⟨[],rfl,fun i hi=>by simp at hi⟩
   |succ k ih=>
    intro hk
    obtain ⟨xs,hl,hxs⟩:=ih (by omega)
    obtain ⟨cs,h2,h3⟩:=hx k (by omega)
    refine ⟨xs++ [cs],by simp [hl],fun i hi=> ?_⟩
    by_cases hik:i<xs.length
    ·rw [List.getElem_append_left hik];exact hxs i hik
    ·have:i=k:=by simp [hl] at hi;omega
     subst this
     rw [List.getElem_append_right (by omega)]
     simp only [hl,Nat.sub_self,List.getElem_cons_zero]
     exact ⟨h2,h3⟩
  obtain ⟨xs,hl,hxs⟩:=key len (Nat.le_refl _)
  have hsz: ∀x∈xs,x.length=P.cellsOf e:=by
   intro x hx
   obtain ⟨i,hi,rfl⟩:=List.getElem_of_mem hx
   exact (vq (hxs i hi).1).1
  refine ⟨⟨some a,len,cap⟩,xs,h1,hlc,hcm,hl,fun x hx=> ?_,hsz,?_,fun i hi=>⟨a,rfl,?_⟩⟩
  ·obtain ⟨i,hi,rfl⟩:=List.getElem_of_mem hx
   exact (hxs i hi).2
  ·rw [sB hsz,hl]
  ·rw [sB hsz,hl] at hi
   have hz:0<P.cellsOf e:=by
    rcases Nat.eq_zero_or_pos (P.cellsOf e) with h0|h0
    ·rw [h0] at hi;simp at hi
    ·exact h0
   have e1:i/P.cellsOf e*P.cellsOf e+i % P.cellsOf e=i:=by rw [Nat.mul_comm];exact Nat.div_add_mod i _
   have hq:i/P.cellsOf e<xs.length:=by rw [hl];exact (Nat.div_lt_iff_lt_mul hz).2 hi
   have hr:=Nat.mod_lt i hz
   obtain ⟨c1,c2⟩:=vq (hxs _ hq).1
   have c3:=c2 (i % P.cellsOf e) (by omega)
   have c4:=rD hsz _ _ hq hr
   have c5:(a.add (i/P.cellsOf e*P.cellsOf e)).add (i % P.cellsOf e)=a.add i:=by
    conv=>rhs;rw [←e1]
    unfold Addr.add
    by_cases e1:i/P.cellsOf e*P.cellsOf e=0<;>by_cases e2:i % P.cellsOf e=0<;>simp [e1,e2,Nat.add_assoc]
   rw [c5] at c3
   rw [c3,←List.getElem?_eq_getElem,←c4]
   simp only [e1]
   exact List.getElem?_eq_getElem _
theorem dJ.struct {t:TypeId} {fs:Array Field} {cs:List Value} (h:dJ enc P W t cs) (ht:P.underlying t=some (.struct fs)):cs.length=P.cellsOf t∧∀(i:Nat) (f:Field),fs[i]? =some f→dJ enc P W f.type ((cs.drop f.offset).take (P.cellsOf f.type)):=by
 obtain ⟨m,x,h⟩:=h
 obtain ⟨xs,n,_,_,h2,h3,h4⟩:=DataW.trod_struct ht h
 refine ⟨h2,fun i f hf=> ?_⟩
 have hi:i<fs.size:=by
  rcases Nat.lt_or_ge i fs.size with hh|hh
  ·exact hh
  ·rw [Array.getElem?_eq_none hh] at hf;cases hf
 have:=h4 i f hf
 rw [List.getElem?_eq_getElem (by omega)] at this
 exact ⟨n,_,this⟩
def Er (P:Program) (t:TypeId) (i:Nat) (ft:TypeId) (off n:Nat):Bool:=match P.underlying t with
 |some (.struct fs)=>match fs[i]? with
  |some f=>f.type==ft&&f.offset==off&&P.cellsOf ft==n
  |none=>false
 |_=>false
theorem dJ.field {t:TypeId} {cs:List Value} (h:dJ enc P W t cs) (i:Nat) (ft:TypeId) (off n:Nat) (hf:Er P t i ft off n=true):dJ enc P W ft ((cs.drop off).take n):=by
 unfold Er at hf
 split at hf
 ·rename_i fs ht
  split at hf
  ·rename_i f hfi
   simp only [Bool.and_eq_true,beq_iff_eq] at hf
   obtain ⟨⟨rfl,rfl⟩,rfl⟩:=hf
   exact (h.struct ht).2 i f hfi
  ·cases hf
 ·cases hf
theorem dJ.array {t e:TypeId} {n:Nat} {cs:List Value} (h:dJ enc P W t cs) (ht:P.underlying t=some (.array n e)):cs.length=P.cellsOf t∧∀i,i<n→dJ enc P W e ((cs.drop (i*P.cellsOf e)).take (P.cellsOf e)):=by
 obtain ⟨m,x,h⟩:=h
 obtain ⟨xs,n',_,_,h2,h3,h4⟩:=DataW.trod_array ht h
 refine ⟨h2,fun i hi=> ?_⟩
 have:=h4 i hi
 rw [List.getElem?_eq_getElem (by omega)] at this
 exact ⟨n',_,this⟩
theorem uM {α β:Type} {g:α→β} {Good:α→Prop}: ∀{xs:List β} (_: ∀x∈xs,∃a,x=g a∧Good a),∃l:List α,xs=l.map g∧∀a∈l,Good a
 | [],_=>⟨[],rfl,by simp⟩
 |x::xs,h=>by
  obtain ⟨a,rfl,ha⟩:=h x (by simp)
  obtain ⟨l,rfl,hl⟩:=uM (fun y hy=>h y (List.mem_cons_of_mem _ hy))
  exact ⟨a::l,rfl,by simpa using ⟨ha,hl⟩⟩
theorem p9 {α β:Type} {g:α→β} (l:List α):(l.map fun a=> [g a]).flatten=l.map g:=by
 induction l with
 |nil=>rfl
 |cons a l ih=>simp [ih]
theorem wf_u8 {n:Int} (h:(Lit.int .u8 n).wf=true):0≤n∧n≤255:=by
 simp [Lit.wf,IntKind.min,IntKind.max,IntKind.signed,IntKind.bits] at h
 exact h
theorem wf_u32 {n:Int} (h:(Lit.int .u32 n).wf=true):0≤n∧n≤4294967295:=by
 simp [Lit.wf,IntKind.min,IntKind.max,IntKind.signed,IntKind.bits] at h
 exact h
def Bz (W:World) (s:Sl) (b:List Nat):Prop:=aC 1 s (b.map vB) W∧(∀y∈b,y<256)∧s.len≤s.cap∧s.cap≤maxLen
theorem dJ.bytes {t e:TypeId} {cs:List Value} (h:dJ enc P W t cs) (ht:P.underlying t=some (.slice e)) (he:P.underlying e=some (.int .u8)) (hc:P.cellsOf e=1): ∃s b,cs= [.slice s.base s.len s.cap]∧Bz W s b:=by
 obtain ⟨s,xs,h1,h2,h3,h4,h5,h6,h7⟩:=h.slice ht
 obtain ⟨l,rfl,hl⟩:=uM (g:=fun y:Nat=> [vB y]) (Good:=fun y=>y<256) (xs:=xs) fun x hx=>by
  obtain ⟨n,rfl,hn⟩:=(h5 x hx).int he
  have:=wf_u8 hn
  obtain ⟨m,rfl⟩:=Int.eq_ofNat_of_zero_le this.1
  exact ⟨m,rfl,by omega⟩
 rw [p9,hc] at h7
 exact ⟨s,l,h1,h7,hl,h2,h3⟩
theorem dJ.ints {t e:TypeId} {k:IntKind} {cs:List Value} (h:dJ enc P W t cs) (ht:P.underlying t=some (.slice e)) (he:P.underlying e=some (.int k)) (hc:P.cellsOf e=1):
  ∃s,∃l:List Int,cs= [.slice s.base s.len s.cap]∧aC 1 s (l.map (.int k)) W∧(∀y∈l,(Lit.int k y).wf=true)∧s.len≤s.cap∧s.cap≤maxLen:=by
 obtain ⟨s,xs,h1,h2,h3,h4,h5,h6,h7⟩:=h.slice ht
 obtain ⟨l,rfl,hl⟩:=uM (g:=fun y:Int=> [Value.int k y]) (Good:=fun y=>(Lit.int k y).wf=true) (xs:=xs) fun x hx=>by
  obtain ⟨n,rfl,hn⟩:=(h5 x hx).int he
  exact ⟨n,rfl,hn⟩
 rw [p9,hc] at h7
 exact ⟨s,l,h1,h7,hl,h2,h3⟩
def Arg (enc:TypeId×Value→H) (P:Program) (W:World) (t:TypeId) (v:Value):Prop:=(∃base,Value.okWide P W .any base t v)∧dJ enc P W t v.cells.toList
def BQ (enc:TypeId×Value→H) (P:Program) (W:World):List TypeId→List Value→Prop
 | [],vs=>vs= []
 |t::ts,vs=> ∃v vs',vs=v::vs'∧Arg enc P W t v∧BQ enc P W ts vs'
theorem Arg.one {t:TypeId} {v:Value} (h:Arg enc P W t v) (hv:v.cells.toList= [v]):dJ enc P W t [v]:=by
 have:=h.2
 rwa [hv] at this
theorem Arg.slice {t e:TypeId} {v:Value} (h:Arg enc P W t v) (ht:P.underlying t=some (.slice e)):dJ enc P W t [v]:=by
 obtain ⟨base,hb⟩:=h.1
 obtain ⟨a,l,c,rfl⟩:=okWide_slice ht hb
 exact h.one rfl
theorem Arg.bytes {t e:TypeId} {v:Value} (h:Arg enc P W t v) (ht:P.underlying t=some (.slice e)) (he:P.underlying e=some (.int .u8)) (hc:P.cellsOf e=1): ∃s b,v= .slice s.base s.len s.cap∧Bz W s b:=by
 obtain ⟨s,b,h1,h2⟩:=(h.slice ht).bytes ht he hc
 exact ⟨s,b,by simpa using h1,h2⟩
theorem Arg.ints {t e:TypeId} {k:IntKind} {v:Value} (h:Arg enc P W t v) (ht:P.underlying t=some (.slice e)) (he:P.underlying e=some (.int k)) (hc:P.cellsOf e=1):
  ∃s,∃l:List Int,v= .slice s.base s.len s.cap∧aC 1 s (l.map (.int k)) W∧(∀y∈l,(Lit.int k y).wf=true)∧s.len≤s.cap∧s.cap≤maxLen:=by
 obtain ⟨s,l,h1,h2⟩:=(h.slice ht).ints ht he hc
 exact ⟨s,l,by simpa using h1,h2⟩
theorem Arg.int {t:TypeId} {k:IntKind} {v:Value} (h:Arg enc P W t v) (ht:P.underlying t=some (.int k)): ∃n,v= .int k n∧(Lit.int k n).wf=true:=by
 obtain ⟨base,hb⟩:=h.1
 obtain ⟨n,rfl⟩:=okWide_int ht hb
 obtain ⟨m,h1,h2⟩:=(h.one rfl).int ht
 cases h1
 exact ⟨n,rfl,h2⟩
theorem Arg.string {t:TypeId} {v:Value} (h:Arg enc P W t v) (ht:P.underlying t=some .string): ∃s:ByteArray,v= .string s∧s.size≤maxLen:=by
 obtain ⟨base,hb⟩:=h.1
 obtain ⟨n,rfl⟩:=okWide_string ht hb
 obtain ⟨m,h1,h2⟩:=(h.one rfl).string ht
 cases h1
 exact ⟨n,rfl,h2⟩
theorem Arg.struct {t:TypeId} {fs:Array Field} {v:Value} (h:Arg enc P W t v) (ht:P.underlying t=some (.struct fs)): ∃cs,v= .agg cs∧dJ enc P W t cs.toList:=by
 obtain ⟨base,hb⟩:=h.1
 obtain ⟨cs,rfl,_⟩:=okWide_struct ht hb
 exact ⟨cs,rfl,h.2⟩
theorem A0: ∀{ts:List TypeId} {vs:List Value} {ds:List (DataW H)} {ps:List MemPlace},DataW.TrodAll enc P W 0 (fun _=>true) true ts vs ds ps→(∀(j:Nat) t v,ts[j]? =some t→vs[j]? =some v→∃base,Value.okWide P W .any base t v)→BQ enc P W ts vs
 | [],[],[],_,_,_=>rfl
 |t::ts,v::vs,d::ds,ps,h,hv=>by
  obtain ⟨p,q,⟨fuel,h1⟩,h2,_⟩:=h
  exact ⟨v,vs,rfl,⟨hv 0 t v rfl rfl,fuel,_,h1⟩,A0 h2 fun j t' v' a b=>hv (j+1) t' v' a b⟩
theorem rC: ∀{ts:List TypeId} {vs:List Value} {ds:List (DataW H)} {ps:List MemPlace},DataW.TrodAll enc P W 0 (fun _=>true) true ts vs ds ps→ds.length=ts.length
 | [],[],[],_,_=>rfl
 |_::_,_::_,_::_,_,h=>by
  obtain ⟨p,q,_,h2,_⟩:=h
  simp [rC h2]
theorem pK (hl:laidOutB P=true) {W':World} (hb:Below W.heap.size W W'): ∀{ts:List TypeId} {vs:List Value} {ds:List (DataW H)} {ps:List MemPlace},DataW.TrodAll enc P W 0 (fun _=>true) true ts vs ds ps→
  (∀t∈ts,P.readableRec t=true∧t<P.types.size)→∃qs,DataW.TrodAll enc P W' 0 (fun b=>decide (b<W.heap.size)) true ts vs ds qs
 | [],[],[],_,_,_=>⟨[],rfl⟩
 |t::ts,v::vs,d::ds,ps,h,hr=>by
  obtain ⟨p,q,h1,h2,_⟩:=h
  obtain ⟨qs,h3⟩:=pK hl hb h2 fun t ht=>hr t (List.mem_cons_of_mem _ ht)
  obtain ⟨ht1,ht2⟩:=hr t (by simp)
  have hlt: ∀x∈p,x.block<W.heap.size:=by obtain ⟨m,hm⟩:=h1;exact DataW.trod_lt m _ _ _ hm
  exact ⟨_,p,qs,Below.trod hl ht1 ht2 h1 hb hlt,h3,rfl⟩
theorem E3 {C:Checked} {os:Os} {f:FuncId} {fn:Func} {s:ChangeSpec} {conds:List PathCond} {tb:TypeId}
  (own:ownKnob C.prog.godebug=none) (started:os.Started) (noInit:C.prog.inits.idxOf? f=none) (hfn:C.prog.funcs[f]? =some fn)
  (witness: ∃(w:World) (tape:Tape) (i:Input),w.os=os∧(w.forCall tape i).Shaped C.prog∧i.vars= []∧Input.okWide C.prog (w.forCall tape i) .any w.heap.size f i∧
   s.pre6 enc C.prog fn conds false (w.forCall tape i).memory i.args∧({}:Assume).holds C.prog (lone (Frame.enter C.prog f i.args .normal) [] (w.forCall tape i)))
  (hvars:s.vars= []) (hres:fn.resultTypes= #[tb]) (htb:C.prog.underlying tb=some .bool)
  (hspec: ∀ds:List (DataW H),ds.length=fn.params.toList.length→s.fn H ds={results:= [.lit (.bool true)],args:=ds})
  (laid:laidOutB C.prog=true) (hr:fn.params.toList.all (fun t=>C.prog.readableRec t&&decide (t<C.prog.types.size))=true)
  (contract: ∀(W:World) (args:Array Value) (ds:List (DataW H)),BQ enc C.prog W fn.params.toList args.toList→(DataW.weightsEach C.prog fn.params.toList ds).all (·≤reachBytes)=true→
   Cl C.prog [kB] f args W (fun b w'=>b=true∧Below W.heap.size W w')):
  ReturnsInHanded {} C os f .any (s.pre6 enc C.prog fn conds false) (s.post enc C.prog fn false true false false):=by
 refine returnsInHanded_of_change_sized own started noInit hfn witness ?_
 intro W base args ds gs before hval hW _ hz _
 have hW':=hW
 obtain ⟨p,q,hA,hV,rfl,hfz,hnd⟩:=hW
 rw [hvars] at hV
 obtain ⟨rfl,rfl⟩:=trodVars_none hV
 have hlen:=rC hA
 have hz':(DataW.weightsEach C.prog fn.params.toList ds).all (·≤reachBytes)=true:=by
  have e:s.plain.varTypes C.prog= []:=by
   simp [DataSpec.varTypes,ChangeSpec.plain,hvars]
  rw [e,List.append_nil,List.append_nil] at hz
  exact hz
 have hargs:=A0 (vs:=args.toList) hA fun j t v ht hv=>⟨base,hval j t v (by simpa using ht) (by simpa using hv)⟩
 refine Calls.mono (contract W args ds hargs hz') fun e W' hp=> ?_
 cases e with
 |returned v=>
  obtain ⟨b,hv,hb,bel⟩:=Ki.cb (k:=kB) hp
  subst hb
  have hv:v= .bool true:=hv
  subst hv
  have hsp:=hspec ds hlen
  obtain ⟨qs,hq⟩:=pK laid bel hA fun t ht=>by
   have:=List.all_eq_true.1 hr t ht
   simpa using this
  refine ⟨_,rfl,ds,[],_,[],qs,[],hW',?_,?_,?_,bel.frame _,fun h=>by cases h⟩
  ·rw [List.append_nil,hsp,hres]
   exact trodAll_mk1 (shut_bool htb _)
  ·rw [List.append_nil,hsp];exact hq
  ·rw [hvars]
   have:(s.fn H (ds++ [])).vars= []:=by rw [List.append_nil,hsp]
   rw [this];rfl
 |_=>exact absurd hp (by intro h;exact h)
end
end Go.Vc
set_option maxRecDepth 20000
namespace Go.Vc
open Go Go.RowKit Go.ChangeShapes Go.WideShapes
section
variable {H:Type} {enc:TypeId×Value→H} {P:Program} {W:World}
theorem Arg.agg {t e:TypeId} {n:Nat} {v:Value} (h:Arg enc P W t v) (ht:P.underlying t=some (.array n e)): ∃cs,v= .agg cs∧dJ enc P W t cs.toList:=by
 obtain ⟨base,hb⟩:=h.1
 simp only [Value.okWide,ht] at hb
 obtain ⟨cs,rfl,_⟩:=hb
 exact ⟨cs,rfl,h.2⟩
theorem dJ.fP {t e:TypeId} {n:Nat} {k:IntKind} {cs:List Value} (h:dJ enc P W t cs) (ht:P.underlying t=some (.array n e)) (he:P.underlying e=some (.int k)) (hc:P.cellsOf e=1) (hn:P.cellsOf t=n):
  ∃l:List Int,cs=l.map (.int k)∧l.length=n∧∀y∈l,(Lit.int k y).wf=true:=by
 obtain ⟨h1,h2⟩:=h.array ht
 rw [hn] at h1
 rw [hc] at h2
 have key: ∀m,m≤n→∃l:List Int,cs.take m=l.map (.int k)∧l.length=m∧∀y∈l,(Lit.int k y).wf=true:=by
  intro m
  induction m with
  |zero=>exact fun _=>⟨[],by simp,rfl,by simp⟩
  |succ m ih=>
   intro hm
   obtain ⟨l,e1,e2,e3⟩:=ih (by omega)
   obtain ⟨x,hx,hw⟩:=(h2 m (by omega)).int he
   rw [Nat.mul_one] at hx
   have hmc:m<cs.length:=by omega
   have hx2:cs[m]= .int k x:=by
    rw [List.drop_eq_getElem_cons hmc,List.take_succ_cons,List.take_zero] at hx
    exact (List.cons.inj hx).1
   refine ⟨l++ [x],?_,by simp [e2],?_⟩
   ·rw [List.take_add_one,e1,List.getElem?_eq_getElem hmc,hx2];simp
   ·intro y hy
    rcases List.mem_append.1 hy with hy|hy
    ·exact e3 y hy
    ·have:y=x:=by simpa using hy
     rw [this];exact hw
 obtain ⟨l,e1,e2,e3⟩:=key n (Nat.le_refl _)
 rw [List.take_of_length_le (by omega)] at e1
 exact ⟨l,e1,e2,e3⟩
end
end Go.Vc
