/- Texts packed together by program; spaces struck by program. Conditions: as each theorem states. -/
import Derived.Test.YtgglghjnakclmaaGreatQhd
set_option linter.unusedSimpArgs false
set_option linter.unusedVariables false
set_option maxRecDepth 20000
namespace Go.Dcd
open Go.Inc Go.Srt Go.Sym Go.aE Go.Tab Go.Hd Go.Crc Go.Bw Go.af Go.Stm Go.Prs
def lK (v:Nat):Nat:=if v=0 then 32 else if v<128 then 24 else if v<16384 then 16 else 8
def tv (h:HS):Nat:=if h.at_<3 then (3 - h.at_)*8+32 else lK h.v
def gU (m:MS):Nat:=if m.at_=0 then 104 else if m.at_=1 then lK m.v+64 else if m.at_=2 then lK m.v+32 else (4 - m.many)*8
def pg (t:TS):Nat:=if t.way=0 then 15 else if t.way=1 then 15 - t.now else t.now
def mW (t:TS):Nat:=if t.bits<4 then (4 - t.bits)+7998 else if t.bits=4 then (257 - t.l.length)*31+2*pg t+1 else (257 - t.l.length)*31+2*pg t
def bm (n mn:Nat):PS→Nat
 | .head h=>tv h+(104+(8004+15*(n+1)+8+(2*n+1)*mn))
 | .mark _ m=>gU m+(8004+15*(n+1)+8+(2*n+1)*mn)
 | .tab _ _ t=>mW t+1+(15*(n+1)+8+(2*n+1)*mn)
 | .sym _ _ _ m d=>15*(d.left - d.run+1) - m+(8+(2*n+1)*mn)
 | .pad _=>7+(2*n+1)*mn
 |_=>0
theorem rZ (v:Nat):lK v≤32∧8≤lK v:=by unfold lK;constructor<;>(repeat' split)<;>omega
theorem uD {most v c v':Nat} {d:Bool} (hm:most≤65536) (hc:c<256) (h:grow most v c=some (v',d)):lK v'+8≤lK v∨(d=true):=by
 obtain ⟨h1,h2,h3,h4⟩:=gw hc h
 cases d with
 |true=>exact .inr rfl
 |false=>
  left
  have hc2:128≤c:=by
   rcases Nat.lt_or_ge c 128 with hlt|hge
   ·rw [decide_eq_true hlt] at h4;cases h4
   ·exact hge
  unfold lK
  by_cases hv:v=0
  ·rw [if_pos hv,if_neg (by omega),if_pos (by omega)];omega
  ·rw [if_neg hv,if_neg (show v'≠0 by omega)]
   by_cases h5:v<128
   ·rw [if_pos h5,if_neg (by omega),if_pos (by omega)];omega
   ·rw [if_neg h5,if_neg (show¬v'<128 by omega)]
    by_cases h6:v<16384
    ·rw [if_pos h6,if_neg (by omega)];omega
    ·omega
theorem Ll {h h':HS} {c:Nat} (hc:c<256) (he:bb h c= .more h'):tv h'+8≤tv h:=by
 unfold bb at he
 split at he
 ·rename_i h3
  split at he
  ·injection he with he
   subst he
   unfold tv
   rw [if_pos h3]
   dsimp only
   split
   ·omega
   ·unfold lK;rw [if_pos rfl];omega
  ·cases he
 ·rename_i h3
  split at he
  ·cases he
  ·cases he
  ·rename_i v' hg
   injection he with he
   subst he
   unfold tv
   rw [if_neg h3,if_neg (show¬(⟨3,v'⟩:HS).at_<3 by dsimp only;omega)]
   rcases uD (by decide) hc hg with h|h
   ·exact h
   ·cases h
theorem QL (h:HS):8≤tv h:=by
 unfold tv
 split
 ·omega
 ·exact (rZ _).2
theorem K0 {n:Nat} {m m':MS} {c:Nat} (hn:n≤65536) (hm:fC n m) (hc:c<256) (he:aC n m c= .more m'):gU m'+8≤gU m:=by
 have hM:m.at_=2→m.M≤n:=fun h2=>by
  unfold fC at hm
  rcases hm with ⟨h,_⟩|⟨h,_⟩|⟨_,_,h,_⟩|⟨h,_⟩|⟨h,_⟩<;>omega
 have ha:m.at_=0∨m.at_=1∨m.at_=2∨((m.at_=3∨m.at_=5)∧m.many≤3):=by
  unfold fC at hm
  rcases hm with ⟨h,_⟩|⟨h,_⟩|⟨h,_,_,_⟩|⟨h,_,_,_,_,_,hh,_⟩|⟨h,_,_,_,hh,_⟩<;>omega
 unfold aC at he
 have hv:=rZ m.v
 split at he
 ·rename_i h0
  have e:gU m=104:=by unfold gU;rw [if_pos h0]
  rw [e]
  split at he
  ·injection he with he;subst he;decide
  ·split at he
   ·injection he with he;subst he;decide
   ·cases he
 ·rename_i h0
  split at he
  ·rename_i h1
   have e:gU m=lK m.v+64:=by unfold gU;rw [if_neg h0,if_pos h1]
   rw [e]
   split at he
   ·cases he
   ·injection he with he;subst he;have:gU ⟨2,0,‹Nat›,0,0,0⟩=64:=rfl;omega
   ·rename_i v' hg
    injection he with he;subst he
    have:gU ⟨1,v',0,0,0,0⟩=lK v'+64:=rfl
    rcases uD hn hc hg with h|h
    ·omega
    ·cases h
  ·rename_i h1
   split at he
   ·rename_i h2
    have e:gU m=lK m.v+32:=by unfold gU;rw [if_neg h0,if_neg h1,if_pos h2]
    rw [e]
    split at he
    ·cases he
    ·injection he with he;subst he;have:gU ⟨3,0,m.M,‹Nat›,0,0⟩=32:=rfl;omega
    ·rename_i v' hg
     injection he with he;subst he
     have:gU ⟨2,v',m.M,0,0,0⟩=lK v'+32:=rfl
     rcases uD (by have:=hM h2;omega) hc hg with h|h
     ·omega
     ·cases h
   ·rename_i h2
    split at he
    ·split at he<;>cases he
    ·rename_i h3
     injection he with he;subst he
     unfold gU
     rw [if_neg h0,if_neg h1,if_neg h2,if_neg h0,if_neg h1,if_neg h2]
     dsimp only
     omega
theorem PE {n:Nat} {m:MS} (hm:fC n m):8≤gU m:=by
 have hv:=rZ m.v
 unfold gU
 unfold fC at hm
 rcases hm with ⟨h,_⟩|⟨h,_⟩|⟨h,_,_,_⟩|⟨h,_,_,_,_,_,hh,_⟩|⟨h,_,_,_,hh,_⟩<;>(repeat' split)<;>omega
theorem LW {ok:List Nat→Bool} {t t':TS} {b:Nat} (ht:dR t) (he:aV ok t b= .more t'):mW t'+1≤mW t:=by
 obtain ⟨l,bits,now,way⟩:=t
 unfold dR at ht
 unfold aV at he
 dsimp only at ht he
 split at he
 ·rename_i h4
  injection he with he;subst he
  rcases ht with ⟨_,hl,_,hw⟩|⟨h,_⟩
  ·subst hl;subst hw
   unfold mW pg
   dsimp only
   rw [if_pos h4]
   by_cases h3:bits+1<4
   ·rw [if_pos h3];omega
   ·rw [if_neg h3,if_pos (by omega),if_pos rfl]
    simp only [List.length_nil]
    omega
  ·omega
 ·rename_i h4
  rcases ht with ⟨h,_⟩|⟨hb,hl,hn,_,hw⟩
  ·omega
  ·split at he
   ·rename_i h5
    split at he
    ·split at he
     ·injection he with he;subst he
      unfold mW pg
      dsimp only
      rw [if_neg h4,if_pos h5,if_neg (by decide),if_pos rfl,if_pos rfl,List.length_append,List.length_singleton]
      omega
     ·split at he<;>cases he
    ·injection he with he;subst he
     unfold mW
     dsimp only
     rw [if_neg h4,if_pos h5,if_neg (by decide),if_neg (by decide)]
     have:pg ⟨l,5,now,way⟩=pg ⟨l,bits,now,way⟩:=rfl
     omega
   ·rename_i h5
    have hold:mW ⟨l,bits,now,way⟩=(257 - l.length)*31+2*pg ⟨l,bits,now,way⟩:=by unfold mW;dsimp only;rw [if_neg h4,if_neg h5]
    split at he
    ·split at he
     ·rename_i hc
      injection he with he;subst he
      rw [hold]
      unfold mW pg
      dsimp only
      rw [if_neg (by decide),if_pos rfl,if_neg (by decide),if_pos rfl]
      by_cases hw0:way=0
      ·rw [if_pos hw0];omega
      ·rw [if_neg hw0]
       by_cases hw1:way=1
       ·rw [if_pos hw1];omega
       ·unfold nz at hw
        exfalso
        split at hw<;>omega
     ·cases he
    ·split at he
     ·rename_i hc
      injection he with he;subst he
      rw [hold]
      unfold mW pg
      dsimp only
      rw [if_neg (by decide),if_pos rfl,if_neg (by decide),if_neg (by decide)]
      by_cases hw0:way=0
      ·rw [if_pos hw0];omega
      ·rw [if_neg hw0,if_neg hc.1];omega
     ·cases he
def zu:PS→Prop
 | .head h=>tH h
 | .mark n m=>1≤n∧n≤65536∧fC n m
 | .tab n M t=>1≤M∧M≤n∧n≤65536∧dR t
 | .sym n l k m d=>1≤n∧n≤65536∧l.length=258∧lG l k m∧gF d
 | .pad n=>1≤n∧n≤65536
 |_=>True
def Jn (M:Nat) (came:List Nat):PS→Prop
 | .tab n M' _=>M'=M∧came= []∧M≤n
 | .sym n _ _ _ d=>came.length+d.left=M∧M≤n
 | .pad n=>came.length=M∧M≤n
 |_=>True
def cr:PS→Bool
 | .head _=>true
 |_=>false
def po:PS→Bool
 | .tab _ _ _=>true
 | .sym _ _ _ _ _=>true
 | .pad _=>true
 |_=>false
def GJ (M:Nat) (came:List Nat) (s:PS):Ev→PS→Prop
 | .hdr k,s'=>cr s=true∧s'= .mark k cI∧1≤k∧k≤65536
 | .az M' P' q,s'=>cr s=false∧s'= .tab (PS.n s) M' t0∧1≤M'∧M'≤PS.n s∧PS.n s≤65536∧1≤P'∧P'≤M'∧q<4294967296
 | .bytes t,s'=>cr s=false∧po s=true∧po s'=true∧PS.n s'=PS.n s∧Jn M (came++t) s'∧came.length+t.length≤M∧(∀x∈t,x<256)∧t≠ []∧M≤PS.n s
 | .bend,s'=>cr s=false∧po s=true∧came.length=M∧s'= .mark (PS.n s) cI
 | .tail q,s'=>cr s=false∧s'= .behind (PS.n s)
 | .fin,s'=>cr s=false∧s'= .aq (PS.n s)
 | .bad e,s'=>e≠0∧s'= .bad (PS.n s) e
theorem C0 {d d':DS} {y:Nat} {t:List Nat} {en:Bool} (h:gF d) (he:bz d y=some (d',t,en)):(if en then t.length=d.left∧d.run=d.left else t.length+d'.left=d.left∧d'.left - d'.run+1≤d.left - d.run):=by
 obtain ⟨L,left,run,digits⟩:=d
 obtain ⟨_,_,h3,_,_⟩:=h
 unfold bz at he
 dsimp only at h3 he
 split at he
 ·split at he
  ·rename_i hs hle
   simp only [Option.some.injEq,Prod.mk.injEq] at he
   obtain ⟨rfl,rfl,rfl⟩:=he
   have hp:=Nat.two_pow_pos digits
   have:=Nat.mul_le_mul_right (2^digits) (show 1≤1+y by omega)
   simp only [Bool.false_eq_true,if_false,List.length_nil]
   omega
  ·cases he
 ·split at he
  ·split at he
   ·simp only [Option.some.injEq,Prod.mk.injEq] at he
    obtain ⟨rfl,rfl,rfl⟩:=he
    simp;omega
   ·cases he
  ·split at he
   ·cases he
   ·simp only [Option.some.injEq,Prod.mk.injEq] at he
    obtain ⟨rfl,rfl,rfl⟩:=he
    simp only [Bool.false_eq_true,if_false,List.length_append,List.length_replicate,List.length_singleton]
    omega
section
variable {ended:Bool} {c:List Nat} {s s':PS} {u u' n mn M:Nat} {came:List Nat}
theorem P9 (hI:zu s) (hJ:Jn M came s) (hn:cr s=false→PS.n s=n) (h:aD ended c s u= .go s' u'):
  zu s'∧Jn M came s'∧cr s'=cr s∧po s'=po s∧PS.n s'=PS.n s∧u'+bm n mn s'≤u+bm n mn s:=by
 have h8:val c u 8<256:=jb c u 8
 have h1:bF c u≤1:=by have:=mu c u;omega
 cases s with
 |head hs=>
  simp only [aD,short] at h
  split at h
  ·split at h
   ·rename_i h' he
    injection h with h1 h2;subst h1;subst h2
    have:=Ll h8 he
    exact ⟨tj hI h8 he,trivial,rfl,rfl,rfl,by simp only [bm];omega⟩
   ·cases h
   ·cases h
  ·split at h<;>cases h
 |mark k m=>
  simp only [aD,short] at h
  split at h
  ·split at h
   ·rename_i m' he
    injection h with h1 h2;subst h1;subst h2
    have:=K0 hI.2.1 hI.2.2 h8 he
    exact ⟨⟨hI.1,hI.2.1,oX hI.2.2 h8 he⟩,trivial,rfl,rfl,rfl,by simp only [bm];omega⟩
   ·cases h
   ·cases h
   ·cases h
  ·split at h<;>cases h
 |tab k M' t=>
  simp only [aD,short] at h
  obtain ⟨i1,i2,i3,i4⟩:=hI
  obtain ⟨rfl,rfl,j3⟩:=hJ
  have hk:k=n:=hn rfl
  split at h
  ·split at h
   ·rename_i t' he
    injection h with h1' h2;subst h1';subst h2
    have:=LW i4 he
    exact ⟨⟨i1,i2,i3,kC i4 h1 he⟩,⟨rfl,rfl,j3⟩,rfl,rfl,rfl,by simp only [bm];omega⟩
   ·rename_i l he
    injection h with h1' h2;subst h1';subst h2
    have hf:=dB i4 he
    refine ⟨⟨by omega,i3,hf.1,lG.zero hf.2,gF.zero (by omega)⟩,⟨by simp,j3⟩,rfl,rfl,rfl,?_⟩
    simp only [bm]
    omega
   ·cases h
  ·split at h<;>cases h
 |sym k l a m d=>
  simp only [aD,short] at h
  obtain ⟨i1,i2,i3,i4,i5⟩:=hI
  obtain ⟨j1,j2⟩:=hJ
  have hstp:=ta i3 i4 h1
  have hnx:=i4.next h1
  have hfst:=z8 (l:=l) (c:=a) (b:=m) (x:=bF c u)
  have hm:=i4.2.1
  split at h
  ·split at h
   ·rename_i hf
    injection h with h1' h2;subst h1';subst h2
    rw [hf] at hstp
    rw [hstp] at hfst
    rw [hfst] at hnx
    refine ⟨⟨i1,i2,i3,hnx,i5⟩,⟨j1,j2⟩,rfl,rfl,rfl,?_⟩
    have:=hnx.2.1
    simp only [bm]
    omega
   ·rename_i y hf
    rw [hf] at hstp
    have hy:=tN i3 i4 h1 hstp
    split at h
    ·cases h
    ·rename_i d' t en hd
     have hs:=C0 i5 hd
     split at h
     ·rename_i ht
      subst ht
      injection h with h1' h2;subst h1';subst h2
      cases en with
      |true=>
       simp only [if_true,List.length_nil] at hs
       refine ⟨⟨i1,i2⟩,⟨by omega,j2⟩,rfl,rfl,rfl,?_⟩
       simp only [bm,if_true]
       omega
      |false=>
       simp only [Bool.false_eq_true,if_false,List.length_nil] at hs
       refine ⟨⟨i1,i2,i3,lG.zero i4.1,(rV i5 hy.1 hd).1⟩,⟨by omega,j2⟩,rfl,rfl,rfl,?_⟩
       simp only [bm,Bool.false_eq_true,if_false]
       omega
     ·cases h
  ·split at h<;>cases h
 |pad k=>simp only [aD] at h;split at h<;>cases h
 |behind k=>simp only [aD] at h;split at h<;>(try split at h)<;>cases h
 |aq k=>simp only [aD] at h;cases h
 |bad k e=>simp only [aD] at h;cases h
theorem Tu (u:Nat):iP u≤7:=by unfold iP;split<;>omega
theorem PT {e:Ev} (hI:zu s) (hJ:Jn M came s) (hn:cr s=false→PS.n s=n) (hb: ∀er,(∃k,s= .bad k er)→er≠0) (h:aD ended c s u= .ev e s' u'):
  zu s'∧GJ M came s e s'∧u'+(if e= .bend then (2*n+1)*mn else bm n mn s')≤u+bm n mn s:=by
 have h8:val c u 8<256:=jb c u 8
 have h1:bF c u≤1:=by have:=mu c u;omega
 cases s with
 |head hs=>
  have hge:=QL hs
  simp only [aD,short] at h
  split at h
  ·split at h
   ·cases h
   ·rename_i k he
    injection h with h1 h2 h3;subst h1;subst h2;subst h3
    have hf:=Bf h8 he
    refine ⟨⟨hf.1,hf.2,.inl ⟨rfl,rfl⟩⟩,⟨rfl,rfl,hf.1,hf.2⟩,?_⟩
    rw [if_neg (by simp)]
    simp only [bm,show gU cI=104 from rfl];omega
   ·rename_i er he
    injection h with h1 h2 h3;subst h1;subst h2;subst h3
    refine ⟨trivial,⟨AM he,rfl⟩,?_⟩
    rw [if_neg (by simp)]
    simp only [bm];omega
  ·split at h
   ·injection h with h1 h2 h3;subst h1;subst h2;subst h3
    refine ⟨trivial,⟨by decide,rfl⟩,?_⟩
    rw [if_neg (by simp)]
    simp only [bm];omega
   ·cases h
 |mark k m=>
  have hge:=PE hI.2.2
  simp only [aD,short] at h
  split at h
  ·split at h
   ·cases h
   ·rename_i q he
    injection h with h1 h2 h3;subst h1;subst h2;subst h3
    refine ⟨trivial,⟨rfl,rfl⟩,?_⟩
    rw [if_neg (by simp)]
    simp only [bm];omega
   ·rename_i M' P' q he
    injection h with h1 h2 h3;subst h1;subst h2;subst h3
    have hf:=qj hI.2.2 he
    refine ⟨⟨hf.1,hf.2.1,hI.2.1,dR.zero⟩,⟨rfl,rfl,hf.1,hf.2.1,hI.2.1,hf.2.2.1,hf.2.2.2,?_⟩,?_⟩
    ·have hM:=hI.2.2
     unfold aC at he
     split at he
     ·split at he
      ·cases he
      ·split at he<;>cases he
     ·split at he
      ·split at he<;>cases he
      ·split at he
       ·split at he<;>cases he
       ·split at he
        ·split at he
         ·rename_i h3 h4
          injection he with he
          injection he with _ _ he
          unfold fC at hM
          rcases hM with ⟨g,_⟩|⟨g,_⟩|⟨g,_⟩|⟨g,_,_,_,_,_,_,hs⟩|⟨g,_⟩
          ·omega
          ·omega
          ·omega
          ·rw [h3] at hs
           have:(256:Nat)^3=16777216:=by decide
           omega
          ·omega
         ·cases he
        ·cases he
    ·rw [if_neg (by simp)]
     simp only [bm,show mW t0=8002 from rfl];omega
   ·rename_i er he
    injection h with h1 h2 h3;subst h1;subst h2;subst h3
    refine ⟨trivial,⟨AN he,rfl⟩,?_⟩
    rw [if_neg (by simp)]
    simp only [bm];omega
  ·split at h
   ·injection h with h1 h2 h3;subst h1;subst h2;subst h3
    refine ⟨trivial,⟨by decide,rfl⟩,?_⟩
    rw [if_neg (by simp)]
    simp only [bm];omega
   ·cases h
 |tab k M' t=>
  simp only [aD,short] at h
  split at h
  ·split at h
   ·cases h
   ·cases h
   ·rename_i er he
    injection h with h1 h2 h3;subst h1;subst h2;subst h3
    refine ⟨trivial,⟨A6 he,rfl⟩,?_⟩
    rw [if_neg (by simp)]
    simp only [bm];omega
  ·split at h
   ·injection h with h1 h2 h3;subst h1;subst h2;subst h3
    refine ⟨trivial,⟨by decide,rfl⟩,?_⟩
    rw [if_neg (by simp)]
    simp only [bm];omega
   ·cases h
 |sym k l a m d=>
  simp only [aD,short] at h
  obtain ⟨i1,i2,i3,i4,i5⟩:=hI
  obtain ⟨j1,j2⟩:=hJ
  have hstp:=ta i3 i4 h1
  have hm:=i4.2.1
  split at h
  ·split at h
   ·cases h
   ·rename_i y hf
    rw [hf] at hstp
    have hy:=tN i3 i4 h1 hstp
    split at h
    ·injection h with h1 h2 h3;subst h1;subst h2;subst h3
     refine ⟨trivial,⟨by decide,rfl⟩,?_⟩
     rw [if_neg (by simp)]
     simp only [bm];omega
    ·rename_i d' t en hd
     have hs:=C0 i5 hd
     split at h
     ·cases h
     ·rename_i ht
      injection h with h1' h2 h3;subst h1';subst h2;subst h3
      rw [if_neg (show¬Ev.bytes t=Ev.bend by simp)]
      cases en with
      |true=>
       simp only [if_true] at hs
       refine ⟨⟨i1,i2⟩,⟨rfl,rfl,rfl,rfl,⟨by rw [List.length_append];omega,j2⟩,by omega,(xq i5 hd).1,ht,j2⟩,?_⟩
       simp only [bm,if_true]
       omega
      |false=>
       simp only [Bool.false_eq_true,if_false] at hs
       have hk:=rV i5 hy.1 hd
       refine ⟨⟨i1,i2,i3,lG.zero i4.1,hk.1⟩,⟨rfl,rfl,rfl,rfl,⟨by rw [List.length_append];omega,j2⟩,by omega,hk.2.1,ht,j2⟩,?_⟩
       simp only [bm,Bool.false_eq_true,if_false]
       omega
  ·split at h
   ·injection h with h1 h2 h3;subst h1;subst h2;subst h3
    refine ⟨trivial,⟨by decide,rfl⟩,?_⟩
    rw [if_neg (by simp)]
    simp only [bm];omega
   ·cases h
 |pad k=>
  have hg:=Tu u
  simp only [aD] at h
  split at h
  ·injection h with h1 h2 h3;subst h1;subst h2;subst h3
   refine ⟨⟨hI.1,hI.2,.inl ⟨rfl,rfl⟩⟩,⟨rfl,rfl,hJ.1,rfl⟩,?_⟩
   rw [if_pos rfl]
   simp only [bm];omega
  ·injection h with h1 h2 h3;subst h1;subst h2;subst h3
   refine ⟨trivial,⟨by decide,rfl⟩,?_⟩
   rw [if_neg (by simp)]
   simp only [bm];omega
 |behind k=>
  simp only [aD] at h
  split at h
  ·injection h with h1 h2 h3;subst h1;subst h2;subst h3
   exact ⟨trivial,⟨by decide,rfl⟩,by rw [if_neg (by simp)];simp only [bm];omega⟩
  ·split at h
   ·injection h with h1 h2 h3;subst h1;subst h2;subst h3
    exact ⟨trivial,⟨rfl,rfl⟩,by rw [if_neg (by simp)];simp only [bm];omega⟩
   ·cases h
 |aq k=>
  simp only [aD] at h
  injection h with h1 h2 h3;subst h1;subst h2;subst h3
  exact ⟨trivial,⟨rfl,rfl⟩,by rw [if_neg (by simp)];exact Nat.le_refl _⟩
 |bad k e=>
  simp only [aD] at h
  injection h with h1 h2 h3;subst h1;subst h2;subst h3
  exact ⟨trivial,⟨hb e ⟨k,rfl⟩,rfl⟩,by rw [if_neg (by simp)];exact Nat.le_refl _⟩
theorem GJ.same {e:Ev} {s2:PS} (h:GJ M came s e s') (h1:cr s2=cr s) (h3:po s2=po s) (h2:PS.n s2=PS.n s):GJ M came s2 e s':=by
 cases e<;>simp only [GJ,h1,h2,h3] at h⊢ <;>exact h
theorem eY: ∀(k:Nat) (s:PS) (u:Nat),dD c s u=k→zu s→Jn M came s→(cr s=false→PS.n s=n)→(∀er,(∃k,s= .bad k er)→er≠0)→match cF ended c s u with
  |(none,s',u')=>zu s'∧Jn M came s'∧cr s'=cr s∧po s'=po s∧PS.n s'=PS.n s∧(∀er,(∃k,s'= .bad k er)→er≠0)∧u'+bm n mn s'≤u+bm n mn s
  |(some e,s',u')=>zu s'∧GJ M came s e s'∧u'+(if e= .bend then (2*n+1)*mn else bm n mn s')≤u+bm n mn s:=by
 intro k
 induction k using Nat.strongRecOn with
 |ind k ih=>
  intro s u hk hI hJ hn hb
  cases hm:aD ended c s u with
  |cg=>rw [sO hm];exact ⟨hI,hJ,rfl,rfl,rfl,hb,Nat.le_refl _⟩
  |ev e s' u'=>rw [sq hm];exact PT hI hJ hn hb hm
  |go s' u'=>
   have hd:=sg hm
   obtain ⟨g1,g2,g3,gi,g4,g5⟩:=P9 (mn:=mn) hI hJ hn hm
   have hb': ∀er,(∃k,s'= .bad k er)→er≠0:=by
    rintro er ⟨q,rfl⟩
    exfalso
    unfold aD short at hm
    split at hm
    all_goals try (split at hm)
    all_goals try (split at hm)
    all_goals try (split at hm)
    all_goals try (split at hm)
    all_goals first
     |(cases hm;done)
     |(injection hm with h1 h2;cases h1;done)
     |(injection hm with h1 h2;split at h1<;>cases h1)
   have:=ih (dD c s' u') (by omega) s' u' rfl g1 g2 (by rw [g3,g4];exact hn) hb'
   rw [uy hm]
   revert this
   rcases cF ended c s' u' with ⟨o,s'',u''⟩
   cases o with
   |none=>exact fun ⟨k1,k2,k3,ki,k4,k5,k6⟩=>⟨k1,k2,by rw [k3,g3],by rw [ki,gi],by rw [k4,g4],k5,by omega⟩
   |some e=>exact fun ⟨k1,k2,k3⟩=>⟨k1,k2.same g3.symm gi.symm g4.symm,by omega⟩
end
theorem SX {n mn:Nat} {s:PS} (hI:zu s) (hn:cr s=false→PS.n s=n) (hr: ∀k l a m d,s= .sym k l a m d→d.left≤n):bm n mn s≤8300+15*(n+1)+(2*n+1)*mn:=by
 cases s with
 |head h=>
  simp only [bm]
  have:tv h≤56:=by
   have:=rZ h.v
   unfold tv
   split<;>omega
  omega
 |mark k m=>
  simp only [bm]
  have:gU m≤104:=by
   have hv:=rZ m.v
   unfold gU;(repeat' split)<;>omega
  omega
 |tab k M t=>
  simp only [bm]
  have:mW t≤8002:=by
   obtain ⟨_,_,_,ht⟩:=hI
   unfold dR at ht
   have h15:pg t≤15:=by
    unfold pg
    rcases ht with ⟨_,_,_,hw⟩|⟨_,_,hw,_⟩<;>(repeat' split)<;>omega
   unfold mW;(repeat' split)<;>omega
  omega
 |sym k l a m d=>
  simp only [bm]
  have:=hr k l a m d rfl
  omega
 |pad k=>simp only [bm];omega
 |behind k=>simp only [bm];omega
 |aq k=>simp only [bm];omega
 |bad k e=>simp only [bm];omega
end Go.Dcd
namespace Go.Dcd
open Go.Inc Go.Srt Go.Sym Go.aE Go.Tab Go.Hd Go.Crc Go.Bw Go.af Go.Stm Go.Prs Go.Pol
structure DC where
 budget:Nat
 mode:Nat
 c:List Nat
 ended:Bool
 s:PS
 u:Nat
 M:Nat
 P:Nat
 sum:Nat
 came:List Nat
 back:Option (Nat×Nat)
 steps:Nat
 all:List Nat
 e:Nat
def DC.left (D:DC):List Nat:=match D.back with
 |none=> []
 |some k=>(bY D.came D.P).reverse.drop k.1
def nP (budget n:Nat):Bool:=decide (bZ budget n 2≠0)
def DC.cost (D:DC):Nat:=D.steps+D.u+match D.back with
 |none=>0
 |some k=>k.2
def DC.rest (D:DC) (en:Bool) (z:List Nat):List Nat×Nat×Nat:=dec (nP D.budget) (dA en (D.c++z) D.s D.u) D.P D.sum D.came (D.all++D.left)
def DC.out (D:DC) (en:Bool) (z:List Nat):List Nat×Nat×Nat:=
 if D.e≠0 then ([],4,D.e) else (D.left++(D.rest en z).1,(D.rest en z).2)
def DC.size (D:DC) (en:Bool) (z:List Nat):Nat:=if cr D.s then (match dA en (D.c++z) D.s D.u with| .hdr n::_=>n|_=>0) else PS.n D.s
def DC.bm (n mn:Nat) (D:DC):Nat:=if D.e≠0 then 0 else match D.back with
 |none=>Dcd.bm n mn D.s
 |some _=>mn
def cn (mode:Nat):Nat:=if mode=1 then 8192 else if mode=2 then 1024 else 1
def DC.fits (D:DC) (n mn:Nat):Prop:=D.mode≠0→n=PS.n D.s∧mn=min n (cn D.mode)
def qi (D:DC) (en:Bool) (z:List Nat):Prop:=D.ended=true→en=true∧z= []
structure cx (D:DC):Prop where
 cb: ∀x∈D.c,x<256
 al:Al D.s D.u
 ul:D.u≤8*D.c.length
 ps:zu D.s
 jn:D.back=none→Jn D.M D.came D.s
 bd: ∀er,(∃k,D.s= .bad k er)→er≠0
 az:po D.s=true→1≤D.M∧D.M≤PS.n D.s∧1≤D.P∧D.P≤D.M∧D.sum<4294967296
 cameb: ∀x∈D.came,x<256
 allb: ∀x∈D.all,x<256
 mode0:cr D.s=true→D.mode=0
 modeE:D.e=0→cr D.s=false→D.mode≠0
 modeN:D.mode≠0→D.mode=bZ D.budget (PS.n D.s) 2∧1≤PS.n D.s∧PS.n D.s≤65536
 bk: ∀k,D.back=some k→D.e=0∧k.1<D.M∧D.came.length=D.M∧okB D.came D.P∧1≤D.P∧D.P≤D.M∧D.M≤PS.n D.s∧D.s= .mark (PS.n D.s) cI
structure Rel (D D1:DC):Prop where
 c:D1.c=D.c
 ended:D1.ended=D.ended
 budget:D1.budget=D.budget
 all:D1.all=D.all
 out: ∀en z,qi D en z→D1.out en z=D.out en z
 size: ∀en z,qi D en z→D1.size en z=D.size en z
 mode:D.mode≠0→D1.mode=D.mode∧PS.n D1.s=PS.n D.s
 bm: ∀n mn,D1.fits n mn→D1.cost+D1.bm n mn≤D.cost+D.bm n mn
theorem Rel.rfl {D:DC}:Rel D D:=⟨Eq.refl _,Eq.refl _,Eq.refl _,Eq.refl _,fun _ _ _=>Eq.refl _,fun _ _ _=>Eq.refl _,fun _=>⟨Eq.refl _,Eq.refl _⟩,fun _ _ _=>Nat.le_refl _⟩
theorem Eb {D D1:DC} (h:D1.ended=D.ended) {en:Bool} {z:List Nat} (h2:qi D en z):qi D1 en z:=fun h3=>h2 (h.symm.trans h3)
theorem DC.BL {D D1:DC} {n mn:Nat} (h:D.mode≠0→D1.mode=D.mode∧PS.n D1.s=PS.n D.s) (hf:D1.fits n mn):D.fits n mn:=fun h0=>by
 obtain ⟨h1,h2⟩:=h h0
 have:=hf (by rw [h1];exact h0)
 rw [h1,h2] at this
 exact this
theorem Rel.trans {D D1 D2:DC} (h:Rel D D1) (g:Rel D1 D2):Rel D D2 where
 c:=g.c.trans h.c
 ended:=g.ended.trans h.ended
 budget:=g.budget.trans h.budget
 all:=g.all.trans h.all
 out en z hz:=(g.out en z (Eb h.ended hz)).trans (h.out en z hz)
 size en z hz:=(g.size en z (Eb h.ended hz)).trans (h.size en z hz)
 mode h0:=by
  obtain ⟨h1,h2⟩:=h.mode h0
  obtain ⟨g1,g2⟩:=g.mode (by rw [h1];exact h0)
  exact ⟨g1.trans h1,g2.trans h2⟩
 bm n mn hf:=Nat.le_trans (g.bm n mn hf) (h.bm n mn (DC.BL g.mode hf))
section
variable {D:DC} {s':PS} {u':Nat}
theorem gm {e:Ev} (ok:cx D) (h:cF D.ended D.c D.s D.u=(some e,s',u')) {en:Bool} {z:List Nat} (hz:qi D en z):
  dA en (D.c++z) D.s D.u=e::(if final e then [] else dA en (D.c++z) s' u'):=by
 have hp:cF en (D.c++z) D.s D.u=(some e,s',u'):=by
  cases hE:D.ended with
  |true=>
   obtain ⟨rfl,rfl⟩:=hz hE
   rw [List.append_nil,←hE];exact h
  |false=>
   have:=fG (ended:=D.ended) _ D.s D.u rfl ok.ul ok.al
   rw [h] at this
   exact this.2.2.2 hE en z
 have:=sd (ended:=en) (c:=D.c++z) _ D.s D.u rfl (by rw [List.length_append];have:=ok.ul;omega)
 rw [hp] at this
 exact this.1
theorem wU (ok:cx D) (h:cF D.ended D.c D.s D.u=(none,s',u')) {en:Bool} {z:List Nat}:dA en (D.c++z) D.s D.u=dA en (D.c++z) s' u':=by
 have ha:=fG (ended:=D.ended) _ D.s D.u rfl ok.ul ok.al
 rw [h] at ha
 obtain ⟨h1,h2,h3,h4⟩:=ha
 have e:=h4 en z
 have hu:D.u≤8*(D.c++z).length:=by rw [List.length_append];have:=ok.ul;omega
 have hu':u'≤8*(D.c++z).length:=by rw [List.length_append];omega
 have f1:=sd (ended:=en) (c:=D.c++z) _ D.s D.u rfl hu
 have f2:=sd (ended:=en) (c:=D.c++z) _ s' u' rfl hu'
 rw [e] at f1
 revert f1 f2
 rcases cF en (D.c++z) s' u' with ⟨o,s2,u2⟩
 cases o with
 |none=>exact fun f1 f2=>f1.1.trans f2.1.symm
 |some e=>exact fun f1 f2=>f1.1.trans f2.1.symm
theorem gL (h:D.back=none):D.left= []:=by unfold DC.left;rw [h]
theorem N6 (ok:cx D) (he:D.e=0) (hb:D.back=none) (h:cF D.ended D.c D.s D.u=(none,s',u')):Rel D {D with s:=s',u:=u'}∧cx {D with s:=s',u:=u'}∧D.ended=false∧u'=8*D.c.length:=by
 have ha:=fG (ended:=D.ended) _ D.s D.u rfl ok.ul ok.al
 rw [h] at ha
 obtain ⟨h1,h2,h3,h4⟩:=ha
 have inv:=fun n mn hn=>eY (ended:=D.ended) (c:=D.c) (n:=n) (mn:=mn) _ D.s D.u rfl ok.ps (ok.jn hb) hn ok.bd
 rw [h] at inv
 obtain ⟨i1,i2,i3,ii,i4,i5,_⟩:=inv (PS.n D.s) 0 (fun _=>rfl)
 refine ⟨⟨rfl,rfl,rfl,rfl,fun en z hz=> ?_,fun en z hz=> ?_,fun _=>⟨rfl,i4⟩,fun n mn hf=> ?_⟩,⟨ok.cb,h3,by dsimp only;omega,i1,fun _=>i2,i5,fun g=>by dsimp only at g⊢;rw [i4];exact ok.az (by rw [←ii];exact g),ok.cameb,ok.allb,fun g=>ok.mode0 (by rw [←i3];exact g),fun g1 g2=>ok.modeE g1 (by rw [←i3];exact g2),fun g=>by dsimp only;rw [i4];exact ok.modeN g,fun k hk=>(by dsimp only at hk;rw [hb] at hk;cases hk)⟩,h2,h1⟩
 ·unfold DC.out DC.rest
  dsimp only
  rw [←wU ok h]
  rfl
 ·unfold DC.size
  dsimp only
  rw [i3,i4,←wU ok h]
 ·have hn:cr D.s=false→PS.n D.s=n:=fun g=>by
   have:=hf (ok.modeE he g)
   rw [this.1]
   exact i4.symm
  have:=(inv n mn hn).2.2.2.2.2.2
  unfold DC.cost DC.bm
  dsimp only
  rw [he,hb,if_neg (by decide),if_neg (by decide)]
  dsimp only
  omega
theorem Qo {k:Nat} (ok:cx D) (he:D.e=0) (hb:D.back=none) (h:cF D.ended D.c D.s D.u=(some (.hdr k),s',u')):
  1≤k∧k≤65536∧D.mode=0∧(bZ D.budget k 2≠0→Rel D {D with s:=s',u:=u',mode:=bZ D.budget k 2}∧cx {D with s:=s',u:=u',mode:=bZ D.budget k 2})∧(bZ D.budget k 2=0→Rel D {D with s:=s',u:=u',e:=230}∧cx {D with s:=s',u:=u',e:=230}):=by
 have ha:=fG (ended:=D.ended) _ D.s D.u rfl ok.ul ok.al
 rw [h] at ha
 obtain ⟨a1,a2,a3,a4⟩:=ha
 have inv:=fun n mn hn=>eY (ended:=D.ended) (c:=D.c) (n:=n) (mn:=mn) _ D.s D.u rfl ok.ps (ok.jn hb) hn ok.bd
 rw [h] at inv
 obtain ⟨i1,⟨e1,rfl,e3,e4⟩,_⟩:=inv (PS.n D.s) 0 (fun _=>rfl)
 have hm:=ok.mode0 e1
 have hn: ∀n,cr D.s=false→PS.n D.s=n:=fun n g=>by rw [e1] at g;cases g
 have hout: ∀en z,qi D en z→dA en (D.c++z) D.s D.u= .hdr k::dA en (D.c++z) (.mark k cI) u':=fun en z hz=>gm ok h hz
 have hpot: ∀n mn,u'+Dcd.bm n mn (.mark k cI)≤D.u+Dcd.bm n mn D.s:=fun n mn=>by
  have:=(inv n mn (hn n)).2.2
  rwa [if_neg (by simp)] at this
 refine ⟨e3,e4,hm,fun hp=>⟨⟨rfl,rfl,rfl,rfl,fun en z hz=> ?_,fun en z hz=> ?_,fun g=>absurd hm g,fun n mn hf=> ?_⟩,⟨ok.cb,a2,a1,i1,fun _=>trivial,fun er g=>(by obtain ⟨q,g⟩:=g;cases g),fun g=>(by cases g),ok.cameb,ok.allb,fun g=>(by cases g),fun _ _=>hp,fun _=>⟨rfl,e3,e4⟩,fun q g=>(by dsimp only at g;rw [hb] at g;cases g)⟩⟩,
  fun hp=>⟨⟨rfl,rfl,rfl,rfl,fun en z hz=> ?_,fun en z hz=> ?_,fun g=>absurd hm g,fun n mn hf=> ?_⟩,⟨ok.cb,a2,a1,i1,fun _=>trivial,fun er g=>(by obtain ⟨q,g⟩:=g;cases g),fun g=>(by cases g),ok.cameb,ok.allb,fun g=>(by cases g),fun g=>(by cases g),fun g=>absurd hm g,fun q g=>(by dsimp only at g;rw [hb] at g;cases g)⟩⟩⟩
 ·unfold DC.out DC.rest
  dsimp only
  rw [hout en z hz,he,if_neg (by decide),if_neg (by decide),dec,if_pos (by unfold nP;exact decide_eq_true hp)]
  rfl
 ·unfold DC.size
  dsimp only
  rw [e1,if_pos rfl,hout en z hz,if_neg (by simp [cr])]
  rfl
 ·have:=hpot n mn
  unfold DC.cost DC.bm
  dsimp only
  rw [he,hb,if_neg (by decide),if_neg (by decide)]
  dsimp only
  omega
 ·unfold DC.out DC.rest
  dsimp only
  rw [hout en z hz,he,if_pos (by decide),if_neg (by decide),dec,if_neg (by unfold nP;simp [hp]),gL hb]
  rfl
 ·unfold DC.size
  dsimp only
  rw [e1,if_pos rfl,hout en z hz,if_neg (by simp [cr])]
  rfl
 ·have:=hpot n mn
  unfold DC.cost DC.bm
  dsimp only
  rw [he,hb,if_pos (by decide),if_neg (by decide)]
  dsimp only
  omega
theorem Qg {M P q:Nat} (ok:cx D) (he:D.e=0) (hb:D.back=none) (h:cF D.ended D.c D.s D.u=(some (.az M P q),s',u')):
  Rel D {D with s:=s',u:=u',M:=M,P:=P,sum:=q,came:= []}∧cx {D with s:=s',u:=u',M:=M,P:=P,sum:=q,came:= []}:=by
 have ha:=fG (ended:=D.ended) _ D.s D.u rfl ok.ul ok.al
 rw [h] at ha
 obtain ⟨a1,a2,a3,a4⟩:=ha
 have inv:=fun n mn hn=>eY (ended:=D.ended) (c:=D.c) (n:=n) (mn:=mn) _ D.s D.u rfl ok.ps (ok.jn hb) hn ok.bd
 rw [h] at inv
 obtain ⟨i1,⟨e1,rfl,e3,e4,e5,e6,e7,e8⟩,_⟩:=inv (PS.n D.s) 0 (fun _=>rfl)
 have hmo:=ok.modeE he e1
 refine ⟨⟨rfl,rfl,rfl,rfl,fun en z hz=> ?_,fun en z hz=> ?_,fun g=>⟨rfl,rfl⟩,fun n mn hf=> ?_⟩,⟨ok.cb,a2,a1,i1,fun _=>⟨rfl,rfl,e4⟩,fun er g=>(by obtain ⟨q,g⟩:=g;cases g),fun _=>⟨e3,e4,e6,e7,e8⟩,fun x hx=>(by cases hx),ok.allb,fun g=>(by cases g),fun _ _=>hmo,fun g=>ok.modeN g,fun q g=>(by dsimp only at g;rw [hb] at g;cases g)⟩⟩
 ·unfold DC.out DC.rest
  dsimp only
  rw [gm ok h hz,he,if_neg (by decide),if_neg (by decide),dec,gL hb]
  unfold DC.left
  dsimp only
  rw [hb]
  rfl
 ·unfold DC.size
  dsimp only
  rw [e1,if_neg (show¬cr _=true by simp [cr]),if_neg (by simp)]
  rfl
 ·have:=(inv n mn fun _=>((hf hmo).1).symm).2.2
  rw [if_neg (by simp)] at this
  unfold DC.cost DC.bm
  dsimp only
  rw [he,hb,if_neg (by decide),if_neg (by decide)]
  dsimp only
  omega
theorem LD {t:List Nat} (ok:cx D) (he:D.e=0) (hb:D.back=none) (h:cF D.ended D.c D.s D.u=(some (.bytes t),s',u')):
  Rel D {D with s:=s',u:=u',came:=D.came++t}∧cx {D with s:=s',u:=u',came:=D.came++t}∧(∀x∈t,x<256)∧D.came.length+t.length≤PS.n D.s∧cr D.s=false:=by
 have ha:=fG (ended:=D.ended) _ D.s D.u rfl ok.ul ok.al
 rw [h] at ha
 obtain ⟨a1,a2,a3,a4⟩:=ha
 have inv:=fun n mn hn=>eY (ended:=D.ended) (c:=D.c) (n:=n) (mn:=mn) _ D.s D.u rfl ok.ps (ok.jn hb) hn ok.bd
 rw [h] at inv
 obtain ⟨i1,⟨e1,e2,e3,e4,e5,e6,e7,e8,e9⟩,_⟩:=inv (PS.n D.s) 0 (fun _=>rfl)
 have hmo:=ok.modeE he e1
 have e1':cr s'=false:=by cases s'<;>first|rfl|cases e3
 refine ⟨⟨rfl,rfl,rfl,rfl,fun en z hz=> ?_,fun en z hz=> ?_,fun g=>⟨rfl,e4⟩,fun n mn hf=> ?_⟩,⟨ok.cb,a2,a1,i1,fun _=>e5,fun er g=>(by obtain ⟨q,rfl⟩:=g;cases e3),fun _=>(by dsimp only;rw [e4];exact ok.az e2),fun x hx=>(List.mem_append.1 hx).elim (ok.cameb x) (e7 x),ok.allb,fun g=>(by dsimp only at g;rw [e1'] at g;cases g),fun _ _=>hmo,fun g=>(by dsimp only;rw [e4];exact ok.modeN g),fun q g=>(by dsimp only at g;rw [hb] at g;cases g)⟩,e7,by omega,e1⟩
 ·unfold DC.out DC.rest
  dsimp only
  rw [gm ok h hz,he,if_neg (by decide),if_neg (by decide),dec,gL hb]
  unfold DC.left
  dsimp only
  rw [hb]
  rfl
 ·unfold DC.size
  dsimp only
  rw [e1,e1',if_neg (by simp),if_neg (by simp)]
  exact e4
 ·have:=(inv n mn fun _=>by rw [(hf hmo).1];exact e4.symm).2.2
  rw [if_neg (by simp)] at this
  unfold DC.cost DC.bm
  dsimp only
  rw [he,hb,if_neg (by decide),if_neg (by decide)]
  dsimp only
  omega
theorem N9 (ok:cx D) (hb:D.back=none) (h:cF D.ended D.c D.s D.u=(some .bend,s',u')):D.came.length=D.M∧1≤D.M∧D.M≤PS.n D.s∧1≤D.P∧D.P≤D.M∧D.sum<4294967296∧cr D.s=false:=by
 have inv:=eY (ended:=D.ended) (c:=D.c) (n:=PS.n D.s) (mn:=0) _ D.s D.u rfl ok.ps (ok.jn hb) (fun _=>rfl) ok.bd
 rw [h] at inv
 obtain ⟨i1,⟨e1,e2,e3,rfl⟩,_⟩:=inv
 obtain ⟨b1,b2,b3,b4,b5⟩:=ok.az e2
 exact ⟨e3,b1,b2,b3,b4,b5,e1⟩
theorem z6 {last:List Nat} {P:Nat} (hb: ∀x∈last,x<256): ∀x∈bY last P,x<256:=fun x hx=>by
 unfold bY at hx
 rw [List.mem_reverse] at hx
 obtain ⟨k,_,rfl⟩:=List.mem_map.1 hx
 rw [List.getD_eq_getElem?_getD]
 cases hg:last[bx P (wk last P k)]? with
 |none=>simp
 |some y=>simpa using hb y (List.mem_of_getElem? hg)
theorem M7 {x:List Nat} {st:Nat} (ok:cx D) (he:D.e=0) (hb:D.back=none) (h:cF D.ended D.c D.s D.u=(some .bend,s',u')) (ht:cO D.P D.sum D.came= .ok x) (hst:st≤2*D.M*min (PS.n D.s) (cn D.mode)):
  Rel D {D with s:=s',u:=u',back:=some (0,st)}∧cx {D with s:=s',u:=u',back:=some (0,st)}:=by
 have ha:=fG (ended:=D.ended) _ D.s D.u rfl ok.ul ok.al
 rw [h] at ha
 obtain ⟨a1,a2,a3,a4⟩:=ha
 have inv:=fun n mn hn=>eY (ended:=D.ended) (c:=D.c) (n:=n) (mn:=mn) _ D.s D.u rfl ok.ps (ok.jn hb) hn ok.bd
 rw [h] at inv
 obtain ⟨i1,⟨e1,e2,e3,rfl⟩,_⟩:=inv (PS.n D.s) 0 (fun _=>rfl)
 obtain ⟨b1,b2,b3,b4,b5⟩:=ok.az e2
 have hmo:=ok.modeE he e1
 have hok:okB D.came D.P∧(bY D.came D.P).reverse=x:=by
  unfold cO at ht
  split at ht
  ·rename_i g
   split at ht
   ·injection ht with ht;exact ⟨g,ht⟩
   ·cases ht
  ·cases ht
 refine ⟨⟨rfl,rfl,rfl,rfl,fun en z hz=> ?_,fun en z hz=> ?_,fun g=>⟨rfl,rfl⟩,fun n mn hf=> ?_⟩,⟨ok.cb,a2,a1,i1,fun g=>(by cases g),fun er g=>(by obtain ⟨q,g⟩:=g;cases g),fun g=>(by cases g),ok.cameb,ok.allb,fun g=>(by cases g),fun _ _=>hmo,fun g=>ok.modeN g,fun q g=>(by cases g;exact ⟨he,by dsimp only;omega,e3,hok.1,b3,b4,b2,rfl⟩)⟩⟩
 ·unfold DC.out DC.rest DC.left
  dsimp only
  rw [gm ok h hz,he,hb,if_neg (by decide),if_neg (by decide),dec,ht]
  dsimp only
  rw [hok.2,List.drop_zero,List.append_nil]
  rfl
 ·unfold DC.size
  dsimp only
  rw [e1,if_neg (show¬cr _=true by simp [cr]),if_neg (by simp)]
  rfl
 ·have hf2:n=PS.n D.s∧mn=min n (cn D.mode):=hf hmo
  have:=(inv n mn fun _=>hf2.1.symm).2.2
  rw [if_pos rfl] at this
  unfold DC.cost DC.bm
  dsimp only
  rw [he,hb,if_neg (by decide),if_neg (by decide)]
  dsimp only
  have h2:st≤2*n*mn:=by
   refine Nat.le_trans hst ?_
   rw [hf2.2,hf2.1]
   exact Nat.mul_le_mul_right _ (by omega)
  rw [Nat.add_mul,Nat.one_mul] at this
  omega
theorem HN {st e:Nat} (ok:cx D) (he:D.e=0) (hb:D.back=none) (h:cF D.ended D.c D.s D.u=(some .bend,s',u')) (ht:cO D.P D.sum D.came= .error e) (hst:st≤2*D.M*min (PS.n D.s) (cn D.mode)):
  Rel D {D with s:=s',u:=u',steps:=D.steps+st,e:=e}∧cx {D with s:=s',u:=u',steps:=D.steps+st,e:=e}:=by
 have ha:=fG (ended:=D.ended) _ D.s D.u rfl ok.ul ok.al
 rw [h] at ha
 obtain ⟨a1,a2,a3,a4⟩:=ha
 have inv:=fun n mn hn=>eY (ended:=D.ended) (c:=D.c) (n:=n) (mn:=mn) _ D.s D.u rfl ok.ps (ok.jn hb) hn ok.bd
 rw [h] at inv
 obtain ⟨i1,⟨e1,e2,e3,rfl⟩,_⟩:=inv (PS.n D.s) 0 (fun _=>rfl)
 obtain ⟨b1,b2,b3,b4,b5⟩:=ok.az e2
 have hmo:=ok.modeE he e1
 have h0:=zh ht
 refine ⟨⟨rfl,rfl,rfl,rfl,fun en z hz=> ?_,fun en z hz=> ?_,fun g=>⟨rfl,rfl⟩,fun n mn hf=> ?_⟩,⟨ok.cb,a2,a1,i1,fun _=>trivial,fun er g=>(by obtain ⟨q,g⟩:=g;cases g),fun g=>(by cases g),ok.cameb,ok.allb,fun g=>(by cases g),fun g=>absurd g h0,fun g=>ok.modeN g,fun q g=>(by dsimp only at g;rw [hb] at g;cases g)⟩⟩
 ·unfold DC.out DC.rest
  dsimp only
  rw [gm ok h hz,he,if_pos h0,if_neg (by decide),dec,ht,gL hb]
  rfl
 ·unfold DC.size
  dsimp only
  rw [e1,if_neg (show¬cr _=true by simp [cr]),if_neg (by simp)]
  rfl
 ·have hf2:n=PS.n D.s∧mn=min n (cn D.mode):=hf hmo
  have:=(inv n mn fun _=>hf2.1.symm).2.2
  rw [if_pos rfl] at this
  unfold DC.cost DC.bm
  dsimp only
  rw [he,hb,if_pos h0,if_neg (by decide)]
  dsimp only
  have h2:st≤2*n*mn:=by
   refine Nat.le_trans hst ?_
   rw [hf2.2,hf2.1]
   exact Nat.mul_le_mul_right _ (by omega)
  rw [Nat.add_mul,Nat.one_mul] at this
  omega
theorem NO {q:Nat} (ok:cx D) (he:D.e=0) (hb:D.back=none) (h:cF D.ended D.c D.s D.u=(some (.tail q),s',u')):
  Rel D {D with s:=s',u:=u',e:=if q=cH D.all then 0 else 260}∧cx {D with s:=s',u:=u',e:=if q=cH D.all then 0 else 260}:=by
 have ha:=fG (ended:=D.ended) _ D.s D.u rfl ok.ul ok.al
 rw [h] at ha
 obtain ⟨a1,a2,a3,a4⟩:=ha
 have inv:=fun n mn hn=>eY (ended:=D.ended) (c:=D.c) (n:=n) (mn:=mn) _ D.s D.u rfl ok.ps (ok.jn hb) hn ok.bd
 rw [h] at inv
 obtain ⟨i1,⟨e1,rfl⟩,_⟩:=inv (PS.n D.s) 0 (fun _=>rfl)
 have hmo:=ok.modeE he e1
 refine ⟨⟨rfl,rfl,rfl,rfl,fun en z hz=> ?_,fun en z hz=> ?_,fun g=>⟨rfl,rfl⟩,fun n mn hf=> ?_⟩,⟨ok.cb,a2,a1,i1,fun _=>trivial,fun er g=>(by obtain ⟨q,g⟩:=g;cases g),fun g=>(by cases g),ok.cameb,ok.allb,fun g=>(by cases g),fun _ _=>hmo,fun g=>ok.modeN g,fun q g=>(by dsimp only at g;rw [hb] at g;cases g)⟩⟩
 ·unfold DC.out DC.rest
  dsimp only
  rw [gm ok h hz,he,if_neg (show¬(0:Nat)≠0 by decide),dec,gL hb,List.append_nil]
  by_cases hq:q=cH D.all
  ·rw [if_pos hq,if_pos hq,if_neg (by decide)]
   unfold DC.left
   dsimp only
   rw [hb,List.append_nil]
   rfl
  ·rw [if_neg hq,if_neg hq,if_pos (by decide)]
   rfl
 ·unfold DC.size
  dsimp only
  rw [e1,if_neg (show¬cr _=true by simp [cr]),if_neg (by simp)]
  rfl
 ·have:=(inv n mn fun _=>((hf hmo).1).symm).2.2
  rw [if_neg (by simp)] at this
  unfold DC.cost DC.bm
  dsimp only
  rw [he,hb,if_neg (show¬(0:Nat)≠0 by decide)]
  dsimp only
  have h0:Dcd.bm n mn (.behind (PS.n D.s))=0:=rfl
  rw [h0] at this
  by_cases hq:q=cH D.all
  ·rw [if_pos hq,if_neg (by decide),h0];omega
  ·rw [if_neg hq,if_pos (by decide)];omega
theorem Qx {er:Nat} (ok:cx D) (he:D.e=0) (hb:D.back=none) (h:cF D.ended D.c D.s D.u=(some (.bad er),s',u')):
  Rel D {D with s:=s',u:=u',e:=er}∧cx {D with s:=s',u:=u',e:=er}∧er≠0:=by
 have ha:=fG (ended:=D.ended) _ D.s D.u rfl ok.ul ok.al
 rw [h] at ha
 obtain ⟨a1,a2,a3,a4⟩:=ha
 have inv:=fun n mn hn=>eY (ended:=D.ended) (c:=D.c) (n:=n) (mn:=mn) _ D.s D.u rfl ok.ps (ok.jn hb) hn ok.bd
 rw [h] at inv
 obtain ⟨i1,⟨h0,rfl⟩,_⟩:=inv (PS.n D.s) 0 (fun _=>rfl)
 refine ⟨⟨rfl,rfl,rfl,rfl,fun en z hz=> ?_,fun en z hz=> ?_,fun g=>⟨rfl,rfl⟩,fun n mn hf=> ?_⟩,⟨ok.cb,a2,a1,i1,fun _=>trivial,fun e g=>(by obtain ⟨q,g⟩:=g;cases g;exact h0),fun g=>(by cases g),ok.cameb,ok.allb,fun g=>(by cases g),fun g=>absurd g h0,fun g=>ok.modeN g,fun q g=>(by dsimp only at g;rw [hb] at g;cases g)⟩,h0⟩
 ·unfold DC.out DC.rest
  dsimp only
  rw [gm ok h hz,he,if_pos h0,if_neg (by decide),dec,gL hb]
  rfl
 ·unfold DC.size
  dsimp only
  rw [if_neg (by simp [cr]),gm ok h hz]
  split
  ·rename_i hh
   cases hs:D.s with
   |head q=>rfl
   |_=>rw [hs] at hh;cases hh
  ·rfl
 ·have hn:cr D.s=false→PS.n D.s=n:=fun g=>((hf (ok.modeE he g)).1).symm
  have:=(inv n mn hn).2.2
  rw [if_neg (by simp)] at this
  have h0':Dcd.bm n mn (.bad (PS.n D.s) er)=0:=rfl
  rw [h0'] at this
  unfold DC.cost DC.bm
  dsimp only
  rw [he,hb,if_pos h0,if_neg (show¬(0:Nat)≠0 by decide)]
  dsimp only
  omega
theorem Qn (ok:cx D) (he:D.e=0) (hb:D.back=none) (h:cF D.ended D.c D.s D.u=(some .fin,s',u')):
  Rel D {D with s:=s',u:=u'}∧cx {D with s:=s',u:=u'}∧∀en z,qi D en z→D.out en z=([],3,0):=by
 have ha:=fG (ended:=D.ended) _ D.s D.u rfl ok.ul ok.al
 rw [h] at ha
 obtain ⟨a1,a2,a3,a4⟩:=ha
 have inv:=fun n mn hn=>eY (ended:=D.ended) (c:=D.c) (n:=n) (mn:=mn) _ D.s D.u rfl ok.ps (ok.jn hb) hn ok.bd
 rw [h] at inv
 obtain ⟨i1,⟨e1,rfl⟩,_⟩:=inv (PS.n D.s) 0 (fun _=>rfl)
 have hmo:=ok.modeE he e1
 have ho: ∀en z,qi D en z→D.out en z=([],3,0):=fun en z hz=>by
  unfold DC.out DC.rest
  rw [gm ok h hz,he,if_neg (by decide),dec,gL hb]
  rfl
 refine ⟨⟨rfl,rfl,rfl,rfl,fun en z hz=> ?_,fun en z hz=> ?_,fun g=>⟨rfl,rfl⟩,fun n mn hf=> ?_⟩,⟨ok.cb,a2,a1,i1,fun _=>trivial,fun er g=>(by obtain ⟨q,g⟩:=g;cases g),fun g=>(by cases g),ok.cameb,ok.allb,fun g=>(by cases g),fun _ _=>hmo,fun g=>ok.modeN g,fun q g=>(by dsimp only at g;rw [hb] at g;cases g)⟩,ho⟩
 ·rw [ho en z hz]
  unfold DC.out DC.rest
  dsimp only
  rw [he,if_neg (by decide),fa (ended:=en) (c:=D.c++z) (s:= .aq (PS.n D.s)) (u:=u') (e:= .fin) (s':= .aq (PS.n D.s)) (u':=u') rfl rfl]
  unfold DC.left
  dsimp only
  rw [hb,dec]
  rfl
 ·unfold DC.size
  dsimp only
  rw [e1,if_neg (show¬cr _=true by simp [cr]),if_neg (by simp)]
  rfl
 ·have:=(inv n mn fun _=>((hf hmo).1).symm).2.2
  rw [if_neg (by simp)] at this
  unfold DC.cost DC.bm
  dsimp only
  rw [he,hb,if_neg (by decide),if_neg (by decide)]
  dsimp only
  omega
def DC.tell (D:DC) (x k st:Nat):DC:=if k+1=D.M then {D with back:=none,steps:=D.steps+st,all:=D.all++ [x]} else {D with back:=some (k+1,st),all:=D.all++ [x]}
theorem JY {x k st st':Nat} (ok:cx D) (hb:D.back=some (k,st)) (hx:(bY D.came D.P).reverse[k]? =some x):D.left=x::(D.tell x k st').left:=by
 obtain ⟨g1,g2,g3,g4,_⟩:=ok.bk _ hb
 have hl:(bY D.came D.P).reverse.length=D.M:=by rw [List.length_reverse,nE,g3]
 have hk:k<(bY D.came D.P).reverse.length:=by rw [hl];exact g2
 have e:D.left=x::(bY D.came D.P).reverse.drop (k+1):=by
  unfold DC.left
  rw [hb]
  dsimp only
  rw [List.drop_eq_getElem_cons hk]
  rw [List.getElem?_eq_getElem hk] at hx
  injection hx with hx
  rw [hx]
 rw [e]
 unfold DC.tell
 split
 ·rename_i h
  rw [List.drop_of_length_le (by omega)]
  rfl
 ·rfl
theorem P6 {x k st st':Nat} (ok:cx D) (hb:D.back=some (k,st)) (hx:x<256):cx (D.tell x k st'):=by
 obtain ⟨g1,g2,g3,g4,g5,g6,g7,g8⟩:=ok.bk _ hb
 have hall: ∀y∈D.all++ [x],y<256:=fun y hy=>(List.mem_append.1 hy).elim (ok.allb y) fun h=>by rw [List.mem_singleton] at h;omega
 have hj:Jn D.M D.came D.s:=by rw [g8];trivial
 unfold DC.tell
 split
 ·exact ⟨ok.cb,ok.al,ok.ul,ok.ps,fun _=>hj,ok.bd,ok.az,ok.cameb,hall,ok.mode0,ok.modeE,ok.modeN,fun q h=>(by cases h)⟩
 ·exact ⟨ok.cb,ok.al,ok.ul,ok.ps,fun h=>(by cases h),ok.bd,ok.az,ok.cameb,hall,ok.mode0,ok.modeE,ok.modeN,fun q h=>(by cases h;exact ⟨g1,by dsimp only at g2⊢;omega,g3,g4,g5,g6,g7,g8⟩)⟩
theorem E2 {x k st st':Nat} (ok:cx D) (hb:D.back=some (k,st)) (hx:(bY D.came D.P).reverse[k]? =some x) (en:Bool) (z:List Nat):D.out en z=(x::((D.tell x k st').out en z).1,((D.tell x k st').out en z).2)∧(D.tell x k st').size en z=D.size en z:=by
 have hl:=JY (st':=st') ok hb hx
 have g1:=(ok.bk _ hb).1
 have ha:(D.tell x k st').all++(D.tell x k st').left=D.all++D.left:=by
  rw [hl]
  have:(D.tell x k st').all=D.all++ [x]:=by unfold DC.tell;split<;>rfl
  rw [this];simp
 have hr:(D.tell x k st').rest en z=D.rest en z:=by
  unfold DC.rest
  rw [ha]
  unfold DC.tell
  split<;>rfl
 refine ⟨?_,?_⟩
 ·unfold DC.out
  rw [hr,hl]
  have:(D.tell x k st').e=D.e:=by unfold DC.tell;split<;>rfl
  rw [this,g1,if_neg (by decide),if_neg (by decide)]
  rfl
 ·unfold DC.size DC.tell
  split<;>rfl
theorem NI {n mn:Nat} (ok:cx D) (hf:D.fits n mn):D.bm n mn≤8300+15*(n+1)+(2*n+1)*mn:=by
 unfold DC.bm
 split
 ·omega
 ·rename_i he
  have he:D.e=0:=by omega
  cases hb:D.back with
  |some k=>
   dsimp only
   have:mn≤(2*n+1)*mn:=Nat.le_mul_of_pos_left _ (by omega)
   omega
  |none=>
   dsimp only
   refine SX ok.ps (fun g=>((hf (ok.modeE he g)).1).symm) fun k l a m d hs=> ?_
   have hj:=ok.jn hb
   have hm:=ok.modeE he (by rw [hs];rfl)
   rw [hs] at hj
   have hn:=(hf hm).1
   rw [hs] at hn
   obtain ⟨j1,j2⟩:=hj
   have:PS.n (.sym k l a m d)=k:=rfl
   omega
end
end Go.Dcd
namespace Go.Vc
open Go
theorem zP (x:Int):i64 x=if x % 18446744073709551616≥9223372036854775808 then x % 18446744073709551616 - 18446744073709551616 else x % 18446744073709551616:=by
 show IntKind.wrap .i64 x=_
 unfold IntKind.wrap
 have e1:(2^IntKind.bits .i64:Int)=18446744073709551616:=by decide
 have e2:(2^(IntKind.bits .i64 - 1):Int)=9223372036854775808:=by decide
 rw [e1,e2]
 by_cases hc:x % 18446744073709551616≥9223372036854775808
 ·rw [if_pos hc];exact if_pos (by rw [decide_eq_true hc];rfl)
 ·rw [if_neg hc];exact if_neg (by rw [decide_eq_false hc];decide)
theorem pS (a b:Int):i64 (i64 a+b)=i64 (a+b):=by
 rw [zP a,zP,zP (a+b)]
 split<;>split<;>split<;>omega
theorem iK.Ue {K:Bool→Prop} (h:K true):iK .nilIface K:=h
theorem iK.Um {te:TypeId} {p:Value} {K:Bool→Prop} (h:K false):iK (.iface te p) K:=h
end Go.Vc
namespace Go.Pol
def qE (n mode:Nat):Nat:=if mode=3 then 4*(n+1) else if mode=2 then 1024*(n/1024) else 1024*(n/8192)
def dk (n mode:Nat):List (Nat×Nat):=if mode=0 then [] else [(0,n),(n,qE n mode)]
theorem sZ (n mode:Nat):layout n 2 mode= [n,qE n mode]:=by
 unfold layout qE
 rw [if_neg (by decide)]
 by_cases h3:mode=3
 ·rw [if_pos h3,if_pos h3]
 ·rw [if_neg h3,if_neg h3]
  by_cases h2:mode=2
  ·rw [if_pos h2,if_pos h2]
  ·rw [if_neg h2,if_neg h2]
theorem HH {n mode:Nat} (h:mode≠0):eP 0 (layout n 2 mode)=dk n mode:=by
 rw [sZ]
 unfold dk
 rw [if_neg h]
 simp [eP]
theorem Cz (n mode:Nat):cg n 2 mode=n+qE n mode:=by
 unfold cg
 rw [sZ]
 simp
end Go.Pol
namespace Go.Proofs.YtgglghjnakclmaaGreat
open Go Go.Vc Go.Srt Go.Inc Go.Hd Go.aE Go.af Go.Crc Go.Pol Go.Stm Go.Prs Go.Dcd Go.Bw
structure DX where
 pr:Nat
 pp:Nat
 A:AS
 f:Nat→Nat
 sp:Sl
 wb:Nat
def eW (D:DC) (X:DX):WS:=⟨D.mode==3,X.wb,D.M,PS.n D.s,qE (PS.n D.s) D.mode,D.P,cn D.mode⟩
def gK (D:DC) (X:DX):Value:=match D.back with
 |none=> .nilIface
 |some _=>iW (eW D X)
def mi (D:DC) (X:DX):HP:=match D.back with
 |none=>Sat []
 |some k=>WB (eW D X) X.A D.came (wk D.came D.P k.1) k.1 k.2
abbrev cG (b:Nat) (D:DC) (X:DX) (v:Value):HP:=af b (.cells ⟨[.int .i64 (D.budget:Int),.int .u8 (D.mode:Int),pA X.A,.pointer (some ⟨X.pr,0,none⟩),.pointer (some ⟨X.pp,0,none⟩),.slice X.sp.base X.sp.len X.sp.cap,.int .i64 (D.M:Int),.int .i64 (D.P:Int),.int .u32 (D.sum:Int),.int .i64 (D.came.length:Int),v,.int .i64 (i64 (D.steps:Int)),.int .i64 (i64 (D.all.length:Int)),.int .u32 (cH D.all:Int),.int .i64 (D.e:Int)]⟩ 156 (0,0))
abbrev dv (D:DC) (X:DX):HP:=av 2 X.sp ((dk (PS.n D.s) D.mode).flatMap fu)
structure kz (D:DC) (X:DX):Prop where
 bud:D.budget≤1000000
 bud1:1≤D.budget
 m0:D.mode=0→X.A.live=0∧X.A.peak=0∧X.A.N=D.budget∧(X.f=fun _=>0)∧D.came= []
 m1:D.mode≠0→X.A.live=cg (PS.n D.s) 2 D.mode∧X.A.peak=X.A.live∧eL X.f 0 D.came.length=D.came
 bk: ∀k,D.back=some k→wJ (eW D X) X.A X.f D.came∧k.2≤(2*D.M+k.1)*min D.M (cn D.mode)
abbrev DL (b:Nat) (D:DC) (X:DX) (v:Value):List HP:= [cG b D X v,aZ X.pp D.s,Rd ⟨X.pr,0,none⟩ D.c D.u D.ended,Ar X.A X.f,dv D X,mi D X]
def cJ (b:Nat) (D:DC):HP:=OR (fun X:DX=>kz D X) fun X=>DL b D X (gK D X)
abbrev pD (b:Nat):Value:= .pointer (some ⟨b,0,none⟩)
def DC.new (budget:Nat):DC:=⟨budget,0,[],false,.head ⟨0,0⟩,0,0,0,0,[],none,0,[],0⟩
theorem DC.Kc (budget:Nat):cx (DC.new budget) where
 cb:=fun x hx=>by cases hx
 al:=rfl
 ul:=Nat.zero_le _
 ps:=⟨by decide,fun _=>rfl,by decide⟩
 jn:=fun _=>trivial
 bd:=fun er h=>by obtain ⟨k,h⟩:=h;cases h
 az:=fun h=>by cases h
 cameb:=fun x hx=>by cases hx
 allb:=fun x hx=>by cases hx
 mode0:=fun _=>rfl
 modeE:=fun _ h=>by cases h
 modeN:=fun h=>absurd rfl h
 bk:=fun k h=>by cases h
section
variable {E w:World} {F:List HP} {b:Nat} {D:DC} {X:DX}
theorem xG (h:Hp E w (cJ b D::F)): ∃X,kz D X∧Hp E w (cG b D X (gK D X)::aZ X.pp D.s::Rd ⟨X.pr,0,none⟩ D.c D.u D.ended::Ar X.A X.f::dv D X::mi D X::F):=by
 obtain ⟨X,hx,h⟩:=h.ex
 exact ⟨X,hx,h⟩
theorem cJ.shut (X:DX) (ok:kz D X) (h:Hp E w (cG b D X (gK D X)::aZ X.pp D.s::Rd ⟨X.pr,0,none⟩ D.c D.u D.ended::Ar X.A X.f::dv D X::mi D X::F)):Hp E w (cJ b D::F):=Hp.Sz X ok h
theorem pI (h:D.back=none):gK D X= .nilIface:=by unfold gK;rw [h]
theorem CC {n:Nat} {K:Option Addr→Int→World→Prop} (h:Hp E w F) (hn:1≤n) (hn2:n≤1000000) (hK: ∀b w',Hp E w' (cJ b (DC.new n)::F)→K (some ⟨b,0,none⟩) 0 w'):
  Cl Tryz.prog [kP,kI] eI ⟨[.int .i64 (n:Int)]⟩ w K:=by
 refine wL.ok _ _ _ (Pb h hn hn2 fun a m w h=>aa.nf rfl ?_)
 refine PD h fun p w h=> ?_
 obtain ⟨pr,_,_,rfl,_⟩:=Rd.dw h
 refine Sx h fun pp w h=>Nw.mk h fun b w h=>hK b w ?_
 refine cJ.shut (D:=DC.new n) ⟨pr,pp,⟨a,m,n,0,0⟩,fun _=>0,⟨none,0,0⟩,0⟩ ⟨hn2,hn,fun _=>⟨rfl,rfl,rfl,rfl,rfl⟩,fun hm=>absurd rfl hm,fun k hk=>by cases hk⟩ ?_
 have hc:((cH []:Nat):Int)=0:=by rw [show cH []=0 by decide];rfl
 have hi:i64 ((0:Nat):Int)=0:=ab (by omega)
 have hD:cG b (DC.new n) ⟨pr,pp,⟨a,m,n,0,0⟩,fun _=>0,⟨none,0,0⟩,0⟩ .nilIface=af b (.cells ⟨[.int .i64 (n:Int),.int .u8 0,.pointer (some ⟨a,0,none⟩),.pointer (some ⟨pr,0,none⟩),.pointer (some ⟨pp,0,none⟩),.slice none 0 0,.int .i64 0,.int .i64 0,.int .u32 0,.int .i64 0,.nilIface,.int .i64 0,.int .i64 0,.int .u32 0,.int .i64 0]⟩ 156 (0,0)):=by
  show af b (.cells ⟨[.int .i64 (n:Int),.int .u8 0,.pointer (some ⟨a,0,none⟩),.pointer (some ⟨pr,0,none⟩),.pointer (some ⟨pp,0,none⟩),.slice none 0 0,.int .i64 0,.int .i64 0,.int .u32 0,.int .i64 0,.nilIface,.int .i64 (i64 ((0:Nat):Int)),.int .i64 (i64 ((0:Nat):Int)),.int .u32 ((cH []:Nat):Int),.int .i64 0]⟩ 156 (0,0))=_
  rw [hi,hc]
 rw [pI (D:=DC.new n) rfl,hD]
 have e1:Hp E w (Sat []::_):=h.emp rfl
 have e2:=e1.aU 2
 have h9:=(((e2.at 5).at 5).at 5).at 5
 exact h9
theorem Sj {n:Int} {K:Option Addr→Int→World→Prop} (hn: ¬(1≤n∧n≤1048576)) (hK:K none 2 w):Cl Tryz.prog [kP,kI] eI ⟨[.int .i64 n]⟩ w K:=
 wL.ok _ _ _ (H5 hn (aa.nt (by decide) hK))
theorem O4 {K:Int→World→Prop} (h:Hp E w (cJ b D::F)) (hK:K (D.mode:Int) w):Cl Tryz.prog [ao .u8] gf ⟨[pD b]⟩ w K:=by
 obtain ⟨X,ok,h⟩:=xG h
 refine sC.ok _ _ _ (aa.f rfl ?_)
 (try simp only [aB,ag,Nat.zero_add])
 exact Ld.xb (b:=b) h rfl hK
theorem Hn {K:Int→World→Prop} (h:Hp E w (cJ b D::F)) (hK:K (i64 (D.all.length:Int)) w):Cl Tryz.prog [kI] ej ⟨[pD b]⟩ w K:=by
 obtain ⟨X,ok,h⟩:=xG h
 refine sx.ok _ _ _ (aa.f rfl ?_)
 (try simp only [aB,ag,Nat.zero_add])
 exact Ld.xb (b:=b) h rfl hK
theorem Aa {K:Int→World→Prop} (h:Hp E w (cJ b D::F)) (hK:K ((if D.mode=0 then 0 else cg (PS.n D.s) 2 D.mode:Nat):Int) w):Cl Tryz.prog [kI] dj ⟨[pD b]⟩ w K:=by
 obtain ⟨X,ok,h⟩:=xG h
 refine sU.ok _ _ _ (aa.f rfl ?_)
 (try simp only [aB,ag,Nat.zero_add])
 refine Ld.xb (b:=b) h rfl (Nh (h.at 3) fun _=> ?_)
 by_cases hm:D.mode=0
 ·rw [if_pos hm] at hK
  rw [(ok.m0 hm).2.1];exact hK
 ·rw [if_neg hm] at hK
  rw [(ok.m1 hm).2.1,(ok.m1 hm).1];exact hK
theorem vF {K:Bool→World→Prop} {s:Sl} {cs:List Sl} {bs:List (List Nat)} (h:Hp E w (cJ b D::F)) (hs:ad F (aH 1 s (cs.map fun x=> .slice x.base x.len x.cap))) (hl:cs.length=bs.length) (hcl:cs.length≤du) (hc: ∀i (h:i<cs.length),ad F (aH 1 cs[i] ((bs.getD i []).map vB)))
  (hb: ∀b∈bs,∀y∈b,y<256) (hbig:D.c.length+bs.flatten.length≤du)
  (hK: ∀w',Hp E w' (cJ b {D with c:=if D.ended then D.c else D.c++bs.flatten}::F)→K (!D.ended) w'):Cl Tryz.prog [kB] bV ⟨[pD b,.slice s.base s.len s.cap]⟩ w K:=by
 obtain ⟨X,ok,h⟩:=xG h
 refine lU.ok _ _ _ _ (aa.t rfl ?_)
 (try simp only [aB,ag,Nat.zero_add])
 refine Ld.xb (b:=b) h rfl ?_
 refine S8 (h.at 2) hs.cons.cons.cons.cons.cons hl hcl (fun i hi=>(hc i hi).cons.cons.cons.cons.cons) hb hbig fun w h=>hK w ?_
 refine cJ.shut X ⟨ok.bud,ok.bud1,ok.m0,ok.m1,ok.bk⟩ ?_
 have h9:=((h.at 2).at 2)
 exact h9
theorem LI {K:Bool→World→Prop} (h:Hp E w (cJ b D::F)) (hK: ∀w',Hp E w' (cJ b {D with ended:=true}::F)→K (!D.ended) w'):Cl Tryz.prog [kB] eE ⟨[pD b]⟩ w K:=by
 obtain ⟨X,ok,h⟩:=xG h
 refine um.ok _ _ _ (aa.t rfl ?_)
 (try simp only [aB,ag,Nat.zero_add])
 refine Ld.xb (b:=b) h rfl ?_
 refine TV (h.at 2) fun w h=>hK w ?_
 refine cJ.shut X ⟨ok.bud,ok.bud1,ok.m0,ok.m1,ok.bk⟩ ?_
 have h9:=((h.at 2).at 2)
 exact h9
theorem sX {K:Int→World→Prop} (h:Hp E w (cJ b D::F)) (hK: ∀w',Hp E w' (cJ b D::F)→K (i64 (D.cost:Int)) w'):Cl Tryz.prog [kI] bR ⟨[pD b]⟩ w K:=by
 obtain ⟨X,ok,h⟩:=xG h
 refine lp.ok _ _ _ (aa.f rfl ?_)
 have h:=h.drew (n:=w.drawn+1)
 refine ⟨br b _ _ (0,0),h.hb,?_⟩
 (try simp only [aB,ag,Nat.zero_add])
 refine aw.xb (fun _ h=>h) rfl (aw.xb (fun _ h=>h) rfl ?_)
 refine SP (h.at 2) ⟨h.hb,?_⟩
 (skip)
 refine Ld.xb (s:= .any) (b:=b) h rfl ?_
 have hs:Hp E _ (cJ b D::F):=cJ.shut X ok h
 cases hb:D.back with
 |none=>
  rw [pI hb]
  refine iK.Ue (aa.f rfl ?_)
  have:=hK _ hs
  unfold DC.cost at this
  rw [hb] at this
  rw [pS]
  simpa using this
 |some k=>
  have hv:gK D X=iW (eW D X):=by unfold gK;rw [hb]
  rw [hv]
  refine iK.Um (aa.t rfl ?_)
  have h':=h
  rw [hv] at h'
  refine Ld.xb (s:= .any) (b:=b) h' rfl ?_
  have hw:mi D X=WB (eW D X) X.A D.came (wk D.came D.P k.1) k.1 k.2:=by unfold mi;rw [hb]
  have h5:=h.at 5
  rw [hw] at h5
  refine xI h5 ?_
  have:=hK _ hs
  unfold DC.cost at this
  rw [hb] at this
  rw [pS,Int.add_assoc,pS]
  simpa [Int.add_assoc] using this
end
end Go.Proofs.YtgglghjnakclmaaGreat
namespace Go.Vc
theorem aQ.A7 {α:Type} {r:α→World→Prop} {k:(α→World→Prop)→Prop} (Q:α→World→Prop) (h1: ∀a w,Q a w→r a w) (h2: ∀r',(∀a w,Q a w→r' a w)→k r'):aQ r k:=h2 r h1
end Go.Vc
namespace Go.Proofs.YtgglghjnakclmaaGreat
open Go Go.Vc Go.Srt Go.Inc Go.Hd Go.aE Go.af Go.Crc Go.Pol Go.Stm Go.Prs Go.Dcd Go.Bw
abbrev K5 (a n M P s:Int) (sl:Sl) (e:Int):Value:= .agg ⟨[.int .u8 a,.int .i64 n,.int .i64 M,.int .i64 P,.int .u32 s,.slice sl.base sl.len sl.cap,.int .i64 e]⟩
section
variable {E w:World} {F G:List HP} {b:Nat} {D:DC} {X:DX}
theorem Mg {M P q:Nat} {sl:Sl} {K:Int→World→Prop} (h:Hp E w (cG b D X .nilIface::G)) (hK: ∀w',Hp E w' (cG b {D with M:=M,P:=P,sum:=q,came:= []} X .nilIface::G)→K 0 w'):
  Cl Tryz.prog [kI] cP ⟨[pD b,K5 3 0 (M:Int) (P:Int) (q:Int) sl 0]⟩ w K:=by
 refine rf.ok _ (3,0,(M:Int),(P:Int),(q:Int),sl,0,()) _ _ ?_
 dsimp only
 refine Nw.mk h fun b1 w h=> ?_
 (try simp only [aB,ag,Nat.zero_add])
 refine Ld.xt (b:=b1) h rfl ?_
 refine ae.xs (b:=b) h rfl rfl fun w h=> ?_
 dsimp only [aP,aq] at h
 refine St.xs (b:=b) h rfl rfl fun w h=>hK w ?_
 dsimp only [aP,aq] at h
 have h9:=h.no 0
 exact h9
theorem PB {q:Nat} {sl:Sl} {K:Int→World→Prop} (h:Hp E w (cG b D X .nilIface::G)) (hK: ∀w',Hp E w' (cG b D X .nilIface::G)→K ((if q=cH D.all then 0 else 260:Nat):Int) w'):
  Cl Tryz.prog [kI] cZ ⟨[pD b,K5 6 0 0 0 (q:Int) sl 0]⟩ w K:=by
 refine rK.ok _ (6,0,0,0,(q:Int),sl,0,()) _ _ ?_
 dsimp only
 refine Nw.mk h fun b1 w h=>aY.mk h fun w h=> ?_
 (try simp only [aB,ag,Nat.zero_add,Nat.reduceAdd])
 refine Ld.xb (b:=b1) (x:=(q:Int)) h rfl (Ld.xb (b:=b) (x:=(cH D.all:Int)) h rfl (aa.nm (fun hne=> ?_) (fun he=> ?_)))
 ·have:=hK w (h.no 0)
  rwa [if_neg (by omega)] at this
 ·have:=hK w (h.no 0)
  rwa [if_pos (by omega)] at this
theorem Mj {n:Nat} {t:List Nat} {sl:Sl} {f:Nat→Nat} {ps:List (Nat×Nat)} {K:Int→World→Prop} (h:Hp E w (cG b D X .nilIface::Ar X.A f::av 2 X.sp (((0,n)::ps).flatMap fu)::G)) (hs:ad G (aH 1 sl (t.map vB))) (ht: ∀x∈t,x<256) (hn:n≤X.A.live) (hn2:n≤65536) (hl:D.came.length+t.length≤n)
  (hK: ∀w',Hp E w' (cG b {D with came:=D.came++t} X .nilIface::Ar X.A (eR f (0+D.came.length) t)::av 2 X.sp (((0,n)::ps).flatMap fu)::G)→K 0 w'):
  Cl Tryz.prog [kI] cX ⟨[pD b,K5 4 0 0 0 0 sl 0]⟩ w K:=by
 have hlen:t.length=sl.len:=by have:=(h.aj hs.cons.cons.cons).1;simpa using this
 refine r7.ok _ (4,0,0,0,0,sl,0,()) _ _ ?_
 dsimp only
 refine Nw.mk h fun b1 w h=>aY.mk h fun w h=> ?_
 (try simp only [aB,ag,Nat.zero_add])
 refine Ld.xb (b:=b) h rfl (Ld.xb (b:=b) (x:=X.sp) h rfl ?_)
 refine RM (i:=0) h (ad.at 3 ad.own) (by simp) ?_
 refine Ld.xb (b:=b) h rfl (Ld.xb (b:=b1) (x:=sl) h rfl ?_)
 refine K1 (A:=X.A) (p:=0) (q:=n) (h.at 2) (by omega) hl hs.cons.cons.cons ht fun w h=> ?_
 refine aY.mk h fun w h=> ?_
 (skip)
 refine Ld.xb (b:=b) (x:=(D.came.length:Int)) h rfl (Ld.xb (b:=b1) (x:=sl) h rfl ?_)
 rw [ab (by omega),show (D.came.length:Int)+(sl.len:Int)=((D.came++t).length:Int) by rw [List.length_append];omega]
 refine St.xs (b:=b) h rfl rfl fun w h=>hK w ?_
 dsimp only [aP,aq] at h
 have h9:=(h.no 1).at 1
 exact h9
theorem NX {k:Nat} {sl:Sl} {K:Int→World→Prop} (ok:kz D X) (hm:D.mode=0) (h:Hp E w (cG b D X .nilIface::Ar X.A X.f::av 2 X.sp []::G)) (hk1:1≤k) (hk2:k≤65536)
  (hgood:bZ D.budget k 2≠0→∀live sp' w',live=cg k 2 (bZ D.budget k 2)→Hp E w' (cG b {D with mode:=bZ D.budget k 2} {X with A:=⟨X.A.a,X.A.m,X.A.N,live,live⟩,sp:=sp'} .nilIface::Ar ⟨X.A.a,X.A.m,X.A.N,live,live⟩ X.f::av 2 sp' ((dk k (bZ D.budget k 2)).flatMap fu)::G)→K 0 w')
  (hbad:bZ D.budget k 2=0→∀w',Hp E w' (cG b D X .nilIface::Ar X.A X.f::av 2 X.sp []::G)→K 230 w'):
  Cl Tryz.prog [kI] cW ⟨[pD b,K5 2 (k:Int) 0 0 0 sl 0]⟩ w K:=by
 have b1':=ok.bud;have b2':=ok.bud1
 obtain ⟨m1,m2,m3,m4,_⟩:=ok.m0 hm
 obtain ⟨pr,pp,⟨a,m,N,live,peak⟩,f,sp0,wb⟩:=X
 dsimp only at m1 m2 m3 m4 h hgood hbad
 subst m1 m2 m3 m4
 refine sn.ok _ (2,(k:Int),0,0,0,sl,0,()) _ _ ?_
 dsimp only
 refine Nw.mk h fun b1 w h=>aY.mk h fun w h=> ?_
 (try simp only [aB,ag,Nat.zero_add,Nat.add_zero])
 refine Ld.xb (b:=b) h rfl (Ld.xb (b:=b1) h rfl ?_)
 refine QP (side:=2) h (.inr rfl) fun w h=> ?_
 have hp:j9 (D.budget:Int) (k:Int) 2=if bZ D.budget k 2=0 then (0,230) else (bZ D.budget k 2,0):=by
  unfold j9
  rw [if_neg (by omega)]
  rfl
 rw [hp]
 by_cases hz:bZ D.budget k 2=0
 ·rw [if_pos hz]
  exact aa.nt (by decide) (hbad hz w (h.no 0))
 ·rw [if_neg hz]
  obtain ⟨p1,p2,p3⟩:=Bo hz
  have hgood:=hgood hz
  refine aa.nf rfl ?_
  have hlz:=HH (n:=k) (mode:=bZ D.budget k 2) hz
  generalize hmode:bZ D.budget k 2=mode at*
  (try simp only [])
  refine St.xs (b:=b) h rfl rfl fun w h=> ?_
  dsimp only [aP,aq] at h
  refine Ld.xb (b:=b1) h rfl ?_
  refine Ov (side:=2) h (fun m' hm' hs s w h=> ?_) (fun hno=>absurd ⟨by omega,.inr rfl,p2,p3,by omega,by omega⟩ hno)
  obtain rfl:k=m':=by omega
  have hlen:=h.bK
  rw [List.length_map,Nat.mul_one,show (ints (layout k 2 mode)).length=(layout k 2 mode).length from List.length_map ..] at hlen
  have hll:(layout k 2 mode).length≤3:=by rw [sZ];exact Nat.le_succ 2
  have hsum:(layout k 2 mode).sum≤D.budget:=p1
  have hneed:(layout k 2 mode).sum=cg k 2 mode:=rfl
  generalize hL:layout k 2 mode=l at h hlen hll hsum hneed hlz
  refine ⟨fun i w=> ∃(j:Nat) (sp:Sl),i=(j:Int)∧j≤l.length∧Hp E w (av 2 sp ((eP 0 (l.take j)).flatMap fu)::av 1 s ((ints l).map vI)::cG b {D with mode:=mode} ⟨pr,pp,⟨a,m,D.budget,(l.take j).sum,(l.take j).sum⟩,fun _=>0,sp,wb⟩ .nilIface::Ar ⟨a,m,D.budget,(l.take j).sum,(l.take j).sum⟩ (fun _=>0)::G),fun i _=>l.length - i.toNat,⟨0,sp0,rfl,by omega,?_⟩,?_⟩
  ·exact (((h.no 1).at 3).at 1|>.at 1)
  rintro i w ⟨j,sp,rfl,hj,h⟩
  refine aa.dm (fun hlt=> ?_) (fun hge=> ?_)
  ·have hlt:j<l.length:=by omega
   have hst:=CD hlt
   have hle2:=ry l (j+1)
   refine ay.rd (h.aj (ad.at 1 ad.own)) (by omega) (by omega) fun q _ hq=> ?_
   refine Ld.sc (s:= .int .i64) (l[j]:Int) (by rw [hq];simp [Sc.enc,vI,ints]) ?_
   (try simp only [])
   refine Ld.xb (b:=b) h rfl ?_
   refine Nr (A:=⟨a,m,D.budget,(l.take j).sum,(l.take j).sum⟩) (h.at 3) (by dsimp only;omega) fun w h=> ?_
   refine Nw.mk h fun b26 w h=> ?_
   (with_reducible refine ae.xw h rfl rfl (fun w h=> ?_))
   have hmax:max (l.take j).sum ((l.take j).sum+l[j])=(l.take j).sum+l[j]:=by omega
   dsimp only at h⊢
   rw [hmax,←hst] at h
   have hsl:=aH.len dN (by decide) ((h.at 2).aj ad.own)
   have hpl:(eP 0 (l.take j)).length≤3:=by
    have: ∀(l:List Nat) (a:Nat),(eP a l).length=l.length:=fun l=>by
     induction l with
     |nil=>intro a;rfl
     |cons x l ih=>intro a;rw [eP,List.length_cons,List.length_cons,ih]
    rw [this,List.length_take];omega
   refine aQ.Uj (fun w=> ∃sp',Hp E w (av 2 sp' ((eP 0 (l.take (j+1))).flatMap fu)::av 1 s ((ints l).map vI)::cG b {D with mode:=mode} ⟨pr,pp,⟨a,m,D.budget,(l.take (j+1)).sum,(l.take (j+1)).sum⟩,fun _=>0,sp',wb⟩ .nilIface::Ar ⟨a,m,D.budget,(l.take (j+1)).sum,(l.take (j+1)).sum⟩ (fun _=>0)::G)) ?_ fun r' hr'=> ?_
   ·rintro w ⟨sp',h⟩
    rw [ab (by omega)]
    exact ⟨⟨j+1,sp',by omega,by omega,h⟩,by first|omega|(dsimp only;omega)⟩
   ·refine aY.mk h fun w h=> ?_
    (skip)
    refine Ld.xt (b:=b26) h rfl ?_
    have e:(eP 0 (l.take j)).flatMap fu++fu ((l.take j).sum,l[j])=(eP 0 (l.take (j+1))).flatMap fu:=by
     rw [List.take_add_one,List.getElem?_eq_getElem hlt,Option.toList_some,wC,List.flatMap_append,Nat.zero_add];simp
    have go: ∀(b':Nat) (w:World),Hp E w (af b' (.cells ⟨[.int .i64 ((l.take j).sum:Int),.int .i64 (l[j]:Int)]⟩ 146 (0,0))::af b26 (.cells ⟨[.int .i64 ((l.take j).sum:Int),.int .i64 (l[j]:Int)]⟩ 146 (0,0))::Ar ⟨a,m,D.budget,(l.take (j+1)).sum,(l.take (j+1)).sum⟩ (fun _=>0)::av 2 sp ((eP 0 (l.take j)).flatMap fu)::av 1 s ((ints l).map vI)::cG b {D with mode:=mode} ⟨pr,pp,⟨a,m,D.budget,(l.take j).sum,(l.take j).sum⟩,fun _=>0,sp,wb⟩ .nilIface::G)→
      ar Tryz.prog (Builtin.append_ #[137,137] 137 ⟨[.slice sp.base sp.len sp.cap,.slice (some ⟨b',0,none⟩) 1 1]⟩) kS w fun s35 w_34=>St ⟨b,5,none⟩ (.slice s35.base s35.len s35.cap) w_34 fun w_36=>r' w_36:=fun b' w h=>by
     refine bf (s:=sp) (ys:=fu ((l.take j).sum,l[j])) (n:=1) (.of (by kernel_rfl) (by kernel_rfl):cE Tryz.prog 137 146 2 16) (by decide) (.inl ⟨146,by kernel_rfl⟩) (h.at 3) (.inl ⟨some ⟨b',0,none⟩,1,1,rfl,rfl,h.aj (ad.az rfl rfl)⟩) rfl (by intro y hy;simp [fu] at hy;rcases hy with rfl|rfl<;>rfl) (by omega) (by omega) fun s' w h _=> ?_
     rw [e] at h
     refine St.xs (b:=b) h rfl rfl fun w h=>hr' w ⟨s',?_⟩
     dsimp only [aP,aq] at h
     have h:=(h.no 1).no 1
     have h9:=(((h.at 1).at 3).at 3).at 3
     exact h9
    exact ⟨Ld.xb (b:=b) (x:=sp) h rfl (Nw.mk h fun b33 w h=>go b33 w h),Nw.mk h fun b38 w h=>Ld.xb (b:=b) (x:=sp) h rfl (go b38 w h)⟩
  ·have hk2:j=l.length:=by omega
   subst hk2
   rw [List.take_of_length_le (Nat.le_refl _)] at h
   refine hgood l.sum sp w hneed ?_
   have h:=(h.no 1)
   rw [hlz] at h
   have h9:=(h.at 2).at 2
   exact h9
structure MZ (D:DC) (X:DX):Prop where
 ok:kz D X
 m1:1≤D.mode
 m3:D.mode≤3
 n2:PS.n D.s≤65536
 cl:D.came.length=D.M
 M1:1≤D.M
 M2:D.M≤PS.n D.s
 P1:1≤D.P
 P2:D.P≤D.M
theorem O8 {mode:Nat} {K:Int→Bool→World→Prop} (h1:1≤mode) (h3:mode≤3) (hK:K ((if mode=3 then 0 else cn mode:Nat):Int) (!(mode==3)) w):Cl Tryz.prog [kI,kB] jO ⟨[.int .u8 (mode:Int)]⟩ w K:=by
 have:mode=1∨mode=2∨mode=3:=by omega
 rcases this with rfl|rfl|rfl
 ·exact lA.ok _ _ _ (aa.t rfl hK)
 ·exact lA.ok _ _ _ (aa.f rfl (aa.t rfl hK))
 ·exact lA.ok _ _ _ (aa.f rfl (aa.f rfl hK))
theorem PY {sp:Sl} {ps:List (Nat×Nat)} {i:Nat} {S:World→Prop} {K:Int→Prop} (h:aH 2 sp (ps.flatMap fu) w) (hS: ∀w',S w'→aH 2 sp (ps.flatMap fu) w') (hi:i<ps.length) (hK:K (ps[i].1:Int)):ay sp (i:Int) 2 fun q=>aw kI (q.add 0) S K:=by
 have:=z7 (S:=S) (K:=fun x=> ∃p,sp.base=some p∧x=((ps[i].1:Int),(ps[i].2:Int),())∧∀w',S w'→w'.cell? ((p.add (i*2)).add 0)=some (.int .i64 (ps[i].1:Int))) h hS hi ?_
 ·obtain ⟨p,hp,h1,h2,h3⟩:=this
  refine ⟨p,hp,h1,h2,?_⟩
  obtain ⟨x,hx,_⟩:=h3
  refine ⟨(ps[i].1:Int),fun w' hw=> ?_,hK⟩
  have hl:=h.1
  rw [dF dN] at hl
  obtain ⟨p',hp',hc⟩:=(hS w' hw).2 (i*2) (by rw [dF dN];omega)
  obtain rfl:p'=p:=Option.some.inj (hp'.symm.trans hp)
  have e:=ns dN ps i 0 hi (by decide)
  rw [Nat.add_zero] at e
  rw [Int.toNat_natCast,show (p'.add (i*2)).add 0=p'.add (i*2) by simp [Addr.add],hc]
  rw [List.getElem?_eq_getElem (by rw [dF dN];omega)] at e
  rw [e]
  rfl
 ·have hl:=h.1
  rw [dF dN] at hl
  obtain ⟨p,hp,_⟩:=h.2 0 (by rw [dF dN];omega)
  refine ⟨p,hp,rfl,fun w' hw=> ?_⟩
  obtain ⟨p',hp',hc⟩:=(hS w' hw).2 (i*2) (by rw [dF dN];omega)
  obtain rfl:p'=p:=Option.some.inj (hp'.symm.trans hp)
  have e:=ns dN ps i 0 hi (by decide)
  rw [Nat.add_zero] at e
  rw [show (p'.add (i*2)).add 0=p'.add (i*2) by simp [Addr.add],hc]
  rw [List.getElem?_eq_getElem (by rw [dF dN];omega)] at e
  rw [e]
  rfl
theorem SI {K:Value→Int→World→Prop} (md:MZ D X) (h:Hp E w (cG b D X .nilIface::Ar X.A X.f::dv D X::G))
  (hK: ∀b' g w',wJ (eW D {X with wb:=b'}) X.A g D.came→Hp E w' (WB (eW D {X with wb:=b'}) X.A D.came 0 0 0::Ar X.A g::cG b D X .nilIface::dv D X::G)→K (iW (eW D {X with wb:=b'})) 0 w'):
  Cl Tryz.prog [kV,kI] fX ⟨[pD b]⟩ w K:=by
 obtain ⟨ok,m1,m3,n2,cl,M1,M2,P1,P2⟩:=md
 obtain ⟨l1,l2,l3⟩:=ok.m1 (by omega)
 rw [Cz] at l1
 rw [cl] at l3
 have hsp:dk (PS.n D.s) D.mode= [(0,PS.n D.s),(PS.n D.s,qE (PS.n D.s) D.mode)]:=by unfold dk;rw [if_neg (by omega)]
 have e0: ∀hh,(dk (PS.n D.s) D.mode)[0]'hh=(0,PS.n D.s):=by rw [hsp];intro _;rfl
 have e1: ∀hh,(dk (PS.n D.s) D.mode)[1]'hh=(PS.n D.s,qE (PS.n D.s) D.mode):=by rw [hsp];intro _;rfl
 have hl2:(dk (PS.n D.s) D.mode).length=2:=by rw [hsp];rfl
 refine s8.ok _ _ _ ?_
 have h:=h.drew (n:=w.drawn+1)
 (try simp only [aB,ag,Nat.zero_add,Nat.add_zero,Nat.reduceAdd])
 refine ⟨fun w=>br b _ _ (0,0) w∧aH 2 X.sp ((dk (PS.n D.s) D.mode).flatMap fu) w,⟨h.hb,h.aj (ad.at 2 ad.own)⟩,aw.xb (x:=X.sp) (fun _ h=>h.1) rfl ?_⟩
 refine PY (i:=0) (h.aj (ad.at 2 ad.own)) (fun _ h=>h.2) (by omega) ?_
 rw [e0]
 refine aw.xb (fun _ h=>h.1) rfl (Nw.mk h fun b1 w h=>⟨⟨h.hb,h.aj (ad.at 3 ad.own)⟩,?_⟩)
 (with_reducible refine ae.xw h rfl rfl (fun w h=> ?_))
 refine ⟨⟨h.hb,h.aj (ad.at 3 ad.own)⟩,?_⟩
 (skip)
 refine Ld.xb (b:=b) (x:=(D.mode:Int)) h rfl (O8 m1 m3 ?_)
 have h:=h.drew (n:=w.drawn+1)
 by_cases hm:D.mode=3
 ·have ht:(D.mode==3)=true:=beq_iff_eq.2 hm
  rw [ht,if_pos hm]
  refine aa.t rfl ?_
  refine ⟨fun w=>br b _ _ (0,0) w∧br b1 _ _ (0,0) w∧aH 2 X.sp ((dk (PS.n D.s) D.mode).flatMap fu) w,⟨h.hb,h.hb,h.aj (ad.at 3 ad.own)⟩,aw.xb (fun _ h=>h.1) rfl (aw.xt (fun _ h=>h.2.1) rfl (aw.xb (fun _ h=>h.1) rfl (aw.xb (x:=X.sp) (fun _ h=>h.1) rfl ?_)))⟩
  refine z7 (i:=1) (h.aj (ad.at 3 ad.own)) (fun _ h=>h.2.2) (by omega) ?_
  rw [e1]
  have hws: ∀b',eW D {X with wb:=b'}=wT b' D.M (PS.n D.s) (qE (PS.n D.s) D.mode) D.P:=fun b'=>by
   unfold eW wT
   rw [ht,hm];rfl
  refine Tg (m:=D.M) (P:=D.P) (p2:=PS.n D.s) (q2:=qE (PS.n D.s) D.mode) (h.at 2) l3 M1 (by omega) P1 P2 M2 (by omega) (by rw [hm];unfold qE;rw [if_pos rfl];omega) fun b' g w hw hfr h=>⟨⟨h.hb,h.hb,h.aj (ad.at 4 ad.own)⟩,?_⟩
  have:=hK b' g w (by rw [hws];exact hw) (by rw [hws];exact (((h.at 1).no 2).at 1))
  unfold iW at this
  rw [hws] at this
  exact this
 ·have ht:(D.mode==3)=false:=beq_eq_false_iff_ne.2 hm
  rw [ht,if_neg hm]
  refine aa.f rfl ?_
  refine ⟨fun w=>br b _ _ (0,0) w∧br b1 _ _ (0,0) w∧aH 2 X.sp ((dk (PS.n D.s) D.mode).flatMap fu) w,⟨h.hb,h.hb,h.aj (ad.at 3 ad.own)⟩,aw.xb (fun _ h=>h.1) rfl (aw.xt (fun _ h=>h.2.1) rfl (aw.xb (fun _ h=>h.1) rfl (aw.xb (x:=X.sp) (fun _ h=>h.1) rfl ?_)))⟩
  refine z7 (i:=1) (h.aj (ad.at 3 ad.own)) (fun _ h=>h.2.2) (by omega) ?_
  rw [e1]
  have hws: ∀b',eW D {X with wb:=b'}=wR b' D.M (PS.n D.s) (qE (PS.n D.s) D.mode) D.P (cn D.mode):=fun b'=>by
   unfold eW wR
   rw [ht]
  have hd:1≤cn D.mode∧cn D.mode≤65536∧D.M/cn D.mode*1024≤qE (PS.n D.s) D.mode:=by
   have:D.mode=1∨D.mode=2:=by omega
   rcases this with e|e<;>rw [e]
   ·have hle:=Nat.div_le_div_right (c:=8192) M2
    refine ⟨by decide,by decide,?_⟩
    show D.M/8192*1024≤1024*(PS.n D.s/8192)
    omega
   ·have hle:=Nat.div_le_div_right (c:=1024) M2
    refine ⟨by decide,by decide,?_⟩
    show D.M/1024*1024≤1024*(PS.n D.s/1024)
    omega
  refine Q1 (m:=D.M) (P:=D.P) (p2:=PS.n D.s) (q2:=qE (PS.n D.s) D.mode) (d:=cn D.mode) (h.at 2) l3 ⟨M1,by omega,hd.1,hd.2.1,by omega,by omega,hd.2.2⟩ P1 P2 fun b' g w hw hfr h=>⟨⟨h.hb,h.hb,h.aj (ad.at 4 ad.own)⟩,?_⟩
  have:=hK b' g w (by rw [hws];exact hw) (by rw [hws];exact (((h.at 1).no 2).at 1))
  unfold iW at this
  rw [hws] at this
  exact this
end
end Go.Proofs.YtgglghjnakclmaaGreat
namespace Go.Proofs.YtgglghjnakclmaaGreat
open Go Go.Vc Go.Srt Go.Inc Go.Hd Go.aE Go.af Go.Crc Go.Pol Go.Stm Go.Prs Go.Dcd Go.Bw
section
variable {E w:World} {F G:List HP} {b:Nat} {D:DC} {X:DX}
theorem Hb {H:List Nat} {x r t:Nat} {t1 t2:TypeId} {K:Int→World→Prop} (h:Hp E w (af t (.cells ⟨[.slice (some ⟨r,0,none⟩) 1 1]⟩ t1 (0,0))::af r (.cells ⟨[.int .u8 (x:Int)]⟩ t2 (0,0))::G)) (hH: ∀y∈H,y<256) (hx:x<256) (hK: ∀w',Hp E w' G→K (cH (H++ [x]):Int) w'):
  Cl Tryz.prog [ao .u32] l7 ⟨[.int .u32 (cH H:Int),.slice (some ⟨t,0,none⟩) 1 1]⟩ w K:=by
 refine Qp (s:=⟨some ⟨t,0,none⟩,1,1⟩) (cs:= [⟨some ⟨r,0,none⟩,1,1⟩]) (bs:= [[x]]) h (lJ hH) (ad.az rfl rfl) rfl (by rw [aX];simp) (fun i hi=>by
  have:i=0:=by simpa using hi
  subst this
  exact (ad.az rfl rfl).cons) (fun b hb=>by rw [List.mem_singleton] at hb;subst hb;intro y hy;rw [List.mem_singleton] at hy;omega) (fun b hb=>by rw [List.mem_singleton] at hb;subst hb;rw [aX];simp) fun w h=> ?_
 rw [List.flatten_cons,List.flatten_nil,List.append_nil,OZ]
 have h9:=hK w ((h.no 0).no 0)
 exact h9
def Sy (W:WS):Nat:=bif W.tab then 7 else 264
theorem WB.told {W:WS} {A:AS} {col:List Nat} {row told st:Nat} (h:Hp E w (WB W A col row told st::F)):ku w ⟨W.b,Sy W,none⟩=told:=by
 unfold ku Sy
 cases ht:W.tab with
 |true=>
  rw [WB.t ht] at h
  have:w.cell? ⟨W.b,7,none⟩=some (.int .i64 (told:Int)):=by rw [h.cell];rfl
  simp only [cond_true,this,Int.toNat_natCast]
 |false=>
  rw [WB.r ht] at h
  have:w.cell? ⟨W.b,264,none⟩=some (.int .i64 (told:Int)):=by
   rw [h.cell,←Array.getElem?_toList]
   show (tf col++ [.int .i64 (row:Int),.int .i64 (told:Int),.int .i64 (st:Int)])[257]? =_
   rw [List.getElem?_append_right (by rw [jd];omega),jd]
   rfl
  simp only [cond_false,this,Int.toNat_natCast]
theorem Aw {W:WS} {A:AS} {v:Value} {row told st:Nat} {col:List Nat} {r:World→Prop} (h:Hp E w (WB W A col row told st::cG b D X v::G)) (hr: ∀w',Hp E w' (WB W A col row told st::cG b {D with steps:=D.steps+st} X v::G)→r w'):
  (Ld kI ⟨b,11,none⟩ w fun (j1:Int)=>fw Tryz.prog (iW W) "Steps" [kI] [] w fun (l1:Int) k1=>St ⟨b,11,none⟩ (ni (i64 (j1+l1))) k1 fun n1=>r n1)∧
  (fw Tryz.prog (iW W) "Steps" [kI] [] w fun (p1:Int) o1=>Ld kI ⟨b,11,none⟩ o1 fun (q1:Int)=>St ⟨b,11,none⟩ (ni (i64 (q1+p1))) o1 fun s1=>r s1):=by
 have e:i64 (i64 (D.steps:Int)+(st:Int))=i64 ((D.steps+st:Nat):Int):=by rw [pS,Int.natCast_add]
 have fin:St ⟨b,11,none⟩ (ni (i64 (i64 (D.steps:Int)+(st:Int)))) w fun n1=>r n1:=by
  rw [e]
  refine St.xs (b:=b) h rfl rfl fun w h=>hr w ?_
  dsimp only [aP,aq] at h
  exact h
 exact ⟨Ld.xb (b:=b) (x:=i64 (D.steps:Int)) h rfl (xI h fin),xI h (Ld.xb (b:=b) (x:=i64 (D.steps:Int)) h rfl fin)⟩
theorem Gn {col:List Nat} {P k:Nat} (hk:k<col.length):(bY col P).reverse[k]? =some (col.getD (bx P (wk col P k)) 0):=by
 unfold bY
 rw [List.reverse_reverse,List.getElem?_map,List.getElem?_range hk]
 rfl
theorem Mc (col:List Nat) (P:Nat):(bY col P).reverse.length=col.length:=by rw [List.length_reverse,nE]
theorem Qv {sl:Sl} {K:Int→World→Prop} (md:MZ D X) (hcb: ∀x∈D.came,x<256) (h:Hp E w (cG b D X .nilIface::Ar X.A X.f::dv D X::G))
  (hgood: ∀x,cO D.P D.sum D.came= .ok x→∀b' g st w',wJ (eW D {X with wb:=b'}) X.A g D.came→st≤2*D.M*min D.M (cn D.mode)→Hp E w' (cG b D X (iW (eW D {X with wb:=b'}))::WB (eW D {X with wb:=b'}) X.A D.came 0 0 st::Ar X.A g::dv D X::G)→K 0 w')
  (hbad: ∀e,cO D.P D.sum D.came= .error e→∀g st w',eL g 0 D.M=D.came→st≤2*D.M*min D.M (cn D.mode)→Hp E w' (cG b {D with steps:=D.steps+st} X .nilIface::Ar X.A g::dv D X::G)→K (e:Int) w'):
  Cl Tryz.prog [kI] di ⟨[pD b,K5 5 0 0 0 0 sl 0]⟩ w K:=by
 refine sQ.ok _ (5,0,0,0,0,sl,0,()) _ _ ?_
 dsimp only
 refine Nw.mk h fun b1 w h=>SI md (((h.at 3).at 3).at 3) fun b' g w ok h=>aa.nf rfl ?_
 have hcl:=md.cl
 have hM2:=md.M2;have hn2:=md.n2
 have hmd:D.M*min D.M (cn D.mode)≤65536*65536:=Nat.mul_le_mul (by omega) (by omega)
 have h2m:2*D.M*min D.M (cn D.mode)=D.M*min D.M (cn D.mode)+D.M*min D.M (cn D.mode):=by rw [Nat.mul_assoc,Nat.two_mul]
 generalize hmn:min D.M (cn D.mode)=mn at*
 generalize hW:eW D {X with wb:=b'}=W at*
 have hWm:W.m=D.M:=by rw [←hW];rfl
 have hWd:min W.m W.d=mn:=by rw [←hW,←hmn];rfl
 have hWP:W.P=D.P:=by rw [←hW];rfl
 refine Ml ok h (by decide) fun st1 w hst1 h=> ?_
 rw [hWd,hWm] at hst1
 rw [hWP]
 have hT:(bY D.came D.P).reverse.length=D.M:=by rw [Mc,hcl]
 have hTb: ∀x∈(bY D.came D.P).reverse,x<256:=fun x hx=>z6 hcb x (List.mem_reverse.1 hx)
 have htx:cO D.P D.sum D.came=if okB D.came D.P then (if cH (bY D.came D.P).reverse=D.sum then .ok (bY D.came D.P).reverse else .error 250) else .error 170:=rfl
 generalize hTT:(bY D.came D.P).reverse=T at*
 refine aQ.A7 (fun (y:Int) w=> ∃row told st,y=((if okB D.came D.P then cH T else 0:Nat):Int)∧st≤2*D.M*mn∧Hp E w (WB W X.A D.came row told st::cG b D X .nilIface::Ar X.A g::dv D X::af b1 (.cells ⟨[.int .u8 5,.int .i64 0,.int .i64 0,.int .i64 0,.int .u32 0,.slice sl.base sl.len sl.cap,.int .i64 0]⟩ 29 (0,0))::G)) ?_ fun r' hr'=> ?_
 ·rintro y w ⟨row,told,st,rfl,hst,h⟩
  rw [aO];dsimp only
  rw [aO];dsimp only
  by_cases ho:okB D.came D.P
  ·rw [if_pos ho] at htx
   rw [if_pos ho,decide_eq_true ho]
   refine aa.yD ?_
   (try simp only [aB,ag,Nat.zero_add,Nat.reduceAdd,Bool.not_true,gu])
   refine Ld.xb (b:=b) (x:=(D.sum:Int)) h rfl ?_
   by_cases hs:cH T=D.sum
   ·rw [if_pos hs] at htx
    rw [show (((cH T:Nat):Int) !=(D.sum:Int))=false from bne_eq_false_iff_eq.2 (by omega)]
    refine aa.f rfl ?_
    refine Ld.xb (b:=b) (x:=(D.sum:Int)) h rfl (aa.nf (by omega) (Ms h fun w h=> ?_))
    (skip)
    refine St.xs (b:=b) h rfl rfl fun w h=> ?_
    dsimp only [aP,aq] at h
    have:=hgood _ htx b' g st w (by rw [hW];exact ok) hst
    rw [hW] at this
    exact this ((h.no 4).at 1)
   ·rw [if_neg hs] at htx
    rw [show (((cH T:Nat):Int) !=(D.sum:Int))=true from bne_iff_ne.2 (by omega)]
    refine aa.t rfl ?_
    rw [aO];dsimp only
    refine aY.mk h fun w h=> ?_
    (skip)
    refine Aw h fun w h=>Ld.xb (b:=b) (x:=(D.sum:Int)) h rfl (aa.nt (by omega) (hbad 250 htx g st w ?_ hst ?_))
    ·rw [←hWm];exact ok.row
    ·exact (h.no 4).no 0
  ·rw [if_neg ho] at htx
   rw [decide_eq_false ho]
   refine aa.So (aa.t rfl ?_)
   rw [aO];dsimp only
   refine aY.mk h fun w h=> ?_
   (try simp only [aB,ag,Nat.zero_add,Nat.reduceAdd,Bool.not_false,sB])
   refine Aw h fun w h=>hbad 170 htx g st w ?_ hst ?_
   ·rw [←hWm];exact ok.row
   ·exact (h.no 4).no 0
 ·have h:Hp E w (WB W X.A D.came 0 0 st1::Ar X.A g::cG b D X .nilIface::dv D X::af b1 (.cells ⟨[.int .u8 5,.int .i64 0,.int .i64 0,.int .i64 0,.int .u32 0,.slice sl.base sl.len sl.cap,.int .i64 0]⟩ 29 (0,0))::G):=h
  by_cases ho:okB D.came D.P
  ·rw [decide_eq_true ho]
   rw [if_pos ho] at hr'
   have hj: ∀j,j<W.m→wk D.came W.P j≠W.P:=fun j hj=>by rw [hWP];exact ho.2.1 j (by omega)
   refine ⟨fun y w=> ∃k st,y=(cH (T.take k):Int)∧k≤D.M∧st≤(D.M+k)*mn∧Hp E w (WB W X.A D.came (wk D.came W.P k) k st::Ar X.A g::cG b D X .nilIface::dv D X::af b1 (.cells ⟨[.int .u8 5,.int .i64 0,.int .i64 0,.int .i64 0,.int .u32 0,.slice sl.base sl.len sl.cap,.int .i64 0]⟩ 29 (0,0))::G),fun _ w=>D.M - ku w ⟨W.b,Sy W,none⟩,⟨0,st1,by rw [List.take_zero];rfl,Nat.zero_le _,by rw [Nat.add_zero];omega,h⟩,?_⟩
   rintro y w ⟨k,st,rfl,hk,hst,h⟩
   have hkm:(D.M+k)*mn≤2*D.M*mn:=Nat.mul_le_mul_right _ (by omega)
   have htold:=WB.told h
   refine aa.t rfl (GN ok h (by omega) (by omega) hj (fun hlt c w hc h=>aa.f rfl ?_) (fun he w h=>aa.t rfl ?_))
   ·rw [hWd] at hc
    rw [hWm] at hlt
    have hat:T[k]? =some (D.came.getD (bx W.P (wk D.came W.P k)) 0):=by
     rw [←hTT,hWP];exact Gn (by omega)
    have hx:D.came.getD (bx W.P (wk D.came W.P k)) 0<256:=hTb _ (List.mem_of_getElem? hat)
    generalize D.came.getD (bx W.P (wk D.came W.P k)) 0=x at hat hx⊢
    have htold2:=WB.told h
    refine Nw.mk h fun b2 w h=>Nw.mk h fun b3 w h=>Hb h (fun y hy=>hTb y (List.mem_of_mem_take hy)) hx fun w h=> ?_
    have htold3:=WB.told h
    have e:T.take k++ [x]=T.take (k+1):=by rw [List.take_add_one,hat];rfl
    rw [e]
    have e2:(D.M+(k+1))*mn=(D.M+k)*mn+mn:=by rw [←Nat.add_assoc,Nat.succ_mul]
    exact ⟨⟨k+1,st+c,rfl,by omega,by omega,h⟩,by dsimp only;omega⟩
   ·have hkM:k=D.M:=by omega
    refine hr' _ w ⟨wk D.came W.P k,k,st,?_,by omega,(h.at 1).at 2|>.at 2|>fun h=>h⟩
    rw [List.take_of_length_le (by omega)]
  ·rw [decide_eq_false ho]
   rw [if_neg ho] at hr'
   refine ⟨fun y w=>y=0∧Hp E w (WB W X.A D.came 0 0 st1::Ar X.A g::cG b D X .nilIface::dv D X::af b1 (.cells ⟨[.int .u8 5,.int .i64 0,.int .i64 0,.int .i64 0,.int .u32 0,.slice sl.base sl.len sl.cap,.int .i64 0]⟩ 29 (0,0))::G),fun _ _=>0,⟨rfl,h⟩,?_⟩
   rintro y w ⟨rfl,h⟩
   exact aa.f rfl (hr' _ w ⟨0,0,st1,rfl,by omega,(h.at 1).at 2|>.at 2|>fun h=>h⟩)
theorem PX {K:Int→Bool→World→Prop} (ok:kz D X) (dok:cx D) (h:Hp E w (DL b D X (gK D X)++F)) (hno:D.back=none→K 0 false w)
  (hyes: ∀k st,D.back=some (k,st)→∀x c X' w',(bY D.came D.P).reverse[k]? =some x→c≤min D.M (cn D.mode)→kz (D.tell x k (st+c)) X'→X'.pr=X.pr→X'.pp=X.pp→Hp E w' (DL b (D.tell x k (st+c)) X' (gK (D.tell x k (st+c)) X')++F)→K (x:Int) true w'):
  Cl Tryz.prog [ao .u8,kB] fW ⟨[pD b]⟩ w K:=by
 have h:Hp E w (cG b D X (gK D X)::aZ X.pp D.s::Rd ⟨X.pr,0,none⟩ D.c D.u D.ended::Ar X.A X.f::dv D X::mi D X::F):=h
 refine sI.ok _ _ _ ?_
 (try simp only [aB,ag,Nat.zero_add,Nat.add_zero])
 refine Ld.xb (s:= .any) (b:=b) h rfl ?_
 cases hb:D.back with
 |none=>
  rw [pI hb]
  exact iK.Ue (aa.t rfl (hno hb))
 |some p=>
  obtain ⟨k,st⟩:=p
  obtain ⟨g1,g2,g3,g4,g5,g6,g7,g8⟩:=dok.bk _ hb
  obtain ⟨wok,hst⟩:=ok.bk _ hb
  dsimp only at g2 hst
  have hv:gK D X=iW (eW D X):=by unfold gK;rw [hb]
  have hw:mi D X=WB (eW D X) X.A D.came (wk D.came D.P k) k st:=by unfold mi;rw [hb]
  have hn2:=(dok.modeN (dok.modeE g1 (by rw [g8];rfl))).2.2
  have hmd:(2*D.M+k)*min D.M (cn D.mode)≤(3*65536)*65536:=Nat.mul_le_mul (by omega) (by omega)
  rw [hv] at h⊢
  refine iK.Um (aa.f rfl (Ld.xb (s:= .any) (b:=b) h rfl ?_))
  rw [hw] at h
  refine GN wok ((h.at 3).at 5) (by omega) (Nat.le_of_lt g2) (fun j hj=>g4.2.1 j (by rw [g3];exact hj)) (fun hlt c w hc h=> ?_) (fun he w h=>absurd he (Nat.ne_of_lt g2))
  have hc:c≤min D.M (cn D.mode):=hc
  have hx:=Gn (col:=D.came) (P:=D.P) (k:=k) (by omega)
  have hxb:D.came.getD (bx D.P (wk D.came D.P k)) 0<256:=z6 dok.cameb _ (List.mem_reverse.1 (List.mem_of_getElem? hx))
  have hxx:((D.came.getD (bx (eW D X).P (wk D.came (eW D X).P k)) 0:Nat):Int)=((D.came.getD (bx D.P (wk D.came D.P k)) 0:Nat):Int):=rfl
  rw [hxx]
  generalize D.came.getD (bx D.P (wk D.came D.P k)) 0=x at hx hxb⊢
  have hyes:=hyes k st hb x c
  have h:Hp E w (WB (eW D X) X.A D.came (wk D.came D.P (k+1)) (k+1) (st+c)::Ar X.A X.f::cG b D X (iW (eW D X))::aZ X.pp D.s::Rd ⟨X.pr,0,none⟩ D.c D.u D.ended::dv D X::F):=h
  have fin: ∀(X':DX) w,X'.pr=X.pr→X'.pp=X.pp→kz (D.tell x k (st+c)) X'→Hp E w (DL b (D.tell x k (st+c)) X' (gK (D.tell x k (st+c)) X')++F)→K (x:Int) true w:=fun X' w e1 e2 hx' h=>hyes X' w hx hc hx' e1 e2 h
  refine aQ.Uj (fun w=>Hp E w (WB (eW D X) X.A D.came (wk D.came D.P (k+1)) (k+1) (st+c)::Ar X.A X.f::cG b {D with all:=D.all++ [x]} X (iW (eW D X))::aZ X.pp D.s::Rd ⟨X.pr,0,none⟩ D.c D.u D.ended::dv D X::F)) (fun w h=> ?_) fun r' hr'=> ?_
  ·rw [aO];dsimp only
   have rest: ∀w,Hp E w (WB (eW D X) X.A D.came (wk D.came D.P (k+1)) (k+1) (st+c)::Ar X.A X.f::cG b {D with all:=D.all++ [x]} X (iW (eW D X))::aZ X.pp D.s::Rd ⟨X.pr,0,none⟩ D.c D.u D.ended::dv D X::F)→
     aa (((k+1:Nat):Int)==(D.M:Int)) (aQ (fun (e2:World)=>ah (some ⟨b,0,none⟩) fun f2=>St (f2.add 10) .nilIface e2 fun g2=>K (x:Int) true g2) fun o1=>
      aY w fun p1=>ah (some ⟨b,0,none⟩) fun q1=>ah (some ⟨b,0,none⟩) fun r1=>Ld kV (r1.add 10) p1 fun s1=>
      (Ld kI (q1.add 11) p1 fun (t1:Int)=>fw Tryz.prog s1 "Steps" [kI] [] p1 fun (v1:Int) u1=>ah (some ⟨b,0,none⟩) fun x1=>St (x1.add 11) (ni (i64 (t1+v1))) u1 fun y1=>o1 y1)∧
      (fw Tryz.prog s1 "Steps" [kI] [] p1 fun (a2:Int) z1=>Ld kI (q1.add 11) z1 fun (b2:Int)=>ah (some ⟨b,0,none⟩) fun c2=>St (c2.add 11) (ni (i64 (b2+a2))) z1 fun d2=>o1 d2)) (K (x:Int) true w):=fun w h=>by
    refine aa.em (fun he=> ?_) (fun hne=> ?_)
    ·have he:k+1=D.M:=by omega
     have htl:D.tell x k (st+c)={D with back:=none,steps:=D.steps+(st+c),all:=D.all++ [x]}:=by unfold DC.tell;rw [if_pos he]
     rw [aO];dsimp only
     refine aY.mk h fun w h=> ?_
     (try simp only [aB,ag,Nat.zero_add])
     refine Ld.xb (s:= .any) (b:=b) h rfl ?_
     refine Aw ((h.at 2).at 1) fun w h=> ?_
     refine St.xs (b:=b) h rfl rfl fun w h=> ?_
     dsimp only [aP,aq] at h
     refine fin X w rfl rfl ?_ ?_
     ·rw [htl]
      exact ⟨ok.bud,ok.bud1,ok.m0,ok.m1,fun p hp=>by cases hp⟩
     ·rw [htl]
      have h:=h.no 0
      have e0:mi {D with back:=none,steps:=D.steps+(st+c),all:=D.all++ [x]} X=Sat []:=rfl
      show Hp E w (cG b _ X .nilIface::aZ X.pp D.s::Rd ⟨X.pr,0,none⟩ D.c D.u D.ended::Ar X.A X.f::dv D X::mi _ X::F)
      rw [e0]
      have h2:Hp E w (Sat []::_):=h.emp rfl
      have h9:=((((h2.at 5).at 3).at 5).at 5).at 5
      exact h9
    ·have hne2: ¬k+1=D.M:=by omega
     have htl:D.tell x k (st+c)={D with back:=some (k+1,st+c),all:=D.all++ [x]}:=by unfold DC.tell;rw [if_neg hne2]
     refine fin X w rfl rfl ?_ ?_
     ·rw [htl]
      refine ⟨ok.bud,ok.bud1,ok.m0,ok.m1,fun p hp=> ?_⟩
      cases hp
      refine ⟨wok,?_⟩
      have e2:(2*D.M+(k+1))*min D.M (cn D.mode)=(2*D.M+k)*min D.M (cn D.mode)+min D.M (cn D.mode):=by rw [←Nat.add_assoc,Nat.succ_mul]
      show st+c≤(2*D.M+(k+1))*min D.M (cn D.mode)
      omega
     ·rw [htl]
      show Hp E w (cG b _ X (iW (eW D X))::aZ X.pp D.s::Rd ⟨X.pr,0,none⟩ D.c D.u D.ended::Ar X.A X.f::dv D X::WB (eW D X) X.A D.came (wk D.came D.P (k+1)) (k+1) (st+c)::F)
      have h9:=((((h.at 5).at 2).at 5).at 5).at 5
      exact h9
   rw [aO];dsimp only
   refine aY.mk h fun w h=> ?_
   have rest:=rest w h
   (skip)
   refine Ld.xb (s:= .any) (b:=b) h rfl ⟨G9 h (Ld.xb (b:=b) (x:=(D.M:Int)) h rfl rest),Ld.xb (b:=b) (x:=(D.M:Int)) h rfl (G9 h rest)⟩
  ·refine aa.t rfl ?_
   (skip)
   refine Ld.xb (b:=b) (x:=i64 (D.all.length:Int)) h rfl ?_
   rw [pS,show (D.all.length:Int)+1=((D.all++ [x]).length:Int) by rw [List.length_append];rfl]
   refine St.xs (b:=b) h rfl rfl fun w h=> ?_
   dsimp only [aP,aq] at h
   refine Ld.xb (b:=b) (x:=(cH D.all:Int)) h rfl (Nw.mk h fun b2 w h=>Nw.mk h fun b3 w h=>Hb h dok.allb hxb fun w h=> ?_)
   refine St.xs (b:=b) h rfl rfl fun w h=>hr' w ?_
   dsimp only [aP,aq] at h
   exact h
end
end Go.Proofs.YtgglghjnakclmaaGreat
namespace Go.Dcd
open Go.Inc Go.Srt Go.Sym Go.aE Go.Tab Go.Hd Go.Crc Go.Bw Go.af Go.Stm Go.Prs Go.Pol
def yU (c:List Nat) (s:PS) (u:Nat):Prop:=po s=false∧∀M P q,Ev.az M P q∉dA true c s u
def DC.Calm (D:DC):Prop:=D.back=none∧yU D.c D.s D.u
structure nv (D D1:DC):Prop where
 cost:D.cost≤D1.cost
 u:D.u≤D1.u
 calm:D.Calm→D1.Calm∧D1.steps=D.steps
theorem nv.rfl {D:DC}:nv D D:=⟨Nat.le_refl _,Nat.le_refl _,fun h=>⟨h,Eq.refl _⟩⟩
theorem nv.trans {D D1 D2:DC} (h:nv D D1) (g:nv D1 D2):nv D D2:=⟨Nat.le_trans h.cost g.cost,Nat.le_trans h.u g.u,fun hc=>⟨(g.calm (h.calm hc).1).1,(g.calm (h.calm hc).1).2.trans (h.calm hc).2⟩⟩
section
variable {D D2:DC} {s':PS} {u':Nat}
theorem D9 {o:Option Ev} (ok:cx D) (h:cF D.ended D.c D.s D.u=(o,s',u')):D.u≤u':=by
 have:=sd (ended:=D.ended) (c:=D.c) _ D.s D.u rfl ok.ul
 rw [h] at this
 cases o with
 |none=>exact this.2.2.2
 |some e=>exact this.2.2
theorem Jr (ok:cx D) (hb:D.back=none) (h:cF D.ended D.c D.s D.u=(none,s',u')) (hc:yU D.c D.s D.u):yU D.c s' u':=by
 have inv:=eY (ended:=D.ended) (c:=D.c) (n:=PS.n D.s) (mn:=0) _ D.s D.u rfl ok.ps (ok.jn hb) (fun _=>rfl) ok.bd
 rw [h] at inv
 obtain ⟨i1,i2,i3,ii,_⟩:=inv
 refine ⟨by rw [ii];exact hc.1,?_⟩
 have:=wU (en:=true) (z:= []) ok h
 rw [List.append_nil] at this
 rw [←this];exact hc.2
theorem GO {e:Ev} (ok:cx D) (hb:D.back=none) (h:cF D.ended D.c D.s D.u=(some e,s',u')) (hc:yU D.c D.s D.u):e≠ .bend∧yU D.c s' u':=by
 have inv:=eY (ended:=D.ended) (c:=D.c) (n:=PS.n D.s) (mn:=0) _ D.s D.u rfl ok.ps (ok.jn hb) (fun _=>rfl) ok.bd
 rw [h] at inv
 obtain ⟨_,i2,_⟩:=inv
 have hf:=gm (en:=true) (z:= []) ok h (fun _=>⟨rfl,rfl⟩)
 rw [List.append_nil] at hf
 obtain ⟨c1,c2⟩:=hc
 rw [hf] at c2
 cases e with
 |hdr k=>
  obtain ⟨_,rfl,_⟩:=i2
  exact ⟨by simp,rfl,fun M P q hm=>c2 M P q (List.mem_cons_of_mem _ (by simpa [final] using hm))⟩
 |az M P q=>exact absurd List.mem_cons_self (c2 M P q)
 |bytes t=>rw [i2.2.1] at c1;cases c1
 |bend=>rw [i2.2.1] at c1;cases c1
 |tail q=>
  obtain ⟨_,rfl⟩:=i2
  exact ⟨by simp,rfl,fun M P q hm=>c2 M P q (List.mem_cons_of_mem _ (by simpa [final] using hm))⟩
 |fin=>
  obtain ⟨_,rfl⟩:=i2
  refine ⟨by simp,rfl,fun M P q hm=> ?_⟩
  rw [fa (e:= .fin) (s':= .aq (PS.n D.s)) (u':=u') (by unfold aD;rfl) rfl] at hm
  simp at hm
 |bad er=>
  obtain ⟨_,rfl⟩:=i2
  refine ⟨by simp,rfl,fun M P q hm=> ?_⟩
  rw [fa (e:= .bad er) (s':= .bad (PS.n D.s) er) (u':=u') (by unfold aD;rfl) rfl] at hm
  simp at hm
theorem jc (hb:D.back=none):D.cost=D.steps+D.u:=by unfold DC.cost;rw [hb];rfl
theorem Bc {k st:Nat} (hb:D.back=some (k,st)):D.cost=D.steps+D.u+st:=by unfold DC.cost;rw [hb]
theorem Nq (ok:cx D) (hb:D.back=none) (h:cF D.ended D.c D.s D.u=(none,s',u')):nv D {D with s:=s',u:=u'}:=by
 have hu:=D9 ok h
 refine ⟨?_,hu,fun hc=>⟨⟨hb,by exact Jr (D:=D) ok hb h hc.2⟩,rfl⟩⟩
 rw [jc hb,jc (D:={D with s:=s',u:=u'}) hb]
 dsimp only;omega
theorem nD {e:Ev} (ok:cx D) (hb:D.back=none) (h:cF D.ended D.c D.s D.u=(some e,s',u')) (h1:D2.s=s') (h2:D2.u=u') (h3:D2.c=D.c) (h4:D2.back=none) (h5:D.steps≤D2.steps) (h6:e≠ .bend→D2.steps=D.steps):nv D D2:=by
 have hu:=D9 ok h
 subst h1 h2
 refine ⟨?_,hu,fun hc=> ?_⟩
 ·rw [jc hb,jc h4];omega
 ·have:=GO ok hb h hc.2
  exact ⟨⟨h4,by rw [h3];exact this.2⟩,h6 this.1⟩
theorem NT {st:Nat} (ok:cx D) (hb:D.back=none) (h:cF D.ended D.c D.s D.u=(some .bend,s',u')):nv D {D with s:=s',u:=u',back:=some (0,st)}:=by
 have hu:=D9 ok h
 refine ⟨?_,hu,fun hc=>absurd rfl (GO ok hb h hc.2).1⟩
 rw [jc hb]
 show D.steps+D.u≤D.steps+u'+st
 omega
theorem Mb {x k st c:Nat} (hb:D.back=some (k,st)):nv D (D.tell x k (st+c)):=by
 refine ⟨?_,?_,fun hc=> ?_⟩
 ·rw [Bc hb]
  unfold DC.tell
  split
  ·rw [jc rfl];dsimp only;omega
  ·rw [Bc rfl];dsimp only;omega
 ·unfold DC.tell
  split<;>exact Nat.le_refl _
 ·rw [hc.1] at hb;cases hb
end
end Go.Dcd
namespace Go.Dcd
open Go.Inc Go.Srt Go.Sym Go.aE Go.Tab Go.Hd Go.Crc Go.Bw Go.af Go.Stm Go.Prs Go.Pol
def DC.Fin (D:DC):Prop:=D.e≠0∨(D.back=none∧∃n,D.s= .aq n)
structure lN (D D1:DC) (x st e:Nat):Prop where
 c:D1.c=D.c
 ended:D1.ended=D.ended
 budget:D1.budget=D.budget
 ok:cx D1
 mode:D.mode≠0→D1.mode=D.mode∧PS.n D1.s=PS.n D.s
 size: ∀en z,qi D en z→D1.size en z=D.size en z
 cost: ∀n mn,D1.fits n mn→D1.cost≤D.cost+(8300+15*(n+1)+(2*n+1)*mn)
 fin:D.Fin→D1=D
 mor:nv D D1
 res:(st=1∧e=0∧x<256∧D1.all=D.all++ [x]∧∀en z,qi D en z→D.out en z=(x::(D1.out en z).1,(D1.out en z).2))∨
  (x=0∧D1.all=D.all∧(∀en z,qi D en z→D1.out en z=D.out en z)∧
   ((st=2∧e=0∧D.ended=false∧D1.u=8*D.c.length∧D.out false []=([],2,0))∨(st=3∧e=0∧D1.Fin∧∀en z,qi D en z→D.out en z=([],3,0))∨(st=4∧e=D1.e∧e≠0∧D1.Fin)))
section
variable {D D1 D2:DC}
theorem Rel.cost {n mn:Nat} (rel:Rel D D1) (dok:cx D) (hf:D1.fits n mn):D1.cost+D1.bm n mn≤D.cost+(8300+15*(n+1)+(2*n+1)*mn):=by
 have h1:=rel.bm n mn hf
 have h2:=NI dok (DC.BL rel.mode hf)
 omega
theorem lN.stay {st e:Nat} (rel:Rel D D1) (dok:cx D) (ok1:cx D1) (hfin:D.Fin→D1=D) (hmor:nv D D1)
  (hres:(st=2∧e=0∧D.ended=false∧D1.u=8*D.c.length∧D.out false []=([],2,0))∨(st=3∧e=0∧D1.Fin∧∀en z,qi D en z→D.out en z=([],3,0))∨(st=4∧e=D1.e∧e≠0∧D1.Fin)):lN D D1 0 st e:=
 ⟨rel.c,rel.ended,rel.budget,ok1,rel.mode,rel.size,fun n mn hf=>by have:=rel.cost dok hf;omega,hfin,hmor,.inr ⟨rfl,rel.all,rel.out,hres⟩⟩
theorem lN.tell {x k st c:Nat} (rel:Rel D D1) (dok:cx D) (ok1:cx D1) (hb:D1.back=some (k,st)) (hx:(bY D1.came D1.P).reverse[k]? =some x) (hx2:x<256) (hc:c≤min D1.M (cn D1.mode)) (hfin: ¬D.Fin) (hmor:nv D D1):lN D (D1.tell x k (st+c)) x 1 0:=by
 obtain ⟨g1,g2,g3,g4,g5,g6,g7,g8⟩:=ok1.bk _ hb
 have t1:(D1.tell x k (st+c)).c=D1.c:=by unfold DC.tell;split<;>rfl
 have t2:(D1.tell x k (st+c)).ended=D1.ended:=by unfold DC.tell;split<;>rfl
 have t3:(D1.tell x k (st+c)).budget=D1.budget:=by unfold DC.tell;split<;>rfl
 have t4:(D1.tell x k (st+c)).mode=D1.mode:=by unfold DC.tell;split<;>rfl
 have t5:(D1.tell x k (st+c)).s=D1.s:=by unfold DC.tell;split<;>rfl
 have t6:(D1.tell x k (st+c)).all=D1.all++ [x]:=by unfold DC.tell;split<;>rfl
 have t7:(D1.tell x k (st+c)).cost=D1.cost+c:=by
  unfold DC.tell DC.cost
  rw [hb]
  split
  ·dsimp only;omega
  ·dsimp only;omega
 have hm:=ok1.modeE g1 (by rw [g8];rfl)
 refine ⟨t1.trans rel.c,t2.trans rel.ended,t3.trans rel.budget,P6 ok1 hb hx2,fun h0=> ?_,fun en z hz=> ?_,fun n mn hf=> ?_,fun h=>absurd h hfin,hmor.trans (Mb hb),.inl ⟨rfl,rfl,hx2,by rw [t6,rel.all],fun en z hz=> ?_⟩⟩
 ·rw [t4,t5];exact rel.mode h0
 ·rw [(E2 (st':=st+c) ok1 hb hx en z).2];exact rel.size en z hz
 ·have hf1:D1.fits n mn:=fun h0=>by
   have:=hf (by rw [t4];exact h0)
   rw [t4,t5] at this
   exact this
  have h1:=rel.cost dok hf1
  have hp:D1.bm n mn=mn:=by unfold DC.bm;rw [g1,hb,if_neg (by decide)]
  have h2:=hf1 hm
  rw [hp] at h1
  rw [t7]
  omega
 ·rw [←rel.out en z hz]
  exact (E2 (st':=st+c) ok1 hb hx en z).1
theorem Cv {en:Bool} {c:List Nat} {n u:Nat}:cF en c (.aq n) u=(some .fin,.aq n,u):=sq (by unfold aD;rfl)
theorem Fin.no {o:Option Ev} {s':PS} {u':Nat} (he:D.e=0) (h:cF D.ended D.c D.s D.u=(o,s',u')) (ho:o≠some .fin): ¬D.Fin:=by
 rintro (h0|⟨_,n,hs⟩)
 ·exact h0 he
 ·rw [hs,Cv] at h
  injection h with h1 _
  exact ho h1.symm
theorem Fin.same {s':PS} {u':Nat} (he:D.e=0) (h:cF D.ended D.c D.s D.u=(some .fin,s',u')) (hf:D.Fin):{D with s:=s',u:=u'}=D:=by
 rcases hf with h0|⟨_,n,hs⟩
 ·exact absurd he h0
 ·rw [hs,Cv] at h
  injection h with _ h1
  injection h1 with h1 h2
  subst h1 h2
  rw [←hs]
end
end Go.Dcd
namespace Go.Proofs.YtgglghjnakclmaaGreat
open Go Go.Vc Go.Srt Go.Inc Go.Hd Go.aE Go.af Go.Crc Go.Pol Go.Stm Go.Prs Go.Dcd Go.Bw
abbrev Q4:TypeId:=160
theorem iu:Tryz.prog.underlying Q4=some (.map 5 159):=by kernel_rfl
theorem ph (w:World):(zeroValue 159).run Tryz.prog w= .ok .nilFunc w:=by kernel_rfl
abbrev pE (i b:Nat):Value:= .func (.func i) ⟨[pD b]⟩ ⟨[]⟩
abbrev Vl (b:Nat):List (Int×Value):= [(2,pE cW b),(3,pE cP b),(4,pE cX b),(5,pE di b),(6,pE cZ b)]
abbrev jK (b:Nat) (m:Option Nat):HP:=jM (fun n:Int=>Value.int .u8 n) (fun v:Value=>v) m (Vl b)
section
variable {E w:World} {F G:List HP} {b:Nat} {D D2:DC} {X:DX}
theorem C5 (h:D.back=none):mi D X=Sat []:=by unfold mi;rw [h]
theorem xp (hb:D.back=none) (h:Hp E w (cG b D X .nilIface::aZ X.pp D.s::Rd ⟨X.pr,0,none⟩ D.c D.u D.ended::Ar X.A X.f::dv D X::Sat []::F)):Hp E w (DL b D X (gK D X)++F):=by
 rw [pI hb]
 show Hp E w (cG b D X .nilIface::aZ X.pp D.s::Rd ⟨X.pr,0,none⟩ D.c D.u D.ended::Ar X.A X.f::dv D X::mi D X::F)
 rw [C5 hb]
 exact h
theorem p7 (hn:D.mode≠0→D2.mode=D.mode∧PS.n D2.s=PS.n D.s) (h0:D.mode=0→D2.mode=0):dv D X=dv D2 X:=by
 show av 2 X.sp ((dk (PS.n D.s) D.mode).flatMap fu)=av 2 X.sp ((dk (PS.n D2.s) D2.mode).flatMap fu)
 by_cases hm:D.mode=0
 ·rw [hm,h0 hm];rfl
 ·obtain ⟨e1,e2⟩:=hn hm
  rw [e1,e2]
theorem kz.of {X2:DX} (ok:kz D X) (hA:X2.A=X.A) (hf:D.mode=0→X2.f=X.f) (hbud:D2.budget=D.budget) (hn:D.mode≠0→D2.mode=D.mode∧PS.n D2.s=PS.n D.s) (h0:D.mode=0→D2.mode=0∧D2.came=D.came) (hrow:D.mode≠0→eL X2.f 0 D2.came.length=D2.came) (hb:D2.back=none):kz D2 X2 where
 bud:=by rw [hbud];exact ok.bud
 bud1:=by rw [hbud];exact ok.bud1
 m0:=fun hm=>by
  by_cases h:D.mode=0
  ·rw [hbud,hA,hf h,(h0 h).2];exact ok.m0 h
  ·exact absurd ((hn h).1.symm.trans hm) h
 m1:=fun hm=>by
  by_cases h:D.mode=0
  ·exact absurd (h0 h).1 hm
  ·obtain ⟨e1,e2⟩:=hn h
   obtain ⟨m1,m2,_⟩:=ok.m1 h
   rw [e1,e2,hA]
   exact ⟨m1,m2,hrow h⟩
 bk:=fun k hk=>by rw [hb] at hk;cases hk
theorem DD {f:Nat→Nat} {L:Nat} {col t:List Nat} (h:eL f 0 L=col):eL (eR f (0+L) t) 0 (col++t).length=col++t:=by
 have hl:col.length=L:=by rw [←h,dy]
 apply List.ext_getElem
 ·rw [dy]
 ·intro i hi1 hi2
  rw [dy,List.length_append] at hi1
  rw [s9 (by rw [List.length_append];exact hi1)]
  rcases Nat.lt_or_ge i L with hlt|hge
  ·rw [fl (by omega),List.getElem_append_left (by omega)]
   have:=s9 (f:=f) (p:=0) hlt
   simp only [h] at this
   exact this.symm
  ·rw [show 0+i=(0+L)+(i - L) by omega,lr (by omega),List.getElem_append_right (by omega),List.getD_eq_getElem?_getD,List.getElem?_eq_getElem (by omega)]
   simp [hl]
abbrev RO (b:Nat) (D:DC) (X:DX) (v:Value):HP:=af b (.cells ⟨[.int .i64 (D.budget:Int),.int .u8 (D.mode:Int),pA X.A,.pointer (some ⟨X.pr,0,none⟩),.pointer (some ⟨X.pp,0,none⟩),.slice X.sp.base X.sp.len X.sp.cap,.int .i64 (D.M:Int),.int .i64 (D.P:Int),.int .u32 (D.sum:Int),.int .i64 (D.came.length:Int),v,.int .i64 (i64 (D.steps:Int)),.int .i64 (i64 (D.all.length:Int)),.int .u32 (cH D.all:Int),.int .i64 0]⟩ 156 (0,0))
theorem Jh (hb:D.back=none) (he:D.e=0) (h:Hp E w (RO b D X .nilIface::aZ X.pp D.s::Rd ⟨X.pr,0,none⟩ D.c D.u D.ended::Ar X.A X.f::dv D X::Sat []::F)):Hp E w (DL b D X (gK D X)++F):=by
 refine xp hb ?_
 have hz:((D.e:Nat):Int)=0:=by rw [he];rfl
 have e:cG b D X .nilIface=RO b D X .nilIface:=by
  show af b (.cells ⟨[.int .i64 (D.budget:Int),.int .u8 (D.mode:Int),pA X.A,.pointer (some ⟨X.pr,0,none⟩),.pointer (some ⟨X.pp,0,none⟩),.slice X.sp.base X.sp.len X.sp.cap,.int .i64 (D.M:Int),.int .i64 (D.P:Int),.int .u32 (D.sum:Int),.int .i64 (D.came.length:Int),.nilIface,.int .i64 (i64 (D.steps:Int)),.int .i64 (i64 (D.all.length:Int)),.int .u32 (cH D.all:Int),.int .i64 ((D.e:Nat):Int)]⟩ 156 (0,0))=_
  rw [hz]
 rw [e]
 exact h
theorem TO (h:Hp E w (DL b D X (gK D X)++F)):ku w ⟨b,14,none⟩=D.e:=by
 have:w.cell? ⟨b,14,none⟩=some (.int .i64 (D.e:Int)):=by
  have h:Hp E w (cG b D X (gK D X)::(aZ X.pp D.s::Rd ⟨X.pr,0,none⟩ D.c D.u D.ended::Ar X.A X.f::dv D X::mi D X::F)):=h
  rw [h.cell];rfl
 unfold ku
 rw [this]
 simp
def yr (b pp pr:Nat) (c:List Nat) (w:World):Nat:=if ku w ⟨b,14,none⟩=0 then 1+zk pp pr c w else 0
theorem EG (h:Hp E w (DL b D X (gK D X)++F)):yr b X.pp X.pr D.c w=if D.e=0 then 1+dD D.c D.s D.u else 0:=by
 unfold yr
 rw [TO h]
 have h:Hp E w (cG b D X (gK D X)::aZ X.pp D.s::Rd ⟨X.pr,0,none⟩ D.c D.u D.ended::Ar X.A X.f::dv D X::mi D X::F):=h
 have h2:Hp E w (aZ X.pp D.s::Rd ⟨X.pr,0,none⟩ D.c D.u D.ended::cG b D X (gK D X)::Ar X.A X.f::dv D X::mi D X::F):=((h.at 2).at 2)
 rw [xX h2]
theorem sP {A:HP} {v:Value} (h:Hp E w (DL b D X v++(A::F))):Hp E w (A::(DL b D X v++F)):=by
 have h:Hp E w (cG b D X v::aZ X.pp D.s::Rd ⟨X.pr,0,none⟩ D.c D.u D.ended::Ar X.A X.f::dv D X::mi D X::A::F):=h
 have h9:=h.at 6
 exact h9
theorem gV {K:Int→Int→Int→World→Prop} (dok:cx D) (h:Hp E w (cJ b D::F)) (hK: ∀D1 x st e w',lN D D1 x st e→Hp E w' (cJ b D1::F)→K (x:Int) (st:Int) (e:Int) w'):
  Cl Tryz.prog [ao .u8,ao .u8,kI] a8 ⟨[pD b]⟩ w K:=by
 obtain ⟨X,ok,h⟩:=xG h
 refine iV.ok _ _ _ (aa.f rfl ?_)
 refine run_makeMap (ke:=fun n:Int=>Value.int .u8 n) (ve:=fun v:Value=>v) h fun m w h=> ?_
 refine cf (ke:=fun n:Int=>Value.int .u8 n) (ve:=fun v:Value=>v) fY iu (a:=2) (b:=pE cW b) h fun w h=> ?_
 refine cf (ke:=fun n:Int=>Value.int .u8 n) (ve:=fun v:Value=>v) fY iu (a:=3) (b:=pE cP b) h fun w h=> ?_
 refine cf (ke:=fun n:Int=>Value.int .u8 n) (ve:=fun v:Value=>v) fY iu (a:=4) (b:=pE cX b) h fun w h=> ?_
 refine cf (ke:=fun n:Int=>Value.int .u8 n) (ve:=fun v:Value=>v) fY iu (a:=5) (b:=pE di b) h fun w h=> ?_
 refine cf (ke:=fun n:Int=>Value.int .u8 n) (ve:=fun v:Value=>v) fY iu (a:=6) (b:=pE cZ b) h fun w h=> ?_
 have h:Hp E w (jK b m::(DL b D X (gK D X)++F)):=h
 refine ⟨fun w=> ∃D1 X1,Rel D D1∧nv D D1∧cx D1∧(D.Fin→D1=D)∧kz D1 X1∧X1.pr=X.pr∧X1.pp=X.pp∧Hp E w (jK b m::(DL b D1 X1 (gK D1 X1)++F)),yr b X.pp X.pr D.c,⟨D,X,Rel.rfl,nv.rfl,dok,fun _=>rfl,ok,rfl,rfl,h⟩,?_⟩
 clear h ok
 rintro w0 ⟨D1,X1,rel,mor,dok1,hfin,ok,epr,epp,h⟩
 have hc1:=rel.c
 have hm0:=EG (h.no 0)
 rw [epp,epr,hc1] at hm0
 have h:Hp E w0 (jK b m::cG b D1 X1 (gK D1 X1)::aZ X1.pp D1.s::Rd ⟨X1.pr,0,none⟩ D1.c D1.u D1.ended::Ar X1.A X1.f::dv D1 X1::mi D1 X1::F):=h
 (try simp only [aB,ag,Nat.zero_add])
 refine Ld.xb (b:=b) (x:=(D1.e:Int)) h rfl (aa.em (fun he=> ?_) (fun hne=> ?_))
 ·have he:D1.e=0:=by omega
  rw [if_pos he] at hm0
  refine PX (F:=jK b m::F) ok dok1 ((((((h.at 6).at 6).at 6).at 6).at 6).at 6) (fun hb=> ?_) (fun k st hb x c X' w hx hcc okx' e1 e2 h=> ?_)
  ·refine aa.f rfl ?_
   rw [pI hb,C5 hb] at h
   generalize hp:cF D1.ended D1.c D1.s D1.u=res
   obtain ⟨o,s',u'⟩:=res
   have hpa:=fG (ended:=D1.ended) _ D1.s D1.u rfl dok1.ul dok1.al
   rw [hp] at hpa
   have inv:=fun n mn hn=>eY (ended:=D1.ended) (c:=D1.c) (n:=n) (mn:=mn) _ D1.s D1.u rfl dok1.ps (dok1.jn hb) hn dok1.bd
   rw [hp] at inv
   have inv:=inv (PS.n D1.s) 0 (fun _=>rfl)
   have nofin:o≠some .fin→¬D.Fin:=fun ho hf=>by
    have:=hfin hf
    rw [←this] at hf
    exact Fin.no he hp ho hf
   refine aQ.A7 (fun (a:Addr) w=> ∃b1 sl,a=⟨b1,0,none⟩∧(∀x∈Gj o,x<256)∧Hp E w (af b1 (.cells ⟨[.int .u8 (lC o sl).1,.int .i64 (lC o sl).2.1,.int .i64 (lC o sl).2.2.1,.int .i64 (lC o sl).2.2.2.1,.int .u32 (lC o sl).2.2.2.2.1,.slice (lC o sl).2.2.2.2.2.1.base (lC o sl).2.2.2.2.2.1.len (lC o sl).2.2.2.2.2.1.cap,.int .i64 (lC o sl).2.2.2.2.2.2.1]⟩ 29 (0,0))::av 1 sl ((Gj o).map vB)::aZ X1.pp s'::Rd ⟨X1.pr,0,none⟩ D1.c u' D1.ended::jK b m::cG b D1 X1 .nilIface::Ar X1.A X1.f::dv D1 X1::Sat []::F)) ?_ fun r' hr'=> ?_
   ·rintro a w ⟨b1,sl,rfl,hlt,h⟩
    have next: ∀(D2:DC) (X2:DX) (w2:World),o≠some .fin→Rel D1 D2→nv D1 D2→cx D2→kz D2 X2→X2.pr=X1.pr→X2.pp=X1.pp→(D2.e=0→dD D1.c D2.s D2.u<dD D1.c D1.s D1.u)→Hp E w2 (jK b m::(DL b D2 X2 (gK D2 X2)++F))→
      (∃D1 X1,Rel D D1∧nv D D1∧cx D1∧(D.Fin→D1=D)∧kz D1 X1∧X1.pr=X.pr∧X1.pp=X.pp∧Hp E w2 (jK b m::(DL b D1 X1 (gK D1 X1)++F)))∧yr b X.pp X.pr D.c w2<yr b X.pp X.pr D.c w0:=fun D2 X2 w2 ho rel2 mor2 dok2 ok2 e1 e2 hlt h2=>by
     refine ⟨⟨D2,X2,rel.trans rel2,mor.trans mor2,dok2,fun hf=>absurd hf (nofin ho),ok2,e1.trans epr,e2.trans epp,h2⟩,?_⟩
     have hm2:=EG (h2.no 0)
     rw [e2.trans epp,e1.trans epr,rel2.c.trans hc1] at hm2
     rw [hm0,hm2]
     rw [hc1] at hlt
     split
     ·have:=hlt ‹_›;omega
     ·omega
    cases o with
    |none=>
     obtain ⟨r1,r2,r3,r4⟩:=N6 dok1 he hb hp
     have hout:D.out false []=([],2,0):=by
      have hen:D.ended=false:=by rw [←rel.ended];exact r3
      rw [←rel.out false [] (fun h=>by rw [hen] at h;cases h)]
      have hpf:=sd (ended:=D1.ended) (c:=D1.c) _ D1.s D1.u rfl dok1.ul
      rw [hp,r3] at hpf
      unfold DC.out DC.rest
      rw [List.append_nil,hpf.1,if_neg (by omega),gL hb]
      rfl
     (try simp only [ag,Nat.zero_add,Nat.add_zero])
     refine Ld.xb (b:=b1) (x:=1) h rfl (aa.t rfl ?_)
     refine hK {D1 with s:=s',u:=u'} 0 2 0 w (lN.stay (rel.trans r1) dok r2 (fun hf=>absurd hf (nofin (by simp))) (mor.trans (Nq dok1 hb hp)) (.inl ⟨rfl,rfl,by rw [←rel.ended];exact r3,by rw [←hc1];exact r4,hout⟩)) (cJ.shut X1 (ok.of rfl (fun _=>rfl) rfl r1.mode (fun hm=>⟨hm,rfl⟩) (fun hm=>(ok.m1 hm).2.2) hb) (xp (D:={D1 with s:=s',u:=u'}) hb ?_))
     rw [p7 (D2:={D1 with s:=s',u:=u'}) r1.mode id] at h
     have h9:=(((h.no 0).no 0).no 2).at 2
     exact h9
    |some ev=>
     have hmeas:final ev=false→dD D1.c s' u'<dD D1.c D1.s D1.u:=fun hf=>(hpa.2.2.1 hf).1
     cases ev with
     |hdr k=>
      obtain ⟨k1,k2,km,good,bad⟩:=Qo dok1 he hb hp
      have h:Hp E w (af b1 (.cells ⟨[.int .u8 2,.int .i64 (k:Int),.int .i64 0,.int .i64 0,.int .u32 0,.slice sl.base sl.len sl.cap,.int .i64 0]⟩ 29 (0,0))::av 1 sl []::aZ X1.pp s'::Rd ⟨X1.pr,0,none⟩ D1.c u' D1.ended::jK b m::cG b D1 X1 .nilIface::Ar X1.A X1.f::av 2 X1.sp ((dk (PS.n D1.s) D1.mode).flatMap fu)::Sat []::F):=h
      rw [show (dk (PS.n D1.s) D1.mode).flatMap fu= [] by rw [km];rfl] at h
      (try simp only [ag,Nat.zero_add,Nat.add_zero])
      refine Ld.xb (b:=b1) (x:=2) h rfl (aa.f rfl (aa.f rfl (aa.f rfl (Ld.xb (b:=b1) (x:=2) h rfl ?_))))
      refine ar.found (ke:=fun n:Int=>Value.int .u8 n) (ve:=fun v:Value=>v) fY iu (a:=2) (x:=pE cW b) ph (h.at 4) rfl rfl (Ld.xt (b:=b1) h rfl ?_)
      refine gn.mk (by kernel_rfl) (NX (k:=k) (sl:=sl) ok km (((h.at 7).at 7).at 7) k1 k2 (fun hz live sp' w hlive h=> ?_) (fun hz w h=> ?_))
      ·obtain ⟨r1,r2⟩:=good hz
       (skip)
       refine St.xs (b:=b) h rfl rfl fun w h=> ?_
       dsimp only [aP,aq] at h
       have hs':PS.n s'=k:=by
        obtain ⟨_,⟨_,rfl,_⟩,_⟩:=inv
        rfl
       refine next {D1 with s:=s',u:=u',mode:=bZ D1.budget k 2} {X1 with A:=⟨X1.A.a,X1.A.m,X1.A.N,live,live⟩,sp:=sp'} w (by simp) r1 (nD dok1 hb hp rfl rfl rfl hb (Nat.le_refl _) fun _=>rfl) r2 ⟨ok.bud,ok.bud1,fun hm=>absurd hm hz,fun _=>⟨by dsimp only;rw [hs',hlive],rfl,?_⟩,fun p hp2=>by dsimp only at hp2;rw [hb] at hp2;cases hp2⟩ rfl rfl (fun _=>hmeas rfl) ?_
       ·dsimp only
        rw [(ok.m0 km).2.2.2.2];rfl
       ·have e:(dk k (bZ D1.budget k 2)).flatMap fu=(dk (PS.n s') (bZ D1.budget k 2)).flatMap fu:=by rw [hs']
        rw [e] at h
        refine sP (Jh (D:={D1 with s:=s',u:=u',mode:=bZ D1.budget k 2}) (X:={X1 with A:=⟨X1.A.a,X1.A.m,X1.A.N,live,live⟩,sp:=sp'}) (F:=jK b m::F) (b:=b) hb he ?_)
        have h:=((h.no 3).no 3)
        have h9:=(((((h.at 6).at 3).at 3).at 5).at 5).at 5
        exact h9
      ·obtain ⟨r1,r2⟩:=bad hz
       (skip)
       refine St.xs (b:=b) h rfl rfl fun w h=> ?_
       dsimp only [aP,aq] at h
       refine next {D1 with s:=s',u:=u',e:=230} X1 w (by simp) r1 (nD dok1 hb hp rfl rfl rfl hb (Nat.le_refl _) fun _=>rfl) r2 (ok.of rfl (fun _=>rfl) rfl (fun hm=>absurd km hm) (fun hm=>⟨hm,rfl⟩) (fun hm=>absurd km hm) hb) rfl rfl (fun h=>by cases h) ?_
       have e:dv {D1 with s:=s',u:=u',e:=230} X1=av 2 X1.sp []:=by
        show av 2 X1.sp ((dk (PS.n s') D1.mode).flatMap fu)=_
        rw [km];rfl
       refine sP (xp (D:={D1 with s:=s',u:=u',e:=230}) (X:=X1) (F:=jK b m::F) (b:=b) hb ?_)
       rw [e]
       have h:=((h.no 3).no 3)
       have h9:=(((((h.at 6).at 3).at 3).at 5).at 5).at 5
       exact h9
     |az M P q=>
      obtain ⟨r1,r2⟩:=Qg dok1 he hb hp
      have h:Hp E w (af b1 (.cells ⟨[.int .u8 3,.int .i64 0,.int .i64 (M:Int),.int .i64 (P:Int),.int .u32 (q:Int),.slice sl.base sl.len sl.cap,.int .i64 0]⟩ 29 (0,0))::av 1 sl ([])::aZ X1.pp s'::Rd ⟨X1.pr,0,none⟩ D1.c u' D1.ended::jK b m::cG b D1 X1 .nilIface::Ar X1.A X1.f::dv D1 X1::Sat []::F):=h
      (try simp only [ag,Nat.zero_add,Nat.add_zero])
      refine Ld.xb (b:=b1) (x:=3) h rfl (aa.f rfl (aa.f rfl (aa.f rfl (Ld.xb (b:=b1) (x:=3) h rfl ?_))))
      refine ar.found (ke:=fun n:Int=>Value.int .u8 n) (ve:=fun v:Value=>v) fY iu (a:=3) (x:=pE cP b) ph (h.at 4) rfl rfl (Ld.xt (b:=b1) h rfl ?_)
      have hmo:=dok1.modeE he (by obtain ⟨_,⟨g,_⟩,_⟩:=inv;exact g)
      refine gn.mk (by kernel_rfl) (Mg (h.at 5) fun w h=> ?_)
      (skip)
      refine St.xs (b:=b) h rfl rfl fun w h=> ?_
      dsimp only [aP,aq] at h
      rw [p7 (D2:={D1 with s:=s',u:=u',M:=M,P:=P,sum:=q,came:= []}) r1.mode id] at h
      refine next {D1 with s:=s',u:=u',M:=M,P:=P,sum:=q,came:= []} X1 w (by simp) r1 (nD dok1 hb hp rfl rfl rfl hb (Nat.le_refl _) fun _=>rfl) r2 (ok.of rfl (fun _=>rfl) rfl r1.mode (fun hm=>absurd hm hmo) (fun _=>rfl) hb) rfl rfl (fun _=>hmeas rfl) ?_
      refine sP (Jh (D:={D1 with s:=s',u:=u',M:=M,P:=P,sum:=q,came:= []}) (X:=X1) (F:=jK b m::F) (b:=b) hb he ?_)
      have h:=(h.no 1).no 1
      have h9:=(((((h.at 6).at 6).at 6).at 5).at 5).at 5
      exact h9
     |bytes t=>
      obtain ⟨r1,r2,r3,r4,r5⟩:=LD dok1 he hb hp
      have hmo:=dok1.modeE he r5
      have hn2:=(dok1.modeN hmo).2.2
      obtain ⟨l1,l2,l3⟩:=ok.m1 hmo
      rw [Cz] at l1
      have hsp:dv D1 X1=av 2 X1.sp (((0,PS.n D1.s):: [(PS.n D1.s,qE (PS.n D1.s) D1.mode)]).flatMap fu):=by
       show av 2 X1.sp ((dk (PS.n D1.s) D1.mode).flatMap fu)=_
       unfold dk
       rw [if_neg hmo]
      have h:Hp E w (af b1 (.cells ⟨[.int .u8 4,.int .i64 0,.int .i64 0,.int .i64 0,.int .u32 0,.slice sl.base sl.len sl.cap,.int .i64 0]⟩ 29 (0,0))::av 1 sl (t.map vB)::aZ X1.pp s'::Rd ⟨X1.pr,0,none⟩ D1.c u' D1.ended::jK b m::cG b D1 X1 .nilIface::Ar X1.A X1.f::dv D1 X1::Sat []::F):=h
      (try simp only [ag,Nat.zero_add,Nat.add_zero])
      refine Ld.xb (b:=b1) (x:=4) h rfl (aa.f rfl (aa.f rfl (aa.f rfl (Ld.xb (b:=b1) (x:=4) h rfl ?_))))
      refine ar.found (ke:=fun n:Int=>Value.int .u8 n) (ve:=fun v:Value=>v) fY iu (a:=4) (x:=pE cX b) ph (h.at 4) rfl rfl (Ld.xt (b:=b1) h rfl ?_)
      rw [hsp] at h
      refine gn.mk (by kernel_rfl) (Mj (t:=t) (((h.at 7).at 7).at 7) (ad.at 1 ad.own) r3 (by omega) hn2 r4 fun w h=> ?_)
      rw [←hsp] at h
      (skip)
      refine St.xs (b:=b) h rfl rfl fun w h=> ?_
      dsimp only [aP,aq] at h
      rw [p7 (D2:={D1 with s:=s',u:=u',came:=D1.came++t}) r1.mode id] at h
      refine next {D1 with s:=s',u:=u',came:=D1.came++t} {X1 with f:=eR X1.f (0+D1.came.length) t} w (by simp) r1 (nD dok1 hb hp rfl rfl rfl hb (Nat.le_refl _) fun _=>rfl) r2 (ok.of rfl (fun hm=>absurd hm hmo) rfl r1.mode (fun hm=>absurd hm hmo) (fun _=>DD l3) hb) rfl rfl (fun _=>hmeas rfl) ?_
      refine sP (Jh (D:={D1 with s:=s',u:=u',came:=D1.came++t}) (X:={X1 with f:=eR X1.f (0+D1.came.length) t}) (F:=jK b m::F) (b:=b) hb he ?_)
      have h:=(h.no 3).no 3
      have h9:=(((((h.at 6).at 3).at 3).at 5).at 5).at 5
      exact h9
     |bend=>
      obtain ⟨q1,q2,q3,q4,q5,q6,q7⟩:=N9 dok1 hb hp
      have hmo:=dok1.modeE he q7
      have hmN:=dok1.modeN hmo
      have hpk:=Bo (budget:=D1.budget) (n:=PS.n D1.s) (side:=2) (by rw [←hmN.1];exact hmo)
      have hns:PS.n s'=PS.n D1.s:=by obtain ⟨_,⟨_,_,_,g⟩,_⟩:=inv;rw [g];rfl
      have h:Hp E w (af b1 (.cells ⟨[.int .u8 5,.int .i64 0,.int .i64 0,.int .i64 0,.int .u32 0,.slice sl.base sl.len sl.cap,.int .i64 0]⟩ 29 (0,0))::av 1 sl ([])::aZ X1.pp s'::Rd ⟨X1.pr,0,none⟩ D1.c u' D1.ended::jK b m::cG b D1 X1 .nilIface::Ar X1.A X1.f::dv D1 X1::Sat []::F):=h
      (try simp only [ag,Nat.zero_add,Nat.add_zero])
      refine Ld.xb (b:=b1) (x:=5) h rfl (aa.f rfl (aa.f rfl (aa.f rfl (Ld.xb (b:=b1) (x:=5) h rfl ?_))))
      refine ar.found (ke:=fun n:Int=>Value.int .u8 n) (ve:=fun v:Value=>v) fY iu (a:=5) (x:=pE di b) ph (h.at 4) rfl rfl (Ld.xt (b:=b1) h rfl ?_)
      have hd:dv D1 X1=dv {D1 with s:=s',u:=u'} X1:=p7 (fun _=>⟨rfl,hns⟩) id
      rw [hd] at h
      have ok':kz {D1 with s:=s',u:=u'} X1:=ok.of rfl (fun _=>rfl) rfl (fun _=>⟨rfl,hns⟩) (fun hm=>⟨hm,rfl⟩) (fun hm=>(ok.m1 hm).2.2) hb
      have md:MZ {D1 with s:=s',u:=u'} X1:=⟨ok',by dsimp only;rw [hmN.1];exact hpk.2.1,by dsimp only;rw [hmN.1];exact hpk.2.2,by dsimp only;rw [hns];exact hmN.2.2,q1,q2,by dsimp only;rw [hns];exact q3,q4,q5⟩
      have hmin:2*D1.M*min D1.M (cn D1.mode)≤2*D1.M*min (PS.n D1.s) (cn D1.mode):=Nat.mul_le_mul_left _ (by omega)
      refine gn.mk (by kernel_rfl) (Qv (D:={D1 with s:=s',u:=u'}) md dok1.cameb (((h.at 7).at 7).at 7) (fun x hx b' g st w wok hst h=> ?_) (fun e hx g st w hrow hst h=> ?_))
      ·obtain ⟨r1,r2⟩:=M7 (st:=st) dok1 he hb hp hx (Nat.le_trans hst hmin)
       (skip)
       refine St.xs (b:=b) h rfl rfl fun w h=> ?_
       dsimp only [aP,aq] at h
       obtain ⟨l1,l2,l3⟩:=ok'.m1 hmo
       refine next {D1 with s:=s',u:=u',back:=some (0,st)} {X1 with f:=g,wb:=b'} w (by simp) r1 (NT dok1 hb hp) r2 ⟨ok.bud,ok.bud1,fun hm=>absurd hm hmo,fun _=>⟨l1,l2,?_⟩,fun p hp2=> ?_⟩ rfl rfl (fun _=>hmeas rfl) ?_
       ·have:=wok.row
        dsimp only
        rw [q1]
        exact this
       ·cases hp2
        exact ⟨wok,by show st≤(2*D1.M+0)*min D1.M (cn D1.mode);rw [Nat.add_zero];exact hst⟩
       ·have hz:((D1.e:Nat):Int)=0:=by rw [he];rfl
        have h2:Hp E w (cG b {D1 with s:=s',u:=u',back:=some (0,st)} {X1 with f:=g,wb:=b'} (iW (eW {D1 with s:=s',u:=u'} {X1 with wb:=b'}))::WB (eW {D1 with s:=s',u:=u'} {X1 with wb:=b'}) X1.A D1.came 0 0 st::Ar X1.A g::dv {D1 with s:=s',u:=u'} X1::af b1 (.cells ⟨[.int .u8 5,.int .i64 0,.int .i64 0,.int .i64 0,.int .u32 0,.slice sl.base sl.len sl.cap,.int .i64 0]⟩ 29 (0,0))::av 1 sl []::aZ X1.pp s'::Rd ⟨X1.pr,0,none⟩ D1.c u' D1.ended::jK b m::Sat []::F):=by
         show Hp E w (af b (.cells ⟨[.int .i64 (D1.budget:Int),.int .u8 (D1.mode:Int),pA X1.A,.pointer (some ⟨X1.pr,0,none⟩),.pointer (some ⟨X1.pp,0,none⟩),.slice X1.sp.base X1.sp.len X1.sp.cap,.int .i64 (D1.M:Int),.int .i64 (D1.P:Int),.int .u32 (D1.sum:Int),.int .i64 (D1.came.length:Int),_,.int .i64 (i64 (D1.steps:Int)),.int .i64 (i64 (D1.all.length:Int)),.int .u32 (cH D1.all:Int),.int .i64 (D1.e:Int)]⟩ 156 (0,0))::_)
         rw [hz]
         exact h
        have h3:=(((h2.no 9).no 4).no 4)
        show Hp E w (jK b m::cG b {D1 with s:=s',u:=u',back:=some (0,st)} {X1 with f:=g,wb:=b'} (iW (eW {D1 with s:=s',u:=u'} {X1 with wb:=b'}))::aZ X1.pp s'::Rd ⟨X1.pr,0,none⟩ D1.c u' D1.ended::Ar X1.A g::dv {D1 with s:=s',u:=u'} X1::WB (eW {D1 with s:=s',u:=u'} {X1 with wb:=b'}) X1.A D1.came 0 0 st::F)
        have h9:=(((((h3.at 3).at 3).at 5).at 5).at 4).at 6
        exact h9
      ·obtain ⟨r1,r2⟩:=HN (st:=st) dok1 he hb hp hx (Nat.le_trans hst hmin)
       (skip)
       refine St.xs (b:=b) h rfl rfl fun w h=> ?_
       dsimp only [aP,aq] at h
       have hd2:dv {D1 with s:=s',u:=u'} X1=dv {D1 with s:=s',u:=u',steps:=D1.steps+st,e:=e} X1:=rfl
       refine next {D1 with s:=s',u:=u',steps:=D1.steps+st,e:=e} {X1 with f:=g} w (by simp) r1 (nD dok1 hb hp rfl rfl rfl hb (Nat.le_add_right ..) fun h=>absurd rfl h) r2 (ok.of rfl (fun hm=>absurd hm hmo) rfl r1.mode (fun hm=>absurd hm hmo) (fun _=>by dsimp only;rw [q1];exact hrow) hb) rfl rfl (fun _=>hmeas rfl) ?_
       refine sP (xp (D:={D1 with s:=s',u:=u',steps:=D1.steps+st,e:=e}) (X:={X1 with f:=g}) (F:=jK b m::F) (b:=b) hb ?_)
       have h:=(h.no 3).no 3
       have h9:=(((((h.at 6).at 3).at 3).at 5).at 5).at 5
       exact h9
     |tail q=>
      obtain ⟨r1,r2⟩:=NO dok1 he hb hp
      have h:Hp E w (af b1 (.cells ⟨[.int .u8 6,.int .i64 0,.int .i64 0,.int .i64 0,.int .u32 (q:Int),.slice sl.base sl.len sl.cap,.int .i64 0]⟩ 29 (0,0))::av 1 sl ([])::aZ X1.pp s'::Rd ⟨X1.pr,0,none⟩ D1.c u' D1.ended::jK b m::cG b D1 X1 .nilIface::Ar X1.A X1.f::dv D1 X1::Sat []::F):=h
      (try simp only [ag,Nat.zero_add,Nat.add_zero])
      refine Ld.xb (b:=b1) (x:=6) h rfl (aa.f rfl (aa.f rfl (aa.f rfl (Ld.xb (b:=b1) (x:=6) h rfl ?_))))
      refine ar.found (ke:=fun n:Int=>Value.int .u8 n) (ve:=fun v:Value=>v) fY iu (a:=6) (x:=pE cZ b) ph (h.at 4) rfl rfl (Ld.xt (b:=b1) h rfl ?_)
      have hmo:=dok1.modeE he (by obtain ⟨_,⟨g,_⟩,_⟩:=inv;exact g)
      refine gn.mk (by kernel_rfl) (PB (q:=q) (h.at 5) fun w h=> ?_)
      (skip)
      refine St.xs (b:=b) h rfl rfl fun w h=> ?_
      dsimp only [aP,aq] at h
      rw [p7 (D2:={D1 with s:=s',u:=u',e:=if q=cH D1.all then 0 else 260}) r1.mode id] at h
      refine next {D1 with s:=s',u:=u',e:=if q=cH D1.all then 0 else 260} X1 w (by simp) r1 (nD dok1 hb hp rfl rfl rfl hb (Nat.le_refl _) fun _=>rfl) r2 (ok.of rfl (fun _=>rfl) rfl r1.mode (fun hm=>absurd hm hmo) (fun hm=>(ok.m1 hm).2.2) hb) rfl rfl (fun _=>hmeas rfl) ?_
      refine sP (xp (D:={D1 with s:=s',u:=u',e:=if q=cH D1.all then 0 else 260}) (X:=X1) (F:=jK b m::F) (b:=b) hb ?_)
      have h:=(h.no 1).no 1
      have h9:=(((((h.at 6).at 6).at 6).at 5).at 5).at 5
      exact h9
     |fin=>
      obtain ⟨r1,r2,r3⟩:=Qn dok1 he hb hp
      have hs':s'= .aq (PS.n D1.s):=by obtain ⟨_,⟨_,g⟩,_⟩:=inv;exact g
      (try simp only [ag,Nat.zero_add,Nat.add_zero])
      refine Ld.xb (b:=b1) (x:=7) h rfl (aa.f rfl (aa.t rfl ?_))
      refine hK {D1 with s:=s',u:=u'} 0 3 0 w (lN.stay (rel.trans r1) dok r2 (fun hf=> ?_) (mor.trans (nD dok1 hb hp rfl rfl rfl hb (Nat.le_refl _) fun _=>rfl)) (.inr (.inl ⟨rfl,rfl,.inr ⟨hb,_,hs'⟩,fun en z hz=> ?_⟩))) (cJ.shut X1 (ok.of rfl (fun _=>rfl) rfl r1.mode (fun hm=>⟨hm,rfl⟩) (fun hm=>(ok.m1 hm).2.2) hb) (xp (D:={D1 with s:=s',u:=u'}) hb ?_))
      ·have hd:=hfin hf
       rw [←hd] at hf⊢
       exact Fin.same he hp hf
      ·rw [←rel.out en z hz]
       exact r3 en z (Eb rel.ended hz)
      ·rw [p7 (D2:={D1 with s:=s',u:=u'}) r1.mode id] at h
       have h9:=(((h.no 0).no 0).no 2).at 2
       exact h9
     |bad er=>
      obtain ⟨r1,r2,r3⟩:=Qx dok1 he hb hp
      (try simp only [ag,Nat.zero_add,Nat.add_zero])
      refine Ld.xb (b:=b1) (x:=8) h rfl (aa.f rfl (aa.f rfl (aa.t rfl (Ld.xb (b:=b1) (x:=(er:Int)) h rfl ?_))))
      refine St.xs (b:=b) h rfl rfl fun w h=> ?_
      dsimp only [aP,aq] at h
      rw [p7 (D2:={D1 with s:=s',u:=u',e:=er}) r1.mode id] at h
      refine next {D1 with s:=s',u:=u',e:=er} X1 w (by simp) r1 (nD dok1 hb hp rfl rfl rfl hb (Nat.le_refl _) fun _=>rfl) r2 (ok.of rfl (fun _=>rfl) rfl r1.mode (fun hm=>⟨hm,rfl⟩) (fun hm=>(ok.m1 hm).2.2) hb) rfl rfl (fun h=>absurd h r3) ?_
      refine sP (xp (D:={D1 with s:=s',u:=u',e:=er}) (X:=X1) (F:=jK b m::F) (b:=b) hb ?_)
      have h:=((h.no 0).no 0)
      have h9:=(((((h.at 6).at 6).at 6).at 4).at 4).at 6
      exact h9
   ·have h:=h.drew (n:=w0.drawn+1)
    refine ⟨br b _ _ (0,0),h.hb,?_⟩
    (try simp only [])
    refine aw.xb (fun _ h=>h) rfl (aw.xb (fun _ h=>h) rfl ⟨?_,?_⟩)
    ·refine Gl ((h.at 3).at 3) fun sl w hlt h=> ?_
     rw [hp] at hlt h⊢
     dsimp only at hlt h⊢
     refine ⟨h.hb,Nw.mk h fun b1 w h=>⟨h.hb,?_⟩⟩
     (with_reducible refine ae.xw h rfl rfl (fun w h=> ?_))
     exact ⟨h.hb,hr' _ w ⟨b1,sl,rfl,hlt,h⟩⟩
    ·refine Nw.mk h fun b1 w h=>⟨h.hb,?_⟩
     refine Gl ((h.at 4).at 4) fun sl w hlt h=> ?_
     rw [hp] at hlt h⊢
     dsimp only at hlt h⊢
     refine ⟨h.hb,?_⟩
     (with_reducible refine ae.xw h rfl rfl (fun w h=> ?_))
     have h9:=h.at 3
     exact ⟨h.hb,hr' _ w ⟨b1,sl,rfl,hlt,h9⟩⟩
  ·have hx2:x<256:=z6 dok1.cameb _ (List.mem_reverse.1 (List.mem_of_getElem? hx))
   refine aa.t rfl (hK _ x 1 0 w (lN.tell rel dok dok1 hb hx hx2 hcc (fun hf=> ?_) mor) (cJ.shut X' okx' ?_))
   ·have:=hfin hf
    rw [←this] at hf
    rcases hf with h0|⟨h1,_⟩
    ·exact h0 he
    ·rw [hb] at h1;cases h1
   ·have h:Hp E w (cG b (D1.tell x k (st+c)) X' (gK (D1.tell x k (st+c)) X')::aZ X'.pp (D1.tell x k (st+c)).s::Rd ⟨X'.pr,0,none⟩ (D1.tell x k (st+c)).c (D1.tell x k (st+c)).u (D1.tell x k (st+c)).ended::Ar X'.A X'.f::dv (D1.tell x k (st+c)) X'::mi (D1.tell x k (st+c)) X'::jK b m::F):=h
    have h9:=h.no 6
    exact h9
 ·have hne:D1.e≠0:=by omega
  refine aY.mk h fun w h=> ?_
  (skip)
  refine Ld.xb (b:=b) (x:=(D1.e:Int)) h rfl (hK D1 0 4 D1.e w (lN.stay rel dok dok1 hfin mor (.inr (.inr ⟨rfl,rfl,hne,.inl hne⟩))) (cJ.shut X1 ok (h.no 0)))
end
end Go.Proofs.YtgglghjnakclmaaGreat
namespace Go.Proofs.YtgglghjnakclmaaGreat
open Go Go.Vc
set_option maxRecDepth 100000
theorem EW.ok (a:Sl) (R:Sl→Int→World→Prop) w (h:
 Cl Pg [kS] gE ⟨[(an a)]⟩ w fun (c:Sl) b=>
 Cl Pg [kS,kI] qe ⟨[(an c)]⟩ b fun (e:Sl) (f:Int) d=>
 R e f d):Cl Pg [kS,kI] jA ⟨[(an a)]⟩ w R:=co Tryz.f27 [] h
theorem Ic.ok (a:Int) (b:Sl) (R:Sl→Int→World→Prop) w (h:
 Cl Pg [kS,kI] jA ⟨[(an b)]⟩ w fun (d:Sl) (e:Int) c=>
 Nw 26 ⟨[(an b)]⟩ c fun g f=>
 Cl Pg [(ao .u32)] jG ⟨[(an (⟨some ⟨g,0,none⟩,1,1⟩:Sl))]⟩ f fun (i:Int) h=>
 Cl Pg [kS,kI] kN ⟨[(ni a),(.agg ⟨[(ni (b.len:Int)),(ni e),(.int .u32 i)]⟩)]⟩ h fun (k:Sl) (l:Int) j=>
 aa (l !=0)
 (R (⟨none,0,0⟩:Sl) 2 j)
 (Cl Pg [(.arr 258)] lT ⟨[(an b)]⟩ j fun n m=>
 Nw 104 ⟨List.replicate 258 (.int .u8 0)⟩ m fun p o=>
 ak 258 ⟨p,0,none⟩ n o fun q=>
 Ld (.arr 258) ⟨p,0,none⟩ q fun r=>
 Cl Pg [kS,kI] tw ⟨[(.agg r)]⟩ q fun (t:Sl) (u:Int) s=>
 cB s fun v x=>
 aw (.arr 258) ⟨p,0,none⟩ v fun y=>
 Cl Pg [kS] iI ⟨[(an b)]⟩ x fun (a1:Sl) z=>
 v z∧
 Cl Pg [kS,kB] pG ⟨[(.agg y),(an a1)]⟩ z fun (c1:Sl) (d1:Bool) b1=>
 v b1∧
 ar Pg (Builtin.append_ #[142,142] 142 ⟨[(an t),(an c1)]⟩) kS b1 fun (f1:Sl) e1=>
 Cl Pg [kS] nS ⟨[(an f1)]⟩ e1 fun (h1:Sl) g1=>
 ar Pg (Builtin.append_ #[26,26] 26 ⟨[(an k),(an h1)]⟩) kS g1 fun (j1:Sl) i1=>
 R j1 0 i1)):Cl Pg [kS,kI] pz ⟨[(ni a),(an b)]⟩ w R:=co Tryz.f78 [] h
theorem BU.ok (a:Sl) (R:(Array Value)→World→Prop) w (h:
 Nw 104 ⟨List.replicate 258 (.int .u8 0)⟩ w fun c b=>
 Cl Pg [kS] iI ⟨[(an a)]⟩ b fun (e:Sl) d=>
 Cl Pg [(.arr 258),kI] tF ⟨[(an e)]⟩ d fun g (h:Int) f=>
 Nw 215 ⟨List.replicate 258 (ni 0)⟩ f fun j i=>
 ak 258 ⟨j,0,none⟩ g i fun k=>
 Ld (.arr 258) ⟨j,0,none⟩ k fun l=>
 Cl Pg [(.arr 258),kI] iN ⟨[(.agg l),(ni 15)]⟩ k fun n (o:Int) m=>
 Nw 104 ⟨List.replicate 258 (.int .u8 0)⟩ m fun q p=>
 ak 258 ⟨q,0,none⟩ n p fun r=>
 Ld (.arr 258) ⟨q,0,none⟩ r fun s=>
 ak 258 ⟨c,0,none⟩ s r fun t=>
 Ld (.arr 258) ⟨c,0,none⟩ t fun u=>
 R u t):Cl Pg [(.arr 258)] lT ⟨[(an a)]⟩ w R:=co Tryz.f126 [] h
theorem B7.ok (a:Sl) (R:Sl→World→Prop) w (h:
 Cl Pg [kS,kI] jA ⟨[(an a)]⟩ w fun (c:Sl) (d:Int) b=>
 Cl Pg [kS] rr ⟨[(an c)]⟩ b fun (f:Sl) e=>
 R f e):Cl Pg [kS] iI ⟨[(an a)]⟩ w R:=co Tryz.f129 [] h
theorem Ew.ok (a:Int) (b:Sl) (R:Sl→Sl→Int→World→Prop) w (h:
 Cl Pg [(.st a5),kS,kI] fh ⟨[(ni a),(an b)]⟩ w fun d (e:Sl) (f:Int) c=>
 Nw 102 ⟨[(ni 0),(ni 0),(ni 0),(ni 0),(ni 0),(.int .u32 0),(ni 0)]⟩ c fun h g=>
 ae ⟨h,0,none⟩ [(ni d.1),(ni d.2.1),(ni d.2.2.1),(ni d.2.2.2.1),(ni d.2.2.2.2.1),(.int .u32 d.2.2.2.2.2.1),(ni d.2.2.2.2.2.2.1)] 0 g fun i=>
 aa (f !=0)
 (R (⟨none,0,0⟩:Sl) (⟨none,0,0⟩:Sl) f i)
 (Ld kI (Addr.add ⟨h,0,none⟩ 0) i fun (j:Int)=>
 aa (j !=4)
 (R (⟨none,0,0⟩:Sl) (⟨none,0,0⟩:Sl) 242 i)
 (Cl Pg [kS] tn ⟨[(an e)]⟩ i fun (l:Sl) k=>
 Cl Pg [(.arr 258),kI,kI] qg ⟨[(an l)]⟩ k fun n (o:Int) (p:Int) m=>
 Nw 104 ⟨List.replicate 258 (.int .u8 0)⟩ m fun r q=>
 ak 258 ⟨r,0,none⟩ n q fun s=>
 aa (p !=0)
 (R (⟨none,0,0⟩:Sl) (⟨none,0,0⟩:Sl) p s)
 (aY s fun d1=>
 Ld kI ((Addr.add ⟨h,0,none⟩ 3).add 0) d1 fun (e1:Int)=>
 Ld (.arr 258) ⟨r,0,none⟩ d1 fun f1=>
 bj l o (l).len (l).cap 1 fun g1=>
 Cl Pg [kS,kI,kI] mz ⟨[(ni e1),(.agg f1),(an g1)]⟩ d1 fun (i1:Sl) (j1:Int) (k1:Int) h1=>
 aa (k1 !=0)
 (R (⟨none,0,0⟩:Sl) (⟨none,0,0⟩:Sl) k1 h1)
 (ee (i64 (o+j1)) h1 fun l1 m1 (n1:Int) o1=>
 (8:Int)≠0∧
 aa (((Int.tmod n1 (8:Int)):Int) !=0)
 (ay l n1 1 fun p1=>
 Ld kI p1 o1 fun (q1:Int)=>
 aa (q1==1)
 (R (⟨none,0,0⟩:Sl) (⟨none,0,0⟩:Sl) 160 o1)
 (l1 (i64 (n1+1)) o1∧m1 (i64 (n1+1)) o1<m1 n1 o1))
 (Ld kI ((Addr.add ⟨h,0,none⟩ 3).add 1) o1 fun (r1:Int)=>
 Cl Pg [kS,kI] pT ⟨[(an i1),(ni r1)]⟩ o1 fun (t1:Sl) (u1:Int) s1=>
 aa (u1 !=0)
 (R (⟨none,0,0⟩:Sl) (⟨none,0,0⟩:Sl) u1 s1)
 (Cl Pg [kS] gE ⟨[(an t1)]⟩ s1 fun (x1:Sl) v1=>
 cB v1 fun g2 h2=>
 aw (ao .u32) ((Addr.add ⟨h,0,none⟩ 3).add 2) g2 fun (i2:Int)=>
 Nw 26 ⟨[(an x1)]⟩ h2 fun k2 j2=>
 g2 j2∧
 Cl Pg [(ao .u32)] jG ⟨[(an (⟨some ⟨k2,0,none⟩,1,1⟩:Sl))]⟩ j2 fun (m2:Int) l2=>
 g2 l2∧
 aa (m2 !=i2)
 (R (⟨none,0,0⟩:Sl) (⟨none,0,0⟩:Sl) 250 l2)
 (Nw 5 ⟨[]⟩ l2 fun o2 n2=>
 (8:Int)≠0∧
 bj e (i64 (Int.tdiv n1 (8:Int))) (e).len (e).cap 1 fun p2=>
 ar Pg (Builtin.append_ #[26,26] 26 ⟨[(an (⟨some ⟨o2,0,none⟩,0,0⟩:Sl)),(an p2)]⟩) kS n2 fun (r2:Sl) q2=>
 R x1 r2 0 q2)))))))):Cl Pg [kS,kS,kI] mC ⟨[(ni a),(an b)]⟩ w R:=co Tryz.f154 [(33,[(17,kI)])] h
theorem Ir.ok (a:(Array Value)) (b:(Array Value)) (c:Sl) (d:Int) (R:Int→Int→Bool→World→Prop) w (h:
 Nw 104 a w fun f e=>
 Nw 237 b e fun h g=>
 cp 0 1 g fun i j (k:Int) (l:Int) m=>
 aQ (fun (o:World)=>
 ay c (i64 ((i64 (d+l)) - 1)) 1 fun p=>
 Ld kI p o fun (q:Int)=>
 ee 0 o fun r s (t:Int) u=>
 aa (decide (t<258))
 (au ⟨f,0,none⟩ 258 t 1 fun v=>
 Ld (ao .u8) v u fun (x:Int)=>
 aa ((i64 x)==l)
 (au ⟨h,0,none⟩ 258 t 1 fun y=>
 Ld (ao .u32) y u fun (z:Int)=>
 aa (z==(u32 ((u32 ((2:Int)*k))+(u32 q))))
 (R t l true u)
 (r (i64 (t+1)) u∧s (i64 (t+1)) u<s t u))
 (r (i64 (t+1)) u∧s (i64 (t+1)) u<s t u))
 (i (u32 ((u32 ((2:Int)*k))+(u32 q))) (i64 (l+1)) u∧j (u32 ((u32 ((2:Int)*k))+(u32 q))) (i64 (l+1)) u<j k l m)) fun n=>
 aa (decide (l≤15))
 (aa (decide ((i64 (d+l))≤(c.len:Int)))
 (n m)
 (R 0 0 false m))
 (R 0 0 false m)):Cl Pg [kI,kI,kB] pB ⟨[(.agg a),(.agg b),(an c),(ni d)]⟩ w R:=co Tryz.f161 [(7,[(11,(ao .u32)),(12,kI)]),(8,[]),(16,[(13,kI)])] h
theorem DW.ok (a:Int) (b:(Array Value)) (c:Sl) (R:Sl→Int→Int→World→Prop) w (h:
 Nw 104 b w fun e d=>
 Ld (.arr 258) ⟨e,0,none⟩ d fun f=>
 Cl Pg [(.arr 258),kI] kx ⟨[(.agg f)]⟩ d fun h (i:Int) g=>
 Nw 237 ⟨List.replicate 258 (.int .u32 0)⟩ g fun k j=>
 ak 258 ⟨k,0,none⟩ h j fun l=>
 Cl Pg [(.arr 260)] rh ⟨[(ni a)]⟩ l fun n m=>
 Nw 112 ⟨List.replicate 256 (.int .u8 0)++ [(ni 0),(ni 0),(ni 0),(.bool false)]⟩ m fun p o=>
 ak 260 ⟨p,0,none⟩ n o fun q=>
 cp (⟨none,0,0⟩:Sl) 0 q fun r s (t:Sl) (u:Int) v=>
 Ld (.arr 258) ⟨e,0,none⟩ v fun x=>
 Ld (.arr 258) ⟨k,0,none⟩ v fun y=>
 Cl Pg [kI,kI,kB] pB ⟨[(.agg x),(.agg y),(an c),(ni u)]⟩ v fun (a1:Int) (b1:Int) (c1:Bool) z=>
 aa (!c1)
 (R (⟨none,0,0⟩:Sl) 0 50 z)
 (Ld (.arr 260) ⟨p,0,none⟩ z fun d1=>
 Cl Pg [(.arr 260),kS,kB,kI] pL ⟨[(.agg d1),(ni a1)]⟩ z fun f1 (g1:Sl) (h1:Bool) (i1:Int) e1=>
 Nw 112 ⟨List.replicate 256 (.int .u8 0)++ [(ni 0),(ni 0),(ni 0),(.bool false)]⟩ e1 fun k1 j1=>
 ak 260 ⟨k1,0,none⟩ f1 j1 fun l1=>
 aa (i1 !=0)
 (R (⟨none,0,0⟩:Sl) 0 i1 l1)
 (Ld (.arr 260) ⟨k1,0,none⟩ l1 fun m1=>
 ak 260 ⟨p,0,none⟩ m1 l1 fun n1=>
 ar Pg (Builtin.append_ #[26,26] 26 ⟨[(an t),(an g1)]⟩) kS n1 fun (p1:Sl) o1=>
 aa h1
 (R p1 (i64 (u+b1)) 0 o1)
 (r p1 (i64 (u+b1)) o1∧s p1 (i64 (u+b1)) o1<s t u v)))):Cl Pg [kS,kI,kI] mz ⟨[(ni a),(.agg b),(an c)]⟩ w R:=co Tryz.f214 [(10,[(12,kS),(13,kI)])] h
end Go.Proofs.YtgglghjnakclmaaGreat
namespace Go.Vc
open Go
section
variable {α:Type} {g:α→List Value} {sz:Nat}
theorem S0 (hg: ∀x,(g x).length=sz) {l:List α} {j k:Nat} {v:Value} {x:α} (hj:j<l.length) (hk:k<sz) (hx:g x=(g l[j]).set k v):(l.flatMap g).set (j*sz+k) v=(l.set j x).flatMap g:=by
 have h0:0<sz:=by omega
 have hm:(j+1)*sz≤l.length*sz:=Nat.mul_le_mul_right _ hj
 rw [Nat.succ_mul] at hm
 apply List.ext_getElem?
 intro i
 have hfl:=dF hg l
 have hfl2:=dF hg (l.set j x)
 rw [List.length_set] at hfl2
 by_cases hi:i<l.length*sz
 ·obtain ⟨q,hq⟩: ∃q,i/sz=q:=⟨_,rfl⟩
  obtain ⟨r,hr⟩: ∃r,i % sz=r:=⟨_,rfl⟩
  have hdi:q<l.length:=by rw [←hq,Nat.div_lt_iff_lt_mul h0];exact hi
  have hmi:q*sz+r=i:=by rw [←hq,←hr];exact Nat.div_add_mod' i sz
  have hlt:r<sz:=by rw [←hr];exact Nat.mod_lt _ h0
  clear hq hr
  subst hmi
  have e1:=ns hg l q r hdi hlt
  have e2:=ns hg (l.set j x) q r (by rw [List.length_set];exact hdi) hlt
  have hd: ∀a b:Nat,b<sz→(a*sz+b)/sz=a:=fun a b hb=>by rw [Nat.mul_comm,Nat.mul_add_div h0,Nat.div_eq_of_lt hb,Nat.add_zero]
  have hmd: ∀a b:Nat,b<sz→(a*sz+b) % sz=b:=fun a b hb=>by rw [Nat.mul_comm,Nat.mul_add_mod,Nat.mod_eq_of_lt hb]
  rw [e2,List.getElem?_set,e1,List.getElem_set]
  by_cases hji:j=q
  ·subst hji
   rw [if_pos rfl,hx,List.getElem?_set,hg]
   by_cases hki:k=r
   ·subst hki
    rw [if_pos rfl,if_pos (by rw [hfl];omega),if_pos rfl,if_pos hk]
   ·rw [if_neg (by omega),if_neg hki]
  ·rw [if_neg hji,if_neg (fun e=>hji ((hd j k hk).symm.trans ((congrArg (fun y=>y/sz) e).trans (hd q r hlt))))]
 ·rw [List.getElem?_eq_none (by rw [List.length_set,hfl];omega),List.getElem?_eq_none (by rw [hfl2];omega)]
end
section
variable {E w:World} {F:List HP} {α:Type} {g:α→List Value} {sz:Nat} {s:Sl}
theorem ay.setCell {l:List α} {i:Int} {j k:Nat} {v:Value} {x:α} {K:World→Prop} (hg: ∀x,(g x).length=sz) (h0:k<sz) (hh:Hp E w (av sz s (l.flatMap g)::F)) (hi:i=(j:Int)) (hj:j<l.length) (hv:aA v=true) (hx:g x=(g l[j]).set k v)
  (h: ∀w',Hp E w' (av sz s ((l.set j x).flatMap g)::F)→K w'):ay s i sz fun q=>St (q.add k) v w K:=by
 subst hi
 have hlen:=aH.len hg (by omega) (hh.aj ad.own)
 refine St.Re hh h0 (by omega) (by omega) hv fun w' h'=>h w' ?_
 rw [Int.toNat_natCast,S0 hg hj h0 hx] at h'
 exact h'
end
end Go.Vc
namespace Go.Vc
open Go
theorem Cb {P:Program} {t ty e e2:TypeId} {E w:World} {F:List HP} {s:Sl} {bs:List Nat} {x:Nat} {cs:Array Value} {K:Sl→World→Prop} (he:cE P t e 1 1) (hcs:cs=⟨[vB x]⟩) (hh:Hp E w (av 1 s (bs.map vB)::F)) (hb:bs.length≤du)
  (h: ∀s' w',Hp E w' (av 1 s' ((bs++ [x]).map vB)::F)→s'.len=bs.length+1→K s' w'):
  Nw e2 cs w fun b w1=>ar P (Builtin.append_ #[t,t] ty ⟨[.slice s.base s.len s.cap,.slice (some ⟨b,0,none⟩) 1 1]⟩) kS w1 K:=by
 have hl:=hh.bK
 rw [List.length_map,Nat.mul_one] at hl
 rw [aX] at hb
 refine Nw.mk hh fun b w1 h1=>bf (ys:= [vB x]) (n:=1) he (by decide) (.inl ⟨e,he.und⟩) h1.p1 (.inl ⟨some ⟨b,0,none⟩,1,1,rfl,rfl,h1.aj (ad.az (by rw [hcs]) rfl)⟩) rfl (fun y hy=>by
  rw [List.mem_singleton] at hy;subst hy;rfl) (by omega) (by omega) fun s' w2 h2 hs'=>h s' w2 ?_ (by omega)
 rw [List.map_append]
 exact h2.p1.drop
end Go.Vc
namespace Go.Proofs.YtgglghjnakclmaaGreat
open Go Go.Vc Go.Bw
theorem B9:cE Tryz.prog 26 5 1 1:= .of (by kernel_rfl) (by kernel_rfl)
theorem Gs (n i:Nat):(List.replicate n (0:Int)).getD i 0=0:=by
 simp only [List.getD,List.getElem?_replicate]
 split<;>rfl
section
variable {E w:World} {F:List HP}
def yK (t:List Nat) (i k:Int):Bool:=decide (0≤i∧i≤t.length∧0≤k∧k≤t.length)&&sl t i.toNat k.toNat
end
end Go.Proofs.YtgglghjnakclmaaGreat
namespace Go.Vc
open Go
def og (a:Int×Int):Value:= .agg ⟨[.int .i64 a.1,.int .i64 a.2]⟩
end Go.Vc
namespace Go.Proofs.YtgglghjnakclmaaGreat
open Go Go.Vc Go.Bw Go.Hs
section
variable {E w:World} {F:List HP}
def LZ (last:List Nat) (index:Int):Prop:=0≤index∧okB last index.toNat
theorem yy:cE Tryz.prog 142 3 1 8:= .of (by kernel_rfl) (by kernel_rfl)
end
end Go.Proofs.YtgglghjnakclmaaGreat
namespace Go.Proofs.YtgglghjnakclmaaGreat
open Go Go.Vc Go.Bw Go.Hs
section
variable {E w:World} {F:List HP}
theorem xT {l:List Nat} {k:Nat} (hk:k<l.length):((l.take (k+1)).filter fun i=>i !=0)=((l.take k).filter fun i=>i !=0)++if l[k]=0 then [] else [l[k]]:=by
 rw [List.take_add_one,List.getElem?_eq_getElem hk,List.filter_append]
 congr 1
 by_cases e:l[k]=0
 ·rw [if_pos e];simp [e]
 ·rw [if_neg e];simp [e]
end
end Go.Proofs.YtgglghjnakclmaaGreat
namespace Go.Proofs.YtgglghjnakclmaaGreat
open Go Go.Vc Go.Srt Go.Inc Go.Hd
section
variable {E w:World} {F:List HP}
theorem wZ {α σ β ε:Type} {f:σ→α→tX σ β ε} {s s':σ} {l:List α} {k:Nat} (h:run f s (l.take k)= .short s'):run f s l=run f s' (l.drop k):=by
 conv=>lhs;rw [←List.take_append_drop k l]
 exact eV h _
abbrev QY:fq:=(0,0,0,0,0,0,0,())
end
end Go.Proofs.YtgglghjnakclmaaGreat
namespace Go.Proofs.YtgglghjnakclmaaGreat
open Go Go.Vc
set_option maxRecDepth 100000
theorem LO.ok (a:Int) (R:(Array Value)→World→Prop) w (h:
 Nw 112 ⟨List.replicate 256 (.int .u8 0)++ [(ni 0),(ni 0),(ni 0),(.bool false)]⟩ w fun c b=>
 aa (decide (a<1))
 (bP Pg 112 [] fun d=>
 ak 260 ⟨c,0,none⟩ d b fun e=>
 Ld (.arr 260) ⟨c,0,none⟩ e fun f=>
 R f e)
 (aa (decide (a>65536))
 (bP Pg 112 [] fun g=>
 ak 260 ⟨c,0,none⟩ g b fun h=>
 Ld (.arr 260) ⟨c,0,none⟩ h fun i=>
 R i h)
 (Cl Pg [(.arr 256)] nk ⟨[]⟩ b fun k j=>
 bP Pg 112 [(0,(.agg k)),(1,(ni a))] fun l=>
 ak 260 ⟨c,0,none⟩ l j fun m=>
 Ld (.arr 260) ⟨c,0,none⟩ m fun n=>
 R n m))):Cl Pg [(.arr 260)] rh ⟨[(ni a)]⟩ w R:=co Tryz.f160 [] h
theorem HX.ok (a:(Array Value)) (b:Int) (R:(Array Value)→Sl→Bool→Int→World→Prop) w (h:
 Nw 112 a w fun d c=>
 Nw 112 ⟨List.replicate 256 (.int .u8 0)++ [(ni 0),(ni 0),(ni 0),(.bool false)]⟩ c fun f e=>
 aQ (fun (y:World)=>
 Ld (.arr 260) ⟨d,0,none⟩ y fun z=>
 Nw 112 ⟨List.replicate 256 (.int .u8 0)++ [(ni 0),(ni 0),(ni 0),(.bool false)]⟩ y fun b1 a1=>
 ak 260 ⟨b1,0,none⟩ z a1 fun c1=>
 aa (decide (b<2))
 (Ld kI (Addr.add ⟨d,0,none⟩ 257) c1 fun (d1:Int)=>
 Cl Pg [kS,kI] jB ⟨[(ni d1)]⟩ c1 fun (f1:Sl) (g1:Int) e1=>
 Nw 3 ⟨[(ni b)]⟩ e1 fun i1 h1=>
 ar Pg (Builtin.append_ #[142,142] 142 ⟨[(an f1),(an (⟨some ⟨i1,0,none⟩,1,1⟩:Sl))]⟩) kS h1 fun (k1:Sl) j1=>
 Cl Pg [kI,kI] my ⟨[(an k1)]⟩ j1 fun (m1:Int) (n1:Int) l1=>
 Ld kI (Addr.add ⟨d,0,none⟩ 256) l1 fun (o1:Int)=>
 aa (decide (m1>o1))
 (Ld (.arr 260) ⟨d,0,none⟩ l1 fun p1=>
 ak 260 ⟨f,0,none⟩ p1 l1 fun q1=>
 Ld (.arr 260) ⟨f,0,none⟩ q1 fun r1=>
 R r1 (⟨none,0,0⟩:Sl) false 160 q1)
 (St (Addr.add ⟨b1,0,none⟩ 257) (ni m1) l1 fun s1=>
 Ld kI (Addr.add ⟨b1,0,none⟩ 258) s1 fun (t1:Int)=>
 St (Addr.add ⟨b1,0,none⟩ 258) (ni (i64 (t1+1))) s1 fun u1=>
 Ld (.arr 260) ⟨b1,0,none⟩ u1 fun v1=>
 ak 260 ⟨f,0,none⟩ v1 u1 fun x1=>
 Ld (.arr 260) ⟨f,0,none⟩ x1 fun y1=>
 R y1 (⟨none,0,0⟩:Sl) false 0 x1))
 (Ld kI (Addr.add ⟨d,0,none⟩ 257) c1 fun (z1:Int)=>
 Ld kI (Addr.add ⟨d,0,none⟩ 256) c1 fun (a2:Int)=>
 aa (!((b==257)==(z1==a2)))
 (Ld (.arr 260) ⟨d,0,none⟩ c1 fun b2=>
 ak 260 ⟨f,0,none⟩ b2 c1 fun c2=>
 Ld (.arr 260) ⟨f,0,none⟩ c2 fun d2=>
 R d2 (⟨none,0,0⟩:Sl) false 160 c2)
 (cp (⟨none,0,0⟩:Sl) 0 c1 fun e2 f2 (g2:Sl) (h2:Int) i2=>
 Ld kI (Addr.add ⟨d,0,none⟩ 257) i2 fun (j2:Int)=>
 aa (decide (h2<j2))
 (au (Addr.add ⟨d,0,none⟩ 0) 256 0 1 fun k2=>
 Ld (ao .u8) k2 i2 fun (l2:Int)=>
 Nw 5 ⟨[(.int .u8 l2)]⟩ i2 fun n2 m2=>
 ar Pg (Builtin.append_ #[26,26] 26 ⟨[(an g2),(an (⟨some ⟨n2,0,none⟩,1,1⟩:Sl))]⟩) kS m2 fun (p2:Sl) o2=>
 e2 p2 (i64 (h2+1)) o2∧f2 p2 (i64 (h2+1)) o2<f2 g2 h2 i2)
 (aa (b==257)
 (St (Addr.add ⟨b1,0,none⟩ 256) (ni 0) i2 fun q2=>
 St (Addr.add ⟨b1,0,none⟩ 257) (ni 0) q2 fun r2=>
 St (Addr.add ⟨b1,0,none⟩ 258) (ni 0) r2 fun s2=>
 St (Addr.add ⟨b1,0,none⟩ 259) (.bool true) s2 fun t2=>
 Ld (.arr 260) ⟨b1,0,none⟩ t2 fun u2=>
 ak 260 ⟨f,0,none⟩ u2 t2 fun v2=>
 Ld (.arr 260) ⟨f,0,none⟩ v2 fun x2=>
 R x2 g2 true 0 v2)
 (Ld (.arr 256) (Addr.add ⟨d,0,none⟩ 0) i2 fun y2=>
 Cl Pg [(.arr 256),(ao .u8),kB] me ⟨[(.agg y2),(ni (i64 (b - 1)))]⟩ i2 fun a3 (b3:Int) (c3:Bool) z2=>
 Nw 110 ⟨List.replicate 256 (.int .u8 0)⟩ z2 fun e3 d3=>
 ak 256 ⟨e3,0,none⟩ a3 d3 fun f3=>
 Nw 5 ⟨[(.int .u8 b3)]⟩ f3 fun h3 g3=>
 ar Pg (Builtin.append_ #[26,26] 26 ⟨[(an g2),(an (⟨some ⟨h3,0,none⟩,1,1⟩:Sl))]⟩) kS g3 fun (j3:Sl) i3=>
 Ld (.arr 256) ⟨e3,0,none⟩ i3 fun k3=>
 Ld kI (Addr.add ⟨d,0,none⟩ 256) i3 fun (l3:Int)=>
 bP Pg 112 [(0,(.agg k3)),(1,(ni (i64 (l3 - (j3.len:Int)))))] fun m3=>
 ak 260 ⟨b1,0,none⟩ m3 i3 fun n3=>
 Ld (.arr 260) ⟨b1,0,none⟩ n3 fun o3=>
 ak 260 ⟨f,0,none⟩ o3 n3 fun p3=>
 Ld (.arr 260) ⟨f,0,none⟩ p3 fun q3=>
 R q3 j3 false 0 p3))))) fun g=>
 Ld (.arr 260) ⟨d,0,none⟩ e fun h=>
 Cl Pg [kB] n5 ⟨[(.agg h)]⟩ e fun (j:Bool) i=>
 aa (!j)
 (Ld (.arr 260) ⟨d,0,none⟩ i fun k=>
 ak 260 ⟨f,0,none⟩ k i fun l=>
 Ld (.arr 260) ⟨f,0,none⟩ l fun m=>
 R m (⟨none,0,0⟩:Sl) false 2 l)
 (Ld kB (Addr.add ⟨d,0,none⟩ 259) i fun (n:Bool)=>
 aa n
 (Ld (.arr 260) ⟨d,0,none⟩ i fun o=>
 ak 260 ⟨f,0,none⟩ o i fun p=>
 Ld (.arr 260) ⟨f,0,none⟩ p fun q=>
 R q (⟨none,0,0⟩:Sl) false 2 p)
 (aa (decide (b<0))
 (Ld (.arr 260) ⟨d,0,none⟩ i fun r=>
 ak 260 ⟨f,0,none⟩ r i fun s=>
 Ld (.arr 260) ⟨f,0,none⟩ s fun t=>
 R t (⟨none,0,0⟩:Sl) false 2 s)
 (aa (decide (b>257))
 (Ld (.arr 260) ⟨d,0,none⟩ i fun u=>
 ak 260 ⟨f,0,none⟩ u i fun v=>
 Ld (.arr 260) ⟨f,0,none⟩ v fun x=>
 R x (⟨none,0,0⟩:Sl) false 2 v)
 (g i))))):Cl Pg [(.arr 260),kS,kB,kI] pL ⟨[(.agg a),(ni b)]⟩ w R:=co Tryz.f162 [(2,[]),(37,[(13,kS),(14,kI)])] h
theorem Fe.ok (a:(Array Value)) (R:Bool→World→Prop) w (h:
 Nw 112 a w fun c b=>
 aQ (fun (o:World)=>
 Ld kI (Addr.add ⟨c,0,none⟩ 257) o fun (p:Int)=>
 Cl Pg [kS,kI] jB ⟨[(ni p)]⟩ o fun (r:Sl) (s:Int) q=>
 Ld kI (Addr.add ⟨c,0,none⟩ 258) q fun (t:Int)=>
 aa ((r.len:Int) !=t)
 (R false q)
 (Ld kB (Addr.add ⟨c,0,none⟩ 259) q fun (u:Bool)=>
 aa (!u)
 (R true q)
 (Ld kI (Addr.add ⟨c,0,none⟩ 256) q fun (v:Int)=>
 aa (v==0)
 (Ld kI (Addr.add ⟨c,0,none⟩ 257) q fun (x:Int)=>
 aa (x==0)
 (Ld kI (Addr.add ⟨c,0,none⟩ 258) q fun (y:Int)=>
 R (y==0) q)
 (R false q))
 (R false q)))) fun d=>
 Ld (.arr 256) (Addr.add ⟨c,0,none⟩ 0) b fun e=>
 Cl Pg [kB] kl ⟨[(.agg e)]⟩ b fun (g:Bool) f=>
 aa (!g)
 (R false f)
 (Ld kI (Addr.add ⟨c,0,none⟩ 256) f fun (h:Int)=>
 aa (decide (h<0))
 (R false f)
 (Ld kI (Addr.add ⟨c,0,none⟩ 256) f fun (i:Int)=>
 aa (decide (i>65536))
 (R false f)
 (Ld kI (Addr.add ⟨c,0,none⟩ 257) f fun (j:Int)=>
 aa (decide (j<0))
 (R false f)
 (Ld kI (Addr.add ⟨c,0,none⟩ 257) f fun (k:Int)=>
 Ld kI (Addr.add ⟨c,0,none⟩ 256) f fun (l:Int)=>
 aa (decide (k>l))
 (R false f)
 (Ld kI (Addr.add ⟨c,0,none⟩ 258) f fun (m:Int)=>
 aa (decide (m<0))
 (R false f)
 (Ld kI (Addr.add ⟨c,0,none⟩ 258) f fun (n:Int)=>
 aa (decide (n>16))
 (R false f)
 (d f)))))))):Cl Pg [kB] n5 ⟨[(.agg a)]⟩ w R:=co Tryz.f223 [(2,[])] h
end Go.Proofs.YtgglghjnakclmaaGreat
namespace Go.Proofs.YtgglghjnakclmaaGreat
open Go Go.Vc
set_option maxRecDepth 100000
theorem Lk.ok (a:Sl) (R:Sl→World→Prop) w (h:
 Cl Pg [(.arr 257)] ri ⟨[]⟩ w fun c b=>
 Cl Pg [(.arr 257),kS,kI] qc ⟨[(.agg c),(an a)]⟩ b fun e (f:Sl) (g:Int) d=>
 Nw 273 ⟨List.replicate 256 (.int .u8 0)++ [(ni 0)]⟩ d fun i h=>
 ak 257 ⟨i,0,none⟩ e h fun j=>
 Ld (.arr 257) ⟨i,0,none⟩ j fun k=>
 Cl Pg [kS,kI] qQ ⟨[(.agg k)]⟩ j fun (m:Sl) (n:Int) l=>
 ar Pg (Builtin.append_ #[142,142] 142 ⟨[(an f),(an m)]⟩) kS l fun (p:Sl) o=>
 R p o):Cl Pg [kS] rr ⟨[(an a)]⟩ w R:=co Tryz.f184 [] h
theorem Jk.ok (a:(Array Value)) (b:Sl) (R:(Array Value)→Sl→Int→World→Prop) w (h:
 Nw 273 a w fun d c=>
 Nw 273 ⟨List.replicate 256 (.int .u8 0)++ [(ni 0)]⟩ c fun f e=>
 aQ (fun (r:World)=>
 cp (⟨none,0,0⟩:Sl) 0 r fun s t (u:Sl) (v:Int) x=>
 aa (decide (v<(b.len:Int)))
 (cB x fun y z=>
 aw (.arr 256) (Addr.add ⟨d,0,none⟩ 0) y fun a1=>
 ay b v 1 fun b1=>
 aw (ao .u8) b1 y fun (c1:Int)=>
 (Cl Pg [(.arr 256),kI] nc ⟨[(.agg a1),(.int .u8 c1)]⟩ z fun e1 (f1:Int) d1=>
 y d1∧
 Nw 110 ⟨List.replicate 256 (.int .u8 0)⟩ d1 fun h1 g1=>
 y g1∧
 ak 256 ⟨h1,0,none⟩ e1 g1 fun i1=>
 y i1∧
 Ld (.arr 256) ⟨h1,0,none⟩ i1 fun j1=>
 ak 256 (Addr.add ⟨d,0,none⟩ 0) j1 i1 fun k1=>
 aa (f1==0)
 (Ld kI (Addr.add ⟨d,0,none⟩ 256) k1 fun (l1:Int)=>
 St (Addr.add ⟨d,0,none⟩ 256) (ni (i64 (l1+1))) k1 fun m1=>
 s u (i64 (v+1)) m1∧t u (i64 (v+1)) m1<t u v x)
 (Ld kI (Addr.add ⟨d,0,none⟩ 256) k1 fun (n1:Int)=>
 Cl Pg [kS] iv ⟨[(ni n1)]⟩ k1 fun (p1:Sl) o1=>
 ar Pg (Builtin.append_ #[142,142] 142 ⟨[(an u),(an p1)]⟩) kS o1 fun (r1:Sl) q1=>
 Nw 3 ⟨[(ni (i64 (f1+1)))]⟩ q1 fun t1 s1=>
 ar Pg (Builtin.append_ #[142,142] 142 ⟨[(an r1),(an (⟨some ⟨t1,0,none⟩,1,1⟩:Sl))]⟩) kS s1 fun (v1:Sl) u1=>
 St (Addr.add ⟨d,0,none⟩ 256) (ni 0) u1 fun x1=>
 s v1 (i64 (v+1)) x1∧t v1 (i64 (v+1)) x1<t u v x))∧
 (Nw 110 ⟨List.replicate 256 (.int .u8 0)⟩ z fun z1 y1=>
 y y1∧
 Cl Pg [(.arr 256),kI] nc ⟨[(.agg a1),(.int .u8 c1)]⟩ y1 fun b2 (c2:Int) a2=>
 y a2∧
 ak 256 ⟨z1,0,none⟩ b2 a2 fun d2=>
 y d2∧
 Ld (.arr 256) ⟨z1,0,none⟩ d2 fun e2=>
 ak 256 (Addr.add ⟨d,0,none⟩ 0) e2 d2 fun f2=>
 aa (c2==0)
 (Ld kI (Addr.add ⟨d,0,none⟩ 256) f2 fun (g2:Int)=>
 St (Addr.add ⟨d,0,none⟩ 256) (ni (i64 (g2+1))) f2 fun h2=>
 s u (i64 (v+1)) h2∧t u (i64 (v+1)) h2<t u v x)
 (Ld kI (Addr.add ⟨d,0,none⟩ 256) f2 fun (i2:Int)=>
 Cl Pg [kS] iv ⟨[(ni i2)]⟩ f2 fun (k2:Sl) j2=>
 ar Pg (Builtin.append_ #[142,142] 142 ⟨[(an u),(an k2)]⟩) kS j2 fun (m2:Sl) l2=>
 Nw 3 ⟨[(ni (i64 (c2+1)))]⟩ l2 fun o2 n2=>
 ar Pg (Builtin.append_ #[142,142] 142 ⟨[(an m2),(an (⟨some ⟨o2,0,none⟩,1,1⟩:Sl))]⟩) kS n2 fun (q2:Sl) p2=>
 St (Addr.add ⟨d,0,none⟩ 256) (ni 0) p2 fun r2=>
 s q2 (i64 (v+1)) r2∧t q2 (i64 (v+1)) r2<t u v x)))
 (Ld (.arr 257) ⟨d,0,none⟩ x fun s2=>
 ak 257 ⟨f,0,none⟩ s2 x fun t2=>
 Ld (.arr 257) ⟨f,0,none⟩ t2 fun u2=>
 R u2 u 0 t2)) fun g=>
 Ld (.arr 257) ⟨d,0,none⟩ e fun h=>
 Cl Pg [kB] kb ⟨[(.agg h)]⟩ e fun (j:Bool) i=>
 aa (!j)
 (Ld (.arr 257) ⟨d,0,none⟩ i fun k=>
 ak 257 ⟨f,0,none⟩ k i fun l=>
 Ld (.arr 257) ⟨f,0,none⟩ l fun m=>
 R m (⟨none,0,0⟩:Sl) 2 l)
 (Ld kI (Addr.add ⟨d,0,none⟩ 256) i fun (n:Int)=>
 aa (decide ((b.len:Int)>(i64 ((2147483647:Int) - n))))
 (Ld (.arr 257) ⟨d,0,none⟩ i fun o=>
 ak 257 ⟨f,0,none⟩ o i fun p=>
 Ld (.arr 257) ⟨f,0,none⟩ p fun q=>
 R q (⟨none,0,0⟩:Sl) 2 p)
 (g i))):Cl Pg [(.arr 257),kS,kI] qc ⟨[(.agg a),(an b)]⟩ w R:=co Tryz.f248 [(2,[]),(12,[(7,kS),(8,kI)])] h
theorem Kb.ok (R:(Array Value)→World→Prop) w (h:
 Nw 273 ⟨List.replicate 256 (.int .u8 0)++ [(ni 0)]⟩ w fun b a=>
 Cl Pg [(.arr 256)] nk ⟨[]⟩ a fun d c=>
 bP Pg 273 [(0,(.agg d))] fun e=>
 ak 257 ⟨b,0,none⟩ e c fun f=>
 Ld (.arr 257) ⟨b,0,none⟩ f fun g=>
 R g f):Cl Pg [(.arr 257)] ri ⟨[]⟩ w R:=co Tryz.f249 [] h
theorem Jm.ok (a:(Array Value)) (R:Sl→Int→World→Prop) w (h:
 Nw 273 a w fun c b=>
 Ld (.arr 257) ⟨c,0,none⟩ b fun d=>
 Cl Pg [kB] kb ⟨[(.agg d)]⟩ b fun (f:Bool) e=>
 aa (!f)
 (R (⟨none,0,0⟩:Sl) 2 e)
 (Ld kI (Addr.add ⟨c,0,none⟩ 256) e fun (g:Int)=>
 Cl Pg [kS] iv ⟨[(ni g)]⟩ e fun (i:Sl) h=>
 Nw 3 ⟨[(ni 257)]⟩ h fun k j=>
 ar Pg (Builtin.append_ #[142,142] 142 ⟨[(an i),(an (⟨some ⟨k,0,none⟩,1,1⟩:Sl))]⟩) kS j fun (m:Sl) l=>
 R m 0 l)):Cl Pg [kS,kI] qQ ⟨[(.agg a)]⟩ w R:=co Tryz.f250 [] h
theorem Gc.ok (a:(Array Value)) (R:Bool→World→Prop) w (h:
 Nw 273 a w fun c b=>
 Ld (.arr 256) (Addr.add ⟨c,0,none⟩ 0) b fun d=>
 Cl Pg [kB] kl ⟨[(.agg d)]⟩ b fun (f:Bool) e=>
 aa f
 (Ld kI (Addr.add ⟨c,0,none⟩ 256) e fun (g:Int)=>
 aa (decide (g≥0))
 (Ld kI (Addr.add ⟨c,0,none⟩ 256) e fun (h:Int)=>
 R (decide (h≤2147483647)) e)
 (R false e))
 (R false e)):Cl Pg [kB] kb ⟨[(.agg a)]⟩ w R:=co Tryz.f296 [] h
theorem JO.ok (a:Int) (R:Sl→World→Prop) w (h:
 cp a (⟨none,0,0⟩:Sl) w fun b c (d:Int) (e:Sl) f=>
 aa (decide (d>0))
 ((2:Int)≠0∧
 aa (((Int.tmod d (2:Int)):Int)==1)
 (Nw 3 ⟨[(ni 0)]⟩ f fun h g=>
 ar Pg (Builtin.append_ #[142,142] 142 ⟨[(an e),(an (⟨some ⟨h,0,none⟩,1,1⟩:Sl))]⟩) kS g fun (j:Sl) i=>
 (2:Int)≠0∧
 b (i64 (Int.tdiv (i64 (d - 1)) (2:Int))) j i∧c (i64 (Int.tdiv (i64 (d - 1)) (2:Int))) j i<c d e f)
 (Nw 3 ⟨[(ni 1)]⟩ f fun l k=>
 ar Pg (Builtin.append_ #[142,142] 142 ⟨[(an e),(an (⟨some ⟨l,0,none⟩,1,1⟩:Sl))]⟩) kS k fun (n:Sl) m=>
 (2:Int)≠0∧
 b (i64 (Int.tdiv (i64 (d - 2)) (2:Int))) n m∧c (i64 (Int.tdiv (i64 (d - 2)) (2:Int))) n m<c d e f))
 (R e f)):Cl Pg [kS] iv ⟨[(ni a)]⟩ w R:=co Tryz.f298 [(5,[(0,kI),(3,kS)])] h
end Go.Proofs.YtgglghjnakclmaaGreat
namespace Go.Proofs.YtgglghjnakclmaaGreat
open Go Go.Vc
set_option maxRecDepth 100000
theorem NJ.ok (a:Sl) (R:Sl→World→Prop) w (h:
 cp (⟨none,0,0⟩:Sl) 0 w fun b c (d:Sl) (e:Int) f=>
 aa (decide (e<(a.len:Int)))
 (ay a e 1 fun g=>
 Ld (ao .u8) g f fun (h:Int)=>
 Cl Pg [kS,kB] mw ⟨[(.int .u32 (u32 h)),(ni 8)]⟩ f fun (j:Sl) (k:Bool) i=>
 ar Pg (Builtin.append_ #[142,142] 142 ⟨[(an d),(an j)]⟩) kS i fun (m:Sl) l=>
 b m (i64 (e+1)) l∧c m (i64 (e+1)) l<c d e f)
 (R d f)):Cl Pg [kS] tn ⟨[(an a)]⟩ w R:=co Tryz.f110 [(7,[(3,kS),(4,kI)])] h
theorem Fm.ok (a:Sl) (R:Sl→World→Prop) w (h:
 cp (⟨none,0,0⟩:Sl) 0 w fun b c (d:Sl) (e:Int) f=>
 aa (decide (e<(a.len:Int)))
 (cp 0 e f fun g h (i:Int) (j:Int) k=>
 aa (decide (j<(i64 (e+8))))
 (aa (decide (j<(a.len:Int)))
 (ay a j 1 fun l=>
 Ld kI l k fun (m:Int)=>
 g (i64 ((i64 ((2:Int)*i))+m)) (i64 (j+1)) k∧h (i64 ((i64 ((2:Int)*i))+m)) (i64 (j+1)) k<h i j k)
 (g (i64 ((2:Int)*i)) (i64 (j+1)) k∧h (i64 ((2:Int)*i)) (i64 (j+1)) k<h i j k))
 (Nw 5 ⟨[(.int .u8 (u8 i))]⟩ k fun o n=>
 ar Pg (Builtin.append_ #[26,26] 26 ⟨[(an d),(an (⟨some ⟨o,0,none⟩,1,1⟩:Sl))]⟩) kS n fun (q:Sl) p=>
 b q (i64 (e+8)) p∧c q (i64 (e+8)) p<c d e f))
 (R d f)):Cl Pg [kS] nS ⟨[(an a)]⟩ w R:=co Tryz.f130 [(7,[(3,kS),(4,kI)]),(17,[(5,kI),(6,kI)])] h
theorem Em.ok (a:Int) (b:Int) (R:Sl→Bool→World→Prop) w (h:
 aa (decide (b<0))
 (R (⟨none,0,0⟩:Sl) false w)
 (aa (decide (b>32))
 (R (⟨none,0,0⟩:Sl) false w)
 (BE (⟨none,0,0⟩:Sl) (u64 a) 0 w fun c d (e:Sl) (f:Int) (g:Int) h=>
 aa (decide (g<b))
 ((2:Int)≠0∧
 Nw 3 ⟨[(ni (i64 (Int.tmod f (2:Int))))]⟩ h fun j i=>
 ar Pg (Builtin.append_ #[142,142] 142 ⟨[(an (⟨some ⟨j,0,none⟩,1,1⟩:Sl)),(an e)]⟩) kS i fun (l:Sl) k=>
 (2:Int)≠0∧
 c l (u64 (Int.tdiv f (2:Int))) (i64 (g+1)) k∧d l (u64 (Int.tdiv f (2:Int))) (i64 (g+1)) k<d e f g h)
 (R e (f==0) h)))):Cl Pg [kS,kB] mw ⟨[(.int .u32 a),(ni b)]⟩ w R:=co Tryz.f157 [(14,[(6,kS),(7,(ao .u64)),(8,kI)])] h
end Go.Proofs.YtgglghjnakclmaaGreat
namespace Go.Proofs.YtgglghjnakclmaaGreat
open Go Go.Vc
set_option maxRecDepth 100000
theorem K6.ok (R:(Array Value)→World→Prop) w (h:
 Nw 110 ⟨List.replicate 256 (.int .u8 0)⟩ w fun b a=>
 Nw 110 ⟨List.replicate 256 (.int .u8 0)⟩ a fun d c=>
 ee 0 c fun e f (g:Int) h=>
 aa (decide (g<256))
 (au ⟨d,0,none⟩ 256 g 1 fun i=>
 St i (.int .u8 (u8 g)) h fun j=>
 e (i64 (g+1)) j∧f (i64 (g+1)) j<f g h)
 (Ld (.arr 256) ⟨d,0,none⟩ h fun k=>
 ak 256 ⟨b,0,none⟩ k h fun l=>
 Ld (.arr 256) ⟨b,0,none⟩ l fun m=>
 R m l)):Cl Pg [(.arr 256)] nk ⟨[]⟩ w R:=co Tryz.f222 [(7,[(2,kI)])] h
theorem Iu.ok (a:(Array Value)) (b:Int) (R:(Array Value)→Int→Bool→World→Prop) w (h:
 Nw 110 a w fun d c=>
 Nw 110 ⟨List.replicate 256 (.int .u8 0)⟩ c fun f e=>
 aa (decide (b<0))
 (Ld (.arr 256) ⟨d,0,none⟩ e fun g=>
 ak 256 ⟨f,0,none⟩ g e fun h=>
 Ld (.arr 256) ⟨f,0,none⟩ h fun i=>
 R i 0 false h)
 (aa (decide (b>255))
 (Ld (.arr 256) ⟨d,0,none⟩ e fun j=>
 ak 256 ⟨f,0,none⟩ j e fun k=>
 Ld (.arr 256) ⟨f,0,none⟩ k fun l=>
 R l 0 false k)
 (au ⟨d,0,none⟩ 256 b 1 fun m=>
 Ld (ao .u8) m e fun (n:Int)=>
 ee b e fun o p (q:Int) r=>
 aa (decide (q>0))
 (au ⟨d,0,none⟩ 256 (i64 (q - 1)) 1 fun s=>
 Ld (ao .u8) s r fun (t:Int)=>
 au ⟨d,0,none⟩ 256 q 1 fun u=>
 St u (.int .u8 t) r fun v=>
 o (i64 (q - 1)) v∧p (i64 (q - 1)) v<p q r)
 (au ⟨d,0,none⟩ 256 0 1 fun x=>
 St x (.int .u8 n) r fun y=>
 Ld (.arr 256) ⟨d,0,none⟩ y fun z=>
 ak 256 ⟨f,0,none⟩ z y fun a1=>
 Ld (.arr 256) ⟨f,0,none⟩ a1 fun b1=>
 R b1 n true a1)))):Cl Pg [(.arr 256),(ao .u8),kB] me ⟨[(.agg a),(ni b)]⟩ w R:=co Tryz.f226 [(12,[(8,kI)])] h
theorem Fi.ok (a:(Array Value)) (R:Bool→World→Prop) w (h:
 Nw 110 a w fun c b=>
 ee 0 b fun d e (f:Int) g=>
 aa (decide (f<256))
 (ee 0 g fun h i (j:Int) k=>
 aa (decide (j<f))
 (aY k fun l=>
 au ⟨c,0,none⟩ 256 j 1 fun m=>
 Ld (ao .u8) m l fun (n:Int)=>
 au ⟨c,0,none⟩ 256 f 1 fun o=>
 Ld (ao .u8) o l fun (p:Int)=>
 aa (n==p)
 (R false l)
 (h (i64 (j+1)) l∧i (i64 (j+1)) l<i j k))
 (d (i64 (f+1)) k∧e (i64 (f+1)) k<e f g))
 (R true g)):Cl Pg [kB] kl ⟨[(.agg a)]⟩ w R:=co Tryz.f288 [(5,[(3,kI)]),(12,[(4,kI)])] h
theorem L0.ok (a:(Array Value)) (b:Int) (R:(Array Value)→Int→World→Prop) w (h:
 Nw 110 a w fun d c=>
 Nw 110 ⟨List.replicate 256 (.int .u8 0)⟩ c fun f e=>
 ee 0 e fun g h (i:Int) j=>
 aa (decide (i<256))
 (au ⟨d,0,none⟩ 256 i 1 fun k=>
 Ld (ao .u8) k j fun (l:Int)=>
 aa (l==b)
 (Ld (.arr 256) ⟨d,0,none⟩ j fun m=>
 Cl Pg [(.arr 256),(ao .u8),kB] me ⟨[(.agg m),(ni i)]⟩ j fun o (p:Int) (q:Bool) n=>
 Nw 110 ⟨List.replicate 256 (.int .u8 0)⟩ n fun s r=>
 ak 256 ⟨s,0,none⟩ o r fun t=>
 Ld (.arr 256) ⟨s,0,none⟩ t fun u=>
 ak 256 ⟨f,0,none⟩ u t fun v=>
 Ld (.arr 256) ⟨f,0,none⟩ v fun x=>
 R x i v)
 (g (i64 (i+1)) j∧h (i64 (i+1)) j<h i j))
 (Ld (.arr 256) ⟨d,0,none⟩ j fun y=>
 ak 256 ⟨f,0,none⟩ y j fun z=>
 Ld (.arr 256) ⟨f,0,none⟩ z fun a1=>
 R a1 (-1) z)):Cl Pg [(.arr 256),kI] nc ⟨[(.agg a),(.int .u8 b)]⟩ w R:=co Tryz.f297 [(5,[(6,kI)])] h
end Go.Proofs.YtgglghjnakclmaaGreat
namespace Go.Proofs.YtgglghjnakclmaaGreat
open Go Go.Vc
set_option maxRecDepth 100000
theorem DR.ok (a:Int) (R:Sl→Int→World→Prop) w (h:
 aa (decide (a<0))
 (R (⟨none,0,0⟩:Sl) 2 w)
 (aa (decide (a>2147483647))
 (R (⟨none,0,0⟩:Sl) 2 w)
 (cp a (⟨none,0,0⟩:Sl) w fun b c (d:Int) (e:Sl) f=>
 aa (decide (d>0))
 ((2:Int)≠0∧
 aa (((Int.tmod d (2:Int)):Int)==1)
 (Nw 3 ⟨[(ni 0)]⟩ f fun h g=>
 ar Pg (Builtin.append_ #[142,142] 142 ⟨[(an e),(an (⟨some ⟨h,0,none⟩,1,1⟩:Sl))]⟩) kS g fun (j:Sl) i=>
 (2:Int)≠0∧
 b (i64 (Int.tdiv (i64 (d - 1)) (2:Int))) j i∧c (i64 (Int.tdiv (i64 (d - 1)) (2:Int))) j i<c d e f)
 (Nw 3 ⟨[(ni 1)]⟩ f fun l k=>
 ar Pg (Builtin.append_ #[142,142] 142 ⟨[(an e),(an (⟨some ⟨l,0,none⟩,1,1⟩:Sl))]⟩) kS k fun (n:Sl) m=>
 (2:Int)≠0∧
 b (i64 (Int.tdiv (i64 (d - 2)) (2:Int))) n m∧c (i64 (Int.tdiv (i64 (d - 2)) (2:Int))) n m<c d e f))
 (R e 0 f)))):Cl Pg [kS,kI] jB ⟨[(ni a)]⟩ w R:=co Tryz.f224 [(10,[(0,kI),(4,kS)])] h
theorem EL.ok (a:Sl) (R:Int→Int→World→Prop) w (h:
 BE 0 1 0 w fun b c (d:Int) (e:Int) (f:Int) g=>
 aa (decide (f<(a.len:Int)))
 (ay a f 1 fun h=>
 Ld kI h g fun (i:Int)=>
 aa (i !=0)
 (ay a f 1 fun j=>
 Ld kI j g fun (k:Int)=>
 aa (k !=1)
 (R 0 2 g)
 (ay a f 1 fun l=>
 Ld kI l g fun (m:Int)=>
 aa (decide ((i64 (d+(i64 ((i64 (m+1))*e))))>2147483647))
 (R 0 2 g)
 (b (i64 (d+(i64 ((i64 (m+1))*e)))) (i64 ((2:Int)*e)) (i64 (f+1)) g∧c (i64 (d+(i64 ((i64 (m+1))*e)))) (i64 ((2:Int)*e)) (i64 (f+1)) g<c d e f g)))
 (ay a f 1 fun n=>
 Ld kI n g fun (o:Int)=>
 aa (decide ((i64 (d+(i64 ((i64 (o+1))*e))))>2147483647))
 (R 0 2 g)
 (b (i64 (d+(i64 ((i64 (o+1))*e)))) (i64 ((2:Int)*e)) (i64 (f+1)) g∧c (i64 (d+(i64 ((i64 (o+1))*e)))) (i64 ((2:Int)*e)) (i64 (f+1)) g<c d e f g)))
 (R d 0 g)):Cl Pg [kI,kI] my ⟨[(an a)]⟩ w R:=co Tryz.f225 [(9,[(4,kI),(5,kI),(6,kI)])] h
end Go.Proofs.YtgglghjnakclmaaGreat
namespace Go.Srt
theorem Hy: ∀(n v:Nat),bn (n+1) v=(v/2^n % 2)::bn n v
 |0,v=>by simp [bn]
 |n+1,v=>by
  rw [bn,Hy n (v/2),bn,List.cons_append,Nat.div_div_eq_div_mul,Nat.pow_succ,Nat.mul_comm]
def ra (b:List Nat) (i:Nat):Nat→Nat
 |0=>0
 |t+1=>2*ra b i t+b.getD (i+t) 0
theorem Nl (b:List Nat) (j:Nat):ra b (8*j) 8=A5 b j:=by
 simp only [ra,A5,Nat.add_zero]
 omega
theorem Gv {b:List Nat} (h:aE b) (i:Nat): ∀t,ra b i t<2^t
 |0=>by simp [ra]
 |t+1=>by
  have:=Gv h i t
  have:=h.getD (i+t)
  rw [ra,Nat.pow_succ];omega
end Go.Srt
namespace Go.af
open Go.Srt Go.aE
theorem F9 (x:Nat):aG [x]=bn 8 x:=by
 refine List.ext_getElem? fun i=> ?_
 by_cases hi:i<8
 ·have h1:=yX 8 x i hi
  rw [List.getD_eq_getElem?_getD,List.getElem?_eq_getElem (by rw [jW];exact hi),Option.getD_some] at h1
  have h2:(bn 8 x)[i]? =some (x/2^(8 - 1 - i) % 2):=by rw [List.getElem?_eq_getElem (by rw [jW];exact hi),h1]
  rw [h2]
  unfold aG bitsOf
  rw [List.getElem?_map,List.getElem?_range (by simpa using hi),Option.map_some]
  unfold bF
  rw [show i/8=0 by omega,show i % 8=i by omega];rfl
 ·rw [List.getElem?_eq_none (by rw [bo];simp;omega),List.getElem?_eq_none (by rw [jW];omega)]
theorem Cq (b:List Nat) (x:Nat):aG (b++ [x])=aG b++bn 8 x:=by rw [nj,F9]
end Go.af
namespace Go.Sym
def ed:Nat→List Nat→Nat
 |_,[]=>0
 |w,d::l=>(d+1)*w+ed (2*w) l
theorem sV: ∀(w:Nat) (a b:List Nat),ed w (a++b)=ed w a+ed (w*2^a.length) b
 |w,[],b=>by simp [ed]
 |w,d::a,b=>by
  rw [List.cons_append,ed,ed,sV (2*w) a b,List.length_cons,Nat.pow_succ,Nat.add_assoc]
  congr 3
  rw [Nat.mul_comm 2 w,Nat.mul_assoc,Nat.mul_comm 2]
theorem NP (n:Nat): ∀w,ed w (dX n)=n*w:=by
 induction n using Nat.strongRecOn with
 |ind n ih=>
  intro w
  rcases Nat.eq_zero_or_pos n with h|h
  ·rw [h,iU];simp [ed]
  ·rw [jC h,ed,ih ((n - 1)/2) (by omega),←Nat.mul_assoc,←Nat.add_mul]
   congr 1;omega
theorem L3 (n:Nat):2^(dX n).length - 1≤n∧n≤2*(2^(dX n).length - 1):=by
 induction n using Nat.strongRecOn with
 |ind n ih=>
  rcases Nat.eq_zero_or_pos n with h|h
  ·rw [h,iU];simp
  ·have h1:=ih ((n - 1)/2) (by omega)
   have h2:=Nat.two_pow_pos (dX ((n - 1)/2)).length
   rw [jC h,List.length_cons,Nat.pow_succ]
   omega
theorem yS {n d:Nat} (h1:2^d - 1≤n) (h2:n≤2*(2^d - 1)):(dX n).length=d:=by
 obtain ⟨h3,h4⟩:=L3 n
 generalize (dX n).length=e at h3 h4
 rcases Nat.lt_trichotomy e d with h|h|h
 ·have:2^(e+1)≤2^d:=Nat.pow_le_pow_right (by decide) h
  rw [Nat.pow_succ] at this
  have:=Nat.two_pow_pos e
  omega
 ·exact h
 ·have:2^(d+1)≤2^e:=Nat.pow_le_pow_right (by decide) h
  rw [Nat.pow_succ] at this
  have:=Nat.two_pow_pos d
  omega
end Go.Sym
namespace Go.Proofs.YtgglghjnakclmaaGreat
open Go Go.Vc Go.Srt Go.aE Go.af Go.Sym
section
variable {E w:World} {F:List HP}
theorem qA (n k:Nat):Int.tdiv (n:Int) (k:Int)=((n/k:Nat):Int):=rfl
theorem tI (n k:Nat):Int.tmod (n:Int) (k:Int)=((n % k:Nat):Int):=rfl
theorem LR {v width:Nat} {K:Sl→Bool→World→Prop} (h:Hp E w F) (hv:v<4294967296) (hw:width≤32) (hK: ∀s' w',Hp E w' (OI s' (bn width v)::F)→K s' (decide (v/2^width=0)) w'):
  Cl Tryz.prog [kS,kB] mw ⟨[.int .u32 (v:Int),.int .i64 (width:Int)]⟩ w K:=by
 refine Em.ok _ _ _ _ ?_
 refine aa.df (by omega) (aa.df (by omega) ?_)
 rw [gI (x:=(v:Int)) (by omega)]
 refine ⟨fun o n i w=> ∃k:Nat,i=(k:Int)∧k≤width∧n=((v/2^k:Nat):Int)∧Hp E w (OI o (bn k v)::F),fun _ _ i _=>width - i.toNat,⟨0,rfl,by omega,by simp,h.aU 1⟩,?_⟩
 rintro o n i w ⟨k,rfl,hk,rfl,h⟩
 have hd:v/2^k≤v:=Nat.div_le_self _ _
 refine aa.dm (fun hlt=> ?_) (fun hge=> ?_)
 ·have e1:i64 (((v/2^k % 2:Nat)):Int)=((v/2^k % 2:Nat):Int):=ab (by generalize v/2^k=q at hd;omega)
  have e2:u64 (((v/2^k/2:Nat)):Int)=((v/2^k/2:Nat):Int):=gI (by generalize v/2^k=q at hd;omega)
  rw [show (2:Int)=((2:Nat):Int) from rfl,tI,qA,e1,e2,ab (by omega)]
  refine ⟨by decide,Nw.mk h fun b w h=>Uc h (by rw [jW];omega) fun s' w h=>⟨by decide,⟨k+1,rfl,by omega,?_,?_⟩,by first|omega|(dsimp only;omega)⟩⟩
  ·rw [Nat.div_div_eq_div_mul,Nat.pow_succ]
  ·rw [Hy];exact h
 ·have hk2:k=width:=by omega
  subst hk2
  have:=hK o w h
  rw [show (((v/2^k:Nat):Int)==0)=decide (v/2^k=0) by rw [Bool.eq_iff_iff,beq_iff_eq,decide_eq_true_iff];omega]
  exact this
theorem QS {s:Sl} {b:List Nat} {K:Sl→World→Prop} (h:Hp E w F) (hs:ad F (aH 1 s (b.map vB))) (hb: ∀y∈b,y<256) (hn:b.length≤100000000) (hK: ∀s' w',Hp E w' (OI s' (aG b)::F)→K s' w'):
  Cl Tryz.prog [kS] tn ⟨[.slice s.base s.len s.cap]⟩ w K:=by
 refine NJ.ok _ _ _ ?_
 have hl:=lB (h.aj hs)
 refine ⟨fun o i w=> ∃k:Nat,i=(k:Int)∧k≤b.length∧Hp E w (OI o (aG (b.take k))::F),fun _ i _=>b.length - i.toNat,⟨0,rfl,by omega,h.aU 1⟩,?_⟩
 rintro o i w ⟨k,rfl,hk,h⟩
 refine aa.dm (fun hlt=> ?_) (fun hge=> ?_)
 ·have hlt:k<b.length:=by omega
  have hx:=hb _ (List.getElem_mem hlt)
  refine ay.rB (h.drop.aj hs) rfl hlt ?_
  rw [cN (by omega),ab (by omega)]
  refine LR (width:=8) h (by omega) (by decide) fun s10 w h=> ?_
  have hal:=bo (b.take k)
  rw [List.length_take] at hal
  have hl2:=jW 8 b[k]
  refine C3 (h.at 1) ad.own (by omega) (by omega) fun s' w h=>⟨⟨k+1,rfl,by omega,?_⟩,by first|omega|(dsimp only;omega)⟩
  rw [List.take_add_one,List.getElem?_eq_getElem hlt]
  show Hp E w (OI s' (aG (b.take k++ [b[k]]))::F)
  rw [Cq]
  exact h.eA
 ·have hk2:k=b.length:=by omega
  subst hk2
  rw [List.take_of_length_le (Nat.le_refl _)] at h
  exact hK _ _ h
theorem J4 {s:Sl} {bits:List Nat} {K:Sl→World→Prop} (h:Hp E w F) (hs:ad F (aH 1 s ((ints bits).map vI))) (hb:aE bits) (hn:bits.length≤10000000) (hK: ∀s' w',Hp E w' (OB s' (pack bits)::F)→K s' w'):
  Cl Tryz.prog [kS] nS ⟨[.slice s.base s.len s.cap]⟩ w K:=by
 refine Fm.ok _ _ _ ?_
 have hl:=pN (h.aj hs)
 refine ⟨fun o i w=> ∃j:Nat,i=((8*j:Nat):Int)∧j≤(bits.length+7)/8∧Hp E w (OB o (il bits j)::F),fun _ i _=>bits.length+8 - i.toNat,⟨0,rfl,by omega,h.aU 1⟩,?_⟩
 rintro o i w ⟨j,rfl,hj,h⟩
 refine aa.dm (fun hlt=> ?_) (fun hge=> ?_)
 ·refine ⟨fun v k w=> ∃t:Nat,k=((8*j+t:Nat):Int)∧t≤8∧v=(ra bits (8*j) t:Int)∧Hp E w (OB o (il bits j)::F),fun _ k _=>8*j+8 - k.toNat,⟨0,by simp,by omega,rfl,h⟩,?_⟩
  rintro v k w ⟨t,rfl,ht,rfl,h⟩
  have ha:=Gv hb (8*j) t
  have hp:2^t≤2^8:=Nat.pow_le_pow_right (by decide) ht
  rw [ab (x:=((8*j:Nat):Int)+8) (by omega),ab (x:=(2:Int)*(ra bits (8*j) t:Int)) (by omega)]
  refine aa.dm (fun hlt2=> ?_) (fun hge2=> ?_)
  ·have hb1:=hb.getD (8*j+t)
   rw [ab (x:=((8*j+t:Nat):Int)+1) (by omega)]
   refine aa.dm (fun hin=> ?_) (fun hout=> ?_)
   ·have hin:8*j+t<bits.length:=by omega
    refine ay.rI (h.drop.aj hs) rfl hin ?_
    have e:bits.getD (8*j+t) 0=bits[8*j+t]:=bW hin
    rw [e] at hb1
    rw [ab (by omega)]
    exact ⟨⟨t+1,by omega,by omega,by rw [ra,e];omega,h⟩,by first|omega|(dsimp only;omega)⟩
   ·have e:bits.getD (8*j+t) 0=0:=oK (by omega)
    exact ⟨⟨t+1,by omega,by omega,by rw [ra,e];omega,h⟩,by first|omega|(dsimp only;omega)⟩
  ·have ht8:t=8:=by omega
   subst ht8
   rw [Nl] at ha⊢
   rw [eD (by omega)]
   refine Nw.mk h fun b w h=>IS h (by rw [yT];omega) fun s' w h=>⟨⟨j+1,by omega,by omega,?_⟩,by first|omega|(dsimp only;omega)⟩
   have:il bits (j+1)=il bits j++ [A5 bits j]:=by unfold il;rw [List.range_succ,List.map_append];rfl
   rw [this];exact h
 ·have hj2:j=(bits.length+7)/8:=by omega
  subst hj2
  exact hK _ _ h
theorem AJ {n:Nat} {K:Sl→Int→World→Prop} (h:Hp E w F) (hn:n≤2147483647) (hl:(dX n).length≤1000000) (hK: ∀s w',Hp E w' (OI s (dX n)::F)→K s 0 w'):Cl Tryz.prog [kS,kI] jB ⟨[.int .i64 (n:Int)]⟩ w K:=by
 refine DR.ok _ _ _ ?_
 refine aa.df (by omega) (aa.df (by omega) ?_)
 refine ⟨fun m o w=> ∃(q:Nat) (l:List Nat),m=(q:Int)∧q≤2147483647∧dX n=l++dX q∧Hp E w (OI o l::F),fun m _ _=>m.toNat,⟨n,[],rfl,hn,rfl,h.aU 1⟩,?_⟩
 rintro m o w ⟨q,l,rfl,hq,hd,h⟩
 have hll:l.length≤1000000:=by rw [hd,List.length_append] at hl;omega
 refine aa.dm (fun hpos=> ?_) (fun hz=> ?_)
 ·have hq0:0<q:=by omega
  rw [jC hq0] at hd
  rw [show (2:Int)=((2:Nat):Int) from rfl,tI]
  refine ⟨by decide,?_⟩
  refine aa.em (fun h1=> ?_) (fun h1=> ?_)
  ·refine Nw.mk h fun b w h=>qP (x:=0) h (by omega) fun s' w h=>⟨by decide,?_⟩
   rw [ab (x:=(q:Int) - 1) (by omega),show (q:Int) - 1=((q - 1:Nat):Int) by omega,qA,ab (by omega)]
   refine ⟨⟨(q - 1)/2,l++ [0],rfl,by omega,?_,h⟩,by first|omega|(dsimp only;omega)⟩
   rw [hd,show (q - 1) % 2=0 by omega];simp
  ·refine Nw.mk h fun b w h=>qP (x:=1) h (by omega) fun s' w h=>⟨by decide,?_⟩
   rw [show ((2:Nat):Int)=2 from rfl,ab (x:=(q:Int) - 2) (by omega),show (q:Int) - 2=((q - 2:Nat):Int) by omega,show (2:Int)=((2:Nat):Int) from rfl,qA,ab (by omega)]
   refine ⟨⟨(q - 2)/2,l++ [1],rfl,by omega,?_,h⟩,by first|omega|(dsimp only;omega)⟩
   rw [hd,show (q - 1) % 2=1 by omega,show (q - 1)/2=(q - 2)/2 by omega];simp
 ·have hq0:q=0:=by omega
  subst hq0
  rw [iU,List.append_nil] at hd
  rw [hd] at hK
  exact hK _ _ h
theorem Rj {s:Sl} {l:List Nat} {K:Int→Int→World→Prop} (h:Hp E w F) (hs:ad F (aH 1 s ((ints l).map vI))) (hd: ∀x∈l,x<2) (hl:l.length≤30) (hn:ed 1 l≤2147483647) (hK: ∀w',Hp E w' F→K (ed 1 l:Int) 0 w'):
  Cl Tryz.prog [kI,kI] my ⟨[.slice s.base s.len s.cap]⟩ w K:=by
 refine EL.ok _ _ _ ?_
 have hll:=pN (h.aj hs)
 refine ⟨fun n wt i w=> ∃k:Nat,i=(k:Int)∧k≤l.length∧n=(ed 1 (l.take k):Int)∧wt=((2^k:Nat):Int)∧Hp E w F,fun _ _ i _=>l.length - i.toNat,⟨0,rfl,by omega,rfl,rfl,h⟩,?_⟩
 rintro n wt i w ⟨k,rfl,hk,rfl,rfl,h⟩
 refine aa.dm (fun hlt=> ?_) (fun hge=> ?_)
 ·have hlt:k<l.length:=by omega
  have hx:=hd _ (List.getElem_mem hlt)
  have htk:ed 1 (l.take (k+1))=ed 1 (l.take k)+(l[k]+1)*2^k:=by
   rw [List.take_add_one,List.getElem?_eq_getElem hlt]
   show ed 1 (l.take k++ [l[k]])=_
   rw [sV,List.length_take,Nat.min_eq_left (by omega)]
   simp [ed]
  have hle:ed 1 (l.take (k+1))≤ed 1 l:=by
   conv=>rhs;rw [←List.take_append_drop (k+1) l]
   rw [sV];omega
  have hp:2^k≤2^30:=Nat.pow_le_pow_right (by decide) (by omega)
  have hp2:(2:Nat)^30=1073741824:=by decide
  have em:i64 (i64 ((l[k]:Int)+1)*((2^k:Nat):Int))=(((l[k]+1)*2^k:Nat):Int):=by
   rw [ab (x:=(l[k]:Int)+1) (by omega),show ((l[k]:Int)+1)*((2^k:Nat):Int)=(((l[k]+1)*2^k:Nat):Int) by push_cast;rfl,ab]
   have h2:(l[k]+1)*2^k≤2*2^k:=Nat.mul_le_mul_right _ (by omega)
   generalize (l[k]+1)*2^k=z at h2
   generalize 2^k=q at hp h2
   omega
  have rest:aa (decide (i64 ((ed 1 (l.take k):Int)+i64 (i64 ((l[k]:Int)+1)*((2^k:Nat):Int)))>2147483647)) (K 0 2 w)
    ((∃k':Nat,i64 ((k:Int)+1)=(k':Int)∧k'≤l.length∧i64 ((ed 1 (l.take k):Int)+i64 (i64 ((l[k]:Int)+1)*((2^k:Nat):Int)))=(ed 1 (l.take k'):Int)∧i64 (2*((2^k:Nat):Int))=((2^k':Nat):Int)∧Hp E w F)∧
     l.length - (i64 ((k:Int)+1)).toNat<l.length - ((k:Int)).toNat):=by
   have e1:(ed 1 (l.take k):Int)+(((l[k]+1)*2^k:Nat):Int)=(ed 1 (l.take (k+1)):Int):=by rw [htk];push_cast;rfl
   have e2:i64 (2*((2^k:Nat):Int))=((2^(k+1):Nat):Int):=by
    rw [Nat.pow_succ]
    generalize 2^k=q at hp
    rw [ab (by omega)];omega
   rw [em,e1,e2,ab (x:=(ed 1 (l.take (k+1)):Int)) (by omega),ab (x:=(k:Int)+1) (by omega)]
   exact aa.df (by omega) ⟨⟨k+1,by omega,by omega,rfl,rfl,h⟩,by omega⟩
  refine ay.rI (h.aj hs) rfl hlt ?_
  refine aa.nm (fun hne=> ?_) (fun he=> ?_)
  ·refine ay.rI (h.aj hs) rfl hlt (aa.nf (by omega) ?_)
   exact ay.rI (h.aj hs) rfl hlt rest
  ·exact ay.rI (h.aj hs) rfl hlt rest
 ·have hk2:k=l.length:=by omega
  subst hk2
  rw [List.take_of_length_le (Nat.le_refl _)]
  exact hK _ h
end
end Go.Proofs.YtgglghjnakclmaaGreat
namespace Go.Proofs.YtgglghjnakclmaaGreat
open Go Go.Vc Go.Srt Go.Inc Go.aE Go.af Go.Sym
section
variable {E w:World} {F:List HP}
abbrev bL (b:Nat) (L:List Nat):HP:=af b (.cells ⟨bg L⟩ 110 (0,0))
theorem wV:(⟨List.replicate 256 (.int .u8 0)⟩:Array Value).size=256:=by simp
theorem A7 {L:List Nat} (h:L.length=256):(⟨bg L⟩:Array Value).size=256:=by simp [h]
theorem v7 {L:List Nat} {i:Nat} (h:i<L.length):(⟨bg L⟩:Array Value).toList[i]? =some (Sc.enc (.int .u8) (L[i]:Int)):=by simp [h]
theorem zX {L:List Nat} {i x:Nat}:(⟨bg L⟩:Array Value).setIfInBounds i (.int .u8 (x:Int))=⟨bg (L.set i x)⟩:=by
 apply Array.ext'
 rw [Array.toList_setIfInBounds]
 show (bg L).set i _=bg (L.set i x)
 unfold bg
 rw [List.map_set]
theorem CF {K:Array Value→World→Prop} (h:Hp E w F) (hK: ∀w',Hp E w' F→K ⟨bg (List.range 256)⟩ w'):Cl Tryz.prog [.arr 256] nk ⟨[]⟩ w K:=by
 refine K6.ok _ _ ?_
 refine Nw.mk h fun b2 w h=>Nw.mk h fun b4 w h=> ?_
 have hlen: ∀k,k≤256→(bg (List.range k++List.replicate (256 - k) 0)).length=256:=fun k hk=>by simp;omega
 refine ⟨fun i w'=> ∃k:Nat,i=(k:Int)∧k≤256∧Hp E w' (bL b4 (List.range k++List.replicate (256 - k) 0)::af b2 (.cells ⟨List.replicate 256 (.int .u8 0)⟩ 110 (0,0))::F),fun i _=>256 - i.toNat,⟨0,rfl,by omega,by
  have:(⟨bg (List.range 0++List.replicate (256 - 0) 0)⟩:Array Value)=⟨List.replicate 256 (.int .u8 0)⟩:=by simp
  unfold bL
  rw [this];exact h⟩,?_⟩
 rintro i w ⟨k,rfl,hk,h⟩
 refine aa.dm (fun hlt=> ?_) (fun hge=> ?_)
 ·refine ⟨by omega,by omega,?_⟩
  rw [show ((k:Int)).toNat*1=k by omega]
  (try simp only [ag,Nat.zero_add])
  have hk:=hlen k (by omega)
  rw [eD (by omega),ab (by omega)]
  refine St.xb h (by simp;omega) rfl fun w h=> ?_
  refine ⟨⟨k+1,rfl,by omega,?_⟩,by first|omega|(dsimp only;omega)⟩
  rw [zX] at h
  have e:(List.range k++List.replicate (256 - k) 0).set k k=List.range (k+1)++List.replicate (256 - (k+1)) 0:=by
   rw [List.set_append_right _ _ (by simp),List.length_range,Nat.sub_self]
   obtain ⟨m,hm⟩: ∃m,256 - k=m+1:=⟨255 - k,by omega⟩
   rw [hm,List.replicate_succ,List.set_cons_zero,List.range_succ,show 256 - (k+1)=m by omega]
   simp
  rw [e] at h
  exact h
 ·have hk2:k=256:=by omega
  subst hk2
  have e:List.range 256++List.replicate (256 - 256) 0=List.range 256:=by rw [Nat.sub_self,List.replicate_zero,List.append_nil]
  rw [e] at h
  have hn:(⟨bg (List.range 256)⟩:Array Value).size=256:=by simp
  refine Ld.xw h hn (ak.q (b:=b2) h wV hn cv fun w h=>Ld.xw h hn (hK _ h.tl))
theorem yu {L:List Nat} {K:Bool→World→Prop} (h:Hp E w F) (hL:bu L) (hK: ∀w',Hp E w' F→K true w'):Cl Tryz.prog [kB] kl ⟨[.agg ⟨bg L⟩]⟩ w K:=by
 refine Fi.ok _ _ _ ?_
 have hl:=hL.len
 refine Nw.mk h fun b3 w h=> ?_
 refine ⟨fun i w=> ∃k:Nat,i=(k:Int)∧k≤256∧Hp E w (bL b3 L::F),fun i _=>256 - i.toNat,⟨0,rfl,by omega,h⟩,?_⟩
 rintro i w ⟨k,rfl,hk,h⟩
 refine aa.dm (fun hlt=> ?_) (fun hge=>hK _ h.tl)
 refine ⟨fun i w=> ∃j:Nat,i=(j:Int)∧j≤k∧Hp E w (bL b3 L::F),fun i _=>k - i.toNat,⟨0,rfl,by omega,h⟩,?_⟩
 rintro i w ⟨j,rfl,hj,h⟩
 have hkl:k<L.length:=by omega
 have hjl:j<L.length:=by omega
 refine aa.dm (fun hlt2=> ?_) (fun hge2=> ?_)
 ·refine aY.mk h fun w h=>⟨by omega,by omega,?_⟩
  rw [show ((j:Int)).toNat*1=j by omega]
  (try simp only [ag,Nat.zero_add])
  refine Ld.xb (x:=(L[j]:Int)) h (v7 hjl) ⟨by omega,by omega,?_⟩
  rw [show ((k:Int)).toNat*1=k by omega]
  (try simp only [ag,Nat.zero_add])
  refine Ld.xb (x:=(L[k]:Int)) h (v7 hkl) ?_
  have hne:L[j]≠L[k]:=fun e=>by
   have h1:=hL.pM (p:=j) (by omega)
   have h2:=hL.pM (p:=k) (by omega)
   rw [bW hjl,e] at h1
   rw [bW hkl] at h2
   omega
  refine aa.ef (by omega) ?_
  rw [ab (by omega)]
  exact ⟨⟨j+1,rfl,by omega,h⟩,by first|omega|(dsimp only;omega)⟩
 ·rw [ab (by omega)]
  exact ⟨⟨k+1,rfl,by omega,h⟩,by first|omega|(dsimp only;omega)⟩
def qD (L:List Nat) (p i:Nat):List Nat:=L.take (i+1)++((L.take p).drop i++L.drop (p+1))
theorem PI {L:List Nat} {p:Nat} (hp:p<L.length):qD L p p=L:=by
 unfold qD
 rw [List.drop_of_length_le (by simp;omega),List.nil_append,List.take_append_drop]
theorem Pd {L:List Nat} {p i:Nat} (hp:p<L.length) (hi:i≤p):(qD L p i).length=L.length:=by
 unfold qD
 simp;omega
theorem Pk {L:List Nat} {p i j:Nat} (hi:i≤p) (hj:j≤i) (hp:p<L.length):(qD L p i)[j]? =L[j]? :=by
 unfold qD
 rw [List.getElem?_append_left (by simp;omega),List.getElem?_take_of_lt (by omega)]
theorem Ny {L:List Nat} {p i:Nat} (hp:p<L.length) (hi:i+1≤p):(qD L p (i+1)).set (i+1) (L[i]'(by omega))=qD L p i:=by
 have h1:L.take (i+1+1)=L.take (i+1)++ [L[i+1]'(by omega)]:=by rw [List.take_add_one,List.getElem?_eq_getElem (by omega)];rfl
 have hl:(L.take (i+1)).length=i+1:=by rw [List.length_take];omega
 have h2:(L.take p).drop i=L[i]'(by omega)::(L.take p).drop (i+1):=by
  rw [List.drop_eq_getElem_cons (by simp;omega),List.getElem_take]
 unfold qD
 rw [h1,h2,List.append_assoc,List.set_append_right _ _ (by omega),hl,Nat.sub_self]
 simp
theorem Qt {L:List Nat} {p:Nat} (hp:p<L.length):(qD L p 0).set 0 (L.getD p 0)=bO L p:=by
 unfold qD bO
 rw [List.drop_zero,List.eraseIdx_eq_take_drop_succ]
 cases L with
 |nil=>simp at hp
 |cons a L=>simp
theorem Bh {L:List Nat} {p:Nat} {K:Array Value→Int→Bool→World→Prop} (h:Hp E w F) (hl:L.length=256) (hp:p<256) (hK: ∀w',Hp E w' F→K ⟨bg (bO L p)⟩ (L.getD p 0:Int) true w'):
  Cl Tryz.prog [.arr 256,ao .u8,kB] me ⟨[.agg ⟨bg L⟩,.int .i64 (p:Int)]⟩ w K:=by
 refine Iu.ok _ _ _ _ ?_
 have hpl:p<L.length:=by omega
 refine Nw.mk h fun b4 w h=>Nw.mk h fun b6 w h=>aa.df (by omega) (aa.df (by omega) ⟨by omega,by omega,?_⟩)
 rw [show ((p:Int)).toNat*1=p by omega]
 (try simp only [ag,Nat.zero_add])
 have hgp:L.getD p 0=L[p]:=bW hpl
 refine Ld.xb (x:=(L.getD p 0:Int)) h (by rw [hgp];exact v7 hpl) ?_
 refine ⟨fun i w=> ∃k:Nat,i=(k:Int)∧k≤p∧Hp E w (af b6 (.cells ⟨List.replicate 256 (.int .u8 0)⟩ 110 (0,0))::bL b4 (qD L p k)::F),fun i _=>i.toNat,⟨p,rfl,by omega,by rw [PI hpl];exact h⟩,?_⟩
 rintro i w ⟨k,rfl,hk,h⟩
 have hsl:=Pd hpl hk
 refine aa.dm (fun hlt=> ?_) (fun hge=> ?_)
 ·obtain ⟨j,rfl⟩: ∃j,k=j+1:=⟨k - 1,by omega⟩
  rw [ab (by omega)]
  refine ⟨by omega,by omega,?_⟩
  rw [show (((j+1:Nat):Int) - 1).toNat*1=j by omega]
  (try simp only [ag,Nat.zero_add])
  have hg:=Pk (L:=L) (p:=p) (i:=j+1) (j:=j) hk (by omega) hpl
  refine Ld.xb (x:=(L[j]:Int)) h ?_ ⟨by omega,by omega,?_⟩
  ·show (bg (qD L p (j+1)))[j]? =_
   unfold bg
   rw [List.getElem?_map,hg,List.getElem?_eq_getElem (by omega)];rfl
  rw [show (((j+1:Nat):Int)).toNat*1=j+1 by omega]
  (try simp only [ag,Nat.zero_add])
  refine St.xb (b:=b4) h (by simp;omega) rfl fun w h=> ?_
  rw [zX,Ny hpl hk] at h
  exact ⟨⟨j,by omega,by omega,h⟩,by first|omega|(dsimp only;omega)⟩
 ·have hk0:k=0:=by omega
  subst hk0
  refine ⟨by decide,by decide,?_⟩
  (try simp only [ag,Nat.zero_add])
  refine St.xb (b:=b4) h (by simp;omega) rfl fun w h=> ?_
  have h:Hp E w (af b6 (.cells ⟨List.replicate 256 (.int .u8 0)⟩ 110 (0,0))::af b4 (.cells ((⟨bg (qD L p 0)⟩:Array Value).setIfInBounds 0 (.int .u8 (L.getD p 0:Int))) 110 (0,0))::F):=h
  rw [zX,Qt hpl] at h
  have hm:(⟨bg (bO L p)⟩:Array Value).size=256:=A7 (by rw [(sF hpl).length_eq,hl])
  refine Ld.xw h hm (ak.q (b:=b6) h wV hm cv fun w h=>Ld.xw h hm (hK _ h.tl))
theorem Dx {L:List Nat} {c:Nat} {K:Array Value→Int→World→Prop} (h:Hp E w F) (hL:bu L) (hc:c<256) (hK: ∀w',Hp E w' F→K ⟨bg (bO L (L.idxOf c))⟩ (L.idxOf c:Int) w'):
  Cl Tryz.prog [.arr 256,kI] nc ⟨[.agg ⟨bg L⟩,.int .u8 (c:Int)]⟩ w K:=by
 refine L0.ok _ _ _ _ ?_
 have hl:=hL.len
 have hi:=hL.idx hc
 have hn:=A7 hl
 have hm:=A7 (hL.take hi.1).len
 refine Nw.mk h fun b4 w h=>Nw.mk h fun b6 w h=> ?_
 refine ⟨fun i w=> ∃k:Nat,i=(k:Int)∧k≤L.idxOf c∧Hp E w (af b6 (.cells ⟨List.replicate 256 (.int .u8 0)⟩ 110 (0,0))::bL b4 L::F),fun i _=>256 - i.toNat,⟨0,rfl,by omega,h⟩,?_⟩
 rintro i w ⟨k,rfl,hk,h⟩
 have hkl:k<L.length:=by omega
 refine aa.dt (by omega) ⟨by omega,by omega,?_⟩
 rw [show ((k:Int)).toNat*1=k by omega]
 (try simp only [ag,Nat.zero_add])
 refine Ld.xb (b:=b4) (x:=(L[k]:Int)) h (v7 hkl) ?_
 have hat:=hL.pM (p:=k) (by omega)
 rw [bW hkl] at hat
 by_cases he:L[k]=c
 ·rw [he] at hat
  subst hat
  refine aa.et (by omega) (Ld.xw (b:=b4) h hn (Bh h hl hi.1 fun w h=>Nw.mk h fun b19 w h=> ?_))
  refine ak.q h wV hm cv fun w h=>Ld.xw h hm (ak.q (b:=b6) h wV hm cv fun w h=>Ld.xw h hm (hK _ h.tl))
 ·refine aa.ef (by omega) ?_
  rw [ab (by omega)]
  have hne:k≠L.idxOf c:=fun e=>by
   have h2:=hi.2
   rw [←e,bW hkl] at h2
   exact he h2
  exact ⟨⟨k+1,rfl,by omega,h⟩,by first|omega|(dsimp only;omega)⟩
theorem LJ {n:Nat} {K:Sl→World→Prop} (h:Hp E w F) (hn:n≤1000000) (hK: ∀s w',Hp E w' (OI s (dX n)::F)→K s w'):Cl Tryz.prog [kS] iv ⟨[.int .i64 (n:Int)]⟩ w K:=by
 refine JO.ok _ _ _ ?_
 have hl:=vi n
 refine ⟨fun m o w=> ∃(q:Nat) (l:List Nat),m=(q:Int)∧q≤2147483647∧dX n=l++dX q∧Hp E w (OI o l::F),fun m _ _=>m.toNat,⟨n,[],rfl,by omega,rfl,h.aU 1⟩,?_⟩
 rintro m o w ⟨q,l,rfl,hq,hd,h⟩
 have hll:l.length≤1000000:=by rw [hd,List.length_append] at hl;omega
 refine aa.dm (fun hpos=> ?_) (fun hz=> ?_)
 ·have hq0:0<q:=by omega
  rw [jC hq0] at hd
  rw [show (2:Int)=((2:Nat):Int) from rfl,tI]
  refine ⟨by decide,?_⟩
  refine aa.em (fun h1=> ?_) (fun h1=> ?_)
  ·refine Nw.mk h fun b w h=>qP (x:=0) h (by omega) fun s' w h=>⟨by decide,?_⟩
   rw [ab (x:=(q:Int) - 1) (by omega),show (q:Int) - 1=((q - 1:Nat):Int) by omega,qA,ab (by omega)]
   refine ⟨⟨(q - 1)/2,l++ [0],rfl,by omega,?_,h⟩,by first|omega|(dsimp only;omega)⟩
   rw [hd,show (q - 1) % 2=0 by omega];simp
  ·refine Nw.mk h fun b w h=>qP (x:=1) h (by omega) fun s' w h=>⟨by decide,?_⟩
   rw [show ((2:Nat):Int)=2 from rfl,ab (x:=(q:Int) - 2) (by omega),show (q:Int) - 2=((q - 2:Nat):Int) by omega,show (2:Int)=((2:Nat):Int) from rfl,qA,ab (by omega)]
   refine ⟨⟨(q - 2)/2,l++ [1],rfl,by omega,?_,h⟩,by first|omega|(dsimp only;omega)⟩
   rw [hd,show (q - 1) % 2=1 by omega,show (q - 1)/2=(q - 2)/2 by omega];simp
 ·have hq0:q=0:=by omega
  subst hq0
  rw [iU,List.append_nil] at hd
  rw [hd] at hK
  exact hK _ _ h
theorem QF {K:Array Value→World→Prop} (h:Hp E w F) (hK: ∀w',Hp E w' F→K (iM (List.range 256) 0) w'):Cl Tryz.prog [.arr 257] ri ⟨[]⟩ w K:=by
 refine Kb.ok _ _ ?_
 refine Nw.mk h fun b2 w h=>CF h fun w h=>bP.es (by simp) ?_
 have hd:(iM (List.range 256) 0).size=257:=pC (by simp)
 refine ak.q h Nv hd tg fun w h=> ?_
 exact Ld.xw h hd (hK _ h.tl)
theorem BN {L:List Nat} {r:Nat} {K:Bool→World→Prop} (h:Hp E w F) (hL:bu L) (hr:r≤2147483647) (hK: ∀w',Hp E w' F→K true w'):Cl Tryz.prog [kB] kb ⟨[.agg (iM L (r:Int))]⟩ w K:=by
 refine Gc.ok _ _ _ ?_
 have hLb:=fI hL.len
 (try simp only [ag,Nat.zero_add,Nat.add_zero])
 refine Nw.mk h fun b3 w h=>Ld.p h hLb (yu h hL fun w h=> ?_)
 refine aa.t rfl (Ld.q h hLb rfl rfl (aa.dt (by omega) (Ld.q h hLb rfl rfl ?_)))
 rw [show decide ((r:Int)≤2147483647)=true from decide_eq_true (by omega)]
 exact hK _ h.tl
theorem O0 {L:List Nat} {r:Nat} {K:Sl→Int→World→Prop} (h:Hp E w F) (hL:bu L) (hr:r≤1000000) (hK: ∀s' w',Hp E w' (OI s' (dX r++ [257])::F)→K s' 0 w'):Cl Tryz.prog [kS,kI] qQ ⟨[.agg (iM L (r:Int))]⟩ w K:=by
 refine Jm.ok _ _ _ ?_
 have hLb:=fI hL.len
 have hdl:=vi r
 (try simp only [ag,Nat.zero_add])
 refine Nw.mk h fun b3 w h=>Ld.qw h hLb rfl (BN h hL (by omega) fun w h=> ?_)
 with_reducible refine aa.yD ?_
 refine Ld.q h hLb rfl rfl (LJ h hr fun s1 w h=>Nw.mk h fun b12 w h=>qP (x:=257) h (by omega) fun s w h=>hK s w ?_)
 exact h.eA
theorem NF {L:List Nat} {r:Nat} {s:Sl} {b:List Nat} {K:Array Value→Sl→Int→World→Prop} (h:Hp E w F) (hL:bu L) (hs:ad F (aH 1 s (b.map vB))) (hb: ∀x∈b,x<256) (hr:r+b.length≤1000000)
  (hK: ∀s' w',Hp E w' (OI s' (cS L r b).1::F)→bu (cS L r b).2.1→(cS L r b).2.2≤1000000→K (iM (cS L r b).2.1 ((cS L r b).2.2:Int)) s' 0 w'):
  Cl Tryz.prog [.arr 257,kS,kI] qc ⟨[.agg (iM L (r:Int)),.slice s.base s.len s.cap]⟩ w K:=by
 refine Jk.ok _ _ _ _ ?_
 have hLb:=fI hL.len
 have hlen:=lB (h.aj hs)
 (try simp only [aO,ag,Nat.zero_add,Nat.add_zero])
 refine Nw.mk h fun b4 w h=>Nw.mk h fun b6 w h=> ?_
 refine Ld.qw h hLb rfl (BN h hL (by omega) fun w h=> ?_)
 with_reducible refine aa.yD ?_
 refine Ld.q h hLb rfl rfl ?_
 rw [ab (by omega)]
 refine aa.df (by omega) ?_
 refine ⟨fun o i w=> ∃(k:Nat) (L':List Nat) (r':Nat) (out:List Nat),i=(k:Int)∧k≤b.length∧bu L'∧out.length+r'≤r+k∧
  cS L r b=(out++(cS L' r' (b.drop k)).1,(cS L' r' (b.drop k)).2)∧
  Hp E w (OI o out::af b6 (.cells GH 273 (0,0))::af b4 (.cells (iM L' (r':Int)) 273 (0,0))::F),
  fun _ i _=>b.length - i.toNat,⟨0,L,r,[],rfl,by omega,hL,by simp,by simp,h.aU 1⟩,?_⟩
 rintro o i w ⟨k,L',r',out,rfl,hk,hL',hlo,he,h⟩
 have hLb':=fI hL'.len
 refine aa.dm (fun hlt=> ?_) (fun hge=> ?_)
 ·have hlt:k<b.length:=by omega
  have hc:=hb _ (List.getElem_mem hlt)
  have hi:=hL'.idx hc
  have hm:=A7 (hL'.take hi.1).len
  have hLm:=hL'.take hi.1
  have hLbm:=fI hLm.len
  have hdl:=vi r'
  rw [List.drop_eq_getElem_cons hlt] at he
  have rest: ∀(b33:Nat) (w:World) (G:Sl→Int→World→Prop),(∀o' k' w',k'=((k+1:Nat):Int)→(∃(L':List Nat) (r':Nat) (out:List Nat),bu L'∧out.length+r'≤r+(k+1)∧cS L r b=(out++(cS L' r' (b.drop (k+1))).1,(cS L' r' (b.drop (k+1))).2)∧
    Hp E w' (OI o' out::af b6 (.cells GH 273 (0,0))::af b4 (.cells (iM L' (r':Int)) 273 (0,0))::F))→G o' k' w')→
    Hp E w (af b33 (.cells ⟨bg (bO L' (L'.idxOf b[k]))⟩ 110 (0,0))::OI o out::af b6 (.cells GH 273 (0,0))::af b4 (.cells (iM L' (r':Int)) 273 (0,0))::F)→
    Ld (.arr 256) ⟨b33,0,none⟩ w fun x35=>ak 256 ⟨b4,0,none⟩ x35 w fun w_36=>
     aa ((L'.idxOf b[k]:Int)==0)
      (Ld kI ⟨b4,256,none⟩ w_36 fun Run37=>St ⟨b4,256,none⟩ (.int .i64 (i64 (Run37+1))) w_36 fun w_38=>G o (i64 ((k:Int)+1)) w_38)
      (Ld kI ⟨b4,256,none⟩ w_36 fun Run39=>Cl Tryz.prog [kS] iv ⟨[.int .i64 Run39]⟩ w_36 fun r41 w_40=>
       ar Tryz.prog (Builtin.append_ #[142,142] 142 ⟨[.slice o.base o.len o.cap,.slice r41.base r41.len r41.cap]⟩) kS w_40 fun s43 w_42=>
       Nw 3 ⟨[.int .i64 (i64 ((L'.idxOf b[k]:Int)+1))]⟩ w_42 fun b45 w_44=>
       ar Tryz.prog (Builtin.append_ #[142,142] 142 ⟨[.slice s43.base s43.len s43.cap,.slice (some ⟨b45,0,none⟩) 1 1]⟩) kS w_44 fun s47 w_46=>
       St ⟨b4,256,none⟩ (.int .i64 0) w_46 fun w_48=>G s47 (i64 ((k:Int)+1)) w_48):=by
   intro b33 w G hG h
   rw [ab (x:=(k:Int)+1) (by omega)]
   refine Ld.xw h hm ?_
   refine ak.xm (b:=b4) (pre:= []) (bD:=bg L') (post:= [.int .i64 (r':Int)]) h rfl rfl hLb' hm (fun v hv=>List.all_eq_true.1 cv v hv) fun w h=> ?_
   have h:Hp E w (af b33 (.cells ⟨bg (bO L' (L'.idxOf b[k]))⟩ 110 (0,0))::OI o out::af b6 (.cells GH 273 (0,0))::af b4 (.cells (iM (bO L' (L'.idxOf b[k])) (r':Int)) 273 (0,0))::F):=h
   have h:=h.no 0
   by_cases h0:L'.idxOf b[k]=0
   ·rw [cS,if_pos h0] at he
    rw [h0] at h hLm hLbm⊢
    refine aa.et rfl (Ld.q h hLbm rfl rfl ?_)
    rw [ab (by omega)]
    refine St.q h hLbm rfl rfl rfl fun w h=> ?_
    dsimp only [aP,aq] at h
    rw [show (r':Int)+1=((r'+1:Nat):Int) by omega] at h
    exact hG _ _ _ (by omega) ⟨_,r'+1,out,hLm,by omega,he,h⟩
   ·rw [cS,if_neg h0] at he
    refine aa.ef (by omega) (Ld.q h hLbm rfl rfl (LJ h (by omega) fun s1 w h=> ?_))
    refine C3 (h.at 1) ad.own (by omega) (by omega) fun s2 w h=>Nw.mk (h.no 1) fun b40 w h=> ?_
    rw [ab (by omega),show (L'.idxOf b[k]:Int)+1=((L'.idxOf b[k]+1:Nat):Int) by omega] at h
    refine qP h (by rw [List.length_append];omega) fun s3 w h=> ?_
    refine St.q (b:=b4) h hLbm rfl rfl rfl fun w h=> ?_
    dsimp only [aP,aq] at h
    refine hG _ _ _ (by omega) ⟨_,0,out++dX r'++ [L'.idxOf b[k]+1],hLm,?_,?_,h⟩
    ·rw [List.length_append,List.length_append,List.length_singleton];omega
    ·rw [he];simp
  have hG: ∀o' k' w',k'=((k+1:Nat):Int)→(∃(L':List Nat) (r':Nat) (out:List Nat),bu L'∧out.length+r'≤r+(k+1)∧cS L r b=(out++(cS L' r' (b.drop (k+1))).1,(cS L' r' (b.drop (k+1))).2)∧
    Hp E w' (OI o' out::af b6 (.cells GH 273 (0,0))::af b4 (.cells (iM L' (r':Int)) 273 (0,0))::F))→
    (∃(k:Nat) (L':List Nat) (r':Nat) (out:List Nat),k'=(k:Int)∧k≤b.length∧bu L'∧out.length+r'≤r+k∧cS L r b=(out++(cS L' r' (b.drop k)).1,(cS L' r' (b.drop k)).2)∧
    Hp E w' (OI o' out::af b6 (.cells GH 273 (0,0))::af b4 (.cells (iM L' (r':Int)) 273 (0,0))::F))∧b.length - k'.toNat<b.length - ((k:Int)).toNat:=by
   rintro o' k' w' rfl ⟨L2,r2,out2,h1,h2,h3,h4⟩
   exact ⟨⟨k+1,L2,r2,out2,rfl,by omega,h1,h2,h3,h4⟩,by omega⟩
  have h:=h.drew (n:=w.drawn+1)
  have hSl: ∀{w:World} {l:List HP} [j0 l F],Hp E w l→aH 1 s (b.map vB) w:=fun h=>(h.tl:Hp E _ F).aj hs
  refine ⟨fun w=>br b4 (iM L' (r':Int)) 273 (0,0) w∧aH 1 s (b.map vB) w,⟨h.hb,hSl h⟩,?_⟩
  refine aw.p (fun _ h=>h.1) hLb' ?_
  refine ay.EI (sc:= .int .u8) (hSl h) (fun _ h=>h.2) rfl (by rw [List.length_map];exact hlt) (b[k]:Int) (by simp [Sc.enc,vB,hlt]) ⟨?_,?_⟩
  ·refine Dx h hL' hc fun w h=>⟨⟨h.hb,hSl h⟩,Nw.mk h fun b33 w h=>⟨⟨h.hb,hSl h⟩,?_⟩⟩
   refine ak.q h wV hm cv fun w h=>⟨⟨h.hb,hSl h⟩,?_⟩
   exact rest b33 w _ hG h
  ·refine Nw.mk h fun b33 w h=>⟨⟨h.hb,hSl h⟩,Dx h hL' hc fun w h=>⟨⟨h.hb,hSl h⟩,?_⟩⟩
   refine ak.q h wV hm cv fun w h=>⟨⟨h.hb,hSl h⟩,?_⟩
   exact rest b33 w _ hG h
 ·have hk2:k=b.length:=by omega
  subst hk2
  rw [List.drop_of_length_le (Nat.le_refl _),cS,List.append_nil] at he
  rw [he] at hK
  dsimp only at hK
  refine Ld.qw h hLb' rfl ?_
  refine ak.q h Nv (pC hL'.len) tg fun w h=>Ld.xw h (pC hL'.len) (hK o w h.eA hL' (by omega))
theorem xS: ∀(b L:List Nat) (r:Nat),(cS L r b).1.length+(cS L r b).2.2≤r+b.length
 | [],L,r=>by simp [cS]
 |c::b,L,r=>by
  rw [cS]
  split
  ·have:=xS b (bO L 0) (r+1)
   simp only [List.length_cons];omega
  ·have:=xS b (bO L (L.idxOf c)) 0
   have:=vi r
   simp only [List.length_append,List.length_cons];omega
theorem P3 {s:Sl} {b:List Nat} {K:Sl→World→Prop} (h:Hp E w F) (hs:ad F (aH 1 s (b.map vB))) (hb: ∀x∈b,x<256) (hr:b.length≤1000000) (hK: ∀s' w',Hp E w' (OI s' (syms b)::F)→K s' w'):
  Cl Tryz.prog [kS] rr ⟨[.slice s.base s.len s.cap]⟩ w K:=by
 refine Lk.ok _ _ _ ?_
 refine QF h fun w h=>NF (r:=0) h bu.range hs hb (by rw [Nat.zero_add];exact hr) fun s1 w h hL2 hr2=>Nw.mk h fun b9 w h=> ?_
 refine ak.q h Nv (pC hL2.len) tg fun w h=>Ld.xw h (pC hL2.len) ?_
 have e0:=xS b (List.range 256) 0
 have hdl:=vi (cS (List.range 256) 0 b).2.2
 refine O0 h hL2 hr2 fun s2 w h=> ?_
 refine C3 (h.at 2) ad.own (by omega) (by rw [List.length_append,List.length_singleton];omega) fun s3 w h=>hK s3 w ?_
 rw [show syms b=(cS (List.range 256) 0 b).1++(dX (cS (List.range 256) 0 b).2.2++ [257]) by unfold syms c6;simp]
 exact h.eA
end
end Go.Proofs.YtgglghjnakclmaaGreat
namespace Go.Proofs.YtgglghjnakclmaaGreat
open Go Go.Vc Go.Srt Go.Inc Go.aE Go.af Go.Sym
section
variable {E w:World} {F:List HP}
abbrev BF:Array Value:=⟨List.replicate 256 (Value.int .u8 0)++ [Value.int .i64 0,Value.int .i64 0,Value.int .i64 0,Value.bool false]⟩
theorem jh:BF.size=260:=by simp
theorem Lc {m:Nat} {K:Array Value→World→Prop} (h:Hp E w F) (hm:1≤m) (hm2:m≤65536) (hK: ∀w',Hp E w' F→K (de (List.range 256) (m:Int) 0 0 false) w'):Cl Tryz.prog [.arr 260] rh ⟨[.int .i64 (m:Int)]⟩ w K:=by
 refine LO.ok _ _ _ ?_
 refine Nw.mk h fun b3 w h=>aa.df (by omega) (aa.df (by omega) ?_)
 refine CF h fun w h=>bP.OD (by simp) ?_
 have hd:(de (List.range 256) (m:Int) 0 0 false).size=260:=aM (by simp)
 refine ak.q h jh hd aN fun w h=> ?_
 exact Ld.xw h hd (hK _ h.tl)
theorem F2 {d:DS} {K:Bool→World→Prop} (h:Hp E w F) (hd:gF d) (hK: ∀w',Hp E w' F→K true w'):Cl Tryz.prog [kB] n5 ⟨[.agg (de d.L (d.left:Int) (d.run:Int) (d.digits:Int) false)]⟩ w K:=by
 have hdig:=hd.dX
 obtain ⟨L,left,run,digits⟩:=d
 obtain ⟨h1,h2,h3,h4,h5⟩:=hd
 dsimp only at h1 h2 h3 h4 h5 hdig⊢
 have hL:=fI h1.len
 have hdd:=yS h4 h5
 refine Fe.ok _ _ _ ?_
 (try simp only [aO,ag,Nat.zero_add,Nat.add_zero])
 refine Nw.mk h fun b3 w h=>Ld.p h hL (yu h h1 fun w h=>aa.f rfl ?_)
 (with_reducible repeat first|refine Ld.q h hL rfl rfl ?_|refine aa.no ?_)
 refine AJ h (by omega) (by omega) fun s18 w h=> ?_
 have hl:=OI.len h
 (with_reducible repeat first|refine Ld.q h hL rfl rfl ?_|refine aa.yes ?_|refine aa.no ?_)
 exact hK _ h.tl
theorem IB {d:DS} {s:Nat} {K:Array Value→Sl→Bool→Int→World→Prop} (h:Hp E w F) (hd:gF d) (hs:s<258)
  (hn: ∀o w',bz d s=none→o.size=260→o.toList.all aA=true→Hp E w' F→K o ⟨none,0,0⟩ false 160 w')
  (hm: ∀d' t sl w',bz d s=some (d',t,false)→Hp E w' (OB sl t::F)→K (de d'.L (d'.left:Int) (d'.run:Int) (d'.digits:Int) false) sl false 0 w')
  (he: ∀d' t sl w',bz d s=some (d',t,true)→Hp E w' (OB sl t::F)→K (de d.L 0 0 0 true) sl true 0 w'):
  Cl Tryz.prog [.arr 260,kS,kB,kI] pL ⟨[.agg (de d.L (d.left:Int) (d.run:Int) (d.digits:Int) false),.int .i64 (s:Int)]⟩ w K:=by
 have hd0:=hd
 have hdig:=hd.dX
 obtain ⟨L,left,run,digits⟩:=d
 obtain ⟨h1,h2,h3,h4,h5⟩:=hd
 unfold bz at hn hm he
 dsimp only at h1 h2 h3 h4 h5 hdig hn hm he⊢
 have hl:=h1.len
 have hL:=fI hl
 have hsz: ∀{a b c:Int} {q:Bool},(de L a b c q).size=260:=aM hl
 have hdd:=yS h4 h5
 have hp:2^digits≤65536:=Nat.pow_le_pow_right (n:=2) (by decide) hdig
 refine HX.ok _ _ _ _ ?_
 (try simp only [aO,ag,Nat.zero_add,Nat.add_zero])
 refine Nw.mk h fun b4 w h=>Nw.mk h fun b6 w h=>Ld.qw h hL rfl (F2 (d:=⟨L,left,run,digits⟩) h hd0 fun w h=> ?_)
 with_reducible refine aa.yD ?_
 refine Ld.q h hL rfl rfl ?_
 with_reducible refine aa.f rfl ?_
 refine aa.df (by omega) (aa.df (by omega) (Ld.qw h hL rfl (Nw.mk h fun b27 w h=>ak.q h jh hsz aN fun w h=> ?_)))
 have out: ∀{w:World} {A:Array Value} {l:List HP} {sl:Sl} {t:List Nat} {K':Array Value→World→Prop},A.size=260→A.toList.all aA=true→Hp E w (af b6 (.cells BF 112 (0,0))::l)→(∀w',Hp E w' (af b6 (.cells A 112 (0,0))::l)→K' A w')→
   ak 260 ⟨b6,0,none⟩ A w fun w_42=>Ld (.arr 260) ⟨b6,0,none⟩ w_42 fun res43=>K' res43 w_42:=by
  intro w A l sl t K' hA hAs h hk
  exact ak.q h jh hA hAs fun w h=>Ld.xw h hA (hk w h)
 by_cases hs2:s<2
 ·simp only [if_pos hs2] at hn hm he
  refine aa.dt (by omega) (Ld.q (b:=b4) h hL rfl rfl (AJ h (by omega) (by omega) fun s31 w h=>Nw.mk h fun b34 w h=>qP h (by omega) fun s36 w h=> ?_))
  have hnw:ed 1 (dX run++ [s])=run+(1+s)*2^digits:=by
   rw [sV,NP,hdd]
   simp [ed,Nat.add_comm]
  have hb:(1+s)*2^digits≤131072:=by
   have:=Nat.mul_le_mul (show 1+s≤2 by omega) hp
   omega
  refine Rj h ad.own (fun x hx=> ?_) (by rw [List.length_append,hdd,List.length_singleton];omega) (by rw [hnw];omega) fun w h=> ?_
  ·rcases List.mem_append.1 hx with hx|hx
   ·exact AH _ x hx
   ·rw [List.mem_singleton] at hx;omega
  rw [hnw]
  generalize (1+s)*2^digits=q at hb hm hn⊢
  refine Ld.q (b:=b4) h hL rfl rfl ?_
  by_cases hle:run+q≤left
  ·rw [if_pos hle] at hm
   refine aa.df (by omega) (St.q (b:=b27) h hL rfl rfl rfl fun w h=> ?_)
   dsimp only [aP,aq] at h
   refine Ld.q (b:=b27) h hL rfl rfl ?_
   rw [ab (by omega)]
   refine St.q (b:=b27) h hL rfl rfl rfl fun w h=> ?_
   dsimp only [aP,aq] at h
   rw [show (digits:Int)+1=((digits+1:Nat):Int) by omega] at h
   have h:Hp E w (OI s36 (dX run++ [s])::af b27 (.cells (de L (left:Int) ((run+q:Nat):Int) ((digits+1:Nat):Int) false) 112 (0,0))::af b6 (.cells BF 112 (0,0))::af b4 (.cells (de L (left:Int) (run:Int) (digits:Int) false) 112 (0,0))::F):=h
   refine Ld.xw (b:=b27) h hsz (ak.q (b:=b6) h jh hsz aN fun w h=>Ld.xw (b:=b6) h hsz ?_)
   exact hm ⟨L,left,run+q,digits+1⟩ [] ⟨none,0,0⟩ _ rfl ((h.tl:Hp E w F).aU 1)
  ·rw [if_neg hle] at hn
   refine aa.dt (by omega) (Ld.xw (b:=b4) h hsz (ak.q (b:=b6) h jh hsz aN fun w h=>Ld.xw (b:=b6) h hsz ?_))
   exact hn _ _ rfl hsz aN h.tl
 ·simp only [if_neg hs2] at hn hm he
  refine aa.df (by omega) (Ld.q (b:=b4) h hL rfl rfl (Ld.q (b:=b4) h hL rfl rfl ?_))
  have bad:bz ⟨L,left,run,digits⟩ s=none→∀w,Hp E w (af b27 (.cells (de L (left:Int) (run:Int) (digits:Int) false) 112 (0,0))::af b6 (.cells BF 112 (0,0))::af b4 (.cells (de L (left:Int) (run:Int) (digits:Int) false) 112 (0,0))::F)→
    Ld (.arr 260) ⟨b4,0,none⟩ w fun x52=>ak 260 ⟨b6,0,none⟩ x52 w fun w_53=>Ld (.arr 260) ⟨b6,0,none⟩ w_53 fun res54=>K res54 ⟨none,0,0⟩ false 160 w_53:=by
   intro hq w h
   refine Ld.xw (b:=b4) h hsz (ak.q (b:=b6) h jh hsz aN fun w h=>Ld.xw (b:=b6) h hsz ?_)
   refine hn _ _ ?_ hsz aN h.tl
   unfold bz at hq
   simpa [hs2] using hq
  have hL0:L.getD 0 0<256:=h1.get (by decide)
  have e0:L[0]? =some (L.getD 0 0):=by rw [List.getD_eq_getElem?_getD,List.getElem?_eq_getElem (by omega)];rfl
  have loop: ∀(w:World) (G:Sl→World→Prop) (m:Sl→Int→World→Nat),Hp E w (af b27 (.cells (de L (left:Int) (run:Int) (digits:Int) false) 112 (0,0))::af b6 (.cells BF 112 (0,0))::af b4 (.cells (de L (left:Int) (run:Int) (digits:Int) false) 112 (0,0))::F)→
    (∀o w',Hp E w' (OB o (List.replicate run (L.getD 0 0))::af b27 (.cells (de L (left:Int) (run:Int) (digits:Int) false) 112 (0,0))::af b6 (.cells BF 112 (0,0))::af b4 (.cells (de L (left:Int) (run:Int) (digits:Int) false) 112 (0,0))::F)→G o w')→
    ∃(I_55:Sl→Int→World→Prop) (m_56:Sl→Int→World→Nat),I_55 ⟨none,0,0⟩ 0 w∧∀(text57:Sl) (i58:Int),∀(w_59:World),I_55 text57 i58 w_59→Ld kI ⟨b4,257,none⟩ w_59 fun Run60=>aa (decide (i58<Run60))
     (au ⟨b4,0,none⟩ 256 0 1 fun q61=>Ld (ao .u8) q61 w_59 fun x62=>Nw 5 ⟨[.int .u8 x62]⟩ w_59 fun b64 w_63=>
      ar Tryz.prog (Builtin.append_ #[26,26] 26 ⟨[.slice text57.base text57.len text57.cap,.slice (some ⟨b64,0,none⟩) 1 1]⟩) kS w_63 fun s66 w_65=>
      I_55 s66 (i64 (i58+1)) w_65∧m_56 s66 (i64 (i58+1)) w_65<m_56 text57 i58 w_59) (G text57 w_59):=by
   intro w G m h hG
   refine ⟨fun o i w=> ∃k:Nat,i=(k:Int)∧k≤run∧Hp E w (OB o (List.replicate k (L.getD 0 0))::af b27 (.cells (de L (left:Int) (run:Int) (digits:Int) false) 112 (0,0))::af b6 (.cells BF 112 (0,0))::af b4 (.cells (de L (left:Int) (run:Int) (digits:Int) false) 112 (0,0))::F),
    fun _ i _=>run - i.toNat,⟨0,rfl,by omega,h.aU 1⟩,?_⟩
   rintro o i w ⟨k,rfl,hk,h⟩
   refine Ld.q (b:=b4) h hL rfl rfl ?_
   refine aa.dm (fun hlt=> ?_) (fun hge=> ?_)
   ·refine ⟨by decide,by decide,?_⟩
    rw [ag]
    refine Ld.xb (b:=b4) (x:=(L.getD 0 0:Int)) h ?_ (Nw.mk h fun b64 w h=>IS h (by rw [List.length_replicate];omega) fun s66 w h=> ?_)
    ·show (bg L++_)[0]? =_
     rw [List.getElem?_append_left (by simp;omega)]
     unfold bg
     rw [List.getElem?_map,e0];rfl
    rw [ab (by omega)]
    refine ⟨⟨k+1,by omega,by omega,?_⟩,by first|omega|(dsimp only;omega)⟩
    rw [List.replicate_succ']
    exact h
   ·have hk2:k=run:=by omega
    subst hk2
    exact hG _ _ h
  by_cases h257:s=257
  ·subst h257
   simp only [if_true] at hn hm he
   by_cases hrl:run=left
   ·rw [if_pos hrl] at he
    refine aa.f (by rw [hrl];simp) ?_
    refine loop w _ (fun _ _ _=>0) h fun o w h=> ?_
    refine aa.et rfl (St.q (b:=b27) h hL rfl rfl rfl fun w h=> ?_)
    dsimp only [aP,aq] at h
    refine St.q (b:=b27) h hL rfl rfl rfl fun w h=> ?_
    dsimp only [aP,aq] at h
    refine St.q (b:=b27) h hL rfl rfl rfl fun w h=> ?_
    dsimp only [aP,aq] at h
    refine St.q (b:=b27) h hL rfl rfl rfl fun w h=> ?_
    dsimp only [aP,aq] at h
    have h:Hp E w (OB o (List.replicate run (L.getD 0 0))::af b27 (.cells (de L 0 0 0 true) 112 (0,0))::af b6 (.cells BF 112 (0,0))::af b4 (.cells (de L (left:Int) (run:Int) (digits:Int) false) 112 (0,0))::F):=h
    refine Ld.xw (b:=b27) h hsz (ak.q (b:=b6) h jh hsz aN fun w h=>Ld.xw (b:=b6) h hsz ?_)
    exact he _ _ _ _ rfl h.eA
   ·refine aa.t ?_ (bad ?_ w h)
    ·have:((run:Int)==(left:Int))=false:=beq_eq_false_iff_ne.2 (by omega)
     rw [this];rfl
    ·unfold bz;dsimp only;rw [if_neg (by decide),if_pos rfl,if_neg hrl]
  ·simp only [if_neg h257] at hn hm he
   have e257:(((s:Int))==257)=false:=beq_eq_false_iff_ne.2 (by omega)
   rw [e257]
   by_cases hrl:run=left
   ·refine aa.t (by rw [hrl];simp) (bad ?_ w h)
    unfold bz;dsimp only;rw [if_neg hs2,if_neg h257,if_pos hrl]
   ·rw [if_neg hrl] at hm
    refine aa.f (by have:((run:Int)==(left:Int))=false:=beq_eq_false_iff_ne.2 (by omega)
                    rw [this];rfl) ?_
    refine loop w _ (fun _ _ _=>0) h fun o w h=> ?_
    refine aa.f rfl ?_
    have hp1:s - 1<256:=by omega
    have hLt:=(h1.take hp1).len
    have hmt:=A7 hLt
    rw [ab (by omega),show (s:Int) - 1=((s - 1:Nat):Int) by omega]
    refine Ld.p (b:=b4) h hL (Bh h hl hp1 fun w h=>Nw.mk h fun b80 w h=>ak.q h wV hmt cv fun w h=>Nw.mk h fun b83 w h=> ?_)
    refine IS (h.at 2|>.at 1) (by rw [List.length_replicate];omega) fun s85 w h=> ?_
    have hl85:=OB.len h
    rw [List.length_append,List.length_replicate,List.length_singleton] at hl85
    refine Ld.xw (b:=b80) h hmt (Ld.q (b:=b4) h hL rfl rfl ?_)
    rw [ab (by omega),show (left:Int) - (s85.len:Int)=((left - (run+1):Nat):Int) by omega]
    refine bP.OD hLt ?_
    have hsz2: ∀{a b c:Int} {q:Bool},(de (bO L (s - 1)) a b c q).size=260:=aM hLt
    refine ak.q (b:=b27) h hsz hsz2 aN fun w h=>Ld.xw (b:=b27) h hsz2 (ak.q (b:=b6) h jh hsz2 aN fun w h=>Ld.xw (b:=b6) h hsz2 ?_)
    exact hm ⟨bO L (s - 1),left - (run+1),0,0⟩ _ _ _ rfl h.eA
end
end Go.Proofs.YtgglghjnakclmaaGreat
namespace Go.Proofs.YtgglghjnakclmaaGreat
open Go Go.Vc
set_option maxRecDepth 100000
theorem H2.ok (a:Sl) (R:(Array Value)→Int→Int→World→Prop) w (h:
 Nw 104 ⟨List.replicate 258 (.int .u8 0)⟩ w fun c b=>
 Nw 106 ⟨List.replicate 258 (.int .u8 0)++ [(ni 0),(ni 0),(ni 0),(ni 0)]⟩ b fun e d=>
 ee 0 d fun f g (h:Int) i=>
 aa (decide (h<(a.len:Int)))
 (ay a h 1 fun j=>
 Ld kI j i fun (k:Int)=>
 aa (k !=0)
 (ay a h 1 fun l=>
 Ld kI l i fun (m:Int)=>
 aa (m !=1)
 (bP Pg 104 [] fun n=>
 ak 258 ⟨c,0,none⟩ n i fun o=>
 Ld (.arr 258) ⟨c,0,none⟩ o fun p=>
 R p 0 2 o)
 (cB i fun q r=>
 aw (.arr 262) ⟨e,0,none⟩ q fun s=>
 ay a h 1 fun t=>
 aw kI t q fun (u:Int)=>
 (Cl Pg [(.arr 262),kB] ir ⟨[(.agg s),(ni u)]⟩ r fun x (y:Bool) v=>
 q v∧
 Nw 106 ⟨List.replicate 258 (.int .u8 0)++ [(ni 0),(ni 0),(ni 0),(ni 0)]⟩ v fun a1 z=>
 q z∧
 ak 262 ⟨a1,0,none⟩ x z fun b1=>
 q b1∧
 aa (!y)
 (bP Pg 104 [] fun c1=>
 ak 258 ⟨c,0,none⟩ c1 b1 fun d1=>
 Ld (.arr 258) ⟨c,0,none⟩ d1 fun e1=>
 R e1 0 100 d1)
 (Ld (.arr 262) ⟨a1,0,none⟩ b1 fun f1=>
 ak 262 ⟨e,0,none⟩ f1 b1 fun g1=>
 Ld kI (Addr.add ⟨e,0,none⟩ 258) g1 fun (h1:Int)=>
 aa (h1==258)
 (Ld (.arr 258) (Addr.add ⟨e,0,none⟩ 0) g1 fun i1=>
 ak 258 ⟨c,0,none⟩ i1 g1 fun j1=>
 Ld (.arr 258) ⟨c,0,none⟩ j1 fun k1=>
 R k1 (i64 (h+1)) 0 j1)
 (f (i64 (h+1)) g1∧g (i64 (h+1)) g1<g h i)))∧
 (Nw 106 ⟨List.replicate 258 (.int .u8 0)++ [(ni 0),(ni 0),(ni 0),(ni 0)]⟩ r fun m1 l1=>
 q l1∧
 Cl Pg [(.arr 262),kB] ir ⟨[(.agg s),(ni u)]⟩ l1 fun o1 (p1:Bool) n1=>
 q n1∧
 ak 262 ⟨m1,0,none⟩ o1 n1 fun q1=>
 q q1∧
 aa (!p1)
 (bP Pg 104 [] fun r1=>
 ak 258 ⟨c,0,none⟩ r1 q1 fun s1=>
 Ld (.arr 258) ⟨c,0,none⟩ s1 fun t1=>
 R t1 0 100 s1)
 (Ld (.arr 262) ⟨m1,0,none⟩ q1 fun u1=>
 ak 262 ⟨e,0,none⟩ u1 q1 fun v1=>
 Ld kI (Addr.add ⟨e,0,none⟩ 258) v1 fun (x1:Int)=>
 aa (x1==258)
 (Ld (.arr 258) (Addr.add ⟨e,0,none⟩ 0) v1 fun y1=>
 ak 258 ⟨c,0,none⟩ y1 v1 fun z1=>
 Ld (.arr 258) ⟨c,0,none⟩ z1 fun a2=>
 R a2 (i64 (h+1)) 0 z1)
 (f (i64 (h+1)) v1∧g (i64 (h+1)) v1<g h i)))))
 (cB i fun b2 c2=>
 aw (.arr 262) ⟨e,0,none⟩ b2 fun d2=>
 ay a h 1 fun e2=>
 aw kI e2 b2 fun (f2:Int)=>
 (Cl Pg [(.arr 262),kB] ir ⟨[(.agg d2),(ni f2)]⟩ c2 fun h2 (i2:Bool) g2=>
 b2 g2∧
 Nw 106 ⟨List.replicate 258 (.int .u8 0)++ [(ni 0),(ni 0),(ni 0),(ni 0)]⟩ g2 fun k2 j2=>
 b2 j2∧
 ak 262 ⟨k2,0,none⟩ h2 j2 fun l2=>
 b2 l2∧
 aa (!i2)
 (bP Pg 104 [] fun m2=>
 ak 258 ⟨c,0,none⟩ m2 l2 fun n2=>
 Ld (.arr 258) ⟨c,0,none⟩ n2 fun o2=>
 R o2 0 100 n2)
 (Ld (.arr 262) ⟨k2,0,none⟩ l2 fun p2=>
 ak 262 ⟨e,0,none⟩ p2 l2 fun q2=>
 Ld kI (Addr.add ⟨e,0,none⟩ 258) q2 fun (r2:Int)=>
 aa (r2==258)
 (Ld (.arr 258) (Addr.add ⟨e,0,none⟩ 0) q2 fun s2=>
 ak 258 ⟨c,0,none⟩ s2 q2 fun t2=>
 Ld (.arr 258) ⟨c,0,none⟩ t2 fun u2=>
 R u2 (i64 (h+1)) 0 t2)
 (f (i64 (h+1)) q2∧g (i64 (h+1)) q2<g h i)))∧
 (Nw 106 ⟨List.replicate 258 (.int .u8 0)++ [(ni 0),(ni 0),(ni 0),(ni 0)]⟩ c2 fun x2 v2=>
 b2 v2∧
 Cl Pg [(.arr 262),kB] ir ⟨[(.agg d2),(ni f2)]⟩ v2 fun z2 (a3:Bool) y2=>
 b2 y2∧
 ak 262 ⟨x2,0,none⟩ z2 y2 fun b3=>
 b2 b3∧
 aa (!a3)
 (bP Pg 104 [] fun c3=>
 ak 258 ⟨c,0,none⟩ c3 b3 fun d3=>
 Ld (.arr 258) ⟨c,0,none⟩ d3 fun e3=>
 R e3 0 100 d3)
 (Ld (.arr 262) ⟨x2,0,none⟩ b3 fun f3=>
 ak 262 ⟨e,0,none⟩ f3 b3 fun g3=>
 Ld kI (Addr.add ⟨e,0,none⟩ 258) g3 fun (h3:Int)=>
 aa (h3==258)
 (Ld (.arr 258) (Addr.add ⟨e,0,none⟩ 0) g3 fun i3=>
 ak 258 ⟨c,0,none⟩ i3 g3 fun j3=>
 Ld (.arr 258) ⟨c,0,none⟩ j3 fun k3=>
 R k3 (i64 (h+1)) 0 j3)
 (f (i64 (h+1)) g3∧g (i64 (h+1)) g3<g h i)))))
 (bP Pg 104 [] fun l3=>
 ak 258 ⟨c,0,none⟩ l3 i fun m3=>
 Ld (.arr 258) ⟨c,0,none⟩ m3 fun n3=>
 R n3 0 50 m3)):Cl Pg [(.arr 258),kI,kI] qg ⟨[(an a)]⟩ w R:=co Tryz.f111 [(7,[(6,kI)])] h
theorem NQ.ok (a:(Array Value)) (R:Sl→Int→World→Prop) w (h:
 Nw 104 a w fun c b=>
 Ld (.arr 258) ⟨c,0,none⟩ b fun d=>
 Cl Pg [kB] kh ⟨[(.agg d)]⟩ b fun (f:Bool) e=>
 aa (!f)
 (R (⟨none,0,0⟩:Sl) 2 e)
 (Ld (.arr 258) ⟨c,0,none⟩ e fun g=>
 au ⟨c,0,none⟩ 258 0 1 fun h=>
 Ld (ao .u8) h e fun (i:Int)=>
 Cl Pg [kS] p6 ⟨[(.agg g),(ni (i64 i))]⟩ e fun (k:Sl) j=>
 R k 0 j)):Cl Pg [kS,kI] tw ⟨[(.agg a)]⟩ w R:=co Tryz.f127 [] h
theorem KJ.ok (a:(Array Value)) (b:Int) (R:(Array Value)→Bool→World→Prop) w (h:
 Nw 106 a w fun d c=>
 Nw 106 ⟨List.replicate 258 (.int .u8 0)++ [(ni 0),(ni 0),(ni 0),(ni 0)]⟩ c fun f e=>
 aQ (fun (p1:World)=>
 St (Addr.add ⟨d,0,none⟩ 259) (ni 4) p1 fun q1=>
 aa (b==0)
 (Ld kI (Addr.add ⟨d,0,none⟩ 261) q1 fun (r1:Int)=>
 aa (r1==2)
 (Ld (.arr 262) ⟨d,0,none⟩ q1 fun s1=>
 ak 262 ⟨f,0,none⟩ s1 q1 fun t1=>
 Ld (.arr 262) ⟨f,0,none⟩ t1 fun u1=>
 R u1 false t1)
 (Ld kI (Addr.add ⟨d,0,none⟩ 260) q1 fun (v1:Int)=>
 aa (v1==15)
 (Ld (.arr 262) ⟨d,0,none⟩ q1 fun x1=>
 ak 262 ⟨f,0,none⟩ x1 q1 fun y1=>
 Ld (.arr 262) ⟨f,0,none⟩ y1 fun z1=>
 R z1 false y1)
 (Ld kI (Addr.add ⟨d,0,none⟩ 260) q1 fun (a2:Int)=>
 St (Addr.add ⟨d,0,none⟩ 260) (ni (i64 (a2+1))) q1 fun b2=>
 St (Addr.add ⟨d,0,none⟩ 261) (ni 1) b2 fun c2=>
 Ld (.arr 262) ⟨d,0,none⟩ c2 fun d2=>
 ak 262 ⟨f,0,none⟩ d2 c2 fun e2=>
 Ld (.arr 262) ⟨f,0,none⟩ e2 fun f2=>
 R f2 true e2)))
 (Ld kI (Addr.add ⟨d,0,none⟩ 261) q1 fun (g2:Int)=>
 aa (g2==1)
 (Ld (.arr 262) ⟨d,0,none⟩ q1 fun h2=>
 ak 262 ⟨f,0,none⟩ h2 q1 fun i2=>
 Ld (.arr 262) ⟨f,0,none⟩ i2 fun j2=>
 R j2 false i2)
 (Ld kI (Addr.add ⟨d,0,none⟩ 260) q1 fun (k2:Int)=>
 aa (k2==0)
 (Ld (.arr 262) ⟨d,0,none⟩ q1 fun l2=>
 ak 262 ⟨f,0,none⟩ l2 q1 fun m2=>
 Ld (.arr 262) ⟨f,0,none⟩ m2 fun n2=>
 R n2 false m2)
 (Ld kI (Addr.add ⟨d,0,none⟩ 260) q1 fun (o2:Int)=>
 St (Addr.add ⟨d,0,none⟩ 260) (ni (i64 (o2 - 1))) q1 fun p2=>
 St (Addr.add ⟨d,0,none⟩ 261) (ni 2) p2 fun q2=>
 Ld (.arr 262) ⟨d,0,none⟩ q2 fun r2=>
 ak 262 ⟨f,0,none⟩ r2 q2 fun s2=>
 Ld (.arr 262) ⟨f,0,none⟩ s2 fun t2=>
 R t2 true s2)))) fun g=>
 Ld kI (Addr.add ⟨d,0,none⟩ 259) e fun (h:Int)=>
 aQ (fun (j:Bool) (k:World)=>
 aa j
 (Ld kI (Addr.add ⟨d,0,none⟩ 260) k fun (l:Int)=>
 St (Addr.add ⟨d,0,none⟩ 260) (ni (i64 ((i64 ((2:Int)*l))+b))) k fun m=>
 Ld kI (Addr.add ⟨d,0,none⟩ 259) m fun (n:Int)=>
 St (Addr.add ⟨d,0,none⟩ 259) (ni (i64 (n+1))) m fun o=>
 Ld (.arr 262) ⟨d,0,none⟩ o fun p=>
 ak 262 ⟨f,0,none⟩ p o fun q=>
 Ld (.arr 262) ⟨f,0,none⟩ q fun r=>
 R r true q)
 (aa (h==4)
 (aa (b==1)
 (St (Addr.add ⟨d,0,none⟩ 259) (ni 5) k fun s=>
 Ld (.arr 262) ⟨d,0,none⟩ s fun t=>
 ak 262 ⟨f,0,none⟩ t s fun u=>
 Ld (.arr 262) ⟨f,0,none⟩ u fun v=>
 R v true u)
 (Ld kI (Addr.add ⟨d,0,none⟩ 258) k fun (x:Int)=>
 Ld kI (Addr.add ⟨d,0,none⟩ 260) k fun (y:Int)=>
 au (Addr.add ⟨d,0,none⟩ 0) 258 x 1 fun z=>
 St z (.int .u8 (u8 y)) k fun a1=>
 Ld kI (Addr.add ⟨d,0,none⟩ 258) a1 fun (b1:Int)=>
 St (Addr.add ⟨d,0,none⟩ 258) (ni (i64 (b1+1))) a1 fun c1=>
 St (Addr.add ⟨d,0,none⟩ 261) (ni 0) c1 fun d1=>
 cB d1 fun e1 f1=>
 aw (.arr 262) ⟨d,0,none⟩ e1 fun g1=>
 aw kI (Addr.add ⟨d,0,none⟩ 258) e1 fun (h1:Int)=>
 aa (decide (h1<258))
 (ak 262 ⟨f,0,none⟩ g1 f1 fun i1=>
 e1 i1∧
 Ld (.arr 262) ⟨f,0,none⟩ i1 fun j1=>
 R j1 true i1)
 (aw (.arr 258) (Addr.add ⟨d,0,none⟩ 0) e1 fun k1=>
 Cl Pg [kB] kh ⟨[(.agg k1)]⟩ f1 fun (m1:Bool) l1=>
 e1 l1∧
 ak 262 ⟨f,0,none⟩ g1 l1 fun n1=>
 e1 n1∧
 Ld (.arr 262) ⟨f,0,none⟩ n1 fun o1=>
 R o1 m1 n1)))
 (g k))) fun i=>
 aa (h==0)
 (i (h==0) e)
 (aa (h==1)
 (i (h==1) e)
 (aa (h==2)
 (i (h==2) e)
 (i (h==3) e)))):Cl Pg [(.arr 262),kB] ir ⟨[(.agg a),(ni b)]⟩ w R:=co Tryz.f158 [(2,[]),(5,[(8,kB)])] h
theorem Jg.ok (a:(Array Value)) (b:Int) (R:Sl→World→Prop) w (h:
 Nw 104 a w fun d c=>
 (8:Int)≠0∧
 (2:Int)≠0∧
 (4:Int)≠0∧
 (2:Int)≠0∧
 (2:Int)≠0∧
 (2:Int)≠0∧
 (2:Int)≠0∧
 Nw 3 ⟨[(ni (Int.tmod (i64 (Int.tdiv b (8:Int))) (2:Int))),(ni (Int.tmod (i64 (Int.tdiv b (4:Int))) (2:Int))),(ni (Int.tmod (i64 (Int.tdiv b (2:Int))) (2:Int))),(ni (Int.tmod b (2:Int)))]⟩ c fun f e=>
 BE b (⟨some ⟨f,0,none⟩,4,4⟩:Sl) 0 e fun g h (i:Int) (j:Sl) (k:Int) l=>
 aa (decide (k<258))
 (au ⟨d,0,none⟩ 258 k 1 fun m=>
 Ld (ao .u8) m l fun (n:Int)=>
 Cl Pg [kS] ru ⟨[(ni i),(ni (i64 n))]⟩ l fun (p:Sl) o=>
 ar Pg (Builtin.append_ #[142,142] 142 ⟨[(an j),(an p)]⟩) kS o fun (r:Sl) q=>
 au ⟨d,0,none⟩ 258 k 1 fun s=>
 Ld (ao .u8) s q fun (t:Int)=>
 g (i64 t) r (i64 (k+1)) q∧h (i64 t) r (i64 (k+1)) q<h i j k l)
 (R j l)):Cl Pg [kS] p6 ⟨[(.agg a),(ni b)]⟩ w R:=co Tryz.f183 [(7,[(1,kI),(5,kS),(6,kI)])] h
theorem KD.ok (a:Int) (b:Int) (R:Sl→World→Prop) w (h:
 cp a (⟨none,0,0⟩:Sl) w fun c d (e:Int) (f:Sl) g=>
 aa (decide (e<b))
 (Nw 3 ⟨[(ni 1),(ni 0)]⟩ g fun i h=>
 ar Pg (Builtin.append_ #[142,142] 142 ⟨[(an f),(an (⟨some ⟨i,0,none⟩,2,2⟩:Sl))]⟩) kS h fun (k:Sl) j=>
 c (i64 (e+1)) k j∧d (i64 (e+1)) k j<d e f g)
 (cp e f g fun l m (n:Int) (o:Sl) p=>
 aa (decide (n>b))
 (Nw 3 ⟨[(ni 1),(ni 1)]⟩ p fun r q=>
 ar Pg (Builtin.append_ #[142,142] 142 ⟨[(an o),(an (⟨some ⟨r,0,none⟩,2,2⟩:Sl))]⟩) kS q fun (t:Sl) s=>
 l (i64 (n - 1)) t s∧m (i64 (n - 1)) t s<m n o p)
 (Nw 3 ⟨[(ni 0)]⟩ p fun v u=>
 ar Pg (Builtin.append_ #[142,142] 142 ⟨[(an o),(an (⟨some ⟨v,0,none⟩,1,1⟩:Sl))]⟩) kS u fun (y:Sl) x=>
 R y x))):Cl Pg [kS] ru ⟨[(ni a),(ni b)]⟩ w R:=co Tryz.f247 [(5,[(0,kI),(5,kS)]),(13,[(0,kI),(5,kS)])] h
end Go.Proofs.YtgglghjnakclmaaGreat
namespace Go.Proofs.YtgglghjnakclmaaGreat
open Go Go.Vc
set_option maxRecDepth 100000
theorem Gh.ok (a:(Array Value)) (R:Bool→World→Prop) w (h:
 Nw 104 a w fun c b=>
 Ld (.arr 258) ⟨c,0,none⟩ b fun d=>
 Cl Pg [kI] qY ⟨[(.agg d)]⟩ b fun (f:Int) e=>
 aa (f==32768)
 (au ⟨c,0,none⟩ 258 257 1 fun g=>
 Ld (ao .u8) g e fun (h:Int)=>
 R (h !=0) e)
 (R false e)):Cl Pg [kB] kh ⟨[(.agg a)]⟩ w R:=co Tryz.f182 [] h
theorem JU.ok (a:(Array Value)) (R:Int→World→Prop) w (h:
 Nw 104 a w fun c b=>
 cp 0 0 b fun d e (f:Int) (g:Int) h=>
 aa (decide (g<258))
 (au ⟨c,0,none⟩ 258 g 1 fun i=>
 Ld (ao .u8) i h fun (j:Int)=>
 Cl Pg [kI] n6 ⟨[(.int .u8 j)]⟩ h fun (l:Int) k=>
 d (i64 (f+l)) (i64 (g+1)) k∧e (i64 (f+l)) (i64 (g+1)) k<e f g h)
 (R f h)):Cl Pg [kI] qY ⟨[(.agg a)]⟩ w R:=co Tryz.f246 [(7,[(3,kI),(4,kI)])] h
theorem Ff.ok (a:Int) (R:Int→World→Prop) w (h:
 aa (a==0)
 (R 0 w)
 (aa (decide (a>15))
 (R 32769 w)
 (cp 32768 0 w fun b c (d:Int) (e:Int) f=>
 aa (decide (e<a))
 ((2:Int)≠0∧
 b (i64 (Int.tdiv d (2:Int))) (u8 (e+1)) f∧c (i64 (Int.tdiv d (2:Int))) (u8 (e+1)) f<c d e f)
 (R d f)))):Cl Pg [kI] n6 ⟨[(.int .u8 a)]⟩ w R:=co Tryz.f295 [(17,[(3,kI),(4,(ao .u8))])] h
end Go.Proofs.YtgglghjnakclmaaGreat
namespace Go.Proofs.YtgglghjnakclmaaGreat
open Go Go.Vc Go.Srt
section
variable {E w:World} {F:List HP}
theorem Mi {n:Nat} {K:Int→World→Prop} (hn:n≤255) (hK:K (wt n:Int) w):Cl Tryz.prog [kI] n6 ⟨[.int .u8 (n:Int)]⟩ w K:=by
 refine Ff.ok _ _ _ ?_
 unfold wt at hK
 refine aa.mk (fun h=> ?_) (fun h=>aa.mk (fun h2=> ?_) (fun h2=> ?_))
 ·have h:n=0:=by have:=of_decide_eq_true h;omega
  rw [if_pos h] at hK;exact hK
 ·have h:n≠0:=by have:=of_decide_eq_false h;omega
  have h2:n>15:=by have:=of_decide_eq_true h2;omega
  rw [if_neg h,if_pos h2] at hK;exact hK
 ·have h:n≠0:=by have:=of_decide_eq_false h;omega
  have h2: ¬n>15:=by have:=of_decide_eq_false h2;omega
  rw [if_neg h,if_neg h2] at hK
  refine ⟨fun v i w'=> ∃k v':Nat,i=(k:Int)∧k≤n∧v=(v':Int)∧v'=2^(15 - k)∧w'=w,fun _ i _=>15 - i.toNat,⟨0,32768,rfl,by omega,rfl,by decide,rfl⟩,?_⟩
  rintro v i w' ⟨k,v',rfl,hk,rfl,hv,rfl⟩
  refine aa.mk (fun hlt=> ?_) (fun hge=> ?_)
  ·have hlt:k<n:=by have:=of_decide_eq_true hlt;omega
   have e:2^(15 - k)=2*2^(15 - (k+1)):=by rw [show 15 - k=(15 - (k+1))+1 by omega,Nat.pow_succ,Nat.mul_comm]
   have hb:2^(15 - (k+1))≤2^15:=Nat.pow_le_pow_right (by decide) (by omega)
   have hb2:(2:Nat)^15=32768:=by decide
   have e2:Int.tdiv (v':Int) 2=((2^(15 - (k+1)):Nat):Int):=by
    rw [Int.tdiv_eq_ediv_of_nonneg (by omega),hv,e];omega
   rw [e2,ab (by omega),eD (by omega)]
   exact ⟨by decide,⟨k+1,_,rfl,by omega,rfl,rfl,rfl⟩,by dsimp only;omega⟩
  ·have hge:k=n:=by have:=of_decide_eq_false hge;omega
   subst hge;rw [hv];exact hK
set_option maxRecDepth 20000 in
theorem P4 {l:List Nat} {K:Int→World→Prop} (h:Hp E w F) (hl:l.length=258) (h8: ∀x∈l,x≤255) (hK: ∀w',Hp E w' F→K (a9 l:Int) w'):Cl Tryz.prog [kI] qY ⟨[.agg (ai .u8 l)]⟩ w K:=by
 refine JU.ok _ _ _ ?_
 have hb:=v5 l
 refine Nw.mk h fun b w1 h1=>⟨fun sm i w'=> ∃k:Nat,i=(k:Int)∧k≤258∧sm=(a9 (l.take k):Int)∧Hp E w' (af b (.cells (ai .u8 l) 104 (0,0))::F),fun _ i _=>258 - i.toNat,⟨0,rfl,by omega,by simp [a9],h1⟩,?_⟩
 rintro sm i w' ⟨k,rfl,hk,rfl,hh⟩
 refine aa.mk (fun hlt=> ?_) (fun hge=> ?_)
 ·have hlt:k<258:=by have:=of_decide_eq_true hlt;omega
  have hkl:k<l.length:=by omega
  refine au.rd (s:= .int .u8) hh (by omega) (by omega) (l[k]:Int) (by rw [Int.toNat_natCast];exact jS hkl) (Mi (h8 _ (List.getElem_mem hkl)) ?_)
  have e:=nF hkl
  have:=qN (l:=l) (k:=k+1)
  rw [ab (x:=(a9 (l.take k):Int)+(wt l[k]:Int)) (by omega),ab (by omega)]
  exact ⟨⟨k+1,rfl,by omega,by rw [e];rfl,hh⟩,by dsimp only;omega⟩
 ·have hge:k=258:=by have:=of_decide_eq_false hge;omega
  subst hge
  rw [←hl,List.take_length]
  exact hK _ hh.drop
theorem Dv {l:List Nat} {K:Bool→World→Prop} (h:Hp E w F) (hl:l.length=258) (h8: ∀x∈l,x≤255) (hK: ∀w',Hp E w' F→K (bG l) w'):Cl Tryz.prog [kB] kh ⟨[.agg (ai .u8 l)]⟩ w K:=by
 refine Gh.ok _ _ _ ?_
 refine Nw.mk h fun b w1 h1=>Ld.arr h1 (by rw [aK,hl]) (P4 h1 hl h8 fun w2 h2=> ?_)
 have e:((a9 l:Int)==32768)=decide (a9 l=32768):=by rw [Bool.eq_iff_iff];simp;omega
 rw [e]
 refine aa.mk (fun hv=> ?_) (fun hv=> ?_)
 ·refine au.rd (s:= .int .u8) h2 (by decide) (by decide) (l.getD 257 0:Int) (pZ (i:=257) (by omega)) ?_
  have:((l.getD 257 0:Int) !=0)=bG l:=by
   unfold bG;rw [hv,Bool.true_and,Bool.eq_iff_iff,bne_iff_ne,decide_eq_true_eq];omega
  rw [this]
  exact hK _ h2.drop
 ·have:false=bG l:=by unfold bG;rw [hv,Bool.false_and]
  rw [this]
  exact hK _ h2.drop
end
end Go.Proofs.YtgglghjnakclmaaGreat
namespace Go.Inc
theorem E6 {α σ β ε:Type} {f:σ→α→tX σ β ε} {s s':σ} {l:List α} {k:Nat} (h:run f s (l.take k)= .short s'):run f s l=run f s' (l.drop k):=by
 conv=>lhs;rw [←List.take_append_drop k l]
 exact eV h _
end Go.Inc
namespace Go.Proofs.YtgglghjnakclmaaGreat
open Go Go.Vc Go.Srt Go.Inc Go.Tab
section
variable {E w:World} {F:List HP}
abbrev mF:Array Value:=⟨List.replicate 258 (.int .u8 0)⟩
end
end Go.Proofs.YtgglghjnakclmaaGreat
namespace Go.Vc
theorem aQ.TK {A:Type} {r:A→World→Prop} {k:(A→World→Prop)→Prop} (Q:A→World→Prop) (h1: ∀a w,Q a w→r a w) (h2: ∀r',(∀a w,Q a w→r' a w)→k r'):aQ r k:=h2 r h1
end Go.Vc
namespace Go.Proofs.YtgglghjnakclmaaGreat
open Go Go.Vc Go.Srt Go.Inc Go.Tab Go.aE
section
variable {E w:World} {F:List HP}
theorem OH {s:Sl} {b x y:Nat} {t:TypeId} {xs:List Nat} {K:Sl→World→Prop} (h:Hp E w (af b (.cells ⟨[.int .i64 (x:Int),.int .i64 (y:Int)]⟩ t (0,0))::OI s xs::F)) (hl:xs.length≤10000000000) (hK: ∀s' w',Hp E w' (OI s' (xs++ [x,y])::F)→K s' w'):
  ar Tryz.prog (Builtin.append_ #[142,142] 142 ⟨[.slice s.base s.len s.cap,.slice (some ⟨b,0,none⟩) 2 2]⟩) kS w K:=by
 have hol:=OI.len (h.at 1)
 refine bf (ys:= [vI (x:Int),vI (y:Int)]) (n:=2) oO (by decide) (.inl ⟨3,by kernel_rfl⟩) (h.at 1) (.inl ⟨some ⟨b,0,none⟩,2,2,rfl,rfl,h.aj (ad.az rfl rfl)⟩) rfl (by
  intro z hz
  simp only [List.mem_cons,List.not_mem_nil,or_false] at hz
  rcases hz with rfl|rfl<;>rfl) (by omega) (by omega) fun s' w' h _=>hK s' w' ?_
 unfold OI
 rw [vx]
 exact h.eA
theorem M9 {was now:Nat} {K:Sl→World→Prop} (h:Hp E w F) (h1:was≤255) (h2:now≤255) (hK: ∀s w',Hp E w' (OI s (ln was now)::F)→K s w'):Cl Tryz.prog [kS] ru ⟨[.int .i64 (was:Int),.int .i64 (now:Int)]⟩ w K:=by
 refine KD.ok _ _ _ _ ?_
 refine ⟨fun m o w=> ∃(q:Nat) (l:List Nat),m=(q:Int)∧q≤255∧l.length≤2*(q+was)∧ln was now=l++ln q now∧Hp E w (OI o l::F),fun m _ _=>255 - m.toNat,⟨was,[],rfl,h1,by simp,rfl,h.aU 1⟩,?_⟩
 rintro m o w ⟨q,l,rfl,hq,hl,hc,h⟩
 refine aa.dm (fun hlt=> ?_) (fun hge=> ?_)
 ·refine Nw.mk h fun b w h=>OH (x:=1) (y:=0) h (by omega) fun s w h=> ?_
  rw [ab (by omega)]
  refine ⟨⟨q+1,l++ [1,0],rfl,by omega,by rw [List.length_append];simp;omega,?_,h⟩,by first|omega|(dsimp only;omega)⟩
  rw [hc]
  unfold ln
  rw [if_neg (by omega),if_neg (by omega)]
  obtain ⟨j,hj⟩: ∃j,now - q=j+1:=⟨now - q - 1,by omega⟩
  rw [hj,show now - (q+1)=j by omega,show vj (j+1)=1::0::vj j from rfl]
  simp
 ·refine ⟨fun m o w=> ∃(q:Nat) (l:List Nat),m=(q:Int)∧q≤255∧now≤q∧l.length≤2*(255 - q)+2000∧ln was now=l++ln q now∧Hp E w (OI o l::F),fun m _ _=>m.toNat,⟨q,l,rfl,hq,by omega,by omega,hc,h⟩,?_⟩
  rintro m o w ⟨q,l,rfl,hq,hnq,hl,hc,h⟩
  refine aa.dm (fun hlt=> ?_) (fun hge=> ?_)
  ·refine Nw.mk h fun b w h=>OH (x:=1) (y:=1) h (by omega) fun s w h=> ?_
   rw [ab (by omega),show (q:Int) - 1=((q - 1:Nat):Int) by omega]
   refine ⟨⟨q - 1,l++ [1,1],rfl,by omega,by omega,by rw [List.length_append];simp;omega,?_,h⟩,by first|omega|(dsimp only;omega)⟩
   rw [hc]
   obtain ⟨j,hj⟩: ∃j,q - now=j+1:=⟨q - now - 1,by omega⟩
   have e1:ln q now=1::1::(nh j++ [0]):=by
    unfold ln
    rw [if_pos (by omega),hj];rfl
   have e2:ln (q - 1) now=nh j++ [0]:=by
    unfold ln
    split
    ·rw [show q - 1 - now=j by omega]
    ·have:j=0:=by omega
     subst this
     rw [show now - (q - 1)=0 by omega];rfl
   rw [e1,e2];simp
  ·have e:q=now:=by omega
   subst e
   refine Nw.mk h fun b w h=>qP (x:=0) h (by omega) fun s w h=>hK s w ?_
   rw [hc,show ln q q= [0] by unfold ln;simp [vj]]
   exact h
theorem Kw {l:List Nat} {K:Sl→World→Prop} (h:Hp E w F) (hl:l.length=258) (h8: ∀x∈l,x≤15) (hK: ∀s w',Hp E w' (OI s (pR l)::F)→K s w'):Cl Tryz.prog [kS] p6 ⟨[.agg (ai .u8 l),.int .i64 (l.headD 0:Int)]⟩ w K:=by
 obtain ⟨x,m,rfl⟩: ∃x m,l=x::m:=by
  cases l with
  |nil=>simp at hl
  |cons x m=>exact ⟨x,m,rfl⟩
 have hx15:=h8 x List.mem_cons_self
 refine Jg.ok _ _ _ _ ?_
 show Nw _ _ _ _
 rw [show ((x::m).headD 0)=x from rfl]
 refine Nw.mk h fun b4 w h=>⟨by decide,by decide,by decide,by decide,by decide,by decide,by decide,?_⟩
 rw [show (8:Int)=((8:Nat):Int) from rfl,show (4:Int)=((4:Nat):Int) from rfl,show (2:Int)=((2:Nat):Int) from rfl,qA,qA,qA,tI,ab (x:=((x/8:Nat):Int)) (by omega),ab (x:=((x/4:Nat):Int)) (by omega),ab (x:=((x/2:Nat):Int)) (by omega),tI,tI,tI]
 refine Nw.mk h fun b6 w h=> ?_
 have h:=Hp.fS (n:=4) (sz:=1) h rfl
 have h:Hp E w (OI ⟨some ⟨b6,0,none⟩,4,4⟩ (four x++iA x ((x::m).take 0))::af b4 (.cells (ai .u8 (x::m)) 104 (0,0))::F):=h
 refine ⟨fun was o i w=> ∃k:Nat,i=(k:Int)∧k≤258∧was=((((x::m).take k).getLastD x:Nat):Int)∧Hp E w (OI o (four x++iA x ((x::m).take k))::af b4 (.cells (ai .u8 (x::m)) 104 (0,0))::F),fun _ _ i _=>258 - i.toNat,⟨0,rfl,by omega,rfl,h⟩,?_⟩
 rintro was o i w ⟨k,rfl,hk,rfl,h⟩
 refine aa.dm (fun hlt=> ?_) (fun hge=> ?_)
 ·have hlt:k<258:=by omega
  have hlt2:k<(x::m).length:=by omega
  have hn15:=h8 _ (List.getElem_mem hlt2)
  have hw15:((x::m).take k).getLastD x≤15:=by
   cases hc:((x::m).take k).getLast? with
   |none=>rw [List.getLastD_eq_getLast?,hc];exact hx15
   |some y=>
    rw [List.getLastD_eq_getLast?,hc]
    exact h8 y (List.mem_of_mem_take (List.mem_of_getLast? hc))
  have hk':((x::m).take k++ [(x::m)[k]])=(x::m).take (k+1):=by rw [List.take_add_one,List.getElem?_eq_getElem hlt2];rfl
  have htl:=xy ((x::m).take k) x hx15 fun y hy=>h8 y (List.mem_of_mem_take hy)
  rw [List.length_take] at htl
  have hcl:=GD hw15 hn15
  refine au.rd (s:= .int .u8) (h.at 1) (by omega) (by omega) ((x::m)[k]:Int) (jS hlt2) ?_
  rw [ab (x:=((x::m)[k]:Int)) (by omega)]
  refine M9 h (by omega) (by omega) fun s16 w h=> ?_
  refine C3 (h.at 1) ad.own (by rw [List.length_append,show (four x).length=4 from rfl];omega) (by omega) fun s18 w h=> ?_
  refine au.rd (s:= .int .u8) (h.at 2) (by omega) (by omega) ((x::m)[k]:Int) (jS hlt2) ?_
  rw [ab (x:=((x::m)[k]:Int)) (by omega),ab (x:=(k:Int)+1) (by omega)]
  refine ⟨⟨k+1,rfl,by omega,?_,?_⟩,by first|omega|(dsimp only;omega)⟩
  ·rw [←hk',List.getLastD_concat]
  ·rw [List.append_assoc,←Bb,hk'] at h
   exact h.no 1
 ·have hk2:k=258:=by omega
  subst hk2
  rw [List.take_of_length_le (by omega)] at h
  exact hK o w h.eA
theorem QG {l:List Nat} {K:Sl→Int→World→Prop} (h:Hp E w F) (hl:l.length=258) (h8: ∀x∈l,x≤255) (hbad:bG l=false→∀w',Hp E w' F→K ⟨none,0,0⟩ 2 w')
  (hK:bG l=true→∀s w',Hp E w' (OI s (pR l)::F)→K s 0 w'):Cl Tryz.prog [kS,kI] tw ⟨[.agg (ai .u8 l)]⟩ w K:=by
 refine NQ.ok _ _ _ ?_
 have hsz:(ai .u8 l).size=258:=by rw [aK,hl]
 refine Nw.mk h fun b3 w h=>Ld.xw h hsz (Dv h hl h8 fun w h=> ?_)
 by_cases hok:bG l=true
 ·rw [hok]
  have h15:=af.pO hok
  have h0:0<l.length:=by omega
  have hhd:l.headD 0=l[0]:=by
   cases l with
   |nil=>simp at h0
   |cons x m=>rfl
  refine aa.f rfl (Ld.xw h hsz (au.rd (s:= .int .u8) h (by omega) (by omega) (l[0]:Int) (jS h0) ?_))
  have:=h15 _ (List.getElem_mem h0)
  rw [ab (by omega),←hhd]
  exact Kw h hl h15 fun s w h=>hK hok s w h.eA
 ·rw [show bG l=false by simpa using hok]
  exact aa.t rfl (hbad (by simpa using hok) w h.tl)
theorem yz {t:TS} {x:Nat} {K:Array Value→Bool→World→Prop} (h:Hp E w F) (ht:dR t) (hx:x≤1) (hK:Ux t x E F K):
  Cl Tryz.prog [.arr 262,kB] ir ⟨[.agg (dc (pad t.l) (t.l.length:Int) (t.bits:Int) (t.now:Int) (t.way:Int)),.int .i64 (x:Int)]⟩ w K:=by
 obtain ⟨k1,k2,k3⟩:=hK
 obtain ⟨l,bits,now,way⟩:=t
 unfold dR at ht
 unfold aV at k1 k2 k3
 dsimp only at ht k1 k2 k3⊢
 have hl:l.length≤258:=by
  rcases ht with ⟨_,h,_⟩|⟨_,h,_⟩
  ·rw [h];simp
  ·omega
 have hL:=eb (aW hl)
 have hz:((⟨List.replicate 258 (.int .u8 0)++ [.int .i64 0,.int .i64 0,.int .i64 0,.int .i64 0]⟩:Array Value)).size=262:=by simp
 refine KJ.ok _ _ _ _ ?_
 simp only [ag,Nat.zero_add]
 refine Nw.mk h fun b4 w h=>Nw.mk h fun b6 w h=> ?_
 rw [aO]
 dsimp only
 have out: ∀{w:World} {l':List Nat} {s b n wy:Int} {K':World→Array Value→Prop},l'.length=258→
   Hp E w (af b6 (.cells ⟨List.replicate 258 (.int .u8 0)++ [.int .i64 0,.int .i64 0,.int .i64 0,.int .i64 0]⟩ 106 (0,0))::af b4 (.cells (dc l' s b n wy) 106 (0,0))::F)→
   (∀w',Hp E w' F→K' w' (dc l' s b n wy))→
   Ld (.arr 262) ⟨b4,0,none⟩ w fun x=>ak 262 ⟨b6,0,none⟩ x w fun w1=>Ld (.arr 262) ⟨b6,0,none⟩ w1 fun r=>K' w1 r:=by
  intro w l' s b n wy K' hl' h hk
  refine Ld.xw h (aJ hl') (ak.q h hz (aJ hl') aI fun w h=> ?_)
  exact Ld.xw h (aJ hl') (hk _ h.tl)
 refine Ld.q (b:=b4) h hL rfl rfl ?_
 refine aQ.TK (fun t8 w=>t8=decide (bits<4)∧Hp E w (af b6 (.cells ⟨List.replicate 258 (.int .u8 0)++ [.int .i64 0,.int .i64 0,.int .i64 0,.int .i64 0]⟩ 106 (0,0))::af b4 (.cells (dc (pad l) (l.length:Int) (bits:Int) (now:Int) (way:Int)) 106 (0,0))::F)) ?_ fun r' hr'=> ?_
 ·rintro t8 w ⟨rfl,h⟩
  rcases ht with ⟨h1,h2,h3,h4⟩|⟨h1,h2,h3,h4,h5⟩
  ·subst h2 h4
   simp only [if_pos h1] at k1 k2 k3
   have hnow:now<16384:=by
    have:2^bits≤2^3:=Nat.pow_le_pow_right (by decide) (by omega)
    omega
   refine aa.dt h1 ?_
   refine Ld.q (b:=b4) h hL rfl rfl ?_
   rw [ab (x:=(2:Int)*(now:Int)) (by omega),ab (by omega)]
   refine St.q (b:=b4) h hL rfl rfl rfl fun w h=> ?_
   dsimp only [aP,aq] at h
   refine Ld.q (b:=b4) h hL rfl rfl ?_
   rw [ab (by omega)]
   refine St.q (b:=b4) h hL rfl rfl rfl fun w h=> ?_
   dsimp only [aP,aq] at h
   rw [show (2:Int)*(now:Int)+(x:Int)=((2*now+x:Nat):Int) by omega,show (bits:Int)+1=((bits+1:Nat):Int) by omega] at h
   exact out (K':=fun w x=>K x true w) (aW hl) h fun w h=>k1 _ _ rfl h
  ·simp only [if_neg (show¬bits<4 by omega)] at k1 k2 k3
   refine aa.df (by omega) ?_
   by_cases hb:bits=4
   ·subst hb
    simp only [if_true] at k1 k2 k3
    refine aa.et rfl ?_
    by_cases hx0:x=0
    ·subst hx0
     simp only [if_true] at k1 k2 k3
     refine aa.ef (by omega) ?_
     refine Ld.q (b:=b4) h hL rfl rfl (Ld.q (b:=b4) h hL rfl rfl ⟨by omega,by omega,?_⟩)
     rw [show (((l.length:Int)).toNat*1)=l.length by omega,eD (by omega),ag,Nat.zero_add]
     refine St.g (b:=b4) h (by omega) rfl fun w h=> ?_
     rw [G5,G7 h2] at h
     have hl2:(l++ [now]).length≤258:=by simp;omega
     have hL2:=eb (aW hl2)
     refine Ld.q (b:=b4) h hL2 rfl rfl ?_
     rw [ab (by omega)]
     refine St.q (b:=b4) h hL2 rfl rfl rfl fun w h=> ?_
     dsimp only [aP,aq] at h
     refine St.q (b:=b4) h hL2 rfl rfl rfl fun w h=> ?_
     dsimp only [aP,aq] at h
     rw [show (l.length:Int)+1=((l++ [now]).length:Int) by simp] at h
     have h:=h.drew (n:=w.drawn+1)
     refine ⟨br b4 _ _ _,h.hb,aw.qw (fun _ h=>h) hL2 rfl (aw.q (fun _ h=>h) hL2 rfl rfl ?_)⟩
     by_cases hf:l.length+1<258
     ·rw [if_pos hf] at k1 k2 k3
      refine aa.dt (by simp;omega) ?_
      refine ak.q (b:=b6) h hz (aJ (aW hl2)) aI fun w h=>⟨h.hb,Ld.xw (b:=b6) h (aJ (aW hl2)) ?_⟩
      exact k1 _ _ rfl h.tl
     ·rw [if_neg hf] at k1 k2 k3
      have hfull:(l++ [now]).length=258:=by simp;omega
      refine aa.df (by simp;omega) ?_
      rw [Dh hfull] at h hL2⊢
      refine aw.p (fun _ h=>h) hL2 ?_
      have h8: ∀y∈l++ [now],y≤255:=fun y hy=>by
       rcases List.mem_append.1 hy with hy|hy
       ·have:=h4 y hy;omega
       ·rw [List.mem_singleton] at hy;omega
      refine Dv h hfull h8 fun w h=>⟨h.hb,?_⟩
      refine ak.q (b:=b6) h hz (aJ hfull) aI fun w h=>⟨h.hb,Ld.xw (b:=b6) h (aJ hfull) ?_⟩
      by_cases hok:bG (l++ [now])=true
      ·rw [if_pos hok] at k1 k2 k3
       rw [hok]
       have:=k2 _ (now:Int) _ rfl h.tl
       rw [hfull]
       exact this
      ·rw [if_neg hok] at k1 k2 k3
       rw [show bG (l++ [now])=false by simpa using hok]
       exact k3 _ _ rfl (aJ hfull) aI h.tl
    ·simp only [if_neg hx0] at k1 k2 k3
     refine aa.et (by omega) ?_
     refine St.q (b:=b4) h hL rfl rfl rfl fun w h=> ?_
     dsimp only [aP,aq] at h
     exact out (K':=fun w x=>K x true w) (aW hl) h fun w h=>k1 _ _ rfl h
   ·simp only [if_neg hb] at k1 k2 k3
    have hb5:bits=5:=by omega
    subst hb5
    refine aa.ef (by decide) ?_
    refine St.q (b:=b4) h hL rfl rfl rfl fun w h=> ?_
    dsimp only [aP,aq] at h
    by_cases hx0:x=0
    ·subst hx0
     simp only [if_true] at k1 k2 k3
     refine aa.et rfl (Ld.q (b:=b4) h hL rfl rfl ?_)
     by_cases hw:way=2
     ·subst hw
      refine aa.et rfl ?_
      exact out (K':=fun w x=>K x false w) (aW hl) h fun w h=>k3 _ _ (by simp) (aJ (aW hl)) aI h
     ·refine aa.ef (by omega) (Ld.q (b:=b4) h hL rfl rfl ?_)
      by_cases hn:now<15
      ·rw [if_pos ⟨hw,hn⟩] at k1
       refine aa.ef (by omega) (Ld.q (b:=b4) h hL rfl rfl ?_)
       rw [ab (by omega)]
       refine St.q (b:=b4) h hL rfl rfl rfl fun w h=> ?_
       dsimp only [aP,aq] at h
       refine St.q (b:=b4) h hL rfl rfl rfl fun w h=> ?_
       dsimp only [aP,aq] at h
       rw [show (now:Int)+1=((now+1:Nat):Int) by omega] at h
       exact out (K':=fun w x=>K x true w) (aW hl) h fun w h=>k1 _ _ rfl h
      ·rw [if_neg (fun hh=>hn hh.2)] at k3
       refine aa.et (by omega) ?_
       exact out (K':=fun w x=>K x false w) (aW hl) h fun w h=>k3 _ _ rfl (aJ (aW hl)) aI h
    ·have hx1:x=1:=by omega
     subst hx1
     simp only [if_neg hx0] at k1 k2 k3
     refine aa.ef (by decide) (Ld.q (b:=b4) h hL rfl rfl ?_)
     by_cases hw:way=1
     ·subst hw
      refine aa.et rfl ?_
      exact out (K':=fun w x=>K x false w) (aW hl) h fun w h=>k3 _ _ (by simp) (aJ (aW hl)) aI h
     ·refine aa.ef (by omega) (Ld.q (b:=b4) h hL rfl rfl ?_)
      by_cases hn:0<now
      ·rw [if_pos ⟨hw,hn⟩] at k1
       refine aa.ef (by omega) (Ld.q (b:=b4) h hL rfl rfl ?_)
       rw [ab (by omega)]
       refine St.q (b:=b4) h hL rfl rfl rfl fun w h=> ?_
       dsimp only [aP,aq] at h
       refine St.q (b:=b4) h hL rfl rfl rfl fun w h=> ?_
       dsimp only [aP,aq] at h
       rw [show (now:Int) - 1=((now - 1:Nat):Int) by omega] at h
       exact out (K':=fun w x=>K x true w) (aW hl) h fun w h=>k1 _ _ rfl h
      ·rw [if_neg (fun hh=>hn hh.2)] at k3
       refine aa.et (by omega) ?_
       exact out (K':=fun w x=>K x false w) (aW hl) h fun w h=>k3 _ _ rfl (aJ (aW hl)) aI h
 ·refine aa.em (fun h0=>hr' _ _ ⟨?_,h⟩) (fun h0=>aa.em (fun h1=>hr' _ _ ⟨?_,h⟩) (fun h1=>aa.em (fun h2=>hr' _ _ ⟨?_,h⟩) (fun h2=>hr' _ _ ⟨?_,h⟩)))
  ·rw [h0];exact (decide_eq_true (by omega)).symm
  ·rw [h1];exact (decide_eq_true (by omega)).symm
  ·rw [h2];exact (decide_eq_true (by omega)).symm
  ·rw [Bool.eq_iff_iff,beq_iff_eq,decide_eq_true_iff];omega
theorem Pr {K:Array Value→Prop} (hK:K mF):bP Tryz.prog 104 [] K:=⟨mF,by kernel_rfl,hK⟩
theorem KX {bs:List Nat} {s:Sl} {K:Array Value→Int→Int→World→Prop} (h:Hp E w F) (hs:ad F (aH 1 s ((ints bs).map vI))) (hb: ∀x∈bs,x≤1) (hbig:bs.length≤du)
  (hshort: ∀s' w',run (aV bG) t0 bs= .short s'→Hp E w' F→K mF 0 50 w')
  (hbad: ∀w',run (aV bG) t0 bs= .bad 100→Hp E w' F→K mF 0 100 w')
  (hfin: ∀l r w',run (aV bG) t0 bs= .fin l r→Hp E w' F→K (ai .u8 l) ((bs.length - r.length:Nat):Int) 0 w'):
  Cl Tryz.prog [.arr 258,kI,kI] qg ⟨[.slice s.base s.len s.cap]⟩ w K:=by
 have hz:(⟨List.replicate 258 (.int .u8 0)++ [.int .i64 0,.int .i64 0,.int .i64 0,.int .i64 0]⟩:Array Value)=dc (pad t0.l) (t0.l.length:Int) (t0.bits:Int) (t0.now:Int) (t0.way:Int):=by
  rw [C9];rfl
 have hzz:(⟨List.replicate 258 (.int .u8 0)++ [.int .i64 0,.int .i64 0,.int .i64 0,.int .i64 0]⟩:Array Value).size=262:=by simp
 have hz0:mF.size=258:=by simp
 have hz1:mF.toList.all aA=true:=by decide
 refine H2.ok _ _ _ ?_
 (try simp only [ag,Nat.zero_add,Nat.add_zero])
 have hlen:=pN (h.aj hs)
 rw [aX] at hbig
 refine Nw.mk h fun b3 w h=>Nw.mk h fun b5 w h=> ?_
 have outz: ∀{w:World} {K':Array Value→World→Prop} {l:List HP},Hp E w (l++(af b3 (.cells mF 104 (0,0))::F))→(∀w',Hp E w' F→K' mF w')→
   bP Tryz.prog 104 [] fun x22=>ak 258 ⟨b3,0,none⟩ x22 w fun w_23=>Ld (.arr 258) ⟨b3,0,none⟩ w_23 fun res24=>K' res24 w_23:=by
  intro w K' l h hk
  have h:=h.zc
  exact Pr (ak.q h hz0 hz0 hz1 fun w h=>Ld.xw h hz0 (hk _ h.tl))
 rw [hz] at h
 refine ⟨fun i w'=> ∃(k:Nat) (t:TS),i=(k:Int)∧k≤bs.length∧dR t∧run (aV bG) t0 (bs.take k)= .short t∧
  Hp E w' (af b5 (.cells (dc (pad t.l) (t.l.length:Int) (t.bits:Int) (t.now:Int) (t.way:Int)) 106 (0,0))::af b3 (.cells mF 104 (0,0))::F),
  fun i _=>bs.length - i.toNat,⟨0,t0,rfl,by omega,dR.zero,rfl,h⟩,?_⟩
 rintro i w ⟨k,t,rfl,hk,ht,hrun,h⟩
 refine aa.dm (fun hlt=> ?_) (fun hge=> ?_)
 ·have hlt:k<bs.length:=by omega
  have hx:=hb _ (List.getElem_mem hlt)
  have htl:(pad t.l).length=258:=aW (by
   rcases ht with ⟨_,h,_⟩|⟨_,h,_⟩
   ·rw [h];simp
   ·omega)
  have hSl: ∀{w:World} {l:List HP} [j0 l F],Hp E w l→aH 1 s ((ints bs).map vI) w:=fun h=>(h.tl:Hp E _ F).aj hs
  have after: ∀(b26:Nat) (o:Array Value) (r:Bool) (w:World) (G:World→Prop),o.size=262→o.toList.all aA=true→
    ((r=true∧∃t',aV bG t bs[k]= .more t'∧o=dc (pad t'.l) (t'.l.length:Int) (t'.bits:Int) (t'.now:Int) (t'.way:Int))∨(r=true∧∃l n,aV bG t bs[k]= .fin l∧o=dc l 258 4 n 0)∨(r=false∧aV bG t bs[k]= .bad 100))→
    (∀t' w',aV bG t bs[k]= .more t'→Hp E w' (af b5 (.cells (dc (pad t'.l) (t'.l.length:Int) (t'.bits:Int) (t'.now:Int) (t'.way:Int)) 106 (0,0))::af b3 (.cells mF 104 (0,0))::F)→G w')→
    Hp E w (af b26 (.cells o 106 (0,0))::af b5 (.cells (dc (pad t.l) (t.l.length:Int) (t.bits:Int) (t.now:Int) (t.way:Int)) 106 (0,0))::af b3 (.cells mF 104 (0,0))::F)→
    aa (!r) (bP Tryz.prog 104 [] fun x22=>ak 258 ⟨b3,0,none⟩ x22 w fun w_23=>Ld (.arr 258) ⟨b3,0,none⟩ w_23 fun res24=>K res24 0 100 w_23)
     (Ld (.arr 262) ⟨b26,0,none⟩ w fun x31=>ak 262 ⟨b5,0,none⟩ x31 w fun w_32=>Ld kI ⟨b5,258,none⟩ w_32 fun Symbol33=>aa (Symbol33==258)
      (Ld (.arr 258) ⟨b5,0,none⟩ w_32 fun Lengths34=>ak 258 ⟨b3,0,none⟩ Lengths34 w_32 fun w_35=>Ld (.arr 258) ⟨b3,0,none⟩ w_35 fun res36=>K res36 (i64 ((k:Int)+1)) 0 w_35)
      (G w_32)):=by
   intro b26 o r w G ho hos hcase hG h
   rw [ab (x:=(k:Int)+1) (by omega)]
   rcases hcase with ⟨rfl,t',he,rfl⟩|⟨rfl,l,n,he,rfl⟩|⟨rfl,he⟩
   ·have ht':=kC ht hx he
    have hl':t'.l.length<258:=by
     rcases ht' with ⟨_,h,_⟩|⟨_,h,_⟩
     ·rw [h];simp
     ·omega
    have hL:=eb (aW (Nat.le_of_lt hl'))
    refine aa.f rfl (Ld.xw h ho (ak.q (b:=b5) h (aJ htl) ho hos fun w h=>Ld.q (b:=b5) h hL rfl rfl (aa.ef (by omega) ?_)))
    exact hG t' w he (h.no 0)
   ·have hf:=(dB ht he).1
    have hL:=eb hf
    refine aa.f rfl (Ld.xw h ho (ak.q (b:=b5) h (aJ htl) ho hos fun w h=>Ld.q (b:=b5) h hL rfl rfl (aa.et rfl (Ld.p (b:=b5) h hL ?_))))
    have hls:(⟨Bd l⟩:Array Value).size=258:=by simpa using hf
    refine ak.q (b:=b3) h hz0 hls (List.all_eq_true.2 da) fun w h=>Ld.xw (b:=b3) h hls ?_
    have hr:=hfin l (bs.drop (k+1)) w (by rw [E6 hrun,List.drop_eq_getElem_cons hlt,oH he]) h.tl
    rw [List.length_drop,show bs.length - (bs.length - (k+1))=k+1 by omega] at hr
    exact hr
   ·refine aa.t rfl (outz (l:= [_,_]) h fun w h=>hbad w ?_ h)
    rw [E6 hrun,List.drop_eq_getElem_cons hlt,Gt he]
  have hG: ∀t' w',aV bG t bs[k]= .more t'→Hp E w' (af b5 (.cells (dc (pad t'.l) (t'.l.length:Int) (t'.bits:Int) (t'.now:Int) (t'.way:Int)) 106 (0,0))::af b3 (.cells mF 104 (0,0))::F)→
    (∃(k':Nat) (t:TS),i64 ((k:Int)+1)=(k':Int)∧k'≤bs.length∧dR t∧run (aV bG) t0 (bs.take k')= .short t∧Hp E w' (af b5 (.cells (dc (pad t.l) (t.l.length:Int) (t.bits:Int) (t.now:Int) (t.way:Int)) 106 (0,0))::af b3 (.cells mF 104 (0,0))::F))∧
     bs.length - (i64 ((k:Int)+1)).toNat<bs.length - ((k:Int)).toNat:=by
   intro t' w' he h
   rw [ab (by omega)]
   refine ⟨⟨k+1,t',rfl,by omega,kC ht hx he,?_,h⟩,by omega⟩
   rw [List.take_add_one,List.getElem?_eq_getElem hlt]
   show run (aV bG) t0 (bs.take k++ [bs[k]])=_
   rw [eV hrun,cw he];rfl
  have szt': ∀{t':TS},aV bG t bs[k]= .more t'→(dc (pad t'.l) (t'.l.length:Int) (t'.bits:Int) (t'.now:Int) (t'.way:Int)).size=262:=fun {t'} he=>aJ (aW (by
   rcases kC ht hx he with ⟨_,h,_⟩|⟨_,h,_⟩
   ·rw [h];simp
   ·omega))
  have hz62:((⟨List.replicate 258 (.int .u8 0)++ [.int .i64 0,.int .i64 0,.int .i64 0,.int .i64 0]⟩:Array Value)).size=262:=by simp
  refine ay.rI (hSl h) rfl hlt ?_
  have hx01:bs[k]=0∨bs[k]=1:=by omega
  rcases hx01 with e|e
  ·refine aa.nf (by omega) ?_
   (have h:=h.drew (n:=w.drawn+1);refine ⟨fun w=>br b5 (dc (pad t.l) (t.l.length:Int) (t.bits:Int) (t.now:Int) (t.way:Int)) _ (0,0) w∧aH 1 s ((ints bs).map vI) w,⟨h.hb,hSl h⟩,aw.xw (fun _ h=>h.1) (aJ htl) (ay.EI (hSl h) (fun _ h=>h.2) rfl (by simpa [ints] using hlt) (bs[k]:Int) (by simp [Sc.enc,vI,ints,hlt]) ⟨?_,?_⟩)⟩;refine yz h ht hx ⟨fun t' w he h=>⟨⟨h.hb,hSl h⟩,Nw.mk h fun b26 w h=>⟨⟨h.hb,hSl h⟩,ak.q (b:=b26) h hz62 (szt' he) aI fun w h=>⟨⟨h.hb,hSl h⟩,after b26 _ _ w _ (szt' he) aI (.inl ⟨rfl,t',he,rfl⟩) hG h⟩⟩⟩,fun l n w he h=>⟨⟨h.hb,hSl h⟩,Nw.mk h fun b26 w h=>⟨⟨h.hb,hSl h⟩,ak.q (b:=b26) h hz62 (aJ (dB ht he).1) aI fun w h=>⟨⟨h.hb,hSl h⟩,after b26 _ _ w _ (aJ (dB ht he).1) aI (.inr (.inl ⟨rfl,l,n,he,rfl⟩)) hG h⟩⟩⟩,fun o w he ho hos h=>⟨⟨h.hb,hSl h⟩,Nw.mk h fun b26 w h=>⟨⟨h.hb,hSl h⟩,ak.q (b:=b26) h hz62 ho hos fun w h=>⟨⟨h.hb,hSl h⟩,after b26 _ _ w _ ho hos (.inr (.inr ⟨rfl,he⟩)) hG h⟩⟩⟩⟩;refine Nw.mk h fun b38 w h=>⟨⟨h.hb,hSl h⟩,yz h ht hx ⟨fun t' w he h=>⟨⟨h.hb,hSl h⟩,ak.q (b:=b38) h hz62 (szt' he) aI fun w h=>⟨⟨h.hb,hSl h⟩,after b38 _ _ w _ (szt' he) aI (.inl ⟨rfl,t',he,rfl⟩) hG h⟩⟩,fun l n w he h=>⟨⟨h.hb,hSl h⟩,ak.q (b:=b38) h hz62 (aJ (dB ht he).1) aI fun w h=>⟨⟨h.hb,hSl h⟩,after b38 _ _ w _ (aJ (dB ht he).1) aI (.inr (.inl ⟨rfl,l,n,he,rfl⟩)) hG h⟩⟩,fun o w he ho hos h=>⟨⟨h.hb,hSl h⟩,ak.q (b:=b38) h hz62 ho hos fun w h=>⟨⟨h.hb,hSl h⟩,after b38 _ _ w _ ho hos (.inr (.inr ⟨rfl,he⟩)) hG h⟩⟩⟩⟩)
  ·refine aa.nt (by omega) (ay.rI (hSl h) rfl hlt (aa.nf (by omega) ?_))
   (have h:=h.drew (n:=w.drawn+1);refine ⟨fun w=>br b5 (dc (pad t.l) (t.l.length:Int) (t.bits:Int) (t.now:Int) (t.way:Int)) _ (0,0) w∧aH 1 s ((ints bs).map vI) w,⟨h.hb,hSl h⟩,aw.xw (fun _ h=>h.1) (aJ htl) (ay.EI (hSl h) (fun _ h=>h.2) rfl (by simpa [ints] using hlt) (bs[k]:Int) (by simp [Sc.enc,vI,ints,hlt]) ⟨?_,?_⟩)⟩;refine yz h ht hx ⟨fun t' w he h=>⟨⟨h.hb,hSl h⟩,Nw.mk h fun b26 w h=>⟨⟨h.hb,hSl h⟩,ak.q (b:=b26) h hz62 (szt' he) aI fun w h=>⟨⟨h.hb,hSl h⟩,after b26 _ _ w _ (szt' he) aI (.inl ⟨rfl,t',he,rfl⟩) hG h⟩⟩⟩,fun l n w he h=>⟨⟨h.hb,hSl h⟩,Nw.mk h fun b26 w h=>⟨⟨h.hb,hSl h⟩,ak.q (b:=b26) h hz62 (aJ (dB ht he).1) aI fun w h=>⟨⟨h.hb,hSl h⟩,after b26 _ _ w _ (aJ (dB ht he).1) aI (.inr (.inl ⟨rfl,l,n,he,rfl⟩)) hG h⟩⟩⟩,fun o w he ho hos h=>⟨⟨h.hb,hSl h⟩,Nw.mk h fun b26 w h=>⟨⟨h.hb,hSl h⟩,ak.q (b:=b26) h hz62 ho hos fun w h=>⟨⟨h.hb,hSl h⟩,after b26 _ _ w _ ho hos (.inr (.inr ⟨rfl,he⟩)) hG h⟩⟩⟩⟩;refine Nw.mk h fun b38 w h=>⟨⟨h.hb,hSl h⟩,yz h ht hx ⟨fun t' w he h=>⟨⟨h.hb,hSl h⟩,ak.q (b:=b38) h hz62 (szt' he) aI fun w h=>⟨⟨h.hb,hSl h⟩,after b38 _ _ w _ (szt' he) aI (.inl ⟨rfl,t',he,rfl⟩) hG h⟩⟩,fun l n w he h=>⟨⟨h.hb,hSl h⟩,ak.q (b:=b38) h hz62 (aJ (dB ht he).1) aI fun w h=>⟨⟨h.hb,hSl h⟩,after b38 _ _ w _ (aJ (dB ht he).1) aI (.inr (.inl ⟨rfl,l,n,he,rfl⟩)) hG h⟩⟩,fun o w he ho hos h=>⟨⟨h.hb,hSl h⟩,ak.q (b:=b38) h hz62 ho hos fun w h=>⟨⟨h.hb,hSl h⟩,after b38 _ _ w _ ho hos (.inr (.inr ⟨rfl,he⟩)) hG h⟩⟩⟩⟩)
 ·have hk2:k=bs.length:=by omega
  subst hk2
  rw [List.take_of_length_le (Nat.le_refl _)] at hrun
  exact outz (l:= [_]) h fun w h=>hshort t w hrun h
end
end Go.Proofs.YtgglghjnakclmaaGreat
namespace Go.Proofs.YtgglghjnakclmaaGreat
open Go Go.Vc
set_option maxRecDepth 100000
theorem Ly.ok (a:Int) (R:Sl→Int→World→Prop) w (h:
 aa (decide (a<0))
 (R (⟨none,0,0⟩:Sl) 2 w)
 (aa (decide (a>2147483647))
 (R (⟨none,0,0⟩:Sl) 2 w)
 ((128:Int)≠0∧
 Nw 5 ⟨[(.int .u8 (u8 (Int.tmod a (128:Int))))]⟩ w fun c b=>
 (128:Int)≠0∧
 cp (i64 (Int.tdiv a (128:Int))) (⟨some ⟨c,0,none⟩,1,1⟩:Sl) b fun d e (f:Int) (g:Sl) h=>
 aa (decide (f>0))
 ((128:Int)≠0∧
 Nw 5 ⟨[(.int .u8 (u8 (i64 ((128:Int)+((Int.tmod f (128:Int)):Int)))))]⟩ h fun j i=>
 ar Pg (Builtin.append_ #[26,26] 26 ⟨[(an (⟨some ⟨j,0,none⟩,1,1⟩:Sl)),(an g)]⟩) kS i fun (l:Sl) k=>
 (128:Int)≠0∧
 d (i64 (Int.tdiv f (128:Int))) l k∧e (i64 (Int.tdiv f (128:Int))) l k<e f g h)
 (R g 0 h)))):Cl Pg [kS,kI] jQ ⟨[(ni a)]⟩ w R:=co Tryz.f124 [(12,[(0,kI),(4,kS)])] h
theorem H0.ok (a:(TT [.int .i64,.int .i64])) (b:Int) (R:(TT [.int .i64,.int .i64])→Bool→Int→World→Prop) w (h:
 Nw 98 ⟨[(ni a.1),(ni a.2.1)]⟩ w fun d c=>
 Nw 98 ⟨[(ni 0),(ni 0)]⟩ c fun f e=>
 Ld (.st [.int .i64,.int .i64]) ⟨d,0,none⟩ e fun g=>
 Cl Pg [kB] oc ⟨[(.agg ⟨[(ni g.1),(ni g.2.1)]⟩)]⟩ e fun (i:Bool) h=>
 aa (!i)
 (ae ⟨f,0,none⟩ [(ni 0),(ni 0)] 0 h fun j=>
 Ld (.st [.int .i64,.int .i64]) ⟨f,0,none⟩ j fun k=>
 R k false 2 j)
 (aa (b==128)
 (Ld kI (Addr.add ⟨d,0,none⟩ 1) h fun (l:Int)=>
 aa (l==0)
 (ae ⟨f,0,none⟩ [(ni 0),(ni 0)] 0 h fun m=>
 Ld (.st [.int .i64,.int .i64]) ⟨f,0,none⟩ m fun n=>
 R n false 51 m)
 (Ld kI (Addr.add ⟨d,0,none⟩ 0) h fun (o:Int)=>
 (128:Int)≠0∧
 aa (decide ((i64 ((i64 ((128:Int)*o))+(i64 (Int.tmod b (128:Int)))))>2147483647))
 (ae ⟨f,0,none⟩ [(ni 0),(ni 0)] 0 h fun p=>
 Ld (.st [.int .i64,.int .i64]) ⟨f,0,none⟩ p fun q=>
 R q false 52 p)
 (Ld kI (Addr.add ⟨d,0,none⟩ 1) h fun (r:Int)=>
 aa (r==4)
 (aa (decide (b≥128))
 (ae ⟨f,0,none⟩ [(ni 0),(ni 0)] 0 h fun s=>
 Ld (.st [.int .i64,.int .i64]) ⟨f,0,none⟩ s fun t=>
 R t false 52 s)
 (Ld kI (Addr.add ⟨d,0,none⟩ 1) h fun (u:Int)=>
 ae ⟨f,0,none⟩ [(ni (i64 ((i64 ((128:Int)*o))+(i64 (Int.tmod b (128:Int)))))),(ni (i64 (u+1)))] 0 h fun v=>
 Ld (.st [.int .i64,.int .i64]) ⟨f,0,none⟩ v fun x=>
 R x (decide (b<128)) 0 v))
 (Ld kI (Addr.add ⟨d,0,none⟩ 1) h fun (y:Int)=>
 ae ⟨f,0,none⟩ [(ni (i64 ((i64 ((128:Int)*o))+(i64 (Int.tmod b (128:Int)))))),(ni (i64 (y+1)))] 0 h fun z=>
 Ld (.st [.int .i64,.int .i64]) ⟨f,0,none⟩ z fun a1=>
 R a1 (decide (b<128)) 0 z))))
 (Ld kI (Addr.add ⟨d,0,none⟩ 0) h fun (b1:Int)=>
 (128:Int)≠0∧
 aa (decide ((i64 ((i64 ((128:Int)*b1))+(i64 (Int.tmod b (128:Int)))))>2147483647))
 (ae ⟨f,0,none⟩ [(ni 0),(ni 0)] 0 h fun c1=>
 Ld (.st [.int .i64,.int .i64]) ⟨f,0,none⟩ c1 fun d1=>
 R d1 false 52 c1)
 (Ld kI (Addr.add ⟨d,0,none⟩ 1) h fun (e1:Int)=>
 aa (e1==4)
 (aa (decide (b≥128))
 (ae ⟨f,0,none⟩ [(ni 0),(ni 0)] 0 h fun f1=>
 Ld (.st [.int .i64,.int .i64]) ⟨f,0,none⟩ f1 fun g1=>
 R g1 false 52 f1)
 (Ld kI (Addr.add ⟨d,0,none⟩ 1) h fun (h1:Int)=>
 ae ⟨f,0,none⟩ [(ni (i64 ((i64 ((128:Int)*b1))+(i64 (Int.tmod b (128:Int)))))),(ni (i64 (h1+1)))] 0 h fun i1=>
 Ld (.st [.int .i64,.int .i64]) ⟨f,0,none⟩ i1 fun j1=>
 R j1 (decide (b<128)) 0 i1))
 (Ld kI (Addr.add ⟨d,0,none⟩ 1) h fun (k1:Int)=>
 ae ⟨f,0,none⟩ [(ni (i64 ((i64 ((128:Int)*b1))+(i64 (Int.tmod b (128:Int)))))),(ni (i64 (k1+1)))] 0 h fun l1=>
 Ld (.st [.int .i64,.int .i64]) ⟨f,0,none⟩ l1 fun m1=>
 R m1 (decide (b<128)) 0 l1))))):Cl Pg [(.st [.int .i64,.int .i64]),kB,kI] p4 ⟨[(.agg ⟨[(ni a.1),(ni a.2.1)]⟩),(.int .u8 b)]⟩ w R:=co Tryz.f219 [] h
theorem Fq.ok (a:(TT [.int .i64,.int .i64])) (R:Bool→World→Prop) w (h:
 Nw 98 ⟨[(ni a.1),(ni a.2.1)]⟩ w fun c b=>
 Ld kI (Addr.add ⟨c,0,none⟩ 1) b fun (d:Int)=>
 aa (d==0)
 (Ld kI (Addr.add ⟨c,0,none⟩ 0) b fun (e:Int)=>
 R (e==0) b)
 (cB b fun f g=>
 aw kI (Addr.add ⟨c,0,none⟩ 1) f fun (h:Int)=>
 aa (decide (h≥1))
 (aw kI (Addr.add ⟨c,0,none⟩ 1) f fun (i:Int)=>
 aa (decide (i≤4))
 (aw kI (Addr.add ⟨c,0,none⟩ 0) f fun (j:Int)=>
 aw kI (Addr.add ⟨c,0,none⟩ 1) f fun (k:Int)=>
 Cl Pg [kI] kd ⟨[(ni (i64 (k - 1)))]⟩ g fun (m:Int) l=>
 f l∧
 aa (decide (j≥m))
 (aw kI (Addr.add ⟨c,0,none⟩ 0) f fun (n:Int)=>
 aw kI (Addr.add ⟨c,0,none⟩ 1) f fun (o:Int)=>
 Cl Pg [kI] kd ⟨[(ni o)]⟩ l fun (q:Int) p=>
 f p∧
 R (decide (n<q)) p)
 (R false l))
 (R false g))
 (R false g))):Cl Pg [kB] oc ⟨[(.agg ⟨[(ni a.1),(ni a.2.1)]⟩)]⟩ w R:=co Tryz.f286 [] h
theorem FZ.ok (a:Int) (R:Int→World→Prop) w (h:
 cp 1 0 w fun b c (d:Int) (e:Int) f=>
 aa (decide (e<a))
 (b (i64 (d*128)) (i64 (e+1)) f∧c (i64 (d*128)) (i64 (e+1)) f<c d e f)
 (R d f)):Cl Pg [kI] kd ⟨[(ni a)]⟩ w R:=co Tryz.f319 [(7,[(3,kI),(4,kI)])] h
end Go.Proofs.YtgglghjnakclmaaGreat
namespace Go.Proofs.YtgglghjnakclmaaGreat
open Go Go.Vc
set_option maxRecDepth 100000
theorem Ii.ok (a:Sl) (R:(TT [.int .i64])→Sl→Int→World→Prop) w (h:
 Nw 116 ⟨[(ni 0)]⟩ w fun c b=>
 Nw 100 ⟨[(ni 0),(ni 0),(ni 0),(ni 0)]⟩ b fun e d=>
 ee 0 d fun f g (h:Int) i=>
 aa (decide (h<(a.len:Int)))
 (aQ (fun (c1:Addr) (d1:Int) (e1:World)=>
 aa (d1 !=0)
 (ae ⟨c,0,none⟩ [(ni 0)] 0 e1 fun f1=>
 Ld (.st [.int .i64]) ⟨c,0,none⟩ f1 fun g1=>
 R g1 (⟨none,0,0⟩:Sl) d1 f1)
 (Ld (.st cy) c1 e1 fun h1=>
 ae ⟨e,0,none⟩ [(ni h1.1),(ni h1.2.1),(ni h1.2.2.1),(ni h1.2.2.2.1)] 0 e1 fun i1=>
 Ld kI (Addr.add ⟨e,0,none⟩ 0) i1 fun (j1:Int)=>
 aa (j1==4)
 (cB i1 fun u1 v1=>
 aw kI (Addr.add ⟨e,0,none⟩ 3) u1 fun (x1:Int)=>
 bj a (i64 (h+1)) (a).len (a).cap 1 fun y1=>
 Nw 5 ⟨[]⟩ v1 fun a2 z1=>
 u1 z1∧
 ar Pg (Builtin.append_ #[26,26] 26 ⟨[(an (⟨some ⟨a2,0,none⟩,0,0⟩:Sl)),(an y1)]⟩) kS z1 fun (c2:Sl) b2=>
 u1 b2∧
 ae ⟨c,0,none⟩ [(ni x1)] 0 b2 fun d2=>
 u1 d2∧
 Ld (.st [.int .i64]) ⟨c,0,none⟩ d2 fun e2=>
 R e2 c2 0 d2)
 (f (i64 (h+1)) i1∧g (i64 (h+1)) i1<g h i))) fun j=>
 cB i fun k l=>
 aw (.st cy) ⟨e,0,none⟩ k fun m=>
 ay a h 1 fun n=>
 aw (ao .u8) n k fun (o:Int)=>
 (Cl Pg [(.st cy),kI] m7 ⟨[(.agg ⟨[(ni m.1),(ni m.2.1),(ni m.2.2.1),(ni m.2.2.2.1)]⟩),(.int .u8 o)]⟩ l fun q (r:Int) p=>
 k p∧
 Nw 100 ⟨[(ni 0),(ni 0),(ni 0),(ni 0)]⟩ p fun t s=>
 k s∧
 ae ⟨t,0,none⟩ [(ni q.1),(ni q.2.1),(ni q.2.2.1),(ni q.2.2.2.1)] 0 s fun u=>
 k u∧
 j (⟨t,0,none⟩) r u)∧
 (Nw 100 ⟨[(ni 0),(ni 0),(ni 0),(ni 0)]⟩ l fun x v=>
 k v∧
 Cl Pg [(.st cy),kI] m7 ⟨[(.agg ⟨[(ni m.1),(ni m.2.1),(ni m.2.2.1),(ni m.2.2.2.1)]⟩),(.int .u8 o)]⟩ v fun z (a1:Int) y=>
 k y∧
 ae ⟨x,0,none⟩ [(ni z.1),(ni z.2.1),(ni z.2.2.1),(ni z.2.2.2.1)] 0 y fun b1=>
 k b1∧
 j (⟨x,0,none⟩) a1 b1))
 (ae ⟨c,0,none⟩ [(ni 0)] 0 i fun f2=>
 Ld (.st [.int .i64]) ⟨c,0,none⟩ f2 fun g2=>
 R g2 (⟨none,0,0⟩:Sl) 50 f2)):Cl Pg [(.st [.int .i64]),kS,kI] pv ⟨[(an a)]⟩ w R:=co Tryz.f57 [(7,[(6,kI)])] h
theorem rS.ok (a:Int) (b:Sl) (R:(TT a5)→Sl→Int→World→Prop) w (h:
 Nw 102 ⟨[(ni 0),(ni 0),(ni 0),(ni 0),(ni 0),(.int .u32 0),(ni 0)]⟩ w fun d c=>
 aQ (fun (j:World)=>
 Nw 102 ⟨[(ni 0),(ni 0),(ni 0),(ni 0),(ni 0),(.int .u32 0),(ni 0)]⟩ j fun l k=>
 ee 0 k fun m n (o:Int) p=>
 aa (decide (o<(b.len:Int)))
 (cB p fun q r=>
 aw (.st a5) ⟨l,0,none⟩ q fun s=>
 ay b o 1 fun t=>
 aw (ao .u8) t q fun (u:Int)=>
 (Cl Pg [(.st a5),kB] fH ⟨[(ni a),(.agg ⟨[(ni s.1),(ni s.2.1),(ni s.2.2.1),(ni s.2.2.2.1),(ni s.2.2.2.2.1),(.int .u32 s.2.2.2.2.2.1),(ni s.2.2.2.2.2.2.1)]⟩),(.int .u8 u)]⟩ r fun x (y:Bool) v=>
 q v∧
 Nw 102 ⟨[(ni 0),(ni 0),(ni 0),(ni 0),(ni 0),(.int .u32 0),(ni 0)]⟩ v fun a1 z=>
 q z∧
 ae ⟨a1,0,none⟩ [(ni x.1),(ni x.2.1),(ni x.2.2.1),(ni x.2.2.2.1),(ni x.2.2.2.2.1),(.int .u32 x.2.2.2.2.2.1),(ni x.2.2.2.2.2.2.1)] 0 z fun b1=>
 q b1∧
 aa (!y)
 (ae ⟨d,0,none⟩ [(ni 0),(ni 0),(ni 0),(ni 0),(ni 0),(.int .u32 0),(ni 0)] 0 b1 fun c1=>
 Ld (.st a5) ⟨d,0,none⟩ c1 fun d1=>
 R d1 (⟨none,0,0⟩:Sl) 242 c1)
 (Ld (.st a5) ⟨a1,0,none⟩ b1 fun e1=>
 ae ⟨l,0,none⟩ [(ni e1.1),(ni e1.2.1),(ni e1.2.2.1),(ni e1.2.2.2.1),(ni e1.2.2.2.2.1),(.int .u32 e1.2.2.2.2.2.1),(ni e1.2.2.2.2.2.2.1)] 0 b1 fun f1=>
 Ld kI (Addr.add ⟨l,0,none⟩ 0) f1 fun (g1:Int)=>
 aa (g1==4)
 (cB f1 fun h1 i1=>
 aw (.st a5) ⟨l,0,none⟩ h1 fun j1=>
 bj b (i64 (o+1)) (b).len (b).cap 1 fun k1=>
 Nw 5 ⟨[]⟩ i1 fun m1 l1=>
 h1 l1∧
 ar Pg (Builtin.append_ #[26,26] 26 ⟨[(an (⟨some ⟨m1,0,none⟩,0,0⟩:Sl)),(an k1)]⟩) kS l1 fun (o1:Sl) n1=>
 h1 n1∧
 ae ⟨d,0,none⟩ [(ni j1.1),(ni j1.2.1),(ni j1.2.2.1),(ni j1.2.2.2.1),(ni j1.2.2.2.2.1),(.int .u32 j1.2.2.2.2.2.1),(ni j1.2.2.2.2.2.2.1)] 0 n1 fun p1=>
 h1 p1∧
 Ld (.st a5) ⟨d,0,none⟩ p1 fun q1=>
 R q1 o1 0 p1)
 (Ld kI (Addr.add ⟨l,0,none⟩ 0) f1 fun (r1:Int)=>
 aa (r1==6)
 (cB f1 fun s1 t1=>
 aw (.st a5) ⟨l,0,none⟩ s1 fun u1=>
 bj b (i64 (o+1)) (b).len (b).cap 1 fun v1=>
 Nw 5 ⟨[]⟩ t1 fun y1 x1=>
 s1 x1∧
 ar Pg (Builtin.append_ #[26,26] 26 ⟨[(an (⟨some ⟨y1,0,none⟩,0,0⟩:Sl)),(an v1)]⟩) kS x1 fun (a2:Sl) z1=>
 s1 z1∧
 ae ⟨d,0,none⟩ [(ni u1.1),(ni u1.2.1),(ni u1.2.2.1),(ni u1.2.2.2.1),(ni u1.2.2.2.2.1),(.int .u32 u1.2.2.2.2.2.1),(ni u1.2.2.2.2.2.2.1)] 0 z1 fun b2=>
 s1 b2∧
 Ld (.st a5) ⟨d,0,none⟩ b2 fun c2=>
 R c2 a2 0 b2)
 (m (i64 (o+1)) f1∧n (i64 (o+1)) f1<n o p))))∧
 (Nw 102 ⟨[(ni 0),(ni 0),(ni 0),(ni 0),(ni 0),(.int .u32 0),(ni 0)]⟩ r fun e2 d2=>
 q d2∧
 Cl Pg [(.st a5),kB] fH ⟨[(ni a),(.agg ⟨[(ni s.1),(ni s.2.1),(ni s.2.2.1),(ni s.2.2.2.1),(ni s.2.2.2.2.1),(.int .u32 s.2.2.2.2.2.1),(ni s.2.2.2.2.2.2.1)]⟩),(.int .u8 u)]⟩ d2 fun g2 (h2:Bool) f2=>
 q f2∧
 ae ⟨e2,0,none⟩ [(ni g2.1),(ni g2.2.1),(ni g2.2.2.1),(ni g2.2.2.2.1),(ni g2.2.2.2.2.1),(.int .u32 g2.2.2.2.2.2.1),(ni g2.2.2.2.2.2.2.1)] 0 f2 fun i2=>
 q i2∧
 aa (!h2)
 (ae ⟨d,0,none⟩ [(ni 0),(ni 0),(ni 0),(ni 0),(ni 0),(.int .u32 0),(ni 0)] 0 i2 fun j2=>
 Ld (.st a5) ⟨d,0,none⟩ j2 fun k2=>
 R k2 (⟨none,0,0⟩:Sl) 242 j2)
 (Ld (.st a5) ⟨e2,0,none⟩ i2 fun l2=>
 ae ⟨l,0,none⟩ [(ni l2.1),(ni l2.2.1),(ni l2.2.2.1),(ni l2.2.2.2.1),(ni l2.2.2.2.2.1),(.int .u32 l2.2.2.2.2.2.1),(ni l2.2.2.2.2.2.2.1)] 0 i2 fun m2=>
 Ld kI (Addr.add ⟨l,0,none⟩ 0) m2 fun (n2:Int)=>
 aa (n2==4)
 (cB m2 fun o2 p2=>
 aw (.st a5) ⟨l,0,none⟩ o2 fun q2=>
 bj b (i64 (o+1)) (b).len (b).cap 1 fun r2=>
 Nw 5 ⟨[]⟩ p2 fun t2 s2=>
 o2 s2∧
 ar Pg (Builtin.append_ #[26,26] 26 ⟨[(an (⟨some ⟨t2,0,none⟩,0,0⟩:Sl)),(an r2)]⟩) kS s2 fun (v2:Sl) u2=>
 o2 u2∧
 ae ⟨d,0,none⟩ [(ni q2.1),(ni q2.2.1),(ni q2.2.2.1),(ni q2.2.2.2.1),(ni q2.2.2.2.2.1),(.int .u32 q2.2.2.2.2.2.1),(ni q2.2.2.2.2.2.2.1)] 0 u2 fun x2=>
 o2 x2∧
 Ld (.st a5) ⟨d,0,none⟩ x2 fun y2=>
 R y2 v2 0 x2)
 (Ld kI (Addr.add ⟨l,0,none⟩ 0) m2 fun (z2:Int)=>
 aa (z2==6)
 (cB m2 fun a3 b3=>
 aw (.st a5) ⟨l,0,none⟩ a3 fun c3=>
 bj b (i64 (o+1)) (b).len (b).cap 1 fun d3=>
 Nw 5 ⟨[]⟩ b3 fun f3 e3=>
 a3 e3∧
 ar Pg (Builtin.append_ #[26,26] 26 ⟨[(an (⟨some ⟨f3,0,none⟩,0,0⟩:Sl)),(an d3)]⟩) kS e3 fun (h3:Sl) g3=>
 a3 g3∧
 ae ⟨d,0,none⟩ [(ni c3.1),(ni c3.2.1),(ni c3.2.2.1),(ni c3.2.2.2.1),(ni c3.2.2.2.2.1),(.int .u32 c3.2.2.2.2.2.1),(ni c3.2.2.2.2.2.2.1)] 0 g3 fun i3=>
 a3 i3∧
 Ld (.st a5) ⟨d,0,none⟩ i3 fun j3=>
 R j3 h3 0 i3)
 (m (i64 (o+1)) m2∧n (i64 (o+1)) m2<n o p)))))
 (ae ⟨d,0,none⟩ [(ni 0),(ni 0),(ni 0),(ni 0),(ni 0),(.int .u32 0),(ni 0)] 0 p fun k3=>
 Ld (.st a5) ⟨d,0,none⟩ k3 fun l3=>
 R l3 (⟨none,0,0⟩:Sl) 50 k3)) fun e=>
 aa (decide (a<1))
 (ae ⟨d,0,none⟩ [(ni 0),(ni 0),(ni 0),(ni 0),(ni 0),(.int .u32 0),(ni 0)] 0 c fun f=>
 Ld (.st a5) ⟨d,0,none⟩ f fun g=>
 R g (⟨none,0,0⟩:Sl) 2 f)
 (aa (decide (a>65536))
 (ae ⟨d,0,none⟩ [(ni 0),(ni 0),(ni 0),(ni 0),(ni 0),(.int .u32 0),(ni 0)] 0 c fun h=>
 Ld (.st a5) ⟨d,0,none⟩ h fun i=>
 R i (⟨none,0,0⟩:Sl) 2 h)
 (e c))):Cl Pg [(.st a5),kS,kI] fh ⟨[(ni a),(an b)]⟩ w R:=co Tryz.f59 [(2,[]),(12,[(8,kI)])] h
theorem J2.ok (a:(TT [.int .i64])) (R:Sl→Int→World→Prop) w (h:
 Nw 116 ⟨[(ni a.1)]⟩ w fun c b=>
 Ld kI (Addr.add ⟨c,0,none⟩ 0) b fun (d:Int)=>
 aa (decide (d<1))
 (R (⟨none,0,0⟩:Sl) 2 b)
 (Ld kI (Addr.add ⟨c,0,none⟩ 0) b fun (e:Int)=>
 aa (decide (e>65536))
 (R (⟨none,0,0⟩:Sl) 2 b)
 (Ld kI (Addr.add ⟨c,0,none⟩ 0) b fun (f:Int)=>
 Cl Pg [kS,kI] jQ ⟨[(ni f)]⟩ b fun (h:Sl) (i:Int) g=>
 Nw 5 ⟨[(.int .u8 87),(.int .u8 80),(.int .u8 1)]⟩ g fun k j=>
 ar Pg (Builtin.append_ #[26,26] 26 ⟨[(an (⟨some ⟨k,0,none⟩,3,3⟩:Sl)),(an h)]⟩) kS j fun (m:Sl) l=>
 R m 0 l))):Cl Pg [kS,kI] qT ⟨[(.agg ⟨[(ni a.1)]⟩)]⟩ w R:=co Tryz.f77 [] h
theorem D6.ok (a:Int) (R:Sl→World→Prop) w (h:
 Nw 5 ⟨[(.int .u8 0)]⟩ w fun c b=>
 Cl Pg [kS] m8 ⟨[(.int .u32 a)]⟩ b fun (e:Sl) d=>
 ar Pg (Builtin.append_ #[26,26] 26 ⟨[(an (⟨some ⟨c,0,none⟩,1,1⟩:Sl)),(an e)]⟩) kS d fun (g:Sl) f=>
 R g f):Cl Pg [kS] mK ⟨[(.int .u32 a)]⟩ w R:=co Tryz.f79 [] h
theorem KU.ok (a:(TT cy)) (b:Int) (R:(TT cy)→Int→World→Prop) w (h:
 Nw 100 ⟨[(ni a.1),(ni a.2.1),(ni a.2.2.1),(ni a.2.2.2.1)]⟩ w fun d c=>
 Nw 100 ⟨[(ni 0),(ni 0),(ni 0),(ni 0)]⟩ c fun f e=>
 Nw 230 ⟨[(.int .u8 0),(.int .u8 0),(.int .u8 0)]⟩ e fun h g=>
 ae ⟨h,0,none⟩ [(.int .u8 87),(.int .u8 80),(.int .u8 1)] 0 g fun i=>
 Ld kI (Addr.add ⟨d,0,none⟩ 0) i fun (j:Int)=>
 aa (decide (j<3))
 (Ld kI (Addr.add ⟨d,0,none⟩ 0) i fun (k:Int)=>
 au ⟨h,0,none⟩ 3 k 1 fun l=>
 Ld (ao .u8) l i fun (m:Int)=>
 aa (b !=m)
 (Ld kI (Addr.add ⟨d,0,none⟩ 0) i fun (n:Int)=>
 aa (n==2)
 (Ld (.st cy) ⟨d,0,none⟩ i fun o=>
 ae ⟨f,0,none⟩ [(ni o.1),(ni o.2.1),(ni o.2.2.1),(ni o.2.2.2.1)] 0 i fun p=>
 Ld (.st cy) ⟨f,0,none⟩ p fun q=>
 R q 241 p)
 (Ld kI (Addr.add ⟨d,0,none⟩ 0) i fun (r:Int)=>
 au ⟨h,0,none⟩ 3 r 1 fun s=>
 Ld (ao .u8) s i fun (t:Int)=>
 aa (b !=t)
 (Ld (.st cy) ⟨d,0,none⟩ i fun u=>
 ae ⟨f,0,none⟩ [(ni u.1),(ni u.2.1),(ni u.2.2.1),(ni u.2.2.2.1)] 0 i fun v=>
 Ld (.st cy) ⟨f,0,none⟩ v fun x=>
 R x 240 v)
 (Ld kI (Addr.add ⟨d,0,none⟩ 0) i fun (y:Int)=>
 St (Addr.add ⟨d,0,none⟩ 0) (ni (i64 (y+1))) i fun z=>
 Ld (.st cy) ⟨d,0,none⟩ z fun a1=>
 ae ⟨f,0,none⟩ [(ni a1.1),(ni a1.2.1),(ni a1.2.2.1),(ni a1.2.2.2.1)] 0 z fun b1=>
 Ld (.st cy) ⟨f,0,none⟩ b1 fun c1=>
 R c1 0 b1)))
 (Ld kI (Addr.add ⟨d,0,none⟩ 0) i fun (d1:Int)=>
 au ⟨h,0,none⟩ 3 d1 1 fun e1=>
 Ld (ao .u8) e1 i fun (f1:Int)=>
 aa (b !=f1)
 (Ld (.st cy) ⟨d,0,none⟩ i fun g1=>
 ae ⟨f,0,none⟩ [(ni g1.1),(ni g1.2.1),(ni g1.2.2.1),(ni g1.2.2.2.1)] 0 i fun h1=>
 Ld (.st cy) ⟨f,0,none⟩ h1 fun i1=>
 R i1 240 h1)
 (Ld kI (Addr.add ⟨d,0,none⟩ 0) i fun (j1:Int)=>
 St (Addr.add ⟨d,0,none⟩ 0) (ni (i64 (j1+1))) i fun k1=>
 Ld (.st cy) ⟨d,0,none⟩ k1 fun l1=>
 ae ⟨f,0,none⟩ [(ni l1.1),(ni l1.2.1),(ni l1.2.2.1),(ni l1.2.2.2.1)] 0 k1 fun m1=>
 Ld (.st cy) ⟨f,0,none⟩ m1 fun n1=>
 R n1 0 m1)))
 (Ld (.st [.int .i64,.int .i64]) (Addr.add ⟨d,0,none⟩ 1) i fun o1=>
 Cl Pg [(.st [.int .i64,.int .i64]),kB,kB] ig ⟨[(.agg ⟨[(ni o1.1),(ni o1.2.1)]⟩),(.int .u8 b),(ni 65536)]⟩ i fun q1 (r1:Bool) (s1:Bool) p1=>
 Nw 98 ⟨[(ni 0),(ni 0)]⟩ p1 fun u1 t1=>
 ae ⟨u1,0,none⟩ [(ni q1.1),(ni q1.2.1)] 0 t1 fun v1=>
 aa (!s1)
 (Ld (.st cy) ⟨d,0,none⟩ v1 fun x1=>
 ae ⟨f,0,none⟩ [(ni x1.1),(ni x1.2.1),(ni x1.2.2.1),(ni x1.2.2.2.1)] 0 v1 fun y1=>
 Ld (.st cy) ⟨f,0,none⟩ y1 fun z1=>
 R z1 242 y1)
 (Ld (.st [.int .i64,.int .i64]) ⟨u1,0,none⟩ v1 fun a2=>
 ae (Addr.add ⟨d,0,none⟩ 1) [(ni a2.1),(ni a2.2.1)] 0 v1 fun b2=>
 aa r1
 (St (Addr.add ⟨d,0,none⟩ 0) (ni 4) b2 fun c2=>
 Ld kI (Addr.add ⟨u1,0,none⟩ 0) c2 fun (d2:Int)=>
 St (Addr.add ⟨d,0,none⟩ 3) (ni d2) c2 fun e2=>
 ae (Addr.add ⟨d,0,none⟩ 1) [(ni 0),(ni 0)] 0 e2 fun f2=>
 Ld (.st cy) ⟨d,0,none⟩ f2 fun g2=>
 ae ⟨f,0,none⟩ [(ni g2.1),(ni g2.2.1),(ni g2.2.2.1),(ni g2.2.2.2.1)] 0 f2 fun h2=>
 Ld (.st cy) ⟨f,0,none⟩ h2 fun i2=>
 R i2 0 h2)
 (Ld (.st cy) ⟨d,0,none⟩ b2 fun j2=>
 ae ⟨f,0,none⟩ [(ni j2.1),(ni j2.2.1),(ni j2.2.2.1),(ni j2.2.2.2.1)] 0 b2 fun k2=>
 Ld (.st cy) ⟨f,0,none⟩ k2 fun l2=>
 R l2 0 k2)))):Cl Pg [(.st cy),kI] m7 ⟨[(.agg ⟨[(ni a.1),(ni a.2.1),(ni a.2.2.1),(ni a.2.2.2.1)]⟩),(.int .u8 b)]⟩ w R:=co Tryz.f108 [] h
theorem FI.ok (a:Int) (b:(TT a5)) (c:Int) (R:(TT a5)→Bool→World→Prop) w (h:
 Nw 102 ⟨[(ni b.1),(ni b.2.1),(ni b.2.2.1),(ni b.2.2.2.1),(ni b.2.2.2.2.1),(.int .u32 b.2.2.2.2.2.1),(ni b.2.2.2.2.2.2.1)]⟩ w fun e d=>
 Nw 102 ⟨[(ni 0),(ni 0),(ni 0),(ni 0),(ni 0),(.int .u32 0),(ni 0)]⟩ d fun g f=>
 Ld kI (Addr.add ⟨e,0,none⟩ 0) f fun (h:Int)=>
 aa (h==0)
 (St (Addr.add ⟨e,0,none⟩ 0) (ni 1) f fun i=>
 aa (c==0)
 (St (Addr.add ⟨e,0,none⟩ 0) (ni 5) i fun j=>
 Ld (.st a5) ⟨e,0,none⟩ j fun k=>
 aa (c==0)
 (ae ⟨g,0,none⟩ [(ni k.1),(ni k.2.1),(ni k.2.2.1),(ni k.2.2.2.1),(ni k.2.2.2.2.1),(.int .u32 k.2.2.2.2.2.1),(ni k.2.2.2.2.2.2.1)] 0 j fun l=>
 Ld (.st a5) ⟨g,0,none⟩ l fun m=>
 R m true l)
 (ae ⟨g,0,none⟩ [(ni k.1),(ni k.2.1),(ni k.2.2.1),(ni k.2.2.2.1),(ni k.2.2.2.2.1),(.int .u32 k.2.2.2.2.2.1),(ni k.2.2.2.2.2.2.1)] 0 j fun n=>
 Ld (.st a5) ⟨g,0,none⟩ n fun o=>
 R o (c==1) n))
 (Ld (.st a5) ⟨e,0,none⟩ i fun p=>
 aa (c==0)
 (ae ⟨g,0,none⟩ [(ni p.1),(ni p.2.1),(ni p.2.2.1),(ni p.2.2.2.1),(ni p.2.2.2.2.1),(.int .u32 p.2.2.2.2.2.1),(ni p.2.2.2.2.2.2.1)] 0 i fun q=>
 Ld (.st a5) ⟨g,0,none⟩ q fun r=>
 R r true q)
 (ae ⟨g,0,none⟩ [(ni p.1),(ni p.2.1),(ni p.2.2.1),(ni p.2.2.2.1),(ni p.2.2.2.2.1),(.int .u32 p.2.2.2.2.2.1),(ni p.2.2.2.2.2.2.1)] 0 i fun s=>
 Ld (.st a5) ⟨g,0,none⟩ s fun t=>
 R t (c==1) s)))
 (aa (h==1)
 (Ld (.st [.int .i64,.int .i64]) (Addr.add ⟨e,0,none⟩ 1) f fun u=>
 Cl Pg [(.st [.int .i64,.int .i64]),kB,kB] ig ⟨[(.agg ⟨[(ni u.1),(ni u.2.1)]⟩),(.int .u8 c),(ni a)]⟩ f fun x (y:Bool) (z:Bool) v=>
 Nw 98 ⟨[(ni 0),(ni 0)]⟩ v fun b1 a1=>
 ae ⟨b1,0,none⟩ [(ni x.1),(ni x.2.1)] 0 a1 fun c1=>
 Ld (.st [.int .i64,.int .i64]) ⟨b1,0,none⟩ c1 fun d1=>
 ae (Addr.add ⟨e,0,none⟩ 1) [(ni d1.1),(ni d1.2.1)] 0 c1 fun e1=>
 aa y
 (ae (Addr.add ⟨e,0,none⟩ 1) [(ni 0),(ni 0)] 0 e1 fun f1=>
 Ld kI (Addr.add ⟨b1,0,none⟩ 0) f1 fun (g1:Int)=>
 St ((Addr.add ⟨e,0,none⟩ 3).add 0) (ni g1) f1 fun h1=>
 St (Addr.add ⟨e,0,none⟩ 0) (ni 2) h1 fun i1=>
 Ld (.st a5) ⟨e,0,none⟩ i1 fun j1=>
 ae ⟨g,0,none⟩ [(ni j1.1),(ni j1.2.1),(ni j1.2.2.1),(ni j1.2.2.2.1),(ni j1.2.2.2.2.1),(.int .u32 j1.2.2.2.2.2.1),(ni j1.2.2.2.2.2.2.1)] 0 i1 fun k1=>
 Ld (.st a5) ⟨g,0,none⟩ k1 fun l1=>
 R l1 z k1)
 (Ld (.st a5) ⟨e,0,none⟩ e1 fun m1=>
 ae ⟨g,0,none⟩ [(ni m1.1),(ni m1.2.1),(ni m1.2.2.1),(ni m1.2.2.2.1),(ni m1.2.2.2.2.1),(.int .u32 m1.2.2.2.2.2.1),(ni m1.2.2.2.2.2.2.1)] 0 e1 fun n1=>
 Ld (.st a5) ⟨g,0,none⟩ n1 fun o1=>
 R o1 z n1))
 (aa (h==2)
 (Ld (.st [.int .i64,.int .i64]) (Addr.add ⟨e,0,none⟩ 1) f fun p1=>
 Ld kI ((Addr.add ⟨e,0,none⟩ 3).add 0) f fun (q1:Int)=>
 Cl Pg [(.st [.int .i64,.int .i64]),kB,kB] ig ⟨[(.agg ⟨[(ni p1.1),(ni p1.2.1)]⟩),(.int .u8 c),(ni q1)]⟩ f fun s1 (t1:Bool) (u1:Bool) r1=>
 Nw 98 ⟨[(ni 0),(ni 0)]⟩ r1 fun x1 v1=>
 ae ⟨x1,0,none⟩ [(ni s1.1),(ni s1.2.1)] 0 v1 fun y1=>
 Ld (.st [.int .i64,.int .i64]) ⟨x1,0,none⟩ y1 fun z1=>
 ae (Addr.add ⟨e,0,none⟩ 1) [(ni z1.1),(ni z1.2.1)] 0 y1 fun a2=>
 aa t1
 (ae (Addr.add ⟨e,0,none⟩ 1) [(ni 0),(ni 0)] 0 a2 fun b2=>
 Ld kI (Addr.add ⟨x1,0,none⟩ 0) b2 fun (c2:Int)=>
 St ((Addr.add ⟨e,0,none⟩ 3).add 1) (ni c2) b2 fun d2=>
 St (Addr.add ⟨e,0,none⟩ 0) (ni 3) d2 fun e2=>
 Ld (.st a5) ⟨e,0,none⟩ e2 fun f2=>
 ae ⟨g,0,none⟩ [(ni f2.1),(ni f2.2.1),(ni f2.2.2.1),(ni f2.2.2.2.1),(ni f2.2.2.2.2.1),(.int .u32 f2.2.2.2.2.2.1),(ni f2.2.2.2.2.2.2.1)] 0 e2 fun g2=>
 Ld (.st a5) ⟨g,0,none⟩ g2 fun h2=>
 R h2 u1 g2)
 (Ld (.st a5) ⟨e,0,none⟩ a2 fun i2=>
 ae ⟨g,0,none⟩ [(ni i2.1),(ni i2.2.1),(ni i2.2.2.1),(ni i2.2.2.2.1),(ni i2.2.2.2.2.1),(.int .u32 i2.2.2.2.2.2.1),(ni i2.2.2.2.2.2.2.1)] 0 a2 fun j2=>
 Ld (.st a5) ⟨g,0,none⟩ j2 fun k2=>
 R k2 u1 j2))
 (Ld (ao .u32) ((Addr.add ⟨e,0,none⟩ 3).add 2) f fun (l2:Int)=>
 St ((Addr.add ⟨e,0,none⟩ 3).add 2) (.int .u32 (u32 ((u32 ((256:Int)*l2))+(u32 c)))) f fun m2=>
 Ld kI (Addr.add ⟨e,0,none⟩ 6) m2 fun (n2:Int)=>
 St (Addr.add ⟨e,0,none⟩ 6) (ni (i64 (n2+1))) m2 fun o2=>
 Ld kI (Addr.add ⟨e,0,none⟩ 6) o2 fun (p2:Int)=>
 aa (p2==4)
 (Ld kI (Addr.add ⟨e,0,none⟩ 0) o2 fun (q2:Int)=>
 St (Addr.add ⟨e,0,none⟩ 0) (ni (i64 (q2+1))) o2 fun r2=>
 Ld (.st a5) ⟨e,0,none⟩ r2 fun s2=>
 ae ⟨g,0,none⟩ [(ni s2.1),(ni s2.2.1),(ni s2.2.2.1),(ni s2.2.2.2.1),(ni s2.2.2.2.2.1),(.int .u32 s2.2.2.2.2.2.1),(ni s2.2.2.2.2.2.2.1)] 0 r2 fun t2=>
 Ld (.st a5) ⟨g,0,none⟩ t2 fun u2=>
 R u2 true t2)
 (Ld (.st a5) ⟨e,0,none⟩ o2 fun v2=>
 ae ⟨g,0,none⟩ [(ni v2.1),(ni v2.2.1),(ni v2.2.2.1),(ni v2.2.2.2.1),(ni v2.2.2.2.2.1),(.int .u32 v2.2.2.2.2.2.1),(ni v2.2.2.2.2.2.2.1)] 0 o2 fun x2=>
 Ld (.st a5) ⟨g,0,none⟩ x2 fun y2=>
 R y2 true x2))))):Cl Pg [(.st a5),kB] fH ⟨[(ni a),(.agg ⟨[(ni b.1),(ni b.2.1),(ni b.2.2.1),(ni b.2.2.2.1),(ni b.2.2.2.2.1),(.int .u32 b.2.2.2.2.2.1),(ni b.2.2.2.2.2.2.1)]⟩),(.int .u8 c)]⟩ w R:=co Tryz.f109 [] h
theorem Ae.ok (a:Int) (b:(TT [.int .i64,.int .i64,.int .u32])) (R:Sl→Int→World→Prop) w (h:
 Nw 25 ⟨[(ni b.1),(ni b.2.1),(.int .u32 b.2.2.1)]⟩ w fun d c=>
 aQ (fun (k:World)=>
 Ld kI (Addr.add ⟨d,0,none⟩ 0) k fun (l:Int)=>
 Cl Pg [kS,kI] jQ ⟨[(ni l)]⟩ k fun (n:Sl) (o:Int) m=>
 Ld kI (Addr.add ⟨d,0,none⟩ 1) m fun (p:Int)=>
 Cl Pg [kS,kI] jQ ⟨[(ni p)]⟩ m fun (r:Sl) (s:Int) q=>
 Nw 5 ⟨[(.int .u8 1)]⟩ q fun u t=>
 ar Pg (Builtin.append_ #[26,26] 26 ⟨[(an (⟨some ⟨u,0,none⟩,1,1⟩:Sl)),(an n)]⟩) kS t fun (x:Sl) v=>
 ar Pg (Builtin.append_ #[26,26] 26 ⟨[(an x),(an r)]⟩) kS v fun (z:Sl) y=>
 Ld (ao .u32) (Addr.add ⟨d,0,none⟩ 2) y fun (a1:Int)=>
 Cl Pg [kS] m8 ⟨[(.int .u32 a1)]⟩ y fun (c1:Sl) b1=>
 ar Pg (Builtin.append_ #[26,26] 26 ⟨[(an z),(an c1)]⟩) kS b1 fun (e1:Sl) d1=>
 R e1 0 d1) fun e=>
 aa (decide (a<1))
 (R (⟨none,0,0⟩:Sl) 2 c)
 (aa (decide (a>65536))
 (R (⟨none,0,0⟩:Sl) 2 c)
 (Ld kI (Addr.add ⟨d,0,none⟩ 0) c fun (f:Int)=>
 aa (decide (f<1))
 (R (⟨none,0,0⟩:Sl) 2 c)
 (Ld kI (Addr.add ⟨d,0,none⟩ 0) c fun (g:Int)=>
 aa (decide (g>a))
 (R (⟨none,0,0⟩:Sl) 2 c)
 (Ld kI (Addr.add ⟨d,0,none⟩ 1) c fun (h:Int)=>
 aa (decide (h<1))
 (R (⟨none,0,0⟩:Sl) 2 c)
 (Ld kI (Addr.add ⟨d,0,none⟩ 1) c fun (i:Int)=>
 Ld kI (Addr.add ⟨d,0,none⟩ 0) c fun (j:Int)=>
 aa (decide (i>j))
 (R (⟨none,0,0⟩:Sl) 2 c)
 (e c))))))):Cl Pg [kS,kI] kN ⟨[(ni a),(.agg ⟨[(ni b.1),(ni b.2.1),(.int .u32 b.2.2.1)]⟩)]⟩ w R:=co Tryz.f125 [(2,[])] h
theorem FB.ok (a:(TT [.int .i64,.int .i64])) (b:Int) (c:Int) (R:(TT [.int .i64,.int .i64])→Bool→Bool→World→Prop) w (h:
 Nw 98 ⟨[(ni a.1),(ni a.2.1)]⟩ w fun e d=>
 Nw 98 ⟨[(ni 0),(ni 0)]⟩ d fun g f=>
 Ld (.st [.int .i64,.int .i64]) ⟨e,0,none⟩ f fun h=>
 Cl Pg [(.st [.int .i64,.int .i64]),kB,kI] p4 ⟨[(.agg ⟨[(ni h.1),(ni h.2.1)]⟩),(.int .u8 b)]⟩ f fun j (k:Bool) (l:Int) i=>
 Nw 98 ⟨[(ni 0),(ni 0)]⟩ i fun n m=>
 ae ⟨n,0,none⟩ [(ni j.1),(ni j.2.1)] 0 m fun o=>
 aa (l !=0)
 (Ld (.st [.int .i64,.int .i64]) ⟨n,0,none⟩ o fun p=>
 ae ⟨g,0,none⟩ [(ni p.1),(ni p.2.1)] 0 o fun q=>
 Ld (.st [.int .i64,.int .i64]) ⟨g,0,none⟩ q fun r=>
 R r false false q)
 (Ld kI (Addr.add ⟨n,0,none⟩ 0) o fun (s:Int)=>
 aa (decide (s>c))
 (Ld (.st [.int .i64,.int .i64]) ⟨n,0,none⟩ o fun t=>
 ae ⟨g,0,none⟩ [(ni t.1),(ni t.2.1)] 0 o fun u=>
 Ld (.st [.int .i64,.int .i64]) ⟨g,0,none⟩ u fun v=>
 R v false false u)
 (aa k
 (Ld kI (Addr.add ⟨n,0,none⟩ 0) o fun (x:Int)=>
 aa (decide (x<1))
 (Ld (.st [.int .i64,.int .i64]) ⟨n,0,none⟩ o fun y=>
 ae ⟨g,0,none⟩ [(ni y.1),(ni y.2.1)] 0 o fun z=>
 Ld (.st [.int .i64,.int .i64]) ⟨g,0,none⟩ z fun a1=>
 R a1 false false z)
 (Ld (.st [.int .i64,.int .i64]) ⟨n,0,none⟩ o fun b1=>
 ae ⟨g,0,none⟩ [(ni b1.1),(ni b1.2.1)] 0 o fun c1=>
 Ld (.st [.int .i64,.int .i64]) ⟨g,0,none⟩ c1 fun d1=>
 R d1 k true c1))
 (Ld (.st [.int .i64,.int .i64]) ⟨n,0,none⟩ o fun e1=>
 ae ⟨g,0,none⟩ [(ni e1.1),(ni e1.2.1)] 0 o fun f1=>
 Ld (.st [.int .i64,.int .i64]) ⟨g,0,none⟩ f1 fun g1=>
 R g1 k true f1)))):Cl Pg [(.st [.int .i64,.int .i64]),kB,kB] ig ⟨[(.agg ⟨[(ni a.1),(ni a.2.1)]⟩),(.int .u8 b),(ni c)]⟩ w R:=co Tryz.f156 [] h
end Go.Proofs.YtgglghjnakclmaaGreat
namespace Go.Proofs.YtgglghjnakclmaaGreat
open Go Go.Vc
set_option maxRecDepth 100000
theorem NN.ok (a:Sl) (R:Int→World→Prop) w (h:
 Cl Pg [(ao .u32)] o5 ⟨[(.int .u32 0),(an a)]⟩ w fun (c:Int) b=>
 R c b):Cl Pg [(ao .u32)] jG ⟨[(an a)]⟩ w R:=co Tryz.f80 [] h
theorem K3.ok (a:Int) (R:Sl→World→Prop) w (h:
 (16777216:Int)≠0∧
 (65536:Int)≠0∧
 (256:Int)≠0∧
 (256:Int)≠0∧
 (256:Int)≠0∧
 (256:Int)≠0∧
 Nw 5 ⟨[(.int .u8 (u8 (u32 (Int.tdiv a (16777216:Int))))),(.int .u8 (u8 (Int.tmod (u32 (Int.tdiv a (65536:Int))) (256:Int)))),(.int .u8 (u8 (Int.tmod (u32 (Int.tdiv a (256:Int))) (256:Int)))),(.int .u8 (u8 (Int.tmod a (256:Int))))]⟩ w fun c b=>
 R (⟨some ⟨c,0,none⟩,4,4⟩:Sl) b):Cl Pg [kS] m8 ⟨[(.int .u32 a)]⟩ w R:=co Tryz.f131 [] h
theorem IP.ok (a:Int) (b:Sl) (R:Int→World→Prop) w (h:
 cp (eH .u32 a 4294967295) 0 w fun c d (e:Int) (f:Int) g=>
 aa (decide (f<(b.len:Int)))
 (cp e 0 g fun h i (j:Int) (k:Int) l=>
 ay b f 1 fun m=>
 Ld kS m l fun (n:Sl)=>
 aa (decide (k<(n.len:Int)))
 (ay b f 1 fun o=>
 Ld kS o l fun (p:Sl)=>
 ay p k 1 fun q=>
 Ld (ao .u8) q l fun (r:Int)=>
 Cl Pg [(ao .u32)] oY ⟨[(.int .u32 j),(.int .u8 r)]⟩ l fun (t:Int) s=>
 h t (i64 (k+1)) s∧i t (i64 (k+1)) s<i j k l)
 (c j (i64 (f+1)) l∧d j (i64 (f+1)) l<d e f g))
 (R (eH .u32 e 4294967295) g)):Cl Pg [(ao .u32)] o5 ⟨[(.int .u32 a),(an b)]⟩ w R:=co Tryz.f132 [(7,[(0,(ao .u32)),(5,kI)]),(14,[(0,(ao .u32)),(6,kI)])] h
theorem I8.ok (a:Int) (b:Int) (R:Int→World→Prop) w (h:
 (256:Int)≠0∧
 Cl Pg [(ao .u32)] re ⟨[(.int .u8 (eH .u8 (u8 (Int.tmod a (256:Int))) b))]⟩ w fun (d:Int) c=>
 (256:Int)≠0∧
 R (eH .u32 d (u32 (Int.tdiv a (256:Int)))) c):Cl Pg [(ao .u32)] oY ⟨[(.int .u32 a),(.int .u8 b)]⟩ w R:=co Tryz.f185 [] h
theorem L5.ok (a:Int) (R:Int→World→Prop) w (h:
 cp (u32 a) 0 w fun b c (d:Int) (e:Int) f=>
 aa (decide (e<8))
 ((2:Int)≠0∧
 (2:Int)≠0∧
 aa (((Int.tmod d (2:Int)):Int)==1)
 (b (eH .u32 (u32 (Int.tdiv d (2:Int))) 3988292384) (i64 (e+1)) f∧c (eH .u32 (u32 (Int.tdiv d (2:Int))) 3988292384) (i64 (e+1)) f<c d e f)
 (b (u32 (Int.tdiv d (2:Int))) (i64 (e+1)) f∧c (u32 (Int.tdiv d (2:Int))) (i64 (e+1)) f<c d e f))
 (R d f)):Cl Pg [(ao .u32)] re ⟨[(.int .u8 a)]⟩ w R:=co Tryz.f251 [(7,[(3,(ao .u32)),(4,kI)])] h
end Go.Proofs.YtgglghjnakclmaaGreat
namespace Go.Proofs.YtgglghjnakclmaaGreat
open Go Go.Vc Go.aE Go.Crc
section
variable {E w:World} {F:List HP}
theorem p5 (a b:Nat):Int.tmod (a:Int) (b:Int)=((a % b:Nat):Int):=rfl
theorem pF (a b:Nat):Int.tdiv (a:Int) (b:Int)=((a/b:Nat):Int):=rfl
theorem Sm {b:Nat} {K:Int→World→Prop} (hb:b<256) (hK:K (row b:Int) w):Cl Tryz.prog [ao .u32] re ⟨[.int .u8 (b:Int)]⟩ w K:=by
 refine L5.ok _ _ _ ?_
 refine ⟨fun c i w'=>w'=w∧∃k:Nat,i=(k:Int)∧k≤8∧c=(cu k b:Int),fun _ i _=>8 - i.toNat,⟨rfl,0,rfl,by omega,by rw [cN (by omega)];rfl⟩,?_⟩
 rintro c i w' ⟨rfl,k,rfl,hk,rfl⟩
 refine aa.dm (fun hlt=> ?_) (fun hge=> ?_)
 ·have hlt:k<8:=by omega
  have hb:=u0 k b (by omega)
  have hm:IntKind.max .u32=4294967295:=rfl
  have h2:=gH hb
  have e1:u32 (Int.tdiv (cu k b:Int) 2)=((cu k b/2:Nat):Int):=by
   rw [show (2:Int)=((2:Nat):Int) from rfl,pF,cN (by omega)]
  have e2:Int.tmod (cu k b:Int) 2=((cu k b % 2:Nat):Int):=p5 _ 2
  rw [e1,e2,ab (by omega)]
  have hs:cu (k+1) b=half (cu k b):=rfl
  refine ⟨by decide,by decide,aa.mk (fun ho=> ?_) (fun he=> ?_)⟩
  ·have ho:cu k b % 2=1:=by rw [beq_iff_eq] at ho;omega
   have hh:cu k b/2^^^3988292384=cu (k+1) b:=by rw [hs];unfold half;rw [if_pos ho]
   refine ⟨⟨rfl,k+1,rfl,by omega,?_⟩,by first|omega|(dsimp only;omega)⟩
   rw [show (3988292384:Int)=((3988292384:Nat):Int) from rfl,iS (by omega) (by omega) (by rw [hh,hs];omega),hh]
  ·have ho: ¬cu k b % 2=1:=by rw [beq_eq_false_iff_ne] at he;omega
   have hh:cu k b/2=cu (k+1) b:=by rw [hs];unfold half;rw [if_neg ho,Nat.xor_zero]
   exact ⟨⟨rfl,k+1,rfl,by omega,by rw [hh]⟩,by first|omega|(dsimp only;omega)⟩
 ·have:k=8:=by omega
  subst this
  exact hK
theorem QC {c x:Nat} {K:Int→World→Prop} (hc:c<4294967296) (hx:x<256) (hK:K (Crc.step c x:Int) w):Cl Tryz.prog [ao .u32] oY ⟨[.int .u32 (c:Int),.int .u8 (x:Int)]⟩ w K:=by
 refine I8.ok _ _ _ _ ?_
 have hm:IntKind.max .u32=4294967295:=rfl
 have hm8:IntKind.max .u8=255:=rfl
 have hi:=vD (c:=c) hx
 have hr:=Ct (c:=c % 256^^^x) (by omega)
 have hs:=zY hc hx
 have e1:eH .u8 (u8 (Int.tmod (c:Int) 256)) (x:Int)=((c % 256^^^x:Nat):Int):=by
  rw [show (256:Int)=((256:Nat):Int) from rfl,p5,eD (by omega),iS (by omega) (by omega) (by omega)]
 rw [e1]
 refine ⟨by decide,Sm hi ⟨by decide,?_⟩⟩
 unfold Crc.step at hs hK
 rw [show (256:Int)=((256:Nat):Int) from rfl,pF,cN (by omega),iS (by omega) (by omega) (by omega)]
 exact hK
theorem RZ {c:Nat} (h:c<4294967296):eH .u32 (c:Int) 4294967295=((c^^^4294967295:Nat):Int):=by
 have hm:IntKind.max .u32=4294967295:=rfl
 have hx:c^^^4294967295<2^32:=Nat.xor_lt_two_pow (by omega) (by decide)
 rw [show (4294967295:Int)=((4294967295:Nat):Int) from rfl,iS (by omega) (by omega) (by omega)]
theorem PN {c:Nat} {K:Int→World→Prop} {s:Sl} {cs:List Sl} {bs:List (List Nat)} (h:Hp E w F) (hc0:c<4294967296)
  (hs:ad F (aH 1 s (cs.map fun x=> .slice x.base x.len x.cap))) (hl:cs.length=bs.length) (hcl:cs.length≤du) (hc: ∀i (h:i<cs.length),ad F (aH 1 cs[i] ((bs.getD i []).map vB)))
  (hby: ∀b∈bs,∀y∈b,y<256) (hbig: ∀b∈bs,b.length≤du)
  (hK:K ((Crc.feed (c^^^4294967295) bs.flatten^^^4294967295:Nat):Int) w):Cl Tryz.prog [ao .u32] o5 ⟨[.int .u32 (c:Int),.slice s.base s.len s.cap]⟩ w K:=by
 refine IP.ok _ _ _ _ ?_
 have hlen:s.len=cs.length:=by have:=(h.aj hs).1;simpa using this.symm
 have hflat: ∀y∈bs.flatten,y<256:=fun y hy=>by
  obtain ⟨b,hb1,hb2⟩:=List.mem_flatten.1 hy
  exact hby b hb1 y hb2
 have hc1:c^^^4294967295<4294967296:=Nat.xor_lt_two_pow (n:=32) hc0 (by decide)
 rw [aX] at hcl
 rw [RZ hc0]
 refine ⟨fun x i w'=>w'=w∧∃k:Nat,i=(k:Int)∧k≤cs.length∧x=(Crc.feed (c^^^4294967295) (bs.take k).flatten:Int),fun _ i _=>cs.length - i.toNat,⟨rfl,0,rfl,by omega,rfl⟩,?_⟩
 rintro x i w ⟨rfl,k,rfl,hk,rfl⟩
 refine aa.dm (fun hlt=> ?_) (fun hge=> ?_)
 ·have hlt:k<cs.length:=by omega
  have hkb:k<bs.length:=by omega
  have hgd:bs.getD k []=bs[k]:=by rw [List.getD_eq_getElem?_getD,List.getElem?_eq_getElem hkb];rfl
  have hck:=hc k hlt
  rw [hgd] at hck
  have hmem:=List.getElem_mem hkb
  have hblen:=hbig _ hmem
  rw [aX] at hblen
  have hlk:=(h.aj hck).1
  simp only [List.length_map,Nat.mul_one] at hlk
  have rdp: ∀{G:Sl→Prop},G cs[k]→ay s (k:Int) 1 fun q=>Ld kS q w G:=fun hG=>ay.rd (h.aj hs) (by omega) (by omega) fun q hi hq=>Ld.sc _ (by simpa using hq:w.cell? q=some (Sc.sl.enc cs[k])) hG
  refine ⟨fun x i w'=>w'=w∧∃j:Nat,i=(j:Int)∧j≤bs[k].length∧x=(Crc.feed (c^^^4294967295) ((bs.take k).flatten++bs[k].take j):Int),fun _ i _=>bs[k].length - i.toNat,⟨rfl,0,rfl,by omega,by simp⟩,?_⟩
  rintro x i w' ⟨rfl,j,rfl,hj,rfl⟩
  have hpre: ∀y∈(bs.take k).flatten++bs[k].take j,y<256:=fun y hy=>by
   rcases List.mem_append.1 hy with hy|hy
   ·obtain ⟨b,hb1,hb2⟩:=List.mem_flatten.1 hy
    exact hby b (List.mem_of_mem_take hb1) y hb2
   ·exact hby _ hmem y (List.mem_of_mem_take hy)
  have hfl:=Crc.oM _ _ hc1 hpre
  refine rdp (aa.dm (fun hlt2=> ?_) (fun hge2=> ?_))
  ·have hjl:j<bs[k].length:=by omega
   have hy:=hby _ hmem _ (List.getElem_mem hjl)
   refine rdp (ay.rd (h.aj hck) (by omega) (by omega) fun q hi hq=> ?_)
   refine Ld.sc (s:= .int .u8) (bs[k][j]:Int) (by simpa [vB] using hq) ?_
   refine QC hfl hy ?_
   rw [ab (by omega)]
   refine ⟨⟨rfl,j+1,rfl,by omega,?_⟩,by first|omega|(dsimp only;omega)⟩
   rw [List.take_add_one,List.getElem?_eq_getElem hjl,←List.append_assoc,Crc.wY ((bs.take k).flatten++bs[k].take j)];rfl
  ·have hjl:j=bs[k].length:=by omega
   subst hjl
   rw [ab (by omega),List.take_length]
   exact ⟨⟨rfl,k+1,rfl,by omega,by rw [Bt hkb,hgd]⟩,by first|omega|(dsimp only;omega)⟩
 ·have hkl:k=bs.length:=by omega
  subst hkl
  rw [List.take_length]
  have hfl:=Crc.oM _ _ hc1 hflat
  rw [RZ hfl]
  exact hK
theorem Co {K:Int→World→Prop} {s:Sl} {cs:List Sl} {bs:List (List Nat)} (h:Hp E w F)
  (hs:ad F (aH 1 s (cs.map fun x=> .slice x.base x.len x.cap))) (hl:cs.length=bs.length) (hcl:cs.length≤du) (hc: ∀i (h:i<cs.length),ad F (aH 1 cs[i] ((bs.getD i []).map vB)))
  (hby: ∀b∈bs,∀y∈b,y<256) (hbig: ∀b∈bs,b.length≤du)
  (hK:K (Crc.cH bs.flatten:Int) w):Cl Tryz.prog [ao .u32] jG ⟨[.slice s.base s.len s.cap]⟩ w K:=by
 refine NN.ok _ _ _ ?_
 exact PN (c:=0) h (by decide) hs hl hcl hc hby hbig hK
theorem JL {c:Nat} {K:Sl→World→Prop} (h:Hp E w F) (hc:c<4294967296) (hK: ∀s w',Hp E w' (av 1 s ((Hd.od c).map vB)::F)→K s w'):Cl Tryz.prog [kS] m8 ⟨[.int .u32 (c:Int)]⟩ w K:=by
 refine K3.ok _ _ _ ?_
 refine ⟨by decide,by decide,by decide,by decide,by decide,by decide,?_⟩
 have e1:u8 (u32 (Int.tdiv (c:Int) 16777216))=((c/16777216 % 256:Nat):Int):=by
  rw [show (16777216:Int)=((16777216:Nat):Int) from rfl,pF,cN (by omega),yi];omega
 have e2:u8 (Int.tmod (u32 (Int.tdiv (c:Int) 65536)) 256)=((c/65536 % 256:Nat):Int):=by
  rw [show (65536:Int)=((65536:Nat):Int) from rfl,pF,cN (by omega),show (256:Int)=((256:Nat):Int) from rfl,p5,eD (by omega)]
 have e3:u8 (Int.tmod (u32 (Int.tdiv (c:Int) 256)) 256)=((c/256 % 256:Nat):Int):=by
  rw [show (256:Int)=((256:Nat):Int) from rfl,pF,cN (by omega),p5,eD (by omega)]
 have e4:u8 (Int.tmod (c:Int) 256)=((c % 256:Nat):Int):=by
  rw [show (256:Int)=((256:Nat):Int) from rfl,p5,eD (by omega)]
 rw [e1,e2,e3,e4]
 exact Nw.mk h fun b3 w h=>hK _ w (h.fS (n:=4) (sz:=1) rfl)
end
end Go.Proofs.YtgglghjnakclmaaGreat
namespace Go.Proofs.YtgglghjnakclmaaGreat
open Go Go.Vc Go.Srt Go.Inc Go.Hd Go.Crc
section
variable {E w:World} {F:List HP}
theorem JP {m:Nat} {K:Int→World→Prop} (hm:m≤8) (hK:K ((128^m:Nat):Int) w):Cl Tryz.prog [kI] kd ⟨[.int .i64 (m:Int)]⟩ w K:=by
 refine FZ.ok _ _ _ ?_
 refine ⟨fun n i w'=>w'=w∧∃k:Nat,i=(k:Int)∧k≤m∧n=((128^k:Nat):Int),fun _ i _=>m - i.toNat,⟨rfl,0,rfl,by omega,rfl⟩,?_⟩
 rintro n i w' ⟨rfl,k,rfl,hk,rfl⟩
 refine aa.dm (fun hlt=> ?_) (fun hge=> ?_)
 ·have hp:128^(k+1)≤128^8:=Nat.pow_le_pow_right (by decide) (by omega)
  rw [Nat.pow_succ] at hp
  have e:=Nat.pow_succ 128 k
  generalize 128^k=p at*
  rw [ab (by omega),ab (by omega)]
  refine ⟨⟨rfl,k+1,rfl,by omega,by rw [e];omega⟩,by first|omega|(dsimp only;omega)⟩
 ·have:k=m:=by omega
  subst this
  exact hK
theorem LH {v:Nat} {K:Bool→World→Prop} (h:Hp E w F) (hv:v≤65536) (hK: ∀w',Hp E w' F→K true w'):
  Cl Tryz.prog [kB] oc ⟨[.agg ⟨[.int .i64 (v:Int),.int .i64 (vm v:Int)]⟩]⟩ w K:=by
 refine Fq.ok ((v:Int),(vm v:Int),()) _ _ ?_
 (try simp only [ag,Nat.zero_add,Nat.add_zero])
 by_cases h0:v=0
 ·subst h0
  rw [show vm 0=0 from rfl]
  (with_reducible repeat first|refine Nw.mk h fun b w h=> ?_|refine Ld.xb h rfl ?_|refine aa.yes ?_)
  exact hK _ h.tl
 ·obtain ⟨m,hm,hm2,h1,h2⟩: ∃m,vm v=m+1∧m≤2∧128^m≤v∧v<128^(m+1):=by
   rcases xW hv with ⟨a,b⟩|⟨a,b,c⟩|⟨a,b,c⟩|⟨a,b,c⟩
   ·omega
   ·exact ⟨0,c,by omega,by simpa using a,by simpa using b⟩
   ·exact ⟨1,c,by omega,by simpa using a,by simpa using b⟩
   ·exact ⟨2,c,by omega,by simpa using a,by simpa using b⟩
  rw [hm]
  refine Nw.mk h fun b3 w h=>Ld.xb h rfl (aa.ef (by omega) ?_)
  have h:=h.drew (n:=w.drawn+1)
  refine ⟨br b3 _ _ _,h.hb,?_⟩
  (with_reducible repeat first|refine aw.xb (fun _ h=>h) rfl ?_|refine aa.yes ?_)
  rw [ab (by omega),show ((m+1:Nat):Int) - 1=(m:Int) by omega]
  refine JP (by omega) ⟨h.hb,aa.dt (by exact_mod_cast h1) ?_⟩
  (with_reducible repeat refine aw.xb (fun _ h=>h) rfl ?_)
  refine JP (m:=m+1) (by omega) ⟨h.hb,?_⟩
  exact ek (decide_eq_true (by exact_mod_cast h2)) (hK _ h.tl)
theorem Ns {v c:Nat} {K:Int×Int×Unit→Bool→Int→World→Prop} (h:Hp E w F) (hv:v≤65536) (hc:c<256)
  (hbad:v=0∧c=128→∀w',Hp E w' F→K (0,0,()) false 51 w')
  (hK: ¬(v=0∧c=128)→∀w',Hp E w' F→K (((128*v+c % 128:Nat):Int),((vm v+1:Nat):Int),()) (decide (c<128)) 0 w'):
  Cl Tryz.prog [.st [.int .i64,.int .i64],kB,kI] p4 ⟨[.agg ⟨[.int .i64 (v:Int),.int .i64 (vm v:Int)]⟩,.int .u8 (c:Int)]⟩ w K:=by
 refine H0.ok ((v:Int),(vm v:Int),()) _ _ _ ?_
 (try simp only [ag,Nat.zero_add,Nat.add_zero])
 (with_reducible repeat first|refine Nw.mk h fun b w h=> ?_|refine Ld.xt h rfl ?_)
 refine LH h hv fun w h=> ?_
 rw [show Int.tmod (c:Int) 128=((c % 128:Nat):Int) from rfl,ab (x:=((c % 128:Nat):Int)) (by omega)]
 have hvm:=Oo hv
 have fin: ∀w,¬(v=0∧c=128)→Hp E w F→K (i64 (i64 (128*(v:Int))+((c % 128:Nat):Int)),i64 ((vm v:Int)+1),()) (decide ((c:Int)<128)) 0 w:=fun w hn h=>by
  have:=hK hn w h
  rw [ab (x:=128*(v:Int)) (by omega),ab (x:=(vm v:Int)+1) (by omega),ab (by omega)]
  rw [show ((vm v+1:Nat):Int)=(vm v:Int)+1 from rfl,show ((128*v+c % 128:Nat):Int)=128*(v:Int)+((c % 128:Nat):Int) by omega] at this
  rwa [show decide ((c:Int)<128)=decide (c<128) from decide_eq_decide.2 (by omega)]
 have hle: ¬i64 (i64 (128*(v:Int))+((c % 128:Nat):Int))>2147483647:=by rw [ab (x:=128*(v:Int)) (by omega),ab (by omega)];omega
 with_reducible refine aa.yD ?_
 by_cases h8:c=128
 ·refine aa.et (by omega) (Ld.xb h rfl ?_)
  by_cases h0:v=0
  ·refine aa.et (by omega) ?_
   (with_reducible repeat first|refine Ld.xt h rfl ?_|refine ae.xw h rfl rfl fun w h=> ?_)
   exact hbad ⟨h0,h8⟩ _ h.tl
  ·refine aa.ef (by omega) (Ld.xb h rfl ⟨by decide,aa.df hle ?_⟩)
   (with_reducible repeat first|refine Ld.xb h rfl ?_|refine Ld.xt h rfl ?_|refine ae.xw h rfl rfl fun w h=> ?_|refine aa.no ?_)
   exact fin _ (by omega) h.tl
 ·refine aa.ef (by omega) (Ld.xb h rfl ⟨by decide,aa.df hle ?_⟩)
  (with_reducible repeat first|refine Ld.xb h rfl ?_|refine Ld.xt h rfl ?_|refine ae.xw h rfl rfl fun w h=> ?_|refine aa.no ?_)
  exact fin _ (by omega) h.tl
theorem Am {n:Nat} {K:Sl→Int→World→Prop} (h:Hp E w F) (hn:n≤65536) (hK: ∀s w',Hp E w' (OB s (iD n)::F)→K s 0 w'):Cl Tryz.prog [kS,kI] jQ ⟨[.int .i64 (n:Int)]⟩ w K:=by
 refine Ly.ok _ _ _ ?_
 refine aa.df (by omega) (aa.df (by omega) ⟨by decide,?_⟩)
 have e128: ∀m:Nat,Int.tmod (m:Int) 128=((m % 128:Nat):Int):=fun _=>rfl
 have d128: ∀m:Nat,Int.tdiv (m:Int) 128=((m/128:Nat):Int):=fun _=>rfl
 rw [e128,d128,eD (by omega),ab (by omega)]
 refine Nw.mk h fun b3 w h=>⟨by decide,?_⟩
 have h:=Hp.fS (n:=1) (sz:=1) h rfl
 refine ⟨fun x s w'=> ∃(m:Nat) (l:List Nat),x=(m:Int)∧m≤512∧l.length+m≤513∧qI m++l=iD n∧Hp E w' (OB s l::F),fun x _ _=>x.toNat,⟨n/128,[n % 128],rfl,by omega,by simp;omega,rfl,h⟩,?_⟩
 rintro x s w ⟨m,l,rfl,hm5,hl,hv,h⟩
 refine aa.dm (fun hlt=> ?_) (fun hge=> ?_)
 ·have hm0:0<m:=by omega
  rw [e128,d128,ab (x:=128+((m % 128:Nat):Int)) (by omega),eD (by omega),ab (by omega),show 128+((m % 128:Nat):Int)=((128+m % 128:Nat):Int) by omega]
  refine ⟨by decide,Nw.mk h fun b12 w h=>Oh h (by omega) fun s w h=>⟨by decide,?_⟩⟩
  refine ⟨⟨m/128,(128+m % 128)::l,rfl,by omega,by rw [List.length_cons];omega,?_,h⟩,by first|omega|(dsimp only;omega)⟩
  rw [←hv,oE hm0]
  simp
 ·have hm0:m=0:=by omega
  subst hm0
  rw [kA,List.nil_append] at hv
  rw [hv] at h
  exact hK s w h
theorem xh {v c most:Nat} {K:T2→Bool→Bool→World→Prop} (h:Hp E w F) (hv:v≤most) (hm:most≤65536) (hc:c<256)
  (hbad:grow most v c=none→∀o d w',Hp E w' F→K o d false w')
  (hK: ∀n d,grow most v c=some (n,d)→∀k w',(d=false→k=(vm n:Int))→Hp E w' F→K ((n:Int),k,()) d true w'):
  Cl Tryz.prog [.st [.int .i64,.int .i64],kB,kB] ig ⟨[.agg ⟨[.int .i64 (v:Int),.int .i64 (vm v:Int)]⟩,.int .u8 (c:Int),.int .i64 (most:Int)]⟩ w K:=by
 refine FB.ok ((v:Int),(vm v:Int),()) _ _ _ _ ?_
 (try simp only [ag,Nat.add_zero])
 (with_reducible repeat first|refine Nw.mk h fun b w h=> ?_|refine Ld.xt h rfl ?_)
 refine Ns h (by omega) hc (fun hb w h=> ?_) (fun hb w h=> ?_)
 ·(with_reducible repeat first|refine Nw.mk h fun b w h=> ?_|refine Ld.xt h rfl ?_|refine ae.xw h rfl rfl fun w h=> ?_|refine aa.yes ?_)
  exact hbad (by unfold grow;rw [if_pos hb]) _ _ _ h.tl
 ·(with_reducible repeat first|refine Nw.mk h fun b w h=> ?_|refine Ld.xb h rfl ?_|refine ae.xw h rfl rfl fun w h=> ?_|refine aa.no ?_)
  by_cases hc1:c<128
  ·rw [decide_eq_true hc1]
   by_cases hle:128*v+c % 128≤most
   ·(with_reducible repeat first|refine Ld.xb h rfl ?_|refine aa.yes ?_|refine aa.no ?_)
    by_cases h0:0<128*v+c % 128
    ·(with_reducible repeat first|refine Ld.xt h rfl ?_|refine ae.xw h rfl rfl fun w h=> ?_|refine aa.no ?_)
     refine hK _ true ?_ _ _ (fun hh=>by cases hh) h.tl
     unfold grow
     rw [if_neg hb,if_pos ⟨hle,fun _=>h0⟩,decide_eq_true hc1]
    ·(with_reducible repeat first|refine Ld.xt h rfl ?_|refine ae.xw h rfl rfl fun w h=> ?_|refine aa.yes ?_)
     refine hbad ?_ _ _ _ h.tl
     unfold grow
     rw [if_neg hb,if_neg (fun hh=>h0 (hh.2 hc1))]
   ·(with_reducible repeat first|refine Ld.xt h rfl ?_|refine ae.xw h rfl rfl fun w h=> ?_|refine aa.yes ?_)
    refine hbad ?_ _ _ _ h.tl
    unfold grow
    rw [if_neg hb,if_neg (fun hh=>hle hh.1)]
  ·rw [decide_eq_false hc1]
   by_cases hle:128*v+c % 128≤most
   ·(with_reducible repeat first|refine Ld.xt h rfl ?_|refine ae.xw h rfl rfl fun w h=> ?_|refine aa.no ?_)
    refine hK _ false ?_ _ _ (fun _=>by rw [G1 (by omega) (by omega) hc hb]) h.tl
    unfold grow
    rw [if_neg hb,if_pos ⟨hle,fun hh=>absurd hh hc1⟩,decide_eq_false hc1]
   ·(with_reducible repeat first|refine Ld.xt h rfl ?_|refine ae.xw h rfl rfl fun w h=> ?_|refine aa.yes ?_)
    refine hbad ?_ _ _ _ h.tl
    unfold grow
    rw [if_neg hb,if_neg (fun hh=>hle hh.1)]
theorem CU {n:Nat} {m:MS} {c:Nat} {K:fq→Bool→World→Prop} (h:Hp E w F) (hn2:n≤65536) (hm:fC n m) (hc:c<256) (hK:GW n m c E F K):
  Cl Tryz.prog [.st [.int .i64,.int .i64,.int .i64,.int .i64,.int .i64,.int .u32,.int .i64],kB] fH ⟨[.int .i64 (n:Int),.agg ⟨[.int .i64 (m.at_:Int),.int .i64 (m.v:Int),.int .i64 (vm m.v:Int),.int .i64 (m.M:Int),.int .i64 (m.P:Int),.int .u32 (m.sum:Int),.int .i64 (m.many:Int)]⟩,.int .u8 (c:Int)]⟩ w K:=by
 obtain ⟨k1,k2,k3,k4⟩:=hK
 obtain ⟨at_,v,M,P,sum,many⟩:=m
 have hm0:=hm
 unfold fC at hm0
 dsimp only at hm0⊢
 refine FI.ok _ ((at_:Int),(v:Int),(vm v:Int),(M:Int),(P:Int),(sum:Int),(many:Int),()) _ _ _ ?_
 (try simp only [ag,Nat.zero_add,Nat.add_zero,Nat.reduceAdd])
 refine Nw.mk h fun b5 w h=>Nw.mk h fun b7 w h=>Ld.xb (b:=b5) h rfl ?_
 rcases hm0 with ⟨h1,h2⟩|⟨h1,h2,h3,h4,h5,h6⟩|⟨h1,h2,h3,h4,h5,h6,h7⟩|⟨h1,h2,h3,h4,h5,h6,h7,h8⟩|⟨h1,h2,h3,h4,h5,h6⟩
 ·cases h2
  rw [show vm 0=0 from rfl] at h
  refine aa.et rfl ?_
  by_cases h0:c=0
  ·subst h0
   (with_reducible repeat first|refine Ld.xt h rfl ?_|refine ae.xw h rfl rfl fun w h=> ?_|(refine St.xs h rfl rfl fun w h=> ?_;dsimp only [aP,aq] at h)|refine aa.yes ?_)
   exact k1 ⟨5,0,0,0,0,0⟩ _ rfl (by dsimp only;decide) (by dsimp only;decide) h.tl
  ·(with_reducible repeat first|refine Ld.xt h rfl ?_|refine ae.xw h rfl rfl fun w h=> ?_|(refine St.xs h rfl rfl fun w h=> ?_;dsimp only [aP,aq] at h)|refine aa.no ?_)
   by_cases h1:c=1
   ·subst h1
    exact k1 ⟨1,0,0,0,0,0⟩ _ rfl (by dsimp only;decide) (by dsimp only;decide) h.tl
   ·refine ek (beq_eq_false_iff_ne.2 (by omega)) (k4 242 _ _ ?_ rfl h.tl)
    unfold aC
    simp [h0,h1]
 ·subst h1 h3 h4 h5 h6
  refine aa.ef (by decide) (aa.et rfl (Ld.xt h rfl ?_))
  refine xh h h2 hn2 hc (fun hg o d w h=> ?_) (fun m d hg k w hk h=> ?_)
  ·cases d
   ·(with_reducible repeat first|refine Nw.mk h fun b w h=> ?_|refine Ld.xt h rfl ?_|refine ae.xw h rfl rfl fun w h=> ?_|(refine ae.xs h rfl rfl fun w h=> ?_;dsimp only [aP,aq] at h)|refine aa.no ?_)
    exact k4 242 _ _ (by unfold aC;simp [hg]) rfl h.tl
   ·(with_reducible repeat first|refine Nw.mk h fun b w h=> ?_|refine Ld.xb h rfl ?_|refine Ld.xt h rfl ?_|refine ae.xw h rfl rfl fun w h=> ?_|(refine ae.xs h rfl rfl fun w h=> ?_;dsimp only [aP,aq] at h)|(refine St.xs h rfl rfl fun w h=> ?_;dsimp only [aP,aq] at h)|refine aa.yes ?_)
    exact k4 242 _ _ (by unfold aC;simp [hg]) rfl h.tl
  ·cases d
   ·have:=hk rfl
    subst this
    (with_reducible repeat first|refine Nw.mk h fun b w h=> ?_|refine Ld.xt h rfl ?_|refine ae.xw h rfl rfl fun w h=> ?_|(refine ae.xs h rfl rfl fun w h=> ?_;dsimp only [aP,aq] at h)|refine aa.no ?_)
    exact k1 ⟨1,m,0,0,0,0⟩ _ (by unfold aC;simp [hg]) (by dsimp only;decide) (by dsimp only;decide) h.tl
   ·(with_reducible repeat first|refine Nw.mk h fun b w h=> ?_|refine Ld.xb h rfl ?_|refine Ld.xt h rfl ?_|refine ae.xw h rfl rfl fun w h=> ?_|(refine ae.xs h rfl rfl fun w h=> ?_;dsimp only [aP,aq] at h)|(refine St.xs h rfl rfl fun w h=> ?_;dsimp only [aP,aq] at h)|refine aa.yes ?_)
    exact k1 ⟨2,0,m,0,0,0⟩ _ (by unfold aC;simp [hg]) (by dsimp only;decide) (by dsimp only;decide) h.tl
 ·subst h1 h5 h6 h7
  refine aa.ef (by decide) (aa.ef (by decide) (aa.et rfl (Ld.xt h rfl (Ld.xb (b:=b5) h rfl ?_))))
  refine xh (most:=M) h h4 (by omega) hc (fun hg o d w h=> ?_) (fun m d hg k w hk h=> ?_)
  ·cases d
   ·(with_reducible repeat first|refine Nw.mk h fun b w h=> ?_|refine Ld.xt h rfl ?_|refine ae.xw h rfl rfl fun w h=> ?_|(refine ae.xs h rfl rfl fun w h=> ?_;dsimp only [aP,aq] at h)|refine aa.no ?_)
    exact k4 242 _ _ (by unfold aC;simp [hg]) rfl h.tl
   ·(with_reducible repeat first|refine Nw.mk h fun b w h=> ?_|refine Ld.xb h rfl ?_|refine Ld.xt h rfl ?_|refine ae.xw h rfl rfl fun w h=> ?_|(refine ae.xs h rfl rfl fun w h=> ?_;dsimp only [aP,aq] at h)|(refine St.xs h rfl rfl fun w h=> ?_;dsimp only [aP,aq] at h)|refine aa.yes ?_)
    exact k4 242 _ _ (by unfold aC;simp [hg]) rfl h.tl
  ·cases d
   ·have:=hk rfl
    subst this
    (with_reducible repeat first|refine Nw.mk h fun b w h=> ?_|refine Ld.xt h rfl ?_|refine ae.xw h rfl rfl fun w h=> ?_|(refine ae.xs h rfl rfl fun w h=> ?_;dsimp only [aP,aq] at h)|refine aa.no ?_)
    exact k1 ⟨2,m,M,0,0,0⟩ _ (by unfold aC;simp [hg]) (by dsimp only;decide) (by dsimp only;decide) h.tl
   ·(with_reducible repeat first|refine Nw.mk h fun b w h=> ?_|refine Ld.xb h rfl ?_|refine Ld.xt h rfl ?_|refine ae.xw h rfl rfl fun w h=> ?_|(refine ae.xs h rfl rfl fun w h=> ?_;dsimp only [aP,aq] at h)|(refine St.xs h rfl rfl fun w h=> ?_;dsimp only [aP,aq] at h)|refine aa.yes ?_)
    exact k1 ⟨3,0,M,m,0,0⟩ _ (by unfold aC;simp [hg]) (by dsimp only;decide) (by dsimp only;decide) h.tl
 all_goals
  obtain ⟨ha,h7,hmy,hs⟩:(at_=3∨(at_=5∧M=0∧P=0))∧v=0∧many≤3∧sum<256^many:=by
   first
    |exact ⟨.inl h1,h6,h7,h8⟩
    |exact ⟨.inr ⟨h1,h2,h3⟩,h4,h5,h6⟩
  clear h1 h2 h3 h4 h5 h6
  subst h7
  have hs2:sum<16777216:=by
   have:256^many≤256^3:=Nat.pow_le_pow_right (by decide) hmy
   omega
  refine aa.ef (by omega) (aa.ef (by omega) (aa.ef (by omega) ?_))
  rw [show vm 0=0 from rfl] at h
  (with_reducible repeat first|refine Ld.xb h rfl ?_|(refine St.xs h rfl rfl fun w h=> ?_;dsimp only [aP,aq] at h))
  rw [cN (x:=256*(sum:Int)) (by omega),cN (x:=(c:Int)) (by omega),cN (by omega),ab (x:=(many:Int)+1) (by omega),show 256*(sum:Int)+(c:Int)=((256*sum+c:Nat):Int) by omega] at h
  try rw [ab (x:=(many:Int)+1) (by omega)]
  by_cases hm3:many=3
  ·subst hm3
   (with_reducible repeat first|refine Ld.xb h rfl ?_|refine Ld.xt h rfl ?_|refine ae.xw h rfl rfl fun w h=> ?_|(refine St.xs h rfl rfl fun w h=> ?_;dsimp only [aP,aq] at h)|refine aa.yes ?_)
   rw [ab (by omega)] at h
   rcases ha with rfl|⟨rfl,rfl,rfl⟩
   ·exact k2 M P (256*sum+c) _ (by unfold aC;simp) h.tl
   ·exact k3 (256*sum+c) _ (by unfold aC;simp) h.tl
  ·(with_reducible repeat first|refine Ld.xt h rfl ?_|refine ae.xw h rfl rfl fun w h=> ?_|refine aa.no ?_)
   refine k1 ⟨at_,0,M,P,256*sum+c,many+1⟩ _ ?_ ?_ ?_ h.tl
   ·unfold aC
    rcases ha with rfl|⟨rfl,rfl,rfl⟩<;>simp [hm3]
   ·dsimp only;omega
   ·dsimp only;omega
theorem Li {n:Int} {M P u:Nat} {K:Sl→Int→World→Prop} (h:Hp E w F) (hM:M≤65536) (hP:P≤65536) (hu:u<4294967296)
  (hgood:1≤n→n≤65536→1≤M→(M:Int)≤n→1≤P→P≤M→∀s w',Hp E w' (OB s (lX M P u)::F)→K s 0 w')
  (hbad: ¬(1≤n∧n≤65536∧1≤M∧(M:Int)≤n∧1≤P∧P≤M)→∀w',Hp E w' F→K ⟨none,0,0⟩ 2 w'):
  Cl Tryz.prog [kS,kI] kN ⟨[.int .i64 n,.agg ⟨[.int .i64 (M:Int),.int .i64 (P:Int),.int .u32 (u:Int)]⟩]⟩ w K:=by
 refine Ae.ok _ ((M:Int),(P:Int),(u:Int),()) _ _ ?_
 (try simp only [aO,ag,Nat.zero_add,Nat.add_zero])
 refine Nw.mk h fun b4 w h=> ?_
 refine aa.dm (fun h1=>hbad (by omega) _ h.tl) (fun h1=>aa.dm (fun h2=>hbad (by omega) _ h.tl) (fun h2=>Ld.xb h rfl (aa.dm (fun h3=>hbad (by omega) _ h.tl) (fun h3=>Ld.xb h rfl (aa.dm (fun h4=>hbad (by omega) _ h.tl) (fun h4=>Ld.xb h rfl (aa.dm (fun h5=>hbad (by omega) _ h.tl) (fun h5=>Ld.xb h rfl (Ld.xb h rfl (aa.dm (fun h6=>hbad (by omega) _ h.tl) (fun h6=> ?_)))))))))))
 refine Ld.xb h rfl (Am h hM fun s1 w h=>Ld.xb (b:=b4) h rfl (Am h hP fun s2 w h=>Nw.mk h fun b21 w h=> ?_))
 have l1:=ff hM
 have l2:=ff hP
 refine Oh (h.at 2).p1 (by omega) fun s3 w h=>pH h ad.own (by rw [List.length_cons];omega) (by omega) fun s4 w h=>Ld.xb (b:=b4) h rfl (JL h hu fun s5 w h=> ?_)
 refine pH (h.at 1) ad.own (by rw [List.length_append,List.length_cons];omega) (by simp [od]) fun s6 w h=>hgood (by omega) (by omega) (by omega) (by omega) (by omega) (by omega) s6 w ?_
 have e:1::iD M++iD P++od u=lX M P u:=by simp [lX]
 rw [e] at h
 exact h.eA
theorem S9 {S:World→Prop} {n:Nat} {st:MS} {c:Nat} {G:Nat→fq→Bool→World→Prop} (h:Hp E w F) (hn2:n≤65536) (hm:fC n st) (hc:c<256) (hS: ∀w,Hp E w F→S w)
  (hG: ∀b (r:fq) ok w,((∃m',aC n st c= .more m'∧m'.at_≠4∧m'.at_≠6∧r=((m'.at_:Int),(m'.v:Int),(vm m'.v:Int),(m'.M:Int),(m'.P:Int),(m'.sum:Int),(m'.many:Int),())∧ok=true)∨(∃M P u:Nat,aC n st c= .fin (.az M P u)∧r=(4,0,0,(M:Int),(P:Int),(u:Int),4,())∧ok=true)∨
    (∃u:Nat,aC n st c= .fin (.tail u)∧r=(6,0,0,0,0,(u:Int),4,())∧ok=true)∨(aC n st c= .bad 242∧ok=false))→
   Hp E w (af b (.cells ⟨[.int .i64 r.1,.int .i64 r.2.1,.int .i64 r.2.2.1,.int .i64 r.2.2.2.1,.int .i64 r.2.2.2.2.1,.int .u32 r.2.2.2.2.2.1,.int .i64 r.2.2.2.2.2.2.1]⟩ 102 (0,0))::F)→G b r ok w):
  (Cl Tryz.prog [.st [.int .i64,.int .i64,.int .i64,.int .i64,.int .i64,.int .u32,.int .i64],kB] fH ⟨[.int .i64 (n:Int),.agg ⟨[.int .i64 (st.at_:Int),.int .i64 (st.v:Int),.int .i64 (vm st.v:Int),.int .i64 (st.M:Int),.int .i64 (st.P:Int),.int .u32 (st.sum:Int),.int .i64 (st.many:Int)]⟩,.int .u8 (c:Int)]⟩ w fun (r:fq) ok w2=>
   S w2∧Nw 102 ⟨[.int .i64 0,.int .i64 0,.int .i64 0,.int .i64 0,.int .i64 0,.int .u32 0,.int .i64 0]⟩ w2 fun b w3=>S w3∧
    ae (⟨b,0,none⟩:Addr) [.int .i64 r.1,.int .i64 r.2.1,.int .i64 r.2.2.1,.int .i64 r.2.2.2.1,.int .i64 r.2.2.2.2.1,.int .u32 r.2.2.2.2.2.1,.int .i64 r.2.2.2.2.2.2.1] 0 w3 fun w4=>S w4∧G b r ok w4)∧
  (Nw 102 ⟨[.int .i64 0,.int .i64 0,.int .i64 0,.int .i64 0,.int .i64 0,.int .u32 0,.int .i64 0]⟩ w fun b w2=>S w2∧
   Cl Tryz.prog [.st [.int .i64,.int .i64,.int .i64,.int .i64,.int .i64,.int .u32,.int .i64],kB] fH ⟨[.int .i64 (n:Int),.agg ⟨[.int .i64 (st.at_:Int),.int .i64 (st.v:Int),.int .i64 (vm st.v:Int),.int .i64 (st.M:Int),.int .i64 (st.P:Int),.int .u32 (st.sum:Int),.int .i64 (st.many:Int)]⟩,.int .u8 (c:Int)]⟩ w2 fun (r:fq) ok w3=>S w3∧
    ae (⟨b,0,none⟩:Addr) [.int .i64 r.1,.int .i64 r.2.1,.int .i64 r.2.2.1,.int .i64 r.2.2.2.1,.int .i64 r.2.2.2.2.1,.int .u32 r.2.2.2.2.2.1,.int .i64 r.2.2.2.2.2.2.1] 0 w3 fun w4=>S w4∧G b r ok w4):=by
 have one: ∀(r:fq) (ok:Bool) (w:World),Hp E w F→((∃m',aC n st c= .more m'∧m'.at_≠4∧m'.at_≠6∧r=((m'.at_:Int),(m'.v:Int),(vm m'.v:Int),(m'.M:Int),(m'.P:Int),(m'.sum:Int),(m'.many:Int),())∧ok=true)∨(∃M P u:Nat,aC n st c= .fin (.az M P u)∧r=(4,0,0,(M:Int),(P:Int),(u:Int),4,())∧ok=true)∨
    (∃u:Nat,aC n st c= .fin (.tail u)∧r=(6,0,0,0,0,(u:Int),4,())∧ok=true)∨(aC n st c= .bad 242∧ok=false))→
   S w∧Nw 102 ⟨[.int .i64 0,.int .i64 0,.int .i64 0,.int .i64 0,.int .i64 0,.int .u32 0,.int .i64 0]⟩ w fun b w3=>S w3∧
    ae (⟨b,0,none⟩:Addr) [.int .i64 r.1,.int .i64 r.2.1,.int .i64 r.2.2.1,.int .i64 r.2.2.2.1,.int .i64 r.2.2.2.2.1,.int .u32 r.2.2.2.2.2.1,.int .i64 r.2.2.2.2.2.2.1] 0 w3 fun w4=>S w4∧G b r ok w4:=by
  intro r ok w h hr
  refine ⟨hS w h,Nw.mk h fun b w h=>⟨hS w h.tl,?_⟩⟩
  with_reducible refine ae.xw h rfl rfl (fun w h=> ?_)
  exact ⟨hS w h.tl,hG b r ok w hr h⟩
 have two: ∀(b:Nat) (r:fq) (ok:Bool) (w:World),Hp E w (af b (.cells ⟨[.int .i64 0,.int .i64 0,.int .i64 0,.int .i64 0,.int .i64 0,.int .u32 0,.int .i64 0]⟩ 102 (0,0))::F)→((∃m',aC n st c= .more m'∧m'.at_≠4∧m'.at_≠6∧r=((m'.at_:Int),(m'.v:Int),(vm m'.v:Int),(m'.M:Int),(m'.P:Int),(m'.sum:Int),(m'.many:Int),())∧ok=true)∨(∃M P u:Nat,aC n st c= .fin (.az M P u)∧r=(4,0,0,(M:Int),(P:Int),(u:Int),4,())∧ok=true)∨
    (∃u:Nat,aC n st c= .fin (.tail u)∧r=(6,0,0,0,0,(u:Int),4,())∧ok=true)∨(aC n st c= .bad 242∧ok=false))→
   S w∧ae (⟨b,0,none⟩:Addr) [.int .i64 r.1,.int .i64 r.2.1,.int .i64 r.2.2.1,.int .i64 r.2.2.2.1,.int .i64 r.2.2.2.2.1,.int .u32 r.2.2.2.2.2.1,.int .i64 r.2.2.2.2.2.2.1] 0 w fun w4=>S w4∧G b r ok w4:=by
  intro b r ok w h hr
  refine ⟨hS w h.tl,?_⟩
  with_reducible refine ae.xw h rfl rfl (fun w h=> ?_)
  exact ⟨hS w h.tl,hG b r ok w hr h⟩
 refine ⟨CU h hn2 hm hc ⟨fun m' w h1 h2 h3 h=>one ((m'.at_:Int),(m'.v:Int),(vm m'.v:Int),(m'.M:Int),(m'.P:Int),(m'.sum:Int),(m'.many:Int),()) true w h (.inl ⟨m',h1,h2,h3,rfl,rfl⟩),fun M P u w h1 h=>one (4,0,0,(M:Int),(P:Int),(u:Int),4,()) true w h (.inr (.inl ⟨M,P,u,h1,rfl,rfl⟩)),fun u w h1 h=>one (6,0,0,0,0,(u:Int),4,()) true w h (.inr (.inr (.inl ⟨u,h1,rfl,rfl⟩))),fun e o w h1 h2 h=>one o false w h (.inr (.inr (.inr ⟨h2▸h1,rfl⟩)))⟩,?_⟩
 exact Nw.mk h fun b w h=>⟨hS w h.tl,CU h hn2 hm hc ⟨fun m' w h1 h2 h3 h=>two b ((m'.at_:Int),(m'.v:Int),(vm m'.v:Int),(m'.M:Int),(m'.P:Int),(m'.sum:Int),(m'.many:Int),()) true w h (.inl ⟨m',h1,h2,h3,rfl,rfl⟩),fun M P u w h1 h=>two b (4,0,0,(M:Int),(P:Int),(u:Int),4,()) true w h (.inr (.inl ⟨M,P,u,h1,rfl,rfl⟩)),fun u w h1 h=>two b (6,0,0,0,0,(u:Int),4,()) true w h (.inr (.inr (.inl ⟨u,h1,rfl,rfl⟩))),fun e o w h1 h2 h=>two b o false w h (.inr (.inr (.inr ⟨h2▸h1,rfl⟩)))⟩⟩
theorem tQ {S:World→Prop} {s:Sl} {bs:List Nat} {k:Nat} {G:Sl→World→Prop} (h:Hp E w F) (hs:ad F (aH 1 s (bs.map vB))) (hbig:bs.length≤10000000000) (hcap:s.len≤s.cap) (hk:k<bs.length) (hS: ∀w,Hp E w F→S w)
  (hG: ∀s' w',Hp E w' (OB s' (bs.drop (k+1))::F)→G s' w'):
  bj s (i64 ((k:Int)+1)) (s.len:Int) (s.cap:Int) 1 fun s2=>Nw 5 ⟨[]⟩ w fun b w2=>S w2∧
   ar Tryz.prog (Builtin.append_ #[26,26] 26 ⟨[.slice (some ⟨b,0,none⟩) 0 0,.slice s2.base s2.len s2.cap]⟩) kS w2 fun (s3:Sl) w3=>S w3∧G s3 w3:=by
 have hlen:bs.length=s.len:=lB (h.aj hs)
 rw [ab (by omega)]
 refine bj.rd (h.aj hs) (by omega) (by omega) (by omega) (by omega) (by omega) fun s' hs' hl'=> ?_
 have e1:(bs.map vB).drop ((k:Int)+1).toNat=(bs.drop (k+1)).map vB:=by rw [show ((k:Int)+1).toNat=k+1 by omega,List.map_drop]
 rw [e1,List.take_of_length_le (by simp;omega)] at hs'
 have hT:ad F (aH 1 s' ((bs.drop (k+1)).map vB)):=hs.imp fun w h=>hs' w h
 refine Nw.mk h fun b w h=>⟨hS w h.tl,?_⟩
 have h:=Hp.fS (n:=0) (sz:=1) h rfl
 have h:Hp E w (OB ⟨some ⟨b,0,none⟩,0,0⟩ []::F):=h
 have l2:(bs.drop (k+1)).length≤1000000000000:=by rw [List.length_drop];omega
 have key:=fun (K':Sl→World→Prop)=>pH (s:=⟨some ⟨b,0,none⟩,0,0⟩) (xs:= []) (ys:=bs.drop (k+1)) (K:=K') h hT (Nat.zero_le _) l2
 exact key _ fun s3 w h=>⟨hS w h.tl,hG s3 w h⟩
theorem F5 {n:Int} {s:Sl} {K:fq→Sl→Int→World→Prop} (h:Hp E w F) (hn: ¬(1≤n∧n≤65536)) (hK: ∀w',Hp E w' F→K QY ⟨none,0,0⟩ 2 w'):
  Cl Tryz.prog [.st [.int .i64,.int .i64,.int .i64,.int .i64,.int .i64,.int .u32,.int .i64],kS,kI] fh ⟨[.int .i64 n,.slice s.base s.len s.cap]⟩ w K:=by
 refine rS.ok _ _ _ _ ?_
 (try simp only [aO,ag,Nat.add_zero])
 refine Nw.mk h fun b w h=>aa.dm (fun h1=> ?_) (fun h1=>aa.dt (by omega) ?_)
 ·(with_reducible repeat first|refine Ld.xt h rfl ?_|refine ae.xw h rfl rfl fun w h=> ?_)
  exact hK w h.tl
 ·(with_reducible repeat first|refine Ld.xt h rfl ?_|refine ae.xw h rfl rfl fun w h=> ?_)
  exact hK w h.tl
theorem CN {n:Nat} {s:Sl} {bs:List Nat} {K:fq→Sl→Int→World→Prop} (h:Hp E w F) (hn:1≤n) (hn2:n≤65536) (hs:ad F (aH 1 s (bs.map vB))) (hb: ∀y∈bs,y<256) (hbig:bs.length≤10000000000) (hcap:s.len≤s.cap)
  (hshort: ∀s' w',run (aC n) cI bs= .short s'→Hp E w' F→K QY ⟨none,0,0⟩ 50 w')
  (hbad: ∀w',run (aC n) cI bs= .bad 242→Hp E w' F→K QY ⟨none,0,0⟩ 242 w')
  (hblk: ∀M P u r s' w',run (aC n) cI bs= .fin (.az M P u) r→Hp E w' (OB s' r::F)→K (4,0,0,(M:Int),(P:Int),(u:Int),4,()) s' 0 w')
  (htail: ∀u r s' w',run (aC n) cI bs= .fin (.tail u) r→Hp E w' (OB s' r::F)→K (6,0,0,0,0,(u:Int),4,()) s' 0 w'):
  Cl Tryz.prog [.st [.int .i64,.int .i64,.int .i64,.int .i64,.int .i64,.int .u32,.int .i64],kS,kI] fh ⟨[.int .i64 (n:Int),.slice s.base s.len s.cap]⟩ w K:=by
 refine rS.ok _ _ _ _ ?_
 (try simp only [aO,ag,Nat.add_zero])
 have hlen:bs.length=s.len:=lB (h.aj hs)
 refine Nw.mk h fun b4 w h=>aa.df (by omega) (aa.df (by omega) (Nw.mk h fun b12 w h=> ?_))
 refine ⟨fun i w'=> ∃(k:Nat) (st:MS),i=(k:Int)∧k≤bs.length∧fC n st∧run (aC n) cI (bs.take k)= .short st∧
  Hp E w' (af b12 (.cells ⟨[.int .i64 (st.at_:Int),.int .i64 (st.v:Int),.int .i64 (vm st.v:Int),.int .i64 (st.M:Int),.int .i64 (st.P:Int),.int .u32 (st.sum:Int),.int .i64 (st.many:Int)]⟩ 102 (0,0))::af b4 (.cells ⟨[.int .i64 0,.int .i64 0,.int .i64 0,.int .i64 0,.int .i64 0,.int .u32 0,.int .i64 0]⟩ 102 (0,0))::F),
  fun i _=>bs.length - i.toNat,⟨0,cI,rfl,by omega,.inl ⟨rfl,rfl⟩,rfl,h⟩,?_⟩
 rintro i w ⟨k,st,rfl,hk,hst,hrun,h⟩
 refine aa.dm (fun hlt=> ?_) (fun hge=> ?_)
 ·have hlt:k<bs.length:=by omega
  have hby:bs[k]<256:=hb _ (List.getElem_mem _)
  have h:=h.drew (n:=w.drawn+1)
  refine ⟨fun w=>br b12 ⟨[.int .i64 (st.at_:Int),.int .i64 (st.v:Int),.int .i64 (vm st.v:Int),.int .i64 (st.M:Int),.int .i64 (st.P:Int),.int .u32 (st.sum:Int),.int .i64 (st.many:Int)]⟩ 102 (0,0) w∧aH 1 s (bs.map vB) w,⟨h.hb,h.tl.aj hs⟩,aw.xt (fun _ h=>h.1) rfl (ay.EI (h.tl.aj hs) (fun _ h=>h.2) rfl (by simpa using hlt) (bs[k]:Int) (by simp [Sc.enc,vB,hlt]) ?_)⟩
  refine S9 h hn2 hst hby (fun w h=>⟨h.hb,(h.tl:Hp E _ F).aj hs⟩) fun b r ok w hr h=> ?_
  rcases hr with ⟨m',he,h4,h6,rfl,rfl⟩|⟨M,P,u,he,rfl,rfl⟩|⟨u,he,rfl,rfl⟩|⟨he,rfl⟩
  ·dsimp only at h⊢
   (with_reducible repeat first|refine Ld.xb h rfl ?_|refine Ld.xt h rfl ?_|refine ae.xw h rfl rfl fun w h=> ?_|refine aa.no ?_)
   rw [ab (by omega)]
   refine ⟨⟨k+1,m',rfl,by omega,oX hst hby he,?_,h.no 0⟩,by first|omega|(dsimp only;omega)⟩
   rw [List.take_add_one,List.getElem?_eq_getElem hlt]
   show run (aC n) cI (bs.take k++ [bs[k]])=_
   rw [eV hrun,cw he];rfl
  ·(with_reducible repeat first|refine Ld.xb h rfl ?_|refine Ld.xt h rfl ?_|refine ae.xw h rfl rfl fun w h=> ?_|refine aa.no ?_|refine aa.yes ?_)
   have h:=h.drew (n:=w.drawn+1)
   refine ⟨br b12 _ _ _,h.hb,aw.xt (fun _ h=>h) rfl (tQ h (ad.cons (ad.cons (ad.cons hs))) hbig hcap hlt (fun w h=>h.hb) fun s' w h=> ?_)⟩
   (with_reducible repeat first|refine Ld.xt h rfl ?_|refine ⟨h.hb,?_⟩|refine ae.xw h rfl rfl fun w h=> ?_)
   refine hblk M P u (bs.drop (k+1)) s' w ?_ h.eA
   rw [wZ hrun,List.drop_eq_getElem_cons hlt,oH he]
  ·(with_reducible repeat first|refine Ld.xb h rfl ?_|refine Ld.xt h rfl ?_|refine ae.xw h rfl rfl fun w h=> ?_|refine aa.no ?_|refine aa.yes ?_)
   have h:=h.drew (n:=w.drawn+1)
   refine ⟨br b12 _ _ _,h.hb,aw.xt (fun _ h=>h) rfl (tQ h (ad.cons (ad.cons (ad.cons hs))) hbig hcap hlt (fun w h=>h.hb) fun s' w h=> ?_)⟩
   (with_reducible repeat first|refine Ld.xt h rfl ?_|refine ⟨h.hb,?_⟩|refine ae.xw h rfl rfl fun w h=> ?_)
   refine htail u (bs.drop (k+1)) s' w ?_ h.eA
   rw [wZ hrun,List.drop_eq_getElem_cons hlt,oH he]
  ·(with_reducible repeat first|refine Ld.xt h rfl ?_|refine ae.xw h rfl rfl fun w h=> ?_|refine aa.yes ?_)
   refine hbad w ?_ h.tl
   rw [wZ hrun,List.drop_eq_getElem_cons hlt,Gt he]
 ·have hk2:k=bs.length:=by omega
  subst hk2
  rw [List.take_of_length_le (Nat.le_refl _)] at hrun
  (with_reducible repeat first|refine Ld.xt h rfl ?_|refine ae.xw h rfl rfl fun w h=> ?_)
  exact hshort st w hrun h.tl
end
end Go.Proofs.YtgglghjnakclmaaGreat
namespace Go.Proofs.YtgglghjnakclmaaGreat
open Go Go.Vc
set_option maxRecDepth 100000
theorem Nz.ok (a:Sl) (R:(Array Value)→Int→World→Prop) w (h:
 Nw 215 ⟨List.replicate 258 (ni 0)⟩ w fun c b=>
 bP Pg 215 [] fun d=>
 Cl Pg [(.arr 258),kI] rE ⟨[(.agg d),(an a)]⟩ b fun f (g:Int) e=>
 ak 258 ⟨c,0,none⟩ f e fun h=>
 Ld (.arr 258) ⟨c,0,none⟩ h fun i=>
 R i g h):Cl Pg [(.arr 258),kI] tF ⟨[(an a)]⟩ w R:=co Tryz.f180 [] h
theorem Kk.ok (a:(Array Value)) (b:Sl) (R:(Array Value)→Int→World→Prop) w (h:
 Nw 215 a w fun d c=>
 Nw 215 ⟨List.replicate 258 (ni 0)⟩ c fun f e=>
 Ld (.arr 258) ⟨d,0,none⟩ e fun g=>
 Cl Pg [kB] ko ⟨[(.agg g)]⟩ e fun (i:Bool) h=>
 aa (!i)
 (Ld (.arr 258) ⟨d,0,none⟩ h fun j=>
 ak 258 ⟨f,0,none⟩ j h fun k=>
 Ld (.arr 258) ⟨f,0,none⟩ k fun l=>
 R l 2 k)
 (Ld (.arr 258) ⟨d,0,none⟩ h fun m=>
 Nw 215 ⟨List.replicate 258 (ni 0)⟩ h fun o n=>
 ak 258 ⟨o,0,none⟩ m n fun p=>
 ee 0 p fun q r (s:Int) t=>
 aa (decide (s<(b.len:Int)))
 (ay b s 1 fun u=>
 Ld kI u t fun (v:Int)=>
 aa (decide (v<0))
 (Ld (.arr 258) ⟨d,0,none⟩ t fun x=>
 ak 258 ⟨f,0,none⟩ x t fun y=>
 Ld (.arr 258) ⟨f,0,none⟩ y fun z=>
 R z 2 y)
 (ay b s 1 fun a1=>
 Ld kI a1 t fun (b1:Int)=>
 aa (decide (b1≥258))
 (Ld (.arr 258) ⟨d,0,none⟩ t fun c1=>
 ak 258 ⟨f,0,none⟩ c1 t fun d1=>
 Ld (.arr 258) ⟨f,0,none⟩ d1 fun e1=>
 R e1 2 d1)
 (ay b s 1 fun f1=>
 Ld kI f1 t fun (g1:Int)=>
 au ⟨o,0,none⟩ 258 g1 1 fun h1=>
 Ld kI h1 t fun (i1:Int)=>
 au ⟨o,0,none⟩ 258 g1 1 fun j1=>
 St j1 (ni (i64 (i1+1))) t fun k1=>
 q (i64 (s+1)) k1∧r (i64 (s+1)) k1<r s t)))
 (Ld (.arr 258) ⟨o,0,none⟩ t fun l1=>
 Cl Pg [kB] ko ⟨[(.agg l1)]⟩ t fun (n1:Bool) m1=>
 aa (!n1)
 (Ld (.arr 258) ⟨d,0,none⟩ m1 fun o1=>
 ak 258 ⟨f,0,none⟩ o1 m1 fun p1=>
 Ld (.arr 258) ⟨f,0,none⟩ p1 fun q1=>
 R q1 2 p1)
 (Ld (.arr 258) ⟨o,0,none⟩ m1 fun r1=>
 ak 258 ⟨f,0,none⟩ r1 m1 fun s1=>
 Ld (.arr 258) ⟨f,0,none⟩ s1 fun t1=>
 R t1 0 s1)))):Cl Pg [(.arr 258),kI] rE ⟨[(.agg a),(an b)]⟩ w R:=co Tryz.f241 [(12,[(7,kI)])] h
theorem Fp.ok (a:(Array Value)) (R:Bool→World→Prop) w (h:
 Nw 215 a w fun c b=>
 ee 0 b fun d e (f:Int) g=>
 aa (decide (f<258))
 (au ⟨c,0,none⟩ 258 f 1 fun h=>
 Ld kI h g fun (i:Int)=>
 aa (decide (i<0))
 (R false g)
 (au ⟨c,0,none⟩ 258 f 1 fun j=>
 Ld kI j g fun (k:Int)=>
 aa (decide (k>2147483647))
 (R false g)
 (d (i64 (f+1)) g∧e (i64 (f+1)) g<e f g)))
 (R true g)):Cl Pg [kB] ko ⟨[(.agg a)]⟩ w R:=co Tryz.f293 [(5,[(3,kI)])] h
end Go.Proofs.YtgglghjnakclmaaGreat
