/- Texts packed together by program; spaces struck by program. Conditions: as each theorem states. -/
import Derived.Test.YtgglghjnakclmaaGreatQcc
set_option linter.unusedSimpArgs false
set_option linter.unusedVariables false
namespace Go.Pm
abbrev It:=Nat×Bool
def ll (l:List It):Nat:=(l.map (·.1)).sum
def aB (l:List It):Nat:=(l.filter (·.2)).length
def Up (l:List It):Prop:=l.Pairwise fun a b=>a.1≤b.1
def aU:List It→List It
 |a::b::l=>(a.1+b.1,false)::aU l
 |_=> []
def bE (A:List It):List It→List It
 | []=>A
 |p::B=>A.takeWhile (fun a=>decide (a.1≤p.1))++p::bE (A.dropWhile fun a=>decide (a.1≤p.1)) B
theorem mO {A:List It}:bE A []=A:=rfl
theorem jI: ∀{B:List It},bE [] B=B
 | []=>rfl
 |p::B=>by simp [bE,jI]
theorem pJ {a p:It} {A B:List It} (h:a.1≤p.1):bE (a::A) (p::B)=a::bE A (p::B):=by simp [bE,h]
theorem py {a p:It} {A B:List It} (h: ¬a.1≤p.1):bE (a::A) (p::B)=p::bE (a::A) B:=by simp [bE,h]
theorem mK {P:List It→List It→Prop} (h1: ∀B,P [] B) (h2: ∀a A,P (a::A) []) (h3: ∀a A p B,a.1≤p.1→P A (p::B)→P (a::A) (p::B)) (h4: ∀a A p B,¬a.1≤p.1→P (a::A) B→P (a::A) (p::B)):
  ∀A B,P A B
 | [],B=>h1 B
 |a::A,[]=>h2 a A
 |a::A,p::B=>if h:a.1≤p.1 then h3 a A p B h (mK h1 h2 h3 h4 A (p::B)) else h4 a A p B h (mK h1 h2 h3 h4 (a::A) B)
theorem kR: ∀A B,(bE A B).Perm (A++B):=by
 refine mK (fun B=>by rw [jI];exact .refl _) (fun a A=>by rw [mO];simp) (fun a A p B h ih=> ?_) (fun a A p B h ih=> ?_)
 ·rw [pJ h];exact ih.cons a
 ·rw [py h]
  exact (ih.cons p).trans (List.perm_middle.symm)
theorem wT (A B:List It):(bE A B).length=A.length+B.length:=by rw [(kR A B).length_eq,List.length_append]
theorem EP: ∀A B,Up A→Up B→Up (bE A B):=by
 refine mK (fun B _ h=>by rw [jI];exact h) (fun a A h _=>by rw [mO];exact h) (fun a A p B h ih hA hB=> ?_) (fun a A p B h ih hA hB=> ?_)
 ·rw [pJ h]
  refine List.pairwise_cons.2 ⟨fun x hx=> ?_,ih (List.pairwise_cons.1 hA).2 hB⟩
  rcases List.mem_append.1 ((kR _ _).mem_iff.1 hx) with hx|hx
  ·exact (List.pairwise_cons.1 hA).1 x hx
  ·rcases List.mem_cons.1 hx with rfl|hx
   ·exact h
   ·exact Nat.le_trans h ((List.pairwise_cons.1 hB).1 x hx)
 ·rw [py h]
  refine List.pairwise_cons.2 ⟨fun x hx=> ?_,ih hA (List.pairwise_cons.1 hB).2⟩
  rcases List.mem_append.1 ((kR _ _).mem_iff.1 hx) with hx|hx
  ·rcases List.mem_cons.1 hx with rfl|hx
   ·omega
   ·have:=(List.pairwise_cons.1 hA).1 x hx;omega
  ·exact (List.pairwise_cons.1 hB).1 x hx
theorem Cd: ∀A B,Up A→∀m,m≤A.length+B.length→∃a b,a+b=m∧a≤A.length∧b≤B.length∧((bE A B).take m).Perm (A.take a++B.take b)∧∀x∈B.take b,∀y∈A.drop a,x.1<y.1:=by
 refine mK (fun B _ m hm=> ?_) (fun a A _ m hm=> ?_) (fun a A p B h ih hA m hm=> ?_) (fun a A p B h ih hA m hm=> ?_)
 ·exact ⟨0,m,by omega,Nat.le_refl _,by simpa using hm,by rw [jI];simp,by simp⟩
 ·exact ⟨m,0,rfl,by simpa using hm,Nat.le_refl _,by rw [mO];simp,by simp⟩
 ·cases m with
  |zero=>exact ⟨0,0,rfl,Nat.zero_le _,Nat.zero_le _,by simp,by simp⟩
  |succ m=>
   obtain ⟨x,y,h1,h2,h3,h4,h5⟩:=ih (List.pairwise_cons.1 hA).2 m (by simp at hm⊢;omega)
   refine ⟨x+1,y,by omega,by simpa using h2,h3,?_,by simpa using h5⟩
   rw [pJ h,List.take_succ_cons,List.take_succ_cons]
   exact h4.cons a
 ·cases m with
  |zero=>exact ⟨0,0,rfl,Nat.zero_le _,Nat.zero_le _,by simp,by simp⟩
  |succ m=>
   obtain ⟨x,y,h1,h2,h3,h4,h5⟩:=ih hA m (by simp at hm⊢;omega)
   refine ⟨x,y+1,by omega,h2,by simpa using h3,?_,?_⟩
   ·rw [py h,List.take_succ_cons,List.take_succ_cons]
    exact (h4.cons p).trans List.perm_middle.symm
   ·intro u hu v hv
    rw [List.take_succ_cons] at hu
    rcases List.mem_cons.1 hu with rfl|hu
    ·have hv:v∈a::A:=List.mem_of_mem_drop hv
     rcases List.mem_cons.1 hv with rfl|hv
     ·omega
     ·have:=(List.pairwise_cons.1 hA).1 v hv;omega
    ·exact h5 u hu v hv
theorem tP (a:It) (l:List It):ll (a::l)=a.1+ll l:=by simp [ll]
theorem CE (l l':List It):ll (l++l')=ll l+ll l':=by simp [ll]
theorem Gw {l l':List It} (h:l.Perm l'):ll l=ll l':=(h.map _).sum_nat
theorem nQ (l l':List It):aB (l++l')=aB l+aB l':=by simp [aB]
theorem vL {l l':List It} (h:l.Perm l'):aB l=aB l':=(h.filter _).length_eq
theorem dY: ∀l:List It,(aU l).length=l.length/2
 | []=>rfl
 | [_]=>by simp [aU]
 |_::_::l=>by
  simp only [aU,List.length_cons,dY l];omega
theorem ml: ∀(l:List It) (x:It),x∈aU l→x.2=false
 | [],_,h=>by simp [aU] at h
 | [_],_,h=>by simp [aU] at h
 |a::b::l,x,h=>by
  rw [aU] at h
  rcases List.mem_cons.1 h with rfl|h
  ·rfl
  ·exact ml l x h
theorem vb: ∀(l:List It) (b:Nat),2*b≤l.length→ll ((aU l).take b)=ll (l.take (2*b))
 |_,0,_=>by simp [ll]
 | [],b+1,h=>by simp at h
 | [_],b+1,h=>by simp only [List.length_singleton] at h;omega
 |x::y::l,b+1,h=>by
  rw [aU,List.take_succ_cons,tP,show 2*(b+1)=(2*b+1)+1 by omega,List.take_succ_cons,List.take_succ_cons,tP,tP,vb l b (by simp only [List.length_cons] at h;omega)]
  omega
theorem Aa: ∀(l:List It) (b:Nat) (x:It),2*b≤l.length→x∈l.take (2*b)→∃p∈(aU l).take b,x.1≤p.1
 |_,0,_,_,h=>by simp at h
 | [],b+1,_,h,_=>by simp at h
 | [_],b+1,_,h,_=>by simp only [List.length_singleton] at h;omega
 |u::v::l,b+1,x,h,hx=>by
  rw [show 2*(b+1)=(2*b+1)+1 by omega,List.take_succ_cons,List.take_succ_cons] at hx
  rw [aU,List.take_succ_cons]
  rcases List.mem_cons.1 hx with rfl|hx
  ·exact ⟨_,List.mem_cons_self,by simp⟩
  ·rcases List.mem_cons.1 hx with rfl|hx
   ·exact ⟨_,List.mem_cons_self,by simp⟩
   ·obtain ⟨p,hp,hl⟩:=Aa l b x (by simp only [List.length_cons] at h;omega) hx
    exact ⟨p,List.mem_cons_of_mem _ hp,hl⟩
theorem tI: ∀l:List It,Up l→Up (aU l)
 | [],_=>List.Pairwise.nil
 | [_],_=>List.Pairwise.nil
 |a::b::l,h=>by
  obtain ⟨h1,h2⟩:=List.pairwise_cons.1 h
  obtain ⟨h3,h4⟩:=List.pairwise_cons.1 h2
  refine List.pairwise_cons.2 ⟨fun p hp=> ?_,tI l h4⟩
  have: ∀(l:List It),(∀x∈l,a.1≤x.1∧b.1≤x.1)→∀p∈aU l,a.1+b.1≤p.1:=by
   intro l
   induction l using aU.induct with
   |case1 u v l ih=>
    intro hx p hp
    rw [aU] at hp
    rcases List.mem_cons.1 hp with rfl|hp
    ·have:=hx u (by simp);have:=hx v (by simp);simp only;omega
    ·exact ih (fun x hx'=>hx x (by simp [hx'])) p hp
   |case2 l hl=>intro _ p hp;rw [aU] at hp
                ·simp at hp
                ·exact hl
  exact this l (fun x hx=>⟨h1 x (List.mem_cons_of_mem _ hx),h3 x hx⟩) p hp
def bx (ws:List Nat):List It:=ws.map fun w=>(w,true)
def row (ws:List Nat):Nat→List It
 |0=>bx ws
 |k+1=>bE (bx ws) (aU (row ws k))
def mW (ws:List Nat):Prop:=ws.Pairwise (·≤·)
theorem rp {ws:List Nat} (h:mW ws):Up (bx ws):=List.Pairwise.map _ (fun _ _ h=>h) h
theorem EF {ws:List Nat} (h:mW ws): ∀k,Up (row ws k)
 |0=>rp h
 |k+1=>EP _ _ (rp h) (tI _ (EF h k))
theorem cg (ws:List Nat):(bx ws).length=ws.length:=List.length_map _
theorem sv (ws:List Nat) (k:Nat):(row ws (k+1)).length=ws.length+(row ws k).length/2:=by rw [row,wT,cg,dY]
theorem Cn (ws:List Nat):ll (bx ws)=ws.sum:=by
 unfold ll bx
 rw [List.map_map]
 congr 1
 exact List.map_id _
theorem kT (ws:List Nat) (a:Nat):(bx ws).take a=bx (ws.take a):=List.map_take.symm
theorem n9 (ws:List Nat):aB (bx ws)=ws.length:=by
 unfold aB bx
 rw [List.filter_eq_self.2]
 ·simp
 ·intro x hx;obtain ⟨w,_,rfl⟩:=List.mem_map.1 hx;rfl
theorem zZ {l:List It} (h: ∀x∈l,x.2=false):aB l=0:=by
 unfold aB
 rw [List.length_eq_zero_iff,List.filter_eq_nil_iff]
 intro x hx;simp [h x hx]
theorem qC {ws:List Nat}: ∀k,ws.length≤2^(k+1)→2*ws.length - 2≤(row ws k).length:=by
 have key: ∀k c,2^k*c≥ws.length→1≤c→2*ws.length≤(row ws k).length+c:=by
  intro k
  induction k with
  |zero=>intro c h _;simp only [row,cg];omega
  |succ k ih=>
   intro c h hc
   have:=ih (2*c) (by rw [Nat.pow_succ] at h;rw [←Nat.mul_assoc];exact h) (by omega)
   rw [sv];omega
 intro k h
 have:=key k 2 (by rw [Nat.pow_succ] at h;exact h) (by omega)
 omega
theorem jC {ws:List Nat} (h:mW ws) (k m:Nat) (hm:m≤(row ws (k+1)).length):aB ((row ws (k+1)).take m)≤m∧aB ((row ws (k+1)).take m)≤ws.length∧2*(m - aB ((row ws (k+1)).take m))≤(row ws k).length∧
  ll ((row ws (k+1)).take m)=(ws.take (aB ((row ws (k+1)).take m))).sum+ll ((row ws k).take (2*(m - aB ((row ws (k+1)).take m))))∧
  (∀x∈(row ws k).take (2*(m - aB ((row ws (k+1)).take m))),∀y∈ws.drop (aB ((row ws (k+1)).take m)),x.1<y):=by
 have hl:=sv ws k
 obtain ⟨a,b,h1,h2,h3,h4,h5⟩:=Cd (bx ws) (aU (row ws k)) (rp h) m (by rw [cg,dY,←hl];exact hm)
 rw [cg] at h2
 rw [dY] at h3
 have hlf:aB ((row ws (k+1)).take m)=a:=by
  rw [row,vL h4,nQ,kT,n9,zZ fun x hx=>ml _ x (List.mem_of_mem_take hx),List.length_take]
  omega
 rw [hlf]
 have hb:m - a=b:=by omega
 rw [hb]
 refine ⟨by omega,h2,by omega,?_,?_⟩
 ·rw [row,Gw h4,CE,kT,Cn,vb _ _ (by omega)]
 ·intro x hx y hy
  obtain ⟨p,hp,hxp⟩:=Aa _ _ _ (by omega) hx
  have:=h5 p hp (y,true) (by
   unfold bx
   rw [←List.map_drop]
   exact List.mem_map_of_mem hy)
  exact Nat.lt_of_le_of_lt hxp this
theorem nN {ws:List Nat} (m:Nat) (hm:m≤ws.length):aB ((row ws 0).take m)=m∧ll ((row ws 0).take m)=(ws.take m).sum:=by
 rw [row,kT]
 exact ⟨by rw [n9,List.length_take];omega,Cn _⟩
def whole (ws:List Nat) (k m:Nat):Nat:=aB ((row ws k).take m)
def lv (ws:List Nat):Nat→Nat→Nat→Nat
 |0,m,i=>if i<whole ws 0 m then 1 else 0
 |k+1,m,i=>(if i<whole ws (k+1) m then 1 else 0)+lv ws k (2*(m - whole ws (k+1) m)) i
theorem nested {ws:List Nat} (h:mW ws) (k m:Nat) (hm:m≤(row ws (k+1)).length):whole ws k (2*(m - whole ws (k+1) m))≤whole ws (k+1) m:=by
 obtain ⟨c1,c2,c3,c4,c5⟩:=jC h k m hm
 generalize hq:whole ws (k+1) m=a
 unfold whole at hq
 rw [hq] at c1 c2 c3 c4 c5
 rcases Nat.lt_or_ge a (whole ws k (2*(m - a))) with hlt|hge
 ·exfalso
  have hmem: ∀i,i<whole ws k (2*(m - a))→∃(hi:i<ws.length),(ws[i],true)∈(row ws k).take (2*(m - a)):=by
   cases k with
   |zero=>
    intro i hi
    have e0:=nN (ws:=ws) (2*(m - a)) (by rw [row,cg] at c3;exact c3)
    unfold whole at hi
    rw [e0.1] at hi
    rw [row,cg] at c3
    refine ⟨by omega,?_⟩
    rw [row,kT]
    unfold bx
    refine List.mem_map_of_mem ?_
    rw [List.mem_iff_getElem]
    exact ⟨i,by rw [List.length_take];omega,by simp⟩
   |succ k=>
    intro i hi
    obtain ⟨a',b',h1,h2,h3,h4,h5⟩:=Cd (bx ws) (aU (row ws k)) (rp h) (2*(m - a)) (by rw [cg,dY,←sv];exact c3)
    rw [cg] at h2
    have hlf:whole ws (k+1) (2*(m - a))=a':=by
     unfold whole
     rw [row,vL h4,nQ,kT,n9,zZ fun x hx=>ml _ x (List.mem_of_mem_take hx),List.length_take]
     omega
    rw [hlf] at hi
    refine ⟨by omega,?_⟩
    rw [row,h4.mem_iff,List.mem_append]
    left
    rw [kT]
    unfold bx
    refine List.mem_map_of_mem ?_
    rw [List.mem_iff_getElem]
    exact ⟨i,by rw [List.length_take];omega,by simp⟩
  obtain ⟨hi,hx⟩:=hmem a hlt
  have:=c5 _ hx ws[a] (by rw [List.mem_iff_getElem];exact ⟨0,by rw [List.length_drop];omega,by simp⟩)
  simp at this
 ·exact hge
theorem wV {ws:List Nat} (h:mW ws): ∀(k m i:Nat),m≤(row ws k).length→whole ws k m≤i→lv ws k m i=0
 |0,m,i,_,hi=>by unfold lv;rw [if_neg (by omega)]
 |k+1,m,i,hm,hi=>by
  have hn:=nested h k m hm
  unfold lv
  rw [if_neg (by omega),Nat.zero_add]
  exact wV h k _ i (jC h k m hm).2.2.1 (by omega)
theorem vT (ws:List Nat): ∀(k m i:Nat),lv ws k m i≤k+1
 |0,m,i=>by unfold lv;split<;>omega
 |k+1,m,i=>by
  have:=vT ws k (2*(m - whole ws (k+1) m)) i
  unfold lv;split<;>omega
def aJ (n:Nat) (f:Nat→Nat):Nat:=((List.range n).map f).sum
theorem bN (n:Nat) (f:Nat→Nat):aJ (n+1) f=aJ n f+f n:=by
 unfold aJ
 rw [List.range_succ,List.map_append,List.sum_append];simp
theorem zK (n:Nat) (f g:Nat→Nat):aJ n (fun i=>f i+g i)=aJ n f+aJ n g:=by
 induction n with
 |zero=>rfl
 |succ n ih=>rw [bN,bN,bN,ih];omega
theorem my {n:Nat} {f g:Nat→Nat} (h: ∀i,i<n→f i=g i):aJ n f=aJ n g:=by
 unfold aJ
 congr 1
 exact List.map_congr_left fun i hi=>h i (List.mem_range.1 hi)
theorem CI (n c:Nat):aJ n (fun _=>c)=n*c:=by
 induction n with
 |zero=>simp [aJ]
 |succ n ih=>rw [bN,ih,Nat.succ_mul]
theorem GH (n c:Nat) (f:Nat→Nat):aJ n (fun i=>c*f i)=c*aJ n f:=by
 induction n with
 |zero=>rfl
 |succ n ih=>rw [bN,bN,ih,Nat.mul_add]
theorem vw (n a:Nat) (ha:a≤n) (c:Nat):aJ n (fun i=>(if i<a then 1 else 0)*c)=a*c:=by
 have key: ∀n,aJ n (fun i=>(if i<a then 1 else 0)*c)=min n a*c:=by
  intro n
  induction n with
  |zero=>simp [aJ]
  |succ n ih=>
   rw [bN,ih]
   by_cases hna:n<a
   ·rw [if_pos hna,Nat.min_eq_left (by omega),Nat.min_eq_left (by omega),Nat.one_mul,Nat.succ_mul]
   ·rw [if_neg hna,Nat.min_eq_right (by omega),Nat.min_eq_right (by omega)];simp
 rw [key,Nat.min_eq_right ha]
def lw (ws:List Nat):Nat→Nat→Nat→Nat
 |0,m,i=>if i<whole ws 0 m then 1 else 0
 |k+1,m,i=>(if i<whole ws (k+1) m then 1 else 0)*2^(k+1)+lw ws k (2*(m - whole ws (k+1) m)) i
theorem DL {ws:List Nat} (h:mW ws): ∀(k m:Nat),m≤(row ws k).length→aJ ws.length (lw ws k m)=m*2^k
 |0,m,hm=>by
  have hm':m≤ws.length:=by rw [row,cg] at hm;exact hm
  have e:=nN (ws:=ws) m hm'
  have:=vw ws.length m hm' 1
  have e2:aJ ws.length (lw ws 0 m)=aJ ws.length (fun i=>(if i<m then 1 else 0)*1):=my fun i _=>by
   unfold lw whole
   rw [e.1,Nat.mul_one]
  rw [e2,this]
 |k+1,m,hm=>by
  obtain ⟨c1,c2,c3,c4,c5⟩:=jC h k m hm
  have ih:=DL h k (2*(m - whole ws (k+1) m)) c3
  have e:aJ ws.length (lw ws (k+1) m)=aJ ws.length (fun i=>(if i<whole ws (k+1) m then 1 else 0)*2^(k+1)+lw ws k (2*(m - whole ws (k+1) m)) i):=rfl
  have c1':whole ws (k+1) m≤m:=c1
  have c2':whole ws (k+1) m≤ws.length:=c2
  rw [e,zK,vw _ _ c2',ih,Nat.mul_comm 2,Nat.mul_assoc,←Nat.pow_succ',←Nat.add_mul]
  congr 1;omega
theorem HX {ws:List Nat} (h:mW ws): ∀(k m i:Nat),m≤(row ws k).length→lw ws k m i+2^(k+1 - lv ws k m i)=2^(k+1)
 |0,m,i,_=>by unfold lw lv;split<;>rfl
 |k+1,m,i,hm=>by
  have c3:=(jC h k m hm).2.2.1
  have ih:=HX h k (2*(m - whole ws (k+1) m)) i c3
  have hle:=vT ws k (2*(m - whole ws (k+1) m)) i
  have hp:=Nat.pow_succ (n:=2) (m:=k+1)
  unfold lw lv
  by_cases hi:i<whole ws (k+1) m
  ·rw [if_pos hi,Nat.one_mul,show k+1+1 - (1+lv ws k (2*(m - whole ws (k+1) m)) i)=k+1 - lv ws k (2*(m - whole ws (k+1) m)) i by omega]
   omega
  ·have hn:=nested h k m hm
   have hz:=wV h k (2*(m - whole ws (k+1) m)) i c3 (by omega)
   rw [hz] at ih⊢
   rw [if_neg hi]
   simp only [Nat.zero_mul,Nat.zero_add,Nat.sub_zero] at ih⊢
   omega
theorem Al {ws:List Nat} (h:mW ws) (k:Nat) (hn:2≤ws.length) (hk:ws.length≤2^(k+1)):aJ ws.length (fun i=>2^(k+1 - lv ws k (2*ws.length - 2) i))=2^(k+1):=by
 have hm:=qC (ws:=ws) k hk
 have h1:=DL h k _ hm
 have h2:=zK ws.length (lw ws k (2*ws.length - 2)) (fun i=>2^(k+1 - lv ws k (2*ws.length - 2) i))
 rw [my (g:=fun _=>2^(k+1)) fun i _=>HX h k _ i hm,CI,h1] at h2
 have e1:(2*ws.length - 2)*2^k+2^(k+1)=ws.length*2^(k+1):=by
  have:2*ws.length - 2=2*(ws.length - 1):=by omega
  rw [this,Nat.mul_comm 2,Nat.mul_assoc,←Nat.pow_succ']
  have:ws.length=ws.length - 1+1:=by omega
  conv=>rhs;rw [this,Nat.succ_mul]
 omega
theorem Bf {n:Nat} {f:Nat→Nat} {i:Nat} (hi:i<n):f i≤aJ n f:=by
 induction n with
 |zero=>omega
 |succ n ih=>
  rw [bN]
  by_cases h:i=n
  ·subst h;omega
  ·have:=ih (by omega);omega
theorem zi {n:Nat} {f:Nat→Nat} {i j:Nat} (hi:i<n) (hj:j<n) (hij:i<j):f i+f j≤aJ n f:=by
 induction n with
 |zero=>omega
 |succ n ih=>
  rw [bN]
  by_cases h:j=n
  ·subst h
   have:=Bf (f:=f) hij
   omega
  ·have:=ih (by omega) (by omega);omega
theorem JY {ws:List Nat} (h:mW ws) (k:Nat) (hn:2≤ws.length) (hk:ws.length≤2^(k+1)) {i:Nat} (hi:i<ws.length):1≤lv ws k (2*ws.length - 2) i:=by
 have h1:=Al h k hn hk
 rcases Nat.eq_zero_or_pos (lv ws k (2*ws.length - 2) i) with h0|h0
 ·exfalso
  have hp: ∀j,0<2^(k+1 - lv ws k (2*ws.length - 2) j):=fun j=>Nat.two_pow_pos _
  have e:2^(k+1 - lv ws k (2*ws.length - 2) i)=2^(k+1):=by rw [h0,Nat.sub_zero]
  by_cases hi0:i=0
  ·subst hi0
   have:=zi (f:=fun i=>2^(k+1 - lv ws k (2*ws.length - 2) i)) hi (show 1<ws.length by omega) (by omega)
   have:=hp 1
   omega
  ·have:=zi (f:=fun i=>2^(k+1 - lv ws k (2*ws.length - 2) i)) (show 0<ws.length by omega) hi (by omega)
   have:=hp 0
   omega
 ·exact h0
end Go.Pm
set_option maxRecDepth 20000
namespace Go.Pm
def width (S:Nat→List Nat):Nat→Nat
 |0=>(S 0).length
 |k+1=>(S (k+1)).length*2^(k+1)+width S k
def lenOf (ws:List Nat) (L i:Nat):Nat:=if ws.length=1 then 1 else lv ws (L - 1) (2*ws.length - 2) i
theorem GG {ws:List Nat} {L:Nat} (ha:mW ws) (hL:1≤L) (hn:ws.length≤2^L) {i:Nat} (hi:i<ws.length):1≤lenOf ws L i∧lenOf ws L i≤L:=by
 unfold lenOf
 split
 ·exact ⟨Nat.le_refl _,hL⟩
 ·obtain ⟨K,rfl⟩: ∃K,L=K+1:=⟨L - 1,by omega⟩
  exact ⟨JY ha K (by omega) hn hi,vT ..⟩
end Go.Pm
set_option maxRecDepth 20000
namespace Go.Srt
def aR (t:List Int):Bool:=t.all fun x=>decide (0≤x)&&decide (x≤2147483647)
def kJ (l:List Nat):Prop:= ∀x∈l,x≤2147483647
def az (l ys:List Nat):List Nat:=ys.map fun s=>l.getD s 0
end Go.Srt
namespace Go.Proofs.YtgglghjnakclmaaGreat
open Go Go.Vc Go.Srt Go.Pm
section
variable {E w:World} {F:List HP}
def aT (t:List Int):Array Value:=⟨t.map vI⟩
theorem bA {t:List Int}:(aT t).size=t.length:=by simp [aT]
theorem uJ {t:List Int} {i:Nat} (h:i<t.length):(aT t)[i]? =some (Sc.enc (.int .i64) t[i]):=by simp [aT,h,vI]
theorem kz {l:List Nat}:aT (ints l)=ai .i64 l:=by
 unfold aT ints ai
 rw [List.map_map];rfl
theorem vH {t:List Int} (h:aR t=true): ∃l:List Nat,t=ints l∧kJ l:=by
 have h:=List.all_eq_true.1 h
 have h': ∀x∈t,0≤x∧x≤2147483647:=fun x hx=>by have:=h x hx;simpa using this
 refine ⟨t.map Int.toNat,?_,fun y hy=> ?_⟩
 ·unfold ints
  rw [List.map_map]
  refine (List.map_id t).symm.trans (List.map_congr_left fun x hx=> ?_)
  have:=h' x hx
  simp;omega
 ·obtain ⟨x,hx,rfl⟩:=List.mem_map.1 hy
  have:=h' x hx
  omega
theorem iu {l:List Nat} (h:kJ l):aR (ints l)=true:=by
 refine List.all_eq_true.2 fun x hx=> ?_
 obtain ⟨y,hy,rfl⟩:=List.mem_map.1 hx
 have:=h y hy
 simp;omega
theorem cF {l:List Nat}:(ints l).length=l.length:=List.length_map _
theorem Lt {x:Int} {K:Bool→World→Prop} (hK:K (!(decide (0≤x)&&decide (x≤2147483647))) w):db Tryz.prog (.func (.func iT) ⟨[]⟩ ⟨[]⟩) [kB] [.int .i64 x] w K:=by
 refine db.mk (by kernel_rfl) (qB.ok x K w ?_)
 refine aa.mk (fun h=> ?_) (fun h=> ?_)
 ·have h:=of_decide_eq_true h
  have e:(!(decide (0≤x)&&decide (x≤2147483647)))=true:=by simp;omega
  rw [e] at hK;exact hK
 ·have h:=of_decide_eq_false h
  have e:(!(decide (0≤x)&&decide (x≤2147483647)))=decide (x>2147483647):=by
   rw [Bool.eq_iff_iff];simp;omega
  rw [e] at hK;exact hK
set_option maxRecDepth 20000 in
theorem rO {t:List Int} {K:Bool→World→Prop} (h:Hp E w F) (hl:t.length=258) (hK: ∀w',Hp E w' F→K (aR t) w'):Cl Tryz.prog [kB] dQ ⟨[.agg (aT t)]⟩ w K:=by
 refine rJ.ok _ _ _ ?_
 refine Nw.mk h fun b w1 h1=> ?_
 refine bf.whole (by decide) rfl rfl ?_
 refine lq.ok _ _ _ _ ?_
 refine mY.ok _ _ _ _ ?_
 refine ⟨fun i w'=> ∃k:Nat,i=(k:Int)∧k≤258∧aR (t.take k)=true∧Hp E w' (af b (.cells (aT t) 215 (0,0))::F),fun i _=>258 - i.toNat,⟨0,rfl,by omega,rfl,h1⟩,?_⟩
 rintro i w' ⟨k,rfl,hk,hv,hh⟩
 refine aa.mk (fun hlt=> ?_) (fun hge=> ?_)
 ·have hlt:k<258:=by have:=of_decide_eq_true hlt;simp only at this;omega
  have hkl:k<t.length:=by omega
  have hsl:aC 1 ⟨some ⟨b,0,none⟩,258,258⟩ (t.map vI) w':=hh.ag (ad.aG (by simp [aT]) (by simpa using hl))
  refine an.rd hsl (by omega) (by simp only;omega) fun q hq hc=>Ld.sc (s:= .int .i64) t[k] (by rw [hc];simp [vI]) (Lt ?_)
  have es:aR (t.take (k+1))=(aR (t.take k)&&(decide (0≤t[k])&&decide (t[k]≤2147483647))):=by
   unfold aR
   rw [List.take_add_one,List.all_append,List.getElem?_eq_getElem hkl];simp
  rw [hv,Bool.true_and] at es
  rw [←es]
  refine aa.mk (fun hb=> ?_) (fun hb=> ?_)
  ·have hb:aR (t.take (k+1))=false:=by simpa using hb
   have e1:aR t=false:=by
    have:=List.take_append_drop (k+1) t
    rw [←this]
    unfold aR at hb⊢
    rw [List.all_append,hb,Bool.false_and]
   have e2:decide ((k:Int)≥0)=true:=by simp
   show K (!decide ((k:Int)≥0)) w'
   rw [e2]
   have:=hK w' hh.drop
   rw [e1] at this;exact this
  ·have hb:aR (t.take (k+1))=true:=by simpa using hb
   rw [ae (by omega)]
   exact ⟨⟨k+1,rfl,by omega,hb,hh⟩,by dsimp only;omega⟩
 ·have hge:k=258:=by have:=of_decide_eq_false hge;simp only at this;omega
  subst hge
  have e2:decide ((-1:Int)≥0)=false:=by decide
  show K (!decide ((-1:Int)≥0)) w'
  rw [e2]
  have:=hK w' hh.drop
  rw [List.take_of_length_le (by omega)] at hv
  rw [hv] at this;exact this
theorem GL {x y:Int} {K:Int→World→Prop} (hK: ∀z:Int,(z<0↔x<y)→K z w):Cl Tryz.prog [kI] iJ ⟨[.int .i64 x,.int .i64 y]⟩ w K:=by
 refine vk.ok _ _ _ _ ?_
 refine qW.ok _ _ _ (qW.ok _ _ _ ?_)
 refine aa.f (by simp) (aa.f (by simp) (aa.mk (fun h=>hK _ ?_) (fun h=>aa.mk (fun h2=>hK _ ?_) (fun h2=>hK _ ?_))))
 ·have:=of_decide_eq_true h;omega
 ·have:=of_decide_eq_false h;omega
 ·have:=of_decide_eq_false h;omega
theorem HY {l:List Nat} {i:Nat} {k:IntKind} (h:i<l.length):(ai k l)[i]? =some (Sc.enc (.int k) (l.getD i 0:Int)):=by
 rw [eo h,List.getD_eq_getElem?_getD,List.getElem?_eq_getElem h];rfl
theorem Ll {l:List Nat} {b:Nat} {t:TypeId} (hl:l.length=258):sH E (af b (.cells (ai .i64 l) t (0,0))::F) (.func (.func iS) ⟨[]⟩ ⟨[.pointer (some ⟨b,0,none⟩)]⟩) (ua l) (fun x=>0≤x∧x<258):=by
 rintro A w y x K h ⟨hx0,hx⟩ ⟨hy0,hy⟩ hK
 refine db.mk (by kernel_rfl) ?_
 refine qK.ok y x ⟨b,0,none⟩ K w ?_
 refine aK.mk h fun w1 h1=> ?_
 have h1':=h1.perm List.perm_append_comm
 refine aw.rd (s:= .int .i64) h1' hy0 (by omega) _ (HY (by omega)) ?_
 refine aw.rd (s:= .int .i64) h1' hx0 (by omega) _ (HY (by omega)) ?_
 refine GL fun z hz=>hK z w1 ?_ h1
 rw [hz];rfl
set_option maxRecDepth 20000 in
theorem DM {t:List Int} {K:Sl→World→Prop} (h:Hp E w F) (hl:t.length=258) (hK1:aR t=false→∀w',Hp E w' F→K ⟨none,0,0⟩ w')
  (hK2: ∀l,t=ints l→kJ l→l.length=258→∀ys s w',bo l ys→Hp E w' (aj 1 s ((ints ys).map vI)::F)→K s w'):Cl Tryz.prog [kS] fK ⟨[.agg (aT t)]⟩ w K:=by
 refine rW.ok _ _ _ ?_
 refine Nw.mk h fun b w1 h1=>Ld.arr h1 (by rw [bA,hl]) (rO h1 hl fun w2 h2=> ?_)
 refine aa.mk (fun hv=>hK1 (by simpa using hv) w2 h2.drop) (fun hv=> ?_)
 have hv:aR t=true:=by simpa using hv
 obtain ⟨l,rfl,hm⟩:=vH hv
 rw [cF] at hl
 rw [kz] at h2
 refine Ld.arr h2 (by rw [av,hl]) ?_
 refine ⟨fun o i w'=> ∃k:Nat,i=(k:Int)∧k≤258∧Hp E w' (aj 1 o ((ints (fz l k)).map vI)::af b (.cells (ai .i64 l) 215 (0,0))::F),fun _ i _=>258 - i.toNat,⟨0,rfl,by omega,h2.bl 1⟩,?_⟩
 intro o i w' hI
 obtain ⟨k,hi,hk,hh⟩:=hI
 subst hi
 refine aa.mk (fun hlt=> ?_) (fun hge=> ?_)
 ·have hlt:k<258:=by have:=of_decide_eq_true hlt;omega
  have hkl:k<l.length:=by omega
  refine gZ.rd (s:= .int .i64) (by omega) (by omega) _ (qL hkl) ?_
  refine aa.mk (fun hp=> ?_) (fun hp=> ?_)
  ·have hp:0<l.getD k 0:=by have:=of_decide_eq_true hp;omega
   refine Nw.mk hh fun b2 w3 h3=> ?_
   have ho:=hh.aV
   have hu:=mw l k
   simp only [List.length_map,ints,Nat.mul_one] at ho
   refine aI (ys:= [vI (k:Int)]) (n:=1) eF (by decide) (.inl ⟨3,by kernel_rfl⟩) h3.p1 (.inl ⟨some ⟨b2,0,none⟩,1,1,rfl,rfl,h3.ag (ad.aG rfl rfl)⟩) rfl mn (by omega) (by omega) fun s' w4 h4 hs'=> ?_
   rw [ae (by omega)]
   refine ⟨⟨k+1,rfl,by omega,?_⟩,by dsimp only;omega⟩
   rw [iN,if_pos hp,qx,List.map_append]
   exact h4.p1.drop
  ·have hp: ¬0<l.getD k 0:=by have:=of_decide_eq_false hp;omega
   rw [ae (by omega)]
   refine ⟨⟨k+1,rfl,by omega,?_⟩,by dsimp only;omega⟩
   rw [iN,if_neg hp,List.append_nil]
   exact hh
 ·have hge:k=258:=by have:=of_decide_eq_false hge;omega
  subst hge
  have hin: ∀x∈fz l 258,x<258:=fun x hx=>by
   have:=(List.mem_filter.1 hx).1
   simpa using this
  refine rT (key:=ua l) (D:=fun x=>0≤x∧x<258) hh (by have:=mw l 258;rw [aA];simp only [ints,List.length_map];omega) (Ll hl) (fun x hx=> ?_) ?_ fun ys w3 hp hs h3=> ?_
  ·obtain ⟨y,hy,rfl⟩:=List.mem_map.1 hx
   have:=hin y hy
   omega
  ·unfold ints
   refine List.Pairwise.map _ (fun a b hab=>Int.ofNat_lt.2 hab) ?_
   exact List.Pairwise.filter _ List.pairwise_lt_range
  ·have hU:fz l 258=used l:=by unfold fz used;rw [hl]
   rw [hU] at hp
   have e:ys=ints (ys.map Int.toNat):=by
    unfold ints
    rw [List.map_map]
    refine (List.map_id ys).symm.trans (List.map_congr_left fun x hx=> ?_)
    obtain ⟨y,_,rfl⟩:=List.mem_map.1 (hp.mem_iff.1 hx)
    simp
   have pN:(ys.map Int.toNat).Perm (used l):=by
    have:=hp.map Int.toNat
    refine this.trans ?_
    unfold ints
    rw [List.map_map]
    refine List.Perm.of_eq ((List.map_congr_left fun x _=> ?_).trans (List.map_id _))
    simp
   rw [e] at h3 hs
   refine hK2 l rfl hm hl (ys.map Int.toNat) _ w3 ⟨pN,?_⟩ h3.p1.drop
   refine (List.pairwise_map.1 hs).imp fun {a b} hab=> ?_
   unfold Ky ua at hab
   simp only [Int.toNat_natCast] at hab
   omega
def ff (x:It):List Value:= [.int .i64 (x.1:Int),.bool x.2]
theorem c9: ∀x,(ff x).length=2:=fun _=>rfl
theorem m7: ∀x,∀y∈ff x,aD y=true:=by
 intro x y hy
 simp only [ff,List.mem_cons,List.not_mem_nil,or_false] at hy
 rcases hy with rfl|rfl<;>rfl
theorem lk:bJ Tryz.prog 281 286 2 16:=bJ.of (by kernel_rfl) (by kernel_rfl)
theorem ze {ws:List Nat} {k:Nat} (h:k<ws.length):bx (ws.take (k+1))=bx (ws.take k)++ [(ws[k],true)]:=by
 unfold bx
 rw [List.take_add_one,List.map_append,List.getElem?_eq_getElem h];rfl
theorem zB {s:Sl} {ys:List Nat} {i:Nat} {K:Int→Prop} (hs:aC 1 s ((ints ys).map vI) w) (hi:i<ys.length) (hK:K (ys[i]:Int)):an s (i:Int) 1 fun q=>Ld kI q w K:=by
 have hl:=hs.1
 simp only [List.length_map,ints,Nat.mul_one] at hl
 refine an.rd hs (by omega) (by omega) fun q hq hc=>Ld.sc (s:= .int .i64) (ys[i]:Int) ?_ hK
 rw [hc];simp [vI,ints]
set_option maxRecDepth 20000 in
theorem FU {l ys:List Nat} {s:Sl} {K:Sl→World→Prop} (h:Hp E w F) (hl:l.length=258) (hs:ad F (aC 1 s ((ints ys).map vI))) (hin: ∀x∈ys,x<258) (hlen:ys.length≤258)
  (hK: ∀s' w',Hp E w' (aj 2 s' ((bx (az l ys)).flatMap ff)::F)→K s' w'):Cl Tryz.prog [kS] fx ⟨[.agg (ai .i64 l),.slice s.base s.len s.cap]⟩ w K:=by
 refine rb.ok _ _ _ _ ?_
 have hsl:=(h.ag hs).1
 simp only [List.length_map,ints,Nat.mul_one] at hsl
 have hwl:(az l ys).length=ys.length:=List.length_map _
 refine Nw.mk h fun b w1 h1=>⟨fun o i w'=> ∃k:Nat,i=(k:Int)∧k≤ys.length∧Hp E w' (aj 2 o ((bx ((az l ys).take k)).flatMap ff)::af b (.cells (ai .i64 l) 215 (0,0))::F),fun _ i _=>ys.length - i.toNat,⟨0,rfl,by omega,by simpa [bx] using h1.bl 2⟩,?_⟩
 rintro o i w' ⟨k,rfl,hk,hh⟩
 refine aa.mk (fun hlt=> ?_) (fun hge=> ?_)
 ·have hlt:k<ys.length:=by have:=of_decide_eq_true hlt;omega
  have hx:=hin _ (List.getElem_mem hlt)
  refine zB (hh.drop.drop.ag hs) hlt ?_
  refine aw.rd (s:= .int .i64) hh.p1 (by omega) (by omega) _ (qL (by omega)) ?_
  have hw:(az l ys)[k]'(by omega)=l.getD ys[k] 0:=by simp [az]
  refine rm (g:=ff) (x:=(l.getD ys[k] 0,true)) lk c9 (by decide) rfl (m7 _) hh (by rw [cg,List.length_take];omega) (by rw [cg,List.length_take];omega) fun s' w3 h3 _=> ?_
  rw [ae (by omega)]
  refine ⟨⟨k+1,rfl,by omega,?_⟩,by dsimp only;omega⟩
  rw [ze (by omega),hw];exact h3
 ·have hge:k=ys.length:=by have:=of_decide_eq_false hge;omega
  subst hge
  rw [List.take_of_length_le (by omega)] at hh
  exact hK _ _ hh.p1.drop
end
end Go.Proofs.YtgglghjnakclmaaGreat
set_option maxRecDepth 20000
namespace Go.Srt
def cb (ys:List Nat) (f:Nat→Nat):List Nat:=(List.range 258).map fun s=>if s∈ys then f (ys.idxOf s) else 0
theorem bb (ys:List Nat) (f:Nat→Nat):(cb ys f).length=258:=by simp [cb]
theorem FF {ys:List Nat} {f:Nat→Nat} {s:Nat} (hs:s<258):(cb ys f).getD s 0=if s∈ys then f (ys.idxOf s) else 0:=by
 unfold cb
 rw [List.getD_eq_getElem?_getD,List.getElem?_map,List.getElem?_range hs];rfl
theorem lK: ∀{ys:List Nat} (_:ys.Nodup) {i:Nat} (hi:i<ys.length),ys.idxOf ys[i]=i
 |y::ys,h,0,_=>by simp [List.idxOf_cons]
 |y::ys,h,i+1,hi=>by
  obtain ⟨h1,h2⟩:=List.nodup_cons.1 h
  have hi':i<ys.length:=by simpa using hi
  have hne: ¬y=ys[i]:=fun e=>h1 (e▸List.getElem_mem hi')
  have:=lK h2 hi'
  have e:(y==ys[i])=false:=by simpa using hne
  simp only [List.getElem_cons_succ,List.idxOf_cons,this,e,cond_false]
theorem pP {ys:List Nat} {f:Nat→Nat} (hn:ys.Nodup) (hin: ∀s∈ys,s<258) {i:Nat} (hi:i<ys.length):(cb ys f).getD ys[i] 0=f i:=by
 rw [FF (hin _ (List.getElem_mem hi)),if_pos (List.getElem_mem hi),lK hn hi]
theorem eT {ys:List Nat} {f g:Nat→Nat} (h: ∀i,i<ys.length→f i=g i):cb ys f=cb ys g:=by
 unfold cb
 refine List.map_congr_left fun s _=> ?_
 by_cases hs:s∈ys
 ·rw [if_pos hs,if_pos hs,h _ (List.idxOf_lt_length_of_mem hs)]
 ·rw [if_neg hs,if_neg hs]
theorem pg {ys:List Nat} {f:Nat→Nat} {i v:Nat} (hn:ys.Nodup) (hi:i<ys.length):(cb ys f).set ys[i] v=cb ys (fun j=>if j=i then v else f j):=by
 refine List.ext_getElem (by simp [cb]) fun s h1 h2=> ?_
 have hs:s<258:=by rw [bb] at h2;exact h2
 rw [List.getElem_set]
 unfold cb
 simp only [List.getElem_map,List.getElem_range]
 by_cases e:ys[i]=s
 ·rw [if_pos e]
  subst e
  rw [if_pos (List.getElem_mem hi),lK hn hi,if_pos rfl]
 ·rw [if_neg e]
  by_cases hm:s∈ys
  ·rw [if_pos hm,if_pos hm]
   have hlt:=List.idxOf_lt_length_of_mem hm
   have:ys.idxOf s≠i:=by
    intro e2
    apply e
    have:=List.getElem_idxOf hlt
    rw [←this]
    simp only [e2]
   rw [if_neg this]
  ·rw [if_neg hm,if_neg hm]
theorem AT (ys:List Nat):cb ys (fun _=>0)=List.replicate 258 0:=by
 refine List.eq_replicate_iff.2 ⟨bb ..,fun x hx=> ?_⟩
 obtain ⟨s,_,rfl⟩:=List.mem_map.1 hx
 split<;>rfl
theorem oD {l ys:List Nat} (h:bo l ys):ys.Nodup:=h.2.imp fun {a b} hab e=>by subst e;omega
theorem pF {l ys:List Nat} (h:bo l ys):Pm.mW (az l ys):=List.Pairwise.map _ (fun _ _ hab=>hab) (h.2.imp fun {a b} hab=>by omega)
end Go.Srt
namespace Go.Proofs.YtgglghjnakclmaaGreat
open Go Go.Vc Go.Srt Go.Pm
section
variable {E w:World} {F:List HP}
theorem F4 {R:List It} {j:Nat} (h:2*j+1<R.length):aU (R.drop (2*j))=((R[2*j]'(by omega)).1+R[2*j+1].1,false)::aU (R.drop (2*(j+1))):=by
 rw [List.drop_eq_getElem_cons (show 2*j<R.length by omega),List.drop_eq_getElem_cons (show 2*j+1<R.length by omega),aU]
 rfl
theorem Fp {R:List It} {j:Nat} (h: ¬2*j+1<R.length):aU (R.drop (2*j))= []:=by
 have:(aU (R.drop (2*j))).length=0:=by rw [dY,List.length_drop];omega
 exact List.length_eq_zero_iff.1 this
set_option maxRecDepth 20000 in
theorem KC {f1 f2:Sl} {A R:List It} {K:Sl→World→Prop} (h:Hp E w F) (hA:ad F (aC 2 f1 (A.flatMap ff))) (hR:ad F (aC 2 f2 (R.flatMap ff))) (hcap:f1.len≤f1.cap)
  (hb: ∀x∈R,x.1≤2^60) (hlA:A.length≤2^20) (hlR:R.length≤2^20)
  (hK: ∀s' w',Hp E w' (aj 2 s' ((bE A (aU R)).flatMap ff)::F)→K s' w'):Cl Tryz.prog [kS] gq ⟨[.slice f1.base f1.len f1.cap,.slice f2.base f2.len f2.cap]⟩ w K:=by
 refine sR.ok _ _ _ _ ?_
 have la:=aC.len c9 (by decide) (h.ag hA)
 have lr:=aC.len c9 (by decide) (h.ag hR)
 have hpl:=dY R
 have htl:(bE A (aU R)).length=A.length+R.length/2:=by rw [wT,hpl]
 have hsz: ∀o X:List It,o++X=bE A (aU R)→o.length≤2^21:=fun o X e=>by
  have:=congrArg List.length e
  rw [List.length_append,htl] at this
  omega
 refine ⟨fun o k i w'=> ∃(a j:Nat) (l:List It),k=(a:Int)∧i=((2*j:Nat):Int)∧a≤A.length∧2*j≤R.length∧l++bE (A.drop a) (aU (R.drop (2*j)))=bE A (aU R)∧Hp E w' (aj 2 o (l.flatMap ff)::F),
  fun _ _ i _=>R.length - i.toNat,⟨0,0,[],rfl,rfl,by omega,by omega,by simp,h.bl 2⟩,?_⟩
 rintro o k i w' ⟨a,j,l,rfl,rfl,ha,hj,heq,hh⟩
 have hll:=hsz _ _ heq
 rw [ae (x:=((2*j:Nat):Int)+1) (by omega)]
 refine aa.mk (fun hlt=> ?_) (fun hge=> ?_)
 ·have hlt:2*j+1<R.length:=by have:=of_decide_eq_true hlt;omega
  rw [F4 hlt] at heq
  have hx1:=hb _ (List.getElem_mem (show 2*j<R.length by omega))
  have hx2:=hb _ (List.getElem_mem hlt)
  have hd:Hp E {w' with drawn:=w'.drawn+1} (aj 2 o (l.flatMap ff)::F):=hh.drew
  refine ⟨cY E F,cY.r9 hd,?_⟩
  refine an.KY (n:=2*j) c9 (by decide) hd.drop hR rfl (by omega) fun p hp=> ?_
  refine aH.sc (s:= .int .i64) ((R[2*j]'(by omega)).1:Int) (fun w2 h2=>(h2.ag (hp 0 (by decide))).trans (by simp [ff])) ?_
  refine an.KY (n:=2*j+1) c9 (by decide) hd.drop hR (by omega) hlt fun q hq=> ?_
  refine aH.sc (s:= .int .i64) (R[2*j+1].1:Int) (fun w2 h2=>(h2.ag (hq 0 (by decide))).trans (by simp [ff])) ?_
  rw [ae (x:=((R[2*j]'(by omega)).1:Int)+(R[2*j+1].1:Int)) (by omega)]
  generalize hp1:(R[2*j]'(by omega)).1+R[2*j+1].1=p1 at heq
  have hp1':((R[2*j]'(by omega)).1:Int)+(R[2*j+1].1:Int)=(p1:Int):=by omega
  rw [hp1']
  refine Nw.mk hd fun b w3 h3=>⟨cY.DW h3,?_⟩
  refine bj.aG h3 rfl (m7 (p1,false)) fun w4 h4=>⟨cY.DW h4,?_⟩
  refine ⟨fun o k w'=> ∃(a:Nat) (l:List It),k=(a:Int)∧a≤A.length∧l++bE (A.drop a) ((p1,false)::aU (R.drop (2*(j+1))))=bE A (aU R)∧Hp E w' (aj 2 o (l.flatMap ff)::af b (.cells ⟨ff (p1,false)⟩ 286 (0,0))::F),
   fun _ k _=>A.length - k.toNat,⟨a,l,rfl,ha,heq,h4.p1⟩,?_⟩
  rintro o k w5 ⟨a,l,rfl,ha,heq,hh⟩
  have hll:=hsz _ _ heq
  refine aK.mk hh fun w6 h6=> ?_
  rw [ae (x:=((2*j:Nat):Int)+2) (by omega)]
  have last:A.drop a= []∨(∃(_:a<A.length),¬A[a].1≤p1)→(l++ [(p1,false)])++bE (A.drop a) (aU (R.drop (2*(j+1))))=bE A (aU R):=by
   rintro (e|⟨hal,hgt⟩)
   ·rw [e,jI] at heq
    rw [e,jI,←heq];simp
   ·rw [List.drop_eq_getElem_cons hal,py hgt] at heq
    rw [List.drop_eq_getElem_cons hal,←heq];simp
  refine aa.mk (fun hka=> ?_) (fun hka=> ?_)
  ·have hka:a<A.length:=by have:=of_decide_eq_true hka;omega
   refine an.el (n:=a) c9 (by decide) (h6.drop.drop.ag hA) rfl hka fun p hp=> ?_
   refine Ld.sc (s:= .int .i64) (A[a].1:Int) (by rw [hp 0 (by decide)];simp [ff]) ?_
   rw [al]
   refine Ld.aG h6.p1 (p1:Int) (by simp [ff]) ?_
   refine aa.mk (fun hle=> ?_) (fun hgt=> ?_)
   ·have hle:A[a].1≤p1:=by have:=of_decide_eq_true hle;omega
    rw [List.drop_eq_getElem_cons hka,pJ hle] at heq
    refine an.el (n:=a) c9 (by decide) (h6.drop.drop.ag hA) rfl hka fun p hp=> ?_
    refine Ld.st (ks:= [.int .i64,.bool]) ((A[a].1:Int),A[a].2,()) (fun j hj=>hp j hj) ?_
    refine rm (g:=ff) (x:=A[a]) lk c9 (by decide) rfl (m7 _) h6 (by omega) (by omega) fun s' w7 h7 _=> ?_
    rw [ae (by omega)]
    refine ⟨⟨a+1,l++ [A[a]],rfl,by omega,?_,h7⟩,by dsimp only;omega⟩
    rw [←heq];simp
   ·have hgt: ¬A[a].1≤p1:=by have:=of_decide_eq_false hgt;omega
    refine Ld.yL (ks:= [.int .i64,.bool]) h6.p1 ((p1:Int),false,()) rfl ?_
    refine rm (g:=ff) (x:=(p1,false)) lk c9 (by decide) rfl (m7 _) h6 (by omega) (by omega) fun s' w7 h7 _=> ?_
    exact ⟨⟨a,j+1,l++ [(p1,false)],rfl,by omega,ha,by omega,last (.inr ⟨hka,hgt⟩),h7.p1.drop⟩,by dsimp only;omega⟩
  ·have hka:A.drop a= []:=by
    have:=of_decide_eq_false hka
    exact List.drop_eq_nil_of_le (by omega)
   refine Ld.yL (ks:= [.int .i64,.bool]) h6.p1 ((p1:Int),false,()) rfl ?_
   refine rm (g:=ff) (x:=(p1,false)) lk c9 (by decide) rfl (m7 _) h6 (by omega) (by omega) fun s' w7 h7 _=> ?_
   exact ⟨⟨a,j+1,l++ [(p1,false)],rfl,by omega,ha,by omega,last (.inl hka),h7.p1.drop⟩,by dsimp only;omega⟩
 ·have hge: ¬2*j+1<R.length:=by have:=of_decide_eq_false hge;omega
  rw [Fp hge,mO] at heq
  refine bf.el (a:=a) (b:=A.length) (l:=A) c9 la rfl (by rw [la]) ha (Nat.le_refl _) (by omega) (Int.le_refl _) fun s' hs' hl' _=> ?_
  have hd:=hs' w' (hh.drop.ag hA)
  rw [List.take_of_length_le (by rw [List.length_drop];omega)] at hd
  have hdl:(A.drop a).length≤2^20:=by rw [List.length_drop];omega
  refine rC (g:=ff) lk c9 (by decide) m7 hh hd (by omega) (by omega) fun s2 w2 h2 _=>hK s2 w2 ?_
  rw [←heq];exact h2
end
end Go.Proofs.YtgglghjnakclmaaGreat
set_option maxRecDepth 20000
namespace Go.Pm
theorem th {M:Nat}: ∀{l:List It},(∀x∈l,x.1≤M)→∀x∈aU l,x.1≤2*M
 | [],_,x,h=>by simp [aU] at h
 | [_],_,x,h=>by simp [aU] at h
 |a::b::l,hl,x,h=>by
  rw [aU] at h
  rcases List.mem_cons.1 h with rfl|h
  ·have:=hl a (by simp);have:=hl b (by simp);simp only;omega
  ·exact th (fun y hy=>hl y (by simp [hy])) x h
theorem xv {ws:List Nat} {M:Nat} (h: ∀x∈ws,x≤M): ∀k,∀x∈row ws k,x.1≤M*2^k
 |0,x,hx=>by
  obtain ⟨y,hy,rfl⟩:=List.mem_map.1 hx
  simpa using h y hy
 |k+1,x,hx=>by
  rcases List.mem_append.1 ((kR _ _).mem_iff.1 hx) with hx|hx
  ·obtain ⟨y,hy,rfl⟩:=List.mem_map.1 hx
   have:=h y hy
   have:=Nat.le_mul_of_pos_right M (Nat.two_pow_pos (k+1))
   simp only;omega
  ·have:=th (xv h k) x hx
   rw [Nat.pow_succ];rw [←Nat.mul_assoc];omega
theorem mf (ws:List Nat): ∀k,(row ws k).length≤2*ws.length
 |0=>by rw [row,cg];omega
 |k+1=>by
  have:=mf ws k
  rw [sv];omega
theorem CU {l:List It} {j:Nat} (h:j<l.length):aB (l.take (j+1))=aB (l.take j)+if l[j].2=true then 1 else 0:=by
 unfold aB
 rw [List.take_add_one,List.filter_append,List.length_append,List.getElem?_eq_getElem h]
 congr 1
 by_cases e:l[j].2=true
 ·rw [if_pos e];simp [e]
 ·rw [if_neg e];simp [e]
theorem uN {l:List It} {a b:Nat} (h:a≤b):aB (l.take a)≤aB (l.take b):=by
 have:=List.take_append_drop a (l.take b)
 rw [List.take_take,Nat.min_eq_left h] at this
 have h2:=congrArg aB this
 rw [nQ] at h2
 omega
theorem Gy (ws:List Nat) {L:Nat} (hL:1≤L) (i:Nat):lenOf ws L i≤L:=by
 unfold lenOf
 split
 ·exact hL
 ·have:=vT ws (L - 1) (2*ws.length - 2) i
  omega
theorem DV {ws:List Nat} (h:mW ws) (k m:Nat) (hm:m≤(row ws k).length):aB ((row ws k).take m)≤ws.length:=by
 cases k with
 |zero=>
  rw [row,cg] at hm
  rw [(nN m hm).1];exact hm
 |succ k=>exact (jC h k m hm).2.1
end Go.Pm
namespace Go.Proofs.YtgglghjnakclmaaGreat
open Go Go.Vc Go.Srt Go.Pm
section
variable {E w:World} {F:List HP}
theorem qh {b:Nat} {t:TypeId} {l:List Nat} {K:Array Value→World→Prop} (h:Hp E w (af b (.cells (ai .u8 l) t (0,0))::F)) (hl:l.length=258) (hK: ∀w',Hp E w' (af b (.cells (ai .u8 l) t (0,0))::F)→K (ai .u8 l) w'):
  Ld (.arr 258) ⟨b,0,none⟩ w fun x=>ax 258 ⟨b,0,none⟩ x w fun w2=>Ld (.arr 258) ⟨b,0,none⟩ w2 fun r=>K r w2:=
 Ld.arr h (by rw [av,hl]) (ax.aG h (by rw [av,hl]) (by rw [av,hl]) bW fun w2 h2=>Ld.arr h2 (by rw [av,hl]) (hK w2 h2))
def iy (s:Sl):List Value:= [.slice s.base s.len s.cap]
theorem gi: ∀x,(iy x).length=1:=fun _=>rfl
theorem EK: ∀x,∀y∈iy x,aD y=true:=by
 intro x y hy
 have:y= .slice x.base x.len x.cap:=by simpa [iy] using hy
 rw [this];rfl
theorem IU:bJ Tryz.prog 283 281 1 24:=bJ.of (by kernel_rfl) (by kernel_rfl)
def uD (ws:List Nat) (rs:List Sl) (G:List HP):Prop:= ∀j (hj:j<rs.length),ad G (aC 2 rs[j] ((row ws j).flatMap ff))∧rs[j].len≤rs[j].cap
theorem uD.more {ws:List Nat} {rs:List Sl} {G:List HP} {s:Sl} (h:uD ws rs G) (hc:s.len≤s.cap):uD ws (rs++ [s]) (aj 2 s ((row ws rs.length).flatMap ff)::G):=by
 intro j hj
 rcases Nat.lt_or_ge j rs.length with hlt|hge
 ·rw [List.getElem_append_left hlt]
  exact ⟨(h j hlt).1.cons,(h j hlt).2⟩
 ·have:j=rs.length:=by simp at hj;omega
  subst this
  simp only [List.getElem_append_right (Nat.le_refl _),Nat.sub_self,List.getElem_cons_zero]
  exact ⟨ad.own,hc⟩
theorem Cj {L:Nat} (hL:L≤15):eA .i64 1 (u64 (L:Int))=((2^L:Nat):Int)∧(0:Int)≤u64 (L:Int):=by
 rw [rH (by omega)]
 have hp:2^L≤2^15:=Nat.pow_le_pow_right (by decide) hL
 have hm:IntKind.max .i64=9223372036854775807:=rfl
 have:=kU (k:= .i64) (a:=1) (b:=L) (by have:IntKind.bits .i64=64:=rfl;omega) (by rw [hm];omega)
 rw [Nat.one_mul] at this
 exact ⟨this,by omega⟩
theorem DH {l ys:List Nat} (hm:kJ l): ∀x∈az l ys,x≤2147483647:=by
 intro x hx
 obtain ⟨s,_,rfl⟩:=List.mem_map.1 hx
 rw [List.getD_eq_getElem?_getD]
 cases h:l[s]? with
 |none=>simp
 |some y=>exact hm y (List.mem_of_getElem? h)
theorem Ip {l ys:List Nat} (hm:kJ l) {k:Nat} (hk:k≤15): ∀x∈row (az l ys) k,x.1≤2^60:=by
 intro x hx
 have h1:=xv (DH (ys:=ys) hm) k x hx
 have hp:2^k≤2^15:=Nat.pow_le_pow_right (by decide) hk
 have:=Nat.mul_le_mul_left 2147483647 hp
 omega
set_option maxRecDepth 20000 in
theorem Bh {t:List Int} {L:Int} {K:Array Value→Int→World→Prop} (h:Hp E w F) (hl:t.length=258)
  (hK1:(aR t=false∨L<1∨15<L∨∃l,t=ints l∧(2:Int)^L.toNat<(used l).length)→∀w',Hp E w' F→K (ai .u8 (List.replicate 258 0)) 2 w')
  (hK2: ∀l ys w',t=ints l→kJ l→bo l ys→1≤L→L≤15→ys.length≤2^L.toNat→Hp E w' F→K (ai .u8 (cb ys (lenOf (az l ys) L.toNat))) 0 w'):
  Cl Tryz.prog [.arr 258,kI] de ⟨[.agg (aT t),.int .i64 L]⟩ w K:=by
 refine pZ.ok _ _ _ _ ?_
 rw [jJ]
 simp only [ao]
 refine Nw.mk h fun b4 w1 h1=>Nw.mk h1 fun b6 w2 h2=>Ld.arr h2.p1 (by rw [bA,hl]) (DM h2 hl (fun hv w3 h3=> ?_) (fun l hte hm hll ys s w3 hys h3=> ?_))
 ·refine Ld.arr h3.p1 (by rw [bA,hl]) (rO h3 hl fun w4 h4=>aa.t (by rw [hv];rfl) (qh h4 (by simp) fun w5 h5=>hK1 (.inl hv) w5 h5.drop.drop))
 ·subst hte
  have hlen:=vg hll hys
  have hin:=pO hll hys
  have hsl:s.len=ys.length:=by
   have:=(h3.ag ad.own).1
   simp only [List.length_map,ints,Nat.mul_one] at this
   exact this.symm
  refine Ld.arr h3.p2 (by rw [bA,hl]) (rO h3 hl fun w4 h4=>aa.f (by rw [iu hm];rfl) ?_)
  refine aa.mk (fun hlt=>qh h4.p1 (by simp) fun w5 h5=>hK1 (.inr (.inl (of_decide_eq_true hlt))) w5 h5.drop.drop.drop) (fun hge=> ?_)
  have hge:=of_decide_eq_false hge
  refine aa.mk (fun hgt=>qh h4.p1 (by simp) fun w5 h5=>hK1 (.inr (.inr (.inl (by have:=of_decide_eq_true hgt;omega)))) w5 h5.drop.drop.drop) (fun hle=> ?_)
  have hle:=of_decide_eq_false hle
  obtain ⟨N,rfl⟩:=Int.eq_ofNat_of_zero_le (show 0≤L by omega)
  have hN:N≤15:=by omega
  have hN1:1≤N:=by omega
  obtain ⟨e1,e2⟩:=Cj hN
  rw [e1]
  refine ⟨e2,aa.mk (fun hgt=>qh h4.p1 (by simp) fun w5 h5=>hK1 (.inr (.inr (.inr ⟨l,rfl,?_⟩))) w5 h5.drop.drop.drop) (fun hle2=> ?_)⟩
  ·have hgt:=of_decide_eq_true hgt
   rw [Int.toNat_natCast,←hys.1.length_eq,←hsl]
   rw [show (2:Int)^N=((2^N:Nat):Int) by norm_cast]
   exact hgt
  have hle2:ys.length≤2^N:=by have:=of_decide_eq_false hle2;omega
  have hasc:=pF hys
  have hwl:(az l ys).length=ys.length:=List.length_map _
  have hnd:=oD hys
  have hin2: ∀s∈ys,s<258:=fun s hs=>(hin s hs).1
  have fine: ∀w',Hp E w' F→K (ai .u8 (cb ys (lenOf (az l ys) N))) 0 w':=fun w' h'=>hK2 l ys w' rfl hm hys (by omega) (by omega) (by rw [Int.toNat_natCast];exact hle2) h'
  rw [←AT ys] at h4
  refine aa.mk (fun h1=> ?_) (fun h1=> ?_)
  ·have h1:ys.length=1:=by have:(s.len:Int)=1:=by simpa using h1
                           omega
   refine zB (i:=0) (h4.ag ad.own) (by omega) ?_
   have hx:=hin2 _ (List.getElem_mem (show 0<ys.length by omega))
   refine aw.wr h4.p1 (by omega) (by omega) (by rw [av,bb]) rfl fun w5 h5=> ?_
   rw [Int.toNat_natCast] at h5
   have e:=nU (k:= .u8) (l:=cb ys fun _=>0) (i:=ys[0]) (x:=1)
   rw [show (Value.int .u8 1)= .int .u8 ((1:Nat):Int) from rfl,e,pg hnd (by omega)] at h5
   have e3:cb ys (fun j=>if j=0 then 1 else 0)=cb ys (lenOf (az l ys) N):=eT fun i hi=>by
    have:i=0:=by omega
    subst this
    unfold lenOf
    rw [if_pos rfl,if_pos (by omega)]
   rw [e3] at h5
   exact qh h5 (bb ..) fun w6 h6=>fine w6 h6.drop.drop.drop
  ·have h1:ys.length≠1:=by
    intro e
    have: ¬(s.len:Int)=1:=by simpa using h1
    omega
   rw [kz] at h4
   refine Ld.arr h4.p2 (by rw [av,hll]) (FU h4 hll ad.own hin2 hlen fun s0 w5 h5=>Nw.mk h5 fun b38 w6 h6=> ?_)
   have hc0:=h5.jR
   refine ⟨fun rows k w'=> ∃(rs:List Sl) (G:List HP),k=(rs.length:Int)∧1≤rs.length∧rs.length≤N∧uD (az l ys) rs G∧
     Hp E w' (aj 1 rows (rs.flatMap iy)::af b6 (.cells (ai .u8 (cb ys fun _=>0)) 104 (0,0))::aj 1 s ((ints ys).map vI)::af b4 (.cells (ai .i64 l) 215 (0,0))::(G++F)),
    fun _ k _=>N - k.toNat,⟨[s0],[aj 2 s0 ((bx (az l ys)).flatMap ff)],rfl,Nat.le_refl _,hN1,?_,?_⟩,?_⟩
   ·intro j hj
    have:j=0:=by simp at hj;omega
    subst this
    exact ⟨ad.own,hc0⟩
   ·exact ((h6.fo (sz:=1) (n:=1) rfl).p1.q4).p2.p1
   rintro rows k w7 ⟨rs,G,rfl,hr1,hrN,hrs,hh⟩
   have hrl:=aC.len gi (by decide) (hh.ag ad.own)
   refine aa.mk (fun hlt=> ?_) (fun hge=> ?_)
   ·have hlt:rs.length<N:=by have:=of_decide_eq_true hlt;omega
    have hd:Hp E {w7 with drawn:=w7.drawn+1} _:=hh.drew
    have hrd: ∀w',Hp E w' (aj 1 rows (rs.flatMap iy)::af b6 (.cells (ai .u8 (cb ys fun _=>0)) 104 (0,0))::aj 1 s ((ints ys).map vI)::af b4 (.cells (ai .i64 l) 215 (0,0))::(G++F))→aC 1 rows (rs.flatMap iy) w':=fun w' h'=>h'.ag ad.own
    have key: ∀(i:Nat) (hi:i<rs.length) {K:Addr→Prop},(∀p,(∀w,aC 1 rows (rs.flatMap iy) w→w.cell? p=some (.slice rs[i].base rs[i].len rs[i].cap))→K p)→an rows (i:Int) 1 K:=by
     intro i hi K hK
     obtain ⟨p,hp,_⟩:=(hrd _ hd).2 i (by rw [eH gi];omega)
     refine ⟨p,hp,by omega,by omega,hK _ fun w2 h2=> ?_⟩
     obtain ⟨q,hq,hc⟩:=h2.2 i (by rw [eH gi];omega)
     have:q=p:=Option.some.inj (hq.symm.trans hp)
     subst this
     rw [Int.toNat_natCast,Nat.mul_one,hc]
     have:=nk gi rs i 0 hi (by decide)
     rw [Nat.mul_one,Nat.add_zero] at this
     rw [←List.getElem?_eq_getElem,this];rfl
    have hr0:=hrs 0 (by omega)
    have hrk:=hrs (rs.length - 1) (by omega)
    refine ⟨aC 1 rows (rs.flatMap iy),hrd _ hd,?_⟩
    refine key 0 (by omega) fun p hp=>aH.sc (s:= .sl) rs[0] hp ?_
    rw [show i64 ((rs.length:Int) - 1)=((rs.length - 1:Nat):Int) by rw [ae (by omega)];omega]
    refine key (rs.length - 1) (by omega) fun q hq=>aH.sc (s:= .sl) rs[rs.length - 1] hq ?_
    have hlr:=mf (az l ys) (rs.length - 1)
    refine KC hd (ad.cons (ad.cons (ad.cons (ad.cons hr0.1.tK)))) (ad.cons (ad.cons (ad.cons (ad.cons hrk.1.tK)))) hr0.2 (Ip hm (by omega)) (by rw [row,cg];omega) (by omega) fun s' w8 h8=> ?_
    have hcs:=h8.jR
    refine ⟨hrd _ h8.drop,Nw.mk h8 fun b53 w9 h9=>⟨hrd _ h9.drop.drop,?_⟩⟩
    refine sY (ys:=iy s') (n:=1) IU (by decide) (.inl ⟨281,by kernel_rfl⟩) h9.p2 (.inl ⟨_,_,_,rfl,rfl,h9.ag (ad.aG rfl rfl)⟩) rfl (EK s') (by omega) (by omega) fun s2 w10 h10 _ hold=>⟨hold,?_⟩
    have e:rs.length - 1+1=rs.length:=by omega
    have er:bE (row (az l ys) 0) (aU (row (az l ys) (rs.length - 1)))=row (az l ys) rs.length:=by
     conv=>rhs;rw [←e,row]
     rfl
    rw [er] at h10
    rw [ae (by omega)]
    refine ⟨⟨rs++ [s'],aj 2 s' ((row (az l ys) rs.length).flatMap ff)::G,by simp,by simp,by simp;omega,hrs.more hcs,?_⟩,by dsimp only;omega⟩
    have h11:=h10.p1.drop
    rw [List.flatMap_append,show [s'].flatMap iy=iy s' by simp]
    exact h11.p1.q4
   ·have hge:rs.length=N:=by have:=of_decide_eq_false hge;omega
    have tot15: ∀i,lenOf (az l ys) N i≤15:=fun i=>Nat.le_trans (Gy _ hN1 i) hN
    have htot: ∀i,lenOf (az l ys) N i=lv (az l ys) (N - 1) (2*ys.length - 2) i:=fun i=>by
     unfold lenOf
     rw [if_neg (by omega),hwl]
    refine ⟨fun many k w'=> ∃f:Nat→Nat,(((k= -1∨many≤0)∧ -1≤k∧k<N∧∀i,i<ys.length→f i=lenOf (az l ys) N i)∨
       (∃kk m:Nat,k=(kk:Int)∧kk<N∧many=(m:Int)∧m≤(row (az l ys) kk).length∧∀i,i<ys.length→f i+lv (az l ys) kk m i=lenOf (az l ys) N i))∧
      Hp E w' (af b6 (.cells (ai .u8 (cb ys f)) 104 (0,0))::aj 1 rows (rs.flatMap iy)::aj 1 s ((ints ys).map vI)::af b4 (.cells (ai .i64 l) 215 (0,0))::(G++F)),
     fun _ k _=>(k+1).toNat,⟨fun _=>0,?_,hh.p1⟩,?_⟩
    ·rw [ae (x:=2*(s.len:Int)) (by omega),ae (x:=2*(s.len:Int) - 2) (by omega),ae (by omega)]
     rcases Nat.eq_zero_or_pos ys.length with h0|h0
     ·exact .inl ⟨.inr (by omega),by omega,by omega,fun i hi=>by omega⟩
     ·refine .inr ⟨N - 1,2*ys.length - 2,by omega,by omega,by omega,?_,fun i _=>by rw [htot,Nat.zero_add]⟩
      rw [←hwl]
      exact qC (N - 1) (by rw [hwl,show N - 1+1=N by omega];exact hle2)
    rintro many k w8 ⟨f,hf,hh⟩
    have done:(∀i,i<ys.length→f i=lenOf (az l ys) N i)→Hp E w8 (af b6 (.cells (ai .u8 (cb ys (lenOf (az l ys) N))) 104 (0,0))::aj 1 rows (rs.flatMap iy)::aj 1 s ((ints ys).map vI)::af b4 (.cells (ai .i64 l) 215 (0,0))::(G++F)):=fun hi=>by
     rw [←eT hi];exact hh
    refine aa.mk (fun hk=> ?_) (fun hk=> ?_)
    ·have hk:=of_decide_eq_true hk
     refine aa.mk (fun hmany=> ?_) (fun hmany=> ?_)
     ·have hmany:=of_decide_eq_true hmany
      rcases hf with ⟨h0,_⟩|⟨kk,m,rfl,hkN,rfl,hm2,hf⟩
      ·omega
      have hrk:=hrs kk (by omega)
      have hlr:=mf (az l ys) kk
      refine an.el (n:=kk) gi (by decide) (hh.p1.ag ad.own) rfl (by omega) fun p hp=> ?_
      refine Ld.sc (s:= .sl) rs[kk] (by have:=hp 0 (by decide);rw [add_zero] at this;rw [this];rfl) ?_
      have hrt:ad (G++F) (aC 2 rs[kk] ((row (az l ys) kk).flatMap ff)):=hrk.1.tK
      have hrl2:=aC.len c9 (by decide) (hh.drop.drop.drop.drop.ag hrt)
      refine bf.el (a:=0) (b:=m) (l:=row (az l ys) kk) c9 hrl2 rfl rfl (by omega) hm2 (by omega) (Int.le_refl _) fun sm hsm hsml _=> ?_
      have hsm2:ad (G++F) (aC 2 sm (((row (az l ys) kk).take m).flatMap ff)):=hrt.imp fun w' hw'=>by simpa using hsm w' hw'
      refine ⟨fun wh j w'=> ∃jj:Nat,j=(jj:Int)∧jj≤m∧wh=(aB ((row (az l ys) kk).take jj):Int)∧
        Hp E w' (af b6 (.cells (ai .u8 (cb ys fun i=>f i+if i<aB ((row (az l ys) kk).take jj) then 1 else 0)) 104 (0,0))::aj 1 rows (rs.flatMap iy)::aj 1 s ((ints ys).map vI)::af b4 (.cells (ai .i64 l) 215 (0,0))::(G++F)),
       fun _ j _=>m - j.toNat,⟨0,rfl,by omega,rfl,hh⟩,?_⟩
      rintro wh j w9 ⟨jj,rfl,hj,rfl,hh⟩
      have hlfm:=uN (l:=row (az l ys) kk) (show jj≤m from hj)
      have hlfn:=DV hasc kk m hm2
      refine aa.mk (fun hjm=> ?_) (fun hjm=> ?_)
      ·have hjm:jj<m:=by have:=of_decide_eq_true hjm;omega
       have hjr:jj<(row (az l ys) kk).length:=by omega
       have hls:=CU hjr
       have hlfm2:=uN (l:=row (az l ys) kk) (show jj+1≤m from hjm)
       refine an.el (n:=jj) c9 (by decide) (hh.drop.drop.drop.drop.ag hsm2) rfl (by rw [List.length_take];omega) fun p hp=> ?_
       rw [List.getElem_take] at hp
       refine Ld.st (ks:= [.int .i64,.bool]) (((row (az l ys) kk)[jj].1:Int),(row (az l ys) kk)[jj].2,()) (fun j hj=>hp j hj) ?_
       refine Nw.mk hh fun b80 w10 h10=>bj.aG h10 rfl (m7 (row (az l ys) kk)[jj]) fun w11 h11=> ?_
       rw [al]
       refine Ld.aG h11 (row (az l ys) kk)[jj].2 (by simp [ff]) ?_
       have h12:=h11.drop
       refine aa.mk (fun hlf=> ?_) (fun hlf=> ?_)
       ·rw [if_pos hlf] at hls
        have hwn:aB ((row (az l ys) kk).take jj)<ys.length:=by omega
        have hx:=hin2 _ (List.getElem_mem hwn)
        have hfi:=hf _ hwn
        have h15:=tot15 (aB ((row (az l ys) kk).take jj))
        have hlv:1≤lv (az l ys) kk m (aB ((row (az l ys) kk).take jj)):=by
         cases kk with
         |zero=>unfold lv whole;rw [if_pos (by omega)];exact Nat.le_refl _
         |succ kk=>unfold lv whole;rw [if_pos (by omega)];omega
        refine zB (h12.p2.ag ad.own) hwn ?_
        refine aw.rd (s:= .int .u8) h12 (by omega) (by omega) _ (qL (by rw [bb];omega)) ?_
        rw [pP hnd hin2 hwn,if_neg (by omega),Nat.add_zero]
        refine aw.wr h12 (by omega) (by omega) (by rw [av,bb]) rfl fun w13 h13=> ?_
        rw [Int.toNat_natCast,dS (by omega),show ((f (aB ((row (az l ys) kk).take jj)):Int)+1)=((f (aB ((row (az l ys) kk).take jj))+1:Nat):Int) by omega,nU,pg hnd hwn] at h13
        rw [ae (x:=(aB ((row (az l ys) kk).take jj):Int)+1) (by omega),ae (by omega)]
        refine ⟨⟨jj+1,rfl,by omega,by omega,?_⟩,by dsimp only;omega⟩
        rw [hls]
        have e:cb ys (fun i=>f i+if i<aB ((row (az l ys) kk).take jj)+1 then 1 else 0)=cb ys (fun j=>if j=aB ((row (az l ys) kk).take jj) then f (aB ((row (az l ys) kk).take jj))+1 else f j+if j<aB ((row (az l ys) kk).take jj) then 1 else 0):=eT fun i _=>by
         by_cases hi:i=aB ((row (az l ys) kk).take jj)
         ·subst hi;rw [if_pos (by omega),if_pos rfl]
         ·rw [if_neg hi]
          congr 1
          by_cases hi2:i<aB ((row (az l ys) kk).take jj)
          ·rw [if_pos hi2,if_pos (by omega)]
          ·rw [if_neg hi2,if_neg (by omega)]
        rw [e];exact h13
       ·rw [if_neg (by rw [hlf];simp)] at hls
        have hls:aB ((row (az l ys) kk).take (jj+1))=aB ((row (az l ys) kk).take jj):=hls
        rw [ae (by omega)]
        refine ⟨⟨jj+1,rfl,by omega,by rw [hls],?_⟩,by dsimp only;omega⟩
        rw [hls];exact h12
      ·have hjm:jj=m:=by have:=of_decide_eq_false hjm;omega
       subst hjm
       have hlj:aB ((row (az l ys) kk).take jj)≤jj:=by
        unfold aB
        have:=List.length_filter_le (fun x:It=>x.2) ((row (az l ys) kk).take jj)
        rw [List.length_take] at this;omega
       rw [ae (x:=(jj:Int) - _) (by omega),ae (x:=2*_) (by omega),ae (by omega)]
       refine ⟨⟨_,?_,hh⟩,by dsimp only;omega⟩
       cases kk with
       |zero=>
        refine .inl ⟨.inl (by omega),by omega,by omega,fun i hi=> ?_⟩
        have:=hf i hi
        unfold lv whole at this
        exact this
       |succ kk=>
        refine .inr ⟨kk,2*(jj - whole (az l ys) (kk+1) jj),by omega,by omega,?_,(jC hasc kk jj hm2).2.2.1,fun i hi=> ?_⟩
        ·show 2*((jj:Int) - (whole (az l ys) (kk+1) jj:Int))=_
         have:whole (az l ys) (kk+1) jj≤jj:=hlj
         omega
        ·have:=hf i hi
         rw [lv] at this
         rw [←this]
         unfold whole
         omega
     ·have hmany:=of_decide_eq_false hmany
      refine qh (done ?_) (bb ..) fun w9 h9=>fine w9 h9.drop.drop.drop.drop.sK
      rcases hf with ⟨_,_,_,h0⟩|⟨kk,m,rfl,hkN,rfl,hm2,hf⟩
      ·exact h0
      ·intro i hi
       have h0:=hf i hi
       have hm0:m=0:=by omega
       subst hm0
       rw [wV hasc kk 0 i hm2 (by simp [whole,aB]),Nat.add_zero] at h0
       exact h0
    ·have hk:=of_decide_eq_false hk
     refine qh (done ?_) (bb ..) fun w9 h9=>fine w9 h9.drop.drop.drop.drop.sK
     rcases hf with ⟨_,_,_,h0⟩|⟨kk,m,rfl,hkN,rfl,hm2,hf⟩
     ·exact h0
     ·omega
end
end Go.Proofs.YtgglghjnakclmaaGreat
set_option maxRecDepth 20000
namespace Go.Srt
theorem Dl {l ys:List Nat} {s k:Nat} (hp:ys.Perm ((List.range s).filter fun s=>decide (0<l.getD s 0))) (ho:ys.Pairwise fun a b=>l.getD a 0<l.getD b 0∨(l.getD a 0=l.getD b 0∧a<b)) (hk:k≤ys.length)
  (h1: ∀j (hj:j<ys.length),k≤j→l.getD s 0<l.getD ys[j] 0) (h2:k=0∨∃h:k - 1<ys.length,l.getD ys[k - 1] 0≤l.getD s 0):
  (ys.take k++s::ys.drop k).Pairwise fun a b=>l.getD a 0<l.getD b 0∨(l.getD a 0=l.getD b 0∧a<b):=by
 have hlt: ∀x∈ys,x<s:=fun x hx=>by
  have:=(List.mem_filter.1 (hp.mem_iff.1 hx)).1
  simpa using this
 have hA: ∀x∈ys.take k,l.getD x 0≤l.getD s 0:=by
  intro x hx
  obtain ⟨i,hi,rfl⟩:=List.getElem_of_mem hx
  rw [List.length_take] at hi
  rw [List.getElem_take]
  rcases h2 with h2|⟨hk1,h2⟩
  ·omega
  ·by_cases e:i=k - 1
   ·subst e;exact h2
   ·have:=(List.pairwise_iff_getElem.1 ho) i (k - 1) (by omega) hk1 (by omega)
    omega
 have hB: ∀x∈ys.drop k,l.getD s 0<l.getD x 0:=by
  intro x hx
  obtain ⟨i,hi,rfl⟩:=List.getElem_of_mem hx
  rw [List.length_drop] at hi
  rw [List.getElem_drop]
  exact h1 _ (by omega) (by omega)
 have hs:(ys.take k++ys.drop k).Pairwise fun a b=>l.getD a 0<l.getD b 0∨(l.getD a 0=l.getD b 0∧a<b):=by rw [List.take_append_drop];exact ho
 obtain ⟨p1,p2,p3⟩:=List.pairwise_append.1 hs
 refine List.pairwise_append.2 ⟨p1,List.pairwise_cons.2 ⟨fun x hx=> .inl (hB x hx),p2⟩,fun x hx y hy=> ?_⟩
 rcases List.mem_cons.1 hy with rfl|hy
 ·have h3:=hA x hx
  have h4:=hlt x (List.mem_of_mem_take hx)
  omega
 ·exact p3 x hx y hy
end Go.Srt
namespace Go.Proofs.YtgglghjnakclmaaGreat
open Go Go.Vc Go.Srt Go.Pm
section
variable {E w:World} {F:List HP}
set_option maxRecDepth 20000 in
theorem qb {t:List Int} {K:Bool→World→Prop} (h:Hp E w F) (hl:t.length=258) (hK: ∀w',Hp E w' F→K (aR t) w'):Cl Tryz.prog [kB] jh ⟨[.agg (aT t)]⟩ w K:=by
 refine Bu.ok _ _ _ ?_
 refine Nw.mk h fun b w1 h1=> ?_
 refine ⟨fun i w'=> ∃k:Nat,i=(k:Int)∧k≤258∧aR (t.take k)=true∧Hp E w' (af b (.cells (aT t) 215 (0,0))::F),fun i _=>258 - i.toNat,⟨0,rfl,by omega,rfl,h1⟩,?_⟩
 rintro i w' ⟨k,rfl,hk,hv,hh⟩
 refine aa.mk (fun hlt=> ?_) (fun hge=> ?_)
 ·have hlt:k<258:=by have:=of_decide_eq_true hlt;omega
  have hkl:k<t.length:=by omega
  have es:aR (t.take (k+1))=(aR (t.take k)&&(decide (0≤t[k])&&decide (t[k]≤2147483647))):=by
   unfold aR
   rw [List.take_add_one,List.all_append,List.getElem?_eq_getElem hkl];simp
  rw [hv,Bool.true_and] at es
  have bad:(decide (0≤t[k])&&decide (t[k]≤2147483647))=false→K false w':=fun hb=>by
   rw [←es] at hb
   have e1:aR t=false:=by
    have:=List.take_append_drop (k+1) t
    rw [←this]
    unfold aR at hb⊢
    rw [List.all_append,hb,Bool.false_and]
   have:=hK w' hh.drop
   rw [e1] at this;exact this
  have hx:(aT t)[((k:Nat):Int).toNat]? =some (Sc.enc (.int .i64) t[k]):=by rw [Int.toNat_natCast];exact uJ hkl
  refine aw.rd (s:= .int .i64) hh (by omega) (by omega) _ hx ?_
  refine aa.mk (fun hb=>bad (by have:=of_decide_eq_true hb;simp;omega)) (fun hb=> ?_)
  refine aw.rd (s:= .int .i64) hh (by omega) (by omega) _ hx ?_
  refine aa.mk (fun hb2=>bad (by have:=of_decide_eq_true hb2;simp;omega)) (fun hb2=> ?_)
  have hb:=of_decide_eq_false hb
  have hb2:=of_decide_eq_false hb2
  rw [ae (by omega)]
  exact ⟨⟨k+1,rfl,by omega,by rw [es];simp;omega,hh⟩,by dsimp only;omega⟩
 ·have hge:k=258:=by have:=of_decide_eq_false hge;omega
  subst hge
  have:=hK w' hh.drop
  rw [List.take_of_length_le (by omega)] at hv
  rw [hv] at this;exact this
def gN (x:Nat):List Value:= [vI (x:Int)]
theorem rS: ∀x,(gN x).length=1:=fun _=>rfl
theorem Io: ∀x,∀y∈gN x,aD y=true:=by
 intro x y hy
 have:y=vI (x:Int):=by simpa [gN] using hy
 rw [this];rfl
theorem DC (ys:List Nat):(ints ys).map vI=ys.flatMap gN:=by
 unfold ints
 induction ys with
 |nil=>rfl
 |cons y ys ih=>rw [List.flatMap_cons,←ih];rfl
theorem zr {P:Program} {α:Type} {g:α→List Value} {sz bytes:Nat} {t e:TypeId} {e2:TypeId} {s:Sl} {l:List α} {x:α} {k:Nat} {K:Sl→World→Prop} (he:bJ P t e sz bytes) (hg: ∀x,(g x).length=sz) (hz:0<sz) (hsc: ∀x,∀y∈g x,aD y=true)
  {A:List HP} (h:Hp E w (A++F)) (hs:ad A (aC sz s (l.flatMap g))) (hcap:s.len≤s.cap) (hk:k≤l.length) (hlen:l.length≤2^20) (hby:bytes≤1024) {cs:Array Value} (hcs:cs=⟨g x⟩)
  (hK: ∀s' w',Hp E w' (aj sz s' ((l.take k++x::l.drop k).flatMap g)::(A++F))→K s' w'):
  bf s 0 (k:Int) s.cap sz fun s1=>au P (Builtin.append_ #[t,t] t ⟨[.slice none 0 0,.slice s1.base s1.len s1.cap]⟩) kS w fun s2 w2=>
   Nw e2 cs w2 fun b w3=>au P (Builtin.append_ #[t,t] t ⟨[.slice s2.base s2.len s2.cap,.slice (some ⟨b,0,none⟩) 1 1]⟩) kS w3 fun s3 w4=>
   bf s (k:Int) s.len s.cap sz fun s4=>au P (Builtin.append_ #[t,t] t ⟨[.slice s3.base s3.len s3.cap,.slice s4.base s4.len s4.cap]⟩) kS w4 K:=by
 have H4:ad (A++F) (aC sz s (l.flatMap g)):=hs.tK
 have hl:=aC.len hg hz (h.ag H4)
 have hb: ∀n,n≤2*l.length+4→(2*n+1024)*bytes≤2^48:=fun n hn=>by
  have:(2*n+1024)*bytes≤8388608*1024:=Nat.mul_le_mul (by omega) hby
  omega
 refine bf.el (a:=0) (b:=k) (l:=l) hg hl rfl rfl (by omega) hk (by omega) (Int.le_refl _) fun s1 hs1 hl1 _=> ?_
 have h1:=hs1 w (h.ag H4)
 simp only [List.drop_zero,Nat.sub_zero] at h1
 refine rC (s:=⟨none,0,0⟩) (l:= []) he hg hz hsc (h.bl sz) h1 (hb _ (by simp;omega)) (by simp;omega) fun s2 w2 h2 _=> ?_
 rw [List.nil_append] at h2
 refine rm (g:=g) (x:=x) he hg hz hcs (hsc x) h2 (hb _ (by simp;omega)) (by simp;omega) fun s3 w3 h3 _=> ?_
 refine bf.el (a:=k) (b:=l.length) (l:=l) hg hl rfl (by rw [hl]) hk (Nat.le_refl _) (by omega) (Int.le_refl _) fun s4 hs4 hl4 _=> ?_
 have h4:=hs4 w3 (h3.drop.ag H4)
 rw [List.take_of_length_le (by rw [List.length_drop];omega)] at h4
 refine rC he hg hz hsc h3 h4 (hb _ (by simp;omega)) (by simp;omega) fun s5 w5 h5 _=>hK s5 w5 ?_
 rw [List.append_assoc] at h5
 exact h5
end
end Go.Proofs.YtgglghjnakclmaaGreat
set_option maxRecDepth 20000
namespace Go.Pm
structure Eo where
 w:Nat
 sym:Int
 one:Nat
 two:Nat
def cf (ys:List Nat):List It→Nat→Nat→List Eo
 | [],_,_=> []
 |(w,true)::l,a,b=>⟨w,(ys.getD a 0:Int),0,0⟩::cf ys l (a+1) b
 |(w,false)::l,a,b=>⟨w,-1,2*b,2*b+1⟩::cf ys l a (b+1)
def cD (l:List It):Nat:=(l.filter fun x=> !x.2).length
theorem lf: ∀l:List It,aB l+cD l=l.length
 | []=>rfl
 |(w,true)::l=>by
  have:=lf l
  simp only [aB,cD,List.filter_cons] at*
  simp;omega
 |(w,false)::l=>by
  have:=lf l
  simp only [aB,cD,List.filter_cons] at*
  simp;omega
theorem cA (ys:List Nat): ∀(l:List It) (a b:Nat),(cf ys l a b).length=l.length
 | [],_,_=>rfl
 |(w,true)::l,a,b=>by rw [cf,List.length_cons,cA ys l,List.length_cons]
 |(w,false)::l,a,b=>by rw [cf,List.length_cons,cA ys l,List.length_cons]
theorem mN (ys:List Nat): ∀(l l':List It) (a b:Nat),cf ys (l++l') a b=cf ys l a b++cf ys l' (a+aB l) (b+cD l)
 | [],l',a,b=>rfl
 |(w,true)::l,l',a,b=>by
  rw [List.cons_append,cf,cf,mN ys l,List.cons_append]
  have e1:aB ((w,true)::l)=aB l+1:=by simp [aB]
  have e2:cD ((w,true)::l)=cD l:=by simp [cD]
  rw [e1,e2,show a+1+aB l=a+(aB l+1) by omega]
 |(w,false)::l,l',a,b=>by
  rw [List.cons_append,cf,cf,mN ys l,List.cons_append]
  have e1:aB ((w,false)::l)=aB l:=by simp [aB]
  have e2:cD ((w,false)::l)=cD l+1:=by simp [cD]
  rw [e1,e2,show b+1+cD l=b+(cD l+1) by omega]
theorem vE (ys:List Nat): ∀(l:List It) (a b c:Nat),(∀x∈l,x.2=true)→cf ys l a b=cf ys l a c
 | [],_,_,_,_=>rfl
 |(w,true)::l,a,b,c,h=>by rw [cf,cf,vE ys l (a+1) b c fun x hx=>h x (List.mem_cons_of_mem _ hx)]
 |(w,false)::l,a,b,c,h=>by have:=h (w,false) (by simp);cases this
theorem wK (ys:List Nat) (l:List It) {i:Nat} (hi:i<l.length):(cf ys l 0 0)[i]'(by rw [cA];exact hi)=
  if l[i].2=true then ⟨l[i].1,(ys.getD (aB (l.take i)) 0:Int),0,0⟩ else ⟨l[i].1,-1,2*(i - aB (l.take i)),2*(i - aB (l.take i))+1⟩:=by
 have e:l=l.take i++l[i]::l.drop (i+1):=by rw [List.getElem_cons_drop,List.take_append_drop]
 have hp:=lf (l.take i)
 rw [List.length_take] at hp
 have hl:(cf ys (l.take i) 0 0).length=i:=by rw [cA,List.length_take];omega
 have key:(cf ys l 0 0)[i]? =some (if l[i].2=true then ⟨l[i].1,(ys.getD (aB (l.take i)) 0:Int),0,0⟩ else ⟨l[i].1,-1,2*(i - aB (l.take i)),2*(i - aB (l.take i))+1⟩):=by
  have e2:cf ys l 0 0=cf ys (l.take i) 0 0++cf ys (l[i]::l.drop (i+1)) (0+aB (l.take i)) (0+cD (l.take i)):=by
   rw [←mN,←e]
  rw [e2,List.getElem?_append_right (by omega),hl,Nat.sub_self,Nat.zero_add,Nat.zero_add,show cD (l.take i)=i - aB (l.take i) by omega]
  generalize l[i]=x
  obtain ⟨w,b⟩:=x
  cases b<;>rfl
 rw [List.getElem?_eq_getElem (by rw [cA];exact hi)] at key
 exact Option.some.inj key
theorem yW (ys:List Nat) (l:List It) {i:Nat} (hi:i<l.length):((cf ys l 0 0)[i]'(by rw [cA];exact hi)).w=l[i].1:=by
 rw [wK ys l hi]
 split<;>rfl
def qQ (l:List It) (p:It):List It:=l.takeWhile (fun a=>decide (a.1≤p.1))++p::l.dropWhile fun a=>decide (a.1≤p.1)
theorem Fv {q:It→Bool}: ∀{l:List It},(∀x∈l,q x=true)→l.takeWhile q=l∧l.dropWhile q= []
 | [],_=>⟨rfl,rfl⟩
 |x::l,h=>by
  obtain ⟨h1,h2⟩:=Fv fun y hy=>h y (List.mem_cons_of_mem x hy)
  have:=h x (by simp)
  exact ⟨by rw [List.takeWhile_cons_of_pos this,h1],by rw [List.dropWhile_cons_of_pos this,h2]⟩
theorem F9 (p:It): ∀A B,(∀q∈B,q.1≤p.1)→qQ (bE A B) p=bE A (B++ [p]):=by
 refine mK (fun B hB=> ?_) (fun a A hB=> ?_) (fun a A q B h ih hB=> ?_) (fun a A q B h ih hB=> ?_)
 ·rw [jI,jI]
  unfold qQ
  obtain ⟨h1,h2⟩:=Fv (q:=fun a=>decide (a.1≤p.1)) (l:=B) (fun x hx=>by simpa using hB x hx)
  rw [h1,h2]
 ·rw [mO,List.nil_append];rfl
 ·rw [pJ h,List.cons_append,pJ h,←List.cons_append,←ih hB]
  have:a.1≤p.1:=Nat.le_trans h (hB q (by simp))
  simp [qQ,this]
 ·rw [py h,List.cons_append,py h,←ih fun x hx=>hB x (List.mem_cons_of_mem _ hx)]
  have:q.1≤p.1:=hB q (by simp)
  simp [qQ,this]
theorem Cw {p:It}: ∀{l:List It} {k:Nat},Up l→k≤l.length→(∀j (hj:j<l.length),k≤j→p.1<l[j].1)→(k=0∨∃h:k - 1<l.length,l[k - 1].1≤p.1)→qQ l p=l.take k++p::l.drop k
 | [],k,_,hk,_,_=>by
  have:k=0:=by simpa using hk
  subst this;rfl
 |x::l,0,_,_,h1,_=>by
  have:=h1 0 (by simp) (Nat.le_refl _)
  have h: ¬x.1≤p.1:=by simp only [List.getElem_cons_zero] at this;omega
  simp [qQ,h]
 |x::l,k+1,hu,hk,h1,h2=>by
  obtain ⟨u1,u2⟩:=List.pairwise_cons.1 hu
  have hkl:k≤l.length:=by simpa using hk
  have h2': ∃h:k<(x::l).length,(x::l)[k].1≤p.1:=by
   rcases h2 with h2|h2
   ·omega
   ·simpa using h2
  obtain ⟨hk1,h2'⟩:=h2'
  have hx:x.1≤p.1:=by
   cases k with
   |zero=>exact h2'
   |succ k=>exact Nat.le_trans (u1 _ (List.getElem_mem (by simp at hk1;omega))) h2'
  have ih:=Cw (p:=p) (l:=l) (k:=k) u2 hkl (fun j hj hkj=>by have:=h1 (j+1) (by simp;omega) (by omega);simpa using this) (by
   cases k with
   |zero=>exact .inl rfl
   |succ k=>exact .inr ⟨by simp at hk1;omega,by simpa using h2'⟩)
  have e:qQ (x::l) p=x::qQ l p:=by simp [qQ,hx]
  rw [e,ih,List.take_succ_cons,List.drop_succ_cons,List.cons_append]
def eg (ws:List Nat):Nat→Nat→Nat→Nat
 |0,i,j=>if j=i then 1 else 0
 |k+1,i,j=>if ((row ws (k+1)).getD i (0,true)).2=true then (if j=aB ((row ws (k+1)).take i) then 1 else 0) else
   eg ws k (2*(i - aB ((row ws (k+1)).take i))) j+eg ws k (2*(i - aB ((row ws (k+1)).take i))+1) j
theorem zJ (ws:List Nat) (k i j:Nat):eg ws (k+1) i j=if ((row ws (k+1)).getD i (0,true)).2=true then (if j=aB ((row ws (k+1)).take i) then 1 else 0) else
   eg ws k (2*(i - aB ((row ws (k+1)).take i))) j+eg ws k (2*(i - aB ((row ws (k+1)).take i))+1) j:=rfl
theorem zF (l:List It):aB l≤l.length:=by have:=lf l;omega
theorem vO {l:List It} {j:Nat} (h:j<l.length):aB (l.take (j+1))=aB (l.take j)+if l[j].2=true then 1 else 0:=by
 unfold aB
 rw [List.take_add_one,List.filter_append,List.length_append,List.getElem?_eq_getElem h]
 congr 1
 by_cases e:l[j].2=true
 ·rw [if_pos e];simp [e]
 ·rw [if_neg e];simp [e]
theorem ur {ws:List Nat} (h:mW ws) (j:Nat): ∀(k m:Nat),m≤(row ws k).length→aJ m (fun i=>eg ws k i j)=lv ws k m j
 |0,m,hm=>by
  have hm':m≤ws.length:=by rw [row,cg] at hm;exact hm
  unfold lv whole
  rw [(nN m hm').1]
  have key: ∀m,aJ m (fun i=>eg ws 0 i j)=if j<m then 1 else 0:=by
   intro m
   induction m with
   |zero=>simp [aJ]
   |succ m ih=>
    rw [bN,ih]
    unfold eg
    by_cases h1:j<m
    ·rw [if_pos h1,if_neg (by omega),if_pos (by omega)]
    ·by_cases h2:j=m
     ·rw [if_neg h1,if_pos h2,if_pos (by omega)]
     ·rw [if_neg h1,if_neg h2,if_neg (by omega)]
  exact key m
 |k+1,m,hm=>by
  have key: ∀m,m≤(row ws (k+1)).length→aJ m (fun i=>eg ws (k+1) i j)=(if j<aB ((row ws (k+1)).take m) then 1 else 0)+aJ (2*(m - aB ((row ws (k+1)).take m))) (fun i=>eg ws k i j):=by
   intro m
   induction m with
   |zero=>intro _;simp [aJ,aB]
   |succ m ih=>
    intro hm
    have hlt:m<(row ws (k+1)).length:=by omega
    have hl:=zF ((row ws (k+1)).take m)
    rw [List.length_take] at hl
    have hg:(row ws (k+1)).getD m (0,true)=(row ws (k+1))[m]:=by rw [List.getD_eq_getElem?_getD,List.getElem?_eq_getElem hlt];rfl
    rw [bN,ih (by omega),vO hlt,zJ ws k m j,hg]
    generalize hq:aB ((row ws (k+1)).take m)=q at hl
    by_cases e:(row ws (k+1))[m].2=true
    ·rw [if_pos e,if_pos e,show m+1 - (q+1)=m - q by omega]
     by_cases h1:j<q
     ·rw [if_pos h1,if_neg (by omega),if_pos (by omega)];rfl
     ·by_cases h2:j=q
      ·rw [if_neg h1,if_pos h2,if_pos (by omega)];omega
      ·rw [if_neg h1,if_neg h2,if_neg (by omega)];omega
    ·rw [if_neg e,if_neg e,show q+0=q from rfl,show 2*(m+1 - q)=2*(m - q)+1+1 by omega,bN,bN]
     omega
  have c3:=(jC h k m hm).2.2.1
  rw [key m hm,ur h j k _ c3,lv]
  rfl
end Go.Pm
set_option maxRecDepth 20000
namespace Go.Proofs.YtgglghjnakclmaaGreat
open Go Go.Vc Go.Srt Go.Pm
section
variable {E w:World} {F:List HP}
theorem An:bJ Tryz.prog 142 3 1 8:=bJ.of (by kernel_rfl) (by kernel_rfl)
set_option maxRecDepth 20000 in
theorem zp {t:List Int} {K:Sl→World→Prop} (h:Hp E w F) (hl:t.length=258) (hK1:aR t=false→∀w',Hp E w' F→K ⟨none,0,0⟩ w')
  (hK2: ∀l,t=ints l→kJ l→l.length=258→∀ys s w',bo l ys→Hp E w' (aj 1 s ((ints ys).map vI)::F)→K s w'):Cl Tryz.prog [kS] jl ⟨[.agg (aT t)]⟩ w K:=by
 refine A7.ok _ _ _ ?_
 simp only [ao]
 refine Nw.mk h fun b w1 h1=>(Bool.eq_false_or_eq_true (aR t)).symm.elim (fun hv=> ?_) (fun hv=> ?_)
 ·refine ⟨fun o i w'=>o=⟨none,0,0⟩∧i=0∧Hp E w' (af b (.cells (aT t) 215 (0,0))::F),fun _ _ _=>0,⟨rfl,rfl,h1⟩,?_⟩
  rintro o i w' ⟨rfl,rfl,hh⟩
  exact aa.t (by decide) (Ld.arr hh (by rw [bA,hl]) (qb hh hl fun w3 h3=>aa.f hv (hK1 hv w3 h3.drop)))
 obtain ⟨l,rfl,hm⟩:=vH hv
 have hl':l.length=258:=by rw [cF] at hl;exact hl
 refine ⟨fun o i w'=> ∃(k:Nat) (ys:List Nat),i=(k:Int)∧k≤258∧ys.Perm ((List.range k).filter fun s=>decide (0<l.getD s 0))∧(ys.Pairwise fun a b=>l.getD a 0<l.getD b 0∨(l.getD a 0=l.getD b 0∧a<b))∧
    Hp E w' (aj 1 o (ys.flatMap gN)::af b (.cells (aT (ints l)) 215 (0,0))::F),fun _ i _=>258 - i.toNat,⟨0,[],rfl,by omega,.refl _,.nil,h1.bl 1⟩,?_⟩
 rintro o i w' ⟨k,ys,rfl,hk,hp,ho,hh⟩
 have fin:k=258→K o w':=fun e=>by
  subst e
  refine hK2 l rfl hm hl' ys o w' ⟨?_,ho⟩ ?_
  ·unfold used;rw [hl'];exact hp
  ·rw [DC];exact hh.p1.drop
 refine aa.mk (fun hlt=> ?_) (fun hge=>fin (by have:=of_decide_eq_false hge;omega))
 have hlt:k<258:=by have:=of_decide_eq_true hlt;omega
 have hin: ∀x∈ys,x<k:=fun x hx=>by
  have:=(List.mem_filter.1 (hp.mem_iff.1 hx)).1
  simpa using this
 have hyl:ys.length≤k:=by
  rw [hp.length_eq]
  have:=List.length_filter_le (fun s=>decide (0<l.getD s 0)) (List.range k)
  simpa using this
 refine Ld.arr hh.p1 (by rw [bA,hl]) (qb hh hl fun w3 h3=>aa.t hv ?_)
 have h3':=h3
 rw [kz] at h3'
 refine aw.rd (s:= .int .i64) h3'.p1 (by omega) (by omega) _ (qL (by omega)) ?_
 rw [ae (x:=(k:Int)+1) (by omega)]
 have es:(List.range (k+1)).filter (fun s=>decide (0<l.getD s 0))=(List.range k).filter (fun s=>decide (0<l.getD s 0))++if 0<l.getD k 0 then [k] else []:=iN
 refine aa.mk (fun h0=> ?_) (fun h0=> ?_)
 ·have h0:l.getD k 0=0:=by have:(l.getD k 0:Int)=0:=by simpa using h0
                           omega
  rw [if_neg (by omega),List.append_nil] at es
  exact ⟨⟨k+1,ys,rfl,by omega,by rw [es];exact hp,ho,h3⟩,by dsimp only;omega⟩
 ·have h0:0<l.getD k 0:=by have: ¬(l.getD k 0:Int)=0:=by simpa using h0
                           omega
  rw [if_pos h0] at es
  have hol:=aC.len rS (by decide) (h3.ag ad.own)
  have hoc:=h3.jR
  refine ⟨fun i w'=> ∃n:Nat,i=(n:Int)∧n≤ys.length∧(∀j (hj:j<ys.length),n≤j→l.getD k 0<l.getD ys[j] 0)∧Hp E w' (aj 1 o (ys.flatMap gN)::af b (.cells (aT (ints l)) 215 (0,0))::F),fun i _=>i.toNat,⟨ys.length,by rw [hol],Nat.le_refl _,fun j hj hn=>by omega,h3⟩,?_⟩
  rintro i w4 ⟨n,rfl,hn,hgt,hh⟩
  refine aK.mk hh fun w5 h5=> ?_
  have put: ∀w5,Hp E w5 ([aj 1 o (ys.flatMap gN)]++(af b (.cells (aT (ints l)) 215 (0,0))::F))→(n=0∨∃h:n - 1<ys.length,l.getD ys[n - 1] 0≤l.getD k 0)→∀s' w',Hp E w' (aj 1 s' ((ys.take n++k::ys.drop n).flatMap gN)::([aj 1 o (ys.flatMap gN)]++(af b (.cells (aT (ints l)) 215 (0,0))::F)))→
    (∃(k':Nat) (zs:List Nat),(k:Int)+1=(k':Int)∧k'≤258∧zs.Perm ((List.range k').filter fun s=>decide (0<l.getD s 0))∧(zs.Pairwise fun a b=>l.getD a 0<l.getD b 0∨(l.getD a 0=l.getD b 0∧a<b))∧
    Hp E w' (aj 1 s' (zs.flatMap gN)::af b (.cells (aT (ints l)) 215 (0,0))::F))∧258 - ((k:Int)+1).toNat<258 - (k:Int).toNat:=by
   intro w5 h5 hle s' w6 h6
   refine ⟨⟨k+1,ys.take n++k::ys.drop n,rfl,by omega,?_,Dl hp ho hn hgt hle,h6.p1.drop⟩,by omega⟩
   rw [es]
   refine List.perm_middle.trans ?_
   rw [List.take_append_drop]
   refine (List.Perm.cons k hp).trans ?_
   exact (List.perm_append_singleton k _).symm
  refine aa.mk (fun hpos=> ?_) (fun hpos=> ?_)
  ·have hpos:0<n:=by have:=of_decide_eq_true hpos;omega
   have hn1:n - 1<ys.length:=by omega
   have hx:=hin _ (List.getElem_mem hn1)
   have h5':=h5
   rw [kz] at h5'
   rw [show i64 ((n:Int) - 1)=((n - 1:Nat):Int) by rw [ae (by omega)];omega]
   refine zB (i:=n - 1) (ys:=ys) (by rw [DC];exact h5.ag ad.own) hn1 ?_
   refine aw.rd (s:= .int .i64) h5'.p1 (by omega) (by omega) _ (qL (by omega)) ?_
   refine aw.rd (s:= .int .i64) h5'.p1 (by omega) (by omega) _ (qL (by omega)) ?_
   refine aa.mk (fun hc=> ?_) (fun hc=> ?_)
   ·have hc:l.getD k 0<l.getD ys[n - 1] 0:=by have:=of_decide_eq_true hc;omega
    refine ⟨⟨n - 1,rfl,by omega,fun j hj hnj=> ?_,h5⟩,by dsimp only;omega⟩
    by_cases e:j=n - 1
    ·subst e;exact hc
    ·exact hgt j hj (by omega)
   ·have hc:l.getD ys[n - 1] 0≤l.getD k 0:=by have:=of_decide_eq_false hc;omega
    exact zr (e:=3) An rS (by decide) Io (A:= [aj 1 o (ys.flatMap gN)]) (F:=af b (.cells (aT (ints l)) 215 (0,0))::F) h5 ad.own hoc hn (by omega) (by decide) rfl (put w5 h5 (.inr ⟨hn1,hc⟩))
  ·have hpos:n=0:=by have:=of_decide_eq_false hpos;omega
   exact zr (e:=3) An rS (by decide) Io (A:= [aj 1 o (ys.flatMap gN)]) (F:=af b (.cells (aT (ints l)) 215 (0,0))::F) h5 ad.own hoc hn (by omega) (by decide) rfl (put w5 h5 (.inl hpos))
end
end Go.Proofs.YtgglghjnakclmaaGreat
set_option maxRecDepth 20000
namespace Go.Proofs.YtgglghjnakclmaaGreat
open Go Go.Vc Go.Srt Go.Pm
section
variable {E w:World} {F:List HP}
def cR (x:Eo):List Value:= [.int .i64 (x.w:Int),.int .i64 x.sym,.int .i64 (x.one:Int),.int .i64 (x.two:Int)]
theorem cU: ∀x,(cR x).length=4:=fun _=>rfl
theorem j8: ∀x,∀y∈cR x,aD y=true:=by
 intro x y hy
 simp only [cR,List.mem_cons,List.not_mem_nil,or_false] at hy
 rcases hy with rfl|rfl|rfl|rfl<;>rfl
theorem n7:bJ Tryz.prog 361 363 4 32:=bJ.of (by kernel_rfl) (by kernel_rfl)
theorem Ke:bJ Tryz.prog 315 361 1 24:=bJ.of (by kernel_rfl) (by kernel_rfl)
abbrev RK:List Sc:= [.int .i64,.int .i64,.int .i64,.int .i64]
def tR (x:Eo):TT RK:=((x.w:Int),x.sym,(x.one:Int),(x.two:Int),())
set_option maxRecDepth 20000 in
theorem Ls {s:Sl} {l:List Eo} {x:Eo} {K:Sl→World→Prop} (h:Hp E w F) (hs:ad F (aC 4 s (l.flatMap cR))) (hcap:s.len≤s.cap) (hlen:l.length≤2^20)
  (hK: ∀k s' w',k≤l.length→(∀j (hj:j<l.length),k≤j→x.w<l[j].w)→(k=0∨∃h:k - 1<l.length,l[k - 1].w≤x.w)→Hp E w' (aj 4 s' ((l.take k++x::l.drop k).flatMap cR)::F)→K s' w'):
  Cl Tryz.prog [kS] oF ⟨[.slice s.base s.len s.cap,.agg ⟨fR RK (tR x)⟩]⟩ w K:=by
 refine D3.ok s (tR x) _ _ ?_
 have hl:=aC.len cU (by decide) (h.ag hs)
 refine Nw.mk h fun b w1 h1=> ?_
 refine ⟨fun i w'=> ∃n:Nat,i=(n:Int)∧n≤l.length∧(∀j (hj:j<l.length),n≤j→x.w<l[j].w)∧Hp E w' (af b (.cells ⟨cR x⟩ 363 (0,0))::F),fun i _=>i.toNat,⟨l.length,by rw [hl],Nat.le_refl _,fun j hj hn=>by omega,h1⟩,?_⟩
 rintro i w2 ⟨n,rfl,hn,hgt,hh⟩
 refine aK.mk hh fun w3 h3=> ?_
 refine aa.mk (fun hpos=> ?_) (fun hpos=> ?_)
 ·have hpos:0<n:=by have:=of_decide_eq_true hpos;omega
  have hn1:n - 1<l.length:=by omega
  rw [show i64 ((n:Int) - 1)=((n - 1:Nat):Int) by rw [ae (by omega)];omega]
  refine an.el (n:=n - 1) cU (by decide) (h3.drop.ag hs) rfl hn1 fun p hp=> ?_
  refine Ld.sc (s:= .int .i64) (l[n - 1].w:Int) (by rw [hp 0 (by decide)];simp [cR]) ?_
  rw [al]
  refine Ld.aG h3 (x.w:Int) (by simp [cR]) ?_
  refine aa.mk (fun hc=> ?_) (fun hc=> ?_)
  ·have hc:x.w<l[n - 1].w:=by have:=of_decide_eq_true hc;omega
   refine ⟨⟨n - 1,rfl,by omega,fun j hj hnj=> ?_,h3⟩,by dsimp only;omega⟩
   by_cases e:j=n - 1
   ·subst e;exact hc
   ·exact hgt j hj (by omega)
  ·have hc:l[n - 1].w≤x.w:=by have:=of_decide_eq_false hc;omega
   refine bf.el (a:=0) (b:=n) (l:=l) cU hl rfl rfl (by omega) hn (by omega) (Int.le_refl _) fun s1 hs1 hl1 _=> ?_
   have q1:=hs1 w3 (h3.drop.ag hs)
   simp only [List.drop_zero,Nat.sub_zero] at q1
   refine rC (s:=⟨none,0,0⟩) (l:= []) n7 cU (by decide) j8 (h3.bl 4) q1 (by simp;omega) (by simp;omega) fun s2 w4 h4 _=> ?_
   rw [List.nil_append] at h4
   refine Ld.yL (ks:=RK) h4.p1 (tR x) rfl ?_
   refine rm (g:=cR) (x:=x) n7 cU (by decide) rfl (j8 x) h4 (by simp;omega) (by simp;omega) fun s3 w5 h5 _=> ?_
   refine bf.el (a:=n) (b:=l.length) (l:=l) cU hl rfl (by rw [hl]) hn (Nat.le_refl _) (by omega) (Int.le_refl _) fun s4 hs4 hl4 _=> ?_
   have q4:=hs4 w5 (h5.drop.drop.ag hs)
   rw [List.take_of_length_le (by rw [List.length_drop];omega)] at q4
   refine rC n7 cU (by decide) j8 h5 q4 (by simp;omega) (by simp;omega) fun s5 w6 h6 _=>hK n s5 w6 hn hgt (.inr ⟨hn1,hc⟩) ?_
   rw [List.append_assoc] at h6
   exact h6.p1.drop
 ·have hpos:n=0:=by have:=of_decide_eq_false hpos;omega
  refine bf.el (a:=0) (b:=n) (l:=l) cU hl rfl rfl (by omega) hn (by omega) (Int.le_refl _) fun s1 hs1 hl1 _=> ?_
  have q1:=hs1 w3 (h3.drop.ag hs)
  simp only [List.drop_zero,Nat.sub_zero] at q1
  refine rC (s:=⟨none,0,0⟩) (l:= []) n7 cU (by decide) j8 (h3.bl 4) q1 (by simp;omega) (by simp;omega) fun s2 w4 h4 _=> ?_
  rw [List.nil_append] at h4
  refine Ld.yL (ks:=RK) h4.p1 (tR x) rfl ?_
  refine rm (g:=cR) (x:=x) n7 cU (by decide) rfl (j8 x) h4 (by simp;omega) (by simp;omega) fun s3 w5 h5 _=> ?_
  refine bf.el (a:=n) (b:=l.length) (l:=l) cU hl rfl (by rw [hl]) hn (Nat.le_refl _) (by omega) (Int.le_refl _) fun s4 hs4 hl4 _=> ?_
  have q4:=hs4 w5 (h5.drop.drop.ag hs)
  rw [List.take_of_length_le (by rw [List.length_drop];omega)] at q4
  refine rC n7 cU (by decide) j8 h5 q4 (by simp;omega) (by simp;omega) fun s5 w6 h6 _=>hK n s5 w6 hn hgt (.inl hpos) ?_
  rw [List.append_assoc] at h6
  exact h6.p1.drop
def ir (ys ws:List Nat) (rs:List Sl) (G:List HP):Prop:= ∀j (hj:j<rs.length),ad G (aC 4 rs[j] ((cf ys (row ws j) 0 0).flatMap cR))∧rs[j].len≤rs[j].cap
theorem ir.more {ys ws:List Nat} {rs:List Sl} {G:List HP} {s:Sl} (h:ir ys ws rs G) (hc:s.len≤s.cap):ir ys ws (rs++ [s]) (aj 4 s ((cf ys (row ws rs.length) 0 0).flatMap cR)::G):=by
 intro j hj
 rcases Nat.lt_or_ge j rs.length with hlt|hge
 ·rw [List.getElem_append_left hlt]
  exact ⟨(h j hlt).1.cons,(h j hlt).2⟩
 ·have:j=rs.length:=by simp at hj;omega
  subst this
  simp only [List.getElem_append_right (Nat.le_refl _),Nat.sub_self,List.getElem_cons_zero]
  exact ⟨ad.own,hc⟩
theorem ir.imp {ys ws:List Nat} {rs:List Sl} {G G':List HP} (h:ir ys ws rs G) (hG: ∀φ,ad G φ→ad G' φ):ir ys ws rs G':=fun j hj=>⟨hG _ (h j hj).1,(h j hj).2⟩
theorem Jr {ys ws:List Nat} {P:List It} {p:It} {k:Nat} (hw:mW ws) (hu:Up P) (hP: ∀q∈P,q.1≤p.1) (hf: ∀q∈P,q.2=false) (hp:p.2=false) (hk:k≤(cf ys (bE (bx ws) P) 0 0).length)
  (h1: ∀j (hj:j<(cf ys (bE (bx ws) P) 0 0).length),k≤j→p.1<(cf ys (bE (bx ws) P) 0 0)[j].w) (h2:k=0∨∃h:k - 1<(cf ys (bE (bx ws) P) 0 0).length,(cf ys (bE (bx ws) P) 0 0)[k - 1].w≤p.1):
  (cf ys (bE (bx ws) P) 0 0).take k++⟨p.1,-1,2*P.length,2*P.length+1⟩::(cf ys (bE (bx ws) P) 0 0).drop k=cf ys (bE (bx ws) (P++ [p])) 0 0:=by
 rw [cA] at hk
 have h1': ∀j (hj:j<(bE (bx ws) P).length),k≤j→p.1<(bE (bx ws) P)[j].1:=fun j hj hkj=>by
  have:=h1 j (by rw [cA];exact hj) hkj
  rwa [yW ys _ hj] at this
 have h2':k=0∨∃h:k - 1<(bE (bx ws) P).length,(bE (bx ws) P)[k - 1].1≤p.1:=by
  rcases h2 with h2|⟨h3,h2⟩
  ·exact .inl h2
  ·rw [cA] at h3
   refine .inr ⟨h3,?_⟩
   rwa [yW ys _ h3] at h2
 have hins:=Cw (p:=p) (EP _ _ (rp hw) hu) hk h1' h2'
 rw [F9 p _ _ hP] at hins
 have hleaf: ∀x∈(bE (bx ws) P).drop k,x.2=true:=by
  intro x hx
  obtain ⟨i,hi,rfl⟩:=List.getElem_of_mem hx
  rw [List.length_drop] at hi
  rw [List.getElem_drop]
  have hgt:=h1' (k+i) (by omega) (by omega)
  rcases List.mem_append.1 ((kR _ _).mem_iff.1 (List.getElem_mem (show k+i<(bE (bx ws) P).length by omega))) with hm|hm
  ·obtain ⟨y,_,e⟩:=List.mem_map.1 hm
   rw [←e]
  ·have:=hP _ hm
   omega
 have hpk:cD ((bE (bx ws) P).take k)=P.length:=by
  have e1:cD (bE (bx ws) P)=P.length:=by
   have hperm:=kR (bx ws) P
   have:cD (bE (bx ws) P)=cD (bx ws++P):=(hperm.filter _).length_eq
   rw [this]
   unfold cD
   rw [List.filter_append,List.length_append,List.filter_eq_nil_iff.2,List.filter_eq_self.2]
   ·simp
   ·intro x hx;simp [hf x hx]
   ·intro x hx;obtain ⟨y,_,rfl⟩:=List.mem_map.1 hx;simp
  have e2:cD ((bE (bx ws) P).drop k)=0:=by
   unfold cD
   rw [List.length_eq_zero_iff,List.filter_eq_nil_iff]
   intro x hx;simp [hleaf x hx]
  have e3:cD (bE (bx ws) P)=cD ((bE (bx ws) P).take k)+cD ((bE (bx ws) P).drop k):=by
   conv=>lhs;rw [←List.take_append_drop k (bE (bx ws) P)]
   unfold cD
   rw [List.filter_append,List.length_append]
  omega
 rw [hins]
 generalize hX:(bE (bx ws) P).take k=X at hpk
 generalize hY:(bE (bx ws) P).drop k=Y at hleaf
 have hXY:bE (bx ws) P=X++Y:=by rw [←hX,←hY,List.take_append_drop]
 have hXl:(cf ys X 0 0).length=k:=by rw [cA,←hX,List.length_take];omega
 rw [hXY,mN,mN,←hXl,List.take_left,List.drop_left]
 obtain ⟨pw,pb⟩:=p
 simp only at hp
 subst hp
 rw [cf,Nat.zero_add,Nat.zero_add,hpk,vE ys Y _ P.length (P.length+1) hleaf]
theorem CQ {R:List It} {j:Nat} (h:2*j+1<R.length):(aU R).take (j+1)=(aU R).take j++ [((R[2*j]'(by omega)).1+R[2*j+1].1,false)]:=by
 have key: ∀(j:Nat) (R:List It) (h:2*j+1<R.length),(aU R)[j]? =some ((R[2*j]'(by omega)).1+R[2*j+1].1,false):=by
  intro j
  induction j with
  |zero=>
   intro R h
   match R,h with
   |a::b::R,_=>rfl
  |succ j ih=>
   intro R h
   match R,h with
   |a::b::R,h=>
    rw [aU,List.getElem?_cons_succ,ih R (by simp at h;omega)]
    rfl
 rw [List.take_add_one,key j R h];rfl
end
end Go.Proofs.YtgglghjnakclmaaGreat
set_option maxRecDepth 20000
namespace Go.Proofs.YtgglghjnakclmaaGreat
open Go Go.Vc Go.Srt Go.Pm
section
variable {E w:World} {F:List HP}
theorem ID {ys ws:List Nat} {k:Nat} (h:k<ws.length):cf ys (bx (ws.take (k+1))) 0 0=cf ys (bx (ws.take k)) 0 0++ [⟨ws[k],(ys.getD k 0:Int),0,0⟩]:=by
 rw [ze h,mN,n9,List.length_take,Nat.zero_add,Nat.min_eq_left (by omega)]
 rfl
set_option maxRecDepth 20000 in
theorem KD {l ys:List Nat} {N:Nat} {K:Sl→World→Prop} (h:Hp E w F) (hl:l.length=258) (hm:kJ l) (hN1:1≤N) (hN:N≤15) (hys:bo l ys)
  (hK: ∀out rs G w',rs.length=N→ir ys (az l ys) rs G→Hp E w' (aj 1 out (rs.flatMap iy)::(G++F))→K out w'):Cl Tryz.prog [kS] nO ⟨[.agg (ai .i64 l),.int .i64 (N:Int)]⟩ w K:=by
 refine CZ.ok _ _ _ _ ?_
 have hvl:aR (ints l)=true:=iu hm
 have hlen:=vg hl hys
 have hin2: ∀s∈ys,s<258:=fun s hs=>(pO hl hys s hs).1
 have hwl:(az l ys).length=ys.length:=List.length_map _
 have hasc:=pF hys
 refine Nw.mk h fun b4 w1 h1=>Ld.arr h1 (by rw [av,hl]) ?_
 rw [←kz] at h1⊢
 refine zp h1 (by rw [cF,hl]) (fun hv=>by rw [hvl] at hv;cases hv) fun l' hll hm' hl' zs s w2 hzs h2=> ?_
 have:l=l':=(List.map_inj_right (fun x y h=>by have h:(x:Int)=(y:Int):=h;omega)).1 hll
 subst this
 obtain rfl:=tV hys hzs
 rw [DC,kz] at h2
 have hsl:=aC.len rS (by decide) (h2.ag ad.own)
 refine ⟨fun o i w'=> ∃k:Nat,i=(k:Int)∧k≤ys.length∧Hp E w' (aj 4 o ((cf ys (bx ((az l ys).take k)) 0 0).flatMap cR)::aj 1 s (ys.flatMap gN)::af b4 (.cells (ai .i64 l) 215 (0,0))::F),fun _ i _=>ys.length - i.toNat,⟨0,rfl,by omega,h2.bl 4⟩,?_⟩
 rintro o i w3 ⟨k,rfl,hk,hh⟩
 refine aa.mk (fun hlt=> ?_) (fun hge=> ?_)
 ·have hlt:k<ys.length:=by have:=of_decide_eq_true hlt;omega
  have hx:=hin2 _ (List.getElem_mem hlt)
  have hd:Hp E {w3 with drawn:=w3.drawn+1} _:=hh.drew
  refine ⟨cY E (aj 1 s (ys.flatMap gN)::af b4 (.cells (ai .i64 l) 215 (0,0))::F),cY.r9 hd,?_⟩
  have rd: ∀{K:Int→Prop},K (ys[k]:Int)→an s (k:Int) 1 fun q=>aH kI q (cY E (aj 1 s (ys.flatMap gN)::af b4 (.cells (ai .i64 l) 215 (0,0))::F)) K:=fun {K} hK=>
   an.KY (n:=k) rS (by decide) hd.drop ad.own rfl hlt fun p hp=>aH.sc (s:= .int .i64) (ys[k]:Int) (fun w2 h2=>by
    have:=h2.ag (hp 0 (by decide))
    rw [add_zero] at this
    rw [this];rfl) hK
  refine rd ⟨by omega,by omega,?_⟩
  rw [al]
  refine aH.aG (s:= .int .i64) (fun w2 h2=>h2.E6) (l.getD ys[k] 0:Int) (by rw [Nat.zero_add,Nat.mul_one];exact qL (by omega)) ?_
  refine rd (Nw.mk hd fun b22 w4 h4=>⟨cY.DW h4,?_⟩)
  have hol:=aC.len cU (by decide) (hh.ag ad.own)
  have hll2:(cf ys (bx ((az l ys).take k)) 0 0).length=k:=by rw [cA,cg,List.length_take];omega
  refine aI (ys:=cR ⟨l.getD ys[k] 0,(ys[k]:Int),0,0⟩) (n:=1) n7 (by decide) (.inl ⟨363,by kernel_rfl⟩) h4.p1 (.inl ⟨_,_,_,rfl,rfl,h4.ag (ad.aG rfl rfl)⟩) rfl (j8 _) (by omega) (by omega) fun s' w5 h5 _=>⟨cY.DW h5,?_⟩
  rw [ae (by omega)]
  refine ⟨⟨k+1,rfl,by omega,?_⟩,by dsimp only;omega⟩
  have e:(az l ys)[k]'(by omega)=l.getD ys[k] 0:=by simp [az]
  rw [ID (by omega),List.flatMap_append,e,jE hlt]
  simpa using h5.p1.drop
 ·have hge:k=ys.length:=by have:=of_decide_eq_false hge;omega
  subst hge
  rw [List.take_of_length_le (by omega)] at hh
  have hoc:=hh.jR
  refine Nw.mk hh fun b26 w5 h5=> ?_
  refine ⟨fun out k w'=> ∃(rs:List Sl) (G:List HP),k=(rs.length:Int)∧1≤rs.length∧rs.length≤N∧rs[0]? =some o∧ir ys (az l ys) rs G∧
    Hp E w' (aj 1 out (rs.flatMap iy)::aj 1 s (ys.flatMap gN)::af b4 (.cells (ai .i64 l) 215 (0,0))::(G++F)),
   fun _ k _=>N - k.toNat,⟨[o],[aj 4 o ((cf ys (bx (az l ys)) 0 0).flatMap cR)],rfl,Nat.le_refl _,hN1,rfl,?_,?_⟩,?_⟩
  ·intro j hj
   have:j=0:=by simp at hj;omega
   subst this
   exact ⟨ad.own,hoc⟩
  ·exact (h5.fo (sz:=1) (n:=1) rfl).p1.q3
  rintro out k w6 ⟨rs,G,rfl,hr1,hrN,hr0,hrs,hh⟩
  have hrl:=aC.len gi (by decide) (hh.ag ad.own)
  refine aa.mk (fun hlt=> ?_) (fun hge=>hK out rs G w6 (by have:=of_decide_eq_false hge;omega) hrs (hh.p1.drop.p1.drop))
  have hlt:rs.length<N:=by have:=of_decide_eq_true hlt;omega
  have hr0':rs[0]=o:=by rw [List.getElem?_eq_getElem (by omega)] at hr0;exact Option.some.inj hr0
  rw [show i64 ((rs.length:Int) - 1)=((rs.length - 1:Nat):Int) by rw [ae (by omega)];omega]
  refine an.el (n:=rs.length - 1) gi (by decide) (hh.ag ad.own) rfl (by omega) fun p hp=> ?_
  refine Ld.sc (s:= .sl) rs[rs.length - 1] (by have:=hp 0 (by decide);rw [add_zero] at this;rw [this];rfl) ?_
  have ht0:=(hrs 0 (by omega)).1
  rw [hr0'] at ht0
  have htk:=hrs (rs.length - 1) (by omega)
  refine Nw.mk hh fun b35 w7 h7=> ?_
  have ht0':ad (aj 1 out (rs.flatMap iy)::aj 1 s (ys.flatMap gN)::af b4 (.cells (ai .i64 l) 215 (0,0))::(G++F)) (aC 4 o ((cf ys (row (az l ys) 0) 0 0).flatMap cR)):=ad.cons (ad.cons (ad.cons ht0.tK))
  have htk':ad (aj 1 out (rs.flatMap iy)::aj 1 s (ys.flatMap gN)::af b4 (.cells (ai .i64 l) 215 (0,0))::(G++F)) (aC 4 rs[rs.length - 1] ((cf ys (row (az l ys) (rs.length - 1)) 0 0).flatMap cR)):=ad.cons (ad.cons (ad.cons htk.1.tK))
  have hx0:=aC.len cU (by decide) (h7.drop.ag htk')
  rw [cA] at hx0
  have hrk2:=mf (az l ys) (rs.length - 1)
  have hw60:=Ip (ys:=ys) hm (k:=rs.length - 1) (by omega)
  have h0l:(cf ys (row (az l ys) 0) 0 0).length=ys.length:=by rw [cA,row,cg,hwl]
  refine rC (s:=⟨some ⟨b35,0,none⟩,0,0⟩) (l:= []) n7 cU (by decide) j8 (h7.fo (sz:=4) (n:=0) rfl) (h7.drop.ag ht0') (by simp;omega) (by simp;omega) fun s37 w8 h8 _=> ?_
  rw [List.nil_append] at h8
  generalize hR:row (az l ys) (rs.length - 1)=R at*
  have hpl:=dY R
  refine ⟨fun rw41 i w'=> ∃j:Nat,i=((2*j:Nat):Int)∧2*j≤R.length∧Hp E w' (aj 4 rw41 ((cf ys (bE (bx (az l ys)) ((aU R).take j)) 0 0).flatMap cR)::aj 1 out (rs.flatMap iy)::aj 1 s (ys.flatMap gN)::af b4 (.cells (ai .i64 l) 215 (0,0))::(G++F)),
   fun _ i _=>R.length - i.toNat,⟨0,rfl,by omega,by simpa [row,mO] using h8⟩,?_⟩
  rintro rw41 i w9 ⟨j,rfl,hj,hh⟩
  have hml:(cf ys (bE (bx (az l ys)) ((aU R).take j)) 0 0).length≤2^20:=by rw [cA,wT,cg,List.length_take];omega
  rw [ae (x:=((2*j:Nat):Int)+1) (by omega)]
  refine aa.mk (fun hlt2=> ?_) (fun hge2=> ?_)
  ·have hlt2:2*j+1<R.length:=by have:=of_decide_eq_true hlt2;omega
   have hx1:=hw60 _ (List.getElem_mem (show 2*j<R.length by omega))
   have hx2:=hw60 _ (List.getElem_mem hlt2)
   refine aK.mk hh fun w10 h10=> ?_
   refine an.el (n:=2*j) cU (by decide) (h10.drop.ag htk') rfl (by rw [cA];omega) fun p hp=> ?_
   refine Ld.sc (s:= .int .i64) ((R[2*j]'(by omega)).1:Int) (by rw [hp 0 (by decide)];simp only [cR,List.getElem?_cons_zero];rw [yW ys R (by omega)]) ?_
   refine an.el (n:=2*j+1) cU (by decide) (h10.drop.ag htk') (by omega) (by rw [cA];omega) fun q hq=> ?_
   refine Ld.sc (s:= .int .i64) (R[2*j+1].1:Int) (by rw [hq 0 (by decide)];simp only [cR,List.getElem?_cons_zero];rw [yW ys R hlt2]) ?_
   have hsn:=CQ hlt2
   have hup:=tI R (by rw [←hR];exact EF hasc _)
   rw [ae (x:=((R[2*j]'(by omega)).1:Int)+(R[2*j+1].1:Int)) (by omega),ae (x:=((2*j:Nat):Int)+2) (by omega)]
   generalize hp1:(R[2*j]'(by omega)).1+R[2*j+1].1=p1 at hsn
   rw [show ((R[2*j]'(by omega)).1:Int)+(R[2*j+1].1:Int)=(p1:Int) by omega,show ((2*j:Nat):Int)+1=((2*j+1:Nat):Int) by omega]
   have hall: ∀q∈(aU R).take j,q.1≤p1:=by
    have hu2:Up ((aU R).take (j+1)):=List.Pairwise.sublist (List.take_sublist ..) hup
    rw [hsn] at hu2
    intro q hq
    exact (List.pairwise_append.1 hu2).2.2 q hq (p1,false) (by simp)
   have hjl:((aU R).take j).length=j:=by rw [List.length_take];omega
   refine Ls (x:=⟨p1,-1,2*j,2*j+1⟩) h10 ad.own h10.jR hml fun kk s' w11 hkk hk1 hk2 h11=> ?_
   have hlp:=Jr (ys:=ys) (ws:=az l ys) (P:=(aU R).take j) (p:=(p1,false)) hasc (List.Pairwise.sublist (List.take_sublist ..) hup) hall (fun q hq=>ml R q (List.mem_of_mem_take hq)) rfl hkk hk1 hk2
   rw [hjl,←hsn] at hlp
   rw [hlp] at h11
   exact ⟨⟨j+1,by omega,by omega,h11.p1.drop⟩,by dsimp only;omega⟩
  ·have hge2: ¬2*j+1<R.length:=by have:=of_decide_eq_false hge2;omega
   have e:bE (bx (az l ys)) ((aU R).take j)=row (az l ys) rs.length:=by
    rw [List.take_of_length_le (by omega)]
    have:rs.length=(rs.length - 1)+1:=by omega
    rw [this,row,hR]
   rw [e] at hh
   have hcs:=hh.jR
   refine rm (g:=iy) (x:=rw41) Ke gi (by decide) rfl (EK _) hh.p1 (by omega) (by omega) fun s53 w12 h12 _=> ?_
   rw [ae (by omega)]
   refine ⟨⟨rs++ [rw41],aj 4 rw41 ((cf ys (row (az l ys) rs.length) 0 0).flatMap cR)::G,by simp,by simp,by simp;omega,?_,hrs.more hcs,h12.p1.q3⟩,by dsimp only;omega⟩
   rw [List.getElem?_append_left (by omega)];exact hr0
theorem F6 {ws:List Nat} {k i:Nat} (hi:i<(row ws k).length):(row ws k).getD i (0,true)=(row ws k)[i]:=by
 rw [List.getD_eq_getElem?_getD,List.getElem?_eq_getElem hi];rfl
set_option maxRecDepth 20000 in
theorem Jf {ys ws:List Nat} {rs:List Sl} {all:Sl} (hasc:mW ws) (hwl:ws.length=ys.length) (hnd:ys.Nodup) (hin: ∀s∈ys,s<258) (hrn:rs.length≤15):
  ∀(k i:Nat) {w:World} {F:List HP} {f:Nat→Nat} {K:Array Value→World→Prop} (_:Hp E w F) (_:ad F (aC 1 all (rs.flatMap iy))) (_:ir ys ws rs F) (_:k<rs.length) (_:i<(row ws k).length) (_: ∀j,j<ys.length→f j+eg ws k i j≤255)
   (_: ∀w',Hp E w' F→K (ai .u8 (cb ys fun j=>f j+eg ws k i j)) w'),
   Cl Tryz.prog [.arr 258] gb ⟨[.agg (ai .u8 (cb ys f)),.slice all.base all.len all.cap,.int .i64 (k:Int),.int .i64 (i:Int)]⟩ w K:=by
 intro k
 induction k with
 |zero=>
  intro i w F f K h hall hrs hk hi hb hK
  refine tn.ok _ _ _ _ _ _ ?_
  rw [jJ]
  refine Nw.mk h fun b6 w1 h1=>Nw.mk h1 fun b8 w2 h2=> ?_
  refine an.el (n:=0) gi (by decide) (h2.drop.drop.ag hall) rfl hk fun p hp=> ?_
  refine Ld.sc (s:= .sl) rs[0] (by have:=hp 0 (by decide);rw [add_zero] at this;rw [this];rfl) ?_
  have hr:=hrs 0 hk
  refine an.el (n:=i) cU (by decide) (h2.drop.drop.ag hr.1) rfl (by rw [cA];exact hi) fun q hq=> ?_
  have hi':i<ws.length:=by rw [row,cg] at hi;exact hi
  have hx:=wK ys (row ws 0) hi
  have h0:(row ws 0)[i].2=true:=by simp [row,bx]
  rw [if_pos h0,(nN i (by omega)).1] at hx
  rw [hx] at hq
  refine Ld.st (ks:=RK) (tR ⟨(row ws 0)[i].1,(ys.getD i 0:Int),0,0⟩) (fun j hj=>hq j hj) ?_
  refine Nw.mk h2 fun b14 w3 h3=>bj.aG h3 rfl (j8 ⟨(row ws 0)[i].1,(ys.getD i 0:Int),0,0⟩) fun w4 h4=> ?_
  rw [al]
  refine Ld.aG h4 (ys.getD i 0:Int) rfl (aa.t (decide_eq_true (by omega)) ?_)
  refine Ld.aG h4 (ys.getD i 0:Int) rfl ?_
  have hiy:i<ys.length:=by omega
  rw [jE hiy]
  have hy:=hin _ (List.getElem_mem hiy)
  have hcov: ∀j,eg ws 0 i j=if j=i then 1 else 0:=fun j=>rfl
  have hbi:=hb i hiy
  rw [hcov,if_pos rfl] at hbi
  refine aw.rd (s:= .int .u8) h4.p2 (by omega) (by omega) _ (qL (by rw [bb];omega)) ?_
  refine aw.wr h4.p2 (by omega) (by omega) (by rw [av,bb]) rfl fun w5 h5=> ?_
  rw [pP hnd hin hiy,dS (by omega),Int.toNat_natCast,show ((f i:Int)+1)=((f i+1:Nat):Int) by omega,nU,pg hnd hiy] at h5
  have e:cb ys (fun j=>if j=i then f i+1 else f j)=cb ys (fun j=>f j+eg ws 0 i j):=eT fun j _=>by
   rw [hcov]
   by_cases hj:j=i
   ·subst hj;rw [if_pos rfl,if_pos rfl]
   ·rw [if_neg hj,if_neg hj];rfl
  rw [e] at h5
  exact Ld.arr h5 (by rw [av,bb]) (ax.aG h5.p2 (by rw [av];simp) (by rw [av,bb]) bW fun w6 h6=>Ld.arr h6 (by rw [av,bb]) (hK w6 h6.drop.drop.drop))
 |succ k ih=>
  intro i w F f K h hall hrs hk hi hb hK
  refine tn.ok _ _ _ _ _ _ ?_
  rw [jJ]
  refine Nw.mk h fun b6 w1 h1=>Nw.mk h1 fun b8 w2 h2=> ?_
  refine an.el (n:=k+1) gi (by decide) (h2.drop.drop.ag hall) rfl hk fun p hp=> ?_
  refine Ld.sc (s:= .sl) rs[k+1] (by have:=hp 0 (by decide);rw [add_zero] at this;rw [this];rfl) ?_
  have hr:=hrs (k+1) hk
  refine an.el (n:=i) cU (by decide) (h2.drop.drop.ag hr.1) rfl (by rw [cA];exact hi) fun q hq=> ?_
  have hx:=wK ys (row ws (k+1)) hi
  have hnx:=vO hi
  obtain ⟨c1,c2,c3,_,_⟩:=jC hasc k (i+1) hi
  have hle:=zF ((row ws (k+1)).take i)
  rw [List.length_take] at hle
  have hcov: ∀j,eg ws (k+1) i j=if (row ws (k+1))[i].2=true then (if j=aB ((row ws (k+1)).take i) then 1 else 0) else eg ws k (2*(i - aB ((row ws (k+1)).take i))) j+eg ws k (2*(i - aB ((row ws (k+1)).take i))+1) j:=fun j=>by
   rw [zJ,F6 hi]
  generalize hqq:aB ((row ws (k+1)).take i)=m at*
  by_cases hlf:(row ws (k+1))[i].2=true
  ·rw [if_pos hlf] at hx hnx
   rw [hx] at hq
   refine Ld.st (ks:=RK) (tR ⟨(row ws (k+1))[i].1,(ys.getD m 0:Int),0,0⟩) (fun j hj=>hq j hj) ?_
   refine Nw.mk h2 fun b14 w3 h3=>bj.aG h3 rfl (j8 ⟨(row ws (k+1))[i].1,(ys.getD m 0:Int),0,0⟩) fun w4 h4=> ?_
   rw [al]
   refine Ld.aG h4 (ys.getD m 0:Int) rfl (aa.t (decide_eq_true (by omega)) ?_)
   refine Ld.aG h4 (ys.getD m 0:Int) rfl ?_
   have hiy:m<ys.length:=by omega
   rw [jE hiy]
   have hy:=hin _ (List.getElem_mem hiy)
   have hbi:=hb m hiy
   rw [hcov,if_pos hlf,if_pos rfl] at hbi
   refine aw.rd (s:= .int .u8) h4.p2 (by omega) (by omega) _ (qL (by rw [bb];omega)) ?_
   refine aw.wr h4.p2 (by omega) (by omega) (by rw [av,bb]) rfl fun w5 h5=> ?_
   rw [pP hnd hin hiy,dS (by omega),Int.toNat_natCast,show ((f m:Int)+1)=((f m+1:Nat):Int) by omega,nU,pg hnd hiy] at h5
   have e:cb ys (fun j=>if j=m then f m+1 else f j)=cb ys (fun j=>f j+eg ws (k+1) i j):=eT fun j _=>by
    rw [hcov,if_pos hlf]
    by_cases hj:j=m
    ·subst hj;rw [if_pos rfl,if_pos rfl]
    ·rw [if_neg hj,if_neg hj];rfl
   rw [e] at h5
   exact Ld.arr h5 (by rw [av,bb]) (ax.aG h5.p2 (by rw [av];simp) (by rw [av,bb]) bW fun w6 h6=>Ld.arr h6 (by rw [av,bb]) (hK w6 h6.drop.drop.drop))
  ·rw [if_neg hlf] at hx hnx
   rw [hx] at hq
   have hcov': ∀j,eg ws (k+1) i j=eg ws k (2*(i - m)) j+eg ws k (2*(i - m)+1) j:=fun j=>by rw [hcov,if_neg hlf]
   rw [hnx,show i+1 - (m+0)=i - m+1 by omega] at c3
   refine Ld.st (ks:=RK) (tR ⟨(row ws (k+1))[i].1,-1,2*(i - m),2*(i - m)+1⟩) (fun j hj=>hq j hj) ?_
   refine Nw.mk h2 fun b14 w3 h3=>bj.aG h3 rfl (j8 ⟨(row ws (k+1))[i].1,-1,2*(i - m),2*(i - m)+1⟩) fun w4 h4=> ?_
   rw [al,al,al]
   refine Ld.aG h4 (-1:Int) rfl (aa.f (by decide) ?_)
   have h4':Hp E w4 (af b8 _::af b14 _::af b6 _::F):=h4.p1
   have hd:Hp E {w4 with drawn:=w4.drawn+1} _:=h4'.drew
   refine ⟨cY E (af b14 (.cells ⟨cR ⟨(row ws (k+1))[i].1,-1,2*(i - m),2*(i - m)+1⟩⟩ 363 (0,0))::af b6 (.cells (ai .u8 (cb ys f)) 104 (0,0))::F),cY.r9 hd,?_⟩
   refine aH.Ks (fun w2 h2=>h2.E6) (by rw [av,bb]) ?_
   refine aH.aG (s:= .int .i64) (fun w2 h2=>h2.front) ((2*(i - m):Nat):Int) rfl ?_
   refine aH.aG (s:= .int .i64) (fun w2 h2=>h2.front) ((2*(i - m)+1:Nat):Int) rfl ?_
   rw [show i64 (((k+1:Nat):Int) - 1)=(k:Int) by rw [ae (by omega)];omega]
   refine ih (2*(i - m)) hd (hall.cons.cons.cons) (hrs.imp fun φ h=>h.cons.cons.cons) (by omega) (by omega) (fun j hj=>by have:=hb j hj;rw [hcov'] at this;omega) fun w5 h5=>⟨cY.r9 h5,?_⟩
   refine ih (2*(i - m)+1) (f:=fun j=>f j+eg ws k (2*(i - m)) j) h5 (hall.cons.cons.cons) (hrs.imp fun φ h=>h.cons.cons.cons) (by omega) (by omega) (fun j hj=>by have:=hb j hj;rw [hcov'] at this;omega) fun w6 h6=>⟨cY.r9 h6,?_⟩
   have e:cb ys (fun j=>f j+eg ws k (2*(i - m)) j+eg ws k (2*(i - m)+1) j)=cb ys (fun j=>f j+eg ws (k+1) i j):=eT fun j _=>by rw [hcov'];omega
   rw [e]
   exact ax.aG h6 (by rw [av];simp) (by rw [av,bb]) bW fun w7 h7=>⟨cY.r9 h7,Ld.arr h7 (by rw [av,bb]) (hK w7 h7.drop.drop.drop)⟩
theorem Fx {m n:Nat} (h:m≤n) (f:Nat→Nat):aJ m f≤aJ n f:=by
 induction n with
 |zero=>have:m=0:=by omega
        subst this;exact Nat.le_refl _
 |succ n ih=>
  rw [bN]
  by_cases e:m=n+1
  ·subst e;rw [bN];exact Nat.le_refl _
  ·have:=ih (by omega);omega
theorem o9 {b b2:Nat} {t t2:TypeId} {l l2:List Nat} {K:Array Value→World→Prop} (h:Hp E w (af b (.cells (ai .u8 l) t (0,0))::af b2 (.cells (ai .u8 l2) t2 (0,0))::F)) (hl:l.length=258) (hl2:l2.length=258) (hK: ∀w',Hp E w' (af b2 (.cells (ai .u8 l) t2 (0,0))::af b (.cells (ai .u8 l) t (0,0))::F)→K (ai .u8 l) w'):
  Ld (.arr 258) ⟨b,0,none⟩ w fun x=>ax 258 ⟨b2,0,none⟩ x w fun w2=>Ld (.arr 258) ⟨b2,0,none⟩ w2 fun r=>K r w2:=
 Ld.arr h (by rw [av,hl]) (ax.aG h.p1 (by rw [av,hl2]) (by rw [av,hl]) bW fun w2 h2=>Ld.arr h2 (by rw [av,hl]) (hK w2 h2))
set_option maxRecDepth 20000 in
theorem C7 {t:List Int} {L:Int} {K:Array Value→Int→World→Prop} (h:Hp E w F) (hl:t.length=258)
  (hK1:(aR t=false∨L<1∨15<L∨∃l,t=ints l∧(2:Int)^L.toNat<(used l).length)→∀w',Hp E w' F→K (ai .u8 (List.replicate 258 0)) 2 w')
  (hK2: ∀l ys w',t=ints l→kJ l→bo l ys→1≤L→L≤15→ys.length≤2^L.toNat→Hp E w' F→K (ai .u8 (cb ys (lenOf (az l ys) L.toNat))) 0 w'):
  Cl Tryz.prog [.arr 258,kI] gG ⟨[.agg (aT t),.int .i64 L]⟩ w K:=by
 refine yJ.ok _ _ _ _ ?_
 rw [jJ]
 simp only [ao]
 have hz:(List.replicate 258 0).length=258:=List.length_replicate
 refine Nw.mk h fun b4 w1 h1=>Nw.mk h1 fun b6 w2 h2=>Nw.mk h2 fun b8 w3 h3=>Ld.arr h3.p2 (by rw [bA,hl]) (zp h3 hl (fun hv w4 h4=> ?_) (fun l hte hm hll ys s w4 hys h4=> ?_))
 ·exact Ld.arr h4.p2 (by rw [bA,hl]) (qb h4 hl fun w5 h5=>aa.t (by rw [hv];rfl) (o9 h5 hz hz fun w6 h6=>hK1 (.inl hv) w6 h6.drop.drop.drop))
 ·subst hte
  have hlen:=vg hll hys
  have hin:=pO hll hys
  have hsl:s.len=ys.length:=by
   have:=(h4.ag ad.own).1
   simp only [List.length_map,ints,Nat.mul_one] at this
   exact this.symm
  refine Ld.arr h4.p3 (by rw [bA,hl]) (qb h4 hl fun w5 h5=>aa.f (by rw [iu hm];rfl) ?_)
  have h5:Hp E w5 (af b8 _::af b6 _::aj 1 s _::af b4 _::F):=h5.q2
  refine aa.mk (fun hlt=>o9 h5 hz hz fun w6 h6=>hK1 (.inr (.inl (of_decide_eq_true hlt))) w6 h6.drop.drop.drop.drop) (fun hge=> ?_)
  have hge:=of_decide_eq_false hge
  refine aa.mk (fun hgt=>o9 h5 hz hz fun w6 h6=>hK1 (.inr (.inr (.inl (by have:=of_decide_eq_true hgt;omega)))) w6 h6.drop.drop.drop.drop) (fun hle=> ?_)
  have hle:=of_decide_eq_false hle
  obtain ⟨N,rfl⟩:=Int.eq_ofNat_of_zero_le (show 0≤L by omega)
  have hN:N≤15:=by omega
  have hN1:1≤N:=by omega
  obtain ⟨e1,e2⟩:=Cj hN
  rw [e1]
  refine ⟨e2,aa.mk (fun hgt=>o9 h5 hz hz fun w6 h6=>hK1 (.inr (.inr (.inr ⟨l,rfl,?_⟩))) w6 h6.drop.drop.drop.drop) (fun hle2=> ?_)⟩
  ·have hgt:=of_decide_eq_true hgt
   rw [Int.toNat_natCast,←hys.1.length_eq,←hsl]
   rw [show (2:Int)^N=((2^N:Nat):Int) by norm_cast]
   exact hgt
  have hle2:ys.length≤2^N:=by have:=of_decide_eq_false hle2;omega
  have hasc:=pF hys
  have hwl:(az l ys).length=ys.length:=List.length_map _
  have hnd:=oD hys
  have hin2: ∀s∈ys,s<258:=fun s hs=>(hin s hs).1
  have fine: ∀w',Hp E w' F→K (ai .u8 (cb ys (lenOf (az l ys) N))) 0 w':=fun w' h'=>hK2 l ys w' rfl hm hys (by omega) (by omega) (by rw [Int.toNat_natCast];exact hle2) h'
  rw [←AT ys] at h5
  refine aa.mk (fun h1=> ?_) (fun h1=> ?_)
  ·have h1:ys.length=1:=by have:(s.len:Int)=1:=by simpa using h1
                           omega
   refine zB (i:=0) (h5.p2.ag ad.own) (by omega) ?_
   have hx:=hin2 _ (List.getElem_mem (show 0<ys.length by omega))
   refine aw.wr h5 (by omega) (by omega) (by rw [av,bb]) rfl fun w6 h6=> ?_
   rw [Int.toNat_natCast] at h6
   have e:=nU (k:= .u8) (l:=cb ys fun _=>0) (i:=ys[0]) (x:=1)
   rw [show (Value.int .u8 1)= .int .u8 ((1:Nat):Int) from rfl,e,pg hnd (by omega)] at h6
   have e3:cb ys (fun j=>if j=0 then 1 else 0)=cb ys (lenOf (az l ys) N):=eT fun i hi=>by
    have:i=0:=by omega
    subst this
    unfold lenOf
    rw [if_pos rfl,if_pos (by omega)]
   rw [e3] at h6
   exact o9 h6 (bb ..) (bb ..) fun w7 h7=>fine w7 h7.drop.drop.drop.drop
  ·have h1:ys.length≠1:=by
    intro e
    have: ¬(s.len:Int)=1:=by simpa using h1
    omega
   rw [kz] at h5
   refine Ld.arr h5.p3 (by rw [av,hll]) (KD h5 hll hm hN1 hN hys fun out rs G w6 hrN hrs h6=> ?_)
   have h7:=(h6.perm (List.Perm.cons _ List.perm_middle)).p1
   have hcl: ∀i,i<ys.length→lenOf (az l ys) N i=lv (az l ys) (N - 1) (2*ys.length - 2) i:=fun i _=>by
    unfold lenOf
    rw [if_neg (by omega),hwl]
   have hrow:ys.length≠0→2*ys.length - 2≤(row (az l ys) (N - 1)).length:=fun _=>by
    rw [←hwl]
    exact qC (N - 1) (by rw [hwl,show N - 1+1=N by omega];exact hle2)
   rw [ae (x:=2*(s.len:Int)) (by omega),ae (x:=2*(s.len:Int) - 2) (by omega),show i64 ((N:Int) - 1)=((N - 1:Nat):Int) by rw [ae (by omega)];omega]
   refine ⟨fun i w'=> ∃k:Nat,i=(k:Int)∧(k=0∨k≤2*ys.length - 2)∧Hp E w' (af b8 (.cells (ai .u8 (cb ys fun j=>aJ k fun i=>eg (az l ys) (N - 1) i j)) 104 (0,0))::aj 1 out (rs.flatMap iy)::(G++(af b6 (.cells (ai .u8 (cb ys fun _=>0)) 104 (0,0))::aj 1 s ((ints ys).map vI)::af b4 (.cells (ai .i64 l) 215 (0,0))::F))),
    fun i _=>2*ys.length - i.toNat,⟨0,rfl,.inl rfl,h7⟩,?_⟩
   rintro i w8 ⟨k,rfl,hk,hh⟩
   refine aa.mk (fun hlt=> ?_) (fun hge=> ?_)
   ·have hlt:k+2<2*ys.length:=by have:=of_decide_eq_true hlt;omega
    have hr:=hrow (by omega)
    refine Ld.arr hh (by rw [av,bb]) ?_
    refine Jf hasc hwl hnd hin2 (by omega) (N - 1) k hh (ad.cons ad.own) (hrs.imp fun φ h=>h.tK.cons.cons) (by omega) (by omega) (fun j hj=> ?_) fun w9 h9=> ?_
    ·have h1:=Fx (show k+1≤2*ys.length - 2 by omega) fun i=>eg (az l ys) (N - 1) i j
     rw [ur hasc j (N - 1) _ hr,bN] at h1
     have:=vT (az l ys) (N - 1) (2*ys.length - 2) j
     omega
    ·refine ax.aG h9 (by rw [av,bb]) (by rw [av,bb]) bW fun w10 h10=> ?_
     rw [ae (by omega)]
     refine ⟨⟨k+1,rfl,.inr (by omega),?_⟩,by dsimp only;omega⟩
     have e:cb ys (fun j=>aJ (k+1) fun i=>eg (az l ys) (N - 1) i j)=cb ys (fun j=>(aJ k fun i=>eg (az l ys) (N - 1) i j)+eg (az l ys) (N - 1) k j):=eT fun j _=>bN ..
     rw [e];exact h10
   ·have hge: ¬k+2<2*ys.length:=by have:=of_decide_eq_false hge;omega
    have e:cb ys (fun j=>aJ k fun i=>eg (az l ys) (N - 1) i j)=cb ys (lenOf (az l ys) N):=eT fun j hj=>by
     have hr:=hrow (by omega)
     have:k=2*ys.length - 2:=by omega
     rw [hcl j hj,←ur hasc j (N - 1) _ hr,this]
    rw [e] at hh
    have hh2:=(hh.perm (List.Perm.cons _ (List.Perm.cons _ List.perm_middle))).perm (List.Perm.cons _ (List.Perm.swap ..))
    exact o9 hh2 (bb ..) (bb ..) fun w9 h9=>fine w9 h9.drop.drop.drop.sK.drop.drop
end
end Go.Proofs.YtgglghjnakclmaaGreat
set_option maxRecDepth 20000
namespace Go.Srt
theorem vv (l:List Nat): ∃ys,bo l ys:=by
 have tr: ∀a b c:Nat,decide (l.getD a 0<l.getD b 0∨(l.getD a 0=l.getD b 0∧a≤b))=true→decide (l.getD b 0<l.getD c 0∨(l.getD b 0=l.getD c 0∧b≤c))=true→decide (l.getD a 0<l.getD c 0∨(l.getD a 0=l.getD c 0∧a≤c))=true:=by
  intro a b c h1 h2
  simp only [decide_eq_true_eq] at*;omega
 have to: ∀a b:Nat,(decide (l.getD a 0<l.getD b 0∨(l.getD a 0=l.getD b 0∧a≤b))||decide (l.getD b 0<l.getD a 0∨(l.getD b 0=l.getD a 0∧b≤a)))=true:=by
  intro a b
  simp only [Bool.or_eq_true,decide_eq_true_eq];omega
 have hs:=List.pairwise_mergeSort (le:=fun a b=>decide (l.getD a 0<l.getD b 0∨(l.getD a 0=l.getD b 0∧a≤b))) tr to (used l)
 have hp:=List.mergeSort_perm (used l) (fun a b=>decide (l.getD a 0<l.getD b 0∨(l.getD a 0=l.getD b 0∧a≤b)))
 have hn:(used l).Nodup:=List.Pairwise.filter _ (List.nodup_range (n:=l.length))
 have hn2:=hp.nodup_iff.2 hn
 exact ⟨_,hp,(hs.and hn2).imp fun {a b} h=>by have:=of_decide_eq_true h.1;have:=h.2;omega⟩
structure fj (t:List Int) (L:Int) (u ys:List Nat) (N:Nat):Prop where
 eq:t=Proofs.YtgglghjnakclmaaGreat.ints u
 max:kJ u
 len:u.length=258
 ord:bo u ys
 lim:L=(N:Int)
 one:1≤N
 top:N≤15
 few:ys.length≤2^N
theorem tQ {u v:List Nat} (h:Proofs.YtgglghjnakclmaaGreat.ints u=Proofs.YtgglghjnakclmaaGreat.ints v):u=v:=(List.map_inj_right (fun x y h=>by have h:(x:Int)=(y:Int):=h;omega)).1 h
end Go.Srt
namespace Go.Proofs.YtgglghjnakclmaaGreat
open Go Go.Vc Go.Srt Go.Pm
section
variable {E w:World} {F:List HP}
theorem Cp {t:List Int} {L:Int} {u ys:List Nat} {N:Nat} (hg:fj t L u ys N): ¬(aR t=false∨L<1∨15<L∨∃l,t=ints l∧(2:Int)^L.toNat<(used l).length):=by
 obtain ⟨rfl,hm,hl,hys,rfl,h1,h2,h3⟩:=hg
 rintro (h|h|h|⟨l,h,h4⟩)
 ·rw [iu hm] at h;cases h
 ·omega
 ·omega
 ·obtain rfl:=tQ h
  rw [←hys.1.length_eq,Int.toNat_natCast,show (2:Int)^N=((2^N:Nat):Int) by norm_cast] at h4
  omega
def fX (u ys:List Nat) (N:Nat):List Nat:=cb ys (lenOf (az u ys) N)
theorem u7 (u ys:List Nat) (N:Nat):(fX u ys N).length=258:=bb ..
theorem Ga {t:List Int} {L:Int} {u ys:List Nat} {N:Nat} {K:Array Value→Int→World→Prop} (hg:fj t L u ys N) (h:Hp E w F) (hK: ∀w',Hp E w' F→K (ai .u8 (fX u ys N)) 0 w'):Cl Tryz.prog [.arr 258,kI] de ⟨[.agg (aT t),.int .i64 L]⟩ w K:=by
 refine Bh h (by rw [hg.eq,cF,hg.len]) (fun hb=>absurd hb (Cp hg)) fun l zs w' h0 hm hzs h1 h2 h3 h'=> ?_
 have:l=u:=tQ (h0.symm.trans hg.eq)
 subst this
 obtain rfl:=tV hzs hg.ord
 have hk:=hK w' h'
 rw [hg.lim,Int.toNat_natCast]
 exact hk
theorem JQ {t:List Int} {L:Int} {u ys:List Nat} {N:Nat} {K:Array Value→Int→World→Prop} (hg:fj t L u ys N) (h:Hp E w F) (hK: ∀w',Hp E w' F→K (ai .u8 (fX u ys N)) 0 w'):Cl Tryz.prog [.arr 258,kI] gG ⟨[.agg (aT t),.int .i64 L]⟩ w K:=by
 refine C7 h (by rw [hg.eq,cF,hg.len]) (fun hb=>absurd hb (Cp hg)) fun l zs w' h0 hm hzs h1 h2 h3 h'=> ?_
 have:l=u:=tQ (h0.symm.trans hg.eq)
 subst this
 obtain rfl:=tV hzs hg.ord
 have hk:=hK w' h'
 rw [hg.lim,Int.toNat_natCast]
 exact hk
end
end Go.Proofs.YtgglghjnakclmaaGreat
namespace Go.Srt
open Go.Pm
theorem Hl (ys:List Nat) (g:Nat→Nat):(ys.map g).sum=aJ ys.length fun i=>g (ys.getD i 0):=by
 unfold aJ
 congr 1
 refine List.ext_getElem (by simp) fun i h1 h2=> ?_
 have hi:i<ys.length:=by simpa using h1
 simp [hi]
theorem DQ {u ys:List Nat} {f:Nat→Nat} (hl:u.length=258) (hys:bo u ys) (hf: ∀i,i<ys.length→1≤f i):used (cb ys f)=used u:=by
 unfold used
 rw [bb,hl]
 refine List.filter_congr fun s hs=> ?_
 have hs:s<258:=by simpa using hs
 rw [FF hs]
 have hm:s∈ys↔0<u.getD s 0:=by
  rw [hys.1.mem_iff,dG,hl]
  exact ⟨fun h=>h.2,fun h=>⟨hs,h⟩⟩
 by_cases h:s∈ys
 ·have:=hf _ (List.idxOf_lt_length_of_mem h)
  rw [if_pos h,decide_eq_true (hm.1 h),decide_eq_true (by omega)]
 ·rw [if_neg h,decide_eq_false (fun h'=>h (hm.2 h'))];rfl
theorem Fa {u ys:List Nat} {f:Nat→Nat} (hl:u.length=258) (hys:bo u ys) (hf: ∀i,i<ys.length→1≤f i∧f i≤15):aO (cb ys f)=aJ ys.length fun i=>2^(15 - f i):=by
 have hin: ∀s∈ys,s<258:=fun s hs=>by have:=(dG.1 (hys.1.mem_iff.1 hs)).1;omega
 rw [yb,DQ hl hys fun i hi=>(hf i hi).1,←(hys.1.map _).sum_nat,Hl]
 refine my fun i hi=> ?_
 rw [jE hi,pP (oD hys) hin hi]
 have:=hf i hi
 unfold wt
 rw [if_neg (by omega),if_neg (by omega)]
section
variable {t:List Int} {L:Int} {u ys:List Nat} {N:Nat}
theorem fj.wl (hg:fj t L u ys N):(az u ys).length=ys.length:=List.length_map _
theorem fj.C5 (hg:fj t L u ys N) {i:Nat} (hi:i<ys.length):1≤lenOf (az u ys) N i∧lenOf (az u ys) N i≤N:=
 GG (pF hg.ord) hg.one (by rw [hg.wl];exact hg.few) (by rw [hg.wl];exact hi)
theorem L9:2^15=32768:=by decide
theorem fj.L4 (hg:fj t L u ys N) (hn:2≤ys.length):aO (Proofs.YtgglghjnakclmaaGreat.fX u ys N)=32768:=by
 have hN:=hg.top
 have h1:=hg.one
 have e:=Fa (f:=lenOf (az u ys) N) hg.len hg.ord fun i hi=>by have:=hg.C5 hi;omega
 have hk:=Al (pF hg.ord) (N - 1) (by rw [hg.wl];exact hn) (by rw [hg.wl,show N - 1+1=N by omega];exact hg.few)
 rw [hg.wl,show N - 1+1=N by omega] at hk
 unfold Proofs.YtgglghjnakclmaaGreat.fX
 rw [e,my (g:=fun i=>2^(15 - N)*2^(N - lv (az u ys) (N - 1) (2*ys.length - 2) i)) fun i hi=>by
  have:=hg.C5 hi
  have e2:lenOf (az u ys) N i=lv (az u ys) (N - 1) (2*ys.length - 2) i:=by
   unfold lenOf;rw [if_neg (by rw [hg.wl];omega),hg.wl]
  rw [e2] at this⊢
  rw [←Nat.pow_add,show 15 - N+(N - lv (az u ys) (N - 1) (2*ys.length - 2) i)=15 - lv (az u ys) (N - 1) (2*ys.length - 2) i by omega],GH,hk,←Nat.pow_add,show 15 - N+N=15 by omega,L9]
theorem fj.bytes (hg:fj t L u ys N): ∀y∈Proofs.YtgglghjnakclmaaGreat.fX u ys N,y<256:=by
 intro y hy
 obtain ⟨s,_,rfl⟩:=List.mem_map.1 hy
 have hN:=hg.top
 split
 ·rename_i h
  have:=hg.C5 (List.idxOf_lt_length_of_mem h)
  omega
 ·decide
theorem fj.at (hg:fj t L u ys N) {i:Nat} (hi:i<ys.length):(Proofs.YtgglghjnakclmaaGreat.fX u ys N).getD ys[i] 0=lenOf (az u ys) N i:=
 pP (oD hg.ord) (fun s hs=>by have:=(dG.1 (hg.ord.1.mem_iff.1 hs)).1;have:=hg.len;omega) hi
end
end Go.Srt
set_option maxRecDepth 20000
namespace Go.Sym
theorem rK: ∀(b L:List Nat) (r:Nat),a6 L→(∀x∈b,x<256)→(b≠ []∨0<r)→∃s∈cE L r b,s<257
 | [],L,r,_,_,h=>by
  have hr:0<r:=by
   rcases h with h|h
   ·exact absurd rfl h
   ·exact h
  rw [mX,mD hr]
  exact ⟨(r - 1) % 2,by simp,by omega⟩
 |c::b,L,r,hL,hb,_=>by
  by_cases h0:L.idxOf c=0
  ·rw [lZ h0]
   exact rK b _ _ (hL.take (by decide)) (fun x hx=>hb x (List.mem_cons_of_mem _ hx)) (.inr (by omega))
  ·rw [nE h0]
   have:=hL.idx (hb c List.mem_cons_self)
   exact ⟨L.idxOf c+1,by simp,by omega⟩
theorem GW {b:List Nat} (h:b≠ []) (hb: ∀x∈b,x<256): ∃s∈syms b,s<257:=rK b _ 0 a6.range hb (.inl h)
theorem Hf (b:List Nat):257∈syms b:=by unfold syms cE;simp
theorem B7 (n:Nat):(bX n).length≤n:=by
 induction n using Nat.strongRecOn with
 |ind n ih=>
  by_cases h:n=0
  ·subst h;rw [m4];exact Nat.le_refl _
  ·rw [mD (by omega),List.length_cons]
   have:=ih ((n - 1)/2) (by omega)
   omega
theorem nJ: ∀(b L:List Nat) (r:Nat),(cE L r b).length≤r+b.length+1
 | [],L,r=>by
  rw [mX,List.length_append]
  have:=B7 r
  simp;omega
 |c::b,L,r=>by
  by_cases h0:L.idxOf c=0
  ·rw [lZ h0]
   have:=nJ b (bH L 0) (r+1)
   rw [List.length_cons];omega
  ·rw [nE h0,List.length_append,List.length_cons,List.length_cons]
   have:=nJ b (bH L (L.idxOf c)) 0
   have:=B7 r
   omega
theorem nz (b:List Nat):(syms b).length≤b.length+1:=by
 have:=nJ b (List.range 256) 0
 unfold syms;omega
end Go.Sym
namespace Go.af
open Go.Inc Go.Srt Go.Sym Go.aS Go.Tab Go.Bw Go.Pm
def gK (ss:List Nat):List Nat:=(List.range 258).map fun s=>ss.count s
theorem jK (ss:List Nat):(gK ss).length=258:=by unfold gK;simp
theorem Ce (ss:List Nat) {s:Nat} (h:s<258):(gK ss).getD s 0=ss.count s:=by
 unfold gK
 rw [List.getD_eq_getElem?_getD,List.getElem?_map,List.getElem?_range h];rfl
theorem sq {ss:List Nat} (h:ss.length≤2147483647):kJ (gK ss):=fun x hx=>by
 obtain ⟨s,_,rfl⟩:=List.mem_map.1 hx
 exact Nat.le_trans List.count_le_length h
theorem dG {u:List Nat} {s:Nat}:s∈used u↔s<u.length∧0<u.getD s 0:=by
 unfold used
 rw [List.mem_filter,List.mem_range,decide_eq_true_iff]
theorem xg {u ys:List Nat} (h:bo u ys) {s:Nat}:s∈ys↔s<u.length∧0<u.getD s 0:=by rw [h.1.mem_iff,dG]
theorem JP {u ys:List Nat} (hl:u.length=258) (h:bo u ys):ys.length≤258:=by
 rw [h.1.length_eq,←hl]
 unfold used
 exact Nat.le_trans (List.length_filter_le ..) (by simp)
theorem B3 {u ys:List Nat} (hl:u.length=258) (hm:kJ u) (hys:bo u ys):fj (Proofs.YtgglghjnakclmaaGreat.ints u) 15 u ys 15 where
 eq:=rfl
 max:=hm
 len:=hl
 ord:=hys
 lim:=rfl
 one:=by decide
 top:=by decide
 few:=Nat.le_trans (JP hl hys) (by decide)
theorem I4 {u ys last:List Nat} (hl:u.length=258) (hm:kJ u) (hys:bo u ys) (h257:0<u.getD 257 0) (hs: ∃s,s<257∧0<u.getD s 0) (hg: ∀s∈syms last,0<u.getD s 0) (hb: ∀x∈last,x<256):
  zk (Proofs.YtgglghjnakclmaaGreat.fX u ys 15) last:=by
 have g:=B3 hl hm hys
 have hpos: ∀s,s<258→0<u.getD s 0→0<(Proofs.YtgglghjnakclmaaGreat.fX u ys 15).getD s 0:=by
  intro s h1 h2
  have hmem:s∈ys:=(xg hys).2 ⟨by omega,h2⟩
  obtain ⟨i,hi,e⟩:=List.mem_iff_getElem.1 hmem
  have h3:=g.at hi
  have h4:=(g.C5 hi).1
  rw [e] at h3
  omega
 have h2:2≤ys.length:=by
  obtain ⟨s,h1,h3⟩:=hs
  have m1:s∈ys:=(xg hys).2 ⟨by omega,h3⟩
  have m2:257∈ys:=(xg hys).2 ⟨by omega,h257⟩
  match ys,m1,m2 with
  | [a],m1,m2=>
   rw [List.mem_singleton] at m1 m2
   omega
  |_::_::_,_,_=>simp
 refine ⟨Proofs.YtgglghjnakclmaaGreat.u7 _ _ _,wi.2 ⟨g.L4 h2,hpos 257 (by decide) h257⟩,fun s h=> ?_⟩
 have:=wY hb s h
 exact ⟨by omega,hpos s (by omega) (hg s h)⟩
noncomputable def fA (u:List Nat):List Nat:=Classical.choose (vv u)
theorem Cb (u:List Nat):bo u (fA u):=Classical.choose_spec (vv u)
noncomputable def HR (ss:List Nat):List Nat:=Proofs.YtgglghjnakclmaaGreat.fX (gK ss) (fA (gK ss)) 15
theorem EU (ss:List Nat):(HR ss).length=258:=Proofs.YtgglghjnakclmaaGreat.u7 _ _ _
noncomputable def cr (x:List Nat):List Nat:=HR (syms (aQ x.reverse))
theorem uO {ss:List Nat} (h:ss.length≤2147483647):fj (Proofs.YtgglghjnakclmaaGreat.ints (gK ss)) 15 (gK ss) (fA (gK ss)) 15:=B3 (jK ss) (sq h) (Cb _)
theorem p4 {x:List Nat} (h0:0<x.length) (hl:x.length≤1000000) (hx: ∀c∈x,c<256):zk (cr x) (aQ x.reverse):=by
 have hb:=Stm.LJ hx
 have hn:aQ x.reverse≠ []:=by
  intro e
  have:=congrArg List.length e
  rw [cy,List.length_reverse,List.length_nil] at this;omega
 have hlen:(syms (aQ x.reverse)).length≤2147483647:=by
  have:=nz (aQ x.reverse)
  rw [cy,List.length_reverse] at this;omega
 have hp: ∀s∈syms (aQ x.reverse),0<(gK (syms (aQ x.reverse))).getD s 0:=by
  intro s h
  have:=wY hb s h
  rw [Ce _ (by omega)]
  exact List.count_pos_iff.2 h
 obtain ⟨s,hs,hlt⟩:=GW hn hb
 exact I4 (jK _) (sq hlen) (Cb _) (hp 257 (Hf _)) ⟨s,hlt,hp s hs⟩ hp hb
theorem BY {ss:List Nat} (h: ∀s∈ss,s≤257):Hs.dJ (List.replicate 258 0) (Proofs.YtgglghjnakclmaaGreat.ints ss)=Proofs.YtgglghjnakclmaaGreat.ints (gK ss):=by
 have hall:(Proofs.YtgglghjnakclmaaGreat.ints ss).all Hs.j6=true:=by
  refine List.all_eq_true.2 fun z hz=> ?_
  obtain ⟨s,hs,rfl⟩:=List.mem_map.1 hz
  have:=h s hs
  exact Hs.ik.2 (by omega)
 refine List.ext_getElem? fun i=> ?_
 have hl:(Hs.dJ (List.replicate 258 0) (Proofs.YtgglghjnakclmaaGreat.ints ss)).length=258:=by rw [Hs.kQ];simp
 by_cases hi:i<258
 ·have h1:=Hs.pT (zs:=Proofs.YtgglghjnakclmaaGreat.ints ss) (t:=List.replicate 258 0) hall (by simp) i
  rw [List.getD_eq_getElem?_getD,List.getElem?_eq_getElem (by omega)] at h1
  rw [List.getElem?_eq_getElem (by omega)]
  have h2:=Ce ss hi
  rw [List.getD_eq_getElem?_getD,List.getElem?_eq_getElem (by rw [jK];exact hi)] at h2
  have h4:(Proofs.YtgglghjnakclmaaGreat.ints (gK ss))[i]? =some (((gK ss)[i]'(by rw [jK];exact hi):Nat):Int):=by
   unfold Proofs.YtgglghjnakclmaaGreat.ints
   rw [List.getElem?_map,List.getElem?_eq_getElem (by rw [jK];exact hi)];rfl
  rw [h4]
  simp only [Option.getD_some] at h1 h2
  rw [h1,h2]
  have h3:((Proofs.YtgglghjnakclmaaGreat.ints ss).count (i:Int))=ss.count i:=by
   unfold Proofs.YtgglghjnakclmaaGreat.ints
   rw [List.count_eq_countP,List.countP_map,List.count_eq_countP]
   refine List.countP_congr fun x _=> ?_
   simp only [Function.comp,beq_iff_eq]
   omega
  rw [h3,List.getD_eq_getElem?_getD,List.getElem?_replicate,if_pos hi]
  simp
 ·rw [List.getElem?_eq_none (by omega),List.getElem?_eq_none (by rw [Proofs.YtgglghjnakclmaaGreat.cF,jK];omega)]
end Go.af
set_option maxRecDepth 20000
namespace Go.Vc
def oC (l:List Nat) (i:Nat):List Nat:=(List.range l.length).map fun p=>if p<i∨l.length - i≤p then l.getD (l.length - 1 - p) 0 else l.getD p 0
theorem mL (l:List Nat) (i:Nat):(oC l i).length=l.length:=by unfold oC;simp
theorem pL {l:List Nat} {i p:Nat} (h:p<l.length):(oC l i)[p]? =some (if p<i∨l.length - i≤p then l.getD (l.length - 1 - p) 0 else l.getD p 0):=by
 unfold oC
 rw [List.getElem?_map,List.getElem?_range h];rfl
theorem Hy (l:List Nat):oC l 0=l:=by
 refine List.ext_getElem? fun p=> ?_
 by_cases h:p<l.length
 ·rw [pL h,if_neg (by omega),List.getElem?_eq_getElem h,List.getD_eq_getElem?_getD,List.getElem?_eq_getElem h];rfl
 ·rw [List.getElem?_eq_none (by rw [mL];omega),List.getElem?_eq_none (by omega)]
theorem G8 {l:List Nat} {i:Nat} (h:2*i+1<l.length):((oC l i).set i (l.getD (l.length - 1 - i) 0)).set (l.length - 1 - i) (l.getD i 0)=oC l (i+1):=by
 refine List.ext_getElem? fun p=> ?_
 by_cases hp:p<l.length
 ·rw [pL hp,List.getElem?_set,List.getElem?_set,pL hp]
  by_cases h1:l.length - 1 - i=p
  ·subst h1
   rw [if_pos rfl,if_pos (by rw [List.length_set,mL];omega),if_pos (by omega),show l.length - 1 - (l.length - 1 - i)=i by omega]
  ·rw [if_neg h1]
   by_cases h2:i=p
   ·subst h2
    rw [if_pos rfl,if_pos (by rw [mL];omega),if_pos (by omega)]
   ·rw [if_neg h2]
    by_cases h3:p<i∨l.length - i≤p
    ·rw [if_pos h3,if_pos (by omega)]
    ·rw [if_neg h3,if_neg (by omega)]
 ·rw [List.getElem?_eq_none (by rw [List.length_set,List.length_set,mL];omega),List.getElem?_eq_none (by rw [mL];omega)]
theorem Jm {l:List Nat} {i:Nat} (h:l.length≤2*i+1):oC l i=l.reverse:=by
 refine List.ext_getElem? fun p=> ?_
 by_cases hp:p<l.length
 ·rw [pL hp,List.getElem?_reverse hp]
  have e: ∀q,q<l.length→l[q]? =some (l.getD q 0):=fun q hq=>by rw [List.getD_eq_getElem?_getD,List.getElem?_eq_getElem hq];rfl
  rw [e _ (by omega)]
  by_cases h3:p<i∨l.length - i≤p
  ·rw [if_pos h3]
  ·rw [if_neg h3,show l.length - 1 - p=p by omega]
 ·rw [List.getElem?_eq_none (by rw [mL];omega),List.getElem?_eq_none (by rw [List.length_reverse];omega)]
end Go.Vc
namespace Go.Proofs.YtgglghjnakclmaaGreat
open Go Go.Vc
section
variable {E w:World} {F:List HP}
theorem EY {s:Sl} {l:List Nat} {K:World→Prop} (h:Hp E w (aj 1 s (l.map vB)::F)) (hbig:l.length≤bZ) (hK: ∀w',Hp E w' (aj 1 s (l.reverse.map vB)::F)→K w'):
  Cl Tryz.prog [] dC ⟨[.slice s.base s.len s.cap]⟩ w K:=by
 refine nd.ok _ _ _ ?_
 have hlen:=h.aV
 rw [List.length_map,Nat.mul_one] at hlen
 rw [aA] at hbig
 rw [ae (by omega)]
 refine ⟨fun i j w'=> ∃k:Nat,i=(k:Int)∧j=(l.length:Int) - 1 - (k:Int)∧k≤l.length∧Hp E w' (aj 1 s ((oC l k).map vB)::F),fun i _ _=>l.length - i.toNat,⟨0,rfl,by omega,by omega,by rw [Hy];exact h⟩,?_⟩
 rintro i j w ⟨k,rfl,rfl,hk,h⟩
 refine aa.dm (fun hlt=> ?_) (fun hge=> ?_)
 ·have hg: ∀p,(hp:p<l.length)→((oC l k).map vB)[p]? =some (vB (if p<k∨l.length - k≤p then l.getD (l.length - 1 - p) 0 else l.getD p 0)):=fun p hp=>by rw [List.getElem?_map,pL hp];rfl
  have hj:((l.length:Int) - 1 - (k:Int)).toNat=l.length - 1 - k:=by omega
  refine aK.mk h fun w h=> ?_
  refine an.rd (h.ag ad.own) (by omega) (by omega) fun q hi hq=> ?_
  have e1:((oC l k).map vB)[((l.length:Int) - 1 - (k:Int)).toNat]'hi=vB (l.getD (l.length - 1 - k) 0):=by
   have:=hg (l.length - 1 - k) (by omega)
   rw [if_neg (by omega)] at this
   rw [List.getElem_eq_iff,hj];exact this
  refine Ld.sc (s:= .int .u8) (l.getD (l.length - 1 - k) 0:Int) (by rw [hq,e1];rfl) ?_
  refine an.rd (h.ag ad.own) (by omega) (by omega) fun q2 hi2 hq2=> ?_
  have e2:((oC l k).map vB)[((k:Int)).toNat]'hi2=vB (l.getD k 0):=by
   have:=hg k (by omega)
   rw [if_neg (by omega)] at this
   rw [List.getElem_eq_iff,Int.toNat_natCast];exact this
  refine Ld.sc (s:= .int .u8) (l.getD k 0:Int) (by rw [hq2,e2];rfl) ?_
  refine St.own h (by omega) (by omega) rfl fun w h=> ?_
  refine St.own h (by omega) (by omega) rfl fun w h=> ?_
  rw [ae (by omega),ae (by omega)]
  refine ⟨⟨k+1,by omega,by omega,by omega,?_⟩,by first|omega|(dsimp only;omega)⟩
  rw [hj,Int.toNat_natCast] at h
  have e3:(((oC l k).map vB).set k (.int .u8 (l.getD (l.length - 1 - k) 0:Int))).set (l.length - 1 - k) (.int .u8 (l.getD k 0:Int))=(oC l (k+1)).map vB:=by
   rw [←G8 (by omega),List.map_set,List.map_set];rfl
  rw [e3] at h
  exact h
 ·rw [Jm (by omega)] at h
  exact hK _ h
end
end Go.Proofs.YtgglghjnakclmaaGreat
set_option maxRecDepth 20000
namespace Go.Proofs.YtgglghjnakclmaaGreat
open Go Go.Vc Go.Hd
section
variable {E w:World} {F:List HP}
theorem J5 {n:Nat} {K:Sl→Int→World→Prop} (h:Hp E w F) (hn:n≤65536) (hK: ∀s w',Hp E w' (aj 1 s ((fV n).map vB)::F)→K s 0 w'):Cl Tryz.prog [kS,kI] nr ⟨[.int .i64 (n:Int)]⟩ w K:=by
 refine DG.ok _ _ _ ?_
 refine aa.df (by omega) (aa.df (by omega) ?_)
 have hm:IntKind.max .i64=9223372036854775807:=rfl
 have and127: ∀m:Nat,m≤65536→c8 .i64 (m:Int) 127=((m % 128:Nat):Int):=fun m h=>by
  rw [show (127:Int)=((127:Nat):Int) from rfl,jz (by omega) (by omega),show (127:Nat)=2^7 - 1 from rfl,Nat.and_two_pow_sub_one_eq_mod]
 have hshr: ∀m:Nat,aN .i64 (m:Int) 7=((m/128:Nat):Int):=fun m=>by
  rw [show (7:Int)=((7:Nat):Int) from rfl,cG (by decide)]
 rw [and127 n hn,dS (by omega)]
 refine Nw.mk h fun b3 w h=> ?_
 refine aI (s:=⟨none,0,0⟩) (ys:= [vB (n % 128)]) (n:=1) qe (by decide) (.inl ⟨5,by kernel_rfl⟩) (h.bl 1) (.inl ⟨some ⟨b3,0,none⟩,1,1,rfl,rfl,h.ag (ad.aG rfl rfl)⟩) rfl Ax (by decide) (by decide) fun s w h _=> ?_
 refine ⟨by decide,?_⟩
 rw [hshr]
 refine ⟨fun x s w'=> ∃(m:Nat) (l:List Nat),x=(m:Int)∧m≤512∧l.length+m≤513∧ta m++l.reverse=fV n∧Hp E w' (aj 1 s (l.map vB)::F),fun x _ _=>x.toNat,⟨n/128,[n % 128],rfl,by omega,by simp;omega,rfl,h.p1.drop⟩,?_⟩
 rintro x s w ⟨m,l,rfl,hm5,hl,hv,h⟩
 refine aa.dm (fun hlt=> ?_) (fun hge=> ?_)
 ·have hm0:0<m:=by omega
  have hor:q8 .u8 ((m % 128:Nat):Int) 128=((128+m % 128:Nat):Int):=by
   have hm8:IntKind.max .u8=255:=rfl
   have e:=Nat.two_pow_add_eq_or_of_lt (i:=7) (b:=m % 128) (by omega) 1
   have e2:m % 128|||128=128+m % 128:=by rw [Nat.or_comm];exact e.symm
   rw [show (128:Int)=((128:Nat):Int) from rfl,wJ (by omega) (by omega) (by rw [e2];omega),e2]
  rw [and127 m (by omega),dS (by omega),hor]
  have hol:=h.aV
  rw [List.length_map,Nat.mul_one] at hol
  refine Nw.mk h fun b12 w h=> ?_
  refine aI (ys:= [vB (128+m % 128)]) (n:=1) qe (by decide) (.inl ⟨5,by kernel_rfl⟩) h.p1 (.inl ⟨some ⟨b12,0,none⟩,1,1,rfl,rfl,h.ag (ad.aG rfl rfl)⟩) rfl Ax (by omega) (by omega) fun s w h _=> ?_
  refine ⟨by decide,?_⟩
  rw [hshr]
  refine ⟨⟨m/128,l++ [128+m % 128],rfl,by omega,by rw [List.length_append,List.length_singleton];omega,?_,by rw [List.map_append];exact h.p1.drop⟩,by first|omega|(dsimp only;omega)⟩
  rw [List.reverse_append,←hv,wB hm0]
  simp
 ·have hm0:m=0:=by omega
  subst hm0
  rw [qP,List.nil_append] at hv
  refine EY h (by rw [aA];omega) fun w h=>hK s w ?_
  rw [hv] at h
  exact h
end
end Go.Proofs.YtgglghjnakclmaaGreat
namespace Go.Proofs.YtgglghjnakclmaaGreat
open Go Go.Vc
set_option maxRecDepth 100000
theorem Gt.ok (a:Int) (b:Sl) (R:Int→World→Prop) w (h:
 Cl Pg [(.arr 256)] oL ⟨[]⟩ w fun d c=>
 Nw 206 ⟨List.replicate 256 (.int .u32 0)⟩ c fun f e=>
 ax 256 ⟨f,0,none⟩ d e fun g=>
 br (dH .u32 (if IntKind.signed .u32 then -1 else IntKind.max .u32) a) 0 g fun h i (j:Int) (k:Int) l=>
 aa (decide (k<(b.len:Int)))
 (an b k 1 fun m=>
 Ld kS m l fun (n:Sl)=>
 br j 0 l fun o p (q:Int) (r:Int) s=>
 aa (decide (r<(n.len:Int)))
 (an n r 1 fun t=>
 Ld (aq .u8) t s fun (u:Int)=>
 aw ⟨f,0,none⟩ 256 (dH .u8 (u8 q) u) 1 fun v=>
 Ld (aq .u32) v s fun (x:Int)=>
 0≤(8:Int)∧
 o (dH .u32 x (aN .u32 q (8:Int))) (i64 (r+1)) s∧p (dH .u32 x (aN .u32 q (8:Int))) (i64 (r+1)) s<p q r s)
 (h q (i64 (k+1)) s∧i q (i64 (k+1)) s<i j k l))
 (R (dH .u32 (if IntKind.signed .u32 then -1 else IntKind.max .u32) j) l)):Cl Pg [(aq .u32)] fM ⟨[(.int .u32 a),(ah b)]⟩ w R:=co Tryz.f89 [(9,[(0,(aq .u32)),(15,kI)]),(18,[(0,(aq .u32)),(21,kI)])] h
theorem DY.ok (R:(Array Value)→World→Prop) w (h:
 Nw 206 ⟨List.replicate 256 (.int .u32 0)⟩ w fun b a=>
 da 0 a fun c d (e:Int) f=>
 aa (decide (e<256))
 (Cl Pg [(aq .u32)] rU ⟨[(.int .u8 (u8 e))]⟩ f fun (h:Int) g=>
 aw ⟨b,0,none⟩ 256 e 1 fun i=>
 St i (.int .u32 h) g fun j=>
 c (i64 (e+1)) j∧d (i64 (e+1)) j<d e f)
 (Ld (.arr 256) ⟨b,0,none⟩ f fun k=>
 ax 256 ⟨b,0,none⟩ k f fun l=>
 Ld (.arr 256) ⟨b,0,none⟩ l fun m=>
 R m l)):Cl Pg [(.arr 256)] oL ⟨[]⟩ w R:=co Tryz.f138 [(5,[(2,kI)])] h
theorem IE.ok (a:Int) (R:Sl→World→Prop) w (h:
 Nw 291 ⟨[(.int .u8 0),(.int .u8 0),(.int .u8 0),(.int .u8 0)]⟩ w fun c b=>
 da 0 b fun d e (f:Int) g=>
 aa (decide (f<4))
 (0≤(i64 ((24:Int) - (i64 ((8:Int)*f))))∧
 aw ⟨c,0,none⟩ 4 f 1 fun h=>
 St h (.int .u8 (u8 (aN .u32 a (i64 ((24:Int) - (i64 ((8:Int)*f))))))) g fun i=>
 d (i64 (f+1)) i∧e (i64 (f+1)) i<e f g)
 (bf (⟨some ⟨c,0,none⟩,4,4⟩:Sl) 0 4 4 1 fun j=>
 R j g)):Cl Pg [kS] od ⟨[(.int .u32 a)]⟩ w R:=co Tryz.f152 [(7,[(5,kI)])] h
theorem Jx.ok (a:Int) (R:Int→World→Prop) w (h:
 br (u32 a) 0 w fun b c (d:Int) (e:Int) f=>
 aa (decide (e<8))
 (0≤(1:Int)∧
 b (dH .u32 (aN .u32 d (1:Int)) (u32 ((3988292384:Int)*(c8 .u32 d 1)))) (i64 (e+1)) f∧c (dH .u32 (aN .u32 d (1:Int)) (u32 ((3988292384:Int)*(c8 .u32 d 1)))) (i64 (e+1)) f<c d e f)
 (R d f)):Cl Pg [(aq .u32)] rU ⟨[(.int .u8 a)]⟩ w R:=co Tryz.f193 [(7,[(3,(aq .u32)),(6,kI)])] h
end Go.Proofs.YtgglghjnakclmaaGreat
namespace Go.Crc
theorem Hi (c:Nat):(c/2)^^^(3988292384*(c % 2))=half c:=by
 unfold half
 rcases Nat.mod_two_eq_zero_or_one c with e|e
 ·rw [e];rfl
 ·rw [e];rfl
def bM:Nat→Nat→Nat
 |0,c=>c
 |k+1,c=>half (bM k c)
theorem rL: ∀(k c:Nat),c<4294967296→bM k c<4294967296
 |0,_,h=>h
 |k+1,c,h=>fq (rL k c h)
end Go.Crc
namespace Go.Proofs.YtgglghjnakclmaaGreat
open Go Go.Vc Go.Crc
section
variable {E w:World} {F:List HP}
theorem K1 {b:Nat} {K:Int→World→Prop} (hb:b<256) (hK:K (row b:Int) w):Cl Tryz.prog [aq .u32] rU ⟨[.int .u8 (b:Int)]⟩ w K:=by
 refine Jx.ok _ _ _ ?_
 refine ⟨fun c i w'=>w'=w∧∃k:Nat,i=(k:Int)∧k≤8∧c=(bM k b:Int),fun _ i _=>8 - i.toNat,⟨rfl,0,rfl,by omega,by rw [eS (by omega)];rfl⟩,?_⟩
 rintro c i w' ⟨rfl,k,rfl,hk,rfl⟩
 refine aa.dm (fun hlt=> ?_) (fun hge=> ?_)
 ·have hlt:k<8:=by omega
  have hb:=rL k b (by omega)
  have hm:IntKind.max .u32=4294967295:=rfl
  have h2:=fq hb
  have e1:aN .u32 (bM k b:Int) 1=((bM k b/2:Nat):Int):=by
   rw [show (1:Int)=((1:Nat):Int) from rfl,cG (by decide)]
  have e2:c8 .u32 (bM k b:Int) 1=((bM k b % 2:Nat):Int):=by
   rw [show (1:Int)=((1:Nat):Int) from rfl,jz (by omega) (by omega),Nat.and_one_is_mod]
  have e3:u32 ((3988292384:Int)*((bM k b % 2:Nat):Int))=((3988292384*(bM k b % 2):Nat):Int):=by
   rw [eS (by omega)];omega
  have e4:dH .u32 ((bM k b/2:Nat):Int) ((3988292384*(bM k b % 2):Nat):Int)=(bM (k+1) b:Int):=by
   have hh:=Hi (bM k b)
   rw [gW (by omega) (by omega) (by rw [hh];omega),hh];rfl
  rw [e1,e2,e3,e4,ae (by omega)]
  exact ⟨by decide,⟨rfl,k+1,rfl,by omega,rfl⟩,by dsimp only;omega⟩
 ·have:k=8:=by omega
  subst this
  exact hK
def eZ:List Nat:=(List.range 256).map row
theorem nP:eZ.length=256:=by unfold eZ;simp
theorem zw {b:Nat} (h:b<256):eZ[b]? =some (row b):=by unfold eZ;rw [List.getElem?_map,List.getElem?_range h];rfl
abbrev iM (l:List Nat):List Value:=l.map fun (n:Nat)=>Value.int .u32 (n:Int)
theorem vj {l:List Nat}:(iM l).all aD=true:=by
 unfold iM
 rw [List.all_map]
 exact List.all_eq_true.2 fun _ _=>rfl
set_option maxRecDepth 20000
theorem Kz {K:Array Value→World→Prop} (h:Hp E w F) (hK: ∀w',Hp E w' F→K ⟨iM eZ⟩ w'):Cl Tryz.prog [.arr 256] oL ⟨[]⟩ w K:=by
 refine DY.ok _ _ ?_
 refine Nw.mk h fun b2 w h=> ?_
 have hlen: ∀k,k≤256→(iM (eZ.take k++List.replicate (256 - k) 0)).length=256:=fun k hk=>by simp [nP];omega
 refine ⟨fun i w'=> ∃k:Nat,i=(k:Int)∧k≤256∧Hp E w' (af b2 (.cells ⟨iM (eZ.take k++List.replicate (256 - k) 0)⟩ 206 (0,0))::F),fun i _=>256 - i.toNat,⟨0,rfl,by omega,by
  have:(⟨iM (eZ.take 0++List.replicate (256 - 0) 0)⟩:Array Value)=⟨List.replicate 256 (.int .u32 0)⟩:=by simp
  rw [this];exact h⟩,?_⟩
 rintro i w ⟨k,rfl,hk,h⟩
 refine aa.dm (fun hlt=> ?_) (fun hge=> ?_)
 ·have hlt:k<256:=by omega
  rw [dS (by omega)]
  refine K1 hlt ?_
  refine ⟨by omega,by omega,?_⟩
  rw [show ((k:Int)).toNat*1=k by omega]
  simp only [al,Nat.zero_add]
  have hkl:=hlen k (by omega)
  refine St.xb h (by show k<(iM (eZ.take k++List.replicate (256 - k) 0)).length;omega) rfl fun w h=> ?_
  rw [ae (by omega)]
  refine ⟨⟨k+1,rfl,by omega,?_⟩,by first|omega|(dsimp only;omega)⟩
  have e:(⟨iM (eZ.take k++List.replicate (256 - k) 0)⟩:Array Value).setIfInBounds k (.int .u32 (row k:Int))=⟨iM (eZ.take (k+1)++List.replicate (256 - (k+1)) 0)⟩:=by
   apply Array.ext'
   rw [Array.toList_setIfInBounds]
   have:(iM (eZ.take k++List.replicate (256 - k) 0)).set k (.int .u32 (row k:Int))=iM ((eZ.take k++List.replicate (256 - k) 0).set k (row k)):=by rw [iM,iM,List.map_set]
   have hl:(eZ.take k).length=k:=by rw [List.length_take,nP];omega
   rw [this,List.set_append_right _ _ (by omega),hl,Nat.sub_self]
   obtain ⟨m,hm⟩: ∃m,256 - k=m+1:=⟨255 - k,by omega⟩
   rw [hm,List.replicate_succ,List.set_cons_zero,List.take_add_one,zw hlt,show 256 - (k+1)=m by omega]
   simp
  rw [e] at h
  exact h
 ·have hk2:k=256:=by omega
  subst hk2
  have e:(⟨iM (eZ.take 256++List.replicate (256 - 256) 0)⟩:Array Value)=⟨iM eZ⟩:=by
   rw [List.take_of_length_le (by rw [nP];omega)];simp
  rw [e] at h
  have hn:(⟨iM eZ⟩:Array Value).size=256:=by simp [nP]
  refine Ld.xw h hn ?_
  refine ax.q h hn hn vj fun w h=> ?_
  exact Ld.xw h hn (hK _ h.tl)
theorem LG:(if IntKind.signed .u32 then (-1:Int) else IntKind.max .u32)=((4294967295:Nat):Int):=rfl
theorem HN {c:Nat} (h:c<4294967296):dH .u32 (if IntKind.signed .u32 then (-1:Int) else IntKind.max .u32) (c:Int)=((c^^^4294967295:Nat):Int):=by
 have hm:IntKind.max .u32=4294967295:=rfl
 have hx:4294967295^^^c<2^32:=Nat.xor_lt_two_pow (by decide) (by omega)
 rw [LG,gW (by omega) (by omega) (by omega),Nat.xor_comm]
theorem Hv {c x:Nat} (hc:c<4294967296) (hx:x<256):dH .u8 (u8 (c:Int)) (x:Int)=((c % 256^^^x:Nat):Int):=by
 have hm:IntKind.max .u8=255:=rfl
 have h2:c % 256^^^x<2^8:=Nat.xor_lt_two_pow (by omega) (by omega)
 rw [pv,show ((c:Int) % 256)=((c % 256:Nat):Int) by omega,gW (by omega) (by omega) (by omega)]
theorem sj {c x:Nat} (hx:x<256):c % 256^^^x<256:=by
 have:c % 256^^^x<2^8:=Nat.xor_lt_two_pow (by omega) (by omega)
 omega
theorem EL {c x:Nat} (hc:c<4294967296) (hx:x<256):dH .u32 (row (c % 256^^^x):Int) (aN .u32 (c:Int) 8)=(Crc.step c x:Int):=by
 have hm:IntKind.max .u32=4294967295:=rfl
 have hr:=zX (c:=c % 256^^^x) (by have:=sj (c:=c) hx;omega)
 have hs:=xh hc hx
 unfold Crc.step at hs⊢
 rw [show (8:Int)=((8:Nat):Int) from rfl,cG (by decide),show (2:Nat)^8=256 from rfl,gW (by omega) (by omega) (by omega)]
end
end Go.Proofs.YtgglghjnakclmaaGreat
namespace Go.Proofs.YtgglghjnakclmaaGreat
open Go Go.Vc Go.aS
section
variable {E w:World} {F:List HP}
set_option maxRecDepth 20000
theorem xX {bs:List (List Nat)} {k:Nat} (h:k<bs.length):(bs.take (k+1)).flatten=(bs.take k).flatten++bs.getD k []:=by
 rw [List.take_add_one,List.flatten_append]
 congr 1
 simp [h]
theorem LA {b:Nat} (h:b<256):(⟨iM eZ⟩:Array Value)[b]? =some (Sc.enc (.int .u32) (Crc.row b:Int)):=by
 rw [List.getElem?_toArray,iM,List.getElem?_map,zw h];rfl
theorem BT {c:Nat} {K:Int→World→Prop} {s:Sl} {cs:List Sl} {bs:List (List Nat)} (h:Hp E w F) (hc0:c<4294967296)
  (hs:ad F (aC 1 s (cs.map fun x=> .slice x.base x.len x.cap))) (hl:cs.length=bs.length) (hcl:cs.length≤bZ) (hc: ∀i (h:i<cs.length),ad F (aC 1 cs[i] ((bs.getD i []).map vB)))
  (hby: ∀b∈bs,∀y∈b,y<256) (hbig: ∀b∈bs,b.length≤bZ)
  (hK: ∀w',Hp E w' F→K ((Crc.feed (c^^^4294967295) bs.flatten^^^4294967295:Nat):Int) w'):Cl Tryz.prog [aq .u32] fM ⟨[.int .u32 (c:Int),.slice s.base s.len s.cap]⟩ w K:=by
 refine Gt.ok _ _ _ _ ?_
 have hlen:s.len=cs.length:=by have:=(h.ag hs).1;simpa using this.symm
 have hflat: ∀y∈bs.flatten,y<256:=fun y hy=>by
  obtain ⟨b,hb1,hb2⟩:=List.mem_flatten.1 hy
  exact hby b hb1 y hb2
 have hc1:c^^^4294967295<4294967296:=Nat.xor_lt_two_pow (n:=32) hc0 (by decide)
 rw [aA] at hcl
 refine Kz h fun w h=>Nw.mk h fun b6 w h=> ?_
 have hn:(⟨iM eZ⟩:Array Value).size=256:=by simp [nP]
 refine ax.q h (by simp) hn vj fun w h=> ?_
 rw [HN hc0]
 refine ⟨fun x i w'=> ∃k:Nat,i=(k:Int)∧k≤cs.length∧x=(Crc.feed (c^^^4294967295) (bs.take k).flatten:Int)∧Hp E w' (af b6 (.cells ⟨iM eZ⟩ 206 (0,0))::F),fun _ i _=>cs.length - i.toNat,⟨0,rfl,by omega,rfl,h⟩,?_⟩
 rintro x i w ⟨k,rfl,hk,rfl,h⟩
 refine aa.dm (fun hlt=> ?_) (fun hge=> ?_)
 ·have hlt:k<cs.length:=by omega
  have hkb:k<bs.length:=by omega
  refine an.rd (h.tl.ag hs) (by omega) (by omega) fun q hi hq=> ?_
  have hq':w.cell? q=some (Sc.sl.enc cs[k]):=by simpa using hq
  refine Ld.sc _ hq' ?_
  have hgd:bs.getD k []=bs[k]:=by rw [List.getD_eq_getElem?_getD,List.getElem?_eq_getElem hkb];rfl
  have hck:=hc k hlt
  rw [hgd] at hck
  have hmem:=List.getElem_mem hkb
  have hblen:=hbig _ hmem
  rw [aA] at hblen
  have hlk:=(h.tl.ag hck).1
  simp only [List.length_map,Nat.mul_one] at hlk
  refine ⟨fun x i w'=> ∃j:Nat,i=(j:Int)∧j≤bs[k].length∧x=(Crc.feed (c^^^4294967295) ((bs.take k).flatten++bs[k].take j):Int)∧Hp E w' (af b6 (.cells ⟨iM eZ⟩ 206 (0,0))::F),fun _ i _=>bs[k].length - i.toNat,⟨0,rfl,by omega,by simp,h⟩,?_⟩
  rintro x i w ⟨j,rfl,hj,rfl,h⟩
  have hpre: ∀y∈(bs.take k).flatten++bs[k].take j,y<256:=fun y hy=>by
   rcases List.mem_append.1 hy with hy|hy
   ·obtain ⟨b,hb1,hb2⟩:=List.mem_flatten.1 hy
    exact hby b (List.mem_of_mem_take hb1) y hb2
   ·exact hby _ hmem y (List.mem_of_mem_take hy)
  have hfl:=Crc.mC _ _ hc1 hpre
  refine aa.dm (fun hlt2=> ?_) (fun hge2=> ?_)
  ·have hjl:j<bs[k].length:=by omega
   have hy:=hby _ hmem _ (List.getElem_mem hjl)
   refine an.rd (h.tl.ag hck) (by omega) (by omega) fun q hi hq=> ?_
   refine Ld.sc (s:= .int .u8) (bs[k][j]:Int) (by simpa [vB] using hq) ?_
   rw [Hv hfl hy]
   refine aw.rd (s:= .int .u32) h (by omega) (by have:=sj (c:=Crc.feed (c^^^4294967295) ((bs.take k).flatten++bs[k].take j)) hy;omega) (Crc.row (Crc.feed (c^^^4294967295) ((bs.take k).flatten++bs[k].take j) % 256^^^bs[k][j]):Int) ?_ ?_
   ·rw [Int.toNat_natCast]
    exact LA (sj (c:=Crc.feed (c^^^4294967295) ((bs.take k).flatten++bs[k].take j)) hy)
   rw [EL hfl hy,ae (by omega)]
   refine ⟨by decide,⟨j+1,rfl,by omega,?_,h⟩,by first|omega|(dsimp only;omega)⟩
   rw [List.take_add_one,List.getElem?_eq_getElem hjl,←List.append_assoc,Crc.ug ((bs.take k).flatten++bs[k].take j)];rfl
  ·have hjl:j=bs[k].length:=by omega
   subst hjl
   rw [ae (by omega),List.take_length]
   exact ⟨⟨k+1,rfl,by omega,by rw [xX hkb,hgd],h⟩,by first|omega|(dsimp only;omega)⟩
 ·have hkl:k=bs.length:=by omega
  subst hkl
  rw [List.take_length]
  have hfl:=Crc.mC _ _ hc1 hflat
  rw [HN hfl]
  exact hK _ h.tl
end
end Go.Proofs.YtgglghjnakclmaaGreat
namespace Go.Proofs.YtgglghjnakclmaaGreat
open Go Go.Vc Go.aS
section
variable {E w:World} {F:List HP}
set_option maxRecDepth 20000
theorem Je {c k:Nat} (hk:k<4):(Hd.fH c)[k]? =some (c/2^(24 - 8*k) % 256):=by
 match k,hk with
 |0,_=>rfl
 |1,_=>rfl
 |2,_=>rfl
 |3,_=>simp [Hd.fH]
theorem Ed {c:Nat} {K:Sl→World→Prop} (h:Hp E w F) (hc:c<4294967296) (hK: ∀s w',Hp E w' (aj 1 s ((Hd.fH c).map vB)::F)→K s w'):Cl Tryz.prog [kS] od ⟨[.int .u32 (c:Int)]⟩ w K:=by
 refine IE.ok _ _ _ ?_
 refine Nw.mk h fun b3 w h=> ?_
 have hlen: ∀k,k≤4→(((Hd.fH c).take k++List.replicate (4 - k) 0).map vB).length=4:=fun k hk=>by
  rw [List.length_map,List.length_append,List.length_take,List.length_replicate,show (Hd.fH c).length=4 from rfl];omega
 refine ⟨fun i w'=> ∃k:Nat,i=(k:Int)∧k≤4∧Hp E w' (af b3 (.cells ⟨((Hd.fH c).take k++List.replicate (4 - k) 0).map vB⟩ 291 (0,0))::F),fun i _=>4 - i.toNat,⟨0,rfl,by omega,h⟩,?_⟩
 rintro i w ⟨k,rfl,hk,h⟩
 refine aa.dm (fun hlt=> ?_) (fun hge=> ?_)
 ·have hlt:k<4:=by omega
  rw [ae (x:=(8:Int)*(k:Int)) (by omega),ae (by omega),show (24:Int) - 8*(k:Int)=((24 - 8*k:Nat):Int) by omega,cG (by have:IntKind.bits .u32=32:=rfl;omega),pv,ae (by omega)]
  refine ⟨by omega,by omega,by omega,?_⟩
  rw [show ((k:Int)).toNat*1=k by omega]
  simp only [al,Nat.zero_add]
  have hkl:=hlen k (by omega)
  refine St.xb h (by show k<(((Hd.fH c).take k++List.replicate (4 - k) 0).map vB).length;omega) rfl fun w h=> ?_
  refine ⟨⟨k+1,rfl,by omega,?_⟩,by first|omega|(dsimp only;omega)⟩
  have e:(⟨((Hd.fH c).take k++List.replicate (4 - k) 0).map vB⟩:Array Value).setIfInBounds k (.int .u8 (((c/2^(24 - 8*k):Nat):Int) % 256))=⟨((Hd.fH c).take (k+1)++List.replicate (4 - (k+1)) 0).map vB⟩:=by
   apply Array.ext'
   rw [Array.toList_setIfInBounds]
   have e1:(Value.int .u8 (((c/2^(24 - 8*k):Nat):Int) % 256))=vB (c/2^(24 - 8*k) % 256):=by
    unfold vB;congr 1
   have hl:((Hd.fH c).take k).length=k:=by rw [List.length_take,show (Hd.fH c).length=4 from rfl];omega
   obtain ⟨m,hm⟩: ∃m,4 - k=m+1:=⟨3 - k,by omega⟩
   show (((Hd.fH c).take k++List.replicate (4 - k) 0).map vB).set k _=_
   rw [e1,←List.map_set,List.set_append_right _ _ (by omega),hl,Nat.sub_self,hm,List.replicate_succ,List.set_cons_zero,List.take_add_one,Je hlt,show 4 - (k+1)=m by omega]
   simp
  rw [e] at h
  exact h
 ·have hk4:k=4:=by omega
  subst hk4
  rw [List.take_of_length_le (Nat.le_refl 4:(Hd.fH c).length≤4),Nat.sub_self,List.replicate_zero,List.append_nil] at h
  refine bf.whole (by decide) rfl rfl ?_
  refine hK _ w (h.fo (n:=4) (sz:=1) rfl)
end
end Go.Proofs.YtgglghjnakclmaaGreat
set_option maxRecDepth 20000
namespace Go.Proofs.YtgglghjnakclmaaGreat
open Go Go.Vc Go.Srt Go.Inc Go.Hd
theorem cH {n:Nat} (h:n≤65536):(fV n).length≤4:=by
 unfold fV
 have: ∀k m:Nat,m<128^k→(ta m).length≤k:=by
  intro k
  induction k with
  |zero=>intro m hm;have:m=0:=by simpa using hm
         rw [this,qP];exact Nat.le_refl _
  |succ k ih=>
   intro m hm
   rcases Nat.eq_zero_or_pos m with e|e
   ·rw [e,qP];exact Nat.zero_le _
   ·rw [wB e,List.length_append,List.length_singleton]
    have:=ih (m/128) (by rw [Nat.pow_succ] at hm;omega)
    omega
 have:=this 3 (n/128) (by omega)
 rw [List.length_append,List.length_singleton];omega
section
variable {E w:World} {F:List HP}
theorem rX {n:Nat} {most:Int} {K:Sl→Bool→World→Prop} (h:Hp E w F) (hn:n≤65536) (hK: ∀s w',Hp E w' (aj 1 s ((fV n).map vB)::F)→K s (decide (1≤(n:Int)∧(n:Int)≤most)) w'):
  Cl Tryz.prog [kS,kB] eK ⟨[.int .i64 (n:Int),.int .i64 most]⟩ w K:=by
 refine yy.ok _ _ _ _ ?_
 exact J5 h hn fun s w h=>Aw (hK _ _ h)
theorem Kl {n:Nat} {K:Sl→Int→World→Prop} (h:Hp E w F) (hn:n≤65536) (h0:0<n) (hK: ∀s w',Hp E w' (aj 1 s ((fw n).map vB)::F)→K s 0 w'):
  Cl Tryz.prog [kS,kI] mU ⟨[.agg ⟨[.int .i64 (n:Int)]⟩]⟩ w K:=by
 refine Dr.ok ((n:Int),()) _ _ ?_
 (try simp only [ao,ak,al,Nat.zero_add,Nat.add_zero,Nat.reduceAdd,Bool.not_true,Bool.not_false,aF,aE,Option.isNone])
 (with_reducible repeat first|refine Nw.mk h fun b w h=> ?_|refine aK.mk h fun w h=> ?_|refine Ld.xb h rfl ?_|refine Ld.xt h rfl ?_|refine aH.xb (fun _ h=>h) rfl ?_|refine aH.xt (fun _ h=>h) rfl ?_|refine ⟨h.hb,?_⟩|refine bj.xw h rfl rfl fun w h=> ?_|(refine bj.xs h rfl rfl fun w h=> ?_;dsimp only [ca,aJ] at h)|(refine St.xs h rfl rfl fun w h=> ?_;dsimp only [ca,aJ] at h)|refine aa.yes ?_|refine aa.no ?_|refine ⟨by first|omega|decide,?_⟩)
 refine rX h hn fun s w h=> ?_
 rw [decide_eq_true (show 1≤(n:Int)∧(n:Int)≤65536 by omega)]
 (with_reducible repeat first|refine Nw.mk h fun b w h=> ?_|refine aK.mk h fun w h=> ?_|refine Ld.xb h rfl ?_|refine Ld.xt h rfl ?_|refine aH.xb (fun _ h=>h) rfl ?_|refine aH.xt (fun _ h=>h) rfl ?_|refine ⟨h.hb,?_⟩|refine bj.xw h rfl rfl fun w h=> ?_|(refine bj.xs h rfl rfl fun w h=> ?_;dsimp only [ca,aJ] at h)|(refine St.xs h rfl rfl fun w h=> ?_;dsimp only [ca,aJ] at h)|refine aa.yes ?_|refine aa.no ?_|refine ⟨by first|omega|decide,?_⟩)
 refine ux h fun w h=> ?_
 have hl:=(h.at 1).aV
 rw [List.length_map,Nat.mul_one] at hl
 have h4:=cH hn
 refine qV (s:=⟨some ⟨_,0,none⟩,3,3⟩) (xs:=([87,80,1]:List Nat).map vB) lS (.inl ⟨5,by kernel_rfl⟩) h (ad.aG rfl rfl) (n:=s.len) ?_ ((ad.at 1 ad.own).imp fun w hs=> .inl ⟨s.base,s.len,s.cap,rfl,rfl,hs⟩) (by rw [List.length_map,hl,Nat.mul_one]) (by simp only;omega) (by simp only;omega) fun s' w' h _=> ?_
 ·have:0<(fV n).length:=by unfold fV;simp
  simp only;omega
 ·refine hK _ _ ?_
  rw [←List.map_append] at h
  exact h.du
theorem Lg {c:Nat} {K:Sl→World→Prop} (h:Hp E w F) (hc:c<4294967296) (hK: ∀s w',Hp E w' (aj 1 s ((lN c).map vB)::F)→K s w'):Cl Tryz.prog [kS] jZ ⟨[.int .u32 (c:Int)]⟩ w K:=by
 refine yI.ok _ _ _ ?_
 (try simp only [ao,ak,al,Nat.zero_add,Nat.add_zero,Nat.reduceAdd,Bool.not_true,Bool.not_false,aF,aE,Option.isNone])
 (with_reducible repeat first|refine Nw.mk h fun b w h=> ?_|refine aK.mk h fun w h=> ?_|refine Ld.xb h rfl ?_|refine Ld.xt h rfl ?_|refine aH.xb (fun _ h=>h) rfl ?_|refine aH.xt (fun _ h=>h) rfl ?_|refine ⟨h.hb,?_⟩|refine bj.xw h rfl rfl fun w h=> ?_|(refine bj.xs h rfl rfl fun w h=> ?_;dsimp only [ca,aJ] at h)|(refine St.xs h rfl rfl fun w h=> ?_;dsimp only [ca,aJ] at h)|refine aa.yes ?_|refine aa.no ?_|refine ⟨by first|omega|decide,?_⟩)
 refine Ed h hc fun s w h=> ?_
 have hl:=h.aV
 rw [List.length_map,Nat.mul_one] at hl
 have h4:(fH c).length=4:=rfl
 refine qV (s:=⟨some ⟨_,0,none⟩,1,1⟩) (xs:=([0]:List Nat).map vB) lS (.inl ⟨5,by kernel_rfl⟩) h (ad.cons (ad.aG rfl rfl)) (n:=s.len) (by simp only;omega) (ad.own.imp fun w hs=> .inl ⟨s.base,s.len,s.cap,rfl,rfl,hs⟩) (by rw [List.length_map,hl,Nat.mul_one]) (by simp only;omega) (by simp only;omega) fun s' w' h _=> ?_
 refine hK _ _ ?_
 rw [←List.map_append] at h
 exact h.du
theorem Fg {n:Int} {M P u:Nat} {K:Sl→Int→World→Prop} (h:Hp E w F) (hM:M≤65536) (hP:P≤65536) (hu:u<4294967296)
  (hgood:1≤n→n≤65536→1≤M→(M:Int)≤n→1≤P→P≤M→∀s w',Hp E w' (aj 1 s ((kY M P u).map vB)::F)→K s 0 w')
  (hbad: ¬(1≤n∧n≤65536∧1≤M∧(M:Int)≤n∧1≤P∧P≤M)→∀w',Hp E w' F→K ⟨none,0,0⟩ 2 w'):
  Cl Tryz.prog [kS,kI] iE ⟨[.int .i64 n,.agg ⟨[.int .i64 (M:Int),.int .i64 (P:Int),.int .u32 (u:Int)]⟩]⟩ w K:=by
 refine u5.ok _ ((M:Int),(P:Int),(u:Int),()) _ _ ?_
 (try simp only [ao,ak,al,Nat.zero_add,Nat.add_zero,Nat.reduceAdd,Bool.not_true,Bool.not_false,aF,aE,Option.isNone])
 (with_reducible repeat first|refine Nw.mk h fun b w h=> ?_|refine aK.mk h fun w h=> ?_|refine Ld.xb h rfl ?_|refine Ld.xt h rfl ?_|refine aH.xb (fun _ h=>h) rfl ?_|refine aH.xt (fun _ h=>h) rfl ?_|refine ⟨h.hb,?_⟩|refine bj.xw h rfl rfl fun w h=> ?_|(refine bj.xs h rfl rfl fun w h=> ?_;dsimp only [ca,aJ] at h)|(refine St.xs h rfl rfl fun w h=> ?_;dsimp only [ca,aJ] at h)|refine aa.yes ?_|refine aa.no ?_|refine ⟨by first|omega|decide,?_⟩)
 refine rX h hM fun s1 w h=> ?_
 (with_reducible repeat first|refine Nw.mk h fun b w h=> ?_|refine aK.mk h fun w h=> ?_|refine Ld.xb h rfl ?_|refine Ld.xt h rfl ?_|refine aH.xb (fun _ h=>h) rfl ?_|refine aH.xt (fun _ h=>h) rfl ?_|refine ⟨h.hb,?_⟩|refine bj.xw h rfl rfl fun w h=> ?_|(refine bj.xs h rfl rfl fun w h=> ?_;dsimp only [ca,aJ] at h)|(refine St.xs h rfl rfl fun w h=> ?_;dsimp only [ca,aJ] at h)|refine aa.yes ?_|refine aa.no ?_|refine ⟨by first|omega|decide,?_⟩)
 refine rX h hP fun s2 w h=>Aw ?_
 by_cases hn:1≤n∧n≤65536
 ·refine aa.K0 hn ?_
  by_cases hm:1≤(M:Int)∧(M:Int)≤n
  ·refine aa.K0 hm ?_
   by_cases hp:1≤(P:Int)∧(P:Int)≤(M:Int)
   ·refine aa.K0 hp ?_
    (with_reducible repeat first|refine Nw.mk h fun b w h=> ?_|refine aK.mk h fun w h=> ?_|refine Ld.xb h rfl ?_|refine Ld.xt h rfl ?_|refine aH.xb (fun _ h=>h) rfl ?_|refine aH.xt (fun _ h=>h) rfl ?_|refine ⟨h.hb,?_⟩|refine bj.xw h rfl rfl fun w h=> ?_|(refine bj.xs h rfl rfl fun w h=> ?_;dsimp only [ca,aJ] at h)|(refine St.xs h rfl rfl fun w h=> ?_;dsimp only [ca,aJ] at h)|refine aa.yes ?_|refine aa.no ?_|refine ⟨by first|omega|decide,?_⟩)
    refine Ed h hu fun s3 w h=>Nw.mk h fun b22 w h=> ?_
    have l1:=cH hM
    have l2:=cH hP
    refine Gv (s:=⟨some ⟨b22,0,none⟩,4,4⟩) (cs:= [⟨some ⟨b,0,none⟩,1,1⟩,s1,s2,s3]) (bs:= [[1],fV M,fV P,fH u]) h (ad.aG rfl rfl) rfl (by rw [aA];simp) ?_ ?_ fun s w h=> ?_
    ·intro i hi
     match i,hi with
     |0,_=>exact ad.at 2 (ad.aG rfl rfl)
     |1,_=>exact ad.at 4 ad.own
     |2,_=>exact ad.at 3 ad.own
     |3,_=>exact ad.at 1 ad.own
    ·rw [aA]
     simp [fH]
     omega
    ·refine hgood hn.1 hn.2 (by omega) hm.2 (by omega) (by omega) s w ?_
     have e: [[1],fV M,fV P,fH u].flatten=kY M P u:=by simp [kY]
     rw [e] at h
     exact h.du
   ·exact aa.J7 hp (hbad (by omega) _ h.tl)
  ·exact aa.J7 hm (hbad (by omega) _ h.tl)
 ·exact aa.J7 hn (hbad (by omega) _ h.tl)
end
end Go.Proofs.YtgglghjnakclmaaGreat
namespace Go.Proofs.YtgglghjnakclmaaGreat
open Go Go.Vc
set_option maxRecDepth 100000
theorem uW.ok (a:(Option Addr)) (b:(Array Value)) (R:Int→World→Prop) w (h:
 Nw 104 b w fun d c=>
 Ld (.arr 258) ⟨d,0,none⟩ c fun e=>
 Cl Pg [kS,kI] jm ⟨[(.agg e)]⟩ c fun (g:Sl) (h:Int) f=>
 aa (h !=0)
 (R 2 f)
 (aa (Option.isNone (a:Option Addr))
 (R 2 f)
 (da 0 f fun i j (k:Int) l=>
 aa (decide (k<(g.len:Int)))
 (an g k 1 fun m=>
 Ld kI m l fun (n:Int)=>
 Cl Pg [kB] dc ⟨[(.pointer a),(.int .u32 (u32 n)),(ni 1)]⟩ l fun (p:Bool) o=>
 i (i64 (k+1)) o∧j (i64 (k+1)) o<j k l)
 (R 0 l)))):Cl Pg [kI] iK ⟨[(.pointer a),(.agg b)]⟩ w R:=co Tryz.f149 [(12,[(22,kI)])] h
theorem wu.ok (a:(Array Value)) (R:Sl→Int→World→Prop) w (h:
 Nw 104 a w fun c b=>
 Nw 142 ⟨[(.slice none 0 0)]⟩ b fun e d=>
 Ld (.arr 258) ⟨c,0,none⟩ d fun f=>
 Cl Pg [kB] lV ⟨[(.agg f)]⟩ d fun (h:Bool) g=>
 aa (!h)
 (St ⟨e,0,none⟩ (.slice none 0 0) g fun i=>
 Ld kS ⟨e,0,none⟩ i fun (j:Sl)=>
 R j 2 i)
 (aw ⟨c,0,none⟩ 258 0 1 fun k=>
 Ld (aq .u8) k g fun (l:Int)=>
 ∃(m:Int→World→Prop) (n:Int→World→Nat),m (0) g∧
 ∀(o:Int),∀(p:World),m o p→
 aa (decide (o<4))
 (aK p fun q=>
 0≤(i64 ((3:Int) - o))∧
 (Ld kS ⟨e,0,none⟩ q fun (r:Sl)=>
 Nw 3 ⟨[(ni (c8 .i64 (aN .i64 (i64 l) (i64 ((3:Int) - o))) 1))]⟩ q fun t s=>
 au Pg (Builtin.append_ #[142,142] 142 ⟨[(ah r),(ah (⟨some ⟨t,0,none⟩,1,1⟩:Sl))]⟩) kS s fun (v:Sl) u=>
 St ⟨e,0,none⟩ (ah v) u fun x=>
 ([]:List Nat)=([]:List Nat)∧m (i64 (o+1)) x∧n (i64 (o+1)) x<n o p)∧
 (Nw 3 ⟨[(ni (c8 .i64 (aN .i64 (i64 l) (i64 ((3:Int) - o))) 1))]⟩ q fun z y=>
 Ld kS ⟨e,0,none⟩ y fun (a1:Sl)=>
 au Pg (Builtin.append_ #[142,142] 142 ⟨[(ah a1),(ah (⟨some ⟨z,0,none⟩,1,1⟩:Sl))]⟩) kS y fun (c1:Sl) b1=>
 St ⟨e,0,none⟩ (ah c1) b1 fun d1=>
 ([]:List Nat)=([]:List Nat)∧m (i64 (o+1)) d1∧n (i64 (o+1)) d1<n o p))
 (Ld (.arr 258) ⟨c,0,none⟩ p fun e1=>
 ∃(f1:List Nat→Int→Int→World→Prop) (g1:Int→Int→World→Nat),f1 ([]:List Nat) ((i64 l)) (0) p∧
 ∀(k1:List Nat),∀(h1:Int) (i1:Int),∀(j1:World),f1 k1 h1 i1 j1→
 aa (decide (i1<258))
 (gZ (.int .u8) e1 258 i1 fun (l1:Int)=>
 Cl Pg [kV] jD ⟨[(ni h1),(ni (i64 l1))]⟩ j1 fun n1 m1=>
 ga Pg n1 [kI] m1 (fun (o1:Nat) (p1:Nat→Obj) (t1:Int) (q1:World) (r1 s1:World→Prop)=>
 vM o1 p1 q1 fun u1=>
 Ld kS ⟨e,0,none⟩ u1 fun (v1:Sl)=>
 Nw 3 ⟨[(ni t1)]⟩ u1 fun y1 x1=>
 au Pg (Builtin.append_ #[142,142] 142 ⟨[(ah v1),(ah (⟨some ⟨y1,0,none⟩,1,1⟩:Sl))]⟩) kS x1 fun (a2:Sl) z1=>
 St ⟨e,0,none⟩ (ah a2) z1 fun b2=>
 qF o1 p1 b2 r1)
 (fun c2 d2=>
 f1 (c2::k1:List Nat) (i64 l1) (i64 (i1+1)) d2∧g1 (i64 l1) (i64 (i1+1)) d2<g1 h1 i1 j1)
 (fun e2 f2=>
 lE (e2::k1:List Nat) f2 fun g2=>
 Ld kS ⟨e,0,none⟩ g2 fun (h2:Sl)=>
 R h2 0 g2))
 (Ld kS ⟨e,0,none⟩ j1 fun (i2:Sl)=>
 St ⟨e,0,none⟩ (ah i2) j1 fun j2=>
 lE (k1:List Nat) j2 fun k2=>
 Ld kS ⟨e,0,none⟩ k2 fun (l2:Sl)=>
 R l2 0 k2)))):Cl Pg [kS,kI] jm ⟨[(.agg a)]⟩ w R:=CA Tryz.f210 (.s .o (.s (.s .o (.c (.s .o .o) .o)) (.s .o (.s (.s .o (.b (.l [(15,kI)] (.s .o (.s (.c .o .o) (.s (.b (.s .o (.b .o))) .o)))))) (.s (.s .o (.b (.l [(4,kI),(28,kI)] (.s .o (.s (.c .o .o) (.s (.b (.s .o (.s (.s .o (.b (.r [kI] .o (.b .o)))) .o))) .o)))))) (.s .o .o)))))) h
theorem rh.ok (a:Int) (b:Int) (R:Value→World→Prop) w (h:
 Nw 3 ⟨[(ni a)]⟩ w fun d c=>
 Nw 3 ⟨[(ni b)]⟩ c fun f e=>
 R (.func (.func 311) ⟨[]⟩ ⟨[(.pointer (some ⟨f,0,none⟩)),(.pointer (some ⟨d,0,none⟩))]⟩) e):Cl Pg [kV] jD ⟨[(ni a),(ni b)]⟩ w R:=co Tryz.f273 [] h
theorem pX.ok (a:Value) (b:Addr) (c:Addr) (R:World→Prop) w (h:
 Ld kI b w fun (d:Int)=>
 Ld kI c w fun (e:Int)=>
 aa (decide (d<e))
 (∃(f:World→Prop) (g:World→Nat),f w∧
 ∀(h:World),f h→
 Ld kI c h fun (i:Int)=>
 Ld kI b h fun (j:Int)=>
 aa (i !=j)
 (ln Pg a [kB] [(ni 1)] h fun (l:Bool) k=>
 aa (!l)
 (R k)
 (ln Pg a [kB] [(ni 1)] k fun (n:Bool) m=>
 aa (!n)
 (R m)
 (Ld kI c m fun (o:Int)=>
 St c (ni (i64 (o+(i64 ((1:Int) - (i64 ((2:Int)*1))))))) m fun p=>
 ([]:List Nat)=([]:List Nat)∧f p∧g p<g h)))
 (ln Pg a [kB] [(ni 0)] h fun (r:Bool) q=>
 R q))
 (∃(s:World→Prop) (t:World→Nat),s w∧
 ∀(u:World),s u→
 Ld kI c u fun (v:Int)=>
 Ld kI b u fun (x:Int)=>
 aa (v !=x)
 (ln Pg a [kB] [(ni 1)] u fun (z:Bool) y=>
 aa (!z)
 (R y)
 (ln Pg a [kB] [(ni 0)] y fun (b1:Bool) a1=>
 aa (!b1)
 (R a1)
 (Ld kI c a1 fun (c1:Int)=>
 St c (ni (i64 (c1+(i64 ((1:Int) - (i64 ((2:Int)*0))))))) a1 fun d1=>
 ([]:List Nat)=([]:List Nat)∧s d1∧t d1<t u)))
 (ln Pg a [kB] [(ni 0)] u fun (f1:Bool) e1=>
 R e1))):Cl Pg [] iz ⟨[a,(.pointer (some b)),(.pointer (some c))]⟩ w R:=CA Tryz.f311 (.s .o (.s (.s .o (.c .o .o)) (.s (.b (.l [] (.s (.s .o (.c .o .o)) (.s (.b (.s .o (.c .o .o))) .o)))) .o))) h
end Go.Proofs.YtgglghjnakclmaaGreat
set_option maxRecDepth 20000
namespace Go.Tab
open Go.Inc
end Go.Tab
namespace Go.Proofs.YtgglghjnakclmaaGreat
open Go Go.Vc Go.Srt Go.Inc Go.Tab
abbrev JV (l:List Nat):List Value:=l.map fun (n:Nat)=>Value.int .u8 (n:Int)
abbrev yj (l:List Nat) (s b n wy:Int):Array Value:=⟨JV l++ [.int .i64 s,.int .i64 b,.int .i64 n,.int .i64 wy]⟩
theorem Jk {l:List Nat} (h:l.length=258):(JV l).length=258:=by simp [h]
section
variable {E w:World} {F:List HP}
theorem Ge:(Tryz.prog.fieldsOf 106).toList.map (fun f=>(f.name== "_",f.type,f.offset))= [(false,104,0),(false,3,258),(false,3,259),(false,3,260),(false,3,261)]:=by kernel_rfl
theorem LD:Tryz.prog.underlying 106=some (.struct (Tryz.prog.fieldsOf 106)):=by kernel_rfl
theorem JU:Tryz.prog.stoodInHeld 106=false:=by kernel_rfl
set_option maxRecDepth 20000 in
theorem yi.tb {l:List Nat} {s b n wy:Int} {K:Bool→Prop} (hl:l.length=258) (hK:K true):yi Tryz.prog 106 (yj l s b n wy) (yj l s b n wy) K:=by
 obtain ⟨it,hit⟩:=Cr
 obtain ⟨jt,hjt,hjs⟩:=IL
 obtain ⟨kt,hkt,hks⟩:=Ee
 obtain ⟨f1,f2,f3,f4,f5,hfs,hf1,hf2,hf3,hf4,hf5⟩: ∃f1 f2 f3 f4 f5,(Tryz.prog.fieldsOf 106).toList= [f1,f2,f3,f4,f5]∧(f1.name== "_",f1.type,f1.offset)=(false,104,0)∧(f2.name== "_",f2.type,f2.offset)=(false,3,258)∧(f3.name== "_",f3.type,f3.offset)=(false,3,259)∧(f4.name== "_",f4.type,f4.offset)=(false,3,260)∧(f5.name== "_",f5.type,f5.offset)=(false,3,261):=by
  have h:=Ge
  generalize (Tryz.prog.fieldsOf 106).toList=fs at h
  match fs,h with
  | [],h=>simp at h
  | [_],h=>simp at h
  | [_,_],h=>simp at h
  | [_,_,_],h=>simp at h
  | [_,_,_,_],h=>simp at h
  |_::_::_::_::_::_::_,h=>simp at h
  | [f1,f2,f3,f4,f5],h=>
   simp only [List.map_cons,List.map_nil,List.cons.injEq,and_true] at h
   exact ⟨f1,f2,f3,f4,f5,rfl,h.1,h.2.1,h.2.2.1,h.2.2.2.1,h.2.2.2.2⟩
 simp only [Prod.mk.injEq] at hf1 hf2 hf3 hf4 hf5
 have hL:=Jk hl
 have hc:(((yj l s b n wy).toList.drop 0).take 258)=(l.map fun (x:Nat)=>(x:Int)).map (.int .u8):=by
  rw [List.drop_zero,List.take_append_of_le_length (by omega),List.take_of_length_le (by omega),List.map_map];rfl
 have hint: ∀(x:Int) (D:Nat) (_:9≤D) (w:World),(Op.equalIn D 3 (.int .i64 x) (.int .i64 x)).run Tryz.prog w= .ok true w:=fun x D hD w=>by
  obtain ⟨D,rfl⟩: ∃k,D=k+1:=⟨D - 1,by omega⟩
  rw [run_equalIn_int w D _ _ _ _ _ FD]
  simp
 obtain ⟨r,hr,hK'⟩:=jW (P:=Tryz.prog) (d:=9) (rec:=fun t x y K=> ∃b,(∀D,9≤D→∀w,(Op.equalIn D t x y).run Tryz.prog w= .ok b w)∧K b) (fun t x y K h=>h) (xs:=yj l s b n wy) (ys:=yj l s b n wy) (fs:= [f1,f2,f3,f4,f5]) (K:=K) (by
  unfold jy
  rw [hf1.1]
  refine mo (it:=jt) (by rw [hf1.2.1];kernel_rfl) (by rw [hf1.2.1];exact hjt) (mo (it:=jt) (by rw [hf1.2.1];kernel_rfl) (by rw [hf1.2.1];exact hjt) ?_)
  rw [hf1.2.2,hjs,hf1.2.1,hc]
  refine ⟨_,fun D hD w=>yo Kk Ia hkt hks (by simpa using hl) (by simpa using hl) D (by omega) w,?_⟩
  unfold jy
  rw [hf2.1]
  refine dX (it:=it) (v:= .int .i64 s) (by rw [hf2.2.1];kernel_rfl) (by rw [hf2.2.1];exact hit) (by rw [hf2.2.2];exact ki (k:=0) hL) (dX (it:=it) (v:= .int .i64 s) (by rw [hf2.2.1];kernel_rfl) (by rw [hf2.2.1];exact hit) (by rw [hf2.2.2];exact ki (k:=0) hL) ?_)
  rw [hf2.2.1]
  refine ⟨true,hint s,?_⟩
  unfold jy
  rw [hf3.1]
  refine dX (it:=it) (v:= .int .i64 b) (by rw [hf3.2.1];kernel_rfl) (by rw [hf3.2.1];exact hit) (by rw [hf3.2.2];exact ki (k:=1) hL) (dX (it:=it) (v:= .int .i64 b) (by rw [hf3.2.1];kernel_rfl) (by rw [hf3.2.1];exact hit) (by rw [hf3.2.2];exact ki (k:=1) hL) ?_)
  rw [hf3.2.1]
  refine ⟨true,hint b,?_⟩
  unfold jy
  rw [hf4.1]
  refine dX (it:=it) (v:= .int .i64 n) (by rw [hf4.2.1];kernel_rfl) (by rw [hf4.2.1];exact hit) (by rw [hf4.2.2];exact ki (k:=2) hL) (dX (it:=it) (v:= .int .i64 n) (by rw [hf4.2.1];kernel_rfl) (by rw [hf4.2.1];exact hit) (by rw [hf4.2.2];exact ki (k:=2) hL) ?_)
  rw [hf4.2.1]
  refine ⟨true,hint n,?_⟩
  unfold jy
  rw [hf5.1]
  refine dX (it:=it) (v:= .int .i64 wy) (by rw [hf5.2.1];kernel_rfl) (by rw [hf5.2.1];exact hit) (by rw [hf5.2.2];exact ki (k:=3) hL) (dX (it:=it) (v:= .int .i64 wy) (by rw [hf5.2.1];kernel_rfl) (by rw [hf5.2.1];exact hit) (by rw [hf5.2.2];exact ki (k:=3) hL) ?_)
  rw [hf5.2.1]
  refine ⟨true,hint wy,?_⟩
  simpa using hK)
 refine ⟨r,fun w=> ?_,hK'⟩
 rw [run_equalIn_struct w 9999 _ _ _ LD JU,hfs]
 exact hr 9999 (by decide) w
end
end Go.Proofs.YtgglghjnakclmaaGreat
namespace Go.Proofs.YtgglghjnakclmaaGreat
open Go Go.Vc Go.Srt Go.Inc Go.Tab Go.aS
section
variable {E w:World} {F:List HP}
set_option maxRecDepth 20000
theorem zH {was now b4 b6:Nat} (h1:was≤255) (h2:now≤255):uL Tryz.prog E (.func (.func iz) ⟨[]⟩ ⟨[.pointer (some ⟨b6,0,none⟩),.pointer (some ⟨b4,0,none⟩)]⟩) (cc was now).length
  (fun i=> [Ki.enc kI (((cc was now).getD i 0:Nat):Int)]) [bI b6 now,bI b4 was] (fun _=>True):=by
 intro yv C G w K hg hy h hK hKG
 refine qT.mk (by kernel_rfl) (pX.ok yv ⟨b6,0,none⟩ ⟨b4,0,none⟩ K w ?_)
 have h:Hp E w (bI b6 now::bI b4 was::C 0):=h
 have one: ∀(k x:Nat) (rest:List Nat) (was':Nat) (w:World) (Kb:Bool→World→Prop),(cc was now).drop k=x::rest→Hp E w (bI b6 now::bI b4 was'::C k)→
   (∀w',Hp E w' (bI b6 now::bI b4 was'::C (k+1))→Kb true w')→(∀w',k<(cc was now).length→Hp E w' (G k)→Kb false w')→ln Tryz.prog yv [kB] [.int .i64 (x:Int)] w Kb:=by
  intro k x rest was' w Kb hd h hk hf
  have hlt:k<(cc was now).length:=by
   rcases Nat.lt_or_ge k (cc was now).length with q|q
   ·exact q
   ·rw [List.drop_eq_nil_of_le q] at hd;cases hd
  have hx:(cc was now).getD k 0=x:=by
   rw [List.drop_eq_getElem_cons hlt] at hd
   injection hd with e _
   rw [List.getD_eq_getElem?_getD,List.getElem?_eq_getElem hlt,Option.getD_some,e]
  have he: [Value.int .i64 (x:Int)]= [Ki.enc kI (((cc was now).getD k 0:Nat):Int)]:=by rw [hx]
  rw [he]
  refine hy k hlt [bI b6 now,bI b4 was'] w _ (h.perm (List.perm_append_comm (l₁:= [bI b6 now,bI b4 was']))) (fun w h=> ?_) (fun w h=> ?_)
  ·exact hk w (h.perm (List.perm_append_comm (l₂:= [bI b6 now,bI b4 was'])))
  ·exact hf w hlt (h.perm (List.perm_append_comm (l₂:= [bI b6 now,bI b4 was']))).drop.drop
 have last: ∀(k was':Nat) (w:World),(cc was now).drop k= [0]→Hp E w (bI b6 now::bI b4 was'::C k)→ln Tryz.prog yv [kB] [.int .i64 0] w fun _ w=>K w:=by
  intro k was' w hd h
  have hlen:(cc was now).length=k+1:=by
   have:=congrArg List.length hd
   simp at this;omega
  refine one k 0 [] was' w _ hd h (fun w h=> ?_) (fun w hk h=>hKG k w hk h)
  rw [←hlen] at h
  exact hK w h.drop.drop
 have hdn: ∀j,gC (j+1)=1::1::gC j:=fun _=>rfl
 have hup: ∀j,nH (j+1)=1::0::nH j:=fun _=>rfl
 refine Ld.xb (x:=(now:Int)) h rfl (Ld.xb (x:=(was:Int)) h rfl (aa.dm (fun hlt=> ?_) (fun hge=> ?_)))
 ·have hlt:now<was:=by omega
  refine ⟨fun w=> ∃k was':Nat,now≤was'∧was'≤was∧(cc was now).drop k=gC (was' - now)++ [0]∧k+2*(was' - now)+1=(cc was now).length∧Hp E w (bI b6 now::bI b4 was'::C k),
   fun w=>jY b4 w,⟨0,was,by omega,by omega,?_,?_,h⟩,?_⟩
  ·unfold cc;rw [if_pos hlt];rfl
  ·unfold cc;rw [if_pos hlt]
   have: ∀j,(gC j).length=2*j:=fun j=>by
    induction j with
    |zero=>rfl
    |succ j ih=>rw [hdn,List.length_cons,List.length_cons,ih];omega
   simp [this]
  rintro w ⟨k,was',h3,h4,hd,hkl,h⟩
  refine Ld.xb (x:=(was':Int)) h rfl (Ld.xb (x:=(now:Int)) h rfl (aa.nm (fun hne=> ?_) (fun he=> ?_)))
  ·obtain ⟨j,hj⟩: ∃j,was' - now=j+1:=⟨was' - now - 1,by omega⟩
   rw [hj,hdn] at hd
   have hd2:(cc was now).drop (k+1)=1::(gC j++ [0]):=by rw [←List.drop_drop,hd];rfl
   have hd3:(cc was now).drop (k+2)=gC j++ [0]:=by rw [show k+2=(k+1)+1 by omega,←List.drop_drop,hd2];rfl
   refine one k 1 _ was' w _ hd h (fun w1 h1=> ?_) (fun w1 hk1 h1=>aa.t rfl (hKG k w1 hk1 h1))
   refine aa.f rfl ?_
   refine one (k+1) 1 _ was' w1 _ hd2 h1 (fun w2 h2=> ?_) (fun w2 hk2 h2=>aa.t rfl (hKG (k+1) w2 hk2 h2))
   refine aa.f rfl ?_
   refine Ld.xb (x:=(was':Int)) h2 rfl ?_
   rw [ae (x:=(2:Int)*1) (by omega),ae (x:=(1:Int) - 2*1) (by omega),ae (by omega)]
   refine St.xb h2 (by simp) rfl fun w3 h3'=> ?_
   rw [show (was':Int)+(1 - 2*1)=((was' - 1:Nat):Int) by omega] at h3'
   have h3':Hp E w3 (bI b6 now::bI b4 (was' - 1)::C (k+2)):=h3'
   refine ⟨rfl,⟨k+2,was' - 1,by omega,by omega,?_,by omega,h3'⟩,?_⟩
   ·rw [hd3,show was' - 1 - now=j by omega]
   ·show jY b4 w3<jY b4 w
    rw [kX (v:=((was' - 1:Nat):Int)) h3' rfl,kX (v:=(was':Int)) h rfl]
    omega
  ·have e:was' - now=0:=by omega
   rw [e] at hd
   exact last k was' w hd h
 ·refine ⟨fun w=> ∃k was':Nat,was'≤now∧was≤was'∧(cc was now).drop k=nH (now - was')++ [0]∧k+2*(now - was')+1=(cc was now).length∧Hp E w (bI b6 now::bI b4 was'::C k),
   fun w=>255 - jY b4 w,⟨0,was,by omega,by omega,?_,?_,h⟩,?_⟩
  ·unfold cc;rw [if_neg (by omega)];rfl
  ·unfold cc;rw [if_neg (by omega)]
   have: ∀j,(nH j).length=2*j:=fun j=>by
    induction j with
    |zero=>rfl
    |succ j ih=>rw [hup,List.length_cons,List.length_cons,ih];omega
   simp [this]
  rintro w ⟨k,was',h3,h4,hd,hkl,h⟩
  refine Ld.xb (x:=(was':Int)) h rfl (Ld.xb (x:=(now:Int)) h rfl (aa.nm (fun hne=> ?_) (fun he=> ?_)))
  ·obtain ⟨j,hj⟩: ∃j,now - was'=j+1:=⟨now - was' - 1,by omega⟩
   rw [hj,hup] at hd
   have hd2:(cc was now).drop (k+1)=0::(nH j++ [0]):=by rw [←List.drop_drop,hd];rfl
   have hd3:(cc was now).drop (k+2)=nH j++ [0]:=by rw [show k+2=(k+1)+1 by omega,←List.drop_drop,hd2];rfl
   refine one k 1 _ was' w _ hd h (fun w1 h1=> ?_) (fun w1 hk1 h1=>aa.t rfl (hKG k w1 hk1 h1))
   refine aa.f rfl ?_
   refine one (k+1) 0 _ was' w1 _ hd2 h1 (fun w2 h2=> ?_) (fun w2 hk2 h2=>aa.t rfl (hKG (k+1) w2 hk2 h2))
   refine aa.f rfl ?_
   refine Ld.xb (x:=(was':Int)) h2 rfl ?_
   rw [ae (x:=(2:Int)*0) (by omega),ae (x:=(1:Int) - 2*0) (by omega),ae (by omega)]
   refine St.xb h2 (by simp) rfl fun w3 h3'=> ?_
   rw [show (was':Int)+(1 - 2*0)=((was'+1:Nat):Int) by omega] at h3'
   have h3':Hp E w3 (bI b6 now::bI b4 (was'+1)::C (k+2)):=h3'
   refine ⟨rfl,⟨k+2,was'+1,by omega,by omega,?_,by omega,h3'⟩,?_⟩
   ·rw [hd3,show now - (was'+1)=j by omega]
   ·show 255 - jY b4 w3<255 - jY b4 w
    rw [kX (v:=((was'+1:Nat):Int)) h3' rfl,kX (v:=(was':Int)) h rfl]
    omega
  ·have e:now - was'=0:=by omega
   rw [e] at hd
   exact last k was' w hd h
theorem rl: ∀(m:List Nat) (was n:Nat),en was (m++ [n])=en was m++cc (m.getLastD was) n
 | [],was,n=>by simp [en]
 |x::m,was,n=>by
  rw [List.cons_append,en,en,rl m x n,List.append_assoc]
  congr 2
  cases m<;>rfl
theorem xc {a b:Nat} (ha:a≤15) (hb:b≤15):(cc a b).length≤31:=by
 have hd: ∀j,(gC j).length=2*j:=fun j=>by
  induction j with
  |zero=>rfl
  |succ j ih=>rw [show gC (j+1)=1::1::gC j from rfl,List.length_cons,List.length_cons,ih];omega
 have hu: ∀j,(nH j).length=2*j:=fun j=>by
  induction j with
  |zero=>rfl
  |succ j ih=>rw [show nH (j+1)=1::0::nH j from rfl,List.length_cons,List.length_cons,ih];omega
 unfold cc
 rw [List.length_append,List.length_singleton]
 split
 ·rw [hd];omega
 ·rw [hu];omega
theorem qy: ∀(m:List Nat) (was:Nat),was≤15→(∀x∈m,x≤15)→(en was m).length≤31*m.length
 | [],_,_,_=>by simp [en]
 |x::m,was,h,hm=>by
  have h1:=hm x List.mem_cons_self
  have h2:=xc h h1
  have h3:=qy m x h1 fun y hy=>hm y (List.mem_cons_of_mem _ hy)
  rw [en,List.length_append,List.length_cons];omega
theorem HF {x k:Nat} (hx:x≤15) (hk:k<4):(four x)[k]? =some (x/2^(3 - k) % 2):=by
 match k,hk with
 |0,_=>rfl
 |1,_=>rfl
 |2,_=>rfl
 |3,_=>simp [four]
theorem Lr {l:List Nat} {K:Sl→Int→World→Prop} (h:Hp E w F) (hl:l.length=258) (hbad:gB l=false→∀w',Hp E w' F→K ⟨none,0,0⟩ 2 w')
  (hK:gB l=true→∀s w',Hp E w' (aj 1 s ((ints (eC l)).map vI)::F)→K s 0 w'):Cl Tryz.prog [kS,kI] jm ⟨[.agg (ai .u8 l)]⟩ w K:=by
 refine wu.ok _ _ _ ?_
 (try simp only [ao,ak,al,Nat.zero_add,Nat.add_zero,Nat.reduceAdd,Bool.not_true,Bool.not_false,aF,aE,Option.isNone])
 have hsz:(ai .u8 l).size=258:=by rw [av,hl]
 refine Nw.mk h fun b3 w h=>Nw.mk h fun b5 w h=>Ld.xw h hsz (Iz h hl fun w h=> ?_)
 by_cases hok:gB l=true
 ·rw [hok]
  refine aa.f rfl ?_
  have h15:=af.uV hok
  obtain ⟨x,m,rfl⟩: ∃x m,l=x::m:=by
   cases l with
   |nil=>simp at hl
   |cons x m=>exact ⟨x,m,rfl⟩
  have hx15:=h15 x List.mem_cons_self
  refine ⟨by decide,by decide,Ld.xb (x:=(x:Int)) h rfl ?_⟩
  rw [ae (by omega)]
  have h0:Hp E w (fS b5 []::af b3 (.cells (ai .u8 (x::m)) 104 (0,0))::F):=fS.shut (s:=⟨none,0,0⟩) ((h.bl 1).p1)
  refine ⟨fun i w=> ∃k:Nat,i=(k:Int)∧k≤4∧Hp E w (fS b5 ((four x).take k)::af b3 (.cells (ai .u8 (x::m)) 104 (0,0))::F),fun i _=>4 - i.toNat,⟨0,rfl,by omega,h0⟩,?_⟩
  rintro i w ⟨k,rfl,hk,h⟩
  refine aa.dm (fun hlt=> ?_) (fun hge=> ?_)
  ·have hlt:k<4:=by omega
   refine aK.mk h fun w h=> ?_
   have ebit:c8 .i64 (aN .i64 (x:Int) (i64 (3 - (k:Int)))) 1=((x/2^(3 - k) % 2:Nat):Int):=by
    have hmx:IntKind.max .i64=9223372036854775807:=rfl
    have hd:x/2^(3 - k)≤x:=Nat.div_le_self _ _
    rw [ae (by omega),show (3:Int) - (k:Int)=((3 - k:Nat):Int) by omega,cG (by have:IntKind.bits .i64=64:=rfl;omega),show (1:Int)=((1:Nat):Int) from rfl,jz (by omega) (by omega),Nat.and_one_is_mod]
   rw [ebit]
   have e4:(four x).take k++ [x/2^(3 - k) % 2]=(four x).take (k+1):=by rw [List.take_add_one,HF hx15 hlt];rfl
   have hl4:((four x).take k).length≤1000000:=by rw [List.length_take];simp [four];omega
   rw [ae (x:=(3:Int) - (k:Int)) (by omega),ae (x:=(k:Int)+1) (by omega)]
   have fin: ∀w',Hp E w' (fS b5 ((four x).take k++ [x/2^(3 - k) % 2])::af b3 (.cells (ai .u8 (x::m)) 104 (0,0))::F)→True∧(∃k':Nat,(k:Int)+1=(k':Int)∧k'≤4∧Hp E w' (fS b5 ((four x).take k')::af b3 (.cells (ai .u8 (x::m)) 104 (0,0))::F))∧4 - ((k:Int)+1).toNat<4 - ((k:Int)).toNat:=fun w' h=>by
    rw [e4] at h
    exact ⟨trivial,⟨k+1,by omega,by omega,h⟩,by omega⟩
   obtain ⟨s,_,h⟩:=h.ex
   have h:Hp E w (af b5 (.cells ⟨[rG s]⟩ 142 (0,0))::aj 1 s ((ints ((four x).take k)).map vI)::af b3 (.cells (ai .u8 (x::m)) 104 (0,0))::F):=h
   refine ⟨by omega,?_,?_⟩
   ·refine Ld.xb (x:=s) h rfl (Nw.mk h fun b20 w h=> ?_)
    exact fS.put (l:= []) h hl4 fin
   ·refine Nw.mk h fun b20 w h=>Ld.xb (x:=s) h rfl ?_
    exact fS.put (l:= []) h hl4 fin
  ·have hk4:k=4:=by omega
   subst hk4
   refine Ld.xw h hsz ?_
   have e0:(four x).take 4=four x++en x ((x::m).take 0):=by simp [four,en]
   rw [e0] at h
   refine ⟨fun ms was i w=> ∃k:Nat,i=(k:Int)∧k≤258∧was=((((x::m).take k).getLastD x:Nat):Int)∧Hp E w (fS b5 (four x++en x ((x::m).take k))::af b3 (.cells (ai .u8 (x::m)) 104 (0,0))::(ms.map (fun D=>af D (.deferred (some [])))++F)),
    fun _ i _=>258 - i.toNat,⟨0,rfl,by omega,rfl,h⟩,?_⟩
   rintro ms was i w ⟨k,rfl,hk,rfl,h⟩
   refine aa.dm (fun hlt=> ?_) (fun hge=> ?_)
   ·have hlt:k<258:=by omega
    have hlt2:k<(x::m).length:=by omega
    have hn15:=h15 _ (List.getElem_mem hlt2)
    have hw15:((x::m).take k).getLastD x≤15:=by
     cases hc:((x::m).take k).getLast? with
     |none=>rw [List.getLastD_eq_getLast?,hc];exact hx15
     |some y=>
      rw [List.getLastD_eq_getLast?,hc]
      exact h15 y (List.mem_of_mem_take (List.mem_of_getLast? hc))
    have hk':((x::m).take k++ [(x::m)[k]])=(x::m).take (k+1):=by rw [List.take_add_one,List.getElem?_eq_getElem hlt2];rfl
    have htl:(four x++en x ((x::m).take k)).length≤9000:=by
     have:=qy ((x::m).take k) x hx15 fun y hy=>h15 y (List.mem_of_mem_take hy)
     rw [List.length_append,show (four x).length=4 from rfl]
     rw [List.length_take] at this
     omega
    generalize hwas:((x::m).take k).getLastD x=was at hw15 h⊢
    generalize hnow:(x::m)[k]=now at hn15 hk'
    refine ⟨by omega,by omega,(now:Int),by rw [show ((k:Int)).toNat=k by omega,eo hlt2,hnow],?_⟩
    dsimp only
    rw [ae (x:=(now:Int)) (by omega),ae (x:=(k:Int)+1) (by omega)]
    refine rh.ok _ _ _ _ ?_
    refine Nw.mk h fun b4 w h=>Nw.mk h fun b6 w h=> ?_
    have hcl:=xc hw15 hn15
    refine ga.Km (E:=E) (k:=kI) (x:=fun i=>(((cc was now).getD i 0:Nat):Int)) (n:=(cc was now).length) (fun i=>fS b5 (four x++en x ((x::m).take k)++(cc was now).take i)::af b3 (.cells (ai .u8 (x::m)) 104 (0,0))::(ms.map (fun D=>af D (.deferred (some [])))++F)) (fun _=> [Ds])
     (A:= [bI b6 now,bI b4 was]) ?_ (fun _=>ad.const trivial) (zH (by omega) (by omega)) ?_ ?_ ?_
    ·rw [List.take_zero,List.append_nil];exact h
    ·intro lr rec i A w Kt Kf hi h hKt _
     refine vM.mk h fun w h=> ?_
     obtain ⟨s,_,h⟩:=(h.p1).ex
     have h:Hp E w (af b5 (.cells ⟨[rG s]⟩ 142 (0,0))::aj 1 s ((ints (four x++en x ((x::m).take k)++(cc was now).take i)).map vI)::af lr (rec 1)::af b3 (.cells (ai .u8 (x::m)) 104 (0,0))::((ms.map (fun D=>af D (.deferred (some [])))++F)++A)):=h
     refine Ld.xb (x:=s) h rfl (Nw.mk h fun b49 w h=> ?_)
     refine fS.put (l:= []) h (by rw [List.length_append,List.length_take];omega) fun w h=>qF.mk h.p1 fun w h=>hKt w ?_
     have e:four x++en x ((x::m).take k)++(cc was now).take i++ [(cc was now).getD i 0]=four x++en x ((x::m).take k)++(cc was now).take (i+1):=by
      rw [List.append_assoc,List.take_add_one,List.getElem?_eq_getElem hi,List.getD_eq_getElem?_getD,List.getElem?_eq_getElem hi];rfl
     rw [e] at h
     exact h
    ·intro D w h
     rw [List.take_of_length_le (Nat.le_refl _),List.append_assoc,←hwas,←rl,hk'] at h
     refine ⟨⟨k+1,by omega,by omega,?_,?_⟩,by first|omega|(dsimp only;omega)⟩
     ·rw [←hk',List.getLastD_concat]
     ·exact h.q2
    ·intro i D w hi h
     exact (Hp.F1 h).elim
   ·have hk2:k=258:=by omega
    subst hk2
    rw [List.take_of_length_le (by omega)] at h
    obtain ⟨s,_,h⟩:=h.ex
    have h:Hp E w (af b5 (.cells ⟨[rG s]⟩ 142 (0,0))::aj 1 s ((ints (four x++en x (x::m))).map vI)::af b3 (.cells (ai .u8 (x::m)) 104 (0,0))::(ms.map (fun D=>af D (.deferred (some [])))++F)):=h
    refine Ld.xb (x:=s) h rfl (St.xs h rfl rfl fun w h=> ?_)
    dsimp only [ca,aJ] at h
    refine lE.mk (ms:=ms) (F:=af b5 (.cells ⟨[rG s]⟩ 142 (0,0))::aj 1 s ((ints (four x++en x (x::m))).map vI)::af b3 (.cells (ai .u8 (x::m)) 104 (0,0))::F) (h.perm (List.perm_append_comm_assoc [_,_,_] _ _)) fun w h=>Ld.xb (x:=s) h rfl (hK hok s w ?_)
    exact h.drop.du
 ·rw [show gB l=false by simpa using hok]
  refine aa.t rfl (St.xs h rfl rfl fun w h=> ?_)
  dsimp only [ca,aJ] at h
  exact Ld.xb (x:=⟨none,0,0⟩) h rfl (hbad (by simpa using hok) w h.tl)
theorem j0 {l:List Nat} (hl:l.length=258) (hok:gB l=true):(eC l).length≤9000:=by
 have h15:=af.uV hok
 have hh:l.headD 0≤15:=by
  cases l with
  |nil=>simp at hl
  |cons x l=>exact h15 x List.mem_cons_self
 have:=qy l (l.headD 0) hh h15
 unfold eC
 rw [List.length_append,show (four (l.headD 0)).length=4 from rfl]
 omega
theorem JJ {l:List Nat} {b:Nat} {bits:List Nat} {K:Int→World→Prop} (h:Hp E w (Wr b bits::F)) (hl:l.length=258) (hok:gB l=true) (hbig:bits.length≤1000000)
  (hK: ∀w',Hp E w' (Wr b (bits++eC l)::F)→K 0 w'):Cl Tryz.prog [kI] iK ⟨[.pointer (some ⟨b,0,none⟩),.agg (ai .u8 l)]⟩ w K:=by
 refine uW.ok _ _ _ _ ?_
 have hsz:(ai .u8 l).size=258:=by rw [av,hl]
 refine Nw.mk h fun b4 w h=>Ld.xw h hsz (Lr h hl (fun hf=>absurd hok (by rw [hf];decide)) fun _ s w h=>aa.f rfl (aa.f rfl ?_))
 have hlen:=(h.aV)
 simp only [ints,List.length_map,Nat.mul_one] at hlen
 have hb:=af.xM l
 have htl:=j0 hl hok
 refine ⟨fun i w=> ∃k:Nat,i=(k:Int)∧k≤(eC l).length∧Hp E w (aj 1 s ((ints (eC l)).map vI)::Wr b (bits++(eC l).take k)::F),fun i _=>(eC l).length - i.toNat,⟨0,rfl,by omega,by rw [List.take_zero,List.append_nil];exact h.no 1⟩,?_⟩
 rintro i w ⟨k,rfl,hk,h⟩
 refine aa.dm (fun hlt=> ?_) (fun hge=> ?_)
 ·have hlt:k<(eC l).length:=by omega
  have hx:=hb _ (List.getElem_mem hlt)
  refine an.rd (h.ag ad.own) (by omega) (by omega) fun q hi hq=> ?_
  refine Ld.sc (s:= .int .i64) ((eC l)[k]:Int) (by rw [hq];simp [Sc.enc,vI,ints]) ?_
  rw [eS (by omega)]
  refine Ev (width:=1) h.p1 (by decide) (by omega) (by omega) (by rw [List.length_append,List.length_take,aA];omega) fun w h=> ?_
  rw [ae (by omega)]
  refine ⟨⟨k+1,rfl,by omega,?_⟩,by first|omega|(dsimp only;omega)⟩
  have e:bits++(eC l).take k++bn 1 (eC l)[k]=bits++(eC l).take (k+1):=by
   rw [List.append_assoc,List.take_add_one,List.getElem?_eq_getElem hlt]
   congr 2
   generalize (eC l)[k]=x at hx
   have:x=0∨x=1:=by omega
   rcases this with rfl|rfl<;>rfl
  rw [e] at h
  exact h.p1
 ·have hk2:k=(eC l).length:=by omega
  subst hk2
  rw [List.take_of_length_le (Nat.le_refl _)] at h
  exact hK w h.drop
end
end Go.Proofs.YtgglghjnakclmaaGreat
namespace Go.Proofs.YtgglghjnakclmaaGreat
open Go Go.Vc Go.Srt Go.Inc Go.Sym Go.Tab Go.Hd Go.Bw Go.aS Go.af Go.Crc
section
set_option maxRecDepth 20000
theorem zv {x:List Nat} (hn:x.length≤400000):(syms (aQ x.reverse)).length≤400001:=by
 have:=nz (aQ x.reverse)
 rw [cy,List.length_reverse] at this
 omega
theorem tq {x:List Nat} (hb: ∀y∈x,y<256): ∀y∈syms (aQ x.reverse),y≤257:=fun y hy=>by
 have:=Sym.wY (b:=aQ x.reverse) (sJ fun y hy=>hb y (List.mem_reverse.1 hy)) y hy
 omega
theorem lA (l ss:List Nat):gU l (ints ss)=enc l ss:=by
 unfold gU ints
 rw [List.map_map]
 congr 1
 exact (List.map_congr_left fun x _=>by simp).trans (List.map_id _)
theorem yf {l ss:List Nat} (h: ∀s∈ss,HW l s) (hs: ∀s∈ss,s≤257):jo l (ints ss)=true:=by
 refine List.all_eq_true.2 fun z hz=> ?_
 obtain ⟨y,hy,rfl⟩:=List.mem_map.1 hz
 have:=h y hy
 have:=hs y hy
 exact oo.2 ⟨by omega,by omega,by simpa using (h y hy).2⟩
end
end Go.Proofs.YtgglghjnakclmaaGreat
namespace Go.af
open Go.Inc Go.Srt Go.Sym Go.aS Go.Tab Go.Hd Go.Crc Go.Bw Go.Proofs.YtgglghjnakclmaaGreat
theorem eQ {x:List Nat} (h0:0<x.length) (hb: ∀y∈x,y<256) (hn:x.length≤65536):(qS (cr x) x).length≤200000:=by
 have hL:=p4 h0 (by omega) hb
 have h1:=cH (n:=x.length) (by omega)
 have hidx:=uG (t:=x.reverse) (by rw [List.length_reverse];exact h0)
 rw [List.length_reverse] at hidx
 have h2:=cH (n:=a8 x.reverse) (by omega)
 have h3:=j0 hL.len hL.ok
 have h4:=kD hL.v (ints (syms (aQ x.reverse)))
 rw [lA,cF] at h4
 have h5:=nz (aQ x.reverse)
 rw [cy,List.length_reverse] at h5
 unfold qS kY body
 rw [List.length_append,nT,List.length_append,List.length_cons,List.length_append,List.length_append,show (fH (cN x)).length=4 from rfl]
 omega
end Go.af
namespace Go.Proofs.YtgglghjnakclmaaGreat
open Go Go.Vc
set_option maxRecDepth 100000
theorem zj.ok (a:Sl) (R:(Array Value)→Int→World→Prop) w (h:
 Nw 215 ⟨List.replicate 258 (ni 0)⟩ w fun c b=>
 q0 Pg 215 [] fun d=>
 Cl Pg [(.arr 258),kI] j4 ⟨[(.agg d),(ah a)]⟩ b fun f (g:Int) e=>
 ax 258 ⟨c,0,none⟩ f e fun h=>
 Ld (.arr 258) ⟨c,0,none⟩ h fun i=>
 R i g h):Cl Pg [(.arr 258),kI] kE ⟨[(ah a)]⟩ w R:=co Tryz.f146 [] h
theorem yB.ok (a:(Array Value)) (b:Sl) (R:(Array Value)→Int→World→Prop) w (h:
 Nw 215 a w fun d c=>
 Nw 215 ⟨List.replicate 258 (ni 0)⟩ c fun f e=>
 Ld (.arr 258) ⟨d,0,none⟩ e fun g=>
 Cl Pg [kB] iH ⟨[(.agg g)]⟩ e fun (i:Bool) h=>
 aa (!i)
 (Ld (.arr 258) ⟨d,0,none⟩ h fun j=>
 ax 258 ⟨f,0,none⟩ j h fun k=>
 Ld (.arr 258) ⟨f,0,none⟩ k fun l=>
 R l 2 k)
 (Ld (.arr 258) ⟨d,0,none⟩ h fun m=>
 Nw 215 ⟨List.replicate 258 (ni 0)⟩ h fun o n=>
 ax 258 ⟨o,0,none⟩ m n fun p=>
 da 0 p fun q r (s:Int) t=>
 aa (decide (s<(b.len:Int)))
 (an b s 1 fun u=>
 Ld kI u t fun (v:Int)=>
 Cl Pg [kB] kr ⟨[(ni v)]⟩ t fun (y:Bool) x=>
 aa (!y)
 (Ld (.arr 258) ⟨o,0,none⟩ x fun z=>
 ax 258 ⟨f,0,none⟩ z x fun a1=>
 Ld (.arr 258) ⟨f,0,none⟩ a1 fun b1=>
 R b1 2 a1)
 (aw ⟨d,0,none⟩ 258 v 1 fun c1=>
 Ld kI c1 x fun (d1:Int)=>
 aa (d1==2147483647)
 (Ld (.arr 258) ⟨o,0,none⟩ x fun e1=>
 ax 258 ⟨f,0,none⟩ e1 x fun f1=>
 Ld (.arr 258) ⟨f,0,none⟩ f1 fun g1=>
 R g1 2 f1)
 (aw ⟨d,0,none⟩ 258 v 1 fun h1=>
 Ld kI h1 x fun (i1:Int)=>
 aw ⟨d,0,none⟩ 258 v 1 fun j1=>
 St j1 (ni (i64 (i1+1))) x fun k1=>
 q (i64 (s+1)) k1∧r (i64 (s+1)) k1<r s t)))
 (Ld (.arr 258) ⟨d,0,none⟩ t fun l1=>
 ax 258 ⟨f,0,none⟩ l1 t fun m1=>
 Ld (.arr 258) ⟨f,0,none⟩ m1 fun n1=>
 R n1 0 m1))):Cl Pg [(.arr 258),kI] j4 ⟨[(.agg a),(ah b)]⟩ w R:=co Tryz.f205 [(12,[(16,kI)])] h
theorem uT.ok (a:(Array Value)) (R:Bool→World→Prop) w (h:
 Nw 215 a w fun c b=>
 Ld (.arr 258) ⟨c,0,none⟩ b fun d=>
 da 0 b fun e f (g:Int) h=>
 aa (decide (g<258))
 (gZ (.int .i64) d 258 g fun (i:Int)=>
 aa (decide (i<0))
 (R false h)
 (aa (decide (i>2147483647))
 (R false h)
 (e (i64 (g+1)) h∧f (i64 (g+1)) h<f g h)))
 (R true h)):Cl Pg [kB] iH ⟨[(.agg a)]⟩ w R:=co Tryz.f266 [(5,[(6,kI)])] h
theorem AX.ok (a:Int) (R:Bool→World→Prop) w (h:
 aa (decide (a≥0))
 (R (decide (a<258)) w)
 (R false w)):Cl Pg [kB] kr ⟨[(ni a)]⟩ w R:=co Tryz.f267 [] h
end Go.Proofs.YtgglghjnakclmaaGreat
set_option maxRecDepth 20000
namespace Go.Proofs.YtgglghjnakclmaaGreat
open Go Go.Vc Go.Hs
section
variable {E w:World} {F:List HP}
set_option maxRecDepth 20000 in
theorem Hn {t:List Int} {K:Bool→World→Prop} (h:Hp E w F) (ht:t.length=258) (hK: ∀w',Hp E w' F→K (aR t) w'):Cl Tryz.prog [kB] iH ⟨[.agg (Vc.aT t)]⟩ w K:=by
 refine uT.ok _ _ _ ?_
 have hT:(Vc.aT t).size=258:=by rw [Vc.bA,ht]
 refine Nw.mk h fun b3 w1 h1=>Ld.arr h1 hT ?_
 refine ⟨fun i w'=> ∃k:Nat,i=(k:Int)∧k≤258∧(∀j,j<k→0≤t.getD j 0∧t.getD j 0≤2147483647)∧Hp E w' F,fun i _=>258 - i.toNat,⟨0,rfl,by omega,fun j hj=>by omega,h1.drop⟩,?_⟩
 rintro i w2 ⟨k,rfl,hk,hg,hh⟩
 have bad: ∀hlt:k<258,¬(0≤t.getD k 0∧t.getD k 0≤2147483647)→K false w2:=fun hlt hb=>by
  have:=hK w2 hh
  rwa [Ah (by omega) hb] at this
 refine aa.mk (fun hlt=> ?_) (fun hge=> ?_)
 ·have hlt:k<258:=by have:=of_decide_eq_true hlt;omega
  refine gZ.aT rfl ht hlt ?_
  refine aa.mk (fun h0=>bad hlt (by have:=of_decide_eq_true h0;omega)) (fun h0=>aa.mk (fun h9=>bad hlt (by have:=of_decide_eq_true h9;omega)) (fun h9=> ?_))
  have h0:=of_decide_eq_false h0
  have h9:=of_decide_eq_false h9
  rw [ae (by omega)]
  refine ⟨⟨k+1,by omega,by omega,fun j hj=> ?_,hh⟩,by dsimp only;omega⟩
  by_cases e:j=k
  ·subst e;omega
  ·exact hg j (by omega)
 ·have hge:k=258:=by have:=of_decide_eq_false hge;omega
  subst hge
  have:=hK w2 hh
  rwa [eM.2 fun i hi=>hg i (by omega)] at this
theorem Lq {z:Int} {K:Bool→World→Prop} (hK:K (j6 z) w):Cl Tryz.prog [kB] kr ⟨[.int .i64 z]⟩ w K:=by
 refine AX.ok _ _ _ ?_
 unfold j6 at hK
 refine aa.mk (fun h=> ?_) (fun h=> ?_)
 ·rw [show decide (0≤z)=true from decide_eq_true (of_decide_eq_true h)] at hK;exact hK
 ·rw [show decide (0≤z)=false from decide_eq_false (of_decide_eq_false h)] at hK;exact hK
set_option maxRecDepth 20000 in
theorem Ka {t zs:List Int} {s:Sl} {K:Array Value→Int→World→Prop} (h:Hp E w F) (ht:t.length=258) (hs:ad F (aC 1 s (zs.map vI))) (hn:zs.length≤bZ)
  (hK: ∀w',Hp E w' F→K (Vc.aT ((cM t zs).getD t)) (H0 (cM t zs)) w'):Cl Tryz.prog [.arr 258,kI] j4 ⟨[.agg (Vc.aT t),.slice s.base s.len s.cap]⟩ w K:=by
 refine yB.ok _ _ _ _ ?_
 rw [Vc.sx]
 have hz:(Vc.aT (List.replicate 258 0)).size=258:=by rw [Vc.bA];exact List.length_replicate
 have hT: ∀{u:List Int},u.length=258→(Vc.aT u).size=258:=fun hu=>by rw [Vc.bA,hu]
 have hsl:=(h.ag hs).1
 simp only [List.length_map,Nat.mul_one] at hsl
 rw [aA] at hn
 have hKn:cM t zs=none→∀w',Hp E w' F→K (Vc.aT t) 2 w':=fun e w' h'=>by have:=hK w' h';rwa [e] at this
 refine Nw.mk h fun b4 w1 h1=>Nw.mk h1 fun b6 w2 h2=>Ld.arr h2.p1 (hT ht) (Hn h2 ht fun w3 h3=> ?_)
 refine aa.mk (fun hv=> ?_) (fun hv=> ?_)
 ·have hv:aR t=false:=by simpa using hv
  exact Ld.arr h3.p1 (hT ht) (ax.aG h3 hz (hT ht) Vc.cL fun w4 h4=>Ld.arr h4 (hT ht) (hKn (rV hv) w4 h4.drop.drop))
 have hv:aR t=true:=by simpa using hv
 refine Ld.arr h3.p1 (hT ht) (Nw.mk h3 fun b15 w4 h4=>ax.aG h4 hz (hT ht) Vc.cL fun w5 h5=> ?_)
 refine ⟨fun i w'=> ∃k:Nat,i=(k:Int)∧k≤zs.length∧(zs.take k).all j6=true∧aR (dJ t (zs.take k))=true∧Hp E w' (af b15 (.cells (Vc.aT t) 215 (0,0))::af b6 (.cells (Vc.aT (List.replicate 258 0)) 215 (0,0))::af b4 (.cells (Vc.aT (dJ t (zs.take k))) 215 (0,0))::F),fun i _=>zs.length - i.toNat,⟨0,rfl,by omega,rfl,hv,h5⟩,?_⟩
 rintro i w6 ⟨k,rfl,hk,hg,hvk,hh⟩
 have bad:cM t zs=none→Ld (.arr 258) ⟨b15,0,none⟩ w6 fun x30=>ax 258 ⟨b6,0,none⟩ x30 w6 fun w31=>Ld (.arr 258) ⟨b6,0,none⟩ w31 fun res=>K res 2 w31:=fun e=>
  Ld.arr hh (hT ht) (ax.aG hh.p1 hz (hT ht) Vc.cL fun w7 h7=>Ld.arr h7 (hT ht) (hKn e w7 h7.drop.drop.drop))
 have hcl:(dJ t (zs.take k)).length=258:=by rw [kQ,ht]
 refine aa.mk (fun hlt=> ?_) (fun hge=> ?_)
 ·have hlt:k<zs.length:=by have:=of_decide_eq_true hlt;omega
  refine an.nI (hh.ag (ad.cons (ad.cons (ad.cons hs)))) rfl hlt (Lq ?_)
  refine aa.mk (fun hb=>bad (tW hlt (by simpa using hb))) (fun hb=> ?_)
  have hb:j6 (zs.getD k 0)=true:=by simpa using hb
  have hr:=ik.1 hb
  have hvz:=eM.1 hvk (zs.getD k 0).toNat (by omega)
  refine aw.aT hh.p2 (j:=(zs.getD k 0).toNat) (by omega) hcl (by omega) ?_
  refine aa.mk (fun hm=>bad (E4 ht hlt hg hb (by have:=beq_iff_eq.1 hm;omega))) (fun hm=> ?_)
  have hm: ¬(dJ t (zs.take k)).getD (zs.getD k 0).toNat 0=2147483647:=beq_eq_false_iff_ne.1 hm
  refine aw.aT hh.p2 (j:=(zs.getD k 0).toNat) (by omega) hcl (by omega) ?_
  rw [ae (x:=(dJ t (zs.take k)).getD (zs.getD k 0).toNat 0+1) (by omega),ae (by omega)]
  refine aw.Ib hh.p2 (j:=(zs.getD k 0).toNat) (by omega) hcl (by omega) fun w7 h7=>⟨⟨k+1,by omega,by omega,?_,?_,?_⟩,by dsimp only;omega⟩
  ·rw [kh hlt,List.all_append,hg,List.all_cons,hb];rfl
  ·rw [kh hlt,uv]
   refine eM.2 fun i hi=> ?_
   have:=eM.1 hvk i (by rw [wC] at hi;exact hi)
   rw [B4 hb hcl]
   split
   ·rename_i e
    rw [e,Int.toNat_natCast] at hm hvz
    omega
   ·omega
  ·rw [kh hlt,uv]
   exact h7.q2
 ·have hge:k=zs.length:=by have:=of_decide_eq_false hge;omega
  subst hge
  rw [List.take_length] at hg hvk hh hcl
  refine Ld.arr hh.p2 (hT hcl) (ax.aG hh.p1 hz (hT hcl) Vc.cL fun w7 h7=>Ld.arr h7 (hT hcl) ?_)
  have:=hK w7 h7.drop.drop.drop
  rwa [qz hv hg hvk] at this
def ch:List Int:=List.replicate 258 0
theorem gf:ch.length=258:=List.length_replicate
theorem AQ {K:Array Value→Prop} (hK:K (Vc.aT ch)):q0 Tryz.prog 215 [] K:=⟨Vc.aT ch,by kernel_rfl,hK⟩
set_option maxRecDepth 20000 in
theorem Lo {zs:List Int} {s:Sl} {K:Array Value→Int→World→Prop} (h:Hp E w F) (hs:ad F (aC 1 s (zs.map vI))) (hn:zs.length≤bZ)
  (hK: ∀w',Hp E w' F→K (Vc.aT ((cM ch zs).getD ch)) (H0 (cM ch zs)) w'):Cl Tryz.prog [.arr 258,kI] kE ⟨[.slice s.base s.len s.cap]⟩ w K:=by
 refine zj.ok _ _ _ ?_
 rw [Vc.sx]
 have hl:((cM ch zs).getD ch).length=258:=by
  cases ha:cM ch zs with
  |none=>exact gf
  |some u=>
   obtain ⟨_,_,rfl,_⟩:=xD ha
   show (dJ ch zs).length=258
   rw [kQ,gf]
 refine Nw.mk h fun b3 w1 h1=>AQ (Ka h1 gf (ad.cons hs) hn fun w2 h2=>ax.aG h2 (by rw [Vc.bA];exact List.length_replicate) (by rw [Vc.bA,hl]) Vc.cL fun w3 h3=>Ld.arr h3 (by rw [Vc.bA,hl]) (hK w3 h3.drop))
end
end Go.Proofs.YtgglghjnakclmaaGreat
namespace Go.Proofs.YtgglghjnakclmaaGreat
open Go Go.Vc Go.Srt Go.Inc Go.Sym Go.Tab Go.Hd Go.Bw Go.aS Go.af Go.Crc Go.Pol
set_option maxRecDepth 20000
section
variable {E w:World} {F:List HP} {b:Nat} {C:EC} {sp:Sl} {f:Nat→Nat}
theorem qc:oy Tryz.prog (α:=Int) 5 (fun n=>Value.int .u8 n) where
 und:=⟨_,rfl,fun a b=> .inr (by
  show some _=some _
  congr 1)⟩
 check:=fun e a w=>by
  have: ∀(e:Bool) (c:Int) (w:World),(Instr.checkKey e 10000 5 (.int .u8 c)).run Tryz.prog w= .ok () w:=fun e c w=>by kernel_rfl
  exact this e a w
 eq:=fun a b w=>by
  have key: ∀c d:Int,q7 Tryz.prog 8 5 (.int .u8 c) (.int .u8 d) (fun r=>r=(c==d)):=fun c d=>by
   have e:q7 Tryz.prog 8 5 (.int .u8 c) (.int .u8 d) (fun r=>r=(c==d))=((c==d)=(c==d)):=by kernel_rfl
   rw [e]
  obtain ⟨r,h1,h2⟩:=lz 8 _ _ _ _ (key a b)
  have:=h1 10000 (by decide) w
  rw [show decide (a=b)=(a==b) from rfl,←h2];exact this
 same:=fun a=>by simp [Instr.sameBits]
abbrev Lk:TypeId:=210
theorem vS:Tryz.prog.underlying Lk=some (.map 5 209):=by kernel_rfl
theorem IJ (w:World):(zeroValue 209).run Tryz.prog w= .ok .nilFunc w:=by kernel_rfl
abbrev rP (b:Nat):Value:= .func (.func ew) ⟨[pE b]⟩ ⟨[]⟩
abbrev AV (b:Nat):Value:= .func (.func eY) ⟨[pE b]⟩ ⟨[]⟩
theorem jU.emp (ok:jU C):jU {C with held:= []}:=⟨ok.n1,ok.n2,ok.m1,ok.m3,ok.live,Nat.zero_le _,fun _ h=>(by cases h),ok.ab⟩
theorem LI {mode:Nat} {K:Int×Int×Unit→Int→World→Prop} (hm:C.mode=mode) (ok:jU C) (h1:1≤C.held.length) (h:Hp E w (fG b C sp::gz C sp::Ar C.A f::F))
  (hK: ∀(p:Nat) g w',p+C.held.length≤C.A.live→a9 g p C.held.length=aQ (a9 f 0 C.held.length)→Hp E w' (fG b C sp::gz C sp::Ar C.A g::F)→K ((p:Int),(C.held.length:Int),()) (a8 (a9 f 0 C.held.length):Int) w'):
  db Tryz.prog (if mode=3 then AV b else rP b) [.st [.int .i64,.int .i64],kI] [] w K:=by
 have hlen:=ok.len
 by_cases h3:mode=3
 ·rw [if_pos h3]
  refine db.mk (by kernel_rfl) (Jp ok h1 (hm.trans h3) h fun g w hg h=>hK C.n g w ?_ hg h)
  rw [←ok.live,hm,h3]
  unfold cd layout
  rw [if_pos rfl,if_pos rfl]
  simp
  omega
 ·rw [if_neg h3]
  refine db.mk (by kernel_rfl) (G0 ok h1 h fun g w hg h=>hK 0 g w ?_ hg h)
  have:=ok.yM
  omega
theorem H5 {K:Sl→World→Prop} (ok:jU C) (h1:1≤C.held.length) (h:Hp E w (fG b C sp::gz C sp::Ar C.A f::F)) (hf:a9 f 0 C.held.length=C.held)
  (hK: ∀s g w',Hp E w' (aj 1 s ((qS (cr C.held) C.held).map vB)::fG b {C with held:= []} sp::gz C sp::Ar C.A g::F)→K s w'):
  Cl Tryz.prog [kS] dy ⟨[pE b]⟩ w K:=by
 refine re.ok _ _ _ ?_
 have hn1:=ok.n1
 have hn2:=ok.n2
 have hlen:=ok.len
 have hm1:=ok.m1
 have hm3:=ok.m3
 refine run_makeMap (ke:=fun n:Int=>Value.int .u8 n) (ve:=fun v:Value=>v) h fun m w h=> ?_
 refine jg (ke:=fun n:Int=>Value.int .u8 n) (ve:=fun v:Value=>v) qc vS (a:=1) (b:=rP b) h fun w h=> ?_
 refine jg (ke:=fun n:Int=>Value.int .u8 n) (ve:=fun v:Value=>v) qc vS (a:=2) (b:=rP b) h fun w h=> ?_
 refine jg (ke:=fun n:Int=>Value.int .u8 n) (ve:=fun v:Value=>v) qc vS (a:=3) (b:=AV b) h fun w h=> ?_
 have hl:gE (3:Int) (AV b) (gE 2 (rP b) (gE 1 (rP b) []))= [(1,rP b),(2,rP b),(3,AV b)]:=rfl
 rw [hl] at h
 refine JO ok ((h.at 3).at 3|>.at 3) fun g w hg h=> ?_
 rw [hf] at hg
 (try simp only [ao,ak,al,Nat.zero_add,Nat.add_zero,Nat.reduceAdd,Bool.not_true,Bool.not_false,aF,aE,Option.isNone])
 refine Ld.xb (b:=b) h rfl ?_
 obtain ⟨q,hq,hq2⟩: ∃q,findAt (C.mode:Int) [((1:Int),rP b),(2,rP b),(3,AV b)] 0=some q∧q.2=(if C.mode=3 then AV b else rP b):=by
  have:C.mode=1∨C.mode=2∨C.mode=3:=by omega
  rcases this with e|e|e<;>rw [e]<;>exact ⟨_,rfl,rfl⟩
 refine au.found (ke:=fun n:Int=>Value.int .u8 n) (ve:=fun v:Value=>v) qc vS (a:=(C.mode:Int)) (x:=(if C.mode=3 then AV b else rP b)) IJ (h.at 3) hq hq2 ?_
 refine LI rfl ok h1 h fun p g2 w hp hg2 h=> ?_
 rw [hg] at hg2⊢
 have hhl:=ok.hb
 have hbl: ∀y∈aQ C.held.reverse,y<256:=sJ fun y hy=>hhl y (List.mem_reverse.1 hy)
 have hcrc:cN C.held<4294967296:=pH hhl
 have hidx:=uG (t:=C.held.reverse) (by rw [List.length_reverse];exact h1)
 rw [List.length_reverse] at hidx
 have hL:=p4 h1 (by omega) hhl
 have hls:(ai .u8 (cr C.held)).size=258:=by rw [av];exact hL.len
 have hlc:(ai .u8 (cr C.held)).toList.all aD=true:=List.all_eq_true.2 bW
 have hsl:=nz (aQ C.held.reverse)
 rw [cy,List.length_reverse] at hsl
 have h257:=tq hhl
 generalize hss:syms (aQ C.held.reverse)=ss at hsl h257
 have hct:=BY h257
 have hall:(ints ss).all Hs.j6=true:=by
  refine List.all_eq_true.2 fun z hz=> ?_
  obtain ⟨y,hy,rfl⟩:=List.mem_map.1 hz
  have:=h257 y hy
  exact Hs.ik.2 (by omega)
 have hmx:=sq (ss:=ss) (by omega)
 have hval:Hs.aR (ints (gK ss))=true:=iu hmx
 have hadd:Hs.cM (List.replicate 258 0) (ints ss)=some (ints (gK ss)):=by
  rw [←hct]
  exact Hs.qz (by decide) hall (by rw [hct];exact hval)
 have hsz:(aT (ints (gK ss))).size=258:=by rw [bA,cF,jK]
 have hsc:(aT (ints (gK ss))).toList.all aD=true:=List.all_eq_true.2 Vc.cL
 refine Nw.mk h fun b16 w h=> ?_
 (with_reducible refine bj.xw h rfl rfl (fun w h=> ?_))
 have h:=h.drew (n:=w.drawn+1)
 (try simp only [ao,ak,al,Nat.zero_add,Nat.add_zero,Nat.reduceAdd,Bool.not_true,Bool.not_false,aF,aE,Option.isNone])
 refine ⟨dv b _ _ (0,0),h.hb,aH.xb (fun _ h=>h) rfl (aH.xb (fun _ h=>h) rfl (aH.xb (fun _ h=>h) rfl ?_))⟩
 refine Fg h (by omega) (by omega) hcrc (fun _ _ _ _ _ _ s39 w h=>⟨h.hb,?_⟩) (fun hno=>absurd ⟨by omega,by omega,by omega,by omega,hidx.1,hidx.2⟩ hno)
 refine aK.mk h fun w h=> ?_
 (try simp only [ao,ak,al,Nat.zero_add,Nat.add_zero,Nat.reduceAdd,Bool.not_true,Bool.not_false,aF,aE,Option.isNone])
 refine Ld.xb (b:=b) h rfl (Ld.xt (b:=b16) h rfl ?_)
 refine Gu (p:=p) (q:=C.held.length) (h.at 4) hp fun s55 w h=> ?_
 rw [hg2] at h
 refine JE h ad.own hbl (by rw [cy,List.length_reverse];omega) fun s57 w h=> ?_
 rw [hss] at h
 refine Lo h ad.own (by rw [cF,aA];omega) fun w h=> ?_
 rw [show ch=List.replicate 258 0 from rfl,hadd]
 refine Nw.mk h fun b62 w h=>ax.q (b:=b62) h (by simp) hsz hsc fun w h=>Ld.xw (b:=b62) h hsz ?_
 refine Ga (uO (by omega)) h fun w h=> ?_
 have hly:fX (gK ss) (fA (gK ss)) 15=cr C.held:=by rw [←hss];rfl
 rw [hly]
 refine Nw.mk h fun b69 w h=>ax.q (b:=b69) h (by simp) hls hlc fun w h=> ?_
 refine KR h fun bw w h=>Ld.xw (b:=b69) h hls ?_
 refine JJ h hL.len hL.ok (by simp) fun w h=>Ld.xw (b:=b69) h hls ?_
 refine J9 h hL.len (ad.at 2 ad.own) (by rw [cF];omega) ?_ (fun hno=>absurd ⟨hL.v,yf (hss▸hL.good) h257⟩ hno) fun _ _ w h=> ?_
 ·have:=j0 hL.len hL.ok
  rw [List.nil_append];omega
 rw [List.nil_append,lA] at h
 refine St.xs (b:=b) h rfl rfl fun w h=>St.xs (b:=b) h rfl rfl fun w h=> ?_
 dsimp only [ca,aJ] at h
 refine Hc h fun s84 w h=> ?_
 have hpl:=nT (eC (cr C.held)++enc (cr C.held) ss)
 have hel:=kD hL.v (ints ss)
 rw [lA,cF] at hel
 have htl:=j0 hL.len hL.ok
 have hml:(kY C.held.length (a8 C.held.reverse) (cN C.held)).length≤20:=by
  have h1:=cH (n:=C.held.length) (by omega)
  have h2:=cH (n:=a8 C.held.reverse) (by omega)
  unfold kY
  simp [fH]
  omega
 rw [List.length_append] at hpl
 have h:=h.at 7
 have l1:=(h.at 1).aV
 have l2:=h.aV
 rw [List.length_map,Nat.mul_one] at l1 l2
 refine aI (s:=s39) (n:=s84.len) lS (by decide) (.inl ⟨5,by kernel_rfl⟩) h (.inl ⟨s84.base,s84.len,s84.cap,rfl,rfl,h.ag (ad.at 1 ad.own)⟩) (by rw [List.length_map,l1,Nat.mul_one]) dW (by omega) (by omega) fun s86 w h _=> ?_
 have e:(kY C.held.length (a8 C.held.reverse) (cN C.held)).map vB++(pack (eC (cr C.held)++enc (cr C.held) ss)).map vB=(qS (cr C.held) C.held).map vB:=by
  unfold qS body;rw [List.map_append,hss]
 rw [e] at h
 have h:=(((((((((h.no 1).no 1).no 1).no 1).no 1).no 1).no 2).no 4))
 have h:=((h.at 3).at 3).at 2
 have hk:=hK s86 g2 w
 dsimp only [fG] at hk
 rw [show cN []=0 by decide] at hk
 exact hk h
end
end Go.Proofs.YtgglghjnakclmaaGreat
set_option maxRecDepth 20000
namespace Go.Stm
def cj (n:Nat) (x:List Nat):List (List Nat)×List Nat:=if _h:n=0∨x.length<n then ([],x) else (x.take n::(cj n (x.drop n)).1,(cj n (x.drop n)).2)
termination_by x.length
decreasing_by
 all_goals
  have h1:n≠0:=fun e=>_h (.inl e)
  have h2: ¬x.length<n:=fun e=>_h (.inr e)
  rw [List.length_drop];omega
theorem dh {n:Nat} {x:List Nat} (h:x.length<n):cj n x=([],x):=by rw [cj,dif_pos (.inr h)]
theorem fE {n:Nat} {x:List Nat} (hn:0<n) (h:n≤x.length):cj n x=(x.take n::(cj n (x.drop n)).1,(cj n (x.drop n)).2):=by rw [cj,dif_neg (by omega)]
theorem Cc {n:Nat} (hn:0<n) (x:List Nat):(cj n x).2.length<n:=by
 induction hk:x.length using Nat.strongRecOn generalizing x with
 |ind k ih=>
  rcases Nat.lt_or_ge x.length n with h|h
  ·rw [dh h];exact h
  ·rw [fE hn h]
   exact ih (x.drop n).length (by rw [List.length_drop];omega) (x.drop n) rfl
theorem qJ {n:Nat} (hn:0<n) (x:List Nat):(∀y∈(cj n x).1,y.length=n∧∀c∈y,c∈x)∧∀c∈(cj n x).2,c∈x:=by
 induction hk:x.length using Nat.strongRecOn generalizing x with
 |ind k ih=>
  rcases Nat.lt_or_ge x.length n with h|h
  ·rw [dh h];exact ⟨fun y hy=>(by cases hy),fun c hc=>hc⟩
  ·rw [fE hn h]
   obtain ⟨h1,h2⟩:=ih (x.drop n).length (by rw [List.length_drop];omega) (x.drop n) rfl
   refine ⟨fun y hy=> ?_,fun c hc=>List.mem_of_mem_drop (h2 c hc)⟩
   rcases List.mem_cons.1 hy with e|e
   ·subst e
    exact ⟨by rw [List.length_take];omega,fun c hc=>List.mem_of_mem_take hc⟩
   ·exact ⟨(h1 y e).1,fun c hc=>List.mem_of_mem_drop ((h1 y e).2 c hc)⟩
theorem z7 {n:Nat} (hn:0<n) (x z:List Nat):cj n (x++z)=((cj n x).1++(cj n ((cj n x).2++z)).1,(cj n ((cj n x).2++z)).2):=by
 induction hk:x.length using Nat.strongRecOn generalizing x with
 |ind k ih=>
  rcases Nat.lt_or_ge x.length n with h|h
  ·rw [dh h];rfl
  ·rw [fE hn h,fE (x:=x++z) hn (by rw [List.length_append];omega),List.take_append_of_le_length h,List.drop_append_of_le_length h,ih (x.drop n).length (by rw [List.length_drop];omega) (x.drop n) rfl]
   rfl
theorem Gr {n:Nat} (hn:0<n) (x:List Nat):iI n x=(cj n x).1++if (cj n x).2= [] then [] else [(cj n x).2]:=by
 induction hk:x.length using Nat.strongRecOn generalizing x with
 |ind k ih=>
  by_cases hx:x= []
  ·subst hx
   rw [jn,dh (by simpa using hn)];rfl
  ·rw [kx hx hn]
   rcases Nat.lt_or_ge x.length n with h|h
   ·rw [dh h,List.take_of_length_le (by omega),List.drop_of_length_le (by omega),jn]
    simp [hx]
   ·have:=List.length_pos_iff.2 hx
    rw [fE hn h,ih (x.drop n).length (by rw [List.length_drop];omega) (x.drop n) rfl]
    rfl
end Go.Stm
namespace Go.Crc
theorem B5 (a b:List Nat):feed (cN a^^^4294967295) b^^^4294967295=cN (a++b):=by
 unfold cN
 rw [ug,Nat.xor_assoc,Nat.xor_self,Nat.xor_zero]
end Go.Crc
namespace Go.Proofs.YtgglghjnakclmaaGreat
open Go Go.Vc Go.Srt Go.Inc Go.Hd Go.aS Go.af Go.Crc Go.Pol Go.Stm
set_option maxRecDepth 20000
structure r0 (C:EC) (f:Nat→Nat):Prop where
 ok:jU C
 lt:C.held.length<C.n
 row:a9 f 0 C.held.length=C.held
 peak:C.A.peak=C.A.live
def cq (b:Nat) (C:EC):HP:=Ct (fun p:Sl×(Nat→Nat)=>r0 C p.2) fun p=> [fG b C p.1,gz C p.1,Ar C.A p.2]
def EC.hd (C:EC):List Nat:=if C.begun then [] else fw C.n
def EC.xA (C:EC):EC:={C with begun:=true}
noncomputable abbrev cS (y:List Nat):List Nat:=qS (cr y) y
def EC.wr (C:EC) (b:List Nat):EC:={C with held:=(cj C.n (C.held++b)).2,all:=C.all++b,begun:=true}
noncomputable def EC.mc (C:EC) (b:List Nat):List Nat:=C.hd++(cj C.n (C.held++b)).1.flatMap cS
def EC.fl (C:EC):EC:={C with held:= [],begun:=true}
noncomputable def EC.gT (C:EC):List Nat:=C.hd++if C.held= [] then [] else cS C.held
def EC.cl (C:EC):EC:={C with held:= [],begun:=true,closed:=true}
noncomputable def EC.se (C:EC):List Nat:=C.gT++lN (cN C.all)
section
variable {E w:World} {F:List HP} {b:Nat} {C:EC} {sp:Sl} {f:Nat→Nat}
theorem sf (h:Hp E w (cq b C::F)): ∃sp f,r0 C f∧Hp E w (fG b C sp::gz C sp::Ar C.A f::F):=by
 obtain ⟨p,hx,h⟩:=h.ex
 exact ⟨p.1,p.2,hx,h⟩
theorem cq.shut (ok:r0 C f) (h:Hp E w (fG b C sp::gz C sp::Ar C.A f::F)):Hp E w (cq b C::F):=Hp.Dk (sp,f) ok h
theorem Dc {X A B C:HP} (h:Hp E w (X::A::B::C::F)):Hp E w (A::B::C::X::F):=((h.at 3).at 3).at 3
theorem cq.za {X:HP} (ok:r0 C f) (h:Hp E w (X::fG b C sp::gz C sp::Ar C.A f::F)):Hp E w (X::cq b C::F):=(cq.shut ok (Dc h)).at 1
theorem pI (C:EC) (h:C.n≤65536):C.hd.length≤7:=by
 unfold EC.hd
 split
 ·simp
 ·have:=cH h
  simp [fw];omega
theorem B8 {K:Sl→Bool→World→Prop} (ok:jU C) (hcl:C.closed=false) (h:Hp E w (fG b C sp::F)) (hK: ∀s w',Hp E w' (aj 1 s (C.hd.map vB)::fG b C.xA sp::F)→K s true w'):
  Cl Tryz.prog [kS,kB] cp ⟨[pE b]⟩ w K:=by
 refine fy.ok _ _ _ ?_
 (try simp only [ao,ak,al,Nat.zero_add,Nat.add_zero,Nat.reduceAdd,Bool.not_true,Bool.not_false,aF,aE,Option.isNone])
 refine Ld.xb (b:=b) (x:=C.closed) h rfl (aa.f hcl (Ld.xb (b:=b) (x:=C.begun) h rfl ?_))
 by_cases hb:C.begun=true
 ·refine aa.f (by rw [hb];rfl) (hK _ w ?_)
  have e:C.xA=C:=by unfold EC.xA;rw [←hb]
  rw [e,show C.hd= [] by unfold EC.hd;rw [if_pos hb]]
  exact h.bl 1
 ·have hn2:=ok.n2
  have hn1:=ok.n1
  refine aa.t (by simpa using hb) (Ld.xb (b:=b) h rfl (Kl h hn2 hn1 fun s w h=> ?_))
  refine St.xs (b:=b) h rfl rfl fun w h=> ?_
  dsimp only [ca,aJ] at h
  refine hK s w ?_
  rw [show C.hd=fw C.n by unfold EC.hd;rw [if_neg hb]]
  exact h
theorem Ft {K:Sl→Bool→World→Prop} (hcl:C.closed=true) (h:Hp E w (fG b C sp::F)) (hK:Hp E w (fG b C sp::F)→K ⟨none,0,0⟩ false w):
  Cl Tryz.prog [kS,kB] cp ⟨[pE b]⟩ w K:=by
 refine fy.ok _ _ _ ?_
 (try simp only [ao,ak,al,Nat.zero_add,Nat.add_zero,Nat.reduceAdd,Bool.not_true,Bool.not_false,aF,aE,Option.isNone])
 exact Ld.xb (b:=b) (x:=C.closed) h rfl (aa.t hcl (hK h))
theorem JH {K:Int→World→Prop} (h:Hp E w (cq b C::F)) (hK:K (C.held.length:Int) w):Cl Tryz.prog [kI] cB ⟨[pE b]⟩ w K:=by
 obtain ⟨sp,f,ok,h⟩:=(sf h)
 refine kj.ok _ _ _ ?_
 (try simp only [ao,ak,al,Nat.zero_add,Nat.add_zero,Nat.reduceAdd,Bool.not_true,Bool.not_false,aF,aE,Option.isNone])
 exact Ld.xb (b:=b) h rfl hK
theorem Cu {K:Int→World→Prop} (h:Hp E w (cq b C::F)) (hK:K (C.mode:Int) w):Cl Tryz.prog [aq .u8] bU ⟨[pE b]⟩ w K:=by
 obtain ⟨sp,f,ok,h⟩:=(sf h)
 refine kb.ok _ _ _ ?_
 (try simp only [ao,ak,al,Nat.zero_add,Nat.add_zero,Nat.reduceAdd,Bool.not_true,Bool.not_false,aF,aE,Option.isNone])
 exact Ld.xb (b:=b) h rfl hK
theorem Jb {K:Int→World→Prop} (h:Hp E w (cq b C::F)) (hK:K (cd C.n 1 C.mode:Int) w):Cl Tryz.prog [kI] cC ⟨[pE b]⟩ w K:=by
 obtain ⟨sp,f,ok,h⟩:=(sf h)
 refine jS.ok _ _ _ ?_
 (try simp only [ao,ak,al,Nat.zero_add,Nat.add_zero,Nat.reduceAdd,Bool.not_true,Bool.not_false,aF,aE,Option.isNone])
 refine Ld.xb (b:=b) h rfl (He ((h.at 1).at 2) fun _=> ?_)
 rw [ok.peak,←ok.ok.live]
 exact hK
theorem r0.flush (ok:r0 C f) (c:Bool) (g:Nat→Nat):r0 {C with held:= [],begun:=true,closed:=c} g:=⟨⟨ok.ok.n1,ok.ok.n2,ok.ok.m1,ok.ok.m3,ok.ok.live,Nat.zero_le _,fun _ h=>(by cases h),ok.ok.ab⟩,ok.ok.n1,rfl,ok.peak⟩
theorem qk {K:Sl→Int→World→Prop} (hcl:C.closed=false) (h:Hp E w (cq b C::F)) (hK: ∀s w',Hp E w' (aj 1 s (C.gT.map vB)::cq b C.fl::F)→K s 0 w'):
  Cl Tryz.prog [kS,kI] bh ⟨[pE b]⟩ w K:=by
 obtain ⟨sp,f,ok,h⟩:=(sf h)
 refine jF.ok _ _ _ (B8 ok.ok hcl h fun s w h=> ?_)
 (try simp only [ao,ak,al,Nat.zero_add,Nat.add_zero,Nat.reduceAdd,Bool.not_true,Bool.not_false,aF,aE,Option.isNone])
 have hn2:=ok.ok.n2
 have hlen:=ok.ok.len
 have hhd:=pI C hn2
 refine Ld.xb (b:=b) (x:=(C.held.length:Int)) h rfl ?_
 refine aa.dm (fun hp=> ?_) (fun hz=> ?_)
 ·refine H5 (C:=C.xA) (f:=f) ⟨ok.ok.n1,ok.ok.n2,ok.ok.m1,ok.ok.m3,ok.ok.live,ok.ok.len,ok.ok.hb,ok.ok.ab⟩ (show 1≤C.held.length by omega) (Dc h) ok.row fun s2 g w h=> ?_
  have h:=h.at 4
  have l1:=(h.at 1).aV
  have l2:=h.aV
  have hbs:(cS C.held).length≤200000:=eQ (x:=C.held) (by omega) ok.ok.hb (by omega)
  rw [List.length_map,Nat.mul_one] at l1 l2
  have l1:s2.len=(cS C.held).length:=l1.symm
  refine aI (s:=s) (n:=s2.len) lS (by decide) (.inl ⟨5,by kernel_rfl⟩) h (.inl ⟨s2.base,s2.len,s2.cap,rfl,rfl,h.ag (ad.at 1 ad.own)⟩) (by rw [List.length_map,Nat.mul_one,l1];rfl) dW (by omega) (by omega) fun s3 w h _=> ?_
  refine hK s3 w ?_
  have e:C.hd.map vB++(cS C.held).map vB=C.gT.map vB:=by
   unfold EC.gT
   rw [if_neg (by intro e;rw [e] at hp;simp at hp),List.map_append]
  rw [←e]
  exact cq.za (C:=C.fl) (ok.flush _ g) (h.no 1)
 ·refine hK s w ?_
  have e:C.held= []:=List.eq_nil_of_length_eq_zero (by omega)
  have e2:C.gT=C.hd:=by unfold EC.gT;rw [if_pos e,List.append_nil]
  rw [e2]
  have hin:=ok.flush C.closed f
  have e3:C.fl=C.xA:=by unfold EC.fl EC.xA;rw [e]
  rw [e3]
  have e4:r0 C.xA f:=by rw [←e3];exact hin
  exact cq.za (C:=C.xA) e4 h
theorem E3 {sl:Sl} {K:Sl→Int→World→Prop} (hcl:C.closed=true) (h:Hp E w (cq b C::F)) (hK:Hp E w (cq b C::F)→K ⟨none,0,0⟩ 280 w):
  Cl Tryz.prog [kS,kI] bO ⟨[pE b,.slice sl.base sl.len sl.cap]⟩ w K:=by
 obtain ⟨sp,f,ok,h⟩:=(sf h)
 refine jB.ok _ _ _ _ (Ft hcl h fun h=> ?_)
 exact aa.L8 (hK (cq.shut ok h))
theorem ud {K:Sl→Int→World→Prop} (hcl:C.closed=false) (h:Hp E w (cq b C::F)) (hK: ∀s w',Hp E w' (aj 1 s (C.se.map vB)::cq b C.cl::F)→K s 0 w'):
  Cl Tryz.prog [kS,kI] cm ⟨[pE b]⟩ w K:=by
 obtain ⟨_,f0,ok0,_⟩:=(sf h)
 refine pU.ok _ _ _ (qk hcl h fun s w h=>aa.nf rfl ?_)
 obtain ⟨sp,f,ok,h⟩:=(sf (h.at 1))
 (try simp only [ao,ak,al,Nat.zero_add,Nat.add_zero,Nat.reduceAdd,Bool.not_true,Bool.not_false,aF,aE,Option.isNone])
 refine St.xs (b:=b) h rfl rfl fun w h=>Ld.xb (b:=b) (x:=(cN C.all:Int)) h rfl ?_
 dsimp only [ca,aJ] at h
 refine Lg h (pH ok0.ok.ab) fun s2 w h=> ?_
 have hn2:=ok0.ok.n2
 have hfl:C.gT.length≤300000:=by
  have hhd:=pI C hn2
  have hlen:=ok0.ok.len
  unfold EC.gT
  rw [List.length_append]
  split
  ·simp;omega
  ·rename_i hne
   have:=eQ (x:=C.held) (List.length_pos_iff.2 hne) ok0.ok.hb (by omega)
   unfold cS
   omega
 have hml:(lN (cN C.all)).length=5:=rfl
 have h:=h.at 4
 have l1:=(h.at 1).aV
 have l2:=h.aV
 rw [List.length_map,Nat.mul_one] at l1 l2
 refine aI (s:=s) (n:=s2.len) lS (by decide) (.inl ⟨5,by kernel_rfl⟩) h (.inl ⟨s2.base,s2.len,s2.cap,rfl,rfl,h.ag (ad.at 1 ad.own)⟩) (by rw [List.length_map,Nat.mul_one,l1]) dW (by omega) (by omega) fun s3 w h _=> ?_
 refine hK s3 w ?_
 have e:C.gT.map vB++(lN (cN C.all)).map vB=C.se.map vB:=by unfold EC.se;rw [List.map_append]
 rw [←e]
 exact cq.za (C:=C.cl) (ok0.flush _ f) (h.no 1)
end
end Go.Proofs.YtgglghjnakclmaaGreat
namespace Go.Proofs.YtgglghjnakclmaaGreat
open Go Go.Vc
set_option maxRecDepth 100000
theorem By.ok (a:Sl) (R:Bool→World→Prop) w (h:
 br 0 0 w fun b c (d:Int) (e:Int) f=>
 aa (decide (e<(a.len:Int)))
 (aa (decide (e≤20))
 (aa (decide (d≤150))
 (an a e 1 fun g=>
 Ld kS g f fun (h:Sl)=>
 b (i64 (d+(if (200:Int)<(h.len:Int) then (200:Int) else (h.len:Int)))) (i64 (e+1)) f∧c (i64 (d+(if (200:Int)<(h.len:Int) then (200:Int) else (h.len:Int)))) (i64 (e+1)) f<c d e f)
 (aa (decide ((a.len:Int)>20))
 (R true f)
 (R (decide (d>150)) f)))
 (aa (decide ((a.len:Int)>20))
 (R true f)
 (R (decide (d>150)) f)))
 (aa (decide ((a.len:Int)>20))
 (R true f)
 (R (decide (d>150)) f))):Cl Pg [kB] l4 ⟨[(ah a)]⟩ w R:=co Tryz.f24 [(7,[(3,kI),(4,kI)])] h
theorem BA.ok (a:Int) (b:Sl) (R:Sl→Int→World→Prop) w (h:
 Cl Pg [kS,kI] oW ⟨[(.agg ⟨[(ni a)]⟩)]⟩ w fun (d:Sl) (e:Int) c=>
 aa (e !=0)
 (R (⟨none,0,0⟩:Sl) 2 c)
 (Cl Pg [kS] nZ ⟨[(ni a),(ah b)]⟩ c fun (g:Sl) f=>
 br d 0 f fun h i (j:Sl) (k:Int) l=>
 aa (decide (k<(g.len:Int)))
 (an g k 1 fun m=>
 Ld kS m l fun (n:Sl)=>
 Cl Pg [kS,kI] nA ⟨[(ni a),(ah n)]⟩ l fun (p:Sl) (q:Int) o=>
 au Pg (Builtin.append_ #[26,26] 26 ⟨[(ah j),(ah p)]⟩) kS o fun (s:Sl) r=>
 h s (i64 (k+1)) r∧i s (i64 (k+1)) r<i j k l)
 (Cl Pg [(aq .u32)] mz ⟨[(ah b)]⟩ l fun (u:Int) t=>
 Cl Pg [kS] kH ⟨[(.int .u32 u)]⟩ t fun (x:Sl) v=>
 au Pg (Builtin.append_ #[26,26] 26 ⟨[(ah j),(ah x)]⟩) kS v fun (z:Sl) y=>
 R z 0 y))):Cl Pg [kS,kI] jb ⟨[(ni a),(ah b)]⟩ w R:=co Tryz.f25 [(14,[(6,kS),(9,kI)])] h
theorem CS.ok (a:Int) (b:Sl) (R:Sl→World→Prop) w (h:
 br (⟨none,0,0⟩:Sl) 0 w fun c d (e:Sl) (f:Int) g=>
 aa (decide (f<(b.len:Int)))
 (br e 0 g fun h i (j:Sl) (k:Int) l=>
 an b f 1 fun m=>
 Ld kS m l fun (n:Sl)=>
 aa (decide (k<(n.len:Int)))
 (gm l fun o p=>
 an b f 1 fun q=>
 aH kS q o fun (r:Sl)=>
 an b f 1 fun s=>
 aH kS s o fun (t:Sl)=>
 bf r k (if (t.len:Int)<(i64 (k+a)) then (t.len:Int) else (i64 (k+a))) (r).cap 1 fun u=>
 Nw 26 ⟨[(ah u)]⟩ p fun x v=>
 o v∧
 au Pg (Builtin.append_ #[47,47] 47 ⟨[(ah j),(ah (⟨some ⟨x,0,none⟩,1,1⟩:Sl))]⟩) kS v fun (z:Sl) y=>
 o y∧
 h z (i64 (k+a)) y∧i z (i64 (k+a)) y<i j k l)
 (c j (i64 (f+1)) l∧d j (i64 (f+1)) l<d e f g))
 (R e g)):Cl Pg [kS] nZ ⟨[(ni a),(ah b)]⟩ w R:=co Tryz.f26 [(7,[(5,kS),(6,kI)]),(14,[(5,kS),(7,kI)])] h
end Go.Proofs.YtgglghjnakclmaaGreat
namespace Go.Vc
open Go Go.Stm
end Go.Vc
namespace Go.Proofs.YtgglghjnakclmaaGreat
open Go Go.Vc Go.Stm
section
variable {E w:World} {F:List HP}
set_option maxRecDepth 20000
structure eG (s:Sl) (ps:List (Sl×List Nat)) (w:World):Prop where
 tab:aC 1 s (ps.map fun x=> .slice x.1.base x.1.len x.1.cap) w
 each: ∀x∈ps,aC 1 x.1 (x.2.map vB) w
structure vz (ps:List (Sl×List Nat)):Prop where
 caps: ∀x∈ps,x.1.len≤x.1.cap
 few:ps.length≤bZ
 small: ∀x∈ps,x.2.length≤bZ
end
end Go.Proofs.YtgglghjnakclmaaGreat
namespace Go.Vc
open Go
theorem an.FB {w:World} {S:World→Prop} {sc:Sc} {s:Sl} {xs:List Value} {i:Int} {j:Nat} {K:sc.T→Prop} (hw:aC 1 s xs w) (hS: ∀w,S w→aC 1 s xs w) (hi:i=(j:Int)) (hj:j<xs.length) (x:sc.T) (hx:xs[j]? =some (sc.enc x)) (hK:K x):
  an s i 1 fun q=>aH (.sc sc) q S K:=by
 subst hi
 have hl:=hw.1
 rw [Nat.mul_one] at hl
 obtain ⟨p,hp,_⟩:=hw.2 j hj
 refine ⟨p,hp,by omega,by omega,aH.sc x (fun w' hw'=> ?_) hK⟩
 obtain ⟨p',hp',hc⟩:=(hS w' hw').2 j hj
 rw [hp] at hp'
 cases hp'
 rw [show ((j:Int)).toNat*1=j by omega,hc,←hx,List.getElem?_eq_getElem hj]
end Go.Vc
namespace Go.Proofs.YtgglghjnakclmaaGreat
open Go Go.Vc Go.Srt Go.Inc Go.Sym Go.aS Go.af
section
variable {E w:World} {F:List HP}
set_option maxRecDepth 20000
end
end Go.Proofs.YtgglghjnakclmaaGreat
set_option maxRecDepth 20000
namespace Go.Proofs.YtgglghjnakclmaaGreat
open Go Go.Vc
section
variable {E w:World} {F:List HP} {K:Sl→World→Prop} {s s2:Sl} {b x:Nat} {t:TypeId}
abbrev OI (s:Sl) (xs:List Nat):HP:=aj 1 s ((ints xs).map vI)
abbrev OB (s:Sl) (xs:List Nat):HP:=aj 1 s (xs.map vB)
abbrev L7 (b x:Nat) (t:TypeId):HP:=af b (.cells ⟨[.int .i64 (x:Int)]⟩ t (0,0))
abbrev Ha (b x:Nat) (t:TypeId):HP:=af b (.cells ⟨[.int .u8 (x:Int)]⟩ t (0,0))
theorem OI.len {xs:List Nat} (h:Hp E w (OI s xs::F)):xs.length=s.len:=by have:=h.aV;simpa [ints] using this
theorem OB.len {xs:List Nat} (h:Hp E w (OB s xs::F)):xs.length=s.len:=by have:=h.aV;simpa using this
theorem L3: ∀y∈ [vI (x:Int)],aD y=true:=by intro y hy;rw [List.mem_singleton] at hy;rw [hy];rfl
theorem L6: ∀y∈ [vB x],aD y=true:=by intro y hy;rw [List.mem_singleton] at hy;rw [hy];rfl
theorem rY (xs ys:List Nat):(ints (xs++ys)).map vI=(ints xs).map vI++(ints ys).map vI:=by simp [ints]
theorem AW {xs:List Nat} (h:aC 1 s ((ints xs).map vI) w):xs.length=s.len:=by have:=h.1;simpa [ints] using this
theorem vD {xs:List Nat} (h:aC 1 s (xs.map vB) w):xs.length=s.len:=by have:=h.1;simpa using this
theorem vu {xs:List Nat} (h:Hp E w (L7 b x t::OI s xs::F)) (hl:xs.length≤10000000000) (hK: ∀s' w',Hp E w' (OI s' (xs++ [x])::F)→K s' w'):
  au Tryz.prog (Builtin.append_ #[142,142] 142 ⟨[.slice s.base s.len s.cap,.slice (some ⟨b,0,none⟩) 1 1]⟩) kS w K:=by
 have hol:=OI.len (h.at 1)
 refine aI (ys:= [vI (x:Int)]) (n:=1) eF (by decide) (.inl ⟨3,by kernel_rfl⟩) (h.at 1) (.inl ⟨some ⟨b,0,none⟩,1,1,rfl,rfl,h.ag (ad.aG rfl rfl)⟩) rfl L3 (by omega) (by omega) fun s' w' h _=>hK s' w' ?_
 unfold OI
 rw [rY]
 exact h.du
theorem Lp {xs:List Nat} (h:Hp E w (Ha b x t::OB s xs::F)) (hl:xs.length≤10000000000) (hK: ∀s' w',Hp E w' (OB s' (xs++ [x])::F)→K s' w'):
  au Tryz.prog (Builtin.append_ #[26,26] 26 ⟨[.slice s.base s.len s.cap,.slice (some ⟨b,0,none⟩) 1 1]⟩) kS w K:=by
 have hol:=OB.len (h.at 1)
 refine aI (ys:= [vB x]) (n:=1) lS (by decide) (.inl ⟨5,by kernel_rfl⟩) (h.at 1) (.inl ⟨some ⟨b,0,none⟩,1,1,rfl,rfl,h.ag (ad.aG rfl rfl)⟩) rfl L6 (by omega) (by omega) fun s' w' h _=>hK s' w' ?_
 unfold OB
 rw [List.map_append]
 exact h.du
theorem H8 {xs:List Nat} (h:Hp E w (Ha b x t::OB s xs::F)) (hl:xs.length≤10000000000) (hK: ∀s' w',Hp E w' (OB s' (x::xs)::F)→K s' w'):
  au Tryz.prog (Builtin.append_ #[26,26] 26 ⟨[.slice (some ⟨b,0,none⟩) 1 1,.slice s.base s.len s.cap]⟩) kS w K:=by
 have hol:=OB.len (h.at 1)
 have h2:=Hp.fo (n:=1) (sz:=1) h rfl
 refine aI (s:=⟨some ⟨b,0,none⟩,1,1⟩) (xs:= [vB x]) (ys:=xs.map vB) (n:=s.len) lS (by decide) (.inl ⟨5,by kernel_rfl⟩) h2 (.inl ⟨s.base,s.len,s.cap,rfl,rfl,(h2.at 1).ag ad.own⟩) (by simp [hol]) dW (by dsimp only;omega) (by dsimp only;omega) fun s' w' h _=>hK s' w' ?_
 exact h.du
theorem Dy {xs ys:List Nat} (h:Hp E w (OI s xs::F)) (h2:ad F (aC 1 s2 ((ints ys).map vI))) (hl:xs.length≤10000000000) (hl2:ys.length≤10000000000) (hK: ∀s' w',Hp E w' (OI s' (xs++ys)::F)→K s' w'):
  au Tryz.prog (Builtin.append_ #[142,142] 142 ⟨[.slice s.base s.len s.cap,.slice s2.base s2.len s2.cap]⟩) kS w K:=by
 have hol:=OI.len h
 have hol2:=AW (h.drop.ag h2)
 refine aI (ys:=(ints ys).map vI) (n:=s2.len) eF (by decide) (.inl ⟨3,by kernel_rfl⟩) h (.inl ⟨s2.base,s2.len,s2.cap,rfl,rfl,h.drop.ag h2⟩) (by simp [ints,hol2]) lH (by omega) (by omega) fun s' w' h _=>hK s' w' ?_
 unfold OI
 rw [rY]
 exact h
theorem oH {xs ys:List Nat} (h:Hp E w (OB s xs::F)) (h2:ad F (aC 1 s2 (ys.map vB))) (hl:xs.length≤1000000000000) (hl2:ys.length≤1000000000000) (hK: ∀s' w',Hp E w' (OB s' (xs++ys)::F)→K s' w'):
  au Tryz.prog (Builtin.append_ #[26,26] 26 ⟨[.slice s.base s.len s.cap,.slice s2.base s2.len s2.cap]⟩) kS w K:=by
 have hol:=OB.len h
 have hol2:=vD (h.drop.ag h2)
 refine aI (ys:=ys.map vB) (n:=s2.len) lS (by decide) (.inl ⟨5,by kernel_rfl⟩) h (.inl ⟨s2.base,s2.len,s2.cap,rfl,rfl,h.drop.ag h2⟩) (by simp [hol2]) dW (by omega) (by omega) fun s' w' h _=>hK s' w' ?_
 unfold OB
 rw [List.map_append]
 exact h
theorem an.rI {xs:List Nat} {i:Int} {j:Nat} {K:Int→Prop} (hs:aC 1 s ((ints xs).map vI) w) (hi:i=(j:Int)) (hj:j<xs.length) (hK:K (xs[j]:Int)):an s i 1 fun q=>Ld kI q w K:=by
 subst hi
 have hl:=AW hs
 refine an.rd hs (by omega) (by omega) fun q _ hq=>Ld.sc (s:= .int .i64) (xs[j]:Int) (by rw [hq];simp [Sc.enc,vI,ints]) hK
end
end Go.Proofs.YtgglghjnakclmaaGreat
namespace Go.Vc
open Go
theorem bf.EI {w:World} {s:Sl} {xs:List Value} {lo hi mx:Int} {K:Sl→Prop} (hs:aC 1 s xs w) (h0:0≤lo) (h1:lo≤hi) (h2:hi≤(s.len:Int)) (h3:hi≤mx) (h4:mx≤(s.cap:Int))
  (h: ∀s':Sl,(∀w',aC 1 s xs w'→aC 1 s' ((xs.drop lo.toNat).take (hi.toNat - lo.toNat)) w')→s'.len=hi.toNat - lo.toNat→s'.len≤s'.cap→K s'):bf s lo hi mx 1 K:=by
 obtain ⟨a,b,c,d,e⟩:=bf.rd (K:=fun s'=>s'.len≤s'.cap→K s') hs h0 h1 h2 h3 h4 fun s' a b c=>h s' a b c
 exact ⟨a,b,c,d,e (by simp only;omega)⟩
end Go.Vc
namespace Go.Stm
theorem zM: ∀l:List (List Nat),(∀x∈l,0<x.length)→l.length≤l.flatten.length
 | [],_=>by simp
 |x::l,h=>by
  have h1:=h x List.mem_cons_self
  have h2:=zM l fun y hy=>h y (List.mem_cons_of_mem _ hy)
  rw [List.length_cons,List.flatten_cons,List.length_append];omega
theorem ue {n:Nat} (hn:0<n) (l:List (List Nat)):(bK n l).length≤l.flatten.length:=by
 have:=zM (bK n l) fun x hx=>(z9 hn x hx).1
 rwa [ED hn] at this
theorem xy (n:Nat) (x:List Nat) (l:List (List Nat)):bK n (x::l)=iI n x++bK n l:=by unfold bK;rw [List.flatMap_cons]
def og (l:List (List Nat)):Nat:=(l.map fun b=>min b.length 200).sum
theorem GX (l:List (List Nat)) (b:List Nat):og (l++ [b])=og l+min b.length 200:=by unfold og;simp
theorem zY: ∀l:List (List Nat),og l≤150→l.flatten.length≤150∧l.flatten.length=og l
 | [],_=>by simp [og]
 |x::l,h=>by
  have e:og (x::l)=min x.length 200+og l:=by unfold og;simp
  rw [e] at h
  have ih:=zY l (by omega)
  rw [e,List.flatten_cons,List.length_append];omega
end Go.Stm
namespace Go.Proofs.YtgglghjnakclmaaGreat
open Go Go.Vc Go.Stm
section
variable {E w:World} {F:List HP}
set_option maxRecDepth 20000
theorem JZ:bJ Tryz.prog 47 26 1 24:=bJ.of (by kernel_rfl) (by kernel_rfl)
theorem Dp {s:Sl} {ps:List (Sl×List Nat)} {K:Bool→World→Prop} (hs:eG s ps w) (hK: ∀b:Bool,(b=false→ps.length≤20∧(ps.map Prod.snd).flatten.length≤150)→K b w):
  Cl Tryz.prog [kB] l4 ⟨[.slice s.base s.len s.cap]⟩ w K:=by
 refine By.ok _ _ _ ?_
 have hlen:ps.length=s.len:=by have:=hs.tab.1;simpa using this
 refine ⟨fun n i w'=>w'=w∧∃k:Nat,i=(k:Int)∧k≤ps.length∧k≤21∧n=((og ((ps.take k).map Prod.snd):Nat):Int)∧og ((ps.take k).map Prod.snd)≤350,fun _ i _=>ps.length - i.toNat,⟨rfl,0,rfl,by omega,by omega,rfl,by simp [og]⟩,?_⟩
 rintro n i w' ⟨rfl,k,rfl,hk,hk21,rfl,hg⟩
 refine aa.dm (fun hlt=> ?_) (fun hge=> ?_)
 ·have hlt:k<ps.length:=by omega
  refine aa.dm (fun h20=> ?_) (fun h20=>aa.dt (by omega) (hK true (fun hh=>by cases hh)))
  refine aa.dm (fun h150=> ?_) (fun h150=> ?_)
  ·refine an.rd hs.tab (by omega) (by omega) fun q _ hq=> ?_
   have hT:=(hs.each _ (List.getElem_mem hlt)).1
   rw [List.length_map,Nat.mul_one] at hT
   refine Ld.sc (s:= .sl) ps[k].1 (by rw [hq];simp [Sc.enc]) ?_
   have hst:og ((ps.take (k+1)).map Prod.snd)=og ((ps.take k).map Prod.snd)+min ps[k].2.length 200:=by
    rw [List.take_add_one,List.getElem?_eq_getElem hlt,List.map_append]
    exact GX _ _
   have e:(if (200:Int)<(ps[k].1.len:Int) then (200:Int) else (ps[k].1.len:Int))=((min ps[k].2.length 200:Nat):Int):=by
    split<;>omega
   rw [e,ae (by omega),ae (by omega)]
   exact ⟨⟨rfl,k+1,rfl,by omega,by omega,by rw [hst];omega,by omega⟩,by first|omega|(dsimp only;omega)⟩
  ·refine aa.dm (fun _=>hK true (fun hh=>by cases hh)) (fun h2=> ?_)
   rw [decide_eq_true (by omega)]
   exact hK true (fun hh=>by cases hh)
 ·have hk2:k=ps.length:=by omega
  subst hk2
  rw [List.take_of_length_le (Nat.le_refl _)] at hg⊢
  refine aa.dm (fun _=>hK true (fun hh=>by cases hh)) (fun h2=>hK _ fun hh=> ?_)
  have:=of_decide_eq_false hh
  exact ⟨by omega,(zY _ (by omega)).1⟩
theorem G4 {ps:List (Sl×List Nat)} (hc: ∀x∈ps,x.1.len≤x.1.cap) (h1:ps.length≤20) (h2:(ps.map Prod.snd).flatten.length≤150):vz ps where
 caps:=hc
 few:=by rw [aA];omega
 small:=fun x hx=>by
  have:x.2.length≤(ps.map Prod.snd).flatten.length:=(List.sublist_flatten_of_mem (List.mem_map.2 ⟨x,hx,rfl⟩)).length_le
  rw [aA];omega
theorem Fu {n:Nat} {s:Sl} {ps:List (Sl×List Nat)} {K:Sl→World→Prop} (h:Hp E w F) (hs:ad F (eG s ps)) (hp:vz ps) (hn:0<n) (hn2:n≤65536) (hsm:(ps.map Prod.snd).flatten.length≤100000)
  (hK: ∀(pcs:List (Sl×List Nat)) (s':Sl) (w':World),pcs.map Prod.snd=bK n (ps.map Prod.snd)→(∀x∈pcs,x.1.len≤x.1.cap)→(∀w,eG s ps w→∀x∈pcs,aC 1 x.1 (x.2.map vB) w)→Hp E w' (aj 1 s' (pcs.map fun x=> .slice x.1.base x.1.len x.1.cap)::F)→K s' w'):
  Cl Tryz.prog [kS] nZ ⟨[.int .i64 (n:Int),.slice s.base s.len s.cap]⟩ w K:=by
 refine CS.ok _ _ _ _ ?_
 have hlen:ps.length=s.len:=by have:=(h.ag hs).tab.1;simpa using this
 have hfew:=hp.few
 rw [aA] at hfew
 have hcl:=ue hn (ps.map Prod.snd)
 refine ⟨fun o i w=> ∃(k:Nat) (pcs:List (Sl×List Nat)),i=(k:Int)∧k≤ps.length∧pcs.map Prod.snd++bK n ((ps.drop k).map Prod.snd)=bK n (ps.map Prod.snd)∧(∀x∈pcs,x.1.len≤x.1.cap)∧(∀w,eG s ps w→∀x∈pcs,aC 1 x.1 (x.2.map vB) w)∧
  Hp E w (aj 1 o (pcs.map fun x=> .slice x.1.base x.1.len x.1.cap)::F),fun _ i _=>ps.length - i.toNat,⟨0,[],rfl,by omega,rfl,by simp,by simp,h.bl 1⟩,?_⟩
 rintro o i w ⟨k,pcs,rfl,hk,hcut,hcap,hT,h⟩
 refine aa.dm (fun hlt=> ?_) (fun hge=> ?_)
 ·have hlt:k<ps.length:=by omega
  have hmem:ps[k]∈ps:=List.getElem_mem hlt
  have hc:=hp.caps _ hmem
  have hs1:=hp.small _ hmem
  rw [aA] at hs1
  rw [List.drop_eq_getElem_cons hlt,List.map_cons,xy] at hcut
  have hl1:ps[k].2.length=ps[k].1.len:=vD ((h.ag hs.cons).each _ hmem)
  refine ⟨fun o a w=> ∃(j:Nat) (pcs:List (Sl×List Nat)),a=(j:Int)∧j≤ps[k].2.length+65536∧pcs.map Prod.snd++(iI n (ps[k].2.drop j)++bK n ((ps.drop (k+1)).map Prod.snd))=bK n (ps.map Prod.snd)∧(∀x∈pcs,x.1.len≤x.1.cap)∧(∀w,eG s ps w→∀x∈pcs,aC 1 x.1 (x.2.map vB) w)∧
   Hp E w (aj 1 o (pcs.map fun x=> .slice x.1.base x.1.len x.1.cap)::F),fun _ a _=>ps[k].1.len - a.toNat,⟨0,pcs,rfl,by omega,hcut,hcap,hT,h⟩,?_⟩
  rintro o a w ⟨j,pcs,rfl,hj,hcut,hcap,hT,h⟩
  have hPW: ∀{w:World} {A:HP},Hp E w (A::F)→eG s ps w:=fun h=>h.ag hs.cons
  refine an.rd (hPW h).tab (by omega) (by omega) fun q _ hq=> ?_
  refine Ld.sc (s:= .sl) ps[k].1 (by rw [hq];simp [Sc.enc]) ?_
  refine aa.dm (fun hlt2=> ?_) (fun hge2=> ?_)
  ·have hlt2:j<ps[k].2.length:=by omega
   have h:=h.drew (n:=w.drawn+1)
   refine ⟨eG s ps,hPW h,?_⟩
   refine an.FB (sc:= .sl) (hPW h).tab (fun _ h=>h.tab) rfl (by simpa using hlt) ps[k].1 (by simp [Sc.enc,hlt]) ?_
   refine an.FB (sc:= .sl) (hPW h).tab (fun _ h=>h.tab) rfl (by simpa using hlt) ps[k].1 (by simp [Sc.enc,hlt]) ?_
   rw [ae (x:=(j:Int)+(n:Int)) (by omega)]
   have hhi:(if (ps[k].1.len:Int)<(j:Int)+(n:Int) then (ps[k].1.len:Int) else (j:Int)+(n:Int))=((min (j+n) ps[k].1.len:Nat):Int):=by split<;>omega
   rw [hhi]
   refine bf.EI ((hPW h).each _ hmem) (by omega) (by omega) (by omega) (by omega) (by omega) fun s' hs' hl' hsc=> ?_
   simp only [Int.toNat_natCast] at hs' hl'
   have hne:ps[k].2.drop j≠ []:=fun e=>by have:=congrArg List.length e;rw [List.length_drop] at this;simp at this;omega
   rw [kx hne hn,List.drop_drop] at hcut
   have etk:(((ps[k].2.map vB).drop j).take (min (j+n) ps[k].1.len - j))=((ps[k].2.drop j).take n).map vB:=by
    rw [←List.map_drop,←List.map_take]
    congr 1
    rcases Nat.le_total (j+n) ps[k].1.len with h1|h1
    ·rw [Nat.min_eq_left h1,show j+n - j=n by omega]
    ·rw [Nat.min_eq_right h1,List.take_of_length_le (by rw [List.length_drop];omega),List.take_of_length_le (by rw [List.length_drop];omega)]
   rw [etk] at hs'
   have hpl:=h.aV
   rw [List.length_map,Nat.mul_one] at hpl
   have hpc:pcs.length≤100000:=by
    have:=congrArg List.length hcut
    rw [List.length_append,List.length_map] at this
    omega
   refine Nw.mk h fun b23 w h=>⟨h.ag hs.cons.cons,?_⟩
   refine aI (ys:= [.slice s'.base s'.len s'.cap]) (n:=1) JZ (by decide) (.inl ⟨26,by kernel_rfl⟩) h.p1 (.inl ⟨some ⟨b23,0,none⟩,1,1,rfl,rfl,h.ag (ad.aG rfl rfl)⟩) rfl (by
    intro z hz
    rw [List.mem_singleton] at hz
    rw [hz];rfl) (by omega) (by omega) fun s2 w h _=>⟨h.ag hs.cons.cons,?_⟩
   refine ⟨⟨j+n,pcs++ [(s',(ps[k].2.drop j).take n)],by omega,by omega,?_,?_,?_,?_⟩,by first|omega|(dsimp only;omega)⟩
   ·rw [←hcut];simp
   ·intro x hx
    rcases List.mem_append.1 hx with hx|hx
    ·exact hcap x hx
    ·rw [List.mem_singleton] at hx;rw [hx];exact hsc
   ·intro w hw x hx
    rcases List.mem_append.1 hx with hx|hx
    ·exact hT w hw x hx
    ·rw [List.mem_singleton] at hx;rw [hx];exact hs' w (hw.each _ hmem)
   ·rw [List.map_append]
    exact h.p1.drop
  ·have e0:ps[k].2.drop j= []:=List.drop_of_length_le (by omega)
   rw [e0,jn,List.nil_append] at hcut
   rw [ae (by omega)]
   exact ⟨⟨k+1,pcs,rfl,by omega,hcut,hcap,hT,h⟩,by first|omega|(dsimp only;omega)⟩
 ·have hk2:k=ps.length:=by omega
  subst hk2
  rw [List.drop_of_length_le (Nat.le_refl _),List.map_nil,show bK n []= [] from rfl,List.append_nil] at hcut
  exact hK pcs o w hcut hcap hT h
end
end Go.Proofs.YtgglghjnakclmaaGreat
namespace Go.Vc
theorem bD.DX {r:World→Prop} {k:(World→Prop)→Prop} (Q:World→Prop) (h1: ∀w,Q w→r w) (h2: ∀r',(∀w,Q w→r' w)→k r'):bD r k:=h2 r h1
end Go.Vc
namespace Go.Pol
theorem ti: ∀(l:List Nat) (a x:Nat),cQ a (l++ [x])=cQ a l++ [(a+l.sum,x)]
 | [],a,x=>by simp [cQ]
 |k::l,a,x=>by
  rw [List.cons_append,cQ,cQ,ti l (a+k) x,List.cons_append,List.sum_cons,Nat.add_assoc]
end Go.Pol
namespace Go.Stm
theorem uH {n:Nat} (hn:0<n) (x:List Nat):(cj n x).1.length≤x.length:=by
 induction hk:x.length using Nat.strongRecOn generalizing x with
 |ind k ih=>
  rcases Nat.lt_or_ge x.length n with h|h
  ·rw [dh h];simp
  ·rw [fE hn h,List.length_cons]
   have:=ih (x.drop n).length (by rw [List.length_drop];omega) (x.drop n) rfl
   rw [List.length_drop] at this
   omega
end Go.Stm
namespace Go.Proofs.YtgglghjnakclmaaGreat
open Go Go.Vc Go.Srt Go.Inc Go.Hd Go.aS Go.af Go.Crc Go.Pol Go.Stm
set_option maxRecDepth 20000
theorem qI {n:Nat}: ∀(l:List (List Nat)),(∀x∈l,x.length=n∧∀c∈x,c<256)→0<n→n≤65536→(l.flatMap cS).length≤200000*l.length
 | [],_,_,_=>by simp
 |x::l,h,h1,h2=>by
  have hx:=h x List.mem_cons_self
  have ih:=qI l (fun y hy=>h y (List.mem_cons_of_mem _ hy)) h1 h2
  have hb:=eQ (x:=x) (by omega) hx.2 (by omega)
  rw [List.flatMap_cons,List.length_append,List.length_cons]
  unfold cS at ih⊢
  omega
def EC.new (n mode:Nat) (A:AS):EC:=⟨n,mode,A,[],[],false,false⟩
section
variable {E w:World} {F:List HP} {b:Nat} {C:EC} {sp:Sl} {f:Nat→Nat}
theorem pf {n budget:Int} {K:Option Addr→Int→World→Prop} (h:Hp E w F) (hbud:budget≤1000000∨1048576<budget)
  (hgood: ∀N B:Nat,n=(N:Int)→budget=(B:Int)→1≤N→N≤65536→1≤B→B≤1048576→bm B N 1≠0→∀b A w',Hp E w' (cq b (EC.new N (bm B N 1) A)::F)→K (some ⟨b,0,none⟩) 0 w')
  (hbad:(dg budget n 1).2≠0→∀w',Hp E w' F→K none ((dg budget n 1).2:Int) w'):
  Cl Tryz.prog [kP,kI] cX ⟨[.int .i64 n,.int .i64 budget]⟩ w K:=by
 refine Be.ok _ _ _ _ (KJ (side:=1) h (.inl rfl) fun w h=> ?_)
 by_cases hz:(dg budget n 1).2=0
 ·have hr:1≤n∧n≤65536∧1≤budget∧budget≤1048576∧bm budget.toNat n.toNat 1≠0∧(dg budget n 1).1=bm budget.toNat n.toNat 1:=by
   unfold dg at hz⊢
   split at hz
   ·cases hz
   ·rename_i h1
    rw [if_neg h1]
    split at hz
    ·cases hz
    ·rename_i h2
     rw [if_neg h2]
     exact ⟨by omega,by omega,by omega,by omega,h2,rfl⟩
  obtain ⟨r1,r2,r3,r4,r5,r6⟩:=hr
  obtain ⟨N,rfl⟩: ∃N:Nat,n=(N:Int):=⟨n.toNat,by omega⟩
  obtain ⟨B,rfl⟩: ∃B:Nat,budget=(B:Int):=⟨budget.toNat,by omega⟩
  rw [Int.toNat_natCast,Int.toNat_natCast] at r5 r6
  obtain ⟨p1,p2,p3⟩:=EB r5
  rw [r6]
  generalize hmode:bm B N 1=mode at p1 p2 p3
  refine aa.nf (by rw [hz];rfl) (Nw.mk h fun b7 w h=> ?_)
  refine IQ h (by omega) (by omega) fun a m w h=> ?_
  refine St.xs (b:=b7) h rfl rfl fun w h=> ?_
  dsimp only [ca,aJ] at h
  refine HO (side:=1) h (fun m' hm' hs s w h=> ?_) (fun hno=>absurd ⟨by omega,.inl rfl,p2,p3,by omega,by omega⟩ hno)
  obtain rfl:N=m':=by omega
  have hlen:=h.aV
  rw [List.length_map,Nat.mul_one,show (ints (layout N 1 mode)).length=(layout N 1 mode).length from List.length_map ..] at hlen
  have hll:(layout N 1 mode).length≤3:=by unfold layout;split<;>(try split)<;>(try split)<;>simp
  have hsum:(layout N 1 mode).sum≤B:=p1
  generalize hL:layout N 1 mode=l at h hlen hll hsum
  refine ⟨fun i w=> ∃(k:Nat) (sp:Sl),i=(k:Int)∧k≤l.length∧Hp E w (aj 2 sp ((cQ 0 (l.take k)).flatMap lC)::aj 1 s ((ints l).map vI)::af b7 (.cells ⟨[.int .i64 (N:Int),.int .i64 0,.int .u8 (mode:Int),.pointer (some ⟨a,0,none⟩),.slice sp.base sp.len sp.cap,.int .u32 0,.int .u32 0,.bool false,.bool false]⟩ 139 (0,0))::Ar ⟨a,m,B,(l.take k).sum,(l.take k).sum⟩ (fun _=>0)::F),fun i _=>l.length - i.toNat,⟨0,⟨none,0,0⟩,rfl,by omega,((h.at 2).at 1).bl 2⟩,?_⟩
  rintro i w ⟨k,sp,rfl,hk,h⟩
  refine aa.dm (fun hlt=> ?_) (fun hge=> ?_)
  ·have hlt:k<l.length:=by omega
   have hst:=z8 hlt
   have hle2:=oU l (k+1)
   refine an.rd (h.ag (ad.at 1 ad.own)) (by omega) (by omega) fun q _ hq=> ?_
   refine Ld.sc (s:= .int .i64) (l[k]:Int) (by rw [hq];simp [Sc.enc,vI,ints]) ?_
   refine Ld.xb (b:=b7) h rfl ?_
   refine Hq (A:=⟨a,m,B,(l.take k).sum,(l.take k).sum⟩) (h.at 3) (by dsimp only;omega) fun w h=> ?_
   refine Nw.mk h fun b26 w h=> ?_
   (with_reducible refine bj.xw h rfl rfl (fun w h=> ?_))
   have hmax:max (l.take k).sum ((l.take k).sum+l[k])=(l.take k).sum+l[k]:=by omega
   dsimp only at h⊢
   rw [hmax,←hst] at h
   have hsl:=aC.len jN (by decide) ((h.at 2).ag ad.own)
   have hpl:(cQ 0 (l.take k)).length≤3:=by
    have: ∀(l:List Nat) (a:Nat),(cQ a l).length=l.length:=fun l=>by
     induction l with
     |nil=>intro a;rfl
     |cons x l ih=>intro a;rw [cQ,List.length_cons,List.length_cons,ih]
    rw [this,List.length_take];omega
   refine bD.DX (fun w=> ∃sp',Hp E w (aj 2 sp' ((cQ 0 (l.take (k+1))).flatMap lC)::aj 1 s ((ints l).map vI)::af b7 (.cells ⟨[.int .i64 (N:Int),.int .i64 0,.int .u8 (mode:Int),.pointer (some ⟨a,0,none⟩),.slice sp'.base sp'.len sp'.cap,.int .u32 0,.int .u32 0,.bool false,.bool false]⟩ 139 (0,0))::Ar ⟨a,m,B,(l.take (k+1)).sum,(l.take (k+1)).sum⟩ (fun _=>0)::F)) ?_ fun r' hr'=> ?_
   ·rintro w ⟨sp',h⟩
    rw [ae (by omega)]
    exact ⟨⟨k+1,sp',by omega,by omega,h⟩,by first|omega|(dsimp only;omega)⟩
   ·refine aK.mk h fun w h=> ?_
    refine Ld.xt (b:=b26) h rfl ?_
    have e:(cQ 0 (l.take k)).flatMap lC++lC ((l.take k).sum,l[k])=(cQ 0 (l.take (k+1))).flatMap lC:=by
     rw [List.take_add_one,List.getElem?_eq_getElem hlt,Option.toList_some,ti,List.flatMap_append,Nat.zero_add];simp
    have go: ∀(b':Nat) (w:World),Hp E w (af b' (.cells ⟨[.int .i64 ((l.take k).sum:Int),.int .i64 (l[k]:Int)]⟩ 146 (0,0))::af b26 (.cells ⟨[.int .i64 ((l.take k).sum:Int),.int .i64 (l[k]:Int)]⟩ 146 (0,0))::Ar ⟨a,m,B,(l.take (k+1)).sum,(l.take (k+1)).sum⟩ (fun _=>0)::aj 2 sp ((cQ 0 (l.take k)).flatMap lC)::aj 1 s ((ints l).map vI)::af b7 (.cells ⟨[.int .i64 (N:Int),.int .i64 0,.int .u8 (mode:Int),.pointer (some ⟨a,0,none⟩),.slice sp.base sp.len sp.cap,.int .u32 0,.int .u32 0,.bool false,.bool false]⟩ 139 (0,0))::F)→
      au Tryz.prog (Builtin.append_ #[137,137] 137 ⟨[.slice sp.base sp.len sp.cap,.slice (some ⟨b',0,none⟩) 1 1]⟩) kS w fun s35 w_34=>St ((⟨b7,0,none⟩:Addr).add 4) (.slice s35.base s35.len s35.cap) w_34 fun w_36=>r' w_36:=fun b' w h=>by
     refine aI (s:=sp) (ys:=lC ((l.take k).sum,l[k])) (n:=1) (.of (by kernel_rfl) (by kernel_rfl):bJ Tryz.prog 137 146 2 16) (by decide) (.inl ⟨146,by kernel_rfl⟩) (h.at 3) (.inl ⟨some ⟨b',0,none⟩,1,1,rfl,rfl,h.ag (ad.aG rfl rfl)⟩) rfl (by intro y hy;simp [lC] at hy;rcases hy with rfl|rfl<;>rfl) (by omega) (by omega) fun s' w h _=> ?_
     rw [e] at h
     refine St.xs (b:=b7) h rfl rfl fun w h=>hr' w ⟨s',?_⟩
     dsimp only [ca,aJ] at h
     have h:=(h.no 1).no 1
     exact (((h.at 1).at 3).at 3).at 3
    exact ⟨Ld.xb (b:=b7) (x:=sp) h rfl (Nw.mk h fun b33 w h=>go b33 w h),Nw.mk h fun b38 w h=>Ld.xb (b:=b7) (x:=sp) h rfl (go b38 w h)⟩
  ·have hk2:k=l.length:=by omega
   subst hk2
   rw [List.take_of_length_le (Nat.le_refl _)] at h
   refine hgood N B rfl rfl (by omega) (by omega) (by omega) (by omega) r5 b7 ⟨a,m,B,l.sum,l.sum⟩ w ?_
   refine cq.shut (C:=EC.new N (bm B N 1) ⟨a,m,B,l.sum,l.sum⟩) (sp:=sp) (f:=fun _=>0) ⟨⟨by show 1≤N;omega,by show N≤65536;omega,by show 1≤bm B N 1;omega,by show bm B N 1≤3;omega,?_,Nat.zero_le _,fun _ hx=>(by cases hx),fun _ hx=>(by cases hx)⟩,by show 0<N;omega,rfl,rfl⟩ ?_
   ·show cd N 1 (bm B N 1)=l.sum
    rw [hmode];unfold cd;rw [hL]
   ·have h:=h.no 1
    have e:dk (EC.new N (bm B N 1) ⟨a,m,B,l.sum,l.sum⟩).n (EC.new N (bm B N 1) ⟨a,m,B,l.sum,l.sum⟩).mode=cQ 0 l:=by
     show cQ 0 (layout N 1 (bm B N 1))=_
     rw [hmode,hL]
    have h:=h.at 1
    show Hp E w (fG b7 (EC.new N (bm B N 1) ⟨a,m,B,l.sum,l.sum⟩) sp::gz (EC.new N (bm B N 1) ⟨a,m,B,l.sum,l.sum⟩) sp::Ar ⟨a,m,B,l.sum,l.sum⟩ (fun _=>0)::F)
    unfold gz
    rw [e]
    have e2:Crc.cN []=0:=by decide
    show Hp E w (af b7 (.cells ⟨[.int .i64 (N:Int),.int .i64 0,.int .u8 (bm B N 1:Int),.pointer (some ⟨a,0,none⟩),.slice sp.base sp.len sp.cap,.int .u32 (Crc.cN []:Int),.int .u32 (Crc.cN []:Int),.bool false,.bool false]⟩ 139 (0,0))::aj 2 sp ((cQ 0 l).flatMap lC)::Ar ⟨a,m,B,l.sum,l.sum⟩ (fun _=>0)::F)
    rw [e2,hmode]
    exact h
 ·exact aa.nt (by omega) (hbad hz w h)
def EC.aL (C:EC) (x:List Nat) (j:Nat):EC:={C with held:=(cj C.n (C.held++x.take j)).2,all:=C.all++x,begun:=true}
noncomputable def EC.ky (C:EC) (x:List Nat) (j:Nat):List Nat:=C.hd++(cj C.n (C.held++x.take j)).1.flatMap cS
theorem Hk (C:EC) (x:List Nat) (h:C.held.length<C.n):C.aL x 0={C with all:=C.all++x,begun:=true}∧C.ky x 0=C.hd:=by
 unfold EC.aL EC.ky
 rw [List.take_zero,List.append_nil,dh h]
 simp
theorem I2 (C:EC) (x:List Nat):C.aL x x.length=C.wr x∧C.ky x x.length=C.mc x:=by
 unfold EC.aL EC.ky EC.wr EC.mc
 rw [List.take_length]
 exact ⟨rfl,rfl⟩
theorem GY (C:EC) (x:List Nat) (j k:Nat) (hn:0<C.n) (h:((C.aL x j).held++(x.drop j).take k).length≤C.n):
  C.aL x (j+k)={C.aL x j with held:=if ((C.aL x j).held++(x.drop j).take k).length=C.n then [] else (C.aL x j).held++(x.drop j).take k}∧
  C.ky x (j+k)=C.ky x j++if ((C.aL x j).held++(x.drop j).take k).length=C.n then cS ((C.aL x j).held++(x.drop j).take k) else []:=by
 have e:C.held++x.take (j+k)=(C.held++x.take j)++(x.drop j).take k:=by rw [List.append_assoc,List.take_add]
 have hm:(C.aL x j).held=(cj C.n (C.held++x.take j)).2:=rfl
 rw [hm] at h
 unfold EC.aL EC.ky
 rw [e,z7 hn]
 dsimp only
 generalize (cj C.n (C.held++x.take j)).2++(x.drop j).take k=y at h⊢
 by_cases hy:y.length=C.n
 ·rw [if_pos hy,if_pos hy,fE hn (by omega),List.take_of_length_le (by omega),List.drop_of_length_le (by omega),dh (by simpa using hn)]
  exact ⟨rfl,by simp⟩
 ·rw [if_neg hy,if_neg hy,dh (by omega)]
  exact ⟨rfl,by simp⟩
theorem I5 {G:List HP} {b':Nat} {s58:Sl} {y H:List Nat} {v0 v1 v2 v3 v4 v6 v7 v8:Value} {t1 t2:TypeId} {r:World→Prop} (h:Hp E w (af b' (.cells ⟨[.slice s58.base s58.len s58.cap]⟩ t1 (0,0))::af b (.cells ⟨[v0,v1,v2,v3,v4,.int .u32 (cN H:Int),v6,v7,v8]⟩ t2 (0,0))::G))
  (hs:ad G (aC 1 s58 (y.map vB))) (hH: ∀x∈H,x<256) (hy: ∀x∈y,x<256) (hl:y.length≤100000) (hK: ∀w',Hp E w' (af b (.cells ⟨[v0,v1,v2,v3,v4,.int .u32 (cN (H++y):Int),v6,v7,v8]⟩ t2 (0,0))::G)→r w'):
  Cl Tryz.prog [aq .u32] fM ⟨[.int .u32 (cN H:Int),.slice (some ⟨b',0,none⟩) 1 1]⟩ w fun r63 w=>St ⟨b,5,none⟩ (.int .u32 r63) w fun w=>r w:=by
 refine BT (s:=⟨some ⟨b',0,none⟩,1,1⟩) (cs:= [s58]) (bs:= [y]) h (pH hH) (ad.aG rfl rfl) rfl (by rw [aA];simp) (fun i hi=>by simp at hi;subst hi;exact hs.cons.cons) (fun b hb=>by rw [List.mem_singleton] at hb;subst hb;exact hy) (fun b hb=>by rw [List.mem_singleton] at hb;subst hb;rw [aA];omega) fun w h=> ?_
 rw [List.flatten_cons,List.flatten_nil,List.append_nil,B5]
 refine St.xs (b:=b) h rfl rfl fun w h=>hK w ?_
 dsimp only [ca,aJ] at h
 exact h.no 0
theorem AN {sl:Sl} {x:List Nat} {K:Sl→Int→World→Prop} (hcl:C.closed=false) (h:Hp E w (cq b C::F)) (hs:ad F (aC 1 sl (x.map vB))) (hx: ∀y∈x,y<256) (hbig:x.length≤100000) (hcap:sl.len≤sl.cap)
  (hK: ∀s w',Hp E w' (aj 1 s ((C.mc x).map vB)::cq b (C.wr x)::F)→K s 0 w'):
  Cl Tryz.prog [kS,kI] bO ⟨[pE b,.slice sl.base sl.len sl.cap]⟩ w K:=by
 obtain ⟨sp,f,ok,h⟩:=(sf h)
 refine jB.ok _ _ _ _ (B8 ok.ok hcl h fun s w h=> ?_)
 have hn1:=ok.ok.n1
 have hn2:=ok.ok.n2
 have hhd:=pI C hn2
 have hlx:x.length=sl.len:=by have:=(h.ag hs.cons.cons.cons.cons).1;simpa using this
 (try simp only [ak,al,Nat.zero_add,Nat.add_zero,Nat.reduceAdd,Bool.not_true,Bool.not_false,aF,aE,Option.isNone])
 refine Ld.xb (b:=b) (x:=(cN C.all:Int)) h rfl (Nw.mk h fun b9 w h=> ?_)
 refine BT (cs:= [sl]) (bs:= [x]) h (pH ok.ok.ab) (ad.aG rfl rfl) rfl (by rw [aA];simp) (fun i hi=>by simp at hi;subst hi;exact hs.cons.cons.cons.cons.cons) (fun b hb=>by rw [List.mem_singleton] at hb;subst hb;exact hx) (fun b hb=>by rw [List.mem_singleton] at hb;subst hb;rw [aA];omega) fun w h=> ?_
 rw [List.flatten_cons,List.flatten_nil,List.append_nil,B5]
 refine St.xs (b:=b) h rfl rfl fun w h=> ?_
 dsimp only [ca,aJ] at h
 have h:=h.no 0
 have hab: ∀y∈C.all++x,y<256:=fun y hy=>(List.mem_append.1 hy).elim (ok.ok.ab y) (hx y)
 have okj: ∀j,jU (C.aL x j)∧(C.aL x j).held.length<C.n:=fun j=>by
  have hm:=qJ (n:=C.n) (by omega) (C.held++x.take j)
  have hl:=Cc (n:=C.n) (by omega) (C.held++x.take j)
  have hb: ∀y∈C.held++x.take j,y<256:=fun y hy=>(List.mem_append.1 hy).elim (ok.ok.hb y) fun h=>hx y (List.mem_of_mem_take h)
  exact ⟨⟨ok.ok.n1,ok.ok.n2,ok.ok.m1,ok.ok.m3,ok.ok.live,Nat.le_of_lt hl,fun y hy=>hb y (hm.2 y hy),hab⟩,hl⟩
 have tj: ∀j,(C.ky x j).length≤50000000000:=fun j=>by
  have hm:=qJ (n:=C.n) (by omega) (C.held++x.take j)
  have hb: ∀y∈C.held++x.take j,y<256:=fun y hy=>(List.mem_append.1 hy).elim (ok.ok.hb y) fun h=>hx y (List.mem_of_mem_take h)
  have h1:=qI (n:=C.n) (cj C.n (C.held++x.take j)).1 (fun y hy=>⟨(hm.1 y hy).1,fun c hc=>hb c ((hm.1 y hy).2 c hc)⟩) (by omega) hn2
  have h2:=uH (n:=C.n) (by omega) (C.held++x.take j)
  have hlt:=ok.lt
  rw [List.length_append,List.length_take] at h2
  unfold EC.ky
  rw [List.length_append]
  omega
 obtain ⟨z1,z2⟩:=Hk C x ok.lt
 refine ⟨fun bs ts w=> ∃(j:Nat) (g:Nat→Nat),j≤x.length∧ad F (aC 1 bs ((x.drop j).map vB))∧bs.len≤bs.cap∧a9 g 0 (C.aL x j).held.length=(C.aL x j).held∧Hp E w (aj 1 ts ((C.ky x j).map vB)::fG b (C.aL x j) sp::gz C sp::Ar C.A g::F),fun bs _ _=>bs.len,⟨0,f,Nat.zero_le _,hs,hcap,?_,?_⟩,?_⟩
 ·rw [z1];exact ok.row
 ·rw [z2]
  rw [z1]
  exact h
 rintro bs ts w ⟨j,g,hj,hbs,hbc,hrow,h⟩
 obtain ⟨okJ,hltJ⟩:=okj j
 have hbl:(x.drop j).length=bs.len:=by have:=(h.ag hbs.cons.cons.cons.cons).1;simpa using this
 have hbl2:=hbl
 rw [List.length_drop] at hbl2
 refine aa.dm (fun hp=> ?_) (fun hz=> ?_)
 ·have hp:0<bs.len:=by omega
  have htl:=tj j
  have h:=h.at 1
  refine aK.mk h fun w h=> ?_
  (try simp only [ak,al,Nat.zero_add,Nat.add_zero,Nat.reduceAdd,Bool.not_true,Bool.not_false,aF,aE,Option.isNone])
  refine Ld.xb (b:=b) h rfl (Ld.xb (b:=b) h rfl ?_)
  obtain ⟨k,hk⟩: ∃k:Nat,(if i64 ((C.n:Int) - ((C.aL x j).held.length:Int))<((bs.len:Int)) then i64 ((C.n:Int) - ((C.aL x j).held.length:Int)) else ((bs.len:Int)))=(k:Int)∧1≤k∧k≤bs.len∧(C.aL x j).held.length+k≤C.n:=by
   rw [ae (by omega)]
   split
   ·exact ⟨C.n - (C.aL x j).held.length,by omega,by omega,by omega,by omega⟩
   ·exact ⟨bs.len,rfl,by omega,by omega,by omega⟩
  obtain ⟨hk,hk1,hk2,hk3⟩:=hk
  have hnn:((C.aL x j).n:Int)=(C.n:Int):=rfl
  rw [hnn]
  rw [hk]
  refine aK.mk h fun w h=> ?_
  (try simp only [ak,al,Nat.zero_add,Nat.add_zero,Nat.reduceAdd,Bool.not_true,Bool.not_false,aF,aE,Option.isNone])
  obtain ⟨h0,e0⟩:=yY (n:=C.n) (mode:=C.mode)
  refine Ld.xb (b:=b) h rfl (Ld.xb (b:=b) (x:=sp) h rfl ?_)
  refine En (i:=0) h (ad.at 2 ad.own) h0 ?_
  rw [e0]
  refine Ld.xb (b:=b) h rfl ?_
  refine bf.EI (h.ag hbs.cons.cons.cons.cons) (by omega) (by omega) (by omega) (by omega) (by omega) fun s52 hs52 hl52 hc52=> ?_
  rw [Int.toNat_zero,Int.toNat_natCast,Nat.sub_zero,List.drop_zero] at hs52
  rw [Int.toNat_zero,Int.toNat_natCast,Nat.sub_zero] at hl52
  have hpl:((x.drop j).take k).length=k:=by rw [List.length_take];omega
  have hpb: ∀y∈(x.drop j).take k,y<256:=fun y hy=>hx y (List.mem_of_mem_drop (List.mem_of_mem_take hy))
  have ts52:ad F (aC 1 s52 (((x.drop j).take k).map vB)):=hbs.imp fun w' hw=>by rw [List.map_take];exact hs52 w' hw
  have hlive:=ok.ok.yM
  refine Eg (A:=C.A) (p:=0) (q:=C.n) (h.at 3) (by omega) (by rw [hpl];exact hk3) ts52.cons.cons.cons hpb fun w h=> ?_
  have hrow2:a9 (eD g (0+(C.aL x j).held.length) ((x.drop j).take k)) 0 ((C.aL x j).held.length+k)=(C.aL x j).held++(x.drop j).take k:=by
   apply List.ext_getElem
   ·rw [bP,List.length_append,hpl]
   ·intro i hi1 hi2
    rw [bP] at hi1
    rw [ed hi1]
    rcases Nat.lt_or_ge i (C.aL x j).held.length with hlt|hge
    ·rw [fJ (by omega),List.getElem_append_left hlt]
     have:=ed (f:=g) (p:=0) hlt
     rw [←this]
     congr 1
    ·rw [show 0+i=(0+(C.aL x j).held.length)+(i - (C.aL x j).held.length) by omega,jO (by omega),List.getElem_append_right hge,List.getD_eq_getElem?_getD,List.getElem?_eq_getElem (by omega)]
     rfl
  have hnx:=GY C x j k (by omega) (by rw [List.length_append,hpl];exact hk3)
  have hln:((C.aL x j).held++(x.drop j).take k).length=(C.aL x j).held.length+k:=by rw [List.length_append,hpl]
  rw [hln] at hnx
  generalize hG:eD g (0+(C.aL x j).held.length) ((x.drop j).take k)=g2 at h hrow2
  have hcut: ∀(w':World) (P:Sl→Prop),aC 1 bs ((x.drop j).map vB) w'→(∀s93:Sl,ad F (aC 1 s93 ((x.drop (j+k)).map vB))→s93.len=bs.len - k→s93.len≤s93.cap→P s93)→bf bs (k:Int) (bs.len:Int) (bs.cap:Int) 1 P:=fun w' P hw hP=>by
   refine bf.EI hw (by omega) (by omega) (by omega) (by omega) (by omega) fun s93 hs93 hl93 hc93=>hP s93 (hbs.imp fun w2 hw2=> ?_) (by omega) hc93
   have:=hs93 w2 hw2
   rw [Int.toNat_natCast,Int.toNat_natCast,←List.map_drop,List.drop_drop,←List.map_take,List.take_of_length_le (by rw [List.length_drop];omega)] at this
   exact this
  have h:=(Dc h)
  refine bD.DX (fun w=>Hp E w (af b (.cells ⟨[.int .i64 (C.n:Int),.int .i64 ((C.aL x j).held.length:Int),.int .u8 (C.mode:Int),pA C.A,.slice sp.base sp.len sp.cap,.int .u32 (cN ((C.aL x j).held++(x.drop j).take k):Int),.int .u32 (cN (C.all++x):Int),.bool true,.bool C.closed]⟩ 139 (0,0))::aj 1 ts ((C.ky x j).map vB)::gz C sp::Ar C.A g2::F)) ?_ fun r' hr'=> ?_
  ·intro w h
   have h:Hp E w (af b (.cells ⟨[.int .i64 (C.n:Int),.int .i64 ((C.aL x j).held.length:Int),.int .u8 (C.mode:Int),pA C.A,.slice sp.base sp.len sp.cap,.int .u32 (cN ((C.aL x j).held++(x.drop j).take k):Int),.int .u32 (cN (C.all++x):Int),.bool true,.bool C.closed]⟩ 139 (0,0))::aj 1 ts ((C.ky x j).map vB)::gz C sp::Ar C.A g2::F):=h
   refine Ld.xb (b:=b) h rfl ?_
   rw [ae (by omega)]
   refine St.xs (b:=b) h rfl rfl fun w h=> ?_
   dsimp only [ca,aJ] at h
   rw [show ((C.aL x j).held.length:Int)+(k:Int)=(((C.aL x j).held++(x.drop j).take k).length:Int) by rw [hln];omega] at h
   refine aK.mk h fun w h=> ?_
   refine Ld.xb (b:=b) (x:=(((C.aL x j).held++(x.drop j).take k).length:Int)) h rfl (Ld.xb (b:=b) (x:=(C.n:Int)) h rfl ?_)
   refine aa.em (fun hfull=> ?_) (fun hnot=> ?_)
   ·have hfull:(C.aL x j).held.length+k=C.n:=by rw [hln] at hfull;omega
    rw [if_pos hfull,if_pos hfull] at hnx
    have okY:jU {C.aL x j with held:=(C.aL x j).held++(x.drop j).take k}:=⟨ok.ok.n1,ok.ok.n2,ok.ok.m1,ok.ok.m3,ok.ok.live,by dsimp only;rw [hln];exact Nat.le_of_eq hfull,fun y hy=>(List.mem_append.1 hy).elim (okJ.hb y) (hpb y),hab⟩
    have hbs2:=eQ (x:=(C.aL x j).held++(x.drop j).take k) (by rw [hln];omega) okY.hb (by rw [hln];omega)
    refine H5 (C:={C.aL x j with held:=(C.aL x j).held++(x.drop j).take k}) (sp:=sp) (f:=g2) okY (by dsimp only;rw [hln];omega) (Dc (h.at 1)) (by dsimp only;rw [hln];exact hrow2) fun s90 g3 w h=> ?_
    have h:=h.at 4
    have l1:=(h.at 1).aV
    have l2:=h.aV
    rw [List.length_map,Nat.mul_one] at l1 l2
    have l1:s90.len=(cS ((C.aL x j).held++(x.drop j).take k)).length:=l1.symm
    refine aI (s:=ts) (n:=s90.len) lS (by decide) (.inl ⟨5,by kernel_rfl⟩) h (.inl ⟨s90.base,s90.len,s90.cap,rfl,rfl,h.ag (ad.at 1 ad.own)⟩) (by rw [List.length_map,Nat.mul_one,l1]) dW (by unfold cS at l1;omega) (by unfold cS at l1;omega) fun s92 w h _=> ?_
    have h:=h.no 1
    refine hcut w _ (h.ag hbs.cons.cons.cons.cons) fun s93 ht93 hl93 hc93=> ?_
    rw [←List.map_append] at h
    refine ⟨⟨j+k,g3,by omega,ht93,hc93,?_,?_⟩,by omega⟩
    ·rw [hnx.1];rfl
    ·rw [hnx.1,hnx.2];exact h
   ·have hnot: ¬(C.aL x j).held.length+k=C.n:=by rw [hln] at hnot;omega
    rw [if_neg hnot,if_neg hnot,List.append_nil] at hnx
    refine hcut w _ (h.ag hbs.cons.cons.cons.cons) fun s93 ht93 hl93 hc93=> ?_
    refine ⟨⟨j+k,g2,by omega,ht93,hc93,?_,?_⟩,by omega⟩
    ·rw [hnx.1];dsimp only;rw [hln];exact hrow2
    ·rw [hnx.1,hnx.2];exact h.at 1
  ·refine aK.mk h fun w h=> ?_
   refine bf.EI (h.ag hbs.cons.cons.cons.cons) (by omega) (by omega) (by omega) (by omega) (by omega) fun s58 hs58 hl58 hc58=> ?_
   rw [Int.toNat_zero,Int.toNat_natCast,Nat.sub_zero,List.drop_zero] at hs58
   have ts58:ad F (aC 1 s58 (((x.drop j).take k).map vB)):=hbs.imp fun w' hw=>by rw [List.map_take];exact hs58 w' hw
   have feed: ∀(b':Nat) (w:World),Hp E w (af b' (.cells ⟨[.slice s58.base s58.len s58.cap]⟩ 26 (0,0))::fG b (C.aL x j) sp::aj 1 ts ((C.ky x j).map vB)::gz C sp::Ar C.A g2::F)→
     Cl Tryz.prog [aq .u32] fM ⟨[.int .u32 (cN (C.aL x j).held:Int),.slice (some ⟨b',0,none⟩) 1 1]⟩ w fun r63 w_62=>St ⟨b,5,none⟩ (.int .u32 r63) w_62 fun w_65=>r' w_65:=fun b' w h=>
    I5 h ts58.cons.cons.cons okJ.hb hpb (by omega) fun w h=>hr' w h
   exact ⟨Ld.xb (b:=b) (x:=(cN (C.aL x j).held:Int)) h rfl (Nw.mk h fun b61 w h=>feed b61 w h),Nw.mk h fun b67 w h=>Ld.xb (b:=b) (x:=(cN (C.aL x j).held:Int)) h rfl (feed b67 w h)⟩
 ·have hj2:j=x.length:=by omega
  subst hj2
  obtain ⟨a1,a2⟩:=I2 C x
  rw [a1] at okJ hltJ hrow h
  rw [a2] at h
  refine hK ts w ?_
  exact cq.za (C:=C.wr x) (f:=g) ⟨okJ,hltJ,hrow,ok.peak⟩ h
end
end Go.Proofs.YtgglghjnakclmaaGreat
namespace Go.Proofs.YtgglghjnakclmaaGreat
open Go Go.Vc
set_option maxRecDepth 100000
theorem zQ.ok (a:Sl) (R:Sl→Int→World→Prop) w (h:
 Cl Pg [kS] kK ⟨[(ah a)]⟩ w fun (c:Sl) b=>
 Cl Pg [kS,kI] mT ⟨[(ah c)]⟩ b fun (e:Sl) (f:Int) d=>
 R e f d):Cl Pg [kS,kI] il ⟨[(ah a)]⟩ w R:=co Tryz.f27 [] h
theorem Dv.ok (a:Int) (b:Sl) (R:Sl→Int→World→Prop) w (h:
 Cl Pg [kS,kI] il ⟨[(ah b)]⟩ w fun (d:Sl) (e:Int) c=>
 Nw 26 ⟨[(ah b)]⟩ c fun g f=>
 Cl Pg [(aq .u32)] mz ⟨[(ah (⟨some ⟨g,0,none⟩,1,1⟩:Sl))]⟩ f fun (i:Int) h=>
 Cl Pg [kS,kI] jv ⟨[(ni a),(.agg ⟨[(ni (b.len:Int)),(ni e),(.int .u32 i)]⟩)]⟩ h fun (k:Sl) (l:Int) j=>
 aa (l !=0)
 (R (⟨none,0,0⟩:Sl) 2 j)
 (Cl Pg [(.arr 258)] jT ⟨[(ah b)]⟩ j fun n m=>
 Nw 104 ⟨List.replicate 258 (.int .u8 0)⟩ m fun p o=>
 ax 258 ⟨p,0,none⟩ n o fun q=>
 Ld (.arr 258) ⟨p,0,none⟩ q fun r=>
 Cl Pg [kS,kI] qj ⟨[(.agg r)]⟩ q fun (t:Sl) (u:Int) s=>
 gm s fun v x=>
 aH (.arr 258) ⟨p,0,none⟩ v fun y=>
 Cl Pg [kS] gw ⟨[(ah b)]⟩ x fun (a1:Sl) z=>
 v z∧
 Cl Pg [kS,kB] nK ⟨[(.agg y),(ah a1)]⟩ z fun (c1:Sl) (d1:Bool) b1=>
 v b1∧
 au Pg (Builtin.append_ #[142,142] 142 ⟨[(ah t),(ah c1)]⟩) kS b1 fun (f1:Sl) e1=>
 Cl Pg [kS] lO ⟨[(ah f1)]⟩ e1 fun (h1:Sl) g1=>
 au Pg (Builtin.append_ #[26,26] 26 ⟨[(ah k),(ah h1)]⟩) kS g1 fun (j1:Sl) i1=>
 R j1 0 i1)):Cl Pg [kS,kI] nA ⟨[(ni a),(ah b)]⟩ w R:=co Tryz.f78 [] h
theorem yq.ok (a:Sl) (R:(Array Value)→World→Prop) w (h:
 Nw 104 ⟨List.replicate 258 (.int .u8 0)⟩ w fun c b=>
 Cl Pg [kS] gw ⟨[(ah a)]⟩ b fun (e:Sl) d=>
 Cl Pg [(.arr 258),kI] p7 ⟨[(ah e)]⟩ d fun g (h:Int) f=>
 Nw 215 ⟨List.replicate 258 (ni 0)⟩ f fun j i=>
 ax 258 ⟨j,0,none⟩ g i fun k=>
 Ld (.arr 258) ⟨j,0,none⟩ k fun l=>
 Cl Pg [(.arr 258),kI] gG ⟨[(.agg l),(ni 15)]⟩ k fun n (o:Int) m=>
 Nw 104 ⟨List.replicate 258 (.int .u8 0)⟩ m fun q p=>
 ax 258 ⟨q,0,none⟩ n p fun r=>
 Ld (.arr 258) ⟨q,0,none⟩ r fun s=>
 ax 258 ⟨c,0,none⟩ s r fun t=>
 Ld (.arr 258) ⟨c,0,none⟩ t fun u=>
 R u t):Cl Pg [(.arr 258)] jT ⟨[(ah a)]⟩ w R:=co Tryz.f126 [] h
theorem yF.ok (a:Sl) (R:Sl→World→Prop) w (h:
 Cl Pg [kS,kI] il ⟨[(ah a)]⟩ w fun (c:Sl) (d:Int) b=>
 Cl Pg [kS] oT ⟨[(ah c)]⟩ b fun (f:Sl) e=>
 R f e):Cl Pg [kS] gw ⟨[(ah a)]⟩ w R:=co Tryz.f129 [] h
end Go.Proofs.YtgglghjnakclmaaGreat
set_option maxRecDepth 20000
namespace Go.Vc
open Go
set_option linter.unusedSectionVars false
def gQ (x y:Int×Int):Bool:=decide (x.1<y.1)||(decide (x.1=y.1)&&decide (x.2<y.2))
theorem iw {x y:Int×Int}:gQ x y=true↔x.1<y.1∨(x.1=y.1∧x.2<y.2):=by simp [gQ]
def kc (xs:List (Int×Int)):List (Int×Int):=xs.mergeSort fun x y=> !gQ y x
section
variable {E w:World} {F:List HP}
theorem Ef (xs:List (Int×Int)):(kc xs).length=xs.length:=List.length_mergeSort ..
end
end Go.Vc
set_option maxRecDepth 20000
namespace Go.Hs
open Go Go.Vc
theorem ij (xs:List (Int×Int)):(kc xs).Perm xs:=List.mergeSort_perm ..
theorem rq (xs:List (Int×Int)):(kc xs).Pairwise fun a b=>gQ b a=false:=by
 have h:=List.pairwise_mergeSort (le:=fun x y:Int×Int=> !gQ y x) (fun a b c h1 h2=>by
   simp only [Bool.not_eq_true',Bool.eq_false_iff,ne_eq,iw] at*;omega) (fun a b=>by
   simp only [Bool.or_eq_true,Bool.not_eq_true',Bool.eq_false_iff,ne_eq,iw];omega) xs
 exact h.imp fun {a b} h=>by simpa using h
theorem xQ {a b:Int×Int} (h:a≠b) (h2:gQ b a=false):gQ a b=true:=by
 rw [iw]
 rw [Bool.eq_false_iff,ne_eq,iw] at h2
 have: ¬(a.1=b.1∧a.2=b.2):=fun e=>h (Prod.ext e.1 e.2)
 omega
theorem Aj {xs:List (Int×Int)} (hn:xs.Nodup):(kc xs).Pairwise fun a b=>gQ a b=true:=by
 have h1:=rq xs
 have h2:(kc xs).Nodup:=(ij xs).nodup_iff.2 hn
 exact (h1.and h2).imp fun {a b} h=>xQ h.2 h.1
theorem xk (a:Int×Int):gQ a a=false:=by rw [Bool.eq_false_iff,ne_eq,iw];omega
theorem HI {a b:Int×Int} (h:gQ a b=true):gQ b a=false:=by rw [Bool.eq_false_iff,ne_eq,iw];rw [iw] at h;omega
theorem kv: ∀{S:List (Int×Int)},S.Pairwise (fun a b=>gQ a b=true)→∀(j:Nat) (hj:j<S.length),S.countP (fun x=>gQ x S[j])=j
 | [],_,j,hj=>by simp at hj
 |a::S,h,0,_=>by
  rw [List.pairwise_cons] at h
  rw [List.countP_cons,List.getElem_cons_zero,xk,List.countP_eq_zero.2 fun x hx=>by rw [HI (h.1 x hx)];decide]
  rfl
 |a::S,h,j+1,hj=>by
  rw [List.pairwise_cons] at h
  have hj':j<S.length:=by simpa using hj
  rw [List.countP_cons,List.getElem_cons_succ,kv h.2 j hj',h.1 _ (List.getElem_mem hj')]
  rfl
theorem wW {S:List (Int×Int)} (h:S.Pairwise (fun a b=>gQ a b=true)) {x:Int×Int} (hx:x∈S): ∃hj:S.countP (fun y=>gQ y x)<S.length,S[S.countP (fun y=>gQ y x)]=x:=by
 obtain ⟨j,hj,rfl⟩:=List.getElem_of_mem hx
 have:=kv h j hj
 exact ⟨by omega,by simp only [this]⟩
def fi {α:Type} [DecidableEq α] (acc:List α) (t:α):List α:=if t∈acc then acc else acc++ [t]
def fZ {α:Type} [DecidableEq α] (l:List α):List α:=l.foldl fi []
theorem J2 {α:Type} [DecidableEq α] {acc:List α} {t x:α}:x∈fi acc t↔x∈acc∨x=t:=by
 unfold fi
 split
 ·rename_i h
  constructor
  ·exact .inl
  ·rintro (h1|rfl)
   ·exact h1
   ·exact h
 ·simp
theorem BD {α:Type} [DecidableEq α] (l:List α) (t:α):fZ (l++ [t])=fi (fZ l) t:=by simp [fZ]
theorem rz {α:Type} [DecidableEq α]: ∀(l acc:List α) (x:α),x∈l.foldl fi acc↔x∈acc∨x∈l
 | [],acc,x=>by simp
 |t::l,acc,x=>by
  rw [List.foldl_cons,rz l,J2,List.mem_cons,or_assoc]
theorem qN {α:Type} [DecidableEq α] {l:List α} {x:α}:x∈fZ l↔x∈l:=by
 rw [fZ,rz];simp
end Go.Hs
set_option maxRecDepth 20000
namespace Go.Bw
open Go Go.Vc Go.Rk Go.Hs
theorem KE:SO gQ:=⟨xk,fun a b c h1 h2=>by rw [iw] at*;omega,fun a b c h1 h2=>by
 rw [Bool.eq_false_iff] at*;simp only [ne_eq,iw] at*;omega⟩
def dd (l:List (Int×Int)):List (Int×Int):=fZ (kc l)
theorem sX {S:List (Int×Int)} {k:Nat} (hk:k<S.length):fZ (S.take (k+1))=fi (fZ (S.take k)) S[k]:=by
 rw [List.take_add_one,List.getElem?_eq_getElem hk]
 exact BD _ _
theorem qX {S:List (Int×Int)} (hS:S.Pairwise fun a b=>gQ b a=false): ∀k,k≤S.length→(fZ (S.take k)).Pairwise fun a b=>gQ a b=true
 |0,_=>List.Pairwise.nil
 |k+1,hk=>by
  have ih:=qX hS k (by omega)
  rw [sX (by omega)]
  unfold fi
  split
  ·exact ih
  ·rename_i hn
   refine List.pairwise_append.2 ⟨ih,by simp,fun a ha b hb=> ?_⟩
   rw [List.mem_singleton] at hb
   subst hb
   have ha2:=qN.1 ha
   obtain ⟨i,hi,e⟩:=List.getElem_of_mem ha2
   rw [List.length_take] at hi
   rw [List.getElem_take] at e
   have h1:=List.pairwise_iff_getElem.1 hS i k (by omega) (by omega) (by omega)
   rw [e] at h1
   exact xQ (fun e=>hn (by rw [←e];exact ha)) h1
theorem xS (l:List (Int×Int)):(dd l).Pairwise fun a b=>gQ a b=true:=by
 have:=qX (rq l) (kc l).length (Nat.le_refl _)
 rwa [List.take_length] at this
theorem KQ {l:List (Int×Int)} {p:Int×Int}:p∈dd l↔p∈l:=by unfold dd;rw [qN,(ij l).mem_iff]
def Lc (l:List (Int×Int)) (p:Int×Int):Nat:=rk gQ (dd l) p
theorem tm {S:List (Int×Int)}: ∀k,k≤S.length→(fZ (S.take k)).length≤k∧(k≤(fZ (S.take k)).length→(S.take k).Nodup)
 |0,_=>⟨by simp [fZ],fun _=>by simp⟩
 |k+1,hk=>by
  have ih:=tm k (by omega:k≤S.length)
  rw [sX (by omega)]
  unfold fi
  split
  ·exact ⟨by omega,fun h=>by omega⟩
  ·rename_i hn
   rw [List.length_append,List.length_singleton]
   refine ⟨by omega,fun h=> ?_⟩
   rw [List.take_add_one,List.getElem?_eq_getElem (by omega)]
   refine List.nodup_append.2 ⟨ih.2 (by omega),by simp,fun a ha b hb=> ?_⟩
   simp only [Option.toList_some,List.mem_singleton] at hb
   subst hb
   exact fun e=>hn (by rw [qN,←e];exact ha)
theorem I1 {l:List (Int×Int)} (h:l.length≤(dd l).length):l.Nodup:=by
 have:=(tm (S:=kc l) (kc l).length (Nat.le_refl _)).2
 rw [List.take_length,Ef] at this
 exact (ij l).nodup_iff.1 (this h)
theorem FY {l:List (Int×Int)} (h:l.Nodup):dd l=kc l:=by
 have h2:(dd l).Perm (kc l):=by
  have hdn:(dd l).Nodup:=(xS l).imp fun {a b} hab e=>by subst e;rw [xk] at hab;cases hab
  refine (List.perm_ext_iff_of_nodup hdn ((ij l).nodup_iff.2 h)).2 fun a=> ?_
  rw [KQ,(ij l).mem_iff]
 exact oe KE h2 (xS l) (Aj h)
theorem Er {l:List (Int×Int)} (h:l.Nodup) (p:Int×Int):Lc l p=rk gQ l p:=by
 unfold Lc rk
 rw [FY h,(ij l).countP_eq]
def key (t:List Nat) (h i:Nat):List Nat:=(t.drop i).take h
def KX (t:List Nat) (h:Nat) (f:Nat→Int×Int):Prop:= ∀i j,i≤t.length→j≤t.length→(gQ (f i) (f j)=true↔lx (key t h i) (key t h j)=true)∧(f i=f j↔key t h i=key t h j)
def aU (t:List Nat) (f:Nat→Int×Int):List (Int×Int):=(List.range (t.length+1)).map f
theorem dY (t:List Nat) (f:Nat→Int×Int):(aU t f).length=t.length+1:=by simp [aU]
def kg (t:List Nat) (i:Nat):Int×Int:=if i<t.length then (1+(t.getD i 0:Int),0) else (0,0)
theorem sF {t:List Nat} {h i:Nat}:(key t h i).length=min h (t.length - i):=by unfold key;rw [List.length_take,List.length_drop]
theorem done {t:List Nat} {h:Nat} {f:Nat→Int×Int} (hf:KX t h f) (hd:t.length+1≤(dd (aU t f)).length) {i:Nat} (hi:i≤t.length):Lc (aU t f) (f i)=iW t i:=by
 have hn:(aU t f).Nodup:=I1 (by rw [dY];exact hd)
 have hinj: ∀a b,a≤t.length→b≤t.length→key t h a=key t h b→a=b:=fun a b ha hb e=>by
  have hfe:=((hf a b ha hb).2).2 e
  have hp:=List.pairwise_map.1 hn
  rcases Nat.lt_trichotomy a b with h1|h1|h1
  ·have:=List.pairwise_iff_getElem.1 hp a b (by simp;omega) (by simp;omega) h1
   simp only [List.getElem_range] at this
   exact absurd hfe this
  ·exact h1
  ·have:=List.pairwise_iff_getElem.1 hp b a (by simp;omega) (by simp;omega) h1
   simp only [List.getElem_range] at this
   exact absurd hfe.symm this
 rw [Er hn]
 unfold rk iW rk aU rows
 rw [List.countP_map]
 refine List.countP_congr fun j hj=> ?_
 rw [List.mem_range] at hj
 simp only [Function.comp]
 rw [(hf j i (by omega) hi).1]
 unfold sl
 by_cases hij:j=i
 ·subst hij;rw [uE,uE]
 ·have hne:key t h j≠key t h i:=fun e=>hij (hinj j i (by omega) hi e)
  have hs: ∀a,t.drop a=key t h a++t.drop (a+h):=fun a=>by
   unfold key
   rw [←List.drop_drop,List.take_append_drop]
  rw [hs j,hs i,FK _ _ _ _ hne]
  ·intro hlt
   rw [sF,sF] at hlt
   exact List.drop_eq_nil_of_le (by omega)
  ·intro hlt
   rw [sF,sF] at hlt
   exact List.drop_eq_nil_of_le (by omega)
end Go.Bw
set_option maxRecDepth 20000
namespace Go.Vc
open Go
section
variable {α:Type} {g:α→List Value} {sz:Nat}
theorem Kc (hg: ∀x,(g x).length=sz) {l:List α} {j k:Nat} {v:Value} {x:α} (hj:j<l.length) (hk:k<sz) (hx:g x=(g l[j]).set k v):(l.flatMap g).set (j*sz+k) v=(l.set j x).flatMap g:=by
 have h0:0<sz:=by omega
 have hm:(j+1)*sz≤l.length*sz:=Nat.mul_le_mul_right _ hj
 rw [Nat.succ_mul] at hm
 apply List.ext_getElem?
 intro i
 have hfl:=eH hg l
 have hfl2:=eH hg (l.set j x)
 rw [List.length_set] at hfl2
 by_cases hi:i<l.length*sz
 ·obtain ⟨q,hq⟩: ∃q,i/sz=q:=⟨_,rfl⟩
  obtain ⟨r,hr⟩: ∃r,i % sz=r:=⟨_,rfl⟩
  have hdi:q<l.length:=by rw [←hq,Nat.div_lt_iff_lt_mul h0];exact hi
  have hmi:q*sz+r=i:=by rw [←hq,←hr];exact Nat.div_add_mod' i sz
  have hlt:r<sz:=by rw [←hr];exact Nat.mod_lt _ h0
  clear hq hr
  subst hmi
  have e1:=nk hg l q r hdi hlt
  have e2:=nk hg (l.set j x) q r (by rw [List.length_set];exact hdi) hlt
  have hd: ∀a b:Nat,b<sz→(a*sz+b)/sz=a:=fun a b hb=>by rw [Nat.mul_comm,Nat.mul_add_div h0,Nat.div_eq_of_lt hb,Nat.add_zero]
  have hmd: ∀a b:Nat,b<sz→(a*sz+b) % sz=b:=fun a b hb=>by rw [Nat.mul_comm,Nat.mul_add_mod,Nat.mod_eq_of_lt hb]
  rw [e2,List.getElem?_set,e1,List.getElem_set]
  by_cases hji:j=q
  ·subst hji
   rw [if_pos rfl,hx,List.getElem?_set,hg]
   by_cases hki:k=r
   ·subst hki
    rw [if_pos rfl,if_pos (by rw [hfl];omega),if_pos rfl,if_pos hk]
   ·rw [if_neg (by omega),if_neg hki]
  ·rw [if_neg hji,if_neg (fun e=>hji ((hd j k hk).symm.trans ((congrArg (fun y=>y/sz) e).trans (hd q r hlt))))]
 ·rw [List.getElem?_eq_none (by rw [List.length_set,hfl];omega),List.getElem?_eq_none (by rw [hfl2];omega)]
end
section
variable {E w:World} {F:List HP} {α:Type} {g:α→List Value} {sz:Nat} {s:Sl}
theorem an.setCell {l:List α} {i:Int} {j k:Nat} {v:Value} {x:α} {K:World→Prop} (hg: ∀x,(g x).length=sz) (h0:k<sz) (hh:Hp E w (aj sz s (l.flatMap g)::F)) (hi:i=(j:Int)) (hj:j<l.length) (hv:aD v=true) (hx:g x=(g l[j]).set k v)
  (h: ∀w',Hp E w' (aj sz s ((l.set j x).flatMap g)::F)→K w'):an s i sz fun q=>St (q.add k) v w K:=by
 subst hi
 have hlen:=aC.len hg (by omega) (hh.ag ad.own)
 refine St.Ku hh h0 (by omega) (by omega) hv fun w' h'=>h w' ?_
 rw [Int.toNat_natCast,Kc hg hj h0 hx] at h'
 exact h'
end
end Go.Vc
set_option maxRecDepth 20000
namespace Go.Vc
open Go
theorem Ii {P:Program} {t ty e e2:TypeId} {E w:World} {F:List HP} {s:Sl} {bs:List Nat} {x:Nat} {cs:Array Value} {K:Sl→World→Prop} (he:bJ P t e 1 1) (hcs:cs=⟨[vB x]⟩) (hh:Hp E w (aj 1 s (bs.map vB)::F)) (hb:bs.length≤bZ)
  (h: ∀s' w',Hp E w' (aj 1 s' ((bs++ [x]).map vB)::F)→s'.len=bs.length+1→K s' w'):
  Nw e2 cs w fun b w1=>au P (Builtin.append_ #[t,t] ty ⟨[.slice s.base s.len s.cap,.slice (some ⟨b,0,none⟩) 1 1]⟩) kS w1 K:=by
 have hl:=hh.aV
 rw [List.length_map,Nat.mul_one] at hl
 rw [aA] at hb
 refine Nw.mk hh fun b w1 h1=>aI (ys:= [vB x]) (n:=1) he (by decide) (.inl ⟨e,he.und⟩) h1.p1 (.inl ⟨some ⟨b,0,none⟩,1,1,rfl,rfl,h1.ag (ad.aG (by rw [hcs]) rfl)⟩) rfl (fun y hy=>by
  rw [List.mem_singleton] at hy;subst hy;rfl) (by omega) (by omega) fun s' w2 h2 hs'=>h s' w2 ?_ (by omega)
 rw [List.map_append]
 exact h2.p1.drop
end Go.Vc
namespace Go.Proofs.YtgglghjnakclmaaGreat
open Go Go.Vc Go.Bw
theorem HZ:bJ Tryz.prog 26 5 1 1:= .of (by kernel_rfl) (by kernel_rfl)
section
variable {E w:World} {F:List HP}
def vJ (t:List Nat) (i k:Int):Bool:=decide (0≤i∧i≤t.length∧0≤k∧k≤t.length)&&sl t i.toNat k.toNat
end
end Go.Proofs.YtgglghjnakclmaaGreat
set_option maxRecDepth 20000
namespace Go.Vc
open Go
def ma (a:Int×Int):Value:= .agg ⟨[.int .i64 a.1,.int .i64 a.2]⟩
end Go.Vc
namespace Go.Proofs.YtgglghjnakclmaaGreat
open Go Go.Vc Go.Bw Go.Hs
section
variable {E w:World} {F:List HP}
theorem Az:bJ Tryz.prog 142 3 1 8:= .of (by kernel_rfl) (by kernel_rfl)
end
end Go.Proofs.YtgglghjnakclmaaGreat
set_option maxRecDepth 20000
namespace Go.Proofs.YtgglghjnakclmaaGreat
open Go Go.Vc Go.Bw Go.Hs
section
variable {E w:World} {F:List HP}
theorem tU {l:List Nat} {k:Nat} (hk:k<l.length):((l.take (k+1)).filter fun i=>i !=0)=((l.take k).filter fun i=>i !=0)++if l[k]=0 then [] else [l[k]]:=by
 rw [List.take_add_one,List.getElem?_eq_getElem hk,List.filter_append]
 congr 1
 by_cases e:l[k]=0
 ·rw [if_pos e];simp [e]
 ·rw [if_neg e];simp [e]
end
end Go.Proofs.YtgglghjnakclmaaGreat
namespace Go.Proofs.YtgglghjnakclmaaGreat
open Go Go.Vc
set_option maxRecDepth 100000
theorem Fm.ok (a:Sl) (R:Sl→World→Prop) w (h:
 Cl Pg [(.arr 257)] oQ ⟨[]⟩ w fun c b=>
 Cl Pg [(.arr 257),kS,kI] nM ⟨[(.agg c),(ah a)]⟩ b fun e (f:Sl) (g:Int) d=>
 Nw 273 ⟨List.replicate 256 (.int .u8 0)++ [(ni 0)]⟩ d fun i h=>
 ax 257 ⟨i,0,none⟩ e h fun j=>
 Ld (.arr 257) ⟨i,0,none⟩ j fun k=>
 Cl Pg [kS,kI] oM ⟨[(.agg k)]⟩ j fun (m:Sl) (n:Int) l=>
 au Pg (Builtin.append_ #[142,142] 142 ⟨[(ah f),(ah m)]⟩) kS l fun (p:Sl) o=>
 R p o):Cl Pg [kS] oT ⟨[(ah a)]⟩ w R:=co Tryz.f184 [] h
theorem CL.ok (a:(Array Value)) (b:Sl) (R:(Array Value)→Sl→Int→World→Prop) w (h:
 Nw 273 a w fun d c=>
 Nw 273 ⟨List.replicate 256 (.int .u8 0)++ [(ni 0)]⟩ c fun f e=>
 bD (fun (r:World)=>
 br (⟨none,0,0⟩:Sl) 0 r fun s t (u:Sl) (v:Int) x=>
 aa (decide (v<(b.len:Int)))
 (gm x fun y z=>
 aH (.arr 256) (Addr.add ⟨d,0,none⟩ 0) y fun a1=>
 an b v 1 fun b1=>
 aH (aq .u8) b1 y fun (c1:Int)=>
 (Cl Pg [(.arr 256),kI] k7 ⟨[(.agg a1),(.int .u8 c1)]⟩ z fun e1 (f1:Int) d1=>
 y d1∧
 Nw 110 ⟨List.replicate 256 (.int .u8 0)⟩ d1 fun h1 g1=>
 y g1∧
 ax 256 ⟨h1,0,none⟩ e1 g1 fun i1=>
 y i1∧
 Ld (.arr 256) ⟨h1,0,none⟩ i1 fun j1=>
 ax 256 (Addr.add ⟨d,0,none⟩ 0) j1 i1 fun k1=>
 aa (f1==0)
 (Ld kI (Addr.add ⟨d,0,none⟩ 256) k1 fun (l1:Int)=>
 St (Addr.add ⟨d,0,none⟩ 256) (ni (i64 (l1+1))) k1 fun m1=>
 s u (i64 (v+1)) m1∧t u (i64 (v+1)) m1<t u v x)
 (Ld kI (Addr.add ⟨d,0,none⟩ 256) k1 fun (n1:Int)=>
 Cl Pg [kS] gh ⟨[(ni n1)]⟩ k1 fun (p1:Sl) o1=>
 au Pg (Builtin.append_ #[142,142] 142 ⟨[(ah u),(ah p1)]⟩) kS o1 fun (r1:Sl) q1=>
 Nw 3 ⟨[(ni (i64 (f1+1)))]⟩ q1 fun t1 s1=>
 au Pg (Builtin.append_ #[142,142] 142 ⟨[(ah r1),(ah (⟨some ⟨t1,0,none⟩,1,1⟩:Sl))]⟩) kS s1 fun (v1:Sl) u1=>
 St (Addr.add ⟨d,0,none⟩ 256) (ni 0) u1 fun x1=>
 s v1 (i64 (v+1)) x1∧t v1 (i64 (v+1)) x1<t u v x))∧
 (Nw 110 ⟨List.replicate 256 (.int .u8 0)⟩ z fun z1 y1=>
 y y1∧
 Cl Pg [(.arr 256),kI] k7 ⟨[(.agg a1),(.int .u8 c1)]⟩ y1 fun b2 (c2:Int) a2=>
 y a2∧
 ax 256 ⟨z1,0,none⟩ b2 a2 fun d2=>
 y d2∧
 Ld (.arr 256) ⟨z1,0,none⟩ d2 fun e2=>
 ax 256 (Addr.add ⟨d,0,none⟩ 0) e2 d2 fun f2=>
 aa (c2==0)
 (Ld kI (Addr.add ⟨d,0,none⟩ 256) f2 fun (g2:Int)=>
 St (Addr.add ⟨d,0,none⟩ 256) (ni (i64 (g2+1))) f2 fun h2=>
 s u (i64 (v+1)) h2∧t u (i64 (v+1)) h2<t u v x)
 (Ld kI (Addr.add ⟨d,0,none⟩ 256) f2 fun (i2:Int)=>
 Cl Pg [kS] gh ⟨[(ni i2)]⟩ f2 fun (k2:Sl) j2=>
 au Pg (Builtin.append_ #[142,142] 142 ⟨[(ah u),(ah k2)]⟩) kS j2 fun (m2:Sl) l2=>
 Nw 3 ⟨[(ni (i64 (c2+1)))]⟩ l2 fun o2 n2=>
 au Pg (Builtin.append_ #[142,142] 142 ⟨[(ah m2),(ah (⟨some ⟨o2,0,none⟩,1,1⟩:Sl))]⟩) kS n2 fun (q2:Sl) p2=>
 St (Addr.add ⟨d,0,none⟩ 256) (ni 0) p2 fun r2=>
 s q2 (i64 (v+1)) r2∧t q2 (i64 (v+1)) r2<t u v x)))
 (Ld (.arr 257) ⟨d,0,none⟩ x fun s2=>
 ax 257 ⟨f,0,none⟩ s2 x fun t2=>
 Ld (.arr 257) ⟨f,0,none⟩ t2 fun u2=>
 R u2 u 0 t2)) fun g=>
 Ld (.arr 257) ⟨d,0,none⟩ e fun h=>
 Cl Pg [kB] jd ⟨[(.agg h)]⟩ e fun (j:Bool) i=>
 aa (!j)
 (Ld (.arr 257) ⟨d,0,none⟩ i fun k=>
 ax 257 ⟨f,0,none⟩ k i fun l=>
 Ld (.arr 257) ⟨f,0,none⟩ l fun m=>
 R m (⟨none,0,0⟩:Sl) 2 l)
 (Ld kI (Addr.add ⟨d,0,none⟩ 256) i fun (n:Int)=>
 aa (decide ((b.len:Int)>(i64 ((2147483647:Int) - n))))
 (Ld (.arr 257) ⟨d,0,none⟩ i fun o=>
 ax 257 ⟨f,0,none⟩ o i fun p=>
 Ld (.arr 257) ⟨f,0,none⟩ p fun q=>
 R q (⟨none,0,0⟩:Sl) 2 p)
 (g i))):Cl Pg [(.arr 257),kS,kI] nM ⟨[(.agg a),(ah b)]⟩ w R:=co Tryz.f248 [(2,[]),(12,[(7,kS),(8,kI)])] h
theorem FP.ok (R:(Array Value)→World→Prop) w (h:
 Nw 273 ⟨List.replicate 256 (.int .u8 0)++ [(ni 0)]⟩ w fun b a=>
 Cl Pg [(.arr 256)] o5 ⟨[]⟩ a fun d c=>
 q0 Pg 273 [(0,(.agg d))] fun e=>
 ax 257 ⟨b,0,none⟩ e c fun f=>
 Ld (.arr 257) ⟨b,0,none⟩ f fun g=>
 R g f):Cl Pg [(.arr 257)] oQ ⟨[]⟩ w R:=co Tryz.f249 [] h
theorem DP.ok (a:(Array Value)) (R:Sl→Int→World→Prop) w (h:
 Nw 273 a w fun c b=>
 Ld (.arr 257) ⟨c,0,none⟩ b fun d=>
 Cl Pg [kB] jd ⟨[(.agg d)]⟩ b fun (f:Bool) e=>
 aa (!f)
 (R (⟨none,0,0⟩:Sl) 2 e)
 (Ld kI (Addr.add ⟨c,0,none⟩ 256) e fun (g:Int)=>
 Cl Pg [kS] gh ⟨[(ni g)]⟩ e fun (i:Sl) h=>
 Nw 3 ⟨[(ni 257)]⟩ h fun k j=>
 au Pg (Builtin.append_ #[142,142] 142 ⟨[(ah i),(ah (⟨some ⟨k,0,none⟩,1,1⟩:Sl))]⟩) kS j fun (m:Sl) l=>
 R m 0 l)):Cl Pg [kS,kI] oM ⟨[(.agg a)]⟩ w R:=co Tryz.f250 [] h
theorem Bm.ok (a:(Array Value)) (R:Bool→World→Prop) w (h:
 Nw 273 a w fun c b=>
 Ld (.arr 256) (Addr.add ⟨c,0,none⟩ 0) b fun d=>
 Cl Pg [kB] l6 ⟨[(.agg d)]⟩ b fun (f:Bool) e=>
 aa f
 (Ld kI (Addr.add ⟨c,0,none⟩ 256) e fun (g:Int)=>
 aa (decide (g≥0))
 (Ld kI (Addr.add ⟨c,0,none⟩ 256) e fun (h:Int)=>
 R (decide (h≤2147483647)) e)
 (R false e))
 (R false e)):Cl Pg [kB] jd ⟨[(.agg a)]⟩ w R:=co Tryz.f296 [] h
theorem Ey.ok (a:Int) (R:Sl→World→Prop) w (h:
 br a (⟨none,0,0⟩:Sl) w fun b c (d:Int) (e:Sl) f=>
 aa (decide (d>0))
 ((2:Int)≠0∧
 aa (((Int.tmod d (2:Int)):Int)==1)
 (Nw 3 ⟨[(ni 0)]⟩ f fun h g=>
 au Pg (Builtin.append_ #[142,142] 142 ⟨[(ah e),(ah (⟨some ⟨h,0,none⟩,1,1⟩:Sl))]⟩) kS g fun (j:Sl) i=>
 (2:Int)≠0∧
 b (i64 (Int.tdiv (i64 (d - 1)) (2:Int))) j i∧c (i64 (Int.tdiv (i64 (d - 1)) (2:Int))) j i<c d e f)
 (Nw 3 ⟨[(ni 1)]⟩ f fun l k=>
 au Pg (Builtin.append_ #[142,142] 142 ⟨[(ah e),(ah (⟨some ⟨l,0,none⟩,1,1⟩:Sl))]⟩) kS k fun (n:Sl) m=>
 (2:Int)≠0∧
 b (i64 (Int.tdiv (i64 (d - 2)) (2:Int))) n m∧c (i64 (Int.tdiv (i64 (d - 2)) (2:Int))) n m<c d e f))
 (R e f)):Cl Pg [kS] gh ⟨[(ni a)]⟩ w R:=co Tryz.f298 [(5,[(0,kI),(3,kS)])] h
end Go.Proofs.YtgglghjnakclmaaGreat
namespace Go.Proofs.YtgglghjnakclmaaGreat
open Go Go.Vc
set_option maxRecDepth 100000
theorem Bg.ok (a:Sl) (R:Sl→World→Prop) w (h:
 br (⟨none,0,0⟩:Sl) 0 w fun b c (d:Sl) (e:Int) f=>
 aa (decide (e<(a.len:Int)))
 (br 0 e f fun g h (i:Int) (j:Int) k=>
 aa (decide (j<(i64 (e+8))))
 (aa (decide (j<(a.len:Int)))
 (an a j 1 fun l=>
 Ld kI l k fun (m:Int)=>
 g (i64 ((i64 ((2:Int)*i))+m)) (i64 (j+1)) k∧h (i64 ((i64 ((2:Int)*i))+m)) (i64 (j+1)) k<h i j k)
 (g (i64 ((2:Int)*i)) (i64 (j+1)) k∧h (i64 ((2:Int)*i)) (i64 (j+1)) k<h i j k))
 (Nw 5 ⟨[(.int .u8 (u8 i))]⟩ k fun o n=>
 au Pg (Builtin.append_ #[26,26] 26 ⟨[(ah d),(ah (⟨some ⟨o,0,none⟩,1,1⟩:Sl))]⟩) kS n fun (q:Sl) p=>
 b q (i64 (e+8)) p∧c q (i64 (e+8)) p<c d e f))
 (R d f)):Cl Pg [kS] lO ⟨[(ah a)]⟩ w R:=co Tryz.f130 [(7,[(3,kS),(4,kI)]),(17,[(5,kI),(6,kI)])] h
end Go.Proofs.YtgglghjnakclmaaGreat
namespace Go.Proofs.YtgglghjnakclmaaGreat
open Go Go.Vc
set_option maxRecDepth 100000
theorem FG.ok (R:(Array Value)→World→Prop) w (h:
 Nw 110 ⟨List.replicate 256 (.int .u8 0)⟩ w fun b a=>
 Nw 110 ⟨List.replicate 256 (.int .u8 0)⟩ a fun d c=>
 da 0 c fun e f (g:Int) h=>
 aa (decide (g<256))
 (aw ⟨d,0,none⟩ 256 g 1 fun i=>
 St i (.int .u8 (u8 g)) h fun j=>
 e (i64 (g+1)) j∧f (i64 (g+1)) j<f g h)
 (Ld (.arr 256) ⟨d,0,none⟩ h fun k=>
 ax 256 ⟨b,0,none⟩ k h fun l=>
 Ld (.arr 256) ⟨b,0,none⟩ l fun m=>
 R m l)):Cl Pg [(.arr 256)] o5 ⟨[]⟩ w R:=co Tryz.f222 [(7,[(2,kI)])] h
theorem De.ok (a:(Array Value)) (b:Int) (R:(Array Value)→Int→Bool→World→Prop) w (h:
 Nw 110 a w fun d c=>
 Nw 110 ⟨List.replicate 256 (.int .u8 0)⟩ c fun f e=>
 aa (decide (b<0))
 (Ld (.arr 256) ⟨d,0,none⟩ e fun g=>
 ax 256 ⟨f,0,none⟩ g e fun h=>
 Ld (.arr 256) ⟨f,0,none⟩ h fun i=>
 R i 0 false h)
 (aa (decide (b>255))
 (Ld (.arr 256) ⟨d,0,none⟩ e fun j=>
 ax 256 ⟨f,0,none⟩ j e fun k=>
 Ld (.arr 256) ⟨f,0,none⟩ k fun l=>
 R l 0 false k)
 (aw ⟨d,0,none⟩ 256 b 1 fun m=>
 Ld (aq .u8) m e fun (n:Int)=>
 da b e fun o p (q:Int) r=>
 aa (decide (q>0))
 (aw ⟨d,0,none⟩ 256 (i64 (q - 1)) 1 fun s=>
 Ld (aq .u8) s r fun (t:Int)=>
 aw ⟨d,0,none⟩ 256 q 1 fun u=>
 St u (.int .u8 t) r fun v=>
 o (i64 (q - 1)) v∧p (i64 (q - 1)) v<p q r)
 (aw ⟨d,0,none⟩ 256 0 1 fun x=>
 St x (.int .u8 n) r fun y=>
 Ld (.arr 256) ⟨d,0,none⟩ y fun z=>
 ax 256 ⟨f,0,none⟩ z y fun a1=>
 Ld (.arr 256) ⟨f,0,none⟩ a1 fun b1=>
 R b1 n true a1)))):Cl Pg [(.arr 256),(aq .u8),kB] nw ⟨[(.agg a),(ni b)]⟩ w R:=co Tryz.f226 [(12,[(8,kI)])] h
theorem Bb.ok (a:(Array Value)) (R:Bool→World→Prop) w (h:
 Nw 110 a w fun c b=>
 da 0 b fun d e (f:Int) g=>
 aa (decide (f<256))
 (da 0 g fun h i (j:Int) k=>
 aa (decide (j<f))
 (aK k fun l=>
 aw ⟨c,0,none⟩ 256 j 1 fun m=>
 Ld (aq .u8) m l fun (n:Int)=>
 aw ⟨c,0,none⟩ 256 f 1 fun o=>
 Ld (aq .u8) o l fun (p:Int)=>
 aa (n==p)
 (R false l)
 (h (i64 (j+1)) l∧i (i64 (j+1)) l<i j k))
 (d (i64 (f+1)) k∧e (i64 (f+1)) k<e f g))
 (R true g)):Cl Pg [kB] l6 ⟨[(.agg a)]⟩ w R:=co Tryz.f288 [(5,[(3,kI)]),(12,[(4,kI)])] h
theorem FC.ok (a:(Array Value)) (b:Int) (R:(Array Value)→Int→World→Prop) w (h:
 Nw 110 a w fun d c=>
 Nw 110 ⟨List.replicate 256 (.int .u8 0)⟩ c fun f e=>
 da 0 e fun g h (i:Int) j=>
 aa (decide (i<256))
 (aw ⟨d,0,none⟩ 256 i 1 fun k=>
 Ld (aq .u8) k j fun (l:Int)=>
 aa (l==b)
 (Ld (.arr 256) ⟨d,0,none⟩ j fun m=>
 Cl Pg [(.arr 256),(aq .u8),kB] nw ⟨[(.agg m),(ni i)]⟩ j fun o (p:Int) (q:Bool) n=>
 Nw 110 ⟨List.replicate 256 (.int .u8 0)⟩ n fun s r=>
 ax 256 ⟨s,0,none⟩ o r fun t=>
 Ld (.arr 256) ⟨s,0,none⟩ t fun u=>
 ax 256 ⟨f,0,none⟩ u t fun v=>
 Ld (.arr 256) ⟨f,0,none⟩ v fun x=>
 R x i v)
 (g (i64 (i+1)) j∧h (i64 (i+1)) j<h i j))
 (Ld (.arr 256) ⟨d,0,none⟩ j fun y=>
 ax 256 ⟨f,0,none⟩ y j fun z=>
 Ld (.arr 256) ⟨f,0,none⟩ z fun a1=>
 R a1 (-1) z)):Cl Pg [(.arr 256),kI] k7 ⟨[(.agg a),(.int .u8 b)]⟩ w R:=co Tryz.f297 [(5,[(6,kI)])] h
end Go.Proofs.YtgglghjnakclmaaGreat
namespace Go.Srt
def oP (b:List Nat) (i:Nat):Nat→Nat
 |0=>0
 |t+1=>2*oP b i t+b.getD (i+t) 0
theorem Gf (b:List Nat) (j:Nat):oP b (8*j) 8=kn b j:=by
 simp only [oP,kn,Nat.add_zero]
 omega
theorem BQ {b:List Nat} (h:aS b) (i:Nat): ∀t,oP b i t<2^t
 |0=>by simp [oP]
 |t+1=>by
  have:=BQ h i t
  have:=h.getD (i+t)
  rw [oP,Nat.pow_succ];omega
end Go.Srt
namespace Go.af
open Go.Srt Go.aS
end Go.af
namespace Go.Sym
end Go.Sym
namespace Go.Proofs.YtgglghjnakclmaaGreat
open Go Go.Vc Go.Srt Go.aS Go.af Go.Sym
section
variable {E w:World} {F:List HP}
set_option maxRecDepth 20000
theorem vU (n k:Nat):Int.tdiv (n:Int) (k:Int)=((n/k:Nat):Int):=rfl
theorem uC (n k:Nat):Int.tmod (n:Int) (k:Int)=((n % k:Nat):Int):=rfl
theorem Ez {s:Sl} {bits:List Nat} {K:Sl→World→Prop} (h:Hp E w F) (hs:ad F (aC 1 s ((ints bits).map vI))) (hb:aS bits) (hn:bits.length≤10000000) (hK: ∀s' w',Hp E w' (OB s' (pack bits)::F)→K s' w'):
  Cl Tryz.prog [kS] lO ⟨[.slice s.base s.len s.cap]⟩ w K:=by
 refine Bg.ok _ _ _ ?_
 have hl:=AW (h.ag hs)
 refine ⟨fun o i w=> ∃j:Nat,i=((8*j:Nat):Int)∧j≤(bits.length+7)/8∧Hp E w (OB o (fp bits j)::F),fun _ i _=>bits.length+8 - i.toNat,⟨0,rfl,by omega,h.bl 1⟩,?_⟩
 rintro o i w ⟨j,rfl,hj,h⟩
 refine aa.dm (fun hlt=> ?_) (fun hge=> ?_)
 ·refine ⟨fun v k w=> ∃t:Nat,k=((8*j+t:Nat):Int)∧t≤8∧v=(oP bits (8*j) t:Int)∧Hp E w (OB o (fp bits j)::F),fun _ k _=>8*j+8 - k.toNat,⟨0,by simp,by omega,rfl,h⟩,?_⟩
  rintro v k w ⟨t,rfl,ht,rfl,h⟩
  have ha:=BQ hb (8*j) t
  have hp:2^t≤2^8:=Nat.pow_le_pow_right (by decide) ht
  rw [ae (x:=((8*j:Nat):Int)+8) (by omega),ae (x:=(2:Int)*(oP bits (8*j) t:Int)) (by omega)]
  refine aa.dm (fun hlt2=> ?_) (fun hge2=> ?_)
  ·have hb1:=hb.getD (8*j+t)
   rw [ae (x:=((8*j+t:Nat):Int)+1) (by omega)]
   refine aa.dm (fun hin=> ?_) (fun hout=> ?_)
   ·have hin:8*j+t<bits.length:=by omega
    refine an.rI (h.drop.ag hs) rfl hin ?_
    have e:bits.getD (8*j+t) 0=bits[8*j+t]:=cJ hin
    rw [e] at hb1
    rw [ae (by omega)]
    exact ⟨⟨t+1,by omega,by omega,by rw [oP,e];omega,h⟩,by first|omega|(dsimp only;omega)⟩
   ·have e:bits.getD (8*j+t) 0=0:=dw (by omega)
    exact ⟨⟨t+1,by omega,by omega,by rw [oP,e];omega,h⟩,by first|omega|(dsimp only;omega)⟩
  ·have ht8:t=8:=by omega
   subst ht8
   rw [Gf] at ha⊢
   rw [dS (by omega)]
   refine Nw.mk h fun b w h=>Lp h (by rw [me];omega) fun s' w h=>⟨⟨j+1,by omega,by omega,?_⟩,by first|omega|(dsimp only;omega)⟩
   have:fp bits (j+1)=fp bits j++ [kn bits j]:=by unfold fp;rw [List.range_succ,List.map_append];rfl
   rw [this];exact h
 ·have hj2:j=(bits.length+7)/8:=by omega
  subst hj2
  exact hK _ _ h
end
end Go.Proofs.YtgglghjnakclmaaGreat
namespace Go.Proofs.YtgglghjnakclmaaGreat
open Go Go.Vc Go.Srt Go.Inc Go.aS Go.af Go.Sym
section
variable {E w:World} {F:List HP}
set_option maxRecDepth 20000
abbrev bL (b:Nat) (L:List Nat):HP:=af b (.cells ⟨bd L⟩ 110 (0,0))
theorem wc:(⟨List.replicate 256 (.int .u8 0)⟩:Array Value).size=256:=by simp
theorem Ij {L:List Nat} (h:L.length=256):(⟨bd L⟩:Array Value).size=256:=by simp [h]
theorem sE {L:List Nat} {i:Nat} (h:i<L.length):(⟨bd L⟩:Array Value).toList[i]? =some (Sc.enc (.int .u8) (L[i]:Int)):=by simp [h]
theorem v9 {L:List Nat} {i x:Nat}:(⟨bd L⟩:Array Value).setIfInBounds i (.int .u8 (x:Int))=⟨bd (L.set i x)⟩:=by
 apply Array.ext'
 rw [Array.toList_setIfInBounds]
 show (bd L).set i _=bd (L.set i x)
 unfold bd
 rw [List.map_set]
theorem GC {K:Array Value→World→Prop} (h:Hp E w F) (hK: ∀w',Hp E w' F→K ⟨bd (List.range 256)⟩ w'):Cl Tryz.prog [.arr 256] o5 ⟨[]⟩ w K:=by
 refine FG.ok _ _ ?_
 refine Nw.mk h fun b2 w h=>Nw.mk h fun b4 w h=> ?_
 have hlen: ∀k,k≤256→(bd (List.range k++List.replicate (256 - k) 0)).length=256:=fun k hk=>by simp;omega
 refine ⟨fun i w'=> ∃k:Nat,i=(k:Int)∧k≤256∧Hp E w' (bL b4 (List.range k++List.replicate (256 - k) 0)::af b2 (.cells ⟨List.replicate 256 (.int .u8 0)⟩ 110 (0,0))::F),fun i _=>256 - i.toNat,⟨0,rfl,by omega,by
  have:(⟨bd (List.range 0++List.replicate (256 - 0) 0)⟩:Array Value)=⟨List.replicate 256 (.int .u8 0)⟩:=by simp
  unfold bL
  rw [this];exact h⟩,?_⟩
 rintro i w ⟨k,rfl,hk,h⟩
 refine aa.dm (fun hlt=> ?_) (fun hge=> ?_)
 ·refine ⟨by omega,by omega,?_⟩
  rw [show ((k:Int)).toNat*1=k by omega]
  (try simp only [ao,ak,al,Nat.zero_add,Nat.add_zero,Nat.reduceAdd,Bool.not_true,Bool.not_false,aF,aE,Option.isNone])
  have hk:=hlen k (by omega)
  rw [dS (by omega),ae (by omega)]
  refine St.xb h (by simp;omega) rfl fun w h=> ?_
  refine ⟨⟨k+1,rfl,by omega,?_⟩,by first|omega|(dsimp only;omega)⟩
  rw [v9] at h
  have e:(List.range k++List.replicate (256 - k) 0).set k k=List.range (k+1)++List.replicate (256 - (k+1)) 0:=by
   rw [List.set_append_right _ _ (by simp),List.length_range,Nat.sub_self]
   obtain ⟨m,hm⟩: ∃m,256 - k=m+1:=⟨255 - k,by omega⟩
   rw [hm,List.replicate_succ,List.set_cons_zero,List.range_succ,show 256 - (k+1)=m by omega]
   simp
  rw [e] at h
  exact h
 ·have hk2:k=256:=by omega
  subst hk2
  have e:List.range 256++List.replicate (256 - 256) 0=List.range 256:=by rw [Nat.sub_self,List.replicate_zero,List.append_nil]
  rw [e] at h
  have hn:(⟨bd (List.range 256)⟩:Array Value).size=256:=by simp
  refine Ld.xw h hn (ax.q (b:=b2) h wc hn bR fun w h=>Ld.xw h hn (hK _ h.tl))
theorem Du {L:List Nat} {K:Bool→World→Prop} (h:Hp E w F) (hL:a6 L) (hK: ∀w',Hp E w' F→K true w'):Cl Tryz.prog [kB] l6 ⟨[.agg ⟨bd L⟩]⟩ w K:=by
 refine Bb.ok _ _ _ ?_
 have hl:=hL.len
 refine Nw.mk h fun b3 w h=> ?_
 refine ⟨fun i w=> ∃k:Nat,i=(k:Int)∧k≤256∧Hp E w (bL b3 L::F),fun i _=>256 - i.toNat,⟨0,rfl,by omega,h⟩,?_⟩
 rintro i w ⟨k,rfl,hk,h⟩
 refine aa.dm (fun hlt=> ?_) (fun hge=>hK _ h.tl)
 refine ⟨fun i w=> ∃j:Nat,i=(j:Int)∧j≤k∧Hp E w (bL b3 L::F),fun i _=>k - i.toNat,⟨0,rfl,by omega,h⟩,?_⟩
 rintro i w ⟨j,rfl,hj,h⟩
 have hkl:k<L.length:=by omega
 have hjl:j<L.length:=by omega
 refine aa.dm (fun hlt2=> ?_) (fun hge2=> ?_)
 ·refine aK.mk h fun w h=>⟨by omega,by omega,?_⟩
  rw [show ((j:Int)).toNat*1=j by omega]
  (try simp only [ao,ak,al,Nat.zero_add,Nat.add_zero,Nat.reduceAdd,Bool.not_true,Bool.not_false,aF,aE,Option.isNone])
  refine Ld.xb (x:=(L[j]:Int)) h (sE hjl) ⟨by omega,by omega,?_⟩
  rw [show ((k:Int)).toNat*1=k by omega]
  (try simp only [ao,ak,al,Nat.zero_add,Nat.add_zero,Nat.reduceAdd,Bool.not_true,Bool.not_false,aF,aE,Option.isNone])
  refine Ld.xb (x:=(L[k]:Int)) h (sE hkl) ?_
  have hne:L[j]≠L[k]:=fun e=>by
   have h1:=hL.lK (p:=j) (by omega)
   have h2:=hL.lK (p:=k) (by omega)
   rw [cJ hjl,e] at h1
   rw [cJ hkl] at h2
   omega
  refine aa.ef (by omega) ?_
  rw [ae (by omega)]
  exact ⟨⟨j+1,rfl,by omega,h⟩,by first|omega|(dsimp only;omega)⟩
 ·rw [ae (by omega)]
  exact ⟨⟨k+1,rfl,by omega,h⟩,by first|omega|(dsimp only;omega)⟩
def oz (L:List Nat) (p i:Nat):List Nat:=L.take (i+1)++((L.take p).drop i++L.drop (p+1))
theorem I9 {L:List Nat} {p:Nat} (hp:p<L.length):oz L p p=L:=by
 unfold oz
 rw [List.drop_of_length_le (by simp;omega),List.nil_append,List.take_append_drop]
theorem IC {L:List Nat} {p i:Nat} (hp:p<L.length) (hi:i≤p):(oz L p i).length=L.length:=by
 unfold oz
 simp;omega
theorem Jt {L:List Nat} {p i j:Nat} (hi:i≤p) (hj:j≤i) (hp:p<L.length):(oz L p i)[j]? =L[j]? :=by
 unfold oz
 rw [List.getElem?_append_left (by simp;omega),List.getElem?_take_of_lt (by omega)]
theorem GM {L:List Nat} {p i:Nat} (hp:p<L.length) (hi:i+1≤p):(oz L p (i+1)).set (i+1) (L[i]'(by omega))=oz L p i:=by
 have h1:L.take (i+1+1)=L.take (i+1)++ [L[i+1]'(by omega)]:=by rw [List.take_add_one,List.getElem?_eq_getElem (by omega)];rfl
 have hl:(L.take (i+1)).length=i+1:=by rw [List.length_take];omega
 have h2:(L.take p).drop i=L[i]'(by omega)::(L.take p).drop (i+1):=by
  rw [List.drop_eq_getElem_cons (by simp;omega),List.getElem_take]
 unfold oz
 rw [h1,h2,List.append_assoc,List.set_append_right _ _ (by omega),hl,Nat.sub_self]
 simp
theorem Js {L:List Nat} {p:Nat} (hp:p<L.length):(oz L p 0).set 0 (L.getD p 0)=bH L p:=by
 unfold oz bH
 rw [List.drop_zero,List.eraseIdx_eq_take_drop_succ]
 cases L with
 |nil=>simp at hp
 |cons a L=>simp
theorem EJ {L:List Nat} {p:Nat} {K:Array Value→Int→Bool→World→Prop} (h:Hp E w F) (hl:L.length=256) (hp:p<256) (hK: ∀w',Hp E w' F→K ⟨bd (bH L p)⟩ (L.getD p 0:Int) true w'):
  Cl Tryz.prog [.arr 256,aq .u8,kB] nw ⟨[.agg ⟨bd L⟩,.int .i64 (p:Int)]⟩ w K:=by
 refine De.ok _ _ _ _ ?_
 have hpl:p<L.length:=by omega
 refine Nw.mk h fun b4 w h=>Nw.mk h fun b6 w h=>aa.df (by omega) (aa.df (by omega) ⟨by omega,by omega,?_⟩)
 rw [show ((p:Int)).toNat*1=p by omega]
 (try simp only [ao,ak,al,Nat.zero_add,Nat.add_zero,Nat.reduceAdd,Bool.not_true,Bool.not_false,aF,aE,Option.isNone])
 have hgp:L.getD p 0=L[p]:=cJ hpl
 refine Ld.xb (x:=(L.getD p 0:Int)) h (by rw [hgp];exact sE hpl) ?_
 refine ⟨fun i w=> ∃k:Nat,i=(k:Int)∧k≤p∧Hp E w (af b6 (.cells ⟨List.replicate 256 (.int .u8 0)⟩ 110 (0,0))::bL b4 (oz L p k)::F),fun i _=>i.toNat,⟨p,rfl,by omega,by rw [I9 hpl];exact h⟩,?_⟩
 rintro i w ⟨k,rfl,hk,h⟩
 have hsl:=IC hpl hk
 refine aa.dm (fun hlt=> ?_) (fun hge=> ?_)
 ·obtain ⟨j,rfl⟩: ∃j,k=j+1:=⟨k - 1,by omega⟩
  rw [ae (by omega)]
  refine ⟨by omega,by omega,?_⟩
  rw [show (((j+1:Nat):Int) - 1).toNat*1=j by omega]
  (try simp only [ao,ak,al,Nat.zero_add,Nat.add_zero,Nat.reduceAdd,Bool.not_true,Bool.not_false,aF,aE,Option.isNone])
  have hg:=Jt (L:=L) (p:=p) (i:=j+1) (j:=j) hk (by omega) hpl
  refine Ld.xb (x:=(L[j]:Int)) h ?_ ⟨by omega,by omega,?_⟩
  ·show (bd (oz L p (j+1)))[j]? =_
   unfold bd
   rw [List.getElem?_map,hg,List.getElem?_eq_getElem (by omega)];rfl
  rw [show (((j+1:Nat):Int)).toNat*1=j+1 by omega]
  (try simp only [ao,ak,al,Nat.zero_add,Nat.add_zero,Nat.reduceAdd,Bool.not_true,Bool.not_false,aF,aE,Option.isNone])
  refine St.xb (b:=b4) h (by simp;omega) rfl fun w h=> ?_
  rw [v9,GM hpl hk] at h
  exact ⟨⟨j,by omega,by omega,h⟩,by first|omega|(dsimp only;omega)⟩
 ·have hk0:k=0:=by omega
  subst hk0
  refine ⟨by decide,by decide,?_⟩
  (try simp only [ao,ak,al,Nat.zero_add,Nat.add_zero,Nat.reduceAdd,Bool.not_true,Bool.not_false,aF,aE,Option.isNone])
  refine St.xb (b:=b4) h (by simp;omega) rfl fun w h=> ?_
  have h:Hp E w (af b6 (.cells ⟨List.replicate 256 (.int .u8 0)⟩ 110 (0,0))::af b4 (.cells ((⟨bd (oz L p 0)⟩:Array Value).setIfInBounds 0 (.int .u8 (L.getD p 0:Int))) 110 (0,0))::F):=h
  rw [v9,Js hpl] at h
  have hm:(⟨bd (bH L p)⟩:Array Value).size=256:=Ij (by rw [(uP hpl).length_eq,hl])
  refine Ld.xw h hm (ax.q (b:=b6) h wc hm bR fun w h=>Ld.xw h hm (hK _ h.tl))
theorem Au {L:List Nat} {c:Nat} {K:Array Value→Int→World→Prop} (h:Hp E w F) (hL:a6 L) (hc:c<256) (hK: ∀w',Hp E w' F→K ⟨bd (bH L (L.idxOf c))⟩ (L.idxOf c:Int) w'):
  Cl Tryz.prog [.arr 256,kI] k7 ⟨[.agg ⟨bd L⟩,.int .u8 (c:Int)]⟩ w K:=by
 refine FC.ok _ _ _ _ ?_
 have hl:=hL.len
 have hi:=hL.idx hc
 have hn:=Ij hl
 have hm:=Ij (hL.take hi.1).len
 refine Nw.mk h fun b4 w h=>Nw.mk h fun b6 w h=> ?_
 refine ⟨fun i w=> ∃k:Nat,i=(k:Int)∧k≤L.idxOf c∧Hp E w (af b6 (.cells ⟨List.replicate 256 (.int .u8 0)⟩ 110 (0,0))::bL b4 L::F),fun i _=>256 - i.toNat,⟨0,rfl,by omega,h⟩,?_⟩
 rintro i w ⟨k,rfl,hk,h⟩
 have hkl:k<L.length:=by omega
 refine aa.dt (by omega) ⟨by omega,by omega,?_⟩
 rw [show ((k:Int)).toNat*1=k by omega]
 (try simp only [ao,ak,al,Nat.zero_add,Nat.add_zero,Nat.reduceAdd,Bool.not_true,Bool.not_false,aF,aE,Option.isNone])
 refine Ld.xb (b:=b4) (x:=(L[k]:Int)) h (sE hkl) ?_
 have hat:=hL.lK (p:=k) (by omega)
 rw [cJ hkl] at hat
 by_cases he:L[k]=c
 ·rw [he] at hat
  subst hat
  refine aa.et (by omega) (Ld.xw (b:=b4) h hn (EJ h hl hi.1 fun w h=>Nw.mk h fun b19 w h=> ?_))
  refine ax.q h wc hm bR fun w h=>Ld.xw h hm (ax.q (b:=b6) h wc hm bR fun w h=>Ld.xw h hm (hK _ h.tl))
 ·refine aa.ef (by omega) ?_
  rw [ae (by omega)]
  have hne:k≠L.idxOf c:=fun e=>by
   have h2:=hi.2
   rw [←e,cJ hkl] at h2
   exact he h2
  exact ⟨⟨k+1,rfl,by omega,h⟩,by first|omega|(dsimp only;omega)⟩
theorem Fj {n:Nat} {K:Sl→World→Prop} (h:Hp E w F) (hn:n≤1000000) (hK: ∀s w',Hp E w' (OI s (bX n)::F)→K s w'):Cl Tryz.prog [kS] gh ⟨[.int .i64 (n:Int)]⟩ w K:=by
 refine Ey.ok _ _ _ ?_
 have hl:=jQ n
 refine ⟨fun m o w=> ∃(q:Nat) (l:List Nat),m=(q:Int)∧q≤2147483647∧bX n=l++bX q∧Hp E w (OI o l::F),fun m _ _=>m.toNat,⟨n,[],rfl,by omega,rfl,h.bl 1⟩,?_⟩
 rintro m o w ⟨q,l,rfl,hq,hd,h⟩
 have hll:l.length≤1000000:=by rw [hd,List.length_append] at hl;omega
 refine aa.dm (fun hpos=> ?_) (fun hz=> ?_)
 ·have hq0:0<q:=by omega
  rw [mD hq0] at hd
  rw [show (2:Int)=((2:Nat):Int) from rfl,uC]
  refine ⟨by decide,?_⟩
  refine aa.em (fun h1=> ?_) (fun h1=> ?_)
  ·refine Nw.mk h fun b w h=>vu (x:=0) h (by omega) fun s' w h=>⟨by decide,?_⟩
   rw [ae (x:=(q:Int) - 1) (by omega),show (q:Int) - 1=((q - 1:Nat):Int) by omega,vU,ae (by omega)]
   refine ⟨⟨(q - 1)/2,l++ [0],rfl,by omega,?_,h⟩,by first|omega|(dsimp only;omega)⟩
   rw [hd,show (q - 1) % 2=0 by omega];simp
  ·refine Nw.mk h fun b w h=>vu (x:=1) h (by omega) fun s' w h=>⟨by decide,?_⟩
   rw [show ((2:Nat):Int)=2 from rfl,ae (x:=(q:Int) - 2) (by omega),show (q:Int) - 2=((q - 2:Nat):Int) by omega,show (2:Int)=((2:Nat):Int) from rfl,vU,ae (by omega)]
   refine ⟨⟨(q - 2)/2,l++ [1],rfl,by omega,?_,h⟩,by first|omega|(dsimp only;omega)⟩
   rw [hd,show (q - 1) % 2=1 by omega,show (q - 1)/2=(q - 2)/2 by omega];simp
 ·have hq0:q=0:=by omega
  subst hq0
  rw [m4,List.append_nil] at hd
  rw [hd] at hK
  exact hK _ _ h
theorem IM {K:Array Value→World→Prop} (h:Hp E w F) (hK: ∀w',Hp E w' F→K (dZ (List.range 256) 0) w'):Cl Tryz.prog [.arr 257] oQ ⟨[]⟩ w K:=by
 refine FP.ok _ _ ?_
 refine Nw.mk h fun b2 w h=>GC h fun w h=>q0.es (by simp) ?_
 have hd:(dZ (List.range 256) 0).size=257:=e8 (by simp)
 refine ax.q h wG hd iv fun w h=> ?_
 exact Ld.xw h hd (hK _ h.tl)
theorem xn {L:List Nat} {r:Nat} {K:Bool→World→Prop} (h:Hp E w F) (hL:a6 L) (hr:r≤2147483647) (hK: ∀w',Hp E w' F→K true w'):Cl Tryz.prog [kB] jd ⟨[.agg (dZ L (r:Int))]⟩ w K:=by
 refine Bm.ok _ _ _ ?_
 have hLb:=gg hL.len
 (try simp only [ao,ak,al,Nat.zero_add,Nat.add_zero,Nat.reduceAdd,Bool.not_true,Bool.not_false,aF,aE,Option.isNone])
 refine Nw.mk h fun b3 w h=>Ld.p h hLb (Du h hL fun w h=> ?_)
 refine aa.t rfl (Ld.q h hLb rfl rfl (aa.dt (by omega) (Ld.q h hLb rfl rfl ?_)))
 rw [show decide ((r:Int)≤2147483647)=true from decide_eq_true (by omega)]
 exact hK _ h.tl
theorem IT {L:List Nat} {r:Nat} {K:Sl→Int→World→Prop} (h:Hp E w F) (hL:a6 L) (hr:r≤1000000) (hK: ∀s' w',Hp E w' (OI s' (bX r++ [257])::F)→K s' 0 w'):Cl Tryz.prog [kS,kI] oM ⟨[.agg (dZ L (r:Int))]⟩ w K:=by
 refine DP.ok _ _ _ ?_
 have hLb:=gg hL.len
 have hdl:=jQ r
 (try simp only [ao,ak,al,Nat.zero_add,Nat.add_zero,Nat.reduceAdd,Bool.not_true,Bool.not_false,aF,aE,Option.isNone])
 refine Nw.mk h fun b3 w h=>Ld.qw h hLb rfl (xn h hL (by omega) fun w h=> ?_)
 with_reducible refine aa.HV ?_
 refine Ld.q h hLb rfl rfl (Fj h hr fun s1 w h=>Nw.mk h fun b12 w h=>vu (x:=257) h (by omega) fun s w h=>hK s w ?_)
 exact h.du
theorem GF {L:List Nat} {r:Nat} {s:Sl} {b:List Nat} {K:Array Value→Sl→Int→World→Prop} (h:Hp E w F) (hL:a6 L) (hs:ad F (aC 1 s (b.map vB))) (hb: ∀x∈b,x<256) (hr:r+b.length≤1000000)
  (hK: ∀s' w',Hp E w' (OI s' (bc L r b).1::F)→a6 (bc L r b).2.1→(bc L r b).2.2≤1000000→K (dZ (bc L r b).2.1 ((bc L r b).2.2:Int)) s' 0 w'):
  Cl Tryz.prog [.arr 257,kS,kI] nM ⟨[.agg (dZ L (r:Int)),.slice s.base s.len s.cap]⟩ w K:=by
 refine CL.ok _ _ _ _ ?_
 have hLb:=gg hL.len
 have hlen:=vD (h.ag hs)
 (try simp only [ao,ak,al,Nat.zero_add,Nat.add_zero,Nat.reduceAdd,Bool.not_true,Bool.not_false,aF,aE,Option.isNone])
 refine Nw.mk h fun b4 w h=>Nw.mk h fun b6 w h=> ?_
 refine Ld.qw h hLb rfl (xn h hL (by omega) fun w h=> ?_)
 with_reducible refine aa.HV ?_
 refine Ld.q h hLb rfl rfl ?_
 rw [ae (by omega)]
 refine aa.df (by omega) ?_
 refine ⟨fun o i w=> ∃(k:Nat) (L':List Nat) (r':Nat) (out:List Nat),i=(k:Int)∧k≤b.length∧a6 L'∧out.length+r'≤r+k∧
  bc L r b=(out++(bc L' r' (b.drop k)).1,(bc L' r' (b.drop k)).2)∧
  Hp E w (OI o out::af b6 (.cells xZ 273 (0,0))::af b4 (.cells (dZ L' (r':Int)) 273 (0,0))::F),
  fun _ i _=>b.length - i.toNat,⟨0,L,r,[],rfl,by omega,hL,by simp,by simp,h.bl 1⟩,?_⟩
 rintro o i w ⟨k,L',r',out,rfl,hk,hL',hlo,he,h⟩
 have hLb':=gg hL'.len
 refine aa.dm (fun hlt=> ?_) (fun hge=> ?_)
 ·have hlt:k<b.length:=by omega
  have hc:=hb _ (List.getElem_mem hlt)
  have hi:=hL'.idx hc
  have hm:=Ij (hL'.take hi.1).len
  have hLm:=hL'.take hi.1
  have hLbm:=gg hLm.len
  have hdl:=jQ r'
  rw [List.drop_eq_getElem_cons hlt] at he
  have rest: ∀(b33:Nat) (w:World) (G:Sl→Int→World→Prop),(∀o' k' w',k'=((k+1:Nat):Int)→(∃(L':List Nat) (r':Nat) (out:List Nat),a6 L'∧out.length+r'≤r+(k+1)∧bc L r b=(out++(bc L' r' (b.drop (k+1))).1,(bc L' r' (b.drop (k+1))).2)∧
    Hp E w' (OI o' out::af b6 (.cells xZ 273 (0,0))::af b4 (.cells (dZ L' (r':Int)) 273 (0,0))::F))→G o' k' w')→
    Hp E w (af b33 (.cells ⟨bd (bH L' (L'.idxOf b[k]))⟩ 110 (0,0))::OI o out::af b6 (.cells xZ 273 (0,0))::af b4 (.cells (dZ L' (r':Int)) 273 (0,0))::F)→
    Ld (.arr 256) ⟨b33,0,none⟩ w fun x35=>ax 256 ⟨b4,0,none⟩ x35 w fun w_36=>
     aa ((L'.idxOf b[k]:Int)==0)
      (Ld kI ⟨b4,256,none⟩ w_36 fun Run37=>St ⟨b4,256,none⟩ (.int .i64 (i64 (Run37+1))) w_36 fun w_38=>G o (i64 ((k:Int)+1)) w_38)
      (Ld kI ⟨b4,256,none⟩ w_36 fun Run39=>Cl Tryz.prog [kS] gh ⟨[.int .i64 Run39]⟩ w_36 fun r41 w_40=>
       au Tryz.prog (Builtin.append_ #[142,142] 142 ⟨[.slice o.base o.len o.cap,.slice r41.base r41.len r41.cap]⟩) kS w_40 fun s43 w_42=>
       Nw 3 ⟨[.int .i64 (i64 ((L'.idxOf b[k]:Int)+1))]⟩ w_42 fun b45 w_44=>
       au Tryz.prog (Builtin.append_ #[142,142] 142 ⟨[.slice s43.base s43.len s43.cap,.slice (some ⟨b45,0,none⟩) 1 1]⟩) kS w_44 fun s47 w_46=>
       St ⟨b4,256,none⟩ (.int .i64 0) w_46 fun w_48=>G s47 (i64 ((k:Int)+1)) w_48):=by
   intro b33 w G hG h
   rw [ae (x:=(k:Int)+1) (by omega)]
   refine Ld.xw h hm ?_
   refine ax.xm (b:=b4) (pre:= []) (aL:=bd L') (post:= [.int .i64 (r':Int)]) h rfl rfl hLb' hm (fun v hv=>List.all_eq_true.1 bR v hv) fun w h=> ?_
   have h:Hp E w (af b33 (.cells ⟨bd (bH L' (L'.idxOf b[k]))⟩ 110 (0,0))::OI o out::af b6 (.cells xZ 273 (0,0))::af b4 (.cells (dZ (bH L' (L'.idxOf b[k])) (r':Int)) 273 (0,0))::F):=h
   have h:=h.no 0
   by_cases h0:L'.idxOf b[k]=0
   ·rw [bc,if_pos h0] at he
    rw [h0] at h hLm hLbm⊢
    refine aa.et rfl (Ld.q h hLbm rfl rfl ?_)
    rw [ae (by omega)]
    refine St.q h hLbm rfl rfl rfl fun w h=> ?_
    dsimp only [ca,aJ] at h
    rw [show (r':Int)+1=((r'+1:Nat):Int) by omega] at h
    exact hG _ _ _ (by omega) ⟨_,r'+1,out,hLm,by omega,he,h⟩
   ·rw [bc,if_neg h0] at he
    refine aa.ef (by omega) (Ld.q h hLbm rfl rfl (Fj h (by omega) fun s1 w h=> ?_))
    refine Dy (h.at 1) ad.own (by omega) (by omega) fun s2 w h=>Nw.mk (h.no 1) fun b40 w h=> ?_
    rw [ae (by omega),show (L'.idxOf b[k]:Int)+1=((L'.idxOf b[k]+1:Nat):Int) by omega] at h
    refine vu h (by rw [List.length_append];omega) fun s3 w h=> ?_
    refine St.q (b:=b4) h hLbm rfl rfl rfl fun w h=> ?_
    dsimp only [ca,aJ] at h
    refine hG _ _ _ (by omega) ⟨_,0,out++bX r'++ [L'.idxOf b[k]+1],hLm,?_,?_,h⟩
    ·rw [List.length_append,List.length_append,List.length_singleton];omega
    ·rw [he];simp
  have hG: ∀o' k' w',k'=((k+1:Nat):Int)→(∃(L':List Nat) (r':Nat) (out:List Nat),a6 L'∧out.length+r'≤r+(k+1)∧bc L r b=(out++(bc L' r' (b.drop (k+1))).1,(bc L' r' (b.drop (k+1))).2)∧
    Hp E w' (OI o' out::af b6 (.cells xZ 273 (0,0))::af b4 (.cells (dZ L' (r':Int)) 273 (0,0))::F))→
    (∃(k:Nat) (L':List Nat) (r':Nat) (out:List Nat),k'=(k:Int)∧k≤b.length∧a6 L'∧out.length+r'≤r+k∧bc L r b=(out++(bc L' r' (b.drop k)).1,(bc L' r' (b.drop k)).2)∧
    Hp E w' (OI o' out::af b6 (.cells xZ 273 (0,0))::af b4 (.cells (dZ L' (r':Int)) 273 (0,0))::F))∧b.length - k'.toNat<b.length - ((k:Int)).toNat:=by
   rintro o' k' w' rfl ⟨L2,r2,out2,h1,h2,h3,h4⟩
   exact ⟨⟨k+1,L2,r2,out2,rfl,by omega,h1,h2,h3,h4⟩,by omega⟩
  have h:=h.drew (n:=w.drawn+1)
  have hSl: ∀{w:World} {l:List HP} [lI l F],Hp E w l→aC 1 s (b.map vB) w:=fun h=>(h.tl:Hp E _ F).ag hs
  refine ⟨fun w=>dv b4 (dZ L' (r':Int)) 273 (0,0) w∧aC 1 s (b.map vB) w,⟨h.hb,hSl h⟩,?_⟩
  refine aH.p (fun _ h=>h.1) hLb' ?_
  refine an.FB (sc:= .int .u8) (hSl h) (fun _ h=>h.2) rfl (by rw [List.length_map];exact hlt) (b[k]:Int) (by simp [Sc.enc,vB,hlt]) ⟨?_,?_⟩
  ·refine Au h hL' hc fun w h=>⟨⟨h.hb,hSl h⟩,Nw.mk h fun b33 w h=>⟨⟨h.hb,hSl h⟩,?_⟩⟩
   refine ax.q h wc hm bR fun w h=>⟨⟨h.hb,hSl h⟩,?_⟩
   exact rest b33 w _ hG h
  ·refine Nw.mk h fun b33 w h=>⟨⟨h.hb,hSl h⟩,Au h hL' hc fun w h=>⟨⟨h.hb,hSl h⟩,?_⟩⟩
   refine ax.q h wc hm bR fun w h=>⟨⟨h.hb,hSl h⟩,?_⟩
   exact rest b33 w _ hG h
 ·have hk2:k=b.length:=by omega
  subst hk2
  rw [List.drop_of_length_le (Nat.le_refl _),bc,List.append_nil] at he
  rw [he] at hK
  dsimp only at hK
  refine Ld.qw h hLb' rfl ?_
  refine ax.q h wG (e8 hL'.len) iv fun w h=>Ld.xw h (e8 hL'.len) (hK o w h.du hL' (by omega))
theorem tE: ∀(b L:List Nat) (r:Nat),(bc L r b).1.length+(bc L r b).2.2≤r+b.length
 | [],L,r=>by simp [bc]
 |c::b,L,r=>by
  rw [bc]
  split
  ·have:=tE b (bH L 0) (r+1)
   simp only [List.length_cons];omega
  ·have:=tE b (bH L (L.idxOf c)) 0
   have:=jQ r
   simp only [List.length_append,List.length_cons];omega
theorem JL {s:Sl} {b:List Nat} {K:Sl→World→Prop} (h:Hp E w F) (hs:ad F (aC 1 s (b.map vB))) (hb: ∀x∈b,x<256) (hr:b.length≤1000000) (hK: ∀s' w',Hp E w' (OI s' (syms b)::F)→K s' w'):
  Cl Tryz.prog [kS] oT ⟨[.slice s.base s.len s.cap]⟩ w K:=by
 refine Fm.ok _ _ _ ?_
 refine IM h fun w h=>GF (r:=0) h a6.range hs hb (by rw [Nat.zero_add];exact hr) fun s1 w h hL2 hr2=>Nw.mk h fun b9 w h=> ?_
 refine ax.q h wG (e8 hL2.len) iv fun w h=>Ld.xw h (e8 hL2.len) ?_
 have e0:=tE b (List.range 256) 0
 have hdl:=jQ (bc (List.range 256) 0 b).2.2
 refine IT h hL2 hr2 fun s2 w h=> ?_
 refine Dy (h.at 2) ad.own (by omega) (by rw [List.length_append,List.length_singleton];omega) fun s3 w h=>hK s3 w ?_
 rw [show syms b=(bc (List.range 256) 0 b).1++(bX (bc (List.range 256) 0 b).2.2++ [257]) by unfold syms cE;simp]
 exact h.du
end
end Go.Proofs.YtgglghjnakclmaaGreat
namespace Go.Proofs.YtgglghjnakclmaaGreat
open Go Go.Vc
set_option maxRecDepth 100000
theorem F2.ok (a:(Array Value)) (R:Sl→Int→World→Prop) w (h:
 Nw 104 a w fun c b=>
 Ld (.arr 258) ⟨c,0,none⟩ b fun d=>
 Cl Pg [kB] lW ⟨[(.agg d)]⟩ b fun (f:Bool) e=>
 aa (!f)
 (R (⟨none,0,0⟩:Sl) 2 e)
 (Ld (.arr 258) ⟨c,0,none⟩ e fun g=>
 aw ⟨c,0,none⟩ 258 0 1 fun h=>
 Ld (aq .u8) h e fun (i:Int)=>
 Cl Pg [kS] ng ⟨[(.agg g),(ni (i64 i))]⟩ e fun (k:Sl) j=>
 R k 0 j)):Cl Pg [kS,kI] qj ⟨[(.agg a)]⟩ w R:=co Tryz.f127 [] h
theorem Dx.ok (a:(Array Value)) (b:Int) (R:Sl→World→Prop) w (h:
 Nw 104 a w fun d c=>
 (8:Int)≠0∧
 (2:Int)≠0∧
 (4:Int)≠0∧
 (2:Int)≠0∧
 (2:Int)≠0∧
 (2:Int)≠0∧
 (2:Int)≠0∧
 Nw 3 ⟨[(ni (Int.tmod (i64 (Int.tdiv b (8:Int))) (2:Int))),(ni (Int.tmod (i64 (Int.tdiv b (4:Int))) (2:Int))),(ni (Int.tmod (i64 (Int.tdiv b (2:Int))) (2:Int))),(ni (Int.tmod b (2:Int)))]⟩ c fun f e=>
 zx b (⟨some ⟨f,0,none⟩,4,4⟩:Sl) 0 e fun g h (i:Int) (j:Sl) (k:Int) l=>
 aa (decide (k<258))
 (aw ⟨d,0,none⟩ 258 k 1 fun m=>
 Ld (aq .u8) m l fun (n:Int)=>
 Cl Pg [kS] oZ ⟨[(ni i),(ni (i64 n))]⟩ l fun (p:Sl) o=>
 au Pg (Builtin.append_ #[142,142] 142 ⟨[(ah j),(ah p)]⟩) kS o fun (r:Sl) q=>
 aw ⟨d,0,none⟩ 258 k 1 fun s=>
 Ld (aq .u8) s q fun (t:Int)=>
 g (i64 t) r (i64 (k+1)) q∧h (i64 t) r (i64 (k+1)) q<h i j k l)
 (R j l)):Cl Pg [kS] ng ⟨[(.agg a),(ni b)]⟩ w R:=co Tryz.f183 [(7,[(1,kI),(5,kS),(6,kI)])] h
theorem Et.ok (a:Int) (b:Int) (R:Sl→World→Prop) w (h:
 br a (⟨none,0,0⟩:Sl) w fun c d (e:Int) (f:Sl) g=>
 aa (decide (e<b))
 (Nw 3 ⟨[(ni 1),(ni 0)]⟩ g fun i h=>
 au Pg (Builtin.append_ #[142,142] 142 ⟨[(ah f),(ah (⟨some ⟨i,0,none⟩,2,2⟩:Sl))]⟩) kS h fun (k:Sl) j=>
 c (i64 (e+1)) k j∧d (i64 (e+1)) k j<d e f g)
 (br e f g fun l m (n:Int) (o:Sl) p=>
 aa (decide (n>b))
 (Nw 3 ⟨[(ni 1),(ni 1)]⟩ p fun r q=>
 au Pg (Builtin.append_ #[142,142] 142 ⟨[(ah o),(ah (⟨some ⟨r,0,none⟩,2,2⟩:Sl))]⟩) kS q fun (t:Sl) s=>
 l (i64 (n - 1)) t s∧m (i64 (n - 1)) t s<m n o p)
 (Nw 3 ⟨[(ni 0)]⟩ p fun v u=>
 au Pg (Builtin.append_ #[142,142] 142 ⟨[(ah o),(ah (⟨some ⟨v,0,none⟩,1,1⟩:Sl))]⟩) kS u fun (y:Sl) x=>
 R y x))):Cl Pg [kS] oZ ⟨[(ni a),(ni b)]⟩ w R:=co Tryz.f247 [(5,[(0,kI),(5,kS)]),(13,[(0,kI),(5,kS)])] h
end Go.Proofs.YtgglghjnakclmaaGreat
namespace Go.Proofs.YtgglghjnakclmaaGreat
open Go Go.Vc
set_option maxRecDepth 100000
theorem BC.ok (a:(Array Value)) (R:Bool→World→Prop) w (h:
 Nw 104 a w fun c b=>
 Ld (.arr 258) ⟨c,0,none⟩ b fun d=>
 Cl Pg [kI] o4 ⟨[(.agg d)]⟩ b fun (f:Int) e=>
 aa (f==32768)
 (aw ⟨c,0,none⟩ 258 257 1 fun g=>
 Ld (aq .u8) g e fun (h:Int)=>
 R (h !=0) e)
 (R false e)):Cl Pg [kB] lW ⟨[(.agg a)]⟩ w R:=co Tryz.f182 [] h
theorem D2.ok (a:(Array Value)) (R:Int→World→Prop) w (h:
 Nw 104 a w fun c b=>
 br 0 0 b fun d e (f:Int) (g:Int) h=>
 aa (decide (g<258))
 (aw ⟨c,0,none⟩ 258 g 1 fun i=>
 Ld (aq .u8) i h fun (j:Int)=>
 Cl Pg [kI] lR ⟨[(.int .u8 j)]⟩ h fun (l:Int) k=>
 d (i64 (f+l)) (i64 (g+1)) k∧e (i64 (f+l)) (i64 (g+1)) k<e f g h)
 (R f h)):Cl Pg [kI] o4 ⟨[(.agg a)]⟩ w R:=co Tryz.f246 [(7,[(3,kI),(4,kI)])] h
theorem BJ.ok (a:Int) (R:Int→World→Prop) w (h:
 aa (a==0)
 (R 0 w)
 (aa (decide (a>15))
 (R 32769 w)
 (br 32768 0 w fun b c (d:Int) (e:Int) f=>
 aa (decide (e<a))
 ((2:Int)≠0∧
 b (i64 (Int.tdiv d (2:Int))) (u8 (e+1)) f∧c (i64 (Int.tdiv d (2:Int))) (u8 (e+1)) f<c d e f)
 (R d f)))):Cl Pg [kI] lR ⟨[(.int .u8 a)]⟩ w R:=co Tryz.f295 [(17,[(3,kI),(4,(aq .u8))])] h
end Go.Proofs.YtgglghjnakclmaaGreat
