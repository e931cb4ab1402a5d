/- Texts packed together by program; spaces struck by program. Conditions: as each theorem states. -/
import Derived.Test.YtgglghjnakclmaaGreatQdc
set_option linter.unusedSimpArgs false
set_option linter.unusedVariables false
namespace Go.Pm
abbrev It:=Nat×Bool
def kA (l:List It):Nat:=(l.map (·.1)).sum
def aE (l:List It):Nat:=(l.filter (·.2)).length
def Up (l:List It):Prop:=l.Pairwise fun a b=>a.1≤b.1
def aU:List It→List It
 |a::b::l=>(a.1+b.1,false)::aU l
 |_=> []
def bK (A:List It):List It→List It
 | []=>A
 |p::B=>A.takeWhile (fun a=>decide (a.1≤p.1))++p::bK (A.dropWhile fun a=>decide (a.1≤p.1)) B
theorem mN {A:List It}:bK A []=A:=rfl
theorem jR: ∀{B:List It},bK [] B=B
 | []=>rfl
 |p::B=>by simp [bK,jR]
theorem p6 {a p:It} {A B:List It} (h:a.1≤p.1):bK (a::A) (p::B)=a::bK A (p::B):=by simp [bK,h]
theorem pI {a p:It} {A B:List It} (h: ¬a.1≤p.1):bK (a::A) (p::B)=p::bK (a::A) B:=by simp [bK,h]
theorem mR {P:List It→List It→Prop} (h1: ∀B,P [] B) (h2: ∀a A,P (a::A) []) (h3: ∀a A p B,a.1≤p.1→P A (p::B)→P (a::A) (p::B)) (h4: ∀a A p B,¬a.1≤p.1→P (a::A) B→P (a::A) (p::B)):
  ∀A B,P A B
 | [],B=>h1 B
 |a::A,[]=>h2 a A
 |a::A,p::B=>if h:a.1≤p.1 then h3 a A p B h (mR h1 h2 h3 h4 A (p::B)) else h4 a A p B h (mR h1 h2 h3 h4 (a::A) B)
theorem kT: ∀A B,(bK A B).Perm (A++B):=by
 refine mR (fun B=>by rw [jR];exact .refl _) (fun a A=>by rw [mN];simp) (fun a A p B h ih=> ?_) (fun a A p B h ih=> ?_)
 ·rw [p6 h];exact ih.cons a
 ·rw [pI h]
  exact (ih.cons p).trans (List.perm_middle.symm)
theorem wJ (A B:List It):(bK A B).length=A.length+B.length:=by rw [(kT A B).length_eq,List.length_append]
theorem E8: ∀A B,Up A→Up B→Up (bK A B):=by
 refine mR (fun B _ h=>by rw [jR];exact h) (fun a A h _=>by rw [mN];exact h) (fun a A p B h ih hA hB=> ?_) (fun a A p B h ih hA hB=> ?_)
 ·rw [p6 h]
  refine List.pairwise_cons.2 ⟨fun x hx=> ?_,ih (List.pairwise_cons.1 hA).2 hB⟩
  rcases List.mem_append.1 ((kT _ _).mem_iff.1 hx) with hx|hx
  ·exact (List.pairwise_cons.1 hA).1 x hx
  ·rcases List.mem_cons.1 hx with rfl|hx
   ·exact h
   ·exact Nat.le_trans h ((List.pairwise_cons.1 hB).1 x hx)
 ·rw [pI h]
  refine List.pairwise_cons.2 ⟨fun x hx=> ?_,ih hA (List.pairwise_cons.1 hB).2⟩
  rcases List.mem_append.1 ((kT _ _).mem_iff.1 hx) with hx|hx
  ·rcases List.mem_cons.1 hx with rfl|hx
   ·omega
   ·have:=(List.pairwise_cons.1 hA).1 x hx;omega
  ·exact (List.pairwise_cons.1 hB).1 x hx
theorem C0: ∀A B,Up A→∀m,m≤A.length+B.length→∃a b,a+b=m∧a≤A.length∧b≤B.length∧((bK A B).take m).Perm (A.take a++B.take b)∧∀x∈B.take b,∀y∈A.drop a,x.1<y.1:=by
 refine mR (fun B _ m hm=> ?_) (fun a A _ m hm=> ?_) (fun a A p B h ih hA m hm=> ?_) (fun a A p B h ih hA m hm=> ?_)
 ·exact ⟨0,m,by omega,Nat.le_refl _,by simpa using hm,by rw [jR];simp,by simp⟩
 ·exact ⟨m,0,rfl,by simpa using hm,Nat.le_refl _,by rw [mN];simp,by simp⟩
 ·cases m with
  |zero=>exact ⟨0,0,rfl,Nat.zero_le _,Nat.zero_le _,by simp,by simp⟩
  |succ m=>
   obtain ⟨x,y,h1,h2,h3,h4,h5⟩:=ih (List.pairwise_cons.1 hA).2 m (by simp at hm⊢;omega)
   refine ⟨x+1,y,by omega,by simpa using h2,h3,?_,by simpa using h5⟩
   rw [p6 h,List.take_succ_cons,List.take_succ_cons]
   exact h4.cons a
 ·cases m with
  |zero=>exact ⟨0,0,rfl,Nat.zero_le _,Nat.zero_le _,by simp,by simp⟩
  |succ m=>
   obtain ⟨x,y,h1,h2,h3,h4,h5⟩:=ih hA m (by simp at hm⊢;omega)
   refine ⟨x,y+1,by omega,h2,by simpa using h3,?_,?_⟩
   ·rw [pI h,List.take_succ_cons,List.take_succ_cons]
    exact (h4.cons p).trans List.perm_middle.symm
   ·intro u hu v hv
    rw [List.take_succ_cons] at hu
    rcases List.mem_cons.1 hu with rfl|hu
    ·have hv:v∈a::A:=List.mem_of_mem_drop hv
     rcases List.mem_cons.1 hv with rfl|hv
     ·omega
     ·have:=(List.pairwise_cons.1 hA).1 v hv;omega
    ·exact h5 u hu v hv
theorem tX (a:It) (l:List It):kA (a::l)=a.1+kA l:=by simp [kA]
theorem DE (l l':List It):kA (l++l')=kA l+kA l':=by simp [kA]
theorem H7 {l l':List It} (h:l.Perm l'):kA l=kA l':=(h.map _).sum_nat
theorem nF (l l':List It):aE (l++l')=aE l+aE l':=by simp [aE]
theorem vb {l l':List It} (h:l.Perm l'):aE l=aE l':=(h.filter _).length_eq
theorem eh: ∀l:List It,(aU l).length=l.length/2
 | []=>rfl
 | [_]=>by simp [aU]
 |_::_::l=>by
  simp only [aU,List.length_cons,eh l];omega
theorem my: ∀(l:List It) (x:It),x∈aU l→x.2=false
 | [],_,h=>by simp [aU] at h
 | [_],_,h=>by simp [aU] at h
 |a::b::l,x,h=>by
  rw [aU] at h
  rcases List.mem_cons.1 h with rfl|h
  ·rfl
  ·exact my l x h
theorem vM: ∀(l:List It) (b:Nat),2*b≤l.length→kA ((aU l).take b)=kA (l.take (2*b))
 |_,0,_=>by simp [kA]
 | [],b+1,h=>by simp at h
 | [_],b+1,h=>by simp only [List.length_singleton] at h;omega
 |x::y::l,b+1,h=>by
  rw [aU,List.take_succ_cons,tX,show 2*(b+1)=(2*b+1)+1 by omega,List.take_succ_cons,List.take_succ_cons,tX,tX,vM l b (by simp only [List.length_cons] at h;omega)]
  omega
theorem Ao: ∀(l:List It) (b:Nat) (x:It),2*b≤l.length→x∈l.take (2*b)→∃p∈(aU l).take b,x.1≤p.1
 |_,0,_,_,h=>by simp at h
 | [],b+1,_,h,_=>by simp at h
 | [_],b+1,_,h,_=>by simp only [List.length_singleton] at h;omega
 |u::v::l,b+1,x,h,hx=>by
  rw [show 2*(b+1)=(2*b+1)+1 by omega,List.take_succ_cons,List.take_succ_cons] at hx
  rw [aU,List.take_succ_cons]
  rcases List.mem_cons.1 hx with rfl|hx
  ·exact ⟨_,List.mem_cons_self,by simp⟩
  ·rcases List.mem_cons.1 hx with rfl|hx
   ·exact ⟨_,List.mem_cons_self,by simp⟩
   ·obtain ⟨p,hp,hl⟩:=Ao l b x (by simp only [List.length_cons] at h;omega) hx
    exact ⟨p,List.mem_cons_of_mem _ hp,hl⟩
theorem ud: ∀l:List It,Up l→Up (aU l)
 | [],_=>List.Pairwise.nil
 | [_],_=>List.Pairwise.nil
 |a::b::l,h=>by
  obtain ⟨h1,h2⟩:=List.pairwise_cons.1 h
  obtain ⟨h3,h4⟩:=List.pairwise_cons.1 h2
  refine List.pairwise_cons.2 ⟨fun p hp=> ?_,ud l h4⟩
  have: ∀(l:List It),(∀x∈l,a.1≤x.1∧b.1≤x.1)→∀p∈aU l,a.1+b.1≤p.1:=by
   intro l
   induction l using aU.induct with
   |case1 u v l ih=>
    intro hx p hp
    rw [aU] at hp
    rcases List.mem_cons.1 hp with rfl|hp
    ·have:=hx u (by simp);have:=hx v (by simp);simp only;omega
    ·exact ih (fun x hx'=>hx x (by simp [hx'])) p hp
   |case2 l hl=>intro _ p hp;rw [aU] at hp
                ·simp at hp
                ·exact hl
  exact this l (fun x hx=>⟨h1 x (List.mem_cons_of_mem _ hx),h3 x hx⟩) p hp
def bA (ws:List Nat):List It:=ws.map fun w=>(w,true)
def row (ws:List Nat):Nat→List It
 |0=>bA ws
 |k+1=>bK (bA ws) (aU (row ws k))
def od (ws:List Nat):Prop:=ws.Pairwise (·≤·)
theorem sF {ws:List Nat} (h:od ws):Up (bA ws):=List.Pairwise.map _ (fun _ _ h=>h) h
theorem ER {ws:List Nat} (h:od ws): ∀k,Up (row ws k)
 |0=>sF h
 |k+1=>E8 _ _ (sF h) (ud _ (ER h k))
theorem cm (ws:List Nat):(bA ws).length=ws.length:=List.length_map _
theorem tg (ws:List Nat) (k:Nat):(row ws (k+1)).length=ws.length+(row ws k).length/2:=by rw [row,wJ,cm,eh]
theorem C4 (ws:List Nat):kA (bA ws)=ws.sum:=by
 unfold kA bA
 rw [List.map_map]
 congr 1
 exact List.map_id _
theorem kH (ws:List Nat) (a:Nat):(bA ws).take a=bA (ws.take a):=List.map_take.symm
theorem oI (ws:List Nat):aE (bA ws)=ws.length:=by
 unfold aE bA
 rw [List.filter_eq_self.2]
 ·simp
 ·intro x hx;obtain ⟨w,_,rfl⟩:=List.mem_map.1 hx;rfl
theorem Ap {l:List It} (h: ∀x∈l,x.2=false):aE l=0:=by
 unfold aE
 rw [List.length_eq_zero_iff,List.filter_eq_nil_iff]
 intro x hx;simp [h x hx]
theorem qI {ws:List Nat}: ∀k,ws.length≤2^(k+1)→2*ws.length - 2≤(row ws k).length:=by
 have key: ∀k c,2^k*c≥ws.length→1≤c→2*ws.length≤(row ws k).length+c:=by
  intro k
  induction k with
  |zero=>intro c h _;simp only [row,cm];omega
  |succ k ih=>
   intro c h hc
   have:=ih (2*c) (by rw [Nat.pow_succ] at h;rw [←Nat.mul_assoc];exact h) (by omega)
   rw [tg];omega
 intro k h
 have:=key k 2 (by rw [Nat.pow_succ] at h;exact h) (by omega)
 omega
theorem jN {ws:List Nat} (h:od ws) (k m:Nat) (hm:m≤(row ws (k+1)).length):aE ((row ws (k+1)).take m)≤m∧aE ((row ws (k+1)).take m)≤ws.length∧2*(m - aE ((row ws (k+1)).take m))≤(row ws k).length∧
  kA ((row ws (k+1)).take m)=(ws.take (aE ((row ws (k+1)).take m))).sum+kA ((row ws k).take (2*(m - aE ((row ws (k+1)).take m))))∧
  (∀x∈(row ws k).take (2*(m - aE ((row ws (k+1)).take m))),∀y∈ws.drop (aE ((row ws (k+1)).take m)),x.1<y):=by
 have hl:=tg ws k
 obtain ⟨a,b,h1,h2,h3,h4,h5⟩:=C0 (bA ws) (aU (row ws k)) (sF h) m (by rw [cm,eh,←hl];exact hm)
 rw [cm] at h2
 rw [eh] at h3
 have hlf:aE ((row ws (k+1)).take m)=a:=by
  rw [row,vb h4,nF,kH,oI,Ap fun x hx=>my _ x (List.mem_of_mem_take hx),List.length_take]
  omega
 rw [hlf]
 have hb:m - a=b:=by omega
 rw [hb]
 refine ⟨by omega,h2,by omega,?_,?_⟩
 ·rw [row,H7 h4,DE,kH,C4,vM _ _ (by omega)]
 ·intro x hx y hy
  obtain ⟨p,hp,hxp⟩:=Ao _ _ _ (by omega) hx
  have:=h5 p hp (y,true) (by
   unfold bA
   rw [←List.map_drop]
   exact List.mem_map_of_mem hy)
  exact Nat.lt_of_le_of_lt hxp this
theorem ny {ws:List Nat} (m:Nat) (hm:m≤ws.length):aE ((row ws 0).take m)=m∧kA ((row ws 0).take m)=(ws.take m).sum:=by
 rw [row,kH]
 exact ⟨by rw [oI,List.length_take];omega,C4 _⟩
def whole (ws:List Nat) (k m:Nat):Nat:=aE ((row ws k).take m)
def lv (ws:List Nat):Nat→Nat→Nat→Nat
 |0,m,i=>if i<whole ws 0 m then 1 else 0
 |k+1,m,i=>(if i<whole ws (k+1) m then 1 else 0)+lv ws k (2*(m - whole ws (k+1) m)) i
theorem nested {ws:List Nat} (h:od ws) (k m:Nat) (hm:m≤(row ws (k+1)).length):whole ws k (2*(m - whole ws (k+1) m))≤whole ws (k+1) m:=by
 obtain ⟨c1,c2,c3,c4,c5⟩:=jN h k m hm
 generalize hq:whole ws (k+1) m=a
 unfold whole at hq
 rw [hq] at c1 c2 c3 c4 c5
 rcases Nat.lt_or_ge a (whole ws k (2*(m - a))) with hlt|hge
 ·exfalso
  have hmem: ∀i,i<whole ws k (2*(m - a))→∃(hi:i<ws.length),(ws[i],true)∈(row ws k).take (2*(m - a)):=by
   cases k with
   |zero=>
    intro i hi
    have e0:=ny (ws:=ws) (2*(m - a)) (by rw [row,cm] at c3;exact c3)
    unfold whole at hi
    rw [e0.1] at hi
    rw [row,cm] at c3
    refine ⟨by omega,?_⟩
    rw [row,kH]
    unfold bA
    refine List.mem_map_of_mem ?_
    rw [List.mem_iff_getElem]
    exact ⟨i,by rw [List.length_take];omega,by simp⟩
   |succ k=>
    intro i hi
    obtain ⟨a',b',h1,h2,h3,h4,h5⟩:=C0 (bA ws) (aU (row ws k)) (sF h) (2*(m - a)) (by rw [cm,eh,←tg];exact c3)
    rw [cm] at h2
    have hlf:whole ws (k+1) (2*(m - a))=a':=by
     unfold whole
     rw [row,vb h4,nF,kH,oI,Ap fun x hx=>my _ x (List.mem_of_mem_take hx),List.length_take]
     omega
    rw [hlf] at hi
    refine ⟨by omega,?_⟩
    rw [row,h4.mem_iff,List.mem_append]
    left
    rw [kH]
    unfold bA
    refine List.mem_map_of_mem ?_
    rw [List.mem_iff_getElem]
    exact ⟨i,by rw [List.length_take];omega,by simp⟩
  obtain ⟨hi,hx⟩:=hmem a hlt
  have:=c5 _ hx ws[a] (by rw [List.mem_iff_getElem];exact ⟨0,by rw [List.length_drop];omega,by simp⟩)
  simp at this
 ·exact hge
theorem xG {ws:List Nat} (h:od ws): ∀(k m i:Nat),m≤(row ws k).length→whole ws k m≤i→lv ws k m i=0
 |0,m,i,_,hi=>by unfold lv;rw [if_neg (by omega)]
 |k+1,m,i,hm,hi=>by
  have hn:=nested h k m hm
  unfold lv
  rw [if_neg (by omega),Nat.zero_add]
  exact xG h k _ i (jN h k m hm).2.2.1 (by omega)
theorem vQ (ws:List Nat): ∀(k m i:Nat),lv ws k m i≤k+1
 |0,m,i=>by unfold lv;split<;>omega
 |k+1,m,i=>by
  have:=vQ ws k (2*(m - whole ws (k+1) m)) i
  unfold lv;split<;>omega
def aI (n:Nat) (f:Nat→Nat):Nat:=((List.range n).map f).sum
theorem bS (n:Nat) (f:Nat→Nat):aI (n+1) f=aI n f+f n:=by
 unfold aI
 rw [List.range_succ,List.map_append,List.sum_append];simp
theorem AA (n:Nat) (f g:Nat→Nat):aI n (fun i=>f i+g i)=aI n f+aI n g:=by
 induction n with
 |zero=>rfl
 |succ n ih=>rw [bS,bS,bS,ih];omega
theorem mC {n:Nat} {f g:Nat→Nat} (h: ∀i,i<n→f i=g i):aI n f=aI n g:=by
 unfold aI
 congr 1
 exact List.map_congr_left fun i hi=>h i (List.mem_range.1 hi)
theorem DM (n c:Nat):aI n (fun _=>c)=n*c:=by
 induction n with
 |zero=>simp [aI]
 |succ n ih=>rw [bS,ih,Nat.succ_mul]
theorem Ha (n c:Nat) (f:Nat→Nat):aI n (fun i=>c*f i)=c*aI n f:=by
 induction n with
 |zero=>rfl
 |succ n ih=>rw [bS,bS,ih,Nat.mul_add]
theorem vg (n a:Nat) (ha:a≤n) (c:Nat):aI n (fun i=>(if i<a then 1 else 0)*c)=a*c:=by
 have key: ∀n,aI n (fun i=>(if i<a then 1 else 0)*c)=min n a*c:=by
  intro n
  induction n with
  |zero=>simp [aI]
  |succ n ih=>
   rw [bS,ih]
   by_cases hna:n<a
   ·rw [if_pos hna,Nat.min_eq_left (by omega),Nat.min_eq_left (by omega),Nat.one_mul,Nat.succ_mul]
   ·rw [if_neg hna,Nat.min_eq_right (by omega),Nat.min_eq_right (by omega)];simp
 rw [key,Nat.min_eq_right ha]
def lw (ws:List Nat):Nat→Nat→Nat→Nat
 |0,m,i=>if i<whole ws 0 m then 1 else 0
 |k+1,m,i=>(if i<whole ws (k+1) m then 1 else 0)*2^(k+1)+lw ws k (2*(m - whole ws (k+1) m)) i
theorem FB {ws:List Nat} (h:od ws): ∀(k m:Nat),m≤(row ws k).length→aI ws.length (lw ws k m)=m*2^k
 |0,m,hm=>by
  have hm':m≤ws.length:=by rw [row,cm] at hm;exact hm
  have e:=ny (ws:=ws) m hm'
  have:=vg ws.length m hm' 1
  have e2:aI ws.length (lw ws 0 m)=aI ws.length (fun i=>(if i<m then 1 else 0)*1):=mC fun i _=>by
   unfold lw whole
   rw [e.1,Nat.mul_one]
  rw [e2,this]
 |k+1,m,hm=>by
  obtain ⟨c1,c2,c3,c4,c5⟩:=jN h k m hm
  have ih:=FB h k (2*(m - whole ws (k+1) m)) c3
  have e:aI ws.length (lw ws (k+1) m)=aI ws.length (fun i=>(if i<whole ws (k+1) m then 1 else 0)*2^(k+1)+lw ws k (2*(m - whole ws (k+1) m)) i):=rfl
  have c1':whole ws (k+1) m≤m:=c1
  have c2':whole ws (k+1) m≤ws.length:=c2
  rw [e,AA,vg _ _ c2',ih,Nat.mul_comm 2,Nat.mul_assoc,←Nat.pow_succ',←Nat.add_mul]
  congr 1;omega
theorem Ix {ws:List Nat} (h:od ws): ∀(k m i:Nat),m≤(row ws k).length→lw ws k m i+2^(k+1 - lv ws k m i)=2^(k+1)
 |0,m,i,_=>by unfold lw lv;split<;>rfl
 |k+1,m,i,hm=>by
  have c3:=(jN h k m hm).2.2.1
  have ih:=Ix h k (2*(m - whole ws (k+1) m)) i c3
  have hle:=vQ ws k (2*(m - whole ws (k+1) m)) i
  have hp:=Nat.pow_succ (n:=2) (m:=k+1)
  unfold lw lv
  by_cases hi:i<whole ws (k+1) m
  ·rw [if_pos hi,Nat.one_mul,show k+1+1 - (1+lv ws k (2*(m - whole ws (k+1) m)) i)=k+1 - lv ws k (2*(m - whole ws (k+1) m)) i by omega]
   omega
  ·have hn:=nested h k m hm
   have hz:=xG h k (2*(m - whole ws (k+1) m)) i c3 (by omega)
   rw [hz] at ih⊢
   rw [if_neg hi]
   simp only [Nat.zero_mul,Nat.zero_add,Nat.sub_zero] at ih⊢
   omega
theorem Ab {ws:List Nat} (h:od ws) (k:Nat) (hn:2≤ws.length) (hk:ws.length≤2^(k+1)):aI ws.length (fun i=>2^(k+1 - lv ws k (2*ws.length - 2) i))=2^(k+1):=by
 have hm:=qI (ws:=ws) k hk
 have h1:=FB h k _ hm
 have h2:=AA ws.length (lw ws k (2*ws.length - 2)) (fun i=>2^(k+1 - lv ws k (2*ws.length - 2) i))
 rw [mC (g:=fun _=>2^(k+1)) fun i _=>Ix h k _ i hm,DM,h1] at h2
 have e1:(2*ws.length - 2)*2^k+2^(k+1)=ws.length*2^(k+1):=by
  have:2*ws.length - 2=2*(ws.length - 1):=by omega
  rw [this,Nat.mul_comm 2,Nat.mul_assoc,←Nat.pow_succ']
  have:ws.length=ws.length - 1+1:=by omega
  conv=>rhs;rw [this,Nat.succ_mul]
 omega
theorem BL {n:Nat} {f:Nat→Nat} {i:Nat} (hi:i<n):f i≤aI n f:=by
 induction n with
 |zero=>omega
 |succ n ih=>
  rw [bS]
  by_cases h:i=n
  ·subst h;omega
  ·have:=ih (by omega);omega
theorem zA {n:Nat} {f:Nat→Nat} {i j:Nat} (hi:i<n) (hj:j<n) (hij:i<j):f i+f j≤aI n f:=by
 induction n with
 |zero=>omega
 |succ n ih=>
  rw [bS]
  by_cases h:j=n
  ·subst h
   have:=BL (f:=f) hij
   omega
  ·have:=ih (by omega) (by omega);omega
theorem KB {ws:List Nat} (h:od ws) (k:Nat) (hn:2≤ws.length) (hk:ws.length≤2^(k+1)) {i:Nat} (hi:i<ws.length):1≤lv ws k (2*ws.length - 2) i:=by
 have h1:=Ab h k hn hk
 rcases Nat.eq_zero_or_pos (lv ws k (2*ws.length - 2) i) with h0|h0
 ·exfalso
  have hp: ∀j,0<2^(k+1 - lv ws k (2*ws.length - 2) j):=fun j=>Nat.two_pow_pos _
  have e:2^(k+1 - lv ws k (2*ws.length - 2) i)=2^(k+1):=by rw [h0,Nat.sub_zero]
  by_cases hi0:i=0
  ·subst hi0
   have:=zA (f:=fun i=>2^(k+1 - lv ws k (2*ws.length - 2) i)) hi (show 1<ws.length by omega) (by omega)
   have:=hp 1
   omega
  ·have:=zA (f:=fun i=>2^(k+1 - lv ws k (2*ws.length - 2) i)) (show 0<ws.length by omega) hi (by omega)
   have:=hp 0
   omega
 ·exact h0
end Go.Pm
set_option maxRecDepth 20000
namespace Go.Pm
def width (S:Nat→List Nat):Nat→Nat
 |0=>(S 0).length
 |k+1=>(S (k+1)).length*2^(k+1)+width S k
def Hf (ws:List Nat) (L:Nat):Nat:=if ws.length≤1 then ws.sum else kA ((row ws (L - 1)).take (2*ws.length - 2))
def lenOf (ws:List Nat) (L i:Nat):Nat:=if ws.length=1 then 1 else lv ws (L - 1) (2*ws.length - 2) i
theorem HG {ws:List Nat} {L:Nat} (ha:od ws) (hL:1≤L) (hn:ws.length≤2^L) {i:Nat} (hi:i<ws.length):1≤lenOf ws L i∧lenOf ws L i≤L:=by
 unfold lenOf
 split
 ·exact ⟨Nat.le_refl _,hL⟩
 ·obtain ⟨K,rfl⟩: ∃K,L=K+1:=⟨L - 1,by omega⟩
  exact ⟨KB ha K (by omega) hn hi,vQ ..⟩
end Go.Pm
set_option maxRecDepth 20000
namespace Go.Srt
def aR (t:List Int):Bool:=t.all fun x=>decide (0≤x)&&decide (x≤2147483647)
def kG (l:List Nat):Prop:= ∀x∈l,x≤2147483647
def aB (l ys:List Nat):List Nat:=ys.map fun s=>l.getD s 0
end Go.Srt
namespace Go.Proofs.YtgglghjnakclmaaGreat
open Go Go.Vc Go.Srt Go.Pm
section
variable {E w:World} {F:List HP}
def aT (t:List Int):Array Value:=⟨t.map vI⟩
theorem bE {t:List Int}:(aT t).size=t.length:=by simp [aT]
theorem vG {t:List Int} {i:Nat} (h:i<t.length):(aT t)[i]? =some (Sc.enc (.int .i64) t[i]):=by simp [aT,h,vI]
theorem kJ {l:List Nat}:aT (ints l)=ai .i64 l:=by
 unfold aT ints ai
 rw [List.map_map];rfl
theorem vx {t:List Int} (h:aR t=true): ∃l:List Nat,t=ints l∧kG l:=by
 have h:=List.all_eq_true.1 h
 have h': ∀x∈t,0≤x∧x≤2147483647:=fun x hx=>by have:=h x hx;simpa using this
 refine ⟨t.map Int.toNat,?_,fun y hy=> ?_⟩
 ·unfold ints
  rw [List.map_map]
  refine (List.map_id t).symm.trans (List.map_congr_left fun x hx=> ?_)
  have:=h' x hx
  simp;omega
 ·obtain ⟨x,hx,rfl⟩:=List.mem_map.1 hy
  have:=h' x hx
  omega
theorem iD {l:List Nat} (h:kG l):aR (ints l)=true:=by
 refine List.all_eq_true.2 fun x hx=> ?_
 obtain ⟨y,hy,rfl⟩:=List.mem_map.1 hx
 have:=h y hy
 simp;omega
theorem cG {l:List Nat}:(ints l).length=l.length:=List.length_map _
theorem L5 {x:Int} {K:Bool→World→Prop} (hK:K (!(decide (0≤x)&&decide (x≤2147483647))) w):de Tryz.prog (.func (.func jb) ⟨[]⟩ ⟨[]⟩) [kB] [.int .i64 x] w K:=by
 refine de.mk (by kernel_rfl) (q8.ok x K w ?_)
 refine aa.mk (fun h=> ?_) (fun h=> ?_)
 ·have h:=of_decide_eq_true h
  have e:(!(decide (0≤x)&&decide (x≤2147483647)))=true:=by simp;omega
  rw [e] at hK;exact hK
 ·have h:=of_decide_eq_false h
  have e:(!(decide (0≤x)&&decide (x≤2147483647)))=decide (x>2147483647):=by
   rw [Bool.eq_iff_iff];simp;omega
  rw [e] at hK;exact hK
set_option maxRecDepth 20000 in
theorem sd {t:List Int} {K:Bool→World→Prop} (h:Hp E w F) (hl:t.length=258) (hK: ∀w',Hp E w' F→K (aR t) w'):Cl Tryz.prog [kB] dW ⟨[.agg (aT t)]⟩ w K:=by
 refine sj.ok _ _ _ ?_
 refine Nw.mk h fun b w1 h1=> ?_
 refine bj.whole (by decide) rfl rfl ?_
 refine lN.ok _ _ _ _ ?_
 refine ob.ok _ _ _ _ ?_
 refine ⟨fun i w'=> ∃k:Nat,i=(k:Int)∧k≤258∧aR (t.take k)=true∧Hp E w' (af b (.cells (aT t) 215 (0,0))::F),fun i _=>258 - i.toNat,⟨0,rfl,by omega,rfl,h1⟩,?_⟩
 rintro i w' ⟨k,rfl,hk,hv,hh⟩
 refine aa.mk (fun hlt=> ?_) (fun hge=> ?_)
 ·have hlt:k<258:=by have:=of_decide_eq_true hlt;simp only at this;omega
  have hkl:k<t.length:=by omega
  have hsl:aD 1 ⟨some ⟨b,0,none⟩,258,258⟩ (t.map vI) w':=hh.ah (ad.aH (by simp [aT]) (by simpa using hl))
  refine an.rd hsl (by omega) (by simp only;omega) fun q hq hc=>Ld.sc (s:= .int .i64) t[k] (by rw [hc];simp [vI]) (L5 ?_)
  have es:aR (t.take (k+1))=(aR (t.take k)&&(decide (0≤t[k])&&decide (t[k]≤2147483647))):=by
   unfold aR
   rw [List.take_add_one,List.all_append,List.getElem?_eq_getElem hkl];simp
  rw [hv,Bool.true_and] at es
  rw [←es]
  refine aa.mk (fun hb=> ?_) (fun hb=> ?_)
  ·have hb:aR (t.take (k+1))=false:=by simpa using hb
   have e1:aR t=false:=by
    have:=List.take_append_drop (k+1) t
    rw [←this]
    unfold aR at hb⊢
    rw [List.all_append,hb,Bool.false_and]
   have e2:decide ((k:Int)≥0)=true:=by simp
   show K (!decide ((k:Int)≥0)) w'
   rw [e2]
   have:=hK w' hh.drop
   rw [e1] at this;exact this
  ·have hb:aR (t.take (k+1))=true:=by simpa using hb
   rw [ae (by omega)]
   exact ⟨⟨k+1,rfl,by omega,hb,hh⟩,by dsimp only;omega⟩
 ·have hge:k=258:=by have:=of_decide_eq_false hge;simp only at this;omega
  subst hge
  have e2:decide ((-1:Int)≥0)=false:=by decide
  show K (!decide ((-1:Int)≥0)) w'
  rw [e2]
  have:=hK w' hh.drop
  rw [List.take_of_length_le (by omega)] at hv
  rw [hv] at this;exact this
theorem H8 {x y:Int} {K:Int→World→Prop} (hK: ∀z:Int,(z<0↔x<y)→K z w):Cl Tryz.prog [kI] iN ⟨[.int .i64 x,.int .i64 y]⟩ w K:=by
 refine vl.ok _ _ _ _ ?_
 refine rf.ok _ _ _ (rf.ok _ _ _ ?_)
 refine aa.f (by simp) (aa.f (by simp) (aa.mk (fun h=>hK _ ?_) (fun h=>aa.mk (fun h2=>hK _ ?_) (fun h2=>hK _ ?_))))
 ·have:=of_decide_eq_true h;omega
 ·have:=of_decide_eq_false h;omega
 ·have:=of_decide_eq_false h;omega
theorem Ij {l:List Nat} {i:Nat} {k:IntKind} (h:i<l.length):(ai k l)[i]? =some (Sc.enc (.int k) (l.getD i 0:Int)):=by
 rw [ez h,List.getD_eq_getElem?_getD,List.getElem?_eq_getElem h];rfl
theorem L3 {l:List Nat} {b:Nat} {t:TypeId} (hl:l.length=258):sQ E (af b (.cells (ai .i64 l) t (0,0))::F) (.func (.func iS) ⟨[]⟩ ⟨[.pointer (some ⟨b,0,none⟩)]⟩) (ua l) (fun x=>0≤x∧x<258):=by
 rintro A w y x K h ⟨hx0,hx⟩ ⟨hy0,hy⟩ hK
 refine de.mk (by kernel_rfl) ?_
 refine q5.ok y x ⟨b,0,none⟩ K w ?_
 refine aJ.mk h fun w1 h1=> ?_
 have h1':=h1.perm List.perm_append_comm
 refine aw.rd (s:= .int .i64) h1' hy0 (by omega) _ (Ij (by omega)) ?_
 refine aw.rd (s:= .int .i64) h1' hx0 (by omega) _ (Ij (by omega)) ?_
 refine H8 fun z hz=>hK z w1 ?_ h1
 rw [hz];rfl
set_option maxRecDepth 20000 in
theorem FP {t:List Int} {K:Sl→World→Prop} (h:Hp E w F) (hl:t.length=258) (hK1:aR t=false→∀w',Hp E w' F→K ⟨none,0,0⟩ w')
  (hK2: ∀l,t=ints l→kG l→l.length=258→∀ys s w',br l ys→Hp E w' (al 1 s ((ints ys).map vI)::F)→K s w'):Cl Tryz.prog [kS] ga ⟨[.agg (aT t)]⟩ w K:=by
 refine sC.ok _ _ _ ?_
 refine Nw.mk h fun b w1 h1=>Ld.arr h1 (by rw [bE,hl]) (sd h1 hl fun w2 h2=> ?_)
 refine aa.mk (fun hv=>hK1 (by simpa using hv) w2 h2.drop) (fun hv=> ?_)
 have hv:aR t=true:=by simpa using hv
 obtain ⟨l,rfl,hm⟩:=vx hv
 rw [cG] at hl
 rw [kJ] at h2
 refine Ld.arr h2 (by rw [av,hl]) ?_
 refine ⟨fun o i w'=> ∃k:Nat,i=(k:Int)∧k≤258∧Hp E w' (al 1 o ((ints (fA l k)).map vI)::af b (.cells (ai .i64 l) 215 (0,0))::F),fun _ i _=>258 - i.toNat,⟨0,rfl,by omega,h2.a9 1⟩,?_⟩
 intro o i w' hI
 obtain ⟨k,hi,hk,hh⟩:=hI
 subst hi
 refine aa.mk (fun hlt=> ?_) (fun hge=> ?_)
 ·have hlt:k<258:=by have:=of_decide_eq_true hlt;omega
  have hkl:k<l.length:=by omega
  refine ie.rd (s:= .int .i64) (by omega) (by omega) _ (qC hkl) ?_
  refine aa.mk (fun hp=> ?_) (fun hp=> ?_)
  ·have hp:0<l.getD k 0:=by have:=of_decide_eq_true hp;omega
   refine Nw.mk hh fun b2 w3 h3=> ?_
   have ho:=hh.aV
   have hu:=mu l k
   simp only [List.length_map,ints,Nat.mul_one] at ho
   refine aK (ys:= [vI (k:Int)]) (n:=1) eM (by decide) (.inl ⟨3,by kernel_rfl⟩) h3.p1 (.inl ⟨some ⟨b2,0,none⟩,1,1,rfl,rfl,h3.ah (ad.aH rfl rfl)⟩) rfl mL (by omega) (by omega) fun s' w4 h4 hs'=> ?_
   rw [ae (by omega)]
   refine ⟨⟨k+1,rfl,by omega,?_⟩,by dsimp only;omega⟩
   rw [ja,if_pos hp,qM,List.map_append]
   exact h4.p1.drop
  ·have hp: ¬0<l.getD k 0:=by have:=of_decide_eq_false hp;omega
   rw [ae (by omega)]
   refine ⟨⟨k+1,rfl,by omega,?_⟩,by dsimp only;omega⟩
   rw [ja,if_neg hp,List.append_nil]
   exact hh
 ·have hge:k=258:=by have:=of_decide_eq_false hge;omega
  subst hge
  have hin: ∀x∈fA l 258,x<258:=fun x hx=>by
   have:=(List.mem_filter.1 hx).1
   simpa using this
  refine sy (key:=ua l) (D:=fun x=>0≤x∧x<258) hh (by have:=mu l 258;rw [aC];simp only [ints,List.length_map];omega) (L3 hl) (fun x hx=> ?_) ?_ fun ys w3 hp hs h3=> ?_
  ·obtain ⟨y,hy,rfl⟩:=List.mem_map.1 hx
   have:=hin y hy
   omega
  ·unfold ints
   refine List.Pairwise.map _ (fun a b hab=>Int.ofNat_lt.2 hab) ?_
   exact List.Pairwise.filter _ List.pairwise_lt_range
  ·have hU:fA l 258=used l:=by unfold fA used;rw [hl]
   rw [hU] at hp
   have e:ys=ints (ys.map Int.toNat):=by
    unfold ints
    rw [List.map_map]
    refine (List.map_id ys).symm.trans (List.map_congr_left fun x hx=> ?_)
    obtain ⟨y,_,rfl⟩:=List.mem_map.1 (hp.mem_iff.1 hx)
    simp
   have pN:(ys.map Int.toNat).Perm (used l):=by
    have:=hp.map Int.toNat
    refine this.trans ?_
    unfold ints
    rw [List.map_map]
    refine List.Perm.of_eq ((List.map_congr_left fun x _=> ?_).trans (List.map_id _))
    simp
   rw [e] at h3 hs
   refine hK2 l rfl hm hl (ys.map Int.toNat) _ w3 ⟨pN,?_⟩ h3.p1.drop
   refine (List.pairwise_map.1 hs).imp fun {a b} hab=> ?_
   unfold Ky ua at hab
   simp only [Int.toNat_natCast] at hab
   omega
def fp (x:It):List Value:= [.int .i64 (x.1:Int),.bool x.2]
theorem da: ∀x,(fp x).length=2:=fun _=>rfl
theorem nd: ∀x,∀y∈fp x,aF y=true:=by
 intro x y hy
 simp only [fp,List.mem_cons,List.not_mem_nil,or_false] at hy
 rcases hy with rfl|rfl<;>rfl
theorem lO:bP Tryz.prog 281 286 2 16:=bP.of (by kernel_rfl) (by kernel_rfl)
theorem Bb {ws:List Nat} {k:Nat} (h:k<ws.length):bA (ws.take (k+1))=bA (ws.take k)++ [(ws[k],true)]:=by
 unfold bA
 rw [List.take_add_one,List.map_append,List.getElem?_eq_getElem h];rfl
theorem z8 {s:Sl} {ys:List Nat} {i:Nat} {K:Int→Prop} (hs:aD 1 s ((ints ys).map vI) w) (hi:i<ys.length) (hK:K (ys[i]:Int)):an s (i:Int) 1 fun q=>Ld kI q w K:=by
 have hl:=hs.1
 simp only [List.length_map,ints,Nat.mul_one] at hl
 refine an.rd hs (by omega) (by omega) fun q hq hc=>Ld.sc (s:= .int .i64) (ys[i]:Int) ?_ hK
 rw [hc];simp [vI,ints]
set_option maxRecDepth 20000 in
theorem Hj {l ys:List Nat} {s:Sl} {K:Sl→World→Prop} (h:Hp E w F) (hl:l.length=258) (hs:ad F (aD 1 s ((ints ys).map vI))) (hin: ∀x∈ys,x<258) (hlen:ys.length≤258)
  (hK: ∀s' w',Hp E w' (al 2 s' ((bA (aB l ys)).flatMap fp)::F)→K s' w'):Cl Tryz.prog [kS] fD ⟨[.agg (ai .i64 l),.slice s.base s.len s.cap]⟩ w K:=by
 refine rz.ok _ _ _ _ ?_
 have hsl:=(h.ah hs).1
 simp only [List.length_map,ints,Nat.mul_one] at hsl
 have hwl:(aB l ys).length=ys.length:=List.length_map _
 refine Nw.mk h fun b w1 h1=>⟨fun o i w'=> ∃k:Nat,i=(k:Int)∧k≤ys.length∧Hp E w' (al 2 o ((bA ((aB l ys).take k)).flatMap fp)::af b (.cells (ai .i64 l) 215 (0,0))::F),fun _ i _=>ys.length - i.toNat,⟨0,rfl,by omega,by simpa [bA] using h1.a9 2⟩,?_⟩
 rintro o i w' ⟨k,rfl,hk,hh⟩
 refine aa.mk (fun hlt=> ?_) (fun hge=> ?_)
 ·have hlt:k<ys.length:=by have:=of_decide_eq_true hlt;omega
  have hx:=hin _ (List.getElem_mem hlt)
  refine z8 (hh.drop.drop.ah hs) hlt ?_
  refine aw.rd (s:= .int .i64) hh.p1 (by omega) (by omega) _ (qC (by omega)) ?_
  have hw:(aB l ys)[k]'(by omega)=l.getD ys[k] 0:=by simp [aB]
  refine r7 (g:=fp) (x:=(l.getD ys[k] 0,true)) lO da (by decide) rfl (nd _) hh (by rw [cm,List.length_take];omega) (by rw [cm,List.length_take];omega) fun s' w3 h3 _=> ?_
  rw [ae (by omega)]
  refine ⟨⟨k+1,rfl,by omega,?_⟩,by dsimp only;omega⟩
  rw [Bb (by omega),hw];exact h3
 ·have hge:k=ys.length:=by have:=of_decide_eq_false hge;omega
  subst hge
  rw [List.take_of_length_le (by omega)] at hh
  exact hK _ _ hh.p1.drop
end
end Go.Proofs.YtgglghjnakclmaaGreat
set_option maxRecDepth 20000
namespace Go.Srt
def ch (ys:List Nat) (f:Nat→Nat):List Nat:=(List.range 258).map fun s=>if s∈ys then f (ys.idxOf s) else 0
theorem bd (ys:List Nat) (f:Nat→Nat):(ch ys f).length=258:=by simp [ch]
theorem FD {ys:List Nat} {f:Nat→Nat} {s:Nat} (hs:s<258):(ch ys f).getD s 0=if s∈ys then f (ys.idxOf s) else 0:=by
 unfold ch
 rw [List.getD_eq_getElem?_getD,List.getElem?_map,List.getElem?_range hs];rfl
theorem lH: ∀{ys:List Nat} (_:ys.Nodup) {i:Nat} (hi:i<ys.length),ys.idxOf ys[i]=i
 |y::ys,h,0,_=>by simp [List.idxOf_cons]
 |y::ys,h,i+1,hi=>by
  obtain ⟨h1,h2⟩:=List.nodup_cons.1 h
  have hi':i<ys.length:=by simpa using hi
  have hne: ¬y=ys[i]:=fun e=>h1 (e▸List.getElem_mem hi')
  have:=lH h2 hi'
  have e:(y==ys[i])=false:=by simpa using hne
  simp only [List.getElem_cons_succ,List.idxOf_cons,this,e,cond_false]
theorem pR {ys:List Nat} {f:Nat→Nat} (hn:ys.Nodup) (hin: ∀s∈ys,s<258) {i:Nat} (hi:i<ys.length):(ch ys f).getD ys[i] 0=f i:=by
 rw [FD (hin _ (List.getElem_mem hi)),if_pos (List.getElem_mem hi),lH hn hi]
theorem eX {ys:List Nat} {f g:Nat→Nat} (h: ∀i,i<ys.length→f i=g i):ch ys f=ch ys g:=by
 unfold ch
 refine List.map_congr_left fun s _=> ?_
 by_cases hs:s∈ys
 ·rw [if_pos hs,if_pos hs,h _ (List.idxOf_lt_length_of_mem hs)]
 ·rw [if_neg hs,if_neg hs]
theorem pV {ys:List Nat} {f:Nat→Nat} {i v:Nat} (hn:ys.Nodup) (hi:i<ys.length):(ch ys f).set ys[i] v=ch ys (fun j=>if j=i then v else f j):=by
 refine List.ext_getElem (by simp [ch]) fun s h1 h2=> ?_
 have hs:s<258:=by rw [bd] at h2;exact h2
 rw [List.getElem_set]
 unfold ch
 simp only [List.getElem_map,List.getElem_range]
 by_cases e:ys[i]=s
 ·rw [if_pos e]
  subst e
  rw [if_pos (List.getElem_mem hi),lH hn hi,if_pos rfl]
 ·rw [if_neg e]
  by_cases hm:s∈ys
  ·rw [if_pos hm,if_pos hm]
   have hlt:=List.idxOf_lt_length_of_mem hm
   have:ys.idxOf s≠i:=by
    intro e2
    apply e
    have:=List.getElem_idxOf hlt
    rw [←this]
    simp only [e2]
   rw [if_neg this]
  ·rw [if_neg hm,if_neg hm]
theorem AL (ys:List Nat):ch ys (fun _=>0)=List.replicate 258 0:=by
 refine List.eq_replicate_iff.2 ⟨bd ..,fun x hx=> ?_⟩
 obtain ⟨s,_,rfl⟩:=List.mem_map.1 hx
 split<;>rfl
theorem oA {l ys:List Nat} (h:br l ys):ys.Nodup:=h.2.imp fun {a b} hab e=>by subst e;omega
theorem pX {l ys:List Nat} (h:br l ys):Pm.od (aB l ys):=List.Pairwise.map _ (fun _ _ hab=>hab) (h.2.imp fun {a b} hab=>by omega)
end Go.Srt
namespace Go.Proofs.YtgglghjnakclmaaGreat
open Go Go.Vc Go.Srt Go.Pm
section
variable {E w:World} {F:List HP}
theorem GC {R:List It} {j:Nat} (h:2*j+1<R.length):aU (R.drop (2*j))=((R[2*j]'(by omega)).1+R[2*j+1].1,false)::aU (R.drop (2*(j+1))):=by
 rw [List.drop_eq_getElem_cons (show 2*j<R.length by omega),List.drop_eq_getElem_cons (show 2*j+1<R.length by omega),aU]
 rfl
theorem FJ {R:List It} {j:Nat} (h: ¬2*j+1<R.length):aU (R.drop (2*j))= []:=by
 have:(aU (R.drop (2*j))).length=0:=by rw [eh,List.length_drop];omega
 exact List.length_eq_zero_iff.1 this
set_option maxRecDepth 20000 in
theorem Kz {f1 f2:Sl} {A R:List It} {K:Sl→World→Prop} (h:Hp E w F) (hA:ad F (aD 2 f1 (A.flatMap fp))) (hR:ad F (aD 2 f2 (R.flatMap fp))) (hcap:f1.len≤f1.cap)
  (hb: ∀x∈R,x.1≤2^60) (hlA:A.length≤2^20) (hlR:R.length≤2^20)
  (hK: ∀s' w',Hp E w' (al 2 s' ((bK A (aU R)).flatMap fp)::F)→K s' w'):Cl Tryz.prog [kS] gA ⟨[.slice f1.base f1.len f1.cap,.slice f2.base f2.len f2.cap]⟩ w K:=by
 refine tv.ok _ _ _ _ ?_
 have la:=aD.len da (by decide) (h.ah hA)
 have lr:=aD.len da (by decide) (h.ah hR)
 have hpl:=eh R
 have htl:(bK A (aU R)).length=A.length+R.length/2:=by rw [wJ,hpl]
 have hsz: ∀o X:List It,o++X=bK A (aU R)→o.length≤2^21:=fun o X e=>by
  have:=congrArg List.length e
  rw [List.length_append,htl] at this
  omega
 refine ⟨fun o k i w'=> ∃(a j:Nat) (l:List It),k=(a:Int)∧i=((2*j:Nat):Int)∧a≤A.length∧2*j≤R.length∧l++bK (A.drop a) (aU (R.drop (2*j)))=bK A (aU R)∧Hp E w' (al 2 o (l.flatMap fp)::F),
  fun _ _ i _=>R.length - i.toNat,⟨0,0,[],rfl,rfl,by omega,by omega,by simp,h.a9 2⟩,?_⟩
 rintro o k i w' ⟨a,j,l,rfl,rfl,ha,hj,heq,hh⟩
 have hll:=hsz _ _ heq
 rw [ae (x:=((2*j:Nat):Int)+1) (by omega)]
 refine aa.mk (fun hlt=> ?_) (fun hge=> ?_)
 ·have hlt:2*j+1<R.length:=by have:=of_decide_eq_true hlt;omega
  rw [GC hlt] at heq
  have hx1:=hb _ (List.getElem_mem (show 2*j<R.length by omega))
  have hx2:=hb _ (List.getElem_mem hlt)
  have hd:Hp E {w' with drawn:=w'.drawn+1} (al 2 o (l.flatMap fp)::F):=hh.drew
  refine ⟨cZ E F,cZ.r9 hd,?_⟩
  refine an.KS (n:=2*j) da (by decide) hd.drop hR rfl (by omega) fun p hp=> ?_
  refine aG.sc (s:= .int .i64) ((R[2*j]'(by omega)).1:Int) (fun w2 h2=>(h2.ah (hp 0 (by decide))).trans (by simp [fp])) ?_
  refine an.KS (n:=2*j+1) da (by decide) hd.drop hR (by omega) hlt fun q hq=> ?_
  refine aG.sc (s:= .int .i64) (R[2*j+1].1:Int) (fun w2 h2=>(h2.ah (hq 0 (by decide))).trans (by simp [fp])) ?_
  rw [ae (x:=((R[2*j]'(by omega)).1:Int)+(R[2*j+1].1:Int)) (by omega)]
  generalize hp1:(R[2*j]'(by omega)).1+R[2*j+1].1=p1 at heq
  have hp1':((R[2*j]'(by omega)).1:Int)+(R[2*j+1].1:Int)=(p1:Int):=by omega
  rw [hp1']
  refine Nw.mk hd fun b w3 h3=>⟨cZ.Gf h3,?_⟩
  refine bl.aH h3 rfl (nd (p1,false)) fun w4 h4=>⟨cZ.Gf h4,?_⟩
  refine ⟨fun o k w'=> ∃(a:Nat) (l:List It),k=(a:Int)∧a≤A.length∧l++bK (A.drop a) ((p1,false)::aU (R.drop (2*(j+1))))=bK A (aU R)∧Hp E w' (al 2 o (l.flatMap fp)::af b (.cells ⟨fp (p1,false)⟩ 286 (0,0))::F),
   fun _ k _=>A.length - k.toNat,⟨a,l,rfl,ha,heq,h4.p1⟩,?_⟩
  rintro o k w5 ⟨a,l,rfl,ha,heq,hh⟩
  have hll:=hsz _ _ heq
  refine aJ.mk hh fun w6 h6=> ?_
  rw [ae (x:=((2*j:Nat):Int)+2) (by omega)]
  have last:A.drop a= []∨(∃(_:a<A.length),¬A[a].1≤p1)→(l++ [(p1,false)])++bK (A.drop a) (aU (R.drop (2*(j+1))))=bK A (aU R):=by
   rintro (e|⟨hal,hgt⟩)
   ·rw [e,jR] at heq
    rw [e,jR,←heq];simp
   ·rw [List.drop_eq_getElem_cons hal,pI hgt] at heq
    rw [List.drop_eq_getElem_cons hal,←heq];simp
  refine aa.mk (fun hka=> ?_) (fun hka=> ?_)
  ·have hka:a<A.length:=by have:=of_decide_eq_true hka;omega
   refine an.el (n:=a) da (by decide) (h6.drop.drop.ah hA) rfl hka fun p hp=> ?_
   refine Ld.sc (s:= .int .i64) (A[a].1:Int) (by rw [hp 0 (by decide)];simp [fp]) ?_
   rw [ak]
   refine Ld.aH h6.p1 (p1:Int) (by simp [fp]) ?_
   refine aa.mk (fun hle=> ?_) (fun hgt=> ?_)
   ·have hle:A[a].1≤p1:=by have:=of_decide_eq_true hle;omega
    rw [List.drop_eq_getElem_cons hka,p6 hle] at heq
    refine an.el (n:=a) da (by decide) (h6.drop.drop.ah hA) rfl hka fun p hp=> ?_
    refine Ld.st (ks:= [.int .i64,.bool]) ((A[a].1:Int),A[a].2,()) (fun j hj=>hp j hj) ?_
    refine r7 (g:=fp) (x:=A[a]) lO da (by decide) rfl (nd _) h6 (by omega) (by omega) fun s' w7 h7 _=> ?_
    rw [ae (by omega)]
    refine ⟨⟨a+1,l++ [A[a]],rfl,by omega,?_,h7⟩,by dsimp only;omega⟩
    rw [←heq];simp
   ·have hgt: ¬A[a].1≤p1:=by have:=of_decide_eq_false hgt;omega
    refine Ld.zh (ks:= [.int .i64,.bool]) h6.p1 ((p1:Int),false,()) rfl ?_
    refine r7 (g:=fp) (x:=(p1,false)) lO da (by decide) rfl (nd _) h6 (by omega) (by omega) fun s' w7 h7 _=> ?_
    exact ⟨⟨a,j+1,l++ [(p1,false)],rfl,by omega,ha,by omega,last (.inr ⟨hka,hgt⟩),h7.p1.drop⟩,by dsimp only;omega⟩
  ·have hka:A.drop a= []:=by
    have:=of_decide_eq_false hka
    exact List.drop_eq_nil_of_le (by omega)
   refine Ld.zh (ks:= [.int .i64,.bool]) h6.p1 ((p1:Int),false,()) rfl ?_
   refine r7 (g:=fp) (x:=(p1,false)) lO da (by decide) rfl (nd _) h6 (by omega) (by omega) fun s' w7 h7 _=> ?_
   exact ⟨⟨a,j+1,l++ [(p1,false)],rfl,by omega,ha,by omega,last (.inl hka),h7.p1.drop⟩,by dsimp only;omega⟩
 ·have hge: ¬2*j+1<R.length:=by have:=of_decide_eq_false hge;omega
  rw [FJ hge,mN] at heq
  refine bj.el (a:=a) (b:=A.length) (l:=A) da la rfl (by rw [la]) ha (Nat.le_refl _) (by omega) (Int.le_refl _) fun s' hs' hl' _=> ?_
  have hd:=hs' w' (hh.drop.ah hA)
  rw [List.take_of_length_le (by rw [List.length_drop];omega)] at hd
  have hdl:(A.drop a).length≤2^20:=by rw [List.length_drop];omega
  refine sE (g:=fp) lO da (by decide) nd hh hd (by omega) (by omega) fun s2 w2 h2 _=>hK s2 w2 ?_
  rw [←heq];exact h2
end
end Go.Proofs.YtgglghjnakclmaaGreat
set_option maxRecDepth 20000
namespace Go.Pm
theorem tM {M:Nat}: ∀{l:List It},(∀x∈l,x.1≤M)→∀x∈aU l,x.1≤2*M
 | [],_,x,h=>by simp [aU] at h
 | [_],_,x,h=>by simp [aU] at h
 |a::b::l,hl,x,h=>by
  rw [aU] at h
  rcases List.mem_cons.1 h with rfl|h
  ·have:=hl a (by simp);have:=hl b (by simp);simp only;omega
  ·exact tM (fun y hy=>hl y (by simp [hy])) x h
theorem yN {ws:List Nat} {M:Nat} (h: ∀x∈ws,x≤M): ∀k,∀x∈row ws k,x.1≤M*2^k
 |0,x,hx=>by
  obtain ⟨y,hy,rfl⟩:=List.mem_map.1 hx
  simpa using h y hy
 |k+1,x,hx=>by
  rcases List.mem_append.1 ((kT _ _).mem_iff.1 hx) with hx|hx
  ·obtain ⟨y,hy,rfl⟩:=List.mem_map.1 hx
   have:=h y hy
   have:=Nat.le_mul_of_pos_right M (Nat.two_pow_pos (k+1))
   simp only;omega
  ·have:=tM (yN h k) x hx
   rw [Nat.pow_succ];rw [←Nat.mul_assoc];omega
theorem mE (ws:List Nat): ∀k,(row ws k).length≤2*ws.length
 |0=>by rw [row,cm];omega
 |k+1=>by
  have:=mE ws k
  rw [tg];omega
theorem Dc {l:List It} {j:Nat} (h:j<l.length):aE (l.take (j+1))=aE (l.take j)+if l[j].2=true then 1 else 0:=by
 unfold aE
 rw [List.take_add_one,List.filter_append,List.length_append,List.getElem?_eq_getElem h]
 congr 1
 by_cases e:l[j].2=true
 ·rw [if_pos e];simp [e]
 ·rw [if_neg e];simp [e]
theorem wo {l:List It} {a b:Nat} (h:a≤b):aE (l.take a)≤aE (l.take b):=by
 have:=List.take_append_drop a (l.take b)
 rw [List.take_take,Nat.min_eq_left h] at this
 have h2:=congrArg aE this
 rw [nF] at h2
 omega
theorem Gr (ws:List Nat) {L:Nat} (hL:1≤L) (i:Nat):lenOf ws L i≤L:=by
 unfold lenOf
 split
 ·exact hL
 ·have:=vQ ws (L - 1) (2*ws.length - 2) i
  omega
theorem Ez {ws:List Nat} (h:od ws) (k m:Nat) (hm:m≤(row ws k).length):aE ((row ws k).take m)≤ws.length:=by
 cases k with
 |zero=>
  rw [row,cm] at hm
  rw [(ny m hm).1];exact hm
 |succ k=>exact (jN h k m hm).2.1
end Go.Pm
namespace Go.Proofs.YtgglghjnakclmaaGreat
open Go Go.Vc Go.Srt Go.Pm
section
variable {E w:World} {F:List HP}
theorem qc {b:Nat} {t:TypeId} {l:List Nat} {K:Array Value→World→Prop} (h:Hp E w (af b (.cells (ai .u8 l) t (0,0))::F)) (hl:l.length=258) (hK: ∀w',Hp E w' (af b (.cells (ai .u8 l) t (0,0))::F)→K (ai .u8 l) w'):
  Ld (.arr 258) ⟨b,0,none⟩ w fun x=>ax 258 ⟨b,0,none⟩ x w fun w2=>Ld (.arr 258) ⟨b,0,none⟩ w2 fun r=>K r w2:=
 Ld.arr h (by rw [av,hl]) (ax.aH h (by rw [av,hl]) (by rw [av,hl]) cd fun w2 h2=>Ld.arr h2 (by rw [av,hl]) (hK w2 h2))
def iF (s:Sl):List Value:= [.slice s.base s.len s.cap]
theorem gu: ∀x,(iF x).length=1:=fun _=>rfl
theorem F9: ∀x,∀y∈iF x,aF y=true:=by
 intro x y hy
 have:y= .slice x.base x.len x.cap:=by simpa [iF] using hy
 rw [this];rfl
theorem JY:bP Tryz.prog 283 281 1 24:=bP.of (by kernel_rfl) (by kernel_rfl)
def vX (ws:List Nat) (rs:List Sl) (G:List HP):Prop:= ∀j (hj:j<rs.length),ad G (aD 2 rs[j] ((row ws j).flatMap fp))∧rs[j].len≤rs[j].cap
theorem vX.more {ws:List Nat} {rs:List Sl} {G:List HP} {s:Sl} (h:vX ws rs G) (hc:s.len≤s.cap):vX ws (rs++ [s]) (al 2 s ((row ws rs.length).flatMap fp)::G):=by
 intro j hj
 rcases Nat.lt_or_ge j rs.length with hlt|hge
 ·rw [List.getElem_append_left hlt]
  exact ⟨(h j hlt).1.cons,(h j hlt).2⟩
 ·have:j=rs.length:=by simp at hj;omega
  subst this
  simp only [List.getElem_append_right (Nat.le_refl _),Nat.sub_self,List.getElem_cons_zero]
  exact ⟨ad.own,hc⟩
theorem CT {L:Nat} (hL:L≤15):eG .i64 1 (u64 (L:Int))=((2^L:Nat):Int)∧(0:Int)≤u64 (L:Int):=by
 rw [sg (by omega)]
 have hp:2^L≤2^15:=Nat.pow_le_pow_right (by decide) hL
 have hm:IntKind.max .i64=9223372036854775807:=rfl
 have:=k4 (k:= .i64) (a:=1) (b:=L) (by have:IntKind.bits .i64=64:=rfl;omega) (by rw [hm];omega)
 rw [Nat.one_mul] at this
 exact ⟨this,by omega⟩
theorem Dn {l ys:List Nat} (hm:kG l): ∀x∈aB l ys,x≤2147483647:=by
 intro x hx
 obtain ⟨s,_,rfl⟩:=List.mem_map.1 hx
 rw [List.getD_eq_getElem?_getD]
 cases h:l[s]? with
 |none=>simp
 |some y=>exact hm y (List.mem_of_getElem? h)
theorem Io {l ys:List Nat} (hm:kG l) {k:Nat} (hk:k≤15): ∀x∈row (aB l ys) k,x.1≤2^60:=by
 intro x hx
 have h1:=yN (Dn (ys:=ys) hm) k x hx
 have hp:2^k≤2^15:=Nat.pow_le_pow_right (by decide) hk
 have:=Nat.mul_le_mul_left 2147483647 hp
 omega
set_option maxRecDepth 20000 in
theorem BR {t:List Int} {L:Int} {K:Array Value→Int→World→Prop} (h:Hp E w F) (hl:t.length=258)
  (hK1:(aR t=false∨L<1∨15<L∨∃l,t=ints l∧(2:Int)^L.toNat<(used l).length)→∀w',Hp E w' F→K (ai .u8 (List.replicate 258 0)) 2 w')
  (hK2: ∀l ys w',t=ints l→kG l→br l ys→1≤L→L≤15→ys.length≤2^L.toNat→Hp E w' F→K (ai .u8 (ch ys (lenOf (aB l ys) L.toNat))) 0 w'):
  Cl Tryz.prog [.arr 258,kI] dh ⟨[.agg (aT t),.int .i64 L]⟩ w K:=by
 refine qO.ok _ _ _ _ ?_
 rw [jP]
 simp only [aq]
 refine Nw.mk h fun b4 w1 h1=>Nw.mk h1 fun b6 w2 h2=>Ld.arr h2.p1 (by rw [bE,hl]) (FP h2 hl (fun hv w3 h3=> ?_) (fun l hte hm hll ys s w3 hys h3=> ?_))
 ·refine Ld.arr h3.p1 (by rw [bE,hl]) (sd h3 hl fun w4 h4=>aa.t (by rw [hv];rfl) (qc h4 (by simp) fun w5 h5=>hK1 (.inl hv) w5 h5.drop.drop))
 ·subst hte
  have hlen:=wz hll hys
  have hin:=py hll hys
  have hsl:s.len=ys.length:=by
   have:=(h3.ah ad.own).1
   simp only [List.length_map,ints,Nat.mul_one] at this
   exact this.symm
  refine Ld.arr h3.p2 (by rw [bE,hl]) (sd h3 hl fun w4 h4=>aa.f (by rw [iD hm];rfl) ?_)
  refine aa.mk (fun hlt=>qc h4.p1 (by simp) fun w5 h5=>hK1 (.inr (.inl (of_decide_eq_true hlt))) w5 h5.drop.drop.drop) (fun hge=> ?_)
  have hge:=of_decide_eq_false hge
  refine aa.mk (fun hgt=>qc h4.p1 (by simp) fun w5 h5=>hK1 (.inr (.inr (.inl (by have:=of_decide_eq_true hgt;omega)))) w5 h5.drop.drop.drop) (fun hle=> ?_)
  have hle:=of_decide_eq_false hle
  obtain ⟨N,rfl⟩:=Int.eq_ofNat_of_zero_le (show 0≤L by omega)
  have hN:N≤15:=by omega
  have hN1:1≤N:=by omega
  obtain ⟨e1,e2⟩:=CT hN
  rw [e1]
  refine ⟨e2,aa.mk (fun hgt=>qc h4.p1 (by simp) fun w5 h5=>hK1 (.inr (.inr (.inr ⟨l,rfl,?_⟩))) w5 h5.drop.drop.drop) (fun hle2=> ?_)⟩
  ·have hgt:=of_decide_eq_true hgt
   rw [Int.toNat_natCast,←hys.1.length_eq,←hsl]
   rw [show (2:Int)^N=((2^N:Nat):Int) by norm_cast]
   exact hgt
  have hle2:ys.length≤2^N:=by have:=of_decide_eq_false hle2;omega
  have hasc:=pX hys
  have hwl:(aB l ys).length=ys.length:=List.length_map _
  have hnd:=oA hys
  have hin2: ∀s∈ys,s<258:=fun s hs=>(hin s hs).1
  have fine: ∀w',Hp E w' F→K (ai .u8 (ch ys (lenOf (aB l ys) N))) 0 w':=fun w' h'=>hK2 l ys w' rfl hm hys (by omega) (by omega) (by rw [Int.toNat_natCast];exact hle2) h'
  rw [←AL ys] at h4
  refine aa.mk (fun h1=> ?_) (fun h1=> ?_)
  ·have h1:ys.length=1:=by have:(s.len:Int)=1:=by simpa using h1
                           omega
   refine z8 (i:=0) (h4.ah ad.own) (by omega) ?_
   have hx:=hin2 _ (List.getElem_mem (show 0<ys.length by omega))
   refine aw.wr h4.p1 (by omega) (by omega) (by rw [av,bd]) rfl fun w5 h5=> ?_
   rw [Int.toNat_natCast] at h5
   have e:=nq (k:= .u8) (l:=ch ys fun _=>0) (i:=ys[0]) (x:=1)
   rw [show (Value.int .u8 1)= .int .u8 ((1:Nat):Int) from rfl,e,pV hnd (by omega)] at h5
   have e3:ch ys (fun j=>if j=0 then 1 else 0)=ch ys (lenOf (aB l ys) N):=eX fun i hi=>by
    have:i=0:=by omega
    subst this
    unfold lenOf
    rw [if_pos rfl,if_pos (by omega)]
   rw [e3] at h5
   exact qc h5 (bd ..) fun w6 h6=>fine w6 h6.drop.drop.drop
  ·have h1:ys.length≠1:=by
    intro e
    have: ¬(s.len:Int)=1:=by simpa using h1
    omega
   rw [kJ] at h4
   refine Ld.arr h4.p2 (by rw [av,hll]) (Hj h4 hll ad.own hin2 hlen fun s0 w5 h5=>Nw.mk h5 fun b38 w6 h6=> ?_)
   have hc0:=h5.km
   refine ⟨fun rows k w'=> ∃(rs:List Sl) (G:List HP),k=(rs.length:Int)∧1≤rs.length∧rs.length≤N∧vX (aB l ys) rs G∧
     Hp E w' (al 1 rows (rs.flatMap iF)::af b6 (.cells (ai .u8 (ch ys fun _=>0)) 104 (0,0))::al 1 s ((ints ys).map vI)::af b4 (.cells (ai .i64 l) 215 (0,0))::(G++F)),
    fun _ k _=>N - k.toNat,⟨[s0],[al 2 s0 ((bA (aB l ys)).flatMap fp)],rfl,Nat.le_refl _,hN1,?_,?_⟩,?_⟩
   ·intro j hj
    have:j=0:=by simp at hj;omega
    subst this
    exact ⟨ad.own,hc0⟩
   ·exact ((h6.fz (sz:=1) (n:=1) rfl).p1.q4).p2.p1
   rintro rows k w7 ⟨rs,G,rfl,hr1,hrN,hrs,hh⟩
   have hrl:=aD.len gu (by decide) (hh.ah ad.own)
   refine aa.mk (fun hlt=> ?_) (fun hge=> ?_)
   ·have hlt:rs.length<N:=by have:=of_decide_eq_true hlt;omega
    have hd:Hp E {w7 with drawn:=w7.drawn+1} _:=hh.drew
    have hrd: ∀w',Hp E w' (al 1 rows (rs.flatMap iF)::af b6 (.cells (ai .u8 (ch ys fun _=>0)) 104 (0,0))::al 1 s ((ints ys).map vI)::af b4 (.cells (ai .i64 l) 215 (0,0))::(G++F))→aD 1 rows (rs.flatMap iF) w':=fun w' h'=>h'.ah ad.own
    have key: ∀(i:Nat) (hi:i<rs.length) {K:Addr→Prop},(∀p,(∀w,aD 1 rows (rs.flatMap iF) w→w.cell? p=some (.slice rs[i].base rs[i].len rs[i].cap))→K p)→an rows (i:Int) 1 K:=by
     intro i hi K hK
     obtain ⟨p,hp,_⟩:=(hrd _ hd).2 i (by rw [eT gu];omega)
     refine ⟨p,hp,by omega,by omega,hK _ fun w2 h2=> ?_⟩
     obtain ⟨q,hq,hc⟩:=h2.2 i (by rw [eT gu];omega)
     have:q=p:=Option.some.inj (hq.symm.trans hp)
     subst this
     rw [Int.toNat_natCast,Nat.mul_one,hc]
     have:=nJ gu rs i 0 hi (by decide)
     rw [Nat.mul_one,Nat.add_zero] at this
     rw [←List.getElem?_eq_getElem,this];rfl
    have hr0:=hrs 0 (by omega)
    have hrk:=hrs (rs.length - 1) (by omega)
    refine ⟨aD 1 rows (rs.flatMap iF),hrd _ hd,?_⟩
    refine key 0 (by omega) fun p hp=>aG.sc (s:= .sl) rs[0] hp ?_
    rw [show i64 ((rs.length:Int) - 1)=((rs.length - 1:Nat):Int) by rw [ae (by omega)];omega]
    refine key (rs.length - 1) (by omega) fun q hq=>aG.sc (s:= .sl) rs[rs.length - 1] hq ?_
    have hlr:=mE (aB l ys) (rs.length - 1)
    refine Kz hd (ad.cons (ad.cons (ad.cons (ad.cons hr0.1.ur)))) (ad.cons (ad.cons (ad.cons (ad.cons hrk.1.ur)))) hr0.2 (Io hm (by omega)) (by rw [row,cm];omega) (by omega) fun s' w8 h8=> ?_
    have hcs:=h8.km
    refine ⟨hrd _ h8.drop,Nw.mk h8 fun b53 w9 h9=>⟨hrd _ h9.drop.drop,?_⟩⟩
    refine tz (ys:=iF s') (n:=1) JY (by decide) (.inl ⟨281,by kernel_rfl⟩) h9.p2 (.inl ⟨_,_,_,rfl,rfl,h9.ah (ad.aH rfl rfl)⟩) rfl (F9 s') (by omega) (by omega) fun s2 w10 h10 _ hold=>⟨hold,?_⟩
    have e:rs.length - 1+1=rs.length:=by omega
    have er:bK (row (aB l ys) 0) (aU (row (aB l ys) (rs.length - 1)))=row (aB l ys) rs.length:=by
     conv=>rhs;rw [←e,row]
     rfl
    rw [er] at h10
    rw [ae (by omega)]
    refine ⟨⟨rs++ [s'],al 2 s' ((row (aB l ys) rs.length).flatMap fp)::G,by simp,by simp,by simp;omega,hrs.more hcs,?_⟩,by dsimp only;omega⟩
    have h11:=h10.p1.drop
    rw [List.flatMap_append,show [s'].flatMap iF=iF s' by simp]
    exact h11.p1.q4
   ·have hge:rs.length=N:=by have:=of_decide_eq_false hge;omega
    have tot15: ∀i,lenOf (aB l ys) N i≤15:=fun i=>Nat.le_trans (Gr _ hN1 i) hN
    have htot: ∀i,lenOf (aB l ys) N i=lv (aB l ys) (N - 1) (2*ys.length - 2) i:=fun i=>by
     unfold lenOf
     rw [if_neg (by omega),hwl]
    refine ⟨fun many k w'=> ∃f:Nat→Nat,(((k= -1∨many≤0)∧ -1≤k∧k<N∧∀i,i<ys.length→f i=lenOf (aB l ys) N i)∨
       (∃kk m:Nat,k=(kk:Int)∧kk<N∧many=(m:Int)∧m≤(row (aB l ys) kk).length∧∀i,i<ys.length→f i+lv (aB l ys) kk m i=lenOf (aB l ys) N i))∧
      Hp E w' (af b6 (.cells (ai .u8 (ch ys f)) 104 (0,0))::al 1 rows (rs.flatMap iF)::al 1 s ((ints ys).map vI)::af b4 (.cells (ai .i64 l) 215 (0,0))::(G++F)),
     fun _ k _=>(k+1).toNat,⟨fun _=>0,?_,hh.p1⟩,?_⟩
    ·rw [ae (x:=2*(s.len:Int)) (by omega),ae (x:=2*(s.len:Int) - 2) (by omega),ae (by omega)]
     rcases Nat.eq_zero_or_pos ys.length with h0|h0
     ·exact .inl ⟨.inr (by omega),by omega,by omega,fun i hi=>by omega⟩
     ·refine .inr ⟨N - 1,2*ys.length - 2,by omega,by omega,by omega,?_,fun i _=>by rw [htot,Nat.zero_add]⟩
      rw [←hwl]
      exact qI (N - 1) (by rw [hwl,show N - 1+1=N by omega];exact hle2)
    rintro many k w8 ⟨f,hf,hh⟩
    have done:(∀i,i<ys.length→f i=lenOf (aB l ys) N i)→Hp E w8 (af b6 (.cells (ai .u8 (ch ys (lenOf (aB l ys) N))) 104 (0,0))::al 1 rows (rs.flatMap iF)::al 1 s ((ints ys).map vI)::af b4 (.cells (ai .i64 l) 215 (0,0))::(G++F)):=fun hi=>by
     rw [←eX hi];exact hh
    refine aa.mk (fun hk=> ?_) (fun hk=> ?_)
    ·have hk:=of_decide_eq_true hk
     refine aa.mk (fun hmany=> ?_) (fun hmany=> ?_)
     ·have hmany:=of_decide_eq_true hmany
      rcases hf with ⟨h0,_⟩|⟨kk,m,rfl,hkN,rfl,hm2,hf⟩
      ·omega
      have hrk:=hrs kk (by omega)
      have hlr:=mE (aB l ys) kk
      refine an.el (n:=kk) gu (by decide) (hh.p1.ah ad.own) rfl (by omega) fun p hp=> ?_
      refine Ld.sc (s:= .sl) rs[kk] (by have:=hp 0 (by decide);rw [add_zero] at this;rw [this];rfl) ?_
      have hrt:ad (G++F) (aD 2 rs[kk] ((row (aB l ys) kk).flatMap fp)):=hrk.1.ur
      have hrl2:=aD.len da (by decide) (hh.drop.drop.drop.drop.ah hrt)
      refine bj.el (a:=0) (b:=m) (l:=row (aB l ys) kk) da hrl2 rfl rfl (by omega) hm2 (by omega) (Int.le_refl _) fun sm hsm hsml _=> ?_
      have hsm2:ad (G++F) (aD 2 sm (((row (aB l ys) kk).take m).flatMap fp)):=hrt.imp fun w' hw'=>by simpa using hsm w' hw'
      refine ⟨fun wh j w'=> ∃jj:Nat,j=(jj:Int)∧jj≤m∧wh=(aE ((row (aB l ys) kk).take jj):Int)∧
        Hp E w' (af b6 (.cells (ai .u8 (ch ys fun i=>f i+if i<aE ((row (aB l ys) kk).take jj) then 1 else 0)) 104 (0,0))::al 1 rows (rs.flatMap iF)::al 1 s ((ints ys).map vI)::af b4 (.cells (ai .i64 l) 215 (0,0))::(G++F)),
       fun _ j _=>m - j.toNat,⟨0,rfl,by omega,rfl,hh⟩,?_⟩
      rintro wh j w9 ⟨jj,rfl,hj,rfl,hh⟩
      have hlfm:=wo (l:=row (aB l ys) kk) (show jj≤m from hj)
      have hlfn:=Ez hasc kk m hm2
      refine aa.mk (fun hjm=> ?_) (fun hjm=> ?_)
      ·have hjm:jj<m:=by have:=of_decide_eq_true hjm;omega
       have hjr:jj<(row (aB l ys) kk).length:=by omega
       have hls:=Dc hjr
       have hlfm2:=wo (l:=row (aB l ys) kk) (show jj+1≤m from hjm)
       refine an.el (n:=jj) da (by decide) (hh.drop.drop.drop.drop.ah hsm2) rfl (by rw [List.length_take];omega) fun p hp=> ?_
       rw [List.getElem_take] at hp
       refine Ld.st (ks:= [.int .i64,.bool]) (((row (aB l ys) kk)[jj].1:Int),(row (aB l ys) kk)[jj].2,()) (fun j hj=>hp j hj) ?_
       refine Nw.mk hh fun b80 w10 h10=>bl.aH h10 rfl (nd (row (aB l ys) kk)[jj]) fun w11 h11=> ?_
       rw [ak]
       refine Ld.aH h11 (row (aB l ys) kk)[jj].2 (by simp [fp]) ?_
       have h12:=h11.drop
       refine aa.mk (fun hlf=> ?_) (fun hlf=> ?_)
       ·rw [if_pos hlf] at hls
        have hwn:aE ((row (aB l ys) kk).take jj)<ys.length:=by omega
        have hx:=hin2 _ (List.getElem_mem hwn)
        have hfi:=hf _ hwn
        have h15:=tot15 (aE ((row (aB l ys) kk).take jj))
        have hlv:1≤lv (aB l ys) kk m (aE ((row (aB l ys) kk).take jj)):=by
         cases kk with
         |zero=>unfold lv whole;rw [if_pos (by omega)];exact Nat.le_refl _
         |succ kk=>unfold lv whole;rw [if_pos (by omega)];omega
        refine z8 (h12.p2.ah ad.own) hwn ?_
        refine aw.rd (s:= .int .u8) h12 (by omega) (by omega) _ (qC (by rw [bd];omega)) ?_
        rw [pR hnd hin2 hwn,if_neg (by omega),Nat.add_zero]
        refine aw.wr h12 (by omega) (by omega) (by rw [av,bd]) rfl fun w13 h13=> ?_
        rw [Int.toNat_natCast,dE (by omega),show ((f (aE ((row (aB l ys) kk).take jj)):Int)+1)=((f (aE ((row (aB l ys) kk).take jj))+1:Nat):Int) by omega,nq,pV hnd hwn] at h13
        rw [ae (x:=(aE ((row (aB l ys) kk).take jj):Int)+1) (by omega),ae (by omega)]
        refine ⟨⟨jj+1,rfl,by omega,by omega,?_⟩,by dsimp only;omega⟩
        rw [hls]
        have e:ch ys (fun i=>f i+if i<aE ((row (aB l ys) kk).take jj)+1 then 1 else 0)=ch ys (fun j=>if j=aE ((row (aB l ys) kk).take jj) then f (aE ((row (aB l ys) kk).take jj))+1 else f j+if j<aE ((row (aB l ys) kk).take jj) then 1 else 0):=eX fun i _=>by
         by_cases hi:i=aE ((row (aB l ys) kk).take jj)
         ·subst hi;rw [if_pos (by omega),if_pos rfl]
         ·rw [if_neg hi]
          congr 1
          by_cases hi2:i<aE ((row (aB l ys) kk).take jj)
          ·rw [if_pos hi2,if_pos (by omega)]
          ·rw [if_neg hi2,if_neg (by omega)]
        rw [e];exact h13
       ·rw [if_neg (by rw [hlf];simp)] at hls
        have hls:aE ((row (aB l ys) kk).take (jj+1))=aE ((row (aB l ys) kk).take jj):=hls
        rw [ae (by omega)]
        refine ⟨⟨jj+1,rfl,by omega,by rw [hls],?_⟩,by dsimp only;omega⟩
        rw [hls];exact h12
      ·have hjm:jj=m:=by have:=of_decide_eq_false hjm;omega
       subst hjm
       have hlj:aE ((row (aB l ys) kk).take jj)≤jj:=by
        unfold aE
        have:=List.length_filter_le (fun x:It=>x.2) ((row (aB l ys) kk).take jj)
        rw [List.length_take] at this;omega
       rw [ae (x:=(jj:Int) - _) (by omega),ae (x:=2*_) (by omega),ae (by omega)]
       refine ⟨⟨_,?_,hh⟩,by dsimp only;omega⟩
       cases kk with
       |zero=>
        refine .inl ⟨.inl (by omega),by omega,by omega,fun i hi=> ?_⟩
        have:=hf i hi
        unfold lv whole at this
        exact this
       |succ kk=>
        refine .inr ⟨kk,2*(jj - whole (aB l ys) (kk+1) jj),by omega,by omega,?_,(jN hasc kk jj hm2).2.2.1,fun i hi=> ?_⟩
        ·show 2*((jj:Int) - (whole (aB l ys) (kk+1) jj:Int))=_
         have:whole (aB l ys) (kk+1) jj≤jj:=hlj
         omega
        ·have:=hf i hi
         rw [lv] at this
         rw [←this]
         unfold whole
         omega
     ·have hmany:=of_decide_eq_false hmany
      refine qc (done ?_) (bd ..) fun w9 h9=>fine w9 h9.drop.drop.drop.drop.td
      rcases hf with ⟨_,_,_,h0⟩|⟨kk,m,rfl,hkN,rfl,hm2,hf⟩
      ·exact h0
      ·intro i hi
       have h0:=hf i hi
       have hm0:m=0:=by omega
       subst hm0
       rw [xG hasc kk 0 i hm2 (by simp [whole,aE]),Nat.add_zero] at h0
       exact h0
    ·have hk:=of_decide_eq_false hk
     refine qc (done ?_) (bd ..) fun w9 h9=>fine w9 h9.drop.drop.drop.drop.td
     rcases hf with ⟨_,_,_,h0⟩|⟨kk,m,rfl,hkN,rfl,hm2,hf⟩
     ·exact h0
     ·omega
end
end Go.Proofs.YtgglghjnakclmaaGreat
set_option maxRecDepth 20000
namespace Go.Srt
theorem DN {l ys:List Nat} {s k:Nat} (hp:ys.Perm ((List.range s).filter fun s=>decide (0<l.getD s 0))) (ho:ys.Pairwise fun a b=>l.getD a 0<l.getD b 0∨(l.getD a 0=l.getD b 0∧a<b)) (hk:k≤ys.length)
  (h1: ∀j (hj:j<ys.length),k≤j→l.getD s 0<l.getD ys[j] 0) (h2:k=0∨∃h:k - 1<ys.length,l.getD ys[k - 1] 0≤l.getD s 0):
  (ys.take k++s::ys.drop k).Pairwise fun a b=>l.getD a 0<l.getD b 0∨(l.getD a 0=l.getD b 0∧a<b):=by
 have hlt: ∀x∈ys,x<s:=fun x hx=>by
  have:=(List.mem_filter.1 (hp.mem_iff.1 hx)).1
  simpa using this
 have hA: ∀x∈ys.take k,l.getD x 0≤l.getD s 0:=by
  intro x hx
  obtain ⟨i,hi,rfl⟩:=List.getElem_of_mem hx
  rw [List.length_take] at hi
  rw [List.getElem_take]
  rcases h2 with h2|⟨hk1,h2⟩
  ·omega
  ·by_cases e:i=k - 1
   ·subst e;exact h2
   ·have:=(List.pairwise_iff_getElem.1 ho) i (k - 1) (by omega) hk1 (by omega)
    omega
 have hB: ∀x∈ys.drop k,l.getD s 0<l.getD x 0:=by
  intro x hx
  obtain ⟨i,hi,rfl⟩:=List.getElem_of_mem hx
  rw [List.length_drop] at hi
  rw [List.getElem_drop]
  exact h1 _ (by omega) (by omega)
 have hs:(ys.take k++ys.drop k).Pairwise fun a b=>l.getD a 0<l.getD b 0∨(l.getD a 0=l.getD b 0∧a<b):=by rw [List.take_append_drop];exact ho
 obtain ⟨p1,p2,p3⟩:=List.pairwise_append.1 hs
 refine List.pairwise_append.2 ⟨p1,List.pairwise_cons.2 ⟨fun x hx=> .inl (hB x hx),p2⟩,fun x hx y hy=> ?_⟩
 rcases List.mem_cons.1 hy with rfl|hy
 ·have h3:=hA x hx
  have h4:=hlt x (List.mem_of_mem_take hx)
  omega
 ·exact p3 x hx y hy
end Go.Srt
namespace Go.Proofs.YtgglghjnakclmaaGreat
open Go Go.Vc Go.Srt Go.Pm
section
variable {E w:World} {F:List HP}
set_option maxRecDepth 20000 in
theorem qQ {t:List Int} {K:Bool→World→Prop} (h:Hp E w F) (hl:t.length=258) (hK: ∀w',Hp E w' F→K (aR t) w'):Cl Tryz.prog [kB] jf ⟨[.agg (aT t)]⟩ w K:=by
 refine BE.ok _ _ _ ?_
 refine Nw.mk h fun b w1 h1=> ?_
 refine ⟨fun i w'=> ∃k:Nat,i=(k:Int)∧k≤258∧aR (t.take k)=true∧Hp E w' (af b (.cells (aT t) 215 (0,0))::F),fun i _=>258 - i.toNat,⟨0,rfl,by omega,rfl,h1⟩,?_⟩
 rintro i w' ⟨k,rfl,hk,hv,hh⟩
 refine aa.mk (fun hlt=> ?_) (fun hge=> ?_)
 ·have hlt:k<258:=by have:=of_decide_eq_true hlt;omega
  have hkl:k<t.length:=by omega
  have es:aR (t.take (k+1))=(aR (t.take k)&&(decide (0≤t[k])&&decide (t[k]≤2147483647))):=by
   unfold aR
   rw [List.take_add_one,List.all_append,List.getElem?_eq_getElem hkl];simp
  rw [hv,Bool.true_and] at es
  have bad:(decide (0≤t[k])&&decide (t[k]≤2147483647))=false→K false w':=fun hb=>by
   rw [←es] at hb
   have e1:aR t=false:=by
    have:=List.take_append_drop (k+1) t
    rw [←this]
    unfold aR at hb⊢
    rw [List.all_append,hb,Bool.false_and]
   have:=hK w' hh.drop
   rw [e1] at this;exact this
  have hx:(aT t)[((k:Nat):Int).toNat]? =some (Sc.enc (.int .i64) t[k]):=by rw [Int.toNat_natCast];exact vG hkl
  refine aw.rd (s:= .int .i64) hh (by omega) (by omega) _ hx ?_
  refine aa.mk (fun hb=>bad (by have:=of_decide_eq_true hb;simp;omega)) (fun hb=> ?_)
  refine aw.rd (s:= .int .i64) hh (by omega) (by omega) _ hx ?_
  refine aa.mk (fun hb2=>bad (by have:=of_decide_eq_true hb2;simp;omega)) (fun hb2=> ?_)
  have hb:=of_decide_eq_false hb
  have hb2:=of_decide_eq_false hb2
  rw [ae (by omega)]
  exact ⟨⟨k+1,rfl,by omega,by rw [es];simp;omega,hh⟩,by dsimp only;omega⟩
 ·have hge:k=258:=by have:=of_decide_eq_false hge;omega
  subst hge
  have:=hK w' hh.drop
  rw [List.take_of_length_le (by omega)] at hv
  rw [hv] at this;exact this
def gN (x:Nat):List Value:= [vI (x:Int)]
theorem rQ: ∀x,(gN x).length=1:=fun _=>rfl
theorem IM: ∀x,∀y∈gN x,aF y=true:=by
 intro x y hy
 have:y=vI (x:Int):=by simpa [gN] using hy
 rw [this];rfl
theorem Ec (ys:List Nat):(ints ys).map vI=ys.flatMap gN:=by
 unfold ints
 induction ys with
 |nil=>rfl
 |cons y ys ih=>rw [List.flatMap_cons,←ih];rfl
theorem zx {P:Program} {α:Type} {g:α→List Value} {sz bytes:Nat} {t e:TypeId} {e2:TypeId} {s:Sl} {l:List α} {x:α} {k:Nat} {K:Sl→World→Prop} (he:bP P t e sz bytes) (hg: ∀x,(g x).length=sz) (hz:0<sz) (hsc: ∀x,∀y∈g x,aF y=true)
  {A:List HP} (h:Hp E w (A++F)) (hs:ad A (aD sz s (l.flatMap g))) (hcap:s.len≤s.cap) (hk:k≤l.length) (hlen:l.length≤2^20) (hby:bytes≤1024) {cs:Array Value} (hcs:cs=⟨g x⟩)
  (hK: ∀s' w',Hp E w' (al sz s' ((l.take k++x::l.drop k).flatMap g)::(A++F))→K s' w'):
  bj s 0 (k:Int) s.cap sz fun s1=>au P (Builtin.append_ #[t,t] t ⟨[.slice none 0 0,.slice s1.base s1.len s1.cap]⟩) kS w fun s2 w2=>
   Nw e2 cs w2 fun b w3=>au P (Builtin.append_ #[t,t] t ⟨[.slice s2.base s2.len s2.cap,.slice (some ⟨b,0,none⟩) 1 1]⟩) kS w3 fun s3 w4=>
   bj s (k:Int) s.len s.cap sz fun s4=>au P (Builtin.append_ #[t,t] t ⟨[.slice s3.base s3.len s3.cap,.slice s4.base s4.len s4.cap]⟩) kS w4 K:=by
 have ID:ad (A++F) (aD sz s (l.flatMap g)):=hs.ur
 have hl:=aD.len hg hz (h.ah ID)
 have hb: ∀n,n≤2*l.length+4→(2*n+1024)*bytes≤2^48:=fun n hn=>by
  have:(2*n+1024)*bytes≤8388608*1024:=Nat.mul_le_mul (by omega) hby
  omega
 refine bj.el (a:=0) (b:=k) (l:=l) hg hl rfl rfl (by omega) hk (by omega) (Int.le_refl _) fun s1 hs1 hl1 _=> ?_
 have h1:=hs1 w (h.ah ID)
 simp only [List.drop_zero,Nat.sub_zero] at h1
 refine sE (s:=⟨none,0,0⟩) (l:= []) he hg hz hsc (h.a9 sz) h1 (hb _ (by simp;omega)) (by simp;omega) fun s2 w2 h2 _=> ?_
 rw [List.nil_append] at h2
 refine r7 (g:=g) (x:=x) he hg hz hcs (hsc x) h2 (hb _ (by simp;omega)) (by simp;omega) fun s3 w3 h3 _=> ?_
 refine bj.el (a:=k) (b:=l.length) (l:=l) hg hl rfl (by rw [hl]) hk (Nat.le_refl _) (by omega) (Int.le_refl _) fun s4 hs4 hl4 _=> ?_
 have h4:=hs4 w3 (h3.drop.ah ID)
 rw [List.take_of_length_le (by rw [List.length_drop];omega)] at h4
 refine sE he hg hz hsc h3 h4 (hb _ (by simp;omega)) (by simp;omega) fun s5 w5 h5 _=>hK s5 w5 ?_
 rw [List.append_assoc] at h5
 exact h5
end
end Go.Proofs.YtgglghjnakclmaaGreat
set_option maxRecDepth 20000
namespace Go.Pm
structure Fp where
 w:Nat
 sym:Int
 one:Nat
 two:Nat
def ck (ys:List Nat):List It→Nat→Nat→List Fp
 | [],_,_=> []
 |(w,true)::l,a,b=>⟨w,(ys.getD a 0:Int),0,0⟩::ck ys l (a+1) b
 |(w,false)::l,a,b=>⟨w,-1,2*b,2*b+1⟩::ck ys l a (b+1)
def cC (l:List It):Nat:=(l.filter fun x=> !x.2).length
theorem lq: ∀l:List It,aE l+cC l=l.length
 | []=>rfl
 |(w,true)::l=>by
  have:=lq l
  simp only [aE,cC,List.filter_cons] at*
  simp;omega
 |(w,false)::l=>by
  have:=lq l
  simp only [aE,cC,List.filter_cons] at*
  simp;omega
theorem cB (ys:List Nat): ∀(l:List It) (a b:Nat),(ck ys l a b).length=l.length
 | [],_,_=>rfl
 |(w,true)::l,a,b=>by rw [ck,List.length_cons,cB ys l,List.length_cons]
 |(w,false)::l,a,b=>by rw [ck,List.length_cons,cB ys l,List.length_cons]
theorem mY (ys:List Nat): ∀(l l':List It) (a b:Nat),ck ys (l++l') a b=ck ys l a b++ck ys l' (a+aE l) (b+cC l)
 | [],l',a,b=>rfl
 |(w,true)::l,l',a,b=>by
  rw [List.cons_append,ck,ck,mY ys l,List.cons_append]
  have e1:aE ((w,true)::l)=aE l+1:=by simp [aE]
  have e2:cC ((w,true)::l)=cC l:=by simp [cC]
  rw [e1,e2,show a+1+aE l=a+(aE l+1) by omega]
 |(w,false)::l,l',a,b=>by
  rw [List.cons_append,ck,ck,mY ys l,List.cons_append]
  have e1:aE ((w,false)::l)=aE l:=by simp [aE]
  have e2:cC ((w,false)::l)=cC l+1:=by simp [cC]
  rw [e1,e2,show b+1+cC l=b+(cC l+1) by omega]
theorem wj (ys:List Nat): ∀(l:List It) (a b c:Nat),(∀x∈l,x.2=true)→ck ys l a b=ck ys l a c
 | [],_,_,_,_=>rfl
 |(w,true)::l,a,b,c,h=>by rw [ck,ck,wj ys l (a+1) b c fun x hx=>h x (List.mem_cons_of_mem _ hx)]
 |(w,false)::l,a,b,c,h=>by have:=h (w,false) (by simp);cases this
theorem xu (ys:List Nat) (l:List It) {i:Nat} (hi:i<l.length):(ck ys l 0 0)[i]'(by rw [cB];exact hi)=
  if l[i].2=true then ⟨l[i].1,(ys.getD (aE (l.take i)) 0:Int),0,0⟩ else ⟨l[i].1,-1,2*(i - aE (l.take i)),2*(i - aE (l.take i))+1⟩:=by
 have e:l=l.take i++l[i]::l.drop (i+1):=by rw [List.getElem_cons_drop,List.take_append_drop]
 have hp:=lq (l.take i)
 rw [List.length_take] at hp
 have hl:(ck ys (l.take i) 0 0).length=i:=by rw [cB,List.length_take];omega
 have key:(ck ys l 0 0)[i]? =some (if l[i].2=true then ⟨l[i].1,(ys.getD (aE (l.take i)) 0:Int),0,0⟩ else ⟨l[i].1,-1,2*(i - aE (l.take i)),2*(i - aE (l.take i))+1⟩):=by
  have e2:ck ys l 0 0=ck ys (l.take i) 0 0++ck ys (l[i]::l.drop (i+1)) (0+aE (l.take i)) (0+cC (l.take i)):=by
   rw [←mY,←e]
  rw [e2,List.getElem?_append_right (by omega),hl,Nat.sub_self,Nat.zero_add,Nat.zero_add,show cC (l.take i)=i - aE (l.take i) by omega]
  generalize l[i]=x
  obtain ⟨w,b⟩:=x
  cases b<;>rfl
 rw [List.getElem?_eq_getElem (by rw [cB];exact hi)] at key
 exact Option.some.inj key
theorem zq (ys:List Nat) (l:List It) {i:Nat} (hi:i<l.length):((ck ys l 0 0)[i]'(by rw [cB];exact hi)).w=l[i].1:=by
 rw [xu ys l hi]
 split<;>rfl
def qi (l:List It) (p:It):List It:=l.takeWhile (fun a=>decide (a.1≤p.1))++p::l.dropWhile fun a=>decide (a.1≤p.1)
theorem Gm {q:It→Bool}: ∀{l:List It},(∀x∈l,q x=true)→l.takeWhile q=l∧l.dropWhile q= []
 | [],_=>⟨rfl,rfl⟩
 |x::l,h=>by
  obtain ⟨h1,h2⟩:=Gm fun y hy=>h y (List.mem_cons_of_mem x hy)
  have:=h x (by simp)
  exact ⟨by rw [List.takeWhile_cons_of_pos this,h1],by rw [List.dropWhile_cons_of_pos this,h2]⟩
theorem HI (p:It): ∀A B,(∀q∈B,q.1≤p.1)→qi (bK A B) p=bK A (B++ [p]):=by
 refine mR (fun B hB=> ?_) (fun a A hB=> ?_) (fun a A q B h ih hB=> ?_) (fun a A q B h ih hB=> ?_)
 ·rw [jR,jR]
  unfold qi
  obtain ⟨h1,h2⟩:=Gm (q:=fun a=>decide (a.1≤p.1)) (l:=B) (fun x hx=>by simpa using hB x hx)
  rw [h1,h2]
 ·rw [mN,List.nil_append];rfl
 ·rw [p6 h,List.cons_append,p6 h,←List.cons_append,←ih hB]
  have:a.1≤p.1:=Nat.le_trans h (hB q (by simp))
  simp [qi,this]
 ·rw [pI h,List.cons_append,pI h,←ih fun x hx=>hB x (List.mem_cons_of_mem _ hx)]
  have:q.1≤p.1:=hB q (by simp)
  simp [qi,this]
theorem C2 {p:It}: ∀{l:List It} {k:Nat},Up l→k≤l.length→(∀j (hj:j<l.length),k≤j→p.1<l[j].1)→(k=0∨∃h:k - 1<l.length,l[k - 1].1≤p.1)→qi l p=l.take k++p::l.drop k
 | [],k,_,hk,_,_=>by
  have:k=0:=by simpa using hk
  subst this;rfl
 |x::l,0,_,_,h1,_=>by
  have:=h1 0 (by simp) (Nat.le_refl _)
  have h: ¬x.1≤p.1:=by simp only [List.getElem_cons_zero] at this;omega
  simp [qi,h]
 |x::l,k+1,hu,hk,h1,h2=>by
  obtain ⟨u1,u2⟩:=List.pairwise_cons.1 hu
  have hkl:k≤l.length:=by simpa using hk
  have h2': ∃h:k<(x::l).length,(x::l)[k].1≤p.1:=by
   rcases h2 with h2|h2
   ·omega
   ·simpa using h2
  obtain ⟨hk1,h2'⟩:=h2'
  have hx:x.1≤p.1:=by
   cases k with
   |zero=>exact h2'
   |succ k=>exact Nat.le_trans (u1 _ (List.getElem_mem (by simp at hk1;omega))) h2'
  have ih:=C2 (p:=p) (l:=l) (k:=k) u2 hkl (fun j hj hkj=>by have:=h1 (j+1) (by simp;omega) (by omega);simpa using this) (by
   cases k with
   |zero=>exact .inl rfl
   |succ k=>exact .inr ⟨by simp at hk1;omega,by simpa using h2'⟩)
  have e:qi (x::l) p=x::qi l p:=by simp [qi,hx]
  rw [e,ih,List.take_succ_cons,List.drop_succ_cons,List.cons_append]
def en (ws:List Nat):Nat→Nat→Nat→Nat
 |0,i,j=>if j=i then 1 else 0
 |k+1,i,j=>if ((row ws (k+1)).getD i (0,true)).2=true then (if j=aE ((row ws (k+1)).take i) then 1 else 0) else
   en ws k (2*(i - aE ((row ws (k+1)).take i))) j+en ws k (2*(i - aE ((row ws (k+1)).take i))+1) j
theorem Br (ws:List Nat) (k i j:Nat):en ws (k+1) i j=if ((row ws (k+1)).getD i (0,true)).2=true then (if j=aE ((row ws (k+1)).take i) then 1 else 0) else
   en ws k (2*(i - aE ((row ws (k+1)).take i))) j+en ws k (2*(i - aE ((row ws (k+1)).take i))+1) j:=rfl
theorem zK (l:List It):aE l≤l.length:=by have:=lq l;omega
theorem vz {l:List It} {j:Nat} (h:j<l.length):aE (l.take (j+1))=aE (l.take j)+if l[j].2=true then 1 else 0:=by
 unfold aE
 rw [List.take_add_one,List.filter_append,List.length_append,List.getElem?_eq_getElem h]
 congr 1
 by_cases e:l[j].2=true
 ·rw [if_pos e];simp [e]
 ·rw [if_neg e];simp [e]
theorem uf {ws:List Nat} (h:od ws) (j:Nat): ∀(k m:Nat),m≤(row ws k).length→aI m (fun i=>en ws k i j)=lv ws k m j
 |0,m,hm=>by
  have hm':m≤ws.length:=by rw [row,cm] at hm;exact hm
  unfold lv whole
  rw [(ny m hm').1]
  have key: ∀m,aI m (fun i=>en ws 0 i j)=if j<m then 1 else 0:=by
   intro m
   induction m with
   |zero=>simp [aI]
   |succ m ih=>
    rw [bS,ih]
    unfold en
    by_cases h1:j<m
    ·rw [if_pos h1,if_neg (by omega),if_pos (by omega)]
    ·by_cases h2:j=m
     ·rw [if_neg h1,if_pos h2,if_pos (by omega)]
     ·rw [if_neg h1,if_neg h2,if_neg (by omega)]
  exact key m
 |k+1,m,hm=>by
  have key: ∀m,m≤(row ws (k+1)).length→aI m (fun i=>en ws (k+1) i j)=(if j<aE ((row ws (k+1)).take m) then 1 else 0)+aI (2*(m - aE ((row ws (k+1)).take m))) (fun i=>en ws k i j):=by
   intro m
   induction m with
   |zero=>intro _;simp [aI,aE]
   |succ m ih=>
    intro hm
    have hlt:m<(row ws (k+1)).length:=by omega
    have hl:=zK ((row ws (k+1)).take m)
    rw [List.length_take] at hl
    have hg:(row ws (k+1)).getD m (0,true)=(row ws (k+1))[m]:=by rw [List.getD_eq_getElem?_getD,List.getElem?_eq_getElem hlt];rfl
    rw [bS,ih (by omega),vz hlt,Br ws k m j,hg]
    generalize hq:aE ((row ws (k+1)).take m)=q at hl
    by_cases e:(row ws (k+1))[m].2=true
    ·rw [if_pos e,if_pos e,show m+1 - (q+1)=m - q by omega]
     by_cases h1:j<q
     ·rw [if_pos h1,if_neg (by omega),if_pos (by omega)];rfl
     ·by_cases h2:j=q
      ·rw [if_neg h1,if_pos h2,if_pos (by omega)];omega
      ·rw [if_neg h1,if_neg h2,if_neg (by omega)];omega
    ·rw [if_neg e,if_neg e,show q+0=q from rfl,show 2*(m+1 - q)=2*(m - q)+1+1 by omega,bS,bS]
     omega
  have c3:=(jN h k m hm).2.2.1
  rw [key m hm,uf h j k _ c3,lv]
  rfl
end Go.Pm
set_option maxRecDepth 20000
namespace Go.Proofs.YtgglghjnakclmaaGreat
open Go Go.Vc Go.Srt Go.Pm
section
variable {E w:World} {F:List HP}
theorem At:bP Tryz.prog 142 3 1 8:=bP.of (by kernel_rfl) (by kernel_rfl)
set_option maxRecDepth 20000 in
theorem A9 {t:List Int} {K:Sl→World→Prop} (h:Hp E w F) (hl:t.length=258) (hK1:aR t=false→∀w',Hp E w' F→K ⟨none,0,0⟩ w')
  (hK2: ∀l,t=ints l→kG l→l.length=258→∀ys s w',br l ys→Hp E w' (al 1 s ((ints ys).map vI)::F)→K s w'):Cl Tryz.prog [kS] jn ⟨[.agg (aT t)]⟩ w K:=by
 refine Bv.ok _ _ _ ?_
 simp only [aq]
 refine Nw.mk h fun b w1 h1=>(Bool.eq_false_or_eq_true (aR t)).symm.elim (fun hv=> ?_) (fun hv=> ?_)
 ·refine ⟨fun o i w'=>o=⟨none,0,0⟩∧i=0∧Hp E w' (af b (.cells (aT t) 215 (0,0))::F),fun _ _ _=>0,⟨rfl,rfl,h1⟩,?_⟩
  rintro o i w' ⟨rfl,rfl,hh⟩
  exact aa.t (by decide) (Ld.arr hh (by rw [bE,hl]) (qQ hh hl fun w3 h3=>aa.f hv (hK1 hv w3 h3.drop)))
 obtain ⟨l,rfl,hm⟩:=vx hv
 have hl':l.length=258:=by rw [cG] at hl;exact hl
 refine ⟨fun o i w'=> ∃(k:Nat) (ys:List Nat),i=(k:Int)∧k≤258∧ys.Perm ((List.range k).filter fun s=>decide (0<l.getD s 0))∧(ys.Pairwise fun a b=>l.getD a 0<l.getD b 0∨(l.getD a 0=l.getD b 0∧a<b))∧
    Hp E w' (al 1 o (ys.flatMap gN)::af b (.cells (aT (ints l)) 215 (0,0))::F),fun _ i _=>258 - i.toNat,⟨0,[],rfl,by omega,.refl _,.nil,h1.a9 1⟩,?_⟩
 rintro o i w' ⟨k,ys,rfl,hk,hp,ho,hh⟩
 have fin:k=258→K o w':=fun e=>by
  subst e
  refine hK2 l rfl hm hl' ys o w' ⟨?_,ho⟩ ?_
  ·unfold used;rw [hl'];exact hp
  ·rw [Ec];exact hh.p1.drop
 refine aa.mk (fun hlt=> ?_) (fun hge=>fin (by have:=of_decide_eq_false hge;omega))
 have hlt:k<258:=by have:=of_decide_eq_true hlt;omega
 have hin: ∀x∈ys,x<k:=fun x hx=>by
  have:=(List.mem_filter.1 (hp.mem_iff.1 hx)).1
  simpa using this
 have hyl:ys.length≤k:=by
  rw [hp.length_eq]
  have:=List.length_filter_le (fun s=>decide (0<l.getD s 0)) (List.range k)
  simpa using this
 refine Ld.arr hh.p1 (by rw [bE,hl]) (qQ hh hl fun w3 h3=>aa.t hv ?_)
 have h3':=h3
 rw [kJ] at h3'
 refine aw.rd (s:= .int .i64) h3'.p1 (by omega) (by omega) _ (qC (by omega)) ?_
 rw [ae (x:=(k:Int)+1) (by omega)]
 have es:(List.range (k+1)).filter (fun s=>decide (0<l.getD s 0))=(List.range k).filter (fun s=>decide (0<l.getD s 0))++if 0<l.getD k 0 then [k] else []:=ja
 refine aa.mk (fun h0=> ?_) (fun h0=> ?_)
 ·have h0:l.getD k 0=0:=by have:(l.getD k 0:Int)=0:=by simpa using h0
                           omega
  rw [if_neg (by omega),List.append_nil] at es
  exact ⟨⟨k+1,ys,rfl,by omega,by rw [es];exact hp,ho,h3⟩,by dsimp only;omega⟩
 ·have h0:0<l.getD k 0:=by have: ¬(l.getD k 0:Int)=0:=by simpa using h0
                           omega
  rw [if_pos h0] at es
  have hol:=aD.len rQ (by decide) (h3.ah ad.own)
  have hoc:=h3.km
  refine ⟨fun i w'=> ∃n:Nat,i=(n:Int)∧n≤ys.length∧(∀j (hj:j<ys.length),n≤j→l.getD k 0<l.getD ys[j] 0)∧Hp E w' (al 1 o (ys.flatMap gN)::af b (.cells (aT (ints l)) 215 (0,0))::F),fun i _=>i.toNat,⟨ys.length,by rw [hol],Nat.le_refl _,fun j hj hn=>by omega,h3⟩,?_⟩
  rintro i w4 ⟨n,rfl,hn,hgt,hh⟩
  refine aJ.mk hh fun w5 h5=> ?_
  have put: ∀w5,Hp E w5 ([al 1 o (ys.flatMap gN)]++(af b (.cells (aT (ints l)) 215 (0,0))::F))→(n=0∨∃h:n - 1<ys.length,l.getD ys[n - 1] 0≤l.getD k 0)→∀s' w',Hp E w' (al 1 s' ((ys.take n++k::ys.drop n).flatMap gN)::([al 1 o (ys.flatMap gN)]++(af b (.cells (aT (ints l)) 215 (0,0))::F)))→
    (∃(k':Nat) (zs:List Nat),(k:Int)+1=(k':Int)∧k'≤258∧zs.Perm ((List.range k').filter fun s=>decide (0<l.getD s 0))∧(zs.Pairwise fun a b=>l.getD a 0<l.getD b 0∨(l.getD a 0=l.getD b 0∧a<b))∧
    Hp E w' (al 1 s' (zs.flatMap gN)::af b (.cells (aT (ints l)) 215 (0,0))::F))∧258 - ((k:Int)+1).toNat<258 - (k:Int).toNat:=by
   intro w5 h5 hle s' w6 h6
   refine ⟨⟨k+1,ys.take n++k::ys.drop n,rfl,by omega,?_,DN hp ho hn hgt hle,h6.p1.drop⟩,by omega⟩
   rw [es]
   refine List.perm_middle.trans ?_
   rw [List.take_append_drop]
   refine (List.Perm.cons k hp).trans ?_
   exact (List.perm_append_singleton k _).symm
  refine aa.mk (fun hpos=> ?_) (fun hpos=> ?_)
  ·have hpos:0<n:=by have:=of_decide_eq_true hpos;omega
   have hn1:n - 1<ys.length:=by omega
   have hx:=hin _ (List.getElem_mem hn1)
   have h5':=h5
   rw [kJ] at h5'
   rw [show i64 ((n:Int) - 1)=((n - 1:Nat):Int) by rw [ae (by omega)];omega]
   refine z8 (i:=n - 1) (ys:=ys) (by rw [Ec];exact h5.ah ad.own) hn1 ?_
   refine aw.rd (s:= .int .i64) h5'.p1 (by omega) (by omega) _ (qC (by omega)) ?_
   refine aw.rd (s:= .int .i64) h5'.p1 (by omega) (by omega) _ (qC (by omega)) ?_
   refine aa.mk (fun hc=> ?_) (fun hc=> ?_)
   ·have hc:l.getD k 0<l.getD ys[n - 1] 0:=by have:=of_decide_eq_true hc;omega
    refine ⟨⟨n - 1,rfl,by omega,fun j hj hnj=> ?_,h5⟩,by dsimp only;omega⟩
    by_cases e:j=n - 1
    ·subst e;exact hc
    ·exact hgt j hj (by omega)
   ·have hc:l.getD ys[n - 1] 0≤l.getD k 0:=by have:=of_decide_eq_false hc;omega
    exact zx (e:=3) At rQ (by decide) IM (A:= [al 1 o (ys.flatMap gN)]) (F:=af b (.cells (aT (ints l)) 215 (0,0))::F) h5 ad.own hoc hn (by omega) (by decide) rfl (put w5 h5 (.inr ⟨hn1,hc⟩))
  ·have hpos:n=0:=by have:=of_decide_eq_false hpos;omega
   exact zx (e:=3) At rQ (by decide) IM (A:= [al 1 o (ys.flatMap gN)]) (F:=af b (.cells (aT (ints l)) 215 (0,0))::F) h5 ad.own hoc hn (by omega) (by decide) rfl (put w5 h5 (.inl hpos))
end
end Go.Proofs.YtgglghjnakclmaaGreat
set_option maxRecDepth 20000
namespace Go.Proofs.YtgglghjnakclmaaGreat
open Go Go.Vc Go.Srt Go.Pm
section
variable {E w:World} {F:List HP}
def cR (x:Fp):List Value:= [.int .i64 (x.w:Int),.int .i64 x.sym,.int .i64 (x.one:Int),.int .i64 (x.two:Int)]
theorem cO: ∀x,(cR x).length=4:=fun _=>rfl
theorem ko: ∀x,∀y∈cR x,aF y=true:=by
 intro x y hy
 simp only [cR,List.mem_cons,List.not_mem_nil,or_false] at hy
 rcases hy with rfl|rfl|rfl|rfl<;>rfl
theorem oD:bP Tryz.prog 361 363 4 32:=bP.of (by kernel_rfl) (by kernel_rfl)
theorem LA:bP Tryz.prog 315 361 1 24:=bP.of (by kernel_rfl) (by kernel_rfl)
abbrev RK:List Sc:= [.int .i64,.int .i64,.int .i64,.int .i64]
def tR (x:Fp):TT RK:=((x.w:Int),x.sym,(x.one:Int),(x.two:Int),())
set_option maxRecDepth 20000 in
theorem LZ {s:Sl} {l:List Fp} {x:Fp} {K:Sl→World→Prop} (h:Hp E w F) (hs:ad F (aD 4 s (l.flatMap cR))) (hcap:s.len≤s.cap) (hlen:l.length≤2^20)
  (hK: ∀k s' w',k≤l.length→(∀j (hj:j<l.length),k≤j→x.w<l[j].w)→(k=0∨∃h:k - 1<l.length,l[k - 1].w≤x.w)→Hp E w' (al 4 s' ((l.take k++x::l.drop k).flatMap cR)::F)→K s' w'):
  Cl Tryz.prog [kS] oX ⟨[.slice s.base s.len s.cap,.agg ⟨fX RK (tR x)⟩]⟩ w K:=by
 refine Fq.ok s (tR x) _ _ ?_
 have hl:=aD.len cO (by decide) (h.ah hs)
 refine Nw.mk h fun b w1 h1=> ?_
 refine ⟨fun i w'=> ∃n:Nat,i=(n:Int)∧n≤l.length∧(∀j (hj:j<l.length),n≤j→x.w<l[j].w)∧Hp E w' (af b (.cells ⟨cR x⟩ 363 (0,0))::F),fun i _=>i.toNat,⟨l.length,by rw [hl],Nat.le_refl _,fun j hj hn=>by omega,h1⟩,?_⟩
 rintro i w2 ⟨n,rfl,hn,hgt,hh⟩
 refine aJ.mk hh fun w3 h3=> ?_
 refine aa.mk (fun hpos=> ?_) (fun hpos=> ?_)
 ·have hpos:0<n:=by have:=of_decide_eq_true hpos;omega
  have hn1:n - 1<l.length:=by omega
  rw [show i64 ((n:Int) - 1)=((n - 1:Nat):Int) by rw [ae (by omega)];omega]
  refine an.el (n:=n - 1) cO (by decide) (h3.drop.ah hs) rfl hn1 fun p hp=> ?_
  refine Ld.sc (s:= .int .i64) (l[n - 1].w:Int) (by rw [hp 0 (by decide)];simp [cR]) ?_
  rw [ak]
  refine Ld.aH h3 (x.w:Int) (by simp [cR]) ?_
  refine aa.mk (fun hc=> ?_) (fun hc=> ?_)
  ·have hc:x.w<l[n - 1].w:=by have:=of_decide_eq_true hc;omega
   refine ⟨⟨n - 1,rfl,by omega,fun j hj hnj=> ?_,h3⟩,by dsimp only;omega⟩
   by_cases e:j=n - 1
   ·subst e;exact hc
   ·exact hgt j hj (by omega)
  ·have hc:l[n - 1].w≤x.w:=by have:=of_decide_eq_false hc;omega
   refine bj.el (a:=0) (b:=n) (l:=l) cO hl rfl rfl (by omega) hn (by omega) (Int.le_refl _) fun s1 hs1 hl1 _=> ?_
   have q1:=hs1 w3 (h3.drop.ah hs)
   simp only [List.drop_zero,Nat.sub_zero] at q1
   refine sE (s:=⟨none,0,0⟩) (l:= []) oD cO (by decide) ko (h3.a9 4) q1 (by simp;omega) (by simp;omega) fun s2 w4 h4 _=> ?_
   rw [List.nil_append] at h4
   refine Ld.zh (ks:=RK) h4.p1 (tR x) rfl ?_
   refine r7 (g:=cR) (x:=x) oD cO (by decide) rfl (ko x) h4 (by simp;omega) (by simp;omega) fun s3 w5 h5 _=> ?_
   refine bj.el (a:=n) (b:=l.length) (l:=l) cO hl rfl (by rw [hl]) hn (Nat.le_refl _) (by omega) (Int.le_refl _) fun s4 hs4 hl4 _=> ?_
   have q4:=hs4 w5 (h5.drop.drop.ah hs)
   rw [List.take_of_length_le (by rw [List.length_drop];omega)] at q4
   refine sE oD cO (by decide) ko h5 q4 (by simp;omega) (by simp;omega) fun s5 w6 h6 _=>hK n s5 w6 hn hgt (.inr ⟨hn1,hc⟩) ?_
   rw [List.append_assoc] at h6
   exact h6.p1.drop
 ·have hpos:n=0:=by have:=of_decide_eq_false hpos;omega
  refine bj.el (a:=0) (b:=n) (l:=l) cO hl rfl rfl (by omega) hn (by omega) (Int.le_refl _) fun s1 hs1 hl1 _=> ?_
  have q1:=hs1 w3 (h3.drop.ah hs)
  simp only [List.drop_zero,Nat.sub_zero] at q1
  refine sE (s:=⟨none,0,0⟩) (l:= []) oD cO (by decide) ko (h3.a9 4) q1 (by simp;omega) (by simp;omega) fun s2 w4 h4 _=> ?_
  rw [List.nil_append] at h4
  refine Ld.zh (ks:=RK) h4.p1 (tR x) rfl ?_
  refine r7 (g:=cR) (x:=x) oD cO (by decide) rfl (ko x) h4 (by simp;omega) (by simp;omega) fun s3 w5 h5 _=> ?_
  refine bj.el (a:=n) (b:=l.length) (l:=l) cO hl rfl (by rw [hl]) hn (Nat.le_refl _) (by omega) (Int.le_refl _) fun s4 hs4 hl4 _=> ?_
  have q4:=hs4 w5 (h5.drop.drop.ah hs)
  rw [List.take_of_length_le (by rw [List.length_drop];omega)] at q4
  refine sE oD cO (by decide) ko h5 q4 (by simp;omega) (by simp;omega) fun s5 w6 h6 _=>hK n s5 w6 hn hgt (.inl hpos) ?_
  rw [List.append_assoc] at h6
  exact h6.p1.drop
def im (ys ws:List Nat) (rs:List Sl) (G:List HP):Prop:= ∀j (hj:j<rs.length),ad G (aD 4 rs[j] ((ck ys (row ws j) 0 0).flatMap cR))∧rs[j].len≤rs[j].cap
theorem im.more {ys ws:List Nat} {rs:List Sl} {G:List HP} {s:Sl} (h:im ys ws rs G) (hc:s.len≤s.cap):im ys ws (rs++ [s]) (al 4 s ((ck ys (row ws rs.length) 0 0).flatMap cR)::G):=by
 intro j hj
 rcases Nat.lt_or_ge j rs.length with hlt|hge
 ·rw [List.getElem_append_left hlt]
  exact ⟨(h j hlt).1.cons,(h j hlt).2⟩
 ·have:j=rs.length:=by simp at hj;omega
  subst this
  simp only [List.getElem_append_right (Nat.le_refl _),Nat.sub_self,List.getElem_cons_zero]
  exact ⟨ad.own,hc⟩
theorem im.imp {ys ws:List Nat} {rs:List Sl} {G G':List HP} (h:im ys ws rs G) (hG: ∀φ,ad G φ→ad G' φ):im ys ws rs G':=fun j hj=>⟨hG _ (h j hj).1,(h j hj).2⟩
theorem I8 {ys ws:List Nat} {P:List It} {p:It} {k:Nat} (hw:od ws) (hu:Up P) (hP: ∀q∈P,q.1≤p.1) (hf: ∀q∈P,q.2=false) (hp:p.2=false) (hk:k≤(ck ys (bK (bA ws) P) 0 0).length)
  (h1: ∀j (hj:j<(ck ys (bK (bA ws) P) 0 0).length),k≤j→p.1<(ck ys (bK (bA ws) P) 0 0)[j].w) (h2:k=0∨∃h:k - 1<(ck ys (bK (bA ws) P) 0 0).length,(ck ys (bK (bA ws) P) 0 0)[k - 1].w≤p.1):
  (ck ys (bK (bA ws) P) 0 0).take k++⟨p.1,-1,2*P.length,2*P.length+1⟩::(ck ys (bK (bA ws) P) 0 0).drop k=ck ys (bK (bA ws) (P++ [p])) 0 0:=by
 rw [cB] at hk
 have h1': ∀j (hj:j<(bK (bA ws) P).length),k≤j→p.1<(bK (bA ws) P)[j].1:=fun j hj hkj=>by
  have:=h1 j (by rw [cB];exact hj) hkj
  rwa [zq ys _ hj] at this
 have h2':k=0∨∃h:k - 1<(bK (bA ws) P).length,(bK (bA ws) P)[k - 1].1≤p.1:=by
  rcases h2 with h2|⟨h3,h2⟩
  ·exact .inl h2
  ·rw [cB] at h3
   refine .inr ⟨h3,?_⟩
   rwa [zq ys _ h3] at h2
 have hins:=C2 (p:=p) (E8 _ _ (sF hw) hu) hk h1' h2'
 rw [HI p _ _ hP] at hins
 have hleaf: ∀x∈(bK (bA ws) P).drop k,x.2=true:=by
  intro x hx
  obtain ⟨i,hi,rfl⟩:=List.getElem_of_mem hx
  rw [List.length_drop] at hi
  rw [List.getElem_drop]
  have hgt:=h1' (k+i) (by omega) (by omega)
  rcases List.mem_append.1 ((kT _ _).mem_iff.1 (List.getElem_mem (show k+i<(bK (bA ws) P).length by omega))) with hm|hm
  ·obtain ⟨y,_,e⟩:=List.mem_map.1 hm
   rw [←e]
  ·have:=hP _ hm
   omega
 have hpk:cC ((bK (bA ws) P).take k)=P.length:=by
  have e1:cC (bK (bA ws) P)=P.length:=by
   have hperm:=kT (bA ws) P
   have:cC (bK (bA ws) P)=cC (bA ws++P):=(hperm.filter _).length_eq
   rw [this]
   unfold cC
   rw [List.filter_append,List.length_append,List.filter_eq_nil_iff.2,List.filter_eq_self.2]
   ·simp
   ·intro x hx;simp [hf x hx]
   ·intro x hx;obtain ⟨y,_,rfl⟩:=List.mem_map.1 hx;simp
  have e2:cC ((bK (bA ws) P).drop k)=0:=by
   unfold cC
   rw [List.length_eq_zero_iff,List.filter_eq_nil_iff]
   intro x hx;simp [hleaf x hx]
  have e3:cC (bK (bA ws) P)=cC ((bK (bA ws) P).take k)+cC ((bK (bA ws) P).drop k):=by
   conv=>lhs;rw [←List.take_append_drop k (bK (bA ws) P)]
   unfold cC
   rw [List.filter_append,List.length_append]
  omega
 rw [hins]
 generalize hX:(bK (bA ws) P).take k=X at hpk
 generalize hY:(bK (bA ws) P).drop k=Y at hleaf
 have hXY:bK (bA ws) P=X++Y:=by rw [←hX,←hY,List.take_append_drop]
 have hXl:(ck ys X 0 0).length=k:=by rw [cB,←hX,List.length_take];omega
 rw [hXY,mY,mY,←hXl,List.take_left,List.drop_left]
 obtain ⟨pw,pb⟩:=p
 simp only at hp
 subst hp
 rw [ck,Nat.zero_add,Nat.zero_add,hpk,wj ys Y _ P.length (P.length+1) hleaf]
theorem D6 {R:List It} {j:Nat} (h:2*j+1<R.length):(aU R).take (j+1)=(aU R).take j++ [((R[2*j]'(by omega)).1+R[2*j+1].1,false)]:=by
 have key: ∀(j:Nat) (R:List It) (h:2*j+1<R.length),(aU R)[j]? =some ((R[2*j]'(by omega)).1+R[2*j+1].1,false):=by
  intro j
  induction j with
  |zero=>
   intro R h
   match R,h with
   |a::b::R,_=>rfl
  |succ j ih=>
   intro R h
   match R,h with
   |a::b::R,h=>
    rw [aU,List.getElem?_cons_succ,ih R (by simp at h;omega)]
    rfl
 rw [List.take_add_one,key j R h];rfl
end
end Go.Proofs.YtgglghjnakclmaaGreat
set_option maxRecDepth 20000
namespace Go.Proofs.YtgglghjnakclmaaGreat
open Go Go.Vc Go.Srt Go.Pm
section
variable {E w:World} {F:List HP}
theorem JP {ys ws:List Nat} {k:Nat} (h:k<ws.length):ck ys (bA (ws.take (k+1))) 0 0=ck ys (bA (ws.take k)) 0 0++ [⟨ws[k],(ys.getD k 0:Int),0,0⟩]:=by
 rw [Bb h,mY,oI,List.length_take,Nat.zero_add,Nat.min_eq_left (by omega)]
 rfl
set_option maxRecDepth 20000 in
theorem Lg {l ys:List Nat} {N:Nat} {K:Sl→World→Prop} (h:Hp E w F) (hl:l.length=258) (hm:kG l) (hN1:1≤N) (hN:N≤15) (hys:br l ys)
  (hK: ∀out rs G w',rs.length=N→im ys (aB l ys) rs G→Hp E w' (al 1 out (rs.flatMap iF)::(G++F))→K out w'):Cl Tryz.prog [kS] np ⟨[.agg (ai .i64 l),.int .i64 (N:Int)]⟩ w K:=by
 refine DP.ok _ _ _ _ ?_
 have hvl:aR (ints l)=true:=iD hm
 have hlen:=wz hl hys
 have hin2: ∀s∈ys,s<258:=fun s hs=>(py hl hys s hs).1
 have hwl:(aB l ys).length=ys.length:=List.length_map _
 have hasc:=pX hys
 refine Nw.mk h fun b4 w1 h1=>Ld.arr h1 (by rw [av,hl]) ?_
 rw [←kJ] at h1⊢
 refine A9 h1 (by rw [cG,hl]) (fun hv=>by rw [hvl] at hv;cases hv) fun l' hll hm' hl' zs s w2 hzs h2=> ?_
 have:l=l':=(List.map_inj_right (fun x y h=>by have h:(x:Int)=(y:Int):=h;omega)).1 hll
 subst this
 obtain rfl:=uC hys hzs
 rw [Ec,kJ] at h2
 have hsl:=aD.len rQ (by decide) (h2.ah ad.own)
 refine ⟨fun o i w'=> ∃k:Nat,i=(k:Int)∧k≤ys.length∧Hp E w' (al 4 o ((ck ys (bA ((aB l ys).take k)) 0 0).flatMap cR)::al 1 s (ys.flatMap gN)::af b4 (.cells (ai .i64 l) 215 (0,0))::F),fun _ i _=>ys.length - i.toNat,⟨0,rfl,by omega,h2.a9 4⟩,?_⟩
 rintro o i w3 ⟨k,rfl,hk,hh⟩
 refine aa.mk (fun hlt=> ?_) (fun hge=> ?_)
 ·have hlt:k<ys.length:=by have:=of_decide_eq_true hlt;omega
  have hx:=hin2 _ (List.getElem_mem hlt)
  have hd:Hp E {w3 with drawn:=w3.drawn+1} _:=hh.drew
  refine ⟨cZ E (al 1 s (ys.flatMap gN)::af b4 (.cells (ai .i64 l) 215 (0,0))::F),cZ.r9 hd,?_⟩
  have rd: ∀{K:Int→Prop},K (ys[k]:Int)→an s (k:Int) 1 fun q=>aG kI q (cZ E (al 1 s (ys.flatMap gN)::af b4 (.cells (ai .i64 l) 215 (0,0))::F)) K:=fun {K} hK=>
   an.KS (n:=k) rQ (by decide) hd.drop ad.own rfl hlt fun p hp=>aG.sc (s:= .int .i64) (ys[k]:Int) (fun w2 h2=>by
    have:=h2.ah (hp 0 (by decide))
    rw [add_zero] at this
    rw [this];rfl) hK
  refine rd ⟨by omega,by omega,?_⟩
  rw [ak]
  refine aG.aH (s:= .int .i64) (fun w2 h2=>h2.Fv) (l.getD ys[k] 0:Int) (by rw [Nat.zero_add,Nat.mul_one];exact qC (by omega)) ?_
  refine rd (Nw.mk hd fun b22 w4 h4=>⟨cZ.Gf h4,?_⟩)
  have hol:=aD.len cO (by decide) (hh.ah ad.own)
  have hll2:(ck ys (bA ((aB l ys).take k)) 0 0).length=k:=by rw [cB,cm,List.length_take];omega
  refine aK (ys:=cR ⟨l.getD ys[k] 0,(ys[k]:Int),0,0⟩) (n:=1) oD (by decide) (.inl ⟨363,by kernel_rfl⟩) h4.p1 (.inl ⟨_,_,_,rfl,rfl,h4.ah (ad.aH rfl rfl)⟩) rfl (ko _) (by omega) (by omega) fun s' w5 h5 _=>⟨cZ.Gf h5,?_⟩
  rw [ae (by omega)]
  refine ⟨⟨k+1,rfl,by omega,?_⟩,by dsimp only;omega⟩
  have e:(aB l ys)[k]'(by omega)=l.getD ys[k] 0:=by simp [aB]
  rw [JP (by omega),List.flatMap_append,e,jS hlt]
  simpa using h5.p1.drop
 ·have hge:k=ys.length:=by have:=of_decide_eq_false hge;omega
  subst hge
  rw [List.take_of_length_le (by omega)] at hh
  have hoc:=hh.km
  refine Nw.mk hh fun b26 w5 h5=> ?_
  refine ⟨fun out k w'=> ∃(rs:List Sl) (G:List HP),k=(rs.length:Int)∧1≤rs.length∧rs.length≤N∧rs[0]? =some o∧im ys (aB l ys) rs G∧
    Hp E w' (al 1 out (rs.flatMap iF)::al 1 s (ys.flatMap gN)::af b4 (.cells (ai .i64 l) 215 (0,0))::(G++F)),
   fun _ k _=>N - k.toNat,⟨[o],[al 4 o ((ck ys (bA (aB l ys)) 0 0).flatMap cR)],rfl,Nat.le_refl _,hN1,rfl,?_,?_⟩,?_⟩
  ·intro j hj
   have:j=0:=by simp at hj;omega
   subst this
   exact ⟨ad.own,hoc⟩
  ·exact (h5.fz (sz:=1) (n:=1) rfl).p1.q3
  rintro out k w6 ⟨rs,G,rfl,hr1,hrN,hr0,hrs,hh⟩
  have hrl:=aD.len gu (by decide) (hh.ah ad.own)
  refine aa.mk (fun hlt=> ?_) (fun hge=>hK out rs G w6 (by have:=of_decide_eq_false hge;omega) hrs (hh.p1.drop.p1.drop))
  have hlt:rs.length<N:=by have:=of_decide_eq_true hlt;omega
  have hr0':rs[0]=o:=by rw [List.getElem?_eq_getElem (by omega)] at hr0;exact Option.some.inj hr0
  rw [show i64 ((rs.length:Int) - 1)=((rs.length - 1:Nat):Int) by rw [ae (by omega)];omega]
  refine an.el (n:=rs.length - 1) gu (by decide) (hh.ah ad.own) rfl (by omega) fun p hp=> ?_
  refine Ld.sc (s:= .sl) rs[rs.length - 1] (by have:=hp 0 (by decide);rw [add_zero] at this;rw [this];rfl) ?_
  have ht0:=(hrs 0 (by omega)).1
  rw [hr0'] at ht0
  have htk:=hrs (rs.length - 1) (by omega)
  refine Nw.mk hh fun b35 w7 h7=> ?_
  have ht0':ad (al 1 out (rs.flatMap iF)::al 1 s (ys.flatMap gN)::af b4 (.cells (ai .i64 l) 215 (0,0))::(G++F)) (aD 4 o ((ck ys (row (aB l ys) 0) 0 0).flatMap cR)):=ad.cons (ad.cons (ad.cons ht0.ur))
  have htk':ad (al 1 out (rs.flatMap iF)::al 1 s (ys.flatMap gN)::af b4 (.cells (ai .i64 l) 215 (0,0))::(G++F)) (aD 4 rs[rs.length - 1] ((ck ys (row (aB l ys) (rs.length - 1)) 0 0).flatMap cR)):=ad.cons (ad.cons (ad.cons htk.1.ur))
  have hx0:=aD.len cO (by decide) (h7.drop.ah htk')
  rw [cB] at hx0
  have hrk2:=mE (aB l ys) (rs.length - 1)
  have hw60:=Io (ys:=ys) hm (k:=rs.length - 1) (by omega)
  have h0l:(ck ys (row (aB l ys) 0) 0 0).length=ys.length:=by rw [cB,row,cm,hwl]
  refine sE (s:=⟨some ⟨b35,0,none⟩,0,0⟩) (l:= []) oD cO (by decide) ko (h7.fz (sz:=4) (n:=0) rfl) (h7.drop.ah ht0') (by simp;omega) (by simp;omega) fun s37 w8 h8 _=> ?_
  rw [List.nil_append] at h8
  generalize hR:row (aB l ys) (rs.length - 1)=R at*
  have hpl:=eh R
  refine ⟨fun rw41 i w'=> ∃j:Nat,i=((2*j:Nat):Int)∧2*j≤R.length∧Hp E w' (al 4 rw41 ((ck ys (bK (bA (aB l ys)) ((aU R).take j)) 0 0).flatMap cR)::al 1 out (rs.flatMap iF)::al 1 s (ys.flatMap gN)::af b4 (.cells (ai .i64 l) 215 (0,0))::(G++F)),
   fun _ i _=>R.length - i.toNat,⟨0,rfl,by omega,by simpa [row,mN] using h8⟩,?_⟩
  rintro rw41 i w9 ⟨j,rfl,hj,hh⟩
  have hml:(ck ys (bK (bA (aB l ys)) ((aU R).take j)) 0 0).length≤2^20:=by rw [cB,wJ,cm,List.length_take];omega
  rw [ae (x:=((2*j:Nat):Int)+1) (by omega)]
  refine aa.mk (fun hlt2=> ?_) (fun hge2=> ?_)
  ·have hlt2:2*j+1<R.length:=by have:=of_decide_eq_true hlt2;omega
   have hx1:=hw60 _ (List.getElem_mem (show 2*j<R.length by omega))
   have hx2:=hw60 _ (List.getElem_mem hlt2)
   refine aJ.mk hh fun w10 h10=> ?_
   refine an.el (n:=2*j) cO (by decide) (h10.drop.ah htk') rfl (by rw [cB];omega) fun p hp=> ?_
   refine Ld.sc (s:= .int .i64) ((R[2*j]'(by omega)).1:Int) (by rw [hp 0 (by decide)];simp only [cR,List.getElem?_cons_zero];rw [zq ys R (by omega)]) ?_
   refine an.el (n:=2*j+1) cO (by decide) (h10.drop.ah htk') (by omega) (by rw [cB];omega) fun q hq=> ?_
   refine Ld.sc (s:= .int .i64) (R[2*j+1].1:Int) (by rw [hq 0 (by decide)];simp only [cR,List.getElem?_cons_zero];rw [zq ys R hlt2]) ?_
   have hsn:=D6 hlt2
   have hup:=ud R (by rw [←hR];exact ER hasc _)
   rw [ae (x:=((R[2*j]'(by omega)).1:Int)+(R[2*j+1].1:Int)) (by omega),ae (x:=((2*j:Nat):Int)+2) (by omega)]
   generalize hp1:(R[2*j]'(by omega)).1+R[2*j+1].1=p1 at hsn
   rw [show ((R[2*j]'(by omega)).1:Int)+(R[2*j+1].1:Int)=(p1:Int) by omega,show ((2*j:Nat):Int)+1=((2*j+1:Nat):Int) by omega]
   have hall: ∀q∈(aU R).take j,q.1≤p1:=by
    have hu2:Up ((aU R).take (j+1)):=List.Pairwise.sublist (List.take_sublist ..) hup
    rw [hsn] at hu2
    intro q hq
    exact (List.pairwise_append.1 hu2).2.2 q hq (p1,false) (by simp)
   have hjl:((aU R).take j).length=j:=by rw [List.length_take];omega
   refine LZ (x:=⟨p1,-1,2*j,2*j+1⟩) h10 ad.own h10.km hml fun kk s' w11 hkk hk1 hk2 h11=> ?_
   have hlp:=I8 (ys:=ys) (ws:=aB l ys) (P:=(aU R).take j) (p:=(p1,false)) hasc (List.Pairwise.sublist (List.take_sublist ..) hup) hall (fun q hq=>my R q (List.mem_of_mem_take hq)) rfl hkk hk1 hk2
   rw [hjl,←hsn] at hlp
   rw [hlp] at h11
   exact ⟨⟨j+1,by omega,by omega,h11.p1.drop⟩,by dsimp only;omega⟩
  ·have hge2: ¬2*j+1<R.length:=by have:=of_decide_eq_false hge2;omega
   have e:bK (bA (aB l ys)) ((aU R).take j)=row (aB l ys) rs.length:=by
    rw [List.take_of_length_le (by omega)]
    have:rs.length=(rs.length - 1)+1:=by omega
    rw [this,row,hR]
   rw [e] at hh
   have hcs:=hh.km
   refine r7 (g:=iF) (x:=rw41) LA gu (by decide) rfl (F9 _) hh.p1 (by omega) (by omega) fun s53 w12 h12 _=> ?_
   rw [ae (by omega)]
   refine ⟨⟨rs++ [rw41],al 4 rw41 ((ck ys (row (aB l ys) rs.length) 0 0).flatMap cR)::G,by simp,by simp,by simp;omega,?_,hrs.more hcs,h12.p1.q3⟩,by dsimp only;omega⟩
   rw [List.getElem?_append_left (by omega)];exact hr0
theorem G4 {ws:List Nat} {k i:Nat} (hi:i<(row ws k).length):(row ws k).getD i (0,true)=(row ws k)[i]:=by
 rw [List.getD_eq_getElem?_getD,List.getElem?_eq_getElem hi];rfl
set_option maxRecDepth 20000 in
theorem Jj {ys ws:List Nat} {rs:List Sl} {all:Sl} (hasc:od ws) (hwl:ws.length=ys.length) (hnd:ys.Nodup) (hin: ∀s∈ys,s<258) (hrn:rs.length≤15):
  ∀(k i:Nat) {w:World} {F:List HP} {f:Nat→Nat} {K:Array Value→World→Prop} (_:Hp E w F) (_:ad F (aD 1 all (rs.flatMap iF))) (_:im ys ws rs F) (_:k<rs.length) (_:i<(row ws k).length) (_: ∀j,j<ys.length→f j+en ws k i j≤255)
   (_: ∀w',Hp E w' F→K (ai .u8 (ch ys fun j=>f j+en ws k i j)) w'),
   Cl Tryz.prog [.arr 258] gj ⟨[.agg (ai .u8 (ch ys f)),.slice all.base all.len all.cap,.int .i64 (k:Int),.int .i64 (i:Int)]⟩ w K:=by
 intro k
 induction k with
 |zero=>
  intro i w F f K h hall hrs hk hi hb hK
  refine tI.ok _ _ _ _ _ _ ?_
  rw [jP]
  refine Nw.mk h fun b6 w1 h1=>Nw.mk h1 fun b8 w2 h2=> ?_
  refine an.el (n:=0) gu (by decide) (h2.drop.drop.ah hall) rfl hk fun p hp=> ?_
  refine Ld.sc (s:= .sl) rs[0] (by have:=hp 0 (by decide);rw [add_zero] at this;rw [this];rfl) ?_
  have hr:=hrs 0 hk
  refine an.el (n:=i) cO (by decide) (h2.drop.drop.ah hr.1) rfl (by rw [cB];exact hi) fun q hq=> ?_
  have hi':i<ws.length:=by rw [row,cm] at hi;exact hi
  have hx:=xu ys (row ws 0) hi
  have h0:(row ws 0)[i].2=true:=by simp [row,bA]
  rw [if_pos h0,(ny i (by omega)).1] at hx
  rw [hx] at hq
  refine Ld.st (ks:=RK) (tR ⟨(row ws 0)[i].1,(ys.getD i 0:Int),0,0⟩) (fun j hj=>hq j hj) ?_
  refine Nw.mk h2 fun b14 w3 h3=>bl.aH h3 rfl (ko ⟨(row ws 0)[i].1,(ys.getD i 0:Int),0,0⟩) fun w4 h4=> ?_
  rw [ak]
  refine Ld.aH h4 (ys.getD i 0:Int) rfl (aa.t (decide_eq_true (by omega)) ?_)
  refine Ld.aH h4 (ys.getD i 0:Int) rfl ?_
  have hiy:i<ys.length:=by omega
  rw [jS hiy]
  have hy:=hin _ (List.getElem_mem hiy)
  have hcov: ∀j,en ws 0 i j=if j=i then 1 else 0:=fun j=>rfl
  have hbi:=hb i hiy
  rw [hcov,if_pos rfl] at hbi
  refine aw.rd (s:= .int .u8) h4.p2 (by omega) (by omega) _ (qC (by rw [bd];omega)) ?_
  refine aw.wr h4.p2 (by omega) (by omega) (by rw [av,bd]) rfl fun w5 h5=> ?_
  rw [pR hnd hin hiy,dE (by omega),Int.toNat_natCast,show ((f i:Int)+1)=((f i+1:Nat):Int) by omega,nq,pV hnd hiy] at h5
  have e:ch ys (fun j=>if j=i then f i+1 else f j)=ch ys (fun j=>f j+en ws 0 i j):=eX fun j _=>by
   rw [hcov]
   by_cases hj:j=i
   ·subst hj;rw [if_pos rfl,if_pos rfl]
   ·rw [if_neg hj,if_neg hj];rfl
  rw [e] at h5
  exact Ld.arr h5 (by rw [av,bd]) (ax.aH h5.p2 (by rw [av];simp) (by rw [av,bd]) cd fun w6 h6=>Ld.arr h6 (by rw [av,bd]) (hK w6 h6.drop.drop.drop))
 |succ k ih=>
  intro i w F f K h hall hrs hk hi hb hK
  refine tI.ok _ _ _ _ _ _ ?_
  rw [jP]
  refine Nw.mk h fun b6 w1 h1=>Nw.mk h1 fun b8 w2 h2=> ?_
  refine an.el (n:=k+1) gu (by decide) (h2.drop.drop.ah hall) rfl hk fun p hp=> ?_
  refine Ld.sc (s:= .sl) rs[k+1] (by have:=hp 0 (by decide);rw [add_zero] at this;rw [this];rfl) ?_
  have hr:=hrs (k+1) hk
  refine an.el (n:=i) cO (by decide) (h2.drop.drop.ah hr.1) rfl (by rw [cB];exact hi) fun q hq=> ?_
  have hx:=xu ys (row ws (k+1)) hi
  have hnx:=vz hi
  obtain ⟨c1,c2,c3,_,_⟩:=jN hasc k (i+1) hi
  have hle:=zK ((row ws (k+1)).take i)
  rw [List.length_take] at hle
  have hcov: ∀j,en ws (k+1) i j=if (row ws (k+1))[i].2=true then (if j=aE ((row ws (k+1)).take i) then 1 else 0) else en ws k (2*(i - aE ((row ws (k+1)).take i))) j+en ws k (2*(i - aE ((row ws (k+1)).take i))+1) j:=fun j=>by
   rw [Br,G4 hi]
  generalize hqq:aE ((row ws (k+1)).take i)=m at*
  by_cases hlf:(row ws (k+1))[i].2=true
  ·rw [if_pos hlf] at hx hnx
   rw [hx] at hq
   refine Ld.st (ks:=RK) (tR ⟨(row ws (k+1))[i].1,(ys.getD m 0:Int),0,0⟩) (fun j hj=>hq j hj) ?_
   refine Nw.mk h2 fun b14 w3 h3=>bl.aH h3 rfl (ko ⟨(row ws (k+1))[i].1,(ys.getD m 0:Int),0,0⟩) fun w4 h4=> ?_
   rw [ak]
   refine Ld.aH h4 (ys.getD m 0:Int) rfl (aa.t (decide_eq_true (by omega)) ?_)
   refine Ld.aH h4 (ys.getD m 0:Int) rfl ?_
   have hiy:m<ys.length:=by omega
   rw [jS hiy]
   have hy:=hin _ (List.getElem_mem hiy)
   have hbi:=hb m hiy
   rw [hcov,if_pos hlf,if_pos rfl] at hbi
   refine aw.rd (s:= .int .u8) h4.p2 (by omega) (by omega) _ (qC (by rw [bd];omega)) ?_
   refine aw.wr h4.p2 (by omega) (by omega) (by rw [av,bd]) rfl fun w5 h5=> ?_
   rw [pR hnd hin hiy,dE (by omega),Int.toNat_natCast,show ((f m:Int)+1)=((f m+1:Nat):Int) by omega,nq,pV hnd hiy] at h5
   have e:ch ys (fun j=>if j=m then f m+1 else f j)=ch ys (fun j=>f j+en ws (k+1) i j):=eX fun j _=>by
    rw [hcov,if_pos hlf]
    by_cases hj:j=m
    ·subst hj;rw [if_pos rfl,if_pos rfl]
    ·rw [if_neg hj,if_neg hj];rfl
   rw [e] at h5
   exact Ld.arr h5 (by rw [av,bd]) (ax.aH h5.p2 (by rw [av];simp) (by rw [av,bd]) cd fun w6 h6=>Ld.arr h6 (by rw [av,bd]) (hK w6 h6.drop.drop.drop))
  ·rw [if_neg hlf] at hx hnx
   rw [hx] at hq
   have hcov': ∀j,en ws (k+1) i j=en ws k (2*(i - m)) j+en ws k (2*(i - m)+1) j:=fun j=>by rw [hcov,if_neg hlf]
   rw [hnx,show i+1 - (m+0)=i - m+1 by omega] at c3
   refine Ld.st (ks:=RK) (tR ⟨(row ws (k+1))[i].1,-1,2*(i - m),2*(i - m)+1⟩) (fun j hj=>hq j hj) ?_
   refine Nw.mk h2 fun b14 w3 h3=>bl.aH h3 rfl (ko ⟨(row ws (k+1))[i].1,-1,2*(i - m),2*(i - m)+1⟩) fun w4 h4=> ?_
   rw [ak,ak,ak]
   refine Ld.aH h4 (-1:Int) rfl (aa.f (by decide) ?_)
   have h4':Hp E w4 (af b8 _::af b14 _::af b6 _::F):=h4.p1
   have hd:Hp E {w4 with drawn:=w4.drawn+1} _:=h4'.drew
   refine ⟨cZ E (af b14 (.cells ⟨cR ⟨(row ws (k+1))[i].1,-1,2*(i - m),2*(i - m)+1⟩⟩ 363 (0,0))::af b6 (.cells (ai .u8 (ch ys f)) 104 (0,0))::F),cZ.r9 hd,?_⟩
   refine aG.KE (fun w2 h2=>h2.Fv) (by rw [av,bd]) ?_
   refine aG.aH (s:= .int .i64) (fun w2 h2=>h2.front) ((2*(i - m):Nat):Int) rfl ?_
   refine aG.aH (s:= .int .i64) (fun w2 h2=>h2.front) ((2*(i - m)+1:Nat):Int) rfl ?_
   rw [show i64 (((k+1:Nat):Int) - 1)=(k:Int) by rw [ae (by omega)];omega]
   refine ih (2*(i - m)) hd (hall.cons.cons.cons) (hrs.imp fun φ h=>h.cons.cons.cons) (by omega) (by omega) (fun j hj=>by have:=hb j hj;rw [hcov'] at this;omega) fun w5 h5=>⟨cZ.r9 h5,?_⟩
   refine ih (2*(i - m)+1) (f:=fun j=>f j+en ws k (2*(i - m)) j) h5 (hall.cons.cons.cons) (hrs.imp fun φ h=>h.cons.cons.cons) (by omega) (by omega) (fun j hj=>by have:=hb j hj;rw [hcov'] at this;omega) fun w6 h6=>⟨cZ.r9 h6,?_⟩
   have e:ch ys (fun j=>f j+en ws k (2*(i - m)) j+en ws k (2*(i - m)+1) j)=ch ys (fun j=>f j+en ws (k+1) i j):=eX fun j _=>by rw [hcov'];omega
   rw [e]
   exact ax.aH h6 (by rw [av];simp) (by rw [av,bd]) cd fun w7 h7=>⟨cZ.r9 h7,Ld.arr h7 (by rw [av,bd]) (hK w7 h7.drop.drop.drop)⟩
theorem FY {m n:Nat} (h:m≤n) (f:Nat→Nat):aI m f≤aI n f:=by
 induction n with
 |zero=>have:m=0:=by omega
        subst this;exact Nat.le_refl _
 |succ n ih=>
  rw [bS]
  by_cases e:m=n+1
  ·subst e;rw [bS];exact Nat.le_refl _
  ·have:=ih (by omega);omega
theorem pZ {b b2:Nat} {t t2:TypeId} {l l2:List Nat} {K:Array Value→World→Prop} (h:Hp E w (af b (.cells (ai .u8 l) t (0,0))::af b2 (.cells (ai .u8 l2) t2 (0,0))::F)) (hl:l.length=258) (hl2:l2.length=258) (hK: ∀w',Hp E w' (af b2 (.cells (ai .u8 l) t2 (0,0))::af b (.cells (ai .u8 l) t (0,0))::F)→K (ai .u8 l) w'):
  Ld (.arr 258) ⟨b,0,none⟩ w fun x=>ax 258 ⟨b2,0,none⟩ x w fun w2=>Ld (.arr 258) ⟨b2,0,none⟩ w2 fun r=>K r w2:=
 Ld.arr h (by rw [av,hl]) (ax.aH h.p1 (by rw [av,hl2]) (by rw [av,hl]) cd fun w2 h2=>Ld.arr h2 (by rw [av,hl]) (hK w2 h2))
set_option maxRecDepth 20000 in
theorem Ea {t:List Int} {L:Int} {K:Array Value→Int→World→Prop} (h:Hp E w F) (hl:t.length=258)
  (hK1:(aR t=false∨L<1∨15<L∨∃l,t=ints l∧(2:Int)^L.toNat<(used l).length)→∀w',Hp E w' F→K (ai .u8 (List.replicate 258 0)) 2 w')
  (hK2: ∀l ys w',t=ints l→kG l→br l ys→1≤L→L≤15→ys.length≤2^L.toNat→Hp E w' F→K (ai .u8 (ch ys (lenOf (aB l ys) L.toNat))) 0 w'):
  Cl Tryz.prog [.arr 258,kI] gD ⟨[.agg (aT t),.int .i64 L]⟩ w K:=by
 refine yR.ok _ _ _ _ ?_
 rw [jP]
 simp only [aq]
 have hz:(List.replicate 258 0).length=258:=List.length_replicate
 refine Nw.mk h fun b4 w1 h1=>Nw.mk h1 fun b6 w2 h2=>Nw.mk h2 fun b8 w3 h3=>Ld.arr h3.p2 (by rw [bE,hl]) (A9 h3 hl (fun hv w4 h4=> ?_) (fun l hte hm hll ys s w4 hys h4=> ?_))
 ·exact Ld.arr h4.p2 (by rw [bE,hl]) (qQ h4 hl fun w5 h5=>aa.t (by rw [hv];rfl) (pZ h5 hz hz fun w6 h6=>hK1 (.inl hv) w6 h6.drop.drop.drop))
 ·subst hte
  have hlen:=wz hll hys
  have hin:=py hll hys
  have hsl:s.len=ys.length:=by
   have:=(h4.ah ad.own).1
   simp only [List.length_map,ints,Nat.mul_one] at this
   exact this.symm
  refine Ld.arr h4.p3 (by rw [bE,hl]) (qQ h4 hl fun w5 h5=>aa.f (by rw [iD hm];rfl) ?_)
  have h5:Hp E w5 (af b8 _::af b6 _::al 1 s _::af b4 _::F):=h5.q2
  refine aa.mk (fun hlt=>pZ h5 hz hz fun w6 h6=>hK1 (.inr (.inl (of_decide_eq_true hlt))) w6 h6.drop.drop.drop.drop) (fun hge=> ?_)
  have hge:=of_decide_eq_false hge
  refine aa.mk (fun hgt=>pZ h5 hz hz fun w6 h6=>hK1 (.inr (.inr (.inl (by have:=of_decide_eq_true hgt;omega)))) w6 h6.drop.drop.drop.drop) (fun hle=> ?_)
  have hle:=of_decide_eq_false hle
  obtain ⟨N,rfl⟩:=Int.eq_ofNat_of_zero_le (show 0≤L by omega)
  have hN:N≤15:=by omega
  have hN1:1≤N:=by omega
  obtain ⟨e1,e2⟩:=CT hN
  rw [e1]
  refine ⟨e2,aa.mk (fun hgt=>pZ h5 hz hz fun w6 h6=>hK1 (.inr (.inr (.inr ⟨l,rfl,?_⟩))) w6 h6.drop.drop.drop.drop) (fun hle2=> ?_)⟩
  ·have hgt:=of_decide_eq_true hgt
   rw [Int.toNat_natCast,←hys.1.length_eq,←hsl]
   rw [show (2:Int)^N=((2^N:Nat):Int) by norm_cast]
   exact hgt
  have hle2:ys.length≤2^N:=by have:=of_decide_eq_false hle2;omega
  have hasc:=pX hys
  have hwl:(aB l ys).length=ys.length:=List.length_map _
  have hnd:=oA hys
  have hin2: ∀s∈ys,s<258:=fun s hs=>(hin s hs).1
  have fine: ∀w',Hp E w' F→K (ai .u8 (ch ys (lenOf (aB l ys) N))) 0 w':=fun w' h'=>hK2 l ys w' rfl hm hys (by omega) (by omega) (by rw [Int.toNat_natCast];exact hle2) h'
  rw [←AL ys] at h5
  refine aa.mk (fun h1=> ?_) (fun h1=> ?_)
  ·have h1:ys.length=1:=by have:(s.len:Int)=1:=by simpa using h1
                           omega
   refine z8 (i:=0) (h5.p2.ah ad.own) (by omega) ?_
   have hx:=hin2 _ (List.getElem_mem (show 0<ys.length by omega))
   refine aw.wr h5 (by omega) (by omega) (by rw [av,bd]) rfl fun w6 h6=> ?_
   rw [Int.toNat_natCast] at h6
   have e:=nq (k:= .u8) (l:=ch ys fun _=>0) (i:=ys[0]) (x:=1)
   rw [show (Value.int .u8 1)= .int .u8 ((1:Nat):Int) from rfl,e,pV hnd (by omega)] at h6
   have e3:ch ys (fun j=>if j=0 then 1 else 0)=ch ys (lenOf (aB l ys) N):=eX fun i hi=>by
    have:i=0:=by omega
    subst this
    unfold lenOf
    rw [if_pos rfl,if_pos (by omega)]
   rw [e3] at h6
   exact pZ h6 (bd ..) (bd ..) fun w7 h7=>fine w7 h7.drop.drop.drop.drop
  ·have h1:ys.length≠1:=by
    intro e
    have: ¬(s.len:Int)=1:=by simpa using h1
    omega
   rw [kJ] at h5
   refine Ld.arr h5.p3 (by rw [av,hll]) (Lg h5 hll hm hN1 hN hys fun out rs G w6 hrN hrs h6=> ?_)
   have h7:=(h6.perm (List.Perm.cons _ List.perm_middle)).p1
   have hcl: ∀i,i<ys.length→lenOf (aB l ys) N i=lv (aB l ys) (N - 1) (2*ys.length - 2) i:=fun i _=>by
    unfold lenOf
    rw [if_neg (by omega),hwl]
   have hrow:ys.length≠0→2*ys.length - 2≤(row (aB l ys) (N - 1)).length:=fun _=>by
    rw [←hwl]
    exact qI (N - 1) (by rw [hwl,show N - 1+1=N by omega];exact hle2)
   rw [ae (x:=2*(s.len:Int)) (by omega),ae (x:=2*(s.len:Int) - 2) (by omega),show i64 ((N:Int) - 1)=((N - 1:Nat):Int) by rw [ae (by omega)];omega]
   refine ⟨fun i w'=> ∃k:Nat,i=(k:Int)∧(k=0∨k≤2*ys.length - 2)∧Hp E w' (af b8 (.cells (ai .u8 (ch ys fun j=>aI k fun i=>en (aB l ys) (N - 1) i j)) 104 (0,0))::al 1 out (rs.flatMap iF)::(G++(af b6 (.cells (ai .u8 (ch ys fun _=>0)) 104 (0,0))::al 1 s ((ints ys).map vI)::af b4 (.cells (ai .i64 l) 215 (0,0))::F))),
    fun i _=>2*ys.length - i.toNat,⟨0,rfl,.inl rfl,h7⟩,?_⟩
   rintro i w8 ⟨k,rfl,hk,hh⟩
   refine aa.mk (fun hlt=> ?_) (fun hge=> ?_)
   ·have hlt:k+2<2*ys.length:=by have:=of_decide_eq_true hlt;omega
    have hr:=hrow (by omega)
    refine Ld.arr hh (by rw [av,bd]) ?_
    refine Jj hasc hwl hnd hin2 (by omega) (N - 1) k hh (ad.cons ad.own) (hrs.imp fun φ h=>h.ur.cons.cons) (by omega) (by omega) (fun j hj=> ?_) fun w9 h9=> ?_
    ·have h1:=FY (show k+1≤2*ys.length - 2 by omega) fun i=>en (aB l ys) (N - 1) i j
     rw [uf hasc j (N - 1) _ hr,bS] at h1
     have:=vQ (aB l ys) (N - 1) (2*ys.length - 2) j
     omega
    ·refine ax.aH h9 (by rw [av,bd]) (by rw [av,bd]) cd fun w10 h10=> ?_
     rw [ae (by omega)]
     refine ⟨⟨k+1,rfl,.inr (by omega),?_⟩,by dsimp only;omega⟩
     have e:ch ys (fun j=>aI (k+1) fun i=>en (aB l ys) (N - 1) i j)=ch ys (fun j=>(aI k fun i=>en (aB l ys) (N - 1) i j)+en (aB l ys) (N - 1) k j):=eX fun j _=>bS ..
     rw [e];exact h10
   ·have hge: ¬k+2<2*ys.length:=by have:=of_decide_eq_false hge;omega
    have e:ch ys (fun j=>aI k fun i=>en (aB l ys) (N - 1) i j)=ch ys (lenOf (aB l ys) N):=eX fun j hj=>by
     have hr:=hrow (by omega)
     have:k=2*ys.length - 2:=by omega
     rw [hcl j hj,←uf hasc j (N - 1) _ hr,this]
    rw [e] at hh
    have hh2:=(hh.perm (List.Perm.cons _ (List.Perm.cons _ List.perm_middle))).perm (List.Perm.cons _ (List.Perm.swap ..))
    exact pZ hh2 (bd ..) (bd ..) fun w9 h9=>fine w9 h9.drop.drop.drop.td.drop.drop
end
end Go.Proofs.YtgglghjnakclmaaGreat
set_option maxRecDepth 20000
namespace Go.Srt
theorem wa (l:List Nat): ∃ys,br l ys:=by
 have tr: ∀a b c:Nat,decide (l.getD a 0<l.getD b 0∨(l.getD a 0=l.getD b 0∧a≤b))=true→decide (l.getD b 0<l.getD c 0∨(l.getD b 0=l.getD c 0∧b≤c))=true→decide (l.getD a 0<l.getD c 0∨(l.getD a 0=l.getD c 0∧a≤c))=true:=by
  intro a b c h1 h2
  simp only [decide_eq_true_eq] at*;omega
 have to: ∀a b:Nat,(decide (l.getD a 0<l.getD b 0∨(l.getD a 0=l.getD b 0∧a≤b))||decide (l.getD b 0<l.getD a 0∨(l.getD b 0=l.getD a 0∧b≤a)))=true:=by
  intro a b
  simp only [Bool.or_eq_true,decide_eq_true_eq];omega
 have hs:=List.pairwise_mergeSort (le:=fun a b=>decide (l.getD a 0<l.getD b 0∨(l.getD a 0=l.getD b 0∧a≤b))) tr to (used l)
 have hp:=List.mergeSort_perm (used l) (fun a b=>decide (l.getD a 0<l.getD b 0∨(l.getD a 0=l.getD b 0∧a≤b)))
 have hn:(used l).Nodup:=List.Pairwise.filter _ (List.nodup_range (n:=l.length))
 have hn2:=hp.nodup_iff.2 hn
 exact ⟨_,hp,(hs.and hn2).imp fun {a b} h=>by have:=of_decide_eq_true h.1;have:=h.2;omega⟩
structure fu (t:List Int) (L:Int) (u ys:List Nat) (N:Nat):Prop where
 eq:t=Proofs.YtgglghjnakclmaaGreat.ints u
 max:kG u
 len:u.length=258
 ord:br u ys
 lim:L=(N:Int)
 one:1≤N
 top:N≤15
 few:ys.length≤2^N
theorem uQ {u v:List Nat} (h:Proofs.YtgglghjnakclmaaGreat.ints u=Proofs.YtgglghjnakclmaaGreat.ints v):u=v:=(List.map_inj_right (fun x y h=>by have h:(x:Int)=(y:Int):=h;omega)).1 h
end Go.Srt
namespace Go.Proofs.YtgglghjnakclmaaGreat
open Go Go.Vc Go.Srt Go.Pm
section
variable {E w:World} {F:List HP}
theorem CA {t:List Int} {L:Int} {u ys:List Nat} {N:Nat} (hg:fu t L u ys N): ¬(aR t=false∨L<1∨15<L∨∃l,t=ints l∧(2:Int)^L.toNat<(used l).length):=by
 obtain ⟨rfl,hm,hl,hys,rfl,h1,h2,h3⟩:=hg
 rintro (h|h|h|⟨l,h,h4⟩)
 ·rw [iD hm] at h;cases h
 ·omega
 ·omega
 ·obtain rfl:=uQ h
  rw [←hys.1.length_eq,Int.toNat_natCast,show (2:Int)^N=((2^N:Nat):Int) by norm_cast] at h4
  omega
def gg (u ys:List Nat) (N:Nat):List Nat:=ch ys (lenOf (aB u ys) N)
theorem wm (u ys:List Nat) (N:Nat):(gg u ys N).length=258:=bd ..
theorem G6 {t:List Int} {L:Int} {u ys:List Nat} {N:Nat} {K:Array Value→Int→World→Prop} (hg:fu t L u ys N) (h:Hp E w F) (hK: ∀w',Hp E w' F→K (ai .u8 (gg u ys N)) 0 w'):Cl Tryz.prog [.arr 258,kI] dh ⟨[.agg (aT t),.int .i64 L]⟩ w K:=by
 refine BR h (by rw [hg.eq,cG,hg.len]) (fun hb=>absurd hb (CA hg)) fun l zs w' h0 hm hzs h1 h2 h3 h'=> ?_
 have:l=u:=uQ (h0.symm.trans hg.eq)
 subst this
 obtain rfl:=uC hzs hg.ord
 have hk:=hK w' h'
 rw [hg.lim,Int.toNat_natCast]
 exact hk
theorem JK {t:List Int} {L:Int} {u ys:List Nat} {N:Nat} {K:Array Value→Int→World→Prop} (hg:fu t L u ys N) (h:Hp E w F) (hK: ∀w',Hp E w' F→K (ai .u8 (gg u ys N)) 0 w'):Cl Tryz.prog [.arr 258,kI] gD ⟨[.agg (aT t),.int .i64 L]⟩ w K:=by
 refine Ea h (by rw [hg.eq,cG,hg.len]) (fun hb=>absurd hb (CA hg)) fun l zs w' h0 hm hzs h1 h2 h3 h'=> ?_
 have:l=u:=uQ (h0.symm.trans hg.eq)
 subst this
 obtain rfl:=uC hzs hg.ord
 have hk:=hK w' h'
 rw [hg.lim,Int.toNat_natCast]
 exact hk
end
end Go.Proofs.YtgglghjnakclmaaGreat
namespace Go.Srt
open Go.Pm
theorem G8 (ys:List Nat) (g:Nat→Nat):(ys.map g).sum=aI ys.length fun i=>g (ys.getD i 0):=by
 unfold aI
 congr 1
 refine List.ext_getElem (by simp) fun i h1 h2=> ?_
 have hi:i<ys.length:=by simpa using h1
 simp [hi]
theorem EY {u ys:List Nat} {f:Nat→Nat} (hl:u.length=258) (hys:br u ys) (hf: ∀i,i<ys.length→1≤f i):used (ch ys f)=used u:=by
 unfold used
 rw [bd,hl]
 refine List.filter_congr fun s hs=> ?_
 have hs:s<258:=by simpa using hs
 rw [FD hs]
 have hm:s∈ys↔0<u.getD s 0:=by
  rw [hys.1.mem_iff,dK,hl]
  exact ⟨fun h=>h.2,fun h=>⟨hs,h⟩⟩
 by_cases h:s∈ys
 ·have:=hf _ (List.idxOf_lt_length_of_mem h)
  rw [if_pos h,decide_eq_true (hm.1 h),decide_eq_true (by omega)]
 ·rw [if_neg h,decide_eq_false (fun h'=>h (hm.2 h'))];rfl
theorem Gi {u ys:List Nat} {f:Nat→Nat} (hl:u.length=258) (hys:br u ys) (hf: ∀i,i<ys.length→1≤f i∧f i≤15):aN (ch ys f)=aI ys.length fun i=>2^(15 - f i):=by
 have hin: ∀s∈ys,s<258:=fun s hs=>by have:=(dK.1 (hys.1.mem_iff.1 hs)).1;omega
 rw [xP,EY hl hys fun i hi=>(hf i hi).1,←(hys.1.map _).sum_nat,G8]
 refine mC fun i hi=> ?_
 rw [jS hi,pR (oA hys) hin hi]
 have:=hf i hi
 unfold wt
 rw [if_neg (by omega),if_neg (by omega)]
section
variable {t:List Int} {L:Int} {u ys:List Nat} {N:Nat}
theorem fu.wl (hg:fu t L u ys N):(aB u ys).length=ys.length:=List.length_map _
theorem fu.C5 (hg:fu t L u ys N) {i:Nat} (hi:i<ys.length):1≤lenOf (aB u ys) N i∧lenOf (aB u ys) N i≤N:=
 HG (pX hg.ord) hg.one (by rw [hg.wl];exact hg.few) (by rw [hg.wl];exact hi)
theorem MB:2^15=32768:=by decide
theorem fu.Mx (hg:fu t L u ys N) (hn:2≤ys.length):aN (Proofs.YtgglghjnakclmaaGreat.gg u ys N)=32768:=by
 have hN:=hg.top
 have h1:=hg.one
 have e:=Gi (f:=lenOf (aB u ys) N) hg.len hg.ord fun i hi=>by have:=hg.C5 hi;omega
 have hk:=Ab (pX hg.ord) (N - 1) (by rw [hg.wl];exact hn) (by rw [hg.wl,show N - 1+1=N by omega];exact hg.few)
 rw [hg.wl,show N - 1+1=N by omega] at hk
 unfold Proofs.YtgglghjnakclmaaGreat.gg
 rw [e,mC (g:=fun i=>2^(15 - N)*2^(N - lv (aB u ys) (N - 1) (2*ys.length - 2) i)) fun i hi=>by
  have:=hg.C5 hi
  have e2:lenOf (aB u ys) N i=lv (aB u ys) (N - 1) (2*ys.length - 2) i:=by
   unfold lenOf;rw [if_neg (by rw [hg.wl];omega),hg.wl]
  rw [e2] at this⊢
  rw [←Nat.pow_add,show 15 - N+(N - lv (aB u ys) (N - 1) (2*ys.length - 2) i)=15 - lv (aB u ys) (N - 1) (2*ys.length - 2) i by omega],Ha,hk,←Nat.pow_add,show 15 - N+N=15 by omega,MB]
theorem fu.bytes (hg:fu t L u ys N): ∀y∈Proofs.YtgglghjnakclmaaGreat.gg u ys N,y<256:=by
 intro y hy
 obtain ⟨s,_,rfl⟩:=List.mem_map.1 hy
 have hN:=hg.top
 split
 ·rename_i h
  have:=hg.C5 (List.idxOf_lt_length_of_mem h)
  omega
 ·decide
theorem fu.at (hg:fu t L u ys N) {i:Nat} (hi:i<ys.length):(Proofs.YtgglghjnakclmaaGreat.gg u ys N).getD ys[i] 0=lenOf (aB u ys) N i:=
 pR (oA hg.ord) (fun s hs=>by have:=(dK.1 (hg.ord.1.mem_iff.1 hs)).1;have:=hg.len;omega) hi
end
end Go.Srt
set_option maxRecDepth 20000
namespace Go.Sym
theorem sB: ∀(b L:List Nat) (r:Nat),a5 L→(∀x∈b,x<256)→(b≠ []∨0<r)→∃s∈cF L r b,s<257
 | [],L,r,_,_,h=>by
  have hr:0<r:=by
   rcases h with h|h
   ·exact absurd rfl h
   ·exact h
  rw [n5,mZ hr]
  exact ⟨(r - 1) % 2,by simp,by omega⟩
 |c::b,L,r,hL,hb,_=>by
  by_cases h0:L.idxOf c=0
  ·rw [mg h0]
   exact sB b _ _ (hL.take (by decide)) (fun x hx=>hb x (List.mem_cons_of_mem _ hx)) (.inr (by omega))
  ·rw [nL h0]
   have:=hL.idx (hb c List.mem_cons_self)
   exact ⟨L.idxOf c+1,by simp,by omega⟩
theorem H9 {b:List Nat} (h:b≠ []) (hb: ∀x∈b,x<256): ∃s∈syms b,s<257:=sB b _ 0 a5.range hb (.inl h)
theorem HY (b:List Nat):257∈syms b:=by unfold syms cF;simp
theorem CI (n:Nat):(cf n).length≤n:=by
 induction n using Nat.strongRecOn with
 |ind n ih=>
  by_cases h:n=0
  ·subst h;rw [nO];exact Nat.le_refl _
  ·rw [mZ (by omega),List.length_cons]
   have:=ih ((n - 1)/2) (by omega)
   omega
theorem nU: ∀(b L:List Nat) (r:Nat),(cF L r b).length≤r+b.length+1
 | [],L,r=>by
  rw [n5,List.length_append]
  have:=CI r
  simp;omega
 |c::b,L,r=>by
  by_cases h0:L.idxOf c=0
  ·rw [mg h0]
   have:=nU b (bQ L 0) (r+1)
   rw [List.length_cons];omega
  ·rw [nL h0,List.length_append,List.length_cons,List.length_cons]
   have:=nU b (bQ L (L.idxOf c)) 0
   have:=CI r
   omega
theorem nV (b:List Nat):(syms b).length≤b.length+1:=by
 have:=nU b (List.range 256) 0
 unfold syms;omega
end Go.Sym
namespace Go.af
open Go.Inc Go.Srt Go.Sym Go.aS Go.Tab Go.Bw Go.Pm
def gW (ss:List Nat):List Nat:=(List.range 258).map fun s=>ss.count s
theorem jQ (ss:List Nat):(gW ss).length=258:=by unfold gW;simp
theorem CL (ss:List Nat) {s:Nat} (h:s<258):(gW ss).getD s 0=ss.count s:=by
 unfold gW
 rw [List.getD_eq_getElem?_getD,List.getElem?_map,List.getElem?_range h];rfl
theorem sX {ss:List Nat} (h:ss.length≤2147483647):kG (gW ss):=fun x hx=>by
 obtain ⟨s,_,rfl⟩:=List.mem_map.1 hx
 exact Nat.le_trans List.count_le_length h
theorem dK {u:List Nat} {s:Nat}:s∈used u↔s<u.length∧0<u.getD s 0:=by
 unfold used
 rw [List.mem_filter,List.mem_range,decide_eq_true_iff]
theorem wO {u ys:List Nat} (h:br u ys) {s:Nat}:s∈ys↔s<u.length∧0<u.getD s 0:=by rw [h.1.mem_iff,dK]
theorem Jg {u ys:List Nat} (hl:u.length=258) (h:br u ys):ys.length≤258:=by
 rw [h.1.length_eq,←hl]
 unfold used
 exact Nat.le_trans (List.length_filter_le ..) (by simp)
theorem CY {u ys:List Nat} (hl:u.length=258) (hm:kG u) (hys:br u ys):fu (Proofs.YtgglghjnakclmaaGreat.ints u) 15 u ys 15 where
 eq:=rfl
 max:=hm
 len:=hl
 ord:=hys
 lim:=rfl
 one:=by decide
 top:=by decide
 few:=Nat.le_trans (Jg hl hys) (by decide)
theorem JM {u ys last:List Nat} (hl:u.length=258) (hm:kG u) (hys:br u ys) (h257:0<u.getD 257 0) (hs: ∃s,s<257∧0<u.getD s 0) (hg: ∀s∈syms last,0<u.getD s 0) (hb: ∀x∈last,x<256):
  Bj (Proofs.YtgglghjnakclmaaGreat.gg u ys 15) last:=by
 have g:=CY hl hm hys
 have hpos: ∀s,s<258→0<u.getD s 0→0<(Proofs.YtgglghjnakclmaaGreat.gg u ys 15).getD s 0:=by
  intro s h1 h2
  have hmem:s∈ys:=(wO hys).2 ⟨by omega,h2⟩
  obtain ⟨i,hi,e⟩:=List.mem_iff_getElem.1 hmem
  have h3:=g.at hi
  have h4:=(g.C5 hi).1
  rw [e] at h3
  omega
 have h2:2≤ys.length:=by
  obtain ⟨s,h1,h3⟩:=hs
  have m1:s∈ys:=(wO hys).2 ⟨by omega,h3⟩
  have m2:257∈ys:=(wO hys).2 ⟨by omega,h257⟩
  match ys,m1,m2 with
  | [a],m1,m2=>
   rw [List.mem_singleton] at m1 m2
   omega
  |_::_::_,_,_=>simp
 refine ⟨Proofs.YtgglghjnakclmaaGreat.wm _ _ _,xk.2 ⟨g.Mx h2,hpos 257 (by decide) h257⟩,fun s h=> ?_⟩
 have:=xL hb s h
 exact ⟨by omega,hpos s (by omega) (hg s h)⟩
noncomputable def fF (u:List Nat):List Nat:=Classical.choose (wa u)
theorem CM (u:List Nat):br u (fF u):=Classical.choose_spec (wa u)
noncomputable def IA (ss:List Nat):List Nat:=Proofs.YtgglghjnakclmaaGreat.gg (gW ss) (fF (gW ss)) 15
theorem Ft (ss:List Nat):(IA ss).length=258:=Proofs.YtgglghjnakclmaaGreat.wm _ _ _
noncomputable def cw (x:List Nat):List Nat:=IA (syms (aQ x.reverse))
theorem vH {ss:List Nat} (h:ss.length≤2147483647):fu (Proofs.YtgglghjnakclmaaGreat.ints (gW ss)) 15 (gW ss) (fF (gW ss)) 15:=CY (jQ ss) (sX h) (CM _)
theorem qL {x:List Nat} (h0:0<x.length) (hl:x.length≤1000000) (hx: ∀c∈x,c<256):Bj (cw x) (aQ x.reverse):=by
 have hb:=Stm.L8 hx
 have hn:aQ x.reverse≠ []:=by
  intro e
  have:=congrArg List.length e
  rw [ct,List.length_reverse,List.length_nil] at this;omega
 have hlen:(syms (aQ x.reverse)).length≤2147483647:=by
  have:=nV (aQ x.reverse)
  rw [ct,List.length_reverse] at this;omega
 have hp: ∀s∈syms (aQ x.reverse),0<(gW (syms (aQ x.reverse))).getD s 0:=by
  intro s h
  have:=xL hb s h
  rw [CL _ (by omega)]
  exact List.count_pos_iff.2 h
 obtain ⟨s,hs,hlt⟩:=H9 hn hb
 exact JM (jQ _) (sX hlen) (CM _) (hp 257 (HY _)) ⟨s,hlt,hp s hs⟩ hp hb
theorem CB {ss:List Nat} (h: ∀s∈ss,s≤257):Hs.dQ (List.replicate 258 0) (Proofs.YtgglghjnakclmaaGreat.ints ss)=Proofs.YtgglghjnakclmaaGreat.ints (gW ss):=by
 have hall:(Proofs.YtgglghjnakclmaaGreat.ints ss).all Hs.j9=true:=by
  refine List.all_eq_true.2 fun z hz=> ?_
  obtain ⟨s,hs,rfl⟩:=List.mem_map.1 hz
  have:=h s hs
  exact Hs.iw.2 (by omega)
 refine List.ext_getElem? fun i=> ?_
 have hl:(Hs.dQ (List.replicate 258 0) (Proofs.YtgglghjnakclmaaGreat.ints ss)).length=258:=by rw [Hs.kZ];simp
 by_cases hi:i<258
 ·have h1:=Hs.pT (zs:=Proofs.YtgglghjnakclmaaGreat.ints ss) (t:=List.replicate 258 0) hall (by simp) i
  rw [List.getD_eq_getElem?_getD,List.getElem?_eq_getElem (by omega)] at h1
  rw [List.getElem?_eq_getElem (by omega)]
  have h2:=CL ss hi
  rw [List.getD_eq_getElem?_getD,List.getElem?_eq_getElem (by rw [jQ];exact hi)] at h2
  have h4:(Proofs.YtgglghjnakclmaaGreat.ints (gW ss))[i]? =some (((gW ss)[i]'(by rw [jQ];exact hi):Nat):Int):=by
   unfold Proofs.YtgglghjnakclmaaGreat.ints
   rw [List.getElem?_map,List.getElem?_eq_getElem (by rw [jQ];exact hi)];rfl
  rw [h4]
  simp only [Option.getD_some] at h1 h2
  rw [h1,h2]
  have h3:((Proofs.YtgglghjnakclmaaGreat.ints ss).count (i:Int))=ss.count i:=by
   unfold Proofs.YtgglghjnakclmaaGreat.ints
   rw [List.count_eq_countP,List.countP_map,List.count_eq_countP]
   refine List.countP_congr fun x _=> ?_
   simp only [Function.comp,beq_iff_eq]
   omega
  rw [h3,List.getD_eq_getElem?_getD,List.getElem?_replicate,if_pos hi]
  simp
 ·rw [List.getElem?_eq_none (by omega),List.getElem?_eq_none (by rw [Proofs.YtgglghjnakclmaaGreat.cG,jQ];omega)]
end Go.af
set_option maxRecDepth 20000
namespace Go.Vc
def oz (l:List Nat) (i:Nat):List Nat:=(List.range l.length).map fun p=>if p<i∨l.length - i≤p then l.getD (l.length - 1 - p) 0 else l.getD p 0
theorem mU (l:List Nat) (i:Nat):(oz l i).length=l.length:=by unfold oz;simp
theorem pG {l:List Nat} {i p:Nat} (h:p<l.length):(oz l i)[p]? =some (if p<i∨l.length - i≤p then l.getD (l.length - 1 - p) 0 else l.getD p 0):=by
 unfold oz
 rw [List.getElem?_map,List.getElem?_range h];rfl
theorem GF (l:List Nat):oz l 0=l:=by
 refine List.ext_getElem? fun p=> ?_
 by_cases h:p<l.length
 ·rw [pG h,if_neg (by omega),List.getElem?_eq_getElem h,List.getD_eq_getElem?_getD,List.getElem?_eq_getElem h];rfl
 ·rw [List.getElem?_eq_none (by rw [mU];omega),List.getElem?_eq_none (by omega)]
theorem HO {l:List Nat} {i:Nat} (h:2*i+1<l.length):((oz l i).set i (l.getD (l.length - 1 - i) 0)).set (l.length - 1 - i) (l.getD i 0)=oz l (i+1):=by
 refine List.ext_getElem? fun p=> ?_
 by_cases hp:p<l.length
 ·rw [pG hp,List.getElem?_set,List.getElem?_set,pG hp]
  by_cases h1:l.length - 1 - i=p
  ·subst h1
   rw [if_pos rfl,if_pos (by rw [List.length_set,mU];omega),if_pos (by omega),show l.length - 1 - (l.length - 1 - i)=i by omega]
  ·rw [if_neg h1]
   by_cases h2:i=p
   ·subst h2
    rw [if_pos rfl,if_pos (by rw [mU];omega),if_pos (by omega)]
   ·rw [if_neg h2]
    by_cases h3:p<i∨l.length - i≤p
    ·rw [if_pos h3,if_pos (by omega)]
    ·rw [if_neg h3,if_neg (by omega)]
 ·rw [List.getElem?_eq_none (by rw [List.length_set,List.length_set,mU];omega),List.getElem?_eq_none (by rw [mU];omega)]
theorem Js {l:List Nat} {i:Nat} (h:l.length≤2*i+1):oz l i=l.reverse:=by
 refine List.ext_getElem? fun p=> ?_
 by_cases hp:p<l.length
 ·rw [pG hp,List.getElem?_reverse hp]
  have e: ∀q,q<l.length→l[q]? =some (l.getD q 0):=fun q hq=>by rw [List.getD_eq_getElem?_getD,List.getElem?_eq_getElem hq];rfl
  rw [e _ (by omega)]
  by_cases h3:p<i∨l.length - i≤p
  ·rw [if_pos h3]
  ·rw [if_neg h3,show l.length - 1 - p=p by omega]
 ·rw [List.getElem?_eq_none (by rw [mU];omega),List.getElem?_eq_none (by rw [List.length_reverse];omega)]
end Go.Vc
namespace Go.Proofs.YtgglghjnakclmaaGreat
open Go Go.Vc
section
variable {E w:World} {F:List HP}
theorem Ff {s:Sl} {l:List Nat} {K:World→Prop} (h:Hp E w (al 1 s (l.map vB)::F)) (hbig:l.length≤bO) (hK: ∀w',Hp E w' (al 1 s (l.reverse.map vB)::F)→K w'):
  Cl Tryz.prog [] dG ⟨[.slice s.base s.len s.cap]⟩ w K:=by
 refine nP.ok _ _ _ ?_
 have hlen:=h.aV
 rw [List.length_map,Nat.mul_one] at hlen
 rw [aC] at hbig
 rw [ae (by omega)]
 refine ⟨fun i j w'=> ∃k:Nat,i=(k:Int)∧j=(l.length:Int) - 1 - (k:Int)∧k≤l.length∧Hp E w' (al 1 s ((oz l k).map vB)::F),fun i _ _=>l.length - i.toNat,⟨0,rfl,by omega,by omega,by rw [GF];exact h⟩,?_⟩
 rintro i j w ⟨k,rfl,rfl,hk,h⟩
 refine aa.dm (fun hlt=> ?_) (fun hge=> ?_)
 ·have hg: ∀p,(hp:p<l.length)→((oz l k).map vB)[p]? =some (vB (if p<k∨l.length - k≤p then l.getD (l.length - 1 - p) 0 else l.getD p 0)):=fun p hp=>by rw [List.getElem?_map,pG hp];rfl
  have hj:((l.length:Int) - 1 - (k:Int)).toNat=l.length - 1 - k:=by omega
  refine aJ.mk h fun w h=> ?_
  refine an.rd (h.ah ad.own) (by omega) (by omega) fun q hi hq=> ?_
  have e1:((oz l k).map vB)[((l.length:Int) - 1 - (k:Int)).toNat]'hi=vB (l.getD (l.length - 1 - k) 0):=by
   have:=hg (l.length - 1 - k) (by omega)
   rw [if_neg (by omega)] at this
   rw [List.getElem_eq_iff,hj];exact this
  refine Ld.sc (s:= .int .u8) (l.getD (l.length - 1 - k) 0:Int) (by rw [hq,e1];rfl) ?_
  refine an.rd (h.ah ad.own) (by omega) (by omega) fun q2 hi2 hq2=> ?_
  have e2:((oz l k).map vB)[((k:Int)).toNat]'hi2=vB (l.getD k 0):=by
   have:=hg k (by omega)
   rw [if_neg (by omega)] at this
   rw [List.getElem_eq_iff,Int.toNat_natCast];exact this
  refine Ld.sc (s:= .int .u8) (l.getD k 0:Int) (by rw [hq2,e2];rfl) ?_
  refine St.own h (by omega) (by omega) rfl fun w h=> ?_
  refine St.own h (by omega) (by omega) rfl fun w h=> ?_
  rw [ae (by omega),ae (by omega)]
  refine ⟨⟨k+1,by omega,by omega,by omega,?_⟩,by first|omega|(dsimp only;omega)⟩
  rw [hj,Int.toNat_natCast] at h
  have e3:(((oz l k).map vB).set k (.int .u8 (l.getD (l.length - 1 - k) 0:Int))).set (l.length - 1 - k) (.int .u8 (l.getD k 0:Int))=(oz l (k+1)).map vB:=by
   rw [←HO (by omega),List.map_set,List.map_set];rfl
  rw [e3] at h
  exact h
 ·rw [Js (by omega)] at h
  exact hK _ h
end
end Go.Proofs.YtgglghjnakclmaaGreat
set_option maxRecDepth 20000
namespace Go.Proofs.YtgglghjnakclmaaGreat
open Go Go.Vc Go.Hd
section
variable {E w:World} {F:List HP}
theorem Lv {n:Nat} {K:Sl→Int→World→Prop} (h:Hp E w F) (hn:n≤65536) (hK: ∀s w',Hp E w' (al 1 s ((fR n).map vB)::F)→K s 0 w'):Cl Tryz.prog [kS,kI] m9 ⟨[.int .i64 (n:Int)]⟩ w K:=by
 refine Dd.ok _ _ _ ?_
 refine aa.df (by omega) (aa.df (by omega) ?_)
 have hm:IntKind.max .i64=9223372036854775807:=rfl
 have and127: ∀m:Nat,m≤65536→dc .i64 (m:Int) 127=((m % 128:Nat):Int):=fun m h=>by
  rw [show (127:Int)=((127:Nat):Int) from rfl,jC (by omega) (by omega),show (127:Nat)=2^7 - 1 from rfl,Nat.and_two_pow_sub_one_eq_mod]
 have hshr: ∀m:Nat,aO .i64 (m:Int) 7=((m/128:Nat):Int):=fun m=>by
  rw [show (7:Int)=((7:Nat):Int) from rfl,cD (by decide)]
 rw [and127 n hn,dE (by omega)]
 refine Nw.mk h fun b3 w h=> ?_
 refine aK (s:=⟨none,0,0⟩) (ys:= [vB (n % 128)]) (n:=1) qk (by decide) (.inl ⟨5,by kernel_rfl⟩) (h.a9 1) (.inl ⟨some ⟨b3,0,none⟩,1,1,rfl,rfl,h.ah (ad.aH rfl rfl)⟩) rfl Az (by decide) (by decide) fun s w h _=> ?_
 refine ⟨by decide,?_⟩
 rw [hshr]
 refine ⟨fun x s w'=> ∃(m:Nat) (l:List Nat),x=(m:Int)∧m≤512∧l.length+m≤513∧tQ m++l.reverse=fR n∧Hp E w' (al 1 s (l.map vB)::F),fun x _ _=>x.toNat,⟨n/128,[n % 128],rfl,by omega,by simp;omega,rfl,h.p1.drop⟩,?_⟩
 rintro x s w ⟨m,l,rfl,hm5,hl,hv,h⟩
 refine aa.dm (fun hlt=> ?_) (fun hge=> ?_)
 ·have hm0:0<m:=by omega
  have hor:rp .u8 ((m % 128:Nat):Int) 128=((128+m % 128:Nat):Int):=by
   have hm8:IntKind.max .u8=255:=rfl
   have e:=Nat.two_pow_add_eq_or_of_lt (i:=7) (b:=m % 128) (by omega) 1
   have e2:m % 128|||128=128+m % 128:=by rw [Nat.or_comm];exact e.symm
   rw [show (128:Int)=((128:Nat):Int) from rfl,wR (by omega) (by omega) (by rw [e2];omega),e2]
  rw [and127 m (by omega),dE (by omega),hor]
  have hol:=h.aV
  rw [List.length_map,Nat.mul_one] at hol
  refine Nw.mk h fun b12 w h=> ?_
  refine aK (ys:= [vB (128+m % 128)]) (n:=1) qk (by decide) (.inl ⟨5,by kernel_rfl⟩) h.p1 (.inl ⟨some ⟨b12,0,none⟩,1,1,rfl,rfl,h.ah (ad.aH rfl rfl)⟩) rfl Az (by omega) (by omega) fun s w h _=> ?_
  refine ⟨by decide,?_⟩
  rw [hshr]
  refine ⟨⟨m/128,l++ [128+m % 128],rfl,by omega,by rw [List.length_append,List.length_singleton];omega,?_,by rw [List.map_append];exact h.p1.drop⟩,by first|omega|(dsimp only;omega)⟩
  rw [List.reverse_append,←hv,xe hm0]
  simp
 ·have hm0:m=0:=by omega
  subst hm0
  rw [qo,List.nil_append] at hv
  refine Ff h (by rw [aC];omega) fun w h=>hK s w ?_
  rw [hv] at h
  exact h
end
end Go.Proofs.YtgglghjnakclmaaGreat
namespace Go.Proofs.YtgglghjnakclmaaGreat
open Go Go.Vc
set_option maxRecDepth 100000
theorem Ib.ok (a:Int) (b:Sl) (R:Int→World→Prop) w (h:
 Cl Pg [(.arr 256)] o5 ⟨[]⟩ w fun d c=>
 Nw 206 ⟨List.replicate 256 (.int .u32 0)⟩ c fun f e=>
 ax 256 ⟨f,0,none⟩ d e fun g=>
 bq (dJ .u32 (if IntKind.signed .u32 then -1 else IntKind.max .u32) a) 0 g fun h i (j:Int) (k:Int) l=>
 aa (decide (k<(b.len:Int)))
 (an b k 1 fun m=>
 Ld kS m l fun (n:Sl)=>
 bq j 0 l fun o p (q:Int) (r:Int) s=>
 aa (decide (r<(n.len:Int)))
 (an n r 1 fun t=>
 Ld (ar .u8) t s fun (u:Int)=>
 aw ⟨f,0,none⟩ 256 (dJ .u8 (u8 q) u) 1 fun v=>
 Ld (ar .u32) v s fun (x:Int)=>
 0≤(8:Int)∧
 o (dJ .u32 x (aO .u32 q (8:Int))) (i64 (r+1)) s∧p (dJ .u32 x (aO .u32 q (8:Int))) (i64 (r+1)) s<p q r s)
 (h q (i64 (k+1)) s∧i q (i64 (k+1)) s<i j k l))
 (R (dJ .u32 (if IntKind.signed .u32 then -1 else IntKind.max .u32) j) l)):Cl Pg [(ar .u32)] fQ ⟨[(.int .u32 a),(ag b)]⟩ w R:=co Tryz.f89 [(9,[(0,(ar .u32)),(15,kI)]),(18,[(0,(ar .u32)),(21,kI)])] h
theorem EV.ok (R:(Array Value)→World→Prop) w (h:
 Nw 206 ⟨List.replicate 256 (.int .u32 0)⟩ w fun b a=>
 c8 0 a fun c d (e:Int) f=>
 aa (decide (e<256))
 (Cl Pg [(ar .u32)] sa ⟨[(.int .u8 (u8 e))]⟩ f fun (h:Int) g=>
 aw ⟨b,0,none⟩ 256 e 1 fun i=>
 St i (.int .u32 h) g fun j=>
 c (i64 (e+1)) j∧d (i64 (e+1)) j<d e f)
 (Ld (.arr 256) ⟨b,0,none⟩ f fun k=>
 ax 256 ⟨b,0,none⟩ k f fun l=>
 Ld (.arr 256) ⟨b,0,none⟩ l fun m=>
 R m l)):Cl Pg [(.arr 256)] o5 ⟨[]⟩ w R:=co Tryz.f138 [(5,[(2,kI)])] h
theorem JL.ok (a:Int) (R:Sl→World→Prop) w (h:
 Nw 291 ⟨[(.int .u8 0),(.int .u8 0),(.int .u8 0),(.int .u8 0)]⟩ w fun c b=>
 c8 0 b fun d e (f:Int) g=>
 aa (decide (f<4))
 (0≤(i64 ((24:Int) - (i64 ((8:Int)*f))))∧
 aw ⟨c,0,none⟩ 4 f 1 fun h=>
 St h (.int .u8 (u8 (aO .u32 a (i64 ((24:Int) - (i64 ((8:Int)*f))))))) g fun i=>
 d (i64 (f+1)) i∧e (i64 (f+1)) i<e f g)
 (bj (⟨some ⟨c,0,none⟩,4,4⟩:Sl) 0 4 4 1 fun j=>
 R j g)):Cl Pg [kS] oB ⟨[(.int .u32 a)]⟩ w R:=co Tryz.f152 [(7,[(5,kI)])] h
theorem I2.ok (a:Int) (R:Int→World→Prop) w (h:
 bq (u32 a) 0 w fun b c (d:Int) (e:Int) f=>
 aa (decide (e<8))
 (0≤(1:Int)∧
 b (dJ .u32 (aO .u32 d (1:Int)) (u32 ((3988292384:Int)*(dc .u32 d 1)))) (i64 (e+1)) f∧c (dJ .u32 (aO .u32 d (1:Int)) (u32 ((3988292384:Int)*(dc .u32 d 1)))) (i64 (e+1)) f<c d e f)
 (R d f)):Cl Pg [(ar .u32)] sa ⟨[(.int .u8 a)]⟩ w R:=co Tryz.f193 [(7,[(3,(ar .u32)),(6,kI)])] h
end Go.Proofs.YtgglghjnakclmaaGreat
namespace Go.Crc
theorem Ia (c:Nat):(c/2)^^^(3988292384*(c % 2))=half c:=by
 unfold half
 rcases Nat.mod_two_eq_zero_or_one c with e|e
 ·rw [e];rfl
 ·rw [e];rfl
def bT:Nat→Nat→Nat
 |0,c=>c
 |k+1,c=>half (bT k c)
theorem rS: ∀(k c:Nat),c<4294967296→bT k c<4294967296
 |0,_,h=>h
 |k+1,c,h=>fI (rS k c h)
end Go.Crc
namespace Go.Proofs.YtgglghjnakclmaaGreat
open Go Go.Vc Go.Crc
section
variable {E w:World} {F:List HP}
theorem K8 {b:Nat} {K:Int→World→Prop} (hb:b<256) (hK:K (row b:Int) w):Cl Tryz.prog [ar .u32] sa ⟨[.int .u8 (b:Int)]⟩ w K:=by
 refine I2.ok _ _ _ ?_
 refine ⟨fun c i w'=>w'=w∧∃k:Nat,i=(k:Int)∧k≤8∧c=(bT k b:Int),fun _ i _=>8 - i.toNat,⟨rfl,0,rfl,by omega,by rw [eP (by omega)];rfl⟩,?_⟩
 rintro c i w' ⟨rfl,k,rfl,hk,rfl⟩
 refine aa.dm (fun hlt=> ?_) (fun hge=> ?_)
 ·have hlt:k<8:=by omega
  have hb:=rS k b (by omega)
  have hm:IntKind.max .u32=4294967295:=rfl
  have h2:=fI hb
  have e1:aO .u32 (bT k b:Int) 1=((bT k b/2:Nat):Int):=by
   rw [show (1:Int)=((1:Nat):Int) from rfl,cD (by decide)]
  have e2:dc .u32 (bT k b:Int) 1=((bT k b % 2:Nat):Int):=by
   rw [show (1:Int)=((1:Nat):Int) from rfl,jC (by omega) (by omega),Nat.and_one_is_mod]
  have e3:u32 ((3988292384:Int)*((bT k b % 2:Nat):Int))=((3988292384*(bT k b % 2):Nat):Int):=by
   rw [eP (by omega)];omega
  have e4:dJ .u32 ((bT k b/2:Nat):Int) ((3988292384*(bT k b % 2):Nat):Int)=(bT (k+1) b:Int):=by
   have hh:=Ia (bT k b)
   rw [hO (by omega) (by omega) (by rw [hh];omega),hh];rfl
  rw [e1,e2,e3,e4,ae (by omega)]
  exact ⟨by decide,⟨rfl,k+1,rfl,by omega,rfl⟩,by dsimp only;omega⟩
 ·have:k=8:=by omega
  subst this
  exact hK
def e9:List Nat:=(List.range 256).map row
theorem n8:e9.length=256:=by unfold e9;simp
theorem zJ {b:Nat} (h:b<256):e9[b]? =some (row b):=by unfold e9;rw [List.getElem?_map,List.getElem?_range h];rfl
abbrev iX (l:List Nat):List Value:=l.map fun (n:Nat)=>Value.int .u32 (n:Int)
theorem vW {l:List Nat}:(iX l).all aF=true:=by
 unfold iX
 rw [List.all_map]
 exact List.all_eq_true.2 fun _ _=>rfl
set_option maxRecDepth 20000
theorem Li {K:Array Value→World→Prop} (h:Hp E w F) (hK: ∀w',Hp E w' F→K ⟨iX e9⟩ w'):Cl Tryz.prog [.arr 256] o5 ⟨[]⟩ w K:=by
 refine EV.ok _ _ ?_
 refine Nw.mk h fun b2 w h=> ?_
 have hlen: ∀k,k≤256→(iX (e9.take k++List.replicate (256 - k) 0)).length=256:=fun k hk=>by simp [n8];omega
 refine ⟨fun i w'=> ∃k:Nat,i=(k:Int)∧k≤256∧Hp E w' (af b2 (.cells ⟨iX (e9.take k++List.replicate (256 - k) 0)⟩ 206 (0,0))::F),fun i _=>256 - i.toNat,⟨0,rfl,by omega,by
  have:(⟨iX (e9.take 0++List.replicate (256 - 0) 0)⟩:Array Value)=⟨List.replicate 256 (.int .u32 0)⟩:=by simp
  rw [this];exact h⟩,?_⟩
 rintro i w ⟨k,rfl,hk,h⟩
 refine aa.dm (fun hlt=> ?_) (fun hge=> ?_)
 ·have hlt:k<256:=by omega
  rw [dE (by omega)]
  refine K8 hlt ?_
  refine ⟨by omega,by omega,?_⟩
  rw [show ((k:Int)).toNat*1=k by omega]
  simp only [ak,Nat.zero_add]
  have hkl:=hlen k (by omega)
  refine St.xb h (by show k<(iX (e9.take k++List.replicate (256 - k) 0)).length;omega) rfl fun w h=> ?_
  rw [ae (by omega)]
  refine ⟨⟨k+1,rfl,by omega,?_⟩,by first|omega|(dsimp only;omega)⟩
  have e:(⟨iX (e9.take k++List.replicate (256 - k) 0)⟩:Array Value).setIfInBounds k (.int .u32 (row k:Int))=⟨iX (e9.take (k+1)++List.replicate (256 - (k+1)) 0)⟩:=by
   apply Array.ext'
   rw [Array.toList_setIfInBounds]
   have:(iX (e9.take k++List.replicate (256 - k) 0)).set k (.int .u32 (row k:Int))=iX ((e9.take k++List.replicate (256 - k) 0).set k (row k)):=by rw [iX,iX,List.map_set]
   have hl:(e9.take k).length=k:=by rw [List.length_take,n8];omega
   rw [this,List.set_append_right _ _ (by omega),hl,Nat.sub_self]
   obtain ⟨m,hm⟩: ∃m,256 - k=m+1:=⟨255 - k,by omega⟩
   rw [hm,List.replicate_succ,List.set_cons_zero,List.take_add_one,zJ hlt,show 256 - (k+1)=m by omega]
   simp
  rw [e] at h
  exact h
 ·have hk2:k=256:=by omega
  subst hk2
  have e:(⟨iX (e9.take 256++List.replicate (256 - 256) 0)⟩:Array Value)=⟨iX e9⟩:=by
   rw [List.take_of_length_le (by rw [n8];omega)];simp
  rw [e] at h
  have hn:(⟨iX e9⟩:Array Value).size=256:=by simp [n8]
  refine Ld.xw h hn ?_
  refine ax.q h hn hn vW fun w h=> ?_
  exact Ld.xw h hn (hK _ h.tl)
theorem LX:(if IntKind.signed .u32 then (-1:Int) else IntKind.max .u32)=((4294967295:Nat):Int):=rfl
theorem Ir {c:Nat} (h:c<4294967296):dJ .u32 (if IntKind.signed .u32 then (-1:Int) else IntKind.max .u32) (c:Int)=((c^^^4294967295:Nat):Int):=by
 have hm:IntKind.max .u32=4294967295:=rfl
 have hx:4294967295^^^c<2^32:=Nat.xor_lt_two_pow (by decide) (by omega)
 rw [LX,hO (by omega) (by omega) (by omega),Nat.xor_comm]
theorem Ie {c x:Nat} (hc:c<4294967296) (hx:x<256):dJ .u8 (u8 (c:Int)) (x:Int)=((c % 256^^^x:Nat):Int):=by
 have hm:IntKind.max .u8=255:=rfl
 have h2:c % 256^^^x<2^8:=Nat.xor_lt_two_pow (by omega) (by omega)
 rw [pq,show ((c:Int) % 256)=((c % 256:Nat):Int) by omega,hO (by omega) (by omega) (by omega)]
theorem sY {c x:Nat} (hx:x<256):c % 256^^^x<256:=by
 have:c % 256^^^x<2^8:=Nat.xor_lt_two_pow (by omega) (by omega)
 omega
theorem FM {c x:Nat} (hc:c<4294967296) (hx:x<256):dJ .u32 (row (c % 256^^^x):Int) (aO .u32 (c:Int) 8)=(Crc.step c x:Int):=by
 have hm:IntKind.max .u32=4294967295:=rfl
 have hr:=Bp (c:=c % 256^^^x) (by have:=sY (c:=c) hx;omega)
 have hs:=xc hc hx
 unfold Crc.step at hs⊢
 rw [show (8:Int)=((8:Nat):Int) from rfl,cD (by decide),show (2:Nat)^8=256 from rfl,hO (by omega) (by omega) (by omega)]
end
end Go.Proofs.YtgglghjnakclmaaGreat
namespace Go.Proofs.YtgglghjnakclmaaGreat
open Go Go.Vc Go.aS
section
variable {E w:World} {F:List HP}
set_option maxRecDepth 20000
theorem yu {bs:List (List Nat)} {k:Nat} (h:k<bs.length):(bs.take (k+1)).flatten=(bs.take k).flatten++bs.getD k []:=by
 rw [List.take_add_one,List.flatten_append]
 congr 1
 simp [h]
theorem Mb {b:Nat} (h:b<256):(⟨iX e9⟩:Array Value)[b]? =some (Sc.enc (.int .u32) (Crc.row b:Int)):=by
 rw [List.getElem?_toArray,iX,List.getElem?_map,zJ h];rfl
theorem Cn {c:Nat} {K:Int→World→Prop} {s:Sl} {cs:List Sl} {bs:List (List Nat)} (h:Hp E w F) (hc0:c<4294967296)
  (hs:ad F (aD 1 s (cs.map fun x=> .slice x.base x.len x.cap))) (hl:cs.length=bs.length) (hcl:cs.length≤bO) (hc: ∀i (h:i<cs.length),ad F (aD 1 cs[i] ((bs.getD i []).map vB)))
  (hby: ∀b∈bs,∀y∈b,y<256) (hbig: ∀b∈bs,b.length≤bO)
  (hK: ∀w',Hp E w' F→K ((Crc.feed (c^^^4294967295) bs.flatten^^^4294967295:Nat):Int) w'):Cl Tryz.prog [ar .u32] fQ ⟨[.int .u32 (c:Int),.slice s.base s.len s.cap]⟩ w K:=by
 refine Ib.ok _ _ _ _ ?_
 have hlen:s.len=cs.length:=by have:=(h.ah hs).1;simpa using this.symm
 have hflat: ∀y∈bs.flatten,y<256:=fun y hy=>by
  obtain ⟨b,hb1,hb2⟩:=List.mem_flatten.1 hy
  exact hby b hb1 y hb2
 have hc1:c^^^4294967295<4294967296:=Nat.xor_lt_two_pow (n:=32) hc0 (by decide)
 rw [aC] at hcl
 refine Li h fun w h=>Nw.mk h fun b6 w h=> ?_
 have hn:(⟨iX e9⟩:Array Value).size=256:=by simp [n8]
 refine ax.q h (by simp) hn vW fun w h=> ?_
 rw [Ir hc0]
 refine ⟨fun x i w'=> ∃k:Nat,i=(k:Int)∧k≤cs.length∧x=(Crc.feed (c^^^4294967295) (bs.take k).flatten:Int)∧Hp E w' (af b6 (.cells ⟨iX e9⟩ 206 (0,0))::F),fun _ i _=>cs.length - i.toNat,⟨0,rfl,by omega,rfl,h⟩,?_⟩
 rintro x i w ⟨k,rfl,hk,rfl,h⟩
 refine aa.dm (fun hlt=> ?_) (fun hge=> ?_)
 ·have hlt:k<cs.length:=by omega
  have hkb:k<bs.length:=by omega
  refine an.rd (h.tl.ah hs) (by omega) (by omega) fun q hi hq=> ?_
  have hq':w.cell? q=some (Sc.sl.enc cs[k]):=by simpa using hq
  refine Ld.sc _ hq' ?_
  have hgd:bs.getD k []=bs[k]:=by rw [List.getD_eq_getElem?_getD,List.getElem?_eq_getElem hkb];rfl
  have hck:=hc k hlt
  rw [hgd] at hck
  have hmem:=List.getElem_mem hkb
  have hblen:=hbig _ hmem
  rw [aC] at hblen
  have hlk:=(h.tl.ah hck).1
  simp only [List.length_map,Nat.mul_one] at hlk
  refine ⟨fun x i w'=> ∃j:Nat,i=(j:Int)∧j≤bs[k].length∧x=(Crc.feed (c^^^4294967295) ((bs.take k).flatten++bs[k].take j):Int)∧Hp E w' (af b6 (.cells ⟨iX e9⟩ 206 (0,0))::F),fun _ i _=>bs[k].length - i.toNat,⟨0,rfl,by omega,by simp,h⟩,?_⟩
  rintro x i w ⟨j,rfl,hj,rfl,h⟩
  have hpre: ∀y∈(bs.take k).flatten++bs[k].take j,y<256:=fun y hy=>by
   rcases List.mem_append.1 hy with hy|hy
   ·obtain ⟨b,hb1,hb2⟩:=List.mem_flatten.1 hy
    exact hby b (List.mem_of_mem_take hb1) y hb2
   ·exact hby _ hmem y (List.mem_of_mem_take hy)
  have hfl:=Crc.mX _ _ hc1 hpre
  refine aa.dm (fun hlt2=> ?_) (fun hge2=> ?_)
  ·have hjl:j<bs[k].length:=by omega
   have hy:=hby _ hmem _ (List.getElem_mem hjl)
   refine an.rd (h.tl.ah hck) (by omega) (by omega) fun q hi hq=> ?_
   refine Ld.sc (s:= .int .u8) (bs[k][j]:Int) (by simpa [vB] using hq) ?_
   rw [Ie hfl hy]
   refine aw.rd (s:= .int .u32) h (by omega) (by have:=sY (c:=Crc.feed (c^^^4294967295) ((bs.take k).flatten++bs[k].take j)) hy;omega) (Crc.row (Crc.feed (c^^^4294967295) ((bs.take k).flatten++bs[k].take j) % 256^^^bs[k][j]):Int) ?_ ?_
   ·rw [Int.toNat_natCast]
    exact Mb (sY (c:=Crc.feed (c^^^4294967295) ((bs.take k).flatten++bs[k].take j)) hy)
   rw [FM hfl hy,ae (by omega)]
   refine ⟨by decide,⟨j+1,rfl,by omega,?_,h⟩,by first|omega|(dsimp only;omega)⟩
   rw [List.take_add_one,List.getElem?_eq_getElem hjl,←List.append_assoc,Crc.uh ((bs.take k).flatten++bs[k].take j)];rfl
  ·have hjl:j=bs[k].length:=by omega
   subst hjl
   rw [ae (by omega),List.take_length]
   exact ⟨⟨k+1,rfl,by omega,by rw [yu hkb,hgd],h⟩,by first|omega|(dsimp only;omega)⟩
 ·have hkl:k=bs.length:=by omega
  subst hkl
  rw [List.take_length]
  have hfl:=Crc.mX _ _ hc1 hflat
  rw [Ir hfl]
  exact hK _ h.tl
end
end Go.Proofs.YtgglghjnakclmaaGreat
namespace Go.Proofs.YtgglghjnakclmaaGreat
open Go Go.Vc Go.aS
section
variable {E w:World} {F:List HP}
set_option maxRecDepth 20000
theorem Jb {c k:Nat} (hk:k<4):(Hd.fN c)[k]? =some (c/2^(24 - 8*k) % 256):=by
 match k,hk with
 |0,_=>rfl
 |1,_=>rfl
 |2,_=>rfl
 |3,_=>simp [Hd.fN]
theorem El {c:Nat} {K:Sl→World→Prop} (h:Hp E w F) (hc:c<4294967296) (hK: ∀s w',Hp E w' (al 1 s ((Hd.fN c).map vB)::F)→K s w'):Cl Tryz.prog [kS] oB ⟨[.int .u32 (c:Int)]⟩ w K:=by
 refine JL.ok _ _ _ ?_
 refine Nw.mk h fun b3 w h=> ?_
 have hlen: ∀k,k≤4→(((Hd.fN c).take k++List.replicate (4 - k) 0).map vB).length=4:=fun k hk=>by
  rw [List.length_map,List.length_append,List.length_take,List.length_replicate,show (Hd.fN c).length=4 from rfl];omega
 refine ⟨fun i w'=> ∃k:Nat,i=(k:Int)∧k≤4∧Hp E w' (af b3 (.cells ⟨((Hd.fN c).take k++List.replicate (4 - k) 0).map vB⟩ 291 (0,0))::F),fun i _=>4 - i.toNat,⟨0,rfl,by omega,h⟩,?_⟩
 rintro i w ⟨k,rfl,hk,h⟩
 refine aa.dm (fun hlt=> ?_) (fun hge=> ?_)
 ·have hlt:k<4:=by omega
  rw [ae (x:=(8:Int)*(k:Int)) (by omega),ae (by omega),show (24:Int) - 8*(k:Int)=((24 - 8*k:Nat):Int) by omega,cD (by have:IntKind.bits .u32=32:=rfl;omega),pq,ae (by omega)]
  refine ⟨by omega,by omega,by omega,?_⟩
  rw [show ((k:Int)).toNat*1=k by omega]
  simp only [ak,Nat.zero_add]
  have hkl:=hlen k (by omega)
  refine St.xb h (by show k<(((Hd.fN c).take k++List.replicate (4 - k) 0).map vB).length;omega) rfl fun w h=> ?_
  refine ⟨⟨k+1,rfl,by omega,?_⟩,by first|omega|(dsimp only;omega)⟩
  have e:(⟨((Hd.fN c).take k++List.replicate (4 - k) 0).map vB⟩:Array Value).setIfInBounds k (.int .u8 (((c/2^(24 - 8*k):Nat):Int) % 256))=⟨((Hd.fN c).take (k+1)++List.replicate (4 - (k+1)) 0).map vB⟩:=by
   apply Array.ext'
   rw [Array.toList_setIfInBounds]
   have e1:(Value.int .u8 (((c/2^(24 - 8*k):Nat):Int) % 256))=vB (c/2^(24 - 8*k) % 256):=by
    unfold vB;congr 1
   have hl:((Hd.fN c).take k).length=k:=by rw [List.length_take,show (Hd.fN c).length=4 from rfl];omega
   obtain ⟨m,hm⟩: ∃m,4 - k=m+1:=⟨3 - k,by omega⟩
   show (((Hd.fN c).take k++List.replicate (4 - k) 0).map vB).set k _=_
   rw [e1,←List.map_set,List.set_append_right _ _ (by omega),hl,Nat.sub_self,hm,List.replicate_succ,List.set_cons_zero,List.take_add_one,Jb hlt,show 4 - (k+1)=m by omega]
   simp
  rw [e] at h
  exact h
 ·have hk4:k=4:=by omega
  subst hk4
  rw [List.take_of_length_le (Nat.le_refl 4:(Hd.fN c).length≤4),Nat.sub_self,List.replicate_zero,List.append_nil] at h
  refine bj.whole (by decide) rfl rfl ?_
  refine hK _ w (h.fz (n:=4) (sz:=1) rfl)
end
end Go.Proofs.YtgglghjnakclmaaGreat
set_option maxRecDepth 20000
namespace Go.Proofs.YtgglghjnakclmaaGreat
open Go Go.Vc Go.Srt Go.Inc Go.Hd
theorem cP {n:Nat} (h:n≤65536):(fR n).length≤4:=by
 unfold fR
 have: ∀k m:Nat,m<128^k→(tQ m).length≤k:=by
  intro k
  induction k with
  |zero=>intro m hm;have:m=0:=by simpa using hm
         rw [this,qo];exact Nat.le_refl _
  |succ k ih=>
   intro m hm
   rcases Nat.eq_zero_or_pos m with e|e
   ·rw [e,qo];exact Nat.zero_le _
   ·rw [xe e,List.length_append,List.length_singleton]
    have:=ih (m/128) (by rw [Nat.pow_succ] at hm;omega)
    omega
 have:=this 3 (n/128) (by omega)
 rw [List.length_append,List.length_singleton];omega
section
variable {E w:World} {F:List HP}
theorem rX {n:Nat} {most:Int} {K:Sl→Bool→World→Prop} (h:Hp E w F) (hn:n≤65536) (hK: ∀s w',Hp E w' (al 1 s ((fR n).map vB)::F)→K s (decide (1≤(n:Int)∧(n:Int)≤most)) w'):
  Cl Tryz.prog [kS,kB] eY ⟨[.int .i64 (n:Int),.int .i64 most]⟩ w K:=by
 refine ze.ok _ _ _ _ ?_
 exact Lv h hn fun s w h=>Ah (hK _ _ h)
theorem K0 {n:Nat} {K:Sl→Int→World→Prop} (h:Hp E w F) (hn:n≤65536) (h0:0<n) (hK: ∀s w',Hp E w' (al 1 s ((fU n).map vB)::F)→K s 0 w'):
  Cl Tryz.prog [kS,kI] nN ⟨[.agg ⟨[.int .i64 (n:Int)]⟩]⟩ w K:=by
 refine DQ.ok ((n:Int),()) _ _ ?_
 (try simp only [aq,aj,ak,Nat.zero_add,Nat.add_zero,Nat.reduceAdd,Bool.not_true,Bool.not_false,az,ay,Option.isNone])
 (with_reducible repeat first|refine Nw.mk h fun b w h=> ?_|refine aJ.mk h fun w h=> ?_|refine Ld.xb h rfl ?_|refine Ld.xt h rfl ?_|refine aG.xb (fun _ h=>h) rfl ?_|refine aG.xt (fun _ h=>h) rfl ?_|refine ⟨h.hb,?_⟩|refine bl.xw h rfl rfl fun w h=> ?_|(refine bl.xs h rfl rfl fun w h=> ?_;dsimp only [bN,aI] at h)|(refine St.xs h rfl rfl fun w h=> ?_;dsimp only [bN,aI] at h)|refine aa.yes ?_|refine aa.no ?_|refine ⟨by first|omega|decide,?_⟩)
 refine rX h hn fun s w h=> ?_
 rw [decide_eq_true (show 1≤(n:Int)∧(n:Int)≤65536 by omega)]
 (with_reducible repeat first|refine Nw.mk h fun b w h=> ?_|refine aJ.mk h fun w h=> ?_|refine Ld.xb h rfl ?_|refine Ld.xt h rfl ?_|refine aG.xb (fun _ h=>h) rfl ?_|refine aG.xt (fun _ h=>h) rfl ?_|refine ⟨h.hb,?_⟩|refine bl.xw h rfl rfl fun w h=> ?_|(refine bl.xs h rfl rfl fun w h=> ?_;dsimp only [bN,aI] at h)|(refine St.xs h rfl rfl fun w h=> ?_;dsimp only [bN,aI] at h)|refine aa.yes ?_|refine aa.no ?_|refine ⟨by first|omega|decide,?_⟩)
 refine uT h fun w h=> ?_
 have hl:=(h.at 1).aV
 rw [List.length_map,Nat.mul_one] at hl
 have h4:=cP hn
 refine rq (s:=⟨some ⟨_,0,none⟩,3,3⟩) (xs:=([87,80,1]:List Nat).map vB) me (.inl ⟨5,by kernel_rfl⟩) h (ad.aH rfl rfl) (n:=s.len) ?_ ((ad.at 1 ad.own).imp fun w hs=> .inl ⟨s.base,s.len,s.cap,rfl,rfl,hs⟩) (by rw [List.length_map,hl,Nat.mul_one]) (by simp only;omega) (by simp only;omega) fun s' w' h _=> ?_
 ·have:0<(fR n).length:=by unfold fR;simp
  simp only;omega
 ·refine hK _ _ ?_
  rw [←List.map_append] at h
  exact h.dv
theorem LG {c:Nat} {K:Sl→World→Prop} (h:Hp E w F) (hc:c<4294967296) (hK: ∀s w',Hp E w' (al 1 s ((nh c).map vB)::F)→K s w'):Cl Tryz.prog [kS] j8 ⟨[.int .u32 (c:Int)]⟩ w K:=by
 refine yW.ok _ _ _ ?_
 (try simp only [aq,aj,ak,Nat.zero_add,Nat.add_zero,Nat.reduceAdd,Bool.not_true,Bool.not_false,az,ay,Option.isNone])
 (with_reducible repeat first|refine Nw.mk h fun b w h=> ?_|refine aJ.mk h fun w h=> ?_|refine Ld.xb h rfl ?_|refine Ld.xt h rfl ?_|refine aG.xb (fun _ h=>h) rfl ?_|refine aG.xt (fun _ h=>h) rfl ?_|refine ⟨h.hb,?_⟩|refine bl.xw h rfl rfl fun w h=> ?_|(refine bl.xs h rfl rfl fun w h=> ?_;dsimp only [bN,aI] at h)|(refine St.xs h rfl rfl fun w h=> ?_;dsimp only [bN,aI] at h)|refine aa.yes ?_|refine aa.no ?_|refine ⟨by first|omega|decide,?_⟩)
 refine El h hc fun s w h=> ?_
 have hl:=h.aV
 rw [List.length_map,Nat.mul_one] at hl
 have h4:(fN c).length=4:=rfl
 refine rq (s:=⟨some ⟨_,0,none⟩,1,1⟩) (xs:=([0]:List Nat).map vB) me (.inl ⟨5,by kernel_rfl⟩) h (ad.cons (ad.aH rfl rfl)) (n:=s.len) (by simp only;omega) (ad.own.imp fun w hs=> .inl ⟨s.base,s.len,s.cap,rfl,rfl,hs⟩) (by rw [List.length_map,hl,Nat.mul_one]) (by simp only;omega) (by simp only;omega) fun s' w' h _=> ?_
 refine hK _ _ ?_
 rw [←List.map_append] at h
 exact h.dv
theorem EF {n:Int} {M P u:Nat} {K:Sl→Int→World→Prop} (h:Hp E w F) (hM:M≤65536) (hP:P≤65536) (hu:u<4294967296)
  (hgood:1≤n→n≤65536→1≤M→(M:Int)≤n→1≤P→P≤M→∀s w',Hp E w' (al 1 s ((kO M P u).map vB)::F)→K s 0 w')
  (hbad: ¬(1≤n∧n≤65536∧1≤M∧(M:Int)≤n∧1≤P∧P≤M)→∀w',Hp E w' F→K ⟨none,0,0⟩ 2 w'):
  Cl Tryz.prog [kS,kI] iM ⟨[.int .i64 n,.agg ⟨[.int .i64 (M:Int),.int .i64 (P:Int),.int .u32 (u:Int)]⟩]⟩ w K:=by
 refine wq.ok _ ((M:Int),(P:Int),(u:Int),()) _ _ ?_
 (try simp only [aq,aj,ak,Nat.zero_add,Nat.add_zero,Nat.reduceAdd,Bool.not_true,Bool.not_false,az,ay,Option.isNone])
 (with_reducible repeat first|refine Nw.mk h fun b w h=> ?_|refine aJ.mk h fun w h=> ?_|refine Ld.xb h rfl ?_|refine Ld.xt h rfl ?_|refine aG.xb (fun _ h=>h) rfl ?_|refine aG.xt (fun _ h=>h) rfl ?_|refine ⟨h.hb,?_⟩|refine bl.xw h rfl rfl fun w h=> ?_|(refine bl.xs h rfl rfl fun w h=> ?_;dsimp only [bN,aI] at h)|(refine St.xs h rfl rfl fun w h=> ?_;dsimp only [bN,aI] at h)|refine aa.yes ?_|refine aa.no ?_|refine ⟨by first|omega|decide,?_⟩)
 refine rX h hM fun s1 w h=> ?_
 (with_reducible repeat first|refine Nw.mk h fun b w h=> ?_|refine aJ.mk h fun w h=> ?_|refine Ld.xb h rfl ?_|refine Ld.xt h rfl ?_|refine aG.xb (fun _ h=>h) rfl ?_|refine aG.xt (fun _ h=>h) rfl ?_|refine ⟨h.hb,?_⟩|refine bl.xw h rfl rfl fun w h=> ?_|(refine bl.xs h rfl rfl fun w h=> ?_;dsimp only [bN,aI] at h)|(refine St.xs h rfl rfl fun w h=> ?_;dsimp only [bN,aI] at h)|refine aa.yes ?_|refine aa.no ?_|refine ⟨by first|omega|decide,?_⟩)
 refine rX h hP fun s2 w h=>Ah ?_
 by_cases hn:1≤n∧n≤65536
 ·refine aa.Lc hn ?_
  by_cases hm:1≤(M:Int)∧(M:Int)≤n
  ·refine aa.Lc hm ?_
   by_cases hp:1≤(P:Int)∧(P:Int)≤(M:Int)
   ·refine aa.Lc hp ?_
    (with_reducible repeat first|refine Nw.mk h fun b w h=> ?_|refine aJ.mk h fun w h=> ?_|refine Ld.xb h rfl ?_|refine Ld.xt h rfl ?_|refine aG.xb (fun _ h=>h) rfl ?_|refine aG.xt (fun _ h=>h) rfl ?_|refine ⟨h.hb,?_⟩|refine bl.xw h rfl rfl fun w h=> ?_|(refine bl.xs h rfl rfl fun w h=> ?_;dsimp only [bN,aI] at h)|(refine St.xs h rfl rfl fun w h=> ?_;dsimp only [bN,aI] at h)|refine aa.yes ?_|refine aa.no ?_|refine ⟨by first|omega|decide,?_⟩)
    refine El h hu fun s3 w h=>Nw.mk h fun b22 w h=> ?_
    have l1:=cP hM
    have l2:=cP hP
    refine Gu (s:=⟨some ⟨b22,0,none⟩,4,4⟩) (cs:= [⟨some ⟨b,0,none⟩,1,1⟩,s1,s2,s3]) (bs:= [[1],fR M,fR P,fN u]) h (ad.aH rfl rfl) rfl (by rw [aC];simp) ?_ ?_ fun s w h=> ?_
    ·intro i hi
     match i,hi with
     |0,_=>exact ad.at 2 (ad.aH rfl rfl)
     |1,_=>exact ad.at 4 ad.own
     |2,_=>exact ad.at 3 ad.own
     |3,_=>exact ad.at 1 ad.own
    ·rw [aC]
     simp [fN]
     omega
    ·refine hgood hn.1 hn.2 (by omega) hm.2 (by omega) (by omega) s w ?_
     have e: [[1],fR M,fR P,fN u].flatten=kO M P u:=by simp [kO]
     rw [e] at h
     exact h.dv
   ·exact aa.Kh hp (hbad (by omega) _ h.tl)
  ·exact aa.Kh hm (hbad (by omega) _ h.tl)
 ·exact aa.Kh hn (hbad (by omega) _ h.tl)
end
end Go.Proofs.YtgglghjnakclmaaGreat
namespace Go.Proofs.YtgglghjnakclmaaGreat
open Go Go.Vc
set_option maxRecDepth 100000
theorem vj.ok (a:(Option Addr)) (b:(Array Value)) (R:Int→World→Prop) w (h:
 Nw 104 b w fun d c=>
 Ld (.arr 258) ⟨d,0,none⟩ c fun e=>
 Cl Pg [kS,kI] jv ⟨[(.agg e)]⟩ c fun (g:Sl) (h:Int) f=>
 aa (h !=0)
 (R 2 f)
 (aa (Option.isNone (a:Option Addr))
 (R 2 f)
 (c8 0 f fun i j (k:Int) l=>
 aa (decide (k<(g.len:Int)))
 (an g k 1 fun m=>
 Ld kI m l fun (n:Int)=>
 Cl Pg [kB] dg ⟨[(.pointer a),(.int .u32 (u32 n)),(ni 1)]⟩ l fun (p:Bool) o=>
 i (i64 (k+1)) o∧j (i64 (k+1)) o<j k l)
 (R 0 l)))):Cl Pg [kI] iI ⟨[(.pointer a),(.agg b)]⟩ w R:=co Tryz.f149 [(12,[(22,kI)])] h
theorem xp.ok (a:(Array Value)) (R:Sl→Int→World→Prop) w (h:
 Nw 104 a w fun c b=>
 Nw 142 ⟨[(.slice none 0 0)]⟩ b fun e d=>
 Ld (.arr 258) ⟨c,0,none⟩ d fun f=>
 Cl Pg [kB] lZ ⟨[(.agg f)]⟩ d fun (h:Bool) g=>
 aa (!h)
 (St ⟨e,0,none⟩ (.slice none 0 0) g fun i=>
 Ld kS ⟨e,0,none⟩ i fun (j:Sl)=>
 R j 2 i)
 (aw ⟨c,0,none⟩ 258 0 1 fun k=>
 Ld (ar .u8) k g fun (l:Int)=>
 ∃(m:Int→World→Prop) (n:Int→World→Nat),m (0) g∧
 ∀(o:Int),∀(p:World),m o p→
 aa (decide (o<4))
 (aJ p fun q=>
 0≤(i64 ((3:Int) - o))∧
 (Ld kS ⟨e,0,none⟩ q fun (r:Sl)=>
 Nw 3 ⟨[(ni (dc .i64 (aO .i64 (i64 l) (i64 ((3:Int) - o))) 1))]⟩ q fun t s=>
 au Pg (Builtin.append_ #[142,142] 142 ⟨[(ag r),(ag (⟨some ⟨t,0,none⟩,1,1⟩:Sl))]⟩) kS s fun (v:Sl) u=>
 St ⟨e,0,none⟩ (ag v) u fun x=>
 ([]:List Nat)=([]:List Nat)∧m (i64 (o+1)) x∧n (i64 (o+1)) x<n o p)∧
 (Nw 3 ⟨[(ni (dc .i64 (aO .i64 (i64 l) (i64 ((3:Int) - o))) 1))]⟩ q fun z y=>
 Ld kS ⟨e,0,none⟩ y fun (a1:Sl)=>
 au Pg (Builtin.append_ #[142,142] 142 ⟨[(ag a1),(ag (⟨some ⟨z,0,none⟩,1,1⟩:Sl))]⟩) kS y fun (c1:Sl) b1=>
 St ⟨e,0,none⟩ (ag c1) b1 fun d1=>
 ([]:List Nat)=([]:List Nat)∧m (i64 (o+1)) d1∧n (i64 (o+1)) d1<n o p))
 (Ld (.arr 258) ⟨c,0,none⟩ p fun e1=>
 ∃(f1:List Nat→Int→Int→World→Prop) (g1:Int→Int→World→Nat),f1 ([]:List Nat) ((i64 l)) (0) p∧
 ∀(k1:List Nat),∀(h1:Int) (i1:Int),∀(j1:World),f1 k1 h1 i1 j1→
 aa (decide (i1<258))
 (ie (.int .u8) e1 258 i1 fun (l1:Int)=>
 Cl Pg [kV] jL ⟨[(ni h1),(ni (i64 l1))]⟩ j1 fun n1 m1=>
 gm Pg n1 [kI] m1 (fun (o1:Nat) (p1:Nat→Obj) (t1:Int) (q1:World) (r1 s1:World→Prop)=>
 wx o1 p1 q1 fun u1=>
 Ld kS ⟨e,0,none⟩ u1 fun (v1:Sl)=>
 Nw 3 ⟨[(ni t1)]⟩ u1 fun y1 x1=>
 au Pg (Builtin.append_ #[142,142] 142 ⟨[(ag v1),(ag (⟨some ⟨y1,0,none⟩,1,1⟩:Sl))]⟩) kS x1 fun (a2:Sl) z1=>
 St ⟨e,0,none⟩ (ag a2) z1 fun b2=>
 qN o1 p1 b2 r1)
 (fun c2 d2=>
 f1 (c2::k1:List Nat) (i64 l1) (i64 (i1+1)) d2∧g1 (i64 l1) (i64 (i1+1)) d2<g1 h1 i1 j1)
 (fun e2 f2=>
 lV (e2::k1:List Nat) f2 fun g2=>
 Ld kS ⟨e,0,none⟩ g2 fun (h2:Sl)=>
 R h2 0 g2))
 (Ld kS ⟨e,0,none⟩ j1 fun (i2:Sl)=>
 St ⟨e,0,none⟩ (ag i2) j1 fun j2=>
 lV (k1:List Nat) j2 fun k2=>
 Ld kS ⟨e,0,none⟩ k2 fun (l2:Sl)=>
 R l2 0 k2)))):Cl Pg [kS,kI] jv ⟨[(.agg a)]⟩ w R:=Cy Tryz.f210 (.s .o (.s (.s .o (.c (.s .o .o) .o)) (.s .o (.s (.s .o (.b (.l [(15,kI)] (.s .o (.s (.c .o .o) (.s (.b (.s .o (.b .o))) .o)))))) (.s (.s .o (.b (.l [(4,kI),(28,kI)] (.s .o (.s (.c .o .o) (.s (.b (.s .o (.s (.s .o (.b (.r [kI] .o (.b .o)))) .o))) .o)))))) (.s .o .o)))))) h
theorem rB.ok (a:Int) (b:Int) (R:Value→World→Prop) w (h:
 Nw 3 ⟨[(ni a)]⟩ w fun d c=>
 Nw 3 ⟨[(ni b)]⟩ c fun f e=>
 R (.func (.func 311) ⟨[]⟩ ⟨[(.pointer (some ⟨f,0,none⟩)),(.pointer (some ⟨d,0,none⟩))]⟩) e):Cl Pg [kV] jL ⟨[(ni a),(ni b)]⟩ w R:=co Tryz.f273 [] h
theorem pQ.ok (a:Value) (b:Addr) (c:Addr) (R:World→Prop) w (h:
 Ld kI b w fun (d:Int)=>
 Ld kI c w fun (e:Int)=>
 aa (decide (d<e))
 (∃(f:World→Prop) (g:World→Nat),f w∧
 ∀(h:World),f h→
 Ld kI c h fun (i:Int)=>
 Ld kI b h fun (j:Int)=>
 aa (i !=j)
 (lD Pg a [kB] [(ni 1)] h fun (l:Bool) k=>
 aa (!l)
 (R k)
 (lD Pg a [kB] [(ni 1)] k fun (n:Bool) m=>
 aa (!n)
 (R m)
 (Ld kI c m fun (o:Int)=>
 St c (ni (i64 (o+(i64 ((1:Int) - (i64 ((2:Int)*1))))))) m fun p=>
 ([]:List Nat)=([]:List Nat)∧f p∧g p<g h)))
 (lD Pg a [kB] [(ni 0)] h fun (r:Bool) q=>
 R q))
 (∃(s:World→Prop) (t:World→Nat),s w∧
 ∀(u:World),s u→
 Ld kI c u fun (v:Int)=>
 Ld kI b u fun (x:Int)=>
 aa (v !=x)
 (lD Pg a [kB] [(ni 1)] u fun (z:Bool) y=>
 aa (!z)
 (R y)
 (lD Pg a [kB] [(ni 0)] y fun (b1:Bool) a1=>
 aa (!b1)
 (R a1)
 (Ld kI c a1 fun (c1:Int)=>
 St c (ni (i64 (c1+(i64 ((1:Int) - (i64 ((2:Int)*0))))))) a1 fun d1=>
 ([]:List Nat)=([]:List Nat)∧s d1∧t d1<t u)))
 (lD Pg a [kB] [(ni 0)] u fun (f1:Bool) e1=>
 R e1))):Cl Pg [] iG ⟨[a,(.pointer (some b)),(.pointer (some c))]⟩ w R:=Cy Tryz.f311 (.s .o (.s (.s .o (.c .o .o)) (.s (.b (.l [] (.s (.s .o (.c .o .o)) (.s (.b (.s .o (.c .o .o))) .o)))) .o))) h
end Go.Proofs.YtgglghjnakclmaaGreat
set_option maxRecDepth 20000
namespace Go.Tab
open Go.Inc
end Go.Tab
namespace Go.Proofs.YtgglghjnakclmaaGreat
open Go Go.Vc Go.Srt Go.Inc Go.Tab
abbrev Lz (l:List Nat):List Value:=l.map fun (n:Nat)=>Value.int .u8 (n:Int)
abbrev yw (l:List Nat) (s b n wy:Int):Array Value:=⟨Lz l++ [.int .i64 s,.int .i64 b,.int .i64 n,.int .i64 wy]⟩
theorem JT {l:List Nat} (h:l.length=258):(Lz l).length=258:=by simp [h]
section
variable {E w:World} {F:List HP}
theorem GO:(Tryz.prog.fieldsOf 106).toList.map (fun f=>(f.name== "_",f.type,f.offset))= [(false,104,0),(false,3,258),(false,3,259),(false,3,260),(false,3,261)]:=by kernel_rfl
theorem Ma:Tryz.prog.underlying 106=some (.struct (Tryz.prog.fieldsOf 106)):=by kernel_rfl
theorem Kn:Tryz.prog.stoodInHeld 106=false:=by kernel_rfl
set_option maxRecDepth 20000 in
theorem xO.tb {l:List Nat} {s b n wy:Int} {K:Bool→Prop} (hl:l.length=258) (hK:K true):xO Tryz.prog 106 (yw l s b n wy) (yw l s b n wy) K:=by
 obtain ⟨it,hit⟩:=CS
 obtain ⟨jt,hjt,hjs⟩:=Kd
 obtain ⟨kt,hkt,hks⟩:=Eo
 obtain ⟨f1,f2,f3,f4,f5,hfs,hf1,hf2,hf3,hf4,hf5⟩: ∃f1 f2 f3 f4 f5,(Tryz.prog.fieldsOf 106).toList= [f1,f2,f3,f4,f5]∧(f1.name== "_",f1.type,f1.offset)=(false,104,0)∧(f2.name== "_",f2.type,f2.offset)=(false,3,258)∧(f3.name== "_",f3.type,f3.offset)=(false,3,259)∧(f4.name== "_",f4.type,f4.offset)=(false,3,260)∧(f5.name== "_",f5.type,f5.offset)=(false,3,261):=by
  have h:=GO
  generalize (Tryz.prog.fieldsOf 106).toList=fs at h
  match fs,h with
  | [],h=>simp at h
  | [_],h=>simp at h
  | [_,_],h=>simp at h
  | [_,_,_],h=>simp at h
  | [_,_,_,_],h=>simp at h
  |_::_::_::_::_::_::_,h=>simp at h
  | [f1,f2,f3,f4,f5],h=>
   simp only [List.map_cons,List.map_nil,List.cons.injEq,and_true] at h
   exact ⟨f1,f2,f3,f4,f5,rfl,h.1,h.2.1,h.2.2.1,h.2.2.2.1,h.2.2.2.2⟩
 simp only [Prod.mk.injEq] at hf1 hf2 hf3 hf4 hf5
 have hL:=JT hl
 have hc:(((yw l s b n wy).toList.drop 0).take 258)=(l.map fun (x:Nat)=>(x:Int)).map (.int .u8):=by
  rw [List.drop_zero,List.take_append_of_le_length (by omega),List.take_of_length_le (by omega),List.map_map];rfl
 have hint: ∀(x:Int) (D:Nat) (_:9≤D) (w:World),(Op.equalIn D 3 (.int .i64 x) (.int .i64 x)).run Tryz.prog w= .ok true w:=fun x D hD w=>by
  obtain ⟨D,rfl⟩: ∃k,D=k+1:=⟨D - 1,by omega⟩
  rw [run_equalIn_int w D _ _ _ _ _ EX]
  simp
 obtain ⟨r,hr,hK'⟩:=jY (P:=Tryz.prog) (d:=9) (rec:=fun t x y K=> ∃b,(∀D,9≤D→∀w,(Op.equalIn D t x y).run Tryz.prog w= .ok b w)∧K b) (fun t x y K h=>h) (xs:=yw l s b n wy) (ys:=yw l s b n wy) (fs:= [f1,f2,f3,f4,f5]) (K:=K) (by
  unfold jy
  rw [hf1.1]
  refine mJ (it:=jt) (by rw [hf1.2.1];kernel_rfl) (by rw [hf1.2.1];exact hjt) (mJ (it:=jt) (by rw [hf1.2.1];kernel_rfl) (by rw [hf1.2.1];exact hjt) ?_)
  rw [hf1.2.2,hjs,hf1.2.1,hc]
  refine ⟨_,fun D hD w=>yC Lb Iv hkt hks (by simpa using hl) (by simpa using hl) D (by omega) w,?_⟩
  unfold jy
  rw [hf2.1]
  refine eg (it:=it) (v:= .int .i64 s) (by rw [hf2.2.1];kernel_rfl) (by rw [hf2.2.1];exact hit) (by rw [hf2.2.2];exact ka (k:=0) hL) (eg (it:=it) (v:= .int .i64 s) (by rw [hf2.2.1];kernel_rfl) (by rw [hf2.2.1];exact hit) (by rw [hf2.2.2];exact ka (k:=0) hL) ?_)
  rw [hf2.2.1]
  refine ⟨true,hint s,?_⟩
  unfold jy
  rw [hf3.1]
  refine eg (it:=it) (v:= .int .i64 b) (by rw [hf3.2.1];kernel_rfl) (by rw [hf3.2.1];exact hit) (by rw [hf3.2.2];exact ka (k:=1) hL) (eg (it:=it) (v:= .int .i64 b) (by rw [hf3.2.1];kernel_rfl) (by rw [hf3.2.1];exact hit) (by rw [hf3.2.2];exact ka (k:=1) hL) ?_)
  rw [hf3.2.1]
  refine ⟨true,hint b,?_⟩
  unfold jy
  rw [hf4.1]
  refine eg (it:=it) (v:= .int .i64 n) (by rw [hf4.2.1];kernel_rfl) (by rw [hf4.2.1];exact hit) (by rw [hf4.2.2];exact ka (k:=2) hL) (eg (it:=it) (v:= .int .i64 n) (by rw [hf4.2.1];kernel_rfl) (by rw [hf4.2.1];exact hit) (by rw [hf4.2.2];exact ka (k:=2) hL) ?_)
  rw [hf4.2.1]
  refine ⟨true,hint n,?_⟩
  unfold jy
  rw [hf5.1]
  refine eg (it:=it) (v:= .int .i64 wy) (by rw [hf5.2.1];kernel_rfl) (by rw [hf5.2.1];exact hit) (by rw [hf5.2.2];exact ka (k:=3) hL) (eg (it:=it) (v:= .int .i64 wy) (by rw [hf5.2.1];kernel_rfl) (by rw [hf5.2.1];exact hit) (by rw [hf5.2.2];exact ka (k:=3) hL) ?_)
  rw [hf5.2.1]
  refine ⟨true,hint wy,?_⟩
  simpa using hK)
 refine ⟨r,fun w=> ?_,hK'⟩
 rw [run_equalIn_struct w 9999 _ _ _ Ma Kn,hfs]
 exact hr 9999 (by decide) w
end
end Go.Proofs.YtgglghjnakclmaaGreat
namespace Go.Proofs.YtgglghjnakclmaaGreat
open Go Go.Vc Go.Srt Go.Inc Go.Tab Go.aS
section
variable {E w:World} {F:List HP}
set_option maxRecDepth 20000
theorem zZ {was now b4 b6:Nat} (h1:was≤255) (h2:now≤255):vO Tryz.prog E (.func (.func iG) ⟨[]⟩ ⟨[.pointer (some ⟨b6,0,none⟩),.pointer (some ⟨b4,0,none⟩)]⟩) (cj was now).length
  (fun i=> [Ki.enc kI (((cj was now).getD i 0:Nat):Int)]) [bI b6 now,bI b4 was] (fun _=>True):=by
 intro yv C G w K hg hy h hK hKG
 refine rh.mk (by kernel_rfl) (pQ.ok yv ⟨b6,0,none⟩ ⟨b4,0,none⟩ K w ?_)
 have h:Hp E w (bI b6 now::bI b4 was::C 0):=h
 have one: ∀(k x:Nat) (rest:List Nat) (was':Nat) (w:World) (Kb:Bool→World→Prop),(cj was now).drop k=x::rest→Hp E w (bI b6 now::bI b4 was'::C k)→
   (∀w',Hp E w' (bI b6 now::bI b4 was'::C (k+1))→Kb true w')→(∀w',k<(cj was now).length→Hp E w' (G k)→Kb false w')→lD Tryz.prog yv [kB] [.int .i64 (x:Int)] w Kb:=by
  intro k x rest was' w Kb hd h hk hf
  have hlt:k<(cj was now).length:=by
   rcases Nat.lt_or_ge k (cj was now).length with q|q
   ·exact q
   ·rw [List.drop_eq_nil_of_le q] at hd;cases hd
  have hx:(cj was now).getD k 0=x:=by
   rw [List.drop_eq_getElem_cons hlt] at hd
   injection hd with e _
   rw [List.getD_eq_getElem?_getD,List.getElem?_eq_getElem hlt,Option.getD_some,e]
  have he: [Value.int .i64 (x:Int)]= [Ki.enc kI (((cj was now).getD k 0:Nat):Int)]:=by rw [hx]
  rw [he]
  refine hy k hlt [bI b6 now,bI b4 was'] w _ (h.perm (List.perm_append_comm (l₁:= [bI b6 now,bI b4 was']))) (fun w h=> ?_) (fun w h=> ?_)
  ·exact hk w (h.perm (List.perm_append_comm (l₂:= [bI b6 now,bI b4 was'])))
  ·exact hf w hlt (h.perm (List.perm_append_comm (l₂:= [bI b6 now,bI b4 was']))).drop.drop
 have last: ∀(k was':Nat) (w:World),(cj was now).drop k= [0]→Hp E w (bI b6 now::bI b4 was'::C k)→lD Tryz.prog yv [kB] [.int .i64 0] w fun _ w=>K w:=by
  intro k was' w hd h
  have hlen:(cj was now).length=k+1:=by
   have:=congrArg List.length hd
   simp at this;omega
  refine one k 0 [] was' w _ hd h (fun w h=> ?_) (fun w hk h=>hKG k w hk h)
  rw [←hlen] at h
  exact hK w h.drop.drop
 have hdn: ∀j,gM (j+1)=1::1::gM j:=fun _=>rfl
 have hup: ∀j,ng (j+1)=1::0::ng j:=fun _=>rfl
 refine Ld.xb (x:=(now:Int)) h rfl (Ld.xb (x:=(was:Int)) h rfl (aa.dm (fun hlt=> ?_) (fun hge=> ?_)))
 ·have hlt:now<was:=by omega
  refine ⟨fun w=> ∃k was':Nat,now≤was'∧was'≤was∧(cj was now).drop k=gM (was' - now)++ [0]∧k+2*(was' - now)+1=(cj was now).length∧Hp E w (bI b6 now::bI b4 was'::C k),
   fun w=>jX b4 w,⟨0,was,by omega,by omega,?_,?_,h⟩,?_⟩
  ·unfold cj;rw [if_pos hlt];rfl
  ·unfold cj;rw [if_pos hlt]
   have: ∀j,(gM j).length=2*j:=fun j=>by
    induction j with
    |zero=>rfl
    |succ j ih=>rw [hdn,List.length_cons,List.length_cons,ih];omega
   simp [this]
  rintro w ⟨k,was',h3,h4,hd,hkl,h⟩
  refine Ld.xb (x:=(was':Int)) h rfl (Ld.xb (x:=(now:Int)) h rfl (aa.nm (fun hne=> ?_) (fun he=> ?_)))
  ·obtain ⟨j,hj⟩: ∃j,was' - now=j+1:=⟨was' - now - 1,by omega⟩
   rw [hj,hdn] at hd
   have hd2:(cj was now).drop (k+1)=1::(gM j++ [0]):=by rw [←List.drop_drop,hd];rfl
   have hd3:(cj was now).drop (k+2)=gM j++ [0]:=by rw [show k+2=(k+1)+1 by omega,←List.drop_drop,hd2];rfl
   refine one k 1 _ was' w _ hd h (fun w1 h1=> ?_) (fun w1 hk1 h1=>aa.t rfl (hKG k w1 hk1 h1))
   refine aa.f rfl ?_
   refine one (k+1) 1 _ was' w1 _ hd2 h1 (fun w2 h2=> ?_) (fun w2 hk2 h2=>aa.t rfl (hKG (k+1) w2 hk2 h2))
   refine aa.f rfl ?_
   refine Ld.xb (x:=(was':Int)) h2 rfl ?_
   rw [ae (x:=(2:Int)*1) (by omega),ae (x:=(1:Int) - 2*1) (by omega),ae (by omega)]
   refine St.xb h2 (by simp) rfl fun w3 h3'=> ?_
   rw [show (was':Int)+(1 - 2*1)=((was' - 1:Nat):Int) by omega] at h3'
   have h3':Hp E w3 (bI b6 now::bI b4 (was' - 1)::C (k+2)):=h3'
   refine ⟨rfl,⟨k+2,was' - 1,by omega,by omega,?_,by omega,h3'⟩,?_⟩
   ·rw [hd3,show was' - 1 - now=j by omega]
   ·show jX b4 w3<jX b4 w
    rw [lf (v:=((was' - 1:Nat):Int)) h3' rfl,lf (v:=(was':Int)) h rfl]
    omega
  ·have e:was' - now=0:=by omega
   rw [e] at hd
   exact last k was' w hd h
 ·refine ⟨fun w=> ∃k was':Nat,was'≤now∧was≤was'∧(cj was now).drop k=ng (now - was')++ [0]∧k+2*(now - was')+1=(cj was now).length∧Hp E w (bI b6 now::bI b4 was'::C k),
   fun w=>255 - jX b4 w,⟨0,was,by omega,by omega,?_,?_,h⟩,?_⟩
  ·unfold cj;rw [if_neg (by omega)];rfl
  ·unfold cj;rw [if_neg (by omega)]
   have: ∀j,(ng j).length=2*j:=fun j=>by
    induction j with
    |zero=>rfl
    |succ j ih=>rw [hup,List.length_cons,List.length_cons,ih];omega
   simp [this]
  rintro w ⟨k,was',h3,h4,hd,hkl,h⟩
  refine Ld.xb (x:=(was':Int)) h rfl (Ld.xb (x:=(now:Int)) h rfl (aa.nm (fun hne=> ?_) (fun he=> ?_)))
  ·obtain ⟨j,hj⟩: ∃j,now - was'=j+1:=⟨now - was' - 1,by omega⟩
   rw [hj,hup] at hd
   have hd2:(cj was now).drop (k+1)=0::(ng j++ [0]):=by rw [←List.drop_drop,hd];rfl
   have hd3:(cj was now).drop (k+2)=ng j++ [0]:=by rw [show k+2=(k+1)+1 by omega,←List.drop_drop,hd2];rfl
   refine one k 1 _ was' w _ hd h (fun w1 h1=> ?_) (fun w1 hk1 h1=>aa.t rfl (hKG k w1 hk1 h1))
   refine aa.f rfl ?_
   refine one (k+1) 0 _ was' w1 _ hd2 h1 (fun w2 h2=> ?_) (fun w2 hk2 h2=>aa.t rfl (hKG (k+1) w2 hk2 h2))
   refine aa.f rfl ?_
   refine Ld.xb (x:=(was':Int)) h2 rfl ?_
   rw [ae (x:=(2:Int)*0) (by omega),ae (x:=(1:Int) - 2*0) (by omega),ae (by omega)]
   refine St.xb h2 (by simp) rfl fun w3 h3'=> ?_
   rw [show (was':Int)+(1 - 2*0)=((was'+1:Nat):Int) by omega] at h3'
   have h3':Hp E w3 (bI b6 now::bI b4 (was'+1)::C (k+2)):=h3'
   refine ⟨rfl,⟨k+2,was'+1,by omega,by omega,?_,by omega,h3'⟩,?_⟩
   ·rw [hd3,show now - (was'+1)=j by omega]
   ·show 255 - jX b4 w3<255 - jX b4 w
    rw [lf (v:=((was'+1:Nat):Int)) h3' rfl,lf (v:=(was':Int)) h rfl]
    omega
  ·have e:now - was'=0:=by omega
   rw [e] at hd
   exact last k was' w hd h
theorem sG: ∀(m:List Nat) (was n:Nat),ep was (m++ [n])=ep was m++cj (m.getLastD was) n
 | [],was,n=>by simp [ep]
 |x::m,was,n=>by
  rw [List.cons_append,ep,ep,sG m x n,List.append_assoc]
  congr 2
  cases m<;>rfl
theorem wU {a b:Nat} (ha:a≤15) (hb:b≤15):(cj a b).length≤31:=by
 have hd: ∀j,(gM j).length=2*j:=fun j=>by
  induction j with
  |zero=>rfl
  |succ j ih=>rw [show gM (j+1)=1::1::gM j from rfl,List.length_cons,List.length_cons,ih];omega
 have hu: ∀j,(ng j).length=2*j:=fun j=>by
  induction j with
  |zero=>rfl
  |succ j ih=>rw [show ng (j+1)=1::0::ng j from rfl,List.length_cons,List.length_cons,ih];omega
 unfold cj
 rw [List.length_append,List.length_singleton]
 split
 ·rw [hd];omega
 ·rw [hu];omega
theorem qv: ∀(m:List Nat) (was:Nat),was≤15→(∀x∈m,x≤15)→(ep was m).length≤31*m.length
 | [],_,_,_=>by simp [ep]
 |x::m,was,h,hm=>by
  have h1:=hm x List.mem_cons_self
  have h2:=wU h h1
  have h3:=qv m x h1 fun y hy=>hm y (List.mem_cons_of_mem _ hy)
  rw [ep,List.length_append,List.length_cons];omega
theorem Ig {x k:Nat} (hx:x≤15) (hk:k<4):(four x)[k]? =some (x/2^(3 - k) % 2):=by
 match k,hk with
 |0,_=>rfl
 |1,_=>rfl
 |2,_=>rfl
 |3,_=>simp [four]
theorem LV {l:List Nat} {K:Sl→Int→World→Prop} (h:Hp E w F) (hl:l.length=258) (hbad:gG l=false→∀w',Hp E w' F→K ⟨none,0,0⟩ 2 w')
  (hK:gG l=true→∀s w',Hp E w' (al 1 s ((ints (eF l)).map vI)::F)→K s 0 w'):Cl Tryz.prog [kS,kI] jv ⟨[.agg (ai .u8 l)]⟩ w K:=by
 refine xp.ok _ _ _ ?_
 (try simp only [aq,aj,ak,Nat.zero_add,Nat.add_zero,Nat.reduceAdd,Bool.not_true,Bool.not_false,az,ay,Option.isNone])
 have hsz:(ai .u8 l).size=258:=by rw [av,hl]
 refine Nw.mk h fun b3 w h=>Nw.mk h fun b5 w h=>Ld.xw h hsz (JF h hl fun w h=> ?_)
 by_cases hok:gG l=true
 ·rw [hok]
  refine aa.f rfl ?_
  have h15:=af.wC hok
  obtain ⟨x,m,rfl⟩: ∃x m,l=x::m:=by
   cases l with
   |nil=>simp at hl
   |cons x m=>exact ⟨x,m,rfl⟩
  have hx15:=h15 x List.mem_cons_self
  refine ⟨by decide,by decide,Ld.xb (x:=(x:Int)) h rfl ?_⟩
  rw [ae (by omega)]
  have h0:Hp E w (fV b5 []::af b3 (.cells (ai .u8 (x::m)) 104 (0,0))::F):=fV.shut (s:=⟨none,0,0⟩) ((h.a9 1).p1)
  refine ⟨fun i w=> ∃k:Nat,i=(k:Int)∧k≤4∧Hp E w (fV b5 ((four x).take k)::af b3 (.cells (ai .u8 (x::m)) 104 (0,0))::F),fun i _=>4 - i.toNat,⟨0,rfl,by omega,h0⟩,?_⟩
  rintro i w ⟨k,rfl,hk,h⟩
  refine aa.dm (fun hlt=> ?_) (fun hge=> ?_)
  ·have hlt:k<4:=by omega
   refine aJ.mk h fun w h=> ?_
   have ebit:dc .i64 (aO .i64 (x:Int) (i64 (3 - (k:Int)))) 1=((x/2^(3 - k) % 2:Nat):Int):=by
    have hmx:IntKind.max .i64=9223372036854775807:=rfl
    have hd:x/2^(3 - k)≤x:=Nat.div_le_self _ _
    rw [ae (by omega),show (3:Int) - (k:Int)=((3 - k:Nat):Int) by omega,cD (by have:IntKind.bits .i64=64:=rfl;omega),show (1:Int)=((1:Nat):Int) from rfl,jC (by omega) (by omega),Nat.and_one_is_mod]
   rw [ebit]
   have e4:(four x).take k++ [x/2^(3 - k) % 2]=(four x).take (k+1):=by rw [List.take_add_one,Ig hx15 hlt];rfl
   have hl4:((four x).take k).length≤1000000:=by rw [List.length_take];simp [four];omega
   rw [ae (x:=(3:Int) - (k:Int)) (by omega),ae (x:=(k:Int)+1) (by omega)]
   have fin: ∀w',Hp E w' (fV b5 ((four x).take k++ [x/2^(3 - k) % 2])::af b3 (.cells (ai .u8 (x::m)) 104 (0,0))::F)→True∧(∃k':Nat,(k:Int)+1=(k':Int)∧k'≤4∧Hp E w' (fV b5 ((four x).take k')::af b3 (.cells (ai .u8 (x::m)) 104 (0,0))::F))∧4 - ((k:Int)+1).toNat<4 - ((k:Int)).toNat:=fun w' h=>by
    rw [e4] at h
    exact ⟨trivial,⟨k+1,by omega,by omega,h⟩,by omega⟩
   obtain ⟨s,_,h⟩:=h.ex
   have h:Hp E w (af b5 (.cells ⟨[rL s]⟩ 142 (0,0))::al 1 s ((ints ((four x).take k)).map vI)::af b3 (.cells (ai .u8 (x::m)) 104 (0,0))::F):=h
   refine ⟨by omega,?_,?_⟩
   ·refine Ld.xb (x:=s) h rfl (Nw.mk h fun b20 w h=> ?_)
    exact fV.put (l:= []) h hl4 fin
   ·refine Nw.mk h fun b20 w h=>Ld.xb (x:=s) h rfl ?_
    exact fV.put (l:= []) h hl4 fin
  ·have hk4:k=4:=by omega
   subst hk4
   refine Ld.xw h hsz ?_
   have e0:(four x).take 4=four x++ep x ((x::m).take 0):=by simp [four,ep]
   rw [e0] at h
   refine ⟨fun ms was i w=> ∃k:Nat,i=(k:Int)∧k≤258∧was=((((x::m).take k).getLastD x:Nat):Int)∧Hp E w (fV b5 (four x++ep x ((x::m).take k))::af b3 (.cells (ai .u8 (x::m)) 104 (0,0))::(ms.map (fun D=>af D (.deferred (some [])))++F)),
    fun _ i _=>258 - i.toNat,⟨0,rfl,by omega,rfl,h⟩,?_⟩
   rintro ms was i w ⟨k,rfl,hk,rfl,h⟩
   refine aa.dm (fun hlt=> ?_) (fun hge=> ?_)
   ·have hlt:k<258:=by omega
    have hlt2:k<(x::m).length:=by omega
    have hn15:=h15 _ (List.getElem_mem hlt2)
    have hw15:((x::m).take k).getLastD x≤15:=by
     cases hc:((x::m).take k).getLast? with
     |none=>rw [List.getLastD_eq_getLast?,hc];exact hx15
     |some y=>
      rw [List.getLastD_eq_getLast?,hc]
      exact h15 y (List.mem_of_mem_take (List.mem_of_getLast? hc))
    have hk':((x::m).take k++ [(x::m)[k]])=(x::m).take (k+1):=by rw [List.take_add_one,List.getElem?_eq_getElem hlt2];rfl
    have htl:(four x++ep x ((x::m).take k)).length≤9000:=by
     have:=qv ((x::m).take k) x hx15 fun y hy=>h15 y (List.mem_of_mem_take hy)
     rw [List.length_append,show (four x).length=4 from rfl]
     rw [List.length_take] at this
     omega
    generalize hwas:((x::m).take k).getLastD x=was at hw15 h⊢
    generalize hnow:(x::m)[k]=now at hn15 hk'
    refine ⟨by omega,by omega,(now:Int),by rw [show ((k:Int)).toNat=k by omega,ez hlt2,hnow],?_⟩
    dsimp only
    rw [ae (x:=(now:Int)) (by omega),ae (x:=(k:Int)+1) (by omega)]
    refine rB.ok _ _ _ _ ?_
    refine Nw.mk h fun b4 w h=>Nw.mk h fun b6 w h=> ?_
    have hcl:=wU hw15 hn15
    refine gm.Lw (E:=E) (k:=kI) (x:=fun i=>(((cj was now).getD i 0:Nat):Int)) (n:=(cj was now).length) (fun i=>fV b5 (four x++ep x ((x::m).take k)++(cj was now).take i)::af b3 (.cells (ai .u8 (x::m)) 104 (0,0))::(ms.map (fun D=>af D (.deferred (some [])))++F)) (fun _=> [Dm])
     (A:= [bI b6 now,bI b4 was]) ?_ (fun _=>ad.const trivial) (zZ (by omega) (by omega)) ?_ ?_ ?_
    ·rw [List.take_zero,List.append_nil];exact h
    ·intro lr rec i A w Kt Kf hi h hKt _
     refine wx.mk h fun w h=> ?_
     obtain ⟨s,_,h⟩:=(h.p1).ex
     have h:Hp E w (af b5 (.cells ⟨[rL s]⟩ 142 (0,0))::al 1 s ((ints (four x++ep x ((x::m).take k)++(cj was now).take i)).map vI)::af lr (rec 1)::af b3 (.cells (ai .u8 (x::m)) 104 (0,0))::((ms.map (fun D=>af D (.deferred (some [])))++F)++A)):=h
     refine Ld.xb (x:=s) h rfl (Nw.mk h fun b49 w h=> ?_)
     refine fV.put (l:= []) h (by rw [List.length_append,List.length_take];omega) fun w h=>qN.mk h.p1 fun w h=>hKt w ?_
     have e:four x++ep x ((x::m).take k)++(cj was now).take i++ [(cj was now).getD i 0]=four x++ep x ((x::m).take k)++(cj was now).take (i+1):=by
      rw [List.append_assoc,List.take_add_one,List.getElem?_eq_getElem hi,List.getD_eq_getElem?_getD,List.getElem?_eq_getElem hi];rfl
     rw [e] at h
     exact h
    ·intro D w h
     rw [List.take_of_length_le (Nat.le_refl _),List.append_assoc,←hwas,←sG,hk'] at h
     refine ⟨⟨k+1,by omega,by omega,?_,?_⟩,by first|omega|(dsimp only;omega)⟩
     ·rw [←hk',List.getLastD_concat]
     ·exact h.q2
    ·intro i D w hi h
     exact (Hp.Gy h).elim
   ·have hk2:k=258:=by omega
    subst hk2
    rw [List.take_of_length_le (by omega)] at h
    obtain ⟨s,_,h⟩:=h.ex
    have h:Hp E w (af b5 (.cells ⟨[rL s]⟩ 142 (0,0))::al 1 s ((ints (four x++ep x (x::m))).map vI)::af b3 (.cells (ai .u8 (x::m)) 104 (0,0))::(ms.map (fun D=>af D (.deferred (some [])))++F)):=h
    refine Ld.xb (x:=s) h rfl (St.xs h rfl rfl fun w h=> ?_)
    dsimp only [bN,aI] at h
    refine lV.mk (ms:=ms) (F:=af b5 (.cells ⟨[rL s]⟩ 142 (0,0))::al 1 s ((ints (four x++ep x (x::m))).map vI)::af b3 (.cells (ai .u8 (x::m)) 104 (0,0))::F) (h.perm (List.perm_append_comm_assoc [_,_,_] _ _)) fun w h=>Ld.xb (x:=s) h rfl (hK hok s w ?_)
    exact h.drop.dv
 ·rw [show gG l=false by simpa using hok]
  refine aa.t rfl (St.xs h rfl rfl fun w h=> ?_)
  dsimp only [bN,aI] at h
  exact Ld.xb (x:=⟨none,0,0⟩) h rfl (hbad (by simpa using hok) w h.tl)
theorem kx {l:List Nat} (hl:l.length=258) (hok:gG l=true):(eF l).length≤9000:=by
 have h15:=af.wC hok
 have hh:l.headD 0≤15:=by
  cases l with
  |nil=>simp at hl
  |cons x l=>exact h15 x List.mem_cons_self
 have:=qv l (l.headD 0) hh h15
 unfold eF
 rw [List.length_append,show (four (l.headD 0)).length=4 from rfl]
 omega
theorem I7 {l:List Nat} {b:Nat} {bits:List Nat} {K:Int→World→Prop} (h:Hp E w (Wr b bits::F)) (hl:l.length=258) (hok:gG l=true) (hbig:bits.length≤1000000)
  (hK: ∀w',Hp E w' (Wr b (bits++eF l)::F)→K 0 w'):Cl Tryz.prog [kI] iI ⟨[.pointer (some ⟨b,0,none⟩),.agg (ai .u8 l)]⟩ w K:=by
 refine vj.ok _ _ _ _ ?_
 have hsz:(ai .u8 l).size=258:=by rw [av,hl]
 refine Nw.mk h fun b4 w h=>Ld.xw h hsz (LV h hl (fun hf=>absurd hok (by rw [hf];decide)) fun _ s w h=>aa.f rfl (aa.f rfl ?_))
 have hlen:=(h.aV)
 simp only [ints,List.length_map,Nat.mul_one] at hlen
 have hb:=af.yF l
 have htl:=kx hl hok
 refine ⟨fun i w=> ∃k:Nat,i=(k:Int)∧k≤(eF l).length∧Hp E w (al 1 s ((ints (eF l)).map vI)::Wr b (bits++(eF l).take k)::F),fun i _=>(eF l).length - i.toNat,⟨0,rfl,by omega,by rw [List.take_zero,List.append_nil];exact h.no 1⟩,?_⟩
 rintro i w ⟨k,rfl,hk,h⟩
 refine aa.dm (fun hlt=> ?_) (fun hge=> ?_)
 ·have hlt:k<(eF l).length:=by omega
  have hx:=hb _ (List.getElem_mem hlt)
  refine an.rd (h.ah ad.own) (by omega) (by omega) fun q hi hq=> ?_
  refine Ld.sc (s:= .int .i64) ((eF l)[k]:Int) (by rw [hq];simp [Sc.enc,vI,ints]) ?_
  rw [eP (by omega)]
  refine Fo (width:=1) h.p1 (by decide) (by omega) (by omega) (by rw [List.length_append,List.length_take,aC];omega) fun w h=> ?_
  rw [ae (by omega)]
  refine ⟨⟨k+1,rfl,by omega,?_⟩,by first|omega|(dsimp only;omega)⟩
  have e:bits++(eF l).take k++bn 1 (eF l)[k]=bits++(eF l).take (k+1):=by
   rw [List.append_assoc,List.take_add_one,List.getElem?_eq_getElem hlt]
   congr 2
   generalize (eF l)[k]=x at hx
   have:x=0∨x=1:=by omega
   rcases this with rfl|rfl<;>rfl
  rw [e] at h
  exact h.p1
 ·have hk2:k=(eF l).length:=by omega
  subst hk2
  rw [List.take_of_length_le (Nat.le_refl _)] at h
  exact hK w h.drop
end
end Go.Proofs.YtgglghjnakclmaaGreat
namespace Go.Proofs.YtgglghjnakclmaaGreat
open Go Go.Vc Go.Srt Go.Inc Go.Sym Go.Tab Go.Hd Go.Bw Go.aS Go.af Go.Crc
section
set_option maxRecDepth 20000
theorem AQ {x:List Nat} (hn:x.length≤400000):(syms (aQ x.reverse)).length≤400001:=by
 have:=nV (aQ x.reverse)
 rw [ct,List.length_reverse] at this
 omega
theorem uH {x:List Nat} (hb: ∀y∈x,y<256): ∀y∈syms (aQ x.reverse),y≤257:=fun y hy=>by
 have:=Sym.xL (b:=aQ x.reverse) (sV fun y hy=>hb y (List.mem_reverse.1 hy)) y hy
 omega
theorem lE (l ss:List Nat):ic l (ints ss)=enc l ss:=by
 unfold ic ints
 rw [List.map_map]
 congr 1
 exact (List.map_congr_left fun x _=>by simp).trans (List.map_id _)
theorem yH {l ss:List Nat} (h: ∀s∈ss,IN l s) (hs: ∀s∈ss,s≤257):jz l (ints ss)=true:=by
 refine List.all_eq_true.2 fun z hz=> ?_
 obtain ⟨y,hy,rfl⟩:=List.mem_map.1 hz
 have:=h y hy
 have:=hs y hy
 exact ox.2 ⟨by omega,by omega,by simpa using (h y hy).2⟩
end
end Go.Proofs.YtgglghjnakclmaaGreat
namespace Go.af
open Go.Inc Go.Srt Go.Sym Go.aS Go.Tab Go.Hd Go.Crc Go.Bw Go.Proofs.YtgglghjnakclmaaGreat
theorem dk {x:List Nat} (h0:0<x.length) (hb: ∀y∈x,y<256) (hn:x.length≤65536):(qE (cw x) x).length≤200000:=by
 have hL:=qL h0 (by omega) hb
 have h1:=cP (n:=x.length) (by omega)
 have hidx:=wF (t:=x.reverse) (by rw [List.length_reverse];exact h0)
 rw [List.length_reverse] at hidx
 have h2:=cP (n:=ba x.reverse) (by omega)
 have h3:=kx hL.len hL.ok
 have h4:=kQ hL.v (ints (syms (aQ x.reverse)))
 rw [lE,cG] at h4
 have h5:=nV (aQ x.reverse)
 rw [ct,List.length_reverse] at h5
 unfold qE kO body
 rw [List.length_append,og,List.length_append,List.length_cons,List.length_append,List.length_append,show (fN (cT x)).length=4 from rfl]
 omega
end Go.af
namespace Go.Proofs.YtgglghjnakclmaaGreat
open Go Go.Vc
set_option maxRecDepth 100000
theorem z5.ok (a:Sl) (R:(Array Value)→Int→World→Prop) w (h:
 Nw 215 ⟨List.replicate 258 (ni 0)⟩ w fun c b=>
 rl Pg 215 [] fun d=>
 Cl Pg [(.arr 258),kI] kq ⟨[(.agg d),(ag a)]⟩ b fun f (g:Int) e=>
 ax 258 ⟨c,0,none⟩ f e fun h=>
 Ld (.arr 258) ⟨c,0,none⟩ h fun i=>
 R i g h):Cl Pg [(.arr 258),kI] k5 ⟨[(ag a)]⟩ w R:=co Tryz.f146 [] h
theorem zd.ok (a:(Array Value)) (b:Sl) (R:(Array Value)→Int→World→Prop) w (h:
 Nw 215 a w fun d c=>
 Nw 215 ⟨List.replicate 258 (ni 0)⟩ c fun f e=>
 Ld (.arr 258) ⟨d,0,none⟩ e fun g=>
 Cl Pg [kB] iP ⟨[(.agg g)]⟩ e fun (i:Bool) h=>
 aa (!i)
 (Ld (.arr 258) ⟨d,0,none⟩ h fun j=>
 ax 258 ⟨f,0,none⟩ j h fun k=>
 Ld (.arr 258) ⟨f,0,none⟩ k fun l=>
 R l 2 k)
 (Ld (.arr 258) ⟨d,0,none⟩ h fun m=>
 Nw 215 ⟨List.replicate 258 (ni 0)⟩ h fun o n=>
 ax 258 ⟨o,0,none⟩ m n fun p=>
 c8 0 p fun q r (s:Int) t=>
 aa (decide (s<(b.len:Int)))
 (an b s 1 fun u=>
 Ld kI u t fun (v:Int)=>
 Cl Pg [kB] kY ⟨[(ni v)]⟩ t fun (y:Bool) x=>
 aa (!y)
 (Ld (.arr 258) ⟨o,0,none⟩ x fun z=>
 ax 258 ⟨f,0,none⟩ z x fun a1=>
 Ld (.arr 258) ⟨f,0,none⟩ a1 fun b1=>
 R b1 2 a1)
 (aw ⟨d,0,none⟩ 258 v 1 fun c1=>
 Ld kI c1 x fun (d1:Int)=>
 aa (d1==2147483647)
 (Ld (.arr 258) ⟨o,0,none⟩ x fun e1=>
 ax 258 ⟨f,0,none⟩ e1 x fun f1=>
 Ld (.arr 258) ⟨f,0,none⟩ f1 fun g1=>
 R g1 2 f1)
 (aw ⟨d,0,none⟩ 258 v 1 fun h1=>
 Ld kI h1 x fun (i1:Int)=>
 aw ⟨d,0,none⟩ 258 v 1 fun j1=>
 St j1 (ni (i64 (i1+1))) x fun k1=>
 q (i64 (s+1)) k1∧r (i64 (s+1)) k1<r s t)))
 (Ld (.arr 258) ⟨d,0,none⟩ t fun l1=>
 ax 258 ⟨f,0,none⟩ l1 t fun m1=>
 Ld (.arr 258) ⟨f,0,none⟩ m1 fun n1=>
 R n1 0 m1))):Cl Pg [(.arr 258),kI] kq ⟨[(.agg a),(ag b)]⟩ w R:=co Tryz.f205 [(12,[(16,kI)])] h
theorem vp.ok (a:(Array Value)) (R:Bool→World→Prop) w (h:
 Nw 215 a w fun c b=>
 Ld (.arr 258) ⟨c,0,none⟩ b fun d=>
 c8 0 b fun e f (g:Int) h=>
 aa (decide (g<258))
 (ie (.int .i64) d 258 g fun (i:Int)=>
 aa (decide (i<0))
 (R false h)
 (aa (decide (i>2147483647))
 (R false h)
 (e (i64 (g+1)) h∧f (i64 (g+1)) h<f g h)))
 (R true h)):Cl Pg [kB] iP ⟨[(.agg a)]⟩ w R:=co Tryz.f266 [(5,[(6,kI)])] h
theorem AJ.ok (a:Int) (R:Bool→World→Prop) w (h:
 aa (decide (a≥0))
 (R (decide (a<258)) w)
 (R false w)):Cl Pg [kB] kY ⟨[(ni a)]⟩ w R:=co Tryz.f267 [] h
end Go.Proofs.YtgglghjnakclmaaGreat
set_option maxRecDepth 20000
namespace Go.Proofs.YtgglghjnakclmaaGreat
open Go Go.Vc Go.Hs
section
variable {E w:World} {F:List HP}
set_option maxRecDepth 20000 in
theorem HK {t:List Int} {K:Bool→World→Prop} (h:Hp E w F) (ht:t.length=258) (hK: ∀w',Hp E w' F→K (aR t) w'):Cl Tryz.prog [kB] iP ⟨[.agg (Vc.aT t)]⟩ w K:=by
 refine vp.ok _ _ _ ?_
 have hT:(Vc.aT t).size=258:=by rw [Vc.bE,ht]
 refine Nw.mk h fun b3 w1 h1=>Ld.arr h1 hT ?_
 refine ⟨fun i w'=> ∃k:Nat,i=(k:Int)∧k≤258∧(∀j,j<k→0≤t.getD j 0∧t.getD j 0≤2147483647)∧Hp E w' F,fun i _=>258 - i.toNat,⟨0,rfl,by omega,fun j hj=>by omega,h1.drop⟩,?_⟩
 rintro i w2 ⟨k,rfl,hk,hg,hh⟩
 have bad: ∀hlt:k<258,¬(0≤t.getD k 0∧t.getD k 0≤2147483647)→K false w2:=fun hlt hb=>by
  have:=hK w2 hh
  rwa [zT (by omega) hb] at this
 refine aa.mk (fun hlt=> ?_) (fun hge=> ?_)
 ·have hlt:k<258:=by have:=of_decide_eq_true hlt;omega
  refine ie.aT rfl ht hlt ?_
  refine aa.mk (fun h0=>bad hlt (by have:=of_decide_eq_true h0;omega)) (fun h0=>aa.mk (fun h9=>bad hlt (by have:=of_decide_eq_true h9;omega)) (fun h9=> ?_))
  have h0:=of_decide_eq_false h0
  have h9:=of_decide_eq_false h9
  rw [ae (by omega)]
  refine ⟨⟨k+1,by omega,by omega,fun j hj=> ?_,hh⟩,by dsimp only;omega⟩
  by_cases e:j=k
  ·subst e;omega
  ·exact hg j (by omega)
 ·have hge:k=258:=by have:=of_decide_eq_false hge;omega
  subst hge
  have:=hK w2 hh
  rwa [eU.2 fun i hi=>hg i (by omega)] at this
theorem L7 {z:Int} {K:Bool→World→Prop} (hK:K (j9 z) w):Cl Tryz.prog [kB] kY ⟨[.int .i64 z]⟩ w K:=by
 refine AJ.ok _ _ _ ?_
 unfold j9 at hK
 refine aa.mk (fun h=> ?_) (fun h=> ?_)
 ·rw [show decide (0≤z)=true from decide_eq_true (of_decide_eq_true h)] at hK;exact hK
 ·rw [show decide (0≤z)=false from decide_eq_false (of_decide_eq_false h)] at hK;exact hK
set_option maxRecDepth 20000 in
theorem Lf {t zs:List Int} {s:Sl} {K:Array Value→Int→World→Prop} (h:Hp E w F) (ht:t.length=258) (hs:ad F (aD 1 s (zs.map vI))) (hn:zs.length≤bO)
  (hK: ∀w',Hp E w' F→K (Vc.aT ((cM t zs).getD t)) (IB (cM t zs)) w'):Cl Tryz.prog [.arr 258,kI] kq ⟨[.agg (Vc.aT t),.slice s.base s.len s.cap]⟩ w K:=by
 refine zd.ok _ _ _ _ ?_
 rw [Vc.tf]
 have hz:(Vc.aT (List.replicate 258 0)).size=258:=by rw [Vc.bE];exact List.length_replicate
 have hT: ∀{u:List Int},u.length=258→(Vc.aT u).size=258:=fun hu=>by rw [Vc.bE,hu]
 have hsl:=(h.ah hs).1
 simp only [List.length_map,Nat.mul_one] at hsl
 rw [aC] at hn
 have hKn:cM t zs=none→∀w',Hp E w' F→K (Vc.aT t) 2 w':=fun e w' h'=>by have:=hK w' h';rwa [e] at this
 refine Nw.mk h fun b4 w1 h1=>Nw.mk h1 fun b6 w2 h2=>Ld.arr h2.p1 (hT ht) (HK h2 ht fun w3 h3=> ?_)
 refine aa.mk (fun hv=> ?_) (fun hv=> ?_)
 ·have hv:aR t=false:=by simpa using hv
  exact Ld.arr h3.p1 (hT ht) (ax.aH h3 hz (hT ht) Vc.cJ fun w4 h4=>Ld.arr h4 (hT ht) (hKn (r8 hv) w4 h4.drop.drop))
 have hv:aR t=true:=by simpa using hv
 refine Ld.arr h3.p1 (hT ht) (Nw.mk h3 fun b15 w4 h4=>ax.aH h4 hz (hT ht) Vc.cJ fun w5 h5=> ?_)
 refine ⟨fun i w'=> ∃k:Nat,i=(k:Int)∧k≤zs.length∧(zs.take k).all j9=true∧aR (dQ t (zs.take k))=true∧Hp E w' (af b15 (.cells (Vc.aT t) 215 (0,0))::af b6 (.cells (Vc.aT (List.replicate 258 0)) 215 (0,0))::af b4 (.cells (Vc.aT (dQ t (zs.take k))) 215 (0,0))::F),fun i _=>zs.length - i.toNat,⟨0,rfl,by omega,rfl,hv,h5⟩,?_⟩
 rintro i w6 ⟨k,rfl,hk,hg,hvk,hh⟩
 have bad:cM t zs=none→Ld (.arr 258) ⟨b15,0,none⟩ w6 fun x30=>ax 258 ⟨b6,0,none⟩ x30 w6 fun w31=>Ld (.arr 258) ⟨b6,0,none⟩ w31 fun res=>K res 2 w31:=fun e=>
  Ld.arr hh (hT ht) (ax.aH hh.p1 hz (hT ht) Vc.cJ fun w7 h7=>Ld.arr h7 (hT ht) (hKn e w7 h7.drop.drop.drop))
 have hcl:(dQ t (zs.take k)).length=258:=by rw [kZ,ht]
 refine aa.mk (fun hlt=> ?_) (fun hge=> ?_)
 ·have hlt:k<zs.length:=by have:=of_decide_eq_true hlt;omega
  refine an.nI (hh.ah (ad.cons (ad.cons (ad.cons hs)))) rfl hlt (L7 ?_)
  refine aa.mk (fun hb=>bad (tZ hlt (by simpa using hb))) (fun hb=> ?_)
  have hb:j9 (zs.getD k 0)=true:=by simpa using hb
  have hr:=iw.1 hb
  have hvz:=eU.1 hvk (zs.getD k 0).toNat (by omega)
  refine aw.aT hh.p2 (j:=(zs.getD k 0).toNat) (by omega) hcl (by omega) ?_
  refine aa.mk (fun hm=>bad (FH ht hlt hg hb (by have:=beq_iff_eq.1 hm;omega))) (fun hm=> ?_)
  have hm: ¬(dQ t (zs.take k)).getD (zs.getD k 0).toNat 0=2147483647:=beq_eq_false_iff_ne.1 hm
  refine aw.aT hh.p2 (j:=(zs.getD k 0).toNat) (by omega) hcl (by omega) ?_
  rw [ae (x:=(dQ t (zs.take k)).getD (zs.getD k 0).toNat 0+1) (by omega),ae (by omega)]
  refine aw.IP hh.p2 (j:=(zs.getD k 0).toNat) (by omega) hcl (by omega) fun w7 h7=>⟨⟨k+1,by omega,by omega,?_,?_,?_⟩,by dsimp only;omega⟩
  ·rw [kg hlt,List.all_append,hg,List.all_cons,hb];rfl
  ·rw [kg hlt,ui]
   refine eU.2 fun i hi=> ?_
   have:=eU.1 hvk i (by rw [xD] at hi;exact hi)
   rw [CN hb hcl]
   split
   ·rename_i e
    rw [e,Int.toNat_natCast] at hm hvz
    omega
   ·omega
  ·rw [kg hlt,ui]
   exact h7.q2
 ·have hge:k=zs.length:=by have:=of_decide_eq_false hge;omega
  subst hge
  rw [List.take_length] at hg hvk hh hcl
  refine Ld.arr hh.p2 (hT hcl) (ax.aH hh.p1 hz (hT hcl) Vc.cJ fun w7 h7=>Ld.arr h7 (hT hcl) ?_)
  have:=hK w7 h7.drop.drop.drop
  rwa [qU hv hg hvk] at this
def cn:List Int:=List.replicate 258 0
theorem gn:cn.length=258:=List.length_replicate
theorem AX {K:Array Value→Prop} (hK:K (Vc.aT cn)):rl Tryz.prog 215 [] K:=⟨Vc.aT cn,by kernel_rfl,hK⟩
set_option maxRecDepth 20000 in
theorem L0 {zs:List Int} {s:Sl} {K:Array Value→Int→World→Prop} (h:Hp E w F) (hs:ad F (aD 1 s (zs.map vI))) (hn:zs.length≤bO)
  (hK: ∀w',Hp E w' F→K (Vc.aT ((cM cn zs).getD cn)) (IB (cM cn zs)) w'):Cl Tryz.prog [.arr 258,kI] k5 ⟨[.slice s.base s.len s.cap]⟩ w K:=by
 refine z5.ok _ _ _ ?_
 rw [Vc.tf]
 have hl:((cM cn zs).getD cn).length=258:=by
  cases ha:cM cn zs with
  |none=>exact gn
  |some u=>
   obtain ⟨_,_,rfl,_⟩:=yI ha
   show (dQ cn zs).length=258
   rw [kZ,gn]
 refine Nw.mk h fun b3 w1 h1=>AX (Lf h1 gn (ad.cons hs) hn fun w2 h2=>ax.aH h2 (by rw [Vc.bE];exact List.length_replicate) (by rw [Vc.bE,hl]) Vc.cJ fun w3 h3=>Ld.arr h3 (by rw [Vc.bE,hl]) (hK w3 h3.drop))
end
end Go.Proofs.YtgglghjnakclmaaGreat
namespace Go.Proofs.YtgglghjnakclmaaGreat
open Go Go.Vc Go.Srt Go.Inc Go.Sym Go.Tab Go.Hd Go.Bw Go.aS Go.af Go.Crc Go.Pol
set_option maxRecDepth 20000
section
variable {E w:World} {F:List HP} {b:Nat} {C:EC} {sp:Sl} {f:Nat→Nat}
theorem qg:oq Tryz.prog (α:=Int) 5 (fun n=>Value.int .u8 n) where
 und:=⟨_,rfl,fun a b=> .inr (by
  show some _=some _
  congr 1)⟩
 check:=fun e a w=>by
  have: ∀(e:Bool) (c:Int) (w:World),(Instr.checkKey e 10000 5 (.int .u8 c)).run Tryz.prog w= .ok () w:=fun e c w=>by kernel_rfl
  exact this e a w
 eq:=fun a b w=>by
  have key: ∀c d:Int,re Tryz.prog 8 5 (.int .u8 c) (.int .u8 d) (fun r=>r=(c==d)):=fun c d=>by
   have e:re Tryz.prog 8 5 (.int .u8 c) (.int .u8 d) (fun r=>r=(c==d))=((c==d)=(c==d)):=by kernel_rfl
   rw [e]
  obtain ⟨r,h1,h2⟩:=lu 8 _ _ _ _ (key a b)
  have:=h1 10000 (by decide) w
  rw [show decide (a=b)=(a==b) from rfl,←h2];exact this
 same:=fun a=>by simp [Instr.sameBits]
abbrev LM:TypeId:=210
theorem vY:Tryz.prog.underlying LM=some (.map 5 209):=by kernel_rfl
theorem JX (w:World):(zeroValue 209).run Tryz.prog w= .ok .nilFunc w:=by kernel_rfl
abbrev sf (b:Nat):Value:= .func (.func eI) ⟨[pE b]⟩ ⟨[]⟩
abbrev z9 (b:Nat):Value:= .func (.func ff) ⟨[pE b]⟩ ⟨[]⟩
theorem j7.emp (ok:j7 C):j7 {C with held:= []}:=⟨ok.n1,ok.n2,ok.m1,ok.m3,ok.live,Nat.zero_le _,fun _ h=>(by cases h),ok.ab⟩
theorem L9 {mode:Nat} {K:Int×Int×Unit→Int→World→Prop} (hm:C.mode=mode) (ok:j7 C) (h1:1≤C.held.length) (h:Hp E w (fM b C sp::gH C sp::Ar C.A f::F))
  (hK: ∀(p:Nat) g w',p+C.held.length≤C.A.live→bc g p C.held.length=aQ (bc f 0 C.held.length)→Hp E w' (fM b C sp::gH C sp::Ar C.A g::F)→K ((p:Int),(C.held.length:Int),()) (ba (bc f 0 C.held.length):Int) w'):
  de Tryz.prog (if mode=3 then z9 b else sf b) [.st [.int .i64,.int .i64],kI] [] w K:=by
 have hlen:=ok.len
 by_cases h3:mode=3
 ·rw [if_pos h3]
  refine de.mk (by kernel_rfl) (J3 ok h1 (hm.trans h3) h fun g w hg h=>hK C.n g w ?_ hg h)
  rw [←ok.live,hm,h3]
  unfold bH layout
  rw [if_pos rfl,if_pos rfl]
  simp
  omega
 ·rw [if_neg h3]
  refine de.mk (by kernel_rfl) (HJ ok h1 h fun g w hg h=>hK 0 g w ?_ hg h)
  have:=ok.zg
  omega
theorem Il {K:Sl→World→Prop} (ok:j7 C) (h1:1≤C.held.length) (h:Hp E w (fM b C sp::gH C sp::Ar C.A f::F)) (hf:bc f 0 C.held.length=C.held)
  (hK: ∀s g w',Hp E w' (al 1 s ((qE (cw C.held) C.held).map vB)::fM b {C with held:= []} sp::gH C sp::Ar C.A g::F)→K s w'):
  Cl Tryz.prog [kS] du ⟨[pE b]⟩ w K:=by
 refine rA.ok _ _ _ ?_
 have hn1:=ok.n1
 have hn2:=ok.n2
 have hlen:=ok.len
 have hm1:=ok.m1
 have hm3:=ok.m3
 refine run_makeMap (ke:=fun n:Int=>Value.int .u8 n) (ve:=fun v:Value=>v) h fun m w h=> ?_
 refine je (ke:=fun n:Int=>Value.int .u8 n) (ve:=fun v:Value=>v) qg vY (a:=1) (b:=sf b) h fun w h=> ?_
 refine je (ke:=fun n:Int=>Value.int .u8 n) (ve:=fun v:Value=>v) qg vY (a:=2) (b:=sf b) h fun w h=> ?_
 refine je (ke:=fun n:Int=>Value.int .u8 n) (ve:=fun v:Value=>v) qg vY (a:=3) (b:=z9 b) h fun w h=> ?_
 have hl:gC (3:Int) (z9 b) (gC 2 (sf b) (gC 1 (sf b) []))= [(1,sf b),(2,sf b),(3,z9 b)]:=rfl
 rw [hl] at h
 refine J6 ok ((h.at 3).at 3|>.at 3) fun g w hg h=> ?_
 rw [hf] at hg
 (try simp only [aq,aj,ak,Nat.zero_add,Nat.add_zero,Nat.reduceAdd,Bool.not_true,Bool.not_false,az,ay,Option.isNone])
 refine Ld.xb (b:=b) h rfl ?_
 obtain ⟨q,hq,hq2⟩: ∃q,findAt (C.mode:Int) [((1:Int),sf b),(2,sf b),(3,z9 b)] 0=some q∧q.2=(if C.mode=3 then z9 b else sf b):=by
  have:C.mode=1∨C.mode=2∨C.mode=3:=by omega
  rcases this with e|e|e<;>rw [e]<;>exact ⟨_,rfl,rfl⟩
 refine au.found (ke:=fun n:Int=>Value.int .u8 n) (ve:=fun v:Value=>v) qg vY (a:=(C.mode:Int)) (x:=(if C.mode=3 then z9 b else sf b)) JX (h.at 3) hq hq2 ?_
 refine L9 rfl ok h1 h fun p g2 w hp hg2 h=> ?_
 rw [hg] at hg2⊢
 have hhl:=ok.hb
 have hbl: ∀y∈aQ C.held.reverse,y<256:=sV fun y hy=>hhl y (List.mem_reverse.1 hy)
 have hcrc:cT C.held<4294967296:=n0 hhl
 have hidx:=wF (t:=C.held.reverse) (by rw [List.length_reverse];exact h1)
 rw [List.length_reverse] at hidx
 have hL:=qL h1 (by omega) hhl
 have hls:(ai .u8 (cw C.held)).size=258:=by rw [av];exact hL.len
 have hlc:(ai .u8 (cw C.held)).toList.all aF=true:=List.all_eq_true.2 cd
 have hsl:=nV (aQ C.held.reverse)
 rw [ct,List.length_reverse] at hsl
 have h257:=uH hhl
 generalize hss:syms (aQ C.held.reverse)=ss at hsl h257
 have hct:=CB h257
 have hall:(ints ss).all Hs.j9=true:=by
  refine List.all_eq_true.2 fun z hz=> ?_
  obtain ⟨y,hy,rfl⟩:=List.mem_map.1 hz
  have:=h257 y hy
  exact Hs.iw.2 (by omega)
 have hmx:=sX (ss:=ss) (by omega)
 have hval:Hs.aR (ints (gW ss))=true:=iD hmx
 have hadd:Hs.cM (List.replicate 258 0) (ints ss)=some (ints (gW ss)):=by
  rw [←hct]
  exact Hs.qU (by decide) hall (by rw [hct];exact hval)
 have hsz:(aT (ints (gW ss))).size=258:=by rw [bE,cG,jQ]
 have hsc:(aT (ints (gW ss))).toList.all aF=true:=List.all_eq_true.2 Vc.cJ
 refine Nw.mk h fun b16 w h=> ?_
 (with_reducible refine bl.xw h rfl rfl (fun w h=> ?_))
 have h:=h.drew (n:=w.drawn+1)
 (try simp only [aq,aj,ak,Nat.zero_add,Nat.add_zero,Nat.reduceAdd,Bool.not_true,Bool.not_false,az,ay,Option.isNone])
 refine ⟨di b _ _ (0,0),h.hb,aG.xb (fun _ h=>h) rfl (aG.xb (fun _ h=>h) rfl (aG.xb (fun _ h=>h) rfl ?_))⟩
 refine EF h (by omega) (by omega) hcrc (fun _ _ _ _ _ _ s39 w h=>⟨h.hb,?_⟩) (fun hno=>absurd ⟨by omega,by omega,by omega,by omega,hidx.1,hidx.2⟩ hno)
 refine aJ.mk h fun w h=> ?_
 (try simp only [aq,aj,ak,Nat.zero_add,Nat.add_zero,Nat.reduceAdd,Bool.not_true,Bool.not_false,az,ay,Option.isNone])
 refine Ld.xb (b:=b) h rfl (Ld.xt (b:=b16) h rfl ?_)
 refine H0 (p:=p) (q:=C.held.length) (h.at 4) hp fun s55 w h=> ?_
 rw [hg2] at h
 refine J2 h ad.own hbl (by rw [ct,List.length_reverse];omega) fun s57 w h=> ?_
 rw [hss] at h
 refine L0 h ad.own (by rw [cG,aC];omega) fun w h=> ?_
 rw [show cn=List.replicate 258 0 from rfl,hadd]
 refine Nw.mk h fun b62 w h=>ax.q (b:=b62) h (by simp) hsz hsc fun w h=>Ld.xw (b:=b62) h hsz ?_
 refine G6 (vH (by omega)) h fun w h=> ?_
 have hly:gg (gW ss) (fF (gW ss)) 15=cw C.held:=by rw [←hss];rfl
 rw [hly]
 refine Nw.mk h fun b69 w h=>ax.q (b:=b69) h (by simp) hls hlc fun w h=> ?_
 refine LD h fun bw w h=>Ld.xw (b:=b69) h hls ?_
 refine I7 h hL.len hL.ok (by simp) fun w h=>Ld.xw (b:=b69) h hls ?_
 refine Lo h hL.len (ad.at 2 ad.own) (by rw [cG];omega) ?_ (fun hno=>absurd ⟨hL.v,yH (hss▸hL.good) h257⟩ hno) fun _ _ w h=> ?_
 ·have:=kx hL.len hL.ok
  rw [List.nil_append];omega
 rw [List.nil_append,lE] at h
 refine St.xs (b:=b) h rfl rfl fun w h=>St.xs (b:=b) h rfl rfl fun w h=> ?_
 dsimp only [bN,aI] at h
 refine G0 h fun s84 w h=> ?_
 have hpl:=og (eF (cw C.held)++enc (cw C.held) ss)
 have hel:=kQ hL.v (ints ss)
 rw [lE,cG] at hel
 have htl:=kx hL.len hL.ok
 have hml:(kO C.held.length (ba C.held.reverse) (cT C.held)).length≤20:=by
  have h1:=cP (n:=C.held.length) (by omega)
  have h2:=cP (n:=ba C.held.reverse) (by omega)
  unfold kO
  simp [fN]
  omega
 rw [List.length_append] at hpl
 have h:=h.at 7
 have l1:=(h.at 1).aV
 have l2:=h.aV
 rw [List.length_map,Nat.mul_one] at l1 l2
 refine aK (s:=s39) (n:=s84.len) me (by decide) (.inl ⟨5,by kernel_rfl⟩) h (.inl ⟨s84.base,s84.len,s84.cap,rfl,rfl,h.ah (ad.at 1 ad.own)⟩) (by rw [List.length_map,l1,Nat.mul_one]) ee (by omega) (by omega) fun s86 w h _=> ?_
 have e:(kO C.held.length (ba C.held.reverse) (cT C.held)).map vB++(pack (eF (cw C.held)++enc (cw C.held) ss)).map vB=(qE (cw C.held) C.held).map vB:=by
  unfold qE body;rw [List.map_append,hss]
 rw [e] at h
 have h:=(((((((((h.no 1).no 1).no 1).no 1).no 1).no 1).no 2).no 4))
 have h:=((h.at 3).at 3).at 2
 have hk:=hK s86 g2 w
 dsimp only [fM] at hk
 rw [show cT []=0 by decide] at hk
 exact hk h
end
end Go.Proofs.YtgglghjnakclmaaGreat
set_option maxRecDepth 20000
namespace Go.Stm
def cS (n:Nat) (x:List Nat):List (List Nat)×List Nat:=if _h:n=0∨x.length<n then ([],x) else (x.take n::(cS n (x.drop n)).1,(cS n (x.drop n)).2)
termination_by x.length
decreasing_by
 all_goals
  have h1:n≠0:=fun e=>_h (.inl e)
  have h2: ¬x.length<n:=fun e=>_h (.inr e)
  rw [List.length_drop];omega
theorem cV {n:Nat} {x:List Nat} (h:x.length<n):cS n x=([],x):=by rw [cS,dif_pos (.inr h)]
theorem fK {n:Nat} {x:List Nat} (hn:0<n) (h:n≤x.length):cS n x=(x.take n::(cS n (x.drop n)).1,(cS n (x.drop n)).2):=by rw [cS,dif_neg (by omega)]
theorem CX {n:Nat} (hn:0<n) (x:List Nat):(cS n x).2.length<n:=by
 induction hk:x.length using Nat.strongRecOn generalizing x with
 |ind k ih=>
  rcases Nat.lt_or_ge x.length n with h|h
  ·rw [cV h];exact h
  ·rw [fK hn h]
   exact ih (x.drop n).length (by rw [List.length_drop];omega) (x.drop n) rfl
theorem qh {n:Nat} (hn:0<n) (x:List Nat):(∀y∈(cS n x).1,y.length=n∧∀c∈y,c∈x)∧∀c∈(cS n x).2,c∈x:=by
 induction hk:x.length using Nat.strongRecOn generalizing x with
 |ind k ih=>
  rcases Nat.lt_or_ge x.length n with h|h
  ·rw [cV h];exact ⟨fun y hy=>(by cases hy),fun c hc=>hc⟩
  ·rw [fK hn h]
   obtain ⟨h1,h2⟩:=ih (x.drop n).length (by rw [List.length_drop];omega) (x.drop n) rfl
   refine ⟨fun y hy=> ?_,fun c hc=>List.mem_of_mem_drop (h2 c hc)⟩
   rcases List.mem_cons.1 hy with e|e
   ·subst e
    exact ⟨by rw [List.length_take];omega,fun c hc=>List.mem_of_mem_take hc⟩
   ·exact ⟨(h1 y e).1,fun c hc=>List.mem_of_mem_drop ((h1 y e).2 c hc)⟩
theorem zX {n:Nat} (hn:0<n) (x z:List Nat):cS n (x++z)=((cS n x).1++(cS n ((cS n x).2++z)).1,(cS n ((cS n x).2++z)).2):=by
 induction hk:x.length using Nat.strongRecOn generalizing x with
 |ind k ih=>
  rcases Nat.lt_or_ge x.length n with h|h
  ·rw [cV h];rfl
  ·rw [fK hn h,fK (x:=x++z) hn (by rw [List.length_append];omega),List.take_append_of_le_length h,List.drop_append_of_le_length h,ih (x.drop n).length (by rw [List.length_drop];omega) (x.drop n) rfl]
   rfl
theorem HT {n:Nat} (_hn:0<n) {p:List Nat} (hp:p.length<n) (c:Nat):cS n (p++ [c])=if p.length+1=n then ([p++ [c]],[]) else ([],p++ [c]):=by
 split
 ·rename_i h
  rw [fK (by omega) (by rw [List.length_append,List.length_singleton];omega),List.take_of_length_le (by rw [List.length_append,List.length_singleton];omega),List.drop_of_length_le (by rw [List.length_append,List.length_singleton];omega),cV (by simp;omega)]
 ·exact cV (by rw [List.length_append,List.length_singleton];omega)
end Go.Stm
namespace Go.Crc
theorem CC (a b:List Nat):feed (cT a^^^4294967295) b^^^4294967295=cT (a++b):=by
 unfold cT
 rw [uh,Nat.xor_assoc,Nat.xor_self,Nat.xor_zero]
end Go.Crc
namespace Go.Proofs.YtgglghjnakclmaaGreat
open Go Go.Vc Go.Srt Go.Inc Go.Hd Go.aS Go.af Go.Crc Go.Pol Go.Stm
set_option maxRecDepth 20000
structure rO (C:EC) (f:Nat→Nat):Prop where
 ok:j7 C
 lt:C.held.length<C.n
 row:bc f 0 C.held.length=C.held
 peak:C.A.peak=C.A.live
def bZ (b:Nat) (C:EC):HP:=A4 (fun p:Sl×(Nat→Nat)=>rO C p.2) fun p=> [fM b C p.1,gH C p.1,Ar C.A p.2]
def EC.hd (C:EC):List Nat:=if C.begun then [] else fU C.n
def EC.lI (C:EC):EC:={C with begun:=true}
noncomputable abbrev c6 (y:List Nat):List Nat:=qE (cw y) y
def EC.wr (C:EC) (b:List Nat):EC:={C with held:=(cS C.n (C.held++b)).2,all:=C.all++b,begun:=true}
noncomputable def EC.iE (C:EC) (b:List Nat):List Nat:=C.hd++(cS C.n (C.held++b)).1.flatMap c6
def EC.fl (C:EC):EC:={C with held:= [],begun:=true}
noncomputable def EC.hC (C:EC):List Nat:=C.hd++if C.held= [] then [] else c6 C.held
def EC.cl (C:EC):EC:={C with held:= [],begun:=true,closed:=true}
noncomputable def EC.vL (C:EC):List Nat:=C.hC++nh (cT C.all)
section
variable {E w:World} {F:List HP} {b:Nat} {C:EC} {sp:Sl} {f:Nat→Nat}
theorem qq (h:Hp E w (bZ b C::F)): ∃sp f,rO C f∧Hp E w (fM b C sp::gH C sp::Ar C.A f::F):=by
 obtain ⟨p,hx,h⟩:=h.ex
 exact ⟨p.1,p.2,hx,h⟩
theorem bZ.shut (ok:rO C f) (h:Hp E w (fM b C sp::gH C sp::Ar C.A f::F)):Hp E w (bZ b C::F):=Hp.zQ (sp,f) ok h
theorem zM {X A B C:HP} (h:Hp E w (X::A::B::C::F)):Hp E w (A::B::C::X::F):=((h.at 3).at 3).at 3
theorem bZ.mK {X:HP} (ok:rO C f) (h:Hp E w (X::fM b C sp::gH C sp::Ar C.A f::F)):Hp E w (X::bZ b C::F):=(bZ.shut ok (zM h)).at 1
theorem pW (C:EC) (h:C.n≤65536):C.hd.length≤7:=by
 unfold EC.hd
 split
 ·simp
 ·have:=cP h
  simp [fU];omega
theorem Cj {K:Sl→Bool→World→Prop} (ok:j7 C) (hcl:C.closed=false) (h:Hp E w (fM b C sp::F)) (hK: ∀s w',Hp E w' (al 1 s (C.hd.map vB)::fM b C.lI sp::F)→K s true w'):
  Cl Tryz.prog [kS,kB] cr ⟨[pE b]⟩ w K:=by
 refine fB.ok _ _ _ ?_
 (try simp only [aq,aj,ak,Nat.zero_add,Nat.add_zero,Nat.reduceAdd,Bool.not_true,Bool.not_false,az,ay,Option.isNone])
 refine Ld.xb (b:=b) (x:=C.closed) h rfl (aa.f hcl (Ld.xb (b:=b) (x:=C.begun) h rfl ?_))
 by_cases hb:C.begun=true
 ·refine aa.f (by rw [hb];rfl) (hK _ w ?_)
  have e:C.lI=C:=by unfold EC.lI;rw [←hb]
  rw [e,show C.hd= [] by unfold EC.hd;rw [if_pos hb]]
  exact h.a9 1
 ·have hn2:=ok.n2
  have hn1:=ok.n1
  refine aa.t (by simpa using hb) (Ld.xb (b:=b) h rfl (K0 h hn2 hn1 fun s w h=> ?_))
  refine St.xs (b:=b) h rfl rfl fun w h=> ?_
  dsimp only [bN,aI] at h
  refine hK s w ?_
  rw [show C.hd=fU C.n by unfold EC.hd;rw [if_neg hb]]
  exact h
theorem xW {K:Sl→Bool→World→Prop} (hcl:C.closed=true) (h:Hp E w (fM b C sp::F)) (hK:Hp E w (fM b C sp::F)→K ⟨none,0,0⟩ false w):
  Cl Tryz.prog [kS,kB] cr ⟨[pE b]⟩ w K:=by
 refine fB.ok _ _ _ ?_
 (try simp only [aq,aj,ak,Nat.zero_add,Nat.add_zero,Nat.reduceAdd,Bool.not_true,Bool.not_false,az,ay,Option.isNone])
 exact Ld.xb (b:=b) (x:=C.closed) h rfl (aa.t hcl (hK h))
theorem xB {K:Int→World→Prop} (h:Hp E w (bZ b C::F)) (hK:K (C.held.length:Int) w):Cl Tryz.prog [kI] bB ⟨[pE b]⟩ w K:=by
 obtain ⟨sp,f,ok,h⟩:=(qq h)
 refine kd.ok _ _ _ ?_
 (try simp only [aq,aj,ak,Nat.zero_add,Nat.add_zero,Nat.reduceAdd,Bool.not_true,Bool.not_false,az,ay,Option.isNone])
 exact Ld.xb (b:=b) h rfl hK
theorem sS {K:Int→World→Prop} (h:Hp E w (bZ b C::F)) (hK:K (C.mode:Int) w):Cl Tryz.prog [ar .u8] bm ⟨[pE b]⟩ w K:=by
 obtain ⟨sp,f,ok,h⟩:=(qq h)
 refine kr.ok _ _ _ ?_
 (try simp only [aq,aj,ak,Nat.zero_add,Nat.add_zero,Nat.reduceAdd,Bool.not_true,Bool.not_false,az,ay,Option.isNone])
 exact Ld.xb (b:=b) h rfl hK
theorem wV {K:Int→World→Prop} (h:Hp E w (bZ b C::F)) (hK:K (bH C.n 1 C.mode:Int) w):Cl Tryz.prog [kI] bC ⟨[pE b]⟩ w K:=by
 obtain ⟨sp,f,ok,h⟩:=(qq h)
 refine kc.ok _ _ _ ?_
 (try simp only [aq,aj,ak,Nat.zero_add,Nat.add_zero,Nat.reduceAdd,Bool.not_true,Bool.not_false,az,ay,Option.isNone])
 refine Ld.xb (b:=b) h rfl (GI ((h.at 1).at 2) fun _=> ?_)
 rw [ok.peak,←ok.ok.live]
 exact hK
theorem rO.flush (ok:rO C f) (c:Bool) (g:Nat→Nat):rO {C with held:= [],begun:=true,closed:=c} g:=⟨⟨ok.ok.n1,ok.ok.n2,ok.ok.m1,ok.ok.m3,ok.ok.live,Nat.zero_le _,fun _ h=>(by cases h),ok.ok.ab⟩,ok.ok.n1,rfl,ok.peak⟩
theorem qj {K:Sl→Int→World→Prop} (hcl:C.closed=false) (h:Hp E w (bZ b C::F)) (hK: ∀s w',Hp E w' (al 1 s (C.hC.map vB)::bZ b C.fl::F)→K s 0 w'):
  Cl Tryz.prog [kS,kI] bb ⟨[pE b]⟩ w K:=by
 obtain ⟨sp,f,ok,h⟩:=(qq h)
 refine fw.ok _ _ _ (Cj ok.ok hcl h fun s w h=> ?_)
 (try simp only [aq,aj,ak,Nat.zero_add,Nat.add_zero,Nat.reduceAdd,Bool.not_true,Bool.not_false,az,ay,Option.isNone])
 have hn2:=ok.ok.n2
 have hlen:=ok.ok.len
 have hhd:=pW C hn2
 refine Ld.xb (b:=b) (x:=(C.held.length:Int)) h rfl ?_
 refine aa.dm (fun hp=> ?_) (fun hz=> ?_)
 ·refine Il (C:=C.lI) (f:=f) ⟨ok.ok.n1,ok.ok.n2,ok.ok.m1,ok.ok.m3,ok.ok.live,ok.ok.len,ok.ok.hb,ok.ok.ab⟩ (show 1≤C.held.length by omega) (zM h) ok.row fun s2 g w h=> ?_
  have h:=h.at 4
  have l1:=(h.at 1).aV
  have l2:=h.aV
  have hbs:(c6 C.held).length≤200000:=dk (x:=C.held) (by omega) ok.ok.hb (by omega)
  rw [List.length_map,Nat.mul_one] at l1 l2
  have l1:s2.len=(c6 C.held).length:=l1.symm
  refine aK (s:=s) (n:=s2.len) me (by decide) (.inl ⟨5,by kernel_rfl⟩) h (.inl ⟨s2.base,s2.len,s2.cap,rfl,rfl,h.ah (ad.at 1 ad.own)⟩) (by rw [List.length_map,Nat.mul_one,l1];rfl) ee (by omega) (by omega) fun s3 w h _=> ?_
  refine hK s3 w ?_
  have e:C.hd.map vB++(c6 C.held).map vB=C.hC.map vB:=by
   unfold EC.hC
   rw [if_neg (by intro e;rw [e] at hp;simp at hp),List.map_append]
  rw [←e]
  exact bZ.mK (C:=C.fl) (ok.flush _ g) (h.no 1)
 ·refine hK s w ?_
  have e:C.held= []:=List.eq_nil_of_length_eq_zero (by omega)
  have e2:C.hC=C.hd:=by unfold EC.hC;rw [if_pos e,List.append_nil]
  rw [e2]
  have hin:=ok.flush C.closed f
  have e3:C.fl=C.lI:=by unfold EC.fl EC.lI;rw [e]
  rw [e3]
  have e4:rO C.lI f:=by rw [←e3];exact hin
  exact bZ.mK (C:=C.lI) e4 h
theorem K6 {K:Sl→Int→World→Prop} (hcl:C.closed=true) (h:Hp E w (bZ b C::F)) (hK:Hp E w (bZ b C::F)→K ⟨none,0,0⟩ 280 w):
  Cl Tryz.prog [kS,kI] bb ⟨[pE b]⟩ w K:=by
 obtain ⟨sp,f,ok,h⟩:=(qq h)
 refine fw.ok _ _ _ (xW hcl h fun h=> ?_)
 exact aa.Ml (hK (bZ.shut ok h))
theorem FO {K:Sl→Int→World→Prop} (hcl:C.closed=true) (h:Hp E w (bZ b C::F)) (hK:Hp E w (bZ b C::F)→K ⟨none,0,0⟩ 280 w):
  Cl Tryz.prog [kS,kI] bU ⟨[pE b]⟩ w K:=
 jI.ok _ _ _ (K6 hcl h fun h=>aa.nt (by decide) (hK h))
theorem yK {sl:Sl} {K:Sl→Int→World→Prop} (hcl:C.closed=true) (h:Hp E w (bZ b C::F)) (hK:Hp E w (bZ b C::F)→K ⟨none,0,0⟩ 280 w):
  Cl Tryz.prog [kS,kI] bV ⟨[pE b,.slice sl.base sl.len sl.cap]⟩ w K:=by
 obtain ⟨sp,f,ok,h⟩:=(qq h)
 refine jF.ok _ _ _ _ (xW hcl h fun h=> ?_)
 exact aa.Ml (hK (bZ.shut ok h))
theorem uM {K:Sl→Int→World→Prop} (hcl:C.closed=false) (h:Hp E w (bZ b C::F)) (hK: ∀s w',Hp E w' (al 1 s (C.vL.map vB)::bZ b C.cl::F)→K s 0 w'):
  Cl Tryz.prog [kS,kI] bU ⟨[pE b]⟩ w K:=by
 obtain ⟨_,f0,ok0,_⟩:=(qq h)
 refine jI.ok _ _ _ (qj hcl h fun s w h=>aa.nf rfl ?_)
 obtain ⟨sp,f,ok,h⟩:=(qq (h.at 1))
 (try simp only [aq,aj,ak,Nat.zero_add,Nat.add_zero,Nat.reduceAdd,Bool.not_true,Bool.not_false,az,ay,Option.isNone])
 refine St.xs (b:=b) h rfl rfl fun w h=>Ld.xb (b:=b) (x:=(cT C.all:Int)) h rfl ?_
 dsimp only [bN,aI] at h
 refine LG h (n0 ok0.ok.ab) fun s2 w h=> ?_
 have hn2:=ok0.ok.n2
 have hfl:C.hC.length≤300000:=by
  have hhd:=pW C hn2
  have hlen:=ok0.ok.len
  unfold EC.hC
  rw [List.length_append]
  split
  ·simp;omega
  ·rename_i hne
   have:=dk (x:=C.held) (List.length_pos_iff.2 hne) ok0.ok.hb (by omega)
   unfold c6
   omega
 have hml:(nh (cT C.all)).length=5:=rfl
 have h:=h.at 4
 have l1:=(h.at 1).aV
 have l2:=h.aV
 rw [List.length_map,Nat.mul_one] at l1 l2
 refine aK (s:=s) (n:=s2.len) me (by decide) (.inl ⟨5,by kernel_rfl⟩) h (.inl ⟨s2.base,s2.len,s2.cap,rfl,rfl,h.ah (ad.at 1 ad.own)⟩) (by rw [List.length_map,Nat.mul_one,l1]) ee (by omega) (by omega) fun s3 w h _=> ?_
 refine hK s3 w ?_
 have e:C.hC.map vB++(nh (cT C.all)).map vB=C.vL.map vB:=by unfold EC.vL;rw [List.map_append]
 rw [←e]
 exact bZ.mK (C:=C.cl) (ok0.flush _ f) (h.no 1)
end
end Go.Proofs.YtgglghjnakclmaaGreat
namespace Go.Proofs.YtgglghjnakclmaaGreat
open Go Go.Vc
set_option maxRecDepth 100000
theorem BV.ok (a:Int) (b:Sl) (R:Sl→Int→World→Prop) w (h:
 Cl Pg [kS,kI] ll ⟨[(.agg ⟨[(ni a)]⟩)]⟩ w fun (d:Sl) (e:Int) c=>
 aa (e !=0)
 (R (⟨none,0,0⟩:Sl) 2 c)
 (Cl Pg [kS] n7 ⟨[(ni a),(ag b)]⟩ c fun (g:Sl) f=>
 bq d 0 f fun h i (j:Sl) (k:Int) l=>
 aa (decide (k<(g.len:Int)))
 (an g k 1 fun m=>
 Ld kS m l fun (n:Sl)=>
 Cl Pg [kS,kI] jW ⟨[(ni a),(ag n)]⟩ l fun (p:Sl) (q:Int) o=>
 au Pg (Builtin.append_ #[26,26] 26 ⟨[(ag j),(ag p)]⟩) kS o fun (s:Sl) r=>
 h s (i64 (k+1)) r∧i s (i64 (k+1)) r<i j k l)
 (Cl Pg [(ar .u32)] j0 ⟨[(ag b)]⟩ l fun (u:Int) t=>
 Cl Pg [kS] iu ⟨[(.int .u32 u)]⟩ t fun (x:Sl) v=>
 au Pg (Builtin.append_ #[26,26] 26 ⟨[(ag j),(ag x)]⟩) kS v fun (z:Sl) y=>
 R z 0 y))):Cl Pg [kS,kI] lX ⟨[(ni a),(ag b)]⟩ w R:=co Tryz.f25 [(14,[(6,kS),(9,kI)])] h
theorem D7.ok (a:Int) (b:Sl) (R:Sl→World→Prop) w (h:
 bq (⟨none,0,0⟩:Sl) 0 w fun c d (e:Sl) (f:Int) g=>
 aa (decide (f<(b.len:Int)))
 (bq e 0 g fun h i (j:Sl) (k:Int) l=>
 an b f 1 fun m=>
 Ld kS m l fun (n:Sl)=>
 aa (decide (k<(n.len:Int)))
 (gw l fun o p=>
 an b f 1 fun q=>
 aG kS q o fun (r:Sl)=>
 an b f 1 fun s=>
 aG kS s o fun (t:Sl)=>
 bj r k (if (t.len:Int)<(i64 (k+a)) then (t.len:Int) else (i64 (k+a))) (r).cap 1 fun u=>
 Nw 26 ⟨[(ag u)]⟩ p fun x v=>
 o v∧
 au Pg (Builtin.append_ #[47,47] 47 ⟨[(ag j),(ag (⟨some ⟨x,0,none⟩,1,1⟩:Sl))]⟩) kS v fun (z:Sl) y=>
 o y∧
 h z (i64 (k+a)) y∧i z (i64 (k+a)) y<i j k l)
 (c j (i64 (f+1)) l∧d j (i64 (f+1)) l<d e f g))
 (R e g)):Cl Pg [kS] n7 ⟨[(ni a),(ag b)]⟩ w R:=co Tryz.f26 [(7,[(5,kS),(6,kI)]),(14,[(5,kS),(7,kI)])] h
end Go.Proofs.YtgglghjnakclmaaGreat
namespace Go.Vc
open Go Go.Stm
end Go.Vc
namespace Go.Proofs.YtgglghjnakclmaaGreat
open Go Go.Vc Go.Stm
section
variable {E w:World} {F:List HP}
set_option maxRecDepth 20000
structure lA (s:Sl) (ps:List (Sl×List Nat)) (w:World):Prop where
 tab:aD 1 s (ps.map fun x=> .slice x.1.base x.1.len x.1.cap) w
 each: ∀x∈ps,aD 1 x.1 (x.2.map vB) w
structure E7 (ps:List (Sl×List Nat)):Prop where
 caps: ∀x∈ps,x.1.len≤x.1.cap
 few:ps.length≤bO
 small: ∀x∈ps,x.2.length≤bO
end
end Go.Proofs.YtgglghjnakclmaaGreat
namespace Go.Vc
open Go
theorem an.LJ {w:World} {S:World→Prop} {sc:Sc} {s:Sl} {xs:List Value} {i:Int} {j:Nat} {K:sc.T→Prop} (hw:aD 1 s xs w) (hS: ∀w,S w→aD 1 s xs w) (hi:i=(j:Int)) (hj:j<xs.length) (x:sc.T) (hx:xs[j]? =some (sc.enc x)) (hK:K x):
  an s i 1 fun q=>aG (.sc sc) q S K:=by
 subst hi
 have hl:=hw.1
 rw [Nat.mul_one] at hl
 obtain ⟨p,hp,_⟩:=hw.2 j hj
 refine ⟨p,hp,by omega,by omega,aG.sc x (fun w' hw'=> ?_) hK⟩
 obtain ⟨p',hp',hc⟩:=(hS w' hw').2 j hj
 rw [hp] at hp'
 cases hp'
 rw [show ((j:Int)).toNat*1=j by omega,hc,←hx,List.getElem?_eq_getElem hj]
end Go.Vc
namespace Go.Proofs.YtgglghjnakclmaaGreat
open Go Go.Vc Go.Srt Go.Inc Go.Sym Go.aS Go.af
section
variable {E w:World} {F:List HP}
set_option maxRecDepth 20000
end
end Go.Proofs.YtgglghjnakclmaaGreat
set_option maxRecDepth 20000
namespace Go.Proofs.YtgglghjnakclmaaGreat
open Go Go.Vc
section
variable {E w:World} {F:List HP} {K:Sl→World→Prop} {s s2:Sl} {b x:Nat} {t:TypeId}
abbrev OI (s:Sl) (xs:List Nat):HP:=al 1 s ((ints xs).map vI)
abbrev OB (s:Sl) (xs:List Nat):HP:=al 1 s (xs.map vB)
abbrev Mv (b x:Nat) (t:TypeId):HP:=af b (.cells ⟨[.int .i64 (x:Int)]⟩ t (0,0))
abbrev zY (b x:Nat) (t:TypeId):HP:=af b (.cells ⟨[.int .u8 (x:Int)]⟩ t (0,0))
theorem OI.len {xs:List Nat} (h:Hp E w (OI s xs::F)):xs.length=s.len:=by have:=h.aV;simpa [ints] using this
theorem OB.len {xs:List Nat} (h:Hp E w (OB s xs::F)):xs.length=s.len:=by have:=h.aV;simpa using this
theorem Mz: ∀y∈ [vI (x:Int)],aF y=true:=by intro y hy;rw [List.mem_singleton] at hy;rw [hy];rfl
theorem Mu: ∀y∈ [vB x],aF y=true:=by intro y hy;rw [List.mem_singleton] at hy;rw [hy];rfl
theorem rZ (xs ys:List Nat):(ints (xs++ys)).map vI=(ints xs).map vI++(ints ys).map vI:=by simp [ints]
theorem Ai {xs:List Nat} (h:aD 1 s ((ints xs).map vI) w):xs.length=s.len:=by have:=h.1;simpa [ints] using this
theorem wA {xs:List Nat} (h:aD 1 s (xs.map vB) w):xs.length=s.len:=by have:=h.1;simpa using this
theorem vv {xs:List Nat} (h:Hp E w (Mv b x t::OI s xs::F)) (hl:xs.length≤10000000000) (hK: ∀s' w',Hp E w' (OI s' (xs++ [x])::F)→K s' w'):
  au Tryz.prog (Builtin.append_ #[142,142] 142 ⟨[.slice s.base s.len s.cap,.slice (some ⟨b,0,none⟩) 1 1]⟩) kS w K:=by
 have hol:=OI.len (h.at 1)
 refine aK (ys:= [vI (x:Int)]) (n:=1) eM (by decide) (.inl ⟨3,by kernel_rfl⟩) (h.at 1) (.inl ⟨some ⟨b,0,none⟩,1,1,rfl,rfl,h.ah (ad.aH rfl rfl)⟩) rfl Mz (by omega) (by omega) fun s' w' h _=>hK s' w' ?_
 unfold OI
 rw [rZ]
 exact h.dv
theorem Dv {xs:List Nat} (h:Hp E w (zY b x t::OB s xs::F)) (hl:xs.length≤10000000000) (hK: ∀s' w',Hp E w' (OB s' (xs++ [x])::F)→K s' w'):
  au Tryz.prog (Builtin.append_ #[26,26] 26 ⟨[.slice s.base s.len s.cap,.slice (some ⟨b,0,none⟩) 1 1]⟩) kS w K:=by
 have hol:=OB.len (h.at 1)
 refine aK (ys:= [vB x]) (n:=1) me (by decide) (.inl ⟨5,by kernel_rfl⟩) (h.at 1) (.inl ⟨some ⟨b,0,none⟩,1,1,rfl,rfl,h.ah (ad.aH rfl rfl)⟩) rfl Mu (by omega) (by omega) fun s' w' h _=>hK s' w' ?_
 unfold OB
 rw [List.map_append]
 exact h.dv
theorem IT {xs:List Nat} (h:Hp E w (zY b x t::OB s xs::F)) (hl:xs.length≤10000000000) (hK: ∀s' w',Hp E w' (OB s' (x::xs)::F)→K s' w'):
  au Tryz.prog (Builtin.append_ #[26,26] 26 ⟨[.slice (some ⟨b,0,none⟩) 1 1,.slice s.base s.len s.cap]⟩) kS w K:=by
 have hol:=OB.len (h.at 1)
 have h2:=Hp.fz (n:=1) (sz:=1) h rfl
 refine aK (s:=⟨some ⟨b,0,none⟩,1,1⟩) (xs:= [vB x]) (ys:=xs.map vB) (n:=s.len) me (by decide) (.inl ⟨5,by kernel_rfl⟩) h2 (.inl ⟨s.base,s.len,s.cap,rfl,rfl,(h2.at 1).ah ad.own⟩) (by simp [hol]) ee (by dsimp only;omega) (by dsimp only;omega) fun s' w' h _=>hK s' w' ?_
 exact h.dv
theorem C8 {xs ys:List Nat} (h:Hp E w (OI s xs::F)) (h2:ad F (aD 1 s2 ((ints ys).map vI))) (hl:xs.length≤10000000000) (hl2:ys.length≤10000000000) (hK: ∀s' w',Hp E w' (OI s' (xs++ys)::F)→K s' w'):
  au Tryz.prog (Builtin.append_ #[142,142] 142 ⟨[.slice s.base s.len s.cap,.slice s2.base s2.len s2.cap]⟩) kS w K:=by
 have hol:=OI.len h
 have hol2:=Ai (h.drop.ah h2)
 refine aK (ys:=(ints ys).map vI) (n:=s2.len) eM (by decide) (.inl ⟨3,by kernel_rfl⟩) h (.inl ⟨s2.base,s2.len,s2.cap,rfl,rfl,h.drop.ah h2⟩) (by simp [ints,hol2]) lP (by omega) (by omega) fun s' w' h _=>hK s' w' ?_
 unfold OI
 rw [rZ]
 exact h
theorem oV {xs ys:List Nat} (h:Hp E w (OB s xs::F)) (h2:ad F (aD 1 s2 (ys.map vB))) (hl:xs.length≤1000000000000) (hl2:ys.length≤1000000000000) (hK: ∀s' w',Hp E w' (OB s' (xs++ys)::F)→K s' w'):
  au Tryz.prog (Builtin.append_ #[26,26] 26 ⟨[.slice s.base s.len s.cap,.slice s2.base s2.len s2.cap]⟩) kS w K:=by
 have hol:=OB.len h
 have hol2:=wA (h.drop.ah h2)
 refine aK (ys:=ys.map vB) (n:=s2.len) me (by decide) (.inl ⟨5,by kernel_rfl⟩) h (.inl ⟨s2.base,s2.len,s2.cap,rfl,rfl,h.drop.ah h2⟩) (by simp [hol2]) ee (by omega) (by omega) fun s' w' h _=>hK s' w' ?_
 unfold OB
 rw [List.map_append]
 exact h
theorem an.rI {xs:List Nat} {i:Int} {j:Nat} {K:Int→Prop} (hs:aD 1 s ((ints xs).map vI) w) (hi:i=(j:Int)) (hj:j<xs.length) (hK:K (xs[j]:Int)):an s i 1 fun q=>Ld kI q w K:=by
 subst hi
 have hl:=Ai hs
 refine an.rd hs (by omega) (by omega) fun q _ hq=>Ld.sc (s:= .int .i64) (xs[j]:Int) (by rw [hq];simp [Sc.enc,vI,ints]) hK
end
end Go.Proofs.YtgglghjnakclmaaGreat
namespace Go.Vc
open Go
theorem bj.Iq {w:World} {s:Sl} {xs:List Value} {lo hi mx:Int} {K:Sl→Prop} (hs:aD 1 s xs w) (h0:0≤lo) (h1:lo≤hi) (h2:hi≤(s.len:Int)) (h3:hi≤mx) (h4:mx≤(s.cap:Int))
  (h: ∀s':Sl,(∀w',aD 1 s xs w'→aD 1 s' ((xs.drop lo.toNat).take (hi.toNat - lo.toNat)) w')→s'.len=hi.toNat - lo.toNat→s'.len≤s'.cap→K s'):bj s lo hi mx 1 K:=by
 obtain ⟨a,b,c,d,e⟩:=bj.rd (K:=fun s'=>s'.len≤s'.cap→K s') hs h0 h1 h2 h3 h4 fun s' a b c=>h s' a b c
 exact ⟨a,b,c,d,e (by simp only;omega)⟩
end Go.Vc
namespace Go.Stm
theorem Bo: ∀l:List (List Nat),(∀x∈l,0<x.length)→l.length≤l.flatten.length
 | [],_=>by simp
 |x::l,h=>by
  have h1:=h x List.mem_cons_self
  have h2:=Bo l fun y hy=>h y (List.mem_cons_of_mem _ hy)
  rw [List.length_cons,List.flatten_cons,List.length_append];omega
theorem Bg {n:Nat} (hn:0<n) (l:List (List Nat)):(cE n l).length≤l.flatten.length:=by
 have:=Bo (cE n l) fun x hx=>(z7 hn x hx).1
 rwa [F5 hn] at this
theorem xM (n:Nat) (x:List Nat) (l:List (List Nat)):cE n (x::l)=m6 n x++cE n l:=by unfold cE;rw [List.flatMap_cons]
end Go.Stm
namespace Go.Proofs.YtgglghjnakclmaaGreat
open Go Go.Vc Go.Stm
section
variable {E w:World} {F:List HP}
set_option maxRecDepth 20000
theorem KD:bP Tryz.prog 47 26 1 24:=bP.of (by kernel_rfl) (by kernel_rfl)
theorem Ex {n:Nat} {s:Sl} {ps:List (Sl×List Nat)} {K:Sl→World→Prop} (h:Hp E w F) (hs:ad F (lA s ps)) (hp:E7 ps) (hn:0<n) (hn2:n≤65536) (hsm:(ps.map Prod.snd).flatten.length≤100000)
  (hK: ∀(pcs:List (Sl×List Nat)) (s':Sl) (w':World),pcs.map Prod.snd=cE n (ps.map Prod.snd)→(∀x∈pcs,x.1.len≤x.1.cap)→(∀w,lA s ps w→∀x∈pcs,aD 1 x.1 (x.2.map vB) w)→Hp E w' (al 1 s' (pcs.map fun x=> .slice x.1.base x.1.len x.1.cap)::F)→K s' w'):
  Cl Tryz.prog [kS] n7 ⟨[.int .i64 (n:Int),.slice s.base s.len s.cap]⟩ w K:=by
 refine D7.ok _ _ _ _ ?_
 have hlen:ps.length=s.len:=by have:=(h.ah hs).tab.1;simpa using this
 have hfew:=hp.few
 rw [aC] at hfew
 have hcl:=Bg hn (ps.map Prod.snd)
 refine ⟨fun o i w=> ∃(k:Nat) (pcs:List (Sl×List Nat)),i=(k:Int)∧k≤ps.length∧pcs.map Prod.snd++cE n ((ps.drop k).map Prod.snd)=cE n (ps.map Prod.snd)∧(∀x∈pcs,x.1.len≤x.1.cap)∧(∀w,lA s ps w→∀x∈pcs,aD 1 x.1 (x.2.map vB) w)∧
  Hp E w (al 1 o (pcs.map fun x=> .slice x.1.base x.1.len x.1.cap)::F),fun _ i _=>ps.length - i.toNat,⟨0,[],rfl,by omega,rfl,by simp,by simp,h.a9 1⟩,?_⟩
 rintro o i w ⟨k,pcs,rfl,hk,hcut,hcap,hT,h⟩
 refine aa.dm (fun hlt=> ?_) (fun hge=> ?_)
 ·have hlt:k<ps.length:=by omega
  have hmem:ps[k]∈ps:=List.getElem_mem hlt
  have hc:=hp.caps _ hmem
  have hs1:=hp.small _ hmem
  rw [aC] at hs1
  rw [List.drop_eq_getElem_cons hlt,List.map_cons,xM] at hcut
  have hl1:ps[k].2.length=ps[k].1.len:=wA ((h.ah hs.cons).each _ hmem)
  refine ⟨fun o a w=> ∃(j:Nat) (pcs:List (Sl×List Nat)),a=(j:Int)∧j≤ps[k].2.length+65536∧pcs.map Prod.snd++(m6 n (ps[k].2.drop j)++cE n ((ps.drop (k+1)).map Prod.snd))=cE n (ps.map Prod.snd)∧(∀x∈pcs,x.1.len≤x.1.cap)∧(∀w,lA s ps w→∀x∈pcs,aD 1 x.1 (x.2.map vB) w)∧
   Hp E w (al 1 o (pcs.map fun x=> .slice x.1.base x.1.len x.1.cap)::F),fun _ a _=>ps[k].1.len - a.toNat,⟨0,pcs,rfl,by omega,hcut,hcap,hT,h⟩,?_⟩
  rintro o a w ⟨j,pcs,rfl,hj,hcut,hcap,hT,h⟩
  have hPW: ∀{w:World} {A:HP},Hp E w (A::F)→lA s ps w:=fun h=>h.ah hs.cons
  refine an.rd (hPW h).tab (by omega) (by omega) fun q _ hq=> ?_
  refine Ld.sc (s:= .sl) ps[k].1 (by rw [hq];simp [Sc.enc]) ?_
  refine aa.dm (fun hlt2=> ?_) (fun hge2=> ?_)
  ·have hlt2:j<ps[k].2.length:=by omega
   have h:=h.drew (n:=w.drawn+1)
   refine ⟨lA s ps,hPW h,?_⟩
   refine an.LJ (sc:= .sl) (hPW h).tab (fun _ h=>h.tab) rfl (by simpa using hlt) ps[k].1 (by simp [Sc.enc,hlt]) ?_
   refine an.LJ (sc:= .sl) (hPW h).tab (fun _ h=>h.tab) rfl (by simpa using hlt) ps[k].1 (by simp [Sc.enc,hlt]) ?_
   rw [ae (x:=(j:Int)+(n:Int)) (by omega)]
   have hhi:(if (ps[k].1.len:Int)<(j:Int)+(n:Int) then (ps[k].1.len:Int) else (j:Int)+(n:Int))=((min (j+n) ps[k].1.len:Nat):Int):=by split<;>omega
   rw [hhi]
   refine bj.Iq ((hPW h).each _ hmem) (by omega) (by omega) (by omega) (by omega) (by omega) fun s' hs' hl' hsc=> ?_
   simp only [Int.toNat_natCast] at hs' hl'
   have hne:ps[k].2.drop j≠ []:=fun e=>by have:=congrArg List.length e;rw [List.length_drop] at this;simp at this;omega
   rw [nW hne hn,List.drop_drop] at hcut
   have etk:(((ps[k].2.map vB).drop j).take (min (j+n) ps[k].1.len - j))=((ps[k].2.drop j).take n).map vB:=by
    rw [←List.map_drop,←List.map_take]
    congr 1
    rcases Nat.le_total (j+n) ps[k].1.len with h1|h1
    ·rw [Nat.min_eq_left h1,show j+n - j=n by omega]
    ·rw [Nat.min_eq_right h1,List.take_of_length_le (by rw [List.length_drop];omega),List.take_of_length_le (by rw [List.length_drop];omega)]
   rw [etk] at hs'
   have hpl:=h.aV
   rw [List.length_map,Nat.mul_one] at hpl
   have hpc:pcs.length≤100000:=by
    have:=congrArg List.length hcut
    rw [List.length_append,List.length_map] at this
    omega
   refine Nw.mk h fun b23 w h=>⟨h.ah hs.cons.cons,?_⟩
   refine aK (ys:= [.slice s'.base s'.len s'.cap]) (n:=1) KD (by decide) (.inl ⟨26,by kernel_rfl⟩) h.p1 (.inl ⟨some ⟨b23,0,none⟩,1,1,rfl,rfl,h.ah (ad.aH rfl rfl)⟩) rfl (by
    intro z hz
    rw [List.mem_singleton] at hz
    rw [hz];rfl) (by omega) (by omega) fun s2 w h _=>⟨h.ah hs.cons.cons,?_⟩
   refine ⟨⟨j+n,pcs++ [(s',(ps[k].2.drop j).take n)],by omega,by omega,?_,?_,?_,?_⟩,by first|omega|(dsimp only;omega)⟩
   ·rw [←hcut];simp
   ·intro x hx
    rcases List.mem_append.1 hx with hx|hx
    ·exact hcap x hx
    ·rw [List.mem_singleton] at hx;rw [hx];exact hsc
   ·intro w hw x hx
    rcases List.mem_append.1 hx with hx|hx
    ·exact hT w hw x hx
    ·rw [List.mem_singleton] at hx;rw [hx];exact hs' w (hw.each _ hmem)
   ·rw [List.map_append]
    exact h.p1.drop
  ·have e0:ps[k].2.drop j= []:=List.drop_of_length_le (by omega)
   rw [e0,p9,List.nil_append] at hcut
   rw [ae (by omega)]
   exact ⟨⟨k+1,pcs,rfl,by omega,hcut,hcap,hT,h⟩,by first|omega|(dsimp only;omega)⟩
 ·have hk2:k=ps.length:=by omega
  subst hk2
  rw [List.drop_of_length_le (Nat.le_refl _),List.map_nil,show cE n []= [] from rfl,List.append_nil] at hcut
  exact hK pcs o w hcut hcap hT h
end
end Go.Proofs.YtgglghjnakclmaaGreat
namespace Go.Vc
theorem a7.vA {r:World→Prop} {k:(World→Prop)→Prop} (Q:World→Prop) (h1: ∀w,Q w→r w) (h2: ∀r',(∀w,Q w→r' w)→k r'):a7 r k:=h2 r h1
end Go.Vc
namespace Go.Pol
theorem tU: ∀(l:List Nat) (a x:Nat),cQ a (l++ [x])=cQ a l++ [(a+l.sum,x)]
 | [],a,x=>by simp [cQ]
 |k::l,a,x=>by
  rw [List.cons_append,cQ,cQ,tU l (a+k) x,List.cons_append,List.sum_cons,Nat.add_assoc]
end Go.Pol
namespace Go.Stm
theorem wE {n:Nat} (hn:0<n) (x:List Nat):(cS n x).1.length≤x.length:=by
 induction hk:x.length using Nat.strongRecOn generalizing x with
 |ind k ih=>
  rcases Nat.lt_or_ge x.length n with h|h
  ·rw [cV h];simp
  ·rw [fK hn h,List.length_cons]
   have:=ih (x.drop n).length (by rw [List.length_drop];omega) (x.drop n) rfl
   rw [List.length_drop] at this
   omega
end Go.Stm
namespace Go.Proofs.YtgglghjnakclmaaGreat
open Go Go.Vc Go.Srt Go.Inc Go.Hd Go.aS Go.af Go.Crc Go.Pol Go.Stm
set_option maxRecDepth 20000
theorem qZ {n:Nat}: ∀(l:List (List Nat)),(∀x∈l,x.length=n∧∀c∈x,c<256)→0<n→n≤65536→(l.flatMap c6).length≤200000*l.length
 | [],_,_,_=>by simp
 |x::l,h,h1,h2=>by
  have hx:=h x List.mem_cons_self
  have ih:=qZ l (fun y hy=>h y (List.mem_cons_of_mem _ hy)) h1 h2
  have hb:=dk (x:=x) (by omega) hx.2 (by omega)
  rw [List.flatMap_cons,List.length_append,List.length_cons]
  unfold c6 at ih⊢
  omega
def EC.new (n mode:Nat) (A:AS):EC:=⟨n,mode,A,[],[],false,false⟩
section
variable {E w:World} {F:List HP} {b:Nat} {C:EC} {sp:Sl} {f:Nat→Nat}
theorem rJ {n budget:Int} {K:Option Addr→Int→World→Prop} (h:Hp E w F) (hbud:budget≤1000000∨1048576<budget)
  (hgood: ∀N B:Nat,n=(N:Int)→budget=(B:Int)→1≤N→N≤65536→1≤B→B≤1048576→a8 B N 1≠0→∀b A w',Hp E w' (bZ b (EC.new N (a8 B N 1) A)::F)→K (some ⟨b,0,none⟩) 0 w')
  (hbad:(bp budget n 1).2≠0→∀w',Hp E w' F→K none ((bp budget n 1).2:Int) w'):
  Cl Tryz.prog [kP,kI] dN ⟨[.int .i64 n,.int .i64 budget]⟩ w K:=by
 refine BI.ok _ _ _ _ (Kv (side:=1) h (.inl rfl) fun w h=> ?_)
 by_cases hz:(bp budget n 1).2=0
 ·have hr:1≤n∧n≤65536∧1≤budget∧budget≤1048576∧a8 budget.toNat n.toNat 1≠0∧(bp budget n 1).1=a8 budget.toNat n.toNat 1:=by
   unfold bp at hz⊢
   split at hz
   ·cases hz
   ·rename_i h1
    rw [if_neg h1]
    split at hz
    ·cases hz
    ·rename_i h2
     rw [if_neg h2]
     exact ⟨by omega,by omega,by omega,by omega,h2,rfl⟩
  obtain ⟨r1,r2,r3,r4,r5,r6⟩:=hr
  obtain ⟨N,rfl⟩: ∃N:Nat,n=(N:Int):=⟨n.toNat,by omega⟩
  obtain ⟨B,rfl⟩: ∃B:Nat,budget=(B:Int):=⟨budget.toNat,by omega⟩
  rw [Int.toNat_natCast,Int.toNat_natCast] at r5 r6
  obtain ⟨p1,p2,p3⟩:=yL r5
  rw [r6]
  generalize hmode:a8 B N 1=mode at p1 p2 p3
  refine aa.nf (by rw [hz];rfl) (Nw.mk h fun b7 w h=> ?_)
  refine Jf h (by omega) (by omega) fun a m w h=> ?_
  refine St.xs (b:=b7) h rfl rfl fun w h=> ?_
  dsimp only [bN,aI] at h
  refine IL (side:=1) h (fun m' hm' hs s w h=> ?_) (fun hno=>absurd ⟨by omega,.inl rfl,p2,p3,by omega,by omega⟩ hno)
  obtain rfl:N=m':=by omega
  have hlen:=h.aV
  rw [List.length_map,Nat.mul_one,show (ints (layout N 1 mode)).length=(layout N 1 mode).length from List.length_map ..] at hlen
  have hll:(layout N 1 mode).length≤3:=by unfold layout;split<;>(try split)<;>(try split)<;>simp
  have hsum:(layout N 1 mode).sum≤B:=p1
  generalize hL:layout N 1 mode=l at h hlen hll hsum
  refine ⟨fun i w=> ∃(k:Nat) (sp:Sl),i=(k:Int)∧k≤l.length∧Hp E w (al 2 sp ((cQ 0 (l.take k)).flatMap lJ)::al 1 s ((ints l).map vI)::af b7 (.cells ⟨[.int .i64 (N:Int),.int .i64 0,.int .u8 (mode:Int),.pointer (some ⟨a,0,none⟩),.slice sp.base sp.len sp.cap,.int .u32 0,.int .u32 0,.bool false,.bool false]⟩ 139 (0,0))::Ar ⟨a,m,B,(l.take k).sum,(l.take k).sum⟩ (fun _=>0)::F),fun i _=>l.length - i.toNat,⟨0,⟨none,0,0⟩,rfl,by omega,((h.at 2).at 1).a9 2⟩,?_⟩
  rintro i w ⟨k,sp,rfl,hk,h⟩
  refine aa.dm (fun hlt=> ?_) (fun hge=> ?_)
  ·have hlt:k<l.length:=by omega
   have hst:=Bl hlt
   have hle2:=oO l (k+1)
   refine an.rd (h.ah (ad.at 1 ad.own)) (by omega) (by omega) fun q _ hq=> ?_
   refine Ld.sc (s:= .int .i64) (l[k]:Int) (by rw [hq];simp [Sc.enc,vI,ints]) ?_
   refine Ld.xb (b:=b7) h rfl ?_
   refine GY (A:=⟨a,m,B,(l.take k).sum,(l.take k).sum⟩) (h.at 3) (by dsimp only;omega) fun w h=> ?_
   refine Nw.mk h fun b26 w h=> ?_
   (with_reducible refine bl.xw h rfl rfl (fun w h=> ?_))
   have hmax:max (l.take k).sum ((l.take k).sum+l[k])=(l.take k).sum+l[k]:=by omega
   dsimp only at h⊢
   rw [hmax,←hst] at h
   have hsl:=aD.len jJ (by decide) ((h.at 2).ah ad.own)
   have hpl:(cQ 0 (l.take k)).length≤3:=by
    have: ∀(l:List Nat) (a:Nat),(cQ a l).length=l.length:=fun l=>by
     induction l with
     |nil=>intro a;rfl
     |cons x l ih=>intro a;rw [cQ,List.length_cons,List.length_cons,ih]
    rw [this,List.length_take];omega
   refine a7.vA (fun w=> ∃sp',Hp E w (al 2 sp' ((cQ 0 (l.take (k+1))).flatMap lJ)::al 1 s ((ints l).map vI)::af b7 (.cells ⟨[.int .i64 (N:Int),.int .i64 0,.int .u8 (mode:Int),.pointer (some ⟨a,0,none⟩),.slice sp'.base sp'.len sp'.cap,.int .u32 0,.int .u32 0,.bool false,.bool false]⟩ 139 (0,0))::Ar ⟨a,m,B,(l.take (k+1)).sum,(l.take (k+1)).sum⟩ (fun _=>0)::F)) ?_ fun r' hr'=> ?_
   ·rintro w ⟨sp',h⟩
    rw [ae (by omega)]
    exact ⟨⟨k+1,sp',by omega,by omega,h⟩,by first|omega|(dsimp only;omega)⟩
   ·refine aJ.mk h fun w h=> ?_
    refine Ld.xt (b:=b26) h rfl ?_
    have e:(cQ 0 (l.take k)).flatMap lJ++lJ ((l.take k).sum,l[k])=(cQ 0 (l.take (k+1))).flatMap lJ:=by
     rw [List.take_add_one,List.getElem?_eq_getElem hlt,Option.toList_some,tU,List.flatMap_append,Nat.zero_add];simp
    have go: ∀(b':Nat) (w:World),Hp E w (af b' (.cells ⟨[.int .i64 ((l.take k).sum:Int),.int .i64 (l[k]:Int)]⟩ 146 (0,0))::af b26 (.cells ⟨[.int .i64 ((l.take k).sum:Int),.int .i64 (l[k]:Int)]⟩ 146 (0,0))::Ar ⟨a,m,B,(l.take (k+1)).sum,(l.take (k+1)).sum⟩ (fun _=>0)::al 2 sp ((cQ 0 (l.take k)).flatMap lJ)::al 1 s ((ints l).map vI)::af b7 (.cells ⟨[.int .i64 (N:Int),.int .i64 0,.int .u8 (mode:Int),.pointer (some ⟨a,0,none⟩),.slice sp.base sp.len sp.cap,.int .u32 0,.int .u32 0,.bool false,.bool false]⟩ 139 (0,0))::F)→
      au Tryz.prog (Builtin.append_ #[137,137] 137 ⟨[.slice sp.base sp.len sp.cap,.slice (some ⟨b',0,none⟩) 1 1]⟩) kS w fun s35 w_34=>St ((⟨b7,0,none⟩:Addr).add 4) (.slice s35.base s35.len s35.cap) w_34 fun w_36=>r' w_36:=fun b' w h=>by
     refine aK (s:=sp) (ys:=lJ ((l.take k).sum,l[k])) (n:=1) (.of (by kernel_rfl) (by kernel_rfl):bP Tryz.prog 137 146 2 16) (by decide) (.inl ⟨146,by kernel_rfl⟩) (h.at 3) (.inl ⟨some ⟨b',0,none⟩,1,1,rfl,rfl,h.ah (ad.aH rfl rfl)⟩) rfl (by intro y hy;simp [lJ] at hy;rcases hy with rfl|rfl<;>rfl) (by omega) (by omega) fun s' w h _=> ?_
     rw [e] at h
     refine St.xs (b:=b7) h rfl rfl fun w h=>hr' w ⟨s',?_⟩
     dsimp only [bN,aI] at h
     have h:=(h.no 1).no 1
     exact (((h.at 1).at 3).at 3).at 3
    exact ⟨Ld.xb (b:=b7) (x:=sp) h rfl (Nw.mk h fun b33 w h=>go b33 w h),Nw.mk h fun b38 w h=>Ld.xb (b:=b7) (x:=sp) h rfl (go b38 w h)⟩
  ·have hk2:k=l.length:=by omega
   subst hk2
   rw [List.take_of_length_le (Nat.le_refl _)] at h
   refine hgood N B rfl rfl (by omega) (by omega) (by omega) (by omega) r5 b7 ⟨a,m,B,l.sum,l.sum⟩ w ?_
   refine bZ.shut (C:=EC.new N (a8 B N 1) ⟨a,m,B,l.sum,l.sum⟩) (sp:=sp) (f:=fun _=>0) ⟨⟨by show 1≤N;omega,by show N≤65536;omega,by show 1≤a8 B N 1;omega,by show a8 B N 1≤3;omega,?_,Nat.zero_le _,fun _ hx=>(by cases hx),fun _ hx=>(by cases hx)⟩,by show 0<N;omega,rfl,rfl⟩ ?_
   ·show bH N 1 (a8 B N 1)=l.sum
    rw [hmode];unfold bH;rw [hL]
   ·have h:=h.no 1
    have e:dj (EC.new N (a8 B N 1) ⟨a,m,B,l.sum,l.sum⟩).n (EC.new N (a8 B N 1) ⟨a,m,B,l.sum,l.sum⟩).mode=cQ 0 l:=by
     show cQ 0 (layout N 1 (a8 B N 1))=_
     rw [hmode,hL]
    have h:=h.at 1
    show Hp E w (fM b7 (EC.new N (a8 B N 1) ⟨a,m,B,l.sum,l.sum⟩) sp::gH (EC.new N (a8 B N 1) ⟨a,m,B,l.sum,l.sum⟩) sp::Ar ⟨a,m,B,l.sum,l.sum⟩ (fun _=>0)::F)
    unfold gH
    rw [e]
    have e2:Crc.cT []=0:=by decide
    show Hp E w (af b7 (.cells ⟨[.int .i64 (N:Int),.int .i64 0,.int .u8 (a8 B N 1:Int),.pointer (some ⟨a,0,none⟩),.slice sp.base sp.len sp.cap,.int .u32 (Crc.cT []:Int),.int .u32 (Crc.cT []:Int),.bool false,.bool false]⟩ 139 (0,0))::al 2 sp ((cQ 0 l).flatMap lJ)::Ar ⟨a,m,B,l.sum,l.sum⟩ (fun _=>0)::F)
    rw [e2,hmode]
    exact h
 ·exact aa.nt (by omega) (hbad hz w h)
def EC.aL (C:EC) (x:List Nat) (j:Nat):EC:={C with held:=(cS C.n (C.held++x.take j)).2,all:=C.all++x,begun:=true}
noncomputable def EC.k6 (C:EC) (x:List Nat) (j:Nat):List Nat:=C.hd++(cS C.n (C.held++x.take j)).1.flatMap c6
theorem G3 (C:EC) (x:List Nat) (h:C.held.length<C.n):C.aL x 0={C with all:=C.all++x,begun:=true}∧C.k6 x 0=C.hd:=by
 unfold EC.aL EC.k6
 rw [List.take_zero,List.append_nil,cV h]
 simp
theorem I4 (C:EC) (x:List Nat):C.aL x x.length=C.wr x∧C.k6 x x.length=C.iE x:=by
 unfold EC.aL EC.k6 EC.wr EC.iE
 rw [List.take_length]
 exact ⟨rfl,rfl⟩
theorem Ho (C:EC) (x:List Nat) (j k:Nat) (hn:0<C.n) (h:((C.aL x j).held++(x.drop j).take k).length≤C.n):
  C.aL x (j+k)={C.aL x j with held:=if ((C.aL x j).held++(x.drop j).take k).length=C.n then [] else (C.aL x j).held++(x.drop j).take k}∧
  C.k6 x (j+k)=C.k6 x j++if ((C.aL x j).held++(x.drop j).take k).length=C.n then c6 ((C.aL x j).held++(x.drop j).take k) else []:=by
 have e:C.held++x.take (j+k)=(C.held++x.take j)++(x.drop j).take k:=by rw [List.append_assoc,List.take_add]
 have hm:(C.aL x j).held=(cS C.n (C.held++x.take j)).2:=rfl
 rw [hm] at h
 unfold EC.aL EC.k6
 rw [e,zX hn]
 dsimp only
 generalize (cS C.n (C.held++x.take j)).2++(x.drop j).take k=y at h⊢
 by_cases hy:y.length=C.n
 ·rw [if_pos hy,if_pos hy,fK hn (by omega),List.take_of_length_le (by omega),List.drop_of_length_le (by omega),cV (by simpa using hn)]
  exact ⟨rfl,by simp⟩
 ·rw [if_neg hy,if_neg hy,cV (by omega)]
  exact ⟨rfl,by simp⟩
theorem J4 {G:List HP} {b':Nat} {s58:Sl} {y H:List Nat} {v0 v1 v2 v3 v4 v6 v7 v8:Value} {t1 t2:TypeId} {r:World→Prop} (h:Hp E w (af b' (.cells ⟨[.slice s58.base s58.len s58.cap]⟩ t1 (0,0))::af b (.cells ⟨[v0,v1,v2,v3,v4,.int .u32 (cT H:Int),v6,v7,v8]⟩ t2 (0,0))::G))
  (hs:ad G (aD 1 s58 (y.map vB))) (hH: ∀x∈H,x<256) (hy: ∀x∈y,x<256) (hl:y.length≤100000) (hK: ∀w',Hp E w' (af b (.cells ⟨[v0,v1,v2,v3,v4,.int .u32 (cT (H++y):Int),v6,v7,v8]⟩ t2 (0,0))::G)→r w'):
  Cl Tryz.prog [ar .u32] fQ ⟨[.int .u32 (cT H:Int),.slice (some ⟨b',0,none⟩) 1 1]⟩ w fun r63 w=>St ⟨b,5,none⟩ (.int .u32 r63) w fun w=>r w:=by
 refine Cn (s:=⟨some ⟨b',0,none⟩,1,1⟩) (cs:= [s58]) (bs:= [y]) h (n0 hH) (ad.aH rfl rfl) rfl (by rw [aC];simp) (fun i hi=>by simp at hi;subst hi;exact hs.cons.cons) (fun b hb=>by rw [List.mem_singleton] at hb;subst hb;exact hy) (fun b hb=>by rw [List.mem_singleton] at hb;subst hb;rw [aC];omega) fun w h=> ?_
 rw [List.flatten_cons,List.flatten_nil,List.append_nil,CC]
 refine St.xs (b:=b) h rfl rfl fun w h=>hK w ?_
 dsimp only [bN,aI] at h
 exact h.no 0
theorem As {sl:Sl} {x:List Nat} {K:Sl→Int→World→Prop} (hcl:C.closed=false) (h:Hp E w (bZ b C::F)) (hs:ad F (aD 1 sl (x.map vB))) (hx: ∀y∈x,y<256) (hbig:x.length≤100000) (hcap:sl.len≤sl.cap)
  (hK: ∀s w',Hp E w' (al 1 s ((C.iE x).map vB)::bZ b (C.wr x)::F)→K s 0 w'):
  Cl Tryz.prog [kS,kI] bV ⟨[pE b,.slice sl.base sl.len sl.cap]⟩ w K:=by
 obtain ⟨sp,f,ok,h⟩:=(qq h)
 refine jF.ok _ _ _ _ (Cj ok.ok hcl h fun s w h=> ?_)
 have hn1:=ok.ok.n1
 have hn2:=ok.ok.n2
 have hhd:=pW C hn2
 have hlx:x.length=sl.len:=by have:=(h.ah hs.cons.cons.cons.cons).1;simpa using this
 (try simp only [aj,ak,Nat.zero_add,Nat.add_zero,Nat.reduceAdd,Bool.not_true,Bool.not_false,az,ay,Option.isNone])
 refine Ld.xb (b:=b) (x:=(cT C.all:Int)) h rfl (Nw.mk h fun b9 w h=> ?_)
 refine Cn (cs:= [sl]) (bs:= [x]) h (n0 ok.ok.ab) (ad.aH rfl rfl) rfl (by rw [aC];simp) (fun i hi=>by simp at hi;subst hi;exact hs.cons.cons.cons.cons.cons) (fun b hb=>by rw [List.mem_singleton] at hb;subst hb;exact hx) (fun b hb=>by rw [List.mem_singleton] at hb;subst hb;rw [aC];omega) fun w h=> ?_
 rw [List.flatten_cons,List.flatten_nil,List.append_nil,CC]
 refine St.xs (b:=b) h rfl rfl fun w h=> ?_
 dsimp only [bN,aI] at h
 have h:=h.no 0
 have hab: ∀y∈C.all++x,y<256:=fun y hy=>(List.mem_append.1 hy).elim (ok.ok.ab y) (hx y)
 have okj: ∀j,j7 (C.aL x j)∧(C.aL x j).held.length<C.n:=fun j=>by
  have hm:=qh (n:=C.n) (by omega) (C.held++x.take j)
  have hl:=CX (n:=C.n) (by omega) (C.held++x.take j)
  have hb: ∀y∈C.held++x.take j,y<256:=fun y hy=>(List.mem_append.1 hy).elim (ok.ok.hb y) fun h=>hx y (List.mem_of_mem_take h)
  exact ⟨⟨ok.ok.n1,ok.ok.n2,ok.ok.m1,ok.ok.m3,ok.ok.live,Nat.le_of_lt hl,fun y hy=>hb y (hm.2 y hy),hab⟩,hl⟩
 have tj: ∀j,(C.k6 x j).length≤50000000000:=fun j=>by
  have hm:=qh (n:=C.n) (by omega) (C.held++x.take j)
  have hb: ∀y∈C.held++x.take j,y<256:=fun y hy=>(List.mem_append.1 hy).elim (ok.ok.hb y) fun h=>hx y (List.mem_of_mem_take h)
  have h1:=qZ (n:=C.n) (cS C.n (C.held++x.take j)).1 (fun y hy=>⟨(hm.1 y hy).1,fun c hc=>hb c ((hm.1 y hy).2 c hc)⟩) (by omega) hn2
  have h2:=wE (n:=C.n) (by omega) (C.held++x.take j)
  have hlt:=ok.lt
  rw [List.length_append,List.length_take] at h2
  unfold EC.k6
  rw [List.length_append]
  omega
 obtain ⟨z1,z2⟩:=G3 C x ok.lt
 refine ⟨fun bs ts w=> ∃(j:Nat) (g:Nat→Nat),j≤x.length∧ad F (aD 1 bs ((x.drop j).map vB))∧bs.len≤bs.cap∧bc g 0 (C.aL x j).held.length=(C.aL x j).held∧Hp E w (al 1 ts ((C.k6 x j).map vB)::fM b (C.aL x j) sp::gH C sp::Ar C.A g::F),fun bs _ _=>bs.len,⟨0,f,Nat.zero_le _,hs,hcap,?_,?_⟩,?_⟩
 ·rw [z1];exact ok.row
 ·rw [z2]
  rw [z1]
  exact h
 rintro bs ts w ⟨j,g,hj,hbs,hbc,hrow,h⟩
 obtain ⟨okJ,hltJ⟩:=okj j
 have hbl:(x.drop j).length=bs.len:=by have:=(h.ah hbs.cons.cons.cons.cons).1;simpa using this
 have hbl2:=hbl
 rw [List.length_drop] at hbl2
 refine aa.dm (fun hp=> ?_) (fun hz=> ?_)
 ·have hp:0<bs.len:=by omega
  have htl:=tj j
  have h:=h.at 1
  refine aJ.mk h fun w h=> ?_
  (try simp only [aj,ak,Nat.zero_add,Nat.add_zero,Nat.reduceAdd,Bool.not_true,Bool.not_false,az,ay,Option.isNone])
  refine Ld.xb (b:=b) h rfl (Ld.xb (b:=b) h rfl ?_)
  obtain ⟨k,hk⟩: ∃k:Nat,(if i64 ((C.n:Int) - ((C.aL x j).held.length:Int))<((bs.len:Int)) then i64 ((C.n:Int) - ((C.aL x j).held.length:Int)) else ((bs.len:Int)))=(k:Int)∧1≤k∧k≤bs.len∧(C.aL x j).held.length+k≤C.n:=by
   rw [ae (by omega)]
   split
   ·exact ⟨C.n - (C.aL x j).held.length,by omega,by omega,by omega,by omega⟩
   ·exact ⟨bs.len,rfl,by omega,by omega,by omega⟩
  obtain ⟨hk,hk1,hk2,hk3⟩:=hk
  have hnn:((C.aL x j).n:Int)=(C.n:Int):=rfl
  rw [hnn]
  rw [hk]
  refine aJ.mk h fun w h=> ?_
  (try simp only [aj,ak,Nat.zero_add,Nat.add_zero,Nat.reduceAdd,Bool.not_true,Bool.not_false,az,ay,Option.isNone])
  obtain ⟨h0,e0⟩:=zm (n:=C.n) (mode:=C.mode)
  refine Ld.xb (b:=b) h rfl (Ld.xb (b:=b) (x:=sp) h rfl ?_)
  refine Gh (i:=0) h (ad.at 2 ad.own) h0 ?_
  rw [e0]
  refine Ld.xb (b:=b) h rfl ?_
  refine bj.Iq (h.ah hbs.cons.cons.cons.cons) (by omega) (by omega) (by omega) (by omega) (by omega) fun s52 hs52 hl52 hc52=> ?_
  rw [Int.toNat_zero,Int.toNat_natCast,Nat.sub_zero,List.drop_zero] at hs52
  rw [Int.toNat_zero,Int.toNat_natCast,Nat.sub_zero] at hl52
  have hpl:((x.drop j).take k).length=k:=by rw [List.length_take];omega
  have hpb: ∀y∈(x.drop j).take k,y<256:=fun y hy=>hx y (List.mem_of_mem_drop (List.mem_of_mem_take hy))
  have ts52:ad F (aD 1 s52 (((x.drop j).take k).map vB)):=hbs.imp fun w' hw=>by rw [List.map_take];exact hs52 w' hw
  have hlive:=ok.ok.zg
  refine Gg (A:=C.A) (p:=0) (q:=C.n) (h.at 3) (by omega) (by rw [hpl];exact hk3) ts52.cons.cons.cons hpb fun w h=> ?_
  have hrow2:bc (eD g (0+(C.aL x j).held.length) ((x.drop j).take k)) 0 ((C.aL x j).held.length+k)=(C.aL x j).held++(x.drop j).take k:=by
   apply List.ext_getElem
   ·rw [bY,List.length_append,hpl]
   ·intro i hi1 hi2
    rw [bY] at hi1
    rw [ey hi1]
    rcases Nat.lt_or_ge i (C.aL x j).held.length with hlt|hge
    ·rw [gf (by omega),List.getElem_append_left hlt]
     have:=ey (f:=g) (p:=0) hlt
     rw [←this]
     congr 1
    ·rw [show 0+i=(0+(C.aL x j).held.length)+(i - (C.aL x j).held.length) by omega,jM (by omega),List.getElem_append_right hge,List.getD_eq_getElem?_getD,List.getElem?_eq_getElem (by omega)]
     rfl
  have hnx:=Ho C x j k (by omega) (by rw [List.length_append,hpl];exact hk3)
  have hln:((C.aL x j).held++(x.drop j).take k).length=(C.aL x j).held.length+k:=by rw [List.length_append,hpl]
  rw [hln] at hnx
  generalize hG:eD g (0+(C.aL x j).held.length) ((x.drop j).take k)=g2 at h hrow2
  have hcut: ∀(w':World) (P:Sl→Prop),aD 1 bs ((x.drop j).map vB) w'→(∀s93:Sl,ad F (aD 1 s93 ((x.drop (j+k)).map vB))→s93.len=bs.len - k→s93.len≤s93.cap→P s93)→bj bs (k:Int) (bs.len:Int) (bs.cap:Int) 1 P:=fun w' P hw hP=>by
   refine bj.Iq hw (by omega) (by omega) (by omega) (by omega) (by omega) fun s93 hs93 hl93 hc93=>hP s93 (hbs.imp fun w2 hw2=> ?_) (by omega) hc93
   have:=hs93 w2 hw2
   rw [Int.toNat_natCast,Int.toNat_natCast,←List.map_drop,List.drop_drop,←List.map_take,List.take_of_length_le (by rw [List.length_drop];omega)] at this
   exact this
  have h:=(zM h)
  refine a7.vA (fun w=>Hp E w (af b (.cells ⟨[.int .i64 (C.n:Int),.int .i64 ((C.aL x j).held.length:Int),.int .u8 (C.mode:Int),pA C.A,.slice sp.base sp.len sp.cap,.int .u32 (cT ((C.aL x j).held++(x.drop j).take k):Int),.int .u32 (cT (C.all++x):Int),.bool true,.bool C.closed]⟩ 139 (0,0))::al 1 ts ((C.k6 x j).map vB)::gH C sp::Ar C.A g2::F)) ?_ fun r' hr'=> ?_
  ·intro w h
   have h:Hp E w (af b (.cells ⟨[.int .i64 (C.n:Int),.int .i64 ((C.aL x j).held.length:Int),.int .u8 (C.mode:Int),pA C.A,.slice sp.base sp.len sp.cap,.int .u32 (cT ((C.aL x j).held++(x.drop j).take k):Int),.int .u32 (cT (C.all++x):Int),.bool true,.bool C.closed]⟩ 139 (0,0))::al 1 ts ((C.k6 x j).map vB)::gH C sp::Ar C.A g2::F):=h
   refine Ld.xb (b:=b) h rfl ?_
   rw [ae (by omega)]
   refine St.xs (b:=b) h rfl rfl fun w h=> ?_
   dsimp only [bN,aI] at h
   rw [show ((C.aL x j).held.length:Int)+(k:Int)=(((C.aL x j).held++(x.drop j).take k).length:Int) by rw [hln];omega] at h
   refine aJ.mk h fun w h=> ?_
   refine Ld.xb (b:=b) (x:=(((C.aL x j).held++(x.drop j).take k).length:Int)) h rfl (Ld.xb (b:=b) (x:=(C.n:Int)) h rfl ?_)
   refine aa.em (fun hfull=> ?_) (fun hnot=> ?_)
   ·have hfull:(C.aL x j).held.length+k=C.n:=by rw [hln] at hfull;omega
    rw [if_pos hfull,if_pos hfull] at hnx
    have okY:j7 {C.aL x j with held:=(C.aL x j).held++(x.drop j).take k}:=⟨ok.ok.n1,ok.ok.n2,ok.ok.m1,ok.ok.m3,ok.ok.live,by dsimp only;rw [hln];exact Nat.le_of_eq hfull,fun y hy=>(List.mem_append.1 hy).elim (okJ.hb y) (hpb y),hab⟩
    have hbs2:=dk (x:=(C.aL x j).held++(x.drop j).take k) (by rw [hln];omega) okY.hb (by rw [hln];omega)
    refine Il (C:={C.aL x j with held:=(C.aL x j).held++(x.drop j).take k}) (sp:=sp) (f:=g2) okY (by dsimp only;rw [hln];omega) (zM (h.at 1)) (by dsimp only;rw [hln];exact hrow2) fun s90 g3 w h=> ?_
    have h:=h.at 4
    have l1:=(h.at 1).aV
    have l2:=h.aV
    rw [List.length_map,Nat.mul_one] at l1 l2
    have l1:s90.len=(c6 ((C.aL x j).held++(x.drop j).take k)).length:=l1.symm
    refine aK (s:=ts) (n:=s90.len) me (by decide) (.inl ⟨5,by kernel_rfl⟩) h (.inl ⟨s90.base,s90.len,s90.cap,rfl,rfl,h.ah (ad.at 1 ad.own)⟩) (by rw [List.length_map,Nat.mul_one,l1]) ee (by unfold c6 at l1;omega) (by unfold c6 at l1;omega) fun s92 w h _=> ?_
    have h:=h.no 1
    refine hcut w _ (h.ah hbs.cons.cons.cons.cons) fun s93 ht93 hl93 hc93=> ?_
    rw [←List.map_append] at h
    refine ⟨⟨j+k,g3,by omega,ht93,hc93,?_,?_⟩,by omega⟩
    ·rw [hnx.1];rfl
    ·rw [hnx.1,hnx.2];exact h
   ·have hnot: ¬(C.aL x j).held.length+k=C.n:=by rw [hln] at hnot;omega
    rw [if_neg hnot,if_neg hnot,List.append_nil] at hnx
    refine hcut w _ (h.ah hbs.cons.cons.cons.cons) fun s93 ht93 hl93 hc93=> ?_
    refine ⟨⟨j+k,g2,by omega,ht93,hc93,?_,?_⟩,by omega⟩
    ·rw [hnx.1];dsimp only;rw [hln];exact hrow2
    ·rw [hnx.1,hnx.2];exact h.at 1
  ·refine aJ.mk h fun w h=> ?_
   refine bj.Iq (h.ah hbs.cons.cons.cons.cons) (by omega) (by omega) (by omega) (by omega) (by omega) fun s58 hs58 hl58 hc58=> ?_
   rw [Int.toNat_zero,Int.toNat_natCast,Nat.sub_zero,List.drop_zero] at hs58
   have ts58:ad F (aD 1 s58 (((x.drop j).take k).map vB)):=hbs.imp fun w' hw=>by rw [List.map_take];exact hs58 w' hw
   have feed: ∀(b':Nat) (w:World),Hp E w (af b' (.cells ⟨[.slice s58.base s58.len s58.cap]⟩ 26 (0,0))::fM b (C.aL x j) sp::al 1 ts ((C.k6 x j).map vB)::gH C sp::Ar C.A g2::F)→
     Cl Tryz.prog [ar .u32] fQ ⟨[.int .u32 (cT (C.aL x j).held:Int),.slice (some ⟨b',0,none⟩) 1 1]⟩ w fun r63 w_62=>St ⟨b,5,none⟩ (.int .u32 r63) w_62 fun w_65=>r' w_65:=fun b' w h=>
    J4 h ts58.cons.cons.cons okJ.hb hpb (by omega) fun w h=>hr' w h
   exact ⟨Ld.xb (b:=b) (x:=(cT (C.aL x j).held:Int)) h rfl (Nw.mk h fun b61 w h=>feed b61 w h),Nw.mk h fun b67 w h=>Ld.xb (b:=b) (x:=(cT (C.aL x j).held:Int)) h rfl (feed b67 w h)⟩
 ·have hj2:j=x.length:=by omega
  subst hj2
  obtain ⟨a1,a2⟩:=I4 C x
  rw [a1] at okJ hltJ hrow h
  rw [a2] at h
  refine hK ts w ?_
  exact bZ.mK (C:=C.wr x) (f:=g) ⟨okJ,hltJ,hrow,ok.peak⟩ h
end
end Go.Proofs.YtgglghjnakclmaaGreat
namespace Go.Proofs.YtgglghjnakclmaaGreat
open Go Go.Vc
set_option maxRecDepth 100000
theorem zH.ok (a:Sl) (R:Sl→Int→World→Prop) w (h:
 Cl Pg [kS] k7 ⟨[(ag a)]⟩ w fun (c:Sl) b=>
 Cl Pg [kS,kI] nX ⟨[(ag c)]⟩ b fun (e:Sl) (f:Int) d=>
 R e f d):Cl Pg [kS,kI] iv ⟨[(ag a)]⟩ w R:=co Tryz.f27 [] h
theorem Dy.ok (a:Int) (b:Sl) (R:Sl→Int→World→Prop) w (h:
 Cl Pg [kS,kI] iv ⟨[(ag b)]⟩ w fun (d:Sl) (e:Int) c=>
 Nw 26 ⟨[(ag b)]⟩ c fun g f=>
 Cl Pg [(ar .u32)] j0 ⟨[(ag (⟨some ⟨g,0,none⟩,1,1⟩:Sl))]⟩ f fun (i:Int) h=>
 Cl Pg [kS,kI] jD ⟨[(ni a),(.agg ⟨[(ni (b.len:Int)),(ni e),(.int .u32 i)]⟩)]⟩ h fun (k:Sl) (l:Int) j=>
 aa (l !=0)
 (R (⟨none,0,0⟩:Sl) 2 j)
 (Cl Pg [(.arr 258)] kn ⟨[(ag b)]⟩ j fun n m=>
 Nw 104 ⟨List.replicate 258 (.int .u8 0)⟩ m fun p o=>
 ax 258 ⟨p,0,none⟩ n o fun q=>
 Ld (.arr 258) ⟨p,0,none⟩ q fun r=>
 Cl Pg [kS,kI] qX ⟨[(.agg r)]⟩ q fun (t:Sl) (u:Int) s=>
 gw s fun v x=>
 aG (.arr 258) ⟨p,0,none⟩ v fun y=>
 Cl Pg [kS] gJ ⟨[(ag b)]⟩ x fun (a1:Sl) z=>
 v z∧
 Cl Pg [kS,kB] nu ⟨[(.agg y),(ag a1)]⟩ z fun (c1:Sl) (d1:Bool) b1=>
 v b1∧
 au Pg (Builtin.append_ #[142,142] 142 ⟨[(ag t),(ag c1)]⟩) kS b1 fun (f1:Sl) e1=>
 Cl Pg [kS] mf ⟨[(ag f1)]⟩ e1 fun (h1:Sl) g1=>
 au Pg (Builtin.append_ #[26,26] 26 ⟨[(ag k),(ag h1)]⟩) kS g1 fun (j1:Sl) i1=>
 R j1 0 i1)):Cl Pg [kS,kI] jW ⟨[(ni a),(ag b)]⟩ w R:=co Tryz.f78 [] h
theorem zb.ok (a:Sl) (R:(Array Value)→World→Prop) w (h:
 Nw 104 ⟨List.replicate 258 (.int .u8 0)⟩ w fun c b=>
 Cl Pg [kS] gJ ⟨[(ag a)]⟩ b fun (e:Sl) d=>
 Cl Pg [(.arr 258),kI] qy ⟨[(ag e)]⟩ d fun g (h:Int) f=>
 Nw 215 ⟨List.replicate 258 (ni 0)⟩ f fun j i=>
 ax 258 ⟨j,0,none⟩ g i fun k=>
 Ld (.arr 258) ⟨j,0,none⟩ k fun l=>
 Cl Pg [(.arr 258),kI] gD ⟨[(.agg l),(ni 15)]⟩ k fun n (o:Int) m=>
 Nw 104 ⟨List.replicate 258 (.int .u8 0)⟩ m fun q p=>
 ax 258 ⟨q,0,none⟩ n p fun r=>
 Ld (.arr 258) ⟨q,0,none⟩ r fun s=>
 ax 258 ⟨c,0,none⟩ s r fun t=>
 Ld (.arr 258) ⟨c,0,none⟩ t fun u=>
 R u t):Cl Pg [(.arr 258)] kn ⟨[(ag a)]⟩ w R:=co Tryz.f126 [] h
theorem za.ok (a:Sl) (R:Sl→World→Prop) w (h:
 Cl Pg [kS,kI] iv ⟨[(ag a)]⟩ w fun (c:Sl) (d:Int) b=>
 Cl Pg [kS] pd ⟨[(ag c)]⟩ b fun (f:Sl) e=>
 R f e):Cl Pg [kS] gJ ⟨[(ag a)]⟩ w R:=co Tryz.f129 [] h
end Go.Proofs.YtgglghjnakclmaaGreat
set_option maxRecDepth 20000
namespace Go.Vc
open Go
set_option linter.unusedSectionVars false
def gS (x y:Int×Int):Bool:=decide (x.1<y.1)||(decide (x.1=y.1)&&decide (x.2<y.2))
theorem iA {x y:Int×Int}:gS x y=true↔x.1<y.1∨(x.1=y.1∧x.2<y.2):=by simp [gS]
def kf (xs:List (Int×Int)):List (Int×Int):=xs.mergeSort fun x y=> !gS y x
section
variable {E w:World} {F:List HP}
theorem E5 (xs:List (Int×Int)):(kf xs).length=xs.length:=List.length_mergeSort ..
end
end Go.Vc
set_option maxRecDepth 20000
namespace Go.Hs
open Go Go.Vc
theorem ir (xs:List (Int×Int)):(kf xs).Perm xs:=List.mergeSort_perm ..
theorem r0 (xs:List (Int×Int)):(kf xs).Pairwise fun a b=>gS b a=false:=by
 have h:=List.pairwise_mergeSort (le:=fun x y:Int×Int=> !gS y x) (fun a b c h1 h2=>by
   simp only [Bool.not_eq_true',Bool.eq_false_iff,ne_eq,iA] at*;omega) (fun a b=>by
   simp only [Bool.or_eq_true,Bool.not_eq_true',Bool.eq_false_iff,ne_eq,iA];omega) xs
 exact h.imp fun {a b} h=>by simpa using h
theorem yk {a b:Int×Int} (h:a≠b) (h2:gS b a=false):gS a b=true:=by
 rw [iA]
 rw [Bool.eq_false_iff,ne_eq,iA] at h2
 have: ¬(a.1=b.1∧a.2=b.2):=fun e=>h (Prod.ext e.1 e.2)
 omega
theorem Bn {xs:List (Int×Int)} (hn:xs.Nodup):(kf xs).Pairwise fun a b=>gS a b=true:=by
 have h1:=r0 xs
 have h2:(kf xs).Nodup:=(ir xs).nodup_iff.2 hn
 exact (h1.and h2).imp fun {a b} h=>yk h.2 h.1
theorem wT (a:Int×Int):gS a a=false:=by rw [Bool.eq_false_iff,ne_eq,iA];omega
theorem G7 {a b:Int×Int} (h:gS a b=true):gS b a=false:=by rw [Bool.eq_false_iff,ne_eq,iA];rw [iA] at h;omega
theorem kX: ∀{S:List (Int×Int)},S.Pairwise (fun a b=>gS a b=true)→∀(j:Nat) (hj:j<S.length),S.countP (fun x=>gS x S[j])=j
 | [],_,j,hj=>by simp at hj
 |a::S,h,0,_=>by
  rw [List.pairwise_cons] at h
  rw [List.countP_cons,List.getElem_cons_zero,wT,List.countP_eq_zero.2 fun x hx=>by rw [G7 (h.1 x hx)];decide]
  rfl
 |a::S,h,j+1,hj=>by
  rw [List.pairwise_cons] at h
  have hj':j<S.length:=by simpa using hj
  rw [List.countP_cons,List.getElem_cons_succ,kX h.2 j hj',h.1 _ (List.getElem_mem hj')]
  rfl
theorem xC {S:List (Int×Int)} (h:S.Pairwise (fun a b=>gS a b=true)) {x:Int×Int} (hx:x∈S): ∃hj:S.countP (fun y=>gS y x)<S.length,S[S.countP (fun y=>gS y x)]=x:=by
 obtain ⟨j,hj,rfl⟩:=List.getElem_of_mem hx
 have:=kX h j hj
 exact ⟨by omega,by simp only [this]⟩
def fi {α:Type} [DecidableEq α] (acc:List α) (t:α):List α:=if t∈acc then acc else acc++ [t]
def gk {α:Type} [DecidableEq α] (l:List α):List α:=l.foldl fi []
theorem KJ {α:Type} [DecidableEq α] {acc:List α} {t x:α}:x∈fi acc t↔x∈acc∨x=t:=by
 unfold fi
 split
 ·rename_i h
  constructor
  ·exact .inl
  ·rintro (h1|rfl)
   ·exact h1
   ·exact h
 ·simp
theorem B0 {α:Type} [DecidableEq α] (l:List α) (t:α):gk (l++ [t])=fi (gk l) t:=by simp [gk]
theorem rH {α:Type} [DecidableEq α]: ∀(l acc:List α) (x:α),x∈l.foldl fi acc↔x∈acc∨x∈l
 | [],acc,x=>by simp
 |t::l,acc,x=>by
  rw [List.foldl_cons,rH l,KJ,List.mem_cons,or_assoc]
theorem qT {α:Type} [DecidableEq α] {l:List α} {x:α}:x∈gk l↔x∈l:=by
 rw [gk,rH];simp
end Go.Hs
set_option maxRecDepth 20000
namespace Go.Bw
open Go Go.Vc Go.Rk Go.Hs
theorem KN:SO gS:=⟨wT,fun a b c h1 h2=>by rw [iA] at*;omega,fun a b c h1 h2=>by
 rw [Bool.eq_false_iff] at*;simp only [ne_eq,iA] at*;omega⟩
def dd (l:List (Int×Int)):List (Int×Int):=gk (kf l)
theorem tF {S:List (Int×Int)} {k:Nat} (hk:k<S.length):gk (S.take (k+1))=fi (gk (S.take k)) S[k]:=by
 rw [List.take_add_one,List.getElem?_eq_getElem hk]
 exact B0 _ _
theorem rb {S:List (Int×Int)} (hS:S.Pairwise fun a b=>gS b a=false): ∀k,k≤S.length→(gk (S.take k)).Pairwise fun a b=>gS a b=true
 |0,_=>List.Pairwise.nil
 |k+1,hk=>by
  have ih:=rb hS k (by omega)
  rw [tF (by omega)]
  unfold fi
  split
  ·exact ih
  ·rename_i hn
   refine List.pairwise_append.2 ⟨ih,by simp,fun a ha b hb=> ?_⟩
   rw [List.mem_singleton] at hb
   subst hb
   have ha2:=qT.1 ha
   obtain ⟨i,hi,e⟩:=List.getElem_of_mem ha2
   rw [List.length_take] at hi
   rw [List.getElem_take] at e
   have h1:=List.pairwise_iff_getElem.1 hS i k (by omega) (by omega) (by omega)
   rw [e] at h1
   exact yk (fun e=>hn (by rw [←e];exact ha)) h1
theorem yf (l:List (Int×Int)):(dd l).Pairwise fun a b=>gS a b=true:=by
 have:=rb (r0 l) (kf l).length (Nat.le_refl _)
 rwa [List.take_length] at this
theorem Lk {l:List (Int×Int)} {p:Int×Int}:p∈dd l↔p∈l:=by unfold dd;rw [qT,(ir l).mem_iff]
def KM (l:List (Int×Int)) (p:Int×Int):Nat:=rk gS (dd l) p
theorem tN {S:List (Int×Int)}: ∀k,k≤S.length→(gk (S.take k)).length≤k∧(k≤(gk (S.take k)).length→(S.take k).Nodup)
 |0,_=>⟨by simp [gk],fun _=>by simp⟩
 |k+1,hk=>by
  have ih:=tN k (by omega:k≤S.length)
  rw [tF (by omega)]
  unfold fi
  split
  ·exact ⟨by omega,fun h=>by omega⟩
  ·rename_i hn
   rw [List.length_append,List.length_singleton]
   refine ⟨by omega,fun h=> ?_⟩
   rw [List.take_add_one,List.getElem?_eq_getElem (by omega)]
   refine List.nodup_append.2 ⟨ih.2 (by omega),by simp,fun a ha b hb=> ?_⟩
   simp only [Option.toList_some,List.mem_singleton] at hb
   subst hb
   exact fun e=>hn (by rw [qT,←e];exact ha)
theorem IY {l:List (Int×Int)} (h:l.length≤(dd l).length):l.Nodup:=by
 have:=(tN (S:=kf l) (kf l).length (Nat.le_refl _)).2
 rw [List.take_length,E5] at this
 exact (ir l).nodup_iff.1 (this h)
theorem GD {l:List (Int×Int)} (h:l.Nodup):dd l=kf l:=by
 have h2:(dd l).Perm (kf l):=by
  have hdn:(dd l).Nodup:=(yf l).imp fun {a b} hab e=>by subst e;rw [wT] at hab;cases hab
  refine (List.perm_ext_iff_of_nodup hdn ((ir l).nodup_iff.2 h)).2 fun a=> ?_
  rw [Lk,(ir l).mem_iff]
 exact ou KN h2 (yf l) (Bn h)
theorem ES {l:List (Int×Int)} (h:l.Nodup) (p:Int×Int):KM l p=rk gS l p:=by
 unfold KM rk
 rw [GD h,(ir l).countP_eq]
def key (t:List Nat) (h i:Nat):List Nat:=(t.drop i).take h
def KO (t:List Nat) (h:Nat) (f:Nat→Int×Int):Prop:= ∀i j,i≤t.length→j≤t.length→(gS (f i) (f j)=true↔lx (key t h i) (key t h j)=true)∧(f i=f j↔key t h i=key t h j)
def aU (t:List Nat) (f:Nat→Int×Int):List (Int×Int):=(List.range (t.length+1)).map f
theorem eh (t:List Nat) (f:Nat→Int×Int):(aU t f).length=t.length+1:=by simp [aU]
def ku (t:List Nat) (i:Nat):Int×Int:=if i<t.length then (1+(t.getD i 0:Int),0) else (0,0)
theorem sJ {t:List Nat} {h i:Nat}:(key t h i).length=min h (t.length - i):=by unfold key;rw [List.length_take,List.length_drop]
theorem done {t:List Nat} {h:Nat} {f:Nat→Int×Int} (hf:KO t h f) (hd:t.length+1≤(dd (aU t f)).length) {i:Nat} (hi:i≤t.length):KM (aU t f) (f i)=iZ t i:=by
 have hn:(aU t f).Nodup:=IY (by rw [eh];exact hd)
 have hinj: ∀a b,a≤t.length→b≤t.length→key t h a=key t h b→a=b:=fun a b ha hb e=>by
  have hfe:=((hf a b ha hb).2).2 e
  have hp:=List.pairwise_map.1 hn
  rcases Nat.lt_trichotomy a b with h1|h1|h1
  ·have:=List.pairwise_iff_getElem.1 hp a b (by simp;omega) (by simp;omega) h1
   simp only [List.getElem_range] at this
   exact absurd hfe this
  ·exact h1
  ·have:=List.pairwise_iff_getElem.1 hp b a (by simp;omega) (by simp;omega) h1
   simp only [List.getElem_range] at this
   exact absurd hfe.symm this
 rw [ES hn]
 unfold rk iZ rk aU rows
 rw [List.countP_map]
 refine List.countP_congr fun j hj=> ?_
 rw [List.mem_range] at hj
 simp only [Function.comp]
 rw [(hf j i (by omega) hi).1]
 unfold sl
 by_cases hij:j=i
 ·subst hij;rw [wi,wi]
 ·have hne:key t h j≠key t h i:=fun e=>hij (hinj j i (by omega) hi e)
  have hs: ∀a,t.drop a=key t h a++t.drop (a+h):=fun a=>by
   unfold key
   rw [←List.drop_drop,List.take_append_drop]
  rw [hs j,hs i,F6 _ _ _ _ hne]
  ·intro hlt
   rw [sJ,sJ] at hlt
   exact List.drop_eq_nil_of_le (by omega)
  ·intro hlt
   rw [sJ,sJ] at hlt
   exact List.drop_eq_nil_of_le (by omega)
end Go.Bw
set_option maxRecDepth 20000
namespace Go.Vc
open Go
section
variable {α:Type} {g:α→List Value} {sz:Nat}
theorem Kp (hg: ∀x,(g x).length=sz) {l:List α} {j k:Nat} {v:Value} {x:α} (hj:j<l.length) (hk:k<sz) (hx:g x=(g l[j]).set k v):(l.flatMap g).set (j*sz+k) v=(l.set j x).flatMap g:=by
 have h0:0<sz:=by omega
 have hm:(j+1)*sz≤l.length*sz:=Nat.mul_le_mul_right _ hj
 rw [Nat.succ_mul] at hm
 apply List.ext_getElem?
 intro i
 have hfl:=eT hg l
 have hfl2:=eT hg (l.set j x)
 rw [List.length_set] at hfl2
 by_cases hi:i<l.length*sz
 ·obtain ⟨q,hq⟩: ∃q,i/sz=q:=⟨_,rfl⟩
  obtain ⟨r,hr⟩: ∃r,i % sz=r:=⟨_,rfl⟩
  have hdi:q<l.length:=by rw [←hq,Nat.div_lt_iff_lt_mul h0];exact hi
  have hmi:q*sz+r=i:=by rw [←hq,←hr];exact Nat.div_add_mod' i sz
  have hlt:r<sz:=by rw [←hr];exact Nat.mod_lt _ h0
  clear hq hr
  subst hmi
  have e1:=nJ hg l q r hdi hlt
  have e2:=nJ hg (l.set j x) q r (by rw [List.length_set];exact hdi) hlt
  have hd: ∀a b:Nat,b<sz→(a*sz+b)/sz=a:=fun a b hb=>by rw [Nat.mul_comm,Nat.mul_add_div h0,Nat.div_eq_of_lt hb,Nat.add_zero]
  have hmd: ∀a b:Nat,b<sz→(a*sz+b) % sz=b:=fun a b hb=>by rw [Nat.mul_comm,Nat.mul_add_mod,Nat.mod_eq_of_lt hb]
  rw [e2,List.getElem?_set,e1,List.getElem_set]
  by_cases hji:j=q
  ·subst hji
   rw [if_pos rfl,hx,List.getElem?_set,hg]
   by_cases hki:k=r
   ·subst hki
    rw [if_pos rfl,if_pos (by rw [hfl];omega),if_pos rfl,if_pos hk]
   ·rw [if_neg (by omega),if_neg hki]
  ·rw [if_neg hji,if_neg (fun e=>hji ((hd j k hk).symm.trans ((congrArg (fun y=>y/sz) e).trans (hd q r hlt))))]
 ·rw [List.getElem?_eq_none (by rw [List.length_set,hfl];omega),List.getElem?_eq_none (by rw [hfl2];omega)]
end
section
variable {E w:World} {F:List HP} {α:Type} {g:α→List Value} {sz:Nat} {s:Sl}
theorem an.setCell {l:List α} {i:Int} {j k:Nat} {v:Value} {x:α} {K:World→Prop} (hg: ∀x,(g x).length=sz) (h0:k<sz) (hh:Hp E w (al sz s (l.flatMap g)::F)) (hi:i=(j:Int)) (hj:j<l.length) (hv:aF v=true) (hx:g x=(g l[j]).set k v)
  (h: ∀w',Hp E w' (al sz s ((l.set j x).flatMap g)::F)→K w'):an s i sz fun q=>St (q.add k) v w K:=by
 subst hi
 have hlen:=aD.len hg (by omega) (hh.ah ad.own)
 refine St.KL hh h0 (by omega) (by omega) hv fun w' h'=>h w' ?_
 rw [Int.toNat_natCast,Kp hg hj h0 hx] at h'
 exact h'
end
end Go.Vc
set_option maxRecDepth 20000
namespace Go.Vc
open Go
theorem IS {P:Program} {t ty e e2:TypeId} {E w:World} {F:List HP} {s:Sl} {bs:List Nat} {x:Nat} {cs:Array Value} {K:Sl→World→Prop} (he:bP P t e 1 1) (hcs:cs=⟨[vB x]⟩) (hh:Hp E w (al 1 s (bs.map vB)::F)) (hb:bs.length≤bO)
  (h: ∀s' w',Hp E w' (al 1 s' ((bs++ [x]).map vB)::F)→s'.len=bs.length+1→K s' w'):
  Nw e2 cs w fun b w1=>au P (Builtin.append_ #[t,t] ty ⟨[.slice s.base s.len s.cap,.slice (some ⟨b,0,none⟩) 1 1]⟩) kS w1 K:=by
 have hl:=hh.aV
 rw [List.length_map,Nat.mul_one] at hl
 rw [aC] at hb
 refine Nw.mk hh fun b w1 h1=>aK (ys:= [vB x]) (n:=1) he (by decide) (.inl ⟨e,he.und⟩) h1.p1 (.inl ⟨some ⟨b,0,none⟩,1,1,rfl,rfl,h1.ah (ad.aH (by rw [hcs]) rfl)⟩) rfl (fun y hy=>by
  rw [List.mem_singleton] at hy;subst hy;rfl) (by omega) (by omega) fun s' w2 h2 hs'=>h s' w2 ?_ (by omega)
 rw [List.map_append]
 exact h2.p1.drop
end Go.Vc
namespace Go.Proofs.YtgglghjnakclmaaGreat
open Go Go.Vc Go.Bw
theorem Ii:bP Tryz.prog 26 5 1 1:= .of (by kernel_rfl) (by kernel_rfl)
section
variable {E w:World} {F:List HP}
def wB (t:List Nat) (i k:Int):Bool:=decide (0≤i∧i≤t.length∧0≤k∧k≤t.length)&&sl t i.toNat k.toNat
end
end Go.Proofs.YtgglghjnakclmaaGreat
set_option maxRecDepth 20000
namespace Go.Vc
open Go
def mq (a:Int×Int):Value:= .agg ⟨[.int .i64 a.1,.int .i64 a.2]⟩
end Go.Vc
namespace Go.Proofs.YtgglghjnakclmaaGreat
open Go Go.Vc Go.Bw Go.Hs
section
variable {E w:World} {F:List HP}
theorem A0:bP Tryz.prog 142 3 1 8:= .of (by kernel_rfl) (by kernel_rfl)
end
end Go.Proofs.YtgglghjnakclmaaGreat
set_option maxRecDepth 20000
namespace Go.Proofs.YtgglghjnakclmaaGreat
open Go Go.Vc Go.Bw Go.Hs
section
variable {E w:World} {F:List HP}
theorem uF {l:List Nat} {k:Nat} (hk:k<l.length):((l.take (k+1)).filter fun i=>i !=0)=((l.take k).filter fun i=>i !=0)++if l[k]=0 then [] else [l[k]]:=by
 rw [List.take_add_one,List.getElem?_eq_getElem hk,List.filter_append]
 congr 1
 by_cases e:l[k]=0
 ·rw [if_pos e];simp [e]
 ·rw [if_neg e];simp [e]
end
end Go.Proofs.YtgglghjnakclmaaGreat
namespace Go.Proofs.YtgglghjnakclmaaGreat
open Go Go.Vc
set_option maxRecDepth 100000
theorem EU.ok (a:Sl) (R:Sl→World→Prop) w (h:
 Cl Pg [(.arr 257)] oT ⟨[]⟩ w fun c b=>
 Cl Pg [(.arr 257),kS,kI] oa ⟨[(.agg c),(ag a)]⟩ b fun e (f:Sl) (g:Int) d=>
 Nw 273 ⟨List.replicate 256 (.int .u8 0)++ [(ni 0)]⟩ d fun i h=>
 ax 257 ⟨i,0,none⟩ e h fun j=>
 Ld (.arr 257) ⟨i,0,none⟩ j fun k=>
 Cl Pg [kS,kI] pn ⟨[(.agg k)]⟩ j fun (m:Sl) (n:Int) l=>
 au Pg (Builtin.append_ #[142,142] 142 ⟨[(ag f),(ag m)]⟩) kS l fun (p:Sl) o=>
 R p o):Cl Pg [kS] pd ⟨[(ag a)]⟩ w R:=co Tryz.f184 [] h
theorem DW.ok (a:(Array Value)) (b:Sl) (R:(Array Value)→Sl→Int→World→Prop) w (h:
 Nw 273 a w fun d c=>
 Nw 273 ⟨List.replicate 256 (.int .u8 0)++ [(ni 0)]⟩ c fun f e=>
 a7 (fun (r:World)=>
 bq (⟨none,0,0⟩:Sl) 0 r fun s t (u:Sl) (v:Int) x=>
 aa (decide (v<(b.len:Int)))
 (gw x fun y z=>
 aG (.arr 256) (Addr.add ⟨d,0,none⟩ 0) y fun a1=>
 an b v 1 fun b1=>
 aG (ar .u8) b1 y fun (c1:Int)=>
 (Cl Pg [(.arr 256),kI] lk ⟨[(.agg a1),(.int .u8 c1)]⟩ z fun e1 (f1:Int) d1=>
 y d1∧
 Nw 110 ⟨List.replicate 256 (.int .u8 0)⟩ d1 fun h1 g1=>
 y g1∧
 ax 256 ⟨h1,0,none⟩ e1 g1 fun i1=>
 y i1∧
 Ld (.arr 256) ⟨h1,0,none⟩ i1 fun j1=>
 ax 256 (Addr.add ⟨d,0,none⟩ 0) j1 i1 fun k1=>
 aa (f1==0)
 (Ld kI (Addr.add ⟨d,0,none⟩ 256) k1 fun (l1:Int)=>
 St (Addr.add ⟨d,0,none⟩ 256) (ni (i64 (l1+1))) k1 fun m1=>
 s u (i64 (v+1)) m1∧t u (i64 (v+1)) m1<t u v x)
 (Ld kI (Addr.add ⟨d,0,none⟩ 256) k1 fun (n1:Int)=>
 Cl Pg [kS] gv ⟨[(ni n1)]⟩ k1 fun (p1:Sl) o1=>
 au Pg (Builtin.append_ #[142,142] 142 ⟨[(ag u),(ag p1)]⟩) kS o1 fun (r1:Sl) q1=>
 Nw 3 ⟨[(ni (i64 (f1+1)))]⟩ q1 fun t1 s1=>
 au Pg (Builtin.append_ #[142,142] 142 ⟨[(ag r1),(ag (⟨some ⟨t1,0,none⟩,1,1⟩:Sl))]⟩) kS s1 fun (v1:Sl) u1=>
 St (Addr.add ⟨d,0,none⟩ 256) (ni 0) u1 fun x1=>
 s v1 (i64 (v+1)) x1∧t v1 (i64 (v+1)) x1<t u v x))∧
 (Nw 110 ⟨List.replicate 256 (.int .u8 0)⟩ z fun z1 y1=>
 y y1∧
 Cl Pg [(.arr 256),kI] lk ⟨[(.agg a1),(.int .u8 c1)]⟩ y1 fun b2 (c2:Int) a2=>
 y a2∧
 ax 256 ⟨z1,0,none⟩ b2 a2 fun d2=>
 y d2∧
 Ld (.arr 256) ⟨z1,0,none⟩ d2 fun e2=>
 ax 256 (Addr.add ⟨d,0,none⟩ 0) e2 d2 fun f2=>
 aa (c2==0)
 (Ld kI (Addr.add ⟨d,0,none⟩ 256) f2 fun (g2:Int)=>
 St (Addr.add ⟨d,0,none⟩ 256) (ni (i64 (g2+1))) f2 fun h2=>
 s u (i64 (v+1)) h2∧t u (i64 (v+1)) h2<t u v x)
 (Ld kI (Addr.add ⟨d,0,none⟩ 256) f2 fun (i2:Int)=>
 Cl Pg [kS] gv ⟨[(ni i2)]⟩ f2 fun (k2:Sl) j2=>
 au Pg (Builtin.append_ #[142,142] 142 ⟨[(ag u),(ag k2)]⟩) kS j2 fun (m2:Sl) l2=>
 Nw 3 ⟨[(ni (i64 (c2+1)))]⟩ l2 fun o2 n2=>
 au Pg (Builtin.append_ #[142,142] 142 ⟨[(ag m2),(ag (⟨some ⟨o2,0,none⟩,1,1⟩:Sl))]⟩) kS n2 fun (q2:Sl) p2=>
 St (Addr.add ⟨d,0,none⟩ 256) (ni 0) p2 fun r2=>
 s q2 (i64 (v+1)) r2∧t q2 (i64 (v+1)) r2<t u v x)))
 (Ld (.arr 257) ⟨d,0,none⟩ x fun s2=>
 ax 257 ⟨f,0,none⟩ s2 x fun t2=>
 Ld (.arr 257) ⟨f,0,none⟩ t2 fun u2=>
 R u2 u 0 t2)) fun g=>
 Ld (.arr 257) ⟨d,0,none⟩ e fun h=>
 Cl Pg [kB] jl ⟨[(.agg h)]⟩ e fun (j:Bool) i=>
 aa (!j)
 (Ld (.arr 257) ⟨d,0,none⟩ i fun k=>
 ax 257 ⟨f,0,none⟩ k i fun l=>
 Ld (.arr 257) ⟨f,0,none⟩ l fun m=>
 R m (⟨none,0,0⟩:Sl) 2 l)
 (Ld kI (Addr.add ⟨d,0,none⟩ 256) i fun (n:Int)=>
 aa (decide ((b.len:Int)>(i64 ((2147483647:Int) - n))))
 (Ld (.arr 257) ⟨d,0,none⟩ i fun o=>
 ax 257 ⟨f,0,none⟩ o i fun p=>
 Ld (.arr 257) ⟨f,0,none⟩ p fun q=>
 R q (⟨none,0,0⟩:Sl) 2 p)
 (g i))):Cl Pg [(.arr 257),kS,kI] oa ⟨[(.agg a),(ag b)]⟩ w R:=co Tryz.f248 [(2,[]),(12,[(7,kS),(8,kI)])] h
theorem Fe.ok (R:(Array Value)→World→Prop) w (h:
 Nw 273 ⟨List.replicate 256 (.int .u8 0)++ [(ni 0)]⟩ w fun b a=>
 Cl Pg [(.arr 256)] oZ ⟨[]⟩ a fun d c=>
 rl Pg 273 [(0,(.agg d))] fun e=>
 ax 257 ⟨b,0,none⟩ e c fun f=>
 Ld (.arr 257) ⟨b,0,none⟩ f fun g=>
 R g f):Cl Pg [(.arr 257)] oT ⟨[]⟩ w R:=co Tryz.f249 [] h
theorem Fw.ok (a:(Array Value)) (R:Sl→Int→World→Prop) w (h:
 Nw 273 a w fun c b=>
 Ld (.arr 257) ⟨c,0,none⟩ b fun d=>
 Cl Pg [kB] jl ⟨[(.agg d)]⟩ b fun (f:Bool) e=>
 aa (!f)
 (R (⟨none,0,0⟩:Sl) 2 e)
 (Ld kI (Addr.add ⟨c,0,none⟩ 256) e fun (g:Int)=>
 Cl Pg [kS] gv ⟨[(ni g)]⟩ e fun (i:Sl) h=>
 Nw 3 ⟨[(ni 257)]⟩ h fun k j=>
 au Pg (Builtin.append_ #[142,142] 142 ⟨[(ag i),(ag (⟨some ⟨k,0,none⟩,1,1⟩:Sl))]⟩) kS j fun (m:Sl) l=>
 R m 0 l)):Cl Pg [kS,kI] pn ⟨[(.agg a)]⟩ w R:=co Tryz.f250 [] h
theorem BT.ok (a:(Array Value)) (R:Bool→World→Prop) w (h:
 Nw 273 a w fun c b=>
 Ld (.arr 256) (Addr.add ⟨c,0,none⟩ 0) b fun d=>
 Cl Pg [kB] ma ⟨[(.agg d)]⟩ b fun (f:Bool) e=>
 aa f
 (Ld kI (Addr.add ⟨c,0,none⟩ 256) e fun (g:Int)=>
 aa (decide (g≥0))
 (Ld kI (Addr.add ⟨c,0,none⟩ 256) e fun (h:Int)=>
 R (decide (h≤2147483647)) e)
 (R false e))
 (R false e)):Cl Pg [kB] jl ⟨[(.agg a)]⟩ w R:=co Tryz.f296 [] h
theorem EJ.ok (a:Int) (R:Sl→World→Prop) w (h:
 bq a (⟨none,0,0⟩:Sl) w fun b c (d:Int) (e:Sl) f=>
 aa (decide (d>0))
 ((2:Int)≠0∧
 aa (((Int.tmod d (2:Int)):Int)==1)
 (Nw 3 ⟨[(ni 0)]⟩ f fun h g=>
 au Pg (Builtin.append_ #[142,142] 142 ⟨[(ag e),(ag (⟨some ⟨h,0,none⟩,1,1⟩:Sl))]⟩) kS g fun (j:Sl) i=>
 (2:Int)≠0∧
 b (i64 (Int.tdiv (i64 (d - 1)) (2:Int))) j i∧c (i64 (Int.tdiv (i64 (d - 1)) (2:Int))) j i<c d e f)
 (Nw 3 ⟨[(ni 1)]⟩ f fun l k=>
 au Pg (Builtin.append_ #[142,142] 142 ⟨[(ag e),(ag (⟨some ⟨l,0,none⟩,1,1⟩:Sl))]⟩) kS k fun (n:Sl) m=>
 (2:Int)≠0∧
 b (i64 (Int.tdiv (i64 (d - 2)) (2:Int))) n m∧c (i64 (Int.tdiv (i64 (d - 2)) (2:Int))) n m<c d e f))
 (R e f)):Cl Pg [kS] gv ⟨[(ni a)]⟩ w R:=co Tryz.f298 [(5,[(0,kI),(3,kS)])] h
end Go.Proofs.YtgglghjnakclmaaGreat
namespace Go.Proofs.YtgglghjnakclmaaGreat
open Go Go.Vc
set_option maxRecDepth 100000
theorem Ce.ok (a:Sl) (R:Sl→World→Prop) w (h:
 bq (⟨none,0,0⟩:Sl) 0 w fun b c (d:Sl) (e:Int) f=>
 aa (decide (e<(a.len:Int)))
 (bq 0 e f fun g h (i:Int) (j:Int) k=>
 aa (decide (j<(i64 (e+8))))
 (aa (decide (j<(a.len:Int)))
 (an a j 1 fun l=>
 Ld kI l k fun (m:Int)=>
 g (i64 ((i64 ((2:Int)*i))+m)) (i64 (j+1)) k∧h (i64 ((i64 ((2:Int)*i))+m)) (i64 (j+1)) k<h i j k)
 (g (i64 ((2:Int)*i)) (i64 (j+1)) k∧h (i64 ((2:Int)*i)) (i64 (j+1)) k<h i j k))
 (Nw 5 ⟨[(.int .u8 (u8 i))]⟩ k fun o n=>
 au Pg (Builtin.append_ #[26,26] 26 ⟨[(ag d),(ag (⟨some ⟨o,0,none⟩,1,1⟩:Sl))]⟩) kS n fun (q:Sl) p=>
 b q (i64 (e+8)) p∧c q (i64 (e+8)) p<c d e f))
 (R d f)):Cl Pg [kS] mf ⟨[(ag a)]⟩ w R:=co Tryz.f130 [(7,[(3,kS),(4,kI)]),(17,[(5,kI),(6,kI)])] h
end Go.Proofs.YtgglghjnakclmaaGreat
namespace Go.Proofs.YtgglghjnakclmaaGreat
open Go Go.Vc
set_option maxRecDepth 100000
theorem EN.ok (R:(Array Value)→World→Prop) w (h:
 Nw 110 ⟨List.replicate 256 (.int .u8 0)⟩ w fun b a=>
 Nw 110 ⟨List.replicate 256 (.int .u8 0)⟩ a fun d c=>
 c8 0 c fun e f (g:Int) h=>
 aa (decide (g<256))
 (aw ⟨d,0,none⟩ 256 g 1 fun i=>
 St i (.int .u8 (u8 g)) h fun j=>
 e (i64 (g+1)) j∧f (i64 (g+1)) j<f g h)
 (Ld (.arr 256) ⟨d,0,none⟩ h fun k=>
 ax 256 ⟨b,0,none⟩ k h fun l=>
 Ld (.arr 256) ⟨b,0,none⟩ l fun m=>
 R m l)):Cl Pg [(.arr 256)] oZ ⟨[]⟩ w R:=co Tryz.f222 [(7,[(2,kI)])] h
theorem Df.ok (a:(Array Value)) (b:Int) (R:(Array Value)→Int→Bool→World→Prop) w (h:
 Nw 110 a w fun d c=>
 Nw 110 ⟨List.replicate 256 (.int .u8 0)⟩ c fun f e=>
 aa (decide (b<0))
 (Ld (.arr 256) ⟨d,0,none⟩ e fun g=>
 ax 256 ⟨f,0,none⟩ g e fun h=>
 Ld (.arr 256) ⟨f,0,none⟩ h fun i=>
 R i 0 false h)
 (aa (decide (b>255))
 (Ld (.arr 256) ⟨d,0,none⟩ e fun j=>
 ax 256 ⟨f,0,none⟩ j e fun k=>
 Ld (.arr 256) ⟨f,0,none⟩ k fun l=>
 R l 0 false k)
 (aw ⟨d,0,none⟩ 256 b 1 fun m=>
 Ld (ar .u8) m e fun (n:Int)=>
 c8 b e fun o p (q:Int) r=>
 aa (decide (q>0))
 (aw ⟨d,0,none⟩ 256 (i64 (q - 1)) 1 fun s=>
 Ld (ar .u8) s r fun (t:Int)=>
 aw ⟨d,0,none⟩ 256 q 1 fun u=>
 St u (.int .u8 t) r fun v=>
 o (i64 (q - 1)) v∧p (i64 (q - 1)) v<p q r)
 (aw ⟨d,0,none⟩ 256 0 1 fun x=>
 St x (.int .u8 n) r fun y=>
 Ld (.arr 256) ⟨d,0,none⟩ y fun z=>
 ax 256 ⟨f,0,none⟩ z y fun a1=>
 Ld (.arr 256) ⟨f,0,none⟩ a1 fun b1=>
 R b1 n true a1)))):Cl Pg [(.arr 256),(ar .u8),kB] n6 ⟨[(.agg a),(ni b)]⟩ w R:=co Tryz.f226 [(12,[(8,kI)])] h
theorem BA.ok (a:(Array Value)) (R:Bool→World→Prop) w (h:
 Nw 110 a w fun c b=>
 c8 0 b fun d e (f:Int) g=>
 aa (decide (f<256))
 (c8 0 g fun h i (j:Int) k=>
 aa (decide (j<f))
 (aJ k fun l=>
 aw ⟨c,0,none⟩ 256 j 1 fun m=>
 Ld (ar .u8) m l fun (n:Int)=>
 aw ⟨c,0,none⟩ 256 f 1 fun o=>
 Ld (ar .u8) o l fun (p:Int)=>
 aa (n==p)
 (R false l)
 (h (i64 (j+1)) l∧i (i64 (j+1)) l<i j k))
 (d (i64 (f+1)) k∧e (i64 (f+1)) k<e f g))
 (R true g)):Cl Pg [kB] ma ⟨[(.agg a)]⟩ w R:=co Tryz.f288 [(5,[(3,kI)]),(12,[(4,kI)])] h
theorem F4.ok (a:(Array Value)) (b:Int) (R:(Array Value)→Int→World→Prop) w (h:
 Nw 110 a w fun d c=>
 Nw 110 ⟨List.replicate 256 (.int .u8 0)⟩ c fun f e=>
 c8 0 e fun g h (i:Int) j=>
 aa (decide (i<256))
 (aw ⟨d,0,none⟩ 256 i 1 fun k=>
 Ld (ar .u8) k j fun (l:Int)=>
 aa (l==b)
 (Ld (.arr 256) ⟨d,0,none⟩ j fun m=>
 Cl Pg [(.arr 256),(ar .u8),kB] n6 ⟨[(.agg m),(ni i)]⟩ j fun o (p:Int) (q:Bool) n=>
 Nw 110 ⟨List.replicate 256 (.int .u8 0)⟩ n fun s r=>
 ax 256 ⟨s,0,none⟩ o r fun t=>
 Ld (.arr 256) ⟨s,0,none⟩ t fun u=>
 ax 256 ⟨f,0,none⟩ u t fun v=>
 Ld (.arr 256) ⟨f,0,none⟩ v fun x=>
 R x i v)
 (g (i64 (i+1)) j∧h (i64 (i+1)) j<h i j))
 (Ld (.arr 256) ⟨d,0,none⟩ j fun y=>
 ax 256 ⟨f,0,none⟩ y j fun z=>
 Ld (.arr 256) ⟨f,0,none⟩ z fun a1=>
 R a1 (-1) z)):Cl Pg [(.arr 256),kI] lk ⟨[(.agg a),(.int .u8 b)]⟩ w R:=co Tryz.f297 [(5,[(6,kI)])] h
end Go.Proofs.YtgglghjnakclmaaGreat
namespace Go.Srt
def pe (b:List Nat) (i:Nat):Nat→Nat
 |0=>0
 |t+1=>2*pe b i t+b.getD (i+t) 0
theorem Hk (b:List Nat) (j:Nat):pe b (8*j) 8=j6 b j:=by
 simp only [pe,j6,Nat.add_zero]
 omega
theorem Cq {b:List Nat} (h:aS b) (i:Nat): ∀t,pe b i t<2^t
 |0=>by simp [pe]
 |t+1=>by
  have:=Cq h i t
  have:=h.getD (i+t)
  rw [pe,Nat.pow_succ];omega
end Go.Srt
namespace Go.af
open Go.Srt Go.aS
end Go.af
namespace Go.Sym
end Go.Sym
namespace Go.Proofs.YtgglghjnakclmaaGreat
open Go Go.Vc Go.Srt Go.aS Go.af Go.Sym
section
variable {E w:World} {F:List HP}
set_option maxRecDepth 20000
theorem wg (n k:Nat):Int.tdiv (n:Int) (k:Int)=((n/k:Nat):Int):=rfl
theorem wu (n k:Nat):Int.tmod (n:Int) (k:Int)=((n % k:Nat):Int):=rfl
theorem EZ {s:Sl} {bits:List Nat} {K:Sl→World→Prop} (h:Hp E w F) (hs:ad F (aD 1 s ((ints bits).map vI))) (hb:aS bits) (hn:bits.length≤10000000) (hK: ∀s' w',Hp E w' (OB s' (pack bits)::F)→K s' w'):
  Cl Tryz.prog [kS] mf ⟨[.slice s.base s.len s.cap]⟩ w K:=by
 refine Ce.ok _ _ _ ?_
 have hl:=Ai (h.ah hs)
 refine ⟨fun o i w=> ∃j:Nat,i=((8*j:Nat):Int)∧j≤(bits.length+7)/8∧Hp E w (OB o (fH bits j)::F),fun _ i _=>bits.length+8 - i.toNat,⟨0,rfl,by omega,h.a9 1⟩,?_⟩
 rintro o i w ⟨j,rfl,hj,h⟩
 refine aa.dm (fun hlt=> ?_) (fun hge=> ?_)
 ·refine ⟨fun v k w=> ∃t:Nat,k=((8*j+t:Nat):Int)∧t≤8∧v=(pe bits (8*j) t:Int)∧Hp E w (OB o (fH bits j)::F),fun _ k _=>8*j+8 - k.toNat,⟨0,by simp,by omega,rfl,h⟩,?_⟩
  rintro v k w ⟨t,rfl,ht,rfl,h⟩
  have ha:=Cq hb (8*j) t
  have hp:2^t≤2^8:=Nat.pow_le_pow_right (by decide) ht
  rw [ae (x:=((8*j:Nat):Int)+8) (by omega),ae (x:=(2:Int)*(pe bits (8*j) t:Int)) (by omega)]
  refine aa.dm (fun hlt2=> ?_) (fun hge2=> ?_)
  ·have hb1:=hb.getD (8*j+t)
   rw [ae (x:=((8*j+t:Nat):Int)+1) (by omega)]
   refine aa.dm (fun hin=> ?_) (fun hout=> ?_)
   ·have hin:8*j+t<bits.length:=by omega
    refine an.rI (h.drop.ah hs) rfl hin ?_
    have e:bits.getD (8*j+t) 0=bits[8*j+t]:=cI hin
    rw [e] at hb1
    rw [ae (by omega)]
    exact ⟨⟨t+1,by omega,by omega,by rw [pe,e];omega,h⟩,by first|omega|(dsimp only;omega)⟩
   ·have e:bits.getD (8*j+t) 0=0:=dz (by omega)
    exact ⟨⟨t+1,by omega,by omega,by rw [pe,e];omega,h⟩,by first|omega|(dsimp only;omega)⟩
  ·have ht8:t=8:=by omega
   subst ht8
   rw [Hk] at ha⊢
   rw [dE (by omega)]
   refine Nw.mk h fun b w h=>Dv h (by rw [mz];omega) fun s' w h=>⟨⟨j+1,by omega,by omega,?_⟩,by first|omega|(dsimp only;omega)⟩
   have:fH bits (j+1)=fH bits j++ [j6 bits j]:=by unfold fH;rw [List.range_succ,List.map_append];rfl
   rw [this];exact h
 ·have hj2:j=(bits.length+7)/8:=by omega
  subst hj2
  exact hK _ _ h
end
end Go.Proofs.YtgglghjnakclmaaGreat
namespace Go.Proofs.YtgglghjnakclmaaGreat
open Go Go.Vc Go.Srt Go.Inc Go.aS Go.af Go.Sym
section
variable {E w:World} {F:List HP}
set_option maxRecDepth 20000
abbrev bL (b:Nat) (L:List Nat):HP:=af b (.cells ⟨bh L⟩ 110 (0,0))
theorem wQ:(⟨List.replicate 256 (.int .u8 0)⟩:Array Value).size=256:=by simp
theorem IK {L:List Nat} (h:L.length=256):(⟨bh L⟩:Array Value).size=256:=by simp [h]
theorem ta {L:List Nat} {i:Nat} (h:i<L.length):(⟨bh L⟩:Array Value).toList[i]? =some (Sc.enc (.int .u8) (L[i]:Int)):=by simp [h]
theorem xJ {L:List Nat} {i x:Nat}:(⟨bh L⟩:Array Value).setIfInBounds i (.int .u8 (x:Int))=⟨bh (L.set i x)⟩:=by
 apply Array.ext'
 rw [Array.toList_setIfInBounds]
 show (bh L).set i _=bh (L.set i x)
 unfold bh
 rw [List.map_set]
theorem GQ {K:Array Value→World→Prop} (h:Hp E w F) (hK: ∀w',Hp E w' F→K ⟨bh (List.range 256)⟩ w'):Cl Tryz.prog [.arr 256] oZ ⟨[]⟩ w K:=by
 refine EN.ok _ _ ?_
 refine Nw.mk h fun b2 w h=>Nw.mk h fun b4 w h=> ?_
 have hlen: ∀k,k≤256→(bh (List.range k++List.replicate (256 - k) 0)).length=256:=fun k hk=>by simp;omega
 refine ⟨fun i w'=> ∃k:Nat,i=(k:Int)∧k≤256∧Hp E w' (bL b4 (List.range k++List.replicate (256 - k) 0)::af b2 (.cells ⟨List.replicate 256 (.int .u8 0)⟩ 110 (0,0))::F),fun i _=>256 - i.toNat,⟨0,rfl,by omega,by
  have:(⟨bh (List.range 0++List.replicate (256 - 0) 0)⟩:Array Value)=⟨List.replicate 256 (.int .u8 0)⟩:=by simp
  unfold bL
  rw [this];exact h⟩,?_⟩
 rintro i w ⟨k,rfl,hk,h⟩
 refine aa.dm (fun hlt=> ?_) (fun hge=> ?_)
 ·refine ⟨by omega,by omega,?_⟩
  rw [show ((k:Int)).toNat*1=k by omega]
  (try simp only [aq,aj,ak,Nat.zero_add,Nat.add_zero,Nat.reduceAdd,Bool.not_true,Bool.not_false,az,ay,Option.isNone])
  have hk:=hlen k (by omega)
  rw [dE (by omega),ae (by omega)]
  refine St.xb h (by simp;omega) rfl fun w h=> ?_
  refine ⟨⟨k+1,rfl,by omega,?_⟩,by first|omega|(dsimp only;omega)⟩
  rw [xJ] at h
  have e:(List.range k++List.replicate (256 - k) 0).set k k=List.range (k+1)++List.replicate (256 - (k+1)) 0:=by
   rw [List.set_append_right _ _ (by simp),List.length_range,Nat.sub_self]
   obtain ⟨m,hm⟩: ∃m,256 - k=m+1:=⟨255 - k,by omega⟩
   rw [hm,List.replicate_succ,List.set_cons_zero,List.range_succ,show 256 - (k+1)=m by omega]
   simp
  rw [e] at h
  exact h
 ·have hk2:k=256:=by omega
  subst hk2
  have e:List.range 256++List.replicate (256 - 256) 0=List.range 256:=by rw [Nat.sub_self,List.replicate_zero,List.append_nil]
  rw [e] at h
  have hn:(⟨bh (List.range 256)⟩:Array Value).size=256:=by simp
  refine Ld.xw h hn (ax.q (b:=b2) h wQ hn bX fun w h=>Ld.xw h hn (hK _ h.tl))
theorem Dk {L:List Nat} {K:Bool→World→Prop} (h:Hp E w F) (hL:a5 L) (hK: ∀w',Hp E w' F→K true w'):Cl Tryz.prog [kB] ma ⟨[.agg ⟨bh L⟩]⟩ w K:=by
 refine BA.ok _ _ _ ?_
 have hl:=hL.len
 refine Nw.mk h fun b3 w h=> ?_
 refine ⟨fun i w=> ∃k:Nat,i=(k:Int)∧k≤256∧Hp E w (bL b3 L::F),fun i _=>256 - i.toNat,⟨0,rfl,by omega,h⟩,?_⟩
 rintro i w ⟨k,rfl,hk,h⟩
 refine aa.dm (fun hlt=> ?_) (fun hge=>hK _ h.tl)
 refine ⟨fun i w=> ∃j:Nat,i=(j:Int)∧j≤k∧Hp E w (bL b3 L::F),fun i _=>k - i.toNat,⟨0,rfl,by omega,h⟩,?_⟩
 rintro i w ⟨j,rfl,hj,h⟩
 have hkl:k<L.length:=by omega
 have hjl:j<L.length:=by omega
 refine aa.dm (fun hlt2=> ?_) (fun hge2=> ?_)
 ·refine aJ.mk h fun w h=>⟨by omega,by omega,?_⟩
  rw [show ((j:Int)).toNat*1=j by omega]
  (try simp only [aq,aj,ak,Nat.zero_add,Nat.add_zero,Nat.reduceAdd,Bool.not_true,Bool.not_false,az,ay,Option.isNone])
  refine Ld.xb (x:=(L[j]:Int)) h (ta hjl) ⟨by omega,by omega,?_⟩
  rw [show ((k:Int)).toNat*1=k by omega]
  (try simp only [aq,aj,ak,Nat.zero_add,Nat.add_zero,Nat.reduceAdd,Bool.not_true,Bool.not_false,az,ay,Option.isNone])
  refine Ld.xb (x:=(L[k]:Int)) h (ta hkl) ?_
  have hne:L[j]≠L[k]:=fun e=>by
   have h1:=hL.lH (p:=j) (by omega)
   have h2:=hL.lH (p:=k) (by omega)
   rw [cI hjl,e] at h1
   rw [cI hkl] at h2
   omega
  refine aa.ef (by omega) ?_
  rw [ae (by omega)]
  exact ⟨⟨j+1,rfl,by omega,h⟩,by first|omega|(dsimp only;omega)⟩
 ·rw [ae (by omega)]
  exact ⟨⟨k+1,rfl,by omega,h⟩,by first|omega|(dsimp only;omega)⟩
def ot (L:List Nat) (p i:Nat):List Nat:=L.take (i+1)++((L.take p).drop i++L.drop (p+1))
theorem JU {L:List Nat} {p:Nat} (hp:p<L.length):ot L p p=L:=by
 unfold ot
 rw [List.drop_of_length_le (by simp;omega),List.nil_append,List.take_append_drop]
theorem J1 {L:List Nat} {p i:Nat} (hp:p<L.length) (hi:i≤p):(ot L p i).length=L.length:=by
 unfold ot
 simp;omega
theorem IW {L:List Nat} {p i j:Nat} (hi:i≤p) (hj:j≤i) (hp:p<L.length):(ot L p i)[j]? =L[j]? :=by
 unfold ot
 rw [List.getElem?_append_left (by simp;omega),List.getElem?_take_of_lt (by omega)]
theorem G9 {L:List Nat} {p i:Nat} (hp:p<L.length) (hi:i+1≤p):(ot L p (i+1)).set (i+1) (L[i]'(by omega))=ot L p i:=by
 have h1:L.take (i+1+1)=L.take (i+1)++ [L[i+1]'(by omega)]:=by rw [List.take_add_one,List.getElem?_eq_getElem (by omega)];rfl
 have hl:(L.take (i+1)).length=i+1:=by rw [List.length_take];omega
 have h2:(L.take p).drop i=L[i]'(by omega)::(L.take p).drop (i+1):=by
  rw [List.drop_eq_getElem_cons (by simp;omega),List.getElem_take]
 unfold ot
 rw [h1,h2,List.append_assoc,List.set_append_right _ _ (by omega),hl,Nat.sub_self]
 simp
theorem Jx {L:List Nat} {p:Nat} (hp:p<L.length):(ot L p 0).set 0 (L.getD p 0)=bQ L p:=by
 unfold ot bQ
 rw [List.drop_zero,List.eraseIdx_eq_take_drop_succ]
 cases L with
 |nil=>simp at hp
 |cons a L=>simp
theorem Fa {L:List Nat} {p:Nat} {K:Array Value→Int→Bool→World→Prop} (h:Hp E w F) (hl:L.length=256) (hp:p<256) (hK: ∀w',Hp E w' F→K ⟨bh (bQ L p)⟩ (L.getD p 0:Int) true w'):
  Cl Tryz.prog [.arr 256,ar .u8,kB] n6 ⟨[.agg ⟨bh L⟩,.int .i64 (p:Int)]⟩ w K:=by
 refine Df.ok _ _ _ _ ?_
 have hpl:p<L.length:=by omega
 refine Nw.mk h fun b4 w h=>Nw.mk h fun b6 w h=>aa.df (by omega) (aa.df (by omega) ⟨by omega,by omega,?_⟩)
 rw [show ((p:Int)).toNat*1=p by omega]
 (try simp only [aq,aj,ak,Nat.zero_add,Nat.add_zero,Nat.reduceAdd,Bool.not_true,Bool.not_false,az,ay,Option.isNone])
 have hgp:L.getD p 0=L[p]:=cI hpl
 refine Ld.xb (x:=(L.getD p 0:Int)) h (by rw [hgp];exact ta hpl) ?_
 refine ⟨fun i w=> ∃k:Nat,i=(k:Int)∧k≤p∧Hp E w (af b6 (.cells ⟨List.replicate 256 (.int .u8 0)⟩ 110 (0,0))::bL b4 (ot L p k)::F),fun i _=>i.toNat,⟨p,rfl,by omega,by rw [JU hpl];exact h⟩,?_⟩
 rintro i w ⟨k,rfl,hk,h⟩
 have hsl:=J1 hpl hk
 refine aa.dm (fun hlt=> ?_) (fun hge=> ?_)
 ·obtain ⟨j,rfl⟩: ∃j,k=j+1:=⟨k - 1,by omega⟩
  rw [ae (by omega)]
  refine ⟨by omega,by omega,?_⟩
  rw [show (((j+1:Nat):Int) - 1).toNat*1=j by omega]
  (try simp only [aq,aj,ak,Nat.zero_add,Nat.add_zero,Nat.reduceAdd,Bool.not_true,Bool.not_false,az,ay,Option.isNone])
  have hg:=IW (L:=L) (p:=p) (i:=j+1) (j:=j) hk (by omega) hpl
  refine Ld.xb (x:=(L[j]:Int)) h ?_ ⟨by omega,by omega,?_⟩
  ·show (bh (ot L p (j+1)))[j]? =_
   unfold bh
   rw [List.getElem?_map,hg,List.getElem?_eq_getElem (by omega)];rfl
  rw [show (((j+1:Nat):Int)).toNat*1=j+1 by omega]
  (try simp only [aq,aj,ak,Nat.zero_add,Nat.add_zero,Nat.reduceAdd,Bool.not_true,Bool.not_false,az,ay,Option.isNone])
  refine St.xb (b:=b4) h (by simp;omega) rfl fun w h=> ?_
  rw [xJ,G9 hpl hk] at h
  exact ⟨⟨j,by omega,by omega,h⟩,by first|omega|(dsimp only;omega)⟩
 ·have hk0:k=0:=by omega
  subst hk0
  refine ⟨by decide,by decide,?_⟩
  (try simp only [aq,aj,ak,Nat.zero_add,Nat.add_zero,Nat.reduceAdd,Bool.not_true,Bool.not_false,az,ay,Option.isNone])
  refine St.xb (b:=b4) h (by simp;omega) rfl fun w h=> ?_
  have h:Hp E w (af b6 (.cells ⟨List.replicate 256 (.int .u8 0)⟩ 110 (0,0))::af b4 (.cells ((⟨bh (ot L p 0)⟩:Array Value).setIfInBounds 0 (.int .u8 (L.getD p 0:Int))) 110 (0,0))::F):=h
  rw [xJ,Jx hpl] at h
  have hm:(⟨bh (bQ L p)⟩:Array Value).size=256:=IK (by rw [(vU hpl).length_eq,hl])
  refine Ld.xw h hm (ax.q (b:=b6) h wQ hm bX fun w h=>Ld.xw h hm (hK _ h.tl))
theorem AR {L:List Nat} {c:Nat} {K:Array Value→Int→World→Prop} (h:Hp E w F) (hL:a5 L) (hc:c<256) (hK: ∀w',Hp E w' F→K ⟨bh (bQ L (L.idxOf c))⟩ (L.idxOf c:Int) w'):
  Cl Tryz.prog [.arr 256,kI] lk ⟨[.agg ⟨bh L⟩,.int .u8 (c:Int)]⟩ w K:=by
 refine F4.ok _ _ _ _ ?_
 have hl:=hL.len
 have hi:=hL.idx hc
 have hn:=IK hl
 have hm:=IK (hL.take hi.1).len
 refine Nw.mk h fun b4 w h=>Nw.mk h fun b6 w h=> ?_
 refine ⟨fun i w=> ∃k:Nat,i=(k:Int)∧k≤L.idxOf c∧Hp E w (af b6 (.cells ⟨List.replicate 256 (.int .u8 0)⟩ 110 (0,0))::bL b4 L::F),fun i _=>256 - i.toNat,⟨0,rfl,by omega,h⟩,?_⟩
 rintro i w ⟨k,rfl,hk,h⟩
 have hkl:k<L.length:=by omega
 refine aa.dt (by omega) ⟨by omega,by omega,?_⟩
 rw [show ((k:Int)).toNat*1=k by omega]
 (try simp only [aq,aj,ak,Nat.zero_add,Nat.add_zero,Nat.reduceAdd,Bool.not_true,Bool.not_false,az,ay,Option.isNone])
 refine Ld.xb (b:=b4) (x:=(L[k]:Int)) h (ta hkl) ?_
 have hat:=hL.lH (p:=k) (by omega)
 rw [cI hkl] at hat
 by_cases he:L[k]=c
 ·rw [he] at hat
  subst hat
  refine aa.et (by omega) (Ld.xw (b:=b4) h hn (Fa h hl hi.1 fun w h=>Nw.mk h fun b19 w h=> ?_))
  refine ax.q h wQ hm bX fun w h=>Ld.xw h hm (ax.q (b:=b6) h wQ hm bX fun w h=>Ld.xw h hm (hK _ h.tl))
 ·refine aa.ef (by omega) ?_
  rw [ae (by omega)]
  have hne:k≠L.idxOf c:=fun e=>by
   have h2:=hi.2
   rw [←e,cI hkl] at h2
   exact he h2
  exact ⟨⟨k+1,rfl,by omega,h⟩,by first|omega|(dsimp only;omega)⟩
theorem Gp {n:Nat} {K:Sl→World→Prop} (h:Hp E w F) (hn:n≤1000000) (hK: ∀s w',Hp E w' (OI s (cf n)::F)→K s w'):Cl Tryz.prog [kS] gv ⟨[.int .i64 (n:Int)]⟩ w K:=by
 refine EJ.ok _ _ _ ?_
 have hl:=jZ n
 refine ⟨fun m o w=> ∃(q:Nat) (l:List Nat),m=(q:Int)∧q≤2147483647∧cf n=l++cf q∧Hp E w (OI o l::F),fun m _ _=>m.toNat,⟨n,[],rfl,by omega,rfl,h.a9 1⟩,?_⟩
 rintro m o w ⟨q,l,rfl,hq,hd,h⟩
 have hll:l.length≤1000000:=by rw [hd,List.length_append] at hl;omega
 refine aa.dm (fun hpos=> ?_) (fun hz=> ?_)
 ·have hq0:0<q:=by omega
  rw [mZ hq0] at hd
  rw [show (2:Int)=((2:Nat):Int) from rfl,wu]
  refine ⟨by decide,?_⟩
  refine aa.em (fun h1=> ?_) (fun h1=> ?_)
  ·refine Nw.mk h fun b w h=>vv (x:=0) h (by omega) fun s' w h=>⟨by decide,?_⟩
   rw [ae (x:=(q:Int) - 1) (by omega),show (q:Int) - 1=((q - 1:Nat):Int) by omega,wg,ae (by omega)]
   refine ⟨⟨(q - 1)/2,l++ [0],rfl,by omega,?_,h⟩,by first|omega|(dsimp only;omega)⟩
   rw [hd,show (q - 1) % 2=0 by omega];simp
  ·refine Nw.mk h fun b w h=>vv (x:=1) h (by omega) fun s' w h=>⟨by decide,?_⟩
   rw [show ((2:Nat):Int)=2 from rfl,ae (x:=(q:Int) - 2) (by omega),show (q:Int) - 2=((q - 2:Nat):Int) by omega,show (2:Int)=((2:Nat):Int) from rfl,wg,ae (by omega)]
   refine ⟨⟨(q - 2)/2,l++ [1],rfl,by omega,?_,h⟩,by first|omega|(dsimp only;omega)⟩
   rw [hd,show (q - 1) % 2=1 by omega,show (q - 1)/2=(q - 2)/2 by omega];simp
 ·have hq0:q=0:=by omega
  subst hq0
  rw [nO,List.append_nil] at hd
  rw [hd] at hK
  exact hK _ _ h
theorem I1 {K:Array Value→World→Prop} (h:Hp E w F) (hK: ∀w',Hp E w' F→K (ec (List.range 256) 0) w'):Cl Tryz.prog [.arr 257] oT ⟨[]⟩ w K:=by
 refine Fe.ok _ _ ?_
 refine Nw.mk h fun b2 w h=>GQ h fun w h=>rl.es (by simp) ?_
 have hd:(ec (List.range 256) 0).size=257:=fk (by simp)
 refine ax.q h wN hd iC fun w h=> ?_
 exact Ld.xw h hd (hK _ h.tl)
theorem xX {L:List Nat} {r:Nat} {K:Bool→World→Prop} (h:Hp E w F) (hL:a5 L) (hr:r≤2147483647) (hK: ∀w',Hp E w' F→K true w'):Cl Tryz.prog [kB] jl ⟨[.agg (ec L (r:Int))]⟩ w K:=by
 refine BT.ok _ _ _ ?_
 have hLb:=gq hL.len
 (try simp only [aq,aj,ak,Nat.zero_add,Nat.add_zero,Nat.reduceAdd,Bool.not_true,Bool.not_false,az,ay,Option.isNone])
 refine Nw.mk h fun b3 w h=>Ld.p h hLb (Dk h hL fun w h=> ?_)
 refine aa.t rfl (Ld.q h hLb rfl rfl (aa.dt (by omega) (Ld.q h hLb rfl rfl ?_)))
 rw [show decide ((r:Int)≤2147483647)=true from decide_eq_true (by omega)]
 exact hK _ h.tl
theorem JD {L:List Nat} {r:Nat} {K:Sl→Int→World→Prop} (h:Hp E w F) (hL:a5 L) (hr:r≤1000000) (hK: ∀s' w',Hp E w' (OI s' (cf r++ [257])::F)→K s' 0 w'):Cl Tryz.prog [kS,kI] pn ⟨[.agg (ec L (r:Int))]⟩ w K:=by
 refine Fw.ok _ _ _ ?_
 have hLb:=gq hL.len
 have hdl:=jZ r
 (try simp only [aq,aj,ak,Nat.zero_add,Nat.add_zero,Nat.reduceAdd,Bool.not_true,Bool.not_false,az,ay,Option.isNone])
 refine Nw.mk h fun b3 w h=>Ld.qw h hLb rfl (xX h hL (by omega) fun w h=> ?_)
 with_reducible refine aa.Ik ?_
 refine Ld.q h hLb rfl rfl (Gp h hr fun s1 w h=>Nw.mk h fun b12 w h=>vv (x:=257) h (by omega) fun s w h=>hK s w ?_)
 exact h.dv
theorem Gt {L:List Nat} {r:Nat} {s:Sl} {b:List Nat} {K:Array Value→Sl→Int→World→Prop} (h:Hp E w F) (hL:a5 L) (hs:ad F (aD 1 s (b.map vB))) (hb: ∀x∈b,x<256) (hr:r+b.length≤1000000)
  (hK: ∀s' w',Hp E w' (OI s' (bg L r b).1::F)→a5 (bg L r b).2.1→(bg L r b).2.2≤1000000→K (ec (bg L r b).2.1 ((bg L r b).2.2:Int)) s' 0 w'):
  Cl Tryz.prog [.arr 257,kS,kI] oa ⟨[.agg (ec L (r:Int)),.slice s.base s.len s.cap]⟩ w K:=by
 refine DW.ok _ _ _ _ ?_
 have hLb:=gq hL.len
 have hlen:=wA (h.ah hs)
 (try simp only [aq,aj,ak,Nat.zero_add,Nat.add_zero,Nat.reduceAdd,Bool.not_true,Bool.not_false,az,ay,Option.isNone])
 refine Nw.mk h fun b4 w h=>Nw.mk h fun b6 w h=> ?_
 refine Ld.qw h hLb rfl (xX h hL (by omega) fun w h=> ?_)
 with_reducible refine aa.Ik ?_
 refine Ld.q h hLb rfl rfl ?_
 rw [ae (by omega)]
 refine aa.df (by omega) ?_
 refine ⟨fun o i w=> ∃(k:Nat) (L':List Nat) (r':Nat) (out:List Nat),i=(k:Int)∧k≤b.length∧a5 L'∧out.length+r'≤r+k∧
  bg L r b=(out++(bg L' r' (b.drop k)).1,(bg L' r' (b.drop k)).2)∧
  Hp E w (OI o out::af b6 (.cells yG 273 (0,0))::af b4 (.cells (ec L' (r':Int)) 273 (0,0))::F),
  fun _ i _=>b.length - i.toNat,⟨0,L,r,[],rfl,by omega,hL,by simp,by simp,h.a9 1⟩,?_⟩
 rintro o i w ⟨k,L',r',out,rfl,hk,hL',hlo,he,h⟩
 have hLb':=gq hL'.len
 refine aa.dm (fun hlt=> ?_) (fun hge=> ?_)
 ·have hlt:k<b.length:=by omega
  have hc:=hb _ (List.getElem_mem hlt)
  have hi:=hL'.idx hc
  have hm:=IK (hL'.take hi.1).len
  have hLm:=hL'.take hi.1
  have hLbm:=gq hLm.len
  have hdl:=jZ r'
  rw [List.drop_eq_getElem_cons hlt] at he
  have rest: ∀(b33:Nat) (w:World) (G:Sl→Int→World→Prop),(∀o' k' w',k'=((k+1:Nat):Int)→(∃(L':List Nat) (r':Nat) (out:List Nat),a5 L'∧out.length+r'≤r+(k+1)∧bg L r b=(out++(bg L' r' (b.drop (k+1))).1,(bg L' r' (b.drop (k+1))).2)∧
    Hp E w' (OI o' out::af b6 (.cells yG 273 (0,0))::af b4 (.cells (ec L' (r':Int)) 273 (0,0))::F))→G o' k' w')→
    Hp E w (af b33 (.cells ⟨bh (bQ L' (L'.idxOf b[k]))⟩ 110 (0,0))::OI o out::af b6 (.cells yG 273 (0,0))::af b4 (.cells (ec L' (r':Int)) 273 (0,0))::F)→
    Ld (.arr 256) ⟨b33,0,none⟩ w fun x35=>ax 256 ⟨b4,0,none⟩ x35 w fun w_36=>
     aa ((L'.idxOf b[k]:Int)==0)
      (Ld kI ⟨b4,256,none⟩ w_36 fun Run37=>St ⟨b4,256,none⟩ (.int .i64 (i64 (Run37+1))) w_36 fun w_38=>G o (i64 ((k:Int)+1)) w_38)
      (Ld kI ⟨b4,256,none⟩ w_36 fun Run39=>Cl Tryz.prog [kS] gv ⟨[.int .i64 Run39]⟩ w_36 fun r41 w_40=>
       au Tryz.prog (Builtin.append_ #[142,142] 142 ⟨[.slice o.base o.len o.cap,.slice r41.base r41.len r41.cap]⟩) kS w_40 fun s43 w_42=>
       Nw 3 ⟨[.int .i64 (i64 ((L'.idxOf b[k]:Int)+1))]⟩ w_42 fun b45 w_44=>
       au Tryz.prog (Builtin.append_ #[142,142] 142 ⟨[.slice s43.base s43.len s43.cap,.slice (some ⟨b45,0,none⟩) 1 1]⟩) kS w_44 fun s47 w_46=>
       St ⟨b4,256,none⟩ (.int .i64 0) w_46 fun w_48=>G s47 (i64 ((k:Int)+1)) w_48):=by
   intro b33 w G hG h
   rw [ae (x:=(k:Int)+1) (by omega)]
   refine Ld.xw h hm ?_
   refine ax.xm (b:=b4) (pre:= []) (aL:=bh L') (post:= [.int .i64 (r':Int)]) h rfl rfl hLb' hm (fun v hv=>List.all_eq_true.1 bX v hv) fun w h=> ?_
   have h:Hp E w (af b33 (.cells ⟨bh (bQ L' (L'.idxOf b[k]))⟩ 110 (0,0))::OI o out::af b6 (.cells yG 273 (0,0))::af b4 (.cells (ec (bQ L' (L'.idxOf b[k])) (r':Int)) 273 (0,0))::F):=h
   have h:=h.no 0
   by_cases h0:L'.idxOf b[k]=0
   ·rw [bg,if_pos h0] at he
    rw [h0] at h hLm hLbm⊢
    refine aa.et rfl (Ld.q h hLbm rfl rfl ?_)
    rw [ae (by omega)]
    refine St.q h hLbm rfl rfl rfl fun w h=> ?_
    dsimp only [bN,aI] at h
    rw [show (r':Int)+1=((r'+1:Nat):Int) by omega] at h
    exact hG _ _ _ (by omega) ⟨_,r'+1,out,hLm,by omega,he,h⟩
   ·rw [bg,if_neg h0] at he
    refine aa.ef (by omega) (Ld.q h hLbm rfl rfl (Gp h (by omega) fun s1 w h=> ?_))
    refine C8 (h.at 1) ad.own (by omega) (by omega) fun s2 w h=>Nw.mk (h.no 1) fun b40 w h=> ?_
    rw [ae (by omega),show (L'.idxOf b[k]:Int)+1=((L'.idxOf b[k]+1:Nat):Int) by omega] at h
    refine vv h (by rw [List.length_append];omega) fun s3 w h=> ?_
    refine St.q (b:=b4) h hLbm rfl rfl rfl fun w h=> ?_
    dsimp only [bN,aI] at h
    refine hG _ _ _ (by omega) ⟨_,0,out++cf r'++ [L'.idxOf b[k]+1],hLm,?_,?_,h⟩
    ·rw [List.length_append,List.length_append,List.length_singleton];omega
    ·rw [he];simp
  have hG: ∀o' k' w',k'=((k+1:Nat):Int)→(∃(L':List Nat) (r':Nat) (out:List Nat),a5 L'∧out.length+r'≤r+(k+1)∧bg L r b=(out++(bg L' r' (b.drop (k+1))).1,(bg L' r' (b.drop (k+1))).2)∧
    Hp E w' (OI o' out::af b6 (.cells yG 273 (0,0))::af b4 (.cells (ec L' (r':Int)) 273 (0,0))::F))→
    (∃(k:Nat) (L':List Nat) (r':Nat) (out:List Nat),k'=(k:Int)∧k≤b.length∧a5 L'∧out.length+r'≤r+k∧bg L r b=(out++(bg L' r' (b.drop k)).1,(bg L' r' (b.drop k)).2)∧
    Hp E w' (OI o' out::af b6 (.cells yG 273 (0,0))::af b4 (.cells (ec L' (r':Int)) 273 (0,0))::F))∧b.length - k'.toNat<b.length - ((k:Int)).toNat:=by
   rintro o' k' w' rfl ⟨L2,r2,out2,h1,h2,h3,h4⟩
   exact ⟨⟨k+1,L2,r2,out2,rfl,by omega,h1,h2,h3,h4⟩,by omega⟩
  have h:=h.drew (n:=w.drawn+1)
  have hSl: ∀{w:World} {l:List HP} [lC l F],Hp E w l→aD 1 s (b.map vB) w:=fun h=>(h.tl:Hp E _ F).ah hs
  refine ⟨fun w=>di b4 (ec L' (r':Int)) 273 (0,0) w∧aD 1 s (b.map vB) w,⟨h.hb,hSl h⟩,?_⟩
  refine aG.p (fun _ h=>h.1) hLb' ?_
  refine an.LJ (sc:= .int .u8) (hSl h) (fun _ h=>h.2) rfl (by rw [List.length_map];exact hlt) (b[k]:Int) (by simp [Sc.enc,vB,hlt]) ⟨?_,?_⟩
  ·refine AR h hL' hc fun w h=>⟨⟨h.hb,hSl h⟩,Nw.mk h fun b33 w h=>⟨⟨h.hb,hSl h⟩,?_⟩⟩
   refine ax.q h wQ hm bX fun w h=>⟨⟨h.hb,hSl h⟩,?_⟩
   exact rest b33 w _ hG h
  ·refine Nw.mk h fun b33 w h=>⟨⟨h.hb,hSl h⟩,AR h hL' hc fun w h=>⟨⟨h.hb,hSl h⟩,?_⟩⟩
   refine ax.q h wQ hm bX fun w h=>⟨⟨h.hb,hSl h⟩,?_⟩
   exact rest b33 w _ hG h
 ·have hk2:k=b.length:=by omega
  subst hk2
  rw [List.drop_of_length_le (Nat.le_refl _),bg,List.append_nil] at he
  rw [he] at hK
  dsimp only at hK
  refine Ld.qw h hLb' rfl ?_
  refine ax.q h wN (fk hL'.len) iC fun w h=>Ld.xw h (fk hL'.len) (hK o w h.dv hL' (by omega))
theorem ub: ∀(b L:List Nat) (r:Nat),(bg L r b).1.length+(bg L r b).2.2≤r+b.length
 | [],L,r=>by simp [bg]
 |c::b,L,r=>by
  rw [bg]
  split
  ·have:=ub b (bQ L 0) (r+1)
   simp only [List.length_cons];omega
  ·have:=ub b (bQ L (L.idxOf c)) 0
   have:=jZ r
   simp only [List.length_append,List.length_cons];omega
theorem I3 {s:Sl} {b:List Nat} {K:Sl→World→Prop} (h:Hp E w F) (hs:ad F (aD 1 s (b.map vB))) (hb: ∀x∈b,x<256) (hr:b.length≤1000000) (hK: ∀s' w',Hp E w' (OI s' (syms b)::F)→K s' w'):
  Cl Tryz.prog [kS] pd ⟨[.slice s.base s.len s.cap]⟩ w K:=by
 refine EU.ok _ _ _ ?_
 refine I1 h fun w h=>Gt (r:=0) h a5.range hs hb (by rw [Nat.zero_add];exact hr) fun s1 w h hL2 hr2=>Nw.mk h fun b9 w h=> ?_
 refine ax.q h wN (fk hL2.len) iC fun w h=>Ld.xw h (fk hL2.len) ?_
 have e0:=ub b (List.range 256) 0
 have hdl:=jZ (bg (List.range 256) 0 b).2.2
 refine JD h hL2 hr2 fun s2 w h=> ?_
 refine C8 (h.at 2) ad.own (by omega) (by rw [List.length_append,List.length_singleton];omega) fun s3 w h=>hK s3 w ?_
 rw [show syms b=(bg (List.range 256) 0 b).1++(cf (bg (List.range 256) 0 b).2.2++ [257]) by unfold syms cF;simp]
 exact h.dv
end
end Go.Proofs.YtgglghjnakclmaaGreat
namespace Go.Proofs.YtgglghjnakclmaaGreat
open Go Go.Vc
set_option maxRecDepth 100000
theorem GU.ok (a:(Array Value)) (R:Sl→Int→World→Prop) w (h:
 Nw 104 a w fun c b=>
 Ld (.arr 258) ⟨c,0,none⟩ b fun d=>
 Cl Pg [kB] l8 ⟨[(.agg d)]⟩ b fun (f:Bool) e=>
 aa (!f)
 (R (⟨none,0,0⟩:Sl) 2 e)
 (Ld (.arr 258) ⟨c,0,none⟩ e fun g=>
 aw ⟨c,0,none⟩ 258 0 1 fun h=>
 Ld (ar .u8) h e fun (i:Int)=>
 Cl Pg [kS] n4 ⟨[(.agg g),(ni (i64 i))]⟩ e fun (k:Sl) j=>
 R k 0 j)):Cl Pg [kS,kI] qX ⟨[(.agg a)]⟩ w R:=co Tryz.f127 [] h
theorem Ed.ok (a:(Array Value)) (b:Int) (R:Sl→World→Prop) w (h:
 Nw 104 a w fun d c=>
 (8:Int)≠0∧
 (2:Int)≠0∧
 (4:Int)≠0∧
 (2:Int)≠0∧
 (2:Int)≠0∧
 (2:Int)≠0∧
 (2:Int)≠0∧
 Nw 3 ⟨[(ni (Int.tmod (i64 (Int.tdiv b (8:Int))) (2:Int))),(ni (Int.tmod (i64 (Int.tdiv b (4:Int))) (2:Int))),(ni (Int.tmod (i64 (Int.tdiv b (2:Int))) (2:Int))),(ni (Int.tmod b (2:Int)))]⟩ c fun f e=>
 F2 b (⟨some ⟨f,0,none⟩,4,4⟩:Sl) 0 e fun g h (i:Int) (j:Sl) (k:Int) l=>
 aa (decide (k<258))
 (aw ⟨d,0,none⟩ 258 k 1 fun m=>
 Ld (ar .u8) m l fun (n:Int)=>
 Cl Pg [kS] ph ⟨[(ni i),(ni (i64 n))]⟩ l fun (p:Sl) o=>
 au Pg (Builtin.append_ #[142,142] 142 ⟨[(ag j),(ag p)]⟩) kS o fun (r:Sl) q=>
 aw ⟨d,0,none⟩ 258 k 1 fun s=>
 Ld (ar .u8) s q fun (t:Int)=>
 g (i64 t) r (i64 (k+1)) q∧h (i64 t) r (i64 (k+1)) q<h i j k l)
 (R j l)):Cl Pg [kS] n4 ⟨[(.agg a),(ni b)]⟩ w R:=co Tryz.f183 [(7,[(1,kI),(5,kS),(6,kI)])] h
theorem Ev.ok (a:Int) (b:Int) (R:Sl→World→Prop) w (h:
 bq a (⟨none,0,0⟩:Sl) w fun c d (e:Int) (f:Sl) g=>
 aa (decide (e<b))
 (Nw 3 ⟨[(ni 1),(ni 0)]⟩ g fun i h=>
 au Pg (Builtin.append_ #[142,142] 142 ⟨[(ag f),(ag (⟨some ⟨i,0,none⟩,2,2⟩:Sl))]⟩) kS h fun (k:Sl) j=>
 c (i64 (e+1)) k j∧d (i64 (e+1)) k j<d e f g)
 (bq e f g fun l m (n:Int) (o:Sl) p=>
 aa (decide (n>b))
 (Nw 3 ⟨[(ni 1),(ni 1)]⟩ p fun r q=>
 au Pg (Builtin.append_ #[142,142] 142 ⟨[(ag o),(ag (⟨some ⟨r,0,none⟩,2,2⟩:Sl))]⟩) kS q fun (t:Sl) s=>
 l (i64 (n - 1)) t s∧m (i64 (n - 1)) t s<m n o p)
 (Nw 3 ⟨[(ni 0)]⟩ p fun v u=>
 au Pg (Builtin.append_ #[142,142] 142 ⟨[(ag o),(ag (⟨some ⟨v,0,none⟩,1,1⟩:Sl))]⟩) kS u fun (y:Sl) x=>
 R y x))):Cl Pg [kS] ph ⟨[(ni a),(ni b)]⟩ w R:=co Tryz.f247 [(5,[(0,kI),(5,kS)]),(13,[(0,kI),(5,kS)])] h
end Go.Proofs.YtgglghjnakclmaaGreat
namespace Go.Proofs.YtgglghjnakclmaaGreat
open Go Go.Vc
set_option maxRecDepth 100000
theorem BZ.ok (a:(Array Value)) (R:Bool→World→Prop) w (h:
 Nw 104 a w fun c b=>
 Ld (.arr 258) ⟨c,0,none⟩ b fun d=>
 Cl Pg [kI] oR ⟨[(.agg d)]⟩ b fun (f:Int) e=>
 aa (f==32768)
 (aw ⟨c,0,none⟩ 258 257 1 fun g=>
 Ld (ar .u8) g e fun (h:Int)=>
 R (h !=0) e)
 (R false e)):Cl Pg [kB] l8 ⟨[(.agg a)]⟩ w R:=co Tryz.f182 [] h
theorem EW.ok (a:(Array Value)) (R:Int→World→Prop) w (h:
 Nw 104 a w fun c b=>
 bq 0 0 b fun d e (f:Int) (g:Int) h=>
 aa (decide (g<258))
 (aw ⟨c,0,none⟩ 258 g 1 fun i=>
 Ld (ar .u8) i h fun (j:Int)=>
 Cl Pg [kI] l7 ⟨[(.int .u8 j)]⟩ h fun (l:Int) k=>
 d (i64 (f+l)) (i64 (g+1)) k∧e (i64 (f+l)) (i64 (g+1)) k<e f g h)
 (R f h)):Cl Pg [kI] oR ⟨[(.agg a)]⟩ w R:=co Tryz.f246 [(7,[(3,kI),(4,kI)])] h
theorem Bz.ok (a:Int) (R:Int→World→Prop) w (h:
 aa (a==0)
 (R 0 w)
 (aa (decide (a>15))
 (R 32769 w)
 (bq 32768 0 w fun b c (d:Int) (e:Int) f=>
 aa (decide (e<a))
 ((2:Int)≠0∧
 b (i64 (Int.tdiv d (2:Int))) (u8 (e+1)) f∧c (i64 (Int.tdiv d (2:Int))) (u8 (e+1)) f<c d e f)
 (R d f)))):Cl Pg [kI] l7 ⟨[(.int .u8 a)]⟩ w R:=co Tryz.f295 [(17,[(3,kI),(4,(ar .u8))])] h
end Go.Proofs.YtgglghjnakclmaaGreat
set_option maxRecDepth 20000
namespace Go.Proofs.YtgglghjnakclmaaGreat
open Go Go.Vc Go.Srt
section
variable {E w:World} {F:List HP}
theorem G5 {n:Nat} {K:Int→World→Prop} (hn:n≤255) (hK:K (wt n:Int) w):Cl Tryz.prog [kI] l7 ⟨[.int .u8 (n:Int)]⟩ w K:=by
 refine Bz.ok _ _ _ ?_
 unfold wt at hK
 refine aa.mk (fun h=> ?_) (fun h=>aa.mk (fun h2=> ?_) (fun h2=> ?_))
 ·have h:n=0:=by have:=of_decide_eq_true h;omega
  rw [if_pos h] at hK;exact hK
 ·have h:n≠0:=by have:=of_decide_eq_false h;omega
  have h2:n>15:=by have:=of_decide_eq_true h2;omega
  rw [if_neg h,if_pos h2] at hK;exact hK
 ·have h:n≠0:=by have:=of_decide_eq_false h;omega
  have h2: ¬n>15:=by have:=of_decide_eq_false h2;omega
  rw [if_neg h,if_neg h2] at hK
  refine ⟨fun v i w'=> ∃k v':Nat,i=(k:Int)∧k≤n∧v=(v':Int)∧v'=2^(15 - k)∧w'=w,fun _ i _=>15 - i.toNat,⟨0,32768,rfl,by omega,rfl,by decide,rfl⟩,?_⟩
  rintro v i w' ⟨k,v',rfl,hk,rfl,hv,rfl⟩
  refine aa.mk (fun hlt=> ?_) (fun hge=> ?_)
  ·have hlt:k<n:=by have:=of_decide_eq_true hlt;omega
   have e:2^(15 - k)=2*2^(15 - (k+1)):=by rw [show 15 - k=(15 - (k+1))+1 by omega,Nat.pow_succ,Nat.mul_comm]
   have hb:2^(15 - (k+1))≤2^15:=Nat.pow_le_pow_right (by decide) (by omega)
   have hb2:(2:Nat)^15=32768:=by decide
   have e2:Int.tdiv (v':Int) 2=((2^(15 - (k+1)):Nat):Int):=by
    rw [Int.tdiv_eq_ediv_of_nonneg (by omega),hv,e];omega
   rw [e2,ae (by omega),dE (by omega)]
   exact ⟨by decide,⟨k+1,_,rfl,by omega,rfl,rfl,rfl⟩,by dsimp only;omega⟩
  ·have hge:k=n:=by have:=of_decide_eq_false hge;omega
   subst hge;rw [hv];exact hK
set_option maxRecDepth 20000 in
theorem Jp {l:List Nat} {K:Int→World→Prop} (h:Hp E w F) (hl:l.length=258) (h8: ∀x∈l,x≤255) (hK: ∀w',Hp E w' F→K (aN l:Int) w'):Cl Tryz.prog [kI] oR ⟨[.agg (ai .u8 l)]⟩ w K:=by
 refine EW.ok _ _ _ ?_
 have hb:=sP l
 refine Nw.mk h fun b w1 h1=>⟨fun sm i w'=> ∃k:Nat,i=(k:Int)∧k≤258∧sm=(aN (l.take k):Int)∧Hp E w' (af b (.cells (ai .u8 l) 104 (0,0))::F),fun _ i _=>258 - i.toNat,⟨0,rfl,by omega,by simp [aN],h1⟩,?_⟩
 rintro sm i w' ⟨k,rfl,hk,rfl,hh⟩
 refine aa.mk (fun hlt=> ?_) (fun hge=> ?_)
 ·have hlt:k<258:=by have:=of_decide_eq_true hlt;omega
  have hkl:k<l.length:=by omega
  refine aw.rd (s:= .int .u8) hh (by omega) (by omega) (l[k]:Int) (by rw [Int.toNat_natCast];exact ez hkl) (G5 (h8 _ (List.getElem_mem hkl)) ?_)
  have e:=lB hkl
  have:=oM (l:=l) (k:=k+1)
  rw [ae (x:=(aN (l.take k):Int)+(wt l[k]:Int)) (by omega),ae (by omega)]
  exact ⟨⟨k+1,rfl,by omega,by rw [e];rfl,hh⟩,by dsimp only;omega⟩
 ·have hge:k=258:=by have:=of_decide_eq_false hge;omega
  subst hge
  rw [←hl,List.take_length]
  exact hK _ hh.drop
theorem Gx {l:List Nat} {K:Bool→World→Prop} (h:Hp E w F) (hl:l.length=258) (h8: ∀x∈l,x≤255) (hK: ∀w',Hp E w' F→K (gG l) w'):Cl Tryz.prog [kB] l8 ⟨[.agg (ai .u8 l)]⟩ w K:=by
 refine BZ.ok _ _ _ ?_
 refine Nw.mk h fun b w1 h1=>Ld.arr h1 (by rw [av,hl]) (Jp h1 hl h8 fun w2 h2=> ?_)
 have e:((aN l:Int)==32768)=decide (aN l=32768):=by rw [Bool.eq_iff_iff];simp;omega
 rw [e]
 refine aa.mk (fun hv=> ?_) (fun hv=> ?_)
 ·refine aw.rd (s:= .int .u8) h2 (by decide) (by decide) (l.getD 257 0:Int) (kR (i:=257) (by omega)) ?_
  have:((l.getD 257 0:Int) !=0)=gG l:=by
   unfold gG;rw [hv,Bool.true_and,Bool.eq_iff_iff,bne_iff_ne,decide_eq_true_eq];omega
  rw [this]
  exact hK _ h2.drop
 ·have:false=gG l:=by unfold gG;rw [hv,Bool.false_and]
  rw [this]
  exact hK _ h2.drop
end
end Go.Proofs.YtgglghjnakclmaaGreat
